/-
  This text proves what these texts prove: Cb, Cc, Cd, Ce, Ga, MaP, Ta, Gb. Conditions: those of each theorem.
-/
import Derived.Test.YtdhmihfefgcbeaaGreatU11
import Derived.Test.YtdhmihfefgcbeaaGreatU08
import Derived.Test.YtdhmihfefgcbeaaGreatU06
set_option maxHeartbeats 8000000
namespace Go.Proofs.YtdhmihfefgcbeaaGreat
open Go.Vg Go.RowKit
set_option maxRecDepth 200000
set_option cbv.maxSteps 100000000
def curA(k:Nat):Nat:=if rowAL k=0 then primeN k-3 else rowA k
def ccells(k:Nat)(p a b n gx gy th:Nat->Nat)(bits size:Nat)(leg:Bool)(l:Nat):List SV:=
 [.int .i64 (.ofNat k)]++ws p 9++ws a 9++ws b 9++ws n 9++ws gx 9++ws gy 9++[.bool false,.int .i64 (.ofNat bits),.int .i64 (.ofNat size),.bool leg,.ptr l 0]++ws th 9
structure Cv(k:Nat)(p a b n gx gy th:Nat->Nat)(bits size:Nat):Prop where
 wp:Wn 9 p
 wa:Wn 9 a
 wb:Wn 9 b
 wn:Wn 9 n
 wx:Wn 9 gx
 wy:Wn 9 gy
 wt:Wn 9 th
 vp:V 9 p=primeN k
 va:V 9 a=curA k
 vb:V 9 b=rowB k
 vn:V 9 n=rowN k
 vx:V 9 gx=rowX k
 vy:V 9 gy=rowY k
 vt:V 9 th=(rowB k+rowB k+rowB k)%primeN k
 bits:IsBl (rowN k) bits
 size:∃pb,IsBl (primeN k) pb/\size=(pb+7)/8
theorem row_num(k:Nat)(h:1<=k/\k<=15):rowA k<16^rowAL k/\rowB k<16^rowBL k/\rowN k<16^rowNL k/\rowX k<16^rowXL k/\rowY k<16^rowYL k/\rowAL k<=144/\rowBL k<=144/\rowNL k<=144/\rowXL k<=144/\rowYL k<=144/\rowB k<primeN k/\3<=primeN k:=by
 obtain⟨h1,h2⟩:=h
 have:k=1\/k=2\/k=3\/k=4\/k=5\/k=6\/k=7\/k=8\/k=9\/k=10\/k=11\/k=12\/k=13\/k=14\/k=15:=by omega
 rcases this with rfl|rfl|rfl|rfl|rfl|rfl|rfl|rfl|rfl|rfl|rfl|rfl|rfl|rfl|rfl<;>decide +kernel
theorem row_minus(k:Nat)(h:1<=k/\k<=15):strCmp .eql (rowAS k) ⟨⟨[45,51]⟩⟩=decide (rowAL k=0):=by
 obtain⟨h1,h2⟩:=h
 show((rowAS k).toList==(ByteArray.mk ⟨[45,51]⟩).toList)=_
 rw[ByteArray.toList_eq,ByteArray.toList_eq]
 have:k=1\/k=2\/k=3\/k=4\/k=5\/k=6\/k=7\/k=8\/k=9\/k=10\/k=11\/k=12\/k=13\/k=14\/k=15:=by omega
 rcases this with rfl|rfl|rfl|rfl|rfl|rfl|rfl|rfl|rfl|rfl|rfl|rfl|rfl|rfl|rfl<;>decide +kernel
theorem bl_le{x k n:Nat}(h:IsBl x k)(hx:x<2^n):k<=n:=Nat.le_of_not_lt fun h2=>by
 have h3:=h.2 (by omega)
 have h4:=Nat.pow_le_pow_right (show 0<2 by decide) (show n<=k-1 by omega)
 omega
theorem lt_nine{x l:Nat}(h:x<16^l)(hl:l<=144):x<0x10000000000000000^9:=
 Nat.lt_of_lt_of_le h (Nat.le_trans (Nat.pow_le_pow_right (by decide) hl) (Nat.le_of_eq (by decide)))
theorem cOpenL{P:Program}(hP:P=Tryz.prog)(k:Nat)(hk:1<=k/\k<=15)(leg:Bool)(hleg:leg=(decide (k=1)||decide (k=7))):
 ∃p d m s a b n gx gy th bits size,Cv k p a b n gx gy th bits size/\Dv p d m s/\Con P 39 [.int .i64 (.ofNat k)] [] 0 [] (fun v L q=>v= .ptr 3 0/\(∃sa sb sn sx sy,L=[⟨0,fcells p 1,120⟩,⟨1,dcells d m s,215⟩,⟨2,[.str sa,.str sb,.str sn,.str sx,.str sy],110⟩,⟨3,ccells k p a b n gx gy th bits size leg 0,115⟩])/\q=4):=by
 obtain⟨p,d,m,s,hp,hpV,hD,hF⟩:=cFOf hP k hk
 obtain⟨r1,r2,r3,r4,r5,l1,l2,l3,l4,l5,hbp,hp3⟩:=row_num k hk
 obtain⟨n,hn,hnV⟩:=exV 9 _ (lt_nine r3 l3)
 obtain⟨b,hb,hbV⟩:=exV 9 _ (lt_nine r2 l2)
 obtain⟨gx,hx,hxV⟩:=exV 9 _ (lt_nine r4 l4)
 obtain⟨gy,hy,hyV⟩:=exV 9 _ (lt_nine r5 l5)
 have hpB:primeN k<0x10000000000000000^9:=by rw[<-hpV];exact V_lt hp
 have haB:curA k<0x10000000000000000^9:=by
  unfold curA
  split
  ·exact Nat.lt_of_le_of_lt (Nat.sub_le _ _) hpB
  ·exact lt_nine r1 l1
 obtain⟨a,ha,haV⟩:=exV 9 (curA k) haB
 clear haB
 have hp0:0<primeN k:=by omega
 obtain⟨b2,hb2,hb2V⟩:=exV 9 ((V 9 b+V 9 b)%V 9 p) (Nat.lt_trans (Nat.mod_lt _ (by rw[hpV];exact hp0)) (V_lt hp))
 obtain⟨th,ht,htV⟩:=exV 9 ((V 9 b2+V 9 b)%V 9 p) (Nat.lt_trans (Nat.mod_lt _ (by rw[hpV];exact hp0)) (V_lt hp))
 obtain⟨bits,hbits⟩:=bl_ex (V 9 n)
 obtain⟨pb,hpb⟩:=bl_ex (V 9 p)
 obtain⟨size,hsize⟩:=exq ((pb+7)/8)
 refine⟨p,d,m,s,a,b,n,gx,gy,th,bits,size,⟨hp,ha,hb,hn,hx,hy,ht,hpV,haV,hbV,hnV,hxV,hyV,?_,by rw[<-hnV];exact hbits,pb,by rw[<-hpV];exact hpb,hsize⟩,hD,?_⟩
 ·rw[htV,hb2V,hbV,hpV,Nat.add_mod,Nat.mod_mod,<-Nat.add_mod]
 obtain⟨sa,hsa⟩:=exq (rowAS k)
 obtain⟨sb,hsb⟩:=exq (hexS (rowB k) (rowBL k))
 obtain⟨sn,hsn⟩:=exq (hexS (rowN k) (rowNL k))
 obtain⟨sx,hsx⟩:=exq (hexS (rowX k) (rowXL k))
 obtain⟨sy,hsy⟩:=exq (hexS (rowY k) (rowYL k))
 have hR:=cRows hP k hk sa sb sn sx sy hsa hsb hsn hsx hsy
 have hHb:=cHexS hP (rowB k) (rowBL k) l2 b hb (by rw[hbV,Nat.mod_eq_of_lt r2])
 have hHn:=cHexS hP (rowN k) (rowNL k) l3 n hn (by rw[hnV,Nat.mod_eq_of_lt r3])
 have hHx:=cHexS hP (rowX k) (rowXL k) l4 gx hx (by rw[hxV,Nat.mod_eq_of_lt r4])
 have hHy:=cHexS hP (rowY k) (rowYL k) l5 gy hy (by rw[hyV,Nat.mod_eq_of_lt r5])
 rw[<-hsb]at hHb
 rw[<-hsn]at hHn
 rw[<-hsx]at hHx
 rw[<-hsy]at hHy
 have hB1:=cBits hP n hn bits hbits
 have hB2:=cBits hP p hp pb hpb
 have hbM:V 9 b<V 9 p:=by rw[hbV,hpV];exact hbp
 have hpb576:pb<=576:=bl_le hpb (Nat.lt_of_lt_of_le (V_lt hp) (Nat.le_of_eq (W9 (b:=576) rfl)))
 have hA1:=cFAdd hP p b b b2 hp hb hb hb2 hbM hbM hb2V
 have hA2:=cFAdd hP p b2 b th hp hb2 hb ht (by rw[hb2V];exact Nat.mod_lt _ (by rw[hpV];exact hp0)) hbM htV
 clear hsb hsn hsx hsy hbits hD hpB hb2V htV hbM
 refine cof hP Tryz.func39 (bdb _ rfl) (bkb rfl) ?_
 intro A g K hA hg hK
 obtain⟨bin,_,cmp,_,_,_,_,_,_,_,_,scmp⟩:=A
 cbv
 refine cgn rfl hg rfl rfl hF id rfl trivial rfl rfl rfl ?_
 rintro _ _ _ ⟨rfl,rfl,rfl⟩ _
 cbv
 refine cva rfl hg rfl rfl hR ?_
 rintro _ _ _ rfl
 cbv
 refine rgM hP hA hg fun mk _=> ?_
 cbv
 refine stepD (en_val rfl hg rfl rfl hHb (fun _ _ _ h=>h) (by simp[bd,bdL,ws,lst])) ?_
 cbv
 refine stepD (en_val rfl hg rfl rfl hHn (fun _ _ _ h=>h) (by simp[bd,bdL,ws,lst])) ?_
 cbv
 have hmin:scmp .eql sa ⟨⟨[45,51]⟩⟩=decide (rowAL k=0):=by
  have e:scmp=Ar.real.scmp:=congrArg Ar.scmp hA
  rw[e,hsa]
  exact row_minus k hk
 have g7:bin .add .i64 (.ofNat pb) 7=Int.ofNat (pb+7):=addI hA (b:=7) (by omega)
 have g8:bin .quo .i64 (.ofNat (pb+7)) 8=Int.ofNat size:=(quoI hA (a:=pb+7) (b:=8) (by omega)).trans (by rw[hsize])
 generalize pb+7=pb7 at g7 g8
 rw[hmin]
 by_cases h0:rowAL k=0
 ·rw[decide_eq_true h0]
  obtain⟨t3,ht3⟩:=exq (fun j=>if j=0 then 3 else 0:Nat->Nat)
  have w3:Wn 9 t3:=fun j _=>by rw[ht3];show(if j=0 then 3 else 0)<_;split<;>decide
  have v3:V 9 t3=3:=by rw[ht3];rfl
  have hS3:=cSmall hP 3 (by decide) t3 ht3
  have hpB:V 9 p<0x10000000000000000^9:=V_lt hp
  have hSb:=cSub hP p t3 a hp w3 ha false (by
   rw[haV,v3,curA,if_pos h0,<-hpV]
   generalize (0x10000000000000000^9:Nat)=B at hpB
   rw[show V 9 p+B-3=(V 9 p-3)+B by omega,Nat.add_mod_right,Nat.mod_eq_of_lt (by omega)]) (decide_eq_false (by rw[v3];omega)).symm
  clear hpB
  cbv
  refine rgM hP hA hg fun mk _=> ?_
  cbv
  refine stepD (en_val rfl hg rfl rfl hS3 (fun _ _ _ h=>h) (by simp[bd,bdL,ws,lst])) ?_
  cbv
  refine stepD (en_val rfl hg rfl rfl hSb (fun _ _ _ h=>h) (by simp[bd,bdL,ws,lst])) ?_
  cbv
  refine rgM hP hA hg fun mk _=> ?_
  cbv
  refine stepD (en_val rfl hg rfl rfl hHx (fun _ _ _ h=>h) (by simp[bd,bdL,ws,lst])) ?_
  cbv
  refine stepD (en_val rfl hg rfl rfl hHy (fun _ _ _ h=>h) (by simp[bd,bdL,ws,lst])) ?_
  cbv
  refine rgM hP hA hg fun mk _=> ?_
  cbv
  refine sdv hg hB1 ?_
  cbv
  refine sdv hg hB2 ?_
  cbv
  rw[g7]
  cbv
  rw[g8]
  cbv
  by_cases hk1:k=1
  ·obtain rfl:leg=true:=by rw[hleg,decide_eq_true hk1];rfl
   rw[show cmp .eql (.ofNat k) 1=true from eql_t hA (b:=1) hk1]
   cbv
   refine rgM hP hA hg fun mk _=> ?_
   cbv
   refine stepD (enr rfl hg rfl rfl hA1 id rfl ⟨rfl,trivial⟩ (fun _ _ _ h=>h) (by simp[bd,bdL,ws,lst])) ?_
   cbv
   refine stepD (enr rfl hg rfl rfl hA2 id rfl ⟨rfl,trivial⟩ (fun _ _ _ h=>h) (by simp[bd,bdL,ws,lst])) ?_
   cbv
   exact hK _ _ _ ⟨rfl,⟨sa,sb,sn,sx,sy,rfl⟩,rfl⟩
  ·rw[show cmp .eql (.ofNat k) 1=false from eql_f hA (b:=1) hk1]
   cbv
   rw[show cmp .eql (.ofNat k) 7=leg from(eqlI hA k 7).trans (by rw[hleg,decide_eq_false hk1];rfl)]
   cbv
   refine rgM hP hA hg fun mk _=> ?_
   cbv
   refine stepD (enr rfl hg rfl rfl hA1 id rfl ⟨rfl,trivial⟩ (fun _ _ _ h=>h) (by simp[bd,bdL,ws,lst])) ?_
   cbv
   refine stepD (enr rfl hg rfl rfl hA2 id rfl ⟨rfl,trivial⟩ (fun _ _ _ h=>h) (by simp[bd,bdL,ws,lst])) ?_
   cbv
   exact hK _ _ _ ⟨rfl,⟨sa,sb,sn,sx,sy,rfl⟩,rfl⟩
 ·rw[decide_eq_false h0]
  have hHa:=cHexS hP (rowA k) (rowAL k) l1 a ha (by rw[haV,curA,if_neg h0,Nat.mod_eq_of_lt r1])
  rw[show hexS (rowA k) (rowAL k)=sa by rw[hsa,rowAS,if_neg h0]]at hHa
  cbv
  refine cva rfl hg rfl rfl hHa ?_
  rintro _ _ _ rfl
  cbv
  refine rgM hP hA hg fun mk _=> ?_
  cbv
  refine stepD (en_val rfl hg rfl rfl hHx (fun _ _ _ h=>h) (by simp[bd,bdL,ws,lst])) ?_
  cbv
  refine stepD (en_val rfl hg rfl rfl hHy (fun _ _ _ h=>h) (by simp[bd,bdL,ws,lst])) ?_
  cbv
  refine rgM hP hA hg fun mk _=> ?_
  cbv
  refine sdv hg hB1 ?_
  cbv
  refine sdv hg hB2 ?_
  cbv
  rw[g7]
  cbv
  rw[g8]
  cbv
  by_cases hk1:k=1
  ·obtain rfl:leg=true:=by rw[hleg,decide_eq_true hk1];rfl
   rw[show cmp .eql (.ofNat k) 1=true from eql_t hA (b:=1) hk1]
   cbv
   refine rgM hP hA hg fun mk _=> ?_
   cbv
   refine stepD (enr rfl hg rfl rfl hA1 id rfl ⟨rfl,trivial⟩ (fun _ _ _ h=>h) (by simp[bd,bdL,ws,lst])) ?_
   cbv
   refine stepD (enr rfl hg rfl rfl hA2 id rfl ⟨rfl,trivial⟩ (fun _ _ _ h=>h) (by simp[bd,bdL,ws,lst])) ?_
   cbv
   exact hK _ _ _ ⟨rfl,⟨sa,sb,sn,sx,sy,rfl⟩,rfl⟩
  ·rw[show cmp .eql (.ofNat k) 1=false from eql_f hA (b:=1) hk1]
   cbv
   rw[show cmp .eql (.ofNat k) 7=leg from(eqlI hA k 7).trans (by rw[hleg,decide_eq_false hk1];rfl)]
   cbv
   refine rgM hP hA hg fun mk _=> ?_
   cbv
   refine stepD (enr rfl hg rfl rfl hA1 id rfl ⟨rfl,trivial⟩ (fun _ _ _ h=>h) (by simp[bd,bdL,ws,lst])) ?_
   cbv
   refine stepD (enr rfl hg rfl rfl hA2 id rfl ⟨rfl,trivial⟩ (fun _ _ _ h=>h) (by simp[bd,bdL,ws,lst])) ?_
   cbv
   exact hK _ _ _ ⟨rfl,⟨sa,sb,sn,sx,sy,rfl⟩,rfl⟩
theorem cOpen{P:Program}(hP:P=Tryz.prog)(k:Nat)(hk:1<=k/\k<=15)(leg:Bool)(hleg:leg=(decide (k=1)||decide (k=7))):
 ∃p d m s a b n gx gy th bits size,Cv k p a b n gx gy th bits size/\Dv p d m s/\Con P 39 [.int .i64 (.ofNat k)] [] 0 [] (fun v L q=>v= .ptr 0 0/\L=[⟨0,ccells k p a b n gx gy th bits size leg 1,115⟩,⟨1,fcells p 2,120⟩,⟨2,dcells d m s,215⟩]/\q=3):=by
 obtain⟨p,d,m,s,a,b,n,gx,gy,th,bits,size,h1,h2,h3⟩:=cOpenL hP k hk leg hleg
 refine⟨p,d,m,s,a,b,n,gx,gy,th,bits,size,h1,h2,h3.weak fun v L q h=>⟨fun l=>if l=0 then 3 else l-1,.ptr 0 0,[⟨0,ccells k p a b n gx gy th bits size leg 1,115⟩,⟨1,fcells p 2,120⟩,⟨2,dcells d m s,215⟩],3,?_,rfl,rfl,rfl⟩⟩
 obtain⟨rfl,⟨sa,sb,sn,sx,sy,rfl⟩,rfl⟩:=h
 exact wkr ⟨rfl,rfl,trivial⟩ ⟨rfl,rfl,rfl,rfl,rfl,rfl,rfl,rfl,rfl,rfl,rfl,rfl,trivial⟩ rfl rfl rfl
theorem cOpen0{P:Program}(hP:P=Tryz.prog)(x:Int)(hx:primeB x=⟨⟨[]⟩⟩):Con P 39 [.int .i64 x] [] 0 [] (fun v _ _=>v= .nilp):=by
 have hF:=cFOf0 hP x hx
 refine cof hP Tryz.func39 (bdb _ rfl) (bkb rfl) ?_
 intro A g K hA hg hK
 cases A
 cbv
 refine cva rfl hg rfl rfl hF ?_
 rintro _ _ _ rfl
 cbv
 exact hK _ _ _ rfl
theorem cBytes{P:Program}(hP:P=Tryz.prog)(k:Nat)(p a b n gx gy th:Nat->Nat)(bits size:Nat)(leg:Bool)(hb:bits<2^32)(r:Nat)(hr:r=(bits+7)/8):
 Con P 76 [.ptr 0 0] [⟨0,ccells k p a b n gx gy th bits size leg 1,115⟩] 2 [] (fun v _ _=>v= .int .i64 (.ofNat r)):=by
 refine cof hP Tryz.func76 (bdb _ rfl) (bkb rfl) ?_
 intro A g K hA hg hK
 obtain⟨bin⟩:=A
 have g7:bin .add .i64 (.ofNat bits) 7=Int.ofNat (bits+7):=addI hA (b:=7) (by omega)
 have g8:bin .quo .i64 (.ofNat (bits+7)) 8=Int.ofNat r:=(quoI hA (a:=bits+7) (b:=8) (by omega)).trans (by rw[hr])
 generalize bits+7=b7 at g7 g8
 cbv
 rw[g7]
 rw[g8]
 cbv
 exact hK _ _ _ rfl
theorem cNone{P:Program}(hP:P=Tryz.prog)(one:Nat->Nat)(h1:one=fun j=>if j=0 then 1 else 0):
 Con P 92 [] [] 0 [] (fun v _ _=>v= .agg (ws (fun _=>0) 9++ws one 9++ws (fun _=>0) 9)):=by
 have hS:=cSmall hP 1 (by decide) one h1
 clear h1
 refine cof hP Tryz.func92 (bdb _ rfl) (bkb rfl) ?_
 intro A g K hA hg hK
 cases A
 cbv
 refine cva rfl hg rfl rfl hS ?_
 rintro _ _ _ rfl
 cbv
 exact hK _ _ _ rfl
theorem cTriple{P:Program}(hP:P=Tryz.prog)(x y one:Nat->Nat)(inf:Bool)(h1:one=fun j=>if j=0 then 1 else 0)(X Y Z:Nat->Nat)(hX:X=if inf then(fun _=>0)else x)(hY:Y=if inf then one else y)(hZ:Z=if inf then(fun _=>0)else one):
 Con P 95 [.agg (ws x 9++ws y 9++[.bool inf])] [] 0 [] (fun v _ _=>v= .agg (ws X 9++ws Y 9++ws Z 9)):=by
 have hS:=cSmall hP 1 (by decide) one h1
 have hN:=cNone hP one h1
 clear h1
 refine cof hP Tryz.func95 (bdb _ rfl) (bkb rfl) ?_
 intro A g K hA hg hK
 cases A
 cases inf with
 |true=>
  rw[if_pos rfl]at hX hY hZ
  subst hX hY hZ
  cbv
  refine cva rfl hg rfl rfl hN ?_
  rintro _ _ _ rfl
  cbv
  exact hK _ _ _ rfl
 |false=>
  rw[if_neg (by decide)]at hX hY hZ
  subst hX hY hZ
  cbv
  refine rgM hP hA hg fun mk _=> ?_
  cbv
  refine stepD (en_val rfl hg rfl rfl hS (fun _ _ _ h=>h) (by simp[bd,bdL,ws,lst])) ?_
  cbv
  exact hK _ _ _ rfl
theorem cKey{P:Program}(hP:P=Tryz.prog)(k:Nat)(p a b n gx gy th d:Nat->Nat)(bits size:Nat)(leg:Bool)(hn:Wn 9 n)(hd:Wn 9 d)(r:Bool)(hr:r=(decide (V 9 d≠0)&&decide (V 9 d<V 9 n))):
 Con P 40 [.ptr 0 0,.agg (ws d 9)] [⟨0,ccells k p a b n gx gy th bits size leg 1,115⟩] 2 [] (fun v _ _=>v= .bool r):=by
 obtain⟨o,ho⟩:=exq (if V 9 d<V 9 n then -1 else if V 9 n<V 9 d then 1 else 0:Int)
 have hC:=cCmp hP d n hd hn o ho
 have hz:Wn 9 (fun _=>0):=fun _ _=>by show 0<_;decide
 refine cof hP Tryz.func40 (bdb _ rfl) (bkb rfl) ?_
 intro A g K hA hg hK
 obtain⟨_,_,cmp⟩:=A
 by_cases h0:V 9 d=0
 ·obtain rfl:r=false:=by rw[hr,decide_eq_false (fun h=>h h0)];rfl
  cbv
  refine reg_A (hP▸tblOk) hA hg (hP▸mixed) rfl rfl ?_
  cbv
  refine stepD (en_cmp_nat hP hg rfl (a:=d) (b:=fun _=>0) (r:=false) (Or.inl ⟨rfl,by rw[eq9_V hd hz,show V 9 (fun _=>0)=0 from rfl,decide_eq_true h0];rfl⟩) rfl rfl) ?_
  cbv
  exact hK _ _ _ rfl
 ·have hlt:(boolCmp .lss o 0)=r:=by
   rw[hr,decide_eq_true h0,Bool.true_and,ho]
   by_cases h1:V 9 d<V 9 n
   ·rw[if_pos h1,decide_eq_true h1];rfl
   ·rw[if_neg h1,decide_eq_false h1];split<;>rfl
  clear ho
  have hc:cmp .lss o 0=r:=(congrFun (congrFun (congrFun (cmp_of hA) .lss) o) 0).trans hlt
  cbv
  refine reg_A (hP▸tblOk) hA hg (hP▸mixed) rfl rfl ?_
  cbv
  refine stepD (en_cmp_nat hP hg rfl (a:=d) (b:=fun _=>0) (r:=true) (Or.inl ⟨rfl,by rw[eq9_V hd hz,show V 9 (fun _=>0)=0 from rfl,decide_eq_false h0];rfl⟩) rfl rfl) ?_
  cbv
  refine sdv hg hC ?_
  cbv
  rw[hc]
  exact hK _ _ _ rfl
theorem cPlain0{P:Program}(hP:P=Tryz.prog)(k:Nat)(p a b n gx gy th X Y Z d:Nat->Nat)(m s bits size:Nat)(leg:Bool)(hZ:Wn 9 Z)(h0:V 9 Z=0):
 Con P 96 [.ptr 0 0,.agg (ws X 9++ws Y 9++ws Z 9)] [⟨0,ccells k p a b n gx gy th bits size leg 1,115⟩,⟨1,fcells p 2,120⟩,⟨2,dcells d m s,215⟩] 3 [] (fun v _ _=>v= .agg (ws (fun _=>0) 9++ws (fun _=>0) 9++[.bool true])):=by
 have hz:Wn 9 (fun _=>0):=fun _ _=>by show 0<_;decide
 have he:true=eq9 Z (fun _=>0):=by rw[eq9_V hZ hz,show V 9 (fun _=>0)=0 from rfl,decide_eq_true h0]
 refine cof hP Tryz.func96 (bdb _ rfl) (bkb rfl) ?_
 intro A g K hA hg hK
 cases A
 cbv
 refine step_eq_nat hP rfl hg rfl (a:=Z) (b:=fun _=>0) he rfl rfl ?_
 cbv
 exact hK _ _ _ rfl
theorem cPlain{P:Program}(hP:P=Tryz.prog)(k:Nat)(p a b n gx gy th X Y Z d i x y:Nat->Nat)(m s bits size:Nat)(leg:Bool)(hD:Dv p d m s)(hp:Wn 9 p)(hp2:2<=V 9 p)(hX:Wn 9 X)(hY:Wn 9 Y)(hZ:Wn 9 Z)(h0:V 9 Z≠0)(hi:Wn 9 i)(h1:Nat.gcd (V 9 Z) (V 9 p)=1->V 9 i<V 9 p/\V 9 i*V 9 Z%V 9 p=1)(h2:Nat.gcd (V 9 Z) (V 9 p)≠1->V 9 i=0)
 (hx:Wn 9 x) (hy:Wn 9 y) (hxV:V 9 x=V 9 X*V 9 i%V 9 p) (hyV:V 9 y=V 9 Y*V 9 i%V 9 p):
 Con P 96 [.ptr 0 0,.agg (ws X 9++ws Y 9++ws Z 9)] [⟨0,ccells k p a b n gx gy th bits size leg 1,115⟩,⟨1,fcells p 2,120⟩,⟨2,dcells d m s,215⟩] 3 [] (fun v _ _=>v= .agg (ws x 9++ws y 9++[.bool false])):=by
 have hz:Wn 9 (fun _=>0):=fun _ _=>by show 0<_;decide
 have he:false=eq9 Z (fun _=>0):=by rw[eq9_V hZ hz,show V 9 (fun _=>0)=0 from rfl,decide_eq_false h0]
 have hI:=cFInv hP p Z i hp hZ hi hp2 h1 h2
 have hMx:=cFMul hP p d m s hD X i x hX hi hx hxV
 have hMy:=cFMul hP p d m s hD Y i y hY hi hy hyV
 refine cof hP Tryz.func96 (bdb _ rfl) (bkb rfl) ?_
 intro A g K hA hg hK
 cases A
 cbv
 refine step_eq_nat hP rfl hg rfl (a:=Z) (b:=fun _=>0) he rfl rfl ?_
 cbv
 refine reg_A (hP▸tblOk) hA hg (hP▸mixed) rfl rfl ?_
 cbv
 refine stepD (enr rfl hg rfl rfl hI (fun l=>l+1) rfl ⟨rfl,trivial⟩ (fun _ _ _ h=>h) (by simp[bd,bdL,ws,lst])) ?_
 cbv
 refine rgM hP hA hg fun mk _=> ?_
 cbv
 refine stepD (enr rfl hg rfl rfl hMx (fun l=>l+1) rfl ⟨rfl,rfl,trivial⟩ (fun _ _ _ h=>h) (by simp[bd,bdL,ws,lst])) ?_
 cbv
 refine stepD (enr rfl hg rfl rfl hMy (fun l=>l+1) rfl ⟨rfl,rfl,trivial⟩ (fun _ _ _ h=>h) (by simp[bd,bdL,ws,lst])) ?_
 cbv
 exact hK _ _ _ rfl
def fA(p a b:Nat):Nat:=(a+b)%p
def fS(p a b:Nat):Nat:=(a+p-b)%p
def fM(p a b:Nat):Nat:=a*b%p
def SumR(p X1 Y1 Z1 X2 Y2 Z2 a th X Y Z:Nat):Prop:=
 ∃r1 r2 r3 r4 r5 r6 r7 r8 r9 r10 r11 r12 r13 r14 r15 r16 r17 r18 r19 r20 r21 r22 r23 r24 r25 r26 r27 r28 r29 r30 r31 r32 r33 r34 r35 r36 r37 r38 r39 r40:Nat,r1=fM p X1 X2/\r2=fM p Y1 Y2/\r3=fM p Z1 Z2/\r4=fA p X1 Y1/\r5=fA p X2 Y2/\r6=fM p r4 r5/\r7=fA p r1 r2/\r8=fS p r6 r7/\r9=fA p X1 Z1/\r10=fA p X2 Z2/\r11=fM p r9 r10/\r12=fA p r1 r3/\r13=fS p r11 r12/\r14=fA p Y1 Z1/\r15=fA p Y2 Z2/\r16=fM p r14 r15/\r17=fA p r2 r3/\r18=fS p r16 r17/\r19=fM p th r3/\r20=fM p a r13/\r21=fA p r19 r20/\r22=fS p r2 r21/\r23=fA p r2 r21/\r24=fM p r22 r23/\r25=fA p r1 r1/\r26=fA p r25 r1/\r27=fM p a r3/\r28=fM p th r13/\r29=fA p r26 r27/\r30=fS p r1 r27/\r31=fM p a r30/\r32=fA p r28 r31/\r33=fM p r29 r32/\r34=fA p r24 r33/\r35=fM p r8 r22/\r36=fM p r18 r32/\r37=fS p r35 r36/\r38=fM p r18 r23/\r39=fM p r8 r29/\r40=fA p r38 r39/\X=r37/\Y=r34/\Z=r40
theorem exf{p:Nat->Nat}(hp:Wn 9 p)(h0:0<V 9 p)(x:Nat):∃r,Wn 9 r/\V 9 r=x%V 9 p/\V 9 r<V 9 p:=by
 obtain⟨r,h1,h2⟩:=exV 9 (x%V 9 p) (Nat.lt_trans (Nat.mod_lt _ h0) (V_lt hp))
 exact⟨r,h1,h2,by rw[h2];exact Nat.mod_lt _ h0⟩
theorem cSum{P:Program}(hP:P=Tryz.prog)(k:Nat)(p a b n gx gy th X1 Y1 Z1 X2 Y2 Z2 d:Nat->Nat)(m s bits size:Nat)(leg:Bool)(hD:Dv p d m s)(hp:Wn 9 p)(wX1:Wn 9 X1)(lX1:V 9 X1<V 9 p)(wY1:Wn 9 Y1)(lY1:V 9 Y1<V 9 p)(wZ1:Wn 9 Z1)(lZ1:V 9 Z1<V 9 p)(wX2:Wn 9 X2)(lX2:V 9 X2<V 9 p)(wY2:Wn 9 Y2)(lY2:V 9 Y2<V 9 p)(wZ2:Wn 9 Z2)(lZ2:V 9 Z2<V 9 p)(wa:Wn 9 a)(la:V 9 a<V 9 p)(wth:Wn 9 th)(lth:V 9 th<V 9 p):
 ∃X Y Z,Wn 9 X/\Wn 9 Y/\Wn 9 Z/\V 9 X<V 9 p/\V 9 Y<V 9 p/\V 9 Z<V 9 p/\SumR (V 9 p) (V 9 X1) (V 9 Y1) (V 9 Z1) (V 9 X2) (V 9 Y2) (V 9 Z2) (V 9 a) (V 9 th) (V 9 X) (V 9 Y) (V 9 Z)/\
 Con P 93 [.ptr 0 0,.agg (ws X1 9++ws Y1 9++ws Z1 9),.agg (ws X2 9++ws Y2 9++ws Z2 9)] [⟨0,ccells k p a b n gx gy th bits size leg 1,115⟩,⟨1,fcells p 2,120⟩,⟨2,dcells d m s,215⟩] 3 [] (fun v _ _=>v= .agg (ws X 9++ws Y 9++ws Z 9)):=by
 have h0:0<V 9 p:=Nat.lt_of_le_of_lt (Nat.zero_le _) la
 obtain⟨r1,wr1,vr1,lr1⟩:=exf hp h0 (V 9 X1*V 9 X2)
 obtain⟨r2,wr2,vr2,lr2⟩:=exf hp h0 (V 9 Y1*V 9 Y2)
 obtain⟨r3,wr3,vr3,lr3⟩:=exf hp h0 (V 9 Z1*V 9 Z2)
 obtain⟨r4,wr4,vr4,lr4⟩:=exf hp h0 (V 9 X1+V 9 Y1)
 obtain⟨r5,wr5,vr5,lr5⟩:=exf hp h0 (V 9 X2+V 9 Y2)
 obtain⟨r6,wr6,vr6,lr6⟩:=exf hp h0 (V 9 r4*V 9 r5)
 obtain⟨r7,wr7,vr7,lr7⟩:=exf hp h0 (V 9 r1+V 9 r2)
 obtain⟨r8,wr8,vr8,lr8⟩:=exf hp h0 (V 9 r6+V 9 p-V 9 r7)
 obtain⟨r9,wr9,vr9,lr9⟩:=exf hp h0 (V 9 X1+V 9 Z1)
 obtain⟨r10,wr10,vr10,lr10⟩:=exf hp h0 (V 9 X2+V 9 Z2)
 obtain⟨r11,wr11,vr11,lr11⟩:=exf hp h0 (V 9 r9*V 9 r10)
 obtain⟨r12,wr12,vr12,lr12⟩:=exf hp h0 (V 9 r1+V 9 r3)
 obtain⟨r13,wr13,vr13,lr13⟩:=exf hp h0 (V 9 r11+V 9 p-V 9 r12)
 obtain⟨r14,wr14,vr14,lr14⟩:=exf hp h0 (V 9 Y1+V 9 Z1)
 obtain⟨r15,wr15,vr15,lr15⟩:=exf hp h0 (V 9 Y2+V 9 Z2)
 obtain⟨r16,wr16,vr16,lr16⟩:=exf hp h0 (V 9 r14*V 9 r15)
 obtain⟨r17,wr17,vr17,lr17⟩:=exf hp h0 (V 9 r2+V 9 r3)
 obtain⟨r18,wr18,vr18,lr18⟩:=exf hp h0 (V 9 r16+V 9 p-V 9 r17)
 obtain⟨r19,wr19,vr19,lr19⟩:=exf hp h0 (V 9 th*V 9 r3)
 obtain⟨r20,wr20,vr20,lr20⟩:=exf hp h0 (V 9 a*V 9 r13)
 obtain⟨r21,wr21,vr21,lr21⟩:=exf hp h0 (V 9 r19+V 9 r20)
 obtain⟨r22,wr22,vr22,lr22⟩:=exf hp h0 (V 9 r2+V 9 p-V 9 r21)
 obtain⟨r23,wr23,vr23,lr23⟩:=exf hp h0 (V 9 r2+V 9 r21)
 obtain⟨r24,wr24,vr24,lr24⟩:=exf hp h0 (V 9 r22*V 9 r23)
 obtain⟨r25,wr25,vr25,lr25⟩:=exf hp h0 (V 9 r1+V 9 r1)
 obtain⟨r26,wr26,vr26,lr26⟩:=exf hp h0 (V 9 r25+V 9 r1)
 obtain⟨r27,wr27,vr27,lr27⟩:=exf hp h0 (V 9 a*V 9 r3)
 obtain⟨r28,wr28,vr28,lr28⟩:=exf hp h0 (V 9 th*V 9 r13)
 obtain⟨r29,wr29,vr29,lr29⟩:=exf hp h0 (V 9 r26+V 9 r27)
 obtain⟨r30,wr30,vr30,lr30⟩:=exf hp h0 (V 9 r1+V 9 p-V 9 r27)
 obtain⟨r31,wr31,vr31,lr31⟩:=exf hp h0 (V 9 a*V 9 r30)
 obtain⟨r32,wr32,vr32,lr32⟩:=exf hp h0 (V 9 r28+V 9 r31)
 obtain⟨r33,wr33,vr33,lr33⟩:=exf hp h0 (V 9 r29*V 9 r32)
 obtain⟨r34,wr34,vr34,lr34⟩:=exf hp h0 (V 9 r24+V 9 r33)
 obtain⟨r35,wr35,vr35,lr35⟩:=exf hp h0 (V 9 r8*V 9 r22)
 obtain⟨r36,wr36,vr36,lr36⟩:=exf hp h0 (V 9 r18*V 9 r32)
 obtain⟨r37,wr37,vr37,lr37⟩:=exf hp h0 (V 9 r35+V 9 p-V 9 r36)
 obtain⟨r38,wr38,vr38,lr38⟩:=exf hp h0 (V 9 r18*V 9 r23)
 obtain⟨r39,wr39,vr39,lr39⟩:=exf hp h0 (V 9 r8*V 9 r29)
 obtain⟨r40,wr40,vr40,lr40⟩:=exf hp h0 (V 9 r38+V 9 r39)
 have cr1:=cFMul hP p d m s hD X1 X2 r1 wX1 wX2 wr1 vr1
 have cr2:=cFMul hP p d m s hD Y1 Y2 r2 wY1 wY2 wr2 vr2
 have cr3:=cFMul hP p d m s hD Z1 Z2 r3 wZ1 wZ2 wr3 vr3
 have cr4:=cFAdd hP p X1 Y1 r4 hp wX1 wY1 wr4 lX1 lY1 vr4
 have cr5:=cFAdd hP p X2 Y2 r5 hp wX2 wY2 wr5 lX2 lY2 vr5
 have cr6:=cFMul hP p d m s hD r4 r5 r6 wr4 wr5 wr6 vr6
 have cr7:=cFAdd hP p r1 r2 r7 hp wr1 wr2 wr7 lr1 lr2 vr7
 have cr8:=cFSub hP p r6 r7 r8 hp wr6 wr7 wr8 lr6 lr7 vr8
 have cr9:=cFAdd hP p X1 Z1 r9 hp wX1 wZ1 wr9 lX1 lZ1 vr9
 have cr10:=cFAdd hP p X2 Z2 r10 hp wX2 wZ2 wr10 lX2 lZ2 vr10
 have cr11:=cFMul hP p d m s hD r9 r10 r11 wr9 wr10 wr11 vr11
 have cr12:=cFAdd hP p r1 r3 r12 hp wr1 wr3 wr12 lr1 lr3 vr12
 have cr13:=cFSub hP p r11 r12 r13 hp wr11 wr12 wr13 lr11 lr12 vr13
 have cr14:=cFAdd hP p Y1 Z1 r14 hp wY1 wZ1 wr14 lY1 lZ1 vr14
 have cr15:=cFAdd hP p Y2 Z2 r15 hp wY2 wZ2 wr15 lY2 lZ2 vr15
 have cr16:=cFMul hP p d m s hD r14 r15 r16 wr14 wr15 wr16 vr16
 have cr17:=cFAdd hP p r2 r3 r17 hp wr2 wr3 wr17 lr2 lr3 vr17
 have cr18:=cFSub hP p r16 r17 r18 hp wr16 wr17 wr18 lr16 lr17 vr18
 have cr19:=cFMul hP p d m s hD th r3 r19 wth wr3 wr19 vr19
 have cr20:=cFMul hP p d m s hD a r13 r20 wa wr13 wr20 vr20
 have cr21:=cFAdd hP p r19 r20 r21 hp wr19 wr20 wr21 lr19 lr20 vr21
 have cr22:=cFSub hP p r2 r21 r22 hp wr2 wr21 wr22 lr2 lr21 vr22
 have cr23:=cFAdd hP p r2 r21 r23 hp wr2 wr21 wr23 lr2 lr21 vr23
 have cr24:=cFMul hP p d m s hD r22 r23 r24 wr22 wr23 wr24 vr24
 have cr25:=cFAdd hP p r1 r1 r25 hp wr1 wr1 wr25 lr1 lr1 vr25
 have cr26:=cFAdd hP p r25 r1 r26 hp wr25 wr1 wr26 lr25 lr1 vr26
 have cr27:=cFMul hP p d m s hD a r3 r27 wa wr3 wr27 vr27
 have cr28:=cFMul hP p d m s hD th r13 r28 wth wr13 wr28 vr28
 have cr29:=cFAdd hP p r26 r27 r29 hp wr26 wr27 wr29 lr26 lr27 vr29
 have cr30:=cFSub hP p r1 r27 r30 hp wr1 wr27 wr30 lr1 lr27 vr30
 have cr31:=cFMul hP p d m s hD a r30 r31 wa wr30 wr31 vr31
 have cr32:=cFAdd hP p r28 r31 r32 hp wr28 wr31 wr32 lr28 lr31 vr32
 have cr33:=cFMul hP p d m s hD r29 r32 r33 wr29 wr32 wr33 vr33
 have cr34:=cFAdd hP p r24 r33 r34 hp wr24 wr33 wr34 lr24 lr33 vr34
 have cr35:=cFMul hP p d m s hD r8 r22 r35 wr8 wr22 wr35 vr35
 have cr36:=cFMul hP p d m s hD r18 r32 r36 wr18 wr32 wr36 vr36
 have cr37:=cFSub hP p r35 r36 r37 hp wr35 wr36 wr37 lr35 lr36 vr37
 have cr38:=cFMul hP p d m s hD r18 r23 r38 wr18 wr23 wr38 vr38
 have cr39:=cFMul hP p d m s hD r8 r29 r39 wr8 wr29 wr39 vr39
 have cr40:=cFAdd hP p r38 r39 r40 hp wr38 wr39 wr40 lr38 lr39 vr40
 refine⟨r37,r34,r40,wr37,wr34,wr40,lr37,lr34,lr40,⟨V 9 r1,V 9 r2,V 9 r3,V 9 r4,V 9 r5,V 9 r6,V 9 r7,V 9 r8,V 9 r9,V 9 r10,V 9 r11,V 9 r12,V 9 r13,V 9 r14,V 9 r15,V 9 r16,V 9 r17,V 9 r18,V 9 r19,V 9 r20,V 9 r21,V 9 r22,V 9 r23,V 9 r24,V 9 r25,V 9 r26,V 9 r27,V 9 r28,V 9 r29,V 9 r30,V 9 r31,V 9 r32,V 9 r33,V 9 r34,V 9 r35,V 9 r36,V 9 r37,V 9 r38,V 9 r39,V 9 r40,vr1,vr2,vr3,vr4,vr5,vr6,vr7,vr8,vr9,vr10,vr11,vr12,vr13,vr14,vr15,vr16,vr17,vr18,vr19,vr20,vr21,vr22,vr23,vr24,vr25,vr26,vr27,vr28,vr29,vr30,vr31,vr32,vr33,vr34,vr35,vr36,vr37,vr38,vr39,vr40,rfl,rfl,rfl⟩,?_⟩
 clear vr1 lr1 wr1 vr2 lr2 wr2 vr3 lr3 wr3 vr4 lr4 wr4 vr5 lr5 wr5 vr6 lr6 wr6 vr7 lr7 wr7 vr8 lr8 wr8 vr9 lr9 wr9 vr10 lr10 wr10 vr11 lr11 wr11 vr12 lr12 wr12 vr13 lr13 wr13 vr14 lr14 wr14 vr15 lr15 wr15 vr16 lr16 wr16 vr17 lr17 wr17 vr18 lr18 wr18 vr19 lr19 wr19 vr20 lr20 wr20 vr21 lr21 wr21 vr22 lr22 wr22 vr23 lr23 wr23 vr24 lr24 wr24 vr25 lr25 wr25 vr26 lr26 wr26 vr27 lr27 wr27 vr28 lr28 wr28 vr29 lr29 wr29 vr30 lr30 wr30 vr31 lr31 wr31 vr32 lr32 wr32 vr33 lr33 wr33 vr34 lr34 wr34 vr35 lr35 wr35 vr36 lr36 wr36 vr37 lr37 wr37 vr38 lr38 wr38 vr39 lr39 wr39 vr40 lr40 wr40
 refine cof hP Tryz.func93 (bdb _ rfl) (bkb rfl) ?_
 intro A g K hA hg hK
 cases A
 cbv
 refine rgM hP hA hg fun mk _=> ?_
 cbv
 refine reg_A (hP▸tblOk) hA hg (hP▸mixed) rfl rfl ?_
 cbv
 refine stepD (enr rfl hg rfl rfl cr1 (fun l=>l+1) rfl ⟨rfl,rfl,trivial⟩ (fun _ _ _ h=>h) (by simp[bd,bdL,ws,lst])) ?_
 cbv
 refine stepD (enr rfl hg rfl rfl cr2 (fun l=>l+1) rfl ⟨rfl,rfl,trivial⟩ (fun _ _ _ h=>h) (by simp[bd,bdL,ws,lst])) ?_
 cbv
 refine stepD (enr rfl hg rfl rfl cr3 (fun l=>l+1) rfl ⟨rfl,rfl,trivial⟩ (fun _ _ _ h=>h) (by simp[bd,bdL,ws,lst])) ?_
 cbv
 refine reg_A (hP▸tblOk) hA hg (hP▸mixed) rfl rfl ?_
 cbv
 refine stepD (enr rfl hg rfl rfl cr4 (fun l=>l+1) rfl ⟨rfl,trivial⟩ (fun _ _ _ h=>h) (by simp[bd,bdL,ws,lst])) ?_
 cbv
 refine stepD (enr rfl hg rfl rfl cr5 (fun l=>l+1) rfl ⟨rfl,trivial⟩ (fun _ _ _ h=>h) (by simp[bd,bdL,ws,lst])) ?_
 cbv
 refine stepD (enr rfl hg rfl rfl cr6 (fun l=>l+1) rfl ⟨rfl,rfl,trivial⟩ (fun _ _ _ h=>h) (by simp[bd,bdL,ws,lst])) ?_
 cbv
 refine stepD (enr rfl hg rfl rfl cr7 (fun l=>l+1) rfl ⟨rfl,trivial⟩ (fun _ _ _ h=>h) (by simp[bd,bdL,ws,lst])) ?_
 cbv
 refine stepD (enr rfl hg rfl rfl cr8 (fun l=>l+1) rfl ⟨rfl,trivial⟩ (fun _ _ _ h=>h) (by simp[bd,bdL,ws,lst])) ?_
 cbv
 refine reg_A (hP▸tblOk) hA hg (hP▸mixed) rfl rfl ?_
 cbv
 refine stepD (enr rfl hg rfl rfl cr9 (fun l=>l+1) rfl ⟨rfl,trivial⟩ (fun _ _ _ h=>h) (by simp[bd,bdL,ws,lst])) ?_
 cbv
 refine stepD (enr rfl hg rfl rfl cr10 (fun l=>l+1) rfl ⟨rfl,trivial⟩ (fun _ _ _ h=>h) (by simp[bd,bdL,ws,lst])) ?_
 cbv
 refine stepD (enr rfl hg rfl rfl cr11 (fun l=>l+1) rfl ⟨rfl,rfl,trivial⟩ (fun _ _ _ h=>h) (by simp[bd,bdL,ws,lst])) ?_
 cbv
 refine stepD (enr rfl hg rfl rfl cr12 (fun l=>l+1) rfl ⟨rfl,trivial⟩ (fun _ _ _ h=>h) (by simp[bd,bdL,ws,lst])) ?_
 cbv
 refine stepD (enr rfl hg rfl rfl cr13 (fun l=>l+1) rfl ⟨rfl,trivial⟩ (fun _ _ _ h=>h) (by simp[bd,bdL,ws,lst])) ?_
 cbv
 refine reg_A (hP▸tblOk) hA hg (hP▸mixed) rfl rfl ?_
 cbv
 refine stepD (enr rfl hg rfl rfl cr14 (fun l=>l+1) rfl ⟨rfl,trivial⟩ (fun _ _ _ h=>h) (by simp[bd,bdL,ws,lst])) ?_
 cbv
 refine stepD (enr rfl hg rfl rfl cr15 (fun l=>l+1) rfl ⟨rfl,trivial⟩ (fun _ _ _ h=>h) (by simp[bd,bdL,ws,lst])) ?_
 cbv
 refine stepD (enr rfl hg rfl rfl cr16 (fun l=>l+1) rfl ⟨rfl,rfl,trivial⟩ (fun _ _ _ h=>h) (by simp[bd,bdL,ws,lst])) ?_
 cbv
 refine stepD (enr rfl hg rfl rfl cr17 (fun l=>l+1) rfl ⟨rfl,trivial⟩ (fun _ _ _ h=>h) (by simp[bd,bdL,ws,lst])) ?_
 cbv
 refine stepD (enr rfl hg rfl rfl cr18 (fun l=>l+1) rfl ⟨rfl,trivial⟩ (fun _ _ _ h=>h) (by simp[bd,bdL,ws,lst])) ?_
 cbv
 refine reg_A (hP▸tblOk) hA hg (hP▸mixed) rfl rfl ?_
 cbv
 refine stepD (enr rfl hg rfl rfl cr19 (fun l=>l+1) rfl ⟨rfl,rfl,trivial⟩ (fun _ _ _ h=>h) (by simp[bd,bdL,ws,lst])) ?_
 cbv
 refine stepD (enr rfl hg rfl rfl cr20 (fun l=>l+1) rfl ⟨rfl,rfl,trivial⟩ (fun _ _ _ h=>h) (by simp[bd,bdL,ws,lst])) ?_
 cbv
 refine stepD (enr rfl hg rfl rfl cr21 (fun l=>l+1) rfl ⟨rfl,trivial⟩ (fun _ _ _ h=>h) (by simp[bd,bdL,ws,lst])) ?_
 cbv
 refine cro rfl hg rfl rfl cr22 (fun l=>l+1) rfl ⟨rfl,trivial⟩ ?_
 rintro _ _ _ rfl
 cbv
 refine cro rfl hg rfl rfl cr23 (fun l=>l+1) rfl ⟨rfl,trivial⟩ ?_
 rintro _ _ _ rfl
 cbv
 refine cro rfl hg rfl rfl cr24 (fun l=>l+1) rfl ⟨rfl,rfl,trivial⟩ ?_
 rintro _ _ _ rfl
 cbv
 refine rgM hP hA hg fun mk _=> ?_
 cbv
 refine stepD (enr rfl hg rfl rfl cr25 (fun l=>l+1) rfl ⟨rfl,trivial⟩ (fun _ _ _ h=>h) (by simp[bd,bdL,ws,lst])) ?_
 cbv
 refine stepD (enr rfl hg rfl rfl cr26 (fun l=>l+1) rfl ⟨rfl,trivial⟩ (fun _ _ _ h=>h) (by simp[bd,bdL,ws,lst])) ?_
 cbv
 refine rgM hP hA hg fun mk _=> ?_
 cbv
 refine stepD (enr rfl hg rfl rfl cr27 (fun l=>l+1) rfl ⟨rfl,rfl,trivial⟩ (fun _ _ _ h=>h) (by simp[bd,bdL,ws,lst])) ?_
 cbv
 refine rgM hP hA hg fun mk _=> ?_
 cbv
 refine stepD (enr rfl hg rfl rfl cr28 (fun l=>l+1) rfl ⟨rfl,rfl,trivial⟩ (fun _ _ _ h=>h) (by simp[bd,bdL,ws,lst])) ?_
 cbv
 refine cro rfl hg rfl rfl cr29 (fun l=>l+1) rfl ⟨rfl,trivial⟩ ?_
 rintro _ _ _ rfl
 cbv
 refine rgM hP hA hg fun mk _=> ?_
 cbv
 refine stepD (enr rfl hg rfl rfl cr30 (fun l=>l+1) rfl ⟨rfl,trivial⟩ (fun _ _ _ h=>h) (by simp[bd,bdL,ws,lst])) ?_
 cbv
 refine stepD (enr rfl hg rfl rfl cr31 (fun l=>l+1) rfl ⟨rfl,rfl,trivial⟩ (fun _ _ _ h=>h) (by simp[bd,bdL,ws,lst])) ?_
 cbv
 refine cro rfl hg rfl rfl cr32 (fun l=>l+1) rfl ⟨rfl,trivial⟩ ?_
 rintro _ _ _ rfl
 cbv
 refine rgM hP hA hg fun mk _=> ?_
 cbv
 refine stepD (enr rfl hg rfl rfl cr33 (fun l=>l+1) rfl ⟨rfl,rfl,trivial⟩ (fun _ _ _ h=>h) (by simp[bd,bdL,ws,lst])) ?_
 cbv
 refine stepD (enr rfl hg rfl rfl cr34 (fun l=>l+1) rfl ⟨rfl,trivial⟩ (fun _ _ _ h=>h) (by simp[bd,bdL,ws,lst])) ?_
 cbv
 refine rgM hP hA hg fun mk _=> ?_
 cbv
 refine stepD (enr rfl hg rfl rfl cr35 (fun l=>l+1) rfl ⟨rfl,rfl,trivial⟩ (fun _ _ _ h=>h) (by simp[bd,bdL,ws,lst])) ?_
 cbv
 refine stepD (enr rfl hg rfl rfl cr36 (fun l=>l+1) rfl ⟨rfl,rfl,trivial⟩ (fun _ _ _ h=>h) (by simp[bd,bdL,ws,lst])) ?_
 cbv
 refine stepD (enr rfl hg rfl rfl cr37 (fun l=>l+1) rfl ⟨rfl,trivial⟩ (fun _ _ _ h=>h) (by simp[bd,bdL,ws,lst])) ?_
 cbv
 refine rgM hP hA hg fun mk _=> ?_
 cbv
 refine stepD (enr rfl hg rfl rfl cr38 (fun l=>l+1) rfl ⟨rfl,rfl,trivial⟩ (fun _ _ _ h=>h) (by simp[bd,bdL,ws,lst])) ?_
 cbv
 refine stepD (enr rfl hg rfl rfl cr39 (fun l=>l+1) rfl ⟨rfl,rfl,trivial⟩ (fun _ _ _ h=>h) (by simp[bd,bdL,ws,lst])) ?_
 cbv
 refine stepD (enr rfl hg rfl rfl cr40 (fun l=>l+1) rfl ⟨rfl,trivial⟩ (fun _ _ _ h=>h) (by simp[bd,bdL,ws,lst])) ?_
 cbv
 exact hK _ _ _ rfl
theorem shr_word{a y s:Nat}(hs:s<64)(ha:a<0x10000000000000000):(a+0x10000000000000000*y)/2^s%0x10000000000000000=a/2^s|||(y%0x10000000000000000)*2^(64-s)%0x10000000000000000:=by
 have hB:(0x10000000000000000:Nat)=2^s*2^(64-s):=by rw[<-Nat.pow_add,show s+(64-s)=64 by omega]
 have h1:(a+0x10000000000000000*y)/2^s=a/2^s+y*2^(64-s):=by
  rw[hB,Nat.mul_assoc,Nat.add_mul_div_left _ _ (Nat.two_pow_pos s),Nat.mul_comm y]
 have h2:a/2^s<2^(64-s):=Nat.div_lt_of_lt_mul (by rw[<-hB];exact ha)
 have h3:(y%0x10000000000000000)*2^(64-s)%0x10000000000000000=(y%2^s)*2^(64-s):=by
  rw[Nat.mod_mul_mod,hB,Nat.mul_mod_mul_right]
 rw[h1,h3,Nat.or_comm,or_add h2,Nat.add_comm (a/2^s)]
 have h4:y*2^(64-s)%0x10000000000000000=(y%2^s)*2^(64-s):=by rw[hB,Nat.mul_mod_mul_right]
 have h5:y%2^s+1<=2^s:=Nat.mod_lt _ (Nat.two_pow_pos s)
 have h6:=Nat.mul_le_mul_right (2^(64-s)) h5
 rw[<-hB,Nat.add_mul,Nat.one_mul]at h6
 rw[Nat.add_mod,h4,Nat.mod_eq_of_lt (show a/2^s<0x10000000000000000 by omega),Nat.mod_eq_of_lt (by omega)]
def shrF(a:Nat->Nat)(w s:Nat)(j:Nat):Nat:=if j+w<9 then(if j+w+1<9 then a (j+w)/2^s|||a (j+w+1)*2^(64-s)%0x10000000000000000 else a (j+w)/2^s)else 0
theorem shrF_lt{a:Nat->Nat}(ha:Wn 9 a)(w s j:Nat):shrF a w s j<0x10000000000000000:=by
 unfold shrF
 have h2:∀x:Nat,x<0x10000000000000000->x/2^s<0x10000000000000000:=fun x h=>Nat.lt_of_le_of_lt (Nat.div_le_self _ _) h
 split
 ·split
  ·exact Nat.or_lt_two_pow (n:=64) (h2 _ (ha _ (by omega))) (Nat.mod_lt _ (by decide))
  ·exact h2 _ (ha _ (by omega))
 ·decide
theorem shrF_V{a:Nat->Nat}(ha:Wn 9 a){k w s:Nat}(hw:w=k/64)(hs:s=k%64):V 9 (shrF a w s)=V 9 a/2^k:=by
 have hB:(0:Nat)<0x10000000000000000:=by decide
 have hlt:V 9 a/2^k<0x10000000000000000^9:=Nat.lt_of_le_of_lt (Nat.div_le_self _ _) (V_lt ha)
 rw[<-Nat.mod_eq_of_lt hlt,<-Dg.num_dig hB]
 refine Dg.num_congr 9 fun j hj=> ?_
 unfold Dg.dig
 have hk:k=64*w+s:=by omega
 have hsl:s<64:=by omega
 have hd:∀i,V 9 a/0x10000000000000000^i%0x10000000000000000=if i<9 then a i else 0:=fun i=>by
  by_cases h:i<9
  ·rw[if_pos h];exact Dg.dig_num hB 9 ha i h
  ·rw[if_neg h];exact Dg.dig_big (by decide) (V_lt ha) (by omega)
 have e1:V 9 a/2^k/0x10000000000000000^j=V 9 a/0x10000000000000000^(j+w)/2^s:=by
  rw[Nat.div_div_eq_div_mul,Nat.div_div_eq_div_mul,W_pow,W_pow,<-Nat.pow_add,<-Nat.pow_add,hk]
  congr 2
  omega
 rw[e1,<-Nat.mod_add_div (V 9 a/0x10000000000000000^(j+w)) 0x10000000000000000,Nat.div_div_eq_div_mul _ (0x10000000000000000^(j+w)),<-Nat.pow_succ,hd]
 rw[shr_word hsl (by split;exact ha _ (by omega);decide),hd]
 unfold shrF
 by_cases h1:j+w<9
 ·rw[if_pos h1,if_pos h1]
  by_cases h2:j+w+1<9
  ·rw[if_pos h2,if_pos h2]
  ·rw[if_neg h2,if_neg h2,Nat.zero_mul,Nat.zero_mod,Nat.or_zero]
 ·rw[if_neg h1,if_neg h1,if_neg (by omega),Nat.zero_mul,Nat.zero_mod,Nat.or_zero,Nat.zero_div]
theorem cShr{P:Program}(hP:P=Tryz.prog)(a r:Nat->Nat)(ha:Wn 9 a)(hr:Wn 9 r)(k:Nat)(hk:k<=576)(hV:V 9 r=V 9 a/2^k):
 Con P 78 [.agg (ws a 9),.int .i64 (.ofNat k)] [] 0 [] (fun v _ _=>v= .tup [.agg (ws r 9),.int .i64 0]):=by
 obtain⟨w,hw⟩:=exq (k/64)
 obtain⟨s,hs⟩:=exq (k%64)
 obtain⟨m,hm⟩:=exq (9-w)
 obtain⟨s',hs'⟩:=exq (64-s)
 obtain⟨q,hq⟩:=exq (fun i j=>if j<i then shrF a w s j else 0:Nat->Nat->Nat)
 obtain⟨q1,hq1⟩:=exq (fun i j=>if j=i then a (i+w)/2^s else q i j:Nat->Nat->Nat)
 have q0:q 0=fun _=>0:=by rw[hq];rfl
 have hsl:s<64:=by omega
 have hm9:m<=9:=by omega
 have hend:ws (q m) 9=ws r 9:=by
  refine V_inj (fun j _=> ?_) hr ?_
  ·rw[hq];show(if j<m then _ else 0)<_
   split
   ·exact shrF_lt ha w s j
   ·decide
  ·rw[hV,<-shrF_V ha hw hs,hq]
   refine Dg.num_congr 9 fun j _=> ?_
   show(if j<m then _ else 0)=_
   by_cases h:j<m
   ·rw[if_pos h]
   ·rw[if_neg h];unfold shrF;rw[if_neg (by omega)]
 have hw1:∀i,i<m->a (i+w)/2^s<0x10000000000000000:=fun i hi=>Nat.lt_of_le_of_lt (Nat.div_le_self _ _) (ha _ (by omega))
 refine cof hP Tryz.func78 (bdb _ rfl) (bkb rfl) ?_
 intro A g K hA hg hK
 obtain⟨bin,sh,cmp,_,_,ix,nn,_,_,_,_,_,_,_,_,off,_,_,sub⟩:=A
 have f1:∀i,i<m->cmp .lss (.ofNat i) (.ofNat m)=true:=fun i h=>lss_t hA h
 have f1f:cmp .lss (.ofNat m) (.ofNat m)=false:=lss_f hA (by omega)
 have f2:∀i,i<9->ix (.ofNat i) 9=some i:=fun i h=>ix_of hA h
 have f3:∀i,off 0 i 1=i:=fun i=>(off_of hA 0 i 1).trans (by omega)
 have f4:=fun(f:Nat->Nat) (k:Nat) (h:k<9)=>getW hA .u64 (n:=9) f h
 have f5:=fun(f g:Nat->Nat) (k v:Nat) (h:k<9) (e:g=fun j=>if j=k then v else f j)=>splW hA .u64 (n:=9) f g h e
 have f6:∀i,i<9->bin .add .i64 (.ofNat i) 1=Int.ofNat (i+1):=fun i h=>add_of hA (by omega)
 have f7:cmp .lss (.ofNat k) 0=false:=lss_f hA (b:=0) (by omega)
 have f8:cmp .gtr (.ofNat k) 576=false:=gtr_f hA (b:=576) (by omega)
 have f9:bin .quo .i64 (.ofNat k) 64=Int.ofNat w:=(quoI hA (a:=k) (b:=64) (by omega)).trans (by rw[hw])
 have f10:bin .rem .i64 (.ofNat k) 64=Int.ofNat s:=(remW hA k 64).trans (by rw[hs])
 have f11:bin .sub .i64 9 (.ofNat w)=Int.ofNat m:=(subI hA (a:=9) (b:=w) (by omega) (by decide)).trans (by rw[hm])
 have f12:∀i,i<m->bin .add .i64 (.ofNat i) (.ofNat w)=Int.ofNat (i+w):=fun i h=>addI hA (by omega)
 have f13:∀x,sh .shr .u64 (.ofNat x) (.ofNat s)=Int.ofNat (x/2^s):=fun x=>shrI hA (k:= .u64) (by show s<=64;omega)
 have f14:bin .sub .i64 64 (.ofNat s)=Int.ofNat s':=(subI hA (a:=64) (b:=s) (by omega) (by decide)).trans (by rw[hs'])
 have f15:∀x,sh .shl .u64 (.ofNat x) (.ofNat s')=Int.ofNat (x*2^s'%0x10000000000000000):=fun x=>shlW hA rfl x (s:=s') (by show s'<=64;omega)
 have n1:nn (.ofNat s)=true:=nn_t hA s
 have n2:nn (.ofNat s')=true:=nn_t hA s'
 have f16:∀x y,x<0x10000000000000000->y<0x10000000000000000->bin .or .u64 (.ofNat x) (.ofNat y)=Int.ofNat (x|||y):=fun x y h1 h2=>orW hA rfl h1 h2
 simp only[lst,Nat.reduceAdd]at f4 f5
 simp only[ws,lst,Nat.reduceAdd]at hend
 cbv
 rw[f7]
 cbv
 rw[f8]
 cbv
 rw[f9,f10]
 cbv
 rw[f11]
 cbv
 refine lpb (Nat×(Nat->Nat)) (fun s=>s.1<=m/\s.2=q s.1) (fun s=>m-s.1) (fun s=> [(23,.int .i64 (.ofNat s.1))]) [2,4,5,6,7,8,22] (fun s=> [(2,ws s.2 9)]) (0,fun _=>0) ⟨Nat.zero_le _,q0.symm⟩ ?_ ?_
 ·exact wkid
 rintro⟨i,c⟩ ⟨hi,hc⟩
 have hi:i<=m:=hi
 have hc:c=q i:=hc
 subst hc
 by_cases hlt:i<m
 ·obtain⟨x,hx⟩:=exq (i+w)
  obtain⟨x1,hx1⟩:=exq (x+1)
  obtain⟨y,hy⟩:=exq (a x/2^s)
  have hx9:x<9:=by omega
  have e1:bin .add .i64 (.ofNat i) (.ofNat w)=Int.ofNat x:=by rw[hx];exact f12 i hlt
  have e2:bin .add .i64 (.ofNat x) 1=Int.ofNat x1:=by rw[hx1];exact f6 x hx9
  have e3:sh .shr .u64 (.ofNat (a x)) (.ofNat s)=Int.ofNat y:=by rw[hy];exact f13 (a x)
  have e4:q1 i=fun j=>if j=i then y else q i j:=by rw[hq1,hy,hx]
  have hyl:y<0x10000000000000000:=by rw[hy];exact Nat.lt_of_le_of_lt (Nat.div_le_self _ _) (ha _ hx9)
  have e5:=f6 i (by omega)
  cbv
  rw[f1 i hlt]
  cbv
  rw[e1]
  cbv
  rw[f2 x hx9]
  cbv
  rw[f3 x,f4 a x hx9]
  cbv
  rw[n1]
  cbv
  rw[e3,f2 i (by omega)]
  cbv
  rw[f3 i,f5 (q i) (q1 i) i y (by omega) e4]
  cbv
  rw[e1]
  cbv
  rw[e2]
  by_cases h9:x1<9
  ·obtain⟨u,hu⟩:=exq (a x1*2^s'%0x10000000000000000)
   have e6:sh .shl .u64 (.ofNat (a x1)) (.ofNat s')=Int.ofNat u:=by rw[hu];exact f15 _
   have e7:q1 i i=y:=by rw[e4];simp
   have e8:=f16 y u hyl (by rw[hu];exact Nat.mod_lt _ (by decide))
   obtain⟨t,ht⟩:=exq (y|||u)
   rw[<-ht]at e8
   have e9:q (i+1)=fun j=>if j=i then t else q1 i j:=by
    rw[e4,hq]
    funext j
    show(if j<i+1 then shrF a w s j else 0)=if j=i then t else if j=i then y else if j<i then shrF a w s j else 0
    by_cases hj:j=i
    ·rw[if_pos (by omega),if_pos hj,hj]
     unfold shrF
     rw[if_pos (by omega),if_pos (by omega),ht,hy,hu,hx1,hx,hs']
    ·rw[if_neg hj,if_neg hj]
     by_cases hj2:j<i
     ·rw[if_pos (by omega),if_pos hj2]
     ·rw[if_neg (by omega),if_neg hj2]
   obtain⟨qn,hqn⟩:=exq (q (i+1))
   rw[<-hqn]at e9
   rw[show cmp .lss (.ofNat x1) 9=true from lss_t hA (b:=9) h9]
   cbv
   refine rgM hP hA hg fun mk _=> ?_
   cbv
   rw[f2 i (by omega)]
   cbv
   rw[f3 i,f4 (q1 i) i (by omega),e7]
   cbv
   rw[e1]
   cbv
   rw[e2]
   cbv
   rw[f2 x1 h9]
   cbv
   rw[f3 x1,f4 a x1 h9]
   cbv
   rw[f14]
   cbv
   rw[n2]
   cbv
   rw[e6]
   cbv
   rw[e8]
   cbv
   rw[f2 i (by omega)]
   cbv
   rw[f3 i,f5 (q1 i) qn i t (by omega) e9]
   cbv
   rw[e5]
   refine⟨(i+1,qn),id,⟨hlt,hqn⟩,(by show m-(i+1)<m-i;omega),?_⟩
   exact wkid
  ·have e9:q (i+1)=q1 i:=by
    rw[e4,hq]
    funext j
    show(if j<i+1 then shrF a w s j else 0)=if j=i then y else if j<i then shrF a w s j else 0
    by_cases hj:j=i
    ·rw[if_pos (by omega),if_pos hj,hj]
     unfold shrF
     rw[if_pos (by omega),if_neg (by omega),hy,hx]
    ·rw[if_neg hj]
     by_cases hj2:j<i
     ·rw[if_pos (by omega),if_pos hj2]
     ·rw[if_neg (by omega),if_neg hj2]
   rw[show cmp .lss (.ofNat x1) 9=false from lss_f hA (b:=9) h9]
   cbv
   rw[e5]
   refine⟨(i+1,q1 i),id,⟨hlt,e9.symm⟩,(by show m-(i+1)<m-i;omega),?_⟩
   exact wkid
 ·obtain rfl:i=m:=by omega
  cbv
  rw[f1f]
  cbv
  rw[hend]
  exact hK _ _ _ rfl
end Go.Proofs.YtdhmihfefgcbeaaGreat
namespace Mk
/-! words of 64 bits by their highest bit-/
theorem top_or(x y:Nat):(x|||y)/9223372036854775808=x/9223372036854775808|||y/9223372036854775808:=by
 have h:=Nat.shiftRight_or_distrib (a:=x) (b:=y) (i:=63)
 simpa [Nat.shiftRight_eq_div_pow]using h
theorem top_xor(x y:Nat):(x^^^y)/9223372036854775808=x/9223372036854775808^^^y/9223372036854775808:=by
 have h:=Nat.shiftRight_xor_distrib (a:=x) (b:=y) (i:=63)
 simpa [Nat.shiftRight_eq_div_pow]using h
theorem bit2(x:Nat)(h:x<0x10000000000000000):x/9223372036854775808=0\/x/9223372036854775808=1:=by omega
theorem zero_bit(x:Nat)(h:x<0x10000000000000000):
 (0xffffffffffffffff^^^(x|||(0x10000000000000000-x)%0x10000000000000000))/9223372036854775808=if x=0 then 1 else 0:=by
 have h1:(0x10000000000000000-x)%0x10000000000000000<0x10000000000000000:=Nat.mod_lt _ (by omega)
 rw[top_xor,top_or]
 by_cases h0:x=0
 ·subst h0;rfl
 ·rw[if_neg h0]
  have h2:(0x10000000000000000-x)%0x10000000000000000=0x10000000000000000-x:=Nat.mod_eq_of_lt (by omega)
  rw[h2]
  rcases bit2 x h with e|e
  ·have:(0x10000000000000000-x)/9223372036854775808=1:=by omega
   rw[e,this];rfl
  ·rcases bit2 (0x10000000000000000-x) (by omega)with e2|e2<;>rw[e,e2]<;>rfl
end Mk
namespace Go.Proofs.YtdhmihfefgcbeaaGreat
open Go.Vg
set_option maxRecDepth 200000
set_option cbv.maxSteps 100000000
theorem tword{P:Program}(hP:P=Tryz.prog)(m a b r:Int)(hr:r=intBin .or .u64 (intBin .and .u64 a m) (intBin .andNot .u64 b m)):Con P 146 [.agg [.int .u64 m],.int .u64 a,.int .u64 b] [] 0 [] (fun v _ _=>v= .int .u64 r):=by
 refine cof hP Tryz.func146 ⟨⟨trivial,trivial⟩,trivial,trivial,trivial⟩ (by simp) ?_
 intro A g K hA hg hK
 obtain⟨bin⟩:=A
 cbv
 have e1:bin=intBin:=bin_of hA
 refine hK _ _ _ ?_
 rw[hr,e1]
 rfl
theorem tnat{P:Program}(hP:P=Tryz.prog)(m:Int)(a b r:Nat->Int)
 (hr:∀k,k<9->r k=intBin .or .u64 (intBin .and .u64 (a k) m) (intBin .andNot .u64 (b k) m)):
 Con P 145 [.fn (.func 146) [.agg [.int .u64 m]] [],.agg (lst .u64 a 0 9),.agg (lst .u64 b 0 9)] [] 0 [] (fun v _ _=>v= .agg (lst .u64 r 0 9)):=by
 obtain⟨c,rfl,c9,c1,c2⟩:∃c:Nat->Nat->Int,c 0=a/\lst .u64 (c 9) 0 9=lst .u64 r 0 9/\(∀k,k<9->c k k=a k)/\∀k,k<9->Vg.splice (lst .u64 (c k) 0 9) k [.int .u64 (r k)]=lst .u64 (c (k+1)) 0 9:=by
  refine⟨fun k j=>if j<k then r j else a j,funext fun j=>by simp,lcg fun j _ h=>by simp;omega,fun k _=>by simp,fun k hk=>lst_set hk (by simp) fun j _ h1 h2=> ?_⟩
  by_cases h:j<k
  ·simp[h,show j<k+1 by omega]
  ·simp[h,show ¬j<k+1 by omega]
 refine cof hP Tryz.func145 ⟨⟨⟨⟨trivial,trivial⟩,trivial⟩,trivial⟩,bdb _ rfl,bdb _ rfl,trivial⟩ (by simp) ?_
 intro A g K hA hg hK
 obtain⟨bin,_,cmp,_,_,ix,_,_,_,_,_,_,_,_,_,off,get,_,_,spl⟩:=A
 cbv
 refine⟨Nat,fun k=>k<=9,fun k=>9-k,fun k=> [(0,.fn (.func 146) [.agg [.int .u64 m]] []),(4,.ptr 0 0),(5,.ptr 1 0),(6,.ptr 2 0),(8,.int .i64 k)],fun k=> [⟨0,lst .u64 (c k) 0 9,25⟩,⟨1,lst .u64 b 0 9,25⟩,
  ⟨2,lst .u64 (fun _=>0) 0 9,25⟩],3,⟨0,id,by omega,?_⟩,?_⟩
 ·exact weak_id ⟨rfl,rfl,rfl,rfl,rfl,rfl,rfl,rfl,rfl,rfl,trivial⟩ ⟨rfl,rfl,rfl,rfl,rfl,rfl,rfl,rfl,rfl,trivial⟩ rfl rfl
 intro k hk
 by_cases hlt:k<9
 ·have e1:cmp .lss (.ofNat k) 9=true:=by
   refine(lss_of hA _ _).trans ?_;exact decide_eq_true (by simp;omega)
  have e2:ix (.ofNat k) 9=some k:=ix_of hA hlt
  have e3:off 0 k 1=k:=(off_of hA 0 k 1).trans (by omega)
  have e4:get (lst .u64 (c k) 0 9) k=some (.int .u64 (c 0 k)):=(get_of hA _ _).trans (by rw[lst_get _ _ hlt,Nat.zero_add,c1 k hlt])
  have e5:get (lst .u64 b 0 9) k=some (.int .u64 (b k)):=(get_of hA _ _).trans (by rw[lst_get _ _ hlt,Nat.zero_add])
  have e6:spl (lst .u64 (c k) 0 9) k [.int .u64 (r k)]=some (lst .u64 (c (k+1)) 0 9):=(spl_of hA (by rw[lle];exact hlt) _).trans (by rw[c2 k hlt])
  have e7:bin .add .i64 (.ofNat k) 1=Int.ofNat (k+1):=add_of hA (by omega)
  simp only[lst,Nat.reduceAdd]at e4 e5 e6
  cbv
  rw[e1]
  cbv
  refine rgM hP hA hg fun mk _=> ?_
  cbv
  rw[e2]
  cbv
  rw[e3,e4]
  cbv
  rw[e2]
  cbv
  rw[e3,e5]
  cbv
  refine sdv hg (tword hP _ _ _ _ (hr k hlt)) ?_
  cbv
  rw[e2]
  cbv
  rw[e3,e6]
  cbv
  rw[e7]
  refine⟨k+1,id,hlt,(by show 9-(k+1)<9-k;omega),?_⟩
  exact weak_id ⟨rfl,rfl,rfl,rfl,rfl,rfl,rfl,rfl,rfl,rfl,trivial⟩ ⟨rfl,rfl,rfl,rfl,rfl,rfl,rfl,rfl,rfl,trivial⟩ rfl rfl
 ·have e1:cmp .lss (.ofNat k) 9=false:=by
   refine(lss_of hA _ _).trans ?_;exact decide_eq_false (by simp;omega)
  obtain rfl:k=9:=by omega
  cbv
  rw[e1]
  cbv
  exact hK _ _ _ (congrArg SV.agg c9)
end Go.Proofs.YtdhmihfefgcbeaaGreat
namespace Go.Proofs.YtdhmihfefgcbeaaGreat
open Go.Vg Go.RowKit Mk
set_option maxRecDepth 200000
set_option cbv.maxSteps 100000000
def mskN(c:Bool):Nat:=if c then 0xffffffffffffffff else 0
theorem negW{A:Ar}(hA:A=Ar.real)(n:Nat)(h:n<0x10000000000000000):A.una .neg .u64 (Int.ofNat n)=Int.ofNat ((0x10000000000000000-n)%0x10000000000000000):=by
 rw[neg_of hA]
 show IntKind.u64.wrap (0-(n:Int))=_
 simp[IntKind.wrap,IntKind.signed,IntKind.bits]
 omega
theorem cSpread{P:Program}(hP:P=Tryz.prog)(c:Bool)(x r:Nat)(hx:x=if c then 1 else 0)(hr:r=mskN c):Con P 160 [.int .u64 (.ofNat x)] [] 0 [] (fun v _ _=>v= .int .u64 (.ofNat r)):=by
 obtain rfl:r=(0x10000000000000000-x)%0x10000000000000000:=by rw[hr,hx];cases c<;>rfl
 have hx1:x&&&1=x:=by rw[hx];cases c<;>rfl
 have hx2:x<0x10000000000000000:=by rw[hx];cases c<;>decide
 obtain⟨r,hr⟩:=exq ((0x10000000000000000-x)%0x10000000000000000)
 refine cof hP Tryz.func160 (bdb _ rfl) (bkb rfl) ?_
 intro A g K hA hg hK
 obtain⟨bin,_,_,una⟩:=A
 have e1:bin .and .u64 (.ofNat x) 1=Int.ofNat x:=(andW hA (k:= .u64) rfl (a:=x) (b:=1) hx2 (by decide)).trans (by rw[hx1])
 have e2:una .neg .u64 (Int.ofNat x)=Int.ofNat r:=(negW hA x hx2).trans (by rw[hr])
 rw[<-hr]at hK
 cbv
 rw[e1,e2]
 exact hK _ _ _ rfl
theorem cMZero{P:Program}(hP:P=Tryz.prog)(x r:Nat)(hx:x<0x10000000000000000)(hr:r=mskN (decide (x=0))):Con P 144 [.int .u64 (.ofNat x)] [] 0 [] (fun v _ _=>v= .int .u64 (.ofNat r)):=by
 obtain⟨n,hn⟩:=exq ((0x10000000000000000-x)%0x10000000000000000)
 have hn2:n<0x10000000000000000:=by omega
 obtain⟨o,ho⟩:=exq (x|||n)
 have ho2:o<0x10000000000000000:=by rw[ho];exact Nat.or_lt_two_pow (n:=64) hx hn2
 obtain⟨t,ht⟩:=exq (0xffffffffffffffff^^^o)
 have ht2:t<0x10000000000000000:=by rw[ht];exact Nat.xor_lt_two_pow (n:=64) (by decide) ho2
 obtain⟨b,hb⟩:=exq (t/9223372036854775808)
 have hS:=cSpread hP (decide (x=0)) b r (by
  rw[hb,ht,ho,hn,zero_bit x hx];by_cases h:x=0<;>simp[h]) hr
 refine cof hP Tryz.func144 (bdb _ rfl) (bkb rfl) ?_
 intro A g K hA hg hK
 obtain⟨bin,sh,_,una⟩:=A
 have e1:una .neg .u64 (Int.ofNat x)=Int.ofNat n:=(negW hA x hx).trans (by rw[hn])
 have e2:bin .or .u64 (.ofNat x) (.ofNat n)=Int.ofNat o:=(orW hA (k:= .u64) rfl (a:=x) (b:=n) hx hn2).trans (by rw[ho])
 have e3:una .xor .u64 (Int.ofNat o)=Int.ofNat t:=((not_of hA _).trans ((congrFun (congrFun (congrFun (congrFun (bin_of hA) .xor) .u64) 0xffffffffffffffff) (Int.ofNat o)).symm.trans (xorW hA (k:= .u64) rfl (a:=0xffffffffffffffff) (b:=o) (by decide) ho2))).trans (by rw[ht])
 have e4:sh .shr .u64 (.ofNat t) 63=Int.ofNat b:=(shrI hA (k:= .u64) (a:=t) (b:=63) (by decide)).trans (by rw[hb])
 cbv
 rw[e1,e2,e3,e4]
 cbv
 refine cva rfl hg rfl rfl hS ?_
 rintro _ _ _ rfl
 cbv
 exact hK _ _ _ rfl
theorem cMEqual{P:Program}(hP:P=Tryz.prog)(x y r:Nat)(hx:x<0x10000000000000000)(hy:y<0x10000000000000000)(hr:r=mskN (decide (x=y))):Con P 123 [.int .u64 (.ofNat x),.int .u64 (.ofNat y)] [] 0 [] (fun v _ _=>v= .int .u64 (.ofNat r)):=by
 obtain⟨o,ho⟩:=exq (x^^^y)
 have ho2:o<0x10000000000000000:=by rw[ho];exact Nat.xor_lt_two_pow (n:=64) hx hy
 have hZ:=cMZero hP o r ho2 (by
  rw[hr,ho];congr 1;refine decide_eq_decide.2 ⟨fun h=>by rw[h,Nat.xor_self],fun h=> ?_⟩
  have h2:x^^^y^^^y=y:=by rw[h,Nat.zero_xor]
  rwa [Nat.xor_assoc,Nat.xor_self,Nat.xor_zero]at h2)
 refine cof hP Tryz.func123 (bdb _ rfl) (bkb rfl) ?_
 intro A g K hA hg hK
 obtain⟨bin⟩:=A
 have e1:bin .xor .u64 (.ofNat x) (.ofNat y)=Int.ofNat o:=(xorW hA (k:= .u64) rfl (a:=x) (b:=y) hx hy).trans (by rw[ho])
 cbv
 rw[e1]
 cbv
 refine cva rfl hg rfl rfl hZ ?_
 rintro _ _ _ rfl
 cbv
 exact hK _ _ _ rfl
theorem pick_word(c:Bool)(a b:Nat)(ha:a<0x10000000000000000)(hb:b<0x10000000000000000):Int.ofNat (if c then a else b)=intBin .or .u64 (intBin .and .u64 (Int.ofNat a) (Int.ofNat (mskN c))) (intBin .andNot .u64 (Int.ofNat b) (Int.ofNat (mskN c))):=by
 have hand:=andW (A:=Ar.real) rfl (k:= .u64) rfl (a:=a) (b:=mskN c) ha (by cases c<;>decide)
 have hnot:intBin .andNot .u64 (Int.ofNat b) (Int.ofNat (mskN c))=Int.ofNat (if c then 0 else b):=by
  show IntKind.u64.wrap ((BitVec.ofInt 64 (Int.ofNat b)&&& ~~~ (BitVec.ofInt 64 (Int.ofNat (mskN c)))).toNat:Nat)=_
  cases c with
  |true=>
   have:BitVec.ofInt 64 (Int.ofNat (mskN true))=BitVec.allOnes 64:=by decide
   rw[this];simp[IntKind.wrap,IntKind.signed,IntKind.bits]
  |false=>
   have:BitVec.ofInt 64 (Int.ofNat (mskN false))=0#64:=by decide
   rw[this,show ~~~(0#64)=BitVec.allOnes 64 from by decide,BitVec.and_allOnes]
   simp[IntKind.wrap,IntKind.signed,IntKind.bits]
   omega
 rw[hnot,show intBin .and .u64 (Int.ofNat a) (Int.ofNat (mskN c))=_ from hand]
 cases c with
 |true=>
  have h1:a&&&mskN true=a:=by
   show a&&&2^64-1=a
   rw[Nat.and_two_pow_sub_one_eq_mod,Nat.mod_eq_of_lt ha]
  rw[h1]
  exact((orW (A:=Ar.real) rfl (k:= .u64) rfl (a:=a) (b:=0) ha (by decide)).trans (by simp)).symm
 |false=>
  have h1:a&&&mskN false=0:=by show a&&&0=0;simp
  rw[h1]
  exact((orW (A:=Ar.real) rfl (k:= .u64) rfl (a:=0) (b:=b) (by decide) hb).trans (by simp)).symm
theorem cSelect{P:Program}(hP:P=Tryz.prog)(c:Bool)(m:Nat)(hm:m=mskN c)(a b r:Nat->Nat)(ha:Wn 9 a)(hb:Wn 9 b)(hr:r=if c then a else b):
 Con P 124 [.int .u64 (.ofNat m),.agg (ws a 9),.agg (ws b 9)] [] 0 [] (fun v _ _=>v= .agg (ws r 9)):=by
 have hN:=tnat hP (Int.ofNat m) (fun j=>Int.ofNat (a j)) (fun j=>Int.ofNat (b j)) (fun j=>Int.ofNat (r j)) (fun k hk=>by
  rw[hm,hr,<-pick_word c (a k) (b k) (ha k hk) (hb k hk)];cases c<;>rfl)
 clear hr
 refine cof hP Tryz.func124 (bdb _ rfl) (bkb rfl) ?_
 intro A g K hA hg hK
 cases A
 cbv
 refine cva rfl hg rfl rfl hN ?_
 rintro _ _ _ rfl
 refine⟨by simp[bd,bdL,lst],?_⟩
 cbv
 exact hK _ _ _ rfl
end Go.Proofs.YtdhmihfefgcbeaaGreat
