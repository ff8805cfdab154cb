/-
  This text proves what these texts prove: Nj, Nk, Fa, Fb, Fc, Fd, Fe, Ca. Conditions: those of each theorem.
-/
import Derived.Test.YtdhmihfefgcbeaaGreatU10
set_option maxHeartbeats 8000000
namespace Go.Proofs.YtdhmihfefgcbeaaGreat
open Go.Vg Go.RowKit
set_option maxRecDepth 200000
set_option cbv.maxSteps 100000000
def vals9(f:Nat->Nat):Array Value:= #[.int .u64 (.ofNat (f 0)),.int .u64 (.ofNat (f 1)),.int .u64 (.ofNat (f 2)),.int .u64 (.ofNat (f 3)),.int .u64 (.ofNat (f 4)),.int .u64 (.ofNat (f 5)),.int .u64 (.ofNat (f 6)),.int .u64 (.ofNat (f 7)),.int .u64 (.ofNat (f 8))]
theorem nine9{k:Nat}(h:k<9):k=0\/k=1\/k=2\/k=3\/k=4\/k=5\/k=6\/k=7\/k=8:=by omega
theorem vals9_get(f:Nat->Nat)(k:Nat)(h:k<9):(vals9 f)[k]? =some (.int .u64 (.ofNat (f k))):=by
 rcases nine9 h with rfl|rfl|rfl|rfl|rfl|rfl|rfl|rfl|rfl<;>rfl
def eq9(f g:Nat->Nat):Bool:=(List.range 9).all fun k=>Int.ofNat (f k)==Int.ofNat (g k)
theorem eq9_V{f g:Nat->Nat}(hf:Wn 9 f)(hg:Wn 9 g):eq9 f g=decide (V 9 f=V 9 g):=by
 rw[Bool.eq_iff_iff,decide_eq_true_iff]
 simp only[eq9,List.all_eq_true,List.mem_range,beq_iff_eq]
 constructor
 ·exact fun h=>Dg.num_congr 9 fun i hi=>Int.ofNat.inj (h i hi)
 ·exact fun h k hk=>congrArg Int.ofNat (Dg.num_inj (by decide) hf hg h k hk)
theorem eq_words9(f g:Nat->Nat)(d:Nat)(w:World):(Op.equalIn (d+2) 23 (.agg (vals9 f)) (.agg (vals9 g))).run Tryz.prog w= .ok (eq9 f g) w:=
 equalIn_array (m:=1) Tryz.underlying23 (by kernel_rfl) fun i hi=>⟨_,_,part_cell (by kernel_rfl) (by rw[Nat.mul_one];exact vals9_get f i hi),part_cell (by kernel_rfl) (by rw[Nat.mul_one];exact vals9_get g i hi),run_equalIn_int w d 22 .u64 .u64 (Int.ofNat (f i)) (Int.ofNat (g i)) Tryz.underlying22⟩
theorem eq_nat9(f g:Nat->Nat)(w:World):(Op.equalIn 10000 25 (.agg (vals9 f)) (.agg (vals9 g))).run Tryz.prog w= .ok (eq9 f g) w:=by
 rw[run_equalIn_struct w 9999 25 _ _ (by kernel_rfl) (by kernel_rfl)]
 have hf:(Tryz.prog.fieldsOf 25).toList=[{name:= "W",type:=23,offset:=0,embedded:=false,tag:= "",pkgPath:= "",byteOffset:=0}]:=by kernel_rfl
 have hp:∀h:Nat->Nat,(part 23 (vals9 h) 0).run Tryz.prog w= .ok (.agg (vals9 h)) w:=fun h=>by kernel_rfl
 rw[hf]
 simp only[Op.eqFields,Sem.run_bind,Sem.run_ite,hp,Result.andThen_ok,eq_words9 f g 9997 w]
 cases eq9 f g<;>rfl
theorem step_eq_nat{P:Program}(hP:P=Tryz.prog){g:G}{F:FF}{L:LL}{n:Nat}{o:Oper}{x y:Operand}{yt:TypeId}(ho:o.op= .binOp .eql 25 x y yt){m0 N:Nat}{ms:List Nat}(hg:GI g m0 ms N)(hd':dstLt N o.dst=true){a b:Nat->Nat}{r:Bool}(hr:r=eq9 a b)
 (hx:ev (Vg.look F) x=some (.agg (ws a 9))) (hy:ev (Vg.look F) y=some (.agg (ws b 9))) {K:FF->LL->Nat->Prop} (hK:K (putO F o.dst (.bool r)) L n):Step g P o K F L n:=by
 subst hP hr
 refine step_val hg hd' (fun β act W hm hf=> ?_) hK
 obtain⟨e1,_⟩:=evd hf hx
 obtain⟨e2,_⟩:=evd hf hy
 refine⟨?_,trivial⟩
 have h1:act.eval x= .agg (vals9 a):=e1
 have h2:act.eval y= .agg (vals9 b):=e2
 have h4:Tryz.prog.eqGuardType Tryz.prog.depth 25=false:=by kernel_rfl
 have h3:∀xs ys,(eqGuard .eql 25 x y (.agg xs) (.agg ys)).run Tryz.prog W= .ok () W:=fun xs ys=>run_eqGuard_agg W .eql 25 x y xs ys h4
 unfold execOp
 simp only[ho,h1,h2,Sem.run_bind,h3,Result.andThen_ok,run_eql_struct,eq_nat9,Sem.run_pure,den]
theorem cZero{P:Program}(hP:P=Tryz.prog)(m:Nat->Nat)(hm:Wn 9 m)(r:Bool)(hr:r=decide (V 9 m=0)):
 Con P 161 [.ptr 0 0] [⟨0,ws m 9,25⟩] 1 [] (fun v _ _=>v= .bool r):=by
 have h0:r=eq9 m (fun _=>0):=by
  rw[hr,eq9_V hm (fun _ _=>by decide)]
  rfl
 refine cof hP Tryz.func161 (bdb _ rfl) (bkb rfl) ?_
 intro A g K hA hg hK
 cases A
 cbv
 refine step_eq_nat hP rfl hg rfl (a:=m) (b:=fun _=>0) h0 rfl rfl ?_
 cbv
 exact hK _ _ _ rfl
theorem cBy{P:Program}(hP:P=Tryz.prog)(m:Nat->Nat)(n:Nat)(hm:Wn 9 m)(hn:Used 9 m n)(h0:0<n):
 ∃d s,Dv m d n s/\Con P 86 [.agg (ws m 9)] [] 0 [] (fun v L k=>v= .agg [.ptr 2 0]/\L=[⟨1,[.ptr 2 0],118⟩,⟨0,ws m 9,25⟩,⟨2,dcells d n s,215⟩]/\k=3):=by
 obtain⟨d,s,hD,hO⟩:=cOf hP m n hm hn h0
 refine⟨d,s,hD,?_⟩
 refine cof hP Tryz.func86 (bdb _ rfl) (bkb rfl) ?_
 intro A g K hA hg hK
 cases A
 cbv
 refine cgn rfl hg rfl rfl hO id rfl ⟨rfl,trivial⟩ rfl rfl rfl ?_
 rintro _ _ _ ⟨rfl,rfl,rfl⟩ _
 cbv
 exact hK _ _ _ ⟨rfl,rfl,rfl⟩
theorem cModMul{P:Program}(hP:P=Tryz.prog)(m d:Nat->Nat)(n s:Nat)(hD:Dv m d n s)(a b r:Nat->Nat)(ha:Wn 9 a)(hb:Wn 9 b)(hr:Wn 9 r)(hrV:V 9 r=V 9 a*V 9 b%V 9 m):
 Con P 143 [.agg [.ptr 0 0],.agg (ws a 9),.agg (ws b 9)] [⟨0,dcells d n s,215⟩] 1 [] (fun v _ _=>v= .agg (ws r 9)):=by
 have hab:V 9 a*V 9 b<0x10000000000000000^18:=Nat.lt_of_lt_of_le (Nat.mul_lt_mul'' (V_lt ha) (V_lt hb)) (Nat.le_of_eq (by rw[<-Nat.pow_add]))
 obtain⟨w,hw,hwV⟩:=exV 18 _ hab
 obtain⟨k,hk⟩:=used_ex w 18
 have hk18:=hk.1
 obtain⟨q,hq,hqV⟩:=exV 18 (V k w/V 9 m) (Nat.lt_of_le_of_lt (Nat.div_le_self _ _) (by rw[<-V_used hk];exact V_lt hw))
 have hM:=cMul hP a b w ha hb hw hwV
 have hL:=cLen18 hP (t:=248) w k hk
 have hV:=cDivide18 hP (t:=248) m d n s hD w k (fun j hj=>hw j (by omega)) hk18 q r hq hr hqV (by rw[hrV,<-hwV,V_used hk])
 clear hab hwV hqV hrV hq hr ha hb hD
 refine cof hP Tryz.func143 (bdb _ rfl) (bkb rfl) ?_
 intro A g K hA hg hK
 cases A
 cbv
 refine cva rfl hg rfl rfl hM ?_
 rintro _ _ _ rfl
 cbv
 refine reg_A (hP▸tblOk) hA hg (hP▸mixed) rfl rfl ?_
 cbv
 refine stepD (en_slice hg rfl rfl rfl rfl rfl (slr_arr (hP▸tblOk) (show tyT 246=some _ from rfl) rfl _ _)) ?_
 cbv
 refine stepD (enr rfl hg rfl rfl hL (fun l=>l+5) rfl ⟨rfl,trivial⟩ (fun _ _ _ h=>h) trivial) ?_
 cbv
 refine stepD (en_slice hg rfl rfl rfl rfl rfl (slr_arr_h (hP▸tblOk) (show tyT 246=some _ from rfl) rfl _ _ hk18)) ?_
 cbv
 refine stepD (enr rfl hg rfl rfl hV (fun l=>5*l) rfl ⟨rfl,rfl,trivial⟩ (fun _ _ _ h=>h) (by simp[bd,bdL,ws,lst])) ?_
 cbv
 exact hK _ _ _ rfl
theorem cDiv{P:Program}(hP:P=Tryz.prog)(a m q r:Nat->Nat)(ha:Wn 9 a)(hm:Wn 9 m)(hm0:0<V 9 m)(hq:Wn 9 q)(hr:Wn 9 r)(hqV:V 9 q=V 9 a/V 9 m)(hrV:V 9 r=V 9 a%V 9 m):
 Con P 162 [.agg (ws a 9),.agg (ws m 9)] [] 0 [] (fun v _ _=>v= .tup [.agg (ws q 9),.agg (ws r 9),.int .i64 0]):=by
 obtain⟨n,hn⟩:=used_ex m 9
 have hn0:0<n:=by
  rcases Nat.eq_zero_or_pos n with h|h
  ·rw[V_used hn,h]at hm0;exact absurd hm0 (Nat.lt_irrefl 0)
  ·exact h
 obtain⟨d,s,hD,hO⟩:=cOf hP m n hm hn hn0
 have hZ:=cZero hP m hm false (decide_eq_false (Nat.pos_iff_ne_zero.1 hm0)).symm
 obtain⟨q2,hq2⟩:=exq (fun j=>if j<9 then q j else 0:Nat->Nat)
 have hq2W:Wn 18 q2:=fun j _=>by
  rw[hq2];show(if j<9 then q j else 0)<_
  split
  ·exact hq j (by omega)
  ·decide
 have hq2V:V 18 q2=V 9 q:=by
  have h1:V 18 q2=V 9 q2:=Dg.num_zero q2 9 9 fun i h1 _=>by rw[hq2];exact if_neg (by omega)
  have h2:V 9 q2=V 9 q:=Dg.num_congr 9 fun i hi=>by rw[hq2];exact if_pos hi
  exact h1.trans h2
 have hV:=cDivide9 hP (t:=25) m d n s hD a 9 ha (Nat.le_refl 9) q2 r hq2W hr (hq2V.trans hqV) hrV
 have hq9:ws q2 9=ws q 9:=lcg fun j _ hj=>by rw[hq2];simp only[if_pos (show j<9 by omega)]
 clear hq2 hq2W hq2V hqV hrV hq hr hD ha hm hm0
 refine cof hP Tryz.func162 (bdb _ rfl) (bkb rfl) ?_
 intro A g K hA hg hK
 cases A
 cbv
 refine cro rfl hg rfl rfl hZ (fun l=>l+1) rfl ⟨rfl,trivial⟩ ?_
 rintro _ _ _ rfl
 cbv
 refine reg_A (hP▸tblOk) hA hg (hP▸mixed) rfl rfl ?_
 cbv
 refine stepDn (n':=5) (en_new rfl hg rfl rfl hO (fun l=>l+1) rfl ⟨rfl,trivial⟩ rfl (val:= .ptr 1 0) (NB:=[⟨1,dcells d n s,215⟩]) (n:=4) (n1:=2) (fun _ _ _ h=>⟨h.1,h.2.1,h.2.2⟩) rfl rfl (fun l h1 h2=>⟨_,List.mem_cons_self,(by show 1=l;omega)⟩)) (by decide) rfl (List.nodup_cons.2 ⟨List.not_mem_nil,List.nodup_nil⟩) ?_
 cbv
 refine stepD (en_slice hg rfl rfl rfl rfl rfl (slr_arr (hP▸tblOk) (show tyT 23=some _ from rfl) rfl _ _)) ?_
 cbv
 refine stepD (enr rfl hg rfl rfl hV (fun l=>4*(1-l)) rfl ⟨rfl,rfl,trivial⟩ (fun _ _ _ h=>h) (by simp[bd,bdL,ws,lst])) ?_
 cbv
 refine reg_X (hP▸tblOk) hA hg (hP▸mixed) rfl rfl ?_
 cbv
 refine stepD (en_slice hg rfl rfl rfl rfl rfl (slr_arr_h (hP▸tblOk) (show tyT 246=some _ from rfl) rfl _ _ (j:=9) (by decide))) ?_
 cbv
 refine stepD (en_s2ap (hP▸tblOk) hg rfl rfl (show tyT 23=some _ from rfl) rfl rfl (by decide)) ?_
 cbv
 refine hK _ _ _ ?_
 rw[<-hq9]
 rfl
theorem mod_cancel{x y c M:Nat}(h:(x+c)%M=(y+c)%M):x%M=y%M:=by
 have h1:((x:Int)+c)%M=((y:Int)+c)%M:=by exact_mod_cast congrArg (Nat.cast (R:=Int)) h
 have h2:=(Int.emod_add_cancel_right (c:Int)).1 h1
 exact_mod_cast h2
theorem inv_step{a M o w s t less next:Nat}(hs:s*a%M=o%M)(ht:t*a%M=w%M)(hl:less=o/w*t%M)(hn:next+less=s\/next+less=s+M):next*a%M=o%w%M:=by
 apply mod_cancel (c:=less*a)
 have h1:(next*a+less*a)%M=o%M:=by
  rw[<-Nat.add_mul]
  rcases hn with h|h
  ·rw[h];exact hs
  ·rw[h,Nat.add_mul,Nat.add_mul_mod_self_left];exact hs
 have h2:less*a%M=o/w*w%M:=by
  rw[hl,Nat.mul_mod,Nat.mod_mod,<-Nat.mul_mod,Nat.mul_assoc,Nat.mul_mod,ht,<-Nat.mul_mod]
 rw[h1,Nat.add_mod,h2,<-Nat.add_mod,Nat.add_comm,Nat.mul_comm,Nat.div_add_mod]
theorem inv_unique{s i a M:Nat}(hs:s<M)(hi:i<M)(h1:s*a%M=1)(h2:i*a%M=1)(hM:2<=M):s=i:=by
 have e1:s*(i*a)%M=s:=by
  rw[Nat.mul_mod,h2,Nat.mul_one,Nat.mod_mod,Nat.mod_eq_of_lt hs]
 have e2:i*(s*a)%M=i:=by
  rw[Nat.mul_mod,h1,Nat.mul_one,Nat.mod_mod,Nat.mod_eq_of_lt hi]
 exact e1.symm.trans ((congrArg (· %M) (Nat.mul_left_comm s i a)).trans e2)
theorem sub_wrap{s less M B r:Nat}(hs:s<M)(hl:less<M)(hM:M<=B)(hr:r=(s+B-less)%B):(¬s<less->r+less=s/\r<M)/\(s<less->(r+M)%B+less=s+M/\(r+M)%B<M):=by
 constructor
 ·intro h
  have:r=s-less:=by rw[hr,show s+B-less=(s-less)+B by omega,Nat.add_mod_right,Nat.mod_eq_of_lt (by omega)]
  omega
 ·intro h
  have h1:r=s+B-less:=by rw[hr,Nat.mod_eq_of_lt (by omega)]
  have h2:(r+M)%B=s+M-less:=by rw[h1,show s+B-less+M=(s+M-less)+B by omega,Nat.add_mod_right,Nat.mod_eq_of_lt (by omega)]
  omega
section
theorem en_cmp_nat{P:Program}(hP:P=Tryz.prog){g:G}{o:Oper}{x y:Operand}{yt:TypeId}{N m0:Nat}{ms:List Nat}(hg:GI g m0 ms N)(hd':dstLt N o.dst=true){F:Nat->Option SV}{M:Nat->Option Blk}{a b:Nat->Nat}{r:Bool}
 (ho:(o.op= .binOp .neq 25 x y yt/\r= !eq9 a b)\/(o.op= .binOp .eql 25 x y yt/\r=eq9 a b))
 (hx:ev F x=some (.agg (ws a 9))) (hy:ev F y=some (.agg (ws b 9))):EN g P o F M (.bool r) []:=by
 subst hP
 refine en_out hg hd' fun β p F' L' act W hF hM hm hf=> ?_
 have E:∀z∈o.op.operands.toList,ev F' z=ev F z:=fun z hz=>ev_congr fun t ht=>hF t (tmpsL_mem hz ht)
 have h4:Tryz.prog.eqGuardType Tryz.prog.depth 25=false:=by kernel_rfl
 rcases ho with⟨ho,hr⟩|⟨ho,hr⟩
 ·rw[ho]at E
  obtain⟨e1,_⟩:=evd hf ((E x (by simp[Op.operands])).trans hx)
  obtain⟨e2,_⟩:=evd hf ((E y (by simp[Op.operands])).trans hy)
  refine⟨?_,trivial⟩
  have h1:act.eval x= .agg (vals9 a):=e1
  have h2:act.eval y= .agg (vals9 b):=e2
  have h3:∀xs ys,(eqGuard .neq 25 x y (.agg xs) (.agg ys)).run Tryz.prog W= .ok () W:=fun xs ys=>run_eqGuard_agg W .neq 25 x y xs ys h4
  unfold execOp
  simp only[ho,h1,h2,Sem.run_bind,h3,Result.andThen_ok,run_neq_struct,eq_nat9,Sem.run_pure,den,hr]
 ·rw[ho]at E
  obtain⟨e1,_⟩:=evd hf ((E x (by simp[Op.operands])).trans hx)
  obtain⟨e2,_⟩:=evd hf ((E y (by simp[Op.operands])).trans hy)
  refine⟨?_,trivial⟩
  have h1:act.eval x= .agg (vals9 a):=e1
  have h2:act.eval y= .agg (vals9 b):=e2
  have h3:∀xs ys,(eqGuard .eql 25 x y (.agg xs) (.agg ys)).run Tryz.prog W= .ok () W:=fun xs ys=>run_eqGuard_agg W .eql 25 x y xs ys h4
  unfold execOp
  simp only[ho,h1,h2,Sem.run_bind,h3,Result.andThen_ok,run_eql_struct,eq_nat9,Sem.run_pure,den,hr]
end
theorem cInverse{P:Program}(hP:P=Tryz.prog)(a m i:Nat->Nat)(ha:Wn 9 a)(hm:Wn 9 m)(hi:Wn 9 i)(hm2:2<=V 9 m)(e:Int)
 (h1:Nat.gcd (V 9 a) (V 9 m)=1->V 9 i<V 9 m/\V 9 i*V 9 a%V 9 m=1/\e=0) (h2:Nat.gcd (V 9 a) (V 9 m)≠1->V 9 i=0/\e=401):
 Con P 147 [.agg (ws a 9),.agg (ws m 9)] [] 0 [] (fun v _ _=>v= .tup [.agg (ws i 9),.int .i64 e]):=by
 have hm0:0<V 9 m:=by omega
 obtain⟨n,hn⟩:=used_ex m 9
 have hn0:0<n:=by
  rcases Nat.eq_zero_or_pos n with h|h
  ·rw[V_used hn,h]at hm0;exact absurd hm0 (Nat.lt_irrefl 0)
  ·exact h
 have hZ:=cZero hP m hm false (decide_eq_false (Nat.pos_iff_ne_zero.1 hm0)).symm
 obtain⟨q0,hq0,hq0V⟩:=exV 9 (V 9 a/V 9 m) (Nat.lt_of_le_of_lt (Nat.div_le_self _ _) (V_lt ha))
 obtain⟨r0,hr0,hr0V⟩:=exV 9 (V 9 a%V 9 m) (Nat.lt_trans (Nat.mod_lt _ hm0) (V_lt hm))
 have hDiv:=cDiv hP a m q0 r0 ha hm hm0 hq0 hr0 hq0V hr0V
 obtain⟨one,h1e⟩:=exq (fun j=>if j=0 then 1 else 0:Nat->Nat)
 have hOne:=cSmall hP 1 (by decide) one h1e
 have hoW:Wn 9 one:=fun j _=>by rw[h1e];show(if j=0 then 1 else 0)<_;split<;>decide
 have hoV:V 9 one=1:=by rw[h1e];rfl
 obtain⟨d,sh0,hD,hBy⟩:=cBy hP m n hm hn hn0
 refine cof hP Tryz.func147 (bdb _ rfl) (bkb rfl) ?_
 intro A g K hA hg hK
 obtain⟨_,_,_,_,_,_,_,_,bnot⟩:=A
 cbv
 refine cro rfl hg rfl rfl hZ (fun l=>l+1) rfl ⟨rfl,trivial⟩ ?_
 rintro _ _ _ rfl
 cbv
 refine cva rfl hg rfl rfl hDiv ?_
 rintro _ _ _ rfl
 cbv
 refine reg_X (hP▸tblOk) hA hg (hP▸mixed) rfl rfl ?_
 cbv
 refine cva rfl hg rfl rfl hOne ?_
 rintro _ _ _ rfl
 cbv
 refine cgn rfl hg rfl rfl hBy id rfl trivial rfl rfl rfl ?_
 rintro _ _ _ ⟨rfl,rfl,rfl⟩ _
 cbv
 obtain⟨B,hB⟩:=exq (0x10000000000000000^9)
 have hmB:V 9 m<B:=by rw[hB];exact V_lt hm
 refine lpb ((Nat->Nat)×(Nat->Nat)×(Nat->Nat)×(Nat->Nat)) (fun σ=>Wn 9 σ.1/\Wn 9 σ.2.1/\Wn 9 σ.2.2.1/\Wn 9 σ.2.2.2/\Nat.gcd (V 9 σ.1) (V 9 σ.2.1)=Nat.gcd (V 9 a) (V 9 m)/\V 9 σ.2.2.1*V 9 a%V 9 m=V 9 σ.1%V 9 m/\V 9 σ.2.2.2*V 9 a%V 9 m=V 9 σ.2.1%V 9 m/\V 9 σ.2.2.1<V 9 m/\V 9 σ.2.2.2<V 9 m) (fun σ=>V 9 σ.2.1)
  (fun σ=> []) [3,4,9,10,11,12,13] (fun σ=> [(5,ws σ.1 9),(6,ws σ.2.1 9),(7,ws σ.2.2.1 9),(8,ws σ.2.2.2 9)]) (m,r0,(fun _=>0),one) ⟨hm,hr0,(fun _ _=>by show 0<_;decide),hoW,?_,?_,?_,?_,?_⟩ ?_ ?_
 ·show Nat.gcd (V 9 m) (V 9 r0)=_
  rw[hr0V,Nat.gcd_comm (V 9 m),<-Nat.gcd_rec,Nat.gcd_comm]
 ·show V 9 (fun _=>0)*V 9 a%V 9 m=V 9 m%V 9 m
  rw[show V 9 (fun _=>0)=0 from rfl,Nat.zero_mul,Nat.mod_self,Nat.zero_mod]
 ·show V 9 one*V 9 a%V 9 m=V 9 r0%V 9 m
  rw[hoV,Nat.one_mul,hr0V,Nat.mod_mod]
 ·show V 9 (fun _=>0)<V 9 m
  exact hm0
 ·show V 9 one<V 9 m
  rw[hoV];exact hm2
 ·exact wkid
 clear hDiv hq0V hr0V
 rintro⟨o,w,s,t⟩ ⟨ho',hw',hs',ht',hg',hsa',hta',hsM',htM'⟩
 have ho:Wn 9 o:=ho'
 have hw:Wn 9 w:=hw'
 have hs:Wn 9 s:=hs'
 have ht:Wn 9 t:=ht'
 have hgc:Nat.gcd (V 9 o) (V 9 w)=Nat.gcd (V 9 a) (V 9 m):=hg'
 have hsa:V 9 s*V 9 a%V 9 m=V 9 o%V 9 m:=hsa'
 have hta:V 9 t*V 9 a%V 9 m=V 9 w%V 9 m:=hta'
 have hsM:V 9 s<V 9 m:=hsM'
 have htM:V 9 t<V 9 m:=htM'
 clear ho' hw' hs' ht' hg' hsa' hta' hsM' htM'
 by_cases hw0:V 9 w=0
 ·cbv
  refine cro rfl hg rfl rfl (cZero hP w hw true (decide_eq_true hw0).symm) (fun l=>l+6) rfl ⟨rfl,trivial⟩ ?_
  rintro _ _ _ rfl
  cbv
  rw[show bnot true=false from bnot_of hA true]
  cbv
  have hgo:V 9 o=Nat.gcd (V 9 a) (V 9 m):=by rw[<-hgc,hw0,Nat.gcd_zero_right]
  have hm1:V 9 m≠1:=by omega
  refine reg_A (hP▸tblOk) hA hg (hP▸mixed) rfl rfl ?_
  by_cases ho1:V 9 o=1
  ·obtain⟨i1,i2,i3⟩:=h1 (by rw[<-hgo];exact ho1)
   have hsi:ws i 9=ws s 9:=V_inj hi hs (inv_unique i1 hsM i2 (by rw[hsa,ho1];exact Nat.mod_eq_of_lt hm2) hm2)
   cbv
   refine stepD (en_val rfl hg rfl rfl hOne (fun _ _ _ h=>h) (by simp[bd,bdL,ws,lst])) ?_
   cbv
   refine stepD (en_cmp_nat hP hg rfl (a:=o) (b:=one) (r:=false) (Or.inl ⟨rfl,by rw[eq9_V ho hoW,hoV,decide_eq_true ho1];rfl⟩) rfl rfl) ?_
   cbv
   refine stepD (en_val rfl hg rfl rfl hOne (fun _ _ _ h=>h) (by simp[bd,bdL,ws,lst])) ?_
   cbv
   refine stepD (en_cmp_nat hP hg rfl (a:=m) (b:=one) (r:=false) (Or.inr ⟨rfl,by rw[eq9_V hm hoW,hoV,decide_eq_false hm1]⟩) rfl rfl) ?_
   cbv
   refine hK _ _ _ ?_
   rw[hsi,i3]
   rfl
  ·obtain⟨i1,i2⟩:=h2 (by rw[<-hgo];exact ho1)
   have hsi:ws i 9=ws (fun _=>0) 9:=V_inj (g:=fun _=>0) hi (fun _ _=>by show 0<_;decide) (i1.trans rfl)
   cbv
   refine stepD (en_val rfl hg rfl rfl hOne (fun _ _ _ h=>h) (by simp[bd,bdL,ws,lst])) ?_
   cbv
   refine stepD (en_cmp_nat hP hg rfl (a:=o) (b:=one) (r:=true) (Or.inl ⟨rfl,by rw[eq9_V ho hoW,hoV,decide_eq_false ho1];rfl⟩) rfl rfl) ?_
   cbv
   refine hK _ _ _ ?_
   rw[hsi,i2]
   rfl
 ·have hw1:0<V 9 w:=Nat.pos_of_ne_zero hw0
  obtain⟨q,hq,hqV⟩:=exV 9 (V 9 o/V 9 w) (Nat.lt_of_le_of_lt (Nat.div_le_self _ _) (V_lt ho))
  obtain⟨r,hr,hrV⟩:=exV 9 (V 9 o%V 9 w) (Nat.lt_trans (Nat.mod_lt _ hw1) (V_lt hw))
  obtain⟨l,hl,hlV⟩:=exV 9 (V 9 q*V 9 t%V 9 m) (Nat.lt_trans (Nat.mod_lt _ hm0) (V_lt hm))
  have hlM:V 9 l<V 9 m:=by rw[hlV];exact Nat.mod_lt _ hm0
  obtain⟨c,hc,hcV⟩:=exV 9 ((V 9 s+0x10000000000000000^9-V 9 l)%0x10000000000000000^9) (Nat.mod_lt _ (Nat.pow_pos (by decide)))
  obtain⟨f1,f2⟩:=sub_wrap (B:=B) (r:=V 9 c) hsM hlM (Nat.le_of_lt hmB) (by rw[hB];exact hcV)
  have hgn:Nat.gcd (V 9 w) (V 9 r)=Nat.gcd (V 9 a) (V 9 m):=by
   rw[hrV,Nat.gcd_comm (V 9 w),<-Nat.gcd_rec,Nat.gcd_comm];exact hgc
  have hrlt:V 9 r<V 9 w:=by rw[hrV];exact Nat.mod_lt _ hw1
  cbv
  refine cro rfl hg rfl rfl (cZero hP w hw false (decide_eq_false hw0).symm) (fun l=>l+6) rfl ⟨rfl,trivial⟩ ?_
  rintro _ _ _ rfl
  cbv
  rw[show bnot false=true from bnot_of hA false]
  cbv
  refine cva rfl hg rfl rfl (cDiv hP o w q r ho hw hw1 hq hr hqV hrV) ?_
  rintro _ _ _ rfl
  cbv
  refine reg_X (hP▸tblOk) hA hg (hP▸mixed) rfl rfl ?_
  cbv
  refine cro rfl hg rfl rfl (cModMul hP m d n sh0 hD q t l hq ht hl hlV) (fun l=>l+11) rfl ⟨rfl,trivial⟩ ?_
  rintro _ _ _ rfl
  cbv
  by_cases hu:V 9 s<V 9 l
  ·obtain⟨x,hx,hxV⟩:=exV 9 ((V 9 c+V 9 m)%0x10000000000000000^9) (Nat.mod_lt _ (Nat.pow_pos (by decide)))
   have f3:=f2 hu
   rw[hB,<-hxV]at f3
   refine cva rfl hg rfl rfl (cSub hP s l c hs hl hc true hcV (decide_eq_true hu).symm) ?_
   rintro _ _ _ rfl
   cbv
   obtain⟨o2,ho2⟩:=exq (decide (0x10000000000000000^9<=V 9 c+V 9 m))
   refine cva rfl hg rfl rfl (cAdd hP c m x hc hm hx o2 hxV ho2) ?_
   rintro _ _ _ rfl
   cbv
   refine reg_X (hP▸tblOk) hA hg (hP▸mixed) rfl rfl ?_
   cbv
   refine⟨(w,r,t,x),id,⟨hw,hr,ht,hx,hgn,hta,?_,htM,f3.2⟩,hrlt,?_⟩
   ·show V 9 x*V 9 a%V 9 m=V 9 r%V 9 m
    rw[hrV];exact inv_step hsa hta (by rw[hlV,hqV]) (Or.inr f3.1)
   ·exact wkid
  ·have f3:=f1 hu
   refine cva rfl hg rfl rfl (cSub hP s l c hs hl hc false hcV (decide_eq_false hu).symm) ?_
   rintro _ _ _ rfl
   cbv
   refine reg_X (hP▸tblOk) hA hg (hP▸mixed) rfl rfl ?_
   cbv
   refine⟨(w,r,t,c),id,⟨hw,hr,ht,hc,hgn,hta,?_,htM,f3.2⟩,hrlt,?_⟩
   ·show V 9 c*V 9 a%V 9 m=V 9 r%V 9 m
    rw[hrV];exact inv_step hsa hta (by rw[hlV,hqV]) (Or.inl f3.1)
   ·exact wkid
def fcells(p:Nat->Nat)(l:Nat):List SV:=lst .u64 (fun j=>Int.ofNat (p j)) 0 9++[.ptr l 0]
theorem fadd_cases{a b p B c d r:Nat}(ha:a<p)(hb:b<p)(hp:p<B)(hc:c=(a+b)%B)(hd:d=(c+B-p)%B)(hr:r=(a+b)%p):(B<=a+b->c<p/\r=d)/\(¬B<=a+b->c<p->r=c)/\(¬B<=a+b->¬c<p->r=d):=by
 refine⟨fun h=> ?_,fun h h1=> ?_,fun h h1=> ?_⟩
 ·have e1:c=a+b-B:=by rw[hc,Nat.mod_eq_sub_mod h,Nat.mod_eq_of_lt (by omega)]
  have e2:d=c+B-p:=by rw[hd,Nat.mod_eq_of_lt (by omega)]
  have e3:r=a+b-p:=by rw[hr,Nat.mod_eq_sub_mod (by omega),Nat.mod_eq_of_lt (by omega)]
  omega
 ·have e1:c=a+b:=by rw[hc,Nat.mod_eq_of_lt (by omega)]
  rw[hr,<-e1,Nat.mod_eq_of_lt h1]
 ·have e1:c=a+b:=by rw[hc,Nat.mod_eq_of_lt (by omega)]
  have e2:d=c-p:=by rw[hd,show c+B-p=(c-p)+B by omega,Nat.add_mod_right,Nat.mod_eq_of_lt (by omega)]
  have e3:r=a+b-p:=by rw[hr,Nat.mod_eq_sub_mod (by omega),Nat.mod_eq_of_lt (by omega)]
  omega
theorem fsub_cases{a b p B c d r:Nat}(ha:a<p)(hb:b<p)(hp:p<B)(hc:c=(a+B-b)%B)(hd:d=(c+p)%B)(hr:r=(a+p-b)%p):(a<b->r=d)/\(¬a<b->r=c):=by
 refine⟨fun h=> ?_,fun h=> ?_⟩
 ·have e1:c=a+B-b:=by rw[hc,Nat.mod_eq_of_lt (by omega)]
  have e2:d=a+p-b:=by rw[hd,e1,show a+B-b+p=(a+p-b)+B by omega,Nat.add_mod_right,Nat.mod_eq_of_lt (by omega)]
  rw[hr,Nat.mod_eq_of_lt (by omega),e2]
 ·have e1:c=a-b:=by rw[hc,show a+B-b=(a-b)+B by omega,Nat.add_mod_right,Nat.mod_eq_of_lt (by omega)]
  rw[hr,show a+p-b=(a-b)+p by omega,Nat.add_mod_right,Nat.mod_eq_of_lt (by omega),e1]
theorem cFAdd{P:Program}(hP:P=Tryz.prog)(p a b r:Nat->Nat)(hp:Wn 9 p)(ha:Wn 9 a)(hb:Wn 9 b)(hr:Wn 9 r)(haM:V 9 a<V 9 p)(hbM:V 9 b<V 9 p)(hrV:V 9 r=(V 9 a+V 9 b)%V 9 p):
 Con P 63 [.ptr 0 0,.agg (ws a 9),.agg (ws b 9)] [⟨0,fcells p 1,120⟩] 2 [] (fun v _ _=>v= .agg (ws r 9)):=by
 obtain⟨c,hc,hcV⟩:=exV 9 ((V 9 a+V 9 b)%0x10000000000000000^9) (Nat.mod_lt _ (Nat.pow_pos (by decide)))
 obtain⟨d,hd,hdV⟩:=exV 9 ((V 9 c+0x10000000000000000^9-V 9 p)%0x10000000000000000^9) (Nat.mod_lt _ (Nat.pow_pos (by decide)))
 obtain⟨k1,k2,k3⟩:=fadd_cases haM hbM (V_lt hp) hcV hdV hrV
 have hA0:=fun o ho=>cAdd hP a b c ha hb hc o hcV ho
 have hS0:=fun o ho=>cSub hP c p d hc hp hd o hdV ho
 generalize hB:(0x10000000000000000^9:Nat)=B at *
 clear hcV hdV hrV
 refine cof hP Tryz.func63 (bdb _ rfl) (bkb rfl) ?_
 intro A g K hA hg hK
 obtain⟨_,_,_,_,_,_,_,_,bnot⟩:=A
 by_cases ho:B<=V 9 a+V 9 b
 ·obtain⟨h3,h4⟩:=k1 ho
  have e:ws r 9=ws d 9:=V_inj hr hd h4
  have hA1:=hA0 true (decide_eq_true ho).symm
  have hS1:=hS0 true (decide_eq_true h3).symm
  clear hA0 hS0
  cbv
  refine cva rfl hg rfl rfl hA1 ?_
  rintro _ _ _ rfl
  cbv
  refine reg_A (hP▸tblOk) hA hg (hP▸mixed) rfl rfl ?_
  cbv
  refine stepD (en_val rfl hg rfl rfl hS1 (fun _ _ _ h=>h) (by simp[bd,bdL,ws,lst])) ?_
  cbv
  refine hK _ _ _ ?_
  rw[e];rfl
 ·by_cases h3:V 9 c<V 9 p
  ·have e:ws r 9=ws c 9:=V_inj hr hc (k2 ho h3)
   have hA1:=hA0 false (decide_eq_false ho).symm
   have hS1:=hS0 true (decide_eq_true h3).symm
   clear hA0 hS0
   cbv
   refine cva rfl hg rfl rfl hA1 ?_
   rintro _ _ _ rfl
   cbv
   refine reg_A (hP▸tblOk) hA hg (hP▸mixed) rfl rfl ?_
   cbv
   refine stepD (en_val rfl hg rfl rfl hS1 (fun _ _ _ h=>h) (by simp[bd,bdL,ws,lst])) ?_
   cbv
   rw[show bnot true=false from bnot_of hA true]
   cbv
   refine hK _ _ _ ?_
   rw[e];rfl
  ·have e:ws r 9=ws d 9:=V_inj hr hd (k3 ho h3)
   have hA1:=hA0 false (decide_eq_false ho).symm
   have hS1:=hS0 false (decide_eq_false h3).symm
   clear hA0 hS0
   cbv
   refine cva rfl hg rfl rfl hA1 ?_
   rintro _ _ _ rfl
   cbv
   refine reg_A (hP▸tblOk) hA hg (hP▸mixed) rfl rfl ?_
   cbv
   refine stepD (en_val rfl hg rfl rfl hS1 (fun _ _ _ h=>h) (by simp[bd,bdL,ws,lst])) ?_
   cbv
   rw[show bnot false=true from bnot_of hA false]
   cbv
   refine hK _ _ _ ?_
   rw[e];rfl
theorem cFSub{P:Program}(hP:P=Tryz.prog)(p a b r:Nat->Nat)(hp:Wn 9 p)(ha:Wn 9 a)(hb:Wn 9 b)(hr:Wn 9 r)(haM:V 9 a<V 9 p)(hbM:V 9 b<V 9 p)(hrV:V 9 r=(V 9 a+V 9 p-V 9 b)%V 9 p):
 Con P 120 [.ptr 0 0,.agg (ws a 9),.agg (ws b 9)] [⟨0,fcells p 1,120⟩] 2 [] (fun v _ _=>v= .agg (ws r 9)):=by
 obtain⟨c,hc,hcV⟩:=exV 9 ((V 9 a+0x10000000000000000^9-V 9 b)%0x10000000000000000^9) (Nat.mod_lt _ (Nat.pow_pos (by decide)))
 obtain⟨d,hd,hdV⟩:=exV 9 ((V 9 c+V 9 p)%0x10000000000000000^9) (Nat.mod_lt _ (Nat.pow_pos (by decide)))
 obtain⟨k1,k2⟩:=fsub_cases haM hbM (V_lt hp) hcV hdV hrV
 have hS0:=fun o ho=>cSub hP a b c ha hb hc o hcV ho
 have hA0:=fun o ho=>cAdd hP c p d hc hp hd o hdV ho
 generalize hB:(0x10000000000000000^9:Nat)=B at *
 clear hcV hdV hrV
 refine cof hP Tryz.func120 (bdb _ rfl) (bkb rfl) ?_
 intro A g K hA hg hK
 cases A
 by_cases h3:V 9 a<V 9 b
 ·have e:ws r 9=ws d 9:=V_inj hr hd (k1 h3)
  have hS1:=hS0 true (decide_eq_true h3).symm
  obtain⟨o2,ho2⟩:=exq (decide (B<=V 9 c+V 9 p))
  have hA1:=hA0 o2 ho2
  clear hA0 hS0 ho2
  cbv
  refine cva rfl hg rfl rfl hS1 ?_
  rintro _ _ _ rfl
  cbv
  refine rgM hP hA hg fun mk _=> ?_
  cbv
  refine stepD (en_val rfl hg rfl rfl hA1 (fun _ _ _ h=>h) (by simp[bd,bdL,ws,lst])) ?_
  cbv
  refine hK _ _ _ ?_
  rw[e];rfl
 ·have e:ws r 9=ws c 9:=V_inj hr hc (k2 h3)
  have hS1:=hS0 false (decide_eq_false h3).symm
  clear hA0 hS0
  cbv
  refine cva rfl hg rfl rfl hS1 ?_
  rintro _ _ _ rfl
  cbv
  refine hK _ _ _ ?_
  rw[e];rfl
theorem cFMul{P:Program}(hP:P=Tryz.prog)(p d:Nat->Nat)(n s:Nat)(hD:Dv p d n s)(a b r:Nat->Nat)(ha:Wn 9 a)(hb:Wn 9 b)(hr:Wn 9 r)(hrV:V 9 r=V 9 a*V 9 b%V 9 p):
 Con P 121 [.ptr 0 0,.agg (ws a 9),.agg (ws b 9)] [⟨0,fcells p 1,120⟩,⟨1,dcells d n s,215⟩] 2 [] (fun v _ _=>v= .agg (ws r 9)):=by
 have hM:=cModMul hP p d n s hD a b r ha hb hr hrV
 refine cof hP Tryz.func121 (bdb _ rfl) (bkb rfl) ?_
 intro A g K hA hg hK
 cases A
 cbv
 refine rgM hP hA hg fun mk _=> ?_
 cbv
 refine stepD (enr rfl hg rfl rfl hM (fun l=>l+1) rfl ⟨rfl,trivial⟩ (fun _ _ _ h=>h) (by simp[bd,bdL,ws,lst])) ?_
 cbv
 exact hK _ _ _ rfl
theorem cFInv{P:Program}(hP:P=Tryz.prog)(p a i:Nat->Nat)(hp:Wn 9 p)(ha:Wn 9 a)(hi:Wn 9 i)(hp2:2<=V 9 p)(h1:Nat.gcd (V 9 a) (V 9 p)=1->V 9 i<V 9 p/\V 9 i*V 9 a%V 9 p=1)(h2:Nat.gcd (V 9 a) (V 9 p)≠1->V 9 i=0):
 Con P 125 [.ptr 0 0,.agg (ws a 9)] [⟨0,fcells p 1,120⟩] 2 [] (fun v _ _=>v= .agg (ws i 9)):=by
 obtain⟨e,he⟩:=exq (if Nat.gcd (V 9 a) (V 9 p)=1 then 0 else 401:Int)
 have hI:=cInverse hP a p i ha hp hi hp2 e (fun h=>⟨(h1 h).1,(h1 h).2,by rw[he,if_pos h]⟩) (fun h=>⟨h2 h,by rw[he,if_neg h]⟩)
 clear he
 refine cof hP Tryz.func125 (bdb _ rfl) (bkb rfl) ?_
 intro A g K hA hg hK
 cases A
 cbv
 refine reg_A (hP▸tblOk) hA hg (hP▸mixed) rfl rfl ?_
 cbv
 refine stepD (en_val rfl hg rfl rfl hI (fun _ _ _ h=>h) (by simp[bd,bdL,ws,lst])) ?_
 cbv
 exact hK _ _ _ rfl
def hexc(d:Nat):UInt8:=UInt8.ofNat (if d<10 then 48+d else 87+d)
def hexS(x n:Nat):ByteArray:=⟨⟨(List.range n).map fun i=>hexc (x/16^(n-1-i)%16)⟩⟩
def primeN:Nat->Nat
 |1=>0xfffffffffffffffffffffffffffffffeffffffffffffffff
 |2=>0xffffffffffffffffffffffffffffffff000000000000000000000001
 |3=>0xffffffff00000001000000000000000000000000ffffffffffffffffffffffff
 |4=>0xfffffffffffffffffffffffffffffffffffffffffffffffffffffffffffffffeffffffff0000000000000000ffffffff
 |5=>0x1ffffffffffffffffffffffffffffffffffffffffffffffffffffffffffffffffffffffffffffffffffffffffffffffffffffffffffffffffffffffffffffffffff
 |6=>0xfffffffffffffffffffffffffffffffffffffffffffffffffffffffefffffc2f
 |7=>0xe95e4a5f737059dc60dfc7ad95b3d8139515620f
 |8=>0xd7c134aa264366862a18302575d1d787b09f075797da89f57ec8c0ff
 |9=>0xa9fb57dba1eea9bc3e660a909d838d726e3bf623d52620282013481d1f6e5377
 |10=>0xd35e472036bc4fb7e13c785ed201e065f98fcfa6f6f40def4f92b9ec7893ec28fcd412b1f1b32e27
 |11=>0x8cb91e82a3386d280f5d6f7e50e641df152f7109ed5456b412b1da197fb71123acd3a729901d1a71874700133107ec53
 |12=>0xaadd9db8dbe9c48b3fd4e6ae33c9fc07cb308db3b3c9d20ed6639cca703308717d4d9b009bc66842aecda12ae6a380e62881ff2f2d82c68528aa6056583a48f3
 |13=>251
 |14=>241
 |15=>239
 |_=>0
def primeL:Nat->Nat
 |1=>48
 |2=>56
 |3=>64
 |4=>96
 |5=>132
 |6=>64
 |7=>40
 |8=>56
 |9=>64
 |10=>80
 |11=>96
 |12=>128
 |13=>2
 |14=>2
 |15=>2
 |_=>0
def primeB(x:Int):ByteArray:=
 if x=1 then hexS (primeN 1) (primeL 1)else if x=2 then hexS (primeN 2) (primeL 2)else if x=3 then hexS (primeN 3) (primeL 3)else if x=4 then hexS (primeN 4) (primeL 4)else if x=5 then hexS (primeN 5) (primeL 5)else if x=6 then hexS (primeN 6) (primeL 6)else if x=7 then hexS (primeN 7) (primeL 7)else if x=8 then hexS (primeN 8) (primeL 8)else if x=9 then hexS (primeN 9) (primeL 9)else if x=10 then hexS (primeN 10) (primeL 10)else if x=11 then hexS (primeN 11) (primeL 11)else if x=12 then hexS (primeN 12) (primeL 12)else if x=13 then hexS (primeN 13) (primeL 13)else if x=14 then hexS (primeN 14) (primeL 14)else if x=15 then hexS (primeN 15) (primeL 15)else⟨⟨[]⟩⟩
theorem primeB_of(k:Nat)(hk:1<=k/\k<=15):primeB (Int.ofNat k)=hexS (primeN k) (primeL k):=by
 have:k=1\/k=2\/k=3\/k=4\/k=5\/k=6\/k=7\/k=8\/k=9\/k=10\/k=11\/k=12\/k=13\/k=14\/k=15:=by omega
 rcases this with rfl|rfl|rfl|rfl|rfl|rfl|rfl|rfl|rfl|rfl|rfl|rfl|rfl|rfl|rfl<;>rfl
theorem cPrime{P:Program}(hP:P=Tryz.prog)(x:Int)(b:ByteArray)(hb:b=primeB x):Con P 85 [.int .i64 x] [] 0 [] (fun v _ _=>v= .str b):=by
 refine cof hP Tryz.func85 (bdb _ rfl) (bkb rfl) ?_
 intro A g K hA hg hK
 obtain⟨_,_,cmp⟩:=A
 have f:∀y z,cmp .eql y z=decide (y=z):=fun y z=>congrFun (congrFun (congrFun (cmp_of hA) .eql) y) z
 by_cases hx:∃k:Nat,(1<=k/\k<=15)/\x=Int.ofNat k
 ·obtain⟨k,hk,rfl⟩:=hx
  rw[primeB_of k hk]at hb
  have:k=1\/k=2\/k=3\/k=4\/k=5\/k=6\/k=7\/k=8\/k=9\/k=10\/k=11\/k=12\/k=13\/k=14\/k=15:=by omega
  rcases this with rfl|rfl|rfl|rfl|rfl|rfl|rfl|rfl|rfl|rfl|rfl|rfl|rfl|rfl|rfl<;>(cbv;repeat (rw[f];cbv))<;>exact hK _ _ _ (by rw[hb];kernel_rfl)
 ·have h:∀k:Nat,1<=k->k<=15->x≠Int.ofNat k:=fun k h1 h2 e=>hx ⟨k,⟨h1,h2⟩,e⟩
  have h1:x≠1:=h 1 (by decide) (by decide)
  have h2:x≠2:=h 2 (by decide) (by decide)
  have h3:x≠3:=h 3 (by decide) (by decide)
  have h4:x≠4:=h 4 (by decide) (by decide)
  have h5:x≠5:=h 5 (by decide) (by decide)
  have h6:x≠6:=h 6 (by decide) (by decide)
  have h7:x≠7:=h 7 (by decide) (by decide)
  have h8:x≠8:=h 8 (by decide) (by decide)
  have h9:x≠9:=h 9 (by decide) (by decide)
  have h10:x≠10:=h 10 (by decide) (by decide)
  have h11:x≠11:=h 11 (by decide) (by decide)
  have h12:x≠12:=h 12 (by decide) (by decide)
  have h13:x≠13:=h 13 (by decide) (by decide)
  have h14:x≠14:=h 14 (by decide) (by decide)
  have h15:x≠15:=h 15 (by decide) (by decide)
  cbv
  rw[f,decide_eq_false h1]
  cbv
  rw[f,decide_eq_false h2]
  cbv
  rw[f,decide_eq_false h3]
  cbv
  rw[f,decide_eq_false h4]
  cbv
  rw[f,decide_eq_false h5]
  cbv
  rw[f,decide_eq_false h6]
  cbv
  rw[f,decide_eq_false h7]
  cbv
  rw[f,decide_eq_false h8]
  cbv
  rw[f,decide_eq_false h9]
  cbv
  rw[f,decide_eq_false h10]
  cbv
  rw[f,decide_eq_false h11]
  cbv
  rw[f,decide_eq_false h12]
  cbv
  rw[f,decide_eq_false h13]
  cbv
  rw[f,decide_eq_false h14]
  cbv
  rw[f,decide_eq_false h15]
  cbv
  exact hK _ _ _ (by rw[hb,primeB,if_neg h1,if_neg h2,if_neg h3,if_neg h4,if_neg h5,if_neg h6,if_neg h7,if_neg h8,if_neg h9,if_neg h10,if_neg h11,if_neg h12,if_neg h13,if_neg h14,if_neg h15];rfl)
end Go.Proofs.YtdhmihfefgcbeaaGreat
namespace Go.Proofs.YtdhmihfefgcbeaaGreat
open Go.Vg Go.RowKit
set_option maxRecDepth 20000
def hexw(y j:Nat):Nat:=y/0x10000000000000000^j%0x10000000000000000
theorem pow16{i q r:Nat}(hi:i=16*q+r):16^i=16^r*0x10000000000000000^q:=by
 rw[hi,Nat.pow_add,Nat.pow_mul,Nat.mul_comm]
theorem hexw_lt(y j:Nat):hexw y j<0x10000000000000000:=Nat.mod_lt _ (by decide)
theorem hex_top{y i q r:Nat}(hi:i=16*q+r)(hy:y<16^i):y/0x10000000000000000^q<16^r:=by
 rw[Nat.div_lt_iff_lt_mul (Nat.pow_pos (by decide)),<-pow16 hi];exact hy
theorem hex_step{y d i q r:Nat}(hi:i=16*q+r)(hr:r<16)(hy:y<16^i)(hd:d<16)(j:Nat):hexw (y+d*16^i) j=if j=q then hexw y q+d*16^r else hexw y j:=by
 have ht:=hex_top hi hy
 have h16:16^r*16<=0x10000000000000000:=by
  have h:=Nat.pow_le_pow_right (show 0<16 by decide) (show r+1<=16 by omega)
  rw[Nat.pow_succ]at h
  exact Nat.le_trans h (Nat.le_of_eq (by decide))
 have hm:d*16^r+16^r<=16^r*16:=by
  have h:=Nat.mul_le_mul_right (16^r) (show d+1<=16 from hd)
  rw[Nat.add_mul,Nat.one_mul]at h
  rw[Nat.mul_comm (16^r)];exact h
 have hy':y+d*16^i<0x10000000000000000^(q+1):=by
  have h:=Nat.mul_le_mul_right (16^i) (show d+1<=16 from hd)
  rw[Nat.add_mul,Nat.one_mul]at h
  have h2:16*16^i<=0x10000000000000000^(q+1):=by
   rw[pow16 hi,Nat.pow_succ,<-Nat.mul_assoc,Nat.mul_comm 16,Nat.mul_comm (0x10000000000000000^q)]
   exact Nat.mul_le_mul_right _ h16
  omega
 unfold hexw
 by_cases h:j=q
 ·subst h
  rw[if_pos rfl,pow16 hi,<-Nat.mul_assoc,Nat.add_mul_div_right _ _ (Nat.pow_pos (by decide))]
  rw[Nat.mod_eq_of_lt (by omega),Nat.mod_eq_of_lt (by omega)]
 ·rw[if_neg h]
  by_cases hj:j<q
  ·obtain⟨k,rfl⟩:∃k,q=j+1+k:=⟨q-(j+1),by omega⟩
   have e:d*16^i=(d*16^r*0x10000000000000000^k*0x10000000000000000)*0x10000000000000000^j:=by
    rw[pow16 hi,Nat.pow_add,Nat.pow_succ]
    simp only[Nat.mul_assoc,Nat.mul_comm,Nat.mul_left_comm]
   rw[e,Nat.add_mul_div_right _ _ (Nat.pow_pos (by decide)),Nat.add_mul_mod_self_right]
  ·have hle:=Nat.pow_le_pow_right (show 0<0x10000000000000000 by decide) (show q+1<=j by omega)
   rw[Nat.div_eq_of_lt (Nat.lt_of_lt_of_le hy' hle),Nat.div_eq_of_lt (Nat.lt_of_le_of_lt (Nat.le_add_right _ _) (Nat.lt_of_lt_of_le hy' hle))]
theorem hex_or{y d i q r:Nat}(hi:i=16*q+r)(hr:r<16)(hy:y<16^i)(hd:d<16):hexw y q|||(d*2^(4*r)%0x10000000000000000)=hexw y q+d*16^r:=by
 have ht:=hex_top hi hy
 have e:2^(4*r)=16^r:=by rw[Nat.pow_mul]
 have h16:16^r*16<=0x10000000000000000:=by
  have h:=Nat.pow_le_pow_right (show 0<16 by decide) (show r+1<=16 by omega)
  rw[Nat.pow_succ]at h
  exact Nat.le_trans h (Nat.le_of_eq (by decide))
 have hm:d*16^r+16^r<=16^r*16:=by
  have h:=Nat.mul_le_mul_right (16^r) (show d+1<=16 from hd)
  rw[Nat.add_mul,Nat.one_mul]at h
  rw[Nat.mul_comm (16^r)];exact h
 have hp:0<16^r:=Nat.pow_pos (by decide)
 have hw:hexw y q=y/0x10000000000000000^q:=Nat.mod_eq_of_lt (by omega)
 rw[hw,Nat.or_comm,Nat.mod_eq_of_lt (by rw[e];omega),or_add (by rw[e];exact ht),e,Nat.add_comm]
theorem V_hexw(y n:Nat):V n (hexw y)=y%0x10000000000000000^n:=Dg.num_dig (by decide) y n
theorem dig_next(x i:Nat):x%16^i+x/16^i%16*16^i=x%16^(i+1):=by
 rw[Nat.pow_succ,Nat.mod_mul,Nat.mul_comm]
theorem quoI{A:Ar}(hA:A=Ar.real){a b:Nat}(ha:a<2^63):A.bin .quo .i64 (Int.ofNat a) (Int.ofNat b)=Int.ofNat (a/b):=by
 subst hA
 show IntKind.i64.wrap (Int.tdiv (Int.ofNat a) (Int.ofNat b))=_
 exact wrap_of _ (Nat.lt_of_le_of_lt (Nat.div_le_self _ _) ha)
theorem hexc_nat{d:Nat}(h:d<16):(hexc d).toNat=if d<10 then 48+d else 87+d:=by
 have:∀d,d<16->(hexc d).toNat=if d<10 then 48+d else 87+d:=by decide
 exact this d h
theorem cHex{P:Program}(hP:P=Tryz.prog)(s:ByteArray)(n x:Nat)(hn:s.size=n)(hn2:n<=144)(hs:∀i,i<n->s[n-1-i]? =some (hexc (x/16^i%16)))(r:Nat->Nat)(hr:Wn 9 r)(hrV:V 9 r=x%16^n):
 Con P 59 [.str s] [] 0 [] (fun v _ _=>v= .agg (ws r 9)):=by
 refine cof hP Tryz.func59 (bdb _ rfl) (bkb rfl) ?_
 intro A g K hA hg hK
 obtain⟨bin,sh,cmp,_,cvt,ix,nn,nz,_,_,_,_,slen,six,_,off,_,_,sub⟩:=A
 have en:slen s=Int.ofNat n:=(slen_of hA s).trans (by rw[hn])
 have es:∀i,i<n->six s (Int.ofNat (n-1-i))=some (Int.ofNat (hexc (x/16^i%16)).toNat):=fun i h=>by
  have e:six=Ar.real.six:=congrArg Ar.six hA
  rw[e]
  show(if 0<=Int.ofNat (n-1-i)then(s[(Int.ofNat (n-1-i)).toNat]?).map fun b=>(b.toNat:Int)else none)=_
  rw[if_pos (show(0:Int)<=Int.ofNat (n-1-i)from Int.natCast_nonneg _)]
  show(s[n-1-i]?).map _=_
  rw[hs i h];rfl
 have f1t:∀x y,x<y->cmp .lss (.ofNat x) (.ofNat y)=true:=fun x y h=>lss_t hA h
 have f1f:∀x y,¬x<y->cmp .lss (.ofNat x) (.ofNat y)=false:=fun x y h=>lss_f hA h
 have f2:∀i,i<9->ix (.ofNat i) 9=some i:=fun i h=>ix_of hA h
 have f3:∀i,off 0 i 1=i:=fun i=>(off_of hA 0 i 1).trans (by omega)
 have f4:=fun(f:Nat->Nat) (i:Nat) (h:i<9)=>getW hA .u64 (n:=9) f h
 have f5:=fun(f g:Nat->Nat) (i v:Nat) (h:i<9) (e:g=fun j=>if j=i then v else f j)=>splW hA .u64 (n:=9) f g h e
 simp only[lst,Nat.reduceAdd]at f4 f5
 cbv
 rw[en]
 refine lpb (Nat×(Nat->Nat)) (fun σ=>σ.1<=n/\∀j,σ.2 j=hexw (x%16^σ.1) j) (fun σ=>n-σ.1)
  (fun σ=> [(9,.int .i64 (.ofNat σ.1))]) [0,2,3,8] (fun σ=> [(1,ws σ.2 9)]) (0,fun _=>0) ⟨Nat.zero_le _,?_⟩ ?_ ?_
 ·intro j
  show 0=hexw (x%16^0) j
  rw[Nat.pow_zero,Nat.mod_one,hexw,Nat.zero_div,Nat.zero_mod]
 ·exact wkid
 rintro⟨i,f⟩ ⟨hi',hf'⟩
 have hi:i<=n:=hi'
 have hf:∀j,f j=hexw (x%16^i) j:=hf'
 clear hi' hf'
 cbv
 by_cases hlt:i<n
 ·obtain⟨d,hd⟩:=exq (x/16^i%16)
  have hd16:d<16:=by rw[hd];exact Nat.mod_lt _ (by decide)
  obtain⟨c,hc⟩:=exq ((hexc d).toNat)
  have hc2:c=if d<10 then 48+d else 87+d:=by rw[hc];exact hexc_nat hd16
  obtain⟨k,hk⟩:=exq (n-1-i)
  have e1:=es i hlt
  rw[<-hd,<-hc,<-hk]at e1
  obtain⟨k1,hk1⟩:=exq (n-1)
  have e2:bin .sub .i64 (.ofNat n) 1=Int.ofNat k1:=(subI hA (a:=n) (b:=1) (by omega) (by omega)).trans (by rw[hk1])
  have e3:bin .sub .i64 (.ofNat k1) (.ofNat i)=Int.ofNat k:=(subI hA (by omega) (by omega)).trans (by rw[hk,hk1])
  obtain⟨c1,hc1⟩:=exq (c-48)
  have hcl:48<=c/\c<128:=by rw[hc2];split<;>omega
  have e4:bin .sub .u8 (.ofNat c) 48=Int.ofNat c1:=(subW hA (k:= .u8) rfl (a:=c) (b:=48) (by decide)).trans (congrArg Int.ofNat (by show(c+256-48)%256=c1;omega))
  have e5:cvt .u64 (.ofNat c1)=Int.ofNat c1:=cvtI hA (fun h=>by cases h) (fun _=>by show c1<0x10000000000000000;omega)
  obtain⟨q,hq⟩:=exq (i/16)
  obtain⟨t,ht⟩:=exq (i%16)
  have hiq:i=16*q+t:=by rw[hq,ht];exact(Nat.div_add_mod i 16).symm
  have ht16:t<16:=by rw[ht];exact Nat.mod_lt _ (by decide)
  have hq9:q<9:=by omega
  have e6:bin .quo .i64 (.ofNat i) 16=Int.ofNat q:=(quoI hA (a:=i) (b:=16) (by omega)).trans (by rw[hq])
  have e7:bin .rem .i64 (.ofNat i) 16=Int.ofNat t:=(remW hA (k:= .i64) i 16).trans (by rw[ht])
  obtain⟨t4,ht4⟩:=exq (4*t)
  have e8:bin .mul .i64 4 (.ofNat t)=Int.ofNat t4:=(mulI hA (a:=4) (b:=t) (by omega)).trans (by rw[ht4])
  obtain⟨y,hy⟩:=exq (d*2^t4%0x10000000000000000)
  have e9:sh .shl .u64 (.ofNat d) (.ofNat t4)=Int.ofNat y:=shl64 hA (by omega) hy
  obtain⟨z,hz⟩:=exq (f q|||y)
  have hyx:x%16^i<16^i:=Nat.mod_lt _ (Nat.pow_pos (by decide))
  have hfq:=hf q
  have e10:bin .or .u64 (.ofNat (f q)) (.ofNat y)=Int.ofNat z:=or64 hA (by rw[hfq];exact hexw_lt _ _) (by rw[hy];exact Nat.mod_lt _ (by decide)) hz
  have hzv:z=hexw (x%16^i) q+d*16^t:=by rw[hz,hfq,hy,ht4];exact hex_or hiq ht16 hyx hd16
  obtain⟨f',hf'⟩:=exq (fun j=>if j=q then z else f j:Nat->Nat)
  have e11:=f4 f q hq9
  have e12:=f5 f f' q z hq9 hf'
  have e13:=f2 q hq9
  have e14:=f3 q
  have e15:bin .add .i64 (.ofNat i) 1=Int.ofNat (i+1):=addI hA (b:=1) (by omega)
  have znn:nn (.ofNat t4)=true:=nn_t hA t4
  have hnext:∀j,f' j=hexw (x%16^(i+1)) j:=fun j=>by
   rw[<-dig_next,<-hd,hex_step hiq ht16 hyx hd16 j,hf']
   show(if j=q then z else f j)=_
   rw[hzv,hf j]
  obtain⟨i1,hi1⟩:=exq (i+1)
  rw[<-hi1]at e15 hnext
  rw[f1t i n hlt]
  cbv
  rw[en]
  rw[e2]
  rw[e3]
  cbv
  rw[e1]
  cbv
  rw[e4]
  cbv
  rw[e5]
  cbv
  rw[e1]
  cbv
  have znz:nz 16=true:=nz_t hA (a:=16) (by decide)
  by_cases h10:d<10
  ·have hc3:c1=d:=by rw[hc1,hc2,if_pos h10];omega
   rw[show cmp .geq (.ofNat c) 97=false from geq_f hA (b:=97) (by rw[hc2,if_pos h10];omega)]
   cbv
   rw[hc3]
   refine rgM hP hA hg fun mk _=> ?_
   cbv
   rw[e6]
   cbv
   rw[e13]
   cbv
   rw[e14,e11]
   cbv
   rw[e7]
   cbv
   rw[e8]
   cbv
   rw[znn]
   cbv
   rw[e9]
   cbv
   rw[e10]
   cbv
   rw[e13]
   cbv
   rw[e14,e12]
   cbv
   rw[e15]
   refine⟨(i1,f'),id,⟨by show i1<=n;omega,hnext⟩,(by show n-i1<n-i;omega),?_⟩
   exact wkid
  ·obtain⟨c3,hc3⟩:=exq (c-97)
   have hcd:c3+10=d:=by rw[hc3,hc2,if_neg h10];omega
   have h97:97<=c:=by rw[hc2,if_neg h10];omega
   have e16:bin .sub .u8 (.ofNat c) 97=Int.ofNat c3:=(subW hA (k:= .u8) rfl (a:=c) (b:=97) (by decide)).trans (congrArg Int.ofNat (by show(c+256-97)%256=c3;omega))
   have e17:cvt .u64 (.ofNat c3)=Int.ofNat c3:=cvtI hA (fun h=>by cases h) (fun _=>by show c3<0x10000000000000000;omega)
   have e18:bin .add .u64 (.ofNat c3) 10=Int.ofNat d:=(addW hA (k:= .u64) rfl c3 10).trans (congrArg Int.ofNat (by show(c3+10)%0x10000000000000000=d;omega))
   rw[show cmp .geq (.ofNat c) 97=true from geq_t hA (b:=97) h97]
   cbv
   rw[e1]
   cbv
   rw[e16]
   cbv
   rw[e17]
   cbv
   rw[e18]
   refine rgM hP hA hg fun mk _=> ?_
   cbv
   rw[e6]
   cbv
   rw[e13]
   cbv
   rw[e14,e11]
   cbv
   rw[e7]
   cbv
   rw[e8]
   cbv
   rw[znn]
   cbv
   rw[e9]
   cbv
   rw[e10]
   cbv
   rw[e13]
   cbv
   rw[e14,e12]
   cbv
   rw[e15]
   refine⟨(i1,f'),id,⟨by show i1<=n;omega,hnext⟩,(by show n-i1<n-i;omega),?_⟩
   exact wkid
 ·obtain rfl:i=n:=by omega
  rw[f1f i i hlt]
  cbv
  have e:ws r 9=ws f 9:=V_inj hr (fun j _=>by rw[hf j];exact hexw_lt _ _) (by
   rw[hrV,show V 9 f=V 9 (hexw (x%16^i))from Dg.num_congr 9 fun j _=>hf j,V_hexw]
   refine(Nat.mod_eq_of_lt (Nat.lt_of_lt_of_le (Nat.mod_lt _ (Nat.pow_pos (by decide))) ?_)).symm
   refine Nat.le_trans (Nat.pow_le_pow_right (by decide) hn2) (Nat.le_of_eq (by decide)))
  exact hK _ _ _ (by rw[e];rfl)
theorem hexS_size(x n:Nat):(hexS x n).size=n:=by
 show((List.range n).map _).toArray.size=n
 simp
theorem hexS_at(x n i:Nat)(h:i<n):(hexS x n)[n-1-i]? =some (hexc (x/16^i%16)):=by
 have hs:n-1-i<(hexS x n).size:=by rw[hexS_size];omega
 rw[getElem?_pos (hexS x n) (n-1-i) hs]
 have hl:n-1-i<((List.range n).map fun i=>hexc (x/16^(n-1-i)%16)).length:=by simp;omega
 have e:(hexS x n)[n-1-i]'hs=((List.range n).map fun i=>hexc (x/16^(n-1-i)%16))[n-1-i]'hl:=rfl
 rw[e,List.getElem_map,List.getElem_range,show n-1-(n-1-i)=i by omega]
theorem cHexS{P:Program}(hP:P=Tryz.prog)(x n:Nat)(hn2:n<=144)(r:Nat->Nat)(hr:Wn 9 r)(hrV:V 9 r=x%16^n):
 Con P 59 [.str (hexS x n)] [] 0 [] (fun v _ _=>v= .agg (ws r 9)):=
 cHex hP (hexS x n) n x (hexS_size x n) hn2 (fun i h=>hexS_at x n i h) r hr hrV
theorem fld_num(k:Nat)(h:1<=k/\k<=15):primeB (Int.ofNat k)=hexS (primeN k) (primeL k)/\0<primeL k/\primeL k<=144/\2<=primeN k/\primeN k<16^primeL k:=by
 obtain⟨h1,h2⟩:=h
 have:k=1\/k=2\/k=3\/k=4\/k=5\/k=6\/k=7\/k=8\/k=9\/k=10\/k=11\/k=12\/k=13\/k=14\/k=15:=by omega
 rcases this with rfl|rfl|rfl|rfl|rfl|rfl|rfl|rfl|rfl|rfl|rfl|rfl|rfl|rfl|rfl<;>exact⟨rfl,by decide,by decide,by decide +kernel,by decide +kernel⟩
theorem cFOfL{P:Program}(hP:P=Tryz.prog)(k:Nat)(hk:1<=k/\k<=15):
 ∃p d n s,Wn 9 p/\V 9 p=primeN k/\Dv p d n s/\Con P 57 [.int .i64 (.ofNat k)] [] 0 [] (fun v L m=>v= .ptr 4 0/\L=[⟨0,ws p 9,25⟩,⟨2,[.ptr 3 0],118⟩,⟨1,ws p 9,25⟩,⟨3,dcells d n s,215⟩,⟨4,fcells p 3,120⟩]/\m=5):=by
 obtain⟨k1,k2,k3,k4,k5⟩:=fld_num k hk
 have k6:primeN k<0x10000000000000000^9:=Nat.lt_of_lt_of_le k5 (Nat.le_trans (Nat.pow_le_pow_right (by decide) k3) (Nat.le_of_eq (by decide)))
 obtain⟨p,hp,hpV⟩:=exV 9 _ k6
 obtain⟨n,hn⟩:=used_ex p 9
 have hn0:0<n:=by
  rcases Nat.eq_zero_or_pos n with h|h
  ·have e:V 9 p=0:=by rw[V_used hn,h];rfl
   rw[hpV]at e;omega
  ·exact h
 obtain⟨d,s,hD,hBy⟩:=cBy hP p n hp hn hn0
 refine⟨p,d,n,s,hp,hpV,hD,?_⟩
 obtain⟨b,hb⟩:=exq (hexS (primeN k) (primeL k))
 have hbs:b.size≠0:=by rw[hb,hexS_size];omega
 have hPr:=cPrime hP (Int.ofNat k) b (by rw[hb,k1])
 have hH:=cHexS hP (primeN k) (primeL k) k3 p hp (by rw[hpV,Nat.mod_eq_of_lt k5])
 rw[<-hb]at hH
 clear hb k1 k5 k6 hpV hD hn
 refine cof hP Tryz.func57 (bdb _ rfl) (bkb rfl) ?_
 intro A g K hA hg hK
 obtain⟨_,_,_,_,_,_,_,_,_,_,_,scmp⟩:=A
 cbv
 refine cva rfl hg rfl rfl hPr ?_
 rintro _ _ _ rfl
 cbv
 have hne:scmp .eql b ⟨⟨[]⟩⟩=false:=by
  have e:scmp=Ar.real.scmp:=congrArg Ar.scmp hA
  rw[e]
  show strCmp .eql b ⟨⟨[]⟩⟩=false
  unfold strCmp
  simp only
  rw[beq_eq_false_iff_ne]
  intro h
  rw[ByteArray.toList_eq,ByteArray.toList_eq]at h
  refine hbs ?_
  show b.data.toList.length=0
  rw[h];rfl
 rw[hne]
 cbv
 refine cva rfl hg rfl rfl hH ?_
 rintro _ _ _ rfl
 cbv
 refine reg_A (hP▸tblOk) hA hg (hP▸mixed) rfl rfl ?_
 cbv
 refine stepDn (n':=4) (en_new rfl hg rfl rfl hBy id rfl trivial rfl (val:= .agg [.ptr 2 0]) (NB:=[⟨1,[.ptr 2 0],118⟩,⟨0,ws p 9,25⟩,⟨2,dcells d n s,215⟩]) (n:=1) (n1:=3) (fun _ _ _ h=>⟨h.1,h.2.1,h.2.2⟩) rfl rfl (fun l h1 h2=> ?_)) (by decide) rfl ?_ ?_
 rotate_left
 ·show [2,1,3].Nodup
  decide
 ·cbv
  exact hK _ _ _ ⟨rfl,rfl,rfl⟩
 ·have h3:l=0\/l=1\/l=2:=by omega
  rcases h3 with rfl|rfl|rfl
  ·exact⟨_,List.mem_cons_of_mem _ List.mem_cons_self,rfl⟩
  ·exact⟨_,List.mem_cons_self,rfl⟩
  ·exact⟨_,List.mem_cons_of_mem _ (List.mem_cons_of_mem _ List.mem_cons_self),rfl⟩
theorem cFOf{P:Program}(hP:P=Tryz.prog)(k:Nat)(hk:1<=k/\k<=15):
 ∃p d n s,Wn 9 p/\V 9 p=primeN k/\Dv p d n s/\Con P 57 [.int .i64 (.ofNat k)] [] 0 [] (fun v L m=>v= .ptr 0 0/\L=[⟨0,fcells p 1,120⟩,⟨1,dcells d n s,215⟩]/\m=2):=by
 obtain⟨p,d,n,s,h1,h2,h3,h4⟩:=cFOfL hP k hk
 refine⟨p,d,n,s,h1,h2,h3,h4.weak fun v L m h=>⟨fun l=>4-l,.ptr 0 0,[⟨0,fcells p 1,120⟩,⟨1,dcells d n s,215⟩],2,?_,rfl,rfl,rfl⟩⟩
 obtain⟨rfl,rfl,rfl⟩:=h
 exact wkr ⟨rfl,rfl,trivial⟩ ⟨rfl,rfl,rfl,rfl,rfl,rfl,rfl,rfl,trivial⟩ rfl rfl rfl
theorem cFOf0{P:Program}(hP:P=Tryz.prog)(x:Int)(hx:primeB x=⟨⟨[]⟩⟩):Con P 57 [.int .i64 x] [] 0 [] (fun v _ _=>v= .nilp):=by
 have hPr:=cPrime hP x ⟨⟨[]⟩⟩ hx.symm
 refine cof hP Tryz.func57 (bdb _ rfl) (bkb rfl) ?_
 intro A g K hA hg hK
 obtain⟨_,_,_,_,_,_,_,_,_,_,_,scmp⟩:=A
 cbv
 refine cva rfl hg rfl rfl hPr ?_
 rintro _ _ _ rfl
 cbv
 have hne:scmp .eql ⟨⟨[]⟩⟩ ⟨⟨[]⟩⟩=true:=by
  have e:scmp=Ar.real.scmp:=congrArg Ar.scmp hA
  rw[e]
  show strCmp .eql ⟨⟨[]⟩⟩ ⟨⟨[]⟩⟩=true
  unfold strCmp
  simp only
  exact beq_self_eq_true _
 rw[hne]
 cbv
 exact hK _ _ _ rfl
def rowA:Nat->Nat
 |1=>0
 |2=>0
 |3=>0
 |4=>0
 |5=>0
 |6=>0
 |7=>0x340e7be2a280eb74e2be61bada745d97e8f7c300
 |8=>0x68a5e62ca9ce6c1c299803a6c1530b514e182ad8b0042a59cad29f43
 |9=>0x7d5a0975fc2c3057eef67530417affe7fb8055c126dc5c6ce94a4b44f330b5d9
 |10=>0x3ee30b568fbab0f883ccebd46d3f3bb8a2a73513f5eb79da66190eb085ffa9f492f375a97d860eb4
 |11=>0x7bc382c63d8c150c3c72080ace05afa0c2bea28e4fb22787139165efba91f90f8aa5814a503ad4eb04a8c7dd22ce2826
 |12=>0x7830a3318b603b89e2327145ac234cc594cbdd8d3df91610a83441caea9863bc2ded5d5aa8253aa10a2ef1c98b9ac8b57f1117a72bf2c7b9e7c1ac4d77fc94ca
 |13=>0
 |14=>0
 |15=>117
 |_=>0
def rowAL:Nat->Nat
 |1=>0
 |2=>0
 |3=>0
 |4=>0
 |5=>0
 |6=>1
 |7=>40
 |8=>56
 |9=>64
 |10=>80
 |11=>96
 |12=>128
 |13=>0
 |14=>1
 |15=>2
 |_=>0
def rowB:Nat->Nat
 |1=>0x64210519e59c80e70fa7e9ab72243049feb8deecc146b9b1
 |2=>0xb4050a850c04b3abf54132565044b0b7d7bfd8ba270b39432355ffb4
 |3=>0x5ac635d8aa3a93e7b3ebbd55769886bc651d06b0cc53b0f63bce3c3e27d2604b
 |4=>0xb3312fa7e23ee7e4988e056be3f82d19181d9c6efe8141120314088f5013875ac656398d8a2ed19d2a85c8edd3ec2aef
 |5=>0x51953eb9618e1c9a1f929a21a0b68540eea2da725b99b315f3b8b489918ef109e156193951ec7e937b1652c0bd3bb1bf073573df883d2c34f1ef451fd46b503f00
 |6=>7
 |7=>0x1e589a8595423412134faa2dbdec95c8d8675e58
 |8=>0x2580f63ccfe44138870713b1a92369e33e2135d266dbb372386c400b
 |9=>0x26dc5c6ce94a4b44f330b5d9bbd77cbf958416295cf7e1ce6bccdc18ff8c07b6
 |10=>0x520883949dfdbc42d3ad198640688a6fe13f41349554b49acc31dccd884539816f5eb4ac8fb1f1a6
 |11=>0x4a8c7dd22ce28268b39b55416f0447c2fb77de107dcd2a62e880ea53eeb62d57cb4390295dbc9943ab78696fa504c11
 |12=>0x3df91610a83441caea9863bc2ded5d5aa8253aa10a2ef1c98b9ac8b57f1117a72bf2c7b9e7c1ac4d77fc94cadc083e67984050b75ebae5dd2809bd638016f723
 |13=>26
 |14=>13
 |15=>8
 |_=>0
def rowBL:Nat->Nat
 |1=>48
 |2=>56
 |3=>64
 |4=>96
 |5=>132
 |6=>1
 |7=>40
 |8=>56
 |9=>64
 |10=>80
 |11=>96
 |12=>128
 |13=>2
 |14=>1
 |15=>1
 |_=>0
def rowN:Nat->Nat
 |1=>0xffffffffffffffffffffffff99def836146bc9b1b4d22831
 |2=>0xffffffffffffffffffffffffffff16a2e0b8f03e13dd29455c5c2a3d
 |3=>0xffffffff00000000ffffffffffffffffbce6faada7179e84f3b9cac2fc632551
 |4=>0xffffffffffffffffffffffffffffffffffffffffffffffffc7634d81f4372ddf581a0db248b0a77aecec196accc52973
 |5=>0x1fffffffffffffffffffffffffffffffffffffffffffffffffffffffffffffffffa51868783bf2f966b7fcc0148f709a5d03bb5c9b8899c47aebb6fb71e91386409
 |6=>0xfffffffffffffffffffffffffffffffebaaedce6af48a03bbfd25e8cd0364141
 |7=>0xe95e4a5f737059dc60df5991d45029409e60fc09
 |8=>0xd7c134aa264366862a18302575d0fb98d116bc4b6ddebca3a5a7939f
 |9=>0xa9fb57dba1eea9bc3e660a909d838d718c397aa3b561a6f7901e0e82974856a7
 |10=>0xd35e472036bc4fb7e13c785ed201e065f98fcfa5b68f12a32d482ec7ee8658e98691555b44c59311
 |11=>0x8cb91e82a3386d280f5d6f7e50e641df152f7109ed5456b31f166e6cac0425a7cf3ab6af6b7fc3103b883202e9046565
 |12=>0xaadd9db8dbe9c48b3fd4e6ae33c9fc07cb308db3b3c9d20ed6639cca70330870553e5c414ca92619418661197fac10471db1d381085ddaddb58796829ca90069
 |13=>223
 |14=>211
 |15=>229
 |_=>0
def rowNL:Nat->Nat
 |1=>48
 |2=>56
 |3=>64
 |4=>96
 |5=>132
 |6=>64
 |7=>40
 |8=>56
 |9=>64
 |10=>80
 |11=>96
 |12=>128
 |13=>2
 |14=>2
 |15=>2
 |_=>0
def rowX:Nat->Nat
 |1=>0x188da80eb03090f67cbf20eb43a18800f4ff0afd82ff1012
 |2=>0xb70e0cbd6bb4bf7f321390b94a03c1d356c21122343280d6115c1d21
 |3=>0x6b17d1f2e12c4247f8bce6e563a440f277037d812deb33a0f4a13945d898c296
 |4=>0xaa87ca22be8b05378eb1c71ef320ad746e1d3b628ba79b9859f741e082542a385502f25dbf55296c3a545e3872760ab7
 |5=>0xc6858e06b70404e9cd9e3ecb662395b4429c648139053fb521f828af606b4d3dbaa14b5e77efe75928fe1dc127a2ffa8de3348b3c1856a429bf97e7e31c2e5bd66
 |6=>0x79be667ef9dcbbac55a06295ce870b07029bfcdb2dce28d959f2815b16f81798
 |7=>0xbed5af16ea3f6a4f62938c4631eb5af7bdbcdbc3
 |8=>0xd9029ad2c7e5cf4340823b2a87dc68c9e4ce3174c1e6efdee12c07d
 |9=>0x8bd2aeb9cb7e57cb2c4b482ffc81b7afb9de27e1e3bd23c23a4453bd9ace3262
 |10=>0x43bd7e9afb53d8b85289bcc48ee5bfe6f20137d10a087eb6e7871e2a10a599c710af8d0d39e20611
 |11=>0x1d1c64f068cf45ffa2a63a81b7c13f6b8847a3e77ef14fe3db7fcafe0cbd10e8e826e03436d646aaef87b2e247d4af1e
 |12=>0x81aee4bdd82ed9645a21322e9c4c6a9385ed9f70b5d916c1b43b62eef4d0098eff3b1f78e2d0d48d50d1687b93b97d5f7c6d5047406a5e688b352209bcb9f822
 |13=>2
 |14=>3
 |15=>0
 |_=>0
def rowXL:Nat->Nat
 |1=>48
 |2=>56
 |3=>64
 |4=>96
 |5=>132
 |6=>64
 |7=>40
 |8=>56
 |9=>64
 |10=>80
 |11=>96
 |12=>128
 |13=>1
 |14=>1
 |15=>1
 |_=>0
def rowY:Nat->Nat
 |1=>0x7192b95ffc8da78631011ed6b24cdd573f977a11e794811
 |2=>0xbd376388b5f723fb4c22dfe6cd4375a05a07476444d5819985007e34
 |3=>0x4fe342e2fe1a7f9b8ee7eb4a7c0f9e162bce33576b315ececbb6406837bf51f5
 |4=>0x3617de4a96262c6f5d9e98bf9292dc29f8f41dbd289a147ce9da3113b5f0b8c00a60b1ce1d7e819d7a431d7c90ea0e5f
 |5=>0x11839296a789a3bc0045c8a5fb42c7d1bd998f54449579b446817afbd17273e662c97ee72995ef42640c550b9013fad0761353c7086a272c24088be94769fd16650
 |6=>0x483ada7726a3c4655da4fbfc0e1108a8fd17b448a68554199c47d08ffb10d4b8
 |7=>0x1667cb477a1a8ec338f94741669c976316da6321
 |8=>0x58aa56f772c0726f24c6b89e4ecdac24354b9e99caa3f6d3761402cd
 |9=>0x547ef835c3dac4fd97f8461a14611dc9c27745132ded8e545c1d54c72f046997
 |10=>0x14fdd05545ec1cc8ab4093247f77275e0743ffed117182eaa9c77877aaac6ac7d35245d1692e8ee1
 |11=>0x8abe1d7520f9c2a45cb1eb8e95cfd55262b70b29feec5864e19c054ff99129280e4646217791811142820341263c5315
 |12=>0x7dde385d566332ecc0eabfa9cf7822fdf209f70024a57b1aa000c55b881f8111b2dcde494a5f485e5bca4bd88a2763aed1ca2b2fa8f0540678cd1e0f3ad80892
 |13=>84
 |14=>47
 |15=>41
 |_=>0
def rowYL:Nat->Nat
 |1=>48
 |2=>56
 |3=>64
 |4=>96
 |5=>132
 |6=>64
 |7=>40
 |8=>56
 |9=>64
 |10=>80
 |11=>96
 |12=>128
 |13=>2
 |14=>2
 |15=>2
 |_=>0
def rowAS(k:Nat):ByteArray:=if rowAL k=0 then⟨⟨[45,51]⟩⟩else hexS (rowA k) (rowAL k)
theorem cRows{P:Program}(hP:P=Tryz.prog)(k:Nat)(hk:1<=k/\k<=15)(a b n x y:ByteArray)(ha:a=rowAS k)(hb:b=hexS (rowB k) (rowBL k))(hn:n=hexS (rowN k) (rowNL k))(hx:x=hexS (rowX k) (rowXL k))(hy:y=hexS (rowY k) (rowYL k)):
 Con P 58 [.int .i64 (.ofNat k)] [] 0 [] (fun v _ _=>v= .agg [.str a,.str b,.str n,.str x,.str y]):=by
 have:k=1\/k=2\/k=3\/k=4\/k=5\/k=6\/k=7\/k=8\/k=9\/k=10\/k=11\/k=12\/k=13\/k=14\/k=15:=by omega
 refine cof hP Tryz.func58 (bdb _ rfl) (bkb rfl) ?_
 intro A g K hA hg hK
 obtain⟨_,_,cmp⟩:=A
 have f:∀y z,cmp .eql y z=decide (y=z):=fun y z=>congrFun (congrFun (congrFun (cmp_of hA) .eql) y) z
 rcases this with rfl|rfl|rfl|rfl|rfl|rfl|rfl|rfl|rfl|rfl|rfl|rfl|rfl|rfl|rfl<;>(cbv;repeat (rw[f];cbv))<;>exact hK _ _ _ (by rw[ha,hb,hn,hx,hy];kernel_rfl)
end Go.Proofs.YtdhmihfefgcbeaaGreat
