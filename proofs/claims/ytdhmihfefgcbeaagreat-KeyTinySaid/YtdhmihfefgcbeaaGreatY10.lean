/-
  This text proves what these texts prove: Ne, Nf, Ng, Nh. Conditions: those of each theorem.
-/
import Derived.Test.YtdhmihfefgcbeaaGreatY09
set_option maxHeartbeats 8000000
set_option linter.all false
namespace Go.Proofs.YtdhmihfefgcbeaaGreat
open Go.Vg Go.RowKit
set_option maxRecDepth 200000
set_option cbv.maxSteps 100000000
def Vw(at_ n:Nat)(f:Nat->Nat):Nat:=V n (fun i=>f (at_+i))
theorem Vw_snoc(at_ n:Nat)(f:Nat->Nat):Vw at_ (n+1) f=Vw at_ n f+f (at_+n)*0x10000000000000000^n:=rfl
theorem Vw_upd{at_ n v:Nat}{f:Nat->Nat}:Vw at_ (n+1) (fun j=>if j=at_+n then v else f j)=Vw at_ n f+v*0x10000000000000000^n:=by
 rw[Vw_snoc]
 simp only[if_pos]
 congr 1
 exact Dg.num_congr n fun i hi=>if_neg (by omega)
theorem Vw_lt{at_ n N:Nat}{f:Nat->Nat}(h:Wn N f)(hn:at_+n<=N):Vw at_ n f<0x10000000000000000^n:=V_lt fun j hj=>h (at_+j) (by omega)
section
variable {A:Ar}
theorem getWx(hA:A=Ar.real)(K:IntKind){n:Nat}(f:Nat->Nat)(E:List SV){k:Nat}(h:k<n):A.get (lst K (fun j=>Int.ofNat (f j)) 0 n++E) k=some (.int K (Int.ofNat (f k))):=by
 rw[get_of hA,List.getElem?_append_left (by rw[lle];exact h),lst_get _ _ h,Nat.zero_add]
end
def dcells(d:Nat->Nat)(n s:Nat):List SV:=lst .u64 (fun j=>Int.ofNat (d j)) 0 9++[.int .i64 (.ofNat n),.int .i64 (.ofNat s)]
theorem cBack{P:Program}(hP:P=Tryz.prog){t:TypeId}(d f:Nat->Nat)(n s at_:Nat)(hd:Wn 9 d)(hf:Wn 19 f)(hn:n<=9)(hat:at_+n<19):
 Con P 177 [.ptr 0 0,.slice 1 0 19 19,.int .i64 (.ofNat at_)] [⟨0,dcells d n s,215⟩,⟨1,ws f 19,t⟩] 2 [1]
  (fun v L m=>∃q c,Wn 19 q/\c<=1/\(∀j,j<at_\/at_+n<j->q j=f j)/\Vw at_ (n+1) q+c*0x10000000000000000^(n+1)=Vw at_ (n+1) f+V n d/\v= .bool (decide (c=1))/\L=[⟨0,dcells d n s,215⟩,⟨1,ws q 19,t⟩]/\m=2):=by
 refine cof hP Tryz.func177 (bdb _ rfl) (bkb rfl) ?_
 intro A g K hA hg hK
 obtain⟨bin,_,cmp,_,_,ix,_,_,_,_,_,_,_,_,_,off⟩:=A
 have f1t:∀x y,x<y->cmp .lss (.ofNat x) (.ofNat y)=true:=fun x y h=>lss_t hA h
 have f1f:∀x y,¬x<y->cmp .lss (.ofNat x) (.ofNat y)=false:=fun x y h=>lss_f hA h
 have f2:∀i,i<9->ix (.ofNat i) 9=some i:=fun i h=>ix_of hA h
 have f2':∀i,i<19->ix (.ofNat i) 19=some i:=fun i h=>ix_of hA h
 have f3:∀i,off 0 i 1=i:=fun i=>(off_of hA 0 i 1).trans (by omega)
 have f4:=fun(f:Nat->Nat) (E:List SV) (k:Nat) (h:k<9)=>getWx hA .u64 (n:=9) f E h
 have f4':=fun(f:Nat->Nat) (k:Nat) (h:k<19)=>getW hA .u64 (n:=19) f h
 have f5:=fun(f g:Nat->Nat) (k v:Nat) (h:k<19) (e:g=fun j=>if j=k then v else f j)=>splW hA .u64 (n:=19) f g h e
 have f6:∀i,i<9->bin .add .i64 (.ofNat i) 1=Int.ofNat (i+1):=fun i h=>add_of hA (by omega)
 have f8:∀x y,x+y<19->bin .add .i64 (.ofNat x) (.ofNat y)=Int.ofNat (x+y):=fun x y h=>addI hA (by omega)
 simp only[lst,Nat.reduceAdd,List.cons_append,List.nil_append]at f4 f4' f5
 cbv
 refine lpb (Nat×(Nat->Nat)×Nat) (fun s=>s.1<=n/\Wn 19 s.2.1/\s.2.2<=1/\(∀j,j<at_\/at_+s.1<=j->s.2.1 j=f j)/\Vw at_ s.1 s.2.1+s.2.2*0x10000000000000000^s.1=Vw at_ s.1 f+V s.1 d) (fun s=>n-s.1)
  (fun s=> [(13,.int .i64 (.ofNat s.1)),(7,.int .u64 (.ofNat s.2.2))]) [0,1,2,6,12] (fun s=> [(1,ws s.2.1 19)]) (0,f,0) ⟨Nat.zero_le _,hf,Nat.zero_le _,fun _ _=>rfl,rfl⟩ ?_ ?_
 ·exact wkid
 rintro⟨i,q,c⟩ ⟨hi,hq,hc,hqf,hv⟩
 have hi:i<=n:=hi
 have hq:Wn 19 q:=hq
 have hc:c<=1:=hc
 have hqf:∀j,j<at_\/at_+i<=j->q j=f j:=hqf
 have hv:Vw at_ i q+c*0x10000000000000000^i=Vw at_ i f+V i d:=hv
 cbv
 by_cases hlt:i<n
 ·rw[f1t i n hlt]
  have i9:i<9:=by omega
  have e8:=f8 at_ i (by omega)
  obtain⟨k,hk⟩:=exq (at_+i)
  rw[<-hk]at e8
  have k19:k<19:=by omega
  obtain⟨w,hw⟩:=exq ((q k+d i+c)%0x10000000000000000)
  obtain⟨c',hc'⟩:=exq ((q k+d i+c)/0x10000000000000000)
  obtain⟨q',hq'⟩:=exq (fun j=>if j=k then w else q j:Nat->Nat)
  have e4:=f4 d [.int .i64 (.ofNat n),.int .i64 (.ofNat s)] i i9
  cbv
  refine rgM hP hA hg fun mk _=> ?_
  cbv
  rw[e8]
  cbv
  rw[f2' k k19]
  cbv
  rw[f3 k,f4' q k k19]
  cbv
  rw[f2 i i9]
  cbv
  rw[f3 i,e4]
  cbv
  refine stepD (en_ext rfl hg rfl rfl (xAdd64 hP (q k) (d i) c w c' hc hw hc')) ?_
  cbv
  rw[f2' k k19]
  cbv
  rw[f3 k,f5 q q' k w k19 hq']
  cbv
  rw[f6 i i9]
  refine⟨(i+1,q',c'),id,⟨hlt,?_,?_,?_,?_⟩,(by show n-(i+1)<n-i;omega),?_⟩
  ·intro j hj
   show q' j<_
   rw[hq']
   by_cases hjk:j=k
   ·simp only[hjk,if_pos];rw[hw];exact Nat.mod_lt _ (by decide)
   ·simp only[if_neg hjk];exact hq j hj
  ·have h1:=hq k k19
   have h2:=hd i i9
   show c'<=1
   rw[hc'];omega
  ·intro j hj
   have hj:j<at_\/at_+(i+1)<=j:=hj
   show q' j=f j
   rw[hq']
   simp only[if_neg (show j≠k by omega)]
   exact hqf j (by omega)
  ·show Vw at_ (i+1) q'+c'*0x10000000000000000^(i+1)=Vw at_ (i+1) f+V (i+1) d
   rw[hq',hk,Vw_upd,Vw_snoc at_ i f,nsn d]
   have h1:q k=f k:=hqf k (by omega)
   rw[hk]at h1
   rw[hk,h1]at hw hc'
   exact add_word hv hw hc' (Nat.pow_succ ..)
  ·exact wkid
 ·rw[f1f i n hlt]
  obtain rfl:i=n:=by omega
  have e8:=f8 at_ i (by omega)
  obtain⟨k,hk⟩:=exq (at_+i)
  rw[<-hk]at e8
  have k19:k<19:=by omega
  obtain⟨w,hw⟩:=exq ((q k+0+c)%0x10000000000000000)
  obtain⟨c',hc'⟩:=exq ((q k+0+c)/0x10000000000000000)
  obtain⟨q',hq'⟩:=exq (fun j=>if j=k then w else q j:Nat->Nat)
  obtain⟨o,ho⟩:=exq (decide (c'=1))
  have e9:cmp .eql (.ofNat c') 1=o:=(eqlI hA c' 1).trans ho.symm
  cbv
  refine rgM hP hA hg fun mk _=> ?_
  cbv
  rw[e8]
  cbv
  rw[f2' k k19]
  cbv
  rw[f3 k,f4' q k k19]
  cbv
  refine stepD (en_ext rfl hg rfl rfl (xAdd64 hP (q k) 0 c w c' hc hw hc')) ?_
  cbv
  rw[f2' k k19]
  cbv
  rw[f3 k,f5 q q' k w k19 hq']
  cbv
  rw[e9]
  refine hK _ _ _ ⟨q',c',?_,?_,?_,?_,by rw[ho];rfl,rfl,rfl⟩
  ·intro j hj
   rw[hq']
   by_cases hjk:j=k
   ·simp only[hjk,if_pos];rw[hw];exact Nat.mod_lt _ (by decide)
   ·simp only[if_neg hjk];exact hq j hj
  ·have h1:=hq k k19
   rw[hc'];omega
  ·intro j hj
   rw[hq']
   simp only[if_neg (show j≠k by omega)]
   exact hqf j (by omega)
  ·rw[hq',hk,Vw_upd,Vw_snoc at_ i f]
   have h1:q k=f k:=hqf k (by omega)
   rw[hk]at h1
   rw[hk,h1]at hw hc'
   have h2:=add_word hv hw hc' (Nat.pow_succ ..)
   rw[Nat.zero_mul,Nat.add_zero]at h2
   rw[h2]
theorem take_word{x y c h l l1 c1:Nat}(hx:x<0x10000000000000000)(hy:y<0x10000000000000000)(hc:c<0x10000000000000000)(hh:h=x*y/0x10000000000000000)(hl:l=x*y%0x10000000000000000)
 (hl1:l1=(l+c+0)%0x10000000000000000) (hc1:c1=(l+c+0)/0x10000000000000000):
 x*y+c=l1+(h+c1)*0x10000000000000000/\h+c1<0x10000000000000000/\l1<0x10000000000000000:=by
 have h1:x*y<=0xffffffffffffffff*0xffffffffffffffff:=Nat.mul_le_mul (by omega) (by omega)
 generalize x*y=p at *
 omega
theorem sub_one_word{w x y c s:Nat}(hx:x<0x10000000000000000)(hy:y<0x10000000000000000)(hc:c<=1)(hw:w=(x+0x10000000000000000-y-c)%0x10000000000000000)(hs:s=if x<y+c then 1 else 0):w+y+c=x+s*0x10000000000000000/\s<=1/\w<0x10000000000000000:=by
 subst hs
 split<;>omega
theorem take_step{Vq Vf D qq b c P w l fi di b' c':Nat}(hv:Vq+qq*D=Vf+(b+c)*P)(e1:qq*di+c=l+c'*0x10000000000000000)(e2:w+l+b=fi+b'*0x10000000000000000):Vq+w*P+qq*(D+di*P)=(Vf+fi*P)+(b'+c')*(P*0x10000000000000000):=by
 have h1:Vq+w*P+qq*(D+di*P)=(Vq+qq*D)+(w+qq*di)*P:=by grind
 have h2:(Vf+fi*P)+(b'+c')*(P*0x10000000000000000)=Vf+(fi+b'*0x10000000000000000+c'*0x10000000000000000)*P:=by grind
 rw[h1,h2,hv,<-e2]
 have h3:(w+l+b+c'*0x10000000000000000)*P=(w+b+(l+c'*0x10000000000000000))*P:=by congr 1;omega
 rw[h3,<-e1]
 grind
theorem take_last{Vq Vf X b c P w fi b':Nat}(hv:Vq+X=Vf+(b+c)*P)(e2:w+c+b=fi+b'*0x10000000000000000):Vq+w*P+X=(Vf+fi*P)+b'*(P*0x10000000000000000):=by
 have h1:Vq+w*P+X=(Vq+X)+w*P:=by omega
 have h2:(Vf+fi*P)+b'*(P*0x10000000000000000)=Vf+(fi+b'*0x10000000000000000)*P:=by grind
 rw[h1,h2,hv,<-e2]
 grind
theorem cTake{P:Program}(hP:P=Tryz.prog){t:TypeId}(d f:Nat->Nat)(n s at_ x:Nat)(hd:Wn 9 d)(hf:Wn 19 f)(hn:n<=9)(hat:at_+n<19)(hx:x<0x10000000000000000):
 Con P 176 [.ptr 0 0,.slice 1 0 19 19,.int .i64 (.ofNat at_),.int .u64 (.ofNat x)] [⟨0,dcells d n s,215⟩,⟨1,ws f 19,t⟩] 2 [1]
  (fun v L m=>∃q c,Wn 19 q/\c<=1/\(∀j,j<at_\/at_+n<j->q j=f j)/\Vw at_ (n+1) q+x*V n d=Vw at_ (n+1) f+c*0x10000000000000000^(n+1)/\v= .bool (decide (c=1))/\L=[⟨0,dcells d n s,215⟩,⟨1,ws q 19,t⟩]/\m=2):=by
 refine cof hP Tryz.func176 (bdb _ rfl) (bkb rfl) ?_
 intro A g K hA hg hK
 obtain⟨bin,_,cmp,_,_,ix,_,_,_,_,_,_,_,_,_,off⟩:=A
 have f1t:∀x y,x<y->cmp .lss (.ofNat x) (.ofNat y)=true:=fun x y h=>lss_t hA h
 have f1f:∀x y,¬x<y->cmp .lss (.ofNat x) (.ofNat y)=false:=fun x y h=>lss_f hA h
 have f2:∀i,i<9->ix (.ofNat i) 9=some i:=fun i h=>ix_of hA h
 have f2':∀i,i<19->ix (.ofNat i) 19=some i:=fun i h=>ix_of hA h
 have f3:∀i,off 0 i 1=i:=fun i=>(off_of hA 0 i 1).trans (by omega)
 have f4:=fun(f:Nat->Nat) (E:List SV) (k:Nat) (h:k<9)=>getWx hA .u64 (n:=9) f E h
 have f4':=fun(f:Nat->Nat) (k:Nat) (h:k<19)=>getW hA .u64 (n:=19) f h
 have f5:=fun(f g:Nat->Nat) (k v:Nat) (h:k<19) (e:g=fun j=>if j=k then v else f j)=>splW hA .u64 (n:=19) f g h e
 have f6:∀i,i<9->bin .add .i64 (.ofNat i) 1=Int.ofNat (i+1):=fun i h=>add_of hA (by omega)
 have f7:∀x y,x+y<0x10000000000000000->bin .add .u64 (.ofNat x) (.ofNat y)=Int.ofNat (x+y):=fun x y h=>addU hA h
 have f8:∀x y,x+y<19->bin .add .i64 (.ofNat x) (.ofNat y)=Int.ofNat (x+y):=fun x y h=>addI hA (by omega)
 simp only[lst,Nat.reduceAdd,List.cons_append,List.nil_append]at f4 f4' f5
 cbv
 refine lpb (Nat×(Nat->Nat)×Nat×Nat) (fun s=>s.1<=n/\Wn 19 s.2.1/\s.2.2.1<=1/\s.2.2.2<0x10000000000000000/\(∀j,j<at_\/at_+s.1<=j->s.2.1 j=f j)/\Vw at_ s.1 s.2.1+x*V s.1 d=Vw at_ s.1 f+(s.2.2.1+s.2.2.2)*0x10000000000000000^s.1) (fun s=>n-s.1)
  (fun s=> [(19,.int .i64 (.ofNat s.1)),(9,.int .u64 (.ofNat s.2.2.1)),(10,.int .u64 (.ofNat s.2.2.2))]) [0,1,2,3,8,18] (fun s=> [(1,ws s.2.1 19)]) (0,f,0,0) ⟨Nat.zero_le _,hf,Nat.zero_le _,by show 0<_;decide,fun _ _=>rfl,?_⟩ ?_ ?_
 ·show Vw at_ 0 f+x*V 0 d=Vw at_ 0 f+(0+0)*_
  rw[show V 0 d=0 from rfl];simp
 ·exact wkid
 rintro⟨i,q,b,c⟩ ⟨hi,hq,hb,hc,hqf,hv⟩
 have hi:i<=n:=hi
 have hq:Wn 19 q:=hq
 have hb:b<=1:=hb
 have hc:c<0x10000000000000000:=hc
 have hqf:∀j,j<at_\/at_+i<=j->q j=f j:=hqf
 have hv:Vw at_ i q+x*V i d=Vw at_ i f+(b+c)*0x10000000000000000^i:=hv
 cbv
 by_cases hlt:i<n
 ·rw[f1t i n hlt]
  have i9:i<9:=by omega
  have e8:=f8 at_ i (by omega)
  obtain⟨k,hk⟩:=exq (at_+i)
  rw[<-hk]at e8
  have k19:k<19:=by omega
  obtain⟨h,hh⟩:=exq (x*d i/0x10000000000000000)
  obtain⟨l,hl⟩:=exq (x*d i%0x10000000000000000)
  obtain⟨l1,hl1⟩:=exq ((l+c+0)%0x10000000000000000)
  obtain⟨c1,hc1⟩:=exq ((l+c+0)/0x10000000000000000)
  obtain⟨w1,w2,w3⟩:=take_word hx (hd i i9) hc hh hl hl1 hc1
  have e7:=f7 h c1 w2
  obtain⟨cc,hcc⟩:=exq (h+c1)
  rw[<-hcc]at e7 w1 w2
  obtain⟨w,hw⟩:=exq ((q k+0x10000000000000000-l1-b)%0x10000000000000000)
  obtain⟨b',hb'⟩:=exq (if q k<l1+b then 1 else 0)
  obtain⟨u1,u2,u3⟩:=sub_one_word (hq k k19) w3 hb hw hb'
  obtain⟨q',hq'⟩:=exq (fun j=>if j=k then w else q j:Nat->Nat)
  have e4:=f4 d [.int .i64 (.ofNat n),.int .i64 (.ofNat s)] i i9
  cbv
  rw[f2 i i9]
  cbv
  rw[f3 i,e4]
  cbv
  refine cva rfl hg rfl rfl (cMul64 hP x (d i) h l hx (hd i i9) hh hl) ?_
  rintro _ _ _ rfl
  cbv
  refine step_ext rfl hg rfl rfl (xAdd64 hP l c 0 l1 c1 (by decide) hl1 hc1) ?_
  cbv
  rw[e7,e8]
  rw[f2' k k19]
  cbv
  rw[f3 k,f4' q k k19]
  cbv
  refine step_ext rfl hg rfl rfl (xSub64 hP (q k) l1 b w b' hb hw hb') ?_
  cbv
  rw[f2' k k19]
  cbv
  rw[f3 k,f5 q q' k w k19 hq']
  cbv
  rw[f6 i i9]
  refine⟨(i+1,q',b',cc),id,⟨hlt,?_,u2,w2,?_,?_⟩,(by show n-(i+1)<n-i;omega),?_⟩
  ·intro j hj
   show q' j<_
   rw[hq']
   by_cases hjk:j=k
   ·simp only[hjk,if_pos];exact u3
   ·simp only[if_neg hjk];exact hq j hj
  ·intro j hj
   have hj:j<at_\/at_+(i+1)<=j:=hj
   show q' j=f j
   rw[hq']
   simp only[if_neg (show j≠k by omega)]
   exact hqf j (by omega)
  ·show Vw at_ (i+1) q'+x*V (i+1) d=Vw at_ (i+1) f+(b'+cc)*0x10000000000000000^(i+1)
   rw[hq',hk,Vw_upd,Vw_snoc at_ i f,nsn d]
   have h1:q k=f k:=hqf k (by omega)
   rw[h1,hk]at u1
   exact take_step hv w1 u1
  ·exact wkid
 ·rw[f1f i n hlt]
  obtain rfl:i=n:=by omega
  have e8:=f8 at_ i (by omega)
  obtain⟨k,hk⟩:=exq (at_+i)
  rw[<-hk]at e8
  have k19:k<19:=by omega
  obtain⟨w,hw⟩:=exq ((q k+0x10000000000000000-c-b)%0x10000000000000000)
  obtain⟨b',hb'⟩:=exq (if q k<c+b then 1 else 0)
  obtain⟨u1,u2,u3⟩:=sub_one_word (hq k k19) hc hb hw hb'
  obtain⟨q',hq'⟩:=exq (fun j=>if j=k then w else q j:Nat->Nat)
  obtain⟨o,ho⟩:=exq (decide (b'=1))
  have e9:cmp .eql (.ofNat b') 1=o:=(eqlI hA b' 1).trans ho.symm
  cbv
  refine rgM hP hA hg fun mk _=> ?_
  cbv
  rw[e8]
  cbv
  rw[f2' k k19]
  cbv
  rw[f3 k,f4' q k k19]
  cbv
  refine stepD (en_ext rfl hg rfl rfl (xSub64 hP (q k) c b w b' hb hw hb')) ?_
  cbv
  rw[f2' k k19]
  cbv
  rw[f3 k,f5 q q' k w k19 hq']
  cbv
  rw[e9]
  refine hK _ _ _ ⟨q',b',?_,u2,?_,?_,by rw[ho];rfl,rfl,rfl⟩
  ·intro j hj
   rw[hq']
   by_cases hjk:j=k
   ·simp only[hjk,if_pos];exact u3
   ·simp only[if_neg hjk];exact hq j hj
  ·intro j hj
   rw[hq']
   simp only[if_neg (show j≠k by omega)]
   exact hqf j (by omega)
  ·rw[hq',hk,Vw_upd,Vw_snoc at_ i f]
   have h1:q k=f k:=hqf k (by omega)
   rw[h1,hk]at u1
   exact take_last hv u1
theorem g_first{d f:Nat->Nat}{at_ m Q:Nat}(hf:Wn 19 f)(hat:at_+(m+1)<19)(hQ:Q*V (m+1) d<=Vw at_ (m+2) f):Q*d m<=f (at_+(m+1))*0x10000000000000000+f (at_+m):=
 Dg.guess1 (d:=d) (u:=fun i=>f (at_+i)) (by decide) (fun i hi=>hf _ (by omega)) hQ
theorem g_second{d f:Nat->Nat}{at_ p Q:Nat}(hf:Wn 19 f)(hat:at_+(p+2)<19)(hQ:Q*V (p+2) d<=Vw at_ (p+3) f):Q*(d (p+1)*0x10000000000000000+d p)<=(f (at_+(p+2))*0x10000000000000000+f (at_+(p+1)))*0x10000000000000000+f (at_+p):=
 Dg.guess2 (d:=d) (u:=fun i=>f (at_+i)) (by decide) (fun i hi=>hf _ (by omega)) hQ
theorem g_much{t d2 h l u2 q r Q:Nat}(e:q*t+r=h*0x10000000000000000+l)(hQ:Q*(t*0x10000000000000000+d2)<=(h*0x10000000000000000+l)*0x10000000000000000+u2)(much:r*0x10000000000000000+u2<q*d2)(hle:Q<=q):0<q/\Q<=q-1/\(q-1)*t+(r+t)=h*0x10000000000000000+l:=by
 have h0:0<q:=by
  rcases Nat.eq_zero_or_pos q with h|h
  ·subst h;rw[Nat.zero_mul]at much;omega
  ·exact h
 refine⟨h0,Dg.guess3 e hQ much hle,?_⟩
 obtain⟨p,rfl⟩:∃p,q=p+1:=⟨q-1,by omega⟩
 rw[Nat.add_mul,Nat.one_mul]at e
 rw[Nat.add_sub_cancel]
 omega
theorem pair_cmp{x y a b r u:Nat}(ha:a=x*y/0x10000000000000000)(hb:b=x*y%0x10000000000000000)(hu:u<0x10000000000000000):((a<r\/a=r/\b<=u)->x*y<=r*0x10000000000000000+u)/\(¬ (a<r\/a=r/\b<=u)->r*0x10000000000000000+u<x*y):=by
 generalize x*y=z at *
 constructor<;>intro h<;>omega
theorem cGuess{P:Program}(hP:P=Tryz.prog){t:TypeId}(d f:Nat->Nat)(m s at_ Q:Nat)(hd:Wn 9 d)(hf:Wn 19 f)(hn:m<9)(hat:at_+(m+1)<19)(htop:0<d m)(hQ:Q*V (m+1) d<=Vw at_ (m+2) f)(hQW:Q<0x10000000000000000):
 Con P 175 [.ptr 0 0,.slice 1 0 19 19,.int .i64 (.ofNat at_)] [⟨0,dcells d (m+1) s,215⟩,⟨1,ws f 19,t⟩] 2 []
  (fun v _ _=>∃q,Q<=q/\q<0x10000000000000000/\v= .int .u64 (.ofNat q)):=by
 obtain⟨n,hn1⟩:=exq (m+1)
 rw[<-hn1]
 refine cof hP Tryz.func175 (bdb _ rfl) (bkb rfl) ?_
 intro A g K hA hg hK
 obtain⟨bin,_,cmp,_,_,ix,_,_,_,_,_,_,_,_,_,off,_,_,sub⟩:=A
 have f2:∀i,i<9->ix (.ofNat i) 9=some i:=fun i h=>ix_of hA h
 have f2':∀i,i<19->ix (.ofNat i) 19=some i:=fun i h=>ix_of hA h
 have f3:∀i,off 0 i 1=i:=fun i=>(off_of hA 0 i 1).trans (by omega)
 have f4:=fun(f:Nat->Nat) (E:List SV) (k:Nat) (h:k<9)=>getWx hA .u64 (n:=9) f E h
 have f4':=fun(f:Nat->Nat) (k:Nat) (h:k<19)=>getW hA .u64 (n:=19) f h
 simp only[lst,Nat.reduceAdd,List.cons_append,List.nil_append]at f4 f4'
 have e4:=f4 d [.int .i64 (.ofNat n),.int .i64 (.ofNat s)] m hn
 have g1:bin .sub .i64 (.ofNat n) 1=Int.ofNat m:=(subI hA (a:=n) (b:=1) (by omega) (by omega)).trans (by rw[hn1];simp)
 obtain⟨k0,hk0⟩:=exq (at_+(m+1))
 obtain⟨k1,hk1⟩:=exq (at_+m)
 have g2:bin .add .i64 (.ofNat at_) (.ofNat n)=Int.ofNat k0:=(addI hA (by omega)).trans (by rw[hk0,hn1])
 have g3:bin .sub .i64 (.ofNat k0) 1=Int.ofNat k1:=(subI hA (a:=k0) (b:=1) (by omega) (by omega)).trans (congrArg Int.ofNat (by omega))
 have hh:=hf k0 (by omega)
 have hl:=hf k1 (by omega)
 have ht:=hd m hn
 have hQ1:=g_first hf hat hQ
 rw[<-hk0,<-hk1]at hQ1
 cbv
 refine rgM hP hA hg fun mk _=> ?_
 cbv
 rw[g1]
 cbv
 rw[f2 m hn]
 cbv
 rw[f3 m,e4]
 cbv
 refine rgM hP hA hg fun mk _=> ?_
 cbv
 rw[g2]
 cbv
 rw[f2' k0 (by omega)]
 cbv
 rw[f3 k0,f4' f k0 (by omega)]
 cbv
 rw[g2,g3]
 cbv
 rw[f2' k1 (by omega)]
 cbv
 rw[f3 k1,f4' f k1 (by omega)]
 cbv
 by_cases hge:d m<=f k0
 ·rw[show cmp .geq (.ofNat (f k0)) (.ofNat (d m))=true from geq_t hA hge]
  cbv
  exact hK _ _ _ ⟨0xffffffffffffffff,by omega,by decide,rfl⟩
 ·rw[show cmp .geq (.ofNat (f k0)) (.ofNat (d m))=false from geq_f hA hge]
  obtain⟨q0,hq0⟩:=exq ((f k0*0x10000000000000000+f k1)/d m)
  obtain⟨r0,hr0⟩:=exq ((f k0*0x10000000000000000+f k1)%d m)
  have hq0W:q0<0x10000000000000000:=by
   rw[hq0,Nat.div_lt_iff_lt_mul htop]
   have h1:=Nat.mul_le_mul_left 0x10000000000000000 (show f k0+1<=d m by omega)
   rw[Nat.mul_add,Nat.mul_one]at h1
   omega
  have hr0W:r0<0x10000000000000000:=Nat.lt_trans (hr0▸Nat.mod_lt _ htop) ht
  have hQq:Q<=q0:=by rw[hq0,Nat.le_div_iff_mul_le htop];exact hQ1
  have e0:q0*d m+r0=f k0*0x10000000000000000+f k1:=by rw[hq0,hr0,Nat.mul_comm];exact Nat.div_add_mod _ _
  cbv
  refine cva rfl hg rfl rfl (cDiv64 hP (f k0) (f k1) (d m) q0 r0 ht (by omega) hl hq0 hr0) ?_
  rintro _ _ _ rfl
  cbv
  clear hq0 hr0
  by_cases h1:n=1
  ·rw[show cmp .eql (.ofNat n) 1=true from eql_t hA (b:=1) h1]
   cbv
   exact hK _ _ _ ⟨q0,hQq,hq0W,rfl⟩
  ·rw[show cmp .eql (.ofNat n) 1=false from eql_f hA (b:=1) h1]
   obtain⟨p,rfl⟩:∃p,m=p+1:=⟨m-1,by omega⟩
   have hp9:p<9:=by omega
   have g4:bin .sub .i64 (.ofNat n) 2=Int.ofNat p:=(subI hA (a:=n) (b:=2) (by omega) (by omega)).trans (congrArg Int.ofNat (by omega))
   obtain⟨k2,hk2⟩:=exq (at_+p)
   have g5:bin .sub .i64 (.ofNat k0) 2=Int.ofNat k2:=(subI hA (a:=k0) (b:=2) (by omega) (by omega)).trans (congrArg Int.ofNat (by omega))
   have e5:=f4 d [.int .i64 (.ofNat n),.int .i64 (.ofNat s)] p hp9
   have hQ2:=g_second hf (by omega) hQ
   rw[<-hk2,show at_+(p+2)=k0 by omega,<-hk1]at hQ2
   have hu2:=hf k2 (by omega)
   generalize htop':d (p+1)=top at htop e0 hQ2 ht hge⊢
   cbv
   refine lpb (Nat×Nat) (fun s=>Q<=s.1/\s.1<0x10000000000000000/\s.2<0x10000000000000000/\s.1*top+s.2=f k0*0x10000000000000000+f k1) (fun s=>s.1) (fun s=> [(10,.int .u64 (.ofNat s.1)),(11,.int .u64 (.ofNat s.2))]) [0,1,2,6,7] (fun _=> []) (q0,r0) ⟨hQq,hq0W,hr0W,e0⟩ ?_ ?_
   ·exact wkid
   rintro⟨q,r⟩ hs
   have hs1:Q<=q:=hs.1
   have hs2:q<0x10000000000000000:=hs.2.1
   have hs3:r<0x10000000000000000:=hs.2.2.1
   have hs4:q*top+r=f k0*0x10000000000000000+f k1:=hs.2.2.2
   clear hs hQq hq0W hr0W e0
   obtain⟨a,ha⟩:=exq (q*d p/0x10000000000000000)
   obtain⟨b,hb⟩:=exq (q*d p%0x10000000000000000)
   obtain⟨c1,c2⟩:=pair_cmp (r:=r) ha hb hu2
   cbv
   refine rgM hP hA hg fun mk _=> ?_
   cbv
   rw[g4]
   cbv
   rw[f2 p hp9]
   cbv
   rw[f3 p,e5]
   cbv
   refine stepD (en_val rfl hg rfl rfl (cMul64 hP q (d p) a b hs2 (hd p hp9) ha hb) (fun _ _ _ h=>h) ⟨trivial,trivial,trivial⟩) ?_
   cbv
   by_cases hab:a<r\/a=r/\b<=f k2
   ·have fin:K (.int .u64 (.ofNat q)) [⟨0,dcells d n s,215⟩,⟨1,ws f 19,t⟩] 2:=hK _ _ _ ⟨q,hs1,hs2,rfl⟩
    rcases hab with h2|⟨h2,h3⟩
    ·rw[show cmp .lss (.ofNat a) (.ofNat r)=true from lss_t hA h2]
     cbv
     exact fin
    ·rw[show cmp .lss (.ofNat a) (.ofNat r)=false from lss_f hA (by omega)]
     cbv
     rw[show cmp .eql (.ofNat a) (.ofNat r)=true from eql_t hA h2]
     cbv
     rw[g2,g5]
     rw[f2' k2 (by omega)]
     cbv
     rw[f3 k2,f4' f k2 (by omega)]
     cbv
     rw[show cmp .leq (.ofNat b) (.ofNat (f k2))=true from leq_t hA h3]
     cbv
     exact fin
   ·obtain⟨z1,z2,z3⟩:=g_much hs4 hQ2 (c2 hab) hs1
    obtain⟨q',hq'⟩:=exq (q-1)
    rw[<-hq']at z2 z3
    have y1:bin .sub .u64 (.ofNat q) 1=Int.ofNat q':=sub64 hA (b:=1) (by decide) (by omega)
    obtain⟨s1,hs1'⟩:=exq ((r+top)%0x10000000000000000)
    have y2:bin .add .u64 (.ofNat r) (.ofNat top)=Int.ofNat s1:=add64 hA hs1'
    have tail:∀ (X:Prop),(s1<r->X)->(¬s1<r->s1=r+top->X)->X:=fun X h1 h2=>by
     by_cases h3:s1<r
     ·exact h1 h3
     ·exact h2 h3 (by omega)
    have go:cmp .lss (.ofNat a) (.ofNat r)=false:=lss_f hA (fun h=>hab (Or.inl h))
    rw[go]
    cbv
    by_cases har:a=r
    ·rw[show cmp .eql (.ofNat a) (.ofNat r)=true from eql_t hA har]
     cbv
     rw[g2,g5]
     rw[f2' k2 (by omega)]
     cbv
     rw[f3 k2,f4' f k2 (by omega)]
     cbv
     rw[show cmp .leq (.ofNat b) (.ofNat (f k2))=false from leq_f hA (fun h=>hab (Or.inr ⟨har,h⟩))]
     cbv
     rw[y1,y2]
     refine tail _ (fun h3=> ?_) (fun h3 h4=> ?_)
     ·rw[show cmp .lss (.ofNat s1) (.ofNat r)=true from lss_t hA h3]
      cbv
      exact hK _ _ _ ⟨q',z2,by omega,rfl⟩
     ·rw[show cmp .lss (.ofNat s1) (.ofNat r)=false from lss_f hA h3]
      cbv
      refine⟨(q',s1),id,⟨z2,by show q'<_;omega,by show s1<_;omega,by show q'*top+s1=_;rw[h4];exact z3⟩,(by show q'<q;omega),?_⟩
      exact wkid
    ·rw[show cmp .eql (.ofNat a) (.ofNat r)=false from eql_f hA har]
     cbv
     rw[y1,y2]
     refine tail _ (fun h3=> ?_) (fun h3 h4=> ?_)
     ·rw[show cmp .lss (.ofNat s1) (.ofNat r)=true from lss_t hA h3]
      cbv
      exact hK _ _ _ ⟨q',z2,by omega,rfl⟩
     ·rw[show cmp .lss (.ofNat s1) (.ofNat r)=false from lss_f hA h3]
      cbv
      refine⟨(q',s1),id,⟨z2,by show q'<_;omega,by show s1<_;omega,by show q'*top+s1=_;rw[h4];exact z3⟩,(by show q'<q;omega),?_⟩
      exact wkid
theorem cLen9{P:Program}(hP:P=Tryz.prog){t:TypeId}(a:Nat->Nat)(u:Nat)(hu:Used 9 a u):
 Con P 141 [.slice 0 0 9 9] [⟨0,ws a 9,t⟩] 1 [] (fun v _ _=>v= .int .i64 (.ofNat u)):=by
 refine cof hP Tryz.func141 (bdb _ rfl) (bkb rfl) ?_
 intro A g K hA hg hK
 obtain⟨bin,_,cmp,_,_,ix,_,_,_,_,_,_,_,_,nat,off,_,_,sub⟩:=A
 have en:nat 9=Int.ofNat 9:=nat_of hA 9
 have f1:∀i,i<9->bin .sub .i64 (.ofNat (i+1)) 1=Int.ofNat i:=fun i h=>(subI hA (a:=i+1) (b:=1) (by omega) (by omega)).trans (by simp)
 have f2:∀i,i<9->ix (.ofNat i) 9=some i:=fun i h=>ix_of hA h
 have f3:∀i,off 0 i 1=i:=fun i=>(off_of hA 0 i 1).trans (by omega)
 have f4:=fun(f:Nat->Nat) (k:Nat) (h:k<9)=>getW hA .u64 (n:=9) f h
 simp only[lst,Nat.reduceAdd]at f4
 cbv
 rw[en]
 refine lpb Nat (fun i=>i<=9/\u<=i) (fun i=>i) (fun i=> [(3,.int .i64 (.ofNat i))]) [0] (fun i=> []) 9 ⟨Nat.le_refl _,hu.1⟩ ?_ ?_
 ·exact wkid
 rintro i ⟨hi,hui⟩
 cbv
 cases i with
 |zero=>
  rw[show cmp .gtr (.ofNat 0) 0=false from gtr_f hA (b:=0) (by decide)]
  cbv
  exact hK _ _ _ (by rw[show u=0 by omega];rfl)
 |succ i=>
  have e0:cmp .gtr (.ofNat (i+1)) 0=true:=gtr_t hA (b:=0) (by omega)
  have e1:=f1 i (by omega)
  obtain⟨i1,hi1⟩:=exq (i+1)
  rw[<-hi1]at e0 e1⊢
  rw[e0]
  cbv
  rw[e1]
  rw[f2 i (by omega)]
  cbv
  rw[f3 i,f4 a i (by omega)]
  cbv
  by_cases hz:a i=0
  ·rw[show cmp .eql (.ofNat (a i)) 0=true from eql_t hA (b:=0) hz]
   cbv
   rw[e1]
   refine⟨i,id,⟨by omega,?_⟩,(by show i<i1;omega),?_⟩
   ·by_cases h:u=i1
    ·exact absurd (by rw[show u-1=i by omega];exact hz) (hu.2.2 (by omega))
    ·show u<=i
     omega
   ·exact wkid
  ·rw[show cmp .eql (.ofNat (a i)) 0=false from eql_f hA (b:=0) hz]
   cbv
   refine hK _ _ _ ?_
   have:u=i1:=by
    by_cases h:u=i1
    ·exact h
    ·exact absurd (hu.2.1 i (by omega) (by omega)) hz
   rw[this]
   rfl
theorem cLen18{P:Program}(hP:P=Tryz.prog){t:TypeId}(a:Nat->Nat)(u:Nat)(hu:Used 18 a u):
 Con P 141 [.slice 0 0 18 18] [⟨0,ws a 18,t⟩] 1 [] (fun v _ _=>v= .int .i64 (.ofNat u)):=by
 refine cof hP Tryz.func141 (bdb _ rfl) (bkb rfl) ?_
 intro A g K hA hg hK
 obtain⟨bin,_,cmp,_,_,ix,_,_,_,_,_,_,_,_,nat,off,_,_,sub⟩:=A
 have en:nat 18=Int.ofNat 18:=nat_of hA 18
 have f1:∀i,i<18->bin .sub .i64 (.ofNat (i+1)) 1=Int.ofNat i:=fun i h=>(subI hA (a:=i+1) (b:=1) (by omega) (by omega)).trans (by simp)
 have f2:∀i,i<18->ix (.ofNat i) 18=some i:=fun i h=>ix_of hA h
 have f3:∀i,off 0 i 1=i:=fun i=>(off_of hA 0 i 1).trans (by omega)
 have f4:=fun(f:Nat->Nat) (k:Nat) (h:k<18)=>getW hA .u64 (n:=18) f h
 simp only[lst,Nat.reduceAdd]at f4
 cbv
 rw[en]
 refine lpb Nat (fun i=>i<=18/\u<=i) (fun i=>i) (fun i=> [(3,.int .i64 (.ofNat i))]) [0] (fun i=> []) 18 ⟨Nat.le_refl _,hu.1⟩ ?_ ?_
 ·exact wkid
 rintro i ⟨hi,hui⟩
 cbv
 cases i with
 |zero=>
  rw[show cmp .gtr (.ofNat 0) 0=false from gtr_f hA (b:=0) (by decide)]
  cbv
  exact hK _ _ _ (by rw[show u=0 by omega];rfl)
 |succ i=>
  have e0:cmp .gtr (.ofNat (i+1)) 0=true:=gtr_t hA (b:=0) (by omega)
  have e1:=f1 i (by omega)
  obtain⟨i1,hi1⟩:=exq (i+1)
  rw[<-hi1]at e0 e1⊢
  rw[e0]
  cbv
  rw[e1]
  rw[f2 i (by omega)]
  cbv
  rw[f3 i,f4 a i (by omega)]
  cbv
  by_cases hz:a i=0
  ·rw[show cmp .eql (.ofNat (a i)) 0=true from eql_t hA (b:=0) hz]
   cbv
   rw[e1]
   refine⟨i,id,⟨by omega,?_⟩,(by show i<i1;omega),?_⟩
   ·by_cases h:u=i1
    ·exact absurd (by rw[show u-1=i by omega];exact hz) (hu.2.2 (by omega))
    ·show u<=i
     omega
   ·exact wkid
  ·rw[show cmp .eql (.ofNat (a i)) 0=false from eql_f hA (b:=0) hz]
   cbv
   refine hK _ _ _ ?_
   have:u=i1:=by
    by_cases h:u=i1
    ·exact h
    ·exact absurd (hu.2.1 i (by omega) (by omega)) hz
   rw[this]
   rfl
section
variable {A:Ar}
theorem splWx(hA:A=Ar.real)(K:IntKind){n:Nat}(f g:Nat->Nat)(E:List SV){k v:Nat}(h:k<n)(hg:g=fun j=>if j=k then v else f j):A.spl (lst K (fun j=>Int.ofNat (f j)) 0 n++E) k [.int K (Int.ofNat v)]=some (lst K (fun j=>Int.ofNat (g j)) 0 n++E):=by
 have h1:=splW hA K f g h hg
 rw[spl_of hA (by rw[lle];exact h)]at h1
 rw[spl_of hA (by rw[List.length_append,lle];omega)]
 congr 1
 rw[<-Option.some.inj h1]
 simp only[Vg.splice,List.length_cons,List.length_nil]
 rw[List.take_append_of_le_length (by rw[lle];omega),List.drop_append_of_le_length (by rw[lle];omega),List.append_assoc,List.append_assoc,List.append_assoc]
end
theorem shl_lo{x s:Nat}(hs:s<=64):x*2^s%0x10000000000000000=x%2^(64-s)*2^s:=by
 have h:0x10000000000000000=2^(64-s)*2^s:=by rw[<-Nat.pow_add,show 64-s+s=64 by omega]
 rw[h,Nat.mul_mod_mul_right]
theorem shr_hi{x s:Nat}(hs:s<=64):x/2^(64-s)=x*2^s/0x10000000000000000:=by
 have h:0x10000000000000000=2^(64-s)*2^s:=by rw[<-Nat.pow_add,show 64-s+s=64 by omega]
 rw[h,Nat.mul_div_mul_right _ _ (Nat.pow_pos (by decide))]
theorem hi_lt{x s:Nat}(hs:s<=64)(hx:x<0x10000000000000000):x*2^s/0x10000000000000000<2^s:=by
 rw[Nat.div_lt_iff_lt_mul (by decide),Nat.mul_comm]
 exact Nat.mul_lt_mul_of_pos_left hx (Nat.pow_pos (by decide))
theorem ite_iff{p q:Prop}[Decidable p][Decidable q](h:p↔q){a b c d:Nat}(h1:a=c)(h2:b=d):(if p then a else b)=if q then c else d:=by
 by_cases hp:p
 ·rw[if_pos hp,if_pos (h.1 hp),h1]
 ·rw[if_neg hp,if_neg (fun x=>hp (h.2 x)),h2]
def shw(m:Nat->Nat)(s j:Nat):Nat:=m j*2^s%0x10000000000000000+(if j=0 then 0 else m (j-1)*2^s/0x10000000000000000)
theorem shw_or{m:Nat->Nat}{s j:Nat}(hs:s<=64)(hm:m j<0x10000000000000000):(m (j+1)*2^s%0x10000000000000000)|||(m j/2^(64-s))=shw m s (j+1):=by
 have h:=hi_lt hs hm
 rw[shr_hi hs,shl_lo hs,or_add h,shw,if_neg (by omega),<-shl_lo hs,Nat.add_sub_cancel]
theorem shw_lt{m:Nat->Nat}{s j:Nat}(hs:s<=64)(h0:j=0\/m (j-1)<0x10000000000000000):shw m s j<0x10000000000000000:=by
 rcases h0 with h0|h0
 ·subst h0;rw[shw,if_pos rfl];exact Nat.mod_lt _ (by decide)
 ·have h:=hi_lt hs h0
  have h1:m j*2^s%0x10000000000000000+2^s<=0x10000000000000000:=by
   rw[shl_lo hs]
   have h2:=Nat.mul_le_mul_right (2^s) (show m j%2^(64-s)+1<=2^(64-s)from Nat.mod_lt _ (Nat.pow_pos (by decide)))
   rw[Nat.add_mul,Nat.one_mul,<-Nat.pow_add,show 64-s+s=64 by omega]at h2
   exact h2
  unfold shw
  split<;>omega
theorem V_shw(m:Nat->Nat)(s:Nat):∀n,V n (shw m s)+(if n=0 then 0 else m (n-1)*2^s/0x10000000000000000)*0x10000000000000000^n=V n m*2^s
 |0=>by simp[V,Dg.num]
 |n+1=>by
  have ih:=V_shw m s n
  have hs:shw m s n=m n*2^s%0x10000000000000000+(if n=0 then 0 else m (n-1)*2^s/0x10000000000000000):=rfl
  rw[nsn,nsn,hs,if_neg (show ¬n+1=0 by omega),Nat.add_sub_cancel,Nat.add_mul (V n m),<-ih,Nat.pow_succ]
  have e:=Nat.div_add_mod (m n*2^s) 0x10000000000000000
  generalize (if n=0 then 0 else m (n-1)*2^s/0x10000000000000000)=c at *
  have h1:m n*0x10000000000000000^n*2^s=(0x10000000000000000*(m n*2^s/0x10000000000000000)+m n*2^s%0x10000000000000000)*0x10000000000000000^n:=by rw[e];grind
  rw[h1]
  generalize m n*2^s/0x10000000000000000=a at *
  generalize m n*2^s%0x10000000000000000=b at *
  grind
structure Dv(m d:Nat->Nat)(n s:Nat):Prop where
 used:Used 9 m n
 n0:0<n
 s64:s<64
 w:Wn 9 d
 top:9223372036854775808<=d (n-1)
 val:V n d=V n m*2^s
theorem dv_of{m:Nat->Nat}{n p k s:Nat}(hm:Wn 9 m)(hn:Used 9 m n)(h0:0<n)(hp:n=p+1)(hk:IsBl (m p) k)(hs:s=64-k):Dv m (fun j=>if j<n then shw m s j else m j) n s:=by
 have hn9:=hn.1
 have hmp:m p≠0:=by have:=hn.2.2 h0;rw[hp]at this;simpa using this
 have hmW:=hm p (by omega)
 have hk64:k<=64:=Nat.le_of_not_lt fun h3=>by
  have h4:=hk.2 (by omega)
  have h5:=Nat.pow_le_pow_right (show 0<2 by decide) (show 64<=k-1 by omega)
  omega
 have hk0:0<k:=by
  rcases Nat.eq_zero_or_pos k with h|h
  ·subst h;have:=hk.1;simp at this;omega
  ·exact h
 have hs64:s<64:=by omega
 have hpk:2^k*2^s=0x10000000000000000:=by rw[<-Nat.pow_add,show k+s=64 by omega]
 have hpk1:2^(k-1)*2^s=9223372036854775808:=by rw[<-Nat.pow_add,show k-1+s=63 by omega]
 have h2s:0<2^s:=Nat.pow_pos (by decide)
 have hlt:m p*2^s<0x10000000000000000:=by rw[<-hpk];exact Nat.mul_lt_mul_of_pos_right hk.1 h2s
 have hge:9223372036854775808<=m p*2^s:=by rw[<-hpk1];exact Nat.mul_le_mul_right _ (hk.2 hk0)
 have hs2:s<=64:=Nat.le_of_lt hs64
 clear hk hs hpk hpk1 hk64 hk0
 have a1:Wn 9 (fun j=>if j<n then shw m s j else m j):=fun j hj=>by
  show(if j<n then shw m s j else m j)<_
  split
  ·refine shw_lt hs2 ?_
   by_cases h:j=0
   ·exact Or.inl h
   ·exact Or.inr (hm _ (by omega))
  ·exact hm j hj
 have a2:9223372036854775808<=(fun j=>if j<n then shw m s j else m j) (n-1):=by
  show 9223372036854775808<=if n-1<n then shw m s (n-1)else m (n-1)
  rw[if_pos (by omega),hp,Nat.add_sub_cancel,shw,Nat.mod_eq_of_lt hlt]
  exact Nat.le_trans hge (Nat.le_add_right _ _)
 have a3:V n (fun j=>if j<n then shw m s j else m j)=V n m*2^s:=by
  have h1:V n (fun j=>if j<n then shw m s j else m j)=V n (shw m s):=Dg.num_congr n fun i hi=>if_pos hi
  rw[h1]
  have h2:=V_shw m s n
  rw[hp,if_neg (by omega),Nat.add_sub_cancel,Nat.div_eq_of_lt hlt,Nat.zero_mul,Nat.add_zero]at h2
  rw[hp];exact h2
 exact⟨hn,h0,hs64,a1,a2,a3⟩
theorem cOf{P:Program}(hP:P=Tryz.prog)(m:Nat->Nat)(n:Nat)(hm:Wn 9 m)(hn:Used 9 m n)(h0:0<n):
 ∃d s,Dv m d n s/\Con P 117 [.ptr 0 0] [⟨0,ws m 9,25⟩] 1 [] (fun v L k=>v= .ptr 1 0/\L=[⟨0,ws m 9,25⟩,⟨1,dcells d n s,215⟩]/\k=2):=by
 have hn9:=hn.1
 obtain⟨p,hp⟩:∃p,n=p+1:=⟨n-1,by omega⟩
 obtain⟨k,hk⟩:=bl_ex (m p)
 have hmW:=hm p (by omega)
 obtain⟨s,hs⟩:=exq (64-k)
 have hD:=dv_of hm hn h0 hp hk hs
 have hs64:=hD.s64
 obtain⟨d,hd⟩:=exq (fun j=>if j<n then shw m s j else m j:Nat->Nat)
 rw[<-hd]at hD
 refine⟨d,s,hD,?_⟩
 clear hD
 refine cof hP Tryz.func117 (bdb _ rfl) (bkb rfl) ?_
 intro A g K hA hg hK
 obtain⟨bin,sh,cmp,_,_,ix,nn,_,_,_,_,_,_,_,_,off,_,_,sub⟩:=A
 have f2:∀i,i<9->ix (.ofNat i) 9=some i:=fun i h=>ix_of hA h
 have f3:∀i,off 0 i 1=i:=fun i=>(off_of hA 0 i 1).trans (by omega)
 have f4:=fun(f:Nat->Nat) (E:List SV) (k:Nat) (h:k<9)=>getWx hA .u64 (n:=9) f E h
 have f5:=fun(f g:Nat->Nat) (E:List SV) (k v:Nat) (h:k<9) (e:g=fun j=>if j=k then v else f j)=>splWx hA .u64 (n:=9) f g E h e
 simp only[lst,Nat.reduceAdd,List.cons_append,List.nil_append]at f4 f5
 have g1:bin .sub .i64 (.ofNat n) 1=Int.ofNat p:=(subI hA (a:=n) (b:=1) (by omega) (by omega)).trans (congrArg Int.ofNat (by omega))
 have e4:=f4 m [.int .i64 (.ofNat n),.int .i64 0] p (by omega)
 have zs:nn (.ofNat s)=true:=nn_t hA s
 cbv
 refine reg_A (hP▸tblOk) hA hg (hP▸mixed) rfl rfl ?_
 cbv
 refine stepD (en_slice hg rfl rfl rfl rfl rfl (slr_arr (hP▸tblOk) (show tyT 23=some _ from rfl) rfl _ _)) ?_
 cbv
 refine stepD (enr rfl hg rfl rfl (cLen9 hP m n hn) (fun _=>0) rfl ⟨rfl,trivial⟩ (fun _ _ _ h=>h) trivial) ?_
 cbv
 refine rgM hP hA hg fun mk _=> ?_
 cbv
 rw[g1]
 cbv
 rw[f2 p (by omega)]
 cbv
 rw[f3 p,e4]
 cbv
 refine sdv hg (cLz64 hP (m p) k hmW hk) ?_
 rw[<-hs]
 cbv
 rw[g1]
 have g3:bin .sub .i64 64 (.ofNat s)=Int.ofNat (64-s):=subI hA (a:=64) (b:=s) (by omega) (by omega)
 have zr:nn (.ofNat (64-s))=true:=nn_t hA _
 have zg:0<s->cmp .gtr (.ofNat s) 0=true:=fun h=>gtr_t hA (b:=0) h
 have zg':¬0<s->cmp .gtr (.ofNat s) 0=false:=fun h=>gtr_f hA (b:=0) h
 obtain⟨r,hr⟩:=exq (64-s)
 rw[<-hr]at g3 zr
 refine lpb (Nat×Int×(Nat->Nat)) (fun σ=>σ.1<=n/\σ.2.1=Int.ofNat σ.1-1/\∀j,σ.2.2 j=if σ.1<=j/\j<n then shw m s j else m j) (fun σ=>σ.1)
  (fun σ=> [(4,.int .i64 σ.2.1)]) [3] (fun σ=> [(1,dcells σ.2.2 n s)]) (n,Int.ofNat p,m) ⟨Nat.le_refl _,?_,?_⟩ ?_ ?_
 ·show Int.ofNat p=Int.ofNat n-1
  rw[hp];exact(Int.add_sub_cancel (p:Int) 1).symm
 ·intro j;exact(if_neg (by omega)).symm
 ·exact wkid
 rintro⟨t,iv,q⟩ ⟨ht,hiv,hq0⟩
 have ht:t<=n:=ht
 have hiv:iv=Int.ofNat t-1:=hiv
 have hq:∀j,q j=if t<=j/\j<n then shw m s j else m j:=hq0
 clear hq0
 cases t with
 |zero=>
  obtain rfl:iv= -1:=by rw[hiv];rfl
  cbv
  rw[show cmp .geq (-1) 0=false from congrFun (congrFun (congrFun (cmp_of hA) .geq) (-1)) 0]
  cbv
  have:q=d:=by
   rw[hd]
   exact funext fun j=>(hq j).trans (ite_iff ⟨fun h=>h.2,fun h=>⟨Nat.zero_le _,h⟩⟩ rfl rfl)
  rw[this]
  exact hK _ _ _ ⟨rfl,rfl,rfl⟩
 |succ i=>
  obtain rfl:iv=Int.ofNat i:=by rw[hiv];exact Int.add_sub_cancel (i:Int) 1
  have i9:i<9:=by omega
  have hqi:q i=m i:=(hq i).trans (if_neg (by omega))
  obtain⟨w,hw⟩:=exq (m i*2^s%0x10000000000000000)
  obtain⟨q1,hq1⟩:=exq (fun j=>if j=i then w else q j:Nat->Nat)
  have e1:sh .shl .u64 (.ofNat (q i)) (.ofNat s)=Int.ofNat w:=shl64 hA (by omega) (by rw[hqi];exact hw)
  have e2:cmp .geq (.ofNat i) 0=true:=geq_t hA (b:=0) (Nat.zero_le _)
  have e5:=f4 q [.int .i64 (.ofNat n),.int .i64 (.ofNat s)] i i9
  have e6:=f5 q q1 [.int .i64 (.ofNat n),.int .i64 (.ofNat s)] i w i9 hq1
  have e7:=f2 i i9
  have e8:=f3 i
  cbv
  rw[e2]
  cbv
  refine rgM hP hA hg fun mk _=> ?_
  cbv
  rw[e7]
  cbv
  rw[e8,e5]
  cbv
  rw[zs]
  cbv
  rw[e1]
  cbv
  rw[e7]
  cbv
  rw[e8,e6]
  cbv
  have hq1i:q1 i=w:=by rw[hq1];exact if_pos rfl
  have hq1o:∀j,j≠i->q1 j=q j:=fun j h=>by rw[hq1];exact if_neg h
  have hs2:s<=64:=Nat.le_of_lt hs64
  have nx:∀q2:Nat->Nat,q2 i=shw m s i->(∀j,j≠i->q2 j=q j)->∀j,q2 j=if i<=j/\j<n then shw m s j else m j:=by
   intro q2 h1 h2 j
   by_cases hj:j=i
   ·rw[hj,h1,if_pos ⟨Nat.le_refl _,by omega⟩]
   ·rw[h2 j hj,hq j]
    exact ite_iff ⟨fun h=>⟨by omega,h.2⟩,fun h=>⟨by omega,h.2⟩⟩ rfl rfl
  by_cases hi0:i=0
  ·obtain rfl:i=0:=hi0
   rw[show cmp .gtr (.ofNat 0) 0=false from gtr_f hA (b:=0) (by decide)]
   cbv
   rw[show bin .sub .i64 (.ofNat 0) 1= -1 from congrFun (congrFun (congrFun (congrFun (bin_of hA) .sub) .i64) 0) 1]
   refine⟨(0,-1,q1),id,⟨Nat.zero_le _,rfl,nx q1 ?_ hq1o⟩,(by show 0<0+1;omega),?_⟩
   ·rw[hq1i,hw];exact(Nat.add_zero _).symm
   ·exact wkid
  ·obtain⟨l,hl⟩:∃l,i=l+1:=⟨i-1,by omega⟩
   have g4:bin .sub .i64 (.ofNat i) 1=Int.ofNat l:=(subI hA (a:=i) (b:=1) (by omega) (by omega)).trans (by rw[hl];rfl)
   rw[show cmp .gtr (.ofNat i) 0=true from gtr_t hA (b:=0) (by omega)]
   cbv
   by_cases hs0:0<s
   ·rw[zg hs0]
    cbv
    refine rgM hP hA hg fun mk _=> ?_
    cbv
    have hll:l<9:=by omega
    have hqm:q1 l=m l:=(hq1o l (by omega)).trans ((hq l).trans (if_neg (by omega)))
    obtain⟨y,hy⟩:=exq (m l/2^r)
    obtain⟨z,hz⟩:=exq (w|||y)
    have hzs:z=shw m s i:=by rw[hz,hy,hw,hr,hl];exact shw_or hs2 (hm l hll)
    have c1:sh .shr .u64 (.ofNat (q1 l)) (.ofNat r)=Int.ofNat y:=shr64 hA (by omega) (by rw[hqm];exact hy)
    have hwW:w<0x10000000000000000:=by rw[hw];exact Nat.mod_lt _ (by decide)
    have hyW:y<0x10000000000000000:=by rw[hy];exact Nat.lt_of_le_of_lt (Nat.div_le_self _ _) (hm l hll)
    have c2:bin .or .u64 (.ofNat w) (.ofNat y)=Int.ofNat z:=or64 hA hwW hyW hz
    obtain⟨q2,hq2⟩:=exq (fun j=>if j=i then z else q1 j:Nat->Nat)
    have e9:=f4 q1 [.int .i64 (.ofNat n),.int .i64 (.ofNat s)] i i9
    have e10:=f4 q1 [.int .i64 (.ofNat n),.int .i64 (.ofNat s)] l hll
    have e11:=f5 q1 q2 [.int .i64 (.ofNat n),.int .i64 (.ofNat s)] i z i9 hq2
    rw[hq1i]at e9
    rw[e7]
    cbv
    rw[e8,e9]
    cbv
    rw[g4]
    cbv
    rw[f2 l hll]
    cbv
    rw[f3 l,e10]
    cbv
    rw[g3]
    cbv
    rw[zr]
    cbv
    rw[c1]
    cbv
    rw[c2]
    cbv
    rw[e7]
    cbv
    rw[e8,e11]
    cbv
    rw[g4]
    refine⟨(i,Int.ofNat l,q2),id,⟨by omega,?_,nx q2 ?_ ?_⟩,(by show i<i+1;omega),?_⟩
    ·show Int.ofNat l=Int.ofNat i-1
     rw[hl];exact(Int.add_sub_cancel (l:Int) 1).symm
    ·rw[hq2,<-hzs];exact if_pos rfl
    ·intro j hj;rw[hq2];exact(if_neg hj).trans (hq1o j hj)
    ·exact wkid
   ·rw[zg' hs0]
    cbv
    rw[g4]
    refine⟨(i,Int.ofNat l,q1),id,⟨by omega,?_,nx q1 ?_ hq1o⟩,(by show i<i+1;omega),?_⟩
    ·show Int.ofNat l=Int.ofNat i-1
     rw[hl];exact(Int.add_sub_cancel (l:Int) 1).symm
    ·have h0:s=0:=by omega
     have h1:m l<0x10000000000000000:=hm l (by omega)
     rw[hq1i,hw,h0,shw,if_neg (by omega),show i-1=l by omega]
     rw[Nat.pow_zero,Nat.mul_one,Nat.mul_one,Nat.div_eq_of_lt h1,Nat.add_zero]
    ·exact wkid
end Go.Proofs.YtdhmihfefgcbeaaGreat
namespace Go.Proofs.YtdhmihfefgcbeaaGreat
open Go.Vg Go.RowKit
set_option maxRecDepth 20000
theorem V_split(i j:Nat)(f:Nat->Nat):V (i+j) f=V i f+Vw i j f*0x10000000000000000^i:=Dg.num_split f i j
theorem Vw_split(a i j:Nat)(f:Nat->Nat):Vw a (i+j) f=Vw a i f+Vw (a+i) j f*0x10000000000000000^i:=by
 have h:=Dg.num_split (b:=0x10000000000000000) (fun t=>f (a+t)) i j
 have h2:Vw (a+i) j f=Dg.num 0x10000000000000000 (fun t=>f (a+(i+t))) j:=Dg.num_congr j fun t _=>congrArg f (by omega)
 rw[h2];exact h
theorem V_win{u u':Nat->Nat}{i n N:Nat}(hi:i+(n+1)<=N)(h:∀j,j<i\/i+n<j->u' j=u j):V N u'+Vw i (n+1) u*0x10000000000000000^i=V N u+Vw i (n+1) u'*0x10000000000000000^i:=by
 obtain⟨j,rfl⟩:∃j,N=i+((n+1)+j):=⟨N-(i+(n+1)),by omega⟩
 rw[V_split i _ u',V_split i _ u,Vw_split i (n+1) j u,Vw_split i (n+1) j u']
 have h1:V i u'=V i u:=Dg.num_congr i fun t ht=>h t (Or.inl ht)
 have h2:Vw (i+(n+1)) j u'=Vw (i+(n+1)) j u:=Dg.num_congr j fun t _=>h _ (Or.inr (by omega))
 rw[h1,h2,Nat.add_mul,Nat.add_mul]
 generalize Vw i (n+1) u*_=a
 generalize Vw i (n+1) u'*_=b
 omega
theorem win_all{u:Nat->Nat}{i n N D:Nat}(hi:i+(n+1)<=N)(hD:D<=0x10000000000000000^n)(h:V N u<D*0x10000000000000000^(i+1)):V N u=V i u+Vw i (n+1) u*0x10000000000000000^i:=by
 obtain⟨j,rfl⟩:∃j,N=i+((n+1)+j):=⟨N-(i+(n+1)),by omega⟩
 rw[V_split i _ u,Vw_split i (n+1) j u]at *
 generalize Vw (i+(n+1)) j u=r at *
 rcases Nat.eq_zero_or_pos r with h0|h0
 ·rw[h0,Nat.zero_mul,Nat.add_zero]
 ·exfalso
  have h1:D*0x10000000000000000^(i+1)<=0x10000000000000000^n*0x10000000000000000^(i+1):=Nat.mul_le_mul_right _ hD
  have h2:0x10000000000000000^n*0x10000000000000000^(i+1)=0x10000000000000000^(n+1)*0x10000000000000000^i:=by
   rw[<-Nat.pow_add,<-Nat.pow_add,show n+(i+1)=n+1+i by omega]
  have h3:1*0x10000000000000000^(n+1)<=r*0x10000000000000000^(n+1):=Nat.mul_le_mul_right _ h0
  rw[Nat.one_mul]at h3
  have h4:=Nat.mul_le_mul_right (0x10000000000000000^i) (Nat.le_trans h3 (Nat.le_add_left (r*0x10000000000000000^(n+1)) (Vw i (n+1) u)))
  have h5:=Nat.le_trans h4 (Nat.le_add_left _ (V i u))
  exact absurd h (Nat.not_lt.2 (Nat.le_trans h1 (Nat.le_trans (Nat.le_of_eq h2) h5)))
theorem at_step{u u':Nat->Nat}{i n N x D:Nat}(hu:Wn N u)(hi:i+(n+1)<=N)(hD0:0<D)(hD:D<=0x10000000000000000^n)(h:V N u<D*0x10000000000000000^(i+1))(hf:∀j,j<i\/i+n<j->u' j=u j)
 (e:Vw i (n+1) u'+x*D=Vw i (n+1) u) (hx:Vw i (n+1) u/D<=x):V N u'+x*0x10000000000000000^i*D=V N u/\V N u'<D*0x10000000000000000^i:=by
 have h1:=V_win hi hf
 have h2:=win_all hi hD h
 have hL:V i u<0x10000000000000000^i:=V_lt fun j hj=>hu j (by omega)
 have hX:Vw i (n+1) u'<D:=by
  have h3:Vw i (n+1) u<(x+1)*D:=by
   rw[<-Nat.div_lt_iff_lt_mul hD0];omega
  rw[Nat.add_mul,Nat.one_mul]at h3
  omega
 generalize Vw i (n+1) u'=X' at *
 generalize Vw i (n+1) u=X at *
 generalize 0x10000000000000000^i=B at *
 generalize V N u'=R' at *
 generalize V N u=R at *
 generalize V i u=L at *
 subst e
 have e1:(X'+x*D)*B=X'*B+x*B*D:=by rw[Nat.add_mul];congr 1;rw[Nat.mul_assoc,Nat.mul_assoc,Nat.mul_comm D B]
 have e2:(X'+1)*B<=D*B:=Nat.mul_le_mul_right _ hX
 rw[e1]at h1 h2
 rw[Nat.add_mul,Nat.one_mul]at e2
 generalize x*B*D=a at *
 generalize X'*B=b at *
 generalize D*B=c at *
 constructor<;>omega
theorem V_put{q:Nat->Nat}{i x N:Nat}(hi:i<N)(h:q i=0):V N (fun j=>if j=i then x else q j)=V N q+x*0x10000000000000000^i:=by
 have h1:=V_win (u:=q) (u':=fun j=>if j=i then x else q j) (i:=i) (n:=0) (N:=N) (by omega) fun j hj=>if_neg (by omega)
 have h2:Vw i (0+1) q=0:=by rw[Vw_snoc];show Vw i 0 q+q i*_=0;rw[h];rfl
 have h3:Vw i (0+1) (fun j=>if j=i then x else q j)=x:=by
  rw[Vw_snoc];show 0+(if i+0=i then x else q i)*_=x
  rw[if_pos (Nat.add_zero i),Nat.pow_zero,Nat.mul_one,Nat.zero_add]
 rw[h2,h3,Nat.zero_mul]at h1
 exact h1
theorem start_lt{W D k n s t:Nat}{d:Nat->Nat}(hW:W<0x10000000000000000^k)(hn:0<n)(hd:9223372036854775808<=d (n-1))(hD:D=V n d)(hs:s<64)(hk:k<=n-1+t):W*2^s<D*0x10000000000000000^t:=by
 have h1:9223372036854775808*0x10000000000000000^(n-1)<=D:=by
  rw[hD]
  obtain⟨p,rfl⟩:∃p,n=p+1:=⟨n-1,by omega⟩
  rw[nsn]
  exact Nat.le_trans (Nat.mul_le_mul_right _ hd) (Nat.le_add_left _ _)
 have h2:=Nat.mul_le_mul_right (0x10000000000000000^t) h1
 rw[Nat.mul_assoc,<-Nat.pow_add]at h2
 have h3:0x10000000000000000^k<=0x10000000000000000^(n-1+t):=Nat.pow_le_pow_right (by decide) hk
 have h4:2^s<=9223372036854775808:=Nat.le_trans (Nat.pow_le_pow_right (by decide) (show s<=63 by omega)) (Nat.le_of_eq (by decide))
 refine Nat.lt_of_lt_of_le ?_ h2
 refine Nat.lt_of_lt_of_le (Nat.mul_lt_mul_of_pos_right hW (Nat.pow_pos (by decide))) ?_
 rw[Nat.mul_comm]
 exact Nat.mul_le_mul h4 h3
theorem fin_div{W M S R Q:Nat}(hS:0<S)(e:R+Q*(M*S)=W*S)(h:R<M*S):Q=W/M/\R=W%M*S:=by
 constructor
 ·rw[<-Nat.mul_div_mul_right _ _ hS,<-e,Nat.add_mul_div_right _ _ (by omega),Nat.div_eq_of_lt h,Nat.zero_add]
 ·rw[<-Nat.mul_mod_mul_right,<-e,Nat.add_mul_mod_self_right,Nat.mod_eq_of_lt h]
def srw(u:Nat->Nat)(s i:Nat):Nat:=u i/2^s+u (i+1)*2^(64-s)%0x10000000000000000
theorem two_s{s:Nat}(hs:s<=64):2^(64-s)*2^s=0x10000000000000000:=by rw[<-Nat.pow_add,show 64-s+s=64 by omega]
theorem shl_hi{x s:Nat}(hs:s<=64):x*2^(64-s)%0x10000000000000000=x%2^s*2^(64-s):=by
 rw[<-two_s hs,Nat.mul_comm (2^(64-s)) (2^s),Nat.mul_mod_mul_right]
theorem div_lt2{x s:Nat}(hs:s<=64)(hx:x<0x10000000000000000):x/2^s<2^(64-s):=by
 rw[Nat.div_lt_iff_lt_mul (Nat.pow_pos (by decide)),two_s hs];exact hx
theorem srw_or{u:Nat->Nat}{s i:Nat}(hs:s<=64)(hu:u i<0x10000000000000000):(u i/2^s)|||(u (i+1)*2^(64-s)%0x10000000000000000)=srw u s i:=by
 rw[Nat.or_comm,shl_hi hs,or_add (div_lt2 hs hu),srw,shl_hi hs,Nat.add_comm]
theorem srw_lt{u:Nat->Nat}{s i:Nat}(hs:s<=64)(hu:u i<0x10000000000000000):srw u s i<0x10000000000000000:=by
 have h:=div_lt2 hs hu
 have h2:=Nat.mul_le_mul_right (2^(64-s)) (show u (i+1)%2^s+1<=2^s from Nat.mod_lt _ (Nat.pow_pos (by decide)))
 rw[Nat.add_mul,Nat.one_mul,Nat.mul_comm (2^s) (2^(64-s)),two_s hs]at h2
 rw[srw,shl_hi hs]
 omega
theorem V_srw(u:Nat->Nat){s:Nat}(hs:s<=64):∀n,V n (srw u s)*2^s+u 0%2^s=V n u+u n%2^s*0x10000000000000000^n
 |0=>by simp[V,Dg.num]
 |n+1=>by
  have ih:=V_srw u hs n
  have h1:srw u s n*2^s+u n%2^s=u n+u (n+1)%2^s*0x10000000000000000:=by
   rw[srw,shl_hi hs,Nat.add_mul,Nat.mul_assoc,two_s hs]
   have:=Nat.div_add_mod (u n) (2^s)
   rw[Nat.mul_comm]at this
   omega
  rw[nsn,nsn,Nat.pow_succ,Nat.add_mul]
  generalize srw u s n=x at *
  generalize V n (srw u s)*2^s=y at *
  generalize 2^s=S at *
  generalize 0x10000000000000000^n=B at *
  have h2:x*B*S+u n%S*B=u n*B+u (n+1)%S*(B*0x10000000000000000):=by
   have:=congrArg (· *B) h1
   simp only[Nat.add_mul]at this
   rw[Nat.mul_assoc x B S,Nat.mul_comm B S,<-Nat.mul_assoc,this,Nat.mul_comm B 0x10000000000000000,Nat.mul_assoc]
  omega
theorem hi_zero{u:Nat->Nat}{n N:Nat}(hu:Wn N u)(h:V N u<0x10000000000000000^n){j:Nat}(hj:n<=j)(hjN:j<N):u j=0:=by
 rw[<-Dg.dig_num (by decide) N hu j hjN]
 exact Dg.dig_big (by decide) h hj
theorem rest_of{u:Nat->Nat}{n s r D:Nat}(hu:Wn 19 u)(hs:s<64)(hn:n<=9)(hD:D<=0x10000000000000000^n)(h:V 19 u<D)(e:V 19 u=r*2^s):Wn 9 (fun i=>if i<n then srw u s i else 0)/\V 9 (fun i=>if i<n then srw u s i else 0)=r:=by
 have hz:∀j,n<=j->j<19->u j=0:=fun j h1 h2=>hi_zero hu (Nat.lt_of_lt_of_le h hD) h1 h2
 have hV:V 19 u=V n u:=by
  obtain⟨k,hk⟩:∃k,19=n+k:=⟨19-n,by omega⟩
  rw[hk]
  exact Dg.num_zero u n k fun i h1 h2=>hz i h1 (by omega)
 have hs2:s<=64:=by omega
 constructor
 ·intro j hj
  show(if j<n then srw u s j else 0)<_
  split
  ·exact srw_lt hs2 (hu j (by omega))
  ·decide
 ·have h1:V 9 (fun i=>if i<n then srw u s i else 0)=V n (fun i=>if i<n then srw u s i else 0):=by
   obtain⟨k,hk⟩:∃k,9=n+k:=⟨9-n,by omega⟩
   rw[hk]
   exact Dg.num_zero _ n k fun i h1 h2=>if_neg (by omega)
  have h2:V n (fun i=>if i<n then srw u s i else 0)=V n (srw u s):=Dg.num_congr n fun i hi=>if_pos hi
  have h3:=V_srw u hs2 n
  rw[hz n (Nat.le_refl _) (by omega),Nat.zero_mod,Nat.zero_mul,Nat.add_zero,<-hV,e]at h3
  have hS:0<2^s:=Nat.pow_pos (by decide)
  have hlt:=Nat.mod_lt (u 0) hS
  rw[h1,h2]
  generalize V n (srw u s)=v at *
  generalize 2^s=S at *
  have:v=(v*S+u 0%S)/S:=by
   rw[Nat.add_comm,Nat.add_mul_div_right _ _ hS,Nat.div_eq_of_lt hlt,Nat.zero_add]
  rw[this,h3,Nat.mul_div_cancel _ hS]
end Go.Proofs.YtdhmihfefgcbeaaGreat
