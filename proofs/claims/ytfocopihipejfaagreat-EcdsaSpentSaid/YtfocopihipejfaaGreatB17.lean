/-
  This text proves what these texts prove: ShA, ShB, Ha, Hb, Hc, Hd. Conditions: those of each theorem.
-/
import Derived.Test.YtfocopihipejfaaGreatB16
import Derived.Test.YtfocopihipejfaaGreatB11
set_option maxHeartbeats 8000000
set_option linter.all false
namespace Sh
structure S8 where
 a:Nat
 b:Nat
 c:Nat
 d:Nat
 e:Nat
 f:Nat
 g:Nat
 h:Nat
structure Kd where
 wb:Nat
 S0:Nat×Nat×Nat
 S1:Nat×Nat×Nat
 s0:Nat×Nat×Nat
 s1:Nat×Nat×Nat
 ks:List Nat
 len:Nat
def gm(n x k:Nat):Nat:=(x>>>k)|||(x<<<(n-k))%2^n
def Mn(n:Nat)(r:Nat×Nat×Nat)(x:Nat):Nat:=(gm n x r.1^^^gm n x r.2.1)^^^gm n x r.2.2
def small(n:Nat)(r:Nat×Nat×Nat)(x:Nat):Nat:=(gm n x r.1^^^gm n x r.2.1)^^^(x>>>r.2.2)
def more(K:Kd)(ws:List Nat):List Nat:=
 ((ws.getD 15 0+small K.wb K.s0 (ws.getD 14 0)+ws.getD 6 0+small K.wb K.s1 (ws.getD 1 0))%2^K.wb)::ws
def xn(K:Kd):Nat->List Nat->List Nat
 |0,ws=>ws
 |n+1,ws=>xn K n (more K ws)
def ch(n e f g:Nat):Nat:=(e&&&f)^^^((2^n-1-e)&&&g)
def maj(a b c:Nat):Nat:=((a&&&b)^^^(a&&&c))^^^(b&&&c)
def round(K:Kd)(s:S8)(k w:Nat):S8:=
 let t1:=(s.h+Mn K.wb K.S1 s.e+ch K.wb s.e s.f s.g+k+w)%2^K.wb
 ⟨(t1+Mn K.wb K.S0 s.a+maj s.a s.b s.c)%2^K.wb,s.a,s.b,s.c,(s.d+t1)%2^K.wb,s.e,s.f,s.g⟩
def rounds(K:Kd):List Nat->List Nat->S8->S8
 |k::ks,w::ws,s=>rounds K ks ws (round K s k w)
 |_,_,s=>s
def word:List Nat->Nat
 |l=>l.foldl (fun x b=>x*256+b) 0
def words(n:Nat):Nat->List Nat->List Nat
 |0,_=> []
 |f+1,l=>word (l.take n)::words n f (l.drop n)
def HQ(n:Nat)(s t:S8):S8:=⟨(s.a+t.a)%2^n,(s.b+t.b)%2^n,(s.c+t.c)%2^n,(s.d+t.d)%2^n,(s.e+t.e)%2^n,(s.f+t.f)%2^n,(s.g+t.g)%2^n,(s.h+t.h)%2^n⟩
def sched(K:Kd)(b:List Nat):List Nat:=(xn K (K.ks.length-16) (words (K.wb/8) 16 b).reverse).reverse
def u4(K:Kd)(s:S8)(b:List Nat):S8:=HQ K.wb s (rounds K K.ks (sched K b) s)
def turns(K:Kd):Nat->S8->List Nat->S8
 |0,s,_=>s
 |f+1,s,l=>if l.length<2*K.wb then s else turns K f (u4 K s (l.take (2*K.wb))) (l.drop (2*K.wb))
def be(n x:Nat):List Nat:=(List.range n).map fun i=>x/256^(n-1-i)%256
def pad(K:Kd)(l:List Nat):List Nat:=
 let z:=(2*K.wb-(l.length+1+K.len)%(2*K.wb))%(2*K.wb)
 l++[128]++List.replicate (z+(K.len-8)) 0++be 8 (l.length*8%2^64)
def out(n:Nat)(s:S8):List Nat:=be n s.a++be n s.b++be n s.c++be n s.d++be n s.e++be n s.f++be n s.g++be n s.h
def hash(K:Kd)(s:S8)(size:Nat)(l:List Nat):List Nat:=
 (out (K.wb/8) (turns K (l.length+1) s (pad K l))).take size
def akA:List Nat:=[1116352408,1899447441,3049323471,3921009573,961987163,1508970993,2453635748,2870763221,3624381080,310598401,607225278,1426881987,1925078388,2162078206,2614888103,3248222580,3835390401,4022224774,264347078,604807628,770255983,1249150122,1555081692,1996064986,2554220882,2821834349,2952996808,3210313671,3336571891,3584528711,113926993,338241895,666307205,773529912,1294757372,1396182291,1695183700,1986661051,2177026350,2456956037,2730485921,2820302411,3259730800,3345764771,3516065817,3600352804,4094571909,275423344,430227734,506948616,659060556,883997877,958139571,1322822218,1537002063,1747873779,1955562222,2024104815,2227730452,2361852424,2428436474,2756734187,3204031479,3329325298]
def akB:List Nat:=[4794697086780616226,8158064640168781261,0xb5c0fbcfec4d3b2f,0xe9b5dba58189dbbc,4131703408338449720,6480981068601479193,0x923f82a4af194f9b,0xab1c5ed5da6d8118,0xd807aa98a3030242,1334009975649890238,2608012711638119052,6128411473006802146,8268148722764581231,9286055187155687089,0x9bdc06a725c71235,0xc19bf174cf692694,0xe49b69c19ef14ad2,0xefbe4786384f25e3,1135362057144423861,2597628984639134821,3308224258029322869,5365058923640841347,6679025012923562964,8573033837759648693,0x983e5152ee66dfab,0xa831c66d2db43210,0xb00327c898fb213f,0xbf597fc7beef0ee4,0xc6e00bf33da88fc2,0xd5a79147930aa725,489312712824947311,1452737877330783856,2861767655752347644,3322285676063803686,5560940570517711597,5996557281743188959,7280758554555802590,8532644243296465576,9350256976987008742,0x92722c851482353b,0xa2bfe8a14cf10364,0xa81a664bbc423001,0xc24b8b70d0f89791,0xc76c51a30654be30,0xd192e819d6ef5218,0xd69906245565a910,0xf40e35855771202a,1182934255886127544,1847814050463011016,2177327727835720531,2830643537854262169,3796741975233480872,4115178125766777443,5681478168544905931,6601373596472566643,7507060721942968483,8399075790359081724,8693463985226723168,9568029438360202098,0x8cc702081a6439ec,0x90befffa23631e28,0xa4506cebde82bde9,0xbef9a3f7b2c67915,0xc67178f2e372532b,0xca273eceea26619c,0xd186b8c721c0c207,0xeada7dd6cde0eb1e,0xf57d4f7fee6ed178,500013540394364858,748580250866718886,1242879168328830382,1977374033974150939,2944078676154940804,3659926193048069267,4368137639120453308,4836135668995329356,5532061633213252278,6448918945643986474,6902733635092675308,7801388544844847127]
def i224:S8:=⟨3238371032,914150663,812702999,4144912697,4290775857,1750603025,1694076839,3204075428⟩
def i256:S8:=⟨1779033703,3144134277,1013904242,2773480762,1359893119,2600822924,528734635,1541459225⟩
def abO:S8:=⟨0xcbbb9d5dc1059ed8,7105036623409894663,0x9159015a3070dd17,1526699215303891257,7436329637833083697,0x8eb44a8768581511,0xdb0c2e0d64f98fa7,5167115440072839076⟩
def abP:S8:=⟨7640891576956012808,0xbb67ae8584caa73b,4354685564936845355,0xa54ff53a5f1d36f1,5840696475078001361,0x9b05688c2b3e6c1f,2270897969802886507,6620516959819538809⟩
def aB:Kd:=⟨32,(2,13,22),(6,11,25),(7,18,3),(17,19,10),akA,8⟩
def Fb:Kd:=⟨64,(28,34,39),(14,18,41),(1,8,7),(19,61,6),akB,16⟩
def size:Nat->Nat
 |1=>28
 |2=>32
 |3=>48
 |4=>64
 |_=>0
def vU:Nat->Nat
 |1=>64
 |2=>64
 |3=>128
 |4=>128
 |_=>0
def of:Nat->List Nat->List Nat
 |1,l=>hash aB i224 28 l
 |2,l=>hash aB i256 32 l
 |3,l=>hash Fb abO 48 l
 |4,l=>hash Fb abP 64 l
 |_,_=> []
def key(id:Nat)(k:List Nat):List Nat:=
 let k:=if vU id<k.length then of id k else k
 k++List.replicate (vU id-k.length) 0
def jY(id:Nat)(k m:List Nat):List Nat:=
 of id ((key id k).map (· ^^^92)++of id ((key id k).map (· ^^^54)++m))
structure Dr where
 id:Nat
 k:List Nat
 v:List Nat
 n:Nat
def jn(d:Dr)(s:List Nat):Dr:=
 let k:=jY d.id d.k (d.v++[0]++s)
 let v:=jY d.id k d.v
 if s=[]then⟨d.id,k,v,d.n⟩else
 let k2:=jY d.id k (v++[1]++s)
 ⟨d.id,k2,jY d.id k2 v,d.n⟩
def new(id:Nat)(e:List Nat):Dr:=jn ⟨id,List.replicate (size id) 0,List.replicate (size id) 1,1⟩ e
def gen(id:Nat)(k:List Nat):Nat->List Nat->List Nat×List Nat
 |0,v=>([],v)
 |f+1,v=>let v':=jY id k v;let r:=gen id k f v';(v'++r.1,r.2)
def generate(d:Dr)(sz:Nat)(m:List Nat):List Nat×Dr:=
 let d:=if m=[]then d else jn d m
 let r:=gen d.id d.k ((sz+size d.id-1)/size d.id) d.v
 let d:=jn ⟨d.id,d.k,r.2,d.n⟩ m
 (r.1.take sz,⟨d.id,d.k,d.v,d.n+1⟩)
end Sh
namespace Sh
/-! the schedule word by word,the rounds one by one-/
variable {K:Kd}
def wd(K:Kd)(b:List Nat)(j:Nat):Nat:=(sched K b).getD j 0
theorem U8(n:Nat):∀ws,xn K (n+1) ws=more K (xn K n ws):=by
 induction n with
 |zero=>intro ws;rfl
 |succ n ih=>intro ws;rw[xn,ih (more K ws),<-xn]
theorem Pu(n:Nat):∀f l,(words n f l).length=f
 |0,_=>rfl
 |f+1,l=>by rw[words,mU,Pu n f]
theorem aeN(n:Nat):∀f l j,j<f->(words n f l).getD j 0=word ((l.drop (n*j)).take n)
 |0,_,_,h=>by omega
 |f+1,l,0,_=>by simp[words]
 |f+1,l,j+1,h=>by
  rw[words,List.getD_cons_succ,aeN n f (l.drop n) j (by omega),LP,show n+n*j=n*(j+1) by rw[Yz];omega]
def w0(K:Kd)(b:List Nat):List Nat:=(words (K.wb/8) 16 b).reverse
theorem VG(b:List Nat):∀n,(xn K n (w0 K b)).length=16+n
 |0=>by rw[xn,w0,List.length_reverse,Pu]
 |n+1=>by rw[U8,more,mU,VG b n];omega
theorem apm(b:List Nat)(n j:Nat)(hj:j<16+n):∀m,n<=m->(xn K m (w0 K b)).getD (16+m-1-j) 0=(xn K n (w0 K b)).getD (16+n-1-j) 0:=by
 intro m hm
 induction m with
 |zero=>obtain rfl:n=0:=by omega
        rfl
 |succ m ih=>
  by_cases h:n=m+1
  ·subst h;rfl
  ·rw[<-ih (by omega),U8,more,show 16+(m+1)-1-j=(16+m-1-j)+1 by omega,List.getD_cons_succ]
theorem aaB(l:List Nat)(j:Nat)(h:j<l.length):l.reverse.getD j 0=l.getD (l.length-1-j) 0:=by
 simp only[jQ,List.getElem?_reverse h]
theorem Hg(b:List Nat){n j:Nat}(hj:j<16+n)(hn:16+n<=K.ks.length):wd K b j=(xn K n (w0 K b)).getD (16+n-1-j) 0:=by
 unfold wd sched
 have hl:=VG (K:=K) b (K.ks.length-16)
 rw[w0]at hl
 rw[aaB _ _ (by rw[hl];omega),hl]
 exact apm b n j hj (K.ks.length-16) (by omega)
theorem Xh(b:List Nat){j:Nat}(hj:j<16)(hn:16<=K.ks.length):wd K b j=word ((b.drop (K.wb/8*j)).take (K.wb/8)):=by
 rw[Hg b (n:=0) (by omega) (by omega)]
 show(w0 K b).getD (16+0-1-j) 0=_
 rw[w0,aaB _ _ (by rw[Pu];omega),Pu,aeN _ _ _ _ (by omega)]
 congr 4
 omega
theorem Xg(b:List Nat){j:Nat}(h1:16<=j)(h2:j<K.ks.length):wd K b j=(wd K b (j-16)+small K.wb K.s0 (wd K b (j-15))+wd K b (j-7)+small K.wb K.s1 (wd K b (j-2)))%2^K.wb:=by
 obtain⟨n,rfl⟩:∃n,j=16+n:=⟨j-16,by omega⟩
 rw[Hg b (n:=n+1) (by omega) (by omega),Hg b (n:=n) (j:=16+n-16) (by omega) (by omega),Hg b (n:=n) (j:=16+n-15) (by omega) (by omega),Hg b (n:=n) (j:=16+n-7) (by omega) (by omega),Hg b (n:=n) (j:=16+n-2) (by omega) (by omega)]
 rw[U8,more,show 16+(n+1)-1-(16+n)=0 by omega,List.getD_cons_zero]
 rw[show 16+n-1-(16+n-16)=15 by omega,show 16+n-1-(16+n-15)=14 by omega,show 16+n-1-(16+n-7)=6 by omega,show 16+n-1-(16+n-2)=1 by omega]
theorem adB(b:List Nat)(hn:16<=K.ks.length):(sched K b).length=K.ks.length:=by
 unfold sched
 have hl:=VG (K:=K) b (K.ks.length-16)
 rw[w0]at hl
 rw[List.length_reverse,hl];omega
theorem are(l:List Nat)(x:Nat):word (l++[x])=word l*256+x:=by
 unfold word
 rw[List.foldl_append];rfl
theorem CD(l:List Nat){k:Nat}(h:k<l.length):word (l.take (k+1))=word (l.take k)*256+l.getD k 0:=by
 rw[LV h,are,jQ,jo h];rfl
theorem Ps(l:List Nat)(h:∀x∈l,x<256):∀k,k<=l.length->word (l.take k)<256^k
 |0,_=>by simp[word]
 |k+1,hk=>by
  have ih:=Ps l h k (by omega)
  have hx:l.getD k 0<256:=by
   rw[jQ,jo (by omega)]
   exact h _ (LQ _)
  rw[CD l (by omega),br]
  have:=ea 256 (show word (l.take k)+1<=256^k from ih)
  omega
def tH(K:Kd)(b:List Nat)(s:S8)(i:Nat):S8:=rounds K (K.ks.take i) ((sched K b).take i) s
theorem adv(k w:Nat):∀ (ks ws:List Nat) (s:S8),ks.length=ws.length->rounds K (ks++[k]) (ws++[w]) s=round K (rounds K ks ws s) k w
 | [],[],s,_=>rfl
 | [],_::_,_,h=>by simp at h
 |_::_,[],_,h=>by simp at h
 |k'::ks,w'::ws,s,h=>by
  simp only[du,rounds]
  exact adv k w ks ws _ (by simpa using h)
theorem VO(b:List Nat)(s:S8){i:Nat}(hn:16<=K.ks.length)(h:i<K.ks.length):tH K b s (i+1)=round K (tH K b s i) (K.ks.getD i 0) (wd K b i):=by
 have hl:=adB b hn
 unfold tH
 rw[LV h,LV (by rw[hl];exact h),adv _ _ _ _ _ (by rw[eY,eY,hl]),wd,jQ,jQ,jo h,jo (by rw[hl];exact h)]
 rfl
theorem Wa(b:List Nat)(s:S8)(hn:16<=K.ks.length):u4 K s b=HQ K.wb s (tH K b s K.ks.length):=by
 unfold u4 tH
 rw[Hy,vf (by rw[adB b hn];exact aE _)]
def jI(n:Nat)(s:S8):Prop:=s.a<2^n/\s.b<2^n/\s.c<2^n/\s.d<2^n/\s.e<2^n/\s.f<2^n/\s.g<2^n/\s.h<2^n
theorem al4{s:S8}(h:jI K.wb s)(k w:Nat):jI K.wb (round K s k w):=
 ⟨ax _ (i_ _),h.1,h.2.1,h.2.2.1,ax _ (i_ _),h.2.2.2.2.1,h.2.2.2.2.2.1,h.2.2.2.2.2.2.1⟩
theorem Vj(b:List Nat){s:S8}(h:jI K.wb s)(hn:16<=K.ks.length):∀i,i<=K.ks.length->jI K.wb (tH K b s i)
 |0,_=>by simpa [tH,rounds]using h
 |i+1,hi=>by rw[VO b s hn (by omega)];exact al4 (Vj b h hn i (by omega)) _ _
theorem al3(n:Nat)(s t:S8):jI n (HQ n s t):=⟨ax _ (i_ _),ax _ (i_ _),ax _ (i_ _),ax _ (i_ _),ax _ (i_ _),ax _ (i_ _),ax _ (i_ _),ax _ (i_ _)⟩
theorem Pp(b:List Nat)(hb:∀x∈b,x<256)(hl:2*K.wb<=b.length)(h8:K.wb=8*(K.wb/8))(hn:16<=K.ks.length){j:Nat}(hj:j<K.ks.length):wd K b j<2^K.wb:=by
 by_cases h:j<16
 ·rw[Xh b h hn]
  have hm:K.wb/8*j+K.wb/8<=b.length:=by
   have:=xS (K.wb/8) (show j+1<=16 from h)
   rw[Yz]at this
   omega
  have:=Ps (b.drop (K.wb/8*j)) (fun x hx=>hb x (Fh hx)) (K.wb/8) (by rw[iY];omega)
  rwa [show(256:Nat)=2^8 from rfl,<-jS,<-h8]at this
 ·rw[Xg b (by omega) hj];exact ax _ (i_ _)
def tq(K:Kd)(s:S8)(l:List Nat):Nat->S8
 |0=>s
 |j+1=>u4 K (tq K s l j) ((l.drop (j*(2*K.wb))).take (2*K.wb))
theorem aej(s:S8)(l:List Nat):∀j,tq K s l (j+1)=tq K (u4 K s (l.take (2*K.wb))) (l.drop (2*K.wb)) j
 |0=>by simp[tq]
 |j+1=>by
  rw[tq,aej s l j,tq,LP,show 2*K.wb+j*(2*K.wb)=(j+1)*(2*K.wb) by rw[HJ j,oB]]
theorem aen(hw:0<K.wb):∀ (f:Nat) (s:S8) (l:List Nat),l.length/(2*K.wb)<=f->turns K f s l=tq K s l (l.length/(2*K.wb))
 |0,s,l,h=>by rw[Nat.le_zero.1 h];rfl
 |f+1,s,l,h=>by
  by_cases hl:l.length<2*K.wb
  ·rw[turns,aj hl,kg hl];rfl
  ·have hd:l.length/(2*K.wb)=(l.length-2*K.wb)/(2*K.wb)+1:=by
    rw[Nat.div_eq_sub_div (by omega) (by omega)]
   rw[turns,af hl,hd,aej,aen hw f _ _ (by rw[iY];omega),iY]
theorem V_(s:S8){p:List Nat}{q:Nat}(hp:p.length=q*(2*K.wb))(x:List Nat):∀j,j<=q->tq K s (p++x) j=tq K s p j
 |0,_=>rfl
 |j+1,h=>by
  have h1:=ea (2*K.wb) h
  rw[HJ j]at h1
  rw[tq,tq,V_ s hp x j (by omega),PS (by omega),LS (by rw[iY];omega)]
theorem aei(s:S8){p:List Nat}{q:Nat}(hp:p.length=q*(2*K.wb))(x:List Nat):∀j,tq K s (p++x) (q+j)=tq K (tq K s p q) x j
 |0=>V_ s hp x q (aE q)
 |j+1=>by
  rw[<-xP,tq,aei s hp x j,tq,cw,<-hp,List.drop_append,show p.length+j*(2*K.wb)-p.length=j*(2*K.wb) by omega,List.drop_of_length_le (by omega),cM]
def aW(K:Kd)(s:S8)(l:List Nat):S8:=tq K s l (l.length/(2*K.wb))
def left(K:Kd)(l:List Nat):List Nat:=l.drop (l.length/(2*K.wb)*(2*K.wb))
theorem abW(l:List Nat):(left K l).length=l.length%(2*K.wb):=by
 unfold left
 rw[iY]
 have:=gN l.length (2*K.wb)
 rw[bJ]at this
 omega
theorem TW(hw:0<K.wb)(s:S8)(l x:List Nat):aW K s (l++x)=tq K (aW K s l) (left K l++x) ((left K l++x).length/(2*K.wb))/\left K (l++x)=(left K l++x).drop ((left K l++x).length/(2*K.wb)*(2*K.wb)):=by
 obtain⟨q,hq⟩:=aa (l.length/(2*K.wb))
 have hle:q*(2*K.wb)<=l.length:=by rw[hq];exact CP _ _
 have hp:(l.take (q*(2*K.wb))).length=q*(2*K.wb):=by rw[eY];omega
 have TV:l++x=l.take (q*(2*K.wb))++(left K l++x):=by
  unfold left
  rw[<-hq,<-jA,PY]
 have hlen:(l++x).length=q*(2*K.wb)+(left K l++x).length:=by
  rw[TV,dI,hp]
 have hdiv:(l++x).length/(2*K.wb)=q+(left K l++x).length/(2*K.wb):=by
  rw[hlen,bJ,P4 (by omega)]
 have hh:aW K s l=tq K s (l.take (q*(2*K.wb))) q:=by
  unfold aW
  rw[<-hq]
  conv=>lhs;rw[<-PY (q*(2*K.wb)) l]
  exact V_ s hp _ q (aE q)
 refine⟨?_,?_⟩
 ·rw[hh,<-aei s hp,<-TV,<-hdiv];rfl
 ·show(l++x).drop ((l++x).length/(2*K.wb)*(2*K.wb))=_
  rw[hdiv,cw,<-hp]
  conv=>lhs;rw[TV]
  rw[hp,<-LP,PT hp]
theorem KU(kQ:16<=K.ks.length){s:S8}(h:jI K.wb s)(l:List Nat):∀j,jI K.wb (tq K s l j)
 |0=>h
 |j+1=>by rw[tq,Wa _ _ kQ];exact al3 _ _ _
theorem SU(hw:0<K.wb)(s:S8)(size:Nat)(l:List Nat)(hp:(pad K l).length/(2*K.wb)<=l.length+1):hash K s size l=(out (K.wb/8) (aW K s (pad K l))).take size:=by
 unfold hash aW
 rw[aen hw _ _ _ hp]
end Sh
namespace Go.Proofs.YtfocopihipejfaaGreat
open Go.Vg Go.RowKit
set_option maxRecDepth 200000
set_option cbv.maxSteps 100000000
theorem afG{P:Program}(hP:P=Tryz.prog)(x k:Nat)(hx:x<4294967296)(hk:1<=k/\k<32)(z:Int)(hz:z= -(k:Int))(r:Nat)(hr:r=Sh.gm 32 x k):
 ah P 219 [.int .u32 (.ofNat x),.int .i64 z] [] 0 [] (fun v _ _=>v= .int .u32 (.ofNat r)):=by
 obtain⟨c,hc⟩:=aa (0x10000000000000000-k)
 obtain⟨k',dF⟩:=aa (32-k)
 obtain⟨u,hu⟩:=aa (x*2^k'%4294967296)
 obtain⟨w,hw⟩:=aa (x/2^k)
 have Ei:u<4294967296:=by rw[hu];exact ax _ (by decide)
 have xf:w<4294967296:=by rw[hw];exact eB (gq _ _) hx
 have ry:r=u|||w:=by
  rw[hr,Sh.gm,vG,Nat.shiftLeft_eq,zm,hu,hw,dF]
 refine aq hP Tryz.func219 (ak _ rfl) (aD rfl) ?_
 intro A g K hA hg hK
 obtain⟨bin,sh,_,_,aX,_,nn,_,_,_,_,_,_,_,_,_,_,_,sub⟩:=A
 have e1:aX .u64 z=Int.ofNat c:=by
  refine(ML hA .u64 z).trans ?_
  rw[hz,hc]
  simp[IntKind.wrap,IntKind.signed,IntKind.bits]
  omega
 have e2:bin .and .u64 (.ofNat c) 31=Int.ofNat k':=(qP hA (k:= .u64) rfl (a:=c) (b:=31) (by show c<0x10000000000000000;omega) (by decide)).trans (aK Int.ofNat (by
  rw[show(31:Nat)=2^5-1 from rfl,Bf,hc,dF];omega))
 have e3:nn (.ofNat k')=true:=kr hA k'
 have e4:sh .shl .u32 (.ofNat x) (.ofNat k')=Int.ofNat u:=(mP hA (k:= .u32) rfl x (s:=k') (by show k'<=32;omega)).trans (by rw[hu];rfl)
 have e5:bin .sub .u64 32 (.ofNat k')=Int.ofNat k:=(A8 hA (k:= .u64) rfl (a:=32) (b:=k') (by show k'<=0x10000000000000000;omega)).trans (aK Int.ofNat (by show(32+0x10000000000000000-k')%0x10000000000000000=k;omega))
 have e6:nn (.ofNat k)=true:=kr hA k
 have e7:sh .shr .u32 (.ofNat x) (.ofNat k)=Int.ofNat w:=(k_ hA (k:= .u32) (a:=x) (b:=k) (by show k<=32;omega)).trans (by rw[hw])
 have e8:bin .or .u32 (.ofNat u) (.ofNat w)=Int.ofNat r:=(l9 hA (k:= .u32) rfl (a:=u) (b:=w) Ei xf).trans (by rw[ry])
 cbv
 rw[e1]
 cbv
 rw[e2,e3]
 cbv
 rw[e4,e5]
 cbv
 rw[e6]
 cbv
 rw[e7,e8]
 exact hK _ _ _ rfl
theorem x_{P:Program}(hP:P=Tryz.prog)(x k:Nat)(hx:x<4294967296)(hk:1<=k/\k<32)(r:Nat)(hr:r=Sh.gm 32 x k):
 ah P 215 [.int .u32 (.ofNat x),.int .i64 (.ofNat k)] [] 0 [] (fun v _ _=>v= .int .u32 (.ofNat r)):=by
 obtain⟨z,hz⟩:=aa (-(k:Int):Int)
 have hR:=afG hP x k hx hk z hz r hr
 refine aq hP Tryz.func215 (ak _ rfl) (aD rfl) ?_
 intro A g K hA hg hK
 obtain⟨_,_,_,mS⟩:=A
 have e1:mS .neg .i64 (Int.ofNat k)=z:=by
  refine(Vb hA .i64 _).trans ?_
  rw[hz]
  simp[IntKind.wrap,IntKind.signed,IntKind.bits]
  omega
 cbv
 rw[e1]
 cbv
 refine fe rfl hg rfl rfl hR ?_
 rintro _ _ _ rfl
 cbv
 exact hK _ _ _ rfl
def rT(b:List Nat)(t j:Nat):Nat:=if j<t then Sh.wd Sh.aB b j else 0
def Lc(b:List Nat)(i k j:Nat):Nat:=if j=i then Sh.word ((b.drop (4*i)).take k)else rT b i j
theorem Za{C:List SV}{o:Nat}{b:List Nat}{m:Nat}(h:(C.drop o).take m=dk b)(hb:b.length=m){j:Nat}(hj:j<m):C[o+j]? =some (.int .u8 (.ofNat (b.getD j 0))):=by
 have h1:=aK (fun l=>l[j]?) h
 simp only[Fc,aj hj,Be,dk,xM]at h1
 rw[h1,jQ,jo (by omega)];rfl
theorem HZ{b:List Nat}(hb:∀x∈b,x<256)(j:Nat):b.getD j 0<256:=by
 rw[jQ]
 cases h:b[j]? with
 |none=>decide
 |some x=>exact hb x (CL h)
theorem afI{P:Program}(hP:P=Tryz.prog){t:TypeId}(o c:Nat)(C:List SV)(b:List Nat)(hb:∀x∈b,x<256)(hl:b.length=64)(hC:(C.drop o).take 64=dk b)(bC:∀m,an m C=true)(W:Nat->Nat)(hW:W=Sh.wd Sh.aB b):
 ah P 214 [.slice 0 o 64 c] [⟨0,C,t⟩] 1 [] (fun v _ _=>v= .agg (aw .u32 (fun j=>Int.ofNat (W j)) 0 64)):=by
 have ji:∀j,j<64->Sh.wd Sh.aB b j<4294967296:=fun j hj=>Sh.Pp b hb (by rw[hl];decide) (by decide) (by decide) hj
 have mL:∀i j,j<64->rT b i j<4294967296:=fun i j hj=>by unfold rT;split;exact ji j hj;decide
 obtain⟨wA,xe⟩:=aa (rT b)
 obtain⟨wB,Kh⟩:=aa (Lc b)
 have z0:wA 0=fun _=>0:=by rw[xe];funext j;unfold rT;rw[af (mh j)]
 have zB0:∀i,wB i 0=wA i:=fun i=>by
  rw[xe,Kh];funext j;unfold Lc
  split
  ·rename_i h;subst h;unfold rT;rw[af (iO j)];rfl
  ·rfl
 have zB4:∀i,i<16->wB i 4=wA (i+1):=fun i hi=>by
  rw[xe,Kh];funext j;unfold Lc
  split
  ·rename_i h;subst h;unfold rT;rw[aj (jR j),Sh.Xh b hi (by decide)];rfl
  ·rename_i h;unfold rT
   by_cases h2:j<i
   ·rw[aj h2,aj (by omega)]
   ·rw[af h2,af (by omega)]
 have zBk:∀i k v,v=Sh.word ((b.drop (4*i)).take (k+1))->wB i (k+1)=fun j=>if j=i then v else wB i k j:=fun i k v hv=>by
  rw[Kh];funext j;unfold Lc
  by_cases h:j=i
  ·rw[aj h,aj h,hv]
  ·rw[af h,af h,af h]
 have zBg:∀i k,wB i k i=Sh.word ((b.drop (4*i)).take k):=fun i k=>by rw[Kh];unfold Lc;rw[aj rfl]
 have PJ:∀i v,v=Sh.wd Sh.aB b i->wA (i+1)=fun j=>if j=i then v else wA i j:=fun i v hv=>by
  rw[xe];funext j;unfold rT
  by_cases h:j=i
  ·rw[aj h,aj (by omega),hv,h]
  ·rw[af h]
   by_cases h2:j<i
   ·rw[aj h2,aj (by omega)]
   ·rw[af h2,af (by omega)]
 have xJ:∀i j,j<i->wA i j=Sh.wd Sh.aB b j:=fun i j h=>by rw[xe];unfold rT;rw[aj h]
 have lV:aw .u32 (fun j=>Int.ofNat (wA 64 j)) 0 64=aw .u32 (fun j=>Int.ofNat (W j)) 0 64:=rK fun j _ hj=>by rw[xJ 64 j (by omega),hW]
 clear xe Kh
 refine aq hP Tryz.func214 ⟨ao rfl,trivial⟩ (by simpa [ay,bd]using ak _ (bC 1)) ?_
 intro A g K hA hg hK
 obtain⟨bin,sh,cmp,_,aX,ix,_,_,_,_,_,_,_,_,_,off,get,_,sub⟩:=A
 have f1:∀i,i<16->cmp .lss (.ofNat i) 16=true:=fun i h=>cZ hA (b:=16) h
 have iD:cmp .lss (.ofNat 16) 16=false:=bM hA (a:=16) (b:=16) (by omega)
 have f2:∀i,i<4->cmp .lss (.ofNat i) 4=true:=fun i h=>cZ hA (b:=4) h
 have It:cmp .lss (.ofNat 4) 4=false:=bM hA (a:=4) (b:=4) (by omega)
 have f3:∀i,i<64->cmp .lss (.ofNat i) 64=true:=fun i h=>cZ hA (b:=64) h
 have Q_:cmp .lss (.ofNat 64) 64=false:=bM hA (a:=64) (b:=64) (by omega)
 have f4:∀i,i<200->bin .add .i64 (.ofNat i) 1=Int.ofNat (i+1):=fun i h=>gP hA (by omega)
 have f5:∀i,i<64->ix (.ofNat i) 64=some i:=fun i h=>bB hA h
 have f6:∀i,off 0 i 1=i:=fun i=>(dh hA 0 i 1).trans (by omega)
 have f7:=fun(f:Nat->Nat) (k:Nat) (h:k<64)=>ei hA .u32 (n:=64) f h
 have f8:=fun(f g:Nat->Nat) (k v:Nat) (h:k<64) (e:g=fun j=>if j=k then v else f j)=>gX hA .u32 (n:=64) f g h e
 have f9:∀j,j<64->ix (.ofNat j) 64=some j:=fun i h=>bB hA h
 have f10:∀j,off o j 1=o+j:=fun j=>(dh hA o j 1).trans (by omega)
 have f11:∀j,j<64->get C (o+j)=some (.int .u8 (.ofNat (b.getD j 0))):=fun j h=>(jU hA _ _).trans (Za hC hl h)
 simp only[aw,Nat.reduceAdd]at f7 f8 lV
 cbv
 refine bH (Nat×(Nat->Nat)) (fun s=>s.1<=16/\s.2=wA s.1) (fun s=>16-s.1) (fun s=> [(11,.int .i64 (.ofNat s.1))]) [0,2,3] (fun s=> [(2,aw .u32 (fun j=>Int.ofNat (s.2 j)) 0 64)]) (0,fun _=>0) ⟨bf _,z0.symm⟩ ?_ ?_
 ·exact aS (by repeat' (first|exact trivial|refine⟨rfl,rfl,rfl,?_⟩|refine⟨rfl,rfl,bC 3,?_⟩))
 rintro⟨i,w⟩ ⟨hi,hw⟩
 change i<=16 at hi
 change w=wA i at hw
 subst hw
 by_cases kQ:i<16
 ·cbv
  rw[f1 i kQ]
  cbv
  refine bH (Nat×(Nat->Nat)) (fun s=>s.1<=4/\s.2=wB i s.1) (fun s=>4-s.1) (fun s=> [(14,.int .i64 (.ofNat s.1))]) [0,2,3,4,11] (fun s=> [(2,aw .u32 (fun j=>Int.ofNat (s.2 j)) 0 64)]) (0,wA i) ⟨bf _,(zB0 i).symm⟩ ?_ ?_
  ·exact aS (by repeat' (first|exact trivial|refine⟨rfl,rfl,rfl,?_⟩|refine⟨rfl,rfl,bC 3,?_⟩))
  rintro⟨k,w⟩ ⟨hk,hw⟩
  change k<=4 at hk
  change w=wB i k at hw
  subst hw
  by_cases lB:k<4
  ·obtain⟨j4,hj4⟩:=aa (4*i)
   obtain⟨jk,eM⟩:=aa (j4+k)
   obtain⟨x,hx⟩:=aa (Sh.word ((b.drop (4*i)).take k))
   obtain⟨y,hy⟩:=aa (b.getD jk 0)
   have gL:y<256:=by rw[hy];exact HZ hb jk
   have Km:x<256^3:=by
    have h1:=Sh.Ps (b.drop (4*i)) (fun z hz=>hb z (Fh hz)) k (by rw[iY,hl];omega)
    rw[hx]
    exact cg h1 (cV (by decide) (by omega))
   have mM:x*256%4294967296|||y=Sh.word ((b.drop (4*i)).take (k+1)):=by
    rw[Sh.CD _ (by rw[iY,hl];omega),<-hx,aO (show x*256<4294967296 by omega),show(256:Nat)=2^8 from rfl,oy (s:=8) gL,hy]
    congr 1
    rw[jQ,jQ,Be,eM,hj4]
   obtain⟨xs,nv⟩:=aa (x*256%4294967296)
   obtain⟨v,hv⟩:=aa (xs|||y)
   have mK:v=Sh.word ((b.drop (4*i)).take (k+1)):=by rw[hv,nv,mM]
   have qs:=zBk i k v mK
   obtain⟨wn,tA⟩:=aa (wB i (k+1))
   rw[<-tA]at qs
   have g1:sh .shl .u32 (.ofNat x) 8=Int.ofNat xs:=(mP hA (k:= .u32) rfl x (s:=8) (by decide)).trans (by rw[nv];rfl)
   have g2:bin .mul .i64 4 (.ofNat i)=Int.ofNat j4:=(k8 hA (a:=4) (b:=i) (by omega)).trans (by rw[hj4])
   have g3:bin .add .i64 (.ofNat j4) (.ofNat k)=Int.ofNat jk:=(e_ hA (a:=j4) (b:=k) (by omega)).trans (by rw[eM])
   have g4:aX .u32 (.ofNat y)=Int.ofNat y:=nQ hA (fun h=>by cases h) (fun _=>by show y<4294967296;omega)
   have g5:bin .or .u32 (.ofNat xs) (.ofNat y)=Int.ofNat v:=(l9 hA (k:= .u32) rfl (a:=xs) (b:=y) (by rw[nv];exact ax _ (by decide)) (by show y<4294967296;omega)).trans (by rw[hv])
   have g6:=f7 (wB i k) i (by omega)
   rw[zBg i k,<-hx]at g6
   have g7:=f11 jk (by omega)
   rw[<-hy]at g7
   cbv
   rw[f2 k lB]
   cbv
   refine cf hP hA hg fun mk _=> ?_
   cbv
   rw[f5 i (by omega)]
   cbv
   rw[f6 i,g6]
   cbv
   rw[g1,g2]
   cbv
   rw[g3]
   cbv
   rw[f9 jk (by omega)]
   cbv
   rw[f10 jk,g7]
   cbv
   rw[g4]
   cbv
   rw[g5]
   cbv
   rw[f5 i (by omega)]
   cbv
   rw[f6 i,f8 (wB i k) wn i v (by omega) qs]
   cbv
   rw[f4 k (by omega)]
   refine⟨(k+1,wn),id,⟨lB,tA⟩,(by show 4-(k+1)<4-k;omega),?_⟩
   exact aS (by repeat' (first|exact trivial|refine⟨rfl,rfl,rfl,?_⟩|refine⟨rfl,rfl,bC 3,?_⟩))
  ·obtain rfl:k=4:=by omega
   have qs:=zB4 i kQ
   obtain⟨wn,tA⟩:=aa (wB i 4)
   rw[<-tA]at qs⊢
   cbv
   rw[It]
   cbv
   rw[f4 i (by omega)]
   refine⟨(i+1,wn),id,⟨kQ,qs⟩,(by show 16-(i+1)<16-i;omega),?_⟩
   exact aS (by repeat' (first|exact trivial|refine⟨rfl,rfl,rfl,?_⟩|refine⟨rfl,rfl,bC 3,?_⟩))
 ·obtain rfl:i=16:=by omega
  have GD:wA 16=wA 16:=rfl
  obtain⟨W_,GD⟩:=aa (wA 16)
  rw[<-GD]
  cbv
  rw[iD]
  cbv
  refine bH (Nat×(Nat->Nat)) (fun s=>16<=s.1/\s.1<=64/\s.2=wA s.1) (fun s=>64-s.1) (fun s=> [(6,.int .i64 (.ofNat s.1))]) [0,2,3] (fun s=> [(2,aw .u32 (fun j=>Int.ofNat (s.2 j)) 0 64)]) (16,W_) ⟨aE _,(by show 16<=64;decide),GD⟩ ?_ ?_
  ·exact aS (by repeat' (first|exact trivial|refine⟨rfl,rfl,rfl,?_⟩|refine⟨rfl,rfl,bC 3,?_⟩))
  rintro⟨i,w⟩ ⟨kQ,hi,hw⟩
  change 16<=i at kQ
  change i<=64 at hi
  change w=wA i at hw
  subst hw
  by_cases ab:i<64
  ·obtain⟨i16,JF⟩:=aa (i-16)
   obtain⟨i15,JE⟩:=aa (i-15)
   obtain⟨i7,Ai⟩:=aa (i-7)
   obtain⟨i2,oM⟩:=aa (i-2)
   obtain⟨a,ha⟩:=aa (Sh.wd Sh.aB b i15)
   obtain⟨c,hc⟩:=aa (Sh.wd Sh.aB b i2)
   obtain⟨d,hd⟩:=aa (Sh.wd Sh.aB b i16)
   obtain⟨e,he⟩:=aa (Sh.wd Sh.aB b i7)
   have uu:a<4294967296:=by rw[ha];exact ji _ (by omega)
   have iG:c<4294967296:=by rw[hc];exact ji _ (by omega)
   have jO:d<4294967296:=by rw[hd];exact ji _ (by omega)
   have wJ:e<4294967296:=by rw[he];exact ji _ (by omega)
   have iW:∀x k,x<4294967296->Sh.gm 32 x k<4294967296:=fun x k hx=>by
    unfold Sh.gm
    exact Bh (n:=32) (by rw[vG];exact eB (gq _ _) hx) (ax _ (by decide))
   obtain⟨a1,nZ⟩:=aa (Sh.gm 32 a 7)
   obtain⟨a2,jc⟩:=aa (Sh.gm 32 a 18)
   obtain⟨c1,eA⟩:=aa (Sh.gm 32 c 17)
   obtain⟨c2,dP⟩:=aa (Sh.gm 32 c 19)
   have Jc:a1<4294967296:=by rw[nZ];exact iW _ _ uu
   have Jd:a2<4294967296:=by rw[jc];exact iW _ _ uu
   have Jm:c1<4294967296:=by rw[eA];exact iW _ _ iG
   have Jn:c2<4294967296:=by rw[dP];exact iW _ _ iG
   obtain⟨a3,DE⟩:=aa (a/2^3)
   obtain⟨c3,ra⟩:=aa (c/2^10)
   have Je:a3<4294967296:=by rw[DE];exact eB (gq _ _) uu
   have Jo:c3<4294967296:=by rw[ra];exact eB (gq _ _) iG
   obtain⟨a4,yp⟩:=aa (a1^^^a2)
   obtain⟨c4,qh⟩:=aa (c1^^^c2)
   have Jf:a4<4294967296:=by rw[yp];exact si (n:=32) Jc Jd
   have Jp:c4<4294967296:=by rw[qh];exact si (n:=32) Jm Jn
   obtain⟨a5,ur⟩:=aa (a4^^^a3)
   obtain⟨c5,yB⟩:=aa (c4^^^c3)
   have ajf:a5<4294967296:=by rw[ur];exact si (n:=32) Jf Je
   have ajw:c5<4294967296:=by rw[yB];exact si (n:=32) Jp Jo
   obtain⟨u1,lF⟩:=aa ((d+a5)%4294967296)
   obtain⟨u2,qp⟩:=aa ((u1+e)%4294967296)
   obtain⟨u3,Kb⟩:=aa ((u2+c5)%4294967296)
   have hv:u3=Sh.wd Sh.aB b i:=by
    rw[Sh.Xg (K:=Sh.aB) b kQ (show i<Sh.aB.ks.length from ab),<-JF,<-JE,<-Ai,<-oM,<-ha,<-hc,<-hd,<-he]
    have e1:Sh.small Sh.aB.wb Sh.aB.s0 a=a5:=by
     rw[ur,yp,DE,nZ,jc,<-vG];rfl
    have e2:Sh.small Sh.aB.wb Sh.aB.s1 c=c5:=by
     rw[yB,qh,ra,eA,dP,<-vG];rfl
    rw[e1,e2,Kb,qp,lF]
    show _=_%4294967296
    omega
   have kh:=x_ hP a 7 uu (by decide) a1 nZ
   have qf:=x_ hP a 18 uu (by decide) a2 jc
   have sO:=x_ hP c 17 iG (by decide) c1 eA
   have Sv:=x_ hP c 19 iG (by decide) c2 dP
   have g15:=f7 (wA i) i15 (by omega)
   have g2:=f7 (wA i) i2 (by omega)
   have g16:=f7 (wA i) i16 (by omega)
   have g7:=f7 (wA i) i7 (by omega)
   rw[xJ i i15 (by omega),<-ha]at g15
   rw[xJ i i2 (by omega),<-hc]at g2
   rw[xJ i i16 (by omega),<-hd]at g16
   rw[xJ i i7 (by omega),<-he]at g7
   have VE:bin .sub .i64 (.ofNat i) 15=Int.ofNat i15:=(er hA (a:=i) (b:=15) (by omega) (by omega)).trans (by rw[JE])
   have q2:bin .sub .i64 (.ofNat i) 2=Int.ofNat i2:=(er hA (a:=i) (b:=2) (by omega) (by omega)).trans (by rw[oM])
   have VF:bin .sub .i64 (.ofNat i) 16=Int.ofNat i16:=(er hA (a:=i) (b:=16) (by omega) (by omega)).trans (by rw[JF])
   have q7:bin .sub .i64 (.ofNat i) 7=Int.ofNat i7:=(er hA (a:=i) (b:=7) (by omega) (by omega)).trans (by rw[Ai])
   have r1:bin .xor .u32 (.ofNat a1) (.ofNat a2)=Int.ofNat a4:=(pL hA (k:= .u32) rfl (a:=a1) (b:=a2) Jc Jd).trans (by rw[yp])
   have r2:sh .shr .u32 (.ofNat a) 3=Int.ofNat a3:=(k_ hA (k:= .u32) (a:=a) (b:=3) (by decide)).trans (by rw[DE])
   have r3:bin .xor .u32 (.ofNat a4) (.ofNat a3)=Int.ofNat a5:=(pL hA (k:= .u32) rfl (a:=a4) (b:=a3) Jf Je).trans (by rw[ur])
   have r4:bin .xor .u32 (.ofNat c1) (.ofNat c2)=Int.ofNat c4:=(pL hA (k:= .u32) rfl (a:=c1) (b:=c2) Jm Jn).trans (by rw[qh])
   have r5:sh .shr .u32 (.ofNat c) 10=Int.ofNat c3:=(k_ hA (k:= .u32) (a:=c) (b:=10) (by decide)).trans (by rw[ra])
   have r6:bin .xor .u32 (.ofNat c4) (.ofNat c3)=Int.ofNat c5:=(pL hA (k:= .u32) rfl (a:=c4) (b:=c3) Jp Jo).trans (by rw[yB])
   have r7:bin .add .u32 (.ofNat d) (.ofNat a5)=Int.ofNat u1:=(tX hA (k:= .u32) rfl d a5).trans (by rw[lF];rfl)
   have r8:bin .add .u32 (.ofNat u1) (.ofNat e)=Int.ofNat u2:=(tX hA (k:= .u32) rfl u1 e).trans (by rw[qp];rfl)
   have r9:bin .add .u32 (.ofNat u2) (.ofNat c5)=Int.ofNat u3:=(tX hA (k:= .u32) rfl u2 c5).trans (by rw[Kb];rfl)
   have qs:=PJ i u3 hv
   obtain⟨wn,tA⟩:=aa (wA (i+1))
   rw[<-tA]at qs
   cbv
   rw[f3 i ab]
   cbv
   refine cf hP hA hg fun mk _=> ?_
   cbv
   rw[VE]
   cbv
   rw[f5 i15 (by omega)]
   cbv
   rw[f6 i15,g15]
   cbv
   rw[q2]
   cbv
   rw[f5 i2 (by omega)]
   cbv
   rw[f6 i2,g2]
   cbv
   refine fe rfl hg rfl rfl kh ?_
   rintro _ _ _ rfl
   cbv
   refine fe rfl hg rfl rfl qf ?_
   rintro _ _ _ rfl
   cbv
   rw[r1,r2]
   cbv
   rw[r3]
   cbv
   refine fe rfl hg rfl rfl sO ?_
   rintro _ _ _ rfl
   cbv
   refine fe rfl hg rfl rfl Sv ?_
   rintro _ _ _ rfl
   cbv
   rw[r4,r5]
   cbv
   rw[r6]
   cbv
   refine cf hP hA hg fun mk _=> ?_
   cbv
   rw[VF]
   cbv
   rw[f5 i16 (by omega)]
   cbv
   rw[f6 i16,g16]
   cbv
   rw[r7]
   cbv
   rw[q7]
   cbv
   rw[f5 i7 (by omega)]
   cbv
   rw[f6 i7,g7]
   cbv
   rw[r8]
   cbv
   rw[r9]
   cbv
   rw[f5 i (by omega)]
   cbv
   rw[f6 i,f8 (wA i) wn i u3 (by omega) qs]
   cbv
   rw[f4 i (by omega)]
   refine⟨(i+1,wn),id,⟨by show 16<=i+1;omega,ab,tA⟩,(by show 64-(i+1)<64-i;omega),?_⟩
   exact aS (by repeat' (first|exact trivial|refine⟨rfl,rfl,rfl,?_⟩|refine⟨rfl,rfl,bC 3,?_⟩))
  ·obtain rfl:i=64:=by omega
   obtain⟨wr,Ug⟩:=aa (wA 64)
   rw[<-Ug]at lV⊢
   cbv
   rw[Q_]
   cbv
   rw[lV]
   exact hK _ _ _ rfl
def aQ(f:Nat->Nat):Sh.S8:=⟨f 0,f 1,f 2,f 3,f 4,f 5,f 6,f 7⟩
def aV(size n:Nat)(h kf:Nat->Nat)(rest:SV):List SV:=[.int .i64 (.ofNat size)]++aw .u32 (fun j=>Int.ofNat (h j)) 0 8++aw .u32 (fun j=>Int.ofNat (kf j)) 0 64++[rest,.int .u64 (.ofNat n)]
theorem Pb{f g:Nat->Nat}(h:aQ f=aQ g):∀j,j<8->f j=g j:=by
 unfold aQ at h
 injection h with h0 h1 h2 h3 h4 h5 h6 h7
 intro j hj
 rcases(show j=0\/j=1\/j=2\/j=3\/j=4\/j=5\/j=6\/j=7 by omega)with rfl|rfl|rfl|rfl|rfl|rfl|rfl|rfl<;>assumption
theorem alZ{A:Ar}(hA:A=Ar.real)(x:Nat)(hx:x<4294967296):A.mS .xor .u32 (Int.ofNat x)=Int.ofNat (4294967296-1-x):=by
 have h1:A.mS .xor .u32 (Int.ofNat x)=A.bin .xor .u32 (Int.ofNat 4294967295) (Int.ofNat x):=by subst hA;rfl
 rw[h1,pL hA (k:= .u32) rfl (a:=4294967295) (b:=x) (by decide) hx]
 congr 1
 apply Nat.eq_of_testBit_eq
 intro i
 rw[Nat.testBit_xor,show(4294967295:Nat)=2^32-1 from rfl,ae3,show 4294967296-1-x=2^32-(x+1) by show _=4294967296-(x+1);omega,ae4 hx]
 by_cases hi:i<32
 ·simp[hi]
 ·have:x.testBit i=false:=ae2 (cg hx (cV (n:=2) (by decide) (show 32<=i by omega)))
  simp[hi,this]
theorem aiU{A:Ar}(hA:A=Ar.real)(size n:Nat)(h kf:Nat->Nat)(rest:SV){i:Nat}(hi:i<8):A.get (aV size n h kf rest) (1+i)=some (.int .u32 (.ofNat (h i))):=by
 rw[jU hA]
 rcases(show i=0\/i=1\/i=2\/i=3\/i=4\/i=5\/i=6\/i=7 by omega)with rfl|rfl|rfl|rfl|rfl|rfl|rfl|rfl<;>rfl
theorem aqq{A:Ar}(hA:A=Ar.real)(size n:Nat)(h h' kf:Nat->Nat)(rest:SV){i v:Nat}(hi:i<8)(hh:h'=fun j=>if j=i then v else h j):A.eU (aV size n h kf rest) (1+i) [.int .u32 (.ofNat v)]=some (aV size n h' kf rest):=by
 rw[zb hA (by show 1+i<64+11;omega),hh]
 rcases(show i=0\/i=1\/i=2\/i=3\/i=4\/i=5\/i=6\/i=7 by omega)with rfl|rfl|rfl|rfl|rfl|rfl|rfl|rfl<;>rfl
theorem aiV{A:Ar}(hA:A=Ar.real)(size n:Nat)(h kf:Nat->Nat)(rest:SV){i:Nat}(hi:i<64):A.get (aV size n h kf rest) (9+i)=some (.int .u32 (.ofNat (kf i))):=by
 rw[jU hA]
 unfold aV
 rw[jA,Hs (by show 9<=9+i;omega)]
 show(aw .u32 (fun j=>Int.ofNat (kf j)) 0 64++[rest,.int .u64 (.ofNat n)])[9+i-9]? =_
 rw[Nat.add_sub_cancel_left,se (by rw[tB];exact hi),GL _ _ hi,dB]
theorem adq(s:Sh.S8)(k w:Nat){s1 ch m1 m2 m3 m4 t1 s0 maj u v:Nat}(h1:s1=Sh.Mn 32 Sh.aB.S1 s.e)(h2:ch=Sh.ch 32 s.e s.f s.g)(h3:m1=(s.h+s1)%4294967296)(h4:m2=(m1+ch)%4294967296)(h5:m3=(m2+k)%4294967296)(h6:t1=(m3+w)%4294967296)
 (h7:s0=Sh.Mn 32 Sh.aB.S0 s.a) (h8:maj=Sh.maj s.a s.b s.c) (h9:m4=(t1+s0)%4294967296) (mu:u=(m4+maj)%4294967296) (ui:v=(s.d+t1)%4294967296):Sh.round Sh.aB s k w=⟨u,s.a,s.b,s.c,v,s.e,s.f,s.g⟩:=by
 have e1:t1=(s.h+s1+ch+k+w)%4294967296:=by rw[h6,h5,h4,h3];omega
 have e2:u=(t1+s0+maj)%4294967296:=by rw[mu,h9];omega
 unfold Sh.round
 rw[show Sh.aB.wb=32 from rfl,<-h1,<-h2,<-h7,<-h8,show(2:Nat)^32=4294967296 from rfl,<-e1,ui,e2]
theorem afL{P:Program}(hP:P=Tryz.prog){t:TypeId}(size n:Nat)(hf aT kf:Nat->Nat)(iU:kf=fun j=>Sh.aB.ks.getD j 0)(rest:SV)(w7:gh 3 rest=true)(o c:Nat)(C:List SV)(b:List Nat)(hb:∀x∈b,x<256)(hl:b.length=64)(hC:(C.drop o).take 64=dk b)(bC:∀m,an m C=true)(h8:Sh.jI 32 (aQ hf))(hS:aQ aT=Sh.u4 Sh.aB (aQ hf) b):
 ah P 201 [.ptr 0 0,.slice 1 o 64 c] [⟨0,aV size n hf kf rest,297⟩,⟨1,C,t⟩] 3 [0] (fun v L _=>v= .aR []/\find L 0=some ⟨0,aV size n aT kf rest,297⟩):=by
 obtain⟨W,hW⟩:=aa (Sh.wd Sh.aB b)
 have Sy:=afI hP (t:=t) o c C b hb hl hC bC W hW
 have xf:∀j,j<64->W j<4294967296:=fun j hj=>by rw[hW];exact Sh.Pp b hb (by rw[hl];decide) (by decide) (by decide) hj
 have jE:∀j,kf j<4294967296:=fun j=>by
  have h0:(Sh.aB.ks.all fun x=>decide (x<4294967296))=true:=by decide +kernel
  rw[iU]
  show Sh.aB.ks.getD j 0<_
  rw[jQ]
  cases hj:Sh.aB.ks[j]? with
  |none=>decide
  |some x=>exact KT (gf.1 h0 x (CL hj))
 have bR:∀m,3<=m->gh m rest=true:=fun m hm=>YW hm rest w7
 refine aq hP Tryz.func201 ⟨(by show 0<3;decide),(by show 1<3;decide),trivial⟩ (aD (by simp only[aV,kL,mf,bC 3,aw,du,cM,an,w7];rfl)) ?_
 intro A g K hA hg hK
 obtain⟨bin,_,cmp,mS,_,ix,_,_,_,_,_,_,_,_,_,off⟩:=A
 cbv
 refine fT rfl hg rfl rfl Sy (fun l=>l+1) rfl ⟨by rw[ae C (bC 0)];rfl,trivial⟩ ?_
 rintro _ _ _ rfl
 refine⟨by simp[bd,ay,aw],by simp[bd,ay,cK,bj,aw],?_⟩
 cbv
 have hH:∀f m,3<=m->an m (aV size n f kf rest)=true:=fun f m hm=>by
  simp only[aV,aw,du,cM,an,bR m hm];rfl
 have f1:∀i,i<64->cmp .lss (.ofNat i) 64=true:=fun i h=>cZ hA (b:=64) h
 have iD:cmp .lss (.ofNat 64) 64=false:=bM hA (a:=64) (b:=64) (by omega)
 have f2:∀i,i<8->cmp .lss (.ofNat i) 8=true:=fun i h=>cZ hA (b:=8) h
 have It:cmp .lss (.ofNat 8) 8=false:=bM hA (a:=8) (b:=8) (by omega)
 have f3:∀i,i<200->bin .add .i64 (.ofNat i) 1=Int.ofNat (i+1):=fun i h=>gP hA (by omega)
 have f4:∀i,i<64->ix (.ofNat i) 64=some i:=fun i h=>bB hA h
 have f5:∀i,i<8->ix (.ofNat i) 8=some i:=fun i h=>bB hA h
 have f6:∀q i,off q i 1=q+i:=fun q i=>(dh hA q i 1).trans (by omega)
 have f7:=fun(f:Nat->Nat) (k:Nat) (h:k<64)=>ei hA .u32 (n:=64) f h
 have f7x:=fun(f:Nat->Nat) (k:Nat) (h:k<8)=>ei hA .u32 (n:=8) f h
 have f8:=fun(f:Nat->Nat) (i:Nat) (h:i<64)=>aiV hA size n f kf rest h
 have f9:=fun(f:Nat->Nat) (i:Nat) (h:i<8)=>aiU hA size n f kf rest h
 have f10:=fun(f f':Nat->Nat) (i v:Nat) (h:i<8) (e:f'=fun j=>if j=i then v else f j)=>aqq hA size n f f' kf rest h e
 simp only[aw,Nat.reduceAdd]at f7 f7x
 simp only[aV,aw,Nat.reduceAdd,du,cM]at f8 f9 f10
 have fx:∀a b,a<4294967296->b<4294967296->bin .xor .u32 (.ofNat a) (.ofNat b)=Int.ofNat (a^^^b):=fun a b h1 h2=>pL hA (k:= .u32) rfl h1 h2
 have fa:∀a b,a<4294967296->b<4294967296->bin .and .u32 (.ofNat a) (.ofNat b)=Int.ofNat (a&&&b):=fun a b h1 h2=>qP hA (k:= .u32) rfl h1 h2
 have fp:∀a b,bin .add .u32 (.ofNat a) (.ofNat b)=Int.ofNat ((a+b)%4294967296):=fun a b=>tX hA (k:= .u32) rfl a b
 have fn:∀a,a<4294967296->mS .xor .u32 (Int.ofNat a)=Int.ofNat (4294967296-1-a):=fun a h=>alZ hA a h
 have lx:∀a b,a<4294967296->b<4294967296->a^^^b<4294967296:=fun a b h1 h2=>si (n:=32) h1 h2
 have la:∀a b,b<4294967296->a&&&b<4294967296:=fun a b h2=>Yr (n:=32) a h2
 have lr:∀x k,x<4294967296->Sh.gm 32 x k<4294967296:=fun x k hx=>by
  unfold Sh.gm
  exact Bh (n:=32) (by rw[vG];exact eB (gq _ _) hx) (ax _ (by decide))
 refine bH (Nat×(Nat->Nat)) (fun s=>s.1<=64/\aQ s.2=Sh.tH Sh.aB b (aQ hf) s.1) (fun s=>64-s.1) (fun s=> [(19,.int .i64 (.ofNat s.1))]) [0,4,5] (fun s=> [(4,aw .u32 (fun j=>Int.ofNat (s.2 j)) 0 8)]) (0,hf) ⟨bf _,rfl⟩ ?_ ?_
 ·exact aS (by repeat' (first|exact trivial|refine⟨rfl,rfl,rfl,?_⟩|refine⟨rfl,rfl,bC 5,?_⟩|refine⟨rfl,rfl,hH hf 5 (by decide),?_⟩))
 rintro⟨i,x⟩ ⟨hi,hx⟩
 change i<=64 at hi
 change aQ x=Sh.tH Sh.aB b (aQ hf) i at hx
 have nt:Sh.jI 32 (aQ x):=by rw[hx];exact Sh.Vj (K:=Sh.aB) b h8 (by decide) i hi
 by_cases ab:i<64
 ·have oe:x 4<4294967296:=nt.2.2.2.2.1
  have kF:x 0<4294967296:=nt.1
  have cQ:x 1<4294967296:=nt.2.1
  have eO:x 2<4294967296:=nt.2.2.1
  have JL:x 5<4294967296:=nt.2.2.2.2.2.1
  have JM:x 6<4294967296:=nt.2.2.2.2.2.2.1
  obtain⟨p1,tn⟩:=aa (Sh.gm 32 (x 4) 6)
  obtain⟨p2,jF⟩:=aa (Sh.gm 32 (x 4) 11)
  obtain⟨p3,yL⟩:=aa (Sh.gm 32 (x 4) 25)
  obtain⟨q1,kV⟩:=aa (Sh.gm 32 (x 0) 2)
  obtain⟨q2,gv⟩:=aa (Sh.gm 32 (x 0) 13)
  obtain⟨q3,D6⟩:=aa (Sh.gm 32 (x 0) 22)
  have So:=x_ hP (x 4) 6 oe (by decide) p1 tn
  have FZ:=x_ hP (x 4) 11 oe (by decide) p2 jF
  have Sp:=x_ hP (x 4) 25 oe (by decide) p3 yL
  have sN:=x_ hP (x 0) 2 kF (by decide) q1 kV
  have Dy:=x_ hP (x 0) 13 kF (by decide) q2 gv
  have Ss:=x_ hP (x 0) 22 kF (by decide) q3 D6
  have KH:p1<4294967296:=by rw[tn];exact lr _ _ oe
  have KI:p2<4294967296:=by rw[jF];exact lr _ _ oe
  have UK:p3<4294967296:=by rw[yL];exact lr _ _ oe
  have KJ:q1<4294967296:=by rw[kV];exact lr _ _ kF
  have KL:q2<4294967296:=by rw[gv];exact lr _ _ kF
  have UM:q3<4294967296:=by rw[D6];exact lr _ _ kF
  obtain⟨p4,D4⟩:=aa (p1^^^p2)
  have UL:p4<4294967296:=by rw[D4];exact lx _ _ KH KI
  obtain⟨s1,jg⟩:=aa (p4^^^p3)
  obtain⟨q4,wV⟩:=aa (q1^^^q2)
  have UN:q4<4294967296:=by rw[wV];exact lx _ _ KJ KL
  obtain⟨s0,iK⟩:=aa (q4^^^q3)
  obtain⟨a1,nZ⟩:=aa (x 4&&&x 5)
  obtain⟨ne,ek⟩:=aa (4294967296-1-x 4)
  have UH:ne<4294967296:=by omega
  obtain⟨a2,jc⟩:=aa (ne&&&x 6)
  have Uz:a1<4294967296:=by rw[nZ];exact la _ _ JL
  have UA:a2<4294967296:=by rw[jc];exact la _ _ JM
  obtain⟨ch,BH⟩:=aa (a1^^^a2)
  obtain⟨b1,cS⟩:=aa (x 0&&&x 1)
  obtain⟨b2,cW⟩:=aa (x 0&&&x 2)
  obtain⟨b3,yq⟩:=aa (x 1&&&x 2)
  have KE:b1<4294967296:=by rw[cS];exact la _ _ cQ
  have KF:b2<4294967296:=by rw[cW];exact la _ _ eO
  have UC:b3<4294967296:=by rw[yq];exact la _ _ eO
  obtain⟨b4,yr⟩:=aa (b1^^^b2)
  have UD:b4<4294967296:=by rw[yr];exact lx _ _ KE KF
  obtain⟨mj,JO⟩:=aa (b4^^^b3)
  obtain⟨m1,b_⟩:=aa ((x 7+s1)%4294967296)
  obtain⟨m2,cU⟩:=aa ((m1+ch)%4294967296)
  obtain⟨m3,ri⟩:=aa ((m2+kf i)%4294967296)
  obtain⟨t1,mJ⟩:=aa ((m3+W i)%4294967296)
  obtain⟨m4,Am⟩:=aa ((t1+s0)%4294967296)
  obtain⟨u,hu⟩:=aa ((m4+mj)%4294967296)
  obtain⟨v,hv⟩:=aa ((x 3+t1)%4294967296)
  have TP:=adq (aQ x) (kf i) (W i) (s1:=s1) (ch:=ch) (m1:=m1) (m2:=m2) (m3:=m3) (m4:=m4) (t1:=t1) (s0:=s0) (maj:=mj) (u:=u) (v:=v) (by rw[jg,D4,tn,jF,yL];rfl) (by rw[BH,nZ,jc,ek];rfl) b_ cU ri mJ (by rw[iK,wV,kV,gv,D6];rfl) (by rw[JO,yr,cS,cW,yq];rfl) Am hu hv
  obtain⟨ki,pz⟩:=aa (kf i)
  obtain⟨wi,Uf⟩:=aa (W i)
  have g8:=f8 hf i ab
  have g7:=f7 W i ab
  rw[<-pz]at g8 ri
  rw[<-Uf]at g7 mJ
  have r1:bin .xor .u32 (.ofNat p1) (.ofNat p2)=Int.ofNat p4:=(fx _ _ KH KI).trans (by rw[D4])
  have r2:bin .xor .u32 (.ofNat p4) (.ofNat p3)=Int.ofNat s1:=(fx _ _ UL UK).trans (by rw[jg])
  have r3:bin .and .u32 (.ofNat (x 4)) (.ofNat (x 5))=Int.ofNat a1:=(fa _ _ oe JL).trans (by rw[nZ])
  have r4:mS .xor .u32 (Int.ofNat (x 4))=Int.ofNat ne:=(fn _ oe).trans (by rw[ek])
  have r5:bin .and .u32 (.ofNat ne) (.ofNat (x 6))=Int.ofNat a2:=(fa _ _ UH JM).trans (by rw[jc])
  have r6:bin .xor .u32 (.ofNat a1) (.ofNat a2)=Int.ofNat ch:=(fx _ _ Uz UA).trans (by rw[BH])
  have r7:bin .add .u32 (.ofNat (x 7)) (.ofNat s1)=Int.ofNat m1:=(fp _ _).trans (by rw[b_])
  have r8:bin .add .u32 (.ofNat m1) (.ofNat ch)=Int.ofNat m2:=(fp _ _).trans (by rw[cU])
  have r9:bin .add .u32 (.ofNat m2) (.ofNat ki)=Int.ofNat m3:=(fp _ _).trans (by rw[ri])
  have uQ:bin .add .u32 (.ofNat m3) (.ofNat wi)=Int.ofNat t1:=(fp _ _).trans (by rw[mJ])
  have uR:bin .xor .u32 (.ofNat q1) (.ofNat q2)=Int.ofNat q4:=(fx _ _ KJ KL).trans (by rw[wV])
  have uS:bin .xor .u32 (.ofNat q4) (.ofNat q3)=Int.ofNat s0:=(fx _ _ UN UM).trans (by rw[iK])
  have qA:bin .and .u32 (.ofNat (x 0)) (.ofNat (x 1))=Int.ofNat b1:=(fa _ _ kF cQ).trans (by rw[cS])
  have uT:bin .and .u32 (.ofNat (x 0)) (.ofNat (x 2))=Int.ofNat b2:=(fa _ _ kF eO).trans (by rw[cW])
  have uU:bin .and .u32 (.ofNat (x 1)) (.ofNat (x 2))=Int.ofNat b3:=(fa _ _ cQ eO).trans (by rw[yq])
  have uV:bin .xor .u32 (.ofNat b1) (.ofNat b2)=Int.ofNat b4:=(fx _ _ KE KF).trans (by rw[yr])
  have uW:bin .xor .u32 (.ofNat b4) (.ofNat b3)=Int.ofNat mj:=(fx _ _ UD UC).trans (by rw[JO])
  have qB:bin .add .u32 (.ofNat t1) (.ofNat s0)=Int.ofNat m4:=(fp _ _).trans (by rw[Am])
  have uX:bin .add .u32 (.ofNat m4) (.ofNat mj)=Int.ofNat u:=(fp _ _).trans (by rw[hu])
  have uY:bin .add .u32 (.ofNat (x 3)) (.ofNat t1)=Int.ofNat v:=(fp _ _).trans (by rw[hv])
  cbv
  rw[f1 i ab]
  cbv
  refine cf hP hA hg fun mk _=> ?_
  cbv
  refine bN hg So ?_
  cbv
  refine bN hg FZ ?_
  cbv
  rw[r1]
  cbv
  refine bN hg Sp ?_
  cbv
  rw[r2]
  cbv
  rw[r3,r4]
  cbv
  rw[r5]
  cbv
  rw[r6]
  cbv
  refine cf hP hA hg fun mk _=> ?_
  cbv
  rw[r7]
  cbv
  rw[r8]
  cbv
  rw[f4 i ab]
  cbv
  rw[f6 9 i,g8]
  cbv
  rw[r9]
  cbv
  rw[f4 i ab]
  cbv
  rw[f6 0 i,dB,g7]
  cbv
  rw[uQ]
  cbv
  refine cf hP hA hg fun mk _=> ?_
  cbv
  refine bN hg sN ?_
  cbv
  refine bN hg Dy ?_
  cbv
  rw[uR]
  cbv
  refine bN hg Ss ?_
  cbv
  rw[uS]
  cbv
  rw[qA,uT]
  cbv
  rw[uU,uV]
  cbv
  rw[uW]
  cbv
  rw[qB]
  cbv
  rw[uX,uY]
  cbv
  rw[f3 i (by omega)]
  refine⟨(i+1,fun j=>match j with|0=>u|1=>x 0|2=>x 1|3=>x 2|4=>v|5=>x 4|6=>x 5|_=>x 6),id,⟨ab,?_⟩,(by show 64-(i+1)<64-i;omega),?_⟩
  ·show _=Sh.tH Sh.aB b (aQ hf) (i+1)
   rw[Sh.VO (K:=Sh.aB) b _ (by decide) (show i<Sh.aB.ks.length from ab),<-hx,show Sh.aB.ks.getD i 0=kf i by rw[iU],show Sh.wd Sh.aB b i=W i by rw[hW],TP]
   rfl
  ·exact aS (by repeat' (first|exact trivial|refine⟨rfl,rfl,rfl,?_⟩|refine⟨rfl,rfl,bC 5,?_⟩|refine⟨rfl,rfl,hH hf 5 (by decide),?_⟩))
 ·obtain rfl:i=64:=by omega
  have lA:Sh.u4 Sh.aB (aQ hf) b=Sh.HQ 32 (aQ hf) (aQ x):=by
   rw[Sh.Wa (K:=Sh.aB) b _ (by decide),hx];rfl
  obtain⟨hc,rh⟩:=aa (fun i j=>if j<i then(hf j+x j)%4294967296 else hf j:Nat->Nat->Nat)
  have wH:hc 0=hf:=by rw[rh];rfl
  have S4:∀i v,v=(hf i+x i)%4294967296->hc (i+1)=fun j=>if j=i then v else hc i j:=fun i v hv=>by
   rw[rh];funext j
   show(if j<i+1 then _ else _)=if j=i then v else if j<i then _ else _
   by_cases h:j=i
   ·rw[aj h,aj (by omega),hv,h]
   ·rw[af h]
    by_cases h2:j<i
    ·rw[aj h2,aj (by omega)]
    ·rw[af h2,af (by omega)]
  have yC:∀i,hc i i=hf i:=fun i=>by rw[rh];exact af (iO i)
  have lV:aV size n (hc 8) kf rest=aV size n aT kf rest:=by
   unfold aV
   rw[rK (f:=fun j=>Int.ofNat (hc 8 j)) (g:=fun j=>Int.ofNat (aT j)) fun j _ hj=> ?_]
   have e:aQ (hc 8)=aQ aT:=by
    rw[hS,lA,rh];rfl
   rw[Pb e j (by omega)]
  clear rh
  simp only[aV,aw,Nat.reduceAdd,du,cM]at lV
  cbv
  rw[iD]
  cbv
  refine bH (Nat×(Nat->Nat)) (fun s=>s.1<=8/\s.2=hc s.1) (fun s=>8-s.1) (fun s=> [(113,.int .i64 (.ofNat s.1))]) [0,5] (fun s=> [(0,aV size n s.2 kf rest)]) (0,hf) ⟨bf _,wH.symm⟩ ?_ ?_
  ·exact aS (by repeat' (first|exact trivial|refine⟨rfl,rfl,rfl,?_⟩|refine⟨rfl,rfl,bC 5,?_⟩|refine⟨rfl,rfl,hH hf 5 (by decide),?_⟩))
  rintro⟨i,h⟩ ⟨hi,hh⟩
  change i<=8 at hi
  change h=hc i at hh
  subst hh
  by_cases h8:i<8
  ·obtain⟨DQ,JD⟩:=aa (hf i)
   obtain⟨xi,xg⟩:=aa (x i)
   obtain⟨v,hv⟩:=aa ((DQ+xi)%4294967296)
   have hn:=S4 i v (by rw[hv,JD,xg])
   obtain⟨kG,JU⟩:=aa (hc (i+1))
   rw[<-JU]at hn
   have g9:=f9 (hc i) i h8
   rw[yC i,<-JD]at g9
   have g7:=f7x x i h8
   rw[<-xg]at g7
   have r1:bin .add .u32 (.ofNat DQ) (.ofNat xi)=Int.ofNat v:=(fp _ _).trans (by rw[hv])
   cbv
   rw[f2 i h8]
   cbv
   refine cf hP hA hg fun mk _=> ?_
   cbv
   rw[f5 i h8]
   cbv
   rw[f6 1 i,g9]
   cbv
   rw[f5 i h8]
   cbv
   rw[f6 0 i,dB,g7]
   cbv
   rw[r1]
   cbv
   rw[f5 i h8]
   cbv
   rw[f6 1 i,f10 (hc i) kG i v h8 hn]
   cbv
   rw[f3 i (by omega)]
   refine⟨(i+1,kG),id,⟨h8,JU⟩,(by show 8-(i+1)<8-i;omega),?_⟩
   exact aS (by repeat' (first|exact trivial|refine⟨rfl,rfl,rfl,?_⟩|refine⟨rfl,rfl,bC 5,?_⟩|refine⟨rfl,rfl,hH kG 5 (by decide),?_⟩))
  ·obtain rfl:i=8:=by omega
   obtain⟨h9,Tj⟩:=aa (hc 8)
   rw[<-Tj]at lV⊢
   cbv
   rw[It]
   cbv
   rw[lV]
   exact hK _ _ _ ⟨rfl,rfl⟩
theorem qe(size n:Nat)(f kf:Nat->Nat){rest:SV}{m:Nat}(h:gh m rest=true):an m (aV size n f kf rest)=true:=by
 simp only[aV,aw,du,cM,an,h];rfl
theorem afK{P:Program}(hP:P=Tryz.prog){t:TypeId}(size n:Nat)(hf aT kf:Nat->Nat)(iU:kf=fun j=>Sh.aB.ks.getD j 0)(rest:SV)(w7:gh 3 rest=true)(o c:Nat)(C:List SV)(b:List Nat)(hb:∀x∈b,x<256)(hl:b.length=64)(hC:(C.drop o).take 64=dk b)(bC:∀m,an m C=true)(h8:Sh.jI 32 (aQ hf))(hS:aQ aT=Sh.u4 Sh.aB (aQ hf) b):
 ah P 201 [.ptr 0 0,.slice 1 o 64 c] [⟨0,aV size n hf kf rest,297⟩,⟨1,C,t⟩] 3 [0] (fun v L q=>v= .aR []/\L=[⟨0,aV size n aT kf rest,297⟩]/\q=3):=
 (afL hP size n hf aT kf iU rest w7 o c C b hb hl hC bC h8 hS).dj fun v L q ⟨h1,h2⟩=>⟨id,.aR [],_,3,by subst h1;exact fD ⟨rfl,rfl,trivial⟩ ⟨h2,rfl,qe _ _ _ _ w7,trivial⟩ rfl rfl,rfl,rfl,rfl⟩
def wj(s:Sh.S8)(j:Nat):Nat:=match j with|0=>s.a|1=>s.b|2=>s.c|3=>s.d|4=>s.e|5=>s.f|6=>s.g|_=>s.h
theorem G9(s:Sh.S8):aQ (wj s)=s:=rfl
theorem afC{P:Program}(hP:P=Tryz.prog):ah P 200 [.fn (.func 201) [.ptr 0 0] [],.au] [] 1 [] (fun v _ _=>v= .au):=by
 refine aq hP Tryz.func200 ⟨⟨⟨(by show 0<1;decide),trivial⟩,trivial⟩,trivial,trivial⟩ (aD rfl) ?_
 intro A g K hA hg hK
 obtain⟨_,_,cmp⟩:=A
 have f1:cmp .geq 0 64=false:=qW hA (a:=0) (b:=64) (by decide)
 cbv
 refine bH Unit (fun _=>True) (fun _=>0) (fun _=> []) [1,4] (fun _=> []) () trivial ?_ ?_
 ·exact a_
 intro _ _
 cbv
 rw[f1]
 cbv
 exact hK _ _ _ rfl
theorem Mr{P:Program}(hP:P=Tryz.prog){t:TypeId}(size n:Nat)(hf kf:Nat->Nat)(iU:kf=fun j=>Sh.aB.ks.getD j 0)(rest:SV)(w7:gh 3 rest=true)(o c:Nat)(C:List SV)(d:List Nat)(hd:∀x∈d,x<256)(m:Nat)(hm:m=d.length)(hC:(C.drop o).take d.length=dk d)(Ge:d.length<=c)(NC:d.length<2^60)(bC:∀m,an m C=true)(h8:Sh.jI 32 (aQ hf)):
 ah P 200 [.fn (.func 201) [.ptr 0 0] [],.slice 1 o m c] [⟨0,aV size n hf kf rest,297⟩,⟨1,C,t⟩] 3 [0]
  (fun v L q=>∃aT o' c' r rl,rl=r.length/\aQ aT=Sh.tq Sh.aB (aQ hf) d (d.length/64)/\r=d.drop (d.length/64*64)/\v= .slice 1 o' rl c'/\(C.drop o').take r.length=dk r/\L=[⟨0,aV size n aT kf rest,297⟩,⟨1,C,t⟩]/\q=3):=by
 rw[<-hm]at hC Ge NC⊢
 have rR:∀ρ:Nat->Nat,(∀l,l<3->ρ l=l)->cK ρ rest=rest:=fun ρ h=>adf h rest w7
 have rH:∀f,∀ρ:Nat->Nat,(∀l,l<3->ρ l=l)->bj ρ (aV size n f kf rest)=aV size n f kf rest:=fun f ρ h=>G3 h _ (qe _ _ _ _ w7)
 have rC:∀r,bj r C=C:=fun r=>ae C (bC 0)
 obtain⟨HC,yi⟩:=aa (fun f=>aV size n f kf rest:(Nat->Nat)->List SV)
 have zX:∀f,an 3 (HC f)=true:=fun f=>by rw[yi];exact qe _ _ _ _ w7
 refine aq hP Tryz.func200 ⟨⟨⟨(by show 0<3;decide),trivial⟩,trivial⟩,(by show 1<3;decide),trivial⟩ (aD (by simp only[kL,mf,bC 3,qe _ _ _ _ w7];rfl)) ?_
 intro A g K hA hg hK
 obtain⟨_,_,cmp,_,_,_,_,_,_,_,_,_,_,_,nat⟩:=A
 rw[show aV size n hf kf rest=HC hf by rw[yi]]
 have f1:∀x,64<=x->cmp .geq (.ofNat x) 64=true:=fun x h=>kC hA (b:=64) h
 have f2:∀x,¬64<=x->cmp .geq (.ofNat x) 64=false:=fun x h=>qW hA (b:=64) h
 have f3:∀x,nat x=Int.ofNat x:=fun x=>fZ hA x
 have O5:∀f k,bj (eD id 3 k) (HC f)=HC f:=fun f k=>by rw[yi];exact rH f _ fun l h=>y_ h
 cbv
 refine bH (Nat×(Nat->Nat)×Nat×Nat×Nat) (fun s=>s.2.2.1+s.1*64=m/\aQ s.2.1=Sh.tq Sh.aB (aQ hf) d s.1/\(0<s.2.2.1->s.2.2.2.1=o+s.1*64)/\s.2.2.1<=s.2.2.2.2) (fun s=>s.2.2.1) (fun s=> [(1,.slice 1 s.2.2.2.1 s.2.2.1 s.2.2.2.2)]) [0,4] (fun s=> [(0,HC s.2.1)]) (0,hf,m,o,c) ⟨by show m+0*64=m;omega,rfl,fun _=>by show o=o+0*64;omega,Ge⟩ ?_ ?_
 ·exact aS (by repeat' (first|exact trivial|refine⟨rfl,rfl,rfl,?_⟩|refine⟨rfl,rfl,bC 3,?_⟩|refine⟨rfl,rfl,zX hf,?_⟩))
 rintro⟨j,h,mm,o',c'⟩ ⟨h1,h2,h3,h4⟩
 change mm+j*64=m at h1
 change aQ h=Sh.tq Sh.aB (aQ hf) d j at h2
 change 0<mm->o'=o+j*64 at h3
 change mm<=c' at h4
 by_cases ab:64<=mm
 ·have ho:=h3 (by omega)
  obtain⟨h',JA⟩:=aa (wj (Sh.u4 Sh.aB (aQ h) ((d.drop (j*64)).take 64)))
  have ajc:ah P 201 [.ptr 0 0,.slice 1 o' 64 c'] [⟨0,HC h,297⟩,⟨1,C,t⟩] 3 [0] (fun v L q=>v= .aR []/\L=[⟨0,HC h',297⟩]/\q=3):=by
   rw[yi]
   refine afK hP (t:=t) size n h h' kf iU rest w7 o' c' C ((d.drop (j*64)).take 64) (fun x hx=>hd x (Fh (xO hx))) (by rw[eY,iY,<-hm];omega) ?_ bC (by rw[h2];exact Sh.KU (K:=Sh.aB) (by decide) h8 d j) (by rw[JA,G9])
   rw[H4,QF,<-hC,ho,PU,LP,Hz]
   congr 1
   omega
  obtain⟨m2,cU⟩:=aa (mm-64)
  obtain⟨c2,dP⟩:=aa (c'-64)
  obtain⟨o2,nj⟩:=aa (if c'=64 then o' else o'+64*1)
  have qY:oF P 89 (.slice 1 o' mm c') (some (.i64,64)) none (.slice 1 o2 m2 c2):=by
   rw[cU,dP,nj]
   exact ap_ (hP▸aI) (show av 89=some _ from rfl) rfl 1 o' mm c' (j:=64) ab h4
  cbv
  rw[f3 mm,f1 mm ab]
  cbv
  refine rS hg rfl rfl rfl rfl rfl (G8 (hP▸aI) (show av 89=some _ from rfl) rfl 1 o' mm c' (j:=64) (by omega)) ?_
  cbv
  refine bq hg ajc id ⟨by rw[Cq];rfl,by rw[Cq];rfl,trivial⟩ ?_
  simp only[aG,O5]
  cbv
  refine rS hg rfl rfl rfl rfl rfl qY ?_
  cbv
  refine⟨(j+1,h',m2,o2,c2),id,⟨by show m2+(j+1)*64=m;omega,?_,fun hp=> ?_,by show m2<=c2;omega⟩,(by show m2<mm;omega),?_⟩
  ·show aQ h'=Sh.tq Sh.aB (aQ hf) d (j+1)
   rw[JA,G9,Sh.tq,h2];rfl
  ·show o2=o+(j+1)*64
   have hp:0<m2:=hp
   rw[nj,af (by omega),ho];omega
  ·exact aS (by repeat' (first|exact trivial|refine⟨rfl,rfl,rfl,?_⟩|refine⟨rfl,rfl,bC 3,?_⟩|refine⟨rfl,rfl,zX h',?_⟩))
 ·have hj:j=m/64:=by omega
  cbv
  rw[f3 mm,f2 mm ab]
  cbv
  have hr:mm=(d.drop (d.length/64*64)).length:=by rw[iY,<-hm];omega
  refine hK _ _ _ ⟨h,o',c',_,mm,hr,by rw[h2,hj],by rw[hm],rfl,?_,?_,rfl⟩
  ·rcases Nat.eq_zero_or_pos mm with h0|h0
   ·rw[hr]at h0
    rw[h0,Yj h0];rfl
   ·rw[h3 h0,<-hm,<-hj,QF,<-hC,PU,LP]
    congr 1
    rw[iY,<-hm]
  ·rw[yi]
end Go.Proofs.YtfocopihipejfaaGreat
