/-
  This text proves what these texts prove: CuA, TrA, Gd, Ge, Gf. Conditions: those of each theorem.
-/
import Derived.Test.YtdhmihfefgcbeaaGreatY14
import Derived.Test.YtdhmihfefgcbeaaGreatY13
import Derived.Test.YtdhmihfefgcbeaaGreatY07
set_option maxHeartbeats 8000000
set_option linter.all false
section
/-! the curves' numbers;beyond 15 the last one's-/
namespace EC
open Pr
def lim:Nat:=2^521
def cp:Nat->Nat
 |1=>0xfffffffffffffffffffffffffffffffeffffffffffffffff
 |2=>0xffffffffffffffffffffffffffffffff000000000000000000000001
 |3=>0xffffffff00000001000000000000000000000000ffffffffffffffffffffffff
 |4=>0xfffffffffffffffffffffffffffffffffffffffffffffffffffffffffffffffeffffffff0000000000000000ffffffff
 |5=>0x1ffffffffffffffffffffffffffffffffffffffffffffffffffffffffffffffffffffffffffffffffffffffffffffffffffffffffffffffffffffffffffffffffff
 |6=>0xfffffffffffffffffffffffffffffffffffffffffffffffffffffffefffffc2f
 |7=>0xe95e4a5f737059dc60dfc7ad95b3d8139515620f
 |8=>0xd7c134aa264366862a18302575d1d787b09f075797da89f57ec8c0ff
 |9=>0xa9fb57dba1eea9bc3e660a909d838d726e3bf623d52620282013481d1f6e5377
 |10=>0xd35e472036bc4fb7e13c785ed201e065f98fcfa6f6f40def4f92b9ec7893ec28fcd412b1f1b32e27
 |11=>0x8cb91e82a3386d280f5d6f7e50e641df152f7109ed5456b412b1da197fb71123acd3a729901d1a71874700133107ec53
 |12=>0xaadd9db8dbe9c48b3fd4e6ae33c9fc07cb308db3b3c9d20ed6639cca703308717d4d9b009bc66842aecda12ae6a380e62881ff2f2d82c68528aa6056583a48f3
 |13=>251
 |14=>241
 |_=>239
def caN:Nat->Nat
 |1=>0xfffffffffffffffffffffffffffffffefffffffffffffffc
 |2=>0xfffffffffffffffffffffffffffffffefffffffffffffffffffffffe
 |3=>0xffffffff00000001000000000000000000000000fffffffffffffffffffffffc
 |4=>0xfffffffffffffffffffffffffffffffffffffffffffffffffffffffffffffffeffffffff0000000000000000fffffffc
 |5=>0x1fffffffffffffffffffffffffffffffffffffffffffffffffffffffffffffffffffffffffffffffffffffffffffffffffffffffffffffffffffffffffffffffffc
 |6=>0
 |7=>0x340e7be2a280eb74e2be61bada745d97e8f7c300
 |8=>0x68a5e62ca9ce6c1c299803a6c1530b514e182ad8b0042a59cad29f43
 |9=>0x7d5a0975fc2c3057eef67530417affe7fb8055c126dc5c6ce94a4b44f330b5d9
 |10=>0x3ee30b568fbab0f883ccebd46d3f3bb8a2a73513f5eb79da66190eb085ffa9f492f375a97d860eb4
 |11=>0x7bc382c63d8c150c3c72080ace05afa0c2bea28e4fb22787139165efba91f90f8aa5814a503ad4eb04a8c7dd22ce2826
 |12=>0x7830a3318b603b89e2327145ac234cc594cbdd8d3df91610a83441caea9863bc2ded5d5aa8253aa10a2ef1c98b9ac8b57f1117a72bf2c7b9e7c1ac4d77fc94ca
 |13=>248
 |14=>0
 |_=>117
def cbN:Nat->Nat
 |1=>0x64210519e59c80e70fa7e9ab72243049feb8deecc146b9b1
 |2=>0xb4050a850c04b3abf54132565044b0b7d7bfd8ba270b39432355ffb4
 |3=>0x5ac635d8aa3a93e7b3ebbd55769886bc651d06b0cc53b0f63bce3c3e27d2604b
 |4=>0xb3312fa7e23ee7e4988e056be3f82d19181d9c6efe8141120314088f5013875ac656398d8a2ed19d2a85c8edd3ec2aef
 |5=>0x51953eb9618e1c9a1f929a21a0b68540eea2da725b99b315f3b8b489918ef109e156193951ec7e937b1652c0bd3bb1bf073573df883d2c34f1ef451fd46b503f00
 |6=>7
 |7=>0x1e589a8595423412134faa2dbdec95c8d8675e58
 |8=>0x2580f63ccfe44138870713b1a92369e33e2135d266dbb372386c400b
 |9=>0x26dc5c6ce94a4b44f330b5d9bbd77cbf958416295cf7e1ce6bccdc18ff8c07b6
 |10=>0x520883949dfdbc42d3ad198640688a6fe13f41349554b49acc31dccd884539816f5eb4ac8fb1f1a6
 |11=>0x4a8c7dd22ce28268b39b55416f0447c2fb77de107dcd2a62e880ea53eeb62d57cb4390295dbc9943ab78696fa504c11
 |12=>0x3df91610a83441caea9863bc2ded5d5aa8253aa10a2ef1c98b9ac8b57f1117a72bf2c7b9e7c1ac4d77fc94cadc083e67984050b75ebae5dd2809bd638016f723
 |13=>26
 |14=>13
 |_=>8
def cn:Nat->Nat
 |1=>0xffffffffffffffffffffffff99def836146bc9b1b4d22831
 |2=>0xffffffffffffffffffffffffffff16a2e0b8f03e13dd29455c5c2a3d
 |3=>0xffffffff00000000ffffffffffffffffbce6faada7179e84f3b9cac2fc632551
 |4=>0xffffffffffffffffffffffffffffffffffffffffffffffffc7634d81f4372ddf581a0db248b0a77aecec196accc52973
 |5=>0x1fffffffffffffffffffffffffffffffffffffffffffffffffffffffffffffffffa51868783bf2f966b7fcc0148f709a5d03bb5c9b8899c47aebb6fb71e91386409
 |6=>0xfffffffffffffffffffffffffffffffebaaedce6af48a03bbfd25e8cd0364141
 |7=>0xe95e4a5f737059dc60df5991d45029409e60fc09
 |8=>0xd7c134aa264366862a18302575d0fb98d116bc4b6ddebca3a5a7939f
 |9=>0xa9fb57dba1eea9bc3e660a909d838d718c397aa3b561a6f7901e0e82974856a7
 |10=>0xd35e472036bc4fb7e13c785ed201e065f98fcfa5b68f12a32d482ec7ee8658e98691555b44c59311
 |11=>0x8cb91e82a3386d280f5d6f7e50e641df152f7109ed5456b31f166e6cac0425a7cf3ab6af6b7fc3103b883202e9046565
 |12=>0xaadd9db8dbe9c48b3fd4e6ae33c9fc07cb308db3b3c9d20ed6639cca70330870553e5c414ca92619418661197fac10471db1d381085ddaddb58796829ca90069
 |13=>223
 |14=>211
 |_=>229
def cxN:Nat->Nat
 |1=>0x188da80eb03090f67cbf20eb43a18800f4ff0afd82ff1012
 |2=>0xb70e0cbd6bb4bf7f321390b94a03c1d356c21122343280d6115c1d21
 |3=>0x6b17d1f2e12c4247f8bce6e563a440f277037d812deb33a0f4a13945d898c296
 |4=>0xaa87ca22be8b05378eb1c71ef320ad746e1d3b628ba79b9859f741e082542a385502f25dbf55296c3a545e3872760ab7
 |5=>0xc6858e06b70404e9cd9e3ecb662395b4429c648139053fb521f828af606b4d3dbaa14b5e77efe75928fe1dc127a2ffa8de3348b3c1856a429bf97e7e31c2e5bd66
 |6=>0x79be667ef9dcbbac55a06295ce870b07029bfcdb2dce28d959f2815b16f81798
 |7=>0xbed5af16ea3f6a4f62938c4631eb5af7bdbcdbc3
 |8=>0xd9029ad2c7e5cf4340823b2a87dc68c9e4ce3174c1e6efdee12c07d
 |9=>0x8bd2aeb9cb7e57cb2c4b482ffc81b7afb9de27e1e3bd23c23a4453bd9ace3262
 |10=>0x43bd7e9afb53d8b85289bcc48ee5bfe6f20137d10a087eb6e7871e2a10a599c710af8d0d39e20611
 |11=>0x1d1c64f068cf45ffa2a63a81b7c13f6b8847a3e77ef14fe3db7fcafe0cbd10e8e826e03436d646aaef87b2e247d4af1e
 |12=>0x81aee4bdd82ed9645a21322e9c4c6a9385ed9f70b5d916c1b43b62eef4d0098eff3b1f78e2d0d48d50d1687b93b97d5f7c6d5047406a5e688b352209bcb9f822
 |13=>2
 |14=>3
 |_=>0
def cyN:Nat->Nat
 |1=>0x7192b95ffc8da78631011ed6b24cdd573f977a11e794811
 |2=>0xbd376388b5f723fb4c22dfe6cd4375a05a07476444d5819985007e34
 |3=>0x4fe342e2fe1a7f9b8ee7eb4a7c0f9e162bce33576b315ececbb6406837bf51f5
 |4=>0x3617de4a96262c6f5d9e98bf9292dc29f8f41dbd289a147ce9da3113b5f0b8c00a60b1ce1d7e819d7a431d7c90ea0e5f
 |5=>0x11839296a789a3bc0045c8a5fb42c7d1bd998f54449579b446817afbd17273e662c97ee72995ef42640c550b9013fad0761353c7086a272c24088be94769fd16650
 |6=>0x483ada7726a3c4655da4fbfc0e1108a8fd17b448a68554199c47d08ffb10d4b8
 |7=>0x1667cb477a1a8ec338f94741669c976316da6321
 |8=>0x58aa56f772c0726f24c6b89e4ecdac24354b9e99caa3f6d3761402cd
 |9=>0x547ef835c3dac4fd97f8461a14611dc9c27745132ded8e545c1d54c72f046997
 |10=>0x14fdd05545ec1cc8ab4093247f77275e0743ffed117182eaa9c77877aaac6ac7d35245d1692e8ee1
 |11=>0x8abe1d7520f9c2a45cb1eb8e95cfd55262b70b29feec5864e19c054ff99129280e4646217791811142820341263c5315
 |12=>0x7dde385d566332ecc0eabfa9cf7822fdf209f70024a57b1aa000c55b881f8111b2dcde494a5f485e5bca4bd88a2763aed1ca2b2fa8f0540678cd1e0f3ad80892
 |13=>84
 |14=>47
 |_=>41
theorem cases(id:Nat){M:Nat->Prop}(h1:M 1)(h2:M 2)(h3:M 3)(h4:M 4)(h5:M 5)(h6:M 6)(h7:M 7)(h8:M 8)(h9:M 9)(h10:M 10)(h11:M 11)(h12:M 12)(h13:M 13)(h14:M 14)(h:∀id,(∀j,j<15->j≠0->id≠j)->M id):M id:=by
 by_cases e1:id=1
 ·exact e1▸h1
 by_cases e2:id=2
 ·exact e2▸h2
 by_cases e3:id=3
 ·exact e3▸h3
 by_cases e4:id=4
 ·exact e4▸h4
 by_cases e5:id=5
 ·exact e5▸h5
 by_cases e6:id=6
 ·exact e6▸h6
 by_cases e7:id=7
 ·exact e7▸h7
 by_cases e8:id=8
 ·exact e8▸h8
 by_cases e9:id=9
 ·exact e9▸h9
 by_cases e10:id=10
 ·exact e10▸h10
 by_cases e11:id=11
 ·exact e11▸h11
 by_cases e12:id=12
 ·exact e12▸h12
 by_cases e13:id=13
 ·exact e13▸h13
 by_cases e14:id=14
 ·exact e14▸h14
 refine h id fun j h1 h2 e=> ?_
 subst e
 omega
theorem cp_last(id:Nat)(h:∀j,j<15->j≠0->id≠j):cp id=cp 15:=by
 unfold cp
 split<;>first|rfl|(exfalso;exact h _ (by decide) (by decide) rfl)
theorem caN_last(id:Nat)(h:∀j,j<15->j≠0->id≠j):caN id=caN 15:=by
 unfold caN
 split<;>first|rfl|(exfalso;exact h _ (by decide) (by decide) rfl)
theorem cbN_last(id:Nat)(h:∀j,j<15->j≠0->id≠j):cbN id=cbN 15:=by
 unfold cbN
 split<;>first|rfl|(exfalso;exact h _ (by decide) (by decide) rfl)
theorem cn_last(id:Nat)(h:∀j,j<15->j≠0->id≠j):cn id=cn 15:=by
 unfold cn
 split<;>first|rfl|(exfalso;exact h _ (by decide) (by decide) rfl)
theorem cxN_last(id:Nat)(h:∀j,j<15->j≠0->id≠j):cxN id=cxN 15:=by
 unfold cxN
 split<;>first|rfl|(exfalso;exact h _ (by decide) (by decide) rfl)
theorem cyN_last(id:Nat)(h:∀j,j<15->j≠0->id≠j):cyN id=cyN 15:=by
 unfold cyN
 split<;>first|rfl|(exfalso;exact h _ (by decide) (by decide) rfl)
theorem prime_cp(id:Nat):Prime (cp id):=by
 refine cases id (M:=fun id=>Prime (cp id)) primeP1 primeP2 primeP3 primeP4 primeP5 primeP6 primeP7 primeP8 primeP9 primeP10 primeP11 primeP12 primeP13 primeP14 fun id h=> ?_
 simp only[cp_last id h]
 exact primeP15
theorem prime_cn(id:Nat):Prime (cn id):=by
 refine cases id (M:=fun id=>Prime (cn id)) primeN1 primeN2 primeN3 primeN4 primeN5 primeN6 primeN7 primeN8 primeN9 primeN10 primeN11 primeN12 primeN13 primeN14 fun id h=> ?_
 simp only[cn_last id h]
 exact primeN15
theorem chk_1:chk2 (cp 1) (caN 1) (cbN 1) ⟨0x7d7d3677298d126e9c139a383a39b775c25f4554658d2119,0xc6aabb3906c7bad6e1a2f11f58cc6d1f359d787aef929d0f,0x44e7df8ddd6646fc8c51e95334aff5eae0cb98a960c2fa6⟩=true:=by decide +kernel
theorem small_1:(decide (caN 1<cp 1)&&decide (cbN 1<cp 1)&&decide (cxN 1<cp 1)&&decide (cyN 1<cp 1)&&decide (cn 1<lim)&&decide (cp 1<lim)&&(cyN 1*cyN 1%cp 1==(cxN 1*cxN 1*cxN 1+caN 1*cxN 1+cbN 1)%cp 1))=true:=by decide +kernel
theorem chk_2:chk2 (cp 2) (caN 2) (cbN 2) ⟨0xbfb0c7416cef2338924950ea297baba9a45a8c19e56d07522bd2dc8,0x2a3b0fc55481fe7547493ed752409b4196872e39038f751a4bfd5d05,0x59a2db6eb892f815d2e402eca1ce1637ec1ed57ee546b67e75d09dcc⟩=true:=by decide +kernel
theorem small_2:(decide (caN 2<cp 2)&&decide (cbN 2<cp 2)&&decide (cxN 2<cp 2)&&decide (cyN 2<cp 2)&&decide (cn 2<lim)&&decide (cp 2<lim)&&(cyN 2*cyN 2%cp 2==(cxN 2*cxN 2*cxN 2+caN 2*cxN 2+cbN 2)%cp 2))=true:=by decide +kernel
theorem chk_3:chk2 (cp 3) (caN 3) (cbN 3) ⟨0xa969487079f1744798bf0de6fded091b66e9d328eb0645fe5d979d1339b7f47f,0xa4a08891884100c13323460107a8d28eede4387fa3e6e9bfebec9f6d72d0b5cc,0x4cde11cf86cb876cd59cf0115813c55af0ecd3cda667d98bb9a347a56aa74a6d⟩=true:=by decide +kernel
theorem small_3:(decide (caN 3<cp 3)&&decide (cbN 3<cp 3)&&decide (cxN 3<cp 3)&&decide (cyN 3<cp 3)&&decide (cn 3<lim)&&decide (cp 3<lim)&&(cyN 3*cyN 3%cp 3==(cxN 3*cxN 3*cxN 3+caN 3*cxN 3+cbN 3)%cp 3))=true:=by decide +kernel
theorem chk_4:chk2 (cp 4) (caN 4) (cbN 4) ⟨0x95adec811ebe8d4b9e2b41150d78f91a619189a415583b8f5e01888da3353b61765cde8cd6c12846310c3f0c10aae682,0x3581b884702fb0931c541a5cacefbe3bea864db86e01e048170560418dca3aa8689f246d9d11ccd2e145532dd48491af,0x4efcebfdccd7cb25d1b864228f0c32d3a83ec026134ae4753bdff5d3f1fa20b278b31dc3487beb792024fe436f36b43a⟩=true:=by decide +kernel
theorem small_4:(decide (caN 4<cp 4)&&decide (cbN 4<cp 4)&&decide (cxN 4<cp 4)&&decide (cyN 4<cp 4)&&decide (cn 4<lim)&&decide (cp 4<lim)&&(cyN 4*cyN 4%cp 4==(cxN 4*cxN 4*cxN 4+caN 4*cxN 4+cbN 4)%cp 4))=true:=by decide +kernel
theorem chk_5:chk2 (cp 5) (caN 5) (cbN 5) ⟨0x19e72e5691af1c1f1d3f2591c5ad09ec28f1c524714ca75db089cdb9151ca2289840d94ce56793c78b66ef3540572cc405cdc465d82e1a6f69d82c27053ff163aa6,0xc15e4c9246ef30c73585fc1a490df170ef8e757f1f37e7a6cde9349746d8493ebb31a91aea6f35b910d943c96ba37d442ea7bb6d45c60ec76150edba53d1fc8264,0x124521c5a63d25338751ea837916053183423f151d92bf4710ef90df9f8ccdf063f99af3ab0f0bd1843a16afc69f16b49b9890c324999f97e8e4650532aea382f92⟩=true:=by decide +kernel
theorem small_5:(decide (caN 5<cp 5)&&decide (cbN 5<cp 5)&&decide (cxN 5<cp 5)&&decide (cyN 5<cp 5)&&decide (cn 5<lim)&&decide (cp 5<lim)&&(cyN 5*cyN 5%cp 5==(cxN 5*cxN 5*cxN 5+caN 5*cxN 5+cbN 5)%cp 5))=true:=by decide +kernel
theorem chk_6:chk2 (cp 6) (caN 6) (cbN 6) ⟨0,0,0x676072c51d36ab00c84deb078e4ba0feef17a1f9626d375046274e4ab01347c8⟩=true:=by decide +kernel
theorem small_6:(decide (caN 6<cp 6)&&decide (cbN 6<cp 6)&&decide (cxN 6<cp 6)&&decide (cyN 6<cp 6)&&decide (cn 6<lim)&&decide (cp 6<lim)&&(cyN 6*cyN 6%cp 6==(cxN 6*cxN 6*cxN 6+caN 6*cxN 6+cbN 6)%cp 6))=true:=by decide +kernel
theorem chk_7:chk2 (cp 7) (caN 7) (cbN 7) ⟨0x3d9d08576f55c42dfa9477e8ee15f396b6e2acb2,0x4f4e933f714eb8565631b7c17b4cc14bc5e8a08b,0x97bd29178b6ebd95a1fe2cec75e85e9d17838ff9⟩=true:=by decide +kernel
theorem small_7:(decide (caN 7<cp 7)&&decide (cbN 7<cp 7)&&decide (cxN 7<cp 7)&&decide (cyN 7<cp 7)&&decide (cn 7<lim)&&decide (cp 7<lim)&&(cyN 7*cyN 7%cp 7==(cxN 7*cxN 7*cxN 7+caN 7*cxN 7+cbN 7)%cp 7))=true:=by decide +kernel
theorem chk_8:chk2 (cp 8) (caN 8) (cbN 8) ⟨0xc9701dfc517c793cf6187fa3efe7f445f24231a370dfa96c07e851c6,0x162be229f812c8a29387f82011697e601bf7f224b107fdf79d58db42,0x421604fece9a50e6887d36097c0aeb74c3dd108ffdd09985cbe0fc9f⟩=true:=by decide +kernel
theorem small_8:(decide (caN 8<cp 8)&&decide (cbN 8<cp 8)&&decide (cxN 8<cp 8)&&decide (cyN 8<cp 8)&&decide (cn 8<lim)&&decide (cp 8<lim)&&(cyN 8*cyN 8%cp 8==(cxN 8*cxN 8*cxN 8+caN 8*cxN 8+cbN 8)%cp 8))=true:=by decide +kernel
theorem chk_9:chk2 (cp 9) (caN 9) (cbN 9) ⟨0xbd2b7536d35a263f586e97f7b66e78444e69e617ed01536e0e87bd07853b82d,0x50d896a99b7d30af798989c75e0120eda56c0b7b8e3a43ee036dbb7c8a5aee5c,0x7eaeb74aa0bbf986c92d07761337edfe6c056bfa2312ede766b220ccc85014bc⟩=true:=by decide +kernel
theorem small_9:(decide (caN 9<cp 9)&&decide (cbN 9<cp 9)&&decide (cxN 9<cp 9)&&decide (cyN 9<cp 9)&&decide (cn 9<lim)&&decide (cp 9<lim)&&(cyN 9*cyN 9%cp 9==(cxN 9*cxN 9*cxN 9+caN 9*cxN 9+cbN 9)%cp 9))=true:=by decide +kernel
theorem chk_10:chk2 (cp 10) (caN 10) (cbN 10) ⟨0xeb9e72d9adda48b26b949645619ff57fee208df6025fda19e856a4c0d350f99a893b544b348ec41,0x56a750c115cc5fa9dfc455646166aed6457a75ae544fe442ed9869f0e0b4d20e4cf64d45ee4d8d65,0x46e12f368d3f0bd35515200fd83bf6393d3c69bc46c5b7221e18cc3b0ba265213f010bfa187fc1e7⟩=true:=by decide +kernel
theorem small_10:(decide (caN 10<cp 10)&&decide (cbN 10<cp 10)&&decide (cxN 10<cp 10)&&decide (cyN 10<cp 10)&&decide (cn 10<lim)&&decide (cp 10<lim)&&(cyN 10*cyN 10%cp 10==(cxN 10*cxN 10*cxN 10+caN 10*cxN 10+cbN 10)%cp 10))=true:=by decide +kernel
theorem chk_11:chk2 (cp 11) (caN 11) (cbN 11) ⟨0x753e33ecc186afbeefa64e59f179e8a6dbeac3e8a3bc7739c702a93df2c693439f71c84aa569a770e29889c299fc2d7e,0xcd6cd056a09b7673b3952780919d4f92bb7fd75dc4895a74e284f599e026176223ca54f43482f8b537975fed02e5c5e,0x1e2af8294a97582ca47d1c32f928505de4219e1598cee725cef4e033f408e3e3665558c35012ae6225505a39b16771ef⟩=true:=by decide +kernel
theorem small_11:(decide (caN 11<cp 11)&&decide (cbN 11<cp 11)&&decide (cxN 11<cp 11)&&decide (cyN 11<cp 11)&&decide (cn 11<lim)&&decide (cp 11<lim)&&(cyN 11*cyN 11%cp 11==(cxN 11*cxN 11*cxN 11+caN 11*cxN 11+cbN 11)%cp 11))=true:=by decide +kernel
theorem chk_12:chk2 (cp 12) (caN 12) (cbN 12) ⟨0x226e6a9d72b9d0c81333be32c3e14d3926125dc9b29be01b074450a080a4e3d96158da1e206aef67570ae3a478c44cf4a500324933ca252d4421f98f03ddcf6c,0x678d9172242aec8173fc7b4319a383fd37022aa166a12d1f4f8a188aea35415fdc0b9b5471256e05a4b9dfe861dd519aaddc97d7eabbc4e5eb997a5a459ed81d,0x25d12b049dd7ae9d437ea6e586d49f99aa7d1485916380d99019f452890eaf4e8ef92645516e0ba5b48562aaec5f90a1f2af3521b3691f32ed74e7897aaf9c72⟩=true:=by decide +kernel
theorem small_12:(decide (caN 12<cp 12)&&decide (cbN 12<cp 12)&&decide (cxN 12<cp 12)&&decide (cyN 12<cp 12)&&decide (cn 12<lim)&&decide (cp 12<lim)&&(cyN 12*cyN 12%cp 12==(cxN 12*cxN 12*cxN 12+caN 12*cxN 12+cbN 12)%cp 12))=true:=by decide +kernel
theorem chk_13:chk2 (cp 13) (caN 13) (cbN 13) ⟨224,220,119⟩=true:=by decide +kernel
theorem small_13:(decide (caN 13<cp 13)&&decide (cbN 13<cp 13)&&decide (cxN 13<cp 13)&&decide (cyN 13<cp 13)&&decide (cn 13<lim)&&decide (cp 13<lim)&&(cyN 13*cyN 13%cp 13==(cxN 13*cxN 13*cxN 13+caN 13*cxN 13+cbN 13)%cp 13))=true:=by decide +kernel
theorem chk_14:chk2 (cp 14) (caN 14) (cbN 14) ⟨0,0,12⟩=true:=by decide +kernel
theorem small_14:(decide (caN 14<cp 14)&&decide (cbN 14<cp 14)&&decide (cxN 14<cp 14)&&decide (cyN 14<cp 14)&&decide (cn 14<lim)&&decide (cp 14<lim)&&(cyN 14*cyN 14%cp 14==(cxN 14*cxN 14*cxN 14+caN 14*cxN 14+cbN 14)%cp 14))=true:=by decide +kernel
theorem chk_15:chk2 (cp 15) (caN 15) (cbN 15) ⟨195,117,6⟩=true:=by decide +kernel
theorem small_15:(decide (caN 15<cp 15)&&decide (cbN 15<cp 15)&&decide (cxN 15<cp 15)&&decide (cyN 15<cp 15)&&decide (cn 15<lim)&&decide (cp 15<lim)&&(cyN 15*cyN 15%cp 15==(cxN 15*cxN 15*cxN 15+caN 15*cxN 15+cbN 15)%cp 15))=true:=by decide +kernel
theorem small(id:Nat):(decide (caN id<cp id)&&decide (cbN id<cp id)&&decide (cxN id<cp id)&&decide (cyN id<cp id)&&decide (cn id<lim)&&decide (cp id<lim)&&(cyN id*cyN id%cp id==(cxN id*cxN id*cxN id+caN id*cxN id+cbN id)%cp id))=true:=by
 refine cases id (M:=fun id=>(decide (caN id<cp id)&&decide (cbN id<cp id)&&decide (cxN id<cp id)&&decide (cyN id<cp id)&&decide (cn id<lim)&&decide (cp id<lim)&&(cyN id*cyN id%cp id==(cxN id*cxN id*cxN id+caN id*cxN id+cbN id)%cp id))=true) small_1 small_2 small_3 small_4 small_5 small_6 small_7 small_8 small_9 small_10 small_11 small_12 small_13 small_14 fun id h=> ?_
 simp only[cp_last id h,caN_last id h,cbN_last id h,cn_last id h,cxN_last id h,cyN_last id h]
 exact small_15
theorem chkU(id:Nat):∃u,chk2 (cp id) (caN id) (cbN id) u=true:=by
 refine cases id (M:=fun id=>∃u,chk2 (cp id) (caN id) (cbN id) u=true) ⟨_,chk_1⟩ ⟨_,chk_2⟩ ⟨_,chk_3⟩ ⟨_,chk_4⟩ ⟨_,chk_5⟩ ⟨_,chk_6⟩ ⟨_,chk_7⟩ ⟨_,chk_8⟩ ⟨_,chk_9⟩ ⟨_,chk_10⟩ ⟨_,chk_11⟩ ⟨_,chk_12⟩ ⟨_,chk_13⟩ ⟨_,chk_14⟩ fun id h=> ?_
 simp only[cp_last id h,caN_last id h,cbN_last id h]
 exact⟨_,chk_15⟩
instance (id:Nat):NeZero (cp id):=⟨by have:=(prime_cp id).1;omega⟩
def ca(id:Nat):Fin (cp id):=nf (caN id)
def cb(id:Nat):Fin (cp id):=nf (cbN id)
def G(id:Nat):Pt (cp id):= .A (nf (cxN id)) (nf (cyN id))
theorem cp_odd(id:Nat):cp id≠2:=by
 refine cases id (M:=fun id=>cp id≠2) (by decide) (by decide) (by decide) (by decide) (by decide) (by decide) (by decide) (by decide) (by decide) (by decide) (by decide) (by decide) (by decide) (by decide) fun id h=> ?_
 rw[cp_last id h];decide
theorem okc(id:Nat):Ok (p:=cp id) finv (ca id) (cb id):=by
 have h:=small id
 simp only[Bool.and_eq_true,decide_eq_true_eq,beq_iff_eq]at h
 obtain⟨u,hu⟩:=chkU id
 exact ok_of (prime_cp id) (cp_odd id) (no2_of (prime_cp id) h.1.1.1.1.1.1 h.1.1.1.1.1.2 hu)
theorem G_on(id:Nat):OnC (ca id) (cb id) (G id):=by
 have h:=small id
 simp only[Bool.and_eq_true,decide_eq_true_eq,beq_iff_eq]at h
 have e:(nf (cyN id*cyN id):Fin (cp id))=nf (cxN id*cxN id*cxN id+caN id*cxN id+cbN id):=by rw[<-nf_mod,h.2,nf_mod]
 simp only[nf_mul,nf_add]at e
 exact e
end EC
end
section
/-! triples of numbers,for the kernel;n times G-/
namespace EC
open Pr
structure NT where
 X:Nat
 Y:Nat
 Z:Nat
def NT.tr{p:Nat}[NeZero p](t:NT):Tr p:=⟨nf t.X,nf t.Y,nf t.Z⟩
def msub(p x y:Nat):Nat:=(x+(p-y%p))%p
def nsum(p a b3:Nat)(s t:NT):NT:=
 let t0:=s.X*t.X%p
 let t1:=s.Y*t.Y%p
 let t2:=s.Z*t.Z%p
 let t3:=msub p ((s.X+s.Y)*(t.X+t.Y)) (t0+t1)
 let t4:=msub p ((s.X+s.Z)*(t.X+t.Z)) (t0+t2)
 let t5:=msub p ((s.Y+s.Z)*(t.Y+t.Z)) (t1+t2)
 let z:=b3*t2+a*t4
 let x:=msub p t1 z
 let z:=t1+z
 let y:=x*z
 let t1:=t0+t0+t0
 let t2:=a*t2
 let t4:=b3*t4
 let t1:=t1+t2
 let t2:=a*msub p t0 t2
 let t4:=t4+t2
 ⟨msub p (t3*x) (t5*t4),(y+t1*t4)%p,(t5*z+t3*t1)%p⟩
theorem nf_msub{p:Nat}[NeZero p](x y:Nat):(nf (msub p x y):Fin p)=nf x-nf y:=by
 unfold msub
 have h:=Nat.mod_lt y (Nat.pos_of_ne_zero (NeZero.ne p))
 rw[nf_mod,nf_add,nf_sub (by omega),nf_mod]
 grobner
theorem nsum_tr{p:Nat}[NeZero p](a b3:Nat)(s t:NT):(nsum p a b3 s t).tr=tsum (nf a:Fin p) (nf b3) s.tr t.tr:=by
 simp only[nsum,NT.tr,tsum,nf_msub,nf_mod,nf_add,nf_mul]
def ntimes(p a b3:Nat):Nat->Nat->NT->NT
 |0,_,_=>⟨0,1,0⟩
 |f+1,k,t=>
  let h:=ntimes p a b3 f (k/2) t
  let d:=nsum p a b3 h h
  if k%2=1 then nsum p a b3 d t else d
theorem rep_O{p:Nat}[NeZero p](hp:Prime p):Rep (NT.tr ⟨0,1,0⟩:Tr p) .O:=by
 refine⟨rfl,rfl,?_⟩
 intro h
 have h1:=congrArg Fin.val h
 have e:(NT.tr ⟨0,1,0⟩:Tr p).Y=1:=rfl
 rw[e,val_one hp.1,val_zero]at h1
 omega
section
variable {p:Nat}[NeZero p]{a b:Nat}(hp:Prime p)(K:Ok (p:=p) finv (nf a) (nf b))
include hp K
omit hp in
theorem nsum_rep{s t:NT}{P Q:Pt p}(h1:OnC (nf a) (nf b) P)(h2:OnC (nf a) (nf b) Q)(r1:Rep s.tr P)(r2:Rep t.tr Q):
 Rep (nsum p a (3*b) s t).tr (add finv (nf a) P Q):=by
 rw[nsum_tr]
 have e:(nf (3*b):Fin p)=nf b+nf b+nf b:=by rw[<-nf_add,<-nf_add];congr 1;omega
 rw[e]
 exact tsum_rep K h1 h2 r1 r2
theorem ntimes_rep{t:NT}{P:Pt p}(h:OnC (nf a) (nf b) P)(r:Rep t.tr P):∀f k,k<2^f->Rep (ntimes p a (3*b) f k t).tr (smul finv (nf a) k P)
 |0,k,hk=>by
  have:k=0:=by simpa using hk
  subst this
  exact rep_O hp
 |f+1,k,hk=>by
  have hk2:k/2<2^f:=by rw[Nat.pow_succ]at hk;omega
  have ih:=ntimes_rep h r f (k/2) hk2
  have on:=smul_on K h (k/2)
  have d:=nsum_rep K on on ih ih
  rw[<-smul_two K h]at d
  unfold ntimes
  by_cases h1:k%2=1
  ·simp only[if_pos h1]
   have:=nsum_rep K (smul_on K h (2*(k/2))) h d r
   have e:k=2*(k/2)+1:=by omega
   rw[e]
   have e2:2*(k/2)+1=2*(k/2)+1:=rfl
   show Rep (nsum p a (3*b) (nsum p a (3*b) (ntimes p a (3*b) f ((2*(k/2)+1)/2) t) (ntimes p a (3*b) f ((2*(k/2)+1)/2) t)) t).tr (add finv (nf a) (smul finv (nf a) (2*(k/2)) P) P)
   rw[<-e]
   exact this
  ·simp only[if_neg h1]
   have e:k=2*(k/2):=by omega
   conv=>arg 2;rw[e]
   exact d
end
theorem rep_zero{p:Nat}[NeZero p]{t:NT}{P:Pt p}(r:Rep t.tr P)(h:t.Z%p=0):P= .O:=by
 cases P with
 |O=>rfl
 |A x y=>
  exfalso
  apply r.1
  show(nf t.Z:Fin p)=0
  rw[<-nf_mod,h];rfl
theorem rep_pt{p:Nat}[NeZero p](F:Fld p){t:NT}{P:Pt p}(r:Rep t.tr P){x y:Nat}(hz:t.Z%p≠0)(hx:x*t.Z%p=t.X%p)(hy:y*t.Z%p=t.Y%p):P= .A (nf x) (nf y):=by
 have hz':(nf t.Z:Fin p)≠0:=by
  intro h
  have h1:=congrArg Fin.val h
  rw[val_zero]at h1
  exact hz (by simpa [nf,Fin.ofNat]using h1)
 cases P with
 |O=>exact(hz' r.2.1).elim
 |A u v=>
  have e1:(nf (x*t.Z):Fin p)=nf t.X:=by rw[<-nf_mod,hx,nf_mod]
  have e2:(nf (y*t.Z):Fin p)=nf t.Y:=by rw[<-nf_mod,hy,nf_mod]
  rw[nf_mul]at e1 e2
  have r2:(nf t.X:Fin p)=u*nf t.Z:=r.2.1
  have r3:(nf t.Y:Fin p)=v*nf t.Z:=r.2.2
  have g1:u=nf x:=cancel F hz' (by rw[r2]at e1;clear e2 r3;grobner)
  have g2:v=nf y:=cancel F hz' (by rw[r3]at e2;clear e1 r2;grobner)
  rw[g1,g2]
def chkN(p a b n x y:Nat):Bool:=(ntimes p a (3*b) (n.log2+1) n ⟨x,y,1⟩).Z%p==0
theorem rep_aff{p:Nat}[NeZero p](hp:Prime p)(x y:Nat):Rep (NT.tr ⟨x,y,1⟩:Tr p) (.A (nf x) (nf y)):=by
 have e:(nf 1:Fin p)=1:=rfl
 refine⟨?_,?_,?_⟩
 ·intro h
  have h1:=congrArg Fin.val h
  have e:(NT.tr ⟨x,y,1⟩:Tr p).Z=1:=rfl
  rw[e,val_one hp.1,val_zero]at h1
  omega
 ·show(nf x:Fin p)=nf x*nf 1
  rw[e];grobner
 ·show(nf y:Fin p)=nf y*nf 1
  rw[e];grobner
theorem chkN_ok(id:Nat)(h:chkN (cp id) (caN id) (cbN id) (cn id) (cxN id) (cyN id)=true):smul finv (ca id) (cn id) (G id)= .O:=by
 simp only[chkN,beq_iff_eq]at h
 exact rep_zero (ntimes_rep (prime_cp id) (okc id) (G_on id) (rep_aff (prime_cp id) _ _) _ _ Nat.lt_log2_self) h
theorem chkN_all(id:Nat):chkN (cp id) (caN id) (cbN id) (cn id) (cxN id) (cyN id)=true:=by
 refine cases id (M:=fun id=>chkN (cp id) (caN id) (cbN id) (cn id) (cxN id) (cyN id)=true) (by decide +kernel) (by decide +kernel) (by decide +kernel) (by decide +kernel) (by decide +kernel) (by decide +kernel) (by decide +kernel) (by decide +kernel) (by decide +kernel) (by decide +kernel) (by decide +kernel) (by decide +kernel) (by decide +kernel) (by decide +kernel) fun id h=> ?_
 simp only[cp_last id h,caN_last id h,cbN_last id h,cn_last id h,cxN_last id h,cyN_last id h]
 decide +kernel
theorem nG(id:Nat):smul finv (ca id) (cn id) (G id)= .O:=chkN_ok id (chkN_all id)
end EC
end
namespace Go.Proofs.YtdhmihfefgcbeaaGreat
open Go.Vg Go.RowKit
set_option maxRecDepth 200000
set_option cbv.maxSteps 100000000
theorem same_nums0:((List.range 16).all fun k=>k==0||(EC.cp k==primeN k&&EC.caN k==curA k&&EC.cbN k==rowB k&&EC.cn k==rowN k&&EC.cxN k==rowX k&&EC.cyN k==rowY k))=true:=by decide +kernel
theorem same_nums{k:Nat}(hk:1<=k/\k<=15):EC.cp k=primeN k/\EC.caN k=curA k/\EC.cbN k=rowB k/\EC.cn k=rowN k/\EC.cxN k=rowX k/\EC.cyN k=rowY k:=by
 have h:=List.all_eq_true.1 same_nums0 k (List.mem_range.2 (by omega))
 have h0:(k==0)=false:=by simp;omega
 simp only[h0,Bool.false_or,Bool.and_eq_true,beq_iff_eq]at h
 obtain⟨⟨⟨⟨⟨h1,h2⟩,h3⟩,h4⟩,h5⟩,h6⟩:=h
 exact⟨h1,h2,h3,h4,h5,h6⟩
section
variable {p:Nat}[NeZero p]
theorem fp_pos:0<p:=Nat.pos_of_ne_zero (NeZero.ne p)
theorem nf_fA(x y:Nat):(EC.nf (fA p x y):Fin p)=EC.nf x+EC.nf y:=by unfold fA;rw[EC.nf_mod,EC.nf_add]
theorem nf_fM(x y:Nat):(EC.nf (fM p x y):Fin p)=EC.nf x*EC.nf y:=by unfold fM;rw[EC.nf_mod,EC.nf_mul]
theorem fA_le(x y:Nat):fA p x y<=p:=Nat.le_of_lt (Nat.mod_lt _ fp_pos)
theorem fM_le(x y:Nat):fM p x y<=p:=Nat.le_of_lt (Nat.mod_lt _ fp_pos)
theorem nf_fS{x y:Nat}(h:y<=p):(EC.nf (fS p x y):Fin p)=EC.nf x-EC.nf y:=by
 unfold fS
 rw[EC.nf_mod,show x+p-y=x+(p-y) by omega,EC.nf_add,EC.nf_sub h]
 grobner
theorem sumR_tr{X1 Y1 Z1 X2 Y2 Z2 a th X Y Z:Nat}(h:SumR p X1 Y1 Z1 X2 Y2 Z2 a th X Y Z):(EC.NT.tr ⟨X,Y,Z⟩:EC.Tr p)=EC.tsum (EC.nf a) (EC.nf th) (EC.NT.tr ⟨X1,Y1,Z1⟩) (EC.NT.tr ⟨X2,Y2,Z2⟩):=by
 obtain⟨r1,r2,r3,r4,r5,r6,r7,r8,r9,r10,r11,r12,r13,r14,r15,r16,r17,r18,r19,r20,r21,r22,r23,r24,r25,r26,r27,r28,r29,r30,r31,r32,r33,r34,r35,r36,r37,r38,r39,r40,h1,h2,h3,h4,h5,h6,h7,h8,h9,h10,h11,h12,h13,h14,h15,h16,h17,h18,h19,h20,h21,h22,h23,h24,h25,h26,h27,h28,h29,h30,h31,h32,h33,h34,h35,h36,h37,h38,h39,h40,hX,hY,hZ⟩:=h
 subst h1 h2 h3 h4 h5 h6 h7 h8 h9 h10 h11 h12 h13 h14 h15 h16 h17 h18 h19 h20 h21 h22 h23 h24 h25 h26 h27 h28 h29 h30 h31 h32 h33 h34 h35 h36 h37 h38 h39 h40 hX hY hZ
 simp only[EC.NT.tr,EC.tsum,nf_fA,nf_fM,nf_fS (fA_le _ _),nf_fS (fM_le _ _)]
end
def ptx{p:Nat}:EC.Pt p->Nat
 | .O=>0
 | .A x _=>x.val
def pty{p:Nat}:EC.Pt p->Nat
 | .O=>0
 | .A _ y=>y.val
def ptinf{p:Nat}:EC.Pt p->Bool
 | .O=>true
 | .A _ _=>false
structure TrW(k:Nat)(Q:EC.Pt (EC.cp k))(X Y Z:Nat->Nat):Prop where
 wX:Wn 9 X
 wY:Wn 9 Y
 wZ:Wn 9 Z
 lX:V 9 X<EC.cp k
 lY:V 9 Y<EC.cp k
 lZ:V 9 Z<EC.cp k
 rep:EC.Rep (EC.NT.tr ⟨V 9 X,V 9 Y,V 9 Z⟩:EC.Tr (EC.cp k)) Q
structure PtW(k:Nat)(Q:EC.Pt (EC.cp k))(X Y:Nat->Nat)(inf:Bool):Prop where
 wX:Wn 9 X
 wY:Wn 9 Y
 vX:V 9 X=ptx Q
 vY:V 9 Y=pty Q
 inf:inf=ptinf Q
theorem pos_cp(k:Nat):0<EC.cp k:=Nat.pos_of_ne_zero (NeZero.ne _)
theorem ptx_lt{k:Nat}(Q:EC.Pt (EC.cp k)):ptx Q<EC.cp k:=by cases Q with|O=>exact pos_cp k|A x y=>exact x.isLt
theorem pty_lt{k:Nat}(Q:EC.Pt (EC.cp k)):pty Q<EC.cp k:=by cases Q with|O=>exact pos_cp k|A x y=>exact y.isLt
theorem bl_le16{x b n:Nat}(h:IsBl x b)(hx:x<16^n):b<=4*n:=by
 rcases Nat.lt_or_ge (4*n) b with h1|h1
 ·have h2:=h.2 (by omega)
  have h3:2^(4*n)<=2^(b-1):=Nat.pow_le_pow_right (by decide) (by omega)
  rw[Nat.pow_mul]at h3
  exact absurd hx (Nat.not_lt.2 (Nat.le_trans h3 h2))
 ·exact h1
theorem cn_small{k:Nat}(hk:1<=k/\k<=15):EC.cn k<16^144:=by
 have h:((List.range 16).all fun k=>decide (EC.cn k<16^144))=true:=by decide +kernel
 exact of_decide_eq_true (List.all_eq_true.1 h k (List.mem_range.2 (by omega)))
theorem cp_small{k:Nat}(hk:1<=k/\k<=15):EC.cp k<0x10000000000000000^9:=by
 have h:((List.range 16).all fun k=>decide (EC.cp k<0x10000000000000000^9))=true:=by decide +kernel
 exact of_decide_eq_true (List.all_eq_true.1 h k (List.mem_range.2 (by omega)))
theorem exPt{k:Nat}(hk:1<=k/\k<=15)(Q:EC.Pt (EC.cp k)):∃X Y,PtW k Q X Y (ptinf Q):=by
 obtain⟨X,h1,h2⟩:=exV 9 (ptx Q) (Nat.lt_trans (ptx_lt Q) (cp_small hk))
 obtain⟨Y,h3,h4⟩:=exV 9 (pty Q) (Nat.lt_trans (pty_lt Q) (cp_small hk))
 exact⟨X,Y,h1,h3,h2,h4,rfl⟩
theorem v_zero:V 9 (fun _=>0)=0:=by decide +kernel
theorem v_one:V 9 (fun j=>if j=0 then 1 else 0)=1:=by decide +kernel
theorem w_zero:Wn 9 (fun _=>0):=fun _ _=>by show 0<_;decide
theorem w_one:Wn 9 (fun j=>if j=0 then 1 else 0):=fun j _=>by show(if j=0 then 1 else 0)<_;split<;>decide
theorem trO(k:Nat):TrW k .O (fun _=>0) (fun j=>if j=0 then 1 else 0) (fun _=>0):=by
 have h2:=(EC.prime_cp k).1
 refine⟨w_zero,w_one,w_zero,by rw[v_zero];exact pos_cp k,by rw[v_one];omega,by rw[v_zero];exact pos_cp k,?_⟩
 rw[v_zero,v_one]
 exact EC.rep_O (EC.prime_cp k)
def cvB(k:Nat)(p a b n gx gy th d:Nat->Nat)(m s bits size:Nat)(leg:Bool):LL:=
 [⟨0,ccells k p a b n gx gy th bits size leg 1,115⟩,⟨1,fcells p 2,120⟩,⟨2,dcells d m s,215⟩]
section
variable {k:Nat}(hk:1<=k/\k<=15){p a b n gx gy th d:Nat->Nat}{m s bits size:Nat}{leg:Bool}(hC:Cv k p a b n gx gy th bits size)
include hk hC
theorem cv_facts:V 9 p=EC.cp k/\V 9 a=EC.caN k/\V 9 a<EC.cp k/\V 9 th<EC.cp k/\(EC.nf (V 9 th):Fin (EC.cp k))=EC.cb k+EC.cb k+EC.cb k:=by
 obtain⟨h1,h2,h3,_⟩:=same_nums hk
 have hs:=EC.small k
 simp only[Bool.and_eq_true,decide_eq_true_eq]at hs
 refine⟨by rw[hC.vp,h1],by rw[hC.va,h2],by rw[hC.va,<-h2];exact hs.1.1.1.1.1.1,?_,?_⟩
 ·rw[hC.vt,<-h1];exact Nat.mod_lt _ (pos_cp k)
 ·rw[hC.vt,<-h1,EC.nf_mod,EC.nf_add,EC.nf_add,<-h3];rfl
theorem cSumP{P:Program}(hP:P=Tryz.prog)(hD:Dv p d m s){Q1 Q2:EC.Pt (EC.cp k)}(o1:EC.OnC (EC.ca k) (EC.cb k) Q1)(o2:EC.OnC (EC.ca k) (EC.cb k) Q2){X1 Y1 Z1 X2 Y2 Z2:Nat->Nat}(t1:TrW k Q1 X1 Y1 Z1)(t2:TrW k Q2 X2 Y2 Z2):
 ∃X Y Z,TrW k (EC.add EC.finv (EC.ca k) Q1 Q2) X Y Z/\Con P 93 [.ptr 0 0,.agg (ws X1 9++ws Y1 9++ws Z1 9),.agg (ws X2 9++ws Y2 9++ws Z2 9)] (cvB k p a b n gx gy th d m s bits size leg) 3 [] (fun v _ _=>v= .agg (ws X 9++ws Y 9++ws Z 9)):=by
 obtain⟨e1,e2,e3,e4,e5⟩:=cv_facts hk hC
 obtain⟨X,Y,Z,w1,w2,w3,l1,l2,l3,hs,hc⟩:=cSum hP k p a b n gx gy th X1 Y1 Z1 X2 Y2 Z2 d m s bits size leg hD hC.wp t1.wX (by rw[e1];exact t1.lX) t1.wY (by rw[e1];exact t1.lY) t1.wZ (by rw[e1];exact t1.lZ) t2.wX (by rw[e1];exact t2.lX) t2.wY (by rw[e1];exact t2.lY) t2.wZ (by rw[e1];exact t2.lZ) hC.wa (by rw[e1];exact e3) hC.wt (by rw[e1];exact e4)
 rw[e1]at l1 l2 l3 hs
 refine⟨X,Y,Z,⟨w1,w2,w3,l1,l2,l3,?_⟩,hc⟩
 rw[sumR_tr hs,e5,e2]
 exact EC.tsum_rep (EC.okc k) o1 o2 t1.rep t2.rep
omit hC in
theorem cNoneP{P:Program}(hP:P=Tryz.prog):∃X Y Z,TrW k .O X Y Z/\Con P 92 [] [] 0 [] (fun v _ _=>v= .agg (ws X 9++ws Y 9++ws Z 9)):=by
 have _:=hk
 exact⟨_,_,_,trO k,cNone hP _ rfl⟩
omit hC in
theorem cTripleP{P:Program}(hP:P=Tryz.prog){Q:EC.Pt (EC.cp k)}{x y:Nat->Nat}{inf:Bool}(h:PtW k Q x y inf):∃X Y Z,TrW k Q X Y Z/\Con P 95 [.agg (ws x 9++ws y 9++[.bool inf])] [] 0 [] (fun v _ _=>v= .agg (ws X 9++ws Y 9++ws Z 9)):=by
 have _:=hk
 have h2:=(EC.prime_cp k).1
 cases Q with
 |O=>
  obtain rfl:inf=true:=h.inf
  exact⟨_,_,_,trO k,cTriple hP x y _ true rfl _ _ _ (if_pos rfl).symm (if_pos rfl).symm (if_pos rfl).symm⟩
 |A qx qy=>
  obtain rfl:inf=false:=h.inf
  have e1:V 9 x=qx.val:=h.vX
  have e2:V 9 y=qy.val:=h.vY
  refine⟨x,y,_,⟨h.wX,h.wY,w_one,by rw[e1];exact qx.isLt,by rw[e2];exact qy.isLt,by rw[v_one];omega,?_⟩,cTriple hP x y _ false rfl _ _ _ (if_neg (by decide)).symm (if_neg (by decide)).symm (if_neg (by decide)).symm⟩
  have:=EC.rep_aff (EC.prime_cp k) qx.val qy.val
  rw[EC.nf_val,EC.nf_val]at this
  rw[e1,e2,v_one]
  exact this
omit hk hC in
theorem inv_val(k:Nat){z:Nat}(hz:z<EC.cp k)(h0:z≠0):(EC.finv (EC.nf z:Fin (EC.cp k))).val*z%EC.cp k=1:=by
 have hne:(EC.nf z:Fin (EC.cp k))≠0:=fun e=>h0 (by
  have:=congrArg Fin.val e
  rw[EC.val_zero]at this
  rwa [EC.val_nf _ hz]at this)
 have h3:=congrArg Fin.val (EC.mul_finv (EC.prime_cp k) hne)
 rw[EC.val_mul,EC.val_nf _ hz,EC.val_one (EC.prime_cp k).1]at h3
 rw[Nat.mul_comm];exact h3
omit hk hC in
theorem mul_back{q i z:Nat}(h:i*z%q=1)(u:Nat):u*i%q*z%q=u%q:=by
 rw[Nat.mod_mul_mod,Nat.mul_assoc,Nat.mul_mod,h,Nat.mul_one,Nat.mod_mod]
omit hk hC in
theorem gcd_one{q i z:Nat}(h:i*z%q=1):Nat.gcd z q=1:=by
 have hd:Nat.gcd z q∣1:=by
  rw[<-h]
  exact(Nat.dvd_mod_iff (Nat.gcd_dvd_right _ _)).2 (Nat.dvd_mul_left_of_dvd (Nat.gcd_dvd_left _ _) _)
 exact Nat.eq_one_of_dvd_one hd
omit hk hC in
theorem plain_pt(k:Nat){Q:EC.Pt (EC.cp k)}{x y z i:Nat}(r:EC.Rep (EC.NT.tr ⟨x,y,z⟩:EC.Tr (EC.cp k)) Q)(hz:z<EC.cp k)(h0:z≠0)(h:i*z%EC.cp k=1):ptx Q=x*i%EC.cp k/\pty Q=y*i%EC.cp k/\ptinf Q=false:=by
 have hQ:=EC.rep_pt (EC.fld (EC.prime_cp k) (EC.cp_odd k)) r (x:=x*i%EC.cp k) (y:=y*i%EC.cp k) (by show z%_≠0;rw[Nat.mod_eq_of_lt hz];exact h0) (mul_back h _) (mul_back h _)
 rw[hQ]
 exact⟨EC.val_nf _ (Nat.mod_lt _ (pos_cp k)),EC.val_nf _ (Nat.mod_lt _ (pos_cp k)),rfl⟩
theorem cPlainP{P:Program}(hP:P=Tryz.prog)(hD:Dv p d m s){Q:EC.Pt (EC.cp k)}{X Y Z x y:Nat->Nat}{inf:Bool}(t:TrW k Q X Y Z)(h:PtW k Q x y inf):
 Con P 96 [.ptr 0 0,.agg (ws X 9++ws Y 9++ws Z 9)] (cvB k p a b n gx gy th d m s bits size leg) 3 [] (fun v _ _=>v= .agg (ws x 9++ws y 9++[.bool inf])):=by
 obtain⟨e1,e2,e3,e4,e5⟩:=cv_facts hk hC
 have h2:=(EC.prime_cp k).1
 by_cases h0:V 9 Z=0
 ·have hQ:Q= .O:=EC.rep_zero t.rep (by show V 9 Z%_=0;rw[h0,Nat.zero_mod])
  subst hQ
  obtain rfl:inf=true:=h.inf
  have q1:ws x 9=ws (fun _=>0) 9:=V_inj h.wX w_zero (by rw[v_zero];exact h.vX)
  have q2:ws y 9=ws (fun _=>0) 9:=V_inj h.wY w_zero (by rw[v_zero];exact h.vY)
  rw[q1,q2]
  exact cPlain0 hP k p a b n gx gy th X Y Z d m s bits size leg t.wZ h0
 ·obtain⟨i,wi,vi⟩:=exV 9 (EC.finv (EC.nf (V 9 Z):Fin (EC.cp k))).val (Nat.lt_trans (Fin.isLt _) (cp_small hk))
  have hmul:V 9 i*V 9 Z%EC.cp k=1:=by rw[vi];exact inv_val k t.lZ h0
  have hil:V 9 i<EC.cp k:=by rw[vi];exact Fin.isLt _
  clear vi
  obtain⟨q1,q2,q3⟩:=plain_pt k t.rep t.lZ h0 hmul
  obtain rfl:inf=false:=h.inf.trans q3
  exact cPlain hP k p a b n gx gy th X Y Z d i x y m s bits size leg hD hC.wp (by rw[e1];exact h2) t.wX t.wY t.wZ h0 wi (fun _=>by rw[e1];exact⟨hil,hmul⟩) (fun hg=>absurd (by rw[e1];exact gcd_one hmul) hg) h.wX h.wY (by rw[e1];exact h.vX.trans q1) (by rw[e1];exact h.vY.trans q2)
end
def dgt(x n j:Nat):Nat:=x/2^((n-1-j)*4)%16
theorem bytesI64{P:Program}(hP:P=Tryz.prog):(P.info? 3).map (·.bytes)=some 8:=by
 subst hP;kernel_rfl
def RowV(l es:Nat)(t:TypeId)(i c:Nat)(C:List SV)(v:SV)(B:LL):Prop:=(v= .nils/\B=[]/\i=0)\/(v= .slice l 0 i c/\B=[⟨l,C,t⟩]/\i<=c/\C.length=c*es/\c<=maxLen)
theorem cWide{P:Program}(hP:P=Tryz.prog):Con P 119 [.int .i64 4] [] 0 [] (fun v _ _=>v= .bool true):=by
 refine cof hP Tryz.func119 (bdb _ rfl) (bkb rfl) ?_
 intro A g K hA hg hK
 obtain⟨_,_,cmp⟩:=A
 have e1:cmp .geq 4 1=true:=geq_t hA (a:=4) (b:=1) (by decide)
 have e2:cmp .leq 4 6=true:=leq_t hA (a:=4) (b:=6) (by decide)
 cbv
 rw[e1]
 cbv
 rw[e2]
 exact hK _ _ _ rfl
theorem cDigits{P:Program}(hP:P=Tryz.prog)(a:Nat->Nat)(ha:Wn 9 a)(b n:Nat)(hb:1<=b/\b<=576)(hl:V 9 a<2^b)(hn:n=(b+3)/4):
 Con P 91 [.agg (ws a 9),.int .i64 (.ofNat b),.int .i64 4] [] 0 [] (fun v L q=>∃c C,v= .tup [.slice 1 0 n c,.int .i64 0]/\L=[⟨0,ws a 9,25⟩,⟨1,C,3⟩]/\q=2/\n<=c/\C.length=c/\(∀j,j<n->C[j]? =some (.int .i64 (.ofNat (dgt (V 9 a) n j))))/\∀m,bdLB m C=true):=by
 obtain⟨bl,hbl⟩:=bl_ex (V 9 a)
 have hBits:=cBits hP a ha bl hbl
 have hblb:bl<=b:=by
  rcases Nat.lt_or_ge b bl with h|h
  ·have h1:=hbl.2 (by omega)
   have h2:=Nat.pow_le_pow_right (n:=2) (by decide) (show b<=bl-1 by omega)
   omega
  ·exact h
 have hWide:=cWide hP
 have hn1:1<=n:=by omega
 refine cof hP Tryz.func91 (bdb _ rfl) (bkb rfl) ?_
 intro A g K hA hg hK
 obtain⟨bin,sh,cmp,_,cvt,_,nn,nz,bnot,_,_,_,_,_,_,_,_,_,sub⟩:=A
 have e1:cmp .lss (.ofNat b) 1=false:=lss_f hA (b:=1) (by omega)
 have e2:cmp .gtr (.ofNat b) 576=false:=gtr_f hA (b:=576) (by omega)
 have e3:cmp .gtr (.ofNat bl) (.ofNat b)=false:=gtr_f hA (by omega)
 have e4:bnot true=false:=bnot_of hA true
 obtain⟨b4,hb4⟩:=exq (b+4)
 obtain⟨b3,hb3⟩:=exq (b+3)
 have e5:bin .add .i64 (.ofNat b) 4=Int.ofNat b4:=(addI hA (a:=b) (b:=4) (by omega)).trans (by rw[hb4])
 have e6:bin .sub .i64 (.ofNat b4) 1=Int.ofNat b3:=(subI hA (a:=b4) (b:=1) (by omega) (by omega)).trans (by rw[hb3,hb4];rfl)
 have e7:bin .quo .i64 (.ofNat b3) 4=Int.ofNat n:=(quoI hA (a:=b3) (b:=4) (by omega)).trans (by rw[hn,hb3])
 have e8:nz 4=true:=nz_of hA (by decide)
 have e9:bin .sub .i64 (.ofNat n) 1=(n:Int)-1-(0:Nat):=(subI hA (a:=n) (b:=1) (by omega) (by omega)).trans (by simp;omega)
 have e10:nn 4=true:=nn_t hA 4
 have e11:sh .shl .u64 1 4=16:=(shlW hA (k:= .u64) rfl 1 (s:=4) (by decide)).trans (by rfl)
 have e12:bin .sub .u64 16 1=15:=(subW hA (k:= .u64) rfl (a:=16) (b:=1) (by decide)).trans (by rfl)
 cbv
 refine cva rfl hg rfl rfl hWide ?_
 rintro _ _ _ rfl
 cbv
 rw[e4]
 cbv
 rw[e1]
 cbv
 rw[e2]
 cbv
 refine cva rfl hg rfl rfl hBits ?_
 rintro _ _ _ rfl
 cbv
 rw[e3]
 cbv
 rw[e5]
 cbv
 rw[e6,e8]
 cbv
 rw[e7,e9]
 obtain⟨z0,hz0⟩:=exq ((n:Int)-1-(0:Nat):Int)
 rw[<-hz0]
 refine⟨Nat×List SV×Nat×Int×SV×LL,fun s=>s.1<=n/\s.2.2.2.1=(n:Int)-1-s.1/\RowV 1 1 3 s.1 s.2.2.1 s.2.1 s.2.2.2.2.1 s.2.2.2.2.2/\(∀j,j<s.1->s.2.1[j]? =some (.int .i64 (.ofNat (dgt (V 9 a) n j))))/\(∀m,bdLB m s.2.1=true),fun s=>n-s.1,
  fun s=> [(1,.int .i64 (.ofNat b)),(2,.int .i64 4),(3,.ptr 0 0),(6,.nils),(7,.int .i64 0),(8,s.2.2.2.2.1),(9,.int .i64 s.2.2.2.1)],
  fun s=>⟨0,ws a 9,25⟩::s.2.2.2.2.2,2,⟨(0,[],0,z0,.nils,[]),id,⟨Nat.zero_le _,hz0,Or.inl ⟨rfl,rfl,rfl⟩,fun j h=>absurd h (Nat.not_lt_zero j),fun _=>rfl⟩,?_⟩,?_⟩
 ·exact wkid
 rintro⟨i,C,c,z,v,B⟩ ⟨hi,hz,hR,hCd,hCb⟩
 change i<=n at hi
 change z=(n:Int)-1-i at hz
 change RowV 1 1 3 i c C v B at hR
 change ∀j,j<i->C[j]? =some (.int .i64 (.ofNat (dgt (V 9 a) n j)))at hCd
 change ∀m,bdLB m C=true at hCb
 by_cases hlt:i<n
 ·obtain⟨at_,hat⟩:=exq (n-1-i)
  obtain rfl:z=Int.ofNat at_:=by rw[hz,hat];simp;omega
  obtain⟨a4,ha4⟩:=exq (at_*4)
  have g1:cmp .geq (.ofNat at_) 0=true:=geq_t hA (b:=0) (Nat.zero_le _)
  have g2:bin .mul .i64 (.ofNat at_) 4=Int.ofNat a4:=(mulI hA (a:=at_) (b:=4) (by omega)).trans (by rw[ha4])
  obtain⟨x,wx,vx⟩:=exV 9 (V 9 a/2^a4) (Nat.lt_of_le_of_lt (Nat.div_le_self _ _) (V_lt ha))
  have hShr:=cShr hP a x ha wx a4 (by omega) vx
  obtain⟨dd,hdd⟩:=exq (dgt (V 9 a) n i)
  have hx0:x 0%16=dd:=by
   rw[hdd]
   unfold dgt
   rw[<-hat,<-ha4,<-vx]
   have h1:V 9 x%0x10000000000000000=x 0:=by
    have:=Dg.dig_num (b:=0x10000000000000000) (by decide) 9 wx 0 (by decide)
    rw[<-this]
    unfold Dg.dig
    rw[Nat.pow_zero,Nat.div_one];rfl
   rw[<-h1]
   exact Nat.mod_mod_of_dvd _ (by decide)
  have g3:bin .and .u64 (.ofNat (x 0)) 15=Int.ofNat dd:=(andW hA (k:= .u64) rfl (a:=x 0) (b:=15) (wx 0 (by decide)) (by decide)).trans (by rw[<-hx0];exact congrArg Int.ofNat (Nat.and_two_pow_sub_one_eq_mod (x 0) 4))
  have g4:cvt .i64 (.ofNat dd)=Int.ofNat dd:=cvtI hA (fun _=>by show dd<2^63;omega) (fun h=>by cases h)
  have g5:bin .sub .i64 (.ofNat at_) 1=(n:Int)-1-(i+1:Nat):=by
   have:bin .sub .i64 (.ofNat at_) 1=IntKind.i64.wrap (Int.ofNat at_-1):=congrFun (congrFun (congrFun (congrFun (bin_of hA) .sub) .i64) (Int.ofNat at_)) 1
   rw[this,hat]
   simp only[IntKind.wrap,IntKind.signed,IntKind.bits]
   simp
   omega
  obtain⟨z',hz'⟩:=exq ((n:Int)-1-(i+1:Nat):Int)
  rw[<-hz']at g5
  rcases hR with⟨rfl,rfl,rfl⟩|⟨rfl,rfl,hic,hCl,hc⟩
  ·cbv
   rw[g1]
   cbv
   rw[g2]
   cbv
   refine step_min hg rfl rfl rfl rfl (r:=Int.ofNat a4) (if_neg (show ¬ (576:Int)<(a4:Int) by omega)).symm ?_
   cbv
   refine cva rfl hg rfl rfl hShr ?_
   rintro _ _ _ rfl
   refine⟨by simp[bd,bdL,ws,lst],?_⟩
   cbv
   refine reg_cA (hP▸tblOk) hA hg (hP▸mixed) rfl rfl [(10,[])] rfl ?_
   cbv
   rw[e10]
   cbv
   rw[e11]
   cbv
   rw[e12]
   cbv
   rw[g3]
   cbv
   rw[g4]
   cbv
   refine step_append_nil (hP▸tblOk) hg rfl rfl (show tyT 64=some _ from rfl) rfl (show tyT 3=some _ from rfl) (bytesI64 hP) (by decide) rfl (show ev _ _=some (.slice 3 0 1 1)from rfl) (show find _ 3=some _ from rfl) (by exact Nat.le_refl 1) (by decide) (by decide) (by decide) ?_
   intro c' hc1 hc2
   obtain⟨Y,hY⟩:=exq (([SV.int .i64 (.ofNat dd)].drop 0).take (1*1)++rep (c'-1) [SV.int .i64 0])
   rw[<-hY]
   cbv
   rw[g5]
   have hYl:Y.length=c':=by rw[hY];simp[rep_length];omega
   have hYb:∀m,bdLB m Y=true:=fun m=>by rw[hY];exact bap rfl (rep_bdLB rfl _)
   refine⟨(1,Y,c',z',.slice 1 0 1 c',[⟨1,Y,3⟩]),fun l=>if l=1 then 4 else l,⟨hn1,hz',Or.inr ⟨rfl,rfl,hc1,by rw[hYl,Nat.mul_one],hc2⟩,fun j hj=> ?_,hYb⟩,(by show n-1<n-0;omega),?_⟩
   ·have hj:j<1:=hj
    obtain rfl:j=0:=by omega
    show Y[0]? =_
    rw[hY,hdd];rfl
   ·exact wkr (by repeat' (first|exact trivial|refine⟨rfl,rfl,?_⟩)) ⟨rfl,rfl,rfl,rfl,by rw[rcl Y (hYb 0)];rfl,rfl,rfl,hYb 2,trivial⟩ rfl rfl rfl
  ·cbv
   rw[g1]
   cbv
   rw[g2]
   cbv
   refine step_min hg rfl rfl rfl rfl (r:=Int.ofNat a4) (if_neg (show ¬ (576:Int)<(a4:Int) by omega)).symm ?_
   cbv
   refine cva rfl hg rfl rfl hShr ?_
   rintro _ _ _ rfl
   refine⟨by simp[bd,bdL,ws,lst],?_⟩
   cbv
   refine reg_cA (hP▸tblOk) hA hg (hP▸mixed) rfl rfl [(10,[])] rfl ?_
   cbv
   rw[e10]
   cbv
   rw[e11]
   cbv
   rw[e12]
   cbv
   rw[g3]
   cbv
   rw[g4]
   cbv
   refine step_append_own (hP▸tblOk) hg rfl rfl (show tyT 64=some _ from rfl) rfl (show tyT 3=some _ from rfl) (bytesI64 hP) (by decide) (show ev _ _=some (.slice 1 0 i c)from rfl) (show find _ 1=some _ from rfl) rfl hic hCl hc (show ev _ _=some (.slice 3 0 1 1)from rfl) (show find _ 3=some _ from rfl) (by exact Nat.le_refl 1) rfl (by simp only[maxLen];omega) (by omega) ?_
   intro c' tail h1 h2 h3 h4
   obtain⟨Y,hY⟩:=exq (C.take (i*1)++([SV.int .i64 (.ofNat dd)].drop 0).take (1*1)++tail)
   rw[<-hY]
   obtain⟨i1,hi1⟩:=exq (i+1)
   rw[<-hi1]at h1 h3⊢
   cbv
   rw[g5]
   have hYl:Y.length=c':=by
    rw[hY,List.length_append,List.length_append,h3,List.length_take,hCl]
    simp;omega
   have hYb:∀m,bdLB m Y=true:=fun m=>by rw[hY];exact bap (bap (bdLB_take (hCb m)) rfl) (h4 m (hCb m) rfl)
   refine⟨(i1,Y,c',z',.slice 1 0 i1 c',[⟨1,Y,3⟩]),fun l=>if l=1 then 4 else l,⟨by show i1<=n;omega,by rw[hi1];exact hz',Or.inr ⟨rfl,rfl,h1,by rw[hYl,Nat.mul_one],h2⟩,fun j hj=> ?_,hYb⟩,(by show n-i1<n-i;omega),?_⟩
   ·have hj:j<i1:=hj
    show Y[j]? =_
    rw[hY,Nat.mul_one,List.append_assoc]
    by_cases hji:j<i
    ·rw[List.getElem?_append_left (by rw[List.length_take,hCl];omega),List.getElem?_take,if_pos hji]
     exact hCd j hji
    ·obtain rfl:j=i:=by omega
     rw[List.getElem?_append_right (by rw[List.length_take,hCl];omega),List.length_take,hCl,show j-min j (c*1)=0 by omega,hdd]
     rfl
   ·exact wkr (by repeat' (first|exact trivial|refine⟨rfl,rfl,?_⟩)) ⟨rfl,rfl,rfl,rfl,by rw[rcl Y (hYb 0)];rfl,rfl,rfl,hYb 2,trivial⟩ rfl rfl rfl
 ·obtain rfl:i=n:=by omega
  have g1:cmp .geq z 0=false:=by
   have:cmp .geq z 0=boolCmp .geq z 0:=congrFun (congrFun (congrFun (cmp_of hA) .geq) z) 0
   rw[this]
   show decide (z≥0)=false
   exact decide_eq_false (by rw[hz];omega)
  rcases hR with⟨rfl,rfl,rfl⟩|⟨rfl,rfl,hic,hCl,hc⟩
  ·omega
  cbv
  rw[g1]
  cbv
  exact hK _ _ _ ⟨c,C,rfl,rfl,rfl,hic,by rw[hCl,Nat.mul_one],hCd,hCb⟩
def ptS(X Y:Nat->Nat)(inf:Bool):List SV:=ws X 9++ws Y 9++[.bool inf]
def TabC(k:Nat)(Q:EC.Pt (EC.cp k))(n:Nat)(C:List SV):Prop:=
 ∀i,i<n->∃X Y inf,PtW k (EC.smul EC.finv (EC.ca k) i Q) X Y inf/\(C.drop (i*19)).take 19=ptS X Y inf
theorem bytesPt{P:Program}(hP:P=Tryz.prog):(P.info? 35).map (·.bytes)=some 152:=by
 subst hP;kernel_rfl
theorem ptS_len(X Y:Nat->Nat)(inf:Bool):(ptS X Y inf).length=19:=rfl
theorem TabC.app{k:Nat}{Q:EC.Pt (EC.cp k)}{n:Nat}{C tail:List SV}{c:Nat}(h:TabC k Q n C)(hl:C.length=c*19)(hn:n<=c){X Y:Nat->Nat}{inf:Bool}(hp:PtW k (EC.smul EC.finv (EC.ca k) n Q) X Y inf):
 TabC k Q (n+1) (C.take (n*19)++ptS X Y inf++tail):=by
 have hlt:(C.take (n*19)).length=n*19:=by rw[List.length_take,hl];omega
 intro i hi
 by_cases h1:i<n
 ·obtain⟨X',Y',inf',q1,q2⟩:=h i h1
  refine⟨X',Y',inf',q1,?_⟩
  rw[<-q2,List.append_assoc,List.drop_append_of_le_length (by omega),List.take_append_of_le_length (by rw[List.length_drop];omega),List.drop_take,List.take_take]
  congr 1;omega
 ·obtain rfl:i=n:=by omega
  refine⟨X,Y,inf,hp,?_⟩
  rw[List.append_assoc,List.drop_left' hlt,List.take_append_of_le_length (by rw[ptS_len];exact Nat.le_refl _)]
  exact List.take_of_length_le (by rw[ptS_len];exact Nat.le_refl _)
section
variable {k:Nat}(hk:1<=k/\k<=15){p a b n gx gy th d:Nat->Nat}{m s1 bits size:Nat}{leg:Bool}(hC:Cv k p a b n gx gy th bits size)
include hk hC
theorem cTabOfL{P:Program}(hP:P=Tryz.prog)(hD:Dv p d m s1){Q:EC.Pt (EC.cp k)}(o:EC.OnC (EC.ca k) (EC.cb k) Q){x y:Nat->Nat}{inf:Bool}(hQ:PtW k Q x y inf)(N:Nat)(hN:1<=N/\N<=1000):
 Con P 66 [.ptr 0 0,.agg (ws x 9++ws y 9++[.bool inf]),.int .i64 (.ofNat N)] (cvB k p a b n gx gy th d m s1 bits size leg) 3 [] (fun v L q=>∃c C,v= .ptr 4 0/\find L 4=some ⟨4,[.slice 7 0 N c],165⟩/\find L 7=some ⟨7,C,35⟩/\find L 0=find (cvB k p a b n gx gy th d m s1 bits size leg) 0/\find L 1=find (cvB k p a b n gx gy th d m s1 bits size leg) 1/\find L 2=find (cvB k p a b n gx gy th d m s1 bits size leg) 2/\q=8/\N<=c/\C.length=c*19/\TabC k Q N C/\∀m,bdLB m C=true):=by
 obtain⟨X1,Y1,Z1,t1,hTr⟩:=cTripleP hk hP hQ
 obtain⟨X0,Y0,Z0,t0,hNo⟩:=cNoneP hk hP
 have bPt:=bytesPt hP
 refine cof hP Tryz.func66 (bdb _ rfl) (bkb rfl) ?_
 intro A g K hA hg hK
 obtain⟨bin,_,cmp⟩:=A
 have f1:∀i,i<N->cmp .lss (.ofNat i) (.ofNat N)=true:=fun i h=>lss_t hA h
 have f2:cmp .lss (.ofNat N) (.ofNat N)=false:=lss_f hA (by omega)
 have f3:∀i,i<N->bin .add .i64 (.ofNat i) 1=Int.ofNat (i+1):=fun i h=>add_of hA (by omega)
 cbv
 refine cva rfl hg rfl rfl hTr ?_
 rintro _ _ _ rfl
 refine⟨by simp[bd,bdL,ws,lst],?_⟩
 cbv
 refine cva rfl hg rfl rfl hNo ?_
 rintro _ _ _ rfl
 refine⟨by simp[bd,bdL,ws,lst],?_⟩
 cbv
 refine⟨Nat×(Nat->Nat)×(Nat->Nat)×(Nat->Nat)×List SV×Nat×SV×LL,fun s=>s.1<=N/\TrW k (EC.smul EC.finv (EC.ca k) s.1 Q) s.2.1 s.2.2.1 s.2.2.2.1/\RowV 7 19 35 s.1 s.2.2.2.2.2.1 s.2.2.2.2.1 s.2.2.2.2.2.2.1 s.2.2.2.2.2.2.2/\TabC k Q s.1 s.2.2.2.2.1/\(∀m,bdLB m s.2.2.2.2.1=true),fun s=>N-s.1,
  fun s=> [(0,.ptr 0 0),(6,.nilp),(7,.ptr 4 0),(8,.ptr 5 0),(9,.ptr 6 0),(15,.int .i64 (.ofNat N)),(16,.int .i64 (.ofNat s.1))],
  fun s=>cvB k p a b n gx gy th d m s1 bits size leg++[⟨4,[s.2.2.2.2.2.2.1],165⟩,⟨5,ws X1 9++ws Y1 9++ws Z1 9,157⟩,⟨6,ws s.2.1 9++ws s.2.2.1 9++ws s.2.2.2.1 9,157⟩]++s.2.2.2.2.2.2.2,8,⟨(0,X0,Y0,Z0,[],0,.nils,[]),id,⟨Nat.zero_le _,t0,Or.inl ⟨rfl,rfl,rfl⟩,fun i h=>absurd h (Nat.not_lt_zero i),fun _=>rfl⟩,?_⟩,?_⟩
 ·exact wkid
 rintro⟨i,X,Y,Z,C,c,v,B⟩ ⟨hi,ht,hR,hT,hb⟩
 change i<=N at hi
 change TrW k (EC.smul EC.finv (EC.ca k) i Q) X Y Z at ht
 change RowV 7 19 35 i c C v B at hR
 change TabC k Q i C at hT
 change ∀m,bdLB m C=true at hb
 by_cases hlt:i<N
 ·have oi:=EC.smul_on (EC.okc k) o i
  obtain⟨px,py,pinf,hpt⟩:∃px py pinf,PtW k (EC.smul EC.finv (EC.ca k) i Q) px py pinf:=⟨_,_,_,(exPt hk _).choose_spec.choose_spec⟩
  have hPl:=cPlainP hk hC (leg:=leg) hP hD ht hpt
  obtain⟨X',Y',Z',ht',hSum⟩:=cSumP hk hC (leg:=leg) hP hD oi o ht t1
  rcases hR with⟨rfl,rfl,rfl⟩|⟨rfl,rfl,hic,hCl,hc⟩
  ·cbv
   rw[f1 0 hlt]
   cbv
   refine reg_cA (hP▸tblOk) hA hg (hP▸mixed) rfl rfl [(9,[0])] rfl ?_
   cbv
   refine stepD (enr rfl hg rfl rfl hPl id rfl ⟨rfl,rfl,rfl,trivial⟩ (fun _ _ _ h=>h) (by simp[bd,bdL,ws,lst])) ?_
   cbv
   refine step_app_nil (hP▸tblOk) hg rfl rfl (show tyT 163=some _ from rfl) rfl (show tyT 35=some _ from rfl) bPt (by decide) rfl (show ev _ _=some (.slice 8 0 1 1)from rfl) (show find _ 8=some _ from rfl) (by exact Nat.le_refl 19) (by decide) (by decide) (by decide) ?_
   intro c' W hW hc1 hc2 hWl hWb
   have hWb:∀m,bdLB m W=true:=fun m=>hWb m rfl rfl
   have hWT:TabC k Q 1 W:=by
    have:=TabC.app (C:=[]) (c:=0) (n:=0) (tail:=rep (c'-1) (ptS (fun _=>0) (fun _=>0) false)) (fun i h=>absurd h (Nat.not_lt_zero i)) rfl (Nat.le_refl 0) hpt
    rw[hW];exact this
   cbv
   refine cro rfl hg rfl rfl hSum id rfl ⟨rfl,rfl,rfl,trivial⟩ ?_
   rintro _ _ _ rfl
   refine⟨by simp[bd,bdL,ws,lst],by simp[bd,bdL,ren,renL,ws,lst],?_⟩
   cbv
   rw[f3 0 hlt]
   refine⟨(1,X',Y',Z',W,c',.slice 7 0 1 c',[⟨7,W,35⟩]),fun l=>if l=7 then 9 else l,⟨hlt,ht',Or.inr ⟨rfl,rfl,hc1,hWl,hc2⟩,hWT,hWb⟩,(by show N-1<N-0;omega),?_⟩
   exact wkr (by repeat' (first|exact trivial|refine⟨rfl,rfl,?_⟩)) ⟨rfl,rfl,rfl,rfl,rfl,rfl,rfl,rfl,rfl,rfl,rfl,rfl,rfl,rfl,rfl,rfl,rfl,rfl,rfl,rfl,rfl,rfl,rfl,rfl,by rw[rcl W (hWb 0)];rfl,rfl,rfl,hWb 8,trivial⟩ rfl rfl rfl
  ·cbv
   rw[f1 i hlt]
   cbv
   refine reg_cA (hP▸tblOk) hA hg (hP▸mixed) rfl rfl [(9,[0])] rfl ?_
   cbv
   refine stepD (enr rfl hg rfl rfl hPl id rfl ⟨rfl,rfl,rfl,trivial⟩ (fun _ _ _ h=>h) (by simp[bd,bdL,ws,lst])) ?_
   cbv
   refine step_app_own (hP▸tblOk) hg rfl rfl (show tyT 163=some _ from rfl) rfl (show tyT 35=some _ from rfl) bPt (by decide) (show ev _ _=some (.slice 7 0 i c)from rfl) (show find _ 7=some _ from rfl) rfl hic hCl hc (show ev _ _=some (.slice 8 0 1 1)from rfl) (show find _ 8=some _ from rfl) (by exact Nat.le_refl 19) rfl (by simp only[maxLen];omega) (by omega) ?_
   intro c' tail W i1 hW hi1 h1 h2 hWl hWb
   have hWb:∀m,bdLB m W=true:=fun m=>hWb m (hb m) rfl rfl
   have f3i:bin .add .i64 (.ofNat i) 1=Int.ofNat i1:=by rw[hi1];exact f3 i hlt
   have hWT:TabC k Q i1 W:=by rw[hW,hi1];exact TabC.app (tail:=tail) hT hCl hic hpt
   have ht':TrW k (EC.smul EC.finv (EC.ca k) i1 Q) X' Y' Z':=by rw[hi1];exact ht'
   cbv
   refine cro rfl hg rfl rfl hSum id rfl ⟨rfl,rfl,rfl,trivial⟩ ?_
   rintro _ _ _ rfl
   refine⟨by simp[bd,bdL,ws,lst],by simp[bd,bdL,ren,renL,ws,lst],?_⟩
   cbv
   rw[f3i]
   refine⟨(i1,X',Y',Z',W,c',.slice 7 0 i1 c',[⟨7,W,35⟩]),fun l=>if l=7 then 9 else l,⟨by show i1<=N;omega,ht',Or.inr ⟨rfl,rfl,h1,hWl,h2⟩,hWT,hWb⟩,(by show N-i1<N-i;omega),?_⟩
   exact wkr (by repeat' (first|exact trivial|refine⟨rfl,rfl,?_⟩)) ⟨rfl,rfl,rfl,rfl,rfl,rfl,rfl,rfl,rfl,rfl,rfl,rfl,rfl,rfl,rfl,rfl,rfl,rfl,rfl,rfl,rfl,rfl,rfl,rfl,by rw[rcl W (hWb 0)];rfl,rfl,rfl,hWb 8,trivial⟩ rfl rfl rfl
 ·obtain rfl:i=N:=by omega
  rcases hR with⟨rfl,rfl,rfl⟩|⟨rfl,rfl,hic,hCl,hc⟩
  ·omega
  cbv
  rw[f2]
  cbv
  exact hK _ _ _ ⟨c,C,rfl,rfl,rfl,rfl,rfl,rfl,rfl,hic,hCl,hT,hb⟩
theorem cTabOf{P:Program}(hP:P=Tryz.prog)(hD:Dv p d m s1){Q:EC.Pt (EC.cp k)}(o:EC.OnC (EC.ca k) (EC.cb k) Q){x y:Nat->Nat}{inf:Bool}(hQ:PtW k Q x y inf)(N:Nat)(hN:1<=N/\N<=1000):
 Con P 66 [.ptr 0 0,.agg (ws x 9++ws y 9++[.bool inf]),.int .i64 (.ofNat N)] (cvB k p a b n gx gy th d m s1 bits size leg) 3 [] (fun v L q=>∃c C,v= .ptr 3 0/\L=cvB k p a b n gx gy th d m s1 bits size leg++[⟨3,[.slice 4 0 N c],165⟩,⟨4,C,35⟩]/\q=5/\N<=c/\C.length=c*19/\TabC k Q N C/\∀m,bdLB m C=true):=by
 refine(cTabOfL hk hC hP hD o hQ N hN).weak fun v L q ⟨c,C,h1,h2,h3,h4,h5,h6,h7,h8,h9,h10,h11⟩=>⟨fun l=>if l=3 then 4 else if l=4 then 7 else l,.ptr 3 0,_,5,?_,c,C,rfl,rfl,rfl,h8,h9,h10,h11⟩
 subst h1 h7
 exact wkr ⟨rfl,rfl,trivial⟩ ⟨h4,rfl,rfl,rfl,h5,rfl,rfl,rfl,h6,rfl,rfl,rfl,h2,rfl,rfl,rfl,(by rw[rcl C (h11 0)];exact h3),rfl,rfl,h11 5,trivial⟩ rfl rfl rfl
end
theorem cIndexN'{P:Program}(hP:P=Tryz.prog)(i:Int):Con P 122 [.nilp,.int .i64 i] [] 0 [] (fun v _ _=>v= .int .i64 1):=by
 refine cof hP Tryz.func122 (bdb _ rfl) (bkb rfl) ?_
 intro A g K hA hg hK
 cases A
 cbv
 exact hK _ _ _ rfl
theorem cPickN{P:Program}(hP:P=Tryz.prog){k:Nat}{Q:EC.Pt (EC.cp k)}{N c:Nat}{C:List SV}(hN:N<=c)(hN1:N<=1000)(hl:C.length=c*19)(hT:TabC k Q N C)(hb:∀m,bdLB m C=true)(i:Nat)(hi:i<N):
 ∃X Y inf,PtW k (EC.smul EC.finv (EC.ca k) i Q) X Y inf/\Con P 94 [.ptr 0 0,.nilp,.int .i64 (.ofNat i)] [⟨0,[.slice 1 0 N c],165⟩,⟨1,C,35⟩] 2 [] (fun v _ _=>v= .tup [.agg (ptS X Y inf),.int .i64 0]):=by
 obtain⟨fX,fY,fI,hf⟩:∃ (fX fY:Nat->Nat->Nat) (fI:Nat->Bool),∀j,j<N->PtW k (EC.smul EC.finv (EC.ca k) j Q) (fX j) (fY j) (fI j)/\(C.drop (j*19)).take 19=ptS (fX j) (fY j) (fI j):=by
  refine⟨fun j=>if h:j<N then(hT j h).choose else fun _=>0,fun j=>if h:j<N then(hT j h).choose_spec.choose else fun _=>0,fun j=>if h:j<N then(hT j h).choose_spec.choose_spec.choose else false,fun j hj=> ?_⟩
  simp only[dif_pos hj]
  exact(hT j hj).choose_spec.choose_spec.choose_spec
 refine⟨fX i,fY i,fI i,(hf i hi).1,?_⟩
 refine cof hP Tryz.func94 ⟨blq rfl,trivial,trivial,trivial⟩ (by simpa [bdL,bd]using bdb _ (hb 2)) ?_
 intro A g K hA hg hK
 obtain⟨bin,_,cmp,_,cvt,ix,_,_,_,_,_,_,_,_,nat,off,_,_,sub⟩:=A
 have f1:cmp .lss (.ofNat i) 0=false:=lss_f hA (b:=0) (Nat.not_lt_zero i)
 have f2:nat N=Int.ofNat N:=nat_of hA N
 have f3:cmp .geq (.ofNat i) (.ofNat N)=false:=geq_f hA (by omega)
 have f4:∀j,j<N->cmp .lss (.ofNat j) (.ofNat N)=true:=fun j h=>lss_t hA h
 have f5:cmp .lss (.ofNat N) (.ofNat N)=false:=lss_f hA (by omega)
 have f6:∀j,j<N->ix (.ofNat j) N=some j:=fun j h=>ix_of hA h
 have f7:∀j,off 0 j 19=j*19:=fun j=>(off_of hA 0 j 19).trans (by omega)
 have f8:∀j,j<N->sub C (j*19) 19=some (ptS (fX j) (fY j) (fI j)):=fun j h=>sub_cs hA (by rw[hl];omega) (hf j h).2
 have f9:∀j,j<N->cvt .u64 (.ofNat j)=Int.ofNat j:=fun j h=>cvtI hA (fun h=>by cases h) (fun _=>by show j<2^64;omega)
 have f10:∀j,j<N->bin .add .i64 (.ofNat j) 1=Int.ofNat (j+1):=fun j h=>add_of hA (by omega)
 have f11:∀a m:Nat,a<0x10000000000000000->m<0x10000000000000000->bin .and .u64 (.ofNat a) (.ofNat m)=Int.ofNat (a&&&m):=fun a m h1 h2=>andW hA (k:= .u64) rfl h1 h2
 have f12:∀a m:Nat,a<0x10000000000000000->m<0x10000000000000000->bin .or .u64 (.ofNat a) (.ofNat m)=Int.ofNat (a|||m):=fun a m h1 h2=>orW hA (k:= .u64) rfl h1 h2
 simp only[ptS,ws,lst,Nat.reduceAdd,List.cons_append,List.nil_append]at f8
 cbv
 rw[f1]
 cbv
 rw[f2,f3]
 cbv
 rw[f2]
 refine lpb (Nat×(Nat->Nat)×(Nat->Nat)×Nat) (fun s=>s.1<=N/\(s.2.1=if i<s.1 then fX i else fun _=>0)/\(s.2.2.1=if i<s.1 then fY i else fun _=>0)/\s.2.2.2=if i<s.1/\fI i=true then 1 else 0) (fun s=>N-s.1)
  (fun s=> [(36,.int .i64 (.ofNat s.1)),(9,.int .u64 (.ofNat s.2.2.2))]) [0,1,2,6,7,8,34,35] (fun s=> [(3,ws s.2.1 9++ws s.2.2.1 9++[.bool false])]) (0,fun _=>0,fun _=>0,0) ⟨Nat.zero_le _,(if_neg (Nat.not_lt_zero i)).symm,(if_neg (Nat.not_lt_zero i)).symm,(if_neg (fun h=>Nat.not_lt_zero i h.1)).symm⟩ ?_ ?_
 ·exact wkih ⟨rfl,rfl,rfl,rfl,rfl,hb 4,rfl,rfl,rfl,rfl,rfl,rfl,trivial⟩
 rintro⟨j,X,Y,w⟩ ⟨hj,hX,hY,hw⟩
 change j<=N at hj
 change X=if i<j then fX i else fun _=>0 at hX
 change Y=if i<j then fY i else fun _=>0 at hY
 change w=if i<j/\fI i=true then 1 else 0 at hw
 by_cases hlt:j<N
 ·obtain⟨hpj,_⟩:=hf j hlt
  have wX:Wn 9 X:=by rw[hX];split;exact(hf i hi).1.wX;exact w_zero
  have wY:Wn 9 Y:=by rw[hY];split;exact(hf i hi).1.wY;exact w_zero
  obtain⟨m,hm⟩:=exq (mskN (decide (j=i)))
  have hEq:=cMEqual hP j i m (by omega) (by omega) hm
  obtain⟨X',hX'⟩:=exq (if decide (j=i)=true then fX j else X)
  obtain⟨Y',hY'⟩:=exq (if decide (j=i)=true then fY j else Y)
  have hSX:=cSelect hP (decide (j=i)) m hm (fX j) X X' hpj.wX wX hX'
  have hSY:=cSelect hP (decide (j=i)) m hm (fY j) Y Y' hpj.wY wY hY'
  have hIdx:=cIndexN' hP (Int.ofNat j)
  have hml:m<0x10000000000000000:=by rw[hm];cases decide (j=i)<;>decide
  have hwl:w<=1:=by rw[hw];split<;>omega
  obtain⟨b,hbj⟩:=exq (fI j)
  have f8j:=f8 j hlt
  rw[<-hbj]at f8j
  have hX'2:X'=if i<j+1 then fX i else fun _=>0:=by
   rw[hX',hX]
   by_cases h:j=i
   ·rw[if_pos (by simpa using h),if_pos (by omega),h]
   ·rw[if_neg (by simpa using h)]
    by_cases h2:i<j
    ·rw[if_pos h2,if_pos (by omega)]
    ·rw[if_neg h2,if_neg (by omega)]
  have hY'2:Y'=if i<j+1 then fY i else fun _=>0:=by
   rw[hY',hY]
   by_cases h:j=i
   ·rw[if_pos (by simpa using h),if_pos (by omega),h]
   ·rw[if_neg (by simpa using h)]
    by_cases h2:i<j
    ·rw[if_pos h2,if_pos (by omega)]
    ·rw[if_neg h2,if_neg (by omega)]
  obtain⟨na,hna⟩:=exq ((if b=true then 1 else 0)&&&m)
  have hna1:na<=1:=by
   rw[hna]
   cases b with
   |true=>exact Nat.and_le_left
   |false=>exact Nat.le_trans Nat.and_le_left (by decide)
  obtain⟨w',hw'⟩:=exq (w|||na)
  have hw'2:w'=if i<j+1/\fI i=true then 1 else 0:=by
   rw[hw',hna,hw,hm,hbj]
   by_cases h:j=i
   ·subst h
    rw[if_neg (fun h=>Nat.lt_irrefl _ h.1)]
    cases fI j<;>simp[mskN]
   ·rw[decide_eq_false h]
    simp only[mskN,Bool.false_eq_true,if_false,Nat.and_zero,Nat.or_zero]
    by_cases h2:i<j
    ·simp[h2,show i<j+1 by omega]
    ·simp[h2,show ¬i<j+1 by omega]
  have g3:bin .and .u64 (if b=true then 1 else 0) (Int.ofNat m)=Int.ofNat na:=by
   cases b with
   |true=>exact(f11 1 m (by decide) hml).trans (by rw[hna];rfl)
   |false=>exact(f11 0 m (by decide) hml).trans (by rw[hna];rfl)
  have g4:bin .or .u64 (.ofNat w) (.ofNat na)=Int.ofNat w':=(f12 w na (by omega) (by omega)).trans (by rw[hw'])
  clear hX hY hw hw' hna hX' hY' hm
  cbv
  rw[f4 j hlt]
  cbv
  rw[f6 j hlt]
  cbv
  rw[f7 j,f8j]
  cbv
  refine cva rfl hg rfl rfl hIdx ?_
  rintro _ _ _ rfl
  cbv
  rw[f9 j hlt,f9 i hi]
  cbv
  refine cva rfl hg rfl rfl hEq ?_
  rintro _ _ _ rfl
  cbv
  refine rgM hP hA hg fun mk _=> ?_
  cbv
  refine stepD (en_val rfl hg rfl rfl hSX (fun _ _ _ h=>h) (by simp[bd,bdL,ws,lst])) ?_
  cbv
  refine stepD (en_val rfl hg rfl rfl hSY (fun _ _ _ h=>h) (by simp[bd,bdL,ws,lst])) ?_
  cbv
  cases b with
  |true=>
   have g3:bin .and .u64 1 (.ofNat m)=Int.ofNat na:=g3
   cbv
   rw[g3]
   cbv
   rw[g4]
   cbv
   rw[f10 j hlt]
   refine⟨(j+1,X',Y',w'),id,⟨hlt,hX'2,hY'2,hw'2⟩,(by show N-(j+1)<N-j;omega),?_⟩
   exact wkih ⟨rfl,rfl,rfl,rfl,rfl,hb 4,rfl,rfl,rfl,rfl,rfl,rfl,trivial⟩
  |false=>
   have g3:bin .and .u64 0 (.ofNat m)=Int.ofNat na:=g3
   cbv
   rw[g3]
   cbv
   rw[g4]
   cbv
   rw[f10 j hlt]
   refine⟨(j+1,X',Y',w'),id,⟨hlt,hX'2,hY'2,hw'2⟩,(by show N-(j+1)<N-j;omega),?_⟩
   exact wkih ⟨rfl,rfl,rfl,rfl,rfl,hb 4,rfl,rfl,rfl,rfl,rfl,rfl,trivial⟩
 ·obtain rfl:j=N:=by omega
  rw[if_pos hi]at hX hY
  subst hX hY
  have g1:cmp .eql (.ofNat w) 1=fI i:=by
   refine(eqlI hA w 1).trans ?_
   rw[hw]
   cases fI i with
   |true=>rw[if_pos ⟨hi,rfl⟩];rfl
   |false=>rw[if_neg (fun h=>by cases h.2)];rfl
  cbv
  rw[f5]
  cbv
  rw[g1]
  cbv
  exact hK _ _ _ rfl
end Go.Proofs.YtdhmihfefgcbeaaGreat
