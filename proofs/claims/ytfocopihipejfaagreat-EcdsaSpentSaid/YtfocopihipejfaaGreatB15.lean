/-
  This text proves what these texts prove: CeA, CuA, TrA, Gd. Conditions: those of each theorem.
-/
import Derived.Test.YtfocopihipejfaaGreatB14
import Derived.Test.YtfocopihipejfaaGreatB13
set_option maxHeartbeats 8000000
set_option linter.all false
namespace Pr
def PM:List (Nat×Nat×Nat)->Prop
 | []=>True
 |x::l=>ai x.1/\PM l
theorem YQ:∀ {l:List (Nat×Nat×Nat)},PM l->∀x,x∈l->ai x.1
 | [],_,_,h=>by cases h
 |y::l,h,x,hx=>by
  rcases List.mem_cons.1 hx with rfl|hx
  ·exact h.1
  ·exact YQ h.2 x hx
theorem pk{n:Nat}(l:List (Nat×Nat×Nat))(hp:PM l)(h:(decide (2<=n)&&Fz n l 1)=true:=by decide +kernel):ai n:=aoP l (YQ hp) h
theorem tr{n:Nat}(f:Nat)(h:(decide (2<=n)&&Hd n f 2)=true:=by decide +kernel):ai n:=aqV f h
theorem p0:ai 41:=tr 8
theorem p1:ai 19:=tr 6
theorem p2:ai 5:=tr 4
theorem p3:ai 8413201:=pk [(41,0,2),(19,0,2),(5,1,3)] ⟨p0,p1,p2,trivial⟩
theorem p4:ai 252396031:=pk [(8413201,0,2)] ⟨p3,trivial⟩
theorem p5:ai 455827231987:=pk [(252396031,0,2)] ⟨p4,trivial⟩
theorem p6:ai 5933177618131140283:=pk [(455827231987,0,2)] ⟨p5,trivial⟩
theorem p7:ai 0xeebf0a6dd4957747e4d887:=pk [(5933177618131140283,0,2)] ⟨p6,trivial⟩
theorem p8:ai 275729:=tr 527
theorem p9:ai 54251:=tr 234
theorem p10:ai 108341181769254293:=pk [(275729,0,2),(54251,0,2)] ⟨p8,p9,trivial⟩
theorem p11:ai 0xfffffffffffffffffffffffffffffffeffffffffffffffff:=pk [(0xeebf0a6dd4957747e4d887,0,2),(108341181769254293,0,2)] ⟨p7,p10,trivial⟩
theorem p12:ai 274177:=tr 525
theorem p13:ai 65537:=tr 258
theorem p14:ai 641:=tr 27
theorem p15:ai 257:=tr 18
theorem p16:ai 17:=tr 6
theorem OV:ai 3:=tr 3
theorem OW:ai 2:=tr 3
theorem p19:ai 0xffffffffffffffffffffffffffffffff000000000000000000000001:=pk [(274177,0,2),(65537,0,2),(641,0,2),(257,0,2),(17,0,2),(5,0,2),(3,0,2),(2,95,11)] ⟨p12,p13,p14,p15,p16,p2,OV,OW,trivial⟩
theorem p20:ai 704251:=tr 841
theorem p21:ai 78283:=tr 281
theorem p22:ai 46076956964474543:=pk [(704251,0,2),(78283,0,2)] ⟨p20,p21,trivial⟩
theorem p23:ai 3677:=tr 62
theorem p24:ai 197:=tr 16
theorem p25:ai 66417393611:=pk [(3677,0,2),(197,0,2)] ⟨p23,p24,trivial⟩
theorem p26:ai 11290956913871:=pk [(66417393611,0,2)] ⟨p25,trivial⟩
theorem p27:ai 0x22b559b5c816ae00f2378e18df38c5410ed597:=pk [(46076956964474543,0,2),(11290956913871,0,2)] ⟨p22,p26,trivial⟩
theorem p28:ai 0x926d1276e41fae13fdda5f78edb7802a76951509:=pk [(0x22b559b5c816ae00f2378e18df38c5410ed597,0,2)] ⟨p27,trivial⟩
theorem p29:ai 0xffffffff00000001000000000000000000000000ffffffffffffffffffffffff:=pk [(0x926d1276e41fae13fdda5f78edb7802a76951509,0,2)] ⟨p28,trivial⟩
theorem p30:ai 363557:=tr 604
theorem p31:ai 532247449:=pk [(363557,0,2)] ⟨p30,trivial⟩
theorem p32:ai 44925942675193:=pk [(532247449,0,2)] ⟨p31,trivial⟩
theorem p33:ai 0x788dfeed61e9c29d3cf:=pk [(44925942675193,0,2)] ⟨p32,trivial⟩
theorem p34:ai 0x4d6f0fac5c0e3050743c3537:=pk [(0x788dfeed61e9c29d3cf,0,2)] ⟨p33,trivial⟩
theorem p35:ai 0xae39e343cf1fecb5058777bbd:=pk [(0x4d6f0fac5c0e3050743c3537,0,2)] ⟨p34,trivial⟩
theorem p36:ai 0x10556d4e5b6afe30f884b3399b9:=pk [(0xae39e343cf1fecb5058777bbd,0,2)] ⟨p35,trivial⟩
theorem p37:ai 0x4be6ab2c80713e4d5142229baecfe3abc0f:=pk [(0x10556d4e5b6afe30f884b3399b9,0,2)] ⟨p36,trivial⟩
theorem p38:ai 0x8e5080f370d454d0f85c00e3e7c5cae209c3:=pk [(0x4be6ab2c80713e4d5142229baecfe3abc0f,0,2)] ⟨p37,trivial⟩
theorem p39:ai 21407:=tr 148
theorem p40:ai 246608641:=pk [(21407,0,2)] ⟨p39,trivial⟩
theorem p41:ai 881:=tr 31
theorem p42:ai 211:=tr 16
theorem p43:ai 105957871:=pk [(881,0,2),(211,0,2)] ⟨p41,p42,trivial⟩
theorem p44:ai 0x1cb733b306cfe30dd1:=pk [(246608641,0,2),(105957871,0,2)] ⟨p40,p43,trivial⟩
theorem p45:ai 0x23108c4e1b4108ec0ae7f9ac9f118677a6c53e44fd12fcacc07b805145240aae82349d3ce0e376778bd1:=pk [(0x8e5080f370d454d0f85c00e3e7c5cae209c3,0,2),(0x1cb733b306cfe30dd1,0,2)] ⟨p38,p44,trivial⟩
theorem p46:ai 0xfffffffffffffffffffffffffffffffffffffffffffffffffffffffffffffffeffffffff0000000000000000ffffffff:=pk [(0x23108c4e1b4108ec0ae7f9ac9f118677a6c53e44fd12fcacc07b805145240aae82349d3ce0e376778bd1,0,2)] ⟨p45,trivial⟩
theorem p47:ai 2437:=tr 51
theorem p48:ai 7:=tr 4
theorem p49:ai 9211861:=pk [(2437,0,2),(7,0,2)] ⟨p47,p48,trivial⟩
theorem p50:ai 24098228377:=pk [(9211861,0,2)] ⟨p49,trivial⟩
theorem p51:ai 674750394557:=pk [(24098228377,0,2)] ⟨p50,trivial⟩
theorem p52:ai 361725589517273017:=pk [(674750394557,0,2)] ⟨p51,trivial⟩
theorem p53:ai 0x8f5b78263ad9207eb2b101:=pk [(361725589517273017,0,3)] ⟨p52,trivial⟩
theorem p54:ai 223:=tr 16
theorem p55:ai 151:=tr 14
theorem p56:ai 8620289:=pk [(223,0,2),(151,0,2)] ⟨p54,p55,trivial⟩
theorem p57:ai 2534364967:=pk [(8620289,0,2)] ⟨p56,trivial⟩
theorem p58:ai 145295143558111:=pk [(2534364967,0,3)] ⟨p57,trivial⟩
theorem p59:ai 23609:=tr 155
theorem p60:ai 1433:=tr 39
theorem p61:ai 108140989558681:=pk [(23609,0,3),(1433,0,3)] ⟨p59,p60,trivial⟩
theorem p62:ai 2995763:=tr 1732
theorem p63:ai 65427463921:=pk [(2995763,0,3)] ⟨p62,trivial⟩
theorem tF:ai 49481:=tr 224
theorem p65:ai 308761441:=pk [(49481,0,3)] ⟨tF,trivial⟩
theorem p66:ai 1381:=tr 39
theorem p67:ai 34110701:=pk [(1381,0,3),(19,0,3)] ⟨p66,p1,trivial⟩
theorem p68:ai 0x1ffffffffffffffffffffffffffffffffffffffffffffffffffffffffffffffffffffffffffffffffffffffffffffffffffffffffffffffffffffffffffffffffff:=pk [(0x8f5b78263ad9207eb2b101,0,3),(145295143558111,0,3),(108140989558681,0,3),(65427463921,0,3),(308761441,0,3),(34110701,0,3)] ⟨p53,p58,p61,p63,p65,p67,trivial⟩
theorem p69:ai 96557:=tr 312
theorem p70:ai 41201:=tr 204
theorem p71:ai 4423:=tr 68
theorem p72:ai 2657:=tr 53
theorem p73:ai 1627:=tr 42
theorem p74:ai 0xc03a94b2d3e64419a05cd8ccbf987069:=pk [(96557,0,2),(41201,0,2),(4423,0,2),(2657,0,2),(1627,0,2)] ⟨p69,p70,p71,p72,p73,trivial⟩
theorem p75:ai 0x1db8260e5e3b460a46a0088fccf6a3a5936d75d89a776d4c0da4f338aafb:=pk [(0xc03a94b2d3e64419a05cd8ccbf987069,0,2)] ⟨p74,trivial⟩
theorem p76:ai 0xfffffffffffffffffffffffffffffffffffffffffffffffffffffffefffffc2f:=pk [(0x1db8260e5e3b460a46a0088fccf6a3a5936d75d89a776d4c0da4f338aafb,0,2)] ⟨p75,trivial⟩
theorem p77:ai 100483:=tr 318
theorem p78:ai 101:=tr 12
theorem p79:ai 13355798429:=pk [(100483,0,2),(101,0,2)] ⟨p77,p78,trivial⟩
theorem p80:ai 436529:=tr 662
theorem p81:ai 23572567:=pk [(436529,0,2)] ⟨p80,trivial⟩
theorem p82:ai 0x70934080e1bc27e24b8541:=pk [(13355798429,0,2),(23572567,0,2)] ⟨p79,p81,trivial⟩
theorem p83:ai 0xe95e4a5f737059dc60dfc7ad95b3d8139515620f:=pk [(0x70934080e1bc27e24b8541,0,2)] ⟨p82,trivial⟩
theorem p84:ai 3257:=tr 59
theorem Vn:ai 311:=tr 19
theorem p86:ai 1942793987:=pk [(3257,0,2),(311,0,2)] ⟨p84,Vn,trivial⟩
theorem p87:ai 273564821309471:=pk [(1942793987,0,2)] ⟨p86,trivial⟩
theorem p88:ai 0xfb651b85c2352297:=pk [(273564821309471,0,2)] ⟨p87,trivial⟩
theorem p89:ai 0x164ee356b911460f453c9:=pk [(0xfb651b85c2352297,0,2)] ⟨p88,trivial⟩
theorem p90:ai 0x282bbb656ae74923ec6cf4dc38bd7:=pk [(0x164ee356b911460f453c9,0,2)] ⟨p89,trivial⟩
theorem p91:ai 0xd7c134aa264366862a18302575d1d787b09f075797da89f57ec8c0ff:=pk [(0x282bbb656ae74923ec6cf4dc38bd7,0,2)] ⟨p90,trivial⟩
theorem p92:ai 3686357:=tr 1921
theorem p93:ai 719569513687:=pk [(3686357,0,2)] ⟨p92,trivial⟩
theorem p94:ai 22709:=tr 152
theorem p95:ai 2851:=tr 55
theorem p96:ai 151499460061:=pk [(22709,0,2),(2851,0,2)] ⟨p94,p95,trivial⟩
theorem p97:ai 0x9930558227c1870a00a3ae5816ffd:=pk [(719569513687,0,2),(151499460061,0,2)] ⟨p93,p96,trivial⟩
theorem p98:ai 0x7cc3aeda56fd8a352a6917bb1493dfca71ed8f71d3143f07:=pk [(0x9930558227c1870a00a3ae5816ffd,0,2)] ⟨p97,trivial⟩
theorem p99:ai 0xa9fb57dba1eea9bc3e660a909d838d726e3bf623d52620282013481d1f6e5377:=pk [(0x7cc3aeda56fd8a352a6917bb1493dfca71ed8f71d3143f07,0,2)] ⟨p98,trivial⟩
theorem amd:ai 577:=tr 26
theorem ac3:ai 227:=tr 17
theorem ame:ai 301251701:=pk [(577,0,2),(227,0,2)] ⟨amd,ac3,trivial⟩
theorem amf:ai 31:=tr 7
theorem ac4:ai 23:=tr 6
theorem amg:ai 13:=tr 5
theorem amh:ai 6747833:=pk [(31,0,2),(23,0,2),(13,1,3)] ⟨amf,ac4,amg,trivial⟩
theorem ami:ai 0x1880fc2b19ab47ac9d5d:=pk [(301251701,0,2),(6747833,0,2)] ⟨ame,amh,trivial⟩
theorem amj:ai 6947:=tr 85
theorem amk:ai 3943:=tr 64
theorem aml:ai 547948229735387969:=pk [(6947,0,2),(3943,0,2),(2,5,3)] ⟨amj,amk,OW,trivial⟩
theorem amm:ai 0x59c370170d9ec28aa8de489e1331b173fc9315aea611d6904cd07:=pk [(0x1880fc2b19ab47ac9d5d,0,2),(547948229735387969,0,2)] ⟨ami,aml,trivial⟩
theorem amn:ai 0xd35e472036bc4fb7e13c785ed201e065f98fcfa6f6f40def4f92b9ec7893ec28fcd412b1f1b32e27:=pk [(0x59c370170d9ec28aa8de489e1331b173fc9315aea611d6904cd07,0,2)] ⟨amm,trivial⟩
theorem amo:ai 89:=tr 11
theorem amp:ai 67:=tr 10
theorem amq:ai 2663886769:=pk [(227,0,2),(89,0,2),(67,0,2)] ⟨ac3,amo,amp,trivial⟩
theorem amr:ai 7057776167979264311:=pk [(2663886769,0,2)] ⟨amq,trivial⟩
theorem ams:ai 0x1d4f0f87fc334342460a1176af693:=pk [(7057776167979264311,0,2)] ⟨amr,trivial⟩
theorem amt:ai 337:=tr 20
theorem amu:ai 71:=tr 10
theorem amv:ai 123606883:=pk [(337,0,2),(71,0,2)] ⟨amt,amu,trivial⟩
theorem amw:ai 13843970897:=pk [(123606883,0,2)] ⟨amv,trivial⟩
theorem amx:ai 8076987940436711:=pk [(13843970897,0,2)] ⟨amw,trivial⟩
theorem amy:ai 726928914639303991:=pk [(8076987940436711,0,2)] ⟨amx,trivial⟩
theorem amz:ai 0xa1b3b6a753d00db5489c3b9c43:=pk [(726928914639303991,0,2)] ⟨amy,trivial⟩
theorem amA:ai 0x7d7ced7e4dc447e8fca489418faeeb1ef5d7014d16ebf66f41e144030fbd1:=pk [(0x1d4f0f87fc334342460a1176af693,0,2),(0xa1b3b6a753d00db5489c3b9c43,0,2)] ⟨ams,amz,trivial⟩
theorem amB:ai 0x8cb91e82a3386d280f5d6f7e50e641df152f7109ed5456b412b1da197fb71123acd3a729901d1a71874700133107ec53:=pk [(0x7d7ced7e4dc447e8fca489418faeeb1ef5d7014d16ebf66f41e144030fbd1,0,2)] ⟨amA,trivial⟩
theorem amC:ai 4188433:=tr 2048
theorem amD:ai 20020709741:=pk [(4188433,0,2)] ⟨amC,trivial⟩
theorem amE:ai 400414194821:=pk [(20020709741,0,2)] ⟨amD,trivial⟩
theorem amF:ai 31232307196039:=pk [(400414194821,0,2)] ⟨amE,trivial⟩
theorem amG:ai 4684846079405851:=pk [(31232307196039,0,2)] ⟨amF,trivial⟩
theorem amH:ai 37657:=tr 196
theorem amI:ai 15511:=tr 126
theorem amJ:ai 2234757903503:=pk [(37657,0,2),(15511,0,2)] ⟨amH,amI,trivial⟩
theorem amK:ai 0x27065965645ed16dd4ecc6c26a05a8d16ee9378ebf:=pk [(4684846079405851,0,2),(2234757903503,0,2)] ⟨amG,amJ,trivial⟩
theorem amL:ai 0x2d452877a59e8d090f1dd4e28157f164e31698c5a19c92d0cf8e217:=pk [(0x27065965645ed16dd4ecc6c26a05a8d16ee9378ebf,0,2)] ⟨amK,trivial⟩
theorem amM:ai 0x76e448c63ff299b2def117691dba7c2d4327e83aec1cffc93eb7d602823abe19f4bf1ab:=pk [(0x2d452877a59e8d090f1dd4e28157f164e31698c5a19c92d0cf8e217,0,2)] ⟨amL,trivial⟩
theorem amN:ai 0xaadd9db8dbe9c48b3fd4e6ae33c9fc07cb308db3b3c9d20ed6639cca703308717d4d9b009bc66842aecda12ae6a380e62881ff2f2d82c68528aa6056583a48f3:=pk [(0x76e448c63ff299b2def117691dba7c2d4327e83aec1cffc93eb7d602823abe19f4bf1ab,0,2)] ⟨amM,trivial⟩
theorem amO:ai 251:=tr 17
theorem amP:ai 241:=tr 17
theorem ac5:ai 239:=tr 17
theorem amQ:ai 51419:=tr 228
theorem amR:ai 4127:=tr 66
theorem amS:ai 7532705587894727:=pk [(51419,0,2),(4127,0,2)] ⟨amQ,amR,trivial⟩
theorem amT:ai 0xb186bf71c774922768ebedf:=pk [(7532705587894727,0,2)] ⟨amS,trivial⟩
theorem amU:ai 54623:=tr 235
theorem amV:ai 7244839476697597:=pk [(54623,0,2),(239,0,2),(3,0,2),(2,1,2)] ⟨amU,ac5,OV,OW,trivial⟩
theorem amW:ai 0x7e966779a05e328ce6915:=pk [(7244839476697597,0,2)] ⟨amV,trivial⟩
theorem amX:ai 0xffffffffffffffffffffffff99def836146bc9b1b4d22831:=pk [(0xb186bf71c774922768ebedf,0,2),(0x7e966779a05e328ce6915,0,2)] ⟨amT,amW,trivial⟩
theorem amY:ai 10909:=tr 106
theorem amZ:ai 11105363:=pk [(10909,0,2)] ⟨amY,trivial⟩
theorem am0:ai 821796863:=pk [(11105363,0,2)] ⟨amZ,trivial⟩
theorem am1:ai 432621809776543:=pk [(821796863,0,2)] ⟨am0,trivial⟩
theorem am2:ai 0x70d411d89618dbfe3ebdd1:=pk [(432621809776543,0,2)] ⟨am1,trivial⟩
theorem am3:ai 0x1b54cb03ae59ed185e2c4486e75:=pk [(0x70d411d89618dbfe3ebdd1,0,2)] ⟨am2,trivial⟩
theorem am4:ai 0x44f817a026114c922427bc213ae265fafd9:=pk [(0x1b54cb03ae59ed185e2c4486e75,0,2)] ⟨am3,trivial⟩
theorem am5:ai 0x80c63bd8a8b2da59fd7b637139afe83defb38e5bc128c6a53:=pk [(0x44f817a026114c922427bc213ae265fafd9,0,2)] ⟨am4,trivial⟩
theorem am6:ai 0xffffffffffffffffffffffffffff16a2e0b8f03e13dd29455c5c2a3d:=pk [(0x80c63bd8a8b2da59fd7b637139afe83defb38e5bc128c6a53,0,2)] ⟨am5,trivial⟩
theorem am7:ai 3023:=tr 56
theorem am8:ai 127:=tr 13
theorem am9:ai 43:=tr 8
theorem am_:ai 11:=tr 5
theorem am':ai 208150935158385979:=pk [(3023,0,2),(127,0,2),(43,0,2),(11,0,2),(3,0,2)] ⟨am7,am8,am9,am_,OV,trivial⟩
theorem ana:ai 0x87b23e9d09d3e637b2aa341:=pk [(208150935158385979,0,2)] ⟨am',trivial⟩
theorem anb:ai 29:=tr 7
theorem anc:ai 311245691:=pk [(311,0,2),(29,1,2)] ⟨Vn,anb,trivial⟩
theorem ane:ai 622491383:=pk [(311245691,0,2)] ⟨anc,trivial⟩
theorem anf:ai 38189:=tr 197
theorem ang:ai 0xffffffff00000000ffffffffffffffffbce6faada7179e84f3b9cac2fc632551:=pk [(0x87b23e9d09d3e637b2aa341,0,2),(622491383,0,2),(38189,0,2)] ⟨ana,ane,anf,trivial⟩
theorem anh:ai 421:=tr 22
theorem ani:ai 233:=tr 17
theorem anj:ai 272109983:=pk [(421,0,2),(233,0,2)] ⟨anh,ani,trivial⟩
theorem ank:ai 228572385721:=pk [(272109983,0,2)] ⟨anj,trivial⟩
theorem anl:ai 23314383343543:=pk [(228572385721,0,2)] ⟨ank,trivial⟩
theorem anm:ai 0x1720b72947fc8b45d9:=pk [(23314383343543,0,2)] ⟨anl,trivial⟩
theorem ann:ai 0x4d4ccc69f97d91fa4d43bdf:=pk [(0x1720b72947fc8b45d9,0,2)] ⟨anm,trivial⟩
theorem ano:ai 0x39f9994f7b1e2d7bb9f2ce75:=pk [(0x4d4ccc69f97d91fa4d43bdf,0,2)] ⟨ann,trivial⟩
theorem anp:ai 9863677:=pk [(881,0,2),(311,0,2)] ⟨p41,Vn,trivial⟩
theorem anq:ai 37344768852931:=pk [(9863677,0,2)] ⟨anp,trivial⟩
theorem anr:ai 55942463741690639:=pk [(37344768852931,0,2)] ⟨anq,trivial⟩
theorem ans:ai 0xa8c55f664384d6fe203ca16a45d7238cad2d61237ce2fa5933:=pk [(0x39f9994f7b1e2d7bb9f2ce75,0,2),(55942463741690639,0,2)] ⟨ano,anr,trivial⟩
theorem ant:ai 0x192a43d8f8a55b860e20c52b200024fbdd5c39850b80be9fa08e6156d781713c6b252c7:=pk [(0xa8c55f664384d6fe203ca16a45d7238cad2d61237ce2fa5933,0,2)] ⟨ans,trivial⟩
theorem anu:ai 0xffffffffffffffffffffffffffffffffffffffffffffffffc7634d81f4372ddf581a0db248b0a77aecec196accc52973:=pk [(0x192a43d8f8a55b860e20c52b200024fbdd5c39850b80be9fa08e6156d781713c6b252c7,0,2)] ⟨ant,trivial⟩
theorem anv:ai 13043:=tr 116
theorem anw:ai 3793:=tr 63
theorem anx:ai 34439210165267:=pk [(13043,0,2),(3793,0,2)] ⟨anv,anw,trivial⟩
theorem anz:ai 118913:=tr 346
theorem anA:ai 11923882163:=pk [(118913,0,2)] ⟨anz,trivial⟩
theorem anB:ai 2742492897491:=pk [(11923882163,0,2)] ⟨anA,trivial⟩
theorem anC:ai 0xd748888b866535d8bc5c98d65d00f3:=pk [(34439210165267,0,2),(2742492897491,0,2)] ⟨anx,anB,trivial⟩
theorem anD:ai 0x193899e40ecfe86cbf36c8161eca671cdc9a89dbcce8ffc57:=pk [(0xd748888b866535d8bc5c98d65d00f3,0,2)] ⟨anC,trivial⟩
theorem anE:ai 0x17a51045cde2e9e5f3435b94bcddc0ab0ed0e13e101a6fc9191:=pk [(0x193899e40ecfe86cbf36c8161eca671cdc9a89dbcce8ffc57,0,2)] ⟨anD,trivial⟩
theorem anF:ai 0x7818a54c11e3f4e86c2fe2eea94351d34967fa5fbce9f012ab50665b1a7:=pk [(0x17a51045cde2e9e5f3435b94bcddc0ab0ed0e13e101a6fc9191,0,2)] ⟨anE,trivial⟩
theorem anG:ai 0x18c61e9d6f5364020bfb6e04363013a05dc6efa02ece541f304622ec35a464bdcd07d18a2ce4ee8b39c6438bdbf:=EC.alz 11 0x7818a54c11e3f4e86c2fe2eea94351d34967fa5fbce9f012ab50665b1a7 0x4f46c85e310ad9a02657c673e099d867927c9866fc2dd9fd6746d627120e0f2c29b29e86f60fc823ec140b5925 0x4f46c85e310ad9a02657c673e099d867927c9866fc2dd9fd6746d627120e0f2c29b29e86f60fc823ec140b5926 anF (by decide +kernel)
theorem anH:ai 0x5bc065010a97a162f78b610a077bb97b53886bb266481d591d2d02fd6aa2bf7392c391499b2d8f744518c799a7c35911a7:=pk [(0x18c61e9d6f5364020bfb6e04363013a05dc6efa02ece541f304622ec35a464bdcd07d18a2ce4ee8b39c6438bdbf,0,2)] ⟨anG,trivial⟩
theorem anI:ai 0x1fffffffffffffffffffffffffffffffffffffffffffffffffffffffffffffffffa51868783bf2f966b7fcc0148f709a5d03bb5c9b8899c47aebb6fb71e91386409:=pk [(0x5bc065010a97a162f78b610a077bb97b53886bb266481d591d2d02fd6aa2bf7392c391499b2d8f744518c799a7c35911a7,0,2)] ⟨anH,trivial⟩
theorem anJ:ai 1627771:=tr 1277
theorem anK:ai 297159362677:=pk [(1627771,0,2)] ⟨anJ,trivial⟩
theorem anL:ai 28181:=tr 169
theorem anM:ai 545358713:=pk [(28181,0,2)] ⟨anL,trivial⟩
theorem anN:ai 0x5ddb9f12ef6348a3e23ba5e3:=pk [(297159362677,0,2),(545358713,0,2)] ⟨anK,anM,trivial⟩
theorem anO:ai 0x10dbff26eab8198050172ee03275:=pk [(0x5ddb9f12ef6348a3e23ba5e3,0,2)] ⟨anN,trivial⟩
theorem anP:ai 120233:=tr 348
theorem anQ:ai 4051:=tr 65
theorem ac6:ai 59:=tr 9
theorem anR:ai 0x978c6f353c3889a79:=pk [(120233,0,2),(4051,0,2),(59,0,2)] ⟨anP,anQ,ac6,trivial⟩
theorem anS:ai 0xfffffffffffffffffffffffffffffffebaaedce6af48a03bbfd25e8cd0364141:=pk [(0x10dbff26eab8198050172ee03275,0,2),(0x978c6f353c3889a79,0,2)] ⟨anO,anR,trivial⟩
theorem anT:ai 23561:=tr 155
theorem anU:ai 623188451:=pk [(23561,0,2),(23,1,2)] ⟨anT,ac4,trivial⟩
theorem anV:ai 2465333512157:=pk [(623188451,0,2)] ⟨anU,trivial⟩
theorem anW:ai 513157:=tr 718
theorem anX:ai 181657579:=pk [(513157,0,2)] ⟨anW,trivial⟩
theorem anY:ai 72663031601:=pk [(181657579,0,2)] ⟨anX,trivial⟩
theorem anZ:ai 3244753:=tr 1803
theorem an0:ai 0xe95e4a5f737059dc60df5991d45029409e60fc09:=pk [(2465333512157,0,2),(72663031601,0,2),(3244753,0,2)] ⟨anV,anY,anZ,trivial⟩
theorem an1:ai 440717:=tr 665
theorem an2:ai 37901663:=pk [(440717,0,2)] ⟨an1,trivial⟩
theorem an3:ai 73831150867459:=pk [(37901663,0,2)] ⟨an2,trivial⟩
theorem an4:ai 0x29b277c7ea3cfd1e0d3a47b:=pk [(73831150867459,0,2)] ⟨an3,trivial⟩
theorem an5:ai 0x1a0f8adcf2661e32c8446ccf:=pk [(0x29b277c7ea3cfd1e0d3a47b,0,2)] ⟨an4,trivial⟩
theorem an6:ai 0xc6b682d4b84aa6433709bdaa7:=pk [(0x1a0f8adcf2661e32c8446ccf,0,2)] ⟨an5,trivial⟩
theorem an7:ai 0x36981842a14821a973ac32496c7224175:=pk [(0xc6b682d4b84aa6433709bdaa7,0,2)] ⟨an6,trivial⟩
theorem an8:ai 0x15cb7c2acf333e6cb3440e230cf50edfac7d6897b:=pk [(0x36981842a14821a973ac32496c7224175,0,2)] ⟨an7,trivial⟩
theorem an9:ai 0x35360ff2b80cad431f9779ded196af7ff46e2d73c641c8e9b767f9:=pk [(0x15cb7c2acf333e6cb3440e230cf50edfac7d6897b,0,2)] ⟨an8,trivial⟩
theorem an_:ai 0xd7c134aa264366862a18302575d0fb98d116bc4b6ddebca3a5a7939f:=pk [(0x35360ff2b80cad431f9779ded196af7ff46e2d73c641c8e9b767f9,0,2)] ⟨an9,trivial⟩
theorem an':ai 50123:=tr 225
theorem aoa:ai 41802583:=pk [(50123,0,2)] ⟨an',trivial⟩
theorem aob:ai 1674656872585139:=pk [(41802583,0,2)] ⟨aoa,trivial⟩
theorem aoc:ai 0x9d8a713e188c192e9ca5e9:=pk [(1674656872585139,0,2)] ⟨aob,trivial⟩
theorem aod:ai 0x140b38decf9587c8ef4f700ed3dcb3ccf611f75d:=pk [(0x9d8a713e188c192e9ca5e9,0,2)] ⟨aoc,trivial⟩
theorem aoe:ai 0x97184e188ff096e0377725d5e1587dba43c1509184c8946a47372957a2eaf7b:=pk [(0x140b38decf9587c8ef4f700ed3dcb3ccf611f75d,0,2)] ⟨aod,trivial⟩
theorem aof:ai 0xa9fb57dba1eea9bc3e660a909d838d718c397aa3b561a6f7901e0e82974856a7:=pk [(0x97184e188ff096e0377725d5e1587dba43c1509184c8946a47372957a2eaf7b,0,2)] ⟨aoe,trivial⟩
theorem aog:ai 44029:=tr 211
theorem aoh:ai 1872641429:=pk [(44029,0,2)] ⟨aog,trivial⟩
theorem aoi:ai 23713516839944203:=pk [(1872641429,0,2)] ⟨aoh,trivial⟩
theorem aoj:ai 174197:=tr 419
theorem aok:ai 39251:=tr 200
theorem aol:ai 205122193411:=pk [(174197,0,2),(39251,0,2)] ⟨aoj,aok,trivial⟩
theorem aom:ai 4161929304309191:=pk [(205122193411,0,2)] ⟨aol,trivial⟩
theorem aon:ai 0x9f4874bc41f2fdb63033910fd5d702829081d89:=pk [(23713516839944203,0,2),(4161929304309191,0,2)] ⟨aoi,aom,trivial⟩
theorem aoo:ai 0xd35f3a55f84e683adb4227a56fb89f1088637339c8f29ef6b53d13b06c945:=pk [(0x9f4874bc41f2fdb63033910fd5d702829081d89,0,2)] ⟨aon,trivial⟩
theorem aop:ai 0x277aa8a57aa006bc2d57f2a33ccf5d60c3e2aa77db6815439d572e5659c8b2821848ff:=pk [(0xd35f3a55f84e683adb4227a56fb89f1088637339c8f29ef6b53d13b06c945,0,2)] ⟨aoo,trivial⟩
theorem aoq:ai 0xd35e472036bc4fb7e13c785ed201e065f98fcfa5b68f12a32d482ec7ee8658e98691555b44c59311:=pk [(0x277aa8a57aa006bc2d57f2a33ccf5d60c3e2aa77db6815439d572e5659c8b2821848ff,0,2)] ⟨aop,trivial⟩
theorem aor:ai 9341:=tr 98
theorem aos:ai 1049:=tr 34
theorem aot:ai 49393939847159:=pk [(9341,0,2),(1049,0,2)] ⟨aor,aos,trivial⟩
theorem aou:ai 103:=tr 12
theorem aov:ai 11594917:=pk [(103,0,2),(59,0,2)] ⟨aou,ac6,trivial⟩
theorem aow:ai 1093:=tr 35
theorem aox:ai 0x7d0f022c4877a25d14a02162553b1d77828b73:=pk [(49393939847159,0,2),(11594917,0,2),(1093,0,2)] ⟨aot,aov,aow,trivial⟩
theorem aoy:ai 0x6fe82d0c4c922226198454a994922dc5efcb38d99536f:=pk [(0x7d0f022c4877a25d14a02162553b1d77828b73,0,2)] ⟨aox,trivial⟩
theorem aoz:ai 0x3809cdb2a6204bdd7ba9556dcd0a4aa9a842b6daf47a47bf5ded:=pk [(0x6fe82d0c4c922226198454a994922dc5efcb38d99536f,0,2)] ⟨aoy,trivial⟩
theorem aoA:ai 0x8cb91e82a3386d280f5d6f7e50e641df152f7109ed5456b31f166e6cac0425a7cf3ab6af6b7fc3103b883202e9046565:=pk [(0x3809cdb2a6204bdd7ba9556dcd0a4aa9a842b6daf47a47bf5ded,0,2)] ⟨aoz,trivial⟩
theorem aoB:ai 1171601:=tr 1084
theorem aoC:ai 140592121:=pk [(1171601,0,2)] ⟨aoB,trivial⟩
theorem aoD:ai 6599675343983:=pk [(140592121,0,2)] ⟨aoC,trivial⟩
theorem aoE:ai 0x1e096d7183a3958e7c7e1:=pk [(6599675343983,0,2)] ⟨aoD,trivial⟩
theorem aoF:ai 1288691:=tr 1137
theorem aoG:ai 4289:=tr 67
theorem aoH:ai 0x289b61d54fd4a6008921:=pk [(1288691,0,2),(4289,0,2),(3,0,2),(2,4,5)] ⟨aoF,aoG,OV,OW,trivial⟩
theorem aoI:ai 0x2f50881d86460e435635d27d1dd584311aa1a9ddc9ccd5d30bf01f29:=pk [(0x1e096d7183a3958e7c7e1,0,2),(0x289b61d54fd4a6008921,0,2)] ⟨aoE,aoH,trivial⟩
theorem aoJ:ai 0x2cc0ce4317d34382ceb69ac9a59da805ebfee7cd3b7a4b7ec695df3e047532eda96bb1c592a6a7f:=pk [(0x2f50881d86460e435635d27d1dd584311aa1a9ddc9ccd5d30bf01f29,0,2)] ⟨aoI,trivial⟩
theorem aoK:ai 0xaadd9db8dbe9c48b3fd4e6ae33c9fc07cb308db3b3c9d20ed6639cca70330870553e5c414ca92619418661197fac10471db1d381085ddaddb58796829ca90069:=pk [(0x2cc0ce4317d34382ceb69ac9a59da805ebfee7cd3b7a4b7ec695df3e047532eda96bb1c592a6a7f,0,2)] ⟨aoJ,trivial⟩
theorem aoL:ai 229:=tr 17
theorem ao8:ai 0xfffffffffffffffffffffffffffffffeffffffffffffffff:=p11
theorem aoT:ai 0xffffffffffffffffffffffff99def836146bc9b1b4d22831:=amX
theorem apd:ai 0xffffffffffffffffffffffffffffffff000000000000000000000001:=p19
theorem ao0:ai 0xffffffffffffffffffffffffffff16a2e0b8f03e13dd29455c5c2a3d:=am6
theorem ape:ai 0xffffffff00000001000000000000000000000000ffffffffffffffffffffffff:=p29
theorem ao1:ai 0xffffffff00000000ffffffffffffffffbce6faada7179e84f3b9cac2fc632551:=ang
theorem apf:ai 0xfffffffffffffffffffffffffffffffffffffffffffffffffffffffffffffffeffffffff0000000000000000ffffffff:=p46
theorem ao2:ai 0xffffffffffffffffffffffffffffffffffffffffffffffffc7634d81f4372ddf581a0db248b0a77aecec196accc52973:=anu
theorem apg:ai 0x1ffffffffffffffffffffffffffffffffffffffffffffffffffffffffffffffffffffffffffffffffffffffffffffffffffffffffffffffffffffffffffffffffff:=p68
theorem ao3:ai 0x1fffffffffffffffffffffffffffffffffffffffffffffffffffffffffffffffffa51868783bf2f966b7fcc0148f709a5d03bb5c9b8899c47aebb6fb71e91386409:=anI
theorem aph:ai 0xfffffffffffffffffffffffffffffffffffffffffffffffffffffffefffffc2f:=p76
theorem ao4:ai 0xfffffffffffffffffffffffffffffffebaaedce6af48a03bbfd25e8cd0364141:=anS
theorem api:ai 0xe95e4a5f737059dc60dfc7ad95b3d8139515620f:=p83
theorem ao5:ai 0xe95e4a5f737059dc60df5991d45029409e60fc09:=an0
theorem apj:ai 0xd7c134aa264366862a18302575d1d787b09f075797da89f57ec8c0ff:=p91
theorem ao6:ai 0xd7c134aa264366862a18302575d0fb98d116bc4b6ddebca3a5a7939f:=an_
theorem apk:ai 0xa9fb57dba1eea9bc3e660a909d838d726e3bf623d52620282013481d1f6e5377:=p99
theorem ao7:ai 0xa9fb57dba1eea9bc3e660a909d838d718c397aa3b561a6f7901e0e82974856a7:=aof
theorem ao9:ai 0xd35e472036bc4fb7e13c785ed201e065f98fcfa6f6f40def4f92b9ec7893ec28fcd412b1f1b32e27:=amn
theorem aoU:ai 0xd35e472036bc4fb7e13c785ed201e065f98fcfa5b68f12a32d482ec7ee8658e98691555b44c59311:=aoq
theorem ao_:ai 0x8cb91e82a3386d280f5d6f7e50e641df152f7109ed5456b412b1da197fb71123acd3a729901d1a71874700133107ec53:=amB
theorem aoV:ai 0x8cb91e82a3386d280f5d6f7e50e641df152f7109ed5456b31f166e6cac0425a7cf3ab6af6b7fc3103b883202e9046565:=aoA
theorem ao':ai 0xaadd9db8dbe9c48b3fd4e6ae33c9fc07cb308db3b3c9d20ed6639cca703308717d4d9b009bc66842aecda12ae6a380e62881ff2f2d82c68528aa6056583a48f3:=amN
theorem aoW:ai 0xaadd9db8dbe9c48b3fd4e6ae33c9fc07cb308db3b3c9d20ed6639cca70330870553e5c414ca92619418661197fac10471db1d381085ddaddb58796829ca90069:=aoK
theorem apa:ai 251:=amO
theorem aoX:ai 223:=p54
theorem apb:ai 241:=amP
theorem aoY:ai 211:=p42
theorem apc:ai 239:=ac5
theorem aoZ:ai 229:=aoL
end Pr
section
/-! the curves' numbers;beyond 15 the last one's-/
namespace EC
open Pr
def ia:Nat:=2^521
def cp:Nat->Nat
 |1=>0xfffffffffffffffffffffffffffffffeffffffffffffffff
 |2=>0xffffffffffffffffffffffffffffffff000000000000000000000001
 |3=>0xffffffff00000001000000000000000000000000ffffffffffffffffffffffff
 |4=>0xfffffffffffffffffffffffffffffffffffffffffffffffffffffffffffffffeffffffff0000000000000000ffffffff
 |5=>0x1ffffffffffffffffffffffffffffffffffffffffffffffffffffffffffffffffffffffffffffffffffffffffffffffffffffffffffffffffffffffffffffffffff
 |6=>0xfffffffffffffffffffffffffffffffffffffffffffffffffffffffefffffc2f
 |7=>0xe95e4a5f737059dc60dfc7ad95b3d8139515620f
 |8=>0xd7c134aa264366862a18302575d1d787b09f075797da89f57ec8c0ff
 |9=>0xa9fb57dba1eea9bc3e660a909d838d726e3bf623d52620282013481d1f6e5377
 |10=>0xd35e472036bc4fb7e13c785ed201e065f98fcfa6f6f40def4f92b9ec7893ec28fcd412b1f1b32e27
 |11=>0x8cb91e82a3386d280f5d6f7e50e641df152f7109ed5456b412b1da197fb71123acd3a729901d1a71874700133107ec53
 |12=>0xaadd9db8dbe9c48b3fd4e6ae33c9fc07cb308db3b3c9d20ed6639cca703308717d4d9b009bc66842aecda12ae6a380e62881ff2f2d82c68528aa6056583a48f3
 |13=>251
 |14=>241
 |_=>239
def de:Nat->Nat
 |1=>0xfffffffffffffffffffffffffffffffefffffffffffffffc
 |2=>0xfffffffffffffffffffffffffffffffefffffffffffffffffffffffe
 |3=>0xffffffff00000001000000000000000000000000fffffffffffffffffffffffc
 |4=>0xfffffffffffffffffffffffffffffffffffffffffffffffffffffffffffffffeffffffff0000000000000000fffffffc
 |5=>0x1fffffffffffffffffffffffffffffffffffffffffffffffffffffffffffffffffffffffffffffffffffffffffffffffffffffffffffffffffffffffffffffffffc
 |6=>0
 |7=>0x340e7be2a280eb74e2be61bada745d97e8f7c300
 |8=>0x68a5e62ca9ce6c1c299803a6c1530b514e182ad8b0042a59cad29f43
 |9=>0x7d5a0975fc2c3057eef67530417affe7fb8055c126dc5c6ce94a4b44f330b5d9
 |10=>0x3ee30b568fbab0f883ccebd46d3f3bb8a2a73513f5eb79da66190eb085ffa9f492f375a97d860eb4
 |11=>0x7bc382c63d8c150c3c72080ace05afa0c2bea28e4fb22787139165efba91f90f8aa5814a503ad4eb04a8c7dd22ce2826
 |12=>0x7830a3318b603b89e2327145ac234cc594cbdd8d3df91610a83441caea9863bc2ded5d5aa8253aa10a2ef1c98b9ac8b57f1117a72bf2c7b9e7c1ac4d77fc94ca
 |13=>248
 |14=>0
 |_=>117
def dp:Nat->Nat
 |1=>0x64210519e59c80e70fa7e9ab72243049feb8deecc146b9b1
 |2=>0xb4050a850c04b3abf54132565044b0b7d7bfd8ba270b39432355ffb4
 |3=>0x5ac635d8aa3a93e7b3ebbd55769886bc651d06b0cc53b0f63bce3c3e27d2604b
 |4=>0xb3312fa7e23ee7e4988e056be3f82d19181d9c6efe8141120314088f5013875ac656398d8a2ed19d2a85c8edd3ec2aef
 |5=>0x51953eb9618e1c9a1f929a21a0b68540eea2da725b99b315f3b8b489918ef109e156193951ec7e937b1652c0bd3bb1bf073573df883d2c34f1ef451fd46b503f00
 |6=>7
 |7=>0x1e589a8595423412134faa2dbdec95c8d8675e58
 |8=>0x2580f63ccfe44138870713b1a92369e33e2135d266dbb372386c400b
 |9=>0x26dc5c6ce94a4b44f330b5d9bbd77cbf958416295cf7e1ce6bccdc18ff8c07b6
 |10=>0x520883949dfdbc42d3ad198640688a6fe13f41349554b49acc31dccd884539816f5eb4ac8fb1f1a6
 |11=>0x4a8c7dd22ce28268b39b55416f0447c2fb77de107dcd2a62e880ea53eeb62d57cb4390295dbc9943ab78696fa504c11
 |12=>0x3df91610a83441caea9863bc2ded5d5aa8253aa10a2ef1c98b9ac8b57f1117a72bf2c7b9e7c1ac4d77fc94cadc083e67984050b75ebae5dd2809bd638016f723
 |13=>26
 |14=>13
 |_=>8
def cn:Nat->Nat
 |1=>0xffffffffffffffffffffffff99def836146bc9b1b4d22831
 |2=>0xffffffffffffffffffffffffffff16a2e0b8f03e13dd29455c5c2a3d
 |3=>0xffffffff00000000ffffffffffffffffbce6faada7179e84f3b9cac2fc632551
 |4=>0xffffffffffffffffffffffffffffffffffffffffffffffffc7634d81f4372ddf581a0db248b0a77aecec196accc52973
 |5=>0x1fffffffffffffffffffffffffffffffffffffffffffffffffffffffffffffffffa51868783bf2f966b7fcc0148f709a5d03bb5c9b8899c47aebb6fb71e91386409
 |6=>0xfffffffffffffffffffffffffffffffebaaedce6af48a03bbfd25e8cd0364141
 |7=>0xe95e4a5f737059dc60df5991d45029409e60fc09
 |8=>0xd7c134aa264366862a18302575d0fb98d116bc4b6ddebca3a5a7939f
 |9=>0xa9fb57dba1eea9bc3e660a909d838d718c397aa3b561a6f7901e0e82974856a7
 |10=>0xd35e472036bc4fb7e13c785ed201e065f98fcfa5b68f12a32d482ec7ee8658e98691555b44c59311
 |11=>0x8cb91e82a3386d280f5d6f7e50e641df152f7109ed5456b31f166e6cac0425a7cf3ab6af6b7fc3103b883202e9046565
 |12=>0xaadd9db8dbe9c48b3fd4e6ae33c9fc07cb308db3b3c9d20ed6639cca70330870553e5c414ca92619418661197fac10471db1d381085ddaddb58796829ca90069
 |13=>223
 |14=>211
 |_=>229
def aU:Nat->Nat
 |1=>0x188da80eb03090f67cbf20eb43a18800f4ff0afd82ff1012
 |2=>0xb70e0cbd6bb4bf7f321390b94a03c1d356c21122343280d6115c1d21
 |3=>0x6b17d1f2e12c4247f8bce6e563a440f277037d812deb33a0f4a13945d898c296
 |4=>0xaa87ca22be8b05378eb1c71ef320ad746e1d3b628ba79b9859f741e082542a385502f25dbf55296c3a545e3872760ab7
 |5=>0xc6858e06b70404e9cd9e3ecb662395b4429c648139053fb521f828af606b4d3dbaa14b5e77efe75928fe1dc127a2ffa8de3348b3c1856a429bf97e7e31c2e5bd66
 |6=>0x79be667ef9dcbbac55a06295ce870b07029bfcdb2dce28d959f2815b16f81798
 |7=>0xbed5af16ea3f6a4f62938c4631eb5af7bdbcdbc3
 |8=>0xd9029ad2c7e5cf4340823b2a87dc68c9e4ce3174c1e6efdee12c07d
 |9=>0x8bd2aeb9cb7e57cb2c4b482ffc81b7afb9de27e1e3bd23c23a4453bd9ace3262
 |10=>0x43bd7e9afb53d8b85289bcc48ee5bfe6f20137d10a087eb6e7871e2a10a599c710af8d0d39e20611
 |11=>0x1d1c64f068cf45ffa2a63a81b7c13f6b8847a3e77ef14fe3db7fcafe0cbd10e8e826e03436d646aaef87b2e247d4af1e
 |12=>0x81aee4bdd82ed9645a21322e9c4c6a9385ed9f70b5d916c1b43b62eef4d0098eff3b1f78e2d0d48d50d1687b93b97d5f7c6d5047406a5e688b352209bcb9f822
 |13=>2
 |14=>3
 |_=>0
def cJ:Nat->Nat
 |1=>0x7192b95ffc8da78631011ed6b24cdd573f977a11e794811
 |2=>0xbd376388b5f723fb4c22dfe6cd4375a05a07476444d5819985007e34
 |3=>0x4fe342e2fe1a7f9b8ee7eb4a7c0f9e162bce33576b315ececbb6406837bf51f5
 |4=>0x3617de4a96262c6f5d9e98bf9292dc29f8f41dbd289a147ce9da3113b5f0b8c00a60b1ce1d7e819d7a431d7c90ea0e5f
 |5=>0x11839296a789a3bc0045c8a5fb42c7d1bd998f54449579b446817afbd17273e662c97ee72995ef42640c550b9013fad0761353c7086a272c24088be94769fd16650
 |6=>0x483ada7726a3c4655da4fbfc0e1108a8fd17b448a68554199c47d08ffb10d4b8
 |7=>0x1667cb477a1a8ec338f94741669c976316da6321
 |8=>0x58aa56f772c0726f24c6b89e4ecdac24354b9e99caa3f6d3761402cd
 |9=>0x547ef835c3dac4fd97f8461a14611dc9c27745132ded8e545c1d54c72f046997
 |10=>0x14fdd05545ec1cc8ab4093247f77275e0743ffed117182eaa9c77877aaac6ac7d35245d1692e8ee1
 |11=>0x8abe1d7520f9c2a45cb1eb8e95cfd55262b70b29feec5864e19c054ff99129280e4646217791811142820341263c5315
 |12=>0x7dde385d566332ecc0eabfa9cf7822fdf209f70024a57b1aa000c55b881f8111b2dcde494a5f485e5bca4bd88a2763aed1ca2b2fa8f0540678cd1e0f3ad80892
 |13=>84
 |14=>47
 |_=>41
theorem cases(id:Nat){M:Nat->Prop}(h1:M 1)(h2:M 2)(h3:M 3)(h4:M 4)(h5:M 5)(h6:M 6)(h7:M 7)(h8:M 8)(h9:M 9)(mu:M 10)(ui:M 11)(Bu:M 12)(zQ:M 13)(FM:M 14)(h:∀id,(∀j,j<15->j≠0->id≠j)->M id):M id:=by
 by_cases e1:id=1
 ·exact e1▸h1
 by_cases e2:id=2
 ·exact e2▸h2
 by_cases e3:id=3
 ·exact e3▸h3
 by_cases e4:id=4
 ·exact e4▸h4
 by_cases e5:id=5
 ·exact e5▸h5
 by_cases e6:id=6
 ·exact e6▸h6
 by_cases e7:id=7
 ·exact e7▸h7
 by_cases e8:id=8
 ·exact e8▸h8
 by_cases e9:id=9
 ·exact e9▸h9
 by_cases jT:id=10
 ·exact jT▸mu
 by_cases kP:id=11
 ·exact kP▸ui
 by_cases zJ:id=12
 ·exact zJ▸Bu
 by_cases zK:id=13
 ·exact zK▸zQ
 by_cases zL:id=14
 ·exact zL▸FM
 refine h id fun j h1 h2 e=> ?_
 subst e
 omega
theorem Ij(id:Nat)(h:∀j,j<15->j≠0->id≠j):cp id=cp 15:=by
 unfold cp
 split<;>first|rfl|(exfalso;exact h _ (by decide) (by decide) rfl)
theorem QW(id:Nat)(h:∀j,j<15->j≠0->id≠j):de id=de 15:=by
 unfold de
 split<;>first|rfl|(exfalso;exact h _ (by decide) (by decide) rfl)
theorem QX(id:Nat)(h:∀j,j<15->j≠0->id≠j):dp id=dp 15:=by
 unfold dp
 split<;>first|rfl|(exfalso;exact h _ (by decide) (by decide) rfl)
theorem Q4(id:Nat)(h:∀j,j<15->j≠0->id≠j):cn id=cn 15:=by
 unfold cn
 split<;>first|rfl|(exfalso;exact h _ (by decide) (by decide) rfl)
theorem ZT(id:Nat)(h:∀j,j<15->j≠0->id≠j):aU id=aU 15:=by
 unfold aU
 split<;>first|rfl|(exfalso;exact h _ (by decide) (by decide) rfl)
theorem ZU(id:Nat)(h:∀j,j<15->j≠0->id≠j):cJ id=cJ 15:=by
 unfold cJ
 split<;>first|rfl|(exfalso;exact h _ (by decide) (by decide) rfl)
theorem pI(id:Nat):ai (cp id):=by
 refine cases id (M:=fun id=>ai (cp id)) ao8 apd ape apf apg aph api apj apk ao9 ao_ ao' apa apb fun id h=> ?_
 simp only[Ij id h]
 exact apc
theorem A0(id:Nat):ai (cn id):=by
 refine cases id (M:=fun id=>ai (cn id)) aoT ao0 ao1 ao2 ao3 ao4 ao5 ao6 ao7 aoU aoV aoW aoX aoY fun id h=> ?_
 simp only[Q4 id h]
 exact aoZ
theorem ahd:mY (cp 1) (de 1) (dp 1) ⟨0x7d7d3677298d126e9c139a383a39b775c25f4554658d2119,0xc6aabb3906c7bad6e1a2f11f58cc6d1f359d787aef929d0f,0x44e7df8ddd6646fc8c51e95334aff5eae0cb98a960c2fa6⟩=true:=by decide +kernel
theorem ap':(decide (de 1<cp 1)&&decide (dp 1<cp 1)&&decide (aU 1<cp 1)&&decide (cJ 1<cp 1)&&decide (cn 1<ia)&&decide (cp 1<ia)&&(cJ 1*cJ 1%cp 1==(aU 1*aU 1*aU 1+de 1*aU 1+dp 1)%cp 1))=true:=by decide +kernel
theorem ahk:mY (cp 2) (de 2) (dp 2) ⟨0xbfb0c7416cef2338924950ea297baba9a45a8c19e56d07522bd2dc8,0x2a3b0fc55481fe7547493ed752409b4196872e39038f751a4bfd5d05,0x59a2db6eb892f815d2e402eca1ce1637ec1ed57ee546b67e75d09dcc⟩=true:=by decide +kernel
theorem aqg:(decide (de 2<cp 2)&&decide (dp 2<cp 2)&&decide (aU 2<cp 2)&&decide (cJ 2<cp 2)&&decide (cn 2<ia)&&decide (cp 2<ia)&&(cJ 2*cJ 2%cp 2==(aU 2*aU 2*aU 2+de 2*aU 2+dp 2)%cp 2))=true:=by decide +kernel
theorem ahl:mY (cp 3) (de 3) (dp 3) ⟨0xa969487079f1744798bf0de6fded091b66e9d328eb0645fe5d979d1339b7f47f,0xa4a08891884100c13323460107a8d28eede4387fa3e6e9bfebec9f6d72d0b5cc,0x4cde11cf86cb876cd59cf0115813c55af0ecd3cda667d98bb9a347a56aa74a6d⟩=true:=by decide +kernel
theorem aqh:(decide (de 3<cp 3)&&decide (dp 3<cp 3)&&decide (aU 3<cp 3)&&decide (cJ 3<cp 3)&&decide (cn 3<ia)&&decide (cp 3<ia)&&(cJ 3*cJ 3%cp 3==(aU 3*aU 3*aU 3+de 3*aU 3+dp 3)%cp 3))=true:=by decide +kernel
theorem ahm:mY (cp 4) (de 4) (dp 4) ⟨0x95adec811ebe8d4b9e2b41150d78f91a619189a415583b8f5e01888da3353b61765cde8cd6c12846310c3f0c10aae682,0x3581b884702fb0931c541a5cacefbe3bea864db86e01e048170560418dca3aa8689f246d9d11ccd2e145532dd48491af,0x4efcebfdccd7cb25d1b864228f0c32d3a83ec026134ae4753bdff5d3f1fa20b278b31dc3487beb792024fe436f36b43a⟩=true:=by decide +kernel
theorem aqi:(decide (de 4<cp 4)&&decide (dp 4<cp 4)&&decide (aU 4<cp 4)&&decide (cJ 4<cp 4)&&decide (cn 4<ia)&&decide (cp 4<ia)&&(cJ 4*cJ 4%cp 4==(aU 4*aU 4*aU 4+de 4*aU 4+dp 4)%cp 4))=true:=by decide +kernel
theorem ahn:mY (cp 5) (de 5) (dp 5) ⟨0x19e72e5691af1c1f1d3f2591c5ad09ec28f1c524714ca75db089cdb9151ca2289840d94ce56793c78b66ef3540572cc405cdc465d82e1a6f69d82c27053ff163aa6,0xc15e4c9246ef30c73585fc1a490df170ef8e757f1f37e7a6cde9349746d8493ebb31a91aea6f35b910d943c96ba37d442ea7bb6d45c60ec76150edba53d1fc8264,0x124521c5a63d25338751ea837916053183423f151d92bf4710ef90df9f8ccdf063f99af3ab0f0bd1843a16afc69f16b49b9890c324999f97e8e4650532aea382f92⟩=true:=by decide +kernel
theorem aqj:(decide (de 5<cp 5)&&decide (dp 5<cp 5)&&decide (aU 5<cp 5)&&decide (cJ 5<cp 5)&&decide (cn 5<ia)&&decide (cp 5<ia)&&(cJ 5*cJ 5%cp 5==(aU 5*aU 5*aU 5+de 5*aU 5+dp 5)%cp 5))=true:=by decide +kernel
theorem aho:mY (cp 6) (de 6) (dp 6) ⟨0,0,0x676072c51d36ab00c84deb078e4ba0feef17a1f9626d375046274e4ab01347c8⟩=true:=by decide +kernel
theorem aqk:(decide (de 6<cp 6)&&decide (dp 6<cp 6)&&decide (aU 6<cp 6)&&decide (cJ 6<cp 6)&&decide (cn 6<ia)&&decide (cp 6<ia)&&(cJ 6*cJ 6%cp 6==(aU 6*aU 6*aU 6+de 6*aU 6+dp 6)%cp 6))=true:=by decide +kernel
theorem ahp:mY (cp 7) (de 7) (dp 7) ⟨0x3d9d08576f55c42dfa9477e8ee15f396b6e2acb2,0x4f4e933f714eb8565631b7c17b4cc14bc5e8a08b,0x97bd29178b6ebd95a1fe2cec75e85e9d17838ff9⟩=true:=by decide +kernel
theorem aql:(decide (de 7<cp 7)&&decide (dp 7<cp 7)&&decide (aU 7<cp 7)&&decide (cJ 7<cp 7)&&decide (cn 7<ia)&&decide (cp 7<ia)&&(cJ 7*cJ 7%cp 7==(aU 7*aU 7*aU 7+de 7*aU 7+dp 7)%cp 7))=true:=by decide +kernel
theorem ahq:mY (cp 8) (de 8) (dp 8) ⟨0xc9701dfc517c793cf6187fa3efe7f445f24231a370dfa96c07e851c6,0x162be229f812c8a29387f82011697e601bf7f224b107fdf79d58db42,0x421604fece9a50e6887d36097c0aeb74c3dd108ffdd09985cbe0fc9f⟩=true:=by decide +kernel
theorem aqm:(decide (de 8<cp 8)&&decide (dp 8<cp 8)&&decide (aU 8<cp 8)&&decide (cJ 8<cp 8)&&decide (cn 8<ia)&&decide (cp 8<ia)&&(cJ 8*cJ 8%cp 8==(aU 8*aU 8*aU 8+de 8*aU 8+dp 8)%cp 8))=true:=by decide +kernel
theorem ahr:mY (cp 9) (de 9) (dp 9) ⟨0xbd2b7536d35a263f586e97f7b66e78444e69e617ed01536e0e87bd07853b82d,0x50d896a99b7d30af798989c75e0120eda56c0b7b8e3a43ee036dbb7c8a5aee5c,0x7eaeb74aa0bbf986c92d07761337edfe6c056bfa2312ede766b220ccc85014bc⟩=true:=by decide +kernel
theorem aqn:(decide (de 9<cp 9)&&decide (dp 9<cp 9)&&decide (aU 9<cp 9)&&decide (cJ 9<cp 9)&&decide (cn 9<ia)&&decide (cp 9<ia)&&(cJ 9*cJ 9%cp 9==(aU 9*aU 9*aU 9+de 9*aU 9+dp 9)%cp 9))=true:=by decide +kernel
theorem ahe:mY (cp 10) (de 10) (dp 10) ⟨0xeb9e72d9adda48b26b949645619ff57fee208df6025fda19e856a4c0d350f99a893b544b348ec41,0x56a750c115cc5fa9dfc455646166aed6457a75ae544fe442ed9869f0e0b4d20e4cf64d45ee4d8d65,0x46e12f368d3f0bd35515200fd83bf6393d3c69bc46c5b7221e18cc3b0ba265213f010bfa187fc1e7⟩=true:=by decide +kernel
theorem aqa:(decide (de 10<cp 10)&&decide (dp 10<cp 10)&&decide (aU 10<cp 10)&&decide (cJ 10<cp 10)&&decide (cn 10<ia)&&decide (cp 10<ia)&&(cJ 10*cJ 10%cp 10==(aU 10*aU 10*aU 10+de 10*aU 10+dp 10)%cp 10))=true:=by decide +kernel
theorem ahf:mY (cp 11) (de 11) (dp 11) ⟨0x753e33ecc186afbeefa64e59f179e8a6dbeac3e8a3bc7739c702a93df2c693439f71c84aa569a770e29889c299fc2d7e,0xcd6cd056a09b7673b3952780919d4f92bb7fd75dc4895a74e284f599e026176223ca54f43482f8b537975fed02e5c5e,0x1e2af8294a97582ca47d1c32f928505de4219e1598cee725cef4e033f408e3e3665558c35012ae6225505a39b16771ef⟩=true:=by decide +kernel
theorem aqb:(decide (de 11<cp 11)&&decide (dp 11<cp 11)&&decide (aU 11<cp 11)&&decide (cJ 11<cp 11)&&decide (cn 11<ia)&&decide (cp 11<ia)&&(cJ 11*cJ 11%cp 11==(aU 11*aU 11*aU 11+de 11*aU 11+dp 11)%cp 11))=true:=by decide +kernel
theorem ahg:mY (cp 12) (de 12) (dp 12) ⟨0x226e6a9d72b9d0c81333be32c3e14d3926125dc9b29be01b074450a080a4e3d96158da1e206aef67570ae3a478c44cf4a500324933ca252d4421f98f03ddcf6c,0x678d9172242aec8173fc7b4319a383fd37022aa166a12d1f4f8a188aea35415fdc0b9b5471256e05a4b9dfe861dd519aaddc97d7eabbc4e5eb997a5a459ed81d,0x25d12b049dd7ae9d437ea6e586d49f99aa7d1485916380d99019f452890eaf4e8ef92645516e0ba5b48562aaec5f90a1f2af3521b3691f32ed74e7897aaf9c72⟩=true:=by decide +kernel
theorem aqc:(decide (de 12<cp 12)&&decide (dp 12<cp 12)&&decide (aU 12<cp 12)&&decide (cJ 12<cp 12)&&decide (cn 12<ia)&&decide (cp 12<ia)&&(cJ 12*cJ 12%cp 12==(aU 12*aU 12*aU 12+de 12*aU 12+dp 12)%cp 12))=true:=by decide +kernel
theorem ahh:mY (cp 13) (de 13) (dp 13) ⟨224,220,119⟩=true:=by decide +kernel
theorem aqd:(decide (de 13<cp 13)&&decide (dp 13<cp 13)&&decide (aU 13<cp 13)&&decide (cJ 13<cp 13)&&decide (cn 13<ia)&&decide (cp 13<ia)&&(cJ 13*cJ 13%cp 13==(aU 13*aU 13*aU 13+de 13*aU 13+dp 13)%cp 13))=true:=by decide +kernel
theorem ahi:mY (cp 14) (de 14) (dp 14) ⟨0,0,12⟩=true:=by decide +kernel
theorem aqe:(decide (de 14<cp 14)&&decide (dp 14<cp 14)&&decide (aU 14<cp 14)&&decide (cJ 14<cp 14)&&decide (cn 14<ia)&&decide (cp 14<ia)&&(cJ 14*cJ 14%cp 14==(aU 14*aU 14*aU 14+de 14*aU 14+dp 14)%cp 14))=true:=by decide +kernel
theorem ahj:mY (cp 15) (de 15) (dp 15) ⟨195,117,6⟩=true:=by decide +kernel
theorem aqf:(decide (de 15<cp 15)&&decide (dp 15<cp 15)&&decide (aU 15<cp 15)&&decide (cJ 15<cp 15)&&decide (cn 15<ia)&&decide (cp 15<ia)&&(cJ 15*cJ 15%cp 15==(aU 15*aU 15*aU 15+de 15*aU 15+dp 15)%cp 15))=true:=by decide +kernel
theorem small(id:Nat):(decide (de id<cp id)&&decide (dp id<cp id)&&decide (aU id<cp id)&&decide (cJ id<cp id)&&decide (cn id<ia)&&decide (cp id<ia)&&(cJ id*cJ id%cp id==(aU id*aU id*aU id+de id*aU id+dp id)%cp id))=true:=by
 refine cases id (M:=fun id=>(decide (de id<cp id)&&decide (dp id<cp id)&&decide (aU id<cp id)&&decide (cJ id<cp id)&&decide (cn id<ia)&&decide (cp id<ia)&&(cJ id*cJ id%cp id==(aU id*aU id*aU id+de id*aU id+dp id)%cp id))=true) ap' aqg aqh aqi aqj aqk aql aqm aqn aqa aqb aqc aqd aqe fun id h=> ?_
 simp only[Ij id h,QW id h,QX id h,Q4 id h,ZT id h,ZU id h]
 exact aqf
theorem ahc(id:Nat):∃u,mY (cp id) (de id) (dp id) u=true:=by
 refine cases id (M:=fun id=>∃u,mY (cp id) (de id) (dp id) u=true) ⟨_,ahd⟩ ⟨_,ahk⟩ ⟨_,ahl⟩ ⟨_,ahm⟩ ⟨_,ahn⟩ ⟨_,aho⟩ ⟨_,ahp⟩ ⟨_,ahq⟩ ⟨_,ahr⟩ ⟨_,ahe⟩ ⟨_,ahf⟩ ⟨_,ahg⟩ ⟨_,ahh⟩ ⟨_,ahi⟩ fun id h=> ?_
 simp only[Ij id h,QW id h,QX id h]
 exact⟨_,ahj⟩
instance (id:Nat):NeZero (cp id):=⟨by have:=(pI id).1;omega⟩
def ca(id:Nat):Fin (cp id):=nf (de id)
def cb(id:Nat):Fin (cp id):=nf (dp id)
def G(id:Nat):Pt (cp id):= .A (nf (aU id)) (nf (cJ id))
theorem ZQ(id:Nat):cp id≠2:=by
 refine cases id (M:=fun id=>cp id≠2) (by decide) (by decide) (by decide) (by decide) (by decide) (by decide) (by decide) (by decide) (by decide) (by decide) (by decide) (by decide) (by decide) (by decide) fun id h=> ?_
 rw[Ij id h];decide
theorem nF(id:Nat):Ok (p:=cp id) aN (ca id) (cb id):=by
 have h:=small id
 simp only[dq,qT,vT]at h
 obtain⟨u,hu⟩:=ahc id
 exact al7 (pI id) (ZQ id) (alV (pI id) h.1.1.1.1.1.1 h.1.1.1.1.1.2 hu)
theorem qK(id:Nat):eI (ca id) (cb id) (G id):=by
 have h:=small id
 simp only[dq,qT,vT]at h
 have e:(nf (cJ id*cJ id):Fin (cp id))=nf (aU id*aU id*aU id+de id*aU id+dp id):=by rw[<-iA,h.2,iA]
 simp only[jm,mN]at e
 exact e
end EC
end
section
/-! triples of numbers,for the kernel;n times G-/
namespace EC
open Pr
structure NT where
 X:Nat
 Y:Nat
 Z:Nat
def NT.tr{p:Nat}[NeZero p](t:NT):Tr p:=⟨nf t.X,nf t.Y,nf t.Z⟩
def Cb(p x y:Nat):Nat:=(x+(p-y%p))%p
def EB(p a b3:Nat)(s t:NT):NT:=
 let t0:=s.X*t.X%p
 let t1:=s.Y*t.Y%p
 let t2:=s.Z*t.Z%p
 let t3:=Cb p ((s.X+s.Y)*(t.X+t.Y)) (t0+t1)
 let t4:=Cb p ((s.X+s.Z)*(t.X+t.Z)) (t0+t2)
 let t5:=Cb p ((s.Y+s.Z)*(t.Y+t.Z)) (t1+t2)
 let z:=b3*t2+a*t4
 let x:=Cb p t1 z
 let z:=t1+z
 let y:=x*z
 let t1:=t0+t0+t0
 let t2:=a*t2
 let t4:=b3*t4
 let t1:=t1+t2
 let t2:=a*Cb p t0 t2
 let t4:=t4+t2
 ⟨Cb p (t3*x) (t5*t4),(y+t1*t4)%p,(t5*z+t3*t1)%p⟩
theorem alP{p:Nat}[NeZero p](x y:Nat):(nf (Cb p x y):Fin p)=nf x-nf y:=by
 unfold Cb
 have h:=ax y (vF (HL p))
 rw[iA,mN,KQ (by omega),iA]
 grobner
theorem al1{p:Nat}[NeZero p](a b3:Nat)(s t:NT):(EB p a b3 s t).tr=xG (nf a:Fin p) (nf b3) s.tr t.tr:=by
 simp only[EB,NT.tr,xG,alP,iA,mN,jm]
def GX(p a b3:Nat):Nat->Nat->NT->NT
 |0,_,_=>⟨0,1,0⟩
 |f+1,k,t=>
  let h:=GX p a b3 f (k/2) t
  let d:=EB p a b3 h h
  if k%2=1 then EB p a b3 d t else d
theorem adh{p:Nat}[NeZero p](hp:ai p):pP (NT.tr ⟨0,1,0⟩:Tr p) .O:=by
 refine⟨rfl,rfl,?_⟩
 intro h
 have h1:=aK Fin.val h
 have e:(NT.tr ⟨0,1,0⟩:Tr p).Y=1:=rfl
 rw[e,val_one hp.1,val_zero]at h1
 omega
section
variable {p:Nat}[NeZero p]{a b:Nat}(hp:ai p)(K:Ok (p:=p) aN (nf a) (nf b))
include hp K
omit hp in
theorem acQ{s t:NT}{P Q:Pt p}(h1:eI (nf a) (nf b) P)(h2:eI (nf a) (nf b) Q)(r1:pP s.tr P)(r2:pP t.tr Q):
 pP (EB p a (3*b) s t).tr (add aN (nf a) P Q):=by
 rw[al1]
 have e:(nf (3*b):Fin p)=nf b+nf b+nf b:=by rw[<-mN,<-mN];congr 1;omega
 rw[e]
 exact aem K h1 h2 r1 r2
theorem acR{t:NT}{P:Pt p}(h:eI (nf a) (nf b) P)(r:pP t.tr P):∀f k,k<2^f->pP (GX p a (3*b) f k t).tr (smul aN (nf a) k P)
 |0,k,hk=>by
  have:k=0:=by simpa using hk
  subst this
  exact adh hp
 |f+1,k,hk=>by
  have fq:k/2<2^f:=by rw[br]at hk;omega
  have ih:=acR h r f (k/2) fq
  have on:=nM K h (k/2)
  have d:=acQ K on on ih ih
  rw[<-Lb K h]at d
  unfold GX
  by_cases h1:k%2=1
  ·simp only[aj h1]
   have:=acQ K (nM K h (2*(k/2))) h d r
   have e:k=2*(k/2)+1:=by omega
   rw[e]
   have e2:2*(k/2)+1=2*(k/2)+1:=rfl
   show pP (EB p a (3*b) (EB p a (3*b) (GX p a (3*b) f ((2*(k/2)+1)/2) t) (GX p a (3*b) f ((2*(k/2)+1)/2) t)) t).tr (add aN (nf a) (smul aN (nf a) (2*(k/2)) P) P)
   rw[<-e]
   exact this
  ·simp only[af h1]
   have e:k=2*(k/2):=by omega
   conv=>arg 2;rw[e]
   exact d
end
theorem adl{p:Nat}[NeZero p]{t:NT}{P:Pt p}(r:pP t.tr P)(h:t.Z%p=0):P= .O:=by
 cases P with
 |O=>rfl
 |A x y=>
  exfalso
  apply r.1
  show(nf t.Z:Fin p)=0
  rw[<-iA,h];rfl
theorem apy{p:Nat}[NeZero p](F:Hq p){t:NT}{P:Pt p}(r:pP t.tr P){x y:Nat}(hz:t.Z%p≠0)(hx:x*t.Z%p=t.X%p)(hy:y*t.Z%p=t.Y%p):P= .A (nf x) (nf y):=by
 have uK:(nf t.Z:Fin p)≠0:=by
  intro h
  have h1:=aK Fin.val h
  rw[val_zero]at h1
  exact hz (by simpa [nf,Fin.ofNat]using h1)
 cases P with
 |O=>exact(uK r.2.1).elim
 |A u v=>
  have e1:(nf (x*t.Z):Fin p)=nf t.X:=by rw[<-iA,hx,iA]
  have e2:(nf (y*t.Z):Fin p)=nf t.Y:=by rw[<-iA,hy,iA]
  rw[jm]at e1 e2
  have r2:(nf t.X:Fin p)=u*nf t.Z:=r.2.1
  have r3:(nf t.Y:Fin p)=v*nf t.Z:=r.2.2
  have g1:u=nf x:=cancel F uK (by rw[r2]at e1;clear e2 r3;grobner)
  have g2:v=nf y:=cancel F uK (by rw[r3]at e2;clear e1 r2;grobner)
  rw[g1,g2]
def MG(p a b n x y:Nat):Bool:=(GX p a (3*b) (n.log2+1) n ⟨x,y,1⟩).Z%p==0
theorem adi{p:Nat}[NeZero p](hp:ai p)(x y:Nat):pP (NT.tr ⟨x,y,1⟩:Tr p) (.A (nf x) (nf y)):=by
 have e:(nf 1:Fin p)=1:=rfl
 refine⟨?_,?_,?_⟩
 ·intro h
  have h1:=aK Fin.val h
  have e:(NT.tr ⟨x,y,1⟩:Tr p).Z=1:=rfl
  rw[e,val_one hp.1,val_zero]at h1
  omega
 ·show(nf x:Fin p)=nf x*nf 1
  rw[e];grobner
 ·show(nf y:Fin p)=nf y*nf 1
  rw[e];grobner
theorem ahb(id:Nat)(h:MG (cp id) (de id) (dp id) (cn id) (aU id) (cJ id)=true):smul aN (ca id) (cn id) (G id)= .O:=by
 simp only[MG,vT]at h
 exact adl (acR (pI id) (nF id) (qK id) (adi (pI id) _ _) _ _ HE) h
theorem aha(id:Nat):MG (cp id) (de id) (dp id) (cn id) (aU id) (cJ id)=true:=by
 refine cases id (M:=fun id=>MG (cp id) (de id) (dp id) (cn id) (aU id) (cJ id)=true) (by decide +kernel) (by decide +kernel) (by decide +kernel) (by decide +kernel) (by decide +kernel) (by decide +kernel) (by decide +kernel) (by decide +kernel) (by decide +kernel) (by decide +kernel) (by decide +kernel) (by decide +kernel) (by decide +kernel) (by decide +kernel) fun id h=> ?_
 simp only[Ij id h,QW id h,QX id h,Q4 id h,ZT id h,ZU id h]
 decide +kernel
theorem nG(id:Nat):smul aN (ca id) (cn id) (G id)= .O:=ahb id (aha id)
end EC
end
namespace Go.Proofs.YtfocopihipejfaaGreat
open Go.Vg Go.RowKit
set_option maxRecDepth 200000
set_option cbv.maxSteps 100000000
theorem apV:((List.range 16).all fun k=>k==0||(EC.cp k==f_ k&&EC.de k==sF k&&EC.dp k==o9 k&&EC.cn k==qC k&&EC.aU k==tI k&&EC.cJ k==tJ k))=true:=by decide +kernel
theorem tK{k:Nat}(hk:1<=k/\k<=15):EC.cp k=f_ k/\EC.de k=sF k/\EC.dp k=o9 k/\EC.cn k=qC k/\EC.aU k=tI k/\EC.cJ k=tJ k:=by
 have h:=gf.1 apV k (tQ.2 (by omega))
 have h0:(k==0)=false:=by simp;omega
 simp only[h0,Bb,dq,vT]at h
 obtain⟨⟨⟨⟨⟨h1,h2⟩,h3⟩,h4⟩,h5⟩,h6⟩:=h
 exact⟨h1,h2,h3,h4,h5,h6⟩
section
variable {p:Nat}[NeZero p]
theorem aau:0<p:=vF (HL p)
theorem alN(x y:Nat):(EC.nf (fA p x y):Fin p)=EC.nf x+EC.nf y:=by unfold fA;rw[EC.iA,EC.mN]
theorem alO(x y:Nat):(EC.nf (fM p x y):Fin p)=EC.nf x*EC.nf y:=by unfold fM;rw[EC.iA,EC.jm]
theorem aiB(x y:Nat):fA p x y<=p:=ku (ax _ aau)
theorem aiC(x y:Nat):fM p x y<=p:=ku (ax _ aau)
theorem acL{x y:Nat}(h:y<=p):(EC.nf (fS p x y):Fin p)=EC.nf x-EC.nf y:=by
 unfold fS
 rw[EC.iA,show x+p-y=x+(p-y) by omega,EC.mN,EC.KQ h]
 grobner
theorem aqH{X1 Y1 Z1 X2 Y2 Z2 a th X Y Z:Nat}(h:YH p X1 Y1 Z1 X2 Y2 Z2 a th X Y Z):(EC.NT.tr ⟨X,Y,Z⟩:EC.Tr p)=EC.xG (EC.nf a) (EC.nf th) (EC.NT.tr ⟨X1,Y1,Z1⟩) (EC.NT.tr ⟨X2,Y2,Z2⟩):=by
 obtain⟨r1,r2,r3,r4,r5,r6,r7,r8,r9,uQ,uR,uS,qA,uT,uU,uV,uW,qB,uX,uY,xr,xw,xy,Cf,Cg,Ch,xA,Ci,xB,Cj,Ck,xC,Cl,ED,Cm,Cn,EE,Co,Cp,EF,h1,h2,h3,h4,h5,h6,h7,h8,h9,mu,ui,Bu,zQ,FM,M5,kQ,h17,h18,h19,h20,h21,h22,h23,h24,h25,h26,h27,h28,h29,h30,h31,h32,h33,RG,h35,h36,h37,h38,h39,RH,hX,hY,hZ⟩:=h
 subst h1 h2 h3 h4 h5 h6 h7 h8 h9 mu ui Bu zQ FM M5 kQ h17 h18 h19 h20 h21 h22 h23 h24 h25 h26 h27 h28 h29 h30 h31 h32 h33 RG h35 h36 h37 h38 h39 RH hX hY hZ
 simp only[EC.NT.tr,EC.xG,alN,alO,acL (aiB _ _),acL (aiC _ _)]
end
def qz{p:Nat}:EC.Pt p->Nat
 | .O=>0
 | .A x _=>x.val
def uP{p:Nat}:EC.Pt p->Nat
 | .O=>0
 | .A _ y=>y.val
def uO{p:Nat}:EC.Pt p->Bool
 | .O=>true
 | .A _ _=>false
structure kO(k:Nat)(Q:EC.Pt (EC.cp k))(X Y Z:Nat->Nat):Prop where
 wX:Wn 9 X
 wY:Wn 9 Y
 wZ:Wn 9 Z
 lX:V 9 X<EC.cp k
 lY:V 9 Y<EC.cp k
 lZ:V 9 Z<EC.cp k
 rep:EC.pP (EC.NT.tr ⟨V 9 X,V 9 Y,V 9 Z⟩:EC.Tr (EC.cp k)) Q
structure mW(k:Nat)(Q:EC.Pt (EC.cp k))(X Y:Nat->Nat)(inf:Bool):Prop where
 wX:Wn 9 X
 wY:Wn 9 Y
 vX:V 9 X=qz Q
 vY:V 9 Y=uP Q
 inf:inf=uO Q
theorem y9(k:Nat):0<EC.cp k:=vF (HL _)
theorem K2{k:Nat}(Q:EC.Pt (EC.cp k)):qz Q<EC.cp k:=by cases Q with|O=>exact y9 k|A x y=>exact x.isLt
theorem K3{k:Nat}(Q:EC.Pt (EC.cp k)):uP Q<EC.cp k:=by cases Q with|O=>exact y9 k|A x y=>exact y.isLt
theorem afr{x b n:Nat}(h:ig x b)(hx:x<16^n):b<=4*n:=by
 rcases Nat.lt_or_ge (4*n) b with h1|h1
 ·have h2:=h.2 (by omega)
  have h3:2^(4*n)<=2^(b-1):=cV (by decide) (by omega)
  rw[jS]at h3
  exact absurd hx (vC.2 (eH h3 h2))
 ·exact h1
theorem ahx{k:Nat}(hk:1<=k/\k<=15):EC.cn k<16^144:=by
 have h:((List.range 16).all fun k=>decide (EC.cn k<16^144))=true:=by decide +kernel
 exact KT (gf.1 h k (tQ.2 (by omega)))
theorem pV{k:Nat}(hk:1<=k/\k<=15):EC.cp k<0x10000000000000000^9:=by
 have h:((List.range 16).all fun k=>decide (EC.cp k<0x10000000000000000^9))=true:=by decide +kernel
 exact KT (gf.1 h k (tQ.2 (by omega)))
theorem aiA{k:Nat}(hk:1<=k/\k<=15)(Q:EC.Pt (EC.cp k)):∃X Y,mW k Q X Y (uO Q):=by
 obtain⟨X,h1,h2⟩:=cD 9 (qz Q) (cT (K2 Q) (pV hk))
 obtain⟨Y,h3,h4⟩:=cD 9 (uP Q) (cT (K3 Q) (pV hk))
 exact⟨X,Y,h1,h3,h2,h4,rfl⟩
theorem Lj:V 9 (fun _=>0)=0:=by decide +kernel
theorem Pl:V 9 (fun j=>if j=0 then 1 else 0)=1:=by decide +kernel
theorem Hf:Wn 9 (fun _=>0):=fun _ _=>by show 0<_;decide
theorem aeA:Wn 9 (fun j=>if j=0 then 1 else 0):=fun j _=>by show(if j=0 then 1 else 0)<_;split<;>decide
theorem trO(k:Nat):kO k .O (fun _=>0) (fun j=>if j=0 then 1 else 0) (fun _=>0):=by
 have h2:=(EC.pI k).1
 refine⟨Hf,aeA,Hf,by rw[Lj];exact y9 k,by rw[Pl];omega,by rw[Lj];exact y9 k,?_⟩
 rw[Lj,Pl]
 exact EC.adh (EC.pI k)
def mq(k:Nat)(p a b n gx gy th d:Nat->Nat)(m s bits size:Nat)(leg:Bool):LL:=
 [⟨0,vZ k p a b n gx gy th bits size leg 1,158⟩,⟨1,qa p 2,163⟩,⟨2,jK d m s,275⟩]
section
variable {k:Nat}(hk:1<=k/\k<=15){p a b n gx gy th d:Nat->Nat}{m s bits size:Nat}{leg:Bool}(hC:Cv k p a b n gx gy th bits size)
include hk hC
theorem MK:V 9 p=EC.cp k/\V 9 a=EC.de k/\V 9 a<EC.cp k/\V 9 th<EC.cp k/\(EC.nf (V 9 th):Fin (EC.cp k))=EC.cb k+EC.cb k+EC.cb k:=by
 obtain⟨h1,h2,h3,_⟩:=tK hk
 have hs:=EC.small k
 simp only[dq,qT]at hs
 refine⟨by rw[hC.vp,h1],by rw[hC.va,h2],by rw[hC.va,<-h2];exact hs.1.1.1.1.1.1,?_,?_⟩
 ·rw[hC.vt,<-h1];exact ax _ (y9 k)
 ·rw[hC.vt,<-h1,EC.iA,EC.mN,EC.mN,<-h3];rfl
theorem Bm{P:Program}(hP:P=Tryz.prog)(hD:Dv p d m s){Q1 Q2:EC.Pt (EC.cp k)}(o1:EC.eI (EC.ca k) (EC.cb k) Q1)(o2:EC.eI (EC.ca k) (EC.cb k) Q2){X1 Y1 Z1 X2 Y2 Z2:Nat->Nat}(t1:kO k Q1 X1 Y1 Z1)(t2:kO k Q2 X2 Y2 Z2):
 ∃X Y Z,kO k (EC.add EC.aN (EC.ca k) Q1 Q2) X Y Z/\ah P 118 [.ptr 0 0,.agg (ws X1 9++ws Y1 9++ws Z1 9),.agg (ws X2 9++ws Y2 9++ws Z2 9)] (mq k p a b n gx gy th d m s bits size leg) 3 [] (fun v _ _=>v= .agg (ws X 9++ws Y 9++ws Z 9)):=by
 obtain⟨e1,e2,e3,e4,e5⟩:=MK hk hC
 obtain⟨X,Y,Z,w1,w2,w3,l1,l2,l3,hs,hc⟩:=ag1 hP k p a b n gx gy th X1 Y1 Z1 X2 Y2 Z2 d m s bits size leg hD hC.wp t1.wX (by rw[e1];exact t1.lX) t1.wY (by rw[e1];exact t1.lY) t1.wZ (by rw[e1];exact t1.lZ) t2.wX (by rw[e1];exact t2.lX) t2.wY (by rw[e1];exact t2.lY) t2.wZ (by rw[e1];exact t2.lZ) hC.wa (by rw[e1];exact e3) hC.wt (by rw[e1];exact e4)
 rw[e1]at l1 l2 l3 hs
 refine⟨X,Y,Z,⟨w1,w2,w3,l1,l2,l3,?_⟩,hc⟩
 rw[aqH hs,e5,e2]
 exact EC.aem (EC.nF k) o1 o2 t1.rep t2.rep
omit hC in
theorem QO{P:Program}(hP:P=Tryz.prog):∃X Y Z,kO k .O X Y Z/\ah P 117 [] [] 0 [] (fun v _ _=>v= .agg (ws X 9++ws Y 9++ws Z 9)):=by
 have _:=hk
 exact⟨_,_,_,trO k,Zr hP _ rfl⟩
omit hC in
theorem MD{P:Program}(hP:P=Tryz.prog){Q:EC.Pt (EC.cp k)}{x y:Nat->Nat}{inf:Bool}(h:mW k Q x y inf):∃X Y Z,kO k Q X Y Z/\ah P 116 [.agg (ws x 9++ws y 9++[.bool inf])] [] 0 [] (fun v _ _=>v= .agg (ws X 9++ws Y 9++ws Z 9)):=by
 have _:=hk
 have h2:=(EC.pI k).1
 cases Q with
 |O=>
  obtain rfl:inf=true:=h.inf
  exact⟨_,_,_,trO k,ZF hP x y _ true rfl _ _ _ (aj rfl).symm (aj rfl).symm (aj rfl).symm⟩
 |A qx qy=>
  obtain rfl:inf=false:=h.inf
  have e1:V 9 x=qx.val:=h.vX
  have e2:V 9 y=qy.val:=h.vY
  refine⟨x,y,_,⟨h.wX,h.wY,aeA,by rw[e1];exact qx.isLt,by rw[e2];exact qy.isLt,by rw[Pl];omega,?_⟩,ZF hP x y _ false rfl _ _ _ (af (by decide)).symm (af (by decide)).symm (af (by decide)).symm⟩
  have:=EC.adi (EC.pI k) qx.val qy.val
  rw[EC.AW,EC.AW]at this
  rw[e1,e2,Pl]
  exact this
omit hk hC in
theorem akx(k:Nat){z:Nat}(hz:z<EC.cp k)(h0:z≠0):(EC.aN (EC.nf z:Fin (EC.cp k))).val*z%EC.cp k=1:=by
 have ek:(EC.nf z:Fin (EC.cp k))≠0:=fun e=>h0 (by
  have:=aK Fin.val e
  rw[EC.val_zero]at this
  rwa [EC.qH _ hz]at this)
 have h3:=aK Fin.val (EC.KO (EC.pI k) ek)
 rw[EC.val_mul,EC.qH _ hz,EC.val_one (EC.pI k).1]at h3
 rw[bJ];exact h3
omit hk hC in
theorem acF{q i z:Nat}(h:i*z%q=1)(u:Nat):u*i%q*z%q=u%q:=by
 rw[tT,eZ,kM,h,fh,xR]
omit hk hC in
theorem gcd_one{q i z:Nat}(h:i*z%q=1):Nat.gcd z q=1:=by
 have hd:Nat.gcd z q∣1:=by
  rw[<-h]
  exact(Nat.dvd_mod_iff (LY _ _)).2 (Nat.dvd_mul_left_of_dvd (LX _ _) _)
 exact Nat.eq_one_of_dvd_one hd
omit hk hC in
theorem aoO(k:Nat){Q:EC.Pt (EC.cp k)}{x y z i:Nat}(r:EC.pP (EC.NT.tr ⟨x,y,z⟩:EC.Tr (EC.cp k)) Q)(hz:z<EC.cp k)(h0:z≠0)(h:i*z%EC.cp k=1):qz Q=x*i%EC.cp k/\uP Q=y*i%EC.cp k/\uO Q=false:=by
 have hQ:=EC.apy (EC.Iu (EC.pI k) (EC.ZQ k)) r (x:=x*i%EC.cp k) (y:=y*i%EC.cp k) (by show z%_≠0;rw[aO hz];exact h0) (acF h _) (acF h _)
 rw[hQ]
 exact⟨EC.qH _ (ax _ (y9 k)),EC.qH _ (ax _ (y9 k)),rfl⟩
theorem QP{P:Program}(hP:P=Tryz.prog)(hD:Dv p d m s){Q:EC.Pt (EC.cp k)}{X Y Z x y:Nat->Nat}{inf:Bool}(t:kO k Q X Y Z)(h:mW k Q x y inf):
 ah P 120 [.ptr 0 0,.agg (ws X 9++ws Y 9++ws Z 9)] (mq k p a b n gx gy th d m s bits size leg) 3 [] (fun v _ _=>v= .agg (ws x 9++ws y 9++[.bool inf])):=by
 obtain⟨e1,e2,e3,e4,e5⟩:=MK hk hC
 have h2:=(EC.pI k).1
 by_cases h0:V 9 Z=0
 ·have hQ:Q= .O:=EC.adl t.rep (by show V 9 Z%_=0;rw[h0,zq])
  subst hQ
  obtain rfl:inf=true:=h.inf
  have q1:ws x 9=ws (fun _=>0) 9:=kx h.wX Hf (by rw[Lj];exact h.vX)
  have q2:ws y 9=ws (fun _=>0) 9:=kx h.wY Hf (by rw[Lj];exact h.vY)
  rw[q1,q2]
  exact agx hP k p a b n gx gy th X Y Z d m s bits size leg t.wZ h0
 ·obtain⟨i,wi,vi⟩:=cD 9 (EC.aN (EC.nf (V 9 Z):Fin (EC.cp k))).val (cT (Fin.isLt _) (pV hk))
  have hmul:V 9 i*V 9 Z%EC.cp k=1:=by rw[vi];exact akx k t.lZ h0
  have kD:V 9 i<EC.cp k:=by rw[vi];exact Fin.isLt _
  clear vi
  obtain⟨q1,q2,q3⟩:=aoO k t.rep t.lZ h0 hmul
  obtain rfl:inf=false:=h.inf.trans q3
  exact agw hP k p a b n gx gy th X Y Z d i x y m s bits size leg hD hC.wp (by rw[e1];exact h2) t.wX t.wY t.wZ h0 wi (fun _=>by rw[e1];exact⟨kD,hmul⟩) (fun hg=>absurd (by rw[e1];exact gcd_one hmul) hg) h.wX h.wY (by rw[e1];exact h.vX.trans q1) (by rw[e1];exact h.vY.trans q2)
end
end Go.Proofs.YtfocopihipejfaaGreat
