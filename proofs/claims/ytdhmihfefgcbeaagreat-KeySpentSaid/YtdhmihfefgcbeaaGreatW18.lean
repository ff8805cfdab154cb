/-
  This text proves what these texts prove: CuA, TrA, Gd, Ge. Conditions: those of each theorem.
-/
import Derived.Test.YtdhmihfefgcbeaaGreatW17
import Derived.Test.YtdhmihfefgcbeaaGreatW15
import Derived.Test.YtdhmihfefgcbeaaGreatW14
import Derived.Test.YtdhmihfefgcbeaaGreatW07
section
/-! the curves' numbers; beyond 15 the last one's -/
namespace EC
open Pr
def lim : Nat := 2 ^ 521
def cp : Nat -> Nat
 | 1 => 6277101735386680763835789423207666416083908700390324961279
 | 2 => 26959946667150639794667015087019630673557916260026308143510066298881
 | 3 => 115792089210356248762697446949407573530086143415290314195533631308867097853951
 | 4 => 39402006196394479212279040100143613805079739270465446667948293404245721771496870329047266088258938001861606973112319
 | 5 => 6864797660130609714981900799081393217269435300143305409394463459185543183397656052122559640661454554977296311391480858037121987999716643812574028291115057151
 | 6 => 115792089237316195423570985008687907853269984665640564039457584007908834671663
 | 7 => 1332297598440044874827085558802491743757193798159
 | 8 => 22721622932454352787552537995910928073340732145944992304435472941311
 | 9 => 76884956397045344220809746629001649093037950200943055203735601445031516197751
 | 10 => 1763593322239166354161909842446019520889512772719515192772960415288640868802149818095501499903527
 | 11 => 21659270770119316173069236842332604979796116387017648600081618503821089934025961822236561982844534088440708417973331
 | 12 => 8948962207650232551656602815159153422162609644098354511344597187200057010413552439917934304191956942765446530386427345937963894309923928536070534607816947
 | 13 => 251
 | 14 => 241
 | _ => 239
def caN : Nat -> Nat
 | 1 => 6277101735386680763835789423207666416083908700390324961276
 | 2 => 26959946667150639794667015087019630673557916260026308143510066298878
 | 3 => 115792089210356248762697446949407573530086143415290314195533631308867097853948
 | 4 => 39402006196394479212279040100143613805079739270465446667948293404245721771496870329047266088258938001861606973112316
 | 5 => 6864797660130609714981900799081393217269435300143305409394463459185543183397656052122559640661454554977296311391480858037121987999716643812574028291115057148
 | 6 => 0
 | 7 => 297190522446607939568481567949428902921613329152
 | 8 => 11020725272625742361946480833014344015343456918668456061589001510723
 | 9 => 56698187605326110043627228396178346077120614539475214109386828188763884139993
 | 10 => 524709318439392693105919717518043758943240164412117372990311331314771510648804065756354311491252
 | 11 => 19048979039598244295279281525021548448223459855185222892089532512446337024935426033638342846977861914875721218402342
 | 12 => 6294860557973063227666421306476379324074715770622746227136910445450301914281276098027990968407983962691151853678563877834221834027439718238065725844264138
 | 13 => 248
 | 14 => 0
 | _ => 117
def cbN : Nat -> Nat
 | 1 => 2455155546008943817740293915197451784769108058161191238065
 | 2 => 18958286285566608000408668544493926415504680968679321075787234672564
 | 3 => 41058363725152142129326129780047268409114441015993725554835256314039467401291
 | 4 => 27580193559959705877849011840389048093056905856361568521428707301988689241309860865136260764883745107765439761230575
 | 5 => 1093849038073734274511112390766805569936207598951683748994586394495953116150735016013708737573759623248592132296706313309438452531591012912142327488478985984
 | 6 => 7
 | 7 => 173245649450172891208247283053495198538671808088
 | 8 => 3949606626053374030787926457695139766118442946052311411513528958987
 | 9 => 17577232497321838841075697789794520262950426058923084567046852300633325438902
 | 10 => 684460840191207052139729091116995410883497412720006364295713596062999867796741135919289734394278
 | 11 => 717131854892629093329172042053689661426642816397448020844407951239049616491589607702456460799758882466071646850065
 | 12 => 3245789008328967059274849584342077916531909009637501918328323668736179176583263496463525128488282611559800773506973771797764811498834995234341530862286627
 | 13 => 26
 | 14 => 13
 | _ => 8
def cn : Nat -> Nat
 | 1 => 6277101735386680763835789423176059013767194773182842284081
 | 2 => 26959946667150639794667015087019625940457807714424391721682722368061
 | 3 => 115792089210356248762697446949407573529996955224135760342422259061068512044369
 | 4 => 39402006196394479212279040100143613805079739270465446667946905279627659399113263569398956308152294913554433653942643
 | 5 => 6864797660130609714981900799081393217269435300143305409394463459185543183397655394245057746333217197532963996371363321113864768612440380340372808892707005449
 | 6 => 115792089237316195423570985008687907852837564279074904382605163141518161494337
 | 7 => 1332297598440044874827085038830181364212942568457
 | 8 => 22721622932454352787552537995910923612567546342330757191396560966559
 | 9 => 76884956397045344220809746629001649092737531784414529538755519063063536359079
 | 10 => 1763593322239166354161909842446019520889512772717686063760686124016784784845843468355685258203921
 | 11 => 21659270770119316173069236842332604979796116387017648600075645274821611501358515537962695117368903252229601718723941
 | 12 => 8948962207650232551656602815159153422162609644098354511344597187200057010413418528378981730643524959857451398370029280583094215613882043973354392115544169
 | 13 => 223
 | 14 => 211
 | _ => 229
def cxN : Nat -> Nat
 | 1 => 602046282375688656758213480587526111916698976636884684818
 | 2 => 19277929113566293071110308034699488026831934219452440156649784352033
 | 3 => 48439561293906451759052585252797914202762949526041747995844080717082404635286
 | 4 => 26247035095799689268623156744566981891852923491109213387815615900925518854738050089022388053975719786650872476732087
 | 5 => 2661740802050217063228768716723360960729859168756973147706671368418802944996427808491545080627771902352094241225065558662157113545570916814161637315895999846
 | 6 => 55066263022277343669578718895168534326250603453777594175500187360389116729240
 | 7 => 1089473557631435284577962539738532515920566082499
 | 8 => 1428364927244201726431498207475486496993067267318520844137448783997
 | 9 => 63243729749562333355292243550312970334778175571054726587095381623627144114786
 | 10 => 565203972584199378547773331021708157952136817703497461781479793049434111597020229546183313458705
 | 11 => 4480579927441533893329522230328287337018133311029754539518372936441756157459087304048546502931308754738349656551198
 | 12 => 6792059140424575174435640431269195087843153390102521881468023012732047482579853077545647446272866794936371522410774532686582484617946013928874296844351522
 | 13 => 2
 | 14 => 3
 | _ => 0
def cyN : Nat -> Nat
 | 1 => 174050332293622031404857552280219410364023488927386650641
 | 2 => 19926808758034470970197974370888749184205991990603949537637343198772
 | 3 => 36134250956749795798585127919587881956611106672985015071877198253568414405109
 | 4 => 8325710961489029985546751289520108179287853048861315594709205902480503199884419224438643760392947333078086511627871
 | 5 => 3757180025770020463545507224491183603594455134769762486694567779615544477440556316691234405012945539562144444537289428522585666729196580810124344277578376784
 | 6 => 32670510020758816978083085130507043184471273380659243275938904335757337482424
 | 7 => 127912481829969033206777085249718746721365418785
 | 8 => 9337555360448823227812410753177468631215558779020518084752618816205
 | 9 => 38218615093753523893122277964030810387585405539772602581557831887485717997975
 | 10 => 175146432689526447697480803229621572834859050903464782210773312572877763380340633688906597830369
 | 11 => 21354446258743982691371413536748675410974765754620216137225614281636810686961198361153695003859088327367976229294869
 | 12 => 6592244555240112873324748381429610341312712940326266331327445066687010545415256461097707483288650216992613090185042957716318301180159234788504307628509330
 | 13 => 84
 | 14 => 47
 | _ => 41
theorem cases (id : Nat) {M : Nat -> Prop} (h1 : M 1) (h2 : M 2) (h3 : M 3) (h4 : M 4) (h5 : M 5) (h6 : M 6) (h7 : M 7) (h8 : M 8) (h9 : M 9) (h10 : M 10) (h11 : M 11) (h12 : M 12) (h13 : M 13) (h14 : M 14) (h : ∀ id, (∀ j, j < 15 -> j ≠ 0 -> id ≠ j) -> M id) : M id := by
 by_cases e1 : id = 1
 ·exact e1 ▸ h1
 by_cases e2 : id = 2
 ·exact e2 ▸ h2
 by_cases e3 : id = 3
 ·exact e3 ▸ h3
 by_cases e4 : id = 4
 ·exact e4 ▸ h4
 by_cases e5 : id = 5
 ·exact e5 ▸ h5
 by_cases e6 : id = 6
 ·exact e6 ▸ h6
 by_cases e7 : id = 7
 ·exact e7 ▸ h7
 by_cases e8 : id = 8
 ·exact e8 ▸ h8
 by_cases e9 : id = 9
 ·exact e9 ▸ h9
 by_cases e10 : id = 10
 ·exact e10 ▸ h10
 by_cases e11 : id = 11
 ·exact e11 ▸ h11
 by_cases e12 : id = 12
 ·exact e12 ▸ h12
 by_cases e13 : id = 13
 ·exact e13 ▸ h13
 by_cases e14 : id = 14
 ·exact e14 ▸ h14
 refine h id fun j h1 h2 e => ?_
 subst e
 omega
theorem cp_last (id : Nat) (h : ∀ j, j < 15 -> j ≠ 0 -> id ≠ j) : cp id = cp 15 := by
 unfold cp
 split <;> first | rfl | (exfalso; exact h _ (by decide) (by decide) rfl)
theorem caN_last (id : Nat) (h : ∀ j, j < 15 -> j ≠ 0 -> id ≠ j) : caN id = caN 15 := by
 unfold caN
 split <;> first | rfl | (exfalso; exact h _ (by decide) (by decide) rfl)
theorem cbN_last (id : Nat) (h : ∀ j, j < 15 -> j ≠ 0 -> id ≠ j) : cbN id = cbN 15 := by
 unfold cbN
 split <;> first | rfl | (exfalso; exact h _ (by decide) (by decide) rfl)
theorem cn_last (id : Nat) (h : ∀ j, j < 15 -> j ≠ 0 -> id ≠ j) : cn id = cn 15 := by
 unfold cn
 split <;> first | rfl | (exfalso; exact h _ (by decide) (by decide) rfl)
theorem cxN_last (id : Nat) (h : ∀ j, j < 15 -> j ≠ 0 -> id ≠ j) : cxN id = cxN 15 := by
 unfold cxN
 split <;> first | rfl | (exfalso; exact h _ (by decide) (by decide) rfl)
theorem cyN_last (id : Nat) (h : ∀ j, j < 15 -> j ≠ 0 -> id ≠ j) : cyN id = cyN 15 := by
 unfold cyN
 split <;> first | rfl | (exfalso; exact h _ (by decide) (by decide) rfl)
theorem prime_cp (id : Nat) : Prime (cp id) := by
 refine cases id (M := fun id => Prime (cp id)) primeP1 primeP2 primeP3 primeP4 primeP5 primeP6 primeP7 primeP8 primeP9 primeP10 primeP11 primeP12 primeP13 primeP14 fun id h => ?_
 simp only [cp_last id h]
 exact primeP15
theorem prime_cn (id : Nat) : Prime (cn id) := by
 refine cases id (M := fun id => Prime (cn id)) primeN1 primeN2 primeN3 primeN4 primeN5 primeN6 primeN7 primeN8 primeN9 primeN10 primeN11 primeN12 primeN13 primeN14 fun id h => ?_
 simp only [cn_last id h]
 exact primeN15
theorem chk_1 : chk2 (cp 1) (caN 1) (cbN 1) ⟨3076984081099336410538445874700673783096882824010410041625, 4871298686935519674170250204910228760438566091784467946767, 105597762148406811168096478311383789005400348177979944870⟩ = true := by decide +kernel
theorem small_1 : (decide (caN 1 < cp 1) && decide (cbN 1 < cp 1) && decide (cxN 1 < cp 1) && decide (cyN 1 < cp 1) && decide (cn 1 < lim) && decide (cp 1 < lim) && (cyN 1 * cyN 1 % cp 1 == (cxN 1 * cxN 1 * cxN 1 + caN 1 * cxN 1 + cbN 1) % cp 1)) = true := by decide +kernel
theorem chk_2 : chk2 (cp 2) (caN 2) (cbN 2) ⟨1261710631285627074303005901530361786216288604486499842249704943048, 4447412785031720342771701563499662000791675740805516550464163634437, 9439789507511725786058244597052783711805086828869674293526675889612⟩ = true := by decide +kernel
theorem small_2 : (decide (caN 2 < cp 2) && decide (cbN 2 < cp 2) && decide (cxN 2 < cp 2) && decide (cyN 2 < cp 2) && decide (cn 2 < lim) && decide (cp 2 < lim) && (cyN 2 * cyN 2 % cp 2 == (cxN 2 * cxN 2 * cxN 2 + caN 2 * cxN 2 + cbN 2) % cp 2)) = true := by decide +kernel
theorem chk_3 : chk2 (cp 3) (caN 3) (cbN 3) ⟨76626890310466861426869089647039036757962535851890885406097439786770458211455, 74462945259064871768191128030512052509059297803194871526163573358218695456204, 34768139465301476436978405170953382516735956999154666452188405812258086013549⟩ = true := by decide +kernel
theorem small_3 : (decide (caN 3 < cp 3) && decide (cbN 3 < cp 3) && decide (cxN 3 < cp 3) && decide (cyN 3 < cp 3) && decide (cn 3 < lim) && decide (cp 3 < lim) && (cyN 3 * cyN 3 % cp 3 == (cxN 3 * cxN 3 * cxN 3 + caN 3 * cxN 3 + cbN 3) % cp 3)) = true := by decide +kernel
theorem chk_4 : chk2 (cp 4) (caN 4) (cbN 4) ⟨23037766613497683937702734290281044719364893268180251583910224888989381657771069200037813904257325918671976092329602, 8235438212423615602427778915669574859600037698862346933589434399495169446996583974901273360826717582835190849638831, 12157362177932134139146813183752135342286725243554133716818896354380897714709611791313184492360272402950851405460538⟩ = true := by decide +kernel
theorem small_4 : (decide (caN 4 < cp 4) && decide (cbN 4 < cp 4) && decide (cxN 4 < cp 4) && decide (cyN 4 < cp 4) && decide (cn 4 < lim) && decide (cp 4 < lim) && (cyN 4 * cyN 4 % cp 4 == (cxN 4 * cxN 4 * cxN 4 + caN 4 * cxN 4 + cbN 4) % cp 4)) = true := by decide +kernel
theorem chk_5 : chk2 (cp 5) (caN 5) (cbN 5) ⟨5556850081864827842302249485475501585472702946772625307642304195702912034363837867267334216347521692509406916620096684956176894315447091116492501000392161958, 2592645775458497527836362227091103884154287512470494672274301275565663408730650270660448980645397363205839490313252565391972848223674401530161387302727484004, 3919380404691066388712376322317341026252002696138380915147944189379687824774581460974855590730258562532022938584569429027963361353339635641909491533809725330⟩ = true := by decide +kernel
theorem small_5 : (decide (caN 5 < cp 5) && decide (cbN 5 < cp 5) && decide (cxN 5 < cp 5) && decide (cyN 5 < cp 5) && decide (cn 5 < lim) && decide (cp 5 < lim) && (cyN 5 * cyN 5 % cp 5 == (cxN 5 * cxN 5 * cxN 5 + caN 5 * cxN 5 + cbN 5) % cp 5)) = true := by decide +kernel
theorem chk_6 : chk2 (cp 6) (caN 6) (cbN 6) ⟨0, 0, 46758632835564736012269203954919337884311706168562511263687580192619680188360⟩ = true := by decide +kernel
theorem small_6 : (decide (caN 6 < cp 6) && decide (cbN 6 < cp 6) && decide (cxN 6 < cp 6) && decide (cyN 6 < cp 6) && decide (cn 6 < lim) && decide (cp 6 < lim) && (cyN 6 * cyN 6 % cp 6 == (cxN 6 * cxN 6 * cxN 6 + caN 6 * cxN 6 + cbN 6) % cp 6)) = true := by decide +kernel
theorem chk_7 : chk2 (cp 7) (caN 7) (cbN 7) ⟨351750380667266526775263869464366639180417248434, 452762556115001297277164478576350244468511252619, 866276026852477386583739955587856805174089846777⟩ = true := by decide +kernel
theorem small_7 : (decide (caN 7 < cp 7) && decide (cbN 7 < cp 7) && decide (cxN 7 < cp 7) && decide (cyN 7 < cp 7) && decide (cn 7 < lim) && decide (cp 7 < lim) && (cyN 7 * cyN 7 % cp 7 == (cxN 7 * cxN 7 * cxN 7 + caN 7 * cxN 7 + cbN 7) % cp 7)) = true := by decide +kernel
theorem chk_8 : chk2 (cp 8) (caN 8) (cbN 8) ⟨21213892938015945545597082772589297824092146818263170675852146397638, 2334923022141376185092217891892732897499336396810527250141559708482, 6959669552391944620225386365448164800752207546902971350913933966495⟩ = true := by decide +kernel
theorem small_8 : (decide (caN 8 < cp 8) && decide (cbN 8 < cp 8) && decide (cxN 8 < cp 8) && decide (cyN 8 < cp 8) && decide (cn 8 < lim) && decide (cp 8 < lim) && (cyN 8 * cyN 8 % cp 8 == (cxN 8 * cxN 8 * cxN 8 + caN 8 * cxN 8 + cbN 8) % cp 8)) = true := by decide +kernel
theorem chk_9 : chk2 (cp 9) (caN 9) (cbN 9) ⟨5347744486777530706669047377084680431416082047222058099865314757079289018413, 36567706687211352878623830248023275230139348886519930341788893933933071887964, 57300115342307814829368171194017451425362166738975514114819334576929185469628⟩ = true := by decide +kernel
theorem small_9 : (decide (caN 9 < cp 9) && decide (cbN 9 < cp 9) && decide (cxN 9 < cp 9) && decide (cyN 9 < cp 9) && decide (cn 9 < lim) && decide (cp 9 < lim) && (cyN 9 * cyN 9 % cp 9 == (cxN 9 * cxN 9 * cxN 9 + caN 9 * cxN 9 + cbN 9) % cp 9)) = true := by decide +kernel
theorem chk_10 : chk2 (cp 10) (caN 10) (cbN 10) ⟨122870849904181773089670971022562028177776873262791750757648614230269868632418475396154339683393, 723011386214059723890258847105443730712169077323097966906237591005955893472217848824699974159717, 591398295572457992264474255279168440779894522159829821427394627523920432340975599627340802408935⟩ = true := by decide +kernel
theorem small_10 : (decide (caN 10 < cp 10) && decide (cbN 10 < cp 10) && decide (cxN 10 < cp 10) && decide (cyN 10 < cp 10) && decide (cn 10 < lim) && decide (cp 10 < lim) && (cyN 10 * cyN 10 % cp 10 == (cxN 10 * cxN 10 * cxN 10 + caN 10 * cxN 10 + cbN 10) % cp 10)) = true := by decide +kernel
theorem chk_11 : chk2 (cp 11) (caN 11) (cbN 11) ⟨18045346159989301294719205289786962596468003789292587159741834949006371209014629163014746348076599162029150578683262, 1976113098210081074617925902571799281931794102930411075466637102904693541261693854282593756972459711385728480861278, 4643256948357306801182104578797069499791313285794868896678261438458615860465573791712519540292328347437871877550575⟩ = true := by decide +kernel
theorem small_11 : (decide (caN 11 < cp 11) && decide (cbN 11 < cp 11) && decide (cxN 11 < cp 11) && decide (cyN 11 < cp 11) && decide (cn 11 < lim) && decide (cp 11 < lim) && (cyN 11 * cyN 11 % cp 11 == (cxN 11 * cxN 11 * cxN 11 + caN 11 * cxN 11 + cbN 11) % cp 11)) = true := by decide +kernel
theorem chk_12 : chk2 (cp 12) (caN 12) (cbN 12) ⟨1803314254406975735450288165685996255159518649509801042516748854645051387409671406770237299640480790704019033082794117735071555073817603589011800439246700, 5423510712171489546644718125848465800445423157029586731376840833885116518002476487579816819625716701205282987784671943974892074197635932083426899437475869, 1980640283309979095730852824049519563548238190526698414050554203846063330593484879663419473345296546803597274808794758955751942903882298593095810355797106⟩ = true := by decide +kernel
theorem small_12 : (decide (caN 12 < cp 12) && decide (cbN 12 < cp 12) && decide (cxN 12 < cp 12) && decide (cyN 12 < cp 12) && decide (cn 12 < lim) && decide (cp 12 < lim) && (cyN 12 * cyN 12 % cp 12 == (cxN 12 * cxN 12 * cxN 12 + caN 12 * cxN 12 + cbN 12) % cp 12)) = true := by decide +kernel
theorem chk_13 : chk2 (cp 13) (caN 13) (cbN 13) ⟨224, 220, 119⟩ = true := by decide +kernel
theorem small_13 : (decide (caN 13 < cp 13) && decide (cbN 13 < cp 13) && decide (cxN 13 < cp 13) && decide (cyN 13 < cp 13) && decide (cn 13 < lim) && decide (cp 13 < lim) && (cyN 13 * cyN 13 % cp 13 == (cxN 13 * cxN 13 * cxN 13 + caN 13 * cxN 13 + cbN 13) % cp 13)) = true := by decide +kernel
theorem chk_14 : chk2 (cp 14) (caN 14) (cbN 14) ⟨0, 0, 12⟩ = true := by decide +kernel
theorem small_14 : (decide (caN 14 < cp 14) && decide (cbN 14 < cp 14) && decide (cxN 14 < cp 14) && decide (cyN 14 < cp 14) && decide (cn 14 < lim) && decide (cp 14 < lim) && (cyN 14 * cyN 14 % cp 14 == (cxN 14 * cxN 14 * cxN 14 + caN 14 * cxN 14 + cbN 14) % cp 14)) = true := by decide +kernel
theorem chk_15 : chk2 (cp 15) (caN 15) (cbN 15) ⟨195, 117, 6⟩ = true := by decide +kernel
theorem small_15 : (decide (caN 15 < cp 15) && decide (cbN 15 < cp 15) && decide (cxN 15 < cp 15) && decide (cyN 15 < cp 15) && decide (cn 15 < lim) && decide (cp 15 < lim) && (cyN 15 * cyN 15 % cp 15 == (cxN 15 * cxN 15 * cxN 15 + caN 15 * cxN 15 + cbN 15) % cp 15)) = true := by decide +kernel
theorem small (id : Nat) : (decide (caN id < cp id) && decide (cbN id < cp id) && decide (cxN id < cp id) && decide (cyN id < cp id) && decide (cn id < lim) && decide (cp id < lim) && (cyN id * cyN id % cp id == (cxN id * cxN id * cxN id + caN id * cxN id + cbN id) % cp id)) = true := by
 refine cases id (M := fun id => (decide (caN id < cp id) && decide (cbN id < cp id) && decide (cxN id < cp id) && decide (cyN id < cp id) && decide (cn id < lim) && decide (cp id < lim) && (cyN id * cyN id % cp id == (cxN id * cxN id * cxN id + caN id * cxN id + cbN id) % cp id)) = true) small_1 small_2 small_3 small_4 small_5 small_6 small_7 small_8 small_9 small_10 small_11 small_12 small_13 small_14 fun id h => ?_
 simp only [cp_last id h, caN_last id h, cbN_last id h, cn_last id h, cxN_last id h, cyN_last id h]
 exact small_15
theorem chkU (id : Nat) : ∃ u, chk2 (cp id) (caN id) (cbN id) u = true := by
 refine cases id (M := fun id => ∃ u, chk2 (cp id) (caN id) (cbN id) u = true) ⟨_, chk_1⟩ ⟨_, chk_2⟩ ⟨_, chk_3⟩ ⟨_, chk_4⟩ ⟨_, chk_5⟩ ⟨_, chk_6⟩ ⟨_, chk_7⟩ ⟨_, chk_8⟩ ⟨_, chk_9⟩ ⟨_, chk_10⟩ ⟨_, chk_11⟩ ⟨_, chk_12⟩ ⟨_, chk_13⟩ ⟨_, chk_14⟩ fun id h => ?_
 simp only [cp_last id h, caN_last id h, cbN_last id h]
 exact ⟨_, chk_15⟩
instance (id : Nat) : NeZero (cp id) := ⟨by have := (prime_cp id).1; omega⟩
def ca (id : Nat) : Fin (cp id) := nf (caN id)
def cb (id : Nat) : Fin (cp id) := nf (cbN id)
def G (id : Nat) : Pt (cp id) := .A (nf (cxN id)) (nf (cyN id))
theorem cp_odd (id : Nat) : cp id ≠ 2 := by
 refine cases id (M := fun id => cp id ≠ 2) (by decide) (by decide) (by decide) (by decide) (by decide) (by decide) (by decide) (by decide) (by decide) (by decide) (by decide) (by decide) (by decide) (by decide) fun id h => ?_
 rw [cp_last id h]; decide
theorem okc (id : Nat) : Ok (p := cp id) finv (ca id) (cb id) := by
 have h := small id
 simp only [Bool.and_eq_true, decide_eq_true_eq, beq_iff_eq] at h
 obtain ⟨u, hu⟩ := chkU id
 exact ok_of (prime_cp id) (cp_odd id) (no2_of (prime_cp id) h.1.1.1.1.1.1 h.1.1.1.1.1.2 hu)
theorem G_on (id : Nat) : OnC (ca id) (cb id) (G id) := by
 have h := small id
 simp only [Bool.and_eq_true, decide_eq_true_eq, beq_iff_eq] at h
 have e : (nf (cyN id * cyN id) : Fin (cp id)) = nf (cxN id * cxN id * cxN id + caN id * cxN id + cbN id) := by rw [<- nf_mod, h.2, nf_mod]
 simp only [nf_mul, nf_add] at e
 exact e
end EC
end
section
/-! triples of numbers, for the kernel; n times G -/
namespace EC
open Pr
structure NT where
 X : Nat
 Y : Nat
 Z : Nat
def NT.tr {p : Nat} [NeZero p] (t : NT) : Tr p := ⟨nf t.X, nf t.Y, nf t.Z⟩
theorem rep_O {p : Nat} [NeZero p] (hp : Prime p) : Rep (NT.tr ⟨0, 1, 0⟩ : Tr p) .O := by
 refine ⟨rfl, rfl, ?_⟩
 intro h
 have h1 := congrArg Fin.val h
 have e : (NT.tr ⟨0, 1, 0⟩ : Tr p).Y = 1 := rfl
 rw [e, val_one hp.1, val_zero] at h1
 omega
section
variable {p : Nat} [NeZero p] {a b : Nat} (hp : Prime p) (K : Ok (p := p) finv (nf a) (nf b))
include hp K
end
theorem rep_zero {p : Nat} [NeZero p] {t : NT} {P : Pt p} (r : Rep t.tr P) (h : t.Z % p = 0) : P = .O := by
 cases P with
 | O => rfl
 | A x y =>
   exfalso
   apply r.1
   show (nf t.Z : Fin p) = 0
   rw [<- nf_mod, h]; rfl
theorem rep_pt {p : Nat} [NeZero p] (F : Fld p) {t : NT} {P : Pt p} (r : Rep t.tr P) {x y : Nat} (hz : t.Z % p ≠ 0) (hx : x * t.Z % p = t.X % p) (hy : y * t.Z % p = t.Y % p) : P = .A (nf x) (nf y) := by
 have hz' : (nf t.Z : Fin p) ≠ 0 := by
  intro h
  have h1 := congrArg Fin.val h
  rw [val_zero] at h1
  exact hz (by simpa [nf, Fin.ofNat] using h1)
 cases P with
 | O => exact (hz' r.2.1).elim
 | A u v =>
   have e1 : (nf (x * t.Z) : Fin p) = nf t.X := by rw [<- nf_mod, hx, nf_mod]
   have e2 : (nf (y * t.Z) : Fin p) = nf t.Y := by rw [<- nf_mod, hy, nf_mod]
   rw [nf_mul] at e1 e2
   have r2 : (nf t.X : Fin p) = u * nf t.Z := r.2.1
   have r3 : (nf t.Y : Fin p) = v * nf t.Z := r.2.2
   have g1 : u = nf x := cancel F hz' (by rw [r2] at e1; clear e2 r3; grobner)
   have g2 : v = nf y := cancel F hz' (by rw [r3] at e2; clear e1 r2; grobner)
   rw [g1, g2]
theorem rep_aff {p : Nat} [NeZero p] (hp : Prime p) (x y : Nat) : Rep (NT.tr ⟨x, y, 1⟩ : Tr p) (.A (nf x) (nf y)) := by
 have e : (nf 1 : Fin p) = 1 := rfl
 refine ⟨?_, ?_, ?_⟩
 ·intro h
  have h1 := congrArg Fin.val h
  have e : (NT.tr ⟨x, y, 1⟩ : Tr p).Z = 1 := rfl
  rw [e, val_one hp.1, val_zero] at h1
  omega
 ·show (nf x : Fin p) = nf x * nf 1
  rw [e]; grobner
 ·show (nf y : Fin p) = nf y * nf 1
  rw [e]; grobner
end EC
end
section
namespace Go.Proofs.YtdhmihfefgcbeaaGreat
open Go.Vg Go.RowKit
set_option maxRecDepth 200000
set_option cbv.maxSteps 100000000
theorem same_nums0 : ((List.range 16).all fun k => k == 0 || (EC.cp k == primeN k && EC.caN k == curA k && EC.cbN k == rowB k && EC.cn k == rowN k && EC.cxN k == rowX k && EC.cyN k == rowY k)) = true := by decide +kernel
theorem same_nums {k : Nat} (hk : 1 <= k /\ k <= 15) : EC.cp k = primeN k /\ EC.caN k = curA k /\ EC.cbN k = rowB k /\ EC.cn k = rowN k /\ EC.cxN k = rowX k /\ EC.cyN k = rowY k := by
 have h := List.all_eq_true.1 same_nums0 k (List.mem_range.2 (by omega))
 have h0 : (k == 0) = false := by simp; omega
 simp only [h0, Bool.false_or, Bool.and_eq_true, beq_iff_eq] at h
 obtain ⟨⟨⟨⟨⟨h1, h2⟩, h3⟩, h4⟩, h5⟩, h6⟩ := h
 exact ⟨h1, h2, h3, h4, h5, h6⟩
section
variable {p : Nat} [NeZero p]
theorem fp_pos : 0 < p := Nat.pos_of_ne_zero (NeZero.ne p)
theorem nf_fA (x y : Nat) : (EC.nf (fA p x y) : Fin p) = EC.nf x + EC.nf y := by unfold fA; rw [EC.nf_mod, EC.nf_add]
theorem nf_fM (x y : Nat) : (EC.nf (fM p x y) : Fin p) = EC.nf x * EC.nf y := by unfold fM; rw [EC.nf_mod, EC.nf_mul]
theorem fA_le (x y : Nat) : fA p x y <= p := Nat.le_of_lt (Nat.mod_lt _ fp_pos)
theorem fM_le (x y : Nat) : fM p x y <= p := Nat.le_of_lt (Nat.mod_lt _ fp_pos)
theorem nf_fS {x y : Nat} (h : y <= p) : (EC.nf (fS p x y) : Fin p) = EC.nf x - EC.nf y := by
 unfold fS
 rw [EC.nf_mod, show x + p - y = x + (p - y) by omega, EC.nf_add, EC.nf_sub h]
 grobner
theorem sumR_tr {X1 Y1 Z1 X2 Y2 Z2 a th X Y Z : Nat} (h : SumR p X1 Y1 Z1 X2 Y2 Z2 a th X Y Z) : (EC.NT.tr ⟨X, Y, Z⟩ : EC.Tr p) = EC.tsum (EC.nf a) (EC.nf th) (EC.NT.tr ⟨X1, Y1, Z1⟩) (EC.NT.tr ⟨X2, Y2, Z2⟩) := by
 obtain ⟨r1, r2, r3, r4, r5, r6, r7, r8, r9, r10, r11, r12, r13, r14, r15, r16, r17, r18, r19, r20, r21, r22, r23, r24, r25, r26, r27, r28, r29, r30, r31, r32, r33, r34, r35, r36, r37, r38, r39, r40, h1, h2, h3, h4, h5, h6, h7, h8, h9, h10, h11, h12, h13, h14, h15, h16, h17, h18, h19, h20, h21, h22, h23, h24, h25, h26, h27, h28, h29, h30, h31, h32, h33, h34, h35, h36, h37, h38, h39, h40, hX, hY, hZ⟩ := h
 subst h1 h2 h3 h4 h5 h6 h7 h8 h9 h10 h11 h12 h13 h14 h15 h16 h17 h18 h19 h20 h21 h22 h23 h24 h25 h26 h27 h28 h29 h30 h31 h32 h33 h34 h35 h36 h37 h38 h39 h40 hX hY hZ
 simp only [EC.NT.tr, EC.tsum, nf_fA, nf_fM, nf_fS (fA_le _ _), nf_fS (fM_le _ _)]
end
def ptx {p : Nat} : EC.Pt p -> Nat
 | .O => 0
 | .A x _ => x.val
def pty {p : Nat} : EC.Pt p -> Nat
 | .O => 0
 | .A _ y => y.val
def ptinf {p : Nat} : EC.Pt p -> Bool
 | .O => true
 | .A _ _ => false
structure TrW (k : Nat) (Q : EC.Pt (EC.cp k)) (X Y Z : Nat -> Nat) : Prop where
 wX : Wn 9 X
 wY : Wn 9 Y
 wZ : Wn 9 Z
 lX : V 9 X < EC.cp k
 lY : V 9 Y < EC.cp k
 lZ : V 9 Z < EC.cp k
 rep : EC.Rep (EC.NT.tr ⟨V 9 X, V 9 Y, V 9 Z⟩ : EC.Tr (EC.cp k)) Q
structure PtW (k : Nat) (Q : EC.Pt (EC.cp k)) (X Y : Nat -> Nat) (inf : Bool) : Prop where
 wX : Wn 9 X
 wY : Wn 9 Y
 vX : V 9 X = ptx Q
 vY : V 9 Y = pty Q
 inf : inf = ptinf Q
theorem pos_cp (k : Nat) : 0 < EC.cp k := Nat.pos_of_ne_zero (NeZero.ne _)
theorem ptx_lt {k : Nat} (Q : EC.Pt (EC.cp k)) : ptx Q < EC.cp k := by cases Q with | O => exact pos_cp k | A x y => exact x.isLt
theorem pty_lt {k : Nat} (Q : EC.Pt (EC.cp k)) : pty Q < EC.cp k := by cases Q with | O => exact pos_cp k | A x y => exact y.isLt
theorem bl_le16 {x b n : Nat} (h : IsBl x b) (hx : x < 16 ^ n) : b <= 4 * n := by
 rcases Nat.lt_or_ge (4 * n) b with h1 | h1
 ·have h2 := h.2 (by omega)
  have h3 : 2 ^ (4 * n) <= 2 ^ (b - 1) := Nat.pow_le_pow_right (by decide) (by omega)
  rw [Nat.pow_mul] at h3
  exact absurd hx (Nat.not_lt.2 (Nat.le_trans h3 h2))
 ·exact h1
theorem cn_small {k : Nat} (hk : 1 <= k /\ k <= 15) : EC.cn k < 16 ^ 144 := by
 have h : ((List.range 16).all fun k => decide (EC.cn k < 16 ^ 144)) = true := by decide +kernel
 exact of_decide_eq_true (List.all_eq_true.1 h k (List.mem_range.2 (by omega)))
theorem cp_small {k : Nat} (hk : 1 <= k /\ k <= 15) : EC.cp k < 18446744073709551616 ^ 9 := by
 have h : ((List.range 16).all fun k => decide (EC.cp k < 18446744073709551616 ^ 9)) = true := by decide +kernel
 exact of_decide_eq_true (List.all_eq_true.1 h k (List.mem_range.2 (by omega)))
theorem exPt {k : Nat} (hk : 1 <= k /\ k <= 15) (Q : EC.Pt (EC.cp k)) : ∃ X Y, PtW k Q X Y (ptinf Q) := by
 obtain ⟨X, h1, h2⟩ := exV 9 (ptx Q) (Nat.lt_trans (ptx_lt Q) (cp_small hk))
 obtain ⟨Y, h3, h4⟩ := exV 9 (pty Q) (Nat.lt_trans (pty_lt Q) (cp_small hk))
 exact ⟨X, Y, h1, h3, h2, h4, rfl⟩
theorem v_zero : V 9 (fun _ => 0) = 0 := by decide +kernel
theorem v_one : V 9 (fun j => if j = 0 then 1 else 0) = 1 := by decide +kernel
theorem w_zero : Wn 9 (fun _ => 0) := fun _ _ => by show 0 < _; decide
theorem w_one : Wn 9 (fun j => if j = 0 then 1 else 0) := fun j _ => by show (if j = 0 then 1 else 0) < _; split <;> decide
theorem trO (k : Nat) : TrW k .O (fun _ => 0) (fun j => if j = 0 then 1 else 0) (fun _ => 0) := by
 have h2 := (EC.prime_cp k).1
 refine ⟨w_zero, w_one, w_zero, by rw [v_zero]; exact pos_cp k, by rw [v_one]; omega, by rw [v_zero]; exact pos_cp k, ?_⟩
 rw [v_zero, v_one]
 exact EC.rep_O (EC.prime_cp k)
def cvB (k : Nat) (p a b n gx gy th d : Nat -> Nat) (m s bits size : Nat) (leg : Bool) : LL :=
 [⟨0, ccells k p a b n gx gy th bits size leg 1, 115⟩, ⟨1, fcells p 2, 120⟩, ⟨2, dcells d m s, 215⟩]
section
variable {k : Nat} (hk : 1 <= k /\ k <= 15) {p a b n gx gy th d : Nat -> Nat} {m s bits size : Nat} {leg : Bool} (hC : Cv k p a b n gx gy th bits size)
include hk hC
theorem cv_facts : V 9 p = EC.cp k /\ V 9 a = EC.caN k /\ V 9 a < EC.cp k /\ V 9 th < EC.cp k /\ (EC.nf (V 9 th) : Fin (EC.cp k)) = EC.cb k + EC.cb k + EC.cb k := by
 obtain ⟨h1, h2, h3, _⟩ := same_nums hk
 have hs := EC.small k
 simp only [Bool.and_eq_true, decide_eq_true_eq] at hs
 refine ⟨by rw [hC.vp, h1], by rw [hC.va, h2], by rw [hC.va, <- h2]; exact hs.1.1.1.1.1.1, ?_, ?_⟩
 ·rw [hC.vt, <- h1]; exact Nat.mod_lt _ (pos_cp k)
 ·rw [hC.vt, <- h1, EC.nf_mod, EC.nf_add, EC.nf_add, <- h3]; rfl
theorem cSumP {P : Program} (hP : P = Tryz.prog) (hD : Dv p d m s) {Q1 Q2 : EC.Pt (EC.cp k)} (o1 : EC.OnC (EC.ca k) (EC.cb k) Q1) (o2 : EC.OnC (EC.ca k) (EC.cb k) Q2) {X1 Y1 Z1 X2 Y2 Z2 : Nat -> Nat} (t1 : TrW k Q1 X1 Y1 Z1) (t2 : TrW k Q2 X2 Y2 Z2) :
 ∃ X Y Z, TrW k (EC.add EC.finv (EC.ca k) Q1 Q2) X Y Z /\ Con P 93 [.ptr 0 0, .agg (ws X1 9 ++ ws Y1 9 ++ ws Z1 9), .agg (ws X2 9 ++ ws Y2 9 ++ ws Z2 9)] (cvB k p a b n gx gy th d m s bits size leg) 3 [] (fun v _ _ => v = .agg (ws X 9 ++ ws Y 9 ++ ws Z 9)) := by
 obtain ⟨e1, e2, e3, e4, e5⟩ := cv_facts hk hC
 obtain ⟨X, Y, Z, w1, w2, w3, l1, l2, l3, hs, hc⟩ := cSum hP k p a b n gx gy th X1 Y1 Z1 X2 Y2 Z2 d m s bits size leg hD hC.wp t1.wX (by rw [e1]; exact t1.lX) t1.wY (by rw [e1]; exact t1.lY) t1.wZ (by rw [e1]; exact t1.lZ) t2.wX (by rw [e1]; exact t2.lX) t2.wY (by rw [e1]; exact t2.lY) t2.wZ (by rw [e1]; exact t2.lZ) hC.wa (by rw [e1]; exact e3) hC.wt (by rw [e1]; exact e4)
 rw [e1] at l1 l2 l3 hs
 refine ⟨X, Y, Z, ⟨w1, w2, w3, l1, l2, l3, ?_⟩, hc⟩
 rw [sumR_tr hs, e5, e2]
 exact EC.tsum_rep (EC.okc k) o1 o2 t1.rep t2.rep
omit hC in
theorem cNoneP {P : Program} (hP : P = Tryz.prog) : ∃ X Y Z, TrW k .O X Y Z /\ Con P 92 [] [] 0 [] (fun v _ _ => v = .agg (ws X 9 ++ ws Y 9 ++ ws Z 9)) := by
 have _ := hk
 exact ⟨_, _, _, trO k, cNone hP _ rfl⟩
omit hC in
theorem cTripleP {P : Program} (hP : P = Tryz.prog) {Q : EC.Pt (EC.cp k)} {x y : Nat -> Nat} {inf : Bool} (h : PtW k Q x y inf) : ∃ X Y Z, TrW k Q X Y Z /\ Con P 95 [.agg (ws x 9 ++ ws y 9 ++ [.bool inf])] [] 0 [] (fun v _ _ => v = .agg (ws X 9 ++ ws Y 9 ++ ws Z 9)) := by
 have _ := hk
 have h2 := (EC.prime_cp k).1
 cases Q with
 | O =>
   obtain rfl : inf = true := h.inf
   exact ⟨_, _, _, trO k, cTriple hP x y _ true rfl _ _ _ (if_pos rfl).symm (if_pos rfl).symm (if_pos rfl).symm⟩
 | A qx qy =>
   obtain rfl : inf = false := h.inf
   have e1 : V 9 x = qx.val := h.vX
   have e2 : V 9 y = qy.val := h.vY
   refine ⟨x, y, _, ⟨h.wX, h.wY, w_one, by rw [e1]; exact qx.isLt, by rw [e2]; exact qy.isLt, by rw [v_one]; omega, ?_⟩, cTriple hP x y _ false rfl _ _ _ (if_neg (by decide)).symm (if_neg (by decide)).symm (if_neg (by decide)).symm⟩
   have := EC.rep_aff (EC.prime_cp k) qx.val qy.val
   rw [EC.nf_val, EC.nf_val] at this
   rw [e1, e2, v_one]
   exact this
omit hk hC in
theorem inv_val (k : Nat) {z : Nat} (hz : z < EC.cp k) (h0 : z ≠ 0) : (EC.finv (EC.nf z : Fin (EC.cp k))).val * z % EC.cp k = 1 := by
 have hne : (EC.nf z : Fin (EC.cp k)) ≠ 0 := fun e => h0 (by
  have := congrArg Fin.val e
  rw [EC.val_zero] at this
  rwa [EC.val_nf _ hz] at this)
 have h3 := congrArg Fin.val (EC.mul_finv (EC.prime_cp k) hne)
 rw [EC.val_mul, EC.val_nf _ hz, EC.val_one (EC.prime_cp k).1] at h3
 rw [Nat.mul_comm]; exact h3
omit hk hC in
theorem mul_back {q i z : Nat} (h : i * z % q = 1) (u : Nat) : u * i % q * z % q = u % q := by
 rw [Nat.mod_mul_mod, Nat.mul_assoc, Nat.mul_mod, h, Nat.mul_one, Nat.mod_mod]
omit hk hC in
theorem gcd_one {q i z : Nat} (h : i * z % q = 1) : Nat.gcd z q = 1 := by
 have hd : Nat.gcd z q ∣ 1 := by
  rw [<- h]
  exact (Nat.dvd_mod_iff (Nat.gcd_dvd_right _ _)).2 (Nat.dvd_mul_left_of_dvd (Nat.gcd_dvd_left _ _) _)
 exact Nat.eq_one_of_dvd_one hd
omit hk hC in
theorem plain_pt (k : Nat) {Q : EC.Pt (EC.cp k)} {x y z i : Nat} (r : EC.Rep (EC.NT.tr ⟨x, y, z⟩ : EC.Tr (EC.cp k)) Q) (hz : z < EC.cp k) (h0 : z ≠ 0) (h : i * z % EC.cp k = 1) : ptx Q = x * i % EC.cp k /\ pty Q = y * i % EC.cp k /\ ptinf Q = false := by
 have hQ := EC.rep_pt (EC.fld (EC.prime_cp k) (EC.cp_odd k)) r (x := x * i % EC.cp k) (y := y * i % EC.cp k) (by show z % _ ≠ 0; rw [Nat.mod_eq_of_lt hz]; exact h0) (mul_back h _) (mul_back h _)
 rw [hQ]
 exact ⟨EC.val_nf _ (Nat.mod_lt _ (pos_cp k)), EC.val_nf _ (Nat.mod_lt _ (pos_cp k)), rfl⟩
theorem cPlainP {P : Program} (hP : P = Tryz.prog) (hD : Dv p d m s) {Q : EC.Pt (EC.cp k)} {X Y Z x y : Nat -> Nat} {inf : Bool} (t : TrW k Q X Y Z) (h : PtW k Q x y inf) :
 Con P 96 [.ptr 0 0, .agg (ws X 9 ++ ws Y 9 ++ ws Z 9)] (cvB k p a b n gx gy th d m s bits size leg) 3 [] (fun v _ _ => v = .agg (ws x 9 ++ ws y 9 ++ [.bool inf])) := by
 obtain ⟨e1, e2, e3, e4, e5⟩ := cv_facts hk hC
 have h2 := (EC.prime_cp k).1
 by_cases h0 : V 9 Z = 0
 ·have hQ : Q = .O := EC.rep_zero t.rep (by show V 9 Z % _ = 0; rw [h0, Nat.zero_mod])
  subst hQ
  obtain rfl : inf = true := h.inf
  have q1 : ws x 9 = ws (fun _ => 0) 9 := V_inj h.wX w_zero (by rw [v_zero]; exact h.vX)
  have q2 : ws y 9 = ws (fun _ => 0) 9 := V_inj h.wY w_zero (by rw [v_zero]; exact h.vY)
  rw [q1, q2]
  exact cPlain0 hP k p a b n gx gy th X Y Z d m s bits size leg t.wZ h0
 ·obtain ⟨i, wi, vi⟩ := exV 9 (EC.finv (EC.nf (V 9 Z) : Fin (EC.cp k))).val (Nat.lt_trans (Fin.isLt _) (cp_small hk))
  have hmul : V 9 i * V 9 Z % EC.cp k = 1 := by rw [vi]; exact inv_val k t.lZ h0
  have hil : V 9 i < EC.cp k := by rw [vi]; exact Fin.isLt _
  clear vi
  obtain ⟨q1, q2, q3⟩ := plain_pt k t.rep t.lZ h0 hmul
  obtain rfl : inf = false := h.inf.trans q3
  exact cPlain hP k p a b n gx gy th X Y Z d i x y m s bits size leg hD hC.wp (by rw [e1]; exact h2) t.wX t.wY t.wZ h0 wi (fun _ => by rw [e1]; exact ⟨hil, hmul⟩) (fun hg => absurd (by rw [e1]; exact gcd_one hmul) hg) h.wX h.wY (by rw [e1]; exact h.vX.trans q1) (by rw [e1]; exact h.vY.trans q2)
end
def dgt (x n j : Nat) : Nat := x / 2 ^ ((n - 1 - j) * 4) % 16
theorem bytesI64 {P : Program} (hP : P = Tryz.prog) : (P.info? 3).map (·.bytes) = some 8 := by
 subst hP; kernel_rfl
def RowV (l es : Nat) (t : TypeId) (i c : Nat) (C : List SV) (v : SV) (B : LL) : Prop := (v = .nils /\ B = [] /\ i = 0) \/ (v = .slice l 0 i c /\ B = [⟨l, C, t⟩] /\ i <= c /\ C.length = c * es /\ c <= maxLen)
theorem cWide {P : Program} (hP : P = Tryz.prog) : Con P 119 [.int .i64 4] [] 0 [] (fun v _ _ => v = .bool true) := by
 refine Con.of (hP ▸ tblOk) (hP ▸ Tryz.func119) rfl rfl rfl rfl (by decide) rfl rfl (bdLB_bd _ rfl) (blks_bd rfl) ?_
 intro A g K hA hg hK
 obtain ⟨_, _, cmp⟩ := A
 have e1 : cmp .geq 4 1 = true := geq_t hA (a := 4) (b := 1) (by decide)
 have e2 : cmp .leq 4 6 = true := leq_t hA (a := 4) (b := 6) (by decide)
 cbv
 rw [e1]
 cbv
 rw [e2]
 exact hK _ _ _ rfl
theorem cDigits {P : Program} (hP : P = Tryz.prog) (a : Nat -> Nat) (ha : Wn 9 a) (b n : Nat) (hb : 1 <= b /\ b <= 576) (hl : V 9 a < 2 ^ b) (hn : n = (b + 3) / 4) :
 Con P 91 [.agg (ws a 9), .int .i64 (Int.ofNat b), .int .i64 4] [] 0 [] (fun v L q => ∃ c C, v = .tup [.slice 1 0 n c, .int .i64 0] /\ L = [⟨0, ws a 9, 25⟩, ⟨1, C, 3⟩] /\ q = 2 /\ n <= c /\ C.length = c /\ (∀ j, j < n -> C[j]? = some (.int .i64 (Int.ofNat (dgt (V 9 a) n j)))) /\ ∀ m, bdLB m C = true) := by
 obtain ⟨bl, hbl⟩ := bl_ex (V 9 a)
 have hBits := cBits hP a ha bl hbl
 have hblb : bl <= b := by
  rcases Nat.lt_or_ge b bl with h | h
  ·have h1 := hbl.2 (by omega)
   have h2 := Nat.pow_le_pow_right (n := 2) (by decide) (show b <= bl - 1 by omega)
   omega
  ·exact h
 have hWide := cWide hP
 have hn1 : 1 <= n := by omega
 refine Con.of (hP ▸ tblOk) (hP ▸ Tryz.func91) rfl rfl rfl rfl (by decide) rfl rfl (bdLB_bd _ rfl) (blks_bd rfl) ?_
 intro A g K hA hg hK
 obtain ⟨bin, sh, cmp, _, cvt, _, nn, nz, bnot, _, _, _, _, _, _, _, _, _, sub⟩ := A
 have e1 : cmp .lss (Int.ofNat b) 1 = false := lss_f hA (b := 1) (by omega)
 have e2 : cmp .gtr (Int.ofNat b) 576 = false := gtr_f hA (b := 576) (by omega)
 have e3 : cmp .gtr (Int.ofNat bl) (Int.ofNat b) = false := gtr_f hA (by omega)
 have e4 : bnot true = false := bnot_of hA true
 obtain ⟨b4, hb4⟩ : ∃ x, x = b + 4 := ⟨_, rfl⟩
 obtain ⟨b3, hb3⟩ : ∃ x, x = b + 3 := ⟨_, rfl⟩
 have e5 : bin .add .i64 (Int.ofNat b) 4 = Int.ofNat b4 := (addI hA (a := b) (b := 4) (by omega)).trans (by rw [hb4])
 have e6 : bin .sub .i64 (Int.ofNat b4) 1 = Int.ofNat b3 := (subI hA (a := b4) (b := 1) (by omega) (by omega)).trans (by rw [hb3, hb4]; rfl)
 have e7 : bin .quo .i64 (Int.ofNat b3) 4 = Int.ofNat n := (quoI hA (a := b3) (b := 4) (by omega)).trans (by rw [hn, hb3])
 have e8 : nz 4 = true := nz_of hA (by decide)
 have e9 : bin .sub .i64 (Int.ofNat n) 1 = (n : Int) - 1 - (0 : Nat) := (subI hA (a := n) (b := 1) (by omega) (by omega)).trans (by simp; omega)
 have e10 : nn 4 = true := nn_t hA 4
 have e11 : sh .shl .u64 1 4 = 16 := (shlW hA (k := .u64) rfl 1 (s := 4) (by decide)).trans (by rfl)
 have e12 : bin .sub .u64 16 1 = 15 := (subW hA (k := .u64) rfl (a := 16) (b := 1) (by decide)).trans (by rfl)
 cbv
 refine call_val rfl hg rfl rfl hWide ?_
 rintro _ _ _ rfl
 cbv
 rw [e4]
 cbv
 rw [e1]
 cbv
 rw [e2]
 cbv
 refine call_val rfl hg rfl rfl hBits ?_
 rintro _ _ _ rfl
 cbv
 rw [e3]
 cbv
 rw [e5]
 cbv
 rw [e6, e8]
 cbv
 rw [e7, e9]
 obtain ⟨z0, hz0⟩ : ∃ z : Int, z = (n : Int) - 1 - (0 : Nat) := ⟨_, rfl⟩
 rw [<- hz0]
 refine ⟨Nat × List SV × Nat × Int × SV × LL, fun s => s.1 <= n /\ s.2.2.2.1 = (n : Int) - 1 - s.1 /\ RowV 1 1 3 s.1 s.2.2.1 s.2.1 s.2.2.2.2.1 s.2.2.2.2.2 /\ (∀ j, j < s.1 -> s.2.1[j]? = some (.int .i64 (Int.ofNat (dgt (V 9 a) n j)))) /\ (∀ m, bdLB m s.2.1 = true), fun s => n - s.1,
  fun s => [(1, .int .i64 (Int.ofNat b)), (2, .int .i64 4), (3, .ptr 0 0), (6, .nils), (7, .int .i64 0), (8, s.2.2.2.2.1), (9, .int .i64 s.2.2.2.1)],
  fun s => ⟨0, ws a 9, 25⟩ :: s.2.2.2.2.2, 2, ⟨(0, [], 0, z0, .nils, []), id, ⟨Nat.zero_le _, hz0, Or.inl ⟨rfl, rfl, rfl⟩, fun j h => absurd h (Nat.not_lt_zero j), fun _ => rfl⟩, ?_⟩, ?_⟩
 ·exact wkid
 rintro ⟨i, C, c, z, v, B⟩ ⟨hi, hz, hR, hCd, hCb⟩
 change i <= n at hi
 change z = (n : Int) - 1 - i at hz
 change RowV 1 1 3 i c C v B at hR
 change ∀ j, j < i -> C[j]? = some (.int .i64 (Int.ofNat (dgt (V 9 a) n j))) at hCd
 change ∀ m, bdLB m C = true at hCb
 by_cases hlt : i < n
 ·obtain ⟨at_, hat⟩ : ∃ x, x = n - 1 - i := ⟨_, rfl⟩
  obtain rfl : z = Int.ofNat at_ := by rw [hz, hat]; simp; omega
  obtain ⟨a4, ha4⟩ : ∃ x, x = at_ * 4 := ⟨_, rfl⟩
  have g1 : cmp .geq (Int.ofNat at_) 0 = true := geq_t hA (b := 0) (Nat.zero_le _)
  have g2 : bin .mul .i64 (Int.ofNat at_) 4 = Int.ofNat a4 := (mulI hA (a := at_) (b := 4) (by omega)).trans (by rw [ha4])
  obtain ⟨x, wx, vx⟩ := exV 9 (V 9 a / 2 ^ a4) (Nat.lt_of_le_of_lt (Nat.div_le_self _ _) (V_lt ha))
  have hShr := cShr hP a x ha wx a4 (by omega) vx
  obtain ⟨dd, hdd⟩ : ∃ y, y = dgt (V 9 a) n i := ⟨_, rfl⟩
  have hx0 : x 0 % 16 = dd := by
   rw [hdd]
   unfold dgt
   rw [<- hat, <- ha4, <- vx]
   have h1 : V 9 x % 18446744073709551616 = x 0 := by
    have := Dg.dig_num (b := 18446744073709551616) (by decide) 9 wx 0 (by decide)
    rw [<- this]
    unfold Dg.dig
    rw [Nat.pow_zero, Nat.div_one]; rfl
   rw [<- h1]
   exact Nat.mod_mod_of_dvd _ (by decide)
  have g3 : bin .and .u64 (Int.ofNat (x 0)) 15 = Int.ofNat dd := (andW hA (k := .u64) rfl (a := x 0) (b := 15) (wx 0 (by decide)) (by decide)).trans (by rw [<- hx0]; exact congrArg Int.ofNat (Nat.and_two_pow_sub_one_eq_mod (x 0) 4))
  have g4 : cvt .i64 (Int.ofNat dd) = Int.ofNat dd := cvtI hA (fun _ => by show dd < 2 ^ 63; omega) (fun h => by cases h)
  have g5 : bin .sub .i64 (Int.ofNat at_) 1 = (n : Int) - 1 - (i + 1 : Nat) := by
   have : bin .sub .i64 (Int.ofNat at_) 1 = IntKind.i64.wrap (Int.ofNat at_ - 1) := congrFun (congrFun (congrFun (congrFun (bin_of hA) .sub) .i64) (Int.ofNat at_)) 1
   rw [this, hat]
   simp only [IntKind.wrap, IntKind.signed, IntKind.bits]
   simp
   omega
  obtain ⟨z', hz'⟩ : ∃ z : Int, z = (n : Int) - 1 - (i + 1 : Nat) := ⟨_, rfl⟩
  rw [<- hz'] at g5
  rcases hR with ⟨rfl, rfl, rfl⟩ | ⟨rfl, rfl, hic, hCl, hc⟩
  ·cbv
   rw [g1]
   cbv
   rw [g2]
   cbv
   refine step_min hg rfl rfl rfl rfl (r := Int.ofNat a4) (if_neg (show ¬ (576 : Int) < (a4 : Int) by omega)).symm ?_
   cbv
   refine call_val rfl hg rfl rfl hShr ?_
   rintro _ _ _ rfl
   refine ⟨by simp [bd, bdL, ws, lst], ?_⟩
   cbv
   refine reg_cA (hP ▸ tblOk) hA hg (hP ▸ mixed) rfl rfl [(10, [])] rfl ?_
   cbv
   rw [e10]
   cbv
   rw [e11]
   cbv
   rw [e12]
   cbv
   rw [g3]
   cbv
   rw [g4]
   cbv
   refine step_append_nil (hP ▸ tblOk) hg rfl rfl (show tyT 64 = some _ from rfl) rfl (show tyT 3 = some _ from rfl) (bytesI64 hP) (by decide) rfl (show ev _ _ = some (.slice 3 0 1 1) from rfl) (show find _ 3 = some _ from rfl) (by exact Nat.le_refl 1) (by decide) (by decide) (by decide) ?_
   intro c' hc1 hc2
   obtain ⟨Y, hY⟩ : ∃ Y, Y = ([SV.int .i64 (Int.ofNat dd)].drop 0).take (1 * 1) ++ rep (c' - 1) [SV.int .i64 0] := ⟨_, rfl⟩
   rw [<- hY]
   cbv
   rw [g5]
   have hYl : Y.length = c' := by rw [hY]; simp [rep_length]; omega
   have hYb : ∀ m, bdLB m Y = true := fun m => by rw [hY]; exact bdLB_append rfl (rep_bdLB rfl _)
   refine ⟨(1, Y, c', z', .slice 1 0 1 c', [⟨1, Y, 3⟩]), fun l => if l = 1 then 4 else l, ⟨hn1, hz', Or.inr ⟨rfl, rfl, hc1, by rw [hYl, Nat.mul_one], hc2⟩, fun j hj => ?_, hYb⟩, (by show n - 1 < n - 0; omega), ?_⟩
   ·have hj : j < 1 := hj
    obtain rfl : j = 0 := by omega
    show Y[0]? = _
    rw [hY, hdd]; rfl
   ·exact weak_rho (by repeat' (first | exact trivial | refine ⟨rfl, rfl, ?_⟩)) ⟨rfl, rfl, rfl, rfl, by rw [renL_cl Y (hYb 0)]; rfl, rfl, rfl, hYb 2, trivial⟩ rfl rfl rfl
  ·cbv
   rw [g1]
   cbv
   rw [g2]
   cbv
   refine step_min hg rfl rfl rfl rfl (r := Int.ofNat a4) (if_neg (show ¬ (576 : Int) < (a4 : Int) by omega)).symm ?_
   cbv
   refine call_val rfl hg rfl rfl hShr ?_
   rintro _ _ _ rfl
   refine ⟨by simp [bd, bdL, ws, lst], ?_⟩
   cbv
   refine reg_cA (hP ▸ tblOk) hA hg (hP ▸ mixed) rfl rfl [(10, [])] rfl ?_
   cbv
   rw [e10]
   cbv
   rw [e11]
   cbv
   rw [e12]
   cbv
   rw [g3]
   cbv
   rw [g4]
   cbv
   refine step_append_own (hP ▸ tblOk) hg rfl rfl (show tyT 64 = some _ from rfl) rfl (show tyT 3 = some _ from rfl) (bytesI64 hP) (by decide) (show ev _ _ = some (.slice 1 0 i c) from rfl) (show find _ 1 = some _ from rfl) rfl hic hCl hc (show ev _ _ = some (.slice 3 0 1 1) from rfl) (show find _ 3 = some _ from rfl) (by exact Nat.le_refl 1) rfl (by simp only [maxLen]; omega) (by omega) ?_
   intro c' tail h1 h2 h3 h4
   obtain ⟨Y, hY⟩ : ∃ Y, Y = C.take (i * 1) ++ ([SV.int .i64 (Int.ofNat dd)].drop 0).take (1 * 1) ++ tail := ⟨_, rfl⟩
   rw [<- hY]
   obtain ⟨i1, hi1⟩ : ∃ i1, i1 = i + 1 := ⟨_, rfl⟩
   rw [<- hi1] at h1 h3 ⊢
   cbv
   rw [g5]
   have hYl : Y.length = c' := by
    rw [hY, List.length_append, List.length_append, h3, List.length_take, hCl]
    simp; omega
   have hYb : ∀ m, bdLB m Y = true := fun m => by rw [hY]; exact bdLB_append (bdLB_append (bdLB_take (hCb m)) rfl) (h4 m (hCb m) rfl)
   refine ⟨(i1, Y, c', z', .slice 1 0 i1 c', [⟨1, Y, 3⟩]), fun l => if l = 1 then 4 else l, ⟨by show i1 <= n; omega, by rw [hi1]; exact hz', Or.inr ⟨rfl, rfl, h1, by rw [hYl, Nat.mul_one], h2⟩, fun j hj => ?_, hYb⟩, (by show n - i1 < n - i; omega), ?_⟩
   ·have hj : j < i1 := hj
    show Y[j]? = _
    rw [hY, Nat.mul_one, List.append_assoc]
    by_cases hji : j < i
    ·rw [List.getElem?_append_left (by rw [List.length_take, hCl]; omega), List.getElem?_take, if_pos hji]
     exact hCd j hji
    ·obtain rfl : j = i := by omega
     rw [List.getElem?_append_right (by rw [List.length_take, hCl]; omega), List.length_take, hCl, show j - min j (c * 1) = 0 by omega, hdd]
     rfl
   ·exact weak_rho (by repeat' (first | exact trivial | refine ⟨rfl, rfl, ?_⟩)) ⟨rfl, rfl, rfl, rfl, by rw [renL_cl Y (hYb 0)]; rfl, rfl, rfl, hYb 2, trivial⟩ rfl rfl rfl
 ·obtain rfl : i = n := by omega
  have g1 : cmp .geq z 0 = false := by
   have : cmp .geq z 0 = boolCmp .geq z 0 := congrFun (congrFun (congrFun (cmp_of hA) .geq) z) 0
   rw [this]
   show decide (z ≥ 0) = false
   exact decide_eq_false (by rw [hz]; omega)
  rcases hR with ⟨rfl, rfl, rfl⟩ | ⟨rfl, rfl, hic, hCl, hc⟩
  ·omega
  cbv
  rw [g1]
  cbv
  exact hK _ _ _ ⟨c, C, rfl, rfl, rfl, hic, by rw [hCl, Nat.mul_one], hCd, hCb⟩
end Go.Proofs.YtdhmihfefgcbeaaGreat
end
