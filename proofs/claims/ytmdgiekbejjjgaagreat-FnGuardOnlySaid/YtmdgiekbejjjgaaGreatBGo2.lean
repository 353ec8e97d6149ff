/- Part 2 of what is shown for the law Go, whatever the input; no condition of its own. -/
import Derived.Test.YtmdgiekbejjjgaaGreatBGo1
set_option linter.unusedVariables false
set_option linter.unusedSimpArgs false
set_option linter.unnecessarySimpa false
set_option maxRecDepth 100000
namespace Go.Proofs.YtmdgiekbejjjgaaGreat
open Go T
noncomputable section

variable {lo n m k i:Nat}{a:Pq}{c:Nq}{y x t z w:Int}{S:ByteArray}{f:Bool}{h:Heap}{d b:Pq}{p u:Nq}{r:V×Heap}{s:Nq}{h':Heap}{v:V}{l:List V}{j g G:Nat}{A B a0 a1:Pq}{C c0:Nq}{F:Bool}
def D4 lo n m k a i c x y z t w q S f h:=
 LA 108 Tryz.f108 22131111 0 11111 lo ⟨[(0,(CF n m k)),(5,.lp 5 0),(39,.sl 2 a i c),(40,Iv x),(41,Iv y)],[(5,(OB z t w q S f))],h⟩
theorem D4.e {q:Int} :
  D4 lo n m k a i c y x t z w q S f h=br (decide (x<y)) (Av x i (eO a λv=>eO (ld h v.1 (v.2+x.toNat) 0 2) λv=>eC v λv l=>eI .i64 v λv=>eC l λl o=>eI .i64 l λl=>eN o (Ak (Ae lo 145 [CF n m k,Iv z,Iv 2,Iv x,An v l] h) λv l=>eU v λv=>eN v (D4 lo n m k a i c y (AD (x+1)) t z w q S f l)))) (Em h) :=
 lE
def De lo a n c x y m b k p d i u h:=
 LA 116 Tryz.f116 221311 0 111 lo ⟨[(2,.lp 2 0),(3,.lp 3 0),(12,.sl 2 a n c),(13,Iv x),(14,Iv y)],[(2,[.sl m b k p]),(3,(Cj d i u))],h⟩
theorem De.e :
  De lo a n p y x k d i u b m c h=br (decide (x<y)) (Av x n (eO a λv=>eO (ld h v.1 (v.2+x.toNat) 0 2) λv=>eC v λv l=>eS 6 v λv o s=>eC l λl z=>eS 6 l λl w q=>eN z (Ak (Ae lo 129 [Di v o s] h) λv o=>eA v λv=>eC v λv s=>eS 6 v λv z g=>eN s (Ak (Ae lo 117 (BU l w q) o) λl o=>eS 6 l λl s w=>Aj 2 (o ++ [.rows 2 54 false [KW v z g l s w]]) (.sl 2 (some (o.length,0)) 1 (some 1)) λq=>CC lo 54 2 48 (.sl 2 b m c) q (o ++ [.rows 2 54 false [KW v z g l s w]]) λv l=>eS 2 v λv o s=>De lo a n p y (AD (x+1)) k d i u v o s l)))) (some ((At b m c),h)) :=
 lE
def DM lo a n c b m p x y h:=
 LA 117 Tryz.f117 221311 0 111 lo ⟨[(3,.sl 6 a n c),(9,.sl 6 b m p),(10,Iv x),(11,Iv y)],[],h⟩
theorem DM.e :
  DM lo a n c b m p y x h=br (decide (x<y)) (Av x m (eO b λv=>eO (ld h v.1 (v.2+x.toNat) 0 6) λv=>eC v λv l=>eI .i64 v λv=>eC l λl o=>eI .i64 l λl=>eC o λo s=>eI .i64 o λo=>eC s λs z=>eS 2 s λs u w=>eC z λz q=>eT z λz=>eC q λq g=>eBv q λq=>eN g (Ak (Ae lo 73 [A3 v l o s u w z q] h) λv l=>eA v λv=>eC v λv o=>eI .i64 v λv=>eC o λo s=>eI .i64 o λo=>eC s λs z=>eI .i64 s λs=>eC z λz u=>eS 2 z λz w q=>eC u λu g=>eT u λu=>eC g λg i=>eBv g λg=>eN i (Aj 6 (l ++ [.rows 6 49 false [CS v o s z w q u g]]) (.sl 6 (some (l.length,0)) 1 (some 1)) λi=>CC lo 49 6 72 (.sl 6 a n c) i (l ++ [.rows 6 49 false [CS v o s z w q u g]]) λv l=>eS 6 v λv o s=>DM lo v o s b m p y (AD (x+1)) l)))) (some (.sl 6 a n c,h)) :=
 lE
theorem EF (hk:(AB a n c none (some (Iv (n:Int))) (some (Iv (n:Int))) λv l o=>some (.sl 2 v l o,h))=some r) :
  Ae lo 118 (Cj a n c) h=some r :=
 eK Tryz.func118 hk
theorem CM (hk:(br (a.isNone) (some (.sl 0 none 0 (some 0),h)) (Aj 2 (h ++ [.rows 2 30 false []]) (.sl 2 a n c) λv=>CC lo 30 2 16 (.sl 2 (some (h.length,0)) 0 (some 0)) v (h ++ [.rows 2 30 false []]) λv l=>eS 2 v λv o s=>some (.sl 2 v o s,l)))=some r) :
  Ae lo 119 (Cj a n c) h=some r :=
 eK Tryz.func119 hk
def EX lo f x a n c b m p h:=
 LA 120 Tryz.f120 221311 0 111 lo ⟨[(2,.lp 2 0),(3,.lp 3 0),(4,.bool f),(5,Iv x)],[(2,(BU a n c)),(3,(BU b m p))],h⟩
theorem EX.e {lo n m:Nat}{f:Bool}{x:Int}{a b:Pq}{c p:Nq}{h:Heap} :
  EX lo f x a n c b m p h=br (decide (x<(n:Int))) (Av x n (eO a λv=>eO (ld h v.1 (v.2+x.toNat) 0 6) λv=>eC v λv l=>eI .i64 v λv=>eC l λl o=>eI .i64 l λl=>eC o λo s=>eI .i64 o λo=>eC s λs y=>eS 2 s λs z u=>eC y λy w=>eT y λy=>eC w λw q=>eBv w λw=>eN q (Av x m (eO b λq=>eO (ld h q.1 (q.2+x.toNat) 0 6) λq=>eC q λq g=>eI .i64 q λq=>eC g λg i=>eI .i64 g λg=>eC i λi j=>eI .i64 i λi=>eC j λj k=>eS 2 j λj t d=>eC k λk e=>eT k λk=>eC e λe A=>eBv e λe=>eN A (Ak (Ae lo 40 [A3 v l o s z u y w,A3 q g i j t d k e] h) λv l=>eB v (EX lo f (AD (x+1)) a n c b m p l) (Bv l)))))) (Em h) :=
 lE
theorem PI (hk:(Ak (Ae h.length 154 (AI y) h) λv l=>eA v λv=>eC v λv c=>eS 2 v λv n a=>eN c (some (.agg [Iv x,Iv 0,.sl 2 v n a,.sl 0 none 0 (some 0),.sl 1 (some (l.length,0)) 3 (some 3),.bool false],(l ++ [.rows 1 50 false [[.sl 0 none 0 (some 0)],[.sl 0 none 0 (some 0)],[.sl 0 none 0 (some 0)]]]))))=some r) :
  Ae lo 121 (BJ x y) h=some r :=
 eK Tryz.func121 hk
theorem NB (hk:(some ((At (some (h.length,0)) 4 (some 4)),(h ++ [.rows 2 30 false [BJ 0 0,BJ 0 0,BJ 0 0,BJ 0 0]])))=some r) :
  Ae lo 122 [] h=some r :=
 eK Tryz.func122 hk
theorem K5 {e:Pq} (hk:(Ak (Ae lo 41 (CG x 0 (AD ((n:Int) - 1))) h) λv l=>eB v (br (y==1) (Ak (Ae lo 155 [Al b m c a n p d k u e i s,BF y x z t S f] l) λv o=>eU v λv=>eC v λv w=>eA v λv=>eC v λv q=>eS 6 v λv g j=>eC q λq A=>eS 5 q λq B C=>eC A λA D=>eS 9 A λA E G=>eC D λD H=>eS 5 D λD J K=>eN H (eC w λw H=>eB w (eN H (some (.tup [Al v g j q B C A E G D J K,.bool true],o))) (eN H (some (.tup [Al v g j q B C A E G D J K,.bool false],o))))) (br (y==2) (Ak (Ae lo 156 [Al b m c a n p d k u e i s,BF y x z t S f] l) λv o=>eU v λv=>eC v λv w=>eA v λv=>eC v λv q=>eS 6 v λv g j=>eC q λq A=>eS 5 q λq B C=>eC A λA D=>eS 9 A λA E G=>eC D λD H=>eS 5 D λD J K=>eN H (eC w λw H=>eB w (eN H (some (.tup [Al v g j q B C A E G D J K,.bool true],o))) (eN H (some (.tup [Al v g j q B C A E G D J K,.bool false],o))))) (br (y==3) (Ak (Ae lo 157 [Al b m c a n p d k u e i s,BF y x z t S f] l) λv o=>eU v λv=>eC v λv w=>eA v λv=>eC v λv q=>eS 6 v λv g j=>eC q λq A=>eS 5 q λq B C=>eC A λA D=>eS 9 A λA E G=>eC D λD H=>eS 5 D λD J K=>eN H (eC w λw H=>eB w (eN H (some (.tup [Al v g j q B C A E G D J K,.bool true],o))) (eN H (some (.tup [Al v g j q B C A E G D J K,.bool false],o))))) (br (y==4) (Ak (Ae lo 158 [Al b m c a n p d k u e i s,BF y x z t S f] l) λv o=>eU v λv=>eC v λv w=>eA v λv=>eC v λv q=>eS 6 v λv g j=>eC q λq A=>eS 5 q λq B C=>eC A λA D=>eS 9 A λA E G=>eC D λD H=>eS 5 D λD J K=>eN H (eC w λw H=>eB w (eN H (some (.tup [Al v g j q B C A E G D J K,.bool true],o))) (eN H (some (.tup [Al v g j q B C A E G D J K,.bool false],o))))) (Av x n (eO a λv=>eO (ld l v.1 (v.2+x.toNat) 2 1) λv=>eC v λv o=>eN o (eI .i64 v λv=>br (decide (v>0)) (some (.tup [Al b m c a n p d k u e i s,.bool false],l)) (Ak (Ae lo 41 (CG z 0 2) l) λv o=>eB v (Av x n (eO a λv=>eO (st lo o v.1 (v.2+x.toNat) 0 (AI z)) λv=>some (.tup [Al b m c a n p d k u e i s,.bool true],v))) (some (.tup [Al b m c a n p d k u e i s,.bool false],o)))))))))) (some (.tup [Al b m c a n p d k u e i s,.bool false],l)))=some r) :
  Ae lo 123 [Al b m c a n p d k u e i s,BF y x z t S f] h=some r :=
 eK Tryz.func123 hk
theorem MF {e:Pq} (hk:(Ak (Ae lo 41 (CG x 0 2) h) λv l=>eB v (Av x n (eO a λv=>eO (ld l v.1 (v.2+x.toNat) 0 6) λv=>eC v λv o=>eI .i64 v λv=>eC o λo w=>eI .i64 o λo=>eC w λw q=>eS 2 w λw g j=>eC q λq A=>eS 6 q λq B C=>eC A λA D=>eS 1 A λA E G=>eC D λD H=>eBv D λD=>eN H (br (z==6) (Ak (Ae lo 159 [At w g j,Iv y] l) λH J=>eB H (Ak (Ae lo 160 [At w g j,Iv y] J) λH K=>eA H λH=>eC H λH L=>eS 2 H λH M N=>eN L (Ak (Ae lo 161 [Bl v o H M N q B C A E G D] K) λH K=>eA H λH=>eC H λH L=>eI .i64 H λH=>eC L λL M=>eI .i64 L λL=>eC M λM N=>eS 2 M λM O P=>eC N λN Q=>eS 6 N λN U W=>eC Q λQ Y=>eS 1 Q λQ Z v0=>eC Y λY v1=>eBv Y λY=>eN v1 (Av x n (eO a λv1=>eO (st lo K v1.1 (v1.2+x.toNat) 0 (CN H L M O P N U W Q Z v0 Y)) λH=>some (.tup [Al a n c b m p d k u e i s,.bool true],H))))) (Av x n (eO a λH=>eO (st lo J H.1 (H.2+x.toNat) 0 (CN v o w g j q B C A E G D)) λH=>some (.tup [Al a n c b m p d k u e i s,.bool false],H)))) (br (z==7) (Ak (Ae lo 162 [Bl v o w g j q B C A E G D,Iv y] l) λH J=>eB H (Ak (Ae lo 163 [At w g j,Iv y] J) λH K=>eA H λH=>eC H λH L=>eS 2 H λH M N=>eN L (Ak (Ae lo 161 [Bl v o H M N q B C A E G true] K) λH K=>eA H λH=>eC H λH L=>eI .i64 H λH=>eC L λL M=>eI .i64 L λL=>eC M λM N=>eS 2 M λM O P=>eC N λN Q=>eS 6 N λN U W=>eC Q λQ Y=>eS 1 Q λQ Z v0=>eC Y λY v1=>eBv Y λY=>eN v1 (Av x n (eO a λv1=>eO (st lo K v1.1 (v1.2+x.toNat) 0 (CN H L M O P N U W Q Z v0 Y)) λH=>some (.tup [Al a n c b m p d k u e i s,.bool true],H))))) (Av x n (eO a λH=>eO (st lo J H.1 (H.2+x.toNat) 0 (CN v o w g j q B C A E G D)) λH=>some (.tup [Al a n c b m p d k u e i s,.bool false],H)))) (br (z==8) (br (decide ((g:Int)<4)) (Ak (Ae lo 164 [At w g j] l) λH J=>eA H λH=>eC H λH K=>eS 2 H λH L M=>eN K (Av x n (eO a λK=>eO (st lo J K.1 (K.2+x.toNat) 0 (CN v o H L M q B C A E G D)) λH=>some (.tup [Al a n c b m p d k u e i s,.bool true],H)))) (Av x n (eO a λH=>eO (st lo l H.1 (H.2+x.toNat) 0 (CN v o w g j q B C A E G D)) λH=>some (.tup [Al a n c b m p d k u e i s,.bool false],H)))) (Ak (Ae lo 41 (CG y 0 2) l) λH J=>eB H (Ak (Ae lo 165 [Bl v o w g j q B C A E G D,Iv y] J) λH K=>eB H (Ak (Ae lo 166 [Bl v o w g j q B C A E G D,Iv y] K) λH L=>eA H λH=>eC H λH M=>eI .i64 H λH=>eC M λM N=>eI .i64 M λM=>eC N λN O=>eS 2 N λN P Q=>eC O λO U=>eS 6 O λO W Y=>eC U λU Z=>eS 1 U λU v0 v1=>eC Z λZ v2=>eBv Z λZ=>eN v2 (Av x n (eO a λv2=>eO (st lo L v2.1 (v2.2+x.toNat) 0 (CN H M N P Q O W Y U v0 v1 Z)) λH=>some (.tup [Al a n c b m p d k u e i s,.bool true],H)))) (Av x n (eO a λH=>eO (st lo K H.1 (H.2+x.toNat) 0 (CN v o w g j q B C A E G D)) λH=>some (.tup [Al a n c b m p d k u e i s,.bool false],H)))) (Av x n (eO a λH=>eO (st lo J H.1 (H.2+x.toNat) 0 (CN v o w g j q B C A E G D)) λv=>some (.tup [Al a n c b m p d k u e i s,.bool false],v))))))))) (some (.tup [Al a n c b m p d k u e i s,.bool false],l)))=some r) :
  Ae lo 124 [Al a n c b m p d k u e i s,BF z x y t S f] h=some r :=
 eK Tryz.func124 hk
theorem PF {e:Pq} (hk:(br (z==10) (Ak (Ae lo 41 (CG x 0 2) h) λv l=>eB v (Ak (Ae lo 41 (CG t 0 2) l) λv o=>eB v (br (x==t) (some (.tup [Al a n c b k p d m s e i u,.bool false],o)) (br (decide ((m:Int)>=12)) (some (.tup [Al a n c b k p d m s e i u,.bool false],o)) (Av x n (eO a λv=>eO (ld o v.1 (v.2+x.toNat) 3 1) λv=>eC v λv w=>eN w (eS 6 v λv v w=>Ak (Ae lo 41 (CG y 0 (AD ((v:Int) - 1))) o) λv w=>eB v (Av x n (eO a λv=>eO (ld w v.1 (v.2+x.toNat) 3 1) λv=>eC v λv q=>eN q (eS 6 v λv q g=>Av y q (eO v λv=>eO (ld w v.1 (v.2+y.toNat) 0 6) λv=>eC v λv q=>eI .i64 v λv=>eC q λq g=>eI .i64 q λq=>eC g λg j=>eI .i64 g λg=>eC j λj A=>eS 2 j λj B C=>eC A λA D=>eT A λA=>eC D λD E=>eBv D λD=>eN E (Ak (Ae lo 167 [A3 v q g j B C A D] w) λv q=>eA v λv=>eC v λv g=>eI .i64 v λv=>eC g λg j=>eI .i64 g λg=>eC j λj A=>eI .i64 j λj=>eC A λA B=>eS 2 A λA C D=>eC B λB E=>eT B λB=>eC E λE G=>eBv E λE=>eN G (Aj 9 (q ++ [.rows 9 91 false [OA x t y v g j A C D B E]]) (.sl 9 (some (q.length,0)) 1 (some 1)) λG=>CC lo 91 9 96 (.sl 9 d m s) G (q ++ [.rows 9 91 false [OA x t y v g j A C D B E]]) λv q=>eS 9 v λv g j=>some (.tup [Al a n c b k p v g j e i u,.bool true],q))))))) (some (.tup [Al a n c b k p d m s e i u,.bool false],w))))))) (some (.tup [Al a n c b k p d m s e i u,.bool false],o))) (some (.tup [Al a n c b k p d m s e i u,.bool false],l))) (Ak (Ae lo 41 (CG x 0 (AD ((m:Int) - 1))) h) λv l=>eB v (Av x m (eO d λv=>eO (ld l v.1 (v.2+x.toNat) 0 9) λv=>eC v λv o=>eI .i64 v λv=>eC o λo w=>eI .i64 o λo=>eC w λw q=>eI .i64 w λw=>eC q λq g=>eI .i64 q λq=>eC g λg j=>eI .i64 g λg=>eC j λj A=>eI .i64 j λj=>eC A λA B=>eS 2 A λA C D=>eC B λB E=>eT B λB=>eC E λE G=>eBv E λE=>eN G (br (z==13) (br (z==12) (some (.tup [Al a n c b k p d m s e i u,.bool true],l)) (Av o n (eO a λG=>eO (ld l G.1 (G.2+o.toNat) 0 6) λG=>eC G λG H=>eI .i64 G λG=>eC H λH J=>eI .i64 H λH=>eC J λJ K=>eS 2 J λJ L M=>eC K λK N=>eS 6 K λK O P=>eC N λN Q=>eS 1 N λN U W=>eC Q λQ Y=>eBv Q λQ=>eN Y (Ak (Ae lo 168 [Bl G H J L M K O P N U W Q,Iv v,Iv w,A3 q g j A C D B E] l) λG H=>eU G λG=>eC G λG J=>eA G λG=>eC G λG K=>eI .i64 G λG=>eC K λK L=>eI .i64 K λK=>eC L λL M=>eS 2 L λL N O=>eC M λM P=>eS 6 M λM Q U=>eC P λP W=>eS 1 P λP Y Z=>eC W λW v0=>eBv W λW=>eN v0 (eC J λJ v0=>eB J (eN v0 (Av o n (eO a λJ=>eO (st lo H J.1 (J.2+o.toNat) 0 (CN G K L N O M Q U P Y Z W)) λG=>some (.tup [Al a n c b k p d m s e i u,.bool true],G)))) (eN v0 (some (.tup [Al a n c b k p d m s e i u,.bool true],H)))))))) (AB d m s none (some (Iv x)) none λG H J=>Aj 9 (l ++ [.rows 9 91 false []]) (.sl 9 G H J) λG=>CC lo 91 9 96 (.sl 9 (some (l.length,0)) 0 (some 0)) G (l ++ [.rows 9 91 false []]) λG H=>eS 9 G λG J K=>AB d m s (some (Iv (AD (x+1)))) none none λL M N=>Aj 9 H (.sl 9 L M N) λL=>CC lo 91 9 96 (.sl 9 G J K) L H λG H=>eS 9 G λG J K=>br (z==12) (some (.tup [Al a n c b k p G J K e i u,.bool true],H)) (Av o n (eO a λL=>eO (ld H L.1 (L.2+o.toNat) 0 6) λL=>eC L λL M=>eI .i64 L λL=>eC M λM N=>eI .i64 M λM=>eC N λN O=>eS 2 N λN P Q=>eC O λO U=>eS 6 O λO W Y=>eC U λU Z=>eS 1 U λU v0 v1=>eC Z λZ v2=>eBv Z λZ=>eN v2 (Ak (Ae lo 168 [Bl L M N P Q O W Y U v0 v1 Z,Iv v,Iv w,A3 q g j A C D B E] H) λv w=>eU v λv=>eC v λv q=>eA v λv=>eC v λv g=>eI .i64 v λv=>eC g λg j=>eI .i64 g λg=>eC j λj A=>eS 2 j λj B C=>eC A λA D=>eS 6 A λA E H=>eC D λD L=>eS 1 D λD M N=>eC L λL O=>eBv L λL=>eN O (eC q λq O=>eB q (eN O (Av o n (eO a λq=>eO (st lo w q.1 (q.2+o.toNat) 0 (CN v g j B C A E H D M N L)) λv=>some (.tup [Al a n c b k p G J K e i u,.bool true],v)))) (eN O (some (.tup [Al a n c b k p G J K e i u,.bool true],w))))))))))) (some (.tup [Al a n c b k p d m s e i u,.bool false],l))))=some r) :
  Ae lo 125 [Al a n c b k p d m s e i u,BF z x t y S f] h=some r :=
 eK Tryz.func125 hk
theorem Lk (hk:(br (x==x) (Bv h) (Em h))=some (v,h')) (hn:noId v=true:=by rfl) :
  Ae lo 126 (AI x) h=some (v,h) :=
 eD Tryz.func126 hk hn
def A7 lo a n c m l x y z h:=
 LA 127 Tryz.f127 22131 0 11 lo ⟨[(0,.sl 2 a n c),(1,.fn m l),(4,Iv x),(7,Iv y),(8,Iv z)],[],h⟩
theorem A7.e :
  A7 lo a n c m l z y x h=br (decide (x<y)) (Av x n (eO a λv=>eO (ld h v.1 (v.2+x.toNat) 0 2) λv=>eC v λv o=>eI .i64 v λv=>eC o λo s=>eI .i64 o λo=>eN s (Ak (Ae lo m (Db [An v o] l) h) λv o=>eB v (some (Iv x,o)) (A7 lo a n c m l z y (AD (x+1)) o)))) (some (Iv (-1),h)) :=
 lE
def Gi lo a n c x f b m p y z h:=
 LA 132 Tryz.f132 22131 0 11 lo ⟨[(0,.sl 6 a n c),(1,Iv x),(4,.bool f),(7,.sl 6 b m p),(8,Iv y),(9,Iv z)],[],h⟩
theorem Gi.e :
  Gi lo a n c y f b m p z x h=br (decide (x<z)) (Av x m (eO b λv=>eO (ld h v.1 (v.2+x.toNat) 0 6) λv=>eC v λv l=>eI .i64 v λv=>eC l λl o=>eI .i64 l λl=>eC o λo s=>eI .i64 o λo=>eC s λs u=>eS 2 s λs w q=>eC u λu g=>eT u λu=>eC g λg i=>eBv g λg=>eN i (Ak (Ae lo 82 [A3 v l o s w q u g] h) λv s=>eB v (br (o==y) (AB a n c none (some (Iv x)) none λv u w=>Ak (Ae lo 152 [.sl 6 v u w,An l o] s) λv l=>eB v (Bv l) (Gi lo a n c y f b m p z (AD (x+1)) l)) (Bv s)) (Bv s)))) (br (decide ((n:Int)<=60)) (Em h) (Bv h)) :=
 lE
def Bo lo a n c x b m p y z h:=
 LA 133 Tryz.f133 221311 0 111 lo ⟨[(0,.sl 1 a n c),(3,Iv x),(9,.sl 1 b m p),(10,Iv y),(11,Iv z)],[],h⟩
def AR lo a n c b m p x y h:=
 LA 133 Tryz.f133 22131111 2 11111 lo ⟨[(6,.sl 6 a n c),(25,.sl 1 b m p),(26,Iv x),(27,Iv y)],[],h⟩
theorem Bo.e :
  Bo lo a n c y b m p z x h=br (decide (x<z)) (Av x m (eO b λv=>eO (ld h v.1 (v.2+x.toNat) 0 1) λv=>eC v λv l=>eN l (eS 6 v λv v l=>br (decide (AD (y+(v:Int))<0)) none (Bo lo a n c (AD (y+(v:Int))) b m p z (AD (x+1)) h)))) (Ak (Ae lo 170 [.sl 0 none 0 (some 0),Iv y] h) λv l=>eS 6 v λv o s=>AR lo v o s a n c (n:Int) 0 l) :=
 lE
theorem AR.e :
  AR lo a n c b m p y x h=br (decide (x<y)) (Av x m (eO b λv=>eO (ld h v.1 (v.2+x.toNat) 0 1) λv=>eC v λv l=>eN l (eS 6 v λv l o=>Aj 6 h (.sl 6 v l o) λv=>CC lo 49 6 72 (.sl 6 a n c) v h λv l=>eS 6 v λv o s=>AR lo v o s b m p y (AD (x+1)) l))) (some (.sl 6 a n c,h)) :=
 lE
def AH lo a n c m l f b k p x y h:=
 LA 134 Tryz.f134 221311 0 111 lo ⟨[(1,.sl 6 a n c),(2,.fn m l),(6,.bool f),(15,.sl 6 b k p),(16,Iv x),(17,Iv y)],[],h⟩
theorem AH.e {lo n m k:Nat}{a b:Pq}{c p:Nq}{l:List V}{f:Bool}{y x:Int}{h:Heap} :
  AH lo a n c m l f b k p y x h=br (decide (x<y)) (Av x k (eO b λv=>eO (ld h v.1 (v.2+x.toNat) 0 6) λv=>eC v λv o=>eI .i64 v λv=>eC o λo s=>eI .i64 o λo=>eC s λs z=>eI .i64 s λs=>eC z λz u=>eS 2 z λz w q=>eC u λu g=>eT u λu=>eC g λg i=>eBv g λg=>eN i (Av x n (eO a λi=>eO (ld h i.1 (i.2+x.toNat) 0 6) λi=>eC i λi j=>eI .i64 i λi=>eC j λj t=>eI .i64 j λj=>eC t λt d=>eI .i64 t λt=>eC d λd e=>eS 2 d λd A B=>eC e λe C=>eT e λe=>eC C λC D=>eBv C λC=>eN D (Ak (Ae lo m (Db [A3 v o s z w q u g,A3 i j t d A B e C] l) h) λv o=>eB v (AH lo a n c m l f b k p y (AD (x+1)) o) (Bv o)))))) (Em h) :=
 lE
def AZ lo a n c m l x y z h:=
 LA 135 Tryz.f135 22131 0 11 lo ⟨[(0,.sl 5 a n c),(1,.fn m l),(4,Iv x),(7,Iv y),(8,Iv z)],[],h⟩
theorem AZ.e :
  AZ lo a n c m l z y x h=br (decide (x<y)) (Av x n (eO a λv=>eO (ld h v.1 (v.2+x.toNat) 0 5) λv=>eC v λv o=>eI .i64 v λv=>eC o λo s=>eS 2 o λo b u=>eC s λs w=>eI .i64 s λs=>eC w λw p=>eI .i64 w λw=>eC p λp q=>eI .i64 p λp=>eN q (Ak (Ae lo m (Db [XA v o b u s w p] l) h) λv o=>eB v (some (Iv x,o)) (AZ lo a n c m l z y (AD (x+1)) o)))) (some (Iv (-1),h)) :=
 lE
def AX lo a n c m l x y z h:=
 LA 136 Tryz.f136 22131 0 11 lo ⟨[(0,.sl 9 a n c),(1,.fn m l),(4,Iv x),(7,Iv y),(8,Iv z)],[],h⟩
theorem AX.e :
  AX lo a n c m l z y x h=br (decide (x<y)) (Av x n (eO a λv=>eO (ld h v.1 (v.2+x.toNat) 0 9) λv=>eC v λv o=>eI .i64 v λv=>eC o λo s=>eI .i64 o λo=>eC s λs b=>eI .i64 s λs=>eC b λb u=>eI .i64 b λb=>eC u λu w=>eI .i64 u λu=>eC w λw p=>eI .i64 w λw=>eC p λp q=>eS 2 p λp g i=>eC q λq j=>eT q λq=>eC j λj k=>eBv j λj=>eN k (Ak (Ae lo m (Db [XB v o s b u w p g i q j] l) h) λv o=>eB v (some (Iv x,o)) (AX lo a n c m l z y (AD (x+1)) o)))) (some (Iv (-1),h)) :=
 lE
def Br lo a n c b m p f x y h:=
 LA 137 Tryz.f137 221311 0 111 lo ⟨[(0,.sl 2 a n c),(1,.sl 2 b m p),(4,.bool f),(12,Iv x),(13,Iv y)],[],h⟩
theorem Br.e :
  Br lo a n c b m p f y x h=br (decide (x<y)) (Av x n (eO a λv=>eO (ld h v.1 (v.2+x.toNat) 0 2) λv=>eC v λv l=>eI .i64 v λv=>eC l λl o=>eI .i64 l λl=>eN o (Av x m (eO b λo=>eO (ld h o.1 (o.2+x.toNat) 0 2) λo=>eC o λo s=>eI .i64 o λo=>eC s λs z=>eI .i64 s λs=>eN z (br ((v==o)&&((l==s)&&true)) (Br lo a n c b m p f y (AD (x+1)) h) (Bv h)))))) (Em h) :=
 lE
def Bi lo a n c m b k p f x y h:=
 LA 137 Tryz.f137 221311 0 111 lo ⟨[(0,.sl 2 a n c),(1,.sl m b k p),(4,.bool f),(12,Iv x),(13,Iv y)],[],h⟩
theorem Bi.e :
  Bi lo a n c m b k p f y x h=br (decide (x<y)) (Av x n (eO a λv=>eO (ld h v.1 (v.2+x.toNat) 0 2) λv=>eC v λv l=>eI .i64 v λv=>eC l λl o=>eI .i64 l λl=>eN o (Av x k (eO b λo=>A4 ((m.beq (2:Nat))&&true) (eO (ld h o.1 (o.2+x.toNat) 0 2) λo=>eC o λo s=>eI .i64 o λo=>eC s λs z=>eI .i64 s λs=>eN z (br ((v==o)&&((l==s)&&true)) (Bi lo a n c m b k p f y (AD (x+1)) h) (Bv h))))))) (Em h) :=
 lE
def B8 lo x a n c b m p d k u e i s j A g C G B H D J a0 P c0 n0 a1 n1 c1 n2 a2 n3 c2 n4 a3 n5 c3 n6 a4 n7 c4 a5 n8 c5 h:=
 LA 138 Tryz.f138 221311 0 111 lo ⟨[(1,.lp 1 0),(2,.lp 2 0),(3,.lp 3 0),(4,Iv x)],[(1,(C4 a n c b m p d k u e i s)),(2,[.sl j A g C,.sl G B H D,.sl J a0 P c0,.sl n0 a1 n1 c1]),(3,[.sl n2 a2 n3 c2,.sl n4 a3 n5 c3,.sl n6 a4 n7 c4,.sl 5 a5 n8 c5])],h⟩
def B7 lo x a n c b m p d k u e i s j A g C G B H D J a0 P c0 n0 a1 n1 c1 n2 a2 n3 c2 n4 a3 n5 c3 n6 a4 n7 c4 a5 n8 c5 h:=
 LA 138 Tryz.f138 2213111 2 1111 lo ⟨[(1,.lp 1 0),(2,.lp 2 0),(3,.lp 3 0),(5,Iv x)],[(1,(C4 a n c b m p d k u e i s)),(2,[.sl j A g C,.sl G B H D,.sl J a0 P c0,.sl n0 a1 n1 c1]),(3,[.sl n2 a2 n3 c2,.sl n4 a3 n5 c3,.sl n6 a4 n7 c4,.sl 5 a5 n8 c5])],h⟩
def B6 lo x a n c b m p d k u e i s j A g C G B H D J a0 P c0 n0 a1 n1 c1 n2 a2 n3 c2 n4 a3 n5 c3 n6 a4 n7 c4 a5 n8 c5 h:=
 LA 138 Tryz.f138 22131111 4 11111 lo ⟨[(1,.lp 1 0),(2,.lp 2 0),(3,.lp 3 0),(7,Iv x)],[(1,(C4 a n c b m p d k u e i s)),(2,[.sl j A g C,.sl G B H D,.sl J a0 P c0,.sl n0 a1 n1 c1]),(3,[.sl n2 a2 n3 c2,.sl n4 a3 n5 c3,.sl n6 a4 n7 c4,.sl 5 a5 n8 c5])],h⟩
theorem Nj {e:Pq} (hk:(Aj 5 (h ++ [.rows 5 32 false []]) (.sl 5 a n c) λv=>CC lo 32 5 40 (.sl 5 (some (h.length,0)) 0 (some 0)) v (h ++ [.rows 5 32 false []]) λv l=>eS 5 v λv o x=>B8 lo 0 b m p d k u e i s a n c 0 none 0 (some 0) 0 none 0 (some 0) 0 none 0 (some 0) 0 none 0 (some 0) 0 none 0 (some 0) 0 none 0 (some 0) 0 none 0 (some 0) v o x l)=some r) :
  Ae lo 138 [Al b m p d k u e i s a n c] h=some r :=
 eK Tryz.func138 hk
theorem B8.e {lo n m k i j g G H J P n0 n1 n2 n3 n4 n5 n6 n7 n8:Nat}{x:Int}{a b d A B a0 a1 a2 a3 a4 a5 a6:Pq}{c p u s C D c0 c1 c2 c3 c4 c5:Nq}{h:Heap} :
  B8 lo x a n c b m p d k u A i s j B g C G a0 H D J a1 P c0 n0 a2 n1 c1 n2 a3 n3 c2 n4 a4 n5 c3 n6 a5 n7 c4 a6 n8 c5 h=br (decide (x<(n:Int))) (Av x n (eO a λv=>eO (ld h v.1 (v.2+x.toNat) 0 6) λv=>eC v λv l=>eI .i64 v λv=>eC l λl o=>eI .i64 l λl=>eC o λo y=>eS 2 o λo z w=>eC y λy q=>eS 6 y λy t e=>eC q λq f=>eS 1 q λq E K=>eC f λf L=>eBv f λf=>eN L (Ak (Ae lo 171 [Bl v l o z w y t e q E K f] h) λv l=>eA v λv=>eC v λv o=>eI .i64 v λv=>eC o λo y=>eI .i64 o λo=>eC y λy z=>eS 2 y λy w q=>eC z λz t=>eS 6 z λz e f=>eC t λt E=>eS 1 t λt K L=>eC E λE M=>eBv E λE=>eN M (Aj 6 (l ++ [.rows 6 60 false [CN v o y w q z e f t K L E]]) (.sl 6 (some (l.length,0)) 1 (some 1)) λM=>CC lo 60 6 96 (.sl n2 a3 n3 c2) M (l ++ [.rows 6 60 false [CN v o y w q z e f t K L E]]) λv l=>eS 6 v λv o y=>B8 lo (AD (x+1)) a n c b m p d k u A i s j B g C G a0 H D J a1 P c0 n0 a2 n1 c1 6 v o y n4 a4 n5 c3 n6 a5 n7 c4 a6 n8 c5 l)))) (B7 lo 0 a n c b m p d k u A i s j B g C G a0 H D J a1 P c0 n0 a2 n1 c1 n2 a3 n3 c2 n4 a4 n5 c3 n6 a5 n7 c4 a6 n8 c5 h) :=
 lE
theorem B7.e {lo m n k i j g G H J P n0 n1 n2 n3 n4 n5 n6 n7 n8:Nat}{x:Int}{b a d A B a0 a1 a2 a3 a4 a5 a6:Pq}{c p u s C D c0 c1 c2 c3 c4 c5:Nq}{h:Heap} :
  B7 lo x b m c a n p d k u A i s j B g C G a0 H D J a1 P c0 n0 a2 n1 c1 n2 a3 n3 c2 n4 a4 n5 c3 n6 a5 n7 c4 a6 n8 c5 h=br (decide (x<(n:Int))) (Av x n (eO a λv=>eO (ld h v.1 (v.2+x.toNat) 0 5) λv=>eC v λv l=>eI .i64 v λv=>eC l λl o=>eS 2 l λl y z=>eC o λo w=>eI .i64 o λo=>eC w λw q=>eI .i64 w λw=>eC q λq t=>eI .i64 q λq=>eN t (Aj 2 (h ++ [.rows 2 30 false []]) (.sl 2 l y z) λl=>CC lo 30 2 16 (.sl 2 (some (h.length,0)) 0 (some 0)) l (h ++ [.rows 2 30 false []]) λl y=>eS 2 l λl z t=>Aj 5 (y ++ [.rows 5 72 false [KV v l z t o w q]]) (.sl 5 (some (y.length,0)) 1 (some 1)) λe=>CC lo 72 5 56 (.sl n4 a4 n5 c3) e (y ++ [.rows 5 72 false [KV v l z t o w q]]) λv l=>eS 5 v λv o y=>B7 lo (AD (x+1)) b m c a n p d k u A i s j B g C G a0 H D J a1 P c0 n0 a2 n1 c1 n2 a3 n3 c2 5 v o y n6 a5 n7 c4 a6 n8 c5 l))) (B6 lo 0 b m c a n p d k u A i s j B g C G a0 H D J a1 P c0 n0 a2 n1 c1 n2 a3 n3 c2 n4 a4 n5 c3 n6 a5 n7 c4 a6 n8 c5 h) :=
 lE
theorem B6.e {lo J P n n0 n1 n2 n3 n4 n5 n6 n7 n8 m k i j g G H:Nat}{x:Int}{a0 a1 a a2 a3 a4 a5 a6 b d A B:Pq}{C D c0 c1 c2 c3 c4 c5 c p u s:Nq}{h:Heap} :
  B6 lo x a0 J C a1 P D a n c0 a2 n0 c1 n1 a3 n2 c2 n3 a4 n4 c3 n5 a5 n6 c4 n7 a6 n8 c5 m b k c i d j p g A G u B H s h=br (decide (x<(n:Int))) (Av x n (eO a λv=>eO (ld h v.1 (v.2+x.toNat) 0 9) λv=>eC v λv l=>eI .i64 v λv=>eC l λl o=>eI .i64 l λl=>eC o λo y=>eI .i64 o λo=>eC y λy z=>eI .i64 y λy=>eC z λz w=>eI .i64 z λz=>eC w λw q=>eI .i64 w λw=>eC q λq t=>eS 2 q λq e f=>eC t λt E=>eT t λt=>eC E λE K=>eBv E λE=>eN K (Ak (Ae lo 167 [A3 y z w q e f t E] h) λy z=>eA y λy=>eC y λy w=>eI .i64 y λy=>eC w λw q=>eI .i64 w λw=>eC q λq t=>eI .i64 q λq=>eC t λt e=>eS 2 t λt f E=>eC e λe K=>eT e λe=>eC K λK L=>eBv K λK=>eN L (Aj 9 (z ++ [.rows 9 91 false [OA v l o y w q t f E e K]]) (.sl 9 (some (z.length,0)) 1 (some 1)) λL=>CC lo 91 9 96 (.sl g A G u) L (z ++ [.rows 9 91 false [OA v l o y w q t f E e K]]) λv l=>eS 9 v λv o y=>B6 lo (AD (x+1)) a0 J C a1 P D a n c0 a2 n0 c1 n1 a3 n2 c2 n3 a4 n4 c3 n5 a5 n6 c4 n7 a6 n8 c5 m b k c i d j p 9 v o y B H s l)))) (some (.agg [.sl m b k c,.sl i d j p,.sl g A G u,.sl 5 B H s],h)) :=
 lE
theorem Nz (hk:(Ak (Ae lo 33 [CF n m k,Iv 3] h) λv l=>eI .i64 v λv=>br (v==0) (some ((An 0 0),l)) (Ak (Ae lo 33 [CF n m k,Iv 9] l) λv l=>eI .i64 v λv=>Ak (Ae lo 33 [CF n m k,Iv 3] l) λl c=>eI .i64 l λl=>some ((An (AD (1+v)) l),c)))=some r) :
  Ae lo 139 [CF n m k] h=some r :=
 eK Tryz.func139 hk
theorem NI (hk:(Ak (Ae h.length 17 [An x y,An z t] h) λl c=>eB l (some ((An z t),c)) (some ((An x y),c)))=some (v,h')) (hn:noId v=true:=by rfl) :
  Ae lo 140 [An x y,An z t] h=some (v,h) :=
 eD Tryz.func140 hk hn
theorem MJ (hk:(Ak (Ae lo 172 [CF n m k,.sl 1 (some (h.length,0)) 8 (some 8)] (h ++ [.rows 1 9 false [[.str ⟨⟨[]⟩⟩],[.str ⟨⟨[97]⟩⟩],[.str ⟨⟨[98]⟩⟩],[.str ⟨⟨[120,35,49]⟩⟩],[.str ⟨⟨[61]⟩⟩],[.str ⟨⟨[45]⟩⟩],[.str ⟨⟨[108,111,110,103,116,101,120,116]⟩⟩],[.str ⟨⟨[122,122]⟩⟩]]])) λv l=>eT v λv=>some (.str v,l))=some r) :
  Ae lo 141 [CF n m k] h=some r :=
 eK Tryz.func141 hk
def Bm lo n m k a i c x y h:=
 LA 148 Tryz.f148 2213 0 1 lo ⟨[(0,(CF n m k)),(8,.sl 6 a i c),(9,Iv x),(10,Iv y)],[],h⟩
theorem Bm.e :
  Bm lo n m k a i c y x h=br (decide (x<y)) (Av x i (eO a λv=>eO (ld h v.1 (v.2+x.toNat) 0 6) λv=>eC v λv l=>eI .i64 v λv=>eC l λl o=>eI .i64 l λl=>eC o λo s=>eI .i64 o λo=>eC s λs b=>eS 2 s λs z u=>eC b λb w=>eT b λb=>eC w λw p=>eBv w λw=>eN p (br ((l==0)&&((o==0)&&true)) (Bm lo n m k a i c y (AD (x+1)) h) (eO (ld h n m (k+0) 1) λp=>eC p λp q=>eN q (eI .i64 p λp=>br (o==p) (eO (ld h n m (k+3) 1) λp=>eC p λp q=>eN q (eS 6 p λp q g=>Ak (Ae lo 152 [.sl 6 p q g,An l o] h) λp q=>eB p (Bm lo n m k a i c y (AD (x+1)) q) (eO (ld q n m (k+3) 1) λp=>eC p λp g=>eN g (eS 6 p λp g j=>Ak (Ae q.length 73 [A3 v l o s z u b w] q) λv l=>eA v λv=>eC v λv o=>eI .i64 v λv=>eC o λo s=>eI .i64 o λo=>eC s λs b=>eI .i64 s λs=>eC b λb z=>eS 2 b λb u w=>eC z λz q=>eT z λz=>eC q λq t=>eBv q λq=>eN t (Aj 6 (l ++ [.rows 6 49 false [CS v o s b u w z q]]) (.sl 6 (some (l.length,0)) 1 (some 1)) λt=>CC lo 49 6 72 (.sl 6 p g j) t (l ++ [.rows 6 49 false [CS v o s b u w z q]]) λv l=>eS 6 v λv o s=>eO (st lo l n m (k+3) (BU v o s)) λv=>Bm lo n m k a i c y (AD (x+1)) v))))) (Bm lo n m k a i c y (AD (x+1)) h)))))) (eO (ld h n m (k+3) 1) λv=>eC v λv l=>eN l (eS 6 v λv l o=>Ak (Ae lo 153 (BU v l o) h) λv l=>eS 6 v λv o s=>eO (st lo l n m (k+3) (BU v o s)) λv=>eO (ld v n m ((k+2)+0) 1) λl=>eC l λl o=>eN o (eS 2 l λl o s=>Ak (Ae lo 176 [.sl 2 l o s,.fn 177 []] v) λv l=>eB v (some (.tup [],l)) (eO (st lo l n m (k+5) [.bool false]) λv=>some (.tup [],v))))) :=
 lE
def CP lo n m k x i j g a G c y z h:=
 LA 149 Tryz.f149 22131111111 0 11111111 lo ⟨[(0,(CF n m k)),(1,Iv x),(5,(CF i j g)),(59,.sl 6 a G c),(60,Iv y),(61,Iv z)],[],h⟩
theorem CP.e {lo i j g n m k G:Nat}{y z x:Int}{a:Pq}{c:Nq}{h:Heap} :
  CP lo i j g y n m k a G c z x h=br (decide (x<z)) (Av x G (eO a λv=>eO (ld h v.1 (v.2+x.toNat) 0 6) λv=>eC v λv l=>eI .i64 v λv=>eC l λl o=>eI .i64 l λl=>eC o λo s=>eI .i64 o λo=>eC s λs b=>eS 2 s λs u w=>eC b λb p=>eT b λb=>eC p λp q=>eBv p λp=>eN q (eO (ld h i j (g+0) 1) λq=>eC q λq t=>eN t (eS 2 q λq t d=>Av y t (eO q λq=>eO (ld h q.1 (q.2+y.toNat) 0 1) λq=>eC q λq t=>eN t (eS 6 q λq t d=>Av v t (eO q λq=>eO (ld h q.1 (q.2+v.toNat) 1 2) λq=>eC q λq t=>eI .i64 q λq=>eC t λt d=>eI .i64 t λt=>eN d (Ak (Ae lo 17 [An q t,An l o] h) λq t=>eB q (eO (ld t n m (k+1) 1) λq=>eC q λq d=>eN d (eS 6 q λq d e=>Ak (Ae t.length 73 [A3 v l o s u w b p] t) λv l=>eA v λv=>eC v λv o=>eI .i64 v λv=>eC o λo s=>eI .i64 o λo=>eC s λs b=>eI .i64 s λs=>eC b λb u=>eS 2 b λb w p=>eC u λu f=>eT u λu=>eC f λf A=>eBv f λf=>eN A (Aj 6 (l ++ [.rows 6 49 false [CS v o s b w p u f]]) (.sl 6 (some (l.length,0)) 1 (some 1)) λA=>CC lo 49 6 72 (.sl 6 q d e) A (l ++ [.rows 6 49 false [CS v o s b w p u f]]) λv l=>eS 6 v λv o s=>eO (st lo l n m (k+1) (BU v o s)) λv=>CP lo i j g y n m k a G c z (AD (x+1)) v))) (CP lo i j g y n m k a G c z (AD (x+1)) t))))))))) (eO (ld h n m (k+1) 1) λv=>eC v λv l=>eN l (eS 6 v λv l o=>Ak (Ae lo 179 [.sl 6 v l o,.fn 180 []] h) λv l=>eU v λv=>eN v (eO (ld l n m (k+1) 1) λv=>eC v λv o=>eN o (eS 6 v λv o s=>Ak (Ae lo 153 (BU v o s) l) λv l=>eS 6 v λv o s=>eO (st lo l n m (k+1) (BU v o s)) λv=>some (.bool true,v))))) :=
 lE
def BD lo x y n a m c k b i p h:=
 LA 154 Tryz.f154 2213111 0 1111 lo ⟨[(0,Iv x),(2,.lp 2 0),(3,.lp 3 0),(4,Iv y)],[(2,[.sl n a m c]),(3,[.sl k b i p])],h⟩
theorem Lg (hk:(Ak (Ae lo 41 (CG x 1 4) h) λv l=>eB v (BD lo x 0 0 none 0 (some 0) 0 none 0 (some 0) l) (some (.agg [.sl 0 none 0 (some 0)],l)))=some r) :
  Ae lo 154 (AI x) h=some r :=
 eK Tryz.func154 hk
theorem BD.e :
  BD lo x y k b i p n a m c h=br (decide (y<x)) (Ak (Ae lo 182 [] h) λv l=>eA v λv=>eC v λv o=>eS 6 v λv s z=>eN o (Aj 2 (l ++ [.rows 2 54 false [[.sl 6 v s z,.sl 0 none 0 (some 0)]]]) (.sl 2 (some (l.length,0)) 1 (some 1)) λo=>CC lo 54 2 48 (.sl n a m c) o (l ++ [.rows 2 54 false [[.sl 6 v s z,.sl 0 none 0 (some 0)]]]) λv l=>eS 2 v λv o s=>BD lo x (AD (y+1)) k b i p 2 v o s l)) (some (.agg [.sl n a m c],h)) :=
 lE
theorem ME {e:Pq} (hk:(Av x n (eO a λv=>eO (ld h v.1 (v.2+x.toNat) 0 5) λv=>eC v λv l=>eI .i64 v λv=>eC l λl o=>eS 2 l λl w q=>eC o λo g=>eI .i64 o λo=>eC g λg j=>eI .i64 g λg=>eC j λg j=>eI .i64 g λg=>eN j (Av v m (eO b λg=>eO (ld h g.1 (g.2+v.toNat) 0 6) λg=>eC g λg j=>eI .i64 g λg=>eC j λj A=>eI .i64 j λj=>eC A λA B=>eS 2 A λA C D=>eC B λB E=>eS 6 B λB G H=>eC E λE J=>eS 1 E λE K L=>eC J λJ M=>eBv J λJ=>eN M (br (decide (o>0)) (some (.tup [Al b m c a n p d i u e k s,.bool false],h)) (Ak (Ae lo 41 (CG y 0 3) h) λo M=>eB o (Ak (Ae lo 183 [.str S] M) λo N=>eB o (br f (br (S.toList==(ByteArray.mk #[]).toList) (Ak (Ae lo 184 [Bl g j A C D B G H E K L J,At l w q] N) λo O=>eB o (br (decide ((k:Int)>=80)) (some (.tup [Al b m c a n p d i u e k s,.bool false],O)) (Ak (Ae lo 185 [Bl g j A C D B G H E K L J,Iv y,.str S,.bool true,At l w q] O) λo P=>eU o λo=>eC o λo Q=>eA o λo=>eC o λo U=>eI .i64 o λo=>eC U λU W=>eI .i64 U λU=>eC W λW Y=>eS 2 W λW Z v0=>eC Y λY v1=>eS 6 Y λY v2 v3=>eC v1 λv1 v4=>eS 1 v1 λv1 v5 v6=>eC v4 λv4 v7=>eBv v4 λv4=>eN v7 (eC Q λQ v7=>eA Q λQ=>eC Q λQ v8=>eI .i64 Q λQ=>eC v8 λv8 v9=>eI .i64 v8 λv8=>eN v9 (eN v7 (Av v m (eO b λv7=>eO (st lo P v7.1 (v7.2+v.toNat) 0 (CN o U W Z v0 Y v2 v3 v1 v5 v6 v4)) λo=>Av x n (eO a λP=>eO (st lo o P.1 (P.2+x.toNat) 2 (BJ Q v8)) λo=>Av x n (eO a λP=>eO (st lo o P.1 (P.2+x.toNat) 4 (AI y)) λo=>Ak (Ae lo 186 [Al b m c a n p d i u e k s,Iv x,Iv 1,Iv y,An Q v8] o) λo P=>eA o λo=>eC o λo Q=>eS 6 o λo U W=>eC Q λQ Y=>eS 5 Q λQ Z v0=>eC Y λY v1=>eS 9 Y λY v2 v3=>eC v1 λv1 v4=>eS 5 v1 λv1 v5 v6=>eN v4 (some (.tup [Al o U W Q Z v0 Y v2 v3 v1 v5 v6,.bool true],P)))))))))) (some (.tup [Al b m c a n p d i u e k s,.bool false],O))) (some (.tup [Al b m c a n p d i u e k s,.bool false],N))) (Ak (Ae lo 184 [Bl g j A C D B G H E K L J,At l w q] N) λo O=>eB o (br (decide ((k:Int)>=80)) (some (.tup [Al b m c a n p d i u e k s,.bool false],O)) (Ak (Ae lo 185 [Bl g j A C D B G H E K L J,Iv y,.str S,.bool false,At l w q] O) λl o=>eU l λl=>eC l λl w=>eA l λl=>eC l λl q=>eI .i64 l λl=>eC q λq g=>eI .i64 q λq=>eC g λg j=>eS 2 g λg A B=>eC j λj C=>eS 6 j λj D E=>eC C λC G=>eS 1 C λC H J=>eC G λG K=>eBv G λG=>eN K (eC w λw K=>eA w λw=>eC w λw L=>eI .i64 w λw=>eC L λL P=>eI .i64 L λL=>eN P (eN K (Av v m (eO b λK=>eO (st lo o K.1 (K.2+v.toNat) 0 (CN l q g A B j D E C H J G)) λv=>Av x n (eO a λl=>eO (st lo v l.1 (l.2+x.toNat) 2 (BJ w L)) λv=>Av x n (eO a λl=>eO (st lo v l.1 (l.2+x.toNat) 4 (AI y)) λv=>Ak (Ae lo 186 [Al b m c a n p d i u e k s,Iv x,Iv 1,Iv y,An w L] v) λv l=>eA v λv=>eC v λv o=>eS 6 v λv w q=>eC o λo g=>eS 5 o λo j A=>eC g λg B=>eS 9 g λg C D=>eC B λB E=>eS 5 B λB G H=>eN E (some (.tup [Al v w q o j A g C D B G H,.bool true],l)))))))))) (some (.tup [Al b m c a n p d i u e k s,.bool false],O)))) (some (.tup [Al b m c a n p d i u e k s,.bool false],N))) (some (.tup [Al b m c a n p d i u e k s,.bool false],M))))))))=some r) :
  Ae lo 155 [Al b m c a n p d i u e k s,BF z x t y S f] h=some r :=
 by cases f<;>exact eK Tryz.func155 hk
theorem PG {e:Pq} (hk:(Av x n (eO a λv=>eO (ld h v.1 (v.2+x.toNat) 0 5) λv=>eC v λv l=>eI .i64 v λv=>eC l λl o=>eS 2 l λl w q=>eC o λo g=>eI .i64 o λo=>eC g λg j=>eI .i64 g λg=>eC j λj A=>eI .i64 j λj=>eN A (br (o==0) (some (.tup [Al b k c a n p d i u e m s,.bool false],h)) (Av v k (eO b λA=>eO (ld h A.1 (A.2+v.toNat) 2 1) λv=>eC v λv A=>eS 2 v λv B C=>eN A (Ak (Ae lo 187 [At v B C,Iv 0,Iv j] h) λA C=>eA A λA=>eC A λA D=>eI .i64 A λA=>eC D λA D=>eI .i64 A λA=>eC D λD E=>eI .i64 D λD=>eC E λE G=>eS 2 E λE E E=>eC G λE G=>eT E λE=>eC G λE G=>eBv E λE=>eN G (Av 0 B (eO v λv=>eO (ld C v.1 (v.2+0) 0 1) λv=>eC v λv B=>eN B (eS 6 v λv B E=>Av j B (eO v λv=>eO (ld C v.1 (v.2+j.toNat) 1 2) λv=>eC v λv B=>eI .i64 v λv=>eC B λB E=>eI .i64 B λB=>eN E (Ak (Ae lo 188 [An A D,An o g] C) λC E=>eB C (Ak (Ae lo 188 [An v B,An o g] E) λv B=>eB v (Ak (Ae lo 188 [An A D,An o g] B) λv C=>eB v (Ak (Ae lo 188 [An A D,An o g] C) λv G=>eB v (Av x n (eO a λv=>eO (st lo G v.1 (v.2+x.toNat) 2 (BJ 0 0)) λv=>Av x n (eO a λH=>eO (st lo v H.1 (H.2+x.toNat) 4 (AI 0)) λv=>some (.tup [Al b k c a n p d i u e m s,.bool true],v)))) (Ak (Ae lo 189 [At l w q,Iv j,An o g] G) λv G=>eA v λv=>eC v λv H=>eS 2 v λv J K=>eN H (Av x n (eO a λH=>eO (st lo G H.1 (H.2+x.toNat) 1 (Cj v J K)) λv=>Ak (Ae lo 186 [Al b k c a n p d i u e m s,Iv x,Iv 3,Iv j,An o g] v) λv G=>eA v λv=>eC v λv H=>eS 6 v λv J K=>eC H λH L=>eS 5 H λH M N=>eC L λL O=>eS 9 L λL P Q=>eC O λO U=>eS 5 O λO W Y=>eN U (Av x M (eO H λU=>eO (st lo G U.1 (U.2+x.toNat) 2 (BJ 0 0)) λG=>Av x M (eO H λU=>eO (st lo G U.1 (U.2+x.toNat) 4 (AI 0)) λG=>some (.tup [Al v J K H M N L P Q O W Y,.bool true],G)))))))) (br (decide ((m:Int)>=80)) (some (.tup [Al b k c a n p d i u e m s,.bool false],C)) (Ak (Ae lo 188 [An A D,An o g] C) λv C=>eB v (Av x n (eO a λv=>eO (st lo C v.1 (v.2+x.toNat) 2 (BJ 0 0)) λv=>Av x n (eO a λG=>eO (st lo v G.1 (G.2+x.toNat) 4 (AI 0)) λv=>some (.tup [Al b k c a n p d i u e m s,.bool true],v)))) (Ak (Ae lo 189 [At l w q,Iv j,An o g] C) λv C=>eA v λv=>eC v λv G=>eS 2 v λv H J=>eN G (Av x n (eO a λG=>eO (st lo C G.1 (G.2+x.toNat) 1 (Cj v H J)) λv=>Ak (Ae lo 186 [Al b k c a n p d i u e m s,Iv x,Iv 3,Iv j,An o g] v) λv C=>eA v λv=>eC v λv G=>eS 6 v λv H J=>eC G λG K=>eS 5 G λG L M=>eC K λK N=>eS 9 K λK O P=>eC N λN Q=>eS 5 N λN U W=>eN Q (Av x L (eO G λQ=>eO (st lo C Q.1 (Q.2+x.toNat) 2 (BJ 0 0)) λC=>Av x L (eO G λQ=>eO (st lo C Q.1 (Q.2+x.toNat) 4 (AI 0)) λC=>some (.tup [Al v H J G L M K O P N U W,.bool true],C)))))))))) (some (.tup [Al b k c a n p d i u e m s,.bool false],B))) (Ak (Ae lo 188 [An A D,An o g] E) λv B=>eB v (Ak (Ae lo 188 [An A D,An o g] B) λv C=>eB v (Av x n (eO a λv=>eO (st lo C v.1 (v.2+x.toNat) 2 (BJ 0 0)) λv=>Av x n (eO a λE=>eO (st lo v E.1 (E.2+x.toNat) 4 (AI 0)) λv=>some (.tup [Al b k c a n p d i u e m s,.bool true],v)))) (Ak (Ae lo 189 [At l w q,Iv j,An o g] C) λv C=>eA v λv=>eC v λv E=>eS 2 v λv G H=>eN E (Av x n (eO a λE=>eO (st lo C E.1 (E.2+x.toNat) 1 (Cj v G H)) λv=>Ak (Ae lo 186 [Al b k c a n p d i u e m s,Iv x,Iv 3,Iv j,An o g] v) λv C=>eA v λv=>eC v λv E=>eS 6 v λv G H=>eC E λE J=>eS 5 E λE K L=>eC J λJ M=>eS 9 J λJ N O=>eC M λM P=>eS 5 M λM Q U=>eN P (Av x K (eO E λP=>eO (st lo C P.1 (P.2+x.toNat) 2 (BJ 0 0)) λC=>Av x K (eO E λP=>eO (st lo C P.1 (P.2+x.toNat) 4 (AI 0)) λC=>some (.tup [Al v G H E K L J N O M Q U,.bool true],C)))))))) (br (decide ((m:Int)>=80)) (some (.tup [Al b k c a n p d i u e m s,.bool false],B)) (Ak (Ae lo 188 [An A D,An o g] B) λv A=>eB v (Av x n (eO a λv=>eO (st lo A v.1 (v.2+x.toNat) 2 (BJ 0 0)) λv=>Av x n (eO a λB=>eO (st lo v B.1 (B.2+x.toNat) 4 (AI 0)) λv=>some (.tup [Al b k c a n p d i u e m s,.bool true],v)))) (Ak (Ae lo 189 [At l w q,Iv j,An o g] A) λv l=>eA v λv=>eC v λv w=>eS 2 v λv q A=>eN w (Av x n (eO a λw=>eO (st lo l w.1 (w.2+x.toNat) 1 (Cj v q A)) λv=>Ak (Ae lo 186 [Al b k c a n p d i u e m s,Iv x,Iv 3,Iv j,An o g] v) λv l=>eA v λv=>eC v λv o=>eS 6 v λv w q=>eC o λo g=>eS 5 o λo j A=>eC g λg B=>eS 9 g λg C D=>eC B λB E=>eS 5 B λB G H=>eN E (Av x j (eO o λE=>eO (st lo l E.1 (E.2+x.toNat) 2 (BJ 0 0)) λl=>Av x j (eO o λE=>eO (st lo l E.1 (E.2+x.toNat) 4 (AI 0)) λl=>some (.tup [Al v w q o j A g C D B G H,.bool true],l)))))))))))))))))))))=some r) :
  Ae lo 156 [Al b k c a n p d i u e m s,BF y x z t S f] h=some r :=
 eK Tryz.func156 hk
theorem Nf {e:Pq} (hk:(Av y n (eO a λv=>eO (ld h v.1 (v.2+y.toNat) 0 5) λv=>eC v λv l=>eI .i64 v λv=>eC l λl o=>eS 2 l λl w q=>eC o λo g=>eI .i64 o λo=>eC g λg j=>eI .i64 g λg=>eC j λg j=>eI .i64 g λg=>eN j (Av v m (eO b λg=>eO (ld h g.1 (g.2+v.toNat) 2 1) λv=>eC v λv g=>eS 2 v λv j A=>eN g (br (decide (o>0)) (some (.tup [Al b m c a n p d i u e k s,.bool false],h)) (Ak (Ae lo 41 (CG x 0 3) h) λo g=>eB o (Ak (Ae lo 41 (CG z 0 (AD ((j:Int) - 1))) g) λo B=>eB o (br (decide ((k:Int)>=80)) (some (.tup [Al b m c a n p d i u e k s,.bool false],B)) (Ak (Ae lo 187 [At v j A,Iv z,Iv x] B) λv o=>eA v λv=>eC v λv j=>eI .i64 v λv=>eC j λv j=>eI .i64 v λv=>eC j λj A=>eI .i64 j λj=>eC A λA C=>eS 2 A λA D E=>eC C λC G=>eT C λC=>eC G λC G=>eBv C λC=>eN G (Av x w (eO l λC=>eO (ld o C.1 (C.2+x.toNat) 0 2) λC=>eC C λC G=>eI .i64 C λC=>eC G λG H=>eI .i64 G λG=>eN H (Ak (Ae lo 188 [An v j,An C G] o) λo C=>eB o (some (.tup [Al b m c a n p d i u e k s,.bool false],C)) (br (decide (v>0)) (Ak (Ae lo 190 [At l w q,At A D E] C) λl o=>eA l λl=>eC l λl w=>eS 2 l λl q A=>eN w (Ak (Ae lo 189 [At l q A,Iv x,An v j] o) λl o=>eA l λl=>eC l λl w=>eS 2 l λl q A=>eN w (Av y n (eO a λw=>eO (st lo o w.1 (w.2+y.toNat) 1 (Cj l q A)) λl=>Ak (Ae lo 186 [Al b m c a n p d i u e k s,Iv y,Iv 2,Iv x,An v j] l) λl o=>eA l λl=>eC l λl w=>eS 6 l λl q A=>eC w λw D=>eS 5 w λw E G=>eC D λD H=>eS 9 D λD J K=>eC H λH L=>eS 5 H λH M N=>eN L (some (.tup [Al l q A w E G D J K H M N,.bool true],o)))))) (Ak (Ae lo 186 [Al b m c a n p d i u e k s,Iv y,Iv 2,Iv x,An v j] C) λv l=>eA v λv=>eC v λv o=>eS 6 v λv w q=>eC o λo j=>eS 5 o λo A C=>eC j λj D=>eS 9 j λj E G=>eC D λD H=>eS 5 D λD J K=>eN H (some (.tup [Al v w q o A C j E G D J K,.bool true],l))))))))) (some (.tup [Al b m c a n p d i u e k s,.bool false],B))) (some (.tup [Al b m c a n p d i u e k s,.bool false],g))))))))=some r) :
  Ae lo 157 [Al b m c a n p d i u e k s,BF t y z x S f] h=some r :=
 eK Tryz.func157 hk
def Cy lo x a n c b m p d k u e i s y z t w S f j A g C G B H D J a0 P c0 n0 a1 n1 c1 a2 n2 c2 h:=
 LA 158 Tryz.f158 221311111 0 111111 lo ⟨[(2,.lp 2 0),(3,.lp 3 0),(4,.lp 4 0),(8,.lp 8 0),(9,Iv x)],[(2,(C4 a n c b m p d k u e i s)),(3,(OB y z t w S f)),(4,[.sl j A g C,.sl G B H D,.sl J a0 P c0,.sl n0 a1 n1 c1]),(8,(BU a2 n2 c2))],h⟩
theorem PH {e:Pq} (hk:(Av x m (eO b λv=>eO (ld h v.1 (v.2+x.toNat) 0 5) λv=>eC v λv l=>eI .i64 v λv=>eC l λl o=>eS 2 l λl w q=>eC o λo g=>eI .i64 o λo=>eC g λg j=>eI .i64 g λg=>eC j λg j=>eI .i64 g λg=>eN j (Av v n (eO a λg=>eO (ld h g.1 (g.2+v.toNat) 2 1) λv=>eC v λv g=>eS 2 v λv j A=>eN g (Av (AD ((j:Int) - 1)) j (eO v λv=>eO (ld h v.1 (v.2+((AD ((j:Int) - (1:Int))).toNat)) 0 1) λv=>eC v λv g=>eS 6 v λv j A=>eN g (br (decide (o>0)) (some (.tup [Al a n c b m p d i u e k s,.bool false],h)) (Ak (Ae h.length 192 [Di v j A] h) λo g=>eA o λo=>eC o λo B=>eS 2 o λo C D=>eN B (Ak (Ae lo 191 [At l w q,At o C D] g) λl o=>eB l (br (decide (AD ((k:Int)+(4:Int))>80)) (some (.tup [Al a n c b m p d i u e k s,.bool false],o)) (Cy lo 0 a n c b m p d i u e k s y x z t S f 0 none 0 (some 0) 0 none 0 (some 0) 0 none 0 (some 0) 0 none 0 (some 0) v j A o)) (some (.tup [Al a n c b m p d i u e k s,.bool false],o)))))))))))=some r) :
  Ae lo 158 [Al a n c b m p d i u e k s,BF y x z t S f] h=some r :=
 eK Tryz.func158 hk
theorem Cy.e {lo k n i j g G H J P n0 n1 n2 m:Nat}{x z y t w:Int}{d a A B a0 a1 a2 a3 b:Pq}{c p u s C D c0 c1 c2:Nq}{S:ByteArray}{f:Bool}{h:Heap} :
  Cy lo x d k c a n p A i u B j s z y t w S f g a0 G C H a1 J D P a2 n0 c0 n1 a3 n2 c1 b m c2 h=br (decide (x<4)) (Av y n (eO a λv=>eO (ld h v.1 (v.2+y.toNat) 1 1) λv=>eC v λv l=>eS 2 v λv o q=>eN l (Av x m (eO b λl=>eO (ld h l.1 (l.2+x.toNat) 1 2) λl=>eC l λl e=>eI .i64 l λl=>eC e λe E=>eI .i64 e λe=>eN E (Ak (Ae lo 189 [At v o q,Iv x,An l e] h) λv l=>eA v λv=>eC v λv o=>eS 2 v λv q e=>eN o (Av y n (eO a λo=>eO (st lo l o.1 (o.2+y.toNat) 1 (Cj v q e)) λv=>Av x m (eO b λl=>eO (ld v l.1 (l.2+x.toNat) 1 2) λl=>eC l λl o=>eI .i64 l λl=>eC o λo q=>eI .i64 o λo=>eN q (Ak (Ae lo 186 [Al d k c a n p A i u B j s,Iv y,Iv 2,Iv x,An l o] v) λv l=>eA v λv=>eC v λv o=>eS 6 v λv q e=>eC o λo E=>eS 5 o λo K L=>eC E λE M=>eS 9 E λE N O=>eC M λM Q=>eS 5 M λM U W=>eN Q (Cy lo (AD (x+1)) v q e o K L E N O M U W z y t w S f g a0 G C H a1 J D P a2 n0 c0 n1 a3 n2 c1 b m c2 l)))))))))) (some (.tup [Al d k c a n p A i u B j s,.bool true],h)) :=
 lE
theorem PK (hk:(Ak (Ae h.length 41 (CG x 0 (AD ((n:Int) - 2))) h) λl o=>eB l (Av x n (eO a λl=>eO (ld o l.1 (l.2+x.toNat) 1 1) λl=>eC l λl s=>eN s (eS 6 l λl l s=>br (decide ((l:Int)>0)) (Av (AD (x+1)) n (eO a λl=>eO (ld o l.1 (l.2+((AD (x+(1:Int))).toNat)) 1 1) λl=>eC l λl s=>eN s (eS 6 l λl l s=>br (decide ((l:Int)<6)) (Em o) (Bv o)))) (Bv o)))) (Bv o))=some (v,h')) (hn:noId v=true:=by rfl) :
  Ae lo 159 [At a n c,Iv x] h=some (v,h) :=
 eD Tryz.func159 hk hn
theorem Ns (hk:(Av x n (eO a λv=>eO (ld h v.1 (v.2+x.toNat) 1 1) λv=>eC v λv l=>eN l (eS 6 v λv l o=>Av 0 l (eO v λv=>eO (ld h v.1 (v.2+0) 0 6) λv=>eC v λv l=>eI .i64 v λv=>eC l λl o=>eI .i64 l λl=>eC o λo s=>eI .i64 o λo=>eC s λs b=>eS 2 s λs y z=>eC b λb u=>eT b λb=>eC u λu w=>eBv u λu=>eN w (Av x n (eO a λw=>eO (ld (h ++ [.rows 6 49 false []]) w.1 (w.2+x.toNat) 1 1) λw=>eC w λw p=>eN p (eS 6 w λw p q=>AB w p q (some (Iv 1)) none none λw p q=>Aj 6 (h ++ [.rows 6 49 false []]) (.sl 6 w p q) λw=>CC lo 49 6 72 (.sl 6 (some (h.length,0)) 0 (some 0)) w (h ++ [.rows 6 49 false []]) λw p=>eS 6 w λw q g=>Av x n (eO a λi=>eO (st lo p i.1 (i.2+x.toNat) 1 (BU w q g)) λw=>Ak (Ae lo 193 [At a n c,Iv (AD (x+1)),A3 v l o s y z b u] w) λv l=>eA v λv=>eC v λv o=>eS 2 v λv s b=>eN o (some ((At v s b),l))))))))))=some r) :
  Ae lo 160 [At a n c,Iv x] h=some r :=
 eK Tryz.func160 hk
def Bb lo x y z a n c b m p d k u f t w i e j s g A G C H B J D F a0 P c0 h:=
 LA 161 Tryz.f161 221311 0 111 lo ⟨[(1,.lp 1 0),(2,.lp 2 0),(3,.lp 3 0),(4,Iv x)],[(1,(CN y z a n c b m p d k u f)),(2,[Iv t,Iv w,.sl i e j s,.sl g A G C,.sl H B J D,.bool F]),(3,(BU a0 P c0))],h⟩
def Ba lo f x y z a n c b m p d k u F t w i e j s g A G C H B J D b0 h:=
 LA 161 Tryz.f161 22131111 2 11111 lo ⟨[(1,.lp 1 0),(2,.lp 2 0),(6,.bool f),(7,Iv x)],[(1,(CN y z a n c b m p d k u F)),(2,[Iv t,Iv w,.sl i e j s,.sl g A G C,.sl H B J D,.bool b0])],h⟩
theorem Nm (hk:(Av (AD ((n:Int) - 1)) n (eO a λv=>eO (ld h v.1 (v.2+((AD ((n:Int) - (1:Int))).toNat)) 0 1) λv=>eC v λv l=>eS 6 v λv o s=>eN l (Bb lo 0 x y a n c b m p d k u f 0 0 0 none 0 (some 0) 0 none 0 (some 0) 0 none 0 (some 0) false v o s h)))=some r) :
  Ae lo 161 [Bl x y a n c b m p d k u f] h=some r :=
 eK Tryz.func161 hk
theorem Bb.e {lo m n k i j g G H J P:Nat}{x y z t w:Int}{b a d A B a0 a1:Pq}{p c u s C D c0:Nq}{f F:Bool}{h:Heap} :
  Bb lo x y z b m p a n c d k u f t w i A j s g B G C H a0 J D F a1 P c0 h=br (decide (x<4)) (Av x P (eO a1 λv=>eO (ld h v.1 (v.2+x.toNat) 0 6) λv=>eC v λv l=>eI .i64 v λv=>eC l λl o=>eI .i64 l λl=>eC o λo q=>eI .i64 o λo=>eC q λq e=>eS 2 q λq E K=>eC e λe L=>eT e λe=>eC L λL M=>eBv L λL=>eN M (br (decide (l>0)) (br (o==y) (Ak (Ae lo 194 [.sl 6 a n c,An l o] h) λM N=>eB M (Bb lo (AD (x+1)) y z b m p a n c d k u f t w i A j s g B G C H a0 J D F a1 P c0 N) (Ak (Ae lo 167 [A3 v l o q E K e L] N) λv l=>eA v λv=>eC v λv o=>eI .i64 v λv=>eC o λo q=>eI .i64 o λo=>eC q λq e=>eI .i64 q λq=>eC e λe E=>eS 2 e λe K L=>eC E λE M=>eT E λE=>eC M λM N=>eBv M λM=>eN N (Aj 6 (l ++ [.rows 6 49 false [CS v o q e K L E M]]) (.sl 6 (some (l.length,0)) 1 (some 1)) λN=>CC lo 49 6 72 (.sl 6 a n c) N (l ++ [.rows 6 49 false [CS v o q e K L E M]]) λv l=>eS 6 v λv o q=>Bb lo (AD (x+1)) y z b m p v o q d k u f t w i A j s g B G C H a0 J D F a1 P c0 l))) (Bb lo (AD (x+1)) y z b m p a n c d k u f t w i A j s g B G C H a0 J D F a1 P c0 h)) (Bb lo (AD (x+1)) y z b m p a n c d k u f t w i A j s g B G C H a0 J D F a1 P c0 h)))) (Ba lo true 0 y z b m p a n c d k u f t w i A j s g B G C H a0 J D F h) :=
 lE
theorem Ba.e {H J:Nat}{b0:Bool}{D:Nq} :
  Ba lo F x y z a n c b m p d k u f t w i A j s g B G C H a0 J D b0 h=br (decide (x<(n:Int))) (br F (Av x n (eO a λv=>eO (ld h v.1 (v.2+x.toNat) 1 1) λv=>eC v λv l=>eN l (eS 6 v λv v l=>br ((v:Int)==0) (Ba lo true (AD (x+1)) y z a n c b m p d k u f t w i A j s g B G C H a0 J D b0 h) (Ba lo false (AD (x+1)) y z a n c b m p d k u f t w i A j s g B G C H a0 J D b0 h)))) (Ba lo false (AD (x+1)) y z a n c b m p d k u f t w i A j s g B G C H a0 J D b0 h)) (br f (some ((Bl y z a n c b m p d k u (!F)),h)) (some ((Bl y z a n c b m p d k u false),h))) :=
 by cases f<;>cases F<;>exact lE
theorem Ko (hk:(br (!f) (br (!f) (br (!f) (br (!f) (br (!f) (br (decide ((n:Int)>1)) (br (!f) (Ak (Ae h.length 41 (CG x 0 (AD ((n:Int) - 1))) h) λl o=>eB l (Em o) (Bv o)) (Bv h)) (br (!f) (Bv h) (Bv h))) (br (!f) none (Bv h))) (br (!f) none (br (!f) none (Bv h)))) (br (!f) none (br (!f) none (br (!f) none (Bv h))))) (br (!f) none (br (!f) none (br (!f) none (br (!f) none (Bv h)))))) (br (!f) none (br (!f) none (br (!f) none (br (!f) none (br (!f) none (Bv h)))))))=some (v,h')) (hn:noId v=true:=by rfl) :
  Ae lo 162 [Bl y z a n c b m p d k u f,Iv x] h=some (v,h) :=
 eD Tryz.func162 hk hn
theorem Nv (hk:(AB a n c none (some (Iv x)) none λv l o=>Aj 2 (h ++ [.rows 2 54 false []]) (.sl 2 v l o) λv=>CC lo 54 2 48 (.sl 2 (some (h.length,0)) 0 (some 0)) v (h ++ [.rows 2 54 false []]) λv l=>eS 2 v λv o s=>AB a n c (some (Iv (AD (x+1)))) none none λb y z=>Aj 2 l (.sl 2 b y z) λb=>CC lo 54 2 48 (.sl 2 v o s) b l λv l=>eS 2 v λv o s=>br (decide (x>0)) (br (decide (x<(o:Int))) (Av (AD (x - 1)) o (eO v λb=>eO (ld l b.1 (b.2+((AD (x - (1:Int))).toNat)) 0 1) λb=>eC b λb y=>eS 6 b λb z u=>eN y (Av x o (eO v λy=>eO (ld l y.1 (y.2+x.toNat) 0 1) λy=>eC y λy w=>eS 6 y λy p q=>eN w (Ak (Ae lo 195 [Di b z u,Di y p q] l) λb y=>eS 6 b λb z u=>Av (AD (x - 1)) o (eO v λw=>eO (st lo y w.1 (w.2+((AD (x - (1:Int))).toNat)) 1 (BU b z u)) λb=>Av (AD ((o:Int) - 1)) o (eO v λy=>eO (st lo b y.1 (y.2+((AD ((o:Int) - (1:Int))).toNat)) 1 [.sl 0 none 0 (some 0)]) λb=>some ((At v o s),b)))))))) (Av (AD ((o:Int) - 1)) o (eO v λb=>eO (st lo l b.1 (b.2+((AD ((o:Int) - (1:Int))).toNat)) 1 [.sl 0 none 0 (some 0)]) λb=>some ((At v o s),b)))) (Av (AD ((o:Int) - 1)) o (eO v λb=>eO (st lo l b.1 (b.2+((AD ((o:Int) - (1:Int))).toNat)) 1 [.sl 0 none 0 (some 0)]) λl=>some ((At v o s),l))))=some r) :
  Ae lo 163 [At a n c,Iv x] h=some r :=
 eK Tryz.func163 hk
theorem Nu (hk:(Av (AD ((n:Int) - 1)) n (eO a λv=>eO (ld h v.1 (v.2+((AD ((n:Int) - (1:Int))).toNat)) 0 1) λv=>eC v λv l=>eS 6 v λv o s=>eN l (Ak (Ae lo 196 [Di v o s] h) λv l=>eA v λv=>eC v λv o=>eS 6 v λv s b=>eN o (Aj 2 (l ++ [.rows 2 54 false [[.sl 6 v s b,.sl 0 none 0 (some 0)]]]) (.sl 2 (some (l.length,0)) 1 (some 1)) λo=>CC lo 54 2 48 (.sl 2 a n c) o (l ++ [.rows 2 54 false [[.sl 6 v s b,.sl 0 none 0 (some 0)]]]) λv l=>eS 2 v λv o s=>some ((At v o s),l)))))=some r) :
  Ae lo 164 [At a n c] h=some r :=
 eK Tryz.func164 hk
theorem Kn (hk:(Ak (Ae h.length 197 [Bl y z a n c d k p b m u f,Iv x] h) λl o=>eI .i64 l λl=>br (decide (l>=0)) (Ak (Ae h.length 198 [At a n c] o) λs w=>eB s (Av x m (eO b λs=>eO (ld w s.1 (s.2+x.toNat) 0 1) λs=>eC s λs q=>eN q (eS 6 s λs q g=>Av l q (eO s λs=>eO (ld w s.1 (s.2+l.toNat) 3 1) λl=>eC l λl s=>eS 2 l λl q g=>eN s (Ak (Ae w.length 199 [At a n c] w) λs i=>eA s λs=>eC s λs j=>eS 2 s λs t e=>eN j (Ak (Ae h.length 191 [At l q g,At s t e] i) λl s=>eB l (Em s) (Bv s))))))) (Bv w)) (Bv o))=some (v,h')) (hn:noId v=true:=by rfl) :
  Ae lo 165 [Bl y z a n c d k p b m u f,Iv x] h=some (v,h) :=
 eD Tryz.func165 hk hn
theorem Nl (hk:(Av z n (eO a λv=>eO (ld h v.1 (v.2+z.toNat) 0 1) λv=>eC v λv l=>eN l (eS 6 v λv l o=>Ak (Ae h.length 197 [Bl x y b m c d k p a n u f,Iv z] h) λo s=>eI .i64 o λo=>Av o l (eO v λv=>eO (ld s v.1 (v.2+o.toNat) 0 6) λv=>eC v λv l=>eI .i64 v λv=>eC l λl o=>eI .i64 l λl=>eC o λo w=>eI .i64 o λo=>eC w λw q=>eS 2 w λw g i=>eC q λq j=>eT q λq=>eC j λj t=>eBv j λj=>eN t (br (decide (l>y)) (Ak (Ae lo 193 [At b m c,Iv 0,A3 v l o w g i q j] s) λt e=>eA t λt=>eC t λt A=>eS 2 t λt B C=>eN A (Ak (Ae lo 161 [Bl x l t B C d k p a n u f] e) λt e=>eA t λt=>eC t λt A=>eI .i64 t λt=>eC A λA B=>eI .i64 A λA=>eC B λB C=>eS 2 B λB D E=>eC C λC G=>eS 6 C λC H J=>eC G λG K=>eS 1 G λG L M=>eC K λK N=>eBv K λK=>eN N (some ((Bl t A B D E C H J G L M K),e)))) (Ak (Ae lo 193 [At b m c,Iv 0,A3 v l o w g i q j] s) λv l=>eA v λv=>eC v λv o=>eS 2 v λv s w=>eN o (Ak (Ae lo 161 [Bl x y v s w d k p a n u f] l) λv l=>eA v λv=>eC v λv o=>eI .i64 v λv=>eC o λo s=>eI .i64 o λo=>eC s λs w=>eS 2 s λs q g=>eC w λw i=>eS 6 w λw j t=>eC i λi e=>eS 1 i λi A B=>eC e λe C=>eBv e λe=>eN C (some ((Bl v o s q g w j t i A B e),l)))))))))=some r) :
  Ae lo 166 [Bl x y b m c d k p a n u f,Iv z] h=some r :=
 eK Tryz.func166 hk
theorem Ny (hk:(Aj 2 (h ++ [.rows 2 30 false []]) (.sl 2 a n c) λv=>CC lo 30 2 16 (.sl 2 (some (h.length,0)) 0 (some 0)) v (h ++ [.rows 2 30 false []]) λv l=>eS 2 v λv o s=>some ((A3 x y z v o s S f),l))=some r) :
  Ae lo 167 [A3 x y z a n c S f] h=some r :=
 eK Tryz.func167 hk
theorem No {M q:Int}{e:Pq} (hk:(br (x==y) (some (.tup [Bl y z b m c d k p a n u f,.bool false],h)) (Av x n (eO a λv=>eO (ld h v.1 (v.2+x.toNat) 0 1) λv=>eC v λv l=>eN l (eS 6 v λv v l=>br (t==(v:Int)) (br (decide (t>=60)) (some (.tup [Bl y z b m c d k p a n u f,.bool false],h)) (Av x n (eO a λv=>eO (ld h v.1 (v.2+x.toNat) 0 1) λv=>eC v λv l=>eN l (eS 6 v λv l o=>Ak (Ae lo 194 [.sl 6 v l o,An w q] h) λv l=>eB v (some (.tup [Bl y z b m c d k p a n u f,.bool false],l)) (Av x n (eO a λv=>eO (ld l v.1 (v.2+x.toNat) 0 1) λv=>eC v λv o=>eN o (eS 6 v λv o g=>Ak (Ae l.length 167 [A3 M w q e i s S F] l) λl j=>eA l λl=>eC l λl A=>eI .i64 l λl=>eC A λA B=>eI .i64 A λA=>eC B λB C=>eI .i64 B λB=>eC C λC D=>eS 2 C λC E G=>eC D λD H=>eT D λD=>eC H λH J=>eBv H λH=>eN J (Aj 6 (j ++ [.rows 6 49 false [CS l A B C E G D H]]) (.sl 6 (some (j.length,0)) 1 (some 1)) λJ=>CC lo 49 6 72 (.sl 6 v o g) J (j ++ [.rows 6 49 false [CS l A B C E G D H]]) λv l=>eS 6 v λv o g=>Av x n (eO a λj=>eO (st lo l j.1 (j.2+x.toNat) 0 (BU v o g)) λv=>some (.tup [Bl y z b m c d k p a n u f,.bool true],v)))))))))) (some (.tup [Bl y z b m c d k p a n u f,.bool false],h))))))=some r) :
  Ae lo 168 [Bl y z b m c d k p a n u f,Iv x,Iv t,A3 M w q e i s S F] h=some r :=
 eK Tryz.func168 hk
def Ft lo S f x y h:=
 LA 169 Tryz.f169 22131 0 11 lo ⟨[(0,.str S),(2,.bool f),(5,Iv x),(6,Iv y)],[],h⟩
theorem Ft.e :
  Ft lo S f y x h=br (decide (x<y)) (eO (LB S x) λv=>Ak (Ae lo 56 (CG (AD ((v.toNat:Int))) 33 126) h) λv l=>eB v (Ft lo S f y (AD (x+1)) l) (Bv l)) (br (decide ((S.size:Int)<=8)) (Em h) (Bv h)) :=
 lE
def Ca lo x y z a n c b m p d k u f t w i e j s g A G C H B J D F q M a0 P c0 a1 n0 c1 n1 a2 n2 c2 b0 h:=
 LA 171 Tryz.f171 221311 0 111 lo ⟨[(1,.lp 1 0),(2,.lp 2 0),(3,.lp 3 0),(4,Iv x)],[(1,(CN y z a n c b m p d k u f)),(2,[Iv t,Iv w,.sl i e j s,.sl g A G C,.sl H B J D,.bool F]),(3,[Iv q,Iv M,.sl 2 a0 P c0,.sl 6 a1 n0 c1,.sl n1 a2 n2 c2,.bool b0])],h⟩
theorem Np (hk:(Ak (Ae h.length 200 [At a n c] h) λv l=>eA v λv=>eC v λv o=>eS 2 v λv s z=>eN o (Ak (Ae l.length 201 (BU b m p) l) λl o=>eS 6 l λl w q=>Ca lo 0 x y a n c b m p d k u f 0 0 0 none 0 (some 0) 0 none 0 (some 0) 0 none 0 (some 0) false x y v s z l w q 0 none 0 (some 0) f o))=some r) :
  Ae lo 171 [Bl x y a n c b m p d k u f] h=some r :=
 eK Tryz.func171 hk
theorem Ca.e {lo g G n H J P n0 n1 n2 m k i j:Nat}{x t w q M y z:Int}{B a0 a a1 a2 a3 b d A:Pq}{s C D c0 c1 c2 c p u:Nq}{F b0 f:Bool}{h:Heap} :
  Ca lo x t w B g s a0 G C a n D F q M H a1 J c0 P a2 n0 c1 n1 a3 n2 c2 b0 y z b m c d k p i A j u f h=br (decide (x<(n:Int))) (Av x n (eO a λv=>eO (ld h v.1 (v.2+x.toNat) 0 1) λv=>eC v λv l=>eN l (eS 6 v λv l o=>Ak (Ae lo 201 (BU v l o) h) λv l=>eS 6 v λv o e=>Aj 1 (l ++ [.rows 1 50 false [BU v o e]]) (.sl 1 (some (l.length,0)) 1 (some 1)) λE=>CC lo 50 1 24 (.sl i A j u) E (l ++ [.rows 1 50 false [BU v o e]]) λv l=>eS 1 v λv o e=>Ca lo (AD (x+1)) t w B g s a0 G C a n D F q M H a1 J c0 P a2 n0 c1 n1 a3 n2 c2 b0 y z b m c d k p 1 v o e f l))) (some (.agg [Iv y,Iv z,.sl 2 b m c,.sl 6 d k p,.sl i A j u,.bool f],h)) :=
 lE
theorem Lc (hk:(Ak (Ae lo 33 [CF m k i,Iv (n:Int)] h) λv l=>eI .i64 v λv=>Av v n (eO a λo=>eO (ld l o.1 (o.2+v.toNat) 0 1) λv=>eC v λv o=>eN o (eT v λv=>some (.str v,l))))=some r) :
  Ae lo 172 [CF m k i,.sl 1 a n c] h=some r :=
 eK Tryz.func172 hk
theorem PM (hk:(some ((Di (some (h.length,0)) 4 (some 4)),(h ++ [.rows 6 49 false [[Iv 0,Iv 0,Iv 0,.sl 0 none 0 (some 0),.str ⟨⟨[]⟩⟩,.bool false],[Iv 0,Iv 0,Iv 0,.sl 0 none 0 (some 0),.str ⟨⟨[]⟩⟩,.bool false],[Iv 0,Iv 0,Iv 0,.sl 0 none 0 (some 0),.str ⟨⟨[]⟩⟩,.bool false],[Iv 0,Iv 0,Iv 0,.sl 0 none 0 (some 0),.str ⟨⟨[]⟩⟩,.bool false]]])))=some r) :
  Ae lo 182 [] h=some r :=
 eK Tryz.func182 hk
def BB lo S f x h:=
 LA 183 Tryz.f183 22131 0 11 lo ⟨[(0,.str S),(2,.bool f),(3,Iv x)],[],h⟩
theorem La (hk:(BB h.length S false 0 h)=some (v,h')) (hn:noId v=true:=by rfl) :
  Ae lo 183 [.str S] h=some (v,h) :=
 eD Tryz.func183 hk hn
theorem BB.e :
  BB lo S f x h=br (decide (x<(S.size:Int))) (eO (LB S x) λv=>br (decide ((v.toNat:Int)<33)) (Bv h) (eO (LB S x) λv=>br (decide ((v.toNat:Int)>126)) (Bv h) (BB lo S f (AD (x+1)) h))) (br (decide ((S.size:Int)<=8)) (Em h) (Bv h)) :=
 lE
theorem PJ {e:Pq} (hk:(Ak (Ae h.length 199 [At a n c] h) λl o=>eA l λl=>eC l λl z=>eS 2 l λl w q=>eN z (Ak (Ae h.length 191 [At b k p,At l w q] o) λl o=>eB l (Ak (Ae h.length 198 [At a n c] o) λl z=>eB l (Ak (Ae h.length 205 [Bl x y a n c d m u e i s f,At b k p] z) λl w=>eI .i64 l λl=>br (decide (l<=999)) (br (decide ((m:Int)<36)) (Em w) (Bv w)) (Bv w)) (Bv z)) (Bv o)))=some (v,h')) (hn:noId v=true:=by rfl) :
  Ae lo 184 [Bl x y a n c d m u e i s f,At b k p] h=some (v,h) :=
 eD Tryz.func184 hk hn
theorem MG {e:Pq} (hk:(Ak (Ae h.length 205 [Bl x y a n c b m p d k u f,At e i s] h) λv l=>eI .i64 v λv=>Aj 2 (l ++ [.rows 2 30 false []]) (.sl 2 e i s) λo=>CC (List.length (l ++ [.rows 2 30 false []])) 30 2 16 (.sl 2 (some (l.length,0)) 0 (some 0)) o (l ++ [.rows 2 30 false []]) λl o=>eS 2 l λl w q=>Ak (Ae lo 193 [At a n c,Iv 0,A3 z v x l w q S F] o) λl o=>eA l λl=>eC l λl w=>eS 2 l λl q g=>eN w (Ak (Ae lo 161 [Bl x v l q g b m p d k u f] o) λl o=>eA l λl=>eC l λl w=>eI .i64 l λl=>eC w λw q=>eI .i64 w λw=>eC q λq g=>eS 2 q λq j t=>eC g λg A=>eS 6 g λg B C=>eC A λA D=>eS 1 A λA E G=>eC D λD H=>eBv D λD=>eN H (some (.tup [Bl l w q j t g B C A E G D,An v x],o))))=some r) :
  Ae lo 185 [Bl x y a n c b m p d k u f,Iv z,.str S,.bool F,At e i s] h=some r :=
 eK Tryz.func185 hk
theorem Ni {e:Pq} (hk:(Aj 5 (h ++ [.rows 5 32 false [Mu x y z t w]]) (.sl 5 (some (h.length,0)) 1 (some 1)) λv=>CC lo 32 5 40 (.sl 5 e i s) v (h ++ [.rows 5 32 false [Mu x y z t w]]) λv l=>eS 5 v λv o q=>some ((Al a n c b m p d k u v o q),l))=some r) :
  Ae lo 186 [Al a n c b m p d k u e i s,Iv x,Iv y,Iv z,An t w] h=some r :=
 eK Tryz.func186 hk
theorem MI (hk:(br (y==0) (br (decide ((n:Int)>1)) (Av 1 n (eO a λv=>eO (ld h v.1 (v.2+1) 0 1) λv=>eC v λv l=>eN l (eS 6 v λv l o=>Av x l (eO v λv=>eO (ld h v.1 (v.2+x.toNat) 0 6) λv=>eC v λv l=>eI .i64 v λv=>eC l λl o=>eI .i64 l λl=>eC o λo s=>eI .i64 o λo=>eC s λs b=>eS 2 s λs z u=>eC b λb w=>eT b λb=>eC w λw p=>eBv w λw=>eN p (Ak (Ae lo 167 [A3 v l o s z u b w] h) λv l=>eA v λv=>eC v λv o=>eI .i64 v λv=>eC o λo s=>eI .i64 o λo=>eC s λs b=>eI .i64 s λs=>eC b λb z=>eS 2 b λb u w=>eC z λz p=>eT z λz=>eC p λp q=>eBv p λp=>eN q (some ((A3 v o s b u w z p),l))))))) (Av y n (eO a λv=>eO (ld h v.1 (v.2+y.toNat) 0 1) λv=>eC v λv l=>eN l (eS 6 v λv l o=>Av x l (eO v λv=>eO (ld h v.1 (v.2+x.toNat) 0 6) λv=>eC v λv l=>eI .i64 v λv=>eC l λl o=>eI .i64 l λl=>eC o λo s=>eI .i64 o λo=>eC s λs b=>eS 2 s λs z u=>eC b λb w=>eT b λb=>eC w λw p=>eBv w λw=>eN p (Ak (Ae lo 167 [A3 v l o s z u b w] h) λv l=>eA v λv=>eC v λv o=>eI .i64 v λv=>eC o λo s=>eI .i64 o λo=>eC s λs b=>eI .i64 s λs=>eC b λb z=>eS 2 b λb u w=>eC z λz p=>eT z λz=>eC p λp q=>eBv p λp=>eN q (some ((A3 v o s b u w z p),l)))))))) (Av y n (eO a λv=>eO (ld h v.1 (v.2+y.toNat) 0 1) λv=>eC v λv l=>eN l (eS 6 v λv l o=>Av x l (eO v λv=>eO (ld h v.1 (v.2+x.toNat) 0 6) λv=>eC v λv l=>eI .i64 v λv=>eC l λl o=>eI .i64 l λl=>eC o λo s=>eI .i64 o λo=>eC s λs b=>eS 2 s λs z u=>eC b λb w=>eT b λb=>eC w λw p=>eBv w λw=>eN p (Ak (Ae lo 167 [A3 v l o s z u b w] h) λv l=>eA v λv=>eC v λv o=>eI .i64 v λv=>eC o λo s=>eI .i64 o λo=>eC s λs b=>eI .i64 s λs=>eC b λb z=>eS 2 b λb u w=>eC z λz p=>eT z λz=>eC p λp q=>eBv p λp=>eN q (some ((A3 v o s b u w z p),l))))))))=some r) :
  Ae lo 187 [At a n c,Iv y,Iv x] h=some r :=
 eK Tryz.func187 hk
theorem NC (hk:(br (decide (x<y)) (Em h) (br (x==y) (br (decide (z<t)) (Em h) (Bv h)) (Bv h)))=some (v,h')) (hn:noId v=true:=by rfl) :
  Ae lo 188 [An x z,An y t] h=some (v,h) :=
 eD Tryz.func188 hk hn
theorem NA (hk:(Aj 2 (h ++ [.rows 2 30 false []]) (.sl 2 a n c) λv=>CC lo 30 2 16 (.sl 2 (some (h.length,0)) 0 (some 0)) v (h ++ [.rows 2 30 false []]) λv l=>eS 2 v λv o s=>Av x o (eO v λb=>eO (ld l b.1 (b.2+x.toNat) 0 2) λb=>eC b λb u=>eI .i64 b λb=>eC u λu w=>eI .i64 u λu=>eN w (Ak (Ae lo 206 [An b u,An y z] l) λl b=>eA l λl=>eC l λl u=>eI .i64 l λl=>eC u λu w=>eI .i64 u λu=>eN w (Av x o (eO v λw=>eO (st lo b w.1 (w.2+x.toNat) 0 (BJ l u)) λl=>some ((At v o s),l))))))=some r) :
  Ae lo 189 [At a n c,Iv x,An y z] h=some r :=
 eK Tryz.func189 hk
def Cf lo x a n c b m p k d i u j e g s h:=
 LA 190 Tryz.f190 221311 0 111 lo ⟨[(2,.lp 2 0),(3,.lp 3 0),(4,.lp 4 0),(5,.lp 5 0),(6,Iv x)],[(2,(Cj a n c)),(3,(Cj b m p)),(4,[.sl k d i u]),(5,[.sl j e g s])],h⟩
theorem ND (hk:(Cf lo 0 a n c b m p 0 none 0 (some 0) 0 none 0 (some 0) h)=some r) :
  Ae lo 190 [At a n c,At b m p] h=some r :=
 eK Tryz.func190 hk
theorem Cf.e :
  Cf lo x a n p b m u j A g s k d i c h=br (decide (x<4)) (Av x n (eO a λv=>eO (ld h v.1 (v.2+x.toNat) 0 2) λv=>eC v λv l=>eI .i64 v λv=>eC l λl o=>eI .i64 l λl=>eN o (Av x m (eO b λo=>eO (ld h o.1 (o.2+x.toNat) 0 2) λo=>eC o λo y=>eI .i64 o λo=>eC y λy z=>eI .i64 y λy=>eN z (Ak (Ae lo 206 [An v l,An o y] h) λv l=>eA v λv=>eC v λv o=>eI .i64 v λv=>eC o λo y=>eI .i64 o λo=>eN y (Aj 2 (l ++ [.rows 2 30 false [BJ v o]]) (.sl 2 (some (l.length,0)) 1 (some 1)) λy=>CC lo 30 2 16 (.sl k d i c) y (l ++ [.rows 2 30 false [BJ v o]]) λv l=>eS 2 v λv o y=>Cf lo (AD (x+1)) a n p b m u j A g s 2 v o y l)))))) (some (.agg [.sl k d i c],h)) :=
 lE
def BC lo f x a n c b m p h:=
 LA 191 Tryz.f191 22131 0 11 lo ⟨[(2,.lp 2 0),(3,.lp 3 0),(4,.bool f),(5,Iv x)],[(2,(Cj a n c)),(3,(Cj b m p))],h⟩
theorem Lf (hk:(BC h.length false 0 a n c b m p h)=some (v,h')) (hn:noId v=true:=by rfl) :
  Ae lo 191 [At a n c,At b m p] h=some (v,h) :=
 eD Tryz.func191 hk hn
theorem BC.e :
  BC lo f x a n c b m p h=br (decide (x<4)) (Av x m (eO b λv=>eO (ld h v.1 (v.2+x.toNat) 0 2) λv=>eC v λv l=>eI .i64 v λv=>eC l λl o=>eI .i64 l λl=>eN o (Av x n (eO a λo=>eO (ld h o.1 (o.2+x.toNat) 0 2) λo=>eC o λo s=>eI .i64 o λo=>eC s λs y=>eI .i64 s λs=>eN y (Ak (Ae lo 188 [An v l,An o s] h) λv l=>eB v (Bv l) (BC lo f (AD (x+1)) a n c b m p l)))))) (Em h) :=
 lE
def Ce lo x a n c m b k p i d j u h:=
 LA 192 Tryz.f192 221311 0 111 lo ⟨[(1,.lp 1 0),(2,.lp 2 0),(3,.lp 3 0),(4,Iv x)],[(1,(BU a n c)),(2,[.sl m b k p]),(3,[.sl i d j u])],h⟩
theorem Nx (hk:(Ce lo 0 a n c 0 none 0 (some 0) 0 none 0 (some 0) h)=some r) :
  Ae lo 192 [Di a n c] h=some r :=
 eK Tryz.func192 hk
theorem Ce.e :
  Ce lo x a n p i d j u m b k c h=br (decide (x<(n:Int))) (Av x n (eO a λv=>eO (ld h v.1 (v.2+x.toNat) 1 2) λv=>eC v λv l=>eI .i64 v λv=>eC l λl o=>eI .i64 l λl=>eN o (Aj 2 (h ++ [.rows 2 30 false [BJ v l]]) (.sl 2 (some (h.length,0)) 1 (some 1)) λo=>CC lo 30 2 16 (.sl m b k c) o (h ++ [.rows 2 30 false [BJ v l]]) λv l=>eS 2 v λv o s=>Ce lo (AD (x+1)) a n p i d j u 2 v o s l))) (some (.agg [.sl m b k c],h)) :=
 lE
theorem PL (hk:(Av x n (eO a λv=>eO (ld h v.1 (v.2+x.toNat) 0 1) λv=>eC v λv l=>eN l (eS 6 v λv l o=>Av y l (eO v λv=>eO (ld h v.1 (v.2+y.toNat) 1 2) λv=>eC v λv l=>eI .i64 v λv=>eC l λl o=>eI .i64 l λl=>eN o (Ak (Ae lo 188 [An v l,An z t] h) λv l=>eB v (Av x n (eO a λv=>eO (ld l v.1 (v.2+x.toNat) 0 1) λv=>eC v λv o=>eS 6 v λv s u=>eN o (Ak (Ae lo 207 [Di v s u,A3 y z t b m p S f] l) λv o=>eA v λv=>eC v λv s=>eS 6 v λv u w=>eN s (Av x n (eO a λs=>eO (st lo o s.1 (s.2+x.toNat) 0 (BU v u w)) λv=>br (decide (x<AD ((n:Int) - (1:Int)))) (Av x n (eO a λo=>eO (ld v o.1 (o.2+x.toNat) 1 1) λo=>eC o λo s=>eN s (eS 6 o λo s u=>Ak (Ae v.length 167 [A3 y z t b m p S f] v) λw q=>eA w λw=>eC w λw g=>eI .i64 w λw=>eC g λg i=>eI .i64 g λg=>eC i λi j=>eI .i64 i λi=>eC j λj k=>eS 2 j λj d e=>eC k λk A=>eT k λk=>eC A λA B=>eBv A λA=>eN B (Aj 6 (q ++ [.rows 6 49 false [CS w g i j d e k A]]) (.sl 6 (some (q.length,0)) 1 (some 1)) λB=>CC lo 49 6 72 (.sl 6 o s u) B (q ++ [.rows 6 49 false [CS w g i j d e k A]]) λo s=>eS 6 o λo u w=>Av x n (eO a λq=>eO (st lo s q.1 (q.2+x.toNat) 1 (BU o u w)) λo=>some ((At a n c),o)))))) (some ((At a n c),v))))))) (some ((At a n c),l)))))))=some r) :
  Ae lo 193 [At a n c,Iv x,A3 y z t b m p S f] h=some r :=
 eK Tryz.func193 hk
def BA lo a n c f x y z h:=
 LA 194 Tryz.f194 22131 0 11 lo ⟨[(0,.sl 6 a n c),(3,.lp 3 0),(4,.bool f),(5,Iv x)],[(3,(BJ y z))],h⟩
theorem K8 (hk:(BA h.length a n c false 0 x y h)=some (v,h')) (hn:noId v=true:=by rfl) :
  Ae lo 194 [.sl 6 a n c,An x y] h=some (v,h) :=
 eD Tryz.func194 hk hn
theorem BA.e :
  BA lo a n c f x y z h=br (decide (x<(n:Int))) (Av x n (eO a λv=>eO (ld h v.1 (v.2+x.toNat) 1 2) λv=>eC v λv l=>eI .i64 v λv=>eC l λl o=>eI .i64 l λl=>eN o (br ((v==y)&&((l==z)&&true)) (Em h) (BA lo a n c f (AD (x+1)) y z h)))) (Bv h) :=
 lE
def Bc lo a n c x b m p d k u h:=
 LA 195 Tryz.f195 221311 0 111 lo ⟨[(2,.lp 2 0),(3,.lp 3 0),(5,.sl 6 a n c),(6,Iv x)],[(2,(BU b m p)),(3,(BU d k u))],h⟩
def Cb lo a n c x y b m p d k u h:=
 Lp (X 195) lo (pf 22311231221311 Tryz.f195) 2 (Bx 2 (kS (X 195) lo (pf 111231221311 Tryz.f195) 1 (Bx 1 (kS (X 195) lo (pf 11221311 Tryz.f195) 0 (Wa (X 195) lo (pf 221311 Tryz.f195) 0 (Bx 0 (kS (X 195) lo (pf 111 Tryz.f195) 0 (Js (X 195) Tryz.f195.results.toList)))))))) ⟨[(2,.lp 2 0),(3,.lp 3 0),(5,.sl 6 a n c),(6,Iv x),(7,Iv y)],[(2,(BU b m p)),(3,(BU d k u))],h⟩
theorem Nt (hk:(Bc lo (some (h.length,0)) 0 (some 0) 0 a n c b m p (h ++ [.rows 6 49 false []]))=some r) :
  Ae lo 195 [Di a n c,Di b m p] h=some r :=
 eK Tryz.func195 hk
theorem Bc.e :
  Bc lo a n c x b m p d k u h=br (decide (x<4)) (Av x k (eO d λv=>eO (ld h v.1 (v.2+x.toNat) 1 2) λv=>eC v λv l=>eI .i64 v λv=>eC l λl o=>eI .i64 l λl=>eN o (Av x m (eO b λo=>eO (ld h o.1 (o.2+x.toNat) 1 2) λo=>eC o λo s=>eI .i64 o λo=>eC s λs y=>eI .i64 s λs=>eN y (Ak (Ae lo 188 [An v l,An o s] h) λv l=>eB v (Cb lo a n c x 0 b m p d k u l) (Bc lo a n c (AD (x+1)) b m p d k u l)))))) (some (.sl 6 a n c,h)) :=
 lE
theorem Cb.e {lo n m k:Nat}{a b d:Pq}{c p u:Nq}{x y:Int}{h:Heap} :
  Cb lo a n c x y b m p d k u h=br (decide (y<(n:Int))) (Av y n (eO a λv=>eO (ld h v.1 (v.2+y.toNat) 1 2) λv=>eC v λv l=>eI .i64 v λv=>eC l λl o=>eI .i64 l λl=>eN o (Av x m (eO b λo=>eO (ld h o.1 (o.2+x.toNat) 1 2) λo=>eC o λo s=>eI .i64 o λo=>eC s λs z=>eI .i64 s λs=>eN z (Ak (Ae lo 188 [An v l,An o s] h) λv l=>eB v (Cb lo a n c x (AD (y+1)) b m p d k u l) (AB a n c none (some (Iv y)) none λv o s=>Aj 6 (l ++ [.rows 6 49 false []]) (.sl 6 v o s) λv=>CC lo 49 6 72 (.sl 6 (some (l.length,0)) 0 (some 0)) v (l ++ [.rows 6 49 false []]) λv l=>eS 6 v λv o s=>Av x m (eO b λz=>eO (ld l z.1 (z.2+x.toNat) 0 6) λz=>eC z λz w=>eI .i64 z λz=>eC w λw q=>eI .i64 w λw=>eC q λq g=>eI .i64 q λq=>eC g λg i=>eS 2 g λg j t=>eC i λi e=>eT i λi=>eC e λe f=>eBv e λe=>eN f (Ak (Ae lo 167 [A3 z w q g j t i e] l) λl z=>eA l λl=>eC l λl w=>eI .i64 l λl=>eC w λw q=>eI .i64 w λw=>eC q λq g=>eI .i64 q λq=>eC g λg i=>eS 2 g λg j t=>eC i λi e=>eT i λi=>eC e λe f=>eBv e λe=>eN f (Aj 6 (z ++ [.rows 6 49 false [CS l w q g j t i e]]) (.sl 6 (some (z.length,0)) 1 (some 1)) λf=>CC lo 49 6 72 (.sl 6 v o s) f (z ++ [.rows 6 49 false [CS l w q g j t i e]]) λv l=>eS 6 v λv o s=>AB a n c (some (Iv y)) none none λz w q=>Aj 6 l (.sl 6 z w q) λz=>CC lo 49 6 72 (.sl 6 v o s) z l λv l=>eS 6 v λv o s=>Bc lo v o s (AD (x+1)) b m p d k u l))))))))) (AB a n c none (some (Iv y)) none λv l o=>Aj 6 (h ++ [.rows 6 49 false []]) (.sl 6 v l o) λv=>CC lo 49 6 72 (.sl 6 (some (h.length,0)) 0 (some 0)) v (h ++ [.rows 6 49 false []]) λv l=>eS 6 v λv o s=>Av x m (eO b λz=>eO (ld l z.1 (z.2+x.toNat) 0 6) λz=>eC z λz w=>eI .i64 z λz=>eC w λw q=>eI .i64 w λw=>eC q λq g=>eI .i64 q λq=>eC g λg i=>eS 2 g λg j t=>eC i λi e=>eT i λi=>eC e λe f=>eBv e λe=>eN f (Ak (Ae lo 167 [A3 z w q g j t i e] l) λl z=>eA l λl=>eC l λl w=>eI .i64 l λl=>eC w λw q=>eI .i64 w λw=>eC q λq g=>eI .i64 q λq=>eC g λg i=>eS 2 g λg j t=>eC i λi e=>eT i λi=>eC e λe f=>eBv e λe=>eN f (Aj 6 (z ++ [.rows 6 49 false [CS l w q g j t i e]]) (.sl 6 (some (z.length,0)) 1 (some 1)) λf=>CC lo 49 6 72 (.sl 6 v o s) f (z ++ [.rows 6 49 false [CS l w q g j t i e]]) λv l=>eS 6 v λv o s=>AB a n c (some (Iv y)) none none λz w q=>Aj 6 l (.sl 6 z w q) λz=>CC lo 49 6 72 (.sl 6 v o s) z l λv l=>eS 6 v λv o s=>Bc lo v o s (AD (x+1)) b m p d k u l)))) :=
 lE
def AU lo x a n c m b k p i d j u h:=
 LA 196 Tryz.f196 221311 0 111 lo ⟨[(1,.lp 1 0),(2,.lp 2 0),(3,.lp 3 0),(4,Iv x)],[(1,(BU a n c)),(2,[.sl m b k p]),(3,[.sl i d j u])],h⟩
theorem Gj (hk:(AU lo 0 a n c 0 none 0 (some 0) 0 none 0 (some 0) h)=some r) :
  Ae lo 196 [Di a n c] h=some r :=
 eK Tryz.func196 hk
theorem AU.e :
  AU lo x a n p i d j u m b k c h=br (decide (x<(n:Int))) (Av x n (eO a λv=>eO (ld h v.1 (v.2+x.toNat) 0 6) λv=>eC v λv l=>eI .i64 v λv=>eC l λl o=>eI .i64 l λl=>eC o λo s=>eI .i64 o λo=>eC s λs y=>eS 2 s λs z w=>eC y λy q=>eT y λy=>eC q λq g=>eBv q λq=>eN g (Ak (Ae lo 167 [A3 v l o s z w y q] h) λv l=>eA v λv=>eC v λv o=>eI .i64 v λv=>eC o λo s=>eI .i64 o λo=>eC s λs y=>eI .i64 s λs=>eC y λy z=>eS 2 y λy w q=>eC z λz g=>eT z λz=>eC g λg t=>eBv g λg=>eN t (Aj 6 (l ++ [.rows 6 49 false [CS v o s y w q z g]]) (.sl 6 (some (l.length,0)) 1 (some 1)) λt=>CC lo 49 6 72 (.sl m b k c) t (l ++ [.rows 6 49 false [CS v o s y w q z g]]) λv l=>eS 6 v λv o s=>AU lo (AD (x+1)) a n p i d j u 6 v o s l)))) (some (.agg [.sl m b k c],h)) :=
 lE
def BL lo x y z t w a n c b m p d k u f e i s h:=
 LA 197 Tryz.f197 221311 0 111 lo ⟨[(1,Iv x),(2,.lp 2 0),(4,Iv y),(5,.lp 5 0),(6,Iv z)],[(2,(CN t w a n c b m p d k u f)),(5,(BU e i s))],h⟩
theorem MH (hk:(Av 0 n (eO a λl=>eO (ld h l.1 (l.2+0) 0 1) λl=>eC l λl o=>eS 6 l λl s w=>eN o (BL h.length z 0 0 x y a n c b m p d k u f l s w h)))=some (v,h')) (hn:noId v=true:=by rfl) :
  Ae lo 197 [Bl x y a n c b m p d k u f,Iv z] h=some (v,h) :=
 eD Tryz.func197 hk hn
theorem BL.e :
  BL lo x z y t w d k c A i p a n u f b m s h=Av x n (eO a λv=>eO (ld h v.1 (v.2+x.toNat) 0 1) λv=>eC v λv l=>eN l (eS 6 v λv v l=>br (decide (y<(v:Int))) (Av x n (eO a λv=>eO (ld h v.1 (v.2+x.toNat) 0 1) λv=>eC v λv l=>eN l (eS 6 v λv l o=>Av y l (eO v λv=>eO (ld h v.1 (v.2+y.toNat) 0 6) λv=>eC v λv l=>eI .i64 v λv=>eC l λl o=>eI .i64 l λl=>eC o λo q=>eI .i64 o λo=>eC q λq g=>eS 2 q λq q q=>eC g λq g=>eT q λq=>eC g λq g=>eBv q λq=>eN g (Av v m (eO b λq=>eO (ld h q.1 (q.2+v.toNat) 1 2) λv=>eC v λv q=>eI .i64 v λv=>eC q λq g=>eI .i64 q λq=>eN g (Ak (Ae lo 188 [An v q,An l o] h) λv l=>eB v (some (Iv y,l)) (BL lo x z (AD (y+1)) t w d k c A i p a n u f b m s l)))))))) (some (Iv (-1),h)))) :=
 lE
theorem Nr (hk:(Av 0 n (eO a λl=>eO (ld h l.1 (l.2+0) 1 1) λl=>eC l λl o=>eN o (eS 6 l λl l o=>br (decide ((l:Int)<6)) (Em h) (Bv h))))=some (v,h')) (hn:noId v=true:=by rfl) :
  Ae lo 198 [At a n c] h=some (v,h) :=
 eD Tryz.func198 hk hn
theorem K9 (hk:(Av (AD ((n:Int) - 1)) n (eO a λv=>eO (ld h v.1 (v.2+((AD ((n:Int) - (1:Int))).toNat)) 0 1) λv=>eC v λv l=>eS 6 v λv o s=>eN l (Ak (Ae lo 192 [Di v o s] h) λv l=>eA v λv=>eC v λv o=>eS 2 v λv s b=>eN o (some ((At v s b),l)))))=some r) :
  Ae lo 199 [At a n c] h=some r :=
 eK Tryz.func199 hk
def Cd lo x a n c m b k p i d j u h:=
 LA 200 Tryz.f200 221311 0 111 lo ⟨[(1,.lp 1 0),(2,.lp 2 0),(3,.lp 3 0),(4,Iv x)],[(1,(Cj a n c)),(2,[.sl m b k p]),(3,[.sl i d j u])],h⟩
def Cc lo x y a n c m b k p i d j u e g s G A H C h:=
 Lp (X 200) lo (pf 22131231221311 Tryz.f200) 2 (Bx 2 (kS (X 200) lo (pf 11231221311 Tryz.f200) 1 (Bx 1 (kS (X 200) lo (pf 11221311 Tryz.f200) 0 (Wa (X 200) lo (pf 221311 Tryz.f200) 0 (Bx 0 (kS (X 200) lo (pf 111 Tryz.f200) 0 (Js (X 200) Tryz.f200.results.toList)))))))) ⟨[(1,.lp 1 0),(2,.lp 2 0),(3,.lp 3 0),(4,Iv x),(5,.lp 5 0),(6,Iv y)],[(1,(Cj a n c)),(2,[.sl m b k p]),(3,[.sl i d j u]),(5,[.sl 6 e g s,.sl G A H C])],h⟩
theorem Nw (hk:(Cd lo 0 a n c 0 none 0 (some 0) 0 none 0 (some 0) h)=some r) :
  Ae lo 200 [At a n c] h=some r :=
 eK Tryz.func200 hk
theorem Cd.e :
  Cd lo x a n p i d j u m b k c h=br (decide (x<(n:Int))) (Av x n (eO a λv=>eO (ld h v.1 (v.2+x.toNat) 0 1) λv=>eC v λv l=>eS 6 v λv o s=>eN l (Ak (Ae lo 196 [Di v o s] h) λv l=>eA v λv=>eC v λv o=>eS 6 v λv s y=>eN o (Cc lo x 0 a n p i d j u m b k c v s y 0 none 0 (some 0) l)))) (some (.agg [.sl m b k c],h)) :=
 lE
theorem Cc.e {lo n j g G H m k i:Nat}{x y:Int}{a A B b d:Pq}{u s C c p:Nq}{h:Heap} :
  Cc lo x y a n u j A g s G B H C b m c k d i p h=Av x n (eO a λv=>eO (ld h v.1 (v.2+x.toNat) 1 1) λv=>eC v λv l=>eN l (eS 6 v λv v l=>br (decide (y<(v:Int))) (Av x n (eO a λv=>eO (ld h v.1 (v.2+x.toNat) 1 1) λv=>eC v λv l=>eN l (eS 6 v λv l o=>Av y l (eO v λv=>eO (ld h v.1 (v.2+y.toNat) 0 6) λv=>eC v λv l=>eI .i64 v λv=>eC l λl o=>eI .i64 l λl=>eC o λo z=>eI .i64 o λo=>eC z λz w=>eS 2 z λz q t=>eC w λw e=>eT w λw=>eC e λe f=>eBv e λe=>eN f (Ak (Ae lo 167 [A3 v l o z q t w e] h) λv l=>eA v λv=>eC v λv o=>eI .i64 v λv=>eC o λo z=>eI .i64 o λo=>eC z λz w=>eI .i64 z λz=>eC w λw q=>eS 2 w λw t e=>eC q λq f=>eT q λq=>eC f λf D=>eBv f λf=>eN D (Aj 6 (l ++ [.rows 6 49 false [CS v o z w t e q f]]) (.sl 6 (some (l.length,0)) 1 (some 1)) λD=>CC lo 49 6 72 (.sl k d i p) D (l ++ [.rows 6 49 false [CS v o z w t e q f]]) λv l=>eS 6 v λv o z=>Cc lo x (AD (y+1)) a n u j A g s G B H C b m c 6 v o z l)))))) (Aj 2 (h ++ [.rows 2 54 false [[.sl 6 b m c,.sl k d i p]]]) (.sl 2 (some (h.length,0)) 1 (some 1)) λv=>CC lo 54 2 48 (.sl G B H C) v (h ++ [.rows 2 54 false [[.sl 6 b m c,.sl k d i p]]]) λv l=>eS 2 v λv o z=>Cd lo (AD (x+1)) a n u j A g s 2 v o z l))) :=
 lE
def B9 lo a n c b m p x h:=
 LA 201 Tryz.f201 221311 0 111 lo ⟨[(0,.sl 6 a n c),(3,.sl 6 b m p),(4,Iv x)],[],h⟩
theorem Nk (hk:(B9 lo a n c (some (h.length,0)) 0 (some 0) 0 (h ++ [.rows 6 49 false []]))=some r) :
  Ae lo 201 (BU a n c) h=some r :=
 eK Tryz.func201 hk
theorem B9.e :
  B9 lo a n p b m c x h=br (decide (x<(n:Int))) (Av x n (eO a λv=>eO (ld h v.1 (v.2+x.toNat) 0 6) λv=>eC v λv l=>eI .i64 v λv=>eC l λl o=>eI .i64 l λl=>eC o λo s=>eI .i64 o λo=>eC s λs y=>eS 2 s λs z u=>eC y λy w=>eT y λy=>eC w λw q=>eBv w λw=>eN q (Ak (Ae lo 167 [A3 v l o s z u y w] h) λv l=>eA v λv=>eC v λv o=>eI .i64 v λv=>eC o λo s=>eI .i64 o λo=>eC s λs y=>eI .i64 s λs=>eC y λy z=>eS 2 y λy u w=>eC z λz q=>eT z λz=>eC q λq g=>eBv q λq=>eN g (Aj 6 (l ++ [.rows 6 49 false [CS v o s y u w z q]]) (.sl 6 (some (l.length,0)) 1 (some 1)) λg=>CC lo 49 6 72 (.sl 6 b m c) g (l ++ [.rows 6 49 false [CS v o s y u w z q]]) λv l=>eS 6 v λv o s=>B9 lo a n p v o s (AD (x+1)) l)))) (some (.sl 6 b m c,h)) :=
 lE
def A0 lo a n c m l x y z h:=
 LA 202 Tryz.f202 22131 0 11 lo ⟨[(0,.sl 2 a n c),(1,.fn m l),(4,Iv x),(7,Iv y),(8,Iv z)],[],h⟩
theorem A0.e :
  A0 lo a n c m l z y x h=br (decide (x<y)) (Av x n (eO a λv=>eO (ld h v.1 (v.2+x.toNat) 0 2) λv=>eC v λv o=>eS 6 v λv s b=>eC o λo u=>eS 6 o λo w p=>eN u (Ak (Ae lo m (Db [U7 v s b o w p] l) h) λv o=>eB v (some (Iv x,o)) (A0 lo a n c m l z y (AD (x+1)) o)))) (some (Iv (-1),h)) :=
 lE
def BZ lo a n c x m l h:=
 Lp (X 203) lo (pf 2211 Tryz.f203) 0 (Bx 0 (Js (X 203) Tryz.f203.results.toList)) ⟨[(0,.sl 6 a n c),(1,Iv 0),(2,Iv 0),(3,Iv x),(4,.fn m l),(10,.bool true),(11,.bool true)],[],h⟩
theorem BZ.e :
  BZ lo a n c x m l h=Ak (Ae lo 208 [.sl 6 a n c,Iv 0,Iv 0,.fn m l] h) λv o=>eU v λv=>eN v (some (.tup [],o)) :=
 lE
def BY lo a n c x m l h:=
 Lp (X 203) lo (pf 2211 Tryz.f203) 0 (Bx 0 (Js (X 203) Tryz.f203.results.toList)) ⟨[(0,.sl 6 a n c),(1,Iv 0),(2,Iv 1),(3,Iv x),(4,.fn m l),(10,.bool true),(11,.bool true)],[],h⟩
theorem BY.e :
  BY lo a n c x m l h=Ak (Ae lo 208 [.sl 6 a n c,Iv 0,Iv 1,.fn m l] h) λv o=>eU v λv=>eN v (some (.tup [],o)) :=
 lE
def BX lo a n c x m l h:=
 Lp (X 203) lo (pf 2211 Tryz.f203) 0 (Bx 0 (Js (X 203) Tryz.f203.results.toList)) ⟨[(0,.sl 6 a n c),(1,Iv 0),(2,Iv 2),(3,Iv x),(4,.fn m l),(10,.bool true),(11,.bool true)],[],h⟩
theorem BX.e :
  BX lo a n c x m l h=Ak (Ae lo 208 [.sl 6 a n c,Iv 0,Iv 2,.fn m l] h) λv o=>eU v λv=>eN v (some (.tup [],o)) :=
 lE
def BW lo a n c x m l h:=
 Lp (X 203) lo (pf 2211 Tryz.f203) 0 (Bx 0 (Js (X 203) Tryz.f203.results.toList)) ⟨[(0,.sl 6 a n c),(1,Iv 0),(2,Iv 3),(3,Iv x),(4,.fn m l),(10,.bool true),(11,.bool true)],[],h⟩
theorem BW.e :
  BW lo a n c x m l h=Ak (Ae lo 208 [.sl 6 a n c,Iv 0,Iv 3,.fn m l] h) λv o=>eU v λv=>eN v (some (.tup [],o)) :=
 lE
def BV lo a n c x m l h:=
 Lp (X 203) lo (pf 2211 Tryz.f203) 0 (Bx 0 (Js (X 203) Tryz.f203.results.toList)) ⟨[(0,.sl 6 a n c),(1,Iv 0),(2,Iv 4),(3,Iv x),(4,.fn m l),(10,.bool true),(11,.bool true)],[],h⟩
theorem BV.e :
  BV lo a n c x m l h=Ak (Ae lo 208 [.sl 6 a n c,Iv 0,Iv 4,.fn m l] h) λv o=>eU v λv=>eN v (some (.tup [],o)) :=
 lE
def BG lo x y a n c h:=
 LA 205 Tryz.f205 221311 0 111 lo ⟨[(3,.lp 3 0),(5,Iv x),(6,Iv y)],[(3,(Cj a n c))],h⟩
theorem Nn {e:Pq} (hk:(BG h.length x 0 a n c h)=some (v,h')) (hn:noId v=true:=by rfl) :
  Ae lo 205 [Bl y x b m p d k u e i s f,At a n c] h=some (v,h) :=
 eD Tryz.func205 hk hn
theorem BG.e :
  BG lo y x a n c h=br (decide (x<4)) (Av x n (eO a λv=>eO (ld h v.1 (v.2+x.toNat) 0 1) λv=>eC v λv l=>eN l (eI .i64 v λv=>br (decide (v>y)) (Av x n (eO a λv=>eO (ld h v.1 (v.2+x.toNat) 0 1) λv=>eC v λv l=>eN l (eI .i64 v λv=>BG lo v (AD (x+1)) a n c h))) (BG lo y (AD (x+1)) a n c h)))) (some (Iv (AD (y+1)),h)) :=
 lE
theorem PO (hk:(Ak (Ae h.length 188 [An x y,An z t] h) λl c=>eB l (some ((An z t),c)) (some ((An x y),c)))=some (v,h')) (hn:noId v=true:=by rfl) :
  Ae lo 206 [An x y,An z t] h=some (v,h) :=
 eD Tryz.func206 hk hn
theorem PN (hk:(Av x n (eO a λv=>eO (ld h v.1 (v.2+x.toNat) 1 2) λv=>eC v λv l=>eI .i64 v λv=>eC l λl o=>eI .i64 l λl=>eN o (Ak (Ae lo 188 [An v l,An y z] h) λv l=>eB v (Ak (Ae lo 167 [A3 x y z b m p S f] l) λv o=>eA v λv=>eC v λv s=>eI .i64 v λv=>eC s λs u=>eI .i64 s λs=>eC u λu w=>eI .i64 u λu=>eC w λw q=>eS 2 w λw g i=>eC q λq j=>eT q λq=>eC j λj k=>eBv j λj=>eN k (Av x n (eO a λk=>eO (st lo o k.1 (k.2+x.toNat) 0 (CS v s u w g i q j)) λv=>some ((Di a n c),v)))) (some ((Di a n c),l)))))=some r) :
  Ae lo 207 [Di a n c,A3 x y z b m p S f] h=some r :=
 eK Tryz.func207 hk
def AM lo a n c x y m l z h:=
 Lp (X 208) lo (pf 221 Tryz.f208) 0 (Bx 0 (Js (X 208) Tryz.f208.results.toList)) ⟨[(0,.sl 6 a n c),(1,Iv x),(2,Iv y),(3,.fn m l),(8,Iv z)],[],h⟩
def AL lo a n c x y m l z t h:=
 Lp (X 208) lo (pf 221231221 Tryz.f208) 2 (Bx 2 (Bx 1 (kS (X 208) lo (pf 11221 Tryz.f208) 0 (Wa (X 208) lo (pf 221 Tryz.f208) 0 (Bx 0 (Js (X 208) Tryz.f208.results.toList)))))) ⟨[(0,.sl 6 a n c),(1,Iv x),(2,Iv y),(3,.fn m l),(8,Iv z),(9,Iv t)],[],h⟩
theorem AM.e :
  AM lo a n c z y m l x h=br (decide (x<y)) (AL lo a n c z y m l x x h) (some (.tup [],h)) :=
 lE
theorem AL.e {lo n m:Nat}{a:Pq}{c:Nq}{y z t x:Int}{l:List V}{h:Heap} :
  AL lo a n c y z m l t x h=br (decide (x>y)) (Av x n (eO a λv=>eO (ld h v.1 (v.2+x.toNat) 0 6) λv=>eC v λv o=>eI .i64 v λv=>eC o λo s=>eI .i64 o λo=>eC s λs b=>eI .i64 s λs=>eC b λb u=>eS 2 b λb w p=>eC u λu q=>eT u λu=>eC q λq g=>eBv q λq=>eN g (Av (AD (x - 1)) n (eO a λg=>eO (ld h g.1 (g.2+((AD (x - (1:Int))).toNat)) 0 6) λg=>eC g λg i=>eI .i64 g λg=>eC i λi j=>eI .i64 i λi=>eC j λj k=>eI .i64 j λj=>eC k λk d=>eS 2 k λk e f=>eC d λd A=>eT d λd=>eC A λA B=>eBv A λA=>eN B (Ak (Ae lo m (Db [A3 v o s b w p u q,A3 g i j k e f d A] l) h) λv o=>eI .i64 v λv=>br (decide (v<0)) (Av (AD (x - 1)) n (eO a λv=>eO (ld o v.1 (v.2+((AD (x - (1:Int))).toNat)) 0 6) λv=>eC v λv s=>eI .i64 v λv=>eC s λs b=>eI .i64 s λs=>eC b λb u=>eI .i64 b λb=>eC u λu w=>eS 2 u λu p q=>eC w λw g=>eT w λw=>eC g λg i=>eBv g λg=>eN i (Av x n (eO a λi=>eO (ld o i.1 (i.2+x.toNat) 0 6) λi=>eC i λi j=>eI .i64 i λi=>eC j λj k=>eI .i64 j λj=>eC k λk d=>eI .i64 k λk=>eC d λd e=>eS 2 d λd f A=>eC e λe B=>eT e λe=>eC B λB C=>eBv B λB=>eN C (Av x n (eO a λC=>eO (st lo o C.1 (C.2+x.toNat) 0 (CS v s b u p q w g)) λv=>Av (AD (x - 1)) n (eO a λs=>eO (st lo v s.1 (s.2+((AD (x - (1:Int))).toNat)) 0 (CS i j k d f A e B)) λv=>AL lo a n c y z m l t (AD (x - 1)) v))))))) (AM lo a n c y z m l (AD (t+1)) o)))))) (AM lo a n c y z m l (AD (t+1)) h) :=
 lE
end


structure Tag where
 time:Int
 place:Int
 deriving DecidableEq
def Tag.cs (t:Tag):List V := [Iv t.time,Iv t.place]
def Ag (n a b:Int):Bool:=decide (a<=n)&&decide (n<=b)
def BE (t:Int) (p:Int):Bool:=(t==0&&p==0) || (Ag t 1 999&&Ag p 0 2)
def Fz (t p t' p':Int):Bool:=decide (t<t') || (t==t'&&decide (p<p'))
section
variable {lo:Nat}{h:Heap}{a b c d e:Int}
theorem Ff:Ae lo 56 [Iv a,Iv b,Iv c] h=some (.bool (Ag a b c),h) :=
 NF (h':=h) (by simp[Ag])
theorem AY:Ae lo 41 [Iv a,Iv b,Iv c] h=some (.bool (Ag a b c),h) :=
 Rl (h':=h) (by simp[Ag])
theorem O4:Ae lo 98 [Iv a] h=some (.bool (Ag a 0 2),h):=MP (h':=h) (by simp[Ff])
theorem R5:Ae lo 57 [Iv a] h=some (.bool (Ag a 0 3),h):=PP (h':=h) (by simp[Ff])
theorem R6:Ae lo 58 [.agg [Iv a,Iv b]] h=some (.bool (BE a b),h) :=
 PQ (h':=h) (by simp[Ff,O4,BE])
theorem OP:Ae lo 99 [.agg [Iv a,Iv b]] h=some (.bool (BE a b),h) :=
 MN (h':=h) (by simp[AY,BE])
theorem Bj:Ae lo 188 [.agg [Iv a,Iv b],.agg [Iv c,Iv d]] h=some (.bool (Fz a b c d),h) :=
 NC (h':=h) (by simp[Fz])
def CU {α:Type} (p:α->Bool):List α->Nat->Int
 | [],_ => -1
 | x :: r,k=>bif p x then (k:Int) else CU p r (k+1)
theorem KQ {α:Type}{p:α->Bool}:∀ {l:List α}{k:Nat},decide (CU p l k>=0)=l.any p
 | [],k=>by simp[CU]
 | x :: r,k=>by
  simp only[CU,List.any_cons];by_cases h:p x=true
  ·simp[h]
  ·simpa [h] using KQ (p:=p) (l:=r) (k:=k+1)
def Mx (a b:Int):Int:=if a<b then -1 else if b<a then 1 else 0
theorem Uj:Ae lo 126 [Iv a] h=some (.bool false,h):=Lk (h':=h) (by simp)
theorem Q8:Ae lo 78 [Iv a,Iv b] h=some (Iv (Mx a b),h) :=
 JN (h':=h) (by
  simp only[Uj,Ac,A2,AC];unfold Mx;by_cases h1:a<b
  ·rw[Am h1,if_pos h1]
  ·rw[Ao h1,if_neg h1];by_cases h2:b<a
   ·rw[Am h2,if_pos h2]
   ·rw[Ao h2,if_neg h2])
theorem Sp:Ae lo 77 [.sl 1 (some (h.length,0)) 2 (some 2)] (h ++ [.rows 1 3 false [[Iv a],[Iv b]]])=some (Iv (if a=0 then b else a),h ++ [.rows 1 3 false [[Iv a],[Iv b]]]) :=
 PR (h':=h ++ [.rows 1 3 false [[Iv a],[Iv b]]]) (by
  rw[Cz.e,Am (by decide),Er (by decide)];simp only[Af];rw[SU (row := [Iv a]) (by rfl)];simp only[cut,Af,Ab,Ai,Aa];by_cases h1:a=0
  ·subst h1;rw[if_pos rfl,show ((0:Int)==0)=true from rfl,Ax,show AD (0+1)=((1:Nat):Int) from Ay (k:=0) (by decide),Cz.e,Am (by decide),Er (by decide)];simp only[Af];rw[SU (row := [Iv b]) (by rfl)];simp only[cut,Af,Ab,Ai,Aa];by_cases h2:b=0
   ·subst h2;rw[show ((0:Int)==0)=true from rfl,Ax,show AD (((1:Nat):Int)+1)=((2:Nat):Int) from Ay (k:=1) (by decide),Cz.e,Ao (by decide)]
   ·rw[show (b==0)=false by simpa using h2,AC]
  ·rw[if_neg h1,show (a==0)=false by simpa using h1,AC])
theorem O5:Ae lo 43 [.agg [Iv a,Iv b],.agg [Iv c,Iv d]] h=some (Iv (if Mx a c=0 then Mx b d else Mx a c),h) :=
 I0 (h':=h ++ [.rows 1 3 false [[Iv (Mx a c)],[Iv (Mx b d)]]]) (by
  simp only[Q8,Ac,Aa,Sp])
theorem VA:decide ((if Mx a c=0 then Mx b d else Mx a c)<0)=Fz a b c d:=by
 unfold Mx Fz;by_cases h1:a<c
 ·simp[h1]
 ·by_cases h2:c<a
  ·simp[h1,h2];omega
  ·have:a=c:=by omega
   subst this;by_cases h3:b<d
   ·simp[h3]
   ·simp[h3];split<;>simp
theorem Ho:Ae lo 17 [.agg [Iv a,Iv b],.agg [Iv c,Iv d]] h=some (.bool (Fz a b c d),h) :=
 MR (h':=h) (by simp only[O5,Ac,Aa,Te,VA];simp)
end
end Go.Proofs.YtmdgiekbejjjgaaGreat
namespace Go.Proofs.YtmdgiekbejjjgaaGreat.T
open Go
variable {h:Heap}{b n:Nat}
def U5 (P:Program) (g:TypeId->Bool):List Field->Nat->Nat->Bool
 | [],off,n=>Nat.beq off n
 | f :: fs,off,n=>match Nat.beq f.offset off&&g f.type with
  | true=>U5 P g fs (off+P.cellsOf f.type) n
  | false=>false
def KZ (P:Program):Nat->TypeId->Bool
 | 0,_=>false
 | n+1,t=>match P.underlying t with
  | some .bool=>Nat.beq (P.cellsOf t) 1
  | some (.int _)=>Nat.beq (P.cellsOf t) 1
  | some .string=>Nat.beq (P.cellsOf t) 1
  | some (.slice e)=>Nat.beq (P.cellsOf t) 1&&Nat.blt 0 (P.cellsOf e)&&KZ P n e
  | some (.struct fs)=>U5 P (KZ P n) fs.toList 0 (P.cellsOf t)
  | _=>false
def TVs (P:Program) (g:TypeId->List V->Prop):List Field->List V->Prop
 | [],xs=>xs = []
 | f :: fs,xs=>∃ ys zs,xs=ys++zs/\ys.length=P.cellsOf f.type/\g f.type ys/\TVs P g fs zs
def TV (P:Program) (h:Heap):Nat->TypeId->List V->Prop
 | 0,_,_=>False
 | n+1,t,xs=>match P.underlying t with
  | some .bool=>∃ b,xs = [.bool b]
  | some (.int k)=>∃ i,xs = [.int k i]/\(Lit.int k i).wf=true
  | some .string=>∃ s,xs = [.str s]/\s.size<=maxLen
  | some (.slice e)=>∃ a c rs,xs = [.sl (P.cellsOf e) a rs.length c]/\(rs.length<=maxLen/\∀ k,c=some k->rs.length<=k)/\(∀ row∈rs,row.length=P.cellsOf e/\TV P h n e row) /\
    (rs = []\/∃ b,a=some (b,0)/\Heap.rows? h b=some rs)
  | some (.struct fs)=>TVs P (TV P h n) fs.toList xs
  | _=>False
theorem UF {h':Heap} (hp:h <+: h') {rs:List (List V)} (hb:Heap.rows? h b=some rs):Heap.rows? h' b=some rs:=by
 obtain ⟨t,rfl⟩:=hp;unfold Heap.rows? at hb ⊢;have hl:b<h.length:=by apply Zf;intro hle;rw[YM hle] at hb;cases hb
 rw[X2 hl];exact hb
theorem TVs.imp {P:Program}{g g':TypeId->List V->Prop} (hg:∀ t xs,g t xs->g' t xs):∀ {fs:List Field}{xs:List V},TVs P g fs xs->TVs P g' fs xs
 | [],xs,h=>h
 | f :: fs,xs,⟨ys,zs,h1,h2,h3,h4⟩=>⟨ys,zs,h1,h2,hg _ _ h3,TVs.imp hg h4⟩
theorem TV.mono {P:Program}{h h':Heap} (hp:h <+: h'):∀ (n:Nat) (t:TypeId) (xs:List V),TV P h n t xs->TV P h' n t xs
 | 0,_,_,hx=>hx
 | n+1,t,xs,hx=>by
  simp only[TV] at hx ⊢;split at hx
  ·exact hx
  ·exact hx
  ·exact hx
  ·obtain ⟨a,c,rs,h1,h2,h3,h4⟩:=hx;exact ⟨a,c,rs,h1,h2,λrow hr=>⟨(h3 row hr).1,TV.mono hp n _ _ (h3 row hr).2⟩,h4.imp id λ⟨b,h5,h6⟩=>⟨b,h5,UF hp h6⟩⟩
  ·exact TVs.imp (λt xs=>TV.mono hp n t xs) hx
  ·exact hx
theorem Pc {xs ys:List V} (h1:Cr xs=true) (h2:Cr ys=true):Cr (xs++ys)=true:=by
 induction xs with
 | nil=>exact h2
 | cons x r ih =>
  simp only[Yy,Cr] at h1 ⊢;split at h1
  ·exact ih h1
  ·cases h1
theorem TVs.firm {P:Program}{g:TypeId->List V->Prop} (hg:∀ t xs,g t xs->Cr xs=true):∀ {l:List Field}{xs:List V},TVs P g l xs->Cr xs=true
 | [],xs,h=>by simp only[TVs] at h;subst h;rfl
 | f :: l,xs,⟨ys,zs,e,_,h3,h4⟩=>by subst e;exact Pc (hg _ _ h3) (TVs.firm hg h4)
theorem TV.firm {P:Program}{h:Heap}:∀ (n:Nat) (t:TypeId) (xs:List V),TV P h n t xs->Cr xs=true
 | 0,_,_,hx=>hx.elim
 | n+1,t,xs,hx=>by
  simp only[TV] at hx;split at hx
  ·obtain ⟨b,rfl⟩:=hx;rfl
  ·obtain ⟨i,rfl,_⟩:=hx;rfl
  ·obtain ⟨s,rfl,_⟩:=hx;rfl
  ·obtain ⟨a,c,rs,rfl,_⟩:=hx;rfl
  ·exact TVs.firm (λt xs=>TV.firm n t xs) hx
  ·exact hx.elim
structure Imp (W:World) (ρ:Rho) (h:Heap):Prop where
 rel:HRel ρ h W
 ro:∀ b,b<h.length->Bg h b\/Ma h b
theorem R3 {k:Blk} (hb:b<h.length) (hd:Bg h b):Bg (h ++ [k]) b:=by unfold Bg at *;rw[X2 hb];exact hd
theorem U3 {k:Blk} (hb:b<h.length) (hd:Ma h b):Ma (h ++ [k]) b:=by obtain ⟨R,e,rs,h1⟩:=hd;exact ⟨R,e,rs,by rw[X2 hb];exact h1⟩
theorem Imp.lay {W:World}{ρ:Rho} (hi:Imp W ρ h) (k:Blk) (e:E) (hlt:e.r<W.heap.size) (hk:BR ρ e k W) (hro:k = .dead\/∃ R e rs,k = .rows R e true rs) :
  Imp W (ρ.set h.length e) (h ++ [k]):=by
 have hle:Rle ρ (ρ.set h.length e):=Rho.set_le hi.rel.fresh;have hnew:Bg (h ++ [k]) h.length\/Ma (h ++ [k]) h.length:=by
  rcases hro with rfl | ⟨R,t,rs,rfl⟩
  ·exact .inl (by simp[Bg])
  ·exact .inr ⟨R,t,rs,by simp⟩
 have hall:∀ b,b<(h ++ [k]).length->Bg (h ++ [k]) b\/Ma (h ++ [k]) b:=λb hb=>by
  by_cases hx:b=h.length
  ·subst hx;exact hnew
  ·have:b<h.length:=by simp at hb;omega
   exact (hi.ro b this).imp (R3 this) (U3 this)
 have hdom:∀ b e',(ρ.set h.length e) b=some e'->b<(h ++ [k]).length/\e'.r<W.heap.size:=λb e' hb=>by
  by_cases hx:b=h.length
  ·subst hx;rw[Rho.set_same] at hb;injection hb with hb;subst hb;exact ⟨by simp,hlt⟩
  ·rw[Rho.set_other hx] at hb;have:=hi.rel.dom b e' hb;exact ⟨by simp;omega,by omega⟩
 refine ⟨⟨hdom,λb e' k' hb hk'=>?_,λb b' e1 e2 h1 h2 hr hne=>?_⟩,hall⟩
 ·by_cases hx:b=h.length
  ·subst hx;rw[Rho.set_same] at hb;injection hb with hb;subst hb;simp at hk';subst hk';exact BR.mono hle rfl hk
  ·rw[Rho.set_other hx] at hb;have:=(hi.rel.dom b e' hb).1;rw[X2 this] at hk';exact BR.mono hle rfl (hi.rel.blk b e' k' hb hk')
 ·have g1:=hall b (hdom b e1 h1).1;have g2:=hall b' (hdom b' e2 h2).1;rcases g1 with g1 | g1
  ·exact .inl g1
  ·rcases g2 with g2 | g2
   ·exact .inr (.inl g2)
   ·exact .inr (.inr ⟨g1,g2⟩)
section
variable {P:Program}{W:World}{H:Type}{enc:TypeId×Value->H}
theorem MA {base:Nat}{a:Addr}{cs:List Value} (h:W.cells? base a n=some cs):cs.length=n/\∀ (i:Nat) (c:Value),cs[i]?=some c->W.cell? (a.add i)=some c:=by
 unfold World.cells? at h;split at h
 ·have hl:cs.length=n:=by simpa using mapM_some_length h
  refine ⟨hl,λi c hc=>?_⟩;have hi:i<n:=by have:=(XY.1 hc).1;omega
  have:=mapM_some_get h i i (by simp[hi]);rw[this,hc]
 ·cases h
theorem Ss {a:Addr}{c:Value} (h:W.cell? a=some c):∃ cs el fr,W.heap[a.block]?=some (.cells cs el fr)/\a.spot=none/\cs[a.off]?=some c:=by
 unfold World.cell? at h;split at h
 ·rename_i cs el fr he
  split at h
  ·cases h
  ·rename_i hs;exact ⟨cs,el,fr,he,by simpa using hs,h⟩
 ·cases h
def Xl (P:Program) (W:World) (n:Nat) (t:TypeId) (cs:List Value):Prop :=
 ∀ ρ h,Imp W ρ h->∃ (ρ':Rho) (h':Heap) (xs:List V),Rle ρ ρ'/\h <+: h'/\Imp W ρ' h'/\VRs ρ' xs cs/\TV P h' n t xs
theorem N4 {n:Nat}{t:TypeId}{R:Nat}:∀ (css:List (List Value)),(∀ cs∈css,cs.length=R/\Xl P W n t cs)->∀ ρ h,Imp W ρ h ->
  ∃ (ρ':Rho) (h':Heap) (rs:List (List V)),Rle ρ ρ'/\h <+: h'/\Imp W ρ' h'/\rs.length=css.length/\(∀ (i:Nat) (row:List V),rs[i]?=some row->∃ cs,css[i]?=some cs/\VRs ρ' row cs/\row.length=R/\TV P h' n t row)
 | [],_,ρ,h,hi=>⟨ρ,h,[],Rle.refl _,Zo _,hi,rfl,λi row hr=>by simp at hr⟩
 | cs :: css,hc,ρ,h,hi=>by
  obtain ⟨ρ1,h1,xs,a1,a2,a3,a4,a5⟩:=(hc cs (by simp)).2 ρ h hi;obtain ⟨ρ2,h2,rs,b1,b2,b3,b4,b5⟩:=N4 css (λc hcc=>hc c (by simp[hcc])) ρ1 h1 a3;refine ⟨ρ2,h2,xs :: rs,a1.trans b1,a2.trans b2,b3,by simp[b4],λi row hr=>?_⟩;cases i with
  | zero =>simp at hr;subst hr;exact ⟨cs,rfl,VRs.mono b1 _ _ a4,by rw[a4.length];exact (hc cs (by simp)).1,TV.mono b2 _ _ _ a5⟩
  | succ i =>simp at hr;obtain ⟨c,g1,g2⟩:=b5 i row hr;exact ⟨c,by simpa using g1,g2⟩
theorem KO {n:Nat}{cs:List Value}:∀ (fs:List Field) (off:Nat),U5 P (KZ P n) fs off cs.length=true->(∀ f∈fs,KZ P n f.type=true->Xl P W n f.type ((cs.drop f.offset).take (P.cellsOf f.type)))->∀ ρ h,Imp W ρ h ->
  ∃ (ρ':Rho) (h':Heap) (xs:List V),Rle ρ ρ'/\h <+: h'/\Imp W ρ' h'/\VRs ρ' xs (cs.drop off)/\TVs P (TV P h' n) fs xs/\off<=cs.length
 | [],off,hin,_,ρ,h,hi=>by simp only[U5] at hin;have:=X5 hin;exact ⟨ρ,h,[],Rle.refl _,Zo _,hi,by rw[YI (by omega)];exact VRs.nil,rfl,by omega⟩
 | f :: fs,off,hin,hl,ρ,h,hi=>by
  simp only[U5] at hin;split at hin
  ·rename_i hc
   simp only[X7] at hc;have ho:=X5 hc.1;obtain ⟨ρ1,h1,xs,a1,a2,a3,a4,a5⟩:=hl f (by simp) hc.2 ρ h hi;obtain ⟨ρ2,h2,ys,b1,b2,b3,b4,b5,b6⟩:=KO fs (off+P.cellsOf f.type) hin (λg hg=>hl g (by simp[hg])) ρ1 h1 a3;rw[ho] at a4;have hlen:=a4.length;refine ⟨ρ2,h2,xs++ys,a1.trans b1,a2.trans b2,b3,?_,⟨xs,ys,rfl,?_,TV.mono b2 _ _ _ a5,b5⟩,by omega⟩
   ·have:=(VRs.mono b1 _ _ a4).append b4;rwa [<- Y5,Yx] at this
   ·rw[hlen];simp;omega
  ·cases hin
theorem XL:∀ (n:Nat) (t:TypeId),KZ P n t=true->∀ (fuel:Nat) (cs:List Value) (x:DataW H×List MemPlace),DataW.trod enc P W 0 (λ_=>true) true fuel t cs=some x ->
  (∀ a l c,Value.slice (some a) l c∈cs->0<W.heap.size)->Xl P W n t cs:=by
 intro n;induction n with
 | zero=>intro t h;simp[KZ] at h
 | succ n ih =>
  intro t hin fuel cs x hx hpos ρ h hi;simp only[KZ] at hin;split at hin
  ·rename_i hu
   obtain ⟨b,rfl,_⟩:=DataW.trod_bool hu hx;exact ⟨ρ,h,[.bool b],Rle.refl _,Zo _,hi,VRs.cons VR.bool' VRs.nil,by simp only[TV,hu];exact ⟨b,rfl⟩⟩
  ·rename_i k hu
   obtain ⟨i,rfl,_,hw⟩:=DataW.trod_int hu hx;exact ⟨ρ,h,[.int k i],Rle.refl _,Zo _,hi,VRs.cons VR.int' VRs.nil,by simp only[TV,hu];exact ⟨i,rfl,hw⟩⟩
  ·rename_i hu
   obtain ⟨s,rfl,_,hw⟩:=DataW.trod_string hu hx;exact ⟨ρ,h,[.str s],Rle.refl _,Zo _,hi,VRs.cons (by simp[VR]) VRs.nil,by simp only[TV,hu];exact ⟨s,rfl,hw⟩⟩
  ·rename_i e hu
   simp only[X7] at hin;have hR:0<P.cellsOf e:=by have:=hin.1.2;simpa [Zm] using this
   rcases DataW.trod_slice hu hx with ⟨rfl,_⟩ | ⟨a,len,cap,elems,rest,m,rfl,rfl,_,_,hlc,hcm,hel,hg,hsp,_⟩
   ·exact ⟨ρ,h,[.sl (P.cellsOf e) none 0 (some 0)],Rle.refl _,Zo _,hi,VRs.cons (by simp[VR]) VRs.nil,by
     simp only[TV,hu];exact ⟨none,some 0,[],rfl,⟨Yl _,λ_ _=>Yl _⟩,λr hr=>(by cases hr),.inl rfl⟩⟩
   ·-- the rows
    have hrow:∀ i,i<len->∃ c y,W.cells? 0 (a.add (i*P.cellsOf e)) (P.cellsOf e)=some c/\DataW.trod enc P W 0 (λ_=>true) true m e c=some y:=λi hi'=>by have h1:=hg i hi';rw[Yc (by omega)] at h1;obtain ⟨c,h2,h3⟩:=Option.bind_eq_some_iff.1 h1;exact ⟨c,_,h2,h3⟩
    have hspare:∀ j,len+j<cap->∃ c,W.cells? 0 (a.add ((len+j)*P.cellsOf e)) (P.cellsOf e)=some c:=λj hj=>by obtain ⟨h0,h1⟩:=hsp rfl;have h1:=h1 j (by omega);rw[Yc (by omega)] at h1;obtain ⟨c,h2,_⟩:=Option.bind_eq_some_iff.1 h1;exact ⟨c,h2⟩
    by_cases hcap:cap=0
    ·-- no room at all
     subst hcap;have hl0:len=0:=by omega
     subst hl0;have hp:=hpos a 0 0 (by simp);have hi2:=hi.lay .dead ⟨0,0,P.cellsOf e,0,0⟩ hp trivial (.inl rfl);refine ⟨_,_,[.sl (P.cellsOf e) (some (h.length,0)) 0 (some 0)],Rho.set_le hi.rel.fresh,⟨_,rfl⟩,hi2,VRs.cons ?_ VRs.nil,?_⟩
     ·simp only[VR];exact ⟨_,a,0,Rho.set_same _ _ _,rfl,rfl,.inl rfl,X1 _,λy hy=>by injection hy,λhc=>by cases hc⟩
     ·simp only[TV,hu];exact ⟨_,_,[],rfl,⟨Yl _,λ_ _=>Yl _⟩,λr hr=>(by cases hr),.inl rfl⟩
    ·-- the block
     have hblk:∃ carr el fr,W.heap[a.block]?=some (.cells carr el fr)/\a.spot=none:=by
      have:∃ c,W.cells? 0 (a.add (0*P.cellsOf e)) (P.cellsOf e)=some c:=by
       by_cases hl0:len=0
       ·have:=hspare 0 (by omega);rw[hl0] at this;simpa using this
       ·obtain ⟨c,_,h2,_⟩:=hrow 0 (by omega);exact ⟨c,h2⟩
      obtain ⟨c,hc⟩:=this;obtain ⟨c1,c2⟩:=MA hc;have h0:c[0]?=some c[0]:=Yc (by omega);obtain ⟨carr,el,fr,h1,h2,_⟩:=Ss (c2 0 _ h0);have e1:(a.add (0*P.cellsOf e)).add 0=a:=by simp[Addr.add]
      rw[e1] at h1 h2;exact ⟨carr,el,fr,h1,h2⟩
     obtain ⟨carr,el,fr,hW,hspot⟩:=hblk;obtain ⟨r,o,sp⟩:=a;simp only at hW hspot;subst hspot;have hlt:r<W.heap.size:=by apply Zf;intro hle;rw[Array.getElem?_eq_none hle] at hW;cases hW
     have hcells:∀ i,i<len->∃ c y,c.length=P.cellsOf e/\(∀ (j:Nat) (v:Value),c[j]?=some v->carr[o+(i*P.cellsOf e+j)]?=some v)/\DataW.trod enc P W 0 (λ_=>true) true m e c=some y:=λi hi'=>by obtain ⟨c,y,h1,h2⟩:=hrow i hi';obtain ⟨c1,c2⟩:=MA h1;refine ⟨c,y,c1,λj v hv=>?_,h2⟩;have:=c2 j v hv;rw[D3,D3,It hW] at this;rw[<- this];congr 1;omega
     have hall:∃ css:List (List Value),css.length=len/\∀ i,i<len->∃ c y,css[i]?=some c/\c.length=P.cellsOf e/\(∀ (j:Nat) (v:Value),c[j]?=some v->carr[o+(i*P.cellsOf e+j)]?=some v)/\DataW.trod enc P W 0 (λ_=>true) true m e c=some y:=by refine ⟨(List.range len).map λi=>if hi':i<len then (hcells i hi').choose else [],by simp,λi hi'=>?_⟩;obtain ⟨y,h1,h2,h3⟩:=(hcells i hi').choose_spec;exact ⟨_,y,by simp[hi'],h1,h2,h3⟩
     obtain ⟨css,hcl,hcs⟩:=hall;obtain ⟨ρ1,h1,rs,a1,a2,a3,a4,a5⟩:=N4 (P:=P) (W:=W) (n:=n) (t:=e) (R:=P.cellsOf e) css (λc hc=>by
      obtain ⟨i,hi'⟩:=Yf.1 hc;have hlt:=(XY.1 hi').1;obtain ⟨c',y,g1,g2,g3,g4⟩:=hcs i (by omega);rw[hi'] at g1;injection g1 with g1;subst g1;exact ⟨g2,ih e hin.2 m c y g4 λ_ _ _ _=>by omega⟩) ρ h hi
     by_cases hl0:len=0
     ·have hrs:rs = []:=X6 (by omega);subst hrs;have hi2:=a3.lay .dead ⟨r,o,P.cellsOf e,0,0⟩ hlt trivial (.inl rfl);refine ⟨_,_,[.sl (P.cellsOf e) (some (h1.length,0)) 0 (some cap)],a1.trans (Rho.set_le a3.rel.fresh),a2.trans ⟨_,rfl⟩,hi2,VRs.cons ?_ VRs.nil,?_⟩
      ·simp only[VR];exact ⟨_,⟨r,o,none⟩,cap,Rho.set_same _ _ _,rfl,by rw[hl0],.inr (by simp),by omega,λy hy=>by injection hy,λhc=>by cases hc⟩
      ·simp only[TV,hu];exact ⟨_,_,[],rfl,⟨Yl _,λ_ _=>Yl _⟩,λr hr=>(by cases hr),.inl rfl⟩
     ·have hrl:rs.length=len:=by omega
      have hbr:BR ρ1 ⟨r,o,P.cellsOf e,rs.length,rs.length⟩ (.rows (P.cellsOf e) el true rs) W:=by
       refine ⟨carr,fr,?_,λh=>(by cases h),rfl,rfl,X1 _,?_,λi row hr=>?_,.inr ⟨rfl,λj c g1 g2 g3=>?_⟩⟩
       ·exact hW
       ·obtain ⟨c,y,g1,g2,g3,_⟩:=hcs (len - 1) (by omega);have:=g3 (P.cellsOf e - 1) _ (Yc (by omega));have hb:=(YZ.1 this).1;have e1:rs.length*P.cellsOf e=(len - 1)*P.cellsOf e+P.cellsOf e:=by rw[hrl,<- Nat.succ_mul];congr 1;omega
        show o+rs.length*P.cellsOf e<=carr.size;omega
       ·obtain ⟨c,g1,g2,g3,_⟩:=a5 i row hr;refine ⟨g3,λj v hv=>?_⟩;have hlt:=(XY.1 hr).1;obtain ⟨c',y,k1,k2,k3,_⟩:=hcs i (by omega);rw[g1] at k1;injection k1 with k1;subst k1;obtain ⟨z,z1,z2⟩:=g2.get j v hv;exact ⟨z,k3 j z z1,z2⟩
       ·obtain ⟨q,hq⟩:∃ q,j=o+q:=⟨j - o,by simp only at g1;omega⟩;have hq2:q<rs.length*P.cellsOf e:=by simp only at g2;omega
        have hdiv:q / P.cellsOf e<rs.length:=(Nat.div_lt_iff_lt_mul hR).2 hq2;have hmod:q % P.cellsOf e<P.cellsOf e:=Nat.mod_lt _ hR;have hqq:q=q / P.cellsOf e*P.cellsOf e+q % P.cellsOf e:=by rw[Nat.mul_comm];exact (Nat.div_add_mod q _).symm
        obtain ⟨c0,k1,k2,k3,k4⟩:=a5 (q / P.cellsOf e) _ (Yc hdiv);obtain ⟨c',y,l1,l2,l3,_⟩:=hcs (q / P.cellsOf e) (by omega);rw[k1] at l1;injection l1 with l1;subst l1;have hz:=l3 (q % P.cellsOf e) _ (Yc (by omega));rw[<- hqq,<- hq,g3] at hz;injection hz with hz;rw[hz];exact BP k2 (TV.firm _ _ _ k4) _ (X3 _)
      have hi2:=a3.lay (.rows (P.cellsOf e) el true rs) ⟨r,o,P.cellsOf e,rs.length,rs.length⟩ hlt hbr (.inr ⟨_,_,_,rfl⟩);refine ⟨_,_,[.sl (P.cellsOf e) (some (h1.length,0)) rs.length (some cap)],a1.trans (Rho.set_le a3.rel.fresh),a2.trans ⟨_,rfl⟩,hi2,VRs.cons ?_ VRs.nil,?_⟩
      ·simp only[VR];exact ⟨_,⟨r,o,none⟩,cap,Rho.set_same _ _ _,rfl,by rw[hrl],.inr (by simp),by omega,λy hy=>by injection hy,λhc=>by cases hc⟩
      ·simp only[TV,hu];refine ⟨_,_,rs,rfl,⟨by omega,λk hk=>by injection hk with hk;omega⟩,λrow hr=>?_,.inr ⟨_,rfl,by simp[Heap.rows?]⟩⟩;obtain ⟨i,hi'⟩:=Yf.1 hr;obtain ⟨c,_,_,g3,g4⟩:=a5 i row hi';exact ⟨g3,TV.mono ⟨_,rfl⟩ _ _ _ g4⟩
  ·rename_i fs hu
   obtain ⟨xs,m,rfl,_,hl,hxl,hf⟩:=DataW.trod_struct hu hx;rw[<- hl] at hin;obtain ⟨ρ',h',ys,b1,b2,b3,b4,b5,_⟩:=KO (P:=P) (W:=W) (n:=n) (cs:=cs) fs.toList 0 hin (λf hfm hft=>by
    obtain ⟨i,hi'⟩:=Yf.1 hfm;have hi2:fs[i]?=some f:=by simpa using hi'
    have h1:=hf i f hi2;have hlt:i<xs.length:=by have:=(YZ.1 hi2).1;omega
    rw[Yc hlt] at h1;exact ih f.type hft m _ _ h1 λa l c hm=>hpos a l c (List.mem_of_mem_drop (List.mem_of_mem_take hm))) ρ h hi
   exact ⟨ρ',h',ys,b1,b2,b3,by simpa using b4,by simp only[TV,hu];exact b5⟩
  ·cases hin
end
end Go.Proofs.YtmdgiekbejjjgaaGreat.T
namespace Go.Proofs.YtmdgiekbejjjgaaGreat.T
open Go Go.RowKit
variable {r:Reach}{base:Nat}{a:Addr}{n:Nat}{h:Heap}
section
variable {P:Program}{W:World}{H:Type}{enc:TypeId×Value->H}
theorem RP {e:TypeId} (h:W.has P r base a e n):0<W.heap.size:=by obtain ⟨_,_,row,cells,hs,_⟩:=h;unfold World.shape? at hs;apply Zf;intro hle;rw[Array.getElem?_eq_none (by omega)] at hs;cases hs
theorem KH {u:TypeId}{l c:Nat} (h:Cell.okWide P W r base u (.slice (some a) l c)):0<W.heap.size:=by
 have h2:Cell.ok P W r base u (.slice (some a) l c):=by unfold Cell.okWide at h;split at h<;>simp_all
 unfold Cell.ok at h2;split at h2<;>simp_all
 exact RP h2.2.2
theorem OY {t:TypeId}{v:Value} (h:Value.okWide P W r base t v) {l c:Nat} (hm:Value.slice (some a) l c∈v.cells.toList):0<W.heap.size:=by
 have row:∀ cs:Array Value,Row.okWide P W r base t cs->v = .agg cs->0<W.heap.size:=λcs hr hv=>by subst hv;obtain ⟨ts,_,_,h3⟩:=hr;simp[Value.cells] at hm;obtain ⟨i,hi⟩:=Array.mem_iff_getElem?.1 hm;obtain ⟨u,_,hu⟩:=h3 i _ hi;exact KH hu
 unfold Value.okWide at h;split at h
 ·obtain ⟨cs,hv,_,hr⟩:=h;exact row cs hr hv
 ·obtain ⟨cs,hv,_,hr⟩:=h;exact row cs hr hv
 ·cases v<;>simp[Value.cells] at hm
  ·obtain ⟨rfl,rfl,rfl⟩:=hm;exact KH h
  ·exfalso;unfold Cell.okWide Cell.ok at h;split at h<;>(try split at h)<;>simp_all
def ArgV (P:Program) (h:Heap) (n:Nat) (t:TypeId) (x:V):Prop:=match P.underlying t with
 | some (.struct _)=>∃ xs,x = .agg xs/\TV P h n t xs
 | _=>TV P h n t [x]
theorem ArgV.mono {h h':Heap} (hp:h <+: h') {n:Nat}{t:TypeId}{x:V} (hx:ArgV P h n t x):ArgV P h' n t x:=by
 unfold ArgV at *
 split at hx
 ·obtain ⟨xs,h1,h2⟩:=hx;exact ⟨xs,h1,TV.mono hp _ _ _ h2⟩
 ·exact TV.mono hp _ _ _ hx
theorem lays_arg {t:TypeId}{v:Value}{d:DataW H}{p:List MemPlace} (hin:KZ P n t=true) (hok:Value.okWide P W r base t v)
  (h0:DataW.Trod enc P W 0 (λ_=>true) true t v d p) {ρ:Rho} (hi:Imp W ρ h):∃ (ρ':Rho) (h':Heap) (x:V),Rle ρ ρ'/\h <+: h'/\Imp W ρ' h'/\VR ρ' x v/\ArgV P h' n t x:=by
 obtain ⟨fuel,hf⟩:=h0;obtain ⟨ρ',h',xs,a1,a2,a3,a4,a5⟩:=XL n t hin fuel _ _ hf (λa l c hm=>OY hok hm) ρ h hi;unfold Value.okWide at hok;cases hu:P.underlying t with
 | none =>
  cases n with
  | zero=>simp[KZ] at hin
  | succ n=>simp[KZ,hu] at hin
 | some td =>
  have one:(∀ fs,td ≠ .struct fs)->∃ x,xs = [x]/\VR ρ' x v:=λhns=>by
   cases n with
   | zero=>simp[KZ] at hin
   | succ n =>
    simp only[TV,hu] at a5;have hl:=a4.length;have hx:∃ x,xs = [x]:=by
     cases td<;>simp only at a5<;>(try exact a5.elim)
     ·obtain ⟨b,rfl⟩:=a5;exact ⟨_,rfl⟩
     ·obtain ⟨i,rfl,_⟩:=a5;exact ⟨_,rfl⟩
     ·obtain ⟨s,rfl,_⟩:=a5;exact ⟨_,rfl⟩
     ·obtain ⟨a,c,rs,rfl,_⟩:=a5;exact ⟨_,rfl⟩
     ·exact absurd rfl (hns _)
    obtain ⟨x,rfl⟩:=hx;refine ⟨x,rfl,?_⟩;have hns':∀ cs,v ≠ .agg cs:=λcs hv=>by
     subst hv;rw[hu] at hok;cases td<;>simp only[KZ,hu] at hin<;>(try cases hin)<;>simp[Cell.okWide,Cell.ok,hu] at hok
     exact absurd rfl (hns _)
    have hc:v.cells.toList = [v]:=by
     cases v<;>(try rfl)
     ·exact absurd rfl (hns' _)
    rw[hc] at a4;exact a4.uncons.1
  by_cases hs:∃ fs,td = .struct fs
  ·obtain ⟨fs,rfl⟩:=hs;rw[hu] at hok;obtain ⟨cs,rfl,_⟩:=hok;refine ⟨ρ',h',.agg xs,a1,a2,a3,?_,?_⟩
   ·simp only[VR];exact ⟨cs,rfl,by simpa [Value.cells] using a4⟩
   ·simp only[ArgV,hu];exact ⟨xs,rfl,a5⟩
  ·obtain ⟨x,rfl,hx⟩:=one λfs e=>hs ⟨fs,e⟩;refine ⟨ρ',h',x,a1,a2,a3,hx,?_⟩;unfold ArgV;rw[hu];split
   ·rename_i fs' he;injection he with he;exact absurd ⟨_,he⟩ hs
   ·exact a5
theorem imp_nil (W:World):Imp W (λ_=>none) [] :=
 ⟨⟨λb e h=>(by cases h),λb e k h=>(by cases h),λb b' e e' h=>(by cases h)⟩,λb hb=>by simp at hb⟩
theorem law_walk {call:Fh} (hS:SC P call) {f:FuncId}{args:List V}{h':Heap}{ρ:Rho} (hk:call h.length f args h=some (.bool true,h')) {cargs:Array Value} (hv:VRs ρ args cargs.toList) (hi:Imp W ρ h) :
  Calls P f cargs W λe w'=>e = .returned (.bool true)/\Below W.heap.size W w':=by
 refine Calls.mono (hS.calls hk (X1 _) hv hi.rel) ?_
 rintro e w' ⟨c,rfl,ρ',h1,h2,h3⟩
 simp only[VR] at h1;subst h1;exact ⟨rfl,⟨h3.os,h3.tape,h3.output,h3.size,λk hk=>h3.frame k hk λb e hb hle=>by
  have:=(hi.rel.dom b e hb).1;omega⟩⟩
end
end Go.Proofs.YtmdgiekbejjjgaaGreat.T
namespace Go.Proofs.YtmdgiekbejjjgaaGreat
open Go T


structure Ver where
 key:Int
 tag:Tag
 past:List Tag
 text:ByteArray
 gone:Bool
structure Node where
 store:List Ver
 wait:List Ver
structure Place where
 me:Int
 clock:Int
 chain:List Node
 log:List Ver
 got:List (List Ver)
 fell:Bool
structure Frame where
 fro:Int
 to:Int
 at':Int
 ver:Ver
abbrev XD (ro:Bool):Nat:=bif ro then 0 else 30
abbrev Si (ro:Bool):Nat:=bif ro then 0 else 49
abbrev XC (ro:Bool):Nat:=bif ro then 0 else 50
abbrev Oy (ro:Bool):Nat:=bif ro then 0 else 54
abbrev Ver.cs (v:Ver) (a:Pq) (c:Nq):List V := [Iv v.key,Iv v.tag.time,Iv v.tag.place,.sl 2 a v.past.length c,.str v.text,.bool v.gone]
abbrev RTags (ro:Bool):Rel (List Tag):=Sli ro 2 (XD ro) (flat Tag.cs)
def RVer (ro:Bool):Rel Ver:=λh cs v F=>∃ s,cs = [Iv v.key,Iv v.tag.time,Iv v.tag.place,s,.str v.text,.bool v.gone]/\RTags ro h [s] v.past F
abbrev RVers (ro:Bool):Rel (List Ver):=Sli ro 6 (Si ro) (RVer ro)
abbrev RVss (ro:Bool):Rel (List (List Ver)):=Sli ro 1 (XC ro) (RVers ro)
def RNode (ro:Bool):Rel Node:=λh cs x F=>∃ s1 s2 F1 F2,cs = [s1,s2]/\F=F1++F2/\RVers ro h [s1] x.store F1/\RVers ro h [s2] x.wait F2
abbrev RNodes (ro:Bool):Rel (List Node):=Sli ro 2 (Oy ro) (RNode ro)
def RPlace (ro:Bool):Rel Place:=λh cs p F=>∃ s1 s2 s3 F1 F2 F3,cs = [Iv p.me,Iv p.clock,s1,s2,s3,.bool p.fell]/\F=F1++(F2++F3)/\RNodes ro h [s1] p.chain F1/\RVers ro h [s2] p.log F2/\RVss ro h [s3] p.got F3
def SD (ro:Bool):Rel Frame:=λh cs f F=>∃ vs,cs = Iv f.fro :: Iv f.to :: Iv f.at' :: vs/\RVer ro h vs f.ver F
theorem rtags_ok {ro:Bool}:(RTags ro).Ok:=Sli.ok Cn
theorem rver_ok {ro:Bool}:(RVer ro).Ok :=
 ⟨λh h' cs x F ⟨s,h1,h2⟩ hb=>⟨s,h1,rtags_ok.fr _ _ _ _ _ h2 hb⟩,λh cs x F ⟨s,_,h2⟩=>rtags_ok.bd _ _ _ _ h2⟩
theorem rvers_ok {ro:Bool}:(RVers ro).Ok:=Sli.ok rver_ok
theorem rvss_ok {ro:Bool}:(RVss ro).Ok:=Sli.ok rvers_ok
theorem rnode_ok {ro:Bool}:(RNode ro).Ok:=by
 refine ⟨?_,?_⟩
 ·rintro h h' cs x F ⟨s1,s2,F1,F2,h1,rfl,h2,h3⟩ hb
  exact ⟨s1,s2,F1,F2,h1,rfl,rvers_ok.fr _ _ _ _ _ h2 λb hm=>hb b (by simp[hm]),rvers_ok.fr _ _ _ _ _ h3 λb hm=>hb b (by simp[hm])⟩
 ·rintro h cs x F ⟨s1,s2,F1,F2,h1,rfl,h2,h3⟩ b hb
  rw[X0] at hb;exact hb.elim (rvers_ok.bd _ _ _ _ h2 b) (rvers_ok.bd _ _ _ _ h3 b)
theorem rnodes_ok {ro:Bool}:(RNodes ro).Ok:=Sli.ok rnode_ok
theorem rplace_ok {ro:Bool}:(RPlace ro).Ok:=by
 refine ⟨?_,?_⟩
 ·rintro h h' cs x F ⟨s1,s2,s3,F1,F2,F3,h1,rfl,h2,h3,h4⟩ hb
  exact ⟨s1,s2,s3,F1,F2,F3,h1,rfl,rnodes_ok.fr _ _ _ _ _ h2 λb hm=>hb b (by simp[hm]),rvers_ok.fr _ _ _ _ _ h3 λb hm=>hb b (by simp[hm]),rvss_ok.fr _ _ _ _ _ h4 λb hm=>hb b (by simp[hm])⟩
 ·rintro h cs x F ⟨s1,s2,s3,F1,F2,F3,h1,rfl,h2,h3,h4⟩ b hb
  rw[X0,X0] at hb;rcases hb with hb | hb | hb
  ·exact rnodes_ok.bd _ _ _ _ h2 b hb
  ·exact rvers_ok.bd _ _ _ _ h3 b hb
  ·exact rvss_ok.bd _ _ _ _ h4 b hb
theorem rframe_ok {ro:Bool}:(SD ro).Ok :=
 ⟨λh h' cs x F ⟨s,h1,h2⟩ hb=>⟨s,h1,rver_ok.fr _ _ _ _ _ h2 hb⟩,λh cs x F ⟨s,_,h2⟩=>rver_ok.bd _ _ _ _ h2⟩
section
variable {ro:Bool}{h:Heap}{F:List Nat}{a:Pq}{c:Nq}{n k:Nat}
theorem RTags.get {l:List Tag} (hs:RTags ro h [.sl 2 a n c] l F) (hk:k<l.length):∃ o,a=some o/\ld h o.1 (o.2+k) 0 2=some [Iv l[k].time,Iv l[k].place]:=by obtain ⟨o,row,G,h1,h2,⟨rfl,_⟩,_⟩:=hs.read hk;exact ⟨o,h1,by rw[h2];rfl⟩
theorem RVer.form {row:List V}{v:Ver} (hv:RVer ro h row v F):∃ s a c,row = [Iv v.key,Iv v.tag.time,Iv v.tag.place,s,.str v.text,.bool v.gone] /\
  (∀ {R':Type} (K:Pq->Nat->Nq->Option R'),eS 2 s K=K a v.past.length c)/\RTags ro h [.sl 2 a v.past.length c] v.past F:=by
 obtain ⟨s,rfl,hp⟩:=hv;obtain ⟨a,c,es,hp2⟩:=hp.form;exact ⟨s,a,c,rfl,es,hp2⟩
theorem RVers.get {l:List Ver} (hs:RVers ro h [.sl 6 a n c] l F) (hk:k<l.length):∃ o s a' c' G,a=some o /\
  ld h o.1 (o.2+k) 0 6=some [Iv l[k].key,Iv l[k].tag.time,Iv l[k].tag.place,s,.str l[k].text,.bool l[k].gone] /\
  (∀ {R':Type} (K:Pq->Nat->Nq->Option R'),eS 2 s K=K a' l[k].past.length c')/\RTags ro h [.sl 2 a' l[k].past.length c'] l[k].past G/\(∀ b∈G,b∈F):=by
 obtain ⟨o,row,G,h1,h2,hv,hG,_⟩:=hs.read hk;obtain ⟨s,a',c',rfl,es,hp⟩:=hv.form;exact ⟨o,s,a',c',G,h1,by rw[h2];rfl,es,hp,hG⟩
theorem RVss.get {l:List (List Ver)} (hs:RVss ro h [.sl 1 a n c] l F) (hk:k<l.length):∃ o s a' c' G,a=some o/\ld h o.1 (o.2+k) 0 1=some [s] /\
  (∀ {R':Type} (K:Pq->Nat->Nq->Option R'),eS 6 s K=K a' l[k].length c')/\RVers ro h [.sl 6 a' l[k].length c'] l[k] G/\(∀ b∈G,b∈F):=by
 obtain ⟨o,row,G,h1,h2,hv,hG,_⟩:=hs.read hk;have:∃ s,row = [s]:=by obtain ⟨R',a',c',e,_⟩:=hv;exact ⟨_,e⟩
 obtain ⟨s,rfl⟩:=this;obtain ⟨a',c',es,hp⟩:=hv.form;exact ⟨o,s,a',c',G,h1,by rw[h2];rfl,es,hp,hG⟩
theorem RNode.form {row:List V}{x:Node} (hv:RNode ro h row x F):∃ s1 s2 a1 c1 a2 c2 F1 F2,row = [s1,s2]/\F=F1++F2 /\
  (∀ {R':Type} (K:Pq->Nat->Nq->Option R'),eS 6 s1 K=K a1 x.store.length c1)/\(∀ {R':Type} (K:Pq->Nat->Nq->Option R'),eS 6 s2 K=K a2 x.wait.length c2) /\
  RVers ro h [.sl 6 a1 x.store.length c1] x.store F1/\RVers ro h [.sl 6 a2 x.wait.length c2] x.wait F2:=by
 obtain ⟨s1,s2,F1,F2,rfl,rfl,h1,h2⟩:=hv;obtain ⟨a1,c1,e1,g1⟩:=h1.form;obtain ⟨a2,c2,e2,g2⟩:=h2.form;exact ⟨s1,s2,a1,c1,a2,c2,F1,F2,rfl,rfl,e1,e2,g1,g2⟩
theorem RNodes.get {l:List Node} (hs:RNodes ro h [.sl 2 a n c] l F) (hk:k<l.length):∃ o s1 s2 a1 c1 a2 c2 F1 F2,a=some o/\ld h o.1 (o.2+k) 0 2=some [s1,s2]/\ld h o.1 (o.2+k) 0 1=some [s1]/\ld h o.1 (o.2+k) 1 1=some [s2] /\
  (∀ {R':Type} (K:Pq->Nat->Nq->Option R'),eS 6 s1 K=K a1 l[k].store.length c1)/\(∀ {R':Type} (K:Pq->Nat->Nq->Option R'),eS 6 s2 K=K a2 l[k].wait.length c2) /\
  RVers ro h [.sl 6 a1 l[k].store.length c1] l[k].store F1/\RVers ro h [.sl 6 a2 l[k].wait.length c2] l[k].wait F2/\(∀ b∈F1,b∈F)/\(∀ b∈F2,b∈F):=by
 obtain ⟨o,row,G,h1,h2,hv,hG,_⟩:=hs.read hk;obtain ⟨s1,s2,a1,c1,a2,c2,F1,F2,rfl,rfl,e1,e2,g1,g2⟩:=hv.form;exact ⟨o,s1,s2,a1,c1,a2,c2,F1,F2,h1,by rw[h2];rfl,by rw[h2];rfl,by rw[h2];rfl,e1,e2,g1,g2,λb hb=>hG b (YG _ hb),λb hb=>hG b (Za _ hb)⟩
theorem RPlace.form {row:List V}{p:Place} (hv:RPlace ro h row p F):∃ s1 s2 s3 a1 c1 a2 c2 a3 c3 F1 F2 F3,row = [Iv p.me,Iv p.clock,s1,s2,s3,.bool p.fell]/\F=F1++(F2++F3) /\
  (∀ {R':Type} (K:Pq->Nat->Nq->Option R'),eS 2 s1 K=K a1 p.chain.length c1)/\(∀ {R':Type} (K:Pq->Nat->Nq->Option R'),eS 6 s2 K=K a2 p.log.length c2) /\
  (∀ {R':Type} (K:Pq->Nat->Nq->Option R'),eS 1 s3 K=K a3 p.got.length c3) /\
  RNodes ro h [.sl 2 a1 p.chain.length c1] p.chain F1/\RVers ro h [.sl 6 a2 p.log.length c2] p.log F2/\RVss ro h [.sl 1 a3 p.got.length c3] p.got F3:=by
 obtain ⟨s1,s2,s3,F1,F2,F3,rfl,rfl,h1,h2,h3⟩:=hv;obtain ⟨a1,c1,e1,g1⟩:=h1.form;obtain ⟨a2,c2,e2,g2⟩:=h2.form;obtain ⟨a3,c3,e3,g3⟩:=h3.form;exact ⟨s1,s2,s3,a1,c1,a2,c2,a3,c3,F1,F2,F3,rfl,rfl,e1,e2,e3,g1,g2,g3⟩
end
theorem Ri {α T:Type}{p:α->Bool}{l:List α} (L:Nat->Option T) (no yes:Option T)
  (step:∀ i (hi:i<l.length),L i=if p l[i]=true then L (i+1) else no) (done:L l.length=yes):L 0=if l.all p=true then yes else no:=by
 have loop:∀ m i,m+i=l.length->L i=if (l.drop i).all p=true then yes else no:=by
  intro m;induction m with
  | zero =>
   intro i hi;have:i=l.length:=by omega
   subst this;rw[done,List.drop_length];simp
  | succ m ih =>
   intro i hi;have hlt:i<l.length:=by omega
   rw[step i hlt,Yi hlt,List.all_cons];cases hp:p l[i]
   ·simp
   ·simpa using ih (i+1) (by omega)
 exact loop l.length 0 (by omega)


section
variable {lo:Nat}{ro:Bool}{h:Heap}{F:List Nat}{a:Pq}{c:Nq}{left:Int}
end
def EL (l:List Ver):Prop:=l.length<=1048576/\∀ v∈l,v.past.length<=1048576/\v.text.size<=1048576
def Xt (l:List (List Ver)):Prop:=l.length<=1048576/\∀ v∈l,EL v
def Gk (l:List Node):Prop:=l.length<=1048576/\∀ x∈l,EL x.store/\EL x.wait
def Hb (p:Place):Prop:=Gk p.chain/\EL p.log/\Xt p.got
section
variable {lo:Nat}{ro:Bool}{h:Heap}{F:List Nat}{a:Pq}{c:Nq}
abbrev Place.cs (p:Place) (a1:Pq) (c1:Nq) (a2:Pq) (c2:Nq) (a3:Pq) (c3:Nq):List V :=
 [Iv p.me,Iv p.clock,.sl 2 a1 p.chain.length c1,.sl 6 a2 p.log.length c2,.sl 1 a3 p.got.length c3,.bool p.fell]
end


theorem Wf {T:Type}{n:Nat} (L:Nat->Option T) (step:∀ i,i<n->L i=L (i+1)):L 0=L n:=by
 have loop:∀ i,i<=n->L 0=L i:=by
  intro i;induction i with
  | zero=>intro _;rfl
  | succ i ih=>intro hi;rw[ih (by omega),step i (by omega)]
 exact loop n (X1 n)
section
variable {lo:Nat}{ro ro':Bool}{h:Heap}{F F':List Nat}{a a':Pq}{c c':Nq}
theorem Re (x:Int):(x==x)=true:=by simp
abbrev Frame.cs (f:Frame) (a:Pq) (c:Nq):List V := Iv f.fro :: Iv f.to :: Iv f.at' :: f.ver.cs a c
end
def Xw {α:Type} (f:Int->α->α) (w:α->Nat):List α->Int->List α
 | [],_ => []
 | x :: r,k=>f k x :: Xw f w r (k+w x)
def UU {α:Type} (w:α->Nat) (l:List α):Nat:=(l.map w).sum


abbrev XU:Int:=1099511627776
abbrev VO (_:Tag):Nat:=2
def WU (v:Ver):Nat:=5+UU VO v.past
def PX (l:List Ver):Nat:=UU WU l
def Up (x:Node):Nat:=PX x.store+PX x.wait
section
variable {lo:Nat}{h:Heap}{F:List Nat}{a:Pq}{c:Nq}{k:Int}
def Xp (l:List (List Ver)):Nat:=UU PX l
def Uo (l:List Node):Nat:=UU Up l
end


section
variable {lo:Nat}{h:Heap}{F:List Nat}{a:Pq}{c:Nq}{k:Int}
def Un (p:Place):Nat:=Uo p.chain+PX p.log+Xp p.got
theorem RPlace.cells {ro:Bool}{p:Place}{a1 a2 a3:Pq}{c1 c2 c3:Nq} (h1:RPlace ro h (p.cs a1 c1 a2 c2 a3 c3) p F) :
  ∃ F1 F2 F3,F=F1++(F2++F3)/\RNodes ro h [.sl 2 a1 p.chain.length c1] p.chain F1/\RVers ro h [.sl 6 a2 p.log.length c2] p.log F2/\RVss ro h [.sl 1 a3 p.got.length c3] p.got F3:=by
 obtain ⟨_,_,_,F1,F2,F3,e1,rfl,r1,r2,r3⟩:=h1;injection e1 with _ e1;injection e1 with _ e1;injection e1 with x1 e1;injection e1 with x2 e1;injection e1 with x3 e1;subst x1;subst x2;subst x3;exact ⟨F1,F2,F3,rfl,r1,r2,r3⟩
end


variable {s:ByteArray}{p:List Tag}
def Py (b:UInt8):Bool:=Ag b.toNat 33 126
def FH (s:ByteArray):Bool:=s.data.toList.all Py&&decide ((s.size:Int)<=8)
def BK (p:List Tag):Bool:=decide (p.length=4)&&p.all λt=>BE t.time t.place
def Ci (p q:List Tag):Bool:=(p.zip q).all λx => !Fz x.2.time x.2.place x.1.time x.1.place
def DY (p:List Tag):Int:=p.foldl (λm t=>if t.time>m then t.time else m) 0
def Hh (s:ByteArray):Bool:=decide (s.size=0)
def Ll (v:Ver):Bool:=Ag v.key 0 3&&FH v.text&&(!v.gone || Hh v.text)&&BK v.past
def Cp (v:Ver):Bool:=Ll v&&BE v.tag.time v.tag.place&&decide (DY v.past<v.tag.time)
section
variable {lo:Nat}{ro ro':Bool}{h:Heap}{F F':List Nat}{a a':Pq}{c c':Nq}
theorem Ts {i:Nat} (hi:i<s.data.toList.length):LB s (i:Nat)=some (s.data.toList[i]):=by
 unfold LB;have:i<s.size:=by simpa using hi
 simp[this];rfl
theorem MY (hn:s.size<=1048576):Ae lo 183 [.str s] h=some (.bool (FH s),h):=by
 refine La (h':=h) ?_;have hl:s.data.toList.length=s.size:=by simp
 refine (Ri (p:=Py) (l:=s.data.toList) (λi=>BB (List.length h) s false (i:Nat) h) (some (.bool false,h)) (some (.bool (decide ((s.size:Int)<=8)),h)) (λi hi=>?_) ?_).trans ?_
 ·rw[BB.e,Am (by omega)];simp only[Ts hi,Af,Ay (show i<9223372036854775807 by omega)];unfold Py Ag;generalize s.data.toList[i]=b;by_cases h1:(b.toNat:Int)<33
  ·rw[Am h1,if_neg (by simp;omega)]
  ·rw[Ao h1];by_cases h2:(b.toNat:Int)>126
   ·rw[Am h2,if_neg (by simp;omega)]
   ·rw[Ao h2,if_pos (by simp;omega)]
 ·rw[BB.e,Ao (by omega)];by_cases h3:(s.size:Int)<=8
  ·rw[Am h3,decide_eq_true h3]
  ·rw[Ao h3,decide_eq_false h3]
 ·unfold FH;cases s.data.toList.all Py<;>simp
theorem QK {l:List Tag} (hs:RTags ro h [.sl 2 a l.length c] l F) (hn:l.length<=1048576):Ae lo 100 [.agg [.sl 2 a l.length c]] h=some (Iv (DY l),h):=by
 have loop:∀ m k x,m+k=l.length->A8 (List.length h) x a l.length c (l.length:Nat) (k:Nat) h=some (Iv ((l.drop k).foldl (λm t=>if t.time>m then t.time else m) x),h):=by
  intro m;induction m with
  | zero =>intro k x hk;rw[A8.e,Ao (by omega),show k=l.length by omega];simp
  | succ m ih =>
   intro k x hk;have hlt:k<l.length:=by omega
   obtain ⟨o,rfl,ho⟩:=hs.get hlt;rw[A8.e,Am (by omega),Ad (by omega)];simp only[Af,By,ho,Ab,Aa,Ai,Ay (show k<9223372036854775807 by omega)];rw[ih (k+1) _ (by omega),Yi hlt,YL]
 refine I1 (h':=h) ?_;exact loop l.length 0 0 (by omega)
theorem Rq:(s.toList==(ByteArray.mk #[]).toList)=Hh s:=by
 unfold Hh;rw[Bool.eq_iff_iff];rw[Zh,Zh];simp only[beq_iff_eq,decide_eq_true_eq];constructor
 ·intro h;have:=congrArg List.length h;simpa using this
 ·intro h;exact X6 (by simpa using h)
theorem Mg {x:Int}:∀ {l:List Tag}{m:Int},l.foldl (λm t=>if t.time>m then t.time else m) m<x<->m<x/\∀ t∈l,t.time<x
 | [],m=>by simp
 | t :: l,m=>by
  rw[YL,Mg];simp only[Ye,forall_eq_or_imp];constructor
  ·rintro ⟨h1,h2⟩
   refine ⟨?_,?_,h2⟩<;>(split at h1<;>omega)
  ·rintro ⟨h1,h2,h3⟩
   refine ⟨?_,h3⟩;split<;>omega
theorem latest_lt {x:Int}:DY p<x<->0<x/\∀ t∈p,t.time<x:=Mg
theorem IO {t p:Int} (h:BE t p=true):0<=t/\t<=999/\0<=p/\p<=2:=by simp[BE,Ag] at h;omega
theorem Ds (h:BK p=true):p.length=4:=by simp only[BK,C3,decide_eq_true_eq] at h;exact h.1
theorem Rp {q:List Tag}{T:Type} (L:Nat->Option T) (no yes:Option T) (hl:p.length<=q.length)
  (step:∀ i (hi:i<p.length),L i=if Fz q[i].time q[i].place p[i].time p[i].place=true then no else L (i+1)) (done:L p.length=yes):L 0=if Ci p q=true then yes else no:=by
 have hz:(p.zip q).length=p.length:=by simp;omega
 refine Ri (l:=p.zip q) L no yes (λi hi=>?_) (by rw[hz];exact done);rw[step i (by omega)];simp only[List.getElem_zip];cases Fz q[i].time q[i].place p[i].time p[i].place<;>simp
theorem GE {q:List Tag} (hs:RTags ro h [.sl 2 a p.length c] p F) (hs':RTags ro' h [.sl 2 a' q.length c'] q F') (hp:p.length=4) (hq:q.length=4) :
  Ae lo 191 [.agg [.sl 2 a p.length c],.agg [.sl 2 a' q.length c']] h=some (.bool (Ci p q),h):=by
 refine Lf (h':=h) ?_;refine (Rp (p:=p) (q:=q) (λi=>BC (List.length h) false (i:Nat) a p.length c a' q.length c' h) (some (.bool false,h)) (some (.bool true,h)) (by omega) (λi hi=>?_) ?_).trans ?_
 ·obtain ⟨o,rfl,ho⟩:=hs.get hi;obtain ⟨o',rfl,ho'⟩:=hs'.get (show i<q.length by omega);rw[BC.e,Am (by omega),Ad (show i<q.length by omega)];simp only[Af,By,ho,ho',Ab,Aa,Ai,Ad hi,Bj,Ac,A2,Ay (show i<9223372036854775807 by omega)];cases Fz q[i].time q[i].place p[i].time p[i].place<;>simp
 ·rw[BC.e,Ao (by omega)]
 ·cases Ci p q<;>rfl
end


variable {l:List Tag}{α:Type}{El:Rel α}
section
variable {lo:Nat}{ro ro':Bool}{h:Heap}{F F':List Nat}{a a':Pq}{c c':Nq}
theorem Sli.rows {α:Type}{El:Rel α}{R e:Nat}{l:List α} (hs:Sli false R e El h [.sl R a l.length c] l F) :
  ∃ rows Fs,(∀ {T:Type} (K:List (List V)->Option T),Aj R h (.sl R a l.length c) K=K rows)/\EAll El h rows l Fs/\∀ b∈Fs.flatten,b∈F:=by
 obtain ⟨R1,a1,c1,e1,g⟩:=hs;injection e1 with e1 _;injection e1 with e0 e2 _ e3;subst e2;subst e3;cases a with
 | none =>obtain ⟨rfl,_,_⟩:=g;exact ⟨[],[],λK=>rfl,trivial,by simp⟩
 | some p =>
  obtain ⟨b,i⟩:=p;obtain ⟨_,rs,Fs,g1,g2,g3,g4,g5,rfl⟩:=g;refine ⟨_,Fs,λK=>?_,g5,λb hb=>YF _ hb⟩;simp only[Aj,Kj,IS];cases hl:l.length with
  | zero=>simp
  | succ n =>rw[hl] at g2;simp only[Dv,Heap.rows?,g1,Ys,Gc g2,Af]
theorem RTags.rows {l:List Tag} (hs:RTags false h [.sl 2 a l.length c] l F) {T:Type} (K:List (List V)->Option T):Aj 2 h (.sl 2 a l.length c) K=K (l.map Tag.cs):=by obtain ⟨rows,Fs,h1,h2,_⟩:=Sli.rows hs;rw[h1,h2.of_flat.1]
theorem Sli.fresh {R e n:Nat}{rs:List (List V)} (hn:n<=rs.length):Sli false R e El (h ++ [.rows R e false rs]) [.sl R (some (h.length,0)) 0 (some n)] [] [h.length] :=
 ⟨R,some (h.length,0),some n,rfl,rfl,rs,[],by simp,by simp,λk hk=>by injection hk with hk;subst hk;simpa using hn,λh=>(by cases h),by simp[EAll],by simp⟩
theorem Mh:(l.map λ_=>([]:List Nat)).flatten = []:=by induction l<;>simp_all
theorem GU (hl:lo<=h.length) (hn:l.length<=1048576):∃ a' c' h' F',(∀ {T:Type} (K:V->Heap->Option T),CC lo 30 2 16 (.sl 2 (some (h.length,0)) 0 (some 0)) (l.map Tag.cs) (h ++ [.rows 2 30 false []]) K=K (.sl 2 a' l.length c') h') /\
  RTags false h' [.sl 2 a' l.length c'] l F'/\Mv h [] h' F':=by
 have h0:RTags false (h ++ [.rows 2 (XD false) false []]) [.sl 2 (some (h.length,0)) 0 (some 0)] [] [h.length]:=Sli.fresh (X1 _);by_cases he:l = []
 ·subst he;exact ⟨some (h.length,0),some 0,_,_,λK=>rfl,h0,Mv.last⟩
 ·obtain ⟨a',c',h',F',p1,p2,p3,p4,p5,p6⟩:=Sli.push (lo:=lo) (bytes:=16) Pb h0 (xs:=l.map Tag.cs) (ys:=l) (Gs:=l.map λ_ => []) EAll.flat (by decide) (by simp;omega) (by simp;omega) (by simp;omega) (by rw[Mh];simp) (by rw[Mh];simp) he;simp only[Y9,Yw,Yr] at p1 p2;refine ⟨a',c',h',F',p1,p2,by simp at p3;omega,λb hb _=>?_,p6,λb hb=>?_⟩
  ·rw[p4 b (by simp;omega) (by simp;omega),X2 hb]
  ·simp at p3;rcases p5 b hb with h1 | h1
   ·rw[Mh] at h1;simp at h1;exact .inr (by omega)
   ·simp at h1;exact .inr (by omega)
theorem BQ {v:Ver} (hs:RTags false h [.sl 2 a v.past.length c] v.past F) (hl:lo<=h.length) (hn:v.past.length<=1048576) :
  ∃ a' c' h' F',Ae lo 167 [.agg (v.cs a c)] h=some (.agg (v.cs a' c'),h')/\RTags false h' [.sl 2 a' v.past.length c'] v.past F'/\Mv h [] h' F':=by
 obtain ⟨a',c',h',F',e,r⟩:=GU (l:=v.past) hl hn;refine ⟨a',c',h',F',Ny ?_,r⟩;rw[RTags.rows (Mv.snoc.keep0 rtags_ok hs),e,Ah]
theorem R7 (hs:RTags false h [.sl 2 a l.length c] l F) (hl:lo<=h.length) (hn:l.length<=1048576) :
  ∃ v h' F',Ae lo 119 [.sl 2 a l.length c] h=some (v,h')/\RTags false h' [v] l F'/\Mv h [] h' F':=by
 cases a with
 | none =>obtain ⟨R1,a1,c1,e1,g⟩:=hs;injection e1 with e1 _;injection e1 with e0 e2 _ e3;subst e2;subst e3;obtain ⟨rfl,_,_⟩:=g;exact ⟨_,h,[],CM (by rw[show (none:Pq).isNone=true from rfl,Ax]),Sli.nil,Mv.nil⟩
 | some p =>obtain ⟨a',c',h',F',e,r⟩:=GU (l:=l) hl hn;refine ⟨_,h',F',CM ?_,r⟩;rw[show (some p).isNone=false from rfl,AC,RTags.rows (Mv.snoc.keep0 rtags_ok hs),e,Ah]
theorem GQ (hs:RTags false h [.sl 2 a l.length c] l F) (hl:lo<=h.length) (hn:l.length<=1048576) :
  ∃ a' c' h' F',Ae lo 72 [.agg [.sl 2 a l.length c]] h=some (.agg [.sl 2 a' l.length c'],h')/\RTags false h' [.sl 2 a' l.length c'] l F'/\Mv h [] h' F':=by
 obtain ⟨v,h',F',e,r,m⟩:=R7 hs hl hn;obtain ⟨a',c',es,r2⟩:=r.form;refine ⟨a',_,h',F',I2 ?_,r2.clip,m⟩;rw[e];simp only[Ac,es];rw[EF (r:=(.sl 2 a' l.length (some l.length),h')) (by rw[Ji r2])];simp only[Ac,Ah]
theorem OC {l:List Ver}{e0:Pq}{h0:Heap}{n0:Nq}{F0:List Nat}{T:Type} (L:Nat->Pq->Nat->Nq->Heap->Option T) (hs:RVers false h [.sl 6 a l.length c] l F) (hl:lo<=h.length) (hn:EL l)
  (m0:Mv h [] h0 F0) (h1:RVers false h0 [.sl 6 e0 0 n0] [] F0)
  (step:∀ i (hi:i<l.length) s a2 c2 a1 n1 c1 hh,(i=0->a1=e0/\c1=n0)->(∀ o,a=some o->ld hh o.1 (o.2+i) 0 6=some [Iv l[i].key,Iv l[i].tag.time,Iv l[i].tag.place,s,.str l[i].text,.bool l[i].gone])->(∃ o,a=some o) ->
   (∀ {R':Type} (K:Pq->Nat->Nq->Option R'),eS 2 s K=K a2 l[i].past.length c2)->(∃ G,RTags false hh [.sl 2 a2 l[i].past.length c2] l[i].past G)->lo<=hh.length ->
   ∃ a3 c3 h3 F3,RTags false h3 [.sl 2 a3 l[i].past.length c3] l[i].past F3/\Mv hh [] h3 F3 /\
    L i a1 n1 c1 hh=CC lo 49 6 72 (.sl 6 a1 n1 c1) [l[i].cs a3 c3] (h3 ++ [.rows 6 49 false [l[i].cs a3 c3]]) λv h=>eS 6 v λa n c=>L (i+1) a n c h) :
  ∃ a' c' h' F',L 0 e0 0 n0 h0=L l.length a' l.length c' h'/\RVers false h' [.sl 6 a' l.length c'] l F'/\Mv h [] h' F':=by
 have hn1:=hn.1;obtain ⟨a',c',h',F',e,r,m⟩:=MC (El:=RVer false) rver_ok (h0:=h0) (l:=l) (g:=λ_ v=>some (id v)) (lo:=lo) (R:=6) (e:=Si false) (bytes:=72) (b0 := []) (F0:=F0) (a0:=e0) (c0:=n0)
  (XX hl m0.le) (m0.ge hl (by simp)) m0.nd (by decide) (by simp;omega) L (λi hi a1 c1 hh F1 acc hz hacc hm hr=>by
   have hm':Mv h [] hh []:=(m0.trans hm).drop;obtain ⟨o,s,a2,c2,G,ho,hld,es,hp,_⟩:=(hm'.keep0 rvers_ok hs).get hi;obtain ⟨a3,c3,h3,F3,r3,m3,e3⟩:=step i hi s a2 c2 a1 acc.length c1 hh hz (λo' ho'=>by rw[ho] at ho';injection ho' with ho';subst ho';exact hld) ⟨o,ho⟩ es ⟨G,hp⟩ (XX hl hm'.le);exact .inr ⟨l[i],l[i].cs a3 c3,F3,_,rfl,⟨_,rfl,Mv.snoc.keep0 rtags_ok r3⟩,m3.trans (Mv.snoc' m3.nd),e3⟩) h1
 rw[Me,List.map_id,Yr] at e r;exact ⟨a',c',h',F',e,r,m0.trans m⟩
theorem Kz {l:List Ver} (hs:RVers false h [.sl 6 a l.length c] l F) (hl:lo<=h.length) (hn:EL l) :
  ∃ a' c' h' F',Ae lo 201 [.sl 6 a l.length c] h=some (.sl 6 a' l.length c',h')/\RVers false h' [.sl 6 a' l.length c'] l F'/\Mv h [] h' F':=by
 have hn1:=hn.1;obtain ⟨a',c',h',F',e,r,m⟩:=OC (e0:=some (h.length,0)) (n0:=some 0) (h0:=h ++ [.rows 6 (Si false) false []])
  (λi a1 n1 c1 hh=>B9 lo a l.length c a1 n1 c1 (i:Nat) hh) hs hl hn Mv.last (Sli.fresh (by simp)) (λi hi s a2 c2 a1 n1 c1 hh hz hld ho es hp hlo=>by
   obtain ⟨o,rfl⟩:=ho;obtain ⟨G,hp⟩:=hp;obtain ⟨a3,c3,h3,F3,e3,r3,m3⟩:=BQ (lo:=lo) (v:=l[i]) hp hlo (hn.2 _ (X3 hi)).1;refine ⟨a3,c3,h3,F3,r3,m3,?_⟩;rw[B9.e,Am (by omega),Ad hi];simp only[Af,By,hld o rfl,Ab,Aa,es,Dw,Bd,Ai];rw[e3];simp only[Ac,AW,Ab,Aa,Ah,Dw,Bd,Ai,Bn,Ay (show i<9223372036854775807 by omega)])
 refine ⟨a',c',h',F',Nk ?_,r,m⟩;refine e.trans ?_;rw[B9.e,Ao (by omega)]
theorem GK {l:List Ver} (hs:RVers false h [.sl 6 a l.length c] l F) (hl:lo<=h.length) (hn:EL l) :
  ∃ v h' F',Ae lo 196 [.agg [.sl 6 a l.length c]] h=some (.agg [v],h')/\RVers false h' [v] l F'/\Mv h [] h' F':=by
 have hn1:=hn.1;by_cases he:l = []
 ·subst he;exact ⟨_,h,[],Gj (by rw[AU.e,Ao (by simp)]),Sli.nil,Mv.nil⟩
 have hpos:0<l.length:=List.length_pos_iff.2 he;obtain ⟨a',c',h',F',e,r,m⟩:=OC (e0:=none) (n0:=some 0) (h0:=h)
  (λi a1 n1 c1 hh=>AU lo (i:Nat) a l.length c 0 none 0 (some 0) (if i=0 then 0 else 6) a1 n1 c1 hh) hs hl hn Mv.nil Sli.nil (λi hi s a2 c2 a1 n1 c1 hh hz hld ho es hp hlo=>by
   obtain ⟨o,rfl⟩:=ho;obtain ⟨G,hp⟩:=hp;obtain ⟨a3,c3,h3,F3,e3,r3,m3⟩:=BQ (lo:=lo) (v:=l[i]) hp hlo (hn.2 _ (X3 hi)).1;refine ⟨a3,c3,h3,F3,r3,m3,?_⟩;rw[AU.e,Am (by omega),Ad hi];simp only[Af,By,hld o rfl,Ab,Aa,es,Dw,Bd,Ai];rw[e3];simp only[Ac,AW,Ab,Aa,Ah,Dw,Bd,Ai,Bn,Ay (show i<9223372036854775807 by omega),if_neg (Nat.succ_ne_zero i)];by_cases h0:i=0
   ·obtain ⟨rfl,rfl⟩:=hz h0;rw[WS]
   ·rw[if_neg h0])
 refine ⟨_,h',F',Gj ?_,r,m⟩;refine e.trans ?_;rw[if_neg (by omega),AU.e,Ao (by omega)]
theorem Qd {l:List Node} (hs:RNodes false h [.sl 2 a l.length c] l F) (hl:lo<=h.length) (hn:Gk l) :
  ∃ v h' F',Ae lo 200 [.agg [.sl 2 a l.length c]] h=some (.agg [v],h')/\RNodes false h' [v] l F'/\Mv h [] h' F':=by
 have hn1:=hn.1;obtain ⟨q,a',c',h',F',e,r,m⟩:=Cu (El:=RNode false) rnode_ok (h:=h) (l:=l) (f:=id) (lo:=lo) (R:=2) (e:=54) (bytes:=48) hl (by decide) (by omega)
  (λi q a1 n1 c1 hh=>Cd lo (i:Nat) a l.length c 0 none 0 (some 0) q a1 n1 c1 hh) (λi hi q a1 n1 c1 hh hm=>by
   obtain ⟨o,s1,s2,b1,d1,b2,d2,G1,G2,ha,_,ho1,ho2,e1,e2,p1,p2,_⟩:=(hm.keep0 rnodes_ok hs).get hi;have hsm:=hn.2 _ (X3 hi);have hw1:=hsm.2.1;obtain ⟨v3,h3,F3,e3,r3,m3⟩:=GK (lo:=lo) p1 (XX hl hm.le) hsm.1;obtain ⟨a3,c3,es3,r3'⟩:=r3.form;have p2':=m3.keep0 rvers_ok p2;obtain ⟨q4,a4,c4,h4,F4,e4,r4,m4⟩:=Cu (El:=RVer false) rver_ok (h:=h3) (l:=l[i].wait) (f:=id) (lo:=lo) (R:=6) (e:=49) (bytes:=72) (XX hl (XX hm.le m3.le)) (by decide) (by omega)
    (λj q5 a5 n5 c5 hh=>Cc lo (i:Nat) (j:Nat) a l.length c 0 none 0 (some 0) q a1 n1 c1 a3 l[i].store.length c3 q5 a5 n5 c5 hh) (λj hj q5 a5 n5 c5 hh2 hm2=>by
     obtain ⟨o',s1',s2',b1',d1',b2',d2',G1',G2',ha',_,_,ho2',_,e2',_,p2',_⟩:=(hm2.keep0 rnodes_ok (m3.keep0 rnodes_ok (hm.keep0 rnodes_ok hs))).get hi;obtain ⟨o'',s,b,d,G,hb,hld,es,hp,_⟩:=p2'.get hj;obtain ⟨a6,c6,h6,F6,e6,r6,m6⟩:=BQ (lo:=lo) (v:=l[i].wait[j]) hp (XX hl (XX hm.le (XX m3.le hm2.le))) (hsm.2.2 _ (X3 hj)).1;refine ⟨l[i].wait[j].cs a6 c6,F6,h6 ++ [.rows 6 49 false [l[i].wait[j].cs a6 c6]],⟨_,rfl,Mv.snoc.keep0 rtags_ok r6⟩,m6.trans (Mv.snoc' m6.nd),?_⟩;rw[Cc.e,Ad hi,ha',Af];simp only[By,ho2',Af,Ab,Ai,e2'];rw[Am (by omega),Ad hi];simp only[hb,Ad hj,Af,By,hld,Ab,Aa,es,Dw,Bd,Ai];rw[e6];simp only[Ac,AW,Ab,Aa,Ah,Dw,Bd,Ai,Bn,Ay (show j<9223372036854775807 by omega)])
   rw[List.map_id] at r4;have m34:=m3.join m4 (rvers_ok.bd _ _ _ _ r3');obtain ⟨o',s1',s2',b1',d1',b2',d2',G1',G2',ha',_,_,ho2',_,e2',_,_,_⟩:=(m4.keep0 rnodes_ok (m3.keep0 rnodes_ok (hm.keep0 rnodes_ok hs))).get hi;refine ⟨[.sl 6 a3 l[i].store.length c3,.sl q4 a4 l[i].wait.length c4],F3++F4,h4 ++ [.rows 2 54 false [[.sl 6 a3 l[i].store.length c3,.sl q4 a4 l[i].wait.length c4]]],
    ⟨_,_,F3,F4,rfl,rfl,Mv.snoc.keep0 rvers_ok (m4.keep0 rvers_ok r3'),Mv.snoc.keep0 rvers_ok r4⟩,m34.trans (Mv.snoc' m34.nd),?_⟩
   rw[Cd.e,Am (by omega),Ad hi,ha,Af];simp only[By,ho1,Af,Ab,Ai,e1];rw[e3];simp only[Ac,AW,Ab,Ai,es3];rw[<- ha];refine e4.trans ?_;rw[Cc.e,Ad hi,ha',Af];simp only[By,ho2',Af,Ab,Ai,e2'];rw[Ao (by omega)];simp only[Bn,Ay (show i<9223372036854775807 by omega)])
 rw[List.map_id] at r;refine ⟨_,h',F',Nw ?_,r,m⟩;refine e.trans ?_;rw[Cd.e,Ao (by omega)]
theorem P8 {p:Place}{a1 a2 a3:Pq}{c1 c2 c3:Nq}{F1 F2 F3:List Nat} (hs1:RNodes false h [.sl 2 a1 p.chain.length c1] p.chain F1) (hs2:RVers false h [.sl 6 a2 p.log.length c2] p.log F2)
  (hs3:RVss false h [.sl 1 a3 p.got.length c3] p.got F3) (hl:lo<=h.length) (hn:Hb p) :
  ∃ vs h' F',Ae lo 171 [.agg (p.cs a1 c1 a2 c2 a3 c3)] h=some (.agg vs,h')/\RPlace false h' vs p F'/\Mv h [] h' F':=by
 have hn1:=hn.2.2.1;obtain ⟨v1,h1,G1,e1,r1,m1⟩:=Qd (lo:=h.length) hs1 (X1 _) hn.1;obtain ⟨b1,d1,es1,r1⟩:=r1.form;obtain ⟨b2,d2,h2,G2,e2,r2,m2⟩:=Kz (lo:=h1.length) (m1.keep0 rvers_ok hs2) (X1 _) hn.2.1;have m12:=m1.join m2 (rnodes_ok.bd _ _ _ _ r1);have r1':=m2.keep0 rnodes_ok r1;have hs3':=m2.keep0 rvss_ok (m1.keep0 rvss_ok hs3);obtain ⟨q,b3,d3,h',F',e,r,m⟩:=Cu (El:=RVers false) rvers_ok (h:=h2) (l:=p.got) (f:=id) (lo:=lo) (R:=1) (e:=50) (bytes:=24) (XX hl m12.le) (by decide) (by omega)
  (λi q a n c hh=>Ca lo (i:Nat) p.me p.clock a1 p.chain.length c1 a2 p.log.length c2 a3 p.got.length c3 p.fell 0 0 0 none 0 (some 0) 0 none 0 (some 0) 0 none 0 (some 0) false p.me p.clock b1 p.chain.length d1 b2 p.log.length d2 q a n c p.fell hh) (λi hi q x n y hh hm=>by
   obtain ⟨o,s,b,d,G,ha,ho,es,hp,_⟩:=(hm.keep0 rvss_ok hs3').get hi;obtain ⟨a5,c5,h5,F5,e5,r5,m5⟩:=Kz (lo:=lo) hp (XX hl (XX m12.le hm.le)) (hn.2.2.2 _ (X3 hi));refine ⟨[.sl 6 a5 p.got[i].length c5],F5,h5 ++ [.rows 1 50 false [[.sl 6 a5 p.got[i].length c5]]],Mv.snoc.keep0 rvers_ok r5,m5.trans (Mv.snoc' m5.nd),?_⟩;rw[Ca.e,Am (by omega),Ad hi];simp only[ha,Af,By,ho,Ab,es,Ai];rw[e5];simp only[Ac,Ah,Bn,Ay (show i<9223372036854775807 by omega)])
 rw[List.map_id] at r;have m3:=m12.join m (λb hb=>by
   rw[X0] at hb;exact hb.elim (rnodes_ok.bd _ _ _ _ r1' b) (rvers_ok.bd _ _ _ _ r2 b))
 rw[Yd] at m3;refine ⟨_,h',G1++(G2++F'),Np ?_,⟨_,_,_,G1,G2,F',rfl,rfl,m.keep0 rnodes_ok r1',m.keep0 rvers_ok r2,r⟩,m3⟩;rw[e1];simp only[Ac,AW,Ab,es1,Ai];rw[e2];simp only[Ac,Ah];refine e.trans ?_;rw[Ca.e,Ao (by omega)]
end


variable {l:List Ver}
def OR (v u:Ver):Bool:=v.key==u.key&&(v.tag.time==u.tag.time&&v.tag.place==u.tag.place)&&decide (v.past=u.past)&&(v.text.toList==u.text.toList)&&(v.gone==u.gone)
def Id (v:Ver):Bool:=v.key==0&&(v.tag.time==0&&v.tag.place==0)&&decide (v.past.length=0)&&Hh v.text && !v.gone
def HF (i:Nat) (v:Ver):Bool:=Id v || (Cp v&&v.key==i)
def Bw (l:List Ver):Bool:=(l.zipIdx.all λx=>HF x.2 x.1)&&decide (l.length=4)
theorem Cq (h:Bw l=true):l.length=4:=by simp only[Bw,C3,decide_eq_true_eq] at h;exact h.2
theorem D8 (h:Bw l=true) {i:Nat} (hi:i<l.length):HF i l[i]=true:=by simp only[Bw,C3,Ya] at h;have:=h.1 (l[i],i) (by rw[YU];simp[hi]);exact this
theorem Ro {v:Ver} (h:Cp v=true):0<v.tag.time:=by simp only[Cp,C3,decide_eq_true_eq] at h;exact (latest_lt.1 h.2).1
section
variable {lo:Nat}{ro ro':Bool}{h:Heap}{F F':List Nat}{a a':Pq}{c c':Nq}
theorem RVers.all {n:Nat}{i:Nat} (hs:RVers ro h [.sl 6 a n c] l F) (hi:i<l.length):∃ o s a' c' G,a=some o/\ld h o.1 (o.2+i) 0 1=some [Iv l[i].key]/\ld h o.1 (o.2+i) 1 1=some [Iv l[i].tag.time] /\
  ld h o.1 (o.2+i) 2 1=some [Iv l[i].tag.place]/\ld h o.1 (o.2+i) 3 1=some [s]/\ld h o.1 (o.2+i) 4 1=some [.str l[i].text]/\ld h o.1 (o.2+i) 5 1=some [.bool l[i].gone]/\ld h o.1 (o.2+i) 1 2=some [Iv l[i].tag.time,Iv l[i].tag.place] /\
  ld h o.1 (o.2+i) 0 6=some [Iv l[i].key,Iv l[i].tag.time,Iv l[i].tag.place,s,.str l[i].text,.bool l[i].gone] /\
  (∀ {R':Type} (K:Pq->Nat->Nq->Option R'),eS 2 s K=K a' l[i].past.length c')/\RTags ro h [.sl 2 a' l[i].past.length c'] l[i].past G/\(∀ b∈G,b∈F):=by
 obtain ⟨o,row,G,h1,h2,hv,hG,_⟩:=hs.read hi;obtain ⟨s,a',c',rfl,es,hp⟩:=hv.form;exact ⟨o,s,a',c',G,h1,by rw[h2];rfl,by rw[h2];rfl,by rw[h2];rfl,by rw[h2];rfl,by rw[h2];rfl,by rw[h2];rfl,by rw[h2];rfl,by rw[h2];rfl,es,hp,hG⟩
end


def Cv (l:List Ver) (t:Tag):Bool:=l.any λv=>v.tag.time==t.time&&v.tag.place==t.place
section
variable {lo:Nat}{ro ro':Bool}{h:Heap}{F F':List Nat}{a a':Pq}{c c':Nq}
theorem Qn {α:Type}{El:Rel α}{R R' e n i:Nat}{l:List α} (hs:Sli false R e El h [.sl R' a n c] l F) (hi:i<=l.length) {T:Type}{K:Pq->Nat->Nq->Option T} :
  AB a n c none (some (Iv (i:Nat))) none K=K a i c:=by
 have hn:=hs.val;subst hn;obtain ⟨R1,a',c',h1,h2⟩:=hs;injection h1 with h1 _;injection h1 with e0 e1 e2 e3;subst e0;subst e1;subst e3;have hc:∀ k,c=some k->l.length<=k:=λk hk=>by
  cases a with
  | none=>obtain ⟨rfl,_⟩:=h2;simp
  | some p=>obtain ⟨b,i⟩:=p;obtain ⟨_,_,_,_,_,g3,_⟩:=h2;exact (g3 k hk).1
 unfold AB FK Ix Jg;cases c with
 | none=>simp only[Aa,By];rw[DZ ⟨by omega,by omega⟩]
 | some k=>have:=hc k rfl;simp only[Aa,By];rw[DZ ⟨by omega,by omega⟩]
def UW (place:Int) (l:List Ver) (i:Nat) (v:Ver):Bool:=Cp v&&(v.tag.place==place) && !Cv (l.take i) v.tag
def FT (place:Int) (l:List Ver):Bool:=(l.zipIdx.all λx=>UW place l x.2 x.1)&&decide ((l.length:Int)<=60)
end


variable {l:List Node}
def A5 (l:List Ver):List Tag:=l.map λv=>v.tag
section
variable {lo:Nat}{ro ro':Bool}{h:Heap}{F F':List Nat}{a a':Pq}{c c':Nq}
theorem KD {l:List Ver} (hs:RVers ro h [.sl 6 a l.length c] l F) (hl:lo<=h.length) (hn:l.length<=1048576) :
  ∃ v h' F',Ae lo 192 [.agg [.sl 6 a l.length c]] h=some (.agg [v],h')/\RTags false h' [v] (A5 l) F'/\Mv h [] h' F':=by
 obtain ⟨q,a',c',h',F',e,r,m⟩:=Cu (El:=flat Tag.cs) Cn (h:=h) (l:=l) (f:=λv=>v.tag) (lo:=lo) (R:=2) (e:=30) (bytes:=16) hl (by decide) (by omega)
  (λi q a1 n1 c1 hh=>Ce lo (i:Nat) a l.length c 0 none 0 (some 0) q a1 n1 c1 hh) (λi hi q a1 n1 c1 hh hm=>by
   obtain ⟨o,s,b,d,G,ha,_,_,_,_,_,_,ho12,_⟩:=(hm.keep0 rvers_ok hs).all hi;refine ⟨[Iv l[i].tag.time,Iv l[i].tag.place],[],hh ++ [.rows 2 30 false [[Iv l[i].tag.time,Iv l[i].tag.place]]],⟨rfl,rfl⟩,Mv.snoc,?_⟩;rw[Ce.e,Am (by omega),Ad hi];simp only[ha,Af,By,ho12,Ab,Aa,Ai,Bn,Ay (show i<9223372036854775807 by omega)])
 refine ⟨_,h',F',Nx ?_,r,m⟩;refine e.trans ?_;rw[Ce.e,Ao (by omega)]
def Bh (l:List Node):List Tag:=match l.getLast? with | some x=>A5 x.store | none => []
theorem Jr (h0:0<l.length):Bh l=A5 (l[l.length - 1]'(by omega)).store:=by unfold Bh;rw[List.getLast?_eq_getElem?,CX (by omega)]
theorem ID (hs:RNodes ro h [.sl 2 a l.length c] l F) (hl:lo<=h.length) (hn:Gk l) (h0:0<l.length) :
  ∃ v h' F',Ae lo 199 [.agg [.sl 2 a l.length c]] h=some (.agg [v],h')/\RTags false h' [v] (Bh l) F'/\Mv h [] h' F':=by
 have hn1:=hn.1;obtain ⟨o,s1,s2,a1,c1,a2,c2,F1,F2,ha,_,ho1,_,e1,_,p1,_⟩:=hs.get (show l.length - 1<l.length by omega);obtain ⟨v,h',F',e,r,m⟩:=KD (lo:=lo) p1 hl (hn.2 _ (X3 _)).1.1;obtain ⟨a',c',es,r'⟩:=r.form;rw[Jr h0];refine ⟨_,h',F',K9 ?_,r',m⟩;rw[wr (by omega) (by omega),Er ⟨by omega,by omega⟩,ha,Af,show ((l.length:Int) - 1).toNat=l.length - 1 by omega,ho1];simp only[Af,Ab,Ai,e1];rw[e];simp only[Ac,AW,Ab,es,Ai]
end


variable {s:ByteArray}
abbrev tx (l:List UInt8):ByteArray:=⟨⟨l⟩⟩
theorem Us (s:ByteArray):tx s.data.toList=s:=rfl
theorem Bt {v:Ver} (h:Cp v=true):(0<=v.key/\v.key<=3)/\FH v.text=true/\(v.gone=true->v.text.size=0)/\BK v.past=true/\BE v.tag.time v.tag.place=true/\DY v.past<v.tag.time:=by
 simp only[Cp,Ll,Ag,C3,decide_eq_true_eq,YB,YR,Hh] at h;obtain ⟨⟨⟨⟨⟨⟨h1,h2⟩,h3⟩,h4⟩,h5⟩,h6⟩,h7⟩:=h;refine ⟨⟨h1,h2⟩,h3,λhg=>?_,h5,h6,h7⟩;rcases h4 with h4 | h4
 ·rw[hg] at h4;cases h4
 ·exact h4
theorem OG {t:ByteArray} (h:s.data.toList=t.data.toList):s=t:=by rw[<- Us s,<- Us t,h]
theorem Uk (h:s.size=0):s.data.toList = []:=X6 (by simpa using h)
theorem same_iff {v u:Ver}:OR v u=true<->v=u:=by
 cases v with | mk k1 t1 p1 s1 g1=>cases u with | mk k2 t2 p2 s2 g2 =>
 cases t1;cases t2;simp only[OR,C3,beq_iff_eq,decide_eq_true_eq,Ver.mk.injEq,Tag.mk.injEq];constructor
 ·rintro ⟨⟨⟨⟨h1,h2⟩,h3⟩,h4⟩,h5⟩
  exact ⟨h1,h2,h3,OG (by rwa [Zh,Zh] at h4),h5⟩
 ·rintro ⟨h1,h2,h3,h4,h5⟩
  exact ⟨⟨⟨⟨h1,h2⟩,h3⟩,by rw[h4]⟩,h5⟩
section
variable {lo:Nat}{ro ro':Bool}{h:Heap}{F F':List Nat}{a a':Pq}{c c':Nq}
theorem D7 (h:FH s=true):s.size<=8:=by simp only[FH,C3,decide_eq_true_eq] at h;omega
end


variable {l:List Ver}{v:Ver}
theorem Sli.at {α:Type}{El:Rel α} (ok:El.Ok) {h:Heap}{R R' e n k lo:Nat}{a:Pq}{c:Nq}{l:List α}{F:List Nat} (hs:Sli false R e El h [.sl R' a n c] l F) (hk:k<l.length) (hnd:F.Nodup) (hlo:∀ b∈F,lo<=b) :
  ∃ b i rs row G,a=some (b,i)/\b∈F/\b∉G/\h[b]?=some (.rows R e false rs)/\rs[i+k]?=some row/\El h row l[k] G/\(∀ y∈G,y∈F)/\G.Nodup /\
   (∀ h' x' G',Mv h G h' G'->El h' row x' G'->∃ F',Sli false R e El h' [.sl R' a n c] (l.set k x') F'/\Mv h F h' F') /\
   (∀ h1 G1 j cs row' x',Mv h G h1 G1->paste row j cs=some row'->El h1 row' x' G1 ->
    ∃ h2 F',st lo h1 b (i+k) j cs=some h2/\Sli false R e El h2 [.sl R' a n c] (l.set k x') F'/\Mv h F h2 F'/\h2[b]?=some (.rows R e false (rs.set (i+k) row'))/\(∀ y,y≠b->h2[y]?=h1[y]?)/\h2.length=h1.length):=by
 have hbd:=(Sli.ok ok).bd _ _ _ _ hs;obtain ⟨b,i,rs,row,G,ha,hbF,hbG,hb,hrow,hel,hGF,hGn,put⟩:=hs.put ok.fr hk hnd;have hblt:b<h.length:=hbd b hbF;refine ⟨b,i,rs,row,G,ha,hbF,hbG,hb,hrow,hel,hGF,hGn,λh' x' G' m hx=>?_,λh1 G1 j cs row' x' m hp hx=>?_⟩
 ·obtain ⟨F',p1,p2,p3,_⟩:=put h' row x' G' (by rw[set_same hrow,m.fr b hblt hbG];exact hb) (λy hy _ hyG=>m.fr y (hbd y hy) hyG) hx m.nd (λy hy hyF=>by
   rcases m.sub y hy with h1 | h1
   ·exact h1
   ·have:=hbd y hyF;omega)
  refine ⟨F',p1,m.le,λy hy hyF=>m.fr y hy λhg=>hyF (hGF y hg),p3,λy hy=>?_⟩;rcases p2 y hy with h1 | h1
  ·exact .inl h1.1
  ·exact (m.sub y h1).imp (hGF y) id
 ·have hbG1:b∉G1:=λhm=>by
   rcases m.sub b hm with h1 | h1
   ·exact hbG h1
   ·omega
  have hb1:h1[b]?=some (.rows R e false rs):=by rw[m.fr b hblt hbG];exact hb
  have hb1lt:b<h1.length:=Yb hblt m.le;have e2:=Eh hb1 (hlo b hbF) hrow hp;have fr2:∀ y,y≠b->(h1.set b (.rows R e false (rs.set (i+k) row')))[y]?=h1[y]?:=λy hy=>XZ (Ne.symm hy);obtain ⟨F',p1,p2,p3,_⟩:=put (h1.set b (.rows R e false (rs.set (i+k) row'))) row' x' G1 (by simp[hb1lt]) (λy hy hyb hyG=>by rw[fr2 y hyb];exact m.fr y (hbd y hy) hyG)
   (ok.fr _ _ _ _ _ hx λy hy=>fr2 y λe=>hbG1 (e ▸ hy)) m.nd (λy hy hyF=>by
   rcases m.sub y hy with h1 | h1
   ·exact h1
   ·have:=hbd y hyF;omega)
  refine ⟨_,F',e2,p1,⟨by simpa using m.le,λy hy hyF=>?_,p3,λy hy=>?_⟩,by simp[hb1lt],fr2,by simp⟩
  ·rw[fr2 y λe=>hyF (e ▸ hbF)];exact m.fr y hy λhg=>hyF (hGF y hg)
  ·rcases p2 y hy with h1 | h1
   ·exact .inl h1.1
   ·refine (m.sub y h1).imp (hGF y) λh=>by simpa using h
def AQ (v u:Ver):Bool:=Fz v.tag.time v.tag.place u.tag.time u.tag.place
def LP (s t:List Ver):Bool:=decide (s.length=t.length)&&(s.zip t).all λx=>OR x.1 x.2
theorem OQ {s t:List Ver}:LP s t=true<->s=t:=by
 unfold LP;rw[C3,decide_eq_true_eq,Ya];constructor
 ·rintro ⟨hl,hx⟩
  apply List.ext_getElem hl;intro i h1 h2;have:=hx (s[i],t[i]) (by rw[YH];exact ⟨i,by simp;omega,by simp⟩);exact same_iff.1 this
 ·rintro rfl
  refine ⟨rfl,λx hx=>?_⟩;obtain ⟨i,hi,rfl⟩:=YH.1 hx;simp[same_iff]
def EB (l:List Ver) (v:Ver):List Ver:=match l[v.key.toNat]? with
 | some x=>bif AQ x v then l.set v.key.toNat v else l
 | none=>l
theorem MD (h:v.key.toNat<l.length):EB l v=bif AQ l[v.key.toNat] v then l.set v.key.toNat v else l:=by unfold EB;rw[CX h]
theorem SB:(EB l v).length=l.length:=by
 unfold EB;split
 ·cases AQ _ v<;>simp
 ·rfl
theorem Uq (h:Cp v=true):HF v.key.toNat v=true:=by have:=(Bt h).1;unfold HF;rw[h,show (v.key==((v.key.toNat:Nat):Int))=true by rw[beq_iff_eq];omega];simp
theorem P1 (hl:Bw l=true) (hv:Cp v=true):Bw (l.set v.key.toNat v)=true:=by
 have h4:=Cq hl;unfold Bw;rw[C3,Ya,decide_eq_true_eq];refine ⟨λx hx=>?_,by simpa using h4⟩;rw[YU] at hx;have hi:=(Ef hx).1;rw[List.getElem?_set] at hx;split at hx
 ·rename_i he
  split at hx
  ·injection hx with hx;rw[<- hx,<- he];exact Uq hv
  ·cases hx
 ·rw[CX (by simpa using hi)] at hx;injection hx with hx;rw[<- hx];exact D8 hl _
def Ec:List Ver->List Ver->Option (List Ver)
 | s,[]=>some s
 | s,v :: r=>match s[v.key.toNat]? with
  | some x=>bif AQ x v then Ec (s.set v.key.toNat v) r else none
  | none=>none
def fits (x:Node) (next:List Ver):Bool:=match Ec next x.wait with
 | some s=>LP s x.store
 | none=>false
def DJ (x:Node):Bool:=Bw x.store&&decide ((x.wait.length:Int)<=6)&&x.wait.all Cp
def IT (l:List Node) (k:Nat) (x:Node):Bool:=match l[k+1]? with
 | some y=>fits x y.store
 | none=>decide (x.wait.length=0)
def Ey (l:List Node):Bool:=Ag l.length 1 4&&l.all DJ&&l.zipIdx.all λx=>IT l x.2 x.1
theorem Bp {x:Node} (h:DJ x=true):Bw x.store=true/\x.wait.length<=6/\∀ v∈x.wait,Cp v=true:=by simp only[DJ,C3,decide_eq_true_eq,Ya] at h;exact ⟨h.1.1,by have:=h.1.2;omega,h.2⟩
section
variable {lo:Nat}{h:Heap}{F F':List Nat}{a a':Pq}{c c':Nq}
theorem RB {av:Pq}{cv:Nq}{G:List Nat} (hs:RVers false h [.sl 6 a l.length c] l F) (hv:RTags false h [.sl 2 av v.past.length cv] v.past G)
  (hnd:F.Nodup) (hlo:∀ b∈F,lo<=b) (hl:lo<=h.length) (hk:0<=v.key/\v.key<l.length) (hn:v.past.length<=1048576) :
  ∃ h' F',Ae lo 207 [.agg [.sl 6 a l.length c],.agg (v.cs av cv)] h=some (.agg [.sl 6 a l.length c],h')/\RVers false h' [.sl 6 a l.length c] (EB l v) F'/\Mv h F h' F':=by
 have hkl:v.key.toNat<l.length:=by omega
 obtain ⟨o,s,b,d,G1,ha,_,_,_,_,_,_,ho12,_⟩:=hs.all hkl;suffices hk:∃ h' F',_=some (V.agg [.sl 6 a l.length c],h')/\RVers false h' [.sl 6 a l.length c] (EB l v) F'/\Mv h F h' F' from hk.imp λh' hk=>hk.imp λF' hk=>⟨PN hk.1,hk.2⟩
 rw[Er ⟨by omega,by omega⟩];simp only[ha,Af,ho12,Ab,Aa,Ai,Bj,Ac,A2];rw[MD hkl];show ∃ h' F',br (AQ l[v.key.toNat] v) _ _=_/\_;cases hle:AQ l[v.key.toNat] v with
 | false=>exact ⟨h,F,rfl,by rw[<- ha];exact hs,Mv.refl hnd⟩
 | true =>
  obtain ⟨b2,i2,rs,row,G2,ha2,hb2,hbG2,hbb,hrow,hel,hGF,hGn,_,wr⟩:=hs.at rver_ok hkl hnd hlo;obtain ⟨a3,c3,h3,F3,e3,r3,m3⟩:=BQ (lo:=lo) (v:=v) hv hl hn;have hab:o=(b2,i2):=by rw[ha] at ha2;injection ha2
  subst hab;obtain ⟨h4,F4,e4,r4,m4,_⟩:=wr h3 F3 0 (v.cs a3 c3) (v.cs a3 c3) v (m3.wide (by simp)) (Il (by obtain ⟨s,rfl,_⟩:=hel;rfl)) ⟨_,rfl,r3⟩;rw[Ax,e3];simp only[Ac,AW,Ab,Aa,Ah,Dw,Bd,Ai];rw[Er ⟨by omega,by omega⟩,e4];exact ⟨h4,F4,rfl,by rw[<- ha];exact r4,m4⟩
end


variable {l:List Ver}{v:Ver}
theorem Sli.row {α:Type}{El:Rel α} (hfr:El.Fr) {R R' e n k lo b i:Nat} (hln:El.Ln R) {h:Heap}{c:Nq}{l:List α}{G Gx:List Nat}{row:List V}{x:α} (hs:Sli false R e El h [.sl R' (some (b,i)) n c] l (b :: G)) (hb:b∉G) (hk:k<l.length) (hlo:lo<=b)
  (hx:El h row x Gx) (hbx:b∉Gx):∃ h' G',st lo h b (i+k) 0 row=some h'/\Sli false R e El h' [.sl R' (some (b,i)) n c] (l.set k x) (b :: G')/\b∉G'/\h'.length=h.length/\∀ y,y≠b->h'[y]?=h[y]?:=by
 have hn:=hs.val;subst hn;obtain ⟨R1,a1,c1,e1,e2⟩:=hs;injection e1 with e1 _;injection e1 with e0 e3 _ e4;subst e0;subst e3;subst e4;obtain ⟨hR,rs,Fs,g1,g2,g3,g4,g5,g6⟩:=e2;injection g6 with _ g6;subst g6;obtain ⟨row0,G0,k1,k2,k3⟩:=g5.get (CX hk);have hblt:b<h.length:=(Ef g1).1;have hrow:rs[i+k]?=some row0:=by rw[List.getElem?_take_of_lt hk,Yu] at k1;exact k1
 have hp:paste row0 0 row=some row:=Il (by rw[hln _ _ _ _ k3,hln _ _ _ _ hx]);have fr2:∀ y,y≠b->(h.set b (.rows R e false (rs.set (i+k) row)))[y]?=h[y]?:=λy hy=>XZ (Ne.symm hy);have hl1:((rs.set (i+k) row).drop i).take l.length=((rs.drop i).take l.length).set k row:=by rw[List.drop_set,if_neg (by omega),show i+k - i=k by omega,List.take_set]
 refine ⟨_,(Fs.set k Gx).flatten,Eh g1 hlo hrow hp,⟨R',some (b,i),c,by simp,hR,rs.set (i+k) row,Fs.set k Gx,by simp[hblt],by simpa using g2,λq hq=>by simpa using g3 q hq,g4,?_,rfl⟩,λhm=>?_,by simp,fr2⟩
 ·rw[YC,hl1];exact EAll.set (g5.fr hfr λy hy=>fr2 y λe=>hb (e ▸ hy)) (hfr _ _ _ _ _ hx λy hy=>fr2 y λe=>hbx (e ▸ hy))
 ·rcases Fm hm with h6 | h6
  ·exact hb h6
  ·exact hbx h6
theorem OI (h:Id v=true):v=⟨0,⟨0,0⟩,[],⟨⟨[]⟩⟩,false⟩:=by obtain ⟨k,⟨t1,t2⟩,p,s,g⟩:=v;simp only[Id,Hh,C3,beq_iff_eq,decide_eq_true_eq,YR] at h;obtain ⟨⟨⟨⟨h1,h2,h3⟩,h4⟩,h5⟩,h6⟩:=h;simp only[Ver.mk.injEq,Tag.mk.injEq];exact ⟨h1,⟨h2,h3⟩,X6 h4,OG (by rw[Uk h5]),h6⟩
theorem DW {i:Nat} (h:HF i v=true):Id v=true\/(Cp v=true/\v.key=i):=by simp only[HF,YB,C3,beq_iff_eq] at h;exact h
theorem GG (h:Id v=true):v.tag.time=0/\v.tag.place=0:=by rw[OI h];exact ⟨rfl,rfl⟩
theorem RC {l':List Ver} (h:EL l) (hl:l'.length<=1048576) (hs:∀ v∈l',v∈l):EL l':=⟨hl,λv hv=>h.2 v (hs v hv)⟩
theorem Rt (h:Bw l=true):EL l:=by
 refine ⟨by have:=Cq h;omega,λv hv=>?_⟩;obtain ⟨i,hi,rfl⟩:=YH.1 hv;rcases DW (D8 h hi) with h1 | ⟨h1,_⟩
 ·rw[OI h1];exact ⟨by simp,by show 0<=_;omega⟩
 ·obtain ⟨_,h2,_,h3,_⟩:=Bt h1;have:=D7 h2;have:=Ds h3;omega
section
variable {lo:Nat}{h:Heap}{F F':List Nat}{a a':Pq}{c c':Nq}
end


variable {l:List Node}
theorem Dx (h:Ey l=true):(1<=l.length/\l.length<=4)/\∀ x∈l,DJ x=true:=by simp only[Ey,Ag,C3,decide_eq_true_eq,Ya] at h;exact ⟨⟨by omega,by omega⟩,h.1.2⟩
theorem Pu (h:Ey l=true) {i:Nat} (hi:i<l.length):IT l i l[i]=true:=by simp only[Ey,C3,Ya] at h;exact h.2 (l[i],i) (by rw[YU];simp[hi])
theorem Ge {α:Type}{p:Nat->α->Bool}{l:List α}:(l.zipIdx.all λx=>p x.2 x.1)=true<->∀ i (hi:i<l.length),p i l[i]=true:=by
 rw[Ya];constructor
 ·intro h i hi;exact h (l[i],i) (by rw[YU];simp[hi])
 ·rintro h ⟨x,i⟩ hx
  rw[YU] at hx;obtain ⟨hi,hx⟩:=Ef hx;have:=h i hi;simp only at hx;rw[hx] at this;exact this
theorem WI {α:Type}{p:α->Bool}{l:List α}:l.all p=true<->∀ i (hi:i<l.length),p l[i]=true:=by rw[Ya];exact ⟨λh i hi=>h _ (X3 hi),λh x hx=>by obtain ⟨i,hi,rfl⟩:=YH.1 hx;exact h i hi⟩
section
variable {lo:Nat}{h:Heap}{F F':List Nat}{a a':Pq}{c c':Nq}
end


def LX (st:List Tag) (x:Node):Bool:=(x.store.all λv => !decide (v.tag.time>0) || Ci v.past st)&&x.wait.all λv=>Ci v.past st
def HZ (l:List Node):Bool:=l.all (LX (Bh l))
def ET (l:List Node) (clock:Int):Bool:=match l[0]? with
 | some x=>x.store.all λv=>decide (v.tag.time<=clock)
 | none=>false
def Mf (me:Int) (i:Nat) (l:List Ver):Bool:=FT i l&&(!((i:Int)==me) || decide (l.length=0))
def Ap (p:Place):Bool:=Ag p.me 0 2&&Ag p.clock 0 999&&decide (p.got.length=3)&&Ey p.chain&&HZ p.chain&&FT p.me p.log&&(p.got.zipIdx.all λx=>Mf p.me x.2 x.1)&&ET p.chain p.clock
theorem LE {l:List Node} (h:Ey l=true):(Bh l).length=4:=by obtain ⟨h1,h2⟩:=Dx h;rw[Jr (by omega)];simp only[A5,Zp];exact Cq (Bp (h2 _ (X3 _))).1
theorem Dg {h:Heap}{b i j n R e:Nat}{ro:Bool}{rs:List (List V)}{row:List V} (hb:h[b]?=some (.rows R e ro rs)) (hi:rs[i]?=some row):ld h b i j n=cut row j n:=by simp[ld,Heap.rows?,hb,hi]
section
variable {lo:Nat}{h:Heap}{F F':List Nat}{a a':Pq}{c c':Nq}
end


section
variable {h:Heap}
theorem WV {α:Type}{El:Rel α}{bd:α->Prop}{n t e ee R:Nat}{xs:List V} (hu:Tryz.prog.underlying t=some (.slice e)) (hR:Tryz.prog.cellsOf e=R) (hel:∀ row,TV Tryz.prog h n e row->∃ x F,El h row x F/\bd x) (hx:TV Tryz.prog h (n+1) t xs) :
  ∃ l F,Sli true R ee El h xs l F/\l.length<=maxLen/\∀ x∈l,bd x:=by
 simp only[TV,hu] at hx;obtain ⟨a,c,rs,rfl,⟨h2,_⟩,h3,h4⟩:=hx;have all:∀ rs:List (List V),(∀ row∈rs,TV Tryz.prog h n e row)->∃ l Fs,EAll El h rs l Fs/\l.length=rs.length/\∀ x∈l,bd x:=by
  intro rs;induction rs with
  | nil=>intro _;exact ⟨[],[],trivial,rfl,by simp⟩
  | cons r rs ih =>
   intro hr;obtain ⟨l,Fs,g1,g2,g3⟩:=ih λrow hrow=>hr row (by simp[hrow]);obtain ⟨x,F,g4,g5⟩:=hel r (hr r (by simp));exact ⟨x :: l,F :: Fs,⟨g4,g1⟩,by simp[g2],λy hy=>by
    rcases Ye.1 hy with rfl | hy
    ·exact g5
    ·exact g3 y hy⟩
 obtain ⟨l,Fs,g1,g2,g3⟩:=all rs λrow hr=>(h3 row hr).2
 rcases h4 with rfl | ⟨b,rfl,hb⟩
 ·have:l = []:=X6 (by simpa using g2);subst this;exact ⟨[],[],⟨R,a,c,by rw[hR];rfl,rfl,.inl ⟨rfl,rfl⟩⟩,Yl _,by simp⟩
 ·refine ⟨l,b :: Fs.flatten,⟨R,some (b,0),c,by rw[hR,g2],rfl,.inr ⟨b,0,rs,Fs,rfl,hb,by omega,?_,rfl⟩⟩,by omega,g3⟩;rw[YQ,YA (by omega)];exact g1
end


def JK (ro:Bool):Rel Place:=λh cs p F=>∃ a1 c1 a2 c2 a3 c3,cs=p.cs a1 c1 a2 c2 a3 c3/\RPlace ro h cs p F
theorem LQ {ro:Bool}:(JK ro).Ok :=
 ⟨λh h' cs p F ⟨a1,c1,a2,c2,a3,c3,e,hp⟩ hb=>⟨a1,c1,a2,c2,a3,c3,e,rplace_ok.fr _ _ _ _ _ hp hb⟩,λh cs p F ⟨_,_,_,_,_,_,_,hp⟩=>rplace_ok.bd _ _ _ _ hp⟩
theorem SO:∀ {l:List Tag},UU VO l=2*l.length
 | []=>rfl
 | t :: l=>by
  have h1:=SO (l:=l);have h2:UU VO (t :: l)=2+UU VO l:=by simp only[UU,Zi,List.sum_cons]
  rw[h2,h1,YP];omega
abbrev PU:Ver:=⟨0,⟨0,0⟩,[],⟨⟨[]⟩⟩,false⟩
abbrev WT:Place:=⟨0,0,[],[],[],false⟩
section
variable {lo:Nat}{h:Heap}{F F':List Nat}{a a':Pq}{c c':Nq}
end


variable {l:List Node}
theorem Mv.swap {h h':Heap}{A B A' B':List Nat} (m:Mv h (A++B) h' (A'++B')):Mv h (B++A) h' (B'++A'):=by
 refine ⟨m.le,λb hb hn=>m.fr b hb λhm=>hn ?_,?_,λb hb=>?_⟩
 ·rw[X0] at hm ⊢;exact hm.symm
 ·have:=m.nd;rw[X4] at this ⊢;exact ⟨this.2.1,this.1,λx hx y hy e=>this.2.2 y hy x hx e.symm⟩
 ·rw[X0] at hb;refine (m.sub b (by rw[X0];exact hb.symm)).imp (λh=>?_) id;rw[X0] at h ⊢;exact h.symm
theorem Ek {α:Type}{El:Rel α} (ok:El.Ok) {h0 h1:Heap}{lo R e n bytes:Nat}{a:Pq}{c:Nq}{l:List α}{F:List Nat}{row:List V}{x:α}{G:List Nat} (hs:Sli false R e El h0 [.sl R a n c] l F) (hx:El h1 row x G) (m:Mv h0 [] h1 G)
  (hnd:F.Nodup) (hlo:∀ b∈F,lo<=b) (hl:lo<=h0.length) (hb:0<bytes) (hsz:(l.length+1)*bytes<=140737488355328) :
  ∃ a' c' h2 F',(∀ {T:Type} (K:V->Heap->Option T),CC lo e R bytes (.sl R a n c) [row] h1 K=K (.sl R a' (l.length+1) c') h2)/\Sli false R e El h2 [.sl R a' (l.length+1) c'] (l ++ [x]) F'/\Mv h0 F h2 F':=by
 have hbd:=(Sli.ok ok).bd _ _ _ _ hs;have hs1:=m.keep0 (Sli.ok ok) hs;have hGb:=m.lt (by simp);obtain ⟨a',c',h2,F',p1,p2,p3,p4,p5,p6⟩:=Sli.push (lo:=lo) (bytes:=bytes) ok.fr hs1 (xs := [row]) (ys := [x]) (Gs := [G]) ⟨hx,trivial⟩ hb hsz hlo (XX hl m.le)
  (by
   rw[X4];refine ⟨hnd,by simpa using m.nd,λy hy z hz=>?_⟩
   rintro rfl
   have g1:=hbd y hy;have g2:=m.new y (by simpa using hz);omega)
  (λb hb'=>by
   have g1:=m.le;rw[X0] at hb';rcases hb' with hb' | hb'
   ·have:=hbd b hb';omega
   ·exact hGb b (by simpa using hb')) (by simp)
 refine ⟨a',c',h2,F',p1,p2,XX m.le p3,λb hb' hF=>?_,p6,λb hb'=>?_⟩
 ·rw[p4 b (Yb hb' m.le) hF,m.fr b hb' (by simp)]
 ·have g1:=m.le;rcases p5 b hb' with g | g
  ·rw[X0] at g;rcases g with g | g
   ·exact .inl g
   ·have g2:=m.new b (by simpa using g);have g3:=hGb b (by simpa using g);exact .inr (by omega)
  ·exact .inr (by omega)
def Gr (l:List Node):List Node:=match l.getLast? with
 | some x=>l ++ [⟨x.store,[]⟩]
 | none=>l
def Ez (l:List Node):Bool:=decide ((l.length:Int)<4)
def If (l:List Node):List Node:=bif Ez l then Gr l else l
theorem EQ (h0:0<l.length):Gr l=l ++ [⟨(l[l.length - 1]'(by omega)).store,[]⟩]:=by unfold Gr;rw[List.getLast?_eq_getElem?,CX (by omega)]
def Xk (raw:List V) (p:Place) (r:List V):Prop:=∃ s1 s2 s3 a1 c1 a2 c2 a3 c3,raw = [Iv p.me,Iv p.clock,s1,s2,s3,.bool p.fell] /\
 (∀ {T:Type} (K:Pq->Nat->Nq->Option T),eS 2 s1 K=K a1 p.chain.length c1)/\(∀ {T:Type} (K:Pq->Nat->Nq->Option T),eS 6 s2 K=K a2 p.log.length c2) /\
 (∀ {T:Type} (K:Pq->Nat->Nq->Option T),eS 1 s3 K=K a3 p.got.length c3)/\r=p.cs a1 c1 a2 c2 a3 c3
section
variable {lo:Nat}{h:Heap}{F F':List Nat}{a a':Pq}{c c':Nq}
theorem Qb (hs:RNodes false h [.sl 2 a l.length c] l F) (h0:0<l.length) (hn:Gk l) (hnd:F.Nodup) (hlo:∀ b∈F,lo<=b) (hl:lo<=h.length) :
  ∃ a' c' h' F',Ae lo 164 [.agg [.sl 2 a l.length c]] h=some (.agg [.sl 2 a' (l.length+1) c'],h')/\RNodes false h' [.sl 2 a' (l.length+1) c'] (Gr l) F'/\Mv h F h' F':=by
 have hn1:=hn.1;obtain ⟨o,s1,s2,b1,d1,b2,d2,G1,G2,ha,ho,ho1,ho2,e1,e2,q1,q2,_⟩:=hs.get (show l.length - 1<l.length by omega);obtain ⟨v3,h3,F3,e3,r3,m3⟩:=GK (lo:=lo) q1 hl (hn.2 _ (X3 _)).1;obtain ⟨a4,c4,es4,r4⟩:=r3.form;obtain ⟨a5,c5,h5,F5,e5,r5,m5⟩:=Ek (lo:=lo) (bytes:=48) (e:=54) rnode_ok hs (row := [.sl 6 a4 (l[l.length - 1]'(by omega)).store.length c4,.sl 0 none 0 (some 0)]) (x:=⟨(l[l.length - 1]'(by omega)).store,[]⟩) (G:=F3) (h1:=h3 ++ [.rows 2 54 false [[.sl 6 a4 (l[l.length - 1]'(by omega)).store.length c4,.sl 0 none 0 (some 0)]]])
  ⟨_,_,F3,[],rfl,by simp,Mv.snoc.keep0 rvers_ok r4,Sli.nil⟩ (m3.trans (Mv.snoc' m3.nd)) hnd hlo hl (by decide) (by omega)
 refine ⟨a5,c5,h5,F5,Nu ?_,by rw[EQ h0];exact r5,m5⟩;rw[wr (by omega) (by omega),Er ⟨by omega,by omega⟩,show ((l.length:Int) - 1).toNat=l.length - 1 by omega];simp only[ha,Af,ho1,Ab,e1,Ai];rw[e3];simp only[Ac,AW,Ab,es4,Ai,Bn];rw[<- ha,e5];simp only[Ah]
end


variable {p:Place}
theorem JG:∀ {row:List V}{n:Nat},row.length=n->cut row 0 n=some row
 | [],0,_=>rfl
 | v :: r,n+1,h=>by have h1:=JG (row:=r) (n:=n) (by simpa using h);show (match cut r 0 n with | some l=>some (v :: l) | none=>none)=_;rw[h1]
theorem Xf {a1 a2 a3 b1 b2 b3:Pq}{c1 c2 c3 d1 d2 d3:Nq} (h:p.cs a1 c1 a2 c2 a3 c3=p.cs b1 d1 b2 d2 b3 d3):a1=b1/\c1=d1/\a2=b2/\c2=d2/\a3=b3/\c3=d3:=by simp only[Place.cs,List.cons.injEq,V.sl.injEq,true_and,and_true] at h;obtain ⟨⟨h1,h2⟩,⟨h3,h4⟩,h5,h6⟩:=h;exact ⟨h1,h2,h3,h4,h5,h6⟩
def Jt (p:Place):Place:=⟨p.me,p.clock,If p.chain,p.log,p.got,p.fell⟩
theorem EU (h:Ap p=true):0<p.chain.length:=by unfold Ap at h;simp only[C3] at h;have:=(Dx h.1.1.1.1.2).1;omega
theorem Ht {b:Bool}{h:Heap}:br b (some (V.bool true,h)) (some (V.bool false,h))=some (V.bool b,h):=by cases b<;>rfl
section
variable {lo:Nat}{h:Heap}{F F':List Nat}{a a':Pq}{c c':Nq}
theorem ON {a1 a2 a3:Pq}{c1 c2 c3:Nq}{F1 F2 F3:List Nat} (hs1:RNodes false h [.sl 2 a1 p.chain.length c1] p.chain F1) (hs2:RVers false h [.sl 6 a2 p.log.length c2] p.log F2)
  (hs3:RVss false h [.sl 1 a3 p.got.length c3] p.got F3) (hl:lo<=h.length) (hn:Hb p) :
  ∃ raw a1' c1' a2' c2' a3' c3' h' F',Ae lo 171 [.agg (p.cs a1 c1 a2 c2 a3 c3)] h=some (.agg raw,h')/\Xk raw p (p.cs a1' c1' a2' c2' a3' c3')/\RPlace false h' (p.cs a1' c1' a2' c2' a3' c3') p F'/\Mv h [] h' F':=by
 obtain ⟨vs,h',F',e,r,m⟩:=P8 (lo:=lo) hs1 hs2 hs3 hl hn;obtain ⟨s1,s2,s3,G1,G2,G3,rfl,rfl,g1,g2,g3⟩:=r;obtain ⟨x1,y1,es1,g1⟩:=g1.form;obtain ⟨x2,y2,es2,g2⟩:=g2.form;obtain ⟨x3,y3,es3,g3⟩:=g3.form;exact ⟨_,x1,y1,x2,y2,x3,y3,h',_,e,⟨s1,s2,s3,x1,y1,x2,y2,x3,y3,rfl,λK=>es1 K,λK=>es2 K,λK=>es3 K,rfl⟩,⟨_,_,_,G1,G2,G3,rfl,rfl,g1,g2,g3⟩,m⟩
end


def Gh (l:List Node) (k:Nat) (v:Ver):List Node:=match l[k]? with
 | some x=>match x.store[v.key.toNat]? with
  | some u=>bif AQ u v then l.set k ⟨x.store.set v.key.toNat v,bif decide (k+1<l.length) then x.wait ++ [v] else x.wait⟩ else l
  | none=>l
 | none=>l
theorem VL {l:List Node}{k:Nat}{v:Ver} (hk:k<l.length) (hv:v.key.toNat<l[k].store.length) :
  Gh l k v=bif AQ l[k].store[v.key.toNat] v then l.set k ⟨l[k].store.set v.key.toNat v,bif decide (k+1<l.length) then l[k].wait ++ [v] else l[k].wait⟩ else l:=by
 unfold Gh;rw[CX hk];simp only;rw[CX hv]
section
variable {lo:Nat}{h h3:Heap}{F F' G:List Nat}{a a' av:Pq}{c c' cv:Nq}{n k:Nat}{l:List Node}{v:Ver}
theorem TB (hs:RNodes false h [.sl 2 a n c] l F) (hk:k<l.length) (hnd:F.Nodup) (hlo:∀ b∈F,lo<=b) (hl:lo<=h.length) (hw:l[k].wait.length<=1048576) (hv:RTags false h3 [.sl 2 av v.past.length cv] v.past G) (m3:Mv h [] h3 G) :
  ∃ b i t2 a2 c2 a5 c5 h5,a=some (b,i)/\ld h b (i+k) 1 1=some [t2]/\(∀ {T:Type} (K:Pq->Nat->Nq->Option T),eS 6 t2 K=K a2 l[k].wait.length c2) /\
   (∀ {T:Type} (K:V->Heap->Option T),CC lo 49 6 72 (.sl 6 a2 l[k].wait.length c2) [v.cs av cv] (h3 ++ [.rows 6 49 false [v.cs av cv]]) K=K (.sl 6 a5 (l[k].wait.length+1) c5) h5) /\
   (∃ F5,RVers false h5 [.sl 6 a5 (l[k].wait.length+1) c5] (l[k].wait ++ [v]) F5) /\
   ∀ c6,(c6=c5\/c6=some (l[k].wait.length+1))->∃ h6 F6,st lo h5 b (i+k) 1 [.sl 6 a5 (l[k].wait.length+1) c6]=some h6/\RNodes false h6 [.sl 2 a n c] (l.set k ⟨l[k].store,l[k].wait ++ [v]⟩) F6/\Mv h F h6 F6:=by
 obtain ⟨b,i,rs,row,G0,ha,hbF,hbG,hb,hrow,hel,hGF,hGn,_,put⟩:=hs.at rnode_ok hk hnd hlo;obtain ⟨t1,t2,F1,F2,rfl,rfl,r1,r2⟩:=hel;obtain ⟨a2,c2,e2,r2'⟩:=r2.form;rw[X4] at hGn;obtain ⟨a5,c5,h5,F5,e5,r5,m5⟩:=Ek (lo:=lo) (bytes:=72) (e:=49) rver_ok r2' (row:=v.cs av cv) (x:=v) (G:=G) (h1:=h3 ++ [.rows 6 49 false [v.cs av cv]])
  ⟨_,rfl,Mv.snoc.keep0 rtags_ok hv⟩ (m3.trans (Mv.snoc' m3.nd)) hGn.2.1 (λy hy=>hlo y (hGF y (by simp[hy]))) hl (by decide) (by omega)
 have b1:∀ y∈F1,y<h.length:=rvers_ok.bd _ _ _ _ r1;have m6:=(m5.aside (G:=F1) (by rw[X4];exact ⟨hGn.2.1,hGn.1,λx hx y hy e=>hGn.2.2 y hy x hx e.symm⟩) b1).swap;have r1':=m5.keep rvers_ok r1 λy hy hm=>hGn.2.2 y hy y hm rfl;refine ⟨b,i,t2,a2,c2,a5,c5,h5,ha,by rw[Dg hb hrow];rfl,λK=>e2 K,λK=>e5 K,⟨F5,r5⟩,λc6 hc=>?_⟩;have r5':RVers false h5 [.sl 6 a5 (l[k].wait.length+1) c6] (l[k].wait ++ [v]) F5:=by
  rcases hc with rfl | rfl
  ·exact r5
  ·exact r5.clip
 obtain ⟨h6,F6,e6,r6,m7,_⟩:=put h5 (F1++F5) 1 [.sl 6 a5 (l[k].wait.length+1) c6] [t1,.sl 6 a5 (l[k].wait.length+1) c6] ⟨l[k].store,l[k].wait ++ [v]⟩ m6 rfl ⟨_,_,F1,F5,rfl,rfl,r1',r5'⟩;exact ⟨h6,F6,e6,r6,m7⟩
theorem LK (hs:RNodes false h [.sl 2 a l.length c] l F) (hv:RTags false h [.sl 2 av v.past.length cv] v.past G) (hd:∀ b∈G,b∉F) (hnd:F.Nodup) (hlo:∀ b∈F,lo<=b) (hl:lo<=h.length) (hk:k<l.length)
  (hkey:0<=v.key/\v.key<l[k].store.length) (hn:Gk l) (hvn:v.past.length<=1048576) :
  ∃ h' F',Ae lo 193 [.agg [.sl 2 a l.length c],Iv k,.agg (v.cs av cv)] h=some (.agg [.sl 2 a l.length c],h')/\RNodes false h' [.sl 2 a l.length c] (Gh l k v) F'/\Mv h F h' F':=by
 have hn1:=hn.1;have hkl:v.key.toNat<l[k].store.length:=by omega
 have hsm:=hn.2 _ (X3 hk);suffices hq:∃ h' F',_=some (V.agg [.sl 2 a l.length c],h')/\RNodes false h' [.sl 2 a l.length c] (Gh l k v) F'/\Mv h F h' F' from hq.imp λh' hq=>hq.imp λF' hq=>⟨PL hq.1,hq.2⟩
 obtain ⟨b,i,rs,row,G0,ha,hbF,hbG,hb,hrow,hel,hGF,hGn,_,put⟩:=hs.at rnode_ok hk hnd hlo;obtain ⟨t1,t2,F1,F2,rfl,rfl,r1,r2⟩:=hel;obtain ⟨a1,c1,e1,r1'⟩:=r1.form;obtain ⟨o,s,_,_,_,ha1,_,_,_,_,_,_,ho12,_⟩:=RVers.all r1' hkl;have ld0:ld h b (i+k) 0 1=some [t1]:=by rw[Dg hb hrow];rfl
 rw[VL hk hkl];rw[Ad hk];simp only[ha,Af,By,ld0,Ab,Ai,e1];rw[Er ⟨by omega,by omega⟩];simp only[ha1,Af,ho12,Ab,Aa,Ai,Bj,Ac,A2];show ∃ h' F',br (AQ l[k].store[v.key.toNat] v) _ _=_/\_;cases hle:AQ l[k].store[v.key.toNat] v with
 | false=>exact ⟨h,F,rfl,by rw[<- ha];exact hs,Mv.refl hnd⟩
 | true =>
  have hGn0:=hGn;rw[X4] at hGn;have hGlt:∀ b∈G,b<h.length:=rtags_ok.bd _ _ _ _ hv;obtain ⟨h2,F3,e2,r3,m2⟩:=RB (lo:=lo) r1' hv hGn.1 (λy hy=>hlo y (hGF y (by simp[hy]))) hl hkey hvn;have b2':∀ y∈F2,y<h.length:=rvers_ok.bd _ _ _ _ r2;have m3:=m2.aside (G:=F2) hGn0 b2';have r2':=m2.keep rvers_ok r2 λy hy hm=>hGn.2.2 y hm y hy rfl;have hadd:EB l[k].store v=l[k].store.set v.key.toNat v:=by rw[MD hkl,hle,cond_true]
  have hlen:(EB l[k].store v).length=l[k].store.length:=SB;rw[<- hlen] at r3;obtain ⟨h4,F4,e4,r4,m4,b4,fr4,l4⟩:=put h2 (F3++F2) 0 [.sl 6 a1 (EB l[k].store v).length c1] [.sl 6 a1 (EB l[k].store v).length c1,t2] ⟨EB l[k].store v,l[k].wait⟩ m3 rfl ⟨_,_,F3,F2,rfl,rfl,r3,r2'⟩;rw[hlen] at e4;have hv4:RTags false h4 [.sl 2 av v.past.length cv] v.past G:=m4.keep rtags_ok hv hd;have hk4:k<(l.set k ⟨EB l[k].store v,l[k].wait⟩).length:=by simpa using hk
  rw[Ax,Ad hk];simp only[Af,ld0,Ab,e1,Ai];rw[e2];simp only[Ac,AW,Ab,Ah,Ai];rw[Ad hk,e4];simp only[Af];rw[wr (by omega) (by omega),cond_true];by_cases hlast:k+1<l.length
  ·rw[Am (by omega),Ad hk,decide_eq_true hlast,cond_true];obtain ⟨a6,c6,h6,F6,e6,r6,m6⟩:=BQ (lo:=h4.length) (v:=v) hv4 (X1 _) hvn;have hself:(l.set k ⟨EB l[k].store v,l[k].wait⟩)[k]=⟨EB l[k].store v,l[k].wait⟩:=List.getElem_set_self hk4;obtain ⟨b7,i7,u2,a7,c7,a8,c8,h8,ha7,ld7,e7,app7,_,st7⟩:=TB (lo:=lo) r4 hk4 m4.nd (λy hy=>m4.ge hl hlo y hy) (XX hl m4.le) (by rw[hself];exact hsm.2.1) r6 m6;simp only[hself] at e7 app7 st7;obtain ⟨h9,F9,e9,r9,m9⟩:=st7 _ (.inl rfl);rw[ha] at ha7;injection ha7 with ha7;injection ha7 with hb7 hi7;subst hb7;subst hi7;simp only[ld7,Af,Ab,Ai,e7];rw[e6];simp only[Ac,AW,Ab,Aa,Ah,Dw,Bd,Ai,Bn];rw[app7];simp only[Ah];rw[Ad hk,e9];rw[List.set_set,hadd] at r9;exact ⟨h9,F9,rfl,by rw[<- ha];exact r9,m4.trans m9⟩
  ·rw[Ao (by omega),decide_eq_false hlast,cond_false];rw[hadd] at r4;exact ⟨h4,F4,rfl,by rw[<- ha];exact r4,m4⟩
end


def noted (me:Int) (log:List Ver) (v:Ver):List Ver:=bif decide (v.tag.time>0)&&(v.tag.place==me && !Cv log v.tag) then log ++ [v] else log
def DK (l:List Node):List Ver:=match l.getLast? with
 | some x=>x.store
 | none => []
def Xz (l:List Node):Bool:=l.all λx=>decide (x.wait.length=0)
def CJ (p:Place):Place:=⟨p.me,p.clock,p.chain,(DK p.chain).foldl (noted p.me) p.log,p.got,p.fell && !Xz p.chain⟩
theorem EP {l:List Node} (h0:0<l.length):DK l=(l[l.length - 1]'(by omega)).store:=by unfold DK;rw[List.getLast?_eq_getElem?,CX (by omega)]
theorem TK {me:Int}{log:List Ver}{v:Ver}:(noted me log v).length<=log.length+1:=by unfold noted;cases decide (v.tag.time>0)&&(v.tag.place==me && !Cv log v.tag)<;>simp
section
variable {lo:Nat}{h:Heap}{F F':List Nat}{a a':Pq}{c c':Nq}
theorem IC {l:List Ver}{t p:Int}{ro:Bool} (hs:RVers ro h [.sl 6 a l.length c] l F) (hn:l.length<=1048576) :
  Ae lo 194 [.sl 6 a l.length c,.agg [Iv t,Iv p]] h=some (.bool (Cv l ⟨t,p⟩),h):=by
 refine K8 (h':=h) ?_;have loop:∀ m i,m+i=l.length->BA h.length a l.length c false (i:Nat) t p h=some (.bool ((l.drop i).any λv=>v.tag.time==t&&v.tag.place==p),h):=by
  intro m;induction m with
  | zero =>intro i hi;rw[BA.e,Ao (by omega),YI (by omega)];rfl
  | succ m ih =>
   intro i hi;have hil:i<l.length:=by omega
   obtain ⟨o,s,_,_,_,ha,_,_,_,_,_,_,ho,_⟩:=RVers.all hs hil;rw[BA.e,Am (by omega),Ad hil];simp only[ha,Af,By,ho,Ab,Aa,Ai,Bool.and_true];rw[Ay (show i<9223372036854775807 by omega),<- ha,ih (i+1) (by omega),Yi hil,List.any_cons];cases (l[i].tag.time==t&&l[i].tag.place==p)<;>rfl
 exact loop l.length 0 (by omega)
theorem KA {p:Place}{a1 a2 a3:Pq}{c1 c2 c3:Nq}{F1 F2:List Nat} (hs1:RNodes false h [.sl 2 a1 p.chain.length c1] p.chain F1) (hs2:RVers false h [.sl 6 a2 p.log.length c2] p.log F2)
  (h0:0<p.chain.length) (h4:(DK p.chain).length=4) (hd:∀ b∈F1,b∉F2) (hnd:F2.Nodup) (hlo:∀ b∈F2,lo<=b) (hl:lo<=h.length) (hcl:p.chain.length<=1048576) (hlog:p.log.length<=1000000) (hvn:∀ v∈DK p.chain,v.past.length<=1048576) :
  ∃ a2' c2' h' F2',Ae lo 161 [.agg (p.cs a1 c1 a2 c2 a3 c3)] h=some (.agg ((CJ p).cs a1 c1 a2' c2' a3 c3),h')/\RVers false h' [.sl 6 a2' (CJ p).log.length c2'] (CJ p).log F2'/\Mv h F2 h' F2':=by
 obtain ⟨o,s1,s2,b1,d1,b2,d2,G1,G2,ha,_,ho1,_,e1,_,q1,_,q3,_⟩:=hs1.get (show p.chain.length - 1<p.chain.length by omega);rw[EP h0] at h4 hvn;have two:∀ (hh:Heap) (F':List Nat) (ax:Pq) (nx:Nat) (cx:Nq),Mv h F2 hh F'->∀ m i (b:Bool),m+i=p.chain.length ->
   Ba lo b (i:Nat) p.me p.clock a1 p.chain.length c1 ax nx cx a3 p.got.length c3 p.fell 0 0 0 none 0 (some 0) 0 none 0 (some 0) 0 none 0 (some 0) false hh=some (.agg [Iv p.me,Iv p.clock,.sl 2 a1 p.chain.length c1,.sl 6 ax nx cx,.sl 1 a3 p.got.length c3,.bool (p.fell && !(b&&(p.chain.drop i).all λx=>decide (x.wait.length=0)))],hh):=by
  intro hh F' ax nx cx hm m;induction m with
  | zero =>intro i b hi;rw[Ba.e,Ao (by omega),YI (by omega)];cases p.fell<;>cases b<;>rfl
  | succ m ih =>
   intro i b hi;have hil:i<p.chain.length:=by omega
   obtain ⟨o',_,_,_,_,_,_,_,_,ha',_,_,ho2',_,e2',_⟩:=(hm.keep rnodes_ok hs1 hd).get hil;rw[Ba.e,Am (by omega),Ay (show i<9223372036854775807 by omega)];cases b with
   | false=>rw[AC,ih (i+1) false (by omega)];rfl
   | true =>rw[Ax,Ad hil];simp only[ha',Af,By,ho2',Ab,Ai,e2'];rw[<- ha',ih (i+1) true (by omega),ih (i+1) false (by omega),Yi hil,List.all_cons,show (((p.chain[i].wait.length:Nat):Int)==0)=decide (p.chain[i].wait.length=0) by rw[Bool.eq_iff_iff,beq_iff_eq,decide_eq_true_eq];omega];cases decide (p.chain[i].wait.length=0)<;>rfl
 have one:∀ m i,m+i=4->∀ hh ax cx (lg:List Ver) Fx,RVers false hh [.sl 6 ax lg.length cx] lg Fx->Mv h F2 hh Fx->lg.length<=1000000+i->∃ a' c' h' F',
   Bb lo (i:Nat) p.me p.clock a1 p.chain.length c1 ax lg.length cx a3 p.got.length c3 p.fell 0 0 0 none 0 (some 0) 0 none 0 (some 0) 0 none 0 (some 0) false b1 (p.chain[p.chain.length - 1]'(by omega)).store.length d1 hh =
    Ba lo true 0 p.me p.clock a1 p.chain.length c1 a' (((p.chain[p.chain.length - 1]'(by omega)).store.drop i).foldl (noted p.me) lg).length c' a3 p.got.length c3 p.fell 0 0 0 none 0 (some 0) 0 none 0 (some 0) 0 none 0 (some 0) false h' /\
   RVers false h' [.sl 6 a' (((p.chain[p.chain.length - 1]'(by omega)).store.drop i).foldl (noted p.me) lg).length c'] (((p.chain[p.chain.length - 1]'(by omega)).store.drop i).foldl (noted p.me) lg) F'/\Mv h F2 h' F':=by
  intro m;induction m with
  | zero =>intro i hi hh ax cx lg Fx hr hm hlen;rw[Bb.e,Ao (by omega),YI (by omega)];exact ⟨ax,cx,hh,Fx,rfl,hr,hm⟩
  | succ m ih =>
   intro i hi hh ax cx lg Fx hr hm hlen;have hil:i<(p.chain[p.chain.length - 1]'(by omega)).store.length:=by omega
   have q1':=hm.keep rvers_ok q1 λy hy=>hd y (q3 y hy);obtain ⟨o',s',b',d',G',ha',_,_,_,_,_,_,_,ho',es',hp',_⟩:=RVers.all q1' hil;rw[Yi hil,YL];rw[Bb.e,Am (by omega),Ad hil];simp only[ha',Af,By,ho',Ab,Aa,es',Dw,Bd,Ai];rw[<- ha',Ay (show i<9223372036854775807 by omega),IC hr (by omega)];simp only[Ac,A2];have stay:=ih (i+1) (by omega) hh ax cx lg Fx hr hm (by omega);have hno:=@noted.eq_1 p.me lg ((p.chain[p.chain.length - 1]'(by omega)).store[i]'hil);cases g1:decide (((p.chain[p.chain.length - 1]'(by omega)).store[i]'hil).tag.time>0) with
   | false=>rw[AC,hno,g1];exact stay
   | true =>
   rw[Ax];cases g2:(((p.chain[p.chain.length - 1]'(by omega)).store[i]'hil).tag.place==p.me) with
   | false=>rw[AC,hno,g1,g2];exact stay
   | true =>
   rw[Ax];cases g3:Cv lg ((p.chain[p.chain.length - 1]'(by omega)).store[i]'hil).tag with
   | true=>rw[Ax,hno,g1,g2,g3];exact stay
   | false =>
   rw[AC,hno,g1,g2,g3];obtain ⟨a3',c3',h3,F3,e3,r3,m3⟩:=BQ (lo:=lo) (v:=((p.chain[p.chain.length - 1]'(by omega)).store[i]'hil)) hp' (XX hl hm.le) (hvn _ (X3 hil));obtain ⟨a5,c5,h5,F5,e5,r5,m5⟩:=Ek (lo:=lo) (bytes:=72) (e:=49) rver_ok hr (row:=((p.chain[p.chain.length - 1]'(by omega)).store[i]'hil).cs a3' c3') (x:=((p.chain[p.chain.length - 1]'(by omega)).store[i]'hil)) (G:=F3) (h1:=h3 ++ [.rows 6 49 false [((p.chain[p.chain.length - 1]'(by omega)).store[i]'hil).cs a3' c3']])
    ⟨_,rfl,Mv.snoc.keep0 rtags_ok r3⟩ (m3.trans (Mv.snoc' m3.nd)) hm.nd (λy hy=>hm.ge hl hlo y hy) (XX hl hm.le) (by decide) (by omega)
   rw[e3];simp only[Ac,AW,Ab,Aa,Ah,Dw,Bd,Ai,Bn];rw[e5];simp only[Ah];have:=ih (i+1) (by omega) h5 a5 c5 (lg ++ [((p.chain[p.chain.length - 1]'(by omega)).store[i]'hil)]) F5 (by rw[Yp];exact r5) (hm.trans m5) (by simp;omega);rw[Yp] at this;exact this
 obtain ⟨a',c',h',F',el,r,m⟩:=one 4 0 (by omega) h a2 c2 p.log F2 hs2 (Mv.refl hnd) (by omega);refine ⟨a',c',h',F',Nm ?_,?_,m⟩
 ·rw[Er ⟨by rw[wr (by omega) (by omega)];omega,by rw[wr (by omega) (by omega)];omega⟩,wr (by omega) (by omega),show ((p.chain.length:Int) - 1).toNat=p.chain.length - 1 by omega];simp only[ha,Af,ho1,Ab,e1,Ai];rw[<- ha];refine el.trans ?_;have:=two h' F' a' (((p.chain[p.chain.length - 1]'(by omega)).store.drop 0).foldl (noted p.me) p.log).length c' m p.chain.length 0 true (by omega);refine this.trans ?_;simp only[CJ,Place.cs,EP h0,YQ,Yn,Xz]
 ·simp only[CJ,EP h0];rw[YQ] at r;exact r
end


theorem Mv.store {h h':Heap}{F F':List Nat}{b:Nat} (m:Mv h F h' F') (hb:b<h.length) (hbF:b∉F) (X:Blk) :
  Mv h (b :: F) (h'.set b X) (b :: F')/\(h'.set b X)[b]?=some X/\(∀ y,y≠b->(h'.set b X)[y]?=h'[y]?)/\b∉F':=by
 have hbF':b∉F':=λhm=>by
  rcases m.sub b hm with g | g
  ·exact hbF g
  ·omega
 have hb':b<h'.length:=Yb hb m.le;refine ⟨⟨by simpa using m.le,λy hy hF=>?_,by rw[Yk];exact ⟨hbF',m.nd⟩,λy hy=>?_⟩,by simp[hb'],λy hy=>XZ (Ne.symm hy),hbF'⟩
 ·rw[Ye,not_or] at hF;rw[XZ (Ne.symm hF.1)];exact m.fr y hy hF.2
 ·rw[Ye] at hy;rcases hy with rfl | hy
  ·exact .inl (by simp)
  ·refine (m.sub y hy).imp (λg=>by simp[g]) λg=>by simpa using g
section
variable {lo:Nat}{ro:Bool}{h:Heap}{F F':List Nat}{a a':Pq}{c c':Nq}
end


variable {v:Ver}{l:List Ver}{x:Node}{p:Place}{nw:Nat}
def thin (v:Ver):Prop:=v.past.length<=4/\v.text.size<=8/\BE v.tag.time v.tag.place=true
def En (nw:Nat) (x:Node):Prop:=x.store.length=4/\x.wait.length<=nw/\(∀ v∈x.store,thin v)/\∀ v∈x.wait,thin v
structure Tidy (nc nw nl:Nat) (p:Place):Prop where
 len:p.chain.length<=nc
 node:∀ x∈p.chain,En nw x
 log:p.log.length<=nl/\∀ v∈p.log,thin v
 got:p.got.length<=3/\∀ l∈p.got,l.length<=nl/\∀ v∈l,thin v
theorem I8 (h:Cp v=true):thin v:=by obtain ⟨_,h2,_,h3,h4,_⟩:=Bt h;have:=D7 h2;have:=Ds h3;exact ⟨by omega,by omega,h4⟩
theorem Tq (h:Id v=true):thin v:=by rw[OI h];exact ⟨by simp,by show 0<=8;omega,rfl⟩
theorem SG {i:Nat} (h:HF i v=true):thin v:=(DW h).elim Tq λh=>I8 h.1
theorem FB {m:Int} (h:FT m l=true):l.length<=60/\∀ i (hi:i<l.length),Cp l[i]=true/\l[i].tag.place=m/\Cv (l.take i) l[i].tag=false:=by unfold FT at h;rw[C3,Ge,decide_eq_true_eq] at h;refine ⟨by omega,λi hi=>?_⟩;have:=h.1 i hi;simp only[UW,C3,beq_iff_eq,YR] at this;exact ⟨this.1.1,this.1.2,this.2⟩
theorem QD {m:Int} (h:FT m l=true):l.length<=60/\∀ v∈l,thin v:=by obtain ⟨h1,h2⟩:=FB h;refine ⟨h1,λv hv=>?_⟩;obtain ⟨i,hi,rfl⟩:=YH.1 hv;exact I8 (h2 i hi).1
theorem NY (h:DJ x=true):En 6 x:=by obtain ⟨h1,h2,h3⟩:=Bp h;refine ⟨Cq h1,h2,λv hv=>?_,λv hv=>I8 (h3 v hv)⟩;obtain ⟨i,hi,rfl⟩:=YH.1 hv;exact SG (D8 h1 hi)
theorem AE (h:Ap p=true):(0<=p.me/\p.me<=2)/\(0<=p.clock/\p.clock<=999)/\p.got.length=3/\Ey p.chain=true/\HZ p.chain=true/\FT p.me p.log=true /\
  (∀ i (hi:i<p.got.length),Mf p.me i p.got[i]=true)/\ET p.chain p.clock=true:=by
 unfold Ap at h;simp only[C3,Ge,decide_eq_true_eq,Ag] at h;obtain ⟨⟨⟨⟨⟨⟨⟨h1,h2⟩,h3⟩,h4⟩,h5⟩,h6⟩,h7⟩,h8⟩:=h;exact ⟨h1,h2,h3,h4,h5,h6,h7,h8⟩
theorem O8 (h:Ap p=true) {i:Nat} (hi:i<p.got.length):FT i p.got[i]=true:=by have:=(AE h).2.2.2.2.2.2.1 i hi;unfold Mf at this;rw[C3] at this;exact this.1
theorem CI (h:Ap p=true):Tidy 4 6 60 p:=by obtain ⟨_,_,h3,h4,_,h6,h7,_⟩:=AE h;obtain ⟨g1,g2⟩:=Dx h4;refine ⟨g1.2,λx hx=>NY (g2 x hx),QD h6,by omega,λl hl=>?_⟩;obtain ⟨i,hi,rfl⟩:=YH.1 hl;exact QD (O8 h hi)
theorem Lr {α:Type}{w:α->Nat}{c:Nat}:∀ {l:List α},(∀ v∈l,w v<=c)->UU w l<=c*l.length
 | [],_=>by simp[UU]
 | x :: l,h=>by have h1:=Lr (w:=w) (l:=l) λv hv=>h v (by simp[hv]);have h2:=h x (by simp);simp only[UU,Zi,List.sum_cons,YP,Nat.mul_add,Nat.mul_one] at h1 ⊢;omega
theorem WW (h:thin v):WU v<=13:=by have:=h.1;unfold WU;rw[SO];omega
theorem Lo (hl:l.length<=1048576) (h:∀ v∈l,thin v):EL l:=⟨hl,λv hv=>by have:=h v hv;exact ⟨by have:=this.1;omega,by have:=this.2.1;omega⟩⟩
theorem Lm (h:∀ v∈l,thin v):PX l<=13*l.length:=Lr λv hv=>WW (h v hv)
theorem V6 (h:En nw x) (hw:nw<=100):EL x.store/\EL x.wait:=by obtain ⟨h1,h2,h3,h4⟩:=h;exact ⟨Lo (by omega) h3,Lo (by omega) h4⟩
theorem WZ (h:En nw x) (hw:nw<=100):Up x<=1352:=by obtain ⟨h1,h2,h3,h4⟩:=h;have:=Lm h3;have:=Lm h4;unfold Up;omega
theorem PY {nc nl:Nat} (h:Tidy nc nw nl p) (h1:nc<=100) (h2:nw<=100):Gk p.chain:=⟨by have:=h.len;omega,λx hx=>V6 (h.node x hx) h2⟩
theorem E8 {nc nl:Nat} (h:Tidy nc nw nl p) (h1:nc<=100) (h2:nw<=100) (h3:nl<=1000):Hb p/\(1:Int)+Un p<=XU:=by
 have g1:=h.len;have g2:=h.log.1;have g3:=h.got.1;refine ⟨⟨PY h h1 h2,Lo (by omega) h.log.2,by omega,λl hl=>Lo (by have:=(h.got.2 l hl).1;omega) (h.got.2 l hl).2⟩,?_⟩;have e1:Uo p.chain<=1352*p.chain.length:=Lr λx hx=>WZ (h.node x hx) h2;have e2:=Lm h.log.2;have e3:Xp p.got<=13000*p.got.length:=Lr λl hl=>by have:=Lm (h.got.2 l hl).2;have:=(h.got.2 l hl).1;omega
 simp only[Un,XU];omega
theorem PZ {nc nl k:Nat}{t:Int} (h:Tidy nc nw nl p) (hv:thin v):Tidy nc (nw+1) nl ⟨p.me,t,Gh p.chain k v,p.log,p.got,p.fell⟩:=by
 have hx:∀ x,x∈p.chain->En (nw+1) x:=λx hx=>by obtain ⟨g1,g2,g3⟩:=h.node x hx;exact ⟨g1,by omega,g3⟩
 have key:(Gh p.chain k v).length<=nc/\∀ x∈Gh p.chain k v,En (nw+1) x:=by
  unfold Gh;split
  ·rename_i x hk
   split
   ·rename_i u hu
    cases AQ u v with
    | false=>exact ⟨h.len,hx⟩
    | true =>
     rw[cond_true];refine ⟨by simpa using h.len,λy hy=>?_⟩;rcases Yo hy with hy | rfl
     ·exact hx y hy
     ·obtain ⟨g1,g2,g3,g4⟩:=h.node x (X8 hk);refine ⟨by simpa using g1,?_,λw hw=>?_,?_⟩
      ·cases decide (k+1<p.chain.length)
       ·show x.wait.length<=nw+1;omega
       ·show (x.wait ++ [v]).length<=nw+1;simp;omega
      ·rcases Yo hw with hw | rfl
       ·exact g3 w hw
       ·exact hv
      ·cases decide (k+1<p.chain.length)
       ·exact g4
       ·intro w hw;rcases X0.1 hw with hw | hw
        ·exact g4 w hw
        ·rw[Yj] at hw;subst hw;exact hv
   ·exact ⟨h.len,hx⟩
  ·exact ⟨h.len,hx⟩
 exact ⟨key.1,key.2,h.log,h.got⟩
theorem L5 {l:List Node} (h0:0<l.length):∃ x∈l,DK l=x.store:=⟨_,X3 (show l.length - 1<l.length by omega),EP h0⟩


variable {l:List Node}{p:Place}{v:Ver}
def Gq (s:List Ver) (v:Ver):Bool:=match s[v.key.toNat]? with
 | some u=>AQ u v
 | none=>false
def Et (l:List Node):List Ver:=match l[0]? with
 | some x=>x.store
 | none => []
def Fi (l:List Node) (k:Nat):Bool:=match l[k]? with
 | some x=>decide (x.wait.length<6)
 | none=>false
def HD (p:Place) (f:Nat):List Ver:=match p.got[f]? with
 | some l=>l
 | none => []
def Hn (p:Place) (f:Nat):Option Ver:=(HD p f).find? (Gq (Et p.chain))
def Gg (p:Place) (k:Nat) (t:Int) (v:Ver):Place:=⟨p.me,t,Gh p.chain k v,p.log,p.got,p.fell⟩
theorem Md (h0:0<l.length):Et l=l[0].store:=by unfold Et;rw[CX h0]
theorem He {k:Nat} (hk:k<l.length):Fi l k=decide (l[k].wait.length<6):=by unfold Fi;rw[CX hk]
theorem GS {f:Nat} (hf:f<p.got.length):HD p f=p.got[f]:=by unfold HD;rw[CX hf]
theorem QF {s:List Ver} (h:v.key.toNat<s.length):Gq s v=AQ s[v.key.toNat] v:=by unfold Gq;rw[CX h]
theorem JA {α:Type}{p:α->Bool}:∀ {l:List α}{k:Nat},(∃ i,∃ hi:i<l.length,CU p l k=((k+i:Nat):Int)/\l.find? p=some l[i])\/(CU p l k = -1/\l.find? p=none)
 | [],k => .inr ⟨rfl,rfl⟩
 | x :: l,k=>by
  simp only[CU,List.find?_cons];cases hp:p x with
  | true=>exact .inl ⟨0,by simp,by simp,by simp⟩
  | false =>
   rw[cond_false];rcases JA (p:=p) (l:=l) (k:=k+1) with ⟨i,hi,h1,h2⟩ | h
   ·exact .inl ⟨i+1,by simpa using hi,by rw[h1];congr 1;omega,by simpa using h2⟩
   ·exact .inr h
theorem Ia {k:Nat}:(Gh l k v).length=l.length:=by
 unfold Gh;split
 ·split
  ·cases AQ _ v<;>simp
  ·rfl
 ·rfl
section
variable {lo:Nat}{ro:Bool}{h:Heap}{F F':List Nat}{a a':Pq}{c c':Nq}
theorem KC (hs:RNodes ro h [.sl 2 a l.length c] l F) (h0:0<l.length):Ae lo 198 [.agg [.sl 2 a l.length c]] h=some (.bool (Fi l 0),h):=by
 refine Nr (h':=h) ?_;obtain ⟨o,s1,s2,b1,d1,b2,d2,G1,G2,ha,_,_,ho2,_,e2,_⟩:=hs.get h0;rw[He h0,show (0:Int)=((0:Nat):Int) from rfl,Ad h0];simp only[ha,Af,By,ho2,Ab,e2,Ai];by_cases hw:l[0].wait.length<6
 ·rw[Am (by omega),decide_eq_true hw]
 ·rw[Ao (by omega),decide_eq_false hw]
theorem Je {f:Nat}{a1 a2 a3:Pq}{c1 c2 c3:Nq}{F1 F3:List Nat} (hs1:RNodes ro h [.sl 2 a1 p.chain.length c1] p.chain F1) (hs3:RVss ro h [.sl 1 a3 p.got.length c3] p.got F3)
  (h0:0<p.chain.length) (hf:f<p.got.length) (hk:∀ v∈p.got[f],0<=v.key/\v.key<(Et p.chain).length) (hn:p.got[f].length<=1048576) :
  Ae lo 197 [.agg (p.cs a1 c1 a2 c2 a3 c3),Iv (f:Nat)] h=some (Iv (CU (Gq (Et p.chain)) p.got[f] 0),h):=by
 refine MH (h':=h) ?_;obtain ⟨o,s1,s2,b1,d1,b2,d2,G1,G2,ha,_,ho1,_,e1,_,q1,_⟩:=hs1.get h0;obtain ⟨o3,s3,b3,d3,G3,ha3,ho3,e3,q3,_⟩:=hs3.get hf;rw[Md h0] at *
 rw[show (0:Int)=((0:Nat):Int) from rfl,Ad h0];simp only[ha,Af,By,ho1,Ab,e1,Ai];have loop:∀ m i,m+i=p.got[f].length->BL (List.length h) (f:Nat) ((0:Nat):Int) (i:Nat) p.me p.clock a1 p.chain.length c1 a2 p.log.length c2 a3 p.got.length c3 p.fell b1 p.chain[0].store.length d1 h=some (Iv (CU (Gq p.chain[0].store) (p.got[f].drop i) i),h):=by
  intro m;induction m with
  | zero =>intro i hi;rw[BL.e,Ad hf];simp only[ha3,Af,By,ho3,Ab,e3,Ai];rw[Ao (by omega),YI (by omega)];rfl
  | succ m ih =>
   intro i hi;have hil:i<p.got[f].length:=by omega
   have hky:=hk _ (X3 hil);have hkl:p.got[f][i].key.toNat<p.chain[0].store.length:=by omega
   obtain ⟨o4,s4,b4,d4,G4,ha4,ho4,e4,q4,_⟩:=q3.get hil;obtain ⟨o5,s5,b5,d5,G5,ha5,_,_,_,_,_,_,ho512,_⟩:=RVers.all q1 hkl;rw[BL.e,Ad hf];simp only[ha3,Af,By,ho3,Ab,e3,Ai];rw[Am (by omega),Ad hf,Ad hil];simp only[ha4,Af,By,ho4,Ab,Aa,e4,Dw,Bd,Ai];rw[Er ⟨by omega,by omega⟩];simp only[ha5,Af,ho512,Ab,Aa,Ai,Bj,Ac,A2];rw[<- ha3,<- ha5,Ay (show i<9223372036854775807 by omega),ih (i+1) (by omega),Yi hil];simp only[CU];rw[QF hkl];unfold AQ;cases Fz _ _ _ _<;>rfl
 have:=loop _ 0 rfl;rw[YQ] at this;rw[<- ha];exact this
theorem Jf {k:Nat}{t:Int}{a1 a2 a3 av:Pq}{c1 c2 c3 cv:Nq}{F1 F2 G:List Nat} (hs1:RNodes false h [.sl 2 a1 p.chain.length c1] p.chain F1) (hs2:RVers false h [.sl 6 a2 p.log.length c2] p.log F2)
  (hv:RTags false h [.sl 2 av v.past.length cv] v.past G) (hvd:∀ b∈G,b∉F1) (hnd:(F1++F2).Nodup) (hlo:∀ b∈F1++F2,lo<=b) (hl:lo<=h.length) (hk:k<p.chain.length) (hkey:0<=v.key/\v.key<=3)
  (ht:Tidy 10 20 100 p) (hvt:thin v) :
  ∃ h2 a2' c2' h3 F1' F2',Ae lo 193 [.agg [.sl 2 a1 p.chain.length c1],Iv k,.agg (v.cs av cv)] h=some (.agg [.sl 2 a1 p.chain.length c1],h2) /\
   Ae lo 161 [.agg ((Gg p k t v).cs a1 c1 a2 c2 a3 c3)] h2=some (.agg ((CJ (Gg p k t v)).cs a1 c1 a2' c2' a3 c3),h3) /\
   RNodes false h3 [.sl 2 a1 (CJ (Gg p k t v)).chain.length c1] (CJ (Gg p k t v)).chain F1'/\RVers false h3 [.sl 6 a2' (CJ (Gg p k t v)).log.length c2'] (CJ (Gg p k t v)).log F2'/\Mv h (F1++F2) h3 (F1'++F2'):=by
 have ta:=PZ (k:=k) (t:=t) ht hvt;have hn:=PY ht (by decide) (by decide);have hsto:=(ht.node _ (X3 hk)).1;have hnd':=hnd;rw[X4] at hnd';obtain ⟨h2,F1',e2,r2,m2⟩:=LK (lo:=lo) hs1 hv hvd hnd'.1 (λb hb=>hlo b (by simp[hb])) hl hk ⟨hkey.1,by omega⟩ hn (by have:=hvt.1;omega);rw[<- Ia (k:=k) (v:=v)] at r2;have b2:∀ y∈F2,y<h.length:=rvers_ok.bd _ _ _ _ hs2;have m3:=m2.aside (G:=F2) hnd b2;have hs2':=m2.keep rvers_ok hs2 λy hy hm=>hnd'.2.2 y hm y hy rfl;have nd3:=m3.nd;rw[X4] at nd3;have h0:0<(Gg p k t v).chain.length:=by show 0<(Gh p.chain k v).length;rw[Ia];omega
 obtain ⟨x,hx,hxe⟩:=L5 h0;have hxn:=ta.node x hx;have hl2:=m2.le;obtain ⟨a2',c2',h3,F2',e3,r3,m4⟩:=KA (lo:=lo) (p:=Gg p k t v) (a3:=a3) (c3:=c3) r2 hs2' h0 (by rw[hxe];exact hxn.1) (λy hy hy2=>nd3.2.2 y hy y hy2 rfl) hnd'.2.1 (λb hb=>hlo b (by simp[hb])) (by omega) (XX ta.len (by decide)) (XX ta.log.1 (by decide))
  (λw hw=>by rw[hxe] at hw;have:=(hxn.2.2.1 w hw).1;omega)
 have r2':=m4.keep rnodes_ok r2 λy hy hy2=>nd3.2.2 y hy y hy2 rfl;have b1:∀ y∈F1',y<h2.length:=rnodes_ok.bd _ _ _ _ r2;have m5:=(m4.aside (G:=F1') (by rw[X4];exact ⟨nd3.2.1,nd3.1,λx hx y hy e=>nd3.2.2 y hy x hx e.symm⟩) b1).swap;exact ⟨h2,a2',c2',h3,F1',F2',e2,e3,r2',r3,m3.trans m5⟩
end


def EG (t c:Int):Int:=if t>c then t else c
section
variable {lo:Nat}{ro:Bool}{h:Heap}{F F':List Nat}{a a':Pq}{c c':Nq}
end


variable {p:Place}
def I9 (p:Place) (f:Nat):Bool:=match Hn p f with
 | some v=>Fi p.chain 0&&Ci v.past (Bh p.chain)
 | none=>false
def Dj (p:Place) (f:Int):Bool:=Ag f 0 2&&I9 p f.toNat
def Ja (p:Place) (f:Nat):Place:=match Hn p f with
 | some v=>CJ (Gg p 0 (EG v.tag.time p.clock) v)
 | none=>p
def DR (p:Place) (f:Int):Place:=bif Dj p f then Ja p f.toNat else p
theorem Lt (h:Ap p=true) {f:Nat} (hf:f<p.got.length) {v:Ver} (hv:v∈p.got[f]):Cp v=true:=by obtain ⟨_,h2⟩:=FB (O8 h hf);obtain ⟨i,hi,rfl⟩:=YH.1 hv;exact (h2 i hi).1
theorem QN (h:Ap p=true):(Et p.chain).length=4:=by have h0:=EU h;rw[Md h0];exact Cq (Bp ((Dx (AE h).2.2.2.1).2 _ (X3 h0))).1
theorem L6 {f:Nat} (hf:f<p.got.length):(∃ i,∃ hi:i<p.got[f].length,CU (Gq (Et p.chain)) p.got[f] 0=(i:Int)/\Hn p f=some p.got[f][i])\/(CU (Gq (Et p.chain)) p.got[f] 0 = -1/\Hn p f=none):=by
 unfold Hn;rw[GS hf];rcases JA (p:=Gq (Et p.chain)) (l:=p.got[f]) (k:=0) with ⟨i,hi,h1,h2⟩ | h
 ·exact .inl ⟨i,hi,by rw[h1,Yw],h2⟩
 ·exact .inr h
theorem UQ {t c:Int} (h:decide (t>c)=true):EG t c=t:=by unfold EG;rw[if_pos (of_decide_eq_true h)]
theorem US {t c:Int} (h:decide (t>c)=false):EG t c=c:=by unfold EG;rw[if_neg (of_decide_eq_false h)]
section
variable {lo:Nat}{h:Heap}{F F':List Nat}{a a':Pq}{c c':Nq}
theorem LI {f:Nat}{a1 a2 a3:Pq}{c1 c2 c3:Nq}{F1 F3:List Nat} (hs1:RNodes false h [.sl 2 a1 p.chain.length c1] p.chain F1) (hs3:RVss false h [.sl 1 a3 p.got.length c3] p.got F3)
  (hok:Ap p=true) (hf:f<p.got.length) (hn:Hb p):Ae lo 165 [.agg (p.cs a1 c1 a2 c2 a3 c3),Iv (f:Nat)] h=some (.bool (I9 p f),h):=by
 have h0:=EU hok;have hchain:=(AE hok).2.2.2.1;have hhl:=QN hok;have hky:∀ v∈p.got[f],0<=v.key/\v.key<(Et p.chain).length:=λv hv=>by have:=(Bt (Lt hok hf hv)).1;omega
 have hgn:p.got[f].length<=1048576:=(hn.2.2.2 _ (X3 hf)).1;suffices hq:∃ h',_=some (V.bool (I9 p f),h') from by obtain ⟨h',e⟩:=hq;exact Kn e
 rw[Je hs1 hs3 h0 hf hky hgn];simp only[Ac,Aa];unfold I9;rcases L6 hf with ⟨i,hi,e1,e2⟩ | ⟨e1,e2⟩
 ·rw[e1,e2,Am (by omega),KC hs1 h0];simp only[Ac,A2];cases hr:Fi p.chain 0 with
  | false=>exact ⟨h,rfl⟩
  | true =>
   obtain ⟨o3,s3,b3,d3,G3,ha3,ho3,e3,q3,_⟩:=hs3.get hf;obtain ⟨o4,s4,b4,d4,G4,ha4,_,_,_,ho43,_,_,_,_,e4,q4,_⟩:=q3.all hi;obtain ⟨v5,h5,F5,e5,r5,m5⟩:=ID (lo:=h.length) hs1 (X1 _) hn.1 h0;obtain ⟨a6,c6,e6,r6⟩:=r5.form;rw[Ax,Ad hf];simp only[ha3,Af,By,ho3,Ab,e3,Ai];rw[Ad hi];simp only[ha4,Af,By,ho43,Ab,e4,Ai];rw[e5];simp only[Ac,AW,Ab,e6,Ai];rw[GE (m5.keep0 rtags_ok q4) r6 (Ds (Bt (Lt hok hf (X3 hi))).2.2.2.1) (LE hchain)];simp only[Ac,A2];cases Ci p.got[f][i].past (Bh p.chain)
   ·exact ⟨h5,rfl⟩
   ·exact ⟨h5,rfl⟩
 ·rw[e1,e2,Ao (by omega)];exact ⟨h,rfl⟩
theorem P7 {f:Nat}{a1 a2 a3:Pq}{c1 c2 c3:Nq}{F1 F2 F3:List Nat} (hs1:RNodes false h [.sl 2 a1 p.chain.length c1] p.chain F1) (hs2:RVers false h [.sl 6 a2 p.log.length c2] p.log F2) (hs3:RVss false h [.sl 1 a3 p.got.length c3] p.got F3)
  (hok:Ap p=true) (hf:f<p.got.length) (hn:Hb p) (ht:I9 p f=true) (hnd:(F1++(F2++F3)).Nodup) (hlo:∀ b∈F1++(F2++F3),lo<=b) (hl:lo<=h.length) :
  ∃ a2' c2' h' F',Ae lo 166 [.agg (p.cs a1 c1 a2 c2 a3 c3),Iv (f:Nat)] h=some (.agg ((Ja p f).cs a1 c1 a2' c2' a3 c3),h')/\JK false h' ((Ja p f).cs a1 c1 a2' c2' a3 c3) (Ja p f) F'/\Mv h (F1++(F2++F3)) h' F':=by
 have h0:=EU hok;have hhl:=QN hok;have hky:∀ v∈p.got[f],0<=v.key/\v.key<(Et p.chain).length:=λv hv=>by have:=(Bt (Lt hok hf hv)).1;omega
 have hgn:p.got[f].length<=1048576:=(hn.2.2.2 _ (X3 hf)).1;have hti:=CI hok;have hti':Tidy 10 20 100 p:=⟨XX hti.len (by decide),λx hx=>by have:=hti.node x hx;exact ⟨this.1,XX this.2.1 (by decide),this.2.2⟩,⟨XX hti.log.1 (by decide),hti.log.2⟩,hti.got.1,λl hl=>⟨XX (hti.got.2 l hl).1 (by decide),(hti.got.2 l hl).2⟩⟩;unfold I9 at ht;unfold Ja;rcases L6 hf with ⟨i,hi,e1,e2⟩ | ⟨e1,e2⟩
 ·rw[e2];simp only;have hv:=Lt hok hf (X3 hi);obtain ⟨o3,s3,b3,d3,G3,ha3,ho3,e3,q3,hG3⟩:=hs3.get hf;obtain ⟨o4,s4,b4,d4,G4,ha4,ho4,e4,q4,hG4⟩:=q3.get hi;rw[<- Yd] at hnd hlo;have hnd':=hnd;rw[X4] at hnd';have hdis:∀ y∈F3,y∉F1++F2:=λy hy hm=>hnd'.2.2 y hm y hy rfl;obtain ⟨h2,a2',c2',h3,F1',F2',e5,e6,r1,r2,m⟩:=Jf (lo:=lo) (v:=p.got[f][i]) (k:=0) (t:=EG p.got[f][i].tag.time p.clock) (a3:=a3) (c3:=c3) hs1 hs2 q4 (λy hy hm=>hdis y (hG3 y (hG4 y hy)) (by simp[hm])) hnd'.1 (λy hy=>hlo y (by rw[X0];exact .inl hy)) hl h0 ((Bt hv).1) hti' (I8 hv);have b3':∀ y∈F3,y<h.length:=rvss_ok.bd _ _ _ _ hs3;have m':=m.aside (G:=F3) hnd b3';have hs3':=m.keep rvss_ok hs3 hdis;have hcs:∀ t,(Gg p 0 t p.got[f][i]).cs a1 c1 a2 c2 a3 c3 = [Iv p.me,Iv t,.sl 2 a1 p.chain.length c1,.sl 6 a2 p.log.length c2,.sl 1 a3 p.got.length c3,.bool p.fell]:=λt=>by simp only[Place.cs,Gg,Ia]
  rw[hcs] at e6;rw[<- Yd];refine ⟨a2',c2',h3,F1'++F2'++F3,Nl ?_,⟨_,_,_,_,_,_,rfl,_,_,_,F1',F2',F3,rfl,by rw[Yd],r1,r2,hs3'⟩,m'⟩;rw[Ad hf];simp only[ha3,Af,By,ho3,Ab,e3,Ai];rw[<- ha3];have:=Je (lo:=h.length) (a2:=a2) (c2:=c2) hs1 hs3 h0 hf hky hgn;simp only[Place.cs] at this;rw[this,e1];simp only[Ac,Aa];rw[Ad hi];simp only[ha4,Af,By,ho4,Ab,Aa,e4,Dw,Bd,Ai];cases hd:decide (p.got[f][i].tag.time>p.clock)
  ·rw[US hd] at e6 ⊢;rw[AC];rw[show (0:Int)=((0:Nat):Int) from rfl] at *
   simp only[Ver.cs] at e5;rw[e5];simp only[Ac,AW,Ab,Ah,Ai];rw[e6];simp only[Ac,Place.cs,AW,Ab,Aa,Ah,Bd,Ai]
  ·rw[UQ hd] at e6 ⊢;rw[Ax];rw[show (0:Int)=((0:Nat):Int) from rfl] at *
   simp only[Ver.cs] at e5;rw[e5];simp only[Ac,AW,Ab,Ah,Ai];rw[e6];simp only[Ac,Place.cs,AW,Ab,Aa,Ah,Bd,Ai]
 ·rw[e2] at ht;cases ht
end


theorem Rr {p:Place} (h:Ap p=true):Tidy 10 20 100 p:=by have hti:=CI h;exact ⟨XX hti.len (by decide),λx hx=>by have:=hti.node x hx;exact ⟨this.1,XX this.2.1 (by decide),this.2.2⟩,⟨XX hti.log.1 (by decide),hti.log.2⟩,hti.got.1,λl hl=>⟨XX (hti.got.2 l hl).1 (by decide),(hti.got.2 l hl).2⟩⟩
section
variable {lo:Nat}{h:Heap}{F F':List Nat}{a a':Pq}{c c':Nq}
end


theorem EAll.mono {α:Type}{A B:Rel α}{h:Heap} (hAB:∀ row x F,A h row x F->B h row x F):∀ {rows:List (List V)}{l:List α}{Fs:List (List Nat)},EAll A h rows l Fs->EAll B h rows l Fs
 | [],[],[],_=>trivial
 | _ :: _,_ :: _,_ :: _,⟨h1,h2⟩=>⟨hAB _ _ _ h1,EAll.mono hAB h2⟩
 | [],[],_ :: _,h=>h.elim
 | [],_ :: _,_,h=>h.elim
 | _ :: _,[],_,h=>h.elim
 | _ :: _,_ :: _,[],h=>h.elim
theorem Sli.mono {α:Type}{A B:Rel α}{h:Heap}{R e:Nat}{cs:List V}{l:List α}{F:List Nat} (hAB:∀ row x F,A h row x F->B h row x F) (hs:Sli false R e A h cs l F):Sli false R e B h cs l F:=by
 obtain ⟨R',a,c,e1,g⟩:=hs;refine ⟨R',a,c,e1,?_⟩;cases a with
 | none=>exact g
 | some p =>obtain ⟨b,i⟩:=p;obtain ⟨g0,rs,Fs,g1,g2,g3,g4,g5,g6⟩:=g;exact ⟨g0,rs,Fs,g1,g2,g3,g4,g5.mono hAB,g6⟩
def Xi:Rel Node:=λh row x F=>RNode false h row x F/\∃ s a n k,row = [s,.sl 6 a n (some k)]
abbrev RNodesC:Rel (List Node):=Sli false 2 (Oy false) Xi
theorem RNodesC.up {h:Heap}{cs:List V}{l:List Node}{F:List Nat} (hs:RNodesC h cs l F):RNodes false h cs l F:=Sli.mono (λ_ _ _ h=>h.1) hs
section
variable {lo:Nat}{h:Heap}{F F' G:List Nat}{a a' av:Pq}{c c' cv:Nq}
end


variable {Fs:List (List Nat)}
theorem EAll.erase {α:Type}{El:Rel α}{h:Heap}:∀ {rows:List (List V)}{l:List α}{Fs:List (List Nat)},EAll El h rows l Fs->∀ (k:Nat),EAll El h (rows.eraseIdx k) (l.eraseIdx k) (Fs.eraseIdx k)
 | [],[],[],_,k=>by simp[EAll]
 | _ :: _,_ :: _,_ :: _,⟨_,h2⟩,0=>h2
 | _ :: _,_ :: _,_ :: _,⟨h1,h2⟩,k+1=>⟨h1,h2.erase k⟩
 | [],[],_ :: _,h,_=>h.elim
 | [],_ :: _,_,h,_=>h.elim
 | _ :: _,[],_,h,_=>h.elim
 | _ :: _,_ :: _,[],h,_=>h.elim
theorem IK {k:Nat}{Fk:List Nat} (hk:Fs[k]?=some Fk) (hnd:Fs.flatten.Nodup):(Fs.eraseIdx k).flatten.Nodup/\(∀ y∈(Fs.eraseIdx k).flatten,y∈Fs.flatten/\y∉Fk):=by
 induction Fs generalizing k with
 | nil=>simp at hk
 | cons F Fs ih =>
  rw[Ym,X4] at hnd;obtain ⟨n1,n2,n3⟩:=hnd;cases k with
  | zero =>simp at hk;subst hk;rw[List.eraseIdx_cons_zero];exact ⟨n2,λy hy=>⟨by simp only[Ym,X0];exact .inr hy,λhm=>n3 y hm y hy rfl⟩⟩
  | succ k =>
   obtain ⟨g1,g2⟩:=ih (k:=k) (by simpa using hk) n2;rw[List.eraseIdx_cons_succ,Ym,X4];refine ⟨⟨n1,g1,λx hx y hy=>n3 x hx y (g2 y hy).1⟩,λy hy=>?_⟩;rcases X0.1 hy with hy | hy
   ·refine ⟨by simp only[Ym,X0];exact .inl hy,λhm=>?_⟩;exact n3 y hy y (Hl (by simpa using hk) hm) rfl
   ·exact ⟨by simp only[Ym,X0];exact .inr (g2 y hy).1,(g2 y hy).2⟩


variable {l:List Node}
def Gb (l:List Node) (k:Nat):List Node:=match l[k]? with
 | some x=>l.set k ⟨x.store,x.wait.eraseIdx 0⟩
 | none=>l
def RR (l:List Node) (k:Nat):Bool:=match l[k]? with
 | some x=>decide (0<x.wait.length)&&Fi l (k+1)
 | none=>false
def CB (l:List Node) (k:Int):Bool:=Ag k 0 ((l.length:Int) - 2)&&RR l k.toNat
def FM (l:List Node) (k:Nat):List Node:=match l[k]? with
 | some x=>match x.wait[0]? with
  | some v=>Gh (Gb l k) (k+1) v
  | none=>l
 | none=>l
theorem Kh {k:Nat} (hk:k<l.length):Gb l k=l.set k ⟨l[k].store,l[k].wait.eraseIdx 0⟩:=by unfold Gb;rw[CX hk]
theorem Kg {k:Nat}:(Gb l k).length=l.length:=by unfold Gb;split<;>simp
theorem IQ {k:Nat} (hk:k<l.length):RR l k=(decide (0<l[k].wait.length)&&Fi l (k+1)):=by unfold RR;rw[CX hk]
theorem TE {k:Nat} (hk:k<l.length) (h0:0<l[k].wait.length):FM l k=Gh (Gb l k) (k+1) (l[k].wait[0]'h0):=by unfold FM;rw[CX hk];simp only;rw[CX h0]
theorem Sli.at2 {α:Type}{El:Rel α} (ok:El.Ok) {h:Heap}{R R' e n k lo:Nat}{a:Pq}{c:Nq}{l:List α}{F:List Nat} (hs:Sli false R e El h [.sl R' a n c] l F) (hk:k<l.length) (hnd:F.Nodup) (hlo:∀ b∈F,lo<=b) :
  ∃ b i rs row G,a=some (b,i)/\b∈F/\b∉G/\h[b]?=some (.rows R e false rs)/\rs[i+k]?=some row/\El h row l[k] G/\(∀ y∈G,y∈F)/\G.Nodup /\
   (∀ h1 G1 j cs row' x',Mv h G h1 G1->paste row j cs=some row'->El h1 row' x' G1 ->
    ∃ h2 F',st lo h1 b (i+k) j cs=some h2/\Sli false R e El h2 [.sl R' a n c] (l.set k x') F'/\Mv h F h2 F'/\(∀ y,y≠b->h2[y]?=h1[y]?)/\∀ y∈F',(y∈F/\y∉G)\/y∈G1):=by
 have hbd:=(Sli.ok ok).bd _ _ _ _ hs;obtain ⟨b,i,rs,row,G,ha,hbF,hbG,hb,hrow,hel,hGF,hGn,put⟩:=hs.put ok.fr hk hnd;have hblt:b<h.length:=hbd b hbF;refine ⟨b,i,rs,row,G,ha,hbF,hbG,hb,hrow,hel,hGF,hGn,λh1 G1 j cs row' x' m hp hx=>?_⟩;have hbG1:b∉G1:=λhm=>by
  rcases m.sub b hm with h1 | h1
  ·exact hbG h1
  ·omega
 have hb1:h1[b]?=some (.rows R e false rs):=by rw[m.fr b hblt hbG];exact hb
 have hb1lt:b<h1.length:=Yb hblt m.le;have e2:=Eh hb1 (hlo b hbF) hrow hp;have fr2:∀ y,y≠b->(h1.set b (.rows R e false (rs.set (i+k) row')))[y]?=h1[y]?:=λy hy=>XZ (Ne.symm hy);obtain ⟨F',p1,p2,p3,_⟩:=put (h1.set b (.rows R e false (rs.set (i+k) row'))) row' x' G1 (by simp[hb1lt]) (λy hy hyb hyG=>by rw[fr2 y hyb];exact m.fr y (hbd y hy) hyG)
  (ok.fr _ _ _ _ _ hx λy hy=>fr2 y λe=>hbG1 (e ▸ hy)) m.nd (λy hy hyF=>by
  rcases m.sub y hy with h1 | h1
  ·exact h1
  ·have:=hbd y hyF;omega)
 refine ⟨_,F',e2,p1,⟨by simpa using m.le,λy hy hyF=>?_,p3,λy hy=>?_⟩,fr2,p2⟩
 ·rw[fr2 y λe=>hyF (e ▸ hbF)];exact m.fr y hy λhg=>hyF (hGF y hg)
 ·rcases p2 y hy with h1 | h1
  ·exact .inl h1.1
  ·refine (m.sub y h1).imp (hGF y) λh=>by simpa using h
section
variable {lo:Nat}{ro:Bool}{h:Heap}{F F' G:List Nat}{a a' av:Pq}{c c' cv:Nq}
theorem Uv {l:List Ver} (hs:RVers false h [.sl 6 a l.length c] l F) (h0:0<l.length) (hnd:F.Nodup) (hl:lo<=h.length) (hn:l.length<=1048576) :
  ∃ o s av cv Gv,a=some o/\ld h o.1 (o.2+0) 0 6=some [Iv l[0].key,Iv l[0].tag.time,Iv l[0].tag.place,s,.str l[0].text,.bool l[0].gone]/\(∀ {T:Type} (K:Pq->Nat->Nq->Option T),eS 2 s K=K av l[0].past.length cv)/\RTags false h [.sl 2 av l[0].past.length cv] l[0].past Gv /\
   ∃ a' c' h' F',(∀ {T:Type} (K:V->Heap->Option T),(AB a l.length c (some (Iv 1)) none none λa n c=>Aj 6 (h ++ [.rows 6 49 false []]) (.sl 6 a n c) λxs=>CC lo 49 6 72 (.sl 6 (some (h.length,0)) 0 (some 0)) xs (h ++ [.rows 6 49 false []]) K)=K (.sl 6 a' (l.eraseIdx 0).length c') h') /\
    RVers false h' [.sl 6 a' (l.eraseIdx 0).length c'] (l.eraseIdx 0) F'/\Mv h F h' F'/\(∀ y∈Gv,y∉F'/\y∈F)/\∀ y,y<h.length->h'[y]?=h[y]?:=by
 have hbd:=rvers_ok.bd _ _ _ _ hs;obtain ⟨R1,a1,c1,e1,g⟩:=hs;injection e1 with e1 _;injection e1 with e0 e2 _ e3;subst e2;subst e3;cases a with
 | none=>obtain ⟨rfl,_⟩:=g;simp at h0
 | some p =>
 obtain ⟨b,i⟩:=p;obtain ⟨_,rs,Fs,g1,g2,g3,_,g5,rfl⟩:=g;obtain ⟨row,Fk,hrow,hFk,hel⟩:=g5.get (CX h0);rw[Yk] at hnd;obtain ⟨f1,f2⟩:=IK hFk hnd.2;have hri:rs[i]?=some row:=by rw[YV,if_pos h0,Yu] at hrow;exact hrow
 obtain ⟨s,av,cv,rfl,es,hp⟩:=hel.form;have hil:i<rs.length:=by omega
 have hcut:((rs.drop i).take l.length).eraseIdx 0=(rs.drop (i+1)).take (l.length - 1):=by rw[Yi hil,show l.length=(l.length - 1)+1 by omega,List.take_succ_cons,List.eraseIdx_cons_zero];simp
 have g6:=g5.erase 0;rw[hcut] at g6;have hlen:=YS h0;generalize hxs:(rs.drop (i+1)).take (l.length - 1)=xs at g6;have hxl:xs.length=l.length - 1:=by rw[<- hlen];exact g6.len.1
 have m0:Mv h [] (h ++ [.rows 6 49 false []]) [h.length]:=Mv.last;have hb1:(h ++ [.rows 6 49 false []])[b]?=some (.rows 6 (Si false) false rs):=by rw[m0.fr b (hbd b (by simp)) (by simp)];exact g1
 have s3:∀ {T:Type} (K:List (List V)->Option T),(AB (some (b,i)) l.length c (some (Iv 1)) none none λa6 n7 c8=>Aj 6 (h ++ [.rows 6 49 false []]) (.sl 6 a6 n7 c8) K)=K xs:=λK=>by
  unfold AB FK Ix Jg;simp only[Aa,Zj];rw[DZ ⟨by omega,by omega⟩,show ((1:Int)).toNat=1 from rfl];have key:∀ c8:Nq,Aj 6 (h ++ [.rows 6 49 false []]) (.sl 6 (some (b,i+1)) (l.length - 1) c8) K=K xs:=λc8=>by
   simp only[Aj,Kj,IS];cases hm:l.length - 1 with
   | zero =>have hx0:xs = []:=X6 (by omega);rw[hx0]
   | succ m =>
    simp only;rw[show Dv (h ++ [.rows 6 49 false []]) b (i+1) (m+1)=some xs by
     simp only[Dv,Heap.rows?,hb1,Ys];rw[Gc (by omega),<- hm,hxs]]
    rfl
  cases c with
  | none=>exact key none
  | some N =>
   obtain ⟨hN,_⟩:=g3 N rfl;unfold M0;simp only;cases hb:Nat.beq N 1 with
   | false=>rw[AC];exact key _
   | true =>have:=X5 hb;have hx0:xs = []:=X6 (by omega);rw[Ax,show l.length - 1=0 by omega,hx0];simp[Aj,A4]
 have hfl:∀ y∈(Fs.eraseIdx 0).flatten,y<h.length:=λy hy=>hbd y (by simp[(f2 y hy).1]);refine ⟨(b,i),s,av,cv,Fk,rfl,by rw[Dg g1 (by rw[YX];exact hri)];rfl,es,hp,?_⟩;have hFkb:∀ y∈Fk,y∈Fs.flatten:=λy hy=>Hl hFk hy;by_cases he:l.eraseIdx 0 = []
 ·have hx0:xs = []:=X6 (by rw[hxl,<- hlen,he];rfl);refine ⟨some (h.length,0),some 0,_,[h.length],λK=>by rw[s3,hx0];simp only[CC];rw[he];rfl,by rw[he];exact Sli.fresh (X1 _),?_,λy hy=>?_,λy hy=>m0.fr y hy (by simp)⟩
  ·exact m0.wide (by simp)
  ·have:=hbd y (by simp[hFkb y hy]);exact ⟨by simp;omega,by simp[hFkb y hy]⟩
 ·have hfresh:RVers false (h ++ [.rows 6 (Si false) false []]) [.sl 6 (some (h.length,0)) 0 (some 0)] [] [h.length]:=Sli.fresh (X1 _);obtain ⟨a',c',h',F',p1,p2,p3,p4,p5,p6⟩:=Sli.push (lo:=lo) (bytes:=72) rver_ok.fr hfresh (xs:=xs) (ys:=l.eraseIdx 0) (Gs:=Fs.eraseIdx 0) (g6.fr rver_ok.fr λy hy=>m0.fr y (hfl y hy) (by simp)) (by decide) (by rw[hlen];simp;omega) (by simp;omega) (by simp;omega)
   (by rw[Yy,Yr,Yk];exact ⟨λhm=>by have:=hfl _ hm;omega,f1⟩) (λy hy=>by
    rw[Yy,Yr,Ye] at hy;rcases hy with rfl | hy
    ·simp
    ·have:=hfl y hy;simp;omega) he
  simp only[Y9,Yw,Yr] at p1 p2;have hfr:∀ y,y<h.length->h'[y]?=h[y]?:=λy hy=>by rw[p4 y (by simp;omega) (by simp;omega)];exact m0.fr y hy (by simp)
  refine ⟨a',c',h',F',λK=>by rw[s3];exact p1 K,p2,⟨by simp at p3;omega,λy hy _=>hfr y hy,p6,λy hy=>?_⟩,λy hy=>⟨λhm=>?_,by simp[hFkb y hy]⟩,hfr⟩
  ·simp at p3;rcases p5 y hy with g | g
   ·rw[Yy,Yr,Ye] at g;rcases g with rfl | g
    ·exact .inr (by omega)
    ·exact .inl (by simp[(f2 y g).1])
   ·simp at g;exact .inr (by omega)
  ·have hyl:=hbd y (by simp[hFkb y hy]);rcases p5 y hm with g | g
   ·rw[Yy,Yr,Ye] at g;rcases g with rfl | g
    ·omega
    ·exact (f2 y g).2 hy
   ·simp at g;omega
theorem Rz {k:Int} (hs:RNodes ro h [.sl 2 a l.length c] l F) (hn:l.length<=1048576):Ae lo 159 [.agg [.sl 2 a l.length c],Iv k] h=some (.bool (CB l k),h):=by
 refine PK (h':=h) ?_;rw[wr (by omega) (by omega),AY,Ac,A2];unfold CB;cases hw:Ag k 0 ((l.length:Int) - 2) with
 | false=>rw[AC];rfl
 | true =>
 simp only[Ag,C3,decide_eq_true_eq] at hw;obtain ⟨f,rfl⟩:∃ f:Nat,k=(f:Int):=⟨k.toNat,by omega⟩;have hk:f<l.length:=by omega
 have hk1:f+1<l.length:=by omega
 obtain ⟨o,s1,s2,b1,d1,b2,d2,G1,G2,ha,_,_,ho2,_,e2,_⟩:=hs.get hk;obtain ⟨o',s1',s2',b1',d1',b2',d2',G1',G2',ha',_,_,ho2',_,e2',_⟩:=hs.get hk1;have:o=o':=by rw[ha] at ha';injection ha'
 subst this;rw[By,IQ hk,He hk1,Ax,Ad hk,ha,Af,ho2,Af,Ab,Ai,e2];by_cases h0:0<l[f].wait.length
 ·rw[Am (by omega),Ay (by omega),Ad hk1,Af,By,ho2',Af,Ab,Ai,e2',decide_eq_true h0];by_cases h6:l[f+1].wait.length<6
  ·rw[Am (by omega),decide_eq_true h6];rfl
  ·rw[Ao (by omega),decide_eq_false h6];rfl
 ·rw[Ao (by omega),decide_eq_false h0];rfl
def UJ (x:Node):Prop:=En 20 x/\∀ v∈x.wait,0<=v.key/\v.key<=3
theorem P9 {k:Nat} (hs:RNodes false h [.sl 2 a l.length c] l F) (hk:k+1<l.length) (h0:0<(l[k]'(by omega)).wait.length) (hnd:F.Nodup) (hlo:∀ b∈F,lo<=b) (hl:lo<=h.length) (hn:Gk l) (hx:∀ x∈l,UJ x) :
  ∃ h' F',Ae lo 160 [.agg [.sl 2 a l.length c],Iv (k:Nat)] h=some (.agg [.sl 2 a l.length c],h')/\RNodes false h' [.sl 2 a l.length c] (FM l k) F'/\Mv h F h' F':=by
 have hk':k<l.length:=by omega
 have hn1:=hn.1;suffices hq:∃ h' F',_=some (V.agg [.sl 2 a l.length c],h')/\RNodes false h' [.sl 2 a l.length c] (FM l k) F'/\Mv h F h' F' from hq.imp λh' hq=>hq.imp λF' hq=>⟨Ns hq.1,hq.2⟩
 obtain ⟨b,i,rs,row,G0,ha,hbF,hbG,hb,hrow,hel,hGF,hGn,put⟩:=hs.at2 rnode_ok hk' hnd hlo;obtain ⟨t1,t2,F1,F2,rfl,rfl,r1,r2⟩:=hel;obtain ⟨a2,c2,e2,r2'⟩:=r2.form;have hGn0:=hGn;rw[X4] at hGn;obtain ⟨o,s,av,cv,Gv,ho,hld,es,hp,a3,c3,h3,F3,e3,r3,m3,hGv,fr3⟩:=Uv (lo:=lo) r2' h0 hGn.2.1 hl (hn.2 _ (X3 hk')).2.1;have b1:∀ y∈F1,y<h.length:=rvers_ok.bd _ _ _ _ r1;have m4:=(m3.aside (G:=F1) (by rw[X4];exact ⟨hGn.2.1,hGn.1,λx hx y hy e=>hGn.2.2 y hy x hx e.symm⟩) b1).swap;have r1':RVers false h3 [t1] l[k].store F1:=rvers_ok.fr _ _ _ _ _ r1 λy hy=>fr3 y (b1 y hy);obtain ⟨h4,F4,e4,r4,m5,fr4,sub4⟩:=put h3 (F1++F3) 1 [.sl 6 a3 (l[k].wait.eraseIdx 0).length c3] [t1,.sl 6 a3 (l[k].wait.eraseIdx 0).length c3] ⟨l[k].store,l[k].wait.eraseIdx 0⟩ m4 rfl ⟨_,_,F1,F3,rfl,rfl,r1',r3⟩;rw[<- Kh hk'] at r4;have hln:=Kg (l:=l) (k:=k);have hGvG:∀ y∈Gv,y∈F1++F2:=λy hy=>by simp[(hGv y hy).2]
 have hGvl:∀ y∈Gv,y<h.length:=rtags_ok.bd _ _ _ _ hp;have hd:∀ y∈Gv,y∉F4:=λy hy hm=>by
  rcases sub4 y hm with g | g
  ·exact g.2 (hGvG y hy)
  ·rcases X0.1 g with g | g
   ·exact hGn.2.2 y g y (hGv y hy).2 rfl
   ·exact (hGv y hy).1 g
 have hp4:RTags false h4 [.sl 2 av (l[k].wait[0]'h0).past.length cv] (l[k].wait[0]'h0).past Gv:=rtags_ok.fr _ _ _ _ _ hp λy hy=>by rw[fr4 y λe=>hbG (by rw[<- e];exact hGvG y hy),fr3 y (hGvl y hy)]
 have hpx:=hx _ (X3 hk');have hky:=hpx.2 _ (X3 h0);have hth:=hpx.1.2.2.2 _ (X3 h0);have hk1:k+1<(Gb l k).length:=by rw[hln];exact hk
 have hst1:(Gb l k)[k+1].store.length=4:=by
  have:(Gb l k)[k+1]=l[k+1]:=by have e:=Kh hk';rw[List.getElem_of_eq e,List.getElem_set_ne (by omega)]
  rw[this];exact (hx _ (X3 hk)).1.1
 have hnd5:Gk (Gb l k):=by
  refine ⟨by rw[hln];exact hn1,λx hx'=>?_⟩;rw[Kh hk'] at hx';rcases Yo hx' with hx' | rfl
  ·exact hn.2 x hx'
  ·have:=hn.2 _ (X3 hk');exact ⟨this.1,RC this.2 (XX (Zk _ _) this.2.1) λv hv=>Y2 hv⟩
 rw[<- hln] at r4;obtain ⟨h5,F5,e5,r5,m6⟩:=LK (lo:=lo) (k:=k+1) (v:=l[k].wait[0]'h0) r4 hp4 hd m5.nd (λy hy=>m5.ge hl hlo y hy) (XX hl m5.le) hk1 ⟨hky.1,by omega⟩ hnd5 (by have:=hth.1;omega);rw[hln] at e5 r5;rw[<- TE hk' h0] at r5;have hblt:b<h.length:=(Ef hb).1;have ld1:ld h b (i+k) 1 1=some [t2]:=by rw[Dg hb hrow];rfl
 have ld2:ld (h ++ [.rows 6 49 false []]) b (i+k) 1 1=some [t2]:=by rw[Dg (by rw[X2 hblt];exact hb) hrow];rfl
 simp only[Ver.cs] at e5;have e5':Ae lo 193 [.agg [.sl 2 a l.length c],Iv ((k:Nat)+1:Int),.agg [Iv (l[k].wait[0]'h0).key,Iv (l[k].wait[0]'h0).tag.time,Iv (l[k].wait[0]'h0).tag.place,.sl 2 av (l[k].wait[0]'h0).past.length cv,.str (l[k].wait[0]'h0).text,.bool (l[k].wait[0]'h0).gone]] h4=some (.agg [.sl 2 a l.length c],h5):=by rw[show ((k:Nat)+1:Int)=((k+1:Nat):Int) by omega];exact e5
 rw[Ad hk',ha,Af,By,ld1,Af,Ab,Ai,e2,Er ⟨by omega,by omega⟩,ho,Af,hld,Af,Ab,Aa,Ab,Aa,Ab,Aa,Ab,es,Ab,Dw,Ab,Bd,Ai,Ad hk',Af,ld2,Af,Ab,Ai,e2,e3,Ah,Ad hk',Af,e4,Af,wr (n:=((k:Nat):Int)+1) (by omega) (by omega),<- ha,e5',Ac,AW,Ab,Ah,Ai];exact ⟨h5,F5,rfl,r5,m5.trans m6⟩
end


variable {p:Place}
def KK (p:Place) (k:Nat):Place:=⟨p.me,p.clock,FM p.chain k,p.log,p.got,p.fell⟩
def DS (p:Place) (k:Int):Place:=bif CB p.chain k then CJ (KK p k.toNat) else p
theorem JX {l:List Node}{k:Nat}:(FM l k).length=l.length:=by
 unfold FM;split
 ·split
  ·rw[Ia,Kg]
  ·rfl
 ·rfl
theorem To {nc nw nl k:Nat} (h:Tidy nc nw nl p):Tidy nc (nw+1) nl (KK p k):=by
 have h0:Tidy nc (nw+1) nl p:=⟨h.len,λx hx=>by have:=h.node x hx;exact ⟨this.1,Nat.le_succ_of_le this.2.1,this.2.2⟩,h.log,h.got⟩;unfold KK FM;split
 ·rename_i x hk
  split
  ·rename_i v hv
   have hxm:=X8 hk;have hd:Tidy nc nw nl ⟨p.me,p.clock,Gb p.chain k,p.log,p.got,p.fell⟩:=by
    refine ⟨by show (Gb p.chain k).length<=nc;rw[Kg];exact h.len,λy hy=>?_,h.log,h.got⟩;have hy:y∈Gb p.chain k:=hy;unfold Gb at hy;rw[hk] at hy;rcases Yo hy with hy | rfl
    ·exact h.node y hy
    ·obtain ⟨g1,g2,g3,g4⟩:=h.node x hxm;exact ⟨g1,XX (Zk _ _) g2,g3,λv hv=>g4 v (Y2 hv)⟩
   exact PZ hd ((h.node x hxm).2.2.2 v (X8 hv))
  ·exact h0
 ·exact h0
theorem SM (h:Ap p=true):∀ x∈p.chain,UJ x:=λx hx=>by have hno:=(Dx (AE h).2.2.2.1).2 x hx;have ht:=NY hno;exact ⟨⟨ht.1,XX ht.2.1 (by decide),ht.2.2⟩,λv hv=>(Bt ((Bp hno).2.2 v hv)).1⟩
theorem SF {nc nw nl:Nat} (h:Tidy nc nw nl p) (h1:nc<=10) (h2:nw<=20) (h3:nl<=100):Tidy 10 20 100 p :=
 ⟨XX h.len h1,λx hx=>by have:=h.node x hx;exact ⟨this.1,XX this.2.1 h2,this.2.2⟩,⟨XX h.log.1 h3,h.log.2⟩,h.got.1,λl hl=>⟨XX (h.got.2 l hl).1 h3,(h.got.2 l hl).2⟩⟩
theorem Lz {h h1 h2:Heap}{G1 G1' G2 G2' G3:List Nat} (m1:Mv h G1 h1 G1') (m2:Mv h1 G2 h2 G2') (hnd:(G1++(G2++G3)).Nodup) (hb:∀ y∈G1++(G2++G3),y<h.length) :
  Mv h (G1++(G2++G3)) h2 (G1'++(G2'++G3))/\(∀ y∈G1',y∉G2)/\(∀ y∈G3,y∉G1)/\∀ y∈G3,y∉G2:=by
 rw[X4,X4] at hnd;obtain ⟨n2,⟨n3,n4,n5⟩,n6⟩:=hnd;have hb1:∀ y∈G1,y<h.length:=λy hy=>hb y (by simp[hy]);have hb2:∀ y∈G2,y<h.length:=λy hy=>hb y (by simp[hy]);have hb3:∀ y∈G3,y<h.length:=λy hy=>hb y (by simp[hy]);have l1:=m1.le;have l2:=m2.le;have d1:∀ y∈G1',y∉G2:=λy hy hm=>by
  rcases m1.sub y hy with g | g
  ·exact n6 y g y (by simp[hm]) rfl
  ·have:=hb2 y hm;omega
 have d2:∀ y∈G3,y∉G1:=λy hy hm=>n6 y hm y (by simp[hy]) rfl;have d3:∀ y∈G3,y∉G2:=λy hy hm=>n5 y hm y hy rfl;have s1:∀ y∈G1',y<h1.length:=m1.lt hb1;refine ⟨⟨by omega,λy hy hF=>?_,?_,λy hy=>?_⟩,d1,d2,d3⟩
 ·simp only[X0,not_or] at hF;rw[m2.fr y (by omega) hF.2.1,m1.fr y hy hF.1]
 ·rw[X4,X4];refine ⟨m1.nd,⟨m2.nd,n4,λx hx y hy e=>?_⟩,λx hx y hy e=>?_⟩
  ·subst e;rcases m2.sub x hx with g | g
   ·exact d3 x hy g
   ·have:=hb3 x hy;omega
  ·subst e;rcases X0.1 hy with hy | hy
   ·rcases m2.sub x hy with g | g
    ·exact d1 x hx g
    ·have:=s1 x hx;omega
   ·rcases m1.sub x hx with g | g
    ·exact d2 x hy g
    ·have:=hb3 x hy;omega
 ·simp only[X0] at hy ⊢;rcases hy with hy | hy | hy
  ·rcases m1.sub y hy with g | g
   ·exact .inl (.inl g)
   ·exact .inr ⟨g.1,by omega⟩
  ·rcases m2.sub y hy with g | g
   ·exact .inl (.inr (.inl g))
   ·exact .inr ⟨by omega,g.2⟩
  ·exact .inl (.inr (.inr hy))
section
variable {lo:Nat}{h:Heap}{F F':List Nat}{a a':Pq}{c c':Nq}
theorem LG {a1 a2 a3:Pq}{c1 c2 c3:Nq}{F1 F2:List Nat} (hs1:RNodes false h [.sl 2 a1 p.chain.length c1] p.chain F1) (hs2:RVers false h [.sl 6 a2 p.log.length c2] p.log F2)
  (h0:0<p.chain.length) (ht:Tidy 10 20 100 p) (hd:∀ b∈F1,b∉F2) (hnd:F2.Nodup) (hlo:∀ b∈F2,lo<=b) (hl:lo<=h.length) :
  ∃ a2' c2' h' F2',Ae lo 161 [.agg (p.cs a1 c1 a2 c2 a3 c3)] h=some (.agg ((CJ p).cs a1 c1 a2' c2' a3 c3),h')/\RVers false h' [.sl 6 a2' (CJ p).log.length c2'] (CJ p).log F2'/\Mv h F2 h' F2':=by
 obtain ⟨x,hx,hxe⟩:=L5 h0;have hxn:=ht.node x hx;exact KA hs1 hs2 h0 (by rw[hxe];exact hxn.1) hd hnd hlo hl (XX ht.len (by decide)) (XX ht.log.1 (by decide)) (λw hw=>by rw[hxe] at hw;have:=(hxn.2.2.1 w hw).1;omega)
end


variable {v:Ver}
theorem In {u:Ver}:AQ u v=true<->u.tag.time<v.tag.time\/(u.tag.time=v.tag.time/\u.tag.place<v.tag.place):=by simp[AQ,Fz]
theorem TQ {u:Ver}:AQ u v=false<->¬ (u.tag.time<v.tag.time\/(u.tag.time=v.tag.time/\u.tag.place<v.tag.place)):=by rw[<- In,Bool.not_eq_true]
def ES (v:Ver):List Ver->List Ver
 | [] => [v]
 | u :: r=>bif AQ u v then u :: ES v r else v :: u :: r
theorem Ju {v:Ver}:∀ {l:List Ver},(ES v l).length=l.length+1
 | []=>rfl
 | u :: r=>by
  simp only[ES];cases AQ u v with
  | true=>simp[Ju (l:=r)]
  | false=>simp
theorem insF_mem {v x:Ver}:∀ {l:List Ver},x∈ES v l<->x=v\/x∈l
 | []=>by simp[ES]
 | u :: r=>by
  simp only[ES];cases AQ u v with
  | true =>
   rw[cond_true,Ye,insF_mem (l:=r),Ye];constructor
   ·rintro (h | h | h)
    ·exact .inr (.inl h)
    ·exact .inl h
    ·exact .inr (.inr h)
   ·rintro (h | h | h)
    ·exact .inr (.inl h)
    ·exact .inl h
    ·exact .inr (.inr h)
  | false=>simp
section
variable {lo:Nat}{h:Heap}{F F' G:List Nat}{a a' av:Pq}{c c' cv:Nq}
def Xs (l:List Ver):List Ver:=l.foldl (λacc v=>ES v acc) []
end


variable {α:Type}{El:Rel α}{l:List α}
theorem Ij {h:Heap}{lo R e n bytes:Nat}{a:Pq}{c:Nq}{ys:List α}{F:List Nat}{xs:List (List V)}{Gs:List (List Nat)} (hfr:El.Fr)
  (hs:Sli false R e El h [.sl R a n c] l F) (hx:EAll El h xs ys Gs) (hb:0<bytes) (hsz:(l.length+ys.length)*bytes<=140737488355328) (hlo:∀ b∈F,lo<=b) (hl:lo<=h.length)
  (hnd:(F++Gs.flatten).Nodup) (hF:∀ b∈F++Gs.flatten,b<h.length) :
  ∃ a' c' h' F',(∀ {R':Type} (K:V->Heap->Option R'),CC lo e R bytes (.sl R a n c) xs h K=K (.sl R a' (l.length+ys.length) c') h')/\Sli false R e El h' [.sl R a' (l.length+ys.length) c'] (l++ys) F'/\h.length<=h'.length /\
   (∀ b,b<h.length->b∉F->h'[b]?=h[b]?)/\(∀ b∈F',b∈F++Gs.flatten\/(h.length<=b/\b<h'.length))/\F'.Nodup:=by
 cases ys with
 | nil =>have hx0:xs = []:=X6 hx.len.1;have hn:=hs.val;subst hx0;subst hn;rw[X4] at hnd;exact ⟨a,c,h,F,λK=>rfl,by rw[YW];exact hs,X1 _,λ_ _ _=>rfl,λb hb => .inl (by simp[hb]),hnd.1⟩
 | cons y ys=>exact Sli.push hfr hs hx hb hsz hlo hl hnd hF (by simp)
theorem Sli.parts {R e:Nat}{h:Heap}{a:Pq}{c:Nq}{F:List Nat} (hs:Sli false R e El h [.sl R a l.length c] l F) (hnd:F.Nodup) :
  ∃ Fs:List (List Nat),Fs.flatten.Nodup/\(∀ y∈Fs.flatten,y∈F)/\(∀ b i,a=some (b,i)->b∈F/\b∉Fs.flatten)/\∀ k,k<=l.length->∃ rP rQ,EAll El h rP (l.take k) (Fs.take k)/\EAll El h rQ (l.drop k) (Fs.drop k) /\
   (∀ {T:Type} (h':Heap),(∀ b i,a=some (b,i)->h'[b]?=h[b]?)->∀ K:List (List V)->Option T,(AB a l.length c none (some (Iv (k:Nat))) none λa n c=>Aj R h' (.sl R a n c) K)=K rP) /\
   (∀ {T:Type} (h':Heap),(∀ b i,a=some (b,i)->h'[b]?=h[b]?)->∀ K:List (List V)->Option T,(AB a l.length c (some (Iv (k:Nat))) none none λa n c=>Aj R h' (.sl R a n c) K)=K rQ):=by
 obtain ⟨R1,a1,c1,e1,g⟩:=hs;injection e1 with e1 _;injection e1 with e0 e2 _ e3;subst e2;subst e3;cases a with
 | none =>
  obtain ⟨rfl,rfl,rfl⟩:=g;refine ⟨[],by simp,by simp,λb i h=>by simp at h,λk hk=>?_⟩;have hk0:k=0:=by simpa using hk
  subst hk0;refine ⟨[],[],trivial,trivial,λh' _ K=>?_,λh' _ K=>?_⟩
  ·unfold AB FK Ix Jg;simp only[Aa,Zj];rw[DZ ⟨by simp,by simp⟩];simp[Aj]
  ·unfold AB FK Ix Jg;simp only[Aa,Zj];rw[DZ ⟨by simp,by simp⟩];simp[Aj,M0]
 | some p =>
  obtain ⟨b,i⟩:=p;obtain ⟨_,rs,Fs,g1,g2,g3,_,g5,rfl⟩:=g;rw[Yk] at hnd;have key:∀ {T:Type} (h':Heap),h'[b]?=h[b]?->∀ (K:List (List V)->Option T) (j m:Nat) (c8:Nq),j+m<=rs.length->Aj R h' (.sl R (some (b,j)) m c8) K=K ((rs.drop j).take m):=λh' hb' K j m c8 hj=>by
   simp only[Aj,Kj,IS];cases m with
   | zero=>simp
   | succ m =>
    simp only;rw[show Dv h' b j (m+1)=some ((rs.drop j).take (m+1)) by
     simp only[Dv,Heap.rows?,hb',g1,Ys];rw[Gc hj]]
    rfl
  refine ⟨Fs,hnd.2,λy hy=>YF _ hy,λb' i' e=>by injection e with e;injection e with e1 e2;subst e1;exact ⟨by simp,hnd.1⟩,λk hk=>?_⟩;have hrP:((rs.drop i).take l.length).take k=(rs.drop i).take k:=by rw[List.take_take,Nat.min_eq_left hk]
  have hrQ:((rs.drop i).take l.length).drop k=(rs.drop (i+k)).take (l.length - k):=by rw[List.drop_take,Y5]
  refine ⟨(rs.drop i).take k,(rs.drop (i+k)).take (l.length - k),by rw[<- hrP];exact g5.take k,by rw[<- hrQ];exact g5.drop k,λh' hh K=>?_,λh' hh K=>?_⟩
  ·unfold AB FK Ix Jg;simp only[Aa,Zj,By];have:=key h' (hh b i rfl) K i k c (by omega);cases c with
   | none=>simp only;rw[DZ ⟨by omega,by omega⟩];exact this
   | some N=>simp only;rw[DZ ⟨by omega,by have:=(g3 N rfl).1;omega⟩];exact this
  ·unfold AB FK Ix Jg;simp only[Aa,Zj,By];rw[DZ ⟨by omega,by omega⟩];cases c with
   | none=>exact key h' (hh b i rfl) K (i+k) (l.length - k) none (by omega)
   | some N =>
    have hN:=(g3 N rfl).1;unfold M0;simp only;cases hb:Nat.beq N k with
    | false=>rw[AC];exact key h' (hh b i rfl) K (i+k) (l.length - k) _ (by omega)
    | true =>have:=X5 hb;rw[Ax,show l.length - k=0 by omega];simp[Aj,A4]
def Ep (out:List Ver) (x:Ver×Ver):List Ver:=bif AQ x.2 x.1 then ES x.1 out else out
def Dh (s t:List Ver):List Ver:=(s.zip t).foldl Ep []
theorem O3 {v:Ver}:∀ {l:List Ver}{k:Nat},k<=l.length->(∀ i (hi:i<l.length),i<k->AQ l[i] v=true)->(∀ hk:k<l.length,AQ l[k] v=false)->ES v l=l.take k++v :: l.drop k
 | [],k,hk,_,_=>by simp[ES]
 | u :: r,0,hk,_,h2=>by have:=h2 (by simp);simp only[List.getElem_cons_zero] at this;simp[ES,this]
 | u :: r,k+1,hk,h1,h2=>by have h0:=h1 0 (by simp) (by omega);simp only[List.getElem_cons_zero] at h0;simp only[ES,h0,cond_true,List.take_succ_cons,List.drop_succ_cons,Yy];rw[O3 (l:=r) (k:=k) (by simpa using hk) (λi hi hik=>by have:=h1 (i+1) (by simpa using hi) (by omega);simpa using this) (λhkr=>by have:=h2 (by simpa using hkr);simpa using this)]
section
variable {lo:Nat}{h:Heap}{F F' G:List Nat}{a a' av:Pq}{c c' cv:Nq}
theorem Hp (ok:El.Ok) {R e bytes:Nat}{rows:List (List V)}{Fs:List (List Nat)} (hx:EAll El h rows l Fs) (hnd:Fs.flatten.Nodup) (hF:∀ y∈Fs.flatten,y<h.length) (hb:0<bytes) (hsz:l.length*bytes<=140737488355328) (hl:lo<=h.length) :
  ∃ a' c' h' F',(∀ {T:Type} (K:V->Heap->Option T),CC lo e R bytes (.sl R (some (h.length,0)) 0 (some 0)) rows (h ++ [.rows R e false []]) K=K (.sl R a' l.length c') h')/\Sli false R e El h' [.sl R a' l.length c'] l F'/\h.length<h'.length/\(∀ y,y<h.length->h'[y]?=h[y]?) /\
   (∀ y∈F',y∈Fs.flatten\/(h.length<=y/\y<h'.length))/\F'.Nodup:=by
 have m0:Mv h [] (h ++ [.rows R e false []]) [h.length]:=Mv.last;have hfresh:Sli false R e El (h ++ [.rows R e false []]) [.sl R (some (h.length,0)) 0 (some 0)] [] [h.length]:=Sli.fresh (X1 _);obtain ⟨a',c',h',F',p1,p2,p3,p4,p5,p6⟩:=Ij (lo:=lo) (bytes:=bytes) ok.fr hfresh (xs:=rows) (ys:=l) (Gs:=Fs) (hx.fr ok.fr λy hy=>m0.fr y (hF y hy) (by simp)) hb (by simpa using hsz) (by simp;omega) (by simp;omega)
  (by rw[Yy,Yr,Yk];exact ⟨λhm=>by have:=hF _ hm;omega,hnd⟩) (λy hy=>by
   rw[Yy,Yr,Ye] at hy;rcases hy with rfl | hy
   ·simp
   ·have:=hF y hy;simp;omega)
 simp only[Y9,Yw,Yr] at p1 p2;refine ⟨a',c',h',F',p1,p2,by simp at p3;omega,λy hy=>?_,λy hy=>?_,p6⟩
 ·rw[p4 y (by simp;omega) (by simp;omega)];exact m0.fr y hy (by simp)
 ·simp at p3;rcases p5 y hy with g | g
  ·rw[Yy,Yr,Ye] at g;rcases g with rfl | g
   ·exact .inr (by omega)
   ·exact .inl g
  ·simp at g;exact .inr (by omega)
theorem Do {Fs:List (List Nat)}{k:Nat} (hnd:Fs.flatten.Nodup):(Fs.take k).flatten.Nodup/\(Fs.drop k).flatten.Nodup/\∀ x∈(Fs.take k).flatten,∀ y∈(Fs.drop k).flatten,x≠y:=by rw[<- Yx k Fs,Yq,X4] at hnd;exact hnd
theorem Qa {s t:List Ver}{a1 a2:Pq}{c1 c2:Nq}{F1 F2:List Nat} (hs:RVers false h [.sl 6 a1 s.length c1] s F1) (ht:RVers false h [.sl 6 a2 t.length c2] t F2) (h4:s.length=4) (h4':t.length=4) (hpn:∀ v∈s,v.past.length<=1048576) (hl:lo<=h.length) :
  ∃ a' c' h' F',Ae lo 195 [.agg [.sl 6 a1 s.length c1],.agg [.sl 6 a2 t.length c2]] h=some (.sl 6 a' (Dh s t).length c',h')/\RVers false h' [.sl 6 a' (Dh s t).length c'] (Dh s t) F'/\Mv h [] h' F':=by
 suffices hq:∃ a' c' h' F',_=some (V.sl 6 a' (Dh s t).length c',h')/\RVers false h' [.sl 6 a' (Dh s t).length c'] (Dh s t) F'/\Mv h [] h' F' from by obtain ⟨a',c',h',F',e,hr⟩:=hq;exact ⟨a',c',h',F',Nt e,hr⟩
 have hzl:(s.zip t).length=4:=by rw[List.length_zip];omega
 have one:∀ m i,m+i=4->∀ hh ax cx (out:List Ver) Fx,RVers false hh [.sl 6 ax out.length cx] out Fx->Mv h [] hh Fx->out.length<=i->∃ a' c' h' F',
   Bc lo ax out.length cx (i:Nat) a1 s.length c1 a2 t.length c2 hh=some (.sl 6 a' (((s.zip t).drop i).foldl Ep out).length c',h')/\RVers false h' [.sl 6 a' (((s.zip t).drop i).foldl Ep out).length c'] (((s.zip t).drop i).foldl Ep out) F'/\Mv h [] h' F':=by
  intro m;induction m with
  | zero =>intro i hi hh ax cx out Fx hr hm hlen;rw[Bc.e,Ao (by omega),YI (by omega)];exact ⟨ax,cx,hh,Fx,rfl,hr,hm⟩
  | succ m ih =>
   intro i hi hh ax cx out Fx hr hm hlen;have his:i<s.length:=by omega
   have hit:i<t.length:=by omega
   have hs':=hm.keep0 rvers_ok hs;have ht':=hm.keep0 rvers_ok ht;obtain ⟨o1,s1,b1,d1,H1,ha1,_,_,_,_,_,_,hl1,hl1',es1,hp1,_⟩:=RVers.all hs' his;obtain ⟨o2,s2,b2,d2,H2,ha2,_,_,_,_,_,_,hl2,_,_,_,_⟩:=RVers.all ht' hit;have hzi:i<(s.zip t).length:=by omega
   rw[Yi hzi,YL,List.getElem_zip];have hlf:Ep out (s[i],t[i])=bif AQ t[i] s[i] then ES s[i] out else out:=rfl;rw[hlf,Bc.e,Am (by omega),Ad hit,ha2,Af,By,hl2,Af,Ab,Aa,Ab,Aa,Ai,Ad his,ha1,Af,hl1,Af,Ab,Aa,Ab,Aa,Ai,Bj,Ac,A2,<- ha1,<- ha2];show ∃ a' c' h' F',br (AQ t[i] s[i]) _ _=_/\_;cases hless:AQ t[i] s[i] with
   | false =>rw[AC,cond_false,Ay (by omega)];exact ih (i+1) (by omega) hh ax cx out Fx hr hm (by omega)
   | true =>
   rw[Ax,cond_true];have put:∀ k,k<=out.length->ES s[i] out=out.take k++s[i] :: out.drop k->∃ a' c' h' F',(AB ax out.length cx none (some (Iv (k:Nat))) none λa_36 n_37 c_38=>Aj 6 (hh ++ [.rows 6 49 false []]) (.sl 6 a_36 n_37 c_38) λx_39=>CC lo 49 6 72 (.sl 6 (some ((List.length hh),0)) 0 (some 0)) x_39 (hh ++ [.rows 6 49 false []]) λv_40 h_41=>eS 6 (v_40) λa_42 n_43 c_44=>Av ((i:Nat):Int) s.length (eO a1 λo_45=>eO (ld h_41 (o_45.1) ((o_45.2)+(((i:Nat):Int).toNat)) 0 6) λo_46=>eC o_46 λv_47 l_48=>eI .i64 v_47 λn_49=>eC l_48 λv_50 l_51=>eI .i64 v_50 λn_52=>eC l_51 λv_53 l_54=>eI .i64 v_53 λn_55=>eC l_54 λv_56 l_57=>eS 2 (v_56) λa_58 n_59 c_60=>eC l_57 λv_61 l_62=>eT v_61 λs_63=>eC l_62 λv_64 l_65=>eBv v_64 λb_66=>eN l_65 (Ak (Ae lo 167 [.agg [Iv (n_49),Iv (n_52),Iv (n_55),.sl 2 a_58 n_59 c_60,.str (s_63),.bool (b_66)]] h_41) λv_67 h_68=>eA v_67 λc_69=>eC c_69 λv_70 l_71=>eI .i64 v_70 λn_72=>eC l_71 λv_73 l_74=>eI .i64 v_73 λn_75=>eC l_74 λv_76 l_77=>eI .i64 v_76 λn_78=>eC l_77 λv_79 l_80=>eS 2 (v_79) λa_81 n_82 c_83=>eC l_80 λv_84 l_85=>eT v_84 λs_86=>eC l_85 λv_87 l_88=>eBv v_87 λb_89=>eN l_88 (Aj 6 (h_68 ++ [.rows 6 49 false [[Iv (n_72),Iv (n_75),Iv (n_78),.sl 2 a_81 n_82 c_83,.str (s_86),.bool (b_89)]]]) (.sl 6 (some ((List.length h_68),0)) 1 (some 1)) λx_90=>CC lo 49 6 72 (.sl 6 a_42 n_43 c_44) x_90 (h_68 ++ [.rows 6 49 false [[Iv (n_72),Iv (n_75),Iv (n_78),.sl 2 a_81 n_82 c_83,.str (s_86),.bool (b_89)]]]) λv_91 h_92=>eS 6 (v_91) λa_93 n_94 c_95=>AB ax out.length cx (some (Iv (k:Nat))) none none λa_96 n_97 c_98=>Aj 6 h_92 (.sl 6 a_96 n_97 c_98) λx_99=>CC lo 49 6 72 (.sl 6 a_93 n_94 c_95) x_99 h_92 λv_100 h_101=>eS 6 (v_100) λa_102 n_103 c_104=>Bc lo a_102 n_103 c_104 (AD (((i:Nat):Int)+1)) a1 s.length c1 a2 t.length c2 h_101))))=some (V.sl 6 a' (((s.zip t).drop (i+1)).foldl Ep (ES s[i] out)).length c',h') /\
     RVers false h' [.sl 6 a' (((s.zip t).drop (i+1)).foldl Ep (ES s[i] out)).length c'] (((s.zip t).drop (i+1)).foldl Ep (ES s[i] out)) F'/\Mv h [] h' F':=by
    intro k hk hins;have hbx:=rvers_ok.bd _ _ _ _ hr;obtain ⟨Fs,nF,sF,own,cuts⟩:=hr.parts hm.nd;obtain ⟨rP,rQ,eP,eQ,kP,kQ⟩:=cuts k hk;obtain ⟨nP,nQ,dPQ⟩:=Do (k:=k) nF;have inP:∀ y∈(Fs.take k).flatten,y∈Fs.flatten:=λy hy=>by rw[<- Yx k Fs,Yq];simp[hy]
    have inQ:∀ y∈(Fs.drop k).flatten,y∈Fs.flatten:=λy hy=>by rw[<- Yx k Fs,Yq];simp[hy]
    have hFl:∀ y∈Fs.flatten,y<hh.length:=λy hy=>hbx y (sF y hy);have hlh:lo<=hh.length:=XX hl hm.le;have htl:(out.take k).length=k:=by rw[YE];omega
    have hdl:(out.drop k).length=out.length - k:=by rw[YY]
    obtain ⟨a3,c3,h3,F3,e3,r3,l3,fr3,sub3,nd3⟩:=Hp (lo:=lo) (R:=6) (e:=Si false) (bytes:=72) rver_ok eP nP (λy hy=>hFl y (inP y hy)) (by decide) (by omega) hlh;have m3:Mv hh [] h3 []:=⟨by omega,λy hy _=>fr3 y hy,by simp,by simp⟩;have hs3:=m3.keep0 rvers_ok hs';obtain ⟨o4,s4,b4,d4,H4,ha4,ho4,es4,hp4,_⟩:=hs3.get his;obtain ⟨a5,c5,h5,F5,e5,r5,m5⟩:=BQ (lo:=lo) (v:=s[i]) hp4 (by omega) (hpn _ (X3 his));obtain ⟨a6,c6,h6,F6,e6,r6,m6⟩:=Ek (lo:=lo) (bytes:=72) (e:=49) rver_ok r3 (row:=s[i].cs a5 c5) (x:=s[i]) (G:=F5) (h1:=h5 ++ [.rows 6 49 false [s[i].cs a5 c5]])
     ⟨_,rfl,Mv.snoc.keep0 rtags_ok r5⟩ (m5.trans (Mv.snoc' m5.nd)) nd3 (λy hy=>by
      rcases sub3 y hy with g | g
      ·exact hm.ge hl (by simp) y (sF y (inP y g))
      ·omega) (by omega) (by decide) (by omega)
    have hQ3:∀ y∈(Fs.drop k).flatten,y∉F3/\y<h3.length:=λy hy=>by
     have:=hFl y (inQ y hy);refine ⟨λhm3=>?_,by omega⟩;rcases sub3 y hm3 with g | g
     ·exact dPQ y g y hy rfl
     ·omega
    have hQ6:∀ y∈(Fs.drop k).flatten,h6[y]?=hh[y]?:=λy hy=>by rw[m6.fr y (hQ3 y hy).2 (hQ3 y hy).1];exact fr3 y (hFl y (inQ y hy))
    have l6:=m6.le;have F6b:∀ y∈F6,y<h6.length:=rvers_ok.bd _ _ _ _ r6;obtain ⟨a7,c7,h7,F7,e7,r7,l7,fr7,sub7,nd7⟩:=Ij (lo:=lo) (bytes:=72) rver_ok.fr r6 (xs:=rQ) (ys:=out.drop k) (Gs:=Fs.drop k) (eQ.fr rver_ok.fr hQ6) (by decide) (by simp only[Yp,htl,hdl,YO];omega) (λy hy=>m6.ge (by omega) (λy hy=>by
      rcases sub3 y hy with g | g
      ·exact hm.ge hl (by simp) y (sF y (inP y g))
      ·omega) y hy) (by omega) (by
      rw[X4];refine ⟨m6.nd,nQ,λx hx y hy e=>?_⟩;subst e;rcases m6.sub x hx with g | g
      ·exact (hQ3 x hy).1 g
      ·have:=(hQ3 x hy).2;omega) (λy hy=>by
      rcases X0.1 hy with hy | hy
      ·exact F6b y hy
      ·have:=(hQ3 y hy).2;omega)
    have hfin:out.take k ++ [s[i]]++out.drop k=ES s[i] out:=by rw[hins,Yd];rfl
    have hflen:(out.take k).length+1+(out.drop k).length=(ES s[i] out).length:=by rw[Ju,htl,hdl];omega
    rw[Yp,YO,hflen] at e7 r7;rw[hfin] at r7;have m7:Mv h [] h7 F7:=by
     refine ⟨by have:=hm.le;omega,λy hy _=>?_,nd7,λy hy=>?_⟩
     ·have y1:y<hh.length:=Yb hy hm.le;have yF:y∉Fx:=λhmx=>by have:=hm.new y hmx;omega
      have y3:y∉F3:=λhm3=>by
       rcases sub3 y hm3 with g | g
       ·exact yF (sF y (inP y g))
       ·omega
      have y6:y∉F6:=λhm6=>by
       rcases m6.sub y hm6 with g | g
       ·exact y3 g
       ·omega
      rw[fr7 y (by omega) y6,m6.fr y (by omega) y3,fr3 y y1,hm.fr y hy (by simp)]
     ·refine .inr ?_;have hh':=hm.le;rcases sub7 y hy with g | g
      ·rcases X0.1 g with g | g
       ·rcases m6.sub y g with g | g
        ·rcases sub3 y g with g | g
         ·have:=hm.new y (sF y (inP y g));have:=hFl y (inP y g);omega
         ·omega
        ·omega
       ·have:=hm.new y (sF y (inQ y g));have:=hFl y (inQ y g);omega
      ·omega
    obtain ⟨a8,c8,h8,F8,e8,r8,m8⟩:=ih (i+1) (by omega) h7 a7 c7 (ES s[i] out) F7 r7 m7 (by rw[Ju];omega);refine ⟨a8,c8,h8,F8,?_,r8,m8⟩;have mm0:Mv hh [] (hh ++ [.rows 6 49 false []]) []:=Mv.snoc;have h6x:∀ b i,ax=some (b,i)->h6[b]?=hh[b]?:=λb i e=>by
     obtain ⟨q1,q2⟩:=own b i e;have:=hbx b q1;rw[m6.fr b (by omega) λhm3=>?_,fr3 b this];rcases sub3 b hm3 with g | g
     ·exact q2 (inP b g)
     ·omega
    simp only[Ver.cs] at e6;rw[show Si false=49 from rfl] at e3;rw[kP _ (λb i e=>mm0.fr b (hbx b (own b i e).1) (by simp)),e3,Ah,Ad his,ha4,Af,By,ho4,Af,Ab,Aa,Ab,Aa,Ab,Aa,Ab,es4,Ab,Dw,Ab,Bd,Ai];rw[show (V.agg [Iv s[i].key,Iv s[i].tag.time,Iv s[i].tag.place,.sl 2 b4 s[i].past.length d4,.str s[i].text,.bool s[i].gone]) = .agg (s[i].cs b4 d4) from rfl,e5,Ac,AW,Ab,Aa,Ab,Aa,Ab,Aa,Ab,Ah,Ab,Dw,Ab,Bd,Ai,Bn,e6,Ah,kQ _ h6x,e7,Ah,Ay (by omega),<- ha4];exact e8
   have two:∀ m k,m+k=out.length->(∀ j (hj:j<out.length),j<k->AQ out[j] s[i]=true)->∃ a' c' h' F',Cb lo ax out.length cx (i:Nat) (k:Nat) a1 s.length c1 a2 t.length c2 hh=some (V.sl 6 a' (((s.zip t).drop (i+1)).foldl Ep (ES s[i] out)).length c',h') /\
     RVers false h' [.sl 6 a' (((s.zip t).drop (i+1)).foldl Ep (ES s[i] out)).length c'] (((s.zip t).drop (i+1)).foldl Ep (ES s[i] out)) F'/\Mv h [] h' F':=by
    intro m;induction m with
    | zero =>intro k hk hall;rw[Cb.e,Ao (by omega)];exact put k (by omega) (O3 (by omega) hall (λh=>by omega))
    | succ m ih2 =>
     intro k hk hall;have hkl:k<out.length:=by omega
     obtain ⟨o3,s3,b3,d3,H3,ha3,_,_,_,_,_,_,hl3,_,_,_,_⟩:=RVers.all hr hkl;rw[Cb.e,Am (by omega),Ad hkl,ha3,Af,By,hl3,Af,Ab,Aa,Ab,Aa,Ai,Ad his,ha1,Af,By,hl1,Af,Ab,Aa,Ab,Aa,Ai,Bj,Ac,A2,<- ha1,<- ha3];show ∃ a' c' h' F',br (AQ out[k] s[i]) _ _=_/\_;cases hlk:AQ out[k] s[i] with
     | true =>
      rw[Ax,Ay (by omega)];exact ih2 (k+1) (by omega) (λj hj hjk=>by
       by_cases e:j=k
       ·subst e;exact hlk
       ·exact hall j hj (by omega))
     | false =>rw[AC];exact put k (by omega) (O3 (by omega) hall (λ_=>hlk))
   exact two out.length 0 (by omega) (λj _ hj=>by omega)
 have m0:Mv h [] (h ++ [.rows 6 49 false []]) [h.length]:=Mv.last;obtain ⟨a',c',h',F',e,r,m⟩:=one 4 0 (by omega) (h ++ [.rows 6 49 false []]) (some (h.length,0)) (some 0) [] [h.length] (Sli.fresh (X1 _)) m0 (by simp);rw[YQ] at e r;exact ⟨a',c',h',F',e,r,m⟩
end


variable {l:List Node}{w:List Ver}
def C9 (l:List Node) (k:Nat) (w:List Ver):List Node:=match l[k]? with
 | some x=>l.set k ⟨x.store,w⟩
 | none=>l
def Eg (l:List Node) (k:Nat):List Ver:=match l[k]? with
 | some x=>x.store
 | none => []
def BT (l:List Node) (k:Nat):List Node :=
 bif decide (0<k) then (bif decide (k<(l.eraseIdx k).length) then C9 (l.eraseIdx k) (k - 1) (Dh (Eg (l.eraseIdx k) (k - 1)) (Eg (l.eraseIdx k) k)) else C9 (l.eraseIdx k) (k - 1) []) else l.eraseIdx k
theorem FG {k:Nat} (hk:k<l.length):C9 l k w=l.set k ⟨l[k].store,w⟩:=by unfold C9;rw[CX hk]
theorem DA {k:Nat} (hk:k<l.length):Eg l k=l[k].store:=by unfold Eg;rw[CX hk]
theorem Dm {k:Nat}:(C9 l k w).length=l.length:=by unfold C9;split<;>simp
theorem Kw {k:Nat} (hk:k<l.length) (hw:l[k].wait = []):C9 l k []=l:=by
 rw[FG hk];have:(⟨l[k].store,[]⟩:Node)=l[k]:=by
  cases hx:l[k] with
  | mk s w=>rw[hx] at hw;simp only at hw;rw[hw]
 rw[this];exact Zn hk
section
variable {lo:Nat}{h:Heap}{F F' G:List Nat}{a a' av:Pq}{c c' cv:Nq}
theorem Qg {n k:Nat}{ws:List Ver}{w:V}{h1:Heap}{Fw:List Nat} (hs:RNodes false h [.sl 2 a n c] l F) (hk:k<l.length) (hnd:F.Nodup) (hlo:∀ b∈F,lo<=b) (hw:RVers false h1 [w] ws Fw) (m:Mv h [] h1 Fw) :
  ∃ b i h2 F',a=some (b,i)/\b∈F/\st lo h1 b (i+k) 1 [w]=some h2/\RNodes false h2 [.sl 2 a n c] (C9 l k ws) F'/\Mv h F h2 F'/\(∀ y,y≠b->h2[y]?=h1[y]?):=by
 obtain ⟨b,i,rs,row,G0,ha,hbF,hbG,hb,hrow,hel,hGF,hGn,put⟩:=hs.at2 rnode_ok hk hnd hlo;obtain ⟨t1,t2,F1,F2,rfl,rfl,r1,r2⟩:=hel;rw[X4] at hGn;have b1:∀ y∈F1,y<h.length:=rvers_ok.bd _ _ _ _ r1;have m1:Mv h (F1++F2) h1 (F1++Fw):=by
  refine ⟨m.le,λy hy _=>m.fr y hy (by simp),?_,λy hy=>?_⟩
  ·rw[X4];refine ⟨hGn.1,m.nd,λx hx y hy e=>?_⟩;subst e;have:=b1 x hx;have:=m.new x hy;omega
  ·rcases X0.1 hy with hy | hy
   ·exact .inl (by simp[hy])
   ·exact (m.sub y hy).imp (λg=>by simp at g) id
 obtain ⟨h2,F',e2,r,m2,fr,_⟩:=put h1 (F1++Fw) 1 [w] [t1,w] ⟨l[k].store,ws⟩ m1 rfl ⟨_,_,F1,Fw,rfl,rfl,m.keep0 rvers_ok r1,hw⟩;rw[<- FG hk] at r;exact ⟨b,i,h2,F',ha,hbF,e2,r,m2,fr⟩
theorem T7 {k:Nat} (hs:RNodes false h [.sl 2 a l.length c] l F) (hk:k<l.length) (hnd:F.Nodup) (hlo:∀ b∈F,lo<=b) (hl:lo<=h.length) (hn:l.length<=1048576) :
  ∃ a' c' h' F',(∀ {T:Type} (K:V->Heap->Option T),(AB a l.length c none (some (Iv (k:Nat))) none λa_0 n_1 c_2=>Aj 2 (h ++ [.rows 2 54 false []]) (.sl 2 a_0 n_1 c_2) λx_3=>CC lo 54 2 48 (.sl 2 (some ((List.length h),0)) 0 (some 0)) x_3 (h ++ [.rows 2 54 false []]) λv_4 h_5=>eS 2 (v_4) λa_6 n_7 c_8 =>
    AB a l.length c (some (Iv ((k+1:Nat):Int))) none none λa_9 n_10 c_11=>Aj 2 h_5 (.sl 2 a_9 n_10 c_11) λx_12=>CC lo 54 2 48 (.sl 2 a_6 n_7 c_8) x_12 h_5 K)=K (.sl 2 a' (l.eraseIdx k).length c') h') /\
   RNodes false h' [.sl 2 a' (l.eraseIdx k).length c'] (l.eraseIdx k) F'/\Mv h F h' F':=by
 have hbd:=rnodes_ok.bd _ _ _ _ hs;obtain ⟨Fs,nF,sF,own,cuts⟩:=Sli.parts hs hnd;obtain ⟨rP,_,eP,_,kP,_⟩:=cuts k (by omega);obtain ⟨_,rQ,_,eQ,_,kQ⟩:=cuts (k+1) (by omega);obtain ⟨nP,_,dPQ⟩:=Do (k:=k) nF;obtain ⟨_,nQ,_⟩:=Do (k:=k+1) nF;have inP:∀ y∈(Fs.take k).flatten,y∈Fs.flatten:=λy hy=>by rw[<- Yx k Fs,Yq];simp[hy]
 have inQ:∀ y∈(Fs.drop (k+1)).flatten,y∈(Fs.drop k).flatten:=λy hy=>by
  have:Fs.drop (k+1)=(Fs.drop k).drop 1:=by rw[Y5]
  rw[this] at hy;rw[<- Yx 1 (Fs.drop k),Yq];exact X0.2 (.inr hy)
 have inQ':∀ y∈(Fs.drop (k+1)).flatten,y∈Fs.flatten:=λy hy=>by rw[<- Yx k Fs,Yq];simp[inQ y hy]
 have hFl:∀ y∈Fs.flatten,y<h.length:=λy hy=>hbd y (sF y hy);have htl:(l.take k).length=k:=by rw[YE];omega
 have hdl:(l.drop (k+1)).length=l.length - (k+1):=by rw[YY]
 obtain ⟨a3,c3,h3,F3,e3,r3,l3,fr3,sub3,nd3⟩:=Hp (lo:=lo) (R:=2) (e:=Oy false) (bytes:=48) rnode_ok eP nP (λy hy=>hFl y (inP y hy)) (by decide) (by omega) hl;have hQ3:∀ y∈(Fs.drop (k+1)).flatten,y∉F3/\y<h3.length:=λy hy=>by
  have:=hFl y (inQ' y hy);refine ⟨λhm3=>?_,by omega⟩;rcases sub3 y hm3 with g | g
  ·exact dPQ y g y (inQ y hy) rfl
  ·omega
 have F3b:∀ y∈F3,y<h3.length:=rnodes_ok.bd _ _ _ _ r3;obtain ⟨a7,c7,h7,F7,e7,r7,l7,fr7,sub7,nd7⟩:=Ij (lo:=lo) (bytes:=48) rnode_ok.fr r3 (xs:=rQ) (ys:=l.drop (k+1)) (Gs:=Fs.drop (k+1)) (eQ.fr rnode_ok.fr λy hy=>fr3 y (hFl y (inQ' y hy))) (by decide) (by rw[htl,hdl];omega) (λy hy=>by
   rcases sub3 y hy with g | g
   ·exact hlo y (sF y (inP y g))
   ·omega) (by omega) (by
   rw[X4];refine ⟨nd3,nQ,λx hx y hy e=>?_⟩;subst e;exact (hQ3 x hy).1 hx) (λy hy=>by
   rcases X0.1 hy with hy | hy
   ·exact F3b y hy
   ·exact (hQ3 y hy).2)
 have hel:(l.take k).length+(l.drop (k+1)).length=(l.eraseIdx k).length:=by rw[YS hk,htl,hdl];omega
 have her:l.take k++l.drop (k+1)=l.eraseIdx k:=(List.eraseIdx_eq_take_drop_succ l k).symm;rw[hel] at e7 r7;rw[her] at r7;have mm0:Mv h [] (h ++ [.rows 2 54 false []]) []:=Mv.snoc;rw[show Oy false=54 from rfl] at e3 e7;refine ⟨a7,c7,h7,F7,λK=>?_,r7,⟨by omega,λy hy hyF=>?_,nd7,λy hy=>?_⟩⟩
 ·rw[kP _ (λb i e=>mm0.fr b (hbd b (own b i e).1) (by simp)),e3,Ah,kQ _ (λb i e=>fr3 b (hbd b (own b i e).1)),e7]
 ·have y3:y∉F3:=λhm3=>by
   rcases sub3 y hm3 with g | g
   ·exact hyF (sF y (inP y g))
   ·omega
  rw[fr7 y (by omega) y3,fr3 y hy]
 ·rcases sub7 y hy with g | g
  ·rcases X0.1 g with g | g
   ·rcases sub3 y g with g | g
    ·exact .inl (sF y (inP y g))
    ·exact .inr (by omega)
   ·exact .inl (sF y (inQ' y g))
  ·exact .inr (by omega)
theorem Qc {k:Nat} (hs:RNodes false h [.sl 2 a l.length c] l F) (hk:k<l.length) (h2:1<l.length) (hlast:(l[l.length - 1]'(by omega)).wait = []) (hnd:F.Nodup) (hlo:∀ b∈F,lo<=b) (hl:lo<=h.length) (hn:l.length<=1048576) (hx:∀ x∈l,En 20 x) :
  ∃ a' c' h' F',Ae lo 163 [.agg [.sl 2 a l.length c],Iv (k:Nat)] h=some (.agg [.sl 2 a' (BT l k).length c'],h')/\RNodes false h' [.sl 2 a' (BT l k).length c'] (BT l k) F'/\Mv h F h' F':=by
 suffices hq:∃ a' c' h' F',_=some (V.agg [.sl 2 a' (BT l k).length c'],h')/\RNodes false h' [.sl 2 a' (BT l k).length c'] (BT l k) F'/\Mv h F h' F' from by obtain ⟨a',c',h',F',e,hr⟩:=hq;exact ⟨a',c',h',F',Nv e,hr⟩
 have hel:=YS hk;obtain ⟨a1,c1,h1,F1,e1,r1,m1⟩:=T7 (lo:=lo) hs hk hnd hlo hl hn;have hflen:(BT l k).length=l.length - 1:=by
  unfold BT;cases decide (0<k)
  ·exact hel
  ·cases decide (k<(l.eraseIdx k).length)
   ·rw[cond_true,cond_false,Dm];exact hel
   ·rw[cond_true,cond_true,Dm];exact hel
 rw[Ay (by omega),e1,Ah];have hl1:lo<=h1.length:=XX hl m1.le;have hlo1:∀ b∈F1,lo<=b:=λb hb=>m1.ge hl hlo b hb;have hn1:((l.eraseIdx k).length:Int) - 1=(((l.eraseIdx k).length - 1:Nat):Int):=by omega
 have tail:∀ (l':List Node) (hh:Heap) (F':List Nat),l'.length=(l.eraseIdx k).length->RNodes false hh [.sl 2 a1 (l.eraseIdx k).length c1] l' F'->F'.Nodup->(∀ b∈F',lo<=b)->∃ h' F'',(Av (AD ((((l.eraseIdx k).length:Nat):Int) - 1)) (l.eraseIdx k).length (eO a1 λo_41=>eO (st lo hh (o_41.1) ((o_41.2)+((AD ((((l.eraseIdx k).length:Nat):Int) - (1:Int))).toNat)) 1 [.sl 0 none 0 (some 0)]) λo_42=>some (V.agg [.sl 2 a1 (l.eraseIdx k).length c1],o_42)))=some (.agg [.sl 2 a1 (l.eraseIdx k).length c1],h') /\
   RNodes false h' [.sl 2 a1 (l.eraseIdx k).length c1] (C9 l' ((l.eraseIdx k).length - 1) []) F''/\Mv hh F' h' F'':=by
  intro l' hh F' hll hr hnd' hlo';obtain ⟨b,i,h3,F3,ha,_,e3,r3,m3,_⟩:=Qg (lo:=lo) (k:=(l.eraseIdx k).length - 1) (w := .sl 0 none 0 (some 0)) (ws := []) hr (by omega) hnd' hlo' Sli.nil Mv.nil;rw[wr (n:=(((l.eraseIdx k).length:Nat):Int) - 1) (by omega) (by omega),hn1,Ad (by omega),ha,Af,By,e3,Af,<- ha];exact ⟨h3,F3,rfl,r3,m3⟩
 have hlast':∀ hj:(l.eraseIdx k).length - 1<(l.eraseIdx k).length,k<(l.eraseIdx k).length->((l.eraseIdx k)[(l.eraseIdx k).length - 1]).wait = []:=λhj hkl=>by
  have:(l.eraseIdx k)[(l.eraseIdx k).length - 1]=l[l.length - 1]:=by rw[List.getElem_eraseIdx];rw[dif_neg (by omega)];congr 1;omega
  rw[this];exact hlast
 by_cases h0:0<k
 ·rw[Am (by omega)];by_cases hkl:k<(l.eraseIdx k).length
  ·-- in between
   have hf:BT l k=C9 (l.eraseIdx k) (k - 1) (Dh (Eg (l.eraseIdx k) (k - 1)) (Eg (l.eraseIdx k) k)):=by unfold BT;rw[decide_eq_true h0,cond_true,decide_eq_true hkl,cond_true]
   have hk1:k - 1<(l.eraseIdx k).length:=by omega
   have hxm:∀ x∈l.eraseIdx k,En 20 x:=λx hx'=>hx x (Y2 hx');obtain ⟨o,s1,s2,b1,d1,b2,d2,H1,H2,ha,_,ho1,_,q1,_,p1,_⟩:=r1.get hk1;obtain ⟨o',s1',s2',b1',d1',b2',d2',H1',H2',ha',_,ho1',_,q1',_,p1',_⟩:=r1.get hkl;have ho:o=o':=by rw[ha] at ha';injection ha'
   subst ho;have n1:=hxm _ (X3 hk1);have n2:=hxm _ (X3 hkl);obtain ⟨a4,c4,h4,F4,e4,r4,m4⟩:=Qa (lo:=lo) p1 p1' n1.1 n2.1 (λv hv=>by have:=(n1.2.2.1 v hv).1;omega) hl1;obtain ⟨b,i,h5,F5,hb,_,e5,r5,m5,_⟩:=Qg (lo:=lo) (k:=k - 1) (w := .sl 6 a4 (Dh (l.eraseIdx k)[k - 1].store (l.eraseIdx k)[k].store).length c4) r1 hk1 m1.nd hlo1 r4 m4;obtain ⟨h6,F6,e6,r6,m6⟩:=tail _ h5 F5 Dm r5 m5.nd (λb hb=>m5.ge hl1 hlo1 b hb);have hkk:((k:Nat):Int) - 1=((k - 1:Nat):Int):=by omega
   have hoe:o=(b,i):=by rw[ha] at hb;injection hb
   subst hoe;rw[Am (by omega),wr (n:=((k:Nat):Int) - 1) (by omega) (by omega),hkk,Ad hk1,ha,Af,By,ho1,Af,Ab,q1,Ai,Ad hkl,Af,By,ho1',Af,Ab,q1',Ai,e4,Ac,Ah,Ad hk1,Af,e5,Af,<- ha,e6];have hsame:C9 (C9 (l.eraseIdx k) (k - 1) (Dh (l.eraseIdx k)[k - 1].store (l.eraseIdx k)[k].store)) ((l.eraseIdx k).length - 1) []=BT l k:=by
    rw[hf,DA hk1,DA hkl];have hj:(l.eraseIdx k).length - 1<(C9 (l.eraseIdx k) (k - 1) (Dh (l.eraseIdx k)[k - 1].store (l.eraseIdx k)[k].store)).length:=by rw[Dm];omega
    refine Kw hj ?_;have hg:=FG (w:=Dh (l.eraseIdx k)[k - 1].store (l.eraseIdx k)[k].store) hk1;rw[List.getElem_of_eq hg,List.getElem_set_ne (by omega)];exact hlast' (by omega) hkl
   rw[hsame] at r6;refine ⟨a1,c1,h6,F6,by rw[hflen,hel],by rw[hflen,<- hel];exact r6,(m1.trans m5).trans m6⟩
  ·-- the tail fell
   have hf:BT l k=C9 (l.eraseIdx k) (k - 1) []:=by unfold BT;rw[decide_eq_true h0,cond_true,decide_eq_false hkl,cond_false]
   have hkk:(l.eraseIdx k).length - 1=k - 1:=by omega
   obtain ⟨h6,F6,e6,r6,m6⟩:=tail _ h1 F1 rfl r1 m1.nd hlo1;rw[Ao (by omega),e6];rw[hkk,<- hf] at r6;exact ⟨a1,c1,h6,F6,by rw[hflen,hel],by rw[hflen,<- hel];exact r6,m1.trans m6⟩
 ·have hf:BT l k=l.eraseIdx k:=by unfold BT;rw[decide_eq_false h0,cond_false]
  obtain ⟨h6,F6,e6,r6,m6⟩:=tail _ h1 F1 rfl r1 m1.nd hlo1;rw[Ao (by omega),e6];rw[Kw (by omega) (hlast' (by omega) (by omega)),<- hf] at r6;exact ⟨a1,c1,h6,F6,by rw[hflen,hel],r6,m1.trans m6⟩
end


def E9 (x:Ver×Ver):Option Ver:=bif AQ x.2 x.1 then some x.1 else none
theorem lack_sort:∀ {z:List (Ver×Ver)}{acc:List Ver},z.foldl Ep acc=(z.filterMap E9).foldl (λacc v=>ES v acc) acc
 | [],acc=>rfl
 | x :: z,acc=>by
  rw[YL,lack_sort (z:=z)];unfold Ep;cases hx:AQ x.2 x.1 with
  | true =>
   have:E9 x=some x.1:=by unfold E9;rw[hx];rfl
   rw[List.filterMap_cons,this];rfl
  | false =>
   have:E9 x=none:=by unfold E9;rw[hx];rfl
   rw[List.filterMap_cons,this];rfl
def L7 (s t:List Ver):List Ver:=(s.zip t).filterMap E9
theorem RZ {s t:List Ver}:Xs (L7 s t)=Dh s t:=lack_sort.symm
theorem IB {u v:Ver} (hu:BE u.tag.time u.tag.place=true) (hv:v.tag.time=0/\v.tag.place=0):AQ u v=false:=by rw[TQ];simp[BE,Ag] at hu;omega
theorem PC {i:Nat}{v:Ver} (h:HF i v=true):BE v.tag.time v.tag.place=true:=(SG h).2.2
theorem RY {s t:List Ver} (hs:Bw s=true) (ht:Bw t=true):(L7 s t).Pairwise λp u=>p.key<u.key:=by
 unfold L7;rw[List.pairwise_filterMap,List.pairwise_iff_getElem];intro i j hi hj hij b hb b' hb';have hi':i<s.length/\i<t.length:=by rw[List.length_zip] at hi;omega
 have hj':j<s.length/\j<t.length:=by rw[List.length_zip] at hj;omega
 rw[List.getElem_zip] at hb hb';have key:∀ q (hq:q<s.length) (hq':q<t.length) x,E9 (s[q],t[q])=some x->x.key=(q:Int):=λq hq hq' x hx=>by
  unfold E9 at hx;simp only at hx;cases hl:AQ t[q] s[q] with
  | false=>rw[hl] at hx;cases hx
  | true =>
   rw[hl] at hx;injection hx with hx;subst hx;rcases DW (D8 hs hq) with g | g
   ·have:=IB (PC (D8 ht hq')) (GG g);rw[hl] at this;cases this
   ·exact g.2
 have e1:=key i hi'.1 hi'.2 b (by simpa using hb);have e2:=key j hj'.1 hj'.2 b' (by simpa using hb');omega
section
variable {lo:Nat}{h:Heap}{F F' G:List Nat}{a a' av:Pq}{c c' cv:Nq}
theorem Mv.cons {h h':Heap}{F F':List Nat}{b:Nat} (m:Mv h F h' F') (hb:b<h.length) (hbF:b∉F) (hnd:F.Nodup):Mv h (b :: F) h' (b :: F') :=
 (m.aside (G := [b]) (by rw[X4];exact ⟨hnd,by simp,λx hx y hy e=>by rw[Yj] at hy;subst hy;subst e;exact hbF hx⟩) (by simpa using hb)).swap
def GV (l:List Node) (k:Int):Bool:=Ag k 0 ((l.length:Int) - 1)&&decide (1<l.length)
end


variable {l:List Node}{p:Place}
def Or (p:Place) (k:Nat):Place:=⟨p.me,p.clock,BT p.chain k,p.log,p.got,true⟩
def Dk (p:Place) (k:Int):Bool := !p.fell&&GV p.chain k
def DT (p:Place) (k:Int):Place:=bif Dk p k then CJ (Or p k.toNat) else p
theorem J3 {s t:List Ver}{v:Ver} (h:v∈Dh s t):v∈s:=by
 have key:∀ (z:List (Ver×Ver)) (acc:List Ver),v∈z.foldl Ep acc->v∈acc\/∃ x∈z,x.1=v:=by
  intro z;induction z with
  | nil=>intro acc h;exact .inl h
  | cons x z ih =>
   intro acc h;rw[YL] at h;rcases ih _ h with g | ⟨y,hy,e⟩
   ·unfold Ep at g;cases hl:AQ x.2 x.1 with
    | false=>rw[hl] at g;exact .inl g
    | true =>
     rw[hl,cond_true] at g;rcases insF_mem.1 g with rfl | g
     ·exact .inr ⟨x,by simp,rfl⟩
     ·exact .inl g
   ·exact .inr ⟨y,by simp[hy],e⟩
 rcases key _ _ h with g | ⟨x,hx,rfl⟩
 ·simp at g
 ·exact (List.of_mem_zip hx).1
theorem N5 {s t:List Ver} (hs:s.length=4):(Dh s t).length<=4:=by
 have key:∀ (z:List (Ver×Ver)) (acc:List Ver),(z.foldl Ep acc).length<=acc.length+z.length:=by
  intro z;induction z with
  | nil=>intro acc;simp
  | cons x z ih =>
   intro acc;rw[YL];have:=ih (Ep acc x);have h2:(Ep acc x).length<=acc.length+1:=by
    unfold Ep;cases AQ x.2 x.1
    ·simp
    ·rw[cond_true,Ju];exact X1 _
   rw[YP];omega
 have:=key (s.zip t) [];rw[List.length_zip] at this;simp only[Y9] at this;unfold Dh;omega
theorem JS {nw k:Nat}{w:List Ver} (h:∀ x∈l,En nw x) (hw:w.length<=nw) (hv:∀ v∈w,thin v):∀ x∈C9 l k w,En nw x:=λx hx=>by
 unfold C9 at hx;split at hx
 ·rename_i y hy
  rcases Yo hx with hx | rfl
  ·exact h x hx
  ·obtain ⟨g1,_,g3,_⟩:=h y (X8 hy);exact ⟨g1,hw,g3,hv⟩
 ·exact h x hx
theorem Vg {nw k:Nat} (h:∀ x∈l,En nw x) (hnw:4<=nw):(BT l k).length<=l.length/\∀ x∈BT l k,En nw x:=by
 have h':∀ x∈l.eraseIdx k,En nw x:=λx hx=>h x (Y2 hx);have hle:(l.eraseIdx k).length<=l.length:=Zk _ _;unfold BT;cases decide (0<k) with
 | false=>exact ⟨hle,h'⟩
 | true =>
  rw[cond_true];cases decide (k<(l.eraseIdx k).length) with
  | false=>exact ⟨by rw[cond_false,Dm];exact hle,JS h' (Yl _) (by simp)⟩
  | true =>
   rw[cond_true,Dm];refine ⟨hle,?_⟩;unfold Eg;split
   ·rename_i y hy
    have hyn:=h' y (X8 hy);exact JS h' (XX (N5 hyn.1) hnw) (λv hv=>hyn.2.2.1 v (J3 hv))
   ·refine JS h' ?_ (λv hv=>?_)
    ·rw[show ∀ t,Dh [] t = [] from λt=>by simp[Dh]];exact Yl _
    ·have:=J3 hv;simp at this
theorem Tp {nc nl k:Nat} (h:Tidy nc 6 nl p):Tidy nc 6 nl (Or p k):=by obtain ⟨h1,h2⟩:=Vg (k:=k) h.node (by decide);exact ⟨XX h1 h.len,h2,h.log,h.got⟩
theorem Io {k:Nat} (hk:k<l.length) (h1:1<l.length):(BT l k).length=l.length - 1:=by
 have hel:=YS hk;unfold BT;cases decide (0<k)
 ·exact hel
 ·cases decide (k<(l.eraseIdx k).length)
  ·rw[cond_true,cond_false,Dm];exact hel
  ·rw[cond_true,cond_true,Dm];exact hel
theorem TS (h:Ey l=true) (h0:0<l.length):(l[l.length - 1]'(by omega)).wait = []:=by have:=Pu h (show l.length - 1<l.length by omega);unfold IT at this;rw[YM (by omega)] at this;simp only[decide_eq_true_eq] at this;exact X6 this
section
variable {lo:Nat}{ro:Bool}{h:Heap}{F F':List Nat}{a a':Pq}{c c':Nq}
theorem LJ {k:Int}{a1 a2 a3:Pq}{c1 c2 c3:Nq} (hn:p.chain.length<=1048576):Ae lo 162 [.agg (p.cs a1 c1 a2 c2 a3 c3),Iv k] h=some (.bool (Dk p k),h):=by
 refine Ko (h':=h) ?_;unfold Dk GV;cases p.fell with
 | true=>simp only[Y1,AC,Y6]
 | false =>
  simp only[Ze,Ax,Yn];by_cases h1:1<p.chain.length
  ·rw[Am (by omega),wr (by omega) (by omega),AY,Ac,A2,decide_eq_true h1,Bool.and_true];exact Ht
  ·rw[Ao (by omega),decide_eq_false h1,Bool.and_false]
end
end Go.Proofs.YtmdgiekbejjjgaaGreat
