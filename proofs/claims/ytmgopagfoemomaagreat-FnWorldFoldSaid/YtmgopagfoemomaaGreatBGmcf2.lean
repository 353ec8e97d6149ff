/- Part 2 of what is shown for the law Gmcf, whatever the input; no condition of its own. -/
import Derived.Test.YtmgopagfoemomaaGreatBGmcf1
set_option linter.unusedVariables false
set_option linter.unusedSimpArgs false
set_option linter.unnecessarySimpa false
set_option maxRecDepth 100000
namespace Go.Proofs.YtmgopagfoemomaaGreat
open Go T
noncomputable section

variable {lo n m k i:Nat}{a b d:Pq}{c p u s:Nq}{h:Heap}{r:V×Heap}{f:Bool}{y x:Int}{j:Nat}{z t:Int}{S:ByteArray}{A:Pq}{g G H:Nat}{B a0 a1:Pq}{C D c0:Nq}{F:Bool}{h':Heap}{v:V}{l:List V}
def C3 lo n m k f a i c x y h:=
 LA 82 Tryz.f82 221311 0 111 lo ⟨[(1,(BF n m k)),(2,.bool f),(32,.sl 6 a i c),(33,Iv x),(34,Iv y)],[],h⟩
def BM lo n m k f a i c x y h:=
 LA 82 Tryz.f82 2213111 2 1111 lo ⟨[(1,(BF n m k)),(2,.bool f),(50,.sl 6 a i c),(51,Iv x),(52,Iv y)],[],h⟩
def C2 lo n m k f a i c x y b j p z t h:=
 Lp (X 82) lo (pf 221123112213111 Tryz.f82) 4 (A6 4 (A6 3 (kS (X 82) lo (pf 1112213111 Tryz.f82) 2 (WJ (X 82) lo (pf 2213111 Tryz.f82) 2 (A6 2 (kS (X 82) lo (pf 1111 Tryz.f82) 0 (Kt (X 82) Tryz.f82.results.toList))))))) ⟨[(1,(BF n m k)),(2,.bool f),(50,.sl 6 a i c),(51,Iv x),(52,Iv y),(57,.sl 1 b j p),(58,Iv z),(59,Iv t)],[],h⟩
theorem Ss {e:Pq} (hk:(eO (ld (h ++ [.rows 4 60 false [CC a n c b m p d k u e i s]]) h.length 0 0 1) λv=>eC v λv l=>eN l (eS 6 v λv v l=>br ((v:Int)==3) (eO (ld (h ++ [.rows 4 60 false [CC a n c b m p d k u e i s]]) h.length 0 1 1) λv=>eC v λv l=>eN l (eS 5 v λv v l=>br (decide ((v:Int)>4)) (AF (h ++ [.rows 4 60 false [CC a n c b m p d k u e i s]])) (eO (ld (h ++ [.rows 4 60 false [CC a n c b m p d k u e i s]]) h.length 0 2 1) λv=>eC v λv l=>eN l (eS 9 v λv v l=>br (decide ((v:Int)>12)) (AF (h ++ [.rows 4 60 false [CC a n c b m p d k u e i s]])) (eO (ld (h ++ [.rows 4 60 false [CC a n c b m p d k u e i s]]) h.length 0 3 1) λv=>eC v λv l=>eN l (eS 5 v λv l o=>Aj (Af lo 157 [.sl 5 v l o] (h ++ [.rows 4 60 false [CC a n c b m p d k u e i s]])) λv l=>eB v (eO (ld l h.length 0 0 1) λv=>eC v λv o=>eN o (eS 6 v λv o x=>C3 lo h.length 0 0 false v o x (o:Int) 0 l)) (AF l))))))) (AF (h ++ [.rows 4 60 false [CC a n c b m p d k u e i s]]))))=some r) :
  Af lo 82 [Au a n c b m p d k u e i s] h=some r :=
 eK Tryz.func82 hk
theorem C3.e :
  C3 lo n m k f a i c y x h=br (decide (x<y)) (Ap x i (eO a λv=>eO (ld h v.1 (v.2+x.toNat) 0 6) λv=>eC v λv l=>eI .i64 v λv=>eC l λl o=>eI .i64 l λl=>eC o λo s=>eS 2 o λo b z=>eC s λs u=>eS 6 s λs w p=>eC u λu q=>eS 1 u λu g j=>eC q λq t=>eBv q λq=>eN t (Aj (Af lo 13 [BB v l o b z s w p u g j q] h) λl o=>eB l (br (v==x) (C3 lo n m k f a i c y (Am (x+1)) o) (AF o)) (AF o)))) (eO (ld h n m (k+0) 1) λv=>eC v λv l=>eN l (eS 6 v λv l o=>BM lo n m k f v l o (l:Int) 0 h)) :=
 lE
theorem BM.e :
  BM lo n m k f a i c y x h=br (decide (x<y)) (Ap x i (eO a λv=>eO (ld h v.1 (v.2+x.toNat) 0 6) λv=>eC v λv l=>eI .i64 v λv=>eC l λv l=>eI .i64 v λv=>eC l λv l=>eS 2 v λv v v=>eC l λv l=>eS 6 v λv v v=>eC l λv l=>eS 1 v λv o s=>eC l λl b=>eBv l λl=>eN b (C2 lo n m k f a i c y x v o s (o:Int) 0 h))) (eO (ld h n m (k+1) 1) λv=>eC v λv l=>eN l (eS 5 v λv l o=>Aj (Af lo 159 [.sl 5 v l o,.fn 160 []] h) λv l=>eB v (AF l) (eO (ld l n m (k+2) 1) λv=>eC v λv o=>eN o (eS 9 v λv o s=>Aj (Af lo 162 [.sl 9 v o s,.fn 163 [BF n m k]] l) λv l=>eB v (AF l) (BZ l))))) :=
 lE
theorem C2.e :
  C2 lo n m k f a i c y z b j p t x h=br (decide (x<t)) (Ap x j (eO b λv=>eO (ld h v.1 (v.2+x.toNat) 0 1) λv=>eC v λv l=>eN l (eS 6 v λv l o=>eO (ld h n m (k+0) 1) λs=>eC s λs u=>eN u (eS 6 s λs u w=>Ap x u (eO s λs=>eO (ld h s.1 (s.2+x.toNat) 3 1) λs=>eC s λs u=>eN u (eS 6 s λs u w=>Aj (Af lo 158 (Lh s u w v l o) h) λv l=>eB v (C2 lo n m k f a i c y z b j p t (Am (x+1)) l) (AF l))))))) (BM lo n m k f a i c y (Am (z+1)) h) :=
 lE
def Hw lo a n c b m p f x h:=
 LA 83 Tryz.f83 221311 0 111 lo ⟨[(0,.sl 6 a n c),(1,.sl 6 b m p),(4,.bool f),(5,Iv x)],[],h⟩
theorem Hw.e {lo n m:Nat}{a b:Pq}{c p:Nq}{f:Bool}{x:Int}{h:Heap} :
  Hw lo a n c b m p f x h=br (decide (x<(n:Int))) (Ap x n (eO a λv=>eO (ld h v.1 (v.2+x.toNat) 0 6) λv=>eC v λv l=>eI .i64 v λv=>eC l λl o=>eI .i64 l λl=>eC o λo s=>eS 2 o λo y z=>eC s λs u=>eS 6 s λs w q=>eC u λu g=>eS 1 u λu i j=>eC g λg k=>eBv g λg=>eN k (Ap x m (eO b λk=>eO (ld h k.1 (k.2+x.toNat) 0 6) λk=>eC k λk t=>eI .i64 k λk=>eC t λt d=>eI .i64 t λt=>eC d λd e=>eS 2 d λd A B=>eC e λe C=>eS 6 e λe D E=>eC C λC G=>eS 1 C λC H J=>eC G λG K=>eBv G λG=>eN K (Aj (Af lo 165 [BB v l o y z s w q u i j g,BB k t d A B e D E C H J G] h) λv l=>eB v (Hw lo a n c b m p f (Am (x+1)) l) (AF l)))))) (BZ h) :=
 lE
def Ic lo a n c b m p f x h:=
 LA 84 Tryz.f84 221311 0 111 lo ⟨[(0,.sl 5 a n c),(1,.sl 5 b m p),(4,.bool f),(5,Iv x)],[],h⟩
theorem Ic.e :
  Ic lo a n c b m p f x h=br (decide (x<(n:Int))) (Ap x n (eO a λv=>eO (ld h v.1 (v.2+x.toNat) 0 5) λv=>eC v λv l=>eI .i64 v λv=>eC l λl o=>eS 2 l λl s y=>eC o λo z=>eI .i64 o λo=>eC z λz u=>eI .i64 z λz=>eC u λu w=>eI .i64 u λu=>eN w (Ap x m (eO b λw=>eO (ld h w.1 (w.2+x.toNat) 0 5) λw=>eC w λw q=>eI .i64 w λw=>eC q λq g=>eS 2 q λq i j=>eC g λg k=>eI .i64 g λg=>eC k λk t=>eI .i64 k λk=>eC t λt d=>eI .i64 t λt=>eN d (Aj (Af lo 166 [N8 v l s y o z u,N8 w q i j g k t] h) λv l=>eB v (Ic lo a n c b m p f (Am (x+1)) l) (AF l)))))) (BZ h) :=
 lE
def Hx lo a n c b m p f x h:=
 LA 85 Tryz.f85 221311 0 111 lo ⟨[(0,.sl 9 a n c),(1,.sl 9 b m p),(4,.bool f),(5,Iv x)],[],h⟩
theorem Hx.e {lo n m:Nat}{a b:Pq}{c p:Nq}{f:Bool}{x:Int}{h:Heap} :
  Hx lo a n c b m p f x h=br (decide (x<(n:Int))) (Ap x n (eO a λv=>eO (ld h v.1 (v.2+x.toNat) 0 9) λv=>eC v λv l=>eI .i64 v λv=>eC l λl o=>eI .i64 l λl=>eC o λo s=>eI .i64 o λo=>eC s λs y=>eI .i64 s λs=>eC y λy z=>eI .i64 y λy=>eC z λz u=>eI .i64 z λz=>eC u λu w=>eS 2 u λu q g=>eC w λw i=>eT w λw=>eC i λi j=>eBv i λi=>eN j (Ap x m (eO b λj=>eO (ld h j.1 (j.2+x.toNat) 0 9) λj=>eC j λj k=>eI .i64 j λj=>eC k λk t=>eI .i64 k λk=>eC t λt d=>eI .i64 t λt=>eC d λd e=>eI .i64 d λd=>eC e λe A=>eI .i64 e λe=>eC A λA B=>eI .i64 A λA=>eC B λB C=>eS 2 B λB D E=>eC C λC G=>eT C λC=>eC G λG H=>eBv G λG=>eN H (Aj (Af lo 167 [N9 v l o s y z u q g w i,N9 j k t d e A B D E C G] h) λv l=>eB v (Hx lo a n c b m p f (Am (x+1)) l) (AF l)))))) (BZ h) :=
 lE
def Ie lo a n c b m p f x h:=
 LA 86 Tryz.f86 221311 0 111 lo ⟨[(0,.sl 5 a n c),(1,.sl 5 b m p),(4,.bool f),(5,Iv x)],[],h⟩
theorem Ie.e :
  Ie lo a n c b m p f x h=br (decide (x<(n:Int))) (Ap x n (eO a λv=>eO (ld h v.1 (v.2+x.toNat) 0 5) λv=>eC v λv l=>eI .i64 v λv=>eC l λl o=>eI .i64 l λl=>eC o λo s=>eI .i64 o λo=>eC s λs y=>eI .i64 s λs=>eC y λy z=>eI .i64 y λy=>eN z (Ap x m (eO b λz=>eO (ld h z.1 (z.2+x.toNat) 0 5) λz=>eC z λz u=>eI .i64 z λz=>eC u λu w=>eI .i64 u λu=>eC w λw q=>eI .i64 w λw=>eC q λq g=>eI .i64 q λq=>eC g λg i=>eI .i64 g λg=>eN i (Aj (Af lo 168 [T3 v l o s y,T3 z u w q g] h) λv l=>eB v (Ie lo a n c b m p f (Am (x+1)) l) (AF l)))))) (BZ h) :=
 lE
def Hr lo x S h:=
 LA 88 Tryz.f88 223111 0 1111 lo ⟨[(0,Iv x),(3,.str S)],[],h⟩
theorem Hr.e :
  Hr lo x S h=br (decide (x>0)) (Av 1 (h ++ [.rows 1 5 false [[.int .u8 (IntKind.wrap .u8 (Am (48+(x.tmod (10:Int)))))]]]) (.sl 1 (some (h.length,0)) 1 (some 1)) λv=>eO (Kz v) λv=>zce (QS v) S λv=>Hr lo (Am (x.tdiv (10:Int))) v (h ++ [.rows 1 5 false [[.int .u8 (IntKind.wrap .u8 (Am (48+(x.tmod (10:Int)))))]]])) (zce ⟨⟨[109]⟩⟩ S λv=>some (.str v,h)) :=
 lE
def Ed lo a n c x y h:=
 LA 89 Tryz.f89 22131 0 11 lo ⟨[(0,.sl 6 a n c),(1,Iv x),(5,Iv y)],[],h⟩
theorem Ed.e :
  Ed lo a n c y x h=br (decide (x<(n:Int))) (Ap x n (eO a λv=>eO (st lo h v.1 (v.2+x.toNat) 0 (AB y)) λv=>Ap x n (eO a λl=>eO (st lo v l.1 (l.2+x.toNat) 1 (AB (Am (y+1)))) λv=>Ap x n (eO a λl=>eO (ld v l.1 (l.2+x.toNat) 2 1) λl=>eC l λl o=>eN o (eS 2 l λl o s=>Aj (Af lo 169 [.sl 2 l o s,Iv (Am ((Am (y+1))+1))] v) λv l=>eI .i64 v λv=>Ap x n (eO a λo=>eO (ld l o.1 (o.2+x.toNat) 3 1) λo=>eC o λo s=>eN s (eS 6 o λo s b=>Aj (Af lo 170 [.sl 6 o s b,Iv v] l) λv l=>eI .i64 v λv=>Ap x n (eO a λo=>eO (ld l o.1 (o.2+x.toNat) 4 1) λo=>eC o λo s=>eN s (eS 1 o λo s b=>Aj (Af lo 171 [.sl 1 o s b,Iv v] l) λv l=>eI .i64 v λv=>br (v.tmod (3:Int)==0) (Ap x n (eO a λo=>eO (st lo l o.1 (o.2+x.toNat) 5 [.bool true]) λo=>Ed lo a n c (Am (v+1)) (Am (x+1)) o)) (Ap x n (eO a λo=>eO (st lo l o.1 (o.2+x.toNat) 5 [.bool false]) λl=>Ed lo a n c (Am (v+1)) (Am (x+1)) l))))))))))) (some (Iv y,h)) :=
 lE
def Gi lo a n c x y h:=
 LA 90 Tryz.f90 22131 0 11 lo ⟨[(0,.sl 5 a n c),(1,Iv x),(5,Iv y)],[],h⟩
theorem Gi.e :
  Gi lo a n c y x h=br (decide (x<(n:Int))) (Ap x n (eO a λv=>eO (st lo h v.1 (v.2+x.toNat) 0 (AB y)) λv=>Ap x n (eO a λl=>eO (ld v l.1 (l.2+x.toNat) 1 1) λl=>eC l λl o=>eN o (eS 2 l λl o s=>Aj (Af lo 172 [.sl 2 l o s,Iv (Am (y+1))] v) λv l=>eI .i64 v λv=>Ap x n (eO a λo=>eO (st lo l o.1 (o.2+x.toNat) 2 (AB v)) λl=>Ap x n (eO a λo=>eO (st lo l o.1 (o.2+x.toNat) 3 (AB (Am (v+1)))) λl=>Ap x n (eO a λo=>eO (st lo l o.1 (o.2+x.toNat) 4 (AB (Am ((Am (v+1))+1)))) λl=>Gi lo a n c (Am ((Am ((Am (v+1))+1))+1)) (Am (x+1)) l))))))) (some (Iv y,h)) :=
 lE
def Ee lo a n c x y h:=
 LA 91 Tryz.f91 22131 0 11 lo ⟨[(0,.sl 9 a n c),(1,Iv x),(5,Iv y)],[],h⟩
theorem Ee.e :
  Ee lo a n c y x h=br (decide (x<(n:Int))) (Ap x n (eO a λv=>eO (st lo h v.1 (v.2+x.toNat) 0 (AB y)) λv=>Ap x n (eO a λl=>eO (st lo v l.1 (l.2+x.toNat) 1 (AB (Am (y+1)))) λv=>Ap x n (eO a λl=>eO (st lo v l.1 (l.2+x.toNat) 2 (AB (Am ((Am (y+1))+1)))) λv=>Ap x n (eO a λl=>eO (st lo v l.1 (l.2+x.toNat) 3 (AB (Am ((Am ((Am (y+1))+1))+1)))) λv=>Ap x n (eO a λl=>eO (st lo v l.1 (l.2+x.toNat) 4 (AB (Am ((Am ((Am ((Am (y+1))+1))+1))+1)))) λv=>Ap x n (eO a λl=>eO (st lo v l.1 (l.2+x.toNat) 5 (AB (Am ((Am ((Am ((Am ((Am (y+1))+1))+1))+1))+1)))) λv=>Ap x n (eO a λl=>eO (ld v l.1 (l.2+x.toNat) 6 1) λl=>eC l λl o=>eN o (eS 2 l λl o s=>Aj (Af lo 172 [.sl 2 l o s,Iv (Am ((Am ((Am ((Am ((Am ((Am (y+1))+1))+1))+1))+1))+1))] v) λv l=>eI .i64 v λv=>Aj (Af lo 88 (AB v) l) λl o=>eT l λl=>Ap x n (eO a λs=>eO (st lo o s.1 (s.2+x.toNat) 7 [.str l]) λl=>br ((Am (v+(1:Int))).tmod (3:Int)==0) (Ap x n (eO a λo=>eO (st lo l o.1 (o.2+x.toNat) 8 [.bool true]) λo=>Ee lo a n c (Am ((Am (v+1))+1)) (Am (x+1)) o)) (Ap x n (eO a λo=>eO (st lo l o.1 (o.2+x.toNat) 8 [.bool false]) λl=>Ee lo a n c (Am ((Am (v+1))+1)) (Am (x+1)) l)))))))))))) (some (Iv y,h)) :=
 lE
def Gk lo a n c x y h:=
 LA 92 Tryz.f92 22131 0 11 lo ⟨[(0,.sl 5 a n c),(1,Iv x),(5,Iv y)],[],h⟩
theorem Gk.e :
  Gk lo a n c y x h=br (decide (x<(n:Int))) (Ap x n (eO a λv=>eO (st lo h v.1 (v.2+x.toNat) 0 (AB y)) λv=>Ap x n (eO a λl=>eO (st lo v l.1 (l.2+x.toNat) 1 (AB (Am (y+1)))) λv=>Ap x n (eO a λl=>eO (st lo v l.1 (l.2+x.toNat) 2 (AB (Am ((Am (y+1))+1)))) λv=>Ap x n (eO a λl=>eO (st lo v l.1 (l.2+x.toNat) 3 (AB (Am ((Am ((Am (y+1))+1))+1)))) λv=>Ap x n (eO a λl=>eO (st lo v l.1 (l.2+x.toNat) 4 (AB (Am ((Am ((Am ((Am (y+1))+1))+1))+1)))) λv=>Gk lo a n c (Am ((Am ((Am ((Am ((Am (y+1))+1))+1))+1))+1)) (Am (x+1)) v)))))) (some (Iv y,h)) :=
 lE
def Eg lo a n c x y z h:=
 LA 93 Tryz.f93 22131 0 11 lo ⟨[(0,.sl 6 a n c),(1,Iv x),(4,Iv y),(5,Iv z)],[],h⟩
theorem Eg.e :
  Eg lo a n c y z x h=br (decide (x<(n:Int))) (Ap x n (eO a λv=>eO (ld h v.1 (v.2+x.toNat) 0 1) λv=>eC v λv l=>eN l (eI .i64 v λv=>br (v==y) (Ap x n (eO a λv=>eO (ld h v.1 (v.2+x.toNat) 1 1) λv=>eC v λv l=>eN l (eI .i64 v λv=>br (v==Am (y+(1:Int))) (Ap x n (eO a λv=>eO (ld h v.1 (v.2+x.toNat) 2 1) λv=>eC v λv l=>eN l (eS 2 v λv l o=>Aj (Af lo 173 [.sl 2 v l o,Iv (Am ((Am (y+1))+1))] h) λv l=>eI .i64 v λv=>br (decide (v<0)) (some (Iv (-1),l)) (Ap x n (eO a λo=>eO (ld l o.1 (o.2+x.toNat) 3 1) λo=>eC o λo s=>eN s (eS 6 o λo s b=>Aj (Af lo 174 [.sl 6 o s b,Iv v] l) λv l=>eI .i64 v λv=>br (decide (v<0)) (some (Iv (-1),l)) (Ap x n (eO a λo=>eO (ld l o.1 (o.2+x.toNat) 4 1) λo=>eC o λo s=>eN s (eS 1 o λo s b=>Aj (Af lo 175 [.sl 1 o s b,Iv v] l) λv l=>eI .i64 v λv=>br (decide (v<0)) (some (Iv (-1),l)) (Ap x n (eO a λo=>eO (ld l o.1 (o.2+x.toNat) 5 1) λo=>eC o λo s=>eN s (eB o (br (v.tmod (3:Int)==0) (Eg lo a n c (Am (v+1)) z (Am (x+1)) l) (some (Iv (-1),l))) (br (v.tmod (3:Int)==0) (some (Iv (-1),l)) (Eg lo a n c (Am (v+1)) z (Am (x+1)) l)))))))))))))) (some (Iv (-1),h))))) (some (Iv (-1),h))))) (some (Iv y,h)) :=
 lE
def Gm lo a n c x y z h:=
 LA 94 Tryz.f94 22131 0 11 lo ⟨[(0,.sl 5 a n c),(1,Iv x),(4,Iv y),(5,Iv z)],[],h⟩
theorem Gm.e :
  Gm lo a n c y z x h=br (decide (x<(n:Int))) (Ap x n (eO a λv=>eO (ld h v.1 (v.2+x.toNat) 0 1) λv=>eC v λv l=>eN l (eI .i64 v λv=>br (v==y) (Ap x n (eO a λv=>eO (ld h v.1 (v.2+x.toNat) 1 1) λv=>eC v λv l=>eN l (eS 2 v λv l o=>Aj (Af lo 176 [.sl 2 v l o,Iv (Am (y+1))] h) λv l=>eI .i64 v λv=>br (decide (v<0)) (some (Iv (-1),l)) (Ap x n (eO a λo=>eO (ld l o.1 (o.2+x.toNat) 2 1) λo=>eC o λo s=>eN s (eI .i64 o λo=>br (o==v) (Ap x n (eO a λo=>eO (ld l o.1 (o.2+x.toNat) 3 1) λo=>eC o λo s=>eN s (eI .i64 o λo=>br (o==Am (v+(1:Int))) (Ap x n (eO a λo=>eO (ld l o.1 (o.2+x.toNat) 4 1) λo=>eC o λo s=>eN s (eI .i64 o λo=>br (o==Am (Am (v+(1:Int))+(1:Int))) (Gm lo a n c (Am ((Am ((Am (v+1))+1))+1)) z (Am (x+1)) l) (some (Iv (-1),l))))) (some (Iv (-1),l))))) (some (Iv (-1),l)))))))) (some (Iv (-1),h))))) (some (Iv y,h)) :=
 lE
def Eh lo a n c x y z h:=
 LA 95 Tryz.f95 22131 0 11 lo ⟨[(0,.sl 9 a n c),(1,Iv x),(4,Iv y),(5,Iv z)],[],h⟩
theorem Eh.e :
  Eh lo a n c y z x h=br (decide (x<(n:Int))) (Ap x n (eO a λv=>eO (ld h v.1 (v.2+x.toNat) 0 1) λv=>eC v λv l=>eN l (eI .i64 v λv=>br (v==y) (Ap x n (eO a λv=>eO (ld h v.1 (v.2+x.toNat) 1 1) λv=>eC v λv l=>eN l (eI .i64 v λv=>br (v==Am (y+(1:Int))) (Ap x n (eO a λv=>eO (ld h v.1 (v.2+x.toNat) 2 1) λv=>eC v λv l=>eN l (eI .i64 v λv=>br (v==Am (Am (y+(1:Int))+(1:Int))) (Ap x n (eO a λv=>eO (ld h v.1 (v.2+x.toNat) 3 1) λv=>eC v λv l=>eN l (eI .i64 v λv=>br (v==Am (Am (Am (y+(1:Int))+(1:Int))+(1:Int))) (Ap x n (eO a λv=>eO (ld h v.1 (v.2+x.toNat) 4 1) λv=>eC v λv l=>eN l (eI .i64 v λv=>br (v==Am (Am (Am (Am (y+(1:Int))+(1:Int))+(1:Int))+(1:Int))) (Ap x n (eO a λv=>eO (ld h v.1 (v.2+x.toNat) 5 1) λv=>eC v λv l=>eN l (eI .i64 v λv=>br (v==Am (Am (Am (Am (Am (y+(1:Int))+(1:Int))+(1:Int))+(1:Int))+(1:Int))) (Ap x n (eO a λv=>eO (ld h v.1 (v.2+x.toNat) 6 1) λv=>eC v λv l=>eN l (eS 2 v λv l o=>Aj (Af lo 176 [.sl 2 v l o,Iv (Am ((Am ((Am ((Am ((Am ((Am (y+1))+1))+1))+1))+1))+1))] h) λv l=>eI .i64 v λv=>br (decide (v<0)) (some (Iv (-1),l)) (Ap x n (eO a λo=>eO (ld l o.1 (o.2+x.toNat) 7 1) λo=>eC o λo s=>eN s (eT o λo=>Aj (Af l.length 88 (AB v) l) λl s=>eT l λl=>br (o.toList==l.toList) (Ap x n (eO a λl=>eO (ld s l.1 (l.2+x.toNat) 8 1) λl=>eC l λl o=>eN o (eB l (br ((Am (v+(1:Int))).tmod (3:Int)==0) (Eh lo a n c (Am ((Am (v+1))+1)) z (Am (x+1)) s) (some (Iv (-1),s))) (br ((Am (v+(1:Int))).tmod (3:Int)==0) (some (Iv (-1),s)) (Eh lo a n c (Am ((Am (v+1))+1)) z (Am (x+1)) s))))) (some (Iv (-1),s)))))))) (some (Iv (-1),h))))) (some (Iv (-1),h))))) (some (Iv (-1),h))))) (some (Iv (-1),h))))) (some (Iv (-1),h))))) (some (Iv (-1),h))))) (some (Iv y,h)) :=
 lE
def Gp lo a n c x y z h:=
 LA 96 Tryz.f96 22131 0 11 lo ⟨[(0,.sl 5 a n c),(1,Iv x),(4,Iv y),(5,Iv z)],[],h⟩
theorem Gp.e :
  Gp lo a n c y z x h=br (decide (x<(n:Int))) (Ap x n (eO a λv=>eO (ld h v.1 (v.2+x.toNat) 0 1) λv=>eC v λv l=>eN l (eI .i64 v λv=>br (v==y) (Ap x n (eO a λv=>eO (ld h v.1 (v.2+x.toNat) 1 1) λv=>eC v λv l=>eN l (eI .i64 v λv=>br (v==Am (y+(1:Int))) (Ap x n (eO a λv=>eO (ld h v.1 (v.2+x.toNat) 2 1) λv=>eC v λv l=>eN l (eI .i64 v λv=>br (v==Am (Am (y+(1:Int))+(1:Int))) (Ap x n (eO a λv=>eO (ld h v.1 (v.2+x.toNat) 3 1) λv=>eC v λv l=>eN l (eI .i64 v λv=>br (v==Am (Am (Am (y+(1:Int))+(1:Int))+(1:Int))) (Ap x n (eO a λv=>eO (ld h v.1 (v.2+x.toNat) 4 1) λv=>eC v λv l=>eN l (eI .i64 v λv=>br (v==Am (Am (Am (Am (y+(1:Int))+(1:Int))+(1:Int))+(1:Int))) (Gp lo a n c (Am ((Am ((Am ((Am ((Am (y+1))+1))+1))+1))+1)) z (Am (x+1)) h) (some (Iv (-1),h))))) (some (Iv (-1),h))))) (some (Iv (-1),h))))) (some (Iv (-1),h))))) (some (Iv (-1),h))))) (some (Iv y,h)) :=
 lE
def Hn lo a n c x y z h:=
 LA 97 Tryz.f97 2213111 0 1111 lo ⟨[(0,.sl 6 a n c),(1,Iv x),(4,Iv y),(5,Iv z)],[],h⟩
theorem Hn.e :
  Hn lo a n c y z x h=br (decide (x<(n:Int))) (Ap x n (eO a λv=>eO (ld h v.1 (v.2+x.toNat) 0 6) λv=>eC v λv l=>eI .i64 v λv=>eC l λl o=>eI .i64 l λl=>eC o λo s=>eS 2 o λo b u=>eC s λs w=>eS 6 s λs p q=>eC w λw g=>eS 1 w λw i j=>eC g λg k=>eBv g λg=>eN k (Aj (Af lo 177 [BB v l o b u s p q w i j g,Iv y] h) λv l=>eI .i64 v λv=>br (decide (v<0)) (some (Iv (-1),l)) (Hn lo a n c v z (Am (x+1)) l)))) (some (Iv y,h)) :=
 lE
def H0 lo a n c x y z h:=
 LA 98 Tryz.f98 2213111 0 1111 lo ⟨[(0,.sl 5 a n c),(1,Iv x),(4,Iv y),(5,Iv z)],[],h⟩
theorem H0.e :
  H0 lo a n c y z x h=br (decide (x<(n:Int))) (Ap x n (eO a λv=>eO (ld h v.1 (v.2+x.toNat) 0 5) λv=>eC v λv l=>eI .i64 v λv=>eC l λl o=>eS 2 l λl s b=>eC o λo u=>eI .i64 o λo=>eC u λu w=>eI .i64 u λu=>eC w λw p=>eI .i64 w λw=>eN p (Aj (Af lo 178 [N8 v l s b o u w,Iv y] h) λv l=>eI .i64 v λv=>br (decide (v<0)) (some (Iv (-1),l)) (H0 lo a n c v z (Am (x+1)) l)))) (some (Iv y,h)) :=
 lE
def Ho lo a n c x y z h:=
 LA 99 Tryz.f99 2213111 0 1111 lo ⟨[(0,.sl 9 a n c),(1,Iv x),(4,Iv y),(5,Iv z)],[],h⟩
theorem Ho.e :
  Ho lo a n c y z x h=br (decide (x<(n:Int))) (Ap x n (eO a λv=>eO (ld h v.1 (v.2+x.toNat) 0 9) λv=>eC v λv l=>eI .i64 v λv=>eC l λl o=>eI .i64 l λl=>eC o λo s=>eI .i64 o λo=>eC s λs b=>eI .i64 s λs=>eC b λb u=>eI .i64 b λb=>eC u λu w=>eI .i64 u λu=>eC w λw p=>eS 2 w λw q g=>eC p λp i=>eT p λp=>eC i λi j=>eBv i λi=>eN j (Aj (Af lo 179 [N9 v l o s b u w q g p i,Iv y] h) λv l=>eI .i64 v λv=>br (decide (v<0)) (some (Iv (-1),l)) (Ho lo a n c v z (Am (x+1)) l)))) (some (Iv y,h)) :=
 lE
def Kg lo f x a n c b m p d k u e i s h:=
 LA 101 Tryz.f101 221311 0 111 lo ⟨[(1,.lp 1 0),(2,.bool f),(3,Iv x)],[(1,(CC a n c b m p d k u e i s))],h⟩
def In lo f x a n c b m p d k u e i s h:=
 LA 101 Tryz.f101 2213111 2 1111 lo ⟨[(1,.lp 1 0),(2,.bool f),(4,Iv x)],[(1,(CC a n c b m p d k u e i s))],h⟩
def Im lo f x a n c b m p d k u e i s h:=
 LA 101 Tryz.f101 22131111 4 11111 lo ⟨[(1,.lp 1 0),(2,.bool f),(5,Iv x)],[(1,(CC a n c b m p d k u e i s))],h⟩
def Il lo f x a n c b m p d k u e i s h:=
 LA 101 Tryz.f101 221311111 6 111111 lo ⟨[(1,.lp 1 0),(2,.bool f),(6,Iv x)],[(1,(CC a n c b m p d k u e i s))],h⟩
theorem Kg.e {lo n m k i:Nat}{f:Bool}{x:Int}{a b d A:Pq}{c p u s:Nq}{h:Heap} :
  Kg lo f x a n c b m p d k u A i s h=br (decide (x<3)) (Ap x n (eO a λv=>eO (ld h v.1 (v.2+x.toNat) 0 1) λv=>eC v λv l=>eN l (eI .i64 v λv=>br (v==x) (Ap x n (eO a λv=>eO (ld h v.1 (v.2+x.toNat) 0 6) λv=>eC v λv l=>eI .i64 v λv=>eC l λl o=>eI .i64 l λl=>eC o λo y=>eS 2 o λo z w=>eC y λy q=>eS 6 y λy g j=>eC q λq t=>eS 1 q λq e B=>eC t λt C=>eBv t λt=>eN C (Aj (Af lo 53 [BB v l o z w y g j q e B t] h) λv l=>eB v (Kg lo f (Am (x+1)) a n c b m p d k u A i s l) (AF l)))) (AF h)))) (In lo f 0 a n c b m p d k u A i s h) :=
 lE
theorem In.e :
  In lo f x b m c a n p d k u A i s h=br (decide (x<(n:Int))) (Ap x n (eO a λv=>eO (ld h v.1 (v.2+x.toNat) 0 5) λv=>eC v λv l=>eI .i64 v λv=>eC l λl o=>eS 2 l λl y z=>eC o λo w=>eI .i64 o λo=>eC w λw q=>eI .i64 w λw=>eC q λq g=>eI .i64 q λq=>eN g (Aj (Af lo 180 [N8 v l y z o w q] h) λv l=>eB v (In lo f (Am (x+1)) b m c a n p d k u A i s l) (AF l)))) (Im lo f 0 b m c a n p d k u A i s h) :=
 lE
theorem Im.e {lo m k n i:Nat}{f:Bool}{x:Int}{b d a A:Pq}{c p u s:Nq}{h:Heap} :
  Im lo f x b m c d k p a n u A i s h=br (decide (x<(n:Int))) (Ap x n (eO a λv=>eO (ld h v.1 (v.2+x.toNat) 0 9) λv=>eC v λv l=>eI .i64 v λv=>eC l λl o=>eI .i64 l λl=>eC o λo y=>eI .i64 o λo=>eC y λy z=>eI .i64 y λy=>eC z λz w=>eI .i64 z λz=>eC w λw q=>eI .i64 w λw=>eC q λq g=>eS 2 q λq j t=>eC g λg e=>eT g λg=>eC e λe B=>eBv e λe=>eN B (Aj (Af lo 181 [Au b m c d k p a n u A i s,N9 v l o y z w q j t g e] h) λv l=>eB v (Im lo f (Am (x+1)) b m c d k p a n u A i s l) (AF l)))) (Il lo f 0 b m c d k p a n u A i s h) :=
 lE
theorem Il.e :
  Il lo f x b m c d k p A i u a n s h=br (decide (x<(n:Int))) (Ap x n (eO a λv=>eO (ld h v.1 (v.2+x.toNat) 0 5) λv=>eC v λv l=>eI .i64 v λv=>eC l λl o=>eI .i64 l λl=>eC o λo y=>eI .i64 o λo=>eC y λy z=>eI .i64 y λy=>eC z λz w=>eI .i64 z λz=>eN w (Aj (Af lo 182 [T3 v l o y z] h) λv l=>eB v (Il lo f (Am (x+1)) b m c d k p A i u a n s l) (AF l)))) (Aj (Af lo 183 [Au b m c d k p A i u a n s] h) λv l=>eB v (BZ l) (AF l)) :=
 lE
theorem WH {e:Pq} (hk:(Aj (Af lo 54 (Ct x 1 5) h) λv l=>eB v (Aj (Af lo 184 [Au a n c b m p d k u e i s,A9 x y z t S f] l) λv o=>eU v λv=>eC v λv w=>eA v λv=>eC v λv q=>eS 6 v λv g j=>eC q λq A=>eS 5 q λq B C=>eC A λA D=>eS 9 A λA E G=>eC D λD H=>eS 5 D λD J K=>eN H (eC w λw H=>eB w (eN H (some (.tup [Au v g j q B C A E G D J K,.bool true],o))) (eN H (some (.tup [Au v g j q B C A E G D J K,.bool false],o))))) (Aj (Af lo 54 (Ct x 6 9) l) λv l=>eB v (Aj (Af lo 185 [Au a n c b m p d k u e i s,A9 x y z t S f] l) λv o=>eU v λv=>eC v λv w=>eA v λv=>eC v λv q=>eS 6 v λv g j=>eC q λq A=>eS 5 q λq B C=>eC A λA D=>eS 9 A λA E G=>eC D λD H=>eS 5 D λD J K=>eN H (eC w λw H=>eB w (eN H (some (.tup [Au v g j q B C A E G D J K,.bool true],o))) (eN H (some (.tup [Au v g j q B C A E G D J K,.bool false],o))))) (Aj (Af lo 54 (Ct x 10 13) l) λv l=>eB v (Aj (Af lo 186 [Au a n c b m p d k u e i s,A9 x y z t S f] l) λv o=>eU v λv=>eC v λv w=>eA v λv=>eC v λv q=>eS 6 v λv g j=>eC q λq A=>eS 5 q λq B C=>eC A λA D=>eS 9 A λA E G=>eC D λD H=>eS 5 D λD J K=>eN H (eC w λw H=>eB w (eN H (some (.tup [Au v g j q B C A E G D J K,.bool true],o))) (eN H (some (.tup [Au v g j q B C A E G D J K,.bool false],o))))) (some (.tup [Au a n c b m p d k u e i s,.bool false],l)))))=some r) :
  Af lo 102 [Au a n c b m p d k u e i s,A9 x y z t S f] h=some r :=
 eK Tryz.func102 hk
def IL lo x a n c b m p d k u e i s j A g C G B H D J a0 P c0 n0 a1 n1 c1 n2 a2 n3 c2 n4 a3 n5 c3 n6 a4 n7 c4 a5 n8 c5 h:=
 LA 103 Tryz.f103 221311 0 111 lo ⟨[(1,.lp 1 0),(2,.lp 2 0),(3,.lp 3 0),(4,Iv x)],[(1,(CC a n c b m p d k u e i s)),(2,[.sl j A g C,.sl G B H D,.sl J a0 P c0,.sl n0 a1 n1 c1]),(3,[.sl n2 a2 n3 c2,.sl n4 a3 n5 c3,.sl n6 a4 n7 c4,.sl 5 a5 n8 c5])],h⟩
def FT lo x a n c b m p d k u e i s j A g C G B H D J a0 P c0 n0 a1 n1 c1 n2 a2 n3 c2 n4 a3 n5 c3 n6 a4 n7 c4 a5 n8 c5 h:=
 LA 103 Tryz.f103 2213111 2 1111 lo ⟨[(1,.lp 1 0),(2,.lp 2 0),(3,.lp 3 0),(5,Iv x)],[(1,(CC a n c b m p d k u e i s)),(2,[.sl j A g C,.sl G B H D,.sl J a0 P c0,.sl n0 a1 n1 c1]),(3,[.sl n2 a2 n3 c2,.sl n4 a3 n5 c3,.sl n6 a4 n7 c4,.sl 5 a5 n8 c5])],h⟩
def FS lo x a n c b m p d k u e i s j A g C G B H D J a0 P c0 n0 a1 n1 c1 n2 a2 n3 c2 n4 a3 n5 c3 n6 a4 n7 c4 a5 n8 c5 h:=
 LA 103 Tryz.f103 22131111 4 11111 lo ⟨[(1,.lp 1 0),(2,.lp 2 0),(3,.lp 3 0),(7,Iv x)],[(1,(CC a n c b m p d k u e i s)),(2,[.sl j A g C,.sl G B H D,.sl J a0 P c0,.sl n0 a1 n1 c1]),(3,[.sl n2 a2 n3 c2,.sl n4 a3 n5 c3,.sl n6 a4 n7 c4,.sl 5 a5 n8 c5])],h⟩
theorem IL.e {lo n m k i j g G H J P n0 n1 n2 n3 n4 n5 n6 n7 n8:Nat}{x:Int}{a b d A B a0 a1 a2 a3 a4 a5 a6:Pq}{c p u s C D c0 c1 c2 c3 c4 c5:Nq}{h:Heap} :
  IL lo x a n c b m p d k u A i s j B g C G a0 H D J a1 P c0 n0 a2 n1 c1 n2 a3 n3 c2 n4 a4 n5 c3 n6 a5 n7 c4 a6 n8 c5 h=br (decide (x<(n:Int))) (Ap x n (eO a λv=>eO (ld h v.1 (v.2+x.toNat) 0 6) λv=>eC v λv l=>eI .i64 v λv=>eC l λl o=>eI .i64 l λl=>eC o λo y=>eS 2 o λo z w=>eC y λy q=>eS 6 y λy t e=>eC q λq f=>eS 1 q λq E K=>eC f λf L=>eBv f λf=>eN L (Aj (Af lo 58 [BB v l o z w y t e q E K f] h) λv l=>eA v λv=>eC v λv o=>eI .i64 v λv=>eC o λo y=>eI .i64 o λo=>eC y λy z=>eS 2 y λy w q=>eC z λz t=>eS 6 z λz e f=>eC t λt E=>eS 1 t λt K L=>eC E λE M=>eBv E λE=>eN M (Av 6 (l ++ [.rows 6 29 false [Dd v o y w q z e f t K L E]]) (.sl 6 (some (l.length,0)) 1 (some 1)) λM=>Df lo 29 6 96 (.sl n2 a3 n3 c2) M (l ++ [.rows 6 29 false [Dd v o y w q z e f t K L E]]) λv l=>eS 6 v λv o y=>IL lo (Am (x+1)) a n c b m p d k u A i s j B g C G a0 H D J a1 P c0 n0 a2 n1 c1 6 v o y n4 a4 n5 c3 n6 a5 n7 c4 a6 n8 c5 l)))) (FT lo 0 a n c b m p d k u A i s j B g C G a0 H D J a1 P c0 n0 a2 n1 c1 n2 a3 n3 c2 n4 a4 n5 c3 n6 a5 n7 c4 a6 n8 c5 h) :=
 lE
theorem FT.e {lo m n k i j g G H J P n0 n1 n2 n3 n4 n5 n6 n7 n8:Nat}{x:Int}{b a d A B a0 a1 a2 a3 a4 a5 a6:Pq}{c p u s C D c0 c1 c2 c3 c4 c5:Nq}{h:Heap} :
  FT lo x b m c a n p d k u A i s j B g C G a0 H D J a1 P c0 n0 a2 n1 c1 n2 a3 n3 c2 n4 a4 n5 c3 n6 a5 n7 c4 a6 n8 c5 h=br (decide (x<(n:Int))) (Ap x n (eO a λv=>eO (ld h v.1 (v.2+x.toNat) 0 5) λv=>eC v λv l=>eI .i64 v λv=>eC l λl o=>eS 2 l λl y z=>eC o λo w=>eI .i64 o λo=>eC w λw q=>eI .i64 w λw=>eC q λq t=>eI .i64 q λq=>eN t (Av 2 (h ++ [.rows 2 36 false []]) (.sl 2 l y z) λl=>Df lo 36 2 16 (.sl 2 (some (h.length,0)) 0 (some 0)) l (h ++ [.rows 2 36 false []]) λl y=>eS 2 l λl z t=>Av 5 (y ++ [.rows 5 66 false [Oi v l z t o w q]]) (.sl 5 (some (y.length,0)) 1 (some 1)) λe=>Df lo 66 5 56 (.sl n4 a4 n5 c3) e (y ++ [.rows 5 66 false [Oi v l z t o w q]]) λv l=>eS 5 v λv o y=>FT lo (Am (x+1)) b m c a n p d k u A i s j B g C G a0 H D J a1 P c0 n0 a2 n1 c1 n2 a3 n3 c2 5 v o y n6 a5 n7 c4 a6 n8 c5 l))) (FS lo 0 b m c a n p d k u A i s j B g C G a0 H D J a1 P c0 n0 a2 n1 c1 n2 a3 n3 c2 n4 a4 n5 c3 n6 a5 n7 c4 a6 n8 c5 h) :=
 lE
theorem FS.e {lo J P n n0 n1 n2 n3 n4 n5 n6 n7 n8 m k i j g G H:Nat}{x:Int}{a0 a1 a a2 a3 a4 a5 a6 b d A B:Pq}{C D c0 c1 c2 c3 c4 c5 c p u s:Nq}{h:Heap} :
  FS lo x a0 J C a1 P D a n c0 a2 n0 c1 n1 a3 n2 c2 n3 a4 n4 c3 n5 a5 n6 c4 n7 a6 n8 c5 m b k c i d j p g A G u B H s h=br (decide (x<(n:Int))) (Ap x n (eO a λv=>eO (ld h v.1 (v.2+x.toNat) 0 9) λv=>eC v λv l=>eI .i64 v λv=>eC l λl o=>eI .i64 l λl=>eC o λo y=>eI .i64 o λo=>eC y λy z=>eI .i64 y λy=>eC z λz w=>eI .i64 z λz=>eC w λw q=>eI .i64 w λw=>eC q λq t=>eS 2 q λq e f=>eC t λt E=>eT t λt=>eC E λE K=>eBv E λE=>eN K (Aj (Af lo 187 [AD y z w q e f t E] h) λy z=>eA y λy=>eC y λy w=>eI .i64 y λy=>eC w λw q=>eI .i64 w λw=>eC q λq t=>eI .i64 q λq=>eC t λt e=>eS 2 t λt f E=>eC e λe K=>eT e λe=>eC K λK L=>eBv K λK=>eN L (Av 9 (z ++ [.rows 9 123 false [Oj v l o y w q t f E e K]]) (.sl 9 (some (z.length,0)) 1 (some 1)) λL=>Df lo 123 9 96 (.sl g A G u) L (z ++ [.rows 9 123 false [Oj v l o y w q t f E e K]]) λv l=>eS 9 v λv o y=>FS lo (Am (x+1)) a0 J C a1 P D a n c0 a2 n0 c1 n1 a3 n2 c2 n3 a4 n4 c3 n5 a5 n6 c4 n7 a6 n8 c5 m b k c i d j p 9 v o y B H s l)))) (some (.agg [.sl m b k c,.sl i d j p,.sl g A G u,.sl 5 B H s],h)) :=
 lE
def Hj lo a n c b m p x h:=
 LA 104 Tryz.f104 221311 0 111 lo ⟨[(0,.sl 6 a n c),(3,.sl 6 b m p),(4,Iv x)],[],h⟩
theorem Hj.e :
  Hj lo b n p a m c x h=br (decide (x<(n:Int))) (Ap x n (eO b λv=>eO (ld h v.1 (v.2+x.toNat) 0 6) λv=>eC v λv l=>eI .i64 v λv=>eC l λl o=>eI .i64 l λl=>eC o λo s=>eS 2 o λo y z=>eC s λs u=>eS 6 s λs w q=>eC u λu g=>eS 1 u λu i j=>eC g λg k=>eBv g λg=>eN k (Aj (Af lo 188 [BB v l o y z s w q u i j g] h) λv l=>eA v λv=>eC v λv o=>eI .i64 v λv=>eC o λo s=>eI .i64 o λo=>eC s λs y=>eS 2 s λs z u=>eC y λy w=>eS 6 y λy q g=>eC w λw i=>eS 1 w λw j k=>eC i λi t=>eBv i λi=>eN t (Ap x m (eO a λt=>eO (st lo l t.1 (t.2+x.toNat) 0 (Dd v o s z u y q g w j k i)) λv=>Hj lo b n p a m c (Am (x+1)) v))))) (some (.sl 6 a m c,h)) :=
 lE
def HW lo a n c b m p x h:=
 LA 105 Tryz.f105 221311 0 111 lo ⟨[(0,.sl 5 a n c),(3,.sl 5 b m p),(4,Iv x)],[],h⟩
theorem HW.e :
  HW lo b n p a m c x h=br (decide (x<(n:Int))) (Ap x n (eO b λv=>eO (ld h v.1 (v.2+x.toNat) 0 5) λv=>eC v λv l=>eI .i64 v λv=>eC l λl o=>eS 2 l λl s y=>eC o λo z=>eI .i64 o λo=>eC z λz u=>eI .i64 z λz=>eC u λu w=>eI .i64 u λu=>eN w (Aj (Af lo 189 [N8 v l s y o z u] h) λv l=>eA v λv=>eC v λv o=>eI .i64 v λv=>eC o λo s=>eS 2 o λo y z=>eC s λs u=>eI .i64 s λs=>eC u λu w=>eI .i64 u λu=>eC w λw q=>eI .i64 w λw=>eN q (Ap x m (eO a λq=>eO (st lo l q.1 (q.2+x.toNat) 0 (Oi v o y z s u w)) λv=>HW lo b n p a m c (Am (x+1)) v))))) (some (.sl 5 a m c,h)) :=
 lE
def Hk lo a n c b m p x h:=
 LA 106 Tryz.f106 221311 0 111 lo ⟨[(0,.sl 9 a n c),(3,.sl 9 b m p),(4,Iv x)],[],h⟩
theorem Hk.e :
  Hk lo b n p a m c x h=br (decide (x<(n:Int))) (Ap x n (eO b λv=>eO (ld h v.1 (v.2+x.toNat) 0 9) λv=>eC v λv l=>eI .i64 v λv=>eC l λl o=>eI .i64 l λl=>eC o λo s=>eI .i64 o λo=>eC s λs y=>eI .i64 s λs=>eC y λy z=>eI .i64 y λy=>eC z λz u=>eI .i64 z λz=>eC u λu w=>eS 2 u λu q g=>eC w λw i=>eT w λw=>eC i λi j=>eBv i λi=>eN j (Aj (Af lo 190 [N9 v l o s y z u q g w i] h) λv l=>eA v λv=>eC v λv o=>eI .i64 v λv=>eC o λo s=>eI .i64 o λo=>eC s λs y=>eI .i64 s λs=>eC y λy z=>eI .i64 y λy=>eC z λz u=>eI .i64 z λz=>eC u λu w=>eI .i64 u λu=>eC w λw q=>eS 2 w λw g i=>eC q λq j=>eT q λq=>eC j λj k=>eBv j λj=>eN k (Ap x m (eO a λk=>eO (st lo l k.1 (k.2+x.toNat) 0 (Oj v o s y z u w g i q j)) λv=>Hk lo b n p a m c (Am (x+1)) v))))) (some (.sl 9 a m c,h)) :=
 lE
def HY lo a n c b m p x h:=
 LA 107 Tryz.f107 221311 0 111 lo ⟨[(0,.sl 5 a n c),(3,.sl 5 b m p),(4,Iv x)],[],h⟩
theorem HY.e :
  HY lo b n p a m c x h=br (decide (x<(n:Int))) (Ap x n (eO b λv=>eO (ld h v.1 (v.2+x.toNat) 0 5) λv=>eC v λv l=>eI .i64 v λv=>eC l λl o=>eI .i64 l λl=>eC o λo s=>eI .i64 o λo=>eC s λs y=>eI .i64 s λs=>eC y λy z=>eI .i64 y λy=>eN z (Aj (Af lo 191 [T3 v l o s y] h) λv l=>eA v λv=>eC v λv o=>eI .i64 v λv=>eC o λo s=>eI .i64 o λo=>eC s λs y=>eI .i64 s λs=>eC y λy z=>eI .i64 y λy=>eC z λz u=>eI .i64 z λz=>eN u (Ap x m (eO a λu=>eO (st lo l u.1 (u.2+x.toNat) 0 (Ww v o s y z)) λv=>HY lo b n p a m c (Am (x+1)) v))))) (some (.sl 5 a m c,h)) :=
 lE
def CV lo f x a n c h:=
 LA 111 Tryz.f111 22131 0 11 lo ⟨[(1,.lp 1 0),(2,.bool f),(3,Iv x)],[(1,(BC a n c))],h⟩
theorem CV.e :
  CV lo f x a n c h=br (decide (x<(n:Int))) (Ap x n (eO a λv=>eO (ld h v.1 (v.2+x.toNat) 1 2) λv=>eC v λv l=>eI .i64 v λv=>eC l λl o=>eI .i64 l λl=>eN o (br ((v==0)&&((l==0)&&true)) (Ap x n (eO a λv=>eO (ld h v.1 (v.2+x.toNat) 1 2) λv=>eC v λv l=>eI .i64 v λv=>eC l λl o=>eI .i64 l λl=>eN o (br ((v==0)&&((l==0)&&true)) (Ap x n (eO a λv=>eO (ld h v.1 (v.2+x.toNat) 0 1) λv=>eC v λv l=>eN l (eI .i64 v λv=>br (v==0) (Ap x n (eO a λv=>eO (ld h v.1 (v.2+x.toNat) 4 1) λv=>eC v λv l=>eN l (eT v λv=>br (v.toList==(ByteArray.mk #[]).toList) (Ap x n (eO a λv=>eO (ld h v.1 (v.2+x.toNat) 5 1) λv=>eC v λv l=>eN l (eB v (AF h) (Ap x n (eO a λv=>eO (ld h v.1 (v.2+x.toNat) 3 1) λv=>eC v λv l=>eN l (eS 2 v λv v l=>br (decide ((v:Int)>0)) (AF h) (CV lo f (Am (x+1)) a n c h))))))) (AF h)))) (AF h)))) (CV lo f (Am (x+1)) a n c h)))) (Ap x n (eO a λv=>eO (ld h v.1 (v.2+x.toNat) 0 6) λv=>eC v λv l=>eI .i64 v λv=>eC l λl o=>eI .i64 l λl=>eC o λo s=>eI .i64 o λo=>eC s λs b=>eS 2 s λs y z=>eC b λb u=>eT b λb=>eC u λu w=>eBv u λu=>eN w (Aj (Af lo 112 [AD v l o s y z b u] h) λv l=>eB v (Ap x n (eO a λv=>eO (ld l v.1 (v.2+x.toNat) 0 1) λv=>eC v λv o=>eN o (eI .i64 v λv=>br (v==x) (Ap x n (eO a λv=>eO (ld l v.1 (v.2+x.toNat) 1 2) λv=>eC v λv o=>eI .i64 v λv=>eC o λo s=>eI .i64 o λo=>eN s (br ((v==0)&&((o==0)&&true)) (Ap x n (eO a λv=>eO (ld l v.1 (v.2+x.toNat) 0 1) λv=>eC v λv o=>eN o (eI .i64 v λv=>br (v==0) (Ap x n (eO a λv=>eO (ld l v.1 (v.2+x.toNat) 4 1) λv=>eC v λv o=>eN o (eT v λv=>br (v.toList==(ByteArray.mk #[]).toList) (Ap x n (eO a λv=>eO (ld l v.1 (v.2+x.toNat) 5 1) λv=>eC v λv o=>eN o (eB v (AF l) (Ap x n (eO a λv=>eO (ld l v.1 (v.2+x.toNat) 3 1) λv=>eC v λv o=>eN o (eS 2 v λv v o=>br (decide ((v:Int)>0)) (AF l) (CV lo f (Am (x+1)) a n c l))))))) (AF l)))) (AF l)))) (CV lo f (Am (x+1)) a n c l)))) (AF l)))) (AF l))))))) (br ((n:Int)==4) (BZ h) (AF h)) :=
 lE
def Kh lo f x y z t a n c S F h:=
 LA 112 Tryz.f112 221311 0 111 lo ⟨[(1,.lp 1 0),(2,.bool f),(3,Iv x)],[(1,(C4 y z t a n c S F))],h⟩
theorem Kh.e :
  Kh lo f x z y t a n c S F h=br (decide (x<4)) (Ap x n (eO a λv=>eO (ld h v.1 (v.2+x.toNat) 0 1) λv=>eC v λv l=>eN l (eI .i64 v λv=>br (decide (v>=y)) (AF h) (Kh lo f (Am (x+1)) z y t a n c S F h)))) (BZ h) :=
 lE
def IO lo f x a n c b m p d k u h:=
 LA 113 Tryz.f113 2213111 0 1111 lo ⟨[(2,.lp 2 0),(4,.bool f),(5,.lp 5 0),(6,Iv x)],[(2,(Lh a n c b m p)),(5,(BC d k u))],h⟩
theorem IO.e :
  IO lo f x d k c a n u b m p h=br (decide (x<(n:Int))) (Ap x n (eO a λv=>eO (ld h v.1 (v.2+x.toNat) 0 1) λv=>eC v λv l=>eN l (eI .i64 v λv=>Ap v m (eO b λl=>eO (ld h l.1 (l.2+v.toNat) 1 2) λv=>eC v λv l=>eI .i64 v λv=>eC l λl o=>eI .i64 l λl=>eN o (Ap x n (eO a λo=>eO (ld h o.1 (o.2+x.toNat) 1 2) λo=>eC o λo s=>eI .i64 o λo=>eC s λs y=>eI .i64 s λs=>eN y (Aj (Af lo 197 [Aw v l,Aw o s] h) λv l=>eB v (Ap x n (eO a λv=>eO (ld l v.1 (v.2+x.toNat) 0 6) λv=>eC v λv o=>eI .i64 v λv=>eC o λo s=>eI .i64 o λo=>eC s λs y=>eI .i64 s λs=>eC y λy z=>eS 2 y λy w q=>eC z λz g=>eT z λz=>eC g λg i=>eBv g λg=>eN i (Aj (Af lo 198 [Bx b m p,AD v o s y w q z g] l) λv o=>eA v λv=>eC v λv s=>eS 6 v λv y z=>eN s (IO lo f (Am (x+1)) d k c a n u v y z o)))) (AF l)))))))) (Aj (Af lo 199 [Bx b m p,Bx d k c] h) λv l=>eB v (BZ l) (AF l)) :=
 lE
def Do lo x a n c m b k p i d j u h:=
 LA 114 Tryz.f114 221311 0 111 lo ⟨[(1,.lp 1 0),(2,.lp 2 0),(3,.lp 3 0),(4,Iv x)],[(1,(BC a n c)),(2,[.sl m b k p]),(3,[.sl i d j u])],h⟩
theorem S7 (hk:(Do lo 0 a n c 0 none 0 (some 0) 0 none 0 (some 0) h)=some r) :
  Af lo 114 [Bx a n c] h=some r :=
 eK Tryz.func114 hk
theorem Do.e :
  Do lo x a n p i d j u m b k c h=br (decide (x<(n:Int))) (Ap x n (eO a λv=>eO (ld h v.1 (v.2+x.toNat) 1 2) λv=>eC v λv l=>eI .i64 v λv=>eC l λl o=>eI .i64 l λl=>eN o (Av 2 (h ++ [.rows 2 36 false [Bh v l]]) (.sl 2 (some (h.length,0)) 1 (some 1)) λo=>Df lo 36 2 16 (.sl m b k c) o (h ++ [.rows 2 36 false [Bh v l]]) λv l=>eS 2 v λv o s=>Do lo (Am (x+1)) a n p i d j u 2 v o s l))) (some (.agg [.sl m b k c],h)) :=
 lE
def BU lo a n c x y z t m b k p i d j u g e G s f w q A H C B J D a0 P c0 F h:=
 LA 115 Tryz.f115 221311 0 111 lo ⟨[(2,.lp 2 0),(3,.lp 3 0),(24,.sl 1 a n c),(25,Iv x),(26,Iv y)],[(2,[Iv z,Iv t,.sl m b k p,.sl i d j u,.sl g e G s,.bool f]),(3,(Dd w q A H C B J D a0 P c0 F))],h⟩
theorem Mt (hk:(Aj (Af h.length 200 [An a m c] h) λv l=>eA v λv=>eC v λv o=>eS 2 v λv s z=>eN o (Aj (Af l.length 201 (BC b k p) l) λl o=>eS 6 l λl w q=>Be (decide ((0:Int)<=0/\(0:Int)<=(n:Int)/\(n:Int)<=140737488355328/\(n:Int)*((24:Nat):Int)<=281474976710656)) (BU lo d n u (n:Int) 0 0 0 0 none 0 (some 0) 0 none 0 (some 0) 0 none 0 (some 0) false x y v s z l w q (some (o.length,0)) 0 (some n) f (o ++ [.rows 1 26 false (List.replicate n [.sl 0 none 0 (some 0)])]))))=some r) :
  Af lo 115 [BB x y a m c b k p d n u f] h=some r :=
 eK Tryz.func115 hk
theorem BU.e {lo n j g G H J P m k i:Nat}{a B a0 a1 b d A:Pq}{s C D c0 c p u:Nq}{y x w q z t:Int}{F f:Bool}{h:Heap} :
  BU lo a n s y x w q j B g C G a0 H D J a1 P c0 F z t b m c d k p A i u f h=br (decide (x<y)) (Ap x n (eO a λv=>eO (ld h v.1 (v.2+x.toNat) 0 1) λv=>eC v λv l=>eN l (eS 6 v λv l o=>Aj (Af lo 201 (BC v l o) h) λv l=>eS 6 v λv o e=>Av 1 (l ++ [.rows 1 26 false [BC v o e]]) (.sl 1 (some (l.length,0)) 1 (some 1)) λE=>Df lo 26 1 24 (.sl 1 A i u) E (l ++ [.rows 1 26 false [BC v o e]]) λv l=>eS 1 v λv o e=>BU lo a n s y (Am (x+1)) w q j B g C G a0 H D J a1 P c0 F z t b m c d k p v o e f l))) (some ((BB z t b m c d k p A i u f),h)) :=
 lE
theorem Nm (hk:(Aj (Af h.length 202 (AB x) h) λl o=>eB l (Aj (Af h.length 203 [.str S] o) λl s=>eB l (br (!f) (br (!f) (br (!f) (br (!f) (Aj (Af h.length 71 [An a n c] s) λl b=>eB l (BZ b) (AF b)) none) none) none) (br (!f) (br (!f) (br (!f) (Aj (Af h.length 71 [An a n c] s) λl b=>eB l (BZ b) (AF b)) none) none) (br (!f) (br (!f) (Aj (Af h.length 71 [An a n c] s) λl b=>eB l (BZ b) (AF b)) none) (br (S.toList==(ByteArray.mk #[]).toList) (br (!f) (Aj (Af h.length 71 [An a n c] s) λl b=>eB l (BZ b) (AF b)) (Aj (Af h.length 71 [An a n c] s) λl b=>eB l (BZ b) (AF b))) (br (!f) (Aj (Af h.length 71 [An a n c] s) λl b=>eB l (BZ b) (AF b)) (AF s)))))) (AF s)) (AF o))=some (v,h')) (hn:noId v=true:=by rfl) :
  Af lo 116 [AD x y z a n c S f] h=some (v,h) :=
 eD Tryz.func116 hk hn
theorem ON (hk:(eO (ld h n m (k+0) 1) λl=>eC l λl c=>eN c (eS 2 l λl c a=>Ap x c (eO l λl=>eO (ld h l.1 (l.2+x.toNat) 1 1) λl=>eC l λl c=>eN c (eS 6 l λl l c=>br (decide ((l:Int)>=6)) (BZ h) (AF h)))))=some (v,h')) (hn:noId v=true:=by rfl) :
  Af lo 117 [BF n m k,Iv x] h=some (v,h) :=
 eD Tryz.func117 hk hn
def B3 lo x a n c y z h:=
 LA 118 Tryz.f118 221311 0 111 lo ⟨[(3,Iv x),(7,.sl 2 a n c),(8,Iv y),(9,Iv z)],[],h⟩
theorem Ns (hk:(B3 h.length 0 a n c (n:Int) 0 h)=some (v,h')) (hn:noId v=true:=by rfl) :
  Af lo 118 [An a n c] h=some (v,h) :=
 eD Tryz.func118 hk hn
theorem B3.e :
  B3 lo y a n c z x h=br (decide (x<z)) (Ap x n (eO a λv=>eO (ld h v.1 (v.2+x.toNat) 0 2) λv=>eC v λv l=>eI .i64 v λv=>eC l λl o=>eI .i64 l λl=>eN o (B3 lo (if v>y then v else y) a n c z (Am (x+1)) h))) (some (Iv y,h)) :=
 lE
theorem PJ (hk:(Aj (Af lo 117 [BF n m k,Iv 0] h) λv l=>eB v (AF l) (Aj (Af lo 204 [BF n m k,Iv 0,AD x y z a i c S f] l) λv l=>eU v λv=>eN v (BZ l)))=some r) :
  Af lo 119 [BF n m k,AD x y z a i c S f] h=some r :=
 eK Tryz.func119 hk
def AY lo n m k a i c x y h:=
 LA 120 Tryz.f120 2213 0 1 lo ⟨[(0,(BF n m k)),(8,.sl 6 a i c),(9,Iv x),(10,Iv y)],[],h⟩
theorem Ms (hk:(Aj (Af lo 66 [BF n m (k+2)] h) λv l=>eA v λv=>eC v λv c=>eS 6 v λv a o=>eN c (AY lo n m k v a o (a:Int) 0 l))=some r) :
  Af lo 120 [BF n m k] h=some r :=
 eK Tryz.func120 hk
theorem AY.e :
  AY lo n m k a i c y x h=br (decide (x<y)) (Ap x i (eO a λv=>eO (ld h v.1 (v.2+x.toNat) 0 6) λv=>eC v λv l=>eI .i64 v λv=>eC l λl o=>eI .i64 l λl=>eC o λo s=>eI .i64 o λo=>eC s λs b=>eS 2 s λs z u=>eC b λb w=>eT b λb=>eC w λw p=>eBv w λw=>eN p (br ((l==0)&&((o==0)&&true)) (AY lo n m k a i c y (Am (x+1)) h) (eO (ld h n m (k+0) 1) λp=>eC p λp q=>eN q (eI .i64 p λp=>br (o==p) (eO (ld h n m (k+3) 1) λp=>eC p λp q=>eN q (eS 6 p λp q g=>Aj (Af lo 137 [.sl 6 p q g,Aw l o] h) λp q=>eB p (AY lo n m k a i c y (Am (x+1)) q) (eO (ld q n m (k+3) 1) λp=>eC p λp g=>eN g (eS 6 p λp g j=>Aj (Af q.length 154 [AD v l o s z u b w] q) λv l=>eA v λv=>eC v λv o=>eI .i64 v λv=>eC o λo s=>eI .i64 o λo=>eC s λs b=>eI .i64 s λs=>eC b λb z=>eS 2 b λb u w=>eC z λz q=>eT z λz=>eC q λq t=>eBv q λq=>eN t (Av 6 (l ++ [.rows 6 43 false [C4 v o s b u w z q]]) (.sl 6 (some (l.length,0)) 1 (some 1)) λt=>Df lo 43 6 72 (.sl 6 p g j) t (l ++ [.rows 6 43 false [C4 v o s b u w z q]]) λv l=>eS 6 v λv o s=>eO (st lo l n m (k+3) (BC v o s)) λv=>AY lo n m k a i c y (Am (x+1)) v))))) (AY lo n m k a i c y (Am (x+1)) h)))))) (eO (ld h n m (k+3) 1) λv=>eC v λv l=>eN l (eS 6 v λv l o=>Aj (Af lo 205 (BC v l o) h) λv l=>eS 6 v λv o s=>eO (st lo l n m (k+3) (BC v o s)) λv=>eO (ld v n m ((k+2)+0) 1) λl=>eC l λl o=>eN o (eS 2 l λl o s=>Aj (Af lo 206 [.sl 2 l o s,.fn 207 []] v) λv l=>eB v (some (.tup [],l)) (eO (st lo l n m (k+5) [.bool false]) λv=>some (.tup [],v))))) :=
 lE
def Hg lo f x a n c b m p h:=
 LA 121 Tryz.f121 221311 0 111 lo ⟨[(1,.lp 1 0),(2,.bool f),(3,.lp 3 0),(4,Iv x)],[(1,(Bq a n c)),(3,(Bq b m p))],h⟩
def D1 lo f x y a n c b m p h:=
 Lp (X 121) lo (pf 2213231221311 Tryz.f121) 2 (A6 2 (kS (X 121) lo (pf 1231221311 Tryz.f121) 1 (A6 1 (kS (X 121) lo (pf 11221311 Tryz.f121) 0 (WJ (X 121) lo (pf 221311 Tryz.f121) 0 (A6 0 (kS (X 121) lo (pf 111 Tryz.f121) 0 (Kt (X 121) Tryz.f121.results.toList)))))))) ⟨[(1,.lp 1 0),(2,.bool f),(3,.lp 3 0),(4,Iv x),(5,Iv y)],[(1,(Bq a n c)),(3,(Bq b m p))],h⟩
def EW lo f x y a n c b m p h:=
 Lp (X 121) lo (pf 2211231221311 Tryz.f121) 4 (A6 4 (A6 1 (kS (X 121) lo (pf 11221311 Tryz.f121) 0 (WJ (X 121) lo (pf 221311 Tryz.f121) 0 (A6 0 (kS (X 121) lo (pf 111 Tryz.f121) 0 (Kt (X 121) Tryz.f121.results.toList))))))) ⟨[(1,.lp 1 0),(2,.bool f),(3,.lp 3 0),(4,Iv x),(7,Iv y)],[(1,(Bq a n c)),(3,(Bq b m p))],h⟩
theorem Hg.e :
  Hg lo f x a n c b m p h=br (decide (x<(n:Int))) (D1 lo f x 0 a n c b m p h) (BZ h) :=
 lE
theorem D1.e :
  D1 lo f x y a n p b m c h=br (decide (y<4)) (Ap x n (eO a λv=>eO (ld h v.1 (v.2+x.toNat) 0 1) λv=>eC v λv l=>eN l (eS 6 v λv l o=>Ap y l (eO v λv=>eO (ld h v.1 (v.2+y.toNat) 0 6) λv=>eC v λv l=>eI .i64 v λv=>eC l λv l=>eI .i64 v λv=>eC l λl o=>eI .i64 l λl=>eC o λl o=>eS 2 l λl s z=>eC o λo u=>eT o λo=>eC u λo u=>eBv o λo=>eN u (br (decide (v>0)) (Aj (Af lo 124 [An l s z,An b m c] h) λv l=>eB v (D1 lo f x (Am (y+1)) a n p b m c l) (AF l)) (D1 lo f x (Am (y+1)) a n p b m c h)))))) (EW lo f x 0 a n p b m c h) :=
 lE
theorem EW.e :
  EW lo f x y a n p b m c h=Ap x n (eO a λv=>eO (ld h v.1 (v.2+x.toNat) 1 1) λv=>eC v λv l=>eN l (eS 6 v λv v l=>br (decide (y<(v:Int))) (Ap x n (eO a λv=>eO (ld h v.1 (v.2+x.toNat) 1 1) λv=>eC v λv l=>eN l (eS 6 v λv l o=>Ap y l (eO v λv=>eO (ld h v.1 (v.2+y.toNat) 3 1) λv=>eC v λv l=>eS 2 v λv o s=>eN l (Aj (Af lo 124 [An v o s,An b m c] h) λv l=>eB v (EW lo f x (Am (y+1)) a n p b m c l) (AF l)))))) (Hg lo f (Am (x+1)) a n p b m c h))) :=
 lE
def JI lo a n c x f y h:=
 LA 122 Tryz.f122 22131 0 11 lo ⟨[(0,.sl 6 a n c),(1,Iv x),(4,.bool f),(5,Iv y)],[],h⟩
def Hf lo a n c x f y z h:=
 Lp (X 122) lo (pf 221123122131 Tryz.f122) 2 (A6 2 (A6 1 (kS (X 122) lo (pf 1122131 Tryz.f122) 0 (WJ (X 122) lo (pf 22131 Tryz.f122) 0 (A6 0 (kS (X 122) lo (pf 11 Tryz.f122) 0 (Kt (X 122) Tryz.f122.results.toList))))))) ⟨[(0,.sl 6 a n c),(1,Iv x),(4,.bool f),(5,Iv y),(6,Iv z)],[],h⟩
theorem JI.e :
  JI lo a n c y f x h=br (decide (x<(n:Int))) (Ap x n (eO a λv=>eO (ld h v.1 (v.2+x.toNat) 0 6) λv=>eC v λv l=>eI .i64 v λv=>eC l λl o=>eI .i64 l λl=>eC o λo s=>eI .i64 o λo=>eC s λs b=>eS 2 s λs z u=>eC b λb w=>eT b λb=>eC w λw p=>eBv w λw=>eN p (Aj (Af lo 112 [AD v l o s z u b w] h) λv l=>eB v (Ap x n (eO a λv=>eO (ld l v.1 (v.2+x.toNat) 2 1) λv=>eC v λv o=>eN o (eI .i64 v λv=>br (v==y) (Hf lo a n c y f x 0 l) (AF l)))) (AF l)))) (br (decide ((n:Int)<=60)) (BZ h) (AF h)) :=
 lE
theorem Hf.e :
  Hf lo a n c z f x y h=br (decide (y<x)) (Ap y n (eO a λv=>eO (ld h v.1 (v.2+y.toNat) 1 2) λv=>eC v λv l=>eI .i64 v λv=>eC l λl o=>eI .i64 l λl=>eN o (Ap x n (eO a λo=>eO (ld h o.1 (o.2+x.toNat) 1 2) λo=>eC o λo s=>eI .i64 o λo=>eC s λs b=>eI .i64 s λs=>eN b (br ((v==o)&&((l==s)&&true)) (AF h) (Hf lo a n c z f x (Am (y+1)) h)))))) (JI lo a n c z f (Am (x+1)) h) :=
 lE
def CG lo f x a n c b m p h:=
 LA 124 Tryz.f124 22131 0 11 lo ⟨[(2,.lp 2 0),(3,.lp 3 0),(4,.bool f),(5,Iv x)],[(2,(Bq a n c)),(3,(Bq b m p))],h⟩
theorem Qu (hk:(CG h.length false 0 a n c b m p h)=some (v,h')) (hn:noId v=true:=by rfl) :
  Af lo 124 [An a n c,An b m p] h=some (v,h) :=
 eD Tryz.func124 hk hn
theorem CG.e :
  CG lo f x a n c b m p h=br (decide (x<4)) (Ap x m (eO b λv=>eO (ld h v.1 (v.2+x.toNat) 0 2) λv=>eC v λv l=>eI .i64 v λv=>eC l λl o=>eI .i64 l λl=>eN o (Ap x n (eO a λo=>eO (ld h o.1 (o.2+x.toNat) 0 2) λo=>eC o λo s=>eI .i64 o λo=>eC s λs y=>eI .i64 s λs=>eN y (Aj (Af lo 197 [Aw v l,Aw o s] h) λv l=>eB v (AF l) (CG lo f (Am (x+1)) a n c b m p l)))))) (BZ h) :=
 lE
theorem S2 (hk:(Ap 0 n (eO a λl=>eO (ld h l.1 (l.2+0) 1 1) λl=>eC l λl o=>eN o (eS 6 l λl l o=>br (decide ((l:Int)<6)) (BZ h) (AF h))))=some (v,h')) (hn:noId v=true:=by rfl) :
  Af lo 125 [An a n c] h=some (v,h) :=
 eD Tryz.func125 hk hn
def CN lo x y a n c h:=
 LA 126 Tryz.f126 221311 0 111 lo ⟨[(3,.lp 3 0),(5,Iv x),(6,Iv y)],[(3,(Bq a n c))],h⟩
theorem S0 {e:Pq} (hk:(CN h.length x 0 a n c h)=some (v,h')) (hn:noId v=true:=by rfl) :
  Af lo 126 [BB y x b m p d k u e i s f,An a n c] h=some (v,h) :=
 eD Tryz.func126 hk hn
theorem CN.e :
  CN lo y x a n c h=br (decide (x<4)) (Ap x n (eO a λv=>eO (ld h v.1 (v.2+x.toNat) 0 1) λv=>eC v λv l=>eN l (eI .i64 v λv=>br (decide (v>y)) (Ap x n (eO a λv=>eO (ld h v.1 (v.2+x.toNat) 0 1) λv=>eC v λv l=>eN l (eI .i64 v λv=>CN lo v (Am (x+1)) a n c h))) (CN lo y (Am (x+1)) a n c h)))) (some (Iv (Am (y+1)),h)) :=
 lE
def IP lo x a n c m b k p i d j u h:=
 LA 127 Tryz.f127 221311 0 111 lo ⟨[(1,.lp 1 0),(2,.lp 2 0),(3,.lp 3 0),(4,Iv x)],[(1,(Bq a n c)),(2,[.sl m b k p]),(3,[.sl i d j u])],h⟩
def FV lo x y a n c m b k p i d j u e g s G A H C h:=
 Lp (X 127) lo (pf 22131231221311 Tryz.f127) 2 (A6 2 (kS (X 127) lo (pf 11231221311 Tryz.f127) 1 (A6 1 (kS (X 127) lo (pf 11221311 Tryz.f127) 0 (WJ (X 127) lo (pf 221311 Tryz.f127) 0 (A6 0 (kS (X 127) lo (pf 111 Tryz.f127) 0 (Kt (X 127) Tryz.f127.results.toList)))))))) ⟨[(1,.lp 1 0),(2,.lp 2 0),(3,.lp 3 0),(4,Iv x),(5,.lp 5 0),(6,Iv y)],[(1,(Bq a n c)),(2,[.sl m b k p]),(3,[.sl i d j u]),(5,[.sl 6 e g s,.sl G A H C])],h⟩
theorem IP.e :
  IP lo x a n p i d j u m b k c h=br (decide (x<(n:Int))) (Ap x n (eO a λv=>eO (ld h v.1 (v.2+x.toNat) 0 1) λv=>eC v λv l=>eS 6 v λv o s=>eN l (Aj (Af lo 196 [Bx v o s] h) λv l=>eA v λv=>eC v λv o=>eS 6 v λv s y=>eN o (FV lo x 0 a n p i d j u m b k c v s y 0 none 0 (some 0) l)))) (some (.agg [.sl m b k c],h)) :=
 lE
theorem FV.e {lo n j g G H m k i:Nat}{x y:Int}{a A B b d:Pq}{u s C c p:Nq}{h:Heap} :
  FV lo x y a n u j A g s G B H C b m c k d i p h=Ap x n (eO a λv=>eO (ld h v.1 (v.2+x.toNat) 1 1) λv=>eC v λv l=>eN l (eS 6 v λv v l=>br (decide (y<(v:Int))) (Ap x n (eO a λv=>eO (ld h v.1 (v.2+x.toNat) 1 1) λv=>eC v λv l=>eN l (eS 6 v λv l o=>Ap y l (eO v λv=>eO (ld h v.1 (v.2+y.toNat) 0 6) λv=>eC v λv l=>eI .i64 v λv=>eC l λl o=>eI .i64 l λl=>eC o λo z=>eI .i64 o λo=>eC z λz w=>eS 2 z λz q t=>eC w λw e=>eT w λw=>eC e λe f=>eBv e λe=>eN f (Aj (Af lo 187 [AD v l o z q t w e] h) λv l=>eA v λv=>eC v λv o=>eI .i64 v λv=>eC o λo z=>eI .i64 o λo=>eC z λz w=>eI .i64 z λz=>eC w λw q=>eS 2 w λw t e=>eC q λq f=>eT q λq=>eC f λf D=>eBv f λf=>eN D (Av 6 (l ++ [.rows 6 43 false [C4 v o z w t e q f]]) (.sl 6 (some (l.length,0)) 1 (some 1)) λD=>Df lo 43 6 72 (.sl k d i p) D (l ++ [.rows 6 43 false [C4 v o z w t e q f]]) λv l=>eS 6 v λv o z=>FV lo x (Am (y+1)) a n u j A g s G B H C b m c 6 v o z l)))))) (Av 2 (h ++ [.rows 2 47 false [[.sl 6 b m c,.sl k d i p]]]) (.sl 2 (some (h.length,0)) 1 (some 1)) λv=>Df lo 47 2 48 (.sl G B H C) v (h ++ [.rows 2 47 false [[.sl 6 b m c,.sl k d i p]]]) λv l=>eS 2 v λv o z=>IP lo (Am (x+1)) a n u j A g s 2 v o z l))) :=
 lE
def IM lo a n c b m p x h:=
 LA 128 Tryz.f128 221311 0 111 lo ⟨[(0,.sl 6 a n c),(3,.sl 6 b m p),(4,Iv x)],[],h⟩
theorem IM.e :
  IM lo a n p b m c x h=br (decide (x<(n:Int))) (Ap x n (eO a λv=>eO (ld h v.1 (v.2+x.toNat) 0 6) λv=>eC v λv l=>eI .i64 v λv=>eC l λl o=>eI .i64 l λl=>eC o λo s=>eI .i64 o λo=>eC s λs y=>eS 2 s λs z u=>eC y λy w=>eT y λy=>eC w λw q=>eBv w λw=>eN q (Aj (Af lo 187 [AD v l o s z u y w] h) λv l=>eA v λv=>eC v λv o=>eI .i64 v λv=>eC o λo s=>eI .i64 o λo=>eC s λs y=>eI .i64 s λs=>eC y λy z=>eS 2 y λy u w=>eC z λz q=>eT z λz=>eC q λq g=>eBv q λq=>eN g (Av 6 (l ++ [.rows 6 43 false [C4 v o s y u w z q]]) (.sl 6 (some (l.length,0)) 1 (some 1)) λg=>Df lo 43 6 72 (.sl 6 b m c) g (l ++ [.rows 6 43 false [C4 v o s y u w z q]]) λv l=>eS 6 v λv o s=>IM lo a n p v o s (Am (x+1)) l)))) (some (.sl 6 b m c,h)) :=
 lE
theorem Ve (hk:(Ap x n (eO a λv=>eO (ld h v.1 (v.2+x.toNat) 0 1) λv=>eC v λv l=>eN l (eS 6 v λv l o=>Ap y l (eO v λv=>eO (ld h v.1 (v.2+y.toNat) 1 2) λv=>eC v λv l=>eI .i64 v λv=>eC l λl o=>eI .i64 l λl=>eN o (Aj (Af lo 197 [Aw v l,Aw z t] h) λv l=>eB v (Ap x n (eO a λv=>eO (ld l v.1 (v.2+x.toNat) 0 1) λv=>eC v λv o=>eS 6 v λv s u=>eN o (Aj (Af lo 198 [Bx v s u,AD y z t b m p S f] l) λv o=>eA v λv=>eC v λv s=>eS 6 v λv u w=>eN s (Ap x n (eO a λs=>eO (st lo o s.1 (s.2+x.toNat) 0 (BC v u w)) λv=>br (decide (x<Am ((n:Int) - (1:Int)))) (Ap x n (eO a λo=>eO (ld v o.1 (o.2+x.toNat) 1 1) λo=>eC o λo s=>eN s (eS 6 o λo s u=>Aj (Af v.length 187 [AD y z t b m p S f] v) λw q=>eA w λw=>eC w λw g=>eI .i64 w λw=>eC g λg i=>eI .i64 g λg=>eC i λi j=>eI .i64 i λi=>eC j λj k=>eS 2 j λj d e=>eC k λk A=>eT k λk=>eC A λA B=>eBv A λA=>eN B (Av 6 (q ++ [.rows 6 43 false [C4 w g i j d e k A]]) (.sl 6 (some (q.length,0)) 1 (some 1)) λB=>Df lo 43 6 72 (.sl 6 o s u) B (q ++ [.rows 6 43 false [C4 w g i j d e k A]]) λo s=>eS 6 o λo u w=>Ap x n (eO a λq=>eO (st lo s q.1 (q.2+x.toNat) 1 (BC o u w)) λo=>some ((An a n c),o)))))) (some ((An a n c),v))))))) (some ((An a n c),l)))))))=some r) :
  Af lo 129 [An a n c,Iv x,AD y z t b m p S f] h=some r :=
 eK Tryz.func129 hk
def B6 lo x y z a n c b m p d k u f t w i e j s g A G C H B J D F a0 P c0 h:=
 LA 130 Tryz.f130 221311 0 111 lo ⟨[(1,.lp 1 0),(2,.lp 2 0),(3,.lp 3 0),(4,Iv x)],[(1,(Dd y z a n c b m p d k u f)),(2,[Iv t,Iv w,.sl i e j s,.sl g A G C,.sl H B J D,.bool F]),(3,(BC a0 P c0))],h⟩
def B5 lo f x y z a n c b m p d k u F t w i e j s g A G C H B J D b0 h:=
 LA 130 Tryz.f130 22131111 2 11111 lo ⟨[(1,.lp 1 0),(2,.lp 2 0),(6,.bool f),(7,Iv x)],[(1,(Dd y z a n c b m p d k u F)),(2,[Iv t,Iv w,.sl i e j s,.sl g A G C,.sl H B J D,.bool b0])],h⟩
theorem SZ (hk:(Ap (Am ((n:Int) - 1)) n (eO a λv=>eO (ld h v.1 (v.2+((Am ((n:Int) - (1:Int))).toNat)) 0 1) λv=>eC v λv l=>eS 6 v λv o s=>eN l (B6 lo 0 x y a n c b m p d k u f 0 0 0 none 0 (some 0) 0 none 0 (some 0) 0 none 0 (some 0) false v o s h)))=some r) :
  Af lo 130 [BB x y a n c b m p d k u f] h=some r :=
 eK Tryz.func130 hk
theorem B6.e {lo m n k i j g G H J P:Nat}{x y z t w:Int}{b a d A B a0 a1:Pq}{p c u s C D c0:Nq}{f F:Bool}{h:Heap} :
  B6 lo x y z b m p a n c d k u f t w i A j s g B G C H a0 J D F a1 P c0 h=br (decide (x<4)) (Ap x P (eO a1 λv=>eO (ld h v.1 (v.2+x.toNat) 0 6) λv=>eC v λv l=>eI .i64 v λv=>eC l λl o=>eI .i64 l λl=>eC o λo q=>eI .i64 o λo=>eC q λq e=>eS 2 q λq E K=>eC e λe L=>eT e λe=>eC L λL M=>eBv L λL=>eN M (br (decide (l>0)) (br (o==y) (Aj (Af lo 208 [.sl 6 a n c,Aw l o] h) λM N=>eB M (B6 lo (Am (x+1)) y z b m p a n c d k u f t w i A j s g B G C H a0 J D F a1 P c0 N) (Aj (Af lo 187 [AD v l o q E K e L] N) λv l=>eA v λv=>eC v λv o=>eI .i64 v λv=>eC o λo q=>eI .i64 o λo=>eC q λq e=>eI .i64 q λq=>eC e λe E=>eS 2 e λe K L=>eC E λE M=>eT E λE=>eC M λM N=>eBv M λM=>eN N (Av 6 (l ++ [.rows 6 43 false [C4 v o q e K L E M]]) (.sl 6 (some (l.length,0)) 1 (some 1)) λN=>Df lo 43 6 72 (.sl 6 a n c) N (l ++ [.rows 6 43 false [C4 v o q e K L E M]]) λv l=>eS 6 v λv o q=>B6 lo (Am (x+1)) y z b m p v o q d k u f t w i A j s g B G C H a0 J D F a1 P c0 l))) (B6 lo (Am (x+1)) y z b m p a n c d k u f t w i A j s g B G C H a0 J D F a1 P c0 h)) (B6 lo (Am (x+1)) y z b m p a n c d k u f t w i A j s g B G C H a0 J D F a1 P c0 h)))) (B5 lo true 0 y z b m p a n c d k u f t w i A j s g B G C H a0 J D F h) :=
 lE
theorem B5.e {J:Nat}{b0:Bool}{w:Int} :
  B5 lo F x y z a n c b m p d k u f t w i A j s g B G C H a0 J D b0 h=br (decide (x<(n:Int))) (br F (Ap x n (eO a λv=>eO (ld h v.1 (v.2+x.toNat) 1 1) λv=>eC v λv l=>eN l (eS 6 v λv v l=>br ((v:Int)==0) (B5 lo true (Am (x+1)) y z a n c b m p d k u f t w i A j s g B G C H a0 J D b0 h) (B5 lo false (Am (x+1)) y z a n c b m p d k u f t w i A j s g B G C H a0 J D b0 h)))) (B5 lo false (Am (x+1)) y z a n c b m p d k u f t w i A j s g B G C H a0 J D b0 h)) (br f (some ((BB y z a n c b m p d k u (!F)),h)) (some ((BB y z a n c b m p d k u false),h))) :=
 by cases f<;>cases F<;>exact lE
def CZ lo f x a n c b m p h:=
 LA 131 Tryz.f131 221311 0 111 lo ⟨[(2,.lp 2 0),(3,.lp 3 0),(4,.bool f),(5,Iv x)],[(2,(BC a n c)),(3,(BC b m p))],h⟩
theorem Sn (hk:(br ((n:Int)==(m:Int)) (CZ h.length false 0 a n c b m p h) (AF h))=some (v,h')) (hn:noId v=true:=by rfl) :
  Af lo 131 [Bx a n c,Bx b m p] h=some (v,h) :=
 eD Tryz.func131 hk hn
theorem CZ.e {lo n m:Nat}{f:Bool}{x:Int}{a b:Pq}{c p:Nq}{h:Heap} :
  CZ lo f x a n c b m p h=br (decide (x<(n:Int))) (Ap x n (eO a λv=>eO (ld h v.1 (v.2+x.toNat) 0 6) λv=>eC v λv l=>eI .i64 v λv=>eC l λl o=>eI .i64 l λl=>eC o λo s=>eI .i64 o λo=>eC s λs y=>eS 2 s λs z u=>eC y λy w=>eT y λy=>eC w λw q=>eBv w λw=>eN q (Ap x m (eO b λq=>eO (ld h q.1 (q.2+x.toNat) 0 6) λq=>eC q λq g=>eI .i64 q λq=>eC g λg i=>eI .i64 g λg=>eC i λi j=>eI .i64 i λi=>eC j λj k=>eS 2 j λj t d=>eC k λk e=>eT k λk=>eC e λe A=>eBv e λe=>eN A (Aj (Af lo 73 [AD v l o s z u y w,AD q g i j t d k e] h) λv l=>eB v (CZ lo f (Am (x+1)) a n c b m p l) (AF l)))))) (BZ h) :=
 lE
theorem Sr (hk:(Aj (Af h.length 63 (Ct x 1 4) h) λl c=>eB l (BZ c) (AF c))=some (v,h')) (hn:noId v=true:=by rfl) :
  Af lo 132 (AB x) h=some (v,h) :=
 eD Tryz.func132 hk hn
theorem PK (hk:(Aj (Af h.length 134 [AD x y z a n c S f] h) λl o=>eB l (AF o) (BZ o))=some (v,h')) (hn:noId v=true:=by rfl) :
  Af lo 133 [AD x y z a n c S f] h=some (v,h) :=
 eD Tryz.func133 hk hn
theorem Vo (hk:(Aj (Af h.length 116 [AD z x y a n c S f] h) λl o=>eB l (Aj (Af h.length 144 [Aw x y] o) λl s=>eB l (Aj (Af s.length 118 [An a n c] s) λl b=>eI .i64 l λl=>br (decide (x>l)) (BZ b) (AF b)) (AF s)) (AF o))=some (v,h')) (hn:noId v=true:=by rfl) :
  Af lo 134 [AD z x y a n c S f] h=some (v,h) :=
 eD Tryz.func134 hk hn
theorem OM (hk:(br (x==Am ((n:Int) - (1:Int))) (BZ h) (AF h))=some (v,h')) (hn:noId v=true:=by rfl) :
  Af lo 135 [An a n c,Iv x] h=some (v,h) :=
 eD Tryz.func135 hk hn
def Cs lo f a n c x y b m p d k u e i s h:=
 LA 136 Tryz.f136 221311 0 111 lo ⟨[(2,.lp 2 0),(4,.bool f),(5,.lp 5 0),(11,.sl 6 a n c),(12,Iv x),(13,Iv y)],[(2,(Lh b m p d k u)),(5,(BC e i s))],h⟩
theorem PI (hk:(Aj (Af h.length 209 [Bx d k u] h) λl o=>eA l λl=>eC l λl s=>eS 6 l λl x y=>eN s (Cs h.length false a n c (n:Int) 0 b m p a n c l x y o))=some (v,h')) (hn:noId v=true:=by rfl) :
  Af lo 136 [LI b m p a n c,Bx d k u] h=some (v,h) :=
 eD Tryz.func136 hk hn
theorem Cs.e {lo m k i n:Nat}{f:Bool}{b d A a:Pq}{u p s c:Nq}{y x:Int}{h:Heap} :
  Cs lo f b m u y x d k p A i s a n c h=br (decide (x<y)) (Ap x m (eO b λv=>eO (ld h v.1 (v.2+x.toNat) 0 6) λv=>eC v λv l=>eI .i64 v λv=>eC l λl o=>eI .i64 l λl=>eC o λo z=>eI .i64 o λo=>eC z λz w=>eS 2 z λz q g=>eC w λw j=>eT w λw=>eC j λj t=>eBv j λj=>eN t (Aj (Af lo 210 [Bx a n c,AD v l o z q g w j] h) λt e=>eB t (Ap v n (eO a λt=>eO (st lo e t.1 (t.2+v.toNat) 0 (C4 v l o z q g w j)) λv=>Cs lo f b m u y (Am (x+1)) d k p A i s a n c v)) (AF e)))) (Aj (Af lo 211 [Bx a n c,Bx d k p] h) λv l=>eB v (BZ l) (AF l)) :=
 lE
theorem Ti (hk:(Aj (Af h.length 80 [.sl 6 a n c,.fn 212 [.ptr (some (h.length,(0,0)))]] (h ++ [.rows 2 36 false [Bh x y]])) λl o=>eB l (BZ o) (AF o))=some (v,h')) (hn:noId v=true:=by rfl) :
  Af lo 137 [.sl 6 a n c,Aw x y] h=some (v,h) :=
 eD Tryz.func137 hk hn
theorem Li (hk:(some ((An (some (h.length,0)) 4 (some 4)),(h ++ [.rows 2 36 false [Bh 0 0,Bh 0 0,Bh 0 0,Bh 0 0]])))=some r) :
  Af lo 138 [] h=some r :=
 eK Tryz.func138 hk
theorem GJ (hk:(br (decide (x<0)) none (br (decide (Am (x - Am (((0:Nat):Int) - ((0:Nat):Int)))>0)) (AA none 0 (some 0) none (some (Iv 0)) none λv l c=>Be (decide ((0:Int)<=Am (x - Am (((0:Nat):Int) - ((0:Nat):Int)))/\Am (x - Am (((0:Nat):Int) - ((0:Nat):Int)))*((72:Nat):Int)<=140737488355328)) (Df lo 43 6 72 (.sl 6 v l c) (List.replicate ((Am (x - Am (((0:Nat):Int) - ((0:Nat):Int)))).toNat) [Iv 0,Iv 0,Iv 0,.sl 0 none 0 (some 0),.str ⟨⟨[]⟩⟩,.bool false]) h λv l=>eS 6 v λv c n=>AA v c n none (some (Iv 0)) none λv c n=>some (.sl 6 v c n,l))) (some (.sl 0 none 0 (some 0),h))))=some r) :
  Af lo 139 [.sl 0 none 0 (some 0),Iv x] h=some r :=
 eK Tryz.func139 hk
def DT lo x y a n c z t h:=
 LA 140 Tryz.f140 221311 0 111 lo ⟨[(2,Iv x),(3,Iv y),(6,.sl 1 a n c),(7,Iv z),(8,Iv t)],[],h⟩
theorem Vq (hk:(DT h.length 0 0 a n c (n:Int) 0 h)=some (v,h')) (hn:noId v=true:=by rfl) :
  Af lo 140 [.sl 1 a n c] h=some (v,h) :=
 eD Tryz.func140 hk hn
theorem DT.e :
  DT lo t y a n c z x h=br (decide (x<z)) (Ap x n (eO a λv=>eO (ld h v.1 (v.2+x.toNat) 0 1) λv=>eC v λv l=>eN l (eI .i64 v λv=>br (v==y) (DT lo t y a n c z (Am (x+1)) h) (some (Iv v,h))))) (some (Iv y,h)) :=
 lE
theorem OP (hk:(Aj (Af h.length 213 (AB y) h) λl c=>eB l (Aj (Af h.length 213 (AB x) c) λl n=>eB l (some (Iv 0,n)) (some (Iv (-1),n))) (Aj (Af h.length 213 (AB x) c) λl c=>eB l (some (Iv 1,c)) (br (decide (y<x)) (some (Iv (-1),c)) (br (decide (y>x)) (some (Iv 1,c)) (some (Iv 0,c))))))=some (v,h')) (hn:noId v=true:=by rfl) :
  Af lo 141 (Bh y x) h=some (v,h) :=
 eD Tryz.func141 hk hn
theorem E0 (hk:(Aj (Af h.length 214 [.sl 2 a n c,.fn m l] h) λo s=>eI .i64 o λo=>br (decide (o>=0)) (BZ s) (AF s))=some (v,h')) (hn:noId v=true:=by rfl) :
  Af lo 142 [.sl 2 a n c,.fn m l] h=some (v,h) :=
 eD Tryz.func142 hk hn
theorem QG (hk:(Aj (Af h.length 144 [Aw x y] h) λl c=>eB l (AF c) (BZ c))=some (v,h')) (hn:noId v=true:=by rfl) :
  Af lo 143 [Aw x y] h=some (v,h) :=
 eD Tryz.func143 hk hn
theorem Vp (hk:(br ((x==0)&&((y==0)&&true)) (BZ h) (Aj (Af h.length 63 (Ct x 1 999) h) λl c=>eB l (Aj (Af h.length 62 (AB y) c) λl n=>eB l (BZ n) (AF n)) (AF c)))=some (v,h')) (hn:noId v=true:=by rfl) :
  Af lo 144 [Aw x y] h=some (v,h) :=
 eD Tryz.func144 hk hn
def Bt lo n m k x a i c y b j p d g u e G s A H C h:=
 LA 145 Tryz.f145 2213111 0 1111 lo ⟨[(0,(BF n m k)),(3,Iv x),(9,.lp 9 0),(10,.sl 6 a i c),(11,Iv y)],[(9,(CC b j p d g u e G s A H C))],h⟩
theorem PA (hk:(Aj (Af lo 146 (Bh x y) h) λv l=>eA v λv=>eC v λv c=>eS 6 v λv a o=>eC c λc s=>eS 5 c λc b u=>eC s λs w=>eS 9 s λs p q=>eC w λw g=>eS 5 w λw i j=>eN g (Bt lo n m k z (some (l.length,0)) 0 (some 0) 0 v a o c b u s p q w i j (l ++ [.rows 6 74 false []])))=some r) :
  Af lo 145 [BF n m k,Iv x,Iv y,Iv z] h=some r :=
 eK Tryz.func145 hk
theorem Bt.e {lo n m k i j g G H:Nat}{x y:Int}{a b d A B:Pq}{c p u s C:Nq}{h:Heap} :
  Bt lo n m k x a i c y b j p d g u A G s B H C h=br (decide (y<x)) (Aj (Af lo 215 [BF n m k,Au b j p d g u A G s B H C] h) λv l=>eA v λv=>eC v λv o=>eI .i64 v λv=>eC o λo z=>eI .i64 o λo=>eC z λz w=>eI .i64 z λz=>eC w λw q=>eI .i64 w λw=>eC q λq t=>eT q λq=>eC t λt e=>eBv t λt=>eN e (Aj (Af lo 102 [Au b j p d g u A G s B H C,A9 v o z w q t] l) λl e=>eU l λl=>eC l λl f=>eA l λl=>eC l λl D=>eS 6 l λl E J=>eC D λD K=>eS 5 D λD L M=>eC K λK N=>eS 9 K λK O P=>eC N λN Q=>eS 5 N λN S U=>eN Q (eC f λf Q=>eB f (eN Q (Av 6 (e ++ [.rows 6 74 false [R6 v o z w q t]]) (.sl 6 (some (e.length,0)) 1 (some 1)) λf=>Df lo 74 6 56 (.sl 6 a i c) f (e ++ [.rows 6 74 false [R6 v o z w q t]]) λf W=>eS 6 f λf Y Z=>Bt lo n m k x f Y Z (Am (y+1)) l E J D L M K O P N S U W)) (eN Q (Aj (Af lo 44 [BF n m k,Iv 6] e) λe f=>eI .i64 e λe=>br (decide (e>0)) (Bt lo n m k x a i c (Am (y+1)) b j p d g u A G s B H C f) (Av 6 (f ++ [.rows 6 74 false [R6 v o z w q t]]) (.sl 6 (some (f.length,0)) 1 (some 1)) λe=>Df lo 74 6 56 (.sl 6 a i c) e (f ++ [.rows 6 74 false [R6 v o z w q t]]) λv o=>eS 6 v λv z w=>Bt lo n m k x v z w (Am (y+1)) l E J D L M K O P N S U o)))))) (some (.sl 6 a i c,h)) :=
 lE
def DQ lo x y z n a m c k b i p j d g u G e H s J A P C n0 B n1 D n2 a0 n3 c0 n4 a1 n5 c1 h:=
 LA 146 Tryz.f146 221311 0 111 lo ⟨[(0,Iv x),(1,Iv y),(4,.lp 4 0),(5,.lp 5 0),(6,Iv z)],[(4,[.sl n a m c,.sl k b i p,.sl j d g u,.sl G e H s]),(5,[.sl J A P C,.sl n0 B n1 D,.sl n2 a0 n3 c0,.sl n4 a1 n5 c1])],h⟩
def DP lo x y n a m c k b i p j d g u G e H s J A P C n0 B n1 D n2 a0 n3 c0 n4 a1 n5 c1 h:=
 LA 146 Tryz.f146 2213111 2 1111 lo ⟨[(1,Iv x),(4,.lp 4 0),(5,.lp 5 0),(7,Iv y)],[(4,[.sl n a m c,.sl k b i p,.sl j d g u,.sl G e H s]),(5,[.sl J A P C,.sl n0 B n1 D,.sl n2 a0 n3 c0,.sl n4 a1 n5 c1])],h⟩
theorem U7 (hk:(DQ lo x y 0 0 none 0 (some 0) 0 none 0 (some 0) 0 none 0 (some 0) 0 none 0 (some 0) 0 none 0 (some 0) 0 none 0 (some 0) 0 none 0 (some 0) 0 none 0 (some 0) h)=some r) :
  Af lo 146 (Bh x y) h=some r :=
 eK Tryz.func146 hk
theorem DQ.e {lo n m k i j g G H J P n0 n1 n2 n3 n4 n5:Nat}{y z x:Int}{a b d A B a0 a1 a2:Pq}{c p u s C D c0 c1:Nq}{h:Heap} :
  DQ lo y z x n a m c k b i p j d g u G A H s J B P C n0 a0 n1 D n2 a1 n3 c0 n4 a2 n5 c1 h=br (decide (x<3)) (Aj (Af lo 216 (Bh x y) h) λv l=>eA v λv=>eC v λv o=>eI .i64 v λv=>eC o λo w=>eI .i64 o λo=>eC w λw q=>eS 2 w λw t e=>eC q λq f=>eS 6 q λq E K=>eC f λf L=>eS 1 f λf M N=>eC L λL O=>eBv L λL=>eN O (Av 6 (l ++ [.rows 6 29 false [Dd v o w t e q E K f M N L]]) (.sl 6 (some (l.length,0)) 1 (some 1)) λO=>Df lo 29 6 96 (.sl J B P C) O (l ++ [.rows 6 29 false [Dd v o w t e q E K f M N L]]) λv l=>eS 6 v λv o w=>DQ lo y z (Am (x+1)) n a m c k b i p j d g u G A H s 6 v o w n0 a0 n1 D n2 a1 n3 c0 n4 a2 n5 c1 l)) (DP lo z 0 n a m c k b i p j d g u G A H s J B P C n0 a0 n1 D n2 a1 n3 c0 n4 a2 n5 c1 h) :=
 lE
theorem DP.e {J P n0 n1 n2 n3 n4 n5:Nat}{a2:Pq}{c1:Nq} :
  DP lo y x J B P C n0 a0 n1 D n2 a1 n3 c0 n4 a2 n5 c1 n a m c k b i p j d g u G A H s h=br (decide (x<y)) (Aj (Af lo 45 [] h) λv l=>eA v λv=>eC v λv o=>eS 2 v λv z w=>eN o (Av 5 (l ++ [.rows 5 66 false [Oi (x.tmod (3:Int)) v z w 0 0 0]]) (.sl 5 (some (l.length,0)) 1 (some 1)) λo=>Df lo 66 5 56 (.sl k b i p) o (l ++ [.rows 5 66 false [Oi (x.tmod (3:Int)) v z w 0 0 0]]) λv l=>eS 5 v λv o z=>DP lo y (Am (x+1)) J B P C n0 a0 n1 D n2 a1 n3 c0 n4 a2 n5 c1 n a m c 5 v o z j d g u G A H s l)) (some (.agg [.sl n a m c,.sl k b i p,.sl j d g u,.sl G A H s],h)) :=
 lE
theorem QF (hk:(Aj (Af lo 62 (AB x) h) λv l=>eB v (Aj (Af lo 132 (AB y) l) λv c=>eB v (Aj (Af c.length 217 (AB y) c) λv n=>eA v λv=>eC v λv a=>eS 2 v λv o s=>eN a (some (.agg [Iv x,Iv 0,.sl 2 v o s,.sl 0 none 0 (some 0),.sl 1 (some (n.length,0)) 3 (some 3),.bool false],(n ++ [.rows 1 26 false [[.sl 0 none 0 (some 0)],[.sl 0 none 0 (some 0)],[.sl 0 none 0 (some 0)]]])))) (some (.agg [Iv 0,Iv 0,.sl 0 none 0 (some 0),.sl 0 none 0 (some 0),.sl 0 none 0 (some 0),.bool false],c))) (some (.agg [Iv 0,Iv 0,.sl 0 none 0 (some 0),.sl 0 none 0 (some 0),.sl 0 none 0 (some 0),.bool false],l)))=some r) :
  Af lo 147 (Bh x y) h=some r :=
 eK Tryz.func147 hk
theorem Mp (hk:(eO (ld h n m (k+1) 1) λv=>eC v λv l=>eN l (eS 5 v λv v l=>Aj (Af lo 63 (Ct x 0 (Am ((v:Int) - 1))) h) λv l=>eB v (eO (ld l n m (k+1) 1) λv=>eC v λv c=>eN c (eS 5 v λv c a=>Ap x c (eO v λv=>eO (ld l v.1 (v.2+x.toNat) 2 2) λc=>eC c λc a=>eI .i64 c λc=>eC a λa o=>eI .i64 a λa=>eN o (br ((c==0)&&((a==0)&&true)) (br (y==2) (AF l) (br (y==1) (Aj (Af lo 218 [BF n m k,.ptr (some (v.1,((v.2+x.toNat),0))),A9 y x z t S f] l) λc a=>eB c (BZ a) (AF a)) (br (y==2) (Aj (Af lo 219 [BF n m k,.ptr (some (v.1,((v.2+x.toNat),0))),A9 y x z t S f] l) λc a=>eB c (BZ a) (AF a)) (br (y==3) (Aj (Af lo 220 [BF n m k,.ptr (some (v.1,((v.2+x.toNat),0))),A9 y x z t S f] l) λc a=>eB c (BZ a) (AF a)) (br (y==4) (Aj (Af lo 221 [BF n m k,.ptr (some (v.1,((v.2+x.toNat),0))),A9 y x z t S f] l) λc a=>eB c (BZ a) (AF a)) (Aj (Af lo 62 (AB z) l) λc a=>eB c (eO (st lo a v.1 (v.2+x.toNat) 0 (AB z)) λc=>some (.bool true,c)) (AF a))))))) (br (y==2) (br (y==1) (Aj (Af lo 218 [BF n m k,.ptr (some (v.1,((v.2+x.toNat),0))),A9 y x z t S f] l) λc a=>eB c (BZ a) (AF a)) (br (y==2) (Aj (Af lo 219 [BF n m k,.ptr (some (v.1,((v.2+x.toNat),0))),A9 y x z t S f] l) λc a=>eB c (BZ a) (AF a)) (br (y==3) (Aj (Af lo 220 [BF n m k,.ptr (some (v.1,((v.2+x.toNat),0))),A9 y x z t S f] l) λc a=>eB c (BZ a) (AF a)) (br (y==4) (Aj (Af lo 221 [BF n m k,.ptr (some (v.1,((v.2+x.toNat),0))),A9 y x z t S f] l) λc a=>eB c (BZ a) (AF a)) (Aj (Af lo 62 (AB z) l) λc a=>eB c (eO (st lo a v.1 (v.2+x.toNat) 0 (AB z)) λv=>some (.bool true,v)) (AF a)))))) (AF l)))))) (AF l)))=some r) :
  Af lo 148 [BF n m k,A9 y x z t S f] h=some r :=
 eK Tryz.func148 hk
theorem Mq (hk:(Aj (Af lo 62 (AB x) h) λv l=>eB v (eO (ld l n m (k+0) 1) λv=>eC v λv c=>eN c (eS 6 v λv c a=>Ap x c (eO v λv=>br (t==6) (Aj (Af lo 222 [.ptr (some (v.1,((v.2+x.toNat),0))),Iv y] l) λc a=>eB c (BZ a) (AF a)) (br (t==7) (Aj (Af lo 223 [.ptr (some (v.1,((v.2+x.toNat),0))),Iv y] l) λc a=>eB c (BZ a) (AF a)) (br (t==8) (Aj (Af lo 224 [.ptr (some (v.1,((v.2+x.toNat),2)))] l) λc a=>eB c (BZ a) (AF a)) (br (t==9) (Aj (Af lo 225 [.ptr (some (v.1,((v.2+x.toNat),0))),Iv y] l) λc a=>eB c (BZ a) (AF a)) (Aj (Af lo 226 (Bh x y) l) λc a=>eB c (eO (ld a v.1 (v.2+x.toNat) 3 1) λc=>eC c λc o=>eN o (eS 6 c λc c o=>Aj (Af lo 63 (Ct z 0 (Am ((c:Int) - 1))) a) λc o=>eB c (eO (ld o n m (k+2) 1) λc=>eC c λc s=>eN s (eS 9 c λc c s=>br (decide ((c:Int)>=12)) (AF o) (eO (ld o n m (k+2) 1) λc=>eC c λc s=>eN s (eS 9 c λc s b=>eO (ld o v.1 (v.2+x.toNat) 3 1) λv=>eC v λv u=>eN u (eS 6 v λv u w=>Ap z u (eO v λv=>eO (ld o v.1 (v.2+z.toNat) 0 6) λv=>eC v λv u=>eI .i64 v λv=>eC u λu w=>eI .i64 u λu=>eC w λw p=>eI .i64 w λw=>eC p λp q=>eS 2 p λp g i=>eC q λq j=>eT q λq=>eC j λj d=>eBv j λj=>eN d (Aj (Af o.length 154 [AD v u w p g i q j] o) λv u=>eA v λv=>eC v λv w=>eI .i64 v λv=>eC w λw p=>eI .i64 w λw=>eC p λp q=>eI .i64 p λp=>eC q λq g=>eS 2 q λq i j=>eC g λg d=>eT g λg=>eC d λd e=>eBv d λd=>eN e (Av 9 (u ++ [.rows 9 123 false [Oj x y z v w p q i j g d]]) (.sl 9 (some (u.length,0)) 1 (some 1)) λe=>Df lo 123 9 96 (.sl 9 c s b) e (u ++ [.rows 9 123 false [Oj x y z v w p q i j g d]]) λv c=>eS 9 v λv s b=>eO (st lo c n m (k+2) [.sl 9 v s b]) λv=>some (.bool true,v))))))))) (AF o))) (AF a)))))))) (AF l))=some r) :
  Af lo 149 [BF n m k,A9 t x y z S f] h=some r :=
 eK Tryz.func149 hk
theorem LY (hk:(eO (ld h n m (k+2) 1) λv=>eC v λv l=>eN l (eS 9 v λv v l=>Aj (Af lo 63 (Ct x 0 (Am ((v:Int) - 1))) h) λv l=>eB v (eO (ld l n m (k+2) 1) λv=>eC v λv c=>eN c (eS 9 v λv c a=>Ap x c (eO v λv=>eO (ld l v.1 (v.2+x.toNat) 0 9) λv=>eC v λv c=>eI .i64 v λv=>eC c λc a=>eI .i64 c λc=>eC a λa o=>eI .i64 a λa=>eC o λo s=>eI .i64 o λo=>eC s λs b=>eI .i64 s λs=>eC b λb u=>eI .i64 b λb=>eC u λu w=>eS 2 u λu p q=>eC w λw g=>eT w λw=>eC g λg i=>eBv g λg=>eN i (br (y==13) (br (y==12) (BZ l) (eO (ld l n m (k+0) 1) λi=>eC i λi j=>eN j (eS 6 i λi j d=>Ap c j (eO i λi=>Aj (Af lo 228 [.ptr (some (i.1,((i.2+c.toNat),0))),Iv v,Iv a,AD o s b u p q w g] l) λi j=>eB i (BZ j) (BZ j))))) (eO (ld l n m (k+2) 1) λi=>eC i λi j=>eN j (eS 9 i λi j d=>Aj (Af lo 227 [.sl 9 i j d,Iv x,Iv (Am (x+1))] l) λi j=>eS 9 i λi d e=>eO (st lo j n m (k+2) [.sl 9 i d e]) λi=>br (y==12) (BZ i) (eO (ld i n m (k+0) 1) λj=>eC j λj d=>eN d (eS 6 j λj d e=>Ap c d (eO j λj=>Aj (Af lo 228 [.ptr (some (j.1,((j.2+c.toNat),0))),Iv v,Iv a,AD o s b u p q w g] i) λv c=>eB v (BZ c) (BZ c)))))))))) (AF l)))=some r) :
  Af lo 150 [BF n m k,A9 y x z t S f] h=some r :=
 eK Tryz.func150 hk
theorem GN (hk:(AA a n c none (some (Iv (n:Int))) (some (Iv (n:Int))) λv l o=>some (.sl 5 v l o,h))=some r) :
  Af lo 151 [.sl 5 a n c] h=some r :=
 eK Tryz.func151 hk
theorem DU (hk:(br (a.isNone) (some (.sl 0 none 0 (some 0),h)) (Av 5 (h ++ [.rows 5 126 false []]) (.sl 5 a n c) λv=>Df lo 126 5 40 (.sl 5 (some (h.length,0)) 0 (some 0)) v (h ++ [.rows 5 126 false []]) λv l=>eS 5 v λv o s=>some (.sl 5 v o s,l)))=some r) :
  Af lo 152 [.sl 5 a n c] h=some r :=
 eK Tryz.func152 hk
theorem Nt (hk:(Aj (Af lo 230 (Bq a n c) h) λv l=>eS 2 v λv o s=>Aj (Af lo 229 (Bq v o s) l) λv l=>eS 2 v λv o s=>some ((An v o s),l))=some r) :
  Af lo 153 [An a n c] h=some r :=
 eK Tryz.func153 hk
theorem OB (hk:(Aj (Af lo 153 [An a n c] h) λv l=>eA v λv=>eC v λv o=>eS 2 v λv s b=>eN o (some ((AD x y z v s b S f),l)))=some r) :
  Af lo 154 [AD x y z a n c S f] h=some r :=
 eK Tryz.func154 hk
theorem QD {w q:Int}{s0:ByteArray} (hk:(br (x==t) (br ((y==w)&&((z==q)&&true)) (Aj (Af h.length 231 [.sl 2 a n c,.sl 2 b m p] h) λl o=>eB l (br (S.toList==s0.toList) (br (f==F) (BZ o) (AF o)) (AF o)) (AF o)) (AF h)) (AF h))=some (v,h')) (hn:noId v=true:=by rfl) :
  Af lo 155 [AD x y z a n c S f,AD t w q b m p s0 F] h=some (v,h) :=
 eD Tryz.func155 hk hn
theorem OA (hk:(br (x==0) (br ((y==0)&&((z==0)&&true)) (Aj (Af h.length 231 [.sl 2 a n c,.sl 0 none 0 (some 0)] h) λl o=>eB l (br (S.toList==(ByteArray.mk #[]).toList) (br (f==false) (BZ o) (AF o)) (AF o)) (AF o)) (AF h)) (AF h))=some (v,h')) (hn:noId v=true:=by rfl) :
  Af lo 155 [AD x y z a n c S f,.agg [Iv 0,Iv 0,Iv 0,.sl 0 none 0 (some 0),.str ⟨⟨[]⟩⟩,.bool false]] h=some (v,h) :=
 eD Tryz.func155 hk hn
def Az lo a n c m l x y z h:=
 LA 156 Tryz.f156 22131 0 11 lo ⟨[(0,.sl 6 a n c),(1,.fn m l),(4,Iv x),(7,Iv y),(8,Iv z)],[],h⟩
theorem Dx (hk:(Az h.length a n c m l 0 (n:Int) 0 h)=some (v,h')) (hn:noId v=true:=by rfl) :
  Af lo 156 [.sl 6 a n c,.fn m l] h=some (v,h) :=
 eD Tryz.func156 hk hn
theorem Az.e :
  Az lo a n c m l z y x h=br (decide (x<y)) (Ap x n (eO a λv=>eO (ld h v.1 (v.2+x.toNat) 0 6) λv=>eC v λv o=>eI .i64 v λv=>eC o λo s=>eI .i64 o λo=>eC s λs b=>eI .i64 s λs=>eC b λb u=>eS 2 b λb w p=>eC u λu q=>eT u λu=>eC q λq g=>eBv q λq=>eN g (Aj (Af lo m (CQ [AD v o s b w p u q] l) h) λv o=>eB v (some (Iv x,o)) (Az lo a n c m l z y (Am (x+1)) o)))) (some (Iv (-1),h)) :=
 lE
theorem Tj (hk:(br (decide ((n:Int)<=80)) (Aj (Af h.length 232 [.sl 5 a n c,.fn 233 []] h) λl o=>eB l (AF o) (BZ o)) (AF h))=some (v,h')) (hn:noId v=true:=by rfl) :
  Af lo 157 [.sl 5 a n c] h=some (v,h) :=
 eD Tryz.func157 hk hn
theorem Ox (hk:(br (decide ((n:Int)<=(m:Int))) (AA a m c none (some (Iv (n:Int))) none λl o s=>Aj (Af h.length 234 [.sl 6 l o s,.sl 6 b n p,.fn 155 []] h) λl o=>eB l (BZ o) (AF o)) (AF h))=some (v,h')) (hn:noId v=true:=by rfl) :
  Af lo 158 (Lh a m c b n p) h=some (v,h) :=
 eD Tryz.func158 hk hn
theorem EL (hk:(Aj (Af h.length 235 [.sl 5 a n c,.fn m l] h) λo s=>eI .i64 o λo=>br (decide (o>=0)) (BZ s) (AF s))=some (v,h')) (hn:noId v=true:=by rfl) :
  Af lo 159 [.sl 5 a n c,.fn m l] h=some (v,h) :=
 eD Tryz.func159 hk hn
theorem PG (hk:(Aj (Af h.length 161 [N8 x a n c y z t] h) λl o=>eB l (AF o) (BZ o))=some (v,h')) (hn:noId v=true:=by rfl) :
  Af lo 160 [N8 x a n c y z t] h=some (v,h) :=
 eD Tryz.func160 hk hn
theorem OE (hk:(Aj (Af h.length 62 (AB y) h) λl o=>eB l (Aj (Af h.length 71 [An a n c] o) λl s=>eB l (Aj (Af h.length 144 [Aw z x] s) λl b=>eB l (br ((z==0)&&((x==0)&&true)) (br (t==0) (BZ b) (AF b)) (br (x==y) (Aj (Af h.length 202 (AB t) b) λl u=>eB l (BZ u) (AF u)) (AF b))) (AF b)) (AF s)) (AF o))=some (v,h')) (hn:noId v=true:=by rfl) :
  Af lo 161 [N8 y a n c z x t] h=some (v,h) :=
 eD Tryz.func161 hk hn
theorem Ei (hk:(Aj (Af h.length 236 [.sl 9 a n c,.fn m l] h) λo s=>eI .i64 o λo=>br (decide (o>=0)) (BZ s) (AF s))=some (v,h')) (hn:noId v=true:=by rfl) :
  Af lo 162 [.sl 9 a n c,.fn m l] h=some (v,h) :=
 eD Tryz.func162 hk hn
theorem PF {w q:Int} (hk:(Aj (Af h.length 164 [BF m 0 0,N9 x y z t w q a n c S f] h) λl o=>eB l (AF o) (BZ o))=some (v,h')) (hn:noId v=true:=by rfl) :
  Af lo 163 [N9 x y z t w q a n c S f,BF m 0 0] h=some (v,h) :=
 eD Tryz.func163 hk hn
theorem LZ {w q:Int} (hk:(Aj (Af h.length 226 (Bh x z) h) λl o=>eB l (eO (ld o n m (k+0) 1) λl=>eC l λl s=>eN s (eS 6 l λl s b=>Ap x s (eO l λl=>eO (ld o l.1 (l.2+x.toNat) 3 1) λl=>eC l λl s=>eN s (eS 6 l λl l s=>Aj (Af h.length 63 (Ct y 0 (Am ((l:Int) - 1))) o) λl s=>eB l (eO (ld s n m (k+0) 1) λl=>eC l λl b=>eN b (eS 6 l λl b u=>Ap x b (eO l λl=>eO (ld s l.1 (l.2+x.toNat) 3 1) λl=>eC l λl b=>eN b (eS 6 l λl b u=>Ap y b (eO l λl=>eO (ld s l.1 (l.2+y.toNat) 0 6) λl=>eC l λl b=>eI .i64 l λl=>eC b λb u=>eI .i64 b λb=>eC u λu p=>eI .i64 u λu=>eC p λp g=>eS 2 p λp j d=>eC g λg e=>eT g λg=>eC e λe A=>eBv e λe=>eN A (Aj (Af h.length 155 [AD l b u p j d g e,AD t w q a i c S f] s) λl b=>eB l (BZ b) (AF b))))))) (AF s))))) (AF o))=some (v,h')) (hn:noId v=true:=by rfl) :
  Af lo 164 [BF n m k,N9 x z y t w q a i c S f] h=some (v,h) :=
 eD Tryz.func164 hk hn
def Gj lo a n c x y h:=
 LA 169 Tryz.f169 22131 0 11 lo ⟨[(0,.sl 2 a n c),(1,Iv x),(5,Iv y)],[],h⟩
theorem Gj.e :
  Gj lo a n c y x h=br (decide (x<(n:Int))) (Ap x n (eO a λv=>eO (ld h v.1 (v.2+x.toNat) 0 1) λv=>eC v λv l=>eN l (eS 6 v λv l o=>Aj (Af lo 170 [.sl 6 v l o,Iv y] h) λv l=>eI .i64 v λv=>Ap x n (eO a λo=>eO (ld l o.1 (o.2+x.toNat) 1 1) λo=>eC o λo s=>eN s (eS 6 o λo s b=>Aj (Af lo 170 [.sl 6 o s b,Iv v] l) λv l=>eI .i64 v λv=>Gj lo a n c v (Am (x+1)) l))))) (some (Iv y,h)) :=
 lE
def EX lo a n c x y h:=
 LA 170 Tryz.f170 22131 0 11 lo ⟨[(0,.sl 6 a n c),(1,Iv x),(5,Iv y)],[],h⟩
theorem EX.e :
  EX lo a n c y x h=br (decide (x<(n:Int))) (Ap x n (eO a λv=>eO (st lo h v.1 (v.2+x.toNat) 0 (AB y)) λv=>Ap x n (eO a λl=>eO (st lo v l.1 (l.2+x.toNat) 1 (AB (Am (y+1)))) λv=>Ap x n (eO a λl=>eO (st lo v l.1 (l.2+x.toNat) 2 (AB (Am ((Am (y+1))+1)))) λv=>Ap x n (eO a λl=>eO (ld v l.1 (l.2+x.toNat) 3 1) λl=>eC l λl o=>eN o (eS 2 l λl o s=>Aj (Af lo 172 [.sl 2 l o s,Iv (Am ((Am ((Am (y+1))+1))+1))] v) λv l=>eI .i64 v λv=>Aj (Af lo 88 (AB v) l) λl o=>eT l λl=>Ap x n (eO a λs=>eO (st lo o s.1 (s.2+x.toNat) 4 [.str l]) λl=>br ((Am (v+(1:Int))).tmod (3:Int)==0) (Ap x n (eO a λo=>eO (st lo l o.1 (o.2+x.toNat) 5 [.bool true]) λo=>EX lo a n c (Am ((Am (v+1))+1)) (Am (x+1)) o)) (Ap x n (eO a λo=>eO (st lo l o.1 (o.2+x.toNat) 5 [.bool false]) λl=>EX lo a n c (Am ((Am (v+1))+1)) (Am (x+1)) l))))))))) (some (Iv y,h)) :=
 lE
def Gh lo a n c x y h:=
 LA 171 Tryz.f171 22131 0 11 lo ⟨[(0,.sl 1 a n c),(1,Iv x),(5,Iv y)],[],h⟩
theorem Gh.e :
  Gh lo a n c y x h=br (decide (x<(n:Int))) (Ap x n (eO a λv=>eO (ld h v.1 (v.2+x.toNat) 0 1) λv=>eC v λv l=>eN l (eS 6 v λv l o=>Aj (Af lo 170 [.sl 6 v l o,Iv y] h) λv l=>eI .i64 v λv=>Gh lo a n c v (Am (x+1)) l))) (some (Iv y,h)) :=
 lE
def Hu lo a n c x y h:=
 LA 172 Tryz.f172 22131 0 11 lo ⟨[(0,.sl 2 a n c),(1,Iv x),(5,Iv y)],[],h⟩
theorem Hu.e :
  Hu lo a n c y x h=br (decide (x<(n:Int))) (Ap x n (eO a λv=>eO (st lo h v.1 (v.2+x.toNat) 0 (AB y)) λv=>Ap x n (eO a λl=>eO (st lo v l.1 (l.2+x.toNat) 1 (AB (Am (y+1)))) λv=>Hu lo a n c (Am ((Am (y+1))+1)) (Am (x+1)) v))) (some (Iv y,h)) :=
 lE
def Gn lo a n c x y z h:=
 LA 173 Tryz.f173 22131 0 11 lo ⟨[(0,.sl 2 a n c),(1,Iv x),(4,Iv y),(5,Iv z)],[],h⟩
theorem Gn.e :
  Gn lo a n c y z x h=br (decide (x<(n:Int))) (Ap x n (eO a λv=>eO (ld h v.1 (v.2+x.toNat) 0 1) λv=>eC v λv l=>eN l (eS 6 v λv l o=>Aj (Af lo 174 [.sl 6 v l o,Iv y] h) λv l=>eI .i64 v λv=>br (decide (v<0)) (some (Iv (-1),l)) (Ap x n (eO a λo=>eO (ld l o.1 (o.2+x.toNat) 1 1) λo=>eC o λo s=>eN s (eS 6 o λo s b=>Aj (Af lo 174 [.sl 6 o s b,Iv v] l) λv l=>eI .i64 v λv=>br (decide (v<0)) (some (Iv (-1),l)) (Gn lo a n c v z (Am (x+1)) l))))))) (some (Iv y,h)) :=
 lE
def EY lo a n c x y z h:=
 LA 174 Tryz.f174 22131 0 11 lo ⟨[(0,.sl 6 a n c),(1,Iv x),(4,Iv y),(5,Iv z)],[],h⟩
theorem EY.e :
  EY lo a n c y z x h=br (decide (x<(n:Int))) (Ap x n (eO a λv=>eO (ld h v.1 (v.2+x.toNat) 0 1) λv=>eC v λv l=>eN l (eI .i64 v λv=>br (v==y) (Ap x n (eO a λv=>eO (ld h v.1 (v.2+x.toNat) 1 1) λv=>eC v λv l=>eN l (eI .i64 v λv=>br (v==Am (y+(1:Int))) (Ap x n (eO a λv=>eO (ld h v.1 (v.2+x.toNat) 2 1) λv=>eC v λv l=>eN l (eI .i64 v λv=>br (v==Am (Am (y+(1:Int))+(1:Int))) (Ap x n (eO a λv=>eO (ld h v.1 (v.2+x.toNat) 3 1) λv=>eC v λv l=>eN l (eS 2 v λv l o=>Aj (Af lo 176 [.sl 2 v l o,Iv (Am ((Am ((Am (y+1))+1))+1))] h) λv l=>eI .i64 v λv=>br (decide (v<0)) (some (Iv (-1),l)) (Ap x n (eO a λo=>eO (ld l o.1 (o.2+x.toNat) 4 1) λo=>eC o λo s=>eN s (eT o λo=>Aj (Af l.length 88 (AB v) l) λl s=>eT l λl=>br (o.toList==l.toList) (Ap x n (eO a λl=>eO (ld s l.1 (l.2+x.toNat) 5 1) λl=>eC l λl o=>eN o (eB l (br ((Am (v+(1:Int))).tmod (3:Int)==0) (EY lo a n c (Am ((Am (v+1))+1)) z (Am (x+1)) s) (some (Iv (-1),s))) (br ((Am (v+(1:Int))).tmod (3:Int)==0) (some (Iv (-1),s)) (EY lo a n c (Am ((Am (v+1))+1)) z (Am (x+1)) s))))) (some (Iv (-1),s)))))))) (some (Iv (-1),h))))) (some (Iv (-1),h))))) (some (Iv (-1),h))))) (some (Iv y,h)) :=
 lE
def Gl lo a n c x y z h:=
 LA 175 Tryz.f175 22131 0 11 lo ⟨[(0,.sl 1 a n c),(1,Iv x),(4,Iv y),(5,Iv z)],[],h⟩
theorem Gl.e :
  Gl lo a n c y z x h=br (decide (x<(n:Int))) (Ap x n (eO a λv=>eO (ld h v.1 (v.2+x.toNat) 0 1) λv=>eC v λv l=>eN l (eS 6 v λv l o=>Aj (Af lo 174 [.sl 6 v l o,Iv y] h) λv l=>eI .i64 v λv=>br (decide (v<0)) (some (Iv (-1),l)) (Gl lo a n c v z (Am (x+1)) l)))) (some (Iv y,h)) :=
 lE
def Hv lo a n c x y z h:=
 LA 176 Tryz.f176 22131 0 11 lo ⟨[(0,.sl 2 a n c),(1,Iv x),(4,Iv y),(5,Iv z)],[],h⟩
theorem Hv.e :
  Hv lo a n c y z x h=br (decide (x<(n:Int))) (Ap x n (eO a λv=>eO (ld h v.1 (v.2+x.toNat) 0 1) λv=>eC v λv l=>eN l (eI .i64 v λv=>br (v==y) (Ap x n (eO a λv=>eO (ld h v.1 (v.2+x.toNat) 1 1) λv=>eC v λv l=>eN l (eI .i64 v λv=>br (v==Am (y+(1:Int))) (Hv lo a n c (Am ((Am (y+1))+1)) z (Am (x+1)) h) (some (Iv (-1),h))))) (some (Iv (-1),h))))) (some (Iv y,h)) :=
 lE
def HT lo f x a n c b m p d k u e i s h:=
 LA 183 Tryz.f183 22131 0 11 lo ⟨[(1,.lp 1 0),(2,.bool f),(3,Iv x)],[(1,(CC a n c b m p d k u e i s))],h⟩
def Ft lo f x y a n c b m p d k u e i s h:=
 Lp (X 183) lo (pf 22123122131 Tryz.f183) 2 (A6 2 (A6 1 (kS (X 183) lo (pf 1122131 Tryz.f183) 0 (WJ (X 183) lo (pf 22131 Tryz.f183) 0 (A6 0 (kS (X 183) lo (pf 11 Tryz.f183) 0 (Kt (X 183) Tryz.f183.results.toList))))))) ⟨[(1,.lp 1 0),(2,.bool f),(3,Iv x),(4,Iv y)],[(1,(CC a n c b m p d k u e i s))],h⟩
def Fq lo f x y a n c z b m p d k u e i s A j C h:=
 Lp (X 183) lo (pf 2211123122123122131 Tryz.f183) 4 (A6 4 (A6 3 (kS (X 183) lo (pf 1122123122131 Tryz.f183) 2 (WJ (X 183) lo (pf 22123122131 Tryz.f183) 2 (A6 2 (A6 1 (kS (X 183) lo (pf 1122131 Tryz.f183) 0 (WJ (X 183) lo (pf 22131 Tryz.f183) 0 (A6 0 (kS (X 183) lo (pf 11 Tryz.f183) 0 (Kt (X 183) Tryz.f183.results.toList))))))))))) ⟨[(1,.lp 1 0),(2,.bool f),(3,Iv x),(4,Iv y),(5,.sl 6 a n c),(6,Iv z)],[(1,(CC b m p d k u e i s A j C))],h⟩
theorem HT.e :
  HT lo f x a n c b m p d k u A i s h=br (decide (x<3)) (Ft lo f x 0 a n c b m p d k u A i s h) (BZ h) :=
 lE
theorem Ft.e :
  Ft lo f y x a n c b m p d k u A i s h=br (decide (x<3)) (Ap y n (eO a λv=>eO (ld h v.1 (v.2+y.toNat) 4 1) λv=>eC v λv l=>eN l (eS 1 v λv l o=>Ap x l (eO v λv=>eO (ld h v.1 (v.2+x.toNat) 0 1) λv=>eC v λv l=>eN l (eS 6 v λv l o=>Ap x n (eO a λz=>eO (ld h z.1 (z.2+x.toNat) 3 1) λz=>eC z λz w=>eN w (eS 6 z λz z w=>br (decide ((l:Int)>(z:Int))) (AF h) (Fq lo f y x v l o 0 a n c b m p d k u A i s h)))))))) (HT lo f (Am (y+1)) a n c b m p d k u A i s h) :=
 lE
theorem Fq.e {lo n m k i j:Nat}{f:Bool}{z y x:Int}{b a d A B:Pq}{C c p u s:Nq}{h:Heap} :
  Fq lo f z y b n C x a m c d k p A i u B j s h=br (decide (x<(n:Int))) (Ap x n (eO b λv=>eO (ld h v.1 (v.2+x.toNat) 0 6) λv=>eC v λv l=>eI .i64 v λv=>eC l λl o=>eI .i64 l λl=>eC o λo w=>eI .i64 o λo=>eC w λw q=>eS 2 w λw g t=>eC q λq e=>eT q λq=>eC e λe D=>eBv e λe=>eN D (Ap y m (eO a λD=>eO (ld h D.1 (D.2+y.toNat) 3 1) λD=>eC D λD E=>eN E (eS 6 D λD E G=>Ap x E (eO D λD=>eO (ld h D.1 (D.2+x.toNat) 0 6) λD=>eC D λD E=>eI .i64 D λD=>eC E λE G=>eI .i64 E λE=>eC G λG H=>eI .i64 G λG=>eC H λH J=>eS 2 H λH K L=>eC J λJ M=>eT J λJ=>eC M λM N=>eBv M λM=>eN N (Aj (Af lo 248 [AD v l o w g t q e,AD D E G H K L J M] h) λv l=>eB v (Fq lo f z y b n C (Am (x+1)) a m c d k p A i u B j s l) (AF l)))))))) (Ft lo f z (Am (y+1)) a m c d k p A i u B j s h) :=
 lE
theorem Qo {e:Pq} (hk:(Aj (Af lo 54 (Ct x 0 (Am ((n:Int) - 1))) h) λv l=>eB v (br (y==1) (Aj (Af lo 249 [Au b m c a n p d k u e i s,A9 y x z t S f] l) λv o=>eU v λv=>eC v λv w=>eA v λv=>eC v λv q=>eS 6 v λv g j=>eC q λq A=>eS 5 q λq B C=>eC A λA D=>eS 9 A λA E G=>eC D λD H=>eS 5 D λD J K=>eN H (eC w λw H=>eB w (eN H (some (.tup [Au v g j q B C A E G D J K,.bool true],o))) (eN H (some (.tup [Au v g j q B C A E G D J K,.bool false],o))))) (br (y==2) (Aj (Af lo 250 [Au b m c a n p d k u e i s,A9 y x z t S f] l) λv o=>eU v λv=>eC v λv w=>eA v λv=>eC v λv q=>eS 6 v λv g j=>eC q λq A=>eS 5 q λq B C=>eC A λA D=>eS 9 A λA E G=>eC D λD H=>eS 5 D λD J K=>eN H (eC w λw H=>eB w (eN H (some (.tup [Au v g j q B C A E G D J K,.bool true],o))) (eN H (some (.tup [Au v g j q B C A E G D J K,.bool false],o))))) (br (y==3) (Aj (Af lo 251 [Au b m c a n p d k u e i s,A9 y x z t S f] l) λv o=>eU v λv=>eC v λv w=>eA v λv=>eC v λv q=>eS 6 v λv g j=>eC q λq A=>eS 5 q λq B C=>eC A λA D=>eS 9 A λA E G=>eC D λD H=>eS 5 D λD J K=>eN H (eC w λw H=>eB w (eN H (some (.tup [Au v g j q B C A E G D J K,.bool true],o))) (eN H (some (.tup [Au v g j q B C A E G D J K,.bool false],o))))) (br (y==4) (Aj (Af lo 252 [Au b m c a n p d k u e i s,A9 y x z t S f] l) λv o=>eU v λv=>eC v λv w=>eA v λv=>eC v λv q=>eS 6 v λv g j=>eC q λq A=>eS 5 q λq B C=>eC A λA D=>eS 9 A λA E G=>eC D λD H=>eS 5 D λD J K=>eN H (eC w λw H=>eB w (eN H (some (.tup [Au v g j q B C A E G D J K,.bool true],o))) (eN H (some (.tup [Au v g j q B C A E G D J K,.bool false],o))))) (Ap x n (eO a λv=>eO (ld l v.1 (v.2+x.toNat) 2 1) λv=>eC v λv o=>eN o (eI .i64 v λv=>br (decide (v>0)) (some (.tup [Au b m c a n p d k u e i s,.bool false],l)) (Aj (Af lo 54 (Ct z 0 2) l) λv o=>eB v (Ap x n (eO a λv=>eO (st lo o v.1 (v.2+x.toNat) 0 (AB z)) λv=>some (.tup [Au b m c a n p d k u e i s,.bool true],v))) (some (.tup [Au b m c a n p d k u e i s,.bool false],o)))))))))) (some (.tup [Au b m c a n p d k u e i s,.bool false],l)))=some r) :
  Af lo 184 [Au b m c a n p d k u e i s,A9 y x z t S f] h=some r :=
 eK Tryz.func184 hk
end
noncomputable section

variable {lo n m k i:Nat}{a b d:Pq}{c p u s:Nq}{z x y t:Int}{S:ByteArray}{f:Bool}{h:Heap}{r:V×Heap}{j g:Nat}{w:Int}{h':Heap}{v:V}{l:List V}
theorem Sd {e:Pq} (hk:(Aj (Af lo 54 (Ct x 0 2) h) λv l=>eB v (Ap x n (eO a λv=>eO (ld l v.1 (v.2+x.toNat) 0 6) λv=>eC v λv o=>eI .i64 v λv=>eC o λo w=>eI .i64 o λo=>eC w λw q=>eS 2 w λw g j=>eC q λq A=>eS 6 q λq B C=>eC A λA D=>eS 1 A λA E G=>eC D λD H=>eBv D λD=>eN H (br (z==6) (Aj (Af lo 253 [An w g j,Iv y] l) λH J=>eB H (Aj (Af lo 254 [An w g j,Iv y] J) λH K=>eA H λH=>eC H λH L=>eS 2 H λH M N=>eN L (Aj (Af lo 130 [BB v o H M N q B C A E G D] K) λH K=>eA H λH=>eC H λH L=>eI .i64 H λH=>eC L λL M=>eI .i64 L λL=>eC M λM N=>eS 2 M λM O P=>eC N λN Q=>eS 6 N λN U W=>eC Q λQ Y=>eS 1 Q λQ Z v0=>eC Y λY v1=>eBv Y λY=>eN v1 (Ap x n (eO a λv1=>eO (st lo K v1.1 (v1.2+x.toNat) 0 (Dd H L M O P N U W Q Z v0 Y)) λH=>some (.tup [Au a n c b m p d k u e i s,.bool true],H))))) (Ap x n (eO a λH=>eO (st lo J H.1 (H.2+x.toNat) 0 (Dd v o w g j q B C A E G D)) λH=>some (.tup [Au a n c b m p d k u e i s,.bool false],H)))) (br (z==7) (Aj (Af lo 255 [BB v o w g j q B C A E G D,Iv y] l) λH J=>eB H (Aj (Af lo 256 [An w g j,Iv y] J) λH K=>eA H λH=>eC H λH L=>eS 2 H λH M N=>eN L (Aj (Af lo 130 [BB v o H M N q B C A E G true] K) λH K=>eA H λH=>eC H λH L=>eI .i64 H λH=>eC L λL M=>eI .i64 L λL=>eC M λM N=>eS 2 M λM O P=>eC N λN Q=>eS 6 N λN U W=>eC Q λQ Y=>eS 1 Q λQ Z v0=>eC Y λY v1=>eBv Y λY=>eN v1 (Ap x n (eO a λv1=>eO (st lo K v1.1 (v1.2+x.toNat) 0 (Dd H L M O P N U W Q Z v0 Y)) λH=>some (.tup [Au a n c b m p d k u e i s,.bool true],H))))) (Ap x n (eO a λH=>eO (st lo J H.1 (H.2+x.toNat) 0 (Dd v o w g j q B C A E G D)) λH=>some (.tup [Au a n c b m p d k u e i s,.bool false],H)))) (br (z==8) (br (decide ((g:Int)<4)) (Aj (Af lo 257 [An w g j] l) λH J=>eA H λH=>eC H λH K=>eS 2 H λH L M=>eN K (Ap x n (eO a λK=>eO (st lo J K.1 (K.2+x.toNat) 0 (Dd v o H L M q B C A E G D)) λH=>some (.tup [Au a n c b m p d k u e i s,.bool true],H)))) (Ap x n (eO a λH=>eO (st lo l H.1 (H.2+x.toNat) 0 (Dd v o w g j q B C A E G D)) λH=>some (.tup [Au a n c b m p d k u e i s,.bool false],H)))) (Aj (Af lo 54 (Ct y 0 2) l) λH J=>eB H (Aj (Af lo 258 [BB v o w g j q B C A E G D,Iv y] J) λH K=>eB H (Aj (Af lo 259 [BB v o w g j q B C A E G D,Iv y] K) λH L=>eA H λH=>eC H λH M=>eI .i64 H λH=>eC M λM N=>eI .i64 M λM=>eC N λN O=>eS 2 N λN P Q=>eC O λO U=>eS 6 O λO W Y=>eC U λU Z=>eS 1 U λU v0 v1=>eC Z λZ v2=>eBv Z λZ=>eN v2 (Ap x n (eO a λv2=>eO (st lo L v2.1 (v2.2+x.toNat) 0 (Dd H M N P Q O W Y U v0 v1 Z)) λH=>some (.tup [Au a n c b m p d k u e i s,.bool true],H)))) (Ap x n (eO a λH=>eO (st lo K H.1 (H.2+x.toNat) 0 (Dd v o w g j q B C A E G D)) λH=>some (.tup [Au a n c b m p d k u e i s,.bool false],H)))) (Ap x n (eO a λH=>eO (st lo J H.1 (H.2+x.toNat) 0 (Dd v o w g j q B C A E G D)) λv=>some (.tup [Au a n c b m p d k u e i s,.bool false],v))))))))) (some (.tup [Au a n c b m p d k u e i s,.bool false],l)))=some r) :
  Af lo 185 [Au a n c b m p d k u e i s,A9 z x y t S f] h=some r :=
 eK Tryz.func185 hk
theorem U8 {e:Pq} (hk:(br (z==10) (Aj (Af lo 54 (Ct x 0 2) h) λv l=>eB v (Aj (Af lo 54 (Ct t 0 2) l) λv o=>eB v (br (x==t) (some (.tup [Au a n c b k p d m s e i u,.bool false],o)) (br (decide ((m:Int)>=12)) (some (.tup [Au a n c b k p d m s e i u,.bool false],o)) (Ap x n (eO a λv=>eO (ld o v.1 (v.2+x.toNat) 3 1) λv=>eC v λv w=>eN w (eS 6 v λv v w=>Aj (Af lo 54 (Ct y 0 (Am ((v:Int) - 1))) o) λv w=>eB v (Ap x n (eO a λv=>eO (ld w v.1 (v.2+x.toNat) 3 1) λv=>eC v λv q=>eN q (eS 6 v λv q g=>Ap y q (eO v λv=>eO (ld w v.1 (v.2+y.toNat) 0 6) λv=>eC v λv q=>eI .i64 v λv=>eC q λq g=>eI .i64 q λq=>eC g λg j=>eI .i64 g λg=>eC j λj A=>eS 2 j λj B C=>eC A λA D=>eT A λA=>eC D λD E=>eBv D λD=>eN E (Aj (Af lo 187 [AD v q g j B C A D] w) λv q=>eA v λv=>eC v λv g=>eI .i64 v λv=>eC g λg j=>eI .i64 g λg=>eC j λj A=>eI .i64 j λj=>eC A λA B=>eS 2 A λA C D=>eC B λB E=>eT B λB=>eC E λE G=>eBv E λE=>eN G (Av 9 (q ++ [.rows 9 123 false [Oj x t y v g j A C D B E]]) (.sl 9 (some (q.length,0)) 1 (some 1)) λG=>Df lo 123 9 96 (.sl 9 d m s) G (q ++ [.rows 9 123 false [Oj x t y v g j A C D B E]]) λv q=>eS 9 v λv g j=>some (.tup [Au a n c b k p v g j e i u,.bool true],q))))))) (some (.tup [Au a n c b k p d m s e i u,.bool false],w))))))) (some (.tup [Au a n c b k p d m s e i u,.bool false],o))) (some (.tup [Au a n c b k p d m s e i u,.bool false],l))) (Aj (Af lo 54 (Ct x 0 (Am ((m:Int) - 1))) h) λv l=>eB v (Ap x m (eO d λv=>eO (ld l v.1 (v.2+x.toNat) 0 9) λv=>eC v λv o=>eI .i64 v λv=>eC o λo w=>eI .i64 o λo=>eC w λw q=>eI .i64 w λw=>eC q λq g=>eI .i64 q λq=>eC g λg j=>eI .i64 g λg=>eC j λj A=>eI .i64 j λj=>eC A λA B=>eS 2 A λA C D=>eC B λB E=>eT B λB=>eC E λE G=>eBv E λE=>eN G (br (z==13) (br (z==12) (some (.tup [Au a n c b k p d m s e i u,.bool true],l)) (Ap o n (eO a λG=>eO (ld l G.1 (G.2+o.toNat) 0 6) λG=>eC G λG H=>eI .i64 G λG=>eC H λH J=>eI .i64 H λH=>eC J λJ K=>eS 2 J λJ L M=>eC K λK N=>eS 6 K λK O P=>eC N λN Q=>eS 1 N λN U W=>eC Q λQ Y=>eBv Q λQ=>eN Y (Aj (Af lo 260 [BB G H J L M K O P N U W Q,Iv v,Iv w,AD q g j A C D B E] l) λG H=>eU G λG=>eC G λG J=>eA G λG=>eC G λG K=>eI .i64 G λG=>eC K λK L=>eI .i64 K λK=>eC L λL M=>eS 2 L λL N O=>eC M λM P=>eS 6 M λM Q U=>eC P λP W=>eS 1 P λP Y Z=>eC W λW v0=>eBv W λW=>eN v0 (eC J λJ v0=>eB J (eN v0 (Ap o n (eO a λJ=>eO (st lo H J.1 (J.2+o.toNat) 0 (Dd G K L N O M Q U P Y Z W)) λG=>some (.tup [Au a n c b k p d m s e i u,.bool true],G)))) (eN v0 (some (.tup [Au a n c b k p d m s e i u,.bool true],H)))))))) (AA d m s none (some (Iv x)) none λG H J=>Av 9 (l ++ [.rows 9 123 false []]) (.sl 9 G H J) λG=>Df lo 123 9 96 (.sl 9 (some (l.length,0)) 0 (some 0)) G (l ++ [.rows 9 123 false []]) λG H=>eS 9 G λG J K=>AA d m s (some (Iv (Am (x+1)))) none none λL M N=>Av 9 H (.sl 9 L M N) λL=>Df lo 123 9 96 (.sl 9 G J K) L H λG H=>eS 9 G λG J K=>br (z==12) (some (.tup [Au a n c b k p G J K e i u,.bool true],H)) (Ap o n (eO a λL=>eO (ld H L.1 (L.2+o.toNat) 0 6) λL=>eC L λL M=>eI .i64 L λL=>eC M λM N=>eI .i64 M λM=>eC N λN O=>eS 2 N λN P Q=>eC O λO U=>eS 6 O λO W Y=>eC U λU Z=>eS 1 U λU v0 v1=>eC Z λZ v2=>eBv Z λZ=>eN v2 (Aj (Af lo 260 [BB L M N P Q O W Y U v0 v1 Z,Iv v,Iv w,AD q g j A C D B E] H) λv w=>eU v λv=>eC v λv q=>eA v λv=>eC v λv g=>eI .i64 v λv=>eC g λg j=>eI .i64 g λg=>eC j λj A=>eS 2 j λj B C=>eC A λA D=>eS 6 A λA E H=>eC D λD L=>eS 1 D λD M N=>eC L λL O=>eBv L λL=>eN O (eC q λq O=>eB q (eN O (Ap o n (eO a λq=>eO (st lo w q.1 (q.2+o.toNat) 0 (Dd v g j B C A E H D M N L)) λv=>some (.tup [Au a n c b k p G J K e i u,.bool true],v)))) (eN O (some (.tup [Au a n c b k p G J K e i u,.bool true],w))))))))))) (some (.tup [Au a n c b k p d m s e i u,.bool false],l))))=some r) :
  Af lo 186 [Au a n c b k p d m s e i u,A9 z x t y S f] h=some r :=
 eK Tryz.func186 hk
theorem S8 (hk:(Av 2 (h ++ [.rows 2 36 false []]) (.sl 2 a n c) λv=>Df lo 36 2 16 (.sl 2 (some (h.length,0)) 0 (some 0)) v (h ++ [.rows 2 36 false []]) λv l=>eS 2 v λv o s=>some ((AD x y z v o s S f),l))=some r) :
  Af lo 187 [AD x y z a n c S f] h=some r :=
 eK Tryz.func187 hk
def FX lo n m k x y z t w i a j c S f q M N b g p s0 F h:=
 LA 195 Tryz.f195 2213111 0 1111 lo ⟨[(0,(BF n m k)),(2,.lp 2 0),(3,.lp 3 0),(4,Iv x),(5,Iv y)],[(2,[Iv z,Iv t,Iv w,.sl i a j c,.str S,.bool f]),(3,(C4 q M N b g p s0 F))],h⟩
theorem FX.e {q M N:Int}{s0:ByteArray}{F:Bool} :
  FX lo m k i y x t w q j b g p s0 F z M N a n c S f h=br (decide (x<4)) (Aj (Af lo 109 [BF m k i] h) λv l=>eA v λv=>eC v λv o=>eI .i64 v λv=>eC o λo s=>eI .i64 o λo=>eN s (Ap x n (eO a λs=>eO (st lo l s.1 (s.2+x.toNat) 0 (Bh v o)) λv=>Ap x n (eO a λl=>eO (ld v l.1 (l.2+x.toNat) 0 1) λl=>eC l λl o=>eN o (eI .i64 l λl=>br (decide (l>y)) (Ap x n (eO a λl=>eO (ld v l.1 (l.2+x.toNat) 0 1) λl=>eC l λl o=>eN o (eI .i64 l λl=>FX lo m k i l (Am (x+1)) t w q j b g p s0 F z M N a n c S f v))) (FX lo m k i y (Am (x+1)) t w q j b g p s0 F z M N a n c S f v)))))) (Aj (Af lo 44 [BF m k i,Iv 3] h) λv l=>eI .i64 v λv=>Aj (Af lo 44 [BF m k i,Iv 3] l) λl o=>eI .i64 l λl=>Aj (Af lo 44 [BF m k i,Iv 6] o) λo s=>eI .i64 o λo=>br (o==0) (some ((AD z (Am ((Am (y+1))+v)) l a n c ⟨⟨[]⟩⟩ true),s)) (some ((AD z (Am ((Am (y+1))+v)) l a n c S f),s))) :=
 lE
def BD lo x a n c m b k p i d j u h:=
 LA 196 Tryz.f196 221311 0 111 lo ⟨[(1,.lp 1 0),(2,.lp 2 0),(3,.lp 3 0),(4,Iv x)],[(1,(BC a n c)),(2,[.sl m b k p]),(3,[.sl i d j u])],h⟩
theorem JJ (hk:(BD lo 0 a n c 0 none 0 (some 0) 0 none 0 (some 0) h)=some r) :
  Af lo 196 [Bx a n c] h=some r :=
 eK Tryz.func196 hk
theorem BD.e :
  BD lo x a n p i d j u m b k c h=br (decide (x<(n:Int))) (Ap x n (eO a λv=>eO (ld h v.1 (v.2+x.toNat) 0 6) λv=>eC v λv l=>eI .i64 v λv=>eC l λl o=>eI .i64 l λl=>eC o λo s=>eI .i64 o λo=>eC s λs y=>eS 2 s λs z w=>eC y λy q=>eT y λy=>eC q λq g=>eBv q λq=>eN g (Aj (Af lo 187 [AD v l o s z w y q] h) λv l=>eA v λv=>eC v λv o=>eI .i64 v λv=>eC o λo s=>eI .i64 o λo=>eC s λs y=>eI .i64 s λs=>eC y λy z=>eS 2 y λy w q=>eC z λz g=>eT z λz=>eC g λg t=>eBv g λg=>eN t (Av 6 (l ++ [.rows 6 43 false [C4 v o s y w q z g]]) (.sl 6 (some (l.length,0)) 1 (some 1)) λt=>Df lo 43 6 72 (.sl m b k c) t (l ++ [.rows 6 43 false [C4 v o s y w q z g]]) λv l=>eS 6 v λv o s=>BD lo (Am (x+1)) a n p i d j u 6 v o s l)))) (some (.agg [.sl m b k c],h)) :=
 lE
theorem Tb (hk:(br (decide (x<y)) (BZ h) (br (x==y) (br (decide (z<t)) (BZ h) (AF h)) (AF h)))=some (v,h')) (hn:noId v=true:=by rfl) :
  Af lo 197 [Aw x z,Aw y t] h=some (v,h) :=
 eD Tryz.func197 hk hn
theorem Vg (hk:(Ap x n (eO a λv=>eO (ld h v.1 (v.2+x.toNat) 1 2) λv=>eC v λv l=>eI .i64 v λv=>eC l λl o=>eI .i64 l λl=>eN o (Aj (Af lo 197 [Aw v l,Aw y z] h) λv l=>eB v (Aj (Af lo 187 [AD x y z b m p S f] l) λv o=>eA v λv=>eC v λv s=>eI .i64 v λv=>eC s λs u=>eI .i64 s λs=>eC u λu w=>eI .i64 u λu=>eC w λw q=>eS 2 w λw g i=>eC q λq j=>eT q λq=>eC j λj k=>eBv j λj=>eN k (Ap x n (eO a λk=>eO (st lo o k.1 (k.2+x.toNat) 0 (C4 v s u w g i q j)) λv=>some ((Bx a n c),v)))) (some ((Bx a n c),l)))))=some r) :
  Af lo 198 [Bx a n c,AD x y z b m p S f] h=some r :=
 eK Tryz.func198 hk
def D2 lo f x a n c b m p h:=
 LA 199 Tryz.f199 22131 0 11 lo ⟨[(2,.lp 2 0),(3,.lp 3 0),(4,.bool f),(5,Iv x)],[(2,(BC a n c)),(3,(BC b m p))],h⟩
theorem D2.e {lo n m:Nat}{f:Bool}{x:Int}{a b:Pq}{c p:Nq}{h:Heap} :
  D2 lo f x a n c b m p h=br (decide (x<4)) (Ap x n (eO a λv=>eO (ld h v.1 (v.2+x.toNat) 1 2) λv=>eC v λv l=>eI .i64 v λv=>eC l λl o=>eI .i64 l λl=>eN o (Ap x m (eO b λo=>eO (ld h o.1 (o.2+x.toNat) 1 2) λo=>eC o λo s=>eI .i64 o λo=>eC s λs y=>eI .i64 s λs=>eN y (br ((v==o)&&((l==s)&&true)) (Ap x n (eO a λv=>eO (ld h v.1 (v.2+x.toNat) 1 1) λv=>eC v λv l=>eN l (eI .i64 v λv=>br (decide (v>0)) (Ap x n (eO a λv=>eO (ld h v.1 (v.2+x.toNat) 0 6) λv=>eC v λv l=>eI .i64 v λv=>eC l λl o=>eI .i64 l λl=>eC o λo s=>eI .i64 o λo=>eC s λs y=>eS 2 s λs z u=>eC y λy w=>eT y λy=>eC w λw q=>eBv w λw=>eN q (Ap x m (eO b λq=>eO (ld h q.1 (q.2+x.toNat) 0 6) λq=>eC q λq g=>eI .i64 q λq=>eC g λg i=>eI .i64 g λg=>eC i λi j=>eI .i64 i λi=>eC j λj k=>eS 2 j λj t d=>eC k λk e=>eT k λk=>eC e λe A=>eBv e λe=>eN A (Aj (Af lo 248 [AD v l o s z u y w,AD q g i j t d k e] h) λv l=>eB v (D2 lo f (Am (x+1)) a n c b m p l) (AF l)))))) (D2 lo f (Am (x+1)) a n c b m p h)))) (AF h)))))) (BZ h) :=
 lE
def BV lo a n c x y m b k p d i u h:=
 LA 200 Tryz.f200 221311 0 111 lo ⟨[(2,.lp 2 0),(3,.lp 3 0),(12,.sl 2 a n c),(13,Iv x),(14,Iv y)],[(2,[.sl m b k p]),(3,(Bq d i u))],h⟩
theorem Mw (hk:(Be (decide ((0:Int)<=0/\(0:Int)<=(n:Int)/\(n:Int)<=140737488355328/\(n:Int)*((48:Nat):Int)<=281474976710656)) (BV lo a n c (n:Int) 0 0 none 0 (some 0) (some (h.length,0)) 0 (some n) (h ++ [.rows 2 47 false (List.replicate n [.sl 0 none 0 (some 0),.sl 0 none 0 (some 0)])])))=some r) :
  Af lo 200 [An a n c] h=some r :=
 eK Tryz.func200 hk
theorem BV.e :
  BV lo a n p y x k d i u b m c h=br (decide (x<y)) (Ap x n (eO a λv=>eO (ld h v.1 (v.2+x.toNat) 0 2) λv=>eC v λv l=>eS 6 v λv o s=>eC l λl z=>eS 6 l λl w q=>eN z (Aj (Af lo 209 [Bx v o s] h) λv o=>eA v λv=>eC v λv s=>eS 6 v λv z g=>eN s (Aj (Af lo 201 (BC l w q) o) λl o=>eS 6 l λl s w=>Av 2 (o ++ [.rows 2 47 false [Lh v z g l s w]]) (.sl 2 (some (o.length,0)) 1 (some 1)) λq=>Df lo 47 2 48 (.sl 2 b m c) q (o ++ [.rows 2 47 false [Lh v z g l s w]]) λv l=>eS 2 v λv o s=>BV lo a n p y (Am (x+1)) k d i u v o s l)))) (some ((An b m c),h)) :=
 lE
def Bf lo a n c b m p x y h:=
 LA 201 Tryz.f201 221311 0 111 lo ⟨[(3,.sl 6 a n c),(9,.sl 6 b m p),(10,Iv x),(11,Iv y)],[],h⟩
theorem J6 (hk:(Be (decide ((0:Int)<=0/\(0:Int)<=(n:Int)/\(n:Int)<=140737488355328/\(n:Int)*((72:Nat):Int)<=281474976710656)) (Bf lo (some (h.length,0)) 0 (some n) a n c (n:Int) 0 (h ++ [.rows 6 43 false (List.replicate n [Iv 0,Iv 0,Iv 0,.sl 0 none 0 (some 0),.str ⟨⟨[]⟩⟩,.bool false])])))=some r) :
  Af lo 201 (BC a n c) h=some r :=
 eK Tryz.func201 hk
theorem Bf.e :
  Bf lo a n c b m p y x h=br (decide (x<y)) (Ap x m (eO b λv=>eO (ld h v.1 (v.2+x.toNat) 0 6) λv=>eC v λv l=>eI .i64 v λv=>eC l λl o=>eI .i64 l λl=>eC o λo s=>eI .i64 o λo=>eC s λs z=>eS 2 s λs u w=>eC z λz q=>eT z λz=>eC q λq g=>eBv q λq=>eN g (Aj (Af lo 154 [AD v l o s u w z q] h) λv l=>eA v λv=>eC v λv o=>eI .i64 v λv=>eC o λo s=>eI .i64 o λo=>eC s λs z=>eI .i64 s λs=>eC z λz u=>eS 2 z λz w q=>eC u λu g=>eT u λu=>eC g λg i=>eBv g λg=>eN i (Av 6 (l ++ [.rows 6 43 false [C4 v o s z w q u g]]) (.sl 6 (some (l.length,0)) 1 (some 1)) λi=>Df lo 43 6 72 (.sl 6 a n c) i (l ++ [.rows 6 43 false [C4 v o s z w q u g]]) λv l=>eS 6 v λv o s=>Bf lo v o s b m p y (Am (x+1)) l)))) (some (.sl 6 a n c,h)) :=
 lE
theorem Vm (hk:(Aj (Af h.length 63 (Ct x 0 3) h) λl c=>eB l (BZ c) (AF c))=some (v,h')) (hn:noId v=true:=by rfl) :
  Af lo 202 (AB x) h=some (v,h) :=
 eD Tryz.func202 hk hn
def Dt lo S f x y h:=
 LA 203 Tryz.f203 22131 0 11 lo ⟨[(0,.str S),(2,.bool f),(5,Iv x),(6,Iv y)],[],h⟩
theorem Th (hk:(Dt h.length S false ((S.size:Int)) 0 h)=some (v,h')) (hn:noId v=true:=by rfl) :
  Af lo 203 [.str S] h=some (v,h) :=
 eD Tryz.func203 hk hn
theorem Dt.e :
  Dt lo S f y x h=br (decide (x<y)) (eO (PP S x) λv=>Aj (Af lo 63 (Ct (Am ((v.toNat:Int))) 33 126) h) λv l=>eB v (Dt lo S f y (Am (x+1)) l) (AF l)) (br (decide ((S.size:Int)<=8)) (BZ h) (AF h)) :=
 lE
theorem Nu (hk:(eO (ld h m k (i+0) 1) λv=>eC v λv l=>eN l (eS 2 v λv l o=>Ap x l (eO v λv=>eO (ld h v.1 (v.2+x.toNat) 0 1) λl=>eC l λl o=>eS 6 l λl s b=>eN o (Aj (Af lo 210 [Bx l s b,AD y z t a n c S f] h) λl o=>eB l (eO (ld o v.1 (v.2+x.toNat) 0 1) λl=>eC l λl s=>eN s (eS 6 l λl s b=>Aj (Af o.length 154 [AD y z t a n c S f] o) λb u=>eA b λb=>eC b λb w=>eI .i64 b λb=>eC w λw p=>eI .i64 w λw=>eC p λp q=>eI .i64 p λp=>eC q λq g=>eS 2 q λq j d=>eC g λg e=>eT g λg=>eC e λe A=>eBv e λe=>eN A (Ap y s (eO l λl=>eO (st lo u l.1 (l.2+y.toNat) 0 (C4 b w p q j d g e)) λl=>eO (ld l m k i 1) λs=>eC s λs b=>eS 2 s λs u w=>eN b (Aj (Af lo 135 [An s u w,Iv x] l) λl s=>eB l (some (.tup [],s)) (eO (ld s v.1 (v.2+x.toNat) 1 1) λl=>eC l λl b=>eN b (eS 6 l λl b u=>Aj (Af s.length 154 [AD y z t a n c S f] s) λs w=>eA s λs=>eC s λs p=>eI .i64 s λs=>eC p λp q=>eI .i64 p λp=>eC q λq g=>eI .i64 q λq=>eC g λg j=>eS 2 g λg d e=>eC j λj A=>eT j λj=>eC A λA B=>eBv A λA=>eN B (Av 6 (w ++ [.rows 6 43 false [C4 s p q g d e j A]]) (.sl 6 (some (w.length,0)) 1 (some 1)) λB=>Df lo 43 6 72 (.sl 6 l b u) B (w ++ [.rows 6 43 false [C4 s p q g d e j A]]) λl s=>eS 6 l λl b u=>Aj (Af lo 205 (BC l b u) s) λl s=>eS 6 l λl b u=>eO (st lo s v.1 (v.2+x.toNat) 1 (BC l b u)) λv=>some (.tup [],v))))))))) (some (.tup [],o))))))=some r) :
  Af lo 204 [BF m k i,Iv x,AD y z t a n c S f] h=some r :=
 eK Tryz.func204 hk
theorem HB (hk:(AA a n c none (some (Iv (n:Int))) (some (Iv (n:Int))) λv l o=>some (.sl 6 v l o,h))=some r) :
  Af lo 205 (BC a n c) h=some r :=
 eK Tryz.func205 hk
theorem EM (hk:(Aj (Af h.length 270 [.sl 2 a n c,.fn m l] h) λo s=>eI .i64 o λo=>br (decide (o>=0)) (BZ s) (AF s))=some (v,h')) (hn:noId v=true:=by rfl) :
  Af lo 206 [.sl 2 a n c,.fn m l] h=some (v,h) :=
 eD Tryz.func206 hk hn
theorem Lj (hk:(br (decide ((n:Int)>0)) (BZ h) (AF h))=some (v,h')) (hn:noId v=true:=by rfl) :
  Af lo 207 [LI a m c b n p] h=some (v,h) :=
 eD Tryz.func207 hk hn
def CE lo a n c f x y z h:=
 LA 208 Tryz.f208 22131 0 11 lo ⟨[(0,.sl 6 a n c),(3,.lp 3 0),(4,.bool f),(5,Iv x)],[(3,(Bh y z))],h⟩
theorem Qp (hk:(CE h.length a n c false 0 x y h)=some (v,h')) (hn:noId v=true:=by rfl) :
  Af lo 208 [.sl 6 a n c,Aw x y] h=some (v,h) :=
 eD Tryz.func208 hk hn
theorem CE.e :
  CE lo a n c f x y z h=br (decide (x<(n:Int))) (Ap x n (eO a λv=>eO (ld h v.1 (v.2+x.toNat) 1 2) λv=>eC v λv l=>eI .i64 v λv=>eC l λl o=>eI .i64 l λl=>eN o (br ((v==y)&&((l==z)&&true)) (BZ h) (CE lo a n c f (Am (x+1)) y z h)))) (AF h) :=
 lE
theorem Mr (hk:(Aj (Af lo 201 (BC a n c) h) λv l=>eS 6 v λv o s=>some ((Bx v o s),l))=some r) :
  Af lo 209 [Bx a n c] h=some r :=
 eK Tryz.func209 hk
theorem No (hk:(Ap x n (eO a λl=>eO (ld h l.1 (l.2+x.toNat) 1 2) λl=>eC l λl o=>eI .i64 l λl=>eC o λo s=>eI .i64 o λo=>eN s (Aj (Af h.length 15 [Aw l o,Aw y z] h) λl o=>eB l (BZ o) (AF o))))=some (v,h')) (hn:noId v=true:=by rfl) :
  Af lo 210 [Bx a n c,AD x y z b m p S f] h=some (v,h) :=
 eD Tryz.func210 hk hn
theorem OD (hk:(Aj (Af h.length 234 [.sl 6 a n c,.sl 6 b m p,.fn 155 []] h) λl o=>eB l (BZ o) (AF o))=some (v,h')) (hn:noId v=true:=by rfl) :
  Af lo 211 [Bx a n c,Bx b m p] h=some (v,h) :=
 eD Tryz.func211 hk hn
theorem Qz (hk:(eO (ld h n 0 0 2) λl=>eC l λl o=>eI .i64 l λl=>eC o λo s=>eI .i64 o λo=>eN s (br ((x==l)&&((y==o)&&true)) (BZ h) (AF h)))=some (v,h')) (hn:noId v=true:=by rfl) :
  Af lo 212 [AD z x y a m c S f,BF n 0 0] h=some (v,h) :=
 eD Tryz.func212 hk hn
theorem QI (hk:(br (x==x) (AF h) (BZ h))=some (v,h')) (hn:noId v=true:=by rfl) :
  Af lo 213 (AB x) h=some (v,h) :=
 eD Tryz.func213 hk hn
def AM lo a n c m l x y z h:=
 LA 214 Tryz.f214 22131 0 11 lo ⟨[(0,.sl 2 a n c),(1,.fn m l),(4,Iv x),(7,Iv y),(8,Iv z)],[],h⟩
theorem FG (hk:(AM h.length a n c m l 0 (n:Int) 0 h)=some (v,h')) (hn:noId v=true:=by rfl) :
  Af lo 214 [.sl 2 a n c,.fn m l] h=some (v,h) :=
 eD Tryz.func214 hk hn
theorem AM.e :
  AM lo a n c m l z y x h=br (decide (x<y)) (Ap x n (eO a λv=>eO (ld h v.1 (v.2+x.toNat) 0 2) λv=>eC v λv o=>eI .i64 v λv=>eC o λo s=>eI .i64 o λo=>eN s (Aj (Af lo m (CQ [Aw v o] l) h) λv o=>eB v (some (Iv x,o)) (AM lo a n c m l z y (Am (x+1)) o)))) (some (Iv (-1),h)) :=
 lE
theorem Qt {G:Nat}{e:Pq} (hk:(Aj (Af lo 44 [BF n m k,Iv 3] h) λv l=>eI .i64 v λv=>Aj (Af lo 44 [BF n m k,Iv 20] l) λl o=>eI .i64 l λl=>br (l==0) (Aj (Af lo 44 [BF n m k,Iv 4] o) λx y=>eI .i64 x λx=>Aj (Af lo 44 [BF n m k,Iv 4] y) λy z=>eI .i64 y λy=>Aj (Af lo 269 [BF n m k] z) λz w=>eT z λz=>some ((A9 1 x 0 y z false),w)) (br (l==1) (Aj (Af lo 44 [BF n m k,Iv 4] o) λx y=>eI .i64 x λx=>Aj (Af lo 44 [BF n m k,Iv 4] y) λy z=>eI .i64 y λy=>Aj (Af lo 269 [BF n m k] z) λz w=>eT z λz=>some ((A9 1 x 0 y z false),w)) (br (l==2) (Aj (Af lo 44 [BF n m k,Iv 4] o) λx y=>eI .i64 x λx=>Aj (Af lo 44 [BF n m k,Iv 4] y) λy z=>eI .i64 y λy=>Aj (Af lo 269 [BF n m k] z) λz w=>eT z λz=>some ((A9 1 x 0 y z false),w)) (br (l==3) (Aj (Af lo 44 [BF n m k,Iv 4] o) λx y=>eI .i64 x λx=>Aj (Af lo 44 [BF n m k,Iv 4] y) λy z=>eI .i64 y λy=>some ((A9 1 x 0 y ⟨⟨[]⟩⟩ true),z)) (br (l==4) (Aj (Af lo 44 [BF n m k,Iv 4] o) λx y=>eI .i64 x λx=>some ((A9 2 x 0 0 ⟨⟨[]⟩⟩ false),y)) (br (l==5) (Aj (Af lo 44 [BF n m k,Iv 4] o) λx y=>eI .i64 x λx=>some ((A9 2 x 0 0 ⟨⟨[]⟩⟩ false),y)) (br (l==6) (Aj (Af lo 44 [BF n m k,Iv 4] o) λx y=>eI .i64 x λx=>some ((A9 2 x 0 0 ⟨⟨[]⟩⟩ false),y)) (br (l==7) (Aj (Af lo 44 [BF n m k,Iv 4] o) λx y=>eI .i64 x λx=>Aj (Af lo 44 [BF n m k,Iv 4] y) λy z=>eI .i64 y λy=>Aj (Af lo 44 [BF n m k,Iv 4] z) λz w=>eI .i64 z λz=>some ((A9 3 x y z ⟨⟨[]⟩⟩ false),w)) (br (l==8) (Aj (Af lo 44 [BF n m k,Iv 4] o) λx y=>eI .i64 x λx=>Aj (Af lo 44 [BF n m k,Iv 4] y) λy z=>eI .i64 y λy=>Aj (Af lo 44 [BF n m k,Iv 4] z) λz w=>eI .i64 z λz=>some ((A9 3 x y z ⟨⟨[]⟩⟩ false),w)) (br (l==9) (Aj (Af lo 44 [BF n m k,Iv 4] o) λx y=>eI .i64 x λx=>Aj (Af lo 44 [BF n m k,Iv 4] y) λy z=>eI .i64 y λy=>Aj (Af lo 44 [BF n m k,Iv 4] z) λz w=>eI .i64 z λz=>some ((A9 3 x y z ⟨⟨[]⟩⟩ false),w)) (br (l==10) (Aj (Af lo 49 [BF n m k,.sl 1 (some (o.length,0)) 2 (some 2)] (o ++ [.rows 1 3 false [AB 4,AB 5]])) λx y=>eI .i64 x λx=>Aj (Af lo 44 [BF n m k,Iv 4] y) λy z=>eI .i64 y λy=>Aj (Af lo 44 [BF n m k,Iv 3] z) λz w=>eI .i64 z λz=>some ((A9 x y z 0 ⟨⟨[]⟩⟩ false),w)) (br (l==11) (Aj (Af lo 49 [BF n m k,.sl 1 (some (o.length,0)) 4 (some 4)] (o ++ [.rows 1 3 false [AB 0,AB 0,AB 1,AB 2]])) λx y=>eI .i64 x λx=>some ((A9 6 v x 0 ⟨⟨[]⟩⟩ false),y)) (br (l==12) (Aj (Af lo 49 [BF n m k,.sl 1 (some (o.length,0)) 4 (some 4)] (o ++ [.rows 1 3 false [AB 0,AB 0,AB 1,AB 2]])) λx y=>eI .i64 x λx=>some ((A9 6 v x 0 ⟨⟨[]⟩⟩ false),y)) (br (l==13) (Aj (Af lo 49 [BF n m k,.sl 1 (some (o.length,0)) 4 (some 4)] (o ++ [.rows 1 3 false [AB 0,AB 0,AB 1,AB 2]])) λx y=>eI .i64 x λx=>some ((A9 6 v x 0 ⟨⟨[]⟩⟩ false),y)) (br (l==14) (Aj (Af lo 49 [BF n m k,.sl 1 (some (o.length,0)) 2 (some 2)] (o ++ [.rows 1 3 false [AB 7,AB 8]])) λx y=>eI .i64 x λx=>Aj (Af lo 44 [BF n m k,Iv 4] y) λy z=>eI .i64 y λy=>some ((A9 x v y 0 ⟨⟨[]⟩⟩ false),z)) (br (l==15) (Aj (Af lo 44 [BF n m k,Iv 3] o) λx y=>eI .i64 x λx=>some ((A9 9 v x 0 ⟨⟨[]⟩⟩ false),y)) (br (l==16) (Aj (Af lo 44 [BF n m k,Iv 3] o) λx y=>eI .i64 x λx=>some ((A9 9 v x 0 ⟨⟨[]⟩⟩ false),y)) (br (l==17) (Aj (Af lo 44 [BF n m k,Iv 3] o) λx y=>eI .i64 x λx=>Ap x i (eO a λz=>eO (ld y z.1 (z.2+x.toNat) 4 1) λz=>eC z λz w=>eN w (eS 1 z λz w q=>Ap v w (eO z λz=>eO (ld y z.1 (z.2+v.toNat) 0 1) λz=>eC z λz w=>eN w (eS 6 z λz z w=>some ((A9 10 v x (z:Int) ⟨⟨[]⟩⟩ false),y)))))) (br (l==18) (Aj (Af lo 44 [BF n m k,Iv 3] o) λl x=>eI .i64 l λl=>Ap l i (eO a λy=>eO (ld x y.1 (y.2+l.toNat) 4 1) λy=>eC y λy z=>eN z (eS 1 y λy z w=>Ap v z (eO y λy=>eO (ld x y.1 (y.2+v.toNat) 0 1) λy=>eC y λy z=>eN z (eS 6 y λy y z=>some ((A9 10 v l (y:Int) ⟨⟨[]⟩⟩ false),x)))))) (Aj (Af lo 49 [BF n m k,.sl 1 (some (o.length,0)) 7 (some 7)] (o ++ [.rows 1 3 false [AB 11,AB 11,AB 11,AB 12,AB 13,AB 0,AB 14]])) λv l=>eI .i64 v λv=>Aj (Af lo 44 [BF n m k,Iv 3] l) λl o=>eI .i64 l λl=>some ((A9 v l 0 0 ⟨⟨[]⟩⟩ false),o)))))))))))))))))))))=some r) :
  Af lo 215 [BF n m k,Au a i c b j p d g u e G s] h=some r :=
 eK Tryz.func215 hk
theorem Vb (hk:(Aj (Af h.length 271 (AB y) h) λv l=>eA v λv=>eC v λv c=>eS 2 v λv n a=>eN c (some (.agg [Iv x,Iv 0,.sl 2 v n a,.sl 0 none 0 (some 0),.sl 1 (some (l.length,0)) 3 (some 3),.bool false],(l ++ [.rows 1 26 false [[.sl 0 none 0 (some 0)],[.sl 0 none 0 (some 0)],[.sl 0 none 0 (some 0)]]]))))=some r) :
  Af lo 216 (Bh x y) h=some r :=
 eK Tryz.func216 hk
def CL lo x y n a m c b k p h:=
 LA 217 Tryz.f217 2213111 0 1111 lo ⟨[(2,.lp 2 0),(3,.lp 3 0),(11,Iv x),(12,Iv y)],[(2,[.sl n a m c]),(3,(Bq b k p))],h⟩
theorem QH (hk:(Aj (Af lo 132 (AB x) h) λv l=>eB v (Be (decide ((0:Int)<=0/\(0:Int)<=x/\x<=140737488355328/\x*((48:Nat):Int)<=281474976710656)) (CL lo x 0 0 none 0 (some 0) (some (l.length,0)) 0 (some x.toNat) (l ++ [.rows 2 47 false (List.replicate x.toNat [.sl 0 none 0 (some 0),.sl 0 none 0 (some 0)])]))) (some (.agg [.sl 0 none 0 (some 0)],l)))=some r) :
  Af lo 217 (AB x) h=some r :=
 eK Tryz.func217 hk
theorem CL.e :
  CL lo x y m b k p a n c h=br (decide (y<x)) (Aj (Af lo 272 [] h) λv l=>eA v λv=>eC v λv o=>eS 6 v λv s z=>eN o (Av 2 (l ++ [.rows 2 47 false [[.sl 6 v s z,.sl 0 none 0 (some 0)]]]) (.sl 2 (some (l.length,0)) 1 (some 1)) λo=>Df lo 47 2 48 (.sl 2 a n c) o (l ++ [.rows 2 47 false [[.sl 6 v s z,.sl 0 none 0 (some 0)]]]) λv l=>eS 2 v λv o s=>CL lo x (Am (y+1)) m b k p v o s l)) (some ((An a n c),h)) :=
 lE
theorem Nl (hk:(Aj (Af lo 273 [BF i j g,Iv 1] h) λv l=>eB v (eO (ld l i j (g+0) 1) λv=>eC v λv c=>eN c (eS 6 v λv c a=>eO (ld l n m (k+0) 1) λa=>eC a λa o=>eN o (eI .i64 a λa=>Ap a c (eO v λv=>eO (ld l n m (k+1) 1) λc=>eC c λc o=>eS 2 c λc s b=>eN o (Be (GB (ld l i j (g+0) 1) (ld l i j (g+0) 1)) (Be (GB (ld l n m (k+0) 1) (ld l n m (k+0) 1)) (Aj (Af lo 153 [An c s b] l) λc o=>eA c λc=>eC c λc s=>eS 2 c λc b u=>eN s (Be (GB (ld l i j (g+0) 1) (ld o i j (g+0) 1)) (Be (GB (ld l n m (k+0) 1) (ld o n m (k+0) 1)) (Aj (Af lo 52 [.ptr (some (v.1,((v.2+a.toNat),0))),AD x 0 0 c b u S f] o) λv c=>eA v λv=>eC v λv a=>eI .i64 v λv=>eC a λa o=>eI .i64 a λa=>eN o (br ((v==0)&&((a==0)&&true)) (AF c) (eO (st lo c n m (k+2) (Bh v a)) λc=>eO (st lo c n m (k+4) (AB x)) λc=>Aj (Af lo 274 [BF i j g,Iv y,Iv 1,Iv x,Aw v a] c) λv c=>eU v λv=>eN v (BZ c))))))))))))) (AF l))=some r) :
  Af lo 218 [BF i j g,BF n m k,A9 z y t x S f] h=some r :=
 eK Tryz.func218 hk
theorem PD (hk:(eO (ld h i j (g+0) 1) λv=>eC v λv l=>eN l (eS 6 v λv l c=>eO (ld h n m (k+0) 1) λc=>eC c λc a=>eN a (eI .i64 c λc=>Ap c l (eO v λv=>eO (ld h n m (k+4) 1) λl=>eC l λl a=>eN a (eI .i64 l λl=>Aj (Af lo 275 [.ptr (some (v.1,((v.2+c.toNat),2))),Iv 0,Iv l] h) λl a=>eU l λl=>eC l λl o=>eA l λl=>eC l λl s=>eI .i64 l λl=>eC s λl s=>eI .i64 l λl=>eC s λs b=>eI .i64 s λs=>eC b λb u=>eS 2 b λb b b=>eC u λb u=>eT b λb=>eC u λb u=>eBv b λb=>eN u (eC o λo b=>eB o (eN b (eO (ld a n m (k+2) 2) λo=>eC o λo u=>eI .i64 o λo=>eC u λu w=>eI .i64 u λu=>eN w (Aj (Af lo 15 [Aw l s,Aw o u] a) λo u=>eB o (eO (ld u v.1 (v.2+c.toNat) 2 1) λo=>eC o λo w=>eN w (eS 2 o λo w p=>Ap 0 w (eO o λo=>eO (ld u o.1 (o.2+0) 0 1) λo=>eC o λo w=>eN w (eS 6 o λo w p=>eO (ld u n m (k+4) 1) λp=>eC p λp q=>eN q (eI .i64 p λp=>Ap p w (eO o λo=>eO (ld u o.1 (o.2+p.toNat) 1 2) λo=>eC o λo w=>eI .i64 o λo=>eC w λw p=>eI .i64 w λw=>eN p (eO (ld u n m (k+2) 2) λp=>eC p λp q=>eI .i64 p λp=>eC q λq d=>eI .i64 q λq=>eN d (Aj (Af lo 15 [Aw o w,Aw p q] u) λo w=>eB o (eO (st lo w n m (k+2) (Bh 0 0)) λo=>eO (st lo o n m (k+4) (AB 0)) λo=>some (.bool true,o)) (AF w))))))))) (Aj (Af lo 273 [BF i j g,Iv 1] u) λo u=>eB o (eO (ld u n m (k+1) 1) λo=>eC o λo w=>eS 2 o λo p q=>eN w (eO (ld u n m (k+4) 1) λw=>eC w λw d=>eN d (eI .i64 w λw=>eO (ld u n m (k+2) 2) λd=>eC d λd e=>eI .i64 d λd=>eC e λe A=>eI .i64 e λe=>eN A (Aj (Af lo 276 [An o p q,Iv w,Aw d e] u) λo w=>eA o λo=>eC o λo p=>eS 2 o λo q d=>eN p (eO (st lo w n m (k+1) (Bq o q d)) λo=>eO (ld o n m (k+4) 1) λw=>eC w λw p=>eN p (eI .i64 w λw=>eO (ld o n m (k+2) 2) λp=>eC p λp q=>eI .i64 p λp=>eC q λq d=>eI .i64 q λq=>eN d (Aj (Af lo 274 [BF i j g,Iv x,Iv 3,Iv w,Aw p q] o) λo w=>eU o λo=>eN o (eO (st lo w n m (k+2) (Bh 0 0)) λo=>eO (st lo o n m (k+4) (AB 0)) λo=>some (.bool true,o))))))))) (AF u))))) (eN b (eO (ld a n m (k+2) 2) λo=>eC o λo b=>eI .i64 o λo=>eC b λb u=>eI .i64 b λb=>eN u (Aj (Af lo 15 [Aw l s,Aw o b] a) λl a=>eB l (eO (ld a v.1 (v.2+c.toNat) 2 1) λv=>eC v λv l=>eN l (eS 2 v λv l c=>Ap 0 l (eO v λv=>eO (ld a v.1 (v.2+0) 0 1) λv=>eC v λv l=>eN l (eS 6 v λv l c=>eO (ld a n m (k+4) 1) λc=>eC c λc o=>eN o (eI .i64 c λc=>Ap c l (eO v λv=>eO (ld a v.1 (v.2+c.toNat) 1 2) λv=>eC v λv l=>eI .i64 v λv=>eC l λl c=>eI .i64 l λl=>eN c (eO (ld a n m (k+2) 2) λc=>eC c λc o=>eI .i64 c λc=>eC o λo s=>eI .i64 o λo=>eN s (Aj (Af lo 15 [Aw v l,Aw c o] a) λv l=>eB v (eO (st lo l n m (k+2) (Bh 0 0)) λv=>eO (st lo v n m (k+4) (AB 0)) λv=>some (.bool true,v)) (AF l))))))))) (Aj (Af lo 273 [BF i j g,Iv 1] a) λv l=>eB v (eO (ld l n m (k+1) 1) λv=>eC v λv c=>eS 2 v λv a o=>eN c (eO (ld l n m (k+4) 1) λc=>eC c λc s=>eN s (eI .i64 c λc=>eO (ld l n m (k+2) 2) λs=>eC s λs b=>eI .i64 s λs=>eC b λb u=>eI .i64 b λb=>eN u (Aj (Af lo 276 [An v a o,Iv c,Aw s b] l) λv c=>eA v λv=>eC v λv a=>eS 2 v λv o s=>eN a (eO (st lo c n m (k+1) (Bq v o s)) λv=>eO (ld v n m (k+4) 1) λc=>eC c λc a=>eN a (eI .i64 c λc=>eO (ld v n m (k+2) 2) λa=>eC a λa o=>eI .i64 a λa=>eC o λo s=>eI .i64 o λo=>eN s (Aj (Af lo 274 [BF i j g,Iv x,Iv 3,Iv c,Aw a o] v) λv c=>eU v λv=>eN v (eO (st lo c n m (k+2) (Bh 0 0)) λv=>eO (st lo v n m (k+4) (AB 0)) λv=>some (.bool true,v))))))))) (AF l)))))))))))=some r) :
  Af lo 219 [BF i j g,BF n m k,A9 y x z t S f] h=some r :=
 eK Tryz.func219 hk
theorem Oz (hk:(eO (ld h i j (g+0) 1) λv=>eC v λv l=>eN l (eS 6 v λv l c=>eO (ld h n m (k+0) 1) λc=>eC c λc a=>eN a (eI .i64 c λc=>Ap c l (eO v λv=>Aj (Af h.length 275 [.ptr (some (v.1,((v.2+c.toNat),2))),Iv z,Iv x] h) λv l=>eU v λv=>eC v λv c=>eA v λv=>eC v λv a=>eI .i64 v λv=>eC a λv a=>eI .i64 v λv=>eC a λa o=>eI .i64 a λa=>eC o λo s=>eS 2 o λo b u=>eC s λs w=>eT s λs=>eC w λs w=>eBv s λs=>eN w (eC c λc s=>eB c (eN s (Aj (Af lo 273 [BF i j g,Iv 1] l) λc w=>eB c (eO (ld w n m ((k+1)+0) 1) λc=>eC c λc p=>eN p (eS 2 c λc p q=>Ap x p (eO c λc=>eO (ld w c.1 (c.2+x.toNat) 0 2) λc=>eC c λc p=>eI .i64 c λc=>eC p λp q=>eI .i64 p λp=>eN q (Aj (Af lo 15 [Aw v a,Aw c p] w) λc p=>eB c (AF p) (eO (ld p n m (k+1) 1) λc=>eC c λc q=>eS 2 c λc d e=>eN q (Aj (Af lo 277 [An c d e,An o b u] p) λc o=>eA c λc=>eC c λc b=>eS 2 c λc u p=>eN b (Aj (Af lo 276 [An c u p,Iv x,Aw v a] o) λc o=>eA c λc=>eC c λc b=>eS 2 c λc u p=>eN b (eO (st lo o n m (k+1) (Bq c u p)) λc=>Aj (Af lo 274 [BF i j g,Iv y,Iv 2,Iv x,Aw v a] c) λv c=>eU v λv=>eN v (BZ c))))))))) (AF w))) (eN s (AF l)))))))=some r) :
  Af lo 220 [BF i j g,BF n m k,A9 t y z x S f] h=some r :=
 eK Tryz.func220 hk
def Cr lo n m k a i c x y z t w q S f h:=
 LA 221 Tryz.f221 22131111 0 11111 lo ⟨[(0,(BF n m k)),(5,.lp 5 0),(39,.sl 2 a i c),(40,Iv x),(41,Iv y)],[(5,(R6 z t w q S f))],h⟩
theorem PE (hk:(eO (ld h n m (k+0) 1) λv=>eC v λv l=>eN l (eS 6 v λv l c=>eO (ld h i j (g+0) 1) λc=>eC c λc a=>eN a (eI .i64 c λc=>Ap c l (eO v λv=>Aj (Af h.length 66 [.ptr (some (v.1,((v.2+c.toNat),2)))] h) λv l=>eA v λv=>eC v λv c=>eS 6 v λv a o=>eN c (Aj (Af l.length 67 [Bx v a o] l) λv l=>eA v λv=>eC v λv c=>eS 2 v λv a o=>eN c (Aj (Af lo 273 [BF n m k,Iv 4] l) λl c=>eB l (eO (ld c i j (g+1) 1) λl=>eC l λl s=>eS 2 l λl b u=>eN s (Aj (Af lo 69 [An l b u,An v a o] c) λl s=>eB l (eO (st lo s i j (g+1) (Bq v a o)) λl=>Cr lo n m k v a o (a:Int) 0 x y z t S f l) (AF s))) (AF c)))))))=some r) :
  Af lo 221 [BF n m k,BF i j g,A9 x y z t S f] h=some r :=
 eK Tryz.func221 hk
theorem Cr.e {q:Int} :
  Cr lo n m k a i c y x t z w q S f h=br (decide (x<y)) (Ap x i (eO a λv=>eO (ld h v.1 (v.2+x.toNat) 0 2) λv=>eC v λv l=>eI .i64 v λv=>eC l λl o=>eI .i64 l λl=>eN o (Aj (Af lo 274 [BF n m k,Iv z,Iv 2,Iv x,Aw v l] h) λv l=>eU v λv=>eN v (Cr lo n m k a i c y (Am (x+1)) t z w q S f l)))) (BZ h) :=
 lE
theorem J8 (hk:(Aj (Af lo 278 [BF n m (k+2),Iv x] h) λv l=>eB v (Aj (Af lo 120 [BF n m k] l) λv c=>eU v λv=>eN v (BZ c)) (AF l))=some r) :
  Af lo 222 [BF n m k,Iv x] h=some r :=
 eK Tryz.func222 hk
theorem OH (hk:(eO (ld h n m (k+5) 1) λv=>eC v λv l=>eN l (eB v (AF h) (Aj (Af lo 279 [BF n m (k+2),Iv x] h) λv l=>eB v (eO (st lo l n m (k+5) [.bool true]) λv=>Aj (Af lo 120 [BF n m k] v) λv c=>eU v λv=>eN v (BZ c)) (AF l))))=some r) :
  Af lo 223 [BF n m k,Iv x] h=some r :=
 eK Tryz.func223 hk
theorem J9 (hk:(eO (ld h n m (k+0) 1) λv=>eC v λv l=>eN l (eS 2 v λv v l=>br (decide ((v:Int)>=4)) (AF h) (eO (ld h n m (k+0) 1) λv=>eC v λv l=>eN l (eS 2 v λv l c=>Aj (Af h.length 66 [BF n m k] h) λa o=>eA a λa=>eC a λa s=>eS 6 a λa b x=>eN s (Aj (Af o.length 209 [Bx a b x] o) λa o=>eA a λa=>eC a λa s=>eS 6 a λa b x=>eN s (Av 2 (o ++ [.rows 2 47 false [[.sl 6 a b x,.sl 0 none 0 (some 0)]]]) (.sl 2 (some (o.length,0)) 1 (some 1)) λs=>Df lo 47 2 48 (.sl 2 v l c) s (o ++ [.rows 2 47 false [[.sl 6 a b x,.sl 0 none 0 (some 0)]]]) λv l=>eS 2 v λv c a=>Aj (Af lo 280 (Bq v c a) l) λv l=>eS 2 v λv c a=>eO (st lo l n m (k+0) (Bq v c a)) λv=>some (.bool true,v)))))))=some r) :
  Af lo 224 [BF n m k] h=some r :=
 eK Tryz.func224 hk
theorem OF (hk:(Aj (Af lo 62 (AB x) h) λv l=>eB v (eO (ld l n m (k+4) 1) λv=>eC v λv c=>eN c (eS 1 v λv c a=>Ap x c (eO v λv=>eO (ld l v.1 (v.2+x.toNat) 0 1) λv=>eC v λv c=>eN c (eS 6 v λv c a=>eO (ld l n m ((k+2)+0) 1) λo=>eC o λo s=>eN s (eS 2 o λo s b=>Ap 0 s (eO o λo=>eO (ld l o.1 (o.2+0) 0 1) λo=>eC o λo s=>eS 6 o λo b y=>eN s (Aj (Af lo 156 [.sl 6 v c a,.fn 210 [.tup [Bx o b y]]] l) λv c=>eI .i64 v λv=>br (decide (v<0)) (AF c) (eO (ld c n m (k+4) 1) λa=>eC a λa o=>eN o (eS 1 a λa o s=>Ap x o (eO a λa=>eO (ld c a.1 (a.2+x.toNat) 0 1) λa=>eC a λa o=>eN o (eS 6 a λa o s=>Ap v o (eO a λa=>eO (ld c a.1 (a.2+v.toNat) 0 6) λv=>eC v λv a=>eI .i64 v λv=>eC a λa o=>eI .i64 a λa=>eC o λo s=>eI .i64 o λo=>eC s λs b=>eS 2 s λs y z=>eC b λb u=>eT b λb=>eC u λu w=>eBv u λu=>eN w (Aj (Af lo 66 [BF n m (k+2)] c) λc w=>eA c λc=>eC c λc p=>eS 6 c λc q g=>eN p (Aj (Af lo 67 [Bx c q g] w) λc w=>eA c λc=>eC c λc p=>eS 2 c λc q g=>eN p (Aj (Af lo 69 [An s y z,An c q g] w) λc w=>eB c (Aj (Af lo 119 [BF n m (k+2),AD v a o s y z b u] w) λv c=>eB v (eO (ld c n m (k+1) 1) λv=>eC v λv o=>eN o (eI .i64 v λv=>eO (st lo c n m (k+1) (AB (if a>v then a else v))) λv=>Aj (Af lo 120 [BF n m k] v) λv a=>eU v λv=>eN v (BZ a))) (AF c)) (AF w)))))))))))))))) (AF l))=some r) :
  Af lo 225 [BF n m k,Iv x] h=some r :=
 eK Tryz.func225 hk
theorem Vn (hk:(Aj (Af h.length 62 (AB x) h) λl c=>eB l (Aj (Af h.length 62 (AB y) c) λl n=>eB l (br (x==y) (AF n) (BZ n)) (AF n)) (AF c))=some (v,h')) (hn:noId v=true:=by rfl) :
  Af lo 226 (Bh x y) h=some (v,h) :=
 eD Tryz.func226 hk hn
theorem Fu (hk:(AA a (ES h a n c) c (some (Iv x)) (some (Iv y)) (some (Iv (n:Int))) λv v v=>br (x==y) (some (.sl 9 a n c,h)) (AA a n c none (some (Iv x)) none λv l o=>AA a n c (some (Iv y)) none none λs b z=>Av 9 h (.sl 9 s b z) λs=>Df lo 123 9 96 (.sl 9 v l o) s h λv l=>eS 9 v λv o s=>AA v (ES l v o s) s (some (Iv (o:Int))) (some (Iv (n:Int))) none λb z u=>ZO lo 9 9 true [Iv 0,Iv 0,Iv 0,Iv 0,Iv 0,Iv 0,.sl 0 none 0 (some 0),.str ⟨⟨[]⟩⟩,.bool false] l b z λl=>some (.sl 9 v o s,l)))=some r) :
  Af lo 227 [.sl 9 a n c,Iv x,Iv y] h=some r :=
 eK Tryz.func227 hk
theorem OG (hk:(Aj (Af lo 62 (AB x) h) λv l=>eB v (eO (ld l n m (k+0) 1) λv=>eC v λv o=>eN o (eI .i64 v λv=>br (x==v) (AF l) (Aj (Af lo 134 [AD t z y a i c S f] l) λv o=>eB v (br (y==x) (eO (ld o n m (k+4) 1) λv=>eC v λv s=>eN s (eS 1 v λv s b=>Ap x s (eO v λv=>eO (ld o v.1 (v.2+x.toNat) 0 1) λv=>eC v λv s=>eN s (eS 6 v λv s b=>br (w==(s:Int)) (br (decide ((s:Int)>=60)) (AF o) (Aj (Af lo 137 [.sl 6 v s b,Aw z y] o) λu p=>eB u (AF p) (eO (ld p n m (k+4) 1) λu=>eC u λu q=>eN q (eS 1 u λu q g=>Aj (Af lo 154 [AD t z y a i c S f] p) λg j=>eA g λg=>eC g λg d=>eI .i64 g λg=>eC d λd e=>eI .i64 d λd=>eC e λe A=>eI .i64 e λe=>eC A λA B=>eS 2 A λA C D=>eC B λB E=>eT B λB=>eC E λE G=>eBv E λE=>eN G (Be (GB (ld p n m (k+4) 1) (ld j n m (k+4) 1)) (Be (GB (ld j n m (k+4) 1) (ld (j ++ [.rows 6 43 false [C4 g d e A C D B E]]) n m (k+4) 1)) (Av 6 (j ++ [.rows 6 43 false [C4 g d e A C D B E]]) (.sl 6 (some (j.length,0)) 1 (some 1)) λp=>Df lo 43 6 72 (.sl 6 v s b) p (j ++ [.rows 6 43 false [C4 g d e A C D B E]]) λv s=>eS 6 v λv b p=>Be (GB (ld (j ++ [.rows 6 43 false [C4 g d e A C D B E]]) n m (k+4) 1) (ld s n m (k+4) 1)) (Aj (Af lo 205 (BC v b p) s) λv b=>eS 6 v λv p g=>Be (GB (ld s n m (k+4) 1) (ld b n m (k+4) 1)) (Ap x q (eO u λs=>eO (st lo b s.1 (s.2+x.toNat) 0 (BC v p g)) λv=>some (.bool true,v))))))))))) (AF o))))) (AF o)) (AF o)))) (AF l))=some r) :
  Af lo 228 [BF n m k,Iv x,Iv w,AD t z y a i c S f] h=some r :=
 eK Tryz.func228 hk
theorem HC (hk:(AA a n c none (some (Iv (n:Int))) (some (Iv (n:Int))) λv l o=>some (.sl 2 v l o,h))=some r) :
  Af lo 229 (Bq a n c) h=some r :=
 eK Tryz.func229 hk
theorem D3 (hk:(br (a.isNone) (some (.sl 0 none 0 (some 0),h)) (Av 2 (h ++ [.rows 2 36 false []]) (.sl 2 a n c) λv=>Df lo 36 2 16 (.sl 2 (some (h.length,0)) 0 (some 0)) v (h ++ [.rows 2 36 false []]) λv l=>eS 2 v λv o s=>some (.sl 2 v o s,l)))=some r) :
  Af lo 230 (Bq a n c) h=some r :=
 eK Tryz.func230 hk
def AU lo a n c b m p f x y h:=
 LA 231 Tryz.f231 221311 0 111 lo ⟨[(0,.sl 2 a n c),(1,.sl 2 b m p),(4,.bool f),(12,Iv x),(13,Iv y)],[],h⟩
theorem Hz (hk:(br ((n:Int)==(m:Int)) (AU h.length a n c b m p false (n:Int) 0 h) (AF h))=some (v,h')) (hn:noId v=true:=by rfl) :
  Af lo 231 [.sl 2 a n c,.sl 2 b m p] h=some (v,h) :=
 eD Tryz.func231 hk hn
theorem AU.e :
  AU lo a n c b m p f y x h=br (decide (x<y)) (Ap x n (eO a λv=>eO (ld h v.1 (v.2+x.toNat) 0 2) λv=>eC v λv l=>eI .i64 v λv=>eC l λl o=>eI .i64 l λl=>eN o (Ap x m (eO b λo=>eO (ld h o.1 (o.2+x.toNat) 0 2) λo=>eC o λo s=>eI .i64 o λo=>eC s λs z=>eI .i64 s λs=>eN z (br ((v==o)&&((l==s)&&true)) (AU lo a n c b m p f y (Am (x+1)) h) (AF h)))))) (BZ h) :=
 lE
def A5 lo a n c m b k p f x y h:=
 LA 231 Tryz.f231 221311 0 111 lo ⟨[(0,.sl 2 a n c),(1,.sl m b k p),(4,.bool f),(12,Iv x),(13,Iv y)],[],h⟩
theorem Gq (hk:(br ((n:Int)==((0:Nat):Int)) (A5 h.length a n c 0 none 0 (some 0) false (n:Int) 0 h) (AF h))=some (v,h')) (hn:noId v=true:=by rfl) :
  Af lo 231 [.sl 2 a n c,.sl 0 none 0 (some 0)] h=some (v,h) :=
 eD Tryz.func231 hk hn
theorem A5.e :
  A5 lo a n c m b k p f y x h=br (decide (x<y)) (Ap x n (eO a λv=>eO (ld h v.1 (v.2+x.toNat) 0 2) λv=>eC v λv l=>eI .i64 v λv=>eC l λl o=>eI .i64 l λl=>eN o (Ap x k (eO b λo=>Be ((m.beq (2:Nat))&&true) (eO (ld h o.1 (o.2+x.toNat) 0 2) λo=>eC o λo s=>eI .i64 o λo=>eC s λs z=>eI .i64 s λs=>eN z (br ((v==o)&&((l==s)&&true)) (A5 lo a n c m b k p f y (Am (x+1)) h) (AF h))))))) (BZ h) :=
 lE
theorem EN (hk:(Aj (Af h.length 281 [.sl 5 a n c,.fn m l] h) λo s=>eI .i64 o λo=>br (decide (o>=0)) (BZ s) (AF s))=some (v,h')) (hn:noId v=true:=by rfl) :
  Af lo 232 [.sl 5 a n c,.fn m l] h=some (v,h) :=
 eD Tryz.func232 hk hn
theorem QA (hk:(Aj (Af h.length 63 (Ct t 0 3) h) λl c=>eB l (Aj (Af h.length 63 (Ct x 1 3) c) λl n=>eB l (Aj (Af h.length 202 (AB w) n) λl a=>eB l (Aj (Af h.length 144 [Aw y z] a) λl o=>eB l (br ((y==0)&&((z==0)&&true)) (br (x==2) (AF o) (BZ o)) (AF o)) (BZ o)) (BZ a)) (BZ n)) (BZ c))=some (v,h')) (hn:noId v=true:=by rfl) :
  Af lo 233 [T3 t x w y z] h=some (v,h) :=
 eD Tryz.func233 hk hn
def As lo a n c m l f b k p x y h:=
 LA 234 Tryz.f234 221311 0 111 lo ⟨[(1,.sl 6 a n c),(2,.fn m l),(6,.bool f),(15,.sl 6 b k p),(16,Iv x),(17,Iv y)],[],h⟩
theorem Du (hk:(br ((n:Int)==(m:Int)) (As h.length b m p k l false a n c (n:Int) 0 h) (AF h))=some (v,h')) (hn:noId v=true:=by rfl) :
  Af lo 234 [.sl 6 a n c,.sl 6 b m p,.fn k l] h=some (v,h) :=
 eD Tryz.func234 hk hn
theorem As.e {lo n m k:Nat}{a b:Pq}{c p:Nq}{l:List V}{f:Bool}{y x:Int}{h:Heap} :
  As lo a n c m l f b k p y x h=br (decide (x<y)) (Ap x k (eO b λv=>eO (ld h v.1 (v.2+x.toNat) 0 6) λv=>eC v λv o=>eI .i64 v λv=>eC o λo s=>eI .i64 o λo=>eC s λs z=>eI .i64 s λs=>eC z λz u=>eS 2 z λz w q=>eC u λu g=>eT u λu=>eC g λg i=>eBv g λg=>eN i (Ap x n (eO a λi=>eO (ld h i.1 (i.2+x.toNat) 0 6) λi=>eC i λi j=>eI .i64 i λi=>eC j λj t=>eI .i64 j λj=>eC t λt d=>eI .i64 t λt=>eC d λd e=>eS 2 d λd A B=>eC e λe C=>eT e λe=>eC C λC D=>eBv C λC=>eN D (Aj (Af lo m (CQ [AD v o s z w q u g,AD i j t d A B e C] l) h) λv o=>eB v (As lo a n c m l f b k p y (Am (x+1)) o) (AF o)))))) (BZ h) :=
 lE
def AH lo a n c m l x y z h:=
 LA 235 Tryz.f235 22131 0 11 lo ⟨[(0,.sl 5 a n c),(1,.fn m l),(4,Iv x),(7,Iv y),(8,Iv z)],[],h⟩
theorem Fg (hk:(AH h.length a n c m l 0 (n:Int) 0 h)=some (v,h')) (hn:noId v=true:=by rfl) :
  Af lo 235 [.sl 5 a n c,.fn m l] h=some (v,h) :=
 eD Tryz.func235 hk hn
theorem AH.e :
  AH lo a n c m l z y x h=br (decide (x<y)) (Ap x n (eO a λv=>eO (ld h v.1 (v.2+x.toNat) 0 5) λv=>eC v λv o=>eI .i64 v λv=>eC o λo s=>eS 2 o λo b u=>eC s λs w=>eI .i64 s λs=>eC w λw p=>eI .i64 w λw=>eC p λp q=>eI .i64 p λp=>eN q (Aj (Af lo m (CQ [N8 v o b u s w p] l) h) λv o=>eB v (some (Iv x,o)) (AH lo a n c m l z y (Am (x+1)) o)))) (some (Iv (-1),h)) :=
 lE
def AE lo a n c m l x y z h:=
 LA 236 Tryz.f236 22131 0 11 lo ⟨[(0,.sl 9 a n c),(1,.fn m l),(4,Iv x),(7,Iv y),(8,Iv z)],[],h⟩
theorem EU (hk:(AE h.length a n c m l 0 (n:Int) 0 h)=some (v,h')) (hn:noId v=true:=by rfl) :
  Af lo 236 [.sl 9 a n c,.fn m l] h=some (v,h) :=
 eD Tryz.func236 hk hn
theorem AE.e :
  AE lo a n c m l z y x h=br (decide (x<y)) (Ap x n (eO a λv=>eO (ld h v.1 (v.2+x.toNat) 0 9) λv=>eC v λv o=>eI .i64 v λv=>eC o λo s=>eI .i64 o λo=>eC s λs b=>eI .i64 s λs=>eC b λb u=>eI .i64 b λb=>eC u λu w=>eI .i64 u λu=>eC w λw p=>eI .i64 w λw=>eC p λp q=>eS 2 p λp g i=>eC q λq j=>eT q λq=>eC j λj k=>eBv j λj=>eN k (Aj (Af lo m (CQ [N9 v o s b u w p g i q j] l) h) λv o=>eB v (some (Iv x,o)) (AE lo a n c m l z y (Am (x+1)) o)))) (some (Iv (-1),h)) :=
 lE
def IU lo a n c b m p f x h:=
 LA 238 Tryz.f238 221311 0 111 lo ⟨[(0,.sl 6 a n c),(1,.sl 6 b m p),(4,.bool f),(5,Iv x)],[],h⟩
theorem IU.e {lo n m:Nat}{a b:Pq}{c p:Nq}{f:Bool}{x:Int}{h:Heap} :
  IU lo a n c b m p f x h=br (decide (x<(n:Int))) (Ap x n (eO a λv=>eO (ld h v.1 (v.2+x.toNat) 0 6) λv=>eC v λv l=>eI .i64 v λv=>eC l λl o=>eI .i64 l λl=>eC o λo s=>eI .i64 o λo=>eC s λs y=>eS 2 s λs z u=>eC y λy w=>eT y λy=>eC w λw q=>eBv w λw=>eN q (Ap x m (eO b λq=>eO (ld h q.1 (q.2+x.toNat) 0 6) λq=>eC q λq g=>eI .i64 q λq=>eC g λg i=>eI .i64 g λg=>eC i λi j=>eI .i64 i λi=>eC j λj k=>eS 2 j λj t d=>eC k λk e=>eT k λk=>eC e λe A=>eBv e λe=>eN A (Aj (Af lo 242 [AD v l o s z u y w,AD q g i j t d k e] h) λv l=>eB v (IU lo a n c b m p f (Am (x+1)) l) (AF l)))))) (BZ h) :=
 lE
def Ib lo a n c b m p f x h:=
 LA 239 Tryz.f239 221311 0 111 lo ⟨[(0,.sl 1 a n c),(1,.sl 1 b m p),(4,.bool f),(5,Iv x)],[],h⟩
theorem Ib.e :
  Ib lo a n c b m p f x h=br (decide (x<(n:Int))) (Ap x n (eO a λv=>eO (ld h v.1 (v.2+x.toNat) 0 1) λv=>eC v λv l=>eN l (eS 6 v λv l o=>Ap x m (eO b λs=>eO (ld h s.1 (s.2+x.toNat) 0 1) λs=>eC s λs y=>eN y (eS 6 s λs y z=>Aj (Af lo 238 (Lh v l o s y z) h) λv l=>eB v (Ib lo a n c b m p f (Am (x+1)) l) (AF l)))))) (BZ h) :=
 lE
def IT lo a n c x y z h:=
 LA 244 Tryz.f244 2213111 0 1111 lo ⟨[(0,.sl 6 a n c),(1,Iv x),(4,Iv y),(5,Iv z)],[],h⟩
theorem IT.e :
  IT lo a n c y z x h=br (decide (x<(n:Int))) (Ap x n (eO a λv=>eO (ld h v.1 (v.2+x.toNat) 0 6) λv=>eC v λv l=>eI .i64 v λv=>eC l λl o=>eI .i64 l λl=>eC o λo s=>eI .i64 o λo=>eC s λs b=>eS 2 s λs u w=>eC b λb p=>eT b λb=>eC p λp q=>eBv p λp=>eN q (Aj (Af lo 247 [AD v l o s u w b p,Iv y] h) λv l=>eI .i64 v λv=>br (decide (v<0)) (some (Iv (-1),l)) (IT lo a n c v z (Am (x+1)) l)))) (some (Iv y,h)) :=
 lE
def HZ lo a n c x y z h:=
 LA 245 Tryz.f245 2213111 0 1111 lo ⟨[(0,.sl 1 a n c),(1,Iv x),(4,Iv y),(5,Iv z)],[],h⟩
theorem HZ.e :
  HZ lo a n c y z x h=br (decide (x<(n:Int))) (Ap x n (eO a λv=>eO (ld h v.1 (v.2+x.toNat) 0 1) λv=>eC v λv l=>eN l (eS 6 v λv l o=>Aj (Af lo 244 [.sl 6 v l o,Iv y] h) λv l=>eI .i64 v λv=>br (decide (v<0)) (some (Iv (-1),l)) (HZ lo a n c v z (Am (x+1)) l)))) (some (Iv y,h)) :=
 lE
theorem Sc {e:Pq} (hk:(Ap x n (eO a λv=>eO (ld h v.1 (v.2+x.toNat) 0 5) λv=>eC v λv l=>eI .i64 v λv=>eC l λl o=>eS 2 l λl w q=>eC o λo g=>eI .i64 o λo=>eC g λg j=>eI .i64 g λg=>eC j λg j=>eI .i64 g λg=>eN j (Ap v m (eO b λg=>eO (ld h g.1 (g.2+v.toNat) 0 6) λg=>eC g λg j=>eI .i64 g λg=>eC j λj A=>eI .i64 j λj=>eC A λA B=>eS 2 A λA C D=>eC B λB E=>eS 6 B λB G H=>eC E λE J=>eS 1 E λE K L=>eC J λJ M=>eBv J λJ=>eN M (br (decide (o>0)) (some (.tup [Au b m c a n p d i u e k s,.bool false],h)) (Aj (Af lo 54 (Ct y 0 3) h) λo M=>eB o (Aj (Af lo 55 [.str S] M) λo N=>eB o (br f (br (S.toList==(ByteArray.mk #[]).toList) (Aj (Af lo 57 [BB g j A C D B G H E K L J,An l w q] N) λo O=>eB o (br (decide ((k:Int)>=80)) (some (.tup [Au b m c a n p d i u e k s,.bool false],O)) (Aj (Af lo 59 [BB g j A C D B G H E K L J,Iv y,.str S,.bool true,An l w q] O) λo P=>eU o λo=>eC o λo Q=>eA o λo=>eC o λo U=>eI .i64 o λo=>eC U λU W=>eI .i64 U λU=>eC W λW Y=>eS 2 W λW Z v0=>eC Y λY v1=>eS 6 Y λY v2 v3=>eC v1 λv1 v4=>eS 1 v1 λv1 v5 v6=>eC v4 λv4 v7=>eBv v4 λv4=>eN v7 (eC Q λQ v7=>eA Q λQ=>eC Q λQ v8=>eI .i64 Q λQ=>eC v8 λv8 v9=>eI .i64 v8 λv8=>eN v9 (eN v7 (Ap v m (eO b λv7=>eO (st lo P v7.1 (v7.2+v.toNat) 0 (Dd o U W Z v0 Y v2 v3 v1 v5 v6 v4)) λo=>Ap x n (eO a λP=>eO (st lo o P.1 (P.2+x.toNat) 2 (Bh Q v8)) λo=>Ap x n (eO a λP=>eO (st lo o P.1 (P.2+x.toNat) 4 (AB y)) λo=>Aj (Af lo 287 [Au b m c a n p d i u e k s,Iv x,Iv 1,Iv y,Aw Q v8] o) λo P=>eA o λo=>eC o λo Q=>eS 6 o λo U W=>eC Q λQ Y=>eS 5 Q λQ Z v0=>eC Y λY v1=>eS 9 Y λY v2 v3=>eC v1 λv1 v4=>eS 5 v1 λv1 v5 v6=>eN v4 (some (.tup [Au o U W Q Z v0 Y v2 v3 v1 v5 v6,.bool true],P)))))))))) (some (.tup [Au b m c a n p d i u e k s,.bool false],O))) (some (.tup [Au b m c a n p d i u e k s,.bool false],N))) (Aj (Af lo 57 [BB g j A C D B G H E K L J,An l w q] N) λo O=>eB o (br (decide ((k:Int)>=80)) (some (.tup [Au b m c a n p d i u e k s,.bool false],O)) (Aj (Af lo 59 [BB g j A C D B G H E K L J,Iv y,.str S,.bool false,An l w q] O) λl o=>eU l λl=>eC l λl w=>eA l λl=>eC l λl q=>eI .i64 l λl=>eC q λq g=>eI .i64 q λq=>eC g λg j=>eS 2 g λg A B=>eC j λj C=>eS 6 j λj D E=>eC C λC G=>eS 1 C λC H J=>eC G λG K=>eBv G λG=>eN K (eC w λw K=>eA w λw=>eC w λw L=>eI .i64 w λw=>eC L λL P=>eI .i64 L λL=>eN P (eN K (Ap v m (eO b λK=>eO (st lo o K.1 (K.2+v.toNat) 0 (Dd l q g A B j D E C H J G)) λv=>Ap x n (eO a λl=>eO (st lo v l.1 (l.2+x.toNat) 2 (Bh w L)) λv=>Ap x n (eO a λl=>eO (st lo v l.1 (l.2+x.toNat) 4 (AB y)) λv=>Aj (Af lo 287 [Au b m c a n p d i u e k s,Iv x,Iv 1,Iv y,Aw w L] v) λv l=>eA v λv=>eC v λv o=>eS 6 v λv w q=>eC o λo g=>eS 5 o λo j A=>eC g λg B=>eS 9 g λg C D=>eC B λB E=>eS 5 B λB G H=>eN E (some (.tup [Au v w q o j A g C D B G H,.bool true],l)))))))))) (some (.tup [Au b m c a n p d i u e k s,.bool false],O)))) (some (.tup [Au b m c a n p d i u e k s,.bool false],N))) (some (.tup [Au b m c a n p d i u e k s,.bool false],M))))))))=some r) :
  Af lo 249 [Au b m c a n p d i u e k s,A9 z x t y S f] h=some r :=
 by cases f<;>exact eK Tryz.func249 hk
theorem U9 {e:Pq} (hk:(Ap x n (eO a λv=>eO (ld h v.1 (v.2+x.toNat) 0 5) λv=>eC v λv l=>eI .i64 v λv=>eC l λl o=>eS 2 l λl w q=>eC o λo g=>eI .i64 o λo=>eC g λg j=>eI .i64 g λg=>eC j λj A=>eI .i64 j λj=>eN A (br (o==0) (some (.tup [Au b k c a n p d i u e m s,.bool false],h)) (Ap v k (eO b λA=>eO (ld h A.1 (A.2+v.toNat) 2 1) λv=>eC v λv A=>eS 2 v λv B C=>eN A (Aj (Af lo 288 [An v B C,Iv 0,Iv j] h) λA C=>eA A λA=>eC A λA D=>eI .i64 A λA=>eC D λA D=>eI .i64 A λA=>eC D λD E=>eI .i64 D λD=>eC E λE G=>eS 2 E λE E E=>eC G λE G=>eT E λE=>eC G λE G=>eBv E λE=>eN G (Ap 0 B (eO v λv=>eO (ld C v.1 (v.2+0) 0 1) λv=>eC v λv B=>eN B (eS 6 v λv B E=>Ap j B (eO v λv=>eO (ld C v.1 (v.2+j.toNat) 1 2) λv=>eC v λv B=>eI .i64 v λv=>eC B λB E=>eI .i64 B λB=>eN E (Aj (Af lo 197 [Aw A D,Aw o g] C) λC E=>eB C (Aj (Af lo 197 [Aw v B,Aw o g] E) λv B=>eB v (Aj (Af lo 197 [Aw A D,Aw o g] B) λv C=>eB v (Aj (Af lo 197 [Aw A D,Aw o g] C) λv G=>eB v (Ap x n (eO a λv=>eO (st lo G v.1 (v.2+x.toNat) 2 (Bh 0 0)) λv=>Ap x n (eO a λH=>eO (st lo v H.1 (H.2+x.toNat) 4 (AB 0)) λv=>some (.tup [Au b k c a n p d i u e m s,.bool true],v)))) (Aj (Af lo 289 [An l w q,Iv j,Aw o g] G) λv G=>eA v λv=>eC v λv H=>eS 2 v λv J K=>eN H (Ap x n (eO a λH=>eO (st lo G H.1 (H.2+x.toNat) 1 (Bq v J K)) λv=>Aj (Af lo 287 [Au b k c a n p d i u e m s,Iv x,Iv 3,Iv j,Aw o g] v) λv G=>eA v λv=>eC v λv H=>eS 6 v λv J K=>eC H λH L=>eS 5 H λH M N=>eC L λL O=>eS 9 L λL P Q=>eC O λO U=>eS 5 O λO W Y=>eN U (Ap x M (eO H λU=>eO (st lo G U.1 (U.2+x.toNat) 2 (Bh 0 0)) λG=>Ap x M (eO H λU=>eO (st lo G U.1 (U.2+x.toNat) 4 (AB 0)) λG=>some (.tup [Au v J K H M N L P Q O W Y,.bool true],G)))))))) (br (decide ((m:Int)>=80)) (some (.tup [Au b k c a n p d i u e m s,.bool false],C)) (Aj (Af lo 197 [Aw A D,Aw o g] C) λv C=>eB v (Ap x n (eO a λv=>eO (st lo C v.1 (v.2+x.toNat) 2 (Bh 0 0)) λv=>Ap x n (eO a λG=>eO (st lo v G.1 (G.2+x.toNat) 4 (AB 0)) λv=>some (.tup [Au b k c a n p d i u e m s,.bool true],v)))) (Aj (Af lo 289 [An l w q,Iv j,Aw o g] C) λv C=>eA v λv=>eC v λv G=>eS 2 v λv H J=>eN G (Ap x n (eO a λG=>eO (st lo C G.1 (G.2+x.toNat) 1 (Bq v H J)) λv=>Aj (Af lo 287 [Au b k c a n p d i u e m s,Iv x,Iv 3,Iv j,Aw o g] v) λv C=>eA v λv=>eC v λv G=>eS 6 v λv H J=>eC G λG K=>eS 5 G λG L M=>eC K λK N=>eS 9 K λK O P=>eC N λN Q=>eS 5 N λN U W=>eN Q (Ap x L (eO G λQ=>eO (st lo C Q.1 (Q.2+x.toNat) 2 (Bh 0 0)) λC=>Ap x L (eO G λQ=>eO (st lo C Q.1 (Q.2+x.toNat) 4 (AB 0)) λC=>some (.tup [Au v H J G L M K O P N U W,.bool true],C)))))))))) (some (.tup [Au b k c a n p d i u e m s,.bool false],B))) (Aj (Af lo 197 [Aw A D,Aw o g] E) λv B=>eB v (Aj (Af lo 197 [Aw A D,Aw o g] B) λv C=>eB v (Ap x n (eO a λv=>eO (st lo C v.1 (v.2+x.toNat) 2 (Bh 0 0)) λv=>Ap x n (eO a λE=>eO (st lo v E.1 (E.2+x.toNat) 4 (AB 0)) λv=>some (.tup [Au b k c a n p d i u e m s,.bool true],v)))) (Aj (Af lo 289 [An l w q,Iv j,Aw o g] C) λv C=>eA v λv=>eC v λv E=>eS 2 v λv G H=>eN E (Ap x n (eO a λE=>eO (st lo C E.1 (E.2+x.toNat) 1 (Bq v G H)) λv=>Aj (Af lo 287 [Au b k c a n p d i u e m s,Iv x,Iv 3,Iv j,Aw o g] v) λv C=>eA v λv=>eC v λv E=>eS 6 v λv G H=>eC E λE J=>eS 5 E λE K L=>eC J λJ M=>eS 9 J λJ N O=>eC M λM P=>eS 5 M λM Q U=>eN P (Ap x K (eO E λP=>eO (st lo C P.1 (P.2+x.toNat) 2 (Bh 0 0)) λC=>Ap x K (eO E λP=>eO (st lo C P.1 (P.2+x.toNat) 4 (AB 0)) λC=>some (.tup [Au v G H E K L J N O M Q U,.bool true],C)))))))) (br (decide ((m:Int)>=80)) (some (.tup [Au b k c a n p d i u e m s,.bool false],B)) (Aj (Af lo 197 [Aw A D,Aw o g] B) λv A=>eB v (Ap x n (eO a λv=>eO (st lo A v.1 (v.2+x.toNat) 2 (Bh 0 0)) λv=>Ap x n (eO a λB=>eO (st lo v B.1 (B.2+x.toNat) 4 (AB 0)) λv=>some (.tup [Au b k c a n p d i u e m s,.bool true],v)))) (Aj (Af lo 289 [An l w q,Iv j,Aw o g] A) λv l=>eA v λv=>eC v λv w=>eS 2 v λv q A=>eN w (Ap x n (eO a λw=>eO (st lo l w.1 (w.2+x.toNat) 1 (Bq v q A)) λv=>Aj (Af lo 287 [Au b k c a n p d i u e m s,Iv x,Iv 3,Iv j,Aw o g] v) λv l=>eA v λv=>eC v λv o=>eS 6 v λv w q=>eC o λo g=>eS 5 o λo j A=>eC g λg B=>eS 9 g λg C D=>eC B λB E=>eS 5 B λB G H=>eN E (Ap x j (eO o λE=>eO (st lo l E.1 (E.2+x.toNat) 2 (Bh 0 0)) λl=>Ap x j (eO o λE=>eO (st lo l E.1 (E.2+x.toNat) 4 (AB 0)) λl=>some (.tup [Au v w q o j A g C D B G H,.bool true],l)))))))))))))))))))))=some r) :
  Af lo 250 [Au b k c a n p d i u e m s,A9 y x z t S f] h=some r :=
 eK Tryz.func250 hk
theorem SU {e:Pq} (hk:(Ap y n (eO a λv=>eO (ld h v.1 (v.2+y.toNat) 0 5) λv=>eC v λv l=>eI .i64 v λv=>eC l λl o=>eS 2 l λl w q=>eC o λo g=>eI .i64 o λo=>eC g λg j=>eI .i64 g λg=>eC j λg j=>eI .i64 g λg=>eN j (Ap v m (eO b λg=>eO (ld h g.1 (g.2+v.toNat) 2 1) λv=>eC v λv g=>eS 2 v λv j A=>eN g (br (decide (o>0)) (some (.tup [Au b m c a n p d i u e k s,.bool false],h)) (Aj (Af lo 54 (Ct x 0 3) h) λo g=>eB o (Aj (Af lo 54 (Ct z 0 (Am ((j:Int) - 1))) g) λo B=>eB o (br (decide ((k:Int)>=80)) (some (.tup [Au b m c a n p d i u e k s,.bool false],B)) (Aj (Af lo 288 [An v j A,Iv z,Iv x] B) λv o=>eA v λv=>eC v λv j=>eI .i64 v λv=>eC j λv j=>eI .i64 v λv=>eC j λj A=>eI .i64 j λj=>eC A λA C=>eS 2 A λA D E=>eC C λC G=>eT C λC=>eC G λC G=>eBv C λC=>eN G (Ap x w (eO l λC=>eO (ld o C.1 (C.2+x.toNat) 0 2) λC=>eC C λC G=>eI .i64 C λC=>eC G λG H=>eI .i64 G λG=>eN H (Aj (Af lo 197 [Aw v j,Aw C G] o) λo C=>eB o (some (.tup [Au b m c a n p d i u e k s,.bool false],C)) (br (decide (v>0)) (Aj (Af lo 290 [An l w q,An A D E] C) λl o=>eA l λl=>eC l λl w=>eS 2 l λl q A=>eN w (Aj (Af lo 289 [An l q A,Iv x,Aw v j] o) λl o=>eA l λl=>eC l λl w=>eS 2 l λl q A=>eN w (Ap y n (eO a λw=>eO (st lo o w.1 (w.2+y.toNat) 1 (Bq l q A)) λl=>Aj (Af lo 287 [Au b m c a n p d i u e k s,Iv y,Iv 2,Iv x,Aw v j] l) λl o=>eA l λl=>eC l λl w=>eS 6 l λl q A=>eC w λw D=>eS 5 w λw E G=>eC D λD H=>eS 9 D λD J K=>eC H λH L=>eS 5 H λH M N=>eN L (some (.tup [Au l q A w E G D J K H M N,.bool true],o)))))) (Aj (Af lo 287 [Au b m c a n p d i u e k s,Iv y,Iv 2,Iv x,Aw v j] C) λv l=>eA v λv=>eC v λv o=>eS 6 v λv w q=>eC o λo j=>eS 5 o λo A C=>eC j λj D=>eS 9 j λj E G=>eC D λD H=>eS 5 D λD J K=>eN H (some (.tup [Au v w q o A C j E G D J K,.bool true],l))))))))) (some (.tup [Au b m c a n p d i u e k s,.bool false],B))) (some (.tup [Au b m c a n p d i u e k s,.bool false],g))))))))=some r) :
  Af lo 251 [Au b m c a n p d i u e k s,A9 t y z x S f] h=some r :=
 eK Tryz.func251 hk
def DR lo x a n c b m p d k u e i s y z t w S f j A g C G B H D J a0 P c0 n0 a1 n1 c1 a2 n2 c2 h:=
 LA 252 Tryz.f252 221311111 0 111111 lo ⟨[(2,.lp 2 0),(3,.lp 3 0),(4,.lp 4 0),(8,.lp 8 0),(9,Iv x)],[(2,(CC a n c b m p d k u e i s)),(3,(R6 y z t w S f)),(4,[.sl j A g C,.sl G B H D,.sl J a0 P c0,.sl n0 a1 n1 c1]),(8,(BC a2 n2 c2))],h⟩
theorem Va {e:Pq} (hk:(Ap x m (eO b λv=>eO (ld h v.1 (v.2+x.toNat) 0 5) λv=>eC v λv l=>eI .i64 v λv=>eC l λl o=>eS 2 l λl w q=>eC o λo g=>eI .i64 o λo=>eC g λg j=>eI .i64 g λg=>eC j λg j=>eI .i64 g λg=>eN j (Ap v n (eO a λg=>eO (ld h g.1 (g.2+v.toNat) 2 1) λv=>eC v λv g=>eS 2 v λv j A=>eN g (Ap (Am ((j:Int) - 1)) j (eO v λv=>eO (ld h v.1 (v.2+((Am ((j:Int) - (1:Int))).toNat)) 0 1) λv=>eC v λv g=>eS 6 v λv j A=>eN g (br (decide (o>0)) (some (.tup [Au a n c b m p d i u e k s,.bool false],h)) (Aj (Af h.length 114 [Bx v j A] h) λo g=>eA o λo=>eC o λo B=>eS 2 o λo C D=>eN B (Aj (Af lo 124 [An l w q,An o C D] g) λl o=>eB l (br (decide (Am ((k:Int)+(4:Int))>80)) (some (.tup [Au a n c b m p d i u e k s,.bool false],o)) (DR lo 0 a n c b m p d i u e k s y x z t S f 0 none 0 (some 0) 0 none 0 (some 0) 0 none 0 (some 0) 0 none 0 (some 0) v j A o)) (some (.tup [Au a n c b m p d i u e k s,.bool false],o)))))))))))=some r) :
  Af lo 252 [Au a n c b m p d i u e k s,A9 y x z t S f] h=some r :=
 eK Tryz.func252 hk
theorem DR.e {lo k n i j g G H J P n0 n1 n2 m:Nat}{x z y t w:Int}{d a A B a0 a1 a2 a3 b:Pq}{c p u s C D c0 c1 c2:Nq}{S:ByteArray}{f:Bool}{h:Heap} :
  DR lo x d k c a n p A i u B j s z y t w S f g a0 G C H a1 J D P a2 n0 c0 n1 a3 n2 c1 b m c2 h=br (decide (x<4)) (Ap y n (eO a λv=>eO (ld h v.1 (v.2+y.toNat) 1 1) λv=>eC v λv l=>eS 2 v λv o q=>eN l (Ap x m (eO b λl=>eO (ld h l.1 (l.2+x.toNat) 1 2) λl=>eC l λl e=>eI .i64 l λl=>eC e λe E=>eI .i64 e λe=>eN E (Aj (Af lo 289 [An v o q,Iv x,Aw l e] h) λv l=>eA v λv=>eC v λv o=>eS 2 v λv q e=>eN o (Ap y n (eO a λo=>eO (st lo l o.1 (o.2+y.toNat) 1 (Bq v q e)) λv=>Ap x m (eO b λl=>eO (ld v l.1 (l.2+x.toNat) 1 2) λl=>eC l λl o=>eI .i64 l λl=>eC o λo q=>eI .i64 o λo=>eN q (Aj (Af lo 287 [Au d k c a n p A i u B j s,Iv y,Iv 2,Iv x,Aw l o] v) λv l=>eA v λv=>eC v λv o=>eS 6 v λv q e=>eC o λo E=>eS 5 o λo K L=>eC E λE M=>eS 9 E λE N O=>eC M λM Q=>eS 5 M λM U W=>eN Q (DR lo (Am (x+1)) v q e o K L E N O M U W z y t w S f g a0 G C H a1 J D P a2 n0 c0 n1 a3 n2 c1 b m c2 l)))))))))) (some (.tup [Au d k c a n p A i u B j s,.bool true],h)) :=
 lE
theorem Vd (hk:(Aj (Af h.length 54 (Ct x 0 (Am ((n:Int) - 2))) h) λl o=>eB l (Ap x n (eO a λl=>eO (ld o l.1 (l.2+x.toNat) 1 1) λl=>eC l λl s=>eN s (eS 6 l λl l s=>br (decide ((l:Int)>0)) (Ap (Am (x+1)) n (eO a λl=>eO (ld o l.1 (l.2+((Am (x+(1:Int))).toNat)) 1 1) λl=>eC l λl s=>eN s (eS 6 l λl l s=>br (decide ((l:Int)<6)) (BZ o) (AF o)))) (AF o)))) (AF o))=some (v,h')) (hn:noId v=true:=by rfl) :
  Af lo 253 [An a n c,Iv x] h=some (v,h) :=
 eD Tryz.func253 hk hn
theorem S3 (hk:(Ap x n (eO a λv=>eO (ld h v.1 (v.2+x.toNat) 1 1) λv=>eC v λv l=>eN l (eS 6 v λv l o=>Ap 0 l (eO v λv=>eO (ld h v.1 (v.2+0) 0 6) λv=>eC v λv l=>eI .i64 v λv=>eC l λl o=>eI .i64 l λl=>eC o λo s=>eI .i64 o λo=>eC s λs b=>eS 2 s λs y z=>eC b λb u=>eT b λb=>eC u λu w=>eBv u λu=>eN w (Ap x n (eO a λw=>eO (ld (h ++ [.rows 6 43 false []]) w.1 (w.2+x.toNat) 1 1) λw=>eC w λw p=>eN p (eS 6 w λw p q=>AA w p q (some (Iv 1)) none none λw p q=>Av 6 (h ++ [.rows 6 43 false []]) (.sl 6 w p q) λw=>Df lo 43 6 72 (.sl 6 (some (h.length,0)) 0 (some 0)) w (h ++ [.rows 6 43 false []]) λw p=>eS 6 w λw q g=>Ap x n (eO a λi=>eO (st lo p i.1 (i.2+x.toNat) 1 (BC w q g)) λw=>Aj (Af lo 129 [An a n c,Iv (Am (x+1)),AD v l o s y z b u] w) λv l=>eA v λv=>eC v λv o=>eS 2 v λv s b=>eN o (some ((An v s b),l))))))))))=some r) :
  Af lo 254 [An a n c,Iv x] h=some r :=
 eK Tryz.func254 hk
theorem Py (hk:(br (!f) (br (!f) (br (!f) (br (!f) (br (!f) (br (decide ((n:Int)>1)) (br (!f) (Aj (Af h.length 54 (Ct x 0 (Am ((n:Int) - 1))) h) λl o=>eB l (BZ o) (AF o)) (AF h)) (br (!f) (AF h) (AF h))) (br (!f) none (AF h))) (br (!f) none (br (!f) none (AF h)))) (br (!f) none (br (!f) none (br (!f) none (AF h))))) (br (!f) none (br (!f) none (br (!f) none (br (!f) none (AF h)))))) (br (!f) none (br (!f) none (br (!f) none (br (!f) none (br (!f) none (AF h)))))))=some (v,h')) (hn:noId v=true:=by rfl) :
  Af lo 255 [BB y z a n c b m p d k u f,Iv x] h=some (v,h) :=
 eD Tryz.func255 hk hn
theorem S6 (hk:(AA a n c none (some (Iv x)) none λv l o=>Av 2 (h ++ [.rows 2 47 false []]) (.sl 2 v l o) λv=>Df lo 47 2 48 (.sl 2 (some (h.length,0)) 0 (some 0)) v (h ++ [.rows 2 47 false []]) λv l=>eS 2 v λv o s=>AA a n c (some (Iv (Am (x+1)))) none none λb y z=>Av 2 l (.sl 2 b y z) λb=>Df lo 47 2 48 (.sl 2 v o s) b l λv l=>eS 2 v λv o s=>br (decide (x>0)) (br (decide (x<(o:Int))) (Ap (Am (x - 1)) o (eO v λb=>eO (ld l b.1 (b.2+((Am (x - (1:Int))).toNat)) 0 1) λb=>eC b λb y=>eS 6 b λb z u=>eN y (Ap x o (eO v λy=>eO (ld l y.1 (y.2+x.toNat) 0 1) λy=>eC y λy w=>eS 6 y λy p q=>eN w (Aj (Af lo 291 [Bx b z u,Bx y p q] l) λb y=>eS 6 b λb z u=>Ap (Am (x - 1)) o (eO v λw=>eO (st lo y w.1 (w.2+((Am (x - (1:Int))).toNat)) 1 (BC b z u)) λb=>Ap (Am ((o:Int) - 1)) o (eO v λy=>eO (st lo b y.1 (y.2+((Am ((o:Int) - (1:Int))).toNat)) 1 [.sl 0 none 0 (some 0)]) λb=>some ((An v o s),b)))))))) (Ap (Am ((o:Int) - 1)) o (eO v λb=>eO (st lo l b.1 (b.2+((Am ((o:Int) - (1:Int))).toNat)) 1 [.sl 0 none 0 (some 0)]) λb=>some ((An v o s),b)))) (Ap (Am ((o:Int) - 1)) o (eO v λb=>eO (st lo l b.1 (b.2+((Am ((o:Int) - (1:Int))).toNat)) 1 [.sl 0 none 0 (some 0)]) λl=>some ((An v o s),l))))=some r) :
  Af lo 256 [An a n c,Iv x] h=some r :=
 eK Tryz.func256 hk
theorem S5 (hk:(Ap (Am ((n:Int) - 1)) n (eO a λv=>eO (ld h v.1 (v.2+((Am ((n:Int) - (1:Int))).toNat)) 0 1) λv=>eC v λv l=>eS 6 v λv o s=>eN l (Aj (Af lo 196 [Bx v o s] h) λv l=>eA v λv=>eC v λv o=>eS 6 v λv s b=>eN o (Av 2 (l ++ [.rows 2 47 false [[.sl 6 v s b,.sl 0 none 0 (some 0)]]]) (.sl 2 (some (l.length,0)) 1 (some 1)) λo=>Df lo 47 2 48 (.sl 2 a n c) o (l ++ [.rows 2 47 false [[.sl 6 v s b,.sl 0 none 0 (some 0)]]]) λv l=>eS 2 v λv o s=>some ((An v o s),l)))))=some r) :
  Af lo 257 [An a n c] h=some r :=
 eK Tryz.func257 hk
theorem Px (hk:(Aj (Af h.length 292 [BB y z a n c d k p b m u f,Iv x] h) λl o=>eI .i64 l λl=>br (decide (l>=0)) (Aj (Af h.length 125 [An a n c] o) λs w=>eB s (Ap x m (eO b λs=>eO (ld w s.1 (s.2+x.toNat) 0 1) λs=>eC s λs q=>eN q (eS 6 s λs q g=>Ap l q (eO s λs=>eO (ld w s.1 (s.2+l.toNat) 3 1) λl=>eC l λl s=>eS 2 l λl q g=>eN s (Aj (Af w.length 47 [An a n c] w) λs i=>eA s λs=>eC s λs j=>eS 2 s λs t e=>eN j (Aj (Af h.length 124 [An l q g,An s t e] i) λl s=>eB l (BZ s) (AF s))))))) (AF w)) (AF o))=some (v,h')) (hn:noId v=true:=by rfl) :
  Af lo 258 [BB y z a n c d k p b m u f,Iv x] h=some (v,h) :=
 eD Tryz.func258 hk hn
theorem SY (hk:(Ap z n (eO a λv=>eO (ld h v.1 (v.2+z.toNat) 0 1) λv=>eC v λv l=>eN l (eS 6 v λv l o=>Aj (Af h.length 292 [BB x y b m c d k p a n u f,Iv z] h) λo s=>eI .i64 o λo=>Ap o l (eO v λv=>eO (ld s v.1 (v.2+o.toNat) 0 6) λv=>eC v λv l=>eI .i64 v λv=>eC l λl o=>eI .i64 l λl=>eC o λo w=>eI .i64 o λo=>eC w λw q=>eS 2 w λw g i=>eC q λq j=>eT q λq=>eC j λj t=>eBv j λj=>eN t (br (decide (l>y)) (Aj (Af lo 129 [An b m c,Iv 0,AD v l o w g i q j] s) λt e=>eA t λt=>eC t λt A=>eS 2 t λt B C=>eN A (Aj (Af lo 130 [BB x l t B C d k p a n u f] e) λt e=>eA t λt=>eC t λt A=>eI .i64 t λt=>eC A λA B=>eI .i64 A λA=>eC B λB C=>eS 2 B λB D E=>eC C λC G=>eS 6 C λC H J=>eC G λG K=>eS 1 G λG L M=>eC K λK N=>eBv K λK=>eN N (some ((BB t A B D E C H J G L M K),e)))) (Aj (Af lo 129 [An b m c,Iv 0,AD v l o w g i q j] s) λv l=>eA v λv=>eC v λv o=>eS 2 v λv s w=>eN o (Aj (Af lo 130 [BB x y v s w d k p a n u f] l) λv l=>eA v λv=>eC v λv o=>eI .i64 v λv=>eC o λo s=>eI .i64 o λo=>eC s λs w=>eS 2 s λs q g=>eC w λw i=>eS 6 w λw j t=>eC i λi e=>eS 1 i λi A B=>eC e λe C=>eBv e λe=>eN C (some ((BB v o s q g w j t i A B e),l)))))))))=some r) :
  Af lo 259 [BB x y b m c d k p a n u f,Iv z] h=some r :=
 eK Tryz.func259 hk
theorem S1 {M q:Int}{e:Pq}{F:Bool} (hk:(br (x==y) (some (.tup [BB y z b m c d k p a n u f,.bool false],h)) (Ap x n (eO a λv=>eO (ld h v.1 (v.2+x.toNat) 0 1) λv=>eC v λv l=>eN l (eS 6 v λv v l=>br (t==(v:Int)) (br (decide (t>=60)) (some (.tup [BB y z b m c d k p a n u f,.bool false],h)) (Ap x n (eO a λv=>eO (ld h v.1 (v.2+x.toNat) 0 1) λv=>eC v λv l=>eN l (eS 6 v λv l o=>Aj (Af lo 208 [.sl 6 v l o,Aw w q] h) λv l=>eB v (some (.tup [BB y z b m c d k p a n u f,.bool false],l)) (Ap x n (eO a λv=>eO (ld l v.1 (v.2+x.toNat) 0 1) λv=>eC v λv o=>eN o (eS 6 v λv o g=>Aj (Af l.length 187 [AD M w q e i s S F] l) λl j=>eA l λl=>eC l λl A=>eI .i64 l λl=>eC A λA B=>eI .i64 A λA=>eC B λB C=>eI .i64 B λB=>eC C λC D=>eS 2 C λC E G=>eC D λD H=>eT D λD=>eC H λH J=>eBv H λH=>eN J (Av 6 (j ++ [.rows 6 43 false [C4 l A B C E G D H]]) (.sl 6 (some (j.length,0)) 1 (some 1)) λJ=>Df lo 43 6 72 (.sl 6 v o g) J (j ++ [.rows 6 43 false [C4 l A B C E G D H]]) λv l=>eS 6 v λv o g=>Ap x n (eO a λj=>eO (st lo l j.1 (j.2+x.toNat) 0 (BC v o g)) λv=>some (.tup [BB y z b m c d k p a n u f,.bool true],v)))))))))) (some (.tup [BB y z b m c d k p a n u f,.bool false],h))))))=some r) :
  Af lo 260 [BB y z b m c d k p a n u f,Iv x,Iv t,AD M w q e i s S F] h=some r :=
 eK Tryz.func260 hk
def IR lo a n c b m p x h:=
 LA 262 Tryz.f262 221311 0 111 lo ⟨[(0,.sl 6 a n c),(3,.sl 6 b m p),(4,Iv x)],[],h⟩
theorem IR.e :
  IR lo b n p a m c x h=br (decide (x<(n:Int))) (Ap x n (eO b λv=>eO (ld h v.1 (v.2+x.toNat) 0 6) λv=>eC v λv l=>eI .i64 v λv=>eC l λl o=>eI .i64 l λl=>eC o λo s=>eI .i64 o λo=>eC s λs y=>eS 2 s λs z u=>eC y λy w=>eT y λy=>eC w λw q=>eBv w λw=>eN q (Aj (Af lo 266 [AD v l o s z u y w] h) λv l=>eA v λv=>eC v λv o=>eI .i64 v λv=>eC o λo s=>eI .i64 o λo=>eC s λs y=>eI .i64 s λs=>eC y λy z=>eS 2 y λy u w=>eC z λz q=>eT z λz=>eC q λq g=>eBv q λq=>eN g (Ap x m (eO a λg=>eO (st lo l g.1 (g.2+x.toNat) 0 (C4 v o s y u w z q)) λv=>IR lo b n p a m c (Am (x+1)) v))))) (some (.sl 6 a m c,h)) :=
 lE
def HV lo a n c b m p x h:=
 LA 263 Tryz.f263 221311 0 111 lo ⟨[(0,.sl 1 a n c),(3,.sl 1 b m p),(4,Iv x)],[],h⟩
theorem HV.e :
  HV lo b n p a m c x h=br (decide (x<(n:Int))) (Ap x n (eO b λv=>eO (ld h v.1 (v.2+x.toNat) 0 1) λv=>eC v λv l=>eN l (eS 6 v λv l o=>Aj (Af lo 262 (BC v l o) h) λv l=>eS 6 v λv o s=>Ap x m (eO a λy=>eO (st lo l y.1 (y.2+x.toNat) 0 (BC v o s)) λv=>HV lo b n p a m c (Am (x+1)) v)))) (some (.sl 1 a m c,h)) :=
 lE
def Ba lo n m k x i a j c b g p h:=
 LA 267 Tryz.f267 221311 0 111 lo ⟨[(0,(BF n m k)),(2,.lp 2 0),(3,.lp 3 0),(4,Iv x)],[(2,[.sl i a j c]),(3,(Bq b g p))],h⟩
theorem Ba.e {lo m k i j g n:Nat}{x:Int}{b a:Pq}{p c:Nq}{h:Heap} :
  Ba lo m k i x j b g p a n c h=br (decide (x>0)) (Aj (Af lo 44 [BF m k i,Iv 6] h) λv l=>eI .i64 v λv=>br (v==0) (Aj (Af lo 125 [An a n c] l) λo s=>eB o (Aj (Af lo 195 [BF m k i] s) λo y=>eA o λo=>eC o λo z=>eI .i64 o λo=>eC z λz u=>eI .i64 z λz=>eC u λu w=>eI .i64 u λu=>eC w λw q=>eS 2 w λw t d=>eC q λq e=>eT q λq=>eC e λe f=>eBv e λe=>eN f (Aj (Af lo 129 [An a n c,Iv 0,AD o z u w t d q e] y) λo y=>eA o λo=>eC o λo z=>eS 2 o λo u w=>eN z (Ba lo m k i (Am (x - 1)) j b g p o u w y))) (Ba lo m k i (Am (x - 1)) j b g p a n c s)) (br (v==1) (Aj (Af lo 125 [An a n c] l) λo s=>eB o (Aj (Af lo 195 [BF m k i] s) λo y=>eA o λo=>eC o λo z=>eI .i64 o λo=>eC z λz u=>eI .i64 z λz=>eC u λu w=>eI .i64 u λu=>eC w λw q=>eS 2 w λw t d=>eC q λq e=>eT q λq=>eC e λe f=>eBv e λe=>eN f (Aj (Af lo 129 [An a n c,Iv 0,AD o z u w t d q e] y) λo y=>eA o λo=>eC o λo z=>eS 2 o λo u w=>eN z (Ba lo m k i (Am (x - 1)) j b g p o u w y))) (Ba lo m k i (Am (x - 1)) j b g p a n c s)) (br (v==2) (br (decide ((n:Int)>1)) (Aj (Af lo 44 [BF m k i,Iv (n:Int)] l) λo s=>eI .i64 o λo=>Aj (Af lo 256 [An a n c,Iv o] s) λo s=>eA o λo=>eC o λo y=>eS 2 o λo z u=>eN y (Ba lo m k i (Am (x - 1)) j b g p o z u s)) (Ba lo m k i (Am (x - 1)) j b g p a n c l)) (br (v==3) (br (decide ((n:Int)<4)) (Aj (Af lo 257 [An a n c] l) λv o=>eA v λv=>eC v λv s=>eS 2 v λv y z=>eN s (Ba lo m k i (Am (x - 1)) j b g p v y z o)) (Ba lo m k i (Am (x - 1)) j b g p a n c l)) (Aj (Af lo 44 [BF m k i,Iv 4] l) λv l=>eI .i64 v λv=>Aj (Af lo 253 [An a n c,Iv v] l) λl o=>eB l (Aj (Af lo 254 [An a n c,Iv v] o) λv l=>eA v λv=>eC v λv s=>eS 2 v λv y z=>eN s (Ba lo m k i (Am (x - 1)) j b g p v y z l)) (Ba lo m k i (Am (x - 1)) j b g p a n c o)))))) (Aj (Af lo 127 [An a n c] h) λv l=>eA v λv=>eC v λv o=>eS 2 v λv s y=>eN o (some ((An v s y),l))) :=
 lE
theorem Si (hk:(Aj (Af lo 48 [BF n m k,.sl 1 (some (h.length,0)) 8 (some 8)] (h ++ [.rows 1 9 false [[.str ⟨⟨[]⟩⟩],[.str ⟨⟨[97]⟩⟩],[.str ⟨⟨[98]⟩⟩],[.str ⟨⟨[120,35,49]⟩⟩],[.str ⟨⟨[61]⟩⟩],[.str ⟨⟨[45]⟩⟩],[.str ⟨⟨[108,111,110,103,116,101,120,116]⟩⟩],[.str ⟨⟨[122,122]⟩⟩]]])) λv l=>eT v λv=>some (.str v,l))=some r) :
  Af lo 269 [BF n m k] h=some r :=
 eK Tryz.func269 hk
def AI lo a n c m l x y z h:=
 LA 270 Tryz.f270 22131 0 11 lo ⟨[(0,.sl 2 a n c),(1,.fn m l),(4,Iv x),(7,Iv y),(8,Iv z)],[],h⟩
theorem Fh (hk:(AI h.length a n c m l 0 (n:Int) 0 h)=some (v,h')) (hn:noId v=true:=by rfl) :
  Af lo 270 [.sl 2 a n c,.fn m l] h=some (v,h) :=
 eD Tryz.func270 hk hn
theorem AI.e :
  AI lo a n c m l z y x h=br (decide (x<y)) (Ap x n (eO a λv=>eO (ld h v.1 (v.2+x.toNat) 0 2) λv=>eC v λv o=>eS 6 v λv s b=>eC o λo u=>eS 6 o λo w p=>eN u (Aj (Af lo m (CQ [LI v s b o w p] l) h) λv o=>eB v (some (Iv x,o)) (AI lo a n c m l z y (Am (x+1)) o)))) (some (Iv (-1),h)) :=
 lE
def CH lo x y n a m c k b i p h:=
 LA 271 Tryz.f271 2213111 0 1111 lo ⟨[(0,Iv x),(2,.lp 2 0),(3,.lp 3 0),(4,Iv y)],[(2,[.sl n a m c]),(3,[.sl k b i p])],h⟩
theorem Qv (hk:(Aj (Af lo 54 (Ct x 1 4) h) λv l=>eB v (CH lo x 0 0 none 0 (some 0) 0 none 0 (some 0) l) (some (.agg [.sl 0 none 0 (some 0)],l)))=some r) :
  Af lo 271 (AB x) h=some r :=
 eK Tryz.func271 hk
theorem CH.e :
  CH lo x y k b i p n a m c h=br (decide (y<x)) (Aj (Af lo 296 [] h) λv l=>eA v λv=>eC v λv o=>eS 6 v λv s z=>eN o (Av 2 (l ++ [.rows 2 47 false [[.sl 6 v s z,.sl 0 none 0 (some 0)]]]) (.sl 2 (some (l.length,0)) 1 (some 1)) λo=>Df lo 47 2 48 (.sl n a m c) o (l ++ [.rows 2 47 false [[.sl 6 v s z,.sl 0 none 0 (some 0)]]]) λv l=>eS 2 v λv o s=>CH lo x (Am (y+1)) k b i p 2 v o s l)) (some (.agg [.sl n a m c],h)) :=
 lE
theorem QE (hk:(some ((Bx (some (h.length,0)) 4 (some 4)),(h ++ [.rows 6 43 false [[Iv 0,Iv 0,Iv 0,.sl 0 none 0 (some 0),.str ⟨⟨[]⟩⟩,.bool false],[Iv 0,Iv 0,Iv 0,.sl 0 none 0 (some 0),.str ⟨⟨[]⟩⟩,.bool false],[Iv 0,Iv 0,Iv 0,.sl 0 none 0 (some 0),.str ⟨⟨[]⟩⟩,.bool false],[Iv 0,Iv 0,Iv 0,.sl 0 none 0 (some 0),.str ⟨⟨[]⟩⟩,.bool false]]])))=some r) :
  Af lo 272 [] h=some r :=
 eK Tryz.func272 hk
theorem Oy (hk:(eO (ld h n m (k+3) 1) λl=>eC l λl c=>eN c (eS 5 l λl l c=>br (decide (Am ((l:Int)+x)<=80)) (BZ h) (AF h)))=some (v,h')) (hn:noId v=true:=by rfl) :
  Af lo 273 [BF n m k,Iv x] h=some (v,h) :=
 eD Tryz.func273 hk hn
theorem J7 (hk:(eO (ld h n m (k+3) 1) λv=>eC v λv l=>eN l (eS 5 v λv l c=>Av 5 (h ++ [.rows 5 126 false [Ww x y z t w]]) (.sl 5 (some (h.length,0)) 1 (some 1)) λa=>Df lo 126 5 40 (.sl 5 v l c) a (h ++ [.rows 5 126 false [Ww x y z t w]]) λv l=>eS 5 v λv c a=>eO (st lo l n m (k+3) [.sl 5 v c a]) λv=>some (.tup [],v)))=some r) :
  Af lo 274 [BF n m k,Iv x,Iv y,Iv z,Aw t w] h=some r :=
 eK Tryz.func274 hk
theorem Gr (hk:(eO (ld h n m (k+0) 1) λv=>eC v λv l=>eN l (eS 2 v λv v l=>Aj (Af lo 63 (Ct y 0 (Am ((v:Int) - 1))) h) λv l=>eB v (Aj (Af lo 202 (AB x) l) λv c=>eB v (br (y==0) (eO (ld c n m (k+0) 1) λv=>eC v λv a=>eN a (eS 2 v λv v a=>eO (ld c n m (k+0) 1) λa=>eC a λa o=>eN o (eS 2 a λa o s=>Ap (if Am ((v:Int) - (1:Int))<1 then Am ((v:Int) - (1:Int)) else (1:Int)) o (eO a λa=>eO (ld c a.1 (a.2+((if Am ((v:Int) - (1:Int))<1 then Am ((v:Int) - (1:Int)) else (1:Int)).toNat)) 0 1) λv=>eC v λv a=>eN a (eS 6 v λv a o=>Ap x a (eO v λv=>eO (ld c v.1 (v.2+x.toNat) 0 6) λv=>eC v λv a=>eI .i64 v λv=>eC a λa o=>eI .i64 a λa=>eC o λo s=>eI .i64 o λo=>eC s λs b=>eS 2 s λs z u=>eC b λb w=>eT b λb=>eC w λw p=>eBv w λw=>eN p (Aj (Af lo 154 [AD v a o s z u b w] c) λv a=>eA v λv=>eC v λv o=>eI .i64 v λv=>eC o λo s=>eI .i64 o λo=>eC s λs b=>eI .i64 s λs=>eC b λb z=>eS 2 b λb u w=>eC z λz p=>eT z λz=>eC p λp q=>eBv p λp=>eN q (some (.tup [AD v o s b u w z p,.bool true],a))))))))) (eO (ld c n m (k+0) 1) λv=>eC v λv a=>eN a (eS 2 v λv a o=>Ap y a (eO v λv=>eO (ld c v.1 (v.2+y.toNat) 0 1) λv=>eC v λv a=>eN a (eS 6 v λv a o=>Ap x a (eO v λv=>eO (ld c v.1 (v.2+x.toNat) 0 6) λv=>eC v λv a=>eI .i64 v λv=>eC a λa o=>eI .i64 a λa=>eC o λo s=>eI .i64 o λo=>eC s λs b=>eS 2 s λs z u=>eC b λb w=>eT b λb=>eC w λw p=>eBv w λw=>eN p (Aj (Af lo 154 [AD v a o s z u b w] c) λv a=>eA v λv=>eC v λv o=>eI .i64 v λv=>eC o λo s=>eI .i64 o λo=>eC s λs b=>eI .i64 s λs=>eC b λb z=>eS 2 b λb u w=>eC z λz p=>eT z λz=>eC p λp q=>eBv p λp=>eN q (some (.tup [AD v o s b u w z p,.bool true],a))))))))) (some (.tup [.agg [Iv 0,Iv 0,Iv 0,.sl 0 none 0 (some 0),.str ⟨⟨[]⟩⟩,.bool false],.bool false],c))) (some (.tup [.agg [Iv 0,Iv 0,Iv 0,.sl 0 none 0 (some 0),.str ⟨⟨[]⟩⟩,.bool false],.bool false],l))))=some r) :
  Af lo 275 [BF n m k,Iv y,Iv x] h=some r :=
 eK Tryz.func275 hk
theorem PH (hk:(Aj (Af lo 153 [An a n c] h) λv l=>eA v λv=>eC v λv o=>eS 2 v λv s b=>eN o (Ap x s (eO v λo=>eO (ld l o.1 (o.2+x.toNat) 0 2) λo=>eC o λo u=>eI .i64 o λo=>eC u λu w=>eI .i64 u λu=>eN w (Aj (Af lo 297 [Aw o u,Aw y z] l) λl o=>eA l λl=>eC l λl u=>eI .i64 l λl=>eC u λu w=>eI .i64 u λu=>eN w (Ap x s (eO v λw=>eO (st lo o w.1 (w.2+x.toNat) 0 (Bh l u)) λl=>some ((An v s b),l)))))))=some r) :
  Af lo 276 [An a n c,Iv x,Aw y z] h=some r :=
 eK Tryz.func276 hk
def B4 lo a n c x y m b k p d i u h:=
 LA 277 Tryz.f277 221311 0 111 lo ⟨[(4,.lp 4 0),(5,.lp 5 0),(11,.sl 2 a n c),(12,Iv x),(13,Iv y)],[(4,[.sl m b k p]),(5,(Bq d i u))],h⟩
theorem KG (hk:(Aj (Af lo 153 [An a m c] h) λv l=>eA v λv=>eC v λv o=>eS 2 v λv s x=>eN o (B4 lo b n p (n:Int) 0 0 none 0 (some 0) v s x l))=some r) :
  Af lo 277 [An a m c,An b n p] h=some r :=
 eK Tryz.func277 hk
theorem B4.e :
  B4 lo b m p y x k d i u a n c h=br (decide (x<y)) (Ap x m (eO b λv=>eO (ld h v.1 (v.2+x.toNat) 0 2) λv=>eC v λv l=>eI .i64 v λv=>eC l λl o=>eI .i64 l λl=>eN o (Ap x n (eO a λo=>eO (ld h o.1 (o.2+x.toNat) 0 2) λo=>eC o λo s=>eI .i64 o λo=>eC s λs z=>eI .i64 s λs=>eN z (Aj (Af lo 297 [Aw o s,Aw v l] h) λv l=>eA v λv=>eC v λv o=>eI .i64 v λv=>eC o λo s=>eI .i64 o λo=>eN s (Ap x n (eO a λs=>eO (st lo l s.1 (s.2+x.toNat) 0 (Bh v o)) λv=>B4 lo b m p y (Am (x+1)) k d i u a n c v))))))) (some ((An a n c),h)) :=
 lE
theorem OL (hk:(eO (ld h n m (k+0) 1) λv=>eC v λv l=>eN l (eS 2 v λv v l=>Aj (Af lo 63 (Ct x 0 (Am ((v:Int) - 2))) h) λv l=>eB v (eO (ld l n m (k+0) 1) λv=>eC v λv c=>eN c (eS 2 v λv c a=>Ap x c (eO v λv=>eO (ld l v.1 (v.2+x.toNat) 1 1) λv=>eC v λv c=>eN c (eS 6 v λv v c=>br ((v:Int)==0) (AF l) (Aj (Af lo 117 [BF n m k,Iv (Am (x+1))] l) λv c=>eB v (AF c) (eO (ld c n m (k+0) 1) λv=>eC v λv a=>eN a (eS 2 v λv a o=>Ap x a (eO v λv=>eO (ld c v.1 (v.2+x.toNat) 1 1) λv=>eC v λv a=>eN a (eS 6 v λv a o=>Ap 0 a (eO v λv=>eO (ld c v.1 (v.2+0) 0 6) λv=>eC v λv a=>eI .i64 v λv=>eC a λa o=>eI .i64 a λa=>eC o λo s=>eI .i64 o λo=>eC s λs b=>eS 2 s λs y z=>eC b λb u=>eT b λb=>eC u λu w=>eBv u λu=>eN w (eO (ld c n m (k+0) 1) λw=>eC w λw p=>eN p (eS 2 w λw p q=>eO (ld c n m (k+0) 1) λq=>eC q λq g=>eN g (eS 2 q λq g i=>Be (GB (ld c n m (k+0) 1) (ld c n m (k+0) 1)) (Ap x g (eO q λq=>eO (ld c q.1 (q.2+x.toNat) 1 1) λq=>eC q λq g=>eN g (eS 6 q λq g i=>Be (GB (ld c n m (k+0) 1) (ld c n m (k+0) 1)) (Aj (Af lo 298 [.sl 6 q g i,Iv 0,Iv 1] c) λq g=>eS 6 q λq i j=>Be (GB (ld c n m (k+0) 1) (ld g n m (k+0) 1)) (Aj (Af lo 205 (BC q i j) g) λc q=>eS 6 c λc i j=>Be (GB (ld g n m (k+0) 1) (ld q n m (k+0) 1)) (Ap x p (eO w λw=>eO (st lo q w.1 (w.2+x.toNat) 1 (BC c i j)) λc=>Aj (Af lo 204 [BF n m k,Iv (Am (x+1)),AD v a o s y z b u] c) λv c=>eU v λv=>eN v (BZ c))))))))))))))))))))) (AF l)))=some r) :
  Af lo 278 [BF n m k,Iv x] h=some r :=
 eK Tryz.func278 hk
def Bu lo n m k x i j g a G c y z h:=
 LA 279 Tryz.f279 22131111111 0 11111111 lo ⟨[(0,(BF n m k)),(1,Iv x),(5,(BF i j g)),(59,.sl 6 a G c),(60,Iv y),(61,Iv z)],[],h⟩
theorem OO (hk:(eO (ld h n m (k+0) 1) λv=>eC v λv l=>eN l (eS 2 v λv v l=>Aj (Af lo 63 (Ct x 0 (Am ((v:Int) - 1))) h) λv l=>eB v (eO (ld l n m (k+0) 1) λv=>eC v λv c=>eN c (eS 2 v λv v c=>br ((v:Int)==1) (AF l) (eO (ld l n m (k+0) 1) λv=>eC v λv c=>eN c (eS 2 v λv c a=>Aj (Af lo 299 [.sl 2 v c a,Iv x,Iv (Am (x+1))] l) λv c=>eS 2 v λv a o=>Aj (Af lo 280 (Bq v a o) c) λv c=>eS 2 v λv a o=>eO (st lo c n m (k+0) (Bq v a o)) λv=>br (x==0) (BZ v) (eO (ld v n m (k+0) 1) λc=>eC c λc a=>eN a (eS 2 c λc a o=>Ap (Am (x - 1)) a (eO c λc=>eO (st lo v c.1 (c.2+((Am (x - (1:Int))).toNat)) 1 [.sl 0 none 0 (some 0)]) λv=>eO (ld v n m k 1) λa=>eC a λa o=>eS 2 a λa s b=>eN o (Aj (Af lo 135 [An a s b,Iv (Am (x - 1))] v) λv a=>eB v (BZ a) (eO (ld a c.1 (c.2+((Am (x - (1:Int))).toNat)) 0 1) λv=>eC v λv o=>eN o (eS 6 v λv o s=>Bu lo n m k x c.1 (c.2+((Am (x - (1:Int))).toNat)) 0 v o s (o:Int) 0 a)))))))))) (AF l)))=some r) :
  Af lo 279 [BF n m k,Iv x] h=some r :=
 eK Tryz.func279 hk
theorem Bu.e {lo i j g n m k G:Nat}{y z x:Int}{a:Pq}{c:Nq}{h:Heap} :
  Bu lo i j g y n m k a G c z x h=br (decide (x<z)) (Ap x G (eO a λv=>eO (ld h v.1 (v.2+x.toNat) 0 6) λv=>eC v λv l=>eI .i64 v λv=>eC l λl o=>eI .i64 l λl=>eC o λo s=>eI .i64 o λo=>eC s λs b=>eS 2 s λs u w=>eC b λb p=>eT b λb=>eC p λp q=>eBv p λp=>eN q (eO (ld h i j (g+0) 1) λq=>eC q λq t=>eN t (eS 2 q λq t d=>Ap y t (eO q λq=>eO (ld h q.1 (q.2+y.toNat) 0 1) λq=>eC q λq t=>eN t (eS 6 q λq t d=>Ap v t (eO q λq=>eO (ld h q.1 (q.2+v.toNat) 1 2) λq=>eC q λq t=>eI .i64 q λq=>eC t λt d=>eI .i64 t λt=>eN d (Aj (Af lo 15 [Aw q t,Aw l o] h) λq t=>eB q (eO (ld t n m (k+1) 1) λq=>eC q λq d=>eN d (eS 6 q λq d e=>Aj (Af t.length 154 [AD v l o s u w b p] t) λv l=>eA v λv=>eC v λv o=>eI .i64 v λv=>eC o λo s=>eI .i64 o λo=>eC s λs b=>eI .i64 s λs=>eC b λb u=>eS 2 b λb w p=>eC u λu f=>eT u λu=>eC f λf A=>eBv f λf=>eN A (Av 6 (l ++ [.rows 6 43 false [C4 v o s b w p u f]]) (.sl 6 (some (l.length,0)) 1 (some 1)) λA=>Df lo 43 6 72 (.sl 6 q d e) A (l ++ [.rows 6 43 false [C4 v o s b w p u f]]) λv l=>eS 6 v λv o s=>eO (st lo l n m (k+1) (BC v o s)) λv=>Bu lo i j g y n m k a G c z (Am (x+1)) v))) (Bu lo i j g y n m k a G c z (Am (x+1)) t))))))))) (eO (ld h n m (k+1) 1) λv=>eC v λv l=>eN l (eS 6 v λv l o=>Aj (Af lo 300 [.sl 6 v l o,.fn 301 []] h) λv l=>eU v λv=>eN v (eO (ld l n m (k+1) 1) λv=>eC v λv o=>eN o (eS 6 v λv o s=>Aj (Af lo 205 (BC v o s) l) λv l=>eS 6 v λv o s=>eO (st lo l n m (k+1) (BC v o s)) λv=>some (.bool true,v))))) :=
 lE
theorem GM (hk:(AA a n c none (some (Iv (n:Int))) (some (Iv (n:Int))) λv l o=>some (.sl 2 v l o,h))=some r) :
  Af lo 280 (Bq a n c) h=some r :=
 eK Tryz.func280 hk
def AJ lo a n c m l x y z h:=
 LA 281 Tryz.f281 22131 0 11 lo ⟨[(0,.sl 5 a n c),(1,.fn m l),(4,Iv x),(7,Iv y),(8,Iv z)],[],h⟩
theorem Fi (hk:(AJ h.length a n c m l 0 (n:Int) 0 h)=some (v,h')) (hn:noId v=true:=by rfl) :
  Af lo 281 [.sl 5 a n c,.fn m l] h=some (v,h) :=
 eD Tryz.func281 hk hn
theorem AJ.e :
  AJ lo a n c m l z y x h=br (decide (x<y)) (Ap x n (eO a λv=>eO (ld h v.1 (v.2+x.toNat) 0 5) λv=>eC v λv o=>eI .i64 v λv=>eC o λo s=>eI .i64 o λo=>eC s λs b=>eI .i64 s λs=>eC b λb u=>eI .i64 b λb=>eC u λu w=>eI .i64 u λu=>eN w (Aj (Af lo m (CQ [T3 v o s b u] l) h) λv o=>eB v (some (Iv x,o)) (AJ lo a n c m l z y (Am (x+1)) o)))) (some (Iv (-1),h)) :=
 lE
def Id lo a n c b m p f x h:=
 LA 282 Tryz.f282 221311 0 111 lo ⟨[(0,.sl 2 a n c),(1,.sl 2 b m p),(4,.bool f),(5,Iv x)],[],h⟩
theorem Id.e :
  Id lo a n c b m p f x h=br (decide (x<(n:Int))) (Ap x n (eO a λv=>eO (ld h v.1 (v.2+x.toNat) 0 2) λv=>eC v λv l=>eS 6 v λv o s=>eC l λl y=>eS 6 l λl z u=>eN y (Ap x m (eO b λy=>eO (ld h y.1 (y.2+x.toNat) 0 2) λy=>eC y λy w=>eS 6 y λy q g=>eC w λw i=>eS 6 w λw j k=>eN i (Aj (Af lo 302 [LI v o s l z u,LI y q g w j k] h) λv l=>eB v (Id lo a n c b m p f (Am (x+1)) l) (AF l)))))) (BZ h) :=
 lE
def IV lo a n c b m p f x h:=
 LA 283 Tryz.f283 221311 0 111 lo ⟨[(0,.sl 2 a n c),(1,.sl 2 b m p),(4,.bool f),(5,Iv x)],[],h⟩
theorem IV.e :
  IV lo a n c b m p f x h=br (decide (x<(n:Int))) (Ap x n (eO a λv=>eO (ld h v.1 (v.2+x.toNat) 0 2) λv=>eC v λv l=>eI .i64 v λv=>eC l λl o=>eI .i64 l λl=>eN o (Ap x m (eO b λo=>eO (ld h o.1 (o.2+x.toNat) 0 2) λo=>eC o λo s=>eI .i64 o λo=>eC s λs y=>eI .i64 s λs=>eN y (Aj (Af lo 241 [Aw v l,Aw o s] h) λv l=>eB v (IV lo a n c b m p f (Am (x+1)) l) (AF l)))))) (BZ h) :=
 lE
def Ia lo a n c x y z h:=
 LA 284 Tryz.f284 2213111 0 1111 lo ⟨[(0,.sl 2 a n c),(1,Iv x),(4,Iv y),(5,Iv z)],[],h⟩
theorem Ia.e :
  Ia lo a n c y z x h=br (decide (x<(n:Int))) (Ap x n (eO a λv=>eO (ld h v.1 (v.2+x.toNat) 0 2) λv=>eC v λv l=>eS 6 v λv o s=>eC l λl b=>eS 6 l λl u w=>eN b (Aj (Af lo 303 [LI v o s l u w,Iv y] h) λv l=>eI .i64 v λv=>br (decide (v<0)) (some (Iv (-1),l)) (Ia lo a n c v z (Am (x+1)) l)))) (some (Iv y,h)) :=
 lE
theorem SX {e:Pq} (hk:(Av 5 (h ++ [.rows 5 126 false [Ww x y z t w]]) (.sl 5 (some (h.length,0)) 1 (some 1)) λv=>Df lo 126 5 40 (.sl 5 e i s) v (h ++ [.rows 5 126 false [Ww x y z t w]]) λv l=>eS 5 v λv o q=>some ((Au a n c b m p d k u v o q),l))=some r) :
  Af lo 287 [Au a n c b m p d k u e i s,Iv x,Iv y,Iv z,Aw t w] h=some r :=
 eK Tryz.func287 hk
theorem Sg (hk:(br (y==0) (br (decide ((n:Int)>1)) (Ap 1 n (eO a λv=>eO (ld h v.1 (v.2+1) 0 1) λv=>eC v λv l=>eN l (eS 6 v λv l o=>Ap x l (eO v λv=>eO (ld h v.1 (v.2+x.toNat) 0 6) λv=>eC v λv l=>eI .i64 v λv=>eC l λl o=>eI .i64 l λl=>eC o λo s=>eI .i64 o λo=>eC s λs b=>eS 2 s λs z u=>eC b λb w=>eT b λb=>eC w λw p=>eBv w λw=>eN p (Aj (Af lo 187 [AD v l o s z u b w] h) λv l=>eA v λv=>eC v λv o=>eI .i64 v λv=>eC o λo s=>eI .i64 o λo=>eC s λs b=>eI .i64 s λs=>eC b λb z=>eS 2 b λb u w=>eC z λz p=>eT z λz=>eC p λp q=>eBv p λp=>eN q (some ((AD v o s b u w z p),l))))))) (Ap y n (eO a λv=>eO (ld h v.1 (v.2+y.toNat) 0 1) λv=>eC v λv l=>eN l (eS 6 v λv l o=>Ap x l (eO v λv=>eO (ld h v.1 (v.2+x.toNat) 0 6) λv=>eC v λv l=>eI .i64 v λv=>eC l λl o=>eI .i64 l λl=>eC o λo s=>eI .i64 o λo=>eC s λs b=>eS 2 s λs z u=>eC b λb w=>eT b λb=>eC w λw p=>eBv w λw=>eN p (Aj (Af lo 187 [AD v l o s z u b w] h) λv l=>eA v λv=>eC v λv o=>eI .i64 v λv=>eC o λo s=>eI .i64 o λo=>eC s λs b=>eI .i64 s λs=>eC b λb z=>eS 2 b λb u w=>eC z λz p=>eT z λz=>eC p λp q=>eBv p λp=>eN q (some ((AD v o s b u w z p),l)))))))) (Ap y n (eO a λv=>eO (ld h v.1 (v.2+y.toNat) 0 1) λv=>eC v λv l=>eN l (eS 6 v λv l o=>Ap x l (eO v λv=>eO (ld h v.1 (v.2+x.toNat) 0 6) λv=>eC v λv l=>eI .i64 v λv=>eC l λl o=>eI .i64 l λl=>eC o λo s=>eI .i64 o λo=>eC s λs b=>eS 2 s λs z u=>eC b λb w=>eT b λb=>eC w λw p=>eBv w λw=>eN p (Aj (Af lo 187 [AD v l o s z u b w] h) λv l=>eA v λv=>eC v λv o=>eI .i64 v λv=>eC o λo s=>eI .i64 o λo=>eC s λs b=>eI .i64 s λs=>eC b λb z=>eS 2 b λb u w=>eC z λz p=>eT z λz=>eC p λp q=>eBv p λp=>eN q (some ((AD v o s b u w z p),l))))))))=some r) :
  Af lo 288 [An a n c,Iv y,Iv x] h=some r :=
 eK Tryz.func288 hk
theorem S9 (hk:(Av 2 (h ++ [.rows 2 36 false []]) (.sl 2 a n c) λv=>Df lo 36 2 16 (.sl 2 (some (h.length,0)) 0 (some 0)) v (h ++ [.rows 2 36 false []]) λv l=>eS 2 v λv o s=>Ap x o (eO v λb=>eO (ld l b.1 (b.2+x.toNat) 0 2) λb=>eC b λb u=>eI .i64 b λb=>eC u λu w=>eI .i64 u λu=>eN w (Aj (Af lo 307 [Aw b u,Aw y z] l) λl b=>eA l λl=>eC l λl u=>eI .i64 l λl=>eC u λu w=>eI .i64 u λu=>eN w (Ap x o (eO v λw=>eO (st lo b w.1 (w.2+x.toNat) 0 (Bh l u)) λl=>some ((An v o s),l))))))=some r) :
  Af lo 289 [An a n c,Iv x,Aw y z] h=some r :=
 eK Tryz.func289 hk
def Dp lo x a n c b m p k d i u j e g s h:=
 LA 290 Tryz.f290 221311 0 111 lo ⟨[(2,.lp 2 0),(3,.lp 3 0),(4,.lp 4 0),(5,.lp 5 0),(6,Iv x)],[(2,(Bq a n c)),(3,(Bq b m p)),(4,[.sl k d i u]),(5,[.sl j e g s])],h⟩
theorem Tc (hk:(Dp lo 0 a n c b m p 0 none 0 (some 0) 0 none 0 (some 0) h)=some r) :
  Af lo 290 [An a n c,An b m p] h=some r :=
 eK Tryz.func290 hk
theorem Dp.e {A:Pq} :
  Dp lo x a n p b m u j A g s k d i c h=br (decide (x<4)) (Ap x n (eO a λv=>eO (ld h v.1 (v.2+x.toNat) 0 2) λv=>eC v λv l=>eI .i64 v λv=>eC l λl o=>eI .i64 l λl=>eN o (Ap x m (eO b λo=>eO (ld h o.1 (o.2+x.toNat) 0 2) λo=>eC o λo y=>eI .i64 o λo=>eC y λy z=>eI .i64 y λy=>eN z (Aj (Af lo 307 [Aw v l,Aw o y] h) λv l=>eA v λv=>eC v λv o=>eI .i64 v λv=>eC o λo y=>eI .i64 o λo=>eN y (Av 2 (l ++ [.rows 2 36 false [Bh v o]]) (.sl 2 (some (l.length,0)) 1 (some 1)) λy=>Df lo 36 2 16 (.sl k d i c) y (l ++ [.rows 2 36 false [Bh v o]]) λv l=>eS 2 v λv o y=>Dp lo (Am (x+1)) a n p b m u j A g s 2 v o y l)))))) (some (.agg [.sl k d i c],h)) :=
 lE
def B7 lo a n c x b m p d k u h:=
 LA 291 Tryz.f291 221311 0 111 lo ⟨[(2,.lp 2 0),(3,.lp 3 0),(5,.sl 6 a n c),(6,Iv x)],[(2,(BC b m p)),(3,(BC d k u))],h⟩
def Dn lo a n c x y b m p d k u h:=
 Lp (X 291) lo (pf 22311231221311 Tryz.f291) 2 (A6 2 (kS (X 291) lo (pf 111231221311 Tryz.f291) 1 (A6 1 (kS (X 291) lo (pf 11221311 Tryz.f291) 0 (WJ (X 291) lo (pf 221311 Tryz.f291) 0 (A6 0 (kS (X 291) lo (pf 111 Tryz.f291) 0 (Kt (X 291) Tryz.f291.results.toList)))))))) ⟨[(2,.lp 2 0),(3,.lp 3 0),(5,.sl 6 a n c),(6,Iv x),(7,Iv y)],[(2,(BC b m p)),(3,(BC d k u))],h⟩
theorem S4 (hk:(B7 lo (some (h.length,0)) 0 (some 0) 0 a n c b m p (h ++ [.rows 6 43 false []]))=some r) :
  Af lo 291 [Bx a n c,Bx b m p] h=some r :=
 eK Tryz.func291 hk
theorem B7.e :
  B7 lo a n c x b m p d k u h=br (decide (x<4)) (Ap x k (eO d λv=>eO (ld h v.1 (v.2+x.toNat) 1 2) λv=>eC v λv l=>eI .i64 v λv=>eC l λl o=>eI .i64 l λl=>eN o (Ap x m (eO b λo=>eO (ld h o.1 (o.2+x.toNat) 1 2) λo=>eC o λo s=>eI .i64 o λo=>eC s λs y=>eI .i64 s λs=>eN y (Aj (Af lo 197 [Aw v l,Aw o s] h) λv l=>eB v (Dn lo a n c x 0 b m p d k u l) (B7 lo a n c (Am (x+1)) b m p d k u l)))))) (some (.sl 6 a n c,h)) :=
 lE
theorem Dn.e {lo n m k:Nat}{a b d:Pq}{c p u:Nq}{x y:Int}{h:Heap} :
  Dn lo a n c x y b m p d k u h=br (decide (y<(n:Int))) (Ap y n (eO a λv=>eO (ld h v.1 (v.2+y.toNat) 1 2) λv=>eC v λv l=>eI .i64 v λv=>eC l λl o=>eI .i64 l λl=>eN o (Ap x m (eO b λo=>eO (ld h o.1 (o.2+x.toNat) 1 2) λo=>eC o λo s=>eI .i64 o λo=>eC s λs z=>eI .i64 s λs=>eN z (Aj (Af lo 197 [Aw v l,Aw o s] h) λv l=>eB v (Dn lo a n c x (Am (y+1)) b m p d k u l) (AA a n c none (some (Iv y)) none λv o s=>Av 6 (l ++ [.rows 6 43 false []]) (.sl 6 v o s) λv=>Df lo 43 6 72 (.sl 6 (some (l.length,0)) 0 (some 0)) v (l ++ [.rows 6 43 false []]) λv l=>eS 6 v λv o s=>Ap x m (eO b λz=>eO (ld l z.1 (z.2+x.toNat) 0 6) λz=>eC z λz w=>eI .i64 z λz=>eC w λw q=>eI .i64 w λw=>eC q λq g=>eI .i64 q λq=>eC g λg i=>eS 2 g λg j t=>eC i λi e=>eT i λi=>eC e λe f=>eBv e λe=>eN f (Aj (Af lo 187 [AD z w q g j t i e] l) λl z=>eA l λl=>eC l λl w=>eI .i64 l λl=>eC w λw q=>eI .i64 w λw=>eC q λq g=>eI .i64 q λq=>eC g λg i=>eS 2 g λg j t=>eC i λi e=>eT i λi=>eC e λe f=>eBv e λe=>eN f (Av 6 (z ++ [.rows 6 43 false [C4 l w q g j t i e]]) (.sl 6 (some (z.length,0)) 1 (some 1)) λf=>Df lo 43 6 72 (.sl 6 v o s) f (z ++ [.rows 6 43 false [C4 l w q g j t i e]]) λv l=>eS 6 v λv o s=>AA a n c (some (Iv y)) none none λz w q=>Av 6 l (.sl 6 z w q) λz=>Df lo 43 6 72 (.sl 6 v o s) z l λv l=>eS 6 v λv o s=>B7 lo v o s (Am (x+1)) b m p d k u l))))))))) (AA a n c none (some (Iv y)) none λv l o=>Av 6 (h ++ [.rows 6 43 false []]) (.sl 6 v l o) λv=>Df lo 43 6 72 (.sl 6 (some (h.length,0)) 0 (some 0)) v (h ++ [.rows 6 43 false []]) λv l=>eS 6 v λv o s=>Ap x m (eO b λz=>eO (ld l z.1 (z.2+x.toNat) 0 6) λz=>eC z λz w=>eI .i64 z λz=>eC w λw q=>eI .i64 w λw=>eC q λq g=>eI .i64 q λq=>eC g λg i=>eS 2 g λg j t=>eC i λi e=>eT i λi=>eC e λe f=>eBv e λe=>eN f (Aj (Af lo 187 [AD z w q g j t i e] l) λl z=>eA l λl=>eC l λl w=>eI .i64 l λl=>eC w λw q=>eI .i64 w λw=>eC q λq g=>eI .i64 q λq=>eC g λg i=>eS 2 g λg j t=>eC i λi e=>eT i λi=>eC e λe f=>eBv e λe=>eN f (Av 6 (z ++ [.rows 6 43 false [C4 l w q g j t i e]]) (.sl 6 (some (z.length,0)) 1 (some 1)) λf=>Df lo 43 6 72 (.sl 6 v o s) f (z ++ [.rows 6 43 false [C4 l w q g j t i e]]) λv l=>eS 6 v λv o s=>AA a n c (some (Iv y)) none none λz w q=>Av 6 l (.sl 6 z w q) λz=>Df lo 43 6 72 (.sl 6 v o s) z l λv l=>eS 6 v λv o s=>B7 lo v o s (Am (x+1)) b m p d k u l)))) :=
 lE
def CU lo x y z t w a n c b m p d k u f e i s h:=
 LA 292 Tryz.f292 221311 0 111 lo ⟨[(1,Iv x),(2,.lp 2 0),(4,Iv y),(5,.lp 5 0),(6,Iv z)],[(2,(Dd t w a n c b m p d k u f)),(5,(BC e i s))],h⟩
theorem Sf (hk:(Ap 0 n (eO a λl=>eO (ld h l.1 (l.2+0) 0 1) λl=>eC l λl o=>eS 6 l λl s w=>eN o (CU h.length z 0 0 x y a n c b m p d k u f l s w h)))=some (v,h')) (hn:noId v=true:=by rfl) :
  Af lo 292 [BB x y a n c b m p d k u f,Iv z] h=some (v,h) :=
 eD Tryz.func292 hk hn
theorem CU.e {A:Pq} :
  CU lo x z y t w d k c A i p a n u f b m s h=Ap x n (eO a λv=>eO (ld h v.1 (v.2+x.toNat) 0 1) λv=>eC v λv l=>eN l (eS 6 v λv v l=>br (decide (y<(v:Int))) (Ap x n (eO a λv=>eO (ld h v.1 (v.2+x.toNat) 0 1) λv=>eC v λv l=>eN l (eS 6 v λv l o=>Ap y l (eO v λv=>eO (ld h v.1 (v.2+y.toNat) 0 6) λv=>eC v λv l=>eI .i64 v λv=>eC l λl o=>eI .i64 l λl=>eC o λo q=>eI .i64 o λo=>eC q λq g=>eS 2 q λq q q=>eC g λq g=>eT q λq=>eC g λq g=>eBv q λq=>eN g (Ap v m (eO b λq=>eO (ld h q.1 (q.2+v.toNat) 1 2) λv=>eC v λv q=>eI .i64 v λv=>eC q λq g=>eI .i64 q λq=>eN g (Aj (Af lo 197 [Aw v q,Aw l o] h) λv l=>eB v (some (Iv y,l)) (CU lo x z (Am (y+1)) t w d k c A i p a n u f b m s l)))))))) (some (Iv (-1),h)))) :=
 lE
def HX lo a n c b m p x h:=
 LA 293 Tryz.f293 221311 0 111 lo ⟨[(0,.sl 2 a n c),(3,.sl 2 b m p),(4,Iv x)],[],h⟩
theorem HX.e :
  HX lo b n p a m c x h=br (decide (x<(n:Int))) (Ap x n (eO b λv=>eO (ld h v.1 (v.2+x.toNat) 0 2) λv=>eC v λv l=>eS 6 v λv o s=>eC l λl y=>eS 6 l λl z u=>eN y (Aj (Af lo 308 [LI v o s l z u] h) λv l=>eA v λv=>eC v λv o=>eS 6 v λv s y=>eC o λo z=>eS 6 o λo u w=>eN z (Ap x m (eO a λz=>eO (st lo l z.1 (z.2+x.toNat) 0 (Lh v s y o u w)) λv=>HX lo b n p a m c (Am (x+1)) v))))) (some (.sl 2 a m c,h)) :=
 lE
def IS lo a n c b m p x h:=
 LA 294 Tryz.f294 221311 0 111 lo ⟨[(0,.sl 2 a n c),(3,.sl 2 b m p),(4,Iv x)],[],h⟩
theorem IS.e :
  IS lo b n p a m c x h=br (decide (x<(n:Int))) (Ap x n (eO b λv=>eO (ld h v.1 (v.2+x.toNat) 0 2) λv=>eC v λv l=>eI .i64 v λv=>eC l λl o=>eI .i64 l λl=>eN o (Aj (Af lo 265 [Aw v l] h) λv l=>eA v λv=>eC v λv o=>eI .i64 v λv=>eC o λo s=>eI .i64 o λo=>eN s (Ap x m (eO a λs=>eO (st lo l s.1 (s.2+x.toNat) 0 (Bh v o)) λv=>IS lo b n p a m c (Am (x+1)) v))))) (some (.sl 2 a m c,h)) :=
 lE
def Hh lo n m k x i a j c b g p h:=
 LA 295 Tryz.f295 221311 0 111 lo ⟨[(0,(BF n m k)),(2,.lp 2 0),(3,.lp 3 0),(4,Iv x)],[(2,[.sl i a j c]),(3,(BC b g p))],h⟩
theorem Hh.e :
  Hh lo n m k x j b g p a i c h=br (decide (x>0)) (Aj (Af lo 195 [BF n m k] h) λv l=>eA v λv=>eC v λv o=>eI .i64 v λv=>eC o λo s=>eI .i64 o λo=>eC s λs y=>eI .i64 s λs=>eC y λy z=>eS 2 y λy u w=>eC z λz q=>eT z λz=>eC q λq t=>eBv q λq=>eN t (Aj (Af lo 198 [Bx a i c,AD v o s y u w z q] l) λv l=>eA v λv=>eC v λv o=>eS 6 v λv s y=>eN o (Hh lo n m k (Am (x - 1)) j b g p v s y l))) (some ((Bx a i c),h)) :=
 lE
theorem Vf (hk:(some ((Bx (some (h.length,0)) 4 (some 4)),(h ++ [.rows 6 43 false [[Iv 0,Iv 0,Iv 0,.sl 0 none 0 (some 0),.str ⟨⟨[]⟩⟩,.bool false],[Iv 0,Iv 0,Iv 0,.sl 0 none 0 (some 0),.str ⟨⟨[]⟩⟩,.bool false],[Iv 0,Iv 0,Iv 0,.sl 0 none 0 (some 0),.str ⟨⟨[]⟩⟩,.bool false],[Iv 0,Iv 0,Iv 0,.sl 0 none 0 (some 0),.str ⟨⟨[]⟩⟩,.bool false]]])))=some r) :
  Af lo 296 [] h=some r :=
 eK Tryz.func296 hk
theorem Tk (hk:(Aj (Af h.length 15 [Aw x y,Aw z t] h) λl c=>eB l (some ((Aw z t),c)) (some ((Aw x y),c)))=some (v,h')) (hn:noId v=true:=by rfl) :
  Af lo 297 [Aw x y,Aw z t] h=some (v,h) :=
 eD Tryz.func297 hk hn
theorem GK (hk:(AA a (ES h a n c) c (some (Iv x)) (some (Iv y)) (some (Iv (n:Int))) λv v v=>br (x==y) (some (.sl 6 a n c,h)) (AA a n c none (some (Iv x)) none λv l o=>AA a n c (some (Iv y)) none none λs b z=>Av 6 h (.sl 6 s b z) λs=>Df lo 43 6 72 (.sl 6 v l o) s h λv l=>eS 6 v λv o s=>AA v (ES l v o s) s (some (Iv (o:Int))) (some (Iv (n:Int))) none λb z u=>ZO lo 6 6 true [Iv 0,Iv 0,Iv 0,.sl 0 none 0 (some 0),.str ⟨⟨[]⟩⟩,.bool false] l b z λl=>some (.sl 6 v o s,l)))=some r) :
  Af lo 298 [.sl 6 a n c,Iv x,Iv y] h=some r :=
 eK Tryz.func298 hk
theorem FO (hk:(AA a (ES h a n c) c (some (Iv x)) (some (Iv y)) (some (Iv (n:Int))) λv v v=>br (x==y) (some (.sl 2 a n c,h)) (AA a n c none (some (Iv x)) none λv l o=>AA a n c (some (Iv y)) none none λs b z=>Av 2 h (.sl 2 s b z) λs=>Df lo 47 2 48 (.sl 2 v l o) s h λv l=>eS 2 v λv o s=>AA v (ES l v o s) s (some (Iv (o:Int))) (some (Iv (n:Int))) none λb z u=>ZO lo 2 2 true [.sl 0 none 0 (some 0),.sl 0 none 0 (some 0)] l b z λl=>some (.sl 2 v o s,l)))=some r) :
  Af lo 299 [.sl 2 a n c,Iv x,Iv y] h=some r :=
 eK Tryz.func299 hk
theorem FN (hk:(Aj (Af lo 310 [.int .u64 (IntKind.wrap .u64 (n:Int))] h) λv o=>eI .i64 v λv=>Aj (Af lo 309 [.sl 6 a n c,Iv 0,Iv (n:Int),Iv v,.fn m l] o) λv o=>eU v λv=>eN v (some (.tup [],o)))=some r) :
  Af lo 300 [.sl 6 a n c,.fn m l] h=some r :=
 eK Tryz.func300 hk
theorem Mu {q:Int}{s0:ByteArray}{F:Bool} (hk:(Aj (Af h.length 70 [Aw y z,Aw w q] h) λl o=>eI .i64 l λl=>Aj (Af h.length 141 (Bh t x) o) λo s=>eI .i64 o λo=>Aj (Af h.length 140 [.sl 1 (some (s.length,0)) 2 (some 2)] (s ++ [.rows 1 3 false [AB l,AB o]])) λl o=>eI .i64 l λl=>some (Iv l,o))=some (v,h')) (hn:noId v=true:=by rfl) :
  Af lo 301 [AD x y z a n c S f,AD t w q b m p s0 F] h=some (v,h) :=
 eD Tryz.func301 hk hn
def IQ lo S x a n c h:=
 LA 306 Tryz.f306 221311 0 111 lo ⟨[(1,.lp 1 0),(3,.str S),(4,Iv x)],[(1,(Bq a n c))],h⟩
theorem IQ.e :
  IQ lo S x a n c h=br (decide (x<(n:Int))) (zce S ⟨⟨[32]⟩⟩ λv=>Ap x n (eO a λl=>eO (ld h l.1 (l.2+x.toNat) 0 2) λl=>eC l λl o=>eI .i64 l λl=>eC o λo s=>eI .i64 o λo=>eN s (Aj (Af lo 305 [Aw l o] h) λl o=>eT l λl=>zce v l λv=>IQ lo v (Am (x+1)) a n c o))) (some (.str S,h)) :=
 lE
theorem Vi (hk:(Aj (Af h.length 197 [Aw x y,Aw z t] h) λl c=>eB l (some ((Aw z t),c)) (some ((Aw x y),c)))=some (v,h')) (hn:noId v=true:=by rfl) :
  Af lo 307 [Aw x y,Aw z t] h=some (v,h) :=
 eD Tryz.func307 hk hn
end
noncomputable section

variable {lo n m:Nat}{a:Pq}{c:Nq}{x:Int}{l:List V}{h:Heap}{r:V×Heap}
def Bo lo a n c x m l h:=
 Lp (X 309) lo (pf 2211 Tryz.f309) 0 (A6 0 (Kt (X 309) Tryz.f309.results.toList)) ⟨[(0,.sl 6 a n c),(1,Iv 0),(2,Iv 0),(3,Iv x),(4,.fn m l),(10,.bool true),(11,.bool true)],[],h⟩
theorem FF (hk:(Bo lo a n c x m l h)=some r) :
  Af lo 309 [.sl 6 a n c,Iv 0,Iv 0,Iv x,.fn m l] h=some r :=
 eK Tryz.func309 hk
theorem Bo.e :
  Bo lo a n c x m l h=Aj (Af lo 314 [.sl 6 a n c,Iv 0,Iv 0,.fn m l] h) λv o=>eU v λv=>eN v (some (.tup [],o)) :=
 lE
def Bn lo a n c x m l h:=
 Lp (X 309) lo (pf 2211 Tryz.f309) 0 (A6 0 (Kt (X 309) Tryz.f309.results.toList)) ⟨[(0,.sl 6 a n c),(1,Iv 0),(2,Iv 1),(3,Iv x),(4,.fn m l),(10,.bool true),(11,.bool true)],[],h⟩
theorem FE (hk:(Bn lo a n c x m l h)=some r) :
  Af lo 309 [.sl 6 a n c,Iv 0,Iv 1,Iv x,.fn m l] h=some r :=
 eK Tryz.func309 hk
theorem Bn.e :
  Bn lo a n c x m l h=Aj (Af lo 314 [.sl 6 a n c,Iv 0,Iv 1,.fn m l] h) λv o=>eU v λv=>eN v (some (.tup [],o)) :=
 lE
def Bm lo a n c x m l h:=
 Lp (X 309) lo (pf 2211 Tryz.f309) 0 (A6 0 (Kt (X 309) Tryz.f309.results.toList)) ⟨[(0,.sl 6 a n c),(1,Iv 0),(2,Iv 2),(3,Iv x),(4,.fn m l),(10,.bool true),(11,.bool true)],[],h⟩
theorem FD (hk:(Bm lo a n c x m l h)=some r) :
  Af lo 309 [.sl 6 a n c,Iv 0,Iv 2,Iv x,.fn m l] h=some r :=
 eK Tryz.func309 hk
theorem Bm.e :
  Bm lo a n c x m l h=Aj (Af lo 314 [.sl 6 a n c,Iv 0,Iv 2,.fn m l] h) λv o=>eU v λv=>eN v (some (.tup [],o)) :=
 lE
def Bl lo a n c x m l h:=
 Lp (X 309) lo (pf 2211 Tryz.f309) 0 (A6 0 (Kt (X 309) Tryz.f309.results.toList)) ⟨[(0,.sl 6 a n c),(1,Iv 0),(2,Iv 3),(3,Iv x),(4,.fn m l),(10,.bool true),(11,.bool true)],[],h⟩
theorem FC (hk:(Bl lo a n c x m l h)=some r) :
  Af lo 309 [.sl 6 a n c,Iv 0,Iv 3,Iv x,.fn m l] h=some r :=
 eK Tryz.func309 hk
theorem Bl.e :
  Bl lo a n c x m l h=Aj (Af lo 314 [.sl 6 a n c,Iv 0,Iv 3,.fn m l] h) λv o=>eU v λv=>eN v (some (.tup [],o)) :=
 lE
def Bk lo a n c x m l h:=
 Lp (X 309) lo (pf 2211 Tryz.f309) 0 (A6 0 (Kt (X 309) Tryz.f309.results.toList)) ⟨[(0,.sl 6 a n c),(1,Iv 0),(2,Iv 4),(3,Iv x),(4,.fn m l),(10,.bool true),(11,.bool true)],[],h⟩
theorem FB (hk:(Bk lo a n c x m l h)=some r) :
  Af lo 309 [.sl 6 a n c,Iv 0,Iv 4,Iv x,.fn m l] h=some r :=
 eK Tryz.func309 hk
theorem Bk.e :
  Bk lo a n c x m l h=Aj (Af lo 314 [.sl 6 a n c,Iv 0,Iv 4,.fn m l] h) λv o=>eU v λv=>eN v (some (.tup [],o)) :=
 lE
theorem Qw {h':Heap}{v:V} (hk:(Aj (Af h.length 323 [.int .u64 x] h) λl c=>eI .i64 l λl=>some (Iv l,c))=some (v,h')) (hn:noId v=true:=by rfl) :
  Af lo 310 [.int .u64 x] h=some (v,h) :=
 eD Tryz.func310 hk hn
def Aq lo a n c x y m l z h:=
 Lp (X 314) lo (pf 221 Tryz.f314) 0 (A6 0 (Kt (X 314) Tryz.f314.results.toList)) ⟨[(0,.sl 6 a n c),(1,Iv x),(2,Iv y),(3,.fn m l),(8,Iv z)],[],h⟩
def AG lo a n c x y m l z t h:=
 Lp (X 314) lo (pf 221231221 Tryz.f314) 2 (A6 2 (A6 1 (kS (X 314) lo (pf 11221 Tryz.f314) 0 (WJ (X 314) lo (pf 221 Tryz.f314) 0 (A6 0 (Kt (X 314) Tryz.f314.results.toList)))))) ⟨[(0,.sl 6 a n c),(1,Iv x),(2,Iv y),(3,.fn m l),(8,Iv z),(9,Iv t)],[],h⟩
theorem Ff {y:Int} (hk:(Aq lo a n c x y m l (Am (x+1)) h)=some r) :
  Af lo 314 [.sl 6 a n c,Iv x,Iv y,.fn m l] h=some r :=
 eK Tryz.func314 hk
theorem Aq.e {z y:Int} :
  Aq lo a n c z y m l x h=br (decide (x<y)) (AG lo a n c z y m l x x h) (some (.tup [],h)) :=
 lE
theorem AG.e {lo n m:Nat}{a:Pq}{c:Nq}{y z t x:Int}{l:List V}{h:Heap} :
  AG lo a n c y z m l t x h=br (decide (x>y)) (Ap x n (eO a λv=>eO (ld h v.1 (v.2+x.toNat) 0 6) λv=>eC v λv o=>eI .i64 v λv=>eC o λo s=>eI .i64 o λo=>eC s λs b=>eI .i64 s λs=>eC b λb u=>eS 2 b λb w p=>eC u λu q=>eT u λu=>eC q λq g=>eBv q λq=>eN g (Ap (Am (x - 1)) n (eO a λg=>eO (ld h g.1 (g.2+((Am (x - (1:Int))).toNat)) 0 6) λg=>eC g λg i=>eI .i64 g λg=>eC i λi j=>eI .i64 i λi=>eC j λj k=>eI .i64 j λj=>eC k λk d=>eS 2 k λk e f=>eC d λd A=>eT d λd=>eC A λA B=>eBv A λA=>eN B (Aj (Af lo m (CQ [AD v o s b w p u q,AD g i j k e f d A] l) h) λv o=>eI .i64 v λv=>br (decide (v<0)) (Ap (Am (x - 1)) n (eO a λv=>eO (ld o v.1 (v.2+((Am (x - (1:Int))).toNat)) 0 6) λv=>eC v λv s=>eI .i64 v λv=>eC s λs b=>eI .i64 s λs=>eC b λb u=>eI .i64 b λb=>eC u λu w=>eS 2 u λu p q=>eC w λw g=>eT w λw=>eC g λg i=>eBv g λg=>eN i (Ap x n (eO a λi=>eO (ld o i.1 (i.2+x.toNat) 0 6) λi=>eC i λi j=>eI .i64 i λi=>eC j λj k=>eI .i64 j λj=>eC k λk d=>eI .i64 k λk=>eC d λd e=>eS 2 d λd f A=>eC e λe B=>eT e λe=>eC B λB C=>eBv B λB=>eN C (Ap x n (eO a λC=>eO (st lo o C.1 (C.2+x.toNat) 0 (C4 v s b u p q w g)) λv=>Ap (Am (x - 1)) n (eO a λs=>eO (st lo v s.1 (s.2+((Am (x - (1:Int))).toNat)) 0 (C4 i j k d f A e B)) λv=>AG lo a n c y z m l t (Am (x - 1)) v))))))) (Aq lo a n c y z m l (Am (t+1)) o)))))) (Aq lo a n c y z m l (Am (t+1)) h) :=
 lE
theorem Ow {h':Heap}{v:V} (hk:(br (decide (x>=4294967296)) none (br (decide (x>=65536)) none (br (decide (x>=256)) none (eO (PP ⟨⟨[0,1,2,2,3,3,3,3,4,4,4,4,4,4,4,4,5,5,5,5,5,5,5,5,5,5,5,5,5,5,5,5,6,6,6,6,6,6,6,6,6,6,6,6,6,6,6,6,6,6,6,6,6,6,6,6,6,6,6,6,6,6,6,6,7,7,7,7,7,7,7,7,7,7,7,7,7,7,7,7,7,7,7,7,7,7,7,7,7,7,7,7,7,7,7,7,7,7,7,7,7,7,7,7,7,7,7,7,7,7,7,7,7,7,7,7,7,7,7,7,7,7,7,7,7,7,7,7,8,8,8,8,8,8,8,8,8,8,8,8,8,8,8,8,8,8,8,8,8,8,8,8,8,8,8,8,8,8,8,8,8,8,8,8,8,8,8,8,8,8,8,8,8,8,8,8,8,8,8,8,8,8,8,8,8,8,8,8,8,8,8,8,8,8,8,8,8,8,8,8,8,8,8,8,8,8,8,8,8,8,8,8,8,8,8,8,8,8,8,8,8,8,8,8,8,8,8,8,8,8,8,8,8,8,8,8,8,8,8,8,8,8,8,8,8,8,8,8,8,8,8,8,8,8,8,8]⟩⟩ (IntKind.wrap .u8 x)) λl=>some (Iv (Am (0+(Am ((l.toNat:Int))))),h)))))=some (v,h')) (hn:noId v=true:=by rfl) :
  Af lo 323 [.int .u64 x] h=some (v,h) :=
 eD Tryz.func323 hk hn
end


structure Tag where
 time:Int
 place:Int
 deriving DecidableEq
def Tag.cs (t:Tag):List V := [Iv t.time,Iv t.place]
def Ai (n a b:Int):Bool:=decide (a<=n)&&decide (n<=b)
def B8 (t:Int) (p:Int):Bool:=(t==0&&p==0) || (Ai t 1 999&&Ai p 0 2)
def FM (t p t' p':Int):Bool:=decide (t<t') || (t==t'&&decide (p<p'))
section
variable {lo:Nat}{h:Heap}{a b c d e:Int}
theorem A8:Af lo 63 [Iv a,Iv b,Iv c] h=some (.bool (Ai a b c),h) :=
 Tg (h':=h) (by simp[Ai])
theorem Ca:Af lo 54 [Iv a,Iv b,Iv c] h=some (.bool (Ai a b c),h) :=
 WI (h':=h) (by simp[Ai])
theorem DF:Af lo 62 [Iv a] h=some (.bool (Ai a 0 2),h):=Sq (h':=h) (by simp[A8])
theorem HM:Af lo 202 [Iv a] h=some (.bool (Ai a 0 3),h):=Vm (h':=h) (by simp[A8])
theorem KU:Af lo 144 [.agg [Iv a,Iv b]] h=some (.bool (B8 a b),h) :=
 Vp (h':=h) (by simp[A8,DF,B8])
theorem Ci:Af lo 197 [.agg [Iv a,Iv b],.agg [Iv c,Iv d]] h=some (.bool (FM a b c d),h) :=
 Tb (h':=h) (by simp[FM])
theorem Q5 {t p:Int} (h:B8 t p=true):(!(t==0&&p==0))=decide (t>0):=by rw[zed];simp[B8,Ai] at h ⊢;omega
def Bz {α:Type} (p:α->Bool):List α->Nat->Int
 | [],_ => -1
 | x :: r,k=>bif p x then (k:Int) else Bz p r (k+1)
theorem Fa {α:Type}{p:α->Bool}:∀ {l:List α}{k:Nat},decide (Bz p l k>=0)=l.any p
 | [],k=>by simp[Bz]
 | x :: r,k=>by
  simp only[Bz,List.any_cons];by_cases h:p x=true
  ·simp[h]
  ·simpa [h] using Fa (p:=p) (l:=r) (k:=k+1)
def HQ (a b:Int):Int:=if a<b then -1 else if b<a then 1 else 0
theorem ZJ:Af lo 213 [Iv a] h=some (.bool false,h):=QI (h':=h) (by simp)
theorem Qf:Af lo 141 [Iv a,Iv b] h=some (Iv (HQ a b),h) :=
 OP (h':=h) (by
  simp only[ZJ,Ac,At,Ax];unfold HQ;by_cases h1:a<b
  ·rw[Al h1,if_pos h1]
  ·rw[Ak h1,if_neg h1];by_cases h2:b<a
   ·rw[Al h2,if_pos h2]
   ·rw[Ak h2,if_neg h2])
theorem R7:Af lo 140 [.sl 1 (some (h.length,0)) 2 (some 2)] (h ++ [.rows 1 3 false [[Iv a],[Iv b]]])=some (Iv (if a=0 then b else a),h ++ [.rows 1 3 false [[Iv a],[Iv b]]]) :=
 Vq (h':=h ++ [.rows 1 3 false [[Iv a],[Iv b]]]) (by
  rw[DT.e,Al (by decide),Cm (by decide)];simp only[Ad];rw[Uz (row := [Iv a]) (by rfl)];simp only[cut,Ad,Aa,Ah,Ab];by_cases h1:a=0
  ·subst h1;rw[if_pos rfl,show ((0:Int)==0)=true from rfl,Ao,show Am (0+1)=((1:Nat):Int) from Ar (k:=0) (by decide),DT.e,Al (by decide),Cm (by decide)];simp only[Ad];rw[Uz (row := [Iv b]) (by rfl)];simp only[cut,Ad,Aa,Ah,Ab];by_cases h2:b=0
   ·subst h2;rw[show ((0:Int)==0)=true from rfl,Ao,show Am (((1:Nat):Int)+1)=((2:Nat):Int) from Ar (k:=1) (by decide),DT.e,Ak (by decide)]
   ·rw[show (b==0)=false by simpa using h2,Ax]
  ·rw[if_neg h1,show (a==0)=false by simpa using h1,Ax])
theorem NZ:Af lo 70 [.agg [Iv a,Iv b],.agg [Iv c,Iv d]] h=some (Iv (if HQ a c=0 then HQ b d else HQ a c),h) :=
 Nn (h':=h ++ [.rows 1 3 false [[Iv (HQ a c)],[Iv (HQ b d)]]]) (by
  simp only[Qf,Ac,Ab,R7])
theorem zaX:decide ((if HQ a c=0 then HQ b d else HQ a c)<0)=FM a b c d:=by
 unfold HQ FM;by_cases h1:a<c
 ·simp[h1]
 ·by_cases h2:c<a
  ·simp[h1,h2];omega
  ·have:a=c:=by omega
   subst this;by_cases h3:b<d
   ·simp[h3]
   ·simp[h3];split<;>simp
theorem Ey:Af lo 15 [.agg [Iv a,Iv b],.agg [Iv c,Iv d]] h=some (.bool (FM a b c d),h) :=
 Sv (h':=h) (by simp only[NZ,Ac,Ab,KZ,zaX];simp)
end
end Go.Proofs.YtmgopagfoemomaaGreat
namespace Go.Proofs.YtmgopagfoemomaaGreat.T
open Go
variable {h:Heap}{b n:Nat}
def zat (P:Program) (g:TypeId->Bool):List Field->Nat->Nat->Bool
 | [],off,n=>Nat.beq off n
 | f :: fs,off,n=>match Nat.beq f.offset off&&g f.type with
  | true=>zat P g fs (off+P.cellsOf f.type) n
  | false=>false
def Qj (P:Program):Nat->TypeId->Bool
 | 0,_=>false
 | n+1,t=>match P.underlying t with
  | some .bool=>Nat.beq (P.cellsOf t) 1
  | some (.int _)=>Nat.beq (P.cellsOf t) 1
  | some .string=>Nat.beq (P.cellsOf t) 1
  | some (.slice e)=>Nat.beq (P.cellsOf t) 1&&Nat.blt 0 (P.cellsOf e)&&Qj P n e
  | some (.struct fs)=>zat P (Qj P n) fs.toList 0 (P.cellsOf t)
  | _=>false
def TVs (P:Program) (g:TypeId->List V->Prop):List Field->List V->Prop
 | [],xs=>xs = []
 | f :: fs,xs=>∃ ys zs,xs=ys++zs/\ys.length=P.cellsOf f.type/\g f.type ys/\TVs P g fs zs
def TV (P:Program) (h:Heap):Nat->TypeId->List V->Prop
 | 0,_,_=>False
 | n+1,t,xs=>match P.underlying t with
  | some .bool=>∃ b,xs = [.bool b]
  | some (.int k)=>∃ i,xs = [.int k i]/\(Lit.int k i).wf=true
  | some .string=>∃ s,xs = [.str s]/\s.size<=maxLen
  | some (.slice e)=>∃ a c rs,xs = [.sl (P.cellsOf e) a rs.length c]/\(rs.length<=maxLen/\∀ k,c=some k->rs.length<=k)/\(∀ row∈rs,row.length=P.cellsOf e/\TV P h n e row) /\
    (rs = []\/∃ b,a=some (b,0)/\Heap.rows? h b=some rs)
  | some (.struct fs)=>TVs P (TV P h n) fs.toList xs
  | _=>False
theorem Z5 {h':Heap} (hp:h <+: h') {rs:List (List V)} (hb:Heap.rows? h b=some rs):Heap.rows? h' b=some rs:=by
 obtain ⟨t,rfl⟩:=hp;unfold Heap.rows? at hb ⊢;have hl:b<h.length:=by apply zeF;intro hle;rw[zdQ hle] at hb;cases hb
 rw[zde hl];exact hb
theorem TVs.imp {P:Program}{g g':TypeId->List V->Prop} (hg:∀ t xs,g t xs->g' t xs):∀ {fs:List Field}{xs:List V},TVs P g fs xs->TVs P g' fs xs
 | [],xs,h=>h
 | f :: fs,xs,⟨ys,zs,h1,h2,h3,h4⟩=>⟨ys,zs,h1,h2,hg _ _ h3,TVs.imp hg h4⟩
theorem TV.mono {P:Program}{h h':Heap} (hp:h <+: h'):∀ (n:Nat) (t:TypeId) (xs:List V),TV P h n t xs->TV P h' n t xs
 | 0,_,_,hx=>hx
 | n+1,t,xs,hx=>by
  simp only[TV] at hx ⊢;split at hx
  ·exact hx
  ·exact hx
  ·exact hx
  ·obtain ⟨a,c,rs,h1,h2,h3,h4⟩:=hx;exact ⟨a,c,rs,h1,h2,λrow hr=>⟨(h3 row hr).1,TV.mono hp n _ _ (h3 row hr).2⟩,h4.imp id λ⟨b,h5,h6⟩=>⟨b,h5,Z5 hp h6⟩⟩
  ·exact TVs.imp (λt xs=>TV.mono hp n t xs) hx
  ·exact hx
theorem UN {xs ys:List V} (h1:DJ xs=true) (h2:DJ ys=true):DJ (xs++ys)=true:=by
 induction xs with
 | nil=>exact h2
 | cons x r ih =>
  simp only[zdO,DJ] at h1 ⊢;split at h1
  ·exact ih h1
  ·cases h1
theorem TVs.firm {P:Program}{g:TypeId->List V->Prop} (hg:∀ t xs,g t xs->DJ xs=true):∀ {l:List Field}{xs:List V},TVs P g l xs->DJ xs=true
 | [],xs,h=>by simp only[TVs] at h;subst h;rfl
 | f :: l,xs,⟨ys,zs,e,_,h3,h4⟩=>by subst e;exact UN (hg _ _ h3) (TVs.firm hg h4)
theorem TV.firm {P:Program}{h:Heap}:∀ (n:Nat) (t:TypeId) (xs:List V),TV P h n t xs->DJ xs=true
 | 0,_,_,hx=>hx.elim
 | n+1,t,xs,hx=>by
  simp only[TV] at hx;split at hx
  ·obtain ⟨b,rfl⟩:=hx;rfl
  ·obtain ⟨i,rfl,_⟩:=hx;rfl
  ·obtain ⟨s,rfl,_⟩:=hx;rfl
  ·obtain ⟨a,c,rs,rfl,_⟩:=hx;rfl
  ·exact TVs.firm (λt xs=>TV.firm n t xs) hx
  ·exact hx.elim
structure Imp (W:World) (ρ:Rho) (h:Heap):Prop where
 rel:HRel ρ h W
 ro:∀ b,b<h.length->Cd h b\/RF h b
theorem Xu {k:Blk} (hb:b<h.length) (hd:Cd h b):Cd (h ++ [k]) b:=by unfold Cd at *;rw[zde hb];exact hd
theorem zar {k:Blk} (hb:b<h.length) (hd:RF h b):RF (h ++ [k]) b:=by obtain ⟨R,e,rs,h1⟩:=hd;exact ⟨R,e,rs,by rw[zde hb];exact h1⟩
theorem Imp.lay {W:World}{ρ:Rho} (hi:Imp W ρ h) (k:Blk) (e:E) (hlt:e.r<W.heap.size) (hk:BR ρ e k W) (hro:k = .dead\/∃ R e rs,k = .rows R e true rs) :
  Imp W (ρ.set h.length e) (h ++ [k]):=by
 have hle:Rle ρ (ρ.set h.length e):=Rho.set_le hi.rel.fresh;have hnew:Cd (h ++ [k]) h.length\/RF (h ++ [k]) h.length:=by
  rcases hro with rfl | ⟨R,t,rs,rfl⟩
  ·exact .inl (by simp[Cd])
  ·exact .inr ⟨R,t,rs,by simp⟩
 have hall:∀ b,b<(h ++ [k]).length->Cd (h ++ [k]) b\/RF (h ++ [k]) b:=λb hb=>by
  by_cases hx:b=h.length
  ·subst hx;exact hnew
  ·have:b<h.length:=by simp at hb;omega
   exact (hi.ro b this).imp (Xu this) (zar this)
 have hdom:∀ b e',(ρ.set h.length e) b=some e'->b<(h ++ [k]).length/\e'.r<W.heap.size:=λb e' hb=>by
  by_cases hx:b=h.length
  ·subst hx;rw[Rho.set_same] at hb;injection hb with hb;subst hb;exact ⟨by simp,hlt⟩
  ·rw[Rho.set_other hx] at hb;have:=hi.rel.dom b e' hb;exact ⟨by simp;omega,by omega⟩
 refine ⟨⟨hdom,λb e' k' hb hk'=>?_,λb b' e1 e2 h1 h2 hr hne=>?_⟩,hall⟩
 ·by_cases hx:b=h.length
  ·subst hx;rw[Rho.set_same] at hb;injection hb with hb;subst hb;simp at hk';subst hk';exact BR.mono hle rfl hk
  ·rw[Rho.set_other hx] at hb;have:=(hi.rel.dom b e' hb).1;rw[zde this] at hk';exact BR.mono hle rfl (hi.rel.blk b e' k' hb hk')
 ·have g1:=hall b (hdom b e1 h1).1;have g2:=hall b' (hdom b' e2 h2).1;rcases g1 with g1 | g1
  ·exact .inl g1
  ·rcases g2 with g2 | g2
   ·exact .inr (.inl g2)
   ·exact .inr (.inr ⟨g1,g2⟩)
section
variable {P:Program}{W:World}{H:Type}{enc:TypeId×Value->H}
theorem Sa {base:Nat}{a:Addr}{cs:List Value} (h:W.cells? base a n=some cs):cs.length=n/\∀ (i:Nat) (c:Value),cs[i]?=some c->W.cell? (a.add i)=some c:=by
 unfold World.cells? at h;split at h
 ·have hl:cs.length=n:=by simpa using mapM_some_length h
  refine ⟨hl,λi c hc=>?_⟩;have hi:i<n:=by have:=(zdc.1 hc).1;omega
  have:=mapM_some_get h i i (by simp[hi]);rw[this,hc]
 ·cases h
theorem XU {a:Addr}{c:Value} (h:W.cell? a=some c):∃ cs el fr,W.heap[a.block]?=some (.cells cs el fr)/\a.spot=none/\cs[a.off]?=some c:=by
 unfold World.cell? at h;split at h
 ·rename_i cs el fr he
  split at h
  ·cases h
  ·rename_i hs;exact ⟨cs,el,fr,he,by simpa using hs,h⟩
 ·cases h
def zcC (P:Program) (W:World) (n:Nat) (t:TypeId) (cs:List Value):Prop :=
 ∀ ρ h,Imp W ρ h->∃ (ρ':Rho) (h':Heap) (xs:List V),Rle ρ ρ'/\h <+: h'/\Imp W ρ' h'/\VRs ρ' xs cs/\TV P h' n t xs
theorem TP {n:Nat}{t:TypeId}{R:Nat}:∀ (css:List (List Value)),(∀ cs∈css,cs.length=R/\zcC P W n t cs)->∀ ρ h,Imp W ρ h ->
  ∃ (ρ':Rho) (h':Heap) (rs:List (List V)),Rle ρ ρ'/\h <+: h'/\Imp W ρ' h'/\rs.length=css.length/\(∀ (i:Nat) (row:List V),rs[i]?=some row->∃ cs,css[i]?=some cs/\VRs ρ' row cs/\row.length=R/\TV P h' n t row)
 | [],_,ρ,h,hi=>⟨ρ,h,[],Rle.refl _,zeQ _,hi,rfl,λi row hr=>by simp at hr⟩
 | cs :: css,hc,ρ,h,hi=>by
  obtain ⟨ρ1,h1,xs,a1,a2,a3,a4,a5⟩:=(hc cs (by simp)).2 ρ h hi;obtain ⟨ρ2,h2,rs,b1,b2,b3,b4,b5⟩:=TP css (λc hcc=>hc c (by simp[hcc])) ρ1 h1 a3;refine ⟨ρ2,h2,xs :: rs,a1.trans b1,a2.trans b2,b3,by simp[b4],λi row hr=>?_⟩;cases i with
  | zero =>simp at hr;subst hr;exact ⟨cs,rfl,VRs.mono b1 _ _ a4,by rw[a4.length];exact (hc cs (by simp)).1,TV.mono b2 _ _ _ a5⟩
  | succ i =>simp at hr;obtain ⟨c,g1,g2⟩:=b5 i row hr;exact ⟨c,by simpa using g1,g2⟩
theorem P6 {n:Nat}{cs:List Value}:∀ (fs:List Field) (off:Nat),zat P (Qj P n) fs off cs.length=true->(∀ f∈fs,Qj P n f.type=true->zcC P W n f.type ((cs.drop f.offset).take (P.cellsOf f.type)))->∀ ρ h,Imp W ρ h ->
  ∃ (ρ':Rho) (h':Heap) (xs:List V),Rle ρ ρ'/\h <+: h'/\Imp W ρ' h'/\VRs ρ' xs (cs.drop off)/\TVs P (TV P h' n) fs xs/\off<=cs.length
 | [],off,hin,_,ρ,h,hi=>by simp only[zat] at hin;have:=zdi hin;exact ⟨ρ,h,[],Rle.refl _,zeQ _,hi,by rw[zdV (by omega)];exact VRs.nil,rfl,by omega⟩
 | f :: fs,off,hin,hl,ρ,h,hi=>by
  simp only[zat] at hin;split at hin
  ·rename_i hc
   simp only[zdo] at hc;have ho:=zdi hc.1;obtain ⟨ρ1,h1,xs,a1,a2,a3,a4,a5⟩:=hl f (by simp) hc.2 ρ h hi;obtain ⟨ρ2,h2,ys,b1,b2,b3,b4,b5,b6⟩:=P6 fs (off+P.cellsOf f.type) hin (λg hg=>hl g (by simp[hg])) ρ1 h1 a3;rw[ho] at a4;have hlen:=a4.length;refine ⟨ρ2,h2,xs++ys,a1.trans b1,a2.trans b2,b3,?_,⟨xs,ys,rfl,?_,TV.mono b2 _ _ _ a5,b5⟩,by omega⟩
   ·have:=(VRs.mono b1 _ _ a4).append b4;rwa [<- zey,zdG] at this
   ·rw[hlen];simp;omega
  ·cases hin
theorem zcV:∀ (n:Nat) (t:TypeId),Qj P n t=true->∀ (fuel:Nat) (cs:List Value) (x:DataW H×List MemPlace),DataW.trod enc P W 0 (λ_=>true) true fuel t cs=some x ->
  (∀ a l c,Value.slice (some a) l c∈cs->0<W.heap.size)->zcC P W n t cs:=by
 intro n;induction n with
 | zero=>intro t h;simp[Qj] at h
 | succ n ih =>
  intro t hin fuel cs x hx hpos ρ h hi;simp only[Qj] at hin;split at hin
  ·rename_i hu
   obtain ⟨b,rfl,_⟩:=DataW.trod_bool hu hx;exact ⟨ρ,h,[.bool b],Rle.refl _,zeQ _,hi,VRs.cons VR.bool' VRs.nil,by simp only[TV,hu];exact ⟨b,rfl⟩⟩
  ·rename_i k hu
   obtain ⟨i,rfl,_,hw⟩:=DataW.trod_int hu hx;exact ⟨ρ,h,[.int k i],Rle.refl _,zeQ _,hi,VRs.cons VR.int' VRs.nil,by simp only[TV,hu];exact ⟨i,rfl,hw⟩⟩
  ·rename_i hu
   obtain ⟨s,rfl,_,hw⟩:=DataW.trod_string hu hx;exact ⟨ρ,h,[.str s],Rle.refl _,zeQ _,hi,VRs.cons (by simp[VR]) VRs.nil,by simp only[TV,hu];exact ⟨s,rfl,hw⟩⟩
  ·rename_i e hu
   simp only[zdo] at hin;have hR:0<P.cellsOf e:=by have:=hin.1.2;simpa [zeE] using this
   rcases DataW.trod_slice hu hx with ⟨rfl,_⟩ | ⟨a,len,cap,elems,rest,m,rfl,rfl,_,_,hlc,hcm,hel,hg,hsp,_⟩
   ·exact ⟨ρ,h,[.sl (P.cellsOf e) none 0 (some 0)],Rle.refl _,zeQ _,hi,VRs.cons (by simp[VR]) VRs.nil,by
     simp only[TV,hu];exact ⟨none,some 0,[],rfl,⟨zdA _,λ_ _=>zdA _⟩,λr hr=>(by cases hr),.inl rfl⟩⟩
   ·-- the rows
    have hrow:∀ i,i<len->∃ c y,W.cells? 0 (a.add (i*P.cellsOf e)) (P.cellsOf e)=some c/\DataW.trod enc P W 0 (λ_=>true) true m e c=some y:=λi hi'=>by have h1:=hg i hi';rw[zds (by omega)] at h1;obtain ⟨c,h2,h3⟩:=zeh.1 h1;exact ⟨c,_,h2,h3⟩
    have hspare:∀ j,len+j<cap->∃ c,W.cells? 0 (a.add ((len+j)*P.cellsOf e)) (P.cellsOf e)=some c:=λj hj=>by obtain ⟨h0,h1⟩:=hsp rfl;have h1:=h1 j (by omega);rw[zds (by omega)] at h1;obtain ⟨c,h2,_⟩:=zeh.1 h1;exact ⟨c,h2⟩
    by_cases hcap:cap=0
    ·-- no room at all
     subst hcap;have hl0:len=0:=by omega
     subst hl0;have hp:=hpos a 0 0 (by simp);have hi2:=hi.lay .dead ⟨0,0,P.cellsOf e,0,0⟩ hp trivial (.inl rfl);refine ⟨_,_,[.sl (P.cellsOf e) (some (h.length,0)) 0 (some 0)],Rho.set_le hi.rel.fresh,⟨_,rfl⟩,hi2,VRs.cons ?_ VRs.nil,?_⟩
     ·simp only[VR];exact ⟨_,a,0,Rho.set_same _ _ _,rfl,rfl,.inl rfl,zdb _,λy hy=>by injection hy,λhc=>by cases hc⟩
     ·simp only[TV,hu];exact ⟨_,_,[],rfl,⟨zdA _,λ_ _=>zdA _⟩,λr hr=>(by cases hr),.inl rfl⟩
    ·-- the block
     have hblk:∃ carr el fr,W.heap[a.block]?=some (.cells carr el fr)/\a.spot=none:=by
      have:∃ c,W.cells? 0 (a.add (0*P.cellsOf e)) (P.cellsOf e)=some c:=by
       by_cases hl0:len=0
       ·have:=hspare 0 (by omega);rw[hl0] at this;simpa using this
       ·obtain ⟨c,_,h2,_⟩:=hrow 0 (by omega);exact ⟨c,h2⟩
      obtain ⟨c,hc⟩:=this;obtain ⟨c1,c2⟩:=Sa hc;have h0:c[0]?=some c[0]:=zds (by omega);obtain ⟨carr,el,fr,h1,h2,_⟩:=XU (c2 0 _ h0);have e1:(a.add (0*P.cellsOf e)).add 0=a:=by simp[Addr.add]
      rw[e1] at h1 h2;exact ⟨carr,el,fr,h1,h2⟩
     obtain ⟨carr,el,fr,hW,hspot⟩:=hblk;obtain ⟨r,o,sp⟩:=a;simp only at hW hspot;subst hspot;have hlt:r<W.heap.size:=by apply zeF;intro hle;rw[Array.getElem?_eq_none hle] at hW;cases hW
     have hcells:∀ i,i<len->∃ c y,c.length=P.cellsOf e/\(∀ (j:Nat) (v:Value),c[j]?=some v->carr[o+(i*P.cellsOf e+j)]?=some v)/\DataW.trod enc P W 0 (λ_=>true) true m e c=some y:=λi hi'=>by obtain ⟨c,y,h1,h2⟩:=hrow i hi';obtain ⟨c1,c2⟩:=Sa h1;refine ⟨c,y,c1,λj v hv=>?_,h2⟩;have:=c2 j v hv;rw[Gf,Gf,Mk hW] at this;rw[<- this];congr 1;omega
     have hall:∃ css:List (List Value),css.length=len/\∀ i,i<len->∃ c y,css[i]?=some c/\c.length=P.cellsOf e/\(∀ (j:Nat) (v:Value),c[j]?=some v->carr[o+(i*P.cellsOf e+j)]?=some v)/\DataW.trod enc P W 0 (λ_=>true) true m e c=some y:=by refine ⟨(List.range len).map λi=>if hi':i<len then (hcells i hi').choose else [],by simp,λi hi'=>?_⟩;obtain ⟨y,h1,h2,h3⟩:=(hcells i hi').choose_spec;exact ⟨_,y,by simp[hi'],h1,h2,h3⟩
     obtain ⟨css,hcl,hcs⟩:=hall;obtain ⟨ρ1,h1,rs,a1,a2,a3,a4,a5⟩:=TP (P:=P) (W:=W) (n:=n) (t:=e) (R:=P.cellsOf e) css (λc hc=>by
      obtain ⟨i,hi'⟩:=zdu.1 hc;have hlt:=(zdc.1 hi').1;obtain ⟨c',y,g1,g2,g3,g4⟩:=hcs i (by omega);rw[hi'] at g1;injection g1 with g1;subst g1;exact ⟨g2,ih e hin.2 m c y g4 λ_ _ _ _=>by omega⟩) ρ h hi
     by_cases hl0:len=0
     ·have hrs:rs = []:=zdh (by omega);subst hrs;have hi2:=a3.lay .dead ⟨r,o,P.cellsOf e,0,0⟩ hlt trivial (.inl rfl);refine ⟨_,_,[.sl (P.cellsOf e) (some (h1.length,0)) 0 (some cap)],a1.trans (Rho.set_le a3.rel.fresh),a2.trans ⟨_,rfl⟩,hi2,VRs.cons ?_ VRs.nil,?_⟩
      ·simp only[VR];exact ⟨_,⟨r,o,none⟩,cap,Rho.set_same _ _ _,rfl,by rw[hl0],.inr (by simp),by omega,λy hy=>by injection hy,λhc=>by cases hc⟩
      ·simp only[TV,hu];exact ⟨_,_,[],rfl,⟨zdA _,λ_ _=>zdA _⟩,λr hr=>(by cases hr),.inl rfl⟩
     ·have hrl:rs.length=len:=by omega
      have hbr:BR ρ1 ⟨r,o,P.cellsOf e,rs.length,rs.length⟩ (.rows (P.cellsOf e) el true rs) W:=by
       refine ⟨carr,fr,?_,λh=>(by cases h),rfl,rfl,zdb _,?_,λi row hr=>?_,.inr ⟨rfl,λj c g1 g2 g3=>?_⟩⟩
       ·exact hW
       ·obtain ⟨c,y,g1,g2,g3,_⟩:=hcs (len - 1) (by omega);have:=g3 (P.cellsOf e - 1) _ (zds (by omega));have hb:=(zei.1 this).1;have e1:rs.length*P.cellsOf e=(len - 1)*P.cellsOf e+P.cellsOf e:=by rw[hrl,<- Nat.succ_mul];congr 1;omega
        show o+rs.length*P.cellsOf e<=carr.size;omega
       ·obtain ⟨c,g1,g2,g3,_⟩:=a5 i row hr;refine ⟨g3,λj v hv=>?_⟩;have hlt:=(zdc.1 hr).1;obtain ⟨c',y,k1,k2,k3,_⟩:=hcs i (by omega);rw[g1] at k1;injection k1 with k1;subst k1;obtain ⟨z,z1,z2⟩:=g2.get j v hv;exact ⟨z,k3 j z z1,z2⟩
       ·obtain ⟨q,hq⟩:∃ q,j=o+q:=⟨j - o,by simp only at g1;omega⟩;have hq2:q<rs.length*P.cellsOf e:=by simp only at g2;omega
        have hdiv:q / P.cellsOf e<rs.length:=(Nat.div_lt_iff_lt_mul hR).2 hq2;have hmod:q % P.cellsOf e<P.cellsOf e:=Nat.mod_lt _ hR;have hqq:q=q / P.cellsOf e*P.cellsOf e+q % P.cellsOf e:=by rw[Nat.mul_comm];exact (Nat.div_add_mod q _).symm
        obtain ⟨c0,k1,k2,k3,k4⟩:=a5 (q / P.cellsOf e) _ (zds hdiv);obtain ⟨c',y,l1,l2,l3,_⟩:=hcs (q / P.cellsOf e) (by omega);rw[k1] at l1;injection l1 with l1;subst l1;have hz:=l3 (q % P.cellsOf e) _ (zds (by omega));rw[<- hqq,<- hq,g3] at hz;injection hz with hz;rw[hz];exact C8 k2 (TV.firm _ _ _ k4) _ (zc7 _)
      have hi2:=a3.lay (.rows (P.cellsOf e) el true rs) ⟨r,o,P.cellsOf e,rs.length,rs.length⟩ hlt hbr (.inr ⟨_,_,_,rfl⟩);refine ⟨_,_,[.sl (P.cellsOf e) (some (h1.length,0)) rs.length (some cap)],a1.trans (Rho.set_le a3.rel.fresh),a2.trans ⟨_,rfl⟩,hi2,VRs.cons ?_ VRs.nil,?_⟩
      ·simp only[VR];exact ⟨_,⟨r,o,none⟩,cap,Rho.set_same _ _ _,rfl,by rw[hrl],.inr (by simp),by omega,λy hy=>by injection hy,λhc=>by cases hc⟩
      ·simp only[TV,hu];refine ⟨_,_,rs,rfl,⟨by omega,λk hk=>by injection hk with hk;omega⟩,λrow hr=>?_,.inr ⟨_,rfl,by simp[Heap.rows?]⟩⟩;obtain ⟨i,hi'⟩:=zdu.1 hr;obtain ⟨c,_,_,g3,g4⟩:=a5 i row hi';exact ⟨g3,TV.mono ⟨_,rfl⟩ _ _ _ g4⟩
  ·rename_i fs hu
   obtain ⟨xs,m,rfl,_,hl,hxl,hf⟩:=DataW.trod_struct hu hx;rw[<- hl] at hin;obtain ⟨ρ',h',ys,b1,b2,b3,b4,b5,_⟩:=P6 (P:=P) (W:=W) (n:=n) (cs:=cs) fs.toList 0 hin (λf hfm hft=>by
    obtain ⟨i,hi'⟩:=zdu.1 hfm;have hi2:fs[i]?=some f:=by simpa using hi'
    have h1:=hf i f hi2;have hlt:i<xs.length:=by have:=(zei.1 hi2).1;omega
    rw[zds hlt] at h1;exact ih f.type hft m _ _ h1 λa l c hm=>hpos a l c (List.mem_of_mem_drop (zev hm))) ρ h hi
   exact ⟨ρ',h',ys,b1,b2,b3,by simpa using b4,by simp only[TV,hu];exact b5⟩
  ·cases hin
end
end Go.Proofs.YtmgopagfoemomaaGreat.T
namespace Go.Proofs.YtmgopagfoemomaaGreat.T
open Go Go.RowKit
variable {r:Reach}{base:Nat}{a:Addr}{n:Nat}{h:Heap}
section
variable {P:Program}{W:World}{H:Type}{enc:TypeId×Value->H}
theorem Xj {e:TypeId} (h:W.has P r base a e n):0<W.heap.size:=by obtain ⟨_,_,row,cells,hs,_⟩:=h;unfold World.shape? at hs;apply zeF;intro hle;rw[Array.getElem?_eq_none (by omega)] at hs;cases hs
theorem PZ {u:TypeId}{l c:Nat} (h:Cell.okWide P W r base u (.slice (some a) l c)):0<W.heap.size:=by
 have h2:Cell.ok P W r base u (.slice (some a) l c):=by unfold Cell.okWide at h;split at h<;>simp_all
 unfold Cell.ok at h2;split at h2<;>simp_all
 exact Xj h2.2.2
theorem Uu {t:TypeId}{v:Value} (h:Value.okWide P W r base t v) {l c:Nat} (hm:Value.slice (some a) l c∈v.cells.toList):0<W.heap.size:=by
 have row:∀ cs:Array Value,Row.okWide P W r base t cs->v = .agg cs->0<W.heap.size:=λcs hr hv=>by subst hv;obtain ⟨ts,_,_,h3⟩:=hr;simp[Value.cells] at hm;obtain ⟨i,hi⟩:=Array.mem_iff_getElem?.1 hm;obtain ⟨u,_,hu⟩:=h3 i _ hi;exact PZ hu
 unfold Value.okWide at h;split at h
 ·obtain ⟨cs,hv,_,hr⟩:=h;exact row cs hr hv
 ·obtain ⟨cs,hv,_,hr⟩:=h;exact row cs hr hv
 ·cases v<;>simp[Value.cells] at hm
  ·obtain ⟨rfl,rfl,rfl⟩:=hm;exact PZ h
  ·exfalso;unfold Cell.okWide Cell.ok at h;split at h<;>(try split at h)<;>simp_all
def ArgV (P:Program) (h:Heap) (n:Nat) (t:TypeId) (x:V):Prop:=match P.underlying t with
 | some (.struct _)=>∃ xs,x = .agg xs/\TV P h n t xs
 | _=>TV P h n t [x]
theorem ArgV.mono {h h':Heap} (hp:h <+: h') {n:Nat}{t:TypeId}{x:V} (hx:ArgV P h n t x):ArgV P h' n t x:=by
 unfold ArgV at *
 split at hx
 ·obtain ⟨xs,h1,h2⟩:=hx;exact ⟨xs,h1,TV.mono hp _ _ _ h2⟩
 ·exact TV.mono hp _ _ _ hx
theorem lays_arg {t:TypeId}{v:Value}{d:DataW H}{p:List MemPlace} (hin:Qj P n t=true) (hok:Value.okWide P W r base t v)
  (h0:DataW.Trod enc P W 0 (λ_=>true) true t v d p) {ρ:Rho} (hi:Imp W ρ h):∃ (ρ':Rho) (h':Heap) (x:V),Rle ρ ρ'/\h <+: h'/\Imp W ρ' h'/\VR ρ' x v/\ArgV P h' n t x:=by
 obtain ⟨fuel,hf⟩:=h0;obtain ⟨ρ',h',xs,a1,a2,a3,a4,a5⟩:=zcV n t hin fuel _ _ hf (λa l c hm=>Uu hok hm) ρ h hi;unfold Value.okWide at hok;cases hu:P.underlying t with
 | none =>
  cases n with
  | zero=>simp[Qj] at hin
  | succ n=>simp[Qj,hu] at hin
 | some td =>
  have one:(∀ fs,td ≠ .struct fs)->∃ x,xs = [x]/\VR ρ' x v:=λhns=>by
   cases n with
   | zero=>simp[Qj] at hin
   | succ n =>
    simp only[TV,hu] at a5;have hl:=a4.length;have hx:∃ x,xs = [x]:=by
     cases td<;>simp only at a5<;>(try exact a5.elim)
     ·obtain ⟨b,rfl⟩:=a5;exact ⟨_,rfl⟩
     ·obtain ⟨i,rfl,_⟩:=a5;exact ⟨_,rfl⟩
     ·obtain ⟨s,rfl,_⟩:=a5;exact ⟨_,rfl⟩
     ·obtain ⟨a,c,rs,rfl,_⟩:=a5;exact ⟨_,rfl⟩
     ·exact absurd rfl (hns _)
    obtain ⟨x,rfl⟩:=hx;refine ⟨x,rfl,?_⟩;have hns':∀ cs,v ≠ .agg cs:=λcs hv=>by
     subst hv;rw[hu] at hok;cases td<;>simp only[Qj,hu] at hin<;>(try cases hin)<;>simp[Cell.okWide,Cell.ok,hu] at hok
     exact absurd rfl (hns _)
    have hc:v.cells.toList = [v]:=by
     cases v<;>(try rfl)
     ·exact absurd rfl (hns' _)
    rw[hc] at a4;exact a4.uncons.1
  by_cases hs:∃ fs,td = .struct fs
  ·obtain ⟨fs,rfl⟩:=hs;rw[hu] at hok;obtain ⟨cs,rfl,_⟩:=hok;refine ⟨ρ',h',.agg xs,a1,a2,a3,?_,?_⟩
   ·simp only[VR];exact ⟨cs,rfl,by simpa [Value.cells] using a4⟩
   ·simp only[ArgV,hu];exact ⟨xs,rfl,a5⟩
  ·obtain ⟨x,rfl,hx⟩:=one λfs e=>hs ⟨fs,e⟩;refine ⟨ρ',h',x,a1,a2,a3,hx,?_⟩;unfold ArgV;rw[hu];split
   ·rename_i fs' he;injection he with he;exact absurd ⟨_,he⟩ hs
   ·exact a5
theorem imp_nil (W:World):Imp W (λ_=>none) [] :=
 ⟨⟨λb e h=>(by cases h),λb e k h=>(by cases h),λb b' e e' h=>(by cases h)⟩,λb hb=>by simp at hb⟩
theorem law_walk {call:IF} (hS:SC P call) {f:FuncId}{args:List V}{h':Heap}{ρ:Rho} (hk:call h.length f args h=some (.bool true,h')) {cargs:Array Value} (hv:VRs ρ args cargs.toList) (hi:Imp W ρ h) :
  Calls P f cargs W λe w'=>e = .returned (.bool true)/\Below W.heap.size W w':=by
 refine Calls.mono (hS.calls hk (zdb _) hv hi.rel) ?_
 rintro e w' ⟨c,rfl,ρ',h1,h2,h3⟩
 simp only[VR] at h1;subst h1;exact ⟨rfl,⟨h3.os,h3.tape,h3.output,h3.size,λk hk=>h3.frame k hk λb e hb hle=>by
  have:=(hi.rel.dom b e hb).1;omega⟩⟩
end
end Go.Proofs.YtmgopagfoemomaaGreat.T
namespace Go.Proofs.YtmgopagfoemomaaGreat
open Go T


structure Ver where
 key:Int
 tag:Tag
 past:List Tag
 text:ByteArray
 gone:Bool
structure Node where
 store:List Ver
 wait:List Ver
structure Place where
 me:Int
 clock:Int
 chain:List Node
 log:List Ver
 got:List (List Ver)
 fell:Bool
structure Frame where
 fro:Int
 to:Int
 at':Int
 ver:Ver
abbrev zcP (ro:Bool):Nat:=bif ro then 202 else 36
abbrev Pr (ro:Bool):Nat:=bif ro then 207 else 43
abbrev zaI (ro:Bool):Nat:=bif ro then 194 else 26
abbrev Qc (ro:Bool):Nat:=bif ro then 289 else 47
abbrev Ver.cs (v:Ver) (a:Pq) (c:Nq):List V := [Iv v.key,Iv v.tag.time,Iv v.tag.place,.sl 2 a v.past.length c,.str v.text,.bool v.gone]
abbrev RTags (ro:Bool):Rel (List Tag):=Sli ro 2 (zcP ro) (flat Tag.cs)
def RVer (ro:Bool):Rel Ver:=λh cs v F=>∃ s,cs = [Iv v.key,Iv v.tag.time,Iv v.tag.place,s,.str v.text,.bool v.gone]/\RTags ro h [s] v.past F
abbrev RVers (ro:Bool):Rel (List Ver):=Sli ro 6 (Pr ro) (RVer ro)
abbrev RVss (ro:Bool):Rel (List (List Ver)):=Sli ro 1 (zaI ro) (RVers ro)
def RNode (ro:Bool):Rel Node:=λh cs x F=>∃ s1 s2 F1 F2,cs = [s1,s2]/\F=F1++F2/\RVers ro h [s1] x.store F1/\RVers ro h [s2] x.wait F2
abbrev RNodes (ro:Bool):Rel (List Node):=Sli ro 2 (Qc ro) (RNode ro)
def RPlace (ro:Bool):Rel Place:=λh cs p F=>∃ s1 s2 s3 F1 F2 F3,cs = [Iv p.me,Iv p.clock,s1,s2,s3,.bool p.fell]/\F=F1++(F2++F3)/\RNodes ro h [s1] p.chain F1/\RVers ro h [s2] p.log F2/\RVss ro h [s3] p.got F3
def U6 (ro:Bool):Rel Frame:=λh cs f F=>∃ vs,cs = Iv f.fro :: Iv f.to :: Iv f.at' :: vs/\RVer ro h vs f.ver F
theorem rtags_ok {ro:Bool}:(RTags ro).Ok:=Sli.ok DG
theorem rver_ok {ro:Bool}:(RVer ro).Ok :=
 ⟨λh h' cs x F ⟨s,h1,h2⟩ hb=>⟨s,h1,rtags_ok.fr _ _ _ _ _ h2 hb⟩,λh cs x F ⟨s,_,h2⟩=>rtags_ok.bd _ _ _ _ h2⟩
theorem rvers_ok {ro:Bool}:(RVers ro).Ok:=Sli.ok rver_ok
theorem rvss_ok {ro:Bool}:(RVss ro).Ok:=Sli.ok rvers_ok
theorem rnode_ok {ro:Bool}:(RNode ro).Ok:=by
 refine ⟨?_,?_⟩
 ·rintro h h' cs x F ⟨s1,s2,F1,F2,h1,rfl,h2,h3⟩ hb
  exact ⟨s1,s2,F1,F2,h1,rfl,rvers_ok.fr _ _ _ _ _ h2 λb hm=>hb b (by simp[hm]),rvers_ok.fr _ _ _ _ _ h3 λb hm=>hb b (by simp[hm])⟩
 ·rintro h cs x F ⟨s1,s2,F1,F2,h1,rfl,h2,h3⟩ b hb
  rw[zc9] at hb;exact hb.elim (rvers_ok.bd _ _ _ _ h2 b) (rvers_ok.bd _ _ _ _ h3 b)
theorem rnodes_ok {ro:Bool}:(RNodes ro).Ok:=Sli.ok rnode_ok
theorem rplace_ok {ro:Bool}:(RPlace ro).Ok:=by
 refine ⟨?_,?_⟩
 ·rintro h h' cs x F ⟨s1,s2,s3,F1,F2,F3,h1,rfl,h2,h3,h4⟩ hb
  exact ⟨s1,s2,s3,F1,F2,F3,h1,rfl,rnodes_ok.fr _ _ _ _ _ h2 λb hm=>hb b (by simp[hm]),rvers_ok.fr _ _ _ _ _ h3 λb hm=>hb b (by simp[hm]),rvss_ok.fr _ _ _ _ _ h4 λb hm=>hb b (by simp[hm])⟩
 ·rintro h cs x F ⟨s1,s2,s3,F1,F2,F3,h1,rfl,h2,h3,h4⟩ b hb
  rw[zc9,zc9] at hb;rcases hb with hb | hb | hb
  ·exact rnodes_ok.bd _ _ _ _ h2 b hb
  ·exact rvers_ok.bd _ _ _ _ h3 b hb
  ·exact rvss_ok.bd _ _ _ _ h4 b hb
theorem rframe_ok {ro:Bool}:(U6 ro).Ok :=
 ⟨λh h' cs x F ⟨s,h1,h2⟩ hb=>⟨s,h1,rver_ok.fr _ _ _ _ _ h2 hb⟩,λh cs x F ⟨s,_,h2⟩=>rver_ok.bd _ _ _ _ h2⟩
section
variable {ro:Bool}{h:Heap}{F:List Nat}{a:Pq}{c:Nq}{n k:Nat}
theorem RTags.get {l:List Tag} (hs:RTags ro h [.sl 2 a n c] l F) (hk:k<l.length):∃ o,a=some o/\ld h o.1 (o.2+k) 0 2=some [Iv l[k].time,Iv l[k].place]:=by obtain ⟨o,row,G,h1,h2,⟨rfl,_⟩,_⟩:=hs.read hk;exact ⟨o,h1,by rw[h2];rfl⟩
theorem RVer.form {row:List V}{v:Ver} (hv:RVer ro h row v F):∃ s a c,row = [Iv v.key,Iv v.tag.time,Iv v.tag.place,s,.str v.text,.bool v.gone] /\
  (∀ {R':Type} (K:Pq->Nat->Nq->Option R'),eS 2 s K=K a v.past.length c)/\RTags ro h [.sl 2 a v.past.length c] v.past F:=by
 obtain ⟨s,rfl,hp⟩:=hv;obtain ⟨a,c,es,hp2⟩:=hp.form;exact ⟨s,a,c,rfl,es,hp2⟩
theorem RVers.get {l:List Ver} (hs:RVers ro h [.sl 6 a n c] l F) (hk:k<l.length):∃ o s a' c' G,a=some o /\
  ld h o.1 (o.2+k) 0 6=some [Iv l[k].key,Iv l[k].tag.time,Iv l[k].tag.place,s,.str l[k].text,.bool l[k].gone] /\
  (∀ {R':Type} (K:Pq->Nat->Nq->Option R'),eS 2 s K=K a' l[k].past.length c')/\RTags ro h [.sl 2 a' l[k].past.length c'] l[k].past G/\(∀ b∈G,b∈F):=by
 obtain ⟨o,row,G,h1,h2,hv,hG,_⟩:=hs.read hk;obtain ⟨s,a',c',rfl,es,hp⟩:=hv.form;exact ⟨o,s,a',c',G,h1,by rw[h2];rfl,es,hp,hG⟩
theorem RVss.get {l:List (List Ver)} (hs:RVss ro h [.sl 1 a n c] l F) (hk:k<l.length):∃ o s a' c' G,a=some o/\ld h o.1 (o.2+k) 0 1=some [s] /\
  (∀ {R':Type} (K:Pq->Nat->Nq->Option R'),eS 6 s K=K a' l[k].length c')/\RVers ro h [.sl 6 a' l[k].length c'] l[k] G/\(∀ b∈G,b∈F):=by
 obtain ⟨o,row,G,h1,h2,hv,hG,_⟩:=hs.read hk;have:∃ s,row = [s]:=by obtain ⟨R',a',c',e,_⟩:=hv;exact ⟨_,e⟩
 obtain ⟨s,rfl⟩:=this;obtain ⟨a',c',es,hp⟩:=hv.form;exact ⟨o,s,a',c',G,h1,by rw[h2];rfl,es,hp,hG⟩
theorem RNode.form {row:List V}{x:Node} (hv:RNode ro h row x F):∃ s1 s2 a1 c1 a2 c2 F1 F2,row = [s1,s2]/\F=F1++F2 /\
  (∀ {R':Type} (K:Pq->Nat->Nq->Option R'),eS 6 s1 K=K a1 x.store.length c1)/\(∀ {R':Type} (K:Pq->Nat->Nq->Option R'),eS 6 s2 K=K a2 x.wait.length c2) /\
  RVers ro h [.sl 6 a1 x.store.length c1] x.store F1/\RVers ro h [.sl 6 a2 x.wait.length c2] x.wait F2:=by
 obtain ⟨s1,s2,F1,F2,rfl,rfl,h1,h2⟩:=hv;obtain ⟨a1,c1,e1,g1⟩:=h1.form;obtain ⟨a2,c2,e2,g2⟩:=h2.form;exact ⟨s1,s2,a1,c1,a2,c2,F1,F2,rfl,rfl,e1,e2,g1,g2⟩
theorem RNodes.get {l:List Node} (hs:RNodes ro h [.sl 2 a n c] l F) (hk:k<l.length):∃ o s1 s2 a1 c1 a2 c2 F1 F2,a=some o/\ld h o.1 (o.2+k) 0 2=some [s1,s2]/\ld h o.1 (o.2+k) 0 1=some [s1]/\ld h o.1 (o.2+k) 1 1=some [s2] /\
  (∀ {R':Type} (K:Pq->Nat->Nq->Option R'),eS 6 s1 K=K a1 l[k].store.length c1)/\(∀ {R':Type} (K:Pq->Nat->Nq->Option R'),eS 6 s2 K=K a2 l[k].wait.length c2) /\
  RVers ro h [.sl 6 a1 l[k].store.length c1] l[k].store F1/\RVers ro h [.sl 6 a2 l[k].wait.length c2] l[k].wait F2/\(∀ b∈F1,b∈F)/\(∀ b∈F2,b∈F):=by
 obtain ⟨o,row,G,h1,h2,hv,hG,_⟩:=hs.read hk;obtain ⟨s1,s2,a1,c1,a2,c2,F1,F2,rfl,rfl,e1,e2,g1,g2⟩:=hv.form;exact ⟨o,s1,s2,a1,c1,a2,c2,F1,F2,h1,by rw[h2];rfl,by rw[h2];rfl,by rw[h2];rfl,e1,e2,g1,g2,λb hb=>hG b (zd5 _ hb),λb hb=>hG b (zeC _ hb)⟩
theorem RPlace.form {row:List V}{p:Place} (hv:RPlace ro h row p F):∃ s1 s2 s3 a1 c1 a2 c2 a3 c3 F1 F2 F3,row = [Iv p.me,Iv p.clock,s1,s2,s3,.bool p.fell]/\F=F1++(F2++F3) /\
  (∀ {R':Type} (K:Pq->Nat->Nq->Option R'),eS 2 s1 K=K a1 p.chain.length c1)/\(∀ {R':Type} (K:Pq->Nat->Nq->Option R'),eS 6 s2 K=K a2 p.log.length c2) /\
  (∀ {R':Type} (K:Pq->Nat->Nq->Option R'),eS 1 s3 K=K a3 p.got.length c3) /\
  RNodes ro h [.sl 2 a1 p.chain.length c1] p.chain F1/\RVers ro h [.sl 6 a2 p.log.length c2] p.log F2/\RVss ro h [.sl 1 a3 p.got.length c3] p.got F3:=by
 obtain ⟨s1,s2,s3,F1,F2,F3,rfl,rfl,h1,h2,h3⟩:=hv;obtain ⟨a1,c1,e1,g1⟩:=h1.form;obtain ⟨a2,c2,e2,g2⟩:=h2.form;obtain ⟨a3,c3,e3,g3⟩:=h3.form;exact ⟨s1,s2,s3,a1,c1,a2,c2,a3,c3,F1,F2,F3,rfl,rfl,e1,e2,e3,g1,g2,g3⟩
end
theorem Fd {α T:Type}{p:α->Bool}{l:List α} (L:Nat->Option T) (no yes:Option T)
  (step:∀ i (hi:i<l.length),L i=if p l[i]=true then L (i+1) else no) (done:L l.length=yes):L 0=if l.all p=true then yes else no:=by
 have loop:∀ m i,m+i=l.length->L i=if (l.drop i).all p=true then yes else no:=by
  intro m;induction m with
  | zero =>
   intro i hi;have:i=l.length:=by omega
   subst this;rw[done,List.drop_length];simp
  | succ m ih =>
   intro i hi;have hlt:i<l.length:=by omega
   rw[step i hlt,zdn hlt,List.all_cons];cases hp:p l[i]
   ·simp
   ·simpa using ih (i+1) (by omega)
 exact loop l.length 0 (by omega)


section
variable {lo:Nat}{ro:Bool}{h:Heap}{F:List Nat}{a:Pq}{c:Nq}{left:Int}
end
def DA (l:List Ver):Prop:=l.length<=1048576/\∀ v∈l,v.past.length<=1048576/\v.text.size<=1048576
def zcJ (l:List (List Ver)):Prop:=l.length<=1048576/\∀ v∈l,DA v
def C7 (l:List Node):Prop:=l.length<=1048576/\∀ x∈l,DA x.store/\DA x.wait
def Ii (p:Place):Prop:=C7 p.chain/\DA p.log/\zcJ p.got
section
variable {lo:Nat}{ro:Bool}{h:Heap}{F:List Nat}{a:Pq}{c:Nq}
abbrev Place.cs (p:Place) (a1:Pq) (c1:Nq) (a2:Pq) (c2:Nq) (a3:Pq) (c3:Nq):List V :=
 [Iv p.me,Iv p.clock,.sl 2 a1 p.chain.length c1,.sl 6 a2 p.log.length c2,.sl 1 a3 p.got.length c3,.bool p.fell]
end


theorem FQ {T:Type}{n:Nat} (L:Nat->Option T) (step:∀ i,i<n->L i=L (i+1)):L 0=L n:=by
 have loop:∀ i,i<=n->L 0=L i:=by
  intro i;induction i with
  | zero=>intro _;rfl
  | succ i ih=>intro hi;rw[ih (by omega),step i (by omega)]
 exact loop n (zdb n)
section
variable {lo:Nat}{ro ro':Bool}{h:Heap}{F F':List Nat}{a a':Pq}{c c':Nq}
theorem IB (x:Int):(x==x)=true:=by simp
theorem zcS (x:Bool):(x==x)=true:=by simp
theorem zc0 (x:List UInt8):(x==x)=true:=by simp
abbrev Frame.cs (f:Frame) (a:Pq) (c:Nq):List V := Iv f.fro :: Iv f.to :: Iv f.at' :: f.ver.cs a c
end
def zcM {α:Type} (f:Int->α->α) (w:α->Nat):List α->Int->List α
 | [],_ => []
 | x :: r,k=>f k x :: zcM f w r (k+w x)
def zaj {α:Type} (w:α->Nat) (l:List α):Nat:=(l.map w).sum


abbrev zc4:Int:=1099511627776
abbrev zbe (_:Tag):Nat:=2
def zch (v:Ver):Nat:=5+zaj zbe v.past
def Vv (l:List Ver):Nat:=zaj zch l
def ZR (x:Node):Nat:=Vv x.store+Vv x.wait
section
variable {lo:Nat}{h:Heap}{F:List Nat}{a:Pq}{c:Nq}{k:Int}
def zcG (l:List (List Ver)):Nat:=zaj Vv l
def ZQ (l:List Node):Nat:=zaj ZR l
end


section
variable {lo:Nat}{h:Heap}{F:List Nat}{a:Pq}{c:Nq}{k:Int}
def ZP (p:Place):Nat:=ZQ p.chain+Vv p.log+zcG p.got
theorem RPlace.cells {ro:Bool}{p:Place}{a1 a2 a3:Pq}{c1 c2 c3:Nq} (h1:RPlace ro h (p.cs a1 c1 a2 c2 a3 c3) p F) :
  ∃ F1 F2 F3,F=F1++(F2++F3)/\RNodes ro h [.sl 2 a1 p.chain.length c1] p.chain F1/\RVers ro h [.sl 6 a2 p.log.length c2] p.log F2/\RVss ro h [.sl 1 a3 p.got.length c3] p.got F3:=by
 obtain ⟨_,_,_,F1,F2,F3,e1,rfl,r1,r2,r3⟩:=h1;injection e1 with _ e1;injection e1 with _ e1;injection e1 with x1 e1;injection e1 with x2 e1;injection e1 with x3 e1;subst x1;subst x2;subst x3;exact ⟨F1,F2,F3,rfl,r1,r2,r3⟩
end


variable {s:ByteArray}{l p q:List Tag}
def Nf (b:UInt8):Bool:=Ai b.toNat 33 126
def GO (s:ByteArray):Bool:=s.data.toList.all Nf&&decide ((s.size:Int)<=8)
def BJ (p:List Tag):Bool:=decide (p.length=4)&&p.all λt=>B8 t.time t.place
def BP (p q:List Tag):Bool:=(p.zip q).all λx => !FM x.2.time x.2.place x.1.time x.1.place
def E8 (p:List Tag):Int:=p.foldl (λm t=>if t.time>m then t.time else m) 0
def Ju (s:ByteArray):Bool:=decide (s.size=0)
def Ig (v:Ver):Bool:=Ai v.key 0 3&&GO v.text&&(!v.gone || Ju v.text)&&BJ v.past
def Cl (v:Ver):Bool:=Ig v&&B8 v.tag.time v.tag.place&&decide (E8 v.past<v.tag.time)
section
variable {lo:Nat}{ro ro':Bool}{h:Heap}{F F':List Nat}{a a':Pq}{c c':Nq}
theorem Tr {i:Nat} (hi:i<s.data.toList.length):PP s (i:Nat)=some (s.data.toList[i]):=by
 unfold PP;have:i<s.size:=by simpa using hi
 simp[this];rfl
theorem SG (hn:s.size<=1048576):Af lo 55 [.str s] h=some (.bool (GO s),h):=by
 refine Qr (h':=h) ?_;have hl:s.data.toList.length=s.size:=by simp
 refine (Fd (p:=Nf) (l:=s.data.toList) (λi=>CF (List.length h) s false (i:Nat) h) (some (.bool false,h)) (some (.bool (decide ((s.size:Int)<=8)),h)) (λi hi=>?_) ?_).trans ?_
 ·rw[CF.e,Al (by omega)];simp only[Tr hi,Ad,Ar (show i<9223372036854775807 by omega)];unfold Nf Ai;generalize s.data.toList[i]=b;by_cases h1:(b.toNat:Int)<33
  ·rw[Al h1,if_neg (by simp;omega)]
  ·rw[Ak h1];by_cases h2:(b.toNat:Int)>126
   ·rw[Al h2,if_neg (by simp;omega)]
   ·rw[Ak h2,if_pos (by simp;omega)]
 ·rw[CF.e,Ak (by omega)];by_cases h3:(s.size:Int)<=8
  ·rw[Al h3,decide_eq_true h3]
  ·rw[Ak h3,decide_eq_false h3]
 ·unfold GO;cases s.data.toList.all Nf<;>simp
theorem V6 (hn:s.size<=1048576):Af lo 203 [.str s] h=some (.bool (GO s),h):=by
 refine Th (h':=h) ?_;have hl:s.data.toList.length=s.size:=by simp
 refine (Fd (p:=Nf) (l:=s.data.toList) (λi=>Dt (List.length h) s false (s.size:Nat) (i:Nat) h) (some (.bool false,h)) (some (.bool (decide ((s.size:Int)<=8)),h)) (λi hi=>?_) ?_).trans ?_
 ·have hb:s.data.toList[i].toNat<256:=s.data.toList[i].toNat_lt;rw[Dt.e,Al (by omega)];simp only[Tr hi,Ad,Ar (show i<9223372036854775807 by omega),A8,Ac,At];rw[wr (by omega) (by omega)];unfold Nf;cases Ai (s.data.toList[i].toNat:Int) 33 126<;>simp
 ·rw[Dt.e,Ak (by omega)];by_cases h3:(s.size:Int)<=8
  ·rw[Al h3,decide_eq_true h3]
  ·rw[Ak h3,decide_eq_false h3]
 ·unfold GO;cases s.data.toList.all Nf<;>simp
theorem ST {g:Nat}{cl:List V}{p:Tag->Bool} (hs:RTags ro h [.sl 2 a l.length c] l F) (hn:l.length<=1048576)
  (hp:∀ lo d,d∈l->Af lo g (CQ [.agg [Iv d.time,Iv d.place]] cl) h=some (.bool (p d),h)) :
  Af lo 214 [.sl 2 a l.length c,.fn g cl] h=some (Iv (Bz p l 0),h):=by
 have loop:∀ m k x,m+k=l.length->AM (List.length h) a l.length c g cl x (l.length:Nat) (k:Nat) h=some (Iv (Bz p (l.drop k) k),h):=by
  intro m;induction m with
  | zero =>intro k x hk;rw[AM.e,Ak (by omega),show k=l.length by omega];simp[Bz]
  | succ m ih =>
   intro k x hk;have hlt:k<l.length:=by omega
   obtain ⟨o,rfl,ho⟩:=hs.get hlt;rw[AM.e,Al (by omega),Ae (by omega)];simp only[Ad,Bd,ho,Aa,Ab,Ah];rw[hp (List.length h) l[k] (by simp),Ac,At,zdn hlt];simp only[Bz];cases p l[k]
   ·simp only[Ax,cond_false];rw[Ar (by omega)];exact ih (k+1) _ (by omega)
   ·simp
 refine FG (h':=h) ?_;simpa using loop l.length 0 0 (by omega)
theorem JV (hs:RTags ro h [.sl 2 a l.length c] l F) (hn:l.length<=1048576):Af lo 71 [.agg [.sl 2 a l.length c]] h=some (.bool (BJ l),h):=by
 refine Tl (h':=h) ?_;rw[E0 (h':=h) (v := .bool (l.any λt => !B8 t.time t.place)) (by
  rw[ST hs hn (p:=λt => !B8 t.time t.place) (λlo d _=>QG (h':=h) (by rw[KU];simp only[Ac,At];cases B8 d.time d.place<;>rfl))];simp only[Ac,Ab,KZ];rw[Fa];simp)]
 unfold BJ;by_cases h3:l.length=4
 ·rw[show ((l.length:Int)==4)=true by simp;omega,Ao,decide_eq_true h3];simp only[Ac,At];rw[zeK];simp only[Bool.not_not,zdk];cases l.all (λt:Tag=>B8 t.time t.place)<;>rfl
 ·rw[show ((l.length:Int)==4)=false by simp;omega,Ax,decide_eq_false h3];rfl
theorem P9 (hs:RTags ro h [.sl 2 a l.length c] l F) (hn:l.length<=1048576):Af lo 118 [.agg [.sl 2 a l.length c]] h=some (Iv (E8 l),h):=by
 have loop:∀ m k x,m+k=l.length->B3 (List.length h) x a l.length c (l.length:Nat) (k:Nat) h=some (Iv ((l.drop k).foldl (λm t=>if t.time>m then t.time else m) x),h):=by
  intro m;induction m with
  | zero =>intro k x hk;rw[B3.e,Ak (by omega),show k=l.length by omega];simp
  | succ m ih =>
   intro k x hk;have hlt:k<l.length:=by omega
   obtain ⟨o,rfl,ho⟩:=hs.get hlt;rw[B3.e,Al (by omega),Ae (by omega)];simp only[Ad,Bd,ho,Aa,Ab,Ah,Ar (show k<9223372036854775807 by omega)];rw[ih (k+1) _ (by omega),zdn hlt,zd2]
 refine Ns (h':=h) ?_;exact loop l.length 0 0 (by omega)
theorem MK:(s.toList==(ByteArray.mk #[]).toList)=Ju s:=by
 unfold Ju;rw[zed];rw[zeH,zeH];simp only[beq_iff_eq,decide_eq_true_eq];constructor
 ·intro h;have:=congrArg List.length h;simpa using this
 ·intro h;exact zdh (by simpa using h)
theorem NY {v:Ver} (hs:RTags ro h [.sl 2 a v.past.length c] v.past F) (hn:v.past.length<=1048576/\v.text.size<=1048576):Af lo 116 [.agg (v.cs a c)] h=some (.bool (Ig v),h):=by refine Nm (h':=h) ?_;simp only[HM,V6 hn.2,JV hs hn.1,MK,Ac,At];unfold Ig;cases Ai v.key 0 3<;>cases GO v.text<;>cases v.gone<;>cases Ju v.text<;>cases BJ v.past<;>rfl
theorem KT {v:Ver} (hs:RTags ro h [.sl 2 a v.past.length c] v.past F) (hn:v.past.length<=1048576/\v.text.size<=1048576):Af lo 134 [.agg (v.cs a c)] h=some (.bool (Cl v),h):=by
 refine Vo (h':=h) ?_;simp only[NY hs hn,KU,P9 hs hn.1,Ac,At,Ab];unfold Cl;by_cases hl:E8 v.past<v.tag.time
 ·rw[Al hl,decide_eq_true hl];cases Ig v<;>cases B8 v.tag.time v.tag.place<;>rfl
 ·rw[Ak hl,decide_eq_false hl];cases Ig v<;>cases B8 v.tag.time v.tag.place<;>rfl
theorem RO {x:Int}:∀ {l:List Tag}{m:Int},l.foldl (λm t=>if t.time>m then t.time else m) m<x<->m<x/\∀ t∈l,t.time<x
 | [],m=>by simp
 | t :: l,m=>by
  rw[zd2,RO];simp only[zdf,forall_eq_or_imp];constructor
  ·rintro ⟨h1,h2⟩
   refine ⟨?_,?_,h2⟩<;>(split at h1<;>omega)
  ·rintro ⟨h1,h2,h3⟩
   refine ⟨?_,h3⟩;split<;>omega
theorem latest_lt {x:Int}:E8 p<x<->0<x/\∀ t∈p,t.time<x:=RO
theorem Jl {t p:Int} (h:B8 t p=true):0<=t/\t<=999/\0<=p/\p<=2:=by simp[B8,Ai] at h;omega
theorem CS (h:BJ p=true):p.length=4:=by simp only[BJ,CP,decide_eq_true_eq] at h;exact h.1
theorem QZ {T:Type} (L:Nat->Option T) (no yes:Option T) (hl:p.length<=q.length)
  (step:∀ i (hi:i<p.length),L i=if FM q[i].time q[i].place p[i].time p[i].place=true then no else L (i+1)) (done:L p.length=yes):L 0=if BP p q=true then yes else no:=by
 have hz:(p.zip q).length=p.length:=by simp;omega
 refine Fd (l:=p.zip q) L no yes (λi hi=>?_) (by rw[hz];exact done);rw[step i (by omega)];simp only[zeR];cases FM q[i].time q[i].place p[i].time p[i].place<;>simp
theorem HK (hs:RTags ro h [.sl 2 a p.length c] p F) (hs':RTags ro' h [.sl 2 a' q.length c'] q F') (hn:p.length<=1048576) (hl:p.length<=q.length) :
  Af lo 69 [.agg [.sl 2 a p.length c],.agg [.sl 2 a' q.length c']] h=some (.bool (BP p q),h):=by
 refine OI (h':=h) ?_;refine (QZ (p:=p) (q:=q) (λi=>Cg (List.length h) false a p.length c (p.length:Nat) (i:Nat) a' q.length c' h) (some (.bool false,h)) (some (.bool true,h)) hl (λi hi=>?_) ?_).trans ?_
 ·obtain ⟨o,rfl,ho⟩:=hs.get hi;obtain ⟨o',rfl,ho'⟩:=hs'.get (show i<q.length by omega);rw[Cg.e,Al (by omega),Ae hi];simp only[Ad,Bd,ho,ho',Aa,Ab,Ah,Ae (show i<q.length by omega),Ey,Ac,At,Ar (show i<9223372036854775807 by omega)];cases FM q[i].time q[i].place p[i].time p[i].place<;>simp
 ·rw[Cg.e,Ak (by omega)]
 ·cases BP p q<;>rfl
theorem Kc (hs:RTags ro h [.sl 2 a p.length c] p F) (hs':RTags ro' h [.sl 2 a' q.length c'] q F') (hp:p.length=4) (hq:q.length=4) :
  Af lo 124 [.agg [.sl 2 a p.length c],.agg [.sl 2 a' q.length c']] h=some (.bool (BP p q),h):=by
 refine Qu (h':=h) ?_;refine (QZ (p:=p) (q:=q) (λi=>CG (List.length h) false (i:Nat) a p.length c a' q.length c' h) (some (.bool false,h)) (some (.bool true,h)) (by omega) (λi hi=>?_) ?_).trans ?_
 ·obtain ⟨o,rfl,ho⟩:=hs.get hi;obtain ⟨o',rfl,ho'⟩:=hs'.get (show i<q.length by omega);rw[CG.e,Al (by omega),Ae (show i<q.length by omega)];simp only[Ad,Bd,ho,ho',Aa,Ab,Ah,Ae hi,Ci,Ac,At,Ar (show i<9223372036854775807 by omega)];cases FM q[i].time q[i].place p[i].time p[i].place<;>simp
 ·rw[CG.e,Ak (by omega)]
 ·cases BP p q<;>rfl
end


variable {l:List Tag}{α:Type}{El:Rel α}
section
variable {lo:Nat}{ro ro':Bool}{h:Heap}{F F':List Nat}{a a':Pq}{c c':Nq}
theorem Sli.rows {α:Type}{El:Rel α}{R e:Nat}{l:List α} (hs:Sli false R e El h [.sl R a l.length c] l F) :
  ∃ rows Fs,(∀ {T:Type} (K:List (List V)->Option T),Av R h (.sl R a l.length c) K=K rows)/\EAll El h rows l Fs/\∀ b∈Fs.flatten,b∈F:=by
 obtain ⟨R1,a1,c1,e1,g⟩:=hs;injection e1 with e1 _;injection e1 with e0 e2 _ e3;subst e2;subst e3;cases a with
 | none =>obtain ⟨rfl,_,_⟩:=g;exact ⟨[],[],λK=>rfl,trivial,by simp⟩
 | some p =>
  obtain ⟨b,i⟩:=p;obtain ⟨_,rs,Fs,g1,g2,g3,g4,g5,rfl⟩:=g;refine ⟨_,Fs,λK=>?_,g5,λb hb=>zd4 _ hb⟩;simp only[Av,JE,CT];cases hl:l.length with
  | zero=>simp
  | succ n =>rw[hl] at g2;simp only[Ev,Heap.rows?,g1,zdH,DX g2,Ad]
theorem RTags.rows {l:List Tag} (hs:RTags false h [.sl 2 a l.length c] l F) {T:Type} (K:List (List V)->Option T):Av 2 h (.sl 2 a l.length c) K=K (l.map Tag.cs):=by obtain ⟨rows,Fs,h1,h2,_⟩:=Sli.rows hs;rw[h1,h2.of_flat.1]
theorem Sli.fresh {R e n:Nat}{rs:List (List V)} (hn:n<=rs.length):Sli false R e El (h ++ [.rows R e false rs]) [.sl R (some (h.length,0)) 0 (some n)] [] [h.length] :=
 ⟨R,some (h.length,0),some n,rfl,rfl,rs,[],by simp,by simp,λk hk=>by injection hk with hk;subst hk;simpa using hn,λh=>(by cases h),by simp[EAll],by simp⟩
theorem RP:(l.map λ_=>([]:List Nat)).flatten = []:=by induction l<;>simp_all
theorem Mi (hl:lo<=h.length) (hn:l.length<=1048576):∃ a' c' h' F',(∀ {T:Type} (K:V->Heap->Option T),Df lo 36 2 16 (.sl 2 (some (h.length,0)) 0 (some 0)) (l.map Tag.cs) (h ++ [.rows 2 36 false []]) K=K (.sl 2 a' l.length c') h') /\
  RTags false h' [.sl 2 a' l.length c'] l F'/\Mv h [] h' F':=by
 have h0:RTags false (h ++ [.rows 2 (zcP false) false []]) [.sl 2 (some (h.length,0)) 0 (some 0)] [] [h.length]:=Sli.fresh (zdb _);by_cases he:l = []
 ·subst he;exact ⟨some (h.length,0),some 0,_,_,λK=>rfl,h0,Mv.last⟩
 ·obtain ⟨a',c',h',F',p1,p2,p3,p4,p5,p6⟩:=Sli.push (lo:=lo) (bytes:=16) UM h0 (xs:=l.map Tag.cs) (ys:=l) (Gs:=l.map λ_ => []) EAll.flat (by decide) (by simp;omega) (by simp;omega) (by simp;omega) (by rw[RP];simp) (by rw[RP];simp) he;simp only[zek,zdy,zdE] at p1 p2;refine ⟨a',c',h',F',p1,p2,by simp at p3;omega,λb hb _=>?_,p6,λb hb=>?_⟩
  ·rw[p4 b (by simp;omega) (by simp;omega),zde hb]
  ·simp at p3;rcases p5 b hb with h1 | h1
   ·rw[RP] at h1;simp at h1;exact .inr (by omega)
   ·simp at h1;exact .inr (by omega)
theorem Em {v:Ver} (hs:RTags false h [.sl 2 a v.past.length c] v.past F) (hl:lo<=h.length) (hn:v.past.length<=1048576) :
  ∃ a' c' h' F',Af lo 187 [.agg (v.cs a c)] h=some (.agg (v.cs a' c'),h')/\RTags false h' [.sl 2 a' v.past.length c'] v.past F'/\Mv h [] h' F':=by
 obtain ⟨a',c',h',F',e,r⟩:=Mi (l:=v.past) hl hn;refine ⟨a',c',h',F',S8 ?_,r⟩;rw[RTags.rows (Mv.snoc.keep0 rtags_ok hs),e,Ag]
theorem XD (hs:RTags false h [.sl 2 a l.length c] l F) (hl:lo<=h.length) (hn:l.length<=1048576) :
  ∃ v h' F',Af lo 230 [.sl 2 a l.length c] h=some (v,h')/\RTags false h' [v] l F'/\Mv h [] h' F':=by
 cases a with
 | none =>obtain ⟨R1,a1,c1,e1,g⟩:=hs;injection e1 with e1 _;injection e1 with e0 e2 _ e3;subst e2;subst e3;obtain ⟨rfl,_,_⟩:=g;exact ⟨_,h,[],D3 (by rw[show (none:Pq).isNone=true from rfl,Ao]),Sli.nil,Mv.nil⟩
 | some p =>obtain ⟨a',c',h',F',e,r⟩:=Mi (l:=l) hl hn;refine ⟨_,h',F',D3 ?_,r⟩;rw[show (some p).isNone=false from rfl,Ax,RTags.rows (Mv.snoc.keep0 rtags_ok hs),e,Ag]
theorem DL (hs:RTags false h [.sl 2 a l.length c] l F) (hl:lo<=h.length) (hn:l.length<=1048576) :
  ∃ a' c' h' F',Af lo 153 [.agg [.sl 2 a l.length c]] h=some (.agg [.sl 2 a' l.length c'],h')/\RTags false h' [.sl 2 a' l.length c'] l F'/\Mv h [] h' F':=by
 obtain ⟨v,h',F',e,r,m⟩:=XD hs hl hn;obtain ⟨a',c',es,r2⟩:=r.form;refine ⟨a',_,h',F',Nt ?_,r2.clip,m⟩;rw[e];simp only[Ac,es];rw[HC (r:=(.sl 2 a' l.length (some l.length),h')) (by rw[I5 r2])];simp only[Ac,Ag]
theorem BK {v:Ver} (hs:RTags false h [.sl 2 a v.past.length c] v.past F) (hl:lo<=h.length) (hn:v.past.length<=1048576) :
  ∃ a' c' h' F',Af lo 154 [.agg (v.cs a c)] h=some (.agg (v.cs a' c'),h')/\RTags false h' [.sl 2 a' v.past.length c'] v.past F'/\Mv h [] h' F':=by
 obtain ⟨a',c',h',F',e,r⟩:=DL hs hl hn;refine ⟨a',c',h',F',OB ?_,r⟩;rw[e];simp only[Ac,AR,Aa,Ag,Ah]
theorem Uf {l:List Ver}{e0:Pq}{h0:Heap}{n0:Nq}{F0:List Nat}{T:Type} (L:Nat->Pq->Nat->Nq->Heap->Option T) (hs:RVers false h [.sl 6 a l.length c] l F) (hl:lo<=h.length) (hn:DA l)
  (m0:Mv h [] h0 F0) (h1:RVers false h0 [.sl 6 e0 0 n0] [] F0)
  (step:∀ i (hi:i<l.length) s a2 c2 a1 n1 c1 hh,(i=0->a1=e0/\c1=n0)->(∀ o,a=some o->ld hh o.1 (o.2+i) 0 6=some [Iv l[i].key,Iv l[i].tag.time,Iv l[i].tag.place,s,.str l[i].text,.bool l[i].gone])->(∃ o,a=some o) ->
   (∀ {R':Type} (K:Pq->Nat->Nq->Option R'),eS 2 s K=K a2 l[i].past.length c2)->(∃ G,RTags false hh [.sl 2 a2 l[i].past.length c2] l[i].past G)->lo<=hh.length ->
   ∃ a3 c3 h3 F3,RTags false h3 [.sl 2 a3 l[i].past.length c3] l[i].past F3/\Mv hh [] h3 F3 /\
    L i a1 n1 c1 hh=Df lo 43 6 72 (.sl 6 a1 n1 c1) [l[i].cs a3 c3] (h3 ++ [.rows 6 43 false [l[i].cs a3 c3]]) λv h=>eS 6 v λa n c=>L (i+1) a n c h) :
  ∃ a' c' h' F',L 0 e0 0 n0 h0=L l.length a' l.length c' h'/\RVers false h' [.sl 6 a' l.length c'] l F'/\Mv h [] h' F':=by
 have hn1:=hn.1;obtain ⟨a',c',h',F',e,r,m⟩:=Ng (El:=RVer false) rver_ok (h0:=h0) (l:=l) (g:=λ_ v=>some (id v)) (lo:=lo) (R:=6) (e:=Pr false) (bytes:=72) (b0 := []) (F0:=F0) (a0:=e0) (c0:=n0)
  (zc8 hl m0.le) (m0.ge hl (by simp)) m0.nd (by decide) (by simp;omega) L (λi hi a1 c1 hh F1 acc hz hacc hm hr=>by
   have hm':Mv h [] hh []:=(m0.trans hm).drop;obtain ⟨o,s,a2,c2,G,ho,hld,es,hp,_⟩:=(hm'.keep0 rvers_ok hs).get hi;obtain ⟨a3,c3,h3,F3,r3,m3,e3⟩:=step i hi s a2 c2 a1 acc.length c1 hh hz (λo' ho'=>by rw[ho] at ho';injection ho' with ho';subst ho';exact hld) ⟨o,ho⟩ es ⟨G,hp⟩ (zc8 hl hm'.le);exact .inr ⟨l[i],l[i].cs a3 c3,F3,_,rfl,⟨_,rfl,Mv.snoc.keep0 rtags_ok r3⟩,m3.trans (Mv.snoc' m3.nd),e3⟩) h1
 rw[Ob,List.map_id,zdE] at e r;exact ⟨a',c',h',F',e,r,m0.trans m⟩
theorem IH {l:List Ver} (hs:RVers false h [.sl 6 a l.length c] l F) (hl:lo<=h.length) (hn:DA l) :
  ∃ a' c' h' F',Af lo 201 [.sl 6 a l.length c] h=some (.sl 6 a' l.length c',h')/\RVers false h' [.sl 6 a' l.length c'] l F'/\Mv h [] h' F':=by
 have hn1:=hn.1;obtain ⟨a',c',h',F',e,r,m⟩:=Uf (e0:=some (h.length,0)) (n0:=some l.length) (h0:=h ++ [.rows 6 (Pr false) false (List.replicate l.length [Iv 0,Iv 0,Iv 0,.sl 0 none 0 (some 0),.str ⟨⟨[]⟩⟩,.bool false])])
  (λi a1 n1 c1 hh=>Bf lo a1 n1 c1 a l.length c (l.length:Nat) (i:Nat) hh) hs hl hn Mv.last (Sli.fresh (by simp)) (λi hi s a2 c2 a1 n1 c1 hh hz hld ho es hp hlo=>by
   obtain ⟨o,rfl⟩:=ho;obtain ⟨G,hp⟩:=hp;obtain ⟨a3,c3,h3,F3,e3,r3,m3⟩:=BK (lo:=lo) (v:=l[i]) hp hlo (hn.2 _ (zc7 hi)).1;refine ⟨a3,c3,h3,F3,r3,m3,?_⟩;rw[Bf.e,Al (by omega),Ae hi];simp only[Ad,Bd,hld o rfl,Aa,Ab,es,BG,AL,Ah];rw[e3];simp only[Ac,AR,Aa,Ab,Ag,BG,AL,Ah,A7,Ar (show i<9223372036854775807 by omega)])
 refine ⟨a',c',h',F',J6 ?_,r,m⟩;rw[D0 (by omega)];refine e.trans ?_;rw[Bf.e,Ak (by omega)]
theorem GW {l:List Ver} (hs:RVers false h [.sl 6 a l.length c] l F) (hl:lo<=h.length) (hn:DA l) :
  ∃ a' c' h' F',Af lo 209 [.agg [.sl 6 a l.length c]] h=some (.agg [.sl 6 a' l.length c'],h')/\RVers false h' [.sl 6 a' l.length c'] l F'/\Mv h [] h' F':=by
 obtain ⟨a',c',h',F',e,r⟩:=IH hs hl hn;refine ⟨a',c',h',F',Mr ?_,r⟩;rw[e];simp only[Ac,Ag]
theorem O0 {l:List Ver} (hs:RVers false h [.sl 6 a l.length c] l F) (hl:lo<=h.length) (hn:DA l) :
  ∃ v h' F',Af lo 196 [.agg [.sl 6 a l.length c]] h=some (.agg [v],h')/\RVers false h' [v] l F'/\Mv h [] h' F':=by
 have hn1:=hn.1;by_cases he:l = []
 ·subst he;exact ⟨_,h,[],JJ (by rw[BD.e,Ak (by simp)]),Sli.nil,Mv.nil⟩
 have hpos:0<l.length:=List.length_pos_iff.2 he;obtain ⟨a',c',h',F',e,r,m⟩:=Uf (e0:=none) (n0:=some 0) (h0:=h)
  (λi a1 n1 c1 hh=>BD lo (i:Nat) a l.length c 0 none 0 (some 0) (if i=0 then 0 else 6) a1 n1 c1 hh) hs hl hn Mv.nil Sli.nil (λi hi s a2 c2 a1 n1 c1 hh hz hld ho es hp hlo=>by
   obtain ⟨o,rfl⟩:=ho;obtain ⟨G,hp⟩:=hp;obtain ⟨a3,c3,h3,F3,e3,r3,m3⟩:=Em (lo:=lo) (v:=l[i]) hp hlo (hn.2 _ (zc7 hi)).1;refine ⟨a3,c3,h3,F3,r3,m3,?_⟩;rw[BD.e,Al (by omega),Ae hi];simp only[Ad,Bd,hld o rfl,Aa,Ab,es,BG,AL,Ah];rw[e3];simp only[Ac,AR,Aa,Ab,Ag,BG,AL,Ah,A7,Ar (show i<9223372036854775807 by omega),if_neg (Nat.succ_ne_zero i)];by_cases h0:i=0
   ·obtain ⟨rfl,rfl⟩:=hz h0;rw[zcf]
   ·rw[if_neg h0])
 refine ⟨_,h',F',JJ ?_,r,m⟩;refine e.trans ?_;rw[if_neg (by omega),BD.e,Ak (by omega)]
end


variable {l:List Ver}{v:Ver}
def Ij (v u:Ver):Bool:=v.key==u.key&&(v.tag.time==u.tag.time&&v.tag.place==u.tag.place)&&decide (v.past=u.past)&&(v.text.toList==u.text.toList)&&(v.gone==u.gone)
def IZ (v:Ver):Bool:=v.key==0&&(v.tag.time==0&&v.tag.place==0)&&decide (v.past.length=0)&&Ju v.text && !v.gone
def JM (i:Nat) (v:Ver):Bool:=IZ v || (Cl v&&v.key==i)
def Bb (l:List Ver):Bool:=(l.zipIdx.all λx=>JM x.2 x.1)&&decide (l.length=4)
theorem Bi (h:Bb l=true):l.length=4:=by simp only[Bb,CP,decide_eq_true_eq] at h;exact h.2
theorem Db (h:Bb l=true) {i:Nat} (hi:i<l.length):JM i l[i]=true:=by simp only[Bb,CP,zdm] at h;have:=h.1 (l[i],i) (by rw[zeg];simp[hi]);exact this
theorem MJ (h:Cl v=true):0<v.tag.time:=by simp only[Cl,CP,decide_eq_true_eq] at h;exact (latest_lt.1 h.2).1
section
variable {lo:Nat}{ro ro':Bool}{h:Heap}{F F':List Nat}{a a':Pq}{c c':Nq}
theorem QU {α T:Type}{p:Nat->α->Bool}{l:List α} (L:Nat->Option T) (no yes:Option T)
  (step:∀ i (hi:i<l.length),L i=if p i l[i]=true then L (i+1) else no) (done:L l.length=yes):L 0=if (l.zipIdx.all λx=>p x.2 x.1)=true then yes else no:=by
 have hz:l.zipIdx.length=l.length:=by simp
 refine Fd (l:=l.zipIdx) (p:=λx=>p x.2 x.1) L no yes (λi hi=>?_) (by rw[hz];exact done);rw[step i (by omega)];simp only[zeS,zdy]
theorem XC {p q:List Tag} (hs:RTags ro h [.sl 2 a p.length c] p F) (hs':RTags ro' h [.sl 2 a' q.length c'] q F') (hn:p.length<=1048576) :
  Af lo 231 [.sl 2 a p.length c,.sl 2 a' q.length c'] h=some (.bool (decide (p=q)),h):=by
 refine Hz (h':=h) ?_;by_cases hl:p.length=q.length
 ·rw[show ((p.length:Int)==(q.length:Int))=true by simp;omega,Ao];refine (Fd (p:=λx:Tag×Tag=>decide (x.1=x.2)) (l:=p.zip q) (λi=>AU (List.length h) a p.length c a' q.length c' false (p.length:Nat) (i:Nat) h) (some (.bool false,h)) (some (.bool true,h)) (λi hi=>?_) ?_).trans ?_
  ·have hip:i<p.length:=by simp at hi;omega
   have hiq:i<q.length:=by omega
   obtain ⟨o,rfl,ho⟩:=hs.get hip;obtain ⟨o',rfl,ho'⟩:=hs'.get hiq;rw[AU.e,Al (by omega),Ae hip];simp only[Ad,Bd,ho,ho',Aa,Ab,Ah,Ae hiq,zeR,Ar (show i<9223372036854775807 by omega),zec];have e:(p[i].time==q[i].time&&p[i].place==q[i].place)=decide (p[i]=q[i]):=by rw[zed];cases hx:p[i];cases hy:q[i];simp
   rw[e];cases decide (p[i]=q[i])<;>simp
  ·have hz:(p.zip q).length=p.length:=by simp;omega
   rw[hz,AU.e,Ak (by omega)]
  ·have e:((p.zip q).all λx=>decide (x.1=x.2))=decide (p=q):=by
    rw[zed,zdm,decide_eq_true_eq];constructor
    ·intro hx;apply List.ext_getElem hl;intro i h1 h2;have:=hx (p[i],q[i]) (by rw[zdL];exact ⟨i,by simp;omega,by simp⟩);simpa using this
    ·rintro rfl x hx
     obtain ⟨i,hi,rfl⟩:=zdL.1 hx;simp
   rw[e];cases decide (p=q)<;>simp
 ·rw[show ((p.length:Int)==(q.length:Int))=false by simp;omega,Ax,decide_eq_false (λe=>hl (by rw[e]))]
theorem T0 {u:Ver} (hs:RTags ro h [.sl 2 a v.past.length c] v.past F) (hs':RTags ro' h [.sl 2 a' u.past.length c'] u.past F') (hn:v.past.length<=1048576) :
  Af lo 155 [.agg (v.cs a c),.agg (u.cs a' c')] h=some (.bool (Ij v u),h):=by
 refine QD (h':=h) ?_;simp only[XC hs hs' hn,Ac,At,zec];unfold Ij;cases (v.key==u.key)<;>cases (v.tag.time==u.tag.time&&v.tag.place==u.tag.place)<;>cases (decide (v.past=u.past))<;>cases (v.text.toList==u.text.toList)<;>cases (v.gone==u.gone)<;>rfl
theorem V8 (hs:RTags ro h [.sl 2 a v.past.length c] v.past F) (hn:v.past.length<=1048576) :
  Af lo 155 [.agg (v.cs a c),.agg [Iv 0,Iv 0,Iv 0,.sl 0 none 0 (some 0),.str ⟨⟨[]⟩⟩,.bool false]] h=some (.bool (IZ v),h):=by
 refine OA (h':=h) ?_;have e:Af (List.length h) 231 [.sl 2 a v.past.length c,.sl 0 none 0 (some 0)] h=some (.bool (decide (v.past.length=0)),h):=by
  refine Gq (h':=h) ?_;by_cases h0:v.past.length=0
  ·rw[h0,IB,Ao,A5.e,Ak (by simp)];rfl
  ·rw[show ((v.past.length:Int)==((0:Nat):Int))=false by rw[beq_eq_false_iff_ne];omega,Ax,decide_eq_false h0]
 simp only[e,Ac,At,zec,MK];unfold IZ;cases (v.key==0)<;>cases (v.tag.time==0&&v.tag.place==0)<;>cases (decide (v.past.length=0))<;>cases Ju v.text<;>cases v.gone<;>rfl
theorem N4 (hs:RVers ro h [.sl 6 a l.length c] l F) (hn:DA l):Af lo 79 [.agg [.sl 6 a l.length c]] h=some (.bool (Bb l),h):=by
 have hn1:=hn.1;refine Sw (h':=h) ?_;refine (QU (p:=JM) (l:=l) (λi=>Cu (List.length h) false a l.length c (l.length:Nat) (i:Nat) a l.length c h) (some (.bool false,h)) (some (.bool (decide (l.length=4)),h)) (λi hi=>?_) ?_).trans ?_
 ·obtain ⟨o,s,b,d,G,rfl,ho,es,hp,_⟩:=hs.get hi;have hm:=hn.2 _ (zc7 hi);rw[Cu.e,Al (by omega),Ae hi];simp only[Ad,Bd,ho,Aa,Ab,es,BG,AL,Ah];rw[V8 hp hm.1];simp only[Ac,At,KT hp hm,Ar (show i<9223372036854775807 by omega)];unfold JM;cases IZ l[i]<;>cases Cl l[i]<;>cases (l[i].key==i)<;>simp
 ·rw[Cu.e,Ak (by omega)];by_cases h3:l.length=4
  ·rw[h3];rfl
  ·rw[show ((l.length:Int)==4)=false by simp;omega,Ax,decide_eq_false h3]
 ·unfold Bb;cases (l.zipIdx.all λx=>JM x.2 x.1)<;>simp
theorem RVers.all {n:Nat}{i:Nat} (hs:RVers ro h [.sl 6 a n c] l F) (hi:i<l.length):∃ o s a' c' G,a=some o/\ld h o.1 (o.2+i) 0 1=some [Iv l[i].key]/\ld h o.1 (o.2+i) 1 1=some [Iv l[i].tag.time] /\
  ld h o.1 (o.2+i) 2 1=some [Iv l[i].tag.place]/\ld h o.1 (o.2+i) 3 1=some [s]/\ld h o.1 (o.2+i) 4 1=some [.str l[i].text]/\ld h o.1 (o.2+i) 5 1=some [.bool l[i].gone]/\ld h o.1 (o.2+i) 1 2=some [Iv l[i].tag.time,Iv l[i].tag.place] /\
  ld h o.1 (o.2+i) 0 6=some [Iv l[i].key,Iv l[i].tag.time,Iv l[i].tag.place,s,.str l[i].text,.bool l[i].gone] /\
  (∀ {R':Type} (K:Pq->Nat->Nq->Option R'),eS 2 s K=K a' l[i].past.length c')/\RTags ro h [.sl 2 a' l[i].past.length c'] l[i].past G/\(∀ b∈G,b∈F):=by
 obtain ⟨o,row,G,h1,h2,hv,hG,_⟩:=hs.read hi;obtain ⟨s,a',c',rfl,es,hp⟩:=hv.form;exact ⟨o,s,a',c',G,h1,by rw[h2];rfl,by rw[h2];rfl,by rw[h2];rfl,by rw[h2];rfl,by rw[h2];rfl,by rw[h2];rfl,by rw[h2];rfl,by rw[h2];rfl,es,hp,hG⟩
end


variable {l:List Ver}{α:Type}{El:Rel α}
def Cq (l:List Ver) (t:Tag):Bool:=l.any λv=>v.tag.time==t.time&&v.tag.place==t.place
section
variable {lo:Nat}{ro ro':Bool}{h:Heap}{F F':List Nat}{a a':Pq}{c c':Nq}
theorem MH {g:Nat}{cl:List V}{p:Ver->Bool} (hs:RVers ro h [.sl 6 a l.length c] l F) (hn:l.length<=1048576)
  (hp:∀ lo v a c G,v∈l->RTags ro h [.sl 2 a v.past.length c] v.past G->Af lo g (CQ [.agg (v.cs a c)] cl) h=some (.bool (p v),h)) :
  Af lo 156 [.sl 6 a l.length c,.fn g cl] h=some (Iv (Bz p l 0),h):=by
 have loop:∀ m k x,m+k=l.length->Az (List.length h) a l.length c g cl x (l.length:Nat) (k:Nat) h=some (Iv (Bz p (l.drop k) k),h):=by
  intro m;induction m with
  | zero =>intro k x hk;rw[Az.e,Ak (by omega),show k=l.length by omega];simp[Bz]
  | succ m ih =>
   intro k x hk;have hlt:k<l.length:=by omega
   obtain ⟨o,s,b,d,G,rfl,ho,es,hv,_⟩:=hs.get hlt;rw[Az.e,Al (by omega),Ae (by omega)];simp only[Ad,Bd,ho,Aa,Ab,es,BG,AL,Ah];rw[hp (List.length h) l[k] b d G (zc7 hlt) hv,Ac,At,zdn hlt];simp only[Bz];cases p l[k]
   ·simp only[Ax,cond_false];rw[Ar (by omega)];exact ih (k+1) _ (by omega)
   ·simp
 refine Dx (h':=h) ?_;exact loop l.length 0 0 (by omega)
theorem KH {g:Nat}{cl:List V}{p:Ver->Bool} (hs:RVers ro h [.sl 6 a l.length c] l F) (hn:l.length<=1048576)
  (hp:∀ lo v a c G,v∈l->RTags ro h [.sl 2 a v.past.length c] v.past G->Af lo g (CQ [.agg (v.cs a c)] cl) h=some (.bool (p v),h)) :
  Af lo 80 [.sl 6 a l.length c,.fn g cl] h=some (.bool (l.any p),h) :=
 C5 (h':=h) (by rw[MH hs hn hp];simp only[Ac,Ab,KZ];rw[Fa];simp)
theorem LF {t p:Int} (hs:RVers ro h [.sl 6 a l.length c] l F) (hn:l.length<=1048576) :
  Af lo 137 [.sl 6 a l.length c,.agg [Iv t,Iv p]] h=some (.bool (Cq l ⟨t,p⟩),h):=by
 refine Ti (h':=h ++ [.rows 2 36 false [[Iv t,Iv p]]]) ?_;rw[KH (p:=λv=>v.tag.time==t&&v.tag.place==p) (Mv.snoc.keep0 rvers_ok hs) hn (λlo v a c G _ _=>by
  refine Qz (h':=h ++ [.rows 2 36 false [[Iv t,Iv p]]]) ?_;have:ld (h ++ [.rows 2 36 false [[Iv t,Iv p]]]) h.length 0 0 2=some [Iv t,Iv p]:=by rw[Uz (row := [Iv t,Iv p]) (by rfl)];rfl
  simp only[this,Ad,Aa,Ab,Ah,zec];cases (v.tag.time==t&&v.tag.place==p)<;>rfl)]
 simp only[Ac,At];unfold Cq;cases (l.any λv=>v.tag.time==t&&v.tag.place==p)<;>rfl
theorem Sli.pre {R R' e n i:Nat}{l:List α} (hs:Sli false R e El h [.sl R' a n c] l F) (hi:i<=l.length):∃ F',Sli false R e El h [.sl R' a i c] (l.take i) F':=by
 have hn:=hs.val;subst hn;obtain ⟨R1,a1,c1,e1,g⟩:=hs;injection e1 with e1 _;injection e1 with e0 e2 _ e3;subst e0;subst e2;subst e3;have hl:(l.take i).length=i:=by simp;omega
 cases a with
 | none =>obtain ⟨rfl,h2,_⟩:=g;exact ⟨[],R',none,c,by rw[hl],by simp,h2,rfl⟩
 | some p =>
  obtain ⟨b,j⟩:=p;obtain ⟨hR,rs,Fs,g1,g2,g3,g4,g5,rfl⟩:=g;refine ⟨b ::(Fs.take i).flatten,R',some (b,j),c,by rw[hl],hR,rs,Fs.take i,g1,by rw[hl];omega,λk hk=>?_,g4,?_,rfl⟩
  ·have:=g3 k hk;rw[hl];omega
  ·rw[hl];have:=g5.take i;rw[zeY,zeT hi] at this;exact this
theorem It {R R' e n i:Nat}{l:List α} (hs:Sli false R e El h [.sl R' a n c] l F) (hi:i<=l.length) {T:Type}{K:Pq->Nat->Nq->Option T} :
  AA a n c none (some (Iv (i:Nat))) none K=K a i c:=by
 have hn:=hs.val;subst hn;obtain ⟨R1,a',c',h1,h2⟩:=hs;injection h1 with h1 _;injection h1 with e0 e1 e2 e3;subst e0;subst e1;subst e3;have hc:∀ k,c=some k->l.length<=k:=λk hk=>by
  cases a with
  | none=>obtain ⟨rfl,_⟩:=h2;simp
  | some p=>obtain ⟨b,i⟩:=p;obtain ⟨_,_,_,_,_,g3,_⟩:=h2;exact (g3 k hk).1
 unfold AA FI JK Km;cases c with
 | none=>simp only[Ab,Bd];rw[CO ⟨by omega,by omega⟩]
 | some k=>have:=hc k rfl;simp only[Ab,Bd];rw[CO ⟨by omega,by omega⟩]
def TO (place:Int) (l:List Ver) (i:Nat) (v:Ver):Bool:=Cl v&&(v.tag.place==place) && !Cq (l.take i) v.tag
def GD (place:Int) (l:List Ver):Bool:=(l.zipIdx.all λx=>TO place l x.2 x.1)&&decide ((l.length:Int)<=60)
theorem RG {m:Int} (hs:RVers false h [.sl 6 a l.length c] l F) (hn:DA l):Af lo 65 [.sl 6 a l.length c,Iv m] h=some (.bool (GD m l),h):=by
 have hn1:=hn.1;refine Vl (h':=h) ?_;refine (QU (p:=TO m l) (l:=l) (λi=>DS (List.length h) a l.length c m false a l.length c (l.length:Nat) (i:Nat) h) (some (.bool false,h)) (some (.bool (decide ((l.length:Int)<=60)),h)) (λi hi=>?_) ?_).trans ?_
 ·obtain ⟨F2,hpre⟩:=Sli.pre hs (show i<=l.length by omega);have hres:=λ{T:Type} (K:Pq->Nat->Nq->Option T)=>It hs (show i<=l.length by omega) (K:=K);obtain ⟨o,s,b,d,G,ha,ho,es,hp,_⟩:=hs.get hi;have hm:=hn.2 _ (zc7 hi);have hil:(l.take i).length=i:=by simp;omega
  have hpre':RVers false h [.sl 6 a (l.take i).length c] (l.take i) F2:=by rw[hil];exact hpre
  have hht:=λlo=>LF (lo:=lo) (t:=l[i].tag.time) (p:=l[i].tag.place) hpre' (by omega);rw[hil] at hht;rw[DS.e,Al (by omega),Ae hi];simp only[ha,Ad,Bd,ho,Aa,Ab,es,BG,AL,Ah];rw[KT hp hm];simp only[<- ha,Ac,At,hres,hht,Ar (show i<9223372036854775807 by omega)];unfold TO;cases Cl l[i]<;>cases (l[i].tag.place==m)<;>cases Cq (l.take i) l[i].tag<;>simp
 ·rw[DS.e,Ak (by omega)];by_cases h3:(l.length:Int)<=60
  ·rw[Al h3,decide_eq_true h3]
  ·rw[Ak h3,decide_eq_false h3]
 ·unfold GD;cases (l.zipIdx.all λx=>TO m l x.2 x.1)<;>simp
end


variable {l:List Node}
def Br (l:List Ver):List Tag:=l.map λv=>v.tag
section
variable {lo:Nat}{ro ro':Bool}{h:Heap}{F F':List Nat}{a a':Pq}{c c':Nq}
theorem PV {l:List Ver} (hs:RVers ro h [.sl 6 a l.length c] l F) (hl:lo<=h.length) (hn:l.length<=1048576) :
  ∃ v h' F',Af lo 114 [.agg [.sl 6 a l.length c]] h=some (.agg [v],h')/\RTags false h' [v] (Br l) F'/\Mv h [] h' F':=by
 obtain ⟨q,a',c',h',F',e,r,m⟩:=Jw (El:=flat Tag.cs) DG (h:=h) (l:=l) (f:=λv=>v.tag) (lo:=lo) (R:=2) (e:=36) (bytes:=16) hl (by decide) (by omega)
  (λi q a1 n1 c1 hh=>Do lo (i:Nat) a l.length c 0 none 0 (some 0) q a1 n1 c1 hh) (λi hi q a1 n1 c1 hh hm=>by
   obtain ⟨o,s,b,d,G,ha,_,_,_,_,_,_,ho12,_⟩:=(hm.keep0 rvers_ok hs).all hi;refine ⟨[Iv l[i].tag.time,Iv l[i].tag.place],[],hh ++ [.rows 2 36 false [[Iv l[i].tag.time,Iv l[i].tag.place]]],⟨rfl,rfl⟩,Mv.snoc,?_⟩;rw[Do.e,Al (by omega),Ae hi];simp only[ha,Ad,Bd,ho12,Aa,Ab,Ah,A7,Ar (show i<9223372036854775807 by omega)])
 refine ⟨_,h',F',S7 ?_,r,m⟩;refine e.trans ?_;rw[Do.e,Ak (by omega)]
theorem Jh {l:List Ver} (hs:RVers ro h [.sl 6 a l.length c] l F) (hl:lo<=h.length) (h4:l.length=4) :
  ∃ v h' F',Af lo 67 [.agg [.sl 6 a l.length c]] h=some (.agg [v],h')/\RTags false h' [v] (Br l) F'/\Mv h [] h' F':=by
 obtain ⟨h',F',e,r,m⟩:=Zw (El:=flat Tag.cs) DG (h0:=h) (l:=l) (f:=λv=>v.tag) (lo:=lo) (R:=2) (e:=36) (z := [Iv 0,Iv 0]) rfl hl
  (λi hh=>Cf lo a l.length c (l.length:Nat) (i:Nat) 0 none 0 (some 0) (some (h.length,0)) 4 (some 4) hh) (λi hi hh hm=>by
   obtain ⟨o,s,b,d,G,rfl,ho,es,_,_⟩:=(hm.keep0 rvers_ok hs).get hi;refine ⟨[Iv l[i].tag.time,Iv l[i].tag.place],[],hh,⟨rfl,rfl⟩,Mv.nil,rfl,?_⟩;rw[Cf.e,Al (by omega),Ae hi];simp only[Ad,Bd,ho,Aa,Ab,es,BG,AL,Ah,Ae (show i<4 by omega),zdy,Ar (show i<9223372036854775807 by omega)])
 rw[h4] at r;refine ⟨_,h',F',OC ?_,r,m⟩;rw[Li (r:=(.agg [.sl 2 (some (h.length,0)) 4 (some 4)],h ++ [.rows 2 36 false (List.replicate l.length [Iv 0,Iv 0])])) (by rw[h4];rfl)];simp only[Ac,AR,Aa,Ag,Ah];refine e.trans ?_;rw[Cf.e,Ak (by omega)]
def A3 (l:List Node):List Tag:=match l.getLast? with | some x=>Br x.store | none => []
theorem GT (h0:0<l.length):A3 l=Br (l[l.length - 1]'(by omega)).store:=by unfold A3;rw[List.getLast?_eq_getElem?,Dj (by omega)]
theorem Mz (hs:RNodes ro h [.sl 2 a l.length c] l F) (hl:lo<=h.length) (hn:C7 l) (h0:0<l.length) :
  ∃ v h' F',Af lo 47 [.agg [.sl 2 a l.length c]] h=some (.agg [v],h')/\RTags false h' [v] (A3 l) F'/\Mv h [] h' F':=by
 have hn1:=hn.1;obtain ⟨o,s1,s2,a1,c1,a2,c2,F1,F2,ha,_,ho1,_,e1,_,p1,_⟩:=hs.get (show l.length - 1<l.length by omega);obtain ⟨v,h',F',e,r,m⟩:=PV (lo:=lo) p1 hl (hn.2 _ (zc7 _)).1.1;obtain ⟨a',c',es,r'⟩:=r.form;rw[GT h0];refine ⟨_,h',F',Qq ?_,r',m⟩;rw[wr (by omega) (by omega),Cm ⟨by omega,by omega⟩,ha,Ad,show ((l.length:Int) - 1).toNat=l.length - 1 by omega,ho1];simp only[Ad,Aa,Ah,e1];rw[e];simp only[Ac,AR,Aa,es,Ah]
end


variable {s:ByteArray}
abbrev tx (l:List UInt8):ByteArray:=⟨⟨l⟩⟩
theorem ZU (s:ByteArray):tx s.data.toList=s:=rfl
theorem AZ {v:Ver} (h:Cl v=true):(0<=v.key/\v.key<=3)/\GO v.text=true/\(v.gone=true->v.text.size=0)/\BJ v.past=true/\B8 v.tag.time v.tag.place=true/\E8 v.past<v.tag.time:=by
 simp only[Cl,Ig,Ai,CP,decide_eq_true_eq,zdW,zdR,Ju] at h;obtain ⟨⟨⟨⟨⟨⟨h1,h2⟩,h3⟩,h4⟩,h5⟩,h6⟩,h7⟩:=h;refine ⟨⟨h1,h2⟩,h3,λhg=>?_,h5,h6,h7⟩;rcases h4 with h4 | h4
 ·rw[hg] at h4;cases h4
 ·exact h4
theorem Uj {t:ByteArray} (h:s.data.toList=t.data.toList):s=t:=by rw[<- ZU s,<- ZU t,h]
theorem ZK (h:s.size=0):s.data.toList = []:=zdh (by simpa using h)
theorem same_iff {v u:Ver}:Ij v u=true<->v=u:=by
 cases v with | mk k1 t1 p1 s1 g1=>cases u with | mk k2 t2 p2 s2 g2 =>
 cases t1;cases t2;simp only[Ij,CP,beq_iff_eq,decide_eq_true_eq,Ver.mk.injEq,Tag.mk.injEq];constructor
 ·rintro ⟨⟨⟨⟨h1,h2⟩,h3⟩,h4⟩,h5⟩
  exact ⟨h1,h2,h3,Uj (by rwa [zeH,zeH] at h4),h5⟩
 ·rintro ⟨h1,h2,h3,h4,h5⟩
  exact ⟨⟨⟨⟨h1,h2⟩,h3⟩,by rw[h4]⟩,h5⟩
section
variable {lo:Nat}{ro ro':Bool}{h:Heap}{F F':List Nat}{a a':Pq}{c c':Nq}
theorem Gw (h:GO s=true):s.size<=8:=by simp only[GO,CP,decide_eq_true_eq] at h;omega
end
end Go.Proofs.YtmgopagfoemomaaGreat
