/- Part 2 of what is shown for the law Gd, whatever the input; no condition of its own. -/
import Derived.Test.YtmgopagfoemomaaGreatBGd1
set_option linter.unusedVariables false
set_option linter.unusedSimpArgs false
set_option linter.unnecessarySimpa false
set_option maxRecDepth 100000
namespace Go.Proofs.YtmgopagfoemomaaGreat
open Go T
noncomputable section

variable {lo n m k i:Nat}{a b d:Pq}{c p u s:Nq}{h:Heap}{r:V×Heap}{f:Bool}{y x:Int}{j:Nat}{z t:Int}{h':Heap}{v:V}{S:ByteArray}{A:Pq}{g G H:Nat}{B a0 a1:Pq}{C D c0:Nq}{F:Bool}{w q:Int}{l:List V}
def DB lo n m k f a i c x y h:=
 LA 82 Tryz.f82 221311 0 111 lo ⟨[(1,(DQ n m k)),(2,.bool f),(32,.sl 6 a i c),(33,Iv x),(34,Iv y)],[],h⟩
def BL lo n m k f a i c x y h:=
 LA 82 Tryz.f82 2213111 2 1111 lo ⟨[(1,(DQ n m k)),(2,.bool f),(50,.sl 6 a i c),(51,Iv x),(52,Iv y)],[],h⟩
def DA lo n m k f a i c x y b j p z t h:=
 Lp (X 82) lo (pf 221123112213111 Tryz.f82) 4 (Ba 4 (Ba 3 (kS (X 82) lo (pf 1112213111 Tryz.f82) 2 (ZB (X 82) lo (pf 2213111 Tryz.f82) 2 (Ba 2 (kS (X 82) lo (pf 1111 Tryz.f82) 0 (K8 (X 82) Tryz.f82.results.toList))))))) ⟨[(1,(DQ n m k)),(2,.bool f),(50,.sl 6 a i c),(51,Iv x),(52,Iv y),(57,.sl 1 b j p),(58,Iv z),(59,Iv t)],[],h⟩
theorem Ui {e:Pq} (hk:(eO (ld (h ++ [.rows 4 60 false [Dc a n c b m p d k u e i s]]) h.length 0 0 1) λv=>eC v λv l=>eN l (eS 6 v λv v l=>br ((v:Int)==3) (eO (ld (h ++ [.rows 4 60 false [Dc a n c b m p d k u e i s]]) h.length 0 1 1) λv=>eC v λv l=>eN l (eS 5 v λv v l=>br (decide ((v:Int)>4)) (Ax (h ++ [.rows 4 60 false [Dc a n c b m p d k u e i s]])) (eO (ld (h ++ [.rows 4 60 false [Dc a n c b m p d k u e i s]]) h.length 0 2 1) λv=>eC v λv l=>eN l (eS 9 v λv v l=>br (decide ((v:Int)>12)) (Ax (h ++ [.rows 4 60 false [Dc a n c b m p d k u e i s]])) (eO (ld (h ++ [.rows 4 60 false [Dc a n c b m p d k u e i s]]) h.length 0 3 1) λv=>eC v λv l=>eN l (eS 5 v λv l o=>Al (Af lo 157 [.sl 5 v l o] (h ++ [.rows 4 60 false [Dc a n c b m p d k u e i s]])) λv l=>eB v (eO (ld l h.length 0 0 1) λv=>eC v λv o=>eN o (eS 6 v λv o x=>DB lo h.length 0 0 false v o x (o:Int) 0 l)) (Ax l))))))) (Ax (h ++ [.rows 4 60 false [Dc a n c b m p d k u e i s]]))))=some r) :
  Af lo 82 [An a n c b m p d k u e i s] h=some r :=
 eK Tryz.func82 hk
theorem DB.e :
  DB lo n m k f a i c y x h=br (decide (x<y)) (As x i (eO a λv=>eO (ld h v.1 (v.2+x.toNat) 0 6) λv=>eC v λv l=>eI .i64 v λv=>eC l λl o=>eI .i64 l λl=>eC o λo s=>eS 2 o λo b z=>eC s λs u=>eS 6 s λs w p=>eC u λu q=>eS 1 u λu g j=>eC q λq t=>eBv q λq=>eN t (Al (Af lo 13 [Bs v l o b z s w p u g j q] h) λl o=>eB l (br (v==x) (DB lo n m k f a i c y (Ap (x+1)) o) (Ax o)) (Ax o)))) (eO (ld h n m (k+0) 1) λv=>eC v λv l=>eN l (eS 6 v λv l o=>BL lo n m k f v l o (l:Int) 0 h)) :=
 lE
theorem BL.e :
  BL lo n m k f a i c y x h=br (decide (x<y)) (As x i (eO a λv=>eO (ld h v.1 (v.2+x.toNat) 0 6) λv=>eC v λv l=>eI .i64 v λv=>eC l λv l=>eI .i64 v λv=>eC l λv l=>eS 2 v λv v v=>eC l λv l=>eS 6 v λv v v=>eC l λv l=>eS 1 v λv o s=>eC l λl b=>eBv l λl=>eN b (DA lo n m k f a i c y x v o s (o:Int) 0 h))) (eO (ld h n m (k+1) 1) λv=>eC v λv l=>eN l (eS 5 v λv l o=>Al (Af lo 159 [.sl 5 v l o,.fn 160 []] h) λv l=>eB v (Ax l) (eO (ld l n m (k+2) 1) λv=>eC v λv o=>eN o (eS 9 v λv o s=>Al (Af lo 162 [.sl 9 v o s,.fn 163 [DQ n m k]] l) λv l=>eB v (Ax l) (BI l))))) :=
 lE
theorem DA.e :
  DA lo n m k f a i c y z b j p t x h=br (decide (x<t)) (As x j (eO b λv=>eO (ld h v.1 (v.2+x.toNat) 0 1) λv=>eC v λv l=>eN l (eS 6 v λv l o=>eO (ld h n m (k+0) 1) λs=>eC s λs u=>eN u (eS 6 s λs u w=>As x u (eO s λs=>eO (ld h s.1 (s.2+x.toNat) 3 1) λs=>eC s λs u=>eN u (eS 6 s λs u w=>Al (Af lo 158 (Jq s u w v l o) h) λv l=>eB v (DA lo n m k f a i c y z b j p t (Ap (x+1)) l) (Ax l))))))) (BL lo n m k f a i c y (Ap (z+1)) h) :=
 lE
def C9 lo a n c b m p f x h:=
 LA 83 Tryz.f83 221311 0 111 lo ⟨[(0,.sl 6 a n c),(1,.sl 6 b m p),(4,.bool f),(5,Iv x)],[],h⟩
theorem RO (hk:(br ((n:Int)==(m:Int)) (C9 h.length a n c b m p false 0 h) (Ax h))=some (v,h')) (hn:noId v=true:=by rfl) :
  Af lo 83 (Jq a n c b m p) h=some (v,h) :=
 eD Tryz.func83 hk hn
theorem C9.e {lo n m:Nat}{a b:Pq}{c p:Nq}{f:Bool}{x:Int}{h:Heap} :
  C9 lo a n c b m p f x h=br (decide (x<(n:Int))) (As x n (eO a λv=>eO (ld h v.1 (v.2+x.toNat) 0 6) λv=>eC v λv l=>eI .i64 v λv=>eC l λl o=>eI .i64 l λl=>eC o λo s=>eS 2 o λo y z=>eC s λs u=>eS 6 s λs w q=>eC u λu g=>eS 1 u λu i j=>eC g λg k=>eBv g λg=>eN k (As x m (eO b λk=>eO (ld h k.1 (k.2+x.toNat) 0 6) λk=>eC k λk t=>eI .i64 k λk=>eC t λt d=>eI .i64 t λt=>eC d λd e=>eS 2 d λd A B=>eC e λe C=>eS 6 e λe D E=>eC C λC G=>eS 1 C λC H J=>eC G λG K=>eBv G λG=>eN K (Al (Af lo 165 [Bs v l o y z s w q u i j g,Bs k t d A B e D E C H J G] h) λv l=>eB v (C9 lo a n c b m p f (Ap (x+1)) l) (Ax l)))))) (BI h) :=
 lE
def Dx lo a n c b m p f x h:=
 LA 84 Tryz.f84 221311 0 111 lo ⟨[(0,.sl 5 a n c),(1,.sl 5 b m p),(4,.bool f),(5,Iv x)],[],h⟩
theorem Ua (hk:(br ((n:Int)==(m:Int)) (Dx h.length a n c b m p false 0 h) (Ax h))=some (v,h')) (hn:noId v=true:=by rfl) :
  Af lo 84 [.sl 5 a n c,.sl 5 b m p] h=some (v,h) :=
 eD Tryz.func84 hk hn
theorem Dx.e :
  Dx lo a n c b m p f x h=br (decide (x<(n:Int))) (As x n (eO a λv=>eO (ld h v.1 (v.2+x.toNat) 0 5) λv=>eC v λv l=>eI .i64 v λv=>eC l λl o=>eS 2 l λl s y=>eC o λo z=>eI .i64 o λo=>eC z λz u=>eI .i64 z λz=>eC u λu w=>eI .i64 u λu=>eN w (As x m (eO b λw=>eO (ld h w.1 (w.2+x.toNat) 0 5) λw=>eC w λw q=>eI .i64 w λw=>eC q λq g=>eS 2 q λq i j=>eC g λg k=>eI .i64 g λg=>eC k λk t=>eI .i64 k λk=>eC t λt d=>eI .i64 t λt=>eN d (Al (Af lo 166 [JV v l s y o z u,JV w q i j g k t] h) λv l=>eB v (Dx lo a n c b m p f (Ap (x+1)) l) (Ax l)))))) (BI h) :=
 lE
def Da lo a n c b m p f x h:=
 LA 85 Tryz.f85 221311 0 111 lo ⟨[(0,.sl 9 a n c),(1,.sl 9 b m p),(4,.bool f),(5,Iv x)],[],h⟩
theorem RP (hk:(br ((n:Int)==(m:Int)) (Da h.length a n c b m p false 0 h) (Ax h))=some (v,h')) (hn:noId v=true:=by rfl) :
  Af lo 85 [.sl 9 a n c,.sl 9 b m p] h=some (v,h) :=
 eD Tryz.func85 hk hn
theorem Da.e {lo n m:Nat}{a b:Pq}{c p:Nq}{f:Bool}{x:Int}{h:Heap} :
  Da lo a n c b m p f x h=br (decide (x<(n:Int))) (As x n (eO a λv=>eO (ld h v.1 (v.2+x.toNat) 0 9) λv=>eC v λv l=>eI .i64 v λv=>eC l λl o=>eI .i64 l λl=>eC o λo s=>eI .i64 o λo=>eC s λs y=>eI .i64 s λs=>eC y λy z=>eI .i64 y λy=>eC z λz u=>eI .i64 z λz=>eC u λu w=>eS 2 u λu q g=>eC w λw i=>eT w λw=>eC i λi j=>eBv i λi=>eN j (As x m (eO b λj=>eO (ld h j.1 (j.2+x.toNat) 0 9) λj=>eC j λj k=>eI .i64 j λj=>eC k λk t=>eI .i64 k λk=>eC t λt d=>eI .i64 t λt=>eC d λd e=>eI .i64 d λd=>eC e λe A=>eI .i64 e λe=>eC A λA B=>eI .i64 A λA=>eC B λB C=>eS 2 B λB D E=>eC C λC G=>eT C λC=>eC G λG H=>eBv G λG=>eN H (Al (Af lo 167 [JW v l o s y z u q g w i,JW j k t d e A B D E C G] h) λv l=>eB v (Da lo a n c b m p f (Ap (x+1)) l) (Ax l)))))) (BI h) :=
 lE
def Dz lo a n c b m p f x h:=
 LA 86 Tryz.f86 221311 0 111 lo ⟨[(0,.sl 5 a n c),(1,.sl 5 b m p),(4,.bool f),(5,Iv x)],[],h⟩
theorem Ue (hk:(br ((n:Int)==(m:Int)) (Dz h.length a n c b m p false 0 h) (Ax h))=some (v,h')) (hn:noId v=true:=by rfl) :
  Af lo 86 [.sl 5 a n c,.sl 5 b m p] h=some (v,h) :=
 eD Tryz.func86 hk hn
theorem Dz.e :
  Dz lo a n c b m p f x h=br (decide (x<(n:Int))) (As x n (eO a λv=>eO (ld h v.1 (v.2+x.toNat) 0 5) λv=>eC v λv l=>eI .i64 v λv=>eC l λl o=>eI .i64 l λl=>eC o λo s=>eI .i64 o λo=>eC s λs y=>eI .i64 s λs=>eC y λy z=>eI .i64 y λy=>eN z (As x m (eO b λz=>eO (ld h z.1 (z.2+x.toNat) 0 5) λz=>eC z λz u=>eI .i64 z λz=>eC u λu w=>eI .i64 u λu=>eC w λw q=>eI .i64 w λw=>eC q λq g=>eI .i64 q λq=>eC g λg i=>eI .i64 g λg=>eN i (Al (Af lo 168 [Mx v l o s y,Mx z u w q g] h) λv l=>eB v (Dz lo a n c b m p f (Ap (x+1)) l) (Ax l)))))) (BI h) :=
 lE
def Cv lo x S h:=
 LA 88 Tryz.f88 223111 0 1111 lo ⟨[(0,Iv x),(3,.str S)],[],h⟩
theorem L3 (hk:(br (decide (x<=0)) (some (.str ⟨⟨[109,48]⟩⟩,h)) (Cv h.length x ⟨⟨[]⟩⟩ h))=some (v,h')) (hn:noId v=true:=by rfl) :
  Af lo 88 (AR x) h=some (v,h) :=
 eD Tryz.func88 hk hn
theorem Cv.e :
  Cv lo x S h=br (decide (x>0)) (Aw 1 (h ++ [.rows 1 5 false [[.int .u8 (IntKind.wrap .u8 (Ap (48+(x.tmod (10:Int)))))]]]) (.sl 1 (some (h.length,0)) 1 (some 1)) λv=>eO (Gr v) λv=>Pd (I8 v) S λv=>Cv lo (Ap (x.tdiv (10:Int))) v (h ++ [.rows 1 5 false [[.int .u8 (IntKind.wrap .u8 (Ap (48+(x.tmod (10:Int)))))]]])) (Pd ⟨⟨[109]⟩⟩ S λv=>some (.str v,h)) :=
 lE
def BS lo a n c x y h:=
 LA 89 Tryz.f89 22131 0 11 lo ⟨[(0,.sl 6 a n c),(1,Iv x),(5,Iv y)],[],h⟩
theorem Pj (hk:(BS lo a n c x 0 h)=some r) :
  Af lo 89 [.sl 6 a n c,Iv x] h=some r :=
 eK Tryz.func89 hk
theorem BS.e :
  BS lo a n c y x h=br (decide (x<(n:Int))) (As x n (eO a λv=>eO (st lo h v.1 (v.2+x.toNat) 0 (AR y)) λv=>As x n (eO a λl=>eO (st lo v l.1 (l.2+x.toNat) 1 (AR (Ap (y+1)))) λv=>As x n (eO a λl=>eO (ld v l.1 (l.2+x.toNat) 2 1) λl=>eC l λl o=>eN o (eS 2 l λl o s=>Al (Af lo 169 [.sl 2 l o s,Iv (Ap ((Ap (y+1))+1))] v) λv l=>eI .i64 v λv=>As x n (eO a λo=>eO (ld l o.1 (o.2+x.toNat) 3 1) λo=>eC o λo s=>eN s (eS 6 o λo s b=>Al (Af lo 170 [.sl 6 o s b,Iv v] l) λv l=>eI .i64 v λv=>As x n (eO a λo=>eO (ld l o.1 (o.2+x.toNat) 4 1) λo=>eC o λo s=>eN s (eS 1 o λo s b=>Al (Af lo 171 [.sl 1 o s b,Iv v] l) λv l=>eI .i64 v λv=>br (v.tmod (3:Int)==0) (As x n (eO a λo=>eO (st lo l o.1 (o.2+x.toNat) 5 [.bool true]) λo=>BS lo a n c (Ap (v+1)) (Ap (x+1)) o)) (As x n (eO a λo=>eO (st lo l o.1 (o.2+x.toNat) 5 [.bool false]) λl=>BS lo a n c (Ap (v+1)) (Ap (x+1)) l))))))))))) (some (Iv y,h)) :=
 lE
def CB lo a n c x y h:=
 LA 90 Tryz.f90 22131 0 11 lo ⟨[(0,.sl 5 a n c),(1,Iv x),(5,Iv y)],[],h⟩
theorem Qq (hk:(CB lo a n c x 0 h)=some r) :
  Af lo 90 [.sl 5 a n c,Iv x] h=some r :=
 eK Tryz.func90 hk
theorem CB.e :
  CB lo a n c y x h=br (decide (x<(n:Int))) (As x n (eO a λv=>eO (st lo h v.1 (v.2+x.toNat) 0 (AR y)) λv=>As x n (eO a λl=>eO (ld v l.1 (l.2+x.toNat) 1 1) λl=>eC l λl o=>eN o (eS 2 l λl o s=>Al (Af lo 172 [.sl 2 l o s,Iv (Ap (y+1))] v) λv l=>eI .i64 v λv=>As x n (eO a λo=>eO (st lo l o.1 (o.2+x.toNat) 2 (AR v)) λl=>As x n (eO a λo=>eO (st lo l o.1 (o.2+x.toNat) 3 (AR (Ap (v+1)))) λl=>As x n (eO a λo=>eO (st lo l o.1 (o.2+x.toNat) 4 (AR (Ap ((Ap (v+1))+1)))) λl=>CB lo a n c (Ap ((Ap ((Ap (v+1))+1))+1)) (Ap (x+1)) l))))))) (some (Iv y,h)) :=
 lE
def BT lo a n c x y h:=
 LA 91 Tryz.f91 22131 0 11 lo ⟨[(0,.sl 9 a n c),(1,Iv x),(5,Iv y)],[],h⟩
theorem Pk (hk:(BT lo a n c x 0 h)=some r) :
  Af lo 91 [.sl 9 a n c,Iv x] h=some r :=
 eK Tryz.func91 hk
theorem BT.e :
  BT lo a n c y x h=br (decide (x<(n:Int))) (As x n (eO a λv=>eO (st lo h v.1 (v.2+x.toNat) 0 (AR y)) λv=>As x n (eO a λl=>eO (st lo v l.1 (l.2+x.toNat) 1 (AR (Ap (y+1)))) λv=>As x n (eO a λl=>eO (st lo v l.1 (l.2+x.toNat) 2 (AR (Ap ((Ap (y+1))+1)))) λv=>As x n (eO a λl=>eO (st lo v l.1 (l.2+x.toNat) 3 (AR (Ap ((Ap ((Ap (y+1))+1))+1)))) λv=>As x n (eO a λl=>eO (st lo v l.1 (l.2+x.toNat) 4 (AR (Ap ((Ap ((Ap ((Ap (y+1))+1))+1))+1)))) λv=>As x n (eO a λl=>eO (st lo v l.1 (l.2+x.toNat) 5 (AR (Ap ((Ap ((Ap ((Ap ((Ap (y+1))+1))+1))+1))+1)))) λv=>As x n (eO a λl=>eO (ld v l.1 (l.2+x.toNat) 6 1) λl=>eC l λl o=>eN o (eS 2 l λl o s=>Al (Af lo 172 [.sl 2 l o s,Iv (Ap ((Ap ((Ap ((Ap ((Ap ((Ap (y+1))+1))+1))+1))+1))+1))] v) λv l=>eI .i64 v λv=>Al (Af lo 88 (AR v) l) λl o=>eT l λl=>As x n (eO a λs=>eO (st lo o s.1 (s.2+x.toNat) 7 [.str l]) λl=>br ((Ap (v+(1:Int))).tmod (3:Int)==0) (As x n (eO a λo=>eO (st lo l o.1 (o.2+x.toNat) 8 [.bool true]) λo=>BT lo a n c (Ap ((Ap (v+1))+1)) (Ap (x+1)) o)) (As x n (eO a λo=>eO (st lo l o.1 (o.2+x.toNat) 8 [.bool false]) λl=>BT lo a n c (Ap ((Ap (v+1))+1)) (Ap (x+1)) l)))))))))))) (some (Iv y,h)) :=
 lE
def CD lo a n c x y h:=
 LA 92 Tryz.f92 22131 0 11 lo ⟨[(0,.sl 5 a n c),(1,Iv x),(5,Iv y)],[],h⟩
theorem Qs (hk:(CD lo a n c x 0 h)=some r) :
  Af lo 92 [.sl 5 a n c,Iv x] h=some r :=
 eK Tryz.func92 hk
theorem CD.e :
  CD lo a n c y x h=br (decide (x<(n:Int))) (As x n (eO a λv=>eO (st lo h v.1 (v.2+x.toNat) 0 (AR y)) λv=>As x n (eO a λl=>eO (st lo v l.1 (l.2+x.toNat) 1 (AR (Ap (y+1)))) λv=>As x n (eO a λl=>eO (st lo v l.1 (l.2+x.toNat) 2 (AR (Ap ((Ap (y+1))+1)))) λv=>As x n (eO a λl=>eO (st lo v l.1 (l.2+x.toNat) 3 (AR (Ap ((Ap ((Ap (y+1))+1))+1)))) λv=>As x n (eO a λl=>eO (st lo v l.1 (l.2+x.toNat) 4 (AR (Ap ((Ap ((Ap ((Ap (y+1))+1))+1))+1)))) λv=>CD lo a n c (Ap ((Ap ((Ap ((Ap ((Ap (y+1))+1))+1))+1))+1)) (Ap (x+1)) v)))))) (some (Iv y,h)) :=
 lE
def BU lo a n c x y z h:=
 LA 93 Tryz.f93 22131 0 11 lo ⟨[(0,.sl 6 a n c),(1,Iv x),(4,Iv y),(5,Iv z)],[],h⟩
theorem Pl (hk:(BU h.length a n c x 0 0 h)=some (v,h')) (hn:noId v=true:=by rfl) :
  Af lo 93 [.sl 6 a n c,Iv x] h=some (v,h) :=
 eD Tryz.func93 hk hn
theorem BU.e :
  BU lo a n c y z x h=br (decide (x<(n:Int))) (As x n (eO a λv=>eO (ld h v.1 (v.2+x.toNat) 0 1) λv=>eC v λv l=>eN l (eI .i64 v λv=>br (v==y) (As x n (eO a λv=>eO (ld h v.1 (v.2+x.toNat) 1 1) λv=>eC v λv l=>eN l (eI .i64 v λv=>br (v==Ap (y+(1:Int))) (As x n (eO a λv=>eO (ld h v.1 (v.2+x.toNat) 2 1) λv=>eC v λv l=>eN l (eS 2 v λv l o=>Al (Af lo 173 [.sl 2 v l o,Iv (Ap ((Ap (y+1))+1))] h) λv l=>eI .i64 v λv=>br (decide (v<0)) (some (Iv (-1),l)) (As x n (eO a λo=>eO (ld l o.1 (o.2+x.toNat) 3 1) λo=>eC o λo s=>eN s (eS 6 o λo s b=>Al (Af lo 174 [.sl 6 o s b,Iv v] l) λv l=>eI .i64 v λv=>br (decide (v<0)) (some (Iv (-1),l)) (As x n (eO a λo=>eO (ld l o.1 (o.2+x.toNat) 4 1) λo=>eC o λo s=>eN s (eS 1 o λo s b=>Al (Af lo 175 [.sl 1 o s b,Iv v] l) λv l=>eI .i64 v λv=>br (decide (v<0)) (some (Iv (-1),l)) (As x n (eO a λo=>eO (ld l o.1 (o.2+x.toNat) 5 1) λo=>eC o λo s=>eN s (eB o (br (v.tmod (3:Int)==0) (BU lo a n c (Ap (v+1)) z (Ap (x+1)) l) (some (Iv (-1),l))) (br (v.tmod (3:Int)==0) (some (Iv (-1),l)) (BU lo a n c (Ap (v+1)) z (Ap (x+1)) l)))))))))))))) (some (Iv (-1),h))))) (some (Iv (-1),h))))) (some (Iv y,h)) :=
 lE
def CF lo a n c x y z h:=
 LA 94 Tryz.f94 22131 0 11 lo ⟨[(0,.sl 5 a n c),(1,Iv x),(4,Iv y),(5,Iv z)],[],h⟩
theorem Qv (hk:(CF h.length a n c x 0 0 h)=some (v,h')) (hn:noId v=true:=by rfl) :
  Af lo 94 [.sl 5 a n c,Iv x] h=some (v,h) :=
 eD Tryz.func94 hk hn
theorem CF.e :
  CF lo a n c y z x h=br (decide (x<(n:Int))) (As x n (eO a λv=>eO (ld h v.1 (v.2+x.toNat) 0 1) λv=>eC v λv l=>eN l (eI .i64 v λv=>br (v==y) (As x n (eO a λv=>eO (ld h v.1 (v.2+x.toNat) 1 1) λv=>eC v λv l=>eN l (eS 2 v λv l o=>Al (Af lo 176 [.sl 2 v l o,Iv (Ap (y+1))] h) λv l=>eI .i64 v λv=>br (decide (v<0)) (some (Iv (-1),l)) (As x n (eO a λo=>eO (ld l o.1 (o.2+x.toNat) 2 1) λo=>eC o λo s=>eN s (eI .i64 o λo=>br (o==v) (As x n (eO a λo=>eO (ld l o.1 (o.2+x.toNat) 3 1) λo=>eC o λo s=>eN s (eI .i64 o λo=>br (o==Ap (v+(1:Int))) (As x n (eO a λo=>eO (ld l o.1 (o.2+x.toNat) 4 1) λo=>eC o λo s=>eN s (eI .i64 o λo=>br (o==Ap (Ap (v+(1:Int))+(1:Int))) (CF lo a n c (Ap ((Ap ((Ap (v+1))+1))+1)) z (Ap (x+1)) l) (some (Iv (-1),l))))) (some (Iv (-1),l))))) (some (Iv (-1),l)))))))) (some (Iv (-1),h))))) (some (Iv y,h)) :=
 lE
def BV lo a n c x y z h:=
 LA 95 Tryz.f95 22131 0 11 lo ⟨[(0,.sl 9 a n c),(1,Iv x),(4,Iv y),(5,Iv z)],[],h⟩
theorem Pm (hk:(BV h.length a n c x 0 0 h)=some (v,h')) (hn:noId v=true:=by rfl) :
  Af lo 95 [.sl 9 a n c,Iv x] h=some (v,h) :=
 eD Tryz.func95 hk hn
theorem BV.e :
  BV lo a n c y z x h=br (decide (x<(n:Int))) (As x n (eO a λv=>eO (ld h v.1 (v.2+x.toNat) 0 1) λv=>eC v λv l=>eN l (eI .i64 v λv=>br (v==y) (As x n (eO a λv=>eO (ld h v.1 (v.2+x.toNat) 1 1) λv=>eC v λv l=>eN l (eI .i64 v λv=>br (v==Ap (y+(1:Int))) (As x n (eO a λv=>eO (ld h v.1 (v.2+x.toNat) 2 1) λv=>eC v λv l=>eN l (eI .i64 v λv=>br (v==Ap (Ap (y+(1:Int))+(1:Int))) (As x n (eO a λv=>eO (ld h v.1 (v.2+x.toNat) 3 1) λv=>eC v λv l=>eN l (eI .i64 v λv=>br (v==Ap (Ap (Ap (y+(1:Int))+(1:Int))+(1:Int))) (As x n (eO a λv=>eO (ld h v.1 (v.2+x.toNat) 4 1) λv=>eC v λv l=>eN l (eI .i64 v λv=>br (v==Ap (Ap (Ap (Ap (y+(1:Int))+(1:Int))+(1:Int))+(1:Int))) (As x n (eO a λv=>eO (ld h v.1 (v.2+x.toNat) 5 1) λv=>eC v λv l=>eN l (eI .i64 v λv=>br (v==Ap (Ap (Ap (Ap (Ap (y+(1:Int))+(1:Int))+(1:Int))+(1:Int))+(1:Int))) (As x n (eO a λv=>eO (ld h v.1 (v.2+x.toNat) 6 1) λv=>eC v λv l=>eN l (eS 2 v λv l o=>Al (Af lo 176 [.sl 2 v l o,Iv (Ap ((Ap ((Ap ((Ap ((Ap ((Ap (y+1))+1))+1))+1))+1))+1))] h) λv l=>eI .i64 v λv=>br (decide (v<0)) (some (Iv (-1),l)) (As x n (eO a λo=>eO (ld l o.1 (o.2+x.toNat) 7 1) λo=>eC o λo s=>eN s (eT o λo=>Al (Af l.length 88 (AR v) l) λl s=>eT l λl=>br (o.toList==l.toList) (As x n (eO a λl=>eO (ld s l.1 (l.2+x.toNat) 8 1) λl=>eC l λl o=>eN o (eB l (br ((Ap (v+(1:Int))).tmod (3:Int)==0) (BV lo a n c (Ap ((Ap (v+1))+1)) z (Ap (x+1)) s) (some (Iv (-1),s))) (br ((Ap (v+(1:Int))).tmod (3:Int)==0) (some (Iv (-1),s)) (BV lo a n c (Ap ((Ap (v+1))+1)) z (Ap (x+1)) s))))) (some (Iv (-1),s)))))))) (some (Iv (-1),h))))) (some (Iv (-1),h))))) (some (Iv (-1),h))))) (some (Iv (-1),h))))) (some (Iv (-1),h))))) (some (Iv (-1),h))))) (some (Iv y,h)) :=
 lE
def CH lo a n c x y z h:=
 LA 96 Tryz.f96 22131 0 11 lo ⟨[(0,.sl 5 a n c),(1,Iv x),(4,Iv y),(5,Iv z)],[],h⟩
theorem Qx (hk:(CH h.length a n c x 0 0 h)=some (v,h')) (hn:noId v=true:=by rfl) :
  Af lo 96 [.sl 5 a n c,Iv x] h=some (v,h) :=
 eD Tryz.func96 hk hn
theorem CH.e :
  CH lo a n c y z x h=br (decide (x<(n:Int))) (As x n (eO a λv=>eO (ld h v.1 (v.2+x.toNat) 0 1) λv=>eC v λv l=>eN l (eI .i64 v λv=>br (v==y) (As x n (eO a λv=>eO (ld h v.1 (v.2+x.toNat) 1 1) λv=>eC v λv l=>eN l (eI .i64 v λv=>br (v==Ap (y+(1:Int))) (As x n (eO a λv=>eO (ld h v.1 (v.2+x.toNat) 2 1) λv=>eC v λv l=>eN l (eI .i64 v λv=>br (v==Ap (Ap (y+(1:Int))+(1:Int))) (As x n (eO a λv=>eO (ld h v.1 (v.2+x.toNat) 3 1) λv=>eC v λv l=>eN l (eI .i64 v λv=>br (v==Ap (Ap (Ap (y+(1:Int))+(1:Int))+(1:Int))) (As x n (eO a λv=>eO (ld h v.1 (v.2+x.toNat) 4 1) λv=>eC v λv l=>eN l (eI .i64 v λv=>br (v==Ap (Ap (Ap (Ap (y+(1:Int))+(1:Int))+(1:Int))+(1:Int))) (CH lo a n c (Ap ((Ap ((Ap ((Ap ((Ap (y+1))+1))+1))+1))+1)) z (Ap (x+1)) h) (some (Iv (-1),h))))) (some (Iv (-1),h))))) (some (Iv (-1),h))))) (some (Iv (-1),h))))) (some (Iv (-1),h))))) (some (Iv y,h)) :=
 lE
def C5 lo a n c x y z h:=
 LA 97 Tryz.f97 2213111 0 1111 lo ⟨[(0,.sl 6 a n c),(1,Iv x),(4,Iv y),(5,Iv z)],[],h⟩
theorem RI (hk:(br (decide (Ap (x - (n:Int))<0)) (some (Iv (-1),h)) (C5 h.length a n c (Ap (x - (n:Int))) 0 0 h))=some (v,h')) (hn:noId v=true:=by rfl) :
  Af lo 97 [.sl 6 a n c,Iv x] h=some (v,h) :=
 eD Tryz.func97 hk hn
theorem C5.e :
  C5 lo a n c y z x h=br (decide (x<(n:Int))) (As x n (eO a λv=>eO (ld h v.1 (v.2+x.toNat) 0 6) λv=>eC v λv l=>eI .i64 v λv=>eC l λl o=>eI .i64 l λl=>eC o λo s=>eS 2 o λo b u=>eC s λs w=>eS 6 s λs p q=>eC w λw g=>eS 1 w λw i j=>eC g λg k=>eBv g λg=>eN k (Al (Af lo 177 [Bs v l o b u s p q w i j g,Iv y] h) λv l=>eI .i64 v λv=>br (decide (v<0)) (some (Iv (-1),l)) (C5 lo a n c v z (Ap (x+1)) l)))) (some (Iv y,h)) :=
 lE
def Du lo a n c x y z h:=
 LA 98 Tryz.f98 2213111 0 1111 lo ⟨[(0,.sl 5 a n c),(1,Iv x),(4,Iv y),(5,Iv z)],[],h⟩
theorem TZ (hk:(br (decide (Ap (x - (n:Int))<0)) (some (Iv (-1),h)) (Du h.length a n c (Ap (x - (n:Int))) 0 0 h))=some (v,h')) (hn:noId v=true:=by rfl) :
  Af lo 98 [.sl 5 a n c,Iv x] h=some (v,h) :=
 eD Tryz.func98 hk hn
theorem Du.e :
  Du lo a n c y z x h=br (decide (x<(n:Int))) (As x n (eO a λv=>eO (ld h v.1 (v.2+x.toNat) 0 5) λv=>eC v λv l=>eI .i64 v λv=>eC l λl o=>eS 2 l λl s b=>eC o λo u=>eI .i64 o λo=>eC u λu w=>eI .i64 u λu=>eC w λw p=>eI .i64 w λw=>eN p (Al (Af lo 178 [JV v l s b o u w,Iv y] h) λv l=>eI .i64 v λv=>br (decide (v<0)) (some (Iv (-1),l)) (Du lo a n c v z (Ap (x+1)) l)))) (some (Iv y,h)) :=
 lE
def C6 lo a n c x y z h:=
 LA 99 Tryz.f99 2213111 0 1111 lo ⟨[(0,.sl 9 a n c),(1,Iv x),(4,Iv y),(5,Iv z)],[],h⟩
theorem RJ (hk:(br (decide (Ap (x - (n:Int))<0)) (some (Iv (-1),h)) (C6 h.length a n c (Ap (x - (n:Int))) 0 0 h))=some (v,h')) (hn:noId v=true:=by rfl) :
  Af lo 99 [.sl 9 a n c,Iv x] h=some (v,h) :=
 eD Tryz.func99 hk hn
theorem C6.e :
  C6 lo a n c y z x h=br (decide (x<(n:Int))) (As x n (eO a λv=>eO (ld h v.1 (v.2+x.toNat) 0 9) λv=>eC v λv l=>eI .i64 v λv=>eC l λl o=>eI .i64 l λl=>eC o λo s=>eI .i64 o λo=>eC s λs b=>eI .i64 s λs=>eC b λb u=>eI .i64 b λb=>eC u λu w=>eI .i64 u λu=>eC w λw p=>eS 2 w λw q g=>eC p λp i=>eT p λp=>eC i λi j=>eBv i λi=>eN j (Al (Af lo 179 [JW v l o s b u w q g p i,Iv y] h) λv l=>eI .i64 v λv=>br (decide (v<0)) (some (Iv (-1),l)) (C6 lo a n c v z (Ap (x+1)) l)))) (some (Iv y,h)) :=
 lE
theorem T5 (hk:(br (decide (Ap (x - (n:Int))<0)) (some (Iv (-1),h)) (some (Iv (Ap (x - (n:Int))),h)))=some (v,h')) (hn:noId v=true:=by rfl) :
  Af lo 100 [.sl 5 a n c,Iv x] h=some (v,h) :=
 eD Tryz.func100 hk hn
def EY lo f x a n c b m p d k u e i s h:=
 LA 101 Tryz.f101 221311 0 111 lo ⟨[(1,.lp 1 0),(2,.bool f),(3,Iv x)],[(1,(Dc a n c b m p d k u e i s))],h⟩
def Ep lo f x a n c b m p d k u e i s h:=
 LA 101 Tryz.f101 2213111 2 1111 lo ⟨[(1,.lp 1 0),(2,.bool f),(4,Iv x)],[(1,(Dc a n c b m p d k u e i s))],h⟩
def Eo lo f x a n c b m p d k u e i s h:=
 LA 101 Tryz.f101 22131111 4 11111 lo ⟨[(1,.lp 1 0),(2,.bool f),(5,Iv x)],[(1,(Dc a n c b m p d k u e i s))],h⟩
def En lo f x a n c b m p d k u e i s h:=
 LA 101 Tryz.f101 221311111 6 111111 lo ⟨[(1,.lp 1 0),(2,.bool f),(6,Iv x)],[(1,(Dc a n c b m p d k u e i s))],h⟩
theorem Zv {e:Pq} (hk:(br ((n:Int)==3) (br (decide ((m:Int)>4)) (Ax h) (br (decide ((k:Int)>12)) (Ax h) (br (decide ((i:Int)>80)) (Ax h) (EY lo false 0 a n c b m p d k u e i s h)))) (Ax h))=some r) :
  Af lo 101 [An a n c b m p d k u e i s] h=some r :=
 eK Tryz.func101 hk
theorem EY.e {lo n m k i:Nat}{f:Bool}{x:Int}{a b d A:Pq}{c p u s:Nq}{h:Heap} :
  EY lo f x a n c b m p d k u A i s h=br (decide (x<3)) (As x n (eO a λv=>eO (ld h v.1 (v.2+x.toNat) 0 1) λv=>eC v λv l=>eN l (eI .i64 v λv=>br (v==x) (As x n (eO a λv=>eO (ld h v.1 (v.2+x.toNat) 0 6) λv=>eC v λv l=>eI .i64 v λv=>eC l λl o=>eI .i64 l λl=>eC o λo y=>eS 2 o λo z w=>eC y λy q=>eS 6 y λy g j=>eC q λq t=>eS 1 q λq e B=>eC t λt C=>eBv t λt=>eN C (Al (Af lo 53 [Bs v l o z w y g j q e B t] h) λv l=>eB v (EY lo f (Ap (x+1)) a n c b m p d k u A i s l) (Ax l)))) (Ax h)))) (Ep lo f 0 a n c b m p d k u A i s h) :=
 lE
theorem Ep.e :
  Ep lo f x b m c a n p d k u A i s h=br (decide (x<(n:Int))) (As x n (eO a λv=>eO (ld h v.1 (v.2+x.toNat) 0 5) λv=>eC v λv l=>eI .i64 v λv=>eC l λl o=>eS 2 l λl y z=>eC o λo w=>eI .i64 o λo=>eC w λw q=>eI .i64 w λw=>eC q λq g=>eI .i64 q λq=>eN g (Al (Af lo 180 [JV v l y z o w q] h) λv l=>eB v (Ep lo f (Ap (x+1)) b m c a n p d k u A i s l) (Ax l)))) (Eo lo f 0 b m c a n p d k u A i s h) :=
 lE
theorem Eo.e {lo m k n i:Nat}{f:Bool}{x:Int}{b d a A:Pq}{c p u s:Nq}{h:Heap} :
  Eo lo f x b m c d k p a n u A i s h=br (decide (x<(n:Int))) (As x n (eO a λv=>eO (ld h v.1 (v.2+x.toNat) 0 9) λv=>eC v λv l=>eI .i64 v λv=>eC l λl o=>eI .i64 l λl=>eC o λo y=>eI .i64 o λo=>eC y λy z=>eI .i64 y λy=>eC z λz w=>eI .i64 z λz=>eC w λw q=>eI .i64 w λw=>eC q λq g=>eS 2 q λq j t=>eC g λg e=>eT g λg=>eC e λe B=>eBv e λe=>eN B (Al (Af lo 181 [An b m c d k p a n u A i s,JW v l o y z w q j t g e] h) λv l=>eB v (Eo lo f (Ap (x+1)) b m c d k p a n u A i s l) (Ax l)))) (En lo f 0 b m c d k p a n u A i s h) :=
 lE
theorem En.e :
  En lo f x b m c d k p A i u a n s h=br (decide (x<(n:Int))) (As x n (eO a λv=>eO (ld h v.1 (v.2+x.toNat) 0 5) λv=>eC v λv l=>eI .i64 v λv=>eC l λl o=>eI .i64 l λl=>eC o λo y=>eI .i64 o λo=>eC y λy z=>eI .i64 y λy=>eC z λz w=>eI .i64 z λz=>eN w (Al (Af lo 182 [Mx v l o y z] h) λv l=>eB v (En lo f (Ap (x+1)) b m c d k p A i u a n s l) (Ax l)))) (Al (Af lo 183 [An b m c d k p A i u a n s] h) λv l=>eB v (BI l) (Ax l)) :=
 lE
theorem Zw {e:Pq} (hk:(Al (Af lo 54 (BQ x 1 5) h) λv l=>eB v (Al (Af lo 184 [An a n c b m p d k u e i s,Bi x y z t S f] l) λv o=>eU v λv=>eC v λv w=>eA v λv=>eC v λv q=>eS 6 v λv g j=>eC q λq A=>eS 5 q λq B C=>eC A λA D=>eS 9 A λA E G=>eC D λD H=>eS 5 D λD J K=>eN H (eC w λw H=>eB w (eN H (some (.tup [An v g j q B C A E G D J K,.bool true],o))) (eN H (some (.tup [An v g j q B C A E G D J K,.bool false],o))))) (Al (Af lo 54 (BQ x 6 9) l) λv l=>eB v (Al (Af lo 185 [An a n c b m p d k u e i s,Bi x y z t S f] l) λv o=>eU v λv=>eC v λv w=>eA v λv=>eC v λv q=>eS 6 v λv g j=>eC q λq A=>eS 5 q λq B C=>eC A λA D=>eS 9 A λA E G=>eC D λD H=>eS 5 D λD J K=>eN H (eC w λw H=>eB w (eN H (some (.tup [An v g j q B C A E G D J K,.bool true],o))) (eN H (some (.tup [An v g j q B C A E G D J K,.bool false],o))))) (Al (Af lo 54 (BQ x 10 13) l) λv l=>eB v (Al (Af lo 186 [An a n c b m p d k u e i s,Bi x y z t S f] l) λv o=>eU v λv=>eC v λv w=>eA v λv=>eC v λv q=>eS 6 v λv g j=>eC q λq A=>eS 5 q λq B C=>eC A λA D=>eS 9 A λA E G=>eC D λD H=>eS 5 D λD J K=>eN H (eC w λw H=>eB w (eN H (some (.tup [An v g j q B C A E G D J K,.bool true],o))) (eN H (some (.tup [An v g j q B C A E G D J K,.bool false],o))))) (some (.tup [An a n c b m p d k u e i s,.bool false],l)))))=some r) :
  Af lo 102 [An a n c b m p d k u e i s,Bi x y z t S f] h=some r :=
 eK Tryz.func102 hk
def DX lo x a n c b m p d k u e i s j A g C G B H D J a0 P c0 n0 a1 n1 c1 n2 a2 n3 c2 n4 a3 n5 c3 n6 a4 n7 c4 a5 n8 c5 h:=
 LA 103 Tryz.f103 221311 0 111 lo ⟨[(1,.lp 1 0),(2,.lp 2 0),(3,.lp 3 0),(4,Iv x)],[(1,(Dc a n c b m p d k u e i s)),(2,[.sl j A g C,.sl G B H D,.sl J a0 P c0,.sl n0 a1 n1 c1]),(3,[.sl n2 a2 n3 c2,.sl n4 a3 n5 c3,.sl n6 a4 n7 c4,.sl 5 a5 n8 c5])],h⟩
def DW lo x a n c b m p d k u e i s j A g C G B H D J a0 P c0 n0 a1 n1 c1 n2 a2 n3 c2 n4 a3 n5 c3 n6 a4 n7 c4 a5 n8 c5 h:=
 LA 103 Tryz.f103 2213111 2 1111 lo ⟨[(1,.lp 1 0),(2,.lp 2 0),(3,.lp 3 0),(5,Iv x)],[(1,(Dc a n c b m p d k u e i s)),(2,[.sl j A g C,.sl G B H D,.sl J a0 P c0,.sl n0 a1 n1 c1]),(3,[.sl n2 a2 n3 c2,.sl n4 a3 n5 c3,.sl n6 a4 n7 c4,.sl 5 a5 n8 c5])],h⟩
def DV lo x a n c b m p d k u e i s j A g C G B H D J a0 P c0 n0 a1 n1 c1 n2 a2 n3 c2 n4 a3 n5 c3 n6 a4 n7 c4 a5 n8 c5 h:=
 LA 103 Tryz.f103 22131111 4 11111 lo ⟨[(1,.lp 1 0),(2,.lp 2 0),(3,.lp 3 0),(7,Iv x)],[(1,(Dc a n c b m p d k u e i s)),(2,[.sl j A g C,.sl G B H D,.sl J a0 P c0,.sl n0 a1 n1 c1]),(3,[.sl n2 a2 n3 c2,.sl n4 a3 n5 c3,.sl n6 a4 n7 c4,.sl 5 a5 n8 c5])],h⟩
theorem UM {e:Pq} (hk:(Aw 5 (h ++ [.rows 5 126 false []]) (.sl 5 a n c) λv=>DJ lo 126 5 40 (.sl 5 (some (h.length,0)) 0 (some 0)) v (h ++ [.rows 5 126 false []]) λv l=>eS 5 v λv o x=>DX lo 0 b m p d k u e i s a n c 0 none 0 (some 0) 0 none 0 (some 0) 0 none 0 (some 0) 0 none 0 (some 0) 0 none 0 (some 0) 0 none 0 (some 0) 0 none 0 (some 0) v o x l)=some r) :
  Af lo 103 [An b m p d k u e i s a n c] h=some r :=
 eK Tryz.func103 hk
theorem DX.e {lo n m k i j g G H J P n0 n1 n2 n3 n4 n5 n6 n7 n8:Nat}{x:Int}{a b d A B a0 a1 a2 a3 a4 a5 a6:Pq}{c p u s C D c0 c1 c2 c3 c4 c5:Nq}{h:Heap} :
  DX lo x a n c b m p d k u A i s j B g C G a0 H D J a1 P c0 n0 a2 n1 c1 n2 a3 n3 c2 n4 a4 n5 c3 n6 a5 n7 c4 a6 n8 c5 h=br (decide (x<(n:Int))) (As x n (eO a λv=>eO (ld h v.1 (v.2+x.toNat) 0 6) λv=>eC v λv l=>eI .i64 v λv=>eC l λl o=>eI .i64 l λl=>eC o λo y=>eS 2 o λo z w=>eC y λy q=>eS 6 y λy t e=>eC q λq f=>eS 1 q λq E K=>eC f λf L=>eBv f λf=>eN L (Al (Af lo 58 [Bs v l o z w y t e q E K f] h) λv l=>eA v λv=>eC v λv o=>eI .i64 v λv=>eC o λo y=>eI .i64 o λo=>eC y λy z=>eS 2 y λy w q=>eC z λz t=>eS 6 z λz e f=>eC t λt E=>eS 1 t λt K L=>eC E λE M=>eBv E λE=>eN M (Aw 6 (l ++ [.rows 6 29 false [DO v o y w q z e f t K L E]]) (.sl 6 (some (l.length,0)) 1 (some 1)) λM=>DJ lo 29 6 96 (.sl n2 a3 n3 c2) M (l ++ [.rows 6 29 false [DO v o y w q z e f t K L E]]) λv l=>eS 6 v λv o y=>DX lo (Ap (x+1)) a n c b m p d k u A i s j B g C G a0 H D J a1 P c0 n0 a2 n1 c1 6 v o y n4 a4 n5 c3 n6 a5 n7 c4 a6 n8 c5 l)))) (DW lo 0 a n c b m p d k u A i s j B g C G a0 H D J a1 P c0 n0 a2 n1 c1 n2 a3 n3 c2 n4 a4 n5 c3 n6 a5 n7 c4 a6 n8 c5 h) :=
 lE
theorem DW.e {lo m n k i j g G H J P n0 n1 n2 n3 n4 n5 n6 n7 n8:Nat}{x:Int}{b a d A B a0 a1 a2 a3 a4 a5 a6:Pq}{c p u s C D c0 c1 c2 c3 c4 c5:Nq}{h:Heap} :
  DW lo x b m c a n p d k u A i s j B g C G a0 H D J a1 P c0 n0 a2 n1 c1 n2 a3 n3 c2 n4 a4 n5 c3 n6 a5 n7 c4 a6 n8 c5 h=br (decide (x<(n:Int))) (As x n (eO a λv=>eO (ld h v.1 (v.2+x.toNat) 0 5) λv=>eC v λv l=>eI .i64 v λv=>eC l λl o=>eS 2 l λl y z=>eC o λo w=>eI .i64 o λo=>eC w λw q=>eI .i64 w λw=>eC q λq t=>eI .i64 q λq=>eN t (Aw 2 (h ++ [.rows 2 36 false []]) (.sl 2 l y z) λl=>DJ lo 36 2 16 (.sl 2 (some (h.length,0)) 0 (some 0)) l (h ++ [.rows 2 36 false []]) λl y=>eS 2 l λl z t=>Aw 5 (y ++ [.rows 5 66 false [O8 v l z t o w q]]) (.sl 5 (some (y.length,0)) 1 (some 1)) λe=>DJ lo 66 5 56 (.sl n4 a4 n5 c3) e (y ++ [.rows 5 66 false [O8 v l z t o w q]]) λv l=>eS 5 v λv o y=>DW lo (Ap (x+1)) b m c a n p d k u A i s j B g C G a0 H D J a1 P c0 n0 a2 n1 c1 n2 a3 n3 c2 5 v o y n6 a5 n7 c4 a6 n8 c5 l))) (DV lo 0 b m c a n p d k u A i s j B g C G a0 H D J a1 P c0 n0 a2 n1 c1 n2 a3 n3 c2 n4 a4 n5 c3 n6 a5 n7 c4 a6 n8 c5 h) :=
 lE
theorem DV.e {lo J P n n0 n1 n2 n3 n4 n5 n6 n7 n8 m k i j g G H:Nat}{x:Int}{a0 a1 a a2 a3 a4 a5 a6 b d A B:Pq}{C D c0 c1 c2 c3 c4 c5 c p u s:Nq}{h:Heap} :
  DV lo x a0 J C a1 P D a n c0 a2 n0 c1 n1 a3 n2 c2 n3 a4 n4 c3 n5 a5 n6 c4 n7 a6 n8 c5 m b k c i d j p g A G u B H s h=br (decide (x<(n:Int))) (As x n (eO a λv=>eO (ld h v.1 (v.2+x.toNat) 0 9) λv=>eC v λv l=>eI .i64 v λv=>eC l λl o=>eI .i64 l λl=>eC o λo y=>eI .i64 o λo=>eC y λy z=>eI .i64 y λy=>eC z λz w=>eI .i64 z λz=>eC w λw q=>eI .i64 w λw=>eC q λq t=>eS 2 q λq e f=>eC t λt E=>eT t λt=>eC E λE K=>eBv E λE=>eN K (Al (Af lo 187 [AA y z w q e f t E] h) λy z=>eA y λy=>eC y λy w=>eI .i64 y λy=>eC w λw q=>eI .i64 w λw=>eC q λq t=>eI .i64 q λq=>eC t λt e=>eS 2 t λt f E=>eC e λe K=>eT e λe=>eC K λK L=>eBv K λK=>eN L (Aw 9 (z ++ [.rows 9 123 false [O9 v l o y w q t f E e K]]) (.sl 9 (some (z.length,0)) 1 (some 1)) λL=>DJ lo 123 9 96 (.sl g A G u) L (z ++ [.rows 9 123 false [O9 v l o y w q t f E e K]]) λv l=>eS 9 v λv o y=>DV lo (Ap (x+1)) a0 J C a1 P D a n c0 a2 n0 c1 n1 a3 n2 c2 n3 a4 n4 c3 n5 a5 n6 c4 n7 a6 n8 c5 m b k c i d j p 9 v o y B H s l)))) (some (.agg [.sl m b k c,.sl i d j p,.sl g A G u,.sl 5 B H s],h)) :=
 lE
def C3 lo a n c b m p x h:=
 LA 104 Tryz.f104 221311 0 111 lo ⟨[(0,.sl 6 a n c),(3,.sl 6 b m p),(4,Iv x)],[],h⟩
theorem RG (hk:(Bf (decide ((0:Int)<=(n:Int)/\(n:Int)<=(n:Int)/\(n:Int)<=140737488355328/\(n:Int)*((96:Nat):Int)<=281474976710656)) (C3 lo a n c (some (h.length,0)) n (some n) 0 (h ++ [.rows 6 29 false (List.replicate n [Iv 0,Iv 0,.sl 0 none 0 (some 0),.sl 0 none 0 (some 0),.sl 0 none 0 (some 0),.bool false])])))=some r) :
  Af lo 104 (Bm a n c) h=some r :=
 eK Tryz.func104 hk
theorem C3.e :
  C3 lo b n p a m c x h=br (decide (x<(n:Int))) (As x n (eO b λv=>eO (ld h v.1 (v.2+x.toNat) 0 6) λv=>eC v λv l=>eI .i64 v λv=>eC l λl o=>eI .i64 l λl=>eC o λo s=>eS 2 o λo y z=>eC s λs u=>eS 6 s λs w q=>eC u λu g=>eS 1 u λu i j=>eC g λg k=>eBv g λg=>eN k (Al (Af lo 188 [Bs v l o y z s w q u i j g] h) λv l=>eA v λv=>eC v λv o=>eI .i64 v λv=>eC o λo s=>eI .i64 o λo=>eC s λs y=>eS 2 s λs z u=>eC y λy w=>eS 6 y λy q g=>eC w λw i=>eS 1 w λw j k=>eC i λi t=>eBv i λi=>eN t (As x m (eO a λt=>eO (st lo l t.1 (t.2+x.toNat) 0 (DO v o s z u y q g w j k i)) λv=>C3 lo b n p a m c (Ap (x+1)) v))))) (some (.sl 6 a m c,h)) :=
 lE
def Dq lo a n c b m p x h:=
 LA 105 Tryz.f105 221311 0 111 lo ⟨[(0,.sl 5 a n c),(3,.sl 5 b m p),(4,Iv x)],[],h⟩
theorem TN (hk:(Bf (decide ((0:Int)<=(n:Int)/\(n:Int)<=(n:Int)/\(n:Int)<=140737488355328/\(n:Int)*((56:Nat):Int)<=281474976710656)) (Dq lo a n c (some (h.length,0)) n (some n) 0 (h ++ [.rows 5 66 false (List.replicate n [Iv 0,.sl 0 none 0 (some 0),Iv 0,Iv 0,Iv 0])])))=some r) :
  Af lo 105 [.sl 5 a n c] h=some r :=
 eK Tryz.func105 hk
theorem Dq.e :
  Dq lo b n p a m c x h=br (decide (x<(n:Int))) (As x n (eO b λv=>eO (ld h v.1 (v.2+x.toNat) 0 5) λv=>eC v λv l=>eI .i64 v λv=>eC l λl o=>eS 2 l λl s y=>eC o λo z=>eI .i64 o λo=>eC z λz u=>eI .i64 z λz=>eC u λu w=>eI .i64 u λu=>eN w (Al (Af lo 189 [JV v l s y o z u] h) λv l=>eA v λv=>eC v λv o=>eI .i64 v λv=>eC o λo s=>eS 2 o λo y z=>eC s λs u=>eI .i64 s λs=>eC u λu w=>eI .i64 u λu=>eC w λw q=>eI .i64 w λw=>eN q (As x m (eO a λq=>eO (st lo l q.1 (q.2+x.toNat) 0 (O8 v o y z s u w)) λv=>Dq lo b n p a m c (Ap (x+1)) v))))) (some (.sl 5 a m c,h)) :=
 lE
def C4 lo a n c b m p x h:=
 LA 106 Tryz.f106 221311 0 111 lo ⟨[(0,.sl 9 a n c),(3,.sl 9 b m p),(4,Iv x)],[],h⟩
theorem RH (hk:(Bf (decide ((0:Int)<=(n:Int)/\(n:Int)<=(n:Int)/\(n:Int)<=140737488355328/\(n:Int)*((96:Nat):Int)<=281474976710656)) (C4 lo a n c (some (h.length,0)) n (some n) 0 (h ++ [.rows 9 123 false (List.replicate n [Iv 0,Iv 0,Iv 0,Iv 0,Iv 0,Iv 0,.sl 0 none 0 (some 0),.str ⟨⟨[]⟩⟩,.bool false])])))=some r) :
  Af lo 106 [.sl 9 a n c] h=some r :=
 eK Tryz.func106 hk
theorem C4.e :
  C4 lo b n p a m c x h=br (decide (x<(n:Int))) (As x n (eO b λv=>eO (ld h v.1 (v.2+x.toNat) 0 9) λv=>eC v λv l=>eI .i64 v λv=>eC l λl o=>eI .i64 l λl=>eC o λo s=>eI .i64 o λo=>eC s λs y=>eI .i64 s λs=>eC y λy z=>eI .i64 y λy=>eC z λz u=>eI .i64 z λz=>eC u λu w=>eS 2 u λu q g=>eC w λw i=>eT w λw=>eC i λi j=>eBv i λi=>eN j (Al (Af lo 190 [JW v l o s y z u q g w i] h) λv l=>eA v λv=>eC v λv o=>eI .i64 v λv=>eC o λo s=>eI .i64 o λo=>eC s λs y=>eI .i64 s λs=>eC y λy z=>eI .i64 y λy=>eC z λz u=>eI .i64 z λz=>eC u λu w=>eI .i64 u λu=>eC w λw q=>eS 2 w λw g i=>eC q λq j=>eT q λq=>eC j λj k=>eBv j λj=>eN k (As x m (eO a λk=>eO (st lo l k.1 (k.2+x.toNat) 0 (O9 v o s y z u w g i q j)) λv=>C4 lo b n p a m c (Ap (x+1)) v))))) (some (.sl 9 a m c,h)) :=
 lE
def Ds lo a n c b m p x h:=
 LA 107 Tryz.f107 221311 0 111 lo ⟨[(0,.sl 5 a n c),(3,.sl 5 b m p),(4,Iv x)],[],h⟩
theorem TT (hk:(Bf (decide ((0:Int)<=(n:Int)/\(n:Int)<=(n:Int)/\(n:Int)<=140737488355328/\(n:Int)*((40:Nat):Int)<=281474976710656)) (Ds lo a n c (some (h.length,0)) n (some n) 0 (h ++ [.rows 5 126 false (List.replicate n (We 0 0 0 0 0))])))=some r) :
  Af lo 107 [.sl 5 a n c] h=some r :=
 eK Tryz.func107 hk
theorem Ds.e :
  Ds lo b n p a m c x h=br (decide (x<(n:Int))) (As x n (eO b λv=>eO (ld h v.1 (v.2+x.toNat) 0 5) λv=>eC v λv l=>eI .i64 v λv=>eC l λl o=>eI .i64 l λl=>eC o λo s=>eI .i64 o λo=>eC s λs y=>eI .i64 s λs=>eC y λy z=>eI .i64 y λy=>eN z (Al (Af lo 191 [Mx v l o s y] h) λv l=>eA v λv=>eC v λv o=>eI .i64 v λv=>eC o λo s=>eI .i64 o λo=>eC s λs y=>eI .i64 s λs=>eC y λy z=>eI .i64 y λy=>eC z λz u=>eI .i64 z λz=>eN u (As x m (eO a λu=>eO (st lo l u.1 (u.2+x.toNat) 0 (We v o s y z)) λv=>Ds lo b n p a m c (Ap (x+1)) v))))) (some (.sl 5 a m c,h)) :=
 lE
def Bv lo f x a n c h:=
 LA 111 Tryz.f111 22131 0 11 lo ⟨[(1,.lp 1 0),(2,.bool f),(3,Iv x)],[(1,(Bm a n c))],h⟩
theorem Qn (hk:(Bv h.length false 0 a n c h)=some (v,h')) (hn:noId v=true:=by rfl) :
  Af lo 111 [Bh a n c] h=some (v,h) :=
 eD Tryz.func111 hk hn
theorem Bv.e :
  Bv lo f x a n c h=br (decide (x<(n:Int))) (As x n (eO a λv=>eO (ld h v.1 (v.2+x.toNat) 1 2) λv=>eC v λv l=>eI .i64 v λv=>eC l λl o=>eI .i64 l λl=>eN o (br ((v==0)&&((l==0)&&true)) (As x n (eO a λv=>eO (ld h v.1 (v.2+x.toNat) 1 2) λv=>eC v λv l=>eI .i64 v λv=>eC l λl o=>eI .i64 l λl=>eN o (br ((v==0)&&((l==0)&&true)) (As x n (eO a λv=>eO (ld h v.1 (v.2+x.toNat) 0 1) λv=>eC v λv l=>eN l (eI .i64 v λv=>br (v==0) (As x n (eO a λv=>eO (ld h v.1 (v.2+x.toNat) 4 1) λv=>eC v λv l=>eN l (eT v λv=>br (v.toList==(ByteArray.mk #[]).toList) (As x n (eO a λv=>eO (ld h v.1 (v.2+x.toNat) 5 1) λv=>eC v λv l=>eN l (eB v (Ax h) (As x n (eO a λv=>eO (ld h v.1 (v.2+x.toNat) 3 1) λv=>eC v λv l=>eN l (eS 2 v λv v l=>br (decide ((v:Int)>0)) (Ax h) (Bv lo f (Ap (x+1)) a n c h))))))) (Ax h)))) (Ax h)))) (Bv lo f (Ap (x+1)) a n c h)))) (As x n (eO a λv=>eO (ld h v.1 (v.2+x.toNat) 0 6) λv=>eC v λv l=>eI .i64 v λv=>eC l λl o=>eI .i64 l λl=>eC o λo s=>eI .i64 o λo=>eC s λs b=>eS 2 s λs y z=>eC b λb u=>eT b λb=>eC u λu w=>eBv u λu=>eN w (Al (Af lo 112 [AA v l o s y z b u] h) λv l=>eB v (As x n (eO a λv=>eO (ld l v.1 (v.2+x.toNat) 0 1) λv=>eC v λv o=>eN o (eI .i64 v λv=>br (v==x) (As x n (eO a λv=>eO (ld l v.1 (v.2+x.toNat) 1 2) λv=>eC v λv o=>eI .i64 v λv=>eC o λo s=>eI .i64 o λo=>eN s (br ((v==0)&&((o==0)&&true)) (As x n (eO a λv=>eO (ld l v.1 (v.2+x.toNat) 0 1) λv=>eC v λv o=>eN o (eI .i64 v λv=>br (v==0) (As x n (eO a λv=>eO (ld l v.1 (v.2+x.toNat) 4 1) λv=>eC v λv o=>eN o (eT v λv=>br (v.toList==(ByteArray.mk #[]).toList) (As x n (eO a λv=>eO (ld l v.1 (v.2+x.toNat) 5 1) λv=>eC v λv o=>eN o (eB v (Ax l) (As x n (eO a λv=>eO (ld l v.1 (v.2+x.toNat) 3 1) λv=>eC v λv o=>eN o (eS 2 v λv v o=>br (decide ((v:Int)>0)) (Ax l) (Bv lo f (Ap (x+1)) a n c l))))))) (Ax l)))) (Ax l)))) (Bv lo f (Ap (x+1)) a n c l)))) (Ax l)))) (Ax l))))))) (br ((n:Int)==4) (BI h) (Ax h)) :=
 lE
def DI lo f x y z t a n c S F h:=
 LA 112 Tryz.f112 221311 0 111 lo ⟨[(1,.lp 1 0),(2,.bool f),(3,Iv x)],[(1,(DC y z t a n c S F))],h⟩
theorem Zz (hk:(Al (Af h.length 54 (BQ y 0 3) h) λl o=>eB l (Al (Af h.length 55 [.str S] o) λl s=>eB l (Al (Af h.length 123 [At x z] s) λl b=>eB l (br (x==0) (Ax b) (br f (br (S.toList==(ByteArray.mk #[]).toList) (Al (Af h.length 56 [Ao a n c] b) λl u=>eB l (DI h.length false 0 y x z a n c S true u) (Ax u)) (Ax b)) (Al (Af h.length 56 [Ao a n c] b) λl u=>eB l (DI h.length false 0 y x z a n c S false u) (Ax u)))) (Ax b)) (Ax s)) (Ax o))=some (v,h')) (hn:noId v=true:=by rfl) :
  Af lo 112 [AA y x z a n c S f] h=some (v,h) :=
 by cases f<;>exact eD Tryz.func112 hk hn
theorem DI.e :
  DI lo f x z y t a n c S F h=br (decide (x<4)) (As x n (eO a λv=>eO (ld h v.1 (v.2+x.toNat) 0 1) λv=>eC v λv l=>eN l (eI .i64 v λv=>br (decide (v>=y)) (Ax h) (DI lo f (Ap (x+1)) z y t a n c S F h)))) (BI h) :=
 lE
def D0 lo f x a n c b m p d k u h:=
 LA 113 Tryz.f113 2213111 0 1111 lo ⟨[(2,.lp 2 0),(4,.bool f),(5,.lp 5 0),(6,Iv x)],[(2,(Jq a n c b m p)),(5,(Bm d k u))],h⟩
theorem UV {e:Pq} (hk:(Al (Af h.length 111 [Bh a n c] h) λl o=>eB l (Al (Af h.length 196 [Bh a n c] o) λl x=>eA l λl=>eC l λl y=>eS 6 l λl z w=>eN y (D0 h.length false 0 b m p d k u l z w x)) (Ax o))=some (v,h')) (hn:noId v=true:=by rfl) :
  Af lo 113 [IA b m p d k u,IA a n c e i s] h=some (v,h) :=
 eD Tryz.func113 hk hn
theorem D0.e :
  D0 lo f x d k c a n u b m p h=br (decide (x<(n:Int))) (As x n (eO a λv=>eO (ld h v.1 (v.2+x.toNat) 0 1) λv=>eC v λv l=>eN l (eI .i64 v λv=>As v m (eO b λl=>eO (ld h l.1 (l.2+v.toNat) 1 2) λv=>eC v λv l=>eI .i64 v λv=>eC l λl o=>eI .i64 l λl=>eN o (As x n (eO a λo=>eO (ld h o.1 (o.2+x.toNat) 1 2) λo=>eC o λo s=>eI .i64 o λo=>eC s λs y=>eI .i64 s λs=>eN y (Al (Af lo 197 [At v l,At o s] h) λv l=>eB v (As x n (eO a λv=>eO (ld l v.1 (v.2+x.toNat) 0 6) λv=>eC v λv o=>eI .i64 v λv=>eC o λo s=>eI .i64 o λo=>eC s λs y=>eI .i64 s λs=>eC y λy z=>eS 2 y λy w q=>eC z λz g=>eT z λz=>eC g λg i=>eBv g λg=>eN i (Al (Af lo 198 [Bh b m p,AA v o s y w q z g] l) λv o=>eA v λv=>eC v λv s=>eS 6 v λv y z=>eN s (D0 lo f (Ap (x+1)) d k c a n u v y z o)))) (Ax l)))))))) (Al (Af lo 199 [Bh b m p,Bh d k c] h) λv l=>eB v (BI l) (Ax l)) :=
 lE
def D4 lo x a n c m b k p i d j u h:=
 LA 114 Tryz.f114 221311 0 111 lo ⟨[(1,.lp 1 0),(2,.lp 2 0),(3,.lp 3 0),(4,Iv x)],[(1,(Bm a n c)),(2,[.sl m b k p]),(3,[.sl i d j u])],h⟩
theorem U0 (hk:(D4 lo 0 a n c 0 none 0 (some 0) 0 none 0 (some 0) h)=some r) :
  Af lo 114 [Bh a n c] h=some r :=
 eK Tryz.func114 hk
theorem D4.e :
  D4 lo x a n p i d j u m b k c h=br (decide (x<(n:Int))) (As x n (eO a λv=>eO (ld h v.1 (v.2+x.toNat) 1 2) λv=>eC v λv l=>eI .i64 v λv=>eC l λl o=>eI .i64 l λl=>eN o (Aw 2 (h ++ [.rows 2 36 false [Cq v l]]) (.sl 2 (some (h.length,0)) 1 (some 1)) λo=>DJ lo 36 2 16 (.sl m b k c) o (h ++ [.rows 2 36 false [Cq v l]]) λv l=>eS 2 v λv o s=>D4 lo (Ap (x+1)) a n p i d j u 2 v o s l))) (some (.agg [.sl m b k c],h)) :=
 lE
def B2 lo a n c x y z t m b k p i d j u g e G s f w q A H C B J D a0 P c0 F h:=
 LA 115 Tryz.f115 221311 0 111 lo ⟨[(2,.lp 2 0),(3,.lp 3 0),(24,.sl 1 a n c),(25,Iv x),(26,Iv y)],[(2,[Iv z,Iv t,.sl m b k p,.sl i d j u,.sl g e G s,.bool f]),(3,(DO w q A H C B J D a0 P c0 F))],h⟩
theorem Nv (hk:(Al (Af h.length 200 [Ao a m c] h) λv l=>eA v λv=>eC v λv o=>eS 2 v λv s z=>eN o (Al (Af l.length 201 (Bm b k p) l) λl o=>eS 6 l λl w q=>Bf (decide ((0:Int)<=0/\(0:Int)<=(n:Int)/\(n:Int)<=140737488355328/\(n:Int)*((24:Nat):Int)<=281474976710656)) (B2 lo d n u (n:Int) 0 0 0 0 none 0 (some 0) 0 none 0 (some 0) 0 none 0 (some 0) false x y v s z l w q (some (o.length,0)) 0 (some n) f (o ++ [.rows 1 26 false (List.replicate n [.sl 0 none 0 (some 0)])]))))=some r) :
  Af lo 115 [Bs x y a m c b k p d n u f] h=some r :=
 eK Tryz.func115 hk
theorem B2.e {lo n j g G H J P m k i:Nat}{a B a0 a1 b d A:Pq}{s C D c0 c p u:Nq}{y x w q z t:Int}{F f:Bool}{h:Heap} :
  B2 lo a n s y x w q j B g C G a0 H D J a1 P c0 F z t b m c d k p A i u f h=br (decide (x<y)) (As x n (eO a λv=>eO (ld h v.1 (v.2+x.toNat) 0 1) λv=>eC v λv l=>eN l (eS 6 v λv l o=>Al (Af lo 201 (Bm v l o) h) λv l=>eS 6 v λv o e=>Aw 1 (l ++ [.rows 1 26 false [Bm v o e]]) (.sl 1 (some (l.length,0)) 1 (some 1)) λE=>DJ lo 26 1 24 (.sl 1 A i u) E (l ++ [.rows 1 26 false [Bm v o e]]) λv l=>eS 1 v λv o e=>B2 lo a n s y (Ap (x+1)) w q j B g C G a0 H D J a1 P c0 F z t b m c d k p v o e f l))) (some ((Bs z t b m c d k p A i u f),h)) :=
 lE
theorem Oh (hk:(Al (Af h.length 202 (AR x) h) λl o=>eB l (Al (Af h.length 203 [.str S] o) λl s=>eB l (br (!f) (br (!f) (br (!f) (br (!f) (Al (Af h.length 71 [Ao a n c] s) λl b=>eB l (BI b) (Ax b)) none) none) none) (br (!f) (br (!f) (br (!f) (Al (Af h.length 71 [Ao a n c] s) λl b=>eB l (BI b) (Ax b)) none) none) (br (!f) (br (!f) (Al (Af h.length 71 [Ao a n c] s) λl b=>eB l (BI b) (Ax b)) none) (br (S.toList==(ByteArray.mk #[]).toList) (br (!f) (Al (Af h.length 71 [Ao a n c] s) λl b=>eB l (BI b) (Ax b)) (Al (Af h.length 71 [Ao a n c] s) λl b=>eB l (BI b) (Ax b))) (br (!f) (Al (Af h.length 71 [Ao a n c] s) λl b=>eB l (BI b) (Ax b)) (Ax s)))))) (Ax s)) (Ax o))=some (v,h')) (hn:noId v=true:=by rfl) :
  Af lo 116 [AA x y z a n c S f] h=some (v,h) :=
 eD Tryz.func116 hk hn
theorem PD (hk:(eO (ld h n m (k+0) 1) λl=>eC l λl c=>eN c (eS 2 l λl c a=>As x c (eO l λl=>eO (ld h l.1 (l.2+x.toNat) 1 1) λl=>eC l λl c=>eN c (eS 6 l λl l c=>br (decide ((l:Int)>=6)) (BI h) (Ax h)))))=some (v,h')) (hn:noId v=true:=by rfl) :
  Af lo 117 [DQ n m k,Iv x] h=some (v,h) :=
 eD Tryz.func117 hk hn
def Cb lo x a n c y z h:=
 LA 118 Tryz.f118 221311 0 111 lo ⟨[(3,Iv x),(7,.sl 2 a n c),(8,Iv y),(9,Iv z)],[],h⟩
theorem Om (hk:(Cb h.length 0 a n c (n:Int) 0 h)=some (v,h')) (hn:noId v=true:=by rfl) :
  Af lo 118 [Ao a n c] h=some (v,h) :=
 eD Tryz.func118 hk hn
theorem Cb.e :
  Cb lo y a n c z x h=br (decide (x<z)) (As x n (eO a λv=>eO (ld h v.1 (v.2+x.toNat) 0 2) λv=>eC v λv l=>eI .i64 v λv=>eC l λl o=>eI .i64 l λl=>eN o (Cb lo (if v>y then v else y) a n c z (Ap (x+1)) h))) (some (Iv y,h)) :=
 lE
theorem QE (hk:(Al (Af lo 117 [DQ n m k,Iv 0] h) λv l=>eB v (Ax l) (Al (Af lo 204 [DQ n m k,Iv 0,AA x y z a i c S f] l) λv l=>eU v λv=>eN v (BI l)))=some r) :
  Af lo 119 [DQ n m k,AA x y z a i c S f] h=some r :=
 eK Tryz.func119 hk
def AY lo n m k a i c x y h:=
 LA 120 Tryz.f120 2213 0 1 lo ⟨[(0,(DQ n m k)),(8,.sl 6 a i c),(9,Iv x),(10,Iv y)],[],h⟩
theorem Nu (hk:(Al (Af lo 66 [DQ n m (k+2)] h) λv l=>eA v λv=>eC v λv c=>eS 6 v λv a o=>eN c (AY lo n m k v a o (a:Int) 0 l))=some r) :
  Af lo 120 [DQ n m k] h=some r :=
 eK Tryz.func120 hk
theorem AY.e :
  AY lo n m k a i c y x h=br (decide (x<y)) (As x i (eO a λv=>eO (ld h v.1 (v.2+x.toNat) 0 6) λv=>eC v λv l=>eI .i64 v λv=>eC l λl o=>eI .i64 l λl=>eC o λo s=>eI .i64 o λo=>eC s λs b=>eS 2 s λs z u=>eC b λb w=>eT b λb=>eC w λw p=>eBv w λw=>eN p (br ((l==0)&&((o==0)&&true)) (AY lo n m k a i c y (Ap (x+1)) h) (eO (ld h n m (k+0) 1) λp=>eC p λp q=>eN q (eI .i64 p λp=>br (o==p) (eO (ld h n m (k+3) 1) λp=>eC p λp q=>eN q (eS 6 p λp q g=>Al (Af lo 137 [.sl 6 p q g,At l o] h) λp q=>eB p (AY lo n m k a i c y (Ap (x+1)) q) (eO (ld q n m (k+3) 1) λp=>eC p λp g=>eN g (eS 6 p λp g j=>Al (Af q.length 154 [AA v l o s z u b w] q) λv l=>eA v λv=>eC v λv o=>eI .i64 v λv=>eC o λo s=>eI .i64 o λo=>eC s λs b=>eI .i64 s λs=>eC b λb z=>eS 2 b λb u w=>eC z λz q=>eT z λz=>eC q λq t=>eBv q λq=>eN t (Aw 6 (l ++ [.rows 6 43 false [DC v o s b u w z q]]) (.sl 6 (some (l.length,0)) 1 (some 1)) λt=>DJ lo 43 6 72 (.sl 6 p g j) t (l ++ [.rows 6 43 false [DC v o s b u w z q]]) λv l=>eS 6 v λv o s=>eO (st lo l n m (k+3) (Bm v o s)) λv=>AY lo n m k a i c y (Ap (x+1)) v))))) (AY lo n m k a i c y (Ap (x+1)) h)))))) (eO (ld h n m (k+3) 1) λv=>eC v λv l=>eN l (eS 6 v λv l o=>Al (Af lo 205 (Bm v l o) h) λv l=>eS 6 v λv o s=>eO (st lo l n m (k+3) (Bm v o s)) λv=>eO (ld v n m ((k+2)+0) 1) λl=>eC l λl o=>eN o (eS 2 l λl o s=>Al (Af lo 206 [.sl 2 l o s,.fn 207 []] v) λv l=>eB v (some (.tup [],l)) (eO (st lo l n m (k+5) [.bool false]) λv=>some (.tup [],v))))) :=
 lE
def Ct lo f x a n c b m p h:=
 LA 121 Tryz.f121 221311 0 111 lo ⟨[(1,.lp 1 0),(2,.bool f),(3,.lp 3 0),(4,Iv x)],[(1,(Bk a n c)),(3,(Bk b m p))],h⟩
def Cs lo f x y a n c b m p h:=
 Lp (X 121) lo (pf 2213231221311 Tryz.f121) 2 (Ba 2 (kS (X 121) lo (pf 1231221311 Tryz.f121) 1 (Ba 1 (kS (X 121) lo (pf 11221311 Tryz.f121) 0 (ZB (X 121) lo (pf 221311 Tryz.f121) 0 (Ba 0 (kS (X 121) lo (pf 111 Tryz.f121) 0 (K8 (X 121) Tryz.f121.results.toList)))))))) ⟨[(1,.lp 1 0),(2,.bool f),(3,.lp 3 0),(4,Iv x),(5,Iv y)],[(1,(Bk a n c)),(3,(Bk b m p))],h⟩
def Cr lo f x y a n c b m p h:=
 Lp (X 121) lo (pf 2211231221311 Tryz.f121) 4 (Ba 4 (Ba 1 (kS (X 121) lo (pf 11221311 Tryz.f121) 0 (ZB (X 121) lo (pf 221311 Tryz.f121) 0 (Ba 0 (kS (X 121) lo (pf 111 Tryz.f121) 0 (K8 (X 121) Tryz.f121.results.toList))))))) ⟨[(1,.lp 1 0),(2,.bool f),(3,.lp 3 0),(4,Iv x),(7,Iv y)],[(1,(Bk a n c)),(3,(Bk b m p))],h⟩
theorem RA (hk:(Al (Af h.length 47 [Ao a n c] h) λl o=>eA l λl=>eC l λl s=>eS 2 l λl b x=>eN s (Ct h.length false 0 a n c l b x o))=some (v,h')) (hn:noId v=true:=by rfl) :
  Af lo 121 [Ao a n c] h=some (v,h) :=
 eD Tryz.func121 hk hn
theorem Ct.e :
  Ct lo f x a n c b m p h=br (decide (x<(n:Int))) (Cs lo f x 0 a n c b m p h) (BI h) :=
 lE
theorem Cs.e :
  Cs lo f x y a n p b m c h=br (decide (y<4)) (As x n (eO a λv=>eO (ld h v.1 (v.2+x.toNat) 0 1) λv=>eC v λv l=>eN l (eS 6 v λv l o=>As y l (eO v λv=>eO (ld h v.1 (v.2+y.toNat) 0 6) λv=>eC v λv l=>eI .i64 v λv=>eC l λv l=>eI .i64 v λv=>eC l λl o=>eI .i64 l λl=>eC o λl o=>eS 2 l λl s z=>eC o λo u=>eT o λo=>eC u λo u=>eBv o λo=>eN u (br (decide (v>0)) (Al (Af lo 124 [Ao l s z,Ao b m c] h) λv l=>eB v (Cs lo f x (Ap (y+1)) a n p b m c l) (Ax l)) (Cs lo f x (Ap (y+1)) a n p b m c h)))))) (Cr lo f x 0 a n p b m c h) :=
 lE
theorem Cr.e :
  Cr lo f x y a n p b m c h=As x n (eO a λv=>eO (ld h v.1 (v.2+x.toNat) 1 1) λv=>eC v λv l=>eN l (eS 6 v λv v l=>br (decide (y<(v:Int))) (As x n (eO a λv=>eO (ld h v.1 (v.2+x.toNat) 1 1) λv=>eC v λv l=>eN l (eS 6 v λv l o=>As y l (eO v λv=>eO (ld h v.1 (v.2+y.toNat) 3 1) λv=>eC v λv l=>eS 2 v λv o s=>eN l (Al (Af lo 124 [Ao v o s,Ao b m c] h) λv l=>eB v (Cr lo f x (Ap (y+1)) a n p b m c l) (Ax l)))))) (Ct lo f (Ap (x+1)) a n p b m c h))) :=
 lE
def CZ lo a n c x f y h:=
 LA 122 Tryz.f122 22131 0 11 lo ⟨[(0,.sl 6 a n c),(1,Iv x),(4,.bool f),(5,Iv y)],[],h⟩
def DP lo a n c x f y z h:=
 Lp (X 122) lo (pf 221123122131 Tryz.f122) 2 (Ba 2 (Ba 1 (kS (X 122) lo (pf 1122131 Tryz.f122) 0 (ZB (X 122) lo (pf 22131 Tryz.f122) 0 (Ba 0 (kS (X 122) lo (pf 11 Tryz.f122) 0 (K8 (X 122) Tryz.f122.results.toList))))))) ⟨[(0,.sl 6 a n c),(1,Iv x),(4,.bool f),(5,Iv y),(6,Iv z)],[],h⟩
theorem XM (hk:(CZ h.length a n c x false 0 h)=some (v,h')) (hn:noId v=true:=by rfl) :
  Af lo 122 [.sl 6 a n c,Iv x] h=some (v,h) :=
 eD Tryz.func122 hk hn
theorem CZ.e :
  CZ lo a n c y f x h=br (decide (x<(n:Int))) (As x n (eO a λv=>eO (ld h v.1 (v.2+x.toNat) 0 6) λv=>eC v λv l=>eI .i64 v λv=>eC l λl o=>eI .i64 l λl=>eC o λo s=>eI .i64 o λo=>eC s λs b=>eS 2 s λs z u=>eC b λb w=>eT b λb=>eC w λw p=>eBv w λw=>eN p (Al (Af lo 112 [AA v l o s z u b w] h) λv l=>eB v (As x n (eO a λv=>eO (ld l v.1 (v.2+x.toNat) 2 1) λv=>eC v λv o=>eN o (eI .i64 v λv=>br (v==y) (DP lo a n c y f x 0 l) (Ax l)))) (Ax l)))) (br (decide ((n:Int)<=60)) (BI h) (Ax h)) :=
 lE
theorem DP.e :
  DP lo a n c z f x y h=br (decide (y<x)) (As y n (eO a λv=>eO (ld h v.1 (v.2+y.toNat) 1 2) λv=>eC v λv l=>eI .i64 v λv=>eC l λl o=>eI .i64 l λl=>eN o (As x n (eO a λo=>eO (ld h o.1 (o.2+x.toNat) 1 2) λo=>eC o λo s=>eI .i64 o λo=>eC s λs b=>eI .i64 s λs=>eN b (br ((v==o)&&((l==s)&&true)) (Ax h) (DP lo a n c z f x (Ap (y+1)) h)))))) (CZ lo a n c z f (Ap (x+1)) h) :=
 lE
theorem TH (hk:(br ((x==0)&&((y==0)&&true)) (BI h) (Al (Af h.length 54 (BQ x 1 999) h) λl c=>eB l (Al (Af h.length 54 (BQ y 0 2) c) λl n=>eB l (BI n) (Ax n)) (Ax c)))=some (v,h')) (hn:noId v=true:=by rfl) :
  Af lo 123 [At x y] h=some (v,h) :=
 eD Tryz.func123 hk hn
def C1 lo f x a n c b m p h:=
 LA 124 Tryz.f124 22131 0 11 lo ⟨[(2,.lp 2 0),(3,.lp 3 0),(4,.bool f),(5,Iv x)],[(2,(Bk a n c)),(3,(Bk b m p))],h⟩
theorem RD (hk:(C1 h.length false 0 a n c b m p h)=some (v,h')) (hn:noId v=true:=by rfl) :
  Af lo 124 [Ao a n c,Ao b m p] h=some (v,h) :=
 eD Tryz.func124 hk hn
theorem C1.e :
  C1 lo f x a n c b m p h=br (decide (x<4)) (As x m (eO b λv=>eO (ld h v.1 (v.2+x.toNat) 0 2) λv=>eC v λv l=>eI .i64 v λv=>eC l λl o=>eI .i64 l λl=>eN o (As x n (eO a λo=>eO (ld h o.1 (o.2+x.toNat) 0 2) λo=>eC o λo s=>eI .i64 o λo=>eC s λs y=>eI .i64 s λs=>eN y (Al (Af lo 197 [At v l,At o s] h) λv l=>eB v (Ax l) (C1 lo f (Ap (x+1)) a n c b m p l)))))) (BI h) :=
 lE
theorem UT (hk:(As 0 n (eO a λl=>eO (ld h l.1 (l.2+0) 1 1) λl=>eC l λl o=>eN o (eS 6 l λl l o=>br (decide ((l:Int)<6)) (BI h) (Ax h))))=some (v,h')) (hn:noId v=true:=by rfl) :
  Af lo 125 [Ao a n c] h=some (v,h) :=
 eD Tryz.func125 hk hn
def Dd lo x y a n c h:=
 LA 126 Tryz.f126 221311 0 111 lo ⟨[(3,.lp 3 0),(5,Iv x),(6,Iv y)],[(3,(Bk a n c))],h⟩
theorem UQ {e:Pq} (hk:(Dd h.length x 0 a n c h)=some (v,h')) (hn:noId v=true:=by rfl) :
  Af lo 126 [Bs y x b m p d k u e i s f,Ao a n c] h=some (v,h) :=
 eD Tryz.func126 hk hn
theorem Dd.e :
  Dd lo y x a n c h=br (decide (x<4)) (As x n (eO a λv=>eO (ld h v.1 (v.2+x.toNat) 0 1) λv=>eC v λv l=>eN l (eI .i64 v λv=>br (decide (v>y)) (As x n (eO a λv=>eO (ld h v.1 (v.2+x.toNat) 0 1) λv=>eC v λv l=>eN l (eI .i64 v λv=>Dd lo v (Ap (x+1)) a n c h))) (Dd lo y (Ap (x+1)) a n c h)))) (some (Iv (Ap (y+1)),h)) :=
 lE
def D3 lo x a n c m b k p i d j u h:=
 LA 127 Tryz.f127 221311 0 111 lo ⟨[(1,.lp 1 0),(2,.lp 2 0),(3,.lp 3 0),(4,Iv x)],[(1,(Bk a n c)),(2,[.sl m b k p]),(3,[.sl i d j u])],h⟩
def D2 lo x y a n c m b k p i d j u e g s G A H C h:=
 Lp (X 127) lo (pf 22131231221311 Tryz.f127) 2 (Ba 2 (kS (X 127) lo (pf 11231221311 Tryz.f127) 1 (Ba 1 (kS (X 127) lo (pf 11221311 Tryz.f127) 0 (ZB (X 127) lo (pf 221311 Tryz.f127) 0 (Ba 0 (kS (X 127) lo (pf 111 Tryz.f127) 0 (K8 (X 127) Tryz.f127.results.toList)))))))) ⟨[(1,.lp 1 0),(2,.lp 2 0),(3,.lp 3 0),(4,Iv x),(5,.lp 5 0),(6,Iv y)],[(1,(Bk a n c)),(2,[.sl m b k p]),(3,[.sl i d j u]),(5,[.sl 6 e g s,.sl G A H C])],h⟩
theorem UZ (hk:(D3 lo 0 a n c 0 none 0 (some 0) 0 none 0 (some 0) h)=some r) :
  Af lo 127 [Ao a n c] h=some r :=
 eK Tryz.func127 hk
theorem D3.e :
  D3 lo x a n p i d j u m b k c h=br (decide (x<(n:Int))) (As x n (eO a λv=>eO (ld h v.1 (v.2+x.toNat) 0 1) λv=>eC v λv l=>eS 6 v λv o s=>eN l (Al (Af lo 196 [Bh v o s] h) λv l=>eA v λv=>eC v λv o=>eS 6 v λv s y=>eN o (D2 lo x 0 a n p i d j u m b k c v s y 0 none 0 (some 0) l)))) (some (.agg [.sl m b k c],h)) :=
 lE
theorem D2.e {lo n j g G H m k i:Nat}{x y:Int}{a A B b d:Pq}{u s C c p:Nq}{h:Heap} :
  D2 lo x y a n u j A g s G B H C b m c k d i p h=As x n (eO a λv=>eO (ld h v.1 (v.2+x.toNat) 1 1) λv=>eC v λv l=>eN l (eS 6 v λv v l=>br (decide (y<(v:Int))) (As x n (eO a λv=>eO (ld h v.1 (v.2+x.toNat) 1 1) λv=>eC v λv l=>eN l (eS 6 v λv l o=>As y l (eO v λv=>eO (ld h v.1 (v.2+y.toNat) 0 6) λv=>eC v λv l=>eI .i64 v λv=>eC l λl o=>eI .i64 l λl=>eC o λo z=>eI .i64 o λo=>eC z λz w=>eS 2 z λz q t=>eC w λw e=>eT w λw=>eC e λe f=>eBv e λe=>eN f (Al (Af lo 187 [AA v l o z q t w e] h) λv l=>eA v λv=>eC v λv o=>eI .i64 v λv=>eC o λo z=>eI .i64 o λo=>eC z λz w=>eI .i64 z λz=>eC w λw q=>eS 2 w λw t e=>eC q λq f=>eT q λq=>eC f λf D=>eBv f λf=>eN D (Aw 6 (l ++ [.rows 6 43 false [DC v o z w t e q f]]) (.sl 6 (some (l.length,0)) 1 (some 1)) λD=>DJ lo 43 6 72 (.sl k d i p) D (l ++ [.rows 6 43 false [DC v o z w t e q f]]) λv l=>eS 6 v λv o z=>D2 lo x (Ap (y+1)) a n u j A g s G B H C b m c 6 v o z l)))))) (Aw 2 (h ++ [.rows 2 47 false [[.sl 6 b m c,.sl k d i p]]]) (.sl 2 (some (h.length,0)) 1 (some 1)) λv=>DJ lo 47 2 48 (.sl G B H C) v (h ++ [.rows 2 47 false [[.sl 6 b m c,.sl k d i p]]]) λv l=>eS 2 v λv o z=>D3 lo (Ap (x+1)) a n u j A g s 2 v o z l))) :=
 lE
def DY lo a n c b m p x h:=
 LA 128 Tryz.f128 221311 0 111 lo ⟨[(0,.sl 6 a n c),(3,.sl 6 b m p),(4,Iv x)],[],h⟩
theorem UN (hk:(DY lo a n c (some (h.length,0)) 0 (some 0) 0 (h ++ [.rows 6 43 false []]))=some r) :
  Af lo 128 (Bm a n c) h=some r :=
 eK Tryz.func128 hk
theorem DY.e :
  DY lo a n p b m c x h=br (decide (x<(n:Int))) (As x n (eO a λv=>eO (ld h v.1 (v.2+x.toNat) 0 6) λv=>eC v λv l=>eI .i64 v λv=>eC l λl o=>eI .i64 l λl=>eC o λo s=>eI .i64 o λo=>eC s λs y=>eS 2 s λs z u=>eC y λy w=>eT y λy=>eC w λw q=>eBv w λw=>eN q (Al (Af lo 187 [AA v l o s z u y w] h) λv l=>eA v λv=>eC v λv o=>eI .i64 v λv=>eC o λo s=>eI .i64 o λo=>eC s λs y=>eI .i64 s λs=>eC y λy z=>eS 2 y λy u w=>eC z λz q=>eT z λz=>eC q λq g=>eBv q λq=>eN g (Aw 6 (l ++ [.rows 6 43 false [DC v o s y u w z q]]) (.sl 6 (some (l.length,0)) 1 (some 1)) λg=>DJ lo 43 6 72 (.sl 6 b m c) g (l ++ [.rows 6 43 false [DC v o s y u w z q]]) λv l=>eS 6 v λv o s=>DY lo a n p v o s (Ap (x+1)) l)))) (some (.sl 6 b m c,h)) :=
 lE
theorem XP (hk:(As x n (eO a λv=>eO (ld h v.1 (v.2+x.toNat) 0 1) λv=>eC v λv l=>eN l (eS 6 v λv l o=>As y l (eO v λv=>eO (ld h v.1 (v.2+y.toNat) 1 2) λv=>eC v λv l=>eI .i64 v λv=>eC l λl o=>eI .i64 l λl=>eN o (Al (Af lo 197 [At v l,At z t] h) λv l=>eB v (As x n (eO a λv=>eO (ld l v.1 (v.2+x.toNat) 0 1) λv=>eC v λv o=>eS 6 v λv s u=>eN o (Al (Af lo 198 [Bh v s u,AA y z t b m p S f] l) λv o=>eA v λv=>eC v λv s=>eS 6 v λv u w=>eN s (As x n (eO a λs=>eO (st lo o s.1 (s.2+x.toNat) 0 (Bm v u w)) λv=>br (decide (x<Ap ((n:Int) - (1:Int)))) (As x n (eO a λo=>eO (ld v o.1 (o.2+x.toNat) 1 1) λo=>eC o λo s=>eN s (eS 6 o λo s u=>Al (Af v.length 187 [AA y z t b m p S f] v) λw q=>eA w λw=>eC w λw g=>eI .i64 w λw=>eC g λg i=>eI .i64 g λg=>eC i λi j=>eI .i64 i λi=>eC j λj k=>eS 2 j λj d e=>eC k λk A=>eT k λk=>eC A λA B=>eBv A λA=>eN B (Aw 6 (q ++ [.rows 6 43 false [DC w g i j d e k A]]) (.sl 6 (some (q.length,0)) 1 (some 1)) λB=>DJ lo 43 6 72 (.sl 6 o s u) B (q ++ [.rows 6 43 false [DC w g i j d e k A]]) λo s=>eS 6 o λo u w=>As x n (eO a λq=>eO (st lo s q.1 (q.2+x.toNat) 1 (Bm o u w)) λo=>some ((Ao a n c),o)))))) (some ((Ao a n c),v))))))) (some ((Ao a n c),l)))))))=some r) :
  Af lo 129 [Ao a n c,Iv x,AA y z t b m p S f] h=some r :=
 eK Tryz.func129 hk
def Ce lo x y z a n c b m p d k u f t w i e j s g A G C H B J D F a0 P c0 h:=
 LA 130 Tryz.f130 221311 0 111 lo ⟨[(1,.lp 1 0),(2,.lp 2 0),(3,.lp 3 0),(4,Iv x)],[(1,(DO y z a n c b m p d k u f)),(2,[Iv t,Iv w,.sl i e j s,.sl g A G C,.sl H B J D,.bool F]),(3,(Bm a0 P c0))],h⟩
def Cd lo f x y z a n c b m p d k u F t w i e j s g A G C H B J D b0 h:=
 LA 130 Tryz.f130 22131111 2 11111 lo ⟨[(1,.lp 1 0),(2,.lp 2 0),(6,.bool f),(7,Iv x)],[(1,(DO y z a n c b m p d k u F)),(2,[Iv t,Iv w,.sl i e j s,.sl g A G C,.sl H B J D,.bool b0])],h⟩
theorem UP (hk:(As (Ap ((n:Int) - 1)) n (eO a λv=>eO (ld h v.1 (v.2+((Ap ((n:Int) - (1:Int))).toNat)) 0 1) λv=>eC v λv l=>eS 6 v λv o s=>eN l (Ce lo 0 x y a n c b m p d k u f 0 0 0 none 0 (some 0) 0 none 0 (some 0) 0 none 0 (some 0) false v o s h)))=some r) :
  Af lo 130 [Bs x y a n c b m p d k u f] h=some r :=
 eK Tryz.func130 hk
theorem Ce.e {lo m n k i j g G H J P:Nat}{x y z t w:Int}{b a d A B a0 a1:Pq}{p c u s C D c0:Nq}{f F:Bool}{h:Heap} :
  Ce lo x y z b m p a n c d k u f t w i A j s g B G C H a0 J D F a1 P c0 h=br (decide (x<4)) (As x P (eO a1 λv=>eO (ld h v.1 (v.2+x.toNat) 0 6) λv=>eC v λv l=>eI .i64 v λv=>eC l λl o=>eI .i64 l λl=>eC o λo q=>eI .i64 o λo=>eC q λq e=>eS 2 q λq E K=>eC e λe L=>eT e λe=>eC L λL M=>eBv L λL=>eN M (br (decide (l>0)) (br (o==y) (Al (Af lo 208 [.sl 6 a n c,At l o] h) λM N=>eB M (Ce lo (Ap (x+1)) y z b m p a n c d k u f t w i A j s g B G C H a0 J D F a1 P c0 N) (Al (Af lo 187 [AA v l o q E K e L] N) λv l=>eA v λv=>eC v λv o=>eI .i64 v λv=>eC o λo q=>eI .i64 o λo=>eC q λq e=>eI .i64 q λq=>eC e λe E=>eS 2 e λe K L=>eC E λE M=>eT E λE=>eC M λM N=>eBv M λM=>eN N (Aw 6 (l ++ [.rows 6 43 false [DC v o q e K L E M]]) (.sl 6 (some (l.length,0)) 1 (some 1)) λN=>DJ lo 43 6 72 (.sl 6 a n c) N (l ++ [.rows 6 43 false [DC v o q e K L E M]]) λv l=>eS 6 v λv o q=>Ce lo (Ap (x+1)) y z b m p v o q d k u f t w i A j s g B G C H a0 J D F a1 P c0 l))) (Ce lo (Ap (x+1)) y z b m p a n c d k u f t w i A j s g B G C H a0 J D F a1 P c0 h)) (Ce lo (Ap (x+1)) y z b m p a n c d k u f t w i A j s g B G C H a0 J D F a1 P c0 h)))) (Cd lo true 0 y z b m p a n c d k u f t w i A j s g B G C H a0 J D F h) :=
 lE
theorem Cd.e {J:Nat}{b0:Bool} :
  Cd lo F x y z a n c b m p d k u f t w i A j s g B G C H a0 J D b0 h=br (decide (x<(n:Int))) (br F (As x n (eO a λv=>eO (ld h v.1 (v.2+x.toNat) 1 1) λv=>eC v λv l=>eN l (eS 6 v λv v l=>br ((v:Int)==0) (Cd lo true (Ap (x+1)) y z a n c b m p d k u f t w i A j s g B G C H a0 J D b0 h) (Cd lo false (Ap (x+1)) y z a n c b m p d k u f t w i A j s g B G C H a0 J D b0 h)))) (Cd lo false (Ap (x+1)) y z a n c b m p d k u f t w i A j s g B G C H a0 J D b0 h)) (br f (some ((Bs y z a n c b m p d k u (!F)),h)) (some ((Bs y z a n c b m p d k u false),h))) :=
 by cases f<;>cases F<;>exact lE
def IV lo f x a n c b m p h:=
 LA 131 Tryz.f131 221311 0 111 lo ⟨[(2,.lp 2 0),(3,.lp 3 0),(4,.bool f),(5,Iv x)],[(2,(Bm a n c)),(3,(Bm b m p))],h⟩
theorem IV.e {lo n m:Nat}{f:Bool}{x:Int}{a b:Pq}{c p:Nq}{h:Heap} :
  IV lo f x a n c b m p h=br (decide (x<(n:Int))) (As x n (eO a λv=>eO (ld h v.1 (v.2+x.toNat) 0 6) λv=>eC v λv l=>eI .i64 v λv=>eC l λl o=>eI .i64 l λl=>eC o λo s=>eI .i64 o λo=>eC s λs y=>eS 2 s λs z u=>eC y λy w=>eT y λy=>eC w λw q=>eBv w λw=>eN q (As x m (eO b λq=>eO (ld h q.1 (q.2+x.toNat) 0 6) λq=>eC q λq g=>eI .i64 q λq=>eC g λg i=>eI .i64 g λg=>eC i λi j=>eI .i64 i λi=>eC j λj k=>eS 2 j λj t d=>eC k λk e=>eT k λk=>eC e λe A=>eBv e λe=>eN A (Al (Af lo 73 [AA v l o s z u y w,AA q g i j t d k e] h) λv l=>eB v (IV lo f (Ap (x+1)) a n c b m p l) (Ax l)))))) (BI h) :=
 lE
theorem Uh (hk:(Al (Af h.length 63 (BQ x 1 4) h) λl c=>eB l (BI c) (Ax c))=some (v,h')) (hn:noId v=true:=by rfl) :
  Af lo 132 (AR x) h=some (v,h) :=
 eD Tryz.func132 hk hn
theorem QF (hk:(Al (Af h.length 134 [AA x y z a n c S f] h) λl o=>eB l (Ax o) (BI o))=some (v,h')) (hn:noId v=true:=by rfl) :
  Af lo 133 [AA x y z a n c S f] h=some (v,h) :=
 eD Tryz.func133 hk hn
theorem X4 (hk:(Al (Af h.length 116 [AA z x y a n c S f] h) λl o=>eB l (Al (Af h.length 144 [At x y] o) λl s=>eB l (Al (Af s.length 118 [Ao a n c] s) λl b=>eI .i64 l λl=>br (decide (x>l)) (BI b) (Ax b)) (Ax s)) (Ax o))=some (v,h')) (hn:noId v=true:=by rfl) :
  Af lo 134 [AA z x y a n c S f] h=some (v,h) :=
 eD Tryz.func134 hk hn
theorem PC (hk:(br (x==Ap ((n:Int) - (1:Int))) (BI h) (Ax h))=some (v,h')) (hn:noId v=true:=by rfl) :
  Af lo 135 [Ao a n c,Iv x] h=some (v,h) :=
 eD Tryz.func135 hk hn
def CJ lo f a n c x y b m p d k u e i s h:=
 LA 136 Tryz.f136 221311 0 111 lo ⟨[(2,.lp 2 0),(4,.bool f),(5,.lp 5 0),(11,.sl 6 a n c),(12,Iv x),(13,Iv y)],[(2,(Jq b m p d k u)),(5,(Bm e i s))],h⟩
theorem QD (hk:(Al (Af h.length 209 [Bh d k u] h) λl o=>eA l λl=>eC l λl s=>eS 6 l λl x y=>eN s (CJ h.length false a n c (n:Int) 0 b m p a n c l x y o))=some (v,h')) (hn:noId v=true:=by rfl) :
  Af lo 136 [IA b m p a n c,Bh d k u] h=some (v,h) :=
 eD Tryz.func136 hk hn
theorem CJ.e {lo m k i n:Nat}{f:Bool}{b d A a:Pq}{u p s c:Nq}{y x:Int}{h:Heap} :
  CJ lo f b m u y x d k p A i s a n c h=br (decide (x<y)) (As x m (eO b λv=>eO (ld h v.1 (v.2+x.toNat) 0 6) λv=>eC v λv l=>eI .i64 v λv=>eC l λl o=>eI .i64 l λl=>eC o λo z=>eI .i64 o λo=>eC z λz w=>eS 2 z λz q g=>eC w λw j=>eT w λw=>eC j λj t=>eBv j λj=>eN t (Al (Af lo 210 [Bh a n c,AA v l o z q g w j] h) λt e=>eB t (As v n (eO a λt=>eO (st lo e t.1 (t.2+v.toNat) 0 (DC v l o z q g w j)) λv=>CJ lo f b m u y (Ap (x+1)) d k p A i s a n c v)) (Ax e)))) (Al (Af lo 211 [Bh a n c,Bh d k p] h) λv l=>eB v (BI l) (Ax l)) :=
 lE
theorem Vr (hk:(Al (Af h.length 80 [.sl 6 a n c,.fn 212 [.ptr (some (h.length,(0,0)))]] (h ++ [.rows 2 36 false [Cq x y]])) λl o=>eB l (BI o) (Ax o))=some (v,h')) (hn:noId v=true:=by rfl) :
  Af lo 137 [.sl 6 a n c,At x y] h=some (v,h) :=
 eD Tryz.func137 hk hn
theorem RV (hk:(some ((Ao (some (h.length,0)) 4 (some 4)),(h ++ [.rows 2 36 false [Cq 0 0,Cq 0 0,Cq 0 0,Cq 0 0]])))=some r) :
  Af lo 138 [] h=some r :=
 eK Tryz.func138 hk
theorem HN (hk:(br (decide (x<0)) none (br (decide (Ap (x - Ap (((0:Nat):Int) - ((0:Nat):Int)))>0)) (Az none 0 (some 0) none (some (Iv 0)) none λv l c=>Bf (decide ((0:Int)<=Ap (x - Ap (((0:Nat):Int) - ((0:Nat):Int)))/\Ap (x - Ap (((0:Nat):Int) - ((0:Nat):Int)))*((72:Nat):Int)<=140737488355328)) (DJ lo 43 6 72 (.sl 6 v l c) (List.replicate ((Ap (x - Ap (((0:Nat):Int) - ((0:Nat):Int)))).toNat) [Iv 0,Iv 0,Iv 0,.sl 0 none 0 (some 0),.str ⟨⟨[]⟩⟩,.bool false]) h λv l=>eS 6 v λv c n=>Az v c n none (some (Iv 0)) none λv c n=>some (.sl 6 v c n,l))) (some (.sl 0 none 0 (some 0),h))))=some r) :
  Af lo 139 [.sl 0 none 0 (some 0),Iv x] h=some r :=
 eK Tryz.func139 hk
def ED lo x y a n c z t h:=
 LA 140 Tryz.f140 221311 0 111 lo ⟨[(2,Iv x),(3,Iv y),(6,.sl 1 a n c),(7,Iv z),(8,Iv t)],[],h⟩
theorem X7 (hk:(ED h.length 0 0 a n c (n:Int) 0 h)=some (v,h')) (hn:noId v=true:=by rfl) :
  Af lo 140 [.sl 1 a n c] h=some (v,h) :=
 eD Tryz.func140 hk hn
theorem ED.e :
  ED lo t y a n c z x h=br (decide (x<z)) (As x n (eO a λv=>eO (ld h v.1 (v.2+x.toNat) 0 1) λv=>eC v λv l=>eN l (eI .i64 v λv=>br (v==y) (ED lo t y a n c z (Ap (x+1)) h) (some (Iv v,h))))) (some (Iv y,h)) :=
 lE
theorem PF (hk:(Al (Af h.length 213 (AR y) h) λl c=>eB l (Al (Af h.length 213 (AR x) c) λl n=>eB l (some (Iv 0,n)) (some (Iv (-1),n))) (Al (Af h.length 213 (AR x) c) λl c=>eB l (some (Iv 1,c)) (br (decide (y<x)) (some (Iv (-1),c)) (br (decide (y>x)) (some (Iv 1,c)) (some (Iv 0,c))))))=some (v,h')) (hn:noId v=true:=by rfl) :
  Af lo 141 (Cq y x) h=some (v,h) :=
 eD Tryz.func141 hk hn
theorem Gc (hk:(Al (Af h.length 214 [.sl 2 a n c,.fn m l] h) λo s=>eI .i64 o λo=>br (decide (o>=0)) (BI s) (Ax s))=some (v,h')) (hn:noId v=true:=by rfl) :
  Af lo 142 [.sl 2 a n c,.fn m l] h=some (v,h) :=
 eD Tryz.func142 hk hn
theorem RU (hk:(Al (Af h.length 144 [At x y] h) λl c=>eB l (Ax c) (BI c))=some (v,h')) (hn:noId v=true:=by rfl) :
  Af lo 143 [At x y] h=some (v,h) :=
 eD Tryz.func143 hk hn
theorem X6 (hk:(br ((x==0)&&((y==0)&&true)) (BI h) (Al (Af h.length 63 (BQ x 1 999) h) λl c=>eB l (Al (Af h.length 62 (AR y) c) λl n=>eB l (BI n) (Ax n)) (Ax c)))=some (v,h')) (hn:noId v=true:=by rfl) :
  Af lo 144 [At x y] h=some (v,h) :=
 eD Tryz.func144 hk hn
def EB lo n m k x a i c y b j p d g u e G s A H C h:=
 LA 145 Tryz.f145 2213111 0 1111 lo ⟨[(0,(DQ n m k)),(3,Iv x),(9,.lp 9 0),(10,.sl 6 a i c),(11,Iv y)],[(9,(Dc b j p d g u e G s A H C))],h⟩
theorem EB.e {lo n m k i j g G H:Nat}{x y:Int}{a b d A B:Pq}{c p u s C:Nq}{h:Heap} :
  EB lo n m k x a i c y b j p d g u A G s B H C h=br (decide (y<x)) (Al (Af lo 215 [DQ n m k,An b j p d g u A G s B H C] h) λv l=>eA v λv=>eC v λv o=>eI .i64 v λv=>eC o λo z=>eI .i64 o λo=>eC z λz w=>eI .i64 z λz=>eC w λw q=>eI .i64 w λw=>eC q λq t=>eT q λq=>eC t λt e=>eBv t λt=>eN e (Al (Af lo 102 [An b j p d g u A G s B H C,Bi v o z w q t] l) λl e=>eU l λl=>eC l λl f=>eA l λl=>eC l λl D=>eS 6 l λl E J=>eC D λD K=>eS 5 D λD L M=>eC K λK N=>eS 9 K λK O P=>eC N λN Q=>eS 5 N λN S U=>eN Q (eC f λf Q=>eB f (eN Q (Aw 6 (e ++ [.rows 6 74 false [Tt v o z w q t]]) (.sl 6 (some (e.length,0)) 1 (some 1)) λf=>DJ lo 74 6 56 (.sl 6 a i c) f (e ++ [.rows 6 74 false [Tt v o z w q t]]) λf W=>eS 6 f λf Y Z=>EB lo n m k x f Y Z (Ap (y+1)) l E J D L M K O P N S U W)) (eN Q (Al (Af lo 44 [DQ n m k,Iv 6] e) λe f=>eI .i64 e λe=>br (decide (e>0)) (EB lo n m k x a i c (Ap (y+1)) b j p d g u A G s B H C f) (Aw 6 (f ++ [.rows 6 74 false [Tt v o z w q t]]) (.sl 6 (some (f.length,0)) 1 (some 1)) λe=>DJ lo 74 6 56 (.sl 6 a i c) e (f ++ [.rows 6 74 false [Tt v o z w q t]]) λv o=>eS 6 v λv z w=>EB lo n m k x v z w (Ap (y+1)) l E J D L M K O P N S U o)))))) (some (.sl 6 a i c,h)) :=
 lE
def Kd lo x y z n a m c k b i p j d g u G e H s J A P C n0 B n1 D n2 a0 n3 c0 n4 a1 n5 c1 h:=
 LA 146 Tryz.f146 221311 0 111 lo ⟨[(0,Iv x),(1,Iv y),(4,.lp 4 0),(5,.lp 5 0),(6,Iv z)],[(4,[.sl n a m c,.sl k b i p,.sl j d g u,.sl G e H s]),(5,[.sl J A P C,.sl n0 B n1 D,.sl n2 a0 n3 c0,.sl n4 a1 n5 c1])],h⟩
def Im lo x y n a m c k b i p j d g u G e H s J A P C n0 B n1 D n2 a0 n3 c0 n4 a1 n5 c1 h:=
 LA 146 Tryz.f146 2213111 2 1111 lo ⟨[(1,Iv x),(4,.lp 4 0),(5,.lp 5 0),(7,Iv y)],[(4,[.sl n a m c,.sl k b i p,.sl j d g u,.sl G e H s]),(5,[.sl J A P C,.sl n0 B n1 D,.sl n2 a0 n3 c0,.sl n4 a1 n5 c1])],h⟩
theorem Kd.e {lo n m k i j g G H J P n0 n1 n2 n3 n4 n5:Nat}{y z x:Int}{a b d A B a0 a1 a2:Pq}{c p u s C D c0 c1:Nq}{h:Heap} :
  Kd lo y z x n a m c k b i p j d g u G A H s J B P C n0 a0 n1 D n2 a1 n3 c0 n4 a2 n5 c1 h=br (decide (x<3)) (Al (Af lo 216 (Cq x y) h) λv l=>eA v λv=>eC v λv o=>eI .i64 v λv=>eC o λo w=>eI .i64 o λo=>eC w λw q=>eS 2 w λw t e=>eC q λq f=>eS 6 q λq E K=>eC f λf L=>eS 1 f λf M N=>eC L λL O=>eBv L λL=>eN O (Aw 6 (l ++ [.rows 6 29 false [DO v o w t e q E K f M N L]]) (.sl 6 (some (l.length,0)) 1 (some 1)) λO=>DJ lo 29 6 96 (.sl J B P C) O (l ++ [.rows 6 29 false [DO v o w t e q E K f M N L]]) λv l=>eS 6 v λv o w=>Kd lo y z (Ap (x+1)) n a m c k b i p j d g u G A H s 6 v o w n0 a0 n1 D n2 a1 n3 c0 n4 a2 n5 c1 l)) (Im lo z 0 n a m c k b i p j d g u G A H s J B P C n0 a0 n1 D n2 a1 n3 c0 n4 a2 n5 c1 h) :=
 lE
theorem Im.e {J P n0 n1 n2 n3 n4 n5:Nat}{a2:Pq}{c1:Nq} :
  Im lo y x J B P C n0 a0 n1 D n2 a1 n3 c0 n4 a2 n5 c1 n a m c k b i p j d g u G A H s h=br (decide (x<y)) (Al (Af lo 45 [] h) λv l=>eA v λv=>eC v λv o=>eS 2 v λv z w=>eN o (Aw 5 (l ++ [.rows 5 66 false [O8 (x.tmod (3:Int)) v z w 0 0 0]]) (.sl 5 (some (l.length,0)) 1 (some 1)) λo=>DJ lo 66 5 56 (.sl k b i p) o (l ++ [.rows 5 66 false [O8 (x.tmod (3:Int)) v z w 0 0 0]]) λv l=>eS 5 v λv o z=>Im lo y (Ap (x+1)) J B P C n0 a0 n1 D n2 a1 n3 c0 n4 a2 n5 c1 n a m c 5 v o z j d g u G A H s l)) (some (.agg [.sl n a m c,.sl k b i p,.sl j d g u,.sl G A H s],h)) :=
 lE
theorem Nr (hk:(eO (ld h n m (k+1) 1) λv=>eC v λv l=>eN l (eS 5 v λv v l=>Al (Af lo 63 (BQ x 0 (Ap ((v:Int) - 1))) h) λv l=>eB v (eO (ld l n m (k+1) 1) λv=>eC v λv c=>eN c (eS 5 v λv c a=>As x c (eO v λv=>eO (ld l v.1 (v.2+x.toNat) 2 2) λc=>eC c λc a=>eI .i64 c λc=>eC a λa o=>eI .i64 a λa=>eN o (br ((c==0)&&((a==0)&&true)) (br (y==2) (Ax l) (br (y==1) (Al (Af lo 218 [DQ n m k,.ptr (some (v.1,((v.2+x.toNat),0))),Bi y x z t S f] l) λc a=>eB c (BI a) (Ax a)) (br (y==2) (Al (Af lo 219 [DQ n m k,.ptr (some (v.1,((v.2+x.toNat),0))),Bi y x z t S f] l) λc a=>eB c (BI a) (Ax a)) (br (y==3) (Al (Af lo 220 [DQ n m k,.ptr (some (v.1,((v.2+x.toNat),0))),Bi y x z t S f] l) λc a=>eB c (BI a) (Ax a)) (br (y==4) (Al (Af lo 221 [DQ n m k,.ptr (some (v.1,((v.2+x.toNat),0))),Bi y x z t S f] l) λc a=>eB c (BI a) (Ax a)) (Al (Af lo 62 (AR z) l) λc a=>eB c (eO (st lo a v.1 (v.2+x.toNat) 0 (AR z)) λc=>some (.bool true,c)) (Ax a))))))) (br (y==2) (br (y==1) (Al (Af lo 218 [DQ n m k,.ptr (some (v.1,((v.2+x.toNat),0))),Bi y x z t S f] l) λc a=>eB c (BI a) (Ax a)) (br (y==2) (Al (Af lo 219 [DQ n m k,.ptr (some (v.1,((v.2+x.toNat),0))),Bi y x z t S f] l) λc a=>eB c (BI a) (Ax a)) (br (y==3) (Al (Af lo 220 [DQ n m k,.ptr (some (v.1,((v.2+x.toNat),0))),Bi y x z t S f] l) λc a=>eB c (BI a) (Ax a)) (br (y==4) (Al (Af lo 221 [DQ n m k,.ptr (some (v.1,((v.2+x.toNat),0))),Bi y x z t S f] l) λc a=>eB c (BI a) (Ax a)) (Al (Af lo 62 (AR z) l) λc a=>eB c (eO (st lo a v.1 (v.2+x.toNat) 0 (AR z)) λv=>some (.bool true,v)) (Ax a)))))) (Ax l)))))) (Ax l)))=some r) :
  Af lo 148 [DQ n m k,Bi y x z t S f] h=some r :=
 eK Tryz.func148 hk
theorem Ns (hk:(Al (Af lo 62 (AR x) h) λv l=>eB v (eO (ld l n m (k+0) 1) λv=>eC v λv c=>eN c (eS 6 v λv c a=>As x c (eO v λv=>br (t==6) (Al (Af lo 222 [.ptr (some (v.1,((v.2+x.toNat),0))),Iv y] l) λc a=>eB c (BI a) (Ax a)) (br (t==7) (Al (Af lo 223 [.ptr (some (v.1,((v.2+x.toNat),0))),Iv y] l) λc a=>eB c (BI a) (Ax a)) (br (t==8) (Al (Af lo 224 [.ptr (some (v.1,((v.2+x.toNat),2)))] l) λc a=>eB c (BI a) (Ax a)) (br (t==9) (Al (Af lo 225 [.ptr (some (v.1,((v.2+x.toNat),0))),Iv y] l) λc a=>eB c (BI a) (Ax a)) (Al (Af lo 226 (Cq x y) l) λc a=>eB c (eO (ld a v.1 (v.2+x.toNat) 3 1) λc=>eC c λc o=>eN o (eS 6 c λc c o=>Al (Af lo 63 (BQ z 0 (Ap ((c:Int) - 1))) a) λc o=>eB c (eO (ld o n m (k+2) 1) λc=>eC c λc s=>eN s (eS 9 c λc c s=>br (decide ((c:Int)>=12)) (Ax o) (eO (ld o n m (k+2) 1) λc=>eC c λc s=>eN s (eS 9 c λc s b=>eO (ld o v.1 (v.2+x.toNat) 3 1) λv=>eC v λv u=>eN u (eS 6 v λv u w=>As z u (eO v λv=>eO (ld o v.1 (v.2+z.toNat) 0 6) λv=>eC v λv u=>eI .i64 v λv=>eC u λu w=>eI .i64 u λu=>eC w λw p=>eI .i64 w λw=>eC p λp q=>eS 2 p λp g i=>eC q λq j=>eT q λq=>eC j λj d=>eBv j λj=>eN d (Al (Af o.length 154 [AA v u w p g i q j] o) λv u=>eA v λv=>eC v λv w=>eI .i64 v λv=>eC w λw p=>eI .i64 w λw=>eC p λp q=>eI .i64 p λp=>eC q λq g=>eS 2 q λq i j=>eC g λg d=>eT g λg=>eC d λd e=>eBv d λd=>eN e (Aw 9 (u ++ [.rows 9 123 false [O9 x y z v w p q i j g d]]) (.sl 9 (some (u.length,0)) 1 (some 1)) λe=>DJ lo 123 9 96 (.sl 9 c s b) e (u ++ [.rows 9 123 false [O9 x y z v w p q i j g d]]) λv c=>eS 9 v λv s b=>eO (st lo c n m (k+2) [.sl 9 v s b]) λv=>some (.bool true,v))))))))) (Ax o))) (Ax a)))))))) (Ax l))=some r) :
  Af lo 149 [DQ n m k,Bi t x y z S f] h=some r :=
 eK Tryz.func149 hk
theorem MK (hk:(eO (ld h n m (k+2) 1) λv=>eC v λv l=>eN l (eS 9 v λv v l=>Al (Af lo 63 (BQ x 0 (Ap ((v:Int) - 1))) h) λv l=>eB v (eO (ld l n m (k+2) 1) λv=>eC v λv c=>eN c (eS 9 v λv c a=>As x c (eO v λv=>eO (ld l v.1 (v.2+x.toNat) 0 9) λv=>eC v λv c=>eI .i64 v λv=>eC c λc a=>eI .i64 c λc=>eC a λa o=>eI .i64 a λa=>eC o λo s=>eI .i64 o λo=>eC s λs b=>eI .i64 s λs=>eC b λb u=>eI .i64 b λb=>eC u λu w=>eS 2 u λu p q=>eC w λw g=>eT w λw=>eC g λg i=>eBv g λg=>eN i (br (y==13) (br (y==12) (BI l) (eO (ld l n m (k+0) 1) λi=>eC i λi j=>eN j (eS 6 i λi j d=>As c j (eO i λi=>Al (Af lo 228 [.ptr (some (i.1,((i.2+c.toNat),0))),Iv v,Iv a,AA o s b u p q w g] l) λi j=>eB i (BI j) (BI j))))) (eO (ld l n m (k+2) 1) λi=>eC i λi j=>eN j (eS 9 i λi j d=>Al (Af lo 227 [.sl 9 i j d,Iv x,Iv (Ap (x+1))] l) λi j=>eS 9 i λi d e=>eO (st lo j n m (k+2) [.sl 9 i d e]) λi=>br (y==12) (BI i) (eO (ld i n m (k+0) 1) λj=>eC j λj d=>eN d (eS 6 j λj d e=>As c d (eO j λj=>Al (Af lo 228 [.ptr (some (j.1,((j.2+c.toNat),0))),Iv v,Iv a,AA o s b u p q w g] i) λv c=>eB v (BI c) (BI c)))))))))) (Ax l)))=some r) :
  Af lo 150 [DQ n m k,Bi y x z t S f] h=some r :=
 eK Tryz.func150 hk
theorem HR (hk:(Az a n c none (some (Iv (n:Int))) (some (Iv (n:Int))) λv l o=>some (.sl 5 v l o,h))=some r) :
  Af lo 151 [.sl 5 a n c] h=some r :=
 eK Tryz.func151 hk
theorem EE (hk:(br (a.isNone) (some (.sl 0 none 0 (some 0),h)) (Aw 5 (h ++ [.rows 5 126 false []]) (.sl 5 a n c) λv=>DJ lo 126 5 40 (.sl 5 (some (h.length,0)) 0 (some 0)) v (h ++ [.rows 5 126 false []]) λv l=>eS 5 v λv o s=>some (.sl 5 v o s,l)))=some r) :
  Af lo 152 [.sl 5 a n c] h=some r :=
 eK Tryz.func152 hk
theorem On (hk:(Al (Af lo 230 (Bk a n c) h) λv l=>eS 2 v λv o s=>Al (Af lo 229 (Bk v o s) l) λv l=>eS 2 v λv o s=>some ((Ao v o s),l))=some r) :
  Af lo 153 [Ao a n c] h=some r :=
 eK Tryz.func153 hk
theorem Ps (hk:(Al (Af lo 153 [Ao a n c] h) λv l=>eA v λv=>eC v λv o=>eS 2 v λv s b=>eN o (some ((AA x y z v s b S f),l)))=some r) :
  Af lo 154 [AA x y z a n c S f] h=some r :=
 eK Tryz.func154 hk
theorem RT {s0:ByteArray} (hk:(br (x==t) (br ((y==w)&&((z==q)&&true)) (Al (Af h.length 231 [.sl 2 a n c,.sl 2 b m p] h) λl o=>eB l (br (S.toList==s0.toList) (br (f==F) (BI o) (Ax o)) (Ax o)) (Ax o)) (Ax h)) (Ax h))=some (v,h')) (hn:noId v=true:=by rfl) :
  Af lo 155 [AA x y z a n c S f,AA t w q b m p s0 F] h=some (v,h) :=
 eD Tryz.func155 hk hn
theorem Pr (hk:(br (x==0) (br ((y==0)&&((z==0)&&true)) (Al (Af h.length 231 [.sl 2 a n c,.sl 0 none 0 (some 0)] h) λl o=>eB l (br (S.toList==(ByteArray.mk #[]).toList) (br (f==false) (BI o) (Ax o)) (Ax o)) (Ax o)) (Ax h)) (Ax h))=some (v,h')) (hn:noId v=true:=by rfl) :
  Af lo 155 [AA x y z a n c S f,.agg [Iv 0,Iv 0,Iv 0,.sl 0 none 0 (some 0),.str ⟨⟨[]⟩⟩,.bool false]] h=some (v,h) :=
 eD Tryz.func155 hk hn
def AJ lo a n c m l x y z h:=
 LA 156 Tryz.f156 22131 0 11 lo ⟨[(0,.sl 6 a n c),(1,.fn m l),(4,Iv x),(7,Iv y),(8,Iv z)],[],h⟩
theorem GU (hk:(AJ h.length a n c m l 0 (n:Int) 0 h)=some (v,h')) (hn:noId v=true:=by rfl) :
  Af lo 156 [.sl 6 a n c,.fn m l] h=some (v,h) :=
 eD Tryz.func156 hk hn
theorem AJ.e :
  AJ lo a n c m l z y x h=br (decide (x<y)) (As x n (eO a λv=>eO (ld h v.1 (v.2+x.toNat) 0 6) λv=>eC v λv o=>eI .i64 v λv=>eC o λo s=>eI .i64 o λo=>eC s λs b=>eI .i64 s λs=>eC b λb u=>eS 2 b λb w p=>eC u λu q=>eT u λu=>eC q λq g=>eBv q λq=>eN g (Al (Af lo m (Dl [AA v o s b w p u q] l) h) λv o=>eB v (some (Iv x,o)) (AJ lo a n c m l z y (Ap (x+1)) o)))) (some (Iv (-1),h)) :=
 lE
theorem Vs (hk:(br (decide ((n:Int)<=80)) (Al (Af h.length 232 [.sl 5 a n c,.fn 233 []] h) λl o=>eB l (Ax o) (BI o)) (Ax h))=some (v,h')) (hn:noId v=true:=by rfl) :
  Af lo 157 [.sl 5 a n c] h=some (v,h) :=
 eD Tryz.func157 hk hn
theorem Pn (hk:(br (decide ((n:Int)<=(m:Int))) (Az a m c none (some (Iv (n:Int))) none λl o s=>Al (Af h.length 234 [.sl 6 l o s,.sl 6 b n p,.fn 155 []] h) λl o=>eB l (BI o) (Ax o)) (Ax h))=some (v,h')) (hn:noId v=true:=by rfl) :
  Af lo 158 (Jq a m c b n p) h=some (v,h) :=
 eD Tryz.func158 hk hn
theorem FG (hk:(Al (Af h.length 235 [.sl 5 a n c,.fn m l] h) λo s=>eI .i64 o λo=>br (decide (o>=0)) (BI s) (Ax s))=some (v,h')) (hn:noId v=true:=by rfl) :
  Af lo 159 [.sl 5 a n c,.fn m l] h=some (v,h) :=
 eD Tryz.func159 hk hn
theorem QB (hk:(Al (Af h.length 161 [JV x a n c y z t] h) λl o=>eB l (Ax o) (BI o))=some (v,h')) (hn:noId v=true:=by rfl) :
  Af lo 160 [JV x a n c y z t] h=some (v,h) :=
 eD Tryz.func160 hk hn
theorem Pv (hk:(Al (Af h.length 62 (AR y) h) λl o=>eB l (Al (Af h.length 71 [Ao a n c] o) λl s=>eB l (Al (Af h.length 144 [At z x] s) λl b=>eB l (br ((z==0)&&((x==0)&&true)) (br (t==0) (BI b) (Ax b)) (br (x==y) (Al (Af h.length 202 (AR t) b) λl u=>eB l (BI u) (Ax u)) (Ax b))) (Ax b)) (Ax s)) (Ax o))=some (v,h')) (hn:noId v=true:=by rfl) :
  Af lo 161 [JV y a n c z x t] h=some (v,h) :=
 eD Tryz.func161 hk hn
theorem Fb (hk:(Al (Af h.length 236 [.sl 9 a n c,.fn m l] h) λo s=>eI .i64 o λo=>br (decide (o>=0)) (BI s) (Ax s))=some (v,h')) (hn:noId v=true:=by rfl) :
  Af lo 162 [.sl 9 a n c,.fn m l] h=some (v,h) :=
 eD Tryz.func162 hk hn
theorem QA (hk:(Al (Af h.length 164 [DQ m 0 0,JW x y z t w q a n c S f] h) λl o=>eB l (Ax o) (BI o))=some (v,h')) (hn:noId v=true:=by rfl) :
  Af lo 163 [JW x y z t w q a n c S f,DQ m 0 0] h=some (v,h) :=
 eD Tryz.func163 hk hn
theorem ML (hk:(Al (Af h.length 226 (Cq x z) h) λl o=>eB l (eO (ld o n m (k+0) 1) λl=>eC l λl s=>eN s (eS 6 l λl s b=>As x s (eO l λl=>eO (ld o l.1 (l.2+x.toNat) 3 1) λl=>eC l λl s=>eN s (eS 6 l λl l s=>Al (Af h.length 63 (BQ y 0 (Ap ((l:Int) - 1))) o) λl s=>eB l (eO (ld s n m (k+0) 1) λl=>eC l λl b=>eN b (eS 6 l λl b u=>As x b (eO l λl=>eO (ld s l.1 (l.2+x.toNat) 3 1) λl=>eC l λl b=>eN b (eS 6 l λl b u=>As y b (eO l λl=>eO (ld s l.1 (l.2+y.toNat) 0 6) λl=>eC l λl b=>eI .i64 l λl=>eC b λb u=>eI .i64 b λb=>eC u λu p=>eI .i64 u λu=>eC p λp g=>eS 2 p λp j d=>eC g λg e=>eT g λg=>eC e λe A=>eBv e λe=>eN A (Al (Af h.length 155 [AA l b u p j d g e,AA t w q a i c S f] s) λl b=>eB l (BI b) (Ax b))))))) (Ax s))))) (Ax o))=some (v,h')) (hn:noId v=true:=by rfl) :
  Af lo 164 [DQ n m k,JW x z y t w q a i c S f] h=some (v,h) :=
 eD Tryz.func164 hk hn
theorem Ub {e:Pq} (hk:(br (x==z) (br (y==t) (Al (Af h.length 237 [Ao a n c,Ao e i s] h) λl o=>eB l (Al (Af h.length 238 (Jq b m p A j C) o) λl w=>eB l (Al (Af h.length 239 [.sl 1 d k u,.sl 1 B g D] w) λl q=>eB l (br (f==F) (BI q) (Ax q)) (Ax q)) (Ax w)) (Ax o)) (Ax h)) (Ax h))=some (v,h')) (hn:noId v=true:=by rfl) :
  Af lo 165 [Bs x y a n c b m p d k u f,Bs z t e i s A j C B g D F] h=some (v,h) :=
 eD Tryz.func165 hk hn
theorem Vl {M N:Int} (hk:(br (x==w) (Al (Af h.length 240 [Ao a n c,Ao b m p] h) λl o=>eB l (Al (Af h.length 241 [At y z,At q M] o) λl s=>eB l (br (t==N) (BI s) (Ax s)) (Ax s)) (Ax o)) (Ax h))=some (v,h')) (hn:noId v=true:=by rfl) :
  Af lo 166 [JV x a n c y z t,JV w b m p q M N] h=some (v,h) :=
 eD Tryz.func166 hk hn
theorem Ud {M N O x0 x1 x2:Int}{s0:ByteArray} (hk:(br (x==M) (br (y==N) (br (z==O) (Al (Af h.length 242 [AA t w q a n c S f,AA x0 x1 x2 b m p s0 F] h) λl o=>eB l (BI o) (Ax o)) (Ax h)) (Ax h)) (Ax h))=some (v,h')) (hn:noId v=true:=by rfl) :
  Af lo 167 [JW x y z t w q a n c S f,JW M N O x0 x1 x2 b m p s0 F] h=some (v,h) :=
 eD Tryz.func167 hk hn
theorem Vo {M N O x0:Int} (hk:(br (x==q) (br (y==M) (br (z==N) (Al (Af h.length 241 [At t w,At O x0] h) λl c=>eB l (BI c) (Ax c)) (Ax h)) (Ax h)) (Ax h))=some (v,h')) (hn:noId v=true:=by rfl) :
  Af lo 168 [Mx x y z t w,Mx q M N O x0] h=some (v,h) :=
 eD Tryz.func168 hk hn
def CC lo a n c x y h:=
 LA 169 Tryz.f169 22131 0 11 lo ⟨[(0,.sl 2 a n c),(1,Iv x),(5,Iv y)],[],h⟩
theorem Qr (hk:(CC lo a n c x 0 h)=some r) :
  Af lo 169 [.sl 2 a n c,Iv x] h=some r :=
 eK Tryz.func169 hk
theorem CC.e :
  CC lo a n c y x h=br (decide (x<(n:Int))) (As x n (eO a λv=>eO (ld h v.1 (v.2+x.toNat) 0 1) λv=>eC v λv l=>eN l (eS 6 v λv l o=>Al (Af lo 170 [.sl 6 v l o,Iv y] h) λv l=>eI .i64 v λv=>As x n (eO a λo=>eO (ld l o.1 (o.2+x.toNat) 1 1) λo=>eC o λo s=>eN s (eS 6 o λo s b=>Al (Af lo 170 [.sl 6 o s b,Iv v] l) λv l=>eI .i64 v λv=>CC lo a n c v (Ap (x+1)) l))))) (some (Iv y,h)) :=
 lE
def Cu lo a n c x y h:=
 LA 170 Tryz.f170 22131 0 11 lo ⟨[(0,.sl 6 a n c),(1,Iv x),(5,Iv y)],[],h⟩
theorem RK (hk:(Cu lo a n c x 0 h)=some r) :
  Af lo 170 [.sl 6 a n c,Iv x] h=some r :=
 eK Tryz.func170 hk
theorem Cu.e :
  Cu lo a n c y x h=br (decide (x<(n:Int))) (As x n (eO a λv=>eO (st lo h v.1 (v.2+x.toNat) 0 (AR y)) λv=>As x n (eO a λl=>eO (st lo v l.1 (l.2+x.toNat) 1 (AR (Ap (y+1)))) λv=>As x n (eO a λl=>eO (st lo v l.1 (l.2+x.toNat) 2 (AR (Ap ((Ap (y+1))+1)))) λv=>As x n (eO a λl=>eO (ld v l.1 (l.2+x.toNat) 3 1) λl=>eC l λl o=>eN o (eS 2 l λl o s=>Al (Af lo 172 [.sl 2 l o s,Iv (Ap ((Ap ((Ap (y+1))+1))+1))] v) λv l=>eI .i64 v λv=>Al (Af lo 88 (AR v) l) λl o=>eT l λl=>As x n (eO a λs=>eO (st lo o s.1 (s.2+x.toNat) 4 [.str l]) λl=>br ((Ap (v+(1:Int))).tmod (3:Int)==0) (As x n (eO a λo=>eO (st lo l o.1 (o.2+x.toNat) 5 [.bool true]) λo=>Cu lo a n c (Ap ((Ap (v+1))+1)) (Ap (x+1)) o)) (As x n (eO a λo=>eO (st lo l o.1 (o.2+x.toNat) 5 [.bool false]) λl=>Cu lo a n c (Ap ((Ap (v+1))+1)) (Ap (x+1)) l))))))))) (some (Iv y,h)) :=
 lE
def CA lo a n c x y h:=
 LA 171 Tryz.f171 22131 0 11 lo ⟨[(0,.sl 1 a n c),(1,Iv x),(5,Iv y)],[],h⟩
theorem Qp (hk:(CA lo a n c x 0 h)=some r) :
  Af lo 171 [.sl 1 a n c,Iv x] h=some r :=
 eK Tryz.func171 hk
theorem CA.e :
  CA lo a n c y x h=br (decide (x<(n:Int))) (As x n (eO a λv=>eO (ld h v.1 (v.2+x.toNat) 0 1) λv=>eC v λv l=>eN l (eS 6 v λv l o=>Al (Af lo 170 [.sl 6 v l o,Iv y] h) λv l=>eI .i64 v λv=>CA lo a n c v (Ap (x+1)) l))) (some (Iv y,h)) :=
 lE
def C7 lo a n c x y h:=
 LA 172 Tryz.f172 22131 0 11 lo ⟨[(0,.sl 2 a n c),(1,Iv x),(5,Iv y)],[],h⟩
theorem RL (hk:(C7 lo a n c x 0 h)=some r) :
  Af lo 172 [.sl 2 a n c,Iv x] h=some r :=
 eK Tryz.func172 hk
theorem C7.e :
  C7 lo a n c y x h=br (decide (x<(n:Int))) (As x n (eO a λv=>eO (st lo h v.1 (v.2+x.toNat) 0 (AR y)) λv=>As x n (eO a λl=>eO (st lo v l.1 (l.2+x.toNat) 1 (AR (Ap (y+1)))) λv=>C7 lo a n c (Ap ((Ap (y+1))+1)) (Ap (x+1)) v))) (some (Iv y,h)) :=
 lE
def CG lo a n c x y z h:=
 LA 173 Tryz.f173 22131 0 11 lo ⟨[(0,.sl 2 a n c),(1,Iv x),(4,Iv y),(5,Iv z)],[],h⟩
theorem Qw (hk:(CG h.length a n c x 0 0 h)=some (v,h')) (hn:noId v=true:=by rfl) :
  Af lo 173 [.sl 2 a n c,Iv x] h=some (v,h) :=
 eD Tryz.func173 hk hn
theorem CG.e :
  CG lo a n c y z x h=br (decide (x<(n:Int))) (As x n (eO a λv=>eO (ld h v.1 (v.2+x.toNat) 0 1) λv=>eC v λv l=>eN l (eS 6 v λv l o=>Al (Af lo 174 [.sl 6 v l o,Iv y] h) λv l=>eI .i64 v λv=>br (decide (v<0)) (some (Iv (-1),l)) (As x n (eO a λo=>eO (ld l o.1 (o.2+x.toNat) 1 1) λo=>eC o λo s=>eN s (eS 6 o λo s b=>Al (Af lo 174 [.sl 6 o s b,Iv v] l) λv l=>eI .i64 v λv=>br (decide (v<0)) (some (Iv (-1),l)) (CG lo a n c v z (Ap (x+1)) l))))))) (some (Iv y,h)) :=
 lE
def Cw lo a n c x y z h:=
 LA 174 Tryz.f174 22131 0 11 lo ⟨[(0,.sl 6 a n c),(1,Iv x),(4,Iv y),(5,Iv z)],[],h⟩
theorem RM (hk:(Cw h.length a n c x 0 0 h)=some (v,h')) (hn:noId v=true:=by rfl) :
  Af lo 174 [.sl 6 a n c,Iv x] h=some (v,h) :=
 eD Tryz.func174 hk hn
theorem Cw.e :
  Cw lo a n c y z x h=br (decide (x<(n:Int))) (As x n (eO a λv=>eO (ld h v.1 (v.2+x.toNat) 0 1) λv=>eC v λv l=>eN l (eI .i64 v λv=>br (v==y) (As x n (eO a λv=>eO (ld h v.1 (v.2+x.toNat) 1 1) λv=>eC v λv l=>eN l (eI .i64 v λv=>br (v==Ap (y+(1:Int))) (As x n (eO a λv=>eO (ld h v.1 (v.2+x.toNat) 2 1) λv=>eC v λv l=>eN l (eI .i64 v λv=>br (v==Ap (Ap (y+(1:Int))+(1:Int))) (As x n (eO a λv=>eO (ld h v.1 (v.2+x.toNat) 3 1) λv=>eC v λv l=>eN l (eS 2 v λv l o=>Al (Af lo 176 [.sl 2 v l o,Iv (Ap ((Ap ((Ap (y+1))+1))+1))] h) λv l=>eI .i64 v λv=>br (decide (v<0)) (some (Iv (-1),l)) (As x n (eO a λo=>eO (ld l o.1 (o.2+x.toNat) 4 1) λo=>eC o λo s=>eN s (eT o λo=>Al (Af l.length 88 (AR v) l) λl s=>eT l λl=>br (o.toList==l.toList) (As x n (eO a λl=>eO (ld s l.1 (l.2+x.toNat) 5 1) λl=>eC l λl o=>eN o (eB l (br ((Ap (v+(1:Int))).tmod (3:Int)==0) (Cw lo a n c (Ap ((Ap (v+1))+1)) z (Ap (x+1)) s) (some (Iv (-1),s))) (br ((Ap (v+(1:Int))).tmod (3:Int)==0) (some (Iv (-1),s)) (Cw lo a n c (Ap ((Ap (v+1))+1)) z (Ap (x+1)) s))))) (some (Iv (-1),s)))))))) (some (Iv (-1),h))))) (some (Iv (-1),h))))) (some (Iv (-1),h))))) (some (Iv y,h)) :=
 lE
def CE lo a n c x y z h:=
 LA 175 Tryz.f175 22131 0 11 lo ⟨[(0,.sl 1 a n c),(1,Iv x),(4,Iv y),(5,Iv z)],[],h⟩
theorem Qu (hk:(CE h.length a n c x 0 0 h)=some (v,h')) (hn:noId v=true:=by rfl) :
  Af lo 175 [.sl 1 a n c,Iv x] h=some (v,h) :=
 eD Tryz.func175 hk hn
theorem CE.e :
  CE lo a n c y z x h=br (decide (x<(n:Int))) (As x n (eO a λv=>eO (ld h v.1 (v.2+x.toNat) 0 1) λv=>eC v λv l=>eN l (eS 6 v λv l o=>Al (Af lo 174 [.sl 6 v l o,Iv y] h) λv l=>eI .i64 v λv=>br (decide (v<0)) (some (Iv (-1),l)) (CE lo a n c v z (Ap (x+1)) l)))) (some (Iv y,h)) :=
 lE
def C8 lo a n c x y z h:=
 LA 176 Tryz.f176 22131 0 11 lo ⟨[(0,.sl 2 a n c),(1,Iv x),(4,Iv y),(5,Iv z)],[],h⟩
theorem RN (hk:(C8 h.length a n c x 0 0 h)=some (v,h')) (hn:noId v=true:=by rfl) :
  Af lo 176 [.sl 2 a n c,Iv x] h=some (v,h) :=
 eD Tryz.func176 hk hn
theorem C8.e :
  C8 lo a n c y z x h=br (decide (x<(n:Int))) (As x n (eO a λv=>eO (ld h v.1 (v.2+x.toNat) 0 1) λv=>eC v λv l=>eN l (eI .i64 v λv=>br (v==y) (As x n (eO a λv=>eO (ld h v.1 (v.2+x.toNat) 1 1) λv=>eC v λv l=>eN l (eI .i64 v λv=>br (v==Ap (y+(1:Int))) (C8 lo a n c (Ap ((Ap (y+1))+1)) z (Ap (x+1)) h) (some (Iv (-1),h))))) (some (Iv (-1),h))))) (some (Iv y,h)) :=
 lE
theorem T0 (hk:(Al (Af h.length 243 [Ao a n c,Iv x] h) λl o=>eI .i64 l λl=>br (decide (l<0)) (some (Iv (-1),o)) (Al (Af h.length 244 [.sl 6 b m p,Iv l] o) λl o=>eI .i64 l λl=>br (decide (l<0)) (some (Iv (-1),o)) (Al (Af h.length 245 [.sl 1 d k u,Iv l] o) λl o=>eI .i64 l λl=>br (decide (l<0)) (some (Iv (-1),o)) (some (Iv l,o)))))=some (v,h')) (hn:noId v=true:=by rfl) :
  Af lo 177 [Bs y z a n c b m p d k u f,Iv x] h=some (v,h) :=
 eD Tryz.func177 hk hn
theorem Vf (hk:(Al (Af h.length 246 [Ao a n c,Iv x] h) λl o=>eI .i64 l λl=>br (decide (l<0)) (some (Iv (-1),o)) (some (Iv l,o)))=some (v,h')) (hn:noId v=true:=by rfl) :
  Af lo 178 [JV y a n c z t w,Iv x] h=some (v,h) :=
 eD Tryz.func178 hk hn
theorem T3 {M:Int} (hk:(Al (Af h.length 247 [AA x y z a n c S f,Iv t] h) λl o=>eI .i64 l λl=>br (decide (l<0)) (some (Iv (-1),o)) (some (Iv l,o)))=some (v,h')) (hn:noId v=true:=by rfl) :
  Af lo 179 [JW w q M x y z a n c S f,Iv t] h=some (v,h) :=
 eD Tryz.func179 hk hn
theorem Rw (hk:(Al (Af h.length 54 (BQ y 0 2) h) λl o=>eB l (Al (Af h.length 56 [Ao a n c] o) λl s=>eB l (Al (Af h.length 123 [At x z] s) λl b=>eB l (Al (Af h.length 54 (BQ t 0 3) b) λl u=>eB l (br (decide (x>0)) (br (x==0) (BI u) (br (z==y) (BI u) (Ax u))) (br (t==0) (br (x==0) (BI u) (br (z==y) (BI u) (Ax u))) (Ax u))) (Ax u)) (Ax b)) (Ax s)) (Ax o))=some (v,h')) (hn:noId v=true:=by rfl) :
  Af lo 180 [JV y a n c x z t] h=some (v,h) :=
 eD Tryz.func180 hk hn
theorem Qk {e:Pq} (hk:(Al (Af h.length 54 (BQ x 0 2) h) λl o=>eB l (Al (Af h.length 54 (BQ z 0 2) o) λl g=>eB l (br (x==z) (Ax g) (As x n (eO a λl=>eO (ld g l.1 (l.2+x.toNat) 3 1) λl=>eC l λl B=>eN B (eS 6 l λl l B=>Al (Af h.length 54 (BQ y 0 (Ap ((l:Int) - 1))) g) λl B=>eB l (Al (Af h.length 112 [AA t w q b m c S f] B) λl D=>eB l (As x n (eO a λl=>eO (ld D l.1 (l.2+x.toNat) 3 1) λl=>eC l λl E=>eN E (eS 6 l λl E G=>As y E (eO l λl=>eO (ld D l.1 (l.2+y.toNat) 0 6) λl=>eC l λl E=>eI .i64 l λl=>eC E λE G=>eI .i64 E λE=>eC G λG H=>eI .i64 G λG=>eC H λH J=>eS 2 H λH K L=>eC J λJ M=>eT J λJ=>eC M λM N=>eBv M λM=>eN N (Al (Af h.length 248 [AA t w q b m c S f,AA l E G H K L J M] D) λl E=>eB l (BI E) (Ax E)))))) (Ax D)) (Ax B))))) (Ax g)) (Ax o))=some (v,h')) (hn:noId v=true:=by rfl) :
  Af lo 181 [An a n p d k u e i s A j C,JW x z y t w q b m c S f] h=some (v,h) :=
 eD Tryz.func181 hk hn
theorem UK (hk:(Al (Af h.length 54 (BQ z 0 3) h) λl c=>eB l (Al (Af h.length 54 (BQ x 1 3) c) λl n=>eB l (Al (Af h.length 54 (BQ t 0 3) n) λl a=>eB l (Al (Af h.length 123 [At y w] a) λl o=>eB l (br (x==2) (BI o) (br (decide (y>0)) (BI o) (Ax o))) (Ax o)) (Ax a)) (Ax n)) (Ax c))=some (v,h')) (hn:noId v=true:=by rfl) :
  Af lo 182 [Mx z x t y w] h=some (v,h) :=
 eD Tryz.func182 hk hn
def CM lo f x a n c b m p d k u e i s h:=
 LA 183 Tryz.f183 22131 0 11 lo ⟨[(1,.lp 1 0),(2,.bool f),(3,Iv x)],[(1,(Dc a n c b m p d k u e i s))],h⟩
def CL lo f x y a n c b m p d k u e i s h:=
 Lp (X 183) lo (pf 22123122131 Tryz.f183) 2 (Ba 2 (Ba 1 (kS (X 183) lo (pf 1122131 Tryz.f183) 0 (ZB (X 183) lo (pf 22131 Tryz.f183) 0 (Ba 0 (kS (X 183) lo (pf 11 Tryz.f183) 0 (K8 (X 183) Tryz.f183.results.toList))))))) ⟨[(1,.lp 1 0),(2,.bool f),(3,Iv x),(4,Iv y)],[(1,(Dc a n c b m p d k u e i s))],h⟩
def Dn lo f x y a n c z b m p d k u e i s A j C h:=
 Lp (X 183) lo (pf 2211123122123122131 Tryz.f183) 4 (Ba 4 (Ba 3 (kS (X 183) lo (pf 1122123122131 Tryz.f183) 2 (ZB (X 183) lo (pf 22123122131 Tryz.f183) 2 (Ba 2 (Ba 1 (kS (X 183) lo (pf 1122131 Tryz.f183) 0 (ZB (X 183) lo (pf 22131 Tryz.f183) 0 (Ba 0 (kS (X 183) lo (pf 11 Tryz.f183) 0 (K8 (X 183) Tryz.f183.results.toList))))))))))) ⟨[(1,.lp 1 0),(2,.bool f),(3,Iv x),(4,Iv y),(5,.sl 6 a n c),(6,Iv z)],[(1,(Dc b m p d k u e i s A j C))],h⟩
theorem TC {e:Pq} (hk:(CM h.length false 0 a n c b m p d k u e i s h)=some (v,h')) (hn:noId v=true:=by rfl) :
  Af lo 183 [An a n c b m p d k u e i s] h=some (v,h) :=
 eD Tryz.func183 hk hn
theorem CM.e :
  CM lo f x a n c b m p d k u A i s h=br (decide (x<3)) (CL lo f x 0 a n c b m p d k u A i s h) (BI h) :=
 lE
theorem CL.e :
  CL lo f y x a n c b m p d k u A i s h=br (decide (x<3)) (As y n (eO a λv=>eO (ld h v.1 (v.2+y.toNat) 4 1) λv=>eC v λv l=>eN l (eS 1 v λv l o=>As x l (eO v λv=>eO (ld h v.1 (v.2+x.toNat) 0 1) λv=>eC v λv l=>eN l (eS 6 v λv l o=>As x n (eO a λz=>eO (ld h z.1 (z.2+x.toNat) 3 1) λz=>eC z λz w=>eN w (eS 6 z λz z w=>br (decide ((l:Int)>(z:Int))) (Ax h) (Dn lo f y x v l o 0 a n c b m p d k u A i s h)))))))) (CM lo f (Ap (y+1)) a n c b m p d k u A i s h) :=
 lE
theorem Dn.e {lo n m k i j:Nat}{f:Bool}{z y x:Int}{b a d A B:Pq}{C c p u s:Nq}{h:Heap} :
  Dn lo f z y b n C x a m c d k p A i u B j s h=br (decide (x<(n:Int))) (As x n (eO b λv=>eO (ld h v.1 (v.2+x.toNat) 0 6) λv=>eC v λv l=>eI .i64 v λv=>eC l λl o=>eI .i64 l λl=>eC o λo w=>eI .i64 o λo=>eC w λw q=>eS 2 w λw g t=>eC q λq e=>eT q λq=>eC e λe D=>eBv e λe=>eN D (As y m (eO a λD=>eO (ld h D.1 (D.2+y.toNat) 3 1) λD=>eC D λD E=>eN E (eS 6 D λD E G=>As x E (eO D λD=>eO (ld h D.1 (D.2+x.toNat) 0 6) λD=>eC D λD E=>eI .i64 D λD=>eC E λE G=>eI .i64 E λE=>eC G λG H=>eI .i64 G λG=>eC H λH J=>eS 2 H λH K L=>eC J λJ M=>eT J λJ=>eC M λM N=>eBv M λM=>eN N (Al (Af lo 248 [AA v l o w g t q e,AA D E G H K L J M] h) λv l=>eB v (Dn lo f z y b n C (Ap (x+1)) a m c d k p A i u B j s l) (Ax l)))))))) (CL lo f z (Ap (y+1)) a m c d k p A i u B j s h) :=
 lE
theorem Ry {e:Pq} (hk:(Al (Af lo 54 (BQ x 0 (Ap ((n:Int) - 1))) h) λv l=>eB v (br (y==1) (Al (Af lo 249 [An b m c a n p d k u e i s,Bi y x z t S f] l) λv o=>eU v λv=>eC v λv w=>eA v λv=>eC v λv q=>eS 6 v λv g j=>eC q λq A=>eS 5 q λq B C=>eC A λA D=>eS 9 A λA E G=>eC D λD H=>eS 5 D λD J K=>eN H (eC w λw H=>eB w (eN H (some (.tup [An v g j q B C A E G D J K,.bool true],o))) (eN H (some (.tup [An v g j q B C A E G D J K,.bool false],o))))) (br (y==2) (Al (Af lo 250 [An b m c a n p d k u e i s,Bi y x z t S f] l) λv o=>eU v λv=>eC v λv w=>eA v λv=>eC v λv q=>eS 6 v λv g j=>eC q λq A=>eS 5 q λq B C=>eC A λA D=>eS 9 A λA E G=>eC D λD H=>eS 5 D λD J K=>eN H (eC w λw H=>eB w (eN H (some (.tup [An v g j q B C A E G D J K,.bool true],o))) (eN H (some (.tup [An v g j q B C A E G D J K,.bool false],o))))) (br (y==3) (Al (Af lo 251 [An b m c a n p d k u e i s,Bi y x z t S f] l) λv o=>eU v λv=>eC v λv w=>eA v λv=>eC v λv q=>eS 6 v λv g j=>eC q λq A=>eS 5 q λq B C=>eC A λA D=>eS 9 A λA E G=>eC D λD H=>eS 5 D λD J K=>eN H (eC w λw H=>eB w (eN H (some (.tup [An v g j q B C A E G D J K,.bool true],o))) (eN H (some (.tup [An v g j q B C A E G D J K,.bool false],o))))) (br (y==4) (Al (Af lo 252 [An b m c a n p d k u e i s,Bi y x z t S f] l) λv o=>eU v λv=>eC v λv w=>eA v λv=>eC v λv q=>eS 6 v λv g j=>eC q λq A=>eS 5 q λq B C=>eC A λA D=>eS 9 A λA E G=>eC D λD H=>eS 5 D λD J K=>eN H (eC w λw H=>eB w (eN H (some (.tup [An v g j q B C A E G D J K,.bool true],o))) (eN H (some (.tup [An v g j q B C A E G D J K,.bool false],o))))) (As x n (eO a λv=>eO (ld l v.1 (v.2+x.toNat) 2 1) λv=>eC v λv o=>eN o (eI .i64 v λv=>br (decide (v>0)) (some (.tup [An b m c a n p d k u e i s,.bool false],l)) (Al (Af lo 54 (BQ z 0 2) l) λv o=>eB v (As x n (eO a λv=>eO (st lo o v.1 (v.2+x.toNat) 0 (AR z)) λv=>some (.tup [An b m c a n p d k u e i s,.bool true],v))) (some (.tup [An b m c a n p d k u e i s,.bool false],o)))))))))) (some (.tup [An b m c a n p d k u e i s,.bool false],l)))=some r) :
  Af lo 184 [An b m c a n p d k u e i s,Bi y x z t S f] h=some r :=
 eK Tryz.func184 hk
end
noncomputable section

variable {lo n m k i:Nat}{a b d:Pq}{c p u s:Nq}{z x y t:Int}{S:ByteArray}{f:Bool}{h:Heap}{r:V×Heap}{w q:Int}{h':Heap}{v:V}{j g:Nat}{s0:ByteArray}{F:Bool}{l:List V}
theorem TB {e:Pq} (hk:(Al (Af lo 54 (BQ x 0 2) h) λv l=>eB v (As x n (eO a λv=>eO (ld l v.1 (v.2+x.toNat) 0 6) λv=>eC v λv o=>eI .i64 v λv=>eC o λo w=>eI .i64 o λo=>eC w λw q=>eS 2 w λw g j=>eC q λq A=>eS 6 q λq B C=>eC A λA D=>eS 1 A λA E G=>eC D λD H=>eBv D λD=>eN H (br (z==6) (Al (Af lo 253 [Ao w g j,Iv y] l) λH J=>eB H (Al (Af lo 254 [Ao w g j,Iv y] J) λH K=>eA H λH=>eC H λH L=>eS 2 H λH M N=>eN L (Al (Af lo 130 [Bs v o H M N q B C A E G D] K) λH K=>eA H λH=>eC H λH L=>eI .i64 H λH=>eC L λL M=>eI .i64 L λL=>eC M λM N=>eS 2 M λM O P=>eC N λN Q=>eS 6 N λN U W=>eC Q λQ Y=>eS 1 Q λQ Z v0=>eC Y λY v1=>eBv Y λY=>eN v1 (As x n (eO a λv1=>eO (st lo K v1.1 (v1.2+x.toNat) 0 (DO H L M O P N U W Q Z v0 Y)) λH=>some (.tup [An a n c b m p d k u e i s,.bool true],H))))) (As x n (eO a λH=>eO (st lo J H.1 (H.2+x.toNat) 0 (DO v o w g j q B C A E G D)) λH=>some (.tup [An a n c b m p d k u e i s,.bool false],H)))) (br (z==7) (Al (Af lo 255 [Bs v o w g j q B C A E G D,Iv y] l) λH J=>eB H (Al (Af lo 256 [Ao w g j,Iv y] J) λH K=>eA H λH=>eC H λH L=>eS 2 H λH M N=>eN L (Al (Af lo 130 [Bs v o H M N q B C A E G true] K) λH K=>eA H λH=>eC H λH L=>eI .i64 H λH=>eC L λL M=>eI .i64 L λL=>eC M λM N=>eS 2 M λM O P=>eC N λN Q=>eS 6 N λN U W=>eC Q λQ Y=>eS 1 Q λQ Z v0=>eC Y λY v1=>eBv Y λY=>eN v1 (As x n (eO a λv1=>eO (st lo K v1.1 (v1.2+x.toNat) 0 (DO H L M O P N U W Q Z v0 Y)) λH=>some (.tup [An a n c b m p d k u e i s,.bool true],H))))) (As x n (eO a λH=>eO (st lo J H.1 (H.2+x.toNat) 0 (DO v o w g j q B C A E G D)) λH=>some (.tup [An a n c b m p d k u e i s,.bool false],H)))) (br (z==8) (br (decide ((g:Int)<4)) (Al (Af lo 257 [Ao w g j] l) λH J=>eA H λH=>eC H λH K=>eS 2 H λH L M=>eN K (As x n (eO a λK=>eO (st lo J K.1 (K.2+x.toNat) 0 (DO v o H L M q B C A E G D)) λH=>some (.tup [An a n c b m p d k u e i s,.bool true],H)))) (As x n (eO a λH=>eO (st lo l H.1 (H.2+x.toNat) 0 (DO v o w g j q B C A E G D)) λH=>some (.tup [An a n c b m p d k u e i s,.bool false],H)))) (Al (Af lo 54 (BQ y 0 2) l) λH J=>eB H (Al (Af lo 258 [Bs v o w g j q B C A E G D,Iv y] J) λH K=>eB H (Al (Af lo 259 [Bs v o w g j q B C A E G D,Iv y] K) λH L=>eA H λH=>eC H λH M=>eI .i64 H λH=>eC M λM N=>eI .i64 M λM=>eC N λN O=>eS 2 N λN P Q=>eC O λO U=>eS 6 O λO W Y=>eC U λU Z=>eS 1 U λU v0 v1=>eC Z λZ v2=>eBv Z λZ=>eN v2 (As x n (eO a λv2=>eO (st lo L v2.1 (v2.2+x.toNat) 0 (DO H M N P Q O W Y U v0 v1 Z)) λH=>some (.tup [An a n c b m p d k u e i s,.bool true],H)))) (As x n (eO a λH=>eO (st lo K H.1 (H.2+x.toNat) 0 (DO v o w g j q B C A E G D)) λH=>some (.tup [An a n c b m p d k u e i s,.bool false],H)))) (As x n (eO a λH=>eO (st lo J H.1 (H.2+x.toNat) 0 (DO v o w g j q B C A E G D)) λv=>some (.tup [An a n c b m p d k u e i s,.bool false],v))))))))) (some (.tup [An a n c b m p d k u e i s,.bool false],l)))=some r) :
  Af lo 185 [An a n c b m p d k u e i s,Bi z x y t S f] h=some r :=
 eK Tryz.func185 hk
theorem XJ {e:Pq} (hk:(br (z==10) (Al (Af lo 54 (BQ x 0 2) h) λv l=>eB v (Al (Af lo 54 (BQ t 0 2) l) λv o=>eB v (br (x==t) (some (.tup [An a n c b k p d m s e i u,.bool false],o)) (br (decide ((m:Int)>=12)) (some (.tup [An a n c b k p d m s e i u,.bool false],o)) (As x n (eO a λv=>eO (ld o v.1 (v.2+x.toNat) 3 1) λv=>eC v λv w=>eN w (eS 6 v λv v w=>Al (Af lo 54 (BQ y 0 (Ap ((v:Int) - 1))) o) λv w=>eB v (As x n (eO a λv=>eO (ld w v.1 (v.2+x.toNat) 3 1) λv=>eC v λv q=>eN q (eS 6 v λv q g=>As y q (eO v λv=>eO (ld w v.1 (v.2+y.toNat) 0 6) λv=>eC v λv q=>eI .i64 v λv=>eC q λq g=>eI .i64 q λq=>eC g λg j=>eI .i64 g λg=>eC j λj A=>eS 2 j λj B C=>eC A λA D=>eT A λA=>eC D λD E=>eBv D λD=>eN E (Al (Af lo 187 [AA v q g j B C A D] w) λv q=>eA v λv=>eC v λv g=>eI .i64 v λv=>eC g λg j=>eI .i64 g λg=>eC j λj A=>eI .i64 j λj=>eC A λA B=>eS 2 A λA C D=>eC B λB E=>eT B λB=>eC E λE G=>eBv E λE=>eN G (Aw 9 (q ++ [.rows 9 123 false [O9 x t y v g j A C D B E]]) (.sl 9 (some (q.length,0)) 1 (some 1)) λG=>DJ lo 123 9 96 (.sl 9 d m s) G (q ++ [.rows 9 123 false [O9 x t y v g j A C D B E]]) λv q=>eS 9 v λv g j=>some (.tup [An a n c b k p v g j e i u,.bool true],q))))))) (some (.tup [An a n c b k p d m s e i u,.bool false],w))))))) (some (.tup [An a n c b k p d m s e i u,.bool false],o))) (some (.tup [An a n c b k p d m s e i u,.bool false],l))) (Al (Af lo 54 (BQ x 0 (Ap ((m:Int) - 1))) h) λv l=>eB v (As x m (eO d λv=>eO (ld l v.1 (v.2+x.toNat) 0 9) λv=>eC v λv o=>eI .i64 v λv=>eC o λo w=>eI .i64 o λo=>eC w λw q=>eI .i64 w λw=>eC q λq g=>eI .i64 q λq=>eC g λg j=>eI .i64 g λg=>eC j λj A=>eI .i64 j λj=>eC A λA B=>eS 2 A λA C D=>eC B λB E=>eT B λB=>eC E λE G=>eBv E λE=>eN G (br (z==13) (br (z==12) (some (.tup [An a n c b k p d m s e i u,.bool true],l)) (As o n (eO a λG=>eO (ld l G.1 (G.2+o.toNat) 0 6) λG=>eC G λG H=>eI .i64 G λG=>eC H λH J=>eI .i64 H λH=>eC J λJ K=>eS 2 J λJ L M=>eC K λK N=>eS 6 K λK O P=>eC N λN Q=>eS 1 N λN U W=>eC Q λQ Y=>eBv Q λQ=>eN Y (Al (Af lo 260 [Bs G H J L M K O P N U W Q,Iv v,Iv w,AA q g j A C D B E] l) λG H=>eU G λG=>eC G λG J=>eA G λG=>eC G λG K=>eI .i64 G λG=>eC K λK L=>eI .i64 K λK=>eC L λL M=>eS 2 L λL N O=>eC M λM P=>eS 6 M λM Q U=>eC P λP W=>eS 1 P λP Y Z=>eC W λW v0=>eBv W λW=>eN v0 (eC J λJ v0=>eB J (eN v0 (As o n (eO a λJ=>eO (st lo H J.1 (J.2+o.toNat) 0 (DO G K L N O M Q U P Y Z W)) λG=>some (.tup [An a n c b k p d m s e i u,.bool true],G)))) (eN v0 (some (.tup [An a n c b k p d m s e i u,.bool true],H)))))))) (Az d m s none (some (Iv x)) none λG H J=>Aw 9 (l ++ [.rows 9 123 false []]) (.sl 9 G H J) λG=>DJ lo 123 9 96 (.sl 9 (some (l.length,0)) 0 (some 0)) G (l ++ [.rows 9 123 false []]) λG H=>eS 9 G λG J K=>Az d m s (some (Iv (Ap (x+1)))) none none λL M N=>Aw 9 H (.sl 9 L M N) λL=>DJ lo 123 9 96 (.sl 9 G J K) L H λG H=>eS 9 G λG J K=>br (z==12) (some (.tup [An a n c b k p G J K e i u,.bool true],H)) (As o n (eO a λL=>eO (ld H L.1 (L.2+o.toNat) 0 6) λL=>eC L λL M=>eI .i64 L λL=>eC M λM N=>eI .i64 M λM=>eC N λN O=>eS 2 N λN P Q=>eC O λO U=>eS 6 O λO W Y=>eC U λU Z=>eS 1 U λU v0 v1=>eC Z λZ v2=>eBv Z λZ=>eN v2 (Al (Af lo 260 [Bs L M N P Q O W Y U v0 v1 Z,Iv v,Iv w,AA q g j A C D B E] H) λv w=>eU v λv=>eC v λv q=>eA v λv=>eC v λv g=>eI .i64 v λv=>eC g λg j=>eI .i64 g λg=>eC j λj A=>eS 2 j λj B C=>eC A λA D=>eS 6 A λA E H=>eC D λD L=>eS 1 D λD M N=>eC L λL O=>eBv L λL=>eN O (eC q λq O=>eB q (eN O (As o n (eO a λq=>eO (st lo w q.1 (q.2+o.toNat) 0 (DO v g j B C A E H D M N L)) λv=>some (.tup [An a n c b k p G J K e i u,.bool true],v)))) (eN O (some (.tup [An a n c b k p G J K e i u,.bool true],w))))))))))) (some (.tup [An a n c b k p d m s e i u,.bool false],l))))=some r) :
  Af lo 186 [An a n c b k p d m s e i u,Bi z x t y S f] h=some r :=
 eK Tryz.func186 hk
theorem U3 (hk:(Aw 2 (h ++ [.rows 2 36 false []]) (.sl 2 a n c) λv=>DJ lo 36 2 16 (.sl 2 (some (h.length,0)) 0 (some 0)) v (h ++ [.rows 2 36 false []]) λv l=>eS 2 v λv o s=>some ((AA x y z v o s S f),l))=some r) :
  Af lo 187 [AA x y z a n c S f] h=some r :=
 eK Tryz.func187 hk
theorem TP (hk:(Al (Af lo 261 [Ao a n c] h) λv l=>eA v λv=>eC v λv o=>eS 2 v λv s z=>eN o (Al (Af lo 262 (Bm b m p) l) λl o=>eS 6 l λl w q=>Al (Af lo 263 [.sl 1 d k u] o) λo g=>eS 1 o λo i j=>some ((Bs x y v s z l w q o i j f),g)))=some r) :
  Af lo 188 [Bs x y a n c b m p d k u f] h=some r :=
 eK Tryz.func188 hk
theorem U9 (hk:(Al (Af lo 264 [Ao a n c] h) λv l=>eA v λv=>eC v λv o=>eS 2 v λv s b=>eN o (Al (Af lo 265 [At y z] l) λl o=>eA l λl=>eC l λl u=>eI .i64 l λl=>eC u λu w=>eI .i64 u λu=>eN w (some ((JV x v s b l u t),o))))=some r) :
  Af lo 189 [JV x a n c y z t] h=some r :=
 eK Tryz.func189 hk
theorem TR (hk:(Al (Af lo 266 [AA t w q a n c S f] h) λv l=>eA v λv=>eC v λv o=>eI .i64 v λv=>eC o λo s=>eI .i64 o λo=>eC s λs b=>eI .i64 s λs=>eC b λb u=>eS 2 b λb p g=>eC u λu i=>eT u λu=>eC i λi j=>eBv i λi=>eN j (some ((JW x y z v o s b p g u i),l)))=some r) :
  Af lo 190 [JW x y z t w q a n c S f] h=some r :=
 eK Tryz.func190 hk
theorem Vc (hk:(Al (Af h.length 265 [At t w] h) λl c=>eA l λl=>eC l λl n=>eI .i64 l λl=>eC n λn a=>eI .i64 n λn=>eN a (some ((Mx x y z l n),c)))=some (v,h')) (hn:noId v=true:=by rfl) :
  Af lo 191 [Mx x y z t w] h=some (v,h) :=
 eD Tryz.func191 hk hn
def Hi lo n m k x y z t w i a j c S f q M N b g p s0 F h:=
 LA 195 Tryz.f195 2213111 0 1111 lo ⟨[(0,(DQ n m k)),(2,.lp 2 0),(3,.lp 3 0),(4,Iv x),(5,Iv y)],[(2,[Iv z,Iv t,Iv w,.sl i a j c,.str S,.bool f]),(3,(DC q M N b g p s0 F))],h⟩
theorem Hi.e {M N:Int} :
  Hi lo m k i y x t w q j b g p s0 F z M N a n c S f h=br (decide (x<4)) (Al (Af lo 109 [DQ m k i] h) λv l=>eA v λv=>eC v λv o=>eI .i64 v λv=>eC o λo s=>eI .i64 o λo=>eN s (As x n (eO a λs=>eO (st lo l s.1 (s.2+x.toNat) 0 (Cq v o)) λv=>As x n (eO a λl=>eO (ld v l.1 (l.2+x.toNat) 0 1) λl=>eC l λl o=>eN o (eI .i64 l λl=>br (decide (l>y)) (As x n (eO a λl=>eO (ld v l.1 (l.2+x.toNat) 0 1) λl=>eC l λl o=>eN o (eI .i64 l λl=>Hi lo m k i l (Ap (x+1)) t w q j b g p s0 F z M N a n c S f v))) (Hi lo m k i y (Ap (x+1)) t w q j b g p s0 F z M N a n c S f v)))))) (Al (Af lo 44 [DQ m k i,Iv 3] h) λv l=>eI .i64 v λv=>Al (Af lo 44 [DQ m k i,Iv 3] l) λl o=>eI .i64 l λl=>Al (Af lo 44 [DQ m k i,Iv 6] o) λo s=>eI .i64 o λo=>br (o==0) (some ((AA z (Ap ((Ap (y+1))+v)) l a n c ⟨⟨[]⟩⟩ true),s)) (some ((AA z (Ap ((Ap (y+1))+v)) l a n c S f),s))) :=
 lE
def BG lo x a n c m b k p i d j u h:=
 LA 196 Tryz.f196 221311 0 111 lo ⟨[(1,.lp 1 0),(2,.lp 2 0),(3,.lp 3 0),(4,Iv x)],[(1,(Bm a n c)),(2,[.sl m b k p]),(3,[.sl i d j u])],h⟩
theorem Ke (hk:(BG lo 0 a n c 0 none 0 (some 0) 0 none 0 (some 0) h)=some r) :
  Af lo 196 [Bh a n c] h=some r :=
 eK Tryz.func196 hk
theorem BG.e :
  BG lo x a n p i d j u m b k c h=br (decide (x<(n:Int))) (As x n (eO a λv=>eO (ld h v.1 (v.2+x.toNat) 0 6) λv=>eC v λv l=>eI .i64 v λv=>eC l λl o=>eI .i64 l λl=>eC o λo s=>eI .i64 o λo=>eC s λs y=>eS 2 s λs z w=>eC y λy q=>eT y λy=>eC q λq g=>eBv q λq=>eN g (Al (Af lo 187 [AA v l o s z w y q] h) λv l=>eA v λv=>eC v λv o=>eI .i64 v λv=>eC o λo s=>eI .i64 o λo=>eC s λs y=>eI .i64 s λs=>eC y λy z=>eS 2 y λy w q=>eC z λz g=>eT z λz=>eC g λg t=>eBv g λg=>eN t (Aw 6 (l ++ [.rows 6 43 false [DC v o s y w q z g]]) (.sl 6 (some (l.length,0)) 1 (some 1)) λt=>DJ lo 43 6 72 (.sl m b k c) t (l ++ [.rows 6 43 false [DC v o s y w q z g]]) λv l=>eS 6 v λv o s=>BG lo (Ap (x+1)) a n p i d j u 6 v o s l)))) (some (.agg [.sl m b k c],h)) :=
 lE
theorem U5 (hk:(br (decide (x<y)) (BI h) (br (x==y) (br (decide (z<t)) (BI h) (Ax h)) (Ax h)))=some (v,h')) (hn:noId v=true:=by rfl) :
  Af lo 197 [At x z,At y t] h=some (v,h) :=
 eD Tryz.func197 hk hn
theorem XR (hk:(As x n (eO a λv=>eO (ld h v.1 (v.2+x.toNat) 1 2) λv=>eC v λv l=>eI .i64 v λv=>eC l λl o=>eI .i64 l λl=>eN o (Al (Af lo 197 [At v l,At y z] h) λv l=>eB v (Al (Af lo 187 [AA x y z b m p S f] l) λv o=>eA v λv=>eC v λv s=>eI .i64 v λv=>eC s λs u=>eI .i64 s λs=>eC u λu w=>eI .i64 u λu=>eC w λw q=>eS 2 w λw g i=>eC q λq j=>eT q λq=>eC j λj k=>eBv j λj=>eN k (As x n (eO a λk=>eO (st lo o k.1 (k.2+x.toNat) 0 (DC v s u w g i q j)) λv=>some ((Bh a n c),v)))) (some ((Bh a n c),l)))))=some r) :
  Af lo 198 [Bh a n c,AA x y z b m p S f] h=some r :=
 eK Tryz.func198 hk
def BF lo f x a n c b m p h:=
 LA 199 Tryz.f199 22131 0 11 lo ⟨[(2,.lp 2 0),(3,.lp 3 0),(4,.bool f),(5,Iv x)],[(2,(Bm a n c)),(3,(Bm b m p))],h⟩
theorem Of (hk:(BF h.length false 0 a n c b m p h)=some (v,h')) (hn:noId v=true:=by rfl) :
  Af lo 199 [Bh a n c,Bh b m p] h=some (v,h) :=
 eD Tryz.func199 hk hn
theorem BF.e {lo n m:Nat}{f:Bool}{x:Int}{a b:Pq}{c p:Nq}{h:Heap} :
  BF lo f x a n c b m p h=br (decide (x<4)) (As x n (eO a λv=>eO (ld h v.1 (v.2+x.toNat) 1 2) λv=>eC v λv l=>eI .i64 v λv=>eC l λl o=>eI .i64 l λl=>eN o (As x m (eO b λo=>eO (ld h o.1 (o.2+x.toNat) 1 2) λo=>eC o λo s=>eI .i64 o λo=>eC s λs y=>eI .i64 s λs=>eN y (br ((v==o)&&((l==s)&&true)) (As x n (eO a λv=>eO (ld h v.1 (v.2+x.toNat) 1 1) λv=>eC v λv l=>eN l (eI .i64 v λv=>br (decide (v>0)) (As x n (eO a λv=>eO (ld h v.1 (v.2+x.toNat) 0 6) λv=>eC v λv l=>eI .i64 v λv=>eC l λl o=>eI .i64 l λl=>eC o λo s=>eI .i64 o λo=>eC s λs y=>eS 2 s λs z u=>eC y λy w=>eT y λy=>eC w λw q=>eBv w λw=>eN q (As x m (eO b λq=>eO (ld h q.1 (q.2+x.toNat) 0 6) λq=>eC q λq g=>eI .i64 q λq=>eC g λg i=>eI .i64 g λg=>eC i λi j=>eI .i64 i λi=>eC j λj k=>eS 2 j λj t d=>eC k λk e=>eT k λk=>eC e λe A=>eBv e λe=>eN A (Al (Af lo 248 [AA v l o s z u y w,AA q g i j t d k e] h) λv l=>eB v (BF lo f (Ap (x+1)) a n c b m p l) (Ax l)))))) (BF lo f (Ap (x+1)) a n c b m p h)))) (Ax h)))))) (BI h) :=
 lE
def B3 lo a n c x y m b k p d i u h:=
 LA 200 Tryz.f200 221311 0 111 lo ⟨[(2,.lp 2 0),(3,.lp 3 0),(12,.sl 2 a n c),(13,Iv x),(14,Iv y)],[(2,[.sl m b k p]),(3,(Bk d i u))],h⟩
theorem Nx (hk:(Bf (decide ((0:Int)<=0/\(0:Int)<=(n:Int)/\(n:Int)<=140737488355328/\(n:Int)*((48:Nat):Int)<=281474976710656)) (B3 lo a n c (n:Int) 0 0 none 0 (some 0) (some (h.length,0)) 0 (some n) (h ++ [.rows 2 47 false (List.replicate n [.sl 0 none 0 (some 0),.sl 0 none 0 (some 0)])])))=some r) :
  Af lo 200 [Ao a n c] h=some r :=
 eK Tryz.func200 hk
theorem B3.e :
  B3 lo a n p y x k d i u b m c h=br (decide (x<y)) (As x n (eO a λv=>eO (ld h v.1 (v.2+x.toNat) 0 2) λv=>eC v λv l=>eS 6 v λv o s=>eC l λl z=>eS 6 l λl w q=>eN z (Al (Af lo 209 [Bh v o s] h) λv o=>eA v λv=>eC v λv s=>eS 6 v λv z g=>eN s (Al (Af lo 201 (Bm l w q) o) λl o=>eS 6 l λl s w=>Aw 2 (o ++ [.rows 2 47 false [Jq v z g l s w]]) (.sl 2 (some (o.length,0)) 1 (some 1)) λq=>DJ lo 47 2 48 (.sl 2 b m c) q (o ++ [.rows 2 47 false [Jq v z g l s w]]) λv l=>eS 2 v λv o s=>B3 lo a n p y (Ap (x+1)) k d i u v o s l)))) (some ((Ao b m c),h)) :=
 lE
def Bg lo a n c b m p x y h:=
 LA 201 Tryz.f201 221311 0 111 lo ⟨[(3,.sl 6 a n c),(9,.sl 6 b m p),(10,Iv x),(11,Iv y)],[],h⟩
theorem Ky (hk:(Bf (decide ((0:Int)<=0/\(0:Int)<=(n:Int)/\(n:Int)<=140737488355328/\(n:Int)*((72:Nat):Int)<=281474976710656)) (Bg lo (some (h.length,0)) 0 (some n) a n c (n:Int) 0 (h ++ [.rows 6 43 false (List.replicate n [Iv 0,Iv 0,Iv 0,.sl 0 none 0 (some 0),.str ⟨⟨[]⟩⟩,.bool false])])))=some r) :
  Af lo 201 (Bm a n c) h=some r :=
 eK Tryz.func201 hk
theorem Bg.e :
  Bg lo a n c b m p y x h=br (decide (x<y)) (As x m (eO b λv=>eO (ld h v.1 (v.2+x.toNat) 0 6) λv=>eC v λv l=>eI .i64 v λv=>eC l λl o=>eI .i64 l λl=>eC o λo s=>eI .i64 o λo=>eC s λs z=>eS 2 s λs u w=>eC z λz q=>eT z λz=>eC q λq g=>eBv q λq=>eN g (Al (Af lo 154 [AA v l o s u w z q] h) λv l=>eA v λv=>eC v λv o=>eI .i64 v λv=>eC o λo s=>eI .i64 o λo=>eC s λs z=>eI .i64 s λs=>eC z λz u=>eS 2 z λz w q=>eC u λu g=>eT u λu=>eC g λg i=>eBv g λg=>eN i (Aw 6 (l ++ [.rows 6 43 false [DC v o s z w q u g]]) (.sl 6 (some (l.length,0)) 1 (some 1)) λi=>DJ lo 43 6 72 (.sl 6 a n c) i (l ++ [.rows 6 43 false [DC v o s z w q u g]]) λv l=>eS 6 v λv o s=>Bg lo v o s b m p y (Ap (x+1)) l)))) (some (.sl 6 a n c,h)) :=
 lE
theorem X0 (hk:(Al (Af h.length 63 (BQ x 0 3) h) λl c=>eB l (BI c) (Ax c))=some (v,h')) (hn:noId v=true:=by rfl) :
  Af lo 202 (AR x) h=some (v,h) :=
 eD Tryz.func202 hk hn
def Ec lo S f x y h:=
 LA 203 Tryz.f203 22131 0 11 lo ⟨[(0,.str S),(2,.bool f),(5,Iv x),(6,Iv y)],[],h⟩
theorem Vq (hk:(Ec h.length S false ((S.size:Int)) 0 h)=some (v,h')) (hn:noId v=true:=by rfl) :
  Af lo 203 [.str S] h=some (v,h) :=
 eD Tryz.func203 hk hn
theorem Ec.e :
  Ec lo S f y x h=br (decide (x<y)) (eO (QK S x) λv=>Al (Af lo 63 (BQ (Ap ((v.toNat:Int))) 33 126) h) λv l=>eB v (Ec lo S f y (Ap (x+1)) l) (Ax l)) (br (decide ((S.size:Int)<=8)) (BI h) (Ax h)) :=
 lE
theorem Oo (hk:(eO (ld h m k (i+0) 1) λv=>eC v λv l=>eN l (eS 2 v λv l o=>As x l (eO v λv=>eO (ld h v.1 (v.2+x.toNat) 0 1) λl=>eC l λl o=>eS 6 l λl s b=>eN o (Al (Af lo 210 [Bh l s b,AA y z t a n c S f] h) λl o=>eB l (eO (ld o v.1 (v.2+x.toNat) 0 1) λl=>eC l λl s=>eN s (eS 6 l λl s b=>Al (Af o.length 154 [AA y z t a n c S f] o) λb u=>eA b λb=>eC b λb w=>eI .i64 b λb=>eC w λw p=>eI .i64 w λw=>eC p λp q=>eI .i64 p λp=>eC q λq g=>eS 2 q λq j d=>eC g λg e=>eT g λg=>eC e λe A=>eBv e λe=>eN A (As y s (eO l λl=>eO (st lo u l.1 (l.2+y.toNat) 0 (DC b w p q j d g e)) λl=>eO (ld l m k i 1) λs=>eC s λs b=>eS 2 s λs u w=>eN b (Al (Af lo 135 [Ao s u w,Iv x] l) λl s=>eB l (some (.tup [],s)) (eO (ld s v.1 (v.2+x.toNat) 1 1) λl=>eC l λl b=>eN b (eS 6 l λl b u=>Al (Af s.length 154 [AA y z t a n c S f] s) λs w=>eA s λs=>eC s λs p=>eI .i64 s λs=>eC p λp q=>eI .i64 p λp=>eC q λq g=>eI .i64 q λq=>eC g λg j=>eS 2 g λg d e=>eC j λj A=>eT j λj=>eC A λA B=>eBv A λA=>eN B (Aw 6 (w ++ [.rows 6 43 false [DC s p q g d e j A]]) (.sl 6 (some (w.length,0)) 1 (some 1)) λB=>DJ lo 43 6 72 (.sl 6 l b u) B (w ++ [.rows 6 43 false [DC s p q g d e j A]]) λl s=>eS 6 l λl b u=>Al (Af lo 205 (Bm l b u) s) λl s=>eS 6 l λl b u=>eO (st lo s v.1 (v.2+x.toNat) 1 (Bm l b u)) λv=>some (.tup [],v))))))))) (some (.tup [],o))))))=some r) :
  Af lo 204 [DQ m k i,Iv x,AA y z t a n c S f] h=some r :=
 eK Tryz.func204 hk
theorem Ix (hk:(Az a n c none (some (Iv (n:Int))) (some (Iv (n:Int))) λv l o=>some (.sl 6 v l o,h))=some r) :
  Af lo 205 (Bm a n c) h=some r :=
 eK Tryz.func205 hk
theorem FH (hk:(Al (Af h.length 270 [.sl 2 a n c,.fn m l] h) λo s=>eI .i64 o λo=>br (decide (o>=0)) (BI s) (Ax s))=some (v,h')) (hn:noId v=true:=by rfl) :
  Af lo 206 [.sl 2 a n c,.fn m l] h=some (v,h) :=
 eD Tryz.func206 hk hn
theorem L6 (hk:(br (decide ((n:Int)>0)) (BI h) (Ax h))=some (v,h')) (hn:noId v=true:=by rfl) :
  Af lo 207 [IA a m c b n p] h=some (v,h) :=
 eD Tryz.func207 hk hn
def CY lo a n c f x y z h:=
 LA 208 Tryz.f208 22131 0 11 lo ⟨[(0,.sl 6 a n c),(3,.lp 3 0),(4,.bool f),(5,Iv x)],[(3,(Cq y z))],h⟩
theorem Rz (hk:(CY h.length a n c false 0 x y h)=some (v,h')) (hn:noId v=true:=by rfl) :
  Af lo 208 [.sl 6 a n c,At x y] h=some (v,h) :=
 eD Tryz.func208 hk hn
theorem CY.e :
  CY lo a n c f x y z h=br (decide (x<(n:Int))) (As x n (eO a λv=>eO (ld h v.1 (v.2+x.toNat) 1 2) λv=>eC v λv l=>eI .i64 v λv=>eC l λl o=>eI .i64 l λl=>eN o (br ((v==y)&&((l==z)&&true)) (BI h) (CY lo a n c f (Ap (x+1)) y z h)))) (Ax h) :=
 lE
theorem Nt (hk:(Al (Af lo 201 (Bm a n c) h) λv l=>eS 6 v λv o s=>some ((Bh v o s),l))=some r) :
  Af lo 209 [Bh a n c] h=some r :=
 eK Tryz.func209 hk
theorem Oj (hk:(As x n (eO a λl=>eO (ld h l.1 (l.2+x.toNat) 1 2) λl=>eC l λl o=>eI .i64 l λl=>eC o λo s=>eI .i64 o λo=>eN s (Al (Af h.length 15 [At l o,At y z] h) λl o=>eB l (BI o) (Ax o))))=some (v,h')) (hn:noId v=true:=by rfl) :
  Af lo 210 [Bh a n c,AA x y z b m p S f] h=some (v,h) :=
 eD Tryz.func210 hk hn
theorem Pu (hk:(Al (Af h.length 234 [.sl 6 a n c,.sl 6 b m p,.fn 155 []] h) λl o=>eB l (BI o) (Ax o))=some (v,h')) (hn:noId v=true:=by rfl) :
  Af lo 211 [Bh a n c,Bh b m p] h=some (v,h) :=
 eD Tryz.func211 hk hn
theorem RQ (hk:(eO (ld h n 0 0 2) λl=>eC l λl o=>eI .i64 l λl=>eC o λo s=>eI .i64 o λo=>eN s (br ((x==l)&&((y==o)&&true)) (BI h) (Ax h)))=some (v,h')) (hn:noId v=true:=by rfl) :
  Af lo 212 [AA z x y a m c S f,DQ n 0 0] h=some (v,h) :=
 eD Tryz.func212 hk hn
theorem RW (hk:(br (x==x) (Ax h) (BI h))=some (v,h')) (hn:noId v=true:=by rfl) :
  Af lo 213 (AR x) h=some (v,h) :=
 eD Tryz.func213 hk hn
def AK lo a n c m l x y z h:=
 LA 214 Tryz.f214 22131 0 11 lo ⟨[(0,.sl 2 a n c),(1,.fn m l),(4,Iv x),(7,Iv y),(8,Iv z)],[],h⟩
theorem GV (hk:(AK h.length a n c m l 0 (n:Int) 0 h)=some (v,h')) (hn:noId v=true:=by rfl) :
  Af lo 214 [.sl 2 a n c,.fn m l] h=some (v,h) :=
 eD Tryz.func214 hk hn
theorem AK.e :
  AK lo a n c m l z y x h=br (decide (x<y)) (As x n (eO a λv=>eO (ld h v.1 (v.2+x.toNat) 0 2) λv=>eC v λv o=>eI .i64 v λv=>eC o λo s=>eI .i64 o λo=>eN s (Al (Af lo m (Dl [At v o] l) h) λv o=>eB v (some (Iv x,o)) (AK lo a n c m l z y (Ap (x+1)) o)))) (some (Iv (-1),h)) :=
 lE
def Iu lo x y n a m c b k p h:=
 LA 217 Tryz.f217 2213111 0 1111 lo ⟨[(2,.lp 2 0),(3,.lp 3 0),(11,Iv x),(12,Iv y)],[(2,[.sl n a m c]),(3,(Bk b k p))],h⟩
theorem Iu.e :
  Iu lo x y m b k p a n c h=br (decide (y<x)) (Al (Af lo 272 [] h) λv l=>eA v λv=>eC v λv o=>eS 6 v λv s z=>eN o (Aw 2 (l ++ [.rows 2 47 false [[.sl 6 v s z,.sl 0 none 0 (some 0)]]]) (.sl 2 (some (l.length,0)) 1 (some 1)) λo=>DJ lo 47 2 48 (.sl 2 a n c) o (l ++ [.rows 2 47 false [[.sl 6 v s z,.sl 0 none 0 (some 0)]]]) λv l=>eS 2 v λv o s=>Iu lo x (Ap (y+1)) m b k p v o s l)) (some ((Ao a n c),h)) :=
 lE
theorem Og (hk:(Al (Af lo 273 [DQ i j g,Iv 1] h) λv l=>eB v (eO (ld l i j (g+0) 1) λv=>eC v λv c=>eN c (eS 6 v λv c a=>eO (ld l n m (k+0) 1) λa=>eC a λa o=>eN o (eI .i64 a λa=>As a c (eO v λv=>eO (ld l n m (k+1) 1) λc=>eC c λc o=>eS 2 c λc s b=>eN o (Bf (HG (ld l i j (g+0) 1) (ld l i j (g+0) 1)) (Bf (HG (ld l n m (k+0) 1) (ld l n m (k+0) 1)) (Al (Af lo 153 [Ao c s b] l) λc o=>eA c λc=>eC c λc s=>eS 2 c λc b u=>eN s (Bf (HG (ld l i j (g+0) 1) (ld o i j (g+0) 1)) (Bf (HG (ld l n m (k+0) 1) (ld o n m (k+0) 1)) (Al (Af lo 52 [.ptr (some (v.1,((v.2+a.toNat),0))),AA x 0 0 c b u S f] o) λv c=>eA v λv=>eC v λv a=>eI .i64 v λv=>eC a λa o=>eI .i64 a λa=>eN o (br ((v==0)&&((a==0)&&true)) (Ax c) (eO (st lo c n m (k+2) (Cq v a)) λc=>eO (st lo c n m (k+4) (AR x)) λc=>Al (Af lo 274 [DQ i j g,Iv y,Iv 1,Iv x,At v a] c) λv c=>eU v λv=>eN v (BI c))))))))))))) (Ax l))=some r) :
  Af lo 218 [DQ i j g,DQ n m k,Bi z y t x S f] h=some r :=
 eK Tryz.func218 hk
theorem Qy (hk:(eO (ld h i j (g+0) 1) λv=>eC v λv l=>eN l (eS 6 v λv l c=>eO (ld h n m (k+0) 1) λc=>eC c λc a=>eN a (eI .i64 c λc=>As c l (eO v λv=>eO (ld h n m (k+4) 1) λl=>eC l λl a=>eN a (eI .i64 l λl=>Al (Af lo 275 [.ptr (some (v.1,((v.2+c.toNat),2))),Iv 0,Iv l] h) λl a=>eU l λl=>eC l λl o=>eA l λl=>eC l λl s=>eI .i64 l λl=>eC s λl s=>eI .i64 l λl=>eC s λs b=>eI .i64 s λs=>eC b λb u=>eS 2 b λb b b=>eC u λb u=>eT b λb=>eC u λb u=>eBv b λb=>eN u (eC o λo b=>eB o (eN b (eO (ld a n m (k+2) 2) λo=>eC o λo u=>eI .i64 o λo=>eC u λu w=>eI .i64 u λu=>eN w (Al (Af lo 15 [At l s,At o u] a) λo u=>eB o (eO (ld u v.1 (v.2+c.toNat) 2 1) λo=>eC o λo w=>eN w (eS 2 o λo w p=>As 0 w (eO o λo=>eO (ld u o.1 (o.2+0) 0 1) λo=>eC o λo w=>eN w (eS 6 o λo w p=>eO (ld u n m (k+4) 1) λp=>eC p λp q=>eN q (eI .i64 p λp=>As p w (eO o λo=>eO (ld u o.1 (o.2+p.toNat) 1 2) λo=>eC o λo w=>eI .i64 o λo=>eC w λw p=>eI .i64 w λw=>eN p (eO (ld u n m (k+2) 2) λp=>eC p λp q=>eI .i64 p λp=>eC q λq d=>eI .i64 q λq=>eN d (Al (Af lo 15 [At o w,At p q] u) λo w=>eB o (eO (st lo w n m (k+2) (Cq 0 0)) λo=>eO (st lo o n m (k+4) (AR 0)) λo=>some (.bool true,o)) (Ax w))))))))) (Al (Af lo 273 [DQ i j g,Iv 1] u) λo u=>eB o (eO (ld u n m (k+1) 1) λo=>eC o λo w=>eS 2 o λo p q=>eN w (eO (ld u n m (k+4) 1) λw=>eC w λw d=>eN d (eI .i64 w λw=>eO (ld u n m (k+2) 2) λd=>eC d λd e=>eI .i64 d λd=>eC e λe A=>eI .i64 e λe=>eN A (Al (Af lo 276 [Ao o p q,Iv w,At d e] u) λo w=>eA o λo=>eC o λo p=>eS 2 o λo q d=>eN p (eO (st lo w n m (k+1) (Bk o q d)) λo=>eO (ld o n m (k+4) 1) λw=>eC w λw p=>eN p (eI .i64 w λw=>eO (ld o n m (k+2) 2) λp=>eC p λp q=>eI .i64 p λp=>eC q λq d=>eI .i64 q λq=>eN d (Al (Af lo 274 [DQ i j g,Iv x,Iv 3,Iv w,At p q] o) λo w=>eU o λo=>eN o (eO (st lo w n m (k+2) (Cq 0 0)) λo=>eO (st lo o n m (k+4) (AR 0)) λo=>some (.bool true,o))))))))) (Ax u))))) (eN b (eO (ld a n m (k+2) 2) λo=>eC o λo b=>eI .i64 o λo=>eC b λb u=>eI .i64 b λb=>eN u (Al (Af lo 15 [At l s,At o b] a) λl a=>eB l (eO (ld a v.1 (v.2+c.toNat) 2 1) λv=>eC v λv l=>eN l (eS 2 v λv l c=>As 0 l (eO v λv=>eO (ld a v.1 (v.2+0) 0 1) λv=>eC v λv l=>eN l (eS 6 v λv l c=>eO (ld a n m (k+4) 1) λc=>eC c λc o=>eN o (eI .i64 c λc=>As c l (eO v λv=>eO (ld a v.1 (v.2+c.toNat) 1 2) λv=>eC v λv l=>eI .i64 v λv=>eC l λl c=>eI .i64 l λl=>eN c (eO (ld a n m (k+2) 2) λc=>eC c λc o=>eI .i64 c λc=>eC o λo s=>eI .i64 o λo=>eN s (Al (Af lo 15 [At v l,At c o] a) λv l=>eB v (eO (st lo l n m (k+2) (Cq 0 0)) λv=>eO (st lo v n m (k+4) (AR 0)) λv=>some (.bool true,v)) (Ax l))))))))) (Al (Af lo 273 [DQ i j g,Iv 1] a) λv l=>eB v (eO (ld l n m (k+1) 1) λv=>eC v λv c=>eS 2 v λv a o=>eN c (eO (ld l n m (k+4) 1) λc=>eC c λc s=>eN s (eI .i64 c λc=>eO (ld l n m (k+2) 2) λs=>eC s λs b=>eI .i64 s λs=>eC b λb u=>eI .i64 b λb=>eN u (Al (Af lo 276 [Ao v a o,Iv c,At s b] l) λv c=>eA v λv=>eC v λv a=>eS 2 v λv o s=>eN a (eO (st lo c n m (k+1) (Bk v o s)) λv=>eO (ld v n m (k+4) 1) λc=>eC c λc a=>eN a (eI .i64 c λc=>eO (ld v n m (k+2) 2) λa=>eC a λa o=>eI .i64 a λa=>eC o λo s=>eI .i64 o λo=>eN s (Al (Af lo 274 [DQ i j g,Iv x,Iv 3,Iv c,At a o] v) λv c=>eU v λv=>eN v (eO (st lo c n m (k+2) (Cq 0 0)) λv=>eO (st lo v n m (k+4) (AR 0)) λv=>some (.bool true,v))))))))) (Ax l)))))))))))=some r) :
  Af lo 219 [DQ i j g,DQ n m k,Bi y x z t S f] h=some r :=
 eK Tryz.func219 hk
theorem Pp (hk:(eO (ld h i j (g+0) 1) λv=>eC v λv l=>eN l (eS 6 v λv l c=>eO (ld h n m (k+0) 1) λc=>eC c λc a=>eN a (eI .i64 c λc=>As c l (eO v λv=>Al (Af h.length 275 [.ptr (some (v.1,((v.2+c.toNat),2))),Iv z,Iv x] h) λv l=>eU v λv=>eC v λv c=>eA v λv=>eC v λv a=>eI .i64 v λv=>eC a λv a=>eI .i64 v λv=>eC a λa o=>eI .i64 a λa=>eC o λo s=>eS 2 o λo b u=>eC s λs w=>eT s λs=>eC w λs w=>eBv s λs=>eN w (eC c λc s=>eB c (eN s (Al (Af lo 273 [DQ i j g,Iv 1] l) λc w=>eB c (eO (ld w n m ((k+1)+0) 1) λc=>eC c λc p=>eN p (eS 2 c λc p q=>As x p (eO c λc=>eO (ld w c.1 (c.2+x.toNat) 0 2) λc=>eC c λc p=>eI .i64 c λc=>eC p λp q=>eI .i64 p λp=>eN q (Al (Af lo 15 [At v a,At c p] w) λc p=>eB c (Ax p) (eO (ld p n m (k+1) 1) λc=>eC c λc q=>eS 2 c λc d e=>eN q (Al (Af lo 277 [Ao c d e,Ao o b u] p) λc o=>eA c λc=>eC c λc b=>eS 2 c λc u p=>eN b (Al (Af lo 276 [Ao c u p,Iv x,At v a] o) λc o=>eA c λc=>eC c λc b=>eS 2 c λc u p=>eN b (eO (st lo o n m (k+1) (Bk c u p)) λc=>Al (Af lo 274 [DQ i j g,Iv y,Iv 2,Iv x,At v a] c) λv c=>eU v λv=>eN v (BI c))))))))) (Ax w))) (eN s (Ax l)))))))=some r) :
  Af lo 220 [DQ i j g,DQ n m k,Bi t y z x S f] h=some r :=
 eK Tryz.func220 hk
def CI lo n m k a i c x y z t w q S f h:=
 LA 221 Tryz.f221 22131111 0 11111 lo ⟨[(0,(DQ n m k)),(5,.lp 5 0),(39,.sl 2 a i c),(40,Iv x),(41,Iv y)],[(5,(Tt z t w q S f))],h⟩
theorem Qz (hk:(eO (ld h n m (k+0) 1) λv=>eC v λv l=>eN l (eS 6 v λv l c=>eO (ld h i j (g+0) 1) λc=>eC c λc a=>eN a (eI .i64 c λc=>As c l (eO v λv=>Al (Af h.length 66 [.ptr (some (v.1,((v.2+c.toNat),2)))] h) λv l=>eA v λv=>eC v λv c=>eS 6 v λv a o=>eN c (Al (Af l.length 67 [Bh v a o] l) λv l=>eA v λv=>eC v λv c=>eS 2 v λv a o=>eN c (Al (Af lo 273 [DQ n m k,Iv 4] l) λl c=>eB l (eO (ld c i j (g+1) 1) λl=>eC l λl s=>eS 2 l λl b u=>eN s (Al (Af lo 69 [Ao l b u,Ao v a o] c) λl s=>eB l (eO (st lo s i j (g+1) (Bk v a o)) λl=>CI lo n m k v a o (a:Int) 0 x y z t S f l) (Ax s))) (Ax c)))))))=some r) :
  Af lo 221 [DQ n m k,DQ i j g,Bi x y z t S f] h=some r :=
 eK Tryz.func221 hk
theorem CI.e :
  CI lo n m k a i c y x t z w q S f h=br (decide (x<y)) (As x i (eO a λv=>eO (ld h v.1 (v.2+x.toNat) 0 2) λv=>eC v λv l=>eI .i64 v λv=>eC l λl o=>eI .i64 l λl=>eN o (Al (Af lo 274 [DQ n m k,Iv z,Iv 2,Iv x,At v l] h) λv l=>eU v λv=>eN v (CI lo n m k a i c y (Ap (x+1)) t z w q S f l)))) (BI h) :=
 lE
theorem KA (hk:(Al (Af lo 278 [DQ n m (k+2),Iv x] h) λv l=>eB v (Al (Af lo 120 [DQ n m k] l) λv c=>eU v λv=>eN v (BI c)) (Ax l))=some r) :
  Af lo 222 [DQ n m k,Iv x] h=some r :=
 eK Tryz.func222 hk
theorem Py (hk:(eO (ld h n m (k+5) 1) λv=>eC v λv l=>eN l (eB v (Ax h) (Al (Af lo 279 [DQ n m (k+2),Iv x] h) λv l=>eB v (eO (st lo l n m (k+5) [.bool true]) λv=>Al (Af lo 120 [DQ n m k] v) λv c=>eU v λv=>eN v (BI c)) (Ax l))))=some r) :
  Af lo 223 [DQ n m k,Iv x] h=some r :=
 eK Tryz.func223 hk
theorem KB (hk:(eO (ld h n m (k+0) 1) λv=>eC v λv l=>eN l (eS 2 v λv v l=>br (decide ((v:Int)>=4)) (Ax h) (eO (ld h n m (k+0) 1) λv=>eC v λv l=>eN l (eS 2 v λv l c=>Al (Af h.length 66 [DQ n m k] h) λa o=>eA a λa=>eC a λa s=>eS 6 a λa b x=>eN s (Al (Af o.length 209 [Bh a b x] o) λa o=>eA a λa=>eC a λa s=>eS 6 a λa b x=>eN s (Aw 2 (o ++ [.rows 2 47 false [[.sl 6 a b x,.sl 0 none 0 (some 0)]]]) (.sl 2 (some (o.length,0)) 1 (some 1)) λs=>DJ lo 47 2 48 (.sl 2 v l c) s (o ++ [.rows 2 47 false [[.sl 6 a b x,.sl 0 none 0 (some 0)]]]) λv l=>eS 2 v λv c a=>Al (Af lo 280 (Bk v c a) l) λv l=>eS 2 v λv c a=>eO (st lo l n m (k+0) (Bk v c a)) λv=>some (.bool true,v)))))))=some r) :
  Af lo 224 [DQ n m k] h=some r :=
 eK Tryz.func224 hk
theorem Pw (hk:(Al (Af lo 62 (AR x) h) λv l=>eB v (eO (ld l n m (k+4) 1) λv=>eC v λv c=>eN c (eS 1 v λv c a=>As x c (eO v λv=>eO (ld l v.1 (v.2+x.toNat) 0 1) λv=>eC v λv c=>eN c (eS 6 v λv c a=>eO (ld l n m ((k+2)+0) 1) λo=>eC o λo s=>eN s (eS 2 o λo s b=>As 0 s (eO o λo=>eO (ld l o.1 (o.2+0) 0 1) λo=>eC o λo s=>eS 6 o λo b y=>eN s (Al (Af lo 156 [.sl 6 v c a,.fn 210 [.tup [Bh o b y]]] l) λv c=>eI .i64 v λv=>br (decide (v<0)) (Ax c) (eO (ld c n m (k+4) 1) λa=>eC a λa o=>eN o (eS 1 a λa o s=>As x o (eO a λa=>eO (ld c a.1 (a.2+x.toNat) 0 1) λa=>eC a λa o=>eN o (eS 6 a λa o s=>As v o (eO a λa=>eO (ld c a.1 (a.2+v.toNat) 0 6) λv=>eC v λv a=>eI .i64 v λv=>eC a λa o=>eI .i64 a λa=>eC o λo s=>eI .i64 o λo=>eC s λs b=>eS 2 s λs y z=>eC b λb u=>eT b λb=>eC u λu w=>eBv u λu=>eN w (Al (Af lo 66 [DQ n m (k+2)] c) λc w=>eA c λc=>eC c λc p=>eS 6 c λc q g=>eN p (Al (Af lo 67 [Bh c q g] w) λc w=>eA c λc=>eC c λc p=>eS 2 c λc q g=>eN p (Al (Af lo 69 [Ao s y z,Ao c q g] w) λc w=>eB c (Al (Af lo 119 [DQ n m (k+2),AA v a o s y z b u] w) λv c=>eB v (eO (ld c n m (k+1) 1) λv=>eC v λv o=>eN o (eI .i64 v λv=>eO (st lo c n m (k+1) (AR (if a>v then a else v))) λv=>Al (Af lo 120 [DQ n m k] v) λv a=>eU v λv=>eN v (BI a))) (Ax c)) (Ax w)))))))))))))))) (Ax l))=some r) :
  Af lo 225 [DQ n m k,Iv x] h=some r :=
 eK Tryz.func225 hk
theorem X2 (hk:(Al (Af h.length 62 (AR x) h) λl c=>eB l (Al (Af h.length 62 (AR y) c) λl n=>eB l (br (x==y) (Ax n) (BI n)) (Ax n)) (Ax c))=some (v,h')) (hn:noId v=true:=by rfl) :
  Af lo 226 (Cq x y) h=some (v,h) :=
 eD Tryz.func226 hk hn
theorem GI (hk:(Az a (FP h a n c) c (some (Iv x)) (some (Iv y)) (some (Iv (n:Int))) λv v v=>br (x==y) (some (.sl 9 a n c,h)) (Az a n c none (some (Iv x)) none λv l o=>Az a n c (some (Iv y)) none none λs b z=>Aw 9 h (.sl 9 s b z) λs=>DJ lo 123 9 96 (.sl 9 v l o) s h λv l=>eS 9 v λv o s=>Az v (FP l v o s) s (some (Iv (o:Int))) (some (Iv (n:Int))) none λb z u=>zck lo 9 9 true [Iv 0,Iv 0,Iv 0,Iv 0,Iv 0,Iv 0,.sl 0 none 0 (some 0),.str ⟨⟨[]⟩⟩,.bool false] l b z λl=>some (.sl 9 v o s,l)))=some r) :
  Af lo 227 [.sl 9 a n c,Iv x,Iv y] h=some r :=
 eK Tryz.func227 hk
theorem Px (hk:(Al (Af lo 62 (AR x) h) λv l=>eB v (eO (ld l n m (k+0) 1) λv=>eC v λv o=>eN o (eI .i64 v λv=>br (x==v) (Ax l) (Al (Af lo 134 [AA t z y a i c S f] l) λv o=>eB v (br (y==x) (eO (ld o n m (k+4) 1) λv=>eC v λv s=>eN s (eS 1 v λv s b=>As x s (eO v λv=>eO (ld o v.1 (v.2+x.toNat) 0 1) λv=>eC v λv s=>eN s (eS 6 v λv s b=>br (w==(s:Int)) (br (decide ((s:Int)>=60)) (Ax o) (Al (Af lo 137 [.sl 6 v s b,At z y] o) λu p=>eB u (Ax p) (eO (ld p n m (k+4) 1) λu=>eC u λu q=>eN q (eS 1 u λu q g=>Al (Af lo 154 [AA t z y a i c S f] p) λg j=>eA g λg=>eC g λg d=>eI .i64 g λg=>eC d λd e=>eI .i64 d λd=>eC e λe A=>eI .i64 e λe=>eC A λA B=>eS 2 A λA C D=>eC B λB E=>eT B λB=>eC E λE G=>eBv E λE=>eN G (Bf (HG (ld p n m (k+4) 1) (ld j n m (k+4) 1)) (Bf (HG (ld j n m (k+4) 1) (ld (j ++ [.rows 6 43 false [DC g d e A C D B E]]) n m (k+4) 1)) (Aw 6 (j ++ [.rows 6 43 false [DC g d e A C D B E]]) (.sl 6 (some (j.length,0)) 1 (some 1)) λp=>DJ lo 43 6 72 (.sl 6 v s b) p (j ++ [.rows 6 43 false [DC g d e A C D B E]]) λv s=>eS 6 v λv b p=>Bf (HG (ld (j ++ [.rows 6 43 false [DC g d e A C D B E]]) n m (k+4) 1) (ld s n m (k+4) 1)) (Al (Af lo 205 (Bm v b p) s) λv b=>eS 6 v λv p g=>Bf (HG (ld s n m (k+4) 1) (ld b n m (k+4) 1)) (As x q (eO u λs=>eO (st lo b s.1 (s.2+x.toNat) 0 (Bm v p g)) λv=>some (.bool true,v))))))))))) (Ax o))))) (Ax o)) (Ax o)))) (Ax l))=some r) :
  Af lo 228 [DQ n m k,Iv x,Iv w,AA t z y a i c S f] h=some r :=
 eK Tryz.func228 hk
theorem Iy (hk:(Az a n c none (some (Iv (n:Int))) (some (Iv (n:Int))) λv l o=>some (.sl 2 v l o,h))=some r) :
  Af lo 229 (Bk a n c) h=some r :=
 eK Tryz.func229 hk
theorem EV (hk:(br (a.isNone) (some (.sl 0 none 0 (some 0),h)) (Aw 2 (h ++ [.rows 2 36 false []]) (.sl 2 a n c) λv=>DJ lo 36 2 16 (.sl 2 (some (h.length,0)) 0 (some 0)) v (h ++ [.rows 2 36 false []]) λv l=>eS 2 v λv o s=>some (.sl 2 v o s,l)))=some r) :
  Af lo 230 (Bk a n c) h=some r :=
 eK Tryz.func230 hk
def AT lo a n c b m p f x y h:=
 LA 231 Tryz.f231 221311 0 111 lo ⟨[(0,.sl 2 a n c),(1,.sl 2 b m p),(4,.bool f),(12,Iv x),(13,Iv y)],[],h⟩
theorem Iw (hk:(br ((n:Int)==(m:Int)) (AT h.length a n c b m p false (n:Int) 0 h) (Ax h))=some (v,h')) (hn:noId v=true:=by rfl) :
  Af lo 231 [.sl 2 a n c,.sl 2 b m p] h=some (v,h) :=
 eD Tryz.func231 hk hn
theorem AT.e :
  AT lo a n c b m p f y x h=br (decide (x<y)) (As x n (eO a λv=>eO (ld h v.1 (v.2+x.toNat) 0 2) λv=>eC v λv l=>eI .i64 v λv=>eC l λl o=>eI .i64 l λl=>eN o (As x m (eO b λo=>eO (ld h o.1 (o.2+x.toNat) 0 2) λo=>eC o λo s=>eI .i64 o λo=>eC s λs z=>eI .i64 s λs=>eN z (br ((v==o)&&((l==s)&&true)) (AT lo a n c b m p f y (Ap (x+1)) h) (Ax h)))))) (BI h) :=
 lE
def A8 lo a n c m b k p f x y h:=
 LA 231 Tryz.f231 221311 0 111 lo ⟨[(0,.sl 2 a n c),(1,.sl m b k p),(4,.bool f),(12,Iv x),(13,Iv y)],[],h⟩
theorem Hz (hk:(br ((n:Int)==((0:Nat):Int)) (A8 h.length a n c 0 none 0 (some 0) false (n:Int) 0 h) (Ax h))=some (v,h')) (hn:noId v=true:=by rfl) :
  Af lo 231 [.sl 2 a n c,.sl 0 none 0 (some 0)] h=some (v,h) :=
 eD Tryz.func231 hk hn
theorem A8.e :
  A8 lo a n c m b k p f y x h=br (decide (x<y)) (As x n (eO a λv=>eO (ld h v.1 (v.2+x.toNat) 0 2) λv=>eC v λv l=>eI .i64 v λv=>eC l λl o=>eI .i64 l λl=>eN o (As x k (eO b λo=>Bf ((m.beq (2:Nat))&&true) (eO (ld h o.1 (o.2+x.toNat) 0 2) λo=>eC o λo s=>eI .i64 o λo=>eC s λs z=>eI .i64 s λs=>eN z (br ((v==o)&&((l==s)&&true)) (A8 lo a n c m b k p f y (Ap (x+1)) h) (Ax h))))))) (BI h) :=
 lE
theorem FI (hk:(Al (Af h.length 281 [.sl 5 a n c,.fn m l] h) λo s=>eI .i64 o λo=>br (decide (o>=0)) (BI s) (Ax s))=some (v,h')) (hn:noId v=true:=by rfl) :
  Af lo 232 [.sl 5 a n c,.fn m l] h=some (v,h) :=
 eD Tryz.func232 hk hn
theorem RR (hk:(Al (Af h.length 63 (BQ t 0 3) h) λl c=>eB l (Al (Af h.length 63 (BQ x 1 3) c) λl n=>eB l (Al (Af h.length 202 (AR w) n) λl a=>eB l (Al (Af h.length 144 [At y z] a) λl o=>eB l (br ((y==0)&&((z==0)&&true)) (br (x==2) (Ax o) (BI o)) (Ax o)) (BI o)) (BI a)) (BI n)) (BI c))=some (v,h')) (hn:noId v=true:=by rfl) :
  Af lo 233 [Mx t x w y z] h=some (v,h) :=
 eD Tryz.func233 hk hn
def Av lo a n c m l f b k p x y h:=
 LA 234 Tryz.f234 221311 0 111 lo ⟨[(1,.sl 6 a n c),(2,.fn m l),(6,.bool f),(15,.sl 6 b k p),(16,Iv x),(17,Iv y)],[],h⟩
theorem Ed (hk:(br ((n:Int)==(m:Int)) (Av h.length b m p k l false a n c (n:Int) 0 h) (Ax h))=some (v,h')) (hn:noId v=true:=by rfl) :
  Af lo 234 [.sl 6 a n c,.sl 6 b m p,.fn k l] h=some (v,h) :=
 eD Tryz.func234 hk hn
theorem Av.e {lo n m k:Nat}{a b:Pq}{c p:Nq}{l:List V}{f:Bool}{y x:Int}{h:Heap} :
  Av lo a n c m l f b k p y x h=br (decide (x<y)) (As x k (eO b λv=>eO (ld h v.1 (v.2+x.toNat) 0 6) λv=>eC v λv o=>eI .i64 v λv=>eC o λo s=>eI .i64 o λo=>eC s λs z=>eI .i64 s λs=>eC z λz u=>eS 2 z λz w q=>eC u λu g=>eT u λu=>eC g λg i=>eBv g λg=>eN i (As x n (eO a λi=>eO (ld h i.1 (i.2+x.toNat) 0 6) λi=>eC i λi j=>eI .i64 i λi=>eC j λj t=>eI .i64 j λj=>eC t λt d=>eI .i64 t λt=>eC d λd e=>eS 2 d λd A B=>eC e λe C=>eT e λe=>eC C λC D=>eBv C λC=>eN D (Al (Af lo m (Dl [AA v o s z w q u g,AA i j t d A B e C] l) h) λv o=>eB v (Av lo a n c m l f b k p y (Ap (x+1)) o) (Ax o)))))) (BI h) :=
 lE
def AF lo a n c m l x y z h:=
 LA 235 Tryz.f235 22131 0 11 lo ⟨[(0,.sl 5 a n c),(1,.fn m l),(4,Iv x),(7,Iv y),(8,Iv z)],[],h⟩
theorem Gz (hk:(AF h.length a n c m l 0 (n:Int) 0 h)=some (v,h')) (hn:noId v=true:=by rfl) :
  Af lo 235 [.sl 5 a n c,.fn m l] h=some (v,h) :=
 eD Tryz.func235 hk hn
theorem AF.e :
  AF lo a n c m l z y x h=br (decide (x<y)) (As x n (eO a λv=>eO (ld h v.1 (v.2+x.toNat) 0 5) λv=>eC v λv o=>eI .i64 v λv=>eC o λo s=>eS 2 o λo b u=>eC s λs w=>eI .i64 s λs=>eC w λw p=>eI .i64 w λw=>eC p λp q=>eI .i64 p λp=>eN q (Al (Af lo m (Dl [JV v o b u s w p] l) h) λv o=>eB v (some (Iv x,o)) (AF lo a n c m l z y (Ap (x+1)) o)))) (some (Iv (-1),h)) :=
 lE
def AD lo a n c m l x y z h:=
 LA 236 Tryz.f236 22131 0 11 lo ⟨[(0,.sl 9 a n c),(1,.fn m l),(4,Iv x),(7,Iv y),(8,Iv z)],[],h⟩
theorem FU (hk:(AD h.length a n c m l 0 (n:Int) 0 h)=some (v,h')) (hn:noId v=true:=by rfl) :
  Af lo 236 [.sl 9 a n c,.fn m l] h=some (v,h) :=
 eD Tryz.func236 hk hn
theorem AD.e :
  AD lo a n c m l z y x h=br (decide (x<y)) (As x n (eO a λv=>eO (ld h v.1 (v.2+x.toNat) 0 9) λv=>eC v λv o=>eI .i64 v λv=>eC o λo s=>eI .i64 o λo=>eC s λs b=>eI .i64 s λs=>eC b λb u=>eI .i64 b λb=>eC u λu w=>eI .i64 u λu=>eC w λw p=>eI .i64 w λw=>eC p λp q=>eS 2 p λp g i=>eC q λq j=>eT q λq=>eC j λj k=>eBv j λj=>eN k (Al (Af lo m (Dl [JW v o s b u w p g i q j] l) h) λv o=>eB v (some (Iv x,o)) (AD lo a n c m l z y (Ap (x+1)) o)))) (some (Iv (-1),h)) :=
 lE
theorem Uf (hk:(Al (Af h.length 282 [.sl 2 a n c,.sl 2 b m p] h) λl o=>eB l (BI o) (Ax o))=some (v,h')) (hn:noId v=true:=by rfl) :
  Af lo 237 [Ao a n c,Ao b m p] h=some (v,h) :=
 eD Tryz.func237 hk hn
def Ea lo a n c b m p f x h:=
 LA 238 Tryz.f238 221311 0 111 lo ⟨[(0,.sl 6 a n c),(1,.sl 6 b m p),(4,.bool f),(5,Iv x)],[],h⟩
theorem Vj (hk:(br ((n:Int)==(m:Int)) (Ea h.length a n c b m p false 0 h) (Ax h))=some (v,h')) (hn:noId v=true:=by rfl) :
  Af lo 238 (Jq a n c b m p) h=some (v,h) :=
 eD Tryz.func238 hk hn
theorem Ea.e {lo n m:Nat}{a b:Pq}{c p:Nq}{f:Bool}{x:Int}{h:Heap} :
  Ea lo a n c b m p f x h=br (decide (x<(n:Int))) (As x n (eO a λv=>eO (ld h v.1 (v.2+x.toNat) 0 6) λv=>eC v λv l=>eI .i64 v λv=>eC l λl o=>eI .i64 l λl=>eC o λo s=>eI .i64 o λo=>eC s λs y=>eS 2 s λs z u=>eC y λy w=>eT y λy=>eC w λw q=>eBv w λw=>eN q (As x m (eO b λq=>eO (ld h q.1 (q.2+x.toNat) 0 6) λq=>eC q λq g=>eI .i64 q λq=>eC g λg i=>eI .i64 g λg=>eC i λi j=>eI .i64 i λi=>eC j λj k=>eS 2 j λj t d=>eC k λk e=>eT k λk=>eC e λe A=>eBv e λe=>eN A (Al (Af lo 242 [AA v l o s z u y w,AA q g i j t d k e] h) λv l=>eB v (Ea lo a n c b m p f (Ap (x+1)) l) (Ax l)))))) (BI h) :=
 lE
def Dw lo a n c b m p f x h:=
 LA 239 Tryz.f239 221311 0 111 lo ⟨[(0,.sl 1 a n c),(1,.sl 1 b m p),(4,.bool f),(5,Iv x)],[],h⟩
theorem T8 (hk:(br ((n:Int)==(m:Int)) (Dw h.length a n c b m p false 0 h) (Ax h))=some (v,h')) (hn:noId v=true:=by rfl) :
  Af lo 239 [.sl 1 a n c,.sl 1 b m p] h=some (v,h) :=
 eD Tryz.func239 hk hn
theorem Dw.e :
  Dw lo a n c b m p f x h=br (decide (x<(n:Int))) (As x n (eO a λv=>eO (ld h v.1 (v.2+x.toNat) 0 1) λv=>eC v λv l=>eN l (eS 6 v λv l o=>As x m (eO b λs=>eO (ld h s.1 (s.2+x.toNat) 0 1) λs=>eC s λs y=>eN y (eS 6 s λs y z=>Al (Af lo 238 (Jq v l o s y z) h) λv l=>eB v (Dw lo a n c b m p f (Ap (x+1)) l) (Ax l)))))) (BI h) :=
 lE
theorem Vm (hk:(Al (Af h.length 283 [.sl 2 a n c,.sl 2 b m p] h) λl o=>eB l (BI o) (Ax o))=some (v,h')) (hn:noId v=true:=by rfl) :
  Af lo 240 [Ao a n c,Ao b m p] h=some (v,h) :=
 eD Tryz.func240 hk hn
theorem XY (hk:(br (x==z) (br (y==t) (BI h) (Ax h)) (Ax h))=some (v,h')) (hn:noId v=true:=by rfl) :
  Af lo 241 [At x y,At z t] h=some (v,h) :=
 eD Tryz.func241 hk hn
theorem XX (hk:(br (x==t) (Al (Af h.length 241 [At y z,At w q] h) λl o=>eB l (Al (Af h.length 240 [Ao a n c,Ao b m p] o) λl s=>eB l (br (S.toList==s0.toList) (br (f==F) (BI s) (Ax s)) (Ax s)) (Ax s)) (Ax o)) (Ax h))=some (v,h')) (hn:noId v=true:=by rfl) :
  Af lo 242 [AA x y z a n c S f,AA t w q b m p s0 F] h=some (v,h) :=
 eD Tryz.func242 hk hn
theorem T6 (hk:(Al (Af h.length 284 [.sl 2 a n c,Iv x] h) λl o=>eI .i64 l λl=>br (decide (l<0)) (some (Iv (-1),o)) (some (Iv l,o)))=some (v,h')) (hn:noId v=true:=by rfl) :
  Af lo 243 [Ao a n c,Iv x] h=some (v,h) :=
 eD Tryz.func243 hk hn
def D9 lo a n c x y z h:=
 LA 244 Tryz.f244 2213111 0 1111 lo ⟨[(0,.sl 6 a n c),(1,Iv x),(4,Iv y),(5,Iv z)],[],h⟩
theorem Vd (hk:(br (decide (Ap (x - (n:Int))<0)) (some (Iv (-1),h)) (D9 h.length a n c (Ap (x - (n:Int))) 0 0 h))=some (v,h')) (hn:noId v=true:=by rfl) :
  Af lo 244 [.sl 6 a n c,Iv x] h=some (v,h) :=
 eD Tryz.func244 hk hn
theorem D9.e :
  D9 lo a n c y z x h=br (decide (x<(n:Int))) (As x n (eO a λv=>eO (ld h v.1 (v.2+x.toNat) 0 6) λv=>eC v λv l=>eI .i64 v λv=>eC l λl o=>eI .i64 l λl=>eC o λo s=>eI .i64 o λo=>eC s λs b=>eS 2 s λs u w=>eC b λb p=>eT b λb=>eC p λp q=>eBv p λp=>eN q (Al (Af lo 247 [AA v l o s u w b p,Iv y] h) λv l=>eI .i64 v λv=>br (decide (v<0)) (some (Iv (-1),l)) (D9 lo a n c v z (Ap (x+1)) l)))) (some (Iv y,h)) :=
 lE
def Dt lo a n c x y z h:=
 LA 245 Tryz.f245 2213111 0 1111 lo ⟨[(0,.sl 1 a n c),(1,Iv x),(4,Iv y),(5,Iv z)],[],h⟩
theorem TX (hk:(br (decide (Ap (x - (n:Int))<0)) (some (Iv (-1),h)) (Dt h.length a n c (Ap (x - (n:Int))) 0 0 h))=some (v,h')) (hn:noId v=true:=by rfl) :
  Af lo 245 [.sl 1 a n c,Iv x] h=some (v,h) :=
 eD Tryz.func245 hk hn
theorem Dt.e :
  Dt lo a n c y z x h=br (decide (x<(n:Int))) (As x n (eO a λv=>eO (ld h v.1 (v.2+x.toNat) 0 1) λv=>eC v λv l=>eN l (eS 6 v λv l o=>Al (Af lo 244 [.sl 6 v l o,Iv y] h) λv l=>eI .i64 v λv=>br (decide (v<0)) (some (Iv (-1),l)) (Dt lo a n c v z (Ap (x+1)) l)))) (some (Iv y,h)) :=
 lE
theorem Vg (hk:(Al (Af h.length 285 [.sl 2 a n c,Iv x] h) λl o=>eI .i64 l λl=>br (decide (l<0)) (some (Iv (-1),o)) (some (Iv l,o)))=some (v,h')) (hn:noId v=true:=by rfl) :
  Af lo 246 [Ao a n c,Iv x] h=some (v,h) :=
 eD Tryz.func246 hk hn
theorem XW (hk:(Al (Af h.length 246 [Ao a n c,Iv x] h) λl o=>eI .i64 l λl=>br (decide (l<0)) (some (Iv (-1),o)) (br (decide (Ap (l - (S.size:Int))<0)) (some (Iv (-1),o)) (some (Iv (Ap (l - ((S.size:Int)))),o))))=some (v,h')) (hn:noId v=true:=by rfl) :
  Af lo 247 [AA y z t a n c S f,Iv x] h=some (v,h) :=
 eD Tryz.func247 hk hn
theorem U1 (hk:(Al (Af h.length 286 [AA x y z a n c S f] h) λl o=>eT l λl=>Al (Af h.length 286 [AA t w q b m p s0 F] o) λo s=>eT o λo=>br (l.toList==o.toList) (BI s) (Ax s))=some (v,h')) (hn:noId v=true:=by rfl) :
  Af lo 248 [AA x y z a n c S f,AA t w q b m p s0 F] h=some (v,h) :=
 eD Tryz.func248 hk hn
theorem TA {e:Pq} (hk:(As x n (eO a λv=>eO (ld h v.1 (v.2+x.toNat) 0 5) λv=>eC v λv l=>eI .i64 v λv=>eC l λl o=>eS 2 l λl w q=>eC o λo g=>eI .i64 o λo=>eC g λg j=>eI .i64 g λg=>eC j λg j=>eI .i64 g λg=>eN j (As v m (eO b λg=>eO (ld h g.1 (g.2+v.toNat) 0 6) λg=>eC g λg j=>eI .i64 g λg=>eC j λj A=>eI .i64 j λj=>eC A λA B=>eS 2 A λA C D=>eC B λB E=>eS 6 B λB G H=>eC E λE J=>eS 1 E λE K L=>eC J λJ M=>eBv J λJ=>eN M (br (decide (o>0)) (some (.tup [An b m c a n p d i u e k s,.bool false],h)) (Al (Af lo 54 (BQ y 0 3) h) λo M=>eB o (Al (Af lo 55 [.str S] M) λo N=>eB o (br f (br (S.toList==(ByteArray.mk #[]).toList) (Al (Af lo 57 [Bs g j A C D B G H E K L J,Ao l w q] N) λo O=>eB o (br (decide ((k:Int)>=80)) (some (.tup [An b m c a n p d i u e k s,.bool false],O)) (Al (Af lo 59 [Bs g j A C D B G H E K L J,Iv y,.str S,.bool true,Ao l w q] O) λo P=>eU o λo=>eC o λo Q=>eA o λo=>eC o λo U=>eI .i64 o λo=>eC U λU W=>eI .i64 U λU=>eC W λW Y=>eS 2 W λW Z v0=>eC Y λY v1=>eS 6 Y λY v2 v3=>eC v1 λv1 v4=>eS 1 v1 λv1 v5 v6=>eC v4 λv4 v7=>eBv v4 λv4=>eN v7 (eC Q λQ v7=>eA Q λQ=>eC Q λQ v8=>eI .i64 Q λQ=>eC v8 λv8 v9=>eI .i64 v8 λv8=>eN v9 (eN v7 (As v m (eO b λv7=>eO (st lo P v7.1 (v7.2+v.toNat) 0 (DO o U W Z v0 Y v2 v3 v1 v5 v6 v4)) λo=>As x n (eO a λP=>eO (st lo o P.1 (P.2+x.toNat) 2 (Cq Q v8)) λo=>As x n (eO a λP=>eO (st lo o P.1 (P.2+x.toNat) 4 (AR y)) λo=>Al (Af lo 287 [An b m c a n p d i u e k s,Iv x,Iv 1,Iv y,At Q v8] o) λo P=>eA o λo=>eC o λo Q=>eS 6 o λo U W=>eC Q λQ Y=>eS 5 Q λQ Z v0=>eC Y λY v1=>eS 9 Y λY v2 v3=>eC v1 λv1 v4=>eS 5 v1 λv1 v5 v6=>eN v4 (some (.tup [An o U W Q Z v0 Y v2 v3 v1 v5 v6,.bool true],P)))))))))) (some (.tup [An b m c a n p d i u e k s,.bool false],O))) (some (.tup [An b m c a n p d i u e k s,.bool false],N))) (Al (Af lo 57 [Bs g j A C D B G H E K L J,Ao l w q] N) λo O=>eB o (br (decide ((k:Int)>=80)) (some (.tup [An b m c a n p d i u e k s,.bool false],O)) (Al (Af lo 59 [Bs g j A C D B G H E K L J,Iv y,.str S,.bool false,Ao l w q] O) λl o=>eU l λl=>eC l λl w=>eA l λl=>eC l λl q=>eI .i64 l λl=>eC q λq g=>eI .i64 q λq=>eC g λg j=>eS 2 g λg A B=>eC j λj C=>eS 6 j λj D E=>eC C λC G=>eS 1 C λC H J=>eC G λG K=>eBv G λG=>eN K (eC w λw K=>eA w λw=>eC w λw L=>eI .i64 w λw=>eC L λL P=>eI .i64 L λL=>eN P (eN K (As v m (eO b λK=>eO (st lo o K.1 (K.2+v.toNat) 0 (DO l q g A B j D E C H J G)) λv=>As x n (eO a λl=>eO (st lo v l.1 (l.2+x.toNat) 2 (Cq w L)) λv=>As x n (eO a λl=>eO (st lo v l.1 (l.2+x.toNat) 4 (AR y)) λv=>Al (Af lo 287 [An b m c a n p d i u e k s,Iv x,Iv 1,Iv y,At w L] v) λv l=>eA v λv=>eC v λv o=>eS 6 v λv w q=>eC o λo g=>eS 5 o λo j A=>eC g λg B=>eS 9 g λg C D=>eC B λB E=>eS 5 B λB G H=>eN E (some (.tup [An v w q o j A g C D B G H,.bool true],l)))))))))) (some (.tup [An b m c a n p d i u e k s,.bool false],O)))) (some (.tup [An b m c a n p d i u e k s,.bool false],N))) (some (.tup [An b m c a n p d i u e k s,.bool false],M))))))))=some r) :
  Af lo 249 [An b m c a n p d i u e k s,Bi z x t y S f] h=some r :=
 by cases f<;>exact eK Tryz.func249 hk
theorem XK {e:Pq} (hk:(As x n (eO a λv=>eO (ld h v.1 (v.2+x.toNat) 0 5) λv=>eC v λv l=>eI .i64 v λv=>eC l λl o=>eS 2 l λl w q=>eC o λo g=>eI .i64 o λo=>eC g λg j=>eI .i64 g λg=>eC j λj A=>eI .i64 j λj=>eN A (br (o==0) (some (.tup [An b k c a n p d i u e m s,.bool false],h)) (As v k (eO b λA=>eO (ld h A.1 (A.2+v.toNat) 2 1) λv=>eC v λv A=>eS 2 v λv B C=>eN A (Al (Af lo 288 [Ao v B C,Iv 0,Iv j] h) λA C=>eA A λA=>eC A λA D=>eI .i64 A λA=>eC D λA D=>eI .i64 A λA=>eC D λD E=>eI .i64 D λD=>eC E λE G=>eS 2 E λE E E=>eC G λE G=>eT E λE=>eC G λE G=>eBv E λE=>eN G (As 0 B (eO v λv=>eO (ld C v.1 (v.2+0) 0 1) λv=>eC v λv B=>eN B (eS 6 v λv B E=>As j B (eO v λv=>eO (ld C v.1 (v.2+j.toNat) 1 2) λv=>eC v λv B=>eI .i64 v λv=>eC B λB E=>eI .i64 B λB=>eN E (Al (Af lo 197 [At A D,At o g] C) λC E=>eB C (Al (Af lo 197 [At v B,At o g] E) λv B=>eB v (Al (Af lo 197 [At A D,At o g] B) λv C=>eB v (Al (Af lo 197 [At A D,At o g] C) λv G=>eB v (As x n (eO a λv=>eO (st lo G v.1 (v.2+x.toNat) 2 (Cq 0 0)) λv=>As x n (eO a λH=>eO (st lo v H.1 (H.2+x.toNat) 4 (AR 0)) λv=>some (.tup [An b k c a n p d i u e m s,.bool true],v)))) (Al (Af lo 289 [Ao l w q,Iv j,At o g] G) λv G=>eA v λv=>eC v λv H=>eS 2 v λv J K=>eN H (As x n (eO a λH=>eO (st lo G H.1 (H.2+x.toNat) 1 (Bk v J K)) λv=>Al (Af lo 287 [An b k c a n p d i u e m s,Iv x,Iv 3,Iv j,At o g] v) λv G=>eA v λv=>eC v λv H=>eS 6 v λv J K=>eC H λH L=>eS 5 H λH M N=>eC L λL O=>eS 9 L λL P Q=>eC O λO U=>eS 5 O λO W Y=>eN U (As x M (eO H λU=>eO (st lo G U.1 (U.2+x.toNat) 2 (Cq 0 0)) λG=>As x M (eO H λU=>eO (st lo G U.1 (U.2+x.toNat) 4 (AR 0)) λG=>some (.tup [An v J K H M N L P Q O W Y,.bool true],G)))))))) (br (decide ((m:Int)>=80)) (some (.tup [An b k c a n p d i u e m s,.bool false],C)) (Al (Af lo 197 [At A D,At o g] C) λv C=>eB v (As x n (eO a λv=>eO (st lo C v.1 (v.2+x.toNat) 2 (Cq 0 0)) λv=>As x n (eO a λG=>eO (st lo v G.1 (G.2+x.toNat) 4 (AR 0)) λv=>some (.tup [An b k c a n p d i u e m s,.bool true],v)))) (Al (Af lo 289 [Ao l w q,Iv j,At o g] C) λv C=>eA v λv=>eC v λv G=>eS 2 v λv H J=>eN G (As x n (eO a λG=>eO (st lo C G.1 (G.2+x.toNat) 1 (Bk v H J)) λv=>Al (Af lo 287 [An b k c a n p d i u e m s,Iv x,Iv 3,Iv j,At o g] v) λv C=>eA v λv=>eC v λv G=>eS 6 v λv H J=>eC G λG K=>eS 5 G λG L M=>eC K λK N=>eS 9 K λK O P=>eC N λN Q=>eS 5 N λN U W=>eN Q (As x L (eO G λQ=>eO (st lo C Q.1 (Q.2+x.toNat) 2 (Cq 0 0)) λC=>As x L (eO G λQ=>eO (st lo C Q.1 (Q.2+x.toNat) 4 (AR 0)) λC=>some (.tup [An v H J G L M K O P N U W,.bool true],C)))))))))) (some (.tup [An b k c a n p d i u e m s,.bool false],B))) (Al (Af lo 197 [At A D,At o g] E) λv B=>eB v (Al (Af lo 197 [At A D,At o g] B) λv C=>eB v (As x n (eO a λv=>eO (st lo C v.1 (v.2+x.toNat) 2 (Cq 0 0)) λv=>As x n (eO a λE=>eO (st lo v E.1 (E.2+x.toNat) 4 (AR 0)) λv=>some (.tup [An b k c a n p d i u e m s,.bool true],v)))) (Al (Af lo 289 [Ao l w q,Iv j,At o g] C) λv C=>eA v λv=>eC v λv E=>eS 2 v λv G H=>eN E (As x n (eO a λE=>eO (st lo C E.1 (E.2+x.toNat) 1 (Bk v G H)) λv=>Al (Af lo 287 [An b k c a n p d i u e m s,Iv x,Iv 3,Iv j,At o g] v) λv C=>eA v λv=>eC v λv E=>eS 6 v λv G H=>eC E λE J=>eS 5 E λE K L=>eC J λJ M=>eS 9 J λJ N O=>eC M λM P=>eS 5 M λM Q U=>eN P (As x K (eO E λP=>eO (st lo C P.1 (P.2+x.toNat) 2 (Cq 0 0)) λC=>As x K (eO E λP=>eO (st lo C P.1 (P.2+x.toNat) 4 (AR 0)) λC=>some (.tup [An v G H E K L J N O M Q U,.bool true],C)))))))) (br (decide ((m:Int)>=80)) (some (.tup [An b k c a n p d i u e m s,.bool false],B)) (Al (Af lo 197 [At A D,At o g] B) λv A=>eB v (As x n (eO a λv=>eO (st lo A v.1 (v.2+x.toNat) 2 (Cq 0 0)) λv=>As x n (eO a λB=>eO (st lo v B.1 (B.2+x.toNat) 4 (AR 0)) λv=>some (.tup [An b k c a n p d i u e m s,.bool true],v)))) (Al (Af lo 289 [Ao l w q,Iv j,At o g] A) λv l=>eA v λv=>eC v λv w=>eS 2 v λv q A=>eN w (As x n (eO a λw=>eO (st lo l w.1 (w.2+x.toNat) 1 (Bk v q A)) λv=>Al (Af lo 287 [An b k c a n p d i u e m s,Iv x,Iv 3,Iv j,At o g] v) λv l=>eA v λv=>eC v λv o=>eS 6 v λv w q=>eC o λo g=>eS 5 o λo j A=>eC g λg B=>eS 9 g λg C D=>eC B λB E=>eS 5 B λB G H=>eN E (As x j (eO o λE=>eO (st lo l E.1 (E.2+x.toNat) 2 (Cq 0 0)) λl=>As x j (eO o λE=>eO (st lo l E.1 (E.2+x.toNat) 4 (AR 0)) λl=>some (.tup [An v w q o j A g C D B G H,.bool true],l)))))))))))))))))))))=some r) :
  Af lo 250 [An b k c a n p d i u e m s,Bi y x z t S f] h=some r :=
 eK Tryz.func250 hk
theorem UJ {e:Pq} (hk:(As y n (eO a λv=>eO (ld h v.1 (v.2+y.toNat) 0 5) λv=>eC v λv l=>eI .i64 v λv=>eC l λl o=>eS 2 l λl w q=>eC o λo g=>eI .i64 o λo=>eC g λg j=>eI .i64 g λg=>eC j λg j=>eI .i64 g λg=>eN j (As v m (eO b λg=>eO (ld h g.1 (g.2+v.toNat) 2 1) λv=>eC v λv g=>eS 2 v λv j A=>eN g (br (decide (o>0)) (some (.tup [An b m c a n p d i u e k s,.bool false],h)) (Al (Af lo 54 (BQ x 0 3) h) λo g=>eB o (Al (Af lo 54 (BQ z 0 (Ap ((j:Int) - 1))) g) λo B=>eB o (br (decide ((k:Int)>=80)) (some (.tup [An b m c a n p d i u e k s,.bool false],B)) (Al (Af lo 288 [Ao v j A,Iv z,Iv x] B) λv o=>eA v λv=>eC v λv j=>eI .i64 v λv=>eC j λv j=>eI .i64 v λv=>eC j λj A=>eI .i64 j λj=>eC A λA C=>eS 2 A λA D E=>eC C λC G=>eT C λC=>eC G λC G=>eBv C λC=>eN G (As x w (eO l λC=>eO (ld o C.1 (C.2+x.toNat) 0 2) λC=>eC C λC G=>eI .i64 C λC=>eC G λG H=>eI .i64 G λG=>eN H (Al (Af lo 197 [At v j,At C G] o) λo C=>eB o (some (.tup [An b m c a n p d i u e k s,.bool false],C)) (br (decide (v>0)) (Al (Af lo 290 [Ao l w q,Ao A D E] C) λl o=>eA l λl=>eC l λl w=>eS 2 l λl q A=>eN w (Al (Af lo 289 [Ao l q A,Iv x,At v j] o) λl o=>eA l λl=>eC l λl w=>eS 2 l λl q A=>eN w (As y n (eO a λw=>eO (st lo o w.1 (w.2+y.toNat) 1 (Bk l q A)) λl=>Al (Af lo 287 [An b m c a n p d i u e k s,Iv y,Iv 2,Iv x,At v j] l) λl o=>eA l λl=>eC l λl w=>eS 6 l λl q A=>eC w λw D=>eS 5 w λw E G=>eC D λD H=>eS 9 D λD J K=>eC H λH L=>eS 5 H λH M N=>eN L (some (.tup [An l q A w E G D J K H M N,.bool true],o)))))) (Al (Af lo 287 [An b m c a n p d i u e k s,Iv y,Iv 2,Iv x,At v j] C) λv l=>eA v λv=>eC v λv o=>eS 6 v λv w q=>eC o λo j=>eS 5 o λo A C=>eC j λj D=>eS 9 j λj E G=>eC D λD H=>eS 5 D λD J K=>eN H (some (.tup [An v w q o A C j E G D J K,.bool true],l))))))))) (some (.tup [An b m c a n p d i u e k s,.bool false],B))) (some (.tup [An b m c a n p d i u e k s,.bool false],g))))))))=some r) :
  Af lo 251 [An b m c a n p d i u e k s,Bi t y z x S f] h=some r :=
 eK Tryz.func251 hk
def EA lo x a n c b m p d k u e i s y z t w S f j A g C G B H D J a0 P c0 n0 a1 n1 c1 a2 n2 c2 h:=
 LA 252 Tryz.f252 221311111 0 111111 lo ⟨[(2,.lp 2 0),(3,.lp 3 0),(4,.lp 4 0),(8,.lp 8 0),(9,Iv x)],[(2,(Dc a n c b m p d k u e i s)),(3,(Tt y z t w S f)),(4,[.sl j A g C,.sl G B H D,.sl J a0 P c0,.sl n0 a1 n1 c1]),(8,(Bm a2 n2 c2))],h⟩
theorem XL {e:Pq} (hk:(As x m (eO b λv=>eO (ld h v.1 (v.2+x.toNat) 0 5) λv=>eC v λv l=>eI .i64 v λv=>eC l λl o=>eS 2 l λl w q=>eC o λo g=>eI .i64 o λo=>eC g λg j=>eI .i64 g λg=>eC j λg j=>eI .i64 g λg=>eN j (As v n (eO a λg=>eO (ld h g.1 (g.2+v.toNat) 2 1) λv=>eC v λv g=>eS 2 v λv j A=>eN g (As (Ap ((j:Int) - 1)) j (eO v λv=>eO (ld h v.1 (v.2+((Ap ((j:Int) - (1:Int))).toNat)) 0 1) λv=>eC v λv g=>eS 6 v λv j A=>eN g (br (decide (o>0)) (some (.tup [An a n c b m p d i u e k s,.bool false],h)) (Al (Af h.length 114 [Bh v j A] h) λo g=>eA o λo=>eC o λo B=>eS 2 o λo C D=>eN B (Al (Af lo 124 [Ao l w q,Ao o C D] g) λl o=>eB l (br (decide (Ap ((k:Int)+(4:Int))>80)) (some (.tup [An a n c b m p d i u e k s,.bool false],o)) (EA lo 0 a n c b m p d i u e k s y x z t S f 0 none 0 (some 0) 0 none 0 (some 0) 0 none 0 (some 0) 0 none 0 (some 0) v j A o)) (some (.tup [An a n c b m p d i u e k s,.bool false],o)))))))))))=some r) :
  Af lo 252 [An a n c b m p d i u e k s,Bi y x z t S f] h=some r :=
 eK Tryz.func252 hk
theorem EA.e {lo k n i j g G H J P n0 n1 n2 m:Nat}{x z y t w:Int}{d a A B a0 a1 a2 a3 b:Pq}{c p u s C D c0 c1 c2:Nq}{S:ByteArray}{f:Bool}{h:Heap} :
  EA lo x d k c a n p A i u B j s z y t w S f g a0 G C H a1 J D P a2 n0 c0 n1 a3 n2 c1 b m c2 h=br (decide (x<4)) (As y n (eO a λv=>eO (ld h v.1 (v.2+y.toNat) 1 1) λv=>eC v λv l=>eS 2 v λv o q=>eN l (As x m (eO b λl=>eO (ld h l.1 (l.2+x.toNat) 1 2) λl=>eC l λl e=>eI .i64 l λl=>eC e λe E=>eI .i64 e λe=>eN E (Al (Af lo 289 [Ao v o q,Iv x,At l e] h) λv l=>eA v λv=>eC v λv o=>eS 2 v λv q e=>eN o (As y n (eO a λo=>eO (st lo l o.1 (o.2+y.toNat) 1 (Bk v q e)) λv=>As x m (eO b λl=>eO (ld v l.1 (l.2+x.toNat) 1 2) λl=>eC l λl o=>eI .i64 l λl=>eC o λo q=>eI .i64 o λo=>eN q (Al (Af lo 287 [An d k c a n p A i u B j s,Iv y,Iv 2,Iv x,At l o] v) λv l=>eA v λv=>eC v λv o=>eS 6 v λv q e=>eC o λo E=>eS 5 o λo K L=>eC E λE M=>eS 9 E λE N O=>eC M λM Q=>eS 5 M λM U W=>eN Q (EA lo (Ap (x+1)) v q e o K L E N O M U W z y t w S f g a0 G C H a1 J D P a2 n0 c0 n1 a3 n2 c1 b m c2 l)))))))))) (some (.tup [An d k c a n p A i u B j s,.bool true],h)) :=
 lE
theorem XO (hk:(Al (Af h.length 54 (BQ x 0 (Ap ((n:Int) - 2))) h) λl o=>eB l (As x n (eO a λl=>eO (ld o l.1 (l.2+x.toNat) 1 1) λl=>eC l λl s=>eN s (eS 6 l λl l s=>br (decide ((l:Int)>0)) (As (Ap (x+1)) n (eO a λl=>eO (ld o l.1 (l.2+((Ap (x+(1:Int))).toNat)) 1 1) λl=>eC l λl s=>eN s (eS 6 l λl l s=>br (decide ((l:Int)<6)) (BI o) (Ax o)))) (Ax o)))) (Ax o))=some (v,h')) (hn:noId v=true:=by rfl) :
  Af lo 253 [Ao a n c,Iv x] h=some (v,h) :=
 eD Tryz.func253 hk hn
theorem UU (hk:(As x n (eO a λv=>eO (ld h v.1 (v.2+x.toNat) 1 1) λv=>eC v λv l=>eN l (eS 6 v λv l o=>As 0 l (eO v λv=>eO (ld h v.1 (v.2+0) 0 6) λv=>eC v λv l=>eI .i64 v λv=>eC l λl o=>eI .i64 l λl=>eC o λo s=>eI .i64 o λo=>eC s λs b=>eS 2 s λs y z=>eC b λb u=>eT b λb=>eC u λu w=>eBv u λu=>eN w (As x n (eO a λw=>eO (ld (h ++ [.rows 6 43 false []]) w.1 (w.2+x.toNat) 1 1) λw=>eC w λw p=>eN p (eS 6 w λw p q=>Az w p q (some (Iv 1)) none none λw p q=>Aw 6 (h ++ [.rows 6 43 false []]) (.sl 6 w p q) λw=>DJ lo 43 6 72 (.sl 6 (some (h.length,0)) 0 (some 0)) w (h ++ [.rows 6 43 false []]) λw p=>eS 6 w λw q g=>As x n (eO a λi=>eO (st lo p i.1 (i.2+x.toNat) 1 (Bm w q g)) λw=>Al (Af lo 129 [Ao a n c,Iv (Ap (x+1)),AA v l o s y z b u] w) λv l=>eA v λv=>eC v λv o=>eS 2 v λv s b=>eN o (some ((Ao v s b),l))))))))))=some r) :
  Af lo 254 [Ao a n c,Iv x] h=some r :=
 eK Tryz.func254 hk
theorem Qm (hk:(br (!f) (br (!f) (br (!f) (br (!f) (br (!f) (br (decide ((n:Int)>1)) (br (!f) (Al (Af h.length 54 (BQ x 0 (Ap ((n:Int) - 1))) h) λl o=>eB l (BI o) (Ax o)) (Ax h)) (br (!f) (Ax h) (Ax h))) (br (!f) none (Ax h))) (br (!f) none (br (!f) none (Ax h)))) (br (!f) none (br (!f) none (br (!f) none (Ax h))))) (br (!f) none (br (!f) none (br (!f) none (br (!f) none (Ax h)))))) (br (!f) none (br (!f) none (br (!f) none (br (!f) none (br (!f) none (Ax h)))))))=some (v,h')) (hn:noId v=true:=by rfl) :
  Af lo 255 [Bs y z a n c b m p d k u f,Iv x] h=some (v,h) :=
 eD Tryz.func255 hk hn
theorem UY (hk:(Az a n c none (some (Iv x)) none λv l o=>Aw 2 (h ++ [.rows 2 47 false []]) (.sl 2 v l o) λv=>DJ lo 47 2 48 (.sl 2 (some (h.length,0)) 0 (some 0)) v (h ++ [.rows 2 47 false []]) λv l=>eS 2 v λv o s=>Az a n c (some (Iv (Ap (x+1)))) none none λb y z=>Aw 2 l (.sl 2 b y z) λb=>DJ lo 47 2 48 (.sl 2 v o s) b l λv l=>eS 2 v λv o s=>br (decide (x>0)) (br (decide (x<(o:Int))) (As (Ap (x - 1)) o (eO v λb=>eO (ld l b.1 (b.2+((Ap (x - (1:Int))).toNat)) 0 1) λb=>eC b λb y=>eS 6 b λb z u=>eN y (As x o (eO v λy=>eO (ld l y.1 (y.2+x.toNat) 0 1) λy=>eC y λy w=>eS 6 y λy p q=>eN w (Al (Af lo 291 [Bh b z u,Bh y p q] l) λb y=>eS 6 b λb z u=>As (Ap (x - 1)) o (eO v λw=>eO (st lo y w.1 (w.2+((Ap (x - (1:Int))).toNat)) 1 (Bm b z u)) λb=>As (Ap ((o:Int) - 1)) o (eO v λy=>eO (st lo b y.1 (y.2+((Ap ((o:Int) - (1:Int))).toNat)) 1 [.sl 0 none 0 (some 0)]) λb=>some ((Ao v o s),b)))))))) (As (Ap ((o:Int) - 1)) o (eO v λb=>eO (st lo l b.1 (b.2+((Ap ((o:Int) - (1:Int))).toNat)) 1 [.sl 0 none 0 (some 0)]) λb=>some ((Ao v o s),b)))) (As (Ap ((o:Int) - 1)) o (eO v λb=>eO (st lo l b.1 (b.2+((Ap ((o:Int) - (1:Int))).toNat)) 1 [.sl 0 none 0 (some 0)]) λl=>some ((Ao v o s),l))))=some r) :
  Af lo 256 [Ao a n c,Iv x] h=some r :=
 eK Tryz.func256 hk
theorem UX (hk:(As (Ap ((n:Int) - 1)) n (eO a λv=>eO (ld h v.1 (v.2+((Ap ((n:Int) - (1:Int))).toNat)) 0 1) λv=>eC v λv l=>eS 6 v λv o s=>eN l (Al (Af lo 196 [Bh v o s] h) λv l=>eA v λv=>eC v λv o=>eS 6 v λv s b=>eN o (Aw 2 (l ++ [.rows 2 47 false [[.sl 6 v s b,.sl 0 none 0 (some 0)]]]) (.sl 2 (some (l.length,0)) 1 (some 1)) λo=>DJ lo 47 2 48 (.sl 2 a n c) o (l ++ [.rows 2 47 false [[.sl 6 v s b,.sl 0 none 0 (some 0)]]]) λv l=>eS 2 v λv o s=>some ((Ao v o s),l)))))=some r) :
  Af lo 257 [Ao a n c] h=some r :=
 eK Tryz.func257 hk
theorem Ql (hk:(Al (Af h.length 292 [Bs y z a n c d k p b m u f,Iv x] h) λl o=>eI .i64 l λl=>br (decide (l>=0)) (Al (Af h.length 125 [Ao a n c] o) λs w=>eB s (As x m (eO b λs=>eO (ld w s.1 (s.2+x.toNat) 0 1) λs=>eC s λs q=>eN q (eS 6 s λs q g=>As l q (eO s λs=>eO (ld w s.1 (s.2+l.toNat) 3 1) λl=>eC l λl s=>eS 2 l λl q g=>eN s (Al (Af w.length 47 [Ao a n c] w) λs i=>eA s λs=>eC s λs j=>eS 2 s λs t e=>eN j (Al (Af h.length 124 [Ao l q g,Ao s t e] i) λl s=>eB l (BI s) (Ax s))))))) (Ax w)) (Ax o))=some (v,h')) (hn:noId v=true:=by rfl) :
  Af lo 258 [Bs y z a n c d k p b m u f,Iv x] h=some (v,h) :=
 eD Tryz.func258 hk hn
theorem UO (hk:(As z n (eO a λv=>eO (ld h v.1 (v.2+z.toNat) 0 1) λv=>eC v λv l=>eN l (eS 6 v λv l o=>Al (Af h.length 292 [Bs x y b m c d k p a n u f,Iv z] h) λo s=>eI .i64 o λo=>As o l (eO v λv=>eO (ld s v.1 (v.2+o.toNat) 0 6) λv=>eC v λv l=>eI .i64 v λv=>eC l λl o=>eI .i64 l λl=>eC o λo w=>eI .i64 o λo=>eC w λw q=>eS 2 w λw g i=>eC q λq j=>eT q λq=>eC j λj t=>eBv j λj=>eN t (br (decide (l>y)) (Al (Af lo 129 [Ao b m c,Iv 0,AA v l o w g i q j] s) λt e=>eA t λt=>eC t λt A=>eS 2 t λt B C=>eN A (Al (Af lo 130 [Bs x l t B C d k p a n u f] e) λt e=>eA t λt=>eC t λt A=>eI .i64 t λt=>eC A λA B=>eI .i64 A λA=>eC B λB C=>eS 2 B λB D E=>eC C λC G=>eS 6 C λC H J=>eC G λG K=>eS 1 G λG L M=>eC K λK N=>eBv K λK=>eN N (some ((Bs t A B D E C H J G L M K),e)))) (Al (Af lo 129 [Ao b m c,Iv 0,AA v l o w g i q j] s) λv l=>eA v λv=>eC v λv o=>eS 2 v λv s w=>eN o (Al (Af lo 130 [Bs x y v s w d k p a n u f] l) λv l=>eA v λv=>eC v λv o=>eI .i64 v λv=>eC o λo s=>eI .i64 o λo=>eC s λs w=>eS 2 s λs q g=>eC w λw i=>eS 6 w λw j t=>eC i λi e=>eS 1 i λi A B=>eC e λe C=>eBv e λe=>eN C (some ((Bs v o s q g w j t i A B e),l)))))))))=some r) :
  Af lo 259 [Bs x y b m c d k p a n u f,Iv z] h=some r :=
 eK Tryz.func259 hk
theorem UR {M:Int}{e:Pq} (hk:(br (x==y) (some (.tup [Bs y z b m c d k p a n u f,.bool false],h)) (As x n (eO a λv=>eO (ld h v.1 (v.2+x.toNat) 0 1) λv=>eC v λv l=>eN l (eS 6 v λv v l=>br (t==(v:Int)) (br (decide (t>=60)) (some (.tup [Bs y z b m c d k p a n u f,.bool false],h)) (As x n (eO a λv=>eO (ld h v.1 (v.2+x.toNat) 0 1) λv=>eC v λv l=>eN l (eS 6 v λv l o=>Al (Af lo 208 [.sl 6 v l o,At w q] h) λv l=>eB v (some (.tup [Bs y z b m c d k p a n u f,.bool false],l)) (As x n (eO a λv=>eO (ld l v.1 (v.2+x.toNat) 0 1) λv=>eC v λv o=>eN o (eS 6 v λv o g=>Al (Af l.length 187 [AA M w q e i s S F] l) λl j=>eA l λl=>eC l λl A=>eI .i64 l λl=>eC A λA B=>eI .i64 A λA=>eC B λB C=>eI .i64 B λB=>eC C λC D=>eS 2 C λC E G=>eC D λD H=>eT D λD=>eC H λH J=>eBv H λH=>eN J (Aw 6 (j ++ [.rows 6 43 false [DC l A B C E G D H]]) (.sl 6 (some (j.length,0)) 1 (some 1)) λJ=>DJ lo 43 6 72 (.sl 6 v o g) J (j ++ [.rows 6 43 false [DC l A B C E G D H]]) λv l=>eS 6 v λv o g=>As x n (eO a λj=>eO (st lo l j.1 (j.2+x.toNat) 0 (Bm v o g)) λv=>some (.tup [Bs y z b m c d k p a n u f,.bool true],v)))))))))) (some (.tup [Bs y z b m c d k p a n u f,.bool false],h))))))=some r) :
  Af lo 260 [Bs y z b m c d k p a n u f,Iv x,Iv t,AA M w q e i s S F] h=some r :=
 eK Tryz.func260 hk
theorem TU (hk:(Al (Af lo 293 (Bk a n c) h) λv l=>eS 2 v λv o s=>some ((Ao v o s),l))=some r) :
  Af lo 261 [Ao a n c] h=some r :=
 eK Tryz.func261 hk
def D7 lo a n c b m p x h:=
 LA 262 Tryz.f262 221311 0 111 lo ⟨[(0,.sl 6 a n c),(3,.sl 6 b m p),(4,Iv x)],[],h⟩
theorem U7 (hk:(Bf (decide ((0:Int)<=(n:Int)/\(n:Int)<=(n:Int)/\(n:Int)<=140737488355328/\(n:Int)*((72:Nat):Int)<=281474976710656)) (D7 lo a n c (some (h.length,0)) n (some n) 0 (h ++ [.rows 6 43 false (List.replicate n [Iv 0,Iv 0,Iv 0,.sl 0 none 0 (some 0),.str ⟨⟨[]⟩⟩,.bool false])])))=some r) :
  Af lo 262 (Bm a n c) h=some r :=
 eK Tryz.func262 hk
theorem D7.e :
  D7 lo b n p a m c x h=br (decide (x<(n:Int))) (As x n (eO b λv=>eO (ld h v.1 (v.2+x.toNat) 0 6) λv=>eC v λv l=>eI .i64 v λv=>eC l λl o=>eI .i64 l λl=>eC o λo s=>eI .i64 o λo=>eC s λs y=>eS 2 s λs z u=>eC y λy w=>eT y λy=>eC w λw q=>eBv w λw=>eN q (Al (Af lo 266 [AA v l o s z u y w] h) λv l=>eA v λv=>eC v λv o=>eI .i64 v λv=>eC o λo s=>eI .i64 o λo=>eC s λs y=>eI .i64 s λs=>eC y λy z=>eS 2 y λy u w=>eC z λz q=>eT z λz=>eC q λq g=>eBv q λq=>eN g (As x m (eO a λg=>eO (st lo l g.1 (g.2+x.toNat) 0 (DC v o s y u w z q)) λv=>D7 lo b n p a m c (Ap (x+1)) v))))) (some (.sl 6 a m c,h)) :=
 lE
def Dp lo a n c b m p x h:=
 LA 263 Tryz.f263 221311 0 111 lo ⟨[(0,.sl 1 a n c),(3,.sl 1 b m p),(4,Iv x)],[],h⟩
theorem TL (hk:(Bf (decide ((0:Int)<=(n:Int)/\(n:Int)<=(n:Int)/\(n:Int)<=140737488355328/\(n:Int)*((24:Nat):Int)<=281474976710656)) (Dp lo a n c (some (h.length,0)) n (some n) 0 (h ++ [.rows 1 26 false (List.replicate n [.sl 0 none 0 (some 0)])])))=some r) :
  Af lo 263 [.sl 1 a n c] h=some r :=
 eK Tryz.func263 hk
theorem Dp.e :
  Dp lo b n p a m c x h=br (decide (x<(n:Int))) (As x n (eO b λv=>eO (ld h v.1 (v.2+x.toNat) 0 1) λv=>eC v λv l=>eN l (eS 6 v λv l o=>Al (Af lo 262 (Bm v l o) h) λv l=>eS 6 v λv o s=>As x m (eO a λy=>eO (st lo l y.1 (y.2+x.toNat) 0 (Bm v o s)) λv=>Dp lo b n p a m c (Ap (x+1)) v)))) (some (.sl 1 a m c,h)) :=
 lE
theorem Va (hk:(Al (Af lo 294 (Bk a n c) h) λv l=>eS 2 v λv o s=>some ((Ao v o s),l))=some r) :
  Af lo 264 [Ao a n c] h=some r :=
 eK Tryz.func264 hk
theorem XV (hk:(some ((At x y),h))=some (v,h')) (hn:noId v=true:=by rfl) :
  Af lo 265 [At x y] h=some (v,h) :=
 eD Tryz.func265 hk hn
theorem XU (hk:(Al (Af lo 265 [At y z] h) λv l=>eA v λv=>eC v λv o=>eI .i64 v λv=>eC o λo s=>eI .i64 o λo=>eN s (Al (Af lo 264 [Ao a n c] l) λl s=>eA l λl=>eC l λl b=>eS 2 l λl u w=>eN b (some ((AA x v o l u w S f),s))))=some r) :
  Af lo 266 [AA x y z a n c S f] h=some r :=
 eK Tryz.func266 hk
def Bc lo n m k x i a j c b g p h:=
 LA 267 Tryz.f267 221311 0 111 lo ⟨[(0,(DQ n m k)),(2,.lp 2 0),(3,.lp 3 0),(4,Iv x)],[(2,[.sl i a j c]),(3,(Bk b g p))],h⟩
theorem Bc.e {lo m k i j g n:Nat}{x:Int}{b a:Pq}{p c:Nq}{h:Heap} :
  Bc lo m k i x j b g p a n c h=br (decide (x>0)) (Al (Af lo 44 [DQ m k i,Iv 6] h) λv l=>eI .i64 v λv=>br (v==0) (Al (Af lo 125 [Ao a n c] l) λo s=>eB o (Al (Af lo 195 [DQ m k i] s) λo y=>eA o λo=>eC o λo z=>eI .i64 o λo=>eC z λz u=>eI .i64 z λz=>eC u λu w=>eI .i64 u λu=>eC w λw q=>eS 2 w λw t d=>eC q λq e=>eT q λq=>eC e λe f=>eBv e λe=>eN f (Al (Af lo 129 [Ao a n c,Iv 0,AA o z u w t d q e] y) λo y=>eA o λo=>eC o λo z=>eS 2 o λo u w=>eN z (Bc lo m k i (Ap (x - 1)) j b g p o u w y))) (Bc lo m k i (Ap (x - 1)) j b g p a n c s)) (br (v==1) (Al (Af lo 125 [Ao a n c] l) λo s=>eB o (Al (Af lo 195 [DQ m k i] s) λo y=>eA o λo=>eC o λo z=>eI .i64 o λo=>eC z λz u=>eI .i64 z λz=>eC u λu w=>eI .i64 u λu=>eC w λw q=>eS 2 w λw t d=>eC q λq e=>eT q λq=>eC e λe f=>eBv e λe=>eN f (Al (Af lo 129 [Ao a n c,Iv 0,AA o z u w t d q e] y) λo y=>eA o λo=>eC o λo z=>eS 2 o λo u w=>eN z (Bc lo m k i (Ap (x - 1)) j b g p o u w y))) (Bc lo m k i (Ap (x - 1)) j b g p a n c s)) (br (v==2) (br (decide ((n:Int)>1)) (Al (Af lo 44 [DQ m k i,Iv (n:Int)] l) λo s=>eI .i64 o λo=>Al (Af lo 256 [Ao a n c,Iv o] s) λo s=>eA o λo=>eC o λo y=>eS 2 o λo z u=>eN y (Bc lo m k i (Ap (x - 1)) j b g p o z u s)) (Bc lo m k i (Ap (x - 1)) j b g p a n c l)) (br (v==3) (br (decide ((n:Int)<4)) (Al (Af lo 257 [Ao a n c] l) λv o=>eA v λv=>eC v λv s=>eS 2 v λv y z=>eN s (Bc lo m k i (Ap (x - 1)) j b g p v y z o)) (Bc lo m k i (Ap (x - 1)) j b g p a n c l)) (Al (Af lo 44 [DQ m k i,Iv 4] l) λv l=>eI .i64 v λv=>Al (Af lo 253 [Ao a n c,Iv v] l) λl o=>eB l (Al (Af lo 254 [Ao a n c,Iv v] o) λv l=>eA v λv=>eC v λv s=>eS 2 v λv y z=>eN s (Bc lo m k i (Ap (x - 1)) j b g p v y z l)) (Bc lo m k i (Ap (x - 1)) j b g p a n c o)))))) (Al (Af lo 127 [Ao a n c] h) λv l=>eA v λv=>eC v λv o=>eS 2 v λv s y=>eN o (some ((Ao v s y),l))) :=
 lE
def AG lo a n c m l x y z h:=
 LA 270 Tryz.f270 22131 0 11 lo ⟨[(0,.sl 2 a n c),(1,.fn m l),(4,Iv x),(7,Iv y),(8,Iv z)],[],h⟩
theorem GA (hk:(AG h.length a n c m l 0 (n:Int) 0 h)=some (v,h')) (hn:noId v=true:=by rfl) :
  Af lo 270 [.sl 2 a n c,.fn m l] h=some (v,h) :=
 eD Tryz.func270 hk hn
theorem AG.e :
  AG lo a n c m l z y x h=br (decide (x<y)) (As x n (eO a λv=>eO (ld h v.1 (v.2+x.toNat) 0 2) λv=>eC v λv o=>eS 6 v λv s b=>eC o λo u=>eS 6 o λo w p=>eN u (Al (Af lo m (Dl [IA v s b o w p] l) h) λv o=>eB v (some (Iv x,o)) (AG lo a n c m l z y (Ap (x+1)) o)))) (some (Iv (-1),h)) :=
 lE
def Io lo x y n a m c k b i p h:=
 LA 271 Tryz.f271 2213111 0 1111 lo ⟨[(0,Iv x),(2,.lp 2 0),(3,.lp 3 0),(4,Iv y)],[(2,[.sl n a m c]),(3,[.sl k b i p])],h⟩
theorem Io.e :
  Io lo x y k b i p n a m c h=br (decide (y<x)) (Al (Af lo 296 [] h) λv l=>eA v λv=>eC v λv o=>eS 6 v λv s z=>eN o (Aw 2 (l ++ [.rows 2 47 false [[.sl 6 v s z,.sl 0 none 0 (some 0)]]]) (.sl 2 (some (l.length,0)) 1 (some 1)) λo=>DJ lo 47 2 48 (.sl n a m c) o (l ++ [.rows 2 47 false [[.sl 6 v s z,.sl 0 none 0 (some 0)]]]) λv l=>eS 2 v λv o s=>Io lo x (Ap (y+1)) k b i p 2 v o s l)) (some (.agg [.sl n a m c],h)) :=
 lE
theorem Po (hk:(eO (ld h n m (k+3) 1) λl=>eC l λl c=>eN c (eS 5 l λl l c=>br (decide (Ap ((l:Int)+x)<=80)) (BI h) (Ax h)))=some (v,h')) (hn:noId v=true:=by rfl) :
  Af lo 273 [DQ n m k,Iv x] h=some (v,h) :=
 eD Tryz.func273 hk hn
theorem Kz (hk:(eO (ld h n m (k+3) 1) λv=>eC v λv l=>eN l (eS 5 v λv l c=>Aw 5 (h ++ [.rows 5 126 false [We x y z t w]]) (.sl 5 (some (h.length,0)) 1 (some 1)) λa=>DJ lo 126 5 40 (.sl 5 v l c) a (h ++ [.rows 5 126 false [We x y z t w]]) λv l=>eS 5 v λv c a=>eO (st lo l n m (k+3) [.sl 5 v c a]) λv=>some (.tup [],v)))=some r) :
  Af lo 274 [DQ n m k,Iv x,Iv y,Iv z,At t w] h=some r :=
 eK Tryz.func274 hk
theorem HA (hk:(eO (ld h n m (k+0) 1) λv=>eC v λv l=>eN l (eS 2 v λv v l=>Al (Af lo 63 (BQ y 0 (Ap ((v:Int) - 1))) h) λv l=>eB v (Al (Af lo 202 (AR x) l) λv c=>eB v (br (y==0) (eO (ld c n m (k+0) 1) λv=>eC v λv a=>eN a (eS 2 v λv v a=>eO (ld c n m (k+0) 1) λa=>eC a λa o=>eN o (eS 2 a λa o s=>As (if Ap ((v:Int) - (1:Int))<1 then Ap ((v:Int) - (1:Int)) else (1:Int)) o (eO a λa=>eO (ld c a.1 (a.2+((if Ap ((v:Int) - (1:Int))<1 then Ap ((v:Int) - (1:Int)) else (1:Int)).toNat)) 0 1) λv=>eC v λv a=>eN a (eS 6 v λv a o=>As x a (eO v λv=>eO (ld c v.1 (v.2+x.toNat) 0 6) λv=>eC v λv a=>eI .i64 v λv=>eC a λa o=>eI .i64 a λa=>eC o λo s=>eI .i64 o λo=>eC s λs b=>eS 2 s λs z u=>eC b λb w=>eT b λb=>eC w λw p=>eBv w λw=>eN p (Al (Af lo 154 [AA v a o s z u b w] c) λv a=>eA v λv=>eC v λv o=>eI .i64 v λv=>eC o λo s=>eI .i64 o λo=>eC s λs b=>eI .i64 s λs=>eC b λb z=>eS 2 b λb u w=>eC z λz p=>eT z λz=>eC p λp q=>eBv p λp=>eN q (some (.tup [AA v o s b u w z p,.bool true],a))))))))) (eO (ld c n m (k+0) 1) λv=>eC v λv a=>eN a (eS 2 v λv a o=>As y a (eO v λv=>eO (ld c v.1 (v.2+y.toNat) 0 1) λv=>eC v λv a=>eN a (eS 6 v λv a o=>As x a (eO v λv=>eO (ld c v.1 (v.2+x.toNat) 0 6) λv=>eC v λv a=>eI .i64 v λv=>eC a λa o=>eI .i64 a λa=>eC o λo s=>eI .i64 o λo=>eC s λs b=>eS 2 s λs z u=>eC b λb w=>eT b λb=>eC w λw p=>eBv w λw=>eN p (Al (Af lo 154 [AA v a o s z u b w] c) λv a=>eA v λv=>eC v λv o=>eI .i64 v λv=>eC o λo s=>eI .i64 o λo=>eC s λs b=>eI .i64 s λs=>eC b λb z=>eS 2 b λb u w=>eC z λz p=>eT z λz=>eC p λp q=>eBv p λp=>eN q (some (.tup [AA v o s b u w z p,.bool true],a))))))))) (some (.tup [.agg [Iv 0,Iv 0,Iv 0,.sl 0 none 0 (some 0),.str ⟨⟨[]⟩⟩,.bool false],.bool false],c))) (some (.tup [.agg [Iv 0,Iv 0,Iv 0,.sl 0 none 0 (some 0),.str ⟨⟨[]⟩⟩,.bool false],.bool false],l))))=some r) :
  Af lo 275 [DQ n m k,Iv y,Iv x] h=some r :=
 eK Tryz.func275 hk
theorem QC (hk:(Al (Af lo 153 [Ao a n c] h) λv l=>eA v λv=>eC v λv o=>eS 2 v λv s b=>eN o (As x s (eO v λo=>eO (ld l o.1 (o.2+x.toNat) 0 2) λo=>eC o λo u=>eI .i64 o λo=>eC u λu w=>eI .i64 u λu=>eN w (Al (Af lo 297 [At o u,At y z] l) λl o=>eA l λl=>eC l λl u=>eI .i64 l λl=>eC u λu w=>eI .i64 u λu=>eN w (As x s (eO v λw=>eO (st lo o w.1 (w.2+x.toNat) 0 (Cq l u)) λl=>some ((Ao v s b),l)))))))=some r) :
  Af lo 276 [Ao a n c,Iv x,At y z] h=some r :=
 eK Tryz.func276 hk
def Cc lo a n c x y m b k p d i u h:=
 LA 277 Tryz.f277 221311 0 111 lo ⟨[(4,.lp 4 0),(5,.lp 5 0),(11,.sl 2 a n c),(12,Iv x),(13,Iv y)],[(4,[.sl m b k p]),(5,(Bk d i u))],h⟩
theorem Lq (hk:(Al (Af lo 153 [Ao a m c] h) λv l=>eA v λv=>eC v λv o=>eS 2 v λv s x=>eN o (Cc lo b n p (n:Int) 0 0 none 0 (some 0) v s x l))=some r) :
  Af lo 277 [Ao a m c,Ao b n p] h=some r :=
 eK Tryz.func277 hk
theorem Cc.e :
  Cc lo b m p y x k d i u a n c h=br (decide (x<y)) (As x m (eO b λv=>eO (ld h v.1 (v.2+x.toNat) 0 2) λv=>eC v λv l=>eI .i64 v λv=>eC l λl o=>eI .i64 l λl=>eN o (As x n (eO a λo=>eO (ld h o.1 (o.2+x.toNat) 0 2) λo=>eC o λo s=>eI .i64 o λo=>eC s λs z=>eI .i64 s λs=>eN z (Al (Af lo 297 [At o s,At v l] h) λv l=>eA v λv=>eC v λv o=>eI .i64 v λv=>eC o λo s=>eI .i64 o λo=>eN s (As x n (eO a λs=>eO (st lo l s.1 (s.2+x.toNat) 0 (Cq v o)) λv=>Cc lo b m p y (Ap (x+1)) k d i u a n c v))))))) (some ((Ao a n c),h)) :=
 lE
theorem PB (hk:(eO (ld h n m (k+0) 1) λv=>eC v λv l=>eN l (eS 2 v λv v l=>Al (Af lo 63 (BQ x 0 (Ap ((v:Int) - 2))) h) λv l=>eB v (eO (ld l n m (k+0) 1) λv=>eC v λv c=>eN c (eS 2 v λv c a=>As x c (eO v λv=>eO (ld l v.1 (v.2+x.toNat) 1 1) λv=>eC v λv c=>eN c (eS 6 v λv v c=>br ((v:Int)==0) (Ax l) (Al (Af lo 117 [DQ n m k,Iv (Ap (x+1))] l) λv c=>eB v (Ax c) (eO (ld c n m (k+0) 1) λv=>eC v λv a=>eN a (eS 2 v λv a o=>As x a (eO v λv=>eO (ld c v.1 (v.2+x.toNat) 1 1) λv=>eC v λv a=>eN a (eS 6 v λv a o=>As 0 a (eO v λv=>eO (ld c v.1 (v.2+0) 0 6) λv=>eC v λv a=>eI .i64 v λv=>eC a λa o=>eI .i64 a λa=>eC o λo s=>eI .i64 o λo=>eC s λs b=>eS 2 s λs y z=>eC b λb u=>eT b λb=>eC u λu w=>eBv u λu=>eN w (eO (ld c n m (k+0) 1) λw=>eC w λw p=>eN p (eS 2 w λw p q=>eO (ld c n m (k+0) 1) λq=>eC q λq g=>eN g (eS 2 q λq g i=>Bf (HG (ld c n m (k+0) 1) (ld c n m (k+0) 1)) (As x g (eO q λq=>eO (ld c q.1 (q.2+x.toNat) 1 1) λq=>eC q λq g=>eN g (eS 6 q λq g i=>Bf (HG (ld c n m (k+0) 1) (ld c n m (k+0) 1)) (Al (Af lo 298 [.sl 6 q g i,Iv 0,Iv 1] c) λq g=>eS 6 q λq i j=>Bf (HG (ld c n m (k+0) 1) (ld g n m (k+0) 1)) (Al (Af lo 205 (Bm q i j) g) λc q=>eS 6 c λc i j=>Bf (HG (ld g n m (k+0) 1) (ld q n m (k+0) 1)) (As x p (eO w λw=>eO (st lo q w.1 (w.2+x.toNat) 1 (Bm c i j)) λc=>Al (Af lo 204 [DQ n m k,Iv (Ap (x+1)),AA v a o s y z b u] c) λv c=>eU v λv=>eN v (BI c))))))))))))))))))))) (Ax l)))=some r) :
  Af lo 278 [DQ n m k,Iv x] h=some r :=
 eK Tryz.func278 hk
def Bz lo n m k x i j g a G c y z h:=
 LA 279 Tryz.f279 22131111111 0 11111111 lo ⟨[(0,(DQ n m k)),(1,Iv x),(5,(DQ i j g)),(59,.sl 6 a G c),(60,Iv y),(61,Iv z)],[],h⟩
theorem PE (hk:(eO (ld h n m (k+0) 1) λv=>eC v λv l=>eN l (eS 2 v λv v l=>Al (Af lo 63 (BQ x 0 (Ap ((v:Int) - 1))) h) λv l=>eB v (eO (ld l n m (k+0) 1) λv=>eC v λv c=>eN c (eS 2 v λv v c=>br ((v:Int)==1) (Ax l) (eO (ld l n m (k+0) 1) λv=>eC v λv c=>eN c (eS 2 v λv c a=>Al (Af lo 299 [.sl 2 v c a,Iv x,Iv (Ap (x+1))] l) λv c=>eS 2 v λv a o=>Al (Af lo 280 (Bk v a o) c) λv c=>eS 2 v λv a o=>eO (st lo c n m (k+0) (Bk v a o)) λv=>br (x==0) (BI v) (eO (ld v n m (k+0) 1) λc=>eC c λc a=>eN a (eS 2 c λc a o=>As (Ap (x - 1)) a (eO c λc=>eO (st lo v c.1 (c.2+((Ap (x - (1:Int))).toNat)) 1 [.sl 0 none 0 (some 0)]) λv=>eO (ld v n m k 1) λa=>eC a λa o=>eS 2 a λa s b=>eN o (Al (Af lo 135 [Ao a s b,Iv (Ap (x - 1))] v) λv a=>eB v (BI a) (eO (ld a c.1 (c.2+((Ap (x - (1:Int))).toNat)) 0 1) λv=>eC v λv o=>eN o (eS 6 v λv o s=>Bz lo n m k x c.1 (c.2+((Ap (x - (1:Int))).toNat)) 0 v o s (o:Int) 0 a)))))))))) (Ax l)))=some r) :
  Af lo 279 [DQ n m k,Iv x] h=some r :=
 eK Tryz.func279 hk
theorem Bz.e {lo i j g n m k G:Nat}{y z x:Int}{a:Pq}{c:Nq}{h:Heap} :
  Bz lo i j g y n m k a G c z x h=br (decide (x<z)) (As x G (eO a λv=>eO (ld h v.1 (v.2+x.toNat) 0 6) λv=>eC v λv l=>eI .i64 v λv=>eC l λl o=>eI .i64 l λl=>eC o λo s=>eI .i64 o λo=>eC s λs b=>eS 2 s λs u w=>eC b λb p=>eT b λb=>eC p λp q=>eBv p λp=>eN q (eO (ld h i j (g+0) 1) λq=>eC q λq t=>eN t (eS 2 q λq t d=>As y t (eO q λq=>eO (ld h q.1 (q.2+y.toNat) 0 1) λq=>eC q λq t=>eN t (eS 6 q λq t d=>As v t (eO q λq=>eO (ld h q.1 (q.2+v.toNat) 1 2) λq=>eC q λq t=>eI .i64 q λq=>eC t λt d=>eI .i64 t λt=>eN d (Al (Af lo 15 [At q t,At l o] h) λq t=>eB q (eO (ld t n m (k+1) 1) λq=>eC q λq d=>eN d (eS 6 q λq d e=>Al (Af t.length 154 [AA v l o s u w b p] t) λv l=>eA v λv=>eC v λv o=>eI .i64 v λv=>eC o λo s=>eI .i64 o λo=>eC s λs b=>eI .i64 s λs=>eC b λb u=>eS 2 b λb w p=>eC u λu f=>eT u λu=>eC f λf A=>eBv f λf=>eN A (Aw 6 (l ++ [.rows 6 43 false [DC v o s b w p u f]]) (.sl 6 (some (l.length,0)) 1 (some 1)) λA=>DJ lo 43 6 72 (.sl 6 q d e) A (l ++ [.rows 6 43 false [DC v o s b w p u f]]) λv l=>eS 6 v λv o s=>eO (st lo l n m (k+1) (Bm v o s)) λv=>Bz lo i j g y n m k a G c z (Ap (x+1)) v))) (Bz lo i j g y n m k a G c z (Ap (x+1)) t))))))))) (eO (ld h n m (k+1) 1) λv=>eC v λv l=>eN l (eS 6 v λv l o=>Al (Af lo 300 [.sl 6 v l o,.fn 301 []] h) λv l=>eU v λv=>eN v (eO (ld l n m (k+1) 1) λv=>eC v λv o=>eN o (eS 6 v λv o s=>Al (Af lo 205 (Bm v o s) l) λv l=>eS 6 v λv o s=>eO (st lo l n m (k+1) (Bm v o s)) λv=>some (.bool true,v))))) :=
 lE
theorem HQ (hk:(Az a n c none (some (Iv (n:Int))) (some (Iv (n:Int))) λv l o=>some (.sl 2 v l o,h))=some r) :
  Af lo 280 (Bk a n c) h=some r :=
 eK Tryz.func280 hk
def AH lo a n c m l x y z h:=
 LA 281 Tryz.f281 22131 0 11 lo ⟨[(0,.sl 5 a n c),(1,.fn m l),(4,Iv x),(7,Iv y),(8,Iv z)],[],h⟩
theorem GB (hk:(AH h.length a n c m l 0 (n:Int) 0 h)=some (v,h')) (hn:noId v=true:=by rfl) :
  Af lo 281 [.sl 5 a n c,.fn m l] h=some (v,h) :=
 eD Tryz.func281 hk hn
theorem AH.e :
  AH lo a n c m l z y x h=br (decide (x<y)) (As x n (eO a λv=>eO (ld h v.1 (v.2+x.toNat) 0 5) λv=>eC v λv o=>eI .i64 v λv=>eC o λo s=>eI .i64 o λo=>eC s λs b=>eI .i64 s λs=>eC b λb u=>eI .i64 b λb=>eC u λu w=>eI .i64 u λu=>eN w (Al (Af lo m (Dl [Mx v o s b u] l) h) λv o=>eB v (some (Iv x,o)) (AH lo a n c m l z y (Ap (x+1)) o)))) (some (Iv (-1),h)) :=
 lE
def Dy lo a n c b m p f x h:=
 LA 282 Tryz.f282 221311 0 111 lo ⟨[(0,.sl 2 a n c),(1,.sl 2 b m p),(4,.bool f),(5,Iv x)],[],h⟩
theorem Uc (hk:(br ((n:Int)==(m:Int)) (Dy h.length a n c b m p false 0 h) (Ax h))=some (v,h')) (hn:noId v=true:=by rfl) :
  Af lo 282 [.sl 2 a n c,.sl 2 b m p] h=some (v,h) :=
 eD Tryz.func282 hk hn
theorem Dy.e :
  Dy lo a n c b m p f x h=br (decide (x<(n:Int))) (As x n (eO a λv=>eO (ld h v.1 (v.2+x.toNat) 0 2) λv=>eC v λv l=>eS 6 v λv o s=>eC l λl y=>eS 6 l λl z u=>eN y (As x m (eO b λy=>eO (ld h y.1 (y.2+x.toNat) 0 2) λy=>eC y λy w=>eS 6 y λy q g=>eC w λw i=>eS 6 w λw j k=>eN i (Al (Af lo 302 [IA v o s l z u,IA y q g w j k] h) λv l=>eB v (Dy lo a n c b m p f (Ap (x+1)) l) (Ax l)))))) (BI h) :=
 lE
def Eb lo a n c b m p f x h:=
 LA 283 Tryz.f283 221311 0 111 lo ⟨[(0,.sl 2 a n c),(1,.sl 2 b m p),(4,.bool f),(5,Iv x)],[],h⟩
theorem Vk (hk:(br ((n:Int)==(m:Int)) (Eb h.length a n c b m p false 0 h) (Ax h))=some (v,h')) (hn:noId v=true:=by rfl) :
  Af lo 283 [.sl 2 a n c,.sl 2 b m p] h=some (v,h) :=
 eD Tryz.func283 hk hn
theorem Eb.e :
  Eb lo a n c b m p f x h=br (decide (x<(n:Int))) (As x n (eO a λv=>eO (ld h v.1 (v.2+x.toNat) 0 2) λv=>eC v λv l=>eI .i64 v λv=>eC l λl o=>eI .i64 l λl=>eN o (As x m (eO b λo=>eO (ld h o.1 (o.2+x.toNat) 0 2) λo=>eC o λo s=>eI .i64 o λo=>eC s λs y=>eI .i64 s λs=>eN y (Al (Af lo 241 [At v l,At o s] h) λv l=>eB v (Eb lo a n c b m p f (Ap (x+1)) l) (Ax l)))))) (BI h) :=
 lE
def Dv lo a n c x y z h:=
 LA 284 Tryz.f284 2213111 0 1111 lo ⟨[(0,.sl 2 a n c),(1,Iv x),(4,Iv y),(5,Iv z)],[],h⟩
theorem T2 (hk:(br (decide (Ap (x - (n:Int))<0)) (some (Iv (-1),h)) (Dv h.length a n c (Ap (x - (n:Int))) 0 0 h))=some (v,h')) (hn:noId v=true:=by rfl) :
  Af lo 284 [.sl 2 a n c,Iv x] h=some (v,h) :=
 eD Tryz.func284 hk hn
theorem Dv.e :
  Dv lo a n c y z x h=br (decide (x<(n:Int))) (As x n (eO a λv=>eO (ld h v.1 (v.2+x.toNat) 0 2) λv=>eC v λv l=>eS 6 v λv o s=>eC l λl b=>eS 6 l λl u w=>eN b (Al (Af lo 303 [IA v o s l u w,Iv y] h) λv l=>eI .i64 v λv=>br (decide (v<0)) (some (Iv (-1),l)) (Dv lo a n c v z (Ap (x+1)) l)))) (some (Iv y,h)) :=
 lE
theorem Ve (hk:(br (decide (Ap (x - (n:Int))<0)) (some (Iv (-1),h)) (some (Iv (Ap (x - (n:Int))),h)))=some (v,h')) (hn:noId v=true:=by rfl) :
  Af lo 285 [.sl 2 a n c,Iv x] h=some (v,h) :=
 eD Tryz.func285 hk hn
theorem XQ (hk:(Pd ⟨⟨[61]⟩⟩ S λl=>br f (Al (Af h.length 304 (AR x) h) λo s=>eT o λo=>Pd o ⟨⟨[32]⟩⟩ λo=>Al (Af h.length 305 [At y z] s) λs b=>eT s λs=>Pd o s λo=>Al (Af h.length 306 [Ao a n c] b) λs b=>eT s λs=>Pd o s λo=>Pd o ⟨⟨[32]⟩⟩ λo=>Pd o ⟨⟨[45]⟩⟩ λo=>some (.str o,b)) (Al (Af h.length 304 (AR x) h) λo s=>eT o λo=>Pd o ⟨⟨[32]⟩⟩ λo=>Al (Af h.length 305 [At y z] s) λs b=>eT s λs=>Pd o s λo=>Al (Af h.length 306 [Ao a n c] b) λs b=>eT s λs=>Pd o s λo=>Pd o ⟨⟨[32]⟩⟩ λo=>Pd o l λl=>some (.str l,b)))=some (v,h')) (hn:noId v=true:=by rfl) :
  Af lo 286 [AA x y z a n c S f] h=some (v,h) :=
 by cases f<;>exact eD Tryz.func286 hk hn
theorem UL {e:Pq} (hk:(Aw 5 (h ++ [.rows 5 126 false [We x y z t w]]) (.sl 5 (some (h.length,0)) 1 (some 1)) λv=>DJ lo 126 5 40 (.sl 5 e i s) v (h ++ [.rows 5 126 false [We x y z t w]]) λv l=>eS 5 v λv o q=>some ((An a n c b m p d k u v o q),l))=some r) :
  Af lo 287 [An a n c b m p d k u e i s,Iv x,Iv y,Iv z,At t w] h=some r :=
 eK Tryz.func287 hk
theorem TG (hk:(br (y==0) (br (decide ((n:Int)>1)) (As 1 n (eO a λv=>eO (ld h v.1 (v.2+1) 0 1) λv=>eC v λv l=>eN l (eS 6 v λv l o=>As x l (eO v λv=>eO (ld h v.1 (v.2+x.toNat) 0 6) λv=>eC v λv l=>eI .i64 v λv=>eC l λl o=>eI .i64 l λl=>eC o λo s=>eI .i64 o λo=>eC s λs b=>eS 2 s λs z u=>eC b λb w=>eT b λb=>eC w λw p=>eBv w λw=>eN p (Al (Af lo 187 [AA v l o s z u b w] h) λv l=>eA v λv=>eC v λv o=>eI .i64 v λv=>eC o λo s=>eI .i64 o λo=>eC s λs b=>eI .i64 s λs=>eC b λb z=>eS 2 b λb u w=>eC z λz p=>eT z λz=>eC p λp q=>eBv p λp=>eN q (some ((AA v o s b u w z p),l))))))) (As y n (eO a λv=>eO (ld h v.1 (v.2+y.toNat) 0 1) λv=>eC v λv l=>eN l (eS 6 v λv l o=>As x l (eO v λv=>eO (ld h v.1 (v.2+x.toNat) 0 6) λv=>eC v λv l=>eI .i64 v λv=>eC l λl o=>eI .i64 l λl=>eC o λo s=>eI .i64 o λo=>eC s λs b=>eS 2 s λs z u=>eC b λb w=>eT b λb=>eC w λw p=>eBv w λw=>eN p (Al (Af lo 187 [AA v l o s z u b w] h) λv l=>eA v λv=>eC v λv o=>eI .i64 v λv=>eC o λo s=>eI .i64 o λo=>eC s λs b=>eI .i64 s λs=>eC b λb z=>eS 2 b λb u w=>eC z λz p=>eT z λz=>eC p λp q=>eBv p λp=>eN q (some ((AA v o s b u w z p),l)))))))) (As y n (eO a λv=>eO (ld h v.1 (v.2+y.toNat) 0 1) λv=>eC v λv l=>eN l (eS 6 v λv l o=>As x l (eO v λv=>eO (ld h v.1 (v.2+x.toNat) 0 6) λv=>eC v λv l=>eI .i64 v λv=>eC l λl o=>eI .i64 l λl=>eC o λo s=>eI .i64 o λo=>eC s λs b=>eS 2 s λs z u=>eC b λb w=>eT b λb=>eC w λw p=>eBv w λw=>eN p (Al (Af lo 187 [AA v l o s z u b w] h) λv l=>eA v λv=>eC v λv o=>eI .i64 v λv=>eC o λo s=>eI .i64 o λo=>eC s λs b=>eI .i64 s λs=>eC b λb z=>eS 2 b λb u w=>eC z λz p=>eT z λz=>eC p λp q=>eBv p λp=>eN q (some ((AA v o s b u w z p),l))))))))=some r) :
  Af lo 288 [Ao a n c,Iv y,Iv x] h=some r :=
 eK Tryz.func288 hk
theorem U4 (hk:(Aw 2 (h ++ [.rows 2 36 false []]) (.sl 2 a n c) λv=>DJ lo 36 2 16 (.sl 2 (some (h.length,0)) 0 (some 0)) v (h ++ [.rows 2 36 false []]) λv l=>eS 2 v λv o s=>As x o (eO v λb=>eO (ld l b.1 (b.2+x.toNat) 0 2) λb=>eC b λb u=>eI .i64 b λb=>eC u λu w=>eI .i64 u λu=>eN w (Al (Af lo 307 [At b u,At y z] l) λl b=>eA l λl=>eC l λl u=>eI .i64 l λl=>eC u λu w=>eI .i64 u λu=>eN w (As x o (eO v λw=>eO (st lo b w.1 (w.2+x.toNat) 0 (Cq l u)) λl=>some ((Ao v o s),l))))))=some r) :
  Af lo 289 [Ao a n c,Iv x,At y z] h=some r :=
 eK Tryz.func289 hk
def D6 lo x a n c b m p k d i u j e g s h:=
 LA 290 Tryz.f290 221311 0 111 lo ⟨[(2,.lp 2 0),(3,.lp 3 0),(4,.lp 4 0),(5,.lp 5 0),(6,Iv x)],[(2,(Bk a n c)),(3,(Bk b m p)),(4,[.sl k d i u]),(5,[.sl j e g s])],h⟩
theorem U6 (hk:(D6 lo 0 a n c b m p 0 none 0 (some 0) 0 none 0 (some 0) h)=some r) :
  Af lo 290 [Ao a n c,Ao b m p] h=some r :=
 eK Tryz.func290 hk
theorem D6.e {A:Pq} :
  D6 lo x a n p b m u j A g s k d i c h=br (decide (x<4)) (As x n (eO a λv=>eO (ld h v.1 (v.2+x.toNat) 0 2) λv=>eC v λv l=>eI .i64 v λv=>eC l λl o=>eI .i64 l λl=>eN o (As x m (eO b λo=>eO (ld h o.1 (o.2+x.toNat) 0 2) λo=>eC o λo y=>eI .i64 o λo=>eC y λy z=>eI .i64 y λy=>eN z (Al (Af lo 307 [At v l,At o y] h) λv l=>eA v λv=>eC v λv o=>eI .i64 v λv=>eC o λo y=>eI .i64 o λo=>eN y (Aw 2 (l ++ [.rows 2 36 false [Cq v o]]) (.sl 2 (some (l.length,0)) 1 (some 1)) λy=>DJ lo 36 2 16 (.sl k d i c) y (l ++ [.rows 2 36 false [Cq v o]]) λv l=>eS 2 v λv o y=>D6 lo (Ap (x+1)) a n p b m u j A g s 2 v o y l)))))) (some (.agg [.sl k d i c],h)) :=
 lE
def Cf lo a n c x b m p d k u h:=
 LA 291 Tryz.f291 221311 0 111 lo ⟨[(2,.lp 2 0),(3,.lp 3 0),(5,.sl 6 a n c),(6,Iv x)],[(2,(Bm b m p)),(3,(Bm d k u))],h⟩
def D1 lo a n c x y b m p d k u h:=
 Lp (X 291) lo (pf 22311231221311 Tryz.f291) 2 (Ba 2 (kS (X 291) lo (pf 111231221311 Tryz.f291) 1 (Ba 1 (kS (X 291) lo (pf 11221311 Tryz.f291) 0 (ZB (X 291) lo (pf 221311 Tryz.f291) 0 (Ba 0 (kS (X 291) lo (pf 111 Tryz.f291) 0 (K8 (X 291) Tryz.f291.results.toList)))))))) ⟨[(2,.lp 2 0),(3,.lp 3 0),(5,.sl 6 a n c),(6,Iv x),(7,Iv y)],[(2,(Bm b m p)),(3,(Bm d k u))],h⟩
theorem UW (hk:(Cf lo (some (h.length,0)) 0 (some 0) 0 a n c b m p (h ++ [.rows 6 43 false []]))=some r) :
  Af lo 291 [Bh a n c,Bh b m p] h=some r :=
 eK Tryz.func291 hk
theorem Cf.e :
  Cf lo a n c x b m p d k u h=br (decide (x<4)) (As x k (eO d λv=>eO (ld h v.1 (v.2+x.toNat) 1 2) λv=>eC v λv l=>eI .i64 v λv=>eC l λl o=>eI .i64 l λl=>eN o (As x m (eO b λo=>eO (ld h o.1 (o.2+x.toNat) 1 2) λo=>eC o λo s=>eI .i64 o λo=>eC s λs y=>eI .i64 s λs=>eN y (Al (Af lo 197 [At v l,At o s] h) λv l=>eB v (D1 lo a n c x 0 b m p d k u l) (Cf lo a n c (Ap (x+1)) b m p d k u l)))))) (some (.sl 6 a n c,h)) :=
 lE
theorem D1.e {lo n m k:Nat}{a b d:Pq}{c p u:Nq}{x y:Int}{h:Heap} :
  D1 lo a n c x y b m p d k u h=br (decide (y<(n:Int))) (As y n (eO a λv=>eO (ld h v.1 (v.2+y.toNat) 1 2) λv=>eC v λv l=>eI .i64 v λv=>eC l λl o=>eI .i64 l λl=>eN o (As x m (eO b λo=>eO (ld h o.1 (o.2+x.toNat) 1 2) λo=>eC o λo s=>eI .i64 o λo=>eC s λs z=>eI .i64 s λs=>eN z (Al (Af lo 197 [At v l,At o s] h) λv l=>eB v (D1 lo a n c x (Ap (y+1)) b m p d k u l) (Az a n c none (some (Iv y)) none λv o s=>Aw 6 (l ++ [.rows 6 43 false []]) (.sl 6 v o s) λv=>DJ lo 43 6 72 (.sl 6 (some (l.length,0)) 0 (some 0)) v (l ++ [.rows 6 43 false []]) λv l=>eS 6 v λv o s=>As x m (eO b λz=>eO (ld l z.1 (z.2+x.toNat) 0 6) λz=>eC z λz w=>eI .i64 z λz=>eC w λw q=>eI .i64 w λw=>eC q λq g=>eI .i64 q λq=>eC g λg i=>eS 2 g λg j t=>eC i λi e=>eT i λi=>eC e λe f=>eBv e λe=>eN f (Al (Af lo 187 [AA z w q g j t i e] l) λl z=>eA l λl=>eC l λl w=>eI .i64 l λl=>eC w λw q=>eI .i64 w λw=>eC q λq g=>eI .i64 q λq=>eC g λg i=>eS 2 g λg j t=>eC i λi e=>eT i λi=>eC e λe f=>eBv e λe=>eN f (Aw 6 (z ++ [.rows 6 43 false [DC l w q g j t i e]]) (.sl 6 (some (z.length,0)) 1 (some 1)) λf=>DJ lo 43 6 72 (.sl 6 v o s) f (z ++ [.rows 6 43 false [DC l w q g j t i e]]) λv l=>eS 6 v λv o s=>Az a n c (some (Iv y)) none none λz w q=>Aw 6 l (.sl 6 z w q) λz=>DJ lo 43 6 72 (.sl 6 v o s) z l λv l=>eS 6 v λv o s=>Cf lo v o s (Ap (x+1)) b m p d k u l))))))))) (Az a n c none (some (Iv y)) none λv l o=>Aw 6 (h ++ [.rows 6 43 false []]) (.sl 6 v l o) λv=>DJ lo 43 6 72 (.sl 6 (some (h.length,0)) 0 (some 0)) v (h ++ [.rows 6 43 false []]) λv l=>eS 6 v λv o s=>As x m (eO b λz=>eO (ld l z.1 (z.2+x.toNat) 0 6) λz=>eC z λz w=>eI .i64 z λz=>eC w λw q=>eI .i64 w λw=>eC q λq g=>eI .i64 q λq=>eC g λg i=>eS 2 g λg j t=>eC i λi e=>eT i λi=>eC e λe f=>eBv e λe=>eN f (Al (Af lo 187 [AA z w q g j t i e] l) λl z=>eA l λl=>eC l λl w=>eI .i64 l λl=>eC w λw q=>eI .i64 w λw=>eC q λq g=>eI .i64 q λq=>eC g λg i=>eS 2 g λg j t=>eC i λi e=>eT i λi=>eC e λe f=>eBv e λe=>eN f (Aw 6 (z ++ [.rows 6 43 false [DC l w q g j t i e]]) (.sl 6 (some (z.length,0)) 1 (some 1)) λf=>DJ lo 43 6 72 (.sl 6 v o s) f (z ++ [.rows 6 43 false [DC l w q g j t i e]]) λv l=>eS 6 v λv o s=>Az a n c (some (Iv y)) none none λz w q=>Aw 6 l (.sl 6 z w q) λz=>DJ lo 43 6 72 (.sl 6 v o s) z l λv l=>eS 6 v λv o s=>Cf lo v o s (Ap (x+1)) b m p d k u l)))) :=
 lE
def Do lo x y z t w a n c b m p d k u f e i s h:=
 LA 292 Tryz.f292 221311 0 111 lo ⟨[(1,Iv x),(2,.lp 2 0),(4,Iv y),(5,.lp 5 0),(6,Iv z)],[(2,(DO t w a n c b m p d k u f)),(5,(Bm e i s))],h⟩
theorem TF (hk:(As 0 n (eO a λl=>eO (ld h l.1 (l.2+0) 0 1) λl=>eC l λl o=>eS 6 l λl s w=>eN o (Do h.length z 0 0 x y a n c b m p d k u f l s w h)))=some (v,h')) (hn:noId v=true:=by rfl) :
  Af lo 292 [Bs x y a n c b m p d k u f,Iv z] h=some (v,h) :=
 eD Tryz.func292 hk hn
theorem Do.e {A:Pq} :
  Do lo x z y t w d k c A i p a n u f b m s h=As x n (eO a λv=>eO (ld h v.1 (v.2+x.toNat) 0 1) λv=>eC v λv l=>eN l (eS 6 v λv v l=>br (decide (y<(v:Int))) (As x n (eO a λv=>eO (ld h v.1 (v.2+x.toNat) 0 1) λv=>eC v λv l=>eN l (eS 6 v λv l o=>As y l (eO v λv=>eO (ld h v.1 (v.2+y.toNat) 0 6) λv=>eC v λv l=>eI .i64 v λv=>eC l λl o=>eI .i64 l λl=>eC o λo q=>eI .i64 o λo=>eC q λq g=>eS 2 q λq q q=>eC g λq g=>eT q λq=>eC g λq g=>eBv q λq=>eN g (As v m (eO b λq=>eO (ld h q.1 (q.2+v.toNat) 1 2) λv=>eC v λv q=>eI .i64 v λv=>eC q λq g=>eI .i64 q λq=>eN g (Al (Af lo 197 [At v q,At l o] h) λv l=>eB v (some (Iv y,l)) (Do lo x z (Ap (y+1)) t w d k c A i p a n u f b m s l)))))))) (some (Iv (-1),h)))) :=
 lE
def Dr lo a n c b m p x h:=
 LA 293 Tryz.f293 221311 0 111 lo ⟨[(0,.sl 2 a n c),(3,.sl 2 b m p),(4,Iv x)],[],h⟩
theorem TQ (hk:(Bf (decide ((0:Int)<=(n:Int)/\(n:Int)<=(n:Int)/\(n:Int)<=140737488355328/\(n:Int)*((48:Nat):Int)<=281474976710656)) (Dr lo a n c (some (h.length,0)) n (some n) 0 (h ++ [.rows 2 47 false (List.replicate n [.sl 0 none 0 (some 0),.sl 0 none 0 (some 0)])])))=some r) :
  Af lo 293 (Bk a n c) h=some r :=
 eK Tryz.func293 hk
theorem Dr.e :
  Dr lo b n p a m c x h=br (decide (x<(n:Int))) (As x n (eO b λv=>eO (ld h v.1 (v.2+x.toNat) 0 2) λv=>eC v λv l=>eS 6 v λv o s=>eC l λl y=>eS 6 l λl z u=>eN y (Al (Af lo 308 [IA v o s l z u] h) λv l=>eA v λv=>eC v λv o=>eS 6 v λv s y=>eC o λo z=>eS 6 o λo u w=>eN z (As x m (eO a λz=>eO (st lo l z.1 (z.2+x.toNat) 0 (Jq v s y o u w)) λv=>Dr lo b n p a m c (Ap (x+1)) v))))) (some (.sl 2 a m c,h)) :=
 lE
def D8 lo a n c b m p x h:=
 LA 294 Tryz.f294 221311 0 111 lo ⟨[(0,.sl 2 a n c),(3,.sl 2 b m p),(4,Iv x)],[],h⟩
theorem U8 (hk:(Bf (decide ((0:Int)<=(n:Int)/\(n:Int)<=(n:Int)/\(n:Int)<=140737488355328/\(n:Int)*((16:Nat):Int)<=281474976710656)) (D8 lo a n c (some (h.length,0)) n (some n) 0 (h ++ [.rows 2 36 false (List.replicate n (Cq 0 0))])))=some r) :
  Af lo 294 (Bk a n c) h=some r :=
 eK Tryz.func294 hk
theorem D8.e :
  D8 lo b n p a m c x h=br (decide (x<(n:Int))) (As x n (eO b λv=>eO (ld h v.1 (v.2+x.toNat) 0 2) λv=>eC v λv l=>eI .i64 v λv=>eC l λl o=>eI .i64 l λl=>eN o (Al (Af lo 265 [At v l] h) λv l=>eA v λv=>eC v λv o=>eI .i64 v λv=>eC o λo s=>eI .i64 o λo=>eN s (As x m (eO a λs=>eO (st lo l s.1 (s.2+x.toNat) 0 (Cq v o)) λv=>D8 lo b n p a m c (Ap (x+1)) v))))) (some (.sl 2 a m c,h)) :=
 lE
def In lo n m k x i a j c b g p h:=
 LA 295 Tryz.f295 221311 0 111 lo ⟨[(0,(DQ n m k)),(2,.lp 2 0),(3,.lp 3 0),(4,Iv x)],[(2,[.sl i a j c]),(3,(Bm b g p))],h⟩
theorem In.e :
  In lo n m k x j b g p a i c h=br (decide (x>0)) (Al (Af lo 195 [DQ n m k] h) λv l=>eA v λv=>eC v λv o=>eI .i64 v λv=>eC o λo s=>eI .i64 o λo=>eC s λs y=>eI .i64 s λs=>eC y λy z=>eS 2 y λy u w=>eC z λz q=>eT z λz=>eC q λq t=>eBv q λq=>eN t (Al (Af lo 198 [Bh a i c,AA v o s y u w z q] l) λv l=>eA v λv=>eC v λv o=>eS 6 v λv s y=>eN o (In lo n m k (Ap (x - 1)) j b g p v s y l))) (some ((Bh a i c),h)) :=
 lE
theorem Vt (hk:(Al (Af h.length 15 [At x y,At z t] h) λl c=>eB l (some ((At z t),c)) (some ((At x y),c)))=some (v,h')) (hn:noId v=true:=by rfl) :
  Af lo 297 [At x y,At z t] h=some (v,h) :=
 eD Tryz.func297 hk hn
theorem HO (hk:(Az a (FP h a n c) c (some (Iv x)) (some (Iv y)) (some (Iv (n:Int))) λv v v=>br (x==y) (some (.sl 6 a n c,h)) (Az a n c none (some (Iv x)) none λv l o=>Az a n c (some (Iv y)) none none λs b z=>Aw 6 h (.sl 6 s b z) λs=>DJ lo 43 6 72 (.sl 6 v l o) s h λv l=>eS 6 v λv o s=>Az v (FP l v o s) s (some (Iv (o:Int))) (some (Iv (n:Int))) none λb z u=>zck lo 6 6 true [Iv 0,Iv 0,Iv 0,.sl 0 none 0 (some 0),.str ⟨⟨[]⟩⟩,.bool false] l b z λl=>some (.sl 6 v o s,l)))=some r) :
  Af lo 298 [.sl 6 a n c,Iv x,Iv y] h=some r :=
 eK Tryz.func298 hk
theorem Hb (hk:(Az a (FP h a n c) c (some (Iv x)) (some (Iv y)) (some (Iv (n:Int))) λv v v=>br (x==y) (some (.sl 2 a n c,h)) (Az a n c none (some (Iv x)) none λv l o=>Az a n c (some (Iv y)) none none λs b z=>Aw 2 h (.sl 2 s b z) λs=>DJ lo 47 2 48 (.sl 2 v l o) s h λv l=>eS 2 v λv o s=>Az v (FP l v o s) s (some (Iv (o:Int))) (some (Iv (n:Int))) none λb z u=>zck lo 2 2 true [.sl 0 none 0 (some 0),.sl 0 none 0 (some 0)] l b z λl=>some (.sl 2 v o s,l)))=some r) :
  Af lo 299 [.sl 2 a n c,Iv x,Iv y] h=some r :=
 eK Tryz.func299 hk
theorem Ha (hk:(Al (Af lo 310 [.int .u64 (IntKind.wrap .u64 (n:Int))] h) λv o=>eI .i64 v λv=>Al (Af lo 309 [.sl 6 a n c,Iv 0,Iv (n:Int),Iv v,.fn m l] o) λv o=>eU v λv=>eN v (some (.tup [],o)))=some r) :
  Af lo 300 [.sl 6 a n c,.fn m l] h=some r :=
 eK Tryz.func300 hk
theorem Nw (hk:(Al (Af h.length 70 [At y z,At w q] h) λl o=>eI .i64 l λl=>Al (Af h.length 141 (Cq t x) o) λo s=>eI .i64 o λo=>Al (Af h.length 140 [.sl 1 (some (s.length,0)) 2 (some 2)] (s ++ [.rows 1 3 false [AR l,AR o]])) λl o=>eI .i64 l λl=>some (Iv l,o))=some (v,h')) (hn:noId v=true:=by rfl) :
  Af lo 301 [AA x y z a n c S f,AA t w q b m p s0 F] h=some (v,h) :=
 eD Tryz.func301 hk hn
theorem Vn {e:Pq} (hk:(Al (Af h.length 311 [Bh a n c,Bh d k u] h) λl o=>eB l (Al (Af h.length 238 (Jq b m p e i s) o) λl x=>eB l (BI x) (Ax x)) (Ax o))=some (v,h')) (hn:noId v=true:=by rfl) :
  Af lo 302 [IA a n c b m p,IA d k u e i s] h=some (v,h) :=
 eD Tryz.func302 hk hn
theorem Vi (hk:(Al (Af h.length 312 [Bh a n c,Iv x] h) λl o=>eI .i64 l λl=>br (decide (l<0)) (some (Iv (-1),o)) (Al (Af h.length 244 [.sl 6 b m p,Iv l] o) λl o=>eI .i64 l λl=>br (decide (l<0)) (some (Iv (-1),o)) (some (Iv l,o))))=some (v,h')) (hn:noId v=true:=by rfl) :
  Af lo 303 [IA a n c b m p,Iv x] h=some (v,h) :=
 eD Tryz.func303 hk hn
theorem Ph (hk:(br (decide (x<(-9223372036854775807:Int))) (some (.str ⟨⟨[45,57,50,50,51,51,55,50,48,51,54,56,53,52,55,55,53,56,48,56]⟩⟩,h)) (br (decide (x<0)) (Al (Af h.length 304 (AR (Ap (0 - x))) h) λl c=>eT l λl=>Pd ⟨⟨[45]⟩⟩ l λl=>some (.str l,c)) (br (decide (x<10)) (Aw 1 (h ++ [.rows 1 5 false [[.int .u8 (IntKind.wrap .u8 (Ap (48+x)))]]]) (.sl 1 (some (h.length,0)) 1 (some 1)) λl=>eO (Gr l) λl=>some (.str (I8 l),(h ++ [.rows 1 5 false [[.int .u8 (IntKind.wrap .u8 (Ap (48+x)))]]]))) (Al (Af h.length 304 (AR (Ap (x.tdiv (10:Int)))) h) λl c=>eT l λl=>Aw 1 (c ++ [.rows 1 5 false [[.int .u8 (IntKind.wrap .u8 (Ap (48+(x.tmod (10:Int)))))]]]) (.sl 1 (some (c.length,0)) 1 (some 1)) λn=>eO (Gr n) λn=>Pd l (I8 n) λl=>some (.str l,(c ++ [.rows 1 5 false [[.int .u8 (IntKind.wrap .u8 (Ap (48+(x.tmod (10:Int)))))]]]))))))=some (v,h')) (hn:noId v=true:=by rfl) :
  Af lo 304 (AR x) h=some (v,h) :=
 eD Tryz.func304 hk hn
theorem XS (hk:(Al (Af h.length 304 (AR x) h) λl c=>eT l λl=>Pd l ⟨⟨[46]⟩⟩ λl=>Al (Af h.length 304 (AR y) c) λc n=>eT c λc=>Pd l c λl=>some (.str l,n))=some (v,h')) (hn:noId v=true:=by rfl) :
  Af lo 305 [At x y] h=some (v,h) :=
 eD Tryz.func305 hk hn
def D5 lo S x a n c h:=
 LA 306 Tryz.f306 221311 0 111 lo ⟨[(1,.lp 1 0),(3,.str S),(4,Iv x)],[(1,(Bk a n c))],h⟩
theorem U2 (hk:(D5 h.length ⟨⟨[]⟩⟩ 0 a n c h)=some (v,h')) (hn:noId v=true:=by rfl) :
  Af lo 306 [Ao a n c] h=some (v,h) :=
 eD Tryz.func306 hk hn
theorem D5.e :
  D5 lo S x a n c h=br (decide (x<(n:Int))) (Pd S ⟨⟨[32]⟩⟩ λv=>As x n (eO a λl=>eO (ld h l.1 (l.2+x.toNat) 0 2) λl=>eC l λl o=>eI .i64 l λl=>eC o λo s=>eI .i64 o λo=>eN s (Al (Af lo 305 [At l o] h) λl o=>eT l λl=>Pd v l λv=>D5 lo v (Ap (x+1)) a n c o))) (some (.str S,h)) :=
 lE
theorem XT (hk:(Al (Af h.length 197 [At x y,At z t] h) λl c=>eB l (some ((At z t),c)) (some ((At x y),c)))=some (v,h')) (hn:noId v=true:=by rfl) :
  Af lo 307 [At x y,At z t] h=some (v,h) :=
 eD Tryz.func307 hk hn
theorem Vb (hk:(Al (Af lo 313 [Bh a n c] h) λv l=>eA v λv=>eC v λv o=>eS 6 v λv s x=>eN o (Al (Af lo 262 (Bm b m p) l) λl o=>eS 6 l λl y z=>some ((IA v s x l y z),o)))=some r) :
  Af lo 308 [IA a n c b m p] h=some r :=
 eK Tryz.func308 hk
end
noncomputable section

variable {lo n m:Nat}{a:Pq}{c:Nq}{x:Int}{l:List V}{h:Heap}{r:V×Heap}{h':Heap}{v:V}
def Br lo a n c x m l h:=
 Lp (X 309) lo (pf 2211 Tryz.f309) 0 (Ba 0 (K8 (X 309) Tryz.f309.results.toList)) ⟨[(0,.sl 6 a n c),(1,Iv 0),(2,Iv 0),(3,Iv x),(4,.fn m l),(10,.bool true),(11,.bool true)],[],h⟩
theorem GT (hk:(Br lo a n c x m l h)=some r) :
  Af lo 309 [.sl 6 a n c,Iv 0,Iv 0,Iv x,.fn m l] h=some r :=
 eK Tryz.func309 hk
theorem Br.e :
  Br lo a n c x m l h=Al (Af lo 314 [.sl 6 a n c,Iv 0,Iv 0,.fn m l] h) λv o=>eU v λv=>eN v (some (.tup [],o)) :=
 lE
def Bq lo a n c x m l h:=
 Lp (X 309) lo (pf 2211 Tryz.f309) 0 (Ba 0 (K8 (X 309) Tryz.f309.results.toList)) ⟨[(0,.sl 6 a n c),(1,Iv 0),(2,Iv 1),(3,Iv x),(4,.fn m l),(10,.bool true),(11,.bool true)],[],h⟩
theorem GS (hk:(Bq lo a n c x m l h)=some r) :
  Af lo 309 [.sl 6 a n c,Iv 0,Iv 1,Iv x,.fn m l] h=some r :=
 eK Tryz.func309 hk
theorem Bq.e :
  Bq lo a n c x m l h=Al (Af lo 314 [.sl 6 a n c,Iv 0,Iv 1,.fn m l] h) λv o=>eU v λv=>eN v (some (.tup [],o)) :=
 lE
def Bp lo a n c x m l h:=
 Lp (X 309) lo (pf 2211 Tryz.f309) 0 (Ba 0 (K8 (X 309) Tryz.f309.results.toList)) ⟨[(0,.sl 6 a n c),(1,Iv 0),(2,Iv 2),(3,Iv x),(4,.fn m l),(10,.bool true),(11,.bool true)],[],h⟩
theorem GR (hk:(Bp lo a n c x m l h)=some r) :
  Af lo 309 [.sl 6 a n c,Iv 0,Iv 2,Iv x,.fn m l] h=some r :=
 eK Tryz.func309 hk
theorem Bp.e :
  Bp lo a n c x m l h=Al (Af lo 314 [.sl 6 a n c,Iv 0,Iv 2,.fn m l] h) λv o=>eU v λv=>eN v (some (.tup [],o)) :=
 lE
def Bo lo a n c x m l h:=
 Lp (X 309) lo (pf 2211 Tryz.f309) 0 (Ba 0 (K8 (X 309) Tryz.f309.results.toList)) ⟨[(0,.sl 6 a n c),(1,Iv 0),(2,Iv 3),(3,Iv x),(4,.fn m l),(10,.bool true),(11,.bool true)],[],h⟩
theorem GQ (hk:(Bo lo a n c x m l h)=some r) :
  Af lo 309 [.sl 6 a n c,Iv 0,Iv 3,Iv x,.fn m l] h=some r :=
 eK Tryz.func309 hk
theorem Bo.e :
  Bo lo a n c x m l h=Al (Af lo 314 [.sl 6 a n c,Iv 0,Iv 3,.fn m l] h) λv o=>eU v λv=>eN v (some (.tup [],o)) :=
 lE
def Bn lo a n c x m l h:=
 Lp (X 309) lo (pf 2211 Tryz.f309) 0 (Ba 0 (K8 (X 309) Tryz.f309.results.toList)) ⟨[(0,.sl 6 a n c),(1,Iv 0),(2,Iv 4),(3,Iv x),(4,.fn m l),(10,.bool true),(11,.bool true)],[],h⟩
theorem GP (hk:(Bn lo a n c x m l h)=some r) :
  Af lo 309 [.sl 6 a n c,Iv 0,Iv 4,Iv x,.fn m l] h=some r :=
 eK Tryz.func309 hk
theorem Bn.e :
  Bn lo a n c x m l h=Al (Af lo 314 [.sl 6 a n c,Iv 0,Iv 4,.fn m l] h) λv o=>eU v λv=>eN v (some (.tup [],o)) :=
 lE
theorem RF (hk:(Al (Af h.length 323 [.int .u64 x] h) λl c=>eI .i64 l λl=>some (Iv l,c))=some (v,h')) (hn:noId v=true:=by rfl) :
  Af lo 310 [.int .u64 x] h=some (v,h) :=
 eD Tryz.func310 hk hn
theorem T9 {b:Pq}{p:Nq} (hk:(Al (Af h.length 238 (Jq a n c b m p) h) λl o=>eB l (BI o) (Ax o))=some (v,h')) (hn:noId v=true:=by rfl) :
  Af lo 311 [Bh a n c,Bh b m p] h=some (v,h) :=
 eD Tryz.func311 hk hn
theorem TY (hk:(Al (Af h.length 244 [.sl 6 a n c,Iv x] h) λl o=>eI .i64 l λl=>br (decide (l<0)) (some (Iv (-1),o)) (some (Iv l,o)))=some (v,h')) (hn:noId v=true:=by rfl) :
  Af lo 312 [Bh a n c,Iv x] h=some (v,h) :=
 eD Tryz.func312 hk hn
theorem TM (hk:(Al (Af lo 262 (Bm a n c) h) λv l=>eS 6 v λv o s=>some ((Bh v o s),l))=some r) :
  Af lo 313 [Bh a n c] h=some r :=
 eK Tryz.func313 hk
def Au lo a n c x y m l z h:=
 Lp (X 314) lo (pf 221 Tryz.f314) 0 (Ba 0 (K8 (X 314) Tryz.f314.results.toList)) ⟨[(0,.sl 6 a n c),(1,Iv x),(2,Iv y),(3,.fn m l),(8,Iv z)],[],h⟩
def AE lo a n c x y m l z t h:=
 Lp (X 314) lo (pf 221231221 Tryz.f314) 2 (Ba 2 (Ba 1 (kS (X 314) lo (pf 11221 Tryz.f314) 0 (ZB (X 314) lo (pf 221 Tryz.f314) 0 (Ba 0 (K8 (X 314) Tryz.f314.results.toList)))))) ⟨[(0,.sl 6 a n c),(1,Iv x),(2,Iv y),(3,.fn m l),(8,Iv z),(9,Iv t)],[],h⟩
theorem Gy {y:Int} (hk:(Au lo a n c x y m l (Ap (x+1)) h)=some r) :
  Af lo 314 [.sl 6 a n c,Iv x,Iv y,.fn m l] h=some r :=
 eK Tryz.func314 hk
theorem Au.e {z y:Int} :
  Au lo a n c z y m l x h=br (decide (x<y)) (AE lo a n c z y m l x x h) (some (.tup [],h)) :=
 lE
theorem AE.e {lo n m:Nat}{a:Pq}{c:Nq}{y z t x:Int}{l:List V}{h:Heap} :
  AE lo a n c y z m l t x h=br (decide (x>y)) (As x n (eO a λv=>eO (ld h v.1 (v.2+x.toNat) 0 6) λv=>eC v λv o=>eI .i64 v λv=>eC o λo s=>eI .i64 o λo=>eC s λs b=>eI .i64 s λs=>eC b λb u=>eS 2 b λb w p=>eC u λu q=>eT u λu=>eC q λq g=>eBv q λq=>eN g (As (Ap (x - 1)) n (eO a λg=>eO (ld h g.1 (g.2+((Ap (x - (1:Int))).toNat)) 0 6) λg=>eC g λg i=>eI .i64 g λg=>eC i λi j=>eI .i64 i λi=>eC j λj k=>eI .i64 j λj=>eC k λk d=>eS 2 k λk e f=>eC d λd A=>eT d λd=>eC A λA B=>eBv A λA=>eN B (Al (Af lo m (Dl [AA v o s b w p u q,AA g i j k e f d A] l) h) λv o=>eI .i64 v λv=>br (decide (v<0)) (As (Ap (x - 1)) n (eO a λv=>eO (ld o v.1 (v.2+((Ap (x - (1:Int))).toNat)) 0 6) λv=>eC v λv s=>eI .i64 v λv=>eC s λs b=>eI .i64 s λs=>eC b λb u=>eI .i64 b λb=>eC u λu w=>eS 2 u λu p q=>eC w λw g=>eT w λw=>eC g λg i=>eBv g λg=>eN i (As x n (eO a λi=>eO (ld o i.1 (i.2+x.toNat) 0 6) λi=>eC i λi j=>eI .i64 i λi=>eC j λj k=>eI .i64 j λj=>eC k λk d=>eI .i64 k λk=>eC d λd e=>eS 2 d λd f A=>eC e λe B=>eT e λe=>eC B λB C=>eBv B λB=>eN C (As x n (eO a λC=>eO (st lo o C.1 (C.2+x.toNat) 0 (DC v s b u p q w g)) λv=>As (Ap (x - 1)) n (eO a λs=>eO (st lo v s.1 (s.2+((Ap (x - (1:Int))).toNat)) 0 (DC i j k d f A e B)) λv=>AE lo a n c y z m l t (Ap (x - 1)) v))))))) (Au lo a n c y z m l (Ap (t+1)) o)))))) (Au lo a n c y z m l (Ap (t+1)) h) :=
 lE
theorem Pi (hk:(br (decide (x>=4294967296)) none (br (decide (x>=65536)) none (br (decide (x>=256)) none (eO (QK ⟨⟨[0,1,2,2,3,3,3,3,4,4,4,4,4,4,4,4,5,5,5,5,5,5,5,5,5,5,5,5,5,5,5,5,6,6,6,6,6,6,6,6,6,6,6,6,6,6,6,6,6,6,6,6,6,6,6,6,6,6,6,6,6,6,6,6,7,7,7,7,7,7,7,7,7,7,7,7,7,7,7,7,7,7,7,7,7,7,7,7,7,7,7,7,7,7,7,7,7,7,7,7,7,7,7,7,7,7,7,7,7,7,7,7,7,7,7,7,7,7,7,7,7,7,7,7,7,7,7,7,8,8,8,8,8,8,8,8,8,8,8,8,8,8,8,8,8,8,8,8,8,8,8,8,8,8,8,8,8,8,8,8,8,8,8,8,8,8,8,8,8,8,8,8,8,8,8,8,8,8,8,8,8,8,8,8,8,8,8,8,8,8,8,8,8,8,8,8,8,8,8,8,8,8,8,8,8,8,8,8,8,8,8,8,8,8,8,8,8,8,8,8,8,8,8,8,8,8,8,8,8,8,8,8,8,8,8,8,8,8,8,8,8,8,8,8,8,8,8,8,8,8,8,8,8,8,8,8]⟩⟩ (IntKind.wrap .u8 x)) λl=>some (Iv (Ap (0+(Ap ((l.toNat:Int))))),h)))))=some (v,h')) (hn:noId v=true:=by rfl) :
  Af lo 323 [.int .u64 x] h=some (v,h) :=
 eD Tryz.func323 hk hn
end


structure Tag where
 time:Int
 place:Int
 deriving DecidableEq
def Tag.cs (t:Tag):List V := [Iv t.time,Iv t.place]
def Aj (n a b:Int):Bool:=decide (a<=n)&&decide (n<=b)
def Bd (t:Int) (p:Int):Bool:=(t==0&&p==0) || (Aj t 1 999&&Aj p 0 2)
def Ic (t p t' p':Int):Bool:=decide (t<t') || (t==t'&&decide (p<p'))
section
variable {lo:Nat}{h:Heap}{a b c d e:Int}
theorem Be:Af lo 63 [Iv a,Iv b,Iv c] h=some (.bool (Aj a b c),h) :=
 Vp (h':=h) (by simp[Aj])
theorem A9:Af lo 54 [Iv a,Iv b,Iv c] h=some (.bool (Aj a b c),h) :=
 ZA (h':=h) (by simp[Aj])
theorem ER:Af lo 62 [Iv a] h=some (.bool (Aj a 0 2),h):=Ug (h':=h) (by simp[Be])
theorem IO:Af lo 202 [Iv a] h=some (.bool (Aj a 0 3),h):=X0 (h':=h) (by simp[Be])
theorem LM:Af lo 144 [.agg [Iv a,Iv b]] h=some (.bool (Bd a b),h) :=
 X6 (h':=h) (by simp[Be,ER,Bd])
theorem Jt:Af lo 123 [.agg [Iv a,Iv b]] h=some (.bool (Bd a b),h) :=
 TH (h':=h) (by simp[A9,Bd])
theorem B9:Af lo 197 [.agg [Iv a,Iv b],.agg [Iv c,Iv d]] h=some (.bool (Ic a b c d),h) :=
 U5 (h':=h) (by simp[Ic])
theorem LH:Af lo 265 [.agg [Iv a,Iv b]] h=some (.agg [Iv a,Iv b],h):=XV (h':=h) (by simp)
theorem Sf {t p:Int} (h:Bd t p=true):(!(t==0&&p==0))=decide (t>0):=by rw[zgn];simp[Bd,Aj] at h ⊢;omega
def BC {α:Type} (p:α->Bool):List α->Nat->Int
 | [],_ => -1
 | x :: r,k=>bif p x then (k:Int) else BC p r (k+1)
theorem Gq {α:Type}{p:α->Bool}:∀ {l:List α}{k:Nat},decide (BC p l k>=0)=l.any p
 | [],k=>by simp[BC]
 | x :: r,k=>by
  simp only[BC,List.any_cons];by_cases h:p x=true
  ·simp[h]
  ·simpa [h] using Gq (p:=p) (l:=r) (k:=k+1)
def IR (a b:Int):Int:=if a<b then -1 else if b<a then 1 else 0
theorem zcg:Af lo 213 [Iv a] h=some (.bool false,h):=RW (h':=h) (by simp)
theorem Rl:Af lo 141 [Iv a,Iv b] h=some (Iv (IR a b),h) :=
 PF (h':=h) (by
  simp only[zcg,Ad,Ar,Ay];unfold IR;by_cases h1:a<b
  ·rw[Ak h1,if_pos h1]
  ·rw[Ai h1,if_neg h1];by_cases h2:b<a
   ·rw[Ak h2,if_pos h2]
   ·rw[Ai h2,if_neg h2])
theorem Tu:Af lo 140 [.sl 1 (some (h.length,0)) 2 (some 2)] (h ++ [.rows 1 3 false [[Iv a],[Iv b]]])=some (Iv (if a=0 then b else a),h ++ [.rows 1 3 false [[Iv a],[Iv b]]]) :=
 X7 (h':=h ++ [.rows 1 3 false [[Iv a],[Iv b]]]) (by
  rw[ED.e,Ak (by decide),BY (by decide)];simp only[Ae];rw[WF (row := [Iv a]) (by rfl)];simp only[cut,Ae,Ab,Ag,Aa];by_cases h1:a=0
  ·subst h1;rw[if_pos rfl,show ((0:Int)==0)=true from rfl,Aq,show Ap (0+1)=((1:Nat):Int) from Am (k:=0) (by decide),ED.e,Ak (by decide),BY (by decide)];simp only[Ae];rw[WF (row := [Iv b]) (by rfl)];simp only[cut,Ae,Ab,Ag,Aa];by_cases h2:b=0
   ·subst h2;rw[show ((0:Int)==0)=true from rfl,Aq,show Ap (((1:Nat):Int)+1)=((2:Nat):Int) from Am (k:=1) (by decide),ED.e,Ai (by decide)]
   ·rw[show (b==0)=false by simpa using h2,Ay]
  ·rw[if_neg h1,show (a==0)=false by simpa using h1,Ay])
theorem OS:Af lo 70 [.agg [Iv a,Iv b],.agg [Iv c,Iv d]] h=some (Iv (if IR a c=0 then IR b d else IR a c),h) :=
 Oi (h':=h ++ [.rows 1 3 false [[Iv (IR a c)],[Iv (IR b d)]]]) (by
  simp only[Rl,Ad,Aa,Tu])
theorem zdA:decide ((if IR a c=0 then IR b d else IR a c)<0)=Ic a b c d:=by
 unfold IR Ic;by_cases h1:a<c
 ·simp[h1]
 ·by_cases h2:c<a
  ·simp[h1,h2];omega
  ·have:a=c:=by omega
   subst this;by_cases h3:b<d
   ·simp[h3]
   ·simp[h3];split<;>simp
theorem Fo:Af lo 15 [.agg [Iv a,Iv b],.agg [Iv c,Iv d]] h=some (.bool (Ic a b c d),h) :=
 Uk (h':=h) (by simp only[OS,Ad,Aa,LQ,zdA];simp)
theorem LI {a b c d:Int}:Af lo 241 [.agg [Iv a,Iv b],.agg [Iv c,Iv d]] h=some (.bool (a==c&&b==d),h) :=
 XY (h':=h) (by simp)
end
end Go.Proofs.YtmgopagfoemomaaGreat
namespace Go.Proofs.YtmgopagfoemomaaGreat.T
open Go
variable {h:Heap}{b n:Nat}
def zc6 (P:Program) (g:TypeId->Bool):List Field->Nat->Nat->Bool
 | [],off,n=>Nat.beq off n
 | f :: fs,off,n=>match Nat.beq f.offset off&&g f.type with
  | true=>zc6 P g fs (off+P.cellsOf f.type) n
  | false=>false
def Rs (P:Program):Nat->TypeId->Bool
 | 0,_=>false
 | n+1,t=>match P.underlying t with
  | some .bool=>Nat.beq (P.cellsOf t) 1
  | some (.int _)=>Nat.beq (P.cellsOf t) 1
  | some .string=>Nat.beq (P.cellsOf t) 1
  | some (.slice e)=>Nat.beq (P.cellsOf t) 1&&Nat.blt 0 (P.cellsOf e)&&Rs P n e
  | some (.struct fs)=>zc6 P (Rs P n) fs.toList 0 (P.cellsOf t)
  | _=>false
def TVs (P:Program) (g:TypeId->List V->Prop):List Field->List V->Prop
 | [],xs=>xs = []
 | f :: fs,xs=>∃ ys zs,xs=ys++zs/\ys.length=P.cellsOf f.type/\g f.type ys/\TVs P g fs zs
def TV (P:Program) (h:Heap):Nat->TypeId->List V->Prop
 | 0,_,_=>False
 | n+1,t,xs=>match P.underlying t with
  | some .bool=>∃ b,xs = [.bool b]
  | some (.int k)=>∃ i,xs = [.int k i]/\(Lit.int k i).wf=true
  | some .string=>∃ s,xs = [.str s]/\s.size<=maxLen
  | some (.slice e)=>∃ a c rs,xs = [.sl (P.cellsOf e) a rs.length c]/\(rs.length<=maxLen/\∀ k,c=some k->rs.length<=k)/\(∀ row∈rs,row.length=P.cellsOf e/\TV P h n e row) /\
    (rs = []\/∃ b,a=some (b,0)/\Heap.rows? h b=some rs)
  | some (.struct fs)=>TVs P (TV P h n) fs.toList xs
  | _=>False
theorem zcO {h':Heap} (hp:h <+: h') {rs:List (List V)} (hb:Heap.rows? h b=some rs):Heap.rows? h' b=some rs:=by
 obtain ⟨t,rfl⟩:=hp;unfold Heap.rows? at hb ⊢;have hl:b<h.length:=by apply zhf;intro hle;rw[zgj hle] at hb;cases hb
 rw[zfK hl];exact hb
theorem TVs.imp {P:Program}{g g':TypeId->List V->Prop} (hg:∀ t xs,g t xs->g' t xs):∀ {fs:List Field}{xs:List V},TVs P g fs xs->TVs P g' fs xs
 | [],xs,h=>h
 | f :: fs,xs,⟨ys,zs,h1,h2,h3,h4⟩=>⟨ys,zs,h1,h2,hg _ _ h3,TVs.imp hg h4⟩
theorem TV.mono {P:Program}{h h':Heap} (hp:h <+: h'):∀ (n:Nat) (t:TypeId) (xs:List V),TV P h n t xs->TV P h' n t xs
 | 0,_,_,hx=>hx
 | n+1,t,xs,hx=>by
  simp only[TV] at hx ⊢;split at hx
  ·exact hx
  ·exact hx
  ·exact hx
  ·obtain ⟨a,c,rs,h1,h2,h3,h4⟩:=hx;exact ⟨a,c,rs,h1,h2,λrow hr=>⟨(h3 row hr).1,TV.mono hp n _ _ (h3 row hr).2⟩,h4.imp id λ⟨b,h5,h6⟩=>⟨b,h5,zcO hp h6⟩⟩
  ·exact TVs.imp (λt xs=>TV.mono hp n t xs) hx
  ·exact hx
theorem Xj {xs ys:List V} (h1:Em xs=true) (h2:Em ys=true):Em (xs++ys)=true:=by
 induction xs with
 | nil=>exact h2
 | cons x r ih =>
  simp only[zf9,Em] at h1 ⊢;split at h1
  ·exact ih h1
  ·cases h1
theorem TVs.firm {P:Program}{g:TypeId->List V->Prop} (hg:∀ t xs,g t xs->Em xs=true):∀ {l:List Field}{xs:List V},TVs P g l xs->Em xs=true
 | [],xs,h=>by simp only[TVs] at h;subst h;rfl
 | f :: l,xs,⟨ys,zs,e,_,h3,h4⟩=>by subst e;exact Xj (hg _ _ h3) (TVs.firm hg h4)
theorem TV.firm {P:Program}{h:Heap}:∀ (n:Nat) (t:TypeId) (xs:List V),TV P h n t xs->Em xs=true
 | 0,_,_,hx=>hx.elim
 | n+1,t,xs,hx=>by
  simp only[TV] at hx;split at hx
  ·obtain ⟨b,rfl⟩:=hx;rfl
  ·obtain ⟨i,rfl,_⟩:=hx;rfl
  ·obtain ⟨s,rfl,_⟩:=hx;rfl
  ·obtain ⟨a,c,rs,rfl,_⟩:=hx;rfl
  ·exact TVs.firm (λt xs=>TV.firm n t xs) hx
  ·exact hx.elim
structure Imp (W:World) (ρ:Rho) (h:Heap):Prop where
 rel:HRel ρ h W
 ro:∀ b,b<h.length->Cm h b\/S6 h b
theorem zad {k:Blk} (hb:b<h.length) (hd:Cm h b):Cm (h ++ [k]) b:=by unfold Cm at *;rw[zfK hb];exact hd
theorem zc4 {k:Blk} (hb:b<h.length) (hd:S6 h b):S6 (h ++ [k]) b:=by obtain ⟨R,e,rs,h1⟩:=hd;exact ⟨R,e,rs,by rw[zfK hb];exact h1⟩
theorem Imp.lay {W:World}{ρ:Rho} (hi:Imp W ρ h) (k:Blk) (e:E) (hlt:e.r<W.heap.size) (hk:BR ρ e k W) (hro:k = .dead\/∃ R e rs,k = .rows R e true rs) :
  Imp W (ρ.set h.length e) (h ++ [k]):=by
 have hle:Rle ρ (ρ.set h.length e):=Rho.set_le hi.rel.fresh;have hnew:Cm (h ++ [k]) h.length\/S6 (h ++ [k]) h.length:=by
  rcases hro with rfl | ⟨R,t,rs,rfl⟩
  ·exact .inl (by simp[Cm])
  ·exact .inr ⟨R,t,rs,by simp⟩
 have hall:∀ b,b<(h ++ [k]).length->Cm (h ++ [k]) b\/S6 (h ++ [k]) b:=λb hb=>by
  by_cases hx:b=h.length
  ·subst hx;exact hnew
  ·have:b<h.length:=by simp at hb;omega
   exact (hi.ro b this).imp (zad this) (zc4 this)
 have hdom:∀ b e',(ρ.set h.length e) b=some e'->b<(h ++ [k]).length/\e'.r<W.heap.size:=λb e' hb=>by
  by_cases hx:b=h.length
  ·subst hx;rw[Rho.set_same] at hb;injection hb with hb;subst hb;exact ⟨by simp,hlt⟩
  ·rw[Rho.set_other hx] at hb;have:=hi.rel.dom b e' hb;exact ⟨by simp;omega,by omega⟩
 refine ⟨⟨hdom,λb e' k' hb hk'=>?_,λb b' e1 e2 h1 h2 hr hne=>?_⟩,hall⟩
 ·by_cases hx:b=h.length
  ·subst hx;rw[Rho.set_same] at hb;injection hb with hb;subst hb;simp at hk';subst hk';exact BR.mono hle rfl hk
  ·rw[Rho.set_other hx] at hb;have:=(hi.rel.dom b e' hb).1;rw[zfK this] at hk';exact BR.mono hle rfl (hi.rel.blk b e' k' hb hk')
 ·have g1:=hall b (hdom b e1 h1).1;have g2:=hall b' (hdom b' e2 h2).1;rcases g1 with g1 | g1
  ·exact .inl g1
  ·rcases g2 with g2 | g2
   ·exact .inr (.inl g2)
   ·exact .inr (.inr ⟨g1,g2⟩)
section
variable {P:Program}{W:World}{H:Type}{enc:TypeId×Value->H}
theorem Tx {base:Nat}{a:Addr}{cs:List Value} (h:W.cells? base a n=some cs):cs.length=n/\∀ (i:Nat) (c:Value),cs[i]?=some c->W.cell? (a.add i)=some c:=by
 unfold World.cells? at h;split at h
 ·have hl:cs.length=n:=by simpa using mapM_some_length h
  refine ⟨hl,λi c hc=>?_⟩;have hi:i<n:=by have:=(zfI.1 hc).1;omega
  have:=mapM_some_get h i i (by simp[hi]);rw[this,hc]
 ·cases h
theorem zaz {a:Addr}{c:Value} (h:W.cell? a=some c):∃ cs el fr,W.heap[a.block]?=some (.cells cs el fr)/\a.spot=none/\cs[a.off]?=some c:=by
 unfold World.cell? at h;split at h
 ·rename_i cs el fr he
  split at h
  ·cases h
  ·rename_i hs;exact ⟨cs,el,fr,he,by simpa using hs,h⟩
 ·cases h
def zff (P:Program) (W:World) (n:Nat) (t:TypeId) (cs:List Value):Prop :=
 ∀ ρ h,Imp W ρ h->∃ (ρ':Rho) (h':Heap) (xs:List V),Rle ρ ρ'/\h <+: h'/\Imp W ρ' h'/\VRs ρ' xs cs/\TV P h' n t xs
theorem VU {n:Nat}{t:TypeId}{R:Nat}:∀ (css:List (List Value)),(∀ cs∈css,cs.length=R/\zff P W n t cs)->∀ ρ h,Imp W ρ h ->
  ∃ (ρ':Rho) (h':Heap) (rs:List (List V)),Rle ρ ρ'/\h <+: h'/\Imp W ρ' h'/\rs.length=css.length/\(∀ (i:Nat) (row:List V),rs[i]?=some row->∃ cs,css[i]?=some cs/\VRs ρ' row cs/\row.length=R/\TV P h' n t row)
 | [],_,ρ,h,hi=>⟨ρ,h,[],Rle.refl _,zhn _,hi,rfl,λi row hr=>by simp at hr⟩
 | cs :: css,hc,ρ,h,hi=>by
  obtain ⟨ρ1,h1,xs,a1,a2,a3,a4,a5⟩:=(hc cs (by simp)).2 ρ h hi;obtain ⟨ρ2,h2,rs,b1,b2,b3,b4,b5⟩:=VU css (λc hcc=>hc c (by simp[hcc])) ρ1 h1 a3;refine ⟨ρ2,h2,xs :: rs,a1.trans b1,a2.trans b2,b3,by simp[b4],λi row hr=>?_⟩;cases i with
  | zero =>simp at hr;subst hr;exact ⟨cs,rfl,VRs.mono b1 _ _ a4,by rw[a4.length];exact (hc cs (by simp)).1,TV.mono b2 _ _ _ a5⟩
  | succ i =>simp at hr;obtain ⟨c,g1,g2⟩:=b5 i row hr;exact ⟨c,by simpa using g1,g2⟩
theorem Q8 {n:Nat}{cs:List Value}:∀ (fs:List Field) (off:Nat),zc6 P (Rs P n) fs off cs.length=true->(∀ f∈fs,Rs P n f.type=true->zff P W n f.type ((cs.drop f.offset).take (P.cellsOf f.type)))->∀ ρ h,Imp W ρ h ->
  ∃ (ρ':Rho) (h':Heap) (xs:List V),Rle ρ ρ'/\h <+: h'/\Imp W ρ' h'/\VRs ρ' xs (cs.drop off)/\TVs P (TV P h' n) fs xs/\off<=cs.length
 | [],off,hin,_,ρ,h,hi=>by simp only[zc6] at hin;have:=zfP hin;exact ⟨ρ,h,[],Rle.refl _,zhn _,hi,by rw[zgt (by omega)];exact VRs.nil,rfl,by omega⟩
 | f :: fs,off,hin,hl,ρ,h,hi=>by
  simp only[zc6] at hin;split at hin
  ·rename_i hc
   simp only[zfU] at hc;have ho:=zfP hc.1;obtain ⟨ρ1,h1,xs,a1,a2,a3,a4,a5⟩:=hl f (by simp) hc.2 ρ h hi;obtain ⟨ρ2,h2,ys,b1,b2,b3,b4,b5,b6⟩:=Q8 fs (off+P.cellsOf f.type) hin (λg hg=>hl g (by simp[hg])) ρ1 h1 a3;rw[ho] at a4;have hlen:=a4.length;refine ⟨ρ2,h2,xs++ys,a1.trans b1,a2.trans b2,b3,?_,⟨xs,ys,rfl,?_,TV.mono b2 _ _ _ a5,b5⟩,by omega⟩
   ·have:=(VRs.mono b1 _ _ a4).append b4;rwa [<- zg9,zgi] at this
   ·rw[hlen];simp;omega
  ·cases hin
theorem zfs:∀ (n:Nat) (t:TypeId),Rs P n t=true->∀ (fuel:Nat) (cs:List Value) (x:DataW H×List MemPlace),DataW.trod enc P W 0 (λ_=>true) true fuel t cs=some x ->
  (∀ a l c,Value.slice (some a) l c∈cs->0<W.heap.size)->zff P W n t cs:=by
 intro n;induction n with
 | zero=>intro t h;simp[Rs] at h
 | succ n ih =>
  intro t hin fuel cs x hx hpos ρ h hi;simp only[Rs] at hin;split at hin
  ·rename_i hu
   obtain ⟨b,rfl,_⟩:=DataW.trod_bool hu hx;exact ⟨ρ,h,[.bool b],Rle.refl _,zhn _,hi,VRs.cons VR.bool' VRs.nil,by simp only[TV,hu];exact ⟨b,rfl⟩⟩
  ·rename_i k hu
   obtain ⟨i,rfl,_,hw⟩:=DataW.trod_int hu hx;exact ⟨ρ,h,[.int k i],Rle.refl _,zhn _,hi,VRs.cons VR.int' VRs.nil,by simp only[TV,hu];exact ⟨i,rfl,hw⟩⟩
  ·rename_i hu
   obtain ⟨s,rfl,_,hw⟩:=DataW.trod_string hu hx;exact ⟨ρ,h,[.str s],Rle.refl _,zhn _,hi,VRs.cons (by simp[VR]) VRs.nil,by simp only[TV,hu];exact ⟨s,rfl,hw⟩⟩
  ·rename_i e hu
   simp only[zfU] at hin;have hR:0<P.cellsOf e:=by have:=hin.1.2;simpa [zhc] using this
   rcases DataW.trod_slice hu hx with ⟨rfl,_⟩ | ⟨a,len,cap,elems,rest,m,rfl,rfl,_,_,hlc,hcm,hel,hg,hsp,_⟩
   ·exact ⟨ρ,h,[.sl (P.cellsOf e) none 0 (some 0)],Rle.refl _,zhn _,hi,VRs.cons (by simp[VR]) VRs.nil,by
     simp only[TV,hu];exact ⟨none,some 0,[],rfl,⟨zgr _,λ_ _=>zgr _⟩,λr hr=>(by cases hr),.inl rfl⟩⟩
   ·-- the rows
    have hrow:∀ i,i<len->∃ c y,W.cells? 0 (a.add (i*P.cellsOf e)) (P.cellsOf e)=some c/\DataW.trod enc P W 0 (λ_=>true) true m e c=some y:=λi hi'=>by have h1:=hg i hi';rw[zfX (by omega)] at h1;obtain ⟨c,h2,h3⟩:=zgK.1 h1;exact ⟨c,_,h2,h3⟩
    have hspare:∀ j,len+j<cap->∃ c,W.cells? 0 (a.add ((len+j)*P.cellsOf e)) (P.cellsOf e)=some c:=λj hj=>by obtain ⟨h0,h1⟩:=hsp rfl;have h1:=h1 j (by omega);rw[zfX (by omega)] at h1;obtain ⟨c,h2,_⟩:=zgK.1 h1;exact ⟨c,h2⟩
    by_cases hcap:cap=0
    ·-- no room at all
     subst hcap;have hl0:len=0:=by omega
     subst hl0;have hp:=hpos a 0 0 (by simp);have hi2:=hi.lay .dead ⟨0,0,P.cellsOf e,0,0⟩ hp trivial (.inl rfl);refine ⟨_,_,[.sl (P.cellsOf e) (some (h.length,0)) 0 (some 0)],Rho.set_le hi.rel.fresh,⟨_,rfl⟩,hi2,VRs.cons ?_ VRs.nil,?_⟩
     ·simp only[VR];exact ⟨_,a,0,Rho.set_same _ _ _,rfl,rfl,.inl rfl,zfH _,λy hy=>by injection hy,λhc=>by cases hc⟩
     ·simp only[TV,hu];exact ⟨_,_,[],rfl,⟨zgr _,λ_ _=>zgr _⟩,λr hr=>(by cases hr),.inl rfl⟩
    ·-- the block
     have hblk:∃ carr el fr,W.heap[a.block]?=some (.cells carr el fr)/\a.spot=none:=by
      have:∃ c,W.cells? 0 (a.add (0*P.cellsOf e)) (P.cellsOf e)=some c:=by
       by_cases hl0:len=0
       ·have:=hspare 0 (by omega);rw[hl0] at this;simpa using this
       ·obtain ⟨c,_,h2,_⟩:=hrow 0 (by omega);exact ⟨c,h2⟩
      obtain ⟨c,hc⟩:=this;obtain ⟨c1,c2⟩:=Tx hc;have h0:c[0]?=some c[0]:=zfX (by omega);obtain ⟨carr,el,fr,h1,h2,_⟩:=zaz (c2 0 _ h0);have e1:(a.add (0*P.cellsOf e)).add 0=a:=by simp[Addr.add]
      rw[e1] at h1 h2;exact ⟨carr,el,fr,h1,h2⟩
     obtain ⟨carr,el,fr,hW,hspot⟩:=hblk;obtain ⟨r,o,sp⟩:=a;simp only at hW hspot;subst hspot;have hlt:r<W.heap.size:=by apply zhf;intro hle;rw[Array.getElem?_eq_none hle] at hW;cases hW
     have hcells:∀ i,i<len->∃ c y,c.length=P.cellsOf e/\(∀ (j:Nat) (v:Value),c[j]?=some v->carr[o+(i*P.cellsOf e+j)]?=some v)/\DataW.trod enc P W 0 (λ_=>true) true m e c=some y:=λi hi'=>by obtain ⟨c,y,h1,h2⟩:=hrow i hi';obtain ⟨c1,c2⟩:=Tx h1;refine ⟨c,y,c1,λj v hv=>?_,h2⟩;have:=c2 j v hv;rw[Hw,Hw,Ni hW] at this;rw[<- this];congr 1;omega
     have hall:∃ css:List (List Value),css.length=len/\∀ i,i<len->∃ c y,css[i]?=some c/\c.length=P.cellsOf e/\(∀ (j:Nat) (v:Value),c[j]?=some v->carr[o+(i*P.cellsOf e+j)]?=some v)/\DataW.trod enc P W 0 (λ_=>true) true m e c=some y:=by refine ⟨(List.range len).map λi=>if hi':i<len then (hcells i hi').choose else [],by simp,λi hi'=>?_⟩;obtain ⟨y,h1,h2,h3⟩:=(hcells i hi').choose_spec;exact ⟨_,y,by simp[hi'],h1,h2,h3⟩
     obtain ⟨css,hcl,hcs⟩:=hall;obtain ⟨ρ1,h1,rs,a1,a2,a3,a4,a5⟩:=VU (P:=P) (W:=W) (n:=n) (t:=e) (R:=P.cellsOf e) css (λc hc=>by
      obtain ⟨i,hi'⟩:=zgb.1 hc;have hlt:=(zfI.1 hi').1;obtain ⟨c',y,g1,g2,g3,g4⟩:=hcs i (by omega);rw[hi'] at g1;injection g1 with g1;subst g1;exact ⟨g2,ih e hin.2 m c y g4 λ_ _ _ _=>by omega⟩) ρ h hi
     by_cases hl0:len=0
     ·have hrs:rs = []:=zfM (by omega);subst hrs;have hi2:=a3.lay .dead ⟨r,o,P.cellsOf e,0,0⟩ hlt trivial (.inl rfl);refine ⟨_,_,[.sl (P.cellsOf e) (some (h1.length,0)) 0 (some cap)],a1.trans (Rho.set_le a3.rel.fresh),a2.trans ⟨_,rfl⟩,hi2,VRs.cons ?_ VRs.nil,?_⟩
      ·simp only[VR];exact ⟨_,⟨r,o,none⟩,cap,Rho.set_same _ _ _,rfl,by rw[hl0],.inr (by simp),by omega,λy hy=>by injection hy,λhc=>by cases hc⟩
      ·simp only[TV,hu];exact ⟨_,_,[],rfl,⟨zgr _,λ_ _=>zgr _⟩,λr hr=>(by cases hr),.inl rfl⟩
     ·have hrl:rs.length=len:=by omega
      have hbr:BR ρ1 ⟨r,o,P.cellsOf e,rs.length,rs.length⟩ (.rows (P.cellsOf e) el true rs) W:=by
       refine ⟨carr,fr,?_,λh=>(by cases h),rfl,rfl,zfH _,?_,λi row hr=>?_,.inr ⟨rfl,λj c g1 g2 g3=>?_⟩⟩
       ·exact hW
       ·obtain ⟨c,y,g1,g2,g3,_⟩:=hcs (len - 1) (by omega);have:=g3 (P.cellsOf e - 1) _ (zfX (by omega));have hb:=(zgO.1 this).1;have e1:rs.length*P.cellsOf e=(len - 1)*P.cellsOf e+P.cellsOf e:=by rw[hrl,<- Nat.succ_mul];congr 1;omega
        show o+rs.length*P.cellsOf e<=carr.size;omega
       ·obtain ⟨c,g1,g2,g3,_⟩:=a5 i row hr;refine ⟨g3,λj v hv=>?_⟩;have hlt:=(zfI.1 hr).1;obtain ⟨c',y,k1,k2,k3,_⟩:=hcs i (by omega);rw[g1] at k1;injection k1 with k1;subst k1;obtain ⟨z,z1,z2⟩:=g2.get j v hv;exact ⟨z,k3 j z z1,z2⟩
       ·obtain ⟨q,hq⟩:∃ q,j=o+q:=⟨j - o,by simp only at g1;omega⟩;have hq2:q<rs.length*P.cellsOf e:=by simp only at g2;omega
        have hdiv:q / P.cellsOf e<rs.length:=(Nat.div_lt_iff_lt_mul hR).2 hq2;have hmod:q % P.cellsOf e<P.cellsOf e:=Nat.mod_lt _ hR;have hqq:q=q / P.cellsOf e*P.cellsOf e+q % P.cellsOf e:=by rw[Nat.mul_comm];exact (Nat.div_add_mod q _).symm
        obtain ⟨c0,k1,k2,k3,k4⟩:=a5 (q / P.cellsOf e) _ (zfX hdiv);obtain ⟨c',y,l1,l2,l3,_⟩:=hcs (q / P.cellsOf e) (by omega);rw[k1] at l1;injection l1 with l1;subst l1;have hz:=l3 (q % P.cellsOf e) _ (zfX (by omega));rw[<- hqq,<- hq,g3] at hz;injection hz with hz;rw[hz];exact DE k2 (TV.firm _ _ _ k4) _ (zfD _)
      have hi2:=a3.lay (.rows (P.cellsOf e) el true rs) ⟨r,o,P.cellsOf e,rs.length,rs.length⟩ hlt hbr (.inr ⟨_,_,_,rfl⟩);refine ⟨_,_,[.sl (P.cellsOf e) (some (h1.length,0)) rs.length (some cap)],a1.trans (Rho.set_le a3.rel.fresh),a2.trans ⟨_,rfl⟩,hi2,VRs.cons ?_ VRs.nil,?_⟩
      ·simp only[VR];exact ⟨_,⟨r,o,none⟩,cap,Rho.set_same _ _ _,rfl,by rw[hrl],.inr (by simp),by omega,λy hy=>by injection hy,λhc=>by cases hc⟩
      ·simp only[TV,hu];refine ⟨_,_,rs,rfl,⟨by omega,λk hk=>by injection hk with hk;omega⟩,λrow hr=>?_,.inr ⟨_,rfl,by simp[Heap.rows?]⟩⟩;obtain ⟨i,hi'⟩:=zgb.1 hr;obtain ⟨c,_,_,g3,g4⟩:=a5 i row hi';exact ⟨g3,TV.mono ⟨_,rfl⟩ _ _ _ g4⟩
  ·rename_i fs hu
   obtain ⟨xs,m,rfl,_,hl,hxl,hf⟩:=DataW.trod_struct hu hx;rw[<- hl] at hin;obtain ⟨ρ',h',ys,b1,b2,b3,b4,b5,_⟩:=Q8 (P:=P) (W:=W) (n:=n) (cs:=cs) fs.toList 0 hin (λf hfm hft=>by
    obtain ⟨i,hi'⟩:=zgb.1 hfm;have hi2:fs[i]?=some f:=by simpa using hi'
    have h1:=hf i f hi2;have hlt:i<xs.length:=by have:=(zgO.1 hi2).1;omega
    rw[zfX hlt] at h1;exact ih f.type hft m _ _ h1 λa l c hm=>hpos a l c (List.mem_of_mem_drop (zhe hm))) ρ h hi
   exact ⟨ρ',h',ys,b1,b2,b3,by simpa using b4,by simp only[TV,hu];exact b5⟩
  ·cases hin
end
end Go.Proofs.YtmgopagfoemomaaGreat.T
namespace Go.Proofs.YtmgopagfoemomaaGreat.T
open Go Go.RowKit
variable {r:Reach}{base:Nat}{a:Addr}{n:Nat}{h:Heap}
section
variable {P:Program}{W:World}{H:Type}{enc:TypeId×Value->H}
theorem Z0 {e:TypeId} (h:W.has P r base a e n):0<W.heap.size:=by obtain ⟨_,_,row,cells,hs,_⟩:=h;unfold World.shape? at hs;apply zhf;intro hle;rw[Array.getElem?_eq_none (by omega)] at hs;cases hs
theorem QY {u:TypeId}{l c:Nat} (h:Cell.okWide P W r base u (.slice (some a) l c)):0<W.heap.size:=by
 have h2:Cell.ok P W r base u (.slice (some a) l c):=by unfold Cell.okWide at h;split at h<;>simp_all
 unfold Cell.ok at h2;split at h2<;>simp_all
 exact Z0 h2.2.2
theorem WB {t:TypeId}{v:Value} (h:Value.okWide P W r base t v) {l c:Nat} (hm:Value.slice (some a) l c∈v.cells.toList):0<W.heap.size:=by
 have row:∀ cs:Array Value,Row.okWide P W r base t cs->v = .agg cs->0<W.heap.size:=λcs hr hv=>by subst hv;obtain ⟨ts,_,_,h3⟩:=hr;simp[Value.cells] at hm;obtain ⟨i,hi⟩:=Array.mem_iff_getElem?.1 hm;obtain ⟨u,_,hu⟩:=h3 i _ hi;exact QY hu
 unfold Value.okWide at h;split at h
 ·obtain ⟨cs,hv,_,hr⟩:=h;exact row cs hr hv
 ·obtain ⟨cs,hv,_,hr⟩:=h;exact row cs hr hv
 ·cases v<;>simp[Value.cells] at hm
  ·obtain ⟨rfl,rfl,rfl⟩:=hm;exact QY h
  ·exfalso;unfold Cell.okWide Cell.ok at h;split at h<;>(try split at h)<;>simp_all
def ArgV (P:Program) (h:Heap) (n:Nat) (t:TypeId) (x:V):Prop:=match P.underlying t with
 | some (.struct _)=>∃ xs,x = .agg xs/\TV P h n t xs
 | _=>TV P h n t [x]
theorem ArgV.mono {h h':Heap} (hp:h <+: h') {n:Nat}{t:TypeId}{x:V} (hx:ArgV P h n t x):ArgV P h' n t x:=by
 unfold ArgV at *
 split at hx
 ·obtain ⟨xs,h1,h2⟩:=hx;exact ⟨xs,h1,TV.mono hp _ _ _ h2⟩
 ·exact TV.mono hp _ _ _ hx
theorem lays_arg {t:TypeId}{v:Value}{d:DataW H}{p:List MemPlace} (hin:Rs P n t=true) (hok:Value.okWide P W r base t v)
  (h0:DataW.Trod enc P W 0 (λ_=>true) true t v d p) {ρ:Rho} (hi:Imp W ρ h):∃ (ρ':Rho) (h':Heap) (x:V),Rle ρ ρ'/\h <+: h'/\Imp W ρ' h'/\VR ρ' x v/\ArgV P h' n t x:=by
 obtain ⟨fuel,hf⟩:=h0;obtain ⟨ρ',h',xs,a1,a2,a3,a4,a5⟩:=zfs n t hin fuel _ _ hf (λa l c hm=>WB hok hm) ρ h hi;unfold Value.okWide at hok;cases hu:P.underlying t with
 | none =>
  cases n with
  | zero=>simp[Rs] at hin
  | succ n=>simp[Rs,hu] at hin
 | some td =>
  have one:(∀ fs,td ≠ .struct fs)->∃ x,xs = [x]/\VR ρ' x v:=λhns=>by
   cases n with
   | zero=>simp[Rs] at hin
   | succ n =>
    simp only[TV,hu] at a5;have hl:=a4.length;have hx:∃ x,xs = [x]:=by
     cases td<;>simp only at a5<;>(try exact a5.elim)
     ·obtain ⟨b,rfl⟩:=a5;exact ⟨_,rfl⟩
     ·obtain ⟨i,rfl,_⟩:=a5;exact ⟨_,rfl⟩
     ·obtain ⟨s,rfl,_⟩:=a5;exact ⟨_,rfl⟩
     ·obtain ⟨a,c,rs,rfl,_⟩:=a5;exact ⟨_,rfl⟩
     ·exact absurd rfl (hns _)
    obtain ⟨x,rfl⟩:=hx;refine ⟨x,rfl,?_⟩;have hns':∀ cs,v ≠ .agg cs:=λcs hv=>by
     subst hv;rw[hu] at hok;cases td<;>simp only[Rs,hu] at hin<;>(try cases hin)<;>simp[Cell.okWide,Cell.ok,hu] at hok
     exact absurd rfl (hns _)
    have hc:v.cells.toList = [v]:=by
     cases v<;>(try rfl)
     ·exact absurd rfl (hns' _)
    rw[hc] at a4;exact a4.uncons.1
  by_cases hs:∃ fs,td = .struct fs
  ·obtain ⟨fs,rfl⟩:=hs;rw[hu] at hok;obtain ⟨cs,rfl,_⟩:=hok;refine ⟨ρ',h',.agg xs,a1,a2,a3,?_,?_⟩
   ·simp only[VR];exact ⟨cs,rfl,by simpa [Value.cells] using a4⟩
   ·simp only[ArgV,hu];exact ⟨xs,rfl,a5⟩
  ·obtain ⟨x,rfl,hx⟩:=one λfs e=>hs ⟨fs,e⟩;refine ⟨ρ',h',x,a1,a2,a3,hx,?_⟩;unfold ArgV;rw[hu];split
   ·rename_i fs' he;injection he with he;exact absurd ⟨_,he⟩ hs
   ·exact a5
theorem imp_nil (W:World):Imp W (λ_=>none) [] :=
 ⟨⟨λb e h=>(by cases h),λb e k h=>(by cases h),λb b' e e' h=>(by cases h)⟩,λb hb=>by simp at hb⟩
theorem law_walk {call:Jg} (hS:SC P call) {f:FuncId}{args:List V}{h':Heap}{ρ:Rho} (hk:call h.length f args h=some (.bool true,h')) {cargs:Array Value} (hv:VRs ρ args cargs.toList) (hi:Imp W ρ h) :
  Calls P f cargs W λe w'=>e = .returned (.bool true)/\Below W.heap.size W w':=by
 refine Calls.mono (hS.calls hk (zfH _) hv hi.rel) ?_
 rintro e w' ⟨c,rfl,ρ',h1,h2,h3⟩
 simp only[VR] at h1;subst h1;exact ⟨rfl,⟨h3.os,h3.tape,h3.output,h3.size,λk hk=>h3.frame k hk λb e hb hle=>by
  have:=(hi.rel.dom b e hb).1;omega⟩⟩
end
end Go.Proofs.YtmgopagfoemomaaGreat.T
namespace Go.Proofs.YtmgopagfoemomaaGreat
open Go T


variable {left:Int}{α:Type}{l:List α}
structure Ver where
 key:Int
 tag:Tag
 past:List Tag
 text:ByteArray
 gone:Bool
structure Node where
 store:List Ver
 wait:List Ver
structure Place where
 me:Int
 clock:Int
 chain:List Node
 log:List Ver
 got:List (List Ver)
 fell:Bool
structure Frame where
 fro:Int
 to:Int
 at':Int
 ver:Ver
abbrev zdm (ro:Bool):Nat:=bif ro then 202 else 36
abbrev J0 (ro:Bool):Nat:=bif ro then 207 else 43
abbrev Zd (ro:Bool):Nat:=bif ro then 194 else 26
abbrev O5 (ro:Bool):Nat:=bif ro then 289 else 47
abbrev Ver.cs (v:Ver) (a:Pq) (c:Nq):List V := [Iv v.key,Iv v.tag.time,Iv v.tag.place,.sl 2 a v.past.length c,.str v.text,.bool v.gone]
abbrev RTags (ro:Bool):Rel (List Tag):=Sli ro 2 (zdm ro) (flat Tag.cs)
def RVer (ro:Bool):Rel Ver:=λh cs v F=>∃ s,cs = [Iv v.key,Iv v.tag.time,Iv v.tag.place,s,.str v.text,.bool v.gone]/\RTags ro h [s] v.past F
abbrev RVers (ro:Bool):Rel (List Ver):=Sli ro 6 (J0 ro) (RVer ro)
abbrev RVss (ro:Bool):Rel (List (List Ver)):=Sli ro 1 (Zd ro) (RVers ro)
def RNode (ro:Bool):Rel Node:=λh cs x F=>∃ s1 s2 F1 F2,cs = [s1,s2]/\F=F1++F2/\RVers ro h [s1] x.store F1/\RVers ro h [s2] x.wait F2
abbrev RNodes (ro:Bool):Rel (List Node):=Sli ro 2 (O5 ro) (RNode ro)
def RPlace (ro:Bool):Rel Place:=λh cs p F=>∃ s1 s2 s3 F1 F2 F3,cs = [Iv p.me,Iv p.clock,s1,s2,s3,.bool p.fell]/\F=F1++(F2++F3)/\RNodes ro h [s1] p.chain F1/\RVers ro h [s2] p.log F2/\RVss ro h [s3] p.got F3
def LY (ro:Bool):Rel Frame:=λh cs f F=>∃ vs,cs = Iv f.fro :: Iv f.to :: Iv f.at' :: vs/\RVer ro h vs f.ver F
theorem rtags_ok {ro:Bool}:(RTags ro).Ok:=Sli.ok EG
theorem rver_ok {ro:Bool}:(RVer ro).Ok :=
 ⟨λh h' cs x F ⟨s,h1,h2⟩ hb=>⟨s,h1,rtags_ok.fr _ _ _ _ _ h2 hb⟩,λh cs x F ⟨s,_,h2⟩=>rtags_ok.bd _ _ _ _ h2⟩
theorem rvers_ok {ro:Bool}:(RVers ro).Ok:=Sli.ok rver_ok
theorem rvss_ok {ro:Bool}:(RVss ro).Ok:=Sli.ok rvers_ok
theorem rnode_ok {ro:Bool}:(RNode ro).Ok:=by
 refine ⟨?_,?_⟩
 ·rintro h h' cs x F ⟨s1,s2,F1,F2,h1,rfl,h2,h3⟩ hb
  exact ⟨s1,s2,F1,F2,h1,rfl,rvers_ok.fr _ _ _ _ _ h2 λb hm=>hb b (by simp[hm]),rvers_ok.fr _ _ _ _ _ h3 λb hm=>hb b (by simp[hm])⟩
 ·rintro h cs x F ⟨s1,s2,F1,F2,h1,rfl,h2,h3⟩ b hb
  rw[zfF] at hb;exact hb.elim (rvers_ok.bd _ _ _ _ h2 b) (rvers_ok.bd _ _ _ _ h3 b)
theorem rnodes_ok {ro:Bool}:(RNodes ro).Ok:=Sli.ok rnode_ok
theorem rplace_ok {ro:Bool}:(RPlace ro).Ok:=by
 refine ⟨?_,?_⟩
 ·rintro h h' cs x F ⟨s1,s2,s3,F1,F2,F3,h1,rfl,h2,h3,h4⟩ hb
  exact ⟨s1,s2,s3,F1,F2,F3,h1,rfl,rnodes_ok.fr _ _ _ _ _ h2 λb hm=>hb b (by simp[hm]),rvers_ok.fr _ _ _ _ _ h3 λb hm=>hb b (by simp[hm]),rvss_ok.fr _ _ _ _ _ h4 λb hm=>hb b (by simp[hm])⟩
 ·rintro h cs x F ⟨s1,s2,s3,F1,F2,F3,h1,rfl,h2,h3,h4⟩ b hb
  rw[zfF,zfF] at hb;rcases hb with hb | hb | hb
  ·exact rnodes_ok.bd _ _ _ _ h2 b hb
  ·exact rvers_ok.bd _ _ _ _ h3 b hb
  ·exact rvss_ok.bd _ _ _ _ h4 b hb
theorem rframe_ok {ro:Bool}:(LY ro).Ok :=
 ⟨λh h' cs x F ⟨s,h1,h2⟩ hb=>⟨s,h1,rver_ok.fr _ _ _ _ _ h2 hb⟩,λh cs x F ⟨s,_,h2⟩=>rver_ok.bd _ _ _ _ h2⟩
section
variable {ro:Bool}{h:Heap}{F:List Nat}{a:Pq}{c:Nq}{n k:Nat}
theorem RTags.get {l:List Tag} (hs:RTags ro h [.sl 2 a n c] l F) (hk:k<l.length):∃ o,a=some o/\ld h o.1 (o.2+k) 0 2=some [Iv l[k].time,Iv l[k].place]:=by obtain ⟨o,row,G,h1,h2,⟨rfl,_⟩,_⟩:=hs.read hk;exact ⟨o,h1,by rw[h2];rfl⟩
theorem RVer.form {row:List V}{v:Ver} (hv:RVer ro h row v F):∃ s a c,row = [Iv v.key,Iv v.tag.time,Iv v.tag.place,s,.str v.text,.bool v.gone] /\
  (∀ {R':Type} (K:Pq->Nat->Nq->Option R'),eS 2 s K=K a v.past.length c)/\RTags ro h [.sl 2 a v.past.length c] v.past F:=by
 obtain ⟨s,rfl,hp⟩:=hv;obtain ⟨a,c,es,hp2⟩:=hp.form;exact ⟨s,a,c,rfl,es,hp2⟩
theorem RVers.get {l:List Ver} (hs:RVers ro h [.sl 6 a n c] l F) (hk:k<l.length):∃ o s a' c' G,a=some o /\
  ld h o.1 (o.2+k) 0 6=some [Iv l[k].key,Iv l[k].tag.time,Iv l[k].tag.place,s,.str l[k].text,.bool l[k].gone] /\
  (∀ {R':Type} (K:Pq->Nat->Nq->Option R'),eS 2 s K=K a' l[k].past.length c')/\RTags ro h [.sl 2 a' l[k].past.length c'] l[k].past G/\(∀ b∈G,b∈F):=by
 obtain ⟨o,row,G,h1,h2,hv,hG,_⟩:=hs.read hk;obtain ⟨s,a',c',rfl,es,hp⟩:=hv.form;exact ⟨o,s,a',c',G,h1,by rw[h2];rfl,es,hp,hG⟩
theorem RVss.get {l:List (List Ver)} (hs:RVss ro h [.sl 1 a n c] l F) (hk:k<l.length):∃ o s a' c' G,a=some o/\ld h o.1 (o.2+k) 0 1=some [s] /\
  (∀ {R':Type} (K:Pq->Nat->Nq->Option R'),eS 6 s K=K a' l[k].length c')/\RVers ro h [.sl 6 a' l[k].length c'] l[k] G/\(∀ b∈G,b∈F):=by
 obtain ⟨o,row,G,h1,h2,hv,hG,_⟩:=hs.read hk;have:∃ s,row = [s]:=by obtain ⟨R',a',c',e,_⟩:=hv;exact ⟨_,e⟩
 obtain ⟨s,rfl⟩:=this;obtain ⟨a',c',es,hp⟩:=hv.form;exact ⟨o,s,a',c',G,h1,by rw[h2];rfl,es,hp,hG⟩
theorem RNode.form {row:List V}{x:Node} (hv:RNode ro h row x F):∃ s1 s2 a1 c1 a2 c2 F1 F2,row = [s1,s2]/\F=F1++F2 /\
  (∀ {R':Type} (K:Pq->Nat->Nq->Option R'),eS 6 s1 K=K a1 x.store.length c1)/\(∀ {R':Type} (K:Pq->Nat->Nq->Option R'),eS 6 s2 K=K a2 x.wait.length c2) /\
  RVers ro h [.sl 6 a1 x.store.length c1] x.store F1/\RVers ro h [.sl 6 a2 x.wait.length c2] x.wait F2:=by
 obtain ⟨s1,s2,F1,F2,rfl,rfl,h1,h2⟩:=hv;obtain ⟨a1,c1,e1,g1⟩:=h1.form;obtain ⟨a2,c2,e2,g2⟩:=h2.form;exact ⟨s1,s2,a1,c1,a2,c2,F1,F2,rfl,rfl,e1,e2,g1,g2⟩
theorem RNodes.get {l:List Node} (hs:RNodes ro h [.sl 2 a n c] l F) (hk:k<l.length):∃ o s1 s2 a1 c1 a2 c2 F1 F2,a=some o/\ld h o.1 (o.2+k) 0 2=some [s1,s2]/\ld h o.1 (o.2+k) 0 1=some [s1]/\ld h o.1 (o.2+k) 1 1=some [s2] /\
  (∀ {R':Type} (K:Pq->Nat->Nq->Option R'),eS 6 s1 K=K a1 l[k].store.length c1)/\(∀ {R':Type} (K:Pq->Nat->Nq->Option R'),eS 6 s2 K=K a2 l[k].wait.length c2) /\
  RVers ro h [.sl 6 a1 l[k].store.length c1] l[k].store F1/\RVers ro h [.sl 6 a2 l[k].wait.length c2] l[k].wait F2/\(∀ b∈F1,b∈F)/\(∀ b∈F2,b∈F):=by
 obtain ⟨o,row,G,h1,h2,hv,hG,_⟩:=hs.read hk;obtain ⟨s1,s2,a1,c1,a2,c2,F1,F2,rfl,rfl,e1,e2,g1,g2⟩:=hv.form;exact ⟨o,s1,s2,a1,c1,a2,c2,F1,F2,h1,by rw[h2];rfl,by rw[h2];rfl,by rw[h2];rfl,e1,e2,g1,g2,λb hb=>hG b (zgN _ hb),λb hb=>hG b (zgP _ hb)⟩
theorem RPlace.form {row:List V}{p:Place} (hv:RPlace ro h row p F):∃ s1 s2 s3 a1 c1 a2 c2 a3 c3 F1 F2 F3,row = [Iv p.me,Iv p.clock,s1,s2,s3,.bool p.fell]/\F=F1++(F2++F3) /\
  (∀ {R':Type} (K:Pq->Nat->Nq->Option R'),eS 2 s1 K=K a1 p.chain.length c1)/\(∀ {R':Type} (K:Pq->Nat->Nq->Option R'),eS 6 s2 K=K a2 p.log.length c2) /\
  (∀ {R':Type} (K:Pq->Nat->Nq->Option R'),eS 1 s3 K=K a3 p.got.length c3) /\
  RNodes ro h [.sl 2 a1 p.chain.length c1] p.chain F1/\RVers ro h [.sl 6 a2 p.log.length c2] p.log F2/\RVss ro h [.sl 1 a3 p.got.length c3] p.got F3:=by
 obtain ⟨s1,s2,s3,F1,F2,F3,rfl,rfl,h1,h2,h3⟩:=hv;obtain ⟨a1,c1,e1,g1⟩:=h1.form;obtain ⟨a2,c2,e2,g2⟩:=h2.form;obtain ⟨a3,c3,e3,g3⟩:=h3.form;exact ⟨s1,s2,s3,a1,c1,a2,c2,a3,c3,F1,F2,F3,rfl,rfl,e1,e2,e3,g1,g2,g3⟩
end
def E4 (left:Int) (s:Nat):Int:=if (s:Int)<=left then left - s else -1
theorem zdW {s:Nat} (h:0<=left):E4 left s<0<->¬ (s:Int)<=left:=by unfold E4;split<;>omega
theorem FX {s t:Nat} (h:0<=left):(if E4 left s<0 then -1 else E4 (E4 left s) t)=E4 left (s+t):=by
 unfold E4;by_cases h1:(s:Int)<=left
 ·rw[if_pos h1,if_neg (by omega)];by_cases h2:(t:Int)<=left - s
  ·rw[if_pos h2,if_pos (by omega)];omega
  ·rw[if_neg h2,if_neg (by omega)]
 ·rw[if_neg h1,if_pos (by omega),if_neg (by omega)]
theorem KE {n:Nat}{x y:Option α} (h0:0<=left) (hl:left<=1048576) (hn:n<=maxLen):br (decide (Ap (left - (n:Int))<0)) x y=if E4 left n<0 then x else y:=by
 have hm:maxLen=9223372036854775807:=by decide
 rw[wr (by omega) (by omega)];by_cases h1:(n:Int)<=left
 ·rw[Ai (by omega),if_neg (by unfold E4;rw[if_pos h1];omega)]
 ·rw[Ak (by omega),if_pos (by unfold E4;rw[if_neg h1];omega)]
theorem MP {sz:α->Nat}{h:Heap} (L:Int->Nat->Ov)
  (step:∀ i (hi:i<l.length) left,0<=left->left<=1048576->L left i=if E4 left (sz l[i])<0 then some (Iv (-1),h) else L (E4 left (sz l[i])) (i+1))
  (done:∀ left,L left l.length=some (Iv left,h)) (h0:0<=left) (h1:left<=1048576):L left 0=some (Iv (E4 left (l.map sz).sum),h):=by
 have loop:∀ m i left,m+i=l.length->0<=left->left<=1048576->L left i=some (Iv (E4 left ((l.drop i).map sz).sum),h):=by
  intro m;induction m with
  | zero =>
   intro i left hi h0 h1;have:i=l.length:=by omega
   subst this;rw[done,List.drop_length];simp[E4,h0]
  | succ m ih =>
   intro i left hi h0 h1;have hlt:i<l.length:=by omega
   rw[step i hlt left h0 h1,zfT hlt,zgV,zhh,<- FX h0];by_cases hn:E4 left (sz l[i])<0
   ·rw[if_pos hn,if_pos hn]
   ·rw[if_neg hn,if_neg hn];have hle:E4 left (sz l[i])<=left:=by unfold E4;split<;>omega
    exact ih (i+1) _ (by omega) (by omega) (by omega)
 exact loop l.length 0 left (by omega) h0 h1
theorem BB {T:Type}{p:α->Bool} (L:Nat->Option T) (no yes:Option T)
  (step:∀ i (hi:i<l.length),L i=if p l[i]=true then L (i+1) else no) (done:L l.length=yes):L 0=if l.all p=true then yes else no:=by
 have loop:∀ m i,m+i=l.length->L i=if (l.drop i).all p=true then yes else no:=by
  intro m;induction m with
  | zero =>
   intro i hi;have:i=l.length:=by omega
   subst this;rw[done,List.drop_length];simp
  | succ m ih =>
   intro i hi;have hlt:i<l.length:=by omega
   rw[step i hlt,zfT hlt,List.all_cons];cases hp:p l[i]
   ·simp
   ·simpa using ih (i+1) (by omega)
 exact loop l.length 0 (by omega)


variable {l:List Node}
def Ox (v:Ver):Nat:=v.past.length+v.text.size
def FN (l:List Ver):Nat:=l.length+(l.map Ox).sum
def Vy (l:List (List Ver)):Nat:=l.length+(l.map FN).sum
def NM (x:Node):Nat:=FN x.store+FN x.wait
def HU (l:List Node):Nat:=l.length+(l.map NM).sum
def I0 (p:Place):Nat:=HU p.chain+FN p.log+Vy p.got
def NH (v:Ver):Prop:=v.past.length<=maxLen/\v.text.size<=maxLen
def LT (l:List Ver):Prop:=l.length<=maxLen/\∀ v∈l,NH v
def zdH (l:List (List Ver)):Prop:=l.length<=maxLen/\∀ v∈l,LT v
def XE (x:Node):Prop:=LT x.store/\LT x.wait
def Pf (l:List Node):Prop:=l.length<=maxLen/\∀ v∈l,XE v
def Nl (p:Place):Prop:=Pf p.chain/\LT p.log/\zdH p.got
section
variable {lo:Nat}{ro:Bool}{h:Heap}{F:List Nat}{a:Pq}{c:Nq}{left:Int}
theorem GL {α:Type}{x:Int}{y z:Option α}:br (decide (x<0)) y z=if x<0 then y else z:=by
 by_cases h:x<0
 ·rw[Ak h,if_pos h]
 ·rw[Ai h,if_neg h]
theorem HV {left:Int}{s:Nat} (h0:0<=left):E4 left s<=left:=by unfold E4;split<;>omega
theorem Mb {left:Int}{s:Nat}{h:Heap} (h0:0<=left):(if E4 left s<0 then some (Iv (-1),h) else some (Iv (E4 left s),h))=some (Iv (E4 left s),h):=by
 unfold E4;by_cases h1:(s:Int)<=left
 ·rw[if_pos h1,if_neg (by omega)]
 ·rw[if_neg h1];rfl
theorem GW {left:Int}{n:Nat} (h0:0<=left) (h1:left<=1048576) (h2:n<=maxLen) (hn:¬ E4 left n<0):Ap (left - (n:Int))=E4 left n:=by
 have hm:maxLen=9223372036854775807:=by decide
 rw[wr (by omega) (by omega)];unfold E4 at hn ⊢;split
 ·rfl
 ·rename_i h;rw[if_neg h] at hn;omega
theorem YQ {n:Nat} (hn:n<=maxLen) (h0:0<=left) (h1:left<=1048576):Af lo 285 [.sl 2 a n c,Iv left] h=some (Iv (E4 left n),h):=by
 refine Ve (h':=h) ?_;rw[KE h0 h1 hn];by_cases hh:E4 left n<0
 ·rw[if_pos hh];unfold E4 at hh ⊢;split<;>simp_all;omega
 ·rw[if_neg hh,GW h0 h1 hn hh]
theorem Rb {n:Nat} (hn:n<=maxLen) (h0:0<=left) (h1:left<=1048576):Af lo 246 [.agg [.sl 2 a n c],Iv left] h=some (Iv (E4 left n),h):=by refine Vg (h':=h) ?_;rw[YQ hn h0 h1];simp only[Ad,Aa,GL];exact Mb h0
theorem SS {v:Ver} (hb:NH v) (h0:0<=left) (h1:left<=1048576):Af lo 247 [.agg (v.cs a c),Iv left] h=some (Iv (E4 left (Ox v)),h):=by
 refine XW (h':=h) ?_;rw[Rb hb.1 h0 h1];simp only[Ad,Aa,GL];unfold Ox;rw[<- FX h0];by_cases hn:E4 left v.past.length<0
 ·rw[if_pos hn,if_pos hn]
 ·rw[if_neg hn,if_neg hn];have hle:=HV (s:=v.past.length) h0;generalize E4 left v.past.length=l2 at hn hle ⊢;have:=KE (left:=l2) (n:=v.text.size) (x:=some (Iv (-1),h)) (y:=some (Iv (Ap (l2 - (v.text.size:Int))),h)) (by omega) (by omega) hb.2;rw[GL] at this;rw[this];by_cases h3:E4 l2 v.text.size<0
  ·rw[if_pos h3];unfold E4 at h3 ⊢;split<;>simp_all;omega
  ·rw[if_neg h3,GW (by omega) (by omega) hb.2 h3]
theorem Kn {l:List Ver} (hs:RVers ro h [.sl 6 a l.length c] l F) (hb:LT l) (h0:0<=left) (h1:left<=1048576):Af lo 244 [.sl 6 a l.length c,Iv left] h=some (Iv (E4 left (FN l)),h):=by
 refine Vd (h':=h) ?_;unfold FN;rw[KE h0 h1 hb.1,<- FX h0];by_cases hn:E4 left l.length<0
 ·rw[if_pos hn,if_pos hn]
 ·rw[if_neg hn,if_neg hn,GW h0 h1 hb.1 hn];have hle:=HV (s:=l.length) h0;have hbig:l.length<=1048576:=by unfold E4 at hn;split at hn<;>omega
  refine MP (sz:=Ox) (L:=λleft i=>D9 (List.length h) a l.length c left 0 (i:Nat) h) (λi hi left g0 g1=>?_) (λleft=>?_) (by omega) (by omega)
  ·obtain ⟨o,s,a',c',G,rfl,ho,es,hp,_⟩:=hs.get hi;rw[D9.e,Ak (by omega),Ac hi];simp only[Ae,AW,ho,Ab,Aa,es,A4,AB,Ag];rw[SS (hb.2 _ (zfD hi)) g0 g1];simp only[Ad,Aa,GL,Am (show i<9223372036854775807 by omega)]
  ·rw[D9.e,Ai (by omega)]
theorem WP {l:List (List Ver)} (hs:RVss ro h [.sl 1 a l.length c] l F) (hb:zdH l) (h0:0<=left) (h1:left<=1048576):Af lo 245 [.sl 1 a l.length c,Iv left] h=some (Iv (E4 left (Vy l)),h):=by
 refine TX (h':=h) ?_;unfold Vy;rw[KE h0 h1 hb.1,<- FX h0];by_cases hn:E4 left l.length<0
 ·rw[if_pos hn,if_pos hn]
 ·rw[if_neg hn,if_neg hn,GW h0 h1 hb.1 hn];have hle:=HV (s:=l.length) h0;have hbig:l.length<=1048576:=by unfold E4 at hn;split at hn<;>omega
  refine MP (sz:=FN) (L:=λleft i=>Dt (List.length h) a l.length c left 0 (i:Nat) h) (λi hi left g0 g1=>?_) (λleft=>?_) (by omega) (by omega)
  ·obtain ⟨o,s,a',c',G,rfl,ho,es,hp,_⟩:=hs.get hi;rw[Dt.e,Ak (by omega),Ac hi];simp only[Ae,AW,ho,Ab,es,Ag];rw[Kn hp (hb.2 _ (zfD hi)) g0 g1];simp only[Ad,Aa,GL,Am (show i<9223372036854775807 by omega)]
  ·rw[Dt.e,Ai (by omega)]
theorem WQ {l:List Ver} (hs:RVers ro h [.sl 6 a l.length c] l F) (hb:LT l) (h0:0<=left) (h1:left<=1048576):Af lo 312 [.agg [.sl 6 a l.length c],Iv left] h=some (Iv (E4 left (FN l)),h):=by refine TY (h':=h) ?_;rw[Kn hs hb h0 h1];simp only[Ad,Aa,GL];exact Mb h0
theorem YS {x:Node}{a1 a2:Pq}{c1 c2:Nq}{F1 F2:List Nat} (hs1:RVers ro h [.sl 6 a1 x.store.length c1] x.store F1) (hs2:RVers ro h [.sl 6 a2 x.wait.length c2] x.wait F2) (hb:XE x) (h0:0<=left) (h1:left<=1048576) :
  Af lo 303 [.agg [.sl 6 a1 x.store.length c1,.sl 6 a2 x.wait.length c2],Iv left] h=some (Iv (E4 left (NM x)),h):=by
 refine Vi (h':=h) ?_;unfold NM;rw[WQ hs1 hb.1 h0 h1];simp only[Ad,Aa,GL];rw[<- FX h0];by_cases hn:E4 left (FN x.store)<0
 ·rw[if_pos hn,if_pos hn]
 ·rw[if_neg hn,if_neg hn];have hle:=HV (s:=FN x.store) h0;rw[Kn hs2 hb.2 (by omega) (by omega)];simp only[Ad,Aa,GL];exact Mb (by omega)
theorem WU (hs:RNodes ro h [.sl 2 a l.length c] l F) (hb:Pf l) (h0:0<=left) (h1:left<=1048576):Af lo 284 [.sl 2 a l.length c,Iv left] h=some (Iv (E4 left (HU l)),h):=by
 refine T2 (h':=h) ?_;unfold HU;rw[KE h0 h1 hb.1,<- FX h0];by_cases hn:E4 left l.length<0
 ·rw[if_pos hn,if_pos hn]
 ·rw[if_neg hn,if_neg hn,GW h0 h1 hb.1 hn];have hle:=HV (s:=l.length) h0;have hbig:l.length<=1048576:=by unfold E4 at hn;split at hn<;>omega
  refine MP (sz:=NM) (L:=λleft i=>Dv (List.length h) a l.length c left 0 (i:Nat) h) (λi hi left g0 g1=>?_) (λleft=>?_) (by omega) (by omega)
  ·obtain ⟨o,s1,s2,a1,c1,a2,c2,F1,F2,rfl,ho,_,_,e1,e2,hp1,hp2,_⟩:=hs.get hi;rw[Dv.e,Ak (by omega),Ac hi];simp only[Ae,AW,ho,Ab,e1,e2,Ag];rw[YS hp1 hp2 (hb.2 _ (zfD hi)) g0 g1];simp only[Ad,Aa,GL,Am (show i<9223372036854775807 by omega)]
  ·rw[Dv.e,Ai (by omega)]
theorem WX (hs:RNodes ro h [.sl 2 a l.length c] l F) (hb:Pf l) (h0:0<=left) (h1:left<=1048576):Af lo 243 [.agg [.sl 2 a l.length c],Iv left] h=some (Iv (E4 left (HU l)),h):=by refine T6 (h':=h) ?_;rw[WU hs hb h0 h1];simp only[Ad,Aa,GL];exact Mb h0
theorem WT {p:Place}{a1 a2 a3:Pq}{c1 c2 c3:Nq}{F1 F2 F3:List Nat} (hs1:RNodes ro h [.sl 2 a1 p.chain.length c1] p.chain F1) (hs2:RVers ro h [.sl 6 a2 p.log.length c2] p.log F2)
  (hs3:RVss ro h [.sl 1 a3 p.got.length c3] p.got F3) (hb:Nl p) (h0:0<=left) (h1:left<=1048576) :
  Af lo 177 [.agg [Iv p.me,Iv p.clock,.sl 2 a1 p.chain.length c1,.sl 6 a2 p.log.length c2,.sl 1 a3 p.got.length c3,.bool p.fell],Iv left] h=some (Iv (E4 left (I0 p)),h):=by
 refine T0 (h':=h) ?_;unfold I0;rw[WX hs1 hb.1 h0 h1];simp only[Ad,Aa,GL];rw[<- FX h0,<- FX h0];by_cases hn:E4 left (HU p.chain)<0
 ·rw[if_pos hn,if_pos hn,if_pos (by decide)]
 ·rw[if_neg hn,if_neg hn];have hle:=HV (s:=HU p.chain) h0;rw[Kn hs2 hb.2.1 (by omega) (by omega)];simp only[Ad,Aa,GL];by_cases hn2:E4 (E4 left (HU p.chain)) (FN p.log)<0
  ·rw[if_pos hn2,if_pos hn2]
  ·rw[if_neg hn2,if_neg hn2];have hle2:=HV (left:=E4 left (HU p.chain)) (s:=FN p.log) (by omega);rw[WP hs3 hb.2.2 (by omega) (by omega)];simp only[Ad,Aa,GL];exact Mb (by omega)
end
def Ci (l:List Ver):Prop:=l.length<=1048576/\∀ v∈l,v.past.length<=1048576/\v.text.size<=1048576
def VE (l:List (List Ver)):Prop:=l.length<=1048576/\∀ v∈l,Ci v
def B8 (l:List Node):Prop:=l.length<=1048576/\∀ x∈l,Ci x.store/\Ci x.wait
def Ef (p:Place):Prop:=B8 p.chain/\Ci p.log/\VE p.got
theorem NY {α:Type}{f:α->Nat}:∀ {l:List α}{x:α},x∈l->f x<=(l.map f).sum
 | y :: l,x,h=>by
  simp only[zgV,zhh];rcases zfL.1 h with rfl | h
  ·omega
  ·have:=NY (f:=f) h;omega
theorem RZ {l:List Ver} (h:FN l<=1048576):Ci l:=by unfold FN at h;refine ⟨by omega,λv hv=>?_⟩;have:=NY (f:=Ox) hv;have e:Ox v=v.past.length+v.text.size:=rfl;omega
theorem zeT {l:List (List Ver)} (h:Vy l<=1048576):VE l:=by unfold Vy at h;refine ⟨by omega,λv hv=>RZ ?_⟩;have:=NY (f:=FN) hv;omega
theorem zcK (h:HU l<=1048576):B8 l:=by unfold HU at h;refine ⟨by omega,λv hv=>?_⟩;have:=NY (f:=NM) hv;have e:NM v=FN v.store+FN v.wait:=rfl;exact ⟨RZ (by omega),RZ (by omega)⟩
theorem zcJ {p:Place} (h:I0 p<=1048576):Ef p:=by unfold I0 at h;exact ⟨zcK (by omega),RZ (by omega),zeT (by omega)⟩
section
variable {lo:Nat}{ro:Bool}{h:Heap}{F:List Nat}{a:Pq}{c:Nq}
theorem YM {l:List Tag} (hs:RTags true h [.sl 2 a l.length c] l F) (hl:lo<=h.length) (hn:l.length<=1048576) :
  ∃ a' h' F',Af lo 294 [.sl 2 a l.length c] h=some (.sl 2 a' l.length (some l.length),h')/\RTags false h' [.sl 2 a' l.length (some l.length)] l F'/\Mv h [] h' F':=by
 obtain ⟨h',F',e,r,m⟩:=GF (El:=flat Tag.cs) EG (h0:=h) (l:=l) (f:=id) (lo:=lo) (R:=2) (e:=zdm false) (z := [Iv 0,Iv 0]) rfl hl
  (λi hh=>D8 lo a l.length c (some (h.length,0)) l.length (some l.length) (i:Nat) hh) (λi hi hh m=>by
   obtain ⟨o,rfl,ho⟩:=(m.keep0 rtags_ok hs).get hi;refine ⟨[Iv l[i].time,Iv l[i].place],[],hh,⟨rfl,rfl⟩,Mv.nil,rfl,?_⟩;rw[D8.e,Ak (by omega),Ac hi];simp only[Ae,AW,ho,Ab,Aa,Ag,LH,Ad,AN,Ac hi,zfY,Am (show i<9223372036854775807 by omega)])
 refine ⟨some (h.length,0),h',F',U8 ?_,by rw[zgU] at r;exact r,m⟩;rw[EF (by omega)];refine e.trans ?_;rw[D8.e,Ai (by omega)]
theorem Q9 {l:List Tag} (hs:RTags true h [.sl 2 a l.length c] l F) (hl:lo<=h.length) (hn:l.length<=1048576) :
  ∃ a' h' F',Af lo 264 [.agg [.sl 2 a l.length c]] h=some (.agg [.sl 2 a' l.length (some l.length)],h')/\RTags false h' [.sl 2 a' l.length (some l.length)] l F'/\Mv h [] h' F':=by
 obtain ⟨a',h',F',e,r⟩:=YM hs hl hn;refine ⟨a',h',F',Va ?_,r⟩;rw[e];simp only[Ad,Ah]
theorem SR {v:Ver} (hs:RTags true h [.sl 2 a v.past.length c] v.past F) (hl:lo<=h.length) (hn:v.past.length<=1048576) :
  ∃ a' c' h' F',Af lo 266 [.agg (v.cs a c)] h=some (.agg (v.cs a' c'),h')/\RTags false h' [.sl 2 a' v.past.length c'] v.past F'/\Mv h [] h' F':=by
 obtain ⟨a',h',F',e,r⟩:=Q9 hs hl hn;refine ⟨a',_,h',F',XU ?_,r⟩;rw[LH];simp only[Ad,AN,Ab,Aa,Ag];rw[e];simp only[Ad,AN,Ab,Ah,Ag]
theorem Km {l:List Ver} (hs:RVers true h [.sl 6 a l.length c] l F) (hl:lo<=h.length) (hn:Ci l) :
  ∃ a' h' F',Af lo 262 [.sl 6 a l.length c] h=some (.sl 6 a' l.length (some l.length),h')/\RVers false h' [.sl 6 a' l.length (some l.length)] l F'/\Mv h [] h' F':=by
 have hn1:=hn.1;obtain ⟨h',F',e,r,m⟩:=GF (El:=RVer false) rver_ok (h0:=h) (l:=l) (f:=id) (lo:=lo) (R:=6) (e:=J0 false) (z := [Iv 0,Iv 0,Iv 0,.sl 0 none 0 (some 0),.str ⟨⟨[]⟩⟩,.bool false]) rfl hl
  (λi hh=>D7 lo a l.length c (some (h.length,0)) l.length (some l.length) (i:Nat) hh) (λi hi hh m=>by
   obtain ⟨o,s,a2,c2,G,rfl,ho,es,hp,_⟩:=(m.keep0 rvers_ok hs).get hi;obtain ⟨a3,c3,h3,F3,e3,r3,m3⟩:=SR (lo:=lo) (v:=l[i]) hp (zfE hl m.le) (hn.2 _ (zfD hi)).1;refine ⟨l[i].cs a3 c3,F3,h3,⟨_,rfl,r3⟩,m3,rfl,?_⟩;rw[D7.e,Ak (by omega),Ac hi];simp only[Ae,AW,ho,Ab,Aa,es,A4,AB,Ag];rw[e3];simp only[Ae,AW,Ab,Aa,Ah,A4,AB,Ag,Ad,AN,Ac hi,zfY,Am (show i<9223372036854775807 by omega)])
 refine ⟨some (h.length,0),h',F',U7 ?_,by rw[zgU] at r;exact r,m⟩;rw[EF (by omega)];refine e.trans ?_;rw[D7.e,Ai (by omega)]
theorem WG {l:List (List Ver)} (hs:RVss true h [.sl 1 a l.length c] l F) (hl:lo<=h.length) (hn:VE l) :
  ∃ a' h' F',Af lo 263 [.sl 1 a l.length c] h=some (.sl 1 a' l.length (some l.length),h')/\RVss false h' [.sl 1 a' l.length (some l.length)] l F'/\Mv h [] h' F':=by
 have hn1:=hn.1;obtain ⟨h',F',e,r,m⟩:=GF (El:=RVers false) rvers_ok (h0:=h) (l:=l) (f:=id) (lo:=lo) (R:=1) (e:=Zd false) (z := [.sl 0 none 0 (some 0)]) rfl hl
  (λi hh=>Dp lo a l.length c (some (h.length,0)) l.length (some l.length) (i:Nat) hh) (λi hi hh m=>by
   obtain ⟨o,s,a2,c2,G,rfl,ho,es,hp,_⟩:=(m.keep0 rvss_ok hs).get hi;obtain ⟨a3,h3,F3,e3,r3,m3⟩:=Km (lo:=lo) hp (zfE hl m.le) (hn.2 _ (zfD hi));refine ⟨[.sl 6 a3 l[i].length (some l[i].length)],F3,h3,r3,m3,rfl,?_⟩;rw[Dp.e,Ak (by omega),Ac hi];simp only[Ae,AW,ho,Ab,es,Ag];rw[e3];simp only[Ae,AW,Ah,Ad,Ac hi,zfY,Am (show i<9223372036854775807 by omega)])
 refine ⟨some (h.length,0),h',F',TL ?_,by rw[zgU] at r;exact r,m⟩;rw[EF (by omega)];refine e.trans ?_;rw[Dp.e,Ai (by omega)]
theorem WH {l:List Ver} (hs:RVers true h [.sl 6 a l.length c] l F) (hl:lo<=h.length) (hn:Ci l) :
  ∃ a' h' F',Af lo 313 [.agg [.sl 6 a l.length c]] h=some (.agg [.sl 6 a' l.length (some l.length)],h')/\RVers false h' [.sl 6 a' l.length (some l.length)] l F'/\Mv h [] h' F':=by
 obtain ⟨a',h',F',e,r⟩:=Km hs hl hn;refine ⟨a',h',F',TM ?_,r⟩;rw[e];simp only[Ad,Ah]
theorem YO {x:Node}{a1 a2:Pq}{c1 c2:Nq}{F1 F2:List Nat} (hs1:RVers true h [.sl 6 a1 x.store.length c1] x.store F1) (hs2:RVers true h [.sl 6 a2 x.wait.length c2] x.wait F2) (hl:lo<=h.length) (hn:Ci x.store/\Ci x.wait) :
  ∃ a1' c1' a2' c2' h' F',Af lo 308 [.agg [.sl 6 a1 x.store.length c1,.sl 6 a2 x.wait.length c2]] h=some (.agg [.sl 6 a1' x.store.length c1',.sl 6 a2' x.wait.length c2'],h') /\
   RNode false h' [.sl 6 a1' x.store.length c1',.sl 6 a2' x.wait.length c2'] x F'/\Mv h [] h' F':=by
 obtain ⟨a1',h1,G1,e1,r1,m1⟩:=WH hs1 hl hn.1;obtain ⟨a2',h2,G2,e2,r2,m2⟩:=Km (m1.keep0 rvers_ok hs2) (zfE hl m1.le) hn.2;refine ⟨a1',_,a2',_,h2,G1++G2,Vb ?_,⟨_,_,G1,G2,rfl,rfl,m2.keep0 rvers_ok r1,r2⟩,m1.join m2 (rvers_ok.bd _ _ _ _ r1)⟩;rw[e1];simp only[Ad,AN,Ab,Ah,Ag];rw[e2];simp only[Ad,Ah]
theorem WK (hs:RNodes true h [.sl 2 a l.length c] l F) (hl:lo<=h.length) (hn:B8 l) :
  ∃ a' h' F',Af lo 293 [.sl 2 a l.length c] h=some (.sl 2 a' l.length (some l.length),h')/\RNodes false h' [.sl 2 a' l.length (some l.length)] l F'/\Mv h [] h' F':=by
 have hn1:=hn.1;obtain ⟨h',F',e,r,m⟩:=GF (El:=RNode false) rnode_ok (h0:=h) (l:=l) (f:=id) (lo:=lo) (R:=2) (e:=O5 false) (z := [.sl 0 none 0 (some 0),.sl 0 none 0 (some 0)]) rfl hl
  (λi hh=>Dr lo a l.length c (some (h.length,0)) l.length (some l.length) (i:Nat) hh) (λi hi hh m=>by
   obtain ⟨o,s1,s2,a1,c1,a2,c2,F1,F2,rfl,ho,_,_,e1,e2,hp1,hp2,_⟩:=(m.keep0 rnodes_ok hs).get hi;obtain ⟨a3,c3,a4,c4,h3,F3,e3,r3,m3⟩:=YO (lo:=lo) hp1 hp2 (zfE hl m.le) (hn.2 _ (zfD hi));refine ⟨_,F3,h3,r3,m3,rfl,?_⟩;rw[Dr.e,Ak (by omega),Ac hi];simp only[Ae,AW,ho,Ab,e1,e2,Ag];rw[e3];simp only[Ae,AW,Ab,Ah,Ag,Ad,AN,Ac hi,zfY,Am (show i<9223372036854775807 by omega)])
 refine ⟨some (h.length,0),h',F',TQ ?_,by rw[zgU] at r;exact r,m⟩;rw[EF (by omega)];refine e.trans ?_;rw[Dr.e,Ai (by omega)]
theorem WO (hs:RNodes true h [.sl 2 a l.length c] l F) (hl:lo<=h.length) (hn:B8 l) :
  ∃ a' h' F',Af lo 261 [.agg [.sl 2 a l.length c]] h=some (.agg [.sl 2 a' l.length (some l.length)],h')/\RNodes false h' [.sl 2 a' l.length (some l.length)] l F'/\Mv h [] h' F':=by
 obtain ⟨a',h',F',e,r⟩:=WK hs hl hn;refine ⟨a',h',F',TU ?_,r⟩;rw[e];simp only[Ad,Ah]
abbrev Place.cs (p:Place) (a1:Pq) (c1:Nq) (a2:Pq) (c2:Nq) (a3:Pq) (c3:Nq):List V :=
 [Iv p.me,Iv p.clock,.sl 2 a1 p.chain.length c1,.sl 6 a2 p.log.length c2,.sl 1 a3 p.got.length c3,.bool p.fell]
theorem WJ {p:Place}{a1 a2 a3:Pq}{c1 c2 c3:Nq}{F1 F2 F3:List Nat} (hs1:RNodes true h [.sl 2 a1 p.chain.length c1] p.chain F1) (hs2:RVers true h [.sl 6 a2 p.log.length c2] p.log F2)
  (hs3:RVss true h [.sl 1 a3 p.got.length c3] p.got F3) (hl:lo<=h.length) (hn:Ef p) :
  ∃ a1' c1' a2' c2' a3' c3' h' F',Af lo 188 [.agg (p.cs a1 c1 a2 c2 a3 c3)] h=some (.agg (p.cs a1' c1' a2' c2' a3' c3'),h')/\RPlace false h' (p.cs a1' c1' a2' c2' a3' c3') p F'/\Mv h [] h' F':=by
 obtain ⟨a1',h1,G1,e1,r1,m1⟩:=WO hs1 hl hn.1;obtain ⟨a2',h2,G2,e2,r2,m2⟩:=Km (m1.keep0 rvers_ok hs2) (zfE hl m1.le) hn.2.1;have m12:=m1.join m2 (rnodes_ok.bd _ _ _ _ r1);obtain ⟨a3',h3,G3,e3,r3,m3⟩:=WG (m2.keep0 rvss_ok (m1.keep0 rvss_ok hs3)) (zfE hl m12.le) hn.2.2;have r1':=m2.keep0 rnodes_ok r1;refine ⟨a1',_,a2',_,a3',_,h3,G1++(G2++G3),TP ?_,⟨_,_,_,G1,G2,G3,rfl,rfl,m3.keep0 rnodes_ok r1',m3.keep0 rvers_ok r2,r3⟩,?_⟩
 ·rw[e1];simp only[Ad,AN,Ab,Ah,Ag];rw[e2];simp only[Ad,Ah];rw[e3];simp only[Ad,Ah]
 ·have:=m12.join m3 (λb hb=>by
   rw[zfF] at hb;exact hb.elim (rnodes_ok.bd _ _ _ _ r1' b) (rvers_ok.bd _ _ _ _ r2 b))
  rwa [zfS] at this
end
end Go.Proofs.YtmgopagfoemomaaGreat
