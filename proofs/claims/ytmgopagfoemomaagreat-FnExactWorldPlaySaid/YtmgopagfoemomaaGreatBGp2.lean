/- Part 2 of what is shown for the law Gp, whatever the input; no condition of its own. -/
import Derived.Test.YtmgopagfoemomaaGreatBGp1
set_option linter.unusedVariables false
set_option linter.unusedSimpArgs false
set_option linter.unnecessarySimpa false
set_option maxRecDepth 100000
namespace Go.Proofs.YtmgopagfoemomaaGreat
open Go T
noncomputable section

variable {lo n m k i:Nat}{f:Bool}{a:Pq}{c:Nq}{y x:Int}{h:Heap}{j:Nat}{b:Pq}{p:Nq}{z t:Int}{h':Heap}{v:V}{w:Int}{S:ByteArray}{F:Bool}{r:V×Heap}{d A:Pq}{u s:Nq}{g G H:Nat}{B a0 a1:Pq}{C D c0:Nq}{l:List V}
def HO lo n m k f a i c x y h:=
 LA 82 Tryz.f82 221311 0 111 lo ⟨[(1,(Dt n m k)),(2,.bool f),(32,.sl 6 a i c),(33,Iv x),(34,Iv y)],[],h⟩
def Fm lo n m k f a i c x y h:=
 LA 82 Tryz.f82 2213111 2 1111 lo ⟨[(1,(Dt n m k)),(2,.bool f),(50,.sl 6 a i c),(51,Iv x),(52,Iv y)],[],h⟩
def Fl lo n m k f a i c x y b j p z t h:=
 Lp (X 82) lo (pf 221123112213111 Tryz.f82) 4 (AW 4 (AW 3 (kS (X 82) lo (pf 1112213111 Tryz.f82) 2 (WL (X 82) lo (pf 2213111 Tryz.f82) 2 (AW 2 (kS (X 82) lo (pf 1111 Tryz.f82) 0 (J7 (X 82) Tryz.f82.results.toList))))))) ⟨[(1,(Dt n m k)),(2,.bool f),(50,.sl 6 a i c),(51,Iv x),(52,Iv y),(57,.sl 1 b j p),(58,Iv z),(59,Iv t)],[],h⟩
theorem HO.e :
  HO lo n m k f a i c y x h=br (decide (x<y)) (An x i (eO a λv=>eO (ld h v.1 (v.2+x.toNat) 0 6) λv=>eC v λv l=>eI .i64 v λv=>eC l λl o=>eI .i64 l λl=>eC o λo s=>eS 2 o λo b z=>eC s λs u=>eS 6 s λs w p=>eC u λu q=>eS 1 u λu g j=>eC q λq t=>eBv q λq=>eN t (Ak (Af lo 13 [Br v l o b z s w p u g j q] h) λl o=>eB l (br (v==x) (HO lo n m k f a i c y (Al (x+1)) o) (AD o)) (AD o)))) (eO (ld h n m (k+0) 1) λv=>eC v λv l=>eN l (eS 6 v λv l o=>Fm lo n m k f v l o (l:Int) 0 h)) :=
 lE
theorem Fm.e :
  Fm lo n m k f a i c y x h=br (decide (x<y)) (An x i (eO a λv=>eO (ld h v.1 (v.2+x.toNat) 0 6) λv=>eC v λv l=>eI .i64 v λv=>eC l λv l=>eI .i64 v λv=>eC l λv l=>eS 2 v λv v v=>eC l λv l=>eS 6 v λv v v=>eC l λv l=>eS 1 v λv o s=>eC l λl b=>eBv l λl=>eN b (Fl lo n m k f a i c y x v o s (o:Int) 0 h))) (eO (ld h n m (k+1) 1) λv=>eC v λv l=>eN l (eS 5 v λv l o=>Ak (Af lo 159 [.sl 5 v l o,.fn 160 []] h) λv l=>eB v (AD l) (eO (ld l n m (k+2) 1) λv=>eC v λv o=>eN o (eS 9 v λv o s=>Ak (Af lo 162 [.sl 9 v o s,.fn 163 [Dt n m k]] l) λv l=>eB v (AD l) (Cn l))))) :=
 lE
theorem Fl.e :
  Fl lo n m k f a i c y z b j p t x h=br (decide (x<t)) (An x j (eO b λv=>eO (ld h v.1 (v.2+x.toNat) 0 1) λv=>eC v λv l=>eN l (eS 6 v λv l o=>eO (ld h n m (k+0) 1) λs=>eC s λs u=>eN u (eS 6 s λs u w=>An x u (eO s λs=>eO (ld h s.1 (s.2+x.toNat) 3 1) λs=>eC s λs u=>eN u (eS 6 s λs u w=>Ak (Af lo 158 (Ij s u w v l o) h) λv l=>eB v (Fl lo n m k f a i c y z b j p t (Al (x+1)) l) (AD l))))))) (Fm lo n m k f a i c y (Al (z+1)) h) :=
 lE
def CR lo a n c b m p f x h:=
 LA 83 Tryz.f83 221311 0 111 lo ⟨[(0,.sl 6 a n c),(1,.sl 6 b m p),(4,.bool f),(5,Iv x)],[],h⟩
theorem Qe (hk:(br ((n:Int)==(m:Int)) (CR h.length a n c b m p false 0 h) (AD h))=some (v,h')) (hn:noId v=true:=by rfl) :
  Af lo 83 (Ij a n c b m p) h=some (v,h) :=
 eD Tryz.func83 hk hn
theorem CR.e {lo n m:Nat}{a b:Pq}{c p:Nq}{f:Bool}{x:Int}{h:Heap} :
  CR lo a n c b m p f x h=br (decide (x<(n:Int))) (An x n (eO a λv=>eO (ld h v.1 (v.2+x.toNat) 0 6) λv=>eC v λv l=>eI .i64 v λv=>eC l λl o=>eI .i64 l λl=>eC o λo s=>eS 2 o λo y z=>eC s λs u=>eS 6 s λs w q=>eC u λu g=>eS 1 u λu i j=>eC g λg k=>eBv g λg=>eN k (An x m (eO b λk=>eO (ld h k.1 (k.2+x.toNat) 0 6) λk=>eC k λk t=>eI .i64 k λk=>eC t λt d=>eI .i64 t λt=>eC d λd e=>eS 2 d λd A B=>eC e λe C=>eS 6 e λe D E=>eC C λC G=>eS 1 C λC H J=>eC G λG K=>eBv G λG=>eN K (Ak (Af lo 165 [Br v l o y z s w q u i j g,Br k t d A B e D E C H J G] h) λv l=>eB v (CR lo a n c b m p f (Al (x+1)) l) (AD l)))))) (Cn h) :=
 lE
def C5 lo a n c b m p f x h:=
 LA 84 Tryz.f84 221311 0 111 lo ⟨[(0,.sl 5 a n c),(1,.sl 5 b m p),(4,.bool f),(5,Iv x)],[],h⟩
theorem Sj (hk:(br ((n:Int)==(m:Int)) (C5 h.length a n c b m p false 0 h) (AD h))=some (v,h')) (hn:noId v=true:=by rfl) :
  Af lo 84 [.sl 5 a n c,.sl 5 b m p] h=some (v,h) :=
 eD Tryz.func84 hk hn
theorem C5.e :
  C5 lo a n c b m p f x h=br (decide (x<(n:Int))) (An x n (eO a λv=>eO (ld h v.1 (v.2+x.toNat) 0 5) λv=>eC v λv l=>eI .i64 v λv=>eC l λl o=>eS 2 l λl s y=>eC o λo z=>eI .i64 o λo=>eC z λz u=>eI .i64 z λz=>eC u λu w=>eI .i64 u λu=>eN w (An x m (eO b λw=>eO (ld h w.1 (w.2+x.toNat) 0 5) λw=>eC w λw q=>eI .i64 w λw=>eC q λq g=>eS 2 q λq i j=>eC g λg k=>eI .i64 g λg=>eC k λk t=>eI .i64 k λk=>eC t λt d=>eI .i64 t λt=>eN d (Ak (Af lo 166 [PL v l s y o z u,PL w q i j g k t] h) λv l=>eB v (C5 lo a n c b m p f (Al (x+1)) l) (AD l)))))) (Cn h) :=
 lE
def CS lo a n c b m p f x h:=
 LA 85 Tryz.f85 221311 0 111 lo ⟨[(0,.sl 9 a n c),(1,.sl 9 b m p),(4,.bool f),(5,Iv x)],[],h⟩
theorem Qf (hk:(br ((n:Int)==(m:Int)) (CS h.length a n c b m p false 0 h) (AD h))=some (v,h')) (hn:noId v=true:=by rfl) :
  Af lo 85 [.sl 9 a n c,.sl 9 b m p] h=some (v,h) :=
 eD Tryz.func85 hk hn
theorem CS.e {lo n m:Nat}{a b:Pq}{c p:Nq}{f:Bool}{x:Int}{h:Heap} :
  CS lo a n c b m p f x h=br (decide (x<(n:Int))) (An x n (eO a λv=>eO (ld h v.1 (v.2+x.toNat) 0 9) λv=>eC v λv l=>eI .i64 v λv=>eC l λl o=>eI .i64 l λl=>eC o λo s=>eI .i64 o λo=>eC s λs y=>eI .i64 s λs=>eC y λy z=>eI .i64 y λy=>eC z λz u=>eI .i64 z λz=>eC u λu w=>eS 2 u λu q g=>eC w λw i=>eT w λw=>eC i λi j=>eBv i λi=>eN j (An x m (eO b λj=>eO (ld h j.1 (j.2+x.toNat) 0 9) λj=>eC j λj k=>eI .i64 j λj=>eC k λk t=>eI .i64 k λk=>eC t λt d=>eI .i64 t λt=>eC d λd e=>eI .i64 d λd=>eC e λe A=>eI .i64 e λe=>eC A λA B=>eI .i64 A λA=>eC B λB C=>eS 2 B λB D E=>eC C λC G=>eT C λC=>eC G λG H=>eBv G λG=>eN H (Ak (Af lo 167 [PM v l o s y z u q g w i,PM j k t d e A B D E C G] h) λv l=>eB v (CS lo a n c b m p f (Al (x+1)) l) (AD l)))))) (Cn h) :=
 lE
def C7 lo a n c b m p f x h:=
 LA 86 Tryz.f86 221311 0 111 lo ⟨[(0,.sl 5 a n c),(1,.sl 5 b m p),(4,.bool f),(5,Iv x)],[],h⟩
theorem Sp (hk:(br ((n:Int)==(m:Int)) (C7 h.length a n c b m p false 0 h) (AD h))=some (v,h')) (hn:noId v=true:=by rfl) :
  Af lo 86 [.sl 5 a n c,.sl 5 b m p] h=some (v,h) :=
 eD Tryz.func86 hk hn
theorem C7.e :
  C7 lo a n c b m p f x h=br (decide (x<(n:Int))) (An x n (eO a λv=>eO (ld h v.1 (v.2+x.toNat) 0 5) λv=>eC v λv l=>eI .i64 v λv=>eC l λl o=>eI .i64 l λl=>eC o λo s=>eI .i64 o λo=>eC s λs y=>eI .i64 s λs=>eC y λy z=>eI .i64 y λy=>eN z (An x m (eO b λz=>eO (ld h z.1 (z.2+x.toNat) 0 5) λz=>eC z λz u=>eI .i64 z λz=>eC u λu w=>eI .i64 u λu=>eC w λw q=>eI .i64 w λw=>eC q λq g=>eI .i64 q λq=>eC g λg i=>eI .i64 g λg=>eN i (Ak (Af lo 168 [RE v l o s y,RE z u w q g] h) λv l=>eB v (C7 lo a n c b m p f (Al (x+1)) l) (AD l)))))) (Cn h) :=
 lE
theorem So {q M N:Int}{s0:ByteArray} (hk:(br (x==w) (br (y==q) (br (z==M) (br (t==N) (br (S.toList==s0.toList) (br (f==F) (Cn h) (AD h)) (AD h)) (AD h)) (AD h)) (AD h)) (AD h))=some (v,h')) (hn:noId v=true:=by rfl) :
  Af lo 87 [BT x y z t S f,BT w q M N s0 F] h=some (v,h) :=
 eD Tryz.func87 hk hn
def Ci lo x S h:=
 LA 88 Tryz.f88 223111 0 1111 lo ⟨[(0,Iv x),(3,.str S)],[],h⟩
theorem KV (hk:(br (decide (x<=0)) (some (.str ⟨⟨[109,48]⟩⟩,h)) (Ci h.length x ⟨⟨[]⟩⟩ h))=some (v,h')) (hn:noId v=true:=by rfl) :
  Af lo 88 (AN x) h=some (v,h) :=
 eD Tryz.func88 hk hn
theorem Ci.e :
  Ci lo x S h=br (decide (x>0)) (As 1 (h ++ [.rows 1 5 false [[.int .u8 (IntKind.wrap .u8 (Al (48+(x.tmod (10:Int)))))]]]) (.sl 1 (some (h.length,0)) 1 (some 1)) λv=>eO (Jg v) λv=>zcf (KH v) S λv=>Ci lo (Al (x.tdiv (10:Int))) v (h ++ [.rows 1 5 false [[.int .u8 (IntKind.wrap .u8 (Al (48+(x.tmod (10:Int)))))]]])) (zcf ⟨⟨[109]⟩⟩ S λv=>some (.str v,h)) :=
 lE
def By lo a n c x y h:=
 LA 89 Tryz.f89 22131 0 11 lo ⟨[(0,.sl 6 a n c),(1,Iv x),(5,Iv y)],[],h⟩
theorem NX (hk:(By lo a n c x 0 h)=some r) :
  Af lo 89 [.sl 6 a n c,Iv x] h=some r :=
 eK Tryz.func89 hk
theorem By.e :
  By lo a n c y x h=br (decide (x<(n:Int))) (An x n (eO a λv=>eO (st lo h v.1 (v.2+x.toNat) 0 (AN y)) λv=>An x n (eO a λl=>eO (st lo v l.1 (l.2+x.toNat) 1 (AN (Al (y+1)))) λv=>An x n (eO a λl=>eO (ld v l.1 (l.2+x.toNat) 2 1) λl=>eC l λl o=>eN o (eS 2 l λl o s=>Ak (Af lo 169 [.sl 2 l o s,Iv (Al ((Al (y+1))+1))] v) λv l=>eI .i64 v λv=>An x n (eO a λo=>eO (ld l o.1 (o.2+x.toNat) 3 1) λo=>eC o λo s=>eN s (eS 6 o λo s b=>Ak (Af lo 170 [.sl 6 o s b,Iv v] l) λv l=>eI .i64 v λv=>An x n (eO a λo=>eO (ld l o.1 (o.2+x.toNat) 4 1) λo=>eC o λo s=>eN s (eS 1 o λo s b=>Ak (Af lo 171 [.sl 1 o s b,Iv v] l) λv l=>eI .i64 v λv=>br (v.tmod (3:Int)==0) (An x n (eO a λo=>eO (st lo l o.1 (o.2+x.toNat) 5 [.bool true]) λo=>By lo a n c (Al (v+1)) (Al (x+1)) o)) (An x n (eO a λo=>eO (st lo l o.1 (o.2+x.toNat) 5 [.bool false]) λl=>By lo a n c (Al (v+1)) (Al (x+1)) l))))))))))) (some (Iv y,h)) :=
 lE
def Cs lo a n c x y h:=
 LA 90 Tryz.f90 22131 0 11 lo ⟨[(0,.sl 5 a n c),(1,Iv x),(5,Iv y)],[],h⟩
theorem O2 (hk:(Cs lo a n c x 0 h)=some r) :
  Af lo 90 [.sl 5 a n c,Iv x] h=some r :=
 eK Tryz.func90 hk
theorem Cs.e :
  Cs lo a n c y x h=br (decide (x<(n:Int))) (An x n (eO a λv=>eO (st lo h v.1 (v.2+x.toNat) 0 (AN y)) λv=>An x n (eO a λl=>eO (ld v l.1 (l.2+x.toNat) 1 1) λl=>eC l λl o=>eN o (eS 2 l λl o s=>Ak (Af lo 172 [.sl 2 l o s,Iv (Al (y+1))] v) λv l=>eI .i64 v λv=>An x n (eO a λo=>eO (st lo l o.1 (o.2+x.toNat) 2 (AN v)) λl=>An x n (eO a λo=>eO (st lo l o.1 (o.2+x.toNat) 3 (AN (Al (v+1)))) λl=>An x n (eO a λo=>eO (st lo l o.1 (o.2+x.toNat) 4 (AN (Al ((Al (v+1))+1)))) λl=>Cs lo a n c (Al ((Al ((Al (v+1))+1))+1)) (Al (x+1)) l))))))) (some (Iv y,h)) :=
 lE
def Bz lo a n c x y h:=
 LA 91 Tryz.f91 22131 0 11 lo ⟨[(0,.sl 9 a n c),(1,Iv x),(5,Iv y)],[],h⟩
theorem NY (hk:(Bz lo a n c x 0 h)=some r) :
  Af lo 91 [.sl 9 a n c,Iv x] h=some r :=
 eK Tryz.func91 hk
theorem Bz.e :
  Bz lo a n c y x h=br (decide (x<(n:Int))) (An x n (eO a λv=>eO (st lo h v.1 (v.2+x.toNat) 0 (AN y)) λv=>An x n (eO a λl=>eO (st lo v l.1 (l.2+x.toNat) 1 (AN (Al (y+1)))) λv=>An x n (eO a λl=>eO (st lo v l.1 (l.2+x.toNat) 2 (AN (Al ((Al (y+1))+1)))) λv=>An x n (eO a λl=>eO (st lo v l.1 (l.2+x.toNat) 3 (AN (Al ((Al ((Al (y+1))+1))+1)))) λv=>An x n (eO a λl=>eO (st lo v l.1 (l.2+x.toNat) 4 (AN (Al ((Al ((Al ((Al (y+1))+1))+1))+1)))) λv=>An x n (eO a λl=>eO (st lo v l.1 (l.2+x.toNat) 5 (AN (Al ((Al ((Al ((Al ((Al (y+1))+1))+1))+1))+1)))) λv=>An x n (eO a λl=>eO (ld v l.1 (l.2+x.toNat) 6 1) λl=>eC l λl o=>eN o (eS 2 l λl o s=>Ak (Af lo 172 [.sl 2 l o s,Iv (Al ((Al ((Al ((Al ((Al ((Al (y+1))+1))+1))+1))+1))+1))] v) λv l=>eI .i64 v λv=>Ak (Af lo 88 (AN v) l) λl o=>eT l λl=>An x n (eO a λs=>eO (st lo o s.1 (s.2+x.toNat) 7 [.str l]) λl=>br ((Al (v+(1:Int))).tmod (3:Int)==0) (An x n (eO a λo=>eO (st lo l o.1 (o.2+x.toNat) 8 [.bool true]) λo=>Bz lo a n c (Al ((Al (v+1))+1)) (Al (x+1)) o)) (An x n (eO a λo=>eO (st lo l o.1 (o.2+x.toNat) 8 [.bool false]) λl=>Bz lo a n c (Al ((Al (v+1))+1)) (Al (x+1)) l)))))))))))) (some (Iv y,h)) :=
 lE
def Cu lo a n c x y h:=
 LA 92 Tryz.f92 22131 0 11 lo ⟨[(0,.sl 5 a n c),(1,Iv x),(5,Iv y)],[],h⟩
theorem O4 (hk:(Cu lo a n c x 0 h)=some r) :
  Af lo 92 [.sl 5 a n c,Iv x] h=some r :=
 eK Tryz.func92 hk
theorem Cu.e :
  Cu lo a n c y x h=br (decide (x<(n:Int))) (An x n (eO a λv=>eO (st lo h v.1 (v.2+x.toNat) 0 (AN y)) λv=>An x n (eO a λl=>eO (st lo v l.1 (l.2+x.toNat) 1 (AN (Al (y+1)))) λv=>An x n (eO a λl=>eO (st lo v l.1 (l.2+x.toNat) 2 (AN (Al ((Al (y+1))+1)))) λv=>An x n (eO a λl=>eO (st lo v l.1 (l.2+x.toNat) 3 (AN (Al ((Al ((Al (y+1))+1))+1)))) λv=>An x n (eO a λl=>eO (st lo v l.1 (l.2+x.toNat) 4 (AN (Al ((Al ((Al ((Al (y+1))+1))+1))+1)))) λv=>Cu lo a n c (Al ((Al ((Al ((Al ((Al (y+1))+1))+1))+1))+1)) (Al (x+1)) v)))))) (some (Iv y,h)) :=
 lE
def BB lo a n c x y z h:=
 LA 93 Tryz.f93 22131 0 11 lo ⟨[(0,.sl 6 a n c),(1,Iv x),(4,Iv y),(5,Iv z)],[],h⟩
theorem N0 (hk:(BB h.length a n c x 0 0 h)=some (v,h')) (hn:noId v=true:=by rfl) :
  Af lo 93 [.sl 6 a n c,Iv x] h=some (v,h) :=
 eD Tryz.func93 hk hn
theorem BB.e :
  BB lo a n c y z x h=br (decide (x<(n:Int))) (An x n (eO a λv=>eO (ld h v.1 (v.2+x.toNat) 0 1) λv=>eC v λv l=>eN l (eI .i64 v λv=>br (v==y) (An x n (eO a λv=>eO (ld h v.1 (v.2+x.toNat) 1 1) λv=>eC v λv l=>eN l (eI .i64 v λv=>br (v==Al (y+(1:Int))) (An x n (eO a λv=>eO (ld h v.1 (v.2+x.toNat) 2 1) λv=>eC v λv l=>eN l (eS 2 v λv l o=>Ak (Af lo 173 [.sl 2 v l o,Iv (Al ((Al (y+1))+1))] h) λv l=>eI .i64 v λv=>br (decide (v<0)) (some (Iv (-1),l)) (An x n (eO a λo=>eO (ld l o.1 (o.2+x.toNat) 3 1) λo=>eC o λo s=>eN s (eS 6 o λo s b=>Ak (Af lo 174 [.sl 6 o s b,Iv v] l) λv l=>eI .i64 v λv=>br (decide (v<0)) (some (Iv (-1),l)) (An x n (eO a λo=>eO (ld l o.1 (o.2+x.toNat) 4 1) λo=>eC o λo s=>eN s (eS 1 o λo s b=>Ak (Af lo 175 [.sl 1 o s b,Iv v] l) λv l=>eI .i64 v λv=>br (decide (v<0)) (some (Iv (-1),l)) (An x n (eO a λo=>eO (ld l o.1 (o.2+x.toNat) 5 1) λo=>eC o λo s=>eN s (eB o (br (v.tmod (3:Int)==0) (BB lo a n c (Al (v+1)) z (Al (x+1)) l) (some (Iv (-1),l))) (br (v.tmod (3:Int)==0) (some (Iv (-1),l)) (BB lo a n c (Al (v+1)) z (Al (x+1)) l)))))))))))))) (some (Iv (-1),h))))) (some (Iv (-1),h))))) (some (Iv y,h)) :=
 lE
def Cw lo a n c x y z h:=
 LA 94 Tryz.f94 22131 0 11 lo ⟨[(0,.sl 5 a n c),(1,Iv x),(4,Iv y),(5,Iv z)],[],h⟩
theorem O7 (hk:(Cw h.length a n c x 0 0 h)=some (v,h')) (hn:noId v=true:=by rfl) :
  Af lo 94 [.sl 5 a n c,Iv x] h=some (v,h) :=
 eD Tryz.func94 hk hn
theorem Cw.e :
  Cw lo a n c y z x h=br (decide (x<(n:Int))) (An x n (eO a λv=>eO (ld h v.1 (v.2+x.toNat) 0 1) λv=>eC v λv l=>eN l (eI .i64 v λv=>br (v==y) (An x n (eO a λv=>eO (ld h v.1 (v.2+x.toNat) 1 1) λv=>eC v λv l=>eN l (eS 2 v λv l o=>Ak (Af lo 176 [.sl 2 v l o,Iv (Al (y+1))] h) λv l=>eI .i64 v λv=>br (decide (v<0)) (some (Iv (-1),l)) (An x n (eO a λo=>eO (ld l o.1 (o.2+x.toNat) 2 1) λo=>eC o λo s=>eN s (eI .i64 o λo=>br (o==v) (An x n (eO a λo=>eO (ld l o.1 (o.2+x.toNat) 3 1) λo=>eC o λo s=>eN s (eI .i64 o λo=>br (o==Al (v+(1:Int))) (An x n (eO a λo=>eO (ld l o.1 (o.2+x.toNat) 4 1) λo=>eC o λo s=>eN s (eI .i64 o λo=>br (o==Al (Al (v+(1:Int))+(1:Int))) (Cw lo a n c (Al ((Al ((Al (v+1))+1))+1)) z (Al (x+1)) l) (some (Iv (-1),l))))) (some (Iv (-1),l))))) (some (Iv (-1),l)))))))) (some (Iv (-1),h))))) (some (Iv y,h)) :=
 lE
def BC lo a n c x y z h:=
 LA 95 Tryz.f95 22131 0 11 lo ⟨[(0,.sl 9 a n c),(1,Iv x),(4,Iv y),(5,Iv z)],[],h⟩
theorem N1 (hk:(BC h.length a n c x 0 0 h)=some (v,h')) (hn:noId v=true:=by rfl) :
  Af lo 95 [.sl 9 a n c,Iv x] h=some (v,h) :=
 eD Tryz.func95 hk hn
theorem BC.e :
  BC lo a n c y z x h=br (decide (x<(n:Int))) (An x n (eO a λv=>eO (ld h v.1 (v.2+x.toNat) 0 1) λv=>eC v λv l=>eN l (eI .i64 v λv=>br (v==y) (An x n (eO a λv=>eO (ld h v.1 (v.2+x.toNat) 1 1) λv=>eC v λv l=>eN l (eI .i64 v λv=>br (v==Al (y+(1:Int))) (An x n (eO a λv=>eO (ld h v.1 (v.2+x.toNat) 2 1) λv=>eC v λv l=>eN l (eI .i64 v λv=>br (v==Al (Al (y+(1:Int))+(1:Int))) (An x n (eO a λv=>eO (ld h v.1 (v.2+x.toNat) 3 1) λv=>eC v λv l=>eN l (eI .i64 v λv=>br (v==Al (Al (Al (y+(1:Int))+(1:Int))+(1:Int))) (An x n (eO a λv=>eO (ld h v.1 (v.2+x.toNat) 4 1) λv=>eC v λv l=>eN l (eI .i64 v λv=>br (v==Al (Al (Al (Al (y+(1:Int))+(1:Int))+(1:Int))+(1:Int))) (An x n (eO a λv=>eO (ld h v.1 (v.2+x.toNat) 5 1) λv=>eC v λv l=>eN l (eI .i64 v λv=>br (v==Al (Al (Al (Al (Al (y+(1:Int))+(1:Int))+(1:Int))+(1:Int))+(1:Int))) (An x n (eO a λv=>eO (ld h v.1 (v.2+x.toNat) 6 1) λv=>eC v λv l=>eN l (eS 2 v λv l o=>Ak (Af lo 176 [.sl 2 v l o,Iv (Al ((Al ((Al ((Al ((Al ((Al (y+1))+1))+1))+1))+1))+1))] h) λv l=>eI .i64 v λv=>br (decide (v<0)) (some (Iv (-1),l)) (An x n (eO a λo=>eO (ld l o.1 (o.2+x.toNat) 7 1) λo=>eC o λo s=>eN s (eT o λo=>Ak (Af l.length 88 (AN v) l) λl s=>eT l λl=>br (o.toList==l.toList) (An x n (eO a λl=>eO (ld s l.1 (l.2+x.toNat) 8 1) λl=>eC l λl o=>eN o (eB l (br ((Al (v+(1:Int))).tmod (3:Int)==0) (BC lo a n c (Al ((Al (v+1))+1)) z (Al (x+1)) s) (some (Iv (-1),s))) (br ((Al (v+(1:Int))).tmod (3:Int)==0) (some (Iv (-1),s)) (BC lo a n c (Al ((Al (v+1))+1)) z (Al (x+1)) s))))) (some (Iv (-1),s)))))))) (some (Iv (-1),h))))) (some (Iv (-1),h))))) (some (Iv (-1),h))))) (some (Iv (-1),h))))) (some (Iv (-1),h))))) (some (Iv (-1),h))))) (some (Iv y,h)) :=
 lE
def Cy lo a n c x y z h:=
 LA 96 Tryz.f96 22131 0 11 lo ⟨[(0,.sl 5 a n c),(1,Iv x),(4,Iv y),(5,Iv z)],[],h⟩
theorem O9 (hk:(Cy h.length a n c x 0 0 h)=some (v,h')) (hn:noId v=true:=by rfl) :
  Af lo 96 [.sl 5 a n c,Iv x] h=some (v,h) :=
 eD Tryz.func96 hk hn
theorem Cy.e :
  Cy lo a n c y z x h=br (decide (x<(n:Int))) (An x n (eO a λv=>eO (ld h v.1 (v.2+x.toNat) 0 1) λv=>eC v λv l=>eN l (eI .i64 v λv=>br (v==y) (An x n (eO a λv=>eO (ld h v.1 (v.2+x.toNat) 1 1) λv=>eC v λv l=>eN l (eI .i64 v λv=>br (v==Al (y+(1:Int))) (An x n (eO a λv=>eO (ld h v.1 (v.2+x.toNat) 2 1) λv=>eC v λv l=>eN l (eI .i64 v λv=>br (v==Al (Al (y+(1:Int))+(1:Int))) (An x n (eO a λv=>eO (ld h v.1 (v.2+x.toNat) 3 1) λv=>eC v λv l=>eN l (eI .i64 v λv=>br (v==Al (Al (Al (y+(1:Int))+(1:Int))+(1:Int))) (An x n (eO a λv=>eO (ld h v.1 (v.2+x.toNat) 4 1) λv=>eC v λv l=>eN l (eI .i64 v λv=>br (v==Al (Al (Al (Al (y+(1:Int))+(1:Int))+(1:Int))+(1:Int))) (Cy lo a n c (Al ((Al ((Al ((Al ((Al (y+1))+1))+1))+1))+1)) z (Al (x+1)) h) (some (Iv (-1),h))))) (some (Iv (-1),h))))) (some (Iv (-1),h))))) (some (Iv (-1),h))))) (some (Iv (-1),h))))) (some (Iv y,h)) :=
 lE
def GY lo a n c x y z h:=
 LA 97 Tryz.f97 2213111 0 1111 lo ⟨[(0,.sl 6 a n c),(1,Iv x),(4,Iv y),(5,Iv z)],[],h⟩
theorem GY.e :
  GY lo a n c y z x h=br (decide (x<(n:Int))) (An x n (eO a λv=>eO (ld h v.1 (v.2+x.toNat) 0 6) λv=>eC v λv l=>eI .i64 v λv=>eC l λl o=>eI .i64 l λl=>eC o λo s=>eS 2 o λo b u=>eC s λs w=>eS 6 s λs p q=>eC w λw g=>eS 1 w λw i j=>eC g λg k=>eBv g λg=>eN k (Ak (Af lo 177 [Br v l o b u s p q w i j g,Iv y] h) λv l=>eI .i64 v λv=>br (decide (v<0)) (some (Iv (-1),l)) (GY lo a n c v z (Al (x+1)) l)))) (some (Iv y,h)) :=
 lE
def HI lo a n c x y z h:=
 LA 98 Tryz.f98 2213111 0 1111 lo ⟨[(0,.sl 5 a n c),(1,Iv x),(4,Iv y),(5,Iv z)],[],h⟩
theorem HI.e :
  HI lo a n c y z x h=br (decide (x<(n:Int))) (An x n (eO a λv=>eO (ld h v.1 (v.2+x.toNat) 0 5) λv=>eC v λv l=>eI .i64 v λv=>eC l λl o=>eS 2 l λl s b=>eC o λo u=>eI .i64 o λo=>eC u λu w=>eI .i64 u λu=>eC w λw p=>eI .i64 w λw=>eN p (Ak (Af lo 178 [PL v l s b o u w,Iv y] h) λv l=>eI .i64 v λv=>br (decide (v<0)) (some (Iv (-1),l)) (HI lo a n c v z (Al (x+1)) l)))) (some (Iv y,h)) :=
 lE
def GZ lo a n c x y z h:=
 LA 99 Tryz.f99 2213111 0 1111 lo ⟨[(0,.sl 9 a n c),(1,Iv x),(4,Iv y),(5,Iv z)],[],h⟩
theorem GZ.e :
  GZ lo a n c y z x h=br (decide (x<(n:Int))) (An x n (eO a λv=>eO (ld h v.1 (v.2+x.toNat) 0 9) λv=>eC v λv l=>eI .i64 v λv=>eC l λl o=>eI .i64 l λl=>eC o λo s=>eI .i64 o λo=>eC s λs b=>eI .i64 s λs=>eC b λb u=>eI .i64 b λb=>eC u λu w=>eI .i64 u λu=>eC w λw p=>eS 2 w λw q g=>eC p λp i=>eT p λp=>eC i λi j=>eBv i λi=>eN j (Ak (Af lo 179 [PM v l o s b u w q g p i,Iv y] h) λv l=>eI .i64 v λv=>br (decide (v<0)) (some (Iv (-1),l)) (GZ lo a n c v z (Al (x+1)) l)))) (some (Iv y,h)) :=
 lE
def JV lo f x a n c b m p d k u e i s h:=
 LA 101 Tryz.f101 221311 0 111 lo ⟨[(1,.lp 1 0),(2,.bool f),(3,Iv x)],[(1,(DW a n c b m p d k u e i s))],h⟩
def Ia lo f x a n c b m p d k u e i s h:=
 LA 101 Tryz.f101 2213111 2 1111 lo ⟨[(1,.lp 1 0),(2,.bool f),(4,Iv x)],[(1,(DW a n c b m p d k u e i s))],h⟩
def H0 lo f x a n c b m p d k u e i s h:=
 LA 101 Tryz.f101 22131111 4 11111 lo ⟨[(1,.lp 1 0),(2,.bool f),(5,Iv x)],[(1,(DW a n c b m p d k u e i s))],h⟩
def HZ lo f x a n c b m p d k u e i s h:=
 LA 101 Tryz.f101 221311111 6 111111 lo ⟨[(1,.lp 1 0),(2,.bool f),(6,Iv x)],[(1,(DW a n c b m p d k u e i s))],h⟩
theorem JV.e {lo n m k i:Nat}{f:Bool}{x:Int}{a b d A:Pq}{c p u s:Nq}{h:Heap} :
  JV lo f x a n c b m p d k u A i s h=br (decide (x<3)) (An x n (eO a λv=>eO (ld h v.1 (v.2+x.toNat) 0 1) λv=>eC v λv l=>eN l (eI .i64 v λv=>br (v==x) (An x n (eO a λv=>eO (ld h v.1 (v.2+x.toNat) 0 6) λv=>eC v λv l=>eI .i64 v λv=>eC l λl o=>eI .i64 l λl=>eC o λo y=>eS 2 o λo z w=>eC y λy q=>eS 6 y λy g j=>eC q λq t=>eS 1 q λq e B=>eC t λt C=>eBv t λt=>eN C (Ak (Af lo 53 [Br v l o z w y g j q e B t] h) λv l=>eB v (JV lo f (Al (x+1)) a n c b m p d k u A i s l) (AD l)))) (AD h)))) (Ia lo f 0 a n c b m p d k u A i s h) :=
 lE
theorem Ia.e :
  Ia lo f x b m c a n p d k u A i s h=br (decide (x<(n:Int))) (An x n (eO a λv=>eO (ld h v.1 (v.2+x.toNat) 0 5) λv=>eC v λv l=>eI .i64 v λv=>eC l λl o=>eS 2 l λl y z=>eC o λo w=>eI .i64 o λo=>eC w λw q=>eI .i64 w λw=>eC q λq g=>eI .i64 q λq=>eN g (Ak (Af lo 180 [PL v l y z o w q] h) λv l=>eB v (Ia lo f (Al (x+1)) b m c a n p d k u A i s l) (AD l)))) (H0 lo f 0 b m c a n p d k u A i s h) :=
 lE
theorem H0.e {lo m k n i:Nat}{f:Bool}{x:Int}{b d a A:Pq}{c p u s:Nq}{h:Heap} :
  H0 lo f x b m c d k p a n u A i s h=br (decide (x<(n:Int))) (An x n (eO a λv=>eO (ld h v.1 (v.2+x.toNat) 0 9) λv=>eC v λv l=>eI .i64 v λv=>eC l λl o=>eI .i64 l λl=>eC o λo y=>eI .i64 o λo=>eC y λy z=>eI .i64 y λy=>eC z λz w=>eI .i64 z λz=>eC w λw q=>eI .i64 w λw=>eC q λq g=>eS 2 q λq j t=>eC g λg e=>eT g λg=>eC e λe B=>eBv e λe=>eN B (Ak (Af lo 181 [At b m c d k p a n u A i s,PM v l o y z w q j t g e] h) λv l=>eB v (H0 lo f (Al (x+1)) b m c d k p a n u A i s l) (AD l)))) (HZ lo f 0 b m c d k p a n u A i s h) :=
 lE
theorem HZ.e :
  HZ lo f x b m c d k p A i u a n s h=br (decide (x<(n:Int))) (An x n (eO a λv=>eO (ld h v.1 (v.2+x.toNat) 0 5) λv=>eC v λv l=>eI .i64 v λv=>eC l λl o=>eI .i64 l λl=>eC o λo y=>eI .i64 o λo=>eC y λy z=>eI .i64 y λy=>eC z λz w=>eI .i64 z λz=>eN w (Ak (Af lo 182 [RE v l o y z] h) λv l=>eB v (HZ lo f (Al (x+1)) b m c d k p A i u a n s l) (AD l)))) (Ak (Af lo 183 [At b m c d k p A i u a n s] h) λv l=>eB v (Cn l) (AD l)) :=
 lE
theorem WJ {e:Pq} (hk:(Ak (Af lo 54 (C1 x 1 5) h) λv l=>eB v (Ak (Af lo 184 [At a n c b m p d k u e i s,BT x y z t S f] l) λv o=>eU v λv=>eC v λv w=>eA v λv=>eC v λv q=>eS 6 v λv g j=>eC q λq A=>eS 5 q λq B C=>eC A λA D=>eS 9 A λA E G=>eC D λD H=>eS 5 D λD J K=>eN H (eC w λw H=>eB w (eN H (some (.tup [At v g j q B C A E G D J K,.bool true],o))) (eN H (some (.tup [At v g j q B C A E G D J K,.bool false],o))))) (Ak (Af lo 54 (C1 x 6 9) l) λv l=>eB v (Ak (Af lo 185 [At a n c b m p d k u e i s,BT x y z t S f] l) λv o=>eU v λv=>eC v λv w=>eA v λv=>eC v λv q=>eS 6 v λv g j=>eC q λq A=>eS 5 q λq B C=>eC A λA D=>eS 9 A λA E G=>eC D λD H=>eS 5 D λD J K=>eN H (eC w λw H=>eB w (eN H (some (.tup [At v g j q B C A E G D J K,.bool true],o))) (eN H (some (.tup [At v g j q B C A E G D J K,.bool false],o))))) (Ak (Af lo 54 (C1 x 10 13) l) λv l=>eB v (Ak (Af lo 186 [At a n c b m p d k u e i s,BT x y z t S f] l) λv o=>eU v λv=>eC v λv w=>eA v λv=>eC v λv q=>eS 6 v λv g j=>eC q λq A=>eS 5 q λq B C=>eC A λA D=>eS 9 A λA E G=>eC D λD H=>eS 5 D λD J K=>eN H (eC w λw H=>eB w (eN H (some (.tup [At v g j q B C A E G D J K,.bool true],o))) (eN H (some (.tup [At v g j q B C A E G D J K,.bool false],o))))) (some (.tup [At a n c b m p d k u e i s,.bool false],l)))))=some r) :
  Af lo 102 [At a n c b m p d k u e i s,BT x y z t S f] h=some r :=
 eK Tryz.func102 hk
def Ir lo x a n c b m p d k u e i s j A g C G B H D J a0 P c0 n0 a1 n1 c1 n2 a2 n3 c2 n4 a3 n5 c3 n6 a4 n7 c4 a5 n8 c5 h:=
 LA 103 Tryz.f103 221311 0 111 lo ⟨[(1,.lp 1 0),(2,.lp 2 0),(3,.lp 3 0),(4,Iv x)],[(1,(DW a n c b m p d k u e i s)),(2,[.sl j A g C,.sl G B H D,.sl J a0 P c0,.sl n0 a1 n1 c1]),(3,[.sl n2 a2 n3 c2,.sl n4 a3 n5 c3,.sl n6 a4 n7 c4,.sl 5 a5 n8 c5])],h⟩
def FR lo x a n c b m p d k u e i s j A g C G B H D J a0 P c0 n0 a1 n1 c1 n2 a2 n3 c2 n4 a3 n5 c3 n6 a4 n7 c4 a5 n8 c5 h:=
 LA 103 Tryz.f103 2213111 2 1111 lo ⟨[(1,.lp 1 0),(2,.lp 2 0),(3,.lp 3 0),(5,Iv x)],[(1,(DW a n c b m p d k u e i s)),(2,[.sl j A g C,.sl G B H D,.sl J a0 P c0,.sl n0 a1 n1 c1]),(3,[.sl n2 a2 n3 c2,.sl n4 a3 n5 c3,.sl n6 a4 n7 c4,.sl 5 a5 n8 c5])],h⟩
def FQ lo x a n c b m p d k u e i s j A g C G B H D J a0 P c0 n0 a1 n1 c1 n2 a2 n3 c2 n4 a3 n5 c3 n6 a4 n7 c4 a5 n8 c5 h:=
 LA 103 Tryz.f103 22131111 4 11111 lo ⟨[(1,.lp 1 0),(2,.lp 2 0),(3,.lp 3 0),(7,Iv x)],[(1,(DW a n c b m p d k u e i s)),(2,[.sl j A g C,.sl G B H D,.sl J a0 P c0,.sl n0 a1 n1 c1]),(3,[.sl n2 a2 n3 c2,.sl n4 a3 n5 c3,.sl n6 a4 n7 c4,.sl 5 a5 n8 c5])],h⟩
theorem Ir.e {lo n m k i j g G H J P n0 n1 n2 n3 n4 n5 n6 n7 n8:Nat}{x:Int}{a b d A B a0 a1 a2 a3 a4 a5 a6:Pq}{c p u s C D c0 c1 c2 c3 c4 c5:Nq}{h:Heap} :
  Ir lo x a n c b m p d k u A i s j B g C G a0 H D J a1 P c0 n0 a2 n1 c1 n2 a3 n3 c2 n4 a4 n5 c3 n6 a5 n7 c4 a6 n8 c5 h=br (decide (x<(n:Int))) (An x n (eO a λv=>eO (ld h v.1 (v.2+x.toNat) 0 6) λv=>eC v λv l=>eI .i64 v λv=>eC l λl o=>eI .i64 l λl=>eC o λo y=>eS 2 o λo z w=>eC y λy q=>eS 6 y λy t e=>eC q λq f=>eS 1 q λq E K=>eC f λf L=>eBv f λf=>eN L (Ak (Af lo 58 [Br v l o z w y t e q E K f] h) λv l=>eA v λv=>eC v λv o=>eI .i64 v λv=>eC o λo y=>eI .i64 o λo=>eC y λy z=>eS 2 y λy w q=>eC z λz t=>eS 6 z λz e f=>eC t λt E=>eS 1 t λt K L=>eC E λE M=>eBv E λE=>eN M (As 6 (l ++ [.rows 6 29 false [Du v o y w q z e f t K L E]]) (.sl 6 (some (l.length,0)) 1 (some 1)) λM=>Dv lo 29 6 96 (.sl n2 a3 n3 c2) M (l ++ [.rows 6 29 false [Du v o y w q z e f t K L E]]) λv l=>eS 6 v λv o y=>Ir lo (Al (x+1)) a n c b m p d k u A i s j B g C G a0 H D J a1 P c0 n0 a2 n1 c1 6 v o y n4 a4 n5 c3 n6 a5 n7 c4 a6 n8 c5 l)))) (FR lo 0 a n c b m p d k u A i s j B g C G a0 H D J a1 P c0 n0 a2 n1 c1 n2 a3 n3 c2 n4 a4 n5 c3 n6 a5 n7 c4 a6 n8 c5 h) :=
 lE
theorem FR.e {lo m n k i j g G H J P n0 n1 n2 n3 n4 n5 n6 n7 n8:Nat}{x:Int}{b a d A B a0 a1 a2 a3 a4 a5 a6:Pq}{c p u s C D c0 c1 c2 c3 c4 c5:Nq}{h:Heap} :
  FR lo x b m c a n p d k u A i s j B g C G a0 H D J a1 P c0 n0 a2 n1 c1 n2 a3 n3 c2 n4 a4 n5 c3 n6 a5 n7 c4 a6 n8 c5 h=br (decide (x<(n:Int))) (An x n (eO a λv=>eO (ld h v.1 (v.2+x.toNat) 0 5) λv=>eC v λv l=>eI .i64 v λv=>eC l λl o=>eS 2 l λl y z=>eC o λo w=>eI .i64 o λo=>eC w λw q=>eI .i64 w λw=>eC q λq t=>eI .i64 q λq=>eN t (As 2 (h ++ [.rows 2 36 false []]) (.sl 2 l y z) λl=>Dv lo 36 2 16 (.sl 2 (some (h.length,0)) 0 (some 0)) l (h ++ [.rows 2 36 false []]) λl y=>eS 2 l λl z t=>As 5 (y ++ [.rows 5 66 false [NR v l z t o w q]]) (.sl 5 (some (y.length,0)) 1 (some 1)) λe=>Dv lo 66 5 56 (.sl n4 a4 n5 c3) e (y ++ [.rows 5 66 false [NR v l z t o w q]]) λv l=>eS 5 v λv o y=>FR lo (Al (x+1)) b m c a n p d k u A i s j B g C G a0 H D J a1 P c0 n0 a2 n1 c1 n2 a3 n3 c2 5 v o y n6 a5 n7 c4 a6 n8 c5 l))) (FQ lo 0 b m c a n p d k u A i s j B g C G a0 H D J a1 P c0 n0 a2 n1 c1 n2 a3 n3 c2 n4 a4 n5 c3 n6 a5 n7 c4 a6 n8 c5 h) :=
 lE
theorem FQ.e {lo J P n n0 n1 n2 n3 n4 n5 n6 n7 n8 m k i j g G H:Nat}{x:Int}{a0 a1 a a2 a3 a4 a5 a6 b d A B:Pq}{C D c0 c1 c2 c3 c4 c5 c p u s:Nq}{h:Heap} :
  FQ lo x a0 J C a1 P D a n c0 a2 n0 c1 n1 a3 n2 c2 n3 a4 n4 c3 n5 a5 n6 c4 n7 a6 n8 c5 m b k c i d j p g A G u B H s h=br (decide (x<(n:Int))) (An x n (eO a λv=>eO (ld h v.1 (v.2+x.toNat) 0 9) λv=>eC v λv l=>eI .i64 v λv=>eC l λl o=>eI .i64 l λl=>eC o λo y=>eI .i64 o λo=>eC y λy z=>eI .i64 y λy=>eC z λz w=>eI .i64 z λz=>eC w λw q=>eI .i64 w λw=>eC q λq t=>eS 2 q λq e f=>eC t λt E=>eT t λt=>eC E λE K=>eBv E λE=>eN K (Ak (Af lo 187 [AC y z w q e f t E] h) λy z=>eA y λy=>eC y λy w=>eI .i64 y λy=>eC w λw q=>eI .i64 w λw=>eC q λq t=>eI .i64 q λq=>eC t λt e=>eS 2 t λt f E=>eC e λe K=>eT e λe=>eC K λK L=>eBv K λK=>eN L (As 9 (z ++ [.rows 9 123 false [NS v l o y w q t f E e K]]) (.sl 9 (some (z.length,0)) 1 (some 1)) λL=>Dv lo 123 9 96 (.sl g A G u) L (z ++ [.rows 9 123 false [NS v l o y w q t f E e K]]) λv l=>eS 9 v λv o y=>FQ lo (Al (x+1)) a0 J C a1 P D a n c0 a2 n0 c1 n1 a3 n2 c2 n3 a4 n4 c3 n5 a5 n6 c4 n7 a6 n8 c5 m b k c i d j p 9 v o y B H s l)))) (some (.agg [.sl m b k c,.sl i d j p,.sl g A G u,.sl 5 B H s],h)) :=
 lE
def GW lo a n c b m p x h:=
 LA 104 Tryz.f104 221311 0 111 lo ⟨[(0,.sl 6 a n c),(3,.sl 6 b m p),(4,Iv x)],[],h⟩
theorem GW.e :
  GW lo b n p a m c x h=br (decide (x<(n:Int))) (An x n (eO b λv=>eO (ld h v.1 (v.2+x.toNat) 0 6) λv=>eC v λv l=>eI .i64 v λv=>eC l λl o=>eI .i64 l λl=>eC o λo s=>eS 2 o λo y z=>eC s λs u=>eS 6 s λs w q=>eC u λu g=>eS 1 u λu i j=>eC g λg k=>eBv g λg=>eN k (Ak (Af lo 188 [Br v l o y z s w q u i j g] h) λv l=>eA v λv=>eC v λv o=>eI .i64 v λv=>eC o λo s=>eI .i64 o λo=>eC s λs y=>eS 2 s λs z u=>eC y λy w=>eS 6 y λy q g=>eC w λw i=>eS 1 w λw j k=>eC i λi t=>eBv i λi=>eN t (An x m (eO a λt=>eO (st lo l t.1 (t.2+x.toNat) 0 (Du v o s z u y q g w j k i)) λv=>GW lo b n p a m c (Al (x+1)) v))))) (some (.sl 6 a m c,h)) :=
 lE
def HE lo a n c b m p x h:=
 LA 105 Tryz.f105 221311 0 111 lo ⟨[(0,.sl 5 a n c),(3,.sl 5 b m p),(4,Iv x)],[],h⟩
theorem HE.e :
  HE lo b n p a m c x h=br (decide (x<(n:Int))) (An x n (eO b λv=>eO (ld h v.1 (v.2+x.toNat) 0 5) λv=>eC v λv l=>eI .i64 v λv=>eC l λl o=>eS 2 l λl s y=>eC o λo z=>eI .i64 o λo=>eC z λz u=>eI .i64 z λz=>eC u λu w=>eI .i64 u λu=>eN w (Ak (Af lo 189 [PL v l s y o z u] h) λv l=>eA v λv=>eC v λv o=>eI .i64 v λv=>eC o λo s=>eS 2 o λo y z=>eC s λs u=>eI .i64 s λs=>eC u λu w=>eI .i64 u λu=>eC w λw q=>eI .i64 w λw=>eN q (An x m (eO a λq=>eO (st lo l q.1 (q.2+x.toNat) 0 (NR v o y z s u w)) λv=>HE lo b n p a m c (Al (x+1)) v))))) (some (.sl 5 a m c,h)) :=
 lE
def GX lo a n c b m p x h:=
 LA 106 Tryz.f106 221311 0 111 lo ⟨[(0,.sl 9 a n c),(3,.sl 9 b m p),(4,Iv x)],[],h⟩
theorem GX.e :
  GX lo b n p a m c x h=br (decide (x<(n:Int))) (An x n (eO b λv=>eO (ld h v.1 (v.2+x.toNat) 0 9) λv=>eC v λv l=>eI .i64 v λv=>eC l λl o=>eI .i64 l λl=>eC o λo s=>eI .i64 o λo=>eC s λs y=>eI .i64 s λs=>eC y λy z=>eI .i64 y λy=>eC z λz u=>eI .i64 z λz=>eC u λu w=>eS 2 u λu q g=>eC w λw i=>eT w λw=>eC i λi j=>eBv i λi=>eN j (Ak (Af lo 190 [PM v l o s y z u q g w i] h) λv l=>eA v λv=>eC v λv o=>eI .i64 v λv=>eC o λo s=>eI .i64 o λo=>eC s λs y=>eI .i64 s λs=>eC y λy z=>eI .i64 y λy=>eC z λz u=>eI .i64 z λz=>eC u λu w=>eI .i64 u λu=>eC w λw q=>eS 2 w λw g i=>eC q λq j=>eT q λq=>eC j λj k=>eBv j λj=>eN k (An x m (eO a λk=>eO (st lo l k.1 (k.2+x.toNat) 0 (NS v o s y z u w g i q j)) λv=>GX lo b n p a m c (Al (x+1)) v))))) (some (.sl 9 a m c,h)) :=
 lE
def HG lo a n c b m p x h:=
 LA 107 Tryz.f107 221311 0 111 lo ⟨[(0,.sl 5 a n c),(3,.sl 5 b m p),(4,Iv x)],[],h⟩
theorem HG.e :
  HG lo b n p a m c x h=br (decide (x<(n:Int))) (An x n (eO b λv=>eO (ld h v.1 (v.2+x.toNat) 0 5) λv=>eC v λv l=>eI .i64 v λv=>eC l λl o=>eI .i64 l λl=>eC o λo s=>eI .i64 o λo=>eC s λs y=>eI .i64 s λs=>eC y λy z=>eI .i64 y λy=>eN z (Ak (Af lo 191 [RE v l o s y] h) λv l=>eA v λv=>eC v λv o=>eI .i64 v λv=>eC o λo s=>eI .i64 o λo=>eC s λs y=>eI .i64 s λs=>eC y λy z=>eI .i64 y λy=>eC z λz u=>eI .i64 z λz=>eN u (An x m (eO a λu=>eO (st lo l u.1 (u.2+x.toNat) 0 (Wz v o s y z)) λv=>HG lo b n p a m c (Al (x+1)) v))))) (some (.sl 5 a m c,h)) :=
 lE
def C3 lo f x a n c h:=
 LA 111 Tryz.f111 22131 0 11 lo ⟨[(1,.lp 1 0),(2,.bool f),(3,Iv x)],[(1,(Bc a n c))],h⟩
theorem C3.e :
  C3 lo f x a n c h=br (decide (x<(n:Int))) (An x n (eO a λv=>eO (ld h v.1 (v.2+x.toNat) 1 2) λv=>eC v λv l=>eI .i64 v λv=>eC l λl o=>eI .i64 l λl=>eN o (br ((v==0)&&((l==0)&&true)) (An x n (eO a λv=>eO (ld h v.1 (v.2+x.toNat) 1 2) λv=>eC v λv l=>eI .i64 v λv=>eC l λl o=>eI .i64 l λl=>eN o (br ((v==0)&&((l==0)&&true)) (An x n (eO a λv=>eO (ld h v.1 (v.2+x.toNat) 0 1) λv=>eC v λv l=>eN l (eI .i64 v λv=>br (v==0) (An x n (eO a λv=>eO (ld h v.1 (v.2+x.toNat) 4 1) λv=>eC v λv l=>eN l (eT v λv=>br (v.toList==(ByteArray.mk #[]).toList) (An x n (eO a λv=>eO (ld h v.1 (v.2+x.toNat) 5 1) λv=>eC v λv l=>eN l (eB v (AD h) (An x n (eO a λv=>eO (ld h v.1 (v.2+x.toNat) 3 1) λv=>eC v λv l=>eN l (eS 2 v λv v l=>br (decide ((v:Int)>0)) (AD h) (C3 lo f (Al (x+1)) a n c h))))))) (AD h)))) (AD h)))) (C3 lo f (Al (x+1)) a n c h)))) (An x n (eO a λv=>eO (ld h v.1 (v.2+x.toNat) 0 6) λv=>eC v λv l=>eI .i64 v λv=>eC l λl o=>eI .i64 l λl=>eC o λo s=>eI .i64 o λo=>eC s λs b=>eS 2 s λs y z=>eC b λb u=>eT b λb=>eC u λu w=>eBv u λu=>eN w (Ak (Af lo 112 [AC v l o s y z b u] h) λv l=>eB v (An x n (eO a λv=>eO (ld l v.1 (v.2+x.toNat) 0 1) λv=>eC v λv o=>eN o (eI .i64 v λv=>br (v==x) (An x n (eO a λv=>eO (ld l v.1 (v.2+x.toNat) 1 2) λv=>eC v λv o=>eI .i64 v λv=>eC o λo s=>eI .i64 o λo=>eN s (br ((v==0)&&((o==0)&&true)) (An x n (eO a λv=>eO (ld l v.1 (v.2+x.toNat) 0 1) λv=>eC v λv o=>eN o (eI .i64 v λv=>br (v==0) (An x n (eO a λv=>eO (ld l v.1 (v.2+x.toNat) 4 1) λv=>eC v λv o=>eN o (eT v λv=>br (v.toList==(ByteArray.mk #[]).toList) (An x n (eO a λv=>eO (ld l v.1 (v.2+x.toNat) 5 1) λv=>eC v λv o=>eN o (eB v (AD l) (An x n (eO a λv=>eO (ld l v.1 (v.2+x.toNat) 3 1) λv=>eC v λv o=>eN o (eS 2 v λv v o=>br (decide ((v:Int)>0)) (AD l) (C3 lo f (Al (x+1)) a n c l))))))) (AD l)))) (AD l)))) (C3 lo f (Al (x+1)) a n c l)))) (AD l)))) (AD l))))))) (br ((n:Int)==4) (Cn h) (AD h)) :=
 lE
def JW lo f x y z t a n c S F h:=
 LA 112 Tryz.f112 221311 0 111 lo ⟨[(1,.lp 1 0),(2,.bool f),(3,Iv x)],[(1,(Dc y z t a n c S F))],h⟩
theorem JW.e :
  JW lo f x z y t a n c S F h=br (decide (x<4)) (An x n (eO a λv=>eO (ld h v.1 (v.2+x.toNat) 0 1) λv=>eC v λv l=>eN l (eI .i64 v λv=>br (decide (v>=y)) (AD h) (JW lo f (Al (x+1)) z y t a n c S F h)))) (Cn h) :=
 lE
def Iu lo f x a n c b m p d k u h:=
 LA 113 Tryz.f113 2213111 0 1111 lo ⟨[(2,.lp 2 0),(4,.bool f),(5,.lp 5 0),(6,Iv x)],[(2,(Ij a n c b m p)),(5,(Bc d k u))],h⟩
theorem Iu.e :
  Iu lo f x d k c a n u b m p h=br (decide (x<(n:Int))) (An x n (eO a λv=>eO (ld h v.1 (v.2+x.toNat) 0 1) λv=>eC v λv l=>eN l (eI .i64 v λv=>An v m (eO b λl=>eO (ld h l.1 (l.2+v.toNat) 1 2) λv=>eC v λv l=>eI .i64 v λv=>eC l λl o=>eI .i64 l λl=>eN o (An x n (eO a λo=>eO (ld h o.1 (o.2+x.toNat) 1 2) λo=>eC o λo s=>eI .i64 o λo=>eC s λs y=>eI .i64 s λs=>eN y (Ak (Af lo 197 [Ar v l,Ar o s] h) λv l=>eB v (An x n (eO a λv=>eO (ld l v.1 (v.2+x.toNat) 0 6) λv=>eC v λv o=>eI .i64 v λv=>eC o λo s=>eI .i64 o λo=>eC s λs y=>eI .i64 s λs=>eC y λy z=>eS 2 y λy w q=>eC z λz g=>eT z λz=>eC g λg i=>eBv g λg=>eN i (Ak (Af lo 198 [BS b m p,AC v o s y w q z g] l) λv o=>eA v λv=>eC v λv s=>eS 6 v λv y z=>eN s (Iu lo f (Al (x+1)) d k c a n u v y z o)))) (AD l)))))))) (Ak (Af lo 199 [BS b m p,BS d k c] h) λv l=>eB v (Cn l) (AD l)) :=
 lE
def Do lo x a n c m b k p i d j u h:=
 LA 114 Tryz.f114 221311 0 111 lo ⟨[(1,.lp 1 0),(2,.lp 2 0),(3,.lp 3 0),(4,Iv x)],[(1,(Bc a n c)),(2,[.sl m b k p]),(3,[.sl i d j u])],h⟩
theorem S5 (hk:(Do lo 0 a n c 0 none 0 (some 0) 0 none 0 (some 0) h)=some r) :
  Af lo 114 [BS a n c] h=some r :=
 eK Tryz.func114 hk
theorem Do.e :
  Do lo x a n p i d j u m b k c h=br (decide (x<(n:Int))) (An x n (eO a λv=>eO (ld h v.1 (v.2+x.toNat) 1 2) λv=>eC v λv l=>eI .i64 v λv=>eC l λl o=>eI .i64 l λl=>eN o (As 2 (h ++ [.rows 2 36 false [Bg v l]]) (.sl 2 (some (h.length,0)) 1 (some 1)) λo=>Dv lo 36 2 16 (.sl m b k c) o (h ++ [.rows 2 36 false [Bg v l]]) λv l=>eS 2 v λv o s=>Do lo (Al (x+1)) a n p i d j u 2 v o s l))) (some (.agg [.sl m b k c],h)) :=
 lE
def BJ lo a n c x y z t m b k p i d j u g e G s f w q A H C B J D a0 P c0 F h:=
 LA 115 Tryz.f115 221311 0 111 lo ⟨[(2,.lp 2 0),(3,.lp 3 0),(24,.sl 1 a n c),(25,Iv x),(26,Iv y)],[(2,[Iv z,Iv t,.sl m b k p,.sl i d j u,.sl g e G s,.bool f]),(3,(Du w q A H C B J D a0 P c0 F))],h⟩
theorem Ma (hk:(Ak (Af h.length 200 [Ap a m c] h) λv l=>eA v λv=>eC v λv o=>eS 2 v λv s z=>eN o (Ak (Af l.length 201 (Bc b k p) l) λl o=>eS 6 l λl w q=>A8 (decide ((0:Int)<=0/\(0:Int)<=(n:Int)/\(n:Int)<=140737488355328/\(n:Int)*((24:Nat):Int)<=281474976710656)) (BJ lo d n u (n:Int) 0 0 0 0 none 0 (some 0) 0 none 0 (some 0) 0 none 0 (some 0) false x y v s z l w q (some (o.length,0)) 0 (some n) f (o ++ [.rows 1 26 false (List.replicate n [.sl 0 none 0 (some 0)])]))))=some r) :
  Af lo 115 [Br x y a m c b k p d n u f] h=some r :=
 eK Tryz.func115 hk
theorem BJ.e {lo n j g G H J P m k i:Nat}{a B a0 a1 b d A:Pq}{s C D c0 c p u:Nq}{y x w q z t:Int}{F f:Bool}{h:Heap} :
  BJ lo a n s y x w q j B g C G a0 H D J a1 P c0 F z t b m c d k p A i u f h=br (decide (x<y)) (An x n (eO a λv=>eO (ld h v.1 (v.2+x.toNat) 0 1) λv=>eC v λv l=>eN l (eS 6 v λv l o=>Ak (Af lo 201 (Bc v l o) h) λv l=>eS 6 v λv o e=>As 1 (l ++ [.rows 1 26 false [Bc v o e]]) (.sl 1 (some (l.length,0)) 1 (some 1)) λE=>Dv lo 26 1 24 (.sl 1 A i u) E (l ++ [.rows 1 26 false [Bc v o e]]) λv l=>eS 1 v λv o e=>BJ lo a n s y (Al (x+1)) w q j B g C G a0 H D J a1 P c0 F z t b m c d k p v o e f l))) (some ((Br z t b m c d k p A i u f),h)) :=
 lE
theorem MM (hk:(Ak (Af h.length 202 (AN x) h) λl o=>eB l (Ak (Af h.length 203 [.str S] o) λl s=>eB l (br (!f) (br (!f) (br (!f) (br (!f) (Ak (Af h.length 71 [Ap a n c] s) λl b=>eB l (Cn b) (AD b)) none) none) none) (br (!f) (br (!f) (br (!f) (Ak (Af h.length 71 [Ap a n c] s) λl b=>eB l (Cn b) (AD b)) none) none) (br (!f) (br (!f) (Ak (Af h.length 71 [Ap a n c] s) λl b=>eB l (Cn b) (AD b)) none) (br (S.toList==(ByteArray.mk #[]).toList) (br (!f) (Ak (Af h.length 71 [Ap a n c] s) λl b=>eB l (Cn b) (AD b)) (Ak (Af h.length 71 [Ap a n c] s) λl b=>eB l (Cn b) (AD b))) (br (!f) (Ak (Af h.length 71 [Ap a n c] s) λl b=>eB l (Cn b) (AD b)) (AD s)))))) (AD s)) (AD o))=some (v,h')) (hn:noId v=true:=by rfl) :
  Af lo 116 [AC x y z a n c S f] h=some (v,h) :=
 eD Tryz.func116 hk hn
theorem Od (hk:(eO (ld h n m (k+0) 1) λl=>eC l λl c=>eN c (eS 2 l λl c a=>An x c (eO l λl=>eO (ld h l.1 (l.2+x.toNat) 1 1) λl=>eC l λl c=>eN c (eS 6 l λl l c=>br (decide ((l:Int)>=6)) (Cn h) (AD h)))))=some (v,h')) (hn:noId v=true:=by rfl) :
  Af lo 117 [Dt n m k,Iv x] h=some (v,h) :=
 eD Tryz.func117 hk hn
def BU lo x a n c y z h:=
 LA 118 Tryz.f118 221311 0 111 lo ⟨[(3,Iv x),(7,.sl 2 a n c),(8,Iv y),(9,Iv z)],[],h⟩
theorem MQ (hk:(BU h.length 0 a n c (n:Int) 0 h)=some (v,h')) (hn:noId v=true:=by rfl) :
  Af lo 118 [Ap a n c] h=some (v,h) :=
 eD Tryz.func118 hk hn
theorem BU.e :
  BU lo y a n c z x h=br (decide (x<z)) (An x n (eO a λv=>eO (ld h v.1 (v.2+x.toNat) 0 2) λv=>eC v λv l=>eI .i64 v λv=>eC l λl o=>eI .i64 l λl=>eN o (BU lo (if v>y then v else y) a n c z (Al (x+1)) h))) (some (Iv y,h)) :=
 lE
theorem Pe (hk:(Ak (Af lo 117 [Dt n m k,Iv 0] h) λv l=>eB v (AD l) (Ak (Af lo 204 [Dt n m k,Iv 0,AC x y z a i c S f] l) λv l=>eU v λv=>eN v (Cn l)))=some r) :
  Af lo 119 [Dt n m k,AC x y z a i c S f] h=some r :=
 eK Tryz.func119 hk
def AP lo n m k a i c x y h:=
 LA 120 Tryz.f120 2213 0 1 lo ⟨[(0,(Dt n m k)),(8,.sl 6 a i c),(9,Iv x),(10,Iv y)],[],h⟩
theorem L9 (hk:(Ak (Af lo 66 [Dt n m (k+2)] h) λv l=>eA v λv=>eC v λv c=>eS 6 v λv a o=>eN c (AP lo n m k v a o (a:Int) 0 l))=some r) :
  Af lo 120 [Dt n m k] h=some r :=
 eK Tryz.func120 hk
theorem AP.e :
  AP lo n m k a i c y x h=br (decide (x<y)) (An x i (eO a λv=>eO (ld h v.1 (v.2+x.toNat) 0 6) λv=>eC v λv l=>eI .i64 v λv=>eC l λl o=>eI .i64 l λl=>eC o λo s=>eI .i64 o λo=>eC s λs b=>eS 2 s λs z u=>eC b λb w=>eT b λb=>eC w λw p=>eBv w λw=>eN p (br ((l==0)&&((o==0)&&true)) (AP lo n m k a i c y (Al (x+1)) h) (eO (ld h n m (k+0) 1) λp=>eC p λp q=>eN q (eI .i64 p λp=>br (o==p) (eO (ld h n m (k+3) 1) λp=>eC p λp q=>eN q (eS 6 p λp q g=>Ak (Af lo 137 [.sl 6 p q g,Ar l o] h) λp q=>eB p (AP lo n m k a i c y (Al (x+1)) q) (eO (ld q n m (k+3) 1) λp=>eC p λp g=>eN g (eS 6 p λp g j=>Ak (Af q.length 154 [AC v l o s z u b w] q) λv l=>eA v λv=>eC v λv o=>eI .i64 v λv=>eC o λo s=>eI .i64 o λo=>eC s λs b=>eI .i64 s λs=>eC b λb z=>eS 2 b λb u w=>eC z λz q=>eT z λz=>eC q λq t=>eBv q λq=>eN t (As 6 (l ++ [.rows 6 43 false [Dc v o s b u w z q]]) (.sl 6 (some (l.length,0)) 1 (some 1)) λt=>Dv lo 43 6 72 (.sl 6 p g j) t (l ++ [.rows 6 43 false [Dc v o s b u w z q]]) λv l=>eS 6 v λv o s=>eO (st lo l n m (k+3) (Bc v o s)) λv=>AP lo n m k a i c y (Al (x+1)) v))))) (AP lo n m k a i c y (Al (x+1)) h)))))) (eO (ld h n m (k+3) 1) λv=>eC v λv l=>eN l (eS 6 v λv l o=>Ak (Af lo 205 (Bc v l o) h) λv l=>eS 6 v λv o s=>eO (st lo l n m (k+3) (Bc v o s)) λv=>eO (ld v n m ((k+2)+0) 1) λl=>eC l λl o=>eN o (eS 2 l λl o s=>Ak (Af lo 206 [.sl 2 l o s,.fn 207 []] v) λv l=>eB v (some (.tup [],l)) (eO (st lo l n m (k+5) [.bool false]) λv=>some (.tup [],v))))) :=
 lE
def GT lo f x a n c b m p h:=
 LA 121 Tryz.f121 221311 0 111 lo ⟨[(1,.lp 1 0),(2,.bool f),(3,.lp 3 0),(4,Iv x)],[(1,(Bb a n c)),(3,(Bb b m p))],h⟩
def D3 lo f x y a n c b m p h:=
 Lp (X 121) lo (pf 2213231221311 Tryz.f121) 2 (AW 2 (kS (X 121) lo (pf 1231221311 Tryz.f121) 1 (AW 1 (kS (X 121) lo (pf 11221311 Tryz.f121) 0 (WL (X 121) lo (pf 221311 Tryz.f121) 0 (AW 0 (kS (X 121) lo (pf 111 Tryz.f121) 0 (J7 (X 121) Tryz.f121.results.toList)))))))) ⟨[(1,.lp 1 0),(2,.bool f),(3,.lp 3 0),(4,Iv x),(5,Iv y)],[(1,(Bb a n c)),(3,(Bb b m p))],h⟩
def EU lo f x y a n c b m p h:=
 Lp (X 121) lo (pf 2211231221311 Tryz.f121) 4 (AW 4 (AW 1 (kS (X 121) lo (pf 11221311 Tryz.f121) 0 (WL (X 121) lo (pf 221311 Tryz.f121) 0 (AW 0 (kS (X 121) lo (pf 111 Tryz.f121) 0 (J7 (X 121) Tryz.f121.results.toList))))))) ⟨[(1,.lp 1 0),(2,.bool f),(3,.lp 3 0),(4,Iv x),(7,Iv y)],[(1,(Bb a n c)),(3,(Bb b m p))],h⟩
theorem GT.e :
  GT lo f x a n c b m p h=br (decide (x<(n:Int))) (D3 lo f x 0 a n c b m p h) (Cn h) :=
 lE
theorem D3.e :
  D3 lo f x y a n p b m c h=br (decide (y<4)) (An x n (eO a λv=>eO (ld h v.1 (v.2+x.toNat) 0 1) λv=>eC v λv l=>eN l (eS 6 v λv l o=>An y l (eO v λv=>eO (ld h v.1 (v.2+y.toNat) 0 6) λv=>eC v λv l=>eI .i64 v λv=>eC l λv l=>eI .i64 v λv=>eC l λl o=>eI .i64 l λl=>eC o λl o=>eS 2 l λl s z=>eC o λo u=>eT o λo=>eC u λo u=>eBv o λo=>eN u (br (decide (v>0)) (Ak (Af lo 124 [Ap l s z,Ap b m c] h) λv l=>eB v (D3 lo f x (Al (y+1)) a n p b m c l) (AD l)) (D3 lo f x (Al (y+1)) a n p b m c h)))))) (EU lo f x 0 a n p b m c h) :=
 lE
theorem EU.e :
  EU lo f x y a n p b m c h=An x n (eO a λv=>eO (ld h v.1 (v.2+x.toNat) 1 1) λv=>eC v λv l=>eN l (eS 6 v λv v l=>br (decide (y<(v:Int))) (An x n (eO a λv=>eO (ld h v.1 (v.2+x.toNat) 1 1) λv=>eC v λv l=>eN l (eS 6 v λv l o=>An y l (eO v λv=>eO (ld h v.1 (v.2+y.toNat) 3 1) λv=>eC v λv l=>eS 2 v λv o s=>eN l (Ak (Af lo 124 [Ap v o s,Ap b m c] h) λv l=>eB v (EU lo f x (Al (y+1)) a n p b m c l) (AD l)))))) (GT lo f (Al (x+1)) a n p b m c h))) :=
 lE
def Jk lo a n c x f y h:=
 LA 122 Tryz.f122 22131 0 11 lo ⟨[(0,.sl 6 a n c),(1,Iv x),(4,.bool f),(5,Iv y)],[],h⟩
def GS lo a n c x f y z h:=
 Lp (X 122) lo (pf 221123122131 Tryz.f122) 2 (AW 2 (AW 1 (kS (X 122) lo (pf 1122131 Tryz.f122) 0 (WL (X 122) lo (pf 22131 Tryz.f122) 0 (AW 0 (kS (X 122) lo (pf 11 Tryz.f122) 0 (J7 (X 122) Tryz.f122.results.toList))))))) ⟨[(0,.sl 6 a n c),(1,Iv x),(4,.bool f),(5,Iv y),(6,Iv z)],[],h⟩
theorem Jk.e :
  Jk lo a n c y f x h=br (decide (x<(n:Int))) (An x n (eO a λv=>eO (ld h v.1 (v.2+x.toNat) 0 6) λv=>eC v λv l=>eI .i64 v λv=>eC l λl o=>eI .i64 l λl=>eC o λo s=>eI .i64 o λo=>eC s λs b=>eS 2 s λs z u=>eC b λb w=>eT b λb=>eC w λw p=>eBv w λw=>eN p (Ak (Af lo 112 [AC v l o s z u b w] h) λv l=>eB v (An x n (eO a λv=>eO (ld l v.1 (v.2+x.toNat) 2 1) λv=>eC v λv o=>eN o (eI .i64 v λv=>br (v==y) (GS lo a n c y f x 0 l) (AD l)))) (AD l)))) (br (decide ((n:Int)<=60)) (Cn h) (AD h)) :=
 lE
theorem GS.e :
  GS lo a n c z f x y h=br (decide (y<x)) (An y n (eO a λv=>eO (ld h v.1 (v.2+y.toNat) 1 2) λv=>eC v λv l=>eI .i64 v λv=>eC l λl o=>eI .i64 l λl=>eN o (An x n (eO a λo=>eO (ld h o.1 (o.2+x.toNat) 1 2) λo=>eC o λo s=>eI .i64 o λo=>eC s λs b=>eI .i64 s λs=>eN b (br ((v==o)&&((l==s)&&true)) (AD h) (GS lo a n c z f x (Al (y+1)) h)))))) (Jk lo a n c z f (Al (x+1)) h) :=
 lE
def CL lo f x a n c b m p h:=
 LA 124 Tryz.f124 22131 0 11 lo ⟨[(2,.lp 2 0),(3,.lp 3 0),(4,.bool f),(5,Iv x)],[(2,(Bb a n c)),(3,(Bb b m p))],h⟩
theorem P5 (hk:(CL h.length false 0 a n c b m p h)=some (v,h')) (hn:noId v=true:=by rfl) :
  Af lo 124 [Ap a n c,Ap b m p] h=some (v,h) :=
 eD Tryz.func124 hk hn
theorem CL.e :
  CL lo f x a n c b m p h=br (decide (x<4)) (An x m (eO b λv=>eO (ld h v.1 (v.2+x.toNat) 0 2) λv=>eC v λv l=>eI .i64 v λv=>eC l λl o=>eI .i64 l λl=>eN o (An x n (eO a λo=>eO (ld h o.1 (o.2+x.toNat) 0 2) λo=>eC o λo s=>eI .i64 o λo=>eC s λs y=>eI .i64 s λs=>eN y (Ak (Af lo 197 [Ar v l,Ar o s] h) λv l=>eB v (AD l) (CL lo f (Al (x+1)) a n c b m p l)))))) (Cn h) :=
 lE
theorem S0 (hk:(An 0 n (eO a λl=>eO (ld h l.1 (l.2+0) 1 1) λl=>eC l λl o=>eN o (eS 6 l λl l o=>br (decide ((l:Int)<6)) (Cn h) (AD h))))=some (v,h')) (hn:noId v=true:=by rfl) :
  Af lo 125 [Ap a n c] h=some (v,h) :=
 eD Tryz.func125 hk hn
def CZ lo x y a n c h:=
 LA 126 Tryz.f126 221311 0 111 lo ⟨[(3,.lp 3 0),(5,Iv x),(6,Iv y)],[(3,(Bb a n c))],h⟩
theorem SY {e:Pq} (hk:(CZ h.length x 0 a n c h)=some (v,h')) (hn:noId v=true:=by rfl) :
  Af lo 126 [Br y x b m p d k u e i s f,Ap a n c] h=some (v,h) :=
 eD Tryz.func126 hk hn
theorem CZ.e :
  CZ lo y x a n c h=br (decide (x<4)) (An x n (eO a λv=>eO (ld h v.1 (v.2+x.toNat) 0 1) λv=>eC v λv l=>eN l (eI .i64 v λv=>br (decide (v>y)) (An x n (eO a λv=>eO (ld h v.1 (v.2+x.toNat) 0 1) λv=>eC v λv l=>eN l (eI .i64 v λv=>CZ lo v (Al (x+1)) a n c h))) (CZ lo y (Al (x+1)) a n c h)))) (some (Iv (Al (y+1)),h)) :=
 lE
def Iw lo x a n c m b k p i d j u h:=
 LA 127 Tryz.f127 221311 0 111 lo ⟨[(1,.lp 1 0),(2,.lp 2 0),(3,.lp 3 0),(4,Iv x)],[(1,(Bb a n c)),(2,[.sl m b k p]),(3,[.sl i d j u])],h⟩
def FS lo x y a n c m b k p i d j u e g s G A H C h:=
 Lp (X 127) lo (pf 22131231221311 Tryz.f127) 2 (AW 2 (kS (X 127) lo (pf 11231221311 Tryz.f127) 1 (AW 1 (kS (X 127) lo (pf 11221311 Tryz.f127) 0 (WL (X 127) lo (pf 221311 Tryz.f127) 0 (AW 0 (kS (X 127) lo (pf 111 Tryz.f127) 0 (J7 (X 127) Tryz.f127.results.toList)))))))) ⟨[(1,.lp 1 0),(2,.lp 2 0),(3,.lp 3 0),(4,Iv x),(5,.lp 5 0),(6,Iv y)],[(1,(Bb a n c)),(2,[.sl m b k p]),(3,[.sl i d j u]),(5,[.sl 6 e g s,.sl G A H C])],h⟩
theorem Iw.e :
  Iw lo x a n p i d j u m b k c h=br (decide (x<(n:Int))) (An x n (eO a λv=>eO (ld h v.1 (v.2+x.toNat) 0 1) λv=>eC v λv l=>eS 6 v λv o s=>eN l (Ak (Af lo 196 [BS v o s] h) λv l=>eA v λv=>eC v λv o=>eS 6 v λv s y=>eN o (FS lo x 0 a n p i d j u m b k c v s y 0 none 0 (some 0) l)))) (some (.agg [.sl m b k c],h)) :=
 lE
theorem FS.e {lo n j g G H m k i:Nat}{x y:Int}{a A B b d:Pq}{u s C c p:Nq}{h:Heap} :
  FS lo x y a n u j A g s G B H C b m c k d i p h=An x n (eO a λv=>eO (ld h v.1 (v.2+x.toNat) 1 1) λv=>eC v λv l=>eN l (eS 6 v λv v l=>br (decide (y<(v:Int))) (An x n (eO a λv=>eO (ld h v.1 (v.2+x.toNat) 1 1) λv=>eC v λv l=>eN l (eS 6 v λv l o=>An y l (eO v λv=>eO (ld h v.1 (v.2+y.toNat) 0 6) λv=>eC v λv l=>eI .i64 v λv=>eC l λl o=>eI .i64 l λl=>eC o λo z=>eI .i64 o λo=>eC z λz w=>eS 2 z λz q t=>eC w λw e=>eT w λw=>eC e λe f=>eBv e λe=>eN f (Ak (Af lo 187 [AC v l o z q t w e] h) λv l=>eA v λv=>eC v λv o=>eI .i64 v λv=>eC o λo z=>eI .i64 o λo=>eC z λz w=>eI .i64 z λz=>eC w λw q=>eS 2 w λw t e=>eC q λq f=>eT q λq=>eC f λf D=>eBv f λf=>eN D (As 6 (l ++ [.rows 6 43 false [Dc v o z w t e q f]]) (.sl 6 (some (l.length,0)) 1 (some 1)) λD=>Dv lo 43 6 72 (.sl k d i p) D (l ++ [.rows 6 43 false [Dc v o z w t e q f]]) λv l=>eS 6 v λv o z=>FS lo x (Al (y+1)) a n u j A g s G B H C b m c 6 v o z l)))))) (As 2 (h ++ [.rows 2 47 false [[.sl 6 b m c,.sl k d i p]]]) (.sl 2 (some (h.length,0)) 1 (some 1)) λv=>Dv lo 47 2 48 (.sl G B H C) v (h ++ [.rows 2 47 false [[.sl 6 b m c,.sl k d i p]]]) λv l=>eS 2 v λv o z=>Iw lo (Al (x+1)) a n u j A g s 2 v o z l))) :=
 lE
def Is lo a n c b m p x h:=
 LA 128 Tryz.f128 221311 0 111 lo ⟨[(0,.sl 6 a n c),(3,.sl 6 b m p),(4,Iv x)],[],h⟩
theorem Is.e :
  Is lo a n p b m c x h=br (decide (x<(n:Int))) (An x n (eO a λv=>eO (ld h v.1 (v.2+x.toNat) 0 6) λv=>eC v λv l=>eI .i64 v λv=>eC l λl o=>eI .i64 l λl=>eC o λo s=>eI .i64 o λo=>eC s λs y=>eS 2 s λs z u=>eC y λy w=>eT y λy=>eC w λw q=>eBv w λw=>eN q (Ak (Af lo 187 [AC v l o s z u y w] h) λv l=>eA v λv=>eC v λv o=>eI .i64 v λv=>eC o λo s=>eI .i64 o λo=>eC s λs y=>eI .i64 s λs=>eC y λy z=>eS 2 y λy u w=>eC z λz q=>eT z λz=>eC q λq g=>eBv q λq=>eN g (As 6 (l ++ [.rows 6 43 false [Dc v o s y u w z q]]) (.sl 6 (some (l.length,0)) 1 (some 1)) λg=>Dv lo 43 6 72 (.sl 6 b m c) g (l ++ [.rows 6 43 false [Dc v o s y u w z q]]) λv l=>eS 6 v λv o s=>Is lo a n p v o s (Al (x+1)) l)))) (some (.sl 6 b m c,h)) :=
 lE
theorem Vg (hk:(An x n (eO a λv=>eO (ld h v.1 (v.2+x.toNat) 0 1) λv=>eC v λv l=>eN l (eS 6 v λv l o=>An y l (eO v λv=>eO (ld h v.1 (v.2+y.toNat) 1 2) λv=>eC v λv l=>eI .i64 v λv=>eC l λl o=>eI .i64 l λl=>eN o (Ak (Af lo 197 [Ar v l,Ar z t] h) λv l=>eB v (An x n (eO a λv=>eO (ld l v.1 (v.2+x.toNat) 0 1) λv=>eC v λv o=>eS 6 v λv s u=>eN o (Ak (Af lo 198 [BS v s u,AC y z t b m p S f] l) λv o=>eA v λv=>eC v λv s=>eS 6 v λv u w=>eN s (An x n (eO a λs=>eO (st lo o s.1 (s.2+x.toNat) 0 (Bc v u w)) λv=>br (decide (x<Al ((n:Int) - (1:Int)))) (An x n (eO a λo=>eO (ld v o.1 (o.2+x.toNat) 1 1) λo=>eC o λo s=>eN s (eS 6 o λo s u=>Ak (Af v.length 187 [AC y z t b m p S f] v) λw q=>eA w λw=>eC w λw g=>eI .i64 w λw=>eC g λg i=>eI .i64 g λg=>eC i λi j=>eI .i64 i λi=>eC j λj k=>eS 2 j λj d e=>eC k λk A=>eT k λk=>eC A λA B=>eBv A λA=>eN B (As 6 (q ++ [.rows 6 43 false [Dc w g i j d e k A]]) (.sl 6 (some (q.length,0)) 1 (some 1)) λB=>Dv lo 43 6 72 (.sl 6 o s u) B (q ++ [.rows 6 43 false [Dc w g i j d e k A]]) λo s=>eS 6 o λo u w=>An x n (eO a λq=>eO (st lo s q.1 (q.2+x.toNat) 1 (Bc o u w)) λo=>some ((Ap a n c),o)))))) (some ((Ap a n c),v))))))) (some ((Ap a n c),l)))))))=some r) :
  Af lo 129 [Ap a n c,Iv x,AC y z t b m p S f] h=some r :=
 eK Tryz.func129 hk
def BX lo x y z a n c b m p d k u f t w i e j s g A G C H B J D F a0 P c0 h:=
 LA 130 Tryz.f130 221311 0 111 lo ⟨[(1,.lp 1 0),(2,.lp 2 0),(3,.lp 3 0),(4,Iv x)],[(1,(Du y z a n c b m p d k u f)),(2,[Iv t,Iv w,.sl i e j s,.sl g A G C,.sl H B J D,.bool F]),(3,(Bc a0 P c0))],h⟩
def BW lo f x y z a n c b m p d k u F t w i e j s g A G C H B J D b0 h:=
 LA 130 Tryz.f130 22131111 2 11111 lo ⟨[(1,.lp 1 0),(2,.lp 2 0),(6,.bool f),(7,Iv x)],[(1,(Du y z a n c b m p d k u F)),(2,[Iv t,Iv w,.sl i e j s,.sl g A G C,.sl H B J D,.bool b0])],h⟩
theorem SX (hk:(An (Al ((n:Int) - 1)) n (eO a λv=>eO (ld h v.1 (v.2+((Al ((n:Int) - (1:Int))).toNat)) 0 1) λv=>eC v λv l=>eS 6 v λv o s=>eN l (BX lo 0 x y a n c b m p d k u f 0 0 0 none 0 (some 0) 0 none 0 (some 0) 0 none 0 (some 0) false v o s h)))=some r) :
  Af lo 130 [Br x y a n c b m p d k u f] h=some r :=
 eK Tryz.func130 hk
theorem BX.e {lo m n k i j g G H J P:Nat}{x y z t w:Int}{b a d A B a0 a1:Pq}{p c u s C D c0:Nq}{f F:Bool}{h:Heap} :
  BX lo x y z b m p a n c d k u f t w i A j s g B G C H a0 J D F a1 P c0 h=br (decide (x<4)) (An x P (eO a1 λv=>eO (ld h v.1 (v.2+x.toNat) 0 6) λv=>eC v λv l=>eI .i64 v λv=>eC l λl o=>eI .i64 l λl=>eC o λo q=>eI .i64 o λo=>eC q λq e=>eS 2 q λq E K=>eC e λe L=>eT e λe=>eC L λL M=>eBv L λL=>eN M (br (decide (l>0)) (br (o==y) (Ak (Af lo 208 [.sl 6 a n c,Ar l o] h) λM N=>eB M (BX lo (Al (x+1)) y z b m p a n c d k u f t w i A j s g B G C H a0 J D F a1 P c0 N) (Ak (Af lo 187 [AC v l o q E K e L] N) λv l=>eA v λv=>eC v λv o=>eI .i64 v λv=>eC o λo q=>eI .i64 o λo=>eC q λq e=>eI .i64 q λq=>eC e λe E=>eS 2 e λe K L=>eC E λE M=>eT E λE=>eC M λM N=>eBv M λM=>eN N (As 6 (l ++ [.rows 6 43 false [Dc v o q e K L E M]]) (.sl 6 (some (l.length,0)) 1 (some 1)) λN=>Dv lo 43 6 72 (.sl 6 a n c) N (l ++ [.rows 6 43 false [Dc v o q e K L E M]]) λv l=>eS 6 v λv o q=>BX lo (Al (x+1)) y z b m p v o q d k u f t w i A j s g B G C H a0 J D F a1 P c0 l))) (BX lo (Al (x+1)) y z b m p a n c d k u f t w i A j s g B G C H a0 J D F a1 P c0 h)) (BX lo (Al (x+1)) y z b m p a n c d k u f t w i A j s g B G C H a0 J D F a1 P c0 h)))) (BW lo true 0 y z b m p a n c d k u f t w i A j s g B G C H a0 J D F h) :=
 lE
theorem BW.e {J:Nat}{b0:Bool} :
  BW lo F x y z a n c b m p d k u f t w i A j s g B G C H a0 J D b0 h=br (decide (x<(n:Int))) (br F (An x n (eO a λv=>eO (ld h v.1 (v.2+x.toNat) 1 1) λv=>eC v λv l=>eN l (eS 6 v λv v l=>br ((v:Int)==0) (BW lo true (Al (x+1)) y z a n c b m p d k u f t w i A j s g B G C H a0 J D b0 h) (BW lo false (Al (x+1)) y z a n c b m p d k u f t w i A j s g B G C H a0 J D b0 h)))) (BW lo false (Al (x+1)) y z a n c b m p d k u f t w i A j s g B G C H a0 J D b0 h)) (br f (some ((Br y z a n c b m p d k u (!F)),h)) (some ((Br y z a n c b m p d k u false),h))) :=
 by cases f<;>cases F<;>exact lE
def HL lo f x a n c b m p h:=
 LA 131 Tryz.f131 221311 0 111 lo ⟨[(2,.lp 2 0),(3,.lp 3 0),(4,.bool f),(5,Iv x)],[(2,(Bc a n c)),(3,(Bc b m p))],h⟩
theorem HL.e {lo n m:Nat}{f:Bool}{x:Int}{a b:Pq}{c p:Nq}{h:Heap} :
  HL lo f x a n c b m p h=br (decide (x<(n:Int))) (An x n (eO a λv=>eO (ld h v.1 (v.2+x.toNat) 0 6) λv=>eC v λv l=>eI .i64 v λv=>eC l λl o=>eI .i64 l λl=>eC o λo s=>eI .i64 o λo=>eC s λs y=>eS 2 s λs z u=>eC y λy w=>eT y λy=>eC w λw q=>eBv w λw=>eN q (An x m (eO b λq=>eO (ld h q.1 (q.2+x.toNat) 0 6) λq=>eC q λq g=>eI .i64 q λq=>eC g λg i=>eI .i64 g λg=>eC i λi j=>eI .i64 i λi=>eC j λj k=>eS 2 j λj t d=>eC k λk e=>eT k λk=>eC e λe A=>eBv e λe=>eN A (Ak (Af lo 73 [AC v l o s z u y w,AC q g i j t d k e] h) λv l=>eB v (HL lo f (Al (x+1)) a n c b m p l) (AD l)))))) (Cn h) :=
 lE
theorem Ss (hk:(Ak (Af h.length 63 (C1 x 1 4) h) λl c=>eB l (Cn c) (AD c))=some (v,h')) (hn:noId v=true:=by rfl) :
  Af lo 132 (AN x) h=some (v,h) :=
 eD Tryz.func132 hk hn
theorem Vp (hk:(Ak (Af h.length 116 [AC z x y a n c S f] h) λl o=>eB l (Ak (Af h.length 144 [Ar x y] o) λl s=>eB l (Ak (Af s.length 118 [Ap a n c] s) λl b=>eI .i64 l λl=>br (decide (x>l)) (Cn b) (AD b)) (AD s)) (AD o))=some (v,h')) (hn:noId v=true:=by rfl) :
  Af lo 134 [AC z x y a n c S f] h=some (v,h) :=
 eD Tryz.func134 hk hn
theorem Oc (hk:(br (x==Al ((n:Int) - (1:Int))) (Cn h) (AD h))=some (v,h')) (hn:noId v=true:=by rfl) :
  Af lo 135 [Ap a n c,Iv x] h=some (v,h) :=
 eD Tryz.func135 hk hn
def Gb lo f a n c x y b m p d k u e i s h:=
 LA 136 Tryz.f136 221311 0 111 lo ⟨[(2,.lp 2 0),(4,.bool f),(5,.lp 5 0),(11,.sl 6 a n c),(12,Iv x),(13,Iv y)],[(2,(Ij b m p d k u)),(5,(Bc e i s))],h⟩
theorem Gb.e {lo m k i n:Nat}{f:Bool}{b d A a:Pq}{u p s c:Nq}{y x:Int}{h:Heap} :
  Gb lo f b m u y x d k p A i s a n c h=br (decide (x<y)) (An x m (eO b λv=>eO (ld h v.1 (v.2+x.toNat) 0 6) λv=>eC v λv l=>eI .i64 v λv=>eC l λl o=>eI .i64 l λl=>eC o λo z=>eI .i64 o λo=>eC z λz w=>eS 2 z λz q g=>eC w λw j=>eT w λw=>eC j λj t=>eBv j λj=>eN t (Ak (Af lo 210 [BS a n c,AC v l o z q g w j] h) λt e=>eB t (An v n (eO a λt=>eO (st lo e t.1 (t.2+v.toNat) 0 (Dc v l o z q g w j)) λv=>Gb lo f b m u y (Al (x+1)) d k p A i s a n c v)) (AD e)))) (Ak (Af lo 211 [BS a n c,BS d k p] h) λv l=>eB v (Cn l) (AD l)) :=
 lE
theorem Tj (hk:(Ak (Af h.length 80 [.sl 6 a n c,.fn 212 [.ptr (some (h.length,(0,0)))]] (h ++ [.rows 2 36 false [Bg x y]])) λl o=>eB l (Cn o) (AD o))=some (v,h')) (hn:noId v=true:=by rfl) :
  Af lo 137 [.sl 6 a n c,Ar x y] h=some (v,h) :=
 eD Tryz.func137 hk hn
theorem KW (hk:(some ((Ap (some (h.length,0)) 4 (some 4)),(h ++ [.rows 2 36 false [Bg 0 0,Bg 0 0,Bg 0 0,Bg 0 0]])))=some r) :
  Af lo 138 [] h=some r :=
 eK Tryz.func138 hk
def DT lo x y a n c z t h:=
 LA 140 Tryz.f140 221311 0 111 lo ⟨[(2,Iv x),(3,Iv y),(6,.sl 1 a n c),(7,Iv z),(8,Iv t)],[],h⟩
theorem Vr (hk:(DT h.length 0 0 a n c (n:Int) 0 h)=some (v,h')) (hn:noId v=true:=by rfl) :
  Af lo 140 [.sl 1 a n c] h=some (v,h) :=
 eD Tryz.func140 hk hn
theorem DT.e :
  DT lo t y a n c z x h=br (decide (x<z)) (An x n (eO a λv=>eO (ld h v.1 (v.2+x.toNat) 0 1) λv=>eC v λv l=>eN l (eI .i64 v λv=>br (v==y) (DT lo t y a n c z (Al (x+1)) h) (some (Iv v,h))))) (some (Iv y,h)) :=
 lE
theorem Of (hk:(Ak (Af h.length 213 (AN y) h) λl c=>eB l (Ak (Af h.length 213 (AN x) c) λl n=>eB l (some (Iv 0,n)) (some (Iv (-1),n))) (Ak (Af h.length 213 (AN x) c) λl c=>eB l (some (Iv 1,c)) (br (decide (y<x)) (some (Iv (-1),c)) (br (decide (y>x)) (some (Iv 1,c)) (some (Iv 0,c))))))=some (v,h')) (hn:noId v=true:=by rfl) :
  Af lo 141 (Bg y x) h=some (v,h) :=
 eD Tryz.func141 hk hn
theorem EX (hk:(Ak (Af h.length 214 [.sl 2 a n c,.fn m l] h) λo s=>eI .i64 o λo=>br (decide (o>=0)) (Cn s) (AD s))=some (v,h')) (hn:noId v=true:=by rfl) :
  Af lo 142 [.sl 2 a n c,.fn m l] h=some (v,h) :=
 eD Tryz.func142 hk hn
theorem Qm (hk:(Ak (Af h.length 144 [Ar x y] h) λl c=>eB l (AD c) (Cn c))=some (v,h')) (hn:noId v=true:=by rfl) :
  Af lo 143 [Ar x y] h=some (v,h) :=
 eD Tryz.func143 hk hn
theorem Vq (hk:(br ((x==0)&&((y==0)&&true)) (Cn h) (Ak (Af h.length 63 (C1 x 1 999) h) λl c=>eB l (Ak (Af h.length 62 (AN y) c) λl n=>eB l (Cn n) (AD n)) (AD c)))=some (v,h')) (hn:noId v=true:=by rfl) :
  Af lo 144 [Ar x y] h=some (v,h) :=
 eD Tryz.func144 hk hn
def DS lo n m k x a i c y b j p d g u e G s A H C h:=
 LA 145 Tryz.f145 2213111 0 1111 lo ⟨[(0,(Dt n m k)),(3,Iv x),(9,.lp 9 0),(10,.sl 6 a i c),(11,Iv y)],[(9,(DW b j p d g u e G s A H C))],h⟩
theorem DS.e {lo n m k i j g G H:Nat}{x y:Int}{a b d A B:Pq}{c p u s C:Nq}{h:Heap} :
  DS lo n m k x a i c y b j p d g u A G s B H C h=br (decide (y<x)) (Ak (Af lo 215 [Dt n m k,At b j p d g u A G s B H C] h) λv l=>eA v λv=>eC v λv o=>eI .i64 v λv=>eC o λo z=>eI .i64 o λo=>eC z λz w=>eI .i64 z λz=>eC w λw q=>eI .i64 w λw=>eC q λq t=>eT q λq=>eC t λt e=>eBv t λt=>eN e (Ak (Af lo 102 [At b j p d g u A G s B H C,BT v o z w q t] l) λl e=>eU l λl=>eC l λl f=>eA l λl=>eC l λl D=>eS 6 l λl E J=>eC D λD K=>eS 5 D λD L M=>eC K λK N=>eS 9 K λK O P=>eC N λN Q=>eS 5 N λN S U=>eN Q (eC f λf Q=>eB f (eN Q (As 6 (e ++ [.rows 6 74 false [PR v o z w q t]]) (.sl 6 (some (e.length,0)) 1 (some 1)) λf=>Dv lo 74 6 56 (.sl 6 a i c) f (e ++ [.rows 6 74 false [PR v o z w q t]]) λf W=>eS 6 f λf Y Z=>DS lo n m k x f Y Z (Al (y+1)) l E J D L M K O P N S U W)) (eN Q (Ak (Af lo 44 [Dt n m k,Iv 6] e) λe f=>eI .i64 e λe=>br (decide (e>0)) (DS lo n m k x a i c (Al (y+1)) b j p d g u A G s B H C f) (As 6 (f ++ [.rows 6 74 false [PR v o z w q t]]) (.sl 6 (some (f.length,0)) 1 (some 1)) λe=>Dv lo 74 6 56 (.sl 6 a i c) e (f ++ [.rows 6 74 false [PR v o z w q t]]) λv o=>eS 6 v λv z w=>DS lo n m k x v z w (Al (y+1)) l E J D L M K O P N S U o)))))) (some (.sl 6 a i c,h)) :=
 lE
def DQ lo x y z n a m c k b i p j d g u G e H s J A P C n0 B n1 D n2 a0 n3 c0 n4 a1 n5 c1 h:=
 LA 146 Tryz.f146 221311 0 111 lo ⟨[(0,Iv x),(1,Iv y),(4,.lp 4 0),(5,.lp 5 0),(6,Iv z)],[(4,[.sl n a m c,.sl k b i p,.sl j d g u,.sl G e H s]),(5,[.sl J A P C,.sl n0 B n1 D,.sl n2 a0 n3 c0,.sl n4 a1 n5 c1])],h⟩
def DP lo x y n a m c k b i p j d g u G e H s J A P C n0 B n1 D n2 a0 n3 c0 n4 a1 n5 c1 h:=
 LA 146 Tryz.f146 2213111 2 1111 lo ⟨[(1,Iv x),(4,.lp 4 0),(5,.lp 5 0),(7,Iv y)],[(4,[.sl n a m c,.sl k b i p,.sl j d g u,.sl G e H s]),(5,[.sl J A P C,.sl n0 B n1 D,.sl n2 a0 n3 c0,.sl n4 a1 n5 c1])],h⟩
theorem U9 (hk:(DQ lo x y 0 0 none 0 (some 0) 0 none 0 (some 0) 0 none 0 (some 0) 0 none 0 (some 0) 0 none 0 (some 0) 0 none 0 (some 0) 0 none 0 (some 0) 0 none 0 (some 0) h)=some r) :
  Af lo 146 (Bg x y) h=some r :=
 eK Tryz.func146 hk
theorem DQ.e {lo n m k i j g G H J P n0 n1 n2 n3 n4 n5:Nat}{y z x:Int}{a b d A B a0 a1 a2:Pq}{c p u s C D c0 c1:Nq}{h:Heap} :
  DQ lo y z x n a m c k b i p j d g u G A H s J B P C n0 a0 n1 D n2 a1 n3 c0 n4 a2 n5 c1 h=br (decide (x<3)) (Ak (Af lo 216 (Bg x y) h) λv l=>eA v λv=>eC v λv o=>eI .i64 v λv=>eC o λo w=>eI .i64 o λo=>eC w λw q=>eS 2 w λw t e=>eC q λq f=>eS 6 q λq E K=>eC f λf L=>eS 1 f λf M N=>eC L λL O=>eBv L λL=>eN O (As 6 (l ++ [.rows 6 29 false [Du v o w t e q E K f M N L]]) (.sl 6 (some (l.length,0)) 1 (some 1)) λO=>Dv lo 29 6 96 (.sl J B P C) O (l ++ [.rows 6 29 false [Du v o w t e q E K f M N L]]) λv l=>eS 6 v λv o w=>DQ lo y z (Al (x+1)) n a m c k b i p j d g u G A H s 6 v o w n0 a0 n1 D n2 a1 n3 c0 n4 a2 n5 c1 l)) (DP lo z 0 n a m c k b i p j d g u G A H s J B P C n0 a0 n1 D n2 a1 n3 c0 n4 a2 n5 c1 h) :=
 lE
theorem DP.e {J P n0 n1 n2 n3 n4 n5:Nat}{a2:Pq}{c1:Nq} :
  DP lo y x J B P C n0 a0 n1 D n2 a1 n3 c0 n4 a2 n5 c1 n a m c k b i p j d g u G A H s h=br (decide (x<y)) (Ak (Af lo 45 [] h) λv l=>eA v λv=>eC v λv o=>eS 2 v λv z w=>eN o (As 5 (l ++ [.rows 5 66 false [NR (x.tmod (3:Int)) v z w 0 0 0]]) (.sl 5 (some (l.length,0)) 1 (some 1)) λo=>Dv lo 66 5 56 (.sl k b i p) o (l ++ [.rows 5 66 false [NR (x.tmod (3:Int)) v z w 0 0 0]]) λv l=>eS 5 v λv o z=>DP lo y (Al (x+1)) J B P C n0 a0 n1 D n2 a1 n3 c0 n4 a2 n5 c1 n a m c 5 v o z j d g u G A H s l)) (some (.agg [.sl n a m c,.sl k b i p,.sl j d g u,.sl G A H s],h)) :=
 lE
theorem Ql (hk:(Ak (Af lo 62 (AN x) h) λv l=>eB v (Ak (Af lo 132 (AN y) l) λv c=>eB v (Ak (Af c.length 217 (AN y) c) λv n=>eA v λv=>eC v λv a=>eS 2 v λv o s=>eN a (some (.agg [Iv x,Iv 0,.sl 2 v o s,.sl 0 none 0 (some 0),.sl 1 (some (n.length,0)) 3 (some 3),.bool false],(n ++ [.rows 1 26 false [[.sl 0 none 0 (some 0)],[.sl 0 none 0 (some 0)],[.sl 0 none 0 (some 0)]]])))) (some (.agg [Iv 0,Iv 0,.sl 0 none 0 (some 0),.sl 0 none 0 (some 0),.sl 0 none 0 (some 0),.bool false],c))) (some (.agg [Iv 0,Iv 0,.sl 0 none 0 (some 0),.sl 0 none 0 (some 0),.sl 0 none 0 (some 0),.bool false],l)))=some r) :
  Af lo 147 (Bg x y) h=some r :=
 eK Tryz.func147 hk
theorem L6 (hk:(eO (ld h n m (k+1) 1) λv=>eC v λv l=>eN l (eS 5 v λv v l=>Ak (Af lo 63 (C1 x 0 (Al ((v:Int) - 1))) h) λv l=>eB v (eO (ld l n m (k+1) 1) λv=>eC v λv c=>eN c (eS 5 v λv c a=>An x c (eO v λv=>eO (ld l v.1 (v.2+x.toNat) 2 2) λc=>eC c λc a=>eI .i64 c λc=>eC a λa o=>eI .i64 a λa=>eN o (br ((c==0)&&((a==0)&&true)) (br (y==2) (AD l) (br (y==1) (Ak (Af lo 218 [Dt n m k,.ptr (some (v.1,((v.2+x.toNat),0))),BT y x z t S f] l) λc a=>eB c (Cn a) (AD a)) (br (y==2) (Ak (Af lo 219 [Dt n m k,.ptr (some (v.1,((v.2+x.toNat),0))),BT y x z t S f] l) λc a=>eB c (Cn a) (AD a)) (br (y==3) (Ak (Af lo 220 [Dt n m k,.ptr (some (v.1,((v.2+x.toNat),0))),BT y x z t S f] l) λc a=>eB c (Cn a) (AD a)) (br (y==4) (Ak (Af lo 221 [Dt n m k,.ptr (some (v.1,((v.2+x.toNat),0))),BT y x z t S f] l) λc a=>eB c (Cn a) (AD a)) (Ak (Af lo 62 (AN z) l) λc a=>eB c (eO (st lo a v.1 (v.2+x.toNat) 0 (AN z)) λc=>some (.bool true,c)) (AD a))))))) (br (y==2) (br (y==1) (Ak (Af lo 218 [Dt n m k,.ptr (some (v.1,((v.2+x.toNat),0))),BT y x z t S f] l) λc a=>eB c (Cn a) (AD a)) (br (y==2) (Ak (Af lo 219 [Dt n m k,.ptr (some (v.1,((v.2+x.toNat),0))),BT y x z t S f] l) λc a=>eB c (Cn a) (AD a)) (br (y==3) (Ak (Af lo 220 [Dt n m k,.ptr (some (v.1,((v.2+x.toNat),0))),BT y x z t S f] l) λc a=>eB c (Cn a) (AD a)) (br (y==4) (Ak (Af lo 221 [Dt n m k,.ptr (some (v.1,((v.2+x.toNat),0))),BT y x z t S f] l) λc a=>eB c (Cn a) (AD a)) (Ak (Af lo 62 (AN z) l) λc a=>eB c (eO (st lo a v.1 (v.2+x.toNat) 0 (AN z)) λv=>some (.bool true,v)) (AD a)))))) (AD l)))))) (AD l)))=some r) :
  Af lo 148 [Dt n m k,BT y x z t S f] h=some r :=
 eK Tryz.func148 hk
theorem L7 (hk:(Ak (Af lo 62 (AN x) h) λv l=>eB v (eO (ld l n m (k+0) 1) λv=>eC v λv c=>eN c (eS 6 v λv c a=>An x c (eO v λv=>br (t==6) (Ak (Af lo 222 [.ptr (some (v.1,((v.2+x.toNat),0))),Iv y] l) λc a=>eB c (Cn a) (AD a)) (br (t==7) (Ak (Af lo 223 [.ptr (some (v.1,((v.2+x.toNat),0))),Iv y] l) λc a=>eB c (Cn a) (AD a)) (br (t==8) (Ak (Af lo 224 [.ptr (some (v.1,((v.2+x.toNat),2)))] l) λc a=>eB c (Cn a) (AD a)) (br (t==9) (Ak (Af lo 225 [.ptr (some (v.1,((v.2+x.toNat),0))),Iv y] l) λc a=>eB c (Cn a) (AD a)) (Ak (Af lo 226 (Bg x y) l) λc a=>eB c (eO (ld a v.1 (v.2+x.toNat) 3 1) λc=>eC c λc o=>eN o (eS 6 c λc c o=>Ak (Af lo 63 (C1 z 0 (Al ((c:Int) - 1))) a) λc o=>eB c (eO (ld o n m (k+2) 1) λc=>eC c λc s=>eN s (eS 9 c λc c s=>br (decide ((c:Int)>=12)) (AD o) (eO (ld o n m (k+2) 1) λc=>eC c λc s=>eN s (eS 9 c λc s b=>eO (ld o v.1 (v.2+x.toNat) 3 1) λv=>eC v λv u=>eN u (eS 6 v λv u w=>An z u (eO v λv=>eO (ld o v.1 (v.2+z.toNat) 0 6) λv=>eC v λv u=>eI .i64 v λv=>eC u λu w=>eI .i64 u λu=>eC w λw p=>eI .i64 w λw=>eC p λp q=>eS 2 p λp g i=>eC q λq j=>eT q λq=>eC j λj d=>eBv j λj=>eN d (Ak (Af o.length 154 [AC v u w p g i q j] o) λv u=>eA v λv=>eC v λv w=>eI .i64 v λv=>eC w λw p=>eI .i64 w λw=>eC p λp q=>eI .i64 p λp=>eC q λq g=>eS 2 q λq i j=>eC g λg d=>eT g λg=>eC d λd e=>eBv d λd=>eN e (As 9 (u ++ [.rows 9 123 false [NS x y z v w p q i j g d]]) (.sl 9 (some (u.length,0)) 1 (some 1)) λe=>Dv lo 123 9 96 (.sl 9 c s b) e (u ++ [.rows 9 123 false [NS x y z v w p q i j g d]]) λv c=>eS 9 v λv s b=>eO (st lo c n m (k+2) [.sl 9 v s b]) λv=>some (.bool true,v))))))))) (AD o))) (AD a)))))))) (AD l))=some r) :
  Af lo 149 [Dt n m k,BT t x y z S f] h=some r :=
 eK Tryz.func149 hk
theorem LG (hk:(eO (ld h n m (k+2) 1) λv=>eC v λv l=>eN l (eS 9 v λv v l=>Ak (Af lo 63 (C1 x 0 (Al ((v:Int) - 1))) h) λv l=>eB v (eO (ld l n m (k+2) 1) λv=>eC v λv c=>eN c (eS 9 v λv c a=>An x c (eO v λv=>eO (ld l v.1 (v.2+x.toNat) 0 9) λv=>eC v λv c=>eI .i64 v λv=>eC c λc a=>eI .i64 c λc=>eC a λa o=>eI .i64 a λa=>eC o λo s=>eI .i64 o λo=>eC s λs b=>eI .i64 s λs=>eC b λb u=>eI .i64 b λb=>eC u λu w=>eS 2 u λu p q=>eC w λw g=>eT w λw=>eC g λg i=>eBv g λg=>eN i (br (y==13) (br (y==12) (Cn l) (eO (ld l n m (k+0) 1) λi=>eC i λi j=>eN j (eS 6 i λi j d=>An c j (eO i λi=>Ak (Af lo 228 [.ptr (some (i.1,((i.2+c.toNat),0))),Iv v,Iv a,AC o s b u p q w g] l) λi j=>eB i (Cn j) (Cn j))))) (eO (ld l n m (k+2) 1) λi=>eC i λi j=>eN j (eS 9 i λi j d=>Ak (Af lo 227 [.sl 9 i j d,Iv x,Iv (Al (x+1))] l) λi j=>eS 9 i λi d e=>eO (st lo j n m (k+2) [.sl 9 i d e]) λi=>br (y==12) (Cn i) (eO (ld i n m (k+0) 1) λj=>eC j λj d=>eN d (eS 6 j λj d e=>An c d (eO j λj=>Ak (Af lo 228 [.ptr (some (j.1,((j.2+c.toNat),0))),Iv v,Iv a,AC o s b u p q w g] i) λv c=>eB v (Cn c) (Cn c)))))))))) (AD l)))=some r) :
  Af lo 150 [Dt n m k,BT y x z t S f] h=some r :=
 eK Tryz.func150 hk
theorem Gz (hk:(Aw a n c none (some (Iv (n:Int))) (some (Iv (n:Int))) λv l o=>some (.sl 5 v l o,h))=some r) :
  Af lo 151 [.sl 5 a n c] h=some r :=
 eK Tryz.func151 hk
theorem DU (hk:(br (a.isNone) (some (.sl 0 none 0 (some 0),h)) (As 5 (h ++ [.rows 5 126 false []]) (.sl 5 a n c) λv=>Dv lo 126 5 40 (.sl 5 (some (h.length,0)) 0 (some 0)) v (h ++ [.rows 5 126 false []]) λv l=>eS 5 v λv o s=>some (.sl 5 v o s,l)))=some r) :
  Af lo 152 [.sl 5 a n c] h=some r :=
 eK Tryz.func152 hk
theorem MS (hk:(Ak (Af lo 230 (Bb a n c) h) λv l=>eS 2 v λv o s=>Ak (Af lo 229 (Bb v o s) l) λv l=>eS 2 v λv o s=>some ((Ap v o s),l))=some r) :
  Af lo 153 [Ap a n c] h=some r :=
 eK Tryz.func153 hk
theorem N4 (hk:(Ak (Af lo 153 [Ap a n c] h) λv l=>eA v λv=>eC v λv o=>eS 2 v λv s b=>eN o (some ((AC x y z v s b S f),l)))=some r) :
  Af lo 154 [AC x y z a n c S f] h=some r :=
 eK Tryz.func154 hk
def AF lo a n c m l x y z h:=
 LA 156 Tryz.f156 22131 0 11 lo ⟨[(0,.sl 6 a n c),(1,.fn m l),(4,Iv x),(7,Iv y),(8,Iv z)],[],h⟩
theorem FD (hk:(AF h.length a n c m l 0 (n:Int) 0 h)=some (v,h')) (hn:noId v=true:=by rfl) :
  Af lo 156 [.sl 6 a n c,.fn m l] h=some (v,h) :=
 eD Tryz.func156 hk hn
theorem AF.e :
  AF lo a n c m l z y x h=br (decide (x<y)) (An x n (eO a λv=>eO (ld h v.1 (v.2+x.toNat) 0 6) λv=>eC v λv o=>eI .i64 v λv=>eC o λo s=>eI .i64 o λo=>eC s λs b=>eI .i64 s λs=>eC b λb u=>eS 2 b λb w p=>eC u λu q=>eT u λu=>eC q λq g=>eBv q λq=>eN g (Ak (Af lo m (Ea [AC v o s b w p u q] l) h) λv o=>eB v (some (Iv x,o)) (AF lo a n c m l z y (Al (x+1)) o)))) (some (Iv (-1),h)) :=
 lE
theorem Sk {e:Pq} (hk:(br (x==z) (br (y==t) (Ak (Af h.length 237 [Ap a n c,Ap e i s] h) λl o=>eB l (Ak (Af h.length 238 (Ij b m p A j C) o) λl w=>eB l (Ak (Af h.length 239 [.sl 1 d k u,.sl 1 B g D] w) λl q=>eB l (br (f==F) (Cn q) (AD q)) (AD q)) (AD w)) (AD o)) (AD h)) (AD h))=some (v,h')) (hn:noId v=true:=by rfl) :
  Af lo 165 [Br x y a n c b m p d k u f,Br z t e i s A j C B g D F] h=some (v,h) :=
 eD Tryz.func165 hk hn
theorem Td {q M N:Int} (hk:(br (x==w) (Ak (Af h.length 240 [Ap a n c,Ap b m p] h) λl o=>eB l (Ak (Af h.length 241 [Ar y z,Ar q M] o) λl s=>eB l (br (t==N) (Cn s) (AD s)) (AD s)) (AD o)) (AD h))=some (v,h')) (hn:noId v=true:=by rfl) :
  Af lo 166 [PL x a n c y z t,PL w b m p q M N] h=some (v,h) :=
 eD Tryz.func166 hk hn
theorem Sn {q M N O x0 x1 x2:Int}{s0:ByteArray} (hk:(br (x==M) (br (y==N) (br (z==O) (Ak (Af h.length 242 [AC t w q a n c S f,AC x0 x1 x2 b m p s0 F] h) λl o=>eB l (Cn o) (AD o)) (AD h)) (AD h)) (AD h))=some (v,h')) (hn:noId v=true:=by rfl) :
  Af lo 167 [PM x y z t w q a n c S f,PM M N O x0 x1 x2 b m p s0 F] h=some (v,h) :=
 eD Tryz.func167 hk hn
theorem Tg {q M N O x0:Int} (hk:(br (x==q) (br (y==M) (br (z==N) (Ak (Af h.length 241 [Ar t w,Ar O x0] h) λl c=>eB l (Cn c) (AD c)) (AD h)) (AD h)) (AD h))=some (v,h')) (hn:noId v=true:=by rfl) :
  Af lo 168 [RE x y z t w,RE q M N O x0] h=some (v,h) :=
 eD Tryz.func168 hk hn
def Ct lo a n c x y h:=
 LA 169 Tryz.f169 22131 0 11 lo ⟨[(0,.sl 2 a n c),(1,Iv x),(5,Iv y)],[],h⟩
theorem O3 (hk:(Ct lo a n c x 0 h)=some r) :
  Af lo 169 [.sl 2 a n c,Iv x] h=some r :=
 eK Tryz.func169 hk
theorem Ct.e :
  Ct lo a n c y x h=br (decide (x<(n:Int))) (An x n (eO a λv=>eO (ld h v.1 (v.2+x.toNat) 0 1) λv=>eC v λv l=>eN l (eS 6 v λv l o=>Ak (Af lo 170 [.sl 6 v l o,Iv y] h) λv l=>eI .i64 v λv=>An x n (eO a λo=>eO (ld l o.1 (o.2+x.toNat) 1 1) λo=>eC o λo s=>eN s (eS 6 o λo s b=>Ak (Af lo 170 [.sl 6 o s b,Iv v] l) λv l=>eI .i64 v λv=>Ct lo a n c v (Al (x+1)) l))))) (some (Iv y,h)) :=
 lE
def Cg lo a n c x y h:=
 LA 170 Tryz.f170 22131 0 11 lo ⟨[(0,.sl 6 a n c),(1,Iv x),(5,Iv y)],[],h⟩
theorem Qa (hk:(Cg lo a n c x 0 h)=some r) :
  Af lo 170 [.sl 6 a n c,Iv x] h=some r :=
 eK Tryz.func170 hk
theorem Cg.e :
  Cg lo a n c y x h=br (decide (x<(n:Int))) (An x n (eO a λv=>eO (st lo h v.1 (v.2+x.toNat) 0 (AN y)) λv=>An x n (eO a λl=>eO (st lo v l.1 (l.2+x.toNat) 1 (AN (Al (y+1)))) λv=>An x n (eO a λl=>eO (st lo v l.1 (l.2+x.toNat) 2 (AN (Al ((Al (y+1))+1)))) λv=>An x n (eO a λl=>eO (ld v l.1 (l.2+x.toNat) 3 1) λl=>eC l λl o=>eN o (eS 2 l λl o s=>Ak (Af lo 172 [.sl 2 l o s,Iv (Al ((Al ((Al (y+1))+1))+1))] v) λv l=>eI .i64 v λv=>Ak (Af lo 88 (AN v) l) λl o=>eT l λl=>An x n (eO a λs=>eO (st lo o s.1 (s.2+x.toNat) 4 [.str l]) λl=>br ((Al (v+(1:Int))).tmod (3:Int)==0) (An x n (eO a λo=>eO (st lo l o.1 (o.2+x.toNat) 5 [.bool true]) λo=>Cg lo a n c (Al ((Al (v+1))+1)) (Al (x+1)) o)) (An x n (eO a λo=>eO (st lo l o.1 (o.2+x.toNat) 5 [.bool false]) λl=>Cg lo a n c (Al ((Al (v+1))+1)) (Al (x+1)) l))))))))) (some (Iv y,h)) :=
 lE
def Cr lo a n c x y h:=
 LA 171 Tryz.f171 22131 0 11 lo ⟨[(0,.sl 1 a n c),(1,Iv x),(5,Iv y)],[],h⟩
theorem O1 (hk:(Cr lo a n c x 0 h)=some r) :
  Af lo 171 [.sl 1 a n c,Iv x] h=some r :=
 eK Tryz.func171 hk
theorem Cr.e :
  Cr lo a n c y x h=br (decide (x<(n:Int))) (An x n (eO a λv=>eO (ld h v.1 (v.2+x.toNat) 0 1) λv=>eC v λv l=>eN l (eS 6 v λv l o=>Ak (Af lo 170 [.sl 6 v l o,Iv y] h) λv l=>eI .i64 v λv=>Cr lo a n c v (Al (x+1)) l))) (some (Iv y,h)) :=
 lE
def CP lo a n c x y h:=
 LA 172 Tryz.f172 22131 0 11 lo ⟨[(0,.sl 2 a n c),(1,Iv x),(5,Iv y)],[],h⟩
theorem Qb (hk:(CP lo a n c x 0 h)=some r) :
  Af lo 172 [.sl 2 a n c,Iv x] h=some r :=
 eK Tryz.func172 hk
theorem CP.e :
  CP lo a n c y x h=br (decide (x<(n:Int))) (An x n (eO a λv=>eO (st lo h v.1 (v.2+x.toNat) 0 (AN y)) λv=>An x n (eO a λl=>eO (st lo v l.1 (l.2+x.toNat) 1 (AN (Al (y+1)))) λv=>CP lo a n c (Al ((Al (y+1))+1)) (Al (x+1)) v))) (some (Iv y,h)) :=
 lE
def Cx lo a n c x y z h:=
 LA 173 Tryz.f173 22131 0 11 lo ⟨[(0,.sl 2 a n c),(1,Iv x),(4,Iv y),(5,Iv z)],[],h⟩
theorem O8 (hk:(Cx h.length a n c x 0 0 h)=some (v,h')) (hn:noId v=true:=by rfl) :
  Af lo 173 [.sl 2 a n c,Iv x] h=some (v,h) :=
 eD Tryz.func173 hk hn
theorem Cx.e :
  Cx lo a n c y z x h=br (decide (x<(n:Int))) (An x n (eO a λv=>eO (ld h v.1 (v.2+x.toNat) 0 1) λv=>eC v λv l=>eN l (eS 6 v λv l o=>Ak (Af lo 174 [.sl 6 v l o,Iv y] h) λv l=>eI .i64 v λv=>br (decide (v<0)) (some (Iv (-1),l)) (An x n (eO a λo=>eO (ld l o.1 (o.2+x.toNat) 1 1) λo=>eC o λo s=>eN s (eS 6 o λo s b=>Ak (Af lo 174 [.sl 6 o s b,Iv v] l) λv l=>eI .i64 v λv=>br (decide (v<0)) (some (Iv (-1),l)) (Cx lo a n c v z (Al (x+1)) l))))))) (some (Iv y,h)) :=
 lE
def Cj lo a n c x y z h:=
 LA 174 Tryz.f174 22131 0 11 lo ⟨[(0,.sl 6 a n c),(1,Iv x),(4,Iv y),(5,Iv z)],[],h⟩
theorem Qc (hk:(Cj h.length a n c x 0 0 h)=some (v,h')) (hn:noId v=true:=by rfl) :
  Af lo 174 [.sl 6 a n c,Iv x] h=some (v,h) :=
 eD Tryz.func174 hk hn
theorem Cj.e :
  Cj lo a n c y z x h=br (decide (x<(n:Int))) (An x n (eO a λv=>eO (ld h v.1 (v.2+x.toNat) 0 1) λv=>eC v λv l=>eN l (eI .i64 v λv=>br (v==y) (An x n (eO a λv=>eO (ld h v.1 (v.2+x.toNat) 1 1) λv=>eC v λv l=>eN l (eI .i64 v λv=>br (v==Al (y+(1:Int))) (An x n (eO a λv=>eO (ld h v.1 (v.2+x.toNat) 2 1) λv=>eC v λv l=>eN l (eI .i64 v λv=>br (v==Al (Al (y+(1:Int))+(1:Int))) (An x n (eO a λv=>eO (ld h v.1 (v.2+x.toNat) 3 1) λv=>eC v λv l=>eN l (eS 2 v λv l o=>Ak (Af lo 176 [.sl 2 v l o,Iv (Al ((Al ((Al (y+1))+1))+1))] h) λv l=>eI .i64 v λv=>br (decide (v<0)) (some (Iv (-1),l)) (An x n (eO a λo=>eO (ld l o.1 (o.2+x.toNat) 4 1) λo=>eC o λo s=>eN s (eT o λo=>Ak (Af l.length 88 (AN v) l) λl s=>eT l λl=>br (o.toList==l.toList) (An x n (eO a λl=>eO (ld s l.1 (l.2+x.toNat) 5 1) λl=>eC l λl o=>eN o (eB l (br ((Al (v+(1:Int))).tmod (3:Int)==0) (Cj lo a n c (Al ((Al (v+1))+1)) z (Al (x+1)) s) (some (Iv (-1),s))) (br ((Al (v+(1:Int))).tmod (3:Int)==0) (some (Iv (-1),s)) (Cj lo a n c (Al ((Al (v+1))+1)) z (Al (x+1)) s))))) (some (Iv (-1),s)))))))) (some (Iv (-1),h))))) (some (Iv (-1),h))))) (some (Iv (-1),h))))) (some (Iv y,h)) :=
 lE
def Cv lo a n c x y z h:=
 LA 175 Tryz.f175 22131 0 11 lo ⟨[(0,.sl 1 a n c),(1,Iv x),(4,Iv y),(5,Iv z)],[],h⟩
theorem O6 (hk:(Cv h.length a n c x 0 0 h)=some (v,h')) (hn:noId v=true:=by rfl) :
  Af lo 175 [.sl 1 a n c,Iv x] h=some (v,h) :=
 eD Tryz.func175 hk hn
theorem Cv.e :
  Cv lo a n c y z x h=br (decide (x<(n:Int))) (An x n (eO a λv=>eO (ld h v.1 (v.2+x.toNat) 0 1) λv=>eC v λv l=>eN l (eS 6 v λv l o=>Ak (Af lo 174 [.sl 6 v l o,Iv y] h) λv l=>eI .i64 v λv=>br (decide (v<0)) (some (Iv (-1),l)) (Cv lo a n c v z (Al (x+1)) l)))) (some (Iv y,h)) :=
 lE
def CQ lo a n c x y z h:=
 LA 176 Tryz.f176 22131 0 11 lo ⟨[(0,.sl 2 a n c),(1,Iv x),(4,Iv y),(5,Iv z)],[],h⟩
theorem Qd (hk:(CQ h.length a n c x 0 0 h)=some (v,h')) (hn:noId v=true:=by rfl) :
  Af lo 176 [.sl 2 a n c,Iv x] h=some (v,h) :=
 eD Tryz.func176 hk hn
theorem CQ.e :
  CQ lo a n c y z x h=br (decide (x<(n:Int))) (An x n (eO a λv=>eO (ld h v.1 (v.2+x.toNat) 0 1) λv=>eC v λv l=>eN l (eI .i64 v λv=>br (v==y) (An x n (eO a λv=>eO (ld h v.1 (v.2+x.toNat) 1 1) λv=>eC v λv l=>eN l (eI .i64 v λv=>br (v==Al (y+(1:Int))) (CQ lo a n c (Al ((Al (y+1))+1)) z (Al (x+1)) h) (some (Iv (-1),h))))) (some (Iv (-1),h))))) (some (Iv y,h)) :=
 lE
def HB lo f x a n c b m p d k u e i s h:=
 LA 183 Tryz.f183 22131 0 11 lo ⟨[(1,.lp 1 0),(2,.bool f),(3,Iv x)],[(1,(DW a n c b m p d k u e i s))],h⟩
def Fg lo f x y a n c b m p d k u e i s h:=
 Lp (X 183) lo (pf 22123122131 Tryz.f183) 2 (AW 2 (AW 1 (kS (X 183) lo (pf 1122131 Tryz.f183) 0 (WL (X 183) lo (pf 22131 Tryz.f183) 0 (AW 0 (kS (X 183) lo (pf 11 Tryz.f183) 0 (J7 (X 183) Tryz.f183.results.toList))))))) ⟨[(1,.lp 1 0),(2,.bool f),(3,Iv x),(4,Iv y)],[(1,(DW a n c b m p d k u e i s))],h⟩
def Ff lo f x y a n c z b m p d k u e i s A j C h:=
 Lp (X 183) lo (pf 2211123122123122131 Tryz.f183) 4 (AW 4 (AW 3 (kS (X 183) lo (pf 1122123122131 Tryz.f183) 2 (WL (X 183) lo (pf 22123122131 Tryz.f183) 2 (AW 2 (AW 1 (kS (X 183) lo (pf 1122131 Tryz.f183) 0 (WL (X 183) lo (pf 22131 Tryz.f183) 0 (AW 0 (kS (X 183) lo (pf 11 Tryz.f183) 0 (J7 (X 183) Tryz.f183.results.toList))))))))))) ⟨[(1,.lp 1 0),(2,.bool f),(3,Iv x),(4,Iv y),(5,.sl 6 a n c),(6,Iv z)],[(1,(DW b m p d k u e i s A j C))],h⟩
theorem HB.e :
  HB lo f x a n c b m p d k u A i s h=br (decide (x<3)) (Fg lo f x 0 a n c b m p d k u A i s h) (Cn h) :=
 lE
theorem Fg.e :
  Fg lo f y x a n c b m p d k u A i s h=br (decide (x<3)) (An y n (eO a λv=>eO (ld h v.1 (v.2+y.toNat) 4 1) λv=>eC v λv l=>eN l (eS 1 v λv l o=>An x l (eO v λv=>eO (ld h v.1 (v.2+x.toNat) 0 1) λv=>eC v λv l=>eN l (eS 6 v λv l o=>An x n (eO a λz=>eO (ld h z.1 (z.2+x.toNat) 3 1) λz=>eC z λz w=>eN w (eS 6 z λz z w=>br (decide ((l:Int)>(z:Int))) (AD h) (Ff lo f y x v l o 0 a n c b m p d k u A i s h)))))))) (HB lo f (Al (y+1)) a n c b m p d k u A i s h) :=
 lE
theorem Ff.e {lo n m k i j:Nat}{f:Bool}{z y x:Int}{b a d A B:Pq}{C c p u s:Nq}{h:Heap} :
  Ff lo f z y b n C x a m c d k p A i u B j s h=br (decide (x<(n:Int))) (An x n (eO b λv=>eO (ld h v.1 (v.2+x.toNat) 0 6) λv=>eC v λv l=>eI .i64 v λv=>eC l λl o=>eI .i64 l λl=>eC o λo w=>eI .i64 o λo=>eC w λw q=>eS 2 w λw g t=>eC q λq e=>eT q λq=>eC e λe D=>eBv e λe=>eN D (An y m (eO a λD=>eO (ld h D.1 (D.2+y.toNat) 3 1) λD=>eC D λD E=>eN E (eS 6 D λD E G=>An x E (eO D λD=>eO (ld h D.1 (D.2+x.toNat) 0 6) λD=>eC D λD E=>eI .i64 D λD=>eC E λE G=>eI .i64 E λE=>eC G λG H=>eI .i64 G λG=>eC H λH J=>eS 2 H λH K L=>eC J λJ M=>eT J λJ=>eC M λM N=>eBv M λM=>eN N (Ak (Af lo 248 [AC v l o w g t q e,AC D E G H K L J M] h) λv l=>eB v (Ff lo f z y b n C (Al (x+1)) a m c d k p A i u B j s l) (AD l)))))))) (Fg lo f z (Al (y+1)) a m c d k p A i u B j s h) :=
 lE
theorem P1 {e:Pq} (hk:(Ak (Af lo 54 (C1 x 0 (Al ((n:Int) - 1))) h) λv l=>eB v (br (y==1) (Ak (Af lo 249 [At b m c a n p d k u e i s,BT y x z t S f] l) λv o=>eU v λv=>eC v λv w=>eA v λv=>eC v λv q=>eS 6 v λv g j=>eC q λq A=>eS 5 q λq B C=>eC A λA D=>eS 9 A λA E G=>eC D λD H=>eS 5 D λD J K=>eN H (eC w λw H=>eB w (eN H (some (.tup [At v g j q B C A E G D J K,.bool true],o))) (eN H (some (.tup [At v g j q B C A E G D J K,.bool false],o))))) (br (y==2) (Ak (Af lo 250 [At b m c a n p d k u e i s,BT y x z t S f] l) λv o=>eU v λv=>eC v λv w=>eA v λv=>eC v λv q=>eS 6 v λv g j=>eC q λq A=>eS 5 q λq B C=>eC A λA D=>eS 9 A λA E G=>eC D λD H=>eS 5 D λD J K=>eN H (eC w λw H=>eB w (eN H (some (.tup [At v g j q B C A E G D J K,.bool true],o))) (eN H (some (.tup [At v g j q B C A E G D J K,.bool false],o))))) (br (y==3) (Ak (Af lo 251 [At b m c a n p d k u e i s,BT y x z t S f] l) λv o=>eU v λv=>eC v λv w=>eA v λv=>eC v λv q=>eS 6 v λv g j=>eC q λq A=>eS 5 q λq B C=>eC A λA D=>eS 9 A λA E G=>eC D λD H=>eS 5 D λD J K=>eN H (eC w λw H=>eB w (eN H (some (.tup [At v g j q B C A E G D J K,.bool true],o))) (eN H (some (.tup [At v g j q B C A E G D J K,.bool false],o))))) (br (y==4) (Ak (Af lo 252 [At b m c a n p d k u e i s,BT y x z t S f] l) λv o=>eU v λv=>eC v λv w=>eA v λv=>eC v λv q=>eS 6 v λv g j=>eC q λq A=>eS 5 q λq B C=>eC A λA D=>eS 9 A λA E G=>eC D λD H=>eS 5 D λD J K=>eN H (eC w λw H=>eB w (eN H (some (.tup [At v g j q B C A E G D J K,.bool true],o))) (eN H (some (.tup [At v g j q B C A E G D J K,.bool false],o))))) (An x n (eO a λv=>eO (ld l v.1 (v.2+x.toNat) 2 1) λv=>eC v λv o=>eN o (eI .i64 v λv=>br (decide (v>0)) (some (.tup [At b m c a n p d k u e i s,.bool false],l)) (Ak (Af lo 54 (C1 z 0 2) l) λv o=>eB v (An x n (eO a λv=>eO (st lo o v.1 (v.2+x.toNat) 0 (AN z)) λv=>some (.tup [At b m c a n p d k u e i s,.bool true],v))) (some (.tup [At b m c a n p d k u e i s,.bool false],o)))))))))) (some (.tup [At b m c a n p d k u e i s,.bool false],l)))=some r) :
  Af lo 184 [At b m c a n p d k u e i s,BT y x z t S f] h=some r :=
 eK Tryz.func184 hk
end
noncomputable section

variable {lo n m k i:Nat}{a b d:Pq}{c p u s:Nq}{z x y t:Int}{S:ByteArray}{f:Bool}{h:Heap}{r:V×Heap}{j g:Nat}{w:Int}{s0:ByteArray}{F:Bool}{h':Heap}{v:V}{l:List V}
theorem R9 {e:Pq} (hk:(Ak (Af lo 54 (C1 x 0 2) h) λv l=>eB v (An x n (eO a λv=>eO (ld l v.1 (v.2+x.toNat) 0 6) λv=>eC v λv o=>eI .i64 v λv=>eC o λo w=>eI .i64 o λo=>eC w λw q=>eS 2 w λw g j=>eC q λq A=>eS 6 q λq B C=>eC A λA D=>eS 1 A λA E G=>eC D λD H=>eBv D λD=>eN H (br (z==6) (Ak (Af lo 253 [Ap w g j,Iv y] l) λH J=>eB H (Ak (Af lo 254 [Ap w g j,Iv y] J) λH K=>eA H λH=>eC H λH L=>eS 2 H λH M N=>eN L (Ak (Af lo 130 [Br v o H M N q B C A E G D] K) λH K=>eA H λH=>eC H λH L=>eI .i64 H λH=>eC L λL M=>eI .i64 L λL=>eC M λM N=>eS 2 M λM O P=>eC N λN Q=>eS 6 N λN U W=>eC Q λQ Y=>eS 1 Q λQ Z v0=>eC Y λY v1=>eBv Y λY=>eN v1 (An x n (eO a λv1=>eO (st lo K v1.1 (v1.2+x.toNat) 0 (Du H L M O P N U W Q Z v0 Y)) λH=>some (.tup [At a n c b m p d k u e i s,.bool true],H))))) (An x n (eO a λH=>eO (st lo J H.1 (H.2+x.toNat) 0 (Du v o w g j q B C A E G D)) λH=>some (.tup [At a n c b m p d k u e i s,.bool false],H)))) (br (z==7) (Ak (Af lo 255 [Br v o w g j q B C A E G D,Iv y] l) λH J=>eB H (Ak (Af lo 256 [Ap w g j,Iv y] J) λH K=>eA H λH=>eC H λH L=>eS 2 H λH M N=>eN L (Ak (Af lo 130 [Br v o H M N q B C A E G true] K) λH K=>eA H λH=>eC H λH L=>eI .i64 H λH=>eC L λL M=>eI .i64 L λL=>eC M λM N=>eS 2 M λM O P=>eC N λN Q=>eS 6 N λN U W=>eC Q λQ Y=>eS 1 Q λQ Z v0=>eC Y λY v1=>eBv Y λY=>eN v1 (An x n (eO a λv1=>eO (st lo K v1.1 (v1.2+x.toNat) 0 (Du H L M O P N U W Q Z v0 Y)) λH=>some (.tup [At a n c b m p d k u e i s,.bool true],H))))) (An x n (eO a λH=>eO (st lo J H.1 (H.2+x.toNat) 0 (Du v o w g j q B C A E G D)) λH=>some (.tup [At a n c b m p d k u e i s,.bool false],H)))) (br (z==8) (br (decide ((g:Int)<4)) (Ak (Af lo 257 [Ap w g j] l) λH J=>eA H λH=>eC H λH K=>eS 2 H λH L M=>eN K (An x n (eO a λK=>eO (st lo J K.1 (K.2+x.toNat) 0 (Du v o H L M q B C A E G D)) λH=>some (.tup [At a n c b m p d k u e i s,.bool true],H)))) (An x n (eO a λH=>eO (st lo l H.1 (H.2+x.toNat) 0 (Du v o w g j q B C A E G D)) λH=>some (.tup [At a n c b m p d k u e i s,.bool false],H)))) (Ak (Af lo 54 (C1 y 0 2) l) λH J=>eB H (Ak (Af lo 258 [Br v o w g j q B C A E G D,Iv y] J) λH K=>eB H (Ak (Af lo 259 [Br v o w g j q B C A E G D,Iv y] K) λH L=>eA H λH=>eC H λH M=>eI .i64 H λH=>eC M λM N=>eI .i64 M λM=>eC N λN O=>eS 2 N λN P Q=>eC O λO U=>eS 6 O λO W Y=>eC U λU Z=>eS 1 U λU v0 v1=>eC Z λZ v2=>eBv Z λZ=>eN v2 (An x n (eO a λv2=>eO (st lo L v2.1 (v2.2+x.toNat) 0 (Du H M N P Q O W Y U v0 v1 Z)) λH=>some (.tup [At a n c b m p d k u e i s,.bool true],H)))) (An x n (eO a λH=>eO (st lo K H.1 (H.2+x.toNat) 0 (Du v o w g j q B C A E G D)) λH=>some (.tup [At a n c b m p d k u e i s,.bool false],H)))) (An x n (eO a λH=>eO (st lo J H.1 (H.2+x.toNat) 0 (Du v o w g j q B C A E G D)) λv=>some (.tup [At a n c b m p d k u e i s,.bool false],v))))))))) (some (.tup [At a n c b m p d k u e i s,.bool false],l)))=some r) :
  Af lo 185 [At a n c b m p d k u e i s,BT z x y t S f] h=some r :=
 eK Tryz.func185 hk
theorem Va {e:Pq} (hk:(br (z==10) (Ak (Af lo 54 (C1 x 0 2) h) λv l=>eB v (Ak (Af lo 54 (C1 t 0 2) l) λv o=>eB v (br (x==t) (some (.tup [At a n c b k p d m s e i u,.bool false],o)) (br (decide ((m:Int)>=12)) (some (.tup [At a n c b k p d m s e i u,.bool false],o)) (An x n (eO a λv=>eO (ld o v.1 (v.2+x.toNat) 3 1) λv=>eC v λv w=>eN w (eS 6 v λv v w=>Ak (Af lo 54 (C1 y 0 (Al ((v:Int) - 1))) o) λv w=>eB v (An x n (eO a λv=>eO (ld w v.1 (v.2+x.toNat) 3 1) λv=>eC v λv q=>eN q (eS 6 v λv q g=>An y q (eO v λv=>eO (ld w v.1 (v.2+y.toNat) 0 6) λv=>eC v λv q=>eI .i64 v λv=>eC q λq g=>eI .i64 q λq=>eC g λg j=>eI .i64 g λg=>eC j λj A=>eS 2 j λj B C=>eC A λA D=>eT A λA=>eC D λD E=>eBv D λD=>eN E (Ak (Af lo 187 [AC v q g j B C A D] w) λv q=>eA v λv=>eC v λv g=>eI .i64 v λv=>eC g λg j=>eI .i64 g λg=>eC j λj A=>eI .i64 j λj=>eC A λA B=>eS 2 A λA C D=>eC B λB E=>eT B λB=>eC E λE G=>eBv E λE=>eN G (As 9 (q ++ [.rows 9 123 false [NS x t y v g j A C D B E]]) (.sl 9 (some (q.length,0)) 1 (some 1)) λG=>Dv lo 123 9 96 (.sl 9 d m s) G (q ++ [.rows 9 123 false [NS x t y v g j A C D B E]]) λv q=>eS 9 v λv g j=>some (.tup [At a n c b k p v g j e i u,.bool true],q))))))) (some (.tup [At a n c b k p d m s e i u,.bool false],w))))))) (some (.tup [At a n c b k p d m s e i u,.bool false],o))) (some (.tup [At a n c b k p d m s e i u,.bool false],l))) (Ak (Af lo 54 (C1 x 0 (Al ((m:Int) - 1))) h) λv l=>eB v (An x m (eO d λv=>eO (ld l v.1 (v.2+x.toNat) 0 9) λv=>eC v λv o=>eI .i64 v λv=>eC o λo w=>eI .i64 o λo=>eC w λw q=>eI .i64 w λw=>eC q λq g=>eI .i64 q λq=>eC g λg j=>eI .i64 g λg=>eC j λj A=>eI .i64 j λj=>eC A λA B=>eS 2 A λA C D=>eC B λB E=>eT B λB=>eC E λE G=>eBv E λE=>eN G (br (z==13) (br (z==12) (some (.tup [At a n c b k p d m s e i u,.bool true],l)) (An o n (eO a λG=>eO (ld l G.1 (G.2+o.toNat) 0 6) λG=>eC G λG H=>eI .i64 G λG=>eC H λH J=>eI .i64 H λH=>eC J λJ K=>eS 2 J λJ L M=>eC K λK N=>eS 6 K λK O P=>eC N λN Q=>eS 1 N λN U W=>eC Q λQ Y=>eBv Q λQ=>eN Y (Ak (Af lo 260 [Br G H J L M K O P N U W Q,Iv v,Iv w,AC q g j A C D B E] l) λG H=>eU G λG=>eC G λG J=>eA G λG=>eC G λG K=>eI .i64 G λG=>eC K λK L=>eI .i64 K λK=>eC L λL M=>eS 2 L λL N O=>eC M λM P=>eS 6 M λM Q U=>eC P λP W=>eS 1 P λP Y Z=>eC W λW v0=>eBv W λW=>eN v0 (eC J λJ v0=>eB J (eN v0 (An o n (eO a λJ=>eO (st lo H J.1 (J.2+o.toNat) 0 (Du G K L N O M Q U P Y Z W)) λG=>some (.tup [At a n c b k p d m s e i u,.bool true],G)))) (eN v0 (some (.tup [At a n c b k p d m s e i u,.bool true],H)))))))) (Aw d m s none (some (Iv x)) none λG H J=>As 9 (l ++ [.rows 9 123 false []]) (.sl 9 G H J) λG=>Dv lo 123 9 96 (.sl 9 (some (l.length,0)) 0 (some 0)) G (l ++ [.rows 9 123 false []]) λG H=>eS 9 G λG J K=>Aw d m s (some (Iv (Al (x+1)))) none none λL M N=>As 9 H (.sl 9 L M N) λL=>Dv lo 123 9 96 (.sl 9 G J K) L H λG H=>eS 9 G λG J K=>br (z==12) (some (.tup [At a n c b k p G J K e i u,.bool true],H)) (An o n (eO a λL=>eO (ld H L.1 (L.2+o.toNat) 0 6) λL=>eC L λL M=>eI .i64 L λL=>eC M λM N=>eI .i64 M λM=>eC N λN O=>eS 2 N λN P Q=>eC O λO U=>eS 6 O λO W Y=>eC U λU Z=>eS 1 U λU v0 v1=>eC Z λZ v2=>eBv Z λZ=>eN v2 (Ak (Af lo 260 [Br L M N P Q O W Y U v0 v1 Z,Iv v,Iv w,AC q g j A C D B E] H) λv w=>eU v λv=>eC v λv q=>eA v λv=>eC v λv g=>eI .i64 v λv=>eC g λg j=>eI .i64 g λg=>eC j λj A=>eS 2 j λj B C=>eC A λA D=>eS 6 A λA E H=>eC D λD L=>eS 1 D λD M N=>eC L λL O=>eBv L λL=>eN O (eC q λq O=>eB q (eN O (An o n (eO a λq=>eO (st lo w q.1 (q.2+o.toNat) 0 (Du v g j B C A E H D M N L)) λv=>some (.tup [At a n c b k p G J K e i u,.bool true],v)))) (eN O (some (.tup [At a n c b k p G J K e i u,.bool true],w))))))))))) (some (.tup [At a n c b k p d m s e i u,.bool false],l))))=some r) :
  Af lo 186 [At a n c b k p d m s e i u,BT z x t y S f] h=some r :=
 eK Tryz.func186 hk
theorem S6 (hk:(As 2 (h ++ [.rows 2 36 false []]) (.sl 2 a n c) λv=>Dv lo 36 2 16 (.sl 2 (some (h.length,0)) 0 (some 0)) v (h ++ [.rows 2 36 false []]) λv l=>eS 2 v λv o s=>some ((AC x y z v o s S f),l))=some r) :
  Af lo 187 [AC x y z a n c S f] h=some r :=
 eK Tryz.func187 hk
def FT lo n m k x y z t w i a j c S f q M N b g p s0 F h:=
 LA 195 Tryz.f195 2213111 0 1111 lo ⟨[(0,(Dt n m k)),(2,.lp 2 0),(3,.lp 3 0),(4,Iv x),(5,Iv y)],[(2,[Iv z,Iv t,Iv w,.sl i a j c,.str S,.bool f]),(3,(Dc q M N b g p s0 F))],h⟩
theorem FT.e {q M N:Int} :
  FT lo m k i y x t w q j b g p s0 F z M N a n c S f h=br (decide (x<4)) (Ak (Af lo 109 [Dt m k i] h) λv l=>eA v λv=>eC v λv o=>eI .i64 v λv=>eC o λo s=>eI .i64 o λo=>eN s (An x n (eO a λs=>eO (st lo l s.1 (s.2+x.toNat) 0 (Bg v o)) λv=>An x n (eO a λl=>eO (ld v l.1 (l.2+x.toNat) 0 1) λl=>eC l λl o=>eN o (eI .i64 l λl=>br (decide (l>y)) (An x n (eO a λl=>eO (ld v l.1 (l.2+x.toNat) 0 1) λl=>eC l λl o=>eN o (eI .i64 l λl=>FT lo m k i l (Al (x+1)) t w q j b g p s0 F z M N a n c S f v))) (FT lo m k i y (Al (x+1)) t w q j b g p s0 F z M N a n c S f v)))))) (Ak (Af lo 44 [Dt m k i,Iv 3] h) λv l=>eI .i64 v λv=>Ak (Af lo 44 [Dt m k i,Iv 3] l) λl o=>eI .i64 l λl=>Ak (Af lo 44 [Dt m k i,Iv 6] o) λo s=>eI .i64 o λo=>br (o==0) (some ((AC z (Al ((Al (y+1))+v)) l a n c ⟨⟨[]⟩⟩ true),s)) (some ((AC z (Al ((Al (y+1))+v)) l a n c S f),s))) :=
 lE
def Bl lo x a n c m b k p i d j u h:=
 LA 196 Tryz.f196 221311 0 111 lo ⟨[(1,.lp 1 0),(2,.lp 2 0),(3,.lp 3 0),(4,Iv x)],[(1,(Bc a n c)),(2,[.sl m b k p]),(3,[.sl i d j u])],h⟩
theorem Jm (hk:(Bl lo 0 a n c 0 none 0 (some 0) 0 none 0 (some 0) h)=some r) :
  Af lo 196 [BS a n c] h=some r :=
 eK Tryz.func196 hk
theorem Bl.e :
  Bl lo x a n p i d j u m b k c h=br (decide (x<(n:Int))) (An x n (eO a λv=>eO (ld h v.1 (v.2+x.toNat) 0 6) λv=>eC v λv l=>eI .i64 v λv=>eC l λl o=>eI .i64 l λl=>eC o λo s=>eI .i64 o λo=>eC s λs y=>eS 2 s λs z w=>eC y λy q=>eT y λy=>eC q λq g=>eBv q λq=>eN g (Ak (Af lo 187 [AC v l o s z w y q] h) λv l=>eA v λv=>eC v λv o=>eI .i64 v λv=>eC o λo s=>eI .i64 o λo=>eC s λs y=>eI .i64 s λs=>eC y λy z=>eS 2 y λy w q=>eC z λz g=>eT z λz=>eC g λg t=>eBv g λg=>eN t (As 6 (l ++ [.rows 6 43 false [Dc v o s y w q z g]]) (.sl 6 (some (l.length,0)) 1 (some 1)) λt=>Dv lo 43 6 72 (.sl m b k c) t (l ++ [.rows 6 43 false [Dc v o s y w q z g]]) λv l=>eS 6 v λv o s=>Bl lo (Al (x+1)) a n p i d j u 6 v o s l)))) (some (.agg [.sl m b k c],h)) :=
 lE
theorem S9 (hk:(br (decide (x<y)) (Cn h) (br (x==y) (br (decide (z<t)) (Cn h) (AD h)) (AD h)))=some (v,h')) (hn:noId v=true:=by rfl) :
  Af lo 197 [Ar x z,Ar y t] h=some (v,h) :=
 eD Tryz.func197 hk hn
theorem Vj (hk:(An x n (eO a λv=>eO (ld h v.1 (v.2+x.toNat) 1 2) λv=>eC v λv l=>eI .i64 v λv=>eC l λl o=>eI .i64 l λl=>eN o (Ak (Af lo 197 [Ar v l,Ar y z] h) λv l=>eB v (Ak (Af lo 187 [AC x y z b m p S f] l) λv o=>eA v λv=>eC v λv s=>eI .i64 v λv=>eC s λs u=>eI .i64 s λs=>eC u λu w=>eI .i64 u λu=>eC w λw q=>eS 2 w λw g i=>eC q λq j=>eT q λq=>eC j λj k=>eBv j λj=>eN k (An x n (eO a λk=>eO (st lo o k.1 (k.2+x.toNat) 0 (Dc v s u w g i q j)) λv=>some ((BS a n c),v)))) (some ((BS a n c),l)))))=some r) :
  Af lo 198 [BS a n c,AC x y z b m p S f] h=some r :=
 eK Tryz.func198 hk
def D4 lo f x a n c b m p h:=
 LA 199 Tryz.f199 22131 0 11 lo ⟨[(2,.lp 2 0),(3,.lp 3 0),(4,.bool f),(5,Iv x)],[(2,(Bc a n c)),(3,(Bc b m p))],h⟩
theorem D4.e {lo n m:Nat}{f:Bool}{x:Int}{a b:Pq}{c p:Nq}{h:Heap} :
  D4 lo f x a n c b m p h=br (decide (x<4)) (An x n (eO a λv=>eO (ld h v.1 (v.2+x.toNat) 1 2) λv=>eC v λv l=>eI .i64 v λv=>eC l λl o=>eI .i64 l λl=>eN o (An x m (eO b λo=>eO (ld h o.1 (o.2+x.toNat) 1 2) λo=>eC o λo s=>eI .i64 o λo=>eC s λs y=>eI .i64 s λs=>eN y (br ((v==o)&&((l==s)&&true)) (An x n (eO a λv=>eO (ld h v.1 (v.2+x.toNat) 1 1) λv=>eC v λv l=>eN l (eI .i64 v λv=>br (decide (v>0)) (An x n (eO a λv=>eO (ld h v.1 (v.2+x.toNat) 0 6) λv=>eC v λv l=>eI .i64 v λv=>eC l λl o=>eI .i64 l λl=>eC o λo s=>eI .i64 o λo=>eC s λs y=>eS 2 s λs z u=>eC y λy w=>eT y λy=>eC w λw q=>eBv w λw=>eN q (An x m (eO b λq=>eO (ld h q.1 (q.2+x.toNat) 0 6) λq=>eC q λq g=>eI .i64 q λq=>eC g λg i=>eI .i64 g λg=>eC i λi j=>eI .i64 i λi=>eC j λj k=>eS 2 j λj t d=>eC k λk e=>eT k λk=>eC e λe A=>eBv e λe=>eN A (Ak (Af lo 248 [AC v l o s z u y w,AC q g i j t d k e] h) λv l=>eB v (D4 lo f (Al (x+1)) a n c b m p l) (AD l)))))) (D4 lo f (Al (x+1)) a n c b m p h)))) (AD h)))))) (Cn h) :=
 lE
def BK lo a n c x y m b k p d i u h:=
 LA 200 Tryz.f200 221311 0 111 lo ⟨[(2,.lp 2 0),(3,.lp 3 0),(12,.sl 2 a n c),(13,Iv x),(14,Iv y)],[(2,[.sl m b k p]),(3,(Bb d i u))],h⟩
theorem Mc (hk:(A8 (decide ((0:Int)<=0/\(0:Int)<=(n:Int)/\(n:Int)<=140737488355328/\(n:Int)*((48:Nat):Int)<=281474976710656)) (BK lo a n c (n:Int) 0 0 none 0 (some 0) (some (h.length,0)) 0 (some n) (h ++ [.rows 2 47 false (List.replicate n [.sl 0 none 0 (some 0),.sl 0 none 0 (some 0)])])))=some r) :
  Af lo 200 [Ap a n c] h=some r :=
 eK Tryz.func200 hk
theorem BK.e :
  BK lo a n p y x k d i u b m c h=br (decide (x<y)) (An x n (eO a λv=>eO (ld h v.1 (v.2+x.toNat) 0 2) λv=>eC v λv l=>eS 6 v λv o s=>eC l λl z=>eS 6 l λl w q=>eN z (Ak (Af lo 209 [BS v o s] h) λv o=>eA v λv=>eC v λv s=>eS 6 v λv z g=>eN s (Ak (Af lo 201 (Bc l w q) o) λl o=>eS 6 l λl s w=>As 2 (o ++ [.rows 2 47 false [Ij v z g l s w]]) (.sl 2 (some (o.length,0)) 1 (some 1)) λq=>Dv lo 47 2 48 (.sl 2 b m c) q (o ++ [.rows 2 47 false [Ij v z g l s w]]) λv l=>eS 2 v λv o s=>BK lo a n p y (Al (x+1)) k d i u v o s l)))) (some ((Ap b m c),h)) :=
 lE
def AZ lo a n c b m p x y h:=
 LA 201 Tryz.f201 221311 0 111 lo ⟨[(3,.sl 6 a n c),(9,.sl 6 b m p),(10,Iv x),(11,Iv y)],[],h⟩
theorem JG (hk:(A8 (decide ((0:Int)<=0/\(0:Int)<=(n:Int)/\(n:Int)<=140737488355328/\(n:Int)*((72:Nat):Int)<=281474976710656)) (AZ lo (some (h.length,0)) 0 (some n) a n c (n:Int) 0 (h ++ [.rows 6 43 false (List.replicate n [Iv 0,Iv 0,Iv 0,.sl 0 none 0 (some 0),.str ⟨⟨[]⟩⟩,.bool false])])))=some r) :
  Af lo 201 (Bc a n c) h=some r :=
 eK Tryz.func201 hk
theorem AZ.e :
  AZ lo a n c b m p y x h=br (decide (x<y)) (An x m (eO b λv=>eO (ld h v.1 (v.2+x.toNat) 0 6) λv=>eC v λv l=>eI .i64 v λv=>eC l λl o=>eI .i64 l λl=>eC o λo s=>eI .i64 o λo=>eC s λs z=>eS 2 s λs u w=>eC z λz q=>eT z λz=>eC q λq g=>eBv q λq=>eN g (Ak (Af lo 154 [AC v l o s u w z q] h) λv l=>eA v λv=>eC v λv o=>eI .i64 v λv=>eC o λo s=>eI .i64 o λo=>eC s λs z=>eI .i64 s λs=>eC z λz u=>eS 2 z λz w q=>eC u λu g=>eT u λu=>eC g λg i=>eBv g λg=>eN i (As 6 (l ++ [.rows 6 43 false [Dc v o s z w q u g]]) (.sl 6 (some (l.length,0)) 1 (some 1)) λi=>Dv lo 43 6 72 (.sl 6 a n c) i (l ++ [.rows 6 43 false [Dc v o s z w q u g]]) λv l=>eS 6 v λv o s=>AZ lo v o s b m p y (Al (x+1)) l)))) (some (.sl 6 a n c,h)) :=
 lE
theorem Vn (hk:(Ak (Af h.length 63 (C1 x 0 3) h) λl c=>eB l (Cn c) (AD c))=some (v,h')) (hn:noId v=true:=by rfl) :
  Af lo 202 (AN x) h=some (v,h) :=
 eD Tryz.func202 hk hn
def Ds lo S f x y h:=
 LA 203 Tryz.f203 22131 0 11 lo ⟨[(0,.str S),(2,.bool f),(5,Iv x),(6,Iv y)],[],h⟩
theorem Ti (hk:(Ds h.length S false ((S.size:Int)) 0 h)=some (v,h')) (hn:noId v=true:=by rfl) :
  Af lo 203 [.str S] h=some (v,h) :=
 eD Tryz.func203 hk hn
theorem Ds.e :
  Ds lo S f y x h=br (decide (x<y)) (eO (Pk S x) λv=>Ak (Af lo 63 (C1 (Al ((v.toNat:Int))) 33 126) h) λv l=>eB v (Ds lo S f y (Al (x+1)) l) (AD l)) (br (decide ((S.size:Int)<=8)) (Cn h) (AD h)) :=
 lE
theorem MT (hk:(eO (ld h m k (i+0) 1) λv=>eC v λv l=>eN l (eS 2 v λv l o=>An x l (eO v λv=>eO (ld h v.1 (v.2+x.toNat) 0 1) λl=>eC l λl o=>eS 6 l λl s b=>eN o (Ak (Af lo 210 [BS l s b,AC y z t a n c S f] h) λl o=>eB l (eO (ld o v.1 (v.2+x.toNat) 0 1) λl=>eC l λl s=>eN s (eS 6 l λl s b=>Ak (Af o.length 154 [AC y z t a n c S f] o) λb u=>eA b λb=>eC b λb w=>eI .i64 b λb=>eC w λw p=>eI .i64 w λw=>eC p λp q=>eI .i64 p λp=>eC q λq g=>eS 2 q λq j d=>eC g λg e=>eT g λg=>eC e λe A=>eBv e λe=>eN A (An y s (eO l λl=>eO (st lo u l.1 (l.2+y.toNat) 0 (Dc b w p q j d g e)) λl=>eO (ld l m k i 1) λs=>eC s λs b=>eS 2 s λs u w=>eN b (Ak (Af lo 135 [Ap s u w,Iv x] l) λl s=>eB l (some (.tup [],s)) (eO (ld s v.1 (v.2+x.toNat) 1 1) λl=>eC l λl b=>eN b (eS 6 l λl b u=>Ak (Af s.length 154 [AC y z t a n c S f] s) λs w=>eA s λs=>eC s λs p=>eI .i64 s λs=>eC p λp q=>eI .i64 p λp=>eC q λq g=>eI .i64 q λq=>eC g λg j=>eS 2 g λg d e=>eC j λj A=>eT j λj=>eC A λA B=>eBv A λA=>eN B (As 6 (w ++ [.rows 6 43 false [Dc s p q g d e j A]]) (.sl 6 (some (w.length,0)) 1 (some 1)) λB=>Dv lo 43 6 72 (.sl 6 l b u) B (w ++ [.rows 6 43 false [Dc s p q g d e j A]]) λl s=>eS 6 l λl b u=>Ak (Af lo 205 (Bc l b u) s) λl s=>eS 6 l λl b u=>eO (st lo s v.1 (v.2+x.toNat) 1 (Bc l b u)) λv=>some (.tup [],v))))))))) (some (.tup [],o))))))=some r) :
  Af lo 204 [Dt m k i,Iv x,AC y z t a n c S f] h=some r :=
 eK Tryz.func204 hk
theorem Hc (hk:(Aw a n c none (some (Iv (n:Int))) (some (Iv (n:Int))) λv l o=>some (.sl 6 v l o,h))=some r) :
  Af lo 205 (Bc a n c) h=some r :=
 eK Tryz.func205 hk
theorem EJ (hk:(Ak (Af h.length 270 [.sl 2 a n c,.fn m l] h) λo s=>eI .i64 o λo=>br (decide (o>=0)) (Cn s) (AD s))=some (v,h')) (hn:noId v=true:=by rfl) :
  Af lo 206 [.sl 2 a n c,.fn m l] h=some (v,h) :=
 eD Tryz.func206 hk hn
theorem KX (hk:(br (decide ((n:Int)>0)) (Cn h) (AD h))=some (v,h')) (hn:noId v=true:=by rfl) :
  Af lo 207 [KS a m c b n p] h=some (v,h) :=
 eD Tryz.func207 hk hn
def CJ lo a n c f x y z h:=
 LA 208 Tryz.f208 22131 0 11 lo ⟨[(0,.sl 6 a n c),(3,.lp 3 0),(4,.bool f),(5,Iv x)],[(3,(Bg y z))],h⟩
theorem P2 (hk:(CJ h.length a n c false 0 x y h)=some (v,h')) (hn:noId v=true:=by rfl) :
  Af lo 208 [.sl 6 a n c,Ar x y] h=some (v,h) :=
 eD Tryz.func208 hk hn
theorem CJ.e :
  CJ lo a n c f x y z h=br (decide (x<(n:Int))) (An x n (eO a λv=>eO (ld h v.1 (v.2+x.toNat) 1 2) λv=>eC v λv l=>eI .i64 v λv=>eC l λl o=>eI .i64 l λl=>eN o (br ((v==y)&&((l==z)&&true)) (Cn h) (CJ lo a n c f (Al (x+1)) y z h)))) (AD h) :=
 lE
theorem L8 (hk:(Ak (Af lo 201 (Bc a n c) h) λv l=>eS 6 v λv o s=>some ((BS v o s),l))=some r) :
  Af lo 209 [BS a n c] h=some r :=
 eK Tryz.func209 hk
theorem MO (hk:(An x n (eO a λl=>eO (ld h l.1 (l.2+x.toNat) 1 2) λl=>eC l λl o=>eI .i64 l λl=>eC o λo s=>eI .i64 o λo=>eN s (Ak (Af h.length 15 [Ar l o,Ar y z] h) λl o=>eB l (Cn o) (AD o))))=some (v,h')) (hn:noId v=true:=by rfl) :
  Af lo 210 [BS a n c,AC x y z b m p S f] h=some (v,h) :=
 eD Tryz.func210 hk hn
theorem Qi (hk:(eO (ld h n 0 0 2) λl=>eC l λl o=>eI .i64 l λl=>eC o λo s=>eI .i64 o λo=>eN s (br ((x==l)&&((y==o)&&true)) (Cn h) (AD h)))=some (v,h')) (hn:noId v=true:=by rfl) :
  Af lo 212 [AC z x y a m c S f,Dt n 0 0] h=some (v,h) :=
 eD Tryz.func212 hk hn
theorem Qo (hk:(br (x==x) (AD h) (Cn h))=some (v,h')) (hn:noId v=true:=by rfl) :
  Af lo 213 (AN x) h=some (v,h) :=
 eD Tryz.func213 hk hn
def AG lo a n c m l x y z h:=
 LA 214 Tryz.f214 22131 0 11 lo ⟨[(0,.sl 2 a n c),(1,.fn m l),(4,Iv x),(7,Iv y),(8,Iv z)],[],h⟩
theorem FE (hk:(AG h.length a n c m l 0 (n:Int) 0 h)=some (v,h')) (hn:noId v=true:=by rfl) :
  Af lo 214 [.sl 2 a n c,.fn m l] h=some (v,h) :=
 eD Tryz.func214 hk hn
theorem AG.e :
  AG lo a n c m l z y x h=br (decide (x<y)) (An x n (eO a λv=>eO (ld h v.1 (v.2+x.toNat) 0 2) λv=>eC v λv o=>eI .i64 v λv=>eC o λo s=>eI .i64 o λo=>eN s (Ak (Af lo m (Ea [Ar v o] l) h) λv o=>eB v (some (Iv x,o)) (AG lo a n c m l z y (Al (x+1)) o)))) (some (Iv (-1),h)) :=
 lE
theorem Vd (hk:(Ak (Af h.length 271 (AN y) h) λv l=>eA v λv=>eC v λv c=>eS 2 v λv n a=>eN c (some (.agg [Iv x,Iv 0,.sl 2 v n a,.sl 0 none 0 (some 0),.sl 1 (some (l.length,0)) 3 (some 3),.bool false],(l ++ [.rows 1 26 false [[.sl 0 none 0 (some 0)],[.sl 0 none 0 (some 0)],[.sl 0 none 0 (some 0)]]]))))=some r) :
  Af lo 216 (Bg x y) h=some r :=
 eK Tryz.func216 hk
def CW lo x y n a m c b k p h:=
 LA 217 Tryz.f217 2213111 0 1111 lo ⟨[(2,.lp 2 0),(3,.lp 3 0),(11,Iv x),(12,Iv y)],[(2,[.sl n a m c]),(3,(Bb b k p))],h⟩
theorem Qn (hk:(Ak (Af lo 132 (AN x) h) λv l=>eB v (A8 (decide ((0:Int)<=0/\(0:Int)<=x/\x<=140737488355328/\x*((48:Nat):Int)<=281474976710656)) (CW lo x 0 0 none 0 (some 0) (some (l.length,0)) 0 (some x.toNat) (l ++ [.rows 2 47 false (List.replicate x.toNat [.sl 0 none 0 (some 0),.sl 0 none 0 (some 0)])]))) (some (.agg [.sl 0 none 0 (some 0)],l)))=some r) :
  Af lo 217 (AN x) h=some r :=
 eK Tryz.func217 hk
theorem CW.e :
  CW lo x y m b k p a n c h=br (decide (y<x)) (Ak (Af lo 272 [] h) λv l=>eA v λv=>eC v λv o=>eS 6 v λv s z=>eN o (As 2 (l ++ [.rows 2 47 false [[.sl 6 v s z,.sl 0 none 0 (some 0)]]]) (.sl 2 (some (l.length,0)) 1 (some 1)) λo=>Dv lo 47 2 48 (.sl 2 a n c) o (l ++ [.rows 2 47 false [[.sl 6 v s z,.sl 0 none 0 (some 0)]]]) λv l=>eS 2 v λv o s=>CW lo x (Al (y+1)) m b k p v o s l)) (some ((Ap a n c),h)) :=
 lE
theorem ML (hk:(Ak (Af lo 273 [Dt i j g,Iv 1] h) λv l=>eB v (eO (ld l i j (g+0) 1) λv=>eC v λv c=>eN c (eS 6 v λv c a=>eO (ld l n m (k+0) 1) λa=>eC a λa o=>eN o (eI .i64 a λa=>An a c (eO v λv=>eO (ld l n m (k+1) 1) λc=>eC c λc o=>eS 2 c λc s b=>eN o (A8 (Gi (ld l i j (g+0) 1) (ld l i j (g+0) 1)) (A8 (Gi (ld l n m (k+0) 1) (ld l n m (k+0) 1)) (Ak (Af lo 153 [Ap c s b] l) λc o=>eA c λc=>eC c λc s=>eS 2 c λc b u=>eN s (A8 (Gi (ld l i j (g+0) 1) (ld o i j (g+0) 1)) (A8 (Gi (ld l n m (k+0) 1) (ld o n m (k+0) 1)) (Ak (Af lo 52 [.ptr (some (v.1,((v.2+a.toNat),0))),AC x 0 0 c b u S f] o) λv c=>eA v λv=>eC v λv a=>eI .i64 v λv=>eC a λa o=>eI .i64 a λa=>eN o (br ((v==0)&&((a==0)&&true)) (AD c) (eO (st lo c n m (k+2) (Bg v a)) λc=>eO (st lo c n m (k+4) (AN x)) λc=>Ak (Af lo 274 [Dt i j g,Iv y,Iv 1,Iv x,Ar v a] c) λv c=>eU v λv=>eN v (Cn c))))))))))))) (AD l))=some r) :
  Af lo 218 [Dt i j g,Dt n m k,BT z y t x S f] h=some r :=
 eK Tryz.func218 hk
theorem Pb (hk:(eO (ld h i j (g+0) 1) λv=>eC v λv l=>eN l (eS 6 v λv l c=>eO (ld h n m (k+0) 1) λc=>eC c λc a=>eN a (eI .i64 c λc=>An c l (eO v λv=>eO (ld h n m (k+4) 1) λl=>eC l λl a=>eN a (eI .i64 l λl=>Ak (Af lo 275 [.ptr (some (v.1,((v.2+c.toNat),2))),Iv 0,Iv l] h) λl a=>eU l λl=>eC l λl o=>eA l λl=>eC l λl s=>eI .i64 l λl=>eC s λl s=>eI .i64 l λl=>eC s λs b=>eI .i64 s λs=>eC b λb u=>eS 2 b λb b b=>eC u λb u=>eT b λb=>eC u λb u=>eBv b λb=>eN u (eC o λo b=>eB o (eN b (eO (ld a n m (k+2) 2) λo=>eC o λo u=>eI .i64 o λo=>eC u λu w=>eI .i64 u λu=>eN w (Ak (Af lo 15 [Ar l s,Ar o u] a) λo u=>eB o (eO (ld u v.1 (v.2+c.toNat) 2 1) λo=>eC o λo w=>eN w (eS 2 o λo w p=>An 0 w (eO o λo=>eO (ld u o.1 (o.2+0) 0 1) λo=>eC o λo w=>eN w (eS 6 o λo w p=>eO (ld u n m (k+4) 1) λp=>eC p λp q=>eN q (eI .i64 p λp=>An p w (eO o λo=>eO (ld u o.1 (o.2+p.toNat) 1 2) λo=>eC o λo w=>eI .i64 o λo=>eC w λw p=>eI .i64 w λw=>eN p (eO (ld u n m (k+2) 2) λp=>eC p λp q=>eI .i64 p λp=>eC q λq d=>eI .i64 q λq=>eN d (Ak (Af lo 15 [Ar o w,Ar p q] u) λo w=>eB o (eO (st lo w n m (k+2) (Bg 0 0)) λo=>eO (st lo o n m (k+4) (AN 0)) λo=>some (.bool true,o)) (AD w))))))))) (Ak (Af lo 273 [Dt i j g,Iv 1] u) λo u=>eB o (eO (ld u n m (k+1) 1) λo=>eC o λo w=>eS 2 o λo p q=>eN w (eO (ld u n m (k+4) 1) λw=>eC w λw d=>eN d (eI .i64 w λw=>eO (ld u n m (k+2) 2) λd=>eC d λd e=>eI .i64 d λd=>eC e λe A=>eI .i64 e λe=>eN A (Ak (Af lo 276 [Ap o p q,Iv w,Ar d e] u) λo w=>eA o λo=>eC o λo p=>eS 2 o λo q d=>eN p (eO (st lo w n m (k+1) (Bb o q d)) λo=>eO (ld o n m (k+4) 1) λw=>eC w λw p=>eN p (eI .i64 w λw=>eO (ld o n m (k+2) 2) λp=>eC p λp q=>eI .i64 p λp=>eC q λq d=>eI .i64 q λq=>eN d (Ak (Af lo 274 [Dt i j g,Iv x,Iv 3,Iv w,Ar p q] o) λo w=>eU o λo=>eN o (eO (st lo w n m (k+2) (Bg 0 0)) λo=>eO (st lo o n m (k+4) (AN 0)) λo=>some (.bool true,o))))))))) (AD u))))) (eN b (eO (ld a n m (k+2) 2) λo=>eC o λo b=>eI .i64 o λo=>eC b λb u=>eI .i64 b λb=>eN u (Ak (Af lo 15 [Ar l s,Ar o b] a) λl a=>eB l (eO (ld a v.1 (v.2+c.toNat) 2 1) λv=>eC v λv l=>eN l (eS 2 v λv l c=>An 0 l (eO v λv=>eO (ld a v.1 (v.2+0) 0 1) λv=>eC v λv l=>eN l (eS 6 v λv l c=>eO (ld a n m (k+4) 1) λc=>eC c λc o=>eN o (eI .i64 c λc=>An c l (eO v λv=>eO (ld a v.1 (v.2+c.toNat) 1 2) λv=>eC v λv l=>eI .i64 v λv=>eC l λl c=>eI .i64 l λl=>eN c (eO (ld a n m (k+2) 2) λc=>eC c λc o=>eI .i64 c λc=>eC o λo s=>eI .i64 o λo=>eN s (Ak (Af lo 15 [Ar v l,Ar c o] a) λv l=>eB v (eO (st lo l n m (k+2) (Bg 0 0)) λv=>eO (st lo v n m (k+4) (AN 0)) λv=>some (.bool true,v)) (AD l))))))))) (Ak (Af lo 273 [Dt i j g,Iv 1] a) λv l=>eB v (eO (ld l n m (k+1) 1) λv=>eC v λv c=>eS 2 v λv a o=>eN c (eO (ld l n m (k+4) 1) λc=>eC c λc s=>eN s (eI .i64 c λc=>eO (ld l n m (k+2) 2) λs=>eC s λs b=>eI .i64 s λs=>eC b λb u=>eI .i64 b λb=>eN u (Ak (Af lo 276 [Ap v a o,Iv c,Ar s b] l) λv c=>eA v λv=>eC v λv a=>eS 2 v λv o s=>eN a (eO (st lo c n m (k+1) (Bb v o s)) λv=>eO (ld v n m (k+4) 1) λc=>eC c λc a=>eN a (eI .i64 c λc=>eO (ld v n m (k+2) 2) λa=>eC a λa o=>eI .i64 a λa=>eC o λo s=>eI .i64 o λo=>eN s (Ak (Af lo 274 [Dt i j g,Iv x,Iv 3,Iv c,Ar a o] v) λv c=>eU v λv=>eN v (eO (st lo c n m (k+2) (Bg 0 0)) λv=>eO (st lo v n m (k+4) (AN 0)) λv=>some (.bool true,v))))))))) (AD l)))))))))))=some r) :
  Af lo 219 [Dt i j g,Dt n m k,BT y x z t S f] h=some r :=
 eK Tryz.func219 hk
theorem N3 (hk:(eO (ld h i j (g+0) 1) λv=>eC v λv l=>eN l (eS 6 v λv l c=>eO (ld h n m (k+0) 1) λc=>eC c λc a=>eN a (eI .i64 c λc=>An c l (eO v λv=>Ak (Af h.length 275 [.ptr (some (v.1,((v.2+c.toNat),2))),Iv z,Iv x] h) λv l=>eU v λv=>eC v λv c=>eA v λv=>eC v λv a=>eI .i64 v λv=>eC a λv a=>eI .i64 v λv=>eC a λa o=>eI .i64 a λa=>eC o λo s=>eS 2 o λo b u=>eC s λs w=>eT s λs=>eC w λs w=>eBv s λs=>eN w (eC c λc s=>eB c (eN s (Ak (Af lo 273 [Dt i j g,Iv 1] l) λc w=>eB c (eO (ld w n m ((k+1)+0) 1) λc=>eC c λc p=>eN p (eS 2 c λc p q=>An x p (eO c λc=>eO (ld w c.1 (c.2+x.toNat) 0 2) λc=>eC c λc p=>eI .i64 c λc=>eC p λp q=>eI .i64 p λp=>eN q (Ak (Af lo 15 [Ar v a,Ar c p] w) λc p=>eB c (AD p) (eO (ld p n m (k+1) 1) λc=>eC c λc q=>eS 2 c λc d e=>eN q (Ak (Af lo 277 [Ap c d e,Ap o b u] p) λc o=>eA c λc=>eC c λc b=>eS 2 c λc u p=>eN b (Ak (Af lo 276 [Ap c u p,Iv x,Ar v a] o) λc o=>eA c λc=>eC c λc b=>eS 2 c λc u p=>eN b (eO (st lo o n m (k+1) (Bb c u p)) λc=>Ak (Af lo 274 [Dt i j g,Iv y,Iv 2,Iv x,Ar v a] c) λv c=>eU v λv=>eN v (Cn c))))))))) (AD w))) (eN s (AD l)))))))=some r) :
  Af lo 220 [Dt i j g,Dt n m k,BT t y z x S f] h=some r :=
 eK Tryz.func220 hk
def Cz lo n m k a i c x y z t w q S f h:=
 LA 221 Tryz.f221 22131111 0 11111 lo ⟨[(0,(Dt n m k)),(5,.lp 5 0),(39,.sl 2 a i c),(40,Iv x),(41,Iv y)],[(5,(PR z t w q S f))],h⟩
theorem Pc (hk:(eO (ld h n m (k+0) 1) λv=>eC v λv l=>eN l (eS 6 v λv l c=>eO (ld h i j (g+0) 1) λc=>eC c λc a=>eN a (eI .i64 c λc=>An c l (eO v λv=>Ak (Af h.length 66 [.ptr (some (v.1,((v.2+c.toNat),2)))] h) λv l=>eA v λv=>eC v λv c=>eS 6 v λv a o=>eN c (Ak (Af l.length 67 [BS v a o] l) λv l=>eA v λv=>eC v λv c=>eS 2 v λv a o=>eN c (Ak (Af lo 273 [Dt n m k,Iv 4] l) λl c=>eB l (eO (ld c i j (g+1) 1) λl=>eC l λl s=>eS 2 l λl b u=>eN s (Ak (Af lo 69 [Ap l b u,Ap v a o] c) λl s=>eB l (eO (st lo s i j (g+1) (Bb v a o)) λl=>Cz lo n m k v a o (a:Int) 0 x y z t S f l) (AD s))) (AD c)))))))=some r) :
  Af lo 221 [Dt n m k,Dt i j g,BT x y z t S f] h=some r :=
 eK Tryz.func221 hk
theorem Cz.e {q:Int} :
  Cz lo n m k a i c y x t z w q S f h=br (decide (x<y)) (An x i (eO a λv=>eO (ld h v.1 (v.2+x.toNat) 0 2) λv=>eC v λv l=>eI .i64 v λv=>eC l λl o=>eI .i64 l λl=>eN o (Ak (Af lo 274 [Dt n m k,Iv z,Iv 2,Iv x,Ar v l] h) λv l=>eU v λv=>eN v (Cz lo n m k a i c y (Al (x+1)) t z w q S f l)))) (Cn h) :=
 lE
theorem JI (hk:(Ak (Af lo 278 [Dt n m (k+2),Iv x] h) λv l=>eB v (Ak (Af lo 120 [Dt n m k] l) λv c=>eU v λv=>eN v (Cn c)) (AD l))=some r) :
  Af lo 222 [Dt n m k,Iv x] h=some r :=
 eK Tryz.func222 hk
theorem N8 (hk:(eO (ld h n m (k+5) 1) λv=>eC v λv l=>eN l (eB v (AD h) (Ak (Af lo 279 [Dt n m (k+2),Iv x] h) λv l=>eB v (eO (st lo l n m (k+5) [.bool true]) λv=>Ak (Af lo 120 [Dt n m k] v) λv c=>eU v λv=>eN v (Cn c)) (AD l))))=some r) :
  Af lo 223 [Dt n m k,Iv x] h=some r :=
 eK Tryz.func223 hk
theorem JJ (hk:(eO (ld h n m (k+0) 1) λv=>eC v λv l=>eN l (eS 2 v λv v l=>br (decide ((v:Int)>=4)) (AD h) (eO (ld h n m (k+0) 1) λv=>eC v λv l=>eN l (eS 2 v λv l c=>Ak (Af h.length 66 [Dt n m k] h) λa o=>eA a λa=>eC a λa s=>eS 6 a λa b x=>eN s (Ak (Af o.length 209 [BS a b x] o) λa o=>eA a λa=>eC a λa s=>eS 6 a λa b x=>eN s (As 2 (o ++ [.rows 2 47 false [[.sl 6 a b x,.sl 0 none 0 (some 0)]]]) (.sl 2 (some (o.length,0)) 1 (some 1)) λs=>Dv lo 47 2 48 (.sl 2 v l c) s (o ++ [.rows 2 47 false [[.sl 6 a b x,.sl 0 none 0 (some 0)]]]) λv l=>eS 2 v λv c a=>Ak (Af lo 280 (Bb v c a) l) λv l=>eS 2 v λv c a=>eO (st lo l n m (k+0) (Bb v c a)) λv=>some (.bool true,v)))))))=some r) :
  Af lo 224 [Dt n m k] h=some r :=
 eK Tryz.func224 hk
theorem N6 (hk:(Ak (Af lo 62 (AN x) h) λv l=>eB v (eO (ld l n m (k+4) 1) λv=>eC v λv c=>eN c (eS 1 v λv c a=>An x c (eO v λv=>eO (ld l v.1 (v.2+x.toNat) 0 1) λv=>eC v λv c=>eN c (eS 6 v λv c a=>eO (ld l n m ((k+2)+0) 1) λo=>eC o λo s=>eN s (eS 2 o λo s b=>An 0 s (eO o λo=>eO (ld l o.1 (o.2+0) 0 1) λo=>eC o λo s=>eS 6 o λo b y=>eN s (Ak (Af lo 156 [.sl 6 v c a,.fn 210 [.tup [BS o b y]]] l) λv c=>eI .i64 v λv=>br (decide (v<0)) (AD c) (eO (ld c n m (k+4) 1) λa=>eC a λa o=>eN o (eS 1 a λa o s=>An x o (eO a λa=>eO (ld c a.1 (a.2+x.toNat) 0 1) λa=>eC a λa o=>eN o (eS 6 a λa o s=>An v o (eO a λa=>eO (ld c a.1 (a.2+v.toNat) 0 6) λv=>eC v λv a=>eI .i64 v λv=>eC a λa o=>eI .i64 a λa=>eC o λo s=>eI .i64 o λo=>eC s λs b=>eS 2 s λs y z=>eC b λb u=>eT b λb=>eC u λu w=>eBv u λu=>eN w (Ak (Af lo 66 [Dt n m (k+2)] c) λc w=>eA c λc=>eC c λc p=>eS 6 c λc q g=>eN p (Ak (Af lo 67 [BS c q g] w) λc w=>eA c λc=>eC c λc p=>eS 2 c λc q g=>eN p (Ak (Af lo 69 [Ap s y z,Ap c q g] w) λc w=>eB c (Ak (Af lo 119 [Dt n m (k+2),AC v a o s y z b u] w) λv c=>eB v (eO (ld c n m (k+1) 1) λv=>eC v λv o=>eN o (eI .i64 v λv=>eO (st lo c n m (k+1) (AN (if a>v then a else v))) λv=>Ak (Af lo 120 [Dt n m k] v) λv a=>eU v λv=>eN v (Cn a))) (AD c)) (AD w)))))))))))))))) (AD l))=some r) :
  Af lo 225 [Dt n m k,Iv x] h=some r :=
 eK Tryz.func225 hk
theorem Vo (hk:(Ak (Af h.length 62 (AN x) h) λl c=>eB l (Ak (Af h.length 62 (AN y) c) λl n=>eB l (br (x==y) (AD n) (Cn n)) (AD n)) (AD c))=some (v,h')) (hn:noId v=true:=by rfl) :
  Af lo 226 (Bg x y) h=some (v,h) :=
 eD Tryz.func226 hk hn
theorem Fp (hk:(Aw a (EP h a n c) c (some (Iv x)) (some (Iv y)) (some (Iv (n:Int))) λv v v=>br (x==y) (some (.sl 9 a n c,h)) (Aw a n c none (some (Iv x)) none λv l o=>Aw a n c (some (Iv y)) none none λs b z=>As 9 h (.sl 9 s b z) λs=>Dv lo 123 9 96 (.sl 9 v l o) s h λv l=>eS 9 v λv o s=>Aw v (EP l v o s) s (some (Iv (o:Int))) (some (Iv (n:Int))) none λb z u=>ZO lo 9 9 true [Iv 0,Iv 0,Iv 0,Iv 0,Iv 0,Iv 0,.sl 0 none 0 (some 0),.str ⟨⟨[]⟩⟩,.bool false] l b z λl=>some (.sl 9 v o s,l)))=some r) :
  Af lo 227 [.sl 9 a n c,Iv x,Iv y] h=some r :=
 eK Tryz.func227 hk
theorem N7 (hk:(Ak (Af lo 62 (AN x) h) λv l=>eB v (eO (ld l n m (k+0) 1) λv=>eC v λv o=>eN o (eI .i64 v λv=>br (x==v) (AD l) (Ak (Af lo 134 [AC t z y a i c S f] l) λv o=>eB v (br (y==x) (eO (ld o n m (k+4) 1) λv=>eC v λv s=>eN s (eS 1 v λv s b=>An x s (eO v λv=>eO (ld o v.1 (v.2+x.toNat) 0 1) λv=>eC v λv s=>eN s (eS 6 v λv s b=>br (w==(s:Int)) (br (decide ((s:Int)>=60)) (AD o) (Ak (Af lo 137 [.sl 6 v s b,Ar z y] o) λu p=>eB u (AD p) (eO (ld p n m (k+4) 1) λu=>eC u λu q=>eN q (eS 1 u λu q g=>Ak (Af lo 154 [AC t z y a i c S f] p) λg j=>eA g λg=>eC g λg d=>eI .i64 g λg=>eC d λd e=>eI .i64 d λd=>eC e λe A=>eI .i64 e λe=>eC A λA B=>eS 2 A λA C D=>eC B λB E=>eT B λB=>eC E λE G=>eBv E λE=>eN G (A8 (Gi (ld p n m (k+4) 1) (ld j n m (k+4) 1)) (A8 (Gi (ld j n m (k+4) 1) (ld (j ++ [.rows 6 43 false [Dc g d e A C D B E]]) n m (k+4) 1)) (As 6 (j ++ [.rows 6 43 false [Dc g d e A C D B E]]) (.sl 6 (some (j.length,0)) 1 (some 1)) λp=>Dv lo 43 6 72 (.sl 6 v s b) p (j ++ [.rows 6 43 false [Dc g d e A C D B E]]) λv s=>eS 6 v λv b p=>A8 (Gi (ld (j ++ [.rows 6 43 false [Dc g d e A C D B E]]) n m (k+4) 1) (ld s n m (k+4) 1)) (Ak (Af lo 205 (Bc v b p) s) λv b=>eS 6 v λv p g=>A8 (Gi (ld s n m (k+4) 1) (ld b n m (k+4) 1)) (An x q (eO u λs=>eO (st lo b s.1 (s.2+x.toNat) 0 (Bc v p g)) λv=>some (.bool true,v))))))))))) (AD o))))) (AD o)) (AD o)))) (AD l))=some r) :
  Af lo 228 [Dt n m k,Iv x,Iv w,AC t z y a i c S f] h=some r :=
 eK Tryz.func228 hk
theorem Hd (hk:(Aw a n c none (some (Iv (n:Int))) (some (Iv (n:Int))) λv l o=>some (.sl 2 v l o,h))=some r) :
  Af lo 229 (Bb a n c) h=some r :=
 eK Tryz.func229 hk
theorem D7 (hk:(br (a.isNone) (some (.sl 0 none 0 (some 0),h)) (As 2 (h ++ [.rows 2 36 false []]) (.sl 2 a n c) λv=>Dv lo 36 2 16 (.sl 2 (some (h.length,0)) 0 (some 0)) v (h ++ [.rows 2 36 false []]) λv l=>eS 2 v λv o s=>some (.sl 2 v o s,l)))=some r) :
  Af lo 230 (Bb a n c) h=some r :=
 eK Tryz.func230 hk
def Cq lo a n c b m p f x y h:=
 LA 231 Tryz.f231 221311 0 111 lo ⟨[(0,.sl 2 a n c),(1,.sl 2 b m p),(4,.bool f),(12,Iv x),(13,Iv y)],[],h⟩
theorem Cq.e :
  Cq lo a n c b m p f y x h=br (decide (x<y)) (An x n (eO a λv=>eO (ld h v.1 (v.2+x.toNat) 0 2) λv=>eC v λv l=>eI .i64 v λv=>eC l λl o=>eI .i64 l λl=>eN o (An x m (eO b λo=>eO (ld h o.1 (o.2+x.toNat) 0 2) λo=>eC o λo s=>eI .i64 o λo=>eC s λs z=>eI .i64 s λs=>eN z (br ((v==o)&&((l==s)&&true)) (Cq lo a n c b m p f y (Al (x+1)) h) (AD h)))))) (Cn h) :=
 lE
def Ca lo a n c m b k p f x y h:=
 LA 231 Tryz.f231 221311 0 111 lo ⟨[(0,.sl 2 a n c),(1,.sl m b k p),(4,.bool f),(12,Iv x),(13,Iv y)],[],h⟩
theorem Ca.e :
  Ca lo a n c m b k p f y x h=br (decide (x<y)) (An x n (eO a λv=>eO (ld h v.1 (v.2+x.toNat) 0 2) λv=>eC v λv l=>eI .i64 v λv=>eC l λl o=>eI .i64 l λl=>eN o (An x k (eO b λo=>A8 ((m.beq (2:Nat))&&true) (eO (ld h o.1 (o.2+x.toNat) 0 2) λo=>eC o λo s=>eI .i64 o λo=>eC s λs z=>eI .i64 s λs=>eN z (br ((v==o)&&((l==s)&&true)) (Ca lo a n c m b k p f y (Al (x+1)) h) (AD h))))))) (Cn h) :=
 lE
def AT lo a n c m l f b k p x y h:=
 LA 234 Tryz.f234 221311 0 111 lo ⟨[(1,.sl 6 a n c),(2,.fn m l),(6,.bool f),(15,.sl 6 b k p),(16,Iv x),(17,Iv y)],[],h⟩
theorem AT.e {lo n m k:Nat}{a b:Pq}{c p:Nq}{l:List V}{f:Bool}{y x:Int}{h:Heap} :
  AT lo a n c m l f b k p y x h=br (decide (x<y)) (An x k (eO b λv=>eO (ld h v.1 (v.2+x.toNat) 0 6) λv=>eC v λv o=>eI .i64 v λv=>eC o λo s=>eI .i64 o λo=>eC s λs z=>eI .i64 s λs=>eC z λz u=>eS 2 z λz w q=>eC u λu g=>eT u λu=>eC g λg i=>eBv g λg=>eN i (An x n (eO a λi=>eO (ld h i.1 (i.2+x.toNat) 0 6) λi=>eC i λi j=>eI .i64 i λi=>eC j λj t=>eI .i64 j λj=>eC t λt d=>eI .i64 t λt=>eC d λd e=>eS 2 d λd A B=>eC e λe C=>eT e λe=>eC C λC D=>eBv C λC=>eN D (Ak (Af lo m (Ea [AC v o s z w q u g,AC i j t d A B e C] l) h) λv o=>eB v (AT lo a n c m l f b k p y (Al (x+1)) o) (AD o)))))) (Cn h) :=
 lE
def BE lo a n c m l x y z h:=
 LA 235 Tryz.f235 22131 0 11 lo ⟨[(0,.sl 5 a n c),(1,.fn m l),(4,Iv x),(7,Iv y),(8,Iv z)],[],h⟩
theorem BE.e :
  BE lo a n c m l z y x h=br (decide (x<y)) (An x n (eO a λv=>eO (ld h v.1 (v.2+x.toNat) 0 5) λv=>eC v λv o=>eI .i64 v λv=>eC o λo s=>eS 2 o λo b u=>eC s λs w=>eI .i64 s λs=>eC w λw p=>eI .i64 w λw=>eC p λp q=>eI .i64 p λp=>eN q (Ak (Af lo m (Ea [PL v o b u s w p] l) h) λv o=>eB v (some (Iv x,o)) (BE lo a n c m l z y (Al (x+1)) o)))) (some (Iv (-1),h)) :=
 lE
def Bp lo a n c m l x y z h:=
 LA 236 Tryz.f236 22131 0 11 lo ⟨[(0,.sl 9 a n c),(1,.fn m l),(4,Iv x),(7,Iv y),(8,Iv z)],[],h⟩
theorem Bp.e :
  Bp lo a n c m l z y x h=br (decide (x<y)) (An x n (eO a λv=>eO (ld h v.1 (v.2+x.toNat) 0 9) λv=>eC v λv o=>eI .i64 v λv=>eC o λo s=>eI .i64 o λo=>eC s λs b=>eI .i64 s λs=>eC b λb u=>eI .i64 b λb=>eC u λu w=>eI .i64 u λu=>eC w λw p=>eI .i64 w λw=>eC p λp q=>eS 2 p λp g i=>eC q λq j=>eT q λq=>eC j λj k=>eBv j λj=>eN k (Ak (Af lo m (Ea [PM v o s b u w p g i q j] l) h) λv o=>eB v (some (Iv x,o)) (Bp lo a n c m l z y (Al (x+1)) o)))) (some (Iv (-1),h)) :=
 lE
theorem Sq (hk:(Ak (Af h.length 282 [.sl 2 a n c,.sl 2 b m p] h) λl o=>eB l (Cn o) (AD o))=some (v,h')) (hn:noId v=true:=by rfl) :
  Af lo 237 [Ap a n c,Ap b m p] h=some (v,h) :=
 eD Tryz.func237 hk hn
def Dq lo a n c b m p f x h:=
 LA 238 Tryz.f238 221311 0 111 lo ⟨[(0,.sl 6 a n c),(1,.sl 6 b m p),(4,.bool f),(5,Iv x)],[],h⟩
theorem Tb (hk:(br ((n:Int)==(m:Int)) (Dq h.length a n c b m p false 0 h) (AD h))=some (v,h')) (hn:noId v=true:=by rfl) :
  Af lo 238 (Ij a n c b m p) h=some (v,h) :=
 eD Tryz.func238 hk hn
theorem Dq.e {lo n m:Nat}{a b:Pq}{c p:Nq}{f:Bool}{x:Int}{h:Heap} :
  Dq lo a n c b m p f x h=br (decide (x<(n:Int))) (An x n (eO a λv=>eO (ld h v.1 (v.2+x.toNat) 0 6) λv=>eC v λv l=>eI .i64 v λv=>eC l λl o=>eI .i64 l λl=>eC o λo s=>eI .i64 o λo=>eC s λs y=>eS 2 s λs z u=>eC y λy w=>eT y λy=>eC w λw q=>eBv w λw=>eN q (An x m (eO b λq=>eO (ld h q.1 (q.2+x.toNat) 0 6) λq=>eC q λq g=>eI .i64 q λq=>eC g λg i=>eI .i64 g λg=>eC i λi j=>eI .i64 i λi=>eC j λj k=>eS 2 j λj t d=>eC k λk e=>eT k λk=>eC e λe A=>eBv e λe=>eN A (Ak (Af lo 242 [AC v l o s z u y w,AC q g i j t d k e] h) λv l=>eB v (Dq lo a n c b m p f (Al (x+1)) l) (AD l)))))) (Cn h) :=
 lE
def C4 lo a n c b m p f x h:=
 LA 239 Tryz.f239 221311 0 111 lo ⟨[(0,.sl 1 a n c),(1,.sl 1 b m p),(4,.bool f),(5,Iv x)],[],h⟩
theorem Sg (hk:(br ((n:Int)==(m:Int)) (C4 h.length a n c b m p false 0 h) (AD h))=some (v,h')) (hn:noId v=true:=by rfl) :
  Af lo 239 [.sl 1 a n c,.sl 1 b m p] h=some (v,h) :=
 eD Tryz.func239 hk hn
theorem C4.e :
  C4 lo a n c b m p f x h=br (decide (x<(n:Int))) (An x n (eO a λv=>eO (ld h v.1 (v.2+x.toNat) 0 1) λv=>eC v λv l=>eN l (eS 6 v λv l o=>An x m (eO b λs=>eO (ld h s.1 (s.2+x.toNat) 0 1) λs=>eC s λs y=>eN y (eS 6 s λs y z=>Ak (Af lo 238 (Ij v l o s y z) h) λv l=>eB v (C4 lo a n c b m p f (Al (x+1)) l) (AD l)))))) (Cn h) :=
 lE
theorem Te (hk:(Ak (Af h.length 283 [.sl 2 a n c,.sl 2 b m p] h) λl o=>eB l (Cn o) (AD o))=some (v,h')) (hn:noId v=true:=by rfl) :
  Af lo 240 [Ap a n c,Ap b m p] h=some (v,h) :=
 eD Tryz.func240 hk hn
theorem Vm (hk:(br (x==z) (br (y==t) (Cn h) (AD h)) (AD h))=some (v,h')) (hn:noId v=true:=by rfl) :
  Af lo 241 [Ar x y,Ar z t] h=some (v,h) :=
 eD Tryz.func241 hk hn
theorem Vl {q:Int} (hk:(br (x==t) (Ak (Af h.length 241 [Ar y z,Ar w q] h) λl o=>eB l (Ak (Af h.length 240 [Ap a n c,Ap b m p] o) λl s=>eB l (br (S.toList==s0.toList) (br (f==F) (Cn s) (AD s)) (AD s)) (AD s)) (AD o)) (AD h))=some (v,h')) (hn:noId v=true:=by rfl) :
  Af lo 242 [AC x y z a n c S f,AC t w q b m p s0 F] h=some (v,h) :=
 eD Tryz.func242 hk hn
def IA lo a n c x y z h:=
 LA 244 Tryz.f244 2213111 0 1111 lo ⟨[(0,.sl 6 a n c),(1,Iv x),(4,Iv y),(5,Iv z)],[],h⟩
theorem IA.e :
  IA lo a n c y z x h=br (decide (x<(n:Int))) (An x n (eO a λv=>eO (ld h v.1 (v.2+x.toNat) 0 6) λv=>eC v λv l=>eI .i64 v λv=>eC l λl o=>eI .i64 l λl=>eC o λo s=>eI .i64 o λo=>eC s λs b=>eS 2 s λs u w=>eC b λb p=>eT b λb=>eC p λp q=>eBv p λp=>eN q (Ak (Af lo 247 [AC v l o s u w b p,Iv y] h) λv l=>eI .i64 v λv=>br (decide (v<0)) (some (Iv (-1),l)) (IA lo a n c v z (Al (x+1)) l)))) (some (Iv y,h)) :=
 lE
def HH lo a n c x y z h:=
 LA 245 Tryz.f245 2213111 0 1111 lo ⟨[(0,.sl 1 a n c),(1,Iv x),(4,Iv y),(5,Iv z)],[],h⟩
theorem HH.e :
  HH lo a n c y z x h=br (decide (x<(n:Int))) (An x n (eO a λv=>eO (ld h v.1 (v.2+x.toNat) 0 1) λv=>eC v λv l=>eN l (eS 6 v λv l o=>Ak (Af lo 244 [.sl 6 v l o,Iv y] h) λv l=>eI .i64 v λv=>br (decide (v<0)) (some (Iv (-1),l)) (HH lo a n c v z (Al (x+1)) l)))) (some (Iv y,h)) :=
 lE
theorem R8 {e:Pq} (hk:(An x n (eO a λv=>eO (ld h v.1 (v.2+x.toNat) 0 5) λv=>eC v λv l=>eI .i64 v λv=>eC l λl o=>eS 2 l λl w q=>eC o λo g=>eI .i64 o λo=>eC g λg j=>eI .i64 g λg=>eC j λg j=>eI .i64 g λg=>eN j (An v m (eO b λg=>eO (ld h g.1 (g.2+v.toNat) 0 6) λg=>eC g λg j=>eI .i64 g λg=>eC j λj A=>eI .i64 j λj=>eC A λA B=>eS 2 A λA C D=>eC B λB E=>eS 6 B λB G H=>eC E λE J=>eS 1 E λE K L=>eC J λJ M=>eBv J λJ=>eN M (br (decide (o>0)) (some (.tup [At b m c a n p d i u e k s,.bool false],h)) (Ak (Af lo 54 (C1 y 0 3) h) λo M=>eB o (Ak (Af lo 55 [.str S] M) λo N=>eB o (br f (br (S.toList==(ByteArray.mk #[]).toList) (Ak (Af lo 57 [Br g j A C D B G H E K L J,Ap l w q] N) λo O=>eB o (br (decide ((k:Int)>=80)) (some (.tup [At b m c a n p d i u e k s,.bool false],O)) (Ak (Af lo 59 [Br g j A C D B G H E K L J,Iv y,.str S,.bool true,Ap l w q] O) λo P=>eU o λo=>eC o λo Q=>eA o λo=>eC o λo U=>eI .i64 o λo=>eC U λU W=>eI .i64 U λU=>eC W λW Y=>eS 2 W λW Z v0=>eC Y λY v1=>eS 6 Y λY v2 v3=>eC v1 λv1 v4=>eS 1 v1 λv1 v5 v6=>eC v4 λv4 v7=>eBv v4 λv4=>eN v7 (eC Q λQ v7=>eA Q λQ=>eC Q λQ v8=>eI .i64 Q λQ=>eC v8 λv8 v9=>eI .i64 v8 λv8=>eN v9 (eN v7 (An v m (eO b λv7=>eO (st lo P v7.1 (v7.2+v.toNat) 0 (Du o U W Z v0 Y v2 v3 v1 v5 v6 v4)) λo=>An x n (eO a λP=>eO (st lo o P.1 (P.2+x.toNat) 2 (Bg Q v8)) λo=>An x n (eO a λP=>eO (st lo o P.1 (P.2+x.toNat) 4 (AN y)) λo=>Ak (Af lo 287 [At b m c a n p d i u e k s,Iv x,Iv 1,Iv y,Ar Q v8] o) λo P=>eA o λo=>eC o λo Q=>eS 6 o λo U W=>eC Q λQ Y=>eS 5 Q λQ Z v0=>eC Y λY v1=>eS 9 Y λY v2 v3=>eC v1 λv1 v4=>eS 5 v1 λv1 v5 v6=>eN v4 (some (.tup [At o U W Q Z v0 Y v2 v3 v1 v5 v6,.bool true],P)))))))))) (some (.tup [At b m c a n p d i u e k s,.bool false],O))) (some (.tup [At b m c a n p d i u e k s,.bool false],N))) (Ak (Af lo 57 [Br g j A C D B G H E K L J,Ap l w q] N) λo O=>eB o (br (decide ((k:Int)>=80)) (some (.tup [At b m c a n p d i u e k s,.bool false],O)) (Ak (Af lo 59 [Br g j A C D B G H E K L J,Iv y,.str S,.bool false,Ap l w q] O) λl o=>eU l λl=>eC l λl w=>eA l λl=>eC l λl q=>eI .i64 l λl=>eC q λq g=>eI .i64 q λq=>eC g λg j=>eS 2 g λg A B=>eC j λj C=>eS 6 j λj D E=>eC C λC G=>eS 1 C λC H J=>eC G λG K=>eBv G λG=>eN K (eC w λw K=>eA w λw=>eC w λw L=>eI .i64 w λw=>eC L λL P=>eI .i64 L λL=>eN P (eN K (An v m (eO b λK=>eO (st lo o K.1 (K.2+v.toNat) 0 (Du l q g A B j D E C H J G)) λv=>An x n (eO a λl=>eO (st lo v l.1 (l.2+x.toNat) 2 (Bg w L)) λv=>An x n (eO a λl=>eO (st lo v l.1 (l.2+x.toNat) 4 (AN y)) λv=>Ak (Af lo 287 [At b m c a n p d i u e k s,Iv x,Iv 1,Iv y,Ar w L] v) λv l=>eA v λv=>eC v λv o=>eS 6 v λv w q=>eC o λo g=>eS 5 o λo j A=>eC g λg B=>eS 9 g λg C D=>eC B λB E=>eS 5 B λB G H=>eN E (some (.tup [At v w q o j A g C D B G H,.bool true],l)))))))))) (some (.tup [At b m c a n p d i u e k s,.bool false],O)))) (some (.tup [At b m c a n p d i u e k s,.bool false],N))) (some (.tup [At b m c a n p d i u e k s,.bool false],M))))))))=some r) :
  Af lo 249 [At b m c a n p d i u e k s,BT z x t y S f] h=some r :=
 by cases f<;>exact eK Tryz.func249 hk
theorem Vb {e:Pq} (hk:(An x n (eO a λv=>eO (ld h v.1 (v.2+x.toNat) 0 5) λv=>eC v λv l=>eI .i64 v λv=>eC l λl o=>eS 2 l λl w q=>eC o λo g=>eI .i64 o λo=>eC g λg j=>eI .i64 g λg=>eC j λj A=>eI .i64 j λj=>eN A (br (o==0) (some (.tup [At b k c a n p d i u e m s,.bool false],h)) (An v k (eO b λA=>eO (ld h A.1 (A.2+v.toNat) 2 1) λv=>eC v λv A=>eS 2 v λv B C=>eN A (Ak (Af lo 288 [Ap v B C,Iv 0,Iv j] h) λA C=>eA A λA=>eC A λA D=>eI .i64 A λA=>eC D λA D=>eI .i64 A λA=>eC D λD E=>eI .i64 D λD=>eC E λE G=>eS 2 E λE E E=>eC G λE G=>eT E λE=>eC G λE G=>eBv E λE=>eN G (An 0 B (eO v λv=>eO (ld C v.1 (v.2+0) 0 1) λv=>eC v λv B=>eN B (eS 6 v λv B E=>An j B (eO v λv=>eO (ld C v.1 (v.2+j.toNat) 1 2) λv=>eC v λv B=>eI .i64 v λv=>eC B λB E=>eI .i64 B λB=>eN E (Ak (Af lo 197 [Ar A D,Ar o g] C) λC E=>eB C (Ak (Af lo 197 [Ar v B,Ar o g] E) λv B=>eB v (Ak (Af lo 197 [Ar A D,Ar o g] B) λv C=>eB v (Ak (Af lo 197 [Ar A D,Ar o g] C) λv G=>eB v (An x n (eO a λv=>eO (st lo G v.1 (v.2+x.toNat) 2 (Bg 0 0)) λv=>An x n (eO a λH=>eO (st lo v H.1 (H.2+x.toNat) 4 (AN 0)) λv=>some (.tup [At b k c a n p d i u e m s,.bool true],v)))) (Ak (Af lo 289 [Ap l w q,Iv j,Ar o g] G) λv G=>eA v λv=>eC v λv H=>eS 2 v λv J K=>eN H (An x n (eO a λH=>eO (st lo G H.1 (H.2+x.toNat) 1 (Bb v J K)) λv=>Ak (Af lo 287 [At b k c a n p d i u e m s,Iv x,Iv 3,Iv j,Ar o g] v) λv G=>eA v λv=>eC v λv H=>eS 6 v λv J K=>eC H λH L=>eS 5 H λH M N=>eC L λL O=>eS 9 L λL P Q=>eC O λO U=>eS 5 O λO W Y=>eN U (An x M (eO H λU=>eO (st lo G U.1 (U.2+x.toNat) 2 (Bg 0 0)) λG=>An x M (eO H λU=>eO (st lo G U.1 (U.2+x.toNat) 4 (AN 0)) λG=>some (.tup [At v J K H M N L P Q O W Y,.bool true],G)))))))) (br (decide ((m:Int)>=80)) (some (.tup [At b k c a n p d i u e m s,.bool false],C)) (Ak (Af lo 197 [Ar A D,Ar o g] C) λv C=>eB v (An x n (eO a λv=>eO (st lo C v.1 (v.2+x.toNat) 2 (Bg 0 0)) λv=>An x n (eO a λG=>eO (st lo v G.1 (G.2+x.toNat) 4 (AN 0)) λv=>some (.tup [At b k c a n p d i u e m s,.bool true],v)))) (Ak (Af lo 289 [Ap l w q,Iv j,Ar o g] C) λv C=>eA v λv=>eC v λv G=>eS 2 v λv H J=>eN G (An x n (eO a λG=>eO (st lo C G.1 (G.2+x.toNat) 1 (Bb v H J)) λv=>Ak (Af lo 287 [At b k c a n p d i u e m s,Iv x,Iv 3,Iv j,Ar o g] v) λv C=>eA v λv=>eC v λv G=>eS 6 v λv H J=>eC G λG K=>eS 5 G λG L M=>eC K λK N=>eS 9 K λK O P=>eC N λN Q=>eS 5 N λN U W=>eN Q (An x L (eO G λQ=>eO (st lo C Q.1 (Q.2+x.toNat) 2 (Bg 0 0)) λC=>An x L (eO G λQ=>eO (st lo C Q.1 (Q.2+x.toNat) 4 (AN 0)) λC=>some (.tup [At v H J G L M K O P N U W,.bool true],C)))))))))) (some (.tup [At b k c a n p d i u e m s,.bool false],B))) (Ak (Af lo 197 [Ar A D,Ar o g] E) λv B=>eB v (Ak (Af lo 197 [Ar A D,Ar o g] B) λv C=>eB v (An x n (eO a λv=>eO (st lo C v.1 (v.2+x.toNat) 2 (Bg 0 0)) λv=>An x n (eO a λE=>eO (st lo v E.1 (E.2+x.toNat) 4 (AN 0)) λv=>some (.tup [At b k c a n p d i u e m s,.bool true],v)))) (Ak (Af lo 289 [Ap l w q,Iv j,Ar o g] C) λv C=>eA v λv=>eC v λv E=>eS 2 v λv G H=>eN E (An x n (eO a λE=>eO (st lo C E.1 (E.2+x.toNat) 1 (Bb v G H)) λv=>Ak (Af lo 287 [At b k c a n p d i u e m s,Iv x,Iv 3,Iv j,Ar o g] v) λv C=>eA v λv=>eC v λv E=>eS 6 v λv G H=>eC E λE J=>eS 5 E λE K L=>eC J λJ M=>eS 9 J λJ N O=>eC M λM P=>eS 5 M λM Q U=>eN P (An x K (eO E λP=>eO (st lo C P.1 (P.2+x.toNat) 2 (Bg 0 0)) λC=>An x K (eO E λP=>eO (st lo C P.1 (P.2+x.toNat) 4 (AN 0)) λC=>some (.tup [At v G H E K L J N O M Q U,.bool true],C)))))))) (br (decide ((m:Int)>=80)) (some (.tup [At b k c a n p d i u e m s,.bool false],B)) (Ak (Af lo 197 [Ar A D,Ar o g] B) λv A=>eB v (An x n (eO a λv=>eO (st lo A v.1 (v.2+x.toNat) 2 (Bg 0 0)) λv=>An x n (eO a λB=>eO (st lo v B.1 (B.2+x.toNat) 4 (AN 0)) λv=>some (.tup [At b k c a n p d i u e m s,.bool true],v)))) (Ak (Af lo 289 [Ap l w q,Iv j,Ar o g] A) λv l=>eA v λv=>eC v λv w=>eS 2 v λv q A=>eN w (An x n (eO a λw=>eO (st lo l w.1 (w.2+x.toNat) 1 (Bb v q A)) λv=>Ak (Af lo 287 [At b k c a n p d i u e m s,Iv x,Iv 3,Iv j,Ar o g] v) λv l=>eA v λv=>eC v λv o=>eS 6 v λv w q=>eC o λo g=>eS 5 o λo j A=>eC g λg B=>eS 9 g λg C D=>eC B λB E=>eS 5 B λB G H=>eN E (An x j (eO o λE=>eO (st lo l E.1 (E.2+x.toNat) 2 (Bg 0 0)) λl=>An x j (eO o λE=>eO (st lo l E.1 (E.2+x.toNat) 4 (AN 0)) λl=>some (.tup [At v w q o j A g C D B G H,.bool true],l)))))))))))))))))))))=some r) :
  Af lo 250 [At b k c a n p d i u e m s,BT y x z t S f] h=some r :=
 eK Tryz.func250 hk
theorem SS {e:Pq} (hk:(An y n (eO a λv=>eO (ld h v.1 (v.2+y.toNat) 0 5) λv=>eC v λv l=>eI .i64 v λv=>eC l λl o=>eS 2 l λl w q=>eC o λo g=>eI .i64 o λo=>eC g λg j=>eI .i64 g λg=>eC j λg j=>eI .i64 g λg=>eN j (An v m (eO b λg=>eO (ld h g.1 (g.2+v.toNat) 2 1) λv=>eC v λv g=>eS 2 v λv j A=>eN g (br (decide (o>0)) (some (.tup [At b m c a n p d i u e k s,.bool false],h)) (Ak (Af lo 54 (C1 x 0 3) h) λo g=>eB o (Ak (Af lo 54 (C1 z 0 (Al ((j:Int) - 1))) g) λo B=>eB o (br (decide ((k:Int)>=80)) (some (.tup [At b m c a n p d i u e k s,.bool false],B)) (Ak (Af lo 288 [Ap v j A,Iv z,Iv x] B) λv o=>eA v λv=>eC v λv j=>eI .i64 v λv=>eC j λv j=>eI .i64 v λv=>eC j λj A=>eI .i64 j λj=>eC A λA C=>eS 2 A λA D E=>eC C λC G=>eT C λC=>eC G λC G=>eBv C λC=>eN G (An x w (eO l λC=>eO (ld o C.1 (C.2+x.toNat) 0 2) λC=>eC C λC G=>eI .i64 C λC=>eC G λG H=>eI .i64 G λG=>eN H (Ak (Af lo 197 [Ar v j,Ar C G] o) λo C=>eB o (some (.tup [At b m c a n p d i u e k s,.bool false],C)) (br (decide (v>0)) (Ak (Af lo 290 [Ap l w q,Ap A D E] C) λl o=>eA l λl=>eC l λl w=>eS 2 l λl q A=>eN w (Ak (Af lo 289 [Ap l q A,Iv x,Ar v j] o) λl o=>eA l λl=>eC l λl w=>eS 2 l λl q A=>eN w (An y n (eO a λw=>eO (st lo o w.1 (w.2+y.toNat) 1 (Bb l q A)) λl=>Ak (Af lo 287 [At b m c a n p d i u e k s,Iv y,Iv 2,Iv x,Ar v j] l) λl o=>eA l λl=>eC l λl w=>eS 6 l λl q A=>eC w λw D=>eS 5 w λw E G=>eC D λD H=>eS 9 D λD J K=>eC H λH L=>eS 5 H λH M N=>eN L (some (.tup [At l q A w E G D J K H M N,.bool true],o)))))) (Ak (Af lo 287 [At b m c a n p d i u e k s,Iv y,Iv 2,Iv x,Ar v j] C) λv l=>eA v λv=>eC v λv o=>eS 6 v λv w q=>eC o λo j=>eS 5 o λo A C=>eC j λj D=>eS 9 j λj E G=>eC D λD H=>eS 5 D λD J K=>eN H (some (.tup [At v w q o A C j E G D J K,.bool true],l))))))))) (some (.tup [At b m c a n p d i u e k s,.bool false],B))) (some (.tup [At b m c a n p d i u e k s,.bool false],g))))))))=some r) :
  Af lo 251 [At b m c a n p d i u e k s,BT t y z x S f] h=some r :=
 eK Tryz.func251 hk
def DR lo x a n c b m p d k u e i s y z t w S f j A g C G B H D J a0 P c0 n0 a1 n1 c1 a2 n2 c2 h:=
 LA 252 Tryz.f252 221311111 0 111111 lo ⟨[(2,.lp 2 0),(3,.lp 3 0),(4,.lp 4 0),(8,.lp 8 0),(9,Iv x)],[(2,(DW a n c b m p d k u e i s)),(3,(PR y z t w S f)),(4,[.sl j A g C,.sl G B H D,.sl J a0 P c0,.sl n0 a1 n1 c1]),(8,(Bc a2 n2 c2))],h⟩
theorem Vc {e:Pq} (hk:(An x m (eO b λv=>eO (ld h v.1 (v.2+x.toNat) 0 5) λv=>eC v λv l=>eI .i64 v λv=>eC l λl o=>eS 2 l λl w q=>eC o λo g=>eI .i64 o λo=>eC g λg j=>eI .i64 g λg=>eC j λg j=>eI .i64 g λg=>eN j (An v n (eO a λg=>eO (ld h g.1 (g.2+v.toNat) 2 1) λv=>eC v λv g=>eS 2 v λv j A=>eN g (An (Al ((j:Int) - 1)) j (eO v λv=>eO (ld h v.1 (v.2+((Al ((j:Int) - (1:Int))).toNat)) 0 1) λv=>eC v λv g=>eS 6 v λv j A=>eN g (br (decide (o>0)) (some (.tup [At a n c b m p d i u e k s,.bool false],h)) (Ak (Af h.length 114 [BS v j A] h) λo g=>eA o λo=>eC o λo B=>eS 2 o λo C D=>eN B (Ak (Af lo 124 [Ap l w q,Ap o C D] g) λl o=>eB l (br (decide (Al ((k:Int)+(4:Int))>80)) (some (.tup [At a n c b m p d i u e k s,.bool false],o)) (DR lo 0 a n c b m p d i u e k s y x z t S f 0 none 0 (some 0) 0 none 0 (some 0) 0 none 0 (some 0) 0 none 0 (some 0) v j A o)) (some (.tup [At a n c b m p d i u e k s,.bool false],o)))))))))))=some r) :
  Af lo 252 [At a n c b m p d i u e k s,BT y x z t S f] h=some r :=
 eK Tryz.func252 hk
theorem DR.e {lo k n i j g G H J P n0 n1 n2 m:Nat}{x z y t w:Int}{d a A B a0 a1 a2 a3 b:Pq}{c p u s C D c0 c1 c2:Nq}{S:ByteArray}{f:Bool}{h:Heap} :
  DR lo x d k c a n p A i u B j s z y t w S f g a0 G C H a1 J D P a2 n0 c0 n1 a3 n2 c1 b m c2 h=br (decide (x<4)) (An y n (eO a λv=>eO (ld h v.1 (v.2+y.toNat) 1 1) λv=>eC v λv l=>eS 2 v λv o q=>eN l (An x m (eO b λl=>eO (ld h l.1 (l.2+x.toNat) 1 2) λl=>eC l λl e=>eI .i64 l λl=>eC e λe E=>eI .i64 e λe=>eN E (Ak (Af lo 289 [Ap v o q,Iv x,Ar l e] h) λv l=>eA v λv=>eC v λv o=>eS 2 v λv q e=>eN o (An y n (eO a λo=>eO (st lo l o.1 (o.2+y.toNat) 1 (Bb v q e)) λv=>An x m (eO b λl=>eO (ld v l.1 (l.2+x.toNat) 1 2) λl=>eC l λl o=>eI .i64 l λl=>eC o λo q=>eI .i64 o λo=>eN q (Ak (Af lo 287 [At d k c a n p A i u B j s,Iv y,Iv 2,Iv x,Ar l o] v) λv l=>eA v λv=>eC v λv o=>eS 6 v λv q e=>eC o λo E=>eS 5 o λo K L=>eC E λE M=>eS 9 E λE N O=>eC M λM Q=>eS 5 M λM U W=>eN Q (DR lo (Al (x+1)) v q e o K L E N O M U W z y t w S f g a0 G C H a1 J D P a2 n0 c0 n1 a3 n2 c1 b m c2 l)))))))))) (some (.tup [At d k c a n p A i u B j s,.bool true],h)) :=
 lE
theorem Vf (hk:(Ak (Af h.length 54 (C1 x 0 (Al ((n:Int) - 2))) h) λl o=>eB l (An x n (eO a λl=>eO (ld o l.1 (l.2+x.toNat) 1 1) λl=>eC l λl s=>eN s (eS 6 l λl l s=>br (decide ((l:Int)>0)) (An (Al (x+1)) n (eO a λl=>eO (ld o l.1 (l.2+((Al (x+(1:Int))).toNat)) 1 1) λl=>eC l λl s=>eN s (eS 6 l λl l s=>br (decide ((l:Int)<6)) (Cn o) (AD o)))) (AD o)))) (AD o))=some (v,h')) (hn:noId v=true:=by rfl) :
  Af lo 253 [Ap a n c,Iv x] h=some (v,h) :=
 eD Tryz.func253 hk hn
theorem S1 (hk:(An x n (eO a λv=>eO (ld h v.1 (v.2+x.toNat) 1 1) λv=>eC v λv l=>eN l (eS 6 v λv l o=>An 0 l (eO v λv=>eO (ld h v.1 (v.2+0) 0 6) λv=>eC v λv l=>eI .i64 v λv=>eC l λl o=>eI .i64 l λl=>eC o λo s=>eI .i64 o λo=>eC s λs b=>eS 2 s λs y z=>eC b λb u=>eT b λb=>eC u λu w=>eBv u λu=>eN w (An x n (eO a λw=>eO (ld (h ++ [.rows 6 43 false []]) w.1 (w.2+x.toNat) 1 1) λw=>eC w λw p=>eN p (eS 6 w λw p q=>Aw w p q (some (Iv 1)) none none λw p q=>As 6 (h ++ [.rows 6 43 false []]) (.sl 6 w p q) λw=>Dv lo 43 6 72 (.sl 6 (some (h.length,0)) 0 (some 0)) w (h ++ [.rows 6 43 false []]) λw p=>eS 6 w λw q g=>An x n (eO a λi=>eO (st lo p i.1 (i.2+x.toNat) 1 (Bc w q g)) λw=>Ak (Af lo 129 [Ap a n c,Iv (Al (x+1)),AC v l o s y z b u] w) λv l=>eA v λv=>eC v λv o=>eS 2 v λv s b=>eN o (some ((Ap v s b),l))))))))))=some r) :
  Af lo 254 [Ap a n c,Iv x] h=some r :=
 eK Tryz.func254 hk
theorem OY (hk:(br (!f) (br (!f) (br (!f) (br (!f) (br (!f) (br (decide ((n:Int)>1)) (br (!f) (Ak (Af h.length 54 (C1 x 0 (Al ((n:Int) - 1))) h) λl o=>eB l (Cn o) (AD o)) (AD h)) (br (!f) (AD h) (AD h))) (br (!f) none (AD h))) (br (!f) none (br (!f) none (AD h)))) (br (!f) none (br (!f) none (br (!f) none (AD h))))) (br (!f) none (br (!f) none (br (!f) none (br (!f) none (AD h)))))) (br (!f) none (br (!f) none (br (!f) none (br (!f) none (br (!f) none (AD h)))))))=some (v,h')) (hn:noId v=true:=by rfl) :
  Af lo 255 [Br y z a n c b m p d k u f,Iv x] h=some (v,h) :=
 eD Tryz.func255 hk hn
theorem S4 (hk:(Aw a n c none (some (Iv x)) none λv l o=>As 2 (h ++ [.rows 2 47 false []]) (.sl 2 v l o) λv=>Dv lo 47 2 48 (.sl 2 (some (h.length,0)) 0 (some 0)) v (h ++ [.rows 2 47 false []]) λv l=>eS 2 v λv o s=>Aw a n c (some (Iv (Al (x+1)))) none none λb y z=>As 2 l (.sl 2 b y z) λb=>Dv lo 47 2 48 (.sl 2 v o s) b l λv l=>eS 2 v λv o s=>br (decide (x>0)) (br (decide (x<(o:Int))) (An (Al (x - 1)) o (eO v λb=>eO (ld l b.1 (b.2+((Al (x - (1:Int))).toNat)) 0 1) λb=>eC b λb y=>eS 6 b λb z u=>eN y (An x o (eO v λy=>eO (ld l y.1 (y.2+x.toNat) 0 1) λy=>eC y λy w=>eS 6 y λy p q=>eN w (Ak (Af lo 291 [BS b z u,BS y p q] l) λb y=>eS 6 b λb z u=>An (Al (x - 1)) o (eO v λw=>eO (st lo y w.1 (w.2+((Al (x - (1:Int))).toNat)) 1 (Bc b z u)) λb=>An (Al ((o:Int) - 1)) o (eO v λy=>eO (st lo b y.1 (y.2+((Al ((o:Int) - (1:Int))).toNat)) 1 [.sl 0 none 0 (some 0)]) λb=>some ((Ap v o s),b)))))))) (An (Al ((o:Int) - 1)) o (eO v λb=>eO (st lo l b.1 (b.2+((Al ((o:Int) - (1:Int))).toNat)) 1 [.sl 0 none 0 (some 0)]) λb=>some ((Ap v o s),b)))) (An (Al ((o:Int) - 1)) o (eO v λb=>eO (st lo l b.1 (b.2+((Al ((o:Int) - (1:Int))).toNat)) 1 [.sl 0 none 0 (some 0)]) λl=>some ((Ap v o s),l))))=some r) :
  Af lo 256 [Ap a n c,Iv x] h=some r :=
 eK Tryz.func256 hk
theorem S3 (hk:(An (Al ((n:Int) - 1)) n (eO a λv=>eO (ld h v.1 (v.2+((Al ((n:Int) - (1:Int))).toNat)) 0 1) λv=>eC v λv l=>eS 6 v λv o s=>eN l (Ak (Af lo 196 [BS v o s] h) λv l=>eA v λv=>eC v λv o=>eS 6 v λv s b=>eN o (As 2 (l ++ [.rows 2 47 false [[.sl 6 v s b,.sl 0 none 0 (some 0)]]]) (.sl 2 (some (l.length,0)) 1 (some 1)) λo=>Dv lo 47 2 48 (.sl 2 a n c) o (l ++ [.rows 2 47 false [[.sl 6 v s b,.sl 0 none 0 (some 0)]]]) λv l=>eS 2 v λv o s=>some ((Ap v o s),l)))))=some r) :
  Af lo 257 [Ap a n c] h=some r :=
 eK Tryz.func257 hk
theorem OX (hk:(Ak (Af h.length 292 [Br y z a n c d k p b m u f,Iv x] h) λl o=>eI .i64 l λl=>br (decide (l>=0)) (Ak (Af h.length 125 [Ap a n c] o) λs w=>eB s (An x m (eO b λs=>eO (ld w s.1 (s.2+x.toNat) 0 1) λs=>eC s λs q=>eN q (eS 6 s λs q g=>An l q (eO s λs=>eO (ld w s.1 (s.2+l.toNat) 3 1) λl=>eC l λl s=>eS 2 l λl q g=>eN s (Ak (Af w.length 47 [Ap a n c] w) λs i=>eA s λs=>eC s λs j=>eS 2 s λs t e=>eN j (Ak (Af h.length 124 [Ap l q g,Ap s t e] i) λl s=>eB l (Cn s) (AD s))))))) (AD w)) (AD o))=some (v,h')) (hn:noId v=true:=by rfl) :
  Af lo 258 [Br y z a n c d k p b m u f,Iv x] h=some (v,h) :=
 eD Tryz.func258 hk hn
theorem SW (hk:(An z n (eO a λv=>eO (ld h v.1 (v.2+z.toNat) 0 1) λv=>eC v λv l=>eN l (eS 6 v λv l o=>Ak (Af h.length 292 [Br x y b m c d k p a n u f,Iv z] h) λo s=>eI .i64 o λo=>An o l (eO v λv=>eO (ld s v.1 (v.2+o.toNat) 0 6) λv=>eC v λv l=>eI .i64 v λv=>eC l λl o=>eI .i64 l λl=>eC o λo w=>eI .i64 o λo=>eC w λw q=>eS 2 w λw g i=>eC q λq j=>eT q λq=>eC j λj t=>eBv j λj=>eN t (br (decide (l>y)) (Ak (Af lo 129 [Ap b m c,Iv 0,AC v l o w g i q j] s) λt e=>eA t λt=>eC t λt A=>eS 2 t λt B C=>eN A (Ak (Af lo 130 [Br x l t B C d k p a n u f] e) λt e=>eA t λt=>eC t λt A=>eI .i64 t λt=>eC A λA B=>eI .i64 A λA=>eC B λB C=>eS 2 B λB D E=>eC C λC G=>eS 6 C λC H J=>eC G λG K=>eS 1 G λG L M=>eC K λK N=>eBv K λK=>eN N (some ((Br t A B D E C H J G L M K),e)))) (Ak (Af lo 129 [Ap b m c,Iv 0,AC v l o w g i q j] s) λv l=>eA v λv=>eC v λv o=>eS 2 v λv s w=>eN o (Ak (Af lo 130 [Br x y v s w d k p a n u f] l) λv l=>eA v λv=>eC v λv o=>eI .i64 v λv=>eC o λo s=>eI .i64 o λo=>eC s λs w=>eS 2 s λs q g=>eC w λw i=>eS 6 w λw j t=>eC i λi e=>eS 1 i λi A B=>eC e λe C=>eBv e λe=>eN C (some ((Br v o s q g w j t i A B e),l)))))))))=some r) :
  Af lo 259 [Br x y b m c d k p a n u f,Iv z] h=some r :=
 eK Tryz.func259 hk
theorem SZ {M q:Int}{e:Pq} (hk:(br (x==y) (some (.tup [Br y z b m c d k p a n u f,.bool false],h)) (An x n (eO a λv=>eO (ld h v.1 (v.2+x.toNat) 0 1) λv=>eC v λv l=>eN l (eS 6 v λv v l=>br (t==(v:Int)) (br (decide (t>=60)) (some (.tup [Br y z b m c d k p a n u f,.bool false],h)) (An x n (eO a λv=>eO (ld h v.1 (v.2+x.toNat) 0 1) λv=>eC v λv l=>eN l (eS 6 v λv l o=>Ak (Af lo 208 [.sl 6 v l o,Ar w q] h) λv l=>eB v (some (.tup [Br y z b m c d k p a n u f,.bool false],l)) (An x n (eO a λv=>eO (ld l v.1 (v.2+x.toNat) 0 1) λv=>eC v λv o=>eN o (eS 6 v λv o g=>Ak (Af l.length 187 [AC M w q e i s S F] l) λl j=>eA l λl=>eC l λl A=>eI .i64 l λl=>eC A λA B=>eI .i64 A λA=>eC B λB C=>eI .i64 B λB=>eC C λC D=>eS 2 C λC E G=>eC D λD H=>eT D λD=>eC H λH J=>eBv H λH=>eN J (As 6 (j ++ [.rows 6 43 false [Dc l A B C E G D H]]) (.sl 6 (some (j.length,0)) 1 (some 1)) λJ=>Dv lo 43 6 72 (.sl 6 v o g) J (j ++ [.rows 6 43 false [Dc l A B C E G D H]]) λv l=>eS 6 v λv o g=>An x n (eO a λj=>eO (st lo l j.1 (j.2+x.toNat) 0 (Bc v o g)) λv=>some (.tup [Br y z b m c d k p a n u f,.bool true],v)))))))))) (some (.tup [Br y z b m c d k p a n u f,.bool false],h))))))=some r) :
  Af lo 260 [Br y z b m c d k p a n u f,Iv x,Iv t,AC M w q e i s S F] h=some r :=
 eK Tryz.func260 hk
def Iy lo a n c b m p x h:=
 LA 262 Tryz.f262 221311 0 111 lo ⟨[(0,.sl 6 a n c),(3,.sl 6 b m p),(4,Iv x)],[],h⟩
theorem Iy.e :
  Iy lo b n p a m c x h=br (decide (x<(n:Int))) (An x n (eO b λv=>eO (ld h v.1 (v.2+x.toNat) 0 6) λv=>eC v λv l=>eI .i64 v λv=>eC l λl o=>eI .i64 l λl=>eC o λo s=>eI .i64 o λo=>eC s λs y=>eS 2 s λs z u=>eC y λy w=>eT y λy=>eC w λw q=>eBv w λw=>eN q (Ak (Af lo 266 [AC v l o s z u y w] h) λv l=>eA v λv=>eC v λv o=>eI .i64 v λv=>eC o λo s=>eI .i64 o λo=>eC s λs y=>eI .i64 s λs=>eC y λy z=>eS 2 y λy u w=>eC z λz q=>eT z λz=>eC q λq g=>eBv q λq=>eN g (An x m (eO a λg=>eO (st lo l g.1 (g.2+x.toNat) 0 (Dc v o s y u w z q)) λv=>Iy lo b n p a m c (Al (x+1)) v))))) (some (.sl 6 a m c,h)) :=
 lE
def HD lo a n c b m p x h:=
 LA 263 Tryz.f263 221311 0 111 lo ⟨[(0,.sl 1 a n c),(3,.sl 1 b m p),(4,Iv x)],[],h⟩
theorem HD.e :
  HD lo b n p a m c x h=br (decide (x<(n:Int))) (An x n (eO b λv=>eO (ld h v.1 (v.2+x.toNat) 0 1) λv=>eC v λv l=>eN l (eS 6 v λv l o=>Ak (Af lo 262 (Bc v l o) h) λv l=>eS 6 v λv o s=>An x m (eO a λy=>eO (st lo l y.1 (y.2+x.toNat) 0 (Bc v o s)) λv=>HD lo b n p a m c (Al (x+1)) v)))) (some (.sl 1 a m c,h)) :=
 lE
def AY lo n m k x i a j c b g p h:=
 LA 267 Tryz.f267 221311 0 111 lo ⟨[(0,(Dt n m k)),(2,.lp 2 0),(3,.lp 3 0),(4,Iv x)],[(2,[.sl i a j c]),(3,(Bb b g p))],h⟩
theorem AY.e {lo m k i j g n:Nat}{x:Int}{b a:Pq}{p c:Nq}{h:Heap} :
  AY lo m k i x j b g p a n c h=br (decide (x>0)) (Ak (Af lo 44 [Dt m k i,Iv 6] h) λv l=>eI .i64 v λv=>br (v==0) (Ak (Af lo 125 [Ap a n c] l) λo s=>eB o (Ak (Af lo 195 [Dt m k i] s) λo y=>eA o λo=>eC o λo z=>eI .i64 o λo=>eC z λz u=>eI .i64 z λz=>eC u λu w=>eI .i64 u λu=>eC w λw q=>eS 2 w λw t d=>eC q λq e=>eT q λq=>eC e λe f=>eBv e λe=>eN f (Ak (Af lo 129 [Ap a n c,Iv 0,AC o z u w t d q e] y) λo y=>eA o λo=>eC o λo z=>eS 2 o λo u w=>eN z (AY lo m k i (Al (x - 1)) j b g p o u w y))) (AY lo m k i (Al (x - 1)) j b g p a n c s)) (br (v==1) (Ak (Af lo 125 [Ap a n c] l) λo s=>eB o (Ak (Af lo 195 [Dt m k i] s) λo y=>eA o λo=>eC o λo z=>eI .i64 o λo=>eC z λz u=>eI .i64 z λz=>eC u λu w=>eI .i64 u λu=>eC w λw q=>eS 2 w λw t d=>eC q λq e=>eT q λq=>eC e λe f=>eBv e λe=>eN f (Ak (Af lo 129 [Ap a n c,Iv 0,AC o z u w t d q e] y) λo y=>eA o λo=>eC o λo z=>eS 2 o λo u w=>eN z (AY lo m k i (Al (x - 1)) j b g p o u w y))) (AY lo m k i (Al (x - 1)) j b g p a n c s)) (br (v==2) (br (decide ((n:Int)>1)) (Ak (Af lo 44 [Dt m k i,Iv (n:Int)] l) λo s=>eI .i64 o λo=>Ak (Af lo 256 [Ap a n c,Iv o] s) λo s=>eA o λo=>eC o λo y=>eS 2 o λo z u=>eN y (AY lo m k i (Al (x - 1)) j b g p o z u s)) (AY lo m k i (Al (x - 1)) j b g p a n c l)) (br (v==3) (br (decide ((n:Int)<4)) (Ak (Af lo 257 [Ap a n c] l) λv o=>eA v λv=>eC v λv s=>eS 2 v λv y z=>eN s (AY lo m k i (Al (x - 1)) j b g p v y z o)) (AY lo m k i (Al (x - 1)) j b g p a n c l)) (Ak (Af lo 44 [Dt m k i,Iv 4] l) λv l=>eI .i64 v λv=>Ak (Af lo 253 [Ap a n c,Iv v] l) λl o=>eB l (Ak (Af lo 254 [Ap a n c,Iv v] o) λv l=>eA v λv=>eC v λv s=>eS 2 v λv y z=>eN s (AY lo m k i (Al (x - 1)) j b g p v y z l)) (AY lo m k i (Al (x - 1)) j b g p a n c o)))))) (Ak (Af lo 127 [Ap a n c] h) λv l=>eA v λv=>eC v λv o=>eS 2 v λv s y=>eN o (some ((Ap v s y),l))) :=
 lE
def AB lo a n c m l x y z h:=
 LA 270 Tryz.f270 22131 0 11 lo ⟨[(0,.sl 2 a n c),(1,.fn m l),(4,Iv x),(7,Iv y),(8,Iv z)],[],h⟩
theorem E8 (hk:(AB h.length a n c m l 0 (n:Int) 0 h)=some (v,h')) (hn:noId v=true:=by rfl) :
  Af lo 270 [.sl 2 a n c,.fn m l] h=some (v,h) :=
 eD Tryz.func270 hk hn
theorem AB.e :
  AB lo a n c m l z y x h=br (decide (x<y)) (An x n (eO a λv=>eO (ld h v.1 (v.2+x.toNat) 0 2) λv=>eC v λv o=>eS 6 v λv s b=>eC o λo u=>eS 6 o λo w p=>eN u (Ak (Af lo m (Ea [KS v s b o w p] l) h) λv o=>eB v (some (Iv x,o)) (AB lo a n c m l z y (Al (x+1)) o)))) (some (Iv (-1),h)) :=
 lE
def CM lo x y n a m c k b i p h:=
 LA 271 Tryz.f271 2213111 0 1111 lo ⟨[(0,Iv x),(2,.lp 2 0),(3,.lp 3 0),(4,Iv y)],[(2,[.sl n a m c]),(3,[.sl k b i p])],h⟩
theorem P6 (hk:(Ak (Af lo 54 (C1 x 1 4) h) λv l=>eB v (CM lo x 0 0 none 0 (some 0) 0 none 0 (some 0) l) (some (.agg [.sl 0 none 0 (some 0)],l)))=some r) :
  Af lo 271 (AN x) h=some r :=
 eK Tryz.func271 hk
theorem CM.e :
  CM lo x y k b i p n a m c h=br (decide (y<x)) (Ak (Af lo 296 [] h) λv l=>eA v λv=>eC v λv o=>eS 6 v λv s z=>eN o (As 2 (l ++ [.rows 2 47 false [[.sl 6 v s z,.sl 0 none 0 (some 0)]]]) (.sl 2 (some (l.length,0)) 1 (some 1)) λo=>Dv lo 47 2 48 (.sl n a m c) o (l ++ [.rows 2 47 false [[.sl 6 v s z,.sl 0 none 0 (some 0)]]]) λv l=>eS 2 v λv o s=>CM lo x (Al (y+1)) k b i p 2 v o s l)) (some (.agg [.sl n a m c],h)) :=
 lE
theorem Qk (hk:(some ((BS (some (h.length,0)) 4 (some 4)),(h ++ [.rows 6 43 false [[Iv 0,Iv 0,Iv 0,.sl 0 none 0 (some 0),.str ⟨⟨[]⟩⟩,.bool false],[Iv 0,Iv 0,Iv 0,.sl 0 none 0 (some 0),.str ⟨⟨[]⟩⟩,.bool false],[Iv 0,Iv 0,Iv 0,.sl 0 none 0 (some 0),.str ⟨⟨[]⟩⟩,.bool false],[Iv 0,Iv 0,Iv 0,.sl 0 none 0 (some 0),.str ⟨⟨[]⟩⟩,.bool false]]])))=some r) :
  Af lo 272 [] h=some r :=
 eK Tryz.func272 hk
theorem N2 (hk:(eO (ld h n m (k+3) 1) λl=>eC l λl c=>eN c (eS 5 l λl l c=>br (decide (Al ((l:Int)+x)<=80)) (Cn h) (AD h)))=some (v,h')) (hn:noId v=true:=by rfl) :
  Af lo 273 [Dt n m k,Iv x] h=some (v,h) :=
 eD Tryz.func273 hk hn
theorem JH (hk:(eO (ld h n m (k+3) 1) λv=>eC v λv l=>eN l (eS 5 v λv l c=>As 5 (h ++ [.rows 5 126 false [Wz x y z t w]]) (.sl 5 (some (h.length,0)) 1 (some 1)) λa=>Dv lo 126 5 40 (.sl 5 v l c) a (h ++ [.rows 5 126 false [Wz x y z t w]]) λv l=>eS 5 v λv c a=>eO (st lo l n m (k+3) [.sl 5 v c a]) λv=>some (.tup [],v)))=some r) :
  Af lo 274 [Dt n m k,Iv x,Iv y,Iv z,Ar t w] h=some r :=
 eK Tryz.func274 hk
theorem Gc (hk:(eO (ld h n m (k+0) 1) λv=>eC v λv l=>eN l (eS 2 v λv v l=>Ak (Af lo 63 (C1 y 0 (Al ((v:Int) - 1))) h) λv l=>eB v (Ak (Af lo 202 (AN x) l) λv c=>eB v (br (y==0) (eO (ld c n m (k+0) 1) λv=>eC v λv a=>eN a (eS 2 v λv v a=>eO (ld c n m (k+0) 1) λa=>eC a λa o=>eN o (eS 2 a λa o s=>An (if Al ((v:Int) - (1:Int))<1 then Al ((v:Int) - (1:Int)) else (1:Int)) o (eO a λa=>eO (ld c a.1 (a.2+((if Al ((v:Int) - (1:Int))<1 then Al ((v:Int) - (1:Int)) else (1:Int)).toNat)) 0 1) λv=>eC v λv a=>eN a (eS 6 v λv a o=>An x a (eO v λv=>eO (ld c v.1 (v.2+x.toNat) 0 6) λv=>eC v λv a=>eI .i64 v λv=>eC a λa o=>eI .i64 a λa=>eC o λo s=>eI .i64 o λo=>eC s λs b=>eS 2 s λs z u=>eC b λb w=>eT b λb=>eC w λw p=>eBv w λw=>eN p (Ak (Af lo 154 [AC v a o s z u b w] c) λv a=>eA v λv=>eC v λv o=>eI .i64 v λv=>eC o λo s=>eI .i64 o λo=>eC s λs b=>eI .i64 s λs=>eC b λb z=>eS 2 b λb u w=>eC z λz p=>eT z λz=>eC p λp q=>eBv p λp=>eN q (some (.tup [AC v o s b u w z p,.bool true],a))))))))) (eO (ld c n m (k+0) 1) λv=>eC v λv a=>eN a (eS 2 v λv a o=>An y a (eO v λv=>eO (ld c v.1 (v.2+y.toNat) 0 1) λv=>eC v λv a=>eN a (eS 6 v λv a o=>An x a (eO v λv=>eO (ld c v.1 (v.2+x.toNat) 0 6) λv=>eC v λv a=>eI .i64 v λv=>eC a λa o=>eI .i64 a λa=>eC o λo s=>eI .i64 o λo=>eC s λs b=>eS 2 s λs z u=>eC b λb w=>eT b λb=>eC w λw p=>eBv w λw=>eN p (Ak (Af lo 154 [AC v a o s z u b w] c) λv a=>eA v λv=>eC v λv o=>eI .i64 v λv=>eC o λo s=>eI .i64 o λo=>eC s λs b=>eI .i64 s λs=>eC b λb z=>eS 2 b λb u w=>eC z λz p=>eT z λz=>eC p λp q=>eBv p λp=>eN q (some (.tup [AC v o s b u w z p,.bool true],a))))))))) (some (.tup [.agg [Iv 0,Iv 0,Iv 0,.sl 0 none 0 (some 0),.str ⟨⟨[]⟩⟩,.bool false],.bool false],c))) (some (.tup [.agg [Iv 0,Iv 0,Iv 0,.sl 0 none 0 (some 0),.str ⟨⟨[]⟩⟩,.bool false],.bool false],l))))=some r) :
  Af lo 275 [Dt n m k,Iv y,Iv x] h=some r :=
 eK Tryz.func275 hk
theorem Pd (hk:(Ak (Af lo 153 [Ap a n c] h) λv l=>eA v λv=>eC v λv o=>eS 2 v λv s b=>eN o (An x s (eO v λo=>eO (ld l o.1 (o.2+x.toNat) 0 2) λo=>eC o λo u=>eI .i64 o λo=>eC u λu w=>eI .i64 u λu=>eN w (Ak (Af lo 297 [Ar o u,Ar y z] l) λl o=>eA l λl=>eC l λl u=>eI .i64 l λl=>eC u λu w=>eI .i64 u λu=>eN w (An x s (eO v λw=>eO (st lo o w.1 (w.2+x.toNat) 0 (Bg l u)) λl=>some ((Ap v s b),l)))))))=some r) :
  Af lo 276 [Ap a n c,Iv x,Ar y z] h=some r :=
 eK Tryz.func276 hk
def BV lo a n c x y m b k p d i u h:=
 LA 277 Tryz.f277 221311 0 111 lo ⟨[(4,.lp 4 0),(5,.lp 5 0),(11,.sl 2 a n c),(12,Iv x),(13,Iv y)],[(4,[.sl m b k p]),(5,(Bb d i u))],h⟩
theorem Km (hk:(Ak (Af lo 153 [Ap a m c] h) λv l=>eA v λv=>eC v λv o=>eS 2 v λv s x=>eN o (BV lo b n p (n:Int) 0 0 none 0 (some 0) v s x l))=some r) :
  Af lo 277 [Ap a m c,Ap b n p] h=some r :=
 eK Tryz.func277 hk
theorem BV.e :
  BV lo b m p y x k d i u a n c h=br (decide (x<y)) (An x m (eO b λv=>eO (ld h v.1 (v.2+x.toNat) 0 2) λv=>eC v λv l=>eI .i64 v λv=>eC l λl o=>eI .i64 l λl=>eN o (An x n (eO a λo=>eO (ld h o.1 (o.2+x.toNat) 0 2) λo=>eC o λo s=>eI .i64 o λo=>eC s λs z=>eI .i64 s λs=>eN z (Ak (Af lo 297 [Ar o s,Ar v l] h) λv l=>eA v λv=>eC v λv o=>eI .i64 v λv=>eC o λo s=>eI .i64 o λo=>eN s (An x n (eO a λs=>eO (st lo l s.1 (s.2+x.toNat) 0 (Bg v o)) λv=>BV lo b m p y (Al (x+1)) k d i u a n c v))))))) (some ((Ap a n c),h)) :=
 lE
theorem Ob (hk:(eO (ld h n m (k+0) 1) λv=>eC v λv l=>eN l (eS 2 v λv v l=>Ak (Af lo 63 (C1 x 0 (Al ((v:Int) - 2))) h) λv l=>eB v (eO (ld l n m (k+0) 1) λv=>eC v λv c=>eN c (eS 2 v λv c a=>An x c (eO v λv=>eO (ld l v.1 (v.2+x.toNat) 1 1) λv=>eC v λv c=>eN c (eS 6 v λv v c=>br ((v:Int)==0) (AD l) (Ak (Af lo 117 [Dt n m k,Iv (Al (x+1))] l) λv c=>eB v (AD c) (eO (ld c n m (k+0) 1) λv=>eC v λv a=>eN a (eS 2 v λv a o=>An x a (eO v λv=>eO (ld c v.1 (v.2+x.toNat) 1 1) λv=>eC v λv a=>eN a (eS 6 v λv a o=>An 0 a (eO v λv=>eO (ld c v.1 (v.2+0) 0 6) λv=>eC v λv a=>eI .i64 v λv=>eC a λa o=>eI .i64 a λa=>eC o λo s=>eI .i64 o λo=>eC s λs b=>eS 2 s λs y z=>eC b λb u=>eT b λb=>eC u λu w=>eBv u λu=>eN w (eO (ld c n m (k+0) 1) λw=>eC w λw p=>eN p (eS 2 w λw p q=>eO (ld c n m (k+0) 1) λq=>eC q λq g=>eN g (eS 2 q λq g i=>A8 (Gi (ld c n m (k+0) 1) (ld c n m (k+0) 1)) (An x g (eO q λq=>eO (ld c q.1 (q.2+x.toNat) 1 1) λq=>eC q λq g=>eN g (eS 6 q λq g i=>A8 (Gi (ld c n m (k+0) 1) (ld c n m (k+0) 1)) (Ak (Af lo 298 [.sl 6 q g i,Iv 0,Iv 1] c) λq g=>eS 6 q λq i j=>A8 (Gi (ld c n m (k+0) 1) (ld g n m (k+0) 1)) (Ak (Af lo 205 (Bc q i j) g) λc q=>eS 6 c λc i j=>A8 (Gi (ld g n m (k+0) 1) (ld q n m (k+0) 1)) (An x p (eO w λw=>eO (st lo q w.1 (w.2+x.toNat) 1 (Bc c i j)) λc=>Ak (Af lo 204 [Dt n m k,Iv (Al (x+1)),AC v a o s y z b u] c) λv c=>eU v λv=>eN v (Cn c))))))))))))))))))))) (AD l)))=some r) :
  Af lo 278 [Dt n m k,Iv x] h=some r :=
 eK Tryz.func278 hk
def Be lo n m k x i j g a G c y z h:=
 LA 279 Tryz.f279 22131111111 0 11111111 lo ⟨[(0,(Dt n m k)),(1,Iv x),(5,(Dt i j g)),(59,.sl 6 a G c),(60,Iv y),(61,Iv z)],[],h⟩
theorem Oe (hk:(eO (ld h n m (k+0) 1) λv=>eC v λv l=>eN l (eS 2 v λv v l=>Ak (Af lo 63 (C1 x 0 (Al ((v:Int) - 1))) h) λv l=>eB v (eO (ld l n m (k+0) 1) λv=>eC v λv c=>eN c (eS 2 v λv v c=>br ((v:Int)==1) (AD l) (eO (ld l n m (k+0) 1) λv=>eC v λv c=>eN c (eS 2 v λv c a=>Ak (Af lo 299 [.sl 2 v c a,Iv x,Iv (Al (x+1))] l) λv c=>eS 2 v λv a o=>Ak (Af lo 280 (Bb v a o) c) λv c=>eS 2 v λv a o=>eO (st lo c n m (k+0) (Bb v a o)) λv=>br (x==0) (Cn v) (eO (ld v n m (k+0) 1) λc=>eC c λc a=>eN a (eS 2 c λc a o=>An (Al (x - 1)) a (eO c λc=>eO (st lo v c.1 (c.2+((Al (x - (1:Int))).toNat)) 1 [.sl 0 none 0 (some 0)]) λv=>eO (ld v n m k 1) λa=>eC a λa o=>eS 2 a λa s b=>eN o (Ak (Af lo 135 [Ap a s b,Iv (Al (x - 1))] v) λv a=>eB v (Cn a) (eO (ld a c.1 (c.2+((Al (x - (1:Int))).toNat)) 0 1) λv=>eC v λv o=>eN o (eS 6 v λv o s=>Be lo n m k x c.1 (c.2+((Al (x - (1:Int))).toNat)) 0 v o s (o:Int) 0 a)))))))))) (AD l)))=some r) :
  Af lo 279 [Dt n m k,Iv x] h=some r :=
 eK Tryz.func279 hk
theorem Be.e {lo i j g n m k G:Nat}{y z x:Int}{a:Pq}{c:Nq}{h:Heap} :
  Be lo i j g y n m k a G c z x h=br (decide (x<z)) (An x G (eO a λv=>eO (ld h v.1 (v.2+x.toNat) 0 6) λv=>eC v λv l=>eI .i64 v λv=>eC l λl o=>eI .i64 l λl=>eC o λo s=>eI .i64 o λo=>eC s λs b=>eS 2 s λs u w=>eC b λb p=>eT b λb=>eC p λp q=>eBv p λp=>eN q (eO (ld h i j (g+0) 1) λq=>eC q λq t=>eN t (eS 2 q λq t d=>An y t (eO q λq=>eO (ld h q.1 (q.2+y.toNat) 0 1) λq=>eC q λq t=>eN t (eS 6 q λq t d=>An v t (eO q λq=>eO (ld h q.1 (q.2+v.toNat) 1 2) λq=>eC q λq t=>eI .i64 q λq=>eC t λt d=>eI .i64 t λt=>eN d (Ak (Af lo 15 [Ar q t,Ar l o] h) λq t=>eB q (eO (ld t n m (k+1) 1) λq=>eC q λq d=>eN d (eS 6 q λq d e=>Ak (Af t.length 154 [AC v l o s u w b p] t) λv l=>eA v λv=>eC v λv o=>eI .i64 v λv=>eC o λo s=>eI .i64 o λo=>eC s λs b=>eI .i64 s λs=>eC b λb u=>eS 2 b λb w p=>eC u λu f=>eT u λu=>eC f λf A=>eBv f λf=>eN A (As 6 (l ++ [.rows 6 43 false [Dc v o s b w p u f]]) (.sl 6 (some (l.length,0)) 1 (some 1)) λA=>Dv lo 43 6 72 (.sl 6 q d e) A (l ++ [.rows 6 43 false [Dc v o s b w p u f]]) λv l=>eS 6 v λv o s=>eO (st lo l n m (k+1) (Bc v o s)) λv=>Be lo i j g y n m k a G c z (Al (x+1)) v))) (Be lo i j g y n m k a G c z (Al (x+1)) t))))))))) (eO (ld h n m (k+1) 1) λv=>eC v λv l=>eN l (eS 6 v λv l o=>Ak (Af lo 300 [.sl 6 v l o,.fn 301 []] h) λv l=>eU v λv=>eN v (eO (ld l n m (k+1) 1) λv=>eC v λv o=>eN o (eS 6 v λv o s=>Ak (Af lo 205 (Bc v o s) l) λv l=>eS 6 v λv o s=>eO (st lo l n m (k+1) (Bc v o s)) λv=>some (.bool true,v))))) :=
 lE
theorem Gy (hk:(Aw a n c none (some (Iv (n:Int))) (some (Iv (n:Int))) λv l o=>some (.sl 2 v l o,h))=some r) :
  Af lo 280 (Bb a n c) h=some r :=
 eK Tryz.func280 hk
def BF lo a n c m l x y z h:=
 LA 281 Tryz.f281 22131 0 11 lo ⟨[(0,.sl 5 a n c),(1,.fn m l),(4,Iv x),(7,Iv y),(8,Iv z)],[],h⟩
theorem BF.e :
  BF lo a n c m l z y x h=br (decide (x<y)) (An x n (eO a λv=>eO (ld h v.1 (v.2+x.toNat) 0 5) λv=>eC v λv o=>eI .i64 v λv=>eC o λo s=>eI .i64 o λo=>eC s λs b=>eI .i64 s λs=>eC b λb u=>eI .i64 b λb=>eC u λu w=>eI .i64 u λu=>eN w (Ak (Af lo m (Ea [RE v o s b u] l) h) λv o=>eB v (some (Iv x,o)) (BF lo a n c m l z y (Al (x+1)) o)))) (some (Iv (-1),h)) :=
 lE
def C6 lo a n c b m p f x h:=
 LA 282 Tryz.f282 221311 0 111 lo ⟨[(0,.sl 2 a n c),(1,.sl 2 b m p),(4,.bool f),(5,Iv x)],[],h⟩
theorem Sm (hk:(br ((n:Int)==(m:Int)) (C6 h.length a n c b m p false 0 h) (AD h))=some (v,h')) (hn:noId v=true:=by rfl) :
  Af lo 282 [.sl 2 a n c,.sl 2 b m p] h=some (v,h) :=
 eD Tryz.func282 hk hn
theorem C6.e :
  C6 lo a n c b m p f x h=br (decide (x<(n:Int))) (An x n (eO a λv=>eO (ld h v.1 (v.2+x.toNat) 0 2) λv=>eC v λv l=>eS 6 v λv o s=>eC l λl y=>eS 6 l λl z u=>eN y (An x m (eO b λy=>eO (ld h y.1 (y.2+x.toNat) 0 2) λy=>eC y λy w=>eS 6 y λy q g=>eC w λw i=>eS 6 w λw j k=>eN i (Ak (Af lo 302 [KS v o s l z u,KS y q g w j k] h) λv l=>eB v (C6 lo a n c b m p f (Al (x+1)) l) (AD l)))))) (Cn h) :=
 lE
def Dr lo a n c b m p f x h:=
 LA 283 Tryz.f283 221311 0 111 lo ⟨[(0,.sl 2 a n c),(1,.sl 2 b m p),(4,.bool f),(5,Iv x)],[],h⟩
theorem Tc (hk:(br ((n:Int)==(m:Int)) (Dr h.length a n c b m p false 0 h) (AD h))=some (v,h')) (hn:noId v=true:=by rfl) :
  Af lo 283 [.sl 2 a n c,.sl 2 b m p] h=some (v,h) :=
 eD Tryz.func283 hk hn
theorem Dr.e :
  Dr lo a n c b m p f x h=br (decide (x<(n:Int))) (An x n (eO a λv=>eO (ld h v.1 (v.2+x.toNat) 0 2) λv=>eC v λv l=>eI .i64 v λv=>eC l λl o=>eI .i64 l λl=>eN o (An x m (eO b λo=>eO (ld h o.1 (o.2+x.toNat) 0 2) λo=>eC o λo s=>eI .i64 o λo=>eC s λs y=>eI .i64 s λs=>eN y (Ak (Af lo 241 [Ar v l,Ar o s] h) λv l=>eB v (Dr lo a n c b m p f (Al (x+1)) l) (AD l)))))) (Cn h) :=
 lE
def HJ lo a n c x y z h:=
 LA 284 Tryz.f284 2213111 0 1111 lo ⟨[(0,.sl 2 a n c),(1,Iv x),(4,Iv y),(5,Iv z)],[],h⟩
theorem HJ.e :
  HJ lo a n c y z x h=br (decide (x<(n:Int))) (An x n (eO a λv=>eO (ld h v.1 (v.2+x.toNat) 0 2) λv=>eC v λv l=>eS 6 v λv o s=>eC l λl b=>eS 6 l λl u w=>eN b (Ak (Af lo 303 [KS v o s l u w,Iv y] h) λv l=>eI .i64 v λv=>br (decide (v<0)) (some (Iv (-1),l)) (HJ lo a n c v z (Al (x+1)) l)))) (some (Iv y,h)) :=
 lE
theorem SU {e:Pq} (hk:(As 5 (h ++ [.rows 5 126 false [Wz x y z t w]]) (.sl 5 (some (h.length,0)) 1 (some 1)) λv=>Dv lo 126 5 40 (.sl 5 e i s) v (h ++ [.rows 5 126 false [Wz x y z t w]]) λv l=>eS 5 v λv o q=>some ((At a n c b m p d k u v o q),l))=some r) :
  Af lo 287 [At a n c b m p d k u e i s,Iv x,Iv y,Iv z,Ar t w] h=some r :=
 eK Tryz.func287 hk
theorem Sc (hk:(br (y==0) (br (decide ((n:Int)>1)) (An 1 n (eO a λv=>eO (ld h v.1 (v.2+1) 0 1) λv=>eC v λv l=>eN l (eS 6 v λv l o=>An x l (eO v λv=>eO (ld h v.1 (v.2+x.toNat) 0 6) λv=>eC v λv l=>eI .i64 v λv=>eC l λl o=>eI .i64 l λl=>eC o λo s=>eI .i64 o λo=>eC s λs b=>eS 2 s λs z u=>eC b λb w=>eT b λb=>eC w λw p=>eBv w λw=>eN p (Ak (Af lo 187 [AC v l o s z u b w] h) λv l=>eA v λv=>eC v λv o=>eI .i64 v λv=>eC o λo s=>eI .i64 o λo=>eC s λs b=>eI .i64 s λs=>eC b λb z=>eS 2 b λb u w=>eC z λz p=>eT z λz=>eC p λp q=>eBv p λp=>eN q (some ((AC v o s b u w z p),l))))))) (An y n (eO a λv=>eO (ld h v.1 (v.2+y.toNat) 0 1) λv=>eC v λv l=>eN l (eS 6 v λv l o=>An x l (eO v λv=>eO (ld h v.1 (v.2+x.toNat) 0 6) λv=>eC v λv l=>eI .i64 v λv=>eC l λl o=>eI .i64 l λl=>eC o λo s=>eI .i64 o λo=>eC s λs b=>eS 2 s λs z u=>eC b λb w=>eT b λb=>eC w λw p=>eBv w λw=>eN p (Ak (Af lo 187 [AC v l o s z u b w] h) λv l=>eA v λv=>eC v λv o=>eI .i64 v λv=>eC o λo s=>eI .i64 o λo=>eC s λs b=>eI .i64 s λs=>eC b λb z=>eS 2 b λb u w=>eC z λz p=>eT z λz=>eC p λp q=>eBv p λp=>eN q (some ((AC v o s b u w z p),l)))))))) (An y n (eO a λv=>eO (ld h v.1 (v.2+y.toNat) 0 1) λv=>eC v λv l=>eN l (eS 6 v λv l o=>An x l (eO v λv=>eO (ld h v.1 (v.2+x.toNat) 0 6) λv=>eC v λv l=>eI .i64 v λv=>eC l λl o=>eI .i64 l λl=>eC o λo s=>eI .i64 o λo=>eC s λs b=>eS 2 s λs z u=>eC b λb w=>eT b λb=>eC w λw p=>eBv w λw=>eN p (Ak (Af lo 187 [AC v l o s z u b w] h) λv l=>eA v λv=>eC v λv o=>eI .i64 v λv=>eC o λo s=>eI .i64 o λo=>eC s λs b=>eI .i64 s λs=>eC b λb z=>eS 2 b λb u w=>eC z λz p=>eT z λz=>eC p λp q=>eBv p λp=>eN q (some ((AC v o s b u w z p),l))))))))=some r) :
  Af lo 288 [Ap a n c,Iv y,Iv x] h=some r :=
 eK Tryz.func288 hk
theorem S7 (hk:(As 2 (h ++ [.rows 2 36 false []]) (.sl 2 a n c) λv=>Dv lo 36 2 16 (.sl 2 (some (h.length,0)) 0 (some 0)) v (h ++ [.rows 2 36 false []]) λv l=>eS 2 v λv o s=>An x o (eO v λb=>eO (ld l b.1 (b.2+x.toNat) 0 2) λb=>eC b λb u=>eI .i64 b λb=>eC u λu w=>eI .i64 u λu=>eN w (Ak (Af lo 307 [Ar b u,Ar y z] l) λl b=>eA l λl=>eC l λl u=>eI .i64 l λl=>eC u λu w=>eI .i64 u λu=>eN w (An x o (eO v λw=>eO (st lo b w.1 (w.2+x.toNat) 0 (Bg l u)) λl=>some ((Ap v o s),l))))))=some r) :
  Af lo 289 [Ap a n c,Iv x,Ar y z] h=some r :=
 eK Tryz.func289 hk
def Dp lo x a n c b m p k d i u j e g s h:=
 LA 290 Tryz.f290 221311 0 111 lo ⟨[(2,.lp 2 0),(3,.lp 3 0),(4,.lp 4 0),(5,.lp 5 0),(6,Iv x)],[(2,(Bb a n c)),(3,(Bb b m p)),(4,[.sl k d i u]),(5,[.sl j e g s])],h⟩
theorem Ta (hk:(Dp lo 0 a n c b m p 0 none 0 (some 0) 0 none 0 (some 0) h)=some r) :
  Af lo 290 [Ap a n c,Ap b m p] h=some r :=
 eK Tryz.func290 hk
theorem Dp.e {A:Pq} :
  Dp lo x a n p b m u j A g s k d i c h=br (decide (x<4)) (An x n (eO a λv=>eO (ld h v.1 (v.2+x.toNat) 0 2) λv=>eC v λv l=>eI .i64 v λv=>eC l λl o=>eI .i64 l λl=>eN o (An x m (eO b λo=>eO (ld h o.1 (o.2+x.toNat) 0 2) λo=>eC o λo y=>eI .i64 o λo=>eC y λy z=>eI .i64 y λy=>eN z (Ak (Af lo 307 [Ar v l,Ar o y] h) λv l=>eA v λv=>eC v λv o=>eI .i64 v λv=>eC o λo y=>eI .i64 o λo=>eN y (As 2 (l ++ [.rows 2 36 false [Bg v o]]) (.sl 2 (some (l.length,0)) 1 (some 1)) λy=>Dv lo 36 2 16 (.sl k d i c) y (l ++ [.rows 2 36 false [Bg v o]]) λv l=>eS 2 v λv o y=>Dp lo (Al (x+1)) a n p b m u j A g s 2 v o y l)))))) (some (.agg [.sl k d i c],h)) :=
 lE
def BY lo a n c x b m p d k u h:=
 LA 291 Tryz.f291 221311 0 111 lo ⟨[(2,.lp 2 0),(3,.lp 3 0),(5,.sl 6 a n c),(6,Iv x)],[(2,(Bc b m p)),(3,(Bc d k u))],h⟩
def Dn lo a n c x y b m p d k u h:=
 Lp (X 291) lo (pf 22311231221311 Tryz.f291) 2 (AW 2 (kS (X 291) lo (pf 111231221311 Tryz.f291) 1 (AW 1 (kS (X 291) lo (pf 11221311 Tryz.f291) 0 (WL (X 291) lo (pf 221311 Tryz.f291) 0 (AW 0 (kS (X 291) lo (pf 111 Tryz.f291) 0 (J7 (X 291) Tryz.f291.results.toList)))))))) ⟨[(2,.lp 2 0),(3,.lp 3 0),(5,.sl 6 a n c),(6,Iv x),(7,Iv y)],[(2,(Bc b m p)),(3,(Bc d k u))],h⟩
theorem S2 (hk:(BY lo (some (h.length,0)) 0 (some 0) 0 a n c b m p (h ++ [.rows 6 43 false []]))=some r) :
  Af lo 291 [BS a n c,BS b m p] h=some r :=
 eK Tryz.func291 hk
theorem BY.e :
  BY lo a n c x b m p d k u h=br (decide (x<4)) (An x k (eO d λv=>eO (ld h v.1 (v.2+x.toNat) 1 2) λv=>eC v λv l=>eI .i64 v λv=>eC l λl o=>eI .i64 l λl=>eN o (An x m (eO b λo=>eO (ld h o.1 (o.2+x.toNat) 1 2) λo=>eC o λo s=>eI .i64 o λo=>eC s λs y=>eI .i64 s λs=>eN y (Ak (Af lo 197 [Ar v l,Ar o s] h) λv l=>eB v (Dn lo a n c x 0 b m p d k u l) (BY lo a n c (Al (x+1)) b m p d k u l)))))) (some (.sl 6 a n c,h)) :=
 lE
theorem Dn.e {lo n m k:Nat}{a b d:Pq}{c p u:Nq}{x y:Int}{h:Heap} :
  Dn lo a n c x y b m p d k u h=br (decide (y<(n:Int))) (An y n (eO a λv=>eO (ld h v.1 (v.2+y.toNat) 1 2) λv=>eC v λv l=>eI .i64 v λv=>eC l λl o=>eI .i64 l λl=>eN o (An x m (eO b λo=>eO (ld h o.1 (o.2+x.toNat) 1 2) λo=>eC o λo s=>eI .i64 o λo=>eC s λs z=>eI .i64 s λs=>eN z (Ak (Af lo 197 [Ar v l,Ar o s] h) λv l=>eB v (Dn lo a n c x (Al (y+1)) b m p d k u l) (Aw a n c none (some (Iv y)) none λv o s=>As 6 (l ++ [.rows 6 43 false []]) (.sl 6 v o s) λv=>Dv lo 43 6 72 (.sl 6 (some (l.length,0)) 0 (some 0)) v (l ++ [.rows 6 43 false []]) λv l=>eS 6 v λv o s=>An x m (eO b λz=>eO (ld l z.1 (z.2+x.toNat) 0 6) λz=>eC z λz w=>eI .i64 z λz=>eC w λw q=>eI .i64 w λw=>eC q λq g=>eI .i64 q λq=>eC g λg i=>eS 2 g λg j t=>eC i λi e=>eT i λi=>eC e λe f=>eBv e λe=>eN f (Ak (Af lo 187 [AC z w q g j t i e] l) λl z=>eA l λl=>eC l λl w=>eI .i64 l λl=>eC w λw q=>eI .i64 w λw=>eC q λq g=>eI .i64 q λq=>eC g λg i=>eS 2 g λg j t=>eC i λi e=>eT i λi=>eC e λe f=>eBv e λe=>eN f (As 6 (z ++ [.rows 6 43 false [Dc l w q g j t i e]]) (.sl 6 (some (z.length,0)) 1 (some 1)) λf=>Dv lo 43 6 72 (.sl 6 v o s) f (z ++ [.rows 6 43 false [Dc l w q g j t i e]]) λv l=>eS 6 v λv o s=>Aw a n c (some (Iv y)) none none λz w q=>As 6 l (.sl 6 z w q) λz=>Dv lo 43 6 72 (.sl 6 v o s) z l λv l=>eS 6 v λv o s=>BY lo v o s (Al (x+1)) b m p d k u l))))))))) (Aw a n c none (some (Iv y)) none λv l o=>As 6 (h ++ [.rows 6 43 false []]) (.sl 6 v l o) λv=>Dv lo 43 6 72 (.sl 6 (some (h.length,0)) 0 (some 0)) v (h ++ [.rows 6 43 false []]) λv l=>eS 6 v λv o s=>An x m (eO b λz=>eO (ld l z.1 (z.2+x.toNat) 0 6) λz=>eC z λz w=>eI .i64 z λz=>eC w λw q=>eI .i64 w λw=>eC q λq g=>eI .i64 q λq=>eC g λg i=>eS 2 g λg j t=>eC i λi e=>eT i λi=>eC e λe f=>eBv e λe=>eN f (Ak (Af lo 187 [AC z w q g j t i e] l) λl z=>eA l λl=>eC l λl w=>eI .i64 l λl=>eC w λw q=>eI .i64 w λw=>eC q λq g=>eI .i64 q λq=>eC g λg i=>eS 2 g λg j t=>eC i λi e=>eT i λi=>eC e λe f=>eBv e λe=>eN f (As 6 (z ++ [.rows 6 43 false [Dc l w q g j t i e]]) (.sl 6 (some (z.length,0)) 1 (some 1)) λf=>Dv lo 43 6 72 (.sl 6 v o s) f (z ++ [.rows 6 43 false [Dc l w q g j t i e]]) λv l=>eS 6 v λv o s=>Aw a n c (some (Iv y)) none none λz w q=>As 6 l (.sl 6 z w q) λz=>Dv lo 43 6 72 (.sl 6 v o s) z l λv l=>eS 6 v λv o s=>BY lo v o s (Al (x+1)) b m p d k u l)))) :=
 lE
def C2 lo x y z t w a n c b m p d k u f e i s h:=
 LA 292 Tryz.f292 221311 0 111 lo ⟨[(1,Iv x),(2,.lp 2 0),(4,Iv y),(5,.lp 5 0),(6,Iv z)],[(2,(Du t w a n c b m p d k u f)),(5,(Bc e i s))],h⟩
theorem Sb (hk:(An 0 n (eO a λl=>eO (ld h l.1 (l.2+0) 0 1) λl=>eC l λl o=>eS 6 l λl s w=>eN o (C2 h.length z 0 0 x y a n c b m p d k u f l s w h)))=some (v,h')) (hn:noId v=true:=by rfl) :
  Af lo 292 [Br x y a n c b m p d k u f,Iv z] h=some (v,h) :=
 eD Tryz.func292 hk hn
theorem C2.e {A:Pq} :
  C2 lo x z y t w d k c A i p a n u f b m s h=An x n (eO a λv=>eO (ld h v.1 (v.2+x.toNat) 0 1) λv=>eC v λv l=>eN l (eS 6 v λv v l=>br (decide (y<(v:Int))) (An x n (eO a λv=>eO (ld h v.1 (v.2+x.toNat) 0 1) λv=>eC v λv l=>eN l (eS 6 v λv l o=>An y l (eO v λv=>eO (ld h v.1 (v.2+y.toNat) 0 6) λv=>eC v λv l=>eI .i64 v λv=>eC l λl o=>eI .i64 l λl=>eC o λo q=>eI .i64 o λo=>eC q λq g=>eS 2 q λq q q=>eC g λq g=>eT q λq=>eC g λq g=>eBv q λq=>eN g (An v m (eO b λq=>eO (ld h q.1 (q.2+v.toNat) 1 2) λv=>eC v λv q=>eI .i64 v λv=>eC q λq g=>eI .i64 q λq=>eN g (Ak (Af lo 197 [Ar v q,Ar l o] h) λv l=>eB v (some (Iv y,l)) (C2 lo x z (Al (y+1)) t w d k c A i p a n u f b m s l)))))))) (some (Iv (-1),h)))) :=
 lE
def HF lo a n c b m p x h:=
 LA 293 Tryz.f293 221311 0 111 lo ⟨[(0,.sl 2 a n c),(3,.sl 2 b m p),(4,Iv x)],[],h⟩
theorem HF.e :
  HF lo b n p a m c x h=br (decide (x<(n:Int))) (An x n (eO b λv=>eO (ld h v.1 (v.2+x.toNat) 0 2) λv=>eC v λv l=>eS 6 v λv o s=>eC l λl y=>eS 6 l λl z u=>eN y (Ak (Af lo 308 [KS v o s l z u] h) λv l=>eA v λv=>eC v λv o=>eS 6 v λv s y=>eC o λo z=>eS 6 o λo u w=>eN z (An x m (eO a λz=>eO (st lo l z.1 (z.2+x.toNat) 0 (Ij v s y o u w)) λv=>HF lo b n p a m c (Al (x+1)) v))))) (some (.sl 2 a m c,h)) :=
 lE
def Iz lo a n c b m p x h:=
 LA 294 Tryz.f294 221311 0 111 lo ⟨[(0,.sl 2 a n c),(3,.sl 2 b m p),(4,Iv x)],[],h⟩
theorem Iz.e :
  Iz lo b n p a m c x h=br (decide (x<(n:Int))) (An x n (eO b λv=>eO (ld h v.1 (v.2+x.toNat) 0 2) λv=>eC v λv l=>eI .i64 v λv=>eC l λl o=>eI .i64 l λl=>eN o (Ak (Af lo 265 [Ar v l] h) λv l=>eA v λv=>eC v λv o=>eI .i64 v λv=>eC o λo s=>eI .i64 o λo=>eN s (An x m (eO a λs=>eO (st lo l s.1 (s.2+x.toNat) 0 (Bg v o)) λv=>Iz lo b n p a m c (Al (x+1)) v))))) (some (.sl 2 a m c,h)) :=
 lE
def GU lo n m k x i a j c b g p h:=
 LA 295 Tryz.f295 221311 0 111 lo ⟨[(0,(Dt n m k)),(2,.lp 2 0),(3,.lp 3 0),(4,Iv x)],[(2,[.sl i a j c]),(3,(Bc b g p))],h⟩
theorem GU.e :
  GU lo n m k x j b g p a i c h=br (decide (x>0)) (Ak (Af lo 195 [Dt n m k] h) λv l=>eA v λv=>eC v λv o=>eI .i64 v λv=>eC o λo s=>eI .i64 o λo=>eC s λs y=>eI .i64 s λs=>eC y λy z=>eS 2 y λy u w=>eC z λz q=>eT z λz=>eC q λq t=>eBv q λq=>eN t (Ak (Af lo 198 [BS a i c,AC v o s y u w z q] l) λv l=>eA v λv=>eC v λv o=>eS 6 v λv s y=>eN o (GU lo n m k (Al (x - 1)) j b g p v s y l))) (some ((BS a i c),h)) :=
 lE
theorem Vi (hk:(some ((BS (some (h.length,0)) 4 (some 4)),(h ++ [.rows 6 43 false [[Iv 0,Iv 0,Iv 0,.sl 0 none 0 (some 0),.str ⟨⟨[]⟩⟩,.bool false],[Iv 0,Iv 0,Iv 0,.sl 0 none 0 (some 0),.str ⟨⟨[]⟩⟩,.bool false],[Iv 0,Iv 0,Iv 0,.sl 0 none 0 (some 0),.str ⟨⟨[]⟩⟩,.bool false],[Iv 0,Iv 0,Iv 0,.sl 0 none 0 (some 0),.str ⟨⟨[]⟩⟩,.bool false]]])))=some r) :
  Af lo 296 [] h=some r :=
 eK Tryz.func296 hk
theorem Tk (hk:(Ak (Af h.length 15 [Ar x y,Ar z t] h) λl c=>eB l (some ((Ar z t),c)) (some ((Ar x y),c)))=some (v,h')) (hn:noId v=true:=by rfl) :
  Af lo 297 [Ar x y,Ar z t] h=some (v,h) :=
 eD Tryz.func297 hk hn
theorem Gw (hk:(Aw a (EP h a n c) c (some (Iv x)) (some (Iv y)) (some (Iv (n:Int))) λv v v=>br (x==y) (some (.sl 6 a n c,h)) (Aw a n c none (some (Iv x)) none λv l o=>Aw a n c (some (Iv y)) none none λs b z=>As 6 h (.sl 6 s b z) λs=>Dv lo 43 6 72 (.sl 6 v l o) s h λv l=>eS 6 v λv o s=>Aw v (EP l v o s) s (some (Iv (o:Int))) (some (Iv (n:Int))) none λb z u=>ZO lo 6 6 true [Iv 0,Iv 0,Iv 0,.sl 0 none 0 (some 0),.str ⟨⟨[]⟩⟩,.bool false] l b z λl=>some (.sl 6 v o s,l)))=some r) :
  Af lo 298 [.sl 6 a n c,Iv x,Iv y] h=some r :=
 eK Tryz.func298 hk
theorem FL (hk:(Aw a (EP h a n c) c (some (Iv x)) (some (Iv y)) (some (Iv (n:Int))) λv v v=>br (x==y) (some (.sl 2 a n c,h)) (Aw a n c none (some (Iv x)) none λv l o=>Aw a n c (some (Iv y)) none none λs b z=>As 2 h (.sl 2 s b z) λs=>Dv lo 47 2 48 (.sl 2 v l o) s h λv l=>eS 2 v λv o s=>Aw v (EP l v o s) s (some (Iv (o:Int))) (some (Iv (n:Int))) none λb z u=>ZO lo 2 2 true [.sl 0 none 0 (some 0),.sl 0 none 0 (some 0)] l b z λl=>some (.sl 2 v o s,l)))=some r) :
  Af lo 299 [.sl 2 a n c,Iv x,Iv y] h=some r :=
 eK Tryz.func299 hk
theorem FK (hk:(Ak (Af lo 310 [.int .u64 (IntKind.wrap .u64 (n:Int))] h) λv o=>eI .i64 v λv=>Ak (Af lo 309 [.sl 6 a n c,Iv 0,Iv (n:Int),Iv v,.fn m l] o) λv o=>eU v λv=>eN v (some (.tup [],o)))=some r) :
  Af lo 300 [.sl 6 a n c,.fn m l] h=some r :=
 eK Tryz.func300 hk
theorem Mb {q:Int} (hk:(Ak (Af h.length 70 [Ar y z,Ar w q] h) λl o=>eI .i64 l λl=>Ak (Af h.length 141 (Bg t x) o) λo s=>eI .i64 o λo=>Ak (Af h.length 140 [.sl 1 (some (s.length,0)) 2 (some 2)] (s ++ [.rows 1 3 false [AN l,AN o]])) λl o=>eI .i64 l λl=>some (Iv l,o))=some (v,h')) (hn:noId v=true:=by rfl) :
  Af lo 301 [AC x y z a n c S f,AC t w q b m p s0 F] h=some (v,h) :=
 eD Tryz.func301 hk hn
theorem Tf {e:Pq} (hk:(Ak (Af h.length 311 [BS a n c,BS d k u] h) λl o=>eB l (Ak (Af h.length 238 (Ij b m p e i s) o) λl x=>eB l (Cn x) (AD x)) (AD o))=some (v,h')) (hn:noId v=true:=by rfl) :
  Af lo 302 [KS a n c b m p,KS d k u e i s] h=some (v,h) :=
 eD Tryz.func302 hk hn
def Ix lo S x a n c h:=
 LA 306 Tryz.f306 221311 0 111 lo ⟨[(1,.lp 1 0),(3,.str S),(4,Iv x)],[(1,(Bb a n c))],h⟩
theorem Ix.e :
  Ix lo S x a n c h=br (decide (x<(n:Int))) (zcf S ⟨⟨[32]⟩⟩ λv=>An x n (eO a λl=>eO (ld h l.1 (l.2+x.toNat) 0 2) λl=>eC l λl o=>eI .i64 l λl=>eC o λo s=>eI .i64 o λo=>eN s (Ak (Af lo 305 [Ar l o] h) λl o=>eT l λl=>zcf v l λv=>Ix lo v (Al (x+1)) a n c o))) (some (.str S,h)) :=
 lE
theorem Vk (hk:(Ak (Af h.length 197 [Ar x y,Ar z t] h) λl c=>eB l (some ((Ar z t),c)) (some ((Ar x y),c)))=some (v,h')) (hn:noId v=true:=by rfl) :
  Af lo 307 [Ar x y,Ar z t] h=some (v,h) :=
 eD Tryz.func307 hk hn
end
noncomputable section

variable {lo n m:Nat}{a:Pq}{c:Nq}{x:Int}{l:List V}{h:Heap}{r:V×Heap}
def A6 lo a n c x m l h:=
 Lp (X 309) lo (pf 2211 Tryz.f309) 0 (AW 0 (J7 (X 309) Tryz.f309.results.toList)) ⟨[(0,.sl 6 a n c),(1,Iv 0),(2,Iv 0),(3,Iv x),(4,.fn m l),(10,.bool true),(11,.bool true)],[],h⟩
theorem FC (hk:(A6 lo a n c x m l h)=some r) :
  Af lo 309 [.sl 6 a n c,Iv 0,Iv 0,Iv x,.fn m l] h=some r :=
 eK Tryz.func309 hk
theorem A6.e :
  A6 lo a n c x m l h=Ak (Af lo 314 [.sl 6 a n c,Iv 0,Iv 0,.fn m l] h) λv o=>eU v λv=>eN v (some (.tup [],o)) :=
 lE
def A5 lo a n c x m l h:=
 Lp (X 309) lo (pf 2211 Tryz.f309) 0 (AW 0 (J7 (X 309) Tryz.f309.results.toList)) ⟨[(0,.sl 6 a n c),(1,Iv 0),(2,Iv 1),(3,Iv x),(4,.fn m l),(10,.bool true),(11,.bool true)],[],h⟩
theorem FB (hk:(A5 lo a n c x m l h)=some r) :
  Af lo 309 [.sl 6 a n c,Iv 0,Iv 1,Iv x,.fn m l] h=some r :=
 eK Tryz.func309 hk
theorem A5.e :
  A5 lo a n c x m l h=Ak (Af lo 314 [.sl 6 a n c,Iv 0,Iv 1,.fn m l] h) λv o=>eU v λv=>eN v (some (.tup [],o)) :=
 lE
def A4 lo a n c x m l h:=
 Lp (X 309) lo (pf 2211 Tryz.f309) 0 (AW 0 (J7 (X 309) Tryz.f309.results.toList)) ⟨[(0,.sl 6 a n c),(1,Iv 0),(2,Iv 2),(3,Iv x),(4,.fn m l),(10,.bool true),(11,.bool true)],[],h⟩
theorem FA (hk:(A4 lo a n c x m l h)=some r) :
  Af lo 309 [.sl 6 a n c,Iv 0,Iv 2,Iv x,.fn m l] h=some r :=
 eK Tryz.func309 hk
theorem A4.e :
  A4 lo a n c x m l h=Ak (Af lo 314 [.sl 6 a n c,Iv 0,Iv 2,.fn m l] h) λv o=>eU v λv=>eN v (some (.tup [],o)) :=
 lE
def A3 lo a n c x m l h:=
 Lp (X 309) lo (pf 2211 Tryz.f309) 0 (AW 0 (J7 (X 309) Tryz.f309.results.toList)) ⟨[(0,.sl 6 a n c),(1,Iv 0),(2,Iv 3),(3,Iv x),(4,.fn m l),(10,.bool true),(11,.bool true)],[],h⟩
theorem Fz (hk:(A3 lo a n c x m l h)=some r) :
  Af lo 309 [.sl 6 a n c,Iv 0,Iv 3,Iv x,.fn m l] h=some r :=
 eK Tryz.func309 hk
theorem A3.e :
  A3 lo a n c x m l h=Ak (Af lo 314 [.sl 6 a n c,Iv 0,Iv 3,.fn m l] h) λv o=>eU v λv=>eN v (some (.tup [],o)) :=
 lE
def A2 lo a n c x m l h:=
 Lp (X 309) lo (pf 2211 Tryz.f309) 0 (AW 0 (J7 (X 309) Tryz.f309.results.toList)) ⟨[(0,.sl 6 a n c),(1,Iv 0),(2,Iv 4),(3,Iv x),(4,.fn m l),(10,.bool true),(11,.bool true)],[],h⟩
theorem Fy (hk:(A2 lo a n c x m l h)=some r) :
  Af lo 309 [.sl 6 a n c,Iv 0,Iv 4,Iv x,.fn m l] h=some r :=
 eK Tryz.func309 hk
theorem A2.e :
  A2 lo a n c x m l h=Ak (Af lo 314 [.sl 6 a n c,Iv 0,Iv 4,.fn m l] h) λv o=>eU v λv=>eN v (some (.tup [],o)) :=
 lE
theorem P7 {h':Heap}{v:V} (hk:(Ak (Af h.length 323 [.int .u64 x] h) λl c=>eI .i64 l λl=>some (Iv l,c))=some (v,h')) (hn:noId v=true:=by rfl) :
  Af lo 310 [.int .u64 x] h=some (v,h) :=
 eD Tryz.func310 hk hn
theorem Si {b:Pq}{p:Nq}{h':Heap}{v:V} (hk:(Ak (Af h.length 238 (Ij a n c b m p) h) λl o=>eB l (Cn o) (AD o))=some (v,h')) (hn:noId v=true:=by rfl) :
  Af lo 311 [BS a n c,BS b m p] h=some (v,h) :=
 eD Tryz.func311 hk hn
def Ao lo a n c x y m l z h:=
 Lp (X 314) lo (pf 221 Tryz.f314) 0 (AW 0 (J7 (X 314) Tryz.f314.results.toList)) ⟨[(0,.sl 6 a n c),(1,Iv x),(2,Iv y),(3,.fn m l),(8,Iv z)],[],h⟩
def AA lo a n c x y m l z t h:=
 Lp (X 314) lo (pf 221231221 Tryz.f314) 2 (AW 2 (AW 1 (kS (X 314) lo (pf 11221 Tryz.f314) 0 (WL (X 314) lo (pf 221 Tryz.f314) 0 (AW 0 (J7 (X 314) Tryz.f314.results.toList)))))) ⟨[(0,.sl 6 a n c),(1,Iv x),(2,Iv y),(3,.fn m l),(8,Iv z),(9,Iv t)],[],h⟩
theorem E7 {y:Int} (hk:(Ao lo a n c x y m l (Al (x+1)) h)=some r) :
  Af lo 314 [.sl 6 a n c,Iv x,Iv y,.fn m l] h=some r :=
 eK Tryz.func314 hk
theorem Ao.e {z y:Int} :
  Ao lo a n c z y m l x h=br (decide (x<y)) (AA lo a n c z y m l x x h) (some (.tup [],h)) :=
 lE
theorem AA.e {lo n m:Nat}{a:Pq}{c:Nq}{y z t x:Int}{l:List V}{h:Heap} :
  AA lo a n c y z m l t x h=br (decide (x>y)) (An x n (eO a λv=>eO (ld h v.1 (v.2+x.toNat) 0 6) λv=>eC v λv o=>eI .i64 v λv=>eC o λo s=>eI .i64 o λo=>eC s λs b=>eI .i64 s λs=>eC b λb u=>eS 2 b λb w p=>eC u λu q=>eT u λu=>eC q λq g=>eBv q λq=>eN g (An (Al (x - 1)) n (eO a λg=>eO (ld h g.1 (g.2+((Al (x - (1:Int))).toNat)) 0 6) λg=>eC g λg i=>eI .i64 g λg=>eC i λi j=>eI .i64 i λi=>eC j λj k=>eI .i64 j λj=>eC k λk d=>eS 2 k λk e f=>eC d λd A=>eT d λd=>eC A λA B=>eBv A λA=>eN B (Ak (Af lo m (Ea [AC v o s b w p u q,AC g i j k e f d A] l) h) λv o=>eI .i64 v λv=>br (decide (v<0)) (An (Al (x - 1)) n (eO a λv=>eO (ld o v.1 (v.2+((Al (x - (1:Int))).toNat)) 0 6) λv=>eC v λv s=>eI .i64 v λv=>eC s λs b=>eI .i64 s λs=>eC b λb u=>eI .i64 b λb=>eC u λu w=>eS 2 u λu p q=>eC w λw g=>eT w λw=>eC g λg i=>eBv g λg=>eN i (An x n (eO a λi=>eO (ld o i.1 (i.2+x.toNat) 0 6) λi=>eC i λi j=>eI .i64 i λi=>eC j λj k=>eI .i64 j λj=>eC k λk d=>eI .i64 k λk=>eC d λd e=>eS 2 d λd f A=>eC e λe B=>eT e λe=>eC B λB C=>eBv B λB=>eN C (An x n (eO a λC=>eO (st lo o C.1 (C.2+x.toNat) 0 (Dc v s b u p q w g)) λv=>An (Al (x - 1)) n (eO a λs=>eO (st lo v s.1 (s.2+((Al (x - (1:Int))).toNat)) 0 (Dc i j k d f A e B)) λv=>AA lo a n c y z m l t (Al (x - 1)) v))))))) (Ao lo a n c y z m l (Al (t+1)) o)))))) (Ao lo a n c y z m l (Al (t+1)) h) :=
 lE
theorem NW {h':Heap}{v:V} (hk:(br (decide (x>=4294967296)) none (br (decide (x>=65536)) none (br (decide (x>=256)) none (eO (Pk ⟨⟨[0,1,2,2,3,3,3,3,4,4,4,4,4,4,4,4,5,5,5,5,5,5,5,5,5,5,5,5,5,5,5,5,6,6,6,6,6,6,6,6,6,6,6,6,6,6,6,6,6,6,6,6,6,6,6,6,6,6,6,6,6,6,6,6,7,7,7,7,7,7,7,7,7,7,7,7,7,7,7,7,7,7,7,7,7,7,7,7,7,7,7,7,7,7,7,7,7,7,7,7,7,7,7,7,7,7,7,7,7,7,7,7,7,7,7,7,7,7,7,7,7,7,7,7,7,7,7,7,8,8,8,8,8,8,8,8,8,8,8,8,8,8,8,8,8,8,8,8,8,8,8,8,8,8,8,8,8,8,8,8,8,8,8,8,8,8,8,8,8,8,8,8,8,8,8,8,8,8,8,8,8,8,8,8,8,8,8,8,8,8,8,8,8,8,8,8,8,8,8,8,8,8,8,8,8,8,8,8,8,8,8,8,8,8,8,8,8,8,8,8,8,8,8,8,8,8,8,8,8,8,8,8,8,8,8,8,8,8,8,8,8,8,8,8,8,8,8,8,8,8,8,8,8,8,8,8]⟩⟩ (IntKind.wrap .u8 x)) λl=>some (Iv (Al (0+(Al ((l.toNat:Int))))),h)))))=some (v,h')) (hn:noId v=true:=by rfl) :
  Af lo 323 [.int .u64 x] h=some (v,h) :=
 eD Tryz.func323 hk hn
end


structure Tag where
 time:Int
 place:Int
 deriving DecidableEq
def Tag.cs (t:Tag):List V := [Iv t.time,Iv t.place]
def Ah (n a b:Int):Bool:=decide (a<=n)&&decide (n<=b)
def CY (t:Int) (p:Int):Bool:=(t==0&&p==0) || (Ah t 1 999&&Ah p 0 2)
def Hb (t p t' p':Int):Bool:=decide (t<t') || (t==t'&&decide (p<p'))
section
variable {lo:Nat}{h:Heap}{a b c d e:Int}
theorem Bk:Af lo 63 [Iv a,Iv b,Iv c] h=some (.bool (Ah a b c),h) :=
 Th (h':=h) (by simp[Ah])
theorem B0:Af lo 54 [Iv a,Iv b,Iv c] h=some (.bool (Ah a b c),h) :=
 WK (h':=h) (by simp[Ah])
theorem Ev:Af lo 62 [Iv a] h=some (.bool (Ah a 0 2),h):=Sr (h':=h) (by simp[Bk])
theorem KE:Af lo 202 [Iv a] h=some (.bool (Ah a 0 3),h):=Vn (h':=h) (by simp[Bk])
theorem RB:Af lo 144 [.agg [Iv a,Iv b]] h=some (.bool (CY a b),h) :=
 Vq (h':=h) (by simp[Bk,Ev,CY])
theorem Ce:Af lo 197 [.agg [Iv a,Iv b],.agg [Iv c,Iv d]] h=some (.bool (Hb a b c d),h) :=
 S9 (h':=h) (by simp[Hb])
theorem QG {t p:Int} (h:CY t p=true):(!(t==0&&p==0))=decide (t>0):=by rw[Bool.eq_iff_iff];simp[CY,Ah] at h ⊢;omega
def CG {α:Type} (p:α->Bool):List α->Nat->Int
 | [],_ => -1
 | x :: r,k=>bif p x then (k:Int) else CG p r (k+1)
theorem JB {α:Type}{p:α->Bool}:∀ {l:List α}{k:Nat},decide (CG p l k>=0)=l.any p
 | [],k=>by simp[CG]
 | x :: r,k=>by
  simp only[CG,List.any_cons];by_cases h:p x=true
  ·simp[h]
  ·simpa [h] using JB (p:=p) (l:=r) (k:=k+1)
def Hx (a b:Int):Int:=if a<b then -1 else if b<a then 1 else 0
theorem ZI:Af lo 213 [Iv a] h=some (.bool false,h):=Qo (h':=h) (by simp)
theorem PS:Af lo 141 [Iv a,Iv b] h=some (Iv (Hx a b),h) :=
 Of (h':=h) (by
  simp only[ZI,Ad,Ax,Az];unfold Hx;by_cases h1:a<b
  ·rw[Am h1,if_pos h1]
  ·rw[Aj h1,if_neg h1];by_cases h2:b<a
   ·rw[Am h2,if_pos h2]
   ·rw[Aj h2,if_neg h2])
theorem RW:Af lo 140 [.sl 1 (some (h.length,0)) 2 (some 2)] (h ++ [.rows 1 3 false [[Iv a],[Iv b]]])=some (Iv (if a=0 then b else a),h ++ [.rows 1 3 false [[Iv a],[Iv b]]]) :=
 Vr (h':=h ++ [.rows 1 3 false [[Iv a],[Iv b]]]) (by
  rw[DT.e,Am (by decide),DE (by decide)];simp only[Ae];rw[UD (row := [Iv a]) (by rfl)];simp only[cut,Ae,Aa,Ag,Ab];by_cases h1:a=0
  ·subst h1;rw[if_pos rfl,show ((0:Int)==0)=true from rfl,Aq,show Al (0+1)=((1:Nat):Int) from Au (k:=0) (by decide),DT.e,Am (by decide),DE (by decide)];simp only[Ae];rw[UD (row := [Iv b]) (by rfl)];simp only[cut,Ae,Aa,Ag,Ab];by_cases h2:b=0
   ·subst h2;rw[show ((0:Int)==0)=true from rfl,Aq,show Al (((1:Nat):Int)+1)=((2:Nat):Int) from Au (k:=1) (by decide),DT.e,Aj (by decide)]
   ·rw[show (b==0)=false by simpa using h2,Az]
  ·rw[if_neg h1,show (a==0)=false by simpa using h1,Az])
theorem NC:Af lo 70 [.agg [Iv a,Iv b],.agg [Iv c,Iv d]] h=some (Iv (if Hx a c=0 then Hx b d else Hx a c),h) :=
 MN (h':=h ++ [.rows 1 3 false [[Iv (Hx a c)],[Iv (Hx b d)]]]) (by
  simp only[PS,Ad,Ab,RW])
theorem za4:decide ((if Hx a c=0 then Hx b d else Hx a c)<0)=Hb a b c d:=by
 unfold Hx Hb;by_cases h1:a<c
 ·simp[h1]
 ·by_cases h2:c<a
  ·simp[h1,h2];omega
  ·have:a=c:=by omega
   subst this;by_cases h3:b<d
   ·simp[h3]
   ·simp[h3];split<;>simp
theorem Ew:Af lo 15 [.agg [Iv a,Iv b],.agg [Iv c,Iv d]] h=some (.bool (Hb a b c d),h) :=
 Su (h':=h) (by simp only[NC,Ad,Ab,Qw,za4];simp)
theorem KB {a b c d:Int}:Af lo 241 [.agg [Iv a,Iv b],.agg [Iv c,Iv d]] h=some (.bool (a==c&&b==d),h) :=
 Vm (h':=h) (by simp)
end
end Go.Proofs.YtmgopagfoemomaaGreat
namespace Go.Proofs.YtmgopagfoemomaaGreat.T
open Go
variable {h:Heap}{b n:Nat}
def zax (P:Program) (g:TypeId->Bool):List Field->Nat->Nat->Bool
 | [],off,n=>Nat.beq off n
 | f :: fs,off,n=>match Nat.beq f.offset off&&g f.type with
  | true=>zax P g fs (off+P.cellsOf f.type) n
  | false=>false
def PY (P:Program):Nat->TypeId->Bool
 | 0,_=>false
 | n+1,t=>match P.underlying t with
  | some .bool=>Nat.beq (P.cellsOf t) 1
  | some (.int _)=>Nat.beq (P.cellsOf t) 1
  | some .string=>Nat.beq (P.cellsOf t) 1
  | some (.slice e)=>Nat.beq (P.cellsOf t) 1&&Nat.blt 0 (P.cellsOf e)&&PY P n e
  | some (.struct fs)=>zax P (PY P n) fs.toList 0 (P.cellsOf t)
  | _=>false
def TVs (P:Program) (g:TypeId->List V->Prop):List Field->List V->Prop
 | [],xs=>xs = []
 | f :: fs,xs=>∃ ys zs,xs=ys++zs/\ys.length=P.cellsOf f.type/\g f.type ys/\TVs P g fs zs
def TV (P:Program) (h:Heap):Nat->TypeId->List V->Prop
 | 0,_,_=>False
 | n+1,t,xs=>match P.underlying t with
  | some .bool=>∃ b,xs = [.bool b]
  | some (.int k)=>∃ i,xs = [.int k i]/\(Lit.int k i).wf=true
  | some .string=>∃ s,xs = [.str s]/\s.size<=maxLen
  | some (.slice e)=>∃ a c rs,xs = [.sl (P.cellsOf e) a rs.length c]/\(rs.length<=maxLen/\∀ k,c=some k->rs.length<=k)/\(∀ row∈rs,row.length=P.cellsOf e/\TV P h n e row) /\
    (rs = []\/∃ b,a=some (b,0)/\Heap.rows? h b=some rs)
  | some (.struct fs)=>TVs P (TV P h n) fs.toList xs
  | _=>False
theorem Z8 {h':Heap} (hp:h <+: h') {rs:List (List V)} (hb:Heap.rows? h b=some rs):Heap.rows? h' b=some rs:=by
 obtain ⟨t,rfl⟩:=hp;unfold Heap.rows? at hb ⊢;have hl:b<h.length:=by apply zeK;intro hle;rw[zdW hle] at hb;cases hb
 rw[zdl hl];exact hb
theorem TVs.imp {P:Program}{g g':TypeId->List V->Prop} (hg:∀ t xs,g t xs->g' t xs):∀ {fs:List Field}{xs:List V},TVs P g fs xs->TVs P g' fs xs
 | [],xs,h=>h
 | f :: fs,xs,⟨ys,zs,h1,h2,h3,h4⟩=>⟨ys,zs,h1,h2,hg _ _ h3,TVs.imp hg h4⟩
theorem TV.mono {P:Program}{h h':Heap} (hp:h <+: h'):∀ (n:Nat) (t:TypeId) (xs:List V),TV P h n t xs->TV P h' n t xs
 | 0,_,_,hx=>hx
 | n+1,t,xs,hx=>by
  simp only[TV] at hx ⊢;split at hx
  ·exact hx
  ·exact hx
  ·exact hx
  ·obtain ⟨a,c,rs,h1,h2,h3,h4⟩:=hx;exact ⟨a,c,rs,h1,h2,λrow hr=>⟨(h3 row hr).1,TV.mono hp n _ _ (h3 row hr).2⟩,h4.imp id λ⟨b,h5,h6⟩=>⟨b,h5,Z8 hp h6⟩⟩
  ·exact TVs.imp (λt xs=>TV.mono hp n t xs) hx
  ·exact hx
theorem UN {xs ys:List V} (h1:DI xs=true) (h2:DI ys=true):DI (xs++ys)=true:=by
 induction xs with
 | nil=>exact h2
 | cons x r ih =>
  simp only[zdT,DI] at h1 ⊢;split at h1
  ·exact ih h1
  ·cases h1
theorem TVs.firm {P:Program}{g:TypeId->List V->Prop} (hg:∀ t xs,g t xs->DI xs=true):∀ {l:List Field}{xs:List V},TVs P g l xs->DI xs=true
 | [],xs,h=>by simp only[TVs] at h;subst h;rfl
 | f :: l,xs,⟨ys,zs,e,_,h3,h4⟩=>by subst e;exact UN (hg _ _ h3) (TVs.firm hg h4)
theorem TV.firm {P:Program}{h:Heap}:∀ (n:Nat) (t:TypeId) (xs:List V),TV P h n t xs->DI xs=true
 | 0,_,_,hx=>hx.elim
 | n+1,t,xs,hx=>by
  simp only[TV] at hx;split at hx
  ·obtain ⟨b,rfl⟩:=hx;rfl
  ·obtain ⟨i,rfl,_⟩:=hx;rfl
  ·obtain ⟨s,rfl,_⟩:=hx;rfl
  ·obtain ⟨a,c,rs,rfl,_⟩:=hx;rfl
  ·exact TVs.firm (λt xs=>TV.firm n t xs) hx
  ·exact hx.elim
structure Imp (W:World) (ρ:Rho) (h:Heap):Prop where
 rel:HRel ρ h W
 ro:∀ b,b<h.length->B6 h b\/Rt h b
theorem Xw {k:Blk} (hb:b<h.length) (hd:B6 h b):B6 (h ++ [k]) b:=by unfold B6 at *;rw[zdl hb];exact hd
theorem zav {k:Blk} (hb:b<h.length) (hd:Rt h b):Rt (h ++ [k]) b:=by obtain ⟨R,e,rs,h1⟩:=hd;exact ⟨R,e,rs,by rw[zdl hb];exact h1⟩
theorem Imp.lay {W:World}{ρ:Rho} (hi:Imp W ρ h) (k:Blk) (e:E) (hlt:e.r<W.heap.size) (hk:BR ρ e k W) (hro:k = .dead\/∃ R e rs,k = .rows R e true rs) :
  Imp W (ρ.set h.length e) (h ++ [k]):=by
 have hle:Rle ρ (ρ.set h.length e):=Rho.set_le hi.rel.fresh;have hnew:B6 (h ++ [k]) h.length\/Rt (h ++ [k]) h.length:=by
  rcases hro with rfl | ⟨R,t,rs,rfl⟩
  ·exact .inl (by simp[B6])
  ·exact .inr ⟨R,t,rs,by simp⟩
 have hall:∀ b,b<(h ++ [k]).length->B6 (h ++ [k]) b\/Rt (h ++ [k]) b:=λb hb=>by
  by_cases hx:b=h.length
  ·subst hx;exact hnew
  ·have:b<h.length:=by simp at hb;omega
   exact (hi.ro b this).imp (Xw this) (zav this)
 have hdom:∀ b e',(ρ.set h.length e) b=some e'->b<(h ++ [k]).length/\e'.r<W.heap.size:=λb e' hb=>by
  by_cases hx:b=h.length
  ·subst hx;rw[Rho.set_same] at hb;injection hb with hb;subst hb;exact ⟨by simp,hlt⟩
  ·rw[Rho.set_other hx] at hb;have:=hi.rel.dom b e' hb;exact ⟨by simp;omega,by omega⟩
 refine ⟨⟨hdom,λb e' k' hb hk'=>?_,λb b' e1 e2 h1 h2 hr hne=>?_⟩,hall⟩
 ·by_cases hx:b=h.length
  ·subst hx;rw[Rho.set_same] at hb;injection hb with hb;subst hb;simp at hk';subst hk';exact BR.mono hle rfl hk
  ·rw[Rho.set_other hx] at hb;have:=(hi.rel.dom b e' hb).1;rw[zdl this] at hk';exact BR.mono hle rfl (hi.rel.blk b e' k' hb hk')
 ·have g1:=hall b (hdom b e1 h1).1;have g2:=hall b' (hdom b' e2 h2).1;rcases g1 with g1 | g1
  ·exact .inl g1
  ·rcases g2 with g2 | g2
   ·exact .inr (.inl g2)
   ·exact .inr (.inr ⟨g1,g2⟩)
section
variable {P:Program}{W:World}{H:Type}{enc:TypeId×Value->H}
theorem RZ {base:Nat}{a:Addr}{cs:List Value} (h:W.cells? base a n=some cs):cs.length=n/\∀ (i:Nat) (c:Value),cs[i]?=some c->W.cell? (a.add i)=some c:=by
 unfold World.cells? at h;split at h
 ·have hl:cs.length=n:=by simpa using mapM_some_length h
  refine ⟨hl,λi c hc=>?_⟩;have hi:i<n:=by have:=(zdk.1 hc).1;omega
  have:=mapM_some_get h i i (by simp[hi]);rw[this,hc]
 ·cases h
theorem XU {a:Addr}{c:Value} (h:W.cell? a=some c):∃ cs el fr,W.heap[a.block]?=some (.cells cs el fr)/\a.spot=none/\cs[a.off]?=some c:=by
 unfold World.cell? at h;split at h
 ·rename_i cs el fr he
  split at h
  ·cases h
  ·rename_i hs;exact ⟨cs,el,fr,he,by simpa using hs,h⟩
 ·cases h
def zcS (P:Program) (W:World) (n:Nat) (t:TypeId) (cs:List Value):Prop :=
 ∀ ρ h,Imp W ρ h->∃ (ρ':Rho) (h':Heap) (xs:List V),Rle ρ ρ'/\h <+: h'/\Imp W ρ' h'/\VRs ρ' xs cs/\TV P h' n t xs
theorem TP {n:Nat}{t:TypeId}{R:Nat}:∀ (css:List (List Value)),(∀ cs∈css,cs.length=R/\zcS P W n t cs)->∀ ρ h,Imp W ρ h ->
  ∃ (ρ':Rho) (h':Heap) (rs:List (List V)),Rle ρ ρ'/\h <+: h'/\Imp W ρ' h'/\rs.length=css.length/\(∀ (i:Nat) (row:List V),rs[i]?=some row->∃ cs,css[i]?=some cs/\VRs ρ' row cs/\row.length=R/\TV P h' n t row)
 | [],_,ρ,h,hi=>⟨ρ,h,[],Rle.refl _,zeR _,hi,rfl,λi row hr=>by simp at hr⟩
 | cs :: css,hc,ρ,h,hi=>by
  obtain ⟨ρ1,h1,xs,a1,a2,a3,a4,a5⟩:=(hc cs (by simp)).2 ρ h hi;obtain ⟨ρ2,h2,rs,b1,b2,b3,b4,b5⟩:=TP css (λc hcc=>hc c (by simp[hcc])) ρ1 h1 a3;refine ⟨ρ2,h2,xs :: rs,a1.trans b1,a2.trans b2,b3,by simp[b4],λi row hr=>?_⟩;cases i with
  | zero =>simp at hr;subst hr;exact ⟨cs,rfl,VRs.mono b1 _ _ a4,by rw[a4.length];exact (hc cs (by simp)).1,TV.mono b2 _ _ _ a5⟩
  | succ i =>simp at hr;obtain ⟨c,g1,g2⟩:=b5 i row hr;exact ⟨c,by simpa using g1,g2⟩
theorem PG {n:Nat}{cs:List Value}:∀ (fs:List Field) (off:Nat),zax P (PY P n) fs off cs.length=true->(∀ f∈fs,PY P n f.type=true->zcS P W n f.type ((cs.drop f.offset).take (P.cellsOf f.type)))->∀ ρ h,Imp W ρ h ->
  ∃ (ρ':Rho) (h':Heap) (xs:List V),Rle ρ ρ'/\h <+: h'/\Imp W ρ' h'/\VRs ρ' xs (cs.drop off)/\TVs P (TV P h' n) fs xs/\off<=cs.length
 | [],off,hin,_,ρ,h,hi=>by simp only[zax] at hin;have:=zdo hin;exact ⟨ρ,h,[],Rle.refl _,zeR _,hi,by rw[zdZ (by omega)];exact VRs.nil,rfl,by omega⟩
 | f :: fs,off,hin,hl,ρ,h,hi=>by
  simp only[zax] at hin;split at hin
  ·rename_i hc
   simp only[zds] at hc;have ho:=zdo hc.1;obtain ⟨ρ1,h1,xs,a1,a2,a3,a4,a5⟩:=hl f (by simp) hc.2 ρ h hi;obtain ⟨ρ2,h2,ys,b1,b2,b3,b4,b5,b6⟩:=PG fs (off+P.cellsOf f.type) hin (λg hg=>hl g (by simp[hg])) ρ1 h1 a3;rw[ho] at a4;have hlen:=a4.length;refine ⟨ρ2,h2,xs++ys,a1.trans b1,a2.trans b2,b3,?_,⟨xs,ys,rfl,?_,TV.mono b2 _ _ _ a5,b5⟩,by omega⟩
   ·have:=(VRs.mono b1 _ _ a4).append b4;rwa [<- zeC,zdS] at this
   ·rw[hlen];simp;omega
  ·cases hin
theorem zc3:∀ (n:Nat) (t:TypeId),PY P n t=true->∀ (fuel:Nat) (cs:List Value) (x:DataW H×List MemPlace),DataW.trod enc P W 0 (λ_=>true) true fuel t cs=some x ->
  (∀ a l c,Value.slice (some a) l c∈cs->0<W.heap.size)->zcS P W n t cs:=by
 intro n;induction n with
 | zero=>intro t h;simp[PY] at h
 | succ n ih =>
  intro t hin fuel cs x hx hpos ρ h hi;simp only[PY] at hin;split at hin
  ·rename_i hu
   obtain ⟨b,rfl,_⟩:=DataW.trod_bool hu hx;exact ⟨ρ,h,[.bool b],Rle.refl _,zeR _,hi,VRs.cons VR.bool' VRs.nil,by simp only[TV,hu];exact ⟨b,rfl⟩⟩
  ·rename_i k hu
   obtain ⟨i,rfl,_,hw⟩:=DataW.trod_int hu hx;exact ⟨ρ,h,[.int k i],Rle.refl _,zeR _,hi,VRs.cons VR.int' VRs.nil,by simp only[TV,hu];exact ⟨i,rfl,hw⟩⟩
  ·rename_i hu
   obtain ⟨s,rfl,_,hw⟩:=DataW.trod_string hu hx;exact ⟨ρ,h,[.str s],Rle.refl _,zeR _,hi,VRs.cons (by simp[VR]) VRs.nil,by simp only[TV,hu];exact ⟨s,rfl,hw⟩⟩
  ·rename_i e hu
   simp only[zds] at hin;have hR:0<P.cellsOf e:=by have:=hin.1.2;simpa [zeN] using this
   rcases DataW.trod_slice hu hx with ⟨rfl,_⟩ | ⟨a,len,cap,elems,rest,m,rfl,rfl,_,_,hlc,hcm,hel,hg,hsp,_⟩
   ·exact ⟨ρ,h,[.sl (P.cellsOf e) none 0 (some 0)],Rle.refl _,zeR _,hi,VRs.cons (by simp[VR]) VRs.nil,by
     simp only[TV,hu];exact ⟨none,some 0,[],rfl,⟨zd4 _,λ_ _=>zd4 _⟩,λr hr=>(by cases hr),.inl rfl⟩⟩
   ·-- the rows
    have hrow:∀ i,i<len->∃ c y,W.cells? 0 (a.add (i*P.cellsOf e)) (P.cellsOf e)=some c/\DataW.trod enc P W 0 (λ_=>true) true m e c=some y:=λi hi'=>by have h1:=hg i hi';rw[zdx (by omega)] at h1;obtain ⟨c,h2,h3⟩:=zem.1 h1;exact ⟨c,_,h2,h3⟩
    have hspare:∀ j,len+j<cap->∃ c,W.cells? 0 (a.add ((len+j)*P.cellsOf e)) (P.cellsOf e)=some c:=λj hj=>by obtain ⟨h0,h1⟩:=hsp rfl;have h1:=h1 j (by omega);rw[zdx (by omega)] at h1;obtain ⟨c,h2,_⟩:=zem.1 h1;exact ⟨c,h2⟩
    by_cases hcap:cap=0
    ·-- no room at all
     subst hcap;have hl0:len=0:=by omega
     subst hl0;have hp:=hpos a 0 0 (by simp);have hi2:=hi.lay .dead ⟨0,0,P.cellsOf e,0,0⟩ hp trivial (.inl rfl);refine ⟨_,_,[.sl (P.cellsOf e) (some (h.length,0)) 0 (some 0)],Rho.set_le hi.rel.fresh,⟨_,rfl⟩,hi2,VRs.cons ?_ VRs.nil,?_⟩
     ·simp only[VR];exact ⟨_,a,0,Rho.set_same _ _ _,rfl,rfl,.inl rfl,zdj _,λy hy=>by injection hy,λhc=>by cases hc⟩
     ·simp only[TV,hu];exact ⟨_,_,[],rfl,⟨zd4 _,λ_ _=>zd4 _⟩,λr hr=>(by cases hr),.inl rfl⟩
    ·-- the block
     have hblk:∃ carr el fr,W.heap[a.block]?=some (.cells carr el fr)/\a.spot=none:=by
      have:∃ c,W.cells? 0 (a.add (0*P.cellsOf e)) (P.cellsOf e)=some c:=by
       by_cases hl0:len=0
       ·have:=hspare 0 (by omega);rw[hl0] at this;simpa using this
       ·obtain ⟨c,_,h2,_⟩:=hrow 0 (by omega);exact ⟨c,h2⟩
      obtain ⟨c,hc⟩:=this;obtain ⟨c1,c2⟩:=RZ hc;have h0:c[0]?=some c[0]:=zdx (by omega);obtain ⟨carr,el,fr,h1,h2,_⟩:=XU (c2 0 _ h0);have e1:(a.add (0*P.cellsOf e)).add 0=a:=by simp[Addr.add]
      rw[e1] at h1 h2;exact ⟨carr,el,fr,h1,h2⟩
     obtain ⟨carr,el,fr,hW,hspot⟩:=hblk;obtain ⟨r,o,sp⟩:=a;simp only at hW hspot;subst hspot;have hlt:r<W.heap.size:=by apply zeK;intro hle;rw[Array.getElem?_eq_none hle] at hW;cases hW
     have hcells:∀ i,i<len->∃ c y,c.length=P.cellsOf e/\(∀ (j:Nat) (v:Value),c[j]?=some v->carr[o+(i*P.cellsOf e+j)]?=some v)/\DataW.trod enc P W 0 (λ_=>true) true m e c=some y:=λi hi'=>by obtain ⟨c,y,h1,h2⟩:=hrow i hi';obtain ⟨c1,c2⟩:=RZ h1;refine ⟨c,y,c1,λj v hv=>?_,h2⟩;have:=c2 j v hv;rw[Ga,Ga,LZ hW] at this;rw[<- this];congr 1;omega
     have hall:∃ css:List (List Value),css.length=len/\∀ i,i<len->∃ c y,css[i]?=some c/\c.length=P.cellsOf e/\(∀ (j:Nat) (v:Value),c[j]?=some v->carr[o+(i*P.cellsOf e+j)]?=some v)/\DataW.trod enc P W 0 (λ_=>true) true m e c=some y:=by refine ⟨(List.range len).map λi=>if hi':i<len then (hcells i hi').choose else [],by simp,λi hi'=>?_⟩;obtain ⟨y,h1,h2,h3⟩:=(hcells i hi').choose_spec;exact ⟨_,y,by simp[hi'],h1,h2,h3⟩
     obtain ⟨css,hcl,hcs⟩:=hall;obtain ⟨ρ1,h1,rs,a1,a2,a3,a4,a5⟩:=TP (P:=P) (W:=W) (n:=n) (t:=e) (R:=P.cellsOf e) css (λc hc=>by
      obtain ⟨i,hi'⟩:=zdA.1 hc;have hlt:=(zdk.1 hi').1;obtain ⟨c',y,g1,g2,g3,g4⟩:=hcs i (by omega);rw[hi'] at g1;injection g1 with g1;subst g1;exact ⟨g2,ih e hin.2 m c y g4 λ_ _ _ _=>by omega⟩) ρ h hi
     by_cases hl0:len=0
     ·have hrs:rs = []:=zdp (by omega);subst hrs;have hi2:=a3.lay .dead ⟨r,o,P.cellsOf e,0,0⟩ hlt trivial (.inl rfl);refine ⟨_,_,[.sl (P.cellsOf e) (some (h1.length,0)) 0 (some cap)],a1.trans (Rho.set_le a3.rel.fresh),a2.trans ⟨_,rfl⟩,hi2,VRs.cons ?_ VRs.nil,?_⟩
      ·simp only[VR];exact ⟨_,⟨r,o,none⟩,cap,Rho.set_same _ _ _,rfl,by rw[hl0],.inr (by simp),by omega,λy hy=>by injection hy,λhc=>by cases hc⟩
      ·simp only[TV,hu];exact ⟨_,_,[],rfl,⟨zd4 _,λ_ _=>zd4 _⟩,λr hr=>(by cases hr),.inl rfl⟩
     ·have hrl:rs.length=len:=by omega
      have hbr:BR ρ1 ⟨r,o,P.cellsOf e,rs.length,rs.length⟩ (.rows (P.cellsOf e) el true rs) W:=by
       refine ⟨carr,fr,?_,λh=>(by cases h),rfl,rfl,zdj _,?_,λi row hr=>?_,.inr ⟨rfl,λj c g1 g2 g3=>?_⟩⟩
       ·exact hW
       ·obtain ⟨c,y,g1,g2,g3,_⟩:=hcs (len - 1) (by omega);have:=g3 (P.cellsOf e - 1) _ (zdx (by omega));have hb:=(zen.1 this).1;have e1:rs.length*P.cellsOf e=(len - 1)*P.cellsOf e+P.cellsOf e:=by rw[hrl,<- Nat.succ_mul];congr 1;omega
        show o+rs.length*P.cellsOf e<=carr.size;omega
       ·obtain ⟨c,g1,g2,g3,_⟩:=a5 i row hr;refine ⟨g3,λj v hv=>?_⟩;have hlt:=(zdk.1 hr).1;obtain ⟨c',y,k1,k2,k3,_⟩:=hcs i (by omega);rw[g1] at k1;injection k1 with k1;subst k1;obtain ⟨z,z1,z2⟩:=g2.get j v hv;exact ⟨z,k3 j z z1,z2⟩
       ·obtain ⟨q,hq⟩:∃ q,j=o+q:=⟨j - o,by simp only at g1;omega⟩;have hq2:q<rs.length*P.cellsOf e:=by simp only at g2;omega
        have hdiv:q / P.cellsOf e<rs.length:=(Nat.div_lt_iff_lt_mul hR).2 hq2;have hmod:q % P.cellsOf e<P.cellsOf e:=Nat.mod_lt _ hR;have hqq:q=q / P.cellsOf e*P.cellsOf e+q % P.cellsOf e:=by rw[Nat.mul_comm];exact (Nat.div_add_mod q _).symm
        obtain ⟨c0,k1,k2,k3,k4⟩:=a5 (q / P.cellsOf e) _ (zdx hdiv);obtain ⟨c',y,l1,l2,l3,_⟩:=hcs (q / P.cellsOf e) (by omega);rw[k1] at l1;injection l1 with l1;subst l1;have hz:=l3 (q % P.cellsOf e) _ (zdx (by omega));rw[<- hqq,<- hq,g3] at hz;injection hz with hz;rw[hz];exact Df k2 (TV.firm _ _ _ k4) _ (zdf _)
      have hi2:=a3.lay (.rows (P.cellsOf e) el true rs) ⟨r,o,P.cellsOf e,rs.length,rs.length⟩ hlt hbr (.inr ⟨_,_,_,rfl⟩);refine ⟨_,_,[.sl (P.cellsOf e) (some (h1.length,0)) rs.length (some cap)],a1.trans (Rho.set_le a3.rel.fresh),a2.trans ⟨_,rfl⟩,hi2,VRs.cons ?_ VRs.nil,?_⟩
      ·simp only[VR];exact ⟨_,⟨r,o,none⟩,cap,Rho.set_same _ _ _,rfl,by rw[hrl],.inr (by simp),by omega,λy hy=>by injection hy,λhc=>by cases hc⟩
      ·simp only[TV,hu];refine ⟨_,_,rs,rfl,⟨by omega,λk hk=>by injection hk with hk;omega⟩,λrow hr=>?_,.inr ⟨_,rfl,by simp[Heap.rows?]⟩⟩;obtain ⟨i,hi'⟩:=zdA.1 hr;obtain ⟨c,_,_,g3,g4⟩:=a5 i row hi';exact ⟨g3,TV.mono ⟨_,rfl⟩ _ _ _ g4⟩
  ·rename_i fs hu
   obtain ⟨xs,m,rfl,_,hl,hxl,hf⟩:=DataW.trod_struct hu hx;rw[<- hl] at hin;obtain ⟨ρ',h',ys,b1,b2,b3,b4,b5,_⟩:=PG (P:=P) (W:=W) (n:=n) (cs:=cs) fs.toList 0 hin (λf hfm hft=>by
    obtain ⟨i,hi'⟩:=zdA.1 hfm;have hi2:fs[i]?=some f:=by simpa using hi'
    have h1:=hf i f hi2;have hlt:i<xs.length:=by have:=(zen.1 hi2).1;omega
    rw[zdx hlt] at h1;exact ih f.type hft m _ _ h1 λa l c hm=>hpos a l c (List.mem_of_mem_drop (zeS hm))) ρ h hi
   exact ⟨ρ',h',ys,b1,b2,b3,by simpa using b4,by simp only[TV,hu];exact b5⟩
  ·cases hin
end
end Go.Proofs.YtmgopagfoemomaaGreat.T
namespace Go.Proofs.YtmgopagfoemomaaGreat.T
open Go Go.RowKit
variable {r:Reach}{base:Nat}{a:Addr}{n:Nat}{h:Heap}
section
variable {P:Program}{W:World}{H:Type}{enc:TypeId×Value->H}
theorem Xl {e:TypeId} (h:W.has P r base a e n):0<W.heap.size:=by obtain ⟨_,_,row,cells,hs,_⟩:=h;unfold World.shape? at hs;apply zeK;intro hle;rw[Array.getElem?_eq_none (by omega)] at hs;cases hs
theorem Px {u:TypeId}{l c:Nat} (h:Cell.okWide P W r base u (.slice (some a) l c)):0<W.heap.size:=by
 have h2:Cell.ok P W r base u (.slice (some a) l c):=by unfold Cell.okWide at h;split at h<;>simp_all
 unfold Cell.ok at h2;split at h2<;>simp_all
 exact Xl h2.2.2
theorem Uy {t:TypeId}{v:Value} (h:Value.okWide P W r base t v) {l c:Nat} (hm:Value.slice (some a) l c∈v.cells.toList):0<W.heap.size:=by
 have row:∀ cs:Array Value,Row.okWide P W r base t cs->v = .agg cs->0<W.heap.size:=λcs hr hv=>by subst hv;obtain ⟨ts,_,_,h3⟩:=hr;simp[Value.cells] at hm;obtain ⟨i,hi⟩:=Array.mem_iff_getElem?.1 hm;obtain ⟨u,_,hu⟩:=h3 i _ hi;exact Px hu
 unfold Value.okWide at h;split at h
 ·obtain ⟨cs,hv,_,hr⟩:=h;exact row cs hr hv
 ·obtain ⟨cs,hv,_,hr⟩:=h;exact row cs hr hv
 ·cases v<;>simp[Value.cells] at hm
  ·obtain ⟨rfl,rfl,rfl⟩:=hm;exact Px h
  ·exfalso;unfold Cell.okWide Cell.ok at h;split at h<;>(try split at h)<;>simp_all
def ArgV (P:Program) (h:Heap) (n:Nat) (t:TypeId) (x:V):Prop:=match P.underlying t with
 | some (.struct _)=>∃ xs,x = .agg xs/\TV P h n t xs
 | _=>TV P h n t [x]
theorem ArgV.mono {h h':Heap} (hp:h <+: h') {n:Nat}{t:TypeId}{x:V} (hx:ArgV P h n t x):ArgV P h' n t x:=by
 unfold ArgV at *
 split at hx
 ·obtain ⟨xs,h1,h2⟩:=hx;exact ⟨xs,h1,TV.mono hp _ _ _ h2⟩
 ·exact TV.mono hp _ _ _ hx
theorem lays_arg {t:TypeId}{v:Value}{d:DataW H}{p:List MemPlace} (hin:PY P n t=true) (hok:Value.okWide P W r base t v)
  (h0:DataW.Trod enc P W 0 (λ_=>true) true t v d p) {ρ:Rho} (hi:Imp W ρ h):∃ (ρ':Rho) (h':Heap) (x:V),Rle ρ ρ'/\h <+: h'/\Imp W ρ' h'/\VR ρ' x v/\ArgV P h' n t x:=by
 obtain ⟨fuel,hf⟩:=h0;obtain ⟨ρ',h',xs,a1,a2,a3,a4,a5⟩:=zc3 n t hin fuel _ _ hf (λa l c hm=>Uy hok hm) ρ h hi;unfold Value.okWide at hok;cases hu:P.underlying t with
 | none =>
  cases n with
  | zero=>simp[PY] at hin
  | succ n=>simp[PY,hu] at hin
 | some td =>
  have one:(∀ fs,td ≠ .struct fs)->∃ x,xs = [x]/\VR ρ' x v:=λhns=>by
   cases n with
   | zero=>simp[PY] at hin
   | succ n =>
    simp only[TV,hu] at a5;have hl:=a4.length;have hx:∃ x,xs = [x]:=by
     cases td<;>simp only at a5<;>(try exact a5.elim)
     ·obtain ⟨b,rfl⟩:=a5;exact ⟨_,rfl⟩
     ·obtain ⟨i,rfl,_⟩:=a5;exact ⟨_,rfl⟩
     ·obtain ⟨s,rfl,_⟩:=a5;exact ⟨_,rfl⟩
     ·obtain ⟨a,c,rs,rfl,_⟩:=a5;exact ⟨_,rfl⟩
     ·exact absurd rfl (hns _)
    obtain ⟨x,rfl⟩:=hx;refine ⟨x,rfl,?_⟩;have hns':∀ cs,v ≠ .agg cs:=λcs hv=>by
     subst hv;rw[hu] at hok;cases td<;>simp only[PY,hu] at hin<;>(try cases hin)<;>simp[Cell.okWide,Cell.ok,hu] at hok
     exact absurd rfl (hns _)
    have hc:v.cells.toList = [v]:=by
     cases v<;>(try rfl)
     ·exact absurd rfl (hns' _)
    rw[hc] at a4;exact a4.uncons.1
  by_cases hs:∃ fs,td = .struct fs
  ·obtain ⟨fs,rfl⟩:=hs;rw[hu] at hok;obtain ⟨cs,rfl,_⟩:=hok;refine ⟨ρ',h',.agg xs,a1,a2,a3,?_,?_⟩
   ·simp only[VR];exact ⟨cs,rfl,by simpa [Value.cells] using a4⟩
   ·simp only[ArgV,hu];exact ⟨xs,rfl,a5⟩
  ·obtain ⟨x,rfl,hx⟩:=one λfs e=>hs ⟨fs,e⟩;refine ⟨ρ',h',x,a1,a2,a3,hx,?_⟩;unfold ArgV;rw[hu];split
   ·rename_i fs' he;injection he with he;exact absurd ⟨_,he⟩ hs
   ·exact a5
theorem imp_nil (W:World):Imp W (λ_=>none) [] :=
 ⟨⟨λb e h=>(by cases h),λb e k h=>(by cases h),λb b' e e' h=>(by cases h)⟩,λb hb=>by simp at hb⟩
theorem law_walk {call:Il} (hS:SC P call) {f:FuncId}{args:List V}{h':Heap}{ρ:Rho} (hk:call h.length f args h=some (.bool true,h')) {cargs:Array Value} (hv:VRs ρ args cargs.toList) (hi:Imp W ρ h) :
  Calls P f cargs W λe w'=>e = .returned (.bool true)/\Below W.heap.size W w':=by
 refine Calls.mono (hS.calls hk (zdj _) hv hi.rel) ?_
 rintro e w' ⟨c,rfl,ρ',h1,h2,h3⟩
 simp only[VR] at h1;subst h1;exact ⟨rfl,⟨h3.os,h3.tape,h3.output,h3.size,λk hk=>h3.frame k hk λb e hb hle=>by
  have:=(hi.rel.dom b e hb).1;omega⟩⟩
end
end Go.Proofs.YtmgopagfoemomaaGreat.T
namespace Go.Proofs.YtmgopagfoemomaaGreat
open Go T


variable {left:Int}{α:Type}{l:List α}
structure Ver where
 key:Int
 tag:Tag
 past:List Tag
 text:ByteArray
 gone:Bool
structure Node where
 store:List Ver
 wait:List Ver
structure Place where
 me:Int
 clock:Int
 chain:List Node
 log:List Ver
 got:List (List Ver)
 fell:Bool
structure Frame where
 fro:Int
 to:Int
 at':Int
 ver:Ver
abbrev zcK (ro:Bool):Nat:=bif ro then 202 else 36
abbrev Kc (ro:Bool):Nat:=bif ro then 207 else 43
abbrev zaQ (ro:Bool):Nat:=bif ro then 194 else 26
abbrev NO (ro:Bool):Nat:=bif ro then 289 else 47
abbrev Ver.cs (v:Ver) (a:Pq) (c:Nq):List V := [Iv v.key,Iv v.tag.time,Iv v.tag.place,.sl 2 a v.past.length c,.str v.text,.bool v.gone]
abbrev RTags (ro:Bool):Rel (List Tag):=Sli ro 2 (zcK ro) (flat Tag.cs)
def RVer (ro:Bool):Rel Ver:=λh cs v F=>∃ s,cs = [Iv v.key,Iv v.tag.time,Iv v.tag.place,s,.str v.text,.bool v.gone]/\RTags ro h [s] v.past F
abbrev RVers (ro:Bool):Rel (List Ver):=Sli ro 6 (Kc ro) (RVer ro)
abbrev RVss (ro:Bool):Rel (List (List Ver)):=Sli ro 1 (zaQ ro) (RVers ro)
def RNode (ro:Bool):Rel Node:=λh cs x F=>∃ s1 s2 F1 F2,cs = [s1,s2]/\F=F1++F2/\RVers ro h [s1] x.store F1/\RVers ro h [s2] x.wait F2
abbrev RNodes (ro:Bool):Rel (List Node):=Sli ro 2 (NO ro) (RNode ro)
def RPlace (ro:Bool):Rel Place:=λh cs p F=>∃ s1 s2 s3 F1 F2 F3,cs = [Iv p.me,Iv p.clock,s1,s2,s3,.bool p.fell]/\F=F1++(F2++F3)/\RNodes ro h [s1] p.chain F1/\RVers ro h [s2] p.log F2/\RVss ro h [s3] p.got F3
def R7 (ro:Bool):Rel Frame:=λh cs f F=>∃ vs,cs = Iv f.fro :: Iv f.to :: Iv f.at' :: vs/\RVer ro h vs f.ver F
theorem rtags_ok {ro:Bool}:(RTags ro).Ok:=Sli.ok DF
theorem rver_ok {ro:Bool}:(RVer ro).Ok :=
 ⟨λh h' cs x F ⟨s,h1,h2⟩ hb=>⟨s,h1,rtags_ok.fr _ _ _ _ _ h2 hb⟩,λh cs x F ⟨s,_,h2⟩=>rtags_ok.bd _ _ _ _ h2⟩
theorem rvers_ok {ro:Bool}:(RVers ro).Ok:=Sli.ok rver_ok
theorem rvss_ok {ro:Bool}:(RVss ro).Ok:=Sli.ok rvers_ok
theorem rnode_ok {ro:Bool}:(RNode ro).Ok:=by
 refine ⟨?_,?_⟩
 ·rintro h h' cs x F ⟨s1,s2,F1,F2,h1,rfl,h2,h3⟩ hb
  exact ⟨s1,s2,F1,F2,h1,rfl,rvers_ok.fr _ _ _ _ _ h2 λb hm=>hb b (by simp[hm]),rvers_ok.fr _ _ _ _ _ h3 λb hm=>hb b (by simp[hm])⟩
 ·rintro h cs x F ⟨s1,s2,F1,F2,h1,rfl,h2,h3⟩ b hb
  rw[zde] at hb;exact hb.elim (rvers_ok.bd _ _ _ _ h2 b) (rvers_ok.bd _ _ _ _ h3 b)
theorem rnodes_ok {ro:Bool}:(RNodes ro).Ok:=Sli.ok rnode_ok
theorem rplace_ok {ro:Bool}:(RPlace ro).Ok:=by
 refine ⟨?_,?_⟩
 ·rintro h h' cs x F ⟨s1,s2,s3,F1,F2,F3,h1,rfl,h2,h3,h4⟩ hb
  exact ⟨s1,s2,s3,F1,F2,F3,h1,rfl,rnodes_ok.fr _ _ _ _ _ h2 λb hm=>hb b (by simp[hm]),rvers_ok.fr _ _ _ _ _ h3 λb hm=>hb b (by simp[hm]),rvss_ok.fr _ _ _ _ _ h4 λb hm=>hb b (by simp[hm])⟩
 ·rintro h cs x F ⟨s1,s2,s3,F1,F2,F3,h1,rfl,h2,h3,h4⟩ b hb
  rw[zde,zde] at hb;rcases hb with hb | hb | hb
  ·exact rnodes_ok.bd _ _ _ _ h2 b hb
  ·exact rvers_ok.bd _ _ _ _ h3 b hb
  ·exact rvss_ok.bd _ _ _ _ h4 b hb
theorem rframe_ok {ro:Bool}:(R7 ro).Ok :=
 ⟨λh h' cs x F ⟨s,h1,h2⟩ hb=>⟨s,h1,rver_ok.fr _ _ _ _ _ h2 hb⟩,λh cs x F ⟨s,_,h2⟩=>rver_ok.bd _ _ _ _ h2⟩
section
variable {ro:Bool}{h:Heap}{F:List Nat}{a:Pq}{c:Nq}{n k:Nat}
theorem RTags.get {l:List Tag} (hs:RTags ro h [.sl 2 a n c] l F) (hk:k<l.length):∃ o,a=some o/\ld h o.1 (o.2+k) 0 2=some [Iv l[k].time,Iv l[k].place]:=by obtain ⟨o,row,G,h1,h2,⟨rfl,_⟩,_⟩:=hs.read hk;exact ⟨o,h1,by rw[h2];rfl⟩
theorem RVer.form {row:List V}{v:Ver} (hv:RVer ro h row v F):∃ s a c,row = [Iv v.key,Iv v.tag.time,Iv v.tag.place,s,.str v.text,.bool v.gone] /\
  (∀ {R':Type} (K:Pq->Nat->Nq->Option R'),eS 2 s K=K a v.past.length c)/\RTags ro h [.sl 2 a v.past.length c] v.past F:=by
 obtain ⟨s,rfl,hp⟩:=hv;obtain ⟨a,c,es,hp2⟩:=hp.form;exact ⟨s,a,c,rfl,es,hp2⟩
theorem RVers.get {l:List Ver} (hs:RVers ro h [.sl 6 a n c] l F) (hk:k<l.length):∃ o s a' c' G,a=some o /\
  ld h o.1 (o.2+k) 0 6=some [Iv l[k].key,Iv l[k].tag.time,Iv l[k].tag.place,s,.str l[k].text,.bool l[k].gone] /\
  (∀ {R':Type} (K:Pq->Nat->Nq->Option R'),eS 2 s K=K a' l[k].past.length c')/\RTags ro h [.sl 2 a' l[k].past.length c'] l[k].past G/\(∀ b∈G,b∈F):=by
 obtain ⟨o,row,G,h1,h2,hv,hG,_⟩:=hs.read hk;obtain ⟨s,a',c',rfl,es,hp⟩:=hv.form;exact ⟨o,s,a',c',G,h1,by rw[h2];rfl,es,hp,hG⟩
theorem RVss.get {l:List (List Ver)} (hs:RVss ro h [.sl 1 a n c] l F) (hk:k<l.length):∃ o s a' c' G,a=some o/\ld h o.1 (o.2+k) 0 1=some [s] /\
  (∀ {R':Type} (K:Pq->Nat->Nq->Option R'),eS 6 s K=K a' l[k].length c')/\RVers ro h [.sl 6 a' l[k].length c'] l[k] G/\(∀ b∈G,b∈F):=by
 obtain ⟨o,row,G,h1,h2,hv,hG,_⟩:=hs.read hk;have:∃ s,row = [s]:=by obtain ⟨R',a',c',e,_⟩:=hv;exact ⟨_,e⟩
 obtain ⟨s,rfl⟩:=this;obtain ⟨a',c',es,hp⟩:=hv.form;exact ⟨o,s,a',c',G,h1,by rw[h2];rfl,es,hp,hG⟩
theorem RNode.form {row:List V}{x:Node} (hv:RNode ro h row x F):∃ s1 s2 a1 c1 a2 c2 F1 F2,row = [s1,s2]/\F=F1++F2 /\
  (∀ {R':Type} (K:Pq->Nat->Nq->Option R'),eS 6 s1 K=K a1 x.store.length c1)/\(∀ {R':Type} (K:Pq->Nat->Nq->Option R'),eS 6 s2 K=K a2 x.wait.length c2) /\
  RVers ro h [.sl 6 a1 x.store.length c1] x.store F1/\RVers ro h [.sl 6 a2 x.wait.length c2] x.wait F2:=by
 obtain ⟨s1,s2,F1,F2,rfl,rfl,h1,h2⟩:=hv;obtain ⟨a1,c1,e1,g1⟩:=h1.form;obtain ⟨a2,c2,e2,g2⟩:=h2.form;exact ⟨s1,s2,a1,c1,a2,c2,F1,F2,rfl,rfl,e1,e2,g1,g2⟩
theorem RNodes.get {l:List Node} (hs:RNodes ro h [.sl 2 a n c] l F) (hk:k<l.length):∃ o s1 s2 a1 c1 a2 c2 F1 F2,a=some o/\ld h o.1 (o.2+k) 0 2=some [s1,s2]/\ld h o.1 (o.2+k) 0 1=some [s1]/\ld h o.1 (o.2+k) 1 1=some [s2] /\
  (∀ {R':Type} (K:Pq->Nat->Nq->Option R'),eS 6 s1 K=K a1 l[k].store.length c1)/\(∀ {R':Type} (K:Pq->Nat->Nq->Option R'),eS 6 s2 K=K a2 l[k].wait.length c2) /\
  RVers ro h [.sl 6 a1 l[k].store.length c1] l[k].store F1/\RVers ro h [.sl 6 a2 l[k].wait.length c2] l[k].wait F2/\(∀ b∈F1,b∈F)/\(∀ b∈F2,b∈F):=by
 obtain ⟨o,row,G,h1,h2,hv,hG,_⟩:=hs.read hk;obtain ⟨s1,s2,a1,c1,a2,c2,F1,F2,rfl,rfl,e1,e2,g1,g2⟩:=hv.form;exact ⟨o,s1,s2,a1,c1,a2,c2,F1,F2,h1,by rw[h2];rfl,by rw[h2];rfl,by rw[h2];rfl,e1,e2,g1,g2,λb hb=>hG b (zdQ _ hb),λb hb=>hG b (zef _ hb)⟩
theorem RPlace.form {row:List V}{p:Place} (hv:RPlace ro h row p F):∃ s1 s2 s3 a1 c1 a2 c2 a3 c3 F1 F2 F3,row = [Iv p.me,Iv p.clock,s1,s2,s3,.bool p.fell]/\F=F1++(F2++F3) /\
  (∀ {R':Type} (K:Pq->Nat->Nq->Option R'),eS 2 s1 K=K a1 p.chain.length c1)/\(∀ {R':Type} (K:Pq->Nat->Nq->Option R'),eS 6 s2 K=K a2 p.log.length c2) /\
  (∀ {R':Type} (K:Pq->Nat->Nq->Option R'),eS 1 s3 K=K a3 p.got.length c3) /\
  RNodes ro h [.sl 2 a1 p.chain.length c1] p.chain F1/\RVers ro h [.sl 6 a2 p.log.length c2] p.log F2/\RVss ro h [.sl 1 a3 p.got.length c3] p.got F3:=by
 obtain ⟨s1,s2,s3,F1,F2,F3,rfl,rfl,h1,h2,h3⟩:=hv;obtain ⟨a1,c1,e1,g1⟩:=h1.form;obtain ⟨a2,c2,e2,g2⟩:=h2.form;obtain ⟨a3,c3,e3,g3⟩:=h3.form;exact ⟨s1,s2,s3,a1,c1,a2,c2,a3,c3,F1,F2,F3,rfl,rfl,e1,e2,e3,g1,g2,g3⟩
end
def MU (left:Int) (s:Nat):Int:=if (s:Int)<=left then left - s else -1
theorem Yb {s t:Nat} (h:0<=left):(if MU left s<0 then -1 else MU (MU left s) t)=MU left (s+t):=by
 unfold MU;by_cases h1:(s:Int)<=left
 ·rw[if_pos h1,if_neg (by omega)];by_cases h2:(t:Int)<=left - s
  ·rw[if_pos h2,if_pos (by omega)];omega
  ·rw[if_neg h2,if_neg (by omega)]
 ·rw[if_neg h1,if_pos (by omega),if_neg (by omega)]
theorem ZX {n:Nat}{x y:Option α} (h0:0<=left) (hl:left<=1048576) (hn:n<=maxLen):br (decide (Al (left - (n:Int))<0)) x y=if MU left n<0 then x else y:=by
 have hm:maxLen=9223372036854775807:=by decide
 rw[wr (by omega) (by omega)];by_cases h1:(n:Int)<=left
 ·rw[Aj (by omega),if_neg (by unfold MU;rw[if_pos h1];omega)]
 ·rw[Am (by omega),if_pos (by unfold MU;rw[if_neg h1];omega)]
theorem zbl {sz:α->Nat}{h:Heap} (L:Int->Nat->Ov)
  (step:∀ i (hi:i<l.length) left,0<=left->left<=1048576->L left i=if MU left (sz l[i])<0 then some (Iv (-1),h) else L (MU left (sz l[i])) (i+1))
  (done:∀ left,L left l.length=some (Iv left,h)) (h0:0<=left) (h1:left<=1048576):L left 0=some (Iv (MU left (l.map sz).sum),h):=by
 have loop:∀ m i left,m+i=l.length->0<=left->left<=1048576->L left i=some (Iv (MU left ((l.drop i).map sz).sum),h):=by
  intro m;induction m with
  | zero =>
   intro i left hi h0 h1;have:i=l.length:=by omega
   subst this;rw[done,List.drop_length];simp[MU,h0]
  | succ m ih =>
   intro i left hi h0 h1;have hlt:i<l.length:=by omega
   rw[step i hlt left h0 h1,zdw hlt,zeq,zeO,<- Yb h0];by_cases hn:MU left (sz l[i])<0
   ·rw[if_pos hn,if_pos hn]
   ·rw[if_neg hn,if_neg hn];have hle:MU left (sz l[i])<=left:=by unfold MU;split<;>omega
    exact ih (i+1) _ (by omega) (by omega) (by omega)
 exact loop l.length 0 left (by omega) h0 h1
theorem R5 {T:Type}{p:α->Bool} (L:Nat->Option T) (no yes:Option T)
  (step:∀ i (hi:i<l.length),L i=if p l[i]=true then L (i+1) else no) (done:L l.length=yes):L 0=if l.all p=true then yes else no:=by
 have loop:∀ m i,m+i=l.length->L i=if (l.drop i).all p=true then yes else no:=by
  intro m;induction m with
  | zero =>
   intro i hi;have:i=l.length:=by omega
   subst this;rw[done,List.drop_length];simp
  | succ m ih =>
   intro i hi;have hlt:i<l.length:=by omega
   rw[step i hlt,zdw hlt,List.all_cons];cases hp:p l[i]
   ·simp
   ·simpa using ih (i+1) (by omega)
 exact loop l.length 0 (by omega)


section
variable {lo:Nat}{ro:Bool}{h:Heap}{F:List Nat}{a:Pq}{c:Nq}{left:Int}
theorem zc1 {α:Type}{x:Int}{y z:Option α}:br (decide (x<0)) y z=if x<0 then y else z:=by
 by_cases h:x<0
 ·rw[Am h,if_pos h]
 ·rw[Aj h,if_neg h]
theorem zcv {left:Int}{s:Nat} (h0:0<=left):MU left s<=left:=by unfold MU;split<;>omega
theorem Vy {left:Int}{n:Nat} (h0:0<=left) (h1:left<=1048576) (h2:n<=maxLen) (hn:¬ MU left n<0):Al (left - (n:Int))=MU left n:=by
 have hm:maxLen=9223372036854775807:=by decide
 rw[wr (by omega) (by omega)];unfold MU at hn ⊢;split
 ·rfl
 ·rename_i h;rw[if_neg h] at hn;omega
end
def Es (l:List Ver):Prop:=l.length<=1048576/\∀ v∈l,v.past.length<=1048576/\v.text.size<=1048576
def Yc (l:List (List Ver)):Prop:=l.length<=1048576/\∀ v∈l,Es v
def De (l:List Node):Prop:=l.length<=1048576/\∀ x∈l,Es x.store/\Es x.wait
def FM (p:Place):Prop:=De p.chain/\Es p.log/\Yc p.got
theorem zao {α:Type}{f:α->Nat}:∀ {l:List α}{x:α},x∈l->f x<=(l.map f).sum
 | y :: l,x,h=>by
  simp only[zeq,zeO];rcases zdm.1 h with rfl | h
  ·omega
  ·have:=zao (f:=f) h;omega
section
variable {lo:Nat}{ro:Bool}{h:Heap}{F:List Nat}{a:Pq}{c:Nq}
abbrev Place.cs (p:Place) (a1:Pq) (c1:Nq) (a2:Pq) (c2:Nq) (a3:Pq) (c3:Nq):List V :=
 [Iv p.me,Iv p.clock,.sl 2 a1 p.chain.length c1,.sl 6 a2 p.log.length c2,.sl 1 a3 p.got.length c3,.bool p.fell]
end


variable {α:Type}{f:Int->α->α}{k:Int}{l:List α}
theorem HY {T:Type}{n:Nat} (L:Nat->Option T) (step:∀ i,i<n->L i=L (i+1)):L 0=L n:=by
 have loop:∀ i,i<=n->L 0=L i:=by
  intro i;induction i with
  | zero=>intro _;rfl
  | succ i ih=>intro hi;rw[ih (by omega),step i (by omega)]
 exact loop n (zdj n)
section
variable {lo:Nat}{ro ro':Bool}{h:Heap}{F F':List Nat}{a a':Pq}{c c':Nq}
theorem EI (x:Int):(x==x)=true:=by simp
theorem zcP (x:Bool):(x==x)=true:=by simp
theorem zch (x:List UInt8):(x==x)=true:=by simp
theorem zcG {l:List Tag} (h1:RTags ro h [.sl 2 a l.length c] l F) (h2:RTags ro' h [.sl 2 a' l.length c'] l F') (hn:l.length<=1048576):Af lo 283 [.sl 2 a l.length c,.sl 2 a' l.length c'] h=some (.bool true,h):=by
 refine Tc (h':=h) ?_;rw[EI,Aq];refine (HY (n:=l.length) (λi=>Dr (List.length h) a l.length c a' l.length c' false (i:Nat) h) λi hi=>?_).trans ?_
 ·obtain ⟨o,rfl,ho⟩:=h1.get hi;obtain ⟨o',rfl,ho'⟩:=h2.get hi;rw[Dr.e,Am (by omega),Ac hi];simp only[Ae,A7,ho,ho',Aa,Ab,Ag,Ac hi,KB,EI,Ad,Ax,Aq,zeT,Au (show i<9223372036854775807 by omega)]
 ·rw[Dr.e,Aj (by omega)]
theorem zaM {l:List Tag} (h1:RTags ro h [.sl 2 a l.length c] l F) (h2:RTags ro' h [.sl 2 a' l.length c'] l F') (hn:l.length<=1048576):Af lo 240 [.agg [.sl 2 a l.length c],.agg [.sl 2 a' l.length c']] h=some (.bool true,h) :=
 Te (h':=h) (by rw[zcG h1 h2 hn];simp only[Ad,Ax,Aq])
theorem zcn {v:Ver} (h1:RTags ro h [.sl 2 a v.past.length c] v.past F) (h2:RTags ro' h [.sl 2 a' v.past.length c'] v.past F') (hn:v.past.length<=1048576):Af lo 242 [.agg (v.cs a c),.agg (v.cs a' c')] h=some (.bool true,h) :=
 Vl (h':=h) (by simp only[zaM h1 h2 hn,Ad,Ax,Aq,EI,zcP,zch,KB,zeT])
theorem UQ {l:List Ver} (h1:RVers ro h [.sl 6 a l.length c] l F) (h2:RVers ro' h [.sl 6 a' l.length c'] l F') (hn:Es l):Af lo 238 [.sl 6 a l.length c,.sl 6 a' l.length c'] h=some (.bool true,h):=by
 have hn1:=hn.1;refine Tb (h':=h) ?_;rw[EI,Aq];refine (HY (n:=l.length) (λi=>Dq (List.length h) a l.length c a' l.length c' false (i:Nat) h) λi hi=>?_).trans ?_
 ·obtain ⟨o,s,b1,c1,G1,rfl,ho,es,hp,_⟩:=h1.get hi;obtain ⟨o',s',b2,c2,G2,rfl,ho',es',hp',_⟩:=h2.get hi;rw[Dq.e,Am (by omega),Ac hi];simp only[Ae,A7,ho,ho',Aa,Ab,es,es',BO,AK,Ag,Ac hi];rw[zcn hp hp' (hn.2 _ (zdf hi)).1];simp only[Ad,Ax,Aq,Au (show i<9223372036854775807 by omega)]
 ·rw[Dq.e,Aj (by omega)]
theorem zbK {l:List (List Ver)} (h1:RVss ro h [.sl 1 a l.length c] l F) (h2:RVss ro' h [.sl 1 a' l.length c'] l F') (hn:Yc l):Af lo 239 [.sl 1 a l.length c,.sl 1 a' l.length c'] h=some (.bool true,h):=by
 have hn1:=hn.1;refine Sg (h':=h) ?_;rw[EI,Aq];refine (HY (n:=l.length) (λi=>C4 (List.length h) a l.length c a' l.length c' false (i:Nat) h) λi hi=>?_).trans ?_
 ·obtain ⟨o,s,b1,c1,G1,rfl,ho,es,hp,_⟩:=h1.get hi;obtain ⟨o',s',b2,c2,G2,rfl,ho',es',hp',_⟩:=h2.get hi;rw[C4.e,Am (by omega),Ac hi];simp only[Ae,A7,ho,ho',Aa,es,es',Ag,Ac hi];rw[UQ hp hp' (hn.2 _ (zdf hi))];simp only[Ad,Ax,Aq,Au (show i<9223372036854775807 by omega)]
 ·rw[C4.e,Aj (by omega)]
theorem zbL {l:List Ver} (h1:RVers ro h [.sl 6 a l.length c] l F) (h2:RVers ro' h [.sl 6 a' l.length c'] l F') (hn:Es l):Af lo 311 [.agg [.sl 6 a l.length c],.agg [.sl 6 a' l.length c']] h=some (.bool true,h) :=
 Si (h':=h) (by rw[UQ h1 h2 hn];simp only[Ad,Ax,Aq])
theorem zbP {l:List Node} (h1:RNodes ro h [.sl 2 a l.length c] l F) (h2:RNodes ro' h [.sl 2 a' l.length c'] l F') (hn:De l):Af lo 282 [.sl 2 a l.length c,.sl 2 a' l.length c'] h=some (.bool true,h):=by
 have hn1:=hn.1;refine Sm (h':=h) ?_;rw[EI,Aq];refine (HY (n:=l.length) (λi=>C6 (List.length h) a l.length c a' l.length c' false (i:Nat) h) λi hi=>?_).trans ?_
 ·obtain ⟨o,s1,s2,a1,c1,a2,c2,G1,G2,rfl,ho,_,_,e1,e2,hp1,hp2,_⟩:=h1.get hi;obtain ⟨o',s1',s2',a1',c1',a2',c2',G1',G2',rfl,ho',_,_,e1',e2',hp1',hp2',_⟩:=h2.get hi;rw[C6.e,Am (by omega),Ac hi];simp only[Ae,A7,ho,ho',Aa,e1,e2,e1',e2',Ag,Ac hi];rw[Tf (h':=h) (v := .bool true) (by
   rw[zbL hp1 hp1' (hn.2 _ (zdf hi)).1];simp only[Ad,Ax,Aq];rw[UQ hp2 hp2' (hn.2 _ (zdf hi)).2];simp only[Ad,Ax,Aq])]
  simp only[Ad,Ax,Aq,Au (show i<9223372036854775807 by omega)]
 ·rw[C6.e,Aj (by omega)]
theorem zbS {l:List Node} (h1:RNodes ro h [.sl 2 a l.length c] l F) (h2:RNodes ro' h [.sl 2 a' l.length c'] l F') (hn:De l):Af lo 237 [.agg [.sl 2 a l.length c],.agg [.sl 2 a' l.length c']] h=some (.bool true,h) :=
 Sq (h':=h) (by rw[zbP h1 h2 hn];simp only[Ad,Ax,Aq])
theorem zbN {p:Place}{a1 a2 a3 a1' a2' a3':Pq}{c1 c2 c3 c1' c2' c3':Nq} (h1:RPlace ro h (p.cs a1 c1 a2 c2 a3 c3) p F) (h2:RPlace ro' h (p.cs a1' c1' a2' c2' a3' c3') p F') (hn:FM p) :
  Af lo 165 [.agg (p.cs a1 c1 a2 c2 a3 c3),.agg (p.cs a1' c1' a2' c2' a3' c3')] h=some (.bool true,h):=by
 obtain ⟨_,_,_,_,_,_,e1,_,r1,r2,r3⟩:=h1;obtain ⟨_,_,_,_,_,_,e2,_,q1,q2,q3⟩:=h2;injection e1 with _ e1;injection e1 with _ e1;injection e1 with x1 e1;injection e1 with x2 e1;injection e1 with x3 e1;injection e2 with _ e2;injection e2 with _ e2;injection e2 with y1 e2;injection e2 with y2 e2;injection e2 with y3 e2;subst x1;subst x2;subst x3;subst y1;subst y2;subst y3;refine Sk (h':=h) ?_;rw[zbS r1 q1 hn.1];simp only[Ad,Ax,Aq,EI];rw[UQ r2 q2 hn.2.1];simp only[Ad,Ax,Aq];rw[zbK r3 q3 hn.2.2];simp only[Ad,Ax,Aq,zcP]
abbrev Frame.cs (f:Frame) (a:Pq) (c:Nq):List V := Iv f.fro :: Iv f.to :: Iv f.at' :: f.ver.cs a c
theorem zbQ {f:Frame} (h1:RTags ro h [.sl 2 a f.ver.past.length c] f.ver.past F) (h2:RTags ro' h [.sl 2 a' f.ver.past.length c'] f.ver.past F') (hn:f.ver.past.length<=1048576):Af lo 167 [.agg (f.cs a c),.agg (f.cs a' c')] h=some (.bool true,h) :=
 Sn (h':=h) (by rw[zcn h1 h2 hn];simp only[Ad,Ax,Aq,EI])
end
def BN {α:Type} (f:Int->α->α) (w:α->Nat):List α->Int->List α
 | [],_ => []
 | x :: r,k=>f k x :: BN f w r (k+w x)
def Bj {α:Type} (w:α->Nat) (l:List α):Nat:=(l.map w).sum
theorem Ba {α:Type}{f:Int->α->α}{w:α->Nat}:∀ {l:List α}{k:Int},(BN f w l k).length=l.length
 | [],k=>rfl
 | x :: l,k=>by simp[BN,Ba]
theorem Q9 {α:Type}{f:Int->α->α}{w:α->Nat}:∀ {l:List α}{k:Int}{x:α},BN f w (l ++ [x]) k=BN f w l k ++ [f (k+Bj w l) x]
 | [],k,x=>by simp[BN,Bj]
 | y :: l,k,x=>by simp only[zdT,BN];rw[Q9];simp only[Bj,zeq,zeO];rw[show k+(w y:Int)+((l.map w).sum:Nat)=k+((w y+(l.map w).sum:Nat):Int) by omega]
theorem zal {w:α->Nat}{x:α}:Bj w (l ++ [x])=Bj w l+w x:=by simp[Bj]
theorem E2 {w:α->Nat}{i:Nat} (hi:i<l.length):Bj w (l.take (i+1))=Bj w (l.take i)+w l[i]:=by rw[List.take_add_one,DZ hi];exact zal
theorem JP {α:Type}{w:α->Nat}:∀ {l:List α}{i:Nat},Bj w (l.take i)<=Bj w l
 | [],i=>by simp
 | x :: l,0=>by simp[Bj]
 | x :: l,i+1=>by have:=JP (w:=w) (l:=l) (i:=i);simp only[Bj,List.take_succ_cons,zeq,zeO] at this ⊢;omega
theorem Xt {w:α->Nat}{i:Nat} (hi:i<l.length):BN f w (l.take (i+1)) k=BN f w (l.take i) k ++ [f (k+Bj w (l.take i)) l[i]]:=by rw[List.take_add_one,DZ hi];exact Q9
theorem Fb {α:Type}{f:Int->α->α}{w:α->Nat}:∀ {l:List α}{k:Int}{i:Nat} (hi:i<l.length) (hi':i<(BN f w l k).length),(BN f w l k)[i]=f (k+Bj w (l.take i)) l[i]
 | x :: l,k,0,_,_=>by simp[BN,Bj]
 | x :: l,k,i+1,hi,hi'=>by simp only[BN,List.getElem_cons_succ,List.take_succ_cons];rw[Fb (by simpa using hi) (by simpa [BN] using hi')];simp only[Bj,zeq,zeO];rw[show k+(w x:Int)+(((l.take i).map w).sum:Nat)=k+((w x+((l.take i).map w).sum:Nat):Int) by omega]
theorem Fd {El:Rel α} (ok:El.Ok) {w:α->Nat}{R R' e n:Nat}{a:Pq}{c:Nq}{F:List Nat}{h:Heap}{B:Int} (L:Int->Nat->Heap->Ov)
  (step:∀ i k hh x b j rs row G,a=some (b,j)->b∈F->b∉G->G.Nodup->(∀ y∈G,y∈F)->hh[b]?=some (.rows R e false rs)->rs[j+i]?=some row->El hh row x G->x∈l->i<n->0<=k->k+w x<=B ->
   ∃ h2 row',L k i hh=L (k+w x) (i+1) h2/\h2[b]?=some (.rows R e false (rs.set (j+i) row'))/\El h2 row' (f k x) G/\(∀ y,y≠b->y∉G->h2[y]?=hh[y]?)/\h2.length=hh.length)
  (done:∀ k hh,L k n hh=some (Iv k,hh)) (hs:Sli false R e El h [.sl R' a n c] l F) (hnd:F.Nodup) (h0:0<=k) (hB:k+Bj w l<=B) :
  ∃ h',L k 0 h=some (Iv (k+Bj w l),h')/\Sli false R e El h' [.sl R' a n c] (BN f w l k) F/\h'.length=h.length/\Mv h F h' F:=by
 have hlen:=hs.val;have loop:∀ m i hh,m+i=l.length->Sli false R e El hh [.sl R' a n c] (BN f w (l.take i) k++l.drop i) F->hh.length=h.length->(∀ y,y∉F->hh[y]?=h[y]?) ->
   ∃ h',L (k+Bj w (l.take i)) i hh=some (Iv (k+Bj w l),h')/\Sli false R e El h' [.sl R' a n c] (BN f w l k) F/\h'.length=h.length/\Mv h F h' F:=by
  intro m;induction m with
  | zero =>
   intro i hh hi hr h1 h2;have:i=l.length:=by omega
   subst this;rw[zeQ,List.drop_length,zd0] at hr;rw[zeQ,<- hlen,done];exact ⟨hh,rfl,hr,h1,Nat.le_of_eq h1.symm,λb _ hb=>h2 b hb,hnd,λb hb => .inl hb⟩
  | succ m ih =>
   intro i hh hi hr h1 h2;have hlt:i<l.length:=by omega
   have hml:(BN f w (l.take i) k).length=i:=by rw[Ba];simp;omega
   have hcur:(BN f w (l.take i) k++l.drop i)[i]'(by rw[zdy,hml];simp;omega)=l[i]:=by rw[zeJ (by omega)];simp[hml]
   obtain ⟨b,j,rs,row,G,rfl,hbF,hbG,hb,hrow,hel,hGF,hGn,hput⟩:=Sli.put ok.fr hr (show i<_ by rw[zdy,hml];simp;omega) hnd;rw[hcur] at hel;have hle:=JP (w:=w) (l:=l) (i:=i+1);rw[E2 hlt] at hle;obtain ⟨h3,row',e3,b3,r3,f3,l3⟩:=step i (k+Bj w (l.take i)) hh l[i] b j rs row G rfl hbF hbG hGn hGF hb hrow hel (zdf hlt) (by omega) (by omega) (by omega);obtain ⟨F',q1,_,_,q4⟩:=hput h3 row' _ G b3 (λy _ hyb hyG=>f3 y hyb hyG) r3 hGn (λy hy _=>hy);rw[q4 rfl] at q1;rw[e3,show k+(Bj w (l.take i):Int)+(w l[i]:Int)=k+((Bj w (l.take (i+1)):Nat):Int) by rw[E2 hlt];omega];refine ih (i+1) h3 (by omega) ?_ (by omega) λy hy=>?_
   ·have e:(BN f w (l.take i) k++l.drop i).set i (f (k+Bj w (l.take i)) l[i])=BN f w (l.take (i+1)) k++l.drop (i+1):=by rw[zeo _ _ (by omega),hml,zeH,zdw hlt,zeX,Xt hlt,zdv,List.singleton_append]
    rw[<- e];exact q1
   ·rw[f3 y (λe=>hy (e ▸ hbF)) (λhm=>hy (hGF y hm))];exact h2 y hy
 have:=loop l.length 0 h (by omega) (by simpa [BN] using hs) rfl (λ_ _=>rfl);simpa [Bj] using this
theorem Gn {T:Type}{w:α->Nat} (L:Int->Nat->Option T)
  (step:∀ i (hi:i<l.length),L (k+Bj w (l.take i)) i=L (k+Bj w (l.take i)+w l[i]) (i+1)):L k 0=L (k+Bj w l) l.length:=by
 have:=HY (n:=l.length) (λi=>L (k+Bj w (l.take i)) i) λi hi=>by rw[step i hi,E2 hi,show k+(Bj w (l.take i):Int)+(w l[i]:Int)=k+((Bj w (l.take i)+w l[i]:Nat):Int) by omega]
 simpa [Bj] using this


variable {l:List Ver}
abbrev EN:Int:=1099511627776
def zbf (k:Int) (s:ByteArray):Prop:=∀ (lo:Nat) (h:Heap),Af lo 88 [Iv k] h=some (.str s,h)
theorem SE:∀ (n:Nat) (k:Int) (s:ByteArray),0<=k->k<=n->k<=EN->s.size+k<=2*EN->∃ t,∀ (lo:Nat) (h:Heap),∃ h',Ci lo k s h=some (.str t,h'):=by
 intro n;induction n with
 | zero =>
  intro k s h0 h1 h2 h3;have:k=0:=by omega
  subst this;have hm:IntKind.i64.max=9223372036854775807:=by decide
  refine ⟨⟨⟨[109]⟩⟩++s,λlo h=>⟨h,?_⟩⟩;rw[Ci.e,Aj (by omega),XV (by have h9:(ByteArray.mk ⟨[109]⟩).size=1:=rfl;simp only[EN] at h3;omega)]
 | succ n ih =>
  intro k s h0 h1 h2 h3;have hm:IntKind.i64.max=9223372036854775807:=by decide
  by_cases hk:k=0
  ·subst hk;refine ⟨⟨⟨[109]⟩⟩++s,λlo h=>⟨h,?_⟩⟩;rw[Ci.e,Aj (by omega),XV (by have h9:(ByteArray.mk ⟨[109]⟩).size=1:=rfl;simp only[EN] at h3;omega)]
  ·have hd:k.tdiv 10=k / 10:=Int.tdiv_eq_ediv_of_nonneg h0;have hsz:(KH [IntKind.wrap .u8 (Al (48+(k.tmod (10:Int))))]).size=1:=rfl;have hsz2:(KH [IntKind.wrap .u8 (Al (48+(k.tmod (10:Int))))]++s).size=1+s.size:=by rw[ByteArray.size_append,hsz]
   obtain ⟨t,ht⟩:=ih (k / 10) (KH [IntKind.wrap .u8 (Al (48+(k.tmod (10:Int))))]++s) (by omega) (by omega) (by omega) (by rw[hsz2];push_cast;omega);refine ⟨t,λlo h=>?_⟩;obtain ⟨h',e⟩:=ht lo (h ++ [.rows 1 5 false [[.int .u8 (IntKind.wrap .u8 (Al (48+(k.tmod (10:Int)))))]]]);refine ⟨h',?_⟩;rw[Ci.e,Am (by omega)];simp only[AX,Jg,Ae];rw[XV (by rw[hsz];simp only[EN] at h3;omega),hd,wr (by simp only[EN] at h2;omega) (by simp only[EN] at h2;omega)];exact e
theorem zcu {k:Int} (h0:0<=k) (h1:k<=EN):∃ s,zbf k s:=by
 by_cases hk:k<=0
 ·exact ⟨_,λlo h=>KV (h':=h) (by rw[Am hk])⟩
 ·obtain ⟨t,ht⟩:=SE k.toNat k ⟨⟨[]⟩⟩ h0 (by omega) h1 (by simp only[EN] at h1 ⊢;show ((0:Nat):Int)+k<=_;omega);refine ⟨t,λlo h=>?_⟩;obtain ⟨h',e⟩:=ht (List.length h) h;exact KV (h':=h') (by rw[Aj hk];exact e)
open Classical in
noncomputable def GH (k:Int):ByteArray:=if h:∃ s,zbf k s then h.choose else ⟨⟨[]⟩⟩
theorem FJ {lo:Nat}{h:Heap}{k:Int} (h0:0<=k) (h1:k<=EN):Af lo 88 [Iv k] h=some (.str (GH k),h):=by have hx:=zcu h0 h1;unfold GH;rw[dif_pos hx];exact hx.choose_spec lo h
def Ns (k:Int) (_:Tag):Tag:=⟨k,k+1⟩
abbrev C0 (_:Tag):Nat:=2
noncomputable def Lh (k:Int) (v:Ver):Ver:=⟨k,⟨k+1,k+2⟩,BN Ns C0 v.past (k+3),GH (k+3+Bj C0 v.past),(k+3+Bj C0 v.past+1).tmod 3==0⟩
def Na (v:Ver):Nat:=5+Bj C0 v.past
noncomputable def Hk (k:Int) (l:List Ver):List Ver:=BN Lh Na l k
def CX (l:List Ver):Nat:=Bj Na l
noncomputable def Oy (k:Int) (x:Node):Node:=⟨Hk k x.store,Hk (k+CX x.store) x.wait⟩
def KP (x:Node):Nat:=CX x.store+CX x.wait
section
variable {lo:Nat}{h:Heap}{F:List Nat}{a:Pq}{c:Nq}{k:Int}
theorem JQ {l:List Tag} (hs:RTags false h [.sl 2 a l.length c] l F) (hlo:∀ b∈F,lo<=b) (hnd:F.Nodup) (h0:0<=k) (hB:k+Bj C0 l<=EN) (hn:l.length<=1048576) :
  ∃ h',Af lo 172 [.sl 2 a l.length c,Iv k] h=some (Iv (k+Bj C0 l),h')/\RTags false h' [.sl 2 a l.length c] (BN Ns C0 l k) F/\h'.length=h.length/\Mv h F h' F:=by
 obtain ⟨h',e,r⟩:=Fd (El:=flat Tag.cs) DF (f:=Ns) (w:=C0) (B:=EN) (λk i hh=>CP lo a l.length c k (i:Nat) hh) (λi k hh x b j rs row G ha hbF hbG hGn hGF hb hrow hel hx hi h0 hB=>by
  obtain ⟨rfl,rfl⟩:=hel;subst ha;have hrl:j+i<rs.length:=(DY hrow).1;have hbl:b<hh.length:=(DY hb).1;have hlob:=hlo b hbF;refine ⟨hh.set b (.rows 2 (zcK false) false (rs.set (j+i) [Iv k,Iv (k+1)])),[Iv k,Iv (k+1)],?_,by simp[hbl],⟨rfl,rfl⟩,λy hy _=>zdi (Ne.symm hy),by simp⟩;simp only[EN] at hB;rw[CP.e,Am (by omega),Ac hi];simp only[Ae,A7];rw[Bt hb hlob hrow (row' := [Iv k,Iv x.place]) (by rfl),Ae,Ac hi,wr (n:=k+1) (by omega) (by omega)];rw[Cm hbl hlob hrl (row' := [Iv k,Iv (k+1)]) (by rfl),Ae,wr (n:=k+1+1) (by omega) (by omega),Au (by omega),show k+1+1=k+((2:Nat):Int) by omega]) (λk hh=>by
  rw[CP.e,Aj (by omega)]) hs hnd h0 hB
 exact ⟨h',Qb e,r⟩
theorem JR {l:List Tag} (hs:RTags false h [.sl 2 a l.length c] (BN Ns C0 l k) F) (h0:0<=k) (hB:k+Bj C0 l<=EN) (hn:l.length<=1048576) :
  Af lo 176 [.sl 2 a l.length c,Iv k] h=some (Iv (k+Bj C0 l),h):=by
 refine Qd (h':=h) ?_;refine (Gn (w:=C0) (l:=l) (k:=k) (λk i=>CQ (List.length h) a l.length c k 0 (i:Nat) h) λi hi=>?_).trans ?_
 ·have hi':i<(BN Ns C0 l k).length:=by rw[Ba];exact hi
  obtain ⟨o,row,G,rfl,ho,⟨rfl,_⟩,_⟩:=hs.read hi';have hle:=JP (w:=C0) (l:=l) (i:=i+1);rw[E2 hi] at hle;rw[Fb hi] at ho;generalize hk':k+(Bj C0 (l.take i):Int)=k' at ho ⊢;simp only[EN] at hB;have hw:C0 l[i]=2:=rfl;rw[hw] at hle ⊢;rw[CQ.e,Am (by omega),Ac hi,wr (n:=k'+1) (by omega) (by omega),wr (n:=k'+1+1) (by omega) (by omega),Au (by omega)];simp only[Ae,A7,ho,Tag.cs,Ns,cut,Aa,Ab,Ag,EI,Aq,Ac hi];rw[show k'+1+1=k'+((2:Nat):Int) by omega]
 ·rw[CQ.e,Aj (by omega)]
theorem HV (hs:RVers false h [.sl 6 a l.length c] l F) (hlo:∀ b∈F,lo<=b) (hnd:F.Nodup) (h0:0<=k) (hB:k+CX l<=EN) (hn:Es l) :
  ∃ h',Af lo 170 [.sl 6 a l.length c,Iv k] h=some (Iv (k+CX l),h')/\RVers false h' [.sl 6 a l.length c] (Hk k l) F/\h'.length=h.length/\Mv h F h' F:=by
 have hn1:=hn.1;obtain ⟨h',e,r⟩:=Fd (El:=RVer false) rver_ok (f:=Lh) (w:=Na) (B:=EN) (λk i hh=>Cg lo a l.length c k (i:Nat) hh) (λi k hh x b j rs row G ha hbF hbG hGn hGF hb hrow hel hx hi h0 hB=>by
  obtain ⟨s,rfl,hp0⟩:=hel;obtain ⟨a2,c2,es,hp⟩:=hp0.form;subst ha;have hrl:j+i<rs.length:=(DY hrow).1;have hbl:b<hh.length:=(DY hb).1;have hlob:=hlo b hbF;have hw:Na x=5+Bj C0 x.past:=rfl;rw[hw] at hB;simp only[EN] at hB;have hb3:(hh.set b (.rows 6 (Kc false) false (rs.set (j+i) [Iv k,Iv (k+1),Iv (k+1+1),s,.str x.text,.bool x.gone])))[b]?=some (.rows 6 (Kc false) false (rs.set (j+i) [Iv k,Iv (k+1),Iv (k+1+1),s,.str x.text,.bool x.gone])):=by simp[hbl]
  have hp3:RTags false (hh.set b (.rows 6 (Kc false) false (rs.set (j+i) [Iv k,Iv (k+1),Iv (k+1+1),s,.str x.text,.bool x.gone]))) [.sl 2 a2 x.past.length c2] x.past G:=rtags_ok.fr _ _ _ _ _ hp (λy hy=>zdi (by rintro rfl;exact hbG hy));obtain ⟨h4,e4,r4,l4,m4⟩:=JQ (lo:=lo) (k:=k+3) hp3 (λy hy=>hlo y (hGF y hy)) hGn (by omega) (by simp only[EN];omega) (hn.2 x hx).1;have hb4:h4[b]?=some (.rows 6 (Kc false) false (rs.set (j+i) [Iv k,Iv (k+1),Iv (k+1+1),s,.str x.text,.bool x.gone])):=by rw[m4.fr b (by simpa using hbl) hbG];exact hb3
  have hbl4:b<h4.length:=(DY hb4).1;have hrow4:(rs.set (j+i) [Iv k,Iv (k+1),Iv (k+1+1),s,.str x.text,.bool x.gone])[j+i]?=some [Iv k,Iv (k+1),Iv (k+1+1),s,.str x.text,.bool x.gone]:=by simp[hrl]
  refine ⟨h4.set b (.rows 6 (Kc false) false (rs.set (j+i) [Iv k,Iv (k+1),Iv (k+1+1),s,.str (GH (k+3+Bj C0 x.past)),.bool ((k+3+Bj C0 x.past+1).tmod 3==0)])),
   [Iv k,Iv (k+1),Iv (k+1+1),s,.str (GH (k+3+Bj C0 x.past)),.bool ((k+3+Bj C0 x.past+1).tmod 3==0)],?_,by simp[hbl4],?_,λy hy hyG=>?_,by simpa using l4⟩
  ·rw[Cg.e,Am (by omega),Ac hi];simp only[Ae,A7];rw[Bt hb hlob hrow (row' := [Iv k,Iv x.tag.time,Iv x.tag.place,s,.str x.text,.bool x.gone]) (by rfl),Ae,Ac hi,wr (n:=k+1) (by omega) (by omega)];rw[Cm hbl hlob hrl (row' := [Iv k,Iv (k+1),Iv x.tag.place,s,.str x.text,.bool x.gone]) (by rfl),Ae,Ac hi,wr (n:=k+1+1) (by omega) (by omega)];rw[Cm hbl hlob hrl (row' := [Iv k,Iv (k+1),Iv (k+1+1),s,.str x.text,.bool x.gone]) (by rfl),Ae,Ac hi];have hld:ld (hh.set b (.rows 6 (Kc false) false (rs.set (j+i) [Iv k,Iv (k+1),Iv (k+1+1),s,.str x.text,.bool x.gone]))) b (j+i) 3 1=some [s]:=by simp only[ld,Heap.rows?,hb3,zdF,hrow4];rfl
   rw[hld,wr (n:=k+1+1+1) (by omega) (by omega),show k+1+1+1=k+3 by omega];simp only[Ae,Aa,Ag,es];rw[e4];simp only[Ad,Ab];rw[FJ (by omega) (by simp only[EN];omega)];simp only[Ad,BO];rw[Ac hi,Bt hb4 hlob hrow4 (row' := [Iv k,Iv (k+1),Iv (k+1+1),s,.str (GH (k+3+Bj C0 x.past)),.bool x.gone]) (by rfl),Ae,zd1];rw[wr (n:=k+3+Bj C0 x.past+1) (by omega) (by omega),wr (n:=k+3+Bj C0 x.past+1+1) (by omega) (by omega),Au (by omega),Ac hi];rw[show k+((Na x:Nat):Int)=k+3+Bj C0 x.past+1+1 by rw[hw];omega];cases hg:((k+3+Bj C0 x.past+1).tmod 3==0)
   ·rw[Az,Ac hi,Cm hbl4 hlob hrl (row' := [Iv k,Iv (k+1),Iv (k+1+1),s,.str (GH (k+3+Bj C0 x.past)),.bool false]) (by rfl),Ae]
   ·rw[Aq,Cm hbl4 hlob hrl (row' := [Iv k,Iv (k+1),Iv (k+1+1),s,.str (GH (k+3+Bj C0 x.past)),.bool true]) (by rfl),Ae]
  ·refine ⟨s,by simp only[Lh];rw[show k+1+1=k+2 by omega],?_⟩;have hr5:RTags false (h4.set b (.rows 6 (Kc false) false (rs.set (j+i) [Iv k,Iv (k+1),Iv (k+1+1),s,.str (GH (k+3+Bj C0 x.past)),.bool ((k+3+Bj C0 x.past+1).tmod 3==0)]))) [.sl 2 a2 x.past.length c2] (BN Ns C0 x.past (k+3)) G:=rtags_ok.fr _ _ _ _ _ r4 (λy hy=>zdi (by rintro rfl;exact hbG hy));exact Sli.same hp0 es hr5
  ·rw[zdi (Ne.symm hy),m4.fr' l4 y hyG,zdi (Ne.symm hy)]) (λk hh=>by
  rw[Cg.e,Aj (by omega)]) hs hnd h0 hB
 exact ⟨h',Qa e,r⟩
theorem RVers.get1 {n:Nat}{i:Nat}{ro:Bool} (hs:RVers ro h [.sl 6 a n c] l F) (hi:i<l.length):∃ o s a' c' G,a=some o/\ld h o.1 (o.2+i) 0 1=some [Iv l[i].key]/\ld h o.1 (o.2+i) 1 1=some [Iv l[i].tag.time] /\
  ld h o.1 (o.2+i) 2 1=some [Iv l[i].tag.place]/\ld h o.1 (o.2+i) 3 1=some [s]/\ld h o.1 (o.2+i) 4 1=some [.str l[i].text]/\ld h o.1 (o.2+i) 5 1=some [.bool l[i].gone]/\ld h o.1 (o.2+i) 1 2=some [Iv l[i].tag.time,Iv l[i].tag.place] /\
  (∀ {R':Type} (K:Pq->Nat->Nq->Option R'),eS 2 s K=K a' l[i].past.length c')/\RTags ro h [.sl 2 a' l[i].past.length c'] l[i].past G/\(∀ b∈G,b∈F):=by
 obtain ⟨o,row,G,h1,h2,hv,hG,_⟩:=hs.read hi;obtain ⟨s,a',c',rfl,es,hp⟩:=hv.form;exact ⟨o,s,a',c',G,h1,by rw[h2];rfl,by rw[h2];rfl,by rw[h2];rfl,by rw[h2];rfl,by rw[h2];rfl,by rw[h2];rfl,by rw[h2];rfl,es,hp,hG⟩
theorem HW (hs:RVers false h [.sl 6 a l.length c] (Hk k l) F) (h0:0<=k) (hB:k+CX l<=EN) (hn:Es l) :
  Af lo 174 [.sl 6 a l.length c,Iv k] h=some (Iv (k+CX l),h):=by
 have hn1:=hn.1;refine Qc (h':=h) ?_;refine (Gn (w:=Na) (l:=l) (k:=k) (λk i=>Cj (List.length h) a l.length c k 0 (i:Nat) h) λi hi=>?_).trans ?_
 ·have hi':i<(Hk k l).length:=by unfold Hk;rw[Ba];exact hi
  obtain ⟨o,s,a2,c2,G,rfl,ho0,ho1,ho2,ho3,ho4,ho5,_,es,hp,_⟩:=hs.get1 hi';have hle:=JP (w:=Na) (l:=l) (i:=i+1);rw[E2 hi] at hle;have hel:(Hk k l)[i]=Lh (k+Bj Na (l.take i)) l[i]:=by unfold Hk;exact Fb hi _
  have hpl:=(hn.2 _ (zdf hi)).1;rw[hel] at ho0 ho1 ho2 ho4 ho5;have hp':RTags false h [.sl 2 a2 l[i].past.length c2] (BN Ns C0 l[i].past (k+Bj Na (l.take i)+3)) G:=by rw[hel] at hp;simp only[Lh,Ba] at hp;exact hp
  have es':∀ {R':Type} (K:Pq->Nat->Nq->Option R'),eS 2 s K=K a2 l[i].past.length c2:=by intro R' K;rw[es K,hel];simp only[Lh,Ba]
  unfold CX at hB;generalize hk':k+(Bj Na (l.take i):Int)=k' at *
  simp only[EN] at hB;have hw:Na l[i]=5+Bj C0 l[i].past:=rfl;rw[hw] at hle ⊢;rw[Cj.e,Am (by omega),Ac hi];simp only[Lh] at ho0 ho1 ho2 ho4 ho5;simp only[Ae,A7,ho0,ho1,ho2,ho3,Aa,Ab,Ag,es',EI,Aq,Ac hi];rw[wr (n:=k'+1) (by omega) (by omega),EI,Aq,wr (n:=k'+1+1) (by omega) (by omega),show k'+1+1=k'+2 by omega,EI,Aq,wr (n:=k'+2+1) (by omega) (by omega),show k'+2+1=k'+3 by omega];rw[JR hp' (by omega) (by simp only[EN];omega) hpl];simp only[Ad,Ab];rw[Aj (by omega),FJ (by omega) (by simp only[EN];omega)];simp only[Ae,A7,ho4,ho5,Aa,Ag,Ad,BO,zch,Aq,Ax];rw[wr (n:=k'+3+Bj C0 l[i].past+1) (by omega) (by omega),wr (n:=k'+3+Bj C0 l[i].past+1+1) (by omega) (by omega),Au (by omega)];rw[show k'+((5+Bj C0 l[i].past:Nat):Int)=k'+3+Bj C0 l[i].past+1+1 by omega];cases ((k'+3+Bj C0 l[i].past+1).tmod 3==0)<;>simp only[Aq,Az]
 ·rw[Cj.e,Aj (by omega)];rfl
noncomputable def PC (k:Int) (l:List (List Ver)):List (List Ver):=BN Hk CX l k
def M4 (l:List (List Ver)):Nat:=Bj CX l
noncomputable def Js (k:Int) (l:List Node):List Node:=BN Oy KP l k
def Ei (l:List Node):Nat:=Bj KP l
theorem CF {k:Int}:(Hk k l).length=l.length:=Ba
theorem Re {l:List (List Ver)} (hs:RVss false h [.sl 1 a l.length c] l F) (hlo:∀ b∈F,lo<=b) (hnd:F.Nodup) (h0:0<=k) (hB:k+M4 l<=EN) (hn:Yc l) :
  ∃ h',Af lo 171 [.sl 1 a l.length c,Iv k] h=some (Iv (k+M4 l),h')/\RVss false h' [.sl 1 a l.length c] (PC k l) F/\h'.length=h.length/\Mv h F h' F:=by
 have hn1:=hn.1;obtain ⟨h',e,r⟩:=Fd (El:=RVers false) rvers_ok (f:=Hk) (w:=CX) (B:=EN) (λk i hh=>Cr lo a l.length c k (i:Nat) hh) (λi k hh x b j rs row G ha hbF hbG hGn hGF hb hrow hel hx hi h0 hB=>by
  have:∃ s,row = [s]:=by obtain ⟨R',a',c',e,_⟩:=hel;exact ⟨_,e⟩
  obtain ⟨s,rfl⟩:=this;obtain ⟨a2,c2,es,hp⟩:=hel.form;subst ha;obtain ⟨h4,e4,r4,l4,m4⟩:=HV (lo:=lo) hp (λy hy=>hlo y (hGF y hy)) hGn h0 hB (hn.2 x hx);have hld:ld hh b (j+i) 0 1=some [s]:=by simp only[ld,Heap.rows?,hb,zdF,hrow];rfl
  rw[<- CF (k:=k)] at r4;refine ⟨h4,[s],?_,by rw[set_same hrow,m4.fr' l4 b hbG];exact hb,Sli.same hel (by rw[CF];exact es) r4,λy _ hyG=>m4.fr' l4 y hyG,l4⟩;rw[Cr.e,Am (by omega),Ac hi];simp only[Ae,A7,hld,Aa,Ag,es];rw[e4];simp only[Ad,Ab,Au (show i<9223372036854775807 by omega)]) (λk hh=>by
  rw[Cr.e,Aj (by omega)]) hs hnd h0 hB
 exact ⟨h',O1 e,r⟩
theorem Ri {l:List (List Ver)} (hs:RVss false h [.sl 1 a l.length c] (PC k l) F) (h0:0<=k) (hB:k+M4 l<=EN) (hn:Yc l) :
  Af lo 175 [.sl 1 a l.length c,Iv k] h=some (Iv (k+M4 l),h):=by
 have hn1:=hn.1;refine O6 (h':=h) ?_;refine (Gn (w:=CX) (l:=l) (k:=k) (λk i=>Cv (List.length h) a l.length c k 0 (i:Nat) h) λi hi=>?_).trans ?_
 ·have hi':i<(PC k l).length:=by unfold PC;rw[Ba];exact hi
  obtain ⟨o,s,a2,c2,G,rfl,ho,es,hp,_⟩:=hs.get hi';have hle:=JP (w:=CX) (l:=l) (i:=i+1);rw[E2 hi] at hle;have hel:(PC k l)[i]=Hk (k+Bj CX (l.take i)) l[i]:=by unfold PC;exact Fb hi _
  rw[hel,CF] at hp;have es':∀ {R':Type} (K:Pq->Nat->Nq->Option R'),eS 6 s K=K a2 l[i].length c2:=by intro R' K;rw[es K,hel,CF]
  unfold M4 at hB;generalize hk':k+(Bj CX (l.take i):Int)=k' at *
  rw[Cv.e,Am (by omega),Ac hi];simp only[Ae,A7,ho,Aa,Ag,es'];rw[HW hp (by omega) (by omega) (hn.2 _ (zdf hi))];simp only[Ad,Ab,Au (show i<9223372036854775807 by omega)];rw[Aj (by omega)]
 ·rw[Cv.e,Aj (by omega)];rfl
end


variable {l:List Node}
section
variable {lo:Nat}{h:Heap}{F:List Nat}{a:Pq}{c:Nq}{k:Int}
theorem Rg (hs:RNodes false h [.sl 2 a l.length c] l F) (hlo:∀ b∈F,lo<=b) (hnd:F.Nodup) (h0:0<=k) (hB:k+Ei l<=EN) (hn:De l) :
  ∃ h',Af lo 169 [.sl 2 a l.length c,Iv k] h=some (Iv (k+Ei l),h')/\RNodes false h' [.sl 2 a l.length c] (Js k l) F/\h'.length=h.length/\Mv h F h' F:=by
 have hn1:=hn.1;obtain ⟨h',e,r⟩:=Fd (El:=RNode false) rnode_ok (f:=Oy) (w:=KP) (B:=EN) (λk i hh=>Ct lo a l.length c k (i:Nat) hh) (λi k hh x b j rs row G ha hbF hbG hGn hGF hb hrow hel hx hi h0 hB=>by
  obtain ⟨s1,s2,F1,F2,rfl,rfl,p1,p2⟩:=hel;obtain ⟨a1,c1,e1,q1⟩:=p1.form;obtain ⟨a2,c2,e2,q2⟩:=p2.form;subst ha;have hsm:=hn.2 x hx;have hw:KP x=CX x.store+CX x.wait:=rfl;rw[hw] at hB;rw[zdg] at hGn;have d12:∀ y∈F2,y∉F1:=λy h2 h1=>hGn.2.2 y h1 y h2 rfl;have d21:∀ y∈F1,y∉F2:=λy h1 h2=>hGn.2.2 y h1 y h2 rfl;have hbG1:b∉F1:=λhm=>hbG (zdQ _ hm);have hbG2:b∉F2:=λhm=>hbG (zef _ hm);obtain ⟨h4,e4,r4,l4,m4⟩:=HV (lo:=lo) q1 (λy hy=>hlo y (hGF y (zdQ _ hy))) hGn.1 h0 (by omega) hsm.1;have q2':=m4.keep rvers_ok q2 d12;obtain ⟨h5,e5,r5,l5,m5⟩:=HV (lo:=lo) (k:=k+CX x.store) q2' (λy hy=>hlo y (hGF y (zef _ hy))) hGn.2.1 (by omega) (by omega) hsm.2;have hld:ld hh b (j+i) 0 1=some [s1]:=by simp only[ld,Heap.rows?,hb,zdF,hrow];rfl
  have hb4:h4[b]?=some (.rows 2 (NO false) false rs):=by rw[m4.fr' l4 b hbG1];exact hb
  have hld4:ld h4 b (j+i) 1 1=some [s2]:=by simp only[ld,Heap.rows?,hb4,zdF,hrow];rfl
  have r4':=m5.keep rvers_ok r4 d21;rw[<- CF (k:=k)] at r4';rw[<- CF (k:=k+CX x.store)] at r5;refine ⟨h5,[s1,s2],?_,by rw[set_same hrow,m5.fr' l5 b hbG2];exact hb4,⟨s1,s2,F1,F2,rfl,rfl,Sli.same p1 (by rw[CF];exact e1) r4',Sli.same p2 (by rw[CF];exact e2) r5⟩,
   λy _ hyG=>?_,by omega⟩
  ·rw[Ct.e,Am (by omega),Ac hi];simp only[Ae,A7,hld,Aa,Ag,e1];rw[e4];simp only[Ad,Ab];rw[Ac hi,hld4];simp only[Ae,Aa,Ag,e2];rw[e5];simp only[Ad,Ab,Au (show i<9223372036854775807 by omega)];rw[show k+(CX x.store:Int)+(CX x.wait:Int)=k+((KP x:Nat):Int) by rw[hw];omega]
  ·rw[m5.fr' l5 y λhm=>hyG (zef _ hm),m4.fr' l4 y λhm=>hyG (zdQ _ hm)]) (λk hh=>by
  rw[Ct.e,Aj (by omega)]) hs hnd h0 hB
 exact ⟨h',O3 e,r⟩
theorem Rk (hs:RNodes false h [.sl 2 a l.length c] (Js k l) F) (h0:0<=k) (hB:k+Ei l<=EN) (hn:De l) :
  Af lo 173 [.sl 2 a l.length c,Iv k] h=some (Iv (k+Ei l),h):=by
 have hn1:=hn.1;refine O8 (h':=h) ?_;refine (Gn (w:=KP) (l:=l) (k:=k) (λk i=>Cx (List.length h) a l.length c k 0 (i:Nat) h) λi hi=>?_).trans ?_
 ·have hi':i<(Js k l).length:=by unfold Js;rw[Ba];exact hi
  obtain ⟨o,s1,s2,a1,c1,a2,c2,G1,G2,rfl,_,ho1,ho2,e1,e2,p1,p2,_⟩:=hs.get hi';have hle:=JP (w:=KP) (l:=l) (i:=i+1);rw[E2 hi] at hle;have hel:(Js k l)[i]=Oy (k+Bj KP (l.take i)) l[i]:=by unfold Js;exact Fb hi _
  have hsm:=hn.2 _ (zdf hi);rw[hel] at p1 p2;simp only[Oy,CF] at p1 p2;have e1':∀ {R':Type} (K:Pq->Nat->Nq->Option R'),eS 6 s1 K=K a1 l[i].store.length c1:=by intro R' K;rw[e1 K,hel];simp only[Oy,CF]
  have e2':∀ {R':Type} (K:Pq->Nat->Nq->Option R'),eS 6 s2 K=K a2 l[i].wait.length c2:=by intro R' K;rw[e2 K,hel];simp only[Oy,CF]
  have hw:KP l[i]=CX l[i].store+CX l[i].wait:=rfl;unfold Ei at hB;generalize hk':k+(Bj KP (l.take i):Int)=k' at *
  rw[hw] at hle ⊢;rw[Cx.e,Am (by omega),Ac hi];simp only[Ae,A7,ho1,ho2,Aa,Ag,e1',e2',Ac hi];rw[HW p1 (by omega) (by omega) hsm.1];simp only[Ad,Ab];rw[Aj (by omega),ho2];simp only[Ae,Aa,Ag,e2'];rw[HW p2 (by omega) (by omega) hsm.2];simp only[Ad,Ab,Au (show i<9223372036854775807 by omega)];rw[Aj (by omega),show k'+((CX l[i].store+CX l[i].wait:Nat):Int)=k'+(CX l[i].store:Int)+(CX l[i].wait:Int) by omega]
 ·rw[Cx.e,Aj (by omega)];rfl
theorem Li {k:Int}:(Js k l).length=l.length:=Ba
theorem Ox {k:Int}{l:List (List Ver)}:(PC k l).length=l.length:=Ba
def Un (p:Place):Nat:=Ei p.chain+CX p.log+M4 p.got
theorem RPlace.cells {ro:Bool}{p:Place}{a1 a2 a3:Pq}{c1 c2 c3:Nq} (h1:RPlace ro h (p.cs a1 c1 a2 c2 a3 c3) p F) :
  ∃ F1 F2 F3,F=F1++(F2++F3)/\RNodes ro h [.sl 2 a1 p.chain.length c1] p.chain F1/\RVers ro h [.sl 6 a2 p.log.length c2] p.log F2/\RVss ro h [.sl 1 a3 p.got.length c3] p.got F3:=by
 obtain ⟨_,_,_,F1,F2,F3,e1,rfl,r1,r2,r3⟩:=h1;injection e1 with _ e1;injection e1 with _ e1;injection e1 with x1 e1;injection e1 with x2 e1;injection e1 with x3 e1;subst x1;subst x2;subst x3;exact ⟨F1,F2,F3,rfl,r1,r2,r3⟩
end


variable {s:ByteArray}{l p q:List Tag}
def MG (b:UInt8):Bool:=Ah b.toNat 33 126
def In (s:ByteArray):Bool:=s.data.toList.all MG&&decide ((s.size:Int)<=8)
def Ck (p:List Tag):Bool:=decide (p.length=4)&&p.all λt=>CY t.time t.place
def CD (p q:List Tag):Bool:=(p.zip q).all λx => !Hb x.2.time x.2.place x.1.time x.1.place
def E3 (p:List Tag):Int:=p.foldl (λm t=>if t.time>m then t.time else m) 0
def JO (s:ByteArray):Bool:=decide (s.size=0)
def HR (v:Ver):Bool:=Ah v.key 0 3&&In v.text&&(!v.gone || JO v.text)&&Ck v.past
def Da (v:Ver):Bool:=HR v&&CY v.tag.time v.tag.place&&decide (E3 v.past<v.tag.time)
section
variable {lo:Nat}{ro ro':Bool}{h:Heap}{F F':List Nat}{a a':Pq}{c c':Nq}
theorem Tq {i:Nat} (hi:i<s.data.toList.length):Pk s (i:Nat)=some (s.data.toList[i]):=by
 unfold Pk;have:i<s.size:=by simpa using hi
 simp[this];rfl
theorem SA (hn:s.size<=1048576):Af lo 55 [.str s] h=some (.bool (In s),h):=by
 refine P4 (h':=h) ?_;have hl:s.data.toList.length=s.size:=by simp
 refine (R5 (p:=MG) (l:=s.data.toList) (λi=>CK (List.length h) s false (i:Nat) h) (some (.bool false,h)) (some (.bool (decide ((s.size:Int)<=8)),h)) (λi hi=>?_) ?_).trans ?_
 ·rw[CK.e,Am (by omega)];simp only[Tq hi,Ae,Au (show i<9223372036854775807 by omega)];unfold MG Ah;generalize s.data.toList[i]=b;by_cases h1:(b.toNat:Int)<33
  ·rw[Am h1,if_neg (by simp;omega)]
  ·rw[Aj h1];by_cases h2:(b.toNat:Int)>126
   ·rw[Am h2,if_neg (by simp;omega)]
   ·rw[Aj h2,if_pos (by simp;omega)]
 ·rw[CK.e,Aj (by omega)];by_cases h3:(s.size:Int)<=8
  ·rw[Am h3,decide_eq_true h3]
  ·rw[Aj h3,decide_eq_false h3]
 ·unfold In;cases s.data.toList.all MG<;>simp
theorem Wc (hn:s.size<=1048576):Af lo 203 [.str s] h=some (.bool (In s),h):=by
 refine Ti (h':=h) ?_;have hl:s.data.toList.length=s.size:=by simp
 refine (R5 (p:=MG) (l:=s.data.toList) (λi=>Ds (List.length h) s false (s.size:Nat) (i:Nat) h) (some (.bool false,h)) (some (.bool (decide ((s.size:Int)<=8)),h)) (λi hi=>?_) ?_).trans ?_
 ·have hb:s.data.toList[i].toNat<256:=s.data.toList[i].toNat_lt;rw[Ds.e,Am (by omega)];simp only[Tq hi,Ae,Au (show i<9223372036854775807 by omega),Bk,Ad,Ax];rw[wr (by omega) (by omega)];unfold MG;cases Ah (s.data.toList[i].toNat:Int) 33 126<;>simp
 ·rw[Ds.e,Aj (by omega)];by_cases h3:(s.size:Int)<=8
  ·rw[Am h3,decide_eq_true h3]
  ·rw[Aj h3,decide_eq_false h3]
 ·unfold In;cases s.data.toList.all MG<;>simp
theorem SR {g:Nat}{cl:List V}{p:Tag->Bool} (hs:RTags ro h [.sl 2 a l.length c] l F) (hn:l.length<=1048576)
  (hp:∀ lo d,d∈l->Af lo g (Ea [.agg [Iv d.time,Iv d.place]] cl) h=some (.bool (p d),h)) :
  Af lo 214 [.sl 2 a l.length c,.fn g cl] h=some (Iv (CG p l 0),h):=by
 have loop:∀ m k x,m+k=l.length->AG (List.length h) a l.length c g cl x (l.length:Nat) (k:Nat) h=some (Iv (CG p (l.drop k) k),h):=by
  intro m;induction m with
  | zero =>intro k x hk;rw[AG.e,Aj (by omega),show k=l.length by omega];simp[CG]
  | succ m ih =>
   intro k x hk;have hlt:k<l.length:=by omega
   obtain ⟨o,rfl,ho⟩:=hs.get hlt;rw[AG.e,Am (by omega),Ac (by omega)];simp only[Ae,A7,ho,Aa,Ab,Ag];rw[hp (List.length h) l[k] (by simp),Ad,Ax,zdw hlt];simp only[CG];cases p l[k]
   ·simp only[Az,cond_false];rw[Au (by omega)];exact ih (k+1) _ (by omega)
   ·simp
 refine FE (h':=h) ?_;simpa using loop l.length 0 0 (by omega)
theorem Wg (hs:RTags ro h [.sl 2 a l.length c] l F) (hn:l.length<=1048576):Af lo 71 [.agg [.sl 2 a l.length c]] h=some (.bool (Ck l),h):=by
 refine Tl (h':=h) ?_;rw[EX (h':=h) (v := .bool (l.any λt => !CY t.time t.place)) (by
  rw[SR hs hn (p:=λt => !CY t.time t.place) (λlo d _=>Qm (h':=h) (by rw[RB];simp only[Ad,Ax];cases CY d.time d.place<;>rfl))];simp only[Ad,Ab,Qw];rw[JB];simp)]
 unfold Ck;by_cases h3:l.length=4
 ·rw[show ((l.length:Int)==4)=true by simp;omega,Aq,decide_eq_true h3];simp only[Ad,Ax];rw[List.any_eq_not_all_not];simp only[Bool.not_not,zdu];cases l.all (λt:Tag=>CY t.time t.place)<;>rfl
 ·rw[show ((l.length:Int)==4)=false by simp;omega,Az,decide_eq_false h3];rfl
theorem PJ (hs:RTags ro h [.sl 2 a l.length c] l F) (hn:l.length<=1048576):Af lo 118 [.agg [.sl 2 a l.length c]] h=some (Iv (E3 l),h):=by
 have loop:∀ m k x,m+k=l.length->BU (List.length h) x a l.length c (l.length:Nat) (k:Nat) h=some (Iv ((l.drop k).foldl (λm t=>if t.time>m then t.time else m) x),h):=by
  intro m;induction m with
  | zero =>intro k x hk;rw[BU.e,Aj (by omega),show k=l.length by omega];simp
  | succ m ih =>
   intro k x hk;have hlt:k<l.length:=by omega
   obtain ⟨o,rfl,ho⟩:=hs.get hlt;rw[BU.e,Am (by omega),Ac (by omega)];simp only[Ae,A7,ho,Aa,Ab,Ag,Au (show k<9223372036854775807 by omega)];rw[ih (k+1) _ (by omega),zdw hlt,zd6]
 refine MQ (h':=h) ?_;exact loop l.length 0 0 (by omega)
theorem QE:(s.toList==(ByteArray.mk #[]).toList)=JO s:=by
 unfold JO;rw[Bool.eq_iff_iff];rw[zeM,zeM];simp only[beq_iff_eq,decide_eq_true_eq];constructor
 ·intro h;have:=congrArg List.length h;simpa using this
 ·intro h;exact zdp (by simpa using h)
theorem NB {v:Ver} (hs:RTags ro h [.sl 2 a v.past.length c] v.past F) (hn:v.past.length<=1048576/\v.text.size<=1048576):Af lo 116 [.agg (v.cs a c)] h=some (.bool (HR v),h):=by refine MM (h':=h) ?_;simp only[KE,Wc hn.2,Wg hs hn.1,QE,Ad,Ax];unfold HR;cases Ah v.key 0 3<;>cases In v.text<;>cases v.gone<;>cases JO v.text<;>cases Ck v.past<;>rfl
theorem XF {v:Ver} (hs:RTags ro h [.sl 2 a v.past.length c] v.past F) (hn:v.past.length<=1048576/\v.text.size<=1048576):Af lo 134 [.agg (v.cs a c)] h=some (.bool (Da v),h):=by
 refine Vp (h':=h) ?_;simp only[NB hs hn,RB,PJ hs hn.1,Ad,Ax,Ab];unfold Da;by_cases hl:E3 v.past<v.tag.time
 ·rw[Am hl,decide_eq_true hl];cases HR v<;>cases CY v.tag.time v.tag.place<;>rfl
 ·rw[Aj hl,decide_eq_false hl];cases HR v<;>cases CY v.tag.time v.tag.place<;>rfl
theorem RG {x:Int}:∀ {l:List Tag}{m:Int},l.foldl (λm t=>if t.time>m then t.time else m) m<x<->m<x/\∀ t∈l,t.time<x
 | [],m=>by simp
 | t :: l,m=>by
  rw[zd6,RG];simp only[zdm,forall_eq_or_imp];constructor
  ·rintro ⟨h1,h2⟩
   refine ⟨?_,?_,h2⟩<;>(split at h1<;>omega)
  ·rintro ⟨h1,h2,h3⟩
   refine ⟨?_,h3⟩;split<;>omega
theorem latest_lt {x:Int}:E3 p<x<->0<x/\∀ t∈p,t.time<x:=RG
theorem IU {t p:Int} (h:CY t p=true):0<=t/\t<=999/\0<=p/\p<=2:=by simp[CY,Ah] at h;omega
theorem D9 (h:Ck p=true):p.length=4:=by simp only[Ck,DH,decide_eq_true_eq] at h;exact h.1
theorem QC {T:Type} (L:Nat->Option T) (no yes:Option T) (hl:p.length<=q.length)
  (step:∀ i (hi:i<p.length),L i=if Hb q[i].time q[i].place p[i].time p[i].place=true then no else L (i+1)) (done:L p.length=yes):L 0=if CD p q=true then yes else no:=by
 have hz:(p.zip q).length=p.length:=by simp;omega
 refine R5 (l:=p.zip q) L no yes (λi hi=>?_) (by rw[hz];exact done);rw[step i (by omega)];simp only[List.getElem_zip];cases Hb q[i].time q[i].place p[i].time p[i].place<;>simp
theorem Mz (hs:RTags ro h [.sl 2 a p.length c] p F) (hs':RTags ro' h [.sl 2 a' q.length c'] q F') (hn:p.length<=1048576) (hl:p.length<=q.length) :
  Af lo 69 [.agg [.sl 2 a p.length c],.agg [.sl 2 a' q.length c']] h=some (.bool (CD p q),h):=by
 refine N9 (h':=h) ?_;refine (QC (p:=p) (q:=q) (λi=>Cc (List.length h) false a p.length c (p.length:Nat) (i:Nat) a' q.length c' h) (some (.bool false,h)) (some (.bool true,h)) hl (λi hi=>?_) ?_).trans ?_
 ·obtain ⟨o,rfl,ho⟩:=hs.get hi;obtain ⟨o',rfl,ho'⟩:=hs'.get (show i<q.length by omega);rw[Cc.e,Am (by omega),Ac hi];simp only[Ae,A7,ho,ho',Aa,Ab,Ag,Ac (show i<q.length by omega),Ew,Ad,Ax,Au (show i<9223372036854775807 by omega)];cases Hb q[i].time q[i].place p[i].time p[i].place<;>simp
 ·rw[Cc.e,Aj (by omega)]
 ·cases CD p q<;>rfl
theorem JN (hs:RTags ro h [.sl 2 a p.length c] p F) (hs':RTags ro' h [.sl 2 a' q.length c'] q F') (hp:p.length=4) (hq:q.length=4) :
  Af lo 124 [.agg [.sl 2 a p.length c],.agg [.sl 2 a' q.length c']] h=some (.bool (CD p q),h):=by
 refine P5 (h':=h) ?_;refine (QC (p:=p) (q:=q) (λi=>CL (List.length h) false (i:Nat) a p.length c a' q.length c' h) (some (.bool false,h)) (some (.bool true,h)) (by omega) (λi hi=>?_) ?_).trans ?_
 ·obtain ⟨o,rfl,ho⟩:=hs.get hi;obtain ⟨o',rfl,ho'⟩:=hs'.get (show i<q.length by omega);rw[CL.e,Am (by omega),Ac (show i<q.length by omega)];simp only[Ae,A7,ho,ho',Aa,Ab,Ag,Ac hi,Ce,Ad,Ax,Au (show i<9223372036854775807 by omega)];cases Hb q[i].time q[i].place p[i].time p[i].place<;>simp
 ·rw[CL.e,Aj (by omega)]
 ·cases CD p q<;>rfl
end
end Go.Proofs.YtmgopagfoemomaaGreat
