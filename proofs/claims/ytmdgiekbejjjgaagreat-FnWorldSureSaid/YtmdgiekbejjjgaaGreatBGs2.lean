/- Part 2 of what is shown for the law Gs, whatever the input; no condition of its own. -/
import Derived.Test.YtmdgiekbejjjgaaGreatBGs1
set_option linter.unusedVariables false
set_option linter.unusedSimpArgs false
set_option linter.unnecessarySimpa false
set_option maxRecDepth 100000
namespace Go.Proofs.YtmdgiekbejjjgaaGreat
open Go T
noncomputable section
variable {lo:Nat}{f:Bool}{args:List V}{h:Heap}{t:Int}{p:Nq}{h':Heap}{v:V}{c:Nq}{n m:Nat}{a b:Pq}{y z x:Int}{r:V×Heap}{k i j g G H:Nat}{d A B a0 a1 a2:Pq}{u s C D c0 c1:Nq}{J P n0 n1:Nat}{S:ByteArray}{n2 n3:Nat}{F:Bool}{w:Int}{l:List V}
def pd:Nat->Nat->Code->Code
 | 0,_,c=>c
 | k+1,n,c=>match n%10 with
  | 1=>pd k (n/10) (cr c)
  | 2=>pd k (n/10) (cb c)
  | 3=>pd k (n/10) (cl c)
  | 4=>pd k (n/10) (ct c)
  | 5=>pd k (n/10) (ce c)
  | _=>c
def pf (n:Nat) (F:Func):Code:=pd 40 n (code F)
def LA (n:Nat) (F:Func) (p t q lo:Nat) (σ:St):Ov:=Lp (X n) lo (pf p F) t (CE t (kS (X n) lo (pf q F) 0 (MS (X n) F.results.toList))) σ
theorem eK {f:Nat}{fn:Func}{t:Ov}{p:Vh} (hf:Tryz.prog.funcs[f]?=some fn) (hk:t=some p) (hd:I.drop f=false:=by kernel_rfl) (ht:fnT I fn (eval Tryz.prog I) lo f args h=t:=by kernel_rfl):Ai lo f args h=some p:=YR hf hd (ht.trans hk)
theorem eD {f:Nat}{fn:Func}{t:Ov} (hf:Tryz.prog.funcs[f]?=some fn) (hk:t=some (v,h')) (hn:noId v=true) (hd:I.drop f=true:=by kernel_rfl) (ht:fnT I fn (eval Tryz.prog I) h.length f args h=t:=by kernel_rfl):Ai lo f args h=some (v,h):=YS hf hd (ht.trans hk) hn
theorem lE {X:Ctx}{id:Nat}{c:Code}{K:Ex->St->Ov}{σ:St}{t:Ov} (h:exec X lo c id σ (zaU X lo c id K)=t:=by kernel_rfl):Lp X lo c id K σ=t:=Lp_eq.trans h
def Fa lo a n c x b m p y z h:=
 LA 3 Tryz.f3 2213111111 0 1111111 lo ⟨[(3,.sl 5 a n c),(4,Iv x),(5,.sl 5 b m p),(6,Iv y),(7,Iv z)],[],h⟩
def Di lo a n c x b m p y z t h:=
 LA 3 Tryz.f3 221311111111 2 111111111 lo ⟨[(3,.sl 5 a n c),(4,Iv x),(5,.sl 5 b m p),(6,Iv y),(8,Iv z),(9,Iv t)],[],h⟩
theorem Fa.e :
  Fa lo a n c y b m p z x h=br (decide (x<4)) (Al (Ai lo 9 [.sl 5 a n c,Iv x] h) λv l=>eS 5 v λv v o=>Fa lo a n c y b m p (AL (z+(v:Int))) (AL (x+1)) l) (Di lo a n c y b m p z 0 0 h) :=
 lE
theorem Di.e :
  Di lo b m p z a n c t x y h=br (decide (y<(m:Int))) (br (decide (x<(n:Int))) (AB y m (eO b λv=>eO (ld h v.1 (v.2+y.toNat) 0 5) λv=>eC v λv l=>eI .i64 v λv=>eC l λl o=>eI .i64 l λl=>eC o λo s=>eI .i64 o λo=>eC s λs u=>eI .i64 s λs=>eC u λu w=>eI .i64 u λu=>eN w (AB x n (eO a λw=>eO (ld h w.1 (w.2+x.toNat) 0 5) λw=>eC w λw q=>eI .i64 w λw=>eC q λq g=>eI .i64 q λq=>eC g λg i=>eI .i64 g λg=>eC i λi j=>eI .i64 i λi=>eC j λj k=>eI .i64 j λj=>eN k (br ((v==w)&&((l==q)&&((o==g)&&((s==i)&&((u==j)&&true))))) (Di lo b m p z a n c t (AL (x+1)) (AL (y+1)) h) (Di lo b m p z a n c t x (AL (y+1)) h)))))) (br (t==(m:Int)) (br (x==(n:Int)) (Al (Ai lo 9 [.sl 5 a n c,Iv z] h) λv l=>eS 5 v λv o s=>Al (Ai lo 10 [.sl 5 v o s,.sl 5 a n c] l) λv l=>eB v (Cj l) (AN l)) (AN h)) (AN h))) (br (t==(m:Int)) (br (x==(n:Int)) (Al (Ai lo 9 [.sl 5 a n c,Iv z] h) λv l=>eS 5 v λv o s=>Al (Ai lo 10 [.sl 5 v o s,.sl 5 a n c] l) λv l=>eB v (Cj l) (AN l)) (AN h)) (AN h)) :=
 lE
def BA lo f x a n c b m p d k u e i s A j C B g D a0 G c0 a1 H c1 h:=
 LA 4 Tryz.f4 2213111111 0 1111111 lo ⟨[(4,.bool f),(8,.lp 8 0),(9,.lp 9 0),(10,Iv x)],[(8,(Dg a n c b m p d k u e i s)),(9,(Dg A j C B g D a0 G c0 a1 H c1))],h⟩
theorem Mh (hk:(br (decide ((n:Int)>1048576)) (Cj h) (br (decide ((m:Int)>1048576)) (Cj h) (Al (Ai lo 13 [.sl 1 a n c] h) λv l=>eU v λv=>eC v λv o=>eI .i64 v λv=>eC o λo s=>eI .i64 o λo=>eC s λs x=>eS 6 s λs y z=>eN x (Al (Ai lo 14 [Iv v,Iv o,.sl 6 s y z] l) λl x=>eA l λl=>eC l λl u=>eS 6 l λl w q=>eC u λu g=>eS 5 u λu i j=>eC g λg k=>eS 9 g λg t d=>eC k λk e=>eS 5 k λk f A=>eN e (Al (Ai lo 16 [Iv v,Iv o,.sl 6 s y z] x) λx e=>eA x λx=>eC x λx B=>eS 6 x λx C D=>eC B λB E=>eS 5 B λB G H=>eC E λE J=>eS 9 E λE K L=>eC J λJ M=>eS 5 J λJ N O=>eN M (Al (Ai lo 15 [At l w q u i j g t d k f A,At x C D B G H E K L J N O] e) λx e=>eB x (br ((w:Int)==0) (Al (Ai lo 16 [Iv v,Iv o,.sl 6 s y z] e) λx B=>eA x λx=>eC x λx C=>eS 6 x λx D E=>eC C λC G=>eS 5 C λC H J=>eC G λG K=>eS 9 G λG L M=>eC K λK N=>eS 5 K λK O P=>eN N (Al (Ai lo 15 [At l w q u i j g t d k f A,At x D E C H J G L M K O P] B) λx B=>eB x (Cj B) (AN B))) (Bd (decide (AL ((y:Int)+(1:Int))≠(0:Int))) (Aw s y z none (some (Iv ((m:Int).tmod (AL ((y:Int)+(1:Int)))))) none λx B C=>Al (Ai lo 14 [Iv v,Iv o,.sl 6 x B C] e) λx B=>eA x λx=>eC x λx C=>eS 6 x λx D E=>eC C λC G=>eS 5 C λC H J=>eC G λG K=>eS 9 G λG L M=>eC K λK N=>eS 5 K λK O P=>eN N (BA lo false 0 l w q u i j g t d k f A x D E C H J G L M K O P B)))) (Al (Ai lo 16 [Iv v,Iv o,.sl 6 s y z] e) λv o=>eA v λv=>eC v λv s=>eS 6 v λv x y=>eC s λs z=>eS 5 s λs e B=>eC z λz C=>eS 9 z λz D E=>eC C λC G=>eS 5 C λC H J=>eN G (Al (Ai lo 15 [At l w q u i j g t d k f A,At v x y s e B z D E C H J] o) λv l=>eB v (Cj l) (AN l)))))))))=some r) :
  Ai lo 4 [.sl 1 a n c,.sl 1 b m p] h=some r :=
 eK Tryz.func4 hk
theorem BA.e :
  BA lo f x a m c d k p A i u B j s a0 g C a1 G D a2 H c0 b n c1 h=br (decide (x<(n:Int))) (AB x n (eO b λv=>eO (ld h v.1 (v.2+x.toNat) 0 5) λv=>eC v λv l=>eI .i64 v λv=>eC l λv l=>eI .i64 v λv=>eC l λl o=>eI .i64 l λl=>eC o λo y=>eI .i64 o λo=>eC y λy z=>eI .i64 y λy=>eN z (br (v==3) (AB y m (eO a λv=>eO (ld h v.1 (v.2+y.toNat) 2 1) λv=>eC v λv z=>eN z (eS 2 v λv z w=>AB 0 z (eO v λv=>eO (ld h v.1 (v.2+0) 0 1) λv=>eC v λv z=>eN z (eS 6 v λv z w=>AB l z (eO v λv=>eO (ld h v.1 (v.2+l.toNat) 1 2) λv=>eC v λv l=>eI .i64 v λv=>eC l λl z=>eI .i64 l λl=>eN z (Al (Ai lo 17 [Ay v l,Ay o y] h) λv l=>eB v (AN l) (BA lo f (AL (x+1)) a m c d k p A i u B j s a0 g C a1 G D a2 H c0 b n c1 l)))))))) (BA lo f (AL (x+1)) a m c d k p A i u B j s a0 g C a1 G D a2 H c0 b n c1 h)))) (Cj h) :=
 lE
def BX lo f x a n c b m p d k u e i s A j C B g D a0 G c0 a1 H c1 h:=
 LA 5 Tryz.f5 221311111 0 111111 lo ⟨[(4,.bool f),(8,.lp 8 0),(9,.lp 9 0),(10,Iv x)],[(8,(Dg a n c b m p d k u e i s)),(9,(Dg A j C B g D a0 G c0 a1 H c1))],h⟩
def BW lo f x a n c y b m p d k u e i s A j C B g D a0 G c0 a1 H c1 a2 J c2 h:=
 Lp (X 5) lo (pf 22111231221311111 Tryz.f5) 2 (CE 2 (CE 1 (kS (X 5) lo (pf 11221311111 Tryz.f5) 0 (zaU (X 5) lo (pf 221311111 Tryz.f5) 0 (CE 0 (kS (X 5) lo (pf 111111 Tryz.f5) 0 (MS (X 5) Tryz.f5.results.toList))))))) ⟨[(4,.bool f),(8,.lp 8 0),(9,.lp 9 0),(10,Iv x),(11,.sl 6 a n c),(12,Iv y)],[(8,(Dg b m p d k u e i s A j C)),(9,(Dg B g D a0 G c0 a1 H c1 a2 J c2))],h⟩
theorem Mi (hk:(br (decide ((n:Int)>1048576)) (Cj h) (br (decide ((m:Int)>1048576)) (Cj h) (Al (Ai lo 13 [.sl 1 a n c] h) λv l=>eU v λv=>eC v λv o=>eI .i64 v λv=>eC o λo s=>eI .i64 o λo=>eC s λs x=>eS 6 s λs y z=>eN x (Al (Ai lo 18 [Iv v,Iv o,.sl 6 s y z,Iv (m:Int)] l) λl x=>eU l λl=>eC l λl u=>eA l λl=>eC l λl w=>eS 6 l λl q g=>eC w λw i=>eS 5 w λw j k=>eC i λi t=>eS 9 i λi d e=>eC t λt f=>eS 5 t λt A B=>eN f (eC u λu f=>eA u λu=>eC u λu C=>eS 6 u λu D E=>eC C λC G=>eS 5 C λC H J=>eC G λG K=>eS 9 G λG L M=>eC K λK N=>eS 5 K λK O P=>eN N (eN f (Al (Ai lo 16 [Iv v,Iv o,.sl 6 s y z] x) λv o=>eA v λv=>eC v λv s=>eS 6 v λv x y=>eC s λs z=>eS 5 s λs f N=>eC z λz Q=>eS 9 z λz S U=>eC Q λQ W=>eS 5 Q λQ Y Z=>eN W (Al (Ai lo 15 [At u D E C H J G L M K O P,At v x y s f N z S U Q Y Z] o) λv o=>eB v (BX lo false 0 l q g w j k i d e t A B u D E C H J G L M K O P o) (AN o)))))))))=some r) :
  Ai lo 5 [.sl 1 a n c,.sl 1 b m p] h=some r :=
 eK Tryz.func5 hk
theorem BX.e {lo n k i j m g G H:Nat}{f:Bool}{x:Int}{a d A B b a0 a1 a2:Pq}{c p u s C D c0 c1:Nq}{h:Heap} :
  BX lo f x a n c d k p A i u B j s b m C a0 g D a1 G c0 a2 H c1 h=br (decide (x<(m:Int))) (AB x m (eO b λv=>eO (ld h v.1 (v.2+x.toNat) 3 1) λv=>eC v λv l=>eN l (eS 6 v λv l o=>AB x n (eO a λy=>eO (ld h y.1 (y.2+x.toNat) 3 1) λy=>eC y λy z=>eN z (eS 6 y λy y z=>br (decide ((y:Int)>(l:Int))) (AN h) (AB x n (eO a λy=>eO (ld h y.1 (y.2+x.toNat) 3 1) λy=>eC y λy z=>eN z (eS 6 y λy y z=>Aw v l o none (some (Iv (y:Int))) none λy z w=>AB x n (eO a λq=>eO (ld h q.1 (q.2+x.toNat) 3 1) λq=>eC q λq t=>eN t (eS 6 q λq t e=>Al (Ai lo 19 (KJ y z w q t e) h) λy z=>eB y (BW lo f x v l o 0 a n c d k p A i u B j s b m C a0 g D a1 G c0 a2 H c1 z) (AN z))))))))))) (Cj h) :=
 lE
theorem BW.e {a3:Pq}{c2:Nq} :
  BW lo f x d m c y a k p A i u B j s a0 g C b n D a1 G c0 a2 H c1 a3 J c2 h=br (decide (y<(n:Int))) (AB y n (eO b λv=>eO (ld h v.1 (v.2+y.toNat) 4 1) λv=>eC v λv l=>eN l (eS 1 v λv l o=>AB x l (eO v λv=>eO (ld h v.1 (v.2+x.toNat) 0 1) λv=>eC v λv l=>eN l (eS 6 v λv l o=>br (decide ((l:Int)>(m:Int))) (AN h) (Aw d m c none (some (Iv (l:Int))) none λz w q=>Al (Ai lo 19 (KJ z w q v l o) h) λv o=>eB v (AB y k (eO a λv=>eO (ld o v.1 (v.2+y.toNat) 4 1) λv=>eC v λv z=>eN z (eS 1 v λv z w=>AB x z (eO v λv=>eO (ld o v.1 (v.2+x.toNat) 0 1) λv=>eC v λv z=>eN z (eS 6 v λv v z=>br (decide ((v:Int)>(l:Int))) (AN o) (BW lo f x d m c (AL (y+1)) a k p A i u B j s a0 g C b n D a1 G c0 a2 H c1 a3 J c2 o)))))) (AN o))))))) (BX lo f (AL (x+1)) a k p A i u B j s a0 g C b n D a1 G c0 a2 H c1 a3 J c2 h) :=
 lE
def BC lo f x a n c b m p d k u e i s A j C B g D a0 G c0 a1 H c1 h:=
 LA 6 Tryz.f6 221311111 0 111111 lo ⟨[(4,.bool f),(8,.lp 8 0),(9,.lp 9 0),(10,Iv x)],[(8,(Dg a n c b m p d k u e i s)),(9,(Dg A j C B g D a0 G c0 a1 H c1))],h⟩
theorem KU (hk:(br (decide ((n:Int)>1048576)) (Cj h) (br (decide ((m:Int)>1048576)) (Cj h) (Al (Ai lo 13 [.sl 1 a n c] h) λv l=>eU v λv=>eC v λv o=>eI .i64 v λv=>eC o λo s=>eI .i64 o λo=>eC s λs x=>eS 6 s λs y z=>eN x (Al (Ai lo 18 [Iv v,Iv o,.sl 6 s y z,Iv (m:Int)] l) λl x=>eU l λl=>eC l λl u=>eA l λl=>eC l λl w=>eS 6 l λl q g=>eC w λw i=>eS 5 w λw j k=>eC i λi t=>eS 9 i λi d e=>eC t λt f=>eS 5 t λt A B=>eN f (eC u λu f=>eA u λu=>eC u λu C=>eS 6 u λu D E=>eC C λC G=>eS 5 C λC H J=>eC G λG K=>eS 9 G λG L M=>eC K λK N=>eS 5 K λK O P=>eN N (eN f (Al (Ai lo 16 [Iv v,Iv o,.sl 6 s y z] x) λv o=>eA v λv=>eC v λv s=>eS 6 v λv x y=>eC s λs z=>eS 5 s λs f N=>eC z λz Q=>eS 9 z λz S U=>eC Q λQ W=>eS 5 Q λQ Y Z=>eN W (Al (Ai lo 15 [At u D E C H J G L M K O P,At v x y s f N z S U Q Y Z] o) λv o=>eB v (BC lo false 0 l q g w j k i d e t A B u D E C H J G L M K O P o) (AN o)))))))))=some r) :
  Ai lo 6 [.sl 1 a n c,.sl 1 b m p] h=some r :=
 eK Tryz.func6 hk
theorem BC.e :
  BC lo f x a m c d k p A i u B j s b n C a0 g D a1 G c0 a2 H c1 h=br (decide (x<(n:Int))) (AB x m (eO a λv=>eO (ld h v.1 (v.2+x.toNat) 2 1) λv=>eC v λv l=>eS 2 v λv o y=>eN l (Al (Ai h.length 21 [Ap v o y] h) λv l=>eA v λv=>eC v λv o=>eS 2 v λv y z=>eN o (AB x n (eO b λo=>eO (ld l o.1 (o.2+x.toNat) 2 1) λo=>eC o λo w=>eS 2 o λo q t=>eN w (Al (Ai lo 21 [Ap o q t] l) λl o=>eA l λl=>eC l λl w=>eS 2 l λl q t=>eN w (Al (Ai lo 20 [Ap v y z,Ap l q t] o) λv l=>eB v (AB x m (eO a λv=>eO (ld l v.1 (v.2+x.toNat) 1 1) λv=>eC v λv o=>eN o (eI .i64 v λv=>AB x n (eO b λo=>eO (ld l o.1 (o.2+x.toNat) 1 1) λo=>eC o λo y=>eN y (eI .i64 o λo=>br (decide (v>o)) (AN l) (BC lo f (AL (x+1)) a m c d k p A i u B j s b n C a0 g D a1 G c0 a2 H c1 l)))))) (AN l)))))))) (Cj h) :=
 lE
theorem Nt (hk:(br (decide ((m:Int)>1048576)) (Cj h) (br (decide ((n:Int)>1048576)) (Cj h) (Al (Ai lo 13 [.sl 1 a m c] h) λv l=>eU v λv=>eC v λv o=>eI .i64 v λv=>eC o λo s=>eI .i64 o λo=>eC s λs x=>eS 6 s λs y z=>eN x (Al (Ai lo 14 [Iv v,Iv o,.sl 6 s y z] l) λl x=>eA l λl=>eC l λl u=>eS 6 l λl w q=>eC u λu g=>eS 5 u λu i j=>eC g λg k=>eS 9 g λg t d=>eC k λk e=>eS 5 k λk f A=>eN e (Al (Ai lo 16 [Iv v,Iv o,.sl 6 s y z] x) λx e=>eA x λx=>eC x λx B=>eS 6 x λx C D=>eC B λB E=>eS 5 B λB G H=>eC E λE J=>eS 9 E λE K L=>eC J λJ M=>eS 5 J λJ N O=>eN M (Al (Ai lo 15 [At l w q u i j g t d k f A,At x C D B G H E K L J N O] e) λx e=>eB x (br ((w:Int)==0) (Al (Ai lo 16 [Iv v,Iv o,.sl 6 s y z] e) λx B=>eA x λx=>eC x λx C=>eS 6 x λx D E=>eC C λC G=>eS 5 C λC H J=>eC G λG K=>eS 9 G λG L M=>eC K λK N=>eS 5 K λK O P=>eN N (Al (Ai lo 15 [At l w q u i j g t d k f A,At x D E C H J G L M K O P] B) λx B=>eB x (Cj B) (AN B))) (Bd (decide (o≠(0:Int))) (Al (Ai lo 22 [At l w q u i j g t d k f A,Bh 4 ((n:Int).tmod o) 0 0 ⟨⟨[]⟩⟩ false] e) λx B=>eU x λx=>eC x λx C=>eA x λx=>eC x λx D=>eS 6 x λx x x=>eC D λx D=>eS 5 x λx E G=>eC D λD G=>eS 9 D λD D D=>eC G λD G=>eS 5 D λD D H=>eN G (eC C λC G=>eB C (eN G (AB ((n:Int).tmod o) i (eO u λC=>eO (ld B C.1 (C.2+(((n:Int).tmod o).toNat)) 0 1) λC=>eC C λC H=>eN H (eI .i64 C λC=>AB C w (eO l λH=>eO (ld B H.1 (H.2+C.toNat) 2 1) λC=>eC C λC H=>eS 2 C λC J K=>eN H (AB (AL ((J:Int) - 1)) J (eO C λC=>eO (ld B C.1 (C.2+((AL ((J:Int) - (1:Int))).toNat)) 0 1) λC=>eC C λC H=>eS 6 C λC J K=>eN H (AB ((n:Int).tmod o) E (eO x λH=>eO (ld B H.1 (H.2+(((n:Int).tmod o).toNat)) 1 1) λH=>eC H λH L=>eS 2 H λH M N=>eN L (Al (Ai B.length 24 [By C J K] B) λL O=>eA L λL=>eC L λL P=>eS 2 L λL Q S=>eN P (Al (Ai lo 23 [Ap H M N,Ap L Q S] O) λH L=>eB H (Al (Ai lo 25 [By C J K] L) λC H=>eB C (AB ((n:Int).tmod o) i (eO u λC=>eO (ld H C.1 (C.2+(((n:Int).tmod o).toNat)) 1 1) λC=>eC C λC J=>eS 2 C λC K M=>eN J (AB ((n:Int).tmod o) E (eO x λx=>eO (ld H x.1 (x.2+(((n:Int).tmod o).toNat)) 1 1) λx=>eC x λx E=>eS 2 x λx J N=>eN E (Al (Ai lo 20 [Ap C K M,Ap x J N] H) λx C=>eB x (br ((D:Int)==AL ((f:Int)+(4:Int))) (Cj C) (AN C)) (AN C)))))) (AN H)) (AN L)))))))))))) (eN G (Cj B)))))) (Al (Ai lo 16 [Iv v,Iv o,.sl 6 s y z] e) λv o=>eA v λv=>eC v λv s=>eS 6 v λv x y=>eC s λs z=>eS 5 s λs e B=>eC z λz C=>eS 9 z λz D E=>eC C λC G=>eS 5 C λC H J=>eN G (Al (Ai lo 15 [At l w q u i j g t d k f A,At v x y s e B z D E C H J] o) λv l=>eB v (Cj l) (AN l)))))))))=some r) :
  Ai lo 7 [.sl 1 a m c,.sl 1 b n p] h=some r :=
 eK Tryz.func7 hk
def Ey lo x a n c b m p y z h:=
 LA 9 Tryz.f9 2213111 0 1111 lo ⟨[(1,Iv x),(5,.sl 5 a n c),(14,.sl 5 b m p),(15,Iv y),(16,Iv z)],[],h⟩
theorem Ey.e :
  Ey lo y a n c b m p z x h=br (decide (x<z)) (AB x m (eO b λv=>eO (ld h v.1 (v.2+x.toNat) 0 5) λv=>eC v λv l=>eI .i64 v λv=>eC l λl o=>eI .i64 l λl=>eC o λo s=>eI .i64 o λo=>eC s λs u=>eI .i64 s λs=>eC u λu w=>eI .i64 u λu=>eN w (br (v==y) (Au 5 (h ++ [.rows 5 32 false [Pm v l o s u]]) (.sl 5 (some (h.length,0)) 1 (some 1)) λw=>Dd lo 32 5 40 (.sl 5 a n c) w (h ++ [.rows 5 32 false [Pm v l o s u]]) λv l=>eS 5 v λv o s=>Ey lo y v o s b m p z (AL (x+1)) l) (Ey lo y a n c b m p z (AL (x+1)) h)))) (Aw a n c none (some (Iv (n:Int))) (some (Iv (n:Int))) λv l o=>some (.sl 5 v l o,h)) :=
 lE
def Dz lo a n c b m p f x h:=
 LA 10 Tryz.f10 221311 0 111 lo ⟨[(0,.sl 5 a n c),(1,.sl 5 b m p),(4,.bool f),(5,Iv x)],[],h⟩
theorem So (hk:(br ((n:Int)==(m:Int)) (Dz h.length a n c b m p false 0 h) (AN h))=some (v,h')) (hn:noId v=true:=by rfl) :
  Ai lo 10 [.sl 5 a n c,.sl 5 b m p] h=some (v,h) :=
 eD Tryz.func10 hk hn
theorem Dz.e :
  Dz lo a n c b m p f x h=br (decide (x<(n:Int))) (AB x n (eO a λv=>eO (ld h v.1 (v.2+x.toNat) 0 5) λv=>eC v λv l=>eI .i64 v λv=>eC l λl o=>eI .i64 l λl=>eC o λo s=>eI .i64 o λo=>eC s λs y=>eI .i64 s λs=>eC y λy z=>eI .i64 y λy=>eN z (AB x m (eO b λz=>eO (ld h z.1 (z.2+x.toNat) 0 5) λz=>eC z λz u=>eI .i64 z λz=>eC u λu w=>eI .i64 u λu=>eC w λw q=>eI .i64 w λw=>eC q λq g=>eI .i64 q λq=>eC g λg i=>eI .i64 g λg=>eN i (br ((v==z)&&((l==u)&&((o==w)&&((s==q)&&((y==g)&&true))))) (Dz lo a n c b m p f (AL (x+1)) h) (AN h)))))) (Cj h) :=
 lE
theorem HI (hk:(Al (Ai lo 31 [.sl 1 a n c] h) λv l=>eP v λv=>Al (Ai lo 32 [.ptr v] l) λl o=>eU l λl=>eC l λl s=>eI .i64 l λl=>eC s λs b=>eI .i64 s λs=>eC b λb x=>eS 6 b λb y z=>eN x (Al (Ai lo 33 [.ptr v,Iv 16] o) λo x=>eI .i64 o λo=>br (o==0) (Al (Ai lo 34 [.ptr v,.sl 1 (some (x.length,0)) 2 (some 2)] (x ++ [.rows 1 3 false [AW 0,AW 5]])) λv o=>eI .i64 v λv=>some (.tup [Iv v,Iv s,.sl 6 b y z],o)) (some (.tup [Iv l,Iv s,.sl 6 b y z],x))))=some r) :
  Ai lo 13 [.sl 1 a n c] h=some r :=
 eK Tryz.func13 hk
def BD lo n m k a i c x y j b g p G d H u J e P s n0 A n1 C h:=
 LA 14 Tryz.f14 2213111 0 1111 lo ⟨[(6,.lp 6 0),(7,(BU n m k)),(22,.sl 6 a i c),(23,Iv x),(24,Iv y)],[(6,[.sl j b g p,.sl G d H u,.sl J e P s,.sl n0 A n1 C])],h⟩
theorem JC (hk:(Al (Ai lo 35 (BI x y) h) λv l=>eB v (Al (Ai lo 36 (BI x y) l) λv o=>eA v λv=>eC v λv s=>eS 6 v λv b z=>eC s λs u=>eS 5 s λs w p=>eC u λu q=>eS 9 u λu g i=>eC q λq j=>eS 5 q λq k m=>eN j (eO (st lo (o ++ [.rows 4 41 false [[.sl 0 none 0 (some 0),.sl 0 none 0 (some 0),.sl 0 none 0 (some 0),.sl 0 none 0 (some 0)]]]) o.length 0 0 (Dg v b z s w p u g i q k m)) λv=>Aw a n c none (some (Iv (if (60:Int)<(n:Int) then (60:Int) else (n:Int)))) none λs b z=>BD lo o.length 0 0 s b z (b:Int) 0 0 none 0 (some 0) 0 none 0 (some 0) 0 none 0 (some 0) 0 none 0 (some 0) v)) (some (.agg [.sl 0 none 0 (some 0),.sl 0 none 0 (some 0),.sl 0 none 0 (some 0),.sl 0 none 0 (some 0)],l)))=some r) :
  Ai lo 14 [Iv x,Iv y,.sl 6 a n c] h=some r :=
 eK Tryz.func14 hk
theorem BD.e {lo n m k i j g G H J P n0 n1:Nat}{a b d A B:Pq}{c p u s C:Nq}{y x:Int}{h:Heap} :
  BD lo n m k a i c y x j b g p G d H u J A P s n0 B n1 C h=br (decide (x<y)) (AB x i (eO a λv=>eO (ld h v.1 (v.2+x.toNat) 0 6) λv=>eC v λv l=>eI .i64 v λv=>eC l λl o=>eI .i64 l λl=>eC o λo z=>eI .i64 o λo=>eC z λz w=>eI .i64 z λz=>eC w λw q=>eT w λw=>eC q λq t=>eBv q λq=>eN t (Al (Ai lo 37 [BU n m k,Bh v l o z w q] h) λv l=>eB v (BD lo n m k a i c y (AL (x+1)) j b g p G d H u J A P s n0 B n1 C l) (BD lo n m k a i c y (AL (x+1)) j b g p G d H u J A P s n0 B n1 C l)))) (eO (ld h n m k 4) λv=>eC v λv l=>eS 6 v λv o z=>eC l λl w=>eS 5 l λl q t=>eC w λw e=>eS 9 w λw f D=>eC e λe E=>eS 5 e λe K L=>eN E (Al (Ai lo 38 [At v o z l q t w f D e K L] h) λv l=>eA v λv=>eC v λv o=>eS 6 v λv z w=>eC o λo q=>eS 5 o λo t e=>eC q λq f=>eS 9 q λq D E=>eC f λf K=>eS 5 f λf L M=>eN K (some ((At v z w o t e q D E f L M),l)))) :=
 lE
def C0 lo f x a n c b m p d k u e i s A j C B g D a0 G c0 a1 H c1 h:=
 LA 15 Tryz.f15 221311 0 111 lo ⟨[(2,.lp 2 0),(3,.lp 3 0),(4,.bool f),(5,Iv x)],[(2,(Dg a n c b m p d k u e i s)),(3,(Dg A j C B g D a0 G c0 a1 H c1))],h⟩
def CZ lo f x a n c b m p d k u e i s A j C B g D a0 G c0 a1 H c1 h:=
 LA 15 Tryz.f15 2213111 2 1111 lo ⟨[(2,.lp 2 0),(3,.lp 3 0),(4,.bool f),(6,Iv x)],[(2,(Dg a n c b m p d k u e i s)),(3,(Dg A j C B g D a0 G c0 a1 H c1))],h⟩
def CY lo f x a n c b m p d k u e i s A j C B g D a0 G c0 a1 H c1 h:=
 LA 15 Tryz.f15 22131111 4 11111 lo ⟨[(2,.lp 2 0),(3,.lp 3 0),(4,.bool f),(9,Iv x)],[(2,(Dg a n c b m p d k u e i s)),(3,(Dg A j C B g D a0 G c0 a1 H c1))],h⟩
theorem Rs {e:Pq} (hk:(br ((n:Int)==(j:Int)) (br ((m:Int)==(g:Int)) (br ((k:Int)==(G:Int)) (Al (Ai h.length 10 [.sl 5 a i c,.sl 5 b H p] h) λl o=>eB l (C0 h.length false 0 d n u e m s A k C a i c B j D a0 g c0 a1 G c1 b H p o) (AN o)) (AN h)) (AN h)) (AN h))=some (v,h')) (hn:noId v=true:=by rfl) :
  Ai lo 15 [At d n u e m s A k C a i c,At B j D a0 g c0 a1 G c1 b H p] h=some (v,h) :=
 eD Tryz.func15 hk hn
theorem C0.e {lo n k i j m g G H:Nat}{f:Bool}{x:Int}{a d A B b a0 a1 a2:Pq}{c p u s C D c0 c1:Nq}{h:Heap} :
  C0 lo f x a n c d k p A i u B j s b m C a0 g D a1 G c0 a2 H c1 h=br (decide (x<(n:Int))) (AB x n (eO a λv=>eO (ld h v.1 (v.2+x.toNat) 0 6) λv=>eC v λv l=>eI .i64 v λv=>eC l λl o=>eI .i64 l λl=>eC o λo y=>eS 2 o λo z w=>eC y λy q=>eS 6 y λy t e=>eC q λq E=>eS 1 q λq J K=>eC E λE L=>eBv E λE=>eN L (AB x m (eO b λL=>eO (ld h L.1 (L.2+x.toNat) 0 6) λL=>eC L λL M=>eI .i64 L λL=>eC M λM N=>eI .i64 M λM=>eC N λN O=>eS 2 N λN P Q=>eC O λO S=>eS 6 O λO U W=>eC S λS Y=>eS 1 S λS Z v0=>eC Y λY v1=>eBv Y λY=>eN v1 (Al (Ai lo 39 [BV v l o z w y t e q J K E,BV L M N P Q O U W S Z v0 Y] h) λv l=>eB v (C0 lo f (AL (x+1)) a n c d k p A i u B j s b m C a0 g D a1 G c0 a2 H c1 l) (AN l)))))) (CZ lo f 0 a n c d k p A i u B j s b m C a0 g D a1 G c0 a2 H c1 h) :=
 lE
theorem CZ.e {lo k n i j g m G H:Nat}{f:Bool}{x:Int}{d a A B a0 b a1 a2:Pq}{c p u s C D c0 c1:Nq}{h:Heap} :
  CZ lo f x d k c a n p A i u B j s a0 g C b m D a1 G c0 a2 H c1 h=br (decide (x<(n:Int))) (AB x n (eO a λv=>eO (ld h v.1 (v.2+x.toNat) 0 5) λv=>eC v λv l=>eI .i64 v λv=>eC l λl o=>eS 2 l λl y z=>eC o λo w=>eI .i64 o λo=>eC w λw q=>eI .i64 w λw=>eC q λq t=>eI .i64 q λq=>eN t (AB x m (eO b λt=>eO (ld h t.1 (t.2+x.toNat) 0 5) λt=>eC t λt e=>eI .i64 t λt=>eC e λe E=>eS 2 e λe J K=>eC E λE L=>eI .i64 E λE=>eC L λL M=>eI .i64 L λL=>eC M λM N=>eI .i64 M λM=>eN N (br (v==t) (br ((o==E)&&((w==L)&&true)) (br (q==M) (Al (Ai lo 23 [Ap l y z,Ap e J K] h) λv l=>eB v (CZ lo f (AL (x+1)) d k c a n p A i u B j s a0 g C b m D a1 G c0 a2 H c1 l) (AN l)) (AN h)) (AN h)) (AN h)))))) (CY lo f 0 d k c a n p A i u B j s a0 g C b m D a1 G c0 a2 H c1 h) :=
 lE
theorem CY.e {lo k i n j g G m H:Nat}{f:Bool}{x:Int}{d A a B a0 a1 b a2:Pq}{c p u s C D c0 c1:Nq}{h:Heap} :
  CY lo f x d k c A i p a n u B j s a0 g C a1 G D b m c0 a2 H c1 h=br (decide (x<(n:Int))) (AB x n (eO a λv=>eO (ld h v.1 (v.2+x.toNat) 0 9) λv=>eC v λv l=>eI .i64 v λv=>eC l λl o=>eI .i64 l λl=>eC o λo y=>eI .i64 o λo=>eC y λy z=>eI .i64 y λy=>eC z λz w=>eI .i64 z λz=>eC w λw q=>eI .i64 w λw=>eC q λq t=>eS 2 q λq e E=>eC t λt J=>eT t λt=>eC J λJ K=>eBv J λJ=>eN K (AB x m (eO b λK=>eO (ld h K.1 (K.2+x.toNat) 0 9) λK=>eC K λK L=>eI .i64 K λK=>eC L λL M=>eI .i64 L λL=>eC M λM N=>eI .i64 M λM=>eC N λN O=>eI .i64 N λN=>eC O λO P=>eI .i64 O λO=>eC P λP Q=>eI .i64 P λP=>eC Q λQ S=>eS 2 Q λQ U W=>eC S λS Y=>eT S λS=>eC Y λY Z=>eBv Y λY=>eN Z (br (v==K) (br (l==L) (br (o==M) (Al (Ai lo 40 [AP y z w q e E t J,AP N O P Q U W S Y] h) λv l=>eB v (CY lo f (AL (x+1)) d k c A i p a n u B j s a0 g C a1 G D b m c0 a2 H c1 l) (AN l)) (AN h)) (AN h)) (AN h)))))) (Cj h) :=
 lE
theorem OC (hk:(Al (Ai lo 41 (CC x 1 4) h) λv l=>eB v (Al (Ai lo 41 (CC y 0 4) l) λv o=>eB v (Al (Ai lo 42 [Iv x,Iv y,.sl 6 a n c] o) λv s=>eA v λv=>eC v λv b=>eS 6 v λv z u=>eC b λb w=>eS 5 b λb p q=>eC w λw g=>eS 9 w λw i j=>eC g λg k=>eS 5 g λg m t=>eN k (some ((At v z u b p q w i j g m t),s))) (some (.agg [.sl 0 none 0 (some 0),.sl 0 none 0 (some 0),.sl 0 none 0 (some 0),.sl 0 none 0 (some 0)],o))) (some (.agg [.sl 0 none 0 (some 0),.sl 0 none 0 (some 0),.sl 0 none 0 (some 0),.sl 0 none 0 (some 0)],l)))=some r) :
  Ai lo 16 [Iv x,Iv y,.sl 6 a n c] h=some r :=
 eK Tryz.func16 hk
theorem RA (hk:(Al (Ai h.length 43 [Ay x y,Ay z t] h) λl c=>eI .i64 l λl=>br (decide (l<0)) (Cj c) (AN c))=some (v,h')) (hn:noId v=true:=by rfl) :
  Ai lo 17 [Ay x y,Ay z t] h=some (v,h) :=
 eD Tryz.func17 hk hn
theorem Uv (hk:(Bd (decide (AL ((n:Int)+(1:Int))≠(0:Int))) (Aw a n c none (some (Iv (z.tmod (AL ((n:Int)+(1:Int)))))) none λv l o=>Al (Ai lo 14 [Iv x,Iv y,.sl 6 v l o] h) λv l=>eA v λv=>eC v λv o=>eS 6 v λv s b=>eC o λo u=>eS 5 o λo w p=>eC u λu q=>eS 9 u λu g i=>eC q λq j=>eS 5 q λq k m=>eN j (Al (Ai lo 14 [Iv x,Iv y,.sl 6 a n c] l) λl j=>eA l λl=>eC l λl t=>eS 6 l λl d e=>eC t λt f=>eS 5 t λt A B=>eC f λf C=>eS 9 f λf D E=>eC C λC G=>eS 5 C λC H J=>eN G (some (.tup [At v s b o w p u g i q k m,At l d e t A B f D E C H J],j)))))=some r) :
  Ai lo 18 [Iv x,Iv y,.sl 6 a n c,Iv z] h=some r :=
 eK Tryz.func18 hk
def Dx lo a n c b m p f x h:=
 LA 19 Tryz.f19 221311 0 111 lo ⟨[(0,.sl 6 a n c),(1,.sl 6 b m p),(4,.bool f),(5,Iv x)],[],h⟩
theorem Sm (hk:(br ((n:Int)==(m:Int)) (Dx h.length a n c b m p false 0 h) (AN h))=some (v,h')) (hn:noId v=true:=by rfl) :
  Ai lo 19 (KJ a n c b m p) h=some (v,h) :=
 eD Tryz.func19 hk hn
theorem Dx.e {lo n m:Nat}{a b:Pq}{c p:Nq}{f:Bool}{x:Int}{h:Heap} :
  Dx lo a n c b m p f x h=br (decide (x<(n:Int))) (AB x n (eO a λv=>eO (ld h v.1 (v.2+x.toNat) 0 6) λv=>eC v λv l=>eI .i64 v λv=>eC l λl o=>eI .i64 l λl=>eC o λo s=>eI .i64 o λo=>eC s λs y=>eS 2 s λs z u=>eC y λy w=>eT y λy=>eC w λw q=>eBv w λw=>eN q (AB x m (eO b λq=>eO (ld h q.1 (q.2+x.toNat) 0 6) λq=>eC q λq g=>eI .i64 q λq=>eC g λg i=>eI .i64 g λg=>eC i λi j=>eI .i64 i λi=>eC j λj k=>eS 2 j λj t d=>eC k λk e=>eT k λk=>eC e λe A=>eBv e λe=>eN A (Al (Ai lo 40 [AP v l o s z u y w,AP q g i j t d k e] h) λv l=>eB v (Dx lo a n c b m p f (AL (x+1)) l) (AN l)))))) (Cj h) :=
 lE
theorem NG (hk:(Al (Ai h.length 44 [Ap a n c] h) λl o=>eB l (Al (Ai h.length 44 [Ap b m p] o) λl s=>eB l (Al (Ai h.length 45 [Ap a n c,Ap b m p] s) λl x=>eB l (Cj x) (AN x)) (AN s)) (AN o))=some (v,h')) (hn:noId v=true:=by rfl) :
  Ai lo 20 [Ap a n c,Ap b m p] h=some (v,h) :=
 eD Tryz.func20 hk hn
theorem Ms (hk:(eO (ld (h ++ [.rows 1 57 false [Co a n c]]) h.length 0 0 1) λv=>eC v λv l=>eS 2 v λv o s=>eN l (Al (Ai lo 46 [Ap v o s] (h ++ [.rows 1 57 false [Co a n c]])) λv l=>eB v (Al (Ai lo 47 [.ptr (some (h.length,(0,0)))] l) λv o=>eA v λv=>eC v λv s=>eS 6 v λv b x=>eN s (Al (Ai lo 48 [By v b x] o) λv o=>eA v λv=>eC v λv s=>eS 2 v λv b x=>eN s (some ((Ap v b x),o)))) (some (.agg [.sl 0 none 0 (some 0)],l))))=some r) :
  Ai lo 21 [Ap a n c] h=some r :=
 eK Tryz.func21 hk
theorem Rz {e:Pq} (hk:(Al (Ai lo 49 [At a n c b m p d k u e i s] h) λv l=>eB v (Al (Ai lo 38 [At a n c b m p d k u e i s] l) λv o=>eA v λv=>eC v λv w=>eS 6 v λv q g=>eC w λw j=>eS 5 w λw A B=>eC j λj C=>eS 9 j λj D E=>eC C λC G=>eS 5 C λC H J=>eN G (eO (st lo (o ++ [.rows 4 41 false [[.sl 0 none 0 (some 0),.sl 0 none 0 (some 0),.sl 0 none 0 (some 0),.sl 0 none 0 (some 0)]]]) o.length 0 0 (Dg v q g w A B j D E C H J)) λv=>Al (Ai lo 37 [.ptr (some (o.length,(0,0))),Bh x y z t S f] v) λv w=>eB v (eO (ld w o.length 0 0 4) λv=>eC v λv q=>eS 6 v λv g j=>eC q λq A=>eS 5 q λq B C=>eC A λA D=>eS 9 A λA E G=>eC D λD H=>eS 5 D λD J K=>eN H (Al (Ai lo 38 [At v g j q B C A E G D J K] w) λv q=>eA v λv=>eC v λv g=>eS 6 v λv j A=>eC g λg B=>eS 5 g λg C D=>eC B λB E=>eS 9 B λB G H=>eC E λE J=>eS 5 E λE K L=>eN J (some (.tup [At v j A g C D B G H E K L,.bool true],q)))) (eO (ld w o.length 0 0 4) λv=>eC v λv o=>eS 6 v λv q g=>eC o λo j=>eS 5 o λo A B=>eC j λj C=>eS 9 j λj D E=>eC C λC G=>eS 5 C λC H J=>eN G (Al (Ai lo 38 [At v q g o A B j D E C H J] w) λv o=>eA v λv=>eC v λv w=>eS 6 v λv q g=>eC w λw j=>eS 5 w λw A B=>eC j λj C=>eS 9 j λj D E=>eC C λC G=>eS 5 C λC H J=>eN G (some (.tup [At v q g w A B j D E C H J,.bool false],o)))))) (some (.tup [.agg [.sl 0 none 0 (some 0),.sl 0 none 0 (some 0),.sl 0 none 0 (some 0),.sl 0 none 0 (some 0)],.bool false],l)))=some r) :
  Ai lo 22 [At a n c b m p d k u e i s,Bh x y z t S f] h=some r :=
 eK Tryz.func22 hk
def Dy lo f x a n c b m p h:=
 LA 23 Tryz.f23 221311 0 111 lo ⟨[(2,.lp 2 0),(3,.lp 3 0),(4,.bool f),(5,Iv x)],[(2,(Co a n c)),(3,(Co b m p))],h⟩
theorem Sn (hk:(br ((n:Int)==(m:Int)) (Dy h.length false 0 a n c b m p h) (AN h))=some (v,h')) (hn:noId v=true:=by rfl) :
  Ai lo 23 [Ap a n c,Ap b m p] h=some (v,h) :=
 eD Tryz.func23 hk hn
theorem Dy.e :
  Dy lo f x a n c b m p h=br (decide (x<(n:Int))) (AB x n (eO a λv=>eO (ld h v.1 (v.2+x.toNat) 0 2) λv=>eC v λv l=>eI .i64 v λv=>eC l λl o=>eI .i64 l λl=>eN o (AB x m (eO b λo=>eO (ld h o.1 (o.2+x.toNat) 0 2) λo=>eC o λo s=>eI .i64 o λo=>eC s λs y=>eI .i64 s λs=>eN y (br ((v==o)&&((l==s)&&true)) (Dy lo f (AL (x+1)) a n c b m p h) (AN h)))))) (Cj h) :=
 lE
theorem OI (hk:(Al (Ai lo 50 [By a n c] h) λv l=>eB v (Al (Ai lo 48 [By a n c] l) λv o=>eA v λv=>eC v λv s=>eS 2 v λv b x=>eN s (some ((Ap v b x),o))) (some (.agg [.sl 0 none 0 (some 0)],l)))=some r) :
  Ai lo 24 [By a n c] h=some r :=
 eK Tryz.func24 hk
theorem Mn (hk:(eO (ld (h ++ [.rows 1 52 false [Cc a n c]]) h.length 0 0 1) λl=>eC l λl o=>eS 6 l λl s b=>eN o (Al (Ai h.length 50 [By l s b] (h ++ [.rows 1 52 false [Cc a n c]])) λl o=>eB l (eO (ld o h.length 0 0 1) λl=>eC l λl s=>eN s (eS 6 l λl s b=>Al (Ai h.length 51 [.sl 6 l s b,.fn 52 [.ptr (some (h.length,(0,0)))]] o) λl s=>eB l (AN s) (Cj s))) (AN o)))=some (v,h')) (hn:noId v=true:=by rfl) :
  Ai lo 25 [By a n c] h=some (v,h) :=
 eD Tryz.func25 hk hn
theorem Ss (hk:(br (decide ((n:Int)<=80)) (Al (Ai h.length 54 [.sl 5 a n c,.fn 55 []] h) λl o=>eB l (AN o) (Cj o)) (AN h))=some (v,h')) (hn:noId v=true:=by rfl) :
  Ai lo 27 [.sl 5 a n c] h=some (v,h) :=
 eD Tryz.func27 hk hn
def HP lo a n c f x h:=
 LA 28 Tryz.f28 22131 0 11 lo ⟨[(0,.sl 5 a n c),(2,.bool f),(3,Iv x)],[],h⟩
theorem HP.e :
  HP lo a n c f x h=br (decide (x<(n:Int))) (AB x n (eO a λv=>eO (ld h v.1 (v.2+x.toNat) 0 5) λv=>eC v λv l=>eI .i64 v λv=>eC l λl o=>eI .i64 l λl=>eC o λo s=>eI .i64 o λo=>eC s λs b=>eI .i64 s λs=>eC b λb y=>eI .i64 b λb=>eN y (Al (Ai lo 59 [XA v l o s b] h) λv l=>eB v (HP lo a n c f (AL (x+1)) l) (AN l)))) (br (decide ((n:Int)<=80)) (Cj h) (AN h)) :=
 lE
def Fo lo a n c x b m p y h:=
 LA 29 Tryz.f29 221311 0 111 lo ⟨[(0,.sl 5 a n c),(1,Iv x),(5,.sl 5 b m p),(6,Iv y)],[],h⟩
theorem Fo.e :
  Fo lo a n p y b m c x h=br (decide (x<(n:Int))) (AB x n (eO a λv=>eO (ld h v.1 (v.2+x.toNat) 0 1) λv=>eC v λv l=>eN l (eI .i64 v λv=>br (v==y) (AB x n (eO a λv=>eO (ld h v.1 (v.2+x.toNat) 0 5) λv=>eC v λv l=>eI .i64 v λv=>eC l λl o=>eI .i64 l λl=>eC o λo s=>eI .i64 o λo=>eC s λs z=>eI .i64 s λs=>eC z λz u=>eI .i64 z λz=>eN u (Au 5 (h ++ [.rows 5 32 false [Pm v l o s z]]) (.sl 5 (some (h.length,0)) 1 (some 1)) λu=>Dd lo 32 5 40 (.sl 5 b m c) u (h ++ [.rows 5 32 false [Pm v l o s z]]) λv l=>eS 5 v λv o s=>Fo lo a n p y v o s (AL (x+1)) l))) (Fo lo a n p y b m c (AL (x+1)) h)))) (some (.sl 5 b m c,h)) :=
 lE
def HU lo a n c p0 x p1 b m p y z h:=
 LA 30 Tryz.f30 221311 0 111 lo ⟨[(0,.sl 5 a n c),(2,.ptr p0),(3,Iv x),(4,.ptr p1),(8,.sl 5 b m p),(9,Iv y),(10,Iv z)],[],h⟩
theorem HU.e {p1 p0:Option (Nat×Nat×Nat)} :
  HU lo b n c p1 z p0 a m p y x h=br (decide (x<y)) (AB x m (eO a λv=>eO (ld h v.1 (v.2+x.toNat) 0 5) λv=>eC v λv l=>eI .i64 v λv=>eC l λl o=>eI .i64 l λl=>eC o λo s=>eI .i64 o λo=>eC s λs u=>eI .i64 s λs=>eC u λu w=>eI .i64 u λu=>eN w (Al (Ai lo 61 [.ptr p0,XA v l o s u] h) λv l=>eB v (HU lo b n c p1 z p0 a m p y (AL (x+1)) l) (some (.tup [.ptr p0,Iv x],l))))) (some (.tup [.ptr p0,Iv (n:Int)],h)) :=
 lE
theorem Rr (hk:(br (decide ((n:Int)>2000)) (Aw a n c none (some (Iv 2000)) none λv l o=>some (.ptr (some (h.length,(0,0))),(h ++ [.rows 2 109 false [[.sl 1 v l o,Iv 0]]]))) (some (.ptr (some (h.length,(0,0))),(h ++ [.rows 2 109 false [[.sl 1 a n c,Iv 0]]]))))=some r) :
  Ai lo 31 [.sl 1 a n c] h=some r :=
 eK Tryz.func31 hk
theorem Rq (hk:(Al (Ai lo 33 [BU n m k,Iv 4] h) λv l=>eI .i64 v λv=>Al (Ai lo 33 [BU n m k,Iv 4] l) λl c=>eI .i64 l λl=>Al (Ai lo 34 [BU n m k,.sl 1 (some (c.length,0)) 4 (some 4)] (c ++ [.rows 1 3 false [AW 0,AW 20,AW 60,AW 120]])) λc a=>eI .i64 c λc=>Al (Ai lo 62 [BU n m k,Iv (AL (1+v)),Iv (AL (1+l)),Iv c] a) λc a=>eS 6 c λc o s=>some (.tup [Iv (AL (1+v)),Iv (AL (1+l)),.sl 6 c o s],a))=some r) :
  Ai lo 32 [BU n m k] h=some r :=
 eK Tryz.func32 hk
theorem Nr (hk:(eO (ld h n m (k+1) 1) λv=>eC v λv l=>eN l (eI .i64 v λv=>eO (st lo h n m (k+1) (AW (AL (v+1)))) λv=>br (decide (x<1)) (some (Iv 0,v)) (eO (ld v n m (k+0) 1) λl=>eC l λl c=>eN c (eS 1 l λl l c=>br ((l:Int)==0) (some (Iv 0,v)) (eO (ld v n m (k+1) 1) λl=>eC l λl c=>eN c (eI .i64 l λl=>eO (ld v n m (k+0) 1) λc=>eC c λc a=>eN a (eS 1 c λc c a=>br (decide (AL (l - (1:Int))<(c:Int))) (eO (ld v n m (k+0) 1) λc=>eC c λc a=>eN a (eS 1 c λc a o=>AB (AL (l - 1)) a (eO c λc=>eO (ld v c.1 (c.2+((AL (l - (1:Int))).toNat)) 0 1) λc=>eC c λc a=>eN a (eI .u8 c λc=>Bd (decide (x≠(0:Int))) (some (Iv ((AL c).tmod x),v)))))) (eO (ld v n m (k+0) 1) λc=>eC c λc a=>eN a (eS 1 c λc a o=>eO (ld v n m (k+0) 1) λo=>eC o λo s=>eN s (eS 1 o λo o s=>Bd (decide ((o:Int)≠(0:Int))) (AB ((AL (l - (1:Int))).tmod (o:Int)) a (eO c λc=>eO (ld v c.1 (c.2+(((AL (l - (1:Int))).tmod (o:Int)).toNat)) 0 1) λc=>eC c λc a=>eN a (eI .u8 c λc=>eO (ld v n m (k+0) 1) λa=>eC a λa o=>eN o (eS 1 a λa o s=>eO (ld v n m (k+0) 1) λs=>eC s λs b=>eN b (eS 1 s λs s b=>Bd (decide ((s:Int)≠(0:Int))) (AB ((AL (AL (AL (l - (1:Int))*(7:Int))+(3:Int))).tmod (s:Int)) o (eO a λa=>eO (ld v a.1 (a.2+(((AL (AL (AL (l - (1:Int))*(7:Int))+(3:Int))).tmod (s:Int)).toNat)) 0 1) λa=>eC a λa o=>eN o (eI .u8 a λa=>eO (ld v n m (k+0) 1) λo=>eC o λo s=>eN s (eS 1 o λo o s=>Bd (decide ((o:Int)≠(0:Int))) (Bd (decide (x≠(0:Int))) (some (Iv ((AL ((BitVec.ofInt IntKind.i64.bits (AL (AL (AL (AL (AL c*(131:Int))+AL (AL a*(1117:Int)))+AL (AL (l - (1:Int))*(29:Int)))+AL (AL ((AL (l - (1:Int))).tdiv (o:Int))*(53:Int)))) ^^^ BitVec.ofInt IntKind.i64.bits (AL ((AL (AL (AL (AL (AL c*(131:Int))+AL (AL a*(1117:Int)))+AL (AL (l - (1:Int))*(29:Int)))+AL (AL ((AL (l - (1:Int))).tdiv (o:Int))*(53:Int)))).tdiv (64:Int)))).toNat:Int)).tmod x),v))))))))))))))))))))))=some r) :
  Ai lo 33 [BU n m k,Iv x] h=some r :=
 eK Tryz.func33 hk
theorem OA (hk:(Al (Ai lo 33 [BU m k i,Iv (n:Int)] h) λv l=>eI .i64 v λv=>AB v n (eO a λo=>eO (ld l o.1 (o.2+v.toNat) 0 1) λv=>eC v λv o=>eN o (eI .i64 v λv=>some (Iv v,l))))=some r) :
  Ai lo 34 [BU m k i,.sl 1 a n c] h=some r :=
 eK Tryz.func34 hk
theorem OD (hk:(Al (Ai h.length 63 (AW x) h) λl c=>eB l (Al (Ai h.length 56 (CC y 0 4) c) λl n=>eB l (Cj n) (AN n)) (AN c))=some (v,h')) (hn:noId v=true:=by rfl) :
  Ai lo 35 (BI x y) h=some (v,h) :=
 eD Tryz.func35 hk hn
def CL lo x y z n a m c k b i p j d g u G e H s A J C B P D n0 a0 n1 c0 n2 a1 n3 c1 h:=
 LA 36 Tryz.f36 221311 0 111 lo ⟨[(0,Iv x),(1,Iv y),(4,.lp 4 0),(5,.lp 5 0),(12,Iv z)],[(4,[.sl n a m c,.sl k b i p,.sl j d g u,.sl G e H s]),(5,[.sl 6 A J C,.sl 5 B P D,.sl n0 a0 n1 c0,.sl n2 a1 n3 c1])],h⟩
def CK lo x y n a m c k b i p j d g u G e H s A J C B P D n0 a0 n1 c0 n2 a1 n3 c1 h:=
 LA 36 Tryz.f36 2213111 2 1111 lo ⟨[(4,.lp 4 0),(5,.lp 5 0),(24,Iv x),(25,Iv y)],[(4,[.sl n a m c,.sl k b i p,.sl j d g u,.sl G e H s]),(5,[.sl 6 A J C,.sl 5 B P D,.sl n0 a0 n1 c0,.sl n2 a1 n3 c1])],h⟩
theorem PG (hk:(Bd (decide ((0:Int)<=0/\(0:Int)<=x/\x<=140737488355328/\x*((56:Nat):Int)<=281474976710656)) (CL lo y x 0 0 none 0 (some 0) 0 none 0 (some 0) 0 none 0 (some 0) 0 none 0 (some 0) (some (h.length,0)) 0 (some 3) (some ((List.length (h ++ [.rows 6 60 false [[Iv 0,Iv 0,.sl 0 none 0 (some 0),.sl 0 none 0 (some 0),.sl 0 none 0 (some 0),.bool false],[Iv 0,Iv 0,.sl 0 none 0 (some 0),.sl 0 none 0 (some 0),.sl 0 none 0 (some 0),.bool false],[Iv 0,Iv 0,.sl 0 none 0 (some 0),.sl 0 none 0 (some 0),.sl 0 none 0 (some 0),.bool false]]])),0)) 0 (some x.toNat) 0 none 0 (some 0) 0 none 0 (some 0) ((h ++ [.rows 6 60 false [[Iv 0,Iv 0,.sl 0 none 0 (some 0),.sl 0 none 0 (some 0),.sl 0 none 0 (some 0),.bool false],[Iv 0,Iv 0,.sl 0 none 0 (some 0),.sl 0 none 0 (some 0),.sl 0 none 0 (some 0),.bool false],[Iv 0,Iv 0,.sl 0 none 0 (some 0),.sl 0 none 0 (some 0),.sl 0 none 0 (some 0),.bool false]]]) ++ [.rows 5 72 false (List.replicate x.toNat [Iv 0,.sl 0 none 0 (some 0),Iv 0,Iv 0,Iv 0])])))=some r) :
  Ai lo 36 (BI y x) h=some r :=
 eK Tryz.func36 hk
theorem CL.e {lo n m k i j g G H J P n0 n1 n2 n3:Nat}{y z x:Int}{a b d A B a0 a1 a2:Pq}{c p u s C D c0 c1:Nq}{h:Heap} :
  CL lo y z x n a m c k b i p j d g u G A H s B J C a0 P D n0 a1 n1 c0 n2 a2 n3 c1 h=br (decide (x<3)) (Al (Ai lo 64 (BI x y) h) λv l=>eA v λv=>eC v λv o=>eI .i64 v λv=>eC o λo w=>eI .i64 o λo=>eC w λw q=>eS 2 w λw t e=>eC q λq f=>eS 6 q λq E K=>eC f λf L=>eS 1 f λf M N=>eC L λL O=>eBv L λL=>eN O (Au 6 (l ++ [.rows 6 60 false [D1 v o w t e q E K f M N L]]) (.sl 6 (some (l.length,0)) 1 (some 1)) λO=>Dd lo 60 6 96 (.sl 6 B J C) O (l ++ [.rows 6 60 false [D1 v o w t e q E K f M N L]]) λv l=>eS 6 v λv o w=>CL lo y z (AL (x+1)) n a m c k b i p j d g u G A H s v o w a0 P D n0 a1 n1 c0 n2 a2 n3 c1 l)) (CK lo z 0 n a m c k b i p j d g u G A H s B J C a0 P D n0 a1 n1 c0 n2 a2 n3 c1 h) :=
 lE
theorem CK.e :
  CK lo y x G B H C J a0 P D n0 a1 n1 c0 n2 a2 n3 c1 a n c b m p k d i u j A g s h=br (decide (x<y)) (Al (Ai lo 65 [] h) λv l=>eA v λv=>eC v λv o=>eS 2 v λv z w=>eN o (Au 5 (l ++ [.rows 5 72 false [Pk (x.tmod (3:Int)) v z w 0 0 0]]) (.sl 5 (some (l.length,0)) 1 (some 1)) λo=>Dd lo 72 5 56 (.sl 5 b m p) o (l ++ [.rows 5 72 false [Pk (x.tmod (3:Int)) v z w 0 0 0]]) λv l=>eS 5 v λv o z=>CK lo y (AL (x+1)) G B H C J a0 P D n0 a1 n1 c0 n2 a2 n3 c1 a n c v o z k d i u j A g s l)) (some (.agg [.sl 6 a n c,.sl 5 b m p,.sl k d i u,.sl j A g s],h)) :=
 lE
theorem PJ (hk:(Al (Ai lo 56 (CC x 1 5) h) λv l=>eB v (Al (Ai lo 66 [BU n m k,Bh x y z t S f] l) λv c=>eB v (Cj c) (AN c)) (Al (Ai lo 56 (CC x 6 10) l) λv l=>eB v (Al (Ai lo 67 [BU n m k,Bh x y z t S f] l) λv c=>eB v (Cj c) (AN c)) (Al (Ai lo 56 (CC x 11 13) l) λv l=>eB v (Al (Ai lo 68 [BU n m k,Bh x y z t S f] l) λv c=>eB v (Cj c) (AN c)) (AN l))))=some r) :
  Ai lo 37 [BU n m k,Bh x y z t S f] h=some r :=
 eK Tryz.func37 hk
def BP lo a n c x y b m p d k u e i s A j C g B G D H a0 J c0 P a1 n0 c1 n1 a2 n2 c2 a3 n3 c3 a4 n4 c4 a5 n5 c5 a6 n6 c6 h:=
 LA 38 Tryz.f38 221311 0 111 lo ⟨[(1,.lp 1 0),(2,.lp 2 0),(3,.lp 3 0),(28,.sl 6 a n c),(29,Iv x),(30,Iv y)],[(1,(Dg b m p d k u e i s A j C)),(2,[.sl g B G D,.sl H a0 J c0,.sl P a1 n0 c1,.sl n1 a2 n2 c2]),(3,(Dg a3 n3 c3 a4 n4 c4 a5 n5 c5 a6 n6 c6))],h⟩
def BO lo a n c x y b m p d k u e i s A j C g B G D H a0 J c0 P a1 n0 c1 n1 a2 n2 c2 a3 n3 c3 a4 n4 c4 a5 n5 c5 a6 n6 c6 h:=
 LA 38 Tryz.f38 2213111 2 1111 lo ⟨[(1,.lp 1 0),(2,.lp 2 0),(3,.lp 3 0),(43,.sl 5 a n c),(44,Iv x),(45,Iv y)],[(1,(Dg b m p d k u e i s A j C)),(2,[.sl g B G D,.sl H a0 J c0,.sl P a1 n0 c1,.sl n1 a2 n2 c2]),(3,(Dg a3 n3 c3 a4 n4 c4 a5 n5 c5 a6 n6 c6))],h⟩
def BN lo a n c x y m b k p i d j u g e G s H A J C B P D a0 n0 c0 a1 n1 c1 a2 n2 c2 h:=
 LA 38 Tryz.f38 22131111 4 11111 lo ⟨[(2,.lp 2 0),(3,.lp 3 0),(61,.sl 9 a n c),(62,Iv x),(63,Iv y)],[(2,[.sl m b k p,.sl i d j u,.sl g e G s,.sl H A J C]),(3,(Dg B P D a0 n0 c0 a1 n1 c1 a2 n2 c2))],h⟩
theorem Lw {e:Pq} (hk:(Bd (decide ((0:Int)<=0/\(0:Int)<=(n:Int)/\(n:Int)<=140737488355328/\(n:Int)*((96:Nat):Int)<=281474976710656)) (Bd (decide ((0:Int)<=0/\(0:Int)<=(m:Int)/\(m:Int)<=140737488355328/\(m:Int)*((56:Nat):Int)<=281474976710656)) (Bd (decide ((0:Int)<=0/\(0:Int)<=(k:Int)/\(k:Int)<=140737488355328/\(k:Int)*((96:Nat):Int)<=281474976710656)) (Al (Ai (List.length (((h ++ [.rows 6 60 false (List.replicate n [Iv 0,Iv 0,.sl 0 none 0 (some 0),.sl 0 none 0 (some 0),.sl 0 none 0 (some 0),.bool false])]) ++ [.rows 5 72 false (List.replicate m [Iv 0,.sl 0 none 0 (some 0),Iv 0,Iv 0,Iv 0])]) ++ [.rows 9 91 false (List.replicate k [Iv 0,Iv 0,Iv 0,Iv 0,Iv 0,Iv 0,.sl 0 none 0 (some 0),.str ⟨⟨[]⟩⟩,.bool false])])) 70 [.sl 5 b i p] (((h ++ [.rows 6 60 false (List.replicate n [Iv 0,Iv 0,.sl 0 none 0 (some 0),.sl 0 none 0 (some 0),.sl 0 none 0 (some 0),.bool false])]) ++ [.rows 5 72 false (List.replicate m [Iv 0,.sl 0 none 0 (some 0),Iv 0,Iv 0,Iv 0])]) ++ [.rows 9 91 false (List.replicate k [Iv 0,Iv 0,Iv 0,Iv 0,Iv 0,Iv 0,.sl 0 none 0 (some 0),.str ⟨⟨[]⟩⟩,.bool false])])) λv l=>eS 5 v λv o x=>Al (Ai l.length 69 [.sl 5 v o x] l) λv l=>eS 5 v λv o x=>BP lo a n c (n:Int) 0 a n c d m u e k s b i p 0 none 0 (some 0) 0 none 0 (some 0) 0 none 0 (some 0) 0 none 0 (some 0) (some (h.length,0)) 0 (some n) (some ((List.length (h ++ [.rows 6 60 false (List.replicate n [Iv 0,Iv 0,.sl 0 none 0 (some 0),.sl 0 none 0 (some 0),.sl 0 none 0 (some 0),.bool false])])),0)) 0 (some m) (some ((List.length ((h ++ [.rows 6 60 false (List.replicate n [Iv 0,Iv 0,.sl 0 none 0 (some 0),.sl 0 none 0 (some 0),.sl 0 none 0 (some 0),.bool false])]) ++ [.rows 5 72 false (List.replicate m [Iv 0,.sl 0 none 0 (some 0),Iv 0,Iv 0,Iv 0])])),0)) 0 (some k) v o x l))))=some r) :
  Ai lo 38 [At a n c d m u e k s b i p] h=some r :=
 eK Tryz.func38 hk
theorem BP.e {lo m k n i j g G H J P n0 n1 n2 n3 n4 n5 n6:Nat}{b d a A B a0 a1 a2 a3 a4 a5 a6 a7:Pq}{c6 p c u s C D c0 c1 c2 c3 c4 c5:Nq}{y x:Int}{h:Heap} :
  BP lo b m c6 y x d k p a n c A i u B j s g a0 G C H a1 J D P a2 n0 c0 n1 a3 n2 c1 a4 n3 c2 a5 n4 c3 a6 n5 c4 a7 n6 c5 h=br (decide (x<y)) (AB x m (eO b λv=>eO (ld h v.1 (v.2+x.toNat) 0 6) λv=>eC v λv l=>eI .i64 v λv=>eC l λl o=>eI .i64 l λl=>eC o λo z=>eS 2 o λo w q=>eC z λz t=>eS 6 z λz e f=>eC t λt E=>eS 1 t λt K L=>eC E λE M=>eBv E λE=>eN M (Al (Ai lo 71 [BV v l o w q z e f t K L E] h) λv l=>eA v λv=>eC v λv o=>eI .i64 v λv=>eC o λo z=>eI .i64 o λo=>eC z λz w=>eS 2 z λz q t=>eC w λw e=>eS 6 w λw f E=>eC e λe K=>eS 1 e λe L M=>eC K λK N=>eBv K λK=>eN N (Au 6 (l ++ [.rows 6 60 false [D1 v o z q t w f E e L M K]]) (.sl 6 (some (l.length,0)) 1 (some 1)) λN=>Dd lo 60 6 96 (.sl 6 a4 n3 c2) N (l ++ [.rows 6 60 false [D1 v o z q t w f E e L M K]]) λv l=>eS 6 v λv o z=>BP lo b m c6 y (AL (x+1)) d k p a n c A i u B j s g a0 G C H a1 J D P a2 n0 c0 n1 a3 n2 c1 v o z a5 n4 c3 a6 n5 c4 a7 n6 c5 l)))) (BO lo a n c (n:Int) 0 d k p a n c A i u B j s g a0 G C H a1 J D P a2 n0 c0 n1 a3 n2 c1 a4 n3 c2 a5 n4 c3 a6 n5 c4 a7 n6 c5 h) :=
 lE
theorem BO.e {lo m n4 n5 n n6 k i j g G H J P n0 n1 n2 n3:Nat}{a a5 a6 b a7 d A B a0 a1 a2 a3 a4:Pq}{c3 c4 c5 c c6 p u s C D c0 c1 c2:Nq}{y x:Int}{h:Heap} :
  BO lo a m c3 y x a5 n4 c4 a6 n5 c5 b n c a7 n6 c6 k d i p j A g u G B H s J a0 P C a1 n0 D a2 n1 c0 a3 n2 c1 a4 n3 c2 h=br (decide (x<y)) (AB x m (eO a λv=>eO (ld h v.1 (v.2+x.toNat) 0 5) λv=>eC v λv l=>eI .i64 v λv=>eC l λl o=>eS 2 l λl z w=>eC o λo q=>eI .i64 o λo=>eC q λq t=>eI .i64 q λq=>eC t λt e=>eI .i64 t λt=>eN e (Al (Ai lo 72 [Ap l z w] h) λl z=>eA l λl=>eC l λl w=>eS 2 l λl e f=>eN w (Au 5 (z ++ [.rows 5 72 false [Pk v l e f o q t]]) (.sl 5 (some (z.length,0)) 1 (some 1)) λw=>Dd lo 72 5 56 (.sl 5 a2 n1 c0) w (z ++ [.rows 5 72 false [Pk v l e f o q t]]) λv l=>eS 5 v λv o z=>BO lo a m c3 y (AL (x+1)) a5 n4 c4 a6 n5 c5 b n c a7 n6 c6 k d i p j A g u G B H s J a0 P C a1 n0 D v o z a3 n2 c1 a4 n3 c2 l)))) (BN lo b n c (n:Int) 0 k d i p j A g u G B H s J a0 P C a1 n0 D a2 n1 c0 a3 n2 c1 a4 n3 c2 h) :=
 lE
theorem BN.e {lo n g G H J P n0 n1 n2 m k i j:Nat}{a a0 a1 a2 a3 b d A B:Pq}{C D c0 c1 c2 c p u s:Nq}{y x:Int}{h:Heap} :
  BN lo a n C y x g a0 G D H a1 J c0 P a2 n0 c1 n1 a3 n2 c2 b m c d k p A i u B j s h=br (decide (x<y)) (AB x n (eO a λv=>eO (ld h v.1 (v.2+x.toNat) 0 9) λv=>eC v λv l=>eI .i64 v λv=>eC l λl o=>eI .i64 l λl=>eC o λo z=>eI .i64 o λo=>eC z λz w=>eI .i64 z λz=>eC w λw q=>eI .i64 w λw=>eC q λq t=>eI .i64 q λq=>eC t λt e=>eS 2 t λt f E=>eC e λe K=>eT e λe=>eC K λK L=>eBv K λK=>eN L (Al (Ai lo 73 [AP z w q t f E e K] h) λz w=>eA z λz=>eC z λz q=>eI .i64 z λz=>eC q λq t=>eI .i64 q λq=>eC t λt e=>eI .i64 t λt=>eC e λe f=>eS 2 e λe E K=>eC f λf L=>eT f λf=>eC L λL M=>eBv L λL=>eN M (Au 9 (w ++ [.rows 9 91 false [Pl v l o z q t e E K f L]]) (.sl 9 (some (w.length,0)) 1 (some 1)) λM=>Dd lo 91 9 96 (.sl 9 A i u) M (w ++ [.rows 9 91 false [Pl v l o z q t e E K f L]]) λv l=>eS 9 v λv o z=>BN lo a n C y (AL (x+1)) g a0 G D H a1 J c0 P a2 n0 c1 n1 a3 n2 c2 b m c d k p v o z B j s l)))) (some ((At b m c d k p A i u B j s),h)) :=
 lE
def C2 lo f x y z a n c b m p d k u F t w e i s A j C B g D b0 h:=
 LA 39 Tryz.f39 221311 0 111 lo ⟨[(2,.lp 2 0),(3,.lp 3 0),(4,.bool f),(5,Iv x)],[(2,(D1 y z a n c b m p d k u F)),(3,(D1 t w e i s A j C B g D b0))],h⟩
theorem Ru {e:Pq} (hk:(br (x==z) (br (y==t) (br (f==F) (Al (Ai h.length 74 [Ap a n c,Ap d i u] h) λl o=>eB l (Al (Ai h.length 19 (KJ b m p e j s) o) λl w=>eB l (br ((k:Int)==(g:Int)) (C2 h.length false 0 x y a n c b m p A k C f z t d i u e j s B g D F w) (AN w)) (AN w)) (AN o)) (AN h)) (AN h)) (AN h))=some (v,h')) (hn:noId v=true:=by rfl) :
  Ai lo 39 [BV x y a n c b m p A k C f,BV z t d i u e j s B g D F] h=some (v,h) :=
 eD Tryz.func39 hk hn
theorem C2.e {lo k i n j g m:Nat}{f F b0:Bool}{x y z t w:Int}{d A a B a0 b:Pq}{c p u s C D:Nq}{h:Heap} :
  C2 lo f x y z d k c A i p a n u F t w B j s a0 g C b m D b0 h=br (decide (x<(n:Int))) (AB x n (eO a λv=>eO (ld h v.1 (v.2+x.toNat) 0 1) λv=>eC v λv l=>eN l (eS 6 v λv l o=>AB x m (eO b λq=>eO (ld h q.1 (q.2+x.toNat) 0 1) λq=>eC q λq e=>eN e (eS 6 q λq e E=>Al (Ai lo 19 (KJ v l o q e E) h) λv l=>eB v (C2 lo f (AL (x+1)) y z d k c A i p a n u F t w B j s a0 g C b m D b0 l) (AN l)))))) (Cj h) :=
 lE
theorem Uu {q:Int}{s0:ByteArray} (hk:(br (x==t) (br ((y==w)&&((z==q)&&true)) (Al (Ai h.length 23 [Ap a n c,Ap b m p] h) λl o=>eB l (br (S.toList==s0.toList) (br (f==F) (Cj o) (AN o)) (AN o)) (AN o)) (AN h)) (AN h))=some (v,h')) (hn:noId v=true:=by rfl) :
  Ai lo 40 [AP x y z a n c S f,AP t w q b m p s0 F] h=some (v,h) :=
 eD Tryz.func40 hk hn
theorem VO (hk:(br (decide (x>=y)) (br (decide (x<=z)) (Cj h) (AN h)) (AN h))=some (v,h')) (hn:noId v=true:=by rfl) :
  Ai lo 41 (CC x y z) h=some (v,h) :=
 eD Tryz.func41 hk hn
def Cn lo a n c x m b k p i d j u g e G s H A J C B P D a0 n0 c0 a1 n1 c1 a2 n2 c2 h:=
 LA 42 Tryz.f42 221311 0 111 lo ⟨[(2,.sl 6 a n c),(6,.lp 6 0),(7,.lp 7 0),(8,Iv x)],[(6,[.sl m b k p,.sl i d j u,.sl g e G s,.sl H A J C]),(7,(Dg B P D a0 n0 c0 a1 n1 c1 a2 n2 c2))],h⟩
theorem R3 (hk:(Al (Ai lo 75 (BI x y) h) λv l=>eA v λv=>eC v λv o=>eS 6 v λv s b=>eC o λo z=>eS 5 o λo u w=>eC z λz p=>eS 9 z λz q g=>eC p λp i=>eS 5 p λp j k=>eN i (Cn lo a n c 0 0 none 0 (some 0) 0 none 0 (some 0) 0 none 0 (some 0) 0 none 0 (some 0) v s b o u w z q g p j k l))=some r) :
  Ai lo 42 [Iv x,Iv y,.sl 6 a n c] h=some r :=
 eK Tryz.func42 hk
theorem Cn.e {lo n g G H J P n0 n1 n2 m k i j:Nat}{a a0 a1 a2 a3 b d A B:Pq}{C D c0 c1 c2 c p u s:Nq}{x:Int}{h:Heap} :
  Cn lo a n C x g a0 G D H a1 J c0 P a2 n0 c1 n1 a3 n2 c2 b m c d k p A i u B j s h=br (decide (x<(n:Int))) (br (decide (x<60)) (AB x n (eO a λv=>eO (ld h v.1 (v.2+x.toNat) 0 6) λv=>eC v λv l=>eI .i64 v λv=>eC l λl o=>eI .i64 l λl=>eC o λo y=>eI .i64 o λo=>eC y λy z=>eI .i64 y λy=>eC z λz w=>eT z λz=>eC w λw q=>eBv w λw=>eN q (Al (Ai lo 76 [At b m c d k p A i u B j s,Bh v l o y z w] h) λv l=>eU v λv=>eC v λv o=>eA v λv=>eC v λv y=>eS 6 v λv z w=>eC y λy q=>eS 5 y λy t e=>eC q λq f=>eS 9 q λq E K=>eC f λf L=>eS 5 f λf M N=>eN L (eC o λo L=>eB o (eN L (Cn lo a n C (AL (x+1)) g a0 G D H a1 J c0 P a2 n0 c1 n1 a3 n2 c2 v z w y t e q E K f M N l)) (eN L (Cn lo a n C (AL (x+1)) g a0 G D H a1 J c0 P a2 n0 c1 n1 a3 n2 c2 v z w y t e q E K f M N l)))))) (some ((At b m c d k p A i u B j s),h))) (some ((At b m c d k p A i u B j s),h)) :=
 lE
theorem Ml (hk:(Al (Ai h.length 78 (BI x z) h) λl c=>eI .i64 l λl=>Al (Ai h.length 78 (BI y t) c) λc n=>eI .i64 c λc=>Al (Ai h.length 77 [.sl 1 (some (n.length,0)) 2 (some 2)] (n ++ [.rows 1 3 false [AW l,AW c]])) λl c=>eI .i64 l λl=>some (Iv l,c))=some (v,h')) (hn:noId v=true:=by rfl) :
  Ai lo 43 [Ay x y,Ay z t] h=some (v,h) :=
 eD Tryz.func43 hk hn
theorem Sv (hk:(br ((n:Int)==4) (Al (Ai h.length 79 [.sl 2 a n c,.fn 80 []] h) λl o=>eB l (AN o) (Cj o)) (AN h))=some (v,h')) (hn:noId v=true:=by rfl) :
  Ai lo 44 [Ap a n c] h=some (v,h) :=
 eD Tryz.func44 hk hn
def Ce lo f a n c x y b m p h:=
 LA 45 Tryz.f45 22131 0 11 lo ⟨[(3,.lp 3 0),(4,.bool f),(8,.sl 2 a n c),(9,Iv x),(10,Iv y)],[(3,(Co b m p))],h⟩
theorem NF (hk:(Ce h.length false a n c (n:Int) 0 b m p h)=some (v,h')) (hn:noId v=true:=by rfl) :
  Ai lo 45 [Ap a n c,Ap b m p] h=some (v,h) :=
 eD Tryz.func45 hk hn
theorem Ce.e :
  Ce lo f a n c y x b m p h=br (decide (x<y)) (AB x n (eO a λv=>eO (ld h v.1 (v.2+x.toNat) 0 2) λv=>eC v λv l=>eI .i64 v λv=>eC l λl o=>eI .i64 l λl=>eN o (AB x m (eO b λo=>eO (ld h o.1 (o.2+x.toNat) 0 2) λo=>eC o λo s=>eI .i64 o λo=>eC s λs z=>eI .i64 s λs=>eN z (Al (Ai lo 17 [Ay o s,Ay v l] h) λv l=>eB v (AN l) (Ce lo f a n c y (AL (x+1)) b m p l)))))) (Cj h) :=
 lE
def Cx lo f a n c x y b m p h:=
 LA 46 Tryz.f46 221311 0 111 lo ⟨[(1,.lp 1 0),(2,.bool f),(13,.sl 2 a n c),(14,Iv x),(15,Iv y)],[(1,(Co b m p))],h⟩
def BM lo f a n c x y b m p h:=
 LA 46 Tryz.f46 2213111 2 1111 lo ⟨[(1,.lp 1 0),(2,.bool f),(36,.sl 2 a n c),(37,Iv x),(38,Iv y)],[(1,(Co b m p))],h⟩
theorem RD (hk:(Al (Ai h.length 63 (AW (n:Int)) h) λl o=>eB l (Cx h.length false a n c (n:Int) 0 a n c o) (AN o))=some (v,h')) (hn:noId v=true:=by rfl) :
  Ai lo 46 [Ap a n c] h=some (v,h) :=
 eD Tryz.func46 hk hn
theorem Cx.e :
  Cx lo f b m p y x a n c h=br (decide (x<y)) (AB x m (eO b λv=>eO (ld h v.1 (v.2+x.toNat) 0 2) λv=>eC v λv l=>eS 6 v λv o s=>eC l λl z=>eS 6 l λl u w=>eN z (Al (Ai lo 50 [By v o s] h) λv o=>eB v (br (decide ((u:Int)>6)) (AN o) (Al (Ai lo 51 [.sl 6 l u w,.fn 81 []] o) λv l=>eB v (AN l) (Cx lo f b m p y (AL (x+1)) a n c l))) (AN o)))) (BM lo f a n c (n:Int) 0 a n c h) :=
 lE
theorem BM.e :
  BM lo f b m p y x a n c h=br (decide (x<y)) (AB x m (eO b λv=>eO (ld h v.1 (v.2+x.toNat) 0 2) λv=>eC v λv l=>eS 6 v λv o s=>eC l λl z=>eS 6 l λl u w=>eN z (Al (Ai lo 83 [Ap a n c,Iv x] h) λz q=>eB z (br (decide ((u:Int)>0)) (AN q) (Al (Ai lo 83 [Ap a n c,Iv x] q) λz g=>eB z (BM lo f b m p y (AL (x+1)) a n c g) (AB (AL (x+1)) n (eO a λz=>eO (ld g z.1 (z.2+((AL (x+(1:Int))).toNat)) 0 1) λz=>eC z λz i=>eS 6 z λz j k=>eN i (Al (Ai lo 84 [Vo v o s l u w,By z j k] g) λz g=>eB z (BM lo f b m p y (AL (x+1)) a n c g) (AN g)))))) (Al (Ai lo 83 [Ap a n c,Iv x] q) λz q=>eB z (BM lo f b m p y (AL (x+1)) a n c q) (AB (AL (x+1)) n (eO a λz=>eO (ld q z.1 (z.2+((AL (x+(1:Int))).toNat)) 0 1) λz=>eC z λz g=>eS 6 z λz i j=>eN g (Al (Ai lo 84 [Vo v o s l u w,By z i j] q) λv l=>eB v (BM lo f b m p y (AL (x+1)) a n c l) (AN l)))))))) (Cj h) :=
 lE
theorem NH (hk:(eO (ld h n m (k+0) 1) λv=>eC v λv l=>eN l (eS 2 v λv l c=>eO (ld h n m (k+0) 1) λc=>eC c λc a=>eN a (eS 2 c λc c a=>AB (AL ((c:Int) - 1)) l (eO v λv=>eO (ld h v.1 (v.2+((AL ((c:Int) - (1:Int))).toNat)) 0 1) λv=>eC v λv l=>eS 6 v λv c a=>eN l (some ((By v c a),h))))))=some r) :
  Ai lo 47 [BU n m k] h=some r :=
 eK Tryz.func47 hk
def Cd lo a n c x y m b k p d i u h:=
 LA 48 Tryz.f48 221311 0 111 lo ⟨[(2,.lp 2 0),(3,.lp 3 0),(8,.sl 6 a n c),(9,Iv x),(10,Iv y)],[(2,[.sl m b k p]),(3,(Co d i u))],h⟩
theorem Nz (hk:(Al (Ai lo 65 [] h) λv l=>eA v λv=>eC v λv o=>eS 2 v λv s b=>eN o (Cd lo a n c (n:Int) 0 0 none 0 (some 0) v s b l))=some r) :
  Ai lo 48 [By a n c] h=some r :=
 eK Tryz.func48 hk
theorem Cd.e :
  Cd lo b m p y x k d i u a n c h=br (decide (x<y)) (AB x m (eO b λv=>eO (ld h v.1 (v.2+x.toNat) 0 6) λv=>eC v λv l=>eI .i64 v λv=>eC l λv l=>eI .i64 v λv=>eC l λl o=>eI .i64 l λl=>eC o λo s=>eS 2 o λo o o=>eC s λo s=>eT o λo=>eC s λo s=>eBv o λo=>eN s (AB x n (eO a λo=>eO (st lo h o.1 (o.2+x.toNat) 0 (BI v l)) λv=>Cd lo b m p y (AL (x+1)) k d i u a n c v)))) (some ((Ap a n c),h)) :=
 lE
def C5 lo n m k f a i c x y h:=
 LA 49 Tryz.f49 221311 0 111 lo ⟨[(1,(BU n m k)),(2,.bool f),(32,.sl 6 a i c),(33,Iv x),(34,Iv y)],[],h⟩
def BK lo n m k f a i c x y h:=
 LA 49 Tryz.f49 2213111 2 1111 lo ⟨[(1,(BU n m k)),(2,.bool f),(50,.sl 6 a i c),(51,Iv x),(52,Iv y)],[],h⟩
def C4 lo n m k f a i c x y b j p z t h:=
 Lp (X 49) lo (pf 221123112213111 Tryz.f49) 4 (CE 4 (CE 3 (kS (X 49) lo (pf 1112213111 Tryz.f49) 2 (zaU (X 49) lo (pf 2213111 Tryz.f49) 2 (CE 2 (kS (X 49) lo (pf 1111 Tryz.f49) 0 (MS (X 49) Tryz.f49.results.toList))))))) ⟨[(1,(BU n m k)),(2,.bool f),(50,.sl 6 a i c),(51,Iv x),(52,Iv y),(57,.sl 1 b j p),(58,Iv z),(59,Iv t)],[],h⟩
theorem Ry {e:Pq} (hk:(eO (ld (h ++ [.rows 4 41 false [Dg a n c b m p d k u e i s]]) h.length 0 0 1) λv=>eC v λv l=>eN l (eS 6 v λv v l=>br ((v:Int)==3) (eO (ld (h ++ [.rows 4 41 false [Dg a n c b m p d k u e i s]]) h.length 0 1 1) λv=>eC v λv l=>eN l (eS 5 v λv v l=>br (decide ((v:Int)>4)) (AN (h ++ [.rows 4 41 false [Dg a n c b m p d k u e i s]])) (eO (ld (h ++ [.rows 4 41 false [Dg a n c b m p d k u e i s]]) h.length 0 2 1) λv=>eC v λv l=>eN l (eS 9 v λv v l=>br (decide ((v:Int)>12)) (AN (h ++ [.rows 4 41 false [Dg a n c b m p d k u e i s]])) (eO (ld (h ++ [.rows 4 41 false [Dg a n c b m p d k u e i s]]) h.length 0 3 1) λv=>eC v λv l=>eN l (eS 5 v λv l o=>Al (Ai lo 27 [.sl 5 v l o] (h ++ [.rows 4 41 false [Dg a n c b m p d k u e i s]])) λv l=>eB v (eO (ld l h.length 0 0 1) λv=>eC v λv o=>eN o (eS 6 v λv o x=>C5 lo h.length 0 0 false v o x (o:Int) 0 l)) (AN l))))))) (AN (h ++ [.rows 4 41 false [Dg a n c b m p d k u e i s]]))))=some r) :
  Ai lo 49 [At a n c b m p d k u e i s] h=some r :=
 eK Tryz.func49 hk
theorem C5.e :
  C5 lo n m k f a i c y x h=br (decide (x<y)) (AB x i (eO a λv=>eO (ld h v.1 (v.2+x.toNat) 0 6) λv=>eC v λv l=>eI .i64 v λv=>eC l λl o=>eI .i64 l λl=>eC o λo s=>eS 2 o λo b z=>eC s λs u=>eS 6 s λs w p=>eC u λu q=>eS 1 u λu g j=>eC q λq t=>eBv q λq=>eN t (Al (Ai lo 85 [BV v l o b z s w p u g j q] h) λl o=>eB l (br (v==x) (C5 lo n m k f a i c y (AL (x+1)) o) (AN o)) (AN o)))) (eO (ld h n m (k+0) 1) λv=>eC v λv l=>eN l (eS 6 v λv l o=>BK lo n m k f v l o (l:Int) 0 h)) :=
 lE
theorem BK.e :
  BK lo n m k f a i c y x h=br (decide (x<y)) (AB x i (eO a λv=>eO (ld h v.1 (v.2+x.toNat) 0 6) λv=>eC v λv l=>eI .i64 v λv=>eC l λv l=>eI .i64 v λv=>eC l λv l=>eS 2 v λv v v=>eC l λv l=>eS 6 v λv v v=>eC l λv l=>eS 1 v λv o s=>eC l λl b=>eBv l λl=>eN b (C4 lo n m k f a i c y x v o s (o:Int) 0 h))) (eO (ld h n m (k+1) 1) λv=>eC v λv l=>eN l (eS 5 v λv l o=>Al (Ai lo 87 [.sl 5 v l o,.fn 88 []] h) λv l=>eB v (AN l) (eO (ld l n m (k+2) 1) λv=>eC v λv o=>eN o (eS 9 v λv o s=>Al (Ai lo 90 [.sl 9 v o s,.fn 91 [BU n m k]] l) λv l=>eB v (AN l) (Cj l))))) :=
 lE
theorem C4.e :
  C4 lo n m k f a i c y z b j p t x h=br (decide (x<t)) (AB x j (eO b λv=>eO (ld h v.1 (v.2+x.toNat) 0 1) λv=>eC v λv l=>eN l (eS 6 v λv l o=>eO (ld h n m (k+0) 1) λs=>eC s λs u=>eN u (eS 6 s λs u w=>AB x u (eO s λs=>eO (ld h s.1 (s.2+x.toNat) 3 1) λs=>eC s λs u=>eN u (eS 6 s λs u w=>Al (Ai lo 86 (KJ s u w v l o) h) λv l=>eB v (C4 lo n m k f a i c y z b j p t (AL (x+1)) l) (AN l))))))) (BK lo n m k f a i c y (AL (z+1)) h) :=
 lE
def Cu lo f a n c x y b m p h:=
 LA 50 Tryz.f50 22131 0 11 lo ⟨[(1,.lp 1 0),(2,.bool f),(6,.sl 6 a n c),(7,Iv x),(8,Iv y)],[(1,(Cc b m p))],h⟩
theorem RB (hk:(Cu h.length false a n c (n:Int) 0 a n c h)=some (v,h')) (hn:noId v=true:=by rfl) :
  Ai lo 50 [By a n c] h=some (v,h) :=
 eD Tryz.func50 hk hn
theorem Cu.e :
  Cu lo f a n c y x b m p h=br (decide (x<y)) (AB x n (eO a λv=>eO (ld h v.1 (v.2+x.toNat) 0 6) λv=>eC v λv l=>eI .i64 v λv=>eC l λl o=>eI .i64 l λl=>eC o λo s=>eI .i64 o λo=>eC s λs z=>eS 2 s λs u w=>eC z λz q=>eT z λz=>eC q λq g=>eBv q λq=>eN g (Al (Ai lo 93 [AP v l o s u w z q,.agg [Iv 0,Iv 0,Iv 0,.sl 0 none 0 (some 0),.str ⟨⟨[]⟩⟩,.bool false]] h) λg i=>eB g (Cu lo f a n c y (AL (x+1)) b m p i) (Al (Ai lo 82 [AP v l o s u w z q] i) λl o=>eB l (br (v==x) (Cu lo f a n c y (AL (x+1)) b m p o) (AN o)) (AN o))))) (br ((m:Int)==4) (Cj h) (AN h)) :=
 lE
theorem C7 (hk:(Al (Ai h.length 94 [.sl 6 a n c,.fn m l] h) λo s=>eI .i64 o λo=>br (decide (o>=0)) (Cj s) (AN s))=some (v,h')) (hn:noId v=true:=by rfl) :
  Ai lo 51 [.sl 6 a n c,.fn m l] h=some (v,h) :=
 eD Tryz.func51 hk hn
theorem HJ (hk:(br ((x==0)&&((y==0)&&true)) (AN h) (eO (ld h m 0 0 1) λv=>eC v λv l=>eS 6 v λv o s=>eN l (Al (Ai h.length 48 [By v o s] h) λv l=>eA v λv=>eC v λv o=>eS 2 v λv s b=>eN o (Al (Ai lo 45 [Ap a n c,Ap v s b] l) λv l=>eB v (AN l) (Cj l)))))=some r) :
  Ai lo 52 [AP z x y a n c S f,BU m 0 0] h=some r :=
 eK Tryz.func52 hk
theorem EK (hk:(Al (Ai h.length 97 [.sl 5 a n c,.fn m l] h) λo s=>eI .i64 o λo=>br (decide (o>=0)) (Cj s) (AN s))=some (v,h')) (hn:noId v=true:=by rfl) :
  Ai lo 54 [.sl 5 a n c,.fn m l] h=some (v,h) :=
 eD Tryz.func54 hk hn
theorem PI (hk:(Al (Ai h.length 56 (CC t 0 3) h) λl c=>eB l (Al (Ai h.length 56 (CC x 1 3) c) λl n=>eB l (Al (Ai h.length 57 (AW w) n) λl a=>eB l (Al (Ai h.length 58 [Ay y z] a) λl o=>eB l (br ((y==0)&&((z==0)&&true)) (br (x==2) (AN o) (Cj o)) (AN o)) (Cj o)) (Cj a)) (Cj n)) (Cj c))=some (v,h')) (hn:noId v=true:=by rfl) :
  Ai lo 55 [XA t x w y z] h=some (v,h) :=
 eD Tryz.func55 hk hn
theorem Sp (hk:(br (decide (x>=y)) (br (decide (x<=z)) (Cj h) (AN h)) (AN h))=some (v,h')) (hn:noId v=true:=by rfl) :
  Ai lo 56 (CC x y z) h=some (v,h) :=
 eD Tryz.func56 hk hn
theorem Ux (hk:(Al (Ai h.length 56 (CC x 0 3) h) λl c=>eB l (Cj c) (AN c))=some (v,h')) (hn:noId v=true:=by rfl) :
  Ai lo 57 (AW x) h=some (v,h) :=
 eD Tryz.func57 hk hn
theorem UA (hk:(br ((x==0)&&((y==0)&&true)) (Cj h) (Al (Ai h.length 56 (CC x 1 999) h) λl c=>eB l (Al (Ai h.length 98 (AW y) c) λl n=>eB l (Cj n) (AN n)) (AN c)))=some (v,h')) (hn:noId v=true:=by rfl) :
  Ai lo 58 [Ay x y] h=some (v,h) :=
 eD Tryz.func58 hk hn
def Hk lo n m k x h:=
 LA 60 Tryz.f60 221311 0 111 lo ⟨[(1,(BU n m k)),(6,Iv x)],[],h⟩
theorem Hk.e :
  Hk lo n m k x h=br (decide (x<4)) (Al (Ai lo 65 [] h) λv l=>eA v λv=>eC v λv c=>eS 2 v λv a o=>eN c (AB x 4 (eO (st lo l n m ((k+0)+(x.toNat*1)) (Co v a o)) λv=>Hk lo n m k (AL (x+1)) v))) (some ((BU n m k),h)) :=
 lE
def Br lo n m k x a i c y b j p d g u e G s A H C h:=
 LA 62 Tryz.f62 2213111 0 1111 lo ⟨[(0,(BU n m k)),(3,Iv x),(9,.lp 9 0),(10,.sl 6 a i c),(11,Iv y)],[(9,(Dg b j p d g u e G s A H C))],h⟩
theorem OB (hk:(Al (Ai lo 75 (BI x y) h) λv l=>eA v λv=>eC v λv c=>eS 6 v λv a o=>eC c λc s=>eS 5 c λc b u=>eC s λs w=>eS 9 s λs p q=>eC w λw g=>eS 5 w λw i j=>eN g (Br lo n m k z (some (l.length,0)) 0 (some 0) 0 v a o c b u s p q w i j (l ++ [.rows 6 70 false []])))=some r) :
  Ai lo 62 [BU n m k,Iv x,Iv y,Iv z] h=some r :=
 eK Tryz.func62 hk
theorem Br.e {lo n m k i j g G H:Nat}{x y:Int}{a b d A B:Pq}{c p u s C:Nq}{h:Heap} :
  Br lo n m k x a i c y b j p d g u A G s B H C h=br (decide (y<x)) (Al (Ai lo 103 [BU n m k,At b j p d g u A G s B H C] h) λv l=>eA v λv=>eC v λv o=>eI .i64 v λv=>eC o λo z=>eI .i64 o λo=>eC z λz w=>eI .i64 z λz=>eC w λw q=>eI .i64 w λw=>eC q λq t=>eT q λq=>eC t λt e=>eBv t λt=>eN e (Al (Ai lo 76 [At b j p d g u A G s B H C,Bh v o z w q t] l) λl e=>eU l λl=>eC l λl f=>eA l λl=>eC l λl D=>eS 6 l λl E J=>eC D λD K=>eS 5 D λD L M=>eC K λK N=>eS 9 K λK O P=>eC N λN Q=>eS 5 N λN S U=>eN Q (eC f λf Q=>eB f (eN Q (Au 6 (e ++ [.rows 6 70 false [Tk v o z w q t]]) (.sl 6 (some (e.length,0)) 1 (some 1)) λf=>Dd lo 70 6 56 (.sl 6 a i c) f (e ++ [.rows 6 70 false [Tk v o z w q t]]) λf W=>eS 6 f λf Y Z=>Br lo n m k x f Y Z (AL (y+1)) l E J D L M K O P N S U W)) (eN Q (Al (Ai lo 33 [BU n m k,Iv 6] e) λe f=>eI .i64 e λe=>br (decide (e>0)) (Br lo n m k x a i c (AL (y+1)) b j p d g u A G s B H C f) (Au 6 (f ++ [.rows 6 70 false [Tk v o z w q t]]) (.sl 6 (some (f.length,0)) 1 (some 1)) λe=>Dd lo 70 6 56 (.sl 6 a i c) e (f ++ [.rows 6 70 false [Tk v o z w q t]]) λv o=>eS 6 v λv z w=>Br lo n m k x v z w (AL (y+1)) l E J D L M K O P N S U o)))))) (some (.sl 6 a i c,h)) :=
 lE
theorem Rx (hk:(Al (Ai h.length 56 (CC x 1 4) h) λl c=>eB l (Cj c) (AN c))=some (v,h')) (hn:noId v=true:=by rfl) :
  Ai lo 63 (AW x) h=some (v,h) :=
 eD Tryz.func63 hk hn
theorem PM (hk:(Al (Ai lo 98 (AW x) h) λv l=>eB v (Al (Ai lo 63 (AW y) l) λv c=>eB v (Al (Ai c.length 104 (AW y) c) λv n=>eA v λv=>eC v λv a=>eS 2 v λv o s=>eN a (some (.agg [Iv x,Iv 0,.sl 2 v o s,.sl 0 none 0 (some 0),.sl 1 (some (n.length,0)) 3 (some 3),.bool false],(n ++ [.rows 1 50 false [[.sl 0 none 0 (some 0)],[.sl 0 none 0 (some 0)],[.sl 0 none 0 (some 0)]]])))) (some (.agg [Iv 0,Iv 0,.sl 0 none 0 (some 0),.sl 0 none 0 (some 0),.sl 0 none 0 (some 0),.bool false],c))) (some (.agg [Iv 0,Iv 0,.sl 0 none 0 (some 0),.sl 0 none 0 (some 0),.sl 0 none 0 (some 0),.bool false],l)))=some r) :
  Ai lo 64 (BI x y) h=some r :=
 eK Tryz.func64 hk
theorem Kh (hk:(some ((Ap (some (h.length,0)) 4 (some 4)),(h ++ [.rows 2 30 false [BI 0 0,BI 0 0,BI 0 0,BI 0 0]])))=some r) :
  Ai lo 65 [] h=some r :=
 eK Tryz.func65 hk
theorem Lx (hk:(eO (ld h n m (k+1) 1) λv=>eC v λv l=>eN l (eS 5 v λv v l=>Al (Ai lo 56 (CC x 0 (AL ((v:Int) - 1))) h) λv l=>eB v (eO (ld l n m (k+1) 1) λv=>eC v λv c=>eN c (eS 5 v λv c a=>AB x c (eO v λv=>eO (ld l v.1 (v.2+x.toNat) 2 2) λc=>eC c λc a=>eI .i64 c λc=>eC a λa o=>eI .i64 a λa=>eN o (br ((c==0)&&((a==0)&&true)) (br (y==2) (AN l) (br (y==1) (Al (Ai lo 105 [BU n m k,.ptr (some (v.1,((v.2+x.toNat),0))),Bh y x z t S f] l) λc a=>eB c (Cj a) (AN a)) (br (y==2) (Al (Ai lo 106 [BU n m k,.ptr (some (v.1,((v.2+x.toNat),0))),Bh y x z t S f] l) λc a=>eB c (Cj a) (AN a)) (br (y==3) (Al (Ai lo 107 [BU n m k,.ptr (some (v.1,((v.2+x.toNat),0))),Bh y x z t S f] l) λc a=>eB c (Cj a) (AN a)) (br (y==4) (Al (Ai lo 108 [BU n m k,.ptr (some (v.1,((v.2+x.toNat),0))),Bh y x z t S f] l) λc a=>eB c (Cj a) (AN a)) (Al (Ai lo 98 (AW z) l) λc a=>eB c (eO (st lo a v.1 (v.2+x.toNat) 0 (AW z)) λc=>some (.bool true,c)) (AN a))))))) (br (y==2) (br (y==1) (Al (Ai lo 105 [BU n m k,.ptr (some (v.1,((v.2+x.toNat),0))),Bh y x z t S f] l) λc a=>eB c (Cj a) (AN a)) (br (y==2) (Al (Ai lo 106 [BU n m k,.ptr (some (v.1,((v.2+x.toNat),0))),Bh y x z t S f] l) λc a=>eB c (Cj a) (AN a)) (br (y==3) (Al (Ai lo 107 [BU n m k,.ptr (some (v.1,((v.2+x.toNat),0))),Bh y x z t S f] l) λc a=>eB c (Cj a) (AN a)) (br (y==4) (Al (Ai lo 108 [BU n m k,.ptr (some (v.1,((v.2+x.toNat),0))),Bh y x z t S f] l) λc a=>eB c (Cj a) (AN a)) (Al (Ai lo 98 (AW z) l) λc a=>eB c (eO (st lo a v.1 (v.2+x.toNat) 0 (AW z)) λv=>some (.bool true,v)) (AN a)))))) (AN l)))))) (AN l)))=some r) :
  Ai lo 66 [BU n m k,Bh y x z t S f] h=some r :=
 eK Tryz.func66 hk
theorem Ly (hk:(Al (Ai lo 98 (AW x) h) λv l=>eB v (eO (ld l n m (k+0) 1) λv=>eC v λv c=>eN c (eS 6 v λv c a=>AB x c (eO v λv=>br (t==6) (Al (Ai lo 109 [.ptr (some (v.1,((v.2+x.toNat),0))),Iv y] l) λc a=>eB c (Cj a) (AN a)) (br (t==7) (Al (Ai lo 110 [.ptr (some (v.1,((v.2+x.toNat),0))),Iv y] l) λc a=>eB c (Cj a) (AN a)) (br (t==8) (Al (Ai lo 111 [.ptr (some (v.1,((v.2+x.toNat),2)))] l) λc a=>eB c (Cj a) (AN a)) (br (t==9) (Al (Ai lo 112 [.ptr (some (v.1,((v.2+x.toNat),0))),Iv y] l) λc a=>eB c (Cj a) (AN a)) (Al (Ai lo 113 (BI x y) l) λc a=>eB c (eO (ld a v.1 (v.2+x.toNat) 3 1) λc=>eC c λc o=>eN o (eS 6 c λc c o=>Al (Ai lo 56 (CC z 0 (AL ((c:Int) - 1))) a) λc o=>eB c (eO (ld o n m (k+2) 1) λc=>eC c λc s=>eN s (eS 9 c λc c s=>br (decide ((c:Int)>=12)) (AN o) (eO (ld o n m (k+2) 1) λc=>eC c λc s=>eN s (eS 9 c λc s b=>eO (ld o v.1 (v.2+x.toNat) 3 1) λv=>eC v λv u=>eN u (eS 6 v λv u w=>AB z u (eO v λv=>eO (ld o v.1 (v.2+z.toNat) 0 6) λv=>eC v λv u=>eI .i64 v λv=>eC u λu w=>eI .i64 u λu=>eC w λw p=>eI .i64 w λw=>eC p λp q=>eS 2 p λp g i=>eC q λq j=>eT q λq=>eC j λj d=>eBv j λj=>eN d (Al (Ai o.length 73 [AP v u w p g i q j] o) λv u=>eA v λv=>eC v λv w=>eI .i64 v λv=>eC w λw p=>eI .i64 w λw=>eC p λp q=>eI .i64 p λp=>eC q λq g=>eS 2 q λq i j=>eC g λg d=>eT g λg=>eC d λd e=>eBv d λd=>eN e (Au 9 (u ++ [.rows 9 91 false [Pl x y z v w p q i j g d]]) (.sl 9 (some (u.length,0)) 1 (some 1)) λe=>Dd lo 91 9 96 (.sl 9 c s b) e (u ++ [.rows 9 91 false [Pl x y z v w p q i j g d]]) λv c=>eS 9 v λv s b=>eO (st lo c n m (k+2) [.sl 9 v s b]) λv=>some (.bool true,v))))))))) (AN o))) (AN a)))))))) (AN l))=some r) :
  Ai lo 67 [BU n m k,Bh t x y z S f] h=some r :=
 eK Tryz.func67 hk
theorem KV (hk:(eO (ld h n m (k+2) 1) λv=>eC v λv l=>eN l (eS 9 v λv v l=>Al (Ai lo 56 (CC x 0 (AL ((v:Int) - 1))) h) λv l=>eB v (eO (ld l n m (k+2) 1) λv=>eC v λv c=>eN c (eS 9 v λv c a=>AB x c (eO v λv=>eO (ld l v.1 (v.2+x.toNat) 0 9) λv=>eC v λv c=>eI .i64 v λv=>eC c λc a=>eI .i64 c λc=>eC a λa o=>eI .i64 a λa=>eC o λo s=>eI .i64 o λo=>eC s λs b=>eI .i64 s λs=>eC b λb u=>eI .i64 b λb=>eC u λu w=>eS 2 u λu p q=>eC w λw g=>eT w λw=>eC g λg i=>eBv g λg=>eN i (br (y==13) (br (y==12) (Cj l) (eO (ld l n m (k+0) 1) λi=>eC i λi j=>eN j (eS 6 i λi j d=>AB c j (eO i λi=>Al (Ai lo 115 [.ptr (some (i.1,((i.2+c.toNat),0))),Iv v,Iv a,AP o s b u p q w g] l) λi j=>eB i (Cj j) (Cj j))))) (eO (ld l n m (k+2) 1) λi=>eC i λi j=>eN j (eS 9 i λi j d=>Al (Ai lo 114 [.sl 9 i j d,Iv x,Iv (AL (x+1))] l) λi j=>eS 9 i λi d e=>eO (st lo j n m (k+2) [.sl 9 i d e]) λi=>br (y==12) (Cj i) (eO (ld i n m (k+0) 1) λj=>eC j λj d=>eN d (eS 6 j λj d e=>AB c d (eO j λj=>Al (Ai lo 115 [.ptr (some (j.1,((j.2+c.toNat),0))),Iv v,Iv a,AP o s b u p q w g] i) λv c=>eB v (Cj c) (Cj c)))))))))) (AN l)))=some r) :
  Ai lo 68 [BU n m k,Bh y x z t S f] h=some r :=
 eK Tryz.func68 hk
theorem Gw (hk:(Aw a n c none (some (Iv (n:Int))) (some (Iv (n:Int))) λv l o=>some (.sl 5 v l o,h))=some r) :
  Ai lo 69 [.sl 5 a n c] h=some r :=
 eK Tryz.func69 hk
theorem D0 (hk:(br (a.isNone) (some (.sl 0 none 0 (some 0),h)) (Au 5 (h ++ [.rows 5 32 false []]) (.sl 5 a n c) λv=>Dd lo 32 5 40 (.sl 5 (some (h.length,0)) 0 (some 0)) v (h ++ [.rows 5 32 false []]) λv l=>eS 5 v λv o s=>some (.sl 5 v o s,l)))=some r) :
  Ai lo 70 [.sl 5 a n c] h=some r :=
 eK Tryz.func70 hk
def BQ lo a n c x y z t m b k p i d j u g e G s f w q A H C B J D a0 P c0 F h:=
 LA 71 Tryz.f71 221311 0 111 lo ⟨[(2,.lp 2 0),(3,.lp 3 0),(24,.sl 1 a n c),(25,Iv x),(26,Iv y)],[(2,[Iv z,Iv t,.sl m b k p,.sl i d j u,.sl g e G s,.bool f]),(3,(D1 w q A H C B J D a0 P c0 F))],h⟩
theorem LC (hk:(Al (Ai h.length 116 [Ap a m c] h) λv l=>eA v λv=>eC v λv o=>eS 2 v λv s z=>eN o (Al (Ai l.length 117 (Cc b k p) l) λl o=>eS 6 l λl w q=>Bd (decide ((0:Int)<=0/\(0:Int)<=(n:Int)/\(n:Int)<=140737488355328/\(n:Int)*((24:Nat):Int)<=281474976710656)) (BQ lo d n u (n:Int) 0 0 0 0 none 0 (some 0) 0 none 0 (some 0) 0 none 0 (some 0) false x y v s z l w q (some (o.length,0)) 0 (some n) f (o ++ [.rows 1 50 false (List.replicate n [.sl 0 none 0 (some 0)])]))))=some r) :
  Ai lo 71 [BV x y a m c b k p d n u f] h=some r :=
 eK Tryz.func71 hk
theorem BQ.e {lo n j g G H J P m k i:Nat}{a B a0 a1 b d A:Pq}{s C D c0 c p u:Nq}{y x w q z t:Int}{F f:Bool}{h:Heap} :
  BQ lo a n s y x w q j B g C G a0 H D J a1 P c0 F z t b m c d k p A i u f h=br (decide (x<y)) (AB x n (eO a λv=>eO (ld h v.1 (v.2+x.toNat) 0 1) λv=>eC v λv l=>eN l (eS 6 v λv l o=>Al (Ai lo 117 (Cc v l o) h) λv l=>eS 6 v λv o e=>Au 1 (l ++ [.rows 1 50 false [Cc v o e]]) (.sl 1 (some (l.length,0)) 1 (some 1)) λE=>Dd lo 50 1 24 (.sl 1 A i u) E (l ++ [.rows 1 50 false [Cc v o e]]) λv l=>eS 1 v λv o e=>BQ lo a n s y (AL (x+1)) w q j B g C G a0 H D J a1 P c0 F z t b m c d k p v o e f l))) (some ((BV z t b m c d k p A i u f),h)) :=
 lE
theorem Mq (hk:(Al (Ai lo 119 (Co a n c) h) λv l=>eS 2 v λv o s=>Al (Ai lo 118 (Co v o s) l) λv l=>eS 2 v λv o s=>some ((Ap v o s),l))=some r) :
  Ai lo 72 [Ap a n c] h=some r :=
 eK Tryz.func72 hk
theorem Ny (hk:(Al (Ai lo 72 [Ap a n c] h) λv l=>eA v λv=>eC v λv o=>eS 2 v λv s b=>eN o (some ((AP x y z v s b S f),l)))=some r) :
  Ai lo 73 [AP x y z a n c S f] h=some r :=
 eK Tryz.func73 hk
def C3 lo f x a n c b m p h:=
 LA 74 Tryz.f74 221311 0 111 lo ⟨[(2,.lp 2 0),(3,.lp 3 0),(4,.bool f),(5,Iv x)],[(2,(Co a n c)),(3,(Co b m p))],h⟩
theorem Rv (hk:(br ((n:Int)==(m:Int)) (C3 h.length false 0 a n c b m p h) (AN h))=some (v,h')) (hn:noId v=true:=by rfl) :
  Ai lo 74 [Ap a n c,Ap b m p] h=some (v,h) :=
 eD Tryz.func74 hk hn
theorem C3.e :
  C3 lo f x a n c b m p h=br (decide (x<(n:Int))) (AB x n (eO a λv=>eO (ld h v.1 (v.2+x.toNat) 0 1) λv=>eC v λv l=>eS 6 v λv o s=>eN l (AB x m (eO b λl=>eO (ld h l.1 (l.2+x.toNat) 0 1) λl=>eC l λl y=>eS 6 l λl z u=>eN y (Al (Ai lo 120 [By v o s,By l z u] h) λv l=>eB v (AB x n (eO a λv=>eO (ld l v.1 (v.2+x.toNat) 1 1) λv=>eC v λv o=>eN o (eS 6 v λv o s=>AB x m (eO b λy=>eO (ld l y.1 (y.2+x.toNat) 1 1) λy=>eC y λy z=>eN z (eS 6 y λy z u=>Al (Ai lo 19 (KJ v o s y z u) l) λv o=>eB v (C3 lo f (AL (x+1)) a n c b m p o) (AN o)))))) (AN l)))))) (Cj h) :=
 lE
def DW lo x y z n a m c k b i p j d g u G e H s J A P C n0 B n1 D n2 a0 n3 c0 n4 a1 n5 c1 h:=
 LA 75 Tryz.f75 221311 0 111 lo ⟨[(0,Iv x),(1,Iv y),(4,.lp 4 0),(5,.lp 5 0),(6,Iv z)],[(4,[.sl n a m c,.sl k b i p,.sl j d g u,.sl G e H s]),(5,[.sl J A P C,.sl n0 B n1 D,.sl n2 a0 n3 c0,.sl n4 a1 n5 c1])],h⟩
def DV lo x y n a m c k b i p j d g u G e H s J A P C n0 B n1 D n2 a0 n3 c0 n4 a1 n5 c1 h:=
 LA 75 Tryz.f75 2213111 2 1111 lo ⟨[(1,Iv x),(4,.lp 4 0),(5,.lp 5 0),(7,Iv y)],[(4,[.sl n a m c,.sl k b i p,.sl j d g u,.sl G e H s]),(5,[.sl J A P C,.sl n0 B n1 D,.sl n2 a0 n3 c0,.sl n4 a1 n5 c1])],h⟩
theorem Uj (hk:(DW lo x y 0 0 none 0 (some 0) 0 none 0 (some 0) 0 none 0 (some 0) 0 none 0 (some 0) 0 none 0 (some 0) 0 none 0 (some 0) 0 none 0 (some 0) 0 none 0 (some 0) h)=some r) :
  Ai lo 75 (BI x y) h=some r :=
 eK Tryz.func75 hk
theorem DW.e {lo n m k i j g G H J P n0 n1 n2 n3 n4 n5:Nat}{y z x:Int}{a b d A B a0 a1 a2:Pq}{c p u s C D c0 c1:Nq}{h:Heap} :
  DW lo y z x n a m c k b i p j d g u G A H s J B P C n0 a0 n1 D n2 a1 n3 c0 n4 a2 n5 c1 h=br (decide (x<3)) (Al (Ai lo 121 (BI x y) h) λv l=>eA v λv=>eC v λv o=>eI .i64 v λv=>eC o λo w=>eI .i64 o λo=>eC w λw q=>eS 2 w λw t e=>eC q λq f=>eS 6 q λq E K=>eC f λf L=>eS 1 f λf M N=>eC L λL O=>eBv L λL=>eN O (Au 6 (l ++ [.rows 6 60 false [D1 v o w t e q E K f M N L]]) (.sl 6 (some (l.length,0)) 1 (some 1)) λO=>Dd lo 60 6 96 (.sl J B P C) O (l ++ [.rows 6 60 false [D1 v o w t e q E K f M N L]]) λv l=>eS 6 v λv o w=>DW lo y z (AL (x+1)) n a m c k b i p j d g u G A H s 6 v o w n0 a0 n1 D n2 a1 n3 c0 n4 a2 n5 c1 l)) (DV lo z 0 n a m c k b i p j d g u G A H s J B P C n0 a0 n1 D n2 a1 n3 c0 n4 a2 n5 c1 h) :=
 lE
theorem DV.e {n4 n5:Nat} :
  DV lo y x J B P C n0 a0 n1 D n2 a1 n3 c0 n4 a2 n5 c1 n a m c k b i p j d g u G A H s h=br (decide (x<y)) (Al (Ai lo 122 [] h) λv l=>eA v λv=>eC v λv o=>eS 2 v λv z w=>eN o (Au 5 (l ++ [.rows 5 72 false [Pk (x.tmod (3:Int)) v z w 0 0 0]]) (.sl 5 (some (l.length,0)) 1 (some 1)) λo=>Dd lo 72 5 56 (.sl k b i p) o (l ++ [.rows 5 72 false [Pk (x.tmod (3:Int)) v z w 0 0 0]]) λv l=>eS 5 v λv o z=>DV lo y (AL (x+1)) J B P C n0 a0 n1 D n2 a1 n3 c0 n4 a2 n5 c1 n a m c 5 v o z j d g u G A H s l)) (some (.agg [.sl n a m c,.sl k b i p,.sl j d g u,.sl G A H s],h)) :=
 lE
theorem VN {e:Pq} (hk:(Al (Ai lo 41 (CC x 1 5) h) λv l=>eB v (Al (Ai lo 123 [At a n c b m p d k u e i s,Bh x y z t S f] l) λv o=>eU v λv=>eC v λv w=>eA v λv=>eC v λv q=>eS 6 v λv g j=>eC q λq A=>eS 5 q λq B C=>eC A λA D=>eS 9 A λA E G=>eC D λD H=>eS 5 D λD J K=>eN H (eC w λw H=>eB w (eN H (some (.tup [At v g j q B C A E G D J K,.bool true],o))) (eN H (some (.tup [At v g j q B C A E G D J K,.bool false],o))))) (Al (Ai lo 41 (CC x 6 9) l) λv l=>eB v (Al (Ai lo 124 [At a n c b m p d k u e i s,Bh x y z t S f] l) λv o=>eU v λv=>eC v λv w=>eA v λv=>eC v λv q=>eS 6 v λv g j=>eC q λq A=>eS 5 q λq B C=>eC A λA D=>eS 9 A λA E G=>eC D λD H=>eS 5 D λD J K=>eN H (eC w λw H=>eB w (eN H (some (.tup [At v g j q B C A E G D J K,.bool true],o))) (eN H (some (.tup [At v g j q B C A E G D J K,.bool false],o))))) (Al (Ai lo 41 (CC x 10 13) l) λv l=>eB v (Al (Ai lo 125 [At a n c b m p d k u e i s,Bh x y z t S f] l) λv o=>eU v λv=>eC v λv w=>eA v λv=>eC v λv q=>eS 6 v λv g j=>eC q λq A=>eS 5 q λq B C=>eC A λA D=>eS 9 A λA E G=>eC D λD H=>eS 5 D λD J K=>eN H (eC w λw H=>eB w (eN H (some (.tup [At v g j q B C A E G D J K,.bool true],o))) (eN H (some (.tup [At v g j q B C A E G D J K,.bool false],o))))) (some (.tup [At a n c b m p d k u e i s,.bool false],l)))))=some r) :
  Ai lo 76 [At a n c b m p d k u e i s,Bh x y z t S f] h=some r :=
 eK Tryz.func76 hk
def DZ lo x y a n c z t h:=
 LA 77 Tryz.f77 221311 0 111 lo ⟨[(2,Iv x),(3,Iv y),(6,.sl 1 a n c),(7,Iv z),(8,Iv t)],[],h⟩
theorem UB (hk:(DZ h.length 0 0 a n c (n:Int) 0 h)=some (v,h')) (hn:noId v=true:=by rfl) :
  Ai lo 77 [.sl 1 a n c] h=some (v,h) :=
 eD Tryz.func77 hk hn
theorem DZ.e :
  DZ lo t y a n c z x h=br (decide (x<z)) (AB x n (eO a λv=>eO (ld h v.1 (v.2+x.toNat) 0 1) λv=>eC v λv l=>eN l (eI .i64 v λv=>br (v==y) (DZ lo t y a n c z (AL (x+1)) h) (some (Iv v,h))))) (some (Iv y,h)) :=
 lE
theorem NM (hk:(Al (Ai h.length 126 (AW y) h) λl c=>eB l (Al (Ai h.length 126 (AW x) c) λl n=>eB l (some (Iv 0,n)) (some (Iv (-1),n))) (Al (Ai h.length 126 (AW x) c) λl c=>eB l (some (Iv 1,c)) (br (decide (y<x)) (some (Iv (-1),c)) (br (decide (y>x)) (some (Iv 1,c)) (some (Iv 0,c))))))=some (v,h')) (hn:noId v=true:=by rfl) :
  Ai lo 78 (BI y x) h=some (v,h) :=
 eD Tryz.func78 hk hn
theorem EX (hk:(Al (Ai h.length 127 [.sl 2 a n c,.fn m l] h) λo s=>eI .i64 o λo=>br (decide (o>=0)) (Cj s) (AN s))=some (v,h')) (hn:noId v=true:=by rfl) :
  Ai lo 79 [.sl 2 a n c,.fn m l] h=some (v,h) :=
 eD Tryz.func79 hk hn
theorem PN (hk:(Al (Ai h.length 58 [Ay x y] h) λl c=>eB l (AN c) (Cj c))=some (v,h')) (hn:noId v=true:=by rfl) :
  Ai lo 80 [Ay x y] h=some (v,h) :=
 eD Tryz.func80 hk hn
theorem OM (hk:(Al (Ai h.length 82 [AP x y z a n c S f] h) λl o=>eB l (AN o) (Cj o))=some (v,h')) (hn:noId v=true:=by rfl) :
  Ai lo 81 [AP x y z a n c S f] h=some (v,h) :=
 eD Tryz.func81 hk hn
theorem Uz (hk:(Al (Ai h.length 128 [AP z x y a n c S f] h) λl o=>eB l (Al (Ai h.length 58 [Ay x y] o) λl s=>eB l (Al (Ai s.length 100 [Ap a n c] s) λl b=>eI .i64 l λl=>br (decide (x>l)) (Cj b) (AN b)) (AN s)) (AN o))=some (v,h')) (hn:noId v=true:=by rfl) :
  Ai lo 82 [AP z x y a n c S f] h=some (v,h) :=
 eD Tryz.func82 hk hn
theorem NJ (hk:(br (x==AL ((n:Int) - (1:Int))) (Cj h) (AN h))=some (v,h')) (hn:noId v=true:=by rfl) :
  Ai lo 83 [Ap a n c,Iv x] h=some (v,h) :=
 eD Tryz.func83 hk hn
def Cs lo f a n c x y b m p d k u e i s h:=
 LA 84 Tryz.f84 221311 0 111 lo ⟨[(2,.lp 2 0),(4,.bool f),(5,.lp 5 0),(11,.sl 6 a n c),(12,Iv x),(13,Iv y)],[(2,(KJ b m p d k u)),(5,(Cc e i s))],h⟩
theorem OK (hk:(Al (Ai h.length 129 [By d k u] h) λl o=>eA l λl=>eC l λl s=>eS 6 l λl x y=>eN s (Cs h.length false a n c (n:Int) 0 b m p a n c l x y o))=some (v,h')) (hn:noId v=true:=by rfl) :
  Ai lo 84 [Vo b m p a n c,By d k u] h=some (v,h) :=
 eD Tryz.func84 hk hn
theorem Cs.e {lo m k i n:Nat}{f:Bool}{b d A a:Pq}{u p s c:Nq}{y x:Int}{h:Heap} :
  Cs lo f b m u y x d k p A i s a n c h=br (decide (x<y)) (AB x m (eO b λv=>eO (ld h v.1 (v.2+x.toNat) 0 6) λv=>eC v λv l=>eI .i64 v λv=>eC l λl o=>eI .i64 l λl=>eC o λo z=>eI .i64 o λo=>eC z λz w=>eS 2 z λz q g=>eC w λw j=>eT w λw=>eC j λj t=>eBv j λj=>eN t (Al (Ai lo 130 [By a n c,AP v l o z q g w j] h) λt e=>eB t (AB v n (eO a λt=>eO (st lo e t.1 (t.2+v.toNat) 0 (DD v l o z q g w j)) λv=>Cs lo f b m u y (AL (x+1)) d k p A i s a n c v)) (AN e)))) (Al (Ai lo 131 [By a n c,By d k p] h) λv l=>eB v (Cj l) (AN l)) :=
 lE
def Cw lo n m k f a i c x y b j p h:=
 LA 85 Tryz.f85 2213111 0 1111 lo ⟨[(1,(BU n m k)),(2,.bool f),(3,.lp 3 0),(45,.sl 2 a i c),(46,Iv x),(47,Iv y)],[(3,(Co b j p))],h⟩
def BL lo n m k f x a i c y z b j p t w d g u h:=
 Lp (X 85) lo (pf 221123112213111 Tryz.f85) 2 (CE 2 (CE 1 (kS (X 85) lo (pf 1112213111 Tryz.f85) 0 (zaU (X 85) lo (pf 2213111 Tryz.f85) 0 (CE 0 (kS (X 85) lo (pf 1111 Tryz.f85) 0 (MS (X 85) Tryz.f85.results.toList))))))) ⟨[(1,(BU n m k)),(2,.bool f),(3,.lp 3 0),(4,Iv x),(45,.sl 2 a i c),(46,Iv y),(47,Iv z),(58,.sl 6 b j p),(59,Iv t),(60,Iv w)],[(3,(Co d g u))],h⟩
def Cv lo n m k f a i c x y h:=
 LA 85 Tryz.f85 22131111 4 11111 lo ⟨[(1,(BU n m k)),(2,.bool f),(90,.sl 1 a i c),(91,Iv x),(92,Iv y)],[],h⟩
theorem RC (hk:(eO (ld (h ++ [.rows 6 60 false [D1 x y a n c b m p d k u f]]) h.length 0 0 1) λl=>eC l λl o=>eN o (eI .i64 l λl=>Al (Ai h.length 98 (AW l) (h ++ [.rows 6 60 false [D1 x y a n c b m p d k u f]])) λl o=>eB l (eO (ld o h.length 0 1 1) λl=>eC l λl s=>eN s (eI .i64 l λl=>Al (Ai h.length 56 (CC l 0 999) o) λl s=>eB l (eO (ld s h.length 0 2 1) λl=>eC l λl z=>eS 2 l λl w q=>eN z (Al (Ai h.length 46 [Ap l w q] s) λl z=>eB l (eO (ld z h.length 0 3 1) λl=>eC l λl w=>eN w (eS 6 l λl w q=>eO (ld z h.length 0 0 1) λg=>eC g λg i=>eN i (eI .i64 g λg=>Al (Ai h.length 132 [.sl 6 l w q,Iv g] z) λl w=>eB l (eO (ld w h.length 0 4 1) λl=>eC l λl q=>eN q (eS 1 l λl l q=>br ((l:Int)==3) (Al (Ai h.length 47 [.ptr (some (h.length,(0,2)))] w) λl q=>eA l λl=>eC l λl g=>eS 6 l λl i j=>eN g (Al (Ai h.length 48 [By l i j] q) λl q=>eA l λl=>eC l λl g=>eS 2 l λl i j=>eN g (eO (ld q h.length 0 2 1) λg=>eC g λg t=>eN t (eS 2 g λg t e=>Cw h.length h.length 0 0 false g t e (t:Int) 0 l i j q)))) (AN w))) (AN w)))) (AN z))) (AN s))) (AN o)))=some (v,h')) (hn:noId v=true:=by rfl) :
  Ai lo 85 [BV x y a n c b m p d k u f] h=some (v,h) :=
 eD Tryz.func85 hk hn
theorem Cw.e :
  Cw lo n m k f a i c y x b j p h=br (decide (x<y)) (AB x i (eO a λv=>eO (ld h v.1 (v.2+x.toNat) 0 2) λv=>eC v λv l=>eS 6 v λv o s=>eC l λl z=>eS 6 l λl u w=>eN z (Al (Ai lo 133 [.sl 1 (some (h.length,0)) 2 (some 2)] (h ++ [.rows 1 50 false [Cc v o s,Cc l u w]])) λv l=>eS 6 v λv o s=>BL lo n m k f x a i c y x v o s (o:Int) 0 b j p l))) (eO (ld h n m (k+4) 1) λv=>eC v λv l=>eN l (eS 1 v λv l o=>Cv lo n m k f v l o (l:Int) 0 h)) :=
 lE
theorem BL.e {lo n m k j g i:Nat}{f:Bool}{y z t w x:Int}{b d a:Pq}{p u c:Nq}{h:Heap} :
  BL lo n m k f y b j p z t d g u w x a i c h=br (decide (x<w)) (AB x g (eO d λv=>eO (ld h v.1 (v.2+x.toNat) 0 6) λv=>eC v λv l=>eI .i64 v λv=>eC l λv l=>eI .i64 v λv=>eC l λl o=>eI .i64 l λl=>eC o λo s=>eS 2 o λo q e=>eC s λs A=>eT s λs=>eC A λs A=>eBv s λs=>eN A (br ((v==0)&&((l==0)&&true)) (br (y==0) (eO (ld h n m (k+1) 1) λl=>eC l λl s=>eN s (eI .i64 l λl=>br (decide (v>l)) (AN h) (BL lo n m k f y b j p z t d g u w (AL (x+1)) a i c h))) (BL lo n m k f y b j p z t d g u w (AL (x+1)) a i c h)) (Al (Ai lo 45 [Ap o q e,Ap a i c] h) λl o=>eB l (br (y==0) (eO (ld o n m (k+1) 1) λl=>eC l λl s=>eN s (eI .i64 l λl=>br (decide (v>l)) (AN o) (BL lo n m k f y b j p z t d g u w (AL (x+1)) a i c o))) (BL lo n m k f y b j p z t d g u w (AL (x+1)) a i c o)) (AN o))))) (Cw lo n m k f b j p z (AL (t+1)) a i c h) :=
 lE
theorem Cv.e :
  Cv lo n m k f a i c y x h=br (decide (x<y)) (AB x i (eO a λv=>eO (ld h v.1 (v.2+x.toNat) 0 1) λv=>eC v λv l=>eN l (eS 6 v λv l o=>Al (Ai lo 132 [.sl 6 v l o,Iv x] h) λv o=>eB v (eO (ld o n m (k+0) 1) λv=>eC v λv s=>eN s (eI .i64 v λv=>br (x==v) (br (decide ((l:Int)>0)) (AN o) (Cv lo n m k f a i c y (AL (x+1)) o)) (Cv lo n m k f a i c y (AL (x+1)) o))) (AN o)))) (Cj h) :=
 lE
theorem Nu (hk:(br (decide ((n:Int)<=(m:Int))) (Aw a m c none (some (Iv (n:Int))) none λl o s=>Al (Ai h.length 134 [.sl 6 l o s,.sl 6 b n p,.fn 93 []] h) λl o=>eB l (Cj o) (AN o)) (AN h))=some (v,h')) (hn:noId v=true:=by rfl) :
  Ai lo 86 (KJ a m c b n p) h=some (v,h) :=
 eD Tryz.func86 hk hn
theorem EI (hk:(Al (Ai h.length 135 [.sl 5 a n c,.fn m l] h) λo s=>eI .i64 o λo=>br (decide (o>=0)) (Cj s) (AN s))=some (v,h')) (hn:noId v=true:=by rfl) :
  Ai lo 87 [.sl 5 a n c,.fn m l] h=some (v,h) :=
 eD Tryz.func87 hk hn
theorem OH (hk:(Al (Ai h.length 89 [Xy x a n c y z t] h) λl o=>eB l (AN o) (Cj o))=some (v,h')) (hn:noId v=true:=by rfl) :
  Ai lo 88 [Xy x a n c y z t] h=some (v,h) :=
 eD Tryz.func88 hk hn
theorem NB (hk:(Al (Ai h.length 98 (AW y) h) λl o=>eB l (Al (Ai h.length 44 [Ap a n c] o) λl s=>eB l (Al (Ai h.length 58 [Ay z x] s) λl b=>eB l (br ((z==0)&&((x==0)&&true)) (br (t==0) (Cj b) (AN b)) (br (x==y) (Al (Ai h.length 57 (AW t) b) λl u=>eB l (Cj u) (AN u)) (AN b))) (AN b)) (AN s)) (AN o))=some (v,h')) (hn:noId v=true:=by rfl) :
  Ai lo 89 [Xy y a n c z x t] h=some (v,h) :=
 eD Tryz.func89 hk hn
theorem En (hk:(Al (Ai h.length 136 [.sl 9 a n c,.fn m l] h) λo s=>eI .i64 o λo=>br (decide (o>=0)) (Cj s) (AN s))=some (v,h')) (hn:noId v=true:=by rfl) :
  Ai lo 90 [.sl 9 a n c,.fn m l] h=some (v,h) :=
 eD Tryz.func90 hk hn
theorem OG {q:Int} (hk:(Al (Ai h.length 92 [BU m 0 0,Xz x y z t w q a n c S f] h) λl o=>eB l (AN o) (Cj o))=some (v,h')) (hn:noId v=true:=by rfl) :
  Ai lo 91 [Xz x y z t w q a n c S f,BU m 0 0] h=some (v,h) :=
 eD Tryz.func91 hk hn
theorem KW {q:Int} (hk:(Al (Ai h.length 113 (BI x z) h) λl o=>eB l (eO (ld o n m (k+0) 1) λl=>eC l λl s=>eN s (eS 6 l λl s b=>AB x s (eO l λl=>eO (ld o l.1 (l.2+x.toNat) 3 1) λl=>eC l λl s=>eN s (eS 6 l λl l s=>Al (Ai h.length 56 (CC y 0 (AL ((l:Int) - 1))) o) λl s=>eB l (eO (ld s n m (k+0) 1) λl=>eC l λl b=>eN b (eS 6 l λl b u=>AB x b (eO l λl=>eO (ld s l.1 (l.2+x.toNat) 3 1) λl=>eC l λl b=>eN b (eS 6 l λl b u=>AB y b (eO l λl=>eO (ld s l.1 (l.2+y.toNat) 0 6) λl=>eC l λl b=>eI .i64 l λl=>eC b λb u=>eI .i64 b λb=>eC u λu p=>eI .i64 u λu=>eC p λp g=>eS 2 p λp j d=>eC g λg e=>eT g λg=>eC e λe A=>eBv e λe=>eN A (Al (Ai h.length 93 [AP l b u p j d g e,AP t w q a i c S f] s) λl b=>eB l (Cj b) (AN b))))))) (AN s))))) (AN o))=some (v,h')) (hn:noId v=true:=by rfl) :
  Ai lo 92 [BU n m k,Xz x z y t w q a i c S f] h=some (v,h) :=
 eD Tryz.func92 hk hn
theorem PK {q:Int}{s0:ByteArray} (hk:(br (x==t) (br ((y==w)&&((z==q)&&true)) (Al (Ai h.length 137 [.sl 2 a n c,.sl 2 b m p] h) λl o=>eB l (br (S.toList==s0.toList) (br (f==F) (Cj o) (AN o)) (AN o)) (AN o)) (AN h)) (AN h))=some (v,h')) (hn:noId v=true:=by rfl) :
  Ai lo 93 [AP x y z a n c S f,AP t w q b m p s0 F] h=some (v,h) :=
 eD Tryz.func93 hk hn
theorem Nx (hk:(br (x==0) (br ((y==0)&&((z==0)&&true)) (Al (Ai h.length 137 [.sl 2 a n c,.sl 0 none 0 (some 0)] h) λl o=>eB l (br (S.toList==(ByteArray.mk #[]).toList) (br (f==false) (Cj o) (AN o)) (AN o)) (AN o)) (AN h)) (AN h))=some (v,h')) (hn:noId v=true:=by rfl) :
  Ai lo 93 [AP x y z a n c S f,.agg [Iv 0,Iv 0,Iv 0,.sl 0 none 0 (some 0),.str ⟨⟨[]⟩⟩,.bool false]] h=some (v,h) :=
 eD Tryz.func93 hk hn
def Ax lo a n c m l x y z h:=
 LA 94 Tryz.f94 22131 0 11 lo ⟨[(0,.sl 6 a n c),(1,.fn m l),(4,Iv x),(7,Iv y),(8,Iv z)],[],h⟩
theorem DE (hk:(Ax h.length a n c m l 0 (n:Int) 0 h)=some (v,h')) (hn:noId v=true:=by rfl) :
  Ai lo 94 [.sl 6 a n c,.fn m l] h=some (v,h) :=
 eD Tryz.func94 hk hn
theorem Ax.e :
  Ax lo a n c m l z y x h=br (decide (x<y)) (AB x n (eO a λv=>eO (ld h v.1 (v.2+x.toNat) 0 6) λv=>eC v λv o=>eI .i64 v λv=>eC o λo s=>eI .i64 o λo=>eC s λs b=>eI .i64 s λs=>eC b λb u=>eS 2 b λb w p=>eC u λu q=>eT u λu=>eC q λq g=>eBv q λq=>eN g (Al (Ai lo m (CR [AP v o s b w p u q] l) h) λv o=>eB v (some (Iv x,o)) (Ax lo a n c m l z y (AL (x+1)) o)))) (some (Iv (-1),h)) :=
 lE
def AG lo a n c m l x y z h:=
 LA 97 Tryz.f97 22131 0 11 lo ⟨[(0,.sl 5 a n c),(1,.fn m l),(4,Iv x),(7,Iv y),(8,Iv z)],[],h⟩
theorem Ff (hk:(AG h.length a n c m l 0 (n:Int) 0 h)=some (v,h')) (hn:noId v=true:=by rfl) :
  Ai lo 97 [.sl 5 a n c,.fn m l] h=some (v,h) :=
 eD Tryz.func97 hk hn
theorem AG.e :
  AG lo a n c m l z y x h=br (decide (x<y)) (AB x n (eO a λv=>eO (ld h v.1 (v.2+x.toNat) 0 5) λv=>eC v λv o=>eI .i64 v λv=>eC o λo s=>eI .i64 o λo=>eC s λs b=>eI .i64 s λs=>eC b λb u=>eI .i64 b λb=>eC u λu w=>eI .i64 u λu=>eN w (Al (Ai lo m (CR [XA v o s b u] l) h) λv o=>eB v (some (Iv x,o)) (AG lo a n c m l z y (AL (x+1)) o)))) (some (Iv (-1),h)) :=
 lE
theorem Rw (hk:(Al (Ai h.length 56 (CC x 0 2) h) λl c=>eB l (Cj c) (AN c))=some (v,h')) (hn:noId v=true:=by rfl) :
  Ai lo 98 (AW x) h=some (v,h) :=
 eD Tryz.func98 hk hn
def BY lo x a n c y z h:=
 LA 100 Tryz.f100 221311 0 111 lo ⟨[(3,Iv x),(7,.sl 2 a n c),(8,Iv y),(9,Iv z)],[],h⟩
theorem Mp (hk:(BY h.length 0 a n c (n:Int) 0 h)=some (v,h')) (hn:noId v=true:=by rfl) :
  Ai lo 100 [Ap a n c] h=some (v,h) :=
 eD Tryz.func100 hk hn
theorem BY.e :
  BY lo y a n c z x h=br (decide (x<z)) (AB x n (eO a λv=>eO (ld h v.1 (v.2+x.toNat) 0 2) λv=>eC v λv l=>eI .i64 v λv=>eC l λl o=>eI .i64 l λl=>eN o (BY lo (if v>y then v else y) a n c z (AL (x+1)) h))) (some (Iv y,h)) :=
 lE
def BZ lo a n c x y m b k p d i u h:=
 LA 101 Tryz.f101 221311 0 111 lo ⟨[(4,.lp 4 0),(5,.lp 5 0),(11,.sl 2 a n c),(12,Iv x),(13,Iv y)],[(4,[.sl m b k p]),(5,(Co d i u))],h⟩
theorem JD (hk:(Al (Ai lo 72 [Ap a m c] h) λv l=>eA v λv=>eC v λv o=>eS 2 v λv s x=>eN o (BZ lo b n p (n:Int) 0 0 none 0 (some 0) v s x l))=some r) :
  Ai lo 101 [Ap a m c,Ap b n p] h=some r :=
 eK Tryz.func101 hk
theorem BZ.e :
  BZ lo b m p y x k d i u a n c h=br (decide (x<y)) (AB x m (eO b λv=>eO (ld h v.1 (v.2+x.toNat) 0 2) λv=>eC v λv l=>eI .i64 v λv=>eC l λl o=>eI .i64 l λl=>eN o (AB x n (eO a λo=>eO (ld h o.1 (o.2+x.toNat) 0 2) λo=>eC o λo s=>eI .i64 o λo=>eC s λs z=>eI .i64 s λs=>eN z (Al (Ai lo 140 [Ay o s,Ay v l] h) λv l=>eA v λv=>eC v λv o=>eI .i64 v λv=>eC o λo s=>eI .i64 o λo=>eN s (AB x n (eO a λs=>eO (st lo l s.1 (s.2+x.toNat) 0 (BI v o)) λv=>BZ lo b m p y (AL (x+1)) k d i u a n c v))))))) (some ((Ap a n c),h)) :=
 lE
theorem OJ (hk:(Al (Ai lo 72 [Ap a n c] h) λv l=>eA v λv=>eC v λv o=>eS 2 v λv s b=>eN o (AB x s (eO v λo=>eO (ld l o.1 (o.2+x.toNat) 0 2) λo=>eC o λo u=>eI .i64 o λo=>eC u λu w=>eI .i64 u λu=>eN w (Al (Ai lo 140 [Ay o u,Ay y z] l) λl o=>eA l λl=>eC l λl u=>eI .i64 l λl=>eC u λu w=>eI .i64 u λu=>eN w (AB x s (eO v λw=>eO (st lo o w.1 (w.2+x.toNat) 0 (BI l u)) λl=>some ((Ap v s b),l)))))))=some r) :
  Ai lo 102 [Ap a n c,Iv x,Ay y z] h=some r :=
 eK Tryz.func102 hk
theorem PC {e:Pq} (hk:(Al (Ai lo 33 [BU n m k,Iv 3] h) λv l=>eI .i64 v λv=>Al (Ai lo 33 [BU n m k,Iv 20] l) λl o=>eI .i64 l λl=>br (l==0) (Al (Ai lo 33 [BU n m k,Iv 4] o) λx y=>eI .i64 x λx=>Al (Ai lo 33 [BU n m k,Iv 4] y) λy z=>eI .i64 y λy=>Al (Ai lo 141 [BU n m k] z) λz w=>eT z λz=>some ((Bh 1 x 0 y z false),w)) (br (l==1) (Al (Ai lo 33 [BU n m k,Iv 4] o) λx y=>eI .i64 x λx=>Al (Ai lo 33 [BU n m k,Iv 4] y) λy z=>eI .i64 y λy=>Al (Ai lo 141 [BU n m k] z) λz w=>eT z λz=>some ((Bh 1 x 0 y z false),w)) (br (l==2) (Al (Ai lo 33 [BU n m k,Iv 4] o) λx y=>eI .i64 x λx=>Al (Ai lo 33 [BU n m k,Iv 4] y) λy z=>eI .i64 y λy=>Al (Ai lo 141 [BU n m k] z) λz w=>eT z λz=>some ((Bh 1 x 0 y z false),w)) (br (l==3) (Al (Ai lo 33 [BU n m k,Iv 4] o) λx y=>eI .i64 x λx=>Al (Ai lo 33 [BU n m k,Iv 4] y) λy z=>eI .i64 y λy=>some ((Bh 1 x 0 y ⟨⟨[]⟩⟩ true),z)) (br (l==4) (Al (Ai lo 33 [BU n m k,Iv 4] o) λx y=>eI .i64 x λx=>some ((Bh 2 x 0 0 ⟨⟨[]⟩⟩ false),y)) (br (l==5) (Al (Ai lo 33 [BU n m k,Iv 4] o) λx y=>eI .i64 x λx=>some ((Bh 2 x 0 0 ⟨⟨[]⟩⟩ false),y)) (br (l==6) (Al (Ai lo 33 [BU n m k,Iv 4] o) λx y=>eI .i64 x λx=>some ((Bh 2 x 0 0 ⟨⟨[]⟩⟩ false),y)) (br (l==7) (Al (Ai lo 33 [BU n m k,Iv 4] o) λx y=>eI .i64 x λx=>Al (Ai lo 33 [BU n m k,Iv 4] y) λy z=>eI .i64 y λy=>Al (Ai lo 33 [BU n m k,Iv 4] z) λz w=>eI .i64 z λz=>some ((Bh 3 x y z ⟨⟨[]⟩⟩ false),w)) (br (l==8) (Al (Ai lo 33 [BU n m k,Iv 4] o) λx y=>eI .i64 x λx=>Al (Ai lo 33 [BU n m k,Iv 4] y) λy z=>eI .i64 y λy=>Al (Ai lo 33 [BU n m k,Iv 4] z) λz w=>eI .i64 z λz=>some ((Bh 3 x y z ⟨⟨[]⟩⟩ false),w)) (br (l==9) (Al (Ai lo 33 [BU n m k,Iv 4] o) λx y=>eI .i64 x λx=>Al (Ai lo 33 [BU n m k,Iv 4] y) λy z=>eI .i64 y λy=>Al (Ai lo 33 [BU n m k,Iv 4] z) λz w=>eI .i64 z λz=>some ((Bh 3 x y z ⟨⟨[]⟩⟩ false),w)) (br (l==10) (Al (Ai lo 34 [BU n m k,.sl 1 (some (o.length,0)) 2 (some 2)] (o ++ [.rows 1 3 false [AW 4,AW 5]])) λx y=>eI .i64 x λx=>Al (Ai lo 33 [BU n m k,Iv 4] y) λy z=>eI .i64 y λy=>Al (Ai lo 33 [BU n m k,Iv 3] z) λz w=>eI .i64 z λz=>some ((Bh x y z 0 ⟨⟨[]⟩⟩ false),w)) (br (l==11) (Al (Ai lo 34 [BU n m k,.sl 1 (some (o.length,0)) 4 (some 4)] (o ++ [.rows 1 3 false [AW 0,AW 0,AW 1,AW 2]])) λx y=>eI .i64 x λx=>some ((Bh 6 v x 0 ⟨⟨[]⟩⟩ false),y)) (br (l==12) (Al (Ai lo 34 [BU n m k,.sl 1 (some (o.length,0)) 4 (some 4)] (o ++ [.rows 1 3 false [AW 0,AW 0,AW 1,AW 2]])) λx y=>eI .i64 x λx=>some ((Bh 6 v x 0 ⟨⟨[]⟩⟩ false),y)) (br (l==13) (Al (Ai lo 34 [BU n m k,.sl 1 (some (o.length,0)) 4 (some 4)] (o ++ [.rows 1 3 false [AW 0,AW 0,AW 1,AW 2]])) λx y=>eI .i64 x λx=>some ((Bh 6 v x 0 ⟨⟨[]⟩⟩ false),y)) (br (l==14) (Al (Ai lo 34 [BU n m k,.sl 1 (some (o.length,0)) 2 (some 2)] (o ++ [.rows 1 3 false [AW 7,AW 8]])) λx y=>eI .i64 x λx=>Al (Ai lo 33 [BU n m k,Iv 4] y) λy z=>eI .i64 y λy=>some ((Bh x v y 0 ⟨⟨[]⟩⟩ false),z)) (br (l==15) (Al (Ai lo 33 [BU n m k,Iv 3] o) λx y=>eI .i64 x λx=>some ((Bh 9 v x 0 ⟨⟨[]⟩⟩ false),y)) (br (l==16) (Al (Ai lo 33 [BU n m k,Iv 3] o) λx y=>eI .i64 x λx=>some ((Bh 9 v x 0 ⟨⟨[]⟩⟩ false),y)) (br (l==17) (Al (Ai lo 33 [BU n m k,Iv 3] o) λx y=>eI .i64 x λx=>AB x i (eO a λz=>eO (ld y z.1 (z.2+x.toNat) 4 1) λz=>eC z λz w=>eN w (eS 1 z λz w q=>AB v w (eO z λz=>eO (ld y z.1 (z.2+v.toNat) 0 1) λz=>eC z λz w=>eN w (eS 6 z λz z w=>some ((Bh 10 v x (z:Int) ⟨⟨[]⟩⟩ false),y)))))) (br (l==18) (Al (Ai lo 33 [BU n m k,Iv 3] o) λl x=>eI .i64 l λl=>AB l i (eO a λy=>eO (ld x y.1 (y.2+l.toNat) 4 1) λy=>eC y λy z=>eN z (eS 1 y λy z w=>AB v z (eO y λy=>eO (ld x y.1 (y.2+v.toNat) 0 1) λy=>eC y λy z=>eN z (eS 6 y λy y z=>some ((Bh 10 v l (y:Int) ⟨⟨[]⟩⟩ false),x)))))) (Al (Ai lo 34 [BU n m k,.sl 1 (some (o.length,0)) 7 (some 7)] (o ++ [.rows 1 3 false [AW 11,AW 11,AW 11,AW 12,AW 13,AW 0,AW 14]])) λv l=>eI .i64 v λv=>Al (Ai lo 33 [BU n m k,Iv 3] l) λl o=>eI .i64 l λl=>some ((Bh v l 0 0 ⟨⟨[]⟩⟩ false),o)))))))))))))))))))))=some r) :
  Ai lo 103 [BU n m k,At a i c b j p d g u e G s] h=some r :=
 eK Tryz.func103 hk
def CM lo x y n a m c b k p h:=
 LA 104 Tryz.f104 2213111 0 1111 lo ⟨[(2,.lp 2 0),(3,.lp 3 0),(11,Iv x),(12,Iv y)],[(2,[.sl n a m c]),(3,(Co b k p))],h⟩
theorem PO (hk:(Al (Ai lo 63 (AW x) h) λv l=>eB v (Bd (decide ((0:Int)<=0/\(0:Int)<=x/\x<=140737488355328/\x*((48:Nat):Int)<=281474976710656)) (CM lo x 0 0 none 0 (some 0) (some (l.length,0)) 0 (some x.toNat) (l ++ [.rows 2 54 false (List.replicate x.toNat [.sl 0 none 0 (some 0),.sl 0 none 0 (some 0)])]))) (some (.agg [.sl 0 none 0 (some 0)],l)))=some r) :
  Ai lo 104 (AW x) h=some r :=
 eK Tryz.func104 hk
theorem CM.e :
  CM lo x y m b k p a n c h=br (decide (y<x)) (Al (Ai lo 142 [] h) λv l=>eA v λv=>eC v λv o=>eS 6 v λv s z=>eN o (Au 2 (l ++ [.rows 2 54 false [[.sl 6 v s z,.sl 0 none 0 (some 0)]]]) (.sl 2 (some (l.length,0)) 1 (some 1)) λo=>Dd lo 54 2 48 (.sl 2 a n c) o (l ++ [.rows 2 54 false [[.sl 6 v s z,.sl 0 none 0 (some 0)]]]) λv l=>eS 2 v λv o s=>CM lo x (AL (y+1)) m b k p v o s l)) (some ((Ap a n c),h)) :=
 lE
theorem Mj (hk:(Al (Ai lo 143 [BU i j g,Iv 1] h) λv l=>eB v (eO (ld l i j (g+0) 1) λv=>eC v λv c=>eN c (eS 6 v λv c a=>eO (ld l n m (k+0) 1) λa=>eC a λa o=>eN o (eI .i64 a λa=>AB a c (eO v λv=>eO (ld l n m (k+1) 1) λc=>eC c λc o=>eS 2 c λc s b=>eN o (Bd (Gf (ld l i j (g+0) 1) (ld l i j (g+0) 1)) (Bd (Gf (ld l n m (k+0) 1) (ld l n m (k+0) 1)) (Al (Ai lo 72 [Ap c s b] l) λc o=>eA c λc=>eC c λc s=>eS 2 c λc b u=>eN s (Bd (Gf (ld l i j (g+0) 1) (ld o i j (g+0) 1)) (Bd (Gf (ld l n m (k+0) 1) (ld o n m (k+0) 1)) (Al (Ai lo 144 [.ptr (some (v.1,((v.2+a.toNat),0))),AP x 0 0 c b u S f] o) λv c=>eA v λv=>eC v λv a=>eI .i64 v λv=>eC a λa o=>eI .i64 a λa=>eN o (br ((v==0)&&((a==0)&&true)) (AN c) (eO (st lo c n m (k+2) (BI v a)) λc=>eO (st lo c n m (k+4) (AW x)) λc=>Al (Ai lo 145 [BU i j g,Iv y,Iv 1,Iv x,Ay v a] c) λv c=>eU v λv=>eN v (Cj c))))))))))))) (AN l))=some r) :
  Ai lo 105 [BU i j g,BU n m k,Bh z y t x S f] h=some r :=
 eK Tryz.func105 hk
theorem OE (hk:(eO (ld h i j (g+0) 1) λv=>eC v λv l=>eN l (eS 6 v λv l c=>eO (ld h n m (k+0) 1) λc=>eC c λc a=>eN a (eI .i64 c λc=>AB c l (eO v λv=>eO (ld h n m (k+4) 1) λl=>eC l λl a=>eN a (eI .i64 l λl=>Al (Ai lo 146 [.ptr (some (v.1,((v.2+c.toNat),2))),Iv 0,Iv l] h) λl a=>eU l λl=>eC l λl o=>eA l λl=>eC l λl s=>eI .i64 l λl=>eC s λl s=>eI .i64 l λl=>eC s λs b=>eI .i64 s λs=>eC b λb u=>eS 2 b λb b b=>eC u λb u=>eT b λb=>eC u λb u=>eBv b λb=>eN u (eC o λo b=>eB o (eN b (eO (ld a n m (k+2) 2) λo=>eC o λo u=>eI .i64 o λo=>eC u λu w=>eI .i64 u λu=>eN w (Al (Ai lo 17 [Ay l s,Ay o u] a) λo u=>eB o (eO (ld u v.1 (v.2+c.toNat) 2 1) λo=>eC o λo w=>eN w (eS 2 o λo w p=>AB 0 w (eO o λo=>eO (ld u o.1 (o.2+0) 0 1) λo=>eC o λo w=>eN w (eS 6 o λo w p=>eO (ld u n m (k+4) 1) λp=>eC p λp q=>eN q (eI .i64 p λp=>AB p w (eO o λo=>eO (ld u o.1 (o.2+p.toNat) 1 2) λo=>eC o λo w=>eI .i64 o λo=>eC w λw p=>eI .i64 w λw=>eN p (eO (ld u n m (k+2) 2) λp=>eC p λp q=>eI .i64 p λp=>eC q λq d=>eI .i64 q λq=>eN d (Al (Ai lo 17 [Ay o w,Ay p q] u) λo w=>eB o (eO (st lo w n m (k+2) (BI 0 0)) λo=>eO (st lo o n m (k+4) (AW 0)) λo=>some (.bool true,o)) (AN w))))))))) (Al (Ai lo 143 [BU i j g,Iv 1] u) λo u=>eB o (eO (ld u n m (k+1) 1) λo=>eC o λo w=>eS 2 o λo p q=>eN w (eO (ld u n m (k+4) 1) λw=>eC w λw d=>eN d (eI .i64 w λw=>eO (ld u n m (k+2) 2) λd=>eC d λd e=>eI .i64 d λd=>eC e λe A=>eI .i64 e λe=>eN A (Al (Ai lo 102 [Ap o p q,Iv w,Ay d e] u) λo w=>eA o λo=>eC o λo p=>eS 2 o λo q d=>eN p (eO (st lo w n m (k+1) (Co o q d)) λo=>eO (ld o n m (k+4) 1) λw=>eC w λw p=>eN p (eI .i64 w λw=>eO (ld o n m (k+2) 2) λp=>eC p λp q=>eI .i64 p λp=>eC q λq d=>eI .i64 q λq=>eN d (Al (Ai lo 145 [BU i j g,Iv x,Iv 3,Iv w,Ay p q] o) λo w=>eU o λo=>eN o (eO (st lo w n m (k+2) (BI 0 0)) λo=>eO (st lo o n m (k+4) (AW 0)) λo=>some (.bool true,o))))))))) (AN u))))) (eN b (eO (ld a n m (k+2) 2) λo=>eC o λo b=>eI .i64 o λo=>eC b λb u=>eI .i64 b λb=>eN u (Al (Ai lo 17 [Ay l s,Ay o b] a) λl a=>eB l (eO (ld a v.1 (v.2+c.toNat) 2 1) λv=>eC v λv l=>eN l (eS 2 v λv l c=>AB 0 l (eO v λv=>eO (ld a v.1 (v.2+0) 0 1) λv=>eC v λv l=>eN l (eS 6 v λv l c=>eO (ld a n m (k+4) 1) λc=>eC c λc o=>eN o (eI .i64 c λc=>AB c l (eO v λv=>eO (ld a v.1 (v.2+c.toNat) 1 2) λv=>eC v λv l=>eI .i64 v λv=>eC l λl c=>eI .i64 l λl=>eN c (eO (ld a n m (k+2) 2) λc=>eC c λc o=>eI .i64 c λc=>eC o λo s=>eI .i64 o λo=>eN s (Al (Ai lo 17 [Ay v l,Ay c o] a) λv l=>eB v (eO (st lo l n m (k+2) (BI 0 0)) λv=>eO (st lo v n m (k+4) (AW 0)) λv=>some (.bool true,v)) (AN l))))))))) (Al (Ai lo 143 [BU i j g,Iv 1] a) λv l=>eB v (eO (ld l n m (k+1) 1) λv=>eC v λv c=>eS 2 v λv a o=>eN c (eO (ld l n m (k+4) 1) λc=>eC c λc s=>eN s (eI .i64 c λc=>eO (ld l n m (k+2) 2) λs=>eC s λs b=>eI .i64 s λs=>eC b λb u=>eI .i64 b λb=>eN u (Al (Ai lo 102 [Ap v a o,Iv c,Ay s b] l) λv c=>eA v λv=>eC v λv a=>eS 2 v λv o s=>eN a (eO (st lo c n m (k+1) (Co v o s)) λv=>eO (ld v n m (k+4) 1) λc=>eC c λc a=>eN a (eI .i64 c λc=>eO (ld v n m (k+2) 2) λa=>eC a λa o=>eI .i64 a λa=>eC o λo s=>eI .i64 o λo=>eN s (Al (Ai lo 145 [BU i j g,Iv x,Iv 3,Iv c,Ay a o] v) λv c=>eU v λv=>eN v (eO (st lo c n m (k+2) (BI 0 0)) λv=>eO (st lo v n m (k+4) (AW 0)) λv=>some (.bool true,v))))))))) (AN l)))))))))))=some r) :
  Ai lo 106 [BU i j g,BU n m k,Bh y x z t S f] h=some r :=
 eK Tryz.func106 hk
end
noncomputable section

variable {lo i j g n m k:Nat}{t y z x:Int}{S:ByteArray}{f:Bool}{h:Heap}{r:V×Heap}{a:Pq}{c:Nq}{w:Int}{h':Heap}{v:V}{d b:Pq}{p u s:Nq}{l:List V}{G:Nat}{A B a0 a1:Pq}{C c0:Nq}{F:Bool}
theorem Nw (hk:(eO (ld h i j (g+0) 1) λv=>eC v λv l=>eN l (eS 6 v λv l c=>eO (ld h n m (k+0) 1) λc=>eC c λc a=>eN a (eI .i64 c λc=>AB c l (eO v λv=>Al (Ai h.length 146 [.ptr (some (v.1,((v.2+c.toNat),2))),Iv z,Iv x] h) λv l=>eU v λv=>eC v λv c=>eA v λv=>eC v λv a=>eI .i64 v λv=>eC a λv a=>eI .i64 v λv=>eC a λa o=>eI .i64 a λa=>eC o λo s=>eS 2 o λo b u=>eC s λs w=>eT s λs=>eC w λs w=>eBv s λs=>eN w (eC c λc s=>eB c (eN s (Al (Ai lo 143 [BU i j g,Iv 1] l) λc w=>eB c (eO (ld w n m ((k+1)+0) 1) λc=>eC c λc p=>eN p (eS 2 c λc p q=>AB x p (eO c λc=>eO (ld w c.1 (c.2+x.toNat) 0 2) λc=>eC c λc p=>eI .i64 c λc=>eC p λp q=>eI .i64 p λp=>eN q (Al (Ai lo 17 [Ay v a,Ay c p] w) λc p=>eB c (AN p) (eO (ld p n m (k+1) 1) λc=>eC c λc q=>eS 2 c λc d e=>eN q (Al (Ai lo 101 [Ap c d e,Ap o b u] p) λc o=>eA c λc=>eC c λc b=>eS 2 c λc u p=>eN b (Al (Ai lo 102 [Ap c u p,Iv x,Ay v a] o) λc o=>eA c λc=>eC c λc b=>eS 2 c λc u p=>eN b (eO (st lo o n m (k+1) (Co c u p)) λc=>Al (Ai lo 145 [BU i j g,Iv y,Iv 2,Iv x,Ay v a] c) λv c=>eU v λv=>eN v (Cj c))))))))) (AN w))) (eN s (AN l)))))))=some r) :
  Ai lo 107 [BU i j g,BU n m k,Bh t y z x S f] h=some r :=
 eK Tryz.func107 hk
def Cr lo n m k a i c x y z t w q S f h:=
 LA 108 Tryz.f108 22131111 0 11111 lo ⟨[(0,(BU n m k)),(5,.lp 5 0),(39,.sl 2 a i c),(40,Iv x),(41,Iv y)],[(5,(Tk z t w q S f))],h⟩
theorem OF (hk:(eO (ld h n m (k+0) 1) λv=>eC v λv l=>eN l (eS 6 v λv l c=>eO (ld h i j (g+0) 1) λc=>eC c λc a=>eN a (eI .i64 c λc=>AB c l (eO v λv=>Al (Ai h.length 47 [.ptr (some (v.1,((v.2+c.toNat),2)))] h) λv l=>eA v λv=>eC v λv c=>eS 6 v λv a o=>eN c (Al (Ai l.length 48 [By v a o] l) λv l=>eA v λv=>eC v λv c=>eS 2 v λv a o=>eN c (Al (Ai lo 143 [BU n m k,Iv 4] l) λl c=>eB l (eO (ld c i j (g+1) 1) λl=>eC l λl s=>eS 2 l λl b u=>eN s (Al (Ai lo 45 [Ap l b u,Ap v a o] c) λl s=>eB l (eO (st lo s i j (g+1) (Co v a o)) λl=>Cr lo n m k v a o (a:Int) 0 x y z t S f l) (AN s))) (AN c)))))))=some r) :
  Ai lo 108 [BU n m k,BU i j g,Bh x y z t S f] h=some r :=
 eK Tryz.func108 hk
theorem Cr.e {q:Int} :
  Cr lo n m k a i c y x t z w q S f h=br (decide (x<y)) (AB x i (eO a λv=>eO (ld h v.1 (v.2+x.toNat) 0 2) λv=>eC v λv l=>eI .i64 v λv=>eC l λl o=>eI .i64 l λl=>eN o (Al (Ai lo 145 [BU n m k,Iv z,Iv 2,Iv x,Ay v l] h) λv l=>eU v λv=>eN v (Cr lo n m k a i c y (AL (x+1)) t z w q S f l)))) (Cj h) :=
 lE
theorem I9 (hk:(Al (Ai lo 147 [BU n m (k+2),Iv x] h) λv l=>eB v (Al (Ai lo 148 [BU n m k] l) λv c=>eU v λv=>eN v (Cj c)) (AN l))=some r) :
  Ai lo 109 [BU n m k,Iv x] h=some r :=
 eK Tryz.func109 hk
theorem NE (hk:(eO (ld h n m (k+5) 1) λv=>eC v λv l=>eN l (eB v (AN h) (Al (Ai lo 149 [BU n m (k+2),Iv x] h) λv l=>eB v (eO (st lo l n m (k+5) [.bool true]) λv=>Al (Ai lo 148 [BU n m k] v) λv c=>eU v λv=>eN v (Cj c)) (AN l))))=some r) :
  Ai lo 110 [BU n m k,Iv x] h=some r :=
 eK Tryz.func110 hk
theorem Ja (hk:(eO (ld h n m (k+0) 1) λv=>eC v λv l=>eN l (eS 2 v λv v l=>br (decide ((v:Int)>=4)) (AN h) (eO (ld h n m (k+0) 1) λv=>eC v λv l=>eN l (eS 2 v λv l c=>Al (Ai h.length 47 [BU n m k] h) λa o=>eA a λa=>eC a λa s=>eS 6 a λa b x=>eN s (Al (Ai o.length 129 [By a b x] o) λa o=>eA a λa=>eC a λa s=>eS 6 a λa b x=>eN s (Au 2 (o ++ [.rows 2 54 false [[.sl 6 a b x,.sl 0 none 0 (some 0)]]]) (.sl 2 (some (o.length,0)) 1 (some 1)) λs=>Dd lo 54 2 48 (.sl 2 v l c) s (o ++ [.rows 2 54 false [[.sl 6 a b x,.sl 0 none 0 (some 0)]]]) λv l=>eS 2 v λv c a=>Al (Ai lo 150 (Co v c a) l) λv l=>eS 2 v λv c a=>eO (st lo l n m (k+0) (Co v c a)) λv=>some (.bool true,v)))))))=some r) :
  Ai lo 111 [BU n m k] h=some r :=
 eK Tryz.func111 hk
theorem NC (hk:(Al (Ai lo 98 (AW x) h) λv l=>eB v (eO (ld l n m (k+4) 1) λv=>eC v λv c=>eN c (eS 1 v λv c a=>AB x c (eO v λv=>eO (ld l v.1 (v.2+x.toNat) 0 1) λv=>eC v λv c=>eN c (eS 6 v λv c a=>eO (ld l n m ((k+2)+0) 1) λo=>eC o λo s=>eN s (eS 2 o λo s b=>AB 0 s (eO o λo=>eO (ld l o.1 (o.2+0) 0 1) λo=>eC o λo s=>eS 6 o λo b y=>eN s (Al (Ai lo 94 [.sl 6 v c a,.fn 130 [.tup [By o b y]]] l) λv c=>eI .i64 v λv=>br (decide (v<0)) (AN c) (eO (ld c n m (k+4) 1) λa=>eC a λa o=>eN o (eS 1 a λa o s=>AB x o (eO a λa=>eO (ld c a.1 (a.2+x.toNat) 0 1) λa=>eC a λa o=>eN o (eS 6 a λa o s=>AB v o (eO a λa=>eO (ld c a.1 (a.2+v.toNat) 0 6) λv=>eC v λv a=>eI .i64 v λv=>eC a λa o=>eI .i64 a λa=>eC o λo s=>eI .i64 o λo=>eC s λs b=>eS 2 s λs y z=>eC b λb u=>eT b λb=>eC u λu w=>eBv u λu=>eN w (Al (Ai lo 47 [BU n m (k+2)] c) λc w=>eA c λc=>eC c λc p=>eS 6 c λc q g=>eN p (Al (Ai lo 48 [By c q g] w) λc w=>eA c λc=>eC c λc p=>eS 2 c λc q g=>eN p (Al (Ai lo 45 [Ap s y z,Ap c q g] w) λc w=>eB c (Al (Ai lo 151 [BU n m (k+2),AP v a o s y z b u] w) λv c=>eB v (eO (ld c n m (k+1) 1) λv=>eC v λv o=>eN o (eI .i64 v λv=>eO (st lo c n m (k+1) (AW (if a>v then a else v))) λv=>Al (Ai lo 148 [BU n m k] v) λv a=>eU v λv=>eN v (Cj a))) (AN c)) (AN w)))))))))))))))) (AN l))=some r) :
  Ai lo 112 [BU n m k,Iv x] h=some r :=
 eK Tryz.func112 hk
theorem Uy (hk:(Al (Ai h.length 98 (AW x) h) λl c=>eB l (Al (Ai h.length 98 (AW y) c) λl n=>eB l (br (x==y) (AN n) (Cj n)) (AN n)) (AN c))=some (v,h')) (hn:noId v=true:=by rfl) :
  Ai lo 113 (BI x y) h=some (v,h) :=
 eD Tryz.func113 hk hn
theorem Fp (hk:(Aw a (EP h a n c) c (some (Iv x)) (some (Iv y)) (some (Iv (n:Int))) λv v v=>br (x==y) (some (.sl 9 a n c,h)) (Aw a n c none (some (Iv x)) none λv l o=>Aw a n c (some (Iv y)) none none λs b z=>Au 9 h (.sl 9 s b z) λs=>Dd lo 91 9 96 (.sl 9 v l o) s h λv l=>eS 9 v λv o s=>Aw v (EP l v o s) s (some (Iv (o:Int))) (some (Iv (n:Int))) none λb z u=>Y7 lo 9 9 true [Iv 0,Iv 0,Iv 0,Iv 0,Iv 0,Iv 0,.sl 0 none 0 (some 0),.str ⟨⟨[]⟩⟩,.bool false] l b z λl=>some (.sl 9 v o s,l)))=some r) :
  Ai lo 114 [.sl 9 a n c,Iv x,Iv y] h=some r :=
 eK Tryz.func114 hk
theorem ND (hk:(Al (Ai lo 98 (AW x) h) λv l=>eB v (eO (ld l n m (k+0) 1) λv=>eC v λv o=>eN o (eI .i64 v λv=>br (x==v) (AN l) (Al (Ai lo 82 [AP t z y a i c S f] l) λv o=>eB v (br (y==x) (eO (ld o n m (k+4) 1) λv=>eC v λv s=>eN s (eS 1 v λv s b=>AB x s (eO v λv=>eO (ld o v.1 (v.2+x.toNat) 0 1) λv=>eC v λv s=>eN s (eS 6 v λv s b=>br (w==(s:Int)) (br (decide ((s:Int)>=60)) (AN o) (Al (Ai lo 152 [.sl 6 v s b,Ay z y] o) λu p=>eB u (AN p) (eO (ld p n m (k+4) 1) λu=>eC u λu q=>eN q (eS 1 u λu q g=>Al (Ai lo 73 [AP t z y a i c S f] p) λg j=>eA g λg=>eC g λg d=>eI .i64 g λg=>eC d λd e=>eI .i64 d λd=>eC e λe A=>eI .i64 e λe=>eC A λA B=>eS 2 A λA C D=>eC B λB E=>eT B λB=>eC E λE G=>eBv E λE=>eN G (Bd (Gf (ld p n m (k+4) 1) (ld j n m (k+4) 1)) (Bd (Gf (ld j n m (k+4) 1) (ld (j ++ [.rows 6 49 false [DD g d e A C D B E]]) n m (k+4) 1)) (Au 6 (j ++ [.rows 6 49 false [DD g d e A C D B E]]) (.sl 6 (some (j.length,0)) 1 (some 1)) λp=>Dd lo 49 6 72 (.sl 6 v s b) p (j ++ [.rows 6 49 false [DD g d e A C D B E]]) λv s=>eS 6 v λv b p=>Bd (Gf (ld (j ++ [.rows 6 49 false [DD g d e A C D B E]]) n m (k+4) 1) (ld s n m (k+4) 1)) (Al (Ai lo 153 (Cc v b p) s) λv b=>eS 6 v λv p g=>Bd (Gf (ld s n m (k+4) 1) (ld b n m (k+4) 1)) (AB x q (eO u λs=>eO (st lo b s.1 (s.2+x.toNat) 0 (Cc v p g)) λv=>some (.bool true,v))))))))))) (AN o))))) (AN o)) (AN o)))) (AN l))=some r) :
  Ai lo 115 [BU n m k,Iv x,Iv w,AP t z y a i c S f] h=some r :=
 eK Tryz.func115 hk
def BS lo a n c x y m b k p d i u h:=
 LA 116 Tryz.f116 221311 0 111 lo ⟨[(2,.lp 2 0),(3,.lp 3 0),(12,.sl 2 a n c),(13,Iv x),(14,Iv y)],[(2,[.sl m b k p]),(3,(Co d i u))],h⟩
theorem LE (hk:(Bd (decide ((0:Int)<=0/\(0:Int)<=(n:Int)/\(n:Int)<=140737488355328/\(n:Int)*((48:Nat):Int)<=281474976710656)) (BS lo a n c (n:Int) 0 0 none 0 (some 0) (some (h.length,0)) 0 (some n) (h ++ [.rows 2 54 false (List.replicate n [.sl 0 none 0 (some 0),.sl 0 none 0 (some 0)])])))=some r) :
  Ai lo 116 [Ap a n c] h=some r :=
 eK Tryz.func116 hk
theorem BS.e :
  BS lo a n p y x k d i u b m c h=br (decide (x<y)) (AB x n (eO a λv=>eO (ld h v.1 (v.2+x.toNat) 0 2) λv=>eC v λv l=>eS 6 v λv o s=>eC l λl z=>eS 6 l λl w q=>eN z (Al (Ai lo 129 [By v o s] h) λv o=>eA v λv=>eC v λv s=>eS 6 v λv z g=>eN s (Al (Ai lo 117 (Cc l w q) o) λl o=>eS 6 l λl s w=>Au 2 (o ++ [.rows 2 54 false [KJ v z g l s w]]) (.sl 2 (some (o.length,0)) 1 (some 1)) λq=>Dd lo 54 2 48 (.sl 2 b m c) q (o ++ [.rows 2 54 false [KJ v z g l s w]]) λv l=>eS 2 v λv o s=>BS lo a n p y (AL (x+1)) k d i u v o s l)))) (some ((Ap b m c),h)) :=
 lE
def Bf lo a n c b m p x y h:=
 LA 117 Tryz.f117 221311 0 111 lo ⟨[(3,.sl 6 a n c),(9,.sl 6 b m p),(10,Iv x),(11,Iv y)],[],h⟩
theorem I7 (hk:(Bd (decide ((0:Int)<=0/\(0:Int)<=(n:Int)/\(n:Int)<=140737488355328/\(n:Int)*((72:Nat):Int)<=281474976710656)) (Bf lo (some (h.length,0)) 0 (some n) a n c (n:Int) 0 (h ++ [.rows 6 49 false (List.replicate n [Iv 0,Iv 0,Iv 0,.sl 0 none 0 (some 0),.str ⟨⟨[]⟩⟩,.bool false])])))=some r) :
  Ai lo 117 (Cc a n c) h=some r :=
 eK Tryz.func117 hk
theorem Bf.e :
  Bf lo a n c b m p y x h=br (decide (x<y)) (AB x m (eO b λv=>eO (ld h v.1 (v.2+x.toNat) 0 6) λv=>eC v λv l=>eI .i64 v λv=>eC l λl o=>eI .i64 l λl=>eC o λo s=>eI .i64 o λo=>eC s λs z=>eS 2 s λs u w=>eC z λz q=>eT z λz=>eC q λq g=>eBv q λq=>eN g (Al (Ai lo 73 [AP v l o s u w z q] h) λv l=>eA v λv=>eC v λv o=>eI .i64 v λv=>eC o λo s=>eI .i64 o λo=>eC s λs z=>eI .i64 s λs=>eC z λz u=>eS 2 z λz w q=>eC u λu g=>eT u λu=>eC g λg i=>eBv g λg=>eN i (Au 6 (l ++ [.rows 6 49 false [DD v o s z w q u g]]) (.sl 6 (some (l.length,0)) 1 (some 1)) λi=>Dd lo 49 6 72 (.sl 6 a n c) i (l ++ [.rows 6 49 false [DD v o s z w q u g]]) λv l=>eS 6 v λv o s=>Bf lo v o s b m p y (AL (x+1)) l)))) (some (.sl 6 a n c,h)) :=
 lE
theorem GP (hk:(Aw a n c none (some (Iv (n:Int))) (some (Iv (n:Int))) λv l o=>some (.sl 2 v l o,h))=some r) :
  Ai lo 118 (Co a n c) h=some r :=
 eK Tryz.func118 hk
theorem D9 (hk:(br (a.isNone) (some (.sl 0 none 0 (some 0),h)) (Au 2 (h ++ [.rows 2 30 false []]) (.sl 2 a n c) λv=>Dd lo 30 2 16 (.sl 2 (some (h.length,0)) 0 (some 0)) v (h ++ [.rows 2 30 false []]) λv l=>eS 2 v λv o s=>some (.sl 2 v o s,l)))=some r) :
  Ai lo 119 (Co a n c) h=some r :=
 eK Tryz.func119 hk
def C1 lo f x a n c b m p h:=
 LA 120 Tryz.f120 221311 0 111 lo ⟨[(2,.lp 2 0),(3,.lp 3 0),(4,.bool f),(5,Iv x)],[(2,(Cc a n c)),(3,(Cc b m p))],h⟩
theorem Rt (hk:(br ((n:Int)==(m:Int)) (C1 h.length false 0 a n c b m p h) (AN h))=some (v,h')) (hn:noId v=true:=by rfl) :
  Ai lo 120 [By a n c,By b m p] h=some (v,h) :=
 eD Tryz.func120 hk hn
theorem C1.e {lo n m:Nat}{f:Bool}{x:Int}{a b:Pq}{c p:Nq}{h:Heap} :
  C1 lo f x a n c b m p h=br (decide (x<(n:Int))) (AB x n (eO a λv=>eO (ld h v.1 (v.2+x.toNat) 0 6) λv=>eC v λv l=>eI .i64 v λv=>eC l λl o=>eI .i64 l λl=>eC o λo s=>eI .i64 o λo=>eC s λs y=>eS 2 s λs z u=>eC y λy w=>eT y λy=>eC w λw q=>eBv w λw=>eN q (AB x m (eO b λq=>eO (ld h q.1 (q.2+x.toNat) 0 6) λq=>eC q λq g=>eI .i64 q λq=>eC g λg i=>eI .i64 g λg=>eC i λi j=>eI .i64 i λi=>eC j λj k=>eS 2 j λj t d=>eC k λk e=>eT k λk=>eC e λe A=>eBv e λe=>eN A (Al (Ai lo 40 [AP v l o s z u y w,AP q g i j t d k e] h) λv l=>eB v (C1 lo f (AL (x+1)) a n c b m p l) (AN l)))))) (Cj h) :=
 lE
theorem Un (hk:(Al (Ai h.length 154 (AW y) h) λv l=>eA v λv=>eC v λv c=>eS 2 v λv n a=>eN c (some (.agg [Iv x,Iv 0,.sl 2 v n a,.sl 0 none 0 (some 0),.sl 1 (some (l.length,0)) 3 (some 3),.bool false],(l ++ [.rows 1 50 false [[.sl 0 none 0 (some 0)],[.sl 0 none 0 (some 0)],[.sl 0 none 0 (some 0)]]]))))=some r) :
  Ai lo 121 (BI x y) h=some r :=
 eK Tryz.func121 hk
theorem Si (hk:(some ((Ap (some (h.length,0)) 4 (some 4)),(h ++ [.rows 2 30 false [BI 0 0,BI 0 0,BI 0 0,BI 0 0]])))=some r) :
  Ai lo 122 [] h=some r :=
 eK Tryz.func122 hk
theorem Px {e:Pq} (hk:(Al (Ai lo 41 (CC x 0 (AL ((n:Int) - 1))) h) λv l=>eB v (br (y==1) (Al (Ai lo 155 [At b m c a n p d k u e i s,Bh y x z t S f] l) λv o=>eU v λv=>eC v λv w=>eA v λv=>eC v λv q=>eS 6 v λv g j=>eC q λq A=>eS 5 q λq B C=>eC A λA D=>eS 9 A λA E G=>eC D λD H=>eS 5 D λD J K=>eN H (eC w λw H=>eB w (eN H (some (.tup [At v g j q B C A E G D J K,.bool true],o))) (eN H (some (.tup [At v g j q B C A E G D J K,.bool false],o))))) (br (y==2) (Al (Ai lo 156 [At b m c a n p d k u e i s,Bh y x z t S f] l) λv o=>eU v λv=>eC v λv w=>eA v λv=>eC v λv q=>eS 6 v λv g j=>eC q λq A=>eS 5 q λq B C=>eC A λA D=>eS 9 A λA E G=>eC D λD H=>eS 5 D λD J K=>eN H (eC w λw H=>eB w (eN H (some (.tup [At v g j q B C A E G D J K,.bool true],o))) (eN H (some (.tup [At v g j q B C A E G D J K,.bool false],o))))) (br (y==3) (Al (Ai lo 157 [At b m c a n p d k u e i s,Bh y x z t S f] l) λv o=>eU v λv=>eC v λv w=>eA v λv=>eC v λv q=>eS 6 v λv g j=>eC q λq A=>eS 5 q λq B C=>eC A λA D=>eS 9 A λA E G=>eC D λD H=>eS 5 D λD J K=>eN H (eC w λw H=>eB w (eN H (some (.tup [At v g j q B C A E G D J K,.bool true],o))) (eN H (some (.tup [At v g j q B C A E G D J K,.bool false],o))))) (br (y==4) (Al (Ai lo 158 [At b m c a n p d k u e i s,Bh y x z t S f] l) λv o=>eU v λv=>eC v λv w=>eA v λv=>eC v λv q=>eS 6 v λv g j=>eC q λq A=>eS 5 q λq B C=>eC A λA D=>eS 9 A λA E G=>eC D λD H=>eS 5 D λD J K=>eN H (eC w λw H=>eB w (eN H (some (.tup [At v g j q B C A E G D J K,.bool true],o))) (eN H (some (.tup [At v g j q B C A E G D J K,.bool false],o))))) (AB x n (eO a λv=>eO (ld l v.1 (v.2+x.toNat) 2 1) λv=>eC v λv o=>eN o (eI .i64 v λv=>br (decide (v>0)) (some (.tup [At b m c a n p d k u e i s,.bool false],l)) (Al (Ai lo 41 (CC z 0 2) l) λv o=>eB v (AB x n (eO a λv=>eO (st lo o v.1 (v.2+x.toNat) 0 (AW z)) λv=>some (.tup [At b m c a n p d k u e i s,.bool true],v))) (some (.tup [At b m c a n p d k u e i s,.bool false],o)))))))))) (some (.tup [At b m c a n p d k u e i s,.bool false],l)))=some r) :
  Ai lo 123 [At b m c a n p d k u e i s,Bh y x z t S f] h=some r :=
 eK Tryz.func123 hk
theorem Rl {e:Pq} (hk:(Al (Ai lo 41 (CC x 0 2) h) λv l=>eB v (AB x n (eO a λv=>eO (ld l v.1 (v.2+x.toNat) 0 6) λv=>eC v λv o=>eI .i64 v λv=>eC o λo w=>eI .i64 o λo=>eC w λw q=>eS 2 w λw g j=>eC q λq A=>eS 6 q λq B C=>eC A λA D=>eS 1 A λA E G=>eC D λD H=>eBv D λD=>eN H (br (z==6) (Al (Ai lo 159 [Ap w g j,Iv y] l) λH J=>eB H (Al (Ai lo 160 [Ap w g j,Iv y] J) λH K=>eA H λH=>eC H λH L=>eS 2 H λH M N=>eN L (Al (Ai lo 161 [BV v o H M N q B C A E G D] K) λH K=>eA H λH=>eC H λH L=>eI .i64 H λH=>eC L λL M=>eI .i64 L λL=>eC M λM N=>eS 2 M λM O P=>eC N λN Q=>eS 6 N λN U W=>eC Q λQ Y=>eS 1 Q λQ Z v0=>eC Y λY v1=>eBv Y λY=>eN v1 (AB x n (eO a λv1=>eO (st lo K v1.1 (v1.2+x.toNat) 0 (D1 H L M O P N U W Q Z v0 Y)) λH=>some (.tup [At a n c b m p d k u e i s,.bool true],H))))) (AB x n (eO a λH=>eO (st lo J H.1 (H.2+x.toNat) 0 (D1 v o w g j q B C A E G D)) λH=>some (.tup [At a n c b m p d k u e i s,.bool false],H)))) (br (z==7) (Al (Ai lo 162 [BV v o w g j q B C A E G D,Iv y] l) λH J=>eB H (Al (Ai lo 163 [Ap w g j,Iv y] J) λH K=>eA H λH=>eC H λH L=>eS 2 H λH M N=>eN L (Al (Ai lo 161 [BV v o H M N q B C A E G true] K) λH K=>eA H λH=>eC H λH L=>eI .i64 H λH=>eC L λL M=>eI .i64 L λL=>eC M λM N=>eS 2 M λM O P=>eC N λN Q=>eS 6 N λN U W=>eC Q λQ Y=>eS 1 Q λQ Z v0=>eC Y λY v1=>eBv Y λY=>eN v1 (AB x n (eO a λv1=>eO (st lo K v1.1 (v1.2+x.toNat) 0 (D1 H L M O P N U W Q Z v0 Y)) λH=>some (.tup [At a n c b m p d k u e i s,.bool true],H))))) (AB x n (eO a λH=>eO (st lo J H.1 (H.2+x.toNat) 0 (D1 v o w g j q B C A E G D)) λH=>some (.tup [At a n c b m p d k u e i s,.bool false],H)))) (br (z==8) (br (decide ((g:Int)<4)) (Al (Ai lo 164 [Ap w g j] l) λH J=>eA H λH=>eC H λH K=>eS 2 H λH L M=>eN K (AB x n (eO a λK=>eO (st lo J K.1 (K.2+x.toNat) 0 (D1 v o H L M q B C A E G D)) λH=>some (.tup [At a n c b m p d k u e i s,.bool true],H)))) (AB x n (eO a λH=>eO (st lo l H.1 (H.2+x.toNat) 0 (D1 v o w g j q B C A E G D)) λH=>some (.tup [At a n c b m p d k u e i s,.bool false],H)))) (Al (Ai lo 41 (CC y 0 2) l) λH J=>eB H (Al (Ai lo 165 [BV v o w g j q B C A E G D,Iv y] J) λH K=>eB H (Al (Ai lo 166 [BV v o w g j q B C A E G D,Iv y] K) λH L=>eA H λH=>eC H λH M=>eI .i64 H λH=>eC M λM N=>eI .i64 M λM=>eC N λN O=>eS 2 N λN P Q=>eC O λO U=>eS 6 O λO W Y=>eC U λU Z=>eS 1 U λU v0 v1=>eC Z λZ v2=>eBv Z λZ=>eN v2 (AB x n (eO a λv2=>eO (st lo L v2.1 (v2.2+x.toNat) 0 (D1 H M N P Q O W Y U v0 v1 Z)) λH=>some (.tup [At a n c b m p d k u e i s,.bool true],H)))) (AB x n (eO a λH=>eO (st lo K H.1 (H.2+x.toNat) 0 (D1 v o w g j q B C A E G D)) λH=>some (.tup [At a n c b m p d k u e i s,.bool false],H)))) (AB x n (eO a λH=>eO (st lo J H.1 (H.2+x.toNat) 0 (D1 v o w g j q B C A E G D)) λv=>some (.tup [At a n c b m p d k u e i s,.bool false],v))))))))) (some (.tup [At a n c b m p d k u e i s,.bool false],l)))=some r) :
  Ai lo 124 [At a n c b m p d k u e i s,Bh z x y t S f] h=some r :=
 eK Tryz.func124 hk
theorem Uk {e:Pq} (hk:(br (z==10) (Al (Ai lo 41 (CC x 0 2) h) λv l=>eB v (Al (Ai lo 41 (CC t 0 2) l) λv o=>eB v (br (x==t) (some (.tup [At a n c b k p d m s e i u,.bool false],o)) (br (decide ((m:Int)>=12)) (some (.tup [At a n c b k p d m s e i u,.bool false],o)) (AB x n (eO a λv=>eO (ld o v.1 (v.2+x.toNat) 3 1) λv=>eC v λv w=>eN w (eS 6 v λv v w=>Al (Ai lo 41 (CC y 0 (AL ((v:Int) - 1))) o) λv w=>eB v (AB x n (eO a λv=>eO (ld w v.1 (v.2+x.toNat) 3 1) λv=>eC v λv q=>eN q (eS 6 v λv q g=>AB y q (eO v λv=>eO (ld w v.1 (v.2+y.toNat) 0 6) λv=>eC v λv q=>eI .i64 v λv=>eC q λq g=>eI .i64 q λq=>eC g λg j=>eI .i64 g λg=>eC j λj A=>eS 2 j λj B C=>eC A λA D=>eT A λA=>eC D λD E=>eBv D λD=>eN E (Al (Ai lo 167 [AP v q g j B C A D] w) λv q=>eA v λv=>eC v λv g=>eI .i64 v λv=>eC g λg j=>eI .i64 g λg=>eC j λj A=>eI .i64 j λj=>eC A λA B=>eS 2 A λA C D=>eC B λB E=>eT B λB=>eC E λE G=>eBv E λE=>eN G (Au 9 (q ++ [.rows 9 91 false [Pl x t y v g j A C D B E]]) (.sl 9 (some (q.length,0)) 1 (some 1)) λG=>Dd lo 91 9 96 (.sl 9 d m s) G (q ++ [.rows 9 91 false [Pl x t y v g j A C D B E]]) λv q=>eS 9 v λv g j=>some (.tup [At a n c b k p v g j e i u,.bool true],q))))))) (some (.tup [At a n c b k p d m s e i u,.bool false],w))))))) (some (.tup [At a n c b k p d m s e i u,.bool false],o))) (some (.tup [At a n c b k p d m s e i u,.bool false],l))) (Al (Ai lo 41 (CC x 0 (AL ((m:Int) - 1))) h) λv l=>eB v (AB x m (eO d λv=>eO (ld l v.1 (v.2+x.toNat) 0 9) λv=>eC v λv o=>eI .i64 v λv=>eC o λo w=>eI .i64 o λo=>eC w λw q=>eI .i64 w λw=>eC q λq g=>eI .i64 q λq=>eC g λg j=>eI .i64 g λg=>eC j λj A=>eI .i64 j λj=>eC A λA B=>eS 2 A λA C D=>eC B λB E=>eT B λB=>eC E λE G=>eBv E λE=>eN G (br (z==13) (br (z==12) (some (.tup [At a n c b k p d m s e i u,.bool true],l)) (AB o n (eO a λG=>eO (ld l G.1 (G.2+o.toNat) 0 6) λG=>eC G λG H=>eI .i64 G λG=>eC H λH J=>eI .i64 H λH=>eC J λJ K=>eS 2 J λJ L M=>eC K λK N=>eS 6 K λK O P=>eC N λN Q=>eS 1 N λN U W=>eC Q λQ Y=>eBv Q λQ=>eN Y (Al (Ai lo 168 [BV G H J L M K O P N U W Q,Iv v,Iv w,AP q g j A C D B E] l) λG H=>eU G λG=>eC G λG J=>eA G λG=>eC G λG K=>eI .i64 G λG=>eC K λK L=>eI .i64 K λK=>eC L λL M=>eS 2 L λL N O=>eC M λM P=>eS 6 M λM Q U=>eC P λP W=>eS 1 P λP Y Z=>eC W λW v0=>eBv W λW=>eN v0 (eC J λJ v0=>eB J (eN v0 (AB o n (eO a λJ=>eO (st lo H J.1 (J.2+o.toNat) 0 (D1 G K L N O M Q U P Y Z W)) λG=>some (.tup [At a n c b k p d m s e i u,.bool true],G)))) (eN v0 (some (.tup [At a n c b k p d m s e i u,.bool true],H)))))))) (Aw d m s none (some (Iv x)) none λG H J=>Au 9 (l ++ [.rows 9 91 false []]) (.sl 9 G H J) λG=>Dd lo 91 9 96 (.sl 9 (some (l.length,0)) 0 (some 0)) G (l ++ [.rows 9 91 false []]) λG H=>eS 9 G λG J K=>Aw d m s (some (Iv (AL (x+1)))) none none λL M N=>Au 9 H (.sl 9 L M N) λL=>Dd lo 91 9 96 (.sl 9 G J K) L H λG H=>eS 9 G λG J K=>br (z==12) (some (.tup [At a n c b k p G J K e i u,.bool true],H)) (AB o n (eO a λL=>eO (ld H L.1 (L.2+o.toNat) 0 6) λL=>eC L λL M=>eI .i64 L λL=>eC M λM N=>eI .i64 M λM=>eC N λN O=>eS 2 N λN P Q=>eC O λO U=>eS 6 O λO W Y=>eC U λU Z=>eS 1 U λU v0 v1=>eC Z λZ v2=>eBv Z λZ=>eN v2 (Al (Ai lo 168 [BV L M N P Q O W Y U v0 v1 Z,Iv v,Iv w,AP q g j A C D B E] H) λv w=>eU v λv=>eC v λv q=>eA v λv=>eC v λv g=>eI .i64 v λv=>eC g λg j=>eI .i64 g λg=>eC j λj A=>eS 2 j λj B C=>eC A λA D=>eS 6 A λA E H=>eC D λD L=>eS 1 D λD M N=>eC L λL O=>eBv L λL=>eN O (eC q λq O=>eB q (eN O (AB o n (eO a λq=>eO (st lo w q.1 (q.2+o.toNat) 0 (D1 v g j B C A E H D M N L)) λv=>some (.tup [At a n c b k p G J K e i u,.bool true],v)))) (eN O (some (.tup [At a n c b k p G J K e i u,.bool true],w))))))))))) (some (.tup [At a n c b k p d m s e i u,.bool false],l))))=some r) :
  Ai lo 125 [At a n c b k p d m s e i u,Bh z x t y S f] h=some r :=
 eK Tryz.func125 hk
theorem PP (hk:(br (x==x) (AN h) (Cj h))=some (v,h')) (hn:noId v=true:=by rfl) :
  Ai lo 126 (AW x) h=some (v,h) :=
 eD Tryz.func126 hk hn
def AJ lo a n c m l x y z h:=
 LA 127 Tryz.f127 22131 0 11 lo ⟨[(0,.sl 2 a n c),(1,.fn m l),(4,Iv x),(7,Iv y),(8,Iv z)],[],h⟩
theorem FE (hk:(AJ h.length a n c m l 0 (n:Int) 0 h)=some (v,h')) (hn:noId v=true:=by rfl) :
  Ai lo 127 [.sl 2 a n c,.fn m l] h=some (v,h) :=
 eD Tryz.func127 hk hn
theorem AJ.e :
  AJ lo a n c m l z y x h=br (decide (x<y)) (AB x n (eO a λv=>eO (ld h v.1 (v.2+x.toNat) 0 2) λv=>eC v λv o=>eI .i64 v λv=>eC o λo s=>eI .i64 o λo=>eN s (Al (Ai lo m (CR [Ay v o] l) h) λv o=>eB v (some (Iv x,o)) (AJ lo a n c m l z y (AL (x+1)) o)))) (some (Iv (-1),h)) :=
 lE
theorem Mk (hk:(Al (Ai h.length 57 (AW x) h) λl o=>eB l (Al (Ai h.length 169 [.str S] o) λl s=>eB l (br (!f) (br (!f) (br (!f) (br (!f) (Al (Ai h.length 44 [Ap a n c] s) λl b=>eB l (Cj b) (AN b)) none) none) none) (br (!f) (br (!f) (br (!f) (Al (Ai h.length 44 [Ap a n c] s) λl b=>eB l (Cj b) (AN b)) none) none) (br (!f) (br (!f) (Al (Ai h.length 44 [Ap a n c] s) λl b=>eB l (Cj b) (AN b)) none) (br (S.toList==(ByteArray.mk #[]).toList) (br (!f) (Al (Ai h.length 44 [Ap a n c] s) λl b=>eB l (Cj b) (AN b)) (Al (Ai h.length 44 [Ap a n c] s) λl b=>eB l (Cj b) (AN b))) (br (!f) (Al (Ai h.length 44 [Ap a n c] s) λl b=>eB l (Cj b) (AN b)) (AN s)))))) (AN s)) (AN o))=some (v,h')) (hn:noId v=true:=by rfl) :
  Ai lo 128 [AP x y z a n c S f] h=some (v,h) :=
 eD Tryz.func128 hk hn
theorem Lz (hk:(Al (Ai lo 117 (Cc a n c) h) λv l=>eS 6 v λv o s=>some ((By v o s),l))=some r) :
  Ai lo 129 [By a n c] h=some r :=
 eK Tryz.func129 hk
theorem Mm (hk:(AB x n (eO a λl=>eO (ld h l.1 (l.2+x.toNat) 1 2) λl=>eC l λl o=>eI .i64 l λl=>eC o λo s=>eI .i64 o λo=>eN s (Al (Ai h.length 17 [Ay l o,Ay y z] h) λl o=>eB l (Cj o) (AN o))))=some (v,h')) (hn:noId v=true:=by rfl) :
  Ai lo 130 [By a n c,AP x y z b m p S f] h=some (v,h) :=
 eD Tryz.func130 hk hn
theorem NA (hk:(Al (Ai h.length 134 [.sl 6 a n c,.sl 6 b m p,.fn 93 []] h) λl o=>eB l (Cj o) (AN o))=some (v,h')) (hn:noId v=true:=by rfl) :
  Ai lo 131 [By a n c,By b m p] h=some (v,h) :=
 eD Tryz.func131 hk hn
def DY lo a n c x f b m p y z h:=
 LA 132 Tryz.f132 22131 0 11 lo ⟨[(0,.sl 6 a n c),(1,Iv x),(4,.bool f),(7,.sl 6 b m p),(8,Iv y),(9,Iv z)],[],h⟩
theorem Uw (hk:(DY h.length a n c x false a n c (n:Int) 0 h)=some (v,h')) (hn:noId v=true:=by rfl) :
  Ai lo 132 [.sl 6 a n c,Iv x] h=some (v,h) :=
 eD Tryz.func132 hk hn
theorem DY.e :
  DY lo a n c y f b m p z x h=br (decide (x<z)) (AB x m (eO b λv=>eO (ld h v.1 (v.2+x.toNat) 0 6) λv=>eC v λv l=>eI .i64 v λv=>eC l λl o=>eI .i64 l λl=>eC o λo s=>eI .i64 o λo=>eC s λs u=>eS 2 s λs w q=>eC u λu g=>eT u λu=>eC g λg i=>eBv g λg=>eN i (Al (Ai lo 82 [AP v l o s w q u g] h) λv s=>eB v (br (o==y) (Aw a n c none (some (Iv x)) none λv u w=>Al (Ai lo 152 [.sl 6 v u w,Ay l o] s) λv l=>eB v (AN l) (DY lo a n c y f b m p z (AL (x+1)) l)) (AN s)) (AN s)))) (br (decide ((n:Int)<=60)) (Cj h) (AN h)) :=
 lE
def AT lo a n c x b m p y z h:=
 LA 133 Tryz.f133 221311 0 111 lo ⟨[(0,.sl 1 a n c),(3,Iv x),(9,.sl 1 b m p),(10,Iv y),(11,Iv z)],[],h⟩
def AS lo a n c b m p x y h:=
 LA 133 Tryz.f133 22131111 2 11111 lo ⟨[(6,.sl 6 a n c),(25,.sl 1 b m p),(26,Iv x),(27,Iv y)],[],h⟩
theorem Gr (hk:(AT lo a n c 0 a n c (n:Int) 0 h)=some r) :
  Ai lo 133 [.sl 1 a n c] h=some r :=
 eK Tryz.func133 hk
theorem AT.e :
  AT lo a n c y b m p z x h=br (decide (x<z)) (AB x m (eO b λv=>eO (ld h v.1 (v.2+x.toNat) 0 1) λv=>eC v λv l=>eN l (eS 6 v λv v l=>br (decide (AL (y+(v:Int))<0)) none (AT lo a n c (AL (y+(v:Int))) b m p z (AL (x+1)) h)))) (Al (Ai lo 170 [.sl 0 none 0 (some 0),Iv y] h) λv l=>eS 6 v λv o s=>AS lo v o s a n c (n:Int) 0 l) :=
 lE
theorem AS.e :
  AS lo a n c b m p y x h=br (decide (x<y)) (AB x m (eO b λv=>eO (ld h v.1 (v.2+x.toNat) 0 1) λv=>eC v λv l=>eN l (eS 6 v λv l o=>Au 6 h (.sl 6 v l o) λv=>Dd lo 49 6 72 (.sl 6 a n c) v h λv l=>eS 6 v λv o s=>AS lo v o s b m p y (AL (x+1)) l))) (some (.sl 6 a n c,h)) :=
 lE
def Aq lo a n c m l f b k p x y h:=
 LA 134 Tryz.f134 221311 0 111 lo ⟨[(1,.sl 6 a n c),(2,.fn m l),(6,.bool f),(15,.sl 6 b k p),(16,Iv x),(17,Iv y)],[],h⟩
theorem DB (hk:(br ((n:Int)==(m:Int)) (Aq h.length b m p k l false a n c (n:Int) 0 h) (AN h))=some (v,h')) (hn:noId v=true:=by rfl) :
  Ai lo 134 [.sl 6 a n c,.sl 6 b m p,.fn k l] h=some (v,h) :=
 eD Tryz.func134 hk hn
theorem Aq.e {lo n m k:Nat}{a b:Pq}{c p:Nq}{l:List V}{f:Bool}{y x:Int}{h:Heap} :
  Aq lo a n c m l f b k p y x h=br (decide (x<y)) (AB x k (eO b λv=>eO (ld h v.1 (v.2+x.toNat) 0 6) λv=>eC v λv o=>eI .i64 v λv=>eC o λo s=>eI .i64 o λo=>eC s λs z=>eI .i64 s λs=>eC z λz u=>eS 2 z λz w q=>eC u λu g=>eT u λu=>eC g λg i=>eBv g λg=>eN i (AB x n (eO a λi=>eO (ld h i.1 (i.2+x.toNat) 0 6) λi=>eC i λi j=>eI .i64 i λi=>eC j λj t=>eI .i64 j λj=>eC t λt d=>eI .i64 t λt=>eC d λd e=>eS 2 d λd A B=>eC e λe C=>eT e λe=>eC C λC D=>eBv C λC=>eN D (Al (Ai lo m (CR [AP v o s z w q u g,AP i j t d A B e C] l) h) λv o=>eB v (Aq lo a n c m l f b k p y (AL (x+1)) o) (AN o)))))) (Cj h) :=
 lE
def AE lo a n c m l x y z h:=
 LA 135 Tryz.f135 22131 0 11 lo ⟨[(0,.sl 5 a n c),(1,.fn m l),(4,Iv x),(7,Iv y),(8,Iv z)],[],h⟩
theorem Fd (hk:(AE h.length a n c m l 0 (n:Int) 0 h)=some (v,h')) (hn:noId v=true:=by rfl) :
  Ai lo 135 [.sl 5 a n c,.fn m l] h=some (v,h) :=
 eD Tryz.func135 hk hn
theorem AE.e :
  AE lo a n c m l z y x h=br (decide (x<y)) (AB x n (eO a λv=>eO (ld h v.1 (v.2+x.toNat) 0 5) λv=>eC v λv o=>eI .i64 v λv=>eC o λo s=>eS 2 o λo b u=>eC s λs w=>eI .i64 s λs=>eC w λw p=>eI .i64 w λw=>eC p λp q=>eI .i64 p λp=>eN q (Al (Ai lo m (CR [Xy v o b u s w p] l) h) λv o=>eB v (some (Iv x,o)) (AE lo a n c m l z y (AL (x+1)) o)))) (some (Iv (-1),h)) :=
 lE
def AA lo a n c m l x y z h:=
 LA 136 Tryz.f136 22131 0 11 lo ⟨[(0,.sl 9 a n c),(1,.fn m l),(4,Iv x),(7,Iv y),(8,Iv z)],[],h⟩
theorem ES (hk:(AA h.length a n c m l 0 (n:Int) 0 h)=some (v,h')) (hn:noId v=true:=by rfl) :
  Ai lo 136 [.sl 9 a n c,.fn m l] h=some (v,h) :=
 eD Tryz.func136 hk hn
theorem AA.e :
  AA lo a n c m l z y x h=br (decide (x<y)) (AB x n (eO a λv=>eO (ld h v.1 (v.2+x.toNat) 0 9) λv=>eC v λv o=>eI .i64 v λv=>eC o λo s=>eI .i64 o λo=>eC s λs b=>eI .i64 s λs=>eC b λb u=>eI .i64 b λb=>eC u λu w=>eI .i64 u λu=>eC w λw p=>eI .i64 w λw=>eC p λp q=>eS 2 p λp g i=>eC q λq j=>eT q λq=>eC j λj k=>eBv j λj=>eN k (Al (Ai lo m (CR [Xz v o s b u w p g i q j] l) h) λv o=>eB v (some (Iv x,o)) (AA lo a n c m l z y (AL (x+1)) o)))) (some (Iv (-1),h)) :=
 lE
def AV lo a n c b m p f x y h:=
 LA 137 Tryz.f137 221311 0 111 lo ⟨[(0,.sl 2 a n c),(1,.sl 2 b m p),(4,.bool f),(12,Iv x),(13,Iv y)],[],h⟩
theorem GN (hk:(br ((n:Int)==(m:Int)) (AV h.length a n c b m p false (n:Int) 0 h) (AN h))=some (v,h')) (hn:noId v=true:=by rfl) :
  Ai lo 137 [.sl 2 a n c,.sl 2 b m p] h=some (v,h) :=
 eD Tryz.func137 hk hn
theorem AV.e :
  AV lo a n c b m p f y x h=br (decide (x<y)) (AB x n (eO a λv=>eO (ld h v.1 (v.2+x.toNat) 0 2) λv=>eC v λv l=>eI .i64 v λv=>eC l λl o=>eI .i64 l λl=>eN o (AB x m (eO b λo=>eO (ld h o.1 (o.2+x.toNat) 0 2) λo=>eC o λo s=>eI .i64 o λo=>eC s λs z=>eI .i64 s λs=>eN z (br ((v==o)&&((l==s)&&true)) (AV lo a n c b m p f y (AL (x+1)) h) (AN h)))))) (Cj h) :=
 lE
def A8 lo a n c m b k p f x y h:=
 LA 137 Tryz.f137 221311 0 111 lo ⟨[(0,.sl 2 a n c),(1,.sl m b k p),(4,.bool f),(12,Iv x),(13,Iv y)],[],h⟩
theorem FY (hk:(br ((n:Int)==((0:Nat):Int)) (A8 h.length a n c 0 none 0 (some 0) false (n:Int) 0 h) (AN h))=some (v,h')) (hn:noId v=true:=by rfl) :
  Ai lo 137 [.sl 2 a n c,.sl 0 none 0 (some 0)] h=some (v,h) :=
 eD Tryz.func137 hk hn
theorem A8.e :
  A8 lo a n c m b k p f y x h=br (decide (x<y)) (AB x n (eO a λv=>eO (ld h v.1 (v.2+x.toNat) 0 2) λv=>eC v λv l=>eI .i64 v λv=>eC l λl o=>eI .i64 l λl=>eN o (AB x k (eO b λo=>Bd ((m.beq (2:Nat))&&true) (eO (ld h o.1 (o.2+x.toNat) 0 2) λo=>eC o λo s=>eI .i64 o λo=>eC s λs z=>eI .i64 s λs=>eN z (br ((v==o)&&((l==s)&&true)) (A8 lo a n c m b k p f y (AL (x+1)) h) (AN h))))))) (Cj h) :=
 lE
def HQ lo x a n c b m p d k u e i s j A g C G B H D J a0 P c0 n0 a1 n1 c1 n2 a2 n3 c2 n4 a3 n5 c3 n6 a4 n7 c4 a5 n8 c5 h:=
 LA 138 Tryz.f138 221311 0 111 lo ⟨[(1,.lp 1 0),(2,.lp 2 0),(3,.lp 3 0),(4,Iv x)],[(1,(Dg a n c b m p d k u e i s)),(2,[.sl j A g C,.sl G B H D,.sl J a0 P c0,.sl n0 a1 n1 c1]),(3,[.sl n2 a2 n3 c2,.sl n4 a3 n5 c3,.sl n6 a4 n7 c4,.sl 5 a5 n8 c5])],h⟩
def FP lo x a n c b m p d k u e i s j A g C G B H D J a0 P c0 n0 a1 n1 c1 n2 a2 n3 c2 n4 a3 n5 c3 n6 a4 n7 c4 a5 n8 c5 h:=
 LA 138 Tryz.f138 2213111 2 1111 lo ⟨[(1,.lp 1 0),(2,.lp 2 0),(3,.lp 3 0),(5,Iv x)],[(1,(Dg a n c b m p d k u e i s)),(2,[.sl j A g C,.sl G B H D,.sl J a0 P c0,.sl n0 a1 n1 c1]),(3,[.sl n2 a2 n3 c2,.sl n4 a3 n5 c3,.sl n6 a4 n7 c4,.sl 5 a5 n8 c5])],h⟩
def FO lo x a n c b m p d k u e i s j A g C G B H D J a0 P c0 n0 a1 n1 c1 n2 a2 n3 c2 n4 a3 n5 c3 n6 a4 n7 c4 a5 n8 c5 h:=
 LA 138 Tryz.f138 22131111 4 11111 lo ⟨[(1,.lp 1 0),(2,.lp 2 0),(3,.lp 3 0),(7,Iv x)],[(1,(Dg a n c b m p d k u e i s)),(2,[.sl j A g C,.sl G B H D,.sl J a0 P c0,.sl n0 a1 n1 c1]),(3,[.sl n2 a2 n3 c2,.sl n4 a3 n5 c3,.sl n6 a4 n7 c4,.sl 5 a5 n8 c5])],h⟩
theorem HQ.e {lo n m k i j g G H J P n0 n1 n2 n3 n4 n5 n6 n7 n8:Nat}{x:Int}{a b d A B a0 a1 a2 a3 a4 a5 a6:Pq}{c p u s C D c0 c1 c2 c3 c4 c5:Nq}{h:Heap} :
  HQ lo x a n c b m p d k u A i s j B g C G a0 H D J a1 P c0 n0 a2 n1 c1 n2 a3 n3 c2 n4 a4 n5 c3 n6 a5 n7 c4 a6 n8 c5 h=br (decide (x<(n:Int))) (AB x n (eO a λv=>eO (ld h v.1 (v.2+x.toNat) 0 6) λv=>eC v λv l=>eI .i64 v λv=>eC l λl o=>eI .i64 l λl=>eC o λo y=>eS 2 o λo z w=>eC y λy q=>eS 6 y λy t e=>eC q λq f=>eS 1 q λq E K=>eC f λf L=>eBv f λf=>eN L (Al (Ai lo 171 [BV v l o z w y t e q E K f] h) λv l=>eA v λv=>eC v λv o=>eI .i64 v λv=>eC o λo y=>eI .i64 o λo=>eC y λy z=>eS 2 y λy w q=>eC z λz t=>eS 6 z λz e f=>eC t λt E=>eS 1 t λt K L=>eC E λE M=>eBv E λE=>eN M (Au 6 (l ++ [.rows 6 60 false [D1 v o y w q z e f t K L E]]) (.sl 6 (some (l.length,0)) 1 (some 1)) λM=>Dd lo 60 6 96 (.sl n2 a3 n3 c2) M (l ++ [.rows 6 60 false [D1 v o y w q z e f t K L E]]) λv l=>eS 6 v λv o y=>HQ lo (AL (x+1)) a n c b m p d k u A i s j B g C G a0 H D J a1 P c0 n0 a2 n1 c1 6 v o y n4 a4 n5 c3 n6 a5 n7 c4 a6 n8 c5 l)))) (FP lo 0 a n c b m p d k u A i s j B g C G a0 H D J a1 P c0 n0 a2 n1 c1 n2 a3 n3 c2 n4 a4 n5 c3 n6 a5 n7 c4 a6 n8 c5 h) :=
 lE
theorem FP.e {lo m n k i j g G H J P n0 n1 n2 n3 n4 n5 n6 n7 n8:Nat}{x:Int}{b a d A B a0 a1 a2 a3 a4 a5 a6:Pq}{c p u s C D c0 c1 c2 c3 c4 c5:Nq}{h:Heap} :
  FP lo x b m c a n p d k u A i s j B g C G a0 H D J a1 P c0 n0 a2 n1 c1 n2 a3 n3 c2 n4 a4 n5 c3 n6 a5 n7 c4 a6 n8 c5 h=br (decide (x<(n:Int))) (AB x n (eO a λv=>eO (ld h v.1 (v.2+x.toNat) 0 5) λv=>eC v λv l=>eI .i64 v λv=>eC l λl o=>eS 2 l λl y z=>eC o λo w=>eI .i64 o λo=>eC w λw q=>eI .i64 w λw=>eC q λq t=>eI .i64 q λq=>eN t (Au 2 (h ++ [.rows 2 30 false []]) (.sl 2 l y z) λl=>Dd lo 30 2 16 (.sl 2 (some (h.length,0)) 0 (some 0)) l (h ++ [.rows 2 30 false []]) λl y=>eS 2 l λl z t=>Au 5 (y ++ [.rows 5 72 false [Pk v l z t o w q]]) (.sl 5 (some (y.length,0)) 1 (some 1)) λe=>Dd lo 72 5 56 (.sl n4 a4 n5 c3) e (y ++ [.rows 5 72 false [Pk v l z t o w q]]) λv l=>eS 5 v λv o y=>FP lo (AL (x+1)) b m c a n p d k u A i s j B g C G a0 H D J a1 P c0 n0 a2 n1 c1 n2 a3 n3 c2 5 v o y n6 a5 n7 c4 a6 n8 c5 l))) (FO lo 0 b m c a n p d k u A i s j B g C G a0 H D J a1 P c0 n0 a2 n1 c1 n2 a3 n3 c2 n4 a4 n5 c3 n6 a5 n7 c4 a6 n8 c5 h) :=
 lE
theorem FO.e {lo J P n n0 n1 n2 n3 n4 n5 n6 n7 n8 m k i j g G H:Nat}{x:Int}{a0 a1 a a2 a3 a4 a5 a6 b d A B:Pq}{C D c0 c1 c2 c3 c4 c5 c p u s:Nq}{h:Heap} :
  FO lo x a0 J C a1 P D a n c0 a2 n0 c1 n1 a3 n2 c2 n3 a4 n4 c3 n5 a5 n6 c4 n7 a6 n8 c5 m b k c i d j p g A G u B H s h=br (decide (x<(n:Int))) (AB x n (eO a λv=>eO (ld h v.1 (v.2+x.toNat) 0 9) λv=>eC v λv l=>eI .i64 v λv=>eC l λl o=>eI .i64 l λl=>eC o λo y=>eI .i64 o λo=>eC y λy z=>eI .i64 y λy=>eC z λz w=>eI .i64 z λz=>eC w λw q=>eI .i64 w λw=>eC q λq t=>eS 2 q λq e f=>eC t λt E=>eT t λt=>eC E λE K=>eBv E λE=>eN K (Al (Ai lo 167 [AP y z w q e f t E] h) λy z=>eA y λy=>eC y λy w=>eI .i64 y λy=>eC w λw q=>eI .i64 w λw=>eC q λq t=>eI .i64 q λq=>eC t λt e=>eS 2 t λt f E=>eC e λe K=>eT e λe=>eC K λK L=>eBv K λK=>eN L (Au 9 (z ++ [.rows 9 91 false [Pl v l o y w q t f E e K]]) (.sl 9 (some (z.length,0)) 1 (some 1)) λL=>Dd lo 91 9 96 (.sl g A G u) L (z ++ [.rows 9 91 false [Pl v l o y w q t f E e K]]) λv l=>eS 9 v λv o y=>FO lo (AL (x+1)) a0 J C a1 P D a n c0 a2 n0 c1 n1 a3 n2 c2 n3 a4 n4 c3 n5 a5 n6 c4 n7 a6 n8 c5 m b k c i d j p 9 v o y B H s l)))) (some (.agg [.sl m b k c,.sl i d j p,.sl g A G u,.sl 5 B H s],h)) :=
 lE
theorem Su (hk:(Al (Ai h.length 17 [Ay x y,Ay z t] h) λl c=>eB l (some ((Ay z t),c)) (some ((Ay x y),c)))=some (v,h')) (hn:noId v=true:=by rfl) :
  Ai lo 140 [Ay x y,Ay z t] h=some (v,h) :=
 eD Tryz.func140 hk hn
theorem Rp (hk:(Al (Ai lo 172 [BU n m k,.sl 1 (some (h.length,0)) 8 (some 8)] (h ++ [.rows 1 9 false [[.str ⟨⟨[]⟩⟩],[.str ⟨⟨[97]⟩⟩],[.str ⟨⟨[98]⟩⟩],[.str ⟨⟨[120,35,49]⟩⟩],[.str ⟨⟨[61]⟩⟩],[.str ⟨⟨[45]⟩⟩],[.str ⟨⟨[108,111,110,103,116,101,120,116]⟩⟩],[.str ⟨⟨[122,122]⟩⟩]]])) λv l=>eT v λv=>some (.str v,l))=some r) :
  Ai lo 141 [BU n m k] h=some r :=
 eK Tryz.func141 hk
theorem PL (hk:(some ((By (some (h.length,0)) 4 (some 4)),(h ++ [.rows 6 49 false [[Iv 0,Iv 0,Iv 0,.sl 0 none 0 (some 0),.str ⟨⟨[]⟩⟩,.bool false],[Iv 0,Iv 0,Iv 0,.sl 0 none 0 (some 0),.str ⟨⟨[]⟩⟩,.bool false],[Iv 0,Iv 0,Iv 0,.sl 0 none 0 (some 0),.str ⟨⟨[]⟩⟩,.bool false],[Iv 0,Iv 0,Iv 0,.sl 0 none 0 (some 0),.str ⟨⟨[]⟩⟩,.bool false]]])))=some r) :
  Ai lo 142 [] h=some r :=
 eK Tryz.func142 hk
theorem Nv (hk:(eO (ld h n m (k+3) 1) λl=>eC l λl c=>eN c (eS 5 l λl l c=>br (decide (AL ((l:Int)+x)<=80)) (Cj h) (AN h)))=some (v,h')) (hn:noId v=true:=by rfl) :
  Ai lo 143 [BU n m k,Iv x] h=some (v,h) :=
 eD Tryz.func143 hk hn
theorem Mo (hk:(Al (Ai lo 128 [AP x y z a i c S f] h) λv l=>eB v (Al (Ai l.length 47 [BU n m (k+2)] l) λv o=>eA v λv=>eC v λv s=>eS 6 v λv b u=>eN s (Al (Ai o.length 48 [By v b u] o) λv o=>eA v λv=>eC v λv s=>eS 2 v λv b u=>eN s (Al (Ai lo 45 [Ap a i c,Ap v b u] o) λv o=>eB v (Al (Ai lo 173 [BU n m (k+2),Iv 0] o) λv s=>eB v (some ((Ay 0 0),s)) (eO (ld s n m (k+3) 1) λv=>eC v λv b=>eN b (eS 6 v λv v b=>br (decide ((v:Int)>=36)) (some ((Ay 0 0),s)) (eO (ld s n m (k+1) 1) λv=>eC v λv b=>eN b (eI .i64 v λv=>Al (Ai s.length 100 [Ap a i c] s) λs b=>eI .i64 s λs=>br (decide (AL ((if s>v then s else v)+(1:Int))>999)) (some ((Ay 0 0),b)) (eO (ld b n m (k+0) 1) λu=>eC u λu w=>eN w (eI .i64 u λu=>eO (st lo b n m (k+1) (AW (AL ((if s>v then s else v)+1)))) λb=>Al (Ai lo 151 [BU n m (k+2),AP x (AL ((if s>v then s else v)+1)) u a i c S f] b) λb w=>eB b (Al (Ai lo 148 [BU n m k] w) λb p=>eU b λb=>eN b (some ((Ay (AL ((if s>v then s else v)+1)) u),p))) (Al (Ai lo 148 [BU n m k] w) λb w=>eU b λb=>eN b (some ((Ay (AL ((if s>v then s else v)+1)) u),w)))))))))) (some ((Ay 0 0),o))))) (some ((Ay 0 0),l)))=some r) :
  Ai lo 144 [BU n m k,AP x y z a i c S f] h=some r :=
 eK Tryz.func144 hk
theorem I8 (hk:(eO (ld h n m (k+3) 1) λv=>eC v λv l=>eN l (eS 5 v λv l c=>Au 5 (h ++ [.rows 5 32 false [Pm x y z t w]]) (.sl 5 (some (h.length,0)) 1 (some 1)) λa=>Dd lo 32 5 40 (.sl 5 v l c) a (h ++ [.rows 5 32 false [Pm x y z t w]]) λv l=>eS 5 v λv c a=>eO (st lo l n m (k+3) [.sl 5 v c a]) λv=>some (.tup [],v)))=some r) :
  Ai lo 145 [BU n m k,Iv x,Iv y,Iv z,Ay t w] h=some r :=
 eK Tryz.func145 hk
theorem FZ (hk:(eO (ld h n m (k+0) 1) λv=>eC v λv l=>eN l (eS 2 v λv v l=>Al (Ai lo 56 (CC y 0 (AL ((v:Int) - 1))) h) λv l=>eB v (Al (Ai lo 57 (AW x) l) λv c=>eB v (br (y==0) (eO (ld c n m (k+0) 1) λv=>eC v λv a=>eN a (eS 2 v λv v a=>eO (ld c n m (k+0) 1) λa=>eC a λa o=>eN o (eS 2 a λa o s=>AB (if AL ((v:Int) - (1:Int))<1 then AL ((v:Int) - (1:Int)) else (1:Int)) o (eO a λa=>eO (ld c a.1 (a.2+((if AL ((v:Int) - (1:Int))<1 then AL ((v:Int) - (1:Int)) else (1:Int)).toNat)) 0 1) λv=>eC v λv a=>eN a (eS 6 v λv a o=>AB x a (eO v λv=>eO (ld c v.1 (v.2+x.toNat) 0 6) λv=>eC v λv a=>eI .i64 v λv=>eC a λa o=>eI .i64 a λa=>eC o λo s=>eI .i64 o λo=>eC s λs b=>eS 2 s λs z u=>eC b λb w=>eT b λb=>eC w λw p=>eBv w λw=>eN p (Al (Ai lo 73 [AP v a o s z u b w] c) λv a=>eA v λv=>eC v λv o=>eI .i64 v λv=>eC o λo s=>eI .i64 o λo=>eC s λs b=>eI .i64 s λs=>eC b λb z=>eS 2 b λb u w=>eC z λz p=>eT z λz=>eC p λp q=>eBv p λp=>eN q (some (.tup [AP v o s b u w z p,.bool true],a))))))))) (eO (ld c n m (k+0) 1) λv=>eC v λv a=>eN a (eS 2 v λv a o=>AB y a (eO v λv=>eO (ld c v.1 (v.2+y.toNat) 0 1) λv=>eC v λv a=>eN a (eS 6 v λv a o=>AB x a (eO v λv=>eO (ld c v.1 (v.2+x.toNat) 0 6) λv=>eC v λv a=>eI .i64 v λv=>eC a λa o=>eI .i64 a λa=>eC o λo s=>eI .i64 o λo=>eC s λs b=>eS 2 s λs z u=>eC b λb w=>eT b λb=>eC w λw p=>eBv w λw=>eN p (Al (Ai lo 73 [AP v a o s z u b w] c) λv a=>eA v λv=>eC v λv o=>eI .i64 v λv=>eC o λo s=>eI .i64 o λo=>eC s λs b=>eI .i64 s λs=>eC b λb z=>eS 2 b λb u w=>eC z λz p=>eT z λz=>eC p λp q=>eBv p λp=>eN q (some (.tup [AP v o s b u w z p,.bool true],a))))))))) (some (.tup [.agg [Iv 0,Iv 0,Iv 0,.sl 0 none 0 (some 0),.str ⟨⟨[]⟩⟩,.bool false],.bool false],c))) (some (.tup [.agg [Iv 0,Iv 0,Iv 0,.sl 0 none 0 (some 0),.str ⟨⟨[]⟩⟩,.bool false],.bool false],l))))=some r) :
  Ai lo 146 [BU n m k,Iv y,Iv x] h=some r :=
 eK Tryz.func146 hk
theorem NI (hk:(eO (ld h n m (k+0) 1) λv=>eC v λv l=>eN l (eS 2 v λv v l=>Al (Ai lo 56 (CC x 0 (AL ((v:Int) - 2))) h) λv l=>eB v (eO (ld l n m (k+0) 1) λv=>eC v λv c=>eN c (eS 2 v λv c a=>AB x c (eO v λv=>eO (ld l v.1 (v.2+x.toNat) 1 1) λv=>eC v λv c=>eN c (eS 6 v λv v c=>br ((v:Int)==0) (AN l) (Al (Ai lo 173 [BU n m k,Iv (AL (x+1))] l) λv c=>eB v (AN c) (eO (ld c n m (k+0) 1) λv=>eC v λv a=>eN a (eS 2 v λv a o=>AB x a (eO v λv=>eO (ld c v.1 (v.2+x.toNat) 1 1) λv=>eC v λv a=>eN a (eS 6 v λv a o=>AB 0 a (eO v λv=>eO (ld c v.1 (v.2+0) 0 6) λv=>eC v λv a=>eI .i64 v λv=>eC a λa o=>eI .i64 a λa=>eC o λo s=>eI .i64 o λo=>eC s λs b=>eS 2 s λs y z=>eC b λb u=>eT b λb=>eC u λu w=>eBv u λu=>eN w (eO (ld c n m (k+0) 1) λw=>eC w λw p=>eN p (eS 2 w λw p q=>eO (ld c n m (k+0) 1) λq=>eC q λq g=>eN g (eS 2 q λq g i=>Bd (Gf (ld c n m (k+0) 1) (ld c n m (k+0) 1)) (AB x g (eO q λq=>eO (ld c q.1 (q.2+x.toNat) 1 1) λq=>eC q λq g=>eN g (eS 6 q λq g i=>Bd (Gf (ld c n m (k+0) 1) (ld c n m (k+0) 1)) (Al (Ai lo 174 [.sl 6 q g i,Iv 0,Iv 1] c) λq g=>eS 6 q λq i j=>Bd (Gf (ld c n m (k+0) 1) (ld g n m (k+0) 1)) (Al (Ai lo 153 (Cc q i j) g) λc q=>eS 6 c λc i j=>Bd (Gf (ld g n m (k+0) 1) (ld q n m (k+0) 1)) (AB x p (eO w λw=>eO (st lo q w.1 (w.2+x.toNat) 1 (Cc c i j)) λc=>Al (Ai lo 175 [BU n m k,Iv (AL (x+1)),AP v a o s y z b u] c) λv c=>eU v λv=>eN v (Cj c))))))))))))))))))))) (AN l)))=some r) :
  Ai lo 147 [BU n m k,Iv x] h=some r :=
 eK Tryz.func147 hk
def A1 lo n m k a i c x y h:=
 LA 148 Tryz.f148 2213 0 1 lo ⟨[(0,(BU n m k)),(8,.sl 6 a i c),(9,Iv x),(10,Iv y)],[],h⟩
theorem LB (hk:(Al (Ai lo 47 [BU n m (k+2)] h) λv l=>eA v λv=>eC v λv c=>eS 6 v λv a o=>eN c (A1 lo n m k v a o (a:Int) 0 l))=some r) :
  Ai lo 148 [BU n m k] h=some r :=
 eK Tryz.func148 hk
theorem A1.e :
  A1 lo n m k a i c y x h=br (decide (x<y)) (AB x i (eO a λv=>eO (ld h v.1 (v.2+x.toNat) 0 6) λv=>eC v λv l=>eI .i64 v λv=>eC l λl o=>eI .i64 l λl=>eC o λo s=>eI .i64 o λo=>eC s λs b=>eS 2 s λs z u=>eC b λb w=>eT b λb=>eC w λw p=>eBv w λw=>eN p (br ((l==0)&&((o==0)&&true)) (A1 lo n m k a i c y (AL (x+1)) h) (eO (ld h n m (k+0) 1) λp=>eC p λp q=>eN q (eI .i64 p λp=>br (o==p) (eO (ld h n m (k+3) 1) λp=>eC p λp q=>eN q (eS 6 p λp q g=>Al (Ai lo 152 [.sl 6 p q g,Ay l o] h) λp q=>eB p (A1 lo n m k a i c y (AL (x+1)) q) (eO (ld q n m (k+3) 1) λp=>eC p λp g=>eN g (eS 6 p λp g j=>Al (Ai q.length 73 [AP v l o s z u b w] q) λv l=>eA v λv=>eC v λv o=>eI .i64 v λv=>eC o λo s=>eI .i64 o λo=>eC s λs b=>eI .i64 s λs=>eC b λb z=>eS 2 b λb u w=>eC z λz q=>eT z λz=>eC q λq t=>eBv q λq=>eN t (Au 6 (l ++ [.rows 6 49 false [DD v o s b u w z q]]) (.sl 6 (some (l.length,0)) 1 (some 1)) λt=>Dd lo 49 6 72 (.sl 6 p g j) t (l ++ [.rows 6 49 false [DD v o s b u w z q]]) λv l=>eS 6 v λv o s=>eO (st lo l n m (k+3) (Cc v o s)) λv=>A1 lo n m k a i c y (AL (x+1)) v))))) (A1 lo n m k a i c y (AL (x+1)) h)))))) (eO (ld h n m (k+3) 1) λv=>eC v λv l=>eN l (eS 6 v λv l o=>Al (Ai lo 153 (Cc v l o) h) λv l=>eS 6 v λv o s=>eO (st lo l n m (k+3) (Cc v o s)) λv=>eO (ld v n m ((k+2)+0) 1) λl=>eC l λl o=>eN o (eS 2 l λl o s=>Al (Ai lo 176 [.sl 2 l o s,.fn 177 []] v) λv l=>eB v (some (.tup [],l)) (eO (st lo l n m (k+5) [.bool false]) λv=>some (.tup [],v))))) :=
 lE
def Bt lo n m k x i j g a G c y z h:=
 LA 149 Tryz.f149 22131111111 0 11111111 lo ⟨[(0,(BU n m k)),(1,Iv x),(5,(BU i j g)),(59,.sl 6 a G c),(60,Iv y),(61,Iv z)],[],h⟩
theorem NL (hk:(eO (ld h n m (k+0) 1) λv=>eC v λv l=>eN l (eS 2 v λv v l=>Al (Ai lo 56 (CC x 0 (AL ((v:Int) - 1))) h) λv l=>eB v (eO (ld l n m (k+0) 1) λv=>eC v λv c=>eN c (eS 2 v λv v c=>br ((v:Int)==1) (AN l) (eO (ld l n m (k+0) 1) λv=>eC v λv c=>eN c (eS 2 v λv c a=>Al (Ai lo 178 [.sl 2 v c a,Iv x,Iv (AL (x+1))] l) λv c=>eS 2 v λv a o=>Al (Ai lo 150 (Co v a o) c) λv c=>eS 2 v λv a o=>eO (st lo c n m (k+0) (Co v a o)) λv=>br (x==0) (Cj v) (eO (ld v n m (k+0) 1) λc=>eC c λc a=>eN a (eS 2 c λc a o=>AB (AL (x - 1)) a (eO c λc=>eO (st lo v c.1 (c.2+((AL (x - (1:Int))).toNat)) 1 [.sl 0 none 0 (some 0)]) λv=>eO (ld v n m k 1) λa=>eC a λa o=>eS 2 a λa s b=>eN o (Al (Ai lo 83 [Ap a s b,Iv (AL (x - 1))] v) λv a=>eB v (Cj a) (eO (ld a c.1 (c.2+((AL (x - (1:Int))).toNat)) 0 1) λv=>eC v λv o=>eN o (eS 6 v λv o s=>Bt lo n m k x c.1 (c.2+((AL (x - (1:Int))).toNat)) 0 v o s (o:Int) 0 a)))))))))) (AN l)))=some r) :
  Ai lo 149 [BU n m k,Iv x] h=some r :=
 eK Tryz.func149 hk
theorem Bt.e {lo i j g n m k G:Nat}{y z x:Int}{a:Pq}{c:Nq}{h:Heap} :
  Bt lo i j g y n m k a G c z x h=br (decide (x<z)) (AB x G (eO a λv=>eO (ld h v.1 (v.2+x.toNat) 0 6) λv=>eC v λv l=>eI .i64 v λv=>eC l λl o=>eI .i64 l λl=>eC o λo s=>eI .i64 o λo=>eC s λs b=>eS 2 s λs u w=>eC b λb p=>eT b λb=>eC p λp q=>eBv p λp=>eN q (eO (ld h i j (g+0) 1) λq=>eC q λq t=>eN t (eS 2 q λq t d=>AB y t (eO q λq=>eO (ld h q.1 (q.2+y.toNat) 0 1) λq=>eC q λq t=>eN t (eS 6 q λq t d=>AB v t (eO q λq=>eO (ld h q.1 (q.2+v.toNat) 1 2) λq=>eC q λq t=>eI .i64 q λq=>eC t λt d=>eI .i64 t λt=>eN d (Al (Ai lo 17 [Ay q t,Ay l o] h) λq t=>eB q (eO (ld t n m (k+1) 1) λq=>eC q λq d=>eN d (eS 6 q λq d e=>Al (Ai t.length 73 [AP v l o s u w b p] t) λv l=>eA v λv=>eC v λv o=>eI .i64 v λv=>eC o λo s=>eI .i64 o λo=>eC s λs b=>eI .i64 s λs=>eC b λb u=>eS 2 b λb w p=>eC u λu f=>eT u λu=>eC f λf A=>eBv f λf=>eN A (Au 6 (l ++ [.rows 6 49 false [DD v o s b w p u f]]) (.sl 6 (some (l.length,0)) 1 (some 1)) λA=>Dd lo 49 6 72 (.sl 6 q d e) A (l ++ [.rows 6 49 false [DD v o s b w p u f]]) λv l=>eS 6 v λv o s=>eO (st lo l n m (k+1) (Cc v o s)) λv=>Bt lo i j g y n m k a G c z (AL (x+1)) v))) (Bt lo i j g y n m k a G c z (AL (x+1)) t))))))))) (eO (ld h n m (k+1) 1) λv=>eC v λv l=>eN l (eS 6 v λv l o=>Al (Ai lo 179 [.sl 6 v l o,.fn 180 []] h) λv l=>eU v λv=>eN v (eO (ld l n m (k+1) 1) λv=>eC v λv o=>eN o (eS 6 v λv o s=>Al (Ai lo 153 (Cc v o s) l) λv l=>eS 6 v λv o s=>eO (st lo l n m (k+1) (Cc v o s)) λv=>some (.bool true,v))))) :=
 lE
theorem Gu (hk:(Aw a n c none (some (Iv (n:Int))) (some (Iv (n:Int))) λv l o=>some (.sl 2 v l o,h))=some r) :
  Ai lo 150 (Co a n c) h=some r :=
 eK Tryz.func150 hk
theorem OL (hk:(Al (Ai lo 173 [BU n m k,Iv 0] h) λv l=>eB v (AN l) (Al (Ai lo 175 [BU n m k,Iv 0,AP x y z a i c S f] l) λv l=>eU v λv=>eN v (Cj l)))=some r) :
  Ai lo 151 [BU n m k,AP x y z a i c S f] h=some r :=
 eK Tryz.func151 hk
theorem Sr (hk:(Al (Ai h.length 51 [.sl 6 a n c,.fn 181 [.ptr (some (h.length,(0,0)))]] (h ++ [.rows 2 30 false [BI x y]])) λl o=>eB l (Cj o) (AN o))=some (v,h')) (hn:noId v=true:=by rfl) :
  Ai lo 152 [.sl 6 a n c,Ay x y] h=some (v,h) :=
 eD Tryz.func152 hk hn
theorem GO (hk:(Aw a n c none (some (Iv (n:Int))) (some (Iv (n:Int))) λv l o=>some (.sl 6 v l o,h))=some r) :
  Ai lo 153 (Cc a n c) h=some r :=
 eK Tryz.func153 hk
def CJ lo x y n a m c k b i p h:=
 LA 154 Tryz.f154 2213111 0 1111 lo ⟨[(0,Iv x),(2,.lp 2 0),(3,.lp 3 0),(4,Iv y)],[(2,[.sl n a m c]),(3,[.sl k b i p])],h⟩
theorem PE (hk:(Al (Ai lo 41 (CC x 1 4) h) λv l=>eB v (CJ lo x 0 0 none 0 (some 0) 0 none 0 (some 0) l) (some (.agg [.sl 0 none 0 (some 0)],l)))=some r) :
  Ai lo 154 (AW x) h=some r :=
 eK Tryz.func154 hk
theorem CJ.e :
  CJ lo x y k b i p n a m c h=br (decide (y<x)) (Al (Ai lo 182 [] h) λv l=>eA v λv=>eC v λv o=>eS 6 v λv s z=>eN o (Au 2 (l ++ [.rows 2 54 false [[.sl 6 v s z,.sl 0 none 0 (some 0)]]]) (.sl 2 (some (l.length,0)) 1 (some 1)) λo=>Dd lo 54 2 48 (.sl n a m c) o (l ++ [.rows 2 54 false [[.sl 6 v s z,.sl 0 none 0 (some 0)]]]) λv l=>eS 2 v λv o s=>CJ lo x (AL (y+1)) k b i p 2 v o s l)) (some (.agg [.sl n a m c],h)) :=
 lE
theorem Rk {e:Pq} (hk:(AB x n (eO a λv=>eO (ld h v.1 (v.2+x.toNat) 0 5) λv=>eC v λv l=>eI .i64 v λv=>eC l λl o=>eS 2 l λl w q=>eC o λo g=>eI .i64 o λo=>eC g λg j=>eI .i64 g λg=>eC j λg j=>eI .i64 g λg=>eN j (AB v m (eO b λg=>eO (ld h g.1 (g.2+v.toNat) 0 6) λg=>eC g λg j=>eI .i64 g λg=>eC j λj A=>eI .i64 j λj=>eC A λA B=>eS 2 A λA C D=>eC B λB E=>eS 6 B λB G H=>eC E λE J=>eS 1 E λE K L=>eC J λJ M=>eBv J λJ=>eN M (br (decide (o>0)) (some (.tup [At b m c a n p d i u e k s,.bool false],h)) (Al (Ai lo 41 (CC y 0 3) h) λo M=>eB o (Al (Ai lo 183 [.str S] M) λo N=>eB o (br f (br (S.toList==(ByteArray.mk #[]).toList) (Al (Ai lo 184 [BV g j A C D B G H E K L J,Ap l w q] N) λo O=>eB o (br (decide ((k:Int)>=80)) (some (.tup [At b m c a n p d i u e k s,.bool false],O)) (Al (Ai lo 185 [BV g j A C D B G H E K L J,Iv y,.str S,.bool true,Ap l w q] O) λo P=>eU o λo=>eC o λo Q=>eA o λo=>eC o λo U=>eI .i64 o λo=>eC U λU W=>eI .i64 U λU=>eC W λW Y=>eS 2 W λW Z v0=>eC Y λY v1=>eS 6 Y λY v2 v3=>eC v1 λv1 v4=>eS 1 v1 λv1 v5 v6=>eC v4 λv4 v7=>eBv v4 λv4=>eN v7 (eC Q λQ v7=>eA Q λQ=>eC Q λQ v8=>eI .i64 Q λQ=>eC v8 λv8 v9=>eI .i64 v8 λv8=>eN v9 (eN v7 (AB v m (eO b λv7=>eO (st lo P v7.1 (v7.2+v.toNat) 0 (D1 o U W Z v0 Y v2 v3 v1 v5 v6 v4)) λo=>AB x n (eO a λP=>eO (st lo o P.1 (P.2+x.toNat) 2 (BI Q v8)) λo=>AB x n (eO a λP=>eO (st lo o P.1 (P.2+x.toNat) 4 (AW y)) λo=>Al (Ai lo 186 [At b m c a n p d i u e k s,Iv x,Iv 1,Iv y,Ay Q v8] o) λo P=>eA o λo=>eC o λo Q=>eS 6 o λo U W=>eC Q λQ Y=>eS 5 Q λQ Z v0=>eC Y λY v1=>eS 9 Y λY v2 v3=>eC v1 λv1 v4=>eS 5 v1 λv1 v5 v6=>eN v4 (some (.tup [At o U W Q Z v0 Y v2 v3 v1 v5 v6,.bool true],P)))))))))) (some (.tup [At b m c a n p d i u e k s,.bool false],O))) (some (.tup [At b m c a n p d i u e k s,.bool false],N))) (Al (Ai lo 184 [BV g j A C D B G H E K L J,Ap l w q] N) λo O=>eB o (br (decide ((k:Int)>=80)) (some (.tup [At b m c a n p d i u e k s,.bool false],O)) (Al (Ai lo 185 [BV g j A C D B G H E K L J,Iv y,.str S,.bool false,Ap l w q] O) λl o=>eU l λl=>eC l λl w=>eA l λl=>eC l λl q=>eI .i64 l λl=>eC q λq g=>eI .i64 q λq=>eC g λg j=>eS 2 g λg A B=>eC j λj C=>eS 6 j λj D E=>eC C λC G=>eS 1 C λC H J=>eC G λG K=>eBv G λG=>eN K (eC w λw K=>eA w λw=>eC w λw L=>eI .i64 w λw=>eC L λL P=>eI .i64 L λL=>eN P (eN K (AB v m (eO b λK=>eO (st lo o K.1 (K.2+v.toNat) 0 (D1 l q g A B j D E C H J G)) λv=>AB x n (eO a λl=>eO (st lo v l.1 (l.2+x.toNat) 2 (BI w L)) λv=>AB x n (eO a λl=>eO (st lo v l.1 (l.2+x.toNat) 4 (AW y)) λv=>Al (Ai lo 186 [At b m c a n p d i u e k s,Iv x,Iv 1,Iv y,Ay w L] v) λv l=>eA v λv=>eC v λv o=>eS 6 v λv w q=>eC o λo g=>eS 5 o λo j A=>eC g λg B=>eS 9 g λg C D=>eC B λB E=>eS 5 B λB G H=>eN E (some (.tup [At v w q o j A g C D B G H,.bool true],l)))))))))) (some (.tup [At b m c a n p d i u e k s,.bool false],O)))) (some (.tup [At b m c a n p d i u e k s,.bool false],N))) (some (.tup [At b m c a n p d i u e k s,.bool false],M))))))))=some r) :
  Ai lo 155 [At b m c a n p d i u e k s,Bh z x t y S f] h=some r :=
 by cases f<;>exact eK Tryz.func155 hk
theorem Ul {e:Pq} (hk:(AB x n (eO a λv=>eO (ld h v.1 (v.2+x.toNat) 0 5) λv=>eC v λv l=>eI .i64 v λv=>eC l λl o=>eS 2 l λl w q=>eC o λo g=>eI .i64 o λo=>eC g λg j=>eI .i64 g λg=>eC j λj A=>eI .i64 j λj=>eN A (br (o==0) (some (.tup [At b k c a n p d i u e m s,.bool false],h)) (AB v k (eO b λA=>eO (ld h A.1 (A.2+v.toNat) 2 1) λv=>eC v λv A=>eS 2 v λv B C=>eN A (Al (Ai lo 187 [Ap v B C,Iv 0,Iv j] h) λA C=>eA A λA=>eC A λA D=>eI .i64 A λA=>eC D λA D=>eI .i64 A λA=>eC D λD E=>eI .i64 D λD=>eC E λE G=>eS 2 E λE E E=>eC G λE G=>eT E λE=>eC G λE G=>eBv E λE=>eN G (AB 0 B (eO v λv=>eO (ld C v.1 (v.2+0) 0 1) λv=>eC v λv B=>eN B (eS 6 v λv B E=>AB j B (eO v λv=>eO (ld C v.1 (v.2+j.toNat) 1 2) λv=>eC v λv B=>eI .i64 v λv=>eC B λB E=>eI .i64 B λB=>eN E (Al (Ai lo 188 [Ay A D,Ay o g] C) λC E=>eB C (Al (Ai lo 188 [Ay v B,Ay o g] E) λv B=>eB v (Al (Ai lo 188 [Ay A D,Ay o g] B) λv C=>eB v (Al (Ai lo 188 [Ay A D,Ay o g] C) λv G=>eB v (AB x n (eO a λv=>eO (st lo G v.1 (v.2+x.toNat) 2 (BI 0 0)) λv=>AB x n (eO a λH=>eO (st lo v H.1 (H.2+x.toNat) 4 (AW 0)) λv=>some (.tup [At b k c a n p d i u e m s,.bool true],v)))) (Al (Ai lo 189 [Ap l w q,Iv j,Ay o g] G) λv G=>eA v λv=>eC v λv H=>eS 2 v λv J K=>eN H (AB x n (eO a λH=>eO (st lo G H.1 (H.2+x.toNat) 1 (Co v J K)) λv=>Al (Ai lo 186 [At b k c a n p d i u e m s,Iv x,Iv 3,Iv j,Ay o g] v) λv G=>eA v λv=>eC v λv H=>eS 6 v λv J K=>eC H λH L=>eS 5 H λH M N=>eC L λL O=>eS 9 L λL P Q=>eC O λO U=>eS 5 O λO W Y=>eN U (AB x M (eO H λU=>eO (st lo G U.1 (U.2+x.toNat) 2 (BI 0 0)) λG=>AB x M (eO H λU=>eO (st lo G U.1 (U.2+x.toNat) 4 (AW 0)) λG=>some (.tup [At v J K H M N L P Q O W Y,.bool true],G)))))))) (br (decide ((m:Int)>=80)) (some (.tup [At b k c a n p d i u e m s,.bool false],C)) (Al (Ai lo 188 [Ay A D,Ay o g] C) λv C=>eB v (AB x n (eO a λv=>eO (st lo C v.1 (v.2+x.toNat) 2 (BI 0 0)) λv=>AB x n (eO a λG=>eO (st lo v G.1 (G.2+x.toNat) 4 (AW 0)) λv=>some (.tup [At b k c a n p d i u e m s,.bool true],v)))) (Al (Ai lo 189 [Ap l w q,Iv j,Ay o g] C) λv C=>eA v λv=>eC v λv G=>eS 2 v λv H J=>eN G (AB x n (eO a λG=>eO (st lo C G.1 (G.2+x.toNat) 1 (Co v H J)) λv=>Al (Ai lo 186 [At b k c a n p d i u e m s,Iv x,Iv 3,Iv j,Ay o g] v) λv C=>eA v λv=>eC v λv G=>eS 6 v λv H J=>eC G λG K=>eS 5 G λG L M=>eC K λK N=>eS 9 K λK O P=>eC N λN Q=>eS 5 N λN U W=>eN Q (AB x L (eO G λQ=>eO (st lo C Q.1 (Q.2+x.toNat) 2 (BI 0 0)) λC=>AB x L (eO G λQ=>eO (st lo C Q.1 (Q.2+x.toNat) 4 (AW 0)) λC=>some (.tup [At v H J G L M K O P N U W,.bool true],C)))))))))) (some (.tup [At b k c a n p d i u e m s,.bool false],B))) (Al (Ai lo 188 [Ay A D,Ay o g] E) λv B=>eB v (Al (Ai lo 188 [Ay A D,Ay o g] B) λv C=>eB v (AB x n (eO a λv=>eO (st lo C v.1 (v.2+x.toNat) 2 (BI 0 0)) λv=>AB x n (eO a λE=>eO (st lo v E.1 (E.2+x.toNat) 4 (AW 0)) λv=>some (.tup [At b k c a n p d i u e m s,.bool true],v)))) (Al (Ai lo 189 [Ap l w q,Iv j,Ay o g] C) λv C=>eA v λv=>eC v λv E=>eS 2 v λv G H=>eN E (AB x n (eO a λE=>eO (st lo C E.1 (E.2+x.toNat) 1 (Co v G H)) λv=>Al (Ai lo 186 [At b k c a n p d i u e m s,Iv x,Iv 3,Iv j,Ay o g] v) λv C=>eA v λv=>eC v λv E=>eS 6 v λv G H=>eC E λE J=>eS 5 E λE K L=>eC J λJ M=>eS 9 J λJ N O=>eC M λM P=>eS 5 M λM Q U=>eN P (AB x K (eO E λP=>eO (st lo C P.1 (P.2+x.toNat) 2 (BI 0 0)) λC=>AB x K (eO E λP=>eO (st lo C P.1 (P.2+x.toNat) 4 (AW 0)) λC=>some (.tup [At v G H E K L J N O M Q U,.bool true],C)))))))) (br (decide ((m:Int)>=80)) (some (.tup [At b k c a n p d i u e m s,.bool false],B)) (Al (Ai lo 188 [Ay A D,Ay o g] B) λv A=>eB v (AB x n (eO a λv=>eO (st lo A v.1 (v.2+x.toNat) 2 (BI 0 0)) λv=>AB x n (eO a λB=>eO (st lo v B.1 (B.2+x.toNat) 4 (AW 0)) λv=>some (.tup [At b k c a n p d i u e m s,.bool true],v)))) (Al (Ai lo 189 [Ap l w q,Iv j,Ay o g] A) λv l=>eA v λv=>eC v λv w=>eS 2 v λv q A=>eN w (AB x n (eO a λw=>eO (st lo l w.1 (w.2+x.toNat) 1 (Co v q A)) λv=>Al (Ai lo 186 [At b k c a n p d i u e m s,Iv x,Iv 3,Iv j,Ay o g] v) λv l=>eA v λv=>eC v λv o=>eS 6 v λv w q=>eC o λo g=>eS 5 o λo j A=>eC g λg B=>eS 9 g λg C D=>eC B λB E=>eS 5 B λB G H=>eN E (AB x j (eO o λE=>eO (st lo l E.1 (E.2+x.toNat) 2 (BI 0 0)) λl=>AB x j (eO o λE=>eO (st lo l E.1 (E.2+x.toNat) 4 (AW 0)) λl=>some (.tup [At v w q o j A g C D B G H,.bool true],l)))))))))))))))))))))=some r) :
  Ai lo 156 [At b k c a n p d i u e m s,Bh y x z t S f] h=some r :=
 eK Tryz.func156 hk
theorem RZ {e:Pq} (hk:(AB y n (eO a λv=>eO (ld h v.1 (v.2+y.toNat) 0 5) λv=>eC v λv l=>eI .i64 v λv=>eC l λl o=>eS 2 l λl w q=>eC o λo g=>eI .i64 o λo=>eC g λg j=>eI .i64 g λg=>eC j λg j=>eI .i64 g λg=>eN j (AB v m (eO b λg=>eO (ld h g.1 (g.2+v.toNat) 2 1) λv=>eC v λv g=>eS 2 v λv j A=>eN g (br (decide (o>0)) (some (.tup [At b m c a n p d i u e k s,.bool false],h)) (Al (Ai lo 41 (CC x 0 3) h) λo g=>eB o (Al (Ai lo 41 (CC z 0 (AL ((j:Int) - 1))) g) λo B=>eB o (br (decide ((k:Int)>=80)) (some (.tup [At b m c a n p d i u e k s,.bool false],B)) (Al (Ai lo 187 [Ap v j A,Iv z,Iv x] B) λv o=>eA v λv=>eC v λv j=>eI .i64 v λv=>eC j λv j=>eI .i64 v λv=>eC j λj A=>eI .i64 j λj=>eC A λA C=>eS 2 A λA D E=>eC C λC G=>eT C λC=>eC G λC G=>eBv C λC=>eN G (AB x w (eO l λC=>eO (ld o C.1 (C.2+x.toNat) 0 2) λC=>eC C λC G=>eI .i64 C λC=>eC G λG H=>eI .i64 G λG=>eN H (Al (Ai lo 188 [Ay v j,Ay C G] o) λo C=>eB o (some (.tup [At b m c a n p d i u e k s,.bool false],C)) (br (decide (v>0)) (Al (Ai lo 190 [Ap l w q,Ap A D E] C) λl o=>eA l λl=>eC l λl w=>eS 2 l λl q A=>eN w (Al (Ai lo 189 [Ap l q A,Iv x,Ay v j] o) λl o=>eA l λl=>eC l λl w=>eS 2 l λl q A=>eN w (AB y n (eO a λw=>eO (st lo o w.1 (w.2+y.toNat) 1 (Co l q A)) λl=>Al (Ai lo 186 [At b m c a n p d i u e k s,Iv y,Iv 2,Iv x,Ay v j] l) λl o=>eA l λl=>eC l λl w=>eS 6 l λl q A=>eC w λw D=>eS 5 w λw E G=>eC D λD H=>eS 9 D λD J K=>eC H λH L=>eS 5 H λH M N=>eN L (some (.tup [At l q A w E G D J K H M N,.bool true],o)))))) (Al (Ai lo 186 [At b m c a n p d i u e k s,Iv y,Iv 2,Iv x,Ay v j] C) λv l=>eA v λv=>eC v λv o=>eS 6 v λv w q=>eC o λo j=>eS 5 o λo A C=>eC j λj D=>eS 9 j λj E G=>eC D λD H=>eS 5 D λD J K=>eN H (some (.tup [At v w q o A C j E G D J K,.bool true],l))))))))) (some (.tup [At b m c a n p d i u e k s,.bool false],B))) (some (.tup [At b m c a n p d i u e k s,.bool false],g))))))))=some r) :
  Ai lo 157 [At b m c a n p d i u e k s,Bh t y z x S f] h=some r :=
 eK Tryz.func157 hk
def DX lo x a n c b m p d k u e i s y z t w S f j A g C G B H D J a0 P c0 n0 a1 n1 c1 a2 n2 c2 h:=
 LA 158 Tryz.f158 221311111 0 111111 lo ⟨[(2,.lp 2 0),(3,.lp 3 0),(4,.lp 4 0),(8,.lp 8 0),(9,Iv x)],[(2,(Dg a n c b m p d k u e i s)),(3,(Tk y z t w S f)),(4,[.sl j A g C,.sl G B H D,.sl J a0 P c0,.sl n0 a1 n1 c1]),(8,(Cc a2 n2 c2))],h⟩
theorem Um {e:Pq} (hk:(AB x m (eO b λv=>eO (ld h v.1 (v.2+x.toNat) 0 5) λv=>eC v λv l=>eI .i64 v λv=>eC l λl o=>eS 2 l λl w q=>eC o λo g=>eI .i64 o λo=>eC g λg j=>eI .i64 g λg=>eC j λg j=>eI .i64 g λg=>eN j (AB v n (eO a λg=>eO (ld h g.1 (g.2+v.toNat) 2 1) λv=>eC v λv g=>eS 2 v λv j A=>eN g (AB (AL ((j:Int) - 1)) j (eO v λv=>eO (ld h v.1 (v.2+((AL ((j:Int) - (1:Int))).toNat)) 0 1) λv=>eC v λv g=>eS 6 v λv j A=>eN g (br (decide (o>0)) (some (.tup [At a n c b m p d i u e k s,.bool false],h)) (Al (Ai h.length 192 [By v j A] h) λo g=>eA o λo=>eC o λo B=>eS 2 o λo C D=>eN B (Al (Ai lo 191 [Ap l w q,Ap o C D] g) λl o=>eB l (br (decide (AL ((k:Int)+(4:Int))>80)) (some (.tup [At a n c b m p d i u e k s,.bool false],o)) (DX lo 0 a n c b m p d i u e k s y x z t S f 0 none 0 (some 0) 0 none 0 (some 0) 0 none 0 (some 0) 0 none 0 (some 0) v j A o)) (some (.tup [At a n c b m p d i u e k s,.bool false],o)))))))))))=some r) :
  Ai lo 158 [At a n c b m p d i u e k s,Bh y x z t S f] h=some r :=
 eK Tryz.func158 hk
theorem DX.e {lo k n i j g G H J P n0 n1 n2 m:Nat}{x z y t w:Int}{d a A B a0 a1 a2 a3 b:Pq}{c p u s C D c0 c1 c2:Nq}{S:ByteArray}{f:Bool}{h:Heap} :
  DX lo x d k c a n p A i u B j s z y t w S f g a0 G C H a1 J D P a2 n0 c0 n1 a3 n2 c1 b m c2 h=br (decide (x<4)) (AB y n (eO a λv=>eO (ld h v.1 (v.2+y.toNat) 1 1) λv=>eC v λv l=>eS 2 v λv o q=>eN l (AB x m (eO b λl=>eO (ld h l.1 (l.2+x.toNat) 1 2) λl=>eC l λl e=>eI .i64 l λl=>eC e λe E=>eI .i64 e λe=>eN E (Al (Ai lo 189 [Ap v o q,Iv x,Ay l e] h) λv l=>eA v λv=>eC v λv o=>eS 2 v λv q e=>eN o (AB y n (eO a λo=>eO (st lo l o.1 (o.2+y.toNat) 1 (Co v q e)) λv=>AB x m (eO b λl=>eO (ld v l.1 (l.2+x.toNat) 1 2) λl=>eC l λl o=>eI .i64 l λl=>eC o λo q=>eI .i64 o λo=>eN q (Al (Ai lo 186 [At d k c a n p A i u B j s,Iv y,Iv 2,Iv x,Ay l o] v) λv l=>eA v λv=>eC v λv o=>eS 6 v λv q e=>eC o λo E=>eS 5 o λo K L=>eC E λE M=>eS 9 E λE N O=>eC M λM Q=>eS 5 M λM U W=>eN Q (DX lo (AL (x+1)) v q e o K L E N O M U W z y t w S f g a0 G C H a1 J D P a2 n0 c0 n1 a3 n2 c1 b m c2 l)))))))))) (some (.tup [At d k c a n p A i u B j s,.bool true],h)) :=
 lE
theorem Up (hk:(Al (Ai h.length 41 (CC x 0 (AL ((n:Int) - 2))) h) λl o=>eB l (AB x n (eO a λl=>eO (ld o l.1 (l.2+x.toNat) 1 1) λl=>eC l λl s=>eN s (eS 6 l λl l s=>br (decide ((l:Int)>0)) (AB (AL (x+1)) n (eO a λl=>eO (ld o l.1 (l.2+((AL (x+(1:Int))).toNat)) 1 1) λl=>eC l λl s=>eN s (eS 6 l λl l s=>br (decide ((l:Int)<6)) (Cj o) (AN o)))) (AN o)))) (AN o))=some (v,h')) (hn:noId v=true:=by rfl) :
  Ai lo 159 [Ap a n c,Iv x] h=some (v,h) :=
 eD Tryz.func159 hk hn
theorem Sa (hk:(AB x n (eO a λv=>eO (ld h v.1 (v.2+x.toNat) 1 1) λv=>eC v λv l=>eN l (eS 6 v λv l o=>AB 0 l (eO v λv=>eO (ld h v.1 (v.2+0) 0 6) λv=>eC v λv l=>eI .i64 v λv=>eC l λl o=>eI .i64 l λl=>eC o λo s=>eI .i64 o λo=>eC s λs b=>eS 2 s λs y z=>eC b λb u=>eT b λb=>eC u λu w=>eBv u λu=>eN w (AB x n (eO a λw=>eO (ld (h ++ [.rows 6 49 false []]) w.1 (w.2+x.toNat) 1 1) λw=>eC w λw p=>eN p (eS 6 w λw p q=>Aw w p q (some (Iv 1)) none none λw p q=>Au 6 (h ++ [.rows 6 49 false []]) (.sl 6 w p q) λw=>Dd lo 49 6 72 (.sl 6 (some (h.length,0)) 0 (some 0)) w (h ++ [.rows 6 49 false []]) λw p=>eS 6 w λw q g=>AB x n (eO a λi=>eO (st lo p i.1 (i.2+x.toNat) 1 (Cc w q g)) λw=>Al (Ai lo 193 [Ap a n c,Iv (AL (x+1)),AP v l o s y z b u] w) λv l=>eA v λv=>eC v λv o=>eS 2 v λv s b=>eN o (some ((Ap v s b),l))))))))))=some r) :
  Ai lo 160 [Ap a n c,Iv x] h=some r :=
 eK Tryz.func160 hk
def B3 lo x y z a n c b m p d k u f t w i e j s g A G C H B J D F a0 P c0 h:=
 LA 161 Tryz.f161 221311 0 111 lo ⟨[(1,.lp 1 0),(2,.lp 2 0),(3,.lp 3 0),(4,Iv x)],[(1,(D1 y z a n c b m p d k u f)),(2,[Iv t,Iv w,.sl i e j s,.sl g A G C,.sl H B J D,.bool F]),(3,(Cc a0 P c0))],h⟩
def B0 lo f x y z a n c b m p d k u F t w i e j s g A G C H B J D b0 h:=
 LA 161 Tryz.f161 22131111 2 11111 lo ⟨[(1,.lp 1 0),(2,.lp 2 0),(6,.bool f),(7,Iv x)],[(1,(D1 y z a n c b m p d k u F)),(2,[Iv t,Iv w,.sl i e j s,.sl g A G C,.sl H B J D,.bool b0])],h⟩
theorem R6 (hk:(AB (AL ((n:Int) - 1)) n (eO a λv=>eO (ld h v.1 (v.2+((AL ((n:Int) - (1:Int))).toNat)) 0 1) λv=>eC v λv l=>eS 6 v λv o s=>eN l (B3 lo 0 x y a n c b m p d k u f 0 0 0 none 0 (some 0) 0 none 0 (some 0) 0 none 0 (some 0) false v o s h)))=some r) :
  Ai lo 161 [BV x y a n c b m p d k u f] h=some r :=
 eK Tryz.func161 hk
theorem B3.e {lo m n k i j g G H J P:Nat}{x y z t w:Int}{b a d A B a0 a1:Pq}{p c u s C D c0:Nq}{f F:Bool}{h:Heap} :
  B3 lo x y z b m p a n c d k u f t w i A j s g B G C H a0 J D F a1 P c0 h=br (decide (x<4)) (AB x P (eO a1 λv=>eO (ld h v.1 (v.2+x.toNat) 0 6) λv=>eC v λv l=>eI .i64 v λv=>eC l λl o=>eI .i64 l λl=>eC o λo q=>eI .i64 o λo=>eC q λq e=>eS 2 q λq E K=>eC e λe L=>eT e λe=>eC L λL M=>eBv L λL=>eN M (br (decide (l>0)) (br (o==y) (Al (Ai lo 194 [.sl 6 a n c,Ay l o] h) λM N=>eB M (B3 lo (AL (x+1)) y z b m p a n c d k u f t w i A j s g B G C H a0 J D F a1 P c0 N) (Al (Ai lo 167 [AP v l o q E K e L] N) λv l=>eA v λv=>eC v λv o=>eI .i64 v λv=>eC o λo q=>eI .i64 o λo=>eC q λq e=>eI .i64 q λq=>eC e λe E=>eS 2 e λe K L=>eC E λE M=>eT E λE=>eC M λM N=>eBv M λM=>eN N (Au 6 (l ++ [.rows 6 49 false [DD v o q e K L E M]]) (.sl 6 (some (l.length,0)) 1 (some 1)) λN=>Dd lo 49 6 72 (.sl 6 a n c) N (l ++ [.rows 6 49 false [DD v o q e K L E M]]) λv l=>eS 6 v λv o q=>B3 lo (AL (x+1)) y z b m p v o q d k u f t w i A j s g B G C H a0 J D F a1 P c0 l))) (B3 lo (AL (x+1)) y z b m p a n c d k u f t w i A j s g B G C H a0 J D F a1 P c0 h)) (B3 lo (AL (x+1)) y z b m p a n c d k u f t w i A j s g B G C H a0 J D F a1 P c0 h)))) (B0 lo true 0 y z b m p a n c d k u f t w i A j s g B G C H a0 J D F h) :=
 lE
theorem B0.e {H J:Nat}{b0:Bool}{D:Nq} :
  B0 lo F x y z a n c b m p d k u f t w i A j s g B G C H a0 J D b0 h=br (decide (x<(n:Int))) (br F (AB x n (eO a λv=>eO (ld h v.1 (v.2+x.toNat) 1 1) λv=>eC v λv l=>eN l (eS 6 v λv v l=>br ((v:Int)==0) (B0 lo true (AL (x+1)) y z a n c b m p d k u f t w i A j s g B G C H a0 J D b0 h) (B0 lo false (AL (x+1)) y z a n c b m p d k u f t w i A j s g B G C H a0 J D b0 h)))) (B0 lo false (AL (x+1)) y z a n c b m p d k u f t w i A j s g B G C H a0 J D b0 h)) (br f (some ((BV y z a n c b m p d k u (!F)),h)) (some ((BV y z a n c b m p d k u false),h))) :=
 by cases f<;>cases F<;>exact lE
theorem Oz (hk:(br (!f) (br (!f) (br (!f) (br (!f) (br (!f) (br (decide ((n:Int)>1)) (br (!f) (Al (Ai h.length 41 (CC x 0 (AL ((n:Int) - 1))) h) λl o=>eB l (Cj o) (AN o)) (AN h)) (br (!f) (AN h) (AN h))) (br (!f) none (AN h))) (br (!f) none (br (!f) none (AN h)))) (br (!f) none (br (!f) none (br (!f) none (AN h))))) (br (!f) none (br (!f) none (br (!f) none (br (!f) none (AN h)))))) (br (!f) none (br (!f) none (br (!f) none (br (!f) none (br (!f) none (AN h)))))))=some (v,h')) (hn:noId v=true:=by rfl) :
  Ai lo 162 [BV y z a n c b m p d k u f,Iv x] h=some (v,h) :=
 eD Tryz.func162 hk hn
theorem Sd (hk:(Aw a n c none (some (Iv x)) none λv l o=>Au 2 (h ++ [.rows 2 54 false []]) (.sl 2 v l o) λv=>Dd lo 54 2 48 (.sl 2 (some (h.length,0)) 0 (some 0)) v (h ++ [.rows 2 54 false []]) λv l=>eS 2 v λv o s=>Aw a n c (some (Iv (AL (x+1)))) none none λb y z=>Au 2 l (.sl 2 b y z) λb=>Dd lo 54 2 48 (.sl 2 v o s) b l λv l=>eS 2 v λv o s=>br (decide (x>0)) (br (decide (x<(o:Int))) (AB (AL (x - 1)) o (eO v λb=>eO (ld l b.1 (b.2+((AL (x - (1:Int))).toNat)) 0 1) λb=>eC b λb y=>eS 6 b λb z u=>eN y (AB x o (eO v λy=>eO (ld l y.1 (y.2+x.toNat) 0 1) λy=>eC y λy w=>eS 6 y λy p q=>eN w (Al (Ai lo 195 [By b z u,By y p q] l) λb y=>eS 6 b λb z u=>AB (AL (x - 1)) o (eO v λw=>eO (st lo y w.1 (w.2+((AL (x - (1:Int))).toNat)) 1 (Cc b z u)) λb=>AB (AL ((o:Int) - 1)) o (eO v λy=>eO (st lo b y.1 (y.2+((AL ((o:Int) - (1:Int))).toNat)) 1 [.sl 0 none 0 (some 0)]) λb=>some ((Ap v o s),b)))))))) (AB (AL ((o:Int) - 1)) o (eO v λb=>eO (st lo l b.1 (b.2+((AL ((o:Int) - (1:Int))).toNat)) 1 [.sl 0 none 0 (some 0)]) λb=>some ((Ap v o s),b)))) (AB (AL ((o:Int) - 1)) o (eO v λb=>eO (st lo l b.1 (b.2+((AL ((o:Int) - (1:Int))).toNat)) 1 [.sl 0 none 0 (some 0)]) λl=>some ((Ap v o s),l))))=some r) :
  Ai lo 163 [Ap a n c,Iv x] h=some r :=
 eK Tryz.func163 hk
theorem Sc (hk:(AB (AL ((n:Int) - 1)) n (eO a λv=>eO (ld h v.1 (v.2+((AL ((n:Int) - (1:Int))).toNat)) 0 1) λv=>eC v λv l=>eS 6 v λv o s=>eN l (Al (Ai lo 196 [By v o s] h) λv l=>eA v λv=>eC v λv o=>eS 6 v λv s b=>eN o (Au 2 (l ++ [.rows 2 54 false [[.sl 6 v s b,.sl 0 none 0 (some 0)]]]) (.sl 2 (some (l.length,0)) 1 (some 1)) λo=>Dd lo 54 2 48 (.sl 2 a n c) o (l ++ [.rows 2 54 false [[.sl 6 v s b,.sl 0 none 0 (some 0)]]]) λv l=>eS 2 v λv o s=>some ((Ap v o s),l)))))=some r) :
  Ai lo 164 [Ap a n c] h=some r :=
 eK Tryz.func164 hk
theorem Oy (hk:(Al (Ai h.length 197 [BV y z a n c d k p b m u f,Iv x] h) λl o=>eI .i64 l λl=>br (decide (l>=0)) (Al (Ai h.length 198 [Ap a n c] o) λs w=>eB s (AB x m (eO b λs=>eO (ld w s.1 (s.2+x.toNat) 0 1) λs=>eC s λs q=>eN q (eS 6 s λs q g=>AB l q (eO s λs=>eO (ld w s.1 (s.2+l.toNat) 3 1) λl=>eC l λl s=>eS 2 l λl q g=>eN s (Al (Ai w.length 199 [Ap a n c] w) λs i=>eA s λs=>eC s λs j=>eS 2 s λs t e=>eN j (Al (Ai h.length 191 [Ap l q g,Ap s t e] i) λl s=>eB l (Cj s) (AN s))))))) (AN w)) (AN o))=some (v,h')) (hn:noId v=true:=by rfl) :
  Ai lo 165 [BV y z a n c d k p b m u f,Iv x] h=some (v,h) :=
 eD Tryz.func165 hk hn
theorem R5 (hk:(AB z n (eO a λv=>eO (ld h v.1 (v.2+z.toNat) 0 1) λv=>eC v λv l=>eN l (eS 6 v λv l o=>Al (Ai h.length 197 [BV x y b m c d k p a n u f,Iv z] h) λo s=>eI .i64 o λo=>AB o l (eO v λv=>eO (ld s v.1 (v.2+o.toNat) 0 6) λv=>eC v λv l=>eI .i64 v λv=>eC l λl o=>eI .i64 l λl=>eC o λo w=>eI .i64 o λo=>eC w λw q=>eS 2 w λw g i=>eC q λq j=>eT q λq=>eC j λj t=>eBv j λj=>eN t (br (decide (l>y)) (Al (Ai lo 193 [Ap b m c,Iv 0,AP v l o w g i q j] s) λt e=>eA t λt=>eC t λt A=>eS 2 t λt B C=>eN A (Al (Ai lo 161 [BV x l t B C d k p a n u f] e) λt e=>eA t λt=>eC t λt A=>eI .i64 t λt=>eC A λA B=>eI .i64 A λA=>eC B λB C=>eS 2 B λB D E=>eC C λC G=>eS 6 C λC H J=>eC G λG K=>eS 1 G λG L M=>eC K λK N=>eBv K λK=>eN N (some ((BV t A B D E C H J G L M K),e)))) (Al (Ai lo 193 [Ap b m c,Iv 0,AP v l o w g i q j] s) λv l=>eA v λv=>eC v λv o=>eS 2 v λv s w=>eN o (Al (Ai lo 161 [BV x y v s w d k p a n u f] l) λv l=>eA v λv=>eC v λv o=>eI .i64 v λv=>eC o λo s=>eI .i64 o λo=>eC s λs w=>eS 2 s λs q g=>eC w λw i=>eS 6 w λw j t=>eC i λi e=>eS 1 i λi A B=>eC e λe C=>eBv e λe=>eN C (some ((BV v o s q g w j t i A B e),l)))))))))=some r) :
  Ai lo 166 [BV x y b m c d k p a n u f,Iv z] h=some r :=
 eK Tryz.func166 hk
theorem Sf (hk:(Au 2 (h ++ [.rows 2 30 false []]) (.sl 2 a n c) λv=>Dd lo 30 2 16 (.sl 2 (some (h.length,0)) 0 (some 0)) v (h ++ [.rows 2 30 false []]) λv l=>eS 2 v λv o s=>some ((AP x y z v o s S f),l))=some r) :
  Ai lo 167 [AP x y z a n c S f] h=some r :=
 eK Tryz.func167 hk
theorem R8 {M q:Int}{e:Pq} (hk:(br (x==y) (some (.tup [BV y z b m c d k p a n u f,.bool false],h)) (AB x n (eO a λv=>eO (ld h v.1 (v.2+x.toNat) 0 1) λv=>eC v λv l=>eN l (eS 6 v λv v l=>br (t==(v:Int)) (br (decide (t>=60)) (some (.tup [BV y z b m c d k p a n u f,.bool false],h)) (AB x n (eO a λv=>eO (ld h v.1 (v.2+x.toNat) 0 1) λv=>eC v λv l=>eN l (eS 6 v λv l o=>Al (Ai lo 194 [.sl 6 v l o,Ay w q] h) λv l=>eB v (some (.tup [BV y z b m c d k p a n u f,.bool false],l)) (AB x n (eO a λv=>eO (ld l v.1 (v.2+x.toNat) 0 1) λv=>eC v λv o=>eN o (eS 6 v λv o g=>Al (Ai l.length 167 [AP M w q e i s S F] l) λl j=>eA l λl=>eC l λl A=>eI .i64 l λl=>eC A λA B=>eI .i64 A λA=>eC B λB C=>eI .i64 B λB=>eC C λC D=>eS 2 C λC E G=>eC D λD H=>eT D λD=>eC H λH J=>eBv H λH=>eN J (Au 6 (j ++ [.rows 6 49 false [DD l A B C E G D H]]) (.sl 6 (some (j.length,0)) 1 (some 1)) λJ=>Dd lo 49 6 72 (.sl 6 v o g) J (j ++ [.rows 6 49 false [DD l A B C E G D H]]) λv l=>eS 6 v λv o g=>AB x n (eO a λj=>eO (st lo l j.1 (j.2+x.toNat) 0 (Cc v o g)) λv=>some (.tup [BV y z b m c d k p a n u f,.bool true],v)))))))))) (some (.tup [BV y z b m c d k p a n u f,.bool false],h))))))=some r) :
  Ai lo 168 [BV y z b m c d k p a n u f,Iv x,Iv t,AP M w q e i s S F] h=some r :=
 eK Tryz.func168 hk
def DA lo S f x y h:=
 LA 169 Tryz.f169 22131 0 11 lo ⟨[(0,.str S),(2,.bool f),(5,Iv x),(6,Iv y)],[],h⟩
theorem Sq (hk:(DA h.length S false ((S.size:Int)) 0 h)=some (v,h')) (hn:noId v=true:=by rfl) :
  Ai lo 169 [.str S] h=some (v,h) :=
 eD Tryz.func169 hk hn
theorem DA.e :
  DA lo S f y x h=br (decide (x<y)) (eO (OR S x) λv=>Al (Ai lo 56 (CC (AL ((v.toNat:Int))) 33 126) h) λv l=>eB v (DA lo S f y (AL (x+1)) l) (AN l)) (br (decide ((S.size:Int)<=8)) (Cj h) (AN h)) :=
 lE
theorem Gp (hk:(br (decide (x<0)) none (br (decide (AL (x - AL (((0:Nat):Int) - ((0:Nat):Int)))>0)) (Aw none 0 (some 0) none (some (Iv 0)) none λv l c=>Bd (decide ((0:Int)<=AL (x - AL (((0:Nat):Int) - ((0:Nat):Int)))/\AL (x - AL (((0:Nat):Int) - ((0:Nat):Int)))*((72:Nat):Int)<=140737488355328)) (Dd lo 49 6 72 (.sl 6 v l c) (List.replicate ((AL (x - AL (((0:Nat):Int) - ((0:Nat):Int)))).toNat) [Iv 0,Iv 0,Iv 0,.sl 0 none 0 (some 0),.str ⟨⟨[]⟩⟩,.bool false]) h λv l=>eS 6 v λv c n=>Aw v c n none (some (Iv 0)) none λv c n=>some (.sl 6 v c n,l))) (some (.sl 0 none 0 (some 0),h))))=some r) :
  Ai lo 170 [.sl 0 none 0 (some 0),Iv x] h=some r :=
 eK Tryz.func170 hk
def HS lo x y z a n c b m p d k u f t w i e j s g A G C H B J D F q M a0 P c0 a1 n0 c1 n1 a2 n2 c2 b0 h:=
 LA 171 Tryz.f171 221311 0 111 lo ⟨[(1,.lp 1 0),(2,.lp 2 0),(3,.lp 3 0),(4,Iv x)],[(1,(D1 y z a n c b m p d k u f)),(2,[Iv t,Iv w,.sl i e j s,.sl g A G C,.sl H B J D,.bool F]),(3,[Iv q,Iv M,.sl 2 a0 P c0,.sl 6 a1 n0 c1,.sl n1 a2 n2 c2,.bool b0])],h⟩
theorem HS.e {lo g G n H J P n0 n1 n2 m k i j:Nat}{x t w q M y z:Int}{B a0 a a1 a2 a3 b d A:Pq}{s C D c0 c1 c2 c p u:Nq}{F b0 f:Bool}{h:Heap} :
  HS lo x t w B g s a0 G C a n D F q M H a1 J c0 P a2 n0 c1 n1 a3 n2 c2 b0 y z b m c d k p i A j u f h=br (decide (x<(n:Int))) (AB x n (eO a λv=>eO (ld h v.1 (v.2+x.toNat) 0 1) λv=>eC v λv l=>eN l (eS 6 v λv l o=>Al (Ai lo 201 (Cc v l o) h) λv l=>eS 6 v λv o e=>Au 1 (l ++ [.rows 1 50 false [Cc v o e]]) (.sl 1 (some (l.length,0)) 1 (some 1)) λE=>Dd lo 50 1 24 (.sl i A j u) E (l ++ [.rows 1 50 false [Cc v o e]]) λv l=>eS 1 v λv o e=>HS lo (AL (x+1)) t w B g s a0 G C a n D F q M H a1 J c0 P a2 n0 c1 n1 a3 n2 c2 b0 y z b m c d k p 1 v o e f l))) (some (.agg [Iv y,Iv z,.sl 2 b m c,.sl 6 d k p,.sl i A j u,.bool f],h)) :=
 lE
theorem PB (hk:(Al (Ai lo 33 [BU m k i,Iv (n:Int)] h) λv l=>eI .i64 v λv=>AB v n (eO a λo=>eO (ld l o.1 (o.2+v.toNat) 0 1) λv=>eC v λv o=>eN o (eT v λv=>some (.str v,l))))=some r) :
  Ai lo 172 [BU m k i,.sl 1 a n c] h=some r :=
 eK Tryz.func172 hk
theorem NK (hk:(eO (ld h n m (k+0) 1) λl=>eC l λl c=>eN c (eS 2 l λl c a=>AB x c (eO l λl=>eO (ld h l.1 (l.2+x.toNat) 1 1) λl=>eC l λl c=>eN c (eS 6 l λl l c=>br (decide ((l:Int)>=6)) (Cj h) (AN h)))))=some (v,h')) (hn:noId v=true:=by rfl) :
  Ai lo 173 [BU n m k,Iv x] h=some (v,h) :=
 eD Tryz.func173 hk hn
theorem Gq (hk:(Aw a (EP h a n c) c (some (Iv x)) (some (Iv y)) (some (Iv (n:Int))) λv v v=>br (x==y) (some (.sl 6 a n c,h)) (Aw a n c none (some (Iv x)) none λv l o=>Aw a n c (some (Iv y)) none none λs b z=>Au 6 h (.sl 6 s b z) λs=>Dd lo 49 6 72 (.sl 6 v l o) s h λv l=>eS 6 v λv o s=>Aw v (EP l v o s) s (some (Iv (o:Int))) (some (Iv (n:Int))) none λb z u=>Y7 lo 6 6 true [Iv 0,Iv 0,Iv 0,.sl 0 none 0 (some 0),.str ⟨⟨[]⟩⟩,.bool false] l b z λl=>some (.sl 6 v o s,l)))=some r) :
  Ai lo 174 [.sl 6 a n c,Iv x,Iv y] h=some r :=
 eK Tryz.func174 hk
theorem Mr (hk:(eO (ld h m k (i+0) 1) λv=>eC v λv l=>eN l (eS 2 v λv l o=>AB x l (eO v λv=>eO (ld h v.1 (v.2+x.toNat) 0 1) λl=>eC l λl o=>eS 6 l λl s b=>eN o (Al (Ai lo 130 [By l s b,AP y z t a n c S f] h) λl o=>eB l (eO (ld o v.1 (v.2+x.toNat) 0 1) λl=>eC l λl s=>eN s (eS 6 l λl s b=>Al (Ai o.length 73 [AP y z t a n c S f] o) λb u=>eA b λb=>eC b λb w=>eI .i64 b λb=>eC w λw p=>eI .i64 w λw=>eC p λp q=>eI .i64 p λp=>eC q λq g=>eS 2 q λq j d=>eC g λg e=>eT g λg=>eC e λe A=>eBv e λe=>eN A (AB y s (eO l λl=>eO (st lo u l.1 (l.2+y.toNat) 0 (DD b w p q j d g e)) λl=>eO (ld l m k i 1) λs=>eC s λs b=>eS 2 s λs u w=>eN b (Al (Ai lo 83 [Ap s u w,Iv x] l) λl s=>eB l (some (.tup [],s)) (eO (ld s v.1 (v.2+x.toNat) 1 1) λl=>eC l λl b=>eN b (eS 6 l λl b u=>Al (Ai s.length 73 [AP y z t a n c S f] s) λs w=>eA s λs=>eC s λs p=>eI .i64 s λs=>eC p λp q=>eI .i64 p λp=>eC q λq g=>eI .i64 q λq=>eC g λg j=>eS 2 g λg d e=>eC j λj A=>eT j λj=>eC A λA B=>eBv A λA=>eN B (Au 6 (w ++ [.rows 6 49 false [DD s p q g d e j A]]) (.sl 6 (some (w.length,0)) 1 (some 1)) λB=>Dd lo 49 6 72 (.sl 6 l b u) B (w ++ [.rows 6 49 false [DD s p q g d e j A]]) λl s=>eS 6 l λl b u=>Al (Ai lo 153 (Cc l b u) s) λl s=>eS 6 l λl b u=>eO (st lo s v.1 (v.2+x.toNat) 1 (Cc l b u)) λv=>some (.tup [],v))))))))) (some (.tup [],o))))))=some r) :
  Ai lo 175 [BU m k i,Iv x,AP y z t a n c S f] h=some r :=
 eK Tryz.func175 hk
theorem EJ (hk:(Al (Ai h.length 202 [.sl 2 a n c,.fn m l] h) λo s=>eI .i64 o λo=>br (decide (o>=0)) (Cj s) (AN s))=some (v,h')) (hn:noId v=true:=by rfl) :
  Ai lo 176 [.sl 2 a n c,.fn m l] h=some (v,h) :=
 eD Tryz.func176 hk hn
theorem Ki (hk:(br (decide ((n:Int)>0)) (Cj h) (AN h))=some (v,h')) (hn:noId v=true:=by rfl) :
  Ai lo 177 [Vo a m c b n p] h=some (v,h) :=
 eD Tryz.func177 hk hn
theorem FK (hk:(Aw a (EP h a n c) c (some (Iv x)) (some (Iv y)) (some (Iv (n:Int))) λv v v=>br (x==y) (some (.sl 2 a n c,h)) (Aw a n c none (some (Iv x)) none λv l o=>Aw a n c (some (Iv y)) none none λs b z=>Au 2 h (.sl 2 s b z) λs=>Dd lo 54 2 48 (.sl 2 v l o) s h λv l=>eS 2 v λv o s=>Aw v (EP l v o s) s (some (Iv (o:Int))) (some (Iv (n:Int))) none λb z u=>Y7 lo 2 2 true [.sl 0 none 0 (some 0),.sl 0 none 0 (some 0)] l b z λl=>some (.sl 2 v o s,l)))=some r) :
  Ai lo 178 [.sl 2 a n c,Iv x,Iv y] h=some r :=
 eK Tryz.func178 hk
theorem FJ (hk:(Al (Ai lo 204 [.int .u64 (IntKind.wrap .u64 (n:Int))] h) λv o=>eI .i64 v λv=>Al (Ai lo 203 [.sl 6 a n c,Iv 0,Iv (n:Int),Iv v,.fn m l] o) λv o=>eU v λv=>eN v (some (.tup [],o)))=some r) :
  Ai lo 179 [.sl 6 a n c,.fn m l] h=some r :=
 eK Tryz.func179 hk
theorem LD {q:Int}{s0:ByteArray} (hk:(Al (Ai h.length 43 [Ay y z,Ay w q] h) λl o=>eI .i64 l λl=>Al (Ai h.length 78 (BI t x) o) λo s=>eI .i64 o λo=>Al (Ai h.length 77 [.sl 1 (some (s.length,0)) 2 (some 2)] (s ++ [.rows 1 3 false [AW l,AW o]])) λl o=>eI .i64 l λl=>some (Iv l,o))=some (v,h')) (hn:noId v=true:=by rfl) :
  Ai lo 180 [AP x y z a n c S f,AP t w q b m p s0 F] h=some (v,h) :=
 eD Tryz.func180 hk hn
theorem PH (hk:(eO (ld h n 0 0 2) λl=>eC l λl o=>eI .i64 l λl=>eC o λo s=>eI .i64 o λo=>eN s (br ((x==l)&&((y==o)&&true)) (Cj h) (AN h)))=some (v,h')) (hn:noId v=true:=by rfl) :
  Ai lo 181 [AP z x y a m c S f,BU n 0 0] h=some (v,h) :=
 eD Tryz.func181 hk hn
theorem Ur (hk:(some ((By (some (h.length,0)) 4 (some 4)),(h ++ [.rows 6 49 false [[Iv 0,Iv 0,Iv 0,.sl 0 none 0 (some 0),.str ⟨⟨[]⟩⟩,.bool false],[Iv 0,Iv 0,Iv 0,.sl 0 none 0 (some 0),.str ⟨⟨[]⟩⟩,.bool false],[Iv 0,Iv 0,Iv 0,.sl 0 none 0 (some 0),.str ⟨⟨[]⟩⟩,.bool false],[Iv 0,Iv 0,Iv 0,.sl 0 none 0 (some 0),.str ⟨⟨[]⟩⟩,.bool false]]])))=some r) :
  Ai lo 182 [] h=some r :=
 eK Tryz.func182 hk
def CH lo S f x h:=
 LA 183 Tryz.f183 22131 0 11 lo ⟨[(0,.str S),(2,.bool f),(3,Iv x)],[],h⟩
theorem PA (hk:(CH h.length S false 0 h)=some (v,h')) (hn:noId v=true:=by rfl) :
  Ai lo 183 [.str S] h=some (v,h) :=
 eD Tryz.func183 hk hn
theorem CH.e :
  CH lo S f x h=br (decide (x<(S.size:Int))) (eO (OR S x) λv=>br (decide ((v.toNat:Int)<33)) (AN h) (eO (OR S x) λv=>br (decide ((v.toNat:Int)>126)) (AN h) (CH lo S f (AL (x+1)) h))) (br (decide ((S.size:Int)<=8)) (Cj h) (AN h)) :=
 lE
theorem Uo {e:Pq} (hk:(Al (Ai h.length 199 [Ap a n c] h) λl o=>eA l λl=>eC l λl z=>eS 2 l λl w q=>eN z (Al (Ai h.length 191 [Ap b k p,Ap l w q] o) λl o=>eB l (Al (Ai h.length 198 [Ap a n c] o) λl z=>eB l (Al (Ai h.length 205 [BV x y a n c d m u e i s f,Ap b k p] z) λl w=>eI .i64 l λl=>br (decide (l<=999)) (br (decide ((m:Int)<36)) (Cj w) (AN w)) (AN w)) (AN z)) (AN o)))=some (v,h')) (hn:noId v=true:=by rfl) :
  Ai lo 184 [BV x y a n c d m u e i s f,Ap b k p] h=some (v,h) :=
 eD Tryz.func184 hk hn
theorem Rm {e:Pq} (hk:(Al (Ai h.length 205 [BV x y a n c b m p d k u f,Ap e i s] h) λv l=>eI .i64 v λv=>Au 2 (l ++ [.rows 2 30 false []]) (.sl 2 e i s) λo=>Dd (List.length (l ++ [.rows 2 30 false []])) 30 2 16 (.sl 2 (some (l.length,0)) 0 (some 0)) o (l ++ [.rows 2 30 false []]) λl o=>eS 2 l λl w q=>Al (Ai lo 193 [Ap a n c,Iv 0,AP z v x l w q S F] o) λl o=>eA l λl=>eC l λl w=>eS 2 l λl q g=>eN w (Al (Ai lo 161 [BV x v l q g b m p d k u f] o) λl o=>eA l λl=>eC l λl w=>eI .i64 l λl=>eC w λw q=>eI .i64 w λw=>eC q λq g=>eS 2 q λq j t=>eC g λg A=>eS 6 g λg B C=>eC A λA D=>eS 1 A λA E G=>eC D λD H=>eBv D λD=>eN H (some (.tup [BV l w q j t g B C A E G D,Ay v x],o))))=some r) :
  Ai lo 185 [BV x y a n c b m p d k u f,Iv z,.str S,.bool F,Ap e i s] h=some r :=
 eK Tryz.func185 hk
theorem R4 {e:Pq} (hk:(Au 5 (h ++ [.rows 5 32 false [Pm x y z t w]]) (.sl 5 (some (h.length,0)) 1 (some 1)) λv=>Dd lo 32 5 40 (.sl 5 e i s) v (h ++ [.rows 5 32 false [Pm x y z t w]]) λv l=>eS 5 v λv o q=>some ((At a n c b m p d k u v o q),l))=some r) :
  Ai lo 186 [At a n c b m p d k u e i s,Iv x,Iv y,Iv z,Ay t w] h=some r :=
 eK Tryz.func186 hk
theorem Ro (hk:(br (y==0) (br (decide ((n:Int)>1)) (AB 1 n (eO a λv=>eO (ld h v.1 (v.2+1) 0 1) λv=>eC v λv l=>eN l (eS 6 v λv l o=>AB x l (eO v λv=>eO (ld h v.1 (v.2+x.toNat) 0 6) λv=>eC v λv l=>eI .i64 v λv=>eC l λl o=>eI .i64 l λl=>eC o λo s=>eI .i64 o λo=>eC s λs b=>eS 2 s λs z u=>eC b λb w=>eT b λb=>eC w λw p=>eBv w λw=>eN p (Al (Ai lo 167 [AP v l o s z u b w] h) λv l=>eA v λv=>eC v λv o=>eI .i64 v λv=>eC o λo s=>eI .i64 o λo=>eC s λs b=>eI .i64 s λs=>eC b λb z=>eS 2 b λb u w=>eC z λz p=>eT z λz=>eC p λp q=>eBv p λp=>eN q (some ((AP v o s b u w z p),l))))))) (AB y n (eO a λv=>eO (ld h v.1 (v.2+y.toNat) 0 1) λv=>eC v λv l=>eN l (eS 6 v λv l o=>AB x l (eO v λv=>eO (ld h v.1 (v.2+x.toNat) 0 6) λv=>eC v λv l=>eI .i64 v λv=>eC l λl o=>eI .i64 l λl=>eC o λo s=>eI .i64 o λo=>eC s λs b=>eS 2 s λs z u=>eC b λb w=>eT b λb=>eC w λw p=>eBv w λw=>eN p (Al (Ai lo 167 [AP v l o s z u b w] h) λv l=>eA v λv=>eC v λv o=>eI .i64 v λv=>eC o λo s=>eI .i64 o λo=>eC s λs b=>eI .i64 s λs=>eC b λb z=>eS 2 b λb u w=>eC z λz p=>eT z λz=>eC p λp q=>eBv p λp=>eN q (some ((AP v o s b u w z p),l)))))))) (AB y n (eO a λv=>eO (ld h v.1 (v.2+y.toNat) 0 1) λv=>eC v λv l=>eN l (eS 6 v λv l o=>AB x l (eO v λv=>eO (ld h v.1 (v.2+x.toNat) 0 6) λv=>eC v λv l=>eI .i64 v λv=>eC l λl o=>eI .i64 l λl=>eC o λo s=>eI .i64 o λo=>eC s λs b=>eS 2 s λs z u=>eC b λb w=>eT b λb=>eC w λw p=>eBv w λw=>eN p (Al (Ai lo 167 [AP v l o s z u b w] h) λv l=>eA v λv=>eC v λv o=>eI .i64 v λv=>eC o λo s=>eI .i64 o λo=>eC s λs b=>eI .i64 s λs=>eC b λb z=>eS 2 b λb u w=>eC z λz p=>eT z λz=>eC p λp q=>eBv p λp=>eN q (some ((AP v o s b u w z p),l))))))))=some r) :
  Ai lo 187 [Ap a n c,Iv y,Iv x] h=some r :=
 eK Tryz.func187 hk
theorem Sj (hk:(br (decide (x<y)) (Cj h) (br (x==y) (br (decide (z<t)) (Cj h) (AN h)) (AN h)))=some (v,h')) (hn:noId v=true:=by rfl) :
  Ai lo 188 [Ay x z,Ay y t] h=some (v,h) :=
 eD Tryz.func188 hk hn
theorem Sg (hk:(Au 2 (h ++ [.rows 2 30 false []]) (.sl 2 a n c) λv=>Dd lo 30 2 16 (.sl 2 (some (h.length,0)) 0 (some 0)) v (h ++ [.rows 2 30 false []]) λv l=>eS 2 v λv o s=>AB x o (eO v λb=>eO (ld l b.1 (b.2+x.toNat) 0 2) λb=>eC b λb u=>eI .i64 b λb=>eC u λu w=>eI .i64 u λu=>eN w (Al (Ai lo 206 [Ay b u,Ay y z] l) λl b=>eA l λl=>eC l λl u=>eI .i64 l λl=>eC u λu w=>eI .i64 u λu=>eN w (AB x o (eO v λw=>eO (st lo b w.1 (w.2+x.toNat) 0 (BI l u)) λl=>some ((Ap v o s),l))))))=some r) :
  Ai lo 189 [Ap a n c,Iv x,Ay y z] h=some r :=
 eK Tryz.func189 hk
def Dw lo x a n c b m p k d i u j e g s h:=
 LA 190 Tryz.f190 221311 0 111 lo ⟨[(2,.lp 2 0),(3,.lp 3 0),(4,.lp 4 0),(5,.lp 5 0),(6,Iv x)],[(2,(Co a n c)),(3,(Co b m p)),(4,[.sl k d i u]),(5,[.sl j e g s])],h⟩
theorem Sk (hk:(Dw lo 0 a n c b m p 0 none 0 (some 0) 0 none 0 (some 0) h)=some r) :
  Ai lo 190 [Ap a n c,Ap b m p] h=some r :=
 eK Tryz.func190 hk
theorem Dw.e :
  Dw lo x a n p b m u j A g s k d i c h=br (decide (x<4)) (AB x n (eO a λv=>eO (ld h v.1 (v.2+x.toNat) 0 2) λv=>eC v λv l=>eI .i64 v λv=>eC l λl o=>eI .i64 l λl=>eN o (AB x m (eO b λo=>eO (ld h o.1 (o.2+x.toNat) 0 2) λo=>eC o λo y=>eI .i64 o λo=>eC y λy z=>eI .i64 y λy=>eN z (Al (Ai lo 206 [Ay v l,Ay o y] h) λv l=>eA v λv=>eC v λv o=>eI .i64 v λv=>eC o λo y=>eI .i64 o λo=>eN y (Au 2 (l ++ [.rows 2 30 false [BI v o]]) (.sl 2 (some (l.length,0)) 1 (some 1)) λy=>Dd lo 30 2 16 (.sl k d i c) y (l ++ [.rows 2 30 false [BI v o]]) λv l=>eS 2 v λv o y=>Dw lo (AL (x+1)) a n p b m u j A g s 2 v o y l)))))) (some (.agg [.sl k d i c],h)) :=
 lE
def CI lo f x a n c b m p h:=
 LA 191 Tryz.f191 22131 0 11 lo ⟨[(2,.lp 2 0),(3,.lp 3 0),(4,.bool f),(5,Iv x)],[(2,(Co a n c)),(3,(Co b m p))],h⟩
theorem PD (hk:(CI h.length false 0 a n c b m p h)=some (v,h')) (hn:noId v=true:=by rfl) :
  Ai lo 191 [Ap a n c,Ap b m p] h=some (v,h) :=
 eD Tryz.func191 hk hn
theorem CI.e :
  CI lo f x a n c b m p h=br (decide (x<4)) (AB x m (eO b λv=>eO (ld h v.1 (v.2+x.toNat) 0 2) λv=>eC v λv l=>eI .i64 v λv=>eC l λl o=>eI .i64 l λl=>eN o (AB x n (eO a λo=>eO (ld h o.1 (o.2+x.toNat) 0 2) λo=>eC o λo s=>eI .i64 o λo=>eC s λs y=>eI .i64 s λs=>eN y (Al (Ai lo 188 [Ay v l,Ay o s] h) λv l=>eB v (AN l) (CI lo f (AL (x+1)) a n c b m p l)))))) (Cj h) :=
 lE
def Dv lo x a n c m b k p i d j u h:=
 LA 192 Tryz.f192 221311 0 111 lo ⟨[(1,.lp 1 0),(2,.lp 2 0),(3,.lp 3 0),(4,Iv x)],[(1,(Cc a n c)),(2,[.sl m b k p]),(3,[.sl i d j u])],h⟩
theorem Se (hk:(Dv lo 0 a n c 0 none 0 (some 0) 0 none 0 (some 0) h)=some r) :
  Ai lo 192 [By a n c] h=some r :=
 eK Tryz.func192 hk
theorem Dv.e :
  Dv lo x a n p i d j u m b k c h=br (decide (x<(n:Int))) (AB x n (eO a λv=>eO (ld h v.1 (v.2+x.toNat) 1 2) λv=>eC v λv l=>eI .i64 v λv=>eC l λl o=>eI .i64 l λl=>eN o (Au 2 (h ++ [.rows 2 30 false [BI v l]]) (.sl 2 (some (h.length,0)) 1 (some 1)) λo=>Dd lo 30 2 16 (.sl m b k c) o (h ++ [.rows 2 30 false [BI v l]]) λv l=>eS 2 v λv o s=>Dv lo (AL (x+1)) a n p i d j u 2 v o s l))) (some (.agg [.sl m b k c],h)) :=
 lE
theorem Uq (hk:(AB x n (eO a λv=>eO (ld h v.1 (v.2+x.toNat) 0 1) λv=>eC v λv l=>eN l (eS 6 v λv l o=>AB y l (eO v λv=>eO (ld h v.1 (v.2+y.toNat) 1 2) λv=>eC v λv l=>eI .i64 v λv=>eC l λl o=>eI .i64 l λl=>eN o (Al (Ai lo 188 [Ay v l,Ay z t] h) λv l=>eB v (AB x n (eO a λv=>eO (ld l v.1 (v.2+x.toNat) 0 1) λv=>eC v λv o=>eS 6 v λv s u=>eN o (Al (Ai lo 207 [By v s u,AP y z t b m p S f] l) λv o=>eA v λv=>eC v λv s=>eS 6 v λv u w=>eN s (AB x n (eO a λs=>eO (st lo o s.1 (s.2+x.toNat) 0 (Cc v u w)) λv=>br (decide (x<AL ((n:Int) - (1:Int)))) (AB x n (eO a λo=>eO (ld v o.1 (o.2+x.toNat) 1 1) λo=>eC o λo s=>eN s (eS 6 o λo s u=>Al (Ai v.length 167 [AP y z t b m p S f] v) λw q=>eA w λw=>eC w λw g=>eI .i64 w λw=>eC g λg i=>eI .i64 g λg=>eC i λi j=>eI .i64 i λi=>eC j λj k=>eS 2 j λj d e=>eC k λk A=>eT k λk=>eC A λA B=>eBv A λA=>eN B (Au 6 (q ++ [.rows 6 49 false [DD w g i j d e k A]]) (.sl 6 (some (q.length,0)) 1 (some 1)) λB=>Dd lo 49 6 72 (.sl 6 o s u) B (q ++ [.rows 6 49 false [DD w g i j d e k A]]) λo s=>eS 6 o λo u w=>AB x n (eO a λq=>eO (st lo s q.1 (q.2+x.toNat) 1 (Cc o u w)) λo=>some ((Ap a n c),o)))))) (some ((Ap a n c),v))))))) (some ((Ap a n c),l)))))))=some r) :
  Ai lo 193 [Ap a n c,Iv x,AP y z t b m p S f] h=some r :=
 eK Tryz.func193 hk
def CG lo a n c f x y z h:=
 LA 194 Tryz.f194 22131 0 11 lo ⟨[(0,.sl 6 a n c),(3,.lp 3 0),(4,.bool f),(5,Iv x)],[(3,(BI y z))],h⟩
theorem Py (hk:(CG h.length a n c false 0 x y h)=some (v,h')) (hn:noId v=true:=by rfl) :
  Ai lo 194 [.sl 6 a n c,Ay x y] h=some (v,h) :=
 eD Tryz.func194 hk hn
theorem CG.e :
  CG lo a n c f x y z h=br (decide (x<(n:Int))) (AB x n (eO a λv=>eO (ld h v.1 (v.2+x.toNat) 1 2) λv=>eC v λv l=>eI .i64 v λv=>eC l λl o=>eI .i64 l λl=>eN o (br ((v==y)&&((l==z)&&true)) (Cj h) (CG lo a n c f (AL (x+1)) y z h)))) (AN h) :=
 lE
def B4 lo a n c x b m p d k u h:=
 LA 195 Tryz.f195 221311 0 111 lo ⟨[(2,.lp 2 0),(3,.lp 3 0),(5,.sl 6 a n c),(6,Iv x)],[(2,(Cc b m p)),(3,(Cc d k u))],h⟩
def Du lo a n c x y b m p d k u h:=
 Lp (X 195) lo (pf 22311231221311 Tryz.f195) 2 (CE 2 (kS (X 195) lo (pf 111231221311 Tryz.f195) 1 (CE 1 (kS (X 195) lo (pf 11221311 Tryz.f195) 0 (zaU (X 195) lo (pf 221311 Tryz.f195) 0 (CE 0 (kS (X 195) lo (pf 111 Tryz.f195) 0 (MS (X 195) Tryz.f195.results.toList)))))))) ⟨[(2,.lp 2 0),(3,.lp 3 0),(5,.sl 6 a n c),(6,Iv x),(7,Iv y)],[(2,(Cc b m p)),(3,(Cc d k u))],h⟩
theorem Sb (hk:(B4 lo (some (h.length,0)) 0 (some 0) 0 a n c b m p (h ++ [.rows 6 49 false []]))=some r) :
  Ai lo 195 [By a n c,By b m p] h=some r :=
 eK Tryz.func195 hk
theorem B4.e :
  B4 lo a n c x b m p d k u h=br (decide (x<4)) (AB x k (eO d λv=>eO (ld h v.1 (v.2+x.toNat) 1 2) λv=>eC v λv l=>eI .i64 v λv=>eC l λl o=>eI .i64 l λl=>eN o (AB x m (eO b λo=>eO (ld h o.1 (o.2+x.toNat) 1 2) λo=>eC o λo s=>eI .i64 o λo=>eC s λs y=>eI .i64 s λs=>eN y (Al (Ai lo 188 [Ay v l,Ay o s] h) λv l=>eB v (Du lo a n c x 0 b m p d k u l) (B4 lo a n c (AL (x+1)) b m p d k u l)))))) (some (.sl 6 a n c,h)) :=
 lE
theorem Du.e {lo n m k:Nat}{a b d:Pq}{c p u:Nq}{x y:Int}{h:Heap} :
  Du lo a n c x y b m p d k u h=br (decide (y<(n:Int))) (AB y n (eO a λv=>eO (ld h v.1 (v.2+y.toNat) 1 2) λv=>eC v λv l=>eI .i64 v λv=>eC l λl o=>eI .i64 l λl=>eN o (AB x m (eO b λo=>eO (ld h o.1 (o.2+x.toNat) 1 2) λo=>eC o λo s=>eI .i64 o λo=>eC s λs z=>eI .i64 s λs=>eN z (Al (Ai lo 188 [Ay v l,Ay o s] h) λv l=>eB v (Du lo a n c x (AL (y+1)) b m p d k u l) (Aw a n c none (some (Iv y)) none λv o s=>Au 6 (l ++ [.rows 6 49 false []]) (.sl 6 v o s) λv=>Dd lo 49 6 72 (.sl 6 (some (l.length,0)) 0 (some 0)) v (l ++ [.rows 6 49 false []]) λv l=>eS 6 v λv o s=>AB x m (eO b λz=>eO (ld l z.1 (z.2+x.toNat) 0 6) λz=>eC z λz w=>eI .i64 z λz=>eC w λw q=>eI .i64 w λw=>eC q λq g=>eI .i64 q λq=>eC g λg i=>eS 2 g λg j t=>eC i λi e=>eT i λi=>eC e λe f=>eBv e λe=>eN f (Al (Ai lo 167 [AP z w q g j t i e] l) λl z=>eA l λl=>eC l λl w=>eI .i64 l λl=>eC w λw q=>eI .i64 w λw=>eC q λq g=>eI .i64 q λq=>eC g λg i=>eS 2 g λg j t=>eC i λi e=>eT i λi=>eC e λe f=>eBv e λe=>eN f (Au 6 (z ++ [.rows 6 49 false [DD l w q g j t i e]]) (.sl 6 (some (z.length,0)) 1 (some 1)) λf=>Dd lo 49 6 72 (.sl 6 v o s) f (z ++ [.rows 6 49 false [DD l w q g j t i e]]) λv l=>eS 6 v λv o s=>Aw a n c (some (Iv y)) none none λz w q=>Au 6 l (.sl 6 z w q) λz=>Dd lo 49 6 72 (.sl 6 v o s) z l λv l=>eS 6 v λv o s=>B4 lo v o s (AL (x+1)) b m p d k u l))))))))) (Aw a n c none (some (Iv y)) none λv l o=>Au 6 (h ++ [.rows 6 49 false []]) (.sl 6 v l o) λv=>Dd lo 49 6 72 (.sl 6 (some (h.length,0)) 0 (some 0)) v (h ++ [.rows 6 49 false []]) λv l=>eS 6 v λv o s=>AB x m (eO b λz=>eO (ld l z.1 (z.2+x.toNat) 0 6) λz=>eC z λz w=>eI .i64 z λz=>eC w λw q=>eI .i64 w λw=>eC q λq g=>eI .i64 q λq=>eC g λg i=>eS 2 g λg j t=>eC i λi e=>eT i λi=>eC e λe f=>eBv e λe=>eN f (Al (Ai lo 167 [AP z w q g j t i e] l) λl z=>eA l λl=>eC l λl w=>eI .i64 l λl=>eC w λw q=>eI .i64 w λw=>eC q λq g=>eI .i64 q λq=>eC g λg i=>eS 2 g λg j t=>eC i λi e=>eT i λi=>eC e λe f=>eBv e λe=>eN f (Au 6 (z ++ [.rows 6 49 false [DD l w q g j t i e]]) (.sl 6 (some (z.length,0)) 1 (some 1)) λf=>Dd lo 49 6 72 (.sl 6 v o s) f (z ++ [.rows 6 49 false [DD l w q g j t i e]]) λv l=>eS 6 v λv o s=>Aw a n c (some (Iv y)) none none λz w q=>Au 6 l (.sl 6 z w q) λz=>Dd lo 49 6 72 (.sl 6 v o s) z l λv l=>eS 6 v λv o s=>B4 lo v o s (AL (x+1)) b m p d k u l)))) :=
 lE
def Bz lo x a n c m b k p i d j u h:=
 LA 196 Tryz.f196 221311 0 111 lo ⟨[(1,.lp 1 0),(2,.lp 2 0),(3,.lp 3 0),(4,Iv x)],[(1,(Cc a n c)),(2,[.sl m b k p]),(3,[.sl i d j u])],h⟩
theorem IM (hk:(Bz lo 0 a n c 0 none 0 (some 0) 0 none 0 (some 0) h)=some r) :
  Ai lo 196 [By a n c] h=some r :=
 eK Tryz.func196 hk
theorem Bz.e :
  Bz lo x a n p i d j u m b k c h=br (decide (x<(n:Int))) (AB x n (eO a λv=>eO (ld h v.1 (v.2+x.toNat) 0 6) λv=>eC v λv l=>eI .i64 v λv=>eC l λl o=>eI .i64 l λl=>eC o λo s=>eI .i64 o λo=>eC s λs y=>eS 2 s λs z w=>eC y λy q=>eT y λy=>eC q λq g=>eBv q λq=>eN g (Al (Ai lo 167 [AP v l o s z w y q] h) λv l=>eA v λv=>eC v λv o=>eI .i64 v λv=>eC o λo s=>eI .i64 o λo=>eC s λs y=>eI .i64 s λs=>eC y λy z=>eS 2 y λy w q=>eC z λz g=>eT z λz=>eC g λg t=>eBv g λg=>eN t (Au 6 (l ++ [.rows 6 49 false [DD v o s y w q z g]]) (.sl 6 (some (l.length,0)) 1 (some 1)) λt=>Dd lo 49 6 72 (.sl m b k c) t (l ++ [.rows 6 49 false [DD v o s y w q z g]]) λv l=>eS 6 v λv o s=>Bz lo (AL (x+1)) a n p i d j u 6 v o s l)))) (some (.agg [.sl m b k c],h)) :=
 lE
def CX lo x y z t w a n c b m p d k u f e i s h:=
 LA 197 Tryz.f197 221311 0 111 lo ⟨[(1,Iv x),(2,.lp 2 0),(4,Iv y),(5,.lp 5 0),(6,Iv z)],[(2,(D1 t w a n c b m p d k u f)),(5,(Cc e i s))],h⟩
theorem Rn (hk:(AB 0 n (eO a λl=>eO (ld h l.1 (l.2+0) 0 1) λl=>eC l λl o=>eS 6 l λl s w=>eN o (CX h.length z 0 0 x y a n c b m p d k u f l s w h)))=some (v,h')) (hn:noId v=true:=by rfl) :
  Ai lo 197 [BV x y a n c b m p d k u f,Iv z] h=some (v,h) :=
 eD Tryz.func197 hk hn
theorem CX.e :
  CX lo x z y t w d k c A i p a n u f b m s h=AB x n (eO a λv=>eO (ld h v.1 (v.2+x.toNat) 0 1) λv=>eC v λv l=>eN l (eS 6 v λv v l=>br (decide (y<(v:Int))) (AB x n (eO a λv=>eO (ld h v.1 (v.2+x.toNat) 0 1) λv=>eC v λv l=>eN l (eS 6 v λv l o=>AB y l (eO v λv=>eO (ld h v.1 (v.2+y.toNat) 0 6) λv=>eC v λv l=>eI .i64 v λv=>eC l λl o=>eI .i64 l λl=>eC o λo q=>eI .i64 o λo=>eC q λq g=>eS 2 q λq q q=>eC g λq g=>eT q λq=>eC g λq g=>eBv q λq=>eN g (AB v m (eO b λq=>eO (ld h q.1 (q.2+v.toNat) 1 2) λv=>eC v λv q=>eI .i64 v λv=>eC q λq g=>eI .i64 q λq=>eN g (Al (Ai lo 188 [Ay v q,Ay l o] h) λv l=>eB v (some (Iv y,l)) (CX lo x z (AL (y+1)) t w d k c A i p a n u f b m s l)))))))) (some (Iv (-1),h)))) :=
 lE
theorem R9 (hk:(AB 0 n (eO a λl=>eO (ld h l.1 (l.2+0) 1 1) λl=>eC l λl o=>eN o (eS 6 l λl l o=>br (decide ((l:Int)<6)) (Cj h) (AN h))))=some (v,h')) (hn:noId v=true:=by rfl) :
  Ai lo 198 [Ap a n c] h=some (v,h) :=
 eD Tryz.func198 hk hn
theorem Pz (hk:(AB (AL ((n:Int) - 1)) n (eO a λv=>eO (ld h v.1 (v.2+((AL ((n:Int) - (1:Int))).toNat)) 0 1) λv=>eC v λv l=>eS 6 v λv o s=>eN l (Al (Ai lo 192 [By v o s] h) λv l=>eA v λv=>eC v λv o=>eS 2 v λv s b=>eN o (some ((Ap v s b),l)))))=some r) :
  Ai lo 199 [Ap a n c] h=some r :=
 eK Tryz.func199 hk
def HT lo x a n c m b k p i d j u h:=
 LA 200 Tryz.f200 221311 0 111 lo ⟨[(1,.lp 1 0),(2,.lp 2 0),(3,.lp 3 0),(4,Iv x)],[(1,(Co a n c)),(2,[.sl m b k p]),(3,[.sl i d j u])],h⟩
def FQ lo x y a n c m b k p i d j u e g s G A H C h:=
 Lp (X 200) lo (pf 22131231221311 Tryz.f200) 2 (CE 2 (kS (X 200) lo (pf 11231221311 Tryz.f200) 1 (CE 1 (kS (X 200) lo (pf 11221311 Tryz.f200) 0 (zaU (X 200) lo (pf 221311 Tryz.f200) 0 (CE 0 (kS (X 200) lo (pf 111 Tryz.f200) 0 (MS (X 200) Tryz.f200.results.toList)))))))) ⟨[(1,.lp 1 0),(2,.lp 2 0),(3,.lp 3 0),(4,Iv x),(5,.lp 5 0),(6,Iv y)],[(1,(Co a n c)),(2,[.sl m b k p]),(3,[.sl i d j u]),(5,[.sl 6 e g s,.sl G A H C])],h⟩
theorem HT.e :
  HT lo x a n p i d j u m b k c h=br (decide (x<(n:Int))) (AB x n (eO a λv=>eO (ld h v.1 (v.2+x.toNat) 0 1) λv=>eC v λv l=>eS 6 v λv o s=>eN l (Al (Ai lo 196 [By v o s] h) λv l=>eA v λv=>eC v λv o=>eS 6 v λv s y=>eN o (FQ lo x 0 a n p i d j u m b k c v s y 0 none 0 (some 0) l)))) (some (.agg [.sl m b k c],h)) :=
 lE
theorem FQ.e {lo n j g G H m k i:Nat}{x y:Int}{a A B b d:Pq}{u s C c p:Nq}{h:Heap} :
  FQ lo x y a n u j A g s G B H C b m c k d i p h=AB x n (eO a λv=>eO (ld h v.1 (v.2+x.toNat) 1 1) λv=>eC v λv l=>eN l (eS 6 v λv v l=>br (decide (y<(v:Int))) (AB x n (eO a λv=>eO (ld h v.1 (v.2+x.toNat) 1 1) λv=>eC v λv l=>eN l (eS 6 v λv l o=>AB y l (eO v λv=>eO (ld h v.1 (v.2+y.toNat) 0 6) λv=>eC v λv l=>eI .i64 v λv=>eC l λl o=>eI .i64 l λl=>eC o λo z=>eI .i64 o λo=>eC z λz w=>eS 2 z λz q t=>eC w λw e=>eT w λw=>eC e λe f=>eBv e λe=>eN f (Al (Ai lo 167 [AP v l o z q t w e] h) λv l=>eA v λv=>eC v λv o=>eI .i64 v λv=>eC o λo z=>eI .i64 o λo=>eC z λz w=>eI .i64 z λz=>eC w λw q=>eS 2 w λw t e=>eC q λq f=>eT q λq=>eC f λf D=>eBv f λf=>eN D (Au 6 (l ++ [.rows 6 49 false [DD v o z w t e q f]]) (.sl 6 (some (l.length,0)) 1 (some 1)) λD=>Dd lo 49 6 72 (.sl k d i p) D (l ++ [.rows 6 49 false [DD v o z w t e q f]]) λv l=>eS 6 v λv o z=>FQ lo x (AL (y+1)) a n u j A g s G B H C b m c 6 v o z l)))))) (Au 2 (h ++ [.rows 2 54 false [[.sl 6 b m c,.sl k d i p]]]) (.sl 2 (some (h.length,0)) 1 (some 1)) λv=>Dd lo 54 2 48 (.sl G B H C) v (h ++ [.rows 2 54 false [[.sl 6 b m c,.sl k d i p]]]) λv l=>eS 2 v λv o z=>HT lo (AL (x+1)) a n u j A g s 2 v o z l))) :=
 lE
def HR lo a n c b m p x h:=
 LA 201 Tryz.f201 221311 0 111 lo ⟨[(0,.sl 6 a n c),(3,.sl 6 b m p),(4,Iv x)],[],h⟩
theorem HR.e :
  HR lo a n p b m c x h=br (decide (x<(n:Int))) (AB x n (eO a λv=>eO (ld h v.1 (v.2+x.toNat) 0 6) λv=>eC v λv l=>eI .i64 v λv=>eC l λl o=>eI .i64 l λl=>eC o λo s=>eI .i64 o λo=>eC s λs y=>eS 2 s λs z u=>eC y λy w=>eT y λy=>eC w λw q=>eBv w λw=>eN q (Al (Ai lo 167 [AP v l o s z u y w] h) λv l=>eA v λv=>eC v λv o=>eI .i64 v λv=>eC o λo s=>eI .i64 o λo=>eC s λs y=>eI .i64 s λs=>eC y λy z=>eS 2 y λy u w=>eC z λz q=>eT z λz=>eC q λq g=>eBv q λq=>eN g (Au 6 (l ++ [.rows 6 49 false [DD v o s y u w z q]]) (.sl 6 (some (l.length,0)) 1 (some 1)) λg=>Dd lo 49 6 72 (.sl 6 b m c) g (l ++ [.rows 6 49 false [DD v o s y u w z q]]) λv l=>eS 6 v λv o s=>HR lo a n p v o s (AL (x+1)) l)))) (some (.sl 6 b m c,h)) :=
 lE
def AF lo a n c m l x y z h:=
 LA 202 Tryz.f202 22131 0 11 lo ⟨[(0,.sl 2 a n c),(1,.fn m l),(4,Iv x),(7,Iv y),(8,Iv z)],[],h⟩
theorem Fe (hk:(AF h.length a n c m l 0 (n:Int) 0 h)=some (v,h')) (hn:noId v=true:=by rfl) :
  Ai lo 202 [.sl 2 a n c,.fn m l] h=some (v,h) :=
 eD Tryz.func202 hk hn
theorem AF.e :
  AF lo a n c m l z y x h=br (decide (x<y)) (AB x n (eO a λv=>eO (ld h v.1 (v.2+x.toNat) 0 2) λv=>eC v λv o=>eS 6 v λv s b=>eC o λo u=>eS 6 o λo w p=>eN u (Al (Ai lo m (CR [Vo v s b o w p] l) h) λv o=>eB v (some (Iv x,o)) (AF lo a n c m l z y (AL (x+1)) o)))) (some (Iv (-1),h)) :=
 lE
def Bo lo a n c x m l h:=
 Lp (X 203) lo (pf 2211 Tryz.f203) 0 (CE 0 (MS (X 203) Tryz.f203.results.toList)) ⟨[(0,.sl 6 a n c),(1,Iv 0),(2,Iv 0),(3,Iv x),(4,.fn m l),(10,.bool true),(11,.bool true)],[],h⟩
theorem FD (hk:(Bo lo a n c x m l h)=some r) :
  Ai lo 203 [.sl 6 a n c,Iv 0,Iv 0,Iv x,.fn m l] h=some r :=
 eK Tryz.func203 hk
theorem Bo.e :
  Bo lo a n c x m l h=Al (Ai lo 208 [.sl 6 a n c,Iv 0,Iv 0,.fn m l] h) λv o=>eU v λv=>eN v (some (.tup [],o)) :=
 lE
def Bn lo a n c x m l h:=
 Lp (X 203) lo (pf 2211 Tryz.f203) 0 (CE 0 (MS (X 203) Tryz.f203.results.toList)) ⟨[(0,.sl 6 a n c),(1,Iv 0),(2,Iv 1),(3,Iv x),(4,.fn m l),(10,.bool true),(11,.bool true)],[],h⟩
theorem FC (hk:(Bn lo a n c x m l h)=some r) :
  Ai lo 203 [.sl 6 a n c,Iv 0,Iv 1,Iv x,.fn m l] h=some r :=
 eK Tryz.func203 hk
theorem Bn.e :
  Bn lo a n c x m l h=Al (Ai lo 208 [.sl 6 a n c,Iv 0,Iv 1,.fn m l] h) λv o=>eU v λv=>eN v (some (.tup [],o)) :=
 lE
def Bm lo a n c x m l h:=
 Lp (X 203) lo (pf 2211 Tryz.f203) 0 (CE 0 (MS (X 203) Tryz.f203.results.toList)) ⟨[(0,.sl 6 a n c),(1,Iv 0),(2,Iv 2),(3,Iv x),(4,.fn m l),(10,.bool true),(11,.bool true)],[],h⟩
theorem FB (hk:(Bm lo a n c x m l h)=some r) :
  Ai lo 203 [.sl 6 a n c,Iv 0,Iv 2,Iv x,.fn m l] h=some r :=
 eK Tryz.func203 hk
theorem Bm.e :
  Bm lo a n c x m l h=Al (Ai lo 208 [.sl 6 a n c,Iv 0,Iv 2,.fn m l] h) λv o=>eU v λv=>eN v (some (.tup [],o)) :=
 lE
def Bl lo a n c x m l h:=
 Lp (X 203) lo (pf 2211 Tryz.f203) 0 (CE 0 (MS (X 203) Tryz.f203.results.toList)) ⟨[(0,.sl 6 a n c),(1,Iv 0),(2,Iv 3),(3,Iv x),(4,.fn m l),(10,.bool true),(11,.bool true)],[],h⟩
theorem FA (hk:(Bl lo a n c x m l h)=some r) :
  Ai lo 203 [.sl 6 a n c,Iv 0,Iv 3,Iv x,.fn m l] h=some r :=
 eK Tryz.func203 hk
theorem Bl.e :
  Bl lo a n c x m l h=Al (Ai lo 208 [.sl 6 a n c,Iv 0,Iv 3,.fn m l] h) λv o=>eU v λv=>eN v (some (.tup [],o)) :=
 lE
def Bk lo a n c x m l h:=
 Lp (X 203) lo (pf 2211 Tryz.f203) 0 (CE 0 (MS (X 203) Tryz.f203.results.toList)) ⟨[(0,.sl 6 a n c),(1,Iv 0),(2,Iv 4),(3,Iv x),(4,.fn m l),(10,.bool true),(11,.bool true)],[],h⟩
theorem Fz (hk:(Bk lo a n c x m l h)=some r) :
  Ai lo 203 [.sl 6 a n c,Iv 0,Iv 4,Iv x,.fn m l] h=some r :=
 eK Tryz.func203 hk
theorem Bk.e :
  Bk lo a n c x m l h=Al (Ai lo 208 [.sl 6 a n c,Iv 0,Iv 4,.fn m l] h) λv o=>eU v λv=>eN v (some (.tup [],o)) :=
 lE
theorem PF (hk:(Al (Ai h.length 217 [.int .u64 x] h) λl c=>eI .i64 l λl=>some (Iv l,c))=some (v,h')) (hn:noId v=true:=by rfl) :
  Ai lo 204 [.int .u64 x] h=some (v,h) :=
 eD Tryz.func204 hk hn
def CP lo x y a n c h:=
 LA 205 Tryz.f205 221311 0 111 lo ⟨[(3,.lp 3 0),(5,Iv x),(6,Iv y)],[(3,(Co a n c))],h⟩
theorem R7 {e:Pq} (hk:(CP h.length x 0 a n c h)=some (v,h')) (hn:noId v=true:=by rfl) :
  Ai lo 205 [BV y x b m p d k u e i s f,Ap a n c] h=some (v,h) :=
 eD Tryz.func205 hk hn
theorem CP.e :
  CP lo y x a n c h=br (decide (x<4)) (AB x n (eO a λv=>eO (ld h v.1 (v.2+x.toNat) 0 1) λv=>eC v λv l=>eN l (eI .i64 v λv=>br (decide (v>y)) (AB x n (eO a λv=>eO (ld h v.1 (v.2+x.toNat) 0 1) λv=>eC v λv l=>eN l (eI .i64 v λv=>CP lo v (AL (x+1)) a n c h))) (CP lo y (AL (x+1)) a n c h)))) (some (Iv (AL (y+1)),h)) :=
 lE
theorem Ut (hk:(Al (Ai h.length 188 [Ay x y,Ay z t] h) λl c=>eB l (some ((Ay z t),c)) (some ((Ay x y),c)))=some (v,h')) (hn:noId v=true:=by rfl) :
  Ai lo 206 [Ay x y,Ay z t] h=some (v,h) :=
 eD Tryz.func206 hk hn
theorem Us (hk:(AB x n (eO a λv=>eO (ld h v.1 (v.2+x.toNat) 1 2) λv=>eC v λv l=>eI .i64 v λv=>eC l λl o=>eI .i64 l λl=>eN o (Al (Ai lo 188 [Ay v l,Ay y z] h) λv l=>eB v (Al (Ai lo 167 [AP x y z b m p S f] l) λv o=>eA v λv=>eC v λv s=>eI .i64 v λv=>eC s λs u=>eI .i64 s λs=>eC u λu w=>eI .i64 u λu=>eC w λw q=>eS 2 w λw g i=>eC q λq j=>eT q λq=>eC j λj k=>eBv j λj=>eN k (AB x n (eO a λk=>eO (st lo o k.1 (k.2+x.toNat) 0 (DD v s u w g i q j)) λv=>some ((By a n c),v)))) (some ((By a n c),l)))))=some r) :
  Ai lo 207 [By a n c,AP x y z b m p S f] h=some r :=
 eK Tryz.func207 hk
def An lo a n c x y m l z h:=
 Lp (X 208) lo (pf 221 Tryz.f208) 0 (CE 0 (MS (X 208) Tryz.f208.results.toList)) ⟨[(0,.sl 6 a n c),(1,Iv x),(2,Iv y),(3,.fn m l),(8,Iv z)],[],h⟩
def AD lo a n c x y m l z t h:=
 Lp (X 208) lo (pf 221231221 Tryz.f208) 2 (CE 2 (CE 1 (kS (X 208) lo (pf 11221 Tryz.f208) 0 (zaU (X 208) lo (pf 221 Tryz.f208) 0 (CE 0 (MS (X 208) Tryz.f208.results.toList)))))) ⟨[(0,.sl 6 a n c),(1,Iv x),(2,Iv y),(3,.fn m l),(8,Iv z),(9,Iv t)],[],h⟩
theorem Fb (hk:(An lo a n c x y m l (AL (x+1)) h)=some r) :
  Ai lo 208 [.sl 6 a n c,Iv x,Iv y,.fn m l] h=some r :=
 eK Tryz.func208 hk
theorem An.e :
  An lo a n c z y m l x h=br (decide (x<y)) (AD lo a n c z y m l x x h) (some (.tup [],h)) :=
 lE
theorem AD.e {lo n m:Nat}{a:Pq}{c:Nq}{y z t x:Int}{l:List V}{h:Heap} :
  AD lo a n c y z m l t x h=br (decide (x>y)) (AB x n (eO a λv=>eO (ld h v.1 (v.2+x.toNat) 0 6) λv=>eC v λv o=>eI .i64 v λv=>eC o λo s=>eI .i64 o λo=>eC s λs b=>eI .i64 s λs=>eC b λb u=>eS 2 b λb w p=>eC u λu q=>eT u λu=>eC q λq g=>eBv q λq=>eN g (AB (AL (x - 1)) n (eO a λg=>eO (ld h g.1 (g.2+((AL (x - (1:Int))).toNat)) 0 6) λg=>eC g λg i=>eI .i64 g λg=>eC i λi j=>eI .i64 i λi=>eC j λj k=>eI .i64 j λj=>eC k λk d=>eS 2 k λk e f=>eC d λd A=>eT d λd=>eC A λA B=>eBv A λA=>eN B (Al (Ai lo m (CR [AP v o s b w p u q,AP g i j k e f d A] l) h) λv o=>eI .i64 v λv=>br (decide (v<0)) (AB (AL (x - 1)) n (eO a λv=>eO (ld o v.1 (v.2+((AL (x - (1:Int))).toNat)) 0 6) λv=>eC v λv s=>eI .i64 v λv=>eC s λs b=>eI .i64 s λs=>eC b λb u=>eI .i64 b λb=>eC u λu w=>eS 2 u λu p q=>eC w λw g=>eT w λw=>eC g λg i=>eBv g λg=>eN i (AB x n (eO a λi=>eO (ld o i.1 (i.2+x.toNat) 0 6) λi=>eC i λi j=>eI .i64 i λi=>eC j λj k=>eI .i64 j λj=>eC k λk d=>eI .i64 k λk=>eC d λd e=>eS 2 d λd f A=>eC e λe B=>eT e λe=>eC B λB C=>eBv B λB=>eN C (AB x n (eO a λC=>eO (st lo o C.1 (C.2+x.toNat) 0 (DD v s b u p q w g)) λv=>AB (AL (x - 1)) n (eO a λs=>eO (st lo v s.1 (s.2+((AL (x - (1:Int))).toNat)) 0 (DD i j k d f A e B)) λv=>AD lo a n c y z m l t (AL (x - 1)) v))))))) (An lo a n c y z m l (AL (t+1)) o)))))) (An lo a n c y z m l (AL (t+1)) h) :=
 lE
theorem Ns (hk:(br (decide (x>=4294967296)) none (br (decide (x>=65536)) none (br (decide (x>=256)) none (eO (OR ⟨⟨[0,1,2,2,3,3,3,3,4,4,4,4,4,4,4,4,5,5,5,5,5,5,5,5,5,5,5,5,5,5,5,5,6,6,6,6,6,6,6,6,6,6,6,6,6,6,6,6,6,6,6,6,6,6,6,6,6,6,6,6,6,6,6,6,7,7,7,7,7,7,7,7,7,7,7,7,7,7,7,7,7,7,7,7,7,7,7,7,7,7,7,7,7,7,7,7,7,7,7,7,7,7,7,7,7,7,7,7,7,7,7,7,7,7,7,7,7,7,7,7,7,7,7,7,7,7,7,7,8,8,8,8,8,8,8,8,8,8,8,8,8,8,8,8,8,8,8,8,8,8,8,8,8,8,8,8,8,8,8,8,8,8,8,8,8,8,8,8,8,8,8,8,8,8,8,8,8,8,8,8,8,8,8,8,8,8,8,8,8,8,8,8,8,8,8,8,8,8,8,8,8,8,8,8,8,8,8,8,8,8,8,8,8,8,8,8,8,8,8,8,8,8,8,8,8,8,8,8,8,8,8,8,8,8,8,8,8,8,8,8,8,8,8,8,8,8,8,8,8,8,8,8,8,8,8,8]⟩⟩ (IntKind.wrap .u8 x)) λl=>some (Iv (AL (0+(AL ((l.toNat:Int))))),h)))))=some (v,h')) (hn:noId v=true:=by rfl) :
  Ai lo 217 [.int .u64 x] h=some (v,h) :=
 eD Tryz.func217 hk hn
end


structure Tag where
 time:Int
 place:Int
 deriving DecidableEq
def Tag.cs (t:Tag):List V := [Iv t.time,Iv t.place]
def Ah (n a b:Int):Bool:=decide (a<=n)&&decide (n<=b)
def B5 (t:Int) (p:Int):Bool:=(t==0&&p==0) || (Ah t 1 999&&Ah p 0 2)
def Fu (t p t' p':Int):Bool:=decide (t<t') || (t==t'&&decide (p<p'))
section
variable {lo:Nat}{h:Heap}{a b c d e:Int}
theorem Ba:Ai lo 56 [Iv a,Iv b,Iv c] h=some (.bool (Ah a b c),h) :=
 Sp (h':=h) (by simp[Ah])
theorem B8:Ai lo 41 [Iv a,Iv b,Iv c] h=some (.bool (Ah a b c),h) :=
 VO (h':=h) (by simp[Ah])
theorem DM:Ai lo 98 [Iv a] h=some (.bool (Ah a 0 2),h):=Rw (h':=h) (by simp[Ba])
theorem Hd:Ai lo 57 [Iv a] h=some (.bool (Ah a 0 3),h):=Ux (h':=h) (by simp[Ba])
theorem JT:Ai lo 58 [.agg [Iv a,Iv b]] h=some (.bool (B5 a b),h) :=
 UA (h':=h) (by simp[Ba,DM,B5])
theorem Cf:Ai lo 188 [.agg [Iv a,Iv b],.agg [Iv c,Iv d]] h=some (.bool (Fu a b c d),h) :=
 Sj (h':=h) (by simp[Fu])
theorem P6 {t p:Int} (h:B5 t p=true):(!(t==0&&p==0))=decide (t>0):=by rw[zdC];simp[B5,Ah] at h ⊢;omega
def Bw {α:Type} (p:α->Bool):List α->Nat->Int
 | [],_ => -1
 | x :: r,k=>bif p x then (k:Int) else Bw p r (k+1)
theorem E7 {α:Type}{p:α->Bool}:∀ {l:List α}{k:Nat},decide (Bw p l k>=0)=l.any p
 | [],k=>by simp[Bw]
 | x :: r,k=>by
  simp only[Bw,List.any_cons];by_cases h:p x=true
  ·simp[h]
  ·simpa [h] using E7 (p:=p) (l:=r) (k:=k+1)
def Hh (a b:Int):Int:=if a<b then -1 else if b<a then 1 else 0
theorem Y1:Ai lo 126 [Iv a] h=some (.bool false,h):=PP (h':=h) (by simp)
theorem Pn:Ai lo 78 [Iv a,Iv b] h=some (Iv (Hh a b),h) :=
 NM (h':=h) (by
  simp only[Y1,Ac,Ao,Av];unfold Hh;by_cases h1:a<b
  ·rw[Ak h1,if_pos h1]
  ·rw[Aj h1,if_neg h1];by_cases h2:b<a
   ·rw[Ak h2,if_pos h2]
   ·rw[Aj h2,if_neg h2])
theorem Re:Ai lo 77 [.sl 1 (some (h.length,0)) 2 (some 2)] (h ++ [.rows 1 3 false [[Iv a],[Iv b]]])=some (Iv (if a=0 then b else a),h ++ [.rows 1 3 false [[Iv a],[Iv b]]]) :=
 UB (h':=h ++ [.rows 1 3 false [[Iv a],[Iv b]]]) (by
  rw[DZ.e,Ak (by decide),Cl (by decide)];simp only[Ad];rw[TG (row := [Iv a]) (by rfl)];simp only[cut,Ad,Aa,Ag,Ab];by_cases h1:a=0
  ·subst h1;rw[if_pos rfl,show ((0:Int)==0)=true from rfl,Am,show AL (0+1)=((1:Nat):Int) from Ar (k:=0) (by decide),DZ.e,Ak (by decide),Cl (by decide)];simp only[Ad];rw[TG (row := [Iv b]) (by rfl)];simp only[cut,Ad,Aa,Ag,Ab];by_cases h2:b=0
   ·subst h2;rw[show ((0:Int)==0)=true from rfl,Am,show AL (((1:Nat):Int)+1)=((2:Nat):Int) from Ar (k:=1) (by decide),DZ.e,Aj (by decide)]
   ·rw[show (b==0)=false by simpa using h2,Av]
  ·rw[if_neg h1,show (a==0)=false by simpa using h1,Av])
theorem MX:Ai lo 43 [.agg [Iv a,Iv b],.agg [Iv c,Iv d]] h=some (Iv (if Hh a c=0 then Hh b d else Hh a c),h) :=
 Ml (h':=h ++ [.rows 1 3 false [[Iv (Hh a c)],[Iv (Hh b d)]]]) (by
  simp only[Pn,Ac,Ab,Re])
theorem zag:decide ((if Hh a c=0 then Hh b d else Hh a c)<0)=Fu a b c d:=by
 unfold Hh Fu;by_cases h1:a<c
 ·simp[h1]
 ·by_cases h2:c<a
  ·simp[h1,h2];omega
  ·have:a=c:=by omega
   subst this;by_cases h3:b<d
   ·simp[h3]
   ·simp[h3];split<;>simp
theorem D7:Ai lo 17 [.agg [Iv a,Iv b],.agg [Iv c,Iv d]] h=some (.bool (Fu a b c d),h) :=
 RA (h':=h) (by simp only[MX,Ac,Ab,J0,zag];simp)
end
end Go.Proofs.YtmdgiekbejjjgaaGreat
namespace Go.Proofs.YtmdgiekbejjjgaaGreat.T
open Go
variable {h:Heap}{b n:Nat}
def ZK (P:Program) (g:TypeId->Bool):List Field->Nat->Nat->Bool
 | [],off,n=>Nat.beq off n
 | f :: fs,off,n=>match Nat.beq f.offset off&&g f.type with
  | true=>ZK P g fs (off+P.cellsOf f.type) n
  | false=>false
def Ps (P:Program):Nat->TypeId->Bool
 | 0,_=>false
 | n+1,t=>match P.underlying t with
  | some .bool=>Nat.beq (P.cellsOf t) 1
  | some (.int _)=>Nat.beq (P.cellsOf t) 1
  | some .string=>Nat.beq (P.cellsOf t) 1
  | some (.slice e)=>Nat.beq (P.cellsOf t) 1&&Nat.blt 0 (P.cellsOf e)&&Ps P n e
  | some (.struct fs)=>ZK P (Ps P n) fs.toList 0 (P.cellsOf t)
  | _=>false
def TVs (P:Program) (g:TypeId->List V->Prop):List Field->List V->Prop
 | [],xs=>xs = []
 | f :: fs,xs=>∃ ys zs,xs=ys++zs/\ys.length=P.cellsOf f.type/\g f.type ys/\TVs P g fs zs
def TV (P:Program) (h:Heap):Nat->TypeId->List V->Prop
 | 0,_,_=>False
 | n+1,t,xs=>match P.underlying t with
  | some .bool=>∃ b,xs = [.bool b]
  | some (.int k)=>∃ i,xs = [.int k i]/\(Lit.int k i).wf=true
  | some .string=>∃ s,xs = [.str s]/\s.size<=maxLen
  | some (.slice e)=>∃ a c rs,xs = [.sl (P.cellsOf e) a rs.length c]/\(rs.length<=maxLen/\∀ k,c=some k->rs.length<=k)/\(∀ row∈rs,row.length=P.cellsOf e/\TV P h n e row) /\
    (rs = []\/∃ b,a=some (b,0)/\Heap.rows? h b=some rs)
  | some (.struct fs)=>TVs P (TV P h n) fs.toList xs
  | _=>False
theorem Zo {h':Heap} (hp:h <+: h') {rs:List (List V)} (hb:Heap.rows? h b=some rs):Heap.rows? h' b=some rs:=by
 obtain ⟨t,rfl⟩:=hp;unfold Heap.rows? at hb ⊢;have hl:b<h.length:=by apply zd2;intro hle;rw[zdg hle] at hb;cases hb
 rw[zcC hl];exact hb
theorem TVs.imp {P:Program}{g g':TypeId->List V->Prop} (hg:∀ t xs,g t xs->g' t xs):∀ {fs:List Field}{xs:List V},TVs P g fs xs->TVs P g' fs xs
 | [],xs,h=>h
 | f :: fs,xs,⟨ys,zs,h1,h2,h3,h4⟩=>⟨ys,zs,h1,h2,hg _ _ h3,TVs.imp hg h4⟩
theorem TV.mono {P:Program}{h h':Heap} (hp:h <+: h'):∀ (n:Nat) (t:TypeId) (xs:List V),TV P h n t xs->TV P h' n t xs
 | 0,_,_,hx=>hx
 | n+1,t,xs,hx=>by
  simp only[TV] at hx ⊢;split at hx
  ·exact hx
  ·exact hx
  ·exact hx
  ·obtain ⟨a,c,rs,h1,h2,h3,h4⟩:=hx;exact ⟨a,c,rs,h1,h2,λrow hr=>⟨(h3 row hr).1,TV.mono hp n _ _ (h3 row hr).2⟩,h4.imp id λ⟨b,h5,h6⟩=>⟨b,h5,Zo hp h6⟩⟩
  ·exact TVs.imp (λt xs=>TV.mono hp n t xs) hx
  ·exact hx
theorem TX {xs ys:List V} (h1:DO xs=true) (h2:DO ys=true):DO (xs++ys)=true:=by
 induction xs with
 | nil=>exact h2
 | cons x r ih =>
  simp only[zde,DO] at h1 ⊢;split at h1
  ·exact ih h1
  ·cases h1
theorem TVs.firm {P:Program}{g:TypeId->List V->Prop} (hg:∀ t xs,g t xs->DO xs=true):∀ {l:List Field}{xs:List V},TVs P g l xs->DO xs=true
 | [],xs,h=>by simp only[TVs] at h;subst h;rfl
 | f :: l,xs,⟨ys,zs,e,_,h3,h4⟩=>by subst e;exact TX (hg _ _ h3) (TVs.firm hg h4)
theorem TV.firm {P:Program}{h:Heap}:∀ (n:Nat) (t:TypeId) (xs:List V),TV P h n t xs->DO xs=true
 | 0,_,_,hx=>hx.elim
 | n+1,t,xs,hx=>by
  simp only[TV] at hx;split at hx
  ·obtain ⟨b,rfl⟩:=hx;rfl
  ·obtain ⟨i,rfl,_⟩:=hx;rfl
  ·obtain ⟨s,rfl,_⟩:=hx;rfl
  ·obtain ⟨a,c,rs,rfl,_⟩:=hx;rfl
  ·exact TVs.firm (λt xs=>TV.firm n t xs) hx
  ·exact hx.elim
structure Imp (W:World) (ρ:Rho) (h:Heap):Prop where
 rel:HRel ρ h W
 ro:∀ b,b<h.length->Cb h b\/QK h b
theorem Wy {k:Blk} (hb:b<h.length) (hd:Cb h b):Cb (h ++ [k]) b:=by unfold Cb at *;rw[zcC hb];exact hd
theorem ZI {k:Blk} (hb:b<h.length) (hd:QK h b):QK (h ++ [k]) b:=by obtain ⟨R,e,rs,h1⟩:=hd;exact ⟨R,e,rs,by rw[zcC hb];exact h1⟩
theorem Imp.lay {W:World}{ρ:Rho} (hi:Imp W ρ h) (k:Blk) (e:E) (hlt:e.r<W.heap.size) (hk:BR ρ e k W) (hro:k = .dead\/∃ R e rs,k = .rows R e true rs) :
  Imp W (ρ.set h.length e) (h ++ [k]):=by
 have hle:Rle ρ (ρ.set h.length e):=Rho.set_le hi.rel.fresh;have hnew:Cb (h ++ [k]) h.length\/QK (h ++ [k]) h.length:=by
  rcases hro with rfl | ⟨R,t,rs,rfl⟩
  ·exact .inl (by simp[Cb])
  ·exact .inr ⟨R,t,rs,by simp⟩
 have hall:∀ b,b<(h ++ [k]).length->Cb (h ++ [k]) b\/QK (h ++ [k]) b:=λb hb=>by
  by_cases hx:b=h.length
  ·subst hx;exact hnew
  ·have:b<h.length:=by simp at hb;omega
   exact (hi.ro b this).imp (Wy this) (ZI this)
 have hdom:∀ b e',(ρ.set h.length e) b=some e'->b<(h ++ [k]).length/\e'.r<W.heap.size:=λb e' hb=>by
  by_cases hx:b=h.length
  ·subst hx;rw[Rho.set_same] at hb;injection hb with hb;subst hb;exact ⟨by simp,hlt⟩
  ·rw[Rho.set_other hx] at hb;have:=hi.rel.dom b e' hb;exact ⟨by simp;omega,by omega⟩
 refine ⟨⟨hdom,λb e' k' hb hk'=>?_,λb b' e1 e2 h1 h2 hr hne=>?_⟩,hall⟩
 ·by_cases hx:b=h.length
  ·subst hx;rw[Rho.set_same] at hb;injection hb with hb;subst hb;simp at hk';subst hk';exact BR.mono hle rfl hk
  ·rw[Rho.set_other hx] at hb;have:=(hi.rel.dom b e' hb).1;rw[zcC this] at hk';exact BR.mono hle rfl (hi.rel.blk b e' k' hb hk')
 ·have g1:=hall b (hdom b e1 h1).1;have g2:=hall b' (hdom b' e2 h2).1;rcases g1 with g1 | g1
  ·exact .inl g1
  ·rcases g2 with g2 | g2
   ·exact .inr (.inl g2)
   ·exact .inr (.inr ⟨g1,g2⟩)
section
variable {P:Program}{W:World}{H:Type}{enc:TypeId×Value->H}
theorem Ri {base:Nat}{a:Addr}{cs:List Value} (h:W.cells? base a n=some cs):cs.length=n/\∀ (i:Nat) (c:Value),cs[i]?=some c->W.cell? (a.add i)=some c:=by
 unfold World.cells? at h;split at h
 ·have hl:cs.length=n:=by simpa using mapM_some_length h
  refine ⟨hl,λi c hc=>?_⟩;have hi:i<n:=by have:=(zcB.1 hc).1;omega
  have:=mapM_some_get h i i (by simp[hi]);rw[this,hc]
 ·cases h
theorem W1 {a:Addr}{c:Value} (h:W.cell? a=some c):∃ cs el fr,W.heap[a.block]?=some (.cells cs el fr)/\a.spot=none/\cs[a.off]?=some c:=by
 unfold World.cell? at h;split at h
 ·rename_i cs el fr he
  split at h
  ·cases h
  ·rename_i hs;exact ⟨cs,el,fr,he,by simpa using hs,h⟩
 ·cases h
def zbZ (P:Program) (W:World) (n:Nat) (t:TypeId) (cs:List Value):Prop :=
 ∀ ρ h,Imp W ρ h->∃ (ρ':Rho) (h':Heap) (xs:List V),Rle ρ ρ'/\h <+: h'/\Imp W ρ' h'/\VRs ρ' xs cs/\TV P h' n t xs
theorem SX {n:Nat}{t:TypeId}{R:Nat}:∀ (css:List (List Value)),(∀ cs∈css,cs.length=R/\zbZ P W n t cs)->∀ ρ h,Imp W ρ h ->
  ∃ (ρ':Rho) (h':Heap) (rs:List (List V)),Rle ρ ρ'/\h <+: h'/\Imp W ρ' h'/\rs.length=css.length/\(∀ (i:Nat) (row:List V),rs[i]?=some row->∃ cs,css[i]?=some cs/\VRs ρ' row cs/\row.length=R/\TV P h' n t row)
 | [],_,ρ,h,hi=>⟨ρ,h,[],Rle.refl _,zee _,hi,rfl,λi row hr=>by simp at hr⟩
 | cs :: css,hc,ρ,h,hi=>by
  obtain ⟨ρ1,h1,xs,a1,a2,a3,a4,a5⟩:=(hc cs (by simp)).2 ρ h hi;obtain ⟨ρ2,h2,rs,b1,b2,b3,b4,b5⟩:=SX css (λc hcc=>hc c (by simp[hcc])) ρ1 h1 a3;refine ⟨ρ2,h2,xs :: rs,a1.trans b1,a2.trans b2,b3,by simp[b4],λi row hr=>?_⟩;cases i with
  | zero =>simp at hr;subst hr;exact ⟨cs,rfl,VRs.mono b1 _ _ a4,by rw[a4.length];exact (hc cs (by simp)).1,TV.mono b2 _ _ _ a5⟩
  | succ i =>simp at hr;obtain ⟨c,g1,g2⟩:=b5 i row hr;exact ⟨c,by simpa using g1,g2⟩
theorem Pa {n:Nat}{cs:List Value}:∀ (fs:List Field) (off:Nat),ZK P (Ps P n) fs off cs.length=true->(∀ f∈fs,Ps P n f.type=true->zbZ P W n f.type ((cs.drop f.offset).take (P.cellsOf f.type)))->∀ ρ h,Imp W ρ h ->
  ∃ (ρ':Rho) (h':Heap) (xs:List V),Rle ρ ρ'/\h <+: h'/\Imp W ρ' h'/\VRs ρ' xs (cs.drop off)/\TVs P (TV P h' n) fs xs/\off<=cs.length
 | [],off,hin,_,ρ,h,hi=>by simp only[ZK] at hin;have:=zcH hin;exact ⟨ρ,h,[],Rle.refl _,zee _,hi,by rw[zdk (by omega)];exact VRs.nil,rfl,by omega⟩
 | f :: fs,off,hin,hl,ρ,h,hi=>by
  simp only[ZK] at hin;split at hin
  ·rename_i hc
   simp only[zcN] at hc;have ho:=zcH hc.1;obtain ⟨ρ1,h1,xs,a1,a2,a3,a4,a5⟩:=hl f (by simp) hc.2 ρ h hi;obtain ⟨ρ2,h2,ys,b1,b2,b3,b4,b5,b6⟩:=Pa fs (off+P.cellsOf f.type) hin (λg hg=>hl g (by simp[hg])) ρ1 h1 a3;rw[ho] at a4;have hlen:=a4.length;refine ⟨ρ2,h2,xs++ys,a1.trans b1,a2.trans b2,b3,?_,⟨xs,ys,rfl,?_,TV.mono b2 _ _ _ a5,b5⟩,by omega⟩
   ·have:=(VRs.mono b1 _ _ a4).append b4;rwa [<- zdW,zc5] at this
   ·rw[hlen];simp;omega
  ·cases hin
theorem zcj:∀ (n:Nat) (t:TypeId),Ps P n t=true->∀ (fuel:Nat) (cs:List Value) (x:DataW H×List MemPlace),DataW.trod enc P W 0 (λ_=>true) true fuel t cs=some x ->
  (∀ a l c,Value.slice (some a) l c∈cs->0<W.heap.size)->zbZ P W n t cs:=by
 intro n;induction n with
 | zero=>intro t h;simp[Ps] at h
 | succ n ih =>
  intro t hin fuel cs x hx hpos ρ h hi;simp only[Ps] at hin;split at hin
  ·rename_i hu
   obtain ⟨b,rfl,_⟩:=DataW.trod_bool hu hx;exact ⟨ρ,h,[.bool b],Rle.refl _,zee _,hi,VRs.cons VR.bool' VRs.nil,by simp only[TV,hu];exact ⟨b,rfl⟩⟩
  ·rename_i k hu
   obtain ⟨i,rfl,_,hw⟩:=DataW.trod_int hu hx;exact ⟨ρ,h,[.int k i],Rle.refl _,zee _,hi,VRs.cons VR.int' VRs.nil,by simp only[TV,hu];exact ⟨i,rfl,hw⟩⟩
  ·rename_i hu
   obtain ⟨s,rfl,_,hw⟩:=DataW.trod_string hu hx;exact ⟨ρ,h,[.str s],Rle.refl _,zee _,hi,VRs.cons (by simp[VR]) VRs.nil,by simp only[TV,hu];exact ⟨s,rfl,hw⟩⟩
  ·rename_i e hu
   simp only[zcN] at hin;have hR:0<P.cellsOf e:=by have:=hin.1.2;simpa [zd1] using this
   rcases DataW.trod_slice hu hx with ⟨rfl,_⟩ | ⟨a,len,cap,elems,rest,m,rfl,rfl,_,_,hlc,hcm,hel,hg,hsp,_⟩
   ·exact ⟨ρ,h,[.sl (P.cellsOf e) none 0 (some 0)],Rle.refl _,zee _,hi,VRs.cons (by simp[VR]) VRs.nil,by
     simp only[TV,hu];exact ⟨none,some 0,[],rfl,⟨zcY _,λ_ _=>zcY _⟩,λr hr=>(by cases hr),.inl rfl⟩⟩
   ·-- the rows
    have hrow:∀ i,i<len->∃ c y,W.cells? 0 (a.add (i*P.cellsOf e)) (P.cellsOf e)=some c/\DataW.trod enc P W 0 (λ_=>true) true m e c=some y:=λi hi'=>by have h1:=hg i hi';rw[zcR (by omega)] at h1;obtain ⟨c,h2,h3⟩:=zdG.1 h1;exact ⟨c,_,h2,h3⟩
    have hspare:∀ j,len+j<cap->∃ c,W.cells? 0 (a.add ((len+j)*P.cellsOf e)) (P.cellsOf e)=some c:=λj hj=>by obtain ⟨h0,h1⟩:=hsp rfl;have h1:=h1 j (by omega);rw[zcR (by omega)] at h1;obtain ⟨c,h2,_⟩:=zdG.1 h1;exact ⟨c,h2⟩
    by_cases hcap:cap=0
    ·-- no room at all
     subst hcap;have hl0:len=0:=by omega
     subst hl0;have hp:=hpos a 0 0 (by simp);have hi2:=hi.lay .dead ⟨0,0,P.cellsOf e,0,0⟩ hp trivial (.inl rfl);refine ⟨_,_,[.sl (P.cellsOf e) (some (h.length,0)) 0 (some 0)],Rho.set_le hi.rel.fresh,⟨_,rfl⟩,hi2,VRs.cons ?_ VRs.nil,?_⟩
     ·simp only[VR];exact ⟨_,a,0,Rho.set_same _ _ _,rfl,rfl,.inl rfl,zcz _,λy hy=>by injection hy,λhc=>by cases hc⟩
     ·simp only[TV,hu];exact ⟨_,_,[],rfl,⟨zcY _,λ_ _=>zcY _⟩,λr hr=>(by cases hr),.inl rfl⟩
    ·-- the block
     have hblk:∃ carr el fr,W.heap[a.block]?=some (.cells carr el fr)/\a.spot=none:=by
      have:∃ c,W.cells? 0 (a.add (0*P.cellsOf e)) (P.cellsOf e)=some c:=by
       by_cases hl0:len=0
       ·have:=hspare 0 (by omega);rw[hl0] at this;simpa using this
       ·obtain ⟨c,_,h2,_⟩:=hrow 0 (by omega);exact ⟨c,h2⟩
      obtain ⟨c,hc⟩:=this;obtain ⟨c1,c2⟩:=Ri hc;have h0:c[0]?=some c[0]:=zcR (by omega);obtain ⟨carr,el,fr,h1,h2,_⟩:=W1 (c2 0 _ h0);have e1:(a.add (0*P.cellsOf e)).add 0=a:=by simp[Addr.add]
      rw[e1] at h1 h2;exact ⟨carr,el,fr,h1,h2⟩
     obtain ⟨carr,el,fr,hW,hspot⟩:=hblk;obtain ⟨r,o,sp⟩:=a;simp only at hW hspot;subst hspot;have hlt:r<W.heap.size:=by apply zd2;intro hle;rw[Array.getElem?_eq_none hle] at hW;cases hW
     have hcells:∀ i,i<len->∃ c y,c.length=P.cellsOf e/\(∀ (j:Nat) (v:Value),c[j]?=some v->carr[o+(i*P.cellsOf e+j)]?=some v)/\DataW.trod enc P W 0 (λ_=>true) true m e c=some y:=λi hi'=>by obtain ⟨c,y,h1,h2⟩:=hrow i hi';obtain ⟨c1,c2⟩:=Ri h1;refine ⟨c,y,c1,λj v hv=>?_,h2⟩;have:=c2 j v hv;rw[FX,FX,Ls hW] at this;rw[<- this];congr 1;omega
     have hall:∃ css:List (List Value),css.length=len/\∀ i,i<len->∃ c y,css[i]?=some c/\c.length=P.cellsOf e/\(∀ (j:Nat) (v:Value),c[j]?=some v->carr[o+(i*P.cellsOf e+j)]?=some v)/\DataW.trod enc P W 0 (λ_=>true) true m e c=some y:=by refine ⟨(List.range len).map λi=>if hi':i<len then (hcells i hi').choose else [],by simp,λi hi'=>?_⟩;obtain ⟨y,h1,h2,h3⟩:=(hcells i hi').choose_spec;exact ⟨_,y,by simp[hi'],h1,h2,h3⟩
     obtain ⟨css,hcl,hcs⟩:=hall;obtain ⟨ρ1,h1,rs,a1,a2,a3,a4,a5⟩:=SX (P:=P) (W:=W) (n:=n) (t:=e) (R:=P.cellsOf e) css (λc hc=>by
      obtain ⟨i,hi'⟩:=zcT.1 hc;have hlt:=(zcB.1 hi').1;obtain ⟨c',y,g1,g2,g3,g4⟩:=hcs i (by omega);rw[hi'] at g1;injection g1 with g1;subst g1;exact ⟨g2,ih e hin.2 m c y g4 λ_ _ _ _=>by omega⟩) ρ h hi
     by_cases hl0:len=0
     ·have hrs:rs = []:=zcF (by omega);subst hrs;have hi2:=a3.lay .dead ⟨r,o,P.cellsOf e,0,0⟩ hlt trivial (.inl rfl);refine ⟨_,_,[.sl (P.cellsOf e) (some (h1.length,0)) 0 (some cap)],a1.trans (Rho.set_le a3.rel.fresh),a2.trans ⟨_,rfl⟩,hi2,VRs.cons ?_ VRs.nil,?_⟩
      ·simp only[VR];exact ⟨_,⟨r,o,none⟩,cap,Rho.set_same _ _ _,rfl,by rw[hl0],.inr (by simp),by omega,λy hy=>by injection hy,λhc=>by cases hc⟩
      ·simp only[TV,hu];exact ⟨_,_,[],rfl,⟨zcY _,λ_ _=>zcY _⟩,λr hr=>(by cases hr),.inl rfl⟩
     ·have hrl:rs.length=len:=by omega
      have hbr:BR ρ1 ⟨r,o,P.cellsOf e,rs.length,rs.length⟩ (.rows (P.cellsOf e) el true rs) W:=by
       refine ⟨carr,fr,?_,λh=>(by cases h),rfl,rfl,zcz _,?_,λi row hr=>?_,.inr ⟨rfl,λj c g1 g2 g3=>?_⟩⟩
       ·exact hW
       ·obtain ⟨c,y,g1,g2,g3,_⟩:=hcs (len - 1) (by omega);have:=g3 (P.cellsOf e - 1) _ (zcR (by omega));have hb:=(zdH.1 this).1;have e1:rs.length*P.cellsOf e=(len - 1)*P.cellsOf e+P.cellsOf e:=by rw[hrl,<- Nat.succ_mul];congr 1;omega
        show o+rs.length*P.cellsOf e<=carr.size;omega
       ·obtain ⟨c,g1,g2,g3,_⟩:=a5 i row hr;refine ⟨g3,λj v hv=>?_⟩;have hlt:=(zcB.1 hr).1;obtain ⟨c',y,k1,k2,k3,_⟩:=hcs i (by omega);rw[g1] at k1;injection k1 with k1;subst k1;obtain ⟨z,z1,z2⟩:=g2.get j v hv;exact ⟨z,k3 j z z1,z2⟩
       ·obtain ⟨q,hq⟩:∃ q,j=o+q:=⟨j - o,by simp only at g1;omega⟩;have hq2:q<rs.length*P.cellsOf e:=by simp only at g2;omega
        have hdiv:q / P.cellsOf e<rs.length:=(Nat.div_lt_iff_lt_mul hR).2 hq2;have hmod:q % P.cellsOf e<P.cellsOf e:=zeh _ hR;have hqq:q=q / P.cellsOf e*P.cellsOf e+q % P.cellsOf e:=by rw[Nat.mul_comm];exact (Nat.div_add_mod q _).symm
        obtain ⟨c0,k1,k2,k3,k4⟩:=a5 (q / P.cellsOf e) _ (zcR hdiv);obtain ⟨c',y,l1,l2,l3,_⟩:=hcs (q / P.cellsOf e) (by omega);rw[k1] at l1;injection l1 with l1;subst l1;have hz:=l3 (q % P.cellsOf e) _ (zcR (by omega));rw[<- hqq,<- hq,g3] at hz;injection hz with hz;rw[hz];exact Db k2 (TV.firm _ _ _ k4) _ (zcv _)
      have hi2:=a3.lay (.rows (P.cellsOf e) el true rs) ⟨r,o,P.cellsOf e,rs.length,rs.length⟩ hlt hbr (.inr ⟨_,_,_,rfl⟩);refine ⟨_,_,[.sl (P.cellsOf e) (some (h1.length,0)) rs.length (some cap)],a1.trans (Rho.set_le a3.rel.fresh),a2.trans ⟨_,rfl⟩,hi2,VRs.cons ?_ VRs.nil,?_⟩
      ·simp only[VR];exact ⟨_,⟨r,o,none⟩,cap,Rho.set_same _ _ _,rfl,by rw[hrl],.inr (by simp),by omega,λy hy=>by injection hy,λhc=>by cases hc⟩
      ·simp only[TV,hu];refine ⟨_,_,rs,rfl,⟨by omega,λk hk=>by injection hk with hk;omega⟩,λrow hr=>?_,.inr ⟨_,rfl,by simp[Heap.rows?]⟩⟩;obtain ⟨i,hi'⟩:=zcT.1 hr;obtain ⟨c,_,_,g3,g4⟩:=a5 i row hi';exact ⟨g3,TV.mono ⟨_,rfl⟩ _ _ _ g4⟩
  ·rename_i fs hu
   obtain ⟨xs,m,rfl,_,hl,hxl,hf⟩:=DataW.trod_struct hu hx;rw[<- hl] at hin;obtain ⟨ρ',h',ys,b1,b2,b3,b4,b5,_⟩:=Pa (P:=P) (W:=W) (n:=n) (cs:=cs) fs.toList 0 hin (λf hfm hft=>by
    obtain ⟨i,hi'⟩:=zcT.1 hfm;have hi2:fs[i]?=some f:=by simpa using hi'
    have h1:=hf i f hi2;have hlt:i<xs.length:=by have:=(zdH.1 hi2).1;omega
    rw[zcR hlt] at h1;exact ih f.type hft m _ _ h1 λa l c hm=>hpos a l c (List.mem_of_mem_drop (zdO hm))) ρ h hi
   exact ⟨ρ',h',ys,b1,b2,b3,by simpa using b4,by simp only[TV,hu];exact b5⟩
  ·cases hin
end
end Go.Proofs.YtmdgiekbejjjgaaGreat.T
namespace Go.Proofs.YtmdgiekbejjjgaaGreat.T
open Go Go.RowKit
variable {r:Reach}{base:Nat}{a:Addr}{n:Nat}{h:Heap}
section
variable {P:Program}{W:World}{H:Type}{enc:TypeId×Value->H}
theorem Wl {e:TypeId} (h:W.has P r base a e n):0<W.heap.size:=by obtain ⟨_,_,row,cells,hs,_⟩:=h;unfold World.shape? at hs;apply zd2;intro hle;rw[Array.getElem?_eq_none (by omega)] at hs;cases hs
theorem O2 {u:TypeId}{l c:Nat} (h:Cell.okWide P W r base u (.slice (some a) l c)):0<W.heap.size:=by
 have h2:Cell.ok P W r base u (.slice (some a) l c):=by unfold Cell.okWide at h;split at h<;>simp_all
 unfold Cell.ok at h2;split at h2<;>simp_all
 exact Wl h2.2.2
theorem TB {t:TypeId}{v:Value} (h:Value.okWide P W r base t v) {l c:Nat} (hm:Value.slice (some a) l c∈v.cells.toList):0<W.heap.size:=by
 have row:∀ cs:Array Value,Row.okWide P W r base t cs->v = .agg cs->0<W.heap.size:=λcs hr hv=>by subst hv;obtain ⟨ts,_,_,h3⟩:=hr;simp[Value.cells] at hm;obtain ⟨i,hi⟩:=Array.mem_iff_getElem?.1 hm;obtain ⟨u,_,hu⟩:=h3 i _ hi;exact O2 hu
 unfold Value.okWide at h;split at h
 ·obtain ⟨cs,hv,_,hr⟩:=h;exact row cs hr hv
 ·obtain ⟨cs,hv,_,hr⟩:=h;exact row cs hr hv
 ·cases v<;>simp[Value.cells] at hm
  ·obtain ⟨rfl,rfl,rfl⟩:=hm;exact O2 h
  ·exfalso;unfold Cell.okWide Cell.ok at h;split at h<;>(try split at h)<;>simp_all
def ArgV (P:Program) (h:Heap) (n:Nat) (t:TypeId) (x:V):Prop:=match P.underlying t with
 | some (.struct _)=>∃ xs,x = .agg xs/\TV P h n t xs
 | _=>TV P h n t [x]
theorem ArgV.mono {h h':Heap} (hp:h <+: h') {n:Nat}{t:TypeId}{x:V} (hx:ArgV P h n t x):ArgV P h' n t x:=by
 unfold ArgV at *
 split at hx
 ·obtain ⟨xs,h1,h2⟩:=hx;exact ⟨xs,h1,TV.mono hp _ _ _ h2⟩
 ·exact TV.mono hp _ _ _ hx
theorem lays_arg {t:TypeId}{v:Value}{d:DataW H}{p:List MemPlace} (hin:Ps P n t=true) (hok:Value.okWide P W r base t v)
  (h0:DataW.Trod enc P W 0 (λ_=>true) true t v d p) {ρ:Rho} (hi:Imp W ρ h):∃ (ρ':Rho) (h':Heap) (x:V),Rle ρ ρ'/\h <+: h'/\Imp W ρ' h'/\VR ρ' x v/\ArgV P h' n t x:=by
 obtain ⟨fuel,hf⟩:=h0;obtain ⟨ρ',h',xs,a1,a2,a3,a4,a5⟩:=zcj n t hin fuel _ _ hf (λa l c hm=>TB hok hm) ρ h hi;unfold Value.okWide at hok;cases hu:P.underlying t with
 | none =>
  cases n with
  | zero=>simp[Ps] at hin
  | succ n=>simp[Ps,hu] at hin
 | some td =>
  have one:(∀ fs,td ≠ .struct fs)->∃ x,xs = [x]/\VR ρ' x v:=λhns=>by
   cases n with
   | zero=>simp[Ps] at hin
   | succ n =>
    simp only[TV,hu] at a5;have hl:=a4.length;have hx:∃ x,xs = [x]:=by
     cases td<;>simp only at a5<;>(try exact a5.elim)
     ·obtain ⟨b,rfl⟩:=a5;exact ⟨_,rfl⟩
     ·obtain ⟨i,rfl,_⟩:=a5;exact ⟨_,rfl⟩
     ·obtain ⟨s,rfl,_⟩:=a5;exact ⟨_,rfl⟩
     ·obtain ⟨a,c,rs,rfl,_⟩:=a5;exact ⟨_,rfl⟩
     ·exact absurd rfl (hns _)
    obtain ⟨x,rfl⟩:=hx;refine ⟨x,rfl,?_⟩;have hns':∀ cs,v ≠ .agg cs:=λcs hv=>by
     subst hv;rw[hu] at hok;cases td<;>simp only[Ps,hu] at hin<;>(try cases hin)<;>simp[Cell.okWide,Cell.ok,hu] at hok
     exact absurd rfl (hns _)
    have hc:v.cells.toList = [v]:=by
     cases v<;>(try rfl)
     ·exact absurd rfl (hns' _)
    rw[hc] at a4;exact a4.uncons.1
  by_cases hs:∃ fs,td = .struct fs
  ·obtain ⟨fs,rfl⟩:=hs;rw[hu] at hok;obtain ⟨cs,rfl,_⟩:=hok;refine ⟨ρ',h',.agg xs,a1,a2,a3,?_,?_⟩
   ·simp only[VR];exact ⟨cs,rfl,by simpa [Value.cells] using a4⟩
   ·simp only[ArgV,hu];exact ⟨xs,rfl,a5⟩
  ·obtain ⟨x,rfl,hx⟩:=one λfs e=>hs ⟨fs,e⟩;refine ⟨ρ',h',x,a1,a2,a3,hx,?_⟩;unfold ArgV;rw[hu];split
   ·rename_i fs' he;injection he with he;exact absurd ⟨_,he⟩ hs
   ·exact a5
theorem imp_nil (W:World):Imp W (λ_=>none) [] :=
 ⟨⟨λb e h=>(by cases h),λb e k h=>(by cases h),λb b' e e' h=>(by cases h)⟩,λb hb=>by simp at hb⟩
theorem law_walk {call:HK} (hS:SC P call) {f:FuncId}{args:List V}{h':Heap}{ρ:Rho} (hk:call h.length f args h=some (.bool true,h')) {cargs:Array Value} (hv:VRs ρ args cargs.toList) (hi:Imp W ρ h) :
  Calls P f cargs W λe w'=>e = .returned (.bool true)/\Below W.heap.size W w':=by
 refine Calls.mono (hS.calls hk (zcz _) hv hi.rel) ?_
 rintro e w' ⟨c,rfl,ρ',h1,h2,h3⟩
 simp only[VR] at h1;subst h1;exact ⟨rfl,⟨h3.os,h3.tape,h3.output,h3.size,λk hk=>h3.frame k hk λb e hb hle=>by
  have:=(hi.rel.dom b e hb).1;omega⟩⟩
end
end Go.Proofs.YtmdgiekbejjjgaaGreat.T
namespace Go.Proofs.YtmdgiekbejjjgaaGreat
open Go T


structure Ver where
 key:Int
 tag:Tag
 past:List Tag
 text:ByteArray
 gone:Bool
structure Node where
 store:List Ver
 wait:List Ver
structure Place where
 me:Int
 clock:Int
 chain:List Node
 log:List Ver
 got:List (List Ver)
 fell:Bool
structure Frame where
 fro:Int
 to:Int
 at':Int
 ver:Ver
abbrev zcc (ro:Bool):Nat:=bif ro then 0 else 30
abbrev Oq (ro:Bool):Nat:=bif ro then 0 else 49
abbrev ZZ (ro:Bool):Nat:=bif ro then 0 else 50
abbrev Ph (ro:Bool):Nat:=bif ro then 0 else 54
abbrev Ver.cs (v:Ver) (a:Pq) (c:Nq):List V := [Iv v.key,Iv v.tag.time,Iv v.tag.place,.sl 2 a v.past.length c,.str v.text,.bool v.gone]
abbrev RTags (ro:Bool):Rel (List Tag):=Sli ro 2 (zcc ro) (flat Tag.cs)
def RVer (ro:Bool):Rel Ver:=λh cs v F=>∃ s,cs = [Iv v.key,Iv v.tag.time,Iv v.tag.place,s,.str v.text,.bool v.gone]/\RTags ro h [s] v.past F
abbrev RVers (ro:Bool):Rel (List Ver):=Sli ro 6 (Oq ro) (RVer ro)
abbrev RVss (ro:Bool):Rel (List (List Ver)):=Sli ro 1 (ZZ ro) (RVers ro)
def RNode (ro:Bool):Rel Node:=λh cs x F=>∃ s1 s2 F1 F2,cs = [s1,s2]/\F=F1++F2/\RVers ro h [s1] x.store F1/\RVers ro h [s2] x.wait F2
abbrev RNodes (ro:Bool):Rel (List Node):=Sli ro 2 (Ph ro) (RNode ro)
def RPlace (ro:Bool):Rel Place:=λh cs p F=>∃ s1 s2 s3 F1 F2 F3,cs = [Iv p.me,Iv p.clock,s1,s2,s3,.bool p.fell]/\F=F1++(F2++F3)/\RNodes ro h [s1] p.chain F1/\RVers ro h [s2] p.log F2/\RVss ro h [s3] p.got F3
def Ui (ro:Bool):Rel Frame:=λh cs f F=>∃ vs,cs = Iv f.fro :: Iv f.to :: Iv f.at' :: vs/\RVer ro h vs f.ver F
theorem rtags_ok {ro:Bool}:(RTags ro).Ok:=Sli.ok DN
theorem rver_ok {ro:Bool}:(RVer ro).Ok :=
 ⟨λh h' cs x F ⟨s,h1,h2⟩ hb=>⟨s,h1,rtags_ok.fr _ _ _ _ _ h2 hb⟩,λh cs x F ⟨s,_,h2⟩=>rtags_ok.bd _ _ _ _ h2⟩
theorem rvers_ok {ro:Bool}:(RVers ro).Ok:=Sli.ok rver_ok
theorem rvss_ok {ro:Bool}:(RVss ro).Ok:=Sli.ok rvers_ok
theorem rnode_ok {ro:Bool}:(RNode ro).Ok:=by
 refine ⟨?_,?_⟩
 ·rintro h h' cs x F ⟨s1,s2,F1,F2,h1,rfl,h2,h3⟩ hb
  exact ⟨s1,s2,F1,F2,h1,rfl,rvers_ok.fr _ _ _ _ _ h2 λb hm=>hb b (by simp[hm]),rvers_ok.fr _ _ _ _ _ h3 λb hm=>hb b (by simp[hm])⟩
 ·rintro h cs x F ⟨s1,s2,F1,F2,h1,rfl,h2,h3⟩ b hb
  rw[zcx] at hb;exact hb.elim (rvers_ok.bd _ _ _ _ h2 b) (rvers_ok.bd _ _ _ _ h3 b)
theorem rnodes_ok {ro:Bool}:(RNodes ro).Ok:=Sli.ok rnode_ok
theorem rplace_ok {ro:Bool}:(RPlace ro).Ok:=by
 refine ⟨?_,?_⟩
 ·rintro h h' cs x F ⟨s1,s2,s3,F1,F2,F3,h1,rfl,h2,h3,h4⟩ hb
  exact ⟨s1,s2,s3,F1,F2,F3,h1,rfl,rnodes_ok.fr _ _ _ _ _ h2 λb hm=>hb b (by simp[hm]),rvers_ok.fr _ _ _ _ _ h3 λb hm=>hb b (by simp[hm]),rvss_ok.fr _ _ _ _ _ h4 λb hm=>hb b (by simp[hm])⟩
 ·rintro h cs x F ⟨s1,s2,s3,F1,F2,F3,h1,rfl,h2,h3,h4⟩ b hb
  rw[zcx,zcx] at hb;rcases hb with hb | hb | hb
  ·exact rnodes_ok.bd _ _ _ _ h2 b hb
  ·exact rvers_ok.bd _ _ _ _ h3 b hb
  ·exact rvss_ok.bd _ _ _ _ h4 b hb
theorem rframe_ok {ro:Bool}:(Ui ro).Ok :=
 ⟨λh h' cs x F ⟨s,h1,h2⟩ hb=>⟨s,h1,rver_ok.fr _ _ _ _ _ h2 hb⟩,λh cs x F ⟨s,_,h2⟩=>rver_ok.bd _ _ _ _ h2⟩
section
variable {ro:Bool}{h:Heap}{F:List Nat}{a:Pq}{c:Nq}{n k:Nat}
theorem RTags.get {l:List Tag} (hs:RTags ro h [.sl 2 a n c] l F) (hk:k<l.length):∃ o,a=some o/\ld h o.1 (o.2+k) 0 2=some [Iv l[k].time,Iv l[k].place]:=by obtain ⟨o,row,G,h1,h2,⟨rfl,_⟩,_⟩:=hs.read hk;exact ⟨o,h1,by rw[h2];rfl⟩
theorem RVer.form {row:List V}{v:Ver} (hv:RVer ro h row v F):∃ s a c,row = [Iv v.key,Iv v.tag.time,Iv v.tag.place,s,.str v.text,.bool v.gone] /\
  (∀ {R':Type} (K:Pq->Nat->Nq->Option R'),eS 2 s K=K a v.past.length c)/\RTags ro h [.sl 2 a v.past.length c] v.past F:=by
 obtain ⟨s,rfl,hp⟩:=hv;obtain ⟨a,c,es,hp2⟩:=hp.form;exact ⟨s,a,c,rfl,es,hp2⟩
theorem RVers.get {l:List Ver} (hs:RVers ro h [.sl 6 a n c] l F) (hk:k<l.length):∃ o s a' c' G,a=some o /\
  ld h o.1 (o.2+k) 0 6=some [Iv l[k].key,Iv l[k].tag.time,Iv l[k].tag.place,s,.str l[k].text,.bool l[k].gone] /\
  (∀ {R':Type} (K:Pq->Nat->Nq->Option R'),eS 2 s K=K a' l[k].past.length c')/\RTags ro h [.sl 2 a' l[k].past.length c'] l[k].past G/\(∀ b∈G,b∈F):=by
 obtain ⟨o,row,G,h1,h2,hv,hG,_⟩:=hs.read hk;obtain ⟨s,a',c',rfl,es,hp⟩:=hv.form;exact ⟨o,s,a',c',G,h1,by rw[h2];rfl,es,hp,hG⟩
theorem RVss.get {l:List (List Ver)} (hs:RVss ro h [.sl 1 a n c] l F) (hk:k<l.length):∃ o s a' c' G,a=some o/\ld h o.1 (o.2+k) 0 1=some [s] /\
  (∀ {R':Type} (K:Pq->Nat->Nq->Option R'),eS 6 s K=K a' l[k].length c')/\RVers ro h [.sl 6 a' l[k].length c'] l[k] G/\(∀ b∈G,b∈F):=by
 obtain ⟨o,row,G,h1,h2,hv,hG,_⟩:=hs.read hk;have:∃ s,row = [s]:=by obtain ⟨R',a',c',e,_⟩:=hv;exact ⟨_,e⟩
 obtain ⟨s,rfl⟩:=this;obtain ⟨a',c',es,hp⟩:=hv.form;exact ⟨o,s,a',c',G,h1,by rw[h2];rfl,es,hp,hG⟩
theorem RNode.form {row:List V}{x:Node} (hv:RNode ro h row x F):∃ s1 s2 a1 c1 a2 c2 F1 F2,row = [s1,s2]/\F=F1++F2 /\
  (∀ {R':Type} (K:Pq->Nat->Nq->Option R'),eS 6 s1 K=K a1 x.store.length c1)/\(∀ {R':Type} (K:Pq->Nat->Nq->Option R'),eS 6 s2 K=K a2 x.wait.length c2) /\
  RVers ro h [.sl 6 a1 x.store.length c1] x.store F1/\RVers ro h [.sl 6 a2 x.wait.length c2] x.wait F2:=by
 obtain ⟨s1,s2,F1,F2,rfl,rfl,h1,h2⟩:=hv;obtain ⟨a1,c1,e1,g1⟩:=h1.form;obtain ⟨a2,c2,e2,g2⟩:=h2.form;exact ⟨s1,s2,a1,c1,a2,c2,F1,F2,rfl,rfl,e1,e2,g1,g2⟩
theorem RNodes.get {l:List Node} (hs:RNodes ro h [.sl 2 a n c] l F) (hk:k<l.length):∃ o s1 s2 a1 c1 a2 c2 F1 F2,a=some o/\ld h o.1 (o.2+k) 0 2=some [s1,s2]/\ld h o.1 (o.2+k) 0 1=some [s1]/\ld h o.1 (o.2+k) 1 1=some [s2] /\
  (∀ {R':Type} (K:Pq->Nat->Nq->Option R'),eS 6 s1 K=K a1 l[k].store.length c1)/\(∀ {R':Type} (K:Pq->Nat->Nq->Option R'),eS 6 s2 K=K a2 l[k].wait.length c2) /\
  RVers ro h [.sl 6 a1 l[k].store.length c1] l[k].store F1/\RVers ro h [.sl 6 a2 l[k].wait.length c2] l[k].wait F2/\(∀ b∈F1,b∈F)/\(∀ b∈F2,b∈F):=by
 obtain ⟨o,row,G,h1,h2,hv,hG,_⟩:=hs.read hk;obtain ⟨s1,s2,a1,c1,a2,c2,F1,F2,rfl,rfl,e1,e2,g1,g2⟩:=hv.form;exact ⟨o,s1,s2,a1,c1,a2,c2,F1,F2,h1,by rw[h2];rfl,by rw[h2];rfl,by rw[h2];rfl,e1,e2,g1,g2,λb hb=>hG b (zdl _ hb),λb hb=>hG b (zdZ _ hb)⟩
theorem RPlace.form {row:List V}{p:Place} (hv:RPlace ro h row p F):∃ s1 s2 s3 a1 c1 a2 c2 a3 c3 F1 F2 F3,row = [Iv p.me,Iv p.clock,s1,s2,s3,.bool p.fell]/\F=F1++(F2++F3) /\
  (∀ {R':Type} (K:Pq->Nat->Nq->Option R'),eS 2 s1 K=K a1 p.chain.length c1)/\(∀ {R':Type} (K:Pq->Nat->Nq->Option R'),eS 6 s2 K=K a2 p.log.length c2) /\
  (∀ {R':Type} (K:Pq->Nat->Nq->Option R'),eS 1 s3 K=K a3 p.got.length c3) /\
  RNodes ro h [.sl 2 a1 p.chain.length c1] p.chain F1/\RVers ro h [.sl 6 a2 p.log.length c2] p.log F2/\RVss ro h [.sl 1 a3 p.got.length c3] p.got F3:=by
 obtain ⟨s1,s2,s3,F1,F2,F3,rfl,rfl,h1,h2,h3⟩:=hv;obtain ⟨a1,c1,e1,g1⟩:=h1.form;obtain ⟨a2,c2,e2,g2⟩:=h2.form;obtain ⟨a3,c3,e3,g3⟩:=h3.form;exact ⟨s1,s2,s3,a1,c1,a2,c2,a3,c3,F1,F2,F3,rfl,rfl,e1,e2,e3,g1,g2,g3⟩
end
theorem E9 {α T:Type}{p:α->Bool}{l:List α} (L:Nat->Option T) (no yes:Option T)
  (step:∀ i (hi:i<l.length),L i=if p l[i]=true then L (i+1) else no) (done:L l.length=yes):L 0=if l.all p=true then yes else no:=by
 have loop:∀ m i,m+i=l.length->L i=if (l.drop i).all p=true then yes else no:=by
  intro m;induction m with
  | zero =>
   intro i hi;have:i=l.length:=by omega
   subst this;rw[done,List.drop_length];simp
  | succ m ih =>
   intro i hi;have hlt:i<l.length:=by omega
   rw[step i hlt,zcM hlt,List.all_cons];cases hp:p l[i]
   ·simp
   ·simpa using ih (i+1) (by omega)
 exact loop l.length 0 (by omega)


section
variable {lo:Nat}{ro:Bool}{h:Heap}{F:List Nat}{a:Pq}{c:Nq}{left:Int}
end
def Dq (l:List Ver):Prop:=l.length<=1048576/\∀ v∈l,v.past.length<=1048576/\v.text.size<=1048576
def zb6 (l:List (List Ver)):Prop:=l.length<=1048576/\∀ v∈l,Dq v
def Dm (l:List Node):Prop:=l.length<=1048576/\∀ x∈l,Dq x.store/\Dq x.wait
def Hp (p:Place):Prop:=Dm p.chain/\Dq p.log/\zb6 p.got
section
variable {lo:Nat}{ro:Bool}{h:Heap}{F:List Nat}{a:Pq}{c:Nq}
abbrev Place.cs (p:Place) (a1:Pq) (c1:Nq) (a2:Pq) (c2:Nq) (a3:Pq) (c3:Nq):List V :=
 [Iv p.me,Iv p.clock,.sl 2 a1 p.chain.length c1,.sl 6 a2 p.log.length c2,.sl 1 a3 p.got.length c3,.bool p.fell]
end


theorem FM {T:Type}{n:Nat} (L:Nat->Option T) (step:∀ i,i<n->L i=L (i+1)):L 0=L n:=by
 have loop:∀ i,i<=n->L 0=L i:=by
  intro i;induction i with
  | zero=>intro _;rfl
  | succ i ih=>intro hi;rw[ih (by omega),step i (by omega)]
 exact loop n (zcz n)
section
variable {lo:Nat}{ro ro':Bool}{h:Heap}{F F':List Nat}{a a':Pq}{c c':Nq}
theorem HE (x:Int):(x==x)=true:=by simp
theorem zcf (x:Bool):(x==x)=true:=by simp
theorem zco (x:List UInt8):(x==x)=true:=by simp
abbrev Frame.cs (f:Frame) (a:Pq) (c:Nq):List V := Iv f.fro :: Iv f.to :: Iv f.at' :: f.ver.cs a c
end
def zb9 {α:Type} (f:Int->α->α) (w:α->Nat):List α->Int->List α
 | [],_ => []
 | x :: r,k=>f k x :: zb9 f w r (k+w x)
def ZA {α:Type} (w:α->Nat) (l:List α):Nat:=(l.map w).sum


abbrev zcs:Int:=1099511627776
abbrev zav (_:Tag):Nat:=2
def zbD (v:Ver):Nat:=5+ZA zav v.past
def UG (l:List Ver):Nat:=ZA zbD l
def Za (x:Node):Nat:=UG x.store+UG x.wait
section
variable {lo:Nat}{h:Heap}{F:List Nat}{a:Pq}{c:Nq}{k:Int}
def zb3 (l:List (List Ver)):Nat:=ZA UG l
def Y9 (l:List Node):Nat:=ZA Za l
end


section
variable {lo:Nat}{h:Heap}{F:List Nat}{a:Pq}{c:Nq}{k:Int}
def Y8 (p:Place):Nat:=Y9 p.chain+UG p.log+zb3 p.got
theorem RPlace.cells {ro:Bool}{p:Place}{a1 a2 a3:Pq}{c1 c2 c3:Nq} (h1:RPlace ro h (p.cs a1 c1 a2 c2 a3 c3) p F) :
  ∃ F1 F2 F3,F=F1++(F2++F3)/\RNodes ro h [.sl 2 a1 p.chain.length c1] p.chain F1/\RVers ro h [.sl 6 a2 p.log.length c2] p.log F2/\RVss ro h [.sl 1 a3 p.got.length c3] p.got F3:=by
 obtain ⟨_,_,_,F1,F2,F3,e1,rfl,r1,r2,r3⟩:=h1;injection e1 with _ e1;injection e1 with _ e1;injection e1 with x1 e1;injection e1 with x2 e1;injection e1 with x3 e1;subst x1;subst x2;subst x3;exact ⟨F1,F2,F3,rfl,r1,r2,r3⟩
end


variable {s:ByteArray}{l p q:List Tag}
def Mc (b:UInt8):Bool:=Ah b.toNat 33 126
def Gy (s:ByteArray):Bool:=s.data.toList.all Mc&&decide ((s.size:Int)<=8)
def BE (p:List Tag):Bool:=decide (p.length=4)&&p.all λt=>B5 t.time t.place
def Bs (p q:List Tag):Bool:=(p.zip q).all λx => !Fu x.2.time x.2.place x.1.time x.1.place
def ER (p:List Tag):Int:=p.foldl (λm t=>if t.time>m then t.time else m) 0
def Iz (s:ByteArray):Bool:=decide (s.size=0)
def Hn (v:Ver):Bool:=Ah v.key 0 3&&Gy v.text&&(!v.gone || Iz v.text)&&BE v.past
def Ck (v:Ver):Bool:=Hn v&&B5 v.tag.time v.tag.place&&decide (ER v.past<v.tag.time)
section
variable {lo:Nat}{ro ro':Bool}{h:Heap}{F F':List Nat}{a a':Pq}{c c':Nq}
theorem SA {i:Nat} (hi:i<s.data.toList.length):OR s (i:Nat)=some (s.data.toList[i]):=by
 unfold OR;have:i<s.size:=by simpa using hi
 simp[this];rfl
theorem RK (hn:s.size<=1048576):Ai lo 183 [.str s] h=some (.bool (Gy s),h):=by
 refine PA (h':=h) ?_;have hl:s.data.toList.length=s.size:=by simp
 refine (E9 (p:=Mc) (l:=s.data.toList) (λi=>CH (List.length h) s false (i:Nat) h) (some (.bool false,h)) (some (.bool (decide ((s.size:Int)<=8)),h)) (λi hi=>?_) ?_).trans ?_
 ·rw[CH.e,Ak (by omega)];simp only[SA hi,Ad,Ar (show i<9223372036854775807 by omega)];unfold Mc Ah;generalize s.data.toList[i]=b;by_cases h1:(b.toNat:Int)<33
  ·rw[Ak h1,if_neg (by simp;omega)]
  ·rw[Aj h1];by_cases h2:(b.toNat:Int)>126
   ·rw[Ak h2,if_neg (by simp;omega)]
   ·rw[Aj h2,if_pos (by simp;omega)]
 ·rw[CH.e,Aj (by omega)];by_cases h3:(s.size:Int)<=8
  ·rw[Ak h3,decide_eq_true h3]
  ·rw[Aj h3,decide_eq_false h3]
 ·unfold Gy;cases s.data.toList.all Mc<;>simp
theorem Ve (hn:s.size<=1048576):Ai lo 169 [.str s] h=some (.bool (Gy s),h):=by
 refine Sq (h':=h) ?_;have hl:s.data.toList.length=s.size:=by simp
 refine (E9 (p:=Mc) (l:=s.data.toList) (λi=>DA (List.length h) s false (s.size:Nat) (i:Nat) h) (some (.bool false,h)) (some (.bool (decide ((s.size:Int)<=8)),h)) (λi hi=>?_) ?_).trans ?_
 ·have hb:s.data.toList[i].toNat<256:=s.data.toList[i].toNat_lt;rw[DA.e,Ak (by omega)];simp only[SA hi,Ad,Ar (show i<9223372036854775807 by omega),Ba,Ac,Ao];rw[wr (by omega) (by omega)];unfold Mc;cases Ah (s.data.toList[i].toNat:Int) 33 126<;>simp
 ·rw[DA.e,Aj (by omega)];by_cases h3:(s.size:Int)<=8
  ·rw[Ak h3,decide_eq_true h3]
  ·rw[Aj h3,decide_eq_false h3]
 ·unfold Gy;cases s.data.toList.all Mc<;>simp
theorem RY {g:Nat}{cl:List V}{p:Tag->Bool} (hs:RTags ro h [.sl 2 a l.length c] l F) (hn:l.length<=1048576)
  (hp:∀ lo d,d∈l->Ai lo g (CR [.agg [Iv d.time,Iv d.place]] cl) h=some (.bool (p d),h)) :
  Ai lo 127 [.sl 2 a l.length c,.fn g cl] h=some (Iv (Bw p l 0),h):=by
 have loop:∀ m k x,m+k=l.length->AJ (List.length h) a l.length c g cl x (l.length:Nat) (k:Nat) h=some (Iv (Bw p (l.drop k) k),h):=by
  intro m;induction m with
  | zero =>intro k x hk;rw[AJ.e,Aj (by omega),show k=l.length by omega];simp[Bw]
  | succ m ih =>
   intro k x hk;have hlt:k<l.length:=by omega
   obtain ⟨o,rfl,ho⟩:=hs.get hlt;rw[AJ.e,Ak (by omega),Ae (by omega)];simp only[Ad,Bb,ho,Aa,Ab,Ag];rw[hp (List.length h) l[k] (by simp),Ac,Ao,zcM hlt];simp only[Bw];cases p l[k]
   ·simp only[Av,cond_false];rw[Ar (by omega)];exact ih (k+1) _ (by omega)
   ·simp
 refine FE (h':=h) ?_;simpa using loop l.length 0 0 (by omega)
theorem IY (hs:RTags ro h [.sl 2 a l.length c] l F) (hn:l.length<=1048576):Ai lo 44 [.agg [.sl 2 a l.length c]] h=some (.bool (BE l),h):=by
 refine Sv (h':=h) ?_;rw[EX (h':=h) (v := .bool (l.any λt => !B5 t.time t.place)) (by
  rw[RY hs hn (p:=λt => !B5 t.time t.place) (λlo d _=>PN (h':=h) (by rw[JT];simp only[Ac,Ao];cases B5 d.time d.place<;>rfl))];simp only[Ac,Ab,J0];rw[E7];simp)]
 unfold BE;by_cases h3:l.length=4
 ·rw[show ((l.length:Int)==4)=true by simp;omega,Am,decide_eq_true h3];simp only[Ac,Ao];rw[zd7];simp only[Bool.not_not,zcJ];cases l.all (λt:Tag=>B5 t.time t.place)<;>rfl
 ·rw[show ((l.length:Int)==4)=false by simp;omega,Av,decide_eq_false h3];rfl
theorem Pd (hs:RTags ro h [.sl 2 a l.length c] l F) (hn:l.length<=1048576):Ai lo 100 [.agg [.sl 2 a l.length c]] h=some (Iv (ER l),h):=by
 have loop:∀ m k x,m+k=l.length->BY (List.length h) x a l.length c (l.length:Nat) (k:Nat) h=some (Iv ((l.drop k).foldl (λm t=>if t.time>m then t.time else m) x),h):=by
  intro m;induction m with
  | zero =>intro k x hk;rw[BY.e,Aj (by omega),show k=l.length by omega];simp
  | succ m ih =>
   intro k x hk;have hlt:k<l.length:=by omega
   obtain ⟨o,rfl,ho⟩:=hs.get hlt;rw[BY.e,Ak (by omega),Ae (by omega)];simp only[Ad,Bb,ho,Aa,Ab,Ag,Ar (show k<9223372036854775807 by omega)];rw[ih (k+1) _ (by omega),zcM hlt,zdr]
 refine Mp (h':=h) ?_;exact loop l.length 0 0 (by omega)
theorem LR:(s.toList==(ByteArray.mk #[]).toList)=Iz s:=by
 unfold Iz;rw[zdC];rw[zd4,zd4];simp only[beq_iff_eq,decide_eq_true_eq];constructor
 ·intro h;have:=congrArg List.length h;simpa using this
 ·intro h;exact zcF (by simpa using h)
theorem MW {v:Ver} (hs:RTags ro h [.sl 2 a v.past.length c] v.past F) (hn:v.past.length<=1048576/\v.text.size<=1048576):Ai lo 128 [.agg (v.cs a c)] h=some (.bool (Hn v),h):=by refine Mk (h':=h) ?_;simp only[Hd,Ve hn.2,IY hs hn.1,LR,Ac,Ao];unfold Hn;cases Ah v.key 0 3<;>cases Gy v.text<;>cases v.gone<;>cases Iz v.text<;>cases BE v.past<;>rfl
theorem JS {v:Ver} (hs:RTags ro h [.sl 2 a v.past.length c] v.past F) (hn:v.past.length<=1048576/\v.text.size<=1048576):Ai lo 82 [.agg (v.cs a c)] h=some (.bool (Ck v),h):=by
 refine Uz (h':=h) ?_;simp only[MW hs hn,JT,Pd hs hn.1,Ac,Ao,Ab];unfold Ck;by_cases hl:ER v.past<v.tag.time
 ·rw[Ak hl,decide_eq_true hl];cases Hn v<;>cases B5 v.tag.time v.tag.place<;>rfl
 ·rw[Aj hl,decide_eq_false hl];cases Hn v<;>cases B5 v.tag.time v.tag.place<;>rfl
theorem QV {x:Int}:∀ {l:List Tag}{m:Int},l.foldl (λm t=>if t.time>m then t.time else m) m<x<->m<x/\∀ t∈l,t.time<x
 | [],m=>by simp
 | t :: l,m=>by
  rw[zdr,QV];simp only[zcD,forall_eq_or_imp];constructor
  ·rintro ⟨h1,h2⟩
   refine ⟨?_,?_,h2⟩<;>(split at h1<;>omega)
  ·rintro ⟨h1,h2,h3⟩
   refine ⟨?_,h3⟩;split<;>omega
theorem latest_lt {x:Int}:ER p<x<->0<x/\∀ t∈p,t.time<x:=QV
theorem GS {t p:Int} (h:B5 t p=true):0<=t/\t<=999/\0<=p/\p<=2:=by simp[B5,Ah] at h;omega
theorem CV (h:BE p=true):p.length=4:=by simp only[BE,CA,decide_eq_true_eq] at h;exact h.1
theorem P4 {T:Type} (L:Nat->Option T) (no yes:Option T) (hl:p.length<=q.length)
  (step:∀ i (hi:i<p.length),L i=if Fu q[i].time q[i].place p[i].time p[i].place=true then no else L (i+1)) (done:L p.length=yes):L 0=if Bs p q=true then yes else no:=by
 have hz:(p.zip q).length=p.length:=by simp;omega
 refine E9 (l:=p.zip q) L no yes (λi hi=>?_) (by rw[hz];exact done);rw[step i (by omega)];simp only[zef];cases Fu q[i].time q[i].place p[i].time p[i].place<;>simp
theorem Ha (hs:RTags ro h [.sl 2 a p.length c] p F) (hs':RTags ro' h [.sl 2 a' q.length c'] q F') (hn:p.length<=1048576) (hl:p.length<=q.length) :
  Ai lo 45 [.agg [.sl 2 a p.length c],.agg [.sl 2 a' q.length c']] h=some (.bool (Bs p q),h):=by
 refine NF (h':=h) ?_;refine (P4 (p:=p) (q:=q) (λi=>Ce (List.length h) false a p.length c (p.length:Nat) (i:Nat) a' q.length c' h) (some (.bool false,h)) (some (.bool true,h)) hl (λi hi=>?_) ?_).trans ?_
 ·obtain ⟨o,rfl,ho⟩:=hs.get hi;obtain ⟨o',rfl,ho'⟩:=hs'.get (show i<q.length by omega);rw[Ce.e,Ak (by omega),Ae hi];simp only[Ad,Bb,ho,ho',Aa,Ab,Ag,Ae (show i<q.length by omega),D7,Ac,Ao,Ar (show i<9223372036854775807 by omega)];cases Fu q[i].time q[i].place p[i].time p[i].place<;>simp
 ·rw[Ce.e,Aj (by omega)]
 ·cases Bs p q<;>rfl
theorem Jd (hs:RTags ro h [.sl 2 a p.length c] p F) (hs':RTags ro' h [.sl 2 a' q.length c'] q F') (hp:p.length=4) (hq:q.length=4) :
  Ai lo 191 [.agg [.sl 2 a p.length c],.agg [.sl 2 a' q.length c']] h=some (.bool (Bs p q),h):=by
 refine PD (h':=h) ?_;refine (P4 (p:=p) (q:=q) (λi=>CI (List.length h) false (i:Nat) a p.length c a' q.length c' h) (some (.bool false,h)) (some (.bool true,h)) (by omega) (λi hi=>?_) ?_).trans ?_
 ·obtain ⟨o,rfl,ho⟩:=hs.get hi;obtain ⟨o',rfl,ho'⟩:=hs'.get (show i<q.length by omega);rw[CI.e,Ak (by omega),Ae (show i<q.length by omega)];simp only[Ad,Bb,ho,ho',Aa,Ab,Ag,Ae hi,Cf,Ac,Ao,Ar (show i<9223372036854775807 by omega)];cases Fu q[i].time q[i].place p[i].time p[i].place<;>simp
 ·rw[CI.e,Aj (by omega)]
 ·cases Bs p q<;>rfl
end


variable {l:List Tag}{α:Type}{El:Rel α}
section
variable {lo:Nat}{ro ro':Bool}{h:Heap}{F F':List Nat}{a a':Pq}{c c':Nq}
theorem Sli.rows {α:Type}{El:Rel α}{R e:Nat}{l:List α} (hs:Sli false R e El h [.sl R a l.length c] l F) :
  ∃ rows Fs,(∀ {T:Type} (K:List (List V)->Option T),Au R h (.sl R a l.length c) K=K rows)/\EAll El h rows l Fs/\∀ b∈Fs.flatten,b∈F:=by
 obtain ⟨R1,a1,c1,e1,g⟩:=hs;injection e1 with e1 _;injection e1 with e0 e2 _ e3;subst e2;subst e3;cases a with
 | none =>obtain ⟨rfl,_,_⟩:=g;exact ⟨[],[],λK=>rfl,trivial,by simp⟩
 | some p =>
  obtain ⟨b,i⟩:=p;obtain ⟨_,rs,Fs,g1,g2,g3,g4,g5,rfl⟩:=g;refine ⟨_,Fs,λK=>?_,g5,λb hb=>zdu _ hb⟩;simp only[Au,IJ,CW];cases hl:l.length with
  | zero=>simp
  | succ n =>rw[hl] at g2;simp only[Et,Heap.rows?,g1,zc7,D2 g2,Ad]
theorem RTags.rows {l:List Tag} (hs:RTags false h [.sl 2 a l.length c] l F) {T:Type} (K:List (List V)->Option T):Au 2 h (.sl 2 a l.length c) K=K (l.map Tag.cs):=by obtain ⟨rows,Fs,h1,h2,_⟩:=Sli.rows hs;rw[h1,h2.of_flat.1]
theorem Sli.fresh {R e n:Nat}{rs:List (List V)} (hn:n<=rs.length):Sli false R e El (h ++ [.rows R e false rs]) [.sl R (some (h.length,0)) 0 (some n)] [] [h.length] :=
 ⟨R,some (h.length,0),some n,rfl,rfl,rs,[],by simp,by simp,λk hk=>by injection hk with hk;subst hk;simpa using hn,λh=>(by cases h),by simp[EAll],by simp⟩
theorem QW:(l.map λ_=>([]:List Nat)).flatten = []:=by induction l<;>simp_all
theorem Lo (hl:lo<=h.length) (hn:l.length<=1048576):∃ a' c' h' F',(∀ {T:Type} (K:V->Heap->Option T),Dd lo 30 2 16 (.sl 2 (some (h.length,0)) 0 (some 0)) (l.map Tag.cs) (h ++ [.rows 2 30 false []]) K=K (.sl 2 a' l.length c') h') /\
  RTags false h' [.sl 2 a' l.length c'] l F'/\Mv h [] h' F':=by
 have h0:RTags false (h ++ [.rows 2 (zcc false) false []]) [.sl 2 (some (h.length,0)) 0 (some 0)] [] [h.length]:=Sli.fresh (zcz _);by_cases he:l = []
 ·subst he;exact ⟨some (h.length,0),some 0,_,_,λK=>rfl,h0,Mv.last⟩
 ·obtain ⟨a',c',h',F',p1,p2,p3,p4,p5,p6⟩:=Sli.push (lo:=lo) (bytes:=16) TW h0 (xs:=l.map Tag.cs) (ys:=l) (Gs:=l.map λ_ => []) EAll.flat (by decide) (by simp;omega) (by simp;omega) (by simp;omega) (by rw[QW];simp) (by rw[QW];simp) he;simp only[zdJ,zcW,zc3] at p1 p2;refine ⟨a',c',h',F',p1,p2,by simp at p3;omega,λb hb _=>?_,p6,λb hb=>?_⟩
  ·rw[p4 b (by simp;omega) (by simp;omega),zcC hb]
  ·simp at p3;rcases p5 b hb with h1 | h1
   ·rw[QW] at h1;simp at h1;exact .inr (by omega)
   ·simp at h1;exact .inr (by omega)
theorem Ep {v:Ver} (hs:RTags false h [.sl 2 a v.past.length c] v.past F) (hl:lo<=h.length) (hn:v.past.length<=1048576) :
  ∃ a' c' h' F',Ai lo 167 [.agg (v.cs a c)] h=some (.agg (v.cs a' c'),h')/\RTags false h' [.sl 2 a' v.past.length c'] v.past F'/\Mv h [] h' F':=by
 obtain ⟨a',c',h',F',e,r⟩:=Lo (l:=v.past) hl hn;refine ⟨a',c',h',F',Sf ?_,r⟩;rw[RTags.rows (Mv.snoc.keep0 rtags_ok hs),e,Af]
theorem WH (hs:RTags false h [.sl 2 a l.length c] l F) (hl:lo<=h.length) (hn:l.length<=1048576) :
  ∃ v h' F',Ai lo 119 [.sl 2 a l.length c] h=some (v,h')/\RTags false h' [v] l F'/\Mv h [] h' F':=by
 cases a with
 | none =>obtain ⟨R1,a1,c1,e1,g⟩:=hs;injection e1 with e1 _;injection e1 with e0 e2 _ e3;subst e2;subst e3;obtain ⟨rfl,_,_⟩:=g;exact ⟨_,h,[],D9 (by rw[show (none:Pq).isNone=true from rfl,Am]),Sli.nil,Mv.nil⟩
 | some p =>obtain ⟨a',c',h',F',e,r⟩:=Lo (l:=l) hl hn;refine ⟨_,h',F',D9 ?_,r⟩;rw[show (some p).isNone=false from rfl,Av,RTags.rows (Mv.snoc.keep0 rtags_ok hs),e,Af]
theorem DQ (hs:RTags false h [.sl 2 a l.length c] l F) (hl:lo<=h.length) (hn:l.length<=1048576) :
  ∃ a' c' h' F',Ai lo 72 [.agg [.sl 2 a l.length c]] h=some (.agg [.sl 2 a' l.length c'],h')/\RTags false h' [.sl 2 a' l.length c'] l F'/\Mv h [] h' F':=by
 obtain ⟨v,h',F',e,r,m⟩:=WH hs hl hn;obtain ⟨a',c',es,r2⟩:=r.form;refine ⟨a',_,h',F',Mq ?_,r2.clip,m⟩;rw[e];simp only[Ac,es];rw[GP (r:=(.sl 2 a' l.length (some l.length),h')) (by rw[Ic r2])];simp only[Ac,Af]
theorem BG {v:Ver} (hs:RTags false h [.sl 2 a v.past.length c] v.past F) (hl:lo<=h.length) (hn:v.past.length<=1048576) :
  ∃ a' c' h' F',Ai lo 73 [.agg (v.cs a c)] h=some (.agg (v.cs a' c'),h')/\RTags false h' [.sl 2 a' v.past.length c'] v.past F'/\Mv h [] h' F':=by
 obtain ⟨a',c',h',F',e,r⟩:=DQ hs hl hn;refine ⟨a',c',h',F',Ny ?_,r⟩;rw[e];simp only[Ac,AO,Aa,Af,Ag]
theorem Tl {l:List Ver}{e0:Pq}{h0:Heap}{n0:Nq}{F0:List Nat}{T:Type} (L:Nat->Pq->Nat->Nq->Heap->Option T) (hs:RVers false h [.sl 6 a l.length c] l F) (hl:lo<=h.length) (hn:Dq l)
  (m0:Mv h [] h0 F0) (h1:RVers false h0 [.sl 6 e0 0 n0] [] F0)
  (step:∀ i (hi:i<l.length) s a2 c2 a1 n1 c1 hh,(i=0->a1=e0/\c1=n0)->(∀ o,a=some o->ld hh o.1 (o.2+i) 0 6=some [Iv l[i].key,Iv l[i].tag.time,Iv l[i].tag.place,s,.str l[i].text,.bool l[i].gone])->(∃ o,a=some o) ->
   (∀ {R':Type} (K:Pq->Nat->Nq->Option R'),eS 2 s K=K a2 l[i].past.length c2)->(∃ G,RTags false hh [.sl 2 a2 l[i].past.length c2] l[i].past G)->lo<=hh.length ->
   ∃ a3 c3 h3 F3,RTags false h3 [.sl 2 a3 l[i].past.length c3] l[i].past F3/\Mv hh [] h3 F3 /\
    L i a1 n1 c1 hh=Dd lo 49 6 72 (.sl 6 a1 n1 c1) [l[i].cs a3 c3] (h3 ++ [.rows 6 49 false [l[i].cs a3 c3]]) λv h=>eS 6 v λa n c=>L (i+1) a n c h) :
  ∃ a' c' h' F',L 0 e0 0 n0 h0=L l.length a' l.length c' h'/\RVers false h' [.sl 6 a' l.length c'] l F'/\Mv h [] h' F':=by
 have hn1:=hn.1;obtain ⟨a',c',h',F',e,r,m⟩:=Md (El:=RVer false) rver_ok (h0:=h0) (l:=l) (g:=λ_ v=>some (id v)) (lo:=lo) (R:=6) (e:=Oq false) (bytes:=72) (b0 := []) (F0:=F0) (a0:=e0) (c0:=n0)
  (zcw hl m0.le) (m0.ge hl (by simp)) m0.nd (by decide) (by simp;omega) L (λi hi a1 c1 hh F1 acc hz hacc hm hr=>by
   have hm':Mv h [] hh []:=(m0.trans hm).drop;obtain ⟨o,s,a2,c2,G,ho,hld,es,hp,_⟩:=(hm'.keep0 rvers_ok hs).get hi;obtain ⟨a3,c3,h3,F3,r3,m3,e3⟩:=step i hi s a2 c2 a1 acc.length c1 hh hz (λo' ho'=>by rw[ho] at ho';injection ho' with ho';subst ho';exact hld) ⟨o,ho⟩ es ⟨G,hp⟩ (zcw hl hm'.le);exact .inr ⟨l[i],l[i].cs a3 c3,F3,_,rfl,⟨_,rfl,Mv.snoc.keep0 rtags_ok r3⟩,m3.trans (Mv.snoc' m3.nd),e3⟩) h1
 rw[Ng,List.map_id,zc3] at e r;exact ⟨a',c',h',F',e,r,m0.trans m⟩
theorem HM {l:List Ver} (hs:RVers false h [.sl 6 a l.length c] l F) (hl:lo<=h.length) (hn:Dq l) :
  ∃ a' c' h' F',Ai lo 117 [.sl 6 a l.length c] h=some (.sl 6 a' l.length c',h')/\RVers false h' [.sl 6 a' l.length c'] l F'/\Mv h [] h' F':=by
 have hn1:=hn.1;obtain ⟨a',c',h',F',e,r,m⟩:=Tl (e0:=some (h.length,0)) (n0:=some l.length) (h0:=h ++ [.rows 6 (Oq false) false (List.replicate l.length [Iv 0,Iv 0,Iv 0,.sl 0 none 0 (some 0),.str ⟨⟨[]⟩⟩,.bool false])])
  (λi a1 n1 c1 hh=>Bf lo a1 n1 c1 a l.length c (l.length:Nat) (i:Nat) hh) hs hl hn Mv.last (Sli.fresh (by simp)) (λi hi s a2 c2 a1 n1 c1 hh hz hld ho es hp hlo=>by
   obtain ⟨o,rfl⟩:=ho;obtain ⟨G,hp⟩:=hp;obtain ⟨a3,c3,h3,F3,e3,r3,m3⟩:=BG (lo:=lo) (v:=l[i]) hp hlo (hn.2 _ (zcv hi)).1;refine ⟨a3,c3,h3,F3,r3,m3,?_⟩;rw[Bf.e,Ak (by omega),Ae hi];simp only[Ad,Bb,hld o rfl,Aa,Ab,es,BH,AM,Ag];rw[e3];simp only[Ac,AO,Aa,Ab,Af,BH,AM,Ag,A9,Ar (show i<9223372036854775807 by omega)])
 refine ⟨a',c',h',F',I7 ?_,r,m⟩;rw[DJ (by omega)];refine e.trans ?_;rw[Bf.e,Aj (by omega)]
theorem GF {l:List Ver} (hs:RVers false h [.sl 6 a l.length c] l F) (hl:lo<=h.length) (hn:Dq l) :
  ∃ a' c' h' F',Ai lo 129 [.agg [.sl 6 a l.length c]] h=some (.agg [.sl 6 a' l.length c'],h')/\RVers false h' [.sl 6 a' l.length c'] l F'/\Mv h [] h' F':=by
 obtain ⟨a',c',h',F',e,r⟩:=HM hs hl hn;refine ⟨a',c',h',F',Lz ?_,r⟩;rw[e];simp only[Ac,Af]
theorem NW {l:List Ver} (hs:RVers false h [.sl 6 a l.length c] l F) (hl:lo<=h.length) (hn:Dq l) :
  ∃ v h' F',Ai lo 196 [.agg [.sl 6 a l.length c]] h=some (.agg [v],h')/\RVers false h' [v] l F'/\Mv h [] h' F':=by
 have hn1:=hn.1;by_cases he:l = []
 ·subst he;exact ⟨_,h,[],IM (by rw[Bz.e,Aj (by simp)]),Sli.nil,Mv.nil⟩
 have hpos:0<l.length:=List.length_pos_iff.2 he;obtain ⟨a',c',h',F',e,r,m⟩:=Tl (e0:=none) (n0:=some 0) (h0:=h)
  (λi a1 n1 c1 hh=>Bz lo (i:Nat) a l.length c 0 none 0 (some 0) (if i=0 then 0 else 6) a1 n1 c1 hh) hs hl hn Mv.nil Sli.nil (λi hi s a2 c2 a1 n1 c1 hh hz hld ho es hp hlo=>by
   obtain ⟨o,rfl⟩:=ho;obtain ⟨G,hp⟩:=hp;obtain ⟨a3,c3,h3,F3,e3,r3,m3⟩:=Ep (lo:=lo) (v:=l[i]) hp hlo (hn.2 _ (zcv hi)).1;refine ⟨a3,c3,h3,F3,r3,m3,?_⟩;rw[Bz.e,Ak (by omega),Ae hi];simp only[Ad,Bb,hld o rfl,Aa,Ab,es,BH,AM,Ag];rw[e3];simp only[Ac,AO,Aa,Ab,Af,BH,AM,Ag,A9,Ar (show i<9223372036854775807 by omega),if_neg (Nat.succ_ne_zero i)];by_cases h0:i=0
   ·obtain ⟨rfl,rfl⟩:=hz h0;rw[zbB]
   ·rw[if_neg h0])
 refine ⟨_,h',F',IM ?_,r,m⟩;refine e.trans ?_;rw[if_neg (by omega),Bz.e,Aj (by omega)]
end
end Go.Proofs.YtmdgiekbejjjgaaGreat
