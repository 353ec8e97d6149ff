/- Part 2 of what is shown for the law Gg, whatever the input; no condition of its own. -/
import Derived.Test.YtoocmbhkaghgnaaGreatBGg1
set_option linter.unusedVariables false
set_option linter.unusedSimpArgs false
set_option linter.unnecessarySimpa false
set_option maxRecDepth 100000
namespace Go.Proofs.YtoocmbhkaghgnaaGreat
open Go T
noncomputable section
variable {lo:Nat}{f:Bool}{args:List V}{h:Heap}{t:Int}{p:Nq}{h':Heap}{v:V}{c:Nq}{n:Nat}{a:Pq}{r:V×Heap}{m:Nat}{b:Pq}{F:Bool}{x:Int}{k i:Nat}{y z w:Int}{l:List V}{d:Pq}{u s:Nq}{j g G H J P n0 n1 n2:Nat}{A B a0 a1 a2 a3:Pq}{C D c0 c1 c2:Nq}{S:ByteArray}
def pd:Nat->Nat->Code->Code
 | 0,_,c=>c
 | k+1,n,c=>match n%10 with
  | 1=>pd k (n/10) (cr c)
  | 2=>pd k (n/10) (cb c)
  | 3=>pd k (n/10) (cl c)
  | 4=>pd k (n/10) (ct c)
  | 5=>pd k (n/10) (ce c)
  | _=>c
def pf (n:Nat) (F:Func):Code:=pd 40 n (code F)
def LA (n:Nat) (F:Func) (p t q lo:Nat) (σ:St):Ov:=Lp (X n) lo (pf p F) t (DY t (kS (X n) lo (pf q F) 0 (VI (X n) F.results.toList))) σ
theorem eK {f:Nat}{fn:Func}{t:Ov}{p:Vh} (hf:Tryz.prog.funcs[f]?=some fn) (hk:t=some p) (hd:I.drop f=false:=by kernel_rfl) (ht:fnT I fn (eval Tryz.prog I) lo f args h=t:=by kernel_rfl):Ae lo f args h=some p:=UK hf hd (ht.trans hk)
theorem eD {f:Nat}{fn:Func}{t:Ov} (hf:Tryz.prog.funcs[f]?=some fn) (hk:t=some (v,h')) (hn:noId v=true) (hd:I.drop f=true:=by kernel_rfl) (ht:fnT I fn (eval Tryz.prog I) h.length f args h=t:=by kernel_rfl):Ae lo f args h=some (v,h):=UL hf hd (ht.trans hk) hn
theorem lE {X:Ctx}{id:Nat}{c:Code}{K:Ex->St->Ov}{σ:St}{t:Ov} (h:exec X lo c id σ (X5 X lo c id K)=t:=by kernel_rfl):Lp X lo c id K σ=t:=Lp_eq.trans h
def Aq lo a n c f F b m p x h:=
 LA 3 Tryz.f3 22131111111 0 11111111 lo ⟨[(3,.sl 5 a n c),(4,.bool f),(5,.bool F),(6,.sl 5 b m p),(7,Iv x)],[],h⟩
def AT lo a n c f F b m p x h:=
 LA 3 Tryz.f3 221311111111 2 111111111 lo ⟨[(3,.sl 5 a n c),(4,.bool f),(5,.bool F),(6,.sl 5 b m p),(8,Iv x)],[],h⟩
theorem HK (hk:(br (decide ((n:Int)>1048576)) (AI h) (Al (Ae lo 7 [.sl 1 a n c] h) λv l=>eS 5 v λv o s=>Al (Ae lo 8 [.sl 5 v o s] l) λl b=>eB l (Al (Ae lo 9 [.sl 5 v o s] b) λl x=>eB l (Al (Ae lo 10 [.sl 5 v o s] x) λl y=>eI .i64 l λl=>br (decide (l<0)) (Al (Ae lo 9 [.sl 5 v o s] y) λl z=>eB l (AI z) (Bj z)) (Aq lo v o s true true (some (y.length,0)) 0 (some 0) 0 (y ++ [.rows 5 31 false []]))) (Al (Ae lo 9 [.sl 5 v o s] x) λl x=>eB l (AI x) (Bj x))) (Al (Ae lo 9 [.sl 5 v o s] b) λl b=>eB l (Al (Ae lo 9 [.sl 5 v o s] b) λl x=>eB l (Bj x) (AI x)) (Al (Ae lo 10 [.sl 5 v o s] b) λl b=>eI .i64 l λl=>br (decide (l<0)) (Al (Ae lo 9 [.sl 5 v o s] b) λl x=>eB l (Bj x) (AI x)) (Aq lo v o s false true (some (b.length,0)) 0 (some 0) 0 (b ++ [.rows 5 31 false []]))))))=some r) :
  Ae lo 3 [.sl 1 a n c] h=some r :=
 eK Tryz.func3 hk
theorem Aq.e :
  Aq lo a n c f F b m p x h=br (decide (x<4)) (br F (Al (Ae lo 11 [.sl 5 a n c,Iv x] h) λv l=>eS 5 v λv o s=>Al (Ae lo 8 [.sl 5 v o s] l) λv l=>eB v (Aq lo a n c f true b m p (AU (x+1)) l) (Aq lo a n c f false b m p (AU (x+1)) l)) (Aq lo a n c f false b m p (AU (x+1)) h)) (AT lo a n c f F b m p 0 h) :=
 by cases F<;>exact lE
theorem AT.e :
  AT lo a n p f F b m c x h=br (decide (x<(n:Int))) (AM x n (eO a λv=>eO (ld h v.1 (v.2+x.toNat) 1 1) λv=>eC v λv l=>eN l (eI .i64 v λv=>br (v==1) (AT lo a n p f F b m c (AU (x+1)) h) (AM x n (eO a λv=>eO (ld h v.1 (v.2+x.toNat) 0 5) λv=>eC v λv l=>eI .i64 v λv=>eC l λl o=>eI .i64 l λl=>eC o λo s=>eI .i64 o λo=>eC s λs y=>eI .i64 s λs=>eC y λy z=>eI .i64 y λy=>eN z (Ap 5 (h ++ [.rows 5 31 false [MG v l o s y]]) (.sl 5 (some (h.length,0)) 1 (some 1)) λz=>CJ lo 31 5 40 (.sl 5 b m c) z (h ++ [.rows 5 31 false [MG v l o s y]]) λv l=>eS 5 v λv o s=>AT lo a n p f F v o s (AU (x+1)) l)))))) (br (F==f) (Al (Ae lo 8 [.sl 5 b m c] h) λv l=>eB v (AI l) (Bj l)) (Bj h)) :=
 lE
def AB lo a n c b m p f F x h:=
 LA 4 Tryz.f4 2213111111 0 1111111 lo ⟨[(1,.sl 1 a n c),(5,.sl 5 b m p),(6,.bool f),(7,.bool F),(8,Iv x)],[],h⟩
theorem JC (hk:(br (decide ((m:Int)>1048576)) (AI h) (br (decide ((n:Int)>1048576)) (AI h) (Al (Ae lo 12 [.sl 1 b m p] h) λv l=>eS 5 v λv o s=>Al (Ae lo 13 [.sl 5 v o s] l) λl x=>eB l (Al (Ae lo 14 [.sl 5 v o s] x) λl y=>eB l (Al (Ae lo 10 [.sl 5 v o s] y) λl z=>eI .i64 l λl=>br (decide (l<0)) (Al (Ae lo 14 [.sl 5 v o s] z) λl u=>eB l (AI u) (Bj u)) (AB lo a n c v o s true true 0 z)) (Al (Ae lo 14 [.sl 5 v o s] y) λl y=>eB l (AI y) (Bj y))) (Al (Ae lo 14 [.sl 5 v o s] x) λl x=>eB l (Al (Ae lo 14 [.sl 5 v o s] x) λl y=>eB l (Bj y) (AI y)) (Al (Ae lo 10 [.sl 5 v o s] x) λl x=>eI .i64 l λl=>br (decide (l<0)) (Al (Ae lo 14 [.sl 5 v o s] x) λl y=>eB l (Bj y) (AI y)) (AB lo a n c v o s false true 0 x))))))=some r) :
  Ae lo 4 [.sl 1 b m p,.sl 1 a n c] h=some r :=
 eK Tryz.func4 hk
theorem AB.e :
  AB lo b m p a n c f F x h=br (decide (x<4)) (br F (Al (Ae lo 11 [.sl 5 a n c,Iv x] h) λv l=>eS 5 v λv o s=>Al (Ae lo 13 [.sl 5 v o s] l) λv l=>eB v (AB lo b m p a n c f true (AU (x+1)) l) (AB lo b m p a n c f false (AU (x+1)) l)) (AB lo b m p a n c f false (AU (x+1)) h)) (br (F==f) (br (!f) (br (!f) (br (!f) (br (!f) (br (!f) (br (!f) (br (!f) (br (!f) (br (!f) (br (!f) (AI h) (some (.tup [],h))) (Al (Ae lo 13 [.tup []] h) λv l=>eB v (br (!f) (AI l) (AI l)) (br (!f) (AI l) (Bj l)))) none) none) none) none) (br (!f) (br (!f) (br (!f) (br (!f) (br (!f) (br (!f) (AI h) (some (.tup [],h))) (Al (Ae lo 13 [.tup []] h) λv l=>eB v (br (!f) (AI l) (AI l)) (br (!f) (AI l) (Bj l)))) none) none) none) (br (!f) (br (!f) (br (!f) (br (!f) (br (!f) (AI h) (some (.tup [],h))) (Al (Ae lo 13 [.tup []] h) λv l=>eB v (br (!f) (AI l) (AI l)) (br (!f) (AI l) (Bj l)))) none) none) (br (!f) (br (!f) (br (!f) (br (!f) (AI h) (some (.tup [],h))) (Al (Ae lo 13 [.tup []] h) λv l=>eB v (br (!f) (AI l) (AI l)) (br (!f) (AI l) (Bj l)))) none) none)))) none) (br (!f) (br (!f) (br (!f) (br (!f) (br (!f) (br (!f) (br (!f) (br (!f) (AI h) (some (.tup [],h))) (Al (Ae lo 13 [.tup []] h) λv l=>eB v (br (!f) (AI l) (AI l)) (br (!f) (AI l) (Bj l)))) none) none) none) none) (br (!f) (br (!f) (br (!f) (br (!f) (br (!f) (br (!f) (AI h) (some (.tup [],h))) (Al (Ae lo 13 [.tup []] h) λv l=>eB v (br (!f) (AI l) (AI l)) (br (!f) (AI l) (Bj l)))) none) none) none) (br (!f) (br (!f) (br (!f) (br (!f) (br (!f) (AI h) (some (.tup [],h))) (Al (Ae lo 13 [.tup []] h) λv l=>eB v (br (!f) (AI l) (AI l)) (br (!f) (AI l) (Bj l)))) none) none) (br (!f) (br (!f) (br (!f) (br (!f) (AI h) (some (.tup [],h))) (Al (Ae lo 13 [.tup []] h) λv l=>eB v (br (!f) (AI l) (AI l)) (br (!f) (AI l) (Bj l)))) none) none)))) (br (!f) (br (!f) (br (!f) (br (!f) (br (!f) (br (!f) (br (!f) (AI h) (some (.tup [],h))) (Al (Ae lo 13 [.tup []] h) λv l=>eB v (br (!f) (AI l) (AI l)) (br (!f) (AI l) (Bj l)))) none) none) none) none) (br (!f) (br (!f) (br (!f) (br (!f) (br (!f) (br (!f) (AI h) (some (.tup [],h))) (Al (Ae lo 13 [.tup []] h) λv l=>eB v (br (!f) (AI l) (AI l)) (br (!f) (AI l) (Bj l)))) none) none) none) (br (!f) (br (!f) (br (!f) (br (!f) (br (!f) (AI h) (some (.tup [],h))) (Al (Ae lo 13 [.tup []] h) λv l=>eB v (br (!f) (AI l) (AI l)) (br (!f) (AI l) (Bj l)))) none) none) (br (!f) (br (!f) (br (!f) (br (!f) (AI h) (some (.tup [],h))) (Al (Ae lo 13 [.tup []] h) λv l=>eB v (br (!f) (AI l) (AI l)) (br (!f) (AI l) (Bj l)))) none) (A8 (decide (AU ((n:Int)+(1:Int))≠(0:Int))) (br (!f) (br (!f) (br (!f) (AI h) (some (.tup [],h))) (Al (Ae lo 13 [.tup []] h) λv l=>eB v (br (!f) (AI l) (AI l)) (br (!f) (AI l) (Bj l)))) none)))))))) (br (!f) (br (!f) (br (!f) (br (!f) (br (!f) (br (!f) (br (!f) (br (!f) (br (!f) (AI h) (some (.tup [],h))) (Al (Ae lo 13 [.tup []] h) λv l=>eB v (br (!f) (AI l) (AI l)) (br (!f) (AI l) (Bj l)))) (Ay a n c none (some (.tup [])) none λv l o=>br (!f) (br (!f) (AI h) (some (.tup [],h))) (Al (Ae lo 13 [.sl 5 v l o] h) λv l=>eB v (br (!f) (AI l) (AI l)) (br (!f) (AI l) (Bj l))))) none) none) none) (br (!f) (br (!f) (br (!f) (br (!f) (br (!f) (br (!f) (AI h) (some (.tup [],h))) (Al (Ae lo 13 [.tup []] h) λv l=>eB v (br (!f) (AI l) (AI l)) (br (!f) (AI l) (Bj l)))) (Ay a n c none (some (.tup [])) none λv l o=>br (!f) (br (!f) (AI h) (some (.tup [],h))) (Al (Ae lo 13 [.sl 5 v l o] h) λv l=>eB v (br (!f) (AI l) (AI l)) (br (!f) (AI l) (Bj l))))) none) none) (br (!f) (br (!f) (br (!f) (br (!f) (br (!f) (AI h) (some (.tup [],h))) (Al (Ae lo 13 [.tup []] h) λv l=>eB v (br (!f) (AI l) (AI l)) (br (!f) (AI l) (Bj l)))) (Ay a n c none (some (.tup [])) none λv l o=>br (!f) (br (!f) (AI h) (some (.tup [],h))) (Al (Ae lo 13 [.sl 5 v l o] h) λv l=>eB v (br (!f) (AI l) (AI l)) (br (!f) (AI l) (Bj l))))) none) (br (!f) (br (!f) (br (!f) (br (!f) (AI h) (some (.tup [],h))) (Al (Ae lo 13 [.tup []] h) λv l=>eB v (br (!f) (AI l) (AI l)) (br (!f) (AI l) (Bj l)))) (Ay a n c none (some (.tup [])) none λv l o=>br (!f) (br (!f) (AI h) (some (.tup [],h))) (Al (Ae lo 13 [.sl 5 v l o] h) λv l=>eB v (br (!f) (AI l) (AI l)) (br (!f) (AI l) (Bj l))))) none)))) none) (br (!f) (br (!f) (br (!f) (br (!f) (br (!f) (br (!f) (br (!f) (br (!f) (AI h) (some (.tup [],h))) (Al (Ae lo 13 [.tup []] h) λv l=>eB v (br (!f) (AI l) (AI l)) (br (!f) (AI l) (Bj l)))) (Ay a n c none (some (.tup [])) none λv l o=>br (!f) (br (!f) (AI h) (some (.tup [],h))) (Al (Ae lo 13 [.sl 5 v l o] h) λv l=>eB v (br (!f) (AI l) (AI l)) (br (!f) (AI l) (Bj l))))) none) none) none) (br (!f) (br (!f) (br (!f) (br (!f) (br (!f) (br (!f) (AI h) (some (.tup [],h))) (Al (Ae lo 13 [.tup []] h) λv l=>eB v (br (!f) (AI l) (AI l)) (br (!f) (AI l) (Bj l)))) (Ay a n c none (some (.tup [])) none λv l o=>br (!f) (br (!f) (AI h) (some (.tup [],h))) (Al (Ae lo 13 [.sl 5 v l o] h) λv l=>eB v (br (!f) (AI l) (AI l)) (br (!f) (AI l) (Bj l))))) none) none) (br (!f) (br (!f) (br (!f) (br (!f) (br (!f) (AI h) (some (.tup [],h))) (Al (Ae lo 13 [.tup []] h) λv l=>eB v (br (!f) (AI l) (AI l)) (br (!f) (AI l) (Bj l)))) (Ay a n c none (some (.tup [])) none λv l o=>br (!f) (br (!f) (AI h) (some (.tup [],h))) (Al (Ae lo 13 [.sl 5 v l o] h) λv l=>eB v (br (!f) (AI l) (AI l)) (br (!f) (AI l) (Bj l))))) none) (br (!f) (br (!f) (br (!f) (br (!f) (AI h) (some (.tup [],h))) (Al (Ae lo 13 [.tup []] h) λv l=>eB v (br (!f) (AI l) (AI l)) (br (!f) (AI l) (Bj l)))) (Ay a n c none (some (.tup [])) none λv l o=>br (!f) (br (!f) (AI h) (some (.tup [],h))) (Al (Ae lo 13 [.sl 5 v l o] h) λv l=>eB v (br (!f) (AI l) (AI l)) (br (!f) (AI l) (Bj l))))) none)))) (br (!f) (br (!f) (br (!f) (br (!f) (br (!f) (br (!f) (br (!f) (AI h) (some (.tup [],h))) (Al (Ae lo 13 [.tup []] h) λv l=>eB v (br (!f) (AI l) (AI l)) (br (!f) (AI l) (Bj l)))) (Ay a n c none (some (.tup [])) none λv l o=>br (!f) (br (!f) (AI h) (some (.tup [],h))) (Al (Ae lo 13 [.sl 5 v l o] h) λv l=>eB v (br (!f) (AI l) (AI l)) (br (!f) (AI l) (Bj l))))) none) none) none) (br (!f) (br (!f) (br (!f) (br (!f) (br (!f) (br (!f) (AI h) (some (.tup [],h))) (Al (Ae lo 13 [.tup []] h) λv l=>eB v (br (!f) (AI l) (AI l)) (br (!f) (AI l) (Bj l)))) (Ay a n c none (some (.tup [])) none λv l o=>br (!f) (br (!f) (AI h) (some (.tup [],h))) (Al (Ae lo 13 [.sl 5 v l o] h) λv l=>eB v (br (!f) (AI l) (AI l)) (br (!f) (AI l) (Bj l))))) none) none) (br (!f) (br (!f) (br (!f) (br (!f) (br (!f) (AI h) (some (.tup [],h))) (Al (Ae lo 13 [.tup []] h) λv l=>eB v (br (!f) (AI l) (AI l)) (br (!f) (AI l) (Bj l)))) (Ay a n c none (some (.tup [])) none λv l o=>br (!f) (br (!f) (AI h) (some (.tup [],h))) (Al (Ae lo 13 [.sl 5 v l o] h) λv l=>eB v (br (!f) (AI l) (AI l)) (br (!f) (AI l) (Bj l))))) none) (br (!f) (br (!f) (br (!f) (br (!f) (AI h) (some (.tup [],h))) (Al (Ae lo 13 [.tup []] h) λv l=>eB v (br (!f) (AI l) (AI l)) (br (!f) (AI l) (Bj l)))) (Ay a n c none (some (.tup [])) none λv l o=>br (!f) (br (!f) (AI h) (some (.tup [],h))) (Al (Ae lo 13 [.sl 5 v l o] h) λv l=>eB v (br (!f) (AI l) (AI l)) (br (!f) (AI l) (Bj l))))) (A8 (decide (AU ((n:Int)+(1:Int))≠(0:Int))) (br (!f) (br (!f) (br (!f) (AI h) (some (.tup [],h))) (Al (Ae lo 13 [.tup []] h) λv l=>eB v (br (!f) (AI l) (AI l)) (br (!f) (AI l) (Bj l)))) (Ay a n c none (some (Iv ((m:Int).tmod (AU ((n:Int)+(1:Int)))))) none λv l o=>br (!f) (br (!f) (AI h) (some (.tup [],h))) (Al (Ae lo 13 [.sl 5 v l o] h) λv l=>eB v (br (!f) (AI l) (AI l)) (br (!f) (AI l) (Bj l))))))))))))) (Bj h)) :=
 by cases F<;>exact lE
def Aw lo a n c f F x h:=
 LA 5 Tryz.f5 2213111111 0 1111111 lo ⟨[(3,.sl 5 a n c),(4,.bool f),(5,.bool F),(6,Iv x)],[],h⟩
theorem Ih (hk:(br (decide ((n:Int)>1048576)) (AI h) (Al (Ae lo 15 [.sl 1 a n c] h) λv l=>eS 5 v λv o s=>Al (Ae lo 16 [.sl 5 v o s] l) λl b=>eB l (Al (Ae lo 17 [.sl 5 v o s] b) λl x=>eB l (Al (Ae lo 10 [.sl 5 v o s] x) λl y=>eI .i64 l λl=>br (decide (l<0)) (Al (Ae lo 17 [.sl 5 v o s] y) λl z=>eB l (AI z) (Bj z)) (Aw lo v o s true true 0 y)) (Al (Ae lo 17 [.sl 5 v o s] x) λl x=>eB l (AI x) (Bj x))) (Al (Ae lo 17 [.sl 5 v o s] b) λl b=>eB l (Al (Ae lo 17 [.sl 5 v o s] b) λl x=>eB l (Bj x) (AI x)) (Al (Ae lo 10 [.sl 5 v o s] b) λl b=>eI .i64 l λl=>br (decide (l<0)) (Al (Ae lo 17 [.sl 5 v o s] b) λl x=>eB l (Bj x) (AI x)) (Aw lo v o s false true 0 b)))))=some r) :
  Ae lo 5 [.sl 1 a n c] h=some r :=
 eK Tryz.func5 hk
theorem Aw.e :
  Aw lo a n c f F x h=br (decide (x<4)) (br F (Al (Ae lo 11 [.sl 5 a n c,Iv x] h) λv l=>eS 5 v λv o s=>Al (Ae lo 16 [.sl 5 v o s] l) λv l=>eB v (Aw lo a n c f true (AU (x+1)) l) (Aw lo a n c f false (AU (x+1)) l)) (Aw lo a n c f false (AU (x+1)) h)) (br (F==f) (AI h) (Bj h)) :=
 by cases F<;>exact lE
theorem Lc (hk:(br (decide ((n:Int)>1048576)) (AI h) (Al (Ae lo 18 [.sl 1 a n c] h) λv l=>eS 5 v λv o s=>Al (Ae lo 19 [.sl 5 v o s] l) λl b=>eB l (Al (Ae lo 20 [.sl 5 v o s] b) λl x=>eB l (Al (Ae lo 21 [.sl 5 v o s] x) λl y=>eB l (Al (Ae lo 16 [.sl 5 v o s] y) λl z=>eB l (Al (Ae lo 13 [.sl 5 v o s] z) λl u=>eB l (Al (Ae lo 8 [.sl 5 v o s] u) λl w=>eB l (AI w) (Bj w)) (Bj u)) (Bj z)) (Al (Ae lo 20 [.sl 5 v o s] y) λl y=>eB l (AI y) (Bj y))) (Al (Ae lo 20 [.sl 5 v o s] x) λl x=>eB l (AI x) (Bj x))) (Al (Ae lo 20 [.sl 5 v o s] b) λl b=>eB l (Al (Ae lo 20 [.sl 5 v o s] b) λl x=>eB l (Bj x) (AI x)) (Al (Ae lo 21 [.sl 5 v o s] b) λl b=>eB l (Bj b) (Al (Ae lo 20 [.sl 5 v o s] b) λv l=>eB v (Bj l) (AI l))))))=some r) :
  Ae lo 6 [.sl 1 a n c] h=some r :=
 eK Tryz.func6 hk
theorem Ha (hk:(Al (Ae lo 23 [.sl 1 a n c] h) λv l=>eP v λv=>Al (Ae lo 22 [.ptr v] l) λv l=>eS 5 v λv o s=>some (.sl 5 v o s,l))=some r) :
  Ae lo 7 [.sl 1 a n c] h=some r :=
 eK Tryz.func7 hk
def A6 lo f n m k a i c x y h:=
 LA 8 Tryz.f8 2213111 0 1111 lo ⟨[(2,.bool f),(3,(CL n m k)),(9,.sl 5 a i c),(10,Iv x),(11,Iv y)],[],h⟩
theorem FG (hk:(Al (Ae h.length 24 [.sl 5 a n c] h) λl o=>eB l (A6 h.length false o.length 0 0 a n c (n:Int) 0 (o ++ [.rows 4 37 false [[Iv 0,Iv 0,Iv 0,Iv 0]]])) (Bj o))=some (v,h')) (hn:noId v=true:=by rfl) :
  Ae lo 8 [.sl 5 a n c] h=some (v,h) :=
 eD Tryz.func8 hk hn
theorem A6.e :
  A6 lo f n m k a i c y x h=br (decide (x<y)) (AM x i (eO a λv=>eO (ld h v.1 (v.2+x.toNat) 0 5) λv=>eC v λv l=>eI .i64 v λv=>eC l λl o=>eI .i64 l λl=>eC o λo s=>eI .i64 o λo=>eC s λo s=>eI .i64 o λo=>eC s λs b=>eI .i64 s λs=>eN b (br (l==1) (AM v 4 (eO (ld h n m (k+(v.toNat*1)) 1) λl=>eC l λl s=>eN s (eI .i64 l λl=>br (decide (o<=l)) (Bj h) (A6 lo f n m k a i c y (AU (x+1)) h)))) (AM v 4 (eO (ld h n m (k+(v.toNat*1)) 1) λl=>eC l λl s=>eN s (eI .i64 l λl=>AM v 4 (eO (st lo h n m (k+(v.toNat*1)) (AP (if o>l then o else l))) λv=>A6 lo f n m k a i c y (AU (x+1)) v))))))) (AI h) :=
 lE
def AO lo a n c f x h:=
 LA 9 Tryz.f9 221311 0 111 lo ⟨[(0,.sl 5 a n c),(2,.bool f),(3,Iv x)],[],h⟩
def AS lo a n c f x y h:=
 Lp (X 9) lo (pf 221231221311 Tryz.f9) 2 (DY 2 (DY 1 (kS (X 9) lo (pf 11221311 Tryz.f9) 0 (X5 (X 9) lo (pf 221311 Tryz.f9) 0 (DY 0 (kS (X 9) lo (pf 111 Tryz.f9) 0 (VI (X 9) Tryz.f9.results.toList))))))) ⟨[(0,.sl 5 a n c),(2,.bool f),(3,Iv x),(4,Iv y)],[],h⟩
theorem IF (hk:(Al (Ae h.length 25 [.sl 5 a n c] h) λl o=>eB l (AO h.length a n c false 0 o) (Bj o))=some (v,h')) (hn:noId v=true:=by rfl) :
  Ae lo 9 [.sl 5 a n c] h=some (v,h) :=
 eD Tryz.func9 hk hn
theorem AO.e :
  AO lo a n c f x h=br (decide (x<(n:Int))) (AS lo a n c f x 0 h) (AI h) :=
 lE
theorem AS.e :
  AS lo a n c f x y h=br (decide (y<x)) (AM x n (eO a λv=>eO (ld h v.1 (v.2+x.toNat) 1 1) λv=>eC v λv l=>eN l (eI .i64 v λv=>br (v==1) (AM y n (eO a λv=>eO (ld h v.1 (v.2+y.toNat) 0 1) λv=>eC v λv l=>eN l (eI .i64 v λv=>AM x n (eO a λl=>eO (ld h l.1 (l.2+x.toNat) 0 1) λl=>eC l λl o=>eN o (eI .i64 l λl=>br (v==l) (AM y n (eO a λv=>eO (ld h v.1 (v.2+y.toNat) 1 1) λv=>eC v λv l=>eN l (eI .i64 v λv=>br (v==1) (AS lo a n c f x (AU (y+1)) h) (AM y n (eO a λv=>eO (ld h v.1 (v.2+y.toNat) 3 1) λv=>eC v λv l=>eN l (eI .i64 v λv=>AM x n (eO a λl=>eO (ld h l.1 (l.2+x.toNat) 3 1) λl=>eC l λl o=>eN o (eI .i64 l λl=>br (decide (v>=l)) (Bj h) (AS lo a n c f x (AU (y+1)) h))))))))) (AS lo a n c f x (AU (y+1)) h)))))) (AO lo a n c f (AU (x+1)) h)))) (AO lo a n c f (AU (x+1)) h) :=
 lE
theorem M5 (hk:(Al (Ae h.length 24 [.sl 5 a n c] h) λl o=>eB l (Al (Ae h.length 26 [.sl 5 a n c] o) λl s=>eU l λl=>eC l λl b=>eP l λl=>eC b λl b=>eI .i64 l λl=>eN b (some (Iv l,s))) (some (Iv (-1),o)))=some (v,h')) (hn:noId v=true:=by rfl) :
  Ae lo 10 [.sl 5 a n c] h=some (v,h) :=
 eD Tryz.func10 hk hn
def Bf lo x a n c b m p y z h:=
 LA 11 Tryz.f11 2213111 0 1111 lo ⟨[(1,Iv x),(5,.sl 5 a n c),(14,.sl 5 b m p),(15,Iv y),(16,Iv z)],[],h⟩
theorem GE (hk:(Al (Ae lo 24 [.sl 5 a n c] h) λv l=>eB v (A8 (decide ((0:Int)<=0/\(0:Int)<=(n:Int)/\(n:Int)<=140737488355328/\(n:Int)*((40:Nat):Int)<=281474976710656)) (Bf lo x (some (l.length,0)) 0 (some n) a n c (n:Int) 0 (l ++ [.rows 5 31 false (List.replicate n (MG 0 0 0 0 0))]))) (some (.sl 0 none 0 (some 0),l)))=some r) :
  Ae lo 11 [.sl 5 a n c,Iv x] h=some r :=
 eK Tryz.func11 hk
theorem Bf.e :
  Bf lo y a n c b m p z x h=br (decide (x<z)) (AM x m (eO b λv=>eO (ld h v.1 (v.2+x.toNat) 0 5) λv=>eC v λv l=>eI .i64 v λv=>eC l λl o=>eI .i64 l λl=>eC o λo s=>eI .i64 o λo=>eC s λs u=>eI .i64 s λs=>eC u λu w=>eI .i64 u λu=>eN w (br (v==y) (Ap 5 (h ++ [.rows 5 31 false [MG v l o s u]]) (.sl 5 (some (h.length,0)) 1 (some 1)) λw=>CJ lo 31 5 40 (.sl 5 a n c) w (h ++ [.rows 5 31 false [MG v l o s u]]) λv l=>eS 5 v λv o s=>Bf lo y v o s b m p z (AU (x+1)) l) (Bf lo y a n c b m p z (AU (x+1)) h)))) (Ay a n c none (some (Iv (n:Int))) (some (Iv (n:Int))) λv l o=>some (.sl 5 v l o,h)) :=
 lE
theorem Ig (hk:(Al (Ae lo 23 [.sl 1 a n c] h) λv l=>eP v λv=>Al (Ae lo 22 [.ptr v] l) λv l=>eS 5 v λv o s=>some (.sl 5 v o s,l))=some r) :
  Ae lo 12 [.sl 1 a n c] h=some r :=
 eK Tryz.func12 hk
theorem Lh (hk:(Al (Ae h.length 27 [.sl 5 a n c,Iv 3] h) λl o=>eB l (AI o) (Bj o))=some (v,h')) (hn:noId v=true:=by rfl) :
  Ae lo 13 [.sl 5 a n c] h=some (v,h) :=
 eD Tryz.func13 hk hn
def Bt lo a n c f x h:=
 LA 14 Tryz.f14 221311 0 111 lo ⟨[(0,.sl 5 a n c),(2,.bool f),(3,Iv x)],[],h⟩
theorem La (hk:(Al (Ae h.length 25 [.sl 5 a n c] h) λl o=>eB l (Bt h.length a n c false 0 o) (Bj o))=some (v,h')) (hn:noId v=true:=by rfl) :
  Ae lo 14 [.sl 5 a n c] h=some (v,h) :=
 eD Tryz.func14 hk hn
theorem Bt.e :
  Bt lo a n c f x h=br (decide (x<(n:Int))) (AM x n (eO a λv=>eO (ld h v.1 (v.2+x.toNat) 1 1) λv=>eC v λv l=>eN l (eI .i64 v λv=>br (v==2) (Al (Ae lo 28 [.sl 5 a n c,Iv x,Iv 3,Iv 3] h) λv l=>eB v (Bj l) (Bt lo a n c f (AU (x+1)) l)) (Bt lo a n c f (AU (x+1)) h)))) (AI h) :=
 lE
theorem Hg (hk:(Al (Ae lo 23 [.sl 1 a n c] h) λv l=>eP v λv=>Al (Ae lo 22 [.ptr v] l) λv l=>eS 5 v λv o s=>some (.sl 5 v o s,l))=some r) :
  Ae lo 15 [.sl 1 a n c] h=some r :=
 eK Tryz.func15 hk
theorem JD (hk:(Al (Ae h.length 27 [.sl 5 a n c,Iv 2] h) λl o=>eB l (AI o) (Bj o))=some (v,h')) (hn:noId v=true:=by rfl) :
  Ae lo 16 [.sl 5 a n c] h=some (v,h) :=
 eD Tryz.func16 hk hn
def A9 lo a n c f x h:=
 LA 17 Tryz.f17 221311 0 111 lo ⟨[(0,.sl 5 a n c),(2,.bool f),(3,Iv x)],[],h⟩
theorem JB (hk:(Al (Ae h.length 25 [.sl 5 a n c] h) λl o=>eB l (A9 h.length a n c false 0 o) (Bj o))=some (v,h')) (hn:noId v=true:=by rfl) :
  Ae lo 17 [.sl 5 a n c] h=some (v,h) :=
 eD Tryz.func17 hk hn
theorem A9.e :
  A9 lo a n c f x h=br (decide (x<(n:Int))) (AM x n (eO a λv=>eO (ld h v.1 (v.2+x.toNat) 1 1) λv=>eC v λv l=>eN l (eI .i64 v λv=>br (v==2) (Al (Ae lo 28 [.sl 5 a n c,Iv x,Iv 2,Iv 2] h) λv l=>eB v (Bj l) (A9 lo a n c f (AU (x+1)) l)) (A9 lo a n c f (AU (x+1)) h)))) (AI h) :=
 lE
theorem GC (hk:(Al (Ae lo 23 [.sl 1 a n c] h) λv l=>eP v λv=>Al (Ae lo 22 [.ptr v] l) λv l=>eS 5 v λv o s=>some (.sl 5 v o s,l))=some r) :
  Ae lo 18 [.sl 1 a n c] h=some r :=
 eK Tryz.func18 hk
def AR lo f n a m c x y h:=
 LA 19 Tryz.f19 2213111 0 1111 lo ⟨[(2,.bool f),(3,.map (some n)),(11,.sl 5 a m c),(12,Iv x),(13,Iv y)],[],h⟩
theorem EP (hk:(Al (Ae h.length 24 [.sl 5 a n c] h) λl o=>eB l (AR h.length false o.length a n c (n:Int) 0 (o ++ [.map 43 []])) (Bj o))=some (v,h')) (hn:noId v=true:=by rfl) :
  Ae lo 19 [.sl 5 a n c] h=some (v,h) :=
 eD Tryz.func19 hk hn
theorem AR.e :
  AR lo f n a m c y x h=br (decide (x<y)) (AM x m (eO a λv=>eO (ld h v.1 (v.2+x.toNat) 0 5) λv=>eC v λv l=>eI .i64 v λv=>eC l λv l=>eI .i64 v λv=>eC l λl o=>eI .i64 l λl=>eC o λo s=>eI .i64 o λo=>eC s λs b=>eI .i64 s λs=>eN b (br (v==1) (eO (Heap.kv? h n) λv=>A8 (lo.ble n) (eO (Gi (Xz l o s) (.bool true) v) λv=>AR lo f n a m c y (AU (x+1)) (List.set h n (.map 43 v)))) (br ((o==0)&&((s==0)&&true)) (AR lo f n a m c y (AU (x+1)) h) (eO (Heap.kv? h n) λv=>eO (EI (Xz l o s) v) λv=>eB (UV v (.bool false)) (AR lo f n a m c y (AU (x+1)) h) (Bj h)))))) (AI h) :=
 lE
def AQ lo a n c f x h:=
 LA 20 Tryz.f20 221311 0 111 lo ⟨[(0,.sl 5 a n c),(2,.bool f),(3,Iv x)],[],h⟩
theorem If (hk:(Al (Ae h.length 25 [.sl 5 a n c] h) λl o=>eB l (AQ h.length a n c false 0 o) (Bj o))=some (v,h')) (hn:noId v=true:=by rfl) :
  Ae lo 20 [.sl 5 a n c] h=some (v,h) :=
 eD Tryz.func20 hk hn
theorem AQ.e :
  AQ lo a n c f x h=br (decide (x<(n:Int))) (AM x n (eO a λv=>eO (ld h v.1 (v.2+x.toNat) 1 1) λv=>eC v λv l=>eN l (eI .i64 v λv=>br (v==1) (AQ lo a n c f (AU (x+1)) h) (AM x n (eO a λv=>eO (ld h v.1 (v.2+x.toNat) 3 1) λv=>eC v λv l=>eN l (eI .i64 v λv=>br (decide (v>0)) (AM x n (eO a λv=>eO (ld h v.1 (v.2+x.toNat) 2 1) λv=>eC v λv l=>eN l (eI .i64 v λv=>AM x n (eO a λl=>eO (ld h l.1 (l.2+x.toNat) 3 2) λl=>eC l λl o=>eI .i64 l λl=>eC o λo s=>eI .i64 o λo=>eN s (Al (Ae lo 29 [.sl 5 a n c,Iv x,Iv v,Am l o] h) λv l=>eB v (AQ lo a n c f (AU (x+1)) l) (Bj l)))))) (AQ lo a n c f (AU (x+1)) h))))))) (AI h) :=
 lE
theorem NV (hk:(Al (Ae h.length 30 [.sl 5 a n c] h) λl o=>eU l λl=>eC l λl s=>eP l λl=>eC s λl s=>eB l (eN s (AI o)) (eN s (Bj o)))=some (v,h')) (hn:noId v=true:=by rfl) :
  Ae lo 21 [.sl 5 a n c] h=some (v,h) :=
 eD Tryz.func21 hk hn
theorem MX (hk:(Al (Ae lo 31 [CL n m k] (h ++ [.rows 5 31 false []])) λv l=>eA v λv=>eC v λv c=>eS 6 v λv v v=>eC c λv c=>eS 5 v λv v v=>eC c λv c=>eS 9 v λv v v=>eC c λv c=>eS 5 v λv a o=>eN c (Ap 5 l (.sl 5 v a o) λv=>CJ lo 31 5 40 (.sl 5 (some (h.length,0)) 0 (some 0)) v l λv l=>eS 5 v λv c a=>br (decide ((c:Int)>0)) (Al (Ae lo 32 [CL n m k,Iv 3] l) λo s=>eI .i64 o λo=>br (o==0) (Al (Ae lo 32 [CL n m k,Iv (c:Int)] s) λo b=>eI .i64 o λo=>Al (Ae lo 32 [CL n m k,Iv 5] b) λb x=>eI .i64 b λb=>br (b==0) (Al (Ae lo 33 [CL n m k] x) λy z=>eA y λy=>eC y λy u=>eI .i64 y λy=>eC u λu w=>eI .i64 u λu=>eN w (AM o c (eO v λw=>eO (st lo z w.1 (w.2+o.toNat) 3 (BU y u)) λy=>some (.sl 5 v c a,y)))) (br (b==1) (Al (Ae lo 32 [CL n m k,Iv 5] x) λy z=>eI .i64 y λy=>AM o c (eO v λu=>eO (st lo z u.1 (u.2+o.toNat) 1 (AP y)) λy=>some (.sl 5 v c a,y))) (br (b==2) (Al (Ae lo 32 [CL n m k,Iv 5] x) λy z=>eI .i64 y λy=>AM o c (eO v λu=>eO (st lo z u.1 (u.2+o.toNat) 2 (AP y)) λy=>some (.sl 5 v c a,y))) (br (b==3) (Al (Ae lo 32 [CL n m k,Iv 5] x) λb y=>eI .i64 b λb=>AM o c (eO v λz=>eO (st lo y z.1 (z.2+o.toNat) 0 (AP b)) λb=>some (.sl 5 v c a,b))) (Ay v c a none (some (Iv o)) none λb y z=>Ay v c a (some (Iv (AU (o+1)))) none none λo u w=>Ap 5 x (.sl 5 o u w) λo=>CJ lo 31 5 40 (.sl 5 b y z) o x λo b=>eS 5 o λo x y=>some (.sl 5 o x y,b)))))) (some (.sl 5 v c a,s))) (some (.sl 5 v c a,l))))=some r) :
  Ae lo 22 [CL n m k] h=some r :=
 eK Tryz.func22 hk
theorem MW (hk:(br (decide ((n:Int)>2000)) (Ay a n c none (some (Iv 2000)) none λv l o=>some (.ptr (some (h.length,(0,0))),(h ++ [.rows 2 58 false [[.sl 1 v l o,Iv 0]]]))) (some (.ptr (some (h.length,(0,0))),(h ++ [.rows 2 58 false [[.sl 1 a n c,Iv 0]]]))))=some r) :
  Ae lo 23 [.sl 1 a n c] h=some r :=
 eK Tryz.func23 hk
theorem NT (hk:(br (decide ((n:Int)<=80)) (Al (Ae h.length 34 [.sl 5 a n c,.fn 35 []] h) λl o=>eB l (Bj o) (AI o)) (Bj h))=some (v,h')) (hn:noId v=true:=by rfl) :
  Ae lo 24 [.sl 5 a n c] h=some (v,h) :=
 eD Tryz.func24 hk hn
def B4 lo a n c f x h:=
 LA 25 Tryz.f25 22131 0 11 lo ⟨[(0,.sl 5 a n c),(2,.bool f),(3,Iv x)],[],h⟩
theorem Nt (hk:(B4 h.length a n c false 0 h)=some (v,h')) (hn:noId v=true:=by rfl) :
  Ae lo 25 [.sl 5 a n c] h=some (v,h) :=
 eD Tryz.func25 hk hn
theorem B4.e :
  B4 lo a n c f x h=br (decide (x<(n:Int))) (AM x n (eO a λv=>eO (ld h v.1 (v.2+x.toNat) 0 5) λv=>eC v λv l=>eI .i64 v λv=>eC l λl o=>eI .i64 l λl=>eC o λo s=>eI .i64 o λo=>eC s λs b=>eI .i64 s λs=>eC b λb y=>eI .i64 b λb=>eN y (Al (Ae lo 39 [Ox v l o s b] h) λv l=>eB v (B4 lo a n c f (AU (x+1)) l) (Bj l)))) (br (decide ((n:Int)<=80)) (AI h) (Bj h)) :=
 lE
def BN lo a n c p0 x p1 b m p y z h:=
 LA 26 Tryz.f26 221311 0 111 lo ⟨[(0,.sl 5 a n c),(2,.ptr p0),(3,Iv x),(4,.ptr p1),(8,.sl 5 b m p),(9,Iv y),(10,Iv z)],[],h⟩
theorem NU (hk:(Al (Ae lo 40 [] h) λv l=>eP v λv=>BN lo a n c none 0 v a n c (n:Int) 0 l)=some r) :
  Ae lo 26 [.sl 5 a n c] h=some r :=
 eK Tryz.func26 hk
theorem BN.e {p1 p0:Option (Nat×Nat×Nat)} :
  BN lo b n c p1 z p0 a m p y x h=br (decide (x<y)) (AM x m (eO a λv=>eO (ld h v.1 (v.2+x.toNat) 0 5) λv=>eC v λv l=>eI .i64 v λv=>eC l λl o=>eI .i64 l λl=>eC o λo s=>eI .i64 o λo=>eC s λs u=>eI .i64 s λs=>eC u λu w=>eI .i64 u λu=>eN w (Al (Ae lo 41 [.ptr p0,Ox v l o s u] h) λv l=>eB v (BN lo b n c p1 z p0 a m p y (AU (x+1)) l) (some (.tup [.ptr p0,Iv x],l))))) (some (.tup [.ptr p0,Iv (n:Int)],h)) :=
 lE
def AX lo x f n a m c y z h:=
 LA 27 Tryz.f27 2213111 0 1111 lo ⟨[(1,Iv x),(4,.bool f),(5,.map (some n)),(13,.sl 5 a m c),(14,Iv y),(15,Iv z)],[],h⟩
theorem GD (hk:(Al (Ae h.length 24 [.sl 5 a n c] h) λl o=>eB l (AX h.length x false o.length a n c (n:Int) 0 (o ++ [.map 65 []])) (Bj o))=some (v,h')) (hn:noId v=true:=by rfl) :
  Ae lo 27 [.sl 5 a n c,Iv x] h=some (v,h) :=
 eD Tryz.func27 hk hn
theorem AX.e :
  AX lo y f n a m c z x h=br (decide (x<z)) (AM x m (eO a λv=>eO (ld h v.1 (v.2+x.toNat) 0 5) λv=>eC v λv l=>eI .i64 v λv=>eC l λl o=>eI .i64 l λl=>eC o λo s=>eI .i64 o λo=>eC s λs b=>eI .i64 s λs=>eC b λb u=>eI .i64 b λb=>eN u (br (l==2) (eO (Heap.kv? h n) λu=>eO (EI (Am v o) u) λu=>eA (UV u (Am 0 0)) λu=>eC u λu w=>eI .i64 u λu=>eC w λw p=>eI .i64 w λw=>eN p (Al (Ae lo 42 [Am s b,Am u w] h) λu w=>eB u (Bj w) (br (l==y) (eO (Heap.kv? w n) λu=>eO (EI (Am v o) u) λu=>eA (UV u (Am 0 0)) λu=>eC u λu p=>eI .i64 u λu=>eC p λp q=>eI .i64 p λp=>eN q (Al (Ae lo 43 [Am u p,Am s b] w) λu p=>eA u λu=>eC u λu q=>eI .i64 u λu=>eC q λq g=>eI .i64 q λq=>eN g (eO (Heap.kv? p n) λg=>A8 (lo.ble n) (eO (Gi (Am v o) (Am u q) g) λu=>AX lo y f n a m c z (AU (x+1)) (List.set p n (.map 65 u)))))) (AX lo y f n a m c z (AU (x+1)) w)))) (br (l==y) (eO (Heap.kv? h n) λl=>eO (EI (Am v o) l) λl=>eA (UV l (Am 0 0)) λl=>eC l λl u=>eI .i64 l λl=>eC u λu w=>eI .i64 u λu=>eN w (Al (Ae lo 43 [Am l u,Am s b] h) λl s=>eA l λl=>eC l λl b=>eI .i64 l λl=>eC b λb u=>eI .i64 b λb=>eN u (eO (Heap.kv? s n) λu=>A8 (lo.ble n) (eO (Gi (Am v o) (Am l b) u) λv=>AX lo y f n a m c z (AU (x+1)) (List.set s n (.map 65 v)))))) (AX lo y f n a m c z (AU (x+1)) h))))) (AI h) :=
 lE
def A1 lo a n c x y z f t h:=
 LA 28 Tryz.f28 22131 0 11 lo ⟨[(0,.sl 5 a n c),(1,Iv x),(2,Iv y),(3,Iv z),(8,.bool f),(9,Iv t)],[],h⟩
theorem K9 (hk:(A1 h.length a n c x y z false 0 h)=some (v,h')) (hn:noId v=true:=by rfl) :
  Ae lo 28 [.sl 5 a n c,Iv x,Iv y,Iv z] h=some (v,h) :=
 eD Tryz.func28 hk hn
theorem A1.e :
  A1 lo a n c x z t f y h=br (decide (y<x)) (AM y n (eO a λv=>eO (ld h v.1 (v.2+y.toNat) 0 5) λv=>eC v λv l=>eI .i64 v λv=>eC l λl o=>eI .i64 l λl=>eC o λo s=>eI .i64 o λo=>eC s λs b=>eI .i64 s λs=>eC b λb u=>eI .i64 b λb=>eN u (AM x n (eO a λu=>eO (ld h u.1 (u.2+x.toNat) 0 1) λu=>eC u λu w=>eN w (eI .i64 u λu=>br (v==u) (AM x n (eO a λv=>eO (ld h v.1 (v.2+x.toNat) 2 1) λv=>eC v λv u=>eN u (eI .i64 v λv=>br (o==v) (Al (Ae lo 44 (Cy l z t) h) λv l=>eB v (AM x n (eO a λv=>eO (ld l v.1 (v.2+x.toNat) 3 2) λv=>eC v λv o=>eI .i64 v λv=>eC o λo u=>eI .i64 o λo=>eN u (Al (Ae lo 45 [Am v o,Am s b] l) λv o=>eB v (AI o) (A1 lo a n c x z t f (AU (y+1)) o)))) (A1 lo a n c x z t f (AU (y+1)) l)) (A1 lo a n c x z t f (AU (y+1)) h)))) (A1 lo a n c x z t f (AU (y+1)) h)))))) (Bj h) :=
 lE
def Bb lo a n c x y f z t w h:=
 LA 29 Tryz.f29 22131 0 11 lo ⟨[(0,.sl 5 a n c),(1,Iv x),(2,Iv y),(7,.lp 7 0),(8,.bool f),(9,Iv z)],[(7,(BU t w))],h⟩
theorem K8 (hk:(Bb h.length a n c x y false 0 z t h)=some (v,h')) (hn:noId v=true:=by rfl) :
  Ae lo 29 [.sl 5 a n c,Iv x,Iv y,Am z t] h=some (v,h) :=
 eD Tryz.func29 hk hn
theorem Bb.e :
  Bb lo a n c y z f x t w h=br (decide (x<y)) (AM x n (eO a λv=>eO (ld h v.1 (v.2+x.toNat) 1 1) λv=>eC v λv l=>eN l (eI .i64 v λv=>br (v==1) (AM x n (eO a λv=>eO (ld h v.1 (v.2+x.toNat) 3 2) λv=>eC v λv l=>eI .i64 v λv=>eC l λl o=>eI .i64 l λl=>eN o (br ((v==t)&&((l==w)&&true)) (AM x n (eO a λv=>eO (ld h v.1 (v.2+x.toNat) 2 1) λv=>eC v λv l=>eN l (eI .i64 v λv=>br (v==z) (AI h) (Bb lo a n c y z f (AU (x+1)) t w h)))) (Bb lo a n c y z f (AU (x+1)) t w h)))) (Bb lo a n c y z f (AU (x+1)) t w h)))) (Bj h) :=
 lE
theorem HL (hk:(Al (Ae lo 24 [.sl 5 a n c] h) λv l=>eB v (Al (Ae lo 26 [.sl 5 a n c] l) λv o=>eU v λv=>eC v λv s=>eP v λv=>eC s λs b=>eI .i64 s λs=>eN b (br (s==(n:Int)) (some (.tup [.ptr v,.bool true],o)) (some (.tup [.ptr v,.bool false],o)))) (some (.tup [.ptr none,.bool false],l)))=some r) :
  Ae lo 30 [.sl 5 a n c] h=some r :=
 eK Tryz.func30 hk
theorem KY (hk:(Al (Ae lo 46 [CL n m k] h) λv l=>eU v λv=>eC v λv c=>eI .i64 v λv=>eC c λc a=>eI .i64 c λc=>eC a λa o=>eS 6 a λa s b=>eN o (Al (Ae lo 48 [Iv v,Iv c,.sl 6 a s b] l) λv l=>eA v λv=>eC v λv c=>eS 6 v λv a o=>eC c λc s=>eS 5 c λc b x=>eC s λs y=>eS 9 s λs z u=>eC y λy w=>eS 5 y λy p q=>eN w (Al (Ae lo 47 [An v a o c b x s z u y p q] l) λv l=>eA v λv=>eC v λv c=>eS 6 v λv a o=>eC c λc s=>eS 5 c λc b x=>eC s λs y=>eS 9 s λs z u=>eC y λy w=>eS 5 y λy p q=>eN w (some ((An v a o c b x s z u y p q),l)))))=some r) :
  Ae lo 31 [CL n m k] h=some r :=
 eK Tryz.func31 hk
theorem JA (hk:(eO (ld h n m (k+1) 1) λv=>eC v λv l=>eN l (eI .i64 v λv=>eO (st lo h n m (k+1) (AP (AU (v+1)))) λv=>br (decide (x<1)) (some (Iv 0,v)) (eO (ld v n m (k+0) 1) λl=>eC l λl c=>eN c (eS 1 l λl l c=>br ((l:Int)==0) (some (Iv 0,v)) (eO (ld v n m (k+1) 1) λl=>eC l λl c=>eN c (eI .i64 l λl=>eO (ld v n m (k+0) 1) λc=>eC c λc a=>eN a (eS 1 c λc c a=>br (decide (AU (l - (1:Int))<(c:Int))) (eO (ld v n m (k+0) 1) λc=>eC c λc a=>eN a (eS 1 c λc a o=>AM (AU (l - 1)) a (eO c λc=>eO (ld v c.1 (c.2+((AU (l - (1:Int))).toNat)) 0 1) λc=>eC c λc a=>eN a (eI .u8 c λc=>A8 (decide (x≠(0:Int))) (some (Iv ((AU c).tmod x),v)))))) (eO (ld v n m (k+0) 1) λc=>eC c λc a=>eN a (eS 1 c λc a o=>eO (ld v n m (k+0) 1) λo=>eC o λo s=>eN s (eS 1 o λo o s=>A8 (decide ((o:Int)≠(0:Int))) (AM ((AU (l - (1:Int))).tmod (o:Int)) a (eO c λc=>eO (ld v c.1 (c.2+(((AU (l - (1:Int))).tmod (o:Int)).toNat)) 0 1) λc=>eC c λc a=>eN a (eI .u8 c λc=>eO (ld v n m (k+0) 1) λa=>eC a λa o=>eN o (eS 1 a λa o s=>eO (ld v n m (k+0) 1) λs=>eC s λs b=>eN b (eS 1 s λs s b=>A8 (decide ((s:Int)≠(0:Int))) (AM ((AU (AU (AU (l - (1:Int))*(7:Int))+(3:Int))).tmod (s:Int)) o (eO a λa=>eO (ld v a.1 (a.2+(((AU (AU (AU (l - (1:Int))*(7:Int))+(3:Int))).tmod (s:Int)).toNat)) 0 1) λa=>eC a λa o=>eN o (eI .u8 a λa=>eO (ld v n m (k+0) 1) λo=>eC o λo s=>eN s (eS 1 o λo o s=>A8 (decide ((o:Int)≠(0:Int))) (A8 (decide (x≠(0:Int))) (some (Iv ((AU ((BitVec.ofInt IntKind.i64.bits (AU (AU (AU (AU (AU c*(131:Int))+AU (AU a*(1117:Int)))+AU (AU (l - (1:Int))*(29:Int)))+AU (AU ((AU (l - (1:Int))).tdiv (o:Int))*(53:Int)))) ^^^ BitVec.ofInt IntKind.i64.bits (AU ((AU (AU (AU (AU (AU c*(131:Int))+AU (AU a*(1117:Int)))+AU (AU (l - (1:Int))*(29:Int)))+AU (AU ((AU (l - (1:Int))).tdiv (o:Int))*(53:Int)))).tdiv (64:Int)))).toNat:Int)).tmod x),v))))))))))))))))))))))=some r) :
  Ae lo 32 [CL n m k,Iv x] h=some r :=
 eK Tryz.func32 hk
theorem Kj (hk:(Al (Ae lo 32 [CL n m k,Iv 8] h) λv l=>eI .i64 v λv=>br (v==0) (Al (Ae lo 49 [CL n m k,.sl 1 (some (l.length,0)) 4 (some 4)] (l ++ [.rows 1 3 false [AP 0,AP (-1),AP 1000,AP 999]])) λv c=>eI .i64 v λv=>Al (Ae lo 49 [CL n m k,.sl 1 (some (c.length,0)) 4 (some 4)] (c ++ [.rows 1 3 false [AP 0,AP 1,AP 3,AP (-1)]])) λc a=>eI .i64 c λc=>some ((Am v c),a)) (Al (Ae lo 50 [CL n m k] l) λv l=>eA v λv=>eC v λv c=>eI .i64 v λv=>eC c λc a=>eI .i64 c λc=>eN a (some ((Am v c),l))))=some r) :
  Ae lo 33 [CL n m k] h=some r :=
 eK Tryz.func33 hk
theorem CW (hk:(Al (Ae h.length 51 [.sl 5 a n c,.fn m l] h) λo s=>eI .i64 o λo=>br (decide (o>=0)) (AI s) (Bj s))=some (v,h')) (hn:noId v=true:=by rfl) :
  Ae lo 34 [.sl 5 a n c,.fn m l] h=some (v,h) :=
 eD Tryz.func34 hk hn
theorem Ld (hk:(Al (Ae h.length 36 (Cy t 0 3) h) λl c=>eB l (Al (Ae h.length 36 (Cy x 1 3) c) λl n=>eB l (Al (Ae h.length 37 (AP w) n) λl a=>eB l (Al (Ae h.length 38 [Am y z] a) λl o=>eB l (br ((y==0)&&((z==0)&&true)) (br (x==2) (Bj o) (AI o)) (Bj o)) (AI o)) (AI a)) (AI n)) (AI c))=some (v,h')) (hn:noId v=true:=by rfl) :
  Ae lo 35 [Ox t x w y z] h=some (v,h) :=
 eD Tryz.func35 hk hn
theorem NS (hk:(br (decide (x>=y)) (br (decide (x<=z)) (AI h) (Bj h)) (Bj h))=some (v,h')) (hn:noId v=true:=by rfl) :
  Ae lo 36 (Cy x y z) h=some (v,h) :=
 eD Tryz.func36 hk hn
theorem P5 (hk:(Al (Ae h.length 36 (Cy x 0 3) h) λl c=>eB l (AI c) (Bj c))=some (v,h')) (hn:noId v=true:=by rfl) :
  Ae lo 37 (AP x) h=some (v,h) :=
 eD Tryz.func37 hk hn
theorem P6 (hk:(br ((x==0)&&((y==0)&&true)) (AI h) (Al (Ae h.length 36 (Cy x 1 999) h) λl c=>eB l (Al (Ae h.length 52 (AP y) c) λl n=>eB l (AI n) (Bj n)) (Bj c)))=some (v,h')) (hn:noId v=true:=by rfl) :
  Ae lo 38 [Am x y] h=some (v,h) :=
 eD Tryz.func38 hk hn
theorem Nw (hk:(Al (Ae h.length 44 (Cy z 0 3) h) λl c=>eB l (Al (Ae h.length 44 (Cy x 1 3) c) λl n=>eB l (Al (Ae h.length 44 (Cy t 0 3) n) λl a=>eB l (Al (Ae h.length 53 [Am y w] a) λl o=>eB l (br (x==2) (AI o) (br (decide (y>0)) (AI o) (Bj o))) (Bj o)) (Bj a)) (Bj n)) (Bj c))=some (v,h')) (hn:noId v=true:=by rfl) :
  Ae lo 39 [Ox z x t y w] h=some (v,h) :=
 eD Tryz.func39 hk hn
def BS lo n m k x h:=
 LA 40 Tryz.f40 221311 0 111 lo ⟨[(1,(CL n m k)),(6,Iv x)],[],h⟩
theorem M0 (hk:(BS lo (List.length (h ++ [.map 78 []])) 0 0 0 ((h ++ [.map 78 []]) ++ [.rows 5 84 false [[.sl 0 none 0 (some 0),.sl 0 none 0 (some 0),.sl 0 none 0 (some 0),.sl 0 none 0 (some 0),.map (some h.length)]]]))=some r) :
  Ae lo 40 [] h=some r :=
 eK Tryz.func40 hk
theorem BS.e :
  BS lo n m k x h=br (decide (x<4)) (Al (Ae lo 54 [] h) λv l=>eA v λv=>eC v λv c=>eS 2 v λv a o=>eN c (AM x 4 (eO (st lo l n m ((k+0)+(x.toNat*1)) (Dr v a o)) λv=>BS lo n m k (AU (x+1)) v))) (some ((CL n m k),h)) :=
 lE
theorem Lf (hk:(AM y 4 (eO (ld h n m ((k+0)+(y.toNat*1)) 1) λv=>eC v λv l=>eS 2 v λv c a=>eN l (eO (ld h n m (k+4) 1) λl=>eC l λl o=>eN o (eM l λl=>eO l λl=>eO (Heap.kv? h l) λl=>eO (EI (Am x t) l) λl=>eX l (λl=>eA l λl=>eC l λl o=>eI .i64 l λl=>eC o λo s=>eI .i64 o λo=>eC s λs b=>eS 2 s λs u p=>eN b (br (w==1) (Bj h) (AM z c (eO v λb=>eO (ld h b.1 (b.2+z.toNat) 0 2) λb=>eC b λb q=>eI .i64 b λb=>eC q λq g=>eI .i64 q λq=>eN g (Al (Ae lo 42 [Am x t,Am b q] h) λb q=>eB b (Bj q) (br ((x==0)&&((t==0)&&true)) (AI q) (br (o==z) (br (w==3) (br (l==y) (Al (Ae lo 56 [AE v c a,AE s u p] q) λl o=>eA l λl=>eC l λl b=>eS 2 l λl g i=>eN b (Al (Ae lo 57 [AE l g i,Iv z,Am x t] o) λl o=>eA l λl=>eC l λl b=>eS 2 l λl g i=>eN b (AM y 4 (eO (st lo o n m ((k+0)+(y.toNat*1)) (Dr l g i)) λl=>some (.bool true,l))))) (Bj q)) (Al (Ae lo 56 [AE v c a,AE s u p] q) λl o=>eA l λl=>eC l λl s=>eS 2 l λl b u=>eN s (Al (Ae lo 57 [AE l b u,Iv z,Am x t] o) λl o=>eA l λl=>eC l λl s=>eS 2 l λl b u=>eN s (AM y 4 (eO (st lo o n m ((k+0)+(y.toNat*1)) (Dr l b u)) λl=>some (.bool true,l)))))) (Bj q)))))))) (br (w==1) (Al (Ae h.length 55 [AE v c a] h) λl o=>eI .i64 l λl=>br (decide (x<=l)) (Bj o) (eO (ld o n m (k+4) 1) λl=>eC l λl s=>eN s (eM l λl=>eO l λl=>eO (Heap.kv? o l) λs=>A8 (lo.ble l) (eO (Gi (Am x t) (.agg [Iv y,Iv z,.sl 2 v c a]) s) λa=>some (.bool true,(List.set o l (.map 78 a))))))) (AM z c (eO v λv=>eO (ld h v.1 (v.2+z.toNat) 0 2) λv=>eC v λv l=>eI .i64 v λv=>eC l λl c=>eI .i64 l λl=>eN c (Al (Ae lo 42 [Am x t,Am v l] h) λv l=>eB v (Bj l) (br ((x==0)&&((t==0)&&true)) (AI l) (Bj l))))))))))=some r) :
  Ae lo 41 [CL n m k,Ox y w z x t] h=some r :=
 eK Tryz.func41 hk
theorem M4 (hk:(Al (Ae h.length 58 [Am x y,Am z t] h) λl c=>eI .i64 l λl=>br (decide (l<0)) (AI c) (Bj c))=some (v,h')) (hn:noId v=true:=by rfl) :
  Ae lo 42 [Am x y,Am z t] h=some (v,h) :=
 eD Tryz.func42 hk hn
theorem Ir (hk:(Al (Ae h.length 42 [Am x y,Am z t] h) λl c=>eB l (some ((Am z t),c)) (some ((Am x y),c)))=some (v,h')) (hn:noId v=true:=by rfl) :
  Ae lo 43 [Am x y,Am z t] h=some (v,h) :=
 eD Tryz.func43 hk hn
theorem RJ (hk:(br (decide (x>=y)) (br (decide (x<=z)) (AI h) (Bj h)) (Bj h))=some (v,h')) (hn:noId v=true:=by rfl) :
  Ae lo 44 (Cy x y z) h=some (v,h) :=
 eD Tryz.func44 hk hn
theorem NQ (hk:(br (decide (x<y)) (AI h) (br (x==y) (br (decide (z<t)) (AI h) (Bj h)) (Bj h)))=some (v,h')) (hn:noId v=true:=by rfl) :
  Ae lo 45 [Am x z,Am y t] h=some (v,h) :=
 eD Tryz.func45 hk hn
theorem MV (hk:(Al (Ae lo 32 [CL n m k,Iv 4] h) λv l=>eI .i64 v λv=>Al (Ae lo 32 [CL n m k,Iv 4] l) λl c=>eI .i64 l λl=>Al (Ae lo 49 [CL n m k,.sl 1 (some (c.length,0)) 4 (some 4)] (c ++ [.rows 1 3 false [AP 0,AP 20,AP 60,AP 120]])) λc a=>eI .i64 c λc=>Al (Ae lo 59 [CL n m k,Iv (AU (1+v)),Iv (AU (1+l)),Iv c] a) λc a=>eS 6 c λc o s=>some (.tup [Iv (AU (1+v)),Iv (AU (1+l)),.sl 6 c o s],a))=some r) :
  Ae lo 46 [CL n m k] h=some r :=
 eK Tryz.func46 hk
def B7 lo x a n c b m p d k u e i s j A g C G B H D J a0 P c0 n0 a1 n1 c1 n2 a2 n3 c2 n4 a3 n5 c3 n6 a4 n7 c4 a5 n8 c5 h:=
 LA 47 Tryz.f47 221311 0 111 lo ⟨[(1,.lp 1 0),(2,.lp 2 0),(3,.lp 3 0),(4,Iv x)],[(1,(OO a n c b m p d k u e i s)),(2,[.sl j A g C,.sl G B H D,.sl J a0 P c0,.sl n0 a1 n1 c1]),(3,[.sl n2 a2 n3 c2,.sl n4 a3 n5 c3,.sl n6 a4 n7 c4,.sl 5 a5 n8 c5])],h⟩
def B6 lo x a n c b m p d k u e i s j A g C G B H D J a0 P c0 n0 a1 n1 c1 n2 a2 n3 c2 n4 a3 n5 c3 n6 a4 n7 c4 a5 n8 c5 h:=
 LA 47 Tryz.f47 2213111 2 1111 lo ⟨[(1,.lp 1 0),(2,.lp 2 0),(3,.lp 3 0),(5,Iv x)],[(1,(OO a n c b m p d k u e i s)),(2,[.sl j A g C,.sl G B H D,.sl J a0 P c0,.sl n0 a1 n1 c1]),(3,[.sl n2 a2 n3 c2,.sl n4 a3 n5 c3,.sl n6 a4 n7 c4,.sl 5 a5 n8 c5])],h⟩
def B5 lo x a n c b m p d k u e i s j A g C G B H D J a0 P c0 n0 a1 n1 c1 n2 a2 n3 c2 n4 a3 n5 c3 n6 a4 n7 c4 a5 n8 c5 h:=
 LA 47 Tryz.f47 22131111 4 11111 lo ⟨[(1,.lp 1 0),(2,.lp 2 0),(3,.lp 3 0),(7,Iv x)],[(1,(OO a n c b m p d k u e i s)),(2,[.sl j A g C,.sl G B H D,.sl J a0 P c0,.sl n0 a1 n1 c1]),(3,[.sl n2 a2 n3 c2,.sl n4 a3 n5 c3,.sl n6 a4 n7 c4,.sl 5 a5 n8 c5])],h⟩
theorem Ny {e:Pq} (hk:(Ap 5 (h ++ [.rows 5 31 false []]) (.sl 5 a n c) λv=>CJ lo 31 5 40 (.sl 5 (some (h.length,0)) 0 (some 0)) v (h ++ [.rows 5 31 false []]) λv l=>eS 5 v λv o x=>B7 lo 0 b m p d k u e i s a n c 0 none 0 (some 0) 0 none 0 (some 0) 0 none 0 (some 0) 0 none 0 (some 0) 0 none 0 (some 0) 0 none 0 (some 0) 0 none 0 (some 0) v o x l)=some r) :
  Ae lo 47 [An b m p d k u e i s a n c] h=some r :=
 eK Tryz.func47 hk
theorem B7.e {lo n m k i j g G H J P n0 n1 n2 n3 n4 n5 n6 n7 n8:Nat}{x:Int}{a b d A B a0 a1 a2 a3 a4 a5 a6:Pq}{c p u s C D c0 c1 c2 c3 c4 c5:Nq}{h:Heap} :
  B7 lo x a n c b m p d k u A i s j B g C G a0 H D J a1 P c0 n0 a2 n1 c1 n2 a3 n3 c2 n4 a4 n5 c3 n6 a5 n7 c4 a6 n8 c5 h=br (decide (x<(n:Int))) (AM x n (eO a λv=>eO (ld h v.1 (v.2+x.toNat) 0 6) λv=>eC v λv l=>eI .i64 v λv=>eC l λl o=>eI .i64 l λl=>eC o λo y=>eS 2 o λo z w=>eC y λy q=>eS 6 y λy t e=>eC q λq f=>eS 1 q λq E K=>eC f λf L=>eBv f λf=>eN L (Al (Ae lo 60 [BG v l o z w y t e q E K f] h) λv l=>eA v λv=>eC v λv o=>eI .i64 v λv=>eC o λo y=>eI .i64 o λo=>eC y λy z=>eS 2 y λy w q=>eC z λz t=>eS 6 z λz e f=>eC t λt E=>eS 1 t λt K L=>eC E λE M=>eBv E λE=>eN M (Ap 6 (l ++ [.rows 6 100 false [Ds v o y w q z e f t K L E]]) (.sl 6 (some (l.length,0)) 1 (some 1)) λM=>CJ lo 100 6 96 (.sl n2 a3 n3 c2) M (l ++ [.rows 6 100 false [Ds v o y w q z e f t K L E]]) λv l=>eS 6 v λv o y=>B7 lo (AU (x+1)) a n c b m p d k u A i s j B g C G a0 H D J a1 P c0 n0 a2 n1 c1 6 v o y n4 a4 n5 c3 n6 a5 n7 c4 a6 n8 c5 l)))) (B6 lo 0 a n c b m p d k u A i s j B g C G a0 H D J a1 P c0 n0 a2 n1 c1 n2 a3 n3 c2 n4 a4 n5 c3 n6 a5 n7 c4 a6 n8 c5 h) :=
 lE
theorem B6.e {lo m n k i j g G H J P n0 n1 n2 n3 n4 n5 n6 n7 n8:Nat}{x:Int}{b a d A B a0 a1 a2 a3 a4 a5 a6:Pq}{c p u s C D c0 c1 c2 c3 c4 c5:Nq}{h:Heap} :
  B6 lo x b m c a n p d k u A i s j B g C G a0 H D J a1 P c0 n0 a2 n1 c1 n2 a3 n3 c2 n4 a4 n5 c3 n6 a5 n7 c4 a6 n8 c5 h=br (decide (x<(n:Int))) (AM x n (eO a λv=>eO (ld h v.1 (v.2+x.toNat) 0 5) λv=>eC v λv l=>eI .i64 v λv=>eC l λl o=>eS 2 l λl y z=>eC o λo w=>eI .i64 o λo=>eC w λw q=>eI .i64 w λw=>eC q λq t=>eI .i64 q λq=>eN t (Ap 2 (h ++ [.rows 2 29 false []]) (.sl 2 l y z) λl=>CJ lo 29 2 16 (.sl 2 (some (h.length,0)) 0 (some 0)) l (h ++ [.rows 2 29 false []]) λl y=>eS 2 l λl z t=>Ap 5 (y ++ [.rows 5 103 false [TM v l z t o w q]]) (.sl 5 (some (y.length,0)) 1 (some 1)) λe=>CJ lo 103 5 56 (.sl n4 a4 n5 c3) e (y ++ [.rows 5 103 false [TM v l z t o w q]]) λv l=>eS 5 v λv o y=>B6 lo (AU (x+1)) b m c a n p d k u A i s j B g C G a0 H D J a1 P c0 n0 a2 n1 c1 n2 a3 n3 c2 5 v o y n6 a5 n7 c4 a6 n8 c5 l))) (B5 lo 0 b m c a n p d k u A i s j B g C G a0 H D J a1 P c0 n0 a2 n1 c1 n2 a3 n3 c2 n4 a4 n5 c3 n6 a5 n7 c4 a6 n8 c5 h) :=
 lE
theorem B5.e {lo J P n n0 n1 n2 n3 n4 n5 n6 n7 n8 m k i j g G H:Nat}{x:Int}{a0 a1 a a2 a3 a4 a5 a6 b d A B:Pq}{C D c0 c1 c2 c3 c4 c5 c p u s:Nq}{h:Heap} :
  B5 lo x a0 J C a1 P D a n c0 a2 n0 c1 n1 a3 n2 c2 n3 a4 n4 c3 n5 a5 n6 c4 n7 a6 n8 c5 m b k c i d j p g A G u B H s h=br (decide (x<(n:Int))) (AM x n (eO a λv=>eO (ld h v.1 (v.2+x.toNat) 0 9) λv=>eC v λv l=>eI .i64 v λv=>eC l λl o=>eI .i64 l λl=>eC o λo y=>eI .i64 o λo=>eC y λy z=>eI .i64 y λy=>eC z λz w=>eI .i64 z λz=>eC w λw q=>eI .i64 w λw=>eC q λq t=>eS 2 q λq e f=>eC t λt E=>eT t λt=>eC E λE K=>eBv E λE=>eN K (Al (Ae lo 61 [CD y z w q e f t E] h) λy z=>eA y λy=>eC y λy w=>eI .i64 y λy=>eC w λw q=>eI .i64 w λw=>eC q λq t=>eI .i64 q λq=>eC t λt e=>eS 2 t λt f E=>eC e λe K=>eT e λe=>eC K λK L=>eBv K λK=>eN L (Ap 9 (z ++ [.rows 9 107 false [TN v l o y w q t f E e K]]) (.sl 9 (some (z.length,0)) 1 (some 1)) λL=>CJ lo 107 9 96 (.sl g A G u) L (z ++ [.rows 9 107 false [TN v l o y w q t f E e K]]) λv l=>eS 9 v λv o y=>B5 lo (AU (x+1)) a0 J C a1 P D a n c0 a2 n0 c1 n1 a3 n2 c2 n3 a4 n4 c3 n5 a5 n6 c4 n7 a6 n8 c5 m b k c i d j p 9 v o y B H s l)))) (some (.agg [.sl m b k c,.sl i d j p,.sl g A G u,.sl 5 B H s],h)) :=
 lE
def Bz lo a n c x m b k p i d j u g e G s H A J C B P D a0 n0 c0 a1 n1 c1 a2 n2 c2 h:=
 LA 48 Tryz.f48 221311 0 111 lo ⟨[(2,.sl 6 a n c),(6,.lp 6 0),(7,.lp 7 0),(8,Iv x)],[(6,[.sl m b k p,.sl i d j u,.sl g e G s,.sl H A J C]),(7,(OO B P D a0 n0 c0 a1 n1 c1 a2 n2 c2))],h⟩
theorem Nv (hk:(Al (Ae lo 62 (BU x y) h) λv l=>eA v λv=>eC v λv o=>eS 6 v λv s b=>eC o λo z=>eS 5 o λo u w=>eC z λz p=>eS 9 z λz q g=>eC p λp i=>eS 5 p λp j k=>eN i (Bz lo a n c 0 0 none 0 (some 0) 0 none 0 (some 0) 0 none 0 (some 0) 0 none 0 (some 0) v s b o u w z q g p j k l))=some r) :
  Ae lo 48 [Iv x,Iv y,.sl 6 a n c] h=some r :=
 eK Tryz.func48 hk
theorem Bz.e {lo n g G H J P n0 n1 n2 m k i j:Nat}{a a0 a1 a2 a3 b d A B:Pq}{C D c0 c1 c2 c p u s:Nq}{x:Int}{h:Heap} :
  Bz lo a n C x g a0 G D H a1 J c0 P a2 n0 c1 n1 a3 n2 c2 b m c d k p A i u B j s h=br (decide (x<(n:Int))) (br (decide (x<60)) (AM x n (eO a λv=>eO (ld h v.1 (v.2+x.toNat) 0 6) λv=>eC v λv l=>eI .i64 v λv=>eC l λl o=>eI .i64 l λl=>eC o λo y=>eI .i64 o λo=>eC y λy z=>eI .i64 y λy=>eC z λz w=>eT z λz=>eC w λw q=>eBv w λw=>eN q (Al (Ae lo 63 [An b m c d k p A i u B j s,BO v l o y z w] h) λv l=>eU v λv=>eC v λv o=>eA v λv=>eC v λv y=>eS 6 v λv z w=>eC y λy q=>eS 5 y λy t e=>eC q λq f=>eS 9 q λq E K=>eC f λf L=>eS 5 f λf M N=>eN L (eC o λo L=>eB o (eN L (Bz lo a n C (AU (x+1)) g a0 G D H a1 J c0 P a2 n0 c1 n1 a3 n2 c2 v z w y t e q E K f M N l)) (eN L (Bz lo a n C (AU (x+1)) g a0 G D H a1 J c0 P a2 n0 c1 n1 a3 n2 c2 v z w y t e q E K f M N l)))))) (some ((An b m c d k p A i u B j s),h))) (some ((An b m c d k p A i u B j s),h)) :=
 lE
theorem Kh (hk:(Al (Ae lo 32 [CL m k i,Iv (n:Int)] h) λv l=>eI .i64 v λv=>AM v n (eO a λo=>eO (ld l o.1 (o.2+v.toNat) 0 1) λv=>eC v λv o=>eN o (eI .i64 v λv=>some (Iv v,l))))=some r) :
  Ae lo 49 [CL m k i,.sl 1 a n c] h=some r :=
 eK Tryz.func49 hk
theorem NN (hk:(Al (Ae lo 32 [CL n m k,Iv 3] h) λv l=>eI .i64 v λv=>br (v==0) (some ((Am 0 0),l)) (Al (Ae lo 32 [CL n m k,Iv 9] l) λv l=>eI .i64 v λv=>Al (Ae lo 32 [CL n m k,Iv 3] l) λl c=>eI .i64 l λl=>some ((Am (AU (1+v)) l),c)))=some r) :
  Ae lo 50 [CL n m k] h=some r :=
 eK Tryz.func50 hk
def Av lo a n c m l x y z h:=
 LA 51 Tryz.f51 22131 0 11 lo ⟨[(0,.sl 5 a n c),(1,.fn m l),(4,Iv x),(7,Iv y),(8,Iv z)],[],h⟩
theorem Di (hk:(Av h.length a n c m l 0 (n:Int) 0 h)=some (v,h')) (hn:noId v=true:=by rfl) :
  Ae lo 51 [.sl 5 a n c,.fn m l] h=some (v,h) :=
 eD Tryz.func51 hk hn
theorem Av.e :
  Av lo a n c m l z y x h=br (decide (x<y)) (AM x n (eO a λv=>eO (ld h v.1 (v.2+x.toNat) 0 5) λv=>eC v λv o=>eI .i64 v λv=>eC o λo s=>eI .i64 o λo=>eC s λs b=>eI .i64 s λs=>eC b λb u=>eI .i64 b λb=>eC u λu w=>eI .i64 u λu=>eN w (Al (Ae lo m (Ft [Ox v o s b u] l) h) λv o=>eB v (some (Iv x,o)) (Av lo a n c m l z y (AU (x+1)) o)))) (some (Iv (-1),h)) :=
 lE
theorem MZ (hk:(Al (Ae h.length 36 (Cy x 0 2) h) λl c=>eB l (AI c) (Bj c))=some (v,h')) (hn:noId v=true:=by rfl) :
  Ae lo 52 (AP x) h=some (v,h) :=
 eD Tryz.func52 hk hn
theorem MY (hk:(br ((x==0)&&((y==0)&&true)) (AI h) (Al (Ae h.length 44 (Cy x 1 999) h) λl c=>eB l (Al (Ae h.length 44 (Cy y 0 2) c) λl n=>eB l (AI n) (Bj n)) (Bj c)))=some (v,h')) (hn:noId v=true:=by rfl) :
  Ae lo 53 [Am x y] h=some (v,h) :=
 eD Tryz.func53 hk hn
theorem Lg (hk:(some ((AE (some (h.length,0)) 4 (some 4)),(h ++ [.rows 2 29 false [BU 0 0,BU 0 0,BU 0 0,BU 0 0]])))=some r) :
  Ae lo 54 [] h=some r :=
 eK Tryz.func54 hk
def Be lo x a n c y z h:=
 LA 55 Tryz.f55 221311 0 111 lo ⟨[(3,Iv x),(7,.sl 2 a n c),(8,Iv y),(9,Iv z)],[],h⟩
theorem IH (hk:(Be h.length 0 a n c (n:Int) 0 h)=some (v,h')) (hn:noId v=true:=by rfl) :
  Ae lo 55 [AE a n c] h=some (v,h) :=
 eD Tryz.func55 hk hn
theorem Be.e :
  Be lo y a n c z x h=br (decide (x<z)) (AM x n (eO a λv=>eO (ld h v.1 (v.2+x.toNat) 0 2) λv=>eC v λv l=>eI .i64 v λv=>eC l λl o=>eI .i64 l λl=>eN o (Be lo (if v>y then v else y) a n c z (AU (x+1)) h))) (some (Iv y,h)) :=
 lE
def BB lo a n c x y m b k p d i u h:=
 LA 56 Tryz.f56 221311 0 111 lo ⟨[(4,.lp 4 0),(5,.lp 5 0),(11,.sl 2 a n c),(12,Iv x),(13,Iv y)],[(4,[.sl m b k p]),(5,(Dr d i u))],h⟩
theorem Kl (hk:(Al (Ae lo 64 [AE a m c] h) λv l=>eA v λv=>eC v λv o=>eS 2 v λv s x=>eN o (BB lo b n p (n:Int) 0 0 none 0 (some 0) v s x l))=some r) :
  Ae lo 56 [AE a m c,AE b n p] h=some r :=
 eK Tryz.func56 hk
theorem BB.e :
  BB lo b m p y x k d i u a n c h=br (decide (x<y)) (AM x m (eO b λv=>eO (ld h v.1 (v.2+x.toNat) 0 2) λv=>eC v λv l=>eI .i64 v λv=>eC l λl o=>eI .i64 l λl=>eN o (AM x n (eO a λo=>eO (ld h o.1 (o.2+x.toNat) 0 2) λo=>eC o λo s=>eI .i64 o λo=>eC s λs z=>eI .i64 s λs=>eN z (Al (Ae lo 43 [Am o s,Am v l] h) λv l=>eA v λv=>eC v λv o=>eI .i64 v λv=>eC o λo s=>eI .i64 o λo=>eN s (AM x n (eO a λs=>eO (st lo l s.1 (s.2+x.toNat) 0 (BU v o)) λv=>BB lo b m p y (AU (x+1)) k d i u a n c v))))))) (some ((AE a n c),h)) :=
 lE
theorem Kk (hk:(Al (Ae lo 64 [AE a n c] h) λv l=>eA v λv=>eC v λv o=>eS 2 v λv s b=>eN o (AM x s (eO v λo=>eO (ld l o.1 (o.2+x.toNat) 0 2) λo=>eC o λo u=>eI .i64 o λo=>eC u λu w=>eI .i64 u λu=>eN w (Al (Ae lo 43 [Am o u,Am y z] l) λl o=>eA l λl=>eC l λl u=>eI .i64 l λl=>eC u λu w=>eI .i64 u λu=>eN w (AM x s (eO v λw=>eO (st lo o w.1 (w.2+x.toNat) 0 (BU l u)) λl=>some ((AE v s b),l)))))))=some r) :
  Ae lo 57 [AE a n c,Iv x,Am y z] h=some r :=
 eK Tryz.func57 hk
theorem IG (hk:(Al (Ae h.length 66 (BU x z) h) λl c=>eI .i64 l λl=>Al (Ae h.length 66 (BU y t) c) λc n=>eI .i64 c λc=>Al (Ae h.length 65 [.sl 1 (some (n.length,0)) 2 (some 2)] (n ++ [.rows 1 3 false [AP l,AP c]])) λl c=>eI .i64 l λl=>some (Iv l,c))=some (v,h')) (hn:noId v=true:=by rfl) :
  Ae lo 58 [Am x y,Am z t] h=some (v,h) :=
 eD Tryz.func58 hk hn
def AW lo n m k x a i c y b j p d g u e G s A H C h:=
 LA 59 Tryz.f59 2213111 0 1111 lo ⟨[(0,(CL n m k)),(3,Iv x),(9,.lp 9 0),(10,.sl 6 a i c),(11,Iv y)],[(9,(OO b j p d g u e G s A H C))],h⟩
theorem Ki (hk:(Al (Ae lo 62 (BU x y) h) λv l=>eA v λv=>eC v λv c=>eS 6 v λv a o=>eC c λc s=>eS 5 c λc b u=>eC s λs w=>eS 9 s λs p q=>eC w λw g=>eS 5 w λw i j=>eN g (AW lo n m k z (some (l.length,0)) 0 (some 0) 0 v a o c b u s p q w i j (l ++ [.rows 6 113 false []])))=some r) :
  Ae lo 59 [CL n m k,Iv x,Iv y,Iv z] h=some r :=
 eK Tryz.func59 hk
theorem AW.e {lo n m k i j g G H:Nat}{x y:Int}{a b d A B:Pq}{c p u s C:Nq}{h:Heap} :
  AW lo n m k x a i c y b j p d g u A G s B H C h=br (decide (y<x)) (Al (Ae lo 67 [CL n m k,An b j p d g u A G s B H C] h) λv l=>eA v λv=>eC v λv o=>eI .i64 v λv=>eC o λo z=>eI .i64 o λo=>eC z λz w=>eI .i64 z λz=>eC w λw q=>eI .i64 w λw=>eC q λq t=>eT q λq=>eC t λt e=>eBv t λt=>eN e (Al (Ae lo 63 [An b j p d g u A G s B H C,BO v o z w q t] l) λl e=>eU l λl=>eC l λl f=>eA l λl=>eC l λl D=>eS 6 l λl E J=>eC D λD K=>eS 5 D λD L M=>eC K λK N=>eS 9 K λK O P=>eC N λN Q=>eS 5 N λN S U=>eN Q (eC f λf Q=>eB f (eN Q (Ap 6 (e ++ [.rows 6 113 false [Ry v o z w q t]]) (.sl 6 (some (e.length,0)) 1 (some 1)) λf=>CJ lo 113 6 56 (.sl 6 a i c) f (e ++ [.rows 6 113 false [Ry v o z w q t]]) λf W=>eS 6 f λf Y Z=>AW lo n m k x f Y Z (AU (y+1)) l E J D L M K O P N S U W)) (eN Q (Al (Ae lo 32 [CL n m k,Iv 6] e) λe f=>eI .i64 e λe=>br (decide (e>0)) (AW lo n m k x a i c (AU (y+1)) b j p d g u A G s B H C f) (Ap 6 (f ++ [.rows 6 113 false [Ry v o z w q t]]) (.sl 6 (some (f.length,0)) 1 (some 1)) λe=>CJ lo 113 6 56 (.sl 6 a i c) e (f ++ [.rows 6 113 false [Ry v o z w q t]]) λv o=>eS 6 v λv z w=>AW lo n m k x v z w (AU (y+1)) l E J D L M K O P N S U o)))))) (some (.sl 6 a i c,h)) :=
 lE
def B9 lo x y z a n c b m p d k u f t w i e j s g A G C H B J D F q M a0 P c0 a1 n0 c1 n1 a2 n2 c2 b0 h:=
 LA 60 Tryz.f60 221311 0 111 lo ⟨[(1,.lp 1 0),(2,.lp 2 0),(3,.lp 3 0),(4,Iv x)],[(1,(Ds y z a n c b m p d k u f)),(2,[Iv t,Iv w,.sl i e j s,.sl g A G C,.sl H B J D,.bool F]),(3,[Iv q,Iv M,.sl 2 a0 P c0,.sl 6 a1 n0 c1,.sl n1 a2 n2 c2,.bool b0])],h⟩
theorem NE (hk:(Al (Ae h.length 68 [AE a n c] h) λv l=>eA v λv=>eC v λv o=>eS 2 v λv s z=>eN o (Al (Ae l.length 69 (D5 b m p) l) λl o=>eS 6 l λl w q=>B9 lo 0 x y a n c b m p d k u f 0 0 0 none 0 (some 0) 0 none 0 (some 0) 0 none 0 (some 0) false x y v s z l w q 0 none 0 (some 0) f o))=some r) :
  Ae lo 60 [BG x y a n c b m p d k u f] h=some r :=
 eK Tryz.func60 hk
theorem B9.e {lo g G n H J P n0 n1 n2 m k i j:Nat}{x t w q M y z:Int}{B a0 a a1 a2 a3 b d A:Pq}{s C D c0 c1 c2 c p u:Nq}{F b0 f:Bool}{h:Heap} :
  B9 lo x t w B g s a0 G C a n D F q M H a1 J c0 P a2 n0 c1 n1 a3 n2 c2 b0 y z b m c d k p i A j u f h=br (decide (x<(n:Int))) (AM x n (eO a λv=>eO (ld h v.1 (v.2+x.toNat) 0 1) λv=>eC v λv l=>eN l (eS 6 v λv l o=>Al (Ae lo 69 (D5 v l o) h) λv l=>eS 6 v λv o e=>Ap 1 (l ++ [.rows 1 97 false [D5 v o e]]) (.sl 1 (some (l.length,0)) 1 (some 1)) λE=>CJ lo 97 1 24 (.sl i A j u) E (l ++ [.rows 1 97 false [D5 v o e]]) λv l=>eS 1 v λv o e=>B9 lo (AU (x+1)) t w B g s a0 G C a n D F q M H a1 J c0 P a2 n0 c1 n1 a3 n2 c2 b0 y z b m c d k p 1 v o e f l))) (some (.agg [Iv y,Iv z,.sl 2 b m c,.sl 6 d k p,.sl i A j u,.bool f],h)) :=
 lE
theorem NM (hk:(Ap 2 (h ++ [.rows 2 29 false []]) (.sl 2 a n c) λv=>CJ lo 29 2 16 (.sl 2 (some (h.length,0)) 0 (some 0)) v (h ++ [.rows 2 29 false []]) λv l=>eS 2 v λv o s=>some ((CD x y z v o s S f),l))=some r) :
  Ae lo 61 [CD x y z a n c S f] h=some r :=
 eK Tryz.func61 hk
def Ct lo x y z n a m c k b i p j d g u G e H s J A P C n0 B n1 D n2 a0 n3 c0 n4 a1 n5 c1 h:=
 LA 62 Tryz.f62 221311 0 111 lo ⟨[(0,Iv x),(1,Iv y),(4,.lp 4 0),(5,.lp 5 0),(6,Iv z)],[(4,[.sl n a m c,.sl k b i p,.sl j d g u,.sl G e H s]),(5,[.sl J A P C,.sl n0 B n1 D,.sl n2 a0 n3 c0,.sl n4 a1 n5 c1])],h⟩
def Cs lo x y n a m c k b i p j d g u G e H s J A P C n0 B n1 D n2 a0 n3 c0 n4 a1 n5 c1 h:=
 LA 62 Tryz.f62 2213111 2 1111 lo ⟨[(1,Iv x),(4,.lp 4 0),(5,.lp 5 0),(7,Iv y)],[(4,[.sl n a m c,.sl k b i p,.sl j d g u,.sl G e H s]),(5,[.sl J A P C,.sl n0 B n1 D,.sl n2 a0 n3 c0,.sl n4 a1 n5 c1])],h⟩
theorem PU (hk:(Ct lo x y 0 0 none 0 (some 0) 0 none 0 (some 0) 0 none 0 (some 0) 0 none 0 (some 0) 0 none 0 (some 0) 0 none 0 (some 0) 0 none 0 (some 0) 0 none 0 (some 0) h)=some r) :
  Ae lo 62 (BU x y) h=some r :=
 eK Tryz.func62 hk
theorem Ct.e {lo n m k i j g G H J P n0 n1 n2 n3 n4 n5:Nat}{y z x:Int}{a b d A B a0 a1 a2:Pq}{c p u s C D c0 c1:Nq}{h:Heap} :
  Ct lo y z x n a m c k b i p j d g u G A H s J B P C n0 a0 n1 D n2 a1 n3 c0 n4 a2 n5 c1 h=br (decide (x<3)) (Al (Ae lo 70 (BU x y) h) λv l=>eA v λv=>eC v λv o=>eI .i64 v λv=>eC o λo w=>eI .i64 o λo=>eC w λw q=>eS 2 w λw t e=>eC q λq f=>eS 6 q λq E K=>eC f λf L=>eS 1 f λf M N=>eC L λL O=>eBv L λL=>eN O (Ap 6 (l ++ [.rows 6 100 false [Ds v o w t e q E K f M N L]]) (.sl 6 (some (l.length,0)) 1 (some 1)) λO=>CJ lo 100 6 96 (.sl J B P C) O (l ++ [.rows 6 100 false [Ds v o w t e q E K f M N L]]) λv l=>eS 6 v λv o w=>Ct lo y z (AU (x+1)) n a m c k b i p j d g u G A H s 6 v o w n0 a0 n1 D n2 a1 n3 c0 n4 a2 n5 c1 l)) (Cs lo z 0 n a m c k b i p j d g u G A H s J B P C n0 a0 n1 D n2 a1 n3 c0 n4 a2 n5 c1 h) :=
 lE
theorem Cs.e {n3 n4 n5:Nat} :
  Cs lo y x J B P C n0 a0 n1 D n2 a1 n3 c0 n4 a2 n5 c1 n a m c k b i p j d g u G A H s h=br (decide (x<y)) (Al (Ae lo 71 [] h) λv l=>eA v λv=>eC v λv o=>eS 2 v λv z w=>eN o (Ap 5 (l ++ [.rows 5 103 false [TM (x.tmod (3:Int)) v z w 0 0 0]]) (.sl 5 (some (l.length,0)) 1 (some 1)) λo=>CJ lo 103 5 56 (.sl k b i p) o (l ++ [.rows 5 103 false [TM (x.tmod (3:Int)) v z w 0 0 0]]) λv l=>eS 5 v λv o z=>Cs lo y (AU (x+1)) J B P C n0 a0 n1 D n2 a1 n3 c0 n4 a2 n5 c1 n a m c 5 v o z j d g u G A H s l)) (some (.agg [.sl n a m c,.sl k b i p,.sl j d g u,.sl G A H s],h)) :=
 lE
theorem RI {e:Pq} (hk:(Al (Ae lo 44 (Cy x 1 5) h) λv l=>eB v (Al (Ae lo 72 [An a n c b m p d k u e i s,BO x y z t S f] l) λv o=>eU v λv=>eC v λv w=>eA v λv=>eC v λv q=>eS 6 v λv g j=>eC q λq A=>eS 5 q λq B C=>eC A λA D=>eS 9 A λA E G=>eC D λD H=>eS 5 D λD J K=>eN H (eC w λw H=>eB w (eN H (some (.tup [An v g j q B C A E G D J K,.bool true],o))) (eN H (some (.tup [An v g j q B C A E G D J K,.bool false],o))))) (Al (Ae lo 44 (Cy x 6 9) l) λv l=>eB v (Al (Ae lo 73 [An a n c b m p d k u e i s,BO x y z t S f] l) λv o=>eU v λv=>eC v λv w=>eA v λv=>eC v λv q=>eS 6 v λv g j=>eC q λq A=>eS 5 q λq B C=>eC A λA D=>eS 9 A λA E G=>eC D λD H=>eS 5 D λD J K=>eN H (eC w λw H=>eB w (eN H (some (.tup [An v g j q B C A E G D J K,.bool true],o))) (eN H (some (.tup [An v g j q B C A E G D J K,.bool false],o))))) (Al (Ae lo 44 (Cy x 10 13) l) λv l=>eB v (Al (Ae lo 74 [An a n c b m p d k u e i s,BO x y z t S f] l) λv o=>eU v λv=>eC v λv w=>eA v λv=>eC v λv q=>eS 6 v λv g j=>eC q λq A=>eS 5 q λq B C=>eC A λA D=>eS 9 A λA E G=>eC D λD H=>eS 5 D λD J K=>eN H (eC w λw H=>eB w (eN H (some (.tup [An v g j q B C A E G D J K,.bool true],o))) (eN H (some (.tup [An v g j q B C A E G D J K,.bool false],o))))) (some (.tup [An a n c b m p d k u e i s,.bool false],l)))))=some r) :
  Ae lo 63 [An a n c b m p d k u e i s,BO x y z t S f] h=some r :=
 eK Tryz.func63 hk
theorem II (hk:(Al (Ae lo 76 (Dr a n c) h) λv l=>eS 2 v λv o s=>Al (Ae lo 75 (Dr v o s) l) λv l=>eS 2 v λv o s=>some ((AE v o s),l))=some r) :
  Ae lo 64 [AE a n c] h=some r :=
 eK Tryz.func64 hk
def Cv lo x y a n c z t h:=
 LA 65 Tryz.f65 221311 0 111 lo ⟨[(2,Iv x),(3,Iv y),(6,.sl 1 a n c),(7,Iv z),(8,Iv t)],[],h⟩
theorem P7 (hk:(Cv h.length 0 0 a n c (n:Int) 0 h)=some (v,h')) (hn:noId v=true:=by rfl) :
  Ae lo 65 [.sl 1 a n c] h=some (v,h) :=
 eD Tryz.func65 hk hn
theorem Cv.e :
  Cv lo t y a n c z x h=br (decide (x<z)) (AM x n (eO a λv=>eO (ld h v.1 (v.2+x.toNat) 0 1) λv=>eC v λv l=>eN l (eI .i64 v λv=>br (v==y) (Cv lo t y a n c z (AU (x+1)) h) (some (Iv v,h))))) (some (Iv y,h)) :=
 lE
theorem JE (hk:(Al (Ae h.length 77 (AP y) h) λl c=>eB l (Al (Ae h.length 77 (AP x) c) λl n=>eB l (some (Iv 0,n)) (some (Iv (-1),n))) (Al (Ae h.length 77 (AP x) c) λl c=>eB l (some (Iv 1,c)) (br (decide (y<x)) (some (Iv (-1),c)) (br (decide (y>x)) (some (Iv 1,c)) (some (Iv 0,c))))))=some (v,h')) (hn:noId v=true:=by rfl) :
  Ae lo 66 (BU y x) h=some (v,h) :=
 eD Tryz.func66 hk hn
theorem K0 {e:Pq} (hk:(Al (Ae lo 32 [CL n m k,Iv 3] h) λv l=>eI .i64 v λv=>Al (Ae lo 32 [CL n m k,Iv 20] l) λl o=>eI .i64 l λl=>br (l==0) (Al (Ae lo 32 [CL n m k,Iv 4] o) λx y=>eI .i64 x λx=>Al (Ae lo 32 [CL n m k,Iv 4] y) λy z=>eI .i64 y λy=>Al (Ae lo 78 [CL n m k] z) λz w=>eT z λz=>some ((BO 1 x 0 y z false),w)) (br (l==1) (Al (Ae lo 32 [CL n m k,Iv 4] o) λx y=>eI .i64 x λx=>Al (Ae lo 32 [CL n m k,Iv 4] y) λy z=>eI .i64 y λy=>Al (Ae lo 78 [CL n m k] z) λz w=>eT z λz=>some ((BO 1 x 0 y z false),w)) (br (l==2) (Al (Ae lo 32 [CL n m k,Iv 4] o) λx y=>eI .i64 x λx=>Al (Ae lo 32 [CL n m k,Iv 4] y) λy z=>eI .i64 y λy=>Al (Ae lo 78 [CL n m k] z) λz w=>eT z λz=>some ((BO 1 x 0 y z false),w)) (br (l==3) (Al (Ae lo 32 [CL n m k,Iv 4] o) λx y=>eI .i64 x λx=>Al (Ae lo 32 [CL n m k,Iv 4] y) λy z=>eI .i64 y λy=>some ((BO 1 x 0 y ⟨⟨[]⟩⟩ true),z)) (br (l==4) (Al (Ae lo 32 [CL n m k,Iv 4] o) λx y=>eI .i64 x λx=>some ((BO 2 x 0 0 ⟨⟨[]⟩⟩ false),y)) (br (l==5) (Al (Ae lo 32 [CL n m k,Iv 4] o) λx y=>eI .i64 x λx=>some ((BO 2 x 0 0 ⟨⟨[]⟩⟩ false),y)) (br (l==6) (Al (Ae lo 32 [CL n m k,Iv 4] o) λx y=>eI .i64 x λx=>some ((BO 2 x 0 0 ⟨⟨[]⟩⟩ false),y)) (br (l==7) (Al (Ae lo 32 [CL n m k,Iv 4] o) λx y=>eI .i64 x λx=>Al (Ae lo 32 [CL n m k,Iv 4] y) λy z=>eI .i64 y λy=>Al (Ae lo 32 [CL n m k,Iv 4] z) λz w=>eI .i64 z λz=>some ((BO 3 x y z ⟨⟨[]⟩⟩ false),w)) (br (l==8) (Al (Ae lo 32 [CL n m k,Iv 4] o) λx y=>eI .i64 x λx=>Al (Ae lo 32 [CL n m k,Iv 4] y) λy z=>eI .i64 y λy=>Al (Ae lo 32 [CL n m k,Iv 4] z) λz w=>eI .i64 z λz=>some ((BO 3 x y z ⟨⟨[]⟩⟩ false),w)) (br (l==9) (Al (Ae lo 32 [CL n m k,Iv 4] o) λx y=>eI .i64 x λx=>Al (Ae lo 32 [CL n m k,Iv 4] y) λy z=>eI .i64 y λy=>Al (Ae lo 32 [CL n m k,Iv 4] z) λz w=>eI .i64 z λz=>some ((BO 3 x y z ⟨⟨[]⟩⟩ false),w)) (br (l==10) (Al (Ae lo 49 [CL n m k,.sl 1 (some (o.length,0)) 2 (some 2)] (o ++ [.rows 1 3 false [AP 4,AP 5]])) λx y=>eI .i64 x λx=>Al (Ae lo 32 [CL n m k,Iv 4] y) λy z=>eI .i64 y λy=>Al (Ae lo 32 [CL n m k,Iv 3] z) λz w=>eI .i64 z λz=>some ((BO x y z 0 ⟨⟨[]⟩⟩ false),w)) (br (l==11) (Al (Ae lo 49 [CL n m k,.sl 1 (some (o.length,0)) 4 (some 4)] (o ++ [.rows 1 3 false [AP 0,AP 0,AP 1,AP 2]])) λx y=>eI .i64 x λx=>some ((BO 6 v x 0 ⟨⟨[]⟩⟩ false),y)) (br (l==12) (Al (Ae lo 49 [CL n m k,.sl 1 (some (o.length,0)) 4 (some 4)] (o ++ [.rows 1 3 false [AP 0,AP 0,AP 1,AP 2]])) λx y=>eI .i64 x λx=>some ((BO 6 v x 0 ⟨⟨[]⟩⟩ false),y)) (br (l==13) (Al (Ae lo 49 [CL n m k,.sl 1 (some (o.length,0)) 4 (some 4)] (o ++ [.rows 1 3 false [AP 0,AP 0,AP 1,AP 2]])) λx y=>eI .i64 x λx=>some ((BO 6 v x 0 ⟨⟨[]⟩⟩ false),y)) (br (l==14) (Al (Ae lo 49 [CL n m k,.sl 1 (some (o.length,0)) 2 (some 2)] (o ++ [.rows 1 3 false [AP 7,AP 8]])) λx y=>eI .i64 x λx=>Al (Ae lo 32 [CL n m k,Iv 4] y) λy z=>eI .i64 y λy=>some ((BO x v y 0 ⟨⟨[]⟩⟩ false),z)) (br (l==15) (Al (Ae lo 32 [CL n m k,Iv 3] o) λx y=>eI .i64 x λx=>some ((BO 9 v x 0 ⟨⟨[]⟩⟩ false),y)) (br (l==16) (Al (Ae lo 32 [CL n m k,Iv 3] o) λx y=>eI .i64 x λx=>some ((BO 9 v x 0 ⟨⟨[]⟩⟩ false),y)) (br (l==17) (Al (Ae lo 32 [CL n m k,Iv 3] o) λx y=>eI .i64 x λx=>AM x i (eO a λz=>eO (ld y z.1 (z.2+x.toNat) 4 1) λz=>eC z λz w=>eN w (eS 1 z λz w q=>AM v w (eO z λz=>eO (ld y z.1 (z.2+v.toNat) 0 1) λz=>eC z λz w=>eN w (eS 6 z λz z w=>some ((BO 10 v x (z:Int) ⟨⟨[]⟩⟩ false),y)))))) (br (l==18) (Al (Ae lo 32 [CL n m k,Iv 3] o) λl x=>eI .i64 l λl=>AM l i (eO a λy=>eO (ld x y.1 (y.2+l.toNat) 4 1) λy=>eC y λy z=>eN z (eS 1 y λy z w=>AM v z (eO y λy=>eO (ld x y.1 (y.2+v.toNat) 0 1) λy=>eC y λy z=>eN z (eS 6 y λy y z=>some ((BO 10 v l (y:Int) ⟨⟨[]⟩⟩ false),x)))))) (Al (Ae lo 49 [CL n m k,.sl 1 (some (o.length,0)) 7 (some 7)] (o ++ [.rows 1 3 false [AP 11,AP 11,AP 11,AP 12,AP 13,AP 0,AP 14]])) λv l=>eI .i64 v λv=>Al (Ae lo 32 [CL n m k,Iv 3] l) λl o=>eI .i64 l λl=>some ((BO v l 0 0 ⟨⟨[]⟩⟩ false),o)))))))))))))))))))))=some r) :
  Ae lo 67 [CL n m k,An a i c b j p d g u e G s] h=some r :=
 eK Tryz.func67 hk
def Cc lo x a n c m b k p i d j u h:=
 LA 68 Tryz.f68 221311 0 111 lo ⟨[(1,.lp 1 0),(2,.lp 2 0),(3,.lp 3 0),(4,Iv x)],[(1,(Dr a n c)),(2,[.sl m b k p]),(3,[.sl i d j u])],h⟩
def Cb lo x y a n c m b k p i d j u e g s G A H C h:=
 Lp (X 68) lo (pf 22131231221311 Tryz.f68) 2 (DY 2 (kS (X 68) lo (pf 11231221311 Tryz.f68) 1 (DY 1 (kS (X 68) lo (pf 11221311 Tryz.f68) 0 (X5 (X 68) lo (pf 221311 Tryz.f68) 0 (DY 0 (kS (X 68) lo (pf 111 Tryz.f68) 0 (VI (X 68) Tryz.f68.results.toList)))))))) ⟨[(1,.lp 1 0),(2,.lp 2 0),(3,.lp 3 0),(4,Iv x),(5,.lp 5 0),(6,Iv y)],[(1,(Dr a n c)),(2,[.sl m b k p]),(3,[.sl i d j u]),(5,[.sl 6 e g s,.sl G A H C])],h⟩
theorem NK (hk:(Cc lo 0 a n c 0 none 0 (some 0) 0 none 0 (some 0) h)=some r) :
  Ae lo 68 [AE a n c] h=some r :=
 eK Tryz.func68 hk
theorem Cc.e :
  Cc lo x a n p i d j u m b k c h=br (decide (x<(n:Int))) (AM x n (eO a λv=>eO (ld h v.1 (v.2+x.toNat) 0 1) λv=>eC v λv l=>eS 6 v λv o s=>eN l (Al (Ae lo 79 [Fo v o s] h) λv l=>eA v λv=>eC v λv o=>eS 6 v λv s y=>eN o (Cb lo x 0 a n p i d j u m b k c v s y 0 none 0 (some 0) l)))) (some (.agg [.sl m b k c],h)) :=
 lE
theorem Cb.e {lo n j g G H m k i:Nat}{x y:Int}{a A B b d:Pq}{u s C c p:Nq}{h:Heap} :
  Cb lo x y a n u j A g s G B H C b m c k d i p h=AM x n (eO a λv=>eO (ld h v.1 (v.2+x.toNat) 1 1) λv=>eC v λv l=>eN l (eS 6 v λv v l=>br (decide (y<(v:Int))) (AM x n (eO a λv=>eO (ld h v.1 (v.2+x.toNat) 1 1) λv=>eC v λv l=>eN l (eS 6 v λv l o=>AM y l (eO v λv=>eO (ld h v.1 (v.2+y.toNat) 0 6) λv=>eC v λv l=>eI .i64 v λv=>eC l λl o=>eI .i64 l λl=>eC o λo z=>eI .i64 o λo=>eC z λz w=>eS 2 z λz q t=>eC w λw e=>eT w λw=>eC e λe f=>eBv e λe=>eN f (Al (Ae lo 61 [CD v l o z q t w e] h) λv l=>eA v λv=>eC v λv o=>eI .i64 v λv=>eC o λo z=>eI .i64 o λo=>eC z λz w=>eI .i64 z λz=>eC w λw q=>eS 2 w λw t e=>eC q λq f=>eT q λq=>eC f λf D=>eBv f λf=>eN D (Ap 6 (l ++ [.rows 6 105 false [EF v o z w t e q f]]) (.sl 6 (some (l.length,0)) 1 (some 1)) λD=>CJ lo 105 6 72 (.sl k d i p) D (l ++ [.rows 6 105 false [EF v o z w t e q f]]) λv l=>eS 6 v λv o z=>Cb lo x (AU (y+1)) a n u j A g s G B H C b m c 6 v o z l)))))) (Ap 2 (h ++ [.rows 2 126 false [[.sl 6 b m c,.sl k d i p]]]) (.sl 2 (some (h.length,0)) 1 (some 1)) λv=>CJ lo 126 2 48 (.sl G B H C) v (h ++ [.rows 2 126 false [[.sl 6 b m c,.sl k d i p]]]) λv l=>eS 2 v λv o z=>Cc lo (AU (x+1)) a n u j A g s 2 v o z l))) :=
 lE
def B8 lo a n c b m p x h:=
 LA 69 Tryz.f69 221311 0 111 lo ⟨[(0,.sl 6 a n c),(3,.sl 6 b m p),(4,Iv x)],[],h⟩
theorem Nz (hk:(B8 lo a n c (some (h.length,0)) 0 (some 0) 0 (h ++ [.rows 6 105 false []]))=some r) :
  Ae lo 69 (D5 a n c) h=some r :=
 eK Tryz.func69 hk
theorem B8.e :
  B8 lo a n p b m c x h=br (decide (x<(n:Int))) (AM x n (eO a λv=>eO (ld h v.1 (v.2+x.toNat) 0 6) λv=>eC v λv l=>eI .i64 v λv=>eC l λl o=>eI .i64 l λl=>eC o λo s=>eI .i64 o λo=>eC s λs y=>eS 2 s λs z u=>eC y λy w=>eT y λy=>eC w λw q=>eBv w λw=>eN q (Al (Ae lo 61 [CD v l o s z u y w] h) λv l=>eA v λv=>eC v λv o=>eI .i64 v λv=>eC o λo s=>eI .i64 o λo=>eC s λs y=>eI .i64 s λs=>eC y λy z=>eS 2 y λy u w=>eC z λz q=>eT z λz=>eC q λq g=>eBv q λq=>eN g (Ap 6 (l ++ [.rows 6 105 false [EF v o s y u w z q]]) (.sl 6 (some (l.length,0)) 1 (some 1)) λg=>CJ lo 105 6 72 (.sl 6 b m c) g (l ++ [.rows 6 105 false [EF v o s y u w z q]]) λv l=>eS 6 v λv o s=>B8 lo a n p v o s (AU (x+1)) l)))) (some (.sl 6 b m c,h)) :=
 lE
theorem PY (hk:(Al (Ae h.length 80 (AP y) h) λv l=>eA v λv=>eC v λv c=>eS 2 v λv n a=>eN c (some (.agg [Iv x,Iv 0,.sl 2 v n a,.sl 0 none 0 (some 0),.sl 1 (some (l.length,0)) 3 (some 3),.bool false],(l ++ [.rows 1 97 false [[.sl 0 none 0 (some 0)],[.sl 0 none 0 (some 0)],[.sl 0 none 0 (some 0)]]]))))=some r) :
  Ae lo 70 (BU x y) h=some r :=
 eK Tryz.func70 hk
theorem NP (hk:(some ((AE (some (h.length,0)) 4 (some 4)),(h ++ [.rows 2 29 false [BU 0 0,BU 0 0,BU 0 0,BU 0 0]])))=some r) :
  Ae lo 71 [] h=some r :=
 eK Tryz.func71 hk
theorem KU {e:Pq} (hk:(Al (Ae lo 44 (Cy x 0 (AU ((n:Int) - 1))) h) λv l=>eB v (br (y==1) (Al (Ae lo 81 [An b m c a n p d k u e i s,BO y x z t S f] l) λv o=>eU v λv=>eC v λv w=>eA v λv=>eC v λv q=>eS 6 v λv g j=>eC q λq A=>eS 5 q λq B C=>eC A λA D=>eS 9 A λA E G=>eC D λD H=>eS 5 D λD J K=>eN H (eC w λw H=>eB w (eN H (some (.tup [An v g j q B C A E G D J K,.bool true],o))) (eN H (some (.tup [An v g j q B C A E G D J K,.bool false],o))))) (br (y==2) (Al (Ae lo 82 [An b m c a n p d k u e i s,BO y x z t S f] l) λv o=>eU v λv=>eC v λv w=>eA v λv=>eC v λv q=>eS 6 v λv g j=>eC q λq A=>eS 5 q λq B C=>eC A λA D=>eS 9 A λA E G=>eC D λD H=>eS 5 D λD J K=>eN H (eC w λw H=>eB w (eN H (some (.tup [An v g j q B C A E G D J K,.bool true],o))) (eN H (some (.tup [An v g j q B C A E G D J K,.bool false],o))))) (br (y==3) (Al (Ae lo 83 [An b m c a n p d k u e i s,BO y x z t S f] l) λv o=>eU v λv=>eC v λv w=>eA v λv=>eC v λv q=>eS 6 v λv g j=>eC q λq A=>eS 5 q λq B C=>eC A λA D=>eS 9 A λA E G=>eC D λD H=>eS 5 D λD J K=>eN H (eC w λw H=>eB w (eN H (some (.tup [An v g j q B C A E G D J K,.bool true],o))) (eN H (some (.tup [An v g j q B C A E G D J K,.bool false],o))))) (br (y==4) (Al (Ae lo 84 [An b m c a n p d k u e i s,BO y x z t S f] l) λv o=>eU v λv=>eC v λv w=>eA v λv=>eC v λv q=>eS 6 v λv g j=>eC q λq A=>eS 5 q λq B C=>eC A λA D=>eS 9 A λA E G=>eC D λD H=>eS 5 D λD J K=>eN H (eC w λw H=>eB w (eN H (some (.tup [An v g j q B C A E G D J K,.bool true],o))) (eN H (some (.tup [An v g j q B C A E G D J K,.bool false],o))))) (AM x n (eO a λv=>eO (ld l v.1 (v.2+x.toNat) 2 1) λv=>eC v λv o=>eN o (eI .i64 v λv=>br (decide (v>0)) (some (.tup [An b m c a n p d k u e i s,.bool false],l)) (Al (Ae lo 44 (Cy z 0 2) l) λv o=>eB v (AM x n (eO a λv=>eO (st lo o v.1 (v.2+x.toNat) 0 (AP z)) λv=>some (.tup [An b m c a n p d k u e i s,.bool true],v))) (some (.tup [An b m c a n p d k u e i s,.bool false],o)))))))))) (some (.tup [An b m c a n p d k u e i s,.bool false],l)))=some r) :
  Ae lo 72 [An b m c a n p d k u e i s,BO y x z t S f] h=some r :=
 eK Tryz.func72 hk
theorem MQ {e:Pq} (hk:(Al (Ae lo 44 (Cy x 0 2) h) λv l=>eB v (AM x n (eO a λv=>eO (ld l v.1 (v.2+x.toNat) 0 6) λv=>eC v λv o=>eI .i64 v λv=>eC o λo w=>eI .i64 o λo=>eC w λw q=>eS 2 w λw g j=>eC q λq A=>eS 6 q λq B C=>eC A λA D=>eS 1 A λA E G=>eC D λD H=>eBv D λD=>eN H (br (z==6) (Al (Ae lo 85 [AE w g j,Iv y] l) λH J=>eB H (Al (Ae lo 86 [AE w g j,Iv y] J) λH K=>eA H λH=>eC H λH L=>eS 2 H λH M N=>eN L (Al (Ae lo 87 [BG v o H M N q B C A E G D] K) λH K=>eA H λH=>eC H λH L=>eI .i64 H λH=>eC L λL M=>eI .i64 L λL=>eC M λM N=>eS 2 M λM O P=>eC N λN Q=>eS 6 N λN U W=>eC Q λQ Y=>eS 1 Q λQ Z v0=>eC Y λY v1=>eBv Y λY=>eN v1 (AM x n (eO a λv1=>eO (st lo K v1.1 (v1.2+x.toNat) 0 (Ds H L M O P N U W Q Z v0 Y)) λH=>some (.tup [An a n c b m p d k u e i s,.bool true],H))))) (AM x n (eO a λH=>eO (st lo J H.1 (H.2+x.toNat) 0 (Ds v o w g j q B C A E G D)) λH=>some (.tup [An a n c b m p d k u e i s,.bool false],H)))) (br (z==7) (Al (Ae lo 88 [BG v o w g j q B C A E G D,Iv y] l) λH J=>eB H (Al (Ae lo 89 [AE w g j,Iv y] J) λH K=>eA H λH=>eC H λH L=>eS 2 H λH M N=>eN L (Al (Ae lo 87 [BG v o H M N q B C A E G true] K) λH K=>eA H λH=>eC H λH L=>eI .i64 H λH=>eC L λL M=>eI .i64 L λL=>eC M λM N=>eS 2 M λM O P=>eC N λN Q=>eS 6 N λN U W=>eC Q λQ Y=>eS 1 Q λQ Z v0=>eC Y λY v1=>eBv Y λY=>eN v1 (AM x n (eO a λv1=>eO (st lo K v1.1 (v1.2+x.toNat) 0 (Ds H L M O P N U W Q Z v0 Y)) λH=>some (.tup [An a n c b m p d k u e i s,.bool true],H))))) (AM x n (eO a λH=>eO (st lo J H.1 (H.2+x.toNat) 0 (Ds v o w g j q B C A E G D)) λH=>some (.tup [An a n c b m p d k u e i s,.bool false],H)))) (br (z==8) (br (decide ((g:Int)<4)) (Al (Ae lo 90 [AE w g j] l) λH J=>eA H λH=>eC H λH K=>eS 2 H λH L M=>eN K (AM x n (eO a λK=>eO (st lo J K.1 (K.2+x.toNat) 0 (Ds v o H L M q B C A E G D)) λH=>some (.tup [An a n c b m p d k u e i s,.bool true],H)))) (AM x n (eO a λH=>eO (st lo l H.1 (H.2+x.toNat) 0 (Ds v o w g j q B C A E G D)) λH=>some (.tup [An a n c b m p d k u e i s,.bool false],H)))) (Al (Ae lo 44 (Cy y 0 2) l) λH J=>eB H (Al (Ae lo 91 [BG v o w g j q B C A E G D,Iv y] J) λH K=>eB H (Al (Ae lo 92 [BG v o w g j q B C A E G D,Iv y] K) λH L=>eA H λH=>eC H λH M=>eI .i64 H λH=>eC M λM N=>eI .i64 M λM=>eC N λN O=>eS 2 N λN P Q=>eC O λO U=>eS 6 O λO W Y=>eC U λU Z=>eS 1 U λU v0 v1=>eC Z λZ v2=>eBv Z λZ=>eN v2 (AM x n (eO a λv2=>eO (st lo L v2.1 (v2.2+x.toNat) 0 (Ds H M N P Q O W Y U v0 v1 Z)) λH=>some (.tup [An a n c b m p d k u e i s,.bool true],H)))) (AM x n (eO a λH=>eO (st lo K H.1 (H.2+x.toNat) 0 (Ds v o w g j q B C A E G D)) λH=>some (.tup [An a n c b m p d k u e i s,.bool false],H)))) (AM x n (eO a λH=>eO (st lo J H.1 (H.2+x.toNat) 0 (Ds v o w g j q B C A E G D)) λv=>some (.tup [An a n c b m p d k u e i s,.bool false],v))))))))) (some (.tup [An a n c b m p d k u e i s,.bool false],l)))=some r) :
  Ae lo 73 [An a n c b m p d k u e i s,BO z x y t S f] h=some r :=
 eK Tryz.func73 hk
theorem PV {e:Pq} (hk:(br (z==10) (Al (Ae lo 44 (Cy x 0 2) h) λv l=>eB v (Al (Ae lo 44 (Cy t 0 2) l) λv o=>eB v (br (x==t) (some (.tup [An a n c b k p d m s e i u,.bool false],o)) (br (decide ((m:Int)>=12)) (some (.tup [An a n c b k p d m s e i u,.bool false],o)) (AM x n (eO a λv=>eO (ld o v.1 (v.2+x.toNat) 3 1) λv=>eC v λv w=>eN w (eS 6 v λv v w=>Al (Ae lo 44 (Cy y 0 (AU ((v:Int) - 1))) o) λv w=>eB v (AM x n (eO a λv=>eO (ld w v.1 (v.2+x.toNat) 3 1) λv=>eC v λv q=>eN q (eS 6 v λv q g=>AM y q (eO v λv=>eO (ld w v.1 (v.2+y.toNat) 0 6) λv=>eC v λv q=>eI .i64 v λv=>eC q λq g=>eI .i64 q λq=>eC g λg j=>eI .i64 g λg=>eC j λj A=>eS 2 j λj B C=>eC A λA D=>eT A λA=>eC D λD E=>eBv D λD=>eN E (Al (Ae lo 61 [CD v q g j B C A D] w) λv q=>eA v λv=>eC v λv g=>eI .i64 v λv=>eC g λg j=>eI .i64 g λg=>eC j λj A=>eI .i64 j λj=>eC A λA B=>eS 2 A λA C D=>eC B λB E=>eT B λB=>eC E λE G=>eBv E λE=>eN G (Ap 9 (q ++ [.rows 9 107 false [TN x t y v g j A C D B E]]) (.sl 9 (some (q.length,0)) 1 (some 1)) λG=>CJ lo 107 9 96 (.sl 9 d m s) G (q ++ [.rows 9 107 false [TN x t y v g j A C D B E]]) λv q=>eS 9 v λv g j=>some (.tup [An a n c b k p v g j e i u,.bool true],q))))))) (some (.tup [An a n c b k p d m s e i u,.bool false],w))))))) (some (.tup [An a n c b k p d m s e i u,.bool false],o))) (some (.tup [An a n c b k p d m s e i u,.bool false],l))) (Al (Ae lo 44 (Cy x 0 (AU ((m:Int) - 1))) h) λv l=>eB v (AM x m (eO d λv=>eO (ld l v.1 (v.2+x.toNat) 0 9) λv=>eC v λv o=>eI .i64 v λv=>eC o λo w=>eI .i64 o λo=>eC w λw q=>eI .i64 w λw=>eC q λq g=>eI .i64 q λq=>eC g λg j=>eI .i64 g λg=>eC j λj A=>eI .i64 j λj=>eC A λA B=>eS 2 A λA C D=>eC B λB E=>eT B λB=>eC E λE G=>eBv E λE=>eN G (br (z==13) (br (z==12) (some (.tup [An a n c b k p d m s e i u,.bool true],l)) (AM o n (eO a λG=>eO (ld l G.1 (G.2+o.toNat) 0 6) λG=>eC G λG H=>eI .i64 G λG=>eC H λH J=>eI .i64 H λH=>eC J λJ K=>eS 2 J λJ L M=>eC K λK N=>eS 6 K λK O P=>eC N λN Q=>eS 1 N λN U W=>eC Q λQ Y=>eBv Q λQ=>eN Y (Al (Ae lo 93 [BG G H J L M K O P N U W Q,Iv v,Iv w,CD q g j A C D B E] l) λG H=>eU G λG=>eC G λG J=>eA G λG=>eC G λG K=>eI .i64 G λG=>eC K λK L=>eI .i64 K λK=>eC L λL M=>eS 2 L λL N O=>eC M λM P=>eS 6 M λM Q U=>eC P λP W=>eS 1 P λP Y Z=>eC W λW v0=>eBv W λW=>eN v0 (eC J λJ v0=>eB J (eN v0 (AM o n (eO a λJ=>eO (st lo H J.1 (J.2+o.toNat) 0 (Ds G K L N O M Q U P Y Z W)) λG=>some (.tup [An a n c b k p d m s e i u,.bool true],G)))) (eN v0 (some (.tup [An a n c b k p d m s e i u,.bool true],H)))))))) (Ay d m s none (some (Iv x)) none λG H J=>Ap 9 (l ++ [.rows 9 107 false []]) (.sl 9 G H J) λG=>CJ lo 107 9 96 (.sl 9 (some (l.length,0)) 0 (some 0)) G (l ++ [.rows 9 107 false []]) λG H=>eS 9 G λG J K=>Ay d m s (some (Iv (AU (x+1)))) none none λL M N=>Ap 9 H (.sl 9 L M N) λL=>CJ lo 107 9 96 (.sl 9 G J K) L H λG H=>eS 9 G λG J K=>br (z==12) (some (.tup [An a n c b k p G J K e i u,.bool true],H)) (AM o n (eO a λL=>eO (ld H L.1 (L.2+o.toNat) 0 6) λL=>eC L λL M=>eI .i64 L λL=>eC M λM N=>eI .i64 M λM=>eC N λN O=>eS 2 N λN P Q=>eC O λO U=>eS 6 O λO W Y=>eC U λU Z=>eS 1 U λU v0 v1=>eC Z λZ v2=>eBv Z λZ=>eN v2 (Al (Ae lo 93 [BG L M N P Q O W Y U v0 v1 Z,Iv v,Iv w,CD q g j A C D B E] H) λv w=>eU v λv=>eC v λv q=>eA v λv=>eC v λv g=>eI .i64 v λv=>eC g λg j=>eI .i64 g λg=>eC j λj A=>eS 2 j λj B C=>eC A λA D=>eS 6 A λA E H=>eC D λD L=>eS 1 D λD M N=>eC L λL O=>eBv L λL=>eN O (eC q λq O=>eB q (eN O (AM o n (eO a λq=>eO (st lo w q.1 (q.2+o.toNat) 0 (Ds v g j B C A E H D M N L)) λv=>some (.tup [An a n c b k p G J K e i u,.bool true],v)))) (eN O (some (.tup [An a n c b k p G J K e i u,.bool true],w))))))))))) (some (.tup [An a n c b k p d m s e i u,.bool false],l))))=some r) :
  Ae lo 74 [An a n c b k p d m s e i u,BO z x t y S f] h=some r :=
 eK Tryz.func74 hk
theorem Eb (hk:(Ay a n c none (some (Iv (n:Int))) (some (Iv (n:Int))) λv l o=>some (.sl 2 v l o,h))=some r) :
  Ae lo 75 (Dr a n c) h=some r :=
 eK Tryz.func75 hk
theorem CE (hk:(br (a.isNone) (some (.sl 0 none 0 (some 0),h)) (Ap 2 (h ++ [.rows 2 29 false []]) (.sl 2 a n c) λv=>CJ lo 29 2 16 (.sl 2 (some (h.length,0)) 0 (some 0)) v (h ++ [.rows 2 29 false []]) λv l=>eS 2 v λv o s=>some (.sl 2 v o s,l)))=some r) :
  Ae lo 76 (Dr a n c) h=some r :=
 eK Tryz.func76 hk
theorem Li (hk:(br (x==x) (Bj h) (AI h))=some (v,h')) (hn:noId v=true:=by rfl) :
  Ae lo 77 (AP x) h=some (v,h) :=
 eD Tryz.func77 hk hn
theorem MU (hk:(Al (Ae lo 94 [CL n m k,.sl 1 (some (h.length,0)) 8 (some 8)] (h ++ [.rows 1 9 false [[.str ⟨⟨[]⟩⟩],[.str ⟨⟨[97]⟩⟩],[.str ⟨⟨[98]⟩⟩],[.str ⟨⟨[120,35,49]⟩⟩],[.str ⟨⟨[61]⟩⟩],[.str ⟨⟨[45]⟩⟩],[.str ⟨⟨[108,111,110,103,116,101,120,116]⟩⟩],[.str ⟨⟨[122,122]⟩⟩]]])) λv l=>eT v λv=>some (.str v,l))=some r) :
  Ae lo 78 [CL n m k] h=some r :=
 eK Tryz.func78 hk
def A5 lo x a n c m b k p i d j u h:=
 LA 79 Tryz.f79 221311 0 111 lo ⟨[(1,.lp 1 0),(2,.lp 2 0),(3,.lp 3 0),(4,Iv x)],[(1,(D5 a n c)),(2,[.sl m b k p]),(3,[.sl i d j u])],h⟩
theorem FF (hk:(A5 lo 0 a n c 0 none 0 (some 0) 0 none 0 (some 0) h)=some r) :
  Ae lo 79 [Fo a n c] h=some r :=
 eK Tryz.func79 hk
theorem A5.e :
  A5 lo x a n p i d j u m b k c h=br (decide (x<(n:Int))) (AM x n (eO a λv=>eO (ld h v.1 (v.2+x.toNat) 0 6) λv=>eC v λv l=>eI .i64 v λv=>eC l λl o=>eI .i64 l λl=>eC o λo s=>eI .i64 o λo=>eC s λs y=>eS 2 s λs z w=>eC y λy q=>eT y λy=>eC q λq g=>eBv q λq=>eN g (Al (Ae lo 61 [CD v l o s z w y q] h) λv l=>eA v λv=>eC v λv o=>eI .i64 v λv=>eC o λo s=>eI .i64 o λo=>eC s λs y=>eI .i64 s λs=>eC y λy z=>eS 2 y λy w q=>eC z λz g=>eT z λz=>eC g λg t=>eBv g λg=>eN t (Ap 6 (l ++ [.rows 6 105 false [EF v o s y w q z g]]) (.sl 6 (some (l.length,0)) 1 (some 1)) λt=>CJ lo 105 6 72 (.sl m b k c) t (l ++ [.rows 6 105 false [EF v o s y w q z g]]) λv l=>eS 6 v λv o s=>A5 lo (AU (x+1)) a n p i d j u 6 v o s l)))) (some (.agg [.sl m b k c],h)) :=
 lE
def BL lo x y n a m c k b i p h:=
 LA 80 Tryz.f80 2213111 0 1111 lo ⟨[(0,Iv x),(2,.lp 2 0),(3,.lp 3 0),(4,Iv y)],[(2,[.sl n a m c]),(3,[.sl k b i p])],h⟩
theorem Lb (hk:(Al (Ae lo 44 (Cy x 1 4) h) λv l=>eB v (BL lo x 0 0 none 0 (some 0) 0 none 0 (some 0) l) (some (.agg [.sl 0 none 0 (some 0)],l)))=some r) :
  Ae lo 80 (AP x) h=some r :=
 eK Tryz.func80 hk
theorem BL.e :
  BL lo x y k b i p n a m c h=br (decide (y<x)) (Al (Ae lo 95 [] h) λv l=>eA v λv=>eC v λv o=>eS 6 v λv s z=>eN o (Ap 2 (l ++ [.rows 2 126 false [[.sl 6 v s z,.sl 0 none 0 (some 0)]]]) (.sl 2 (some (l.length,0)) 1 (some 1)) λo=>CJ lo 126 2 48 (.sl n a m c) o (l ++ [.rows 2 126 false [[.sl 6 v s z,.sl 0 none 0 (some 0)]]]) λv l=>eS 2 v λv o s=>BL lo x (AU (y+1)) k b i p 2 v o s l)) (some (.agg [.sl n a m c],h)) :=
 lE
theorem MP {e:Pq} (hk:(AM x n (eO a λv=>eO (ld h v.1 (v.2+x.toNat) 0 5) λv=>eC v λv l=>eI .i64 v λv=>eC l λl o=>eS 2 l λl w q=>eC o λo g=>eI .i64 o λo=>eC g λg j=>eI .i64 g λg=>eC j λg j=>eI .i64 g λg=>eN j (AM v m (eO b λg=>eO (ld h g.1 (g.2+v.toNat) 0 6) λg=>eC g λg j=>eI .i64 g λg=>eC j λj A=>eI .i64 j λj=>eC A λA B=>eS 2 A λA C D=>eC B λB E=>eS 6 B λB G H=>eC E λE J=>eS 1 E λE K L=>eC J λJ M=>eBv J λJ=>eN M (br (decide (o>0)) (some (.tup [An b m c a n p d i u e k s,.bool false],h)) (Al (Ae lo 44 (Cy y 0 3) h) λo M=>eB o (Al (Ae lo 96 [.str S] M) λo N=>eB o (br f (br (S.toList==(ByteArray.mk #[]).toList) (Al (Ae lo 97 [BG g j A C D B G H E K L J,AE l w q] N) λo O=>eB o (br (decide ((k:Int)>=80)) (some (.tup [An b m c a n p d i u e k s,.bool false],O)) (Al (Ae lo 98 [BG g j A C D B G H E K L J,Iv y,.str S,.bool true,AE l w q] O) λo P=>eU o λo=>eC o λo Q=>eA o λo=>eC o λo U=>eI .i64 o λo=>eC U λU W=>eI .i64 U λU=>eC W λW Y=>eS 2 W λW Z v0=>eC Y λY v1=>eS 6 Y λY v2 v3=>eC v1 λv1 v4=>eS 1 v1 λv1 v5 v6=>eC v4 λv4 v7=>eBv v4 λv4=>eN v7 (eC Q λQ v7=>eA Q λQ=>eC Q λQ v8=>eI .i64 Q λQ=>eC v8 λv8 v9=>eI .i64 v8 λv8=>eN v9 (eN v7 (AM v m (eO b λv7=>eO (st lo P v7.1 (v7.2+v.toNat) 0 (Ds o U W Z v0 Y v2 v3 v1 v5 v6 v4)) λo=>AM x n (eO a λP=>eO (st lo o P.1 (P.2+x.toNat) 2 (BU Q v8)) λo=>AM x n (eO a λP=>eO (st lo o P.1 (P.2+x.toNat) 4 (AP y)) λo=>Al (Ae lo 99 [An b m c a n p d i u e k s,Iv x,Iv 1,Iv y,Am Q v8] o) λo P=>eA o λo=>eC o λo Q=>eS 6 o λo U W=>eC Q λQ Y=>eS 5 Q λQ Z v0=>eC Y λY v1=>eS 9 Y λY v2 v3=>eC v1 λv1 v4=>eS 5 v1 λv1 v5 v6=>eN v4 (some (.tup [An o U W Q Z v0 Y v2 v3 v1 v5 v6,.bool true],P)))))))))) (some (.tup [An b m c a n p d i u e k s,.bool false],O))) (some (.tup [An b m c a n p d i u e k s,.bool false],N))) (Al (Ae lo 97 [BG g j A C D B G H E K L J,AE l w q] N) λo O=>eB o (br (decide ((k:Int)>=80)) (some (.tup [An b m c a n p d i u e k s,.bool false],O)) (Al (Ae lo 98 [BG g j A C D B G H E K L J,Iv y,.str S,.bool false,AE l w q] O) λl o=>eU l λl=>eC l λl w=>eA l λl=>eC l λl q=>eI .i64 l λl=>eC q λq g=>eI .i64 q λq=>eC g λg j=>eS 2 g λg A B=>eC j λj C=>eS 6 j λj D E=>eC C λC G=>eS 1 C λC H J=>eC G λG K=>eBv G λG=>eN K (eC w λw K=>eA w λw=>eC w λw L=>eI .i64 w λw=>eC L λL P=>eI .i64 L λL=>eN P (eN K (AM v m (eO b λK=>eO (st lo o K.1 (K.2+v.toNat) 0 (Ds l q g A B j D E C H J G)) λv=>AM x n (eO a λl=>eO (st lo v l.1 (l.2+x.toNat) 2 (BU w L)) λv=>AM x n (eO a λl=>eO (st lo v l.1 (l.2+x.toNat) 4 (AP y)) λv=>Al (Ae lo 99 [An b m c a n p d i u e k s,Iv x,Iv 1,Iv y,Am w L] v) λv l=>eA v λv=>eC v λv o=>eS 6 v λv w q=>eC o λo g=>eS 5 o λo j A=>eC g λg B=>eS 9 g λg C D=>eC B λB E=>eS 5 B λB G H=>eN E (some (.tup [An v w q o j A g C D B G H,.bool true],l)))))))))) (some (.tup [An b m c a n p d i u e k s,.bool false],O)))) (some (.tup [An b m c a n p d i u e k s,.bool false],N))) (some (.tup [An b m c a n p d i u e k s,.bool false],M))))))))=some r) :
  Ae lo 81 [An b m c a n p d i u e k s,BO z x t y S f] h=some r :=
 by cases f<;>exact eK Tryz.func81 hk
theorem PW {e:Pq} (hk:(AM x n (eO a λv=>eO (ld h v.1 (v.2+x.toNat) 0 5) λv=>eC v λv l=>eI .i64 v λv=>eC l λl o=>eS 2 l λl w q=>eC o λo g=>eI .i64 o λo=>eC g λg j=>eI .i64 g λg=>eC j λj A=>eI .i64 j λj=>eN A (br (o==0) (some (.tup [An b k c a n p d i u e m s,.bool false],h)) (AM v k (eO b λA=>eO (ld h A.1 (A.2+v.toNat) 2 1) λv=>eC v λv A=>eS 2 v λv B C=>eN A (Al (Ae lo 100 [AE v B C,Iv 0,Iv j] h) λA C=>eA A λA=>eC A λA D=>eI .i64 A λA=>eC D λA D=>eI .i64 A λA=>eC D λD E=>eI .i64 D λD=>eC E λE G=>eS 2 E λE E E=>eC G λE G=>eT E λE=>eC G λE G=>eBv E λE=>eN G (AM 0 B (eO v λv=>eO (ld C v.1 (v.2+0) 0 1) λv=>eC v λv B=>eN B (eS 6 v λv B E=>AM j B (eO v λv=>eO (ld C v.1 (v.2+j.toNat) 1 2) λv=>eC v λv B=>eI .i64 v λv=>eC B λB E=>eI .i64 B λB=>eN E (Al (Ae lo 45 [Am A D,Am o g] C) λC E=>eB C (Al (Ae lo 45 [Am v B,Am o g] E) λv B=>eB v (Al (Ae lo 45 [Am A D,Am o g] B) λv C=>eB v (Al (Ae lo 45 [Am A D,Am o g] C) λv G=>eB v (AM x n (eO a λv=>eO (st lo G v.1 (v.2+x.toNat) 2 (BU 0 0)) λv=>AM x n (eO a λH=>eO (st lo v H.1 (H.2+x.toNat) 4 (AP 0)) λv=>some (.tup [An b k c a n p d i u e m s,.bool true],v)))) (Al (Ae lo 101 [AE l w q,Iv j,Am o g] G) λv G=>eA v λv=>eC v λv H=>eS 2 v λv J K=>eN H (AM x n (eO a λH=>eO (st lo G H.1 (H.2+x.toNat) 1 (Dr v J K)) λv=>Al (Ae lo 99 [An b k c a n p d i u e m s,Iv x,Iv 3,Iv j,Am o g] v) λv G=>eA v λv=>eC v λv H=>eS 6 v λv J K=>eC H λH L=>eS 5 H λH M N=>eC L λL O=>eS 9 L λL P Q=>eC O λO U=>eS 5 O λO W Y=>eN U (AM x M (eO H λU=>eO (st lo G U.1 (U.2+x.toNat) 2 (BU 0 0)) λG=>AM x M (eO H λU=>eO (st lo G U.1 (U.2+x.toNat) 4 (AP 0)) λG=>some (.tup [An v J K H M N L P Q O W Y,.bool true],G)))))))) (br (decide ((m:Int)>=80)) (some (.tup [An b k c a n p d i u e m s,.bool false],C)) (Al (Ae lo 45 [Am A D,Am o g] C) λv C=>eB v (AM x n (eO a λv=>eO (st lo C v.1 (v.2+x.toNat) 2 (BU 0 0)) λv=>AM x n (eO a λG=>eO (st lo v G.1 (G.2+x.toNat) 4 (AP 0)) λv=>some (.tup [An b k c a n p d i u e m s,.bool true],v)))) (Al (Ae lo 101 [AE l w q,Iv j,Am o g] C) λv C=>eA v λv=>eC v λv G=>eS 2 v λv H J=>eN G (AM x n (eO a λG=>eO (st lo C G.1 (G.2+x.toNat) 1 (Dr v H J)) λv=>Al (Ae lo 99 [An b k c a n p d i u e m s,Iv x,Iv 3,Iv j,Am o g] v) λv C=>eA v λv=>eC v λv G=>eS 6 v λv H J=>eC G λG K=>eS 5 G λG L M=>eC K λK N=>eS 9 K λK O P=>eC N λN Q=>eS 5 N λN U W=>eN Q (AM x L (eO G λQ=>eO (st lo C Q.1 (Q.2+x.toNat) 2 (BU 0 0)) λC=>AM x L (eO G λQ=>eO (st lo C Q.1 (Q.2+x.toNat) 4 (AP 0)) λC=>some (.tup [An v H J G L M K O P N U W,.bool true],C)))))))))) (some (.tup [An b k c a n p d i u e m s,.bool false],B))) (Al (Ae lo 45 [Am A D,Am o g] E) λv B=>eB v (Al (Ae lo 45 [Am A D,Am o g] B) λv C=>eB v (AM x n (eO a λv=>eO (st lo C v.1 (v.2+x.toNat) 2 (BU 0 0)) λv=>AM x n (eO a λE=>eO (st lo v E.1 (E.2+x.toNat) 4 (AP 0)) λv=>some (.tup [An b k c a n p d i u e m s,.bool true],v)))) (Al (Ae lo 101 [AE l w q,Iv j,Am o g] C) λv C=>eA v λv=>eC v λv E=>eS 2 v λv G H=>eN E (AM x n (eO a λE=>eO (st lo C E.1 (E.2+x.toNat) 1 (Dr v G H)) λv=>Al (Ae lo 99 [An b k c a n p d i u e m s,Iv x,Iv 3,Iv j,Am o g] v) λv C=>eA v λv=>eC v λv E=>eS 6 v λv G H=>eC E λE J=>eS 5 E λE K L=>eC J λJ M=>eS 9 J λJ N O=>eC M λM P=>eS 5 M λM Q U=>eN P (AM x K (eO E λP=>eO (st lo C P.1 (P.2+x.toNat) 2 (BU 0 0)) λC=>AM x K (eO E λP=>eO (st lo C P.1 (P.2+x.toNat) 4 (AP 0)) λC=>some (.tup [An v G H E K L J N O M Q U,.bool true],C)))))))) (br (decide ((m:Int)>=80)) (some (.tup [An b k c a n p d i u e m s,.bool false],B)) (Al (Ae lo 45 [Am A D,Am o g] B) λv A=>eB v (AM x n (eO a λv=>eO (st lo A v.1 (v.2+x.toNat) 2 (BU 0 0)) λv=>AM x n (eO a λB=>eO (st lo v B.1 (B.2+x.toNat) 4 (AP 0)) λv=>some (.tup [An b k c a n p d i u e m s,.bool true],v)))) (Al (Ae lo 101 [AE l w q,Iv j,Am o g] A) λv l=>eA v λv=>eC v λv w=>eS 2 v λv q A=>eN w (AM x n (eO a λw=>eO (st lo l w.1 (w.2+x.toNat) 1 (Dr v q A)) λv=>Al (Ae lo 99 [An b k c a n p d i u e m s,Iv x,Iv 3,Iv j,Am o g] v) λv l=>eA v λv=>eC v λv o=>eS 6 v λv w q=>eC o λo g=>eS 5 o λo j A=>eC g λg B=>eS 9 g λg C D=>eC B λB E=>eS 5 B λB G H=>eN E (AM x j (eO o λE=>eO (st lo l E.1 (E.2+x.toNat) 2 (BU 0 0)) λl=>AM x j (eO o λE=>eO (st lo l E.1 (E.2+x.toNat) 4 (AP 0)) λl=>some (.tup [An v w q o j A g C D B G H,.bool true],l)))))))))))))))))))))=some r) :
  Ae lo 82 [An b k c a n p d i u e m s,BO y x z t S f] h=some r :=
 eK Tryz.func82 hk
theorem Nu {e:Pq} (hk:(AM y n (eO a λv=>eO (ld h v.1 (v.2+y.toNat) 0 5) λv=>eC v λv l=>eI .i64 v λv=>eC l λl o=>eS 2 l λl w q=>eC o λo g=>eI .i64 o λo=>eC g λg j=>eI .i64 g λg=>eC j λg j=>eI .i64 g λg=>eN j (AM v m (eO b λg=>eO (ld h g.1 (g.2+v.toNat) 2 1) λv=>eC v λv g=>eS 2 v λv j A=>eN g (br (decide (o>0)) (some (.tup [An b m c a n p d i u e k s,.bool false],h)) (Al (Ae lo 44 (Cy x 0 3) h) λo g=>eB o (Al (Ae lo 44 (Cy z 0 (AU ((j:Int) - 1))) g) λo B=>eB o (br (decide ((k:Int)>=80)) (some (.tup [An b m c a n p d i u e k s,.bool false],B)) (Al (Ae lo 100 [AE v j A,Iv z,Iv x] B) λv o=>eA v λv=>eC v λv j=>eI .i64 v λv=>eC j λv j=>eI .i64 v λv=>eC j λj A=>eI .i64 j λj=>eC A λA C=>eS 2 A λA D E=>eC C λC G=>eT C λC=>eC G λC G=>eBv C λC=>eN G (AM x w (eO l λC=>eO (ld o C.1 (C.2+x.toNat) 0 2) λC=>eC C λC G=>eI .i64 C λC=>eC G λG H=>eI .i64 G λG=>eN H (Al (Ae lo 45 [Am v j,Am C G] o) λo C=>eB o (some (.tup [An b m c a n p d i u e k s,.bool false],C)) (br (decide (v>0)) (Al (Ae lo 102 [AE l w q,AE A D E] C) λl o=>eA l λl=>eC l λl w=>eS 2 l λl q A=>eN w (Al (Ae lo 101 [AE l q A,Iv x,Am v j] o) λl o=>eA l λl=>eC l λl w=>eS 2 l λl q A=>eN w (AM y n (eO a λw=>eO (st lo o w.1 (w.2+y.toNat) 1 (Dr l q A)) λl=>Al (Ae lo 99 [An b m c a n p d i u e k s,Iv y,Iv 2,Iv x,Am v j] l) λl o=>eA l λl=>eC l λl w=>eS 6 l λl q A=>eC w λw D=>eS 5 w λw E G=>eC D λD H=>eS 9 D λD J K=>eC H λH L=>eS 5 H λH M N=>eN L (some (.tup [An l q A w E G D J K H M N,.bool true],o)))))) (Al (Ae lo 99 [An b m c a n p d i u e k s,Iv y,Iv 2,Iv x,Am v j] C) λv l=>eA v λv=>eC v λv o=>eS 6 v λv w q=>eC o λo j=>eS 5 o λo A C=>eC j λj D=>eS 9 j λj E G=>eC D λD H=>eS 5 D λD J K=>eN H (some (.tup [An v w q o A C j E G D J K,.bool true],l))))))))) (some (.tup [An b m c a n p d i u e k s,.bool false],B))) (some (.tup [An b m c a n p d i u e k s,.bool false],g))))))))=some r) :
  Ae lo 83 [An b m c a n p d i u e k s,BO t y z x S f] h=some r :=
 eK Tryz.func83 hk
def Cu lo x a n c b m p d k u e i s y z t w S f j A g C G B H D J a0 P c0 n0 a1 n1 c1 a2 n2 c2 h:=
 LA 84 Tryz.f84 221311111 0 111111 lo ⟨[(2,.lp 2 0),(3,.lp 3 0),(4,.lp 4 0),(8,.lp 8 0),(9,Iv x)],[(2,(OO a n c b m p d k u e i s)),(3,(Ry y z t w S f)),(4,[.sl j A g C,.sl G B H D,.sl J a0 P c0,.sl n0 a1 n1 c1]),(8,(D5 a2 n2 c2))],h⟩
theorem PX {e:Pq} (hk:(AM x m (eO b λv=>eO (ld h v.1 (v.2+x.toNat) 0 5) λv=>eC v λv l=>eI .i64 v λv=>eC l λl o=>eS 2 l λl w q=>eC o λo g=>eI .i64 o λo=>eC g λg j=>eI .i64 g λg=>eC j λg j=>eI .i64 g λg=>eN j (AM v n (eO a λg=>eO (ld h g.1 (g.2+v.toNat) 2 1) λv=>eC v λv g=>eS 2 v λv j A=>eN g (AM (AU ((j:Int) - 1)) j (eO v λv=>eO (ld h v.1 (v.2+((AU ((j:Int) - (1:Int))).toNat)) 0 1) λv=>eC v λv g=>eS 6 v λv j A=>eN g (br (decide (o>0)) (some (.tup [An a n c b m p d i u e k s,.bool false],h)) (Al (Ae h.length 104 [Fo v j A] h) λo g=>eA o λo=>eC o λo B=>eS 2 o λo C D=>eN B (Al (Ae lo 103 [AE l w q,AE o C D] g) λl o=>eB l (br (decide (AU ((k:Int)+(4:Int))>80)) (some (.tup [An a n c b m p d i u e k s,.bool false],o)) (Cu lo 0 a n c b m p d i u e k s y x z t S f 0 none 0 (some 0) 0 none 0 (some 0) 0 none 0 (some 0) 0 none 0 (some 0) v j A o)) (some (.tup [An a n c b m p d i u e k s,.bool false],o)))))))))))=some r) :
  Ae lo 84 [An a n c b m p d i u e k s,BO y x z t S f] h=some r :=
 eK Tryz.func84 hk
theorem Cu.e {lo k n i j g G H J P n0 n1 n2 m:Nat}{x z y t w:Int}{d a A B a0 a1 a2 a3 b:Pq}{c p u s C D c0 c1 c2:Nq}{S:ByteArray}{f:Bool}{h:Heap} :
  Cu lo x d k c a n p A i u B j s z y t w S f g a0 G C H a1 J D P a2 n0 c0 n1 a3 n2 c1 b m c2 h=br (decide (x<4)) (AM y n (eO a λv=>eO (ld h v.1 (v.2+y.toNat) 1 1) λv=>eC v λv l=>eS 2 v λv o q=>eN l (AM x m (eO b λl=>eO (ld h l.1 (l.2+x.toNat) 1 2) λl=>eC l λl e=>eI .i64 l λl=>eC e λe E=>eI .i64 e λe=>eN E (Al (Ae lo 101 [AE v o q,Iv x,Am l e] h) λv l=>eA v λv=>eC v λv o=>eS 2 v λv q e=>eN o (AM y n (eO a λo=>eO (st lo l o.1 (o.2+y.toNat) 1 (Dr v q e)) λv=>AM x m (eO b λl=>eO (ld v l.1 (l.2+x.toNat) 1 2) λl=>eC l λl o=>eI .i64 l λl=>eC o λo q=>eI .i64 o λo=>eN q (Al (Ae lo 99 [An d k c a n p A i u B j s,Iv y,Iv 2,Iv x,Am l o] v) λv l=>eA v λv=>eC v λv o=>eS 6 v λv q e=>eC o λo E=>eS 5 o λo K L=>eC E λE M=>eS 9 E λE N O=>eC M λM Q=>eS 5 M λM U W=>eN Q (Cu lo (AU (x+1)) v q e o K L E N O M U W z y t w S f g a0 G C H a1 J D P a2 n0 c0 n1 a3 n2 c1 b m c2 l)))))))))) (some (.tup [An d k c a n p A i u B j s,.bool true],h)) :=
 lE
theorem P0 (hk:(Al (Ae h.length 44 (Cy x 0 (AU ((n:Int) - 2))) h) λl o=>eB l (AM x n (eO a λl=>eO (ld o l.1 (l.2+x.toNat) 1 1) λl=>eC l λl s=>eN s (eS 6 l λl l s=>br (decide ((l:Int)>0)) (AM (AU (x+1)) n (eO a λl=>eO (ld o l.1 (l.2+((AU (x+(1:Int))).toNat)) 1 1) λl=>eC l λl s=>eN s (eS 6 l λl l s=>br (decide ((l:Int)<6)) (AI o) (Bj o)))) (Bj o)))) (Bj o))=some (v,h')) (hn:noId v=true:=by rfl) :
  Ae lo 85 [AE a n c,Iv x] h=some (v,h) :=
 eD Tryz.func85 hk hn
theorem NG (hk:(AM x n (eO a λv=>eO (ld h v.1 (v.2+x.toNat) 1 1) λv=>eC v λv l=>eN l (eS 6 v λv l o=>AM 0 l (eO v λv=>eO (ld h v.1 (v.2+0) 0 6) λv=>eC v λv l=>eI .i64 v λv=>eC l λl o=>eI .i64 l λl=>eC o λo s=>eI .i64 o λo=>eC s λs b=>eS 2 s λs y z=>eC b λb u=>eT b λb=>eC u λu w=>eBv u λu=>eN w (AM x n (eO a λw=>eO (ld (h ++ [.rows 6 105 false []]) w.1 (w.2+x.toNat) 1 1) λw=>eC w λw p=>eN p (eS 6 w λw p q=>Ay w p q (some (Iv 1)) none none λw p q=>Ap 6 (h ++ [.rows 6 105 false []]) (.sl 6 w p q) λw=>CJ lo 105 6 72 (.sl 6 (some (h.length,0)) 0 (some 0)) w (h ++ [.rows 6 105 false []]) λw p=>eS 6 w λw q g=>AM x n (eO a λi=>eO (st lo p i.1 (i.2+x.toNat) 1 (D5 w q g)) λw=>Al (Ae lo 105 [AE a n c,Iv (AU (x+1)),CD v l o s y z b u] w) λv l=>eA v λv=>eC v λv o=>eS 2 v λv s b=>eN o (some ((AE v s b),l))))))))))=some r) :
  Ae lo 86 [AE a n c,Iv x] h=some r :=
 eK Tryz.func86 hk
def Bh lo x y z a n c b m p d k u f t w i e j s g A G C H B J D F a0 P c0 h:=
 LA 87 Tryz.f87 221311 0 111 lo ⟨[(1,.lp 1 0),(2,.lp 2 0),(3,.lp 3 0),(4,Iv x)],[(1,(Ds y z a n c b m p d k u f)),(2,[Iv t,Iv w,.sl i e j s,.sl g A G C,.sl H B J D,.bool F]),(3,(D5 a0 P c0))],h⟩
def Bg lo f x y z a n c b m p d k u F t w i e j s g A G C H B J D b0 h:=
 LA 87 Tryz.f87 22131111 2 11111 lo ⟨[(1,.lp 1 0),(2,.lp 2 0),(6,.bool f),(7,Iv x)],[(1,(Ds y z a n c b m p d k u F)),(2,[Iv t,Iv w,.sl i e j s,.sl g A G C,.sl H B J D,.bool b0])],h⟩
theorem NB (hk:(AM (AU ((n:Int) - 1)) n (eO a λv=>eO (ld h v.1 (v.2+((AU ((n:Int) - (1:Int))).toNat)) 0 1) λv=>eC v λv l=>eS 6 v λv o s=>eN l (Bh lo 0 x y a n c b m p d k u f 0 0 0 none 0 (some 0) 0 none 0 (some 0) 0 none 0 (some 0) false v o s h)))=some r) :
  Ae lo 87 [BG x y a n c b m p d k u f] h=some r :=
 eK Tryz.func87 hk
theorem Bh.e {lo m n k i j g G H J P:Nat}{x y z t w:Int}{b a d A B a0 a1:Pq}{p c u s C D c0:Nq}{f F:Bool}{h:Heap} :
  Bh lo x y z b m p a n c d k u f t w i A j s g B G C H a0 J D F a1 P c0 h=br (decide (x<4)) (AM x P (eO a1 λv=>eO (ld h v.1 (v.2+x.toNat) 0 6) λv=>eC v λv l=>eI .i64 v λv=>eC l λl o=>eI .i64 l λl=>eC o λo q=>eI .i64 o λo=>eC q λq e=>eS 2 q λq E K=>eC e λe L=>eT e λe=>eC L λL M=>eBv L λL=>eN M (br (decide (l>0)) (br (o==y) (Al (Ae lo 106 [.sl 6 a n c,Am l o] h) λM N=>eB M (Bh lo (AU (x+1)) y z b m p a n c d k u f t w i A j s g B G C H a0 J D F a1 P c0 N) (Al (Ae lo 61 [CD v l o q E K e L] N) λv l=>eA v λv=>eC v λv o=>eI .i64 v λv=>eC o λo q=>eI .i64 o λo=>eC q λq e=>eI .i64 q λq=>eC e λe E=>eS 2 e λe K L=>eC E λE M=>eT E λE=>eC M λM N=>eBv M λM=>eN N (Ap 6 (l ++ [.rows 6 105 false [EF v o q e K L E M]]) (.sl 6 (some (l.length,0)) 1 (some 1)) λN=>CJ lo 105 6 72 (.sl 6 a n c) N (l ++ [.rows 6 105 false [EF v o q e K L E M]]) λv l=>eS 6 v λv o q=>Bh lo (AU (x+1)) y z b m p v o q d k u f t w i A j s g B G C H a0 J D F a1 P c0 l))) (Bh lo (AU (x+1)) y z b m p a n c d k u f t w i A j s g B G C H a0 J D F a1 P c0 h)) (Bh lo (AU (x+1)) y z b m p a n c d k u f t w i A j s g B G C H a0 J D F a1 P c0 h)))) (Bg lo true 0 y z b m p a n c d k u f t w i A j s g B G C H a0 J D F h) :=
 lE
theorem Bg.e {b0:Bool} :
  Bg lo F x y z a n c b m p d k u f t w i A j s g B G C H a0 J D b0 h=br (decide (x<(n:Int))) (br F (AM x n (eO a λv=>eO (ld h v.1 (v.2+x.toNat) 1 1) λv=>eC v λv l=>eN l (eS 6 v λv v l=>br ((v:Int)==0) (Bg lo true (AU (x+1)) y z a n c b m p d k u f t w i A j s g B G C H a0 J D b0 h) (Bg lo false (AU (x+1)) y z a n c b m p d k u f t w i A j s g B G C H a0 J D b0 h)))) (Bg lo false (AU (x+1)) y z a n c b m p d k u f t w i A j s g B G C H a0 J D b0 h)) (br f (some ((BG y z a n c b m p d k u (!F)),h)) (some ((BG y z a n c b m p d k u false),h))) :=
 by cases f<;>cases F<;>exact lE
theorem Kg (hk:(br (!f) (br (!f) (br (!f) (br (!f) (br (!f) (br (decide ((n:Int)>1)) (br (!f) (Al (Ae h.length 44 (Cy x 0 (AU ((n:Int) - 1))) h) λl o=>eB l (AI o) (Bj o)) (Bj h)) (br (!f) (Bj h) (Bj h))) (br (!f) none (Bj h))) (br (!f) none (br (!f) none (Bj h)))) (br (!f) none (br (!f) none (br (!f) none (Bj h))))) (br (!f) none (br (!f) none (br (!f) none (br (!f) none (Bj h)))))) (br (!f) none (br (!f) none (br (!f) none (br (!f) none (br (!f) none (Bj h)))))))=some (v,h')) (hn:noId v=true:=by rfl) :
  Ae lo 88 [BG y z a n c b m p d k u f,Iv x] h=some (v,h) :=
 eD Tryz.func88 hk hn
theorem NJ (hk:(Ay a n c none (some (Iv x)) none λv l o=>Ap 2 (h ++ [.rows 2 126 false []]) (.sl 2 v l o) λv=>CJ lo 126 2 48 (.sl 2 (some (h.length,0)) 0 (some 0)) v (h ++ [.rows 2 126 false []]) λv l=>eS 2 v λv o s=>Ay a n c (some (Iv (AU (x+1)))) none none λb y z=>Ap 2 l (.sl 2 b y z) λb=>CJ lo 126 2 48 (.sl 2 v o s) b l λv l=>eS 2 v λv o s=>br (decide (x>0)) (br (decide (x<(o:Int))) (AM (AU (x - 1)) o (eO v λb=>eO (ld l b.1 (b.2+((AU (x - (1:Int))).toNat)) 0 1) λb=>eC b λb y=>eS 6 b λb z u=>eN y (AM x o (eO v λy=>eO (ld l y.1 (y.2+x.toNat) 0 1) λy=>eC y λy w=>eS 6 y λy p q=>eN w (Al (Ae lo 107 [Fo b z u,Fo y p q] l) λb y=>eS 6 b λb z u=>AM (AU (x - 1)) o (eO v λw=>eO (st lo y w.1 (w.2+((AU (x - (1:Int))).toNat)) 1 (D5 b z u)) λb=>AM (AU ((o:Int) - 1)) o (eO v λy=>eO (st lo b y.1 (y.2+((AU ((o:Int) - (1:Int))).toNat)) 1 [.sl 0 none 0 (some 0)]) λb=>some ((AE v o s),b)))))))) (AM (AU ((o:Int) - 1)) o (eO v λb=>eO (st lo l b.1 (b.2+((AU ((o:Int) - (1:Int))).toNat)) 1 [.sl 0 none 0 (some 0)]) λb=>some ((AE v o s),b)))) (AM (AU ((o:Int) - 1)) o (eO v λb=>eO (st lo l b.1 (b.2+((AU ((o:Int) - (1:Int))).toNat)) 1 [.sl 0 none 0 (some 0)]) λl=>some ((AE v o s),l))))=some r) :
  Ae lo 89 [AE a n c,Iv x] h=some r :=
 eK Tryz.func89 hk
theorem NI (hk:(AM (AU ((n:Int) - 1)) n (eO a λv=>eO (ld h v.1 (v.2+((AU ((n:Int) - (1:Int))).toNat)) 0 1) λv=>eC v λv l=>eS 6 v λv o s=>eN l (Al (Ae lo 79 [Fo v o s] h) λv l=>eA v λv=>eC v λv o=>eS 6 v λv s b=>eN o (Ap 2 (l ++ [.rows 2 126 false [[.sl 6 v s b,.sl 0 none 0 (some 0)]]]) (.sl 2 (some (l.length,0)) 1 (some 1)) λo=>CJ lo 126 2 48 (.sl 2 a n c) o (l ++ [.rows 2 126 false [[.sl 6 v s b,.sl 0 none 0 (some 0)]]]) λv l=>eS 2 v λv o s=>some ((AE v o s),l)))))=some r) :
  Ae lo 90 [AE a n c] h=some r :=
 eK Tryz.func90 hk
theorem Kf (hk:(Al (Ae h.length 108 [BG y z a n c d k p b m u f,Iv x] h) λl o=>eI .i64 l λl=>br (decide (l>=0)) (Al (Ae h.length 109 [AE a n c] o) λs w=>eB s (AM x m (eO b λs=>eO (ld w s.1 (s.2+x.toNat) 0 1) λs=>eC s λs q=>eN q (eS 6 s λs q g=>AM l q (eO s λs=>eO (ld w s.1 (s.2+l.toNat) 3 1) λl=>eC l λl s=>eS 2 l λl q g=>eN s (Al (Ae w.length 110 [AE a n c] w) λs i=>eA s λs=>eC s λs j=>eS 2 s λs t e=>eN j (Al (Ae h.length 103 [AE l q g,AE s t e] i) λl s=>eB l (AI s) (Bj s))))))) (Bj w)) (Bj o))=some (v,h')) (hn:noId v=true:=by rfl) :
  Ae lo 91 [BG y z a n c d k p b m u f,Iv x] h=some (v,h) :=
 eD Tryz.func91 hk hn
theorem NA (hk:(AM z n (eO a λv=>eO (ld h v.1 (v.2+z.toNat) 0 1) λv=>eC v λv l=>eN l (eS 6 v λv l o=>Al (Ae h.length 108 [BG x y b m c d k p a n u f,Iv z] h) λo s=>eI .i64 o λo=>AM o l (eO v λv=>eO (ld s v.1 (v.2+o.toNat) 0 6) λv=>eC v λv l=>eI .i64 v λv=>eC l λl o=>eI .i64 l λl=>eC o λo w=>eI .i64 o λo=>eC w λw q=>eS 2 w λw g i=>eC q λq j=>eT q λq=>eC j λj t=>eBv j λj=>eN t (br (decide (l>y)) (Al (Ae lo 105 [AE b m c,Iv 0,CD v l o w g i q j] s) λt e=>eA t λt=>eC t λt A=>eS 2 t λt B C=>eN A (Al (Ae lo 87 [BG x l t B C d k p a n u f] e) λt e=>eA t λt=>eC t λt A=>eI .i64 t λt=>eC A λA B=>eI .i64 A λA=>eC B λB C=>eS 2 B λB D E=>eC C λC G=>eS 6 C λC H J=>eC G λG K=>eS 1 G λG L M=>eC K λK N=>eBv K λK=>eN N (some ((BG t A B D E C H J G L M K),e)))) (Al (Ae lo 105 [AE b m c,Iv 0,CD v l o w g i q j] s) λv l=>eA v λv=>eC v λv o=>eS 2 v λv s w=>eN o (Al (Ae lo 87 [BG x y v s w d k p a n u f] l) λv l=>eA v λv=>eC v λv o=>eI .i64 v λv=>eC o λo s=>eI .i64 o λo=>eC s λs w=>eS 2 s λs q g=>eC w λw i=>eS 6 w λw j t=>eC i λi e=>eS 1 i λi A B=>eC e λe C=>eBv e λe=>eN C (some ((BG v o s q g w j t i A B e),l)))))))))=some r) :
  Ae lo 92 [BG x y b m c d k p a n u f,Iv z] h=some r :=
 eK Tryz.func92 hk
theorem ND {M q:Int}{e:Pq} (hk:(br (x==y) (some (.tup [BG y z b m c d k p a n u f,.bool false],h)) (AM x n (eO a λv=>eO (ld h v.1 (v.2+x.toNat) 0 1) λv=>eC v λv l=>eN l (eS 6 v λv v l=>br (t==(v:Int)) (br (decide (t>=60)) (some (.tup [BG y z b m c d k p a n u f,.bool false],h)) (AM x n (eO a λv=>eO (ld h v.1 (v.2+x.toNat) 0 1) λv=>eC v λv l=>eN l (eS 6 v λv l o=>Al (Ae lo 106 [.sl 6 v l o,Am w q] h) λv l=>eB v (some (.tup [BG y z b m c d k p a n u f,.bool false],l)) (AM x n (eO a λv=>eO (ld l v.1 (v.2+x.toNat) 0 1) λv=>eC v λv o=>eN o (eS 6 v λv o g=>Al (Ae l.length 61 [CD M w q e i s S F] l) λl j=>eA l λl=>eC l λl A=>eI .i64 l λl=>eC A λA B=>eI .i64 A λA=>eC B λB C=>eI .i64 B λB=>eC C λC D=>eS 2 C λC E G=>eC D λD H=>eT D λD=>eC H λH J=>eBv H λH=>eN J (Ap 6 (j ++ [.rows 6 105 false [EF l A B C E G D H]]) (.sl 6 (some (j.length,0)) 1 (some 1)) λJ=>CJ lo 105 6 72 (.sl 6 v o g) J (j ++ [.rows 6 105 false [EF l A B C E G D H]]) λv l=>eS 6 v λv o g=>AM x n (eO a λj=>eO (st lo l j.1 (j.2+x.toNat) 0 (D5 v o g)) λv=>some (.tup [BG y z b m c d k p a n u f,.bool true],v)))))))))) (some (.tup [BG y z b m c d k p a n u f,.bool false],h))))))=some r) :
  Ae lo 93 [BG y z b m c d k p a n u f,Iv x,Iv t,CD M w q e i s S F] h=some r :=
 eK Tryz.func93 hk
theorem KZ (hk:(Al (Ae lo 32 [CL m k i,Iv (n:Int)] h) λv l=>eI .i64 v λv=>AM v n (eO a λo=>eO (ld l o.1 (o.2+v.toNat) 0 1) λv=>eC v λv o=>eN o (eT v λv=>some (.str v,l))))=some r) :
  Ae lo 94 [CL m k i,.sl 1 a n c] h=some r :=
 eK Tryz.func94 hk
theorem P2 (hk:(some ((Fo (some (h.length,0)) 4 (some 4)),(h ++ [.rows 6 105 false [[Iv 0,Iv 0,Iv 0,.sl 0 none 0 (some 0),.str ⟨⟨[]⟩⟩,.bool false],[Iv 0,Iv 0,Iv 0,.sl 0 none 0 (some 0),.str ⟨⟨[]⟩⟩,.bool false],[Iv 0,Iv 0,Iv 0,.sl 0 none 0 (some 0),.str ⟨⟨[]⟩⟩,.bool false],[Iv 0,Iv 0,Iv 0,.sl 0 none 0 (some 0),.str ⟨⟨[]⟩⟩,.bool false]]])))=some r) :
  Ae lo 95 [] h=some r :=
 eK Tryz.func95 hk
def BJ lo S f x h:=
 LA 96 Tryz.f96 22131 0 11 lo ⟨[(0,.str S),(2,.bool f),(3,Iv x)],[],h⟩
theorem KX (hk:(BJ h.length S false 0 h)=some (v,h')) (hn:noId v=true:=by rfl) :
  Ae lo 96 [.str S] h=some (v,h) :=
 eD Tryz.func96 hk hn
theorem BJ.e :
  BJ lo S f x h=br (decide (x<(S.size:Int))) (eO (NY S x) λv=>br (decide ((v.toNat:Int)<33)) (Bj h) (eO (NY S x) λv=>br (decide ((v.toNat:Int)>126)) (Bj h) (BJ lo S f (AU (x+1)) h))) (br (decide ((S.size:Int)<=8)) (AI h) (Bj h)) :=
 lE
theorem PZ {e:Pq} (hk:(Al (Ae h.length 110 [AE a n c] h) λl o=>eA l λl=>eC l λl z=>eS 2 l λl w q=>eN z (Al (Ae h.length 103 [AE b k p,AE l w q] o) λl o=>eB l (Al (Ae h.length 109 [AE a n c] o) λl z=>eB l (Al (Ae h.length 111 [BG x y a n c d m u e i s f,AE b k p] z) λl w=>eI .i64 l λl=>br (decide (l<=999)) (br (decide ((m:Int)<36)) (AI w) (Bj w)) (Bj w)) (Bj z)) (Bj o)))=some (v,h')) (hn:noId v=true:=by rfl) :
  Ae lo 97 [BG x y a n c d m u e i s f,AE b k p] h=some (v,h) :=
 eD Tryz.func97 hk hn
theorem MR {e:Pq} (hk:(Al (Ae h.length 111 [BG x y a n c b m p d k u f,AE e i s] h) λv l=>eI .i64 v λv=>Ap 2 (l ++ [.rows 2 29 false []]) (.sl 2 e i s) λo=>CJ (List.length (l ++ [.rows 2 29 false []])) 29 2 16 (.sl 2 (some (l.length,0)) 0 (some 0)) o (l ++ [.rows 2 29 false []]) λl o=>eS 2 l λl w q=>Al (Ae lo 105 [AE a n c,Iv 0,CD z v x l w q S F] o) λl o=>eA l λl=>eC l λl w=>eS 2 l λl q g=>eN w (Al (Ae lo 87 [BG x v l q g b m p d k u f] o) λl o=>eA l λl=>eC l λl w=>eI .i64 l λl=>eC w λw q=>eI .i64 w λw=>eC q λq g=>eS 2 q λq j t=>eC g λg A=>eS 6 g λg B C=>eC A λA D=>eS 1 A λA E G=>eC D λD H=>eBv D λD=>eN H (some (.tup [BG l w q j t g B C A E G D,Am v x],o))))=some r) :
  Ae lo 98 [BG x y a n c b m p d k u f,Iv z,.str S,.bool F,AE e i s] h=some r :=
 eK Tryz.func98 hk
theorem Nx {e:Pq} (hk:(Ap 5 (h ++ [.rows 5 31 false [MG x y z t w]]) (.sl 5 (some (h.length,0)) 1 (some 1)) λv=>CJ lo 31 5 40 (.sl 5 e i s) v (h ++ [.rows 5 31 false [MG x y z t w]]) λv l=>eS 5 v λv o q=>some ((An a n c b m p d k u v o q),l))=some r) :
  Ae lo 99 [An a n c b m p d k u e i s,Iv x,Iv y,Iv z,Am t w] h=some r :=
 eK Tryz.func99 hk
theorem MT (hk:(br (y==0) (br (decide ((n:Int)>1)) (AM 1 n (eO a λv=>eO (ld h v.1 (v.2+1) 0 1) λv=>eC v λv l=>eN l (eS 6 v λv l o=>AM x l (eO v λv=>eO (ld h v.1 (v.2+x.toNat) 0 6) λv=>eC v λv l=>eI .i64 v λv=>eC l λl o=>eI .i64 l λl=>eC o λo s=>eI .i64 o λo=>eC s λs b=>eS 2 s λs z u=>eC b λb w=>eT b λb=>eC w λw p=>eBv w λw=>eN p (Al (Ae lo 61 [CD v l o s z u b w] h) λv l=>eA v λv=>eC v λv o=>eI .i64 v λv=>eC o λo s=>eI .i64 o λo=>eC s λs b=>eI .i64 s λs=>eC b λb z=>eS 2 b λb u w=>eC z λz p=>eT z λz=>eC p λp q=>eBv p λp=>eN q (some ((CD v o s b u w z p),l))))))) (AM y n (eO a λv=>eO (ld h v.1 (v.2+y.toNat) 0 1) λv=>eC v λv l=>eN l (eS 6 v λv l o=>AM x l (eO v λv=>eO (ld h v.1 (v.2+x.toNat) 0 6) λv=>eC v λv l=>eI .i64 v λv=>eC l λl o=>eI .i64 l λl=>eC o λo s=>eI .i64 o λo=>eC s λs b=>eS 2 s λs z u=>eC b λb w=>eT b λb=>eC w λw p=>eBv w λw=>eN p (Al (Ae lo 61 [CD v l o s z u b w] h) λv l=>eA v λv=>eC v λv o=>eI .i64 v λv=>eC o λo s=>eI .i64 o λo=>eC s λs b=>eI .i64 s λs=>eC b λb z=>eS 2 b λb u w=>eC z λz p=>eT z λz=>eC p λp q=>eBv p λp=>eN q (some ((CD v o s b u w z p),l)))))))) (AM y n (eO a λv=>eO (ld h v.1 (v.2+y.toNat) 0 1) λv=>eC v λv l=>eN l (eS 6 v λv l o=>AM x l (eO v λv=>eO (ld h v.1 (v.2+x.toNat) 0 6) λv=>eC v λv l=>eI .i64 v λv=>eC l λl o=>eI .i64 l λl=>eC o λo s=>eI .i64 o λo=>eC s λs b=>eS 2 s λs z u=>eC b λb w=>eT b λb=>eC w λw p=>eBv w λw=>eN p (Al (Ae lo 61 [CD v l o s z u b w] h) λv l=>eA v λv=>eC v λv o=>eI .i64 v λv=>eC o λo s=>eI .i64 o λo=>eC s λs b=>eI .i64 s λs=>eC b λb z=>eS 2 b λb u w=>eC z λz p=>eT z λz=>eC p λp q=>eBv p λp=>eN q (some ((CD v o s b u w z p),l))))))))=some r) :
  Ae lo 100 [AE a n c,Iv y,Iv x] h=some r :=
 eK Tryz.func100 hk
theorem NO (hk:(Ap 2 (h ++ [.rows 2 29 false []]) (.sl 2 a n c) λv=>CJ lo 29 2 16 (.sl 2 (some (h.length,0)) 0 (some 0)) v (h ++ [.rows 2 29 false []]) λv l=>eS 2 v λv o s=>AM x o (eO v λb=>eO (ld l b.1 (b.2+x.toNat) 0 2) λb=>eC b λb u=>eI .i64 b λb=>eC u λu w=>eI .i64 u λu=>eN w (Al (Ae lo 112 [Am b u,Am y z] l) λl b=>eA l λl=>eC l λl u=>eI .i64 l λl=>eC u λu w=>eI .i64 u λu=>eN w (AM x o (eO v λw=>eO (st lo b w.1 (w.2+x.toNat) 0 (BU l u)) λl=>some ((AE v o s),l))))))=some r) :
  Ae lo 101 [AE a n c,Iv x,Am y z] h=some r :=
 eK Tryz.func101 hk
def Ce lo x a n c b m p k d i u j e g s h:=
 LA 102 Tryz.f102 221311 0 111 lo ⟨[(2,.lp 2 0),(3,.lp 3 0),(4,.lp 4 0),(5,.lp 5 0),(6,Iv x)],[(2,(Dr a n c)),(3,(Dr b m p)),(4,[.sl k d i u]),(5,[.sl j e g s])],h⟩
theorem NR (hk:(Ce lo 0 a n c b m p 0 none 0 (some 0) 0 none 0 (some 0) h)=some r) :
  Ae lo 102 [AE a n c,AE b m p] h=some r :=
 eK Tryz.func102 hk
theorem Ce.e :
  Ce lo x a n p b m u j A g s k d i c h=br (decide (x<4)) (AM x n (eO a λv=>eO (ld h v.1 (v.2+x.toNat) 0 2) λv=>eC v λv l=>eI .i64 v λv=>eC l λl o=>eI .i64 l λl=>eN o (AM x m (eO b λo=>eO (ld h o.1 (o.2+x.toNat) 0 2) λo=>eC o λo y=>eI .i64 o λo=>eC y λy z=>eI .i64 y λy=>eN z (Al (Ae lo 112 [Am v l,Am o y] h) λv l=>eA v λv=>eC v λv o=>eI .i64 v λv=>eC o λo y=>eI .i64 o λo=>eN y (Ap 2 (l ++ [.rows 2 29 false [BU v o]]) (.sl 2 (some (l.length,0)) 1 (some 1)) λy=>CJ lo 29 2 16 (.sl k d i c) y (l ++ [.rows 2 29 false [BU v o]]) λv l=>eS 2 v λv o y=>Ce lo (AU (x+1)) a n p b m u j A g s 2 v o y l)))))) (some (.agg [.sl k d i c],h)) :=
 lE
def BK lo f x a n c b m p h:=
 LA 103 Tryz.f103 22131 0 11 lo ⟨[(2,.lp 2 0),(3,.lp 3 0),(4,.bool f),(5,Iv x)],[(2,(Dr a n c)),(3,(Dr b m p))],h⟩
theorem K5 (hk:(BK h.length false 0 a n c b m p h)=some (v,h')) (hn:noId v=true:=by rfl) :
  Ae lo 103 [AE a n c,AE b m p] h=some (v,h) :=
 eD Tryz.func103 hk hn
theorem BK.e :
  BK lo f x a n c b m p h=br (decide (x<4)) (AM x m (eO b λv=>eO (ld h v.1 (v.2+x.toNat) 0 2) λv=>eC v λv l=>eI .i64 v λv=>eC l λl o=>eI .i64 l λl=>eN o (AM x n (eO a λo=>eO (ld h o.1 (o.2+x.toNat) 0 2) λo=>eC o λo s=>eI .i64 o λo=>eC s λs y=>eI .i64 s λs=>eN y (Al (Ae lo 45 [Am v l,Am o s] h) λv l=>eB v (Bj l) (BK lo f (AU (x+1)) a n c b m p l)))))) (AI h) :=
 lE
end
noncomputable section

variable {lo n:Nat}{a:Pq}{c:Nq}{h:Heap}{r:V×Heap}{m:Nat}{x:Int}{d b:Pq}{p u:Nq}{y z:Int}{S:ByteArray}{f:Bool}{h':Heap}{v:V}
def Cd lo x a n c m b k p i d j u h:=
 LA 104 Tryz.f104 221311 0 111 lo ⟨[(1,.lp 1 0),(2,.lp 2 0),(3,.lp 3 0),(4,Iv x)],[(1,(D5 a n c)),(2,[.sl m b k p]),(3,[.sl i d j u])],h⟩
theorem NL (hk:(Cd lo 0 a n c 0 none 0 (some 0) 0 none 0 (some 0) h)=some r) :
  Ae lo 104 [Fo a n c] h=some r :=
 eK Tryz.func104 hk
theorem Cd.e {i j k:Nat} :
  Cd lo x a n p i d j u m b k c h=br (decide (x<(n:Int))) (AM x n (eO a λv=>eO (ld h v.1 (v.2+x.toNat) 1 2) λv=>eC v λv l=>eI .i64 v λv=>eC l λl o=>eI .i64 l λl=>eN o (Ap 2 (h ++ [.rows 2 29 false [BU v l]]) (.sl 2 (some (h.length,0)) 1 (some 1)) λo=>CJ lo 29 2 16 (.sl m b k c) o (h ++ [.rows 2 29 false [BU v l]]) λv l=>eS 2 v λv o s=>Cd lo (AU (x+1)) a n p i d j u 2 v o s l))) (some (.agg [.sl m b k c],h)) :=
 lE
theorem P1 {t:Int} (hk:(AM x n (eO a λv=>eO (ld h v.1 (v.2+x.toNat) 0 1) λv=>eC v λv l=>eN l (eS 6 v λv l o=>AM y l (eO v λv=>eO (ld h v.1 (v.2+y.toNat) 1 2) λv=>eC v λv l=>eI .i64 v λv=>eC l λl o=>eI .i64 l λl=>eN o (Al (Ae lo 45 [Am v l,Am z t] h) λv l=>eB v (AM x n (eO a λv=>eO (ld l v.1 (v.2+x.toNat) 0 1) λv=>eC v λv o=>eS 6 v λv s u=>eN o (Al (Ae lo 113 [Fo v s u,CD y z t b m p S f] l) λv o=>eA v λv=>eC v λv s=>eS 6 v λv u w=>eN s (AM x n (eO a λs=>eO (st lo o s.1 (s.2+x.toNat) 0 (D5 v u w)) λv=>br (decide (x<AU ((n:Int) - (1:Int)))) (AM x n (eO a λo=>eO (ld v o.1 (o.2+x.toNat) 1 1) λo=>eC o λo s=>eN s (eS 6 o λo s u=>Al (Ae v.length 61 [CD y z t b m p S f] v) λw q=>eA w λw=>eC w λw g=>eI .i64 w λw=>eC g λg i=>eI .i64 g λg=>eC i λi j=>eI .i64 i λi=>eC j λj k=>eS 2 j λj d e=>eC k λk A=>eT k λk=>eC A λA B=>eBv A λA=>eN B (Ap 6 (q ++ [.rows 6 105 false [EF w g i j d e k A]]) (.sl 6 (some (q.length,0)) 1 (some 1)) λB=>CJ lo 105 6 72 (.sl 6 o s u) B (q ++ [.rows 6 105 false [EF w g i j d e k A]]) λo s=>eS 6 o λo u w=>AM x n (eO a λq=>eO (st lo s q.1 (q.2+x.toNat) 1 (D5 o u w)) λo=>some ((AE a n c),o)))))) (some ((AE a n c),v))))))) (some ((AE a n c),l)))))))=some r) :
  Ae lo 105 [AE a n c,Iv x,CD y z t b m p S f] h=some r :=
 eK Tryz.func105 hk
def BI lo a n c f x y z h:=
 LA 106 Tryz.f106 22131 0 11 lo ⟨[(0,.sl 6 a n c),(3,.lp 3 0),(4,.bool f),(5,Iv x)],[(3,(BU y z))],h⟩
theorem KV (hk:(BI h.length a n c false 0 x y h)=some (v,h')) (hn:noId v=true:=by rfl) :
  Ae lo 106 [.sl 6 a n c,Am x y] h=some (v,h) :=
 eD Tryz.func106 hk hn
theorem BI.e :
  BI lo a n c f x y z h=br (decide (x<(n:Int))) (AM x n (eO a λv=>eO (ld h v.1 (v.2+x.toNat) 1 2) λv=>eC v λv l=>eI .i64 v λv=>eC l λl o=>eI .i64 l λl=>eN o (br ((v==y)&&((l==z)&&true)) (AI h) (BI lo a n c f (AU (x+1)) y z h)))) (Bj h) :=
 lE
def Bi lo a n c x b m p d k u h:=
 LA 107 Tryz.f107 221311 0 111 lo ⟨[(2,.lp 2 0),(3,.lp 3 0),(5,.sl 6 a n c),(6,Iv x)],[(2,(D5 b m p)),(3,(D5 d k u))],h⟩
def Ca lo a n c x y b m p d k u h:=
 Lp (X 107) lo (pf 22311231221311 Tryz.f107) 2 (DY 2 (kS (X 107) lo (pf 111231221311 Tryz.f107) 1 (DY 1 (kS (X 107) lo (pf 11221311 Tryz.f107) 0 (X5 (X 107) lo (pf 221311 Tryz.f107) 0 (DY 0 (kS (X 107) lo (pf 111 Tryz.f107) 0 (VI (X 107) Tryz.f107.results.toList)))))))) ⟨[(2,.lp 2 0),(3,.lp 3 0),(5,.sl 6 a n c),(6,Iv x),(7,Iv y)],[(2,(D5 b m p)),(3,(D5 d k u))],h⟩
theorem NH (hk:(Bi lo (some (h.length,0)) 0 (some 0) 0 a n c b m p (h ++ [.rows 6 105 false []]))=some r) :
  Ae lo 107 [Fo a n c,Fo b m p] h=some r :=
 eK Tryz.func107 hk
theorem Bi.e {k:Nat} :
  Bi lo a n c x b m p d k u h=br (decide (x<4)) (AM x k (eO d λv=>eO (ld h v.1 (v.2+x.toNat) 1 2) λv=>eC v λv l=>eI .i64 v λv=>eC l λl o=>eI .i64 l λl=>eN o (AM x m (eO b λo=>eO (ld h o.1 (o.2+x.toNat) 1 2) λo=>eC o λo s=>eI .i64 o λo=>eC s λs y=>eI .i64 s λs=>eN y (Al (Ae lo 45 [Am v l,Am o s] h) λv l=>eB v (Ca lo a n c x 0 b m p d k u l) (Bi lo a n c (AU (x+1)) b m p d k u l)))))) (some (.sl 6 a n c,h)) :=
 lE
theorem Ca.e {lo n m k:Nat}{a b d:Pq}{c p u:Nq}{x y:Int}{h:Heap} :
  Ca lo a n c x y b m p d k u h=br (decide (y<(n:Int))) (AM y n (eO a λv=>eO (ld h v.1 (v.2+y.toNat) 1 2) λv=>eC v λv l=>eI .i64 v λv=>eC l λl o=>eI .i64 l λl=>eN o (AM x m (eO b λo=>eO (ld h o.1 (o.2+x.toNat) 1 2) λo=>eC o λo s=>eI .i64 o λo=>eC s λs z=>eI .i64 s λs=>eN z (Al (Ae lo 45 [Am v l,Am o s] h) λv l=>eB v (Ca lo a n c x (AU (y+1)) b m p d k u l) (Ay a n c none (some (Iv y)) none λv o s=>Ap 6 (l ++ [.rows 6 105 false []]) (.sl 6 v o s) λv=>CJ lo 105 6 72 (.sl 6 (some (l.length,0)) 0 (some 0)) v (l ++ [.rows 6 105 false []]) λv l=>eS 6 v λv o s=>AM x m (eO b λz=>eO (ld l z.1 (z.2+x.toNat) 0 6) λz=>eC z λz w=>eI .i64 z λz=>eC w λw q=>eI .i64 w λw=>eC q λq g=>eI .i64 q λq=>eC g λg i=>eS 2 g λg j t=>eC i λi e=>eT i λi=>eC e λe f=>eBv e λe=>eN f (Al (Ae lo 61 [CD z w q g j t i e] l) λl z=>eA l λl=>eC l λl w=>eI .i64 l λl=>eC w λw q=>eI .i64 w λw=>eC q λq g=>eI .i64 q λq=>eC g λg i=>eS 2 g λg j t=>eC i λi e=>eT i λi=>eC e λe f=>eBv e λe=>eN f (Ap 6 (z ++ [.rows 6 105 false [EF l w q g j t i e]]) (.sl 6 (some (z.length,0)) 1 (some 1)) λf=>CJ lo 105 6 72 (.sl 6 v o s) f (z ++ [.rows 6 105 false [EF l w q g j t i e]]) λv l=>eS 6 v λv o s=>Ay a n c (some (Iv y)) none none λz w q=>Ap 6 l (.sl 6 z w q) λz=>CJ lo 105 6 72 (.sl 6 v o s) z l λv l=>eS 6 v λv o s=>Bi lo v o s (AU (x+1)) b m p d k u l))))))))) (Ay a n c none (some (Iv y)) none λv l o=>Ap 6 (h ++ [.rows 6 105 false []]) (.sl 6 v l o) λv=>CJ lo 105 6 72 (.sl 6 (some (h.length,0)) 0 (some 0)) v (h ++ [.rows 6 105 false []]) λv l=>eS 6 v λv o s=>AM x m (eO b λz=>eO (ld l z.1 (z.2+x.toNat) 0 6) λz=>eC z λz w=>eI .i64 z λz=>eC w λw q=>eI .i64 w λw=>eC q λq g=>eI .i64 q λq=>eC g λg i=>eS 2 g λg j t=>eC i λi e=>eT i λi=>eC e λe f=>eBv e λe=>eN f (Al (Ae lo 61 [CD z w q g j t i e] l) λl z=>eA l λl=>eC l λl w=>eI .i64 l λl=>eC w λw q=>eI .i64 w λw=>eC q λq g=>eI .i64 q λq=>eC g λg i=>eS 2 g λg j t=>eC i λi e=>eT i λi=>eC e λe f=>eBv e λe=>eN f (Ap 6 (z ++ [.rows 6 105 false [EF l w q g j t i e]]) (.sl 6 (some (z.length,0)) 1 (some 1)) λf=>CJ lo 105 6 72 (.sl 6 v o s) f (z ++ [.rows 6 105 false [EF l w q g j t i e]]) λv l=>eS 6 v λv o s=>Ay a n c (some (Iv y)) none none λz w q=>Ap 6 l (.sl 6 z w q) λz=>CJ lo 105 6 72 (.sl 6 v o s) z l λv l=>eS 6 v λv o s=>Bi lo v o s (AU (x+1)) b m p d k u l)))) :=
 lE
def BQ lo x y z t w a n c b m p d k u f e i s h:=
 LA 108 Tryz.f108 221311 0 111 lo ⟨[(1,Iv x),(2,.lp 2 0),(4,Iv y),(5,.lp 5 0),(6,Iv z)],[(2,(Ds t w a n c b m p d k u f)),(5,(D5 e i s))],h⟩
theorem MS {k:Nat} (hk:(AM 0 n (eO a λl=>eO (ld h l.1 (l.2+0) 0 1) λl=>eC l λl o=>eS 6 l λl s w=>eN o (BQ h.length z 0 0 x y a n c b m p d k u f l s w h)))=some (v,h')) (hn:noId v=true:=by rfl) :
  Ae lo 108 [BG x y a n c b m p d k u f,Iv z] h=some (v,h) :=
 eD Tryz.func108 hk hn
theorem BQ.e {k i:Nat}{t w:Int}{A:Pq}{s:Nq} :
  BQ lo x z y t w d k c A i p a n u f b m s h=AM x n (eO a λv=>eO (ld h v.1 (v.2+x.toNat) 0 1) λv=>eC v λv l=>eN l (eS 6 v λv v l=>br (decide (y<(v:Int))) (AM x n (eO a λv=>eO (ld h v.1 (v.2+x.toNat) 0 1) λv=>eC v λv l=>eN l (eS 6 v λv l o=>AM y l (eO v λv=>eO (ld h v.1 (v.2+y.toNat) 0 6) λv=>eC v λv l=>eI .i64 v λv=>eC l λl o=>eI .i64 l λl=>eC o λo q=>eI .i64 o λo=>eC q λq g=>eS 2 q λq q q=>eC g λq g=>eT q λq=>eC g λq g=>eBv q λq=>eN g (AM v m (eO b λq=>eO (ld h q.1 (q.2+v.toNat) 1 2) λv=>eC v λv q=>eI .i64 v λv=>eC q λq g=>eI .i64 q λq=>eN g (Al (Ae lo 45 [Am v q,Am l o] h) λv l=>eB v (some (Iv y,l)) (BQ lo x z (AU (y+1)) t w d k c A i p a n u f b m s l)))))))) (some (Iv (-1),h)))) :=
 lE
theorem NF (hk:(AM 0 n (eO a λl=>eO (ld h l.1 (l.2+0) 1 1) λl=>eC l λl o=>eN o (eS 6 l λl l o=>br (decide ((l:Int)<6)) (AI h) (Bj h))))=some (v,h')) (hn:noId v=true:=by rfl) :
  Ae lo 109 [AE a n c] h=some (v,h) :=
 eD Tryz.func109 hk hn
theorem KW (hk:(AM (AU ((n:Int) - 1)) n (eO a λv=>eO (ld h v.1 (v.2+((AU ((n:Int) - (1:Int))).toNat)) 0 1) λv=>eC v λv l=>eS 6 v λv o s=>eN l (Al (Ae lo 104 [Fo v o s] h) λv l=>eA v λv=>eC v λv o=>eS 2 v λv s b=>eN o (some ((AE v s b),l)))))=some r) :
  Ae lo 110 [AE a n c] h=some r :=
 eK Tryz.func110 hk
def BM lo x y a n c h:=
 LA 111 Tryz.f111 221311 0 111 lo ⟨[(3,.lp 3 0),(5,Iv x),(6,Iv y)],[(3,(Dr a n c))],h⟩
theorem NC {k i:Nat}{e:Pq}{s:Nq} (hk:(BM h.length x 0 a n c h)=some (v,h')) (hn:noId v=true:=by rfl) :
  Ae lo 111 [BG y x b m p d k u e i s f,AE a n c] h=some (v,h) :=
 eD Tryz.func111 hk hn
theorem BM.e :
  BM lo y x a n c h=br (decide (x<4)) (AM x n (eO a λv=>eO (ld h v.1 (v.2+x.toNat) 0 1) λv=>eC v λv l=>eN l (eI .i64 v λv=>br (decide (v>y)) (AM x n (eO a λv=>eO (ld h v.1 (v.2+x.toNat) 0 1) λv=>eC v λv l=>eN l (eI .i64 v λv=>BM lo v (AU (x+1)) a n c h))) (BM lo y (AU (x+1)) a n c h)))) (some (Iv (AU (y+1)),h)) :=
 lE
theorem P4 {t:Int} (hk:(Al (Ae h.length 45 [Am x y,Am z t] h) λl c=>eB l (some ((Am z t),c)) (some ((Am x y),c)))=some (v,h')) (hn:noId v=true:=by rfl) :
  Ae lo 112 [Am x y,Am z t] h=some (v,h) :=
 eD Tryz.func112 hk hn
theorem P3 (hk:(AM x n (eO a λv=>eO (ld h v.1 (v.2+x.toNat) 1 2) λv=>eC v λv l=>eI .i64 v λv=>eC l λl o=>eI .i64 l λl=>eN o (Al (Ae lo 45 [Am v l,Am y z] h) λv l=>eB v (Al (Ae lo 61 [CD x y z b m p S f] l) λv o=>eA v λv=>eC v λv s=>eI .i64 v λv=>eC s λs u=>eI .i64 s λs=>eC u λu w=>eI .i64 u λu=>eC w λw q=>eS 2 w λw g i=>eC q λq j=>eT q λq=>eC j λj k=>eBv j λj=>eN k (AM x n (eO a λk=>eO (st lo o k.1 (k.2+x.toNat) 0 (EF v s u w g i q j)) λv=>some ((Fo a n c),v)))) (some ((Fo a n c),l)))))=some r) :
  Ae lo 113 [Fo a n c,CD x y z b m p S f] h=some r :=
 eK Tryz.func113 hk
end


structure Tag where
 time:Int
 place:Int
 deriving DecidableEq
def Tag.cs (t:Tag):List V := [Iv t.time,Iv t.place]
def Af (n a b:Int):Bool:=decide (a<=n)&&decide (n<=b)
def Bu (t:Int) (p:Int):Bool:=(t==0&&p==0) || (Af t 1 999&&Af p 0 2)
def Bx (t p t' p':Int):Bool:=decide (t<t') || (t==t'&&decide (p<p'))
section
variable {lo:Nat}{h:Heap}{a b c d e:Int}
theorem EE:Ae lo 36 [Iv a,Iv b,Iv c] h=some (.bool (Af a b c),h) :=
 NS (h':=h) (by simp[Af])
theorem A7:Ae lo 44 [Iv a,Iv b,Iv c] h=some (.bool (Af a b c),h) :=
 RJ (h':=h) (by simp[Af])
theorem Pi:Ae lo 52 [Iv a] h=some (.bool (Af a 0 2),h):=MZ (h':=h) (by simp[EE])
theorem Sz:Ae lo 37 [Iv a] h=some (.bool (Af a 0 3),h):=P5 (h':=h) (by simp[EE])
theorem SA:Ae lo 38 [.agg [Iv a,Iv b]] h=some (.bool (Bu a b),h) :=
 P6 (h':=h) (by simp[EE,Pi,Bu])
theorem O1:Ae lo 53 [.agg [Iv a,Iv b]] h=some (.bool (Bu a b),h) :=
 MY (h':=h) (by simp[A7,Bu])
theorem Bd:Ae lo 45 [.agg [Iv a,Iv b],.agg [Iv c,Iv d]] h=some (.bool (Bx a b c d),h) :=
 NQ (h':=h) (by simp[Bx])
def CP {α:Type} (p:α->Bool):List α->Nat->Int
 | [],_ => -1
 | x :: r,k=>bif p x then (k:Int) else CP p r (k+1)
theorem KJ {α:Type}{p:α->Bool}:∀ {l:List α}{k:Nat},decide (CP p l k>=0)=l.any p
 | [],k=>by simp[CP]
 | x :: r,k=>by
  simp only[CP,Z6];by_cases h:p x=true
  ·simp[h]
  ·simpa [h] using KJ (p:=p) (l:=r) (k:=k+1)
def MH (a b:Int):Int:=if a<b then -1 else if b<a then 1 else 0
theorem UW:Ae lo 77 [Iv a] h=some (.bool false,h):=Li (h':=h) (by simp)
theorem Rz:Ae lo 66 [Iv a,Iv b] h=some (Iv (MH a b),h) :=
 JE (h':=h) (by
  simp only[UW,Ac,AC,Au];unfold MH;by_cases h1:a<b
  ·rw[Aj h1,if_pos h1]
  ·rw[Ak h1,if_neg h1];by_cases h2:b<a
   ·rw[Aj h2,if_pos h2]
   ·rw[Ak h2,if_neg h2])
theorem SY:Ae lo 65 [.sl 1 (some (h.length,0)) 2 (some 2)] (h ++ [.rows 1 3 false [[Iv a],[Iv b]]])=some (Iv (if a=0 then b else a),h ++ [.rows 1 3 false [[Iv a],[Iv b]]]) :=
 P7 (h':=h ++ [.rows 1 3 false [[Iv a],[Iv b]]]) (by
  rw[Cv.e,Aj (by decide),DZ (by decide)];simp only[Ag];rw[Pe (row := [Iv a]) (by rfl)];simp only[cut,Ag,Ab,Ai,Aa];by_cases h1:a=0
  ·subst h1;rw[if_pos rfl,show ((0:Int)==0)=true from rfl,Ao,show AU (0+1)=((1:Nat):Int) from As (k:=0) (by decide),Cv.e,Aj (by decide),DZ (by decide)];simp only[Ag];rw[Pe (row := [Iv b]) (by rfl)];simp only[cut,Ag,Ab,Ai,Aa];by_cases h2:b=0
   ·subst h2;rw[show ((0:Int)==0)=true from rfl,Ao,show AU (((1:Nat):Int)+1)=((2:Nat):Int) from As (k:=1) (by decide),Cv.e,Ak (by decide)]
   ·rw[show (b==0)=false by simpa using h2,Au]
  ·rw[if_neg h1,show (a==0)=false by simpa using h1,Au])
theorem Pj:Ae lo 58 [.agg [Iv a,Iv b],.agg [Iv c,Iv d]] h=some (Iv (if MH a c=0 then MH b d else MH a c),h) :=
 IG (h':=h ++ [.rows 1 3 false [[Iv (MH a c)],[Iv (MH b d)]]]) (by
  simp only[Rz,Ac,Aa,SY])
theorem Wi:decide ((if MH a c=0 then MH b d else MH a c)<0)=Bx a b c d:=by
 unfold MH Bx;by_cases h1:a<c
 ·simp[h1]
 ·by_cases h2:c<a
  ·simp[h1,h2];omega
  ·have:a=c:=by omega
   subst this;by_cases h3:b<d
   ·simp[h3]
   ·simp[h3];split<;>simp
theorem D0:Ae lo 42 [.agg [Iv a,Iv b],.agg [Iv c,Iv d]] h=some (.bool (Bx a b c d),h) :=
 M4 (h':=h) (by simp only[Pj,Ac,Aa,TP,Wi];simp)
end
end Go.Proofs.YtoocmbhkaghgnaaGreat
namespace Go.Proofs.YtoocmbhkaghgnaaGreat.T
open Go
variable {h:Heap}{b n:Nat}
def VM (P:Program) (g:TypeId->Bool):List Field->Nat->Nat->Bool
 | [],off,n=>Nat.beq off n
 | f :: fs,off,n=>match Nat.beq f.offset off&&g f.type with
  | true=>VM P g fs (off+P.cellsOf f.type) n
  | false=>false
def KR (P:Program):Nat->TypeId->Bool
 | 0,_=>false
 | n+1,t=>match P.underlying t with
  | some .bool=>Nat.beq (P.cellsOf t) 1
  | some (.int _)=>Nat.beq (P.cellsOf t) 1
  | some .string=>Nat.beq (P.cellsOf t) 1
  | some (.slice e)=>Nat.beq (P.cellsOf t) 1&&Nat.blt 0 (P.cellsOf e)&&KR P n e
  | some (.struct fs)=>VM P (KR P n) fs.toList 0 (P.cellsOf t)
  | _=>false
def TVs (P:Program) (g:TypeId->List V->Prop):List Field->List V->Prop
 | [],xs=>xs = []
 | f :: fs,xs=>∃ ys zs,xs=ys++zs/\ys.length=P.cellsOf f.type/\g f.type ys/\TVs P g fs zs
def TV (P:Program) (h:Heap):Nat->TypeId->List V->Prop
 | 0,_,_=>False
 | n+1,t,xs=>match P.underlying t with
  | some .bool=>∃ b,xs = [.bool b]
  | some (.int k)=>∃ i,xs = [.int k i]/\(Lit.int k i).wf=true
  | some .string=>∃ s,xs = [.str s]/\s.size<=maxLen
  | some (.slice e)=>∃ a c rs,xs = [.sl (P.cellsOf e) a rs.length c]/\(rs.length<=maxLen/\∀ k,c=some k->rs.length<=k)/\(∀ row∈rs,row.length=P.cellsOf e/\TV P h n e row) /\
    (rs = []\/∃ b,a=some (b,0)/\Heap.rows? h b=some rs)
  | some (.struct fs)=>TVs P (TV P h n) fs.toList xs
  | _=>False
theorem Vk {h':Heap} (hp:h <+: h') {rs:List (List V)} (hb:Heap.rows? h b=some rs):Heap.rows? h' b=some rs:=by
 obtain ⟨t,rfl⟩:=hp;unfold Heap.rows? at hb ⊢;have hl:b<h.length:=by apply Z2;intro hle;rw[Zz hle] at hb;cases hb
 rw[YI hl];exact hb
theorem TVs.imp {P:Program}{g g':TypeId->List V->Prop} (hg:∀ t xs,g t xs->g' t xs):∀ {fs:List Field}{xs:List V},TVs P g fs xs->TVs P g' fs xs
 | [],xs,h=>h
 | f :: fs,xs,⟨ys,zs,h1,h2,h3,h4⟩=>⟨ys,zs,h1,h2,hg _ _ h3,TVs.imp hg h4⟩
theorem TV.mono {P:Program}{h h':Heap} (hp:h <+: h'):∀ (n:Nat) (t:TypeId) (xs:List V),TV P h n t xs->TV P h' n t xs
 | 0,_,_,hx=>hx
 | n+1,t,xs,hx=>by
  simp only[TV] at hx ⊢;split at hx
  ·exact hx
  ·exact hx
  ·exact hx
  ·obtain ⟨a,c,rs,h1,h2,h3,h4⟩:=hx;exact ⟨a,c,rs,h1,h2,λrow hr=>⟨(h3 row hr).1,TV.mono hp n _ _ (h3 row hr).2⟩,h4.imp id λ⟨b,h5,h6⟩=>⟨b,h5,Vk hp h6⟩⟩
  ·exact TVs.imp (λt xs=>TV.mono hp n t xs) hx
  ·exact hx
theorem Pt {xs ys:List V} (h1:Cm xs=true) (h2:Cm ys=true):Cm (xs++ys)=true:=by
 induction xs with
 | nil=>exact h2
 | cons x r ih =>
  simp only[Zl,Cm] at h1 ⊢;split at h1
  ·exact ih h1
  ·cases h1
theorem TVs.firm {P:Program}{g:TypeId->List V->Prop} (hg:∀ t xs,g t xs->Cm xs=true):∀ {l:List Field}{xs:List V},TVs P g l xs->Cm xs=true
 | [],xs,h=>by simp only[TVs] at h;subst h;rfl
 | f :: l,xs,⟨ys,zs,e,_,h3,h4⟩=>by subst e;exact Pt (hg _ _ h3) (TVs.firm hg h4)
theorem TV.firm {P:Program}{h:Heap}:∀ (n:Nat) (t:TypeId) (xs:List V),TV P h n t xs->Cm xs=true
 | 0,_,_,hx=>hx.elim
 | n+1,t,xs,hx=>by
  simp only[TV] at hx;split at hx
  ·obtain ⟨b,rfl⟩:=hx;rfl
  ·obtain ⟨i,rfl,_⟩:=hx;rfl
  ·obtain ⟨s,rfl,_⟩:=hx;rfl
  ·obtain ⟨a,c,rs,rfl,_⟩:=hx;rfl
  ·exact TVs.firm (λt xs=>TV.firm n t xs) hx
  ·exact hx.elim
structure Imp (W:World) (ρ:Rho) (h:Heap):Prop where
 rel:HRel ρ h W
 ro:∀ b,b<h.length->Bn h b\/Mh h b
theorem Sx {k:Blk} (hb:b<h.length) (hd:Bn h b):Bn (h ++ [k]) b:=by unfold Bn at *;rw[YI hb];exact hd
theorem VK {k:Blk} (hb:b<h.length) (hd:Mh h b):Mh (h ++ [k]) b:=by obtain ⟨R,e,rs,h1⟩:=hd;exact ⟨R,e,rs,by rw[YI hb];exact h1⟩
theorem Imp.lay {W:World}{ρ:Rho} (hi:Imp W ρ h) (k:Blk) (e:E) (hlt:e.r<W.heap.size) (hk:BR ρ e k W) (hro:k = .dead\/∃ R e rs,k = .rows R e true rs) :
  Imp W (ρ.set h.length e) (h ++ [k]):=by
 have hle:Rle ρ (ρ.set h.length e):=Rho.set_le hi.rel.fresh;have hnew:Bn (h ++ [k]) h.length\/Mh (h ++ [k]) h.length:=by
  rcases hro with rfl | ⟨R,t,rs,rfl⟩
  ·exact .inl (by simp[Bn])
  ·exact .inr ⟨R,t,rs,by simp⟩
 have hall:∀ b,b<(h ++ [k]).length->Bn (h ++ [k]) b\/Mh (h ++ [k]) b:=λb hb=>by
  by_cases hx:b=h.length
  ·subst hx;exact hnew
  ·have:b<h.length:=by simp at hb;omega
   exact (hi.ro b this).imp (Sx this) (VK this)
 have hdom:∀ b e',(ρ.set h.length e) b=some e'->b<(h ++ [k]).length/\e'.r<W.heap.size:=λb e' hb=>by
  by_cases hx:b=h.length
  ·subst hx;rw[Rho.set_same] at hb;injection hb with hb;subst hb;exact ⟨by simp,hlt⟩
  ·rw[Rho.set_other hx] at hb;have:=hi.rel.dom b e' hb;exact ⟨by simp;omega,by omega⟩
 refine ⟨⟨hdom,λb e' k' hb hk'=>?_,λb b' e1 e2 h1 h2 hr hne=>?_⟩,hall⟩
 ·by_cases hx:b=h.length
  ·subst hx;rw[Rho.set_same] at hb;injection hb with hb;subst hb;simp at hk';subst hk';exact BR.mono hle rfl hk
  ·rw[Rho.set_other hx] at hb;have:=(hi.rel.dom b e' hb).1;rw[YI this] at hk';exact BR.mono hle rfl (hi.rel.blk b e' k' hb hk')
 ·have g1:=hall b (hdom b e1 h1).1;have g2:=hall b' (hdom b' e2 h2).1;rcases g1 with g1 | g1
  ·exact .inl g1
  ·rcases g2 with g2 | g2
   ·exact .inr (.inl g2)
   ·exact .inr (.inr ⟨g1,g2⟩)
section
variable {P:Program}{W:World}{H:Type}{enc:TypeId×Value->H}
theorem MK {base:Nat}{a:Addr}{cs:List Value} (h:W.cells? base a n=some cs):cs.length=n/\∀ (i:Nat) (c:Value),cs[i]?=some c->W.cell? (a.add i)=some c:=by
 unfold World.cells? at h;split at h
 ·have hl:cs.length=n:=by simpa using mapM_some_length h
  refine ⟨hl,λi c hc=>?_⟩;have hi:i<n:=by have:=(YE.1 hc).1;omega
  have:=mapM_some_get h i i (by simp[hi]);rw[this,hc]
 ·cases h
theorem S0 {a:Addr}{c:Value} (h:W.cell? a=some c):∃ cs el fr,W.heap[a.block]?=some (.cells cs el fr)/\a.spot=none/\cs[a.off]?=some c:=by
 unfold World.cell? at h;split at h
 ·rename_i cs el fr he
  split at h
  ·cases h
  ·rename_i hs;exact ⟨cs,el,fr,he,by simpa using hs,h⟩
 ·cases h
def X3 (P:Program) (W:World) (n:Nat) (t:TypeId) (cs:List Value):Prop :=
 ∀ ρ h,Imp W ρ h->∃ (ρ':Rho) (h':Heap) (xs:List V),Rle ρ ρ'/\h <+: h'/\Imp W ρ' h'/\VRs ρ' xs cs/\TV P h' n t xs
theorem Oi {n:Nat}{t:TypeId}{R:Nat}:∀ (css:List (List Value)),(∀ cs∈css,cs.length=R/\X3 P W n t cs)->∀ ρ h,Imp W ρ h ->
  ∃ (ρ':Rho) (h':Heap) (rs:List (List V)),Rle ρ ρ'/\h <+: h'/\Imp W ρ' h'/\rs.length=css.length/\(∀ (i:Nat) (row:List V),rs[i]?=some row->∃ cs,css[i]?=some cs/\VRs ρ' row cs/\row.length=R/\TV P h' n t row)
 | [],_,ρ,h,hi=>⟨ρ,h,[],Rle.refl _,zad _,hi,rfl,λi row hr=>by simp at hr⟩
 | cs :: css,hc,ρ,h,hi=>by
  obtain ⟨ρ1,h1,xs,a1,a2,a3,a4,a5⟩:=(hc cs (by simp)).2 ρ h hi;obtain ⟨ρ2,h2,rs,b1,b2,b3,b4,b5⟩:=Oi css (λc hcc=>hc c (by simp[hcc])) ρ1 h1 a3;refine ⟨ρ2,h2,xs :: rs,a1.trans b1,a2.trans b2,b3,by simp[b4],λi row hr=>?_⟩;cases i with
  | zero =>simp at hr;subst hr;exact ⟨cs,rfl,VRs.mono b1 _ _ a4,by rw[a4.length];exact (hc cs (by simp)).1,TV.mono b2 _ _ _ a5⟩
  | succ i =>simp at hr;obtain ⟨c,g1,g2⟩:=b5 i row hr;exact ⟨c,by simpa using g1,g2⟩
theorem KH {n:Nat}{cs:List Value}:∀ (fs:List Field) (off:Nat),VM P (KR P n) fs off cs.length=true->(∀ f∈fs,KR P n f.type=true->X3 P W n f.type ((cs.drop f.offset).take (P.cellsOf f.type)))->∀ ρ h,Imp W ρ h ->
  ∃ (ρ':Rho) (h':Heap) (xs:List V),Rle ρ ρ'/\h <+: h'/\Imp W ρ' h'/\VRs ρ' xs (cs.drop off)/\TVs P (TV P h' n) fs xs/\off<=cs.length
 | [],off,hin,_,ρ,h,hi=>by simp only[VM] at hin;have:=YL hin;exact ⟨ρ,h,[],Rle.refl _,zad _,hi,by rw[Y0 (by omega)];exact VRs.nil,rfl,by omega⟩
 | f :: fs,off,hin,hl,ρ,h,hi=>by
  simp only[VM] at hin;split at hin
  ·rename_i hc
   simp only[YQ] at hc;have ho:=YL hc.1;obtain ⟨ρ1,h1,xs,a1,a2,a3,a4,a5⟩:=hl f (by simp) hc.2 ρ h hi;obtain ⟨ρ2,h2,ys,b1,b2,b3,b4,b5,b6⟩:=KH fs (off+P.cellsOf f.type) hin (λg hg=>hl g (by simp[hg])) ρ1 h1 a3;rw[ho] at a4;have hlen:=a4.length;refine ⟨ρ2,h2,xs++ys,a1.trans b1,a2.trans b2,b3,?_,⟨xs,ys,rfl,?_,TV.mono b2 _ _ _ a5,b5⟩,by omega⟩
   ·have:=(VRs.mono b1 _ _ a4).append b4;rwa [<- ZT,Zm] at this
   ·rw[hlen];simp;omega
  ·cases hin
theorem Ys:∀ (n:Nat) (t:TypeId),KR P n t=true->∀ (fuel:Nat) (cs:List Value) (x:DataW H×List MemPlace),DataW.trod enc P W 0 (λ_=>true) true fuel t cs=some x ->
  (∀ a l c,Value.slice (some a) l c∈cs->0<W.heap.size)->X3 P W n t cs:=by
 intro n;induction n with
 | zero=>intro t h;simp[KR] at h
 | succ n ih =>
  intro t hin fuel cs x hx hpos ρ h hi;simp only[KR] at hin;split at hin
  ·rename_i hu
   obtain ⟨b,rfl,_⟩:=DataW.trod_bool hu hx;exact ⟨ρ,h,[.bool b],Rle.refl _,zad _,hi,VRs.cons VR.bool' VRs.nil,by simp only[TV,hu];exact ⟨b,rfl⟩⟩
  ·rename_i k hu
   obtain ⟨i,rfl,_,hw⟩:=DataW.trod_int hu hx;exact ⟨ρ,h,[.int k i],Rle.refl _,zad _,hi,VRs.cons VR.int' VRs.nil,by simp only[TV,hu];exact ⟨i,rfl,hw⟩⟩
  ·rename_i hu
   obtain ⟨s,rfl,_,hw⟩:=DataW.trod_string hu hx;exact ⟨ρ,h,[.str s],Rle.refl _,zad _,hi,VRs.cons (by simp[VR]) VRs.nil,by simp only[TV,hu];exact ⟨s,rfl,hw⟩⟩
  ·rename_i e hu
   simp only[YQ] at hin;have hR:0<P.cellsOf e:=by have:=hin.1.2;simpa [zaa] using this
   rcases DataW.trod_slice hu hx with ⟨rfl,_⟩ | ⟨a,len,cap,elems,rest,m,rfl,rfl,_,_,hlc,hcm,hel,hg,hsp,_⟩
   ·exact ⟨ρ,h,[.sl (P.cellsOf e) none 0 (some 0)],Rle.refl _,zad _,hi,VRs.cons (by simp[VR]) VRs.nil,by
     simp only[TV,hu];exact ⟨none,some 0,[],rfl,⟨Y3 _,λ_ _=>Y3 _⟩,λr hr=>(by cases hr),.inl rfl⟩⟩
   ·-- the rows
    have hrow:∀ i,i<len->∃ c y,W.cells? 0 (a.add (i*P.cellsOf e)) (P.cellsOf e)=some c/\DataW.trod enc P W 0 (λ_=>true) true m e c=some y:=λi hi'=>by have h1:=hg i hi';rw[YU (by omega)] at h1;obtain ⟨c,h2,h3⟩:=Option.bind_eq_some_iff.1 h1;exact ⟨c,_,h2,h3⟩
    have hspare:∀ j,len+j<cap->∃ c,W.cells? 0 (a.add ((len+j)*P.cellsOf e)) (P.cellsOf e)=some c:=λj hj=>by obtain ⟨h0,h1⟩:=hsp rfl;have h1:=h1 j (by omega);rw[YU (by omega)] at h1;obtain ⟨c,h2,_⟩:=Option.bind_eq_some_iff.1 h1;exact ⟨c,h2⟩
    by_cases hcap:cap=0
    ·-- no room at all
     subst hcap;have hl0:len=0:=by omega
     subst hl0;have hp:=hpos a 0 0 (by simp);have hi2:=hi.lay .dead ⟨0,0,P.cellsOf e,0,0⟩ hp trivial (.inl rfl);refine ⟨_,_,[.sl (P.cellsOf e) (some (h.length,0)) 0 (some 0)],Rho.set_le hi.rel.fresh,⟨_,rfl⟩,hi2,VRs.cons ?_ VRs.nil,?_⟩
     ·simp only[VR];exact ⟨_,a,0,Rho.set_same _ _ _,rfl,rfl,.inl rfl,YH _,λy hy=>by injection hy,λhc=>by cases hc⟩
     ·simp only[TV,hu];exact ⟨_,_,[],rfl,⟨Y3 _,λ_ _=>Y3 _⟩,λr hr=>(by cases hr),.inl rfl⟩
    ·-- the block
     have hblk:∃ carr el fr,W.heap[a.block]?=some (.cells carr el fr)/\a.spot=none:=by
      have:∃ c,W.cells? 0 (a.add (0*P.cellsOf e)) (P.cellsOf e)=some c:=by
       by_cases hl0:len=0
       ·have:=hspare 0 (by omega);rw[hl0] at this;simpa using this
       ·obtain ⟨c,_,h2,_⟩:=hrow 0 (by omega);exact ⟨c,h2⟩
      obtain ⟨c,hc⟩:=this;obtain ⟨c1,c2⟩:=MK hc;have h0:c[0]?=some c[0]:=YU (by omega);obtain ⟨carr,el,fr,h1,h2,_⟩:=S0 (c2 0 _ h0);have e1:(a.add (0*P.cellsOf e)).add 0=a:=by simp[Addr.add]
      rw[e1] at h1 h2;exact ⟨carr,el,fr,h1,h2⟩
     obtain ⟨carr,el,fr,hW,hspot⟩:=hblk;obtain ⟨r,o,sp⟩:=a;simp only at hW hspot;subst hspot;have hlt:r<W.heap.size:=by apply Z2;intro hle;rw[Array.getElem?_eq_none hle] at hW;cases hW
     have hcells:∀ i,i<len->∃ c y,c.length=P.cellsOf e/\(∀ (j:Nat) (v:Value),c[j]?=some v->carr[o+(i*P.cellsOf e+j)]?=some v)/\DataW.trod enc P W 0 (λ_=>true) true m e c=some y:=λi hi'=>by obtain ⟨c,y,h1,h2⟩:=hrow i hi';obtain ⟨c1,c2⟩:=MK h1;refine ⟨c,y,c1,λj v hv=>?_,h2⟩;have:=c2 j v hv;rw[DF,DF,H8 hW] at this;rw[<- this];congr 1;omega
     have hall:∃ css:List (List Value),css.length=len/\∀ i,i<len->∃ c y,css[i]?=some c/\c.length=P.cellsOf e/\(∀ (j:Nat) (v:Value),c[j]?=some v->carr[o+(i*P.cellsOf e+j)]?=some v)/\DataW.trod enc P W 0 (λ_=>true) true m e c=some y:=by refine ⟨(List.range len).map λi=>if hi':i<len then (hcells i hi').choose else [],by simp,λi hi'=>?_⟩;obtain ⟨y,h1,h2,h3⟩:=(hcells i hi').choose_spec;exact ⟨_,y,by simp[hi'],h1,h2,h3⟩
     obtain ⟨css,hcl,hcs⟩:=hall;obtain ⟨ρ1,h1,rs,a1,a2,a3,a4,a5⟩:=Oi (P:=P) (W:=W) (n:=n) (t:=e) (R:=P.cellsOf e) css (λc hc=>by
      obtain ⟨i,hi'⟩:=YX.1 hc;have hlt:=(YE.1 hi').1;obtain ⟨c',y,g1,g2,g3,g4⟩:=hcs i (by omega);rw[hi'] at g1;injection g1 with g1;subst g1;exact ⟨g2,ih e hin.2 m c y g4 λ_ _ _ _=>by omega⟩) ρ h hi
     by_cases hl0:len=0
     ·have hrs:rs = []:=YM (by omega);subst hrs;have hi2:=a3.lay .dead ⟨r,o,P.cellsOf e,0,0⟩ hlt trivial (.inl rfl);refine ⟨_,_,[.sl (P.cellsOf e) (some (h1.length,0)) 0 (some cap)],a1.trans (Rho.set_le a3.rel.fresh),a2.trans ⟨_,rfl⟩,hi2,VRs.cons ?_ VRs.nil,?_⟩
      ·simp only[VR];exact ⟨_,⟨r,o,none⟩,cap,Rho.set_same _ _ _,rfl,by rw[hl0],.inr (by simp),by omega,λy hy=>by injection hy,λhc=>by cases hc⟩
      ·simp only[TV,hu];exact ⟨_,_,[],rfl,⟨Y3 _,λ_ _=>Y3 _⟩,λr hr=>(by cases hr),.inl rfl⟩
     ·have hrl:rs.length=len:=by omega
      have hbr:BR ρ1 ⟨r,o,P.cellsOf e,rs.length,rs.length⟩ (.rows (P.cellsOf e) el true rs) W:=by
       refine ⟨carr,fr,?_,λh=>(by cases h),rfl,rfl,YH _,?_,λi row hr=>?_,.inr ⟨rfl,λj c g1 g2 g3=>?_⟩⟩
       ·exact hW
       ·obtain ⟨c,y,g1,g2,g3,_⟩:=hcs (len - 1) (by omega);have:=g3 (P.cellsOf e - 1) _ (YU (by omega));have hb:=(ZM.1 this).1;have e1:rs.length*P.cellsOf e=(len - 1)*P.cellsOf e+P.cellsOf e:=by rw[hrl,<- Nat.succ_mul];congr 1;omega
        show o+rs.length*P.cellsOf e<=carr.size;omega
       ·obtain ⟨c,g1,g2,g3,_⟩:=a5 i row hr;refine ⟨g3,λj v hv=>?_⟩;have hlt:=(YE.1 hr).1;obtain ⟨c',y,k1,k2,k3,_⟩:=hcs i (by omega);rw[g1] at k1;injection k1 with k1;subst k1;obtain ⟨z,z1,z2⟩:=g2.get j v hv;exact ⟨z,k3 j z z1,z2⟩
       ·obtain ⟨q,hq⟩:∃ q,j=o+q:=⟨j - o,by simp only at g1;omega⟩;have hq2:q<rs.length*P.cellsOf e:=by simp only at g2;omega
        have hdiv:q / P.cellsOf e<rs.length:=(Nat.div_lt_iff_lt_mul hR).2 hq2;have hmod:q % P.cellsOf e<P.cellsOf e:=Nat.mod_lt _ hR;have hqq:q=q / P.cellsOf e*P.cellsOf e+q % P.cellsOf e:=by rw[Nat.mul_comm];exact (Nat.div_add_mod q _).symm
        obtain ⟨c0,k1,k2,k3,k4⟩:=a5 (q / P.cellsOf e) _ (YU hdiv);obtain ⟨c',y,l1,l2,l3,_⟩:=hcs (q / P.cellsOf e) (by omega);rw[k1] at l1;injection l1 with l1;subst l1;have hz:=l3 (q % P.cellsOf e) _ (YU (by omega));rw[<- hqq,<- hq,g3] at hz;injection hz with hz;rw[hz];exact BV k2 (TV.firm _ _ _ k4) _ (YJ _)
      have hi2:=a3.lay (.rows (P.cellsOf e) el true rs) ⟨r,o,P.cellsOf e,rs.length,rs.length⟩ hlt hbr (.inr ⟨_,_,_,rfl⟩);refine ⟨_,_,[.sl (P.cellsOf e) (some (h1.length,0)) rs.length (some cap)],a1.trans (Rho.set_le a3.rel.fresh),a2.trans ⟨_,rfl⟩,hi2,VRs.cons ?_ VRs.nil,?_⟩
      ·simp only[VR];exact ⟨_,⟨r,o,none⟩,cap,Rho.set_same _ _ _,rfl,by rw[hrl],.inr (by simp),by omega,λy hy=>by injection hy,λhc=>by cases hc⟩
      ·simp only[TV,hu];refine ⟨_,_,rs,rfl,⟨by omega,λk hk=>by injection hk with hk;omega⟩,λrow hr=>?_,.inr ⟨_,rfl,by simp[Heap.rows?]⟩⟩;obtain ⟨i,hi'⟩:=YX.1 hr;obtain ⟨c,_,_,g3,g4⟩:=a5 i row hi';exact ⟨g3,TV.mono ⟨_,rfl⟩ _ _ _ g4⟩
  ·rename_i fs hu
   obtain ⟨xs,m,rfl,_,hl,hxl,hf⟩:=DataW.trod_struct hu hx;rw[<- hl] at hin;obtain ⟨ρ',h',ys,b1,b2,b3,b4,b5,_⟩:=KH (P:=P) (W:=W) (n:=n) (cs:=cs) fs.toList 0 hin (λf hfm hft=>by
    obtain ⟨i,hi'⟩:=YX.1 hfm;have hi2:fs[i]?=some f:=by simpa using hi'
    have h1:=hf i f hi2;have hlt:i<xs.length:=by have:=(ZM.1 hi2).1;omega
    rw[YU hlt] at h1;exact ih f.type hft m _ _ h1 λa l c hm=>hpos a l c (List.mem_of_mem_drop (zae hm))) ρ h hi
   exact ⟨ρ',h',ys,b1,b2,b3,by simpa using b4,by simp only[TV,hu];exact b5⟩
  ·cases hin
end
end Go.Proofs.YtoocmbhkaghgnaaGreat.T
namespace Go.Proofs.YtoocmbhkaghgnaaGreat.T
open Go Go.RowKit
variable {r:Reach}{base:Nat}{a:Addr}{n:Nat}{h:Heap}
section
variable {P:Program}{W:World}{H:Type}{enc:TypeId×Value->H}
theorem Sj {e:TypeId} (h:W.has P r base a e n):0<W.heap.size:=by obtain ⟨_,_,row,cells,hs,_⟩:=h;unfold World.shape? at hs;apply Z2;intro hle;rw[Array.getElem?_eq_none (by omega)] at hs;cases hs
theorem KA {u:TypeId}{l c:Nat} (h:Cell.okWide P W r base u (.slice (some a) l c)):0<W.heap.size:=by
 have h2:Cell.ok P W r base u (.slice (some a) l c):=by unfold Cell.okWide at h;split at h<;>simp_all
 unfold Cell.ok at h2;split at h2<;>simp_all
 exact Sj h2.2.2
theorem O9 {t:TypeId}{v:Value} (h:Value.okWide P W r base t v) {l c:Nat} (hm:Value.slice (some a) l c∈v.cells.toList):0<W.heap.size:=by
 have row:∀ cs:Array Value,Row.okWide P W r base t cs->v = .agg cs->0<W.heap.size:=λcs hr hv=>by subst hv;obtain ⟨ts,_,_,h3⟩:=hr;simp[Value.cells] at hm;obtain ⟨i,hi⟩:=Array.mem_iff_getElem?.1 hm;obtain ⟨u,_,hu⟩:=h3 i _ hi;exact KA hu
 unfold Value.okWide at h;split at h
 ·obtain ⟨cs,hv,_,hr⟩:=h;exact row cs hr hv
 ·obtain ⟨cs,hv,_,hr⟩:=h;exact row cs hr hv
 ·cases v<;>simp[Value.cells] at hm
  ·obtain ⟨rfl,rfl,rfl⟩:=hm;exact KA h
  ·exfalso;unfold Cell.okWide Cell.ok at h;split at h<;>(try split at h)<;>simp_all
def ArgV (P:Program) (h:Heap) (n:Nat) (t:TypeId) (x:V):Prop:=match P.underlying t with
 | some (.struct _)=>∃ xs,x = .agg xs/\TV P h n t xs
 | _=>TV P h n t [x]
theorem ArgV.mono {h h':Heap} (hp:h <+: h') {n:Nat}{t:TypeId}{x:V} (hx:ArgV P h n t x):ArgV P h' n t x:=by
 unfold ArgV at *
 split at hx
 ·obtain ⟨xs,h1,h2⟩:=hx;exact ⟨xs,h1,TV.mono hp _ _ _ h2⟩
 ·exact TV.mono hp _ _ _ hx
theorem lays_arg {t:TypeId}{v:Value}{d:DataW H}{p:List MemPlace} (hin:KR P n t=true) (hok:Value.okWide P W r base t v)
  (h0:DataW.Trod enc P W 0 (λ_=>true) true t v d p) {ρ:Rho} (hi:Imp W ρ h):∃ (ρ':Rho) (h':Heap) (x:V),Rle ρ ρ'/\h <+: h'/\Imp W ρ' h'/\VR ρ' x v/\ArgV P h' n t x:=by
 obtain ⟨fuel,hf⟩:=h0;obtain ⟨ρ',h',xs,a1,a2,a3,a4,a5⟩:=Ys n t hin fuel _ _ hf (λa l c hm=>O9 hok hm) ρ h hi;unfold Value.okWide at hok;cases hu:P.underlying t with
 | none =>
  cases n with
  | zero=>simp[KR] at hin
  | succ n=>simp[KR,hu] at hin
 | some td =>
  have one:(∀ fs,td ≠ .struct fs)->∃ x,xs = [x]/\VR ρ' x v:=λhns=>by
   cases n with
   | zero=>simp[KR] at hin
   | succ n =>
    simp only[TV,hu] at a5;have hl:=a4.length;have hx:∃ x,xs = [x]:=by
     cases td<;>simp only at a5<;>(try exact a5.elim)
     ·obtain ⟨b,rfl⟩:=a5;exact ⟨_,rfl⟩
     ·obtain ⟨i,rfl,_⟩:=a5;exact ⟨_,rfl⟩
     ·obtain ⟨s,rfl,_⟩:=a5;exact ⟨_,rfl⟩
     ·obtain ⟨a,c,rs,rfl,_⟩:=a5;exact ⟨_,rfl⟩
     ·exact absurd rfl (hns _)
    obtain ⟨x,rfl⟩:=hx;refine ⟨x,rfl,?_⟩;have hns':∀ cs,v ≠ .agg cs:=λcs hv=>by
     subst hv;rw[hu] at hok;cases td<;>simp only[KR,hu] at hin<;>(try cases hin)<;>simp[Cell.okWide,Cell.ok,hu] at hok
     exact absurd rfl (hns _)
    have hc:v.cells.toList = [v]:=by
     cases v<;>(try rfl)
     ·exact absurd rfl (hns' _)
    rw[hc] at a4;exact a4.uncons.1
  by_cases hs:∃ fs,td = .struct fs
  ·obtain ⟨fs,rfl⟩:=hs;rw[hu] at hok;obtain ⟨cs,rfl,_⟩:=hok;refine ⟨ρ',h',.agg xs,a1,a2,a3,?_,?_⟩
   ·simp only[VR];exact ⟨cs,rfl,by simpa [Value.cells] using a4⟩
   ·simp only[ArgV,hu];exact ⟨xs,rfl,a5⟩
  ·obtain ⟨x,rfl,hx⟩:=one λfs e=>hs ⟨fs,e⟩;refine ⟨ρ',h',x,a1,a2,a3,hx,?_⟩;unfold ArgV;rw[hu];split
   ·rename_i fs' he;injection he with he;exact absurd ⟨_,he⟩ hs
   ·exact a5
theorem imp_nil (W:World):Imp W (λ_=>none) [] :=
 ⟨⟨λb e h=>(by cases h),λb e k h=>(by cases h),λb b' e e' h=>(by cases h)⟩,λb hb=>by simp at hb⟩
theorem law_walk {call:EG} (hS:SC P call) {f:FuncId}{args:List V}{h':Heap}{ρ:Rho} (hk:call h.length f args h=some (.bool true,h')) {cargs:Array Value} (hv:VRs ρ args cargs.toList) (hi:Imp W ρ h) :
  Calls P f cargs W λe w'=>e = .returned (.bool true)/\Below W.heap.size W w':=by
 refine Calls.mono (hS.calls hk (YH _) hv hi.rel) ?_
 rintro e w' ⟨c,rfl,ρ',h1,h2,h3⟩
 simp only[VR] at h1;subst h1;exact ⟨rfl,⟨h3.os,h3.tape,h3.output,h3.size,λk hk=>h3.frame k hk λb e hb hle=>by
  have:=(hi.rel.dom b e hb).1;omega⟩⟩
end
end Go.Proofs.YtoocmbhkaghgnaaGreat.T
namespace Go.Proofs.YtoocmbhkaghgnaaGreat
open Go T


structure Ver where
 key:Int
 tag:Tag
 past:List Tag
 text:ByteArray
 gone:Bool
structure Node where
 store:List Ver
 wait:List Ver
structure Place where
 me:Int
 clock:Int
 chain:List Node
 log:List Ver
 got:List (List Ver)
 fell:Bool
structure Frame where
 fro:Int
 to:Int
 at':Int
 ver:Ver
abbrev Yk (ro:Bool):Nat:=bif ro then 0 else 29
abbrev SR (ro:Bool):Nat:=bif ro then 0 else 105
abbrev Yj (ro:Bool):Nat:=bif ro then 0 else 97
abbrev OM (ro:Bool):Nat:=bif ro then 0 else 126
abbrev Ver.cs (v:Ver) (a:Pq) (c:Nq):List V := [Iv v.key,Iv v.tag.time,Iv v.tag.place,.sl 2 a v.past.length c,.str v.text,.bool v.gone]
abbrev RTags (ro:Bool):Rel (List Tag):=Sli ro 2 (Yk ro) (flat Tag.cs)
def RVer (ro:Bool):Rel Ver:=λh cs v F=>∃ s,cs = [Iv v.key,Iv v.tag.time,Iv v.tag.place,s,.str v.text,.bool v.gone]/\RTags ro h [s] v.past F
abbrev RVers (ro:Bool):Rel (List Ver):=Sli ro 6 (SR ro) (RVer ro)
abbrev RVss (ro:Bool):Rel (List (List Ver)):=Sli ro 1 (Yj ro) (RVers ro)
def RNode (ro:Bool):Rel Node:=λh cs x F=>∃ s1 s2 F1 F2,cs = [s1,s2]/\F=F1++F2/\RVers ro h [s1] x.store F1/\RVers ro h [s2] x.wait F2
abbrev RNodes (ro:Bool):Rel (List Node):=Sli ro 2 (OM ro) (RNode ro)
def RPlace (ro:Bool):Rel Place:=λh cs p F=>∃ s1 s2 s3 F1 F2 F3,cs = [Iv p.me,Iv p.clock,s1,s2,s3,.bool p.fell]/\F=F1++(F2++F3)/\RNodes ro h [s1] p.chain F1/\RVers ro h [s2] p.log F2/\RVss ro h [s3] p.got F3
def S9 (ro:Bool):Rel Frame:=λh cs f F=>∃ vs,cs = Iv f.fro :: Iv f.to :: Iv f.at' :: vs/\RVer ro h vs f.ver F
theorem rtags_ok {ro:Bool}:(RTags ro).Ok:=Sli.ok Cj
theorem rver_ok {ro:Bool}:(RVer ro).Ok :=
 ⟨λh h' cs x F ⟨s,h1,h2⟩ hb=>⟨s,h1,rtags_ok.fr _ _ _ _ _ h2 hb⟩,λh cs x F ⟨s,_,h2⟩=>rtags_ok.bd _ _ _ _ h2⟩
theorem rvers_ok {ro:Bool}:(RVers ro).Ok:=Sli.ok rver_ok
theorem rvss_ok {ro:Bool}:(RVss ro).Ok:=Sli.ok rvers_ok
theorem rnode_ok {ro:Bool}:(RNode ro).Ok:=by
 refine ⟨?_,?_⟩
 ·rintro h h' cs x F ⟨s1,s2,F1,F2,h1,rfl,h2,h3⟩ hb
  exact ⟨s1,s2,F1,F2,h1,rfl,rvers_ok.fr _ _ _ _ _ h2 λb hm=>hb b (by simp[hm]),rvers_ok.fr _ _ _ _ _ h3 λb hm=>hb b (by simp[hm])⟩
 ·rintro h cs x F ⟨s1,s2,F1,F2,h1,rfl,h2,h3⟩ b hb
  rw[YF] at hb;exact hb.elim (rvers_ok.bd _ _ _ _ h2 b) (rvers_ok.bd _ _ _ _ h3 b)
theorem rnodes_ok {ro:Bool}:(RNodes ro).Ok:=Sli.ok rnode_ok
theorem rplace_ok {ro:Bool}:(RPlace ro).Ok:=by
 refine ⟨?_,?_⟩
 ·rintro h h' cs x F ⟨s1,s2,s3,F1,F2,F3,h1,rfl,h2,h3,h4⟩ hb
  exact ⟨s1,s2,s3,F1,F2,F3,h1,rfl,rnodes_ok.fr _ _ _ _ _ h2 λb hm=>hb b (by simp[hm]),rvers_ok.fr _ _ _ _ _ h3 λb hm=>hb b (by simp[hm]),rvss_ok.fr _ _ _ _ _ h4 λb hm=>hb b (by simp[hm])⟩
 ·rintro h cs x F ⟨s1,s2,s3,F1,F2,F3,h1,rfl,h2,h3,h4⟩ b hb
  rw[YF,YF] at hb;rcases hb with hb | hb | hb
  ·exact rnodes_ok.bd _ _ _ _ h2 b hb
  ·exact rvers_ok.bd _ _ _ _ h3 b hb
  ·exact rvss_ok.bd _ _ _ _ h4 b hb
theorem rframe_ok {ro:Bool}:(S9 ro).Ok :=
 ⟨λh h' cs x F ⟨s,h1,h2⟩ hb=>⟨s,h1,rver_ok.fr _ _ _ _ _ h2 hb⟩,λh cs x F ⟨s,_,h2⟩=>rver_ok.bd _ _ _ _ h2⟩
section
variable {ro:Bool}{h:Heap}{F:List Nat}{a:Pq}{c:Nq}{n k:Nat}
theorem RTags.get {l:List Tag} (hs:RTags ro h [.sl 2 a n c] l F) (hk:k<l.length):∃ o,a=some o/\ld h o.1 (o.2+k) 0 2=some [Iv l[k].time,Iv l[k].place]:=by obtain ⟨o,row,G,h1,h2,⟨rfl,_⟩,_⟩:=hs.read hk;exact ⟨o,h1,by rw[h2];rfl⟩
theorem RVer.form {row:List V}{v:Ver} (hv:RVer ro h row v F):∃ s a c,row = [Iv v.key,Iv v.tag.time,Iv v.tag.place,s,.str v.text,.bool v.gone] /\
  (∀ {R':Type} (K:Pq->Nat->Nq->Option R'),eS 2 s K=K a v.past.length c)/\RTags ro h [.sl 2 a v.past.length c] v.past F:=by
 obtain ⟨s,rfl,hp⟩:=hv;obtain ⟨a,c,es,hp2⟩:=hp.form;exact ⟨s,a,c,rfl,es,hp2⟩
theorem RVers.get {l:List Ver} (hs:RVers ro h [.sl 6 a n c] l F) (hk:k<l.length):∃ o s a' c' G,a=some o /\
  ld h o.1 (o.2+k) 0 6=some [Iv l[k].key,Iv l[k].tag.time,Iv l[k].tag.place,s,.str l[k].text,.bool l[k].gone] /\
  (∀ {R':Type} (K:Pq->Nat->Nq->Option R'),eS 2 s K=K a' l[k].past.length c')/\RTags ro h [.sl 2 a' l[k].past.length c'] l[k].past G/\(∀ b∈G,b∈F):=by
 obtain ⟨o,row,G,h1,h2,hv,hG,_⟩:=hs.read hk;obtain ⟨s,a',c',rfl,es,hp⟩:=hv.form;exact ⟨o,s,a',c',G,h1,by rw[h2];rfl,es,hp,hG⟩
theorem RVss.get {l:List (List Ver)} (hs:RVss ro h [.sl 1 a n c] l F) (hk:k<l.length):∃ o s a' c' G,a=some o/\ld h o.1 (o.2+k) 0 1=some [s] /\
  (∀ {R':Type} (K:Pq->Nat->Nq->Option R'),eS 6 s K=K a' l[k].length c')/\RVers ro h [.sl 6 a' l[k].length c'] l[k] G/\(∀ b∈G,b∈F):=by
 obtain ⟨o,row,G,h1,h2,hv,hG,_⟩:=hs.read hk;have:∃ s,row = [s]:=by obtain ⟨R',a',c',e,_⟩:=hv;exact ⟨_,e⟩
 obtain ⟨s,rfl⟩:=this;obtain ⟨a',c',es,hp⟩:=hv.form;exact ⟨o,s,a',c',G,h1,by rw[h2];rfl,es,hp,hG⟩
theorem RNode.form {row:List V}{x:Node} (hv:RNode ro h row x F):∃ s1 s2 a1 c1 a2 c2 F1 F2,row = [s1,s2]/\F=F1++F2 /\
  (∀ {R':Type} (K:Pq->Nat->Nq->Option R'),eS 6 s1 K=K a1 x.store.length c1)/\(∀ {R':Type} (K:Pq->Nat->Nq->Option R'),eS 6 s2 K=K a2 x.wait.length c2) /\
  RVers ro h [.sl 6 a1 x.store.length c1] x.store F1/\RVers ro h [.sl 6 a2 x.wait.length c2] x.wait F2:=by
 obtain ⟨s1,s2,F1,F2,rfl,rfl,h1,h2⟩:=hv;obtain ⟨a1,c1,e1,g1⟩:=h1.form;obtain ⟨a2,c2,e2,g2⟩:=h2.form;exact ⟨s1,s2,a1,c1,a2,c2,F1,F2,rfl,rfl,e1,e2,g1,g2⟩
theorem RNodes.get {l:List Node} (hs:RNodes ro h [.sl 2 a n c] l F) (hk:k<l.length):∃ o s1 s2 a1 c1 a2 c2 F1 F2,a=some o/\ld h o.1 (o.2+k) 0 2=some [s1,s2]/\ld h o.1 (o.2+k) 0 1=some [s1]/\ld h o.1 (o.2+k) 1 1=some [s2] /\
  (∀ {R':Type} (K:Pq->Nat->Nq->Option R'),eS 6 s1 K=K a1 l[k].store.length c1)/\(∀ {R':Type} (K:Pq->Nat->Nq->Option R'),eS 6 s2 K=K a2 l[k].wait.length c2) /\
  RVers ro h [.sl 6 a1 l[k].store.length c1] l[k].store F1/\RVers ro h [.sl 6 a2 l[k].wait.length c2] l[k].wait F2/\(∀ b∈F1,b∈F)/\(∀ b∈F2,b∈F):=by
 obtain ⟨o,row,G,h1,h2,hv,hG,_⟩:=hs.read hk;obtain ⟨s1,s2,a1,c1,a2,c2,F1,F2,rfl,rfl,e1,e2,g1,g2⟩:=hv.form;exact ⟨o,s1,s2,a1,c1,a2,c2,F1,F2,h1,by rw[h2];rfl,by rw[h2];rfl,by rw[h2];rfl,e1,e2,g1,g2,λb hb=>hG b (Y8 _ hb),λb hb=>hG b (ZX _ hb)⟩
theorem RPlace.form {row:List V}{p:Place} (hv:RPlace ro h row p F):∃ s1 s2 s3 a1 c1 a2 c2 a3 c3 F1 F2 F3,row = [Iv p.me,Iv p.clock,s1,s2,s3,.bool p.fell]/\F=F1++(F2++F3) /\
  (∀ {R':Type} (K:Pq->Nat->Nq->Option R'),eS 2 s1 K=K a1 p.chain.length c1)/\(∀ {R':Type} (K:Pq->Nat->Nq->Option R'),eS 6 s2 K=K a2 p.log.length c2) /\
  (∀ {R':Type} (K:Pq->Nat->Nq->Option R'),eS 1 s3 K=K a3 p.got.length c3) /\
  RNodes ro h [.sl 2 a1 p.chain.length c1] p.chain F1/\RVers ro h [.sl 6 a2 p.log.length c2] p.log F2/\RVss ro h [.sl 1 a3 p.got.length c3] p.got F3:=by
 obtain ⟨s1,s2,s3,F1,F2,F3,rfl,rfl,h1,h2,h3⟩:=hv;obtain ⟨a1,c1,e1,g1⟩:=h1.form;obtain ⟨a2,c2,e2,g2⟩:=h2.form;obtain ⟨a3,c3,e3,g3⟩:=h3.form;exact ⟨s1,s2,s3,a1,c1,a2,c2,a3,c3,F1,F2,F3,rfl,rfl,e1,e2,e3,g1,g2,g3⟩
end
theorem RH {α T:Type}{p:α->Bool}{l:List α} (L:Nat->Option T) (no yes:Option T)
  (step:∀ i (hi:i<l.length),L i=if p l[i]=true then L (i+1) else no) (done:L l.length=yes):L 0=if l.all p=true then yes else no:=by
 have loop:∀ m i,m+i=l.length->L i=if (l.drop i).all p=true then yes else no:=by
  intro m;induction m with
  | zero =>
   intro i hi;have:i=l.length:=by omega
   subst this;rw[done,List.drop_length];simp
  | succ m ih =>
   intro i hi;have hlt:i<l.length:=by omega
   rw[step i hlt,YN hlt,List.all_cons];cases hp:p l[i]
   ·simp
   ·simpa using ih (i+1) (by omega)
 exact loop l.length 0 (by omega)


section
variable {lo:Nat}{ro:Bool}{h:Heap}{F:List Nat}{a:Pq}{c:Nq}{left:Int}
end
def Ei (l:List Ver):Prop:=l.length<=1048576/\∀ v∈l,v.past.length<=1048576/\v.text.size<=1048576
def Yc (l:List (List Ver)):Prop:=l.length<=1048576/\∀ v∈l,Ei v
def FH (l:List Node):Prop:=l.length<=1048576/\∀ x∈l,Ei x.store/\Ei x.wait
def GF (p:Place):Prop:=FH p.chain/\Ei p.log/\Yc p.got
section
variable {lo:Nat}{ro:Bool}{h:Heap}{F:List Nat}{a:Pq}{c:Nq}
abbrev Place.cs (p:Place) (a1:Pq) (c1:Nq) (a2:Pq) (c2:Nq) (a3:Pq) (c3:Nq):List V :=
 [Iv p.me,Iv p.clock,.sl 2 a1 p.chain.length c1,.sl 6 a2 p.log.length c2,.sl 1 a3 p.got.length c3,.bool p.fell]
end


section
variable {lo:Nat}{ro ro':Bool}{h:Heap}{F F':List Nat}{a a':Pq}{c c':Nq}
theorem Wp (x:Int):(x==x)=true:=by simp
abbrev Frame.cs (f:Frame) (a:Pq) (c:Nq):List V := Iv f.fro :: Iv f.to :: Iv f.at' :: f.ver.cs a c
end
def Yf {α:Type} (f:Int->α->α) (w:α->Nat):List α->Int->List α
 | [],_ => []
 | x :: r,k=>f k x :: Yf f w r (k+w x)
def Vz {α:Type} (w:α->Nat) (l:List α):Nat:=(l.map w).sum


abbrev YA:Int:=1099511627776
abbrev Wx (_:Tag):Nat:=2
def XF (v:Ver):Nat:=5+Vz Wx v.past
def Qd (l:List Ver):Nat:=Vz XF l
def U3 (x:Node):Nat:=Qd x.store+Qd x.wait
section
variable {lo:Nat}{h:Heap}{F:List Nat}{a:Pq}{c:Nq}{k:Int}
def X8 (l:List (List Ver)):Nat:=Vz Qd l
def U2 (l:List Node):Nat:=Vz U3 l
end


section
variable {lo:Nat}{h:Heap}{F:List Nat}{a:Pq}{c:Nq}{k:Int}
def U1 (p:Place):Nat:=U2 p.chain+Qd p.log+X8 p.got
theorem RPlace.cells {ro:Bool}{p:Place}{a1 a2 a3:Pq}{c1 c2 c3:Nq} (h1:RPlace ro h (p.cs a1 c1 a2 c2 a3 c3) p F) :
  ∃ F1 F2 F3,F=F1++(F2++F3)/\RNodes ro h [.sl 2 a1 p.chain.length c1] p.chain F1/\RVers ro h [.sl 6 a2 p.log.length c2] p.log F2/\RVss ro h [.sl 1 a3 p.got.length c3] p.got F3:=by
 obtain ⟨_,_,_,F1,F2,F3,e1,rfl,r1,r2,r3⟩:=h1;injection e1 with _ e1;injection e1 with _ e1;injection e1 with x1 e1;injection e1 with x2 e1;injection e1 with x3 e1;subst x1;subst x2;subst x3;exact ⟨F1,F2,F3,rfl,r1,r2,r3⟩
end


variable {s:ByteArray}{p:List Tag}
def PO (b:UInt8):Bool:=Af b.toNat 33 126
def E4 (s:ByteArray):Bool:=s.data.toList.all PO&&decide ((s.size:Int)<=8)
def BE (p:List Tag):Bool:=decide (p.length=4)&&p.all λt=>Bu t.time t.place
def BT (p q:List Tag):Bool:=(p.zip q).all λx => !Bx x.2.time x.2.place x.1.time x.1.place
def Df (p:List Tag):Int:=p.foldl (λm t=>if t.time>m then t.time else m) 0
def GL (s:ByteArray):Bool:=decide (s.size=0)
def Lk (v:Ver):Bool:=Af v.key 0 3&&E4 v.text&&(!v.gone || GL v.text)&&BE v.past
def Ck (v:Ver):Bool:=Lk v&&Bu v.tag.time v.tag.place&&decide (Df v.past<v.tag.time)
section
variable {lo:Nat}{ro ro':Bool}{h:Heap}{F F':List Nat}{a a':Pq}{c c':Nq}
theorem T8 {i:Nat} (hi:i<s.data.toList.length):NY s (i:Nat)=some (s.data.toList[i]):=by
 unfold NY;have:i<s.size:=by simpa using hi
 simp[this];rfl
theorem Ng (hn:s.size<=1048576):Ae lo 96 [.str s] h=some (.bool (E4 s),h):=by
 refine KX (h':=h) ?_;have hl:s.data.toList.length=s.size:=by simp
 refine (RH (p:=PO) (l:=s.data.toList) (λi=>BJ (List.length h) s false (i:Nat) h) (some (.bool false,h)) (some (.bool (decide ((s.size:Int)<=8)),h)) (λi hi=>?_) ?_).trans ?_
 ·rw[BJ.e,Aj (by omega)];simp only[T8 hi,Ag,As (show i<9223372036854775807 by omega)];unfold PO Af;generalize s.data.toList[i]=b;by_cases h1:(b.toNat:Int)<33
  ·rw[Aj h1,if_neg (by simp;omega)]
  ·rw[Ak h1];by_cases h2:(b.toNat:Int)>126
   ·rw[Aj h2,if_neg (by simp;omega)]
   ·rw[Ak h2,if_pos (by simp;omega)]
 ·rw[BJ.e,Ak (by omega)];by_cases h3:(s.size:Int)<=8
  ·rw[Aj h3,decide_eq_true h3]
  ·rw[Ak h3,decide_eq_false h3]
 ·unfold E4;cases s.data.toList.all PO<;>simp
theorem Q6 {l:List Tag} (hs:RTags ro h [.sl 2 a l.length c] l F) (hn:l.length<=1048576):Ae lo 55 [.agg [.sl 2 a l.length c]] h=some (Iv (Df l),h):=by
 have loop:∀ m k x,m+k=l.length->Be (List.length h) x a l.length c (l.length:Nat) (k:Nat) h=some (Iv ((l.drop k).foldl (λm t=>if t.time>m then t.time else m) x),h):=by
  intro m;induction m with
  | zero =>intro k x hk;rw[Be.e,Ak (by omega),show k=l.length by omega];simp
  | succ m ih =>
   intro k x hk;have hlt:k<l.length:=by omega
   obtain ⟨o,rfl,ho⟩:=hs.get hlt;rw[Be.e,Aj (by omega),Ad (by omega)];simp only[Ag,BA,ho,Ab,Aa,Ai,As (show k<9223372036854775807 by omega)];rw[ih (k+1) _ (by omega),YN hlt,Zy]
 refine IH (h':=h) ?_;exact loop l.length 0 0 (by omega)
theorem RO:(s.toList==(ByteArray.mk #[]).toList)=GL s:=by
 unfold GL;rw[ZJ];rw[Z4,Z4];simp only[beq_iff_eq,decide_eq_true_eq];constructor
 ·intro h;have:=congrArg List.length h;simpa using this
 ·intro h;exact YM (by simpa using h)
theorem Mp {x:Int}:∀ {l:List Tag}{m:Int},l.foldl (λm t=>if t.time>m then t.time else m) m<x<->m<x/\∀ t∈l,t.time<x
 | [],m=>by simp
 | t :: l,m=>by
  rw[Zy,Mp];simp only[YW,forall_eq_or_imp];constructor
  ·rintro ⟨h1,h2⟩
   refine ⟨?_,?_,h2⟩<;>(split at h1<;>omega)
  ·rintro ⟨h1,h2,h3⟩
   refine ⟨?_,h3⟩;split<;>omega
theorem latest_lt {x:Int}:Df p<x<->0<x/\∀ t∈p,t.time<x:=Mp
theorem It {t p:Int} (h:Bu t p=true):0<=t/\t<=999/\0<=p/\p<=2:=by simp[Bu,Af] at h;omega
theorem Cp (h:BE p=true):p.length=4:=by simp only[BE,Cz,decide_eq_true_eq] at h;exact h.1
theorem RN {q:List Tag}{T:Type} (L:Nat->Option T) (no yes:Option T) (hl:p.length<=q.length)
  (step:∀ i (hi:i<p.length),L i=if Bx q[i].time q[i].place p[i].time p[i].place=true then no else L (i+1)) (done:L p.length=yes):L 0=if BT p q=true then yes else no:=by
 have hz:(p.zip q).length=p.length:=by simp;omega
 refine RH (l:=p.zip q) L no yes (λi hi=>?_) (by rw[hz];exact done);rw[step i (by omega)];simp only[List.getElem_zip];cases Bx q[i].time q[i].place p[i].time p[i].place<;>simp
theorem FW {q:List Tag} (hs:RTags ro h [.sl 2 a p.length c] p F) (hs':RTags ro' h [.sl 2 a' q.length c'] q F') (hp:p.length=4) (hq:q.length=4) :
  Ae lo 103 [.agg [.sl 2 a p.length c],.agg [.sl 2 a' q.length c']] h=some (.bool (BT p q),h):=by
 refine K5 (h':=h) ?_;refine (RN (p:=p) (q:=q) (λi=>BK (List.length h) false (i:Nat) a p.length c a' q.length c' h) (some (.bool false,h)) (some (.bool true,h)) (by omega) (λi hi=>?_) ?_).trans ?_
 ·obtain ⟨o,rfl,ho⟩:=hs.get hi;obtain ⟨o',rfl,ho'⟩:=hs'.get (show i<q.length by omega);rw[BK.e,Aj (by omega),Ad (show i<q.length by omega)];simp only[Ag,BA,ho,ho',Ab,Aa,Ai,Ad hi,Bd,Ac,AC,As (show i<9223372036854775807 by omega)];cases Bx q[i].time q[i].place p[i].time p[i].place<;>simp
 ·rw[BK.e,Ak (by omega)]
 ·cases BT p q<;>rfl
end


variable {l:List Tag}{α:Type}{El:Rel α}
section
variable {lo:Nat}{ro ro':Bool}{h:Heap}{F F':List Nat}{a a':Pq}{c c':Nq}
theorem Sli.rows {α:Type}{El:Rel α}{R e:Nat}{l:List α} (hs:Sli false R e El h [.sl R a l.length c] l F) :
  ∃ rows Fs,(∀ {T:Type} (K:List (List V)->Option T),Ap R h (.sl R a l.length c) K=K rows)/\EAll El h rows l Fs/\∀ b∈Fs.flatten,b∈F:=by
 obtain ⟨R1,a1,c1,e1,g⟩:=hs;injection e1 with e1 _;injection e1 with e0 e2 _ e3;subst e2;subst e3;cases a with
 | none =>obtain ⟨rfl,_,_⟩:=g;exact ⟨[],[],λK=>rfl,trivial,by simp⟩
 | some p =>
  obtain ⟨b,i⟩:=p;obtain ⟨_,rs,Fs,g1,g2,g3,g4,g5,rfl⟩:=g;refine ⟨_,Fs,λK=>?_,g5,λb hb=>Zs _ hb⟩;simp only[Ap,Kc,GN];cases hl:l.length with
  | zero=>simp
  | succ n =>rw[hl] at g2;simp only[De,Heap.rows?,g1,Za,Fz g2,Ag]
theorem RTags.rows {l:List Tag} (hs:RTags false h [.sl 2 a l.length c] l F) {T:Type} (K:List (List V)->Option T):Ap 2 h (.sl 2 a l.length c) K=K (l.map Tag.cs):=by obtain ⟨rows,Fs,h1,h2,_⟩:=Sli.rows hs;rw[h1,h2.of_flat.1]
theorem Sli.fresh {R e n:Nat}{rs:List (List V)} (hn:n<=rs.length):Sli false R e El (h ++ [.rows R e false rs]) [.sl R (some (h.length,0)) 0 (some n)] [] [h.length] :=
 ⟨R,some (h.length,0),some n,rfl,rfl,rs,[],by simp,by simp,λk hk=>by injection hk with hk;subst hk;simpa using hn,λh=>(by cases h),by simp[EAll],by simp⟩
theorem Mq:(l.map λ_=>([]:List Nat)).flatten = []:=by induction l<;>simp_all
theorem Gp (hl:lo<=h.length) (hn:l.length<=1048576):∃ a' c' h' F',(∀ {T:Type} (K:V->Heap->Option T),CJ lo 29 2 16 (.sl 2 (some (h.length,0)) 0 (some 0)) (l.map Tag.cs) (h ++ [.rows 2 29 false []]) K=K (.sl 2 a' l.length c') h') /\
  RTags false h' [.sl 2 a' l.length c'] l F'/\Mv h [] h' F':=by
 have h0:RTags false (h ++ [.rows 2 (Yk false) false []]) [.sl 2 (some (h.length,0)) 0 (some 0)] [] [h.length]:=Sli.fresh (YH _);by_cases he:l = []
 ·subst he;exact ⟨some (h.length,0),some 0,_,_,λK=>rfl,h0,Mv.last⟩
 ·obtain ⟨a',c',h',F',p1,p2,p3,p4,p5,p6⟩:=Sli.push (lo:=lo) (bytes:=16) Ps h0 (xs:=l.map Tag.cs) (ys:=l) (Gs:=l.map λ_ => []) EAll.flat (by decide) (by simp;omega) (by simp;omega) (by simp;omega) (by rw[Mq];simp) (by rw[Mq];simp) he;simp only[ZW,Zf,Y9] at p1 p2;refine ⟨a',c',h',F',p1,p2,by simp at p3;omega,λb hb _=>?_,p6,λb hb=>?_⟩
  ·rw[p4 b (by simp;omega) (by simp;omega),YI hb]
  ·simp at p3;rcases p5 b hb with h1 | h1
   ·rw[Mq] at h1;simp at h1;exact .inr (by omega)
   ·simp at h1;exact .inr (by omega)
theorem BW {v:Ver} (hs:RTags false h [.sl 2 a v.past.length c] v.past F) (hl:lo<=h.length) (hn:v.past.length<=1048576) :
  ∃ a' c' h' F',Ae lo 61 [.agg (v.cs a c)] h=some (.agg (v.cs a' c'),h')/\RTags false h' [.sl 2 a' v.past.length c'] v.past F'/\Mv h [] h' F':=by
 obtain ⟨a',c',h',F',e,r⟩:=Gp (l:=v.past) hl hn;refine ⟨a',c',h',F',NM ?_,r⟩;rw[RTags.rows (Mv.snoc.keep0 rtags_ok hs),e,Ah]
theorem SB (hs:RTags false h [.sl 2 a l.length c] l F) (hl:lo<=h.length) (hn:l.length<=1048576) :
  ∃ v h' F',Ae lo 76 [.sl 2 a l.length c] h=some (v,h')/\RTags false h' [v] l F'/\Mv h [] h' F':=by
 cases a with
 | none =>obtain ⟨R1,a1,c1,e1,g⟩:=hs;injection e1 with e1 _;injection e1 with e0 e2 _ e3;subst e2;subst e3;obtain ⟨rfl,_,_⟩:=g;exact ⟨_,h,[],CE (by rw[show (none:Pq).isNone=true from rfl,Ao]),Sli.nil,Mv.nil⟩
 | some p =>obtain ⟨a',c',h',F',e,r⟩:=Gp (l:=l) hl hn;refine ⟨_,h',F',CE ?_,r⟩;rw[show (some p).isNone=false from rfl,Au,RTags.rows (Mv.snoc.keep0 rtags_ok hs),e,Ah]
theorem Gk (hs:RTags false h [.sl 2 a l.length c] l F) (hl:lo<=h.length) (hn:l.length<=1048576) :
  ∃ a' c' h' F',Ae lo 64 [.agg [.sl 2 a l.length c]] h=some (.agg [.sl 2 a' l.length c'],h')/\RTags false h' [.sl 2 a' l.length c'] l F'/\Mv h [] h' F':=by
 obtain ⟨v,h',F',e,r,m⟩:=SB hs hl hn;obtain ⟨a',c',es,r2⟩:=r.form;refine ⟨a',_,h',F',II ?_,r2.clip,m⟩;rw[e];simp only[Ac,es];rw[Eb (r:=(.sl 2 a' l.length (some l.length),h')) (by rw[IZ r2])];simp only[Ac,Ah]
theorem OP {l:List Ver}{e0:Pq}{h0:Heap}{n0:Nq}{F0:List Nat}{T:Type} (L:Nat->Pq->Nat->Nq->Heap->Option T) (hs:RVers false h [.sl 6 a l.length c] l F) (hl:lo<=h.length) (hn:Ei l)
  (m0:Mv h [] h0 F0) (h1:RVers false h0 [.sl 6 e0 0 n0] [] F0)
  (step:∀ i (hi:i<l.length) s a2 c2 a1 n1 c1 hh,(i=0->a1=e0/\c1=n0)->(∀ o,a=some o->ld hh o.1 (o.2+i) 0 6=some [Iv l[i].key,Iv l[i].tag.time,Iv l[i].tag.place,s,.str l[i].text,.bool l[i].gone])->(∃ o,a=some o) ->
   (∀ {R':Type} (K:Pq->Nat->Nq->Option R'),eS 2 s K=K a2 l[i].past.length c2)->(∃ G,RTags false hh [.sl 2 a2 l[i].past.length c2] l[i].past G)->lo<=hh.length ->
   ∃ a3 c3 h3 F3,RTags false h3 [.sl 2 a3 l[i].past.length c3] l[i].past F3/\Mv hh [] h3 F3 /\
    L i a1 n1 c1 hh=CJ lo 105 6 72 (.sl 6 a1 n1 c1) [l[i].cs a3 c3] (h3 ++ [.rows 6 105 false [l[i].cs a3 c3]]) λv h=>eS 6 v λa n c=>L (i+1) a n c h) :
  ∃ a' c' h' F',L 0 e0 0 n0 h0=L l.length a' l.length c' h'/\RVers false h' [.sl 6 a' l.length c'] l F'/\Mv h [] h' F':=by
 have hn1:=hn.1;obtain ⟨a',c',h',F',e,r,m⟩:=MM (El:=RVer false) rver_ok (h0:=h0) (l:=l) (g:=λ_ v=>some (id v)) (lo:=lo) (R:=6) (e:=SR false) (bytes:=72) (b0 := []) (F0:=F0) (a0:=e0) (c0:=n0)
  (YD hl m0.le) (m0.ge hl (by simp)) m0.nd (by decide) (by simp;omega) L (λi hi a1 c1 hh F1 acc hz hacc hm hr=>by
   have hm':Mv h [] hh []:=(m0.trans hm).drop;obtain ⟨o,s,a2,c2,G,ho,hld,es,hp,_⟩:=(hm'.keep0 rvers_ok hs).get hi;obtain ⟨a3,c3,h3,F3,r3,m3,e3⟩:=step i hi s a2 c2 a1 acc.length c1 hh hz (λo' ho'=>by rw[ho] at ho';injection ho' with ho';subst ho';exact hld) ⟨o,ho⟩ es ⟨G,hp⟩ (YD hl hm'.le);exact .inr ⟨l[i],l[i].cs a3 c3,F3,_,rfl,⟨_,rfl,Mv.snoc.keep0 rtags_ok r3⟩,m3.trans (Mv.snoc' m3.nd),e3⟩) h1
 rw[Mm,List.map_id,Y9] at e r;exact ⟨a',c',h',F',e,r,m0.trans m⟩
theorem Kr {l:List Ver} (hs:RVers false h [.sl 6 a l.length c] l F) (hl:lo<=h.length) (hn:Ei l) :
  ∃ a' c' h' F',Ae lo 69 [.sl 6 a l.length c] h=some (.sl 6 a' l.length c',h')/\RVers false h' [.sl 6 a' l.length c'] l F'/\Mv h [] h' F':=by
 have hn1:=hn.1;obtain ⟨a',c',h',F',e,r,m⟩:=OP (e0:=some (h.length,0)) (n0:=some 0) (h0:=h ++ [.rows 6 (SR false) false []])
  (λi a1 n1 c1 hh=>B8 lo a l.length c a1 n1 c1 (i:Nat) hh) hs hl hn Mv.last (Sli.fresh (by simp)) (λi hi s a2 c2 a1 n1 c1 hh hz hld ho es hp hlo=>by
   obtain ⟨o,rfl⟩:=ho;obtain ⟨G,hp⟩:=hp;obtain ⟨a3,c3,h3,F3,e3,r3,m3⟩:=BW (lo:=lo) (v:=l[i]) hp hlo (hn.2 _ (YJ hi)).1;refine ⟨a3,c3,h3,F3,r3,m3,?_⟩;rw[B8.e,Aj (by omega),Ad hi];simp only[Ag,BA,hld o rfl,Ab,Aa,es,Dg,Bk,Ai];rw[e3];simp only[Ac,A3,Ab,Aa,Ah,Dg,Bk,Ai,Bv,As (show i<9223372036854775807 by omega)])
 refine ⟨a',c',h',F',Nz ?_,r,m⟩;refine e.trans ?_;rw[B8.e,Ak (by omega)]
theorem Gc {l:List Ver} (hs:RVers false h [.sl 6 a l.length c] l F) (hl:lo<=h.length) (hn:Ei l) :
  ∃ v h' F',Ae lo 79 [.agg [.sl 6 a l.length c]] h=some (.agg [v],h')/\RVers false h' [v] l F'/\Mv h [] h' F':=by
 have hn1:=hn.1;by_cases he:l = []
 ·subst he;exact ⟨_,h,[],FF (by rw[A5.e,Ak (by simp)]),Sli.nil,Mv.nil⟩
 have hpos:0<l.length:=List.length_pos_iff.2 he;obtain ⟨a',c',h',F',e,r,m⟩:=OP (e0:=none) (n0:=some 0) (h0:=h)
  (λi a1 n1 c1 hh=>A5 lo (i:Nat) a l.length c 0 none 0 (some 0) (if i=0 then 0 else 6) a1 n1 c1 hh) hs hl hn Mv.nil Sli.nil (λi hi s a2 c2 a1 n1 c1 hh hz hld ho es hp hlo=>by
   obtain ⟨o,rfl⟩:=ho;obtain ⟨G,hp⟩:=hp;obtain ⟨a3,c3,h3,F3,e3,r3,m3⟩:=BW (lo:=lo) (v:=l[i]) hp hlo (hn.2 _ (YJ hi)).1;refine ⟨a3,c3,h3,F3,r3,m3,?_⟩;rw[A5.e,Aj (by omega),Ad hi];simp only[Ag,BA,hld o rfl,Ab,Aa,es,Dg,Bk,Ai];rw[e3];simp only[Ac,A3,Ab,Aa,Ah,Dg,Bk,Ai,Bv,As (show i<9223372036854775807 by omega),if_neg (Nat.succ_ne_zero i)];by_cases h0:i=0
   ·obtain ⟨rfl,rfl⟩:=hz h0;rw[XD]
   ·rw[if_neg h0])
 refine ⟨_,h',F',FF ?_,r,m⟩;refine e.trans ?_;rw[if_neg (by omega),A5.e,Ak (by omega)]
theorem Qt {l:List Node} (hs:RNodes false h [.sl 2 a l.length c] l F) (hl:lo<=h.length) (hn:FH l) :
  ∃ v h' F',Ae lo 68 [.agg [.sl 2 a l.length c]] h=some (.agg [v],h')/\RNodes false h' [v] l F'/\Mv h [] h' F':=by
 have hn1:=hn.1;obtain ⟨q,a',c',h',F',e,r,m⟩:=Cq (El:=RNode false) rnode_ok (h:=h) (l:=l) (f:=id) (lo:=lo) (R:=2) (e:=126) (bytes:=48) hl (by decide) (by omega)
  (λi q a1 n1 c1 hh=>Cc lo (i:Nat) a l.length c 0 none 0 (some 0) q a1 n1 c1 hh) (λi hi q a1 n1 c1 hh hm=>by
   obtain ⟨o,s1,s2,b1,d1,b2,d2,G1,G2,ha,_,ho1,ho2,e1,e2,p1,p2,_⟩:=(hm.keep0 rnodes_ok hs).get hi;have hsm:=hn.2 _ (YJ hi);have hw1:=hsm.2.1;obtain ⟨v3,h3,F3,e3,r3,m3⟩:=Gc (lo:=lo) p1 (YD hl hm.le) hsm.1;obtain ⟨a3,c3,es3,r3'⟩:=r3.form;have p2':=m3.keep0 rvers_ok p2;obtain ⟨q4,a4,c4,h4,F4,e4,r4,m4⟩:=Cq (El:=RVer false) rver_ok (h:=h3) (l:=l[i].wait) (f:=id) (lo:=lo) (R:=6) (e:=105) (bytes:=72) (YD hl (YD hm.le m3.le)) (by decide) (by omega)
    (λj q5 a5 n5 c5 hh=>Cb lo (i:Nat) (j:Nat) a l.length c 0 none 0 (some 0) q a1 n1 c1 a3 l[i].store.length c3 q5 a5 n5 c5 hh) (λj hj q5 a5 n5 c5 hh2 hm2=>by
     obtain ⟨o',s1',s2',b1',d1',b2',d2',G1',G2',ha',_,_,ho2',_,e2',_,p2',_⟩:=(hm2.keep0 rnodes_ok (m3.keep0 rnodes_ok (hm.keep0 rnodes_ok hs))).get hi;obtain ⟨o'',s,b,d,G,hb,hld,es,hp,_⟩:=p2'.get hj;obtain ⟨a6,c6,h6,F6,e6,r6,m6⟩:=BW (lo:=lo) (v:=l[i].wait[j]) hp (YD hl (YD hm.le (YD m3.le hm2.le))) (hsm.2.2 _ (YJ hj)).1;refine ⟨l[i].wait[j].cs a6 c6,F6,h6 ++ [.rows 6 105 false [l[i].wait[j].cs a6 c6]],⟨_,rfl,Mv.snoc.keep0 rtags_ok r6⟩,m6.trans (Mv.snoc' m6.nd),?_⟩;rw[Cb.e,Ad hi,ha',Ag];simp only[BA,ho2',Ag,Ab,Ai,e2'];rw[Aj (by omega),Ad hi];simp only[hb,Ad hj,Ag,BA,hld,Ab,Aa,es,Dg,Bk,Ai];rw[e6];simp only[Ac,A3,Ab,Aa,Ah,Dg,Bk,Ai,Bv,As (show j<9223372036854775807 by omega)])
   rw[List.map_id] at r4;have m34:=m3.join m4 (rvers_ok.bd _ _ _ _ r3');obtain ⟨o',s1',s2',b1',d1',b2',d2',G1',G2',ha',_,_,ho2',_,e2',_,_,_⟩:=(m4.keep0 rnodes_ok (m3.keep0 rnodes_ok (hm.keep0 rnodes_ok hs))).get hi;refine ⟨[.sl 6 a3 l[i].store.length c3,.sl q4 a4 l[i].wait.length c4],F3++F4,h4 ++ [.rows 2 126 false [[.sl 6 a3 l[i].store.length c3,.sl q4 a4 l[i].wait.length c4]]],
    ⟨_,_,F3,F4,rfl,rfl,Mv.snoc.keep0 rvers_ok (m4.keep0 rvers_ok r3'),Mv.snoc.keep0 rvers_ok r4⟩,m34.trans (Mv.snoc' m34.nd),?_⟩
   rw[Cc.e,Aj (by omega),Ad hi,ha,Ag];simp only[BA,ho1,Ag,Ab,Ai,e1];rw[e3];simp only[Ac,A3,Ab,Ai,es3];rw[<- ha];refine e4.trans ?_;rw[Cb.e,Ad hi,ha',Ag];simp only[BA,ho2',Ag,Ab,Ai,e2'];rw[Ak (by omega)];simp only[Bv,As (show i<9223372036854775807 by omega)])
 rw[List.map_id] at r;refine ⟨_,h',F',NK ?_,r,m⟩;refine e.trans ?_;rw[Cc.e,Ak (by omega)]
theorem Qo {p:Place}{a1 a2 a3:Pq}{c1 c2 c3:Nq}{F1 F2 F3:List Nat} (hs1:RNodes false h [.sl 2 a1 p.chain.length c1] p.chain F1) (hs2:RVers false h [.sl 6 a2 p.log.length c2] p.log F2)
  (hs3:RVss false h [.sl 1 a3 p.got.length c3] p.got F3) (hl:lo<=h.length) (hn:GF p) :
  ∃ vs h' F',Ae lo 60 [.agg (p.cs a1 c1 a2 c2 a3 c3)] h=some (.agg vs,h')/\RPlace false h' vs p F'/\Mv h [] h' F':=by
 have hn1:=hn.2.2.1;obtain ⟨v1,h1,G1,e1,r1,m1⟩:=Qt (lo:=h.length) hs1 (YH _) hn.1;obtain ⟨b1,d1,es1,r1⟩:=r1.form;obtain ⟨b2,d2,h2,G2,e2,r2,m2⟩:=Kr (lo:=h1.length) (m1.keep0 rvers_ok hs2) (YH _) hn.2.1;have m12:=m1.join m2 (rnodes_ok.bd _ _ _ _ r1);have r1':=m2.keep0 rnodes_ok r1;have hs3':=m2.keep0 rvss_ok (m1.keep0 rvss_ok hs3);obtain ⟨q,b3,d3,h',F',e,r,m⟩:=Cq (El:=RVers false) rvers_ok (h:=h2) (l:=p.got) (f:=id) (lo:=lo) (R:=1) (e:=97) (bytes:=24) (YD hl m12.le) (by decide) (by omega)
  (λi q a n c hh=>B9 lo (i:Nat) p.me p.clock a1 p.chain.length c1 a2 p.log.length c2 a3 p.got.length c3 p.fell 0 0 0 none 0 (some 0) 0 none 0 (some 0) 0 none 0 (some 0) false p.me p.clock b1 p.chain.length d1 b2 p.log.length d2 q a n c p.fell hh) (λi hi q x n y hh hm=>by
   obtain ⟨o,s,b,d,G,ha,ho,es,hp,_⟩:=(hm.keep0 rvss_ok hs3').get hi;obtain ⟨a5,c5,h5,F5,e5,r5,m5⟩:=Kr (lo:=lo) hp (YD hl (YD m12.le hm.le)) (hn.2.2.2 _ (YJ hi));refine ⟨[.sl 6 a5 p.got[i].length c5],F5,h5 ++ [.rows 1 97 false [[.sl 6 a5 p.got[i].length c5]]],Mv.snoc.keep0 rvers_ok r5,m5.trans (Mv.snoc' m5.nd),?_⟩;rw[B9.e,Aj (by omega),Ad hi];simp only[ha,Ag,BA,ho,Ab,es,Ai];rw[e5];simp only[Ac,Ah,Bv,As (show i<9223372036854775807 by omega)])
 rw[List.map_id] at r;have m3:=m12.join m (λb hb=>by
   rw[YF] at hb;exact hb.elim (rnodes_ok.bd _ _ _ _ r1' b) (rvers_ok.bd _ _ _ _ r2 b))
 rw[YV] at m3;refine ⟨_,h',G1++(G2++F'),NE ?_,⟨_,_,_,G1,G2,F',rfl,rfl,m.keep0 rnodes_ok r1',m.keep0 rvers_ok r2,r⟩,m3⟩;rw[e1];simp only[Ac,A3,Ab,es1,Ai];rw[e2];simp only[Ac,Ah];refine e.trans ?_;rw[B9.e,Ak (by omega)]
end


variable {l:List Ver}
def O3 (v u:Ver):Bool:=v.key==u.key&&(v.tag.time==u.tag.time&&v.tag.place==u.tag.place)&&decide (v.past=u.past)&&(v.text.toList==u.text.toList)&&(v.gone==u.gone)
def HM (v:Ver):Bool:=v.key==0&&(v.tag.time==0&&v.tag.place==0)&&decide (v.past.length=0)&&GL v.text && !v.gone
def Hh (i:Nat) (v:Ver):Bool:=HM v || (Ck v&&v.key==i)
def BF (l:List Ver):Bool:=(l.zipIdx.all λx=>Hh x.2 x.1)&&decide (l.length=4)
theorem Cl (h:BF l=true):l.length=4:=by simp only[BF,Cz,decide_eq_true_eq] at h;exact h.2
theorem DI (h:BF l=true) {i:Nat} (hi:i<l.length):Hh i l[i]=true:=by simp only[BF,Cz,YR] at h;have:=h.1 (l[i],i) (by rw[ZG];simp[hi]);exact this
theorem RM {v:Ver} (h:Ck v=true):0<v.tag.time:=by simp only[Ck,Cz,decide_eq_true_eq] at h;exact (latest_lt.1 h.2).1
section
variable {lo:Nat}{ro ro':Bool}{h:Heap}{F F':List Nat}{a a':Pq}{c c':Nq}
theorem RVers.all {n:Nat}{i:Nat} (hs:RVers ro h [.sl 6 a n c] l F) (hi:i<l.length):∃ o s a' c' G,a=some o/\ld h o.1 (o.2+i) 0 1=some [Iv l[i].key]/\ld h o.1 (o.2+i) 1 1=some [Iv l[i].tag.time] /\
  ld h o.1 (o.2+i) 2 1=some [Iv l[i].tag.place]/\ld h o.1 (o.2+i) 3 1=some [s]/\ld h o.1 (o.2+i) 4 1=some [.str l[i].text]/\ld h o.1 (o.2+i) 5 1=some [.bool l[i].gone]/\ld h o.1 (o.2+i) 1 2=some [Iv l[i].tag.time,Iv l[i].tag.place] /\
  ld h o.1 (o.2+i) 0 6=some [Iv l[i].key,Iv l[i].tag.time,Iv l[i].tag.place,s,.str l[i].text,.bool l[i].gone] /\
  (∀ {R':Type} (K:Pq->Nat->Nq->Option R'),eS 2 s K=K a' l[i].past.length c')/\RTags ro h [.sl 2 a' l[i].past.length c'] l[i].past G/\(∀ b∈G,b∈F):=by
 obtain ⟨o,row,G,h1,h2,hv,hG,_⟩:=hs.read hi;obtain ⟨s,a',c',rfl,es,hp⟩:=hv.form;exact ⟨o,s,a',c',G,h1,by rw[h2];rfl,by rw[h2];rfl,by rw[h2];rfl,by rw[h2];rfl,by rw[h2];rfl,by rw[h2];rfl,by rw[h2];rfl,by rw[h2];rfl,es,hp,hG⟩
end


variable {α:Type}{El:Rel α}{l:List α}
def Cr (l:List Ver) (t:Tag):Bool:=l.any λv=>v.tag.time==t.time&&v.tag.place==t.place
section
variable {lo:Nat}{ro ro':Bool}{h:Heap}{F F':List Nat}{a a':Pq}{c c':Nq}
theorem Sli.pre {R R' e n i:Nat} (hs:Sli false R e El h [.sl R' a n c] l F) (hi:i<=l.length):∃ F',Sli false R e El h [.sl R' a i c] (l.take i) F':=by
 have hn:=hs.val;subst hn;obtain ⟨R1,a1,c1,e1,g⟩:=hs;injection e1 with e1 _;injection e1 with e0 e2 _ e3;subst e0;subst e2;subst e3;have hl:(l.take i).length=i:=by simp;omega
 cases a with
 | none =>obtain ⟨rfl,h2,_⟩:=g;exact ⟨[],R',none,c,by rw[hl],by simp,h2,rfl⟩
 | some p =>
  obtain ⟨b,j⟩:=p;obtain ⟨hR,rs,Fs,g1,g2,g3,g4,g5,rfl⟩:=g;refine ⟨b ::(Fs.take i).flatten,R',some (b,j),c,by rw[hl],hR,rs,Fs.take i,g1,by rw[hl];omega,λk hk=>?_,g4,?_,rfl⟩
  ·have:=g3 k hk;rw[hl];omega
  ·rw[hl];have:=g5.take i;rw[List.take_take,Nat.min_eq_left hi] at this;exact this
theorem Ky {R R' e n i:Nat} (hs:Sli false R e El h [.sl R' a n c] l F) (hi:i<=l.length) {T:Type}{K:Pq->Nat->Nq->Option T} :
  Ay a n c none (some (Iv (i:Nat))) none K=K a i c:=by
 have hn:=hs.val;subst hn;obtain ⟨R1,a',c',h1,h2⟩:=hs;injection h1 with h1 _;injection h1 with e0 e1 e2 e3;subst e0;subst e1;subst e3;have hc:∀ k,c=some k->l.length<=k:=λk hk=>by
  cases a with
  | none=>obtain ⟨rfl,_⟩:=h2;simp
  | some p=>obtain ⟨b,i⟩:=p;obtain ⟨_,_,_,_,_,g3,_⟩:=h2;exact (g3 k hk).1
 unfold Ay E8 Ic IX;cases c with
 | none=>simp only[Aa,BA];rw[DA ⟨by omega,by omega⟩]
 | some k=>have:=hc k rfl;simp only[Aa,BA];rw[DA ⟨by omega,by omega⟩]
def VB (place:Int) (l:List Ver) (i:Nat) (v:Ver):Bool:=Ck v&&(v.tag.place==place) && !Cr (l.take i) v.tag
def Fi (place:Int) (l:List Ver):Bool:=(l.zipIdx.all λx=>VB place l x.2 x.1)&&decide ((l.length:Int)<=60)
end


variable {l:List Node}
def Bc (l:List Ver):List Tag:=l.map λv=>v.tag
section
variable {lo:Nat}{ro ro':Bool}{h:Heap}{F F':List Nat}{a a':Pq}{c c':Nq}
theorem Kv {l:List Ver} (hs:RVers ro h [.sl 6 a l.length c] l F) (hl:lo<=h.length) (hn:l.length<=1048576) :
  ∃ v h' F',Ae lo 104 [.agg [.sl 6 a l.length c]] h=some (.agg [v],h')/\RTags false h' [v] (Bc l) F'/\Mv h [] h' F':=by
 obtain ⟨q,a',c',h',F',e,r,m⟩:=Cq (El:=flat Tag.cs) Cj (h:=h) (l:=l) (f:=λv=>v.tag) (lo:=lo) (R:=2) (e:=29) (bytes:=16) hl (by decide) (by omega)
  (λi q a1 n1 c1 hh=>Cd lo (i:Nat) a l.length c 0 none 0 (some 0) q a1 n1 c1 hh) (λi hi q a1 n1 c1 hh hm=>by
   obtain ⟨o,s,b,d,G,ha,_,_,_,_,_,_,ho12,_⟩:=(hm.keep0 rvers_ok hs).all hi;refine ⟨[Iv l[i].tag.time,Iv l[i].tag.place],[],hh ++ [.rows 2 29 false [[Iv l[i].tag.time,Iv l[i].tag.place]]],⟨rfl,rfl⟩,Mv.snoc,?_⟩;rw[Cd.e,Aj (by omega),Ad hi];simp only[ha,Ag,BA,ho12,Ab,Aa,Ai,Bv,As (show i<9223372036854775807 by omega)])
 refine ⟨_,h',F',NL ?_,r,m⟩;refine e.trans ?_;rw[Cd.e,Ak (by omega)]
def Bq (l:List Node):List Tag:=match l.getLast? with | some x=>Bc x.store | none => []
theorem Jb (h0:0<l.length):Bq l=Bc (l[l.length - 1]'(by omega)).store:=by unfold Bq;rw[List.getLast?_eq_getElem?,CF (by omega)]
theorem Ik (hs:RNodes ro h [.sl 2 a l.length c] l F) (hl:lo<=h.length) (hn:FH l) (h0:0<l.length) :
  ∃ v h' F',Ae lo 110 [.agg [.sl 2 a l.length c]] h=some (.agg [v],h')/\RTags false h' [v] (Bq l) F'/\Mv h [] h' F':=by
 have hn1:=hn.1;obtain ⟨o,s1,s2,a1,c1,a2,c2,F1,F2,ha,_,ho1,_,e1,_,p1,_⟩:=hs.get (show l.length - 1<l.length by omega);obtain ⟨v,h',F',e,r,m⟩:=Kv (lo:=lo) p1 hl (hn.2 _ (YJ _)).1.1;obtain ⟨a',c',es,r'⟩:=r.form;rw[Jb h0];refine ⟨_,h',F',KW ?_,r',m⟩;rw[wr (by omega) (by omega),DZ ⟨by omega,by omega⟩,ha,Ag,show ((l.length:Int) - 1).toNat=l.length - 1 by omega,ho1];simp only[Ag,Ab,Ai,e1];rw[e];simp only[Ac,A3,Ab,es,Ai]
end


variable {s:ByteArray}
abbrev tx (l:List UInt8):ByteArray:=⟨⟨l⟩⟩
theorem U6 (s:ByteArray):tx s.data.toList=s:=rfl
theorem BC {v:Ver} (h:Ck v=true):(0<=v.key/\v.key<=3)/\E4 v.text=true/\(v.gone=true->v.text.size=0)/\BE v.past=true/\Bu v.tag.time v.tag.place=true/\Df v.past<v.tag.time:=by
 simp only[Ck,Lk,Af,Cz,decide_eq_true_eq,Ze,Zp,GL] at h;obtain ⟨⟨⟨⟨⟨⟨h1,h2⟩,h3⟩,h4⟩,h5⟩,h6⟩,h7⟩:=h;refine ⟨⟨h1,h2⟩,h3,λhg=>?_,h5,h6,h7⟩;rcases h4 with h4 | h4
 ·rw[hg] at h4;cases h4
 ·exact h4
theorem OS {t:ByteArray} (h:s.data.toList=t.data.toList):s=t:=by rw[<- U6 s,<- U6 t,h]
theorem UX (h:s.size=0):s.data.toList = []:=YM (by simpa using h)
theorem same_iff {v u:Ver}:O3 v u=true<->v=u:=by
 cases v with | mk k1 t1 p1 s1 g1=>cases u with | mk k2 t2 p2 s2 g2 =>
 cases t1;cases t2;simp only[O3,Cz,beq_iff_eq,decide_eq_true_eq,Ver.mk.injEq,Tag.mk.injEq];constructor
 ·rintro ⟨⟨⟨⟨h1,h2⟩,h3⟩,h4⟩,h5⟩
  exact ⟨h1,h2,h3,OS (by rwa [Z4,Z4] at h4),h5⟩
 ·rintro ⟨h1,h2,h3,h4,h5⟩
  exact ⟨⟨⟨⟨h1,h2⟩,h3⟩,by rw[h4]⟩,h5⟩
section
variable {lo:Nat}{ro ro':Bool}{h:Heap}{F F':List Nat}{a a':Pq}{c c':Nq}
theorem DH (h:E4 s=true):s.size<=8:=by simp only[E4,Cz,decide_eq_true_eq] at h;omega
end


variable {l:List Ver}{v:Ver}
theorem Sli.at {α:Type}{El:Rel α} (ok:El.Ok) {h:Heap}{R R' e n k lo:Nat}{a:Pq}{c:Nq}{l:List α}{F:List Nat} (hs:Sli false R e El h [.sl R' a n c] l F) (hk:k<l.length) (hnd:F.Nodup) (hlo:∀ b∈F,lo<=b) :
  ∃ b i rs row G,a=some (b,i)/\b∈F/\b∉G/\h[b]?=some (.rows R e false rs)/\rs[i+k]?=some row/\El h row l[k] G/\(∀ y∈G,y∈F)/\G.Nodup /\
   (∀ h' x' G',Mv h G h' G'->El h' row x' G'->∃ F',Sli false R e El h' [.sl R' a n c] (l.set k x') F'/\Mv h F h' F') /\
   (∀ h1 G1 j cs row' x',Mv h G h1 G1->paste row j cs=some row'->El h1 row' x' G1 ->
    ∃ h2 F',st lo h1 b (i+k) j cs=some h2/\Sli false R e El h2 [.sl R' a n c] (l.set k x') F'/\Mv h F h2 F'/\h2[b]?=some (.rows R e false (rs.set (i+k) row'))/\(∀ y,y≠b->h2[y]?=h1[y]?)/\h2.length=h1.length):=by
 have hbd:=(Sli.ok ok).bd _ _ _ _ hs;obtain ⟨b,i,rs,row,G,ha,hbF,hbG,hb,hrow,hel,hGF,hGn,put⟩:=hs.put ok.fr hk hnd;have hblt:b<h.length:=hbd b hbF;refine ⟨b,i,rs,row,G,ha,hbF,hbG,hb,hrow,hel,hGF,hGn,λh' x' G' m hx=>?_,λh1 G1 j cs row' x' m hp hx=>?_⟩
 ·obtain ⟨F',p1,p2,p3,_⟩:=put h' row x' G' (by rw[set_same hrow,m.fr b hblt hbG];exact hb) (λy hy _ hyG=>m.fr y (hbd y hy) hyG) hx m.nd (λy hy hyF=>by
   rcases m.sub y hy with h1 | h1
   ·exact h1
   ·have:=hbd y hyF;omega)
  refine ⟨F',p1,m.le,λy hy hyF=>m.fr y hy λhg=>hyF (hGF y hg),p3,λy hy=>?_⟩;rcases p2 y hy with h1 | h1
  ·exact .inl h1.1
  ·exact (m.sub y h1).imp (hGF y) id
 ·have hbG1:b∉G1:=λhm=>by
   rcases m.sub b hm with h1 | h1
   ·exact hbG h1
   ·omega
  have hb1:h1[b]?=some (.rows R e false rs):=by rw[m.fr b hblt hbG];exact hb
  have hb1lt:b<h1.length:=YT hblt m.le;have e2:=DQ hb1 (hlo b hbF) hrow hp;have fr2:∀ y,y≠b->(h1.set b (.rows R e false (rs.set (i+k) row')))[y]?=h1[y]?:=λy hy=>YG (Ne.symm hy);obtain ⟨F',p1,p2,p3,_⟩:=put (h1.set b (.rows R e false (rs.set (i+k) row'))) row' x' G1 (by simp[hb1lt]) (λy hy hyb hyG=>by rw[fr2 y hyb];exact m.fr y (hbd y hy) hyG)
   (ok.fr _ _ _ _ _ hx λy hy=>fr2 y λe=>hbG1 (e ▸ hy)) m.nd (λy hy hyF=>by
   rcases m.sub y hy with h1 | h1
   ·exact h1
   ·have:=hbd y hyF;omega)
  refine ⟨_,F',e2,p1,⟨by simpa using m.le,λy hy hyF=>?_,p3,λy hy=>?_⟩,by simp[hb1lt],fr2,by simp⟩
  ·rw[fr2 y λe=>hyF (e ▸ hbF)];exact m.fr y hy λhg=>hyF (hGF y hg)
  ·rcases p2 y hy with h1 | h1
   ·exact .inl h1.1
   ·refine (m.sub y h1).imp (hGF y) λh=>by simpa using h
def AZ (v u:Ver):Bool:=Bx v.tag.time v.tag.place u.tag.time u.tag.place
def LS (s t:List Ver):Bool:=decide (s.length=t.length)&&(s.zip t).all λx=>O3 x.1 x.2
theorem O2 {s t:List Ver}:LS s t=true<->s=t:=by
 unfold LS;rw[Cz,decide_eq_true_eq,YR];constructor
 ·rintro ⟨hl,hx⟩
  apply List.ext_getElem hl;intro i h1 h2;have:=hx (s[i],t[i]) (by rw[Zt];exact ⟨i,by simp;omega,by simp⟩);exact same_iff.1 this
 ·rintro rfl
  refine ⟨rfl,λx hx=>?_⟩;obtain ⟨i,hi,rfl⟩:=Zt.1 hx;simp[same_iff]
def Ea (l:List Ver) (v:Ver):List Ver:=match l[v.key.toNat]? with
 | some x=>bif AZ x v then l.set v.key.toNat v else l
 | none=>l
theorem MN (h:v.key.toNat<l.length):Ea l v=bif AZ l[v.key.toNat] v then l.set v.key.toNat v else l:=by unfold Ea;rw[CF h]
theorem S8:(Ea l v).length=l.length:=by
 unfold Ea;split
 ·cases AZ _ v<;>simp
 ·rfl
theorem U4 (h:Ck v=true):Hh v.key.toNat v=true:=by have:=(BC h).1;unfold Hh;rw[h,show (v.key==((v.key.toNat:Nat):Int))=true by rw[beq_iff_eq];omega];simp
theorem Qh (hl:BF l=true) (hv:Ck v=true):BF (l.set v.key.toNat v)=true:=by
 have h4:=Cl hl;unfold BF;rw[Cz,YR,decide_eq_true_eq];refine ⟨λx hx=>?_,by simpa using h4⟩;rw[ZG] at hx;have hi:=(DB hx).1;rw[List.getElem?_set] at hx;split at hx
 ·rename_i he
  split at hx
  ·injection hx with hx;rw[<- hx,<- he];exact U4 hv
  ·cases hx
 ·rw[CF (by simpa using hi)] at hx;injection hx with hx;rw[<- hx];exact DI hl _
def DM:List Ver->List Ver->Option (List Ver)
 | s,[]=>some s
 | s,v :: r=>match s[v.key.toNat]? with
  | some x=>bif AZ x v then DM (s.set v.key.toNat v) r else none
  | none=>none
def fits (x:Node) (next:List Ver):Bool:=match DM next x.wait with
 | some s=>LS s x.store
 | none=>false
def Do (x:Node):Bool:=BF x.store&&decide ((x.wait.length:Int)<=6)&&x.wait.all Ck
def Iy (l:List Node) (k:Nat) (x:Node):Bool:=match l[k+1]? with
 | some y=>fits x y.store
 | none=>decide (x.wait.length=0)
def D7 (l:List Node):Bool:=Af l.length 1 4&&l.all Do&&l.zipIdx.all λx=>Iy l x.2 x.1
theorem Bw {x:Node} (h:Do x=true):BF x.store=true/\x.wait.length<=6/\∀ v∈x.wait,Ck v=true:=by simp only[Do,Cz,decide_eq_true_eq,YR] at h;exact ⟨h.1.1,by have:=h.1.2;omega,h.2⟩
section
variable {lo:Nat}{h:Heap}{F F':List Nat}{a a':Pq}{c c':Nq}
theorem R3 {av:Pq}{cv:Nq}{G:List Nat} (hs:RVers false h [.sl 6 a l.length c] l F) (hv:RTags false h [.sl 2 av v.past.length cv] v.past G)
  (hnd:F.Nodup) (hlo:∀ b∈F,lo<=b) (hl:lo<=h.length) (hk:0<=v.key/\v.key<l.length) (hn:v.past.length<=1048576) :
  ∃ h' F',Ae lo 113 [.agg [.sl 6 a l.length c],.agg (v.cs av cv)] h=some (.agg [.sl 6 a l.length c],h')/\RVers false h' [.sl 6 a l.length c] (Ea l v) F'/\Mv h F h' F':=by
 have hkl:v.key.toNat<l.length:=by omega
 obtain ⟨o,s,b,d,G1,ha,_,_,_,_,_,_,ho12,_⟩:=hs.all hkl;suffices hk:∃ h' F',_=some (V.agg [.sl 6 a l.length c],h')/\RVers false h' [.sl 6 a l.length c] (Ea l v) F'/\Mv h F h' F' from hk.imp λh' hk=>hk.imp λF' hk=>⟨P3 hk.1,hk.2⟩
 rw[DZ ⟨by omega,by omega⟩];simp only[ha,Ag,ho12,Ab,Aa,Ai,Bd,Ac,AC];rw[MN hkl];show ∃ h' F',br (AZ l[v.key.toNat] v) _ _=_/\_;cases hle:AZ l[v.key.toNat] v with
 | false=>exact ⟨h,F,rfl,by rw[<- ha];exact hs,Mv.refl hnd⟩
 | true =>
  obtain ⟨b2,i2,rs,row,G2,ha2,hb2,hbG2,hbb,hrow,hel,hGF,hGn,_,wr⟩:=hs.at rver_ok hkl hnd hlo;obtain ⟨a3,c3,h3,F3,e3,r3,m3⟩:=BW (lo:=lo) (v:=v) hv hl hn;have hab:o=(b2,i2):=by rw[ha] at ha2;injection ha2
  subst hab;obtain ⟨h4,F4,e4,r4,m4,_⟩:=wr h3 F3 0 (v.cs a3 c3) (v.cs a3 c3) v (m3.wide (by simp)) (HS (by obtain ⟨s,rfl,_⟩:=hel;rfl)) ⟨_,rfl,r3⟩;rw[Ao,e3];simp only[Ac,A3,Ab,Aa,Ah,Dg,Bk,Ai];rw[DZ ⟨by omega,by omega⟩,e4];exact ⟨h4,F4,rfl,by rw[<- ha];exact r4,m4⟩
end


variable {l:List Ver}{v:Ver}
theorem Sli.row {α:Type}{El:Rel α} (hfr:El.Fr) {R R' e n k lo b i:Nat} (hln:El.Ln R) {h:Heap}{c:Nq}{l:List α}{G Gx:List Nat}{row:List V}{x:α} (hs:Sli false R e El h [.sl R' (some (b,i)) n c] l (b :: G)) (hb:b∉G) (hk:k<l.length) (hlo:lo<=b)
  (hx:El h row x Gx) (hbx:b∉Gx):∃ h' G',st lo h b (i+k) 0 row=some h'/\Sli false R e El h' [.sl R' (some (b,i)) n c] (l.set k x) (b :: G')/\b∉G'/\h'.length=h.length/\∀ y,y≠b->h'[y]?=h[y]?:=by
 have hn:=hs.val;subst hn;obtain ⟨R1,a1,c1,e1,e2⟩:=hs;injection e1 with e1 _;injection e1 with e0 e3 _ e4;subst e0;subst e3;subst e4;obtain ⟨hR,rs,Fs,g1,g2,g3,g4,g5,g6⟩:=e2;injection g6 with _ g6;subst g6;obtain ⟨row0,G0,k1,k2,k3⟩:=g5.get (CF hk);have hblt:b<h.length:=(DB g1).1;have hrow:rs[i+k]?=some row0:=by rw[List.getElem?_take_of_lt hk,Zc] at k1;exact k1
 have hp:paste row0 0 row=some row:=HS (by rw[hln _ _ _ _ k3,hln _ _ _ _ hx]);have fr2:∀ y,y≠b->(h.set b (.rows R e false (rs.set (i+k) row)))[y]?=h[y]?:=λy hy=>YG (Ne.symm hy);have hl1:((rs.set (i+k) row).drop i).take l.length=((rs.drop i).take l.length).set k row:=by rw[List.drop_set,if_neg (by omega),show i+k - i=k by omega,List.take_set]
 refine ⟨_,(Fs.set k Gx).flatten,DQ g1 hlo hrow hp,⟨R',some (b,i),c,by simp,hR,rs.set (i+k) row,Fs.set k Gx,by simp[hblt],by simpa using g2,λq hq=>by simpa using g3 q hq,g4,?_,rfl⟩,λhm=>?_,by simp,fr2⟩
 ·rw[Zq,hl1];exact EAll.set (g5.fr hfr λy hy=>fr2 y λe=>hb (e ▸ hy)) (hfr _ _ _ _ _ hx λy hy=>fr2 y λe=>hbx (e ▸ hy))
 ·rcases EL hm with h6 | h6
  ·exact hb h6
  ·exact hbx h6
theorem OU (h:HM v=true):v=⟨0,⟨0,0⟩,[],⟨⟨[]⟩⟩,false⟩:=by obtain ⟨k,⟨t1,t2⟩,p,s,g⟩:=v;simp only[HM,GL,Cz,beq_iff_eq,decide_eq_true_eq,Zp] at h;obtain ⟨⟨⟨⟨h1,h2,h3⟩,h4⟩,h5⟩,h6⟩:=h;simp only[Ver.mk.injEq,Tag.mk.injEq];exact ⟨h1,⟨h2,h3⟩,YM h4,OS (by rw[UX h5]),h6⟩
theorem Dy {i:Nat} (h:Hh i v=true):HM v=true\/(Ck v=true/\v.key=i):=by simp only[Hh,Ze,Cz,beq_iff_eq] at h;exact h
theorem FY (h:HM v=true):v.tag.time=0/\v.tag.place=0:=by rw[OU h];exact ⟨rfl,rfl⟩
theorem R4 {l':List Ver} (h:Ei l) (hl:l'.length<=1048576) (hs:∀ v∈l',v∈l):Ei l':=⟨hl,λv hv=>h.2 v (hs v hv)⟩
theorem RS (h:BF l=true):Ei l:=by
 refine ⟨by have:=Cl h;omega,λv hv=>?_⟩;obtain ⟨i,hi,rfl⟩:=Zt.1 hv;rcases Dy (DI h hi) with h1 | ⟨h1,_⟩
 ·rw[OU h1];exact ⟨by simp,by show 0<=_;omega⟩
 ·obtain ⟨_,h2,_,h3,_⟩:=BC h1;have:=DH h2;have:=Cp h3;omega
section
variable {lo:Nat}{h:Heap}{F F':List Nat}{a a':Pq}{c c':Nq}
end


variable {l:List Node}
theorem Dh (h:D7 l=true):(1<=l.length/\l.length<=4)/\∀ x∈l,Do x=true:=by simp only[D7,Af,Cz,decide_eq_true_eq,YR] at h;exact ⟨⟨by omega,by omega⟩,h.1.2⟩
theorem PK (h:D7 l=true) {i:Nat} (hi:i<l.length):Iy l i l[i]=true:=by simp only[D7,Cz,YR] at h;exact h.2 (l[i],i) (by rw[ZG];simp[hi])
theorem FB {α:Type}{p:Nat->α->Bool}{l:List α}:(l.zipIdx.all λx=>p x.2 x.1)=true<->∀ i (hi:i<l.length),p i l[i]=true:=by
 rw[YR];constructor
 ·intro h i hi;exact h (l[i],i) (by rw[ZG];simp[hi])
 ·rintro h ⟨x,i⟩ hx
  rw[ZG] at hx;obtain ⟨hi,hx⟩:=DB hx;have:=h i hi;simp only at hx;rw[hx] at this;exact this
theorem Xt {α:Type}{p:α->Bool}{l:List α}:l.all p=true<->∀ i (hi:i<l.length),p l[i]=true:=by rw[YR];exact ⟨λh i hi=>h _ (YJ hi),λh x hx=>by obtain ⟨i,hi,rfl⟩:=Zt.1 hx;exact h i hi⟩
section
variable {lo:Nat}{h:Heap}{F F':List Nat}{a a':Pq}{c c':Nq}
end


def L1 (st:List Tag) (x:Node):Bool:=(x.store.all λv => !decide (v.tag.time>0) || BT v.past st)&&x.wait.all λv=>BT v.past st
def HC (l:List Node):Bool:=l.all (L1 (Bq l))
def Es (l:List Node) (clock:Int):Bool:=match l[0]? with
 | some x=>x.store.all λv=>decide (v.tag.time<=clock)
 | none=>false
def Mn (me:Int) (i:Nat) (l:List Ver):Bool:=Fi i l&&(!((i:Int)==me) || decide (l.length=0))
def Ar (p:Place):Bool:=Af p.me 0 2&&Af p.clock 0 999&&decide (p.got.length=3)&&D7 p.chain&&HC p.chain&&Fi p.me p.log&&(p.got.zipIdx.all λx=>Mn p.me x.2 x.1)&&Es p.chain p.clock
theorem LH {l:List Node} (h:D7 l=true):(Bq l).length=4:=by obtain ⟨h1,h2⟩:=Dh h;rw[Jb (by omega)];simp only[Bc,zaf];exact Cl (Bw (h2 _ (YJ _))).1
theorem C2 {h:Heap}{b i j n R e:Nat}{ro:Bool}{rs:List (List V)}{row:List V} (hb:h[b]?=some (.rows R e ro rs)) (hi:rs[i]?=some row):ld h b i j n=cut row j n:=by simp[ld,Heap.rows?,hb,hi]
section
variable {lo:Nat}{h:Heap}{F F':List Nat}{a a':Pq}{c c':Nq}
end


section
variable {h:Heap}
theorem XG {α:Type}{El:Rel α}{bd:α->Prop}{n t e ee R:Nat}{xs:List V} (hu:Tryz.prog.underlying t=some (.slice e)) (hR:Tryz.prog.cellsOf e=R) (hel:∀ row,TV Tryz.prog h n e row->∃ x F,El h row x F/\bd x) (hx:TV Tryz.prog h (n+1) t xs) :
  ∃ l F,Sli true R ee El h xs l F/\l.length<=maxLen/\∀ x∈l,bd x:=by
 simp only[TV,hu] at hx;obtain ⟨a,c,rs,rfl,⟨h2,_⟩,h3,h4⟩:=hx;have all:∀ rs:List (List V),(∀ row∈rs,TV Tryz.prog h n e row)->∃ l Fs,EAll El h rs l Fs/\l.length=rs.length/\∀ x∈l,bd x:=by
  intro rs;induction rs with
  | nil=>intro _;exact ⟨[],[],trivial,rfl,by simp⟩
  | cons r rs ih =>
   intro hr;obtain ⟨l,Fs,g1,g2,g3⟩:=ih λrow hrow=>hr row (by simp[hrow]);obtain ⟨x,F,g4,g5⟩:=hel r (hr r (by simp));exact ⟨x :: l,F :: Fs,⟨g4,g1⟩,by simp[g2],λy hy=>by
    rcases YW.1 hy with rfl | hy
    ·exact g5
    ·exact g3 y hy⟩
 obtain ⟨l,Fs,g1,g2,g3⟩:=all rs λrow hr=>(h3 row hr).2
 rcases h4 with rfl | ⟨b,rfl,hb⟩
 ·have:l = []:=YM (by simpa using g2);subst this;exact ⟨[],[],⟨R,a,c,by rw[hR];rfl,rfl,.inl ⟨rfl,rfl⟩⟩,Y3 _,by simp⟩
 ·refine ⟨l,b :: Fs.flatten,⟨R,some (b,0),c,by rw[hR,g2],rfl,.inr ⟨b,0,rs,Fs,rfl,hb,by omega,?_,rfl⟩⟩,by omega,g3⟩;rw[Zg,Zv (by omega)];exact g1
end


def Jy (ro:Bool):Rel Place:=λh cs p F=>∃ a1 c1 a2 c2 a3 c3,cs=p.cs a1 c1 a2 c2 a3 c3/\RPlace ro h cs p F
theorem LT {ro:Bool}:(Jy ro).Ok :=
 ⟨λh h' cs p F ⟨a1,c1,a2,c2,a3,c3,e,hp⟩ hb=>⟨a1,c1,a2,c2,a3,c3,e,rplace_ok.fr _ _ _ _ _ hp hb⟩,λh cs p F ⟨_,_,_,_,_,_,_,hp⟩=>rplace_ok.bd _ _ _ _ hp⟩
theorem Tk:∀ {l:List Tag},Vz Wx l=2*l.length
 | []=>rfl
 | t :: l=>by
  have h1:=Tk (l:=l);have h2:Vz Wx (t :: l)=2+Vz Wx l:=by simp only[Vz,Z5,List.sum_cons]
  rw[h2,h1,ZC];omega
abbrev Qa:Ver:=⟨0,⟨0,0⟩,[],⟨⟨[]⟩⟩,false⟩
abbrev XE:Place:=⟨0,0,[],[],[],false⟩
section
variable {lo:Nat}{h:Heap}{F F':List Nat}{a a':Pq}{c c':Nq}
end


variable {l:List Node}
theorem Mv.swap {h h':Heap}{A B A' B':List Nat} (m:Mv h (A++B) h' (A'++B')):Mv h (B++A) h' (B'++A'):=by
 refine ⟨m.le,λb hb hn=>m.fr b hb λhm=>hn ?_,?_,λb hb=>?_⟩
 ·rw[YF] at hm ⊢;exact hm.symm
 ·have:=m.nd;rw[YK] at this ⊢;exact ⟨this.2.1,this.1,λx hx y hy e=>this.2.2 y hy x hx e.symm⟩
 ·rw[YF] at hb;refine (m.sub b (by rw[YF];exact hb.symm)).imp (λh=>?_) id;rw[YF] at h ⊢;exact h.symm
theorem DT {α:Type}{El:Rel α} (ok:El.Ok) {h0 h1:Heap}{lo R e n bytes:Nat}{a:Pq}{c:Nq}{l:List α}{F:List Nat}{row:List V}{x:α}{G:List Nat} (hs:Sli false R e El h0 [.sl R a n c] l F) (hx:El h1 row x G) (m:Mv h0 [] h1 G)
  (hnd:F.Nodup) (hlo:∀ b∈F,lo<=b) (hl:lo<=h0.length) (hb:0<bytes) (hsz:(l.length+1)*bytes<=140737488355328) :
  ∃ a' c' h2 F',(∀ {T:Type} (K:V->Heap->Option T),CJ lo e R bytes (.sl R a n c) [row] h1 K=K (.sl R a' (l.length+1) c') h2)/\Sli false R e El h2 [.sl R a' (l.length+1) c'] (l ++ [x]) F'/\Mv h0 F h2 F':=by
 have hbd:=(Sli.ok ok).bd _ _ _ _ hs;have hs1:=m.keep0 (Sli.ok ok) hs;have hGb:=m.lt (by simp);obtain ⟨a',c',h2,F',p1,p2,p3,p4,p5,p6⟩:=Sli.push (lo:=lo) (bytes:=bytes) ok.fr hs1 (xs := [row]) (ys := [x]) (Gs := [G]) ⟨hx,trivial⟩ hb hsz hlo (YD hl m.le)
  (by
   rw[YK];refine ⟨hnd,by simpa using m.nd,λy hy z hz=>?_⟩
   rintro rfl
   have g1:=hbd y hy;have g2:=m.new y (by simpa using hz);omega)
  (λb hb'=>by
   have g1:=m.le;rw[YF] at hb';rcases hb' with hb' | hb'
   ·have:=hbd b hb';omega
   ·exact hGb b (by simpa using hb')) (by simp)
 refine ⟨a',c',h2,F',p1,p2,YD m.le p3,λb hb' hF=>?_,p6,λb hb'=>?_⟩
 ·rw[p4 b (YT hb' m.le) hF,m.fr b hb' (by simp)]
 ·have g1:=m.le;rcases p5 b hb' with g | g
  ·rw[YF] at g;rcases g with g | g
   ·exact .inl g
   ·have g2:=m.new b (by simpa using g);have g3:=hGb b (by simpa using g);exact .inr (by omega)
  ·exact .inr (by omega)
def FN (l:List Node):List Node:=match l.getLast? with
 | some x=>l ++ [⟨x.store,[]⟩]
 | none=>l
def D8 (l:List Node):Bool:=decide ((l.length:Int)<4)
def HN (l:List Node):List Node:=bif D8 l then FN l else l
theorem Eo (h0:0<l.length):FN l=l ++ [⟨(l[l.length - 1]'(by omega)).store,[]⟩]:=by unfold FN;rw[List.getLast?_eq_getElem?,CF (by omega)]
def X2 (raw:List V) (p:Place) (r:List V):Prop:=∃ s1 s2 s3 a1 c1 a2 c2 a3 c3,raw = [Iv p.me,Iv p.clock,s1,s2,s3,.bool p.fell] /\
 (∀ {T:Type} (K:Pq->Nat->Nq->Option T),eS 2 s1 K=K a1 p.chain.length c1)/\(∀ {T:Type} (K:Pq->Nat->Nq->Option T),eS 6 s2 K=K a2 p.log.length c2) /\
 (∀ {T:Type} (K:Pq->Nat->Nq->Option T),eS 1 s3 K=K a3 p.got.length c3)/\r=p.cs a1 c1 a2 c2 a3 c3
section
variable {lo:Nat}{h:Heap}{F F':List Nat}{a a':Pq}{c c':Nq}
theorem Qr (hs:RNodes false h [.sl 2 a l.length c] l F) (h0:0<l.length) (hn:FH l) (hnd:F.Nodup) (hlo:∀ b∈F,lo<=b) (hl:lo<=h.length) :
  ∃ a' c' h' F',Ae lo 90 [.agg [.sl 2 a l.length c]] h=some (.agg [.sl 2 a' (l.length+1) c'],h')/\RNodes false h' [.sl 2 a' (l.length+1) c'] (FN l) F'/\Mv h F h' F':=by
 have hn1:=hn.1;obtain ⟨o,s1,s2,b1,d1,b2,d2,G1,G2,ha,ho,ho1,ho2,e1,e2,q1,q2,_⟩:=hs.get (show l.length - 1<l.length by omega);obtain ⟨v3,h3,F3,e3,r3,m3⟩:=Gc (lo:=lo) q1 hl (hn.2 _ (YJ _)).1;obtain ⟨a4,c4,es4,r4⟩:=r3.form;obtain ⟨a5,c5,h5,F5,e5,r5,m5⟩:=DT (lo:=lo) (bytes:=48) (e:=126) rnode_ok hs (row := [.sl 6 a4 (l[l.length - 1]'(by omega)).store.length c4,.sl 0 none 0 (some 0)]) (x:=⟨(l[l.length - 1]'(by omega)).store,[]⟩) (G:=F3) (h1:=h3 ++ [.rows 2 126 false [[.sl 6 a4 (l[l.length - 1]'(by omega)).store.length c4,.sl 0 none 0 (some 0)]]])
  ⟨_,_,F3,[],rfl,by simp,Mv.snoc.keep0 rvers_ok r4,Sli.nil⟩ (m3.trans (Mv.snoc' m3.nd)) hnd hlo hl (by decide) (by omega)
 refine ⟨a5,c5,h5,F5,NI ?_,by rw[Eo h0];exact r5,m5⟩;rw[wr (by omega) (by omega),DZ ⟨by omega,by omega⟩,show ((l.length:Int) - 1).toNat=l.length - 1 by omega];simp only[ha,Ag,ho1,Ab,e1,Ai];rw[e3];simp only[Ac,A3,Ab,es4,Ai,Bv];rw[<- ha,e5];simp only[Ah]
end


variable {p:Place}
theorem Ju:∀ {row:List V}{n:Nat},row.length=n->cut row 0 n=some row
 | [],0,_=>rfl
 | v :: r,n+1,h=>by have h1:=Ju (row:=r) (n:=n) (by simpa using h);show (match cut r 0 n with | some l=>some (v :: l) | none=>none)=_;rw[h1]
theorem XX {a1 a2 a3 b1 b2 b3:Pq}{c1 c2 c3 d1 d2 d3:Nq} (h:p.cs a1 c1 a2 c2 a3 c3=p.cs b1 d1 b2 d2 b3 d3):a1=b1/\c1=d1/\a2=b2/\c2=d2/\a3=b3/\c3=d3:=by simp only[Place.cs,List.cons.injEq,V.sl.injEq,true_and,and_true] at h;obtain ⟨⟨h1,h2⟩,⟨h3,h4⟩,h5,h6⟩:=h;exact ⟨h1,h2,h3,h4,h5,h6⟩
def Jd (p:Place):Place:=⟨p.me,p.clock,HN p.chain,p.log,p.got,p.fell⟩
theorem Et (h:Ar p=true):0<p.chain.length:=by unfold Ar at h;simp only[Cz] at h;have:=(Dh h.1.1.1.1.2).1;omega
theorem GW {b:Bool}{h:Heap}:br b (some (V.bool true,h)) (some (V.bool false,h))=some (V.bool b,h):=by cases b<;>rfl
section
variable {lo:Nat}{h:Heap}{F F':List Nat}{a a':Pq}{c c':Nq}
theorem OZ {a1 a2 a3:Pq}{c1 c2 c3:Nq}{F1 F2 F3:List Nat} (hs1:RNodes false h [.sl 2 a1 p.chain.length c1] p.chain F1) (hs2:RVers false h [.sl 6 a2 p.log.length c2] p.log F2)
  (hs3:RVss false h [.sl 1 a3 p.got.length c3] p.got F3) (hl:lo<=h.length) (hn:GF p) :
  ∃ raw a1' c1' a2' c2' a3' c3' h' F',Ae lo 60 [.agg (p.cs a1 c1 a2 c2 a3 c3)] h=some (.agg raw,h')/\X2 raw p (p.cs a1' c1' a2' c2' a3' c3')/\RPlace false h' (p.cs a1' c1' a2' c2' a3' c3') p F'/\Mv h [] h' F':=by
 obtain ⟨vs,h',F',e,r,m⟩:=Qo (lo:=lo) hs1 hs2 hs3 hl hn;obtain ⟨s1,s2,s3,G1,G2,G3,rfl,rfl,g1,g2,g3⟩:=r;obtain ⟨x1,y1,es1,g1⟩:=g1.form;obtain ⟨x2,y2,es2,g2⟩:=g2.form;obtain ⟨x3,y3,es3,g3⟩:=g3.form;exact ⟨_,x1,y1,x2,y2,x3,y3,h',_,e,⟨s1,s2,s3,x1,y1,x2,y2,x3,y3,rfl,λK=>es1 K,λK=>es2 K,λK=>es3 K,rfl⟩,⟨_,_,_,G1,G2,G3,rfl,rfl,g1,g2,g3⟩,m⟩
end


def FE (l:List Node) (k:Nat) (v:Ver):List Node:=match l[k]? with
 | some x=>match x.store[v.key.toNat]? with
  | some u=>bif AZ u v then l.set k ⟨x.store.set v.key.toNat v,bif decide (k+1<l.length) then x.wait ++ [v] else x.wait⟩ else l
  | none=>l
 | none=>l
theorem Wu {l:List Node}{k:Nat}{v:Ver} (hk:k<l.length) (hv:v.key.toNat<l[k].store.length) :
  FE l k v=bif AZ l[k].store[v.key.toNat] v then l.set k ⟨l[k].store.set v.key.toNat v,bif decide (k+1<l.length) then l[k].wait ++ [v] else l[k].wait⟩ else l:=by
 unfold FE;rw[CF hk];simp only;rw[CF hv]
section
variable {lo:Nat}{h h3:Heap}{F F' G:List Nat}{a a' av:Pq}{c c' cv:Nq}{n k:Nat}{l:List Node}{v:Ver}
theorem Uh (hs:RNodes false h [.sl 2 a n c] l F) (hk:k<l.length) (hnd:F.Nodup) (hlo:∀ b∈F,lo<=b) (hl:lo<=h.length) (hw:l[k].wait.length<=1048576) (hv:RTags false h3 [.sl 2 av v.past.length cv] v.past G) (m3:Mv h [] h3 G) :
  ∃ b i t2 a2 c2 a5 c5 h5,a=some (b,i)/\ld h b (i+k) 1 1=some [t2]/\(∀ {T:Type} (K:Pq->Nat->Nq->Option T),eS 6 t2 K=K a2 l[k].wait.length c2) /\
   (∀ {T:Type} (K:V->Heap->Option T),CJ lo 105 6 72 (.sl 6 a2 l[k].wait.length c2) [v.cs av cv] (h3 ++ [.rows 6 105 false [v.cs av cv]]) K=K (.sl 6 a5 (l[k].wait.length+1) c5) h5) /\
   (∃ F5,RVers false h5 [.sl 6 a5 (l[k].wait.length+1) c5] (l[k].wait ++ [v]) F5) /\
   ∀ c6,(c6=c5\/c6=some (l[k].wait.length+1))->∃ h6 F6,st lo h5 b (i+k) 1 [.sl 6 a5 (l[k].wait.length+1) c6]=some h6/\RNodes false h6 [.sl 2 a n c] (l.set k ⟨l[k].store,l[k].wait ++ [v]⟩) F6/\Mv h F h6 F6:=by
 obtain ⟨b,i,rs,row,G0,ha,hbF,hbG,hb,hrow,hel,hGF,hGn,_,put⟩:=hs.at rnode_ok hk hnd hlo;obtain ⟨t1,t2,F1,F2,rfl,rfl,r1,r2⟩:=hel;obtain ⟨a2,c2,e2,r2'⟩:=r2.form;rw[YK] at hGn;obtain ⟨a5,c5,h5,F5,e5,r5,m5⟩:=DT (lo:=lo) (bytes:=72) (e:=105) rver_ok r2' (row:=v.cs av cv) (x:=v) (G:=G) (h1:=h3 ++ [.rows 6 105 false [v.cs av cv]])
  ⟨_,rfl,Mv.snoc.keep0 rtags_ok hv⟩ (m3.trans (Mv.snoc' m3.nd)) hGn.2.1 (λy hy=>hlo y (hGF y (by simp[hy]))) hl (by decide) (by omega)
 have b1:∀ y∈F1,y<h.length:=rvers_ok.bd _ _ _ _ r1;have m6:=(m5.aside (G:=F1) (by rw[YK];exact ⟨hGn.2.1,hGn.1,λx hx y hy e=>hGn.2.2 y hy x hx e.symm⟩) b1).swap;have r1':=m5.keep rvers_ok r1 λy hy hm=>hGn.2.2 y hy y hm rfl;refine ⟨b,i,t2,a2,c2,a5,c5,h5,ha,by rw[C2 hb hrow];rfl,λK=>e2 K,λK=>e5 K,⟨F5,r5⟩,λc6 hc=>?_⟩;have r5':RVers false h5 [.sl 6 a5 (l[k].wait.length+1) c6] (l[k].wait ++ [v]) F5:=by
  rcases hc with rfl | rfl
  ·exact r5
  ·exact r5.clip
 obtain ⟨h6,F6,e6,r6,m7,_⟩:=put h5 (F1++F5) 1 [.sl 6 a5 (l[k].wait.length+1) c6] [t1,.sl 6 a5 (l[k].wait.length+1) c6] ⟨l[k].store,l[k].wait ++ [v]⟩ m6 rfl ⟨_,_,F1,F5,rfl,rfl,r1',r5'⟩;exact ⟨h6,F6,e6,r6,m7⟩
theorem LN (hs:RNodes false h [.sl 2 a l.length c] l F) (hv:RTags false h [.sl 2 av v.past.length cv] v.past G) (hd:∀ b∈G,b∉F) (hnd:F.Nodup) (hlo:∀ b∈F,lo<=b) (hl:lo<=h.length) (hk:k<l.length)
  (hkey:0<=v.key/\v.key<l[k].store.length) (hn:FH l) (hvn:v.past.length<=1048576) :
  ∃ h' F',Ae lo 105 [.agg [.sl 2 a l.length c],Iv k,.agg (v.cs av cv)] h=some (.agg [.sl 2 a l.length c],h')/\RNodes false h' [.sl 2 a l.length c] (FE l k v) F'/\Mv h F h' F':=by
 have hn1:=hn.1;have hkl:v.key.toNat<l[k].store.length:=by omega
 have hsm:=hn.2 _ (YJ hk);suffices hq:∃ h' F',_=some (V.agg [.sl 2 a l.length c],h')/\RNodes false h' [.sl 2 a l.length c] (FE l k v) F'/\Mv h F h' F' from hq.imp λh' hq=>hq.imp λF' hq=>⟨P1 hq.1,hq.2⟩
 obtain ⟨b,i,rs,row,G0,ha,hbF,hbG,hb,hrow,hel,hGF,hGn,_,put⟩:=hs.at rnode_ok hk hnd hlo;obtain ⟨t1,t2,F1,F2,rfl,rfl,r1,r2⟩:=hel;obtain ⟨a1,c1,e1,r1'⟩:=r1.form;obtain ⟨o,s,_,_,_,ha1,_,_,_,_,_,_,ho12,_⟩:=RVers.all r1' hkl;have ld0:ld h b (i+k) 0 1=some [t1]:=by rw[C2 hb hrow];rfl
 rw[Wu hk hkl];rw[Ad hk];simp only[ha,Ag,BA,ld0,Ab,Ai,e1];rw[DZ ⟨by omega,by omega⟩];simp only[ha1,Ag,ho12,Ab,Aa,Ai,Bd,Ac,AC];show ∃ h' F',br (AZ l[k].store[v.key.toNat] v) _ _=_/\_;cases hle:AZ l[k].store[v.key.toNat] v with
 | false=>exact ⟨h,F,rfl,by rw[<- ha];exact hs,Mv.refl hnd⟩
 | true =>
  have hGn0:=hGn;rw[YK] at hGn;have hGlt:∀ b∈G,b<h.length:=rtags_ok.bd _ _ _ _ hv;obtain ⟨h2,F3,e2,r3,m2⟩:=R3 (lo:=lo) r1' hv hGn.1 (λy hy=>hlo y (hGF y (by simp[hy]))) hl hkey hvn;have b2':∀ y∈F2,y<h.length:=rvers_ok.bd _ _ _ _ r2;have m3:=m2.aside (G:=F2) hGn0 b2';have r2':=m2.keep rvers_ok r2 λy hy hm=>hGn.2.2 y hm y hy rfl;have hadd:Ea l[k].store v=l[k].store.set v.key.toNat v:=by rw[MN hkl,hle,cond_true]
  have hlen:(Ea l[k].store v).length=l[k].store.length:=S8;rw[<- hlen] at r3;obtain ⟨h4,F4,e4,r4,m4,b4,fr4,l4⟩:=put h2 (F3++F2) 0 [.sl 6 a1 (Ea l[k].store v).length c1] [.sl 6 a1 (Ea l[k].store v).length c1,t2] ⟨Ea l[k].store v,l[k].wait⟩ m3 rfl ⟨_,_,F3,F2,rfl,rfl,r3,r2'⟩;rw[hlen] at e4;have hv4:RTags false h4 [.sl 2 av v.past.length cv] v.past G:=m4.keep rtags_ok hv hd;have hk4:k<(l.set k ⟨Ea l[k].store v,l[k].wait⟩).length:=by simpa using hk
  rw[Ao,Ad hk];simp only[Ag,ld0,Ab,e1,Ai];rw[e2];simp only[Ac,A3,Ab,Ah,Ai];rw[Ad hk,e4];simp only[Ag];rw[wr (by omega) (by omega),cond_true];by_cases hlast:k+1<l.length
  ·rw[Aj (by omega),Ad hk,decide_eq_true hlast,cond_true];obtain ⟨a6,c6,h6,F6,e6,r6,m6⟩:=BW (lo:=h4.length) (v:=v) hv4 (YH _) hvn;have hself:(l.set k ⟨Ea l[k].store v,l[k].wait⟩)[k]=⟨Ea l[k].store v,l[k].wait⟩:=List.getElem_set_self hk4;obtain ⟨b7,i7,u2,a7,c7,a8,c8,h8,ha7,ld7,e7,app7,_,st7⟩:=Uh (lo:=lo) r4 hk4 m4.nd (λy hy=>m4.ge hl hlo y hy) (YD hl m4.le) (by rw[hself];exact hsm.2.1) r6 m6;simp only[hself] at e7 app7 st7;obtain ⟨h9,F9,e9,r9,m9⟩:=st7 _ (.inl rfl);rw[ha] at ha7;injection ha7 with ha7;injection ha7 with hb7 hi7;subst hb7;subst hi7;simp only[ld7,Ag,Ab,Ai,e7];rw[e6];simp only[Ac,A3,Ab,Aa,Ah,Dg,Bk,Ai,Bv];rw[app7];simp only[Ah];rw[Ad hk,e9];rw[List.set_set,hadd] at r9;exact ⟨h9,F9,rfl,by rw[<- ha];exact r9,m4.trans m9⟩
  ·rw[Ak (by omega),decide_eq_false hlast,cond_false];rw[hadd] at r4;exact ⟨h4,F4,rfl,by rw[<- ha];exact r4,m4⟩
end


def noted (me:Int) (log:List Ver) (v:Ver):List Ver:=bif decide (v.tag.time>0)&&(v.tag.place==me && !Cr log v.tag) then log ++ [v] else log
def Dp (l:List Node):List Ver:=match l.getLast? with
 | some x=>x.store
 | none => []
def Yi (l:List Node):Bool:=l.all λx=>decide (x.wait.length=0)
def CC (p:Place):Place:=⟨p.me,p.clock,p.chain,(Dp p.chain).foldl (noted p.me) p.log,p.got,p.fell && !Yi p.chain⟩
theorem En {l:List Node} (h0:0<l.length):Dp l=(l[l.length - 1]'(by omega)).store:=by unfold Dp;rw[List.getLast?_eq_getElem?,CF (by omega)]
theorem Uq {me:Int}{log:List Ver}{v:Ver}:(noted me log v).length<=log.length+1:=by unfold noted;cases decide (v.tag.time>0)&&(v.tag.place==me && !Cr log v.tag)<;>simp
section
variable {lo:Nat}{h:Heap}{F F':List Nat}{a a':Pq}{c c':Nq}
theorem Ij {l:List Ver}{t p:Int}{ro:Bool} (hs:RVers ro h [.sl 6 a l.length c] l F) (hn:l.length<=1048576) :
  Ae lo 106 [.sl 6 a l.length c,.agg [Iv t,Iv p]] h=some (.bool (Cr l ⟨t,p⟩),h):=by
 refine KV (h':=h) ?_;have loop:∀ m i,m+i=l.length->BI h.length a l.length c false (i:Nat) t p h=some (.bool ((l.drop i).any λv=>v.tag.time==t&&v.tag.place==p),h):=by
  intro m;induction m with
  | zero =>intro i hi;rw[BI.e,Ak (by omega),Y0 (by omega)];rfl
  | succ m ih =>
   intro i hi;have hil:i<l.length:=by omega
   obtain ⟨o,s,_,_,_,ha,_,_,_,_,_,_,ho,_⟩:=RVers.all hs hil;rw[BI.e,Aj (by omega),Ad hil];simp only[ha,Ag,BA,ho,Ab,Aa,Ai,ZQ];rw[As (show i<9223372036854775807 by omega),<- ha,ih (i+1) (by omega),YN hil,Z6];cases (l[i].tag.time==t&&l[i].tag.place==p)<;>rfl
 exact loop l.length 0 (by omega)
theorem Ks {p:Place}{a1 a2 a3:Pq}{c1 c2 c3:Nq}{F1 F2:List Nat} (hs1:RNodes false h [.sl 2 a1 p.chain.length c1] p.chain F1) (hs2:RVers false h [.sl 6 a2 p.log.length c2] p.log F2)
  (h0:0<p.chain.length) (h4:(Dp p.chain).length=4) (hd:∀ b∈F1,b∉F2) (hnd:F2.Nodup) (hlo:∀ b∈F2,lo<=b) (hl:lo<=h.length) (hcl:p.chain.length<=1048576) (hlog:p.log.length<=1000000) (hvn:∀ v∈Dp p.chain,v.past.length<=1048576) :
  ∃ a2' c2' h' F2',Ae lo 87 [.agg (p.cs a1 c1 a2 c2 a3 c3)] h=some (.agg ((CC p).cs a1 c1 a2' c2' a3 c3),h')/\RVers false h' [.sl 6 a2' (CC p).log.length c2'] (CC p).log F2'/\Mv h F2 h' F2':=by
 obtain ⟨o,s1,s2,b1,d1,b2,d2,G1,G2,ha,_,ho1,_,e1,_,q1,_,q3,_⟩:=hs1.get (show p.chain.length - 1<p.chain.length by omega);rw[En h0] at h4 hvn;have two:∀ (hh:Heap) (F':List Nat) (ax:Pq) (nx:Nat) (cx:Nq),Mv h F2 hh F'->∀ m i (b:Bool),m+i=p.chain.length ->
   Bg lo b (i:Nat) p.me p.clock a1 p.chain.length c1 ax nx cx a3 p.got.length c3 p.fell 0 0 0 none 0 (some 0) 0 none 0 (some 0) 0 none 0 (some 0) false hh=some (.agg [Iv p.me,Iv p.clock,.sl 2 a1 p.chain.length c1,.sl 6 ax nx cx,.sl 1 a3 p.got.length c3,.bool (p.fell && !(b&&(p.chain.drop i).all λx=>decide (x.wait.length=0)))],hh):=by
  intro hh F' ax nx cx hm m;induction m with
  | zero =>intro i b hi;rw[Bg.e,Ak (by omega),Y0 (by omega)];cases p.fell<;>cases b<;>rfl
  | succ m ih =>
   intro i b hi;have hil:i<p.chain.length:=by omega
   obtain ⟨o',_,_,_,_,_,_,_,_,ha',_,_,ho2',_,e2',_⟩:=(hm.keep rnodes_ok hs1 hd).get hil;rw[Bg.e,Aj (by omega),As (show i<9223372036854775807 by omega)];cases b with
   | false=>rw[Au,ih (i+1) false (by omega)];rfl
   | true =>rw[Ao,Ad hil];simp only[ha',Ag,BA,ho2',Ab,Ai,e2'];rw[<- ha',ih (i+1) true (by omega),ih (i+1) false (by omega),YN hil,List.all_cons,show (((p.chain[i].wait.length:Nat):Int)==0)=decide (p.chain[i].wait.length=0) by rw[ZJ,beq_iff_eq,decide_eq_true_eq];omega];cases decide (p.chain[i].wait.length=0)<;>rfl
 have one:∀ m i,m+i=4->∀ hh ax cx (lg:List Ver) Fx,RVers false hh [.sl 6 ax lg.length cx] lg Fx->Mv h F2 hh Fx->lg.length<=1000000+i->∃ a' c' h' F',
   Bh lo (i:Nat) p.me p.clock a1 p.chain.length c1 ax lg.length cx a3 p.got.length c3 p.fell 0 0 0 none 0 (some 0) 0 none 0 (some 0) 0 none 0 (some 0) false b1 (p.chain[p.chain.length - 1]'(by omega)).store.length d1 hh =
    Bg lo true 0 p.me p.clock a1 p.chain.length c1 a' (((p.chain[p.chain.length - 1]'(by omega)).store.drop i).foldl (noted p.me) lg).length c' a3 p.got.length c3 p.fell 0 0 0 none 0 (some 0) 0 none 0 (some 0) 0 none 0 (some 0) false h' /\
   RVers false h' [.sl 6 a' (((p.chain[p.chain.length - 1]'(by omega)).store.drop i).foldl (noted p.me) lg).length c'] (((p.chain[p.chain.length - 1]'(by omega)).store.drop i).foldl (noted p.me) lg) F'/\Mv h F2 h' F':=by
  intro m;induction m with
  | zero =>intro i hi hh ax cx lg Fx hr hm hlen;rw[Bh.e,Ak (by omega),Y0 (by omega)];exact ⟨ax,cx,hh,Fx,rfl,hr,hm⟩
  | succ m ih =>
   intro i hi hh ax cx lg Fx hr hm hlen;have hil:i<(p.chain[p.chain.length - 1]'(by omega)).store.length:=by omega
   have q1':=hm.keep rvers_ok q1 λy hy=>hd y (q3 y hy);obtain ⟨o',s',b',d',G',ha',_,_,_,_,_,_,_,ho',es',hp',_⟩:=RVers.all q1' hil;rw[YN hil,Zy];rw[Bh.e,Aj (by omega),Ad hil];simp only[ha',Ag,BA,ho',Ab,Aa,es',Dg,Bk,Ai];rw[<- ha',As (show i<9223372036854775807 by omega),Ij hr (by omega)];simp only[Ac,AC];have stay:=ih (i+1) (by omega) hh ax cx lg Fx hr hm (by omega);have hno:=@noted.eq_1 p.me lg ((p.chain[p.chain.length - 1]'(by omega)).store[i]'hil);cases g1:decide (((p.chain[p.chain.length - 1]'(by omega)).store[i]'hil).tag.time>0) with
   | false=>rw[Au,hno,g1];exact stay
   | true =>
   rw[Ao];cases g2:(((p.chain[p.chain.length - 1]'(by omega)).store[i]'hil).tag.place==p.me) with
   | false=>rw[Au,hno,g1,g2];exact stay
   | true =>
   rw[Ao];cases g3:Cr lg ((p.chain[p.chain.length - 1]'(by omega)).store[i]'hil).tag with
   | true=>rw[Ao,hno,g1,g2,g3];exact stay
   | false =>
   rw[Au,hno,g1,g2,g3];obtain ⟨a3',c3',h3,F3,e3,r3,m3⟩:=BW (lo:=lo) (v:=((p.chain[p.chain.length - 1]'(by omega)).store[i]'hil)) hp' (YD hl hm.le) (hvn _ (YJ hil));obtain ⟨a5,c5,h5,F5,e5,r5,m5⟩:=DT (lo:=lo) (bytes:=72) (e:=105) rver_ok hr (row:=((p.chain[p.chain.length - 1]'(by omega)).store[i]'hil).cs a3' c3') (x:=((p.chain[p.chain.length - 1]'(by omega)).store[i]'hil)) (G:=F3) (h1:=h3 ++ [.rows 6 105 false [((p.chain[p.chain.length - 1]'(by omega)).store[i]'hil).cs a3' c3']])
    ⟨_,rfl,Mv.snoc.keep0 rtags_ok r3⟩ (m3.trans (Mv.snoc' m3.nd)) hm.nd (λy hy=>hm.ge hl hlo y hy) (YD hl hm.le) (by decide) (by omega)
   rw[e3];simp only[Ac,A3,Ab,Aa,Ah,Dg,Bk,Ai,Bv];rw[e5];simp only[Ah];have:=ih (i+1) (by omega) h5 a5 c5 (lg ++ [((p.chain[p.chain.length - 1]'(by omega)).store[i]'hil)]) F5 (by rw[Y6];exact r5) (hm.trans m5) (by simp;omega);rw[Y6] at this;exact this
 obtain ⟨a',c',h',F',el,r,m⟩:=one 4 0 (by omega) h a2 c2 p.log F2 hs2 (Mv.refl hnd) (by omega);refine ⟨a',c',h',F',NB ?_,?_,m⟩
 ·rw[DZ ⟨by rw[wr (by omega) (by omega)];omega,by rw[wr (by omega) (by omega)];omega⟩,wr (by omega) (by omega),show ((p.chain.length:Int) - 1).toNat=p.chain.length - 1 by omega];simp only[ha,Ag,ho1,Ab,e1,Ai];rw[<- ha];refine el.trans ?_;have:=two h' F' a' (((p.chain[p.chain.length - 1]'(by omega)).store.drop 0).foldl (noted p.me) p.log).length c' m p.chain.length 0 true (by omega);refine this.trans ?_;simp only[CC,Place.cs,En h0,Zg,YP,Yi]
 ·simp only[CC,En h0];rw[Zg] at r;exact r
end


theorem Mv.store {h h':Heap}{F F':List Nat}{b:Nat} (m:Mv h F h' F') (hb:b<h.length) (hbF:b∉F) (X:Blk) :
  Mv h (b :: F) (h'.set b X) (b :: F')/\(h'.set b X)[b]?=some X/\(∀ y,y≠b->(h'.set b X)[y]?=h'[y]?)/\b∉F':=by
 have hbF':b∉F':=λhm=>by
  rcases m.sub b hm with g | g
  ·exact hbF g
  ·omega
 have hb':b<h'.length:=YT hb m.le;refine ⟨⟨by simpa using m.le,λy hy hF=>?_,by rw[Y2];exact ⟨hbF',m.nd⟩,λy hy=>?_⟩,by simp[hb'],λy hy=>YG (Ne.symm hy),hbF'⟩
 ·rw[YW,not_or] at hF;rw[YG (Ne.symm hF.1)];exact m.fr y hy hF.2
 ·rw[YW] at hy;rcases hy with rfl | hy
  ·exact .inl (by simp)
  ·refine (m.sub y hy).imp (λg=>by simp[g]) λg=>by simpa using g
section
variable {lo:Nat}{ro:Bool}{h:Heap}{F F':List Nat}{a a':Pq}{c c':Nq}
end


variable {v:Ver}{l:List Ver}{x:Node}{p:Place}{nw:Nat}
def thin (v:Ver):Prop:=v.past.length<=4/\v.text.size<=8/\Bu v.tag.time v.tag.place=true
def DV (nw:Nat) (x:Node):Prop:=x.store.length=4/\x.wait.length<=nw/\(∀ v∈x.store,thin v)/\∀ v∈x.wait,thin v
structure Tidy (nc nw nl:Nat) (p:Place):Prop where
 len:p.chain.length<=nc
 node:∀ x∈p.chain,DV nw x
 log:p.log.length<=nl/\∀ v∈p.log,thin v
 got:p.got.length<=3/\∀ l∈p.got,l.length<=nl/\∀ v∈l,thin v
theorem IO (h:Ck v=true):thin v:=by obtain ⟨_,h2,_,h3,h4,_⟩:=BC h;have:=DH h2;have:=Cp h3;exact ⟨by omega,by omega,h4⟩
theorem T5 (h:HM v=true):thin v:=by rw[OU h];exact ⟨by simp,by show 0<=8;omega,rfl⟩
theorem Tc {i:Nat} (h:Hh i v=true):thin v:=(Dy h).elim T5 λh=>IO h.1
theorem EV {m:Int} (h:Fi m l=true):l.length<=60/\∀ i (hi:i<l.length),Ck l[i]=true/\l[i].tag.place=m/\Cr (l.take i) l[i].tag=false:=by unfold Fi at h;rw[Cz,FB,decide_eq_true_eq] at h;refine ⟨by omega,λi hi=>?_⟩;have:=h.1 i hi;simp only[VB,Cz,beq_iff_eq,Zp] at this;exact ⟨this.1.1,this.1.2,this.2⟩
theorem QV {m:Int} (h:Fi m l=true):l.length<=60/\∀ v∈l,thin v:=by obtain ⟨h1,h2⟩:=EV h;refine ⟨h1,λv hv=>?_⟩;obtain ⟨i,hi,rfl⟩:=Zt.1 hv;exact IO (h2 i hi).1
theorem Oc (h:Do x=true):DV 6 x:=by obtain ⟨h1,h2,h3⟩:=Bw h;refine ⟨Cl h1,h2,λv hv=>?_,λv hv=>IO (h3 v hv)⟩;obtain ⟨i,hi,rfl⟩:=Zt.1 hv;exact Tc (DI h1 hi)
theorem AJ (h:Ar p=true):(0<=p.me/\p.me<=2)/\(0<=p.clock/\p.clock<=999)/\p.got.length=3/\D7 p.chain=true/\HC p.chain=true/\Fi p.me p.log=true /\
  (∀ i (hi:i<p.got.length),Mn p.me i p.got[i]=true)/\Es p.chain p.clock=true:=by
 unfold Ar at h;simp only[Cz,FB,decide_eq_true_eq,Af] at h;obtain ⟨⟨⟨⟨⟨⟨⟨h1,h2⟩,h3⟩,h4⟩,h5⟩,h6⟩,h7⟩,h8⟩:=h;exact ⟨h1,h2,h3,h4,h5,h6,h7,h8⟩
theorem Pn (h:Ar p=true) {i:Nat} (hi:i<p.got.length):Fi i p.got[i]=true:=by have:=(AJ h).2.2.2.2.2.2.1 i hi;unfold Mn at this;rw[Cz] at this;exact this.1
theorem CB (h:Ar p=true):Tidy 4 6 60 p:=by obtain ⟨_,_,h3,h4,_,h6,h7,_⟩:=AJ h;obtain ⟨g1,g2⟩:=Dh h4;refine ⟨g1.2,λx hx=>Oc (g2 x hx),QV h6,by omega,λl hl=>?_⟩;obtain ⟨i,hi,rfl⟩:=Zt.1 hl;exact QV (Pn h hi)
theorem Ls {α:Type}{w:α->Nat}{c:Nat}:∀ {l:List α},(∀ v∈l,w v<=c)->Vz w l<=c*l.length
 | [],_=>by simp[Vz]
 | x :: l,h=>by have h1:=Ls (w:=w) (l:=l) λv hv=>h v (by simp[hv]);have h2:=h x (by simp);simp only[Vz,Z5,List.sum_cons,ZC,Nat.mul_add,Nat.mul_one] at h1 ⊢;omega
theorem XH (h:thin v):XF v<=13:=by have:=h.1;unfold XF;rw[Tk];omega
theorem Lm (hl:l.length<=1048576) (h:∀ v∈l,thin v):Ei l:=⟨hl,λv hv=>by have:=h v hv;exact ⟨by have:=this.1;omega,by have:=this.2.1;omega⟩⟩
theorem Ll (h:∀ v∈l,thin v):Qd l<=13*l.length:=Ls λv hv=>XH (h v hv)
theorem WS (h:DV nw x) (hw:nw<=100):Ei x.store/\Ei x.wait:=by obtain ⟨h1,h2,h3,h4⟩:=h;exact ⟨Lm (by omega) h3,Lm (by omega) h4⟩
theorem XK (h:DV nw x) (hw:nw<=100):U3 x<=1352:=by obtain ⟨h1,h2,h3,h4⟩:=h;have:=Ll h3;have:=Ll h4;unfold U3;omega
theorem Qe {nc nl:Nat} (h:Tidy nc nw nl p) (h1:nc<=100) (h2:nw<=100):FH p.chain:=⟨by have:=h.len;omega,λx hx=>WS (h.node x hx) h2⟩
theorem Ew {nc nl:Nat} (h:Tidy nc nw nl p) (h1:nc<=100) (h2:nw<=100) (h3:nl<=1000):GF p/\(1:Int)+U1 p<=YA:=by
 have g1:=h.len;have g2:=h.log.1;have g3:=h.got.1;refine ⟨⟨Qe h h1 h2,Lm (by omega) h.log.2,by omega,λl hl=>Lm (by have:=(h.got.2 l hl).1;omega) (h.got.2 l hl).2⟩,?_⟩;have e1:U2 p.chain<=1352*p.chain.length:=Ls λx hx=>XK (h.node x hx) h2;have e2:=Ll h.log.2;have e3:X8 p.got<=13000*p.got.length:=Ls λl hl=>by have:=Ll (h.got.2 l hl).2;have:=(h.got.2 l hl).1;omega
 simp only[U1,YA];omega
theorem Qf {nc nl k:Nat}{t:Int} (h:Tidy nc nw nl p) (hv:thin v):Tidy nc (nw+1) nl ⟨p.me,t,FE p.chain k v,p.log,p.got,p.fell⟩:=by
 have hx:∀ x,x∈p.chain->DV (nw+1) x:=λx hx=>by obtain ⟨g1,g2,g3⟩:=h.node x hx;exact ⟨g1,by omega,g3⟩
 have key:(FE p.chain k v).length<=nc/\∀ x∈FE p.chain k v,DV (nw+1) x:=by
  unfold FE;split
  ·rename_i x hk
   split
   ·rename_i u hu
    cases AZ u v with
    | false=>exact ⟨h.len,hx⟩
    | true =>
     rw[cond_true];refine ⟨by simpa using h.len,λy hy=>?_⟩;rcases Y4 hy with hy | rfl
     ·exact hx y hy
     ·obtain ⟨g1,g2,g3,g4⟩:=h.node x (YS hk);refine ⟨by simpa using g1,?_,λw hw=>?_,?_⟩
      ·cases decide (k+1<p.chain.length)
       ·show x.wait.length<=nw+1;omega
       ·show (x.wait ++ [v]).length<=nw+1;simp;omega
      ·rcases Y4 hw with hw | rfl
       ·exact g3 w hw
       ·exact hv
      ·cases decide (k+1<p.chain.length)
       ·exact g4
       ·intro w hw;rcases YF.1 hw with hw | hw
        ·exact g4 w hw
        ·rw[YZ] at hw;subst hw;exact hv
   ·exact ⟨h.len,hx⟩
  ·exact ⟨h.len,hx⟩
 exact ⟨key.1,key.2,h.log,h.got⟩
theorem Mb {l:List Node} (h0:0<l.length):∃ x∈l,Dp l=x.store:=⟨_,YJ (show l.length - 1<l.length by omega),En h0⟩


variable {l:List Node}{p:Place}{v:Ver}
def FM (s:List Ver) (v:Ver):Bool:=match s[v.key.toNat]? with
 | some u=>AZ u v
 | none=>false
def D2 (l:List Node):List Ver:=match l[0]? with
 | some x=>x.store
 | none => []
def EH (l:List Node) (k:Nat):Bool:=match l[k]? with
 | some x=>decide (x.wait.length<6)
 | none=>false
def He (p:Place) (f:Nat):List Ver:=match p.got[f]? with
 | some l=>l
 | none => []
def GS (p:Place) (f:Nat):Option Ver:=(He p f).find? (FM (D2 p.chain))
def FD (p:Place) (k:Nat) (t:Int) (v:Ver):Place:=⟨p.me,t,FE p.chain k v,p.log,p.got,p.fell⟩
theorem Mk (h0:0<l.length):D2 l=l[0].store:=by unfold D2;rw[CF h0]
theorem GI {k:Nat} (hk:k<l.length):EH l k=decide (l[k].wait.length<6):=by unfold EH;rw[CF hk]
theorem Gm {f:Nat} (hf:f<p.got.length):He p f=p.got[f]:=by unfold He;rw[CF hf]
theorem QX {s:List Ver} (h:v.key.toNat<s.length):FM s v=AZ s[v.key.toNat] v:=by unfold FM;rw[CF h]
theorem Jn {α:Type}{p:α->Bool}:∀ {l:List α}{k:Nat},(∃ i,∃ hi:i<l.length,CP p l k=((k+i:Nat):Int)/\l.find? p=some l[i])\/(CP p l k = -1/\l.find? p=none)
 | [],k => .inr ⟨rfl,rfl⟩
 | x :: l,k=>by
  simp only[CP,List.find?_cons];cases hp:p x with
  | true=>exact .inl ⟨0,by simp,by simp,by simp⟩
  | false =>
   rw[cond_false];rcases Jn (p:=p) (l:=l) (k:=k+1) with ⟨i,hi,h1,h2⟩ | h
   ·exact .inl ⟨i+1,by simpa using hi,by rw[h1];congr 1;omega,by simpa using h2⟩
   ·exact .inr h
theorem HI {k:Nat}:(FE l k v).length=l.length:=by
 unfold FE;split
 ·split
  ·cases AZ _ v<;>simp
  ·rfl
 ·rfl
section
variable {lo:Nat}{ro:Bool}{h:Heap}{F F':List Nat}{a a':Pq}{c c':Nq}
theorem Ku (hs:RNodes ro h [.sl 2 a l.length c] l F) (h0:0<l.length):Ae lo 109 [.agg [.sl 2 a l.length c]] h=some (.bool (EH l 0),h):=by
 refine NF (h':=h) ?_;obtain ⟨o,s1,s2,b1,d1,b2,d2,G1,G2,ha,_,_,ho2,_,e2,_⟩:=hs.get h0;rw[GI h0,show (0:Int)=((0:Nat):Int) from rfl,Ad h0];simp only[ha,Ag,BA,ho2,Ab,e2,Ai];by_cases hw:l[0].wait.length<6
 ·rw[Aj (by omega),decide_eq_true hw]
 ·rw[Ak (by omega),decide_eq_false hw]
theorem IU {f:Nat}{a1 a2 a3:Pq}{c1 c2 c3:Nq}{F1 F3:List Nat} (hs1:RNodes ro h [.sl 2 a1 p.chain.length c1] p.chain F1) (hs3:RVss ro h [.sl 1 a3 p.got.length c3] p.got F3)
  (h0:0<p.chain.length) (hf:f<p.got.length) (hk:∀ v∈p.got[f],0<=v.key/\v.key<(D2 p.chain).length) (hn:p.got[f].length<=1048576) :
  Ae lo 108 [.agg (p.cs a1 c1 a2 c2 a3 c3),Iv (f:Nat)] h=some (Iv (CP (FM (D2 p.chain)) p.got[f] 0),h):=by
 refine MS (h':=h) ?_;obtain ⟨o,s1,s2,b1,d1,b2,d2,G1,G2,ha,_,ho1,_,e1,_,q1,_⟩:=hs1.get h0;obtain ⟨o3,s3,b3,d3,G3,ha3,ho3,e3,q3,_⟩:=hs3.get hf;rw[Mk h0] at *
 rw[show (0:Int)=((0:Nat):Int) from rfl,Ad h0];simp only[ha,Ag,BA,ho1,Ab,e1,Ai];have loop:∀ m i,m+i=p.got[f].length->BQ (List.length h) (f:Nat) ((0:Nat):Int) (i:Nat) p.me p.clock a1 p.chain.length c1 a2 p.log.length c2 a3 p.got.length c3 p.fell b1 p.chain[0].store.length d1 h=some (Iv (CP (FM p.chain[0].store) (p.got[f].drop i) i),h):=by
  intro m;induction m with
  | zero =>intro i hi;rw[BQ.e,Ad hf];simp only[ha3,Ag,BA,ho3,Ab,e3,Ai];rw[Ak (by omega),Y0 (by omega)];rfl
  | succ m ih =>
   intro i hi;have hil:i<p.got[f].length:=by omega
   have hky:=hk _ (YJ hil);have hkl:p.got[f][i].key.toNat<p.chain[0].store.length:=by omega
   obtain ⟨o4,s4,b4,d4,G4,ha4,ho4,e4,q4,_⟩:=q3.get hil;obtain ⟨o5,s5,b5,d5,G5,ha5,_,_,_,_,_,_,ho512,_⟩:=RVers.all q1 hkl;rw[BQ.e,Ad hf];simp only[ha3,Ag,BA,ho3,Ab,e3,Ai];rw[Aj (by omega),Ad hf,Ad hil];simp only[ha4,Ag,BA,ho4,Ab,Aa,e4,Dg,Bk,Ai];rw[DZ ⟨by omega,by omega⟩];simp only[ha5,Ag,ho512,Ab,Aa,Ai,Bd,Ac,AC];rw[<- ha3,<- ha5,As (show i<9223372036854775807 by omega),ih (i+1) (by omega),YN hil];simp only[CP];rw[QX hkl];unfold AZ;cases Bx _ _ _ _<;>rfl
 have:=loop _ 0 rfl;rw[Zg] at this;rw[<- ha];exact this
theorem IV {k:Nat}{t:Int}{a1 a2 a3 av:Pq}{c1 c2 c3 cv:Nq}{F1 F2 G:List Nat} (hs1:RNodes false h [.sl 2 a1 p.chain.length c1] p.chain F1) (hs2:RVers false h [.sl 6 a2 p.log.length c2] p.log F2)
  (hv:RTags false h [.sl 2 av v.past.length cv] v.past G) (hvd:∀ b∈G,b∉F1) (hnd:(F1++F2).Nodup) (hlo:∀ b∈F1++F2,lo<=b) (hl:lo<=h.length) (hk:k<p.chain.length) (hkey:0<=v.key/\v.key<=3)
  (ht:Tidy 10 20 100 p) (hvt:thin v) :
  ∃ h2 a2' c2' h3 F1' F2',Ae lo 105 [.agg [.sl 2 a1 p.chain.length c1],Iv k,.agg (v.cs av cv)] h=some (.agg [.sl 2 a1 p.chain.length c1],h2) /\
   Ae lo 87 [.agg ((FD p k t v).cs a1 c1 a2 c2 a3 c3)] h2=some (.agg ((CC (FD p k t v)).cs a1 c1 a2' c2' a3 c3),h3) /\
   RNodes false h3 [.sl 2 a1 (CC (FD p k t v)).chain.length c1] (CC (FD p k t v)).chain F1'/\RVers false h3 [.sl 6 a2' (CC (FD p k t v)).log.length c2'] (CC (FD p k t v)).log F2'/\Mv h (F1++F2) h3 (F1'++F2'):=by
 have ta:=Qf (k:=k) (t:=t) ht hvt;have hn:=Qe ht (by decide) (by decide);have hsto:=(ht.node _ (YJ hk)).1;have hnd':=hnd;rw[YK] at hnd';obtain ⟨h2,F1',e2,r2,m2⟩:=LN (lo:=lo) hs1 hv hvd hnd'.1 (λb hb=>hlo b (by simp[hb])) hl hk ⟨hkey.1,by omega⟩ hn (by have:=hvt.1;omega);rw[<- HI (k:=k) (v:=v)] at r2;have b2:∀ y∈F2,y<h.length:=rvers_ok.bd _ _ _ _ hs2;have m3:=m2.aside (G:=F2) hnd b2;have hs2':=m2.keep rvers_ok hs2 λy hy hm=>hnd'.2.2 y hm y hy rfl;have nd3:=m3.nd;rw[YK] at nd3;have h0:0<(FD p k t v).chain.length:=by show 0<(FE p.chain k v).length;rw[HI];omega
 obtain ⟨x,hx,hxe⟩:=Mb h0;have hxn:=ta.node x hx;have hl2:=m2.le;obtain ⟨a2',c2',h3,F2',e3,r3,m4⟩:=Ks (lo:=lo) (p:=FD p k t v) (a3:=a3) (c3:=c3) r2 hs2' h0 (by rw[hxe];exact hxn.1) (λy hy hy2=>nd3.2.2 y hy y hy2 rfl) hnd'.2.1 (λb hb=>hlo b (by simp[hb])) (by omega) (YD ta.len (by decide)) (YD ta.log.1 (by decide))
  (λw hw=>by rw[hxe] at hw;have:=(hxn.2.2.1 w hw).1;omega)
 have r2':=m4.keep rnodes_ok r2 λy hy hy2=>nd3.2.2 y hy y hy2 rfl;have b1:∀ y∈F1',y<h2.length:=rnodes_ok.bd _ _ _ _ r2;have m5:=(m4.aside (G:=F1') (by rw[YK];exact ⟨nd3.2.1,nd3.1,λx hx y hy e=>nd3.2.2 y hy x hx e.symm⟩) b1).swap;exact ⟨h2,a2',c2',h3,F1',F2',e2,e3,r2',r3,m3.trans m5⟩
end


def Ed (t c:Int):Int:=if t>c then t else c
section
variable {lo:Nat}{ro:Bool}{h:Heap}{F F':List Nat}{a a':Pq}{c c':Nq}
end


variable {p:Place}
def IP (p:Place) (f:Nat):Bool:=match GS p f with
 | some v=>EH p.chain 0&&BT v.past (Bq p.chain)
 | none=>false
def C4 (p:Place) (f:Int):Bool:=Af f 0 2&&IP p f.toNat
def IQ (p:Place) (f:Nat):Place:=match GS p f with
 | some v=>CC (FD p 0 (Ed v.tag.time p.clock) v)
 | none=>p
def Dt (p:Place) (f:Int):Place:=bif C4 p f then IQ p f.toNat else p
theorem Lu (h:Ar p=true) {f:Nat} (hf:f<p.got.length) {v:Ver} (hv:v∈p.got[f]):Ck v=true:=by obtain ⟨_,h2⟩:=EV (Pn h hf);obtain ⟨i,hi,rfl⟩:=Zt.1 hv;exact (h2 i hi).1
theorem Ra (h:Ar p=true):(D2 p.chain).length=4:=by have h0:=Et h;rw[Mk h0];exact Cl (Bw ((Dh (AJ h).2.2.2.1).2 _ (YJ h0))).1
theorem Mc {f:Nat} (hf:f<p.got.length):(∃ i,∃ hi:i<p.got[f].length,CP (FM (D2 p.chain)) p.got[f] 0=(i:Int)/\GS p f=some p.got[f][i])\/(CP (FM (D2 p.chain)) p.got[f] 0 = -1/\GS p f=none):=by
 unfold GS;rw[Gm hf];rcases Jn (p:=FM (D2 p.chain)) (l:=p.got[f]) (k:=0) with ⟨i,hi,h1,h2⟩ | h
 ·exact .inl ⟨i,hi,by rw[h1,Zf],h2⟩
 ·exact .inr h
theorem Vv {t c:Int} (h:decide (t>c)=true):Ed t c=t:=by unfold Ed;rw[if_pos (of_decide_eq_true h)]
theorem Vx {t c:Int} (h:decide (t>c)=false):Ed t c=c:=by unfold Ed;rw[if_neg (of_decide_eq_false h)]
section
variable {lo:Nat}{h:Heap}{F F':List Nat}{a a':Pq}{c c':Nq}
theorem LL {f:Nat}{a1 a2 a3:Pq}{c1 c2 c3:Nq}{F1 F3:List Nat} (hs1:RNodes false h [.sl 2 a1 p.chain.length c1] p.chain F1) (hs3:RVss false h [.sl 1 a3 p.got.length c3] p.got F3)
  (hok:Ar p=true) (hf:f<p.got.length) (hn:GF p):Ae lo 91 [.agg (p.cs a1 c1 a2 c2 a3 c3),Iv (f:Nat)] h=some (.bool (IP p f),h):=by
 have h0:=Et hok;have hchain:=(AJ hok).2.2.2.1;have hhl:=Ra hok;have hky:∀ v∈p.got[f],0<=v.key/\v.key<(D2 p.chain).length:=λv hv=>by have:=(BC (Lu hok hf hv)).1;omega
 have hgn:p.got[f].length<=1048576:=(hn.2.2.2 _ (YJ hf)).1;suffices hq:∃ h',_=some (V.bool (IP p f),h') from by obtain ⟨h',e⟩:=hq;exact Kf e
 rw[IU hs1 hs3 h0 hf hky hgn];simp only[Ac,Aa];unfold IP;rcases Mc hf with ⟨i,hi,e1,e2⟩ | ⟨e1,e2⟩
 ·rw[e1,e2,Aj (by omega),Ku hs1 h0];simp only[Ac,AC];cases hr:EH p.chain 0 with
  | false=>exact ⟨h,rfl⟩
  | true =>
   obtain ⟨o3,s3,b3,d3,G3,ha3,ho3,e3,q3,_⟩:=hs3.get hf;obtain ⟨o4,s4,b4,d4,G4,ha4,_,_,_,ho43,_,_,_,_,e4,q4,_⟩:=q3.all hi;obtain ⟨v5,h5,F5,e5,r5,m5⟩:=Ik (lo:=h.length) hs1 (YH _) hn.1 h0;obtain ⟨a6,c6,e6,r6⟩:=r5.form;rw[Ao,Ad hf];simp only[ha3,Ag,BA,ho3,Ab,e3,Ai];rw[Ad hi];simp only[ha4,Ag,BA,ho43,Ab,e4,Ai];rw[e5];simp only[Ac,A3,Ab,e6,Ai];rw[FW (m5.keep0 rtags_ok q4) r6 (Cp (BC (Lu hok hf (YJ hi))).2.2.2.1) (LH hchain)];simp only[Ac,AC];cases BT p.got[f][i].past (Bq p.chain)
   ·exact ⟨h5,rfl⟩
   ·exact ⟨h5,rfl⟩
 ·rw[e1,e2,Ak (by omega)];exact ⟨h,rfl⟩
theorem Qn {f:Nat}{a1 a2 a3:Pq}{c1 c2 c3:Nq}{F1 F2 F3:List Nat} (hs1:RNodes false h [.sl 2 a1 p.chain.length c1] p.chain F1) (hs2:RVers false h [.sl 6 a2 p.log.length c2] p.log F2) (hs3:RVss false h [.sl 1 a3 p.got.length c3] p.got F3)
  (hok:Ar p=true) (hf:f<p.got.length) (hn:GF p) (ht:IP p f=true) (hnd:(F1++(F2++F3)).Nodup) (hlo:∀ b∈F1++(F2++F3),lo<=b) (hl:lo<=h.length) :
  ∃ a2' c2' h' F',Ae lo 92 [.agg (p.cs a1 c1 a2 c2 a3 c3),Iv (f:Nat)] h=some (.agg ((IQ p f).cs a1 c1 a2' c2' a3 c3),h')/\Jy false h' ((IQ p f).cs a1 c1 a2' c2' a3 c3) (IQ p f) F'/\Mv h (F1++(F2++F3)) h' F':=by
 have h0:=Et hok;have hhl:=Ra hok;have hky:∀ v∈p.got[f],0<=v.key/\v.key<(D2 p.chain).length:=λv hv=>by have:=(BC (Lu hok hf hv)).1;omega
 have hgn:p.got[f].length<=1048576:=(hn.2.2.2 _ (YJ hf)).1;have hti:=CB hok;have hti':Tidy 10 20 100 p:=⟨YD hti.len (by decide),λx hx=>by have:=hti.node x hx;exact ⟨this.1,YD this.2.1 (by decide),this.2.2⟩,⟨YD hti.log.1 (by decide),hti.log.2⟩,hti.got.1,λl hl=>⟨YD (hti.got.2 l hl).1 (by decide),(hti.got.2 l hl).2⟩⟩;unfold IP at ht;unfold IQ;rcases Mc hf with ⟨i,hi,e1,e2⟩ | ⟨e1,e2⟩
 ·rw[e2];simp only;have hv:=Lu hok hf (YJ hi);obtain ⟨o3,s3,b3,d3,G3,ha3,ho3,e3,q3,hG3⟩:=hs3.get hf;obtain ⟨o4,s4,b4,d4,G4,ha4,ho4,e4,q4,hG4⟩:=q3.get hi;rw[<- YV] at hnd hlo;have hnd':=hnd;rw[YK] at hnd';have hdis:∀ y∈F3,y∉F1++F2:=λy hy hm=>hnd'.2.2 y hm y hy rfl;obtain ⟨h2,a2',c2',h3,F1',F2',e5,e6,r1,r2,m⟩:=IV (lo:=lo) (v:=p.got[f][i]) (k:=0) (t:=Ed p.got[f][i].tag.time p.clock) (a3:=a3) (c3:=c3) hs1 hs2 q4 (λy hy hm=>hdis y (hG3 y (hG4 y hy)) (by simp[hm])) hnd'.1 (λy hy=>hlo y (by rw[YF];exact .inl hy)) hl h0 ((BC hv).1) hti' (IO hv);have b3':∀ y∈F3,y<h.length:=rvss_ok.bd _ _ _ _ hs3;have m':=m.aside (G:=F3) hnd b3';have hs3':=m.keep rvss_ok hs3 hdis;have hcs:∀ t,(FD p 0 t p.got[f][i]).cs a1 c1 a2 c2 a3 c3 = [Iv p.me,Iv t,.sl 2 a1 p.chain.length c1,.sl 6 a2 p.log.length c2,.sl 1 a3 p.got.length c3,.bool p.fell]:=λt=>by simp only[Place.cs,FD,HI]
  rw[hcs] at e6;rw[<- YV];refine ⟨a2',c2',h3,F1'++F2'++F3,NA ?_,⟨_,_,_,_,_,_,rfl,_,_,_,F1',F2',F3,rfl,by rw[YV],r1,r2,hs3'⟩,m'⟩;rw[Ad hf];simp only[ha3,Ag,BA,ho3,Ab,e3,Ai];rw[<- ha3];have:=IU (lo:=h.length) (a2:=a2) (c2:=c2) hs1 hs3 h0 hf hky hgn;simp only[Place.cs] at this;rw[this,e1];simp only[Ac,Aa];rw[Ad hi];simp only[ha4,Ag,BA,ho4,Ab,Aa,e4,Dg,Bk,Ai];cases hd:decide (p.got[f][i].tag.time>p.clock)
  ·rw[Vx hd] at e6 ⊢;rw[Au];rw[show (0:Int)=((0:Nat):Int) from rfl] at *
   simp only[Ver.cs] at e5;rw[e5];simp only[Ac,A3,Ab,Ah,Ai];rw[e6];simp only[Ac,Place.cs,A3,Ab,Aa,Ah,Bk,Ai]
  ·rw[Vv hd] at e6 ⊢;rw[Ao];rw[show (0:Int)=((0:Nat):Int) from rfl] at *
   simp only[Ver.cs] at e5;rw[e5];simp only[Ac,A3,Ab,Ah,Ai];rw[e6];simp only[Ac,Place.cs,A3,Ab,Aa,Ah,Bk,Ai]
 ·rw[e2] at ht;cases ht
end


theorem RP {p:Place} (h:Ar p=true):Tidy 10 20 100 p:=by have hti:=CB h;exact ⟨YD hti.len (by decide),λx hx=>by have:=hti.node x hx;exact ⟨this.1,YD this.2.1 (by decide),this.2.2⟩,⟨YD hti.log.1 (by decide),hti.log.2⟩,hti.got.1,λl hl=>⟨YD (hti.got.2 l hl).1 (by decide),(hti.got.2 l hl).2⟩⟩
section
variable {lo:Nat}{h:Heap}{F F':List Nat}{a a':Pq}{c c':Nq}
end


theorem EAll.mono {α:Type}{A B:Rel α}{h:Heap} (hAB:∀ row x F,A h row x F->B h row x F):∀ {rows:List (List V)}{l:List α}{Fs:List (List Nat)},EAll A h rows l Fs->EAll B h rows l Fs
 | [],[],[],_=>trivial
 | _ :: _,_ :: _,_ :: _,⟨h1,h2⟩=>⟨hAB _ _ _ h1,EAll.mono hAB h2⟩
 | [],[],_ :: _,h=>h.elim
 | [],_ :: _,_,h=>h.elim
 | _ :: _,[],_,h=>h.elim
 | _ :: _,_ :: _,[],h=>h.elim
theorem Sli.mono {α:Type}{A B:Rel α}{h:Heap}{R e:Nat}{cs:List V}{l:List α}{F:List Nat} (hAB:∀ row x F,A h row x F->B h row x F) (hs:Sli false R e A h cs l F):Sli false R e B h cs l F:=by
 obtain ⟨R',a,c,e1,g⟩:=hs;refine ⟨R',a,c,e1,?_⟩;cases a with
 | none=>exact g
 | some p =>obtain ⟨b,i⟩:=p;obtain ⟨g0,rs,Fs,g1,g2,g3,g4,g5,g6⟩:=g;exact ⟨g0,rs,Fs,g1,g2,g3,g4,g5.mono hAB,g6⟩
def X0:Rel Node:=λh row x F=>RNode false h row x F/\∃ s a n k,row = [s,.sl 6 a n (some k)]
abbrev RNodesC:Rel (List Node):=Sli false 2 (OM false) X0
theorem RNodesC.up {h:Heap}{cs:List V}{l:List Node}{F:List Nat} (hs:RNodesC h cs l F):RNodes false h cs l F:=Sli.mono (λ_ _ _ h=>h.1) hs
section
variable {lo:Nat}{h:Heap}{F F' G:List Nat}{a a' av:Pq}{c c' cv:Nq}
end


variable {Fs:List (List Nat)}
theorem EAll.erase {α:Type}{El:Rel α}{h:Heap}:∀ {rows:List (List V)}{l:List α}{Fs:List (List Nat)},EAll El h rows l Fs->∀ (k:Nat),EAll El h (rows.eraseIdx k) (l.eraseIdx k) (Fs.eraseIdx k)
 | [],[],[],_,k=>by simp[EAll]
 | _ :: _,_ :: _,_ :: _,⟨_,h2⟩,0=>h2
 | _ :: _,_ :: _,_ :: _,⟨h1,h2⟩,k+1=>⟨h1,h2.erase k⟩
 | [],[],_ :: _,h,_=>h.elim
 | [],_ :: _,_,h,_=>h.elim
 | _ :: _,[],_,h,_=>h.elim
 | _ :: _,_ :: _,[],h,_=>h.elim
theorem Iq {k:Nat}{Fk:List Nat} (hk:Fs[k]?=some Fk) (hnd:Fs.flatten.Nodup):(Fs.eraseIdx k).flatten.Nodup/\(∀ y∈(Fs.eraseIdx k).flatten,y∈Fs.flatten/\y∉Fk):=by
 induction Fs generalizing k with
 | nil=>simp at hk
 | cons F Fs ih =>
  rw[Y5,YK] at hnd;obtain ⟨n1,n2,n3⟩:=hnd;cases k with
  | zero =>simp at hk;subst hk;rw[List.eraseIdx_cons_zero];exact ⟨n2,λy hy=>⟨by simp only[Y5,YF];exact .inr hy,λhm=>n3 y hm y hy rfl⟩⟩
  | succ k =>
   obtain ⟨g1,g2⟩:=ih (k:=k) (by simpa using hk) n2;rw[List.eraseIdx_cons_succ,Y5,YK];refine ⟨⟨n1,g1,λx hx y hy=>n3 x hx y (g2 y hy).1⟩,λy hy=>?_⟩;rcases YF.1 hy with hy | hy
   ·refine ⟨by simp only[Y5,YF];exact .inl hy,λhm=>?_⟩;exact n3 y hy y (GR (by simpa using hk) hm) rfl
   ·exact ⟨by simp only[Y5,YF];exact .inr (g2 y hy).1,(g2 y hy).2⟩


variable {l:List Node}
def Fy (l:List Node) (k:Nat):List Node:=match l[k]? with
 | some x=>l.set k ⟨x.store,x.wait.eraseIdx 0⟩
 | none=>l
def Sm (l:List Node) (k:Nat):Bool:=match l[k]? with
 | some x=>decide (0<x.wait.length)&&EH l (k+1)
 | none=>false
def Cx (l:List Node) (k:Int):Bool:=Af k 0 ((l.length:Int) - 2)&&Sm l k.toNat
def Fa (l:List Node) (k:Nat):List Node:=match l[k]? with
 | some x=>match x.wait[0]? with
  | some v=>FE (Fy l k) (k+1) v
  | none=>l
 | none=>l
theorem Ka {k:Nat} (hk:k<l.length):Fy l k=l.set k ⟨l[k].store,l[k].wait.eraseIdx 0⟩:=by unfold Fy;rw[CF hk]
theorem J9 {k:Nat}:(Fy l k).length=l.length:=by unfold Fy;split<;>simp
theorem Iw {k:Nat} (hk:k<l.length):Sm l k=(decide (0<l[k].wait.length)&&EH l (k+1)):=by unfold Sm;rw[CF hk]
theorem Uk {k:Nat} (hk:k<l.length) (h0:0<l[k].wait.length):Fa l k=FE (Fy l k) (k+1) (l[k].wait[0]'h0):=by unfold Fa;rw[CF hk];simp only;rw[CF h0]
theorem Sli.at2 {α:Type}{El:Rel α} (ok:El.Ok) {h:Heap}{R R' e n k lo:Nat}{a:Pq}{c:Nq}{l:List α}{F:List Nat} (hs:Sli false R e El h [.sl R' a n c] l F) (hk:k<l.length) (hnd:F.Nodup) (hlo:∀ b∈F,lo<=b) :
  ∃ b i rs row G,a=some (b,i)/\b∈F/\b∉G/\h[b]?=some (.rows R e false rs)/\rs[i+k]?=some row/\El h row l[k] G/\(∀ y∈G,y∈F)/\G.Nodup /\
   (∀ h1 G1 j cs row' x',Mv h G h1 G1->paste row j cs=some row'->El h1 row' x' G1 ->
    ∃ h2 F',st lo h1 b (i+k) j cs=some h2/\Sli false R e El h2 [.sl R' a n c] (l.set k x') F'/\Mv h F h2 F'/\(∀ y,y≠b->h2[y]?=h1[y]?)/\∀ y∈F',(y∈F/\y∉G)\/y∈G1):=by
 have hbd:=(Sli.ok ok).bd _ _ _ _ hs;obtain ⟨b,i,rs,row,G,ha,hbF,hbG,hb,hrow,hel,hGF,hGn,put⟩:=hs.put ok.fr hk hnd;have hblt:b<h.length:=hbd b hbF;refine ⟨b,i,rs,row,G,ha,hbF,hbG,hb,hrow,hel,hGF,hGn,λh1 G1 j cs row' x' m hp hx=>?_⟩;have hbG1:b∉G1:=λhm=>by
  rcases m.sub b hm with h1 | h1
  ·exact hbG h1
  ·omega
 have hb1:h1[b]?=some (.rows R e false rs):=by rw[m.fr b hblt hbG];exact hb
 have hb1lt:b<h1.length:=YT hblt m.le;have e2:=DQ hb1 (hlo b hbF) hrow hp;have fr2:∀ y,y≠b->(h1.set b (.rows R e false (rs.set (i+k) row')))[y]?=h1[y]?:=λy hy=>YG (Ne.symm hy);obtain ⟨F',p1,p2,p3,_⟩:=put (h1.set b (.rows R e false (rs.set (i+k) row'))) row' x' G1 (by simp[hb1lt]) (λy hy hyb hyG=>by rw[fr2 y hyb];exact m.fr y (hbd y hy) hyG)
  (ok.fr _ _ _ _ _ hx λy hy=>fr2 y λe=>hbG1 (e ▸ hy)) m.nd (λy hy hyF=>by
  rcases m.sub y hy with h1 | h1
  ·exact h1
  ·have:=hbd y hyF;omega)
 refine ⟨_,F',e2,p1,⟨by simpa using m.le,λy hy hyF=>?_,p3,λy hy=>?_⟩,fr2,p2⟩
 ·rw[fr2 y λe=>hyF (e ▸ hbF)];exact m.fr y hy λhg=>hyF (hGF y hg)
 ·rcases p2 y hy with h1 | h1
  ·exact .inl h1.1
  ·refine (m.sub y h1).imp (hGF y) λh=>by simpa using h
section
variable {lo:Nat}{ro:Bool}{h:Heap}{F F' G:List Nat}{a a' av:Pq}{c c' cv:Nq}
theorem U9 {l:List Ver} (hs:RVers false h [.sl 6 a l.length c] l F) (h0:0<l.length) (hnd:F.Nodup) (hl:lo<=h.length) (hn:l.length<=1048576) :
  ∃ o s av cv Gv,a=some o/\ld h o.1 (o.2+0) 0 6=some [Iv l[0].key,Iv l[0].tag.time,Iv l[0].tag.place,s,.str l[0].text,.bool l[0].gone]/\(∀ {T:Type} (K:Pq->Nat->Nq->Option T),eS 2 s K=K av l[0].past.length cv)/\RTags false h [.sl 2 av l[0].past.length cv] l[0].past Gv /\
   ∃ a' c' h' F',(∀ {T:Type} (K:V->Heap->Option T),(Ay a l.length c (some (Iv 1)) none none λa n c=>Ap 6 (h ++ [.rows 6 105 false []]) (.sl 6 a n c) λxs=>CJ lo 105 6 72 (.sl 6 (some (h.length,0)) 0 (some 0)) xs (h ++ [.rows 6 105 false []]) K)=K (.sl 6 a' (l.eraseIdx 0).length c') h') /\
    RVers false h' [.sl 6 a' (l.eraseIdx 0).length c'] (l.eraseIdx 0) F'/\Mv h F h' F'/\(∀ y∈Gv,y∉F'/\y∈F)/\∀ y,y<h.length->h'[y]?=h[y]?:=by
 have hbd:=rvers_ok.bd _ _ _ _ hs;obtain ⟨R1,a1,c1,e1,g⟩:=hs;injection e1 with e1 _;injection e1 with e0 e2 _ e3;subst e2;subst e3;cases a with
 | none=>obtain ⟨rfl,_⟩:=g;simp at h0
 | some p =>
 obtain ⟨b,i⟩:=p;obtain ⟨_,rs,Fs,g1,g2,g3,_,g5,rfl⟩:=g;obtain ⟨row,Fk,hrow,hFk,hel⟩:=g5.get (CF h0);rw[Y2] at hnd;obtain ⟨f1,f2⟩:=Iq hFk hnd.2;have hri:rs[i]?=some row:=by rw[ZH,if_pos h0,Zc] at hrow;exact hrow
 obtain ⟨s,av,cv,rfl,es,hp⟩:=hel.form;have hil:i<rs.length:=by omega
 have hcut:((rs.drop i).take l.length).eraseIdx 0=(rs.drop (i+1)).take (l.length - 1):=by rw[YN hil,show l.length=(l.length - 1)+1 by omega,List.take_succ_cons,List.eraseIdx_cons_zero];simp
 have g6:=g5.erase 0;rw[hcut] at g6;have hlen:=ZD h0;generalize hxs:(rs.drop (i+1)).take (l.length - 1)=xs at g6;have hxl:xs.length=l.length - 1:=by rw[<- hlen];exact g6.len.1
 have m0:Mv h [] (h ++ [.rows 6 105 false []]) [h.length]:=Mv.last;have hb1:(h ++ [.rows 6 105 false []])[b]?=some (.rows 6 (SR false) false rs):=by rw[m0.fr b (hbd b (by simp)) (by simp)];exact g1
 have s3:∀ {T:Type} (K:List (List V)->Option T),(Ay (some (b,i)) l.length c (some (Iv 1)) none none λa6 n7 c8=>Ap 6 (h ++ [.rows 6 105 false []]) (.sl 6 a6 n7 c8) K)=K xs:=λK=>by
  unfold Ay E8 Ic IX;simp only[Aa,Z7];rw[DA ⟨by omega,by omega⟩,show ((1:Int)).toNat=1 from rfl];have key:∀ c8:Nq,Ap 6 (h ++ [.rows 6 105 false []]) (.sl 6 (some (b,i+1)) (l.length - 1) c8) K=K xs:=λc8=>by
   simp only[Ap,Kc,GN];cases hm:l.length - 1 with
   | zero =>have hx0:xs = []:=YM (by omega);rw[hx0]
   | succ m =>
    simp only;rw[show De (h ++ [.rows 6 105 false []]) b (i+1) (m+1)=some xs by
     simp only[De,Heap.rows?,hb1,Za];rw[Fz (by omega),<- hm,hxs]]
    rfl
  cases c with
  | none=>exact key none
  | some N =>
   obtain ⟨hN,_⟩:=g3 N rfl;unfold Nk;simp only;cases hb:Nat.beq N 1 with
   | false=>rw[Au];exact key _
   | true =>have:=YL hb;have hx0:xs = []:=YM (by omega);rw[Ao,show l.length - 1=0 by omega,hx0];simp[Ap,A8]
 have hfl:∀ y∈(Fs.eraseIdx 0).flatten,y<h.length:=λy hy=>hbd y (by simp[(f2 y hy).1]);refine ⟨(b,i),s,av,cv,Fk,rfl,by rw[C2 g1 (by rw[ZK];exact hri)];rfl,es,hp,?_⟩;have hFkb:∀ y∈Fk,y∈Fs.flatten:=λy hy=>GR hFk hy;by_cases he:l.eraseIdx 0 = []
 ·have hx0:xs = []:=YM (by rw[hxl,<- hlen,he];rfl);refine ⟨some (h.length,0),some 0,_,[h.length],λK=>by rw[s3,hx0];simp only[CJ];rw[he];rfl,by rw[he];exact Sli.fresh (YH _),?_,λy hy=>?_,λy hy=>m0.fr y hy (by simp)⟩
  ·exact m0.wide (by simp)
  ·have:=hbd y (by simp[hFkb y hy]);exact ⟨by simp;omega,by simp[hFkb y hy]⟩
 ·have hfresh:RVers false (h ++ [.rows 6 (SR false) false []]) [.sl 6 (some (h.length,0)) 0 (some 0)] [] [h.length]:=Sli.fresh (YH _);obtain ⟨a',c',h',F',p1,p2,p3,p4,p5,p6⟩:=Sli.push (lo:=lo) (bytes:=72) rver_ok.fr hfresh (xs:=xs) (ys:=l.eraseIdx 0) (Gs:=Fs.eraseIdx 0) (g6.fr rver_ok.fr λy hy=>m0.fr y (hfl y hy) (by simp)) (by decide) (by rw[hlen];simp;omega) (by simp;omega) (by simp;omega)
   (by rw[Zl,Y9,Y2];exact ⟨λhm=>by have:=hfl _ hm;omega,f1⟩) (λy hy=>by
    rw[Zl,Y9,YW] at hy;rcases hy with rfl | hy
    ·simp
    ·have:=hfl y hy;simp;omega) he
  simp only[ZW,Zf,Y9] at p1 p2;have hfr:∀ y,y<h.length->h'[y]?=h[y]?:=λy hy=>by rw[p4 y (by simp;omega) (by simp;omega)];exact m0.fr y hy (by simp)
  refine ⟨a',c',h',F',λK=>by rw[s3];exact p1 K,p2,⟨by simp at p3;omega,λy hy _=>hfr y hy,p6,λy hy=>?_⟩,λy hy=>⟨λhm=>?_,by simp[hFkb y hy]⟩,hfr⟩
  ·simp at p3;rcases p5 y hy with g | g
   ·rw[Zl,Y9,YW] at g;rcases g with rfl | g
    ·exact .inr (by omega)
    ·exact .inl (by simp[(f2 y g).1])
   ·simp at g;exact .inr (by omega)
  ·have hyl:=hbd y (by simp[hFkb y hy]);rcases p5 y hm with g | g
   ·rw[Zl,Y9,YW] at g;rcases g with rfl | g
    ·omega
    ·exact (f2 y g).2 hy
   ·simp at g;omega
theorem RY {k:Int} (hs:RNodes ro h [.sl 2 a l.length c] l F) (hn:l.length<=1048576):Ae lo 85 [.agg [.sl 2 a l.length c],Iv k] h=some (.bool (Cx l k),h):=by
 refine P0 (h':=h) ?_;rw[wr (by omega) (by omega),A7,Ac,AC];unfold Cx;cases hw:Af k 0 ((l.length:Int) - 2) with
 | false=>rw[Au];rfl
 | true =>
 simp only[Af,Cz,decide_eq_true_eq] at hw;obtain ⟨f,rfl⟩:∃ f:Nat,k=(f:Int):=⟨k.toNat,by omega⟩;have hk:f<l.length:=by omega
 have hk1:f+1<l.length:=by omega
 obtain ⟨o,s1,s2,b1,d1,b2,d2,G1,G2,ha,_,_,ho2,_,e2,_⟩:=hs.get hk;obtain ⟨o',s1',s2',b1',d1',b2',d2',G1',G2',ha',_,_,ho2',_,e2',_⟩:=hs.get hk1;have:o=o':=by rw[ha] at ha';injection ha'
 subst this;rw[BA,Iw hk,GI hk1,Ao,Ad hk,ha,Ag,ho2,Ag,Ab,Ai,e2];by_cases h0:0<l[f].wait.length
 ·rw[Aj (by omega),As (by omega),Ad hk1,Ag,BA,ho2',Ag,Ab,Ai,e2',decide_eq_true h0];by_cases h6:l[f+1].wait.length<6
  ·rw[Aj (by omega),decide_eq_true h6];rfl
  ·rw[Ak (by omega),decide_eq_false h6];rfl
 ·rw[Ak (by omega),decide_eq_false h0];rfl
def Vo (x:Node):Prop:=DV 20 x/\∀ v∈x.wait,0<=v.key/\v.key<=3
theorem Qp {k:Nat} (hs:RNodes false h [.sl 2 a l.length c] l F) (hk:k+1<l.length) (h0:0<(l[k]'(by omega)).wait.length) (hnd:F.Nodup) (hlo:∀ b∈F,lo<=b) (hl:lo<=h.length) (hn:FH l) (hx:∀ x∈l,Vo x) :
  ∃ h' F',Ae lo 86 [.agg [.sl 2 a l.length c],Iv (k:Nat)] h=some (.agg [.sl 2 a l.length c],h')/\RNodes false h' [.sl 2 a l.length c] (Fa l k) F'/\Mv h F h' F':=by
 have hk':k<l.length:=by omega
 have hn1:=hn.1;suffices hq:∃ h' F',_=some (V.agg [.sl 2 a l.length c],h')/\RNodes false h' [.sl 2 a l.length c] (Fa l k) F'/\Mv h F h' F' from hq.imp λh' hq=>hq.imp λF' hq=>⟨NG hq.1,hq.2⟩
 obtain ⟨b,i,rs,row,G0,ha,hbF,hbG,hb,hrow,hel,hGF,hGn,put⟩:=hs.at2 rnode_ok hk' hnd hlo;obtain ⟨t1,t2,F1,F2,rfl,rfl,r1,r2⟩:=hel;obtain ⟨a2,c2,e2,r2'⟩:=r2.form;have hGn0:=hGn;rw[YK] at hGn;obtain ⟨o,s,av,cv,Gv,ho,hld,es,hp,a3,c3,h3,F3,e3,r3,m3,hGv,fr3⟩:=U9 (lo:=lo) r2' h0 hGn.2.1 hl (hn.2 _ (YJ hk')).2.1;have b1:∀ y∈F1,y<h.length:=rvers_ok.bd _ _ _ _ r1;have m4:=(m3.aside (G:=F1) (by rw[YK];exact ⟨hGn.2.1,hGn.1,λx hx y hy e=>hGn.2.2 y hy x hx e.symm⟩) b1).swap;have r1':RVers false h3 [t1] l[k].store F1:=rvers_ok.fr _ _ _ _ _ r1 λy hy=>fr3 y (b1 y hy);obtain ⟨h4,F4,e4,r4,m5,fr4,sub4⟩:=put h3 (F1++F3) 1 [.sl 6 a3 (l[k].wait.eraseIdx 0).length c3] [t1,.sl 6 a3 (l[k].wait.eraseIdx 0).length c3] ⟨l[k].store,l[k].wait.eraseIdx 0⟩ m4 rfl ⟨_,_,F1,F3,rfl,rfl,r1',r3⟩;rw[<- Ka hk'] at r4;have hln:=J9 (l:=l) (k:=k);have hGvG:∀ y∈Gv,y∈F1++F2:=λy hy=>by simp[(hGv y hy).2]
 have hGvl:∀ y∈Gv,y<h.length:=rtags_ok.bd _ _ _ _ hp;have hd:∀ y∈Gv,y∉F4:=λy hy hm=>by
  rcases sub4 y hm with g | g
  ·exact g.2 (hGvG y hy)
  ·rcases YF.1 g with g | g
   ·exact hGn.2.2 y g y (hGv y hy).2 rfl
   ·exact (hGv y hy).1 g
 have hp4:RTags false h4 [.sl 2 av (l[k].wait[0]'h0).past.length cv] (l[k].wait[0]'h0).past Gv:=rtags_ok.fr _ _ _ _ _ hp λy hy=>by rw[fr4 y λe=>hbG (by rw[<- e];exact hGvG y hy),fr3 y (hGvl y hy)]
 have hpx:=hx _ (YJ hk');have hky:=hpx.2 _ (YJ h0);have hth:=hpx.1.2.2.2 _ (YJ h0);have hk1:k+1<(Fy l k).length:=by rw[hln];exact hk
 have hst1:(Fy l k)[k+1].store.length=4:=by
  have:(Fy l k)[k+1]=l[k+1]:=by have e:=Ka hk';rw[List.getElem_of_eq e,List.getElem_set_ne (by omega)]
  rw[this];exact (hx _ (YJ hk)).1.1
 have hnd5:FH (Fy l k):=by
  refine ⟨by rw[hln];exact hn1,λx hx'=>?_⟩;rw[Ka hk'] at hx';rcases Y4 hx' with hx' | rfl
  ·exact hn.2 x hx'
  ·have:=hn.2 _ (YJ hk');exact ⟨this.1,R4 this.2 (YD (Z8 _ _) this.2.1) λv hv=>ZS hv⟩
 rw[<- hln] at r4;obtain ⟨h5,F5,e5,r5,m6⟩:=LN (lo:=lo) (k:=k+1) (v:=l[k].wait[0]'h0) r4 hp4 hd m5.nd (λy hy=>m5.ge hl hlo y hy) (YD hl m5.le) hk1 ⟨hky.1,by omega⟩ hnd5 (by have:=hth.1;omega);rw[hln] at e5 r5;rw[<- Uk hk' h0] at r5;have hblt:b<h.length:=(DB hb).1;have ld1:ld h b (i+k) 1 1=some [t2]:=by rw[C2 hb hrow];rfl
 have ld2:ld (h ++ [.rows 6 105 false []]) b (i+k) 1 1=some [t2]:=by rw[C2 (by rw[YI hblt];exact hb) hrow];rfl
 simp only[Ver.cs] at e5;have e5':Ae lo 105 [.agg [.sl 2 a l.length c],Iv ((k:Nat)+1:Int),.agg [Iv (l[k].wait[0]'h0).key,Iv (l[k].wait[0]'h0).tag.time,Iv (l[k].wait[0]'h0).tag.place,.sl 2 av (l[k].wait[0]'h0).past.length cv,.str (l[k].wait[0]'h0).text,.bool (l[k].wait[0]'h0).gone]] h4=some (.agg [.sl 2 a l.length c],h5):=by rw[show ((k:Nat)+1:Int)=((k+1:Nat):Int) by omega];exact e5
 rw[Ad hk',ha,Ag,BA,ld1,Ag,Ab,Ai,e2,DZ ⟨by omega,by omega⟩,ho,Ag,hld,Ag,Ab,Aa,Ab,Aa,Ab,Aa,Ab,es,Ab,Dg,Ab,Bk,Ai,Ad hk',Ag,ld2,Ag,Ab,Ai,e2,e3,Ah,Ad hk',Ag,e4,Ag,wr (n:=((k:Nat):Int)+1) (by omega) (by omega),<- ha,e5',Ac,A3,Ab,Ah,Ai];exact ⟨h5,F5,rfl,r5,m5.trans m6⟩
end


variable {p:Place}
def KD (p:Place) (k:Nat):Place:=⟨p.me,p.clock,Fa p.chain k,p.log,p.got,p.fell⟩
def Du (p:Place) (k:Int):Place:=bif Cx p.chain k then CC (KD p k.toNat) else p
theorem JP {l:List Node}{k:Nat}:(Fa l k).length=l.length:=by
 unfold Fa;split
 ·split
  ·rw[HI,J9]
  ·rfl
 ·rfl
theorem T3 {nc nw nl k:Nat} (h:Tidy nc nw nl p):Tidy nc (nw+1) nl (KD p k):=by
 have h0:Tidy nc (nw+1) nl p:=⟨h.len,λx hx=>by have:=h.node x hx;exact ⟨this.1,Nat.le_succ_of_le this.2.1,this.2.2⟩,h.log,h.got⟩;unfold KD Fa;split
 ·rename_i x hk
  split
  ·rename_i v hv
   have hxm:=YS hk;have hd:Tidy nc nw nl ⟨p.me,p.clock,Fy p.chain k,p.log,p.got,p.fell⟩:=by
    refine ⟨by show (Fy p.chain k).length<=nc;rw[J9];exact h.len,λy hy=>?_,h.log,h.got⟩;have hy:y∈Fy p.chain k:=hy;unfold Fy at hy;rw[hk] at hy;rcases Y4 hy with hy | rfl
    ·exact h.node y hy
    ·obtain ⟨g1,g2,g3,g4⟩:=h.node x hxm;exact ⟨g1,YD (Z8 _ _) g2,g3,λv hv=>g4 v (ZS hv)⟩
   exact Qf hd ((h.node x hxm).2.2.2 v (YS hv))
  ·exact h0
 ·exact h0
theorem Ti (h:Ar p=true):∀ x∈p.chain,Vo x:=λx hx=>by have hno:=(Dh (AJ h).2.2.2.1).2 x hx;have ht:=Oc hno;exact ⟨⟨ht.1,YD ht.2.1 (by decide),ht.2.2⟩,λv hv=>(BC ((Bw hno).2.2 v hv)).1⟩
theorem Tb {nc nw nl:Nat} (h:Tidy nc nw nl p) (h1:nc<=10) (h2:nw<=20) (h3:nl<=100):Tidy 10 20 100 p :=
 ⟨YD h.len h1,λx hx=>by have:=h.node x hx;exact ⟨this.1,YD this.2.1 h2,this.2.2⟩,⟨YD h.log.1 h3,h.log.2⟩,h.got.1,λl hl=>⟨YD (h.got.2 l hl).1 h3,(h.got.2 l hl).2⟩⟩
theorem LE {h h1 h2:Heap}{G1 G1' G2 G2' G3:List Nat} (m1:Mv h G1 h1 G1') (m2:Mv h1 G2 h2 G2') (hnd:(G1++(G2++G3)).Nodup) (hb:∀ y∈G1++(G2++G3),y<h.length) :
  Mv h (G1++(G2++G3)) h2 (G1'++(G2'++G3))/\(∀ y∈G1',y∉G2)/\(∀ y∈G3,y∉G1)/\∀ y∈G3,y∉G2:=by
 rw[YK,YK] at hnd;obtain ⟨n2,⟨n3,n4,n5⟩,n6⟩:=hnd;have hb1:∀ y∈G1,y<h.length:=λy hy=>hb y (by simp[hy]);have hb2:∀ y∈G2,y<h.length:=λy hy=>hb y (by simp[hy]);have hb3:∀ y∈G3,y<h.length:=λy hy=>hb y (by simp[hy]);have l1:=m1.le;have l2:=m2.le;have d1:∀ y∈G1',y∉G2:=λy hy hm=>by
  rcases m1.sub y hy with g | g
  ·exact n6 y g y (by simp[hm]) rfl
  ·have:=hb2 y hm;omega
 have d2:∀ y∈G3,y∉G1:=λy hy hm=>n6 y hm y (by simp[hy]) rfl;have d3:∀ y∈G3,y∉G2:=λy hy hm=>n5 y hm y hy rfl;have s1:∀ y∈G1',y<h1.length:=m1.lt hb1;refine ⟨⟨by omega,λy hy hF=>?_,?_,λy hy=>?_⟩,d1,d2,d3⟩
 ·simp only[YF,not_or] at hF;rw[m2.fr y (by omega) hF.2.1,m1.fr y hy hF.1]
 ·rw[YK,YK];refine ⟨m1.nd,⟨m2.nd,n4,λx hx y hy e=>?_⟩,λx hx y hy e=>?_⟩
  ·subst e;rcases m2.sub x hx with g | g
   ·exact d3 x hy g
   ·have:=hb3 x hy;omega
  ·subst e;rcases YF.1 hy with hy | hy
   ·rcases m2.sub x hy with g | g
    ·exact d1 x hx g
    ·have:=s1 x hx;omega
   ·rcases m1.sub x hx with g | g
    ·exact d2 x hy g
    ·have:=hb3 x hy;omega
 ·simp only[YF] at hy ⊢;rcases hy with hy | hy | hy
  ·rcases m1.sub y hy with g | g
   ·exact .inl (.inl g)
   ·exact .inr ⟨g.1,by omega⟩
  ·rcases m2.sub y hy with g | g
   ·exact .inl (.inr (.inl g))
   ·exact .inr ⟨by omega,g.2⟩
  ·exact .inl (.inr (.inr hy))
section
variable {lo:Nat}{h:Heap}{F F':List Nat}{a a':Pq}{c c':Nq}
theorem LJ {a1 a2 a3:Pq}{c1 c2 c3:Nq}{F1 F2:List Nat} (hs1:RNodes false h [.sl 2 a1 p.chain.length c1] p.chain F1) (hs2:RVers false h [.sl 6 a2 p.log.length c2] p.log F2)
  (h0:0<p.chain.length) (ht:Tidy 10 20 100 p) (hd:∀ b∈F1,b∉F2) (hnd:F2.Nodup) (hlo:∀ b∈F2,lo<=b) (hl:lo<=h.length) :
  ∃ a2' c2' h' F2',Ae lo 87 [.agg (p.cs a1 c1 a2 c2 a3 c3)] h=some (.agg ((CC p).cs a1 c1 a2' c2' a3 c3),h')/\RVers false h' [.sl 6 a2' (CC p).log.length c2'] (CC p).log F2'/\Mv h F2 h' F2':=by
 obtain ⟨x,hx,hxe⟩:=Mb h0;have hxn:=ht.node x hx;exact Ks hs1 hs2 h0 (by rw[hxe];exact hxn.1) hd hnd hlo hl (YD ht.len (by decide)) (YD ht.log.1 (by decide)) (λw hw=>by rw[hxe] at hw;have:=(hxn.2.2.1 w hw).1;omega)
end


variable {v:Ver}
theorem HU {u:Ver}:AZ u v=true<->u.tag.time<v.tag.time\/(u.tag.time=v.tag.time/\u.tag.place<v.tag.place):=by simp[AZ,Bx]
theorem Uw {u:Ver}:AZ u v=false<->¬ (u.tag.time<v.tag.time\/(u.tag.time=v.tag.time/\u.tag.place<v.tag.place)):=by rw[<- HU,Bool.not_eq_true]
def Er (v:Ver):List Ver->List Ver
 | [] => [v]
 | u :: r=>bif AZ u v then u :: Er v r else v :: u :: r
theorem Je {v:Ver}:∀ {l:List Ver},(Er v l).length=l.length+1
 | []=>rfl
 | u :: r=>by
  simp only[Er];cases AZ u v with
  | true=>simp[Je (l:=r)]
  | false=>simp
theorem insF_mem {v x:Ver}:∀ {l:List Ver},x∈Er v l<->x=v\/x∈l
 | []=>by simp[Er]
 | u :: r=>by
  simp only[Er];cases AZ u v with
  | true =>
   rw[cond_true,YW,insF_mem (l:=r),YW];constructor
   ·rintro (h | h | h)
    ·exact .inr (.inl h)
    ·exact .inl h
    ·exact .inr (.inr h)
   ·rintro (h | h | h)
    ·exact .inr (.inl h)
    ·exact .inl h
    ·exact .inr (.inr h)
  | false=>simp
section
variable {lo:Nat}{h:Heap}{F F' G:List Nat}{a a' av:Pq}{c c' cv:Nq}
def Yb (l:List Ver):List Ver:=l.foldl (λacc v=>Er v acc) []
end
end Go.Proofs.YtoocmbhkaghgnaaGreat
