/- Part 3 of what is shown for the law Gwt, whatever the input; no condition of its own. -/
import Derived.Test.YtoihoaaiadagaaaGreatBGwt2
set_option linter.unusedVariables false
set_option linter.unusedSimpArgs false
set_option linter.unnecessarySimpa false
set_option maxRecDepth 100000
namespace Go.Proofs.YtoihoaaiadagaaaGreat
open Go T
noncomputable section

def CO lo a0 n0 c0 a3 n3 c3 x4 h:=
 LA 181 Tryz.f181 221311 0 111 lo ⟨[(0,.sl 6 a0 n0 c0),(3,.sl 6 a3 n3 c3),(4,Iv x4)],[],h⟩
theorem QY {lo n0:Nat}{a0:Pq}{c0:Nq}{h:Heap}{r:V×Heap} (hk:(CO lo a0 n0 c0 (some (h.length,0)) 0 (some 0) 0 (h ++ [.rows 6 34 false []]))=some r) :
  Ad lo 181 [.sl 6 a0 n0 c0] h=some r :=
 eK Tryz.func181 hk
theorem CO.e {lo n0 n3:Nat}{a0 a3:Pq}{c0 c3:Nq}{x4:Int}{h:Heap} :
  CO lo a0 n0 c0 a3 n3 c3 x4 h=br (decide (x4<(n0:Int))) (Ao x4 n0 (eO a0 fun v=>eO (ld h v.1 (v.2+x4.toNat) 0 6) fun v=>eC v fun v l=>eI .i64 v fun v=>eC l fun l c=>eI .i64 l fun l=>eC c fun c n=>eI .i64 c fun c=>eC n fun n a=>eS 2 n fun n o s=>eC a fun a b=>eT a fun a=>eC b fun b x=>eBv b fun b=>eN x (Ai (Ad lo 164 [.agg [Iv v,Iv l,Iv c,.sl 2 n o s,.str a,.bool b]] h) fun v l=>eA v fun v=>eC v fun v c=>eI .i64 v fun v=>eC c fun c n=>eI .i64 c fun c=>eC n fun n a=>eI .i64 n fun n=>eC a fun a o=>eS 2 a fun a s b=>eC o fun o x=>eT o fun o=>eC x fun x y=>eBv x fun x=>eN y (Av 6 (l ++ [.rows 6 34 false [[Iv v,Iv c,Iv n,.sl 2 a s b,.str o,.bool x]]]) (.sl 6 (some (l.length,0)) 1 (some 1)) fun y=>Dd lo 34 6 72 (.sl 6 a3 n3 c3) y (l ++ [.rows 6 34 false [[Iv v,Iv c,Iv n,.sl 2 a s b,.str o,.bool x]]]) fun v l=>eS 6 v fun v c n=>CO lo a0 n0 c0 v c n (IntKind.wrap .i64 (x4+1)) l)))) (some (.sl 6 a3 n3 c3,h)) :=
 lE
def B7 lo a0 n0 c0 b4 x5 xA xB h:=
 LA 182 Tryz.f182 22131 0 11 lo ⟨[(0,.sl 6 a0 n0 c0),(3,.lp 3 0),(4,.bool b4),(5,Iv x5)],[(3,[Iv xA,Iv xB])],h⟩
theorem Oy {lo n0:Nat}{a0:Pq}{c0:Nq}{x1 xA:Int}{h h':Heap}{v:V} (hk:(B7 h.length a0 n0 c0 false 0 x1 xA h)=some (v,h')) (hn:noId v=true:=by rfl) :
  Ad lo 182 [.sl 6 a0 n0 c0,.agg [Iv x1,Iv xA]] h=some (v,h) :=
 eD Tryz.func182 hk hn
theorem B7.e {lo n0:Nat}{a0:Pq}{c0:Nq}{b4:Bool}{x5 xA xB:Int}{h:Heap} :
  B7 lo a0 n0 c0 b4 x5 xA xB h=br (decide (x5<(n0:Int))) (Ao x5 n0 (eO a0 fun v=>eO (ld h v.1 (v.2+x5.toNat) 1 2) fun v=>eC v fun v l=>eI .i64 v fun v=>eC l fun l c=>eI .i64 l fun l=>eN c (br ((v==xA)&&((l==xB)&&true)) (some (.bool true,h)) (B7 lo a0 n0 c0 b4 (IntKind.wrap .i64 (x5+1)) xA xB h)))) (some (.bool false,h)) :=
 lE
theorem OP {lo:Nat}{h:Heap}{r:V×Heap} (hk:(some (.agg [.sl 2 (some (h.length,0)) 4 (some 4)],(h ++ [.rows 2 29 false [[Iv 0,Iv 0],[Iv 0,Iv 0],[Iv 0,Iv 0],[Iv 0,Iv 0]]])))=some r) :
  Ad lo 183 [] h=some r :=
 eK Tryz.func183 hk
theorem FF {lo:Nat}{x1:Int}{h:Heap}{r:V×Heap} (hk:(br (decide (x1<0)) none (br (decide (IntKind.i64.wrap (x1 - IntKind.i64.wrap (((0:Nat):Int) - ((0:Nat):Int)))>0)) (Ax none 0 (some 0) none (some (Iv 0)) none fun v l c=>Bq (decide ((0:Int)≤IntKind.i64.wrap (x1 - IntKind.i64.wrap (((0:Nat):Int) - ((0:Nat):Int)))∧IntKind.i64.wrap (x1 - IntKind.i64.wrap (((0:Nat):Int) - ((0:Nat):Int)))*((72:Nat):Int)≤140737488355328)) (Dd lo 34 6 72 (.sl 6 v l c) (List.replicate ((IntKind.i64.wrap (x1 - IntKind.i64.wrap (((0:Nat):Int) - ((0:Nat):Int)))).toNat) [Iv 0,Iv 0,Iv 0,.sl 0 none 0 (some 0),.str ⟨⟨[]⟩⟩,.bool false]) h fun v l=>eS 6 v fun v c n=>Ax v c n none (some (Iv 0)) none fun v c n=>some (.sl 6 v c n,l))) (some (.sl 0 none 0 (some 0),h))))=some r) :
  Ad lo 184 [.sl 0 none 0 (some 0),Iv x1] h=some r :=
 eK Tryz.func184 hk
theorem LC {lo nA nB nC:Nat}{h:Heap}{r:V×Heap} (hk:(Ai (Ad lo 77 [.ptr (some (nA,(nB,nC)))] h) fun v l=>eA v fun v=>eC v fun v c=>eS 6 v fun v n a=>eC c fun c o=>eS 5 c fun c s b=>eC o fun o x=>eS 9 o fun o y z=>eC x fun x u=>eS 5 x fun x w p=>eN u (Ai (Ad lo 66 [.ptr (some (nA,(nB,nC))),Iv 3] l) fun l u=>eI .i64 l fun l=>Ai (Ad lo 66 [.ptr (some (nA,(nB,nC))),Iv 16] u) fun u q=>eI .i64 u fun u=>br (u==0) (Ai (Ad lo 67 [.ptr (some (nA,(nB,nC))),.sl 1 (some (q.length,0)) 3 (some 3)] (q ++ [.rows 1 3 false [[Iv (-1)],[Iv 0],[Iv 1000]]])) fun g i=>eI .i64 g fun g=>Ao l n (eO v fun j=>eO (st lo i j.1 (j.2+l.toNat) 1 [Iv g]) fun g=>some (.agg [.sl 6 v n a,.sl 5 c s b,.sl 9 o y z,.sl 5 x w p],g))) (br (u==1) (Ao l n (eO v fun g=>eO (ld q g.1 (g.2+l.toNat) 3 1) fun i=>eC i fun i j=>eN j (eS 6 i fun i j k=>Ai (Ad lo 78 [.ptr (some (nA,(nB,nC)))] q) fun m t=>eA m fun m=>eC m fun m d=>eI .i64 m fun m=>eC d fun d e=>eI .i64 d fun d=>eC e fun e f=>eI .i64 e fun e=>eC f fun f v0=>eS 2 f fun f v1 v2=>eC v0 fun v0 v3=>eT v0 fun v0=>eC v3 fun v3 v4=>eBv v3 fun v3=>eN v4 (Bq (K0 (ld q g.1 (g.2+l.toNat) 3 1) (ld t g.1 (g.2+l.toNat) 3 1)) (Bq (K0 (ld t g.1 (g.2+l.toNat) 3 1) (ld (t ++ [.rows 6 34 false [[Iv m,Iv d,Iv e,.sl 2 f v1 v2,.str v0,.bool v3]]]) g.1 (g.2+l.toNat) 3 1)) (Av 6 (t ++ [.rows 6 34 false [[Iv m,Iv d,Iv e,.sl 2 f v1 v2,.str v0,.bool v3]]]) (.sl 6 (some (t.length,0)) 1 (some 1)) fun g=>Dd lo 34 6 72 (.sl 6 i j k) g (t ++ [.rows 6 34 false [[Iv m,Iv d,Iv e,.sl 2 f v1 v2,.str v0,.bool v3]]]) fun g i=>eS 6 g fun g j k=>Ao l n (eO v fun m=>eO (st lo i m.1 (m.2+l.toNat) 3 [.sl 6 g j k]) fun g=>some (.agg [.sl 6 v n a,.sl 5 c s b,.sl 9 o y z,.sl 5 x w p],g)))))))) (br (u==2) (Ai (Ad lo 65 [.ptr (some (nA,(nB,nC)))] q) fun g i=>eA g fun g=>eC g fun g j=>eS 2 g fun g k m=>eN j (Ao l n (eO v fun j=>eO (st lo i j.1 (j.2+l.toNat) 2 [.sl 2 g k m]) fun g=>some (.agg [.sl 6 v n a,.sl 5 c s b,.sl 9 o y z,.sl 5 x w p],g)))) (br (u==3) (Ax v n a (some (Iv 1)) none none fun g i j=>some (.agg [.sl 6 g i j,.sl 5 c s b,.sl 9 o y z,.sl 5 x w p],q)) (br (u==4) (Ai (Ad lo 66 [.ptr (some (nA,(nB,nC))),Iv 3] q) fun g i=>eI .i64 g fun g=>Ai (Ad lo 173 [.ptr (some (nA,(nB,nC)))] i) fun i j=>eA i fun i=>eC i fun i k=>eI .i64 i fun i=>eC k fun k m=>eI .i64 k fun k=>eC m fun m t=>eI .i64 m fun m=>eC t fun t d=>eS 2 t fun t e f=>eC d fun d v0=>eT d fun d=>eC v0 fun v0 v1=>eBv v0 fun v0=>eN v1 (Av 9 (j ++ [.rows 9 172 false [[Iv l,Iv g,Iv 0,Iv i,Iv k,Iv m,.sl 2 t e f,.str d,.bool v0]]]) (.sl 9 (some (j.length,0)) 1 (some 1)) fun v1=>Dd lo 172 9 96 (.sl 9 o y z) v1 (j ++ [.rows 9 172 false [[Iv l,Iv g,Iv 0,Iv i,Iv k,Iv m,.sl 2 t e f,.str d,.bool v0]]]) fun l g=>eS 9 l fun l i j=>some (.agg [.sl 6 v n a,.sl 5 c s b,.sl 9 l i j,.sl 5 x w p],g))) (br (u==5) (Ai (Ad lo 66 [.ptr (some (nA,(nB,nC))),Iv 5] q) fun l g=>eI .i64 l fun l=>Ai (Ad lo 66 [.ptr (some (nA,(nB,nC))),Iv 5] g) fun g i=>eI .i64 g fun g=>Ai (Ad lo 66 [.ptr (some (nA,(nB,nC))),Iv 5] i) fun i j=>eI .i64 i fun i=>Ai (Ad lo 174 [.ptr (some (nA,(nB,nC)))] j) fun j k=>eA j fun j=>eC j fun j m=>eI .i64 j fun j=>eC m fun m t=>eI .i64 m fun m=>eN t (Av 5 (k ++ [.rows 5 174 false [[Iv l,Iv g,Iv i,Iv j,Iv m]]]) (.sl 5 (some (k.length,0)) 1 (some 1)) fun t=>Dd lo 174 5 40 (.sl 5 x w p) t (k ++ [.rows 5 174 false [[Iv l,Iv g,Iv i,Iv j,Iv m]]]) fun l g=>eS 5 l fun l i j=>some (.agg [.sl 6 v n a,.sl 5 c s b,.sl 9 o y z,.sl 5 l i j],g))) (br (u==6) (Ai (Ad lo 105 [.ptr (some (nA,(nB,nC)))] q) fun l u=>eA l fun l=>eC l fun l g=>eS 2 l fun l i j=>eN g (Ao 0 s (eO c fun g=>eO (st lo u g.1 (g.2+0) 1 [.sl 2 l i j]) fun l=>some (.agg [.sl 6 v n a,.sl 5 c s b,.sl 9 o y z,.sl 5 x w p],l)))) (some (.agg [.sl 6 v n a,.sl 5 c s b,.sl 9 o y z,.sl 5 x w p],q))))))))))=some r) :
  Ad lo 185 [.ptr (some (nA,(nB,nC)))] h=some r :=
 eK Tryz.func185 hk
def AE lo a0 n0 c0 g1 l1 x4 x7 x8 h:=
 LA 186 Tryz.f186 22131 0 11 lo ⟨[(0,.sl 6 a0 n0 c0),(1,.fn g1 l1),(4,Iv x4),(7,Iv x7),(8,Iv x8)],[],h⟩
theorem ER {lo n0 g1:Nat}{a0:Pq}{c0:Nq}{l1:List V}{h h':Heap}{v:V} (hk:(AE h.length a0 n0 c0 g1 l1 0 ((n0:Int)) 0 h)=some (v,h')) (hn:noId v=true:=by rfl) :
  Ad lo 186 [.sl 6 a0 n0 c0,.fn g1 l1] h=some (v,h) :=
 eD Tryz.func186 hk hn
theorem AE.e {lo n0 g1:Nat}{a0:Pq}{c0:Nq}{l1:List V}{x4 x7 x8:Int}{h:Heap} :
  AE lo a0 n0 c0 g1 l1 x4 x7 x8 h=br (decide (x8<x7)) (Ao x8 n0 (eO a0 fun v=>eO (ld h v.1 (v.2+x8.toNat) 0 6) fun v=>eC v fun v l=>eI .i64 v fun v=>eC l fun l c=>eI .i64 l fun l=>eC c fun c n=>eI .i64 c fun c=>eC n fun n a=>eS 2 n fun n o s=>eC a fun a b=>eT a fun a=>eC b fun b x=>eBv b fun b=>eN x (Ai (Ad lo g1 (Di [.agg [Iv v,Iv l,Iv c,.sl 2 n o s,.str a,.bool b]] l1) h) fun v l=>eB v (some (Iv x8,l)) (AE lo a0 n0 c0 g1 l1 x4 x7 (IntKind.wrap .i64 (x8+1)) l)))) (some (Iv (-1),h)) :=
 lE
theorem LI {lo n0 n1:Nat}{a0 a1:Pq}{c0 c1:Nq}{x1 xA xB:Int}{s1:ByteArray}{b1:Bool}{h h':Heap}{v:V} (hk:(Ao x1 n0 (eO a0 fun l=>eO (ld h l.1 (l.2+x1.toNat) 1 2) fun l=>eC l fun l c=>eI .i64 l fun l=>eC c fun c n=>eI .i64 c fun c=>eN n (Ai (Ad h.length 19 [.agg [Iv l,Iv c],.agg [Iv xA,Iv xB]] h) fun l c=>eB l (some (.bool true,c)) (some (.bool false,c)))))=some (v,h')) (hn:noId v=true:=by rfl) :
  Ad lo 187 [.agg [.sl 6 a0 n0 c0],.agg [Iv x1,Iv xA,Iv xB,.sl 2 a1 n1 c1,.str s1,.bool b1]] h=some (v,h) :=
 eD Tryz.func187 hk hn
theorem NN {lo nA nB nC n1:Nat}{x1 xA xB:Int}{a1:Pq}{c1:Nq}{s1:ByteArray}{b1:Bool}{h:Heap}{r:V×Heap} (hk:(Ai (Ad lo 201 [.ptr (some (nA,(nB,nC))),Iv 0] h) fun v l=>eB v (some (.bool false,l)) (Ai (Ad lo 264 [.ptr (some (nA,(nB,nC))),Iv 0,.agg [Iv x1,Iv xA,Iv xB,.sl 2 a1 n1 c1,.str s1,.bool b1]] l) fun v l=>eU v fun v=>eN v (some (.bool true,l))))=some r) :
  Ad lo 188 [.ptr (some (nA,(nB,nC))),.agg [Iv x1,Iv xA,Iv xB,.sl 2 a1 n1 c1,.str s1,.bool b1]] h=some r :=
 eK Tryz.func188 hk
def AT lo nA nB nC a8 n8 c8 x9 xA h:=
 LA 189 Tryz.f189 2213 0 1 lo ⟨[(0,.ptr (some (nA,(nB,nC)))),(8,.sl 6 a8 n8 c8),(9,Iv x9),(10,Iv xA)],[],h⟩
theorem KS {lo nA nB nC:Nat}{h:Heap}{r:V×Heap} (hk:(Ai (Ad lo 89 [.ptr (some (nA,(nB,(nC+2))))] h) fun v l=>eA v fun v=>eC v fun v c=>eS 6 v fun v n a=>eN c (AT lo nA nB nC v n a ((n:Int)) 0 l))=some r) :
  Ad lo 189 [.ptr (some (nA,(nB,nC)))] h=some r :=
 eK Tryz.func189 hk
theorem AT.e {lo nA nB nC n8:Nat}{a8:Pq}{c8:Nq}{x9 xA:Int}{h:Heap} :
  AT lo nA nB nC a8 n8 c8 x9 xA h=br (decide (xA<x9)) (Ao xA n8 (eO a8 fun v=>eO (ld h v.1 (v.2+xA.toNat) 0 6) fun v=>eC v fun v l=>eI .i64 v fun v=>eC l fun l c=>eI .i64 l fun l=>eC c fun c n=>eI .i64 c fun c=>eC n fun n a=>eS 2 n fun n o s=>eC a fun a b=>eT a fun a=>eC b fun b x=>eBv b fun b=>eN x (br ((l==0)&&((c==0)&&true)) (AT lo nA nB nC a8 n8 c8 x9 (IntKind.wrap .i64 (xA+1)) h) (eO (ld h nA nB (nC+0) 1) fun x=>eC x fun x y=>eN y (eI .i64 x fun x=>br (c==x) (eO (ld h nA nB (nC+3) 1) fun x=>eC x fun x y=>eN y (eS 6 x fun x y z=>Ai (Ad lo 176 [.sl 6 x y z,.agg [Iv l,Iv c]] h) fun x y=>eB x (AT lo nA nB nC a8 n8 c8 x9 (IntKind.wrap .i64 (xA+1)) y) (eO (ld y nA nB (nC+3) 1) fun x=>eC x fun x z=>eN z (eS 6 x fun x z u=>Ai (Ad y.length 161 [.agg [Iv v,Iv l,Iv c,.sl 2 n o s,.str a,.bool b]] y) fun v l=>eA v fun v=>eC v fun v c=>eI .i64 v fun v=>eC c fun c n=>eI .i64 c fun c=>eC n fun n a=>eI .i64 n fun n=>eC a fun a o=>eS 2 a fun a s b=>eC o fun o y=>eT o fun o=>eC y fun y w=>eBv y fun y=>eN w (Av 6 (l ++ [.rows 6 34 false [[Iv v,Iv c,Iv n,.sl 2 a s b,.str o,.bool y]]]) (.sl 6 (some (l.length,0)) 1 (some 1)) fun w=>Dd lo 34 6 72 (.sl 6 x z u) w (l ++ [.rows 6 34 false [[Iv v,Iv c,Iv n,.sl 2 a s b,.str o,.bool y]]]) fun v l=>eS 6 v fun v c n=>eO (st lo l nA nB (nC+3) [.sl 6 v c n]) fun v=>AT lo nA nB nC a8 n8 c8 x9 (IntKind.wrap .i64 (xA+1)) v))))) (AT lo nA nB nC a8 n8 c8 x9 (IntKind.wrap .i64 (xA+1)) h)))))) (eO (ld h nA nB (nC+3) 1) fun v=>eC v fun v l=>eN l (eS 6 v fun v l c=>Ai (Ad lo 172 [.sl 6 v l c] h) fun v l=>eS 6 v fun v c n=>eO (st lo l nA nB (nC+3) [.sl 6 v c n]) fun v=>eO (ld v nA nB ((nC+2)+0) 1) fun l=>eC l fun l c=>eN c (eS 2 l fun l c n=>Ai (Ad lo 265 [.sl 2 l c n,.fn 266 []] v) fun v l=>eB v (some (.tup [],l)) (eO (st lo l nA nB (nC+5) [.bool false]) fun v=>some (.tup [],v))))) :=
 lE
def Cl lo x1 x4 x6 xA xB aA nA cA aB nB cB aC nC cC bA aD nD cD h:=
 LA 190 Tryz.f190 221311 0 111 lo ⟨[(1,Iv x1),(2,.lp 2 0),(4,Iv x4),(5,.lp 5 0),(6,Iv x6)],[(2,[Iv xA,Iv xB,.sl 2 aA nA cA,.sl 6 aB nB cB,.sl 1 aC nC cC,.bool bA]),(5,[.sl 6 aD nD cD])],h⟩
theorem Qp {lo n0 nA nB:Nat}{x0 xA x1:Int}{a0 aA aB:Pq}{c0 cA cB:Nq}{b0:Bool}{h h':Heap}{v:V} (hk:(Ao 0 n0 (eO a0 fun l=>eO (ld h l.1 (l.2+0) 0 1) fun l=>eC l fun l c=>eS 6 l fun l n a=>eN c (Cl h.length x1 0 0 x0 xA a0 n0 c0 aA nA cA aB nB cB b0 l n a h)))=some (v,h')) (hn:noId v=true:=by rfl) :
  Ad lo 190 [.agg [Iv x0,Iv xA,.sl 2 a0 n0 c0,.sl 6 aA nA cA,.sl 1 aB nB cB,.bool b0],Iv x1] h=some (v,h) :=
 eD Tryz.func190 hk hn
theorem Cl.e {lo nA nB nC nD:Nat}{x1 x4 x6 xA xB:Int}{aA aB aC aD:Pq}{cA cB cC cD:Nq}{bA:Bool}{h:Heap} :
  Cl lo x1 x4 x6 xA xB aA nA cA aB nB cB aC nC cC bA aD nD cD h=Ao x1 nC (eO aC fun v=>eO (ld h v.1 (v.2+x1.toNat) 0 1) fun v=>eC v fun v l=>eN l (eS 6 v fun v v l=>br (decide (x6<(v:Int))) (Ao x1 nC (eO aC fun v=>eO (ld h v.1 (v.2+x1.toNat) 0 1) fun v=>eC v fun v l=>eN l (eS 6 v fun v l c=>Ao x6 l (eO v fun v=>eO (ld h v.1 (v.2+x6.toNat) 0 6) fun v=>eC v fun v l=>eI .i64 v fun v=>eC l fun l c=>eI .i64 l fun l=>eC c fun c n=>eI .i64 c fun c=>eC n fun n a=>eS 2 n fun n n n=>eC a fun n a=>eT n fun n=>eC a fun n a=>eBv n fun n=>eN a (Ao v nD (eO aD fun n=>eO (ld h n.1 (n.2+v.toNat) 1 2) fun v=>eC v fun v n=>eI .i64 v fun v=>eC n fun n a=>eI .i64 n fun n=>eN a (Ai (Ad lo 255 [.agg [Iv v,Iv n],.agg [Iv l,Iv c]] h) fun v l=>eB v (some (Iv x6,l)) (Cl lo x1 x4 (IntKind.wrap .i64 (x6+1)) xA xB aA nA cA aB nB cB aC nC cC bA aD nD cD l)))))))) (some (Iv (-1),h)))) :=
 lE
theorem Q8 {lo n0:Nat}{a0:Pq}{c0:Nq}{h h':Heap}{v:V} (hk:(Ao 0 n0 (eO a0 fun l=>eO (ld h l.1 (l.2+0) 1 1) fun l=>eC l fun l c=>eN c (eS 6 l fun l l c=>br (decide ((l:Int)<6)) (some (.bool true,h)) (some (.bool false,h)))))=some (v,h')) (hn:noId v=true:=by rfl) :
  Ad lo 191 [.agg [.sl 2 a0 n0 c0]] h=some (v,h) :=
 eD Tryz.func191 hk hn
def Cb lo b4 x5 aA nA cA aB nB cB h:=
 LA 192 Tryz.f192 22131 0 11 lo ⟨[(2,.lp 2 0),(3,.lp 3 0),(4,.bool b4),(5,Iv x5)],[(2,[.sl 2 aA nA cA]),(3,[.sl 2 aB nB cB])],h⟩
theorem OI {lo n0 n1:Nat}{a0 a1:Pq}{c0 c1:Nq}{h h':Heap}{v:V} (hk:(Cb h.length false 0 a0 n0 c0 a1 n1 c1 h)=some (v,h')) (hn:noId v=true:=by rfl) :
  Ad lo 192 [.agg [.sl 2 a0 n0 c0],.agg [.sl 2 a1 n1 c1]] h=some (v,h) :=
 eD Tryz.func192 hk hn
theorem Cb.e {lo nA nB:Nat}{b4:Bool}{x5:Int}{aA aB:Pq}{cA cB:Nq}{h:Heap} :
  Cb lo b4 x5 aA nA cA aB nB cB h=br (decide (x5<4)) (Ao x5 nB (eO aB fun v=>eO (ld h v.1 (v.2+x5.toNat) 0 2) fun v=>eC v fun v l=>eI .i64 v fun v=>eC l fun l c=>eI .i64 l fun l=>eN c (Ao x5 nA (eO aA fun c=>eO (ld h c.1 (c.2+x5.toNat) 0 2) fun c=>eC c fun c n=>eI .i64 c fun c=>eC n fun n a=>eI .i64 n fun n=>eN a (Ai (Ad lo 255 [.agg [Iv v,Iv l],.agg [Iv c,Iv n]] h) fun v l=>eB v (some (.bool false,l)) (Cb lo b4 (IntKind.wrap .i64 (x5+1)) aA nA cA aB nB cB l)))))) (some (.bool true,h)) :=
 lE
theorem Tk {lo n0 n2:Nat}{a0 a2:Pq}{c0 c2:Nq}{x1 x2 xA xB:Int}{s2:ByteArray}{b2:Bool}{h:Heap}{r:V×Heap} (hk:(Ao x1 n0 (eO a0 fun v=>eO (ld h v.1 (v.2+x1.toNat) 0 1) fun v=>eC v fun v l=>eN l (eS 6 v fun v l c=>Ao x2 l (eO v fun v=>eO (ld h v.1 (v.2+x2.toNat) 1 2) fun v=>eC v fun v l=>eI .i64 v fun v=>eC l fun l c=>eI .i64 l fun l=>eN c (Ai (Ad lo 255 [.agg [Iv v,Iv l],.agg [Iv xA,Iv xB]] h) fun v l=>eB v (Ao x1 n0 (eO a0 fun v=>eO (ld l v.1 (v.2+x1.toNat) 0 1) fun v=>eC v fun v c=>eS 6 v fun v n a=>eN c (Ai (Ad lo 256 [.agg [.sl 6 v n a],.agg [Iv x2,Iv xA,Iv xB,.sl 2 a2 n2 c2,.str s2,.bool b2]] l) fun v c=>eA v fun v=>eC v fun v n=>eS 6 v fun v a o=>eN n (Ao x1 n0 (eO a0 fun n=>eO (st lo c n.1 (n.2+x1.toNat) 0 [.sl 6 v a o]) fun v=>br (decide (x1<IntKind.i64.wrap ((n0:Int) - (1:Int)))) (Ao x1 n0 (eO a0 fun c=>eO (ld v c.1 (c.2+x1.toNat) 1 1) fun c=>eC c fun c n=>eN n (eS 6 c fun c n a=>Ai (Ad v.length 164 [.agg [Iv x2,Iv xA,Iv xB,.sl 2 a2 n2 c2,.str s2,.bool b2]] v) fun o s=>eA o fun o=>eC o fun o b=>eI .i64 o fun o=>eC b fun b x=>eI .i64 b fun b=>eC x fun x y=>eI .i64 x fun x=>eC y fun y z=>eS 2 y fun y u w=>eC z fun z p=>eT z fun z=>eC p fun p q=>eBv p fun p=>eN q (Av 6 (s ++ [.rows 6 34 false [[Iv o,Iv b,Iv x,.sl 2 y u w,.str z,.bool p]]]) (.sl 6 (some (s.length,0)) 1 (some 1)) fun q=>Dd lo 34 6 72 (.sl 6 c n a) q (s ++ [.rows 6 34 false [[Iv o,Iv b,Iv x,.sl 2 y u w,.str z,.bool p]]]) fun c n=>eS 6 c fun c a o=>Ao x1 n0 (eO a0 fun s=>eO (st lo n s.1 (s.2+x1.toNat) 1 [.sl 6 c a o]) fun c=>some (.agg [.sl 2 a0 n0 c0],c)))))) (some (.agg [.sl 2 a0 n0 c0],v))))))) (some (.agg [.sl 2 a0 n0 c0],l)))))))=some r) :
  Ad lo 193 [.agg [.sl 2 a0 n0 c0],Iv x1,.agg [Iv x2,Iv xA,Iv xB,.sl 2 a2 n2 c2,.str s2,.bool b2]] h=some r :=
 eK Tryz.func193 hk
theorem Ek {lo n0 g1:Nat}{a0:Pq}{c0:Nq}{l1:List V}{h h':Heap}{v:V} (hk:(Ai (Ad h.length 267 [.sl 2 a0 n0 c0,.fn g1 l1] h) fun l c=>eI .i64 l fun l=>br (decide (l≥0)) (some (.bool true,c)) (some (.bool false,c)))=some (v,h')) (hn:noId v=true:=by rfl) :
  Ad lo 194 [.sl 2 a0 n0 c0,.fn g1 l1] h=some (v,h) :=
 eD Tryz.func194 hk hn
theorem OO {lo:Nat}{x0 xA:Int}{h h':Heap}{v:V} (hk:(Ai (Ad h.length 196 [.agg [Iv x0,Iv xA]] h) fun l c=>eB l (some (.bool false,c)) (some (.bool true,c)))=some (v,h')) (hn:noId v=true:=by rfl) :
  Ad lo 195 [.agg [Iv x0,Iv xA]] h=some (v,h) :=
 eD Tryz.func195 hk hn
theorem Tu {lo:Nat}{x0 xA:Int}{h h':Heap}{v:V} (hk:(br ((x0==0)&&((xA==0)&&true)) (some (.bool true,h)) (Ai (Ad h.length 87 [Iv x0,Iv 1,Iv 999] h) fun l c=>eB l (Ai (Ad h.length 86 [Iv xA] c) fun l n=>eB l (some (.bool true,n)) (some (.bool false,n))) (some (.bool false,c))))=some (v,h')) (hn:noId v=true:=by rfl) :
  Ad lo 196 [.agg [Iv x0,Iv xA]] h=some (v,h) :=
 eD Tryz.func196 hk hn
theorem Rl {lo nA nB nC:Nat}{h:Heap}{r:V×Heap} (hk:(Ai (Ad lo 66 [.ptr (some (nA,(nB,nC))),Iv 3] h) fun v l=>eI .i64 v fun v=>br (v==0) (some (.agg [Iv 0,Iv 0],l)) (Ai (Ad lo 66 [.ptr (some (nA,(nB,nC))),Iv 9] l) fun v l=>eI .i64 v fun v=>Ai (Ad lo 66 [.ptr (some (nA,(nB,nC))),Iv 3] l) fun l c=>eI .i64 l fun l=>some (.agg [Iv (IntKind.wrap .i64 (1+v)),Iv l],c)))=some r) :
  Ad lo 198 [.ptr (some (nA,(nB,nC)))] h=some r :=
 eK Tryz.func198 hk
def CU lo x4 aA nA cA nB aB nC cB nD aC nE cC h:=
 LA 199 Tryz.f199 221311 0 111 lo ⟨[(1,.lp 1 0),(2,.lp 2 0),(3,.lp 3 0),(4,Iv x4)],[(1,[.sl 6 aA nA cA]),(2,[.sl nB aB nC cB]),(3,[.sl nD aC nE cC])],h⟩
theorem Rg {lo n0:Nat}{a0:Pq}{c0:Nq}{h:Heap}{r:V×Heap} (hk:(CU lo 0 a0 n0 c0 0 none 0 (some 0) 0 none 0 (some 0) h)=some r) :
  Ad lo 199 [.agg [.sl 6 a0 n0 c0]] h=some r :=
 eK Tryz.func199 hk
theorem CU.e {lo nA nB nC nD nE:Nat}{x4:Int}{aA aB aC:Pq}{cA cB cC:Nq}{h:Heap} :
  CU lo x4 aA nA cA nB aB nC cB nD aC nE cC h=br (decide (x4<(nA:Int))) (Ao x4 nA (eO aA fun v=>eO (ld h v.1 (v.2+x4.toNat) 1 2) fun v=>eC v fun v l=>eI .i64 v fun v=>eC l fun l c=>eI .i64 l fun l=>eN c (Av 2 (h ++ [.rows 2 29 false [[Iv v,Iv l]]]) (.sl 2 (some (h.length,0)) 1 (some 1)) fun c=>Dd lo 29 2 16 (.sl nD aC nE cC) c (h ++ [.rows 2 29 false [[Iv v,Iv l]]]) fun v l=>eS 2 v fun v c n=>CU lo (IntKind.wrap .i64 (x4+1)) aA nA cA nB aB nC cB 2 v c n l))) (some (.agg [.sl nD aC nE cC],h)) :=
 lE
theorem LG {lo n0:Nat}{x0 xA xB:Int}{a0:Pq}{c0:Nq}{s0:ByteArray}{b0:Bool}{h h':Heap}{v:V} (hk:(Ai (Ad h.length 160 [Iv x0] h) fun l c=>eB l (Ai (Ad h.length 269 [.str s0] c) fun l n=>eB l (br (!b0) (br (!b0) (br (!b0) (br (!b0) (Ai (Ad h.length 99 [.agg [.sl 2 a0 n0 c0]] n) fun l a=>eB l (some (.bool true,a)) (some (.bool false,a))) none) none) none) (br (!b0) (br (!b0) (br (!b0) (Ai (Ad h.length 99 [.agg [.sl 2 a0 n0 c0]] n) fun l a=>eB l (some (.bool true,a)) (some (.bool false,a))) none) none) (br (!b0) (br (!b0) (Ai (Ad h.length 99 [.agg [.sl 2 a0 n0 c0]] n) fun l a=>eB l (some (.bool true,a)) (some (.bool false,a))) none) (br (s0.toList==(ByteArray.mk #[]).toList) (br (!b0) (Ai (Ad h.length 99 [.agg [.sl 2 a0 n0 c0]] n) fun l a=>eB l (some (.bool true,a)) (some (.bool false,a))) (Ai (Ad h.length 99 [.agg [.sl 2 a0 n0 c0]] n) fun l a=>eB l (some (.bool true,a)) (some (.bool false,a)))) (br (!b0) (Ai (Ad h.length 99 [.agg [.sl 2 a0 n0 c0]] n) fun l a=>eB l (some (.bool true,a)) (some (.bool false,a))) (some (.bool false,n))))))) (some (.bool false,n))) (some (.bool false,c)))=some (v,h')) (hn:noId v=true:=by rfl) :
  Ad lo 200 [.agg [Iv x0,Iv xA,Iv xB,.sl 2 a0 n0 c0,.str s0,.bool b0]] h=some (v,h) :=
 eD Tryz.func200 hk hn
theorem MQ {lo nA nB nC:Nat}{x1:Int}{h h':Heap}{v:V} (hk:(eO (ld h nA nB (nC+0) 1) fun l=>eC l fun l c=>eN c (eS 2 l fun l c n=>Ao x1 c (eO l fun l=>eO (ld h l.1 (l.2+x1.toNat) 1 1) fun l=>eC l fun l c=>eN c (eS 6 l fun l l c=>br (decide ((l:Int)≥6)) (some (.bool true,h)) (some (.bool false,h))))))=some (v,h')) (hn:noId v=true:=by rfl) :
  Ad lo 201 [.ptr (some (nA,(nB,nC))),Iv x1] h=some (v,h) :=
 eD Tryz.func201 hk hn
def BA lo x3 a7 n7 c7 x8 x9 h:=
 LA 202 Tryz.f202 221311 0 111 lo ⟨[(3,Iv x3),(7,.sl 2 a7 n7 c7),(8,Iv x8),(9,Iv x9)],[],h⟩
theorem LL {lo n0:Nat}{a0:Pq}{c0:Nq}{h h':Heap}{v:V} (hk:(BA h.length 0 a0 n0 c0 ((n0:Int)) 0 h)=some (v,h')) (hn:noId v=true:=by rfl) :
  Ad lo 202 [.agg [.sl 2 a0 n0 c0]] h=some (v,h) :=
 eD Tryz.func202 hk hn
theorem BA.e {lo n7:Nat}{x3 x8 x9:Int}{a7:Pq}{c7:Nq}{h:Heap} :
  BA lo x3 a7 n7 c7 x8 x9 h=br (decide (x9<x8)) (Ao x9 n7 (eO a7 fun v=>eO (ld h v.1 (v.2+x9.toNat) 0 2) fun v=>eC v fun v l=>eI .i64 v fun v=>eC l fun l c=>eI .i64 l fun l=>eN c (BA lo (if v>x3 then v else x3) a7 n7 c7 x8 (IntKind.wrap .i64 (x9+1)) h))) (some (Iv x3,h)) :=
 lE
def Cg lo x5 x6 aA nA cA h:=
 LA 203 Tryz.f203 221311 0 111 lo ⟨[(3,.lp 3 0),(5,Iv x5),(6,Iv x6)],[(3,[.sl 2 aA nA cA])],h⟩
theorem Q5 {lo n0 nA nB n1:Nat}{x0 xA:Int}{a0 aA aB a1:Pq}{c0 cA cB c1:Nq}{b0:Bool}{h h':Heap}{v:V} (hk:(Cg h.length xA 0 a1 n1 c1 h)=some (v,h')) (hn:noId v=true:=by rfl) :
  Ad lo 203 [.agg [Iv x0,Iv xA,.sl 2 a0 n0 c0,.sl 6 aA nA cA,.sl 1 aB nB cB,.bool b0],.agg [.sl 2 a1 n1 c1]] h=some (v,h) :=
 eD Tryz.func203 hk hn
theorem Cg.e {lo nA:Nat}{x5 x6:Int}{aA:Pq}{cA:Nq}{h:Heap} :
  Cg lo x5 x6 aA nA cA h=br (decide (x6<4)) (Ao x6 nA (eO aA fun v=>eO (ld h v.1 (v.2+x6.toNat) 0 1) fun v=>eC v fun v l=>eN l (eI .i64 v fun v=>br (decide (v>x5)) (Ao x6 nA (eO aA fun v=>eO (ld h v.1 (v.2+x6.toNat) 0 1) fun v=>eC v fun v l=>eN l (eI .i64 v fun v=>Cg lo v (IntKind.wrap .i64 (x6+1)) aA nA cA h))) (Cg lo x5 (IntKind.wrap .i64 (x6+1)) aA nA cA h)))) (some (Iv (IntKind.wrap .i64 (x5+1)),h)) :=
 lE
def BD lo a5 n5 c5 x6 aA nA cA aB nB cB h:=
 LA 204 Tryz.f204 221311 0 111 lo ⟨[(2,.lp 2 0),(3,.lp 3 0),(5,.sl 6 a5 n5 c5),(6,Iv x6)],[(2,[.sl 6 aA nA cA]),(3,[.sl 6 aB nB cB])],h⟩
def CR lo a5 n5 c5 x6 x7 aA nA cA aB nB cB h:=
 Lp (X 204) lo (pf 22311231221311 Tryz.f204) 2 (AU 2 (kS (X 204) lo (pf 111231221311 Tryz.f204) 1 (AU 1 (kS (X 204) lo (pf 11221311 Tryz.f204) 0 (Tz (X 204) lo (pf 221311 Tryz.f204) 0 (AU 0 (kS (X 204) lo (pf 111 Tryz.f204) 0 (Ip (X 204) Tryz.f204.results.toList)))))))) ⟨[(2,.lp 2 0),(3,.lp 3 0),(5,.sl 6 a5 n5 c5),(6,Iv x6),(7,Iv x7)],[(2,[.sl 6 aA nA cA]),(3,[.sl 6 aB nB cB])],h⟩
theorem Rb {lo n0 n1:Nat}{a0 a1:Pq}{c0 c1:Nq}{h:Heap}{r:V×Heap} (hk:(BD lo (some (h.length,0)) 0 (some 0) 0 a0 n0 c0 a1 n1 c1 (h ++ [.rows 6 34 false []]))=some r) :
  Ad lo 204 [.agg [.sl 6 a0 n0 c0],.agg [.sl 6 a1 n1 c1]] h=some r :=
 eK Tryz.func204 hk
theorem BD.e {lo n5 nA nB:Nat}{a5 aA aB:Pq}{c5 cA cB:Nq}{x6:Int}{h:Heap} :
  BD lo a5 n5 c5 x6 aA nA cA aB nB cB h=br (decide (x6<4)) (Ao x6 nB (eO aB fun v=>eO (ld h v.1 (v.2+x6.toNat) 1 2) fun v=>eC v fun v l=>eI .i64 v fun v=>eC l fun l c=>eI .i64 l fun l=>eN c (Ao x6 nA (eO aA fun c=>eO (ld h c.1 (c.2+x6.toNat) 1 2) fun c=>eC c fun c n=>eI .i64 c fun c=>eC n fun n a=>eI .i64 n fun n=>eN a (Ai (Ad lo 255 [.agg [Iv v,Iv l],.agg [Iv c,Iv n]] h) fun v l=>eB v (CR lo a5 n5 c5 x6 0 aA nA cA aB nB cB l) (BD lo a5 n5 c5 (IntKind.wrap .i64 (x6+1)) aA nA cA aB nB cB l)))))) (some (.sl 6 a5 n5 c5,h)) :=
 lE
theorem CR.e {lo n5 nA nB:Nat}{a5 aA aB:Pq}{c5 cA cB:Nq}{x6 x7:Int}{h:Heap} :
  CR lo a5 n5 c5 x6 x7 aA nA cA aB nB cB h=br (decide (x7<(n5:Int))) (Ao x7 n5 (eO a5 fun v=>eO (ld h v.1 (v.2+x7.toNat) 1 2) fun v=>eC v fun v l=>eI .i64 v fun v=>eC l fun l c=>eI .i64 l fun l=>eN c (Ao x6 nA (eO aA fun c=>eO (ld h c.1 (c.2+x6.toNat) 1 2) fun c=>eC c fun c n=>eI .i64 c fun c=>eC n fun n a=>eI .i64 n fun n=>eN a (Ai (Ad lo 255 [.agg [Iv v,Iv l],.agg [Iv c,Iv n]] h) fun v l=>eB v (CR lo a5 n5 c5 x6 (IntKind.wrap .i64 (x7+1)) aA nA cA aB nB cB l) (Ax a5 n5 c5 none (some (Iv x7)) none fun v c n=>Av 6 (l ++ [.rows 6 34 false []]) (.sl 6 v c n) fun v=>Dd lo 34 6 72 (.sl 6 (some (l.length,0)) 0 (some 0)) v (l ++ [.rows 6 34 false []]) fun v l=>eS 6 v fun v c n=>Ao x6 nA (eO aA fun a=>eO (ld l a.1 (a.2+x6.toNat) 0 6) fun a=>eC a fun a o=>eI .i64 a fun a=>eC o fun o s=>eI .i64 o fun o=>eC s fun s b=>eI .i64 s fun s=>eC b fun b x=>eS 2 b fun b y z=>eC x fun x u=>eT x fun x=>eC u fun u w=>eBv u fun u=>eN w (Ai (Ad lo 164 [.agg [Iv a,Iv o,Iv s,.sl 2 b y z,.str x,.bool u]] l) fun l a=>eA l fun l=>eC l fun l o=>eI .i64 l fun l=>eC o fun o s=>eI .i64 o fun o=>eC s fun s b=>eI .i64 s fun s=>eC b fun b x=>eS 2 b fun b y z=>eC x fun x u=>eT x fun x=>eC u fun u w=>eBv u fun u=>eN w (Av 6 (a ++ [.rows 6 34 false [[Iv l,Iv o,Iv s,.sl 2 b y z,.str x,.bool u]]]) (.sl 6 (some (a.length,0)) 1 (some 1)) fun w=>Dd lo 34 6 72 (.sl 6 v c n) w (a ++ [.rows 6 34 false [[Iv l,Iv o,Iv s,.sl 2 b y z,.str x,.bool u]]]) fun v l=>eS 6 v fun v c n=>Ax a5 n5 c5 (some (Iv x7)) none none fun a o s=>Av 6 l (.sl 6 a o s) fun a=>Dd lo 34 6 72 (.sl 6 v c n) a l fun v l=>eS 6 v fun v c n=>BD lo v c n (IntKind.wrap .i64 (x6+1)) aA nA cA aB nB cB l))))))))) (Ax a5 n5 c5 none (some (Iv x7)) none fun v l c=>Av 6 (h ++ [.rows 6 34 false []]) (.sl 6 v l c) fun v=>Dd lo 34 6 72 (.sl 6 (some (h.length,0)) 0 (some 0)) v (h ++ [.rows 6 34 false []]) fun v l=>eS 6 v fun v c n=>Ao x6 nA (eO aA fun a=>eO (ld l a.1 (a.2+x6.toNat) 0 6) fun a=>eC a fun a o=>eI .i64 a fun a=>eC o fun o s=>eI .i64 o fun o=>eC s fun s b=>eI .i64 s fun s=>eC b fun b x=>eS 2 b fun b y z=>eC x fun x u=>eT x fun x=>eC u fun u w=>eBv u fun u=>eN w (Ai (Ad lo 164 [.agg [Iv a,Iv o,Iv s,.sl 2 b y z,.str x,.bool u]] l) fun l a=>eA l fun l=>eC l fun l o=>eI .i64 l fun l=>eC o fun o s=>eI .i64 o fun o=>eC s fun s b=>eI .i64 s fun s=>eC b fun b x=>eS 2 b fun b y z=>eC x fun x u=>eT x fun x=>eC u fun u w=>eBv u fun u=>eN w (Av 6 (a ++ [.rows 6 34 false [[Iv l,Iv o,Iv s,.sl 2 b y z,.str x,.bool u]]]) (.sl 6 (some (a.length,0)) 1 (some 1)) fun w=>Dd lo 34 6 72 (.sl 6 v c n) w (a ++ [.rows 6 34 false [[Iv l,Iv o,Iv s,.sl 2 b y z,.str x,.bool u]]]) fun v l=>eS 6 v fun v c n=>Ax a5 n5 c5 (some (Iv x7)) none none fun a o s=>Av 6 l (.sl 6 a o s) fun a=>Dd lo 34 6 72 (.sl 6 v c n) a l fun v l=>eS 6 v fun v c n=>BD lo v c n (IntKind.wrap .i64 (x6+1)) aA nA cA aB nB cB l)))) :=
 lE
def GN lo b2 x3 aA nA cA aB nB cB aC nC cC aD nD cD h:=
 LA 211 Tryz.f211 22131 0 11 lo ⟨[(1,.lp 1 0),(2,.bool b2),(3,Iv x3)],[(1,[.sl 6 aA nA cA,.sl 5 aB nB cB,.sl 9 aC nC cC,.sl 5 aD nD cD])],h⟩
def EJ lo b2 x3 x4 aA nA cA aB nB cB aC nC cC aD nD cD h:=
 Lp (X 211) lo (pf 22123122131 Tryz.f211) 2 (AU 2 (AU 1 (kS (X 211) lo (pf 1122131 Tryz.f211) 0 (Tz (X 211) lo (pf 22131 Tryz.f211) 0 (AU 0 (kS (X 211) lo (pf 11 Tryz.f211) 0 (Ip (X 211) Tryz.f211.results.toList))))))) ⟨[(1,.lp 1 0),(2,.bool b2),(3,Iv x3),(4,Iv x4)],[(1,[.sl 6 aA nA cA,.sl 5 aB nB cB,.sl 9 aC nC cC,.sl 5 aD nD cD])],h⟩
def EI lo b2 x3 x4 a5 n5 c5 x6 aA nA cA aB nB cB aC nC cC aD nD cD h:=
 Lp (X 211) lo (pf 2211123122123122131 Tryz.f211) 4 (AU 4 (AU 3 (kS (X 211) lo (pf 1122123122131 Tryz.f211) 2 (Tz (X 211) lo (pf 22123122131 Tryz.f211) 2 (AU 2 (AU 1 (kS (X 211) lo (pf 1122131 Tryz.f211) 0 (Tz (X 211) lo (pf 22131 Tryz.f211) 0 (AU 0 (kS (X 211) lo (pf 11 Tryz.f211) 0 (Ip (X 211) Tryz.f211.results.toList))))))))))) ⟨[(1,.lp 1 0),(2,.bool b2),(3,Iv x3),(4,Iv x4),(5,.sl 6 a5 n5 c5),(6,Iv x6)],[(1,[.sl 6 aA nA cA,.sl 5 aB nB cB,.sl 9 aC nC cC,.sl 5 aD nD cD])],h⟩
theorem GN.e {lo nA nB nC nD:Nat}{b2:Bool}{x3:Int}{aA aB aC aD:Pq}{cA cB cC cD:Nq}{h:Heap} :
  GN lo b2 x3 aA nA cA aB nB cB aC nC cC aD nD cD h=br (decide (x3<3)) (EJ lo b2 x3 0 aA nA cA aB nB cB aC nC cC aD nD cD h) (some (.bool true,h)) :=
 lE
theorem EJ.e {lo nA nB nC nD:Nat}{b2:Bool}{x3 x4:Int}{aA aB aC aD:Pq}{cA cB cC cD:Nq}{h:Heap} :
  EJ lo b2 x3 x4 aA nA cA aB nB cB aC nC cC aD nD cD h=br (decide (x4<3)) (Ao x3 nA (eO aA fun v=>eO (ld h v.1 (v.2+x3.toNat) 4 1) fun v=>eC v fun v l=>eN l (eS 1 v fun v l c=>Ao x4 l (eO v fun v=>eO (ld h v.1 (v.2+x4.toNat) 0 1) fun v=>eC v fun v l=>eN l (eS 6 v fun v l c=>Ao x4 nA (eO aA fun n=>eO (ld h n.1 (n.2+x4.toNat) 3 1) fun n=>eC n fun n a=>eN a (eS 6 n fun n n a=>br (decide ((l:Int)>(n:Int))) (some (.bool false,h)) (EI lo b2 x3 x4 v l c 0 aA nA cA aB nB cB aC nC cC aD nD cD h)))))))) (GN lo b2 (IntKind.wrap .i64 (x3+1)) aA nA cA aB nB cB aC nC cC aD nD cD h) :=
 lE
theorem EI.e {lo n5 nA nB nC nD:Nat}{b2:Bool}{x3 x4 x6:Int}{a5 aA aB aC aD:Pq}{c5 cA cB cC cD:Nq}{h:Heap} :
  EI lo b2 x3 x4 a5 n5 c5 x6 aA nA cA aB nB cB aC nC cC aD nD cD h=br (decide (x6<(n5:Int))) (Ao x6 n5 (eO a5 fun v=>eO (ld h v.1 (v.2+x6.toNat) 0 6) fun v=>eC v fun v l=>eI .i64 v fun v=>eC l fun l c=>eI .i64 l fun l=>eC c fun c n=>eI .i64 c fun c=>eC n fun n a=>eS 2 n fun n o s=>eC a fun a b=>eT a fun a=>eC b fun b x=>eBv b fun b=>eN x (Ao x4 nA (eO aA fun x=>eO (ld h x.1 (x.2+x4.toNat) 3 1) fun x=>eC x fun x y=>eN y (eS 6 x fun x y z=>Ao x6 y (eO x fun x=>eO (ld h x.1 (x.2+x6.toNat) 0 6) fun x=>eC x fun x y=>eI .i64 x fun x=>eC y fun y z=>eI .i64 y fun y=>eC z fun z u=>eI .i64 z fun z=>eC u fun u w=>eS 2 u fun u p q=>eC w fun w g=>eT w fun w=>eC g fun g i=>eBv g fun g=>eN i (Ai (Ad lo 275 [.agg [Iv v,Iv l,Iv c,.sl 2 n o s,.str a,.bool b],.agg [Iv x,Iv y,Iv z,.sl 2 u p q,.str w,.bool g]] h) fun v l=>eB v (EI lo b2 x3 x4 a5 n5 c5 (IntKind.wrap .i64 (x6+1)) aA nA cA aB nB cB aC nC cC aD nD cD l) (some (.bool false,l))))))))) (EJ lo b2 x3 (IntKind.wrap .i64 (x4+1)) aA nA cA aB nB cB aC nC cC aD nD cD h) :=
 lE
theorem Ox {lo n0 nA nB nC:Nat}{a0 aA aB aC:Pq}{c0 cA cB cC:Nq}{x1 xA xB xC:Int}{s1:ByteArray}{b1:Bool}{h:Heap}{r:V×Heap} (hk:(Ai (Ad lo 71 [Iv xA,Iv 0,Iv (IntKind.wrap .i64 (((nA:Int)) - 1))] h) fun v l=>eB v (br (x1==1) (Ai (Ad lo 276 [.agg [.sl 6 a0 n0 c0,.sl 5 aA nA cA,.sl 9 aB nB cB,.sl 5 aC nC cC],.agg [Iv x1,Iv xA,Iv xB,Iv xC,.str s1,.bool b1]] l) fun v c=>eU v fun v=>eC v fun v n=>eA v fun v=>eC v fun v a=>eS 6 v fun v o s=>eC a fun a b=>eS 5 a fun a x y=>eC b fun b z=>eS 9 b fun b u w=>eC z fun z p=>eS 5 z fun z q g=>eN p (eC n fun n p=>eB n (eN p (some (.tup [.agg [.sl 6 v o s,.sl 5 a x y,.sl 9 b u w,.sl 5 z q g],.bool true],c))) (eN p (some (.tup [.agg [.sl 6 v o s,.sl 5 a x y,.sl 9 b u w,.sl 5 z q g],.bool false],c))))) (br (x1==2) (Ai (Ad lo 277 [.agg [.sl 6 a0 n0 c0,.sl 5 aA nA cA,.sl 9 aB nB cB,.sl 5 aC nC cC],.agg [Iv x1,Iv xA,Iv xB,Iv xC,.str s1,.bool b1]] l) fun v c=>eU v fun v=>eC v fun v n=>eA v fun v=>eC v fun v a=>eS 6 v fun v o s=>eC a fun a b=>eS 5 a fun a x y=>eC b fun b z=>eS 9 b fun b u w=>eC z fun z p=>eS 5 z fun z q g=>eN p (eC n fun n p=>eB n (eN p (some (.tup [.agg [.sl 6 v o s,.sl 5 a x y,.sl 9 b u w,.sl 5 z q g],.bool true],c))) (eN p (some (.tup [.agg [.sl 6 v o s,.sl 5 a x y,.sl 9 b u w,.sl 5 z q g],.bool false],c))))) (br (x1==3) (Ai (Ad lo 278 [.agg [.sl 6 a0 n0 c0,.sl 5 aA nA cA,.sl 9 aB nB cB,.sl 5 aC nC cC],.agg [Iv x1,Iv xA,Iv xB,Iv xC,.str s1,.bool b1]] l) fun v c=>eU v fun v=>eC v fun v n=>eA v fun v=>eC v fun v a=>eS 6 v fun v o s=>eC a fun a b=>eS 5 a fun a x y=>eC b fun b z=>eS 9 b fun b u w=>eC z fun z p=>eS 5 z fun z q g=>eN p (eC n fun n p=>eB n (eN p (some (.tup [.agg [.sl 6 v o s,.sl 5 a x y,.sl 9 b u w,.sl 5 z q g],.bool true],c))) (eN p (some (.tup [.agg [.sl 6 v o s,.sl 5 a x y,.sl 9 b u w,.sl 5 z q g],.bool false],c))))) (br (x1==4) (Ai (Ad lo 279 [.agg [.sl 6 a0 n0 c0,.sl 5 aA nA cA,.sl 9 aB nB cB,.sl 5 aC nC cC],.agg [Iv x1,Iv xA,Iv xB,Iv xC,.str s1,.bool b1]] l) fun v c=>eU v fun v=>eC v fun v n=>eA v fun v=>eC v fun v a=>eS 6 v fun v o s=>eC a fun a b=>eS 5 a fun a x y=>eC b fun b z=>eS 9 b fun b u w=>eC z fun z p=>eS 5 z fun z q g=>eN p (eC n fun n p=>eB n (eN p (some (.tup [.agg [.sl 6 v o s,.sl 5 a x y,.sl 9 b u w,.sl 5 z q g],.bool true],c))) (eN p (some (.tup [.agg [.sl 6 v o s,.sl 5 a x y,.sl 9 b u w,.sl 5 z q g],.bool false],c))))) (Ao xA nA (eO aA fun v=>eO (ld l v.1 (v.2+xA.toNat) 2 1) fun v=>eC v fun v c=>eN c (eI .i64 v fun v=>br (decide (v>0)) (some (.tup [.agg [.sl 6 a0 n0 c0,.sl 5 aA nA cA,.sl 9 aB nB cB,.sl 5 aC nC cC],.bool false],l)) (Ai (Ad lo 71 [Iv xB,Iv 0,Iv 2] l) fun v c=>eB v (Ao xA nA (eO aA fun v=>eO (st lo c v.1 (v.2+xA.toNat) 0 [Iv xB]) fun v=>some (.tup [.agg [.sl 6 a0 n0 c0,.sl 5 aA nA cA,.sl 9 aB nB cB,.sl 5 aC nC cC],.bool true],v))) (some (.tup [.agg [.sl 6 a0 n0 c0,.sl 5 aA nA cA,.sl 9 aB nB cB,.sl 5 aC nC cC],.bool false],c)))))))))) (some (.tup [.agg [.sl 6 a0 n0 c0,.sl 5 aA nA cA,.sl 9 aB nB cB,.sl 5 aC nC cC],.bool false],l)))=some r) :
  Ad lo 212 [.agg [.sl 6 a0 n0 c0,.sl 5 aA nA cA,.sl 9 aB nB cB,.sl 5 aC nC cC],.agg [Iv x1,Iv xA,Iv xB,Iv xC,.str s1,.bool b1]] h=some r :=
 eK Tryz.func212 hk
theorem Qn {lo n0 nA nB nC:Nat}{a0 aA aB aC:Pq}{c0 cA cB cC:Nq}{x1 xA xB xC:Int}{s1:ByteArray}{b1:Bool}{h:Heap}{r:V×Heap} (hk:(Ai (Ad lo 71 [Iv xA,Iv 0,Iv 2] h) fun v l=>eB v (Ao xA n0 (eO a0 fun v=>eO (ld l v.1 (v.2+xA.toNat) 0 6) fun v=>eC v fun v c=>eI .i64 v fun v=>eC c fun c n=>eI .i64 c fun c=>eC n fun n a=>eS 2 n fun n o s=>eC a fun a b=>eS 6 a fun a x y=>eC b fun b z=>eS 1 b fun b u w=>eC z fun z p=>eBv z fun z=>eN p (br (x1==6) (Ai (Ad lo 102 [.agg [.sl 2 n o s],Iv xB] l) fun p q=>eB p (Ai (Ad lo 103 [.agg [.sl 2 n o s],Iv xB] q) fun p g=>eA p fun p=>eC p fun p i=>eS 2 p fun p j k=>eN i (Ai (Ad lo 104 [.agg [Iv v,Iv c,.sl 2 p j k,.sl 6 a x y,.sl 1 b u w,.bool z]] g) fun p g=>eA p fun p=>eC p fun p i=>eI .i64 p fun p=>eC i fun i j=>eI .i64 i fun i=>eC j fun j k=>eS 2 j fun j m t=>eC k fun k d=>eS 6 k fun k e f=>eC d fun d v0=>eS 1 d fun d v1 v2=>eC v0 fun v0 v3=>eBv v0 fun v0=>eN v3 (Ao xA n0 (eO a0 fun v3=>eO (st lo g v3.1 (v3.2+xA.toNat) 0 [Iv p,Iv i,.sl 2 j m t,.sl 6 k e f,.sl 1 d v1 v2,.bool v0]) fun p=>some (.tup [.agg [.sl 6 a0 n0 c0,.sl 5 aA nA cA,.sl 9 aB nB cB,.sl 5 aC nC cC],.bool true],p))))) (Ao xA n0 (eO a0 fun p=>eO (st lo q p.1 (p.2+xA.toNat) 0 [Iv v,Iv c,.sl 2 n o s,.sl 6 a x y,.sl 1 b u w,.bool z]) fun p=>some (.tup [.agg [.sl 6 a0 n0 c0,.sl 5 aA nA cA,.sl 9 aB nB cB,.sl 5 aC nC cC],.bool false],p)))) (br (x1==7) (Ai (Ad lo 117 [.agg [Iv v,Iv c,.sl 2 n o s,.sl 6 a x y,.sl 1 b u w,.bool z],Iv xB] l) fun p q=>eB p (Ai (Ad lo 118 [.agg [.sl 2 n o s],Iv xB] q) fun p g=>eA p fun p=>eC p fun p i=>eS 2 p fun p j k=>eN i (Ai (Ad lo 104 [.agg [Iv v,Iv c,.sl 2 p j k,.sl 6 a x y,.sl 1 b u w,.bool true]] g) fun p g=>eA p fun p=>eC p fun p i=>eI .i64 p fun p=>eC i fun i j=>eI .i64 i fun i=>eC j fun j k=>eS 2 j fun j m t=>eC k fun k d=>eS 6 k fun k e f=>eC d fun d v0=>eS 1 d fun d v1 v2=>eC v0 fun v0 v3=>eBv v0 fun v0=>eN v3 (Ao xA n0 (eO a0 fun v3=>eO (st lo g v3.1 (v3.2+xA.toNat) 0 [Iv p,Iv i,.sl 2 j m t,.sl 6 k e f,.sl 1 d v1 v2,.bool v0]) fun p=>some (.tup [.agg [.sl 6 a0 n0 c0,.sl 5 aA nA cA,.sl 9 aB nB cB,.sl 5 aC nC cC],.bool true],p))))) (Ao xA n0 (eO a0 fun p=>eO (st lo q p.1 (p.2+xA.toNat) 0 [Iv v,Iv c,.sl 2 n o s,.sl 6 a x y,.sl 1 b u w,.bool z]) fun p=>some (.tup [.agg [.sl 6 a0 n0 c0,.sl 5 aA nA cA,.sl 9 aB nB cB,.sl 5 aC nC cC],.bool false],p)))) (br (x1==8) (br (decide ((o:Int)<4)) (Ai (Ad lo 249 [.agg [.sl 2 n o s]] l) fun p q=>eA p fun p=>eC p fun p g=>eS 2 p fun p i j=>eN g (Ao xA n0 (eO a0 fun g=>eO (st lo q g.1 (g.2+xA.toNat) 0 [Iv v,Iv c,.sl 2 p i j,.sl 6 a x y,.sl 1 b u w,.bool z]) fun p=>some (.tup [.agg [.sl 6 a0 n0 c0,.sl 5 aA nA cA,.sl 9 aB nB cB,.sl 5 aC nC cC],.bool true],p)))) (Ao xA n0 (eO a0 fun p=>eO (st lo l p.1 (p.2+xA.toNat) 0 [Iv v,Iv c,.sl 2 n o s,.sl 6 a x y,.sl 1 b u w,.bool z]) fun p=>some (.tup [.agg [.sl 6 a0 n0 c0,.sl 5 aA nA cA,.sl 9 aB nB cB,.sl 5 aC nC cC],.bool false],p)))) (Ai (Ad lo 71 [Iv xB,Iv 0,Iv 2] l) fun p q=>eB p (Ai (Ad lo 97 [.agg [Iv v,Iv c,.sl 2 n o s,.sl 6 a x y,.sl 1 b u w,.bool z],Iv xB] q) fun p g=>eB p (Ai (Ad lo 98 [.agg [Iv v,Iv c,.sl 2 n o s,.sl 6 a x y,.sl 1 b u w,.bool z],Iv xB] g) fun p i=>eA p fun p=>eC p fun p j=>eI .i64 p fun p=>eC j fun j k=>eI .i64 j fun j=>eC k fun k m=>eS 2 k fun k t d=>eC m fun m e=>eS 6 m fun m f v0=>eC e fun e v1=>eS 1 e fun e v2 v3=>eC v1 fun v1 v4=>eBv v1 fun v1=>eN v4 (Ao xA n0 (eO a0 fun v4=>eO (st lo i v4.1 (v4.2+xA.toNat) 0 [Iv p,Iv j,.sl 2 k t d,.sl 6 m f v0,.sl 1 e v2 v3,.bool v1]) fun p=>some (.tup [.agg [.sl 6 a0 n0 c0,.sl 5 aA nA cA,.sl 9 aB nB cB,.sl 5 aC nC cC],.bool true],p)))) (Ao xA n0 (eO a0 fun p=>eO (st lo g p.1 (p.2+xA.toNat) 0 [Iv v,Iv c,.sl 2 n o s,.sl 6 a x y,.sl 1 b u w,.bool z]) fun p=>some (.tup [.agg [.sl 6 a0 n0 c0,.sl 5 aA nA cA,.sl 9 aB nB cB,.sl 5 aC nC cC],.bool false],p)))) (Ao xA n0 (eO a0 fun p=>eO (st lo q p.1 (p.2+xA.toNat) 0 [Iv v,Iv c,.sl 2 n o s,.sl 6 a x y,.sl 1 b u w,.bool z]) fun v=>some (.tup [.agg [.sl 6 a0 n0 c0,.sl 5 aA nA cA,.sl 9 aB nB cB,.sl 5 aC nC cC],.bool false],v))))))))) (some (.tup [.agg [.sl 6 a0 n0 c0,.sl 5 aA nA cA,.sl 9 aB nB cB,.sl 5 aC nC cC],.bool false],l)))=some r) :
  Ad lo 213 [.agg [.sl 6 a0 n0 c0,.sl 5 aA nA cA,.sl 9 aB nB cB,.sl 5 aC nC cC],.agg [Iv x1,Iv xA,Iv xB,Iv xC,.str s1,.bool b1]] h=some r :=
 eK Tryz.func213 hk
theorem Td {lo n0 nA nB nC:Nat}{a0 aA aB aC:Pq}{c0 cA cB cC:Nq}{x1 xA xB xC:Int}{s1:ByteArray}{b1:Bool}{h:Heap}{r:V×Heap} (hk:(br (x1==10) (Ai (Ad lo 71 [Iv xA,Iv 0,Iv 2] h) fun v l=>eB v (Ai (Ad lo 71 [Iv xB,Iv 0,Iv 2] l) fun v c=>eB v (br (xA==xB) (some (.tup [.agg [.sl 6 a0 n0 c0,.sl 5 aA nA cA,.sl 9 aB nB cB,.sl 5 aC nC cC],.bool false],c)) (br (decide ((nB:Int)≥12)) (some (.tup [.agg [.sl 6 a0 n0 c0,.sl 5 aA nA cA,.sl 9 aB nB cB,.sl 5 aC nC cC],.bool false],c)) (Ao xA n0 (eO a0 fun v=>eO (ld c v.1 (v.2+xA.toNat) 3 1) fun v=>eC v fun v n=>eN n (eS 6 v fun v v n=>Ai (Ad lo 71 [Iv xC,Iv 0,Iv (IntKind.wrap .i64 (((v:Int)) - 1))] c) fun v n=>eB v (Ao xA n0 (eO a0 fun v=>eO (ld n v.1 (v.2+xA.toNat) 3 1) fun v=>eC v fun v a=>eN a (eS 6 v fun v a o=>Ao xC a (eO v fun v=>eO (ld n v.1 (v.2+xC.toNat) 0 6) fun v=>eC v fun v a=>eI .i64 v fun v=>eC a fun a o=>eI .i64 a fun a=>eC o fun o s=>eI .i64 o fun o=>eC s fun s b=>eS 2 s fun s x y=>eC b fun b z=>eT b fun b=>eC z fun z u=>eBv z fun z=>eN u (Ai (Ad lo 164 [.agg [Iv v,Iv a,Iv o,.sl 2 s x y,.str b,.bool z]] n) fun v a=>eA v fun v=>eC v fun v o=>eI .i64 v fun v=>eC o fun o s=>eI .i64 o fun o=>eC s fun s b=>eI .i64 s fun s=>eC b fun b x=>eS 2 b fun b y z=>eC x fun x u=>eT x fun x=>eC u fun u w=>eBv u fun u=>eN w (Av 9 (a ++ [.rows 9 172 false [[Iv xA,Iv xB,Iv xC,Iv v,Iv o,Iv s,.sl 2 b y z,.str x,.bool u]]]) (.sl 9 (some (a.length,0)) 1 (some 1)) fun w=>Dd lo 172 9 96 (.sl 9 aB nB cB) w (a ++ [.rows 9 172 false [[Iv xA,Iv xB,Iv xC,Iv v,Iv o,Iv s,.sl 2 b y z,.str x,.bool u]]]) fun v a=>eS 9 v fun v o s=>some (.tup [.agg [.sl 6 a0 n0 c0,.sl 5 aA nA cA,.sl 9 v o s,.sl 5 aC nC cC],.bool true],a))))))) (some (.tup [.agg [.sl 6 a0 n0 c0,.sl 5 aA nA cA,.sl 9 aB nB cB,.sl 5 aC nC cC],.bool false],n))))))) (some (.tup [.agg [.sl 6 a0 n0 c0,.sl 5 aA nA cA,.sl 9 aB nB cB,.sl 5 aC nC cC],.bool false],c))) (some (.tup [.agg [.sl 6 a0 n0 c0,.sl 5 aA nA cA,.sl 9 aB nB cB,.sl 5 aC nC cC],.bool false],l))) (Ai (Ad lo 71 [Iv xA,Iv 0,Iv (IntKind.wrap .i64 (((nB:Int)) - 1))] h) fun v l=>eB v (Ao xA nB (eO aB fun v=>eO (ld l v.1 (v.2+xA.toNat) 0 9) fun v=>eC v fun v c=>eI .i64 v fun v=>eC c fun c n=>eI .i64 c fun c=>eC n fun n a=>eI .i64 n fun n=>eC a fun a o=>eI .i64 a fun a=>eC o fun o s=>eI .i64 o fun o=>eC s fun s b=>eI .i64 s fun s=>eC b fun b x=>eS 2 b fun b y z=>eC x fun x u=>eT x fun x=>eC u fun u w=>eBv u fun u=>eN w (br (x1==13) (br (x1==12) (some (.tup [.agg [.sl 6 a0 n0 c0,.sl 5 aA nA cA,.sl 9 aB nB cB,.sl 5 aC nC cC],.bool true],l)) (Ao c n0 (eO a0 fun w=>eO (ld l w.1 (w.2+c.toNat) 0 6) fun w=>eC w fun w p=>eI .i64 w fun w=>eC p fun p q=>eI .i64 p fun p=>eC q fun q g=>eS 2 q fun q i j=>eC g fun g k=>eS 6 g fun g m t=>eC k fun k d=>eS 1 k fun k e f=>eC d fun d v0=>eBv d fun d=>eN v0 (Ai (Ad lo 85 [.agg [Iv w,Iv p,.sl 2 q i j,.sl 6 g m t,.sl 1 k e f,.bool d],Iv v,Iv n,.agg [Iv a,Iv o,Iv s,.sl 2 b y z,.str x,.bool u]] l) fun w p=>eU w fun w=>eC w fun w q=>eA w fun w=>eC w fun w g=>eI .i64 w fun w=>eC g fun g i=>eI .i64 g fun g=>eC i fun i j=>eS 2 i fun i k m=>eC j fun j t=>eS 6 j fun j d e=>eC t fun t f=>eS 1 t fun t v0 v1=>eC f fun f v2=>eBv f fun f=>eN v2 (eC q fun q v2=>eB q (eN v2 (Ao c n0 (eO a0 fun q=>eO (st lo p q.1 (q.2+c.toNat) 0 [Iv w,Iv g,.sl 2 i k m,.sl 6 j d e,.sl 1 t v0 v1,.bool f]) fun w=>some (.tup [.agg [.sl 6 a0 n0 c0,.sl 5 aA nA cA,.sl 9 aB nB cB,.sl 5 aC nC cC],.bool true],w)))) (eN v2 (some (.tup [.agg [.sl 6 a0 n0 c0,.sl 5 aA nA cA,.sl 9 aB nB cB,.sl 5 aC nC cC],.bool true],p)))))))) (Ax aB nB cB none (some (Iv xA)) none fun w p q=>Av 9 (l ++ [.rows 9 172 false []]) (.sl 9 w p q) fun w=>Dd lo 172 9 96 (.sl 9 (some (l.length,0)) 0 (some 0)) w (l ++ [.rows 9 172 false []]) fun w p=>eS 9 w fun w q g=>Ax aB nB cB (some (Iv (IntKind.wrap .i64 (xA+1)))) none none fun i j k=>Av 9 p (.sl 9 i j k) fun i=>Dd lo 172 9 96 (.sl 9 w q g) i p fun w p=>eS 9 w fun w q g=>br (x1==12) (some (.tup [.agg [.sl 6 a0 n0 c0,.sl 5 aA nA cA,.sl 9 w q g,.sl 5 aC nC cC],.bool true],p)) (Ao c n0 (eO a0 fun i=>eO (ld p i.1 (i.2+c.toNat) 0 6) fun i=>eC i fun i j=>eI .i64 i fun i=>eC j fun j k=>eI .i64 j fun j=>eC k fun k m=>eS 2 k fun k t d=>eC m fun m e=>eS 6 m fun m f v0=>eC e fun e v1=>eS 1 e fun e v2 v3=>eC v1 fun v1 v4=>eBv v1 fun v1=>eN v4 (Ai (Ad lo 85 [.agg [Iv i,Iv j,.sl 2 k t d,.sl 6 m f v0,.sl 1 e v2 v3,.bool v1],Iv v,Iv n,.agg [Iv a,Iv o,Iv s,.sl 2 b y z,.str x,.bool u]] p) fun v n=>eU v fun v=>eC v fun v a=>eA v fun v=>eC v fun v o=>eI .i64 v fun v=>eC o fun o s=>eI .i64 o fun o=>eC s fun s b=>eS 2 s fun s x y=>eC b fun b z=>eS 6 b fun b u p=>eC z fun z i=>eS 1 z fun z j k=>eC i fun i m=>eBv i fun i=>eN m (eC a fun a m=>eB a (eN m (Ao c n0 (eO a0 fun a=>eO (st lo n a.1 (a.2+c.toNat) 0 [Iv v,Iv o,.sl 2 s x y,.sl 6 b u p,.sl 1 z j k,.bool i]) fun v=>some (.tup [.agg [.sl 6 a0 n0 c0,.sl 5 aA nA cA,.sl 9 w q g,.sl 5 aC nC cC],.bool true],v)))) (eN m (some (.tup [.agg [.sl 6 a0 n0 c0,.sl 5 aA nA cA,.sl 9 w q g,.sl 5 aC nC cC],.bool true],n))))))))))) (some (.tup [.agg [.sl 6 a0 n0 c0,.sl 5 aA nA cA,.sl 9 aB nB cB,.sl 5 aC nC cC],.bool false],l))))=some r) :
  Ad lo 214 [.agg [.sl 6 a0 n0 c0,.sl 5 aA nA cA,.sl 9 aB nB cB,.sl 5 aC nC cC],.agg [Iv x1,Iv xA,Iv xB,Iv xC,.str s1,.bool b1]] h=some r :=
 eK Tryz.func214 hk
theorem LM {lo n0:Nat}{a0:Pq}{c0:Nq}{h:Heap}{r:V×Heap} (hk:(Ai (Ad lo 293 [.sl 2 a0 n0 c0] h) fun v l=>eS 2 v fun v c n=>Ai (Ad lo 292 [.sl 2 v c n] l) fun v l=>eS 2 v fun v c n=>some (.agg [.sl 2 v c n],l))=some r) :
  Ad lo 229 [.agg [.sl 2 a0 n0 c0]] h=some r :=
 eK Tryz.func229 hk
def Fl lo a0 n0 c0 x1 x5 h:=
 LA 237 Tryz.f237 22131 0 11 lo ⟨[(0,.sl 2 a0 n0 c0),(1,Iv x1),(5,Iv x5)],[],h⟩
theorem Fl.e {lo n0:Nat}{a0:Pq}{c0:Nq}{x1 x5:Int}{h:Heap} :
  Fl lo a0 n0 c0 x1 x5 h=br (decide (x5<(n0:Int))) (Ao x5 n0 (eO a0 fun v=>eO (ld h v.1 (v.2+x5.toNat) 0 1) fun v=>eC v fun v l=>eN l (eS 6 v fun v l c=>Ai (Ad lo 238 [.sl 6 v l c,Iv x1] h) fun v l=>eI .i64 v fun v=>Ao x5 n0 (eO a0 fun c=>eO (ld l c.1 (c.2+x5.toNat) 1 1) fun c=>eC c fun c n=>eN n (eS 6 c fun c n a=>Ai (Ad lo 238 [.sl 6 c n a,Iv v] l) fun v l=>eI .i64 v fun v=>Fl lo a0 n0 c0 v (IntKind.wrap .i64 (x5+1)) l))))) (some (Iv x1,h)) :=
 lE
def Eg lo a0 n0 c0 x1 x5 h:=
 LA 238 Tryz.f238 22131 0 11 lo ⟨[(0,.sl 6 a0 n0 c0),(1,Iv x1),(5,Iv x5)],[],h⟩
theorem Eg.e {lo n0:Nat}{a0:Pq}{c0:Nq}{x1 x5:Int}{h:Heap} :
  Eg lo a0 n0 c0 x1 x5 h=br (decide (x5<(n0:Int))) (Ao x5 n0 (eO a0 fun v=>eO (st lo h v.1 (v.2+x5.toNat) 0 [Iv x1]) fun v=>Ao x5 n0 (eO a0 fun l=>eO (st lo v l.1 (l.2+x5.toNat) 1 [Iv (IntKind.wrap .i64 (x1+1))]) fun v=>Ao x5 n0 (eO a0 fun l=>eO (st lo v l.1 (l.2+x5.toNat) 2 [Iv (IntKind.wrap .i64 ((IntKind.wrap .i64 (x1+1))+1))]) fun v=>Ao x5 n0 (eO a0 fun l=>eO (ld v l.1 (l.2+x5.toNat) 3 1) fun l=>eC l fun l c=>eN c (eS 2 l fun l c n=>Ai (Ad lo 240 [.sl 2 l c n,Iv (IntKind.wrap .i64 ((IntKind.wrap .i64 ((IntKind.wrap .i64 (x1+1))+1))+1))] v) fun v l=>eI .i64 v fun v=>Ai (Ad lo 149 [Iv v] l) fun l c=>eT l fun l=>Ao x5 n0 (eO a0 fun n=>eO (st lo c n.1 (n.2+x5.toNat) 4 [.str l]) fun l=>br ((IntKind.i64.wrap (v+(1:Int))).tmod (3:Int)==0) (Ao x5 n0 (eO a0 fun c=>eO (st lo l c.1 (c.2+x5.toNat) 5 [.bool true]) fun c=>Eg lo a0 n0 c0 (IntKind.wrap .i64 ((IntKind.wrap .i64 (v+1))+1)) (IntKind.wrap .i64 (x5+1)) c)) (Ao x5 n0 (eO a0 fun c=>eO (st lo l c.1 (c.2+x5.toNat) 5 [.bool false]) fun l=>Eg lo a0 n0 c0 (IntKind.wrap .i64 ((IntKind.wrap .i64 (v+1))+1)) (IntKind.wrap .i64 (x5+1)) l))))))))) (some (Iv x1,h)) :=
 lE
def Fh lo a0 n0 c0 x1 x5 h:=
 LA 239 Tryz.f239 22131 0 11 lo ⟨[(0,.sl 1 a0 n0 c0),(1,Iv x1),(5,Iv x5)],[],h⟩
theorem Fh.e {lo n0:Nat}{a0:Pq}{c0:Nq}{x1 x5:Int}{h:Heap} :
  Fh lo a0 n0 c0 x1 x5 h=br (decide (x5<(n0:Int))) (Ao x5 n0 (eO a0 fun v=>eO (ld h v.1 (v.2+x5.toNat) 0 1) fun v=>eC v fun v l=>eN l (eS 6 v fun v l c=>Ai (Ad lo 238 [.sl 6 v l c,Iv x1] h) fun v l=>eI .i64 v fun v=>Fh lo a0 n0 c0 v (IntKind.wrap .i64 (x5+1)) l))) (some (Iv x1,h)) :=
 lE
def Gf lo a0 n0 c0 x1 x5 h:=
 LA 240 Tryz.f240 22131 0 11 lo ⟨[(0,.sl 2 a0 n0 c0),(1,Iv x1),(5,Iv x5)],[],h⟩
theorem Gf.e {lo n0:Nat}{a0:Pq}{c0:Nq}{x1 x5:Int}{h:Heap} :
  Gf lo a0 n0 c0 x1 x5 h=br (decide (x5<(n0:Int))) (Ao x5 n0 (eO a0 fun v=>eO (st lo h v.1 (v.2+x5.toNat) 0 [Iv x1]) fun v=>Ao x5 n0 (eO a0 fun l=>eO (st lo v l.1 (l.2+x5.toNat) 1 [Iv (IntKind.wrap .i64 (x1+1))]) fun v=>Gf lo a0 n0 c0 (IntKind.wrap .i64 ((IntKind.wrap .i64 (x1+1))+1)) (IntKind.wrap .i64 (x5+1)) v))) (some (Iv x1,h)) :=
 lE
def Fq lo a0 n0 c0 x1 x4 x5 h:=
 LA 241 Tryz.f241 22131 0 11 lo ⟨[(0,.sl 2 a0 n0 c0),(1,Iv x1),(4,Iv x4),(5,Iv x5)],[],h⟩
theorem Fq.e {lo n0:Nat}{a0:Pq}{c0:Nq}{x1 x4 x5:Int}{h:Heap} :
  Fq lo a0 n0 c0 x1 x4 x5 h=br (decide (x5<(n0:Int))) (Ao x5 n0 (eO a0 fun v=>eO (ld h v.1 (v.2+x5.toNat) 0 1) fun v=>eC v fun v l=>eN l (eS 6 v fun v l c=>Ai (Ad lo 242 [.sl 6 v l c,Iv x1] h) fun v l=>eI .i64 v fun v=>br (decide (v<0)) (some (Iv (-1),l)) (Ao x5 n0 (eO a0 fun c=>eO (ld l c.1 (c.2+x5.toNat) 1 1) fun c=>eC c fun c n=>eN n (eS 6 c fun c n a=>Ai (Ad lo 242 [.sl 6 c n a,Iv v] l) fun v l=>eI .i64 v fun v=>br (decide (v<0)) (some (Iv (-1),l)) (Fq lo a0 n0 c0 v x4 (IntKind.wrap .i64 (x5+1)) l))))))) (some (Iv x1,h)) :=
 lE
def Eh lo a0 n0 c0 x1 x4 x5 h:=
 LA 242 Tryz.f242 22131 0 11 lo ⟨[(0,.sl 6 a0 n0 c0),(1,Iv x1),(4,Iv x4),(5,Iv x5)],[],h⟩
theorem Eh.e {lo n0:Nat}{a0:Pq}{c0:Nq}{x1 x4 x5:Int}{h:Heap} :
  Eh lo a0 n0 c0 x1 x4 x5 h=br (decide (x5<(n0:Int))) (Ao x5 n0 (eO a0 fun v=>eO (ld h v.1 (v.2+x5.toNat) 0 1) fun v=>eC v fun v l=>eN l (eI .i64 v fun v=>br (v==x1) (Ao x5 n0 (eO a0 fun v=>eO (ld h v.1 (v.2+x5.toNat) 1 1) fun v=>eC v fun v l=>eN l (eI .i64 v fun v=>br (v==IntKind.i64.wrap (x1+(1:Int))) (Ao x5 n0 (eO a0 fun v=>eO (ld h v.1 (v.2+x5.toNat) 2 1) fun v=>eC v fun v l=>eN l (eI .i64 v fun v=>br (v==IntKind.i64.wrap (IntKind.i64.wrap (x1+(1:Int))+(1:Int))) (Ao x5 n0 (eO a0 fun v=>eO (ld h v.1 (v.2+x5.toNat) 3 1) fun v=>eC v fun v l=>eN l (eS 2 v fun v l c=>Ai (Ad lo 244 [.sl 2 v l c,Iv (IntKind.wrap .i64 ((IntKind.wrap .i64 ((IntKind.wrap .i64 (x1+1))+1))+1))] h) fun v l=>eI .i64 v fun v=>br (decide (v<0)) (some (Iv (-1),l)) (Ao x5 n0 (eO a0 fun c=>eO (ld l c.1 (c.2+x5.toNat) 4 1) fun c=>eC c fun c n=>eN n (eT c fun c=>Ai (Ad l.length 149 [Iv v] l) fun l n=>eT l fun l=>br (c.toList==l.toList) (Ao x5 n0 (eO a0 fun l=>eO (ld n l.1 (l.2+x5.toNat) 5 1) fun l=>eC l fun l c=>eN c (eB l (br ((IntKind.i64.wrap (v+(1:Int))).tmod (3:Int)==0) (Eh lo a0 n0 c0 (IntKind.wrap .i64 ((IntKind.wrap .i64 (v+1))+1)) x4 (IntKind.wrap .i64 (x5+1)) n) (some (Iv (-1),n))) (br ((IntKind.i64.wrap (v+(1:Int))).tmod (3:Int)==0) (some (Iv (-1),n)) (Eh lo a0 n0 c0 (IntKind.wrap .i64 ((IntKind.wrap .i64 (v+1))+1)) x4 (IntKind.wrap .i64 (x5+1)) n))))) (some (Iv (-1),n)))))))) (some (Iv (-1),h))))) (some (Iv (-1),h))))) (some (Iv (-1),h))))) (some (Iv x1,h)) :=
 lE
def Fo lo a0 n0 c0 x1 x4 x5 h:=
 LA 243 Tryz.f243 22131 0 11 lo ⟨[(0,.sl 1 a0 n0 c0),(1,Iv x1),(4,Iv x4),(5,Iv x5)],[],h⟩
theorem Fo.e {lo n0:Nat}{a0:Pq}{c0:Nq}{x1 x4 x5:Int}{h:Heap} :
  Fo lo a0 n0 c0 x1 x4 x5 h=br (decide (x5<(n0:Int))) (Ao x5 n0 (eO a0 fun v=>eO (ld h v.1 (v.2+x5.toNat) 0 1) fun v=>eC v fun v l=>eN l (eS 6 v fun v l c=>Ai (Ad lo 242 [.sl 6 v l c,Iv x1] h) fun v l=>eI .i64 v fun v=>br (decide (v<0)) (some (Iv (-1),l)) (Fo lo a0 n0 c0 v x4 (IntKind.wrap .i64 (x5+1)) l)))) (some (Iv x1,h)) :=
 lE
def Gh lo a0 n0 c0 x1 x4 x5 h:=
 LA 244 Tryz.f244 22131 0 11 lo ⟨[(0,.sl 2 a0 n0 c0),(1,Iv x1),(4,Iv x4),(5,Iv x5)],[],h⟩
theorem Gh.e {lo n0:Nat}{a0:Pq}{c0:Nq}{x1 x4 x5:Int}{h:Heap} :
  Gh lo a0 n0 c0 x1 x4 x5 h=br (decide (x5<(n0:Int))) (Ao x5 n0 (eO a0 fun v=>eO (ld h v.1 (v.2+x5.toNat) 0 1) fun v=>eC v fun v l=>eN l (eI .i64 v fun v=>br (v==x1) (Ao x5 n0 (eO a0 fun v=>eO (ld h v.1 (v.2+x5.toNat) 1 1) fun v=>eC v fun v l=>eN l (eI .i64 v fun v=>br (v==IntKind.i64.wrap (x1+(1:Int))) (Gh lo a0 n0 c0 (IntKind.wrap .i64 ((IntKind.wrap .i64 (x1+1))+1)) x4 (IntKind.wrap .i64 (x5+1)) h) (some (Iv (-1),h))))) (some (Iv (-1),h))))) (some (Iv x1,h)) :=
 lE
def Dk lo x0 x1 x6 nA aA nB cA nC aB nD cB nE aC nF cC nG aD nH cD nI aE nJ cE nK aF nL cF nM aG nN cG nO aH nP cH h:=
 LA 245 Tryz.f245 221311 0 111 lo ⟨[(0,Iv x0),(1,Iv x1),(4,.lp 4 0),(5,.lp 5 0),(6,Iv x6)],[(4,[.sl nA aA nB cA,.sl nC aB nD cB,.sl nE aC nF cC,.sl nG aD nH cD]),(5,[.sl nI aE nJ cE,.sl nK aF nL cF,.sl nM aG nN cG,.sl nO aH nP cH])],h⟩
def Dj lo x1 x7 nA aA nB cA nC aB nD cB nE aC nF cC nG aD nH cD nI aE nJ cE nK aF nL cF nM aG nN cG nO aH nP cH h:=
 LA 245 Tryz.f245 2213111 2 1111 lo ⟨[(1,Iv x1),(4,.lp 4 0),(5,.lp 5 0),(7,Iv x7)],[(4,[.sl nA aA nB cA,.sl nC aB nD cB,.sl nE aC nF cC,.sl nG aD nH cD]),(5,[.sl nI aE nJ cE,.sl nK aF nL cF,.sl nM aG nN cG,.sl nO aH nP cH])],h⟩
theorem Tc {lo:Nat}{x0 x1:Int}{h:Heap}{r:V×Heap} (hk:(Dk lo x0 x1 0 0 none 0 (some 0) 0 none 0 (some 0) 0 none 0 (some 0) 0 none 0 (some 0) 0 none 0 (some 0) 0 none 0 (some 0) 0 none 0 (some 0) 0 none 0 (some 0) h)=some r) :
  Ad lo 245 [Iv x0,Iv x1] h=some r :=
 eK Tryz.func245 hk
theorem Dk.e {lo nA nB nC nD nE nF nG nH nI nJ nK nL nM nN nO nP:Nat}{x0 x1 x6:Int}{aA aB aC aD aE aF aG aH:Pq}{cA cB cC cD cE cF cG cH:Nq}{h:Heap} :
  Dk lo x0 x1 x6 nA aA nB cA nC aB nD cB nE aC nF cC nG aD nH cD nI aE nJ cE nK aF nL cF nM aG nN cG nO aH nP cH h=br (decide (x6<3)) (Ai (Ad lo 306 [Iv x6,Iv x0] h) fun v l=>eA v fun v=>eC v fun v c=>eI .i64 v fun v=>eC c fun c n=>eI .i64 c fun c=>eC n fun n a=>eS 2 n fun n o s=>eC a fun a b=>eS 6 a fun a x y=>eC b fun b z=>eS 1 b fun b u w=>eC z fun z p=>eBv z fun z=>eN p (Av 6 (l ++ [.rows 6 49 false [[Iv v,Iv c,.sl 2 n o s,.sl 6 a x y,.sl 1 b u w,.bool z]]]) (.sl 6 (some (l.length,0)) 1 (some 1)) fun p=>Dd lo 49 6 96 (.sl nI aE nJ cE) p (l ++ [.rows 6 49 false [[Iv v,Iv c,.sl 2 n o s,.sl 6 a x y,.sl 1 b u w,.bool z]]]) fun v l=>eS 6 v fun v c n=>Dk lo x0 x1 (IntKind.wrap .i64 (x6+1)) nA aA nB cA nC aB nD cB nE aC nF cC nG aD nH cD 6 v c n nK aF nL cF nM aG nN cG nO aH nP cH l)) (Dj lo x1 0 nA aA nB cA nC aB nD cB nE aC nF cC nG aD nH cD nI aE nJ cE nK aF nL cF nM aG nN cG nO aH nP cH h) :=
 lE
theorem Dj.e {lo nA nB nC nD nE nF nG nH nI nJ nK nL nM nN nO nP:Nat}{x1 x7:Int}{aA aB aC aD aE aF aG aH:Pq}{cA cB cC cD cE cF cG cH:Nq}{h:Heap} :
  Dj lo x1 x7 nA aA nB cA nC aB nD cB nE aC nF cC nG aD nH cD nI aE nJ cE nK aF nL cF nM aG nN cG nO aH nP cH h=br (decide (x7<x1)) (Ai (Ad lo 106 [] h) fun v l=>eA v fun v=>eC v fun v c=>eS 2 v fun v n a=>eN c (Av 5 (l ++ [.rows 5 105 false [[Iv (x7.tmod (3:Int)),.sl 2 v n a,Iv 0,Iv 0,Iv 0]]]) (.sl 5 (some (l.length,0)) 1 (some 1)) fun c=>Dd lo 105 5 56 (.sl nK aF nL cF) c (l ++ [.rows 5 105 false [[Iv (x7.tmod (3:Int)),.sl 2 v n a,Iv 0,Iv 0,Iv 0]]]) fun v l=>eS 5 v fun v c n=>Dj lo x1 (IntKind.wrap .i64 (x7+1)) nA aA nB cA nC aB nD cB nE aC nF cC nG aD nH cD nI aE nJ cE 5 v c n nM aG nN cG nO aH nP cH l)) (some (.agg [.sl nI aE nJ cE,.sl nK aF nL cF,.sl nM aG nN cG,.sl nO aH nP cH],h)) :=
 lE
def Bd lo nA nB nC x3 aA nD cA xA aB nE cB aC nF cC aD nG cD aE nH cE h:=
 LA 247 Tryz.f247 2213111 0 1111 lo ⟨[(0,.ptr (some (nA,(nB,nC)))),(3,Iv x3),(9,.lp 9 0),(10,.sl 6 aA nD cA),(11,Iv xA)],[(9,[.sl 6 aB nE cB,.sl 5 aC nF cC,.sl 9 aD nG cD,.sl 5 aE nH cE])],h⟩
theorem NH {lo nA nB nC:Nat}{x1 x2 x3:Int}{h:Heap}{r:V×Heap} (hk:(Ai (Ad lo 245 [Iv x1,Iv x2] h) fun v l=>eA v fun v=>eC v fun v c=>eS 6 v fun v n a=>eC c fun c o=>eS 5 c fun c s b=>eC o fun o x=>eS 9 o fun o y z=>eC x fun x u=>eS 5 x fun x w p=>eN u (Bd lo nA nB nC x3 (some (l.length,0)) 0 (some 0) 0 v n a c s b o y z x w p (l ++ [.rows 6 87 false []])))=some r) :
  Ad lo 247 [.ptr (some (nA,(nB,nC))),Iv x1,Iv x2,Iv x3] h=some r :=
 eK Tryz.func247 hk
theorem Bd.e {lo nA nB nC nD nE nF nG nH:Nat}{x3 xA:Int}{aA aB aC aD aE:Pq}{cA cB cC cD cE:Nq}{h:Heap} :
  Bd lo nA nB nC x3 aA nD cA xA aB nE cB aC nF cC aD nG cD aE nH cE h=br (decide (xA<x3)) (Ai (Ad lo 308 [.ptr (some (nA,(nB,nC))),.agg [.sl 6 aB nE cB,.sl 5 aC nF cC,.sl 9 aD nG cD,.sl 5 aE nH cE]] h) fun v l=>eA v fun v=>eC v fun v c=>eI .i64 v fun v=>eC c fun c n=>eI .i64 c fun c=>eC n fun n a=>eI .i64 n fun n=>eC a fun a o=>eI .i64 a fun a=>eC o fun o s=>eT o fun o=>eC s fun s b=>eBv s fun s=>eN b (Ai (Ad lo 124 [.agg [.sl 6 aB nE cB,.sl 5 aC nF cC,.sl 9 aD nG cD,.sl 5 aE nH cE],.agg [Iv v,Iv c,Iv n,Iv a,.str o,.bool s]] l) fun l b=>eU l fun l=>eC l fun l x=>eA l fun l=>eC l fun l y=>eS 6 l fun l z u=>eC y fun y w=>eS 5 y fun y p q=>eC w fun w g=>eS 9 w fun w i j=>eC g fun g k=>eS 5 g fun g m t=>eN k (eC x fun x k=>eB x (eN k (Av 6 (b ++ [.rows 6 87 false [[Iv v,Iv c,Iv n,Iv a,.str o,.bool s]]]) (.sl 6 (some (b.length,0)) 1 (some 1)) fun x=>Dd lo 87 6 56 (.sl 6 aA nD cA) x (b ++ [.rows 6 87 false [[Iv v,Iv c,Iv n,Iv a,.str o,.bool s]]]) fun x d=>eS 6 x fun x e f=>Bd lo nA nB nC x3 x e f (IntKind.wrap .i64 (xA+1)) l z u y p q w i j g m t d)) (eN k (Ai (Ad lo 66 [.ptr (some (nA,(nB,nC))),Iv 6] b) fun b x=>eI .i64 b fun b=>br (decide (b>0)) (Bd lo nA nB nC x3 aA nD cA (IntKind.wrap .i64 (xA+1)) aB nE cB aC nF cC aD nG cD aE nH cE x) (Av 6 (x ++ [.rows 6 87 false [[Iv v,Iv c,Iv n,Iv a,.str o,.bool s]]]) (.sl 6 (some (x.length,0)) 1 (some 1)) fun b=>Dd lo 87 6 56 (.sl 6 aA nD cA) b (x ++ [.rows 6 87 false [[Iv v,Iv c,Iv n,Iv a,.str o,.bool s]]]) fun v c=>eS 6 v fun v n a=>Bd lo nA nB nC x3 v n a (IntKind.wrap .i64 (xA+1)) l z u y p q w i j g m t c)))))) (some (.sl 6 aA nD cA,h)) :=
 lE
def Cd lo x0 x4 nA aA nB cA nC aB nD cB h:=
 LA 248 Tryz.f248 2213111 0 1111 lo ⟨[(0,Iv x0),(2,.lp 2 0),(3,.lp 3 0),(4,Iv x4)],[(2,[.sl nA aA nB cA]),(3,[.sl nC aB nD cB])],h⟩
theorem OK {lo:Nat}{x0:Int}{h:Heap}{r:V×Heap} (hk:(Ai (Ad lo 71 [Iv x0,Iv 1,Iv 4] h) fun v l=>eB v (Cd lo x0 0 0 none 0 (some 0) 0 none 0 (some 0) l) (some (.agg [.sl 0 none 0 (some 0)],l)))=some r) :
  Ad lo 248 [Iv x0] h=some r :=
 eK Tryz.func248 hk
theorem Cd.e {lo nA nB nC nD:Nat}{x0 x4:Int}{aA aB:Pq}{cA cB:Nq}{h:Heap} :
  Cd lo x0 x4 nA aA nB cA nC aB nD cB h=br (decide (x4<x0)) (Ai (Ad lo 309 [] h) fun v l=>eA v fun v=>eC v fun v c=>eS 6 v fun v n a=>eN c (Av 2 (l ++ [.rows 2 45 false [[.sl 6 v n a,.sl 0 none 0 (some 0)]]]) (.sl 2 (some (l.length,0)) 1 (some 1)) fun c=>Dd lo 45 2 48 (.sl nC aB nD cB) c (l ++ [.rows 2 45 false [[.sl 6 v n a,.sl 0 none 0 (some 0)]]]) fun v l=>eS 2 v fun v c n=>Cd lo x0 (IntKind.wrap .i64 (x4+1)) nA aA nB cA 2 v c n l)) (some (.agg [.sl nC aB nD cB],h)) :=
 lE
theorem Rc {lo n0:Nat}{a0:Pq}{c0:Nq}{h:Heap}{r:V×Heap} (hk:(Ao (IntKind.wrap .i64 (((n0:Int)) - 1)) n0 (eO a0 fun v=>eO (ld h v.1 (v.2+((IntKind.i64.wrap ((n0:Int) - (1:Int))).toNat)) 0 1) fun v=>eC v fun v l=>eS 6 v fun v c n=>eN l (Ai (Ad lo 254 [.agg [.sl 6 v c n]] h) fun v l=>eA v fun v=>eC v fun v c=>eS 6 v fun v n a=>eN c (Av 2 (l ++ [.rows 2 45 false [[.sl 6 v n a,.sl 0 none 0 (some 0)]]]) (.sl 2 (some (l.length,0)) 1 (some 1)) fun c=>Dd lo 45 2 48 (.sl 2 a0 n0 c0) c (l ++ [.rows 2 45 false [[.sl 6 v n a,.sl 0 none 0 (some 0)]]]) fun v l=>eS 2 v fun v c n=>some (.agg [.sl 2 v c n],l)))))=some r) :
  Ad lo 249 [.agg [.sl 2 a0 n0 c0]] h=some r :=
 eK Tryz.func249 hk
def Ca lo nA nB nC x4 nD aA nE cA aB nF cB h:=
 LA 250 Tryz.f250 221311 0 111 lo ⟨[(0,.ptr (some (nA,(nB,nC)))),(2,.lp 2 0),(3,.lp 3 0),(4,Iv x4)],[(2,[.sl nD aA nE cA]),(3,[.sl 6 aB nF cB])],h⟩
theorem OD {lo nA nB nC:Nat}{h:Heap}{r:V×Heap} (hk:(Ai (Ad lo 309 [] h) fun v l=>eA v fun v=>eC v fun v c=>eS 6 v fun v n a=>eN c (Ai (Ad lo 66 [.ptr (some (nA,(nB,nC))),Iv 7] l) fun l c=>eI .i64 l fun l=>Ca lo nA nB nC l 0 none 0 (some 0) v n a c))=some r) :
  Ad lo 250 [.ptr (some (nA,(nB,nC)))] h=some r :=
 eK Tryz.func250 hk
theorem Ca.e {lo nA nB nC nD nE nF:Nat}{x4:Int}{aA aB:Pq}{cA cB:Nq}{h:Heap} :
  Ca lo nA nB nC x4 nD aA nE cA aB nF cB h=br (decide (x4>0)) (Ai (Ad lo 173 [.ptr (some (nA,(nB,nC)))] h) fun v l=>eA v fun v=>eC v fun v c=>eI .i64 v fun v=>eC c fun c n=>eI .i64 c fun c=>eC n fun n a=>eI .i64 n fun n=>eC a fun a o=>eS 2 a fun a s b=>eC o fun o x=>eT o fun o=>eC x fun x y=>eBv x fun x=>eN y (Ai (Ad lo 256 [.agg [.sl 6 aB nF cB],.agg [Iv v,Iv c,Iv n,.sl 2 a s b,.str o,.bool x]] l) fun v l=>eA v fun v=>eC v fun v c=>eS 6 v fun v n a=>eN c (Ca lo nA nB nC (IntKind.wrap .i64 (x4 - 1)) nD aA nE cA v n a l))) (some (.agg [.sl 6 aB nF cB],h)) :=
 lE
theorem ON {lo n0 n1:Nat}{x0 xA xB x1 xC xD:Int}{a0 a1:Pq}{c0 c1:Nq}{s0 s1:ByteArray}{b0 b1:Bool}{h h':Heap}{v:V} (hk:(br (x0==x1) (br ((xA==xC)&&((xB==xD)&&true)) (Ai (Ad h.length 310 [.sl 2 a0 n0 c0,.sl 2 a1 n1 c1] h) fun l c=>eB l (br (s0.toList==s1.toList) (br (b0==b1) (some (.bool true,c)) (some (.bool false,c))) (some (.bool false,c))) (some (.bool false,c))) (some (.bool false,h))) (some (.bool false,h)))=some (v,h')) (hn:noId v=true:=by rfl) :
  Ad lo 251 [.agg [Iv x0,Iv xA,Iv xB,.sl 2 a0 n0 c0,.str s0,.bool b0],.agg [Iv x1,Iv xC,Iv xD,.sl 2 a1 n1 c1,.str s1,.bool b1]] h=some (v,h) :=
 eD Tryz.func251 hk hn
theorem MG {lo n0:Nat}{x0 xA xB:Int}{a0:Pq}{c0:Nq}{s0:ByteArray}{b0:Bool}{h h':Heap}{v:V} (hk:(br (x0==0) (br ((xA==0)&&((xB==0)&&true)) (Ai (Ad h.length 310 [.sl 2 a0 n0 c0,.sl 0 none 0 (some 0)] h) fun l c=>eB l (br (s0.toList==(ByteArray.mk #[]).toList) (br (b0==false) (some (.bool true,c)) (some (.bool false,c))) (some (.bool false,c))) (some (.bool false,c))) (some (.bool false,h))) (some (.bool false,h)))=some (v,h')) (hn:noId v=true:=by rfl) :
  Ad lo 251 [.agg [Iv x0,Iv xA,Iv xB,.sl 2 a0 n0 c0,.str s0,.bool b0],.agg [Iv 0,Iv 0,Iv 0,.sl 0 none 0 (some 0),.str ⟨⟨[]⟩⟩,.bool false]] h=some (v,h) :=
 eD Tryz.func251 hk hn
theorem KR {lo n0:Nat}{a0:Pq}{c0:Nq}{h:Heap}{r:V×Heap} (hk:(Ai (Ad lo 259 [.sl 6 a0 n0 c0] h) fun v l=>eS 6 v fun v c n=>some (.agg [.sl 6 v c n],l))=some r) :
  Ad lo 252 [.agg [.sl 6 a0 n0 c0]] h=some r :=
 eK Tryz.func252 hk
theorem MJ {lo n0 n1:Nat}{a0 a1:Pq}{c0 c1:Nq}{h h':Heap}{v:V} (hk:(Ai (Ad h.length 288 [.sl 6 a0 n0 c0,.sl 6 a1 n1 c1,.fn 251 []] h) fun l c=>eB l (some (.bool true,c)) (some (.bool false,c)))=some (v,h')) (hn:noId v=true:=by rfl) :
  Ad lo 253 [.agg [.sl 6 a0 n0 c0],.agg [.sl 6 a1 n1 c1]] h=some (v,h) :=
 eD Tryz.func253 hk hn
def Bl lo x4 aA nA cA nB aB nC cB nD aC nE cC h:=
 LA 254 Tryz.f254 221311 0 111 lo ⟨[(1,.lp 1 0),(2,.lp 2 0),(3,.lp 3 0),(4,Iv x4)],[(1,[.sl 6 aA nA cA]),(2,[.sl nB aB nC cB]),(3,[.sl nD aC nE cC])],h⟩
theorem Io {lo n0:Nat}{a0:Pq}{c0:Nq}{h:Heap}{r:V×Heap} (hk:(Bl lo 0 a0 n0 c0 0 none 0 (some 0) 0 none 0 (some 0) h)=some r) :
  Ad lo 254 [.agg [.sl 6 a0 n0 c0]] h=some r :=
 eK Tryz.func254 hk
theorem Bl.e {lo nA nB nC nD nE:Nat}{x4:Int}{aA aB aC:Pq}{cA cB cC:Nq}{h:Heap} :
  Bl lo x4 aA nA cA nB aB nC cB nD aC nE cC h=br (decide (x4<(nA:Int))) (Ao x4 nA (eO aA fun v=>eO (ld h v.1 (v.2+x4.toNat) 0 6) fun v=>eC v fun v l=>eI .i64 v fun v=>eC l fun l c=>eI .i64 l fun l=>eC c fun c n=>eI .i64 c fun c=>eC n fun n a=>eS 2 n fun n o s=>eC a fun a b=>eT a fun a=>eC b fun b x=>eBv b fun b=>eN x (Ai (Ad lo 164 [.agg [Iv v,Iv l,Iv c,.sl 2 n o s,.str a,.bool b]] h) fun v l=>eA v fun v=>eC v fun v c=>eI .i64 v fun v=>eC c fun c n=>eI .i64 c fun c=>eC n fun n a=>eI .i64 n fun n=>eC a fun a o=>eS 2 a fun a s b=>eC o fun o x=>eT o fun o=>eC x fun x y=>eBv x fun x=>eN y (Av 6 (l ++ [.rows 6 34 false [[Iv v,Iv c,Iv n,.sl 2 a s b,.str o,.bool x]]]) (.sl 6 (some (l.length,0)) 1 (some 1)) fun y=>Dd lo 34 6 72 (.sl nD aC nE cC) y (l ++ [.rows 6 34 false [[Iv v,Iv c,Iv n,.sl 2 a s b,.str o,.bool x]]]) fun v l=>eS 6 v fun v c n=>Bl lo (IntKind.wrap .i64 (x4+1)) aA nA cA nB aB nC cB 6 v c n l)))) (some (.agg [.sl nD aC nE cC],h)) :=
 lE
theorem Ro {lo:Nat}{x0 xA x1 xB:Int}{h h':Heap}{v:V} (hk:(br (decide (x0<x1)) (some (.bool true,h)) (br (x0==x1) (br (decide (xA<xB)) (some (.bool true,h)) (some (.bool false,h))) (some (.bool false,h))))=some (v,h')) (hn:noId v=true:=by rfl) :
  Ad lo 255 [.agg [Iv x0,Iv xA],.agg [Iv x1,Iv xB]] h=some (v,h) :=
 eD Tryz.func255 hk hn
theorem Tn {lo n0 n1:Nat}{a0 a1:Pq}{c0 c1:Nq}{x1 xA xB:Int}{s1:ByteArray}{b1:Bool}{h:Heap}{r:V×Heap} (hk:(Ao x1 n0 (eO a0 fun v=>eO (ld h v.1 (v.2+x1.toNat) 1 2) fun v=>eC v fun v l=>eI .i64 v fun v=>eC l fun l c=>eI .i64 l fun l=>eN c (Ai (Ad lo 255 [.agg [Iv v,Iv l],.agg [Iv xA,Iv xB]] h) fun v l=>eB v (Ai (Ad lo 164 [.agg [Iv x1,Iv xA,Iv xB,.sl 2 a1 n1 c1,.str s1,.bool b1]] l) fun v c=>eA v fun v=>eC v fun v n=>eI .i64 v fun v=>eC n fun n a=>eI .i64 n fun n=>eC a fun a o=>eI .i64 a fun a=>eC o fun o s=>eS 2 o fun o b x=>eC s fun s y=>eT s fun s=>eC y fun y z=>eBv y fun y=>eN z (Ao x1 n0 (eO a0 fun z=>eO (st lo c z.1 (z.2+x1.toNat) 0 [Iv v,Iv n,Iv a,.sl 2 o b x,.str s,.bool y]) fun v=>some (.agg [.sl 6 a0 n0 c0],v)))) (some (.agg [.sl 6 a0 n0 c0],l)))))=some r) :
  Ad lo 256 [.agg [.sl 6 a0 n0 c0],.agg [Iv x1,Iv xA,Iv xB,.sl 2 a1 n1 c1,.str s1,.bool b1]] h=some r :=
 eK Tryz.func256 hk
def Bk lo b4 x5 aA nA cA aB nB cB h:=
 LA 257 Tryz.f257 22131 0 11 lo ⟨[(2,.lp 2 0),(3,.lp 3 0),(4,.bool b4),(5,Iv x5)],[(2,[.sl 6 aA nA cA]),(3,[.sl 6 aB nB cB])],h⟩
theorem LB {lo n0 n1:Nat}{a0 a1:Pq}{c0 c1:Nq}{h h':Heap}{v:V} (hk:(Bk h.length false 0 a0 n0 c0 a1 n1 c1 h)=some (v,h')) (hn:noId v=true:=by rfl) :
  Ad lo 257 [.agg [.sl 6 a0 n0 c0],.agg [.sl 6 a1 n1 c1]] h=some (v,h) :=
 eD Tryz.func257 hk hn
theorem Bk.e {lo nA nB:Nat}{b4:Bool}{x5:Int}{aA aB:Pq}{cA cB:Nq}{h:Heap} :
  Bk lo b4 x5 aA nA cA aB nB cB h=br (decide (x5<4)) (Ao x5 nA (eO aA fun v=>eO (ld h v.1 (v.2+x5.toNat) 1 2) fun v=>eC v fun v l=>eI .i64 v fun v=>eC l fun l c=>eI .i64 l fun l=>eN c (Ao x5 nB (eO aB fun c=>eO (ld h c.1 (c.2+x5.toNat) 1 2) fun c=>eC c fun c n=>eI .i64 c fun c=>eC n fun n a=>eI .i64 n fun n=>eN a (br ((v==c)&&((l==n)&&true)) (Ao x5 nA (eO aA fun v=>eO (ld h v.1 (v.2+x5.toNat) 1 1) fun v=>eC v fun v l=>eN l (eI .i64 v fun v=>br (decide (v>0)) (Ao x5 nA (eO aA fun v=>eO (ld h v.1 (v.2+x5.toNat) 0 6) fun v=>eC v fun v l=>eI .i64 v fun v=>eC l fun l c=>eI .i64 l fun l=>eC c fun c n=>eI .i64 c fun c=>eC n fun n a=>eS 2 n fun n o s=>eC a fun a b=>eT a fun a=>eC b fun b x=>eBv b fun b=>eN x (Ao x5 nB (eO aB fun x=>eO (ld h x.1 (x.2+x5.toNat) 0 6) fun x=>eC x fun x y=>eI .i64 x fun x=>eC y fun y z=>eI .i64 y fun y=>eC z fun z u=>eI .i64 z fun z=>eC u fun u w=>eS 2 u fun u p q=>eC w fun w g=>eT w fun w=>eC g fun g i=>eBv g fun g=>eN i (Ai (Ad lo 275 [.agg [Iv v,Iv l,Iv c,.sl 2 n o s,.str a,.bool b],.agg [Iv x,Iv y,Iv z,.sl 2 u p q,.str w,.bool g]] h) fun v l=>eB v (Bk lo b4 (IntKind.wrap .i64 (x5+1)) aA nA cA aB nB cB l) (some (.bool false,l))))))) (Bk lo b4 (IntKind.wrap .i64 (x5+1)) aA nA cA aB nB cB h)))) (some (.bool false,h))))))) (some (.bool true,h)) :=
 lE
theorem OQ {lo:Nat}{x0:Int}{h h':Heap}{v:V} (hk:(br (x0==x0) (some (.bool false,h)) (some (.bool true,h)))=some (v,h')) (hn:noId v=true:=by rfl) :
  Ad lo 258 [Iv x0] h=some (v,h) :=
 eD Tryz.func258 hk hn
def BJ lo a3 n3 c3 a9 n9 c9 xA xB h:=
 LA 259 Tryz.f259 221311 0 111 lo ⟨[(3,.sl 6 a3 n3 c3),(9,.sl 6 a9 n9 c9),(10,Iv xA),(11,Iv xB)],[],h⟩
theorem MF {lo n0:Nat}{a0:Pq}{c0:Nq}{h:Heap}{r:V×Heap} (hk:(Bq (decide ((0:Int)≤0∧(0:Int)≤(n0:Int)∧(n0:Int)≤140737488355328∧(n0:Int)*((72:Nat):Int)≤281474976710656)) (BJ lo (some (h.length,0)) 0 (some n0) a0 n0 c0 ((n0:Int)) 0 (h ++ [.rows 6 34 false (List.replicate n0 [Iv 0,Iv 0,Iv 0,.sl 0 none 0 (some 0),.str ⟨⟨[]⟩⟩,.bool false])])))=some r) :
  Ad lo 259 [.sl 6 a0 n0 c0] h=some r :=
 eK Tryz.func259 hk
theorem BJ.e {lo n3 n9:Nat}{a3 a9:Pq}{c3 c9:Nq}{xA xB:Int}{h:Heap} :
  BJ lo a3 n3 c3 a9 n9 c9 xA xB h=br (decide (xB<xA)) (Ao xB n9 (eO a9 fun v=>eO (ld h v.1 (v.2+xB.toNat) 0 6) fun v=>eC v fun v l=>eI .i64 v fun v=>eC l fun l c=>eI .i64 l fun l=>eC c fun c n=>eI .i64 c fun c=>eC n fun n a=>eS 2 n fun n o s=>eC a fun a b=>eT a fun a=>eC b fun b x=>eBv b fun b=>eN x (Ai (Ad lo 161 [.agg [Iv v,Iv l,Iv c,.sl 2 n o s,.str a,.bool b]] h) fun v l=>eA v fun v=>eC v fun v c=>eI .i64 v fun v=>eC c fun c n=>eI .i64 c fun c=>eC n fun n a=>eI .i64 n fun n=>eC a fun a o=>eS 2 a fun a s b=>eC o fun o x=>eT o fun o=>eC x fun x y=>eBv x fun x=>eN y (Av 6 (l ++ [.rows 6 34 false [[Iv v,Iv c,Iv n,.sl 2 a s b,.str o,.bool x]]]) (.sl 6 (some (l.length,0)) 1 (some 1)) fun y=>Dd lo 34 6 72 (.sl 6 a3 n3 c3) y (l ++ [.rows 6 34 false [[Iv v,Iv c,Iv n,.sl 2 a s b,.str o,.bool x]]]) fun v l=>eS 6 v fun v c n=>BJ lo v c n a9 n9 c9 xA (IntKind.wrap .i64 (xB+1)) l)))) (some (.sl 6 a3 n3 c3,h)) :=
 lE
def CG lo a0 n0 c0 x3 g4 l4 h:=
 Lp (X 260) lo (pf 2211 Tryz.f260) 0 (AU 0 (Ip (X 260) Tryz.f260.results.toList)) ⟨[(0,.sl 6 a0 n0 c0),(1,Iv 0),(2,Iv 0),(3,Iv x3),(4,.fn g4 l4),(10,.bool true),(11,.bool true)],[],h⟩
theorem CG.e {lo n0 g4:Nat}{a0:Pq}{c0:Nq}{x3:Int}{l4:List V}{h:Heap} :
  CG lo a0 n0 c0 x3 g4 l4 h=Ai (Ad lo 311 [.sl 6 a0 n0 c0,Iv 0,Iv 0,.fn g4 l4] h) fun v l=>eU v fun v=>eN v (some (.tup [],l)) :=
 lE
def CF lo a0 n0 c0 x3 g4 l4 h:=
 Lp (X 260) lo (pf 2211 Tryz.f260) 0 (AU 0 (Ip (X 260) Tryz.f260.results.toList)) ⟨[(0,.sl 6 a0 n0 c0),(1,Iv 0),(2,Iv 1),(3,Iv x3),(4,.fn g4 l4),(10,.bool true),(11,.bool true)],[],h⟩
theorem CF.e {lo n0 g4:Nat}{a0:Pq}{c0:Nq}{x3:Int}{l4:List V}{h:Heap} :
  CF lo a0 n0 c0 x3 g4 l4 h=Ai (Ad lo 311 [.sl 6 a0 n0 c0,Iv 0,Iv 1,.fn g4 l4] h) fun v l=>eU v fun v=>eN v (some (.tup [],l)) :=
 lE
def CE lo a0 n0 c0 x3 g4 l4 h:=
 Lp (X 260) lo (pf 2211 Tryz.f260) 0 (AU 0 (Ip (X 260) Tryz.f260.results.toList)) ⟨[(0,.sl 6 a0 n0 c0),(1,Iv 0),(2,Iv 2),(3,Iv x3),(4,.fn g4 l4),(10,.bool true),(11,.bool true)],[],h⟩
theorem CE.e {lo n0 g4:Nat}{a0:Pq}{c0:Nq}{x3:Int}{l4:List V}{h:Heap} :
  CE lo a0 n0 c0 x3 g4 l4 h=Ai (Ad lo 311 [.sl 6 a0 n0 c0,Iv 0,Iv 2,.fn g4 l4] h) fun v l=>eU v fun v=>eN v (some (.tup [],l)) :=
 lE
def CD lo a0 n0 c0 x3 g4 l4 h:=
 Lp (X 260) lo (pf 2211 Tryz.f260) 0 (AU 0 (Ip (X 260) Tryz.f260.results.toList)) ⟨[(0,.sl 6 a0 n0 c0),(1,Iv 0),(2,Iv 3),(3,Iv x3),(4,.fn g4 l4),(10,.bool true),(11,.bool true)],[],h⟩
theorem CD.e {lo n0 g4:Nat}{a0:Pq}{c0:Nq}{x3:Int}{l4:List V}{h:Heap} :
  CD lo a0 n0 c0 x3 g4 l4 h=Ai (Ad lo 311 [.sl 6 a0 n0 c0,Iv 0,Iv 3,.fn g4 l4] h) fun v l=>eU v fun v=>eN v (some (.tup [],l)) :=
 lE
def CC lo a0 n0 c0 x3 g4 l4 h:=
 Lp (X 260) lo (pf 2211 Tryz.f260) 0 (AU 0 (Ip (X 260) Tryz.f260.results.toList)) ⟨[(0,.sl 6 a0 n0 c0),(1,Iv 0),(2,Iv 4),(3,Iv x3),(4,.fn g4 l4),(10,.bool true),(11,.bool true)],[],h⟩
theorem CC.e {lo n0 g4:Nat}{a0:Pq}{c0:Nq}{x3:Int}{l4:List V}{h:Heap} :
  CC lo a0 n0 c0 x3 g4 l4 h=Ai (Ad lo 311 [.sl 6 a0 n0 c0,Iv 0,Iv 4,.fn g4 l4] h) fun v l=>eU v fun v=>eN v (some (.tup [],l)) :=
 lE
theorem Qr {lo nA nB nC:Nat}{h:Heap}{r:V×Heap} (hk:(Ai (Ad lo 108 [.ptr (some (nA,(nB,nC))),.sl 1 (some (h.length,0)) 8 (some 8)] (h ++ [.rows 1 9 false [[.str ⟨⟨[]⟩⟩],[.str ⟨⟨[97]⟩⟩],[.str ⟨⟨[98]⟩⟩],[.str ⟨⟨[120,35,49]⟩⟩],[.str ⟨⟨[61]⟩⟩],[.str ⟨⟨[45]⟩⟩],[.str ⟨⟨[108,111,110,103,116,101,120,116]⟩⟩],[.str ⟨⟨[122,122]⟩⟩]]])) fun v l=>eT v fun v=>some (.str v,l))=some r) :
  Ad lo 262 [.ptr (some (nA,(nB,nC)))] h=some r :=
 eK Tryz.func262 hk
theorem OM {lo n0 nA:Nat}{x0 xA xB:Int}{a0:Pq}{c0:Nq}{s0:ByteArray}{b0:Bool}{h h':Heap}{v:V} (hk:(eO (ld h nA 0 0 2) fun l=>eC l fun l c=>eI .i64 l fun l=>eC c fun c n=>eI .i64 c fun c=>eN n (br ((xA==l)&&((xB==c)&&true)) (some (.bool true,h)) (some (.bool false,h))))=some (v,h')) (hn:noId v=true:=by rfl) :
  Ad lo 263 [.agg [Iv x0,Iv xA,Iv xB,.sl 2 a0 n0 c0,.str s0,.bool b0],.ptr (some (nA,(0,0)))] h=some (v,h) :=
 eD Tryz.func263 hk hn
theorem LN {lo nA nB nC n2:Nat}{x1 x2 xA xB:Int}{a2:Pq}{c2:Nq}{s2:ByteArray}{b2:Bool}{h:Heap}{r:V×Heap} (hk:(eO (ld h nA nB (nC+0) 1) fun v=>eC v fun v l=>eN l (eS 2 v fun v l c=>Ao x1 l (eO v fun v=>eO (ld h v.1 (v.2+x1.toNat) 0 1) fun l=>eC l fun l c=>eS 6 l fun l n a=>eN c (Ai (Ad lo 187 [.agg [.sl 6 l n a],.agg [Iv x2,Iv xA,Iv xB,.sl 2 a2 n2 c2,.str s2,.bool b2]] h) fun l c=>eB l (eO (ld c v.1 (v.2+x1.toNat) 0 1) fun l=>eC l fun l n=>eN n (eS 6 l fun l n a=>Ai (Ad c.length 161 [.agg [Iv x2,Iv xA,Iv xB,.sl 2 a2 n2 c2,.str s2,.bool b2]] c) fun a o=>eA a fun a=>eC a fun a s=>eI .i64 a fun a=>eC s fun s b=>eI .i64 s fun s=>eC b fun b x=>eI .i64 b fun b=>eC x fun x y=>eS 2 x fun x z u=>eC y fun y w=>eT y fun y=>eC w fun w p=>eBv w fun w=>eN p (Ao x2 n (eO l fun l=>eO (st lo o l.1 (l.2+x2.toNat) 0 [Iv a,Iv s,Iv b,.sl 2 x z u,.str y,.bool w]) fun l=>eO (ld l nA nB nC 1) fun n=>eC n fun n a=>eS 2 n fun n o s=>eN a (Ai (Ad lo 158 [.agg [.sl 2 n o s],Iv x1] l) fun l n=>eB l (some (.tup [],n)) (eO (ld n v.1 (v.2+x1.toNat) 1 1) fun l=>eC l fun l a=>eN a (eS 6 l fun l a o=>Ai (Ad n.length 161 [.agg [Iv x2,Iv xA,Iv xB,.sl 2 a2 n2 c2,.str s2,.bool b2]] n) fun n s=>eA n fun n=>eC n fun n b=>eI .i64 n fun n=>eC b fun b x=>eI .i64 b fun b=>eC x fun x y=>eI .i64 x fun x=>eC y fun y z=>eS 2 y fun y u w=>eC z fun z p=>eT z fun z=>eC p fun p q=>eBv p fun p=>eN q (Av 6 (s ++ [.rows 6 34 false [[Iv n,Iv b,Iv x,.sl 2 y u w,.str z,.bool p]]]) (.sl 6 (some (s.length,0)) 1 (some 1)) fun q=>Dd lo 34 6 72 (.sl 6 l a o) q (s ++ [.rows 6 34 false [[Iv n,Iv b,Iv x,.sl 2 y u w,.str z,.bool p]]]) fun l n=>eS 6 l fun l a o=>Ai (Ad lo 172 [.sl 6 l a o] n) fun l n=>eS 6 l fun l a o=>eO (st lo n v.1 (v.2+x1.toNat) 1 [.sl 6 l a o]) fun v=>some (.tup [],v))))))))) (some (.tup [],c))))))=some r) :
  Ad lo 264 [.ptr (some (nA,(nB,nC))),Iv x1,.agg [Iv x2,Iv xA,Iv xB,.sl 2 a2 n2 c2,.str s2,.bool b2]] h=some r :=
 eK Tryz.func264 hk
theorem D5 {lo n0 g1:Nat}{a0:Pq}{c0:Nq}{l1:List V}{h h':Heap}{v:V} (hk:(Ai (Ad h.length 321 [.sl 2 a0 n0 c0,.fn g1 l1] h) fun l c=>eI .i64 l fun l=>br (decide (l≥0)) (some (.bool true,c)) (some (.bool false,c)))=some (v,h')) (hn:noId v=true:=by rfl) :
  Ad lo 265 [.sl 2 a0 n0 c0,.fn g1 l1] h=some (v,h) :=
 eD Tryz.func265 hk hn
theorem JU {lo n0 nA:Nat}{a0 aA:Pq}{c0 cA:Nq}{h h':Heap}{v:V} (hk:(br (decide ((nA:Int)>0)) (some (.bool true,h)) (some (.bool false,h)))=some (v,h')) (hn:noId v=true:=by rfl) :
  Ad lo 266 [.agg [.sl 6 a0 n0 c0,.sl 6 aA nA cA]] h=some (v,h) :=
 eD Tryz.func266 hk hn
def AF lo a0 n0 c0 g1 l1 x4 x7 x8 h:=
 LA 267 Tryz.f267 22131 0 11 lo ⟨[(0,.sl 2 a0 n0 c0),(1,.fn g1 l1),(4,Iv x4),(7,Iv x7),(8,Iv x8)],[],h⟩
theorem ES {lo n0 g1:Nat}{a0:Pq}{c0:Nq}{l1:List V}{h h':Heap}{v:V} (hk:(AF h.length a0 n0 c0 g1 l1 0 ((n0:Int)) 0 h)=some (v,h')) (hn:noId v=true:=by rfl) :
  Ad lo 267 [.sl 2 a0 n0 c0,.fn g1 l1] h=some (v,h) :=
 eD Tryz.func267 hk hn
theorem AF.e {lo n0 g1:Nat}{a0:Pq}{c0:Nq}{l1:List V}{x4 x7 x8:Int}{h:Heap} :
  AF lo a0 n0 c0 g1 l1 x4 x7 x8 h=br (decide (x8<x7)) (Ao x8 n0 (eO a0 fun v=>eO (ld h v.1 (v.2+x8.toNat) 0 2) fun v=>eC v fun v l=>eI .i64 v fun v=>eC l fun l c=>eI .i64 l fun l=>eN c (Ai (Ad lo g1 (Di [.agg [Iv v,Iv l]] l1) h) fun v l=>eB v (some (Iv x8,l)) (AF lo a0 n0 c0 g1 l1 x4 x7 (IntKind.wrap .i64 (x8+1)) l)))) (some (Iv (-1),h)) :=
 lE
def CZ lo s0 b2 x5 x6 h:=
 LA 269 Tryz.f269 22131 0 11 lo ⟨[(0,.str s0),(2,.bool b2),(5,Iv x5),(6,Iv x6)],[],h⟩
theorem Rt {lo:Nat}{s0:ByteArray}{h h':Heap}{v:V} (hk:(CZ h.length s0 false ((s0.size:Int)) 0 h)=some (v,h')) (hn:noId v=true:=by rfl) :
  Ad lo 269 [.str s0] h=some (v,h) :=
 eD Tryz.func269 hk hn
theorem CZ.e {lo:Nat}{s0:ByteArray}{b2:Bool}{x5 x6:Int}{h:Heap} :
  CZ lo s0 b2 x5 x6 h=br (decide (x6<x5)) (eO (Pd s0 x6) fun v=>Ai (Ad lo 87 [Iv (IntKind.wrap .i64 ((v.toNat:Int))),Iv 33,Iv 126] h) fun v l=>eB v (CZ lo s0 b2 x5 (IntKind.wrap .i64 (x6+1)) l) (some (.bool false,l))) (br (decide ((s0.size:Int)≤8)) (some (.bool true,h)) (some (.bool false,h))) :=
 lE
def Hy lo a0 n0 c0 x1 x4 x5 h:=
 LA 271 Tryz.f271 2213111 0 1111 lo ⟨[(0,.sl 6 a0 n0 c0),(1,Iv x1),(4,Iv x4),(5,Iv x5)],[],h⟩
theorem Hy.e {lo n0:Nat}{a0:Pq}{c0:Nq}{x1 x4 x5:Int}{h:Heap} :
  Hy lo a0 n0 c0 x1 x4 x5 h=br (decide (x5<(n0:Int))) (Ao x5 n0 (eO a0 fun v=>eO (ld h v.1 (v.2+x5.toNat) 0 6) fun v=>eC v fun v l=>eI .i64 v fun v=>eC l fun l c=>eI .i64 l fun l=>eC c fun c n=>eI .i64 c fun c=>eC n fun n a=>eS 2 n fun n o s=>eC a fun a b=>eT a fun a=>eC b fun b x=>eBv b fun b=>eN x (Ai (Ad lo 274 [.agg [Iv v,Iv l,Iv c,.sl 2 n o s,.str a,.bool b],Iv x1] h) fun v l=>eI .i64 v fun v=>br (decide (v<0)) (some (Iv (-1),l)) (Hy lo a0 n0 c0 v x4 (IntKind.wrap .i64 (x5+1)) l)))) (some (Iv x1,h)) :=
 lE
def GS lo a0 n0 c0 x1 x4 x5 h:=
 LA 272 Tryz.f272 2213111 0 1111 lo ⟨[(0,.sl 1 a0 n0 c0),(1,Iv x1),(4,Iv x4),(5,Iv x5)],[],h⟩
theorem GS.e {lo n0:Nat}{a0:Pq}{c0:Nq}{x1 x4 x5:Int}{h:Heap} :
  GS lo a0 n0 c0 x1 x4 x5 h=br (decide (x5<(n0:Int))) (Ao x5 n0 (eO a0 fun v=>eO (ld h v.1 (v.2+x5.toNat) 0 1) fun v=>eC v fun v l=>eN l (eS 6 v fun v l c=>Ai (Ad lo 271 [.sl 6 v l c,Iv x1] h) fun v l=>eI .i64 v fun v=>br (decide (v<0)) (some (Iv (-1),l)) (GS lo a0 n0 c0 v x4 (IntKind.wrap .i64 (x5+1)) l)))) (some (Iv x1,h)) :=
 lE
theorem Rh {lo n0 n1:Nat}{x0 xA xB x1 xC xD:Int}{a0 a1:Pq}{c0 c1:Nq}{s0 s1:ByteArray}{b0 b1:Bool}{h h':Heap}{v:V} (hk:(Ai (Ad h.length 324 [.agg [Iv x0,Iv xA,Iv xB,.sl 2 a0 n0 c0,.str s0,.bool b0]] h) fun l c=>eT l fun l=>Ai (Ad h.length 324 [.agg [Iv x1,Iv xC,Iv xD,.sl 2 a1 n1 c1,.str s1,.bool b1]] c) fun c n=>eT c fun c=>br (l.toList==c.toList) (some (.bool true,n)) (some (.bool false,n)))=some (v,h')) (hn:noId v=true:=by rfl) :
  Ad lo 275 [.agg [Iv x0,Iv xA,Iv xB,.sl 2 a0 n0 c0,.str s0,.bool b0],.agg [Iv x1,Iv xC,Iv xD,.sl 2 a1 n1 c1,.str s1,.bool b1]] h=some (v,h) :=
 eD Tryz.func275 hk hn
theorem Qm {lo n0 nA nB nC:Nat}{a0 aA aB aC:Pq}{c0 cA cB cC:Nq}{x1 xA xB xC:Int}{s1:ByteArray}{b1:Bool}{h:Heap}{r:V×Heap} (hk:(Ao xA nA (eO aA fun v=>eO (ld h v.1 (v.2+xA.toNat) 0 5) fun v=>eC v fun v l=>eI .i64 v fun v=>eC l fun l c=>eS 2 l fun l n a=>eC c fun c o=>eI .i64 c fun c=>eC o fun o s=>eI .i64 o fun o=>eC s fun o s=>eI .i64 o fun o=>eN s (Ao v n0 (eO a0 fun o=>eO (ld h o.1 (o.2+v.toNat) 0 6) fun o=>eC o fun o s=>eI .i64 o fun o=>eC s fun s b=>eI .i64 s fun s=>eC b fun b x=>eS 2 b fun b y z=>eC x fun x u=>eS 6 x fun x w p=>eC u fun u q=>eS 1 u fun u g i=>eC q fun q j=>eBv q fun q=>eN j (br (decide (c>0)) (some (.tup [.agg [.sl 6 a0 n0 c0,.sl 5 aA nA cA,.sl 9 aB nB cB,.sl 5 aC nC cC],.bool false],h)) (Ai (Ad lo 71 [Iv xC,Iv 0,Iv 3] h) fun c j=>eB c (Ai (Ad lo 111 [.str s1] j) fun c k=>eB c (br b1 (br (s1.toList==(ByteArray.mk #[]).toList) (Ai (Ad lo 113 [.agg [Iv o,Iv s,.sl 2 b y z,.sl 6 x w p,.sl 1 u g i,.bool q],.agg [.sl 2 l n a]] k) fun c m=>eB c (br (decide ((nC:Int)≥80)) (some (.tup [.agg [.sl 6 a0 n0 c0,.sl 5 aA nA cA,.sl 9 aB nB cB,.sl 5 aC nC cC],.bool false],m)) (Ai (Ad lo 114 [.agg [Iv o,Iv s,.sl 2 b y z,.sl 6 x w p,.sl 1 u g i,.bool q],Iv xC,.str s1,.bool true,.agg [.sl 2 l n a]] m) fun c t=>eU c fun c=>eC c fun c d=>eA c fun c=>eC c fun c e=>eI .i64 c fun c=>eC e fun e f=>eI .i64 e fun e=>eC f fun f v0=>eS 2 f fun f v1 v2=>eC v0 fun v0 v3=>eS 6 v0 fun v0 v4 v5=>eC v3 fun v3 v6=>eS 1 v3 fun v3 v7 v8=>eC v6 fun v6 v9=>eBv v6 fun v6=>eN v9 (eC d fun d v9=>eA d fun d=>eC d fun d l0=>eI .i64 d fun d=>eC l0 fun l0 l1=>eI .i64 l0 fun l0=>eN l1 (eN v9 (Ao v n0 (eO a0 fun v9=>eO (st lo t v9.1 (v9.2+v.toNat) 0 [Iv c,Iv e,.sl 2 f v1 v2,.sl 6 v0 v4 v5,.sl 1 v3 v7 v8,.bool v6]) fun c=>Ao xA nA (eO aA fun t=>eO (st lo c t.1 (t.2+xA.toNat) 2 [Iv d,Iv l0]) fun c=>Ao xA nA (eO aA fun t=>eO (st lo c t.1 (t.2+xA.toNat) 4 [Iv xC]) fun c=>Ai (Ad lo 325 [.agg [.sl 6 a0 n0 c0,.sl 5 aA nA cA,.sl 9 aB nB cB,.sl 5 aC nC cC],Iv xA,Iv 1,Iv xC,.agg [Iv d,Iv l0]] c) fun c t=>eA c fun c=>eC c fun c d=>eS 6 c fun c e f=>eC d fun d v0=>eS 5 d fun d v1 v2=>eC v0 fun v0 v3=>eS 9 v0 fun v0 v4 v5=>eC v3 fun v3 v6=>eS 5 v3 fun v3 v7 v8=>eN v6 (some (.tup [.agg [.sl 6 c e f,.sl 5 d v1 v2,.sl 9 v0 v4 v5,.sl 5 v3 v7 v8],.bool true],t)))))))))) (some (.tup [.agg [.sl 6 a0 n0 c0,.sl 5 aA nA cA,.sl 9 aB nB cB,.sl 5 aC nC cC],.bool false],m))) (some (.tup [.agg [.sl 6 a0 n0 c0,.sl 5 aA nA cA,.sl 9 aB nB cB,.sl 5 aC nC cC],.bool false],k))) (Ai (Ad lo 113 [.agg [Iv o,Iv s,.sl 2 b y z,.sl 6 x w p,.sl 1 u g i,.bool q],.agg [.sl 2 l n a]] k) fun c m=>eB c (br (decide ((nC:Int)≥80)) (some (.tup [.agg [.sl 6 a0 n0 c0,.sl 5 aA nA cA,.sl 9 aB nB cB,.sl 5 aC nC cC],.bool false],m)) (Ai (Ad lo 114 [.agg [Iv o,Iv s,.sl 2 b y z,.sl 6 x w p,.sl 1 u g i,.bool q],Iv xC,.str s1,.bool false,.agg [.sl 2 l n a]] m) fun l c=>eU l fun l=>eC l fun l n=>eA l fun l=>eC l fun l a=>eI .i64 l fun l=>eC a fun a o=>eI .i64 a fun a=>eC o fun o s=>eS 2 o fun o b x=>eC s fun s y=>eS 6 s fun s z u=>eC y fun y w=>eS 1 y fun y p q=>eC w fun w g=>eBv w fun w=>eN g (eC n fun n g=>eA n fun n=>eC n fun n i=>eI .i64 n fun n=>eC i fun i t=>eI .i64 i fun i=>eN t (eN g (Ao v n0 (eO a0 fun g=>eO (st lo c g.1 (g.2+v.toNat) 0 [Iv l,Iv a,.sl 2 o b x,.sl 6 s z u,.sl 1 y p q,.bool w]) fun v=>Ao xA nA (eO aA fun l=>eO (st lo v l.1 (l.2+xA.toNat) 2 [Iv n,Iv i]) fun v=>Ao xA nA (eO aA fun l=>eO (st lo v l.1 (l.2+xA.toNat) 4 [Iv xC]) fun v=>Ai (Ad lo 325 [.agg [.sl 6 a0 n0 c0,.sl 5 aA nA cA,.sl 9 aB nB cB,.sl 5 aC nC cC],Iv xA,Iv 1,Iv xC,.agg [Iv n,Iv i]] v) fun v l=>eA v fun v=>eC v fun v c=>eS 6 v fun v n a=>eC c fun c o=>eS 5 c fun c s b=>eC o fun o x=>eS 9 o fun o y z=>eC x fun x u=>eS 5 x fun x w p=>eN u (some (.tup [.agg [.sl 6 v n a,.sl 5 c s b,.sl 9 o y z,.sl 5 x w p],.bool true],l)))))))))) (some (.tup [.agg [.sl 6 a0 n0 c0,.sl 5 aA nA cA,.sl 9 aB nB cB,.sl 5 aC nC cC],.bool false],m)))) (some (.tup [.agg [.sl 6 a0 n0 c0,.sl 5 aA nA cA,.sl 9 aB nB cB,.sl 5 aC nC cC],.bool false],k))) (some (.tup [.agg [.sl 6 a0 n0 c0,.sl 5 aA nA cA,.sl 9 aB nB cB,.sl 5 aC nC cC],.bool false],j))))))))=some r) :
  Ad lo 276 [.agg [.sl 6 a0 n0 c0,.sl 5 aA nA cA,.sl 9 aB nB cB,.sl 5 aC nC cC],.agg [Iv x1,Iv xA,Iv xB,Iv xC,.str s1,.bool b1]] h=some r :=
 by cases b1<;>exact eK Tryz.func276 hk
theorem Te {lo n0 nA nB nC:Nat}{a0 aA aB aC:Pq}{c0 cA cB cC:Nq}{x1 xA xB xC:Int}{s1:ByteArray}{b1:Bool}{h:Heap}{r:V×Heap} (hk:(Ao xA nA (eO aA fun v=>eO (ld h v.1 (v.2+xA.toNat) 0 5) fun v=>eC v fun v l=>eI .i64 v fun v=>eC l fun l c=>eS 2 l fun l n a=>eC c fun c o=>eI .i64 c fun c=>eC o fun o s=>eI .i64 o fun o=>eC s fun s b=>eI .i64 s fun s=>eN b (br (c==0) (some (.tup [.agg [.sl 6 a0 n0 c0,.sl 5 aA nA cA,.sl 9 aB nB cB,.sl 5 aC nC cC],.bool false],h)) (Ao v n0 (eO a0 fun b=>eO (ld h b.1 (b.2+v.toNat) 2 1) fun v=>eC v fun v b=>eS 2 v fun v x y=>eN b (Ai (Ad lo 72 [.agg [.sl 2 v x y],Iv 0,Iv s] h) fun b y=>eA b fun b=>eC b fun b z=>eI .i64 b fun b=>eC z fun b z=>eI .i64 b fun b=>eC z fun z u=>eI .i64 z fun z=>eC u fun u w=>eS 2 u fun u u u=>eC w fun u w=>eT u fun u=>eC w fun u w=>eBv u fun u=>eN w (Ao 0 x (eO v fun v=>eO (ld y v.1 (v.2+0) 0 1) fun v=>eC v fun v x=>eN x (eS 6 v fun v x u=>Ao s x (eO v fun v=>eO (ld y v.1 (v.2+s.toNat) 1 2) fun v=>eC v fun v x=>eI .i64 v fun v=>eC x fun x u=>eI .i64 x fun x=>eN u (Ai (Ad lo 255 [.agg [Iv b,Iv z],.agg [Iv c,Iv o]] y) fun y u=>eB y (Ai (Ad lo 255 [.agg [Iv v,Iv x],.agg [Iv c,Iv o]] u) fun v x=>eB v (Ai (Ad lo 255 [.agg [Iv b,Iv z],.agg [Iv c,Iv o]] x) fun v y=>eB v (Ai (Ad lo 255 [.agg [Iv b,Iv z],.agg [Iv c,Iv o]] y) fun v w=>eB v (Ao xA nA (eO aA fun v=>eO (st lo w v.1 (v.2+xA.toNat) 2 [Iv 0,Iv 0]) fun v=>Ao xA nA (eO aA fun p=>eO (st lo v p.1 (p.2+xA.toNat) 4 [Iv 0]) fun v=>some (.tup [.agg [.sl 6 a0 n0 c0,.sl 5 aA nA cA,.sl 9 aB nB cB,.sl 5 aC nC cC],.bool true],v)))) (Ai (Ad lo 326 [.agg [.sl 2 l n a],Iv s,.agg [Iv c,Iv o]] w) fun v w=>eA v fun v=>eC v fun v p=>eS 2 v fun v q g=>eN p (Ao xA nA (eO aA fun p=>eO (st lo w p.1 (p.2+xA.toNat) 1 [.sl 2 v q g]) fun v=>Ai (Ad lo 325 [.agg [.sl 6 a0 n0 c0,.sl 5 aA nA cA,.sl 9 aB nB cB,.sl 5 aC nC cC],Iv xA,Iv 3,Iv s,.agg [Iv c,Iv o]] v) fun v w=>eA v fun v=>eC v fun v p=>eS 6 v fun v q g=>eC p fun p i=>eS 5 p fun p j k=>eC i fun i m=>eS 9 i fun i t d=>eC m fun m e=>eS 5 m fun m f v0=>eN e (Ao xA j (eO p fun e=>eO (st lo w e.1 (e.2+xA.toNat) 2 [Iv 0,Iv 0]) fun w=>Ao xA j (eO p fun e=>eO (st lo w e.1 (e.2+xA.toNat) 4 [Iv 0]) fun w=>some (.tup [.agg [.sl 6 v q g,.sl 5 p j k,.sl 9 i t d,.sl 5 m f v0],.bool true],w)))))))) (br (decide ((nC:Int)≥80)) (some (.tup [.agg [.sl 6 a0 n0 c0,.sl 5 aA nA cA,.sl 9 aB nB cB,.sl 5 aC nC cC],.bool false],y)) (Ai (Ad lo 255 [.agg [Iv b,Iv z],.agg [Iv c,Iv o]] y) fun v y=>eB v (Ao xA nA (eO aA fun v=>eO (st lo y v.1 (v.2+xA.toNat) 2 [Iv 0,Iv 0]) fun v=>Ao xA nA (eO aA fun w=>eO (st lo v w.1 (w.2+xA.toNat) 4 [Iv 0]) fun v=>some (.tup [.agg [.sl 6 a0 n0 c0,.sl 5 aA nA cA,.sl 9 aB nB cB,.sl 5 aC nC cC],.bool true],v)))) (Ai (Ad lo 326 [.agg [.sl 2 l n a],Iv s,.agg [Iv c,Iv o]] y) fun v y=>eA v fun v=>eC v fun v w=>eS 2 v fun v p q=>eN w (Ao xA nA (eO aA fun w=>eO (st lo y w.1 (w.2+xA.toNat) 1 [.sl 2 v p q]) fun v=>Ai (Ad lo 325 [.agg [.sl 6 a0 n0 c0,.sl 5 aA nA cA,.sl 9 aB nB cB,.sl 5 aC nC cC],Iv xA,Iv 3,Iv s,.agg [Iv c,Iv o]] v) fun v y=>eA v fun v=>eC v fun v w=>eS 6 v fun v p q=>eC w fun w g=>eS 5 w fun w i j=>eC g fun g k=>eS 9 g fun g m t=>eC k fun k d=>eS 5 k fun k e f=>eN d (Ao xA i (eO w fun d=>eO (st lo y d.1 (d.2+xA.toNat) 2 [Iv 0,Iv 0]) fun y=>Ao xA i (eO w fun d=>eO (st lo y d.1 (d.2+xA.toNat) 4 [Iv 0]) fun y=>some (.tup [.agg [.sl 6 v p q,.sl 5 w i j,.sl 9 g m t,.sl 5 k e f],.bool true],y)))))))))) (some (.tup [.agg [.sl 6 a0 n0 c0,.sl 5 aA nA cA,.sl 9 aB nB cB,.sl 5 aC nC cC],.bool false],x))) (Ai (Ad lo 255 [.agg [Iv b,Iv z],.agg [Iv c,Iv o]] u) fun v x=>eB v (Ai (Ad lo 255 [.agg [Iv b,Iv z],.agg [Iv c,Iv o]] x) fun v y=>eB v (Ao xA nA (eO aA fun v=>eO (st lo y v.1 (v.2+xA.toNat) 2 [Iv 0,Iv 0]) fun v=>Ao xA nA (eO aA fun u=>eO (st lo v u.1 (u.2+xA.toNat) 4 [Iv 0]) fun v=>some (.tup [.agg [.sl 6 a0 n0 c0,.sl 5 aA nA cA,.sl 9 aB nB cB,.sl 5 aC nC cC],.bool true],v)))) (Ai (Ad lo 326 [.agg [.sl 2 l n a],Iv s,.agg [Iv c,Iv o]] y) fun v y=>eA v fun v=>eC v fun v u=>eS 2 v fun v w p=>eN u (Ao xA nA (eO aA fun u=>eO (st lo y u.1 (u.2+xA.toNat) 1 [.sl 2 v w p]) fun v=>Ai (Ad lo 325 [.agg [.sl 6 a0 n0 c0,.sl 5 aA nA cA,.sl 9 aB nB cB,.sl 5 aC nC cC],Iv xA,Iv 3,Iv s,.agg [Iv c,Iv o]] v) fun v y=>eA v fun v=>eC v fun v u=>eS 6 v fun v w p=>eC u fun u q=>eS 5 u fun u g i=>eC q fun q j=>eS 9 q fun q k m=>eC j fun j t=>eS 5 j fun j d e=>eN t (Ao xA g (eO u fun t=>eO (st lo y t.1 (t.2+xA.toNat) 2 [Iv 0,Iv 0]) fun y=>Ao xA g (eO u fun t=>eO (st lo y t.1 (t.2+xA.toNat) 4 [Iv 0]) fun y=>some (.tup [.agg [.sl 6 v w p,.sl 5 u g i,.sl 9 q k m,.sl 5 j d e],.bool true],y)))))))) (br (decide ((nC:Int)≥80)) (some (.tup [.agg [.sl 6 a0 n0 c0,.sl 5 aA nA cA,.sl 9 aB nB cB,.sl 5 aC nC cC],.bool false],x)) (Ai (Ad lo 255 [.agg [Iv b,Iv z],.agg [Iv c,Iv o]] x) fun v b=>eB v (Ao xA nA (eO aA fun v=>eO (st lo b v.1 (v.2+xA.toNat) 2 [Iv 0,Iv 0]) fun v=>Ao xA nA (eO aA fun x=>eO (st lo v x.1 (x.2+xA.toNat) 4 [Iv 0]) fun v=>some (.tup [.agg [.sl 6 a0 n0 c0,.sl 5 aA nA cA,.sl 9 aB nB cB,.sl 5 aC nC cC],.bool true],v)))) (Ai (Ad lo 326 [.agg [.sl 2 l n a],Iv s,.agg [Iv c,Iv o]] b) fun v l=>eA v fun v=>eC v fun v n=>eS 2 v fun v a b=>eN n (Ao xA nA (eO aA fun n=>eO (st lo l n.1 (n.2+xA.toNat) 1 [.sl 2 v a b]) fun v=>Ai (Ad lo 325 [.agg [.sl 6 a0 n0 c0,.sl 5 aA nA cA,.sl 9 aB nB cB,.sl 5 aC nC cC],Iv xA,Iv 3,Iv s,.agg [Iv c,Iv o]] v) fun v l=>eA v fun v=>eC v fun v c=>eS 6 v fun v n a=>eC c fun c o=>eS 5 c fun c s b=>eC o fun o x=>eS 9 o fun o y z=>eC x fun x u=>eS 5 x fun x w p=>eN u (Ao xA s (eO c fun u=>eO (st lo l u.1 (u.2+xA.toNat) 2 [Iv 0,Iv 0]) fun l=>Ao xA s (eO c fun u=>eO (st lo l u.1 (u.2+xA.toNat) 4 [Iv 0]) fun l=>some (.tup [.agg [.sl 6 v n a,.sl 5 c s b,.sl 9 o y z,.sl 5 x w p],.bool true],l)))))))))))))))))))))=some r) :
  Ad lo 277 [.agg [.sl 6 a0 n0 c0,.sl 5 aA nA cA,.sl 9 aB nB cB,.sl 5 aC nC cC],.agg [Iv x1,Iv xA,Iv xB,Iv xC,.str s1,.bool b1]] h=some r :=
 eK Tryz.func277 hk
theorem QU {lo n0 nA nB nC:Nat}{a0 aA aB aC:Pq}{c0 cA cB cC:Nq}{x1 xA xB xC:Int}{s1:ByteArray}{b1:Bool}{h:Heap}{r:V×Heap} (hk:(Ao xA nA (eO aA fun v=>eO (ld h v.1 (v.2+xA.toNat) 0 5) fun v=>eC v fun v l=>eI .i64 v fun v=>eC l fun l c=>eS 2 l fun l n a=>eC c fun c o=>eI .i64 c fun c=>eC o fun o s=>eI .i64 o fun o=>eC s fun o s=>eI .i64 o fun o=>eN s (Ao v n0 (eO a0 fun o=>eO (ld h o.1 (o.2+v.toNat) 2 1) fun v=>eC v fun v o=>eS 2 v fun v s b=>eN o (br (decide (c>0)) (some (.tup [.agg [.sl 6 a0 n0 c0,.sl 5 aA nA cA,.sl 9 aB nB cB,.sl 5 aC nC cC],.bool false],h)) (Ai (Ad lo 71 [Iv xC,Iv 0,Iv 3] h) fun c o=>eB c (Ai (Ad lo 71 [Iv xB,Iv 0,Iv (IntKind.wrap .i64 (((s:Int)) - 1))] o) fun c x=>eB c (br (decide ((nC:Int)≥80)) (some (.tup [.agg [.sl 6 a0 n0 c0,.sl 5 aA nA cA,.sl 9 aB nB cB,.sl 5 aC nC cC],.bool false],x)) (Ai (Ad lo 72 [.agg [.sl 2 v s b],Iv xB,Iv xC] x) fun v c=>eA v fun v=>eC v fun v s=>eI .i64 v fun v=>eC s fun v s=>eI .i64 v fun v=>eC s fun s b=>eI .i64 s fun s=>eC b fun b y=>eS 2 b fun b z u=>eC y fun y w=>eT y fun y=>eC w fun y w=>eBv y fun y=>eN w (Ao xC n (eO l fun y=>eO (ld c y.1 (y.2+xC.toNat) 0 2) fun y=>eC y fun y w=>eI .i64 y fun y=>eC w fun w p=>eI .i64 w fun w=>eN p (Ai (Ad lo 255 [.agg [Iv v,Iv s],.agg [Iv y,Iv w]] c) fun c y=>eB c (some (.tup [.agg [.sl 6 a0 n0 c0,.sl 5 aA nA cA,.sl 9 aB nB cB,.sl 5 aC nC cC],.bool false],y)) (br (decide (v>0)) (Ai (Ad lo 327 [.agg [.sl 2 l n a],.agg [.sl 2 b z u]] y) fun l c=>eA l fun l=>eC l fun l n=>eS 2 l fun l a b=>eN n (Ai (Ad lo 326 [.agg [.sl 2 l a b],Iv xC,.agg [Iv v,Iv s]] c) fun l c=>eA l fun l=>eC l fun l n=>eS 2 l fun l a b=>eN n (Ao xA nA (eO aA fun n=>eO (st lo c n.1 (n.2+xA.toNat) 1 [.sl 2 l a b]) fun l=>Ai (Ad lo 325 [.agg [.sl 6 a0 n0 c0,.sl 5 aA nA cA,.sl 9 aB nB cB,.sl 5 aC nC cC],Iv xA,Iv 2,Iv xC,.agg [Iv v,Iv s]] l) fun l c=>eA l fun l=>eC l fun l n=>eS 6 l fun l a b=>eC n fun n z=>eS 5 n fun n u w=>eC z fun z p=>eS 9 z fun z q g=>eC p fun p i=>eS 5 p fun p j k=>eN i (some (.tup [.agg [.sl 6 l a b,.sl 5 n u w,.sl 9 z q g,.sl 5 p j k],.bool true],c)))))) (Ai (Ad lo 325 [.agg [.sl 6 a0 n0 c0,.sl 5 aA nA cA,.sl 9 aB nB cB,.sl 5 aC nC cC],Iv xA,Iv 2,Iv xC,.agg [Iv v,Iv s]] y) fun v l=>eA v fun v=>eC v fun v c=>eS 6 v fun v n a=>eC c fun c s=>eS 5 c fun c b y=>eC s fun s z=>eS 9 s fun s u w=>eC z fun z p=>eS 5 z fun z q g=>eN p (some (.tup [.agg [.sl 6 v n a,.sl 5 c b y,.sl 9 s u w,.sl 5 z q g],.bool true],l))))))))) (some (.tup [.agg [.sl 6 a0 n0 c0,.sl 5 aA nA cA,.sl 9 aB nB cB,.sl 5 aC nC cC],.bool false],x))) (some (.tup [.agg [.sl 6 a0 n0 c0,.sl 5 aA nA cA,.sl 9 aB nB cB,.sl 5 aC nC cC],.bool false],o))))))))=some r) :
  Ad lo 278 [.agg [.sl 6 a0 n0 c0,.sl 5 aA nA cA,.sl 9 aB nB cB,.sl 5 aC nC cC],.agg [Iv x1,Iv xA,Iv xB,Iv xC,.str s1,.bool b1]] h=some r :=
 eK Tryz.func278 hk
def Dl lo x9 aA nA cA aB nB cB aC nC cC aD nD cD xA xB xC xD sA bA nE aE nF cE nG aF nH cF nI aG nJ cG nK aH nL cH aI nM cI h:=
 LA 279 Tryz.f279 221311111 0 111111 lo ⟨[(2,.lp 2 0),(3,.lp 3 0),(4,.lp 4 0),(8,.lp 8 0),(9,Iv x9)],[(2,[.sl 6 aA nA cA,.sl 5 aB nB cB,.sl 9 aC nC cC,.sl 5 aD nD cD]),(3,[Iv xA,Iv xB,Iv xC,Iv xD,.str sA,.bool bA]),(4,[.sl nE aE nF cE,.sl nG aF nH cF,.sl nI aG nJ cG,.sl nK aH nL cH]),(8,[.sl 6 aI nM cI])],h⟩
theorem Tf {lo n0 nA nB nC:Nat}{a0 aA aB aC:Pq}{c0 cA cB cC:Nq}{x1 xA xB xC:Int}{s1:ByteArray}{b1:Bool}{h:Heap}{r:V×Heap} (hk:(Ao xA nA (eO aA fun v=>eO (ld h v.1 (v.2+xA.toNat) 0 5) fun v=>eC v fun v l=>eI .i64 v fun v=>eC l fun l c=>eS 2 l fun l n a=>eC c fun c o=>eI .i64 c fun c=>eC o fun o s=>eI .i64 o fun o=>eC s fun o s=>eI .i64 o fun o=>eN s (Ao v n0 (eO a0 fun o=>eO (ld h o.1 (o.2+v.toNat) 2 1) fun v=>eC v fun v o=>eS 2 v fun v s b=>eN o (Ao (IntKind.wrap .i64 (((s:Int)) - 1)) s (eO v fun v=>eO (ld h v.1 (v.2+((IntKind.i64.wrap ((s:Int) - (1:Int))).toNat)) 0 1) fun v=>eC v fun v o=>eS 6 v fun v s b=>eN o (br (decide (c>0)) (some (.tup [.agg [.sl 6 a0 n0 c0,.sl 5 aA nA cA,.sl 9 aB nB cB,.sl 5 aC nC cC],.bool false],h)) (Ai (Ad h.length 199 [.agg [.sl 6 v s b]] h) fun c o=>eA c fun c=>eC c fun c x=>eS 2 c fun c y z=>eN x (Ai (Ad lo 192 [.agg [.sl 2 l n a],.agg [.sl 2 c y z]] o) fun l c=>eB l (br (decide (IntKind.i64.wrap ((nC:Int)+(4:Int))>80)) (some (.tup [.agg [.sl 6 a0 n0 c0,.sl 5 aA nA cA,.sl 9 aB nB cB,.sl 5 aC nC cC],.bool false],c)) (Dl lo 0 a0 n0 c0 aA nA cA aB nB cB aC nC cC x1 xA xB xC s1 b1 0 none 0 (some 0) 0 none 0 (some 0) 0 none 0 (some 0) 0 none 0 (some 0) v s b c)) (some (.tup [.agg [.sl 6 a0 n0 c0,.sl 5 aA nA cA,.sl 9 aB nB cB,.sl 5 aC nC cC],.bool false],c)))))))))))=some r) :
  Ad lo 279 [.agg [.sl 6 a0 n0 c0,.sl 5 aA nA cA,.sl 9 aB nB cB,.sl 5 aC nC cC],.agg [Iv x1,Iv xA,Iv xB,Iv xC,.str s1,.bool b1]] h=some r :=
 eK Tryz.func279 hk
theorem Dl.e {lo nA nB nC nD nE nF nG nH nI nJ nK nL nM:Nat}{x9 xA xB xC xD:Int}{aA aB aC aD aE aF aG aH aI:Pq}{cA cB cC cD cE cF cG cH cI:Nq}{sA:ByteArray}{bA:Bool}{h:Heap} :
  Dl lo x9 aA nA cA aB nB cB aC nC cC aD nD cD xA xB xC xD sA bA nE aE nF cE nG aF nH cF nI aG nJ cG nK aH nL cH aI nM cI h=br (decide (x9<4)) (Ao xB nB (eO aB fun v=>eO (ld h v.1 (v.2+xB.toNat) 1 1) fun v=>eC v fun v l=>eS 2 v fun v c n=>eN l (Ao x9 nM (eO aI fun l=>eO (ld h l.1 (l.2+x9.toNat) 1 2) fun l=>eC l fun l a=>eI .i64 l fun l=>eC a fun a o=>eI .i64 a fun a=>eN o (Ai (Ad lo 326 [.agg [.sl 2 v c n],Iv x9,.agg [Iv l,Iv a]] h) fun v l=>eA v fun v=>eC v fun v c=>eS 2 v fun v n a=>eN c (Ao xB nB (eO aB fun c=>eO (st lo l c.1 (c.2+xB.toNat) 1 [.sl 2 v n a]) fun v=>Ao x9 nM (eO aI fun l=>eO (ld v l.1 (l.2+x9.toNat) 1 2) fun l=>eC l fun l c=>eI .i64 l fun l=>eC c fun c n=>eI .i64 c fun c=>eN n (Ai (Ad lo 325 [.agg [.sl 6 aA nA cA,.sl 5 aB nB cB,.sl 9 aC nC cC,.sl 5 aD nD cD],Iv xB,Iv 2,Iv x9,.agg [Iv l,Iv c]] v) fun v l=>eA v fun v=>eC v fun v c=>eS 6 v fun v n a=>eC c fun c o=>eS 5 c fun c s b=>eC o fun o x=>eS 9 o fun o y z=>eC x fun x u=>eS 5 x fun x w p=>eN u (Dl lo (IntKind.wrap .i64 (x9+1)) v n a c s b o y z x w p xA xB xC xD sA bA nE aE nF cE nG aF nH cF nI aG nJ cG nK aH nL cH aI nM cI l)))))))))) (some (.tup [.agg [.sl 6 aA nA cA,.sl 5 aB nB cB,.sl 9 aC nC cC,.sl 5 aD nD cD],.bool true],h)) :=
 lE
def Hw lo a0 n0 c0 a3 n3 c3 x4 h:=
 LA 281 Tryz.f281 221311 0 111 lo ⟨[(0,.sl 6 a0 n0 c0),(3,.sl 6 a3 n3 c3),(4,Iv x4)],[],h⟩
theorem Hw.e {lo n0 n3:Nat}{a0 a3:Pq}{c0 c3:Nq}{x4:Int}{h:Heap} :
  Hw lo a0 n0 c0 a3 n3 c3 x4 h=br (decide (x4<(n0:Int))) (Ao x4 n0 (eO a0 fun v=>eO (ld h v.1 (v.2+x4.toNat) 0 6) fun v=>eC v fun v l=>eI .i64 v fun v=>eC l fun l c=>eI .i64 l fun l=>eC c fun c n=>eI .i64 c fun c=>eC n fun n a=>eS 2 n fun n o s=>eC a fun a b=>eT a fun a=>eC b fun b x=>eBv b fun b=>eN x (Ai (Ad lo 285 [.agg [Iv v,Iv l,Iv c,.sl 2 n o s,.str a,.bool b]] h) fun v l=>eA v fun v=>eC v fun v c=>eI .i64 v fun v=>eC c fun c n=>eI .i64 c fun c=>eC n fun n a=>eI .i64 n fun n=>eC a fun a o=>eS 2 a fun a s b=>eC o fun o x=>eT o fun o=>eC x fun x y=>eBv x fun x=>eN y (Ao x4 n3 (eO a3 fun y=>eO (st lo l y.1 (y.2+x4.toNat) 0 [Iv v,Iv c,Iv n,.sl 2 a s b,.str o,.bool x]) fun v=>Hw lo a0 n0 c0 a3 n3 c3 (IntKind.wrap .i64 (x4+1)) v))))) (some (.sl 6 a3 n3 c3,h)) :=
 lE
def GO lo a0 n0 c0 a3 n3 c3 x4 h:=
 LA 282 Tryz.f282 221311 0 111 lo ⟨[(0,.sl 1 a0 n0 c0),(3,.sl 1 a3 n3 c3),(4,Iv x4)],[],h⟩
theorem GO.e {lo n0 n3:Nat}{a0 a3:Pq}{c0 c3:Nq}{x4:Int}{h:Heap} :
  GO lo a0 n0 c0 a3 n3 c3 x4 h=br (decide (x4<(n0:Int))) (Ao x4 n0 (eO a0 fun v=>eO (ld h v.1 (v.2+x4.toNat) 0 1) fun v=>eC v fun v l=>eN l (eS 6 v fun v l c=>Ai (Ad lo 281 [.sl 6 v l c] h) fun v l=>eS 6 v fun v c n=>Ao x4 n3 (eO a3 fun a=>eO (st lo l a.1 (a.2+x4.toNat) 0 [.sl 6 v c n]) fun v=>GO lo a0 n0 c0 a3 n3 c3 (IntKind.wrap .i64 (x4+1)) v)))) (some (.sl 1 a3 n3 c3,h)) :=
 lE
def Aq lo a1 n1 c1 g2 l2 b6 aA nA cA xA xB h:=
 LA 288 Tryz.f288 221311 0 111 lo ⟨[(1,.sl 6 a1 n1 c1),(2,.fn g2 l2),(6,.bool b6),(15,.sl 6 aA nA cA),(16,Iv xA),(17,Iv xB)],[],h⟩
theorem C0 {lo n0 n1 g2:Nat}{a0 a1:Pq}{c0 c1:Nq}{l2:List V}{h h':Heap}{v:V} (hk:(br ((n0:Int)==(n1:Int)) (Aq h.length a1 n1 c1 g2 l2 false a0 n0 c0 ((n0:Int)) 0 h) (some (.bool false,h)))=some (v,h')) (hn:noId v=true:=by rfl) :
  Ad lo 288 [.sl 6 a0 n0 c0,.sl 6 a1 n1 c1,.fn g2 l2] h=some (v,h) :=
 eD Tryz.func288 hk hn
theorem Aq.e {lo n1 g2 nA:Nat}{a1 aA:Pq}{c1 cA:Nq}{l2:List V}{b6:Bool}{xA xB:Int}{h:Heap} :
  Aq lo a1 n1 c1 g2 l2 b6 aA nA cA xA xB h=br (decide (xB<xA)) (Ao xB nA (eO aA fun v=>eO (ld h v.1 (v.2+xB.toNat) 0 6) fun v=>eC v fun v l=>eI .i64 v fun v=>eC l fun l c=>eI .i64 l fun l=>eC c fun c n=>eI .i64 c fun c=>eC n fun n a=>eS 2 n fun n o s=>eC a fun a b=>eT a fun a=>eC b fun b x=>eBv b fun b=>eN x (Ao xB n1 (eO a1 fun x=>eO (ld h x.1 (x.2+xB.toNat) 0 6) fun x=>eC x fun x y=>eI .i64 x fun x=>eC y fun y z=>eI .i64 y fun y=>eC z fun z u=>eI .i64 z fun z=>eC u fun u w=>eS 2 u fun u p q=>eC w fun w g=>eT w fun w=>eC g fun g i=>eBv g fun g=>eN i (Ai (Ad lo g2 (Di [.agg [Iv v,Iv l,Iv c,.sl 2 n o s,.str a,.bool b],.agg [Iv x,Iv y,Iv z,.sl 2 u p q,.str w,.bool g]] l2) h) fun v l=>eB v (Aq lo a1 n1 c1 g2 l2 b6 aA nA cA xA (IntKind.wrap .i64 (xB+1)) l) (some (.bool false,l))))))) (some (.bool true,h)) :=
 lE
def Bt lo a0 n0 c0 g1 l1 x4 x7 x8 h:=
 LA 289 Tryz.f289 22131 0 11 lo ⟨[(0,.sl 5 a0 n0 c0),(1,.fn g1 l1),(4,Iv x4),(7,Iv x7),(8,Iv x8)],[],h⟩
theorem Bt.e {lo n0 g1:Nat}{a0:Pq}{c0:Nq}{l1:List V}{x4 x7 x8:Int}{h:Heap} :
  Bt lo a0 n0 c0 g1 l1 x4 x7 x8 h=br (decide (x8<x7)) (Ao x8 n0 (eO a0 fun v=>eO (ld h v.1 (v.2+x8.toNat) 0 5) fun v=>eC v fun v l=>eI .i64 v fun v=>eC l fun l c=>eS 2 l fun l n a=>eC c fun c o=>eI .i64 c fun c=>eC o fun o s=>eI .i64 o fun o=>eC s fun s b=>eI .i64 s fun s=>eN b (Ai (Ad lo g1 (Di [.agg [Iv v,.sl 2 l n a,Iv c,Iv o,Iv s]] l1) h) fun v l=>eB v (some (Iv x8,l)) (Bt lo a0 n0 c0 g1 l1 x4 x7 (IntKind.wrap .i64 (x8+1)) l)))) (some (Iv (-1),h)) :=
 lE
def Bo lo a0 n0 c0 g1 l1 x4 x7 x8 h:=
 LA 290 Tryz.f290 22131 0 11 lo ⟨[(0,.sl 9 a0 n0 c0),(1,.fn g1 l1),(4,Iv x4),(7,Iv x7),(8,Iv x8)],[],h⟩
theorem Bo.e {lo n0 g1:Nat}{a0:Pq}{c0:Nq}{l1:List V}{x4 x7 x8:Int}{h:Heap} :
  Bo lo a0 n0 c0 g1 l1 x4 x7 x8 h=br (decide (x8<x7)) (Ao x8 n0 (eO a0 fun v=>eO (ld h v.1 (v.2+x8.toNat) 0 9) fun v=>eC v fun v l=>eI .i64 v fun v=>eC l fun l c=>eI .i64 l fun l=>eC c fun c n=>eI .i64 c fun c=>eC n fun n a=>eI .i64 n fun n=>eC a fun a o=>eI .i64 a fun a=>eC o fun o s=>eI .i64 o fun o=>eC s fun s b=>eS 2 s fun s x y=>eC b fun b z=>eT b fun b=>eC z fun z u=>eBv z fun z=>eN u (Ai (Ad lo g1 (Di [.agg [Iv v,Iv l,Iv c,Iv n,Iv a,Iv o,.sl 2 s x y,.str b,.bool z]] l1) h) fun v l=>eB v (some (Iv x8,l)) (Bo lo a0 n0 c0 g1 l1 x4 x7 (IntKind.wrap .i64 (x8+1)) l)))) (some (Iv (-1),h)) :=
 lE
theorem Gr {lo n0:Nat}{a0:Pq}{c0:Nq}{h:Heap}{r:V×Heap} (hk:(Ax a0 n0 c0 none (some (Iv ((n0:Int)))) (some (Iv ((n0:Int)))) fun v l c=>some (.sl 2 v l c,h))=some r) :
  Ad lo 292 [.sl 2 a0 n0 c0] h=some r :=
 eK Tryz.func292 hk
theorem Dw {lo n0:Nat}{a0:Pq}{c0:Nq}{h:Heap}{r:V×Heap} (hk:(br (a0.isNone) (some (.sl 0 none 0 (some 0),h)) (Av 2 (h ++ [.rows 2 29 false []]) (.sl 2 a0 n0 c0) fun v=>Dd lo 29 2 16 (.sl 2 (some (h.length,0)) 0 (some 0)) v (h ++ [.rows 2 29 false []]) fun v l=>eS 2 v fun v c n=>some (.sl 2 v c n,l)))=some r) :
  Ad lo 293 [.sl 2 a0 n0 c0] h=some r :=
 eK Tryz.func293 hk
def Fu lo nA nB nC aA nD cA xA xB xC xD xE xF sA bA h:=
 LA 297 Tryz.f297 22131111 0 11111 lo ⟨[(0,.ptr (some (nA,(nB,nC)))),(5,.lp 5 0),(39,.sl 2 aA nD cA),(40,Iv xA),(41,Iv xB)],[(5,[Iv xC,Iv xD,Iv xE,Iv xF,.str sA,.bool bA])],h⟩
theorem Fu.e {lo nA nB nC nD:Nat}{aA:Pq}{cA:Nq}{xA xB xC xD xE xF:Int}{sA:ByteArray}{bA:Bool}{h:Heap} :
  Fu lo nA nB nC aA nD cA xA xB xC xD xE xF sA bA h=br (decide (xB<xA)) (Ao xB nD (eO aA fun v=>eO (ld h v.1 (v.2+xB.toNat) 0 2) fun v=>eC v fun v l=>eI .i64 v fun v=>eC l fun l c=>eI .i64 l fun l=>eN c (Ai (Ad lo 332 [.ptr (some (nA,(nB,nC))),Iv xD,Iv 2,Iv xB,.agg [Iv v,Iv l]] h) fun v l=>eU v fun v=>eN v (Fu lo nA nB nC aA nD cA xA (IntKind.wrap .i64 (xB+1)) xC xD xE xF sA bA l)))) (some (.bool true,h)) :=
 lE
def Hz lo a0 n0 c0 a1 n1 c1 b4 x5 h:=
 LA 301 Tryz.f301 221311 0 111 lo ⟨[(0,.sl 6 a0 n0 c0),(1,.sl 6 a1 n1 c1),(4,.bool b4),(5,Iv x5)],[],h⟩
theorem Hz.e {lo n0 n1:Nat}{a0 a1:Pq}{c0 c1:Nq}{b4:Bool}{x5:Int}{h:Heap} :
  Hz lo a0 n0 c0 a1 n1 c1 b4 x5 h=br (decide (x5<(n0:Int))) (Ao x5 n0 (eO a0 fun v=>eO (ld h v.1 (v.2+x5.toNat) 0 6) fun v=>eC v fun v l=>eI .i64 v fun v=>eC l fun l c=>eI .i64 l fun l=>eC c fun c n=>eI .i64 c fun c=>eC n fun n a=>eS 2 n fun n o s=>eC a fun a b=>eT a fun a=>eC b fun b x=>eBv b fun b=>eN x (Ao x5 n1 (eO a1 fun x=>eO (ld h x.1 (x.2+x5.toNat) 0 6) fun x=>eC x fun x y=>eI .i64 x fun x=>eC y fun y z=>eI .i64 y fun y=>eC z fun z u=>eI .i64 z fun z=>eC u fun u w=>eS 2 u fun u p q=>eC w fun w g=>eT w fun w=>eC g fun g i=>eBv g fun g=>eN i (Ai (Ad lo 305 [.agg [Iv v,Iv l,Iv c,.sl 2 n o s,.str a,.bool b],.agg [Iv x,Iv y,Iv z,.sl 2 u p q,.str w,.bool g]] h) fun v l=>eB v (Hz lo a0 n0 c0 a1 n1 c1 b4 (IntKind.wrap .i64 (x5+1)) l) (some (.bool false,l))))))) (some (.bool true,h)) :=
 lE
end
noncomputable section

def GV lo a0 n0 c0 a1 n1 c1 b4 x5 h:=
 LA 302 Tryz.f302 221311 0 111 lo ⟨[(0,.sl 1 a0 n0 c0),(1,.sl 1 a1 n1 c1),(4,.bool b4),(5,Iv x5)],[],h⟩
theorem GV.e {lo n0 n1:Nat}{a0 a1:Pq}{c0 c1:Nq}{b4:Bool}{x5:Int}{h:Heap} :
  GV lo a0 n0 c0 a1 n1 c1 b4 x5 h=br (decide (x5<(n0:Int))) (Ao x5 n0 (eO a0 fun v=>eO (ld h v.1 (v.2+x5.toNat) 0 1) fun v=>eC v fun v l=>eN l (eS 6 v fun v l c=>Ao x5 n1 (eO a1 fun n=>eO (ld h n.1 (n.2+x5.toNat) 0 1) fun n=>eC n fun n a=>eN a (eS 6 n fun n a o=>Ai (Ad lo 301 [.sl 6 v l c,.sl 6 n a o] h) fun v l=>eB v (GV lo a0 n0 c0 a1 n1 c1 b4 (IntKind.wrap .i64 (x5+1)) l) (some (.bool false,l))))))) (some (.bool true,h)) :=
 lE
theorem Tg {lo:Nat}{x0 x1:Int}{h:Heap}{r:V×Heap} (hk:(Ai (Ad h.length 248 [Iv x1] h) fun v l=>eA v fun v=>eC v fun v c=>eS 2 v fun v n a=>eN c (some (.agg [Iv x0,Iv 0,.sl 2 v n a,.sl 0 none 0 (some 0),.sl 1 (some (l.length,0)) 3 (some 3),.bool false],(l ++ [.rows 1 41 false [[.sl 0 none 0 (some 0)],[.sl 0 none 0 (some 0)],[.sl 0 none 0 (some 0)]]]))))=some r) :
  Ad lo 306 [Iv x0,Iv x1] h=some r :=
 eK Tryz.func306 hk
def Gm lo xA xB nA aA nB cA aB nC cB h:=
 LA 307 Tryz.f307 2213111 0 1111 lo ⟨[(2,.lp 2 0),(3,.lp 3 0),(11,Iv xA),(12,Iv xB)],[(2,[.sl nA aA nB cA]),(3,[.sl 2 aB nC cB])],h⟩
theorem Gm.e {lo nA nB nC:Nat}{xA xB:Int}{aA aB:Pq}{cA cB:Nq}{h:Heap} :
  Gm lo xA xB nA aA nB cA aB nC cB h=br (decide (xB<xA)) (Ai (Ad lo 337 [] h) fun v l=>eA v fun v=>eC v fun v c=>eS 6 v fun v n a=>eN c (Av 2 (l ++ [.rows 2 45 false [[.sl 6 v n a,.sl 0 none 0 (some 0)]]]) (.sl 2 (some (l.length,0)) 1 (some 1)) fun c=>Dd lo 45 2 48 (.sl 2 aB nC cB) c (l ++ [.rows 2 45 false [[.sl 6 v n a,.sl 0 none 0 (some 0)]]]) fun v l=>eS 2 v fun v c n=>Gm lo xA (IntKind.wrap .i64 (xB+1)) nA aA nB cA v c n l)) (some (.agg [.sl 2 aB nC cB],h)) :=
 lE
theorem OG {lo nA nB nC n1 nD nE nF:Nat}{a1 aA aB aC:Pq}{c1 cA cB cC:Nq}{h:Heap}{r:V×Heap} (hk:(Ai (Ad lo 66 [.ptr (some (nA,(nB,nC))),Iv 3] h) fun v l=>eI .i64 v fun v=>Ai (Ad lo 66 [.ptr (some (nA,(nB,nC))),Iv 20] l) fun l c=>eI .i64 l fun l=>br (l==0) (Ai (Ad lo 66 [.ptr (some (nA,(nB,nC))),Iv 4] c) fun n a=>eI .i64 n fun n=>Ai (Ad lo 66 [.ptr (some (nA,(nB,nC))),Iv 4] a) fun a o=>eI .i64 a fun a=>Ai (Ad lo 262 [.ptr (some (nA,(nB,nC)))] o) fun o s=>eT o fun o=>some (.agg [Iv 1,Iv n,Iv 0,Iv a,.str o,.bool false],s)) (br (l==1) (Ai (Ad lo 66 [.ptr (some (nA,(nB,nC))),Iv 4] c) fun n a=>eI .i64 n fun n=>Ai (Ad lo 66 [.ptr (some (nA,(nB,nC))),Iv 4] a) fun a o=>eI .i64 a fun a=>Ai (Ad lo 262 [.ptr (some (nA,(nB,nC)))] o) fun o s=>eT o fun o=>some (.agg [Iv 1,Iv n,Iv 0,Iv a,.str o,.bool false],s)) (br (l==2) (Ai (Ad lo 66 [.ptr (some (nA,(nB,nC))),Iv 4] c) fun n a=>eI .i64 n fun n=>Ai (Ad lo 66 [.ptr (some (nA,(nB,nC))),Iv 4] a) fun a o=>eI .i64 a fun a=>Ai (Ad lo 262 [.ptr (some (nA,(nB,nC)))] o) fun o s=>eT o fun o=>some (.agg [Iv 1,Iv n,Iv 0,Iv a,.str o,.bool false],s)) (br (l==3) (Ai (Ad lo 66 [.ptr (some (nA,(nB,nC))),Iv 4] c) fun n a=>eI .i64 n fun n=>Ai (Ad lo 66 [.ptr (some (nA,(nB,nC))),Iv 4] a) fun a o=>eI .i64 a fun a=>some (.agg [Iv 1,Iv n,Iv 0,Iv a,.str ⟨⟨[]⟩⟩,.bool true],o)) (br (l==4) (Ai (Ad lo 66 [.ptr (some (nA,(nB,nC))),Iv 4] c) fun n a=>eI .i64 n fun n=>some (.agg [Iv 2,Iv n,Iv 0,Iv 0,.str ⟨⟨[]⟩⟩,.bool false],a)) (br (l==5) (Ai (Ad lo 66 [.ptr (some (nA,(nB,nC))),Iv 4] c) fun n a=>eI .i64 n fun n=>some (.agg [Iv 2,Iv n,Iv 0,Iv 0,.str ⟨⟨[]⟩⟩,.bool false],a)) (br (l==6) (Ai (Ad lo 66 [.ptr (some (nA,(nB,nC))),Iv 4] c) fun n a=>eI .i64 n fun n=>some (.agg [Iv 2,Iv n,Iv 0,Iv 0,.str ⟨⟨[]⟩⟩,.bool false],a)) (br (l==7) (Ai (Ad lo 66 [.ptr (some (nA,(nB,nC))),Iv 4] c) fun n a=>eI .i64 n fun n=>Ai (Ad lo 66 [.ptr (some (nA,(nB,nC))),Iv 4] a) fun a o=>eI .i64 a fun a=>Ai (Ad lo 66 [.ptr (some (nA,(nB,nC))),Iv 4] o) fun o s=>eI .i64 o fun o=>some (.agg [Iv 3,Iv n,Iv a,Iv o,.str ⟨⟨[]⟩⟩,.bool false],s)) (br (l==8) (Ai (Ad lo 66 [.ptr (some (nA,(nB,nC))),Iv 4] c) fun n a=>eI .i64 n fun n=>Ai (Ad lo 66 [.ptr (some (nA,(nB,nC))),Iv 4] a) fun a o=>eI .i64 a fun a=>Ai (Ad lo 66 [.ptr (some (nA,(nB,nC))),Iv 4] o) fun o s=>eI .i64 o fun o=>some (.agg [Iv 3,Iv n,Iv a,Iv o,.str ⟨⟨[]⟩⟩,.bool false],s)) (br (l==9) (Ai (Ad lo 66 [.ptr (some (nA,(nB,nC))),Iv 4] c) fun n a=>eI .i64 n fun n=>Ai (Ad lo 66 [.ptr (some (nA,(nB,nC))),Iv 4] a) fun a o=>eI .i64 a fun a=>Ai (Ad lo 66 [.ptr (some (nA,(nB,nC))),Iv 4] o) fun o s=>eI .i64 o fun o=>some (.agg [Iv 3,Iv n,Iv a,Iv o,.str ⟨⟨[]⟩⟩,.bool false],s)) (br (l==10) (Ai (Ad lo 67 [.ptr (some (nA,(nB,nC))),.sl 1 (some (c.length,0)) 2 (some 2)] (c ++ [.rows 1 3 false [[Iv 4],[Iv 5]]])) fun n a=>eI .i64 n fun n=>Ai (Ad lo 66 [.ptr (some (nA,(nB,nC))),Iv 4] a) fun a o=>eI .i64 a fun a=>Ai (Ad lo 66 [.ptr (some (nA,(nB,nC))),Iv 3] o) fun o s=>eI .i64 o fun o=>some (.agg [Iv n,Iv a,Iv o,Iv 0,.str ⟨⟨[]⟩⟩,.bool false],s)) (br (l==11) (Ai (Ad lo 67 [.ptr (some (nA,(nB,nC))),.sl 1 (some (c.length,0)) 4 (some 4)] (c ++ [.rows 1 3 false [[Iv 0],[Iv 0],[Iv 1],[Iv 2]]])) fun n a=>eI .i64 n fun n=>some (.agg [Iv 6,Iv v,Iv n,Iv 0,.str ⟨⟨[]⟩⟩,.bool false],a)) (br (l==12) (Ai (Ad lo 67 [.ptr (some (nA,(nB,nC))),.sl 1 (some (c.length,0)) 4 (some 4)] (c ++ [.rows 1 3 false [[Iv 0],[Iv 0],[Iv 1],[Iv 2]]])) fun n a=>eI .i64 n fun n=>some (.agg [Iv 6,Iv v,Iv n,Iv 0,.str ⟨⟨[]⟩⟩,.bool false],a)) (br (l==13) (Ai (Ad lo 67 [.ptr (some (nA,(nB,nC))),.sl 1 (some (c.length,0)) 4 (some 4)] (c ++ [.rows 1 3 false [[Iv 0],[Iv 0],[Iv 1],[Iv 2]]])) fun n a=>eI .i64 n fun n=>some (.agg [Iv 6,Iv v,Iv n,Iv 0,.str ⟨⟨[]⟩⟩,.bool false],a)) (br (l==14) (Ai (Ad lo 67 [.ptr (some (nA,(nB,nC))),.sl 1 (some (c.length,0)) 2 (some 2)] (c ++ [.rows 1 3 false [[Iv 7],[Iv 8]]])) fun n a=>eI .i64 n fun n=>Ai (Ad lo 66 [.ptr (some (nA,(nB,nC))),Iv 4] a) fun a o=>eI .i64 a fun a=>some (.agg [Iv n,Iv v,Iv a,Iv 0,.str ⟨⟨[]⟩⟩,.bool false],o)) (br (l==15) (Ai (Ad lo 66 [.ptr (some (nA,(nB,nC))),Iv 3] c) fun n a=>eI .i64 n fun n=>some (.agg [Iv 9,Iv v,Iv n,Iv 0,.str ⟨⟨[]⟩⟩,.bool false],a)) (br (l==16) (Ai (Ad lo 66 [.ptr (some (nA,(nB,nC))),Iv 3] c) fun n a=>eI .i64 n fun n=>some (.agg [Iv 9,Iv v,Iv n,Iv 0,.str ⟨⟨[]⟩⟩,.bool false],a)) (br (l==17) (Ai (Ad lo 66 [.ptr (some (nA,(nB,nC))),Iv 3] c) fun n a=>eI .i64 n fun n=>Ao n n1 (eO a1 fun o=>eO (ld a o.1 (o.2+n.toNat) 4 1) fun o=>eC o fun o s=>eN s (eS 1 o fun o s b=>Ao v s (eO o fun o=>eO (ld a o.1 (o.2+v.toNat) 0 1) fun o=>eC o fun o s=>eN s (eS 6 o fun o o s=>some (.agg [Iv 10,Iv v,Iv n,Iv ((o:Int)),.str ⟨⟨[]⟩⟩,.bool false],a)))))) (br (l==18) (Ai (Ad lo 66 [.ptr (some (nA,(nB,nC))),Iv 3] c) fun l n=>eI .i64 l fun l=>Ao l n1 (eO a1 fun a=>eO (ld n a.1 (a.2+l.toNat) 4 1) fun a=>eC a fun a o=>eN o (eS 1 a fun a o s=>Ao v o (eO a fun a=>eO (ld n a.1 (a.2+v.toNat) 0 1) fun a=>eC a fun a o=>eN o (eS 6 a fun a a o=>some (.agg [Iv 10,Iv v,Iv l,Iv ((a:Int)),.str ⟨⟨[]⟩⟩,.bool false],n)))))) (Ai (Ad lo 67 [.ptr (some (nA,(nB,nC))),.sl 1 (some (c.length,0)) 7 (some 7)] (c ++ [.rows 1 3 false [[Iv 11],[Iv 11],[Iv 11],[Iv 12],[Iv 13],[Iv 0],[Iv 14]]])) fun v l=>eI .i64 v fun v=>Ai (Ad lo 66 [.ptr (some (nA,(nB,nC))),Iv 3] l) fun l c=>eI .i64 l fun l=>some (.agg [Iv v,Iv l,Iv 0,Iv 0,.str ⟨⟨[]⟩⟩,.bool false],c)))))))))))))))))))))=some r) :
  Ad lo 308 [.ptr (some (nA,(nB,nC))),.agg [.sl 6 a1 n1 c1,.sl 5 aA nD cA,.sl 9 aB nE cB,.sl 5 aC nF cC]] h=some r :=
 eK Tryz.func308 hk
theorem Tm {lo:Nat}{h:Heap}{r:V×Heap} (hk:(some (.agg [.sl 6 (some (h.length,0)) 4 (some 4)],(h ++ [.rows 6 34 false [[Iv 0,Iv 0,Iv 0,.sl 0 none 0 (some 0),.str ⟨⟨[]⟩⟩,.bool false],[Iv 0,Iv 0,Iv 0,.sl 0 none 0 (some 0),.str ⟨⟨[]⟩⟩,.bool false],[Iv 0,Iv 0,Iv 0,.sl 0 none 0 (some 0),.str ⟨⟨[]⟩⟩,.bool false],[Iv 0,Iv 0,Iv 0,.sl 0 none 0 (some 0),.str ⟨⟨[]⟩⟩,.bool false]]])))=some r) :
  Ad lo 309 [] h=some r :=
 eK Tryz.func309 hk
def AM lo a0 n0 c0 a1 n1 c1 b4 xA xB h:=
 LA 310 Tryz.f310 221311 0 111 lo ⟨[(0,.sl 2 a0 n0 c0),(1,.sl 2 a1 n1 c1),(4,.bool b4),(12,Iv xA),(13,Iv xB)],[],h⟩
theorem Gn {lo n0 n1:Nat}{a0 a1:Pq}{c0 c1:Nq}{h h':Heap}{v:V} (hk:(br ((n0:Int)==(n1:Int)) (AM h.length a0 n0 c0 a1 n1 c1 false ((n0:Int)) 0 h) (some (.bool false,h)))=some (v,h')) (hn:noId v=true:=by rfl) :
  Ad lo 310 [.sl 2 a0 n0 c0,.sl 2 a1 n1 c1] h=some (v,h) :=
 eD Tryz.func310 hk hn
theorem AM.e {lo n0 n1:Nat}{a0 a1:Pq}{c0 c1:Nq}{b4:Bool}{xA xB:Int}{h:Heap} :
  AM lo a0 n0 c0 a1 n1 c1 b4 xA xB h=br (decide (xB<xA)) (Ao xB n0 (eO a0 fun v=>eO (ld h v.1 (v.2+xB.toNat) 0 2) fun v=>eC v fun v l=>eI .i64 v fun v=>eC l fun l c=>eI .i64 l fun l=>eN c (Ao xB n1 (eO a1 fun c=>eO (ld h c.1 (c.2+xB.toNat) 0 2) fun c=>eC c fun c n=>eI .i64 c fun c=>eC n fun n a=>eI .i64 n fun n=>eN a (br ((v==c)&&((l==n)&&true)) (AM lo a0 n0 c0 a1 n1 c1 b4 xA (IntKind.wrap .i64 (xB+1)) h) (some (.bool false,h))))))) (some (.bool true,h)) :=
 lE
def A1 lo a0 n0 c0 q1 a1 n1 c1 b4 xA xB h:=
 LA 310 Tryz.f310 221311 0 111 lo ⟨[(0,.sl 2 a0 n0 c0),(1,.sl q1 a1 n1 c1),(4,.bool b4),(12,Iv xA),(13,Iv xB)],[],h⟩
theorem Fy {lo n0:Nat}{a0:Pq}{c0:Nq}{h h':Heap}{v:V} (hk:(br ((n0:Int)==((0:Nat):Int)) (A1 h.length a0 n0 c0 0 none 0 (some 0) false ((n0:Int)) 0 h) (some (.bool false,h)))=some (v,h')) (hn:noId v=true:=by rfl) :
  Ad lo 310 [.sl 2 a0 n0 c0,.sl 0 none 0 (some 0)] h=some (v,h) :=
 eD Tryz.func310 hk hn
theorem A1.e {lo n0 q1 n1:Nat}{a0 a1:Pq}{c0 c1:Nq}{b4:Bool}{xA xB:Int}{h:Heap} :
  A1 lo a0 n0 c0 q1 a1 n1 c1 b4 xA xB h=br (decide (xB<xA)) (Ao xB n0 (eO a0 fun v=>eO (ld h v.1 (v.2+xB.toNat) 0 2) fun v=>eC v fun v l=>eI .i64 v fun v=>eC l fun l c=>eI .i64 l fun l=>eN c (Ao xB n1 (eO a1 fun c=>Bq ((q1.beq (2:Nat))&&true) (eO (ld h c.1 (c.2+xB.toNat) 0 2) fun c=>eC c fun c n=>eI .i64 c fun c=>eC n fun n a=>eI .i64 n fun n=>eN a (br ((v==c)&&((l==n)&&true)) (A1 lo a0 n0 c0 q1 a1 n1 c1 b4 xA (IntKind.wrap .i64 (xB+1)) h) (some (.bool false,h)))))))) (some (.bool true,h)) :=
 lE
def A9 lo a0 n0 c0 x1 x2 g3 l3 x8 h:=
 Lp (X 311) lo (pf 221 Tryz.f311) 0 (AU 0 (Ip (X 311) Tryz.f311.results.toList)) ⟨[(0,.sl 6 a0 n0 c0),(1,Iv x1),(2,Iv x2),(3,.fn g3 l3),(8,Iv x8)],[],h⟩
def A8 lo a0 n0 c0 x1 x2 g3 l3 x8 x9 h:=
 Lp (X 311) lo (pf 221231221 Tryz.f311) 2 (AU 2 (AU 1 (kS (X 311) lo (pf 11221 Tryz.f311) 0 (Tz (X 311) lo (pf 221 Tryz.f311) 0 (AU 0 (Ip (X 311) Tryz.f311.results.toList)))))) ⟨[(0,.sl 6 a0 n0 c0),(1,Iv x1),(2,Iv x2),(3,.fn g3 l3),(8,Iv x8),(9,Iv x9)],[],h⟩
theorem A9.e {lo n0 g3:Nat}{a0:Pq}{c0:Nq}{x1 x2 x8:Int}{l3:List V}{h:Heap} :
  A9 lo a0 n0 c0 x1 x2 g3 l3 x8 h=br (decide (x8<x2)) (A8 lo a0 n0 c0 x1 x2 g3 l3 x8 x8 h) (some (.tup [],h)) :=
 lE
theorem A8.e {lo n0 g3:Nat}{a0:Pq}{c0:Nq}{x1 x2 x8 x9:Int}{l3:List V}{h:Heap} :
  A8 lo a0 n0 c0 x1 x2 g3 l3 x8 x9 h=br (decide (x9>x1)) (Ao x9 n0 (eO a0 fun v=>eO (ld h v.1 (v.2+x9.toNat) 0 6) fun v=>eC v fun v l=>eI .i64 v fun v=>eC l fun l c=>eI .i64 l fun l=>eC c fun c n=>eI .i64 c fun c=>eC n fun n a=>eS 2 n fun n o s=>eC a fun a b=>eT a fun a=>eC b fun b x=>eBv b fun b=>eN x (Ao (IntKind.wrap .i64 (x9 - 1)) n0 (eO a0 fun x=>eO (ld h x.1 (x.2+((IntKind.i64.wrap (x9 - (1:Int))).toNat)) 0 6) fun x=>eC x fun x y=>eI .i64 x fun x=>eC y fun y z=>eI .i64 y fun y=>eC z fun z u=>eI .i64 z fun z=>eC u fun u w=>eS 2 u fun u p q=>eC w fun w g=>eT w fun w=>eC g fun g i=>eBv g fun g=>eN i (Ai (Ad lo g3 (Di [.agg [Iv v,Iv l,Iv c,.sl 2 n o s,.str a,.bool b],.agg [Iv x,Iv y,Iv z,.sl 2 u p q,.str w,.bool g]] l3) h) fun v l=>eI .i64 v fun v=>br (decide (v<0)) (Ao (IntKind.wrap .i64 (x9 - 1)) n0 (eO a0 fun v=>eO (ld l v.1 (v.2+((IntKind.i64.wrap (x9 - (1:Int))).toNat)) 0 6) fun v=>eC v fun v c=>eI .i64 v fun v=>eC c fun c n=>eI .i64 c fun c=>eC n fun n a=>eI .i64 n fun n=>eC a fun a o=>eS 2 a fun a s b=>eC o fun o x=>eT o fun o=>eC x fun x y=>eBv x fun x=>eN y (Ao x9 n0 (eO a0 fun y=>eO (ld l y.1 (y.2+x9.toNat) 0 6) fun y=>eC y fun y z=>eI .i64 y fun y=>eC z fun z u=>eI .i64 z fun z=>eC u fun u w=>eI .i64 u fun u=>eC w fun w p=>eS 2 w fun w q g=>eC p fun p i=>eT p fun p=>eC i fun i j=>eBv i fun i=>eN j (Ao x9 n0 (eO a0 fun j=>eO (st lo l j.1 (j.2+x9.toNat) 0 [Iv v,Iv c,Iv n,.sl 2 a s b,.str o,.bool x]) fun v=>Ao (IntKind.wrap .i64 (x9 - 1)) n0 (eO a0 fun c=>eO (st lo v c.1 (c.2+((IntKind.i64.wrap (x9 - (1:Int))).toNat)) 0 [Iv y,Iv z,Iv u,.sl 2 w q g,.str p,.bool i]) fun v=>A8 lo a0 n0 c0 x1 x2 g3 l3 x8 (IntKind.wrap .i64 (x9 - 1)) v))))))) (A9 lo a0 n0 c0 x1 x2 g3 l3 (IntKind.wrap .i64 (x8+1)) l)))))) (A9 lo a0 n0 c0 x1 x2 g3 l3 (IntKind.wrap .i64 (x8+1)) h) :=
 lE
def AA lo a0 n0 c0 g1 l1 x4 x7 x8 h:=
 LA 321 Tryz.f321 22131 0 11 lo ⟨[(0,.sl 2 a0 n0 c0),(1,.fn g1 l1),(4,Iv x4),(7,Iv x7),(8,Iv x8)],[],h⟩
theorem EC {lo n0 g1:Nat}{a0:Pq}{c0:Nq}{l1:List V}{h h':Heap}{v:V} (hk:(AA h.length a0 n0 c0 g1 l1 0 ((n0:Int)) 0 h)=some (v,h')) (hn:noId v=true:=by rfl) :
  Ad lo 321 [.sl 2 a0 n0 c0,.fn g1 l1] h=some (v,h) :=
 eD Tryz.func321 hk hn
theorem AA.e {lo n0 g1:Nat}{a0:Pq}{c0:Nq}{l1:List V}{x4 x7 x8:Int}{h:Heap} :
  AA lo a0 n0 c0 g1 l1 x4 x7 x8 h=br (decide (x8<x7)) (Ao x8 n0 (eO a0 fun v=>eO (ld h v.1 (v.2+x8.toNat) 0 2) fun v=>eC v fun v l=>eS 6 v fun v c n=>eC l fun l a=>eS 6 l fun l o s=>eN a (Ai (Ad lo g1 (Di [.agg [.sl 6 v c n,.sl 6 l o s]] l1) h) fun v l=>eB v (some (Iv x8,l)) (AA lo a0 n0 c0 g1 l1 x4 x7 (IntKind.wrap .i64 (x8+1)) l)))) (some (Iv (-1),h)) :=
 lE
def GU lo a0 n0 c0 x1 x4 x5 h:=
 LA 322 Tryz.f322 2213111 0 1111 lo ⟨[(0,.sl 2 a0 n0 c0),(1,Iv x1),(4,Iv x4),(5,Iv x5)],[],h⟩
theorem GU.e {lo n0:Nat}{a0:Pq}{c0:Nq}{x1 x4 x5:Int}{h:Heap} :
  GU lo a0 n0 c0 x1 x4 x5 h=br (decide (x5<(n0:Int))) (Ao x5 n0 (eO a0 fun v=>eO (ld h v.1 (v.2+x5.toNat) 0 2) fun v=>eC v fun v l=>eS 6 v fun v c n=>eC l fun l a=>eS 6 l fun l o s=>eN a (Ai (Ad lo 343 [.agg [.sl 6 v c n,.sl 6 l o s],Iv x1] h) fun v l=>eI .i64 v fun v=>br (decide (v<0)) (some (Iv (-1),l)) (GU lo a0 n0 c0 v x4 (IntKind.wrap .i64 (x5+1)) l)))) (some (Iv x1,h)) :=
 lE
theorem Tl {lo n0:Nat}{x0 xA xB:Int}{a0:Pq}{c0:Nq}{s0:ByteArray}{b0:Bool}{h h':Heap}{v:V} (hk:(My ⟨⟨[61]⟩⟩ s0 fun l=>br b0 (Ai (Ad h.length 344 [Iv x0] h) fun c n=>eT c fun c=>My c ⟨⟨[32]⟩⟩ fun c=>Ai (Ad h.length 345 [.agg [Iv xA,Iv xB]] n) fun n a=>eT n fun n=>My c n fun c=>Ai (Ad h.length 346 [.agg [.sl 2 a0 n0 c0]] a) fun n a=>eT n fun n=>My c n fun c=>My c ⟨⟨[32]⟩⟩ fun c=>My c ⟨⟨[45]⟩⟩ fun c=>some (.str c,a)) (Ai (Ad h.length 344 [Iv x0] h) fun c n=>eT c fun c=>My c ⟨⟨[32]⟩⟩ fun c=>Ai (Ad h.length 345 [.agg [Iv xA,Iv xB]] n) fun n a=>eT n fun n=>My c n fun c=>Ai (Ad h.length 346 [.agg [.sl 2 a0 n0 c0]] a) fun n a=>eT n fun n=>My c n fun c=>My c ⟨⟨[32]⟩⟩ fun c=>My c l fun l=>some (.str l,a)))=some (v,h')) (hn:noId v=true:=by rfl) :
  Ad lo 324 [.agg [Iv x0,Iv xA,Iv xB,.sl 2 a0 n0 c0,.str s0,.bool b0]] h=some (v,h) :=
 by cases b0<;>exact eD Tryz.func324 hk hn
theorem QW {lo n0 nA nB nC:Nat}{a0 aA aB aC:Pq}{c0 cA cB cC:Nq}{x1 x2 x3 x4 xA:Int}{h:Heap}{r:V×Heap} (hk:(Av 5 (h ++ [.rows 5 174 false [[Iv x1,Iv x2,Iv x3,Iv x4,Iv xA]]]) (.sl 5 (some (h.length,0)) 1 (some 1)) fun v=>Dd lo 174 5 40 (.sl 5 aC nC cC) v (h ++ [.rows 5 174 false [[Iv x1,Iv x2,Iv x3,Iv x4,Iv xA]]]) fun v l=>eS 5 v fun v c n=>some (.agg [.sl 6 a0 n0 c0,.sl 5 aA nA cA,.sl 9 aB nB cB,.sl 5 v c n],l))=some r) :
  Ad lo 325 [.agg [.sl 6 a0 n0 c0,.sl 5 aA nA cA,.sl 9 aB nB cB,.sl 5 aC nC cC],Iv x1,Iv x2,Iv x3,.agg [Iv x4,Iv xA]] h=some r :=
 eK Tryz.func325 hk
theorem Rm {lo n0:Nat}{a0:Pq}{c0:Nq}{x1 x2 xA:Int}{h:Heap}{r:V×Heap} (hk:(Av 2 (h ++ [.rows 2 29 false []]) (.sl 2 a0 n0 c0) fun v=>Dd lo 29 2 16 (.sl 2 (some (h.length,0)) 0 (some 0)) v (h ++ [.rows 2 29 false []]) fun v l=>eS 2 v fun v c n=>Ao x1 c (eO v fun a=>eO (ld l a.1 (a.2+x1.toNat) 0 2) fun a=>eC a fun a o=>eI .i64 a fun a=>eC o fun o s=>eI .i64 o fun o=>eN s (Ai (Ad lo 347 [.agg [Iv a,Iv o],.agg [Iv x2,Iv xA]] l) fun l a=>eA l fun l=>eC l fun l o=>eI .i64 l fun l=>eC o fun o s=>eI .i64 o fun o=>eN s (Ao x1 c (eO v fun s=>eO (st lo a s.1 (s.2+x1.toNat) 0 [Iv l,Iv o]) fun l=>some (.agg [.sl 2 v c n],l))))))=some r) :
  Ad lo 326 [.agg [.sl 2 a0 n0 c0],Iv x1,.agg [Iv x2,Iv xA]] h=some r :=
 eK Tryz.func326 hk
def CW lo x6 aA nA cA aB nB cB nC aC nD cC nE aD nF cD h:=
 LA 327 Tryz.f327 221311 0 111 lo ⟨[(2,.lp 2 0),(3,.lp 3 0),(4,.lp 4 0),(5,.lp 5 0),(6,Iv x6)],[(2,[.sl 2 aA nA cA]),(3,[.sl 2 aB nB cB]),(4,[.sl nC aC nD cC]),(5,[.sl nE aD nF cD])],h⟩
theorem Rp {lo n0 n1:Nat}{a0 a1:Pq}{c0 c1:Nq}{h:Heap}{r:V×Heap} (hk:(CW lo 0 a0 n0 c0 a1 n1 c1 0 none 0 (some 0) 0 none 0 (some 0) h)=some r) :
  Ad lo 327 [.agg [.sl 2 a0 n0 c0],.agg [.sl 2 a1 n1 c1]] h=some r :=
 eK Tryz.func327 hk
theorem CW.e {lo nA nB nC nD nE nF:Nat}{x6:Int}{aA aB aC aD:Pq}{cA cB cC cD:Nq}{h:Heap} :
  CW lo x6 aA nA cA aB nB cB nC aC nD cC nE aD nF cD h=br (decide (x6<4)) (Ao x6 nA (eO aA fun v=>eO (ld h v.1 (v.2+x6.toNat) 0 2) fun v=>eC v fun v l=>eI .i64 v fun v=>eC l fun l c=>eI .i64 l fun l=>eN c (Ao x6 nB (eO aB fun c=>eO (ld h c.1 (c.2+x6.toNat) 0 2) fun c=>eC c fun c n=>eI .i64 c fun c=>eC n fun n a=>eI .i64 n fun n=>eN a (Ai (Ad lo 347 [.agg [Iv v,Iv l],.agg [Iv c,Iv n]] h) fun v l=>eA v fun v=>eC v fun v c=>eI .i64 v fun v=>eC c fun c n=>eI .i64 c fun c=>eN n (Av 2 (l ++ [.rows 2 29 false [[Iv v,Iv c]]]) (.sl 2 (some (l.length,0)) 1 (some 1)) fun n=>Dd lo 29 2 16 (.sl nE aD nF cD) n (l ++ [.rows 2 29 false [[Iv v,Iv c]]]) fun v l=>eS 2 v fun v c n=>CW lo (IntKind.wrap .i64 (x6+1)) aA nA cA aB nB cB nC aC nD cC 2 v c n l)))))) (some (.agg [.sl nE aD nF cD],h)) :=
 lE
def GQ lo a0 n0 c0 a3 n3 c3 x4 h:=
 LA 328 Tryz.f328 221311 0 111 lo ⟨[(0,.sl 2 a0 n0 c0),(3,.sl 2 a3 n3 c3),(4,Iv x4)],[],h⟩
theorem GQ.e {lo n0 n3:Nat}{a0 a3:Pq}{c0 c3:Nq}{x4:Int}{h:Heap} :
  GQ lo a0 n0 c0 a3 n3 c3 x4 h=br (decide (x4<(n0:Int))) (Ao x4 n0 (eO a0 fun v=>eO (ld h v.1 (v.2+x4.toNat) 0 2) fun v=>eC v fun v l=>eS 6 v fun v c n=>eC l fun l a=>eS 6 l fun l o s=>eN a (Ai (Ad lo 348 [.agg [.sl 6 v c n,.sl 6 l o s]] h) fun v l=>eA v fun v=>eC v fun v c=>eS 6 v fun v n a=>eC c fun c o=>eS 6 c fun c s b=>eN o (Ao x4 n3 (eO a3 fun o=>eO (st lo l o.1 (o.2+x4.toNat) 0 [.sl 6 v n a,.sl 6 c s b]) fun v=>GQ lo a0 n0 c0 a3 n3 c3 (IntKind.wrap .i64 (x4+1)) v))))) (some (.sl 2 a3 n3 c3,h)) :=
 lE
def Hx lo a0 n0 c0 a3 n3 c3 x4 h:=
 LA 329 Tryz.f329 221311 0 111 lo ⟨[(0,.sl 2 a0 n0 c0),(3,.sl 2 a3 n3 c3),(4,Iv x4)],[],h⟩
theorem Hx.e {lo n0 n3:Nat}{a0 a3:Pq}{c0 c3:Nq}{x4:Int}{h:Heap} :
  Hx lo a0 n0 c0 a3 n3 c3 x4 h=br (decide (x4<(n0:Int))) (Ao x4 n0 (eO a0 fun v=>eO (ld h v.1 (v.2+x4.toNat) 0 2) fun v=>eC v fun v l=>eI .i64 v fun v=>eC l fun l c=>eI .i64 l fun l=>eN c (Ai (Ad lo 284 [.agg [Iv v,Iv l]] h) fun v l=>eA v fun v=>eC v fun v c=>eI .i64 v fun v=>eC c fun c n=>eI .i64 c fun c=>eN n (Ao x4 n3 (eO a3 fun n=>eO (st lo l n.1 (n.2+x4.toNat) 0 [Iv v,Iv c]) fun v=>Hx lo a0 n0 c0 a3 n3 c3 (IntKind.wrap .i64 (x4+1)) v))))) (some (.sl 2 a3 n3 c3,h)) :=
 lE
def Bu lo a0 n0 c0 g1 l1 x4 x7 x8 h:=
 LA 330 Tryz.f330 22131 0 11 lo ⟨[(0,.sl 5 a0 n0 c0),(1,.fn g1 l1),(4,Iv x4),(7,Iv x7),(8,Iv x8)],[],h⟩
theorem Bu.e {lo n0 g1:Nat}{a0:Pq}{c0:Nq}{l1:List V}{x4 x7 x8:Int}{h:Heap} :
  Bu lo a0 n0 c0 g1 l1 x4 x7 x8 h=br (decide (x8<x7)) (Ao x8 n0 (eO a0 fun v=>eO (ld h v.1 (v.2+x8.toNat) 0 5) fun v=>eC v fun v l=>eI .i64 v fun v=>eC l fun l c=>eI .i64 l fun l=>eC c fun c n=>eI .i64 c fun c=>eC n fun n a=>eI .i64 n fun n=>eC a fun a o=>eI .i64 a fun a=>eN o (Ai (Ad lo g1 (Di [.agg [Iv v,Iv l,Iv c,Iv n,Iv a]] l1) h) fun v l=>eB v (some (Iv x8,l)) (Bu lo a0 n0 c0 g1 l1 x4 x7 (IntKind.wrap .i64 (x8+1)) l)))) (some (Iv (-1),h)) :=
 lE
def Fv lo aA nA cA xA xB nB aB nC cB aC nD cC h:=
 LA 334 Tryz.f334 221311 0 111 lo ⟨[(4,.lp 4 0),(5,.lp 5 0),(11,.sl 2 aA nA cA),(12,Iv xA),(13,Iv xB)],[(4,[.sl nB aB nC cB]),(5,[.sl 2 aC nD cC])],h⟩
theorem Fv.e {lo nA nB nC nD:Nat}{aA aB aC:Pq}{cA cB cC:Nq}{xA xB:Int}{h:Heap} :
  Fv lo aA nA cA xA xB nB aB nC cB aC nD cC h=br (decide (xB<xA)) (Ao xB nA (eO aA fun v=>eO (ld h v.1 (v.2+xB.toNat) 0 2) fun v=>eC v fun v l=>eI .i64 v fun v=>eC l fun l c=>eI .i64 l fun l=>eN c (Ao xB nD (eO aC fun c=>eO (ld h c.1 (c.2+xB.toNat) 0 2) fun c=>eC c fun c n=>eI .i64 c fun c=>eC n fun n a=>eI .i64 n fun n=>eN a (Ai (Ad lo 349 [.agg [Iv c,Iv n],.agg [Iv v,Iv l]] h) fun v l=>eA v fun v=>eC v fun v c=>eI .i64 v fun v=>eC c fun c n=>eI .i64 c fun c=>eN n (Ao xB nD (eO aC fun n=>eO (st lo l n.1 (n.2+xB.toNat) 0 [Iv v,Iv c]) fun v=>Fv lo aA nA cA xA (IntKind.wrap .i64 (xB+1)) nB aB nC cB aC nD cC v))))))) (some (.agg [.sl 2 aC nD cC],h)) :=
 lE
def GX lo a0 n0 c0 a1 n1 c1 b4 x5 h:=
 LA 335 Tryz.f335 221311 0 111 lo ⟨[(0,.sl 2 a0 n0 c0),(1,.sl 2 a1 n1 c1),(4,.bool b4),(5,Iv x5)],[],h⟩
theorem GX.e {lo n0 n1:Nat}{a0 a1:Pq}{c0 c1:Nq}{b4:Bool}{x5:Int}{h:Heap} :
  GX lo a0 n0 c0 a1 n1 c1 b4 x5 h=br (decide (x5<(n0:Int))) (Ao x5 n0 (eO a0 fun v=>eO (ld h v.1 (v.2+x5.toNat) 0 2) fun v=>eC v fun v l=>eS 6 v fun v c n=>eC l fun l a=>eS 6 l fun l o s=>eN a (Ao x5 n1 (eO a1 fun a=>eO (ld h a.1 (a.2+x5.toNat) 0 2) fun a=>eC a fun a b=>eS 6 a fun a x y=>eC b fun b z=>eS 6 b fun b u w=>eN z (Ai (Ad lo 350 [.agg [.sl 6 v c n,.sl 6 l o s],.agg [.sl 6 a x y,.sl 6 b u w]] h) fun v l=>eB v (GX lo a0 n0 c0 a1 n1 c1 b4 (IntKind.wrap .i64 (x5+1)) l) (some (.bool false,l))))))) (some (.bool true,h)) :=
 lE
def HA lo a0 n0 c0 a1 n1 c1 b4 x5 h:=
 LA 336 Tryz.f336 221311 0 111 lo ⟨[(0,.sl 2 a0 n0 c0),(1,.sl 2 a1 n1 c1),(4,.bool b4),(5,Iv x5)],[],h⟩
theorem HA.e {lo n0 n1:Nat}{a0 a1:Pq}{c0 c1:Nq}{b4:Bool}{x5:Int}{h:Heap} :
  HA lo a0 n0 c0 a1 n1 c1 b4 x5 h=br (decide (x5<(n0:Int))) (Ao x5 n0 (eO a0 fun v=>eO (ld h v.1 (v.2+x5.toNat) 0 2) fun v=>eC v fun v l=>eI .i64 v fun v=>eC l fun l c=>eI .i64 l fun l=>eN c (Ao x5 n1 (eO a1 fun c=>eO (ld h c.1 (c.2+x5.toNat) 0 2) fun c=>eC c fun c n=>eI .i64 c fun c=>eC n fun n a=>eI .i64 n fun n=>eN a (Ai (Ad lo 304 [.agg [Iv v,Iv l],.agg [Iv c,Iv n]] h) fun v l=>eB v (HA lo a0 n0 c0 a1 n1 c1 b4 (IntKind.wrap .i64 (x5+1)) l) (some (.bool false,l))))))) (some (.bool true,h)) :=
 lE
theorem MD {lo:Nat}{x0:Int}{h h':Heap}{v:V} (hk:(br (decide (x0<(-9223372036854775807:Int))) (some (.str ⟨⟨[45,57,50,50,51,51,55,50,48,51,54,56,53,52,55,55,53,56,48,56]⟩⟩,h)) (br (decide (x0<0)) (Ai (Ad h.length 344 [Iv (IntKind.wrap .i64 (0 - x0))] h) fun l c=>eT l fun l=>My ⟨⟨[45]⟩⟩ l fun l=>some (.str l,c)) (br (decide (x0<10)) (Av 1 (h ++ [.rows 1 5 false [[.int .u8 (IntKind.wrap .u8 (IntKind.wrap .i64 (48+x0)))]]]) (.sl 1 (some (h.length,0)) 1 (some 1)) fun l=>eO (EZ l) fun l=>some (.str (JC l),(h ++ [.rows 1 5 false [[.int .u8 (IntKind.wrap .u8 (IntKind.wrap .i64 (48+x0)))]]]))) (Ai (Ad h.length 344 [Iv (IntKind.wrap .i64 (x0.tdiv (10:Int)))] h) fun l c=>eT l fun l=>Av 1 (c ++ [.rows 1 5 false [[.int .u8 (IntKind.wrap .u8 (IntKind.wrap .i64 (48+(x0.tmod (10:Int)))))]]]) (.sl 1 (some (c.length,0)) 1 (some 1)) fun n=>eO (EZ n) fun n=>My l (JC n) fun l=>some (.str l,(c ++ [.rows 1 5 false [[.int .u8 (IntKind.wrap .u8 (IntKind.wrap .i64 (48+(x0.tmod (10:Int)))))]]]))))))=some (v,h')) (hn:noId v=true:=by rfl) :
  Ad lo 344 [Iv x0] h=some (v,h) :=
 eD Tryz.func344 hk hn
theorem To {lo:Nat}{x0 xA:Int}{h h':Heap}{v:V} (hk:(Ai (Ad h.length 344 [Iv x0] h) fun l c=>eT l fun l=>My l ⟨⟨[46]⟩⟩ fun l=>Ai (Ad h.length 344 [Iv xA] c) fun c n=>eT c fun c=>My l c fun l=>some (.str l,n))=some (v,h')) (hn:noId v=true:=by rfl) :
  Ad lo 345 [.agg [Iv x0,Iv xA]] h=some (v,h) :=
 eD Tryz.func345 hk hn
def CV lo s3 x4 aA nA cA h:=
 LA 346 Tryz.f346 221311 0 111 lo ⟨[(1,.lp 1 0),(3,.str s3),(4,Iv x4)],[(1,[.sl 2 aA nA cA])],h⟩
theorem Ri {lo n0:Nat}{a0:Pq}{c0:Nq}{h h':Heap}{v:V} (hk:(CV h.length ⟨⟨[]⟩⟩ 0 a0 n0 c0 h)=some (v,h')) (hn:noId v=true:=by rfl) :
  Ad lo 346 [.agg [.sl 2 a0 n0 c0]] h=some (v,h) :=
 eD Tryz.func346 hk hn
theorem CV.e {lo nA:Nat}{s3:ByteArray}{x4:Int}{aA:Pq}{cA:Nq}{h:Heap} :
  CV lo s3 x4 aA nA cA h=br (decide (x4<(nA:Int))) (My s3 ⟨⟨[32]⟩⟩ fun v=>Ao x4 nA (eO aA fun l=>eO (ld h l.1 (l.2+x4.toNat) 0 2) fun l=>eC l fun l c=>eI .i64 l fun l=>eC c fun c n=>eI .i64 c fun c=>eN n (Ai (Ad lo 345 [.agg [Iv l,Iv c]] h) fun l c=>eT l fun l=>My v l fun v=>CV lo v (IntKind.wrap .i64 (x4+1)) aA nA cA c))) (some (.str s3,h)) :=
 lE
theorem Tp {lo:Nat}{x0 xA x1 xB:Int}{h h':Heap}{v:V} (hk:(Ai (Ad h.length 255 [.agg [Iv x0,Iv xA],.agg [Iv x1,Iv xB]] h) fun l c=>eB l (some (.agg [Iv x1,Iv xB],c)) (some (.agg [Iv x0,Iv xA],c)))=some (v,h')) (hn:noId v=true:=by rfl) :
  Ad lo 347 [.agg [Iv x0,Iv xA],.agg [Iv x1,Iv xB]] h=some (v,h) :=
 eD Tryz.func347 hk hn
end


structure Tag where
 time:Int
 place:Int
 deriving DecidableEq
def Tag.cs (t:Tag):List V := [Iv t.time,Iv t.place]
def Am (n a b:Int):Bool:=decide (a≤n)&&decide (n≤b)
def A2 (t:Int) (p:Int):Bool:=(t==0&&p==0) || (Am t 1 999&&Am p 0 2)
def Gp (t p t' p':Int):Bool:=decide (t<t') || (t==t'&&decide (p<p'))
section
variable {lo:Nat}{h:Heap}{a b c d e:Int}
theorem FC:Ad lo 87 [Iv a,Iv b,Iv c] h=some (.bool (Am a b c),h) :=
 Rs (h':=h) (by simp[Am])
theorem Bf:Ad lo 71 [Iv a,Iv b,Iv c] h=some (.bool (Am a b c),h) :=
 UY (h':=h) (by simp[Am])
theorem Jw:Ad lo 86 [Iv a] h=some (.bool (Am a 0 2),h):=QA (h':=h) (by simp[FC])
theorem VE:Ad lo 160 [Iv a] h=some (.bool (Am a 0 3),h):=Ts (h':=h) (by simp[FC])
theorem PV:Ad lo 196 [.agg [Iv a,Iv b]] h=some (.bool (A2 a b),h) :=
 Tu (h':=h) (by simp[FC,Jw,A2])
theorem L0:Ad lo 179 [.agg [Iv a,Iv b]] h=some (.bool (A2 a b),h) :=
 Qv (h':=h) (by simp[Bf,A2])
theorem Bz:Ad lo 255 [.agg [Iv a,Iv b],.agg [Iv c,Iv d]] h=some (.bool (Gp a b c d),h) :=
 Ro (h':=h) (by simp[Gp])
theorem U3 {t p:Int} (h:A2 t p=true):(!(t==0&&p==0))=decide (t>0):=by rw[zcg];simp[A2,Am] at h ⊢;omega
def B5 {α:Type} (p:α→Bool):List α→Nat→Int
 | [],_ => -1
 | x :: r,k=>bif p x then (k:Int) else B5 p r (k+1)
theorem IG {α:Type}{p:α→Bool}:∀ {l:List α}{k:Nat},decide (B5 p l k≥0)=l.any p
 | [],k=>by simp[B5]
 | x :: r,k=>by
  simp only[B5,List.any_cons];by_cases h:p x=true
  ·simp[h]
  ·simpa [h] using IG (p:=p) (l:=r) (k:=k+1)
def Qh (a b:Int):Int:=if a<b then -1 else if b<a then 1 else 0
theorem XO:Ad lo 258 [Iv a] h=some (.bool false,h):=OQ (h':=h) (by simp)
theorem UI:Ad lo 166 [Iv a,Iv b] h=some (Iv (Qh a b),h) :=
 MR (h':=h) (by
  simp only[XO,Ac,As,Au];unfold Qh;by_cases h1:a<b
  ·rw[Ak h1,if_pos h1]
  ·rw[Aj h1,if_neg h1];by_cases h2:b<a
   ·rw[Ak h2,if_pos h2]
   ·rw[Aj h2,if_neg h2])
theorem VX:Ad lo 165 [.sl 1 (some (h.length,0)) 2 (some 2)] (h ++ [.rows 1 3 false [[Iv a],[Iv b]]])=some (Iv (if a=0 then b else a),h ++ [.rows 1 3 false [[Iv a],[Iv b]]]) :=
 Tv (h':=h ++ [.rows 1 3 false [[Iv a],[Iv b]]]) (by
  rw[Dn.e,Ak (by decide),BI (by decide)];simp only[Ag];rw[SE (row := [Iv a]) (by rfl)];simp only[cut,Ag,Aa,Af,Ab];by_cases h1:a=0
  ·subst h1;rw[if_pos rfl,show ((0:Int)==0)=true from rfl,Al,show IntKind.i64.wrap (0+1)=((1:Nat):Int) from Ar (k:=0) (by decide),Dn.e,Ak (by decide),BI (by decide)];simp only[Ag];rw[SE (row := [Iv b]) (by rfl)];simp only[cut,Ag,Aa,Af,Ab];by_cases h2:b=0
   ·subst h2;rw[show ((0:Int)==0)=true from rfl,Al,show IntKind.i64.wrap (((1:Nat):Int)+1)=((2:Nat):Int) from Ar (k:=1) (by decide),Dn.e,Aj (by decide)]
   ·rw[show (b==0)=false by simpa using h2,Au]
  ·rw[if_neg h1,show (a==0)=false by simpa using h1,Au])
theorem SI:Ad lo 73 [.agg [Iv a,Iv b],.agg [Iv c,Iv d]] h=some (Iv (if Qh a c=0 then Qh b d else Qh a c),h) :=
 LH (h':=h ++ [.rows 1 3 false [[Iv (Qh a c)],[Iv (Qh b d)]]]) (by
  simp only[UI,Ac,Ab,VX])
theorem Y2:decide ((if Qh a c=0 then Qh b d else Qh a c)<0)=Gp a b c d:=by
 unfold Qh Gp;by_cases h1:a<c
 ·simp[h1]
 ·by_cases h2:c<a
  ·simp[h1,h2];omega
  ·have:a=c:=by omega
   subst this;by_cases h3:b<d
   ·simp[h3]
   ·simp[h3];split<;>simp
theorem HK:Ad lo 19 [.agg [Iv a,Iv b],.agg [Iv c,Iv d]] h=some (.bool (Gp a b c d),h) :=
 QC (h':=h) (by simp only[SI,Ac,Ab,O3,Y2];simp)
end
end Go.Proofs.YtoihoaaiadagaaaGreat
namespace Go.Proofs.YtoihoaaiadagaaaGreat.T
open Go
variable {h:Heap}{b n:Nat}
def Yz (P:Program) (g:TypeId→Bool):List Field→Nat→Nat→Bool
 | [],off,n=>Nat.beq off n
 | f :: fs,off,n=>match Nat.beq f.offset off&&g f.type with
  | true=>Yz P g fs (off+P.cellsOf f.type) n
  | false=>false
def Or (P:Program):Nat→TypeId→Bool
 | 0,_=>false
 | n+1,t=>match P.underlying t with
  | some .bool=>Nat.beq (P.cellsOf t) 1
  | some (.int _)=>Nat.beq (P.cellsOf t) 1
  | some .string=>Nat.beq (P.cellsOf t) 1
  | some (.slice e)=>Nat.beq (P.cellsOf t) 1&&Nat.blt 0 (P.cellsOf e)&&Or P n e
  | some (.struct fs)=>Yz P (Or P n) fs.toList 0 (P.cellsOf t)
  | _=>false
def TVs (P:Program) (g:TypeId→List V→Prop):List Field→List V→Prop
 | [],xs=>xs = []
 | f :: fs,xs=>∃ ys zs,xs=ys++zs∧ys.length=P.cellsOf f.type∧g f.type ys∧TVs P g fs zs
def TV (P:Program) (h:Heap):Nat→TypeId→List V→Prop
 | 0,_,_=>False
 | n+1,t,xs=>match P.underlying t with
  | some .bool=>∃ b,xs = [.bool b]
  | some (.int k)=>∃ i,xs = [.int k i]∧(Lit.int k i).wf=true
  | some .string=>∃ s,xs = [.str s]∧s.size≤maxLen
  | some (.slice e)=>∃ a c rs,xs = [.sl (P.cellsOf e) a rs.length c]∧(rs.length≤maxLen∧∀ k,c=some k→rs.length≤k)∧(∀ row∈rs,row.length=P.cellsOf e∧TV P h n e row) ∧
    (rs = []∨∃ b,a=some (b,0)∧Heap.rows? h b=some rs)
  | some (.struct fs)=>TVs P (TV P h n) fs.toList xs
  | _=>False
theorem Yd {h':Heap} (hp:h <+: h') {rs:List (List V)} (hb:Heap.rows? h b=some rs):Heap.rows? h' b=some rs:=by
 obtain ⟨t,rfl⟩:=hp;unfold Heap.rows? at hb ⊢;have hl:b<h.length:=by apply zcD;intro hle;rw[zbI hle] at hb;cases hb
 rw[zbe hl];exact hb
theorem TVs.imp {P:Program}{g g':TypeId→List V→Prop} (hg:∀ t xs,g t xs→g' t xs):∀ {fs:List Field}{xs:List V},TVs P g fs xs→TVs P g' fs xs
 | [],xs,h=>h
 | f :: fs,xs,⟨ys,zs,h1,h2,h3,h4⟩=>⟨ys,zs,h1,h2,hg _ _ h3,TVs.imp hg h4⟩
theorem TV.mono {P:Program}{h h':Heap} (hp:h <+: h'):∀ (n:Nat) (t:TypeId) (xs:List V),TV P h n t xs→TV P h' n t xs
 | 0,_,_,hx=>hx
 | n+1,t,xs,hx=>by
  simp only[TV] at hx ⊢;split at hx
  ·exact hx
  ·exact hx
  ·exact hx
  ·obtain ⟨a,c,rs,h1,h2,h3,h4⟩:=hx;exact ⟨a,c,rs,h1,h2,fun row hr=>⟨(h3 row hr).1,TV.mono hp n _ _ (h3 row hr).2⟩,h4.imp id fun ⟨b,h5,h6⟩=>⟨b,h5,Yd hp h6⟩⟩
  ·exact TVs.imp (fun t xs=>TV.mono hp n t xs) hx
  ·exact hx
theorem SN {xs ys:List V} (h1:C8 xs=true) (h2:C8 ys=true):C8 (xs++ys)=true:=by
 induction xs with
 | nil=>exact h2
 | cons x r ih =>
  simp only[zbK,C8] at h1 ⊢;split at h1
  ·exact ih h1
  ·cases h1
theorem TVs.firm {P:Program}{g:TypeId→List V→Prop} (hg:∀ t xs,g t xs→C8 xs=true):∀ {l:List Field}{xs:List V},TVs P g l xs→C8 xs=true
 | [],xs,h=>by simp only[TVs] at h;subst h;rfl
 | f :: l,xs,⟨ys,zs,e,_,h3,h4⟩=>by subst e;exact SN (hg _ _ h3) (TVs.firm hg h4)
theorem TV.firm {P:Program}{h:Heap}:∀ (n:Nat) (t:TypeId) (xs:List V),TV P h n t xs→C8 xs=true
 | 0,_,_,hx=>hx.elim
 | n+1,t,xs,hx=>by
  simp only[TV] at hx;split at hx
  ·obtain ⟨b,rfl⟩:=hx;rfl
  ·obtain ⟨i,rfl,_⟩:=hx;rfl
  ·obtain ⟨s,rfl,_⟩:=hx;rfl
  ·obtain ⟨a,c,rs,rfl,_⟩:=hx;rfl
  ·exact TVs.firm (fun t xs=>TV.firm n t xs) hx
  ·exact hx.elim
structure Imp (W:World) (ρ:Rho) (h:Heap):Prop where
 rel:HRel ρ h W
 ro:∀ b,b<h.length→BG h b∨PS h b
theorem VB {k:Blk} (hb:b<h.length) (hd:BG h b):BG (h ++ [k]) b:=by unfold BG at *;rw[zbe hb];exact hd
theorem Yx {k:Blk} (hb:b<h.length) (hd:PS h b):PS (h ++ [k]) b:=by obtain ⟨R,e,rs,h1⟩:=hd;exact ⟨R,e,rs,by rw[zbe hb];exact h1⟩
theorem Imp.lay {W:World}{ρ:Rho} (hi:Imp W ρ h) (k:Blk) (e:E) (hlt:e.r<W.heap.size) (hk:BR ρ e k W) (hro:k = .dead∨∃ R e rs,k = .rows R e true rs) :
  Imp W (ρ.set h.length e) (h ++ [k]):=by
 have hle:Rle ρ (ρ.set h.length e):=Rho.set_le hi.rel.fresh;have hnew:BG (h ++ [k]) h.length∨PS (h ++ [k]) h.length:=by
  rcases hro with rfl | ⟨R,t,rs,rfl⟩
  ·exact .inl (by simp[BG])
  ·exact .inr ⟨R,t,rs,by simp⟩
 have hall:∀ b,b<(h ++ [k]).length→BG (h ++ [k]) b∨PS (h ++ [k]) b:=fun b hb=>by
  by_cases hx:b=h.length
  ·subst hx;exact hnew
  ·have:b<h.length:=by simp at hb;omega
   exact (hi.ro b this).imp (VB this) (Yx this)
 have hdom:∀ b e',(ρ.set h.length e) b=some e'→b<(h ++ [k]).length∧e'.r<W.heap.size:=fun b e' hb=>by
  by_cases hx:b=h.length
  ·subst hx;rw[Rho.set_same] at hb;injection hb with hb;subst hb;exact ⟨by simp,hlt⟩
  ·rw[Rho.set_other hx] at hb;have:=hi.rel.dom b e' hb;exact ⟨by simp;omega,by omega⟩
 refine ⟨⟨hdom,fun b e' k' hb hk'=>?_,fun b b' e1 e2 h1 h2 hr hne=>?_⟩,hall⟩
 ·by_cases hx:b=h.length
  ·subst hx;rw[Rho.set_same] at hb;injection hb with hb;subst hb;simp at hk';subst hk';exact BR.mono hle rfl hk
  ·rw[Rho.set_other hx] at hb;have:=(hi.rel.dom b e' hb).1;rw[zbe this] at hk';exact BR.mono hle rfl (hi.rel.blk b e' k' hb hk')
 ·have g1:=hall b (hdom b e1 h1).1;have g2:=hall b' (hdom b' e2 h2).1;rcases g1 with g1 | g1
  ·exact .inl g1
  ·rcases g2 with g2 | g2
   ·exact .inr (.inl g2)
   ·exact .inr (.inr ⟨g1,g2⟩)
section
variable {P:Program}{W:World}{H:Type}{enc:TypeId×Value→H}
theorem Qk {base:Nat}{a:Addr}{cs:List Value} (h:W.cells? base a n=some cs):cs.length=n∧∀ (i:Nat) (c:Value),cs[i]?=some c→W.cell? (a.add i)=some c:=by
 unfold World.cells? at h;split at h
 ·have hl:cs.length=n:=by simpa using mapM_some_length h
  refine ⟨hl,fun i c hc=>?_⟩;have hi:i<n:=by have:=(zbg.1 hc).1;omega
  have:=mapM_some_get h i i (by simp[hi]);rw[this,hc]
 ·cases h
theorem V1 {a:Addr}{c:Value} (h:W.cell? a=some c):∃ cs el fr,W.heap[a.block]?=some (.cells cs el fr)∧a.spot=none∧cs[a.off]?=some c:=by
 unfold World.cell? at h;split at h
 ·rename_i cs el fr he
  split at h
  ·cases h
  ·rename_i hs;exact ⟨cs,el,fr,he,by simpa using hs,h⟩
 ·cases h
def zaE (P:Program) (W:World) (n:Nat) (t:TypeId) (cs:List Value):Prop :=
 ∀ ρ h,Imp W ρ h→∃ (ρ':Rho) (h':Heap) (xs:List V),Rle ρ ρ'∧h <+: h'∧Imp W ρ' h'∧VRs ρ' xs cs∧TV P h' n t xs
theorem RT {n:Nat}{t:TypeId}{R:Nat}:∀ (css:List (List Value)),(∀ cs∈css,cs.length=R∧zaE P W n t cs)→∀ ρ h,Imp W ρ h →
  ∃ (ρ':Rho) (h':Heap) (rs:List (List V)),Rle ρ ρ'∧h <+: h'∧Imp W ρ' h'∧rs.length=css.length∧(∀ (i:Nat) (row:List V),rs[i]?=some row→∃ cs,css[i]?=some cs∧VRs ρ' row cs∧row.length=R∧TV P h' n t row)
 | [],_,ρ,h,hi=>⟨ρ,h,[],Rle.refl _,zcK _,hi,rfl,fun i row hr=>by simp at hr⟩
 | cs :: css,hc,ρ,h,hi=>by
  obtain ⟨ρ1,h1,xs,a1,a2,a3,a4,a5⟩:=(hc cs (by simp)).2 ρ h hi;obtain ⟨ρ2,h2,rs,b1,b2,b3,b4,b5⟩:=RT css (fun c hcc=>hc c (by simp[hcc])) ρ1 h1 a3;refine ⟨ρ2,h2,xs :: rs,a1.trans b1,a2.trans b2,b3,by simp[b4],fun i row hr=>?_⟩;cases i with
  | zero =>simp at hr;subst hr;exact ⟨cs,rfl,VRs.mono b1 _ _ a4,by rw[a4.length];exact (hc cs (by simp)).1,TV.mono b2 _ _ _ a5⟩
  | succ i =>simp at hr;obtain ⟨c,g1,g2⟩:=b5 i row hr;exact ⟨c,by simpa using g1,g2⟩
theorem Og {n:Nat}{cs:List Value}:∀ (fs:List Field) (off:Nat),Yz P (Or P n) fs off cs.length=true→(∀ f∈fs,Or P n f.type=true→zaE P W n f.type ((cs.drop f.offset).take (P.cellsOf f.type)))→∀ ρ h,Imp W ρ h →
  ∃ (ρ':Rho) (h':Heap) (xs:List V),Rle ρ ρ'∧h <+: h'∧Imp W ρ' h'∧VRs ρ' xs (cs.drop off)∧TVs P (TV P h' n) fs xs∧off≤cs.length
 | [],off,hin,_,ρ,h,hi=>by simp only[Yz] at hin;have:=zbl hin;exact ⟨ρ,h,[],Rle.refl _,zcK _,hi,by rw[zb2 (by omega)];exact VRs.nil,rfl,by omega⟩
 | f :: fs,off,hin,hl,ρ,h,hi=>by
  simp only[Yz] at hin;split at hin
  ·rename_i hc
   simp only[zbq] at hc;have ho:=zbl hc.1;obtain ⟨ρ1,h1,xs,a1,a2,a3,a4,a5⟩:=hl f (by simp) hc.2 ρ h hi;obtain ⟨ρ2,h2,ys,b1,b2,b3,b4,b5,b6⟩:=Og fs (off+P.cellsOf f.type) hin (fun g hg=>hl g (by simp[hg])) ρ1 h1 a3;rw[ho] at a4;have hlen:=a4.length;refine ⟨ρ2,h2,xs++ys,a1.trans b1,a2.trans b2,b3,?_,⟨xs,ys,rfl,?_,TV.mono b2 _ _ _ a5,b5⟩,by omega⟩
   ·have:=(VRs.mono b1 _ _ a4).append b4;rwa [← zcl,zbQ] at this
   ·rw[hlen];simp;omega
  ·cases hin
theorem zaZ:∀ (n:Nat) (t:TypeId),Or P n t=true→∀ (fuel:Nat) (cs:List Value) (x:DataW H×List MemPlace),DataW.trod enc P W 0 (fun _=>true) true fuel t cs=some x →
  (∀ a l c,Value.slice (some a) l c∈cs→0<W.heap.size)→zaE P W n t cs:=by
 intro n;induction n with
 | zero=>intro t h;simp[Or] at h
 | succ n ih =>
  intro t hin fuel cs x hx hpos ρ h hi;simp only[Or] at hin;split at hin
  ·rename_i hu
   obtain ⟨b,rfl,_⟩:=DataW.trod_bool hu hx;exact ⟨ρ,h,[.bool b],Rle.refl _,zcK _,hi,VRs.cons VR.bool' VRs.nil,by simp only[TV,hu];exact ⟨b,rfl⟩⟩
  ·rename_i k hu
   obtain ⟨i,rfl,_,hw⟩:=DataW.trod_int hu hx;exact ⟨ρ,h,[.int k i],Rle.refl _,zcK _,hi,VRs.cons VR.int' VRs.nil,by simp only[TV,hu];exact ⟨i,rfl,hw⟩⟩
  ·rename_i hu
   obtain ⟨s,rfl,_,hw⟩:=DataW.trod_string hu hx;exact ⟨ρ,h,[.str s],Rle.refl _,zcK _,hi,VRs.cons (by simp[VR]) VRs.nil,by simp only[TV,hu];exact ⟨s,rfl,hw⟩⟩
  ·rename_i e hu
   simp only[zbq] at hin;have hR:0<P.cellsOf e:=by have:=hin.1.2;simpa [zcF] using this
   rcases DataW.trod_slice hu hx with ⟨rfl,_⟩ | ⟨a,len,cap,elems,rest,m,rfl,rfl,_,_,hlc,hcm,hel,hg,hsp,_⟩
   ·exact ⟨ρ,h,[.sl (P.cellsOf e) none 0 (some 0)],Rle.refl _,zcK _,hi,VRs.cons (by simp[VR]) VRs.nil,by
     simp only[TV,hu];exact ⟨none,some 0,[],rfl,⟨zbE _,fun _ _=>zbE _⟩,fun r hr=>(by cases hr),.inl rfl⟩⟩
   ·-- the rows
    have hrow:∀ i,i<len→∃ c y,W.cells? 0 (a.add (i*P.cellsOf e)) (P.cellsOf e)=some c∧DataW.trod enc P W 0 (fun _=>true) true m e c=some y:=fun i hi'=>by have h1:=hg i hi';rw[zbu (by omega)] at h1;obtain ⟨c,h2,h3⟩:=Option.bind_eq_some_iff.1 h1;exact ⟨c,_,h2,h3⟩
    have hspare:∀ j,len+j<cap→∃ c,W.cells? 0 (a.add ((len+j)*P.cellsOf e)) (P.cellsOf e)=some c:=fun j hj=>by obtain ⟨h0,h1⟩:=hsp rfl;have h1:=h1 j (by omega);rw[zbu (by omega)] at h1;obtain ⟨c,h2,_⟩:=Option.bind_eq_some_iff.1 h1;exact ⟨c,h2⟩
    by_cases hcap:cap=0
    ·-- no room at all
     subst hcap;have hl0:len=0:=by omega
     subst hl0;have hp:=hpos a 0 0 (by simp);have hi2:=hi.lay .dead ⟨0,0,P.cellsOf e,0,0⟩ hp trivial (.inl rfl);refine ⟨_,_,[.sl (P.cellsOf e) (some (h.length,0)) 0 (some 0)],Rho.set_le hi.rel.fresh,⟨_,rfl⟩,hi2,VRs.cons ?_ VRs.nil,?_⟩
     ·simp only[VR];exact ⟨_,a,0,Rho.set_same _ _ _,rfl,rfl,.inl rfl,zbf _,fun y hy=>by injection hy,fun hc=>by cases hc⟩
     ·simp only[TV,hu];exact ⟨_,_,[],rfl,⟨zbE _,fun _ _=>zbE _⟩,fun r hr=>(by cases hr),.inl rfl⟩
    ·-- the block
     have hblk:∃ carr el fr,W.heap[a.block]?=some (.cells carr el fr)∧a.spot=none:=by
      have:∃ c,W.cells? 0 (a.add (0*P.cellsOf e)) (P.cellsOf e)=some c:=by
       by_cases hl0:len=0
       ·have:=hspare 0 (by omega);rw[hl0] at this;simpa using this
       ·obtain ⟨c,_,h2,_⟩:=hrow 0 (by omega);exact ⟨c,h2⟩
      obtain ⟨c,hc⟩:=this;obtain ⟨c1,c2⟩:=Qk hc;have h0:c[0]?=some c[0]:=zbu (by omega);obtain ⟨carr,el,fr,h1,h2,_⟩:=V1 (c2 0 _ h0);have e1:(a.add (0*P.cellsOf e)).add 0=a:=by simp[Addr.add]
      rw[e1] at h1 h2;exact ⟨carr,el,fr,h1,h2⟩
     obtain ⟨carr,el,fr,hW,hspot⟩:=hblk;obtain ⟨r,o,sp⟩:=a;simp only at hW hspot;subst hspot;have hlt:r<W.heap.size:=by apply zcD;intro hle;rw[Array.getElem?_eq_none hle] at hW;cases hW
     have hcells:∀ i,i<len→∃ c y,c.length=P.cellsOf e∧(∀ (j:Nat) (v:Value),c[j]?=some v→carr[o+(i*P.cellsOf e+j)]?=some v)∧DataW.trod enc P W 0 (fun _=>true) true m e c=some y:=fun i hi'=>by obtain ⟨c,y,h1,h2⟩:=hrow i hi';obtain ⟨c1,c2⟩:=Qk h1;refine ⟨c,y,c1,fun j v hv=>?_,h2⟩;have:=c2 j v hv;rw[Fg,Fg,KI hW] at this;rw[← this];congr 1;omega
     have hall:∃ css:List (List Value),css.length=len∧∀ i,i<len→∃ c y,css[i]?=some c∧c.length=P.cellsOf e∧(∀ (j:Nat) (v:Value),c[j]?=some v→carr[o+(i*P.cellsOf e+j)]?=some v)∧DataW.trod enc P W 0 (fun _=>true) true m e c=some y:=by refine ⟨(List.range len).map fun i=>if hi':i<len then (hcells i hi').choose else [],by simp,fun i hi'=>?_⟩;obtain ⟨y,h1,h2,h3⟩:=(hcells i hi').choose_spec;exact ⟨_,y,by simp[hi'],h1,h2,h3⟩
     obtain ⟨css,hcl,hcs⟩:=hall;obtain ⟨ρ1,h1,rs,a1,a2,a3,a4,a5⟩:=RT (P:=P) (W:=W) (n:=n) (t:=e) (R:=P.cellsOf e) css (fun c hc=>by
      obtain ⟨i,hi'⟩:=zbt.1 hc;have hlt:=(zbg.1 hi').1;obtain ⟨c',y,g1,g2,g3,g4⟩:=hcs i (by omega);rw[hi'] at g1;injection g1 with g1;subst g1;exact ⟨g2,ih e hin.2 m c y g4 fun _ _ _ _=>by omega⟩) ρ h hi
     by_cases hl0:len=0
     ·have hrs:rs = []:=zbm (by omega);subst hrs;have hi2:=a3.lay .dead ⟨r,o,P.cellsOf e,0,0⟩ hlt trivial (.inl rfl);refine ⟨_,_,[.sl (P.cellsOf e) (some (h1.length,0)) 0 (some cap)],a1.trans (Rho.set_le a3.rel.fresh),a2.trans ⟨_,rfl⟩,hi2,VRs.cons ?_ VRs.nil,?_⟩
      ·simp only[VR];exact ⟨_,⟨r,o,none⟩,cap,Rho.set_same _ _ _,rfl,by rw[hl0],.inr (by simp),by omega,fun y hy=>by injection hy,fun hc=>by cases hc⟩
      ·simp only[TV,hu];exact ⟨_,_,[],rfl,⟨zbE _,fun _ _=>zbE _⟩,fun r hr=>(by cases hr),.inl rfl⟩
     ·have hrl:rs.length=len:=by omega
      have hbr:BR ρ1 ⟨r,o,P.cellsOf e,rs.length,rs.length⟩ (.rows (P.cellsOf e) el true rs) W:=by
       refine ⟨carr,fr,?_,fun h=>(by cases h),rfl,rfl,zbf _,?_,fun i row hr=>?_,.inr ⟨rfl,fun j c g1 g2 g3=>?_⟩⟩
       ·exact hW
       ·obtain ⟨c,y,g1,g2,g3,_⟩:=hcs (len - 1) (by omega);have:=g3 (P.cellsOf e - 1) _ (zbu (by omega));have hb:=(zcf.1 this).1;have e1:rs.length*P.cellsOf e=(len - 1)*P.cellsOf e+P.cellsOf e:=by rw[hrl,← Nat.succ_mul];congr 1;omega
        show o+rs.length*P.cellsOf e≤carr.size;omega
       ·obtain ⟨c,g1,g2,g3,_⟩:=a5 i row hr;refine ⟨g3,fun j v hv=>?_⟩;have hlt:=(zbg.1 hr).1;obtain ⟨c',y,k1,k2,k3,_⟩:=hcs i (by omega);rw[g1] at k1;injection k1 with k1;subst k1;obtain ⟨z,z1,z2⟩:=g2.get j v hv;exact ⟨z,k3 j z z1,z2⟩
       ·obtain ⟨q,hq⟩:∃ q,j=o+q:=⟨j - o,by simp only at g1;omega⟩;have hq2:q<rs.length*P.cellsOf e:=by simp only at g2;omega
        have hdiv:q / P.cellsOf e<rs.length:=(Nat.div_lt_iff_lt_mul hR).2 hq2;have hmod:q % P.cellsOf e<P.cellsOf e:=Nat.mod_lt _ hR;have hqq:q=q / P.cellsOf e*P.cellsOf e+q % P.cellsOf e:=by rw[Nat.mul_comm];exact (Nat.div_add_mod q _).symm
        obtain ⟨c0,k1,k2,k3,k4⟩:=a5 (q / P.cellsOf e) _ (zbu hdiv);obtain ⟨c',y,l1,l2,l3,_⟩:=hcs (q / P.cellsOf e) (by omega);rw[k1] at l1;injection l1 with l1;subst l1;have hz:=l3 (q % P.cellsOf e) _ (zbu (by omega));rw[← hqq,← hq,g3] at hz;injection hz with hz;rw[hz];exact Ct k2 (TV.firm _ _ _ k4) _ (zbb _)
      have hi2:=a3.lay (.rows (P.cellsOf e) el true rs) ⟨r,o,P.cellsOf e,rs.length,rs.length⟩ hlt hbr (.inr ⟨_,_,_,rfl⟩);refine ⟨_,_,[.sl (P.cellsOf e) (some (h1.length,0)) rs.length (some cap)],a1.trans (Rho.set_le a3.rel.fresh),a2.trans ⟨_,rfl⟩,hi2,VRs.cons ?_ VRs.nil,?_⟩
      ·simp only[VR];exact ⟨_,⟨r,o,none⟩,cap,Rho.set_same _ _ _,rfl,by rw[hrl],.inr (by simp),by omega,fun y hy=>by injection hy,fun hc=>by cases hc⟩
      ·simp only[TV,hu];refine ⟨_,_,rs,rfl,⟨by omega,fun k hk=>by injection hk with hk;omega⟩,fun row hr=>?_,.inr ⟨_,rfl,by simp[Heap.rows?]⟩⟩;obtain ⟨i,hi'⟩:=zbt.1 hr;obtain ⟨c,_,_,g3,g4⟩:=a5 i row hi';exact ⟨g3,TV.mono ⟨_,rfl⟩ _ _ _ g4⟩
  ·rename_i fs hu
   obtain ⟨xs,m,rfl,_,hl,hxl,hf⟩:=DataW.trod_struct hu hx;rw[← hl] at hin;obtain ⟨ρ',h',ys,b1,b2,b3,b4,b5,_⟩:=Og (P:=P) (W:=W) (n:=n) (cs:=cs) fs.toList 0 hin (fun f hfm hft=>by
    obtain ⟨i,hi'⟩:=zbt.1 hfm;have hi2:fs[i]?=some f:=by simpa using hi'
    have h1:=hf i f hi2;have hlt:i<xs.length:=by have:=(zcf.1 hi2).1;omega
    rw[zbu hlt] at h1;exact ih f.type hft m _ _ h1 fun a l c hm=>hpos a l c (zcB (zcC hm))) ρ h hi
   exact ⟨ρ',h',ys,b1,b2,b3,by simpa using b4,by simp only[TV,hu];exact b5⟩
  ·cases hin
end
end Go.Proofs.YtoihoaaiadagaaaGreat.T
namespace Go.Proofs.YtoihoaaiadagaaaGreat.T
open Go Go.RowKit
variable {r:Reach}{base:Nat}{a:Addr}{n:Nat}{h:Heap}
section
variable {P:Program}{W:World}{H:Type}{enc:TypeId×Value→H}
theorem Vq {e:TypeId} (h:W.has P r base a e n):0<W.heap.size:=by obtain ⟨_,_,row,cells,hs,_⟩:=h;unfold World.shape? at hs;apply zcD;intro hle;rw[Array.getElem?_eq_none (by omega)] at hs;cases hs
theorem N9 {u:TypeId}{l c:Nat} (h:Cell.okWide P W r base u (.slice (some a) l c)):0<W.heap.size:=by
 have h2:Cell.ok P W r base u (.slice (some a) l c):=by unfold Cell.okWide at h;split at h<;>simp_all
 unfold Cell.ok at h2;split at h2<;>simp_all
 exact Vq h2.2.2
theorem SA {t:TypeId}{v:Value} (h:Value.okWide P W r base t v) {l c:Nat} (hm:Value.slice (some a) l c∈v.cells.toList):0<W.heap.size:=by
 have row:∀ cs:Array Value,Row.okWide P W r base t cs→v = .agg cs→0<W.heap.size:=fun cs hr hv=>by subst hv;obtain ⟨ts,_,_,h3⟩:=hr;simp[Value.cells] at hm;obtain ⟨i,hi⟩:=Array.mem_iff_getElem?.1 hm;obtain ⟨u,_,hu⟩:=h3 i _ hi;exact N9 hu
 unfold Value.okWide at h;split at h
 ·obtain ⟨cs,hv,_,hr⟩:=h;exact row cs hr hv
 ·obtain ⟨cs,hv,_,hr⟩:=h;exact row cs hr hv
 ·cases v<;>simp[Value.cells] at hm
  ·obtain ⟨rfl,rfl,rfl⟩:=hm;exact N9 h
  ·exfalso;unfold Cell.okWide Cell.ok at h;split at h<;>(try split at h)<;>simp_all
def ArgV (P:Program) (h:Heap) (n:Nat) (t:TypeId) (x:V):Prop:=match P.underlying t with
 | some (.struct _)=>∃ xs,x = .agg xs∧TV P h n t xs
 | _=>TV P h n t [x]
theorem ArgV.mono {h h':Heap} (hp:h <+: h') {n:Nat}{t:TypeId}{x:V} (hx:ArgV P h n t x):ArgV P h' n t x:=by
 unfold ArgV at *
 split at hx
 ·obtain ⟨xs,h1,h2⟩:=hx;exact ⟨xs,h1,TV.mono hp _ _ _ h2⟩
 ·exact TV.mono hp _ _ _ hx
theorem lays_arg {t:TypeId}{v:Value}{d:DataW H}{p:List MemPlace} (hin:Or P n t=true) (hok:Value.okWide P W r base t v)
  (h0:DataW.Trod enc P W 0 (fun _=>true) true t v d p) {ρ:Rho} (hi:Imp W ρ h):∃ (ρ':Rho) (h':Heap) (x:V),Rle ρ ρ'∧h <+: h'∧Imp W ρ' h'∧VR ρ' x v∧ArgV P h' n t x:=by
 obtain ⟨fuel,hf⟩:=h0;obtain ⟨ρ',h',xs,a1,a2,a3,a4,a5⟩:=zaZ n t hin fuel _ _ hf (fun a l c hm=>SA hok hm) ρ h hi;unfold Value.okWide at hok;cases hu:P.underlying t with
 | none =>
  cases n with
  | zero=>simp[Or] at hin
  | succ n=>simp[Or,hu] at hin
 | some td =>
  have one:(∀ fs,td ≠ .struct fs)→∃ x,xs = [x]∧VR ρ' x v:=fun hns=>by
   cases n with
   | zero=>simp[Or] at hin
   | succ n =>
    simp only[TV,hu] at a5;have hl:=a4.length;have hx:∃ x,xs = [x]:=by
     cases td<;>simp only at a5<;>(try exact a5.elim)
     ·obtain ⟨b,rfl⟩:=a5;exact ⟨_,rfl⟩
     ·obtain ⟨i,rfl,_⟩:=a5;exact ⟨_,rfl⟩
     ·obtain ⟨s,rfl,_⟩:=a5;exact ⟨_,rfl⟩
     ·obtain ⟨a,c,rs,rfl,_⟩:=a5;exact ⟨_,rfl⟩
     ·exact absurd rfl (hns _)
    obtain ⟨x,rfl⟩:=hx;refine ⟨x,rfl,?_⟩;have hns':∀ cs,v ≠ .agg cs:=fun cs hv=>by
     subst hv;rw[hu] at hok;cases td<;>simp only[Or,hu] at hin<;>(try cases hin)<;>simp[Cell.okWide,Cell.ok,hu] at hok
     exact absurd rfl (hns _)
    have hc:v.cells.toList = [v]:=by
     cases v<;>(try rfl)
     ·exact absurd rfl (hns' _)
    rw[hc] at a4;exact a4.uncons.1
  by_cases hs:∃ fs,td = .struct fs
  ·obtain ⟨fs,rfl⟩:=hs;rw[hu] at hok;obtain ⟨cs,rfl,_⟩:=hok;refine ⟨ρ',h',.agg xs,a1,a2,a3,?_,?_⟩
   ·simp only[VR];exact ⟨cs,rfl,by simpa [Value.cells] using a4⟩
   ·simp only[ArgV,hu];exact ⟨xs,rfl,a5⟩
  ·obtain ⟨x,rfl,hx⟩:=one fun fs e=>hs ⟨fs,e⟩;refine ⟨ρ',h',x,a1,a2,a3,hx,?_⟩;unfold ArgV;rw[hu];split
   ·rename_i fs' he;injection he with he;exact absurd ⟨_,he⟩ hs
   ·exact a5
theorem imp_nil (W:World):Imp W (fun _=>none) [] :=
 ⟨⟨fun b e h=>(by cases h),fun b e k h=>(by cases h),fun b b' e e' h=>(by cases h)⟩,fun b hb=>by simp at hb⟩
theorem law_walk {call:Hn} (hS:SC P call) {f:FuncId}{args:List V}{h':Heap}{ρ:Rho} (hk:call h.length f args h=some (.bool true,h')) {cargs:Array Value} (hv:VRs ρ args cargs.toList) (hi:Imp W ρ h) :
  Calls P f cargs W fun e w'=>e = .returned (.bool true)∧Below W.heap.size W w':=by
 refine Calls.mono (hS.calls hk (zbf _) hv hi.rel) ?_
 rintro e w' ⟨c,rfl,ρ',h1,h2,h3⟩
 simp only[VR] at h1;subst h1;exact ⟨rfl,⟨h3.os,h3.tape,h3.output,h3.size,fun k hk=>h3.frame k hk fun b e hb hle=>by
  have:=(hi.rel.dom b e hb).1;omega⟩⟩
end
end Go.Proofs.YtoihoaaiadagaaaGreat.T
namespace Go.Proofs.YtoihoaaiadagaaaGreat
open Go T


structure Ver where
 key:Int
 tag:Tag
 past:List Tag
 text:ByteArray
 gone:Bool
structure Node where
 store:List Ver
 wait:List Ver
structure Place where
 me:Int
 clock:Int
 chain:List Node
 log:List Ver
 got:List (List Ver)
 fell:Bool
structure Frame where
 fro:Int
 to:Int
 at':Int
 ver:Ver
abbrev zaR (ro:Bool):Nat:=bif ro then 219 else 29
abbrev UC (ro:Bool):Nat:=bif ro then 224 else 34
abbrev YN (ro:Bool):Nat:=bif ro then 211 else 41
abbrev Om (ro:Bool):Nat:=bif ro then 321 else 45
abbrev Ver.cs (v:Ver) (a:Pq) (c:Nq):List V := [Iv v.key,Iv v.tag.time,Iv v.tag.place,.sl 2 a v.past.length c,.str v.text,.bool v.gone]
abbrev RTags (ro:Bool):Rel (List Tag):=Sli ro 2 (zaR ro) (flat Tag.cs)
def RVer (ro:Bool):Rel Ver:=fun h cs v F=>∃ s,cs = [Iv v.key,Iv v.tag.time,Iv v.tag.place,s,.str v.text,.bool v.gone]∧RTags ro h [s] v.past F
abbrev RVers (ro:Bool):Rel (List Ver):=Sli ro 6 (UC ro) (RVer ro)
abbrev RVss (ro:Bool):Rel (List (List Ver)):=Sli ro 1 (YN ro) (RVers ro)
def RNode (ro:Bool):Rel Node:=fun h cs x F=>∃ s1 s2 F1 F2,cs = [s1,s2]∧F=F1++F2∧RVers ro h [s1] x.store F1∧RVers ro h [s2] x.wait F2
abbrev RNodes (ro:Bool):Rel (List Node):=Sli ro 2 (Om ro) (RNode ro)
def RPlace (ro:Bool):Rel Place:=fun h cs p F=>∃ s1 s2 s3 F1 F2 F3,cs = [Iv p.me,Iv p.clock,s1,s2,s3,.bool p.fell]∧F=F1++(F2++F3)∧RNodes ro h [s1] p.chain F1∧RVers ro h [s2] p.log F2∧RVss ro h [s3] p.got F3
def V9 (ro:Bool):Rel Frame:=fun h cs f F=>∃ vs,cs = Iv f.fro :: Iv f.to :: Iv f.at' :: vs∧RVer ro h vs f.ver F
theorem rtags_ok {ro:Bool}:(RTags ro).Ok:=Sli.ok Cu
theorem rver_ok {ro:Bool}:(RVer ro).Ok :=
 ⟨fun h h' cs x F ⟨s,h1,h2⟩ hb=>⟨s,h1,rtags_ok.fr _ _ _ _ _ h2 hb⟩,fun h cs x F ⟨s,_,h2⟩=>rtags_ok.bd _ _ _ _ h2⟩
theorem rvers_ok {ro:Bool}:(RVers ro).Ok:=Sli.ok rver_ok
theorem rvss_ok {ro:Bool}:(RVss ro).Ok:=Sli.ok rvers_ok
theorem rnode_ok {ro:Bool}:(RNode ro).Ok:=by
 refine ⟨?_,?_⟩
 ·rintro h h' cs x F ⟨s1,s2,F1,F2,h1,rfl,h2,h3⟩ hb
  exact ⟨s1,s2,F1,F2,h1,rfl,rvers_ok.fr _ _ _ _ _ h2 fun b hm=>hb b (by simp[hm]),rvers_ok.fr _ _ _ _ _ h3 fun b hm=>hb b (by simp[hm])⟩
 ·rintro h cs x F ⟨s1,s2,F1,F2,h1,rfl,h2,h3⟩ b hb
  rw[zbc] at hb;exact hb.elim (rvers_ok.bd _ _ _ _ h2 b) (rvers_ok.bd _ _ _ _ h3 b)
theorem rnodes_ok {ro:Bool}:(RNodes ro).Ok:=Sli.ok rnode_ok
theorem rplace_ok {ro:Bool}:(RPlace ro).Ok:=by
 refine ⟨?_,?_⟩
 ·rintro h h' cs x F ⟨s1,s2,s3,F1,F2,F3,h1,rfl,h2,h3,h4⟩ hb
  exact ⟨s1,s2,s3,F1,F2,F3,h1,rfl,rnodes_ok.fr _ _ _ _ _ h2 fun b hm=>hb b (by simp[hm]),rvers_ok.fr _ _ _ _ _ h3 fun b hm=>hb b (by simp[hm]),rvss_ok.fr _ _ _ _ _ h4 fun b hm=>hb b (by simp[hm])⟩
 ·rintro h cs x F ⟨s1,s2,s3,F1,F2,F3,h1,rfl,h2,h3,h4⟩ b hb
  rw[zbc,zbc] at hb;rcases hb with hb | hb | hb
  ·exact rnodes_ok.bd _ _ _ _ h2 b hb
  ·exact rvers_ok.bd _ _ _ _ h3 b hb
  ·exact rvss_ok.bd _ _ _ _ h4 b hb
theorem rframe_ok {ro:Bool}:(V9 ro).Ok :=
 ⟨fun h h' cs x F ⟨s,h1,h2⟩ hb=>⟨s,h1,rver_ok.fr _ _ _ _ _ h2 hb⟩,fun h cs x F ⟨s,_,h2⟩=>rver_ok.bd _ _ _ _ h2⟩
section
variable {ro:Bool}{h:Heap}{F:List Nat}{a:Pq}{c:Nq}{n k:Nat}
theorem RTags.get {l:List Tag} (hs:RTags ro h [.sl 2 a n c] l F) (hk:k<l.length):∃ o,a=some o∧ld h o.1 (o.2+k) 0 2=some [Iv l[k].time,Iv l[k].place]:=by obtain ⟨o,row,G,h1,h2,⟨rfl,_⟩,_⟩:=hs.read hk;exact ⟨o,h1,by rw[h2];rfl⟩
theorem RVer.form {row:List V}{v:Ver} (hv:RVer ro h row v F):∃ s a c,row = [Iv v.key,Iv v.tag.time,Iv v.tag.place,s,.str v.text,.bool v.gone] ∧
  (∀ {R':Type} (K:Pq→Nat→Nq→Option R'),eS 2 s K=K a v.past.length c)∧RTags ro h [.sl 2 a v.past.length c] v.past F:=by
 obtain ⟨s,rfl,hp⟩:=hv;obtain ⟨a,c,es,hp2⟩:=hp.form;exact ⟨s,a,c,rfl,es,hp2⟩
theorem RVers.get {l:List Ver} (hs:RVers ro h [.sl 6 a n c] l F) (hk:k<l.length):∃ o s a' c' G,a=some o ∧
  ld h o.1 (o.2+k) 0 6=some [Iv l[k].key,Iv l[k].tag.time,Iv l[k].tag.place,s,.str l[k].text,.bool l[k].gone] ∧
  (∀ {R':Type} (K:Pq→Nat→Nq→Option R'),eS 2 s K=K a' l[k].past.length c')∧RTags ro h [.sl 2 a' l[k].past.length c'] l[k].past G∧(∀ b∈G,b∈F):=by
 obtain ⟨o,row,G,h1,h2,hv,hG,_⟩:=hs.read hk;obtain ⟨s,a',c',rfl,es,hp⟩:=hv.form;exact ⟨o,s,a',c',G,h1,by rw[h2];rfl,es,hp,hG⟩
theorem RVss.get {l:List (List Ver)} (hs:RVss ro h [.sl 1 a n c] l F) (hk:k<l.length):∃ o s a' c' G,a=some o∧ld h o.1 (o.2+k) 0 1=some [s] ∧
  (∀ {R':Type} (K:Pq→Nat→Nq→Option R'),eS 6 s K=K a' l[k].length c')∧RVers ro h [.sl 6 a' l[k].length c'] l[k] G∧(∀ b∈G,b∈F):=by
 obtain ⟨o,row,G,h1,h2,hv,hG,_⟩:=hs.read hk;have:∃ s,row = [s]:=by obtain ⟨R',a',c',e,_⟩:=hv;exact ⟨_,e⟩
 obtain ⟨s,rfl⟩:=this;obtain ⟨a',c',es,hp⟩:=hv.form;exact ⟨o,s,a',c',G,h1,by rw[h2];rfl,es,hp,hG⟩
theorem RNode.form {row:List V}{x:Node} (hv:RNode ro h row x F):∃ s1 s2 a1 c1 a2 c2 F1 F2,row = [s1,s2]∧F=F1++F2 ∧
  (∀ {R':Type} (K:Pq→Nat→Nq→Option R'),eS 6 s1 K=K a1 x.store.length c1)∧(∀ {R':Type} (K:Pq→Nat→Nq→Option R'),eS 6 s2 K=K a2 x.wait.length c2) ∧
  RVers ro h [.sl 6 a1 x.store.length c1] x.store F1∧RVers ro h [.sl 6 a2 x.wait.length c2] x.wait F2:=by
 obtain ⟨s1,s2,F1,F2,rfl,rfl,h1,h2⟩:=hv;obtain ⟨a1,c1,e1,g1⟩:=h1.form;obtain ⟨a2,c2,e2,g2⟩:=h2.form;exact ⟨s1,s2,a1,c1,a2,c2,F1,F2,rfl,rfl,e1,e2,g1,g2⟩
theorem RNodes.get {l:List Node} (hs:RNodes ro h [.sl 2 a n c] l F) (hk:k<l.length):∃ o s1 s2 a1 c1 a2 c2 F1 F2,a=some o∧ld h o.1 (o.2+k) 0 2=some [s1,s2]∧ld h o.1 (o.2+k) 0 1=some [s1]∧ld h o.1 (o.2+k) 1 1=some [s2] ∧
  (∀ {R':Type} (K:Pq→Nat→Nq→Option R'),eS 6 s1 K=K a1 l[k].store.length c1)∧(∀ {R':Type} (K:Pq→Nat→Nq→Option R'),eS 6 s2 K=K a2 l[k].wait.length c2) ∧
  RVers ro h [.sl 6 a1 l[k].store.length c1] l[k].store F1∧RVers ro h [.sl 6 a2 l[k].wait.length c2] l[k].wait F2∧(∀ b∈F1,b∈F)∧(∀ b∈F2,b∈F):=by
 obtain ⟨o,row,G,h1,h2,hv,hG,_⟩:=hs.read hk;obtain ⟨s1,s2,a1,c1,a2,c2,F1,F2,rfl,rfl,e1,e2,g1,g2⟩:=hv.form;exact ⟨o,s1,s2,a1,c1,a2,c2,F1,F2,h1,by rw[h2];rfl,by rw[h2];rfl,by rw[h2];rfl,e1,e2,g1,g2,fun b hb=>hG b (zbD _ hb),fun b hb=>hG b (zbF _ hb)⟩
theorem RPlace.form {row:List V}{p:Place} (hv:RPlace ro h row p F):∃ s1 s2 s3 a1 c1 a2 c2 a3 c3 F1 F2 F3,row = [Iv p.me,Iv p.clock,s1,s2,s3,.bool p.fell]∧F=F1++(F2++F3) ∧
  (∀ {R':Type} (K:Pq→Nat→Nq→Option R'),eS 2 s1 K=K a1 p.chain.length c1)∧(∀ {R':Type} (K:Pq→Nat→Nq→Option R'),eS 6 s2 K=K a2 p.log.length c2) ∧
  (∀ {R':Type} (K:Pq→Nat→Nq→Option R'),eS 1 s3 K=K a3 p.got.length c3) ∧
  RNodes ro h [.sl 2 a1 p.chain.length c1] p.chain F1∧RVers ro h [.sl 6 a2 p.log.length c2] p.log F2∧RVss ro h [.sl 1 a3 p.got.length c3] p.got F3:=by
 obtain ⟨s1,s2,s3,F1,F2,F3,rfl,rfl,h1,h2,h3⟩:=hv;obtain ⟨a1,c1,e1,g1⟩:=h1.form;obtain ⟨a2,c2,e2,g2⟩:=h2.form;obtain ⟨a3,c3,e3,g3⟩:=h3.form;exact ⟨s1,s2,s3,a1,c1,a2,c2,a3,c3,F1,F2,F3,rfl,rfl,e1,e2,e3,g1,g2,g3⟩
end
theorem CA {α T:Type}{p:α→Bool}{l:List α} (L:Nat→Option T) (no yes:Option T)
  (step:∀ i (hi:i<l.length),L i=if p l[i]=true then L (i+1) else no) (done:L l.length=yes):L 0=if l.all p=true then yes else no:=by
 have loop:∀ m i,m+i=l.length→L i=if (l.drop i).all p=true then yes else no:=by
  intro m;induction m with
  | zero =>
   intro i hi;have:i=l.length:=by omega
   subst this;rw[done,List.drop_length];simp
  | succ m ih =>
   intro i hi;have hlt:i<l.length:=by omega
   rw[step i hlt,zbC hlt,List.all_cons];cases hp:p l[i]
   ·simp
   ·simpa using ih (i+1) (by omega)
 exact loop l.length 0 (by omega)


section
variable {lo:Nat}{ro:Bool}{h:Heap}{F:List Nat}{a:Pq}{c:Nq}{left:Int}
end
def Ck (l:List Ver):Prop:=l.length≤1048576∧∀ v∈l,v.past.length≤1048576∧v.text.size≤1048576
def zaL (l:List (List Ver)):Prop:=l.length≤1048576∧∀ v∈l,Ck v
def Cs (l:List Node):Prop:=l.length≤1048576∧∀ x∈l,Ck x.store∧Ck x.wait
def BT (p:Place):Prop:=Cs p.chain∧Ck p.log∧zaL p.got
section
variable {lo:Nat}{ro:Bool}{h:Heap}{F:List Nat}{a:Pq}{c:Nq}
abbrev Place.cs (p:Place) (a1:Pq) (c1:Nq) (a2:Pq) (c2:Nq) (a3:Pq) (c3:Nq):List V :=
 [Iv p.me,Iv p.clock,.sl 2 a1 p.chain.length c1,.sl 6 a2 p.log.length c2,.sl 1 a3 p.got.length c3,.bool p.fell]
end


theorem ID {T:Type}{n:Nat} (L:Nat→Option T) (step:∀ i,i<n→L i=L (i+1)):L 0=L n:=by
 have loop:∀ i,i≤n→L 0=L i:=by
  intro i;induction i with
  | zero=>intro _;rfl
  | succ i ih=>intro hi;rw[ih (by omega),step i (by omega)]
 exact loop n (zbf n)
section
variable {lo:Nat}{ro ro':Bool}{h:Heap}{F F':List Nat}{a a':Pq}{c c':Nq}
theorem FE (x:Int):(x==x)=true:=by simp
theorem zaz (x:Bool):(x==x)=true:=by simp
theorem zaW (x:List UInt8):(x==x)=true:=by simp
abbrev Frame.cs (f:Frame) (a:Pq) (c:Nq):List V := Iv f.fro :: Iv f.to :: Iv f.at' :: f.ver.cs a c
end
def zaO {α:Type} (f:Int→α→α) (w:α→Nat):List α→Int→List α
 | [],_ => []
 | x :: r,k=>f k x :: zaO f w r (k+w x)
def Yp {α:Type} (w:α→Nat) (l:List α):Nat:=(l.map w).sum


abbrev za7:Int:=1099511627776
abbrev Zg (_:Tag):Nat:=2
def zad (v:Ver):Nat:=5+Yp Zg v.past
def TE (l:List Ver):Nat:=Yp zad l
def XU (x:Node):Nat:=TE x.store+TE x.wait
section
variable {lo:Nat}{h:Heap}{F:List Nat}{a:Pq}{c:Nq}{k:Int}
def zaH (l:List (List Ver)):Nat:=Yp TE l
def XT (l:List Node):Nat:=Yp XU l
end


section
variable {lo:Nat}{h:Heap}{F:List Nat}{a:Pq}{c:Nq}{k:Int}
def XS (p:Place):Nat:=XT p.chain+TE p.log+zaH p.got
theorem RPlace.cells {ro:Bool}{p:Place}{a1 a2 a3:Pq}{c1 c2 c3:Nq} (h1:RPlace ro h (p.cs a1 c1 a2 c2 a3 c3) p F) :
  ∃ F1 F2 F3,F=F1++(F2++F3)∧RNodes ro h [.sl 2 a1 p.chain.length c1] p.chain F1∧RVers ro h [.sl 6 a2 p.log.length c2] p.log F2∧RVss ro h [.sl 1 a3 p.got.length c3] p.got F3:=by
 obtain ⟨_,_,_,F1,F2,F3,e1,rfl,r1,r2,r3⟩:=h1;injection e1 with _ e1;injection e1 with _ e1;injection e1 with x1 e1;injection e1 with x2 e1;injection e1 with x3 e1;subst x1;subst x2;subst x3;exact ⟨F1,F2,F3,rfl,r1,r2,r3⟩
end


variable {s:ByteArray}{l:List Tag}{v:Ver}{p q:List Tag}
def Lw (b:UInt8):Bool:=Am b.toNat 33 126
def DI (s:ByteArray):Bool:=s.data.toList.all Lw&&decide ((s.size:Int)≤8)
def A6 (p:List Tag):Bool:=decide (p.length=4)&&p.all fun t=>A2 t.time t.place
def BH (p q:List Tag):Bool:=(p.zip q).all fun x => !Gp x.2.time x.2.place x.1.time x.1.place
def Ds (p:List Tag):Int:=p.foldl (fun m t=>if t.time>m then t.time else m) 0
def DQ (s:ByteArray):Bool:=decide (s.size=0)
def E1 (v:Ver):Bool:=Am v.key 0 3&&DI v.text&&(!v.gone || DQ v.text)&&A6 v.past
def A3 (v:Ver):Bool:=E1 v&&A2 v.tag.time v.tag.place&&decide (Ds v.past<v.tag.time)
section
variable {lo:Nat}{ro ro':Bool}{h:Heap}{F F':List Nat}{a a':Pq}{c c':Nq}
theorem RB {i:Nat} (hi:i<s.data.toList.length):Pd s (i:Nat)=some (s.data.toList[i]):=by
 unfold Pd;have:i<s.size:=by simpa using hi
 simp[this];rfl
theorem IN (hn:s.size≤1048576):Ad lo 111 [.str s] h=some (.bool (DI s),h):=by
 refine OB (h':=h) ?_;have hl:s.data.toList.length=s.size:=by simp
 refine (CA (p:=Lw) (l:=s.data.toList) (fun i=>B9 (List.length h) s false (i:Nat) h) (some (.bool false,h)) (some (.bool (decide ((s.size:Int)≤8)),h)) (fun i hi=>?_) ?_).trans ?_
 ·rw[B9.e,Ak (by omega)];simp only[RB hi,Ag,Ar (show i<9223372036854775807 by omega)];unfold Lw Am;generalize s.data.toList[i]=b;by_cases h1:(b.toNat:Int)<33
  ·rw[Ak h1,if_neg (by simp;omega)]
  ·rw[Aj h1];by_cases h2:(b.toNat:Int)>126
   ·rw[Ak h2,if_neg (by simp;omega)]
   ·rw[Aj h2,if_pos (by simp;omega)]
 ·rw[B9.e,Aj (by omega)];by_cases h3:(s.size:Int)≤8
  ·rw[Ak h3,decide_eq_true h3]
  ·rw[Aj h3,decide_eq_false h3]
 ·unfold DI;cases s.data.toList.all Lw<;>simp
theorem Uk (hn:s.size≤1048576):Ad lo 269 [.str s] h=some (.bool (DI s),h):=by
 refine Rt (h':=h) ?_;have hl:s.data.toList.length=s.size:=by simp
 refine (CA (p:=Lw) (l:=s.data.toList) (fun i=>CZ (List.length h) s false (s.size:Nat) (i:Nat) h) (some (.bool false,h)) (some (.bool (decide ((s.size:Int)≤8)),h)) (fun i hi=>?_) ?_).trans ?_
 ·have hb:s.data.toList[i].toNat<256:=s.data.toList[i].toNat_lt;rw[CZ.e,Ak (by omega)];simp only[RB hi,Ag,Ar (show i<9223372036854775807 by omega),FC,Ac,As];rw[wr (by omega) (by omega)];unfold Lw;cases Am (s.data.toList[i].toNat:Int) 33 126<;>simp
 ·rw[CZ.e,Aj (by omega)];by_cases h3:(s.size:Int)≤8
  ·rw[Ak h3,decide_eq_true h3]
  ·rw[Aj h3,decide_eq_false h3]
 ·unfold DI;cases s.data.toList.all Lw<;>simp
theorem IO (hs:RTags ro h [.sl 2 a l.length c] l F) (hn:l.length≤1048576):Ad lo 112 [.agg [.sl 2 a l.length c]] h=some (.bool (A6 l),h):=by
 refine OJ (h':=h) ?_;refine (CA (p:=fun t:Tag=>A2 t.time t.place) (l:=l) (fun i=>Cc (List.length h) false (i:Nat) a l.length c h) (some (.bool false,h)) (some (.bool (decide (l.length=4)),h)) (fun i hi=>?_) ?_).trans ?_
 ·obtain ⟨o,rfl,ho⟩:=hs.get hi;rw[Cc.e,Ak (by omega),Ae hi];simp only[Ag,Be,ho,Aa,Ab,Af,L0,Ac,As,Ar (show i<9223372036854775807 by omega)];cases A2 l[i].time l[i].place<;>simp
 ·rw[Cc.e,Aj (by omega)];by_cases h3:l.length=4
  ·rw[h3];rfl
  ·rw[show ((l.length:Int)==4)=false by simp;omega,Au,decide_eq_false h3]
 ·unfold A6;cases l.all (fun t:Tag=>A2 t.time t.place)<;>simp
theorem QT {g:Nat}{cl:List V}{p:Tag→Bool} (hs:RTags ro h [.sl 2 a l.length c] l F) (hn:l.length≤1048576)
  (hp:∀ lo d,d∈l→Ad lo g (Di [.agg [Iv d.time,Iv d.place]] cl) h=some (.bool (p d),h)) :
  Ad lo 267 [.sl 2 a l.length c,.fn g cl] h=some (Iv (B5 p l 0),h):=by
 have loop:∀ m k x,m+k=l.length→AF (List.length h) a l.length c g cl x (l.length:Nat) (k:Nat) h=some (Iv (B5 p (l.drop k) k),h):=by
  intro m;induction m with
  | zero =>intro k x hk;rw[AF.e,Aj (by omega),show k=l.length by omega];simp[B5]
  | succ m ih =>
   intro k x hk;have hlt:k<l.length:=by omega
   obtain ⟨o,rfl,ho⟩:=hs.get hlt;rw[AF.e,Ak (by omega),Ae (by omega)];simp only[Ag,Be,ho,Aa,Ab,Af];rw[hp (List.length h) l[k] (by simp),Ac,As,zbC hlt];simp only[B5];cases p l[k]
   ·simp only[Au,cond_false];rw[Ar (by omega)];exact ih (k+1) _ (by omega)
   ·simp
 refine ES (h':=h) ?_;simpa using loop l.length 0 0 (by omega)
theorem Kb (hs:RTags ro h [.sl 2 a l.length c] l F) (hn:l.length≤1048576):Ad lo 99 [.agg [.sl 2 a l.length c]] h=some (.bool (A6 l),h):=by
 refine Rv (h':=h) ?_;rw[Ek (h':=h) (v := .bool (l.any fun t => !A2 t.time t.place)) (by
  rw[QT hs hn (p:=fun t => !A2 t.time t.place) (fun lo d _=>OO (h':=h) (by rw[PV];simp only[Ac,As];cases A2 d.time d.place<;>rfl))];simp only[Ac,Ab,O3];rw[IG];simp)]
 unfold A6;by_cases h3:l.length=4
 ·rw[show ((l.length:Int)==4)=true by simp;omega,Al,decide_eq_true h3];simp only[Ac,As];rw[List.any_eq_not_all_not];simp only[Bool.not_not,zbA];cases l.all (fun t:Tag=>A2 t.time t.place)<;>rfl
 ·rw[show ((l.length:Int)==4)=false by simp;omega,Au,decide_eq_false h3];rfl
theorem Oh (hs:RTags ro h [.sl 2 a l.length c] l F) (hn:l.length≤1048576):Ad lo 202 [.agg [.sl 2 a l.length c]] h=some (Iv (Ds l),h):=by
 have loop:∀ m k x,m+k=l.length→BA (List.length h) x a l.length c (l.length:Nat) (k:Nat) h=some (Iv ((l.drop k).foldl (fun m t=>if t.time>m then t.time else m) x),h):=by
  intro m;induction m with
  | zero =>intro k x hk;rw[BA.e,Aj (by omega),show k=l.length by omega];simp
  | succ m ih =>
   intro k x hk;have hlt:k<l.length:=by omega
   obtain ⟨o,rfl,ho⟩:=hs.get hlt;rw[BA.e,Ak (by omega),Ae (by omega)];simp only[Ag,Be,ho,Aa,Ab,Af,Ar (show k<9223372036854775807 by omega)];rw[ih (k+1) _ (by omega),zbC hlt,zbU]
 refine LL (h':=h) ?_;exact loop l.length 0 0 (by omega)
theorem GA:(s.toList==(ByteArray.mk #[]).toList)=DQ s:=by
 unfold DQ;rw[zcg];rw[zcs,zcs];simp only[beq_iff_eq,decide_eq_true_eq];constructor
 ·intro h;have:=congrArg List.length h;simpa using this
 ·intro h;exact zbm (by simpa using h)
theorem Mk (hs:RTags ro h [.sl 2 a v.past.length c] v.past F) (hn:v.past.length≤1048576∧v.text.size≤1048576):Ad lo 200 [.agg (v.cs a c)] h=some (.bool (E1 v),h):=by refine LG (h':=h) ?_;simp only[VE,Uk hn.2,Kb hs hn.1,GA,Ac,As];unfold E1;cases Am v.key 0 3<;>cases DI v.text<;>cases v.gone<;>cases DQ v.text<;>cases A6 v.past<;>rfl
theorem Lt (hs:RTags ro h [.sl 2 a v.past.length c] v.past F) (hn:v.past.length≤1048576∧v.text.size≤1048576):Ad lo 157 [.agg (v.cs a c)] h=some (.bool (A3 v),h):=by
 refine Tt (h':=h) ?_;simp only[Mk hs hn,PV,Oh hs hn.1,Ac,As,Ab];unfold A3;by_cases hl:Ds v.past<v.tag.time
 ·rw[Ak hl,decide_eq_true hl];cases E1 v<;>cases A2 v.tag.time v.tag.place<;>rfl
 ·rw[Aj hl,decide_eq_false hl];cases E1 v<;>cases A2 v.tag.time v.tag.place<;>rfl
theorem PZ {x:Int}:∀ {l:List Tag}{m:Int},l.foldl (fun m t=>if t.time>m then t.time else m) m<x↔m<x∧∀ t∈l,t.time<x
 | [],m=>by simp
 | t :: l,m=>by
  rw[zbU,PZ];simp only[zbn,forall_eq_or_imp];constructor
  ·rintro ⟨h1,h2⟩
   refine ⟨?_,?_,h2⟩<;>(split at h1<;>omega)
  ·rintro ⟨h1,h2,h3⟩
   refine ⟨?_,h3⟩;split<;>omega
theorem latest_lt {x:Int}:Ds p<x↔0<x∧∀ t∈p,t.time<x:=PZ
theorem Dx {t p:Int} (h:A2 t p=true):0≤t∧t≤999∧0≤p∧p≤2:=by simp[A2,Am] at h;omega
theorem Bn (h:A6 p=true):p.length=4:=by simp only[A6,Dr,decide_eq_true_eq] at h;exact h.1
theorem M8 (hs:RTags ro h [.sl 2 a v.past.length c] v.past F) (hn:v.past.length≤1048576∧v.text.size≤1048576):Ad lo 83 [.agg (v.cs a c)] h=some (.bool (A3 v),h):=by
 refine UX (h':=h) ?_;have loop:∀ x b,A6 v.past=true→Cx (List.length h) x 0 v.key v.tag.time v.tag.place a v.past.length c v.text b h=some (.bool (v.past.all fun t=>decide (t.time<v.tag.time)),h):=by
  intro x b hp;have h4:=Bn hp;refine (CA (p:=fun t:Tag=>decide (t.time<v.tag.time)) (l:=v.past) (fun i=>Cx (List.length h) x (i:Nat) v.key v.tag.time v.tag.place a v.past.length c v.text b h) (some (.bool false,h)) (some (.bool true,h)) (fun i hi=>?_) ?_).trans ?_
  ·obtain ⟨o,row,G,rfl,ho,⟨rfl,_⟩,_⟩:=hs.read hi;rw[Cx.e,Ak (by omega),Ae hi];simp only[Ag,Be,ho,Tag.cs,cut,Aa,Ab,Af,Ar (show i<9223372036854775807 by omega)];by_cases ht:v.past[i].time<v.tag.time
   ·rw[Aj (by omega),if_pos (by simpa using ht)]
   ·rw[Ak (by omega),if_neg (by simpa using ht)]
  ·rw[Cx.e,Aj (by omega)]
  ·cases v.past.all fun t:Tag=>decide (t.time<v.tag.time)<;>rfl
 have key:∀ x:Bool,(A2 v.tag.time v.tag.place&&x&&decide (Ds v.past<v.tag.time))=(A2 v.tag.time v.tag.place && !(v.tag.time==0)&&x&&(v.past.all fun t=>decide (t.time<v.tag.time))):=by
  intro x;cases ht:A2 v.tag.time v.tag.place with
  | false=>simp
  | true =>
   have:=Dx ht;have e:decide (Ds v.past<v.tag.time)=(!(v.tag.time==0)&&(v.past.all fun t=>decide (t.time<v.tag.time))):=by
    rw[zcg];simp only[decide_eq_true_eq,latest_lt,Dr,zbp,zbT,beq_eq_false_iff_ne];constructor
    ·rintro ⟨h1,h2⟩;exact ⟨by omega,h2⟩
    ·rintro ⟨h1,h2⟩;exact ⟨by omega,h2⟩
   rw[e];cases x<;>cases (v.tag.time==0)<;>simp
 have e2:A3 v=(Am v.key 0 3&&DI v.text&&(!v.gone || DQ v.text)&&(A2 v.tag.time v.tag.place&&A6 v.past&&decide (Ds v.past<v.tag.time))):=by unfold A3 E1;cases Am v.key 0 3<;>cases DI v.text<;>cases v.gone<;>cases DQ v.text<;>cases A6 v.past<;>cases A2 v.tag.time v.tag.place<;>simp
 rw[e2,key];simp only[Bf,IN hn.2,L0,IO hs hn.1,GA,Ac,As];cases hp:A6 v.past with
 | true =>simp only[loop _ _ hp];cases Am v.key 0 3<;>cases DI v.text<;>cases v.gone<;>cases DQ v.text<;>cases A2 v.tag.time v.tag.place<;>cases (v.tag.time==0)<;>rfl
 | false =>cases Am v.key 0 3<;>cases DI v.text<;>cases v.gone<;>cases DQ v.text<;>cases A2 v.tag.time v.tag.place<;>cases (v.tag.time==0)<;>rfl
theorem Pa {T:Type} (L:Nat→Option T) (no yes:Option T) (hl:p.length≤q.length)
  (step:∀ i (hi:i<p.length),L i=if Gp q[i].time q[i].place p[i].time p[i].place=true then no else L (i+1)) (done:L p.length=yes):L 0=if BH p q=true then yes else no:=by
 have hz:(p.zip q).length=p.length:=by simp;omega
 refine CA (l:=p.zip q) L no yes (fun i hi=>?_) (by rw[hz];exact done);rw[step i (by omega)];simp only[zcL];cases Gp q[i].time q[i].place p[i].time p[i].place<;>simp
theorem Jv (hs:RTags ro h [.sl 2 a p.length c] p F) (hs':RTags ro' h [.sl 2 a' q.length c'] q F') (hn:p.length≤1048576) (hl:p.length≤q.length) :
  Ad lo 92 [.agg [.sl 2 a p.length c],.agg [.sl 2 a' q.length c']] h=some (.bool (BH p q),h):=by
 refine MM (h':=h) ?_;refine (Pa (p:=p) (q:=q) (fun i=>BL (List.length h) false a p.length c (p.length:Nat) (i:Nat) a' q.length c' h) (some (.bool false,h)) (some (.bool true,h)) hl (fun i hi=>?_) ?_).trans ?_
 ·obtain ⟨o,rfl,ho⟩:=hs.get hi;obtain ⟨o',rfl,ho'⟩:=hs'.get (show i<q.length by omega);rw[BL.e,Ak (by omega),Ae hi];simp only[Ag,Be,ho,ho',Aa,Ab,Af,Ae (show i<q.length by omega),HK,Ac,As,Ar (show i<9223372036854775807 by omega)];cases Gp q[i].time q[i].place p[i].time p[i].place<;>simp
 ·rw[BL.e,Aj (by omega)]
 ·cases BH p q<;>rfl
theorem ET (hs:RTags ro h [.sl 2 a p.length c] p F) (hs':RTags ro' h [.sl 2 a' q.length c'] q F') (hp:p.length=4) (hq:q.length=4) :
  Ad lo 192 [.agg [.sl 2 a p.length c],.agg [.sl 2 a' q.length c']] h=some (.bool (BH p q),h):=by
 refine OI (h':=h) ?_;refine (Pa (p:=p) (q:=q) (fun i=>Cb (List.length h) false (i:Nat) a p.length c a' q.length c' h) (some (.bool false,h)) (some (.bool true,h)) (by omega) (fun i hi=>?_) ?_).trans ?_
 ·obtain ⟨o,rfl,ho⟩:=hs.get hi;obtain ⟨o',rfl,ho'⟩:=hs'.get (show i<q.length by omega);rw[Cb.e,Ak (by omega),Ae (show i<q.length by omega)];simp only[Ag,Be,ho,ho',Aa,Ab,Af,Ae hi,Bz,Ac,As,Ar (show i<9223372036854775807 by omega)];cases Gp q[i].time q[i].place p[i].time p[i].place<;>simp
 ·rw[Cb.e,Aj (by omega)]
 ·cases BH p q<;>rfl
end


variable {l:List Tag}{p:Place}{α:Type}{El:Rel α}
section
variable {lo:Nat}{ro ro':Bool}{h:Heap}{F F':List Nat}{a a':Pq}{c c':Nq}
theorem Sli.rows {α:Type}{El:Rel α}{R e:Nat}{l:List α} (hs:Sli false R e El h [.sl R a l.length c] l F) :
  ∃ rows Fs,(∀ {T:Type} (K:List (List V)→Option T),Av R h (.sl R a l.length c) K=K rows)∧EAll El h rows l Fs∧∀ b∈Fs.flatten,b∈F:=by
 obtain ⟨R1,a1,c1,e1,g⟩:=hs;injection e1 with e1 _;injection e1 with e0 e2 _ e3;subst e2;subst e3;cases a with
 | none =>obtain ⟨rfl,_,_⟩:=g;exact ⟨[],[],fun K=>rfl,trivial,by simp⟩
 | some p =>
  obtain ⟨b,i⟩:=p;obtain ⟨_,rs,Fs,g1,g2,g3,g4,g5,rfl⟩:=g;refine ⟨_,Fs,fun K=>?_,g5,fun b hb=>zbS _ hb⟩;simp only[Av,JG,GF];cases hl:l.length with
  | zero=>simp
  | succ n =>rw[hl] at g2;simp only[Ey,Heap.rows?,g1,zbN,Ff g2,Ag]
theorem RTags.rows {l:List Tag} (hs:RTags false h [.sl 2 a l.length c] l F) {T:Type} (K:List (List V)→Option T):Av 2 h (.sl 2 a l.length c) K=K (l.map Tag.cs):=by obtain ⟨rows,Fs,h1,h2,_⟩:=Sli.rows hs;rw[h1,h2.of_flat.1]
theorem Sli.fresh {R e n:Nat}{rs:List (List V)} (hn:n≤rs.length):Sli false R e El (h ++ [.rows R e false rs]) [.sl R (some (h.length,0)) 0 (some n)] [] [h.length] :=
 ⟨R,some (h.length,0),some n,rfl,rfl,rs,[],by simp,by simp,fun k hk=>by injection hk with hk;subst hk;simpa using hn,fun h=>(by cases h),by simp[EAll],by simp⟩
theorem P0:(l.map fun _=>([]:List Nat)).flatten = []:=by induction l<;>simp_all
theorem I9 (hl:lo≤h.length) (hn:l.length≤1048576):∃ a' c' h' F',(∀ {T:Type} (K:V→Heap→Option T),Dd lo 29 2 16 (.sl 2 (some (h.length,0)) 0 (some 0)) (l.map Tag.cs) (h ++ [.rows 2 29 false []]) K=K (.sl 2 a' l.length c') h') ∧
  RTags false h' [.sl 2 a' l.length c'] l F'∧Mv h [] h' F':=by
 have h0:RTags false (h ++ [.rows 2 (zaR false) false []]) [.sl 2 (some (h.length,0)) 0 (some 0)] [] [h.length]:=Sli.fresh (zbf _);by_cases he:l = []
 ·subst he;exact ⟨some (h.length,0),some 0,_,_,fun K=>rfl,h0,Mv.last⟩
 ·obtain ⟨a',c',h',F',p1,p2,p3,p4,p5,p6⟩:=Sli.push (lo:=lo) (bytes:=16) Wy h0 (xs:=l.map Tag.cs) (ys:=l) (Gs:=l.map fun _ => []) EAll.flat (by decide) (by simp;omega) (by simp;omega) (by simp;omega) (by rw[P0];simp) (by rw[P0];simp) he;simp only[zcp,zbH,zbJ] at p1 p2;refine ⟨a',c',h',F',p1,p2,by simp at p3;omega,fun b hb _=>?_,p6,fun b hb=>?_⟩
  ·rw[p4 b (by simp;omega) (by simp;omega),zbe hb]
  ·simp at p3;rcases p5 b hb with h1 | h1
   ·rw[P0] at h1;simp at h1;exact .inr (by omega)
   ·simp at h1;exact .inr (by omega)
theorem Cy {v:Ver} (hs:RTags false h [.sl 2 a v.past.length c] v.past F) (hl:lo≤h.length) (hn:v.past.length≤1048576) :
  ∃ a' c' h' F',Ad lo 164 [.agg (v.cs a c)] h=some (.agg (v.cs a' c'),h')∧RTags false h' [.sl 2 a' v.past.length c'] v.past F'∧Mv h [] h' F':=by
 obtain ⟨a',c',h',F',e,r⟩:=I9 (l:=v.past) hl hn;refine ⟨a',c',h',F',Rj ?_,r⟩;rw[RTags.rows (Mv.snoc.keep0 rtags_ok hs),e,Ah]
theorem VH (hs:RTags false h [.sl 2 a l.length c] l F) (hl:lo≤h.length) (hn:l.length≤1048576) :
  ∃ v h' F',Ad lo 293 [.sl 2 a l.length c] h=some (v,h')∧RTags false h' [v] l F'∧Mv h [] h' F':=by
 cases a with
 | none =>obtain ⟨R1,a1,c1,e1,g⟩:=hs;injection e1 with e1 _;injection e1 with e0 e2 _ e3;subst e2;subst e3;obtain ⟨rfl,_,_⟩:=g;exact ⟨_,h,[],Dw (by rw[show (none:Pq).isNone=true from rfl,Al]),Sli.nil,Mv.nil⟩
 | some p =>obtain ⟨a',c',h',F',e,r⟩:=I9 (l:=l) hl hn;refine ⟨_,h',F',Dw ?_,r⟩;rw[show (some p).isNone=false from rfl,Au,RTags.rows (Mv.snoc.keep0 rtags_ok hs),e,Ah]
theorem Nl (hs:RTags false h [.sl 2 a l.length c] l F) (hl:lo≤h.length) (hn:l.length≤1048576) :
  ∃ a' c' h' F',Ad lo 229 [.agg [.sl 2 a l.length c]] h=some (.agg [.sl 2 a' l.length c'],h')∧RTags false h' [.sl 2 a' l.length c'] l F'∧Mv h [] h' F':=by
 obtain ⟨v,h',F',e,r,m⟩:=VH hs hl hn;obtain ⟨a',c',es,r2⟩:=r.form;refine ⟨a',_,h',F',LM ?_,r2.clip,m⟩;rw[e];simp only[Ac,es];rw[Gr (r:=(.sl 2 a' l.length (some l.length),h')) (by rw[L3 r2])];simp only[Ac,Ah]
theorem E7 {v:Ver} (hs:RTags false h [.sl 2 a v.past.length c] v.past F) (hl:lo≤h.length) (hn:v.past.length≤1048576) :
  ∃ a' c' h' F',Ad lo 161 [.agg (v.cs a c)] h=some (.agg (v.cs a' c'),h')∧RTags false h' [.sl 2 a' v.past.length c'] v.past F'∧Mv h [] h' F':=by
 obtain ⟨a',c',h',F',e,r⟩:=Nl hs hl hn;refine ⟨a',c',h',F',MH ?_,r⟩;rw[e];simp only[Ac,Ap,Aa,Ah,Af]
theorem Ny {l:List Ver}{e0:Pq}{h0:Heap}{n0:Nq}{F0:List Nat}{T:Type} (L:Nat→Pq→Nat→Nq→Heap→Option T) (hs:RVers false h [.sl 6 a l.length c] l F) (hl:lo≤h.length) (hn:Ck l)
  (m0:Mv h [] h0 F0) (h1:RVers false h0 [.sl 6 e0 0 n0] [] F0)
  (step:∀ i (hi:i<l.length) s a2 c2 a1 n1 c1 hh,(i=0→a1=e0∧c1=n0)→(∀ o,a=some o→ld hh o.1 (o.2+i) 0 6=some [Iv l[i].key,Iv l[i].tag.time,Iv l[i].tag.place,s,.str l[i].text,.bool l[i].gone])→(∃ o,a=some o) →
   (∀ {R':Type} (K:Pq→Nat→Nq→Option R'),eS 2 s K=K a2 l[i].past.length c2)→(∃ G,RTags false hh [.sl 2 a2 l[i].past.length c2] l[i].past G)→lo≤hh.length →
   ∃ a3 c3 h3 F3,RTags false h3 [.sl 2 a3 l[i].past.length c3] l[i].past F3∧Mv hh [] h3 F3 ∧
    L i a1 n1 c1 hh=Dd lo 34 6 72 (.sl 6 a1 n1 c1) [l[i].cs a3 c3] (h3 ++ [.rows 6 34 false [l[i].cs a3 c3]]) fun v h=>eS 6 v fun a n c=>L (i+1) a n c h) :
  ∃ a' c' h' F',L 0 e0 0 n0 h0=L l.length a' l.length c' h'∧RVers false h' [.sl 6 a' l.length c'] l F'∧Mv h [] h' F':=by
 have hn1:=hn.1;obtain ⟨a',c',h',F',e,r,m⟩:=JD (El:=RVer false) rver_ok (h0:=h0) (l:=l) (g:=fun _ v=>some (id v)) (lo:=lo) (R:=6) (e:=UC false) (bytes:=72) (b0 := []) (F0:=F0) (a0:=e0) (c0:=n0)
  (zba hl m0.le) (m0.ge hl (by simp)) m0.nd (by decide) (by simp;omega) L (fun i hi a1 c1 hh F1 acc hz hacc hm hr=>by
   have hm':Mv h [] hh []:=(m0.trans hm).drop;obtain ⟨o,s,a2,c2,G,ho,hld,es,hp,_⟩:=(hm'.keep0 rvers_ok hs).get hi;obtain ⟨a3,c3,h3,F3,r3,m3,e3⟩:=step i hi s a2 c2 a1 acc.length c1 hh hz (fun o' ho'=>by rw[ho] at ho';injection ho' with ho';subst ho';exact hld) ⟨o,ho⟩ es ⟨G,hp⟩ (zba hl hm'.le);exact .inr ⟨l[i],l[i].cs a3 c3,F3,_,rfl,⟨_,rfl,Mv.snoc.keep0 rtags_ok r3⟩,m3.trans (Mv.snoc' m3.nd),e3⟩) h1
 rw[Kc,zcM,zbJ] at e r;exact ⟨a',c',h',F',e,r,m0.trans m⟩
theorem E5 {l:List Ver} (hs:RVers false h [.sl 6 a l.length c] l F) (hl:lo≤h.length) (hn:Ck l) :
  ∃ a' c' h' F',Ad lo 259 [.sl 6 a l.length c] h=some (.sl 6 a' l.length c',h')∧RVers false h' [.sl 6 a' l.length c'] l F'∧Mv h [] h' F':=by
 have hn1:=hn.1;obtain ⟨a',c',h',F',e,r,m⟩:=Ny (e0:=some (h.length,0)) (n0:=some l.length) (h0:=h ++ [.rows 6 (UC false) false (List.replicate l.length [Iv 0,Iv 0,Iv 0,.sl 0 none 0 (some 0),.str ⟨⟨[]⟩⟩,.bool false])])
  (fun i a1 n1 c1 hh=>BJ lo a1 n1 c1 a l.length c (l.length:Nat) (i:Nat) hh) hs hl hn Mv.last (Sli.fresh (by simp)) (fun i hi s a2 c2 a1 n1 c1 hh hz hld ho es hp hlo=>by
   obtain ⟨o,rfl⟩:=ho;obtain ⟨G,hp⟩:=hp;obtain ⟨a3,c3,h3,F3,e3,r3,m3⟩:=E7 (lo:=lo) (v:=l[i]) hp hlo (hn.2 _ (zbb hi)).1;refine ⟨a3,c3,h3,F3,r3,m3,?_⟩;rw[BJ.e,Ak (by omega),Ae hi];simp only[Ag,Be,hld o rfl,Aa,Ab,es,Bh,At,Af];rw[e3];simp only[Ac,Ap,Aa,Ab,Ah,Bh,At,Af,A4,Ar (show i<9223372036854775807 by omega)])
 refine ⟨a',c',h',F',MF ?_,r,m⟩;rw[FP (by omega)];refine e.trans ?_;rw[BJ.e,Aj (by omega)]
theorem NT {l:List Ver} (hs:RVers false h [.sl 6 a l.length c] l F) (hl:lo≤h.length) (hn:Ck l) :
  ∃ a' c' h' F',Ad lo 181 [.sl 6 a l.length c] h=some (.sl 6 a' l.length c',h')∧RVers false h' [.sl 6 a' l.length c'] l F'∧Mv h [] h' F':=by
 have hn1:=hn.1;obtain ⟨a',c',h',F',e,r,m⟩:=Ny (e0:=some (h.length,0)) (n0:=some 0) (h0:=h ++ [.rows 6 (UC false) false []])
  (fun i a1 n1 c1 hh=>CO lo a l.length c a1 n1 c1 (i:Nat) hh) hs hl hn Mv.last (Sli.fresh (by simp)) (fun i hi s a2 c2 a1 n1 c1 hh hz hld ho es hp hlo=>by
   obtain ⟨o,rfl⟩:=ho;obtain ⟨G,hp⟩:=hp;obtain ⟨a3,c3,h3,F3,e3,r3,m3⟩:=Cy (lo:=lo) (v:=l[i]) hp hlo (hn.2 _ (zbb hi)).1;refine ⟨a3,c3,h3,F3,r3,m3,?_⟩;rw[CO.e,Ak (by omega),Ae hi];simp only[Ag,Be,hld o rfl,Aa,Ab,es,Bh,At,Af];rw[e3];simp only[Ac,Ap,Aa,Ab,Ah,Bh,At,Af,A4,Ar (show i<9223372036854775807 by omega)])
 refine ⟨a',c',h',F',QY ?_,r,m⟩;refine e.trans ?_;rw[CO.e,Aj (by omega)]
theorem IA {l:List Ver} (hs:RVers false h [.sl 6 a l.length c] l F) (hl:lo≤h.length) (hn:Ck l) :
  ∃ a' c' h' F',Ad lo 252 [.agg [.sl 6 a l.length c]] h=some (.agg [.sl 6 a' l.length c'],h')∧RVers false h' [.sl 6 a' l.length c'] l F'∧Mv h [] h' F':=by
 obtain ⟨a',c',h',F',e,r⟩:=E5 hs hl hn;refine ⟨a',c',h',F',KR ?_,r⟩;rw[e];simp only[Ac,Ah]
theorem GD {l:List Ver} (hs:RVers false h [.sl 6 a l.length c] l F) (hl:lo≤h.length) (hn:Ck l) :
  ∃ v h' F',Ad lo 254 [.agg [.sl 6 a l.length c]] h=some (.agg [v],h')∧RVers false h' [v] l F'∧Mv h [] h' F':=by
 have hn1:=hn.1;by_cases he:l = []
 ·subst he;exact ⟨_,h,[],Io (by rw[Bl.e,Aj (by simp)]),Sli.nil,Mv.nil⟩
 have hpos:0<l.length:=List.length_pos_iff.2 he;obtain ⟨a',c',h',F',e,r,m⟩:=Ny (e0:=none) (n0:=some 0) (h0:=h)
  (fun i a1 n1 c1 hh=>Bl lo (i:Nat) a l.length c 0 none 0 (some 0) (if i=0 then 0 else 6) a1 n1 c1 hh) hs hl hn Mv.nil Sli.nil (fun i hi s a2 c2 a1 n1 c1 hh hz hld ho es hp hlo=>by
   obtain ⟨o,rfl⟩:=ho;obtain ⟨G,hp⟩:=hp;obtain ⟨a3,c3,h3,F3,e3,r3,m3⟩:=Cy (lo:=lo) (v:=l[i]) hp hlo (hn.2 _ (zbb hi)).1;refine ⟨a3,c3,h3,F3,r3,m3,?_⟩;rw[Bl.e,Ak (by omega),Ae hi];simp only[Ag,Be,hld o rfl,Aa,Ab,es,Bh,At,Af];rw[e3];simp only[Ac,Ap,Aa,Ab,Ah,Bh,At,Af,A4,Ar (show i<9223372036854775807 by omega),if_neg (Nat.succ_ne_zero i)];by_cases h0:i=0
   ·obtain ⟨rfl,rfl⟩:=hz h0;rw[zac]
   ·rw[if_neg h0])
 refine ⟨_,h',F',Io ?_,r,m⟩;refine e.trans ?_;rw[if_neg (by omega),Bl.e,Aj (by omega)]
theorem Mm {l:List Node} (hs:RNodes false h [.sl 2 a l.length c] l F) (hl:lo≤h.length) (hn:Cs l) :
  ∃ a' c' h' F',Ad lo 167 [.agg [.sl 2 a l.length c]] h=some (.agg [.sl 2 a' l.length c'],h')∧RNodes false h' [.sl 2 a' l.length c'] l F'∧Mv h [] h' F':=by
 have hn1:=hn.1;have m0:Mv h [] (h ++ [.rows 2 (Om false) false (List.replicate l.length [.sl 0 none 0 (some 0),.sl 0 none 0 (some 0)])]) [h.length]:=Mv.last;obtain ⟨a',c',h',F',e,r,m⟩:=JD (El:=RNode false) rnode_ok (h0:=h ++ [.rows 2 (Om false) false (List.replicate l.length [.sl 0 none 0 (some 0),.sl 0 none 0 (some 0)])]) (l:=l) (g:=fun _ v=>some (id v)) (lo:=lo) (R:=2) (e:=45) (bytes:=48) (b0 := []) (F0 := [h.length]) (a0:=some (h.length,0)) (c0:=some l.length)
  (zba hl m0.le) (m0.ge hl (by simp)) m0.nd (by decide) (by simp;omega) (fun i a1 n1 c1 hh=>Bw lo a l.length c (l.length:Nat) (i:Nat) 0 none 0 (some 0) a1 n1 c1 hh) (fun i hi a1 c1 hh F1 acc hz hacc hm hr=>by
   have hm':Mv h [] hh []:=(m0.trans hm).drop;obtain ⟨o,s1,s2,b1,d1,b2,d2,G1,G2,rfl,ho,_,_,e1,e2,p1,p2,_⟩:=(hm'.keep0 rnodes_ok hs).get hi;have hsm:=hn.2 _ (zbb hi);obtain ⟨a3,c3,h3,F3,e3,r3,m3⟩:=IA (lo:=lo) p1 (zba hl (zba m0.le (zba hm.le (zbf _)))) hsm.1;obtain ⟨a4,c4,h4,F4,e4,r4,m4⟩:=E5 (lo:=lo) (m3.keep0 rvers_ok p2) (zba hl (zba m0.le (zba hm.le m3.le))) hsm.2;have m34:=m3.join m4 (rvers_ok.bd _ _ _ _ r3);refine .inr ⟨l[i],[.sl 6 a3 l[i].store.length c3,.sl 6 a4 l[i].wait.length c4],F3++F4,h4 ++ [.rows 2 45 false [[.sl 6 a3 l[i].store.length c3,.sl 6 a4 l[i].wait.length c4]]],rfl,
    ⟨_,_,F3,F4,rfl,rfl,Mv.snoc.keep0 rvers_ok (m4.keep0 rvers_ok r3),Mv.snoc.keep0 rvers_ok r4⟩,m34.trans (Mv.snoc' m34.nd),?_⟩
   rw[Bw.e,Ak (by omega),Ae hi];simp only[Ag,Be,ho,Aa,e1,e2,Af];rw[e3];simp only[Ac,Ap,Aa,Ah,Af];rw[e4];simp only[Ac,Ah,A4,Ar (show i<9223372036854775807 by omega)]) (Sli.fresh (by simp))
 rw[Kc,zcM,zbJ] at e r;refine ⟨a',c',h',F',KV ?_,r,m0.trans m⟩;rw[FP (by omega)];refine e.trans ?_;rw[Bw.e,Aj (by omega)]
theorem IB {a1 a2 a3:Pq}{c1 c2 c3:Nq}{F1 F2 F3:List Nat} (hs1:RNodes false h [.sl 2 a1 p.chain.length c1] p.chain F1) (hs2:RVers false h [.sl 6 a2 p.log.length c2] p.log F2)
  (hs3:RVss false h [.sl 1 a3 p.got.length c3] p.got F3) (hl:lo≤h.length) (hn:BT p) :
  ∃ a1' c1' a2' c2' a3' c3' h' F',Ad lo 175 [.agg (p.cs a1 c1 a2 c2 a3 c3)] h=some (.agg (p.cs a1' c1' a2' c2' a3' c3'),h')∧RPlace false h' (p.cs a1' c1' a2' c2' a3' c3') p F'∧Mv h [] h' F':=by
 have hn1:=hn.2.2.1;obtain ⟨b1,d1,h1,G1,e1,r1,m1⟩:=Mm (lo:=h.length) hs1 (zbf _) hn.1;obtain ⟨b2,d2,h2,G2,e2,r2,m2⟩:=E5 (lo:=h1.length) (m1.keep0 rvers_ok hs2) (zbf _) hn.2.1;have m12:=m1.join m2 (rnodes_ok.bd _ _ _ _ r1);have r1':=m2.keep0 rnodes_ok r1;have hs3':=m2.keep0 rvss_ok (m1.keep0 rvss_ok hs3);have m0:Mv h2 [] (h2 ++ [.rows 1 (YN false) false (List.replicate p.got.length [.sl 0 none 0 (some 0)])]) [h2.length]:=Mv.last;obtain ⟨b3,d3,h',F',e,r,m⟩:=JD (El:=RVers false) rvers_ok (h0:=h2 ++ [.rows 1 (YN false) false (List.replicate p.got.length [.sl 0 none 0 (some 0)])]) (l:=p.got) (g:=fun _ v=>some (id v)) (lo:=lo) (R:=1) (e:=41) (bytes:=24) (b0 := []) (F0 := [h2.length]) (a0:=some (h2.length,0)) (c0:=some p.got.length)
  (zba hl (zba m12.le m0.le)) (m0.ge (zba hl m12.le) (by simp)) m0.nd (by decide) (by simp;omega) (fun i a n c hh=>Bv lo a3 p.got.length c3 (p.got.length:Nat) (i:Nat) 0 0 0 none 0 (some 0) 0 none 0 (some 0) 0 none 0 (some 0) false p.me p.clock b1 p.chain.length d1 b2 p.log.length d2 a n c p.fell hh) (fun i hi q1 q2 hh F1 acc hz hacc hm hr=>by
   have hm':Mv h2 [] hh []:=(m0.trans hm).drop;obtain ⟨o,s,b,d,G,rfl,ho,es,hp,_⟩:=(hm'.keep0 rvss_ok hs3').get hi;obtain ⟨a5,c5,h5,F5,e5,r5,m5⟩:=E5 (lo:=lo) hp (zba hl (zba m12.le (zba m0.le hm.le))) (hn.2.2.2 _ (zbb hi));refine .inr ⟨p.got[i],[.sl 6 a5 p.got[i].length c5],F5,h5 ++ [.rows 1 41 false [[.sl 6 a5 p.got[i].length c5]]],rfl,Mv.snoc.keep0 rvers_ok r5,m5.trans (Mv.snoc' m5.nd),?_⟩;rw[Bv.e,Ak (by omega),Ae hi];simp only[Ag,Be,ho,Aa,es,Af];rw[e5];simp only[Ac,Ah,A4,Ar (show i<9223372036854775807 by omega)]) (Sli.fresh (by simp))
 rw[Kc,zcM,zbJ] at e r;have m3:=m12.join (m0.trans m) (fun b hb=>by
   rw[zbc] at hb;exact hb.elim (rnodes_ok.bd _ _ _ _ r1' b) (rvers_ok.bd _ _ _ _ r2 b))
 rw[zbs] at m3;refine ⟨b1,d1,b2,d2,b3,d3,h',G1++(G2++F'),KT ?_,⟨_,_,_,G1,G2,F',rfl,rfl,(m0.trans m).keep0 rnodes_ok r1',(m0.trans m).keep0 rvers_ok r2,r⟩,m3⟩;rw[e1];simp only[Ac,Ap,Aa,Ah,Af];rw[e2];simp only[Ac,Ah];rw[FP (by omega)];refine e.trans ?_;rw[Bv.e,Aj (by omega)]
theorem N0 {l:List Node} (hs:RNodes false h [.sl 2 a l.length c] l F) (hl:lo≤h.length) (hn:Cs l) :
  ∃ v h' F',Ad lo 180 [.agg [.sl 2 a l.length c]] h=some (.agg [v],h')∧RNodes false h' [v] l F'∧Mv h [] h' F':=by
 have hn1:=hn.1;obtain ⟨q,a',c',h',F',e,r,m⟩:=Dh (El:=RNode false) rnode_ok (h:=h) (l:=l) (f:=id) (lo:=lo) (R:=2) (e:=45) (bytes:=48) hl (by decide) (by omega)
  (fun i q a1 n1 c1 hh=>CT lo (i:Nat) a l.length c 0 none 0 (some 0) q a1 n1 c1 hh) (fun i hi q a1 n1 c1 hh hm=>by
   obtain ⟨o,s1,s2,b1,d1,b2,d2,G1,G2,ha,_,ho1,ho2,e1,e2,p1,p2,_⟩:=(hm.keep0 rnodes_ok hs).get hi;have hsm:=hn.2 _ (zbb hi);have hw1:=hsm.2.1;obtain ⟨v3,h3,F3,e3,r3,m3⟩:=GD (lo:=lo) p1 (zba hl hm.le) hsm.1;obtain ⟨a3,c3,es3,r3'⟩:=r3.form;have p2':=m3.keep0 rvers_ok p2;obtain ⟨q4,a4,c4,h4,F4,e4,r4,m4⟩:=Dh (El:=RVer false) rver_ok (h:=h3) (l:=l[i].wait) (f:=id) (lo:=lo) (R:=6) (e:=34) (bytes:=72) (zba hl (zba hm.le m3.le)) (by decide) (by omega)
    (fun j q5 a5 n5 c5 hh=>CS lo (i:Nat) (j:Nat) a l.length c 0 none 0 (some 0) q a1 n1 c1 a3 l[i].store.length c3 q5 a5 n5 c5 hh) (fun j hj q5 a5 n5 c5 hh2 hm2=>by
     obtain ⟨o',s1',s2',b1',d1',b2',d2',G1',G2',ha',_,_,ho2',_,e2',_,p2',_⟩:=(hm2.keep0 rnodes_ok (m3.keep0 rnodes_ok (hm.keep0 rnodes_ok hs))).get hi;obtain ⟨o'',s,b,d,G,hb,hld,es,hp,_⟩:=p2'.get hj;obtain ⟨a6,c6,h6,F6,e6,r6,m6⟩:=Cy (lo:=lo) (v:=l[i].wait[j]) hp (zba hl (zba hm.le (zba m3.le hm2.le))) (hsm.2.2 _ (zbb hj)).1;refine ⟨l[i].wait[j].cs a6 c6,F6,h6 ++ [.rows 6 34 false [l[i].wait[j].cs a6 c6]],⟨_,rfl,Mv.snoc.keep0 rtags_ok r6⟩,m6.trans (Mv.snoc' m6.nd),?_⟩;rw[CS.e,Ae hi,ha',Ag];simp only[Be,ho2',Ag,Aa,Af,e2'];rw[Ak (by omega),Ae hi];simp only[hb,Ae hj,Ag,Be,hld,Aa,Ab,es,Bh,At,Af];rw[e6];simp only[Ac,Ap,Aa,Ab,Ah,Bh,At,Af,A4,Ar (show j<9223372036854775807 by omega)])
   rw[zcM] at r4;have m34:=m3.join m4 (rvers_ok.bd _ _ _ _ r3');obtain ⟨o',s1',s2',b1',d1',b2',d2',G1',G2',ha',_,_,ho2',_,e2',_,_,_⟩:=(m4.keep0 rnodes_ok (m3.keep0 rnodes_ok (hm.keep0 rnodes_ok hs))).get hi;refine ⟨[.sl 6 a3 l[i].store.length c3,.sl q4 a4 l[i].wait.length c4],F3++F4,h4 ++ [.rows 2 45 false [[.sl 6 a3 l[i].store.length c3,.sl q4 a4 l[i].wait.length c4]]],
    ⟨_,_,F3,F4,rfl,rfl,Mv.snoc.keep0 rvers_ok (m4.keep0 rvers_ok r3'),Mv.snoc.keep0 rvers_ok r4⟩,m34.trans (Mv.snoc' m34.nd),?_⟩
   rw[CT.e,Ak (by omega),Ae hi,ha,Ag];simp only[Be,ho1,Ag,Aa,Af,e1];rw[e3];simp only[Ac,Ap,Aa,Af,es3];rw[← ha];refine e4.trans ?_;rw[CS.e,Ae hi,ha',Ag];simp only[Be,ho2',Ag,Aa,Af,e2'];rw[Aj (by omega)];simp only[A4,Ar (show i<9223372036854775807 by omega)])
 rw[zcM] at r;refine ⟨_,h',F',Rf ?_,r,m⟩;refine e.trans ?_;rw[CT.e,Aj (by omega)]
theorem TO {a1 a2 a3:Pq}{c1 c2 c3:Nq}{F1 F2 F3:List Nat} (hs1:RNodes false h [.sl 2 a1 p.chain.length c1] p.chain F1) (hs2:RVers false h [.sl 6 a2 p.log.length c2] p.log F2)
  (hs3:RVss false h [.sl 1 a3 p.got.length c3] p.got F3) (hl:lo≤h.length) (hn:BT p) :
  ∃ vs h' F',Ad lo 84 [.agg (p.cs a1 c1 a2 c2 a3 c3)] h=some (.agg vs,h')∧RPlace false h' vs p F'∧Mv h [] h' F':=by
 have hn1:=hn.2.2.1;obtain ⟨v1,h1,G1,e1,r1,m1⟩:=N0 (lo:=h.length) hs1 (zbf _) hn.1;obtain ⟨b1,d1,es1,r1⟩:=r1.form;obtain ⟨b2,d2,h2,G2,e2,r2,m2⟩:=NT (lo:=h1.length) (m1.keep0 rvers_ok hs2) (zbf _) hn.2.1;have m12:=m1.join m2 (rnodes_ok.bd _ _ _ _ r1);have r1':=m2.keep0 rnodes_ok r1;have hs3':=m2.keep0 rvss_ok (m1.keep0 rvss_ok hs3);obtain ⟨q,b3,d3,h',F',e,r,m⟩:=Dh (El:=RVers false) rvers_ok (h:=h2) (l:=p.got) (f:=id) (lo:=lo) (R:=1) (e:=41) (bytes:=24) (zba hl m12.le) (by decide) (by omega)
  (fun i q a n c hh=>CP lo (i:Nat) p.me p.clock a1 p.chain.length c1 a2 p.log.length c2 a3 p.got.length c3 p.fell 0 0 0 none 0 (some 0) 0 none 0 (some 0) 0 none 0 (some 0) false p.me p.clock b1 p.chain.length d1 b2 p.log.length d2 q a n c p.fell hh) (fun i hi q x n y hh hm=>by
   obtain ⟨o,s,b,d,G,ha,ho,es,hp,_⟩:=(hm.keep0 rvss_ok hs3').get hi;obtain ⟨a5,c5,h5,F5,e5,r5,m5⟩:=NT (lo:=lo) hp (zba hl (zba m12.le hm.le)) (hn.2.2.2 _ (zbb hi));refine ⟨[.sl 6 a5 p.got[i].length c5],F5,h5 ++ [.rows 1 41 false [[.sl 6 a5 p.got[i].length c5]]],Mv.snoc.keep0 rvers_ok r5,m5.trans (Mv.snoc' m5.nd),?_⟩;rw[CP.e,Ak (by omega),Ae hi];simp only[ha,Ag,Be,ho,Aa,es,Af];rw[e5];simp only[Ac,Ah,A4,Ar (show i<9223372036854775807 by omega)])
 rw[zcM] at r;have m3:=m12.join m (fun b hb=>by
   rw[zbc] at hb;exact hb.elim (rnodes_ok.bd _ _ _ _ r1' b) (rvers_ok.bd _ _ _ _ r2 b))
 rw[zbs] at m3;refine ⟨_,h',G1++(G2++F'),Q7 ?_,⟨_,_,_,G1,G2,F',rfl,rfl,m.keep0 rnodes_ok r1',m.keep0 rvers_ok r2,r⟩,m3⟩;rw[e1];simp only[Ac,Ap,Aa,es1,Af];rw[e2];simp only[Ac,Ah];refine e.trans ?_;rw[CP.e,Aj (by omega)]
end


variable {l:List Ver}{v:Ver}
def DP (v u:Ver):Bool:=v.key==u.key&&(v.tag.time==u.tag.time&&v.tag.place==u.tag.place)&&decide (v.past=u.past)&&(v.text.toList==u.text.toList)&&(v.gone==u.gone)
def E0 (v:Ver):Bool:=v.key==0&&(v.tag.time==0&&v.tag.place==0)&&decide (v.past.length=0)&&DQ v.text && !v.gone
def Hg (i:Nat) (v:Ver):Bool:=E0 v || (A3 v&&v.key==i)
def AO (l:List Ver):Bool:=(l.zipIdx.all fun x=>Hg x.2 x.1)&&decide (l.length=4)
theorem AX (h:AO l=true):l.length=4:=by simp only[AO,Dr,decide_eq_true_eq] at h;exact h.2
theorem C6 (h:AO l=true) {i:Nat} (hi:i<l.length):Hg i l[i]=true:=by simp only[AO,Dr,zbp] at h;have:=h.1 (l[i],i) (by rw[zcb];simp[hi]);exact this
theorem Gz (h:A3 v=true):0<v.tag.time:=by simp only[A3,Dr,decide_eq_true_eq] at h;exact (latest_lt.1 h.2).1
section
variable {lo:Nat}{ro ro':Bool}{h:Heap}{F F':List Nat}{a a':Pq}{c c':Nq}
theorem IJ {α T:Type}{p:Nat→α→Bool}{l:List α} (L:Nat→Option T) (no yes:Option T)
  (step:∀ i (hi:i<l.length),L i=if p i l[i]=true then L (i+1) else no) (done:L l.length=yes):L 0=if (l.zipIdx.all fun x=>p x.2 x.1)=true then yes else no:=by
 have hz:l.zipIdx.length=l.length:=by simp
 refine CA (l:=l.zipIdx) (p:=fun x=>p x.2 x.1) L no yes (fun i hi=>?_) (by rw[hz];exact done);rw[step i (by omega)];simp only[List.getElem_zipIdx,zbH]
theorem VG {p q:List Tag} (hs:RTags ro h [.sl 2 a p.length c] p F) (hs':RTags ro' h [.sl 2 a' q.length c'] q F') (hn:p.length≤1048576) :
  Ad lo 310 [.sl 2 a p.length c,.sl 2 a' q.length c'] h=some (.bool (decide (p=q)),h):=by
 refine Gn (h':=h) ?_;by_cases hl:p.length=q.length
 ·rw[show ((p.length:Int)==(q.length:Int))=true by simp;omega,Al];refine (CA (p:=fun x:Tag×Tag=>decide (x.1=x.2)) (l:=p.zip q) (fun i=>AM (List.length h) a p.length c a' q.length c' false (p.length:Nat) (i:Nat) h) (some (.bool false,h)) (some (.bool true,h)) (fun i hi=>?_) ?_).trans ?_
  ·have hip:i<p.length:=by simp at hi;omega
   have hiq:i<q.length:=by omega
   obtain ⟨o,rfl,ho⟩:=hs.get hip;obtain ⟨o',rfl,ho'⟩:=hs'.get hiq;rw[AM.e,Ak (by omega),Ae hip];simp only[Ag,Be,ho,ho',Aa,Ab,Af,Ae hiq,zcL,Ar (show i<9223372036854775807 by omega),zb8];have e:(p[i].time==q[i].time&&p[i].place==q[i].place)=decide (p[i]=q[i]):=by rw[zcg];cases hx:p[i];cases hy:q[i];simp
   rw[e];cases decide (p[i]=q[i])<;>simp
  ·have hz:(p.zip q).length=p.length:=by simp;omega
   rw[hz,AM.e,Aj (by omega)]
  ·have e:((p.zip q).all fun x=>decide (x.1=x.2))=decide (p=q):=by
    rw[zcg,zbp,decide_eq_true_eq];constructor
    ·intro hx;apply List.ext_getElem hl;intro i h1 h2;have:=hx (p[i],q[i]) (by rw[zbM];exact ⟨i,by simp;omega,by simp⟩);simpa using this
    ·rintro rfl x hx
     obtain ⟨i,hi,rfl⟩:=zbM.1 hx;simp
   rw[e];cases decide (p=q)<;>simp
 ·rw[show ((p.length:Int)==(q.length:Int))=false by simp;omega,Au,decide_eq_false (fun e=>hl (by rw[e]))]
theorem Xu {u:Ver} (hs:RTags ro h [.sl 2 a v.past.length c] v.past F) (hs':RTags ro' h [.sl 2 a' u.past.length c'] u.past F') (hn:v.past.length≤1048576) :
  Ad lo 251 [.agg (v.cs a c),.agg (u.cs a' c')] h=some (.bool (DP v u),h):=by
 refine ON (h':=h) ?_;simp only[VG hs hs' hn,Ac,As,zb8];unfold DP;cases (v.key==u.key)<;>cases (v.tag.time==u.tag.time&&v.tag.place==u.tag.place)<;>cases (decide (v.past=u.past))<;>cases (v.text.toList==u.text.toList)<;>cases (v.gone==u.gone)<;>rfl
theorem Ul (hs:RTags ro h [.sl 2 a v.past.length c] v.past F) (hn:v.past.length≤1048576) :
  Ad lo 251 [.agg (v.cs a c),.agg [Iv 0,Iv 0,Iv 0,.sl 0 none 0 (some 0),.str ⟨⟨[]⟩⟩,.bool false]] h=some (.bool (E0 v),h):=by
 refine MG (h':=h) ?_;have e:Ad (List.length h) 310 [.sl 2 a v.past.length c,.sl 0 none 0 (some 0)] h=some (.bool (decide (v.past.length=0)),h):=by
  refine Fy (h':=h) ?_;by_cases h0:v.past.length=0
  ·rw[h0,FE,Al,A1.e,Aj (by simp)];rfl
  ·rw[show ((v.past.length:Int)==((0:Nat):Int))=false by rw[beq_eq_false_iff_ne];omega,Au,decide_eq_false h0]
 simp only[e,Ac,As,zb8,GA];unfold E0;cases (v.key==0)<;>cases (v.tag.time==0&&v.tag.place==0)<;>cases (decide (v.past.length=0))<;>cases DQ v.text<;>cases v.gone<;>rfl
theorem SJ (hs:RVers ro h [.sl 6 a l.length c] l F) (hn:Ck l):Ad lo 154 [.agg [.sl 6 a l.length c]] h=some (.bool (AO l),h):=by
 have hn1:=hn.1;refine QD (h':=h) ?_;refine (IJ (p:=Hg) (l:=l) (fun i=>BX (List.length h) false a l.length c (l.length:Nat) (i:Nat) a l.length c h) (some (.bool false,h)) (some (.bool (decide (l.length=4)),h)) (fun i hi=>?_) ?_).trans ?_
 ·obtain ⟨o,s,b,d,G,rfl,ho,es,hp,_⟩:=hs.get hi;have hm:=hn.2 _ (zbb hi);rw[BX.e,Ak (by omega),Ae hi];simp only[Ag,Be,ho,Aa,Ab,es,Bh,At,Af];rw[Ul hp hm.1];simp only[Ac,As,Lt hp hm,Ar (show i<9223372036854775807 by omega)];unfold Hg;cases E0 l[i]<;>cases A3 l[i]<;>cases (l[i].key==i)<;>simp
 ·rw[BX.e,Aj (by omega)];by_cases h3:l.length=4
  ·rw[h3];rfl
  ·rw[show ((l.length:Int)==4)=false by simp;omega,Au,decide_eq_false h3]
 ·unfold AO;cases (l.zipIdx.all fun x=>Hg x.2 x.1)<;>simp
theorem RVers.all {n:Nat}{i:Nat} (hs:RVers ro h [.sl 6 a n c] l F) (hi:i<l.length):∃ o s a' c' G,a=some o∧ld h o.1 (o.2+i) 0 1=some [Iv l[i].key]∧ld h o.1 (o.2+i) 1 1=some [Iv l[i].tag.time] ∧
  ld h o.1 (o.2+i) 2 1=some [Iv l[i].tag.place]∧ld h o.1 (o.2+i) 3 1=some [s]∧ld h o.1 (o.2+i) 4 1=some [.str l[i].text]∧ld h o.1 (o.2+i) 5 1=some [.bool l[i].gone]∧ld h o.1 (o.2+i) 1 2=some [Iv l[i].tag.time,Iv l[i].tag.place] ∧
  ld h o.1 (o.2+i) 0 6=some [Iv l[i].key,Iv l[i].tag.time,Iv l[i].tag.place,s,.str l[i].text,.bool l[i].gone] ∧
  (∀ {R':Type} (K:Pq→Nat→Nq→Option R'),eS 2 s K=K a' l[i].past.length c')∧RTags ro h [.sl 2 a' l[i].past.length c'] l[i].past G∧(∀ b∈G,b∈F):=by
 obtain ⟨o,row,G,h1,h2,hv,hG,_⟩:=hs.read hi;obtain ⟨s,a',c',rfl,es,hp⟩:=hv.form;exact ⟨o,s,a',c',G,h1,by rw[h2];rfl,by rw[h2];rfl,by rw[h2];rfl,by rw[h2];rfl,by rw[h2];rfl,by rw[h2];rfl,by rw[h2];rfl,by rw[h2];rfl,es,hp,hG⟩
theorem J1 (hs:RVers ro h [.sl 6 a l.length c] l F) (hn:Ck l):Ad lo 162 [.agg [.sl 6 a l.length c]] h=some (.bool (AO l),h):=by
 have hn1:=hn.1;refine NF (h':=h) ?_;refine (IJ (p:=Hg) (l:=l) (fun i=>Bc (List.length h) false (i:Nat) a l.length c h) (some (.bool false,h)) (some (.bool (decide (l.length=4)),h)) (fun i hi=>?_) ?_).trans ?_
 ·obtain ⟨o,s,b,d,G,rfl,ho0,_,_,ho3,ho4,ho5,ho12,ho,es,hp,_⟩:=hs.all hi;have hm:=hn.2 _ (zbb hi);rw[Bc.e,Ak (by omega),Ae hi];simp only[Ag,Be,ho0,ho3,ho4,ho5,ho12,ho,Aa,Ab,es,Bh,At,Af,Ae hi,zb8,GA,M8 hp hm,Ac,As,Ar (show i<9223372036854775807 by omega)];have hpl:∀ {T:Type} (x y:Option T),br (decide ((l[i].past.length:Int)>0)) x y=br (!decide (l[i].past.length=0)) x y:=by
   intro T x y;by_cases h0:l[i].past.length=0
   ·rw[Aj (by omega),decide_eq_true h0];rfl
   ·rw[Ak (by omega),decide_eq_false h0];rfl
  simp only[hpl];unfold Hg E0;cases hz:(l[i].tag.time==0&&l[i].tag.place==0) with
  | true =>
   have:A3 l[i]=false:=by
    cases hv:A3 l[i] with
    | false=>rfl
    | true=>have:=Gz hv;simp at hz;omega
   rw[this];cases (l[i].key==0)<;>cases DQ l[i].text<;>cases l[i].gone<;>cases (decide (l[i].past.length=0))<;>rfl
  | false =>cases (l[i].key==0)<;>cases DQ l[i].text<;>cases l[i].gone<;>cases (decide (l[i].past.length=0))<;>cases A3 l[i]<;>cases (l[i].key==i)<;>rfl
 ·rw[Bc.e,Aj (by omega)];by_cases h3:l.length=4
  ·rw[h3];rfl
  ·rw[show ((l.length:Int)==4)=false by simp;omega,Au,decide_eq_false h3]
 ·unfold AO;cases (l.zipIdx.all fun x=>Hg x.2 x.1)<;>simp
end


variable {l:List Ver}{α:Type}{El:Rel α}
def B4 (l:List Ver) (t:Tag):Bool:=l.any fun v=>v.tag.time==t.time&&v.tag.place==t.place
section
variable {lo:Nat}{ro ro':Bool}{h:Heap}{F F':List Nat}{a a':Pq}{c c':Nq}
theorem Lb {g:Nat}{cl:List V}{p:Ver→Bool} (hs:RVers ro h [.sl 6 a l.length c] l F) (hn:l.length≤1048576)
  (hp:∀ lo v a c G,v∈l→RTags ro h [.sl 2 a v.past.length c] v.past G→Ad lo g (Di [.agg (v.cs a c)] cl) h=some (.bool (p v),h)) :
  Ad lo 186 [.sl 6 a l.length c,.fn g cl] h=some (Iv (B5 p l 0),h):=by
 have loop:∀ m k x,m+k=l.length→AE (List.length h) a l.length c g cl x (l.length:Nat) (k:Nat) h=some (Iv (B5 p (l.drop k) k),h):=by
  intro m;induction m with
  | zero =>intro k x hk;rw[AE.e,Aj (by omega),show k=l.length by omega];simp[B5]
  | succ m ih =>
   intro k x hk;have hlt:k<l.length:=by omega
   obtain ⟨o,s,b,d,G,rfl,ho,es,hv,_⟩:=hs.get hlt;rw[AE.e,Ak (by omega),Ae (by omega)];simp only[Ag,Be,ho,Aa,Ab,es,Bh,At,Af];rw[hp (List.length h) l[k] b d G (zbb hlt) hv,Ac,As,zbC hlt];simp only[B5];cases p l[k]
   ·simp only[Au,cond_false];rw[Ar (by omega)];exact ih (k+1) _ (by omega)
   ·simp
 refine ER (h':=h) ?_;exact loop l.length 0 0 (by omega)
theorem Jh {g:Nat}{cl:List V}{p:Ver→Bool} (hs:RVers ro h [.sl 6 a l.length c] l F) (hn:l.length≤1048576)
  (hp:∀ lo v a c G,v∈l→RTags ro h [.sl 2 a v.past.length c] v.past G→Ad lo g (Di [.agg (v.cs a c)] cl) h=some (.bool (p v),h)) :
  Ad lo 155 [.sl 6 a l.length c,.fn g cl] h=some (.bool (l.any p),h) :=
 Ej (h':=h) (by rw[Lb hs hn hp];simp only[Ac,Ab,O3];rw[IG];simp)
theorem Oi {t p:Int} (hs:RVers ro h [.sl 6 a l.length c] l F) (hn:l.length≤1048576) :
  Ad lo 176 [.sl 6 a l.length c,.agg [Iv t,Iv p]] h=some (.bool (B4 l ⟨t,p⟩),h):=by
 refine Ru (h':=h ++ [.rows 2 29 false [[Iv t,Iv p]]]) ?_;rw[Jh (p:=fun v=>v.tag.time==t&&v.tag.place==p) (Mv.snoc.keep0 rvers_ok hs) hn (fun lo v a c G _ _=>by
  refine OM (h':=h ++ [.rows 2 29 false [[Iv t,Iv p]]]) ?_;have:ld (h ++ [.rows 2 29 false [[Iv t,Iv p]]]) h.length 0 0 2=some [Iv t,Iv p]:=by rw[SE (row := [Iv t,Iv p]) (by rfl)];rfl
  simp only[this,Ag,Aa,Ab,Af,zb8];cases (v.tag.time==t&&v.tag.place==p)<;>rfl)]
 simp only[Ac,As];unfold B4;cases (l.any fun v=>v.tag.time==t&&v.tag.place==p)<;>rfl
theorem Sli.pre {R R' e n i:Nat}{l:List α} (hs:Sli false R e El h [.sl R' a n c] l F) (hi:i≤l.length):∃ F',Sli false R e El h [.sl R' a i c] (l.take i) F':=by
 have hn:=hs.val;subst hn;obtain ⟨R1,a1,c1,e1,g⟩:=hs;injection e1 with e1 _;injection e1 with e0 e2 _ e3;subst e0;subst e2;subst e3;have hl:(l.take i).length=i:=by simp;omega
 cases a with
 | none =>obtain ⟨rfl,h2,_⟩:=g;exact ⟨[],R',none,c,by rw[hl],by simp,h2,rfl⟩
 | some p =>
  obtain ⟨b,j⟩:=p;obtain ⟨hR,rs,Fs,g1,g2,g3,g4,g5,rfl⟩:=g;refine ⟨b ::(Fs.take i).flatten,R',some (b,j),c,by rw[hl],hR,rs,Fs.take i,g1,by rw[hl];omega,fun k hk=>?_,g4,?_,rfl⟩
  ·have:=g3 k hk;rw[hl];omega
  ·rw[hl];have:=g5.take i;rw[List.take_take,Nat.min_eq_left hi] at this;exact this
theorem N5 {R R' e n i:Nat}{l:List α} (hs:Sli false R e El h [.sl R' a n c] l F) (hi:i≤l.length) {T:Type}{K:Pq→Nat→Nq→Option T} :
  Ax a n c none (some (Iv (i:Nat))) none K=K a i c:=by
 have hn:=hs.val;subst hn;obtain ⟨R1,a',c',h1,h2⟩:=hs;injection h1 with h1 _;injection h1 with e0 e1 e2 e3;subst e0;subst e1;subst e3;have hc:∀ k,c=some k→l.length≤k:=fun k hk=>by
  cases a with
  | none=>obtain ⟨rfl,_⟩:=h2;simp
  | some p=>obtain ⟨b,i⟩:=p;obtain ⟨_,_,_,_,_,g3,_⟩:=h2;exact (g3 k hk).1
 unfold Ax FI IV JR;cases c with
 | none=>simp only[Ab,Be];rw[DT ⟨by omega,by omega⟩]
 | some k=>have:=hc k rfl;simp only[Ab,Be];rw[DT ⟨by omega,by omega⟩]
def Md (place:Int) (l:List Ver) (i:Nat) (v:Ver):Bool:=A3 v&&(v.tag.place==place) && !B4 (l.take i) v.tag
def D1 (place:Int) (l:List Ver):Bool:=(l.zipIdx.all fun x=>Md place l x.2 x.1)&&decide ((l.length:Int)≤60)
theorem PT {m:Int} (hs:RVers false h [.sl 6 a l.length c] l F) (hn:Ck l):Ad lo 88 [.sl 6 a l.length c,Iv m] h=some (.bool (D1 m l),h):=by
 have hn1:=hn.1;refine Tr (h':=h) ?_;refine (IJ (p:=Md m l) (l:=l) (fun i=>Dm (List.length h) a l.length c m false a l.length c (l.length:Nat) (i:Nat) h) (some (.bool false,h)) (some (.bool (decide ((l.length:Int)≤60)),h)) (fun i hi=>?_) ?_).trans ?_
 ·obtain ⟨F2,hpre⟩:=Sli.pre hs (show i≤l.length by omega);have hres:=fun {T:Type} (K:Pq→Nat→Nq→Option T)=>N5 hs (show i≤l.length by omega) (K:=K);obtain ⟨o,s,b,d,G,ha,ho,es,hp,_⟩:=hs.get hi;have hm:=hn.2 _ (zbb hi);have hil:(l.take i).length=i:=by simp;omega
  have hpre':RVers false h [.sl 6 a (l.take i).length c] (l.take i) F2:=by rw[hil];exact hpre
  have hht:=fun lo=>Oi (lo:=lo) (t:=l[i].tag.time) (p:=l[i].tag.place) hpre' (by omega);rw[hil] at hht;rw[Dm.e,Ak (by omega),Ae hi];simp only[ha,Ag,Be,ho,Aa,Ab,es,Bh,At,Af];rw[Lt hp hm];simp only[← ha,Ac,As,hres,hht,Ar (show i<9223372036854775807 by omega)];unfold Md;cases A3 l[i]<;>cases (l[i].tag.place==m)<;>cases B4 (l.take i) l[i].tag<;>simp
 ·rw[Dm.e,Aj (by omega)];by_cases h3:(l.length:Int)≤60
  ·rw[Ak h3,decide_eq_true h3]
  ·rw[Aj h3,decide_eq_false h3]
 ·unfold D1;cases (l.zipIdx.all fun x=>Md m l x.2 x.1)<;>simp
theorem Pk {m:Int} (hs:RVers ro h [.sl 6 a l.length c] l F) (hn:Ck l):Ad lo 178 [.sl 6 a l.length c,Iv m] h=some (.bool (D1 m l),h):=by
 have hn1:=hn.1;refine Th (h':=h) ?_;have inner:∀ i (hi:i<l.length),CB (List.length h) a l.length c m false (i:Nat) 0 h=if B4 (l.take i) l[i].tag=true then some (.bool false,h) else B8 (List.length h) a l.length c m false ((i+1:Nat):Int) h:=by
  intro i hi;obtain ⟨o,s,b,d,G,ha,_,_,_,_,_,_,ho12,_⟩:=hs.all hi;have hil:(l.take i).length=i:=by simp;omega
  refine (CA (p:=fun v:Ver => !(v.tag.time==l[i].tag.time&&v.tag.place==l[i].tag.place)) (l:=l.take i) (fun k=>CB (List.length h) a l.length c m false (i:Nat) (k:Nat) h) (some (.bool false,h)) (B8 (List.length h) a l.length c m false ((i+1:Nat):Int) h) (fun k hk=>?_) ?_).trans ?_
  ·have hkl:k<l.length:=by omega
   obtain ⟨o',s',b',d',G',ha',_,_,_,_,_,_,ho12',_⟩:=hs.all hkl;have hoo:o'=o:=by rw[ha] at ha';injection ha' with ha';exact ha'.symm
   subst hoo;rw[CB.e,Ak (by omega),Ae hkl];simp only[ha,Ag,Be,ho12,ho12',Aa,Ab,Af,Ae hi,zb8,List.getElem_take,Ar (show k<9223372036854775807 by omega)];cases (l[k].tag.time==l[i].tag.time&&l[k].tag.place==l[i].tag.place)<;>simp
  ·rw[hil,CB.e,Aj (by omega),Ar (by omega)]
  ·unfold B4;rw[List.any_eq_not_all_not];cases ((l.take i).all fun v:Ver => !(v.tag.time==l[i].tag.time&&v.tag.place==l[i].tag.place))<;>simp
 refine (IJ (p:=Md m l) (l:=l) (fun i=>B8 (List.length h) a l.length c m false (i:Nat) h) (some (.bool false,h)) (some (.bool (decide ((l.length:Int)≤60)),h)) (fun i hi=>?_) ?_).trans ?_
 ·have hin:=inner i hi;obtain ⟨o,s,b,d,G,ha,_,_,ho2,_,_,_,_,ho,es,hp,_⟩:=hs.all hi;have hm:=hn.2 _ (zbb hi);rw[B8.e,Ak (by omega),Ae hi];simp only[ha,Ag,Be,ho,Aa,Ab,es,Bh,At,Af];rw[M8 hp hm];simp only[Ac,As,Ae hi,ho2,Ag,Aa,Af,Ab];rw[← ha,hin];unfold Md;cases A3 l[i]<;>cases (l[i].tag.place==m)<;>cases B4 (l.take i) l[i].tag<;>simp
 ·rw[B8.e,Aj (by omega)];by_cases h3:(l.length:Int)≤60
  ·rw[Ak h3,decide_eq_true h3]
  ·rw[Aj h3,decide_eq_false h3]
 ·unfold D1;cases (l.zipIdx.all fun x=>Md m l x.2 x.1)<;>simp
end


variable {l:List Node}
def Bi (l:List Ver):List Tag:=l.map fun v=>v.tag
section
variable {lo:Nat}{ro ro':Bool}{h:Heap}{F F':List Nat}{a a':Pq}{c c':Nq}
theorem N1 {l:List Ver} (hs:RVers ro h [.sl 6 a l.length c] l F) (hl:lo≤h.length) (hn:l.length≤1048576) :
  ∃ v h' F',Ad lo 199 [.agg [.sl 6 a l.length c]] h=some (.agg [v],h')∧RTags false h' [v] (Bi l) F'∧Mv h [] h' F':=by
 obtain ⟨q,a',c',h',F',e,r,m⟩:=Dh (El:=flat Tag.cs) Cu (h:=h) (l:=l) (f:=fun v=>v.tag) (lo:=lo) (R:=2) (e:=29) (bytes:=16) hl (by decide) (by omega)
  (fun i q a1 n1 c1 hh=>CU lo (i:Nat) a l.length c 0 none 0 (some 0) q a1 n1 c1 hh) (fun i hi q a1 n1 c1 hh hm=>by
   obtain ⟨o,s,b,d,G,ha,_,_,_,_,_,_,ho12,_⟩:=(hm.keep0 rvers_ok hs).all hi;refine ⟨[Iv l[i].tag.time,Iv l[i].tag.place],[],hh ++ [.rows 2 29 false [[Iv l[i].tag.time,Iv l[i].tag.place]]],⟨rfl,rfl⟩,Mv.snoc,?_⟩;rw[CU.e,Ak (by omega),Ae hi];simp only[ha,Ag,Be,ho12,Aa,Ab,Af,A4,Ar (show i<9223372036854775807 by omega)])
 refine ⟨_,h',F',Rg ?_,r,m⟩;refine e.trans ?_;rw[CU.e,Aj (by omega)]
theorem KA {l:List Ver} (hs:RVers ro h [.sl 6 a l.length c] l F) (hl:lo≤h.length) (h4:l.length=4) :
  ∃ v h' F',Ad lo 90 [.agg [.sl 6 a l.length c]] h=some (.agg [v],h')∧RTags false h' [v] (Bi l) F'∧Mv h [] h' F':=by
 obtain ⟨h',F',e,r,m⟩:=XC (El:=flat Tag.cs) Cu (h0:=h) (l:=l) (f:=fun v=>v.tag) (lo:=lo) (R:=2) (e:=29) (z := [Iv 0,Iv 0]) rfl hl
  (fun i hh=>BK lo a l.length c (l.length:Nat) (i:Nat) 0 none 0 (some 0) (some (h.length,0)) 4 (some 4) hh) (fun i hi hh hm=>by
   obtain ⟨o,s,b,d,G,rfl,ho,es,_,_⟩:=(hm.keep0 rvers_ok hs).get hi;refine ⟨[Iv l[i].tag.time,Iv l[i].tag.place],[],hh,⟨rfl,rfl⟩,Mv.nil,rfl,?_⟩;rw[BK.e,Ak (by omega),Ae hi];simp only[Ag,Be,ho,Aa,Ab,es,Bh,At,Af,Ae (show i<4 by omega),zbH,Ar (show i<9223372036854775807 by omega)])
 rw[h4] at r;refine ⟨_,h',F',MI ?_,r,m⟩;rw[OP (r:=(.agg [.sl 2 (some (h.length,0)) 4 (some 4)],h ++ [.rows 2 29 false (List.replicate l.length [Iv 0,Iv 0])])) (by rw[h4];rfl)];simp only[Ac,Ap,Aa,Ah,Af];refine e.trans ?_;rw[BK.e,Aj (by omega)]
def AN (l:List Node):List Tag:=match l.getLast? with | some x=>Bi x.store | none => []
theorem Hk (h0:0<l.length):AN l=Bi (l[l.length - 1]'(by omega)).store:=by unfold AN;rw[zcm,Dc (by omega)]
theorem Ha (hs:RNodes ro h [.sl 2 a l.length c] l F) (hl:lo≤h.length) (hn:Cs l) (h0:0<l.length) :
  ∃ v h' F',Ad lo 107 [.agg [.sl 2 a l.length c]] h=some (.agg [v],h')∧RTags false h' [v] (AN l) F'∧Mv h [] h' F':=by
 have hn1:=hn.1;obtain ⟨o,s1,s2,a1,c1,a2,c2,F1,F2,ha,_,ho1,_,e1,_,p1,_⟩:=hs.get (show l.length - 1<l.length by omega);obtain ⟨v,h',F',e,r,m⟩:=N1 (lo:=lo) p1 hl (hn.2 _ (zbb _)).1.1;obtain ⟨a',c',es,r'⟩:=r.form;rw[Hk h0];refine ⟨_,h',F',OA ?_,r',m⟩;rw[wr (by omega) (by omega),BI ⟨by omega,by omega⟩,ha,Ag,show ((l.length:Int) - 1).toNat=l.length - 1 by omega,ho1];simp only[Ag,Aa,Af,e1];rw[e];simp only[Ac,Ap,Aa,es,Af]
end


variable {t:Tag}{u v:Ver}{s:ByteArray}{l:List Tag}
abbrev tx (l:List UInt8):ByteArray:=⟨⟨l⟩⟩
theorem HV {a b:List UInt8}:tx a++tx b=tx (a++b):=by apply ByteArray.ext;simp[tx]
theorem Cr {a:List UInt8}:(tx a).size=a.length:=rfl
theorem WY {a:List UInt8}:(tx a).toList=a:=by rw[zcs]
theorem U2 (s:ByteArray):tx s.data.toList=s:=rfl
def JS (n:Nat):List UInt8:=if n<10 then [UInt8.ofNat (48+n)] else JS (n / 10) ++ [UInt8.ofNat (48+n % 10)]
termination_by n
decreasing_by omega
theorem I8 (n:Nat):(JS n).length≤n+1:=by
 induction n using Nat.strongRecOn with
 | ind n ih =>
  unfold JS;split
  ·simp
  ·have:=ih (n / 10) (by omega);simp only[zbo,zbv];omega
def zae (l:List UInt8):Nat:=l.foldl (fun a c=>a*10+(c.toNat - 48)) 0
theorem O0 {k:Nat} (h:k<10):(UInt8.ofNat (48+k)).toNat=48+k:=by rw[UInt8.toNat_ofNat'];omega
theorem UH (n:Nat):zae (JS n)=n:=by
 induction n using Nat.strongRecOn with
 | ind n ih =>
  unfold JS;split
  ·rename_i h;simp only[zae,zbU,List.foldl_nil,O0 h];omega
  ·have:=ih (n / 10) (by omega);simp only[zae,List.foldl_append,zbU,List.foldl_nil] at this ⊢;rw[this,O0 (Nat.mod_lt _ (by decide))];omega
theorem Qg {n m:Nat} (h:JS n=JS m):n=m:=by rw[← UH n,← UH m,h]
theorem Y1 (n:Nat):∀ c∈JS n,48≤c.toNat∧c.toNat≤57:=by
 induction n using Nat.strongRecOn with
 | ind n ih =>
  unfold JS;split
  ·rename_i h
   intro c hc;simp only[zbi] at hc;subst hc;rw[O0 h];omega
  ·intro c hc;rw[zbc] at hc;rcases hc with hc | hc
   ·exact ih (n / 10) (by omega) c hc
   ·simp only[zbi] at hc;subst hc;rw[O0 (Nat.mod_lt _ (by decide))];omega
theorem I7 {n:Nat}{c:UInt8} (hc:c.toNat<48):c∉JS n:=fun h=>by have:=Y1 n c h;omega
def FL (t:Tag):List UInt8:=JS t.time.toNat++46 :: JS t.place.toNat
def BU (l:List Tag):List UInt8:=l.flatMap fun t=>32 :: FL t
def Kv (v:Ver):List UInt8:=bif v.gone then [45] else 61 :: v.text.data.toList
def Lj (v:Ver):List UInt8:=JS v.key.toNat++32 ::(FL v.tag++BU v.past++32 :: Kv v)
theorem O2 {x:UInt8}:∀ {a a' b b':List UInt8},a++x :: b=a'++x :: b'→x∉a→x∉a'→a=a'∧b=b'
 | [],[],b,b',h,_,_=>⟨rfl,by simpa using h⟩
 | [],y :: a',b,b',h,_,h'=>by simp only[zbJ,zbK,List.cons.injEq] at h;exact absurd (by simp[h.1]) h'
 | y :: a,[],b,b',h,h',_=>by simp only[zbJ,zbK,List.cons.injEq] at h;exact absurd (by simp[h.1]) h'
 | y :: a,z :: a',b,b',h,h1,h2=>by simp only[zbK,List.cons.injEq] at h;simp only[zbn,not_or] at h1 h2;obtain ⟨e1,e2⟩:=O2 h.2 h1.2 h2.2;exact ⟨by rw[h.1,e1],e2⟩
theorem PB:(32:UInt8)∉FL t:=by unfold FL;simp only[zbc,zbn,not_or];exact ⟨I7 (by decide),by decide,I7 (by decide)⟩
theorem Vp {u:Tag} (ht:A2 t.time t.place=true) (hu:A2 u.time u.place=true) (h:FL t=FL u):t=u:=by
 have h1:=Dx ht;have h2:=Dx hu;obtain ⟨e1,e2⟩:=O2 h (I7 (by decide)) (I7 (by decide));have e1:=Qg e1;have e2:=Qg e2;cases t;cases u;simp only[Tag.mk.injEq] at *
 omega
theorem N8:∀ {p q:List Tag}{r s:List UInt8},p.length=q.length→(∀ t∈p,A2 t.time t.place=true)→(∀ t∈q,A2 t.time t.place=true) →
  BU p++32 :: r=BU q++32 :: s→p=q∧r=s
 | [],[],r,s,_,_,_,h=>⟨rfl,by simpa [BU] using h⟩
 | [],_ :: _,_,_,h,_,_,_=>by simp at h
 | _ :: _,[],_,_,h,_,_,_=>by simp at h
 | t :: p,u :: q,r,s,hl,hp,hq,h=>by
  have e:∀ (x:List Tag) (z:List UInt8),∃ w,BU x++32 :: z=32 :: w:=by
   intro x z;cases x with
   | nil=>exact ⟨z,rfl⟩
   | cons a x=>exact ⟨_,by simp only[BU,zcq,zbK];rfl⟩
  obtain ⟨w1,hw1⟩:=e p r;obtain ⟨w2,hw2⟩:=e q s;have h0:FL t++(BU p++32 :: r)=FL u++(BU q++32 :: s):=by simpa [BU,zcq] using h
  rw[hw1,hw2] at h0;obtain ⟨e1,e2⟩:=O2 h0 PB PB;have et:=Vp (hp t (by simp)) (hq u (by simp)) e1;obtain ⟨e3,e4⟩:=N8 (by simpa using hl) (fun x hx=>hp x (by simp[hx])) (fun x hx=>hq x (by simp[hx])) (show BU p++32 :: r=BU q++32 :: s by rw[hw1,hw2,e2]);exact ⟨by rw[et,e3],e4⟩
theorem Jp {p:List Tag} (h:A6 p=true):∀ t∈p,A2 t.time t.place=true:=by simp only[A6,Dr,zbp] at h;exact h.2
theorem AB (h:A3 v=true):(0≤v.key∧v.key≤3)∧DI v.text=true∧(v.gone=true→v.text.size=0)∧A6 v.past=true∧A2 v.tag.time v.tag.place=true∧Ds v.past<v.tag.time:=by
 simp only[A3,E1,Am,Dr,decide_eq_true_eq,zbY,zbT,DQ] at h;obtain ⟨⟨⟨⟨⟨⟨h1,h2⟩,h3⟩,h4⟩,h5⟩,h6⟩,h7⟩:=h;refine ⟨⟨h1,h2⟩,h3,fun hg=>?_,h5,h6,h7⟩;rcases h4 with h4 | h4
 ·rw[hg] at h4;cases h4
 ·exact h4
theorem KJ {t:ByteArray} (h:s.data.toList=t.data.toList):s=t:=by rw[← U2 s,← U2 t,h]
theorem NA (h:s.size=0):s.data.toList = []:=zbm (by simpa using h)
theorem Vo (hv:A3 v=true) (hu:A3 u=true) (h:Lj v=Lj u):v=u:=by
 obtain ⟨⟨k1,k2⟩,_,g1,p1,t1,_⟩:=AB hv;obtain ⟨⟨k3,k4⟩,_,g2,p2,t2,_⟩:=AB hu;obtain ⟨e1,e2⟩:=O2 h (I7 (by decide)) (I7 (by decide));have e1:=Qg e1;have l1:=Bn p1;have l2:=Bn p2;have e3:BU (v.tag :: v.past)++32 :: Kv v=BU (u.tag :: u.past)++32 :: Kv u:=by simp only[BU,zcq,zbK,zbs] at e2 ⊢;rw[e2]
 obtain ⟨e4,e5⟩:=N8 (by simp[l1,l2]) (fun t ht=>by
  rcases zbn.1 ht with rfl | ht
  ·exact t1
  ·exact Jp p1 t ht) (fun t ht=>by
  rcases zbn.1 ht with rfl | ht
  ·exact t2
  ·exact Jp p2 t ht) e3
 injection e4 with e6 e7;have e8:v.gone=u.gone∧v.text=u.text:=by
  unfold Kv at e5;cases hg:v.gone<;>cases hg2:u.gone<;>simp only[hg,hg2,cond_true,cond_false,List.cons.injEq] at e5
  ·exact ⟨rfl,KJ e5.2⟩
  ·exact absurd e5.1 (by decide)
  ·exact absurd e5.1 (by decide)
  ·exact ⟨rfl,KJ (by rw[NA (g1 hg),NA (g2 hg2)])⟩
 cases v;cases u;simp only[Ver.mk.injEq] at *
 exact ⟨by omega,e6,e7,e8.2,e8.1⟩
theorem same_iff:DP v u=true↔v=u:=by
 cases v with | mk k1 t1 p1 s1 g1=>cases u with | mk k2 t2 p2 s2 g2 =>
 cases t1;cases t2;simp only[DP,Dr,beq_iff_eq,decide_eq_true_eq,Ver.mk.injEq,Tag.mk.injEq];constructor
 ·rintro ⟨⟨⟨⟨h1,h2⟩,h3⟩,h4⟩,h5⟩
  exact ⟨h1,h2,h3,KJ (by rwa [zcs,zcs] at h4),h5⟩
 ·rintro ⟨h1,h2,h3,h4,h5⟩
  exact ⟨⟨⟨⟨h1,h2⟩,h3⟩,by rw[h4]⟩,h5⟩
theorem T5 (hv:A3 v=true) (hu:A3 u=true):(Lj v==Lj u)=DP v u:=by rw[zcg,beq_iff_eq,same_iff];exact ⟨Vo hv hu,fun h=>by rw[h]⟩
section
variable {lo:Nat}{ro ro':Bool}{h:Heap}{F F':List Nat}{a a':Pq}{c c':Nq}
theorem Sj {n:Int} (h0:0≤n) (h1:n<10):JC [IntKind.wrap .u8 (IntKind.wrap .i64 (48+n))]=tx [UInt8.ofNat (48+n.toNat)]:=by
 have e:IntKind.wrap .u8 (IntKind.wrap .i64 (48+n))=((48+n.toNat:Nat):Int):=by
  rw[wr (by omega) (by omega)];obtain ⟨k,rfl⟩:=Int.eq_ofNat_of_zero_le h0;have:k<10:=by omega
  rcases k with _ | _ | _ | _ | _ | _ | _ | _ | _ | _ | k<;>first | rfl | omega
 rw[e];rfl
theorem Li:∀ {n:Int},0≤n→n≤1000000000→∀ {lo:Nat}{h:Heap},Ad lo 344 [Iv n] h=some (.str (tx (JS n.toNat)),h):=by
 suffices ∀ (m:Nat) (n:Int),n.toNat=m→0≤n→n≤1000000000→∀ {lo:Nat}{h:Heap},Ad lo 344 [Iv n] h=some (.str (tx (JS n.toNat)),h) from fun {n} h0 h1 {lo}{h}=>this n.toNat n rfl h0 h1;intro m;induction m using Nat.strongRecOn with
 | ind m ih =>
  intro n hm h0 h1 lo h;by_cases h10:n<10
  ·refine MD (h':=h ++ [.rows 1 5 false [[.int .u8 (IntKind.wrap .u8 (IntKind.wrap .i64 (48+n)))]]]) ?_;rw[Aj (by omega),Aj (by omega),Ak h10];simp only[A4,EZ,Ag];rw[Sj h0 h10];unfold JS;rw[if_pos (by omega)]
  ·have e1:n.tdiv 10=n / 10:=Int.tdiv_eq_ediv_of_nonneg h0;have e2:n.tmod 10=n % 10:=Int.tmod_eq_emod_of_nonneg h0;refine MD (h':=h ++ [.rows 1 5 false [[.int .u8 (IntKind.wrap .u8 (IntKind.wrap .i64 (48+n.tmod 10)))]]]) ?_;have hl:=I8 (n / 10).toNat;rw[Aj (by omega),Aj (by omega),Aj h10,e1,wr (by omega) (by omega),ih (n / 10).toNat (by omega) (n / 10) rfl (by omega) (by omega)];simp only[Ac,Bh,A4,EZ,Ag];rw[e2,Sj (by omega) (by omega),Il (by rw[Cr,Cr];simp only[zbv];omega),HV];conv=>rhs;unfold JS
   rw[if_neg (by omega),show (n / 10).toNat=n.toNat / 10 by omega,show (n % 10).toNat=n.toNat % 10 by omega]
theorem Lk (h:A2 t.time t.place=true):(FL t).length≤1010:=by have h1:=Dx h;have h2:=I8 t.time.toNat;have h3:=I8 t.place.toNat;simp only[FL,zbo,zbZ];omega
theorem Ps (ht:A2 t.time t.place=true):Ad lo 345 [.agg [Iv t.time,Iv t.place]] h=some (.str (tx (FL t)),h):=by have h1:=Dx ht;have h2:=I8 t.time.toNat;have h3:=I8 t.place.toNat;refine To (h':=h) ?_;rw[Li (by omega) (by omega)];simp only[Ac,Bh];rw[Il (by rw[Cr,Cr];simp only[zbv];omega),HV,Li (by omega) (by omega)];simp only[Ac,Bh];rw[Il (by rw[Cr,Cr];simp only[zbo,zbv];omega),HV];simp[FL]
theorem N7 (h:∀ t∈l,A2 t.time t.place=true):(BU l).length≤1011*l.length:=by
 induction l with
 | nil=>simp[BU]
 | cons t l ih =>have h1:=ih fun x hx=>h x (by simp[hx]);have h2:=Lk (h t (by simp));simp only[BU,zcq,zbo,zbZ] at h1 ⊢;omega
theorem TS (hs:RTags ro h [.sl 2 a l.length c] l F) (hp:∀ t∈l,A2 t.time t.place=true) (hn:l.length≤1048576):Ad lo 346 [.agg [.sl 2 a l.length c]] h=some (.str (tx (BU l)),h):=by
 refine Ri (h':=h) ?_;have loop:∀ m i,m+i=l.length→CV (List.length h) (tx (BU (l.take i))) (i:Nat) a l.length c h=some (.str (tx (BU l)),h):=by
  intro m;induction m with
  | zero =>
   intro i hi;have:i=l.length:=by omega
   subst this;rw[CV.e,Aj (by omega),List.take_length]
  | succ m ih =>
   intro i hi;have hlt:i<l.length:=by omega
   obtain ⟨o,ha,ho⟩:=hs.get hlt;have hl:=N7 (l:=l.take i) fun t ht=>hp t (zcC ht);have hl2:=Lk (hp _ (zbb hlt));simp only[zcu] at hl;rw[CV.e,Ak (by omega),Il (by rw[Cr,Cr];simp only[zbv];omega),Ae hlt];simp only[ha,Ag,Be,ho,Aa,Ab,Af];rw[Ps (hp _ (zbb hlt))];simp only[Ac,Bh];rw[HV,Il (by rw[Cr,Cr];simp only[zbo,zbv];omega),HV,Ar (by omega),← ha];have e9:BU (l.take (i+1))=BU (l.take i) ++ [32]++FL l[i]:=by rw[List.take_add_one,Dc hlt];simp only[BU,Option.toList,List.flatMap_append,zcq,List.flatMap_nil,zb6,zbs,List.singleton_append]
   have:=ih (i+1) (by omega);rw[e9] at this;exact this
 simpa [BU] using loop l.length 0 (by omega)
theorem DN (h:DI s=true):s.size≤8:=by simp only[DI,Dr,decide_eq_true_eq] at h;omega
theorem Po (hs:RTags ro h [.sl 2 a v.past.length c] v.past F) (hv:A3 v=true):Ad lo 324 [.agg (v.cs a c)] h=some (.str (tx (Lj v)),h):=by
 obtain ⟨⟨k1,k2⟩,ht,_,hp,htg,_⟩:=AB hv;have h0:=DN ht;have h4:=Bn hp;have h1:=I8 v.key.toNat;have h2:=Lk htg;have h3:=N7 (Jp hp);rw[h4] at h3;have e:=fun lo=>TS (lo:=lo) hs (Jp hp) (by omega);have hts:(⟨⟨[61]⟩⟩:ByteArray)++v.text=tx (61 :: v.text.data.toList):=by rw[← U2 v.text];exact HV
 have key:∀ (r:List UInt8) {T:Type} (K:ByteArray→Heap→Option T),r.length≤9→(Ai (Ad (List.length h) 344 [Iv v.key] h) fun v_1 h_2=>eT v_1 fun s_3=>My s_3 ⟨⟨[32]⟩⟩ fun s_4=>Ai (Ad (List.length h) 345 [.agg [Iv v.tag.time,Iv v.tag.place]] h_2) fun v_5 h_6=>eT v_5 fun s_7=>My s_4 s_7 fun s_8 =>
   Ai (Ad (List.length h) 346 [.agg [.sl 2 a v.past.length c]] h_6) fun v_9 h_10=>eT v_9 fun s_11=>My s_8 s_11 fun s_12=>My s_12 ⟨⟨[32]⟩⟩ fun s_13=>My s_13 (tx r) fun s_14=>K s_14 h_10)=K (tx (JS v.key.toNat++32 ::(FL v.tag++BU v.past++32 :: r))) h:=by
  intro r T K hr;rw[Li (by omega) (by omega)];simp only[Ac,Bh];rw[Il (by rw[Cr,Cr];simp only[zbv];omega)];rw[Ps htg];simp only[Ac,Bh];rw[HV,Il (by rw[Cr,Cr];simp only[zbo,zbv];omega)];rw[e];simp only[Ac,Bh];rw[HV,Il (by rw[Cr,Cr];simp only[zbo,zbv];omega)];rw[HV,Il (by rw[Cr,Cr];simp only[zbo,zbv];omega)];rw[HV,Il (by rw[Cr,Cr];simp only[zbo,zbv];omega)];rw[HV];simp
 refine Tl (h':=h) ?_;rw[Il (by rw[Cr];simp only[zbv];omega),hts];cases hg:v.gone
 ·rw[Au];refine (key (61 :: v.text.data.toList) (T:=V×Heap) (fun s h=>some (V.str s,h)) (by simp;omega)).trans ?_;simp[Lj,Kv,hg]
 ·rw[Al];refine (key [45] (T:=V×Heap) (fun s h=>some (V.str s,h)) (by simp)).trans ?_;simp[Lj,Kv,hg]
theorem TR (hs:RTags ro h [.sl 2 a v.past.length c] v.past F) (hs':RTags ro' h [.sl 2 a' u.past.length c'] u.past F') (hv:A3 v=true) (hu:A3 u=true) :
  Ad lo 275 [.agg (v.cs a c),.agg (u.cs a' c')] h=some (.bool (DP v u),h):=by
 refine Rh (h':=h) ?_;rw[Po hs hv];simp only[Ac,Bh];rw[Po hs' hu];simp only[Ac,Bh,WY];rw[T5 hv hu];cases DP v u<;>rfl
end


variable {l:List Ver}{v:Ver}{ro:Bool}
theorem Sli.at {α:Type}{El:Rel α} (ok:El.Ok) {h:Heap}{R R' e n k lo:Nat}{a:Pq}{c:Nq}{l:List α}{F:List Nat} (hs:Sli false R e El h [.sl R' a n c] l F) (hk:k<l.length) (hnd:F.Nodup) (hlo:∀ b∈F,lo≤b) :
  ∃ b i rs row G,a=some (b,i)∧b∈F∧b∉G∧h[b]?=some (.rows R e false rs)∧rs[i+k]?=some row∧El h row l[k] G∧(∀ y∈G,y∈F)∧G.Nodup ∧
   (∀ h' x' G',Mv h G h' G'→El h' row x' G'→∃ F',Sli false R e El h' [.sl R' a n c] (l.set k x') F'∧Mv h F h' F') ∧
   (∀ h1 G1 j cs row' x',Mv h G h1 G1→paste row j cs=some row'→El h1 row' x' G1 →
    ∃ h2 F',st lo h1 b (i+k) j cs=some h2∧Sli false R e El h2 [.sl R' a n c] (l.set k x') F'∧Mv h F h2 F'∧h2[b]?=some (.rows R e false (rs.set (i+k) row'))∧(∀ y,y≠b→h2[y]?=h1[y]?)∧h2.length=h1.length):=by
 have hbd:=(Sli.ok ok).bd _ _ _ _ hs;obtain ⟨b,i,rs,row,G,ha,hbF,hbG,hb,hrow,hel,hGF,hGn,put⟩:=hs.put ok.fr hk hnd;have hblt:b<h.length:=hbd b hbF;refine ⟨b,i,rs,row,G,ha,hbF,hbG,hb,hrow,hel,hGF,hGn,fun h' x' G' m hx=>?_,fun h1 G1 j cs row' x' m hp hx=>?_⟩
 ·obtain ⟨F',p1,p2,p3,_⟩:=put h' row x' G' (by rw[set_same hrow,m.fr b hblt hbG];exact hb) (fun y hy _ hyG=>m.fr y (hbd y hy) hyG) hx m.nd (fun y hy hyF=>by
   rcases m.sub y hy with h1 | h1
   ·exact h1
   ·have:=hbd y hyF;omega)
  refine ⟨F',p1,m.le,fun y hy hyF=>m.fr y hy fun hg=>hyF (hGF y hg),p3,fun y hy=>?_⟩;rcases p2 y hy with h1 | h1
  ·exact .inl h1.1
  ·exact (m.sub y h1).imp (hGF y) id
 ·have hbG1:b∉G1:=fun hm=>by
   rcases m.sub b hm with h1 | h1
   ·exact hbG h1
   ·omega
  have hb1:h1[b]?=some (.rows R e false rs):=by rw[m.fr b hblt hbG];exact hb
  have hb1lt:b<h1.length:=zbk hblt m.le;have e2:=DJ hb1 (hlo b hbF) hrow hp;have fr2:∀ y,y≠b→(h1.set b (.rows R e false (rs.set (i+k) row')))[y]?=h1[y]?:=fun y hy=>zbh (Ne.symm hy);obtain ⟨F',p1,p2,p3,_⟩:=put (h1.set b (.rows R e false (rs.set (i+k) row'))) row' x' G1 (by simp[hb1lt]) (fun y hy hyb hyG=>by rw[fr2 y hyb];exact m.fr y (hbd y hy) hyG)
   (ok.fr _ _ _ _ _ hx fun y hy=>fr2 y fun e=>hbG1 (e ▸ hy)) m.nd (fun y hy hyF=>by
   rcases m.sub y hy with h1 | h1
   ·exact h1
   ·have:=hbd y hyF;omega)
  refine ⟨_,F',e2,p1,⟨by simpa using m.le,fun y hy hyF=>?_,p3,fun y hy=>?_⟩,by simp[hb1lt],fr2,by simp⟩
  ·rw[fr2 y fun e=>hyF (e ▸ hbF)];exact m.fr y hy fun hg=>hyF (hGF y hg)
  ·rcases p2 y hy with h1 | h1
   ·exact .inl h1.1
   ·refine (m.sub y h1).imp (hGF y) fun h=>by simpa using h
def AZ (v u:Ver):Bool:=Gp v.tag.time v.tag.place u.tag.time u.tag.place
def DK (s t:List Ver):Bool:=decide (s.length=t.length)&&(s.zip t).all fun x=>DP x.1 x.2
theorem sameVers_iff {s t:List Ver}:DK s t=true↔s=t:=by
 unfold DK;rw[Dr,decide_eq_true_eq,zbp];constructor
 ·rintro ⟨hl,hx⟩
  apply List.ext_getElem hl;intro i h1 h2;have:=hx (s[i],t[i]) (by rw[zbM];exact ⟨i,by simp;omega,by simp⟩);exact same_iff.1 this
 ·rintro rfl
  refine ⟨rfl,fun x hx=>?_⟩;obtain ⟨i,hi,rfl⟩:=zbM.1 hx;simp[same_iff]
def Eb (l:List Ver) (v:Ver):List Ver:=match l[v.key.toNat]? with
 | some x=>bif AZ x v then l.set v.key.toNat v else l
 | none=>l
theorem Ly (h:v.key.toNat<l.length):Eb l v=bif AZ l[v.key.toNat] v then l.set v.key.toNat v else l:=by unfold Eb;rw[Dc h]
theorem addVer_len:(Eb l v).length=l.length:=by
 unfold Eb;split
 ·cases AZ _ v<;>simp
 ·rfl
theorem XW (h:A3 v=true):Hg v.key.toNat v=true:=by have:=(AB h).1;unfold Hg;rw[h,show (v.key==((v.key.toNat:Nat):Int))=true by rw[beq_iff_eq];omega];simp
theorem Iq (hl:AO l=true) (hv:A3 v=true):AO (l.set v.key.toNat v)=true:=by
 have h4:=AX hl;unfold AO;rw[Dr,zbp,decide_eq_true_eq];refine ⟨fun x hx=>?_,by simpa using h4⟩;rw[zcb] at hx;have hi:=(EY hx).1;rw[List.getElem?_set] at hx;split at hx
 ·rename_i he
  split at hx
  ·injection hx with hx;rw[← hx,← he];exact XW hv
  ·cases hx
 ·rw[Dc (by simpa using hi)] at hx;injection hx with hx;rw[← hx];exact C6 hl _
theorem TK (hl:AO l=true) (hv:A3 v=true):AO (Eb l v)=true:=by
 unfold Eb;split
 ·cases AZ _ v
  ·exact hl
  ·exact Iq hl hv
 ·exact hl
def Du:List Ver→List Ver→Option (List Ver)
 | s,[]=>some s
 | s,v :: r=>match s[v.key.toNat]? with
  | some x=>bif AZ x v then Du (s.set v.key.toNat v) r else none
  | none=>none
def SM (x:Node) (next:List Ver):Bool:=match Du next x.wait with
 | some s=>DK s x.store
 | none=>false
def BS (x:Node):Bool:=AO x.store&&decide ((x.wait.length:Int)≤6)&&x.wait.all A3
def EP (l:List Node) (k:Nat) (x:Node):Bool:=match l[k+1]? with
 | some y=>SM x y.store
 | none=>decide (x.wait.length=0)
def Cj (l:List Node):Bool:=Am l.length 1 4&&l.all BS&&l.zipIdx.all fun x=>EP l x.2 x.1
theorem AD {x:Node} (h:BS x=true):AO x.store=true∧x.wait.length≤6∧∀ v∈x.wait,A3 v=true:=by simp only[BS,Dr,decide_eq_true_eq,zbp] at h;exact ⟨h.1.1,by have:=h.1.2;omega,h.2⟩
section
variable {lo:Nat}{h:Heap}{F F':List Nat}{a a':Pq}{c c':Nq}
theorem Ls {ca:Pq}{cc:Nq}{n:Nat} (hs:RVers ro h [.sl 6 a l.length c] l F) (hk:0≤v.key∧v.key<l.length) :
  Ad lo 187 [.agg [.sl 6 a l.length c],.agg [Iv v.key,Iv v.tag.time,Iv v.tag.place,.sl 2 ca n cc,.str v.text,.bool v.gone]] h=some (.bool (AZ (l[v.key.toNat]'(by omega)) v),h):=by
 refine LI (h':=h) ?_;obtain ⟨o,s,b,d,G,ha,_,_,_,_,_,_,ho12,_⟩:=hs.all (show v.key.toNat<l.length by omega);rw[BI ⟨by omega,by omega⟩,ha];simp only[Ag,ho12,Aa,Ab,Af,HK,Ac,As];unfold AZ;cases Gp _ _ _ _<;>rfl
theorem PX {l':List Ver}{ro':Bool} (hs:RVers ro h [.sl 6 a l.length c] l F) (hs':RVers ro' h [.sl 6 a' l'.length c'] l' F') (hn:Ck l) :
  Ad lo 288 [.sl 6 a l.length c,.sl 6 a' l'.length c',.fn 251 []] h=some (.bool (DK l l'),h):=by
 have hn1:=hn.1;refine C0 (h':=h) ?_;unfold DK;by_cases hl:l.length=l'.length
 ·rw[show ((l.length:Int)==(l'.length:Int))=true by simp;omega,Al,decide_eq_true hl];have hz:(l.zip l').length=l.length:=by simp;omega
  refine (CA (p:=fun x:Ver×Ver=>DP x.1 x.2) (l:=l.zip l') (fun i=>Aq (List.length h) a' l'.length c' 251 [] false a l.length c (l.length:Nat) (i:Nat) h) (some (.bool false,h)) (some (.bool true,h)) (fun i hi=>?_) ?_).trans ?_
  ·have hil:i<l.length:=by omega
   have hil':i<l'.length:=by omega
   obtain ⟨o,s,b,d,G,ha,ho,es,hp,_⟩:=hs.get hil;obtain ⟨o',s',b',d',G',ha',ho',es',hp',_⟩:=hs'.get hil';rw[Aq.e,Ak (by omega),Ae hil];simp only[ha,ha',Ag,Be,ho,ho',Aa,Ab,es,es',Bh,At,Af,Ae hil',Di,zb6];rw[Xu hp hp' (hn.2 _ (zbb hil)).1];simp only[Ac,As,zcL,Ar (show i<9223372036854775807 by omega)];cases DP l[i] l'[i]<;>simp
  ·rw[hz,Aq.e,Aj (by omega)]
  ·cases (l.zip l').all fun x=>DP x.1 x.2<;>rfl
 ·rw[show ((l.length:Int)==(l'.length:Int))=false by simp;omega,Au,decide_eq_false hl];rfl
theorem Ou {l':List Ver}{ro':Bool} (hs:RVers ro h [.sl 6 a l.length c] l F) (hs':RVers ro' h [.sl 6 a' l'.length c'] l' F') (hn:Ck l) :
  Ad lo 253 [.agg [.sl 6 a l.length c],.agg [.sl 6 a' l'.length c']] h=some (.bool (DK l l'),h):=by
 refine MJ (h':=h) ?_;rw[PX hs hs' hn];simp only[Ac,As];cases DK l l'<;>rfl
theorem Lh {av:Pq}{cv:Nq}{G:List Nat} (hs:RVers false h [.sl 6 a l.length c] l F) (hv:RTags false h [.sl 2 av v.past.length cv] v.past G)
  (hnd:F.Nodup) (hlo:∀ b∈F,lo≤b) (hl:lo≤h.length) (hk:0≤v.key∧v.key<l.length) (hn:v.past.length≤1048576) :
  ∃ h' F',Ad lo 256 [.agg [.sl 6 a l.length c],.agg (v.cs av cv)] h=some (.agg [.sl 6 a l.length c],h')∧RVers false h' [.sl 6 a l.length c] (Eb l v) F'∧Mv h F h' F':=by
 have hkl:v.key.toNat<l.length:=by omega
 obtain ⟨o,s,b,d,G1,ha,_,_,_,_,_,_,ho12,_⟩:=hs.all hkl;suffices hk:∃ h' F',_=some (V.agg [.sl 6 a l.length c],h')∧RVers false h' [.sl 6 a l.length c] (Eb l v) F'∧Mv h F h' F' from hk.imp fun h' hk=>hk.imp fun F' hk=>⟨Tn hk.1,hk.2⟩
 rw[BI ⟨by omega,by omega⟩];simp only[ha,Ag,ho12,Aa,Ab,Af,Bz,Ac,As];rw[Ly hkl];show ∃ h' F',br (AZ l[v.key.toNat] v) _ _=_∧_;cases hle:AZ l[v.key.toNat] v with
 | false=>exact ⟨h,F,rfl,by rw[← ha];exact hs,Mv.refl hnd⟩
 | true =>
  obtain ⟨b2,i2,rs,row,G2,ha2,hb2,hbG2,hbb,hrow,hel,hGF,hGn,_,wr⟩:=hs.at rver_ok hkl hnd hlo;obtain ⟨a3,c3,h3,F3,e3,r3,m3⟩:=Cy (lo:=lo) (v:=v) hv hl hn;have hab:o=(b2,i2):=by rw[ha] at ha2;injection ha2
  subst hab;obtain ⟨h4,F4,e4,r4,m4,_⟩:=wr h3 F3 0 (v.cs a3 c3) (v.cs a3 c3) v (m3.wide (by simp)) (Db (by obtain ⟨s,rfl,_⟩:=hel;rfl)) ⟨_,rfl,r3⟩;rw[Al,e3];simp only[Ac,Ap,Aa,Ab,Ah,Bh,At,Af];rw[BI ⟨by omega,by omega⟩,e4];exact ⟨h4,F4,rfl,by rw[← ha];exact r4,m4⟩
end


variable {l:List Ver}{v:Ver}
theorem Sn {T:Type}{b:Bool}{x y:Option T}:br b x y=if b=true then x else y:=by cases b<;>rfl
theorem Sli.row {α:Type}{El:Rel α} (hfr:El.Fr) {R R' e n k lo b i:Nat} (hln:El.Ln R) {h:Heap}{c:Nq}{l:List α}{G Gx:List Nat}{row:List V}{x:α} (hs:Sli false R e El h [.sl R' (some (b,i)) n c] l (b :: G)) (hb:b∉G) (hk:k<l.length) (hlo:lo≤b)
  (hx:El h row x Gx) (hbx:b∉Gx):∃ h' G',st lo h b (i+k) 0 row=some h'∧Sli false R e El h' [.sl R' (some (b,i)) n c] (l.set k x) (b :: G')∧b∉G'∧h'.length=h.length∧∀ y,y≠b→h'[y]?=h[y]?:=by
 have hn:=hs.val;subst hn;obtain ⟨R1,a1,c1,e1,e2⟩:=hs;injection e1 with e1 _;injection e1 with e0 e3 _ e4;subst e0;subst e3;subst e4;obtain ⟨hR,rs,Fs,g1,g2,g3,g4,g5,g6⟩:=e2;injection g6 with _ g6;subst g6;obtain ⟨row0,G0,k1,k2,k3⟩:=g5.get (Dc hk);have hblt:b<h.length:=(EY g1).1;have hrow:rs[i+k]?=some row0:=by rw[List.getElem?_take_of_lt hk,zbR] at k1;exact k1
 have hp:paste row0 0 row=some row:=Db (by rw[hln _ _ _ _ k3,hln _ _ _ _ hx]);have fr2:∀ y,y≠b→(h.set b (.rows R e false (rs.set (i+k) row)))[y]?=h[y]?:=fun y hy=>zbh (Ne.symm hy);have hl1:((rs.set (i+k) row).drop i).take l.length=((rs.drop i).take l.length).set k row:=by rw[List.drop_set,if_neg (by omega),show i+k - i=k by omega,List.take_set]
 refine ⟨_,(Fs.set k Gx).flatten,DJ g1 hlo hrow hp,⟨R',some (b,i),c,by simp,hR,rs.set (i+k) row,Fs.set k Gx,by simp[hblt],by simpa using g2,fun q hq=>by simpa using g3 q hq,g4,?_,rfl⟩,fun hm=>?_,by simp,fr2⟩
 ·rw[zbz,hl1];exact EAll.set (g5.fr hfr fun y hy=>fr2 y fun e=>hb (e ▸ hy)) (hfr _ _ _ _ _ hx fun y hy=>fr2 y fun e=>hbx (e ▸ hy))
 ·rcases Hu hm with h6 | h6
  ·exact hb h6
  ·exact hbx h6
theorem Zo {ro:Bool}:(RVer ro).Ln 6:=by rintro h cs x F ⟨s,rfl,_⟩;rfl
theorem LR (h:E0 v=true):v=⟨0,⟨0,0⟩,[],⟨⟨[]⟩⟩,false⟩:=by obtain ⟨k,⟨t1,t2⟩,p,s,g⟩:=v;simp only[E0,DQ,Dr,beq_iff_eq,decide_eq_true_eq,zbT] at h;obtain ⟨⟨⟨⟨h1,h2,h3⟩,h4⟩,h5⟩,h6⟩:=h;simp only[Ver.mk.injEq,Tag.mk.injEq];exact ⟨h1,⟨h2,h3⟩,zbm h4,KJ (by rw[NA h5]),h6⟩
theorem De {i:Nat} (h:Hg i v=true):E0 v=true∨(A3 v=true∧v.key=i):=by simp only[Hg,zbY,Dr,beq_iff_eq] at h;exact h
theorem ED (h:E0 v=true):v.tag.time=0∧v.tag.place=0:=by rw[LR h];exact ⟨rfl,rfl⟩
theorem Va {l':List Ver} (h:Ck l) (hl:l'.length≤1048576) (hs:∀ v∈l',v∈l):Ck l':=⟨hl,fun v hv=>h.2 v (hs v hv)⟩
theorem Jj (h:AO l=true):Ck l:=by
 refine ⟨by have:=AX h;omega,fun v hv=>?_⟩;obtain ⟨i,hi,rfl⟩:=zbM.1 hv;rcases De (C6 h hi) with h1 | ⟨h1,_⟩
 ·rw[LR h1];exact ⟨by simp,by show 0≤_;omega⟩
 ·obtain ⟨_,h2,_,h3,_⟩:=AB h1;have:=DN h2;have:=Bn h3;omega
section
variable {lo:Nat}{h:Heap}{F F':List Nat}{a a':Pq}{c c':Nq}
theorem SH {n:Int}:Ad lo 153 [Iv n] h=some (.bool (Am n 1 4),h):=QB (h':=h) (by simp[FC])
theorem R5 {n k:Nat} (hn:n≤1048576):Ad lo 158 [.agg [.sl 2 a n c],Iv (k:Nat)] h=some (.bool (decide (k+1=n)),h):=by
 refine MP (h':=h) ?_;rw[wr (by omega) (by omega)];by_cases hk:k+1=n
 ·rw[show ((k:Int)==(n:Int) - 1)=true by rw[beq_iff_eq];omega,decide_eq_true hk];rfl
 ·rw[show ((k:Int)==(n:Int) - 1)=false by rw[beq_eq_false_iff_ne];omega,decide_eq_false hk];rfl
theorem Xv {x:Node}{next:List Ver}{a1 a2 a3:Pq}{c1 c2 c3:Nq}{F1 F2 F3:List Nat} (hs1:RVers false h [.sl 6 a1 x.store.length c1] x.store F1) (hs2:RVers false h [.sl 6 a2 x.wait.length c2] x.wait F2)
  (hs3:RVers false h [.sl 6 a3 next.length c3] next F3) (hx:BS x=true) (hnx:AO next=true) :
  Ad lo 159 [.agg [.sl 6 a1 x.store.length c1,.sl 6 a2 x.wait.length c2],.agg [.sl 6 a3 next.length c3]] h=some (.bool (SM x next),h):=by
 obtain ⟨hx1,hx2,hx3⟩:=AD hx;obtain ⟨a5,c5,h5,F5,e5,r5,m5⟩:=IA (lo:=h.length) hs3 (zbf _) (Jj hnx);have h4:=AX hnx;suffices hk:∃ h',_=some (V.bool (SM x next),h') from hk.elim fun h' hk=>NM hk;rw[e5];simp only[Ac,Ap,Aa,Ah,Af];have loop:∀ m i s hh b j G,m+i=x.wait.length→AO s=true→RVers false hh [.sl 6 (some (b,j)) s.length c5] s (b :: G)→b∉G→h.length≤b→Mv h [] hh [] →
   ∃ h',BW (List.length h) false a2 x.wait.length c2 (x.wait.length:Nat) (i:Nat) a1 x.store.length c1 a2 x.wait.length c2 (some (b,j)) s.length c5 hh=some (V.bool (match Du s (x.wait.drop i) with | some s=>DK s x.store | none=>false),h'):=by
  intro m;induction m with
  | zero =>intro i s hh b j G hi hso hs hb hbl hm;rw[BW.e,Aj (by omega),Ou hs (hm.keep0 rvers_ok hs1) (Jj hso),show i=x.wait.length by omega,List.drop_length];simp only[Ac,As,Du];exact ⟨hh,by cases DK s x.store<;>rfl⟩
  | succ m ih =>
   intro i s hh b j G hi hso hs hb hbl hm;have hlt:i<x.wait.length:=by omega
   have hvo:=hx3 _ (zbb hlt);have hk:=(AB hvo).1;have hs4:=AX hso;have hkl:x.wait[i].key.toNat<s.length:=by omega
   obtain ⟨o,sv,b',d',G',ha,ho,es,hp,hG'⟩:=(hm.keep0 rvers_ok hs2).get hlt;have hbl2:=rvers_ok.bd _ _ _ _ hs2;rw[BW.e,Ak (by omega),Ae hlt];simp only[ha,Ag,Be,ho,Aa,Ab,es,Bh,At,Af];rw[Ls (v:=x.wait[i]) hs ⟨by omega,by omega⟩];simp only[Ac,As];rw[zbC hlt];simp only[Du,Dc hkl];cases hle:AZ s[x.wait[i].key.toNat] x.wait[i] with
   | false=>exact ⟨hh,rfl⟩
   | true =>obtain ⟨h6,G6,e6,r6,n6,l6,f6⟩:=Sli.row rver_ok.fr Zo hs hb hkl hbl (row:=x.wait[i].cs b' d') (x:=x.wait[i]) ⟨_,rfl,hp⟩ (fun hm'=>by have:=hbl2 _ (hG' _ hm');omega);rw[Al,BI ⟨by omega,by omega⟩,e6,cond_true];simp only[Ag];rw[← ha,Ar (by omega)];have m6:Mv h [] h6 []:=⟨by rw[l6];exact hm.le,fun y hy hF=>by rw[f6 y (by omega)];exact hm.fr y hy hF,by simp,by simp⟩;have:=ih (i+1) (s.set x.wait[i].key.toNat x.wait[i]) h6 b j G6 (by omega) (Iq hso hvo) (by rw[zbz];exact r6) n6 hbl m6;rw[zbz] at this;exact this
 have:∃ b j G,a5=some (b,j)∧F5=b :: G∧b∉G∧h.length≤b:=by obtain ⟨b,i,rs,Fs,h1,h2,_,_,_,_,rfl⟩:=r5.data (k:=0) (by omega);exact ⟨b,i,_,h1,rfl,(zbj.1 m5.nd).1,m5.new b (by simp)⟩
 obtain ⟨b,j,G,rfl,rfl,hb,hbl⟩:=this;have:=loop x.wait.length 0 next h5 b j G (by omega) hnx r5 hb hbl m5.drop
 exact this
theorem Mn {l:List Node} (hs:RNodes false h [.sl 2 a l.length c] l F) (hn:Cs l):Ad lo 68 [.agg [.sl 2 a l.length c]] h=some (.bool (Cj l),h):=by
 have hn1:=hn.1;refine QF (h':=h) ?_;rw[SH];simp only[Ac,As];unfold Cj;cases hw:Am (l.length:Int) 1 4 with
 | false=>rfl
 | true =>
  have hl4:1≤l.length∧l.length≤4:=by simp[Am] at hw;omega
  rw[Al];refine (CA (p:=BS) (l:=l) (fun i=>B0 (List.length h) false a l.length c (l.length:Nat) (i:Nat) a l.length c h) (some (.bool false,h)) (B0 (List.length h) false a l.length c (l.length:Nat) (l.length:Nat) a l.length c h) (fun i hi=>?_) rfl).trans ?_
  ·obtain ⟨o,s1,s2,a1,c1,a2,c2,F1,F2,ha,ho,_,_,e1,e2,p1,p2,_⟩:=hs.get hi;have hm:=hn.2 _ (zbb hi);rw[B0.e,Ak (by omega),Ae hi];simp only[ha,Ag,Be,ho,Aa,e1,e2,Af];rw[SJ p1 hm.1];simp only[Ac,As];rw[Jh (p:=fun v => !A3 v) p2 hm.2.1 (fun lo v av cv Gv hv hvp=>NO (h':=h) (by rw[Lt hvp (hm.2.2 v hv)];simp only[Ac,As];cases A3 v<;>rfl))];simp only[Ac,As,Ar (show i<9223372036854775807 by omega),← ha];unfold BS;rw[List.any_eq_not_all_not];simp only[Bool.not_not];by_cases h6:(l[i].wait.length:Int)≤6
   ·rw[Aj (by omega),decide_eq_true h6];cases AO l[i].store<;>cases l[i].wait.all A3<;>simp
   ·rw[Ak (by omega),decide_eq_false h6];cases AO l[i].store<;>simp
  ·cases hall:l.all BS with
   | false=>rfl
   | true =>
    rw[if_pos rfl,B0.e,Aj (by omega)];have hno:=zbp.1 hall;refine (IJ (p:=EP l) (l:=l) (fun i=>Bs (List.length h) false a l.length c (l.length:Nat) (i:Nat) a l.length c h) (some (.bool false,h)) (some (.bool true,h)) (fun i hi=>?_) ?_).trans ?_
    ·obtain ⟨o,s1,s2,a1,c1,a2,c2,F1,F2,ha,ho,_,_,e1,e2,p1,p2,_⟩:=hs.get hi;have hm:=hn.2 _ (zbb hi);rw[Bs.e,Ak (by omega),Ae hi];simp only[ha,Ag,Be,ho,Aa,e1,e2,Af,R5 hn1,Ac,As];by_cases hk:i+1=l.length
     ·rw[decide_eq_true hk,Al,Al];unfold EP;rw[zbI (by omega)];simp only[Ar (show i<9223372036854775807 by omega)];by_cases h0:l[i].wait.length=0
      ·rw[Aj (by omega),decide_eq_true h0];rfl
      ·rw[Ak (by omega),decide_eq_false h0];rfl
     ·have hi1:i+1<l.length:=by omega
      obtain ⟨o',s1',s2',a1',c1',a2',c2',F1',F2',ha',_,ho1',_,e1',_,p1',_⟩:=hs.get hi1;have hoo:o'=o:=by rw[ha] at ha';injection ha' with ha';exact ha'.symm
      subst hoo;rw[decide_eq_false hk,Au];unfold EP;rw[Dc hi1];simp only[Au,Ar (show i<9223372036854775807 by omega)];rw[Ae hi1];simp only[Be,ho1',Ag,Aa,e1',Af];rw[Xv p1 p2 p1' (hno _ (zbb hi)) (AD (hno _ (zbb hi1))).1];simp only[Ac,As];exact Sn
    ·rw[Bs.e,Aj (by omega)]
    ·cases (l.zipIdx.all fun x=>EP l x.2 x.1)<;>simp
end


variable {l:List Node}
theorem Cf (h:Cj l=true):(1≤l.length∧l.length≤4)∧∀ x∈l,BS x=true:=by simp only[Cj,Am,Dr,decide_eq_true_eq,zbp] at h;exact ⟨⟨by omega,by omega⟩,h.1.2⟩
theorem Mx (h:Cj l=true) {i:Nat} (hi:i<l.length):EP l i l[i]=true:=by simp only[Cj,Dr,zbp] at h;exact h.2 (l[i],i) (by rw[zcb];simp[hi])
theorem EA {α:Type}{p:Nat→α→Bool}{l:List α}:(l.zipIdx.all fun x=>p x.2 x.1)=true↔∀ i (hi:i<l.length),p i l[i]=true:=by
 rw[zbp];constructor
 ·intro h i hi;exact h (l[i],i) (by rw[zcb];simp[hi])
 ·rintro h ⟨x,i⟩ hx
  rw[zcb] at hx;obtain ⟨hi,hx⟩:=EY hx;have:=h i hi;simp only at hx;rw[hx] at this;exact this
theorem Ta {α:Type}{p:α→Bool}{l:List α}:l.all p=true↔∀ i (hi:i<l.length),p l[i]=true:=by rw[zbp];exact ⟨fun h i hi=>h _ (zbb hi),fun h x hx=>by obtain ⟨i,hi,rfl⟩:=zbM.1 hx;exact h i hi⟩
def Ho (l:List Node) (k:Nat) (x:Node):Bool:=BS x&&match l[k+1]? with
 | some y=>AO y.store&&SM x y.store
 | none=>true
theorem UM:Cj l=((l.zipIdx.all fun x=>Ho l x.2 x.1)&&(Am l.length 1 4&&match l.getLast? with | some x=>decide (x.wait.length=0) | none=>false)):=by
 rw[zcg];unfold Cj;simp only[Dr];rw[EA (p:=EP l),EA (p:=Ho l),Ta (l:=l)];constructor
 ·rintro ⟨⟨h1,h2⟩,h3⟩
  have hl:1≤l.length:=by simp[Am] at h1;omega
  refine ⟨fun i hi=>?_,h1,?_⟩
  ·have:=h3 i hi;unfold EP at this;unfold Ho;rw[h2 i hi];by_cases hi1:i+1<l.length
   ·rw[Dc hi1] at this ⊢;simp only at this;simp only[this,(AD (h2 _ hi1)).1,Bool.and_self]
   ·rw[zbI (by omega)];rfl
  ·have:=h3 (l.length - 1) (by omega);unfold EP at this;rw[zbI (by omega)] at this;rw[zcm,Dc (by omega)];exact this
 ·rintro ⟨h1,h2,h3⟩
  have hno:∀ i (hi:i<l.length),BS l[i]=true:=fun i hi=>by have:=h1 i hi;simp only[Ho,Dr] at this;exact this.1
  refine ⟨⟨h2,hno⟩,fun i hi=>?_⟩;have:=h1 i hi;unfold Ho at this;unfold EP;by_cases hi1:i+1<l.length
  ·rw[Dc hi1] at this ⊢;simp only[Dr] at this;exact this.2.2
  ·rw[zbI (by omega)];rw[zcm,Dc (by omega)] at h3;have e:l.length - 1=i:=by omega
   simp only[e] at h3;exact h3
section
variable {lo:Nat}{h:Heap}{F F':List Nat}{a a':Pq}{c c':Nq}
theorem M7 {s t:List Ver} (hs:RVers false h [.sl 6 a s.length c] s F) (hs':RVers false h [.sl 6 a' t.length c'] t F') (h1:AO s=true) (h2:AO t=true) :
  Ad lo 257 [.agg [.sl 6 a s.length c],.agg [.sl 6 a' t.length c']] h=some (.bool (DK s t),h):=by
 have l1:=AX h1;have l2:=AX h2;have hz:(s.zip t).length=4:=by simp;omega
 refine LB (h':=h) ?_;refine (CA (p:=fun x:Ver×Ver=>DP x.1 x.2) (l:=s.zip t) (fun i=>Bk (List.length h) false (i:Nat) a s.length c a' t.length c' h) (some (.bool false,h)) (some (.bool true,h)) (fun i hi=>?_) ?_).trans ?_
 ·have hi1:i<s.length:=by omega
  have hi2:i<t.length:=by omega
  obtain ⟨o,sv,b,d,G,ha,_,ho1,_,_,_,_,ho12,ho,es,hp,_⟩:=hs.all hi1;obtain ⟨o',sv',b',d',G',ha',_,_,_,_,_,_,ho12',ho',es',hp',_⟩:=hs'.all hi2;rw[Bk.e,Ak (by omega),Ae hi1];simp only[ha,ha',Ag,Be,ho12,ho12',ho1,ho,ho',Aa,Ab,es,es',Bh,At,Af,Ae hi1,Ae hi2,zb8,zcL,Ar (show i<9223372036854775807 by omega)];have g1:=De (C6 h1 hi1);have g2:=De (C6 h2 hi2);cases htag:(s[i].tag.time==t[i].tag.time&&s[i].tag.place==t[i].tag.place) with
  | false =>
   have:DP s[i] t[i]=false:=by unfold DP;rw[htag];simp
   rw[this,Au];rfl
  | true =>
   rw[Al];by_cases htm:s[i].tag.time>0
   ·rw[Ak htm];have o1:A3 s[i]=true:=by
     rcases g1 with g | g
     ·have:=ED g;omega
     ·exact g.1
    have o2:A3 t[i]=true:=by
     rcases g2 with g | g
     ·have:=ED g;simp at htag;omega
     ·exact g.1
    rw[TR hp hp' o1 o2];simp only[Ac,As];exact Sn
   ·rw[Aj htm];have o1:E0 s[i]=true:=by
     rcases g1 with g | g
     ·exact g
     ·have:=Gz g.1;omega
    have o2:E0 t[i]=true:=by
     rcases g2 with g | g
     ·exact g
     ·have:=Gz g.1;simp at htag;omega
    rw[if_pos (same_iff.2 (by rw[LR o1,LR o2]))]
 ·rw[hz,Bk.e,Aj (by omega)]
 ·unfold DK;rw[decide_eq_true (by omega)];cases (s.zip t).all fun x=>DP x.1 x.2<;>rfl
theorem TP {x y:Node}{a1 a2 a3 a4:Pq}{c1 c2 c3 c4:Nq}{F1 F2 F3:List Nat} (hs1:RVers false h [.sl 6 a1 x.store.length c1] x.store F1) (hs2:RVers false h [.sl 6 a2 x.wait.length c2] x.wait F2)
  (hs3:RVers false h [.sl 6 a3 y.store.length c3] y.store F3) (hx:BS x=true) (hy:Ck y.store) {n4:Nat} :
  Ad lo 163 [.agg [.sl 6 a1 x.store.length c1,.sl 6 a2 x.wait.length c2],.agg [.sl 6 a3 y.store.length c3,.sl 6 a4 n4 c4]] h=some (.bool (AO y.store&&SM x y.store),h):=by
 obtain ⟨hx1,hx2,hx3⟩:=AD hx;suffices hk:∃ h',_=some (V.bool (AO y.store&&SM x y.store),h') from hk.elim fun h' hk=>Ra hk;rw[J1 hs3 hy];simp only[Ac,As];cases hyo:AO y.store with
 | false=>exact ⟨h,rfl⟩
 | true =>
  obtain ⟨v5,h5,F5,e5,r5,m5⟩:=GD (lo:=h.length) hs3 (zbf _) hy;obtain ⟨a5,c5,es5,r5⟩:=r5.form;rw[Al,e5];simp only[Ac,Ap,Aa,es5,Af];have loop:∀ m i s hh G,m+i=x.wait.length→AO s=true→RVers false hh [.sl 6 a5 s.length c5] s G→Mv h [] hh G →
    ∃ h',CQ (List.length h) false (i:Nat) a1 x.store.length c1 a2 x.wait.length c2 a5 s.length c5 hh=some (V.bool (match Du s (x.wait.drop i) with | some s=>DK s x.store | none=>false),h'):=by
   intro m;induction m with
   | zero =>intro i s hh G hi hso hs hm;rw[CQ.e,Aj (by omega),M7 hs (hm.keep0 rvers_ok hs1) hso hx1,show i=x.wait.length by omega,List.drop_length];simp only[Ac,As,Du];exact ⟨hh,by cases DK s x.store<;>rfl⟩
   | succ m ih =>
    intro i s hh G hi hso hs hm;have hlt:i<x.wait.length:=by omega
    have hvo:=hx3 _ (zbb hlt);have hk:=(AB hvo).1;have hs4:=AX hso;have hkl:x.wait[i].key.toNat<s.length:=by omega
    obtain ⟨o,sv,b',d',G',ha,ho0,_,_,_,_,_,ho12,ho,es,hp,hG'⟩:=(hm.keep0 rvers_ok hs2).all hlt;obtain ⟨o2,sv2,b2,d2,G2,ha2,_,_,_,_,_,_,ho122,_⟩:=hs.all hkl;rw[CQ.e,Ak (by omega),Ae hlt];simp only[ha,Ag,Be,ho0,Aa,Ab,Af];rw[BI ⟨by omega,by omega⟩];simp only[ha2,Ag,ho122,Aa,Ab,Af,Ae hlt,ho12,Bz,Ac,As];rw[zbC hlt];simp only[Du,Dc hkl];show ∃ h',br (AZ s[x.wait[i].key.toNat] x.wait[i]) _ _=_;cases hle:AZ s[x.wait[i].key.toNat] x.wait[i] with
    | false=>exact ⟨hh,rfl⟩
    | true =>
     obtain ⟨h6,F6,e6,r6,m6⟩:=Lh (lo:=h.length) (v:=x.wait[i]) hs hp hm.nd (hm.ge (zbf _) (by simp)) hm.le ⟨by omega,by omega⟩ (by have:=Bn (AB hvo).2.2.2.1;omega);rw[Al,cond_true];simp only[ho,Ag,Aa,Ab,es,Bh,At,Af];rw[← ha2,e6];simp only[Ac,Ap,Aa,Ah,Af];rw[← ha,Ar (by omega)];have hadd:Eb s x.wait[i]=s.set x.wait[i].key.toNat x.wait[i]:=by rw[Ly hkl,hle];rfl
     rw[hadd] at r6;have:=ih (i+1) (s.set x.wait[i].key.toNat x.wait[i]) h6 F6 (by omega) (Iq hso hvo) (by rw[zbz];exact r6) (hm.trans m6);rw[zbz] at this;exact this
  obtain ⟨h',e⟩:=loop x.wait.length 0 y.store h5 F5 (by omega) hyo r5 m5;exact ⟨h',e⟩
theorem RE (hs:RNodes false h [.sl 2 a l.length c] l F) (hn:Cs l):Ad lo 70 [.agg [.sl 2 a l.length c]] h=some (.bool (Cj l),h):=by
 have hn1:=hn.1;refine UW (h':=h) ?_;rw[UM];have inner:∀ i (hi:i<l.length),AO l[i].store=true→(l[i].wait.length:Int)≤6→Cv (List.length h) false (i:Nat) 0 a l.length c h=if Ho l i l[i]=true then Cw (List.length h) false ((i+1:Nat):Int) a l.length c h else some (.bool false,h):=by
  intro i hi hst h6;obtain ⟨o,s1,s2,a1,c1,a2,c2,F1,F2,ha,ho,ho1,ho2,e1,e2,p1,p2,_⟩:=hs.get hi;have hm:=hn.2 _ (zbb hi);refine (CA (p:=A3) (l:=l[i].wait) (fun k=>Cv (List.length h) false (i:Nat) (k:Nat) a l.length c h) (some (.bool false,h)) (Cv (List.length h) false (i:Nat) (l[i].wait.length:Nat) a l.length c h) (fun k hk=>?_) rfl).trans ?_
  ·obtain ⟨o',s,b,d,G,ha',ho',es,hp,_⟩:=p2.get hk;rw[Cv.e,Ae hi];simp only[ha,Ag,Be,ho2,Aa,e2,Af];rw[Ak (by omega),Ae hi];simp only[e2,Ae hk,ha',Ag,ho',Aa,Ab,es,Bh,At,Af];rw[M8 hp (hm.2.2 _ (zbb hk))];simp only[Ac,As,Ar (show k<9223372036854775807 by have:=hm.2.1;omega),← ha];exact Sn
  ·by_cases hall:l[i].wait.all A3=true
   ·rw[if_pos hall,Cv.e,Ae hi];simp only[ha,Ag,Be,ho2,Aa,e2,Af];rw[Aj (by omega)];have hno:BS l[i]=true:=by unfold BS;rw[hst,decide_eq_true h6,hall];rfl
    rw[Ar (by omega)];unfold Ho;rw[hno];by_cases hi1:i+1<l.length
    ·obtain ⟨o',s1',s2',a1',c1',a2',c2',F1',F2',ha',ho',_,_,e1',e2',p1',p2',_⟩:=hs.get hi1;have hoo:o'=o:=by rw[ha] at ha';injection ha' with ha';exact ha'.symm
     subst hoo;rw[Ak (by omega),Ae hi];simp only[ho,Ag,Aa,e1,e2,Af,Ae hi1,Be,ho',e1',e2'];rw[TP p1 p2 p1' hno (hn.2 _ (zbb hi1)).1,Dc hi1];simp only[Ac,As,zbA];exact Sn
    ·rw[Aj (by omega),zbI (by omega)];rfl
   ·rw[if_neg hall,if_neg];unfold Ho BS;simp[hall]
 refine (IJ (p:=Ho l) (l:=l) (fun i=>Cw (List.length h) false (i:Nat) a l.length c h) (some (.bool false,h)) (some (.bool (Am l.length 1 4&&match l.getLast? with | some x=>decide (x.wait.length=0) | none=>false),h)) (fun i hi=>?_) ?_).trans ?_
 ·obtain ⟨o,s1,s2,a1,c1,a2,c2,F1,F2,ha,ho,ho1,ho2,e1,e2,p1,p2,_⟩:=hs.get hi;have hm:=hn.2 _ (zbb hi);rw[Cw.e,Ak (by omega),Ae hi];simp only[ha,Ag,Be,ho1,Aa,e1,Af];rw[J1 p1 hm.1];simp only[Ac,As];cases hst:AO l[i].store with
  | false =>rw[if_neg (by unfold Ho BS;simp[hst])];rfl
  | true =>
   rw[Al,Ae hi];simp only[ho2,Ag,Aa,e2,Af];by_cases h6:(l[i].wait.length:Int)≤6
   ·rw[Aj (by omega),← ha];exact inner i hi hst h6
   ·rw[Ak (by omega),if_neg];unfold Ho BS;rw[decide_eq_false h6];simp
 ·rw[Cw.e,Aj (by omega),Bf];simp only[Ac,As];cases hw:Am (l.length:Int) 1 4 with
  | false=>rfl
  | true =>
   have hl:1≤l.length:=by simp[Am] at hw;omega
   obtain ⟨o,s1,s2,a1,c1,a2,c2,F1,F2,ha,ho,ho1,ho2,e1,e2,p1,p2,_⟩:=hs.get (show l.length - 1<l.length by omega);rw[Al,wr (by omega) (by omega),BI ⟨by omega,by omega⟩,show ((l.length:Int) - 1).toNat=l.length - 1 by omega];simp only[ha,Ag,ho2,Aa,e2,Af];rw[zcm,Dc (by omega)];simp only[zbA];by_cases h0:l[l.length - 1].wait.length=0
   ·rw[h0];rfl
   ·rw[show ((l[l.length - 1].wait.length:Int)==0)=false by rw[beq_eq_false_iff_ne];omega,decide_eq_false h0];rfl
 ·cases (l.zipIdx.all fun x=>Ho l x.2 x.1)<;>simp
end


variable {l:List Node}
def Fa (st:List Tag) (x:Node):Bool:=(x.store.all fun v => !decide (v.tag.time>0) || BH v.past st)&&x.wait.all fun v=>BH v.past st
def D3 (l:List Node):Bool:=l.all (Fa (AN l))
def DV (l:List Node) (clock:Int):Bool:=match l[0]? with
 | some x=>x.store.all fun v=>decide (v.tag.time≤clock)
 | none=>false
def IC (me:Int) (i:Nat) (l:List Ver):Bool:=D1 i l&&(!((i:Int)==me) || decide (l.length=0))
def An (p:Place):Bool:=Am p.me 0 2&&Am p.clock 0 999&&decide (p.got.length=3)&&Cj p.chain&&D3 p.chain&&D1 p.me p.log&&(p.got.zipIdx.all fun x=>IC p.me x.2 x.1)&&DV p.chain p.clock
theorem Wv {b:Bool}{h:Heap}:(if b=true then some (V.bool true,h) else some (V.bool false,h))=some (V.bool b,h):=by cases b<;>rfl
theorem JB (h:Cj l=true):Cs l:=by obtain ⟨h1,h2⟩:=Cf h;refine ⟨by omega,fun x hx=>?_⟩;obtain ⟨g1,g2,g3⟩:=AD (h2 x hx);refine ⟨Jj g1,by omega,fun v hv=>?_⟩;obtain ⟨_,h2,_,h3,_⟩:=AB (g3 v hv);have:=DN h2;have:=Bn h3;omega
theorem Jk (h:Cj l=true):(AN l).length=4:=by obtain ⟨h1,h2⟩:=Cf h;rw[Hk (by omega)];simp only[Bi,zcx];exact AX (AD (h2 _ (zbb _))).1
theorem Bx {h:Heap}{b i j n R e:Nat}{ro:Bool}{rs:List (List V)}{row:List V} (hb:h[b]?=some (.rows R e ro rs)) (hi:rs[i]?=some row):ld h b i j n=cut row j n:=by simp[ld,Heap.rows?,hb,hi]
theorem Pe {x:Node} (h:BS x=true) {i:Nat} (hi:i<x.store.length) (ht:x.store[i].tag.time>0):x.store[i].past.length=4:=by
 rcases De (C6 (AD h).1 hi) with g | g
 ·have:=ED g;omega
 ·exact Bn (AB g.1).2.2.2.1
theorem RA {x:Node} (h:BS x=true) {i:Nat} (hi:i<x.wait.length):x.wait[i].past.length=4:=Bn (AB ((AD h).2.2 _ (zbb hi))).2.2.2.1
section
variable {lo:Nat}{h:Heap}{F F':List Nat}{a a':Pq}{c c':Nq}
theorem QL (hs:RNodes false h [.sl 2 a l.length c] l F) (hc:Cj l=true):Ad lo 177 [.agg [.sl 2 a l.length c]] h=some (.bool (D3 l),h):=by
 obtain ⟨hl4,hno⟩:=Cf hc;have hst:=Jk hc;obtain ⟨v1,h1,F1,e1,r1,m1⟩:=Ha (lo:=h.length) hs (zbf _) (JB hc) (by omega);obtain ⟨a3,c3,es3,r1⟩:=r1.form;refine Oz (h':=h1) ?_;rw[e1];simp only[Ac,Ap,Aa,es3,Af];have hs1:=m1.keep0 rnodes_ok hs;refine (CA (p:=Fa (AN l)) (l:=l) (fun i=>BP (List.length h) false (i:Nat) a l.length c a3 (AN l).length c3 h1) (some (.bool false,h1)) (some (.bool true,h1)) (fun i hi=>?_) ?_).trans ?_
 ·have hno:=hno _ (zbb hi);have hsl:=AX (AD hno).1;have hwl:=(AD hno).2.1;obtain ⟨o,s1,s2,b1,d1,b2,d2,G1,G2,ha,ho,ho1,ho2,e1,e2,p1,p2,_⟩:=hs1.get hi;rw[BP.e,Ak (by omega)];refine (CA (p:=fun v:Ver => !decide (v.tag.time>0) || BH v.past (AN l)) (l:=l[i].store) (fun k=>BO (List.length h) false (i:Nat) (k:Nat) a l.length c a3 (AN l).length c3 h1) (some (.bool false,h1)) (BN (List.length h) false (i:Nat) 0 a l.length c a3 (AN l).length c3 h1) (fun k hk=>?_) ?_).trans ?_
  ·obtain ⟨o',s,b,d,G,ha',ho',es,hp,_⟩:=p1.get hk;rw[BO.e,Ak (by omega),Ae hi];simp only[ha,Ag,Be,ho1,Aa,e1,Af,Ae hk,ha',ho',Ab,es,Bh,At,Ar (show k<9223372036854775807 by omega)];by_cases ht:l[i].store[k].tag.time>0
   ·rw[Ak ht,ET hp r1 (Pe hno hk ht) hst];simp only[Ac,As,decide_eq_true ht,zbX,zce,← ha];exact Sn
   ·rw[Aj ht,decide_eq_false ht,← ha];rfl
  ·rw[BO.e,Aj (by omega)]
  ·unfold Fa;cases hall:l[i].store.all fun v:Ver => !decide (v.tag.time>0) || BH v.past (AN l) with
   | false=>rw[if_neg Bool.false_ne_true,zcn,if_neg Bool.false_ne_true]
   | true =>
    rw[if_pos rfl,zbA];refine CA (p:=fun v:Ver=>BH v.past (AN l)) (l:=l[i].wait) (fun k=>BN (List.length h) false (i:Nat) (k:Nat) a l.length c a3 (AN l).length c3 h1) (some (.bool false,h1)) (BP (List.length h) false ((i+1:Nat):Int) a l.length c a3 (AN l).length c3 h1) (fun k hk=>?_) ?_
    ·obtain ⟨o',s,b,d,G,ha',_,_,_,ho3,_,_,_,_,es,hp,_⟩:=p2.all hk;rw[BN.e,Ae hi];simp only[ha,Ag,Be,ho2,Aa,e2,Af];rw[Ak (by omega),Ae hi];simp only[e2,Ae hk,ha',Ag,ho3,Aa,es,Af];rw[ET hp r1 (RA hno hk) hst];simp only[Ac,As,Ar (show k<9223372036854775807 by omega),← ha];exact Sn
    ·rw[BN.e,Ae hi];simp only[ha,Ag,Be,ho2,Aa,e2,Af];rw[Aj (by omega),Ar (by omega)]
 ·rw[BP.e,Aj (by omega)]
 ·unfold D3;cases l.all (Fa (AN l))<;>rfl
theorem M0 {p:Place}{a1 a2 a3:Pq}{c1 c2 c3:Nq}{F1 F2 F3:List Nat} (hs1:RNodes false h [.sl 2 a1 p.chain.length c1] p.chain F1) (hs2:RVers false h [.sl 6 a2 p.log.length c2] p.log F2)
  (hs3:RVss false h [.sl 1 a3 p.got.length c3] p.got F3) (hn:BT p):Ad lo 82 [.agg (p.cs a1 c1 a2 c2 a3 c3)] h=some (.bool (An p),h):=by
 refine UV (h':=h) ?_;simp only[Bf,Ac,As];unfold An;cases Am p.me 0 2 with
 | false=>rfl
 | true =>
 cases Am p.clock 0 999 with
 | false=>rfl
 | true =>
 by_cases hg:¬ p.got.length=3
 ·rw[show ((p.got.length:Int)==3)=false by rw[beq_eq_false_iff_ne];omega,decide_eq_false hg];rfl
 have hg:p.got.length=3:=by omega
 rw[show ((p.got.length:Int)==3)=true by rw[beq_iff_eq];omega,decide_eq_true hg];simp only[Al];rw[RE hs1 hn.1];simp only[Ac,As];cases hc:Cj p.chain with
 | false=>rfl
 | true =>
 rw[Al,QL hs1 hc];simp only[Ac,As];cases D3 p.chain with
 | false=>rfl
 | true =>
 rw[Al,Pk hs2 hn.2.1];simp only[Ac,As];cases D1 p.me p.log with
 | false=>rfl
 | true =>
 obtain ⟨hl4,hno⟩:=Cf hc;simp only[Al,zbA,zb8];refine (IJ (p:=IC p.me) (l:=p.got) (fun i=>C9 (List.length h) false (i:Nat) p.me p.clock a1 p.chain.length c1 a2 p.log.length c2 a3 p.got.length c3 p.fell h) (some (.bool false,h)) (some (.bool (DV p.chain p.clock),h)) (fun i hi=>?_) ?_).trans ?_
 ·obtain ⟨o,s,b,d,G,ha,ho,es,hp,_⟩:=hs3.get hi;rw[C9.e,Ak (by omega),Ae hi];simp only[ha,Ag,Be,ho,Aa,es,Af];rw[Pk hp (hn.2.2.2 _ (zbb hi))];simp only[Ac,As,Ae hi,ho,Ag,Aa,es,Af,Ar (show i<9223372036854775807 by omega),← ha];unfold IC;by_cases h0:p.got[i].length=0
  ·rw[Aj (by omega),decide_eq_true h0];cases D1 i p.got[i]<;>cases ((i:Int)==p.me)<;>rfl
  ·rw[Ak (by omega),decide_eq_false h0];cases D1 i p.got[i]<;>cases ((i:Int)==p.me)<;>rfl
 ·obtain ⟨o,s1,s2,b1,d1,b2,d2,G1,G2,ha,ho,ho1,ho2,e1,e2,q1,q2,_⟩:=hs1.get (show 0<p.chain.length by omega);have hsl:=AX (AD (hno _ (zbb (show 0<p.chain.length by omega)))).1;rw[C9.e,Aj (by omega),show (0:Int)=((0:Nat):Int) from rfl,Ae (by omega)];simp only[ha,Ag,ho1,Aa,e1,Af];unfold DV;rw[Dc (show 0<p.chain.length by omega)];refine (CA (p:=fun v:Ver=>decide (v.tag.time≤p.clock)) (l:=p.chain[0].store) (fun k=>Dz (List.length h) false (k:Nat) p.me p.clock (some o) p.chain.length c1 a2 p.log.length c2 a3 p.got.length c3 p.fell b1 p.chain[0].store.length d1 h) (some (.bool false,h)) (some (.bool true,h)) (fun k hk=>?_) ?_).trans ?_
  ·obtain ⟨o',s,b,d,G,ha',_,ho1',_⟩:=q1.all hk;rw[Dz.e,Ak (by omega),Ae hk];simp only[ha',Ag,Be,ho1',Aa,Ab,Af,Ar (show k<9223372036854775807 by omega)];by_cases ht:p.chain[0].store[k].tag.time≤p.clock
   ·rw[Aj (by omega),decide_eq_true ht];rfl
   ·rw[Ak (by omega),decide_eq_false ht];rfl
  ·rw[Dz.e,Aj (by omega)]
  ·exact Wv
 ·cases (p.got.zipIdx.all fun x=>IC p.me x.2 x.1)<;>cases DV p.chain p.clock<;>rfl
end
end Go.Proofs.YtoihoaaiadagaaaGreat
