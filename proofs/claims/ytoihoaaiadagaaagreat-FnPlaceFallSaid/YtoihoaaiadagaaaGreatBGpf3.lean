/- Part 3 of what is shown for the law Gpf, whatever the input; no condition of its own. -/
import Derived.Test.YtoihoaaiadagaaaGreatBGpf2
set_option linter.unusedVariables false
set_option linter.unusedSimpArgs false
set_option linter.unnecessarySimpa false
set_option maxRecDepth 100000
namespace Go.Proofs.YtoihoaaiadagaaaGreat
open Go T
noncomputable section

def C0 lo a0 n0 c0 a3 n3 c3 x4 h:=
 LA 181 Tryz.f181 221311 0 111 lo ⟨[(0,.sl 6 a0 n0 c0),(3,.sl 6 a3 n3 c3),(4,Iv x4)],[],h⟩
theorem Rs {lo n0:Nat}{a0:Pq}{c0:Nq}{h:Heap}{r:V×Heap} (hk:(C0 lo a0 n0 c0 (some (h.length,0)) 0 (some 0) 0 (h ++ [.rows 6 34 false []]))=some r) :
  Ae lo 181 [.sl 6 a0 n0 c0] h=some r :=
 eK Tryz.func181 hk
theorem C0.e {lo n0 n3:Nat}{a0 a3:Pq}{c0 c3:Nq}{x4:Int}{h:Heap} :
  C0 lo a0 n0 c0 a3 n3 c3 x4 h=br (decide (x4<(n0:Int))) (Ap x4 n0 (eO a0 fun v=>eO (ld h v.1 (v.2+x4.toNat) 0 6) fun v=>eC v fun v l=>eI .i64 v fun v=>eC l fun l c=>eI .i64 l fun l=>eC c fun c n=>eI .i64 c fun c=>eC n fun n a=>eS 2 n fun n o s=>eC a fun a b=>eT a fun a=>eC b fun b x=>eBv b fun b=>eN x (Aj (Ae lo 164 [.agg [Iv v,Iv l,Iv c,.sl 2 n o s,.str a,.bool b]] h) fun v l=>eA v fun v=>eC v fun v c=>eI .i64 v fun v=>eC c fun c n=>eI .i64 c fun c=>eC n fun n a=>eI .i64 n fun n=>eC a fun a o=>eS 2 a fun a s b=>eC o fun o x=>eT o fun o=>eC x fun x y=>eBv x fun x=>eN y (At 6 (l ++ [.rows 6 34 false [[Iv v,Iv c,Iv n,.sl 2 a s b,.str o,.bool x]]]) (.sl 6 (some (l.length,0)) 1 (some 1)) fun y=>CS lo 34 6 72 (.sl 6 a3 n3 c3) y (l ++ [.rows 6 34 false [[Iv v,Iv c,Iv n,.sl 2 a s b,.str o,.bool x]]]) fun v l=>eS 6 v fun v c n=>C0 lo a0 n0 c0 v c n (IntKind.wrap .i64 (x4+1)) l)))) (some (.sl 6 a3 n3 c3,h)) :=
 lE
def Co lo a0 n0 c0 b4 x5 xA xB h:=
 LA 182 Tryz.f182 22131 0 11 lo ⟨[(0,.sl 6 a0 n0 c0),(3,.lp 3 0),(4,.bool b4),(5,Iv x5)],[(3,[Iv xA,Iv xB])],h⟩
theorem OS {lo n0:Nat}{a0:Pq}{c0:Nq}{x1 xA:Int}{h h':Heap}{v:V} (hk:(Co h.length a0 n0 c0 false 0 x1 xA h)=some (v,h')) (hn:noId v=true:=by rfl) :
  Ae lo 182 [.sl 6 a0 n0 c0,.agg [Iv x1,Iv xA]] h=some (v,h) :=
 eD Tryz.func182 hk hn
theorem Co.e {lo n0:Nat}{a0:Pq}{c0:Nq}{b4:Bool}{x5 xA xB:Int}{h:Heap} :
  Co lo a0 n0 c0 b4 x5 xA xB h=br (decide (x5<(n0:Int))) (Ap x5 n0 (eO a0 fun v=>eO (ld h v.1 (v.2+x5.toNat) 1 2) fun v=>eC v fun v l=>eI .i64 v fun v=>eC l fun l c=>eI .i64 l fun l=>eN c (br ((v==xA)&&((l==xB)&&true)) (some (.bool true,h)) (Co lo a0 n0 c0 b4 (IntKind.wrap .i64 (x5+1)) xA xB h)))) (some (.bool false,h)) :=
 lE
theorem Pb {lo:Nat}{h:Heap}{r:V×Heap} (hk:(some (.agg [.sl 2 (some (h.length,0)) 4 (some 4)],(h ++ [.rows 2 29 false [[Iv 0,Iv 0],[Iv 0,Iv 0],[Iv 0,Iv 0],[Iv 0,Iv 0]]])))=some r) :
  Ae lo 183 [] h=some r :=
 eK Tryz.func183 hk
theorem FN {lo:Nat}{x1:Int}{h:Heap}{r:V×Heap} (hk:(br (decide (x1<0)) none (br (decide (IntKind.i64.wrap (x1 - IntKind.i64.wrap (((0:Nat):Int) - ((0:Nat):Int)))>0)) (As none 0 (some 0) none (some (Iv 0)) none fun v l c=>Bm (decide ((0:Int)≤IntKind.i64.wrap (x1 - IntKind.i64.wrap (((0:Nat):Int) - ((0:Nat):Int)))∧IntKind.i64.wrap (x1 - IntKind.i64.wrap (((0:Nat):Int) - ((0:Nat):Int)))*((72:Nat):Int)≤140737488355328)) (CS lo 34 6 72 (.sl 6 v l c) (List.replicate ((IntKind.i64.wrap (x1 - IntKind.i64.wrap (((0:Nat):Int) - ((0:Nat):Int)))).toNat) [Iv 0,Iv 0,Iv 0,.sl 0 none 0 (some 0),.str ⟨⟨[]⟩⟩,.bool false]) h fun v l=>eS 6 v fun v c n=>As v c n none (some (Iv 0)) none fun v c n=>some (.sl 6 v c n,l))) (some (.sl 0 none 0 (some 0),h))))=some r) :
  Ae lo 184 [.sl 0 none 0 (some 0),Iv x1] h=some r :=
 eK Tryz.func184 hk
theorem LN {lo nA nB nC:Nat}{h:Heap}{r:V×Heap} (hk:(Aj (Ae lo 77 [.ptr (some (nA,(nB,nC)))] h) fun v l=>eA v fun v=>eC v fun v c=>eS 6 v fun v n a=>eC c fun c o=>eS 5 c fun c s b=>eC o fun o x=>eS 9 o fun o y z=>eC x fun x u=>eS 5 x fun x w p=>eN u (Aj (Ae lo 66 [.ptr (some (nA,(nB,nC))),Iv 3] l) fun l u=>eI .i64 l fun l=>Aj (Ae lo 66 [.ptr (some (nA,(nB,nC))),Iv 16] u) fun u q=>eI .i64 u fun u=>br (u==0) (Aj (Ae lo 67 [.ptr (some (nA,(nB,nC))),.sl 1 (some (q.length,0)) 3 (some 3)] (q ++ [.rows 1 3 false [[Iv (-1)],[Iv 0],[Iv 1000]]])) fun g i=>eI .i64 g fun g=>Ap l n (eO v fun j=>eO (st lo i j.1 (j.2+l.toNat) 1 [Iv g]) fun g=>some (.agg [.sl 6 v n a,.sl 5 c s b,.sl 9 o y z,.sl 5 x w p],g))) (br (u==1) (Ap l n (eO v fun g=>eO (ld q g.1 (g.2+l.toNat) 3 1) fun i=>eC i fun i j=>eN j (eS 6 i fun i j k=>Aj (Ae lo 78 [.ptr (some (nA,(nB,nC)))] q) fun m t=>eA m fun m=>eC m fun m d=>eI .i64 m fun m=>eC d fun d e=>eI .i64 d fun d=>eC e fun e f=>eI .i64 e fun e=>eC f fun f v0=>eS 2 f fun f v1 v2=>eC v0 fun v0 v3=>eT v0 fun v0=>eC v3 fun v3 v4=>eBv v3 fun v3=>eN v4 (Bm (HP (ld q g.1 (g.2+l.toNat) 3 1) (ld t g.1 (g.2+l.toNat) 3 1)) (Bm (HP (ld t g.1 (g.2+l.toNat) 3 1) (ld (t ++ [.rows 6 34 false [[Iv m,Iv d,Iv e,.sl 2 f v1 v2,.str v0,.bool v3]]]) g.1 (g.2+l.toNat) 3 1)) (At 6 (t ++ [.rows 6 34 false [[Iv m,Iv d,Iv e,.sl 2 f v1 v2,.str v0,.bool v3]]]) (.sl 6 (some (t.length,0)) 1 (some 1)) fun g=>CS lo 34 6 72 (.sl 6 i j k) g (t ++ [.rows 6 34 false [[Iv m,Iv d,Iv e,.sl 2 f v1 v2,.str v0,.bool v3]]]) fun g i=>eS 6 g fun g j k=>Ap l n (eO v fun m=>eO (st lo i m.1 (m.2+l.toNat) 3 [.sl 6 g j k]) fun g=>some (.agg [.sl 6 v n a,.sl 5 c s b,.sl 9 o y z,.sl 5 x w p],g)))))))) (br (u==2) (Aj (Ae lo 65 [.ptr (some (nA,(nB,nC)))] q) fun g i=>eA g fun g=>eC g fun g j=>eS 2 g fun g k m=>eN j (Ap l n (eO v fun j=>eO (st lo i j.1 (j.2+l.toNat) 2 [.sl 2 g k m]) fun g=>some (.agg [.sl 6 v n a,.sl 5 c s b,.sl 9 o y z,.sl 5 x w p],g)))) (br (u==3) (As v n a (some (Iv 1)) none none fun g i j=>some (.agg [.sl 6 g i j,.sl 5 c s b,.sl 9 o y z,.sl 5 x w p],q)) (br (u==4) (Aj (Ae lo 66 [.ptr (some (nA,(nB,nC))),Iv 3] q) fun g i=>eI .i64 g fun g=>Aj (Ae lo 173 [.ptr (some (nA,(nB,nC)))] i) fun i j=>eA i fun i=>eC i fun i k=>eI .i64 i fun i=>eC k fun k m=>eI .i64 k fun k=>eC m fun m t=>eI .i64 m fun m=>eC t fun t d=>eS 2 t fun t e f=>eC d fun d v0=>eT d fun d=>eC v0 fun v0 v1=>eBv v0 fun v0=>eN v1 (At 9 (j ++ [.rows 9 172 false [[Iv l,Iv g,Iv 0,Iv i,Iv k,Iv m,.sl 2 t e f,.str d,.bool v0]]]) (.sl 9 (some (j.length,0)) 1 (some 1)) fun v1=>CS lo 172 9 96 (.sl 9 o y z) v1 (j ++ [.rows 9 172 false [[Iv l,Iv g,Iv 0,Iv i,Iv k,Iv m,.sl 2 t e f,.str d,.bool v0]]]) fun l g=>eS 9 l fun l i j=>some (.agg [.sl 6 v n a,.sl 5 c s b,.sl 9 l i j,.sl 5 x w p],g))) (br (u==5) (Aj (Ae lo 66 [.ptr (some (nA,(nB,nC))),Iv 5] q) fun l g=>eI .i64 l fun l=>Aj (Ae lo 66 [.ptr (some (nA,(nB,nC))),Iv 5] g) fun g i=>eI .i64 g fun g=>Aj (Ae lo 66 [.ptr (some (nA,(nB,nC))),Iv 5] i) fun i j=>eI .i64 i fun i=>Aj (Ae lo 174 [.ptr (some (nA,(nB,nC)))] j) fun j k=>eA j fun j=>eC j fun j m=>eI .i64 j fun j=>eC m fun m t=>eI .i64 m fun m=>eN t (At 5 (k ++ [.rows 5 174 false [[Iv l,Iv g,Iv i,Iv j,Iv m]]]) (.sl 5 (some (k.length,0)) 1 (some 1)) fun t=>CS lo 174 5 40 (.sl 5 x w p) t (k ++ [.rows 5 174 false [[Iv l,Iv g,Iv i,Iv j,Iv m]]]) fun l g=>eS 5 l fun l i j=>some (.agg [.sl 6 v n a,.sl 5 c s b,.sl 9 o y z,.sl 5 l i j],g))) (br (u==6) (Aj (Ae lo 105 [.ptr (some (nA,(nB,nC)))] q) fun l u=>eA l fun l=>eC l fun l g=>eS 2 l fun l i j=>eN g (Ap 0 s (eO c fun g=>eO (st lo u g.1 (g.2+0) 1 [.sl 2 l i j]) fun l=>some (.agg [.sl 6 v n a,.sl 5 c s b,.sl 9 o y z,.sl 5 x w p],l)))) (some (.agg [.sl 6 v n a,.sl 5 c s b,.sl 9 o y z,.sl 5 x w p],q))))))))))=some r) :
  Ae lo 185 [.ptr (some (nA,(nB,nC)))] h=some r :=
 eK Tryz.func185 hk
def AD lo a0 n0 c0 g1 l1 x4 x7 x8 h:=
 LA 186 Tryz.f186 22131 0 11 lo ⟨[(0,.sl 6 a0 n0 c0),(1,.fn g1 l1),(4,Iv x4),(7,Iv x7),(8,Iv x8)],[],h⟩
theorem E3 {lo n0 g1:Nat}{a0:Pq}{c0:Nq}{l1:List V}{h h':Heap}{v:V} (hk:(AD h.length a0 n0 c0 g1 l1 0 ((n0:Int)) 0 h)=some (v,h')) (hn:noId v=true:=by rfl) :
  Ae lo 186 [.sl 6 a0 n0 c0,.fn g1 l1] h=some (v,h) :=
 eD Tryz.func186 hk hn
theorem AD.e {lo n0 g1:Nat}{a0:Pq}{c0:Nq}{l1:List V}{x4 x7 x8:Int}{h:Heap} :
  AD lo a0 n0 c0 g1 l1 x4 x7 x8 h=br (decide (x8<x7)) (Ap x8 n0 (eO a0 fun v=>eO (ld h v.1 (v.2+x8.toNat) 0 6) fun v=>eC v fun v l=>eI .i64 v fun v=>eC l fun l c=>eI .i64 l fun l=>eC c fun c n=>eI .i64 c fun c=>eC n fun n a=>eS 2 n fun n o s=>eC a fun a b=>eT a fun a=>eC b fun b x=>eBv b fun b=>eN x (Aj (Ae lo g1 (Dh [.agg [Iv v,Iv l,Iv c,.sl 2 n o s,.str a,.bool b]] l1) h) fun v l=>eB v (some (Iv x8,l)) (AD lo a0 n0 c0 g1 l1 x4 x7 (IntKind.wrap .i64 (x8+1)) l)))) (some (Iv (-1),h)) :=
 lE
theorem LU {lo n0 n1:Nat}{a0 a1:Pq}{c0 c1:Nq}{x1 xA xB:Int}{s1:ByteArray}{b1:Bool}{h h':Heap}{v:V} (hk:(Ap x1 n0 (eO a0 fun l=>eO (ld h l.1 (l.2+x1.toNat) 1 2) fun l=>eC l fun l c=>eI .i64 l fun l=>eC c fun c n=>eI .i64 c fun c=>eN n (Aj (Ae h.length 19 [.agg [Iv l,Iv c],.agg [Iv xA,Iv xB]] h) fun l c=>eB l (some (.bool true,c)) (some (.bool false,c)))))=some (v,h')) (hn:noId v=true:=by rfl) :
  Ae lo 187 [.agg [.sl 6 a0 n0 c0],.agg [Iv x1,Iv xA,Iv xB,.sl 2 a1 n1 c1,.str s1,.bool b1]] h=some (v,h) :=
 eD Tryz.func187 hk hn
def AU lo nA nB nC a8 n8 c8 x9 xA h:=
 LA 189 Tryz.f189 2213 0 1 lo ⟨[(0,.ptr (some (nA,(nB,nC)))),(8,.sl 6 a8 n8 c8),(9,Iv x9),(10,Iv xA)],[],h⟩
theorem K8 {lo nA nB nC:Nat}{h:Heap}{r:V×Heap} (hk:(Aj (Ae lo 89 [.ptr (some (nA,(nB,(nC+2))))] h) fun v l=>eA v fun v=>eC v fun v c=>eS 6 v fun v n a=>eN c (AU lo nA nB nC v n a ((n:Int)) 0 l))=some r) :
  Ae lo 189 [.ptr (some (nA,(nB,nC)))] h=some r :=
 eK Tryz.func189 hk
theorem AU.e {lo nA nB nC n8:Nat}{a8:Pq}{c8:Nq}{x9 xA:Int}{h:Heap} :
  AU lo nA nB nC a8 n8 c8 x9 xA h=br (decide (xA<x9)) (Ap xA n8 (eO a8 fun v=>eO (ld h v.1 (v.2+xA.toNat) 0 6) fun v=>eC v fun v l=>eI .i64 v fun v=>eC l fun l c=>eI .i64 l fun l=>eC c fun c n=>eI .i64 c fun c=>eC n fun n a=>eS 2 n fun n o s=>eC a fun a b=>eT a fun a=>eC b fun b x=>eBv b fun b=>eN x (br ((l==0)&&((c==0)&&true)) (AU lo nA nB nC a8 n8 c8 x9 (IntKind.wrap .i64 (xA+1)) h) (eO (ld h nA nB (nC+0) 1) fun x=>eC x fun x y=>eN y (eI .i64 x fun x=>br (c==x) (eO (ld h nA nB (nC+3) 1) fun x=>eC x fun x y=>eN y (eS 6 x fun x y z=>Aj (Ae lo 176 [.sl 6 x y z,.agg [Iv l,Iv c]] h) fun x y=>eB x (AU lo nA nB nC a8 n8 c8 x9 (IntKind.wrap .i64 (xA+1)) y) (eO (ld y nA nB (nC+3) 1) fun x=>eC x fun x z=>eN z (eS 6 x fun x z u=>Aj (Ae y.length 161 [.agg [Iv v,Iv l,Iv c,.sl 2 n o s,.str a,.bool b]] y) fun v l=>eA v fun v=>eC v fun v c=>eI .i64 v fun v=>eC c fun c n=>eI .i64 c fun c=>eC n fun n a=>eI .i64 n fun n=>eC a fun a o=>eS 2 a fun a s b=>eC o fun o y=>eT o fun o=>eC y fun y w=>eBv y fun y=>eN w (At 6 (l ++ [.rows 6 34 false [[Iv v,Iv c,Iv n,.sl 2 a s b,.str o,.bool y]]]) (.sl 6 (some (l.length,0)) 1 (some 1)) fun w=>CS lo 34 6 72 (.sl 6 x z u) w (l ++ [.rows 6 34 false [[Iv v,Iv c,Iv n,.sl 2 a s b,.str o,.bool y]]]) fun v l=>eS 6 v fun v c n=>eO (st lo l nA nB (nC+3) [.sl 6 v c n]) fun v=>AU lo nA nB nC a8 n8 c8 x9 (IntKind.wrap .i64 (xA+1)) v))))) (AU lo nA nB nC a8 n8 c8 x9 (IntKind.wrap .i64 (xA+1)) h)))))) (eO (ld h nA nB (nC+3) 1) fun v=>eC v fun v l=>eN l (eS 6 v fun v l c=>Aj (Ae lo 172 [.sl 6 v l c] h) fun v l=>eS 6 v fun v c n=>eO (st lo l nA nB (nC+3) [.sl 6 v c n]) fun v=>eO (ld v nA nB ((nC+2)+0) 1) fun l=>eC l fun l c=>eN c (eS 2 l fun l c n=>Aj (Ae lo 265 [.sl 2 l c n,.fn 266 []] v) fun v l=>eB v (some (.tup [],l)) (eO (st lo l nA nB (nC+5) [.bool false]) fun v=>some (.tup [],v))))) :=
 lE
def CC lo x1 x4 x6 xA xB aA nA cA aB nB cB aC nC cC bA aD nD cD h:=
 LA 190 Tryz.f190 221311 0 111 lo ⟨[(1,Iv x1),(2,.lp 2 0),(4,Iv x4),(5,.lp 5 0),(6,Iv x6)],[(2,[Iv xA,Iv xB,.sl 2 aA nA cA,.sl 6 aB nB cB,.sl 1 aC nC cC,.bool bA]),(5,[.sl 6 aD nD cD])],h⟩
theorem QN {lo n0 nA nB:Nat}{x0 xA x1:Int}{a0 aA aB:Pq}{c0 cA cB:Nq}{b0:Bool}{h h':Heap}{v:V} (hk:(Ap 0 n0 (eO a0 fun l=>eO (ld h l.1 (l.2+0) 0 1) fun l=>eC l fun l c=>eS 6 l fun l n a=>eN c (CC h.length x1 0 0 x0 xA a0 n0 c0 aA nA cA aB nB cB b0 l n a h)))=some (v,h')) (hn:noId v=true:=by rfl) :
  Ae lo 190 [.agg [Iv x0,Iv xA,.sl 2 a0 n0 c0,.sl 6 aA nA cA,.sl 1 aB nB cB,.bool b0],Iv x1] h=some (v,h) :=
 eD Tryz.func190 hk hn
theorem CC.e {lo nA nB nC nD:Nat}{x1 x4 x6 xA xB:Int}{aA aB aC aD:Pq}{cA cB cC cD:Nq}{bA:Bool}{h:Heap} :
  CC lo x1 x4 x6 xA xB aA nA cA aB nB cB aC nC cC bA aD nD cD h=Ap x1 nC (eO aC fun v=>eO (ld h v.1 (v.2+x1.toNat) 0 1) fun v=>eC v fun v l=>eN l (eS 6 v fun v v l=>br (decide (x6<(v:Int))) (Ap x1 nC (eO aC fun v=>eO (ld h v.1 (v.2+x1.toNat) 0 1) fun v=>eC v fun v l=>eN l (eS 6 v fun v l c=>Ap x6 l (eO v fun v=>eO (ld h v.1 (v.2+x6.toNat) 0 6) fun v=>eC v fun v l=>eI .i64 v fun v=>eC l fun l c=>eI .i64 l fun l=>eC c fun c n=>eI .i64 c fun c=>eC n fun n a=>eS 2 n fun n n n=>eC a fun n a=>eT n fun n=>eC a fun n a=>eBv n fun n=>eN a (Ap v nD (eO aD fun n=>eO (ld h n.1 (n.2+v.toNat) 1 2) fun v=>eC v fun v n=>eI .i64 v fun v=>eC n fun n a=>eI .i64 n fun n=>eN a (Aj (Ae lo 255 [.agg [Iv v,Iv n],.agg [Iv l,Iv c]] h) fun v l=>eB v (some (Iv x6,l)) (CC lo x1 x4 (IntKind.wrap .i64 (x6+1)) xA xB aA nA cA aB nB cB aC nC cC bA aD nD cD l)))))))) (some (Iv (-1),h)))) :=
 lE
theorem Ry {lo n0:Nat}{a0:Pq}{c0:Nq}{h h':Heap}{v:V} (hk:(Ap 0 n0 (eO a0 fun l=>eO (ld h l.1 (l.2+0) 1 1) fun l=>eC l fun l c=>eN c (eS 6 l fun l l c=>br (decide ((l:Int)<6)) (some (.bool true,h)) (some (.bool false,h)))))=some (v,h')) (hn:noId v=true:=by rfl) :
  Ae lo 191 [.agg [.sl 2 a0 n0 c0]] h=some (v,h) :=
 eD Tryz.func191 hk hn
def Cs lo b4 x5 aA nA cA aB nB cB h:=
 LA 192 Tryz.f192 22131 0 11 lo ⟨[(2,.lp 2 0),(3,.lp 3 0),(4,.bool b4),(5,Iv x5)],[(2,[.sl 2 aA nA cA]),(3,[.sl 2 aB nB cB])],h⟩
theorem O3 {lo n0 n1:Nat}{a0 a1:Pq}{c0 c1:Nq}{h h':Heap}{v:V} (hk:(Cs h.length false 0 a0 n0 c0 a1 n1 c1 h)=some (v,h')) (hn:noId v=true:=by rfl) :
  Ae lo 192 [.agg [.sl 2 a0 n0 c0],.agg [.sl 2 a1 n1 c1]] h=some (v,h) :=
 eD Tryz.func192 hk hn
theorem Cs.e {lo nA nB:Nat}{b4:Bool}{x5:Int}{aA aB:Pq}{cA cB:Nq}{h:Heap} :
  Cs lo b4 x5 aA nA cA aB nB cB h=br (decide (x5<4)) (Ap x5 nB (eO aB fun v=>eO (ld h v.1 (v.2+x5.toNat) 0 2) fun v=>eC v fun v l=>eI .i64 v fun v=>eC l fun l c=>eI .i64 l fun l=>eN c (Ap x5 nA (eO aA fun c=>eO (ld h c.1 (c.2+x5.toNat) 0 2) fun c=>eC c fun c n=>eI .i64 c fun c=>eC n fun n a=>eI .i64 n fun n=>eN a (Aj (Ae lo 255 [.agg [Iv v,Iv l],.agg [Iv c,Iv n]] h) fun v l=>eB v (some (.bool false,l)) (Cs lo b4 (IntKind.wrap .i64 (x5+1)) aA nA cA aB nB cB l)))))) (some (.bool true,h)) :=
 lE
theorem TR {lo n0 n2:Nat}{a0 a2:Pq}{c0 c2:Nq}{x1 x2 xA xB:Int}{s2:ByteArray}{b2:Bool}{h:Heap}{r:V×Heap} (hk:(Ap x1 n0 (eO a0 fun v=>eO (ld h v.1 (v.2+x1.toNat) 0 1) fun v=>eC v fun v l=>eN l (eS 6 v fun v l c=>Ap x2 l (eO v fun v=>eO (ld h v.1 (v.2+x2.toNat) 1 2) fun v=>eC v fun v l=>eI .i64 v fun v=>eC l fun l c=>eI .i64 l fun l=>eN c (Aj (Ae lo 255 [.agg [Iv v,Iv l],.agg [Iv xA,Iv xB]] h) fun v l=>eB v (Ap x1 n0 (eO a0 fun v=>eO (ld l v.1 (v.2+x1.toNat) 0 1) fun v=>eC v fun v c=>eS 6 v fun v n a=>eN c (Aj (Ae lo 256 [.agg [.sl 6 v n a],.agg [Iv x2,Iv xA,Iv xB,.sl 2 a2 n2 c2,.str s2,.bool b2]] l) fun v c=>eA v fun v=>eC v fun v n=>eS 6 v fun v a o=>eN n (Ap x1 n0 (eO a0 fun n=>eO (st lo c n.1 (n.2+x1.toNat) 0 [.sl 6 v a o]) fun v=>br (decide (x1<IntKind.i64.wrap ((n0:Int) - (1:Int)))) (Ap x1 n0 (eO a0 fun c=>eO (ld v c.1 (c.2+x1.toNat) 1 1) fun c=>eC c fun c n=>eN n (eS 6 c fun c n a=>Aj (Ae v.length 164 [.agg [Iv x2,Iv xA,Iv xB,.sl 2 a2 n2 c2,.str s2,.bool b2]] v) fun o s=>eA o fun o=>eC o fun o b=>eI .i64 o fun o=>eC b fun b x=>eI .i64 b fun b=>eC x fun x y=>eI .i64 x fun x=>eC y fun y z=>eS 2 y fun y u w=>eC z fun z p=>eT z fun z=>eC p fun p q=>eBv p fun p=>eN q (At 6 (s ++ [.rows 6 34 false [[Iv o,Iv b,Iv x,.sl 2 y u w,.str z,.bool p]]]) (.sl 6 (some (s.length,0)) 1 (some 1)) fun q=>CS lo 34 6 72 (.sl 6 c n a) q (s ++ [.rows 6 34 false [[Iv o,Iv b,Iv x,.sl 2 y u w,.str z,.bool p]]]) fun c n=>eS 6 c fun c a o=>Ap x1 n0 (eO a0 fun s=>eO (st lo n s.1 (s.2+x1.toNat) 1 [.sl 6 c a o]) fun c=>some (.agg [.sl 2 a0 n0 c0],c)))))) (some (.agg [.sl 2 a0 n0 c0],v))))))) (some (.agg [.sl 2 a0 n0 c0],l)))))))=some r) :
  Ae lo 193 [.agg [.sl 2 a0 n0 c0],Iv x1,.agg [Iv x2,Iv xA,Iv xB,.sl 2 a2 n2 c2,.str s2,.bool b2]] h=some r :=
 eK Tryz.func193 hk
theorem Ev {lo n0 g1:Nat}{a0:Pq}{c0:Nq}{l1:List V}{h h':Heap}{v:V} (hk:(Aj (Ae h.length 267 [.sl 2 a0 n0 c0,.fn g1 l1] h) fun l c=>eI .i64 l fun l=>br (decide (l≥0)) (some (.bool true,c)) (some (.bool false,c)))=some (v,h')) (hn:noId v=true:=by rfl) :
  Ae lo 194 [.sl 2 a0 n0 c0,.fn g1 l1] h=some (v,h) :=
 eD Tryz.func194 hk hn
theorem Pa {lo:Nat}{x0 xA:Int}{h h':Heap}{v:V} (hk:(Aj (Ae h.length 196 [.agg [Iv x0,Iv xA]] h) fun l c=>eB l (some (.bool false,c)) (some (.bool true,c)))=some (v,h')) (hn:noId v=true:=by rfl) :
  Ae lo 195 [.agg [Iv x0,Iv xA]] h=some (v,h) :=
 eD Tryz.func195 hk hn
theorem T3 {lo:Nat}{x0 xA:Int}{h h':Heap}{v:V} (hk:(br ((x0==0)&&((xA==0)&&true)) (some (.bool true,h)) (Aj (Ae h.length 87 [Iv x0,Iv 1,Iv 999] h) fun l c=>eB l (Aj (Ae h.length 86 [Iv xA] c) fun l n=>eB l (some (.bool true,n)) (some (.bool false,n))) (some (.bool false,c))))=some (v,h')) (hn:noId v=true:=by rfl) :
  Ae lo 196 [.agg [Iv x0,Iv xA]] h=some (v,h) :=
 eD Tryz.func196 hk hn
theorem M9 {lo nA nB nC:Nat}{x1:Int}{h:Heap}{r:V×Heap} (hk:(eO (ld h nA nB (nC+0) 1) fun v=>eC v fun v l=>eN l (eS 2 v fun v v l=>Aj (Ae lo 87 [Iv x1,Iv 0,Iv (IntKind.wrap .i64 (((v:Int)) - 2))] h) fun v l=>eB v (eO (ld l nA nB (nC+0) 1) fun v=>eC v fun v c=>eN c (eS 2 v fun v c n=>Ap x1 c (eO v fun v=>eO (ld l v.1 (v.2+x1.toNat) 1 1) fun v=>eC v fun v c=>eN c (eS 6 v fun v v c=>br ((v:Int)==0) (some (.bool false,l)) (Aj (Ae lo 201 [.ptr (some (nA,(nB,nC))),Iv (IntKind.wrap .i64 (x1+1))] l) fun v c=>eB v (some (.bool false,c)) (eO (ld c nA nB (nC+0) 1) fun v=>eC v fun v n=>eN n (eS 2 v fun v n a=>Ap x1 n (eO v fun v=>eO (ld c v.1 (v.2+x1.toNat) 1 1) fun v=>eC v fun v n=>eN n (eS 6 v fun v n a=>Ap 0 n (eO v fun v=>eO (ld c v.1 (v.2+0) 0 6) fun v=>eC v fun v n=>eI .i64 v fun v=>eC n fun n a=>eI .i64 n fun n=>eC a fun a o=>eI .i64 a fun a=>eC o fun o s=>eS 2 o fun o b x=>eC s fun s y=>eT s fun s=>eC y fun y z=>eBv y fun y=>eN z (eO (ld c nA nB (nC+0) 1) fun z=>eC z fun z u=>eN u (eS 2 z fun z u w=>eO (ld c nA nB (nC+0) 1) fun w=>eC w fun w p=>eN p (eS 2 w fun w p q=>Bm (HP (ld c nA nB (nC+0) 1) (ld c nA nB (nC+0) 1)) (Ap x1 p (eO w fun w=>eO (ld c w.1 (w.2+x1.toNat) 1 1) fun w=>eC w fun w p=>eN p (eS 6 w fun w p q=>Bm (HP (ld c nA nB (nC+0) 1) (ld c nA nB (nC+0) 1)) (Aj (Ae lo 268 [.sl 6 w p q,Iv 0,Iv 1] c) fun w p=>eS 6 w fun w q g=>Bm (HP (ld c nA nB (nC+0) 1) (ld p nA nB (nC+0) 1)) (Aj (Ae lo 172 [.sl 6 w q g] p) fun c w=>eS 6 c fun c q g=>Bm (HP (ld p nA nB (nC+0) 1) (ld w nA nB (nC+0) 1)) (Ap x1 u (eO z fun z=>eO (st lo w z.1 (z.2+x1.toNat) 1 [.sl 6 c q g]) fun c=>Aj (Ae lo 264 [.ptr (some (nA,(nB,nC))),Iv (IntKind.wrap .i64 (x1+1)),.agg [Iv v,Iv n,Iv a,.sl 2 o b x,.str s,.bool y]] c) fun v c=>eU v fun v=>eN v (some (.bool true,c)))))))))))))))))))))) (some (.bool false,l))))=some r) :
  Ae lo 197 [.ptr (some (nA,(nB,nC))),Iv x1] h=some r :=
 eK Tryz.func197 hk
theorem RK {lo nA nB nC:Nat}{h:Heap}{r:V×Heap} (hk:(Aj (Ae lo 66 [.ptr (some (nA,(nB,nC))),Iv 3] h) fun v l=>eI .i64 v fun v=>br (v==0) (some (.agg [Iv 0,Iv 0],l)) (Aj (Ae lo 66 [.ptr (some (nA,(nB,nC))),Iv 9] l) fun v l=>eI .i64 v fun v=>Aj (Ae lo 66 [.ptr (some (nA,(nB,nC))),Iv 3] l) fun l c=>eI .i64 l fun l=>some (.agg [Iv (IntKind.wrap .i64 (1+v)),Iv l],c)))=some r) :
  Ae lo 198 [.ptr (some (nA,(nB,nC)))] h=some r :=
 eK Tryz.func198 hk
def C6 lo x4 aA nA cA nB aB nC cB nD aC nE cC h:=
 LA 199 Tryz.f199 221311 0 111 lo ⟨[(1,.lp 1 0),(2,.lp 2 0),(3,.lp 3 0),(4,Iv x4)],[(1,[.sl 6 aA nA cA]),(2,[.sl nB aB nC cB]),(3,[.sl nD aC nE cC])],h⟩
theorem RF {lo n0:Nat}{a0:Pq}{c0:Nq}{h:Heap}{r:V×Heap} (hk:(C6 lo 0 a0 n0 c0 0 none 0 (some 0) 0 none 0 (some 0) h)=some r) :
  Ae lo 199 [.agg [.sl 6 a0 n0 c0]] h=some r :=
 eK Tryz.func199 hk
theorem C6.e {lo nA nB nC nD nE:Nat}{x4:Int}{aA aB aC:Pq}{cA cB cC:Nq}{h:Heap} :
  C6 lo x4 aA nA cA nB aB nC cB nD aC nE cC h=br (decide (x4<(nA:Int))) (Ap x4 nA (eO aA fun v=>eO (ld h v.1 (v.2+x4.toNat) 1 2) fun v=>eC v fun v l=>eI .i64 v fun v=>eC l fun l c=>eI .i64 l fun l=>eN c (At 2 (h ++ [.rows 2 29 false [[Iv v,Iv l]]]) (.sl 2 (some (h.length,0)) 1 (some 1)) fun c=>CS lo 29 2 16 (.sl nD aC nE cC) c (h ++ [.rows 2 29 false [[Iv v,Iv l]]]) fun v l=>eS 2 v fun v c n=>C6 lo (IntKind.wrap .i64 (x4+1)) aA nA cA nB aB nC cB 2 v c n l))) (some (.agg [.sl nD aC nE cC],h)) :=
 lE
theorem LS {lo n0:Nat}{x0 xA xB:Int}{a0:Pq}{c0:Nq}{s0:ByteArray}{b0:Bool}{h h':Heap}{v:V} (hk:(Aj (Ae h.length 160 [Iv x0] h) fun l c=>eB l (Aj (Ae h.length 269 [.str s0] c) fun l n=>eB l (br (!b0) (br (!b0) (br (!b0) (br (!b0) (Aj (Ae h.length 99 [.agg [.sl 2 a0 n0 c0]] n) fun l a=>eB l (some (.bool true,a)) (some (.bool false,a))) none) none) none) (br (!b0) (br (!b0) (br (!b0) (Aj (Ae h.length 99 [.agg [.sl 2 a0 n0 c0]] n) fun l a=>eB l (some (.bool true,a)) (some (.bool false,a))) none) none) (br (!b0) (br (!b0) (Aj (Ae h.length 99 [.agg [.sl 2 a0 n0 c0]] n) fun l a=>eB l (some (.bool true,a)) (some (.bool false,a))) none) (br (s0.toList==(ByteArray.mk #[]).toList) (br (!b0) (Aj (Ae h.length 99 [.agg [.sl 2 a0 n0 c0]] n) fun l a=>eB l (some (.bool true,a)) (some (.bool false,a))) (Aj (Ae h.length 99 [.agg [.sl 2 a0 n0 c0]] n) fun l a=>eB l (some (.bool true,a)) (some (.bool false,a)))) (br (!b0) (Aj (Ae h.length 99 [.agg [.sl 2 a0 n0 c0]] n) fun l a=>eB l (some (.bool true,a)) (some (.bool false,a))) (some (.bool false,n))))))) (some (.bool false,n))) (some (.bool false,c)))=some (v,h')) (hn:noId v=true:=by rfl) :
  Ae lo 200 [.agg [Iv x0,Iv xA,Iv xB,.sl 2 a0 n0 c0,.str s0,.bool b0]] h=some (v,h) :=
 eD Tryz.func200 hk hn
theorem Nb {lo nA nB nC:Nat}{x1:Int}{h h':Heap}{v:V} (hk:(eO (ld h nA nB (nC+0) 1) fun l=>eC l fun l c=>eN c (eS 2 l fun l c n=>Ap x1 c (eO l fun l=>eO (ld h l.1 (l.2+x1.toNat) 1 1) fun l=>eC l fun l c=>eN c (eS 6 l fun l l c=>br (decide ((l:Int)≥6)) (some (.bool true,h)) (some (.bool false,h))))))=some (v,h')) (hn:noId v=true:=by rfl) :
  Ae lo 201 [.ptr (some (nA,(nB,nC))),Iv x1] h=some (v,h) :=
 eD Tryz.func201 hk hn
def BM lo x3 a7 n7 c7 x8 x9 h:=
 LA 202 Tryz.f202 221311 0 111 lo ⟨[(3,Iv x3),(7,.sl 2 a7 n7 c7),(8,Iv x8),(9,Iv x9)],[],h⟩
theorem LW {lo n0:Nat}{a0:Pq}{c0:Nq}{h h':Heap}{v:V} (hk:(BM h.length 0 a0 n0 c0 ((n0:Int)) 0 h)=some (v,h')) (hn:noId v=true:=by rfl) :
  Ae lo 202 [.agg [.sl 2 a0 n0 c0]] h=some (v,h) :=
 eD Tryz.func202 hk hn
theorem BM.e {lo n7:Nat}{x3 x8 x9:Int}{a7:Pq}{c7:Nq}{h:Heap} :
  BM lo x3 a7 n7 c7 x8 x9 h=br (decide (x9<x8)) (Ap x9 n7 (eO a7 fun v=>eO (ld h v.1 (v.2+x9.toNat) 0 2) fun v=>eC v fun v l=>eI .i64 v fun v=>eC l fun l c=>eI .i64 l fun l=>eN c (BM lo (if v>x3 then v else x3) a7 n7 c7 x8 (IntKind.wrap .i64 (x9+1)) h))) (some (Iv x3,h)) :=
 lE
def Cw lo x5 x6 aA nA cA h:=
 LA 203 Tryz.f203 221311 0 111 lo ⟨[(3,.lp 3 0),(5,Iv x5),(6,Iv x6)],[(3,[.sl 2 aA nA cA])],h⟩
theorem Rv {lo n0 nA nB n1:Nat}{x0 xA:Int}{a0 aA aB a1:Pq}{c0 cA cB c1:Nq}{b0:Bool}{h h':Heap}{v:V} (hk:(Cw h.length xA 0 a1 n1 c1 h)=some (v,h')) (hn:noId v=true:=by rfl) :
  Ae lo 203 [.agg [Iv x0,Iv xA,.sl 2 a0 n0 c0,.sl 6 aA nA cA,.sl 1 aB nB cB,.bool b0],.agg [.sl 2 a1 n1 c1]] h=some (v,h) :=
 eD Tryz.func203 hk hn
theorem Cw.e {lo nA:Nat}{x5 x6:Int}{aA:Pq}{cA:Nq}{h:Heap} :
  Cw lo x5 x6 aA nA cA h=br (decide (x6<4)) (Ap x6 nA (eO aA fun v=>eO (ld h v.1 (v.2+x6.toNat) 0 1) fun v=>eC v fun v l=>eN l (eI .i64 v fun v=>br (decide (v>x5)) (Ap x6 nA (eO aA fun v=>eO (ld h v.1 (v.2+x6.toNat) 0 1) fun v=>eC v fun v l=>eN l (eI .i64 v fun v=>Cw lo v (IntKind.wrap .i64 (x6+1)) aA nA cA h))) (Cw lo x5 (IntKind.wrap .i64 (x6+1)) aA nA cA h)))) (some (Iv (IntKind.wrap .i64 (x5+1)),h)) :=
 lE
def BP lo a5 n5 c5 x6 aA nA cA aB nB cB h:=
 LA 204 Tryz.f204 221311 0 111 lo ⟨[(2,.lp 2 0),(3,.lp 3 0),(5,.sl 6 a5 n5 c5),(6,Iv x6)],[(2,[.sl 6 aA nA cA]),(3,[.sl 6 aB nB cB])],h⟩
def C3 lo a5 n5 c5 x6 x7 aA nA cA aB nB cB h:=
 Lp (X 204) lo (pf 22311231221311 Tryz.f204) 2 (AV 2 (kS (X 204) lo (pf 111231221311 Tryz.f204) 1 (AV 1 (kS (X 204) lo (pf 11221311 Tryz.f204) 0 (T6 (X 204) lo (pf 221311 Tryz.f204) 0 (AV 0 (kS (X 204) lo (pf 111 Tryz.f204) 0 (IH (X 204) Tryz.f204.results.toList)))))))) ⟨[(2,.lp 2 0),(3,.lp 3 0),(5,.sl 6 a5 n5 c5),(6,Iv x6),(7,Iv x7)],[(2,[.sl 6 aA nA cA]),(3,[.sl 6 aB nB cB])],h⟩
theorem RB {lo n0 n1:Nat}{a0 a1:Pq}{c0 c1:Nq}{h:Heap}{r:V×Heap} (hk:(BP lo (some (h.length,0)) 0 (some 0) 0 a0 n0 c0 a1 n1 c1 (h ++ [.rows 6 34 false []]))=some r) :
  Ae lo 204 [.agg [.sl 6 a0 n0 c0],.agg [.sl 6 a1 n1 c1]] h=some r :=
 eK Tryz.func204 hk
theorem BP.e {lo n5 nA nB:Nat}{a5 aA aB:Pq}{c5 cA cB:Nq}{x6:Int}{h:Heap} :
  BP lo a5 n5 c5 x6 aA nA cA aB nB cB h=br (decide (x6<4)) (Ap x6 nB (eO aB fun v=>eO (ld h v.1 (v.2+x6.toNat) 1 2) fun v=>eC v fun v l=>eI .i64 v fun v=>eC l fun l c=>eI .i64 l fun l=>eN c (Ap x6 nA (eO aA fun c=>eO (ld h c.1 (c.2+x6.toNat) 1 2) fun c=>eC c fun c n=>eI .i64 c fun c=>eC n fun n a=>eI .i64 n fun n=>eN a (Aj (Ae lo 255 [.agg [Iv v,Iv l],.agg [Iv c,Iv n]] h) fun v l=>eB v (C3 lo a5 n5 c5 x6 0 aA nA cA aB nB cB l) (BP lo a5 n5 c5 (IntKind.wrap .i64 (x6+1)) aA nA cA aB nB cB l)))))) (some (.sl 6 a5 n5 c5,h)) :=
 lE
theorem C3.e {lo n5 nA nB:Nat}{a5 aA aB:Pq}{c5 cA cB:Nq}{x6 x7:Int}{h:Heap} :
  C3 lo a5 n5 c5 x6 x7 aA nA cA aB nB cB h=br (decide (x7<(n5:Int))) (Ap x7 n5 (eO a5 fun v=>eO (ld h v.1 (v.2+x7.toNat) 1 2) fun v=>eC v fun v l=>eI .i64 v fun v=>eC l fun l c=>eI .i64 l fun l=>eN c (Ap x6 nA (eO aA fun c=>eO (ld h c.1 (c.2+x6.toNat) 1 2) fun c=>eC c fun c n=>eI .i64 c fun c=>eC n fun n a=>eI .i64 n fun n=>eN a (Aj (Ae lo 255 [.agg [Iv v,Iv l],.agg [Iv c,Iv n]] h) fun v l=>eB v (C3 lo a5 n5 c5 x6 (IntKind.wrap .i64 (x7+1)) aA nA cA aB nB cB l) (As a5 n5 c5 none (some (Iv x7)) none fun v c n=>At 6 (l ++ [.rows 6 34 false []]) (.sl 6 v c n) fun v=>CS lo 34 6 72 (.sl 6 (some (l.length,0)) 0 (some 0)) v (l ++ [.rows 6 34 false []]) fun v l=>eS 6 v fun v c n=>Ap x6 nA (eO aA fun a=>eO (ld l a.1 (a.2+x6.toNat) 0 6) fun a=>eC a fun a o=>eI .i64 a fun a=>eC o fun o s=>eI .i64 o fun o=>eC s fun s b=>eI .i64 s fun s=>eC b fun b x=>eS 2 b fun b y z=>eC x fun x u=>eT x fun x=>eC u fun u w=>eBv u fun u=>eN w (Aj (Ae lo 164 [.agg [Iv a,Iv o,Iv s,.sl 2 b y z,.str x,.bool u]] l) fun l a=>eA l fun l=>eC l fun l o=>eI .i64 l fun l=>eC o fun o s=>eI .i64 o fun o=>eC s fun s b=>eI .i64 s fun s=>eC b fun b x=>eS 2 b fun b y z=>eC x fun x u=>eT x fun x=>eC u fun u w=>eBv u fun u=>eN w (At 6 (a ++ [.rows 6 34 false [[Iv l,Iv o,Iv s,.sl 2 b y z,.str x,.bool u]]]) (.sl 6 (some (a.length,0)) 1 (some 1)) fun w=>CS lo 34 6 72 (.sl 6 v c n) w (a ++ [.rows 6 34 false [[Iv l,Iv o,Iv s,.sl 2 b y z,.str x,.bool u]]]) fun v l=>eS 6 v fun v c n=>As a5 n5 c5 (some (Iv x7)) none none fun a o s=>At 6 l (.sl 6 a o s) fun a=>CS lo 34 6 72 (.sl 6 v c n) a l fun v l=>eS 6 v fun v c n=>BP lo v c n (IntKind.wrap .i64 (x6+1)) aA nA cA aB nB cB l))))))))) (As a5 n5 c5 none (some (Iv x7)) none fun v l c=>At 6 (h ++ [.rows 6 34 false []]) (.sl 6 v l c) fun v=>CS lo 34 6 72 (.sl 6 (some (h.length,0)) 0 (some 0)) v (h ++ [.rows 6 34 false []]) fun v l=>eS 6 v fun v c n=>Ap x6 nA (eO aA fun a=>eO (ld l a.1 (a.2+x6.toNat) 0 6) fun a=>eC a fun a o=>eI .i64 a fun a=>eC o fun o s=>eI .i64 o fun o=>eC s fun s b=>eI .i64 s fun s=>eC b fun b x=>eS 2 b fun b y z=>eC x fun x u=>eT x fun x=>eC u fun u w=>eBv u fun u=>eN w (Aj (Ae lo 164 [.agg [Iv a,Iv o,Iv s,.sl 2 b y z,.str x,.bool u]] l) fun l a=>eA l fun l=>eC l fun l o=>eI .i64 l fun l=>eC o fun o s=>eI .i64 o fun o=>eC s fun s b=>eI .i64 s fun s=>eC b fun b x=>eS 2 b fun b y z=>eC x fun x u=>eT x fun x=>eC u fun u w=>eBv u fun u=>eN w (At 6 (a ++ [.rows 6 34 false [[Iv l,Iv o,Iv s,.sl 2 b y z,.str x,.bool u]]]) (.sl 6 (some (a.length,0)) 1 (some 1)) fun w=>CS lo 34 6 72 (.sl 6 v c n) w (a ++ [.rows 6 34 false [[Iv l,Iv o,Iv s,.sl 2 b y z,.str x,.bool u]]]) fun v l=>eS 6 v fun v c n=>As a5 n5 c5 (some (Iv x7)) none none fun a o s=>At 6 l (.sl 6 a o s) fun a=>CS lo 34 6 72 (.sl 6 v c n) a l fun v l=>eS 6 v fun v c n=>BP lo v c n (IntKind.wrap .i64 (x6+1)) aA nA cA aB nB cB l)))) :=
 lE
def GZ lo b2 x3 aA nA cA aB nB cB aC nC cC aD nD cD h:=
 LA 211 Tryz.f211 22131 0 11 lo ⟨[(1,.lp 1 0),(2,.bool b2),(3,Iv x3)],[(1,[.sl 6 aA nA cA,.sl 5 aB nB cB,.sl 9 aC nC cC,.sl 5 aD nD cD])],h⟩
def EP lo b2 x3 x4 aA nA cA aB nB cB aC nC cC aD nD cD h:=
 Lp (X 211) lo (pf 22123122131 Tryz.f211) 2 (AV 2 (AV 1 (kS (X 211) lo (pf 1122131 Tryz.f211) 0 (T6 (X 211) lo (pf 22131 Tryz.f211) 0 (AV 0 (kS (X 211) lo (pf 11 Tryz.f211) 0 (IH (X 211) Tryz.f211.results.toList))))))) ⟨[(1,.lp 1 0),(2,.bool b2),(3,Iv x3),(4,Iv x4)],[(1,[.sl 6 aA nA cA,.sl 5 aB nB cB,.sl 9 aC nC cC,.sl 5 aD nD cD])],h⟩
def EO lo b2 x3 x4 a5 n5 c5 x6 aA nA cA aB nB cB aC nC cC aD nD cD h:=
 Lp (X 211) lo (pf 2211123122123122131 Tryz.f211) 4 (AV 4 (AV 3 (kS (X 211) lo (pf 1122123122131 Tryz.f211) 2 (T6 (X 211) lo (pf 22123122131 Tryz.f211) 2 (AV 2 (AV 1 (kS (X 211) lo (pf 1122131 Tryz.f211) 0 (T6 (X 211) lo (pf 22131 Tryz.f211) 0 (AV 0 (kS (X 211) lo (pf 11 Tryz.f211) 0 (IH (X 211) Tryz.f211.results.toList))))))))))) ⟨[(1,.lp 1 0),(2,.bool b2),(3,Iv x3),(4,Iv x4),(5,.sl 6 a5 n5 c5),(6,Iv x6)],[(1,[.sl 6 aA nA cA,.sl 5 aB nB cB,.sl 9 aC nC cC,.sl 5 aD nD cD])],h⟩
theorem GZ.e {lo nA nB nC nD:Nat}{b2:Bool}{x3:Int}{aA aB aC aD:Pq}{cA cB cC cD:Nq}{h:Heap} :
  GZ lo b2 x3 aA nA cA aB nB cB aC nC cC aD nD cD h=br (decide (x3<3)) (EP lo b2 x3 0 aA nA cA aB nB cB aC nC cC aD nD cD h) (some (.bool true,h)) :=
 lE
theorem EP.e {lo nA nB nC nD:Nat}{b2:Bool}{x3 x4:Int}{aA aB aC aD:Pq}{cA cB cC cD:Nq}{h:Heap} :
  EP lo b2 x3 x4 aA nA cA aB nB cB aC nC cC aD nD cD h=br (decide (x4<3)) (Ap x3 nA (eO aA fun v=>eO (ld h v.1 (v.2+x3.toNat) 4 1) fun v=>eC v fun v l=>eN l (eS 1 v fun v l c=>Ap x4 l (eO v fun v=>eO (ld h v.1 (v.2+x4.toNat) 0 1) fun v=>eC v fun v l=>eN l (eS 6 v fun v l c=>Ap x4 nA (eO aA fun n=>eO (ld h n.1 (n.2+x4.toNat) 3 1) fun n=>eC n fun n a=>eN a (eS 6 n fun n n a=>br (decide ((l:Int)>(n:Int))) (some (.bool false,h)) (EO lo b2 x3 x4 v l c 0 aA nA cA aB nB cB aC nC cC aD nD cD h)))))))) (GZ lo b2 (IntKind.wrap .i64 (x3+1)) aA nA cA aB nB cB aC nC cC aD nD cD h) :=
 lE
theorem EO.e {lo n5 nA nB nC nD:Nat}{b2:Bool}{x3 x4 x6:Int}{a5 aA aB aC aD:Pq}{c5 cA cB cC cD:Nq}{h:Heap} :
  EO lo b2 x3 x4 a5 n5 c5 x6 aA nA cA aB nB cB aC nC cC aD nD cD h=br (decide (x6<(n5:Int))) (Ap x6 n5 (eO a5 fun v=>eO (ld h v.1 (v.2+x6.toNat) 0 6) fun v=>eC v fun v l=>eI .i64 v fun v=>eC l fun l c=>eI .i64 l fun l=>eC c fun c n=>eI .i64 c fun c=>eC n fun n a=>eS 2 n fun n o s=>eC a fun a b=>eT a fun a=>eC b fun b x=>eBv b fun b=>eN x (Ap x4 nA (eO aA fun x=>eO (ld h x.1 (x.2+x4.toNat) 3 1) fun x=>eC x fun x y=>eN y (eS 6 x fun x y z=>Ap x6 y (eO x fun x=>eO (ld h x.1 (x.2+x6.toNat) 0 6) fun x=>eC x fun x y=>eI .i64 x fun x=>eC y fun y z=>eI .i64 y fun y=>eC z fun z u=>eI .i64 z fun z=>eC u fun u w=>eS 2 u fun u p q=>eC w fun w g=>eT w fun w=>eC g fun g i=>eBv g fun g=>eN i (Aj (Ae lo 275 [.agg [Iv v,Iv l,Iv c,.sl 2 n o s,.str a,.bool b],.agg [Iv x,Iv y,Iv z,.sl 2 u p q,.str w,.bool g]] h) fun v l=>eB v (EO lo b2 x3 x4 a5 n5 c5 (IntKind.wrap .i64 (x6+1)) aA nA cA aB nB cB aC nC cC aD nD cD l) (some (.bool false,l))))))))) (EP lo b2 x3 (IntKind.wrap .i64 (x4+1)) aA nA cA aB nB cB aC nC cC aD nD cD h) :=
 lE
theorem OR {lo n0 nA nB nC:Nat}{a0 aA aB aC:Pq}{c0 cA cB cC:Nq}{x1 xA xB xC:Int}{s1:ByteArray}{b1:Bool}{h:Heap}{r:V×Heap} (hk:(Aj (Ae lo 71 [Iv xA,Iv 0,Iv (IntKind.wrap .i64 (((nA:Int)) - 1))] h) fun v l=>eB v (br (x1==1) (Aj (Ae lo 276 [.agg [.sl 6 a0 n0 c0,.sl 5 aA nA cA,.sl 9 aB nB cB,.sl 5 aC nC cC],.agg [Iv x1,Iv xA,Iv xB,Iv xC,.str s1,.bool b1]] l) fun v c=>eU v fun v=>eC v fun v n=>eA v fun v=>eC v fun v a=>eS 6 v fun v o s=>eC a fun a b=>eS 5 a fun a x y=>eC b fun b z=>eS 9 b fun b u w=>eC z fun z p=>eS 5 z fun z q g=>eN p (eC n fun n p=>eB n (eN p (some (.tup [.agg [.sl 6 v o s,.sl 5 a x y,.sl 9 b u w,.sl 5 z q g],.bool true],c))) (eN p (some (.tup [.agg [.sl 6 v o s,.sl 5 a x y,.sl 9 b u w,.sl 5 z q g],.bool false],c))))) (br (x1==2) (Aj (Ae lo 277 [.agg [.sl 6 a0 n0 c0,.sl 5 aA nA cA,.sl 9 aB nB cB,.sl 5 aC nC cC],.agg [Iv x1,Iv xA,Iv xB,Iv xC,.str s1,.bool b1]] l) fun v c=>eU v fun v=>eC v fun v n=>eA v fun v=>eC v fun v a=>eS 6 v fun v o s=>eC a fun a b=>eS 5 a fun a x y=>eC b fun b z=>eS 9 b fun b u w=>eC z fun z p=>eS 5 z fun z q g=>eN p (eC n fun n p=>eB n (eN p (some (.tup [.agg [.sl 6 v o s,.sl 5 a x y,.sl 9 b u w,.sl 5 z q g],.bool true],c))) (eN p (some (.tup [.agg [.sl 6 v o s,.sl 5 a x y,.sl 9 b u w,.sl 5 z q g],.bool false],c))))) (br (x1==3) (Aj (Ae lo 278 [.agg [.sl 6 a0 n0 c0,.sl 5 aA nA cA,.sl 9 aB nB cB,.sl 5 aC nC cC],.agg [Iv x1,Iv xA,Iv xB,Iv xC,.str s1,.bool b1]] l) fun v c=>eU v fun v=>eC v fun v n=>eA v fun v=>eC v fun v a=>eS 6 v fun v o s=>eC a fun a b=>eS 5 a fun a x y=>eC b fun b z=>eS 9 b fun b u w=>eC z fun z p=>eS 5 z fun z q g=>eN p (eC n fun n p=>eB n (eN p (some (.tup [.agg [.sl 6 v o s,.sl 5 a x y,.sl 9 b u w,.sl 5 z q g],.bool true],c))) (eN p (some (.tup [.agg [.sl 6 v o s,.sl 5 a x y,.sl 9 b u w,.sl 5 z q g],.bool false],c))))) (br (x1==4) (Aj (Ae lo 279 [.agg [.sl 6 a0 n0 c0,.sl 5 aA nA cA,.sl 9 aB nB cB,.sl 5 aC nC cC],.agg [Iv x1,Iv xA,Iv xB,Iv xC,.str s1,.bool b1]] l) fun v c=>eU v fun v=>eC v fun v n=>eA v fun v=>eC v fun v a=>eS 6 v fun v o s=>eC a fun a b=>eS 5 a fun a x y=>eC b fun b z=>eS 9 b fun b u w=>eC z fun z p=>eS 5 z fun z q g=>eN p (eC n fun n p=>eB n (eN p (some (.tup [.agg [.sl 6 v o s,.sl 5 a x y,.sl 9 b u w,.sl 5 z q g],.bool true],c))) (eN p (some (.tup [.agg [.sl 6 v o s,.sl 5 a x y,.sl 9 b u w,.sl 5 z q g],.bool false],c))))) (Ap xA nA (eO aA fun v=>eO (ld l v.1 (v.2+xA.toNat) 2 1) fun v=>eC v fun v c=>eN c (eI .i64 v fun v=>br (decide (v>0)) (some (.tup [.agg [.sl 6 a0 n0 c0,.sl 5 aA nA cA,.sl 9 aB nB cB,.sl 5 aC nC cC],.bool false],l)) (Aj (Ae lo 71 [Iv xB,Iv 0,Iv 2] l) fun v c=>eB v (Ap xA nA (eO aA fun v=>eO (st lo c v.1 (v.2+xA.toNat) 0 [Iv xB]) fun v=>some (.tup [.agg [.sl 6 a0 n0 c0,.sl 5 aA nA cA,.sl 9 aB nB cB,.sl 5 aC nC cC],.bool true],v))) (some (.tup [.agg [.sl 6 a0 n0 c0,.sl 5 aA nA cA,.sl 9 aB nB cB,.sl 5 aC nC cC],.bool false],c)))))))))) (some (.tup [.agg [.sl 6 a0 n0 c0,.sl 5 aA nA cA,.sl 9 aB nB cB,.sl 5 aC nC cC],.bool false],l)))=some r) :
  Ae lo 212 [.agg [.sl 6 a0 n0 c0,.sl 5 aA nA cA,.sl 9 aB nB cB,.sl 5 aC nC cC],.agg [Iv x1,Iv xA,Iv xB,Iv xC,.str s1,.bool b1]] h=some r :=
 eK Tryz.func212 hk
theorem QL {lo n0 nA nB nC:Nat}{a0 aA aB aC:Pq}{c0 cA cB cC:Nq}{x1 xA xB xC:Int}{s1:ByteArray}{b1:Bool}{h:Heap}{r:V×Heap} (hk:(Aj (Ae lo 71 [Iv xA,Iv 0,Iv 2] h) fun v l=>eB v (Ap xA n0 (eO a0 fun v=>eO (ld l v.1 (v.2+xA.toNat) 0 6) fun v=>eC v fun v c=>eI .i64 v fun v=>eC c fun c n=>eI .i64 c fun c=>eC n fun n a=>eS 2 n fun n o s=>eC a fun a b=>eS 6 a fun a x y=>eC b fun b z=>eS 1 b fun b u w=>eC z fun z p=>eBv z fun z=>eN p (br (x1==6) (Aj (Ae lo 102 [.agg [.sl 2 n o s],Iv xB] l) fun p q=>eB p (Aj (Ae lo 103 [.agg [.sl 2 n o s],Iv xB] q) fun p g=>eA p fun p=>eC p fun p i=>eS 2 p fun p j k=>eN i (Aj (Ae lo 104 [.agg [Iv v,Iv c,.sl 2 p j k,.sl 6 a x y,.sl 1 b u w,.bool z]] g) fun p g=>eA p fun p=>eC p fun p i=>eI .i64 p fun p=>eC i fun i j=>eI .i64 i fun i=>eC j fun j k=>eS 2 j fun j m t=>eC k fun k d=>eS 6 k fun k e f=>eC d fun d v0=>eS 1 d fun d v1 v2=>eC v0 fun v0 v3=>eBv v0 fun v0=>eN v3 (Ap xA n0 (eO a0 fun v3=>eO (st lo g v3.1 (v3.2+xA.toNat) 0 [Iv p,Iv i,.sl 2 j m t,.sl 6 k e f,.sl 1 d v1 v2,.bool v0]) fun p=>some (.tup [.agg [.sl 6 a0 n0 c0,.sl 5 aA nA cA,.sl 9 aB nB cB,.sl 5 aC nC cC],.bool true],p))))) (Ap xA n0 (eO a0 fun p=>eO (st lo q p.1 (p.2+xA.toNat) 0 [Iv v,Iv c,.sl 2 n o s,.sl 6 a x y,.sl 1 b u w,.bool z]) fun p=>some (.tup [.agg [.sl 6 a0 n0 c0,.sl 5 aA nA cA,.sl 9 aB nB cB,.sl 5 aC nC cC],.bool false],p)))) (br (x1==7) (Aj (Ae lo 117 [.agg [Iv v,Iv c,.sl 2 n o s,.sl 6 a x y,.sl 1 b u w,.bool z],Iv xB] l) fun p q=>eB p (Aj (Ae lo 118 [.agg [.sl 2 n o s],Iv xB] q) fun p g=>eA p fun p=>eC p fun p i=>eS 2 p fun p j k=>eN i (Aj (Ae lo 104 [.agg [Iv v,Iv c,.sl 2 p j k,.sl 6 a x y,.sl 1 b u w,.bool true]] g) fun p g=>eA p fun p=>eC p fun p i=>eI .i64 p fun p=>eC i fun i j=>eI .i64 i fun i=>eC j fun j k=>eS 2 j fun j m t=>eC k fun k d=>eS 6 k fun k e f=>eC d fun d v0=>eS 1 d fun d v1 v2=>eC v0 fun v0 v3=>eBv v0 fun v0=>eN v3 (Ap xA n0 (eO a0 fun v3=>eO (st lo g v3.1 (v3.2+xA.toNat) 0 [Iv p,Iv i,.sl 2 j m t,.sl 6 k e f,.sl 1 d v1 v2,.bool v0]) fun p=>some (.tup [.agg [.sl 6 a0 n0 c0,.sl 5 aA nA cA,.sl 9 aB nB cB,.sl 5 aC nC cC],.bool true],p))))) (Ap xA n0 (eO a0 fun p=>eO (st lo q p.1 (p.2+xA.toNat) 0 [Iv v,Iv c,.sl 2 n o s,.sl 6 a x y,.sl 1 b u w,.bool z]) fun p=>some (.tup [.agg [.sl 6 a0 n0 c0,.sl 5 aA nA cA,.sl 9 aB nB cB,.sl 5 aC nC cC],.bool false],p)))) (br (x1==8) (br (decide ((o:Int)<4)) (Aj (Ae lo 249 [.agg [.sl 2 n o s]] l) fun p q=>eA p fun p=>eC p fun p g=>eS 2 p fun p i j=>eN g (Ap xA n0 (eO a0 fun g=>eO (st lo q g.1 (g.2+xA.toNat) 0 [Iv v,Iv c,.sl 2 p i j,.sl 6 a x y,.sl 1 b u w,.bool z]) fun p=>some (.tup [.agg [.sl 6 a0 n0 c0,.sl 5 aA nA cA,.sl 9 aB nB cB,.sl 5 aC nC cC],.bool true],p)))) (Ap xA n0 (eO a0 fun p=>eO (st lo l p.1 (p.2+xA.toNat) 0 [Iv v,Iv c,.sl 2 n o s,.sl 6 a x y,.sl 1 b u w,.bool z]) fun p=>some (.tup [.agg [.sl 6 a0 n0 c0,.sl 5 aA nA cA,.sl 9 aB nB cB,.sl 5 aC nC cC],.bool false],p)))) (Aj (Ae lo 71 [Iv xB,Iv 0,Iv 2] l) fun p q=>eB p (Aj (Ae lo 97 [.agg [Iv v,Iv c,.sl 2 n o s,.sl 6 a x y,.sl 1 b u w,.bool z],Iv xB] q) fun p g=>eB p (Aj (Ae lo 98 [.agg [Iv v,Iv c,.sl 2 n o s,.sl 6 a x y,.sl 1 b u w,.bool z],Iv xB] g) fun p i=>eA p fun p=>eC p fun p j=>eI .i64 p fun p=>eC j fun j k=>eI .i64 j fun j=>eC k fun k m=>eS 2 k fun k t d=>eC m fun m e=>eS 6 m fun m f v0=>eC e fun e v1=>eS 1 e fun e v2 v3=>eC v1 fun v1 v4=>eBv v1 fun v1=>eN v4 (Ap xA n0 (eO a0 fun v4=>eO (st lo i v4.1 (v4.2+xA.toNat) 0 [Iv p,Iv j,.sl 2 k t d,.sl 6 m f v0,.sl 1 e v2 v3,.bool v1]) fun p=>some (.tup [.agg [.sl 6 a0 n0 c0,.sl 5 aA nA cA,.sl 9 aB nB cB,.sl 5 aC nC cC],.bool true],p)))) (Ap xA n0 (eO a0 fun p=>eO (st lo g p.1 (p.2+xA.toNat) 0 [Iv v,Iv c,.sl 2 n o s,.sl 6 a x y,.sl 1 b u w,.bool z]) fun p=>some (.tup [.agg [.sl 6 a0 n0 c0,.sl 5 aA nA cA,.sl 9 aB nB cB,.sl 5 aC nC cC],.bool false],p)))) (Ap xA n0 (eO a0 fun p=>eO (st lo q p.1 (p.2+xA.toNat) 0 [Iv v,Iv c,.sl 2 n o s,.sl 6 a x y,.sl 1 b u w,.bool z]) fun v=>some (.tup [.agg [.sl 6 a0 n0 c0,.sl 5 aA nA cA,.sl 9 aB nB cB,.sl 5 aC nC cC],.bool false],v))))))))) (some (.tup [.agg [.sl 6 a0 n0 c0,.sl 5 aA nA cA,.sl 9 aB nB cB,.sl 5 aC nC cC],.bool false],l)))=some r) :
  Ae lo 213 [.agg [.sl 6 a0 n0 c0,.sl 5 aA nA cA,.sl 9 aB nB cB,.sl 5 aC nC cC],.agg [Iv x1,Iv xA,Iv xB,Iv xC,.str s1,.bool b1]] h=some r :=
 eK Tryz.func213 hk
theorem TK {lo n0 nA nB nC:Nat}{a0 aA aB aC:Pq}{c0 cA cB cC:Nq}{x1 xA xB xC:Int}{s1:ByteArray}{b1:Bool}{h:Heap}{r:V×Heap} (hk:(br (x1==10) (Aj (Ae lo 71 [Iv xA,Iv 0,Iv 2] h) fun v l=>eB v (Aj (Ae lo 71 [Iv xB,Iv 0,Iv 2] l) fun v c=>eB v (br (xA==xB) (some (.tup [.agg [.sl 6 a0 n0 c0,.sl 5 aA nA cA,.sl 9 aB nB cB,.sl 5 aC nC cC],.bool false],c)) (br (decide ((nB:Int)≥12)) (some (.tup [.agg [.sl 6 a0 n0 c0,.sl 5 aA nA cA,.sl 9 aB nB cB,.sl 5 aC nC cC],.bool false],c)) (Ap xA n0 (eO a0 fun v=>eO (ld c v.1 (v.2+xA.toNat) 3 1) fun v=>eC v fun v n=>eN n (eS 6 v fun v v n=>Aj (Ae lo 71 [Iv xC,Iv 0,Iv (IntKind.wrap .i64 (((v:Int)) - 1))] c) fun v n=>eB v (Ap xA n0 (eO a0 fun v=>eO (ld n v.1 (v.2+xA.toNat) 3 1) fun v=>eC v fun v a=>eN a (eS 6 v fun v a o=>Ap xC a (eO v fun v=>eO (ld n v.1 (v.2+xC.toNat) 0 6) fun v=>eC v fun v a=>eI .i64 v fun v=>eC a fun a o=>eI .i64 a fun a=>eC o fun o s=>eI .i64 o fun o=>eC s fun s b=>eS 2 s fun s x y=>eC b fun b z=>eT b fun b=>eC z fun z u=>eBv z fun z=>eN u (Aj (Ae lo 164 [.agg [Iv v,Iv a,Iv o,.sl 2 s x y,.str b,.bool z]] n) fun v a=>eA v fun v=>eC v fun v o=>eI .i64 v fun v=>eC o fun o s=>eI .i64 o fun o=>eC s fun s b=>eI .i64 s fun s=>eC b fun b x=>eS 2 b fun b y z=>eC x fun x u=>eT x fun x=>eC u fun u w=>eBv u fun u=>eN w (At 9 (a ++ [.rows 9 172 false [[Iv xA,Iv xB,Iv xC,Iv v,Iv o,Iv s,.sl 2 b y z,.str x,.bool u]]]) (.sl 9 (some (a.length,0)) 1 (some 1)) fun w=>CS lo 172 9 96 (.sl 9 aB nB cB) w (a ++ [.rows 9 172 false [[Iv xA,Iv xB,Iv xC,Iv v,Iv o,Iv s,.sl 2 b y z,.str x,.bool u]]]) fun v a=>eS 9 v fun v o s=>some (.tup [.agg [.sl 6 a0 n0 c0,.sl 5 aA nA cA,.sl 9 v o s,.sl 5 aC nC cC],.bool true],a))))))) (some (.tup [.agg [.sl 6 a0 n0 c0,.sl 5 aA nA cA,.sl 9 aB nB cB,.sl 5 aC nC cC],.bool false],n))))))) (some (.tup [.agg [.sl 6 a0 n0 c0,.sl 5 aA nA cA,.sl 9 aB nB cB,.sl 5 aC nC cC],.bool false],c))) (some (.tup [.agg [.sl 6 a0 n0 c0,.sl 5 aA nA cA,.sl 9 aB nB cB,.sl 5 aC nC cC],.bool false],l))) (Aj (Ae lo 71 [Iv xA,Iv 0,Iv (IntKind.wrap .i64 (((nB:Int)) - 1))] h) fun v l=>eB v (Ap xA nB (eO aB fun v=>eO (ld l v.1 (v.2+xA.toNat) 0 9) fun v=>eC v fun v c=>eI .i64 v fun v=>eC c fun c n=>eI .i64 c fun c=>eC n fun n a=>eI .i64 n fun n=>eC a fun a o=>eI .i64 a fun a=>eC o fun o s=>eI .i64 o fun o=>eC s fun s b=>eI .i64 s fun s=>eC b fun b x=>eS 2 b fun b y z=>eC x fun x u=>eT x fun x=>eC u fun u w=>eBv u fun u=>eN w (br (x1==13) (br (x1==12) (some (.tup [.agg [.sl 6 a0 n0 c0,.sl 5 aA nA cA,.sl 9 aB nB cB,.sl 5 aC nC cC],.bool true],l)) (Ap c n0 (eO a0 fun w=>eO (ld l w.1 (w.2+c.toNat) 0 6) fun w=>eC w fun w p=>eI .i64 w fun w=>eC p fun p q=>eI .i64 p fun p=>eC q fun q g=>eS 2 q fun q i j=>eC g fun g k=>eS 6 g fun g m t=>eC k fun k d=>eS 1 k fun k e f=>eC d fun d v0=>eBv d fun d=>eN v0 (Aj (Ae lo 85 [.agg [Iv w,Iv p,.sl 2 q i j,.sl 6 g m t,.sl 1 k e f,.bool d],Iv v,Iv n,.agg [Iv a,Iv o,Iv s,.sl 2 b y z,.str x,.bool u]] l) fun w p=>eU w fun w=>eC w fun w q=>eA w fun w=>eC w fun w g=>eI .i64 w fun w=>eC g fun g i=>eI .i64 g fun g=>eC i fun i j=>eS 2 i fun i k m=>eC j fun j t=>eS 6 j fun j d e=>eC t fun t f=>eS 1 t fun t v0 v1=>eC f fun f v2=>eBv f fun f=>eN v2 (eC q fun q v2=>eB q (eN v2 (Ap c n0 (eO a0 fun q=>eO (st lo p q.1 (q.2+c.toNat) 0 [Iv w,Iv g,.sl 2 i k m,.sl 6 j d e,.sl 1 t v0 v1,.bool f]) fun w=>some (.tup [.agg [.sl 6 a0 n0 c0,.sl 5 aA nA cA,.sl 9 aB nB cB,.sl 5 aC nC cC],.bool true],w)))) (eN v2 (some (.tup [.agg [.sl 6 a0 n0 c0,.sl 5 aA nA cA,.sl 9 aB nB cB,.sl 5 aC nC cC],.bool true],p)))))))) (As aB nB cB none (some (Iv xA)) none fun w p q=>At 9 (l ++ [.rows 9 172 false []]) (.sl 9 w p q) fun w=>CS lo 172 9 96 (.sl 9 (some (l.length,0)) 0 (some 0)) w (l ++ [.rows 9 172 false []]) fun w p=>eS 9 w fun w q g=>As aB nB cB (some (Iv (IntKind.wrap .i64 (xA+1)))) none none fun i j k=>At 9 p (.sl 9 i j k) fun i=>CS lo 172 9 96 (.sl 9 w q g) i p fun w p=>eS 9 w fun w q g=>br (x1==12) (some (.tup [.agg [.sl 6 a0 n0 c0,.sl 5 aA nA cA,.sl 9 w q g,.sl 5 aC nC cC],.bool true],p)) (Ap c n0 (eO a0 fun i=>eO (ld p i.1 (i.2+c.toNat) 0 6) fun i=>eC i fun i j=>eI .i64 i fun i=>eC j fun j k=>eI .i64 j fun j=>eC k fun k m=>eS 2 k fun k t d=>eC m fun m e=>eS 6 m fun m f v0=>eC e fun e v1=>eS 1 e fun e v2 v3=>eC v1 fun v1 v4=>eBv v1 fun v1=>eN v4 (Aj (Ae lo 85 [.agg [Iv i,Iv j,.sl 2 k t d,.sl 6 m f v0,.sl 1 e v2 v3,.bool v1],Iv v,Iv n,.agg [Iv a,Iv o,Iv s,.sl 2 b y z,.str x,.bool u]] p) fun v n=>eU v fun v=>eC v fun v a=>eA v fun v=>eC v fun v o=>eI .i64 v fun v=>eC o fun o s=>eI .i64 o fun o=>eC s fun s b=>eS 2 s fun s x y=>eC b fun b z=>eS 6 b fun b u p=>eC z fun z i=>eS 1 z fun z j k=>eC i fun i m=>eBv i fun i=>eN m (eC a fun a m=>eB a (eN m (Ap c n0 (eO a0 fun a=>eO (st lo n a.1 (a.2+c.toNat) 0 [Iv v,Iv o,.sl 2 s x y,.sl 6 b u p,.sl 1 z j k,.bool i]) fun v=>some (.tup [.agg [.sl 6 a0 n0 c0,.sl 5 aA nA cA,.sl 9 w q g,.sl 5 aC nC cC],.bool true],v)))) (eN m (some (.tup [.agg [.sl 6 a0 n0 c0,.sl 5 aA nA cA,.sl 9 w q g,.sl 5 aC nC cC],.bool true],n))))))))))) (some (.tup [.agg [.sl 6 a0 n0 c0,.sl 5 aA nA cA,.sl 9 aB nB cB,.sl 5 aC nC cC],.bool false],l))))=some r) :
  Ae lo 214 [.agg [.sl 6 a0 n0 c0,.sl 5 aA nA cA,.sl 9 aB nB cB,.sl 5 aC nC cC],.agg [Iv x1,Iv xA,Iv xB,Iv xC,.str s1,.bool b1]] h=some r :=
 eK Tryz.func214 hk
theorem LX {lo n0:Nat}{a0:Pq}{c0:Nq}{h:Heap}{r:V×Heap} (hk:(Aj (Ae lo 293 [.sl 2 a0 n0 c0] h) fun v l=>eS 2 v fun v c n=>Aj (Ae lo 292 [.sl 2 v c n] l) fun v l=>eS 2 v fun v c n=>some (.agg [.sl 2 v c n],l))=some r) :
  Ae lo 229 [.agg [.sl 2 a0 n0 c0]] h=some r :=
 eK Tryz.func229 hk
def Fz lo a0 n0 c0 x1 x5 h:=
 LA 237 Tryz.f237 22131 0 11 lo ⟨[(0,.sl 2 a0 n0 c0),(1,Iv x1),(5,Iv x5)],[],h⟩
theorem Fz.e {lo n0:Nat}{a0:Pq}{c0:Nq}{x1 x5:Int}{h:Heap} :
  Fz lo a0 n0 c0 x1 x5 h=br (decide (x5<(n0:Int))) (Ap x5 n0 (eO a0 fun v=>eO (ld h v.1 (v.2+x5.toNat) 0 1) fun v=>eC v fun v l=>eN l (eS 6 v fun v l c=>Aj (Ae lo 238 [.sl 6 v l c,Iv x1] h) fun v l=>eI .i64 v fun v=>Ap x5 n0 (eO a0 fun c=>eO (ld l c.1 (c.2+x5.toNat) 1 1) fun c=>eC c fun c n=>eN n (eS 6 c fun c n a=>Aj (Ae lo 238 [.sl 6 c n a,Iv v] l) fun v l=>eI .i64 v fun v=>Fz lo a0 n0 c0 v (IntKind.wrap .i64 (x5+1)) l))))) (some (Iv x1,h)) :=
 lE
def Ep lo a0 n0 c0 x1 x5 h:=
 LA 238 Tryz.f238 22131 0 11 lo ⟨[(0,.sl 6 a0 n0 c0),(1,Iv x1),(5,Iv x5)],[],h⟩
theorem Ep.e {lo n0:Nat}{a0:Pq}{c0:Nq}{x1 x5:Int}{h:Heap} :
  Ep lo a0 n0 c0 x1 x5 h=br (decide (x5<(n0:Int))) (Ap x5 n0 (eO a0 fun v=>eO (st lo h v.1 (v.2+x5.toNat) 0 [Iv x1]) fun v=>Ap x5 n0 (eO a0 fun l=>eO (st lo v l.1 (l.2+x5.toNat) 1 [Iv (IntKind.wrap .i64 (x1+1))]) fun v=>Ap x5 n0 (eO a0 fun l=>eO (st lo v l.1 (l.2+x5.toNat) 2 [Iv (IntKind.wrap .i64 ((IntKind.wrap .i64 (x1+1))+1))]) fun v=>Ap x5 n0 (eO a0 fun l=>eO (ld v l.1 (l.2+x5.toNat) 3 1) fun l=>eC l fun l c=>eN c (eS 2 l fun l c n=>Aj (Ae lo 240 [.sl 2 l c n,Iv (IntKind.wrap .i64 ((IntKind.wrap .i64 ((IntKind.wrap .i64 (x1+1))+1))+1))] v) fun v l=>eI .i64 v fun v=>Aj (Ae lo 149 [Iv v] l) fun l c=>eT l fun l=>Ap x5 n0 (eO a0 fun n=>eO (st lo c n.1 (n.2+x5.toNat) 4 [.str l]) fun l=>br ((IntKind.i64.wrap (v+(1:Int))).tmod (3:Int)==0) (Ap x5 n0 (eO a0 fun c=>eO (st lo l c.1 (c.2+x5.toNat) 5 [.bool true]) fun c=>Ep lo a0 n0 c0 (IntKind.wrap .i64 ((IntKind.wrap .i64 (v+1))+1)) (IntKind.wrap .i64 (x5+1)) c)) (Ap x5 n0 (eO a0 fun c=>eO (st lo l c.1 (c.2+x5.toNat) 5 [.bool false]) fun l=>Ep lo a0 n0 c0 (IntKind.wrap .i64 ((IntKind.wrap .i64 (v+1))+1)) (IntKind.wrap .i64 (x5+1)) l))))))))) (some (Iv x1,h)) :=
 lE
def Fv lo a0 n0 c0 x1 x5 h:=
 LA 239 Tryz.f239 22131 0 11 lo ⟨[(0,.sl 1 a0 n0 c0),(1,Iv x1),(5,Iv x5)],[],h⟩
theorem Fv.e {lo n0:Nat}{a0:Pq}{c0:Nq}{x1 x5:Int}{h:Heap} :
  Fv lo a0 n0 c0 x1 x5 h=br (decide (x5<(n0:Int))) (Ap x5 n0 (eO a0 fun v=>eO (ld h v.1 (v.2+x5.toNat) 0 1) fun v=>eC v fun v l=>eN l (eS 6 v fun v l c=>Aj (Ae lo 238 [.sl 6 v l c,Iv x1] h) fun v l=>eI .i64 v fun v=>Fv lo a0 n0 c0 v (IntKind.wrap .i64 (x5+1)) l))) (some (Iv x1,h)) :=
 lE
def Gu lo a0 n0 c0 x1 x5 h:=
 LA 240 Tryz.f240 22131 0 11 lo ⟨[(0,.sl 2 a0 n0 c0),(1,Iv x1),(5,Iv x5)],[],h⟩
theorem Gu.e {lo n0:Nat}{a0:Pq}{c0:Nq}{x1 x5:Int}{h:Heap} :
  Gu lo a0 n0 c0 x1 x5 h=br (decide (x5<(n0:Int))) (Ap x5 n0 (eO a0 fun v=>eO (st lo h v.1 (v.2+x5.toNat) 0 [Iv x1]) fun v=>Ap x5 n0 (eO a0 fun l=>eO (st lo v l.1 (l.2+x5.toNat) 1 [Iv (IntKind.wrap .i64 (x1+1))]) fun v=>Gu lo a0 n0 c0 (IntKind.wrap .i64 ((IntKind.wrap .i64 (x1+1))+1)) (IntKind.wrap .i64 (x5+1)) v))) (some (Iv x1,h)) :=
 lE
def FD lo a0 n0 c0 x1 x4 x5 h:=
 LA 241 Tryz.f241 22131 0 11 lo ⟨[(0,.sl 2 a0 n0 c0),(1,Iv x1),(4,Iv x4),(5,Iv x5)],[],h⟩
theorem FD.e {lo n0:Nat}{a0:Pq}{c0:Nq}{x1 x4 x5:Int}{h:Heap} :
  FD lo a0 n0 c0 x1 x4 x5 h=br (decide (x5<(n0:Int))) (Ap x5 n0 (eO a0 fun v=>eO (ld h v.1 (v.2+x5.toNat) 0 1) fun v=>eC v fun v l=>eN l (eS 6 v fun v l c=>Aj (Ae lo 242 [.sl 6 v l c,Iv x1] h) fun v l=>eI .i64 v fun v=>br (decide (v<0)) (some (Iv (-1),l)) (Ap x5 n0 (eO a0 fun c=>eO (ld l c.1 (c.2+x5.toNat) 1 1) fun c=>eC c fun c n=>eN n (eS 6 c fun c n a=>Aj (Ae lo 242 [.sl 6 c n a,Iv v] l) fun v l=>eI .i64 v fun v=>br (decide (v<0)) (some (Iv (-1),l)) (FD lo a0 n0 c0 v x4 (IntKind.wrap .i64 (x5+1)) l))))))) (some (Iv x1,h)) :=
 lE
def Er lo a0 n0 c0 x1 x4 x5 h:=
 LA 242 Tryz.f242 22131 0 11 lo ⟨[(0,.sl 6 a0 n0 c0),(1,Iv x1),(4,Iv x4),(5,Iv x5)],[],h⟩
theorem Er.e {lo n0:Nat}{a0:Pq}{c0:Nq}{x1 x4 x5:Int}{h:Heap} :
  Er lo a0 n0 c0 x1 x4 x5 h=br (decide (x5<(n0:Int))) (Ap x5 n0 (eO a0 fun v=>eO (ld h v.1 (v.2+x5.toNat) 0 1) fun v=>eC v fun v l=>eN l (eI .i64 v fun v=>br (v==x1) (Ap x5 n0 (eO a0 fun v=>eO (ld h v.1 (v.2+x5.toNat) 1 1) fun v=>eC v fun v l=>eN l (eI .i64 v fun v=>br (v==IntKind.i64.wrap (x1+(1:Int))) (Ap x5 n0 (eO a0 fun v=>eO (ld h v.1 (v.2+x5.toNat) 2 1) fun v=>eC v fun v l=>eN l (eI .i64 v fun v=>br (v==IntKind.i64.wrap (IntKind.i64.wrap (x1+(1:Int))+(1:Int))) (Ap x5 n0 (eO a0 fun v=>eO (ld h v.1 (v.2+x5.toNat) 3 1) fun v=>eC v fun v l=>eN l (eS 2 v fun v l c=>Aj (Ae lo 244 [.sl 2 v l c,Iv (IntKind.wrap .i64 ((IntKind.wrap .i64 ((IntKind.wrap .i64 (x1+1))+1))+1))] h) fun v l=>eI .i64 v fun v=>br (decide (v<0)) (some (Iv (-1),l)) (Ap x5 n0 (eO a0 fun c=>eO (ld l c.1 (c.2+x5.toNat) 4 1) fun c=>eC c fun c n=>eN n (eT c fun c=>Aj (Ae l.length 149 [Iv v] l) fun l n=>eT l fun l=>br (c.toList==l.toList) (Ap x5 n0 (eO a0 fun l=>eO (ld n l.1 (l.2+x5.toNat) 5 1) fun l=>eC l fun l c=>eN c (eB l (br ((IntKind.i64.wrap (v+(1:Int))).tmod (3:Int)==0) (Er lo a0 n0 c0 (IntKind.wrap .i64 ((IntKind.wrap .i64 (v+1))+1)) x4 (IntKind.wrap .i64 (x5+1)) n) (some (Iv (-1),n))) (br ((IntKind.i64.wrap (v+(1:Int))).tmod (3:Int)==0) (some (Iv (-1),n)) (Er lo a0 n0 c0 (IntKind.wrap .i64 ((IntKind.wrap .i64 (v+1))+1)) x4 (IntKind.wrap .i64 (x5+1)) n))))) (some (Iv (-1),n)))))))) (some (Iv (-1),h))))) (some (Iv (-1),h))))) (some (Iv (-1),h))))) (some (Iv x1,h)) :=
 lE
def FB lo a0 n0 c0 x1 x4 x5 h:=
 LA 243 Tryz.f243 22131 0 11 lo ⟨[(0,.sl 1 a0 n0 c0),(1,Iv x1),(4,Iv x4),(5,Iv x5)],[],h⟩
theorem FB.e {lo n0:Nat}{a0:Pq}{c0:Nq}{x1 x4 x5:Int}{h:Heap} :
  FB lo a0 n0 c0 x1 x4 x5 h=br (decide (x5<(n0:Int))) (Ap x5 n0 (eO a0 fun v=>eO (ld h v.1 (v.2+x5.toNat) 0 1) fun v=>eC v fun v l=>eN l (eS 6 v fun v l c=>Aj (Ae lo 242 [.sl 6 v l c,Iv x1] h) fun v l=>eI .i64 v fun v=>br (decide (v<0)) (some (Iv (-1),l)) (FB lo a0 n0 c0 v x4 (IntKind.wrap .i64 (x5+1)) l)))) (some (Iv x1,h)) :=
 lE
def Gw lo a0 n0 c0 x1 x4 x5 h:=
 LA 244 Tryz.f244 22131 0 11 lo ⟨[(0,.sl 2 a0 n0 c0),(1,Iv x1),(4,Iv x4),(5,Iv x5)],[],h⟩
theorem Gw.e {lo n0:Nat}{a0:Pq}{c0:Nq}{x1 x4 x5:Int}{h:Heap} :
  Gw lo a0 n0 c0 x1 x4 x5 h=br (decide (x5<(n0:Int))) (Ap x5 n0 (eO a0 fun v=>eO (ld h v.1 (v.2+x5.toNat) 0 1) fun v=>eC v fun v l=>eN l (eI .i64 v fun v=>br (v==x1) (Ap x5 n0 (eO a0 fun v=>eO (ld h v.1 (v.2+x5.toNat) 1 1) fun v=>eC v fun v l=>eN l (eI .i64 v fun v=>br (v==IntKind.i64.wrap (x1+(1:Int))) (Gw lo a0 n0 c0 (IntKind.wrap .i64 ((IntKind.wrap .i64 (x1+1))+1)) x4 (IntKind.wrap .i64 (x5+1)) h) (some (Iv (-1),h))))) (some (Iv (-1),h))))) (some (Iv x1,h)) :=
 lE
def Dr lo x0 x1 x6 nA aA nB cA nC aB nD cB nE aC nF cC nG aD nH cD nI aE nJ cE nK aF nL cF nM aG nN cG nO aH nP cH h:=
 LA 245 Tryz.f245 221311 0 111 lo ⟨[(0,Iv x0),(1,Iv x1),(4,.lp 4 0),(5,.lp 5 0),(6,Iv x6)],[(4,[.sl nA aA nB cA,.sl nC aB nD cB,.sl nE aC nF cC,.sl nG aD nH cD]),(5,[.sl nI aE nJ cE,.sl nK aF nL cF,.sl nM aG nN cG,.sl nO aH nP cH])],h⟩
def Dq lo x1 x7 nA aA nB cA nC aB nD cB nE aC nF cC nG aD nH cD nI aE nJ cE nK aF nL cF nM aG nN cG nO aH nP cH h:=
 LA 245 Tryz.f245 2213111 2 1111 lo ⟨[(1,Iv x1),(4,.lp 4 0),(5,.lp 5 0),(7,Iv x7)],[(4,[.sl nA aA nB cA,.sl nC aB nD cB,.sl nE aC nF cC,.sl nG aD nH cD]),(5,[.sl nI aE nJ cE,.sl nK aF nL cF,.sl nM aG nN cG,.sl nO aH nP cH])],h⟩
theorem TJ {lo:Nat}{x0 x1:Int}{h:Heap}{r:V×Heap} (hk:(Dr lo x0 x1 0 0 none 0 (some 0) 0 none 0 (some 0) 0 none 0 (some 0) 0 none 0 (some 0) 0 none 0 (some 0) 0 none 0 (some 0) 0 none 0 (some 0) 0 none 0 (some 0) h)=some r) :
  Ae lo 245 [Iv x0,Iv x1] h=some r :=
 eK Tryz.func245 hk
theorem Dr.e {lo nA nB nC nD nE nF nG nH nI nJ nK nL nM nN nO nP:Nat}{x0 x1 x6:Int}{aA aB aC aD aE aF aG aH:Pq}{cA cB cC cD cE cF cG cH:Nq}{h:Heap} :
  Dr lo x0 x1 x6 nA aA nB cA nC aB nD cB nE aC nF cC nG aD nH cD nI aE nJ cE nK aF nL cF nM aG nN cG nO aH nP cH h=br (decide (x6<3)) (Aj (Ae lo 306 [Iv x6,Iv x0] h) fun v l=>eA v fun v=>eC v fun v c=>eI .i64 v fun v=>eC c fun c n=>eI .i64 c fun c=>eC n fun n a=>eS 2 n fun n o s=>eC a fun a b=>eS 6 a fun a x y=>eC b fun b z=>eS 1 b fun b u w=>eC z fun z p=>eBv z fun z=>eN p (At 6 (l ++ [.rows 6 49 false [[Iv v,Iv c,.sl 2 n o s,.sl 6 a x y,.sl 1 b u w,.bool z]]]) (.sl 6 (some (l.length,0)) 1 (some 1)) fun p=>CS lo 49 6 96 (.sl nI aE nJ cE) p (l ++ [.rows 6 49 false [[Iv v,Iv c,.sl 2 n o s,.sl 6 a x y,.sl 1 b u w,.bool z]]]) fun v l=>eS 6 v fun v c n=>Dr lo x0 x1 (IntKind.wrap .i64 (x6+1)) nA aA nB cA nC aB nD cB nE aC nF cC nG aD nH cD 6 v c n nK aF nL cF nM aG nN cG nO aH nP cH l)) (Dq lo x1 0 nA aA nB cA nC aB nD cB nE aC nF cC nG aD nH cD nI aE nJ cE nK aF nL cF nM aG nN cG nO aH nP cH h) :=
 lE
theorem Dq.e {lo nA nB nC nD nE nF nG nH nI nJ nK nL nM nN nO nP:Nat}{x1 x7:Int}{aA aB aC aD aE aF aG aH:Pq}{cA cB cC cD cE cF cG cH:Nq}{h:Heap} :
  Dq lo x1 x7 nA aA nB cA nC aB nD cB nE aC nF cC nG aD nH cD nI aE nJ cE nK aF nL cF nM aG nN cG nO aH nP cH h=br (decide (x7<x1)) (Aj (Ae lo 106 [] h) fun v l=>eA v fun v=>eC v fun v c=>eS 2 v fun v n a=>eN c (At 5 (l ++ [.rows 5 105 false [[Iv (x7.tmod (3:Int)),.sl 2 v n a,Iv 0,Iv 0,Iv 0]]]) (.sl 5 (some (l.length,0)) 1 (some 1)) fun c=>CS lo 105 5 56 (.sl nK aF nL cF) c (l ++ [.rows 5 105 false [[Iv (x7.tmod (3:Int)),.sl 2 v n a,Iv 0,Iv 0,Iv 0]]]) fun v l=>eS 5 v fun v c n=>Dq lo x1 (IntKind.wrap .i64 (x7+1)) nA aA nB cA nC aB nD cB nE aC nF cC nG aD nH cD nI aE nJ cE 5 v c n nM aG nN cG nO aH nP cH l)) (some (.agg [.sl nI aE nJ cE,.sl nK aF nL cF,.sl nM aG nN cG,.sl nO aH nP cH],h)) :=
 lE
def Bj lo nA nB nC x3 aA nD cA xA aB nE cB aC nF cC aD nG cD aE nH cE h:=
 LA 247 Tryz.f247 2213111 0 1111 lo ⟨[(0,.ptr (some (nA,(nB,nC)))),(3,Iv x3),(9,.lp 9 0),(10,.sl 6 aA nD cA),(11,Iv xA)],[(9,[.sl 6 aB nE cB,.sl 5 aC nF cC,.sl 9 aD nG cD,.sl 5 aE nH cE])],h⟩
theorem NY {lo nA nB nC:Nat}{x1 x2 x3:Int}{h:Heap}{r:V×Heap} (hk:(Aj (Ae lo 245 [Iv x1,Iv x2] h) fun v l=>eA v fun v=>eC v fun v c=>eS 6 v fun v n a=>eC c fun c o=>eS 5 c fun c s b=>eC o fun o x=>eS 9 o fun o y z=>eC x fun x u=>eS 5 x fun x w p=>eN u (Bj lo nA nB nC x3 (some (l.length,0)) 0 (some 0) 0 v n a c s b o y z x w p (l ++ [.rows 6 87 false []])))=some r) :
  Ae lo 247 [.ptr (some (nA,(nB,nC))),Iv x1,Iv x2,Iv x3] h=some r :=
 eK Tryz.func247 hk
theorem Bj.e {lo nA nB nC nD nE nF nG nH:Nat}{x3 xA:Int}{aA aB aC aD aE:Pq}{cA cB cC cD cE:Nq}{h:Heap} :
  Bj lo nA nB nC x3 aA nD cA xA aB nE cB aC nF cC aD nG cD aE nH cE h=br (decide (xA<x3)) (Aj (Ae lo 308 [.ptr (some (nA,(nB,nC))),.agg [.sl 6 aB nE cB,.sl 5 aC nF cC,.sl 9 aD nG cD,.sl 5 aE nH cE]] h) fun v l=>eA v fun v=>eC v fun v c=>eI .i64 v fun v=>eC c fun c n=>eI .i64 c fun c=>eC n fun n a=>eI .i64 n fun n=>eC a fun a o=>eI .i64 a fun a=>eC o fun o s=>eT o fun o=>eC s fun s b=>eBv s fun s=>eN b (Aj (Ae lo 124 [.agg [.sl 6 aB nE cB,.sl 5 aC nF cC,.sl 9 aD nG cD,.sl 5 aE nH cE],.agg [Iv v,Iv c,Iv n,Iv a,.str o,.bool s]] l) fun l b=>eU l fun l=>eC l fun l x=>eA l fun l=>eC l fun l y=>eS 6 l fun l z u=>eC y fun y w=>eS 5 y fun y p q=>eC w fun w g=>eS 9 w fun w i j=>eC g fun g k=>eS 5 g fun g m t=>eN k (eC x fun x k=>eB x (eN k (At 6 (b ++ [.rows 6 87 false [[Iv v,Iv c,Iv n,Iv a,.str o,.bool s]]]) (.sl 6 (some (b.length,0)) 1 (some 1)) fun x=>CS lo 87 6 56 (.sl 6 aA nD cA) x (b ++ [.rows 6 87 false [[Iv v,Iv c,Iv n,Iv a,.str o,.bool s]]]) fun x d=>eS 6 x fun x e f=>Bj lo nA nB nC x3 x e f (IntKind.wrap .i64 (xA+1)) l z u y p q w i j g m t d)) (eN k (Aj (Ae lo 66 [.ptr (some (nA,(nB,nC))),Iv 6] b) fun b x=>eI .i64 b fun b=>br (decide (b>0)) (Bj lo nA nB nC x3 aA nD cA (IntKind.wrap .i64 (xA+1)) aB nE cB aC nF cC aD nG cD aE nH cE x) (At 6 (x ++ [.rows 6 87 false [[Iv v,Iv c,Iv n,Iv a,.str o,.bool s]]]) (.sl 6 (some (x.length,0)) 1 (some 1)) fun b=>CS lo 87 6 56 (.sl 6 aA nD cA) b (x ++ [.rows 6 87 false [[Iv v,Iv c,Iv n,Iv a,.str o,.bool s]]]) fun v c=>eS 6 v fun v n a=>Bj lo nA nB nC x3 v n a (IntKind.wrap .i64 (xA+1)) l z u y p q w i j g m t c)))))) (some (.sl 6 aA nD cA,h)) :=
 lE
def Cu lo x0 x4 nA aA nB cA nC aB nD cB h:=
 LA 248 Tryz.f248 2213111 0 1111 lo ⟨[(0,Iv x0),(2,.lp 2 0),(3,.lp 3 0),(4,Iv x4)],[(2,[.sl nA aA nB cA]),(3,[.sl nC aB nD cB])],h⟩
theorem O5 {lo:Nat}{x0:Int}{h:Heap}{r:V×Heap} (hk:(Aj (Ae lo 71 [Iv x0,Iv 1,Iv 4] h) fun v l=>eB v (Cu lo x0 0 0 none 0 (some 0) 0 none 0 (some 0) l) (some (.agg [.sl 0 none 0 (some 0)],l)))=some r) :
  Ae lo 248 [Iv x0] h=some r :=
 eK Tryz.func248 hk
theorem Cu.e {lo nA nB nC nD:Nat}{x0 x4:Int}{aA aB:Pq}{cA cB:Nq}{h:Heap} :
  Cu lo x0 x4 nA aA nB cA nC aB nD cB h=br (decide (x4<x0)) (Aj (Ae lo 309 [] h) fun v l=>eA v fun v=>eC v fun v c=>eS 6 v fun v n a=>eN c (At 2 (l ++ [.rows 2 45 false [[.sl 6 v n a,.sl 0 none 0 (some 0)]]]) (.sl 2 (some (l.length,0)) 1 (some 1)) fun c=>CS lo 45 2 48 (.sl nC aB nD cB) c (l ++ [.rows 2 45 false [[.sl 6 v n a,.sl 0 none 0 (some 0)]]]) fun v l=>eS 2 v fun v c n=>Cu lo x0 (IntKind.wrap .i64 (x4+1)) nA aA nB cA 2 v c n l)) (some (.agg [.sl nC aB nD cB],h)) :=
 lE
theorem RC {lo n0:Nat}{a0:Pq}{c0:Nq}{h:Heap}{r:V×Heap} (hk:(Ap (IntKind.wrap .i64 (((n0:Int)) - 1)) n0 (eO a0 fun v=>eO (ld h v.1 (v.2+((IntKind.i64.wrap ((n0:Int) - (1:Int))).toNat)) 0 1) fun v=>eC v fun v l=>eS 6 v fun v c n=>eN l (Aj (Ae lo 254 [.agg [.sl 6 v c n]] h) fun v l=>eA v fun v=>eC v fun v c=>eS 6 v fun v n a=>eN c (At 2 (l ++ [.rows 2 45 false [[.sl 6 v n a,.sl 0 none 0 (some 0)]]]) (.sl 2 (some (l.length,0)) 1 (some 1)) fun c=>CS lo 45 2 48 (.sl 2 a0 n0 c0) c (l ++ [.rows 2 45 false [[.sl 6 v n a,.sl 0 none 0 (some 0)]]]) fun v l=>eS 2 v fun v c n=>some (.agg [.sl 2 v c n],l)))))=some r) :
  Ae lo 249 [.agg [.sl 2 a0 n0 c0]] h=some r :=
 eK Tryz.func249 hk
def Cr lo nA nB nC x4 nD aA nE cA aB nF cB h:=
 LA 250 Tryz.f250 221311 0 111 lo ⟨[(0,.ptr (some (nA,(nB,nC)))),(2,.lp 2 0),(3,.lp 3 0),(4,Iv x4)],[(2,[.sl nD aA nE cA]),(3,[.sl 6 aB nF cB])],h⟩
theorem OY {lo nA nB nC:Nat}{h:Heap}{r:V×Heap} (hk:(Aj (Ae lo 309 [] h) fun v l=>eA v fun v=>eC v fun v c=>eS 6 v fun v n a=>eN c (Aj (Ae lo 66 [.ptr (some (nA,(nB,nC))),Iv 7] l) fun l c=>eI .i64 l fun l=>Cr lo nA nB nC l 0 none 0 (some 0) v n a c))=some r) :
  Ae lo 250 [.ptr (some (nA,(nB,nC)))] h=some r :=
 eK Tryz.func250 hk
theorem Cr.e {lo nA nB nC nD nE nF:Nat}{x4:Int}{aA aB:Pq}{cA cB:Nq}{h:Heap} :
  Cr lo nA nB nC x4 nD aA nE cA aB nF cB h=br (decide (x4>0)) (Aj (Ae lo 173 [.ptr (some (nA,(nB,nC)))] h) fun v l=>eA v fun v=>eC v fun v c=>eI .i64 v fun v=>eC c fun c n=>eI .i64 c fun c=>eC n fun n a=>eI .i64 n fun n=>eC a fun a o=>eS 2 a fun a s b=>eC o fun o x=>eT o fun o=>eC x fun x y=>eBv x fun x=>eN y (Aj (Ae lo 256 [.agg [.sl 6 aB nF cB],.agg [Iv v,Iv c,Iv n,.sl 2 a s b,.str o,.bool x]] l) fun v l=>eA v fun v=>eC v fun v c=>eS 6 v fun v n a=>eN c (Cr lo nA nB nC (IntKind.wrap .i64 (x4 - 1)) nD aA nE cA v n a l))) (some (.agg [.sl 6 aB nF cB],h)) :=
 lE
theorem O9 {lo n0 n1:Nat}{x0 xA xB x1 xC xD:Int}{a0 a1:Pq}{c0 c1:Nq}{s0 s1:ByteArray}{b0 b1:Bool}{h h':Heap}{v:V} (hk:(br (x0==x1) (br ((xA==xC)&&((xB==xD)&&true)) (Aj (Ae h.length 310 [.sl 2 a0 n0 c0,.sl 2 a1 n1 c1] h) fun l c=>eB l (br (s0.toList==s1.toList) (br (b0==b1) (some (.bool true,c)) (some (.bool false,c))) (some (.bool false,c))) (some (.bool false,c))) (some (.bool false,h))) (some (.bool false,h)))=some (v,h')) (hn:noId v=true:=by rfl) :
  Ae lo 251 [.agg [Iv x0,Iv xA,Iv xB,.sl 2 a0 n0 c0,.str s0,.bool b0],.agg [Iv x1,Iv xC,Iv xD,.sl 2 a1 n1 c1,.str s1,.bool b1]] h=some (v,h) :=
 eD Tryz.func251 hk hn
theorem MU {lo n0:Nat}{x0 xA xB:Int}{a0:Pq}{c0:Nq}{s0:ByteArray}{b0:Bool}{h h':Heap}{v:V} (hk:(br (x0==0) (br ((xA==0)&&((xB==0)&&true)) (Aj (Ae h.length 310 [.sl 2 a0 n0 c0,.sl 0 none 0 (some 0)] h) fun l c=>eB l (br (s0.toList==(ByteArray.mk #[]).toList) (br (b0==false) (some (.bool true,c)) (some (.bool false,c))) (some (.bool false,c))) (some (.bool false,c))) (some (.bool false,h))) (some (.bool false,h)))=some (v,h')) (hn:noId v=true:=by rfl) :
  Ae lo 251 [.agg [Iv x0,Iv xA,Iv xB,.sl 2 a0 n0 c0,.str s0,.bool b0],.agg [Iv 0,Iv 0,Iv 0,.sl 0 none 0 (some 0),.str ⟨⟨[]⟩⟩,.bool false]] h=some (v,h) :=
 eD Tryz.func251 hk hn
theorem K5 {lo n0:Nat}{a0:Pq}{c0:Nq}{h:Heap}{r:V×Heap} (hk:(Aj (Ae lo 259 [.sl 6 a0 n0 c0] h) fun v l=>eS 6 v fun v c n=>some (.agg [.sl 6 v c n],l))=some r) :
  Ae lo 252 [.agg [.sl 6 a0 n0 c0]] h=some r :=
 eK Tryz.func252 hk
theorem MX {lo n0 n1:Nat}{a0 a1:Pq}{c0 c1:Nq}{h h':Heap}{v:V} (hk:(Aj (Ae h.length 288 [.sl 6 a0 n0 c0,.sl 6 a1 n1 c1,.fn 251 []] h) fun l c=>eB l (some (.bool true,c)) (some (.bool false,c)))=some (v,h')) (hn:noId v=true:=by rfl) :
  Ae lo 253 [.agg [.sl 6 a0 n0 c0],.agg [.sl 6 a1 n1 c1]] h=some (v,h) :=
 eD Tryz.func253 hk hn
def Bt lo x4 aA nA cA nB aB nC cB nD aC nE cC h:=
 LA 254 Tryz.f254 221311 0 111 lo ⟨[(1,.lp 1 0),(2,.lp 2 0),(3,.lp 3 0),(4,Iv x4)],[(1,[.sl 6 aA nA cA]),(2,[.sl nB aB nC cB]),(3,[.sl nD aC nE cC])],h⟩
theorem IE {lo n0:Nat}{a0:Pq}{c0:Nq}{h:Heap}{r:V×Heap} (hk:(Bt lo 0 a0 n0 c0 0 none 0 (some 0) 0 none 0 (some 0) h)=some r) :
  Ae lo 254 [.agg [.sl 6 a0 n0 c0]] h=some r :=
 eK Tryz.func254 hk
theorem Bt.e {lo nA nB nC nD nE:Nat}{x4:Int}{aA aB aC:Pq}{cA cB cC:Nq}{h:Heap} :
  Bt lo x4 aA nA cA nB aB nC cB nD aC nE cC h=br (decide (x4<(nA:Int))) (Ap x4 nA (eO aA fun v=>eO (ld h v.1 (v.2+x4.toNat) 0 6) fun v=>eC v fun v l=>eI .i64 v fun v=>eC l fun l c=>eI .i64 l fun l=>eC c fun c n=>eI .i64 c fun c=>eC n fun n a=>eS 2 n fun n o s=>eC a fun a b=>eT a fun a=>eC b fun b x=>eBv b fun b=>eN x (Aj (Ae lo 164 [.agg [Iv v,Iv l,Iv c,.sl 2 n o s,.str a,.bool b]] h) fun v l=>eA v fun v=>eC v fun v c=>eI .i64 v fun v=>eC c fun c n=>eI .i64 c fun c=>eC n fun n a=>eI .i64 n fun n=>eC a fun a o=>eS 2 a fun a s b=>eC o fun o x=>eT o fun o=>eC x fun x y=>eBv x fun x=>eN y (At 6 (l ++ [.rows 6 34 false [[Iv v,Iv c,Iv n,.sl 2 a s b,.str o,.bool x]]]) (.sl 6 (some (l.length,0)) 1 (some 1)) fun y=>CS lo 34 6 72 (.sl nD aC nE cC) y (l ++ [.rows 6 34 false [[Iv v,Iv c,Iv n,.sl 2 a s b,.str o,.bool x]]]) fun v l=>eS 6 v fun v c n=>Bt lo (IntKind.wrap .i64 (x4+1)) aA nA cA nB aB nC cB 6 v c n l)))) (some (.agg [.sl nD aC nE cC],h)) :=
 lE
theorem RN {lo:Nat}{x0 xA x1 xB:Int}{h h':Heap}{v:V} (hk:(br (decide (x0<x1)) (some (.bool true,h)) (br (x0==x1) (br (decide (xA<xB)) (some (.bool true,h)) (some (.bool false,h))) (some (.bool false,h))))=some (v,h')) (hn:noId v=true:=by rfl) :
  Ae lo 255 [.agg [Iv x0,Iv xA],.agg [Iv x1,Iv xB]] h=some (v,h) :=
 eD Tryz.func255 hk hn
theorem TU {lo n0 n1:Nat}{a0 a1:Pq}{c0 c1:Nq}{x1 xA xB:Int}{s1:ByteArray}{b1:Bool}{h:Heap}{r:V×Heap} (hk:(Ap x1 n0 (eO a0 fun v=>eO (ld h v.1 (v.2+x1.toNat) 1 2) fun v=>eC v fun v l=>eI .i64 v fun v=>eC l fun l c=>eI .i64 l fun l=>eN c (Aj (Ae lo 255 [.agg [Iv v,Iv l],.agg [Iv xA,Iv xB]] h) fun v l=>eB v (Aj (Ae lo 164 [.agg [Iv x1,Iv xA,Iv xB,.sl 2 a1 n1 c1,.str s1,.bool b1]] l) fun v c=>eA v fun v=>eC v fun v n=>eI .i64 v fun v=>eC n fun n a=>eI .i64 n fun n=>eC a fun a o=>eI .i64 a fun a=>eC o fun o s=>eS 2 o fun o b x=>eC s fun s y=>eT s fun s=>eC y fun y z=>eBv y fun y=>eN z (Ap x1 n0 (eO a0 fun z=>eO (st lo c z.1 (z.2+x1.toNat) 0 [Iv v,Iv n,Iv a,.sl 2 o b x,.str s,.bool y]) fun v=>some (.agg [.sl 6 a0 n0 c0],v)))) (some (.agg [.sl 6 a0 n0 c0],l)))))=some r) :
  Ae lo 256 [.agg [.sl 6 a0 n0 c0],.agg [Iv x1,Iv xA,Iv xB,.sl 2 a1 n1 c1,.str s1,.bool b1]] h=some r :=
 eK Tryz.func256 hk
def Bs lo b4 x5 aA nA cA aB nB cB h:=
 LA 257 Tryz.f257 22131 0 11 lo ⟨[(2,.lp 2 0),(3,.lp 3 0),(4,.bool b4),(5,Iv x5)],[(2,[.sl 6 aA nA cA]),(3,[.sl 6 aB nB cB])],h⟩
theorem LM {lo n0 n1:Nat}{a0 a1:Pq}{c0 c1:Nq}{h h':Heap}{v:V} (hk:(Bs h.length false 0 a0 n0 c0 a1 n1 c1 h)=some (v,h')) (hn:noId v=true:=by rfl) :
  Ae lo 257 [.agg [.sl 6 a0 n0 c0],.agg [.sl 6 a1 n1 c1]] h=some (v,h) :=
 eD Tryz.func257 hk hn
theorem Bs.e {lo nA nB:Nat}{b4:Bool}{x5:Int}{aA aB:Pq}{cA cB:Nq}{h:Heap} :
  Bs lo b4 x5 aA nA cA aB nB cB h=br (decide (x5<4)) (Ap x5 nA (eO aA fun v=>eO (ld h v.1 (v.2+x5.toNat) 1 2) fun v=>eC v fun v l=>eI .i64 v fun v=>eC l fun l c=>eI .i64 l fun l=>eN c (Ap x5 nB (eO aB fun c=>eO (ld h c.1 (c.2+x5.toNat) 1 2) fun c=>eC c fun c n=>eI .i64 c fun c=>eC n fun n a=>eI .i64 n fun n=>eN a (br ((v==c)&&((l==n)&&true)) (Ap x5 nA (eO aA fun v=>eO (ld h v.1 (v.2+x5.toNat) 1 1) fun v=>eC v fun v l=>eN l (eI .i64 v fun v=>br (decide (v>0)) (Ap x5 nA (eO aA fun v=>eO (ld h v.1 (v.2+x5.toNat) 0 6) fun v=>eC v fun v l=>eI .i64 v fun v=>eC l fun l c=>eI .i64 l fun l=>eC c fun c n=>eI .i64 c fun c=>eC n fun n a=>eS 2 n fun n o s=>eC a fun a b=>eT a fun a=>eC b fun b x=>eBv b fun b=>eN x (Ap x5 nB (eO aB fun x=>eO (ld h x.1 (x.2+x5.toNat) 0 6) fun x=>eC x fun x y=>eI .i64 x fun x=>eC y fun y z=>eI .i64 y fun y=>eC z fun z u=>eI .i64 z fun z=>eC u fun u w=>eS 2 u fun u p q=>eC w fun w g=>eT w fun w=>eC g fun g i=>eBv g fun g=>eN i (Aj (Ae lo 275 [.agg [Iv v,Iv l,Iv c,.sl 2 n o s,.str a,.bool b],.agg [Iv x,Iv y,Iv z,.sl 2 u p q,.str w,.bool g]] h) fun v l=>eB v (Bs lo b4 (IntKind.wrap .i64 (x5+1)) aA nA cA aB nB cB l) (some (.bool false,l))))))) (Bs lo b4 (IntKind.wrap .i64 (x5+1)) aA nA cA aB nB cB h)))) (some (.bool false,h))))))) (some (.bool true,h)) :=
 lE
theorem Pc {lo:Nat}{x0:Int}{h h':Heap}{v:V} (hk:(br (x0==x0) (some (.bool false,h)) (some (.bool true,h)))=some (v,h')) (hn:noId v=true:=by rfl) :
  Ae lo 258 [Iv x0] h=some (v,h) :=
 eD Tryz.func258 hk hn
def A5 lo a3 n3 c3 a9 n9 c9 xA xB h:=
 LA 259 Tryz.f259 221311 0 111 lo ⟨[(3,.sl 6 a3 n3 c3),(9,.sl 6 a9 n9 c9),(10,Iv xA),(11,Iv xB)],[],h⟩
theorem I0 {lo n0:Nat}{a0:Pq}{c0:Nq}{h:Heap}{r:V×Heap} (hk:(Bm (decide ((0:Int)≤0∧(0:Int)≤(n0:Int)∧(n0:Int)≤140737488355328∧(n0:Int)*((72:Nat):Int)≤281474976710656)) (A5 lo (some (h.length,0)) 0 (some n0) a0 n0 c0 ((n0:Int)) 0 (h ++ [.rows 6 34 false (List.replicate n0 [Iv 0,Iv 0,Iv 0,.sl 0 none 0 (some 0),.str ⟨⟨[]⟩⟩,.bool false])])))=some r) :
  Ae lo 259 [.sl 6 a0 n0 c0] h=some r :=
 eK Tryz.func259 hk
theorem A5.e {lo n3 n9:Nat}{a3 a9:Pq}{c3 c9:Nq}{xA xB:Int}{h:Heap} :
  A5 lo a3 n3 c3 a9 n9 c9 xA xB h=br (decide (xB<xA)) (Ap xB n9 (eO a9 fun v=>eO (ld h v.1 (v.2+xB.toNat) 0 6) fun v=>eC v fun v l=>eI .i64 v fun v=>eC l fun l c=>eI .i64 l fun l=>eC c fun c n=>eI .i64 c fun c=>eC n fun n a=>eS 2 n fun n o s=>eC a fun a b=>eT a fun a=>eC b fun b x=>eBv b fun b=>eN x (Aj (Ae lo 161 [.agg [Iv v,Iv l,Iv c,.sl 2 n o s,.str a,.bool b]] h) fun v l=>eA v fun v=>eC v fun v c=>eI .i64 v fun v=>eC c fun c n=>eI .i64 c fun c=>eC n fun n a=>eI .i64 n fun n=>eC a fun a o=>eS 2 a fun a s b=>eC o fun o x=>eT o fun o=>eC x fun x y=>eBv x fun x=>eN y (At 6 (l ++ [.rows 6 34 false [[Iv v,Iv c,Iv n,.sl 2 a s b,.str o,.bool x]]]) (.sl 6 (some (l.length,0)) 1 (some 1)) fun y=>CS lo 34 6 72 (.sl 6 a3 n3 c3) y (l ++ [.rows 6 34 false [[Iv v,Iv c,Iv n,.sl 2 a s b,.str o,.bool x]]]) fun v l=>eS 6 v fun v c n=>A5 lo v c n a9 n9 c9 xA (IntKind.wrap .i64 (xB+1)) l)))) (some (.sl 6 a3 n3 c3,h)) :=
 lE
def Be lo a0 n0 c0 x3 g4 l4 h:=
 Lp (X 260) lo (pf 2211 Tryz.f260) 0 (AV 0 (IH (X 260) Tryz.f260.results.toList)) ⟨[(0,.sl 6 a0 n0 c0),(1,Iv 0),(2,Iv 0),(3,Iv x3),(4,.fn g4 l4),(10,.bool true),(11,.bool true)],[],h⟩
theorem E2 {lo n0 g4:Nat}{a0:Pq}{c0:Nq}{x3:Int}{l4:List V}{h:Heap}{r:V×Heap} (hk:(Be lo a0 n0 c0 x3 g4 l4 h)=some r) :
  Ae lo 260 [.sl 6 a0 n0 c0,Iv 0,Iv 0,Iv x3,.fn g4 l4] h=some r :=
 eK Tryz.func260 hk
theorem Be.e {lo n0 g4:Nat}{a0:Pq}{c0:Nq}{x3:Int}{l4:List V}{h:Heap} :
  Be lo a0 n0 c0 x3 g4 l4 h=Aj (Ae lo 311 [.sl 6 a0 n0 c0,Iv 0,Iv 0,.fn g4 l4] h) fun v l=>eU v fun v=>eN v (some (.tup [],l)) :=
 lE
def Bd lo a0 n0 c0 x3 g4 l4 h:=
 Lp (X 260) lo (pf 2211 Tryz.f260) 0 (AV 0 (IH (X 260) Tryz.f260.results.toList)) ⟨[(0,.sl 6 a0 n0 c0),(1,Iv 0),(2,Iv 1),(3,Iv x3),(4,.fn g4 l4),(10,.bool true),(11,.bool true)],[],h⟩
theorem E1 {lo n0 g4:Nat}{a0:Pq}{c0:Nq}{x3:Int}{l4:List V}{h:Heap}{r:V×Heap} (hk:(Bd lo a0 n0 c0 x3 g4 l4 h)=some r) :
  Ae lo 260 [.sl 6 a0 n0 c0,Iv 0,Iv 1,Iv x3,.fn g4 l4] h=some r :=
 eK Tryz.func260 hk
theorem Bd.e {lo n0 g4:Nat}{a0:Pq}{c0:Nq}{x3:Int}{l4:List V}{h:Heap} :
  Bd lo a0 n0 c0 x3 g4 l4 h=Aj (Ae lo 311 [.sl 6 a0 n0 c0,Iv 0,Iv 1,.fn g4 l4] h) fun v l=>eU v fun v=>eN v (some (.tup [],l)) :=
 lE
def Bc lo a0 n0 c0 x3 g4 l4 h:=
 Lp (X 260) lo (pf 2211 Tryz.f260) 0 (AV 0 (IH (X 260) Tryz.f260.results.toList)) ⟨[(0,.sl 6 a0 n0 c0),(1,Iv 0),(2,Iv 2),(3,Iv x3),(4,.fn g4 l4),(10,.bool true),(11,.bool true)],[],h⟩
theorem E0 {lo n0 g4:Nat}{a0:Pq}{c0:Nq}{x3:Int}{l4:List V}{h:Heap}{r:V×Heap} (hk:(Bc lo a0 n0 c0 x3 g4 l4 h)=some r) :
  Ae lo 260 [.sl 6 a0 n0 c0,Iv 0,Iv 2,Iv x3,.fn g4 l4] h=some r :=
 eK Tryz.func260 hk
theorem Bc.e {lo n0 g4:Nat}{a0:Pq}{c0:Nq}{x3:Int}{l4:List V}{h:Heap} :
  Bc lo a0 n0 c0 x3 g4 l4 h=Aj (Ae lo 311 [.sl 6 a0 n0 c0,Iv 0,Iv 2,.fn g4 l4] h) fun v l=>eU v fun v=>eN v (some (.tup [],l)) :=
 lE
def Bb lo a0 n0 c0 x3 g4 l4 h:=
 Lp (X 260) lo (pf 2211 Tryz.f260) 0 (AV 0 (IH (X 260) Tryz.f260.results.toList)) ⟨[(0,.sl 6 a0 n0 c0),(1,Iv 0),(2,Iv 3),(3,Iv x3),(4,.fn g4 l4),(10,.bool true),(11,.bool true)],[],h⟩
theorem EZ {lo n0 g4:Nat}{a0:Pq}{c0:Nq}{x3:Int}{l4:List V}{h:Heap}{r:V×Heap} (hk:(Bb lo a0 n0 c0 x3 g4 l4 h)=some r) :
  Ae lo 260 [.sl 6 a0 n0 c0,Iv 0,Iv 3,Iv x3,.fn g4 l4] h=some r :=
 eK Tryz.func260 hk
theorem Bb.e {lo n0 g4:Nat}{a0:Pq}{c0:Nq}{x3:Int}{l4:List V}{h:Heap} :
  Bb lo a0 n0 c0 x3 g4 l4 h=Aj (Ae lo 311 [.sl 6 a0 n0 c0,Iv 0,Iv 3,.fn g4 l4] h) fun v l=>eU v fun v=>eN v (some (.tup [],l)) :=
 lE
def Ba lo a0 n0 c0 x3 g4 l4 h:=
 Lp (X 260) lo (pf 2211 Tryz.f260) 0 (AV 0 (IH (X 260) Tryz.f260.results.toList)) ⟨[(0,.sl 6 a0 n0 c0),(1,Iv 0),(2,Iv 4),(3,Iv x3),(4,.fn g4 l4),(10,.bool true),(11,.bool true)],[],h⟩
theorem EY {lo n0 g4:Nat}{a0:Pq}{c0:Nq}{x3:Int}{l4:List V}{h:Heap}{r:V×Heap} (hk:(Ba lo a0 n0 c0 x3 g4 l4 h)=some r) :
  Ae lo 260 [.sl 6 a0 n0 c0,Iv 0,Iv 4,Iv x3,.fn g4 l4] h=some r :=
 eK Tryz.func260 hk
theorem Ba.e {lo n0 g4:Nat}{a0:Pq}{c0:Nq}{x3:Int}{l4:List V}{h:Heap} :
  Ba lo a0 n0 c0 x3 g4 l4 h=Aj (Ae lo 311 [.sl 6 a0 n0 c0,Iv 0,Iv 4,.fn g4 l4] h) fun v l=>eU v fun v=>eN v (some (.tup [],l)) :=
 lE
theorem O6 {lo:Nat}{x0:Int}{h h':Heap}{v:V} (hk:(Aj (Ae h.length 320 [.int .u64 x0] h) fun l c=>eI .i64 l fun l=>some (Iv l,c))=some (v,h')) (hn:noId v=true:=by rfl) :
  Ae lo 261 [.int .u64 x0] h=some (v,h) :=
 eD Tryz.func261 hk hn
theorem QP {lo nA nB nC:Nat}{h:Heap}{r:V×Heap} (hk:(Aj (Ae lo 108 [.ptr (some (nA,(nB,nC))),.sl 1 (some (h.length,0)) 8 (some 8)] (h ++ [.rows 1 9 false [[.str ⟨⟨[]⟩⟩],[.str ⟨⟨[97]⟩⟩],[.str ⟨⟨[98]⟩⟩],[.str ⟨⟨[120,35,49]⟩⟩],[.str ⟨⟨[61]⟩⟩],[.str ⟨⟨[45]⟩⟩],[.str ⟨⟨[108,111,110,103,116,101,120,116]⟩⟩],[.str ⟨⟨[122,122]⟩⟩]]])) fun v l=>eT v fun v=>some (.str v,l))=some r) :
  Ae lo 262 [.ptr (some (nA,(nB,nC)))] h=some r :=
 eK Tryz.func262 hk
theorem O8 {lo n0 nA:Nat}{x0 xA xB:Int}{a0:Pq}{c0:Nq}{s0:ByteArray}{b0:Bool}{h h':Heap}{v:V} (hk:(eO (ld h nA 0 0 2) fun l=>eC l fun l c=>eI .i64 l fun l=>eC c fun c n=>eI .i64 c fun c=>eN n (br ((xA==l)&&((xB==c)&&true)) (some (.bool true,h)) (some (.bool false,h))))=some (v,h')) (hn:noId v=true:=by rfl) :
  Ae lo 263 [.agg [Iv x0,Iv xA,Iv xB,.sl 2 a0 n0 c0,.str s0,.bool b0],.ptr (some (nA,(0,0)))] h=some (v,h) :=
 eD Tryz.func263 hk hn
theorem LZ {lo nA nB nC n2:Nat}{x1 x2 xA xB:Int}{a2:Pq}{c2:Nq}{s2:ByteArray}{b2:Bool}{h:Heap}{r:V×Heap} (hk:(eO (ld h nA nB (nC+0) 1) fun v=>eC v fun v l=>eN l (eS 2 v fun v l c=>Ap x1 l (eO v fun v=>eO (ld h v.1 (v.2+x1.toNat) 0 1) fun l=>eC l fun l c=>eS 6 l fun l n a=>eN c (Aj (Ae lo 187 [.agg [.sl 6 l n a],.agg [Iv x2,Iv xA,Iv xB,.sl 2 a2 n2 c2,.str s2,.bool b2]] h) fun l c=>eB l (eO (ld c v.1 (v.2+x1.toNat) 0 1) fun l=>eC l fun l n=>eN n (eS 6 l fun l n a=>Aj (Ae c.length 161 [.agg [Iv x2,Iv xA,Iv xB,.sl 2 a2 n2 c2,.str s2,.bool b2]] c) fun a o=>eA a fun a=>eC a fun a s=>eI .i64 a fun a=>eC s fun s b=>eI .i64 s fun s=>eC b fun b x=>eI .i64 b fun b=>eC x fun x y=>eS 2 x fun x z u=>eC y fun y w=>eT y fun y=>eC w fun w p=>eBv w fun w=>eN p (Ap x2 n (eO l fun l=>eO (st lo o l.1 (l.2+x2.toNat) 0 [Iv a,Iv s,Iv b,.sl 2 x z u,.str y,.bool w]) fun l=>eO (ld l nA nB nC 1) fun n=>eC n fun n a=>eS 2 n fun n o s=>eN a (Aj (Ae lo 158 [.agg [.sl 2 n o s],Iv x1] l) fun l n=>eB l (some (.tup [],n)) (eO (ld n v.1 (v.2+x1.toNat) 1 1) fun l=>eC l fun l a=>eN a (eS 6 l fun l a o=>Aj (Ae n.length 161 [.agg [Iv x2,Iv xA,Iv xB,.sl 2 a2 n2 c2,.str s2,.bool b2]] n) fun n s=>eA n fun n=>eC n fun n b=>eI .i64 n fun n=>eC b fun b x=>eI .i64 b fun b=>eC x fun x y=>eI .i64 x fun x=>eC y fun y z=>eS 2 y fun y u w=>eC z fun z p=>eT z fun z=>eC p fun p q=>eBv p fun p=>eN q (At 6 (s ++ [.rows 6 34 false [[Iv n,Iv b,Iv x,.sl 2 y u w,.str z,.bool p]]]) (.sl 6 (some (s.length,0)) 1 (some 1)) fun q=>CS lo 34 6 72 (.sl 6 l a o) q (s ++ [.rows 6 34 false [[Iv n,Iv b,Iv x,.sl 2 y u w,.str z,.bool p]]]) fun l n=>eS 6 l fun l a o=>Aj (Ae lo 172 [.sl 6 l a o] n) fun l n=>eS 6 l fun l a o=>eO (st lo n v.1 (v.2+x1.toNat) 1 [.sl 6 l a o]) fun v=>some (.tup [],v))))))))) (some (.tup [],c))))))=some r) :
  Ae lo 264 [.ptr (some (nA,(nB,nC))),Iv x1,.agg [Iv x2,Iv xA,Iv xB,.sl 2 a2 n2 c2,.str s2,.bool b2]] h=some r :=
 eK Tryz.func264 hk
theorem Ef {lo n0 g1:Nat}{a0:Pq}{c0:Nq}{l1:List V}{h h':Heap}{v:V} (hk:(Aj (Ae h.length 321 [.sl 2 a0 n0 c0,.fn g1 l1] h) fun l c=>eI .i64 l fun l=>br (decide (l≥0)) (some (.bool true,c)) (some (.bool false,c)))=some (v,h')) (hn:noId v=true:=by rfl) :
  Ae lo 265 [.sl 2 a0 n0 c0,.fn g1 l1] h=some (v,h) :=
 eD Tryz.func265 hk hn
theorem J6 {lo n0 nA:Nat}{a0 aA:Pq}{c0 cA:Nq}{h h':Heap}{v:V} (hk:(br (decide ((nA:Int)>0)) (some (.bool true,h)) (some (.bool false,h)))=some (v,h')) (hn:noId v=true:=by rfl) :
  Ae lo 266 [.agg [.sl 6 a0 n0 c0,.sl 6 aA nA cA]] h=some (v,h) :=
 eD Tryz.func266 hk hn
def AE lo a0 n0 c0 g1 l1 x4 x7 x8 h:=
 LA 267 Tryz.f267 22131 0 11 lo ⟨[(0,.sl 2 a0 n0 c0),(1,.fn g1 l1),(4,Iv x4),(7,Iv x7),(8,Iv x8)],[],h⟩
theorem E4 {lo n0 g1:Nat}{a0:Pq}{c0:Nq}{l1:List V}{h h':Heap}{v:V} (hk:(AE h.length a0 n0 c0 g1 l1 0 ((n0:Int)) 0 h)=some (v,h')) (hn:noId v=true:=by rfl) :
  Ae lo 267 [.sl 2 a0 n0 c0,.fn g1 l1] h=some (v,h) :=
 eD Tryz.func267 hk hn
theorem AE.e {lo n0 g1:Nat}{a0:Pq}{c0:Nq}{l1:List V}{x4 x7 x8:Int}{h:Heap} :
  AE lo a0 n0 c0 g1 l1 x4 x7 x8 h=br (decide (x8<x7)) (Ap x8 n0 (eO a0 fun v=>eO (ld h v.1 (v.2+x8.toNat) 0 2) fun v=>eC v fun v l=>eI .i64 v fun v=>eC l fun l c=>eI .i64 l fun l=>eN c (Aj (Ae lo g1 (Dh [.agg [Iv v,Iv l]] l1) h) fun v l=>eB v (some (Iv x8,l)) (AE lo a0 n0 c0 g1 l1 x4 x7 (IntKind.wrap .i64 (x8+1)) l)))) (some (Iv (-1),h)) :=
 lE
theorem FO {lo n0:Nat}{a0:Pq}{c0:Nq}{x1 x2:Int}{h:Heap}{r:V×Heap} (hk:(As a0 (EV h a0 n0 c0) c0 (some (Iv x1)) (some (Iv x2)) (some (Iv ((n0:Int)))) fun v v v=>br (x1==x2) (some (.sl 6 a0 n0 c0,h)) (As a0 n0 c0 none (some (Iv x1)) none fun v l c=>As a0 n0 c0 (some (Iv x2)) none none fun n a o=>At 6 h (.sl 6 n a o) fun n=>CS lo 34 6 72 (.sl 6 v l c) n h fun v l=>eS 6 v fun v c n=>As v (EV l v c n) n (some (Iv ((c:Int)))) (some (Iv ((n0:Int)))) none fun a o s=>ZF lo 6 6 true [Iv 0,Iv 0,Iv 0,.sl 0 none 0 (some 0),.str ⟨⟨[]⟩⟩,.bool false] l a o fun l=>some (.sl 6 v c n,l)))=some r) :
  Ae lo 268 [.sl 6 a0 n0 c0,Iv x1,Iv x2] h=some r :=
 eK Tryz.func268 hk
def Db lo s0 b2 x5 x6 h:=
 LA 269 Tryz.f269 22131 0 11 lo ⟨[(0,.str s0),(2,.bool b2),(5,Iv x5),(6,Iv x6)],[],h⟩
theorem RS {lo:Nat}{s0:ByteArray}{h h':Heap}{v:V} (hk:(Db h.length s0 false ((s0.size:Int)) 0 h)=some (v,h')) (hn:noId v=true:=by rfl) :
  Ae lo 269 [.str s0] h=some (v,h) :=
 eD Tryz.func269 hk hn
theorem Db.e {lo:Nat}{s0:ByteArray}{b2:Bool}{x5 x6:Int}{h:Heap} :
  Db lo s0 b2 x5 x6 h=br (decide (x6<x5)) (eO (Oc s0 x6) fun v=>Aj (Ae lo 87 [Iv (IntKind.wrap .i64 ((v.toNat:Int))),Iv 33,Iv 126] h) fun v l=>eB v (Db lo s0 b2 x5 (IntKind.wrap .i64 (x6+1)) l) (some (.bool false,l))) (br (decide ((s0.size:Int)≤8)) (some (.bool true,h)) (some (.bool false,h))) :=
 lE
def HL lo a0 n0 c0 x1 x4 x5 h:=
 LA 271 Tryz.f271 2213111 0 1111 lo ⟨[(0,.sl 6 a0 n0 c0),(1,Iv x1),(4,Iv x4),(5,Iv x5)],[],h⟩
theorem HL.e {lo n0:Nat}{a0:Pq}{c0:Nq}{x1 x4 x5:Int}{h:Heap} :
  HL lo a0 n0 c0 x1 x4 x5 h=br (decide (x5<(n0:Int))) (Ap x5 n0 (eO a0 fun v=>eO (ld h v.1 (v.2+x5.toNat) 0 6) fun v=>eC v fun v l=>eI .i64 v fun v=>eC l fun l c=>eI .i64 l fun l=>eC c fun c n=>eI .i64 c fun c=>eC n fun n a=>eS 2 n fun n o s=>eC a fun a b=>eT a fun a=>eC b fun b x=>eBv b fun b=>eN x (Aj (Ae lo 274 [.agg [Iv v,Iv l,Iv c,.sl 2 n o s,.str a,.bool b],Iv x1] h) fun v l=>eI .i64 v fun v=>br (decide (v<0)) (some (Iv (-1),l)) (HL lo a0 n0 c0 v x4 (IntKind.wrap .i64 (x5+1)) l)))) (some (Iv x1,h)) :=
 lE
def Hb lo a0 n0 c0 x1 x4 x5 h:=
 LA 272 Tryz.f272 2213111 0 1111 lo ⟨[(0,.sl 1 a0 n0 c0),(1,Iv x1),(4,Iv x4),(5,Iv x5)],[],h⟩
theorem Hb.e {lo n0:Nat}{a0:Pq}{c0:Nq}{x1 x4 x5:Int}{h:Heap} :
  Hb lo a0 n0 c0 x1 x4 x5 h=br (decide (x5<(n0:Int))) (Ap x5 n0 (eO a0 fun v=>eO (ld h v.1 (v.2+x5.toNat) 0 1) fun v=>eC v fun v l=>eN l (eS 6 v fun v l c=>Aj (Ae lo 271 [.sl 6 v l c,Iv x1] h) fun v l=>eI .i64 v fun v=>br (decide (v<0)) (some (Iv (-1),l)) (Hb lo a0 n0 c0 v x4 (IntKind.wrap .i64 (x5+1)) l)))) (some (Iv x1,h)) :=
 lE
theorem RG {lo n0 n1:Nat}{x0 xA xB x1 xC xD:Int}{a0 a1:Pq}{c0 c1:Nq}{s0 s1:ByteArray}{b0 b1:Bool}{h h':Heap}{v:V} (hk:(Aj (Ae h.length 324 [.agg [Iv x0,Iv xA,Iv xB,.sl 2 a0 n0 c0,.str s0,.bool b0]] h) fun l c=>eT l fun l=>Aj (Ae h.length 324 [.agg [Iv x1,Iv xC,Iv xD,.sl 2 a1 n1 c1,.str s1,.bool b1]] c) fun c n=>eT c fun c=>br (l.toList==c.toList) (some (.bool true,n)) (some (.bool false,n)))=some (v,h')) (hn:noId v=true:=by rfl) :
  Ae lo 275 [.agg [Iv x0,Iv xA,Iv xB,.sl 2 a0 n0 c0,.str s0,.bool b0],.agg [Iv x1,Iv xC,Iv xD,.sl 2 a1 n1 c1,.str s1,.bool b1]] h=some (v,h) :=
 eD Tryz.func275 hk hn
theorem QK {lo n0 nA nB nC:Nat}{a0 aA aB aC:Pq}{c0 cA cB cC:Nq}{x1 xA xB xC:Int}{s1:ByteArray}{b1:Bool}{h:Heap}{r:V×Heap} (hk:(Ap xA nA (eO aA fun v=>eO (ld h v.1 (v.2+xA.toNat) 0 5) fun v=>eC v fun v l=>eI .i64 v fun v=>eC l fun l c=>eS 2 l fun l n a=>eC c fun c o=>eI .i64 c fun c=>eC o fun o s=>eI .i64 o fun o=>eC s fun o s=>eI .i64 o fun o=>eN s (Ap v n0 (eO a0 fun o=>eO (ld h o.1 (o.2+v.toNat) 0 6) fun o=>eC o fun o s=>eI .i64 o fun o=>eC s fun s b=>eI .i64 s fun s=>eC b fun b x=>eS 2 b fun b y z=>eC x fun x u=>eS 6 x fun x w p=>eC u fun u q=>eS 1 u fun u g i=>eC q fun q j=>eBv q fun q=>eN j (br (decide (c>0)) (some (.tup [.agg [.sl 6 a0 n0 c0,.sl 5 aA nA cA,.sl 9 aB nB cB,.sl 5 aC nC cC],.bool false],h)) (Aj (Ae lo 71 [Iv xC,Iv 0,Iv 3] h) fun c j=>eB c (Aj (Ae lo 111 [.str s1] j) fun c k=>eB c (br b1 (br (s1.toList==(ByteArray.mk #[]).toList) (Aj (Ae lo 113 [.agg [Iv o,Iv s,.sl 2 b y z,.sl 6 x w p,.sl 1 u g i,.bool q],.agg [.sl 2 l n a]] k) fun c m=>eB c (br (decide ((nC:Int)≥80)) (some (.tup [.agg [.sl 6 a0 n0 c0,.sl 5 aA nA cA,.sl 9 aB nB cB,.sl 5 aC nC cC],.bool false],m)) (Aj (Ae lo 114 [.agg [Iv o,Iv s,.sl 2 b y z,.sl 6 x w p,.sl 1 u g i,.bool q],Iv xC,.str s1,.bool true,.agg [.sl 2 l n a]] m) fun c t=>eU c fun c=>eC c fun c d=>eA c fun c=>eC c fun c e=>eI .i64 c fun c=>eC e fun e f=>eI .i64 e fun e=>eC f fun f v0=>eS 2 f fun f v1 v2=>eC v0 fun v0 v3=>eS 6 v0 fun v0 v4 v5=>eC v3 fun v3 v6=>eS 1 v3 fun v3 v7 v8=>eC v6 fun v6 v9=>eBv v6 fun v6=>eN v9 (eC d fun d v9=>eA d fun d=>eC d fun d l0=>eI .i64 d fun d=>eC l0 fun l0 l1=>eI .i64 l0 fun l0=>eN l1 (eN v9 (Ap v n0 (eO a0 fun v9=>eO (st lo t v9.1 (v9.2+v.toNat) 0 [Iv c,Iv e,.sl 2 f v1 v2,.sl 6 v0 v4 v5,.sl 1 v3 v7 v8,.bool v6]) fun c=>Ap xA nA (eO aA fun t=>eO (st lo c t.1 (t.2+xA.toNat) 2 [Iv d,Iv l0]) fun c=>Ap xA nA (eO aA fun t=>eO (st lo c t.1 (t.2+xA.toNat) 4 [Iv xC]) fun c=>Aj (Ae lo 325 [.agg [.sl 6 a0 n0 c0,.sl 5 aA nA cA,.sl 9 aB nB cB,.sl 5 aC nC cC],Iv xA,Iv 1,Iv xC,.agg [Iv d,Iv l0]] c) fun c t=>eA c fun c=>eC c fun c d=>eS 6 c fun c e f=>eC d fun d v0=>eS 5 d fun d v1 v2=>eC v0 fun v0 v3=>eS 9 v0 fun v0 v4 v5=>eC v3 fun v3 v6=>eS 5 v3 fun v3 v7 v8=>eN v6 (some (.tup [.agg [.sl 6 c e f,.sl 5 d v1 v2,.sl 9 v0 v4 v5,.sl 5 v3 v7 v8],.bool true],t)))))))))) (some (.tup [.agg [.sl 6 a0 n0 c0,.sl 5 aA nA cA,.sl 9 aB nB cB,.sl 5 aC nC cC],.bool false],m))) (some (.tup [.agg [.sl 6 a0 n0 c0,.sl 5 aA nA cA,.sl 9 aB nB cB,.sl 5 aC nC cC],.bool false],k))) (Aj (Ae lo 113 [.agg [Iv o,Iv s,.sl 2 b y z,.sl 6 x w p,.sl 1 u g i,.bool q],.agg [.sl 2 l n a]] k) fun c m=>eB c (br (decide ((nC:Int)≥80)) (some (.tup [.agg [.sl 6 a0 n0 c0,.sl 5 aA nA cA,.sl 9 aB nB cB,.sl 5 aC nC cC],.bool false],m)) (Aj (Ae lo 114 [.agg [Iv o,Iv s,.sl 2 b y z,.sl 6 x w p,.sl 1 u g i,.bool q],Iv xC,.str s1,.bool false,.agg [.sl 2 l n a]] m) fun l c=>eU l fun l=>eC l fun l n=>eA l fun l=>eC l fun l a=>eI .i64 l fun l=>eC a fun a o=>eI .i64 a fun a=>eC o fun o s=>eS 2 o fun o b x=>eC s fun s y=>eS 6 s fun s z u=>eC y fun y w=>eS 1 y fun y p q=>eC w fun w g=>eBv w fun w=>eN g (eC n fun n g=>eA n fun n=>eC n fun n i=>eI .i64 n fun n=>eC i fun i t=>eI .i64 i fun i=>eN t (eN g (Ap v n0 (eO a0 fun g=>eO (st lo c g.1 (g.2+v.toNat) 0 [Iv l,Iv a,.sl 2 o b x,.sl 6 s z u,.sl 1 y p q,.bool w]) fun v=>Ap xA nA (eO aA fun l=>eO (st lo v l.1 (l.2+xA.toNat) 2 [Iv n,Iv i]) fun v=>Ap xA nA (eO aA fun l=>eO (st lo v l.1 (l.2+xA.toNat) 4 [Iv xC]) fun v=>Aj (Ae lo 325 [.agg [.sl 6 a0 n0 c0,.sl 5 aA nA cA,.sl 9 aB nB cB,.sl 5 aC nC cC],Iv xA,Iv 1,Iv xC,.agg [Iv n,Iv i]] v) fun v l=>eA v fun v=>eC v fun v c=>eS 6 v fun v n a=>eC c fun c o=>eS 5 c fun c s b=>eC o fun o x=>eS 9 o fun o y z=>eC x fun x u=>eS 5 x fun x w p=>eN u (some (.tup [.agg [.sl 6 v n a,.sl 5 c s b,.sl 9 o y z,.sl 5 x w p],.bool true],l)))))))))) (some (.tup [.agg [.sl 6 a0 n0 c0,.sl 5 aA nA cA,.sl 9 aB nB cB,.sl 5 aC nC cC],.bool false],m)))) (some (.tup [.agg [.sl 6 a0 n0 c0,.sl 5 aA nA cA,.sl 9 aB nB cB,.sl 5 aC nC cC],.bool false],k))) (some (.tup [.agg [.sl 6 a0 n0 c0,.sl 5 aA nA cA,.sl 9 aB nB cB,.sl 5 aC nC cC],.bool false],j))))))))=some r) :
  Ae lo 276 [.agg [.sl 6 a0 n0 c0,.sl 5 aA nA cA,.sl 9 aB nB cB,.sl 5 aC nC cC],.agg [Iv x1,Iv xA,Iv xB,Iv xC,.str s1,.bool b1]] h=some r :=
 by cases b1<;>exact eK Tryz.func276 hk
theorem TL {lo n0 nA nB nC:Nat}{a0 aA aB aC:Pq}{c0 cA cB cC:Nq}{x1 xA xB xC:Int}{s1:ByteArray}{b1:Bool}{h:Heap}{r:V×Heap} (hk:(Ap xA nA (eO aA fun v=>eO (ld h v.1 (v.2+xA.toNat) 0 5) fun v=>eC v fun v l=>eI .i64 v fun v=>eC l fun l c=>eS 2 l fun l n a=>eC c fun c o=>eI .i64 c fun c=>eC o fun o s=>eI .i64 o fun o=>eC s fun s b=>eI .i64 s fun s=>eN b (br (c==0) (some (.tup [.agg [.sl 6 a0 n0 c0,.sl 5 aA nA cA,.sl 9 aB nB cB,.sl 5 aC nC cC],.bool false],h)) (Ap v n0 (eO a0 fun b=>eO (ld h b.1 (b.2+v.toNat) 2 1) fun v=>eC v fun v b=>eS 2 v fun v x y=>eN b (Aj (Ae lo 72 [.agg [.sl 2 v x y],Iv 0,Iv s] h) fun b y=>eA b fun b=>eC b fun b z=>eI .i64 b fun b=>eC z fun b z=>eI .i64 b fun b=>eC z fun z u=>eI .i64 z fun z=>eC u fun u w=>eS 2 u fun u u u=>eC w fun u w=>eT u fun u=>eC w fun u w=>eBv u fun u=>eN w (Ap 0 x (eO v fun v=>eO (ld y v.1 (v.2+0) 0 1) fun v=>eC v fun v x=>eN x (eS 6 v fun v x u=>Ap s x (eO v fun v=>eO (ld y v.1 (v.2+s.toNat) 1 2) fun v=>eC v fun v x=>eI .i64 v fun v=>eC x fun x u=>eI .i64 x fun x=>eN u (Aj (Ae lo 255 [.agg [Iv b,Iv z],.agg [Iv c,Iv o]] y) fun y u=>eB y (Aj (Ae lo 255 [.agg [Iv v,Iv x],.agg [Iv c,Iv o]] u) fun v x=>eB v (Aj (Ae lo 255 [.agg [Iv b,Iv z],.agg [Iv c,Iv o]] x) fun v y=>eB v (Aj (Ae lo 255 [.agg [Iv b,Iv z],.agg [Iv c,Iv o]] y) fun v w=>eB v (Ap xA nA (eO aA fun v=>eO (st lo w v.1 (v.2+xA.toNat) 2 [Iv 0,Iv 0]) fun v=>Ap xA nA (eO aA fun p=>eO (st lo v p.1 (p.2+xA.toNat) 4 [Iv 0]) fun v=>some (.tup [.agg [.sl 6 a0 n0 c0,.sl 5 aA nA cA,.sl 9 aB nB cB,.sl 5 aC nC cC],.bool true],v)))) (Aj (Ae lo 326 [.agg [.sl 2 l n a],Iv s,.agg [Iv c,Iv o]] w) fun v w=>eA v fun v=>eC v fun v p=>eS 2 v fun v q g=>eN p (Ap xA nA (eO aA fun p=>eO (st lo w p.1 (p.2+xA.toNat) 1 [.sl 2 v q g]) fun v=>Aj (Ae lo 325 [.agg [.sl 6 a0 n0 c0,.sl 5 aA nA cA,.sl 9 aB nB cB,.sl 5 aC nC cC],Iv xA,Iv 3,Iv s,.agg [Iv c,Iv o]] v) fun v w=>eA v fun v=>eC v fun v p=>eS 6 v fun v q g=>eC p fun p i=>eS 5 p fun p j k=>eC i fun i m=>eS 9 i fun i t d=>eC m fun m e=>eS 5 m fun m f v0=>eN e (Ap xA j (eO p fun e=>eO (st lo w e.1 (e.2+xA.toNat) 2 [Iv 0,Iv 0]) fun w=>Ap xA j (eO p fun e=>eO (st lo w e.1 (e.2+xA.toNat) 4 [Iv 0]) fun w=>some (.tup [.agg [.sl 6 v q g,.sl 5 p j k,.sl 9 i t d,.sl 5 m f v0],.bool true],w)))))))) (br (decide ((nC:Int)≥80)) (some (.tup [.agg [.sl 6 a0 n0 c0,.sl 5 aA nA cA,.sl 9 aB nB cB,.sl 5 aC nC cC],.bool false],y)) (Aj (Ae lo 255 [.agg [Iv b,Iv z],.agg [Iv c,Iv o]] y) fun v y=>eB v (Ap xA nA (eO aA fun v=>eO (st lo y v.1 (v.2+xA.toNat) 2 [Iv 0,Iv 0]) fun v=>Ap xA nA (eO aA fun w=>eO (st lo v w.1 (w.2+xA.toNat) 4 [Iv 0]) fun v=>some (.tup [.agg [.sl 6 a0 n0 c0,.sl 5 aA nA cA,.sl 9 aB nB cB,.sl 5 aC nC cC],.bool true],v)))) (Aj (Ae lo 326 [.agg [.sl 2 l n a],Iv s,.agg [Iv c,Iv o]] y) fun v y=>eA v fun v=>eC v fun v w=>eS 2 v fun v p q=>eN w (Ap xA nA (eO aA fun w=>eO (st lo y w.1 (w.2+xA.toNat) 1 [.sl 2 v p q]) fun v=>Aj (Ae lo 325 [.agg [.sl 6 a0 n0 c0,.sl 5 aA nA cA,.sl 9 aB nB cB,.sl 5 aC nC cC],Iv xA,Iv 3,Iv s,.agg [Iv c,Iv o]] v) fun v y=>eA v fun v=>eC v fun v w=>eS 6 v fun v p q=>eC w fun w g=>eS 5 w fun w i j=>eC g fun g k=>eS 9 g fun g m t=>eC k fun k d=>eS 5 k fun k e f=>eN d (Ap xA i (eO w fun d=>eO (st lo y d.1 (d.2+xA.toNat) 2 [Iv 0,Iv 0]) fun y=>Ap xA i (eO w fun d=>eO (st lo y d.1 (d.2+xA.toNat) 4 [Iv 0]) fun y=>some (.tup [.agg [.sl 6 v p q,.sl 5 w i j,.sl 9 g m t,.sl 5 k e f],.bool true],y)))))))))) (some (.tup [.agg [.sl 6 a0 n0 c0,.sl 5 aA nA cA,.sl 9 aB nB cB,.sl 5 aC nC cC],.bool false],x))) (Aj (Ae lo 255 [.agg [Iv b,Iv z],.agg [Iv c,Iv o]] u) fun v x=>eB v (Aj (Ae lo 255 [.agg [Iv b,Iv z],.agg [Iv c,Iv o]] x) fun v y=>eB v (Ap xA nA (eO aA fun v=>eO (st lo y v.1 (v.2+xA.toNat) 2 [Iv 0,Iv 0]) fun v=>Ap xA nA (eO aA fun u=>eO (st lo v u.1 (u.2+xA.toNat) 4 [Iv 0]) fun v=>some (.tup [.agg [.sl 6 a0 n0 c0,.sl 5 aA nA cA,.sl 9 aB nB cB,.sl 5 aC nC cC],.bool true],v)))) (Aj (Ae lo 326 [.agg [.sl 2 l n a],Iv s,.agg [Iv c,Iv o]] y) fun v y=>eA v fun v=>eC v fun v u=>eS 2 v fun v w p=>eN u (Ap xA nA (eO aA fun u=>eO (st lo y u.1 (u.2+xA.toNat) 1 [.sl 2 v w p]) fun v=>Aj (Ae lo 325 [.agg [.sl 6 a0 n0 c0,.sl 5 aA nA cA,.sl 9 aB nB cB,.sl 5 aC nC cC],Iv xA,Iv 3,Iv s,.agg [Iv c,Iv o]] v) fun v y=>eA v fun v=>eC v fun v u=>eS 6 v fun v w p=>eC u fun u q=>eS 5 u fun u g i=>eC q fun q j=>eS 9 q fun q k m=>eC j fun j t=>eS 5 j fun j d e=>eN t (Ap xA g (eO u fun t=>eO (st lo y t.1 (t.2+xA.toNat) 2 [Iv 0,Iv 0]) fun y=>Ap xA g (eO u fun t=>eO (st lo y t.1 (t.2+xA.toNat) 4 [Iv 0]) fun y=>some (.tup [.agg [.sl 6 v w p,.sl 5 u g i,.sl 9 q k m,.sl 5 j d e],.bool true],y)))))))) (br (decide ((nC:Int)≥80)) (some (.tup [.agg [.sl 6 a0 n0 c0,.sl 5 aA nA cA,.sl 9 aB nB cB,.sl 5 aC nC cC],.bool false],x)) (Aj (Ae lo 255 [.agg [Iv b,Iv z],.agg [Iv c,Iv o]] x) fun v b=>eB v (Ap xA nA (eO aA fun v=>eO (st lo b v.1 (v.2+xA.toNat) 2 [Iv 0,Iv 0]) fun v=>Ap xA nA (eO aA fun x=>eO (st lo v x.1 (x.2+xA.toNat) 4 [Iv 0]) fun v=>some (.tup [.agg [.sl 6 a0 n0 c0,.sl 5 aA nA cA,.sl 9 aB nB cB,.sl 5 aC nC cC],.bool true],v)))) (Aj (Ae lo 326 [.agg [.sl 2 l n a],Iv s,.agg [Iv c,Iv o]] b) fun v l=>eA v fun v=>eC v fun v n=>eS 2 v fun v a b=>eN n (Ap xA nA (eO aA fun n=>eO (st lo l n.1 (n.2+xA.toNat) 1 [.sl 2 v a b]) fun v=>Aj (Ae lo 325 [.agg [.sl 6 a0 n0 c0,.sl 5 aA nA cA,.sl 9 aB nB cB,.sl 5 aC nC cC],Iv xA,Iv 3,Iv s,.agg [Iv c,Iv o]] v) fun v l=>eA v fun v=>eC v fun v c=>eS 6 v fun v n a=>eC c fun c o=>eS 5 c fun c s b=>eC o fun o x=>eS 9 o fun o y z=>eC x fun x u=>eS 5 x fun x w p=>eN u (Ap xA s (eO c fun u=>eO (st lo l u.1 (u.2+xA.toNat) 2 [Iv 0,Iv 0]) fun l=>Ap xA s (eO c fun u=>eO (st lo l u.1 (u.2+xA.toNat) 4 [Iv 0]) fun l=>some (.tup [.agg [.sl 6 v n a,.sl 5 c s b,.sl 9 o y z,.sl 5 x w p],.bool true],l)))))))))))))))))))))=some r) :
  Ae lo 277 [.agg [.sl 6 a0 n0 c0,.sl 5 aA nA cA,.sl 9 aB nB cB,.sl 5 aC nC cC],.agg [Iv x1,Iv xA,Iv xB,Iv xC,.str s1,.bool b1]] h=some r :=
 eK Tryz.func277 hk
theorem Ro {lo n0 nA nB nC:Nat}{a0 aA aB aC:Pq}{c0 cA cB cC:Nq}{x1 xA xB xC:Int}{s1:ByteArray}{b1:Bool}{h:Heap}{r:V×Heap} (hk:(Ap xA nA (eO aA fun v=>eO (ld h v.1 (v.2+xA.toNat) 0 5) fun v=>eC v fun v l=>eI .i64 v fun v=>eC l fun l c=>eS 2 l fun l n a=>eC c fun c o=>eI .i64 c fun c=>eC o fun o s=>eI .i64 o fun o=>eC s fun o s=>eI .i64 o fun o=>eN s (Ap v n0 (eO a0 fun o=>eO (ld h o.1 (o.2+v.toNat) 2 1) fun v=>eC v fun v o=>eS 2 v fun v s b=>eN o (br (decide (c>0)) (some (.tup [.agg [.sl 6 a0 n0 c0,.sl 5 aA nA cA,.sl 9 aB nB cB,.sl 5 aC nC cC],.bool false],h)) (Aj (Ae lo 71 [Iv xC,Iv 0,Iv 3] h) fun c o=>eB c (Aj (Ae lo 71 [Iv xB,Iv 0,Iv (IntKind.wrap .i64 (((s:Int)) - 1))] o) fun c x=>eB c (br (decide ((nC:Int)≥80)) (some (.tup [.agg [.sl 6 a0 n0 c0,.sl 5 aA nA cA,.sl 9 aB nB cB,.sl 5 aC nC cC],.bool false],x)) (Aj (Ae lo 72 [.agg [.sl 2 v s b],Iv xB,Iv xC] x) fun v c=>eA v fun v=>eC v fun v s=>eI .i64 v fun v=>eC s fun v s=>eI .i64 v fun v=>eC s fun s b=>eI .i64 s fun s=>eC b fun b y=>eS 2 b fun b z u=>eC y fun y w=>eT y fun y=>eC w fun y w=>eBv y fun y=>eN w (Ap xC n (eO l fun y=>eO (ld c y.1 (y.2+xC.toNat) 0 2) fun y=>eC y fun y w=>eI .i64 y fun y=>eC w fun w p=>eI .i64 w fun w=>eN p (Aj (Ae lo 255 [.agg [Iv v,Iv s],.agg [Iv y,Iv w]] c) fun c y=>eB c (some (.tup [.agg [.sl 6 a0 n0 c0,.sl 5 aA nA cA,.sl 9 aB nB cB,.sl 5 aC nC cC],.bool false],y)) (br (decide (v>0)) (Aj (Ae lo 327 [.agg [.sl 2 l n a],.agg [.sl 2 b z u]] y) fun l c=>eA l fun l=>eC l fun l n=>eS 2 l fun l a b=>eN n (Aj (Ae lo 326 [.agg [.sl 2 l a b],Iv xC,.agg [Iv v,Iv s]] c) fun l c=>eA l fun l=>eC l fun l n=>eS 2 l fun l a b=>eN n (Ap xA nA (eO aA fun n=>eO (st lo c n.1 (n.2+xA.toNat) 1 [.sl 2 l a b]) fun l=>Aj (Ae lo 325 [.agg [.sl 6 a0 n0 c0,.sl 5 aA nA cA,.sl 9 aB nB cB,.sl 5 aC nC cC],Iv xA,Iv 2,Iv xC,.agg [Iv v,Iv s]] l) fun l c=>eA l fun l=>eC l fun l n=>eS 6 l fun l a b=>eC n fun n z=>eS 5 n fun n u w=>eC z fun z p=>eS 9 z fun z q g=>eC p fun p i=>eS 5 p fun p j k=>eN i (some (.tup [.agg [.sl 6 l a b,.sl 5 n u w,.sl 9 z q g,.sl 5 p j k],.bool true],c)))))) (Aj (Ae lo 325 [.agg [.sl 6 a0 n0 c0,.sl 5 aA nA cA,.sl 9 aB nB cB,.sl 5 aC nC cC],Iv xA,Iv 2,Iv xC,.agg [Iv v,Iv s]] y) fun v l=>eA v fun v=>eC v fun v c=>eS 6 v fun v n a=>eC c fun c s=>eS 5 c fun c b y=>eC s fun s z=>eS 9 s fun s u w=>eC z fun z p=>eS 5 z fun z q g=>eN p (some (.tup [.agg [.sl 6 v n a,.sl 5 c b y,.sl 9 s u w,.sl 5 z q g],.bool true],l))))))))) (some (.tup [.agg [.sl 6 a0 n0 c0,.sl 5 aA nA cA,.sl 9 aB nB cB,.sl 5 aC nC cC],.bool false],x))) (some (.tup [.agg [.sl 6 a0 n0 c0,.sl 5 aA nA cA,.sl 9 aB nB cB,.sl 5 aC nC cC],.bool false],o))))))))=some r) :
  Ae lo 278 [.agg [.sl 6 a0 n0 c0,.sl 5 aA nA cA,.sl 9 aB nB cB,.sl 5 aC nC cC],.agg [Iv x1,Iv xA,Iv xB,Iv xC,.str s1,.bool b1]] h=some r :=
 eK Tryz.func278 hk
def Ds lo x9 aA nA cA aB nB cB aC nC cC aD nD cD xA xB xC xD sA bA nE aE nF cE nG aF nH cF nI aG nJ cG nK aH nL cH aI nM cI h:=
 LA 279 Tryz.f279 221311111 0 111111 lo ⟨[(2,.lp 2 0),(3,.lp 3 0),(4,.lp 4 0),(8,.lp 8 0),(9,Iv x9)],[(2,[.sl 6 aA nA cA,.sl 5 aB nB cB,.sl 9 aC nC cC,.sl 5 aD nD cD]),(3,[Iv xA,Iv xB,Iv xC,Iv xD,.str sA,.bool bA]),(4,[.sl nE aE nF cE,.sl nG aF nH cF,.sl nI aG nJ cG,.sl nK aH nL cH]),(8,[.sl 6 aI nM cI])],h⟩
theorem TM {lo n0 nA nB nC:Nat}{a0 aA aB aC:Pq}{c0 cA cB cC:Nq}{x1 xA xB xC:Int}{s1:ByteArray}{b1:Bool}{h:Heap}{r:V×Heap} (hk:(Ap xA nA (eO aA fun v=>eO (ld h v.1 (v.2+xA.toNat) 0 5) fun v=>eC v fun v l=>eI .i64 v fun v=>eC l fun l c=>eS 2 l fun l n a=>eC c fun c o=>eI .i64 c fun c=>eC o fun o s=>eI .i64 o fun o=>eC s fun o s=>eI .i64 o fun o=>eN s (Ap v n0 (eO a0 fun o=>eO (ld h o.1 (o.2+v.toNat) 2 1) fun v=>eC v fun v o=>eS 2 v fun v s b=>eN o (Ap (IntKind.wrap .i64 (((s:Int)) - 1)) s (eO v fun v=>eO (ld h v.1 (v.2+((IntKind.i64.wrap ((s:Int) - (1:Int))).toNat)) 0 1) fun v=>eC v fun v o=>eS 6 v fun v s b=>eN o (br (decide (c>0)) (some (.tup [.agg [.sl 6 a0 n0 c0,.sl 5 aA nA cA,.sl 9 aB nB cB,.sl 5 aC nC cC],.bool false],h)) (Aj (Ae h.length 199 [.agg [.sl 6 v s b]] h) fun c o=>eA c fun c=>eC c fun c x=>eS 2 c fun c y z=>eN x (Aj (Ae lo 192 [.agg [.sl 2 l n a],.agg [.sl 2 c y z]] o) fun l c=>eB l (br (decide (IntKind.i64.wrap ((nC:Int)+(4:Int))>80)) (some (.tup [.agg [.sl 6 a0 n0 c0,.sl 5 aA nA cA,.sl 9 aB nB cB,.sl 5 aC nC cC],.bool false],c)) (Ds lo 0 a0 n0 c0 aA nA cA aB nB cB aC nC cC x1 xA xB xC s1 b1 0 none 0 (some 0) 0 none 0 (some 0) 0 none 0 (some 0) 0 none 0 (some 0) v s b c)) (some (.tup [.agg [.sl 6 a0 n0 c0,.sl 5 aA nA cA,.sl 9 aB nB cB,.sl 5 aC nC cC],.bool false],c)))))))))))=some r) :
  Ae lo 279 [.agg [.sl 6 a0 n0 c0,.sl 5 aA nA cA,.sl 9 aB nB cB,.sl 5 aC nC cC],.agg [Iv x1,Iv xA,Iv xB,Iv xC,.str s1,.bool b1]] h=some r :=
 eK Tryz.func279 hk
theorem Ds.e {lo nA nB nC nD nE nF nG nH nI nJ nK nL nM:Nat}{x9 xA xB xC xD:Int}{aA aB aC aD aE aF aG aH aI:Pq}{cA cB cC cD cE cF cG cH cI:Nq}{sA:ByteArray}{bA:Bool}{h:Heap} :
  Ds lo x9 aA nA cA aB nB cB aC nC cC aD nD cD xA xB xC xD sA bA nE aE nF cE nG aF nH cF nI aG nJ cG nK aH nL cH aI nM cI h=br (decide (x9<4)) (Ap xB nB (eO aB fun v=>eO (ld h v.1 (v.2+xB.toNat) 1 1) fun v=>eC v fun v l=>eS 2 v fun v c n=>eN l (Ap x9 nM (eO aI fun l=>eO (ld h l.1 (l.2+x9.toNat) 1 2) fun l=>eC l fun l a=>eI .i64 l fun l=>eC a fun a o=>eI .i64 a fun a=>eN o (Aj (Ae lo 326 [.agg [.sl 2 v c n],Iv x9,.agg [Iv l,Iv a]] h) fun v l=>eA v fun v=>eC v fun v c=>eS 2 v fun v n a=>eN c (Ap xB nB (eO aB fun c=>eO (st lo l c.1 (c.2+xB.toNat) 1 [.sl 2 v n a]) fun v=>Ap x9 nM (eO aI fun l=>eO (ld v l.1 (l.2+x9.toNat) 1 2) fun l=>eC l fun l c=>eI .i64 l fun l=>eC c fun c n=>eI .i64 c fun c=>eN n (Aj (Ae lo 325 [.agg [.sl 6 aA nA cA,.sl 5 aB nB cB,.sl 9 aC nC cC,.sl 5 aD nD cD],Iv xB,Iv 2,Iv x9,.agg [Iv l,Iv c]] v) fun v l=>eA v fun v=>eC v fun v c=>eS 6 v fun v n a=>eC c fun c o=>eS 5 c fun c s b=>eC o fun o x=>eS 9 o fun o y z=>eC x fun x u=>eS 5 x fun x w p=>eN u (Ds lo (IntKind.wrap .i64 (x9+1)) v n a c s b o y z x w p xA xB xC xD sA bA nE aE nF cE nG aF nH cF nI aG nJ cG nK aH nL cH aI nM cI l)))))))))) (some (.tup [.agg [.sl 6 aA nA cA,.sl 5 aB nB cB,.sl 9 aC nC cC,.sl 5 aD nD cD],.bool true],h)) :=
 lE
def HJ lo a0 n0 c0 a3 n3 c3 x4 h:=
 LA 281 Tryz.f281 221311 0 111 lo ⟨[(0,.sl 6 a0 n0 c0),(3,.sl 6 a3 n3 c3),(4,Iv x4)],[],h⟩
theorem HJ.e {lo n0 n3:Nat}{a0 a3:Pq}{c0 c3:Nq}{x4:Int}{h:Heap} :
  HJ lo a0 n0 c0 a3 n3 c3 x4 h=br (decide (x4<(n0:Int))) (Ap x4 n0 (eO a0 fun v=>eO (ld h v.1 (v.2+x4.toNat) 0 6) fun v=>eC v fun v l=>eI .i64 v fun v=>eC l fun l c=>eI .i64 l fun l=>eC c fun c n=>eI .i64 c fun c=>eC n fun n a=>eS 2 n fun n o s=>eC a fun a b=>eT a fun a=>eC b fun b x=>eBv b fun b=>eN x (Aj (Ae lo 285 [.agg [Iv v,Iv l,Iv c,.sl 2 n o s,.str a,.bool b]] h) fun v l=>eA v fun v=>eC v fun v c=>eI .i64 v fun v=>eC c fun c n=>eI .i64 c fun c=>eC n fun n a=>eI .i64 n fun n=>eC a fun a o=>eS 2 a fun a s b=>eC o fun o x=>eT o fun o=>eC x fun x y=>eBv x fun x=>eN y (Ap x4 n3 (eO a3 fun y=>eO (st lo l y.1 (y.2+x4.toNat) 0 [Iv v,Iv c,Iv n,.sl 2 a s b,.str o,.bool x]) fun v=>HJ lo a0 n0 c0 a3 n3 c3 (IntKind.wrap .i64 (x4+1)) v))))) (some (.sl 6 a3 n3 c3,h)) :=
 lE
def G7 lo a0 n0 c0 a3 n3 c3 x4 h:=
 LA 282 Tryz.f282 221311 0 111 lo ⟨[(0,.sl 1 a0 n0 c0),(3,.sl 1 a3 n3 c3),(4,Iv x4)],[],h⟩
theorem G7.e {lo n0 n3:Nat}{a0 a3:Pq}{c0 c3:Nq}{x4:Int}{h:Heap} :
  G7 lo a0 n0 c0 a3 n3 c3 x4 h=br (decide (x4<(n0:Int))) (Ap x4 n0 (eO a0 fun v=>eO (ld h v.1 (v.2+x4.toNat) 0 1) fun v=>eC v fun v l=>eN l (eS 6 v fun v l c=>Aj (Ae lo 281 [.sl 6 v l c] h) fun v l=>eS 6 v fun v c n=>Ap x4 n3 (eO a3 fun a=>eO (st lo l a.1 (a.2+x4.toNat) 0 [.sl 6 v c n]) fun v=>G7 lo a0 n0 c0 a3 n3 c3 (IntKind.wrap .i64 (x4+1)) v)))) (some (.sl 1 a3 n3 c3,h)) :=
 lE
def Ar lo a1 n1 c1 g2 l2 b6 aA nA cA xA xB h:=
 LA 288 Tryz.f288 221311 0 111 lo ⟨[(1,.sl 6 a1 n1 c1),(2,.fn g2 l2),(6,.bool b6),(15,.sl 6 aA nA cA),(16,Iv xA),(17,Iv xB)],[],h⟩
theorem Dc {lo n0 n1 g2:Nat}{a0 a1:Pq}{c0 c1:Nq}{l2:List V}{h h':Heap}{v:V} (hk:(br ((n0:Int)==(n1:Int)) (Ar h.length a1 n1 c1 g2 l2 false a0 n0 c0 ((n0:Int)) 0 h) (some (.bool false,h)))=some (v,h')) (hn:noId v=true:=by rfl) :
  Ae lo 288 [.sl 6 a0 n0 c0,.sl 6 a1 n1 c1,.fn g2 l2] h=some (v,h) :=
 eD Tryz.func288 hk hn
theorem Ar.e {lo n1 g2 nA:Nat}{a1 aA:Pq}{c1 cA:Nq}{l2:List V}{b6:Bool}{xA xB:Int}{h:Heap} :
  Ar lo a1 n1 c1 g2 l2 b6 aA nA cA xA xB h=br (decide (xB<xA)) (Ap xB nA (eO aA fun v=>eO (ld h v.1 (v.2+xB.toNat) 0 6) fun v=>eC v fun v l=>eI .i64 v fun v=>eC l fun l c=>eI .i64 l fun l=>eC c fun c n=>eI .i64 c fun c=>eC n fun n a=>eS 2 n fun n o s=>eC a fun a b=>eT a fun a=>eC b fun b x=>eBv b fun b=>eN x (Ap xB n1 (eO a1 fun x=>eO (ld h x.1 (x.2+xB.toNat) 0 6) fun x=>eC x fun x y=>eI .i64 x fun x=>eC y fun y z=>eI .i64 y fun y=>eC z fun z u=>eI .i64 z fun z=>eC u fun u w=>eS 2 u fun u p q=>eC w fun w g=>eT w fun w=>eC g fun g i=>eBv g fun g=>eN i (Aj (Ae lo g2 (Dh [.agg [Iv v,Iv l,Iv c,.sl 2 n o s,.str a,.bool b],.agg [Iv x,Iv y,Iv z,.sl 2 u p q,.str w,.bool g]] l2) h) fun v l=>eB v (Ar lo a1 n1 c1 g2 l2 b6 aA nA cA xA (IntKind.wrap .i64 (xB+1)) l) (some (.bool false,l))))))) (some (.bool true,h)) :=
 lE
def BC lo a0 n0 c0 g1 l1 x4 x7 x8 h:=
 LA 289 Tryz.f289 22131 0 11 lo ⟨[(0,.sl 5 a0 n0 c0),(1,.fn g1 l1),(4,Iv x4),(7,Iv x7),(8,Iv x8)],[],h⟩
theorem BC.e {lo n0 g1:Nat}{a0:Pq}{c0:Nq}{l1:List V}{x4 x7 x8:Int}{h:Heap} :
  BC lo a0 n0 c0 g1 l1 x4 x7 x8 h=br (decide (x8<x7)) (Ap x8 n0 (eO a0 fun v=>eO (ld h v.1 (v.2+x8.toNat) 0 5) fun v=>eC v fun v l=>eI .i64 v fun v=>eC l fun l c=>eS 2 l fun l n a=>eC c fun c o=>eI .i64 c fun c=>eC o fun o s=>eI .i64 o fun o=>eC s fun s b=>eI .i64 s fun s=>eN b (Aj (Ae lo g1 (Dh [.agg [Iv v,.sl 2 l n a,Iv c,Iv o,Iv s]] l1) h) fun v l=>eB v (some (Iv x8,l)) (BC lo a0 n0 c0 g1 l1 x4 x7 (IntKind.wrap .i64 (x8+1)) l)))) (some (Iv (-1),h)) :=
 lE
def Bx lo a0 n0 c0 g1 l1 x4 x7 x8 h:=
 LA 290 Tryz.f290 22131 0 11 lo ⟨[(0,.sl 9 a0 n0 c0),(1,.fn g1 l1),(4,Iv x4),(7,Iv x7),(8,Iv x8)],[],h⟩
theorem Bx.e {lo n0 g1:Nat}{a0:Pq}{c0:Nq}{l1:List V}{x4 x7 x8:Int}{h:Heap} :
  Bx lo a0 n0 c0 g1 l1 x4 x7 x8 h=br (decide (x8<x7)) (Ap x8 n0 (eO a0 fun v=>eO (ld h v.1 (v.2+x8.toNat) 0 9) fun v=>eC v fun v l=>eI .i64 v fun v=>eC l fun l c=>eI .i64 l fun l=>eC c fun c n=>eI .i64 c fun c=>eC n fun n a=>eI .i64 n fun n=>eC a fun a o=>eI .i64 a fun a=>eC o fun o s=>eI .i64 o fun o=>eC s fun s b=>eS 2 s fun s x y=>eC b fun b z=>eT b fun b=>eC z fun z u=>eBv z fun z=>eN u (Aj (Ae lo g1 (Dh [.agg [Iv v,Iv l,Iv c,Iv n,Iv a,Iv o,.sl 2 s x y,.str b,.bool z]] l1) h) fun v l=>eB v (some (Iv x8,l)) (Bx lo a0 n0 c0 g1 l1 x4 x7 (IntKind.wrap .i64 (x8+1)) l)))) (some (Iv (-1),h)) :=
 lE
theorem GF {lo n0:Nat}{a0:Pq}{c0:Nq}{h:Heap}{r:V×Heap} (hk:(As a0 n0 c0 none (some (Iv ((n0:Int)))) (some (Iv ((n0:Int)))) fun v l c=>some (.sl 2 v l c,h))=some r) :
  Ae lo 292 [.sl 2 a0 n0 c0] h=some r :=
 eK Tryz.func292 hk
theorem DE {lo n0:Nat}{a0:Pq}{c0:Nq}{h:Heap}{r:V×Heap} (hk:(br (a0.isNone) (some (.sl 0 none 0 (some 0),h)) (At 2 (h ++ [.rows 2 29 false []]) (.sl 2 a0 n0 c0) fun v=>CS lo 29 2 16 (.sl 2 (some (h.length,0)) 0 (some 0)) v (h ++ [.rows 2 29 false []]) fun v l=>eS 2 v fun v c n=>some (.sl 2 v c n,l)))=some r) :
  Ae lo 293 [.sl 2 a0 n0 c0] h=some r :=
 eK Tryz.func293 hk
def FF lo nA nB nC aA nD cA xA xB xC xD xE xF sA bA h:=
 LA 297 Tryz.f297 22131111 0 11111 lo ⟨[(0,.ptr (some (nA,(nB,nC)))),(5,.lp 5 0),(39,.sl 2 aA nD cA),(40,Iv xA),(41,Iv xB)],[(5,[Iv xC,Iv xD,Iv xE,Iv xF,.str sA,.bool bA])],h⟩
theorem FF.e {lo nA nB nC nD:Nat}{aA:Pq}{cA:Nq}{xA xB xC xD xE xF:Int}{sA:ByteArray}{bA:Bool}{h:Heap} :
  FF lo nA nB nC aA nD cA xA xB xC xD xE xF sA bA h=br (decide (xB<xA)) (Ap xB nD (eO aA fun v=>eO (ld h v.1 (v.2+xB.toNat) 0 2) fun v=>eC v fun v l=>eI .i64 v fun v=>eC l fun l c=>eI .i64 l fun l=>eN c (Aj (Ae lo 332 [.ptr (some (nA,(nB,nC))),Iv xD,Iv 2,Iv xB,.agg [Iv v,Iv l]] h) fun v l=>eU v fun v=>eN v (FF lo nA nB nC aA nD cA xA (IntKind.wrap .i64 (xB+1)) xC xD xE xF sA bA l)))) (some (.bool true,h)) :=
 lE
def HM lo a0 n0 c0 a1 n1 c1 b4 x5 h:=
 LA 301 Tryz.f301 221311 0 111 lo ⟨[(0,.sl 6 a0 n0 c0),(1,.sl 6 a1 n1 c1),(4,.bool b4),(5,Iv x5)],[],h⟩
theorem HM.e {lo n0 n1:Nat}{a0 a1:Pq}{c0 c1:Nq}{b4:Bool}{x5:Int}{h:Heap} :
  HM lo a0 n0 c0 a1 n1 c1 b4 x5 h=br (decide (x5<(n0:Int))) (Ap x5 n0 (eO a0 fun v=>eO (ld h v.1 (v.2+x5.toNat) 0 6) fun v=>eC v fun v l=>eI .i64 v fun v=>eC l fun l c=>eI .i64 l fun l=>eC c fun c n=>eI .i64 c fun c=>eC n fun n a=>eS 2 n fun n o s=>eC a fun a b=>eT a fun a=>eC b fun b x=>eBv b fun b=>eN x (Ap x5 n1 (eO a1 fun x=>eO (ld h x.1 (x.2+x5.toNat) 0 6) fun x=>eC x fun x y=>eI .i64 x fun x=>eC y fun y z=>eI .i64 y fun y=>eC z fun z u=>eI .i64 z fun z=>eC u fun u w=>eS 2 u fun u p q=>eC w fun w g=>eT w fun w=>eC g fun g i=>eBv g fun g=>eN i (Aj (Ae lo 305 [.agg [Iv v,Iv l,Iv c,.sl 2 n o s,.str a,.bool b],.agg [Iv x,Iv y,Iv z,.sl 2 u p q,.str w,.bool g]] h) fun v l=>eB v (HM lo a0 n0 c0 a1 n1 c1 b4 (IntKind.wrap .i64 (x5+1)) l) (some (.bool false,l))))))) (some (.bool true,h)) :=
 lE
end
noncomputable section

def He lo a0 n0 c0 a1 n1 c1 b4 x5 h:=
 LA 302 Tryz.f302 221311 0 111 lo ⟨[(0,.sl 1 a0 n0 c0),(1,.sl 1 a1 n1 c1),(4,.bool b4),(5,Iv x5)],[],h⟩
theorem He.e {lo n0 n1:Nat}{a0 a1:Pq}{c0 c1:Nq}{b4:Bool}{x5:Int}{h:Heap} :
  He lo a0 n0 c0 a1 n1 c1 b4 x5 h=br (decide (x5<(n0:Int))) (Ap x5 n0 (eO a0 fun v=>eO (ld h v.1 (v.2+x5.toNat) 0 1) fun v=>eC v fun v l=>eN l (eS 6 v fun v l c=>Ap x5 n1 (eO a1 fun n=>eO (ld h n.1 (n.2+x5.toNat) 0 1) fun n=>eC n fun n a=>eN a (eS 6 n fun n a o=>Aj (Ae lo 301 [.sl 6 v l c,.sl 6 n a o] h) fun v l=>eB v (He lo a0 n0 c0 a1 n1 c1 b4 (IntKind.wrap .i64 (x5+1)) l) (some (.bool false,l))))))) (some (.bool true,h)) :=
 lE
theorem TN {lo:Nat}{x0 x1:Int}{h:Heap}{r:V×Heap} (hk:(Aj (Ae h.length 248 [Iv x1] h) fun v l=>eA v fun v=>eC v fun v c=>eS 2 v fun v n a=>eN c (some (.agg [Iv x0,Iv 0,.sl 2 v n a,.sl 0 none 0 (some 0),.sl 1 (some (l.length,0)) 3 (some 3),.bool false],(l ++ [.rows 1 41 false [[.sl 0 none 0 (some 0)],[.sl 0 none 0 (some 0)],[.sl 0 none 0 (some 0)]]]))))=some r) :
  Ae lo 306 [Iv x0,Iv x1] h=some r :=
 eK Tryz.func306 hk
def GC lo xA xB nA aA nB cA aB nC cB h:=
 LA 307 Tryz.f307 2213111 0 1111 lo ⟨[(2,.lp 2 0),(3,.lp 3 0),(11,Iv xA),(12,Iv xB)],[(2,[.sl nA aA nB cA]),(3,[.sl 2 aB nC cB])],h⟩
theorem GC.e {lo nA nB nC:Nat}{xA xB:Int}{aA aB:Pq}{cA cB:Nq}{h:Heap} :
  GC lo xA xB nA aA nB cA aB nC cB h=br (decide (xB<xA)) (Aj (Ae lo 337 [] h) fun v l=>eA v fun v=>eC v fun v c=>eS 6 v fun v n a=>eN c (At 2 (l ++ [.rows 2 45 false [[.sl 6 v n a,.sl 0 none 0 (some 0)]]]) (.sl 2 (some (l.length,0)) 1 (some 1)) fun c=>CS lo 45 2 48 (.sl 2 aB nC cB) c (l ++ [.rows 2 45 false [[.sl 6 v n a,.sl 0 none 0 (some 0)]]]) fun v l=>eS 2 v fun v c n=>GC lo xA (IntKind.wrap .i64 (xB+1)) nA aA nB cA v c n l)) (some (.agg [.sl 2 aB nC cB],h)) :=
 lE
theorem O1 {lo nA nB nC n1 nD nE nF:Nat}{a1 aA aB aC:Pq}{c1 cA cB cC:Nq}{h:Heap}{r:V×Heap} (hk:(Aj (Ae lo 66 [.ptr (some (nA,(nB,nC))),Iv 3] h) fun v l=>eI .i64 v fun v=>Aj (Ae lo 66 [.ptr (some (nA,(nB,nC))),Iv 20] l) fun l c=>eI .i64 l fun l=>br (l==0) (Aj (Ae lo 66 [.ptr (some (nA,(nB,nC))),Iv 4] c) fun n a=>eI .i64 n fun n=>Aj (Ae lo 66 [.ptr (some (nA,(nB,nC))),Iv 4] a) fun a o=>eI .i64 a fun a=>Aj (Ae lo 262 [.ptr (some (nA,(nB,nC)))] o) fun o s=>eT o fun o=>some (.agg [Iv 1,Iv n,Iv 0,Iv a,.str o,.bool false],s)) (br (l==1) (Aj (Ae lo 66 [.ptr (some (nA,(nB,nC))),Iv 4] c) fun n a=>eI .i64 n fun n=>Aj (Ae lo 66 [.ptr (some (nA,(nB,nC))),Iv 4] a) fun a o=>eI .i64 a fun a=>Aj (Ae lo 262 [.ptr (some (nA,(nB,nC)))] o) fun o s=>eT o fun o=>some (.agg [Iv 1,Iv n,Iv 0,Iv a,.str o,.bool false],s)) (br (l==2) (Aj (Ae lo 66 [.ptr (some (nA,(nB,nC))),Iv 4] c) fun n a=>eI .i64 n fun n=>Aj (Ae lo 66 [.ptr (some (nA,(nB,nC))),Iv 4] a) fun a o=>eI .i64 a fun a=>Aj (Ae lo 262 [.ptr (some (nA,(nB,nC)))] o) fun o s=>eT o fun o=>some (.agg [Iv 1,Iv n,Iv 0,Iv a,.str o,.bool false],s)) (br (l==3) (Aj (Ae lo 66 [.ptr (some (nA,(nB,nC))),Iv 4] c) fun n a=>eI .i64 n fun n=>Aj (Ae lo 66 [.ptr (some (nA,(nB,nC))),Iv 4] a) fun a o=>eI .i64 a fun a=>some (.agg [Iv 1,Iv n,Iv 0,Iv a,.str ⟨⟨[]⟩⟩,.bool true],o)) (br (l==4) (Aj (Ae lo 66 [.ptr (some (nA,(nB,nC))),Iv 4] c) fun n a=>eI .i64 n fun n=>some (.agg [Iv 2,Iv n,Iv 0,Iv 0,.str ⟨⟨[]⟩⟩,.bool false],a)) (br (l==5) (Aj (Ae lo 66 [.ptr (some (nA,(nB,nC))),Iv 4] c) fun n a=>eI .i64 n fun n=>some (.agg [Iv 2,Iv n,Iv 0,Iv 0,.str ⟨⟨[]⟩⟩,.bool false],a)) (br (l==6) (Aj (Ae lo 66 [.ptr (some (nA,(nB,nC))),Iv 4] c) fun n a=>eI .i64 n fun n=>some (.agg [Iv 2,Iv n,Iv 0,Iv 0,.str ⟨⟨[]⟩⟩,.bool false],a)) (br (l==7) (Aj (Ae lo 66 [.ptr (some (nA,(nB,nC))),Iv 4] c) fun n a=>eI .i64 n fun n=>Aj (Ae lo 66 [.ptr (some (nA,(nB,nC))),Iv 4] a) fun a o=>eI .i64 a fun a=>Aj (Ae lo 66 [.ptr (some (nA,(nB,nC))),Iv 4] o) fun o s=>eI .i64 o fun o=>some (.agg [Iv 3,Iv n,Iv a,Iv o,.str ⟨⟨[]⟩⟩,.bool false],s)) (br (l==8) (Aj (Ae lo 66 [.ptr (some (nA,(nB,nC))),Iv 4] c) fun n a=>eI .i64 n fun n=>Aj (Ae lo 66 [.ptr (some (nA,(nB,nC))),Iv 4] a) fun a o=>eI .i64 a fun a=>Aj (Ae lo 66 [.ptr (some (nA,(nB,nC))),Iv 4] o) fun o s=>eI .i64 o fun o=>some (.agg [Iv 3,Iv n,Iv a,Iv o,.str ⟨⟨[]⟩⟩,.bool false],s)) (br (l==9) (Aj (Ae lo 66 [.ptr (some (nA,(nB,nC))),Iv 4] c) fun n a=>eI .i64 n fun n=>Aj (Ae lo 66 [.ptr (some (nA,(nB,nC))),Iv 4] a) fun a o=>eI .i64 a fun a=>Aj (Ae lo 66 [.ptr (some (nA,(nB,nC))),Iv 4] o) fun o s=>eI .i64 o fun o=>some (.agg [Iv 3,Iv n,Iv a,Iv o,.str ⟨⟨[]⟩⟩,.bool false],s)) (br (l==10) (Aj (Ae lo 67 [.ptr (some (nA,(nB,nC))),.sl 1 (some (c.length,0)) 2 (some 2)] (c ++ [.rows 1 3 false [[Iv 4],[Iv 5]]])) fun n a=>eI .i64 n fun n=>Aj (Ae lo 66 [.ptr (some (nA,(nB,nC))),Iv 4] a) fun a o=>eI .i64 a fun a=>Aj (Ae lo 66 [.ptr (some (nA,(nB,nC))),Iv 3] o) fun o s=>eI .i64 o fun o=>some (.agg [Iv n,Iv a,Iv o,Iv 0,.str ⟨⟨[]⟩⟩,.bool false],s)) (br (l==11) (Aj (Ae lo 67 [.ptr (some (nA,(nB,nC))),.sl 1 (some (c.length,0)) 4 (some 4)] (c ++ [.rows 1 3 false [[Iv 0],[Iv 0],[Iv 1],[Iv 2]]])) fun n a=>eI .i64 n fun n=>some (.agg [Iv 6,Iv v,Iv n,Iv 0,.str ⟨⟨[]⟩⟩,.bool false],a)) (br (l==12) (Aj (Ae lo 67 [.ptr (some (nA,(nB,nC))),.sl 1 (some (c.length,0)) 4 (some 4)] (c ++ [.rows 1 3 false [[Iv 0],[Iv 0],[Iv 1],[Iv 2]]])) fun n a=>eI .i64 n fun n=>some (.agg [Iv 6,Iv v,Iv n,Iv 0,.str ⟨⟨[]⟩⟩,.bool false],a)) (br (l==13) (Aj (Ae lo 67 [.ptr (some (nA,(nB,nC))),.sl 1 (some (c.length,0)) 4 (some 4)] (c ++ [.rows 1 3 false [[Iv 0],[Iv 0],[Iv 1],[Iv 2]]])) fun n a=>eI .i64 n fun n=>some (.agg [Iv 6,Iv v,Iv n,Iv 0,.str ⟨⟨[]⟩⟩,.bool false],a)) (br (l==14) (Aj (Ae lo 67 [.ptr (some (nA,(nB,nC))),.sl 1 (some (c.length,0)) 2 (some 2)] (c ++ [.rows 1 3 false [[Iv 7],[Iv 8]]])) fun n a=>eI .i64 n fun n=>Aj (Ae lo 66 [.ptr (some (nA,(nB,nC))),Iv 4] a) fun a o=>eI .i64 a fun a=>some (.agg [Iv n,Iv v,Iv a,Iv 0,.str ⟨⟨[]⟩⟩,.bool false],o)) (br (l==15) (Aj (Ae lo 66 [.ptr (some (nA,(nB,nC))),Iv 3] c) fun n a=>eI .i64 n fun n=>some (.agg [Iv 9,Iv v,Iv n,Iv 0,.str ⟨⟨[]⟩⟩,.bool false],a)) (br (l==16) (Aj (Ae lo 66 [.ptr (some (nA,(nB,nC))),Iv 3] c) fun n a=>eI .i64 n fun n=>some (.agg [Iv 9,Iv v,Iv n,Iv 0,.str ⟨⟨[]⟩⟩,.bool false],a)) (br (l==17) (Aj (Ae lo 66 [.ptr (some (nA,(nB,nC))),Iv 3] c) fun n a=>eI .i64 n fun n=>Ap n n1 (eO a1 fun o=>eO (ld a o.1 (o.2+n.toNat) 4 1) fun o=>eC o fun o s=>eN s (eS 1 o fun o s b=>Ap v s (eO o fun o=>eO (ld a o.1 (o.2+v.toNat) 0 1) fun o=>eC o fun o s=>eN s (eS 6 o fun o o s=>some (.agg [Iv 10,Iv v,Iv n,Iv ((o:Int)),.str ⟨⟨[]⟩⟩,.bool false],a)))))) (br (l==18) (Aj (Ae lo 66 [.ptr (some (nA,(nB,nC))),Iv 3] c) fun l n=>eI .i64 l fun l=>Ap l n1 (eO a1 fun a=>eO (ld n a.1 (a.2+l.toNat) 4 1) fun a=>eC a fun a o=>eN o (eS 1 a fun a o s=>Ap v o (eO a fun a=>eO (ld n a.1 (a.2+v.toNat) 0 1) fun a=>eC a fun a o=>eN o (eS 6 a fun a a o=>some (.agg [Iv 10,Iv v,Iv l,Iv ((a:Int)),.str ⟨⟨[]⟩⟩,.bool false],n)))))) (Aj (Ae lo 67 [.ptr (some (nA,(nB,nC))),.sl 1 (some (c.length,0)) 7 (some 7)] (c ++ [.rows 1 3 false [[Iv 11],[Iv 11],[Iv 11],[Iv 12],[Iv 13],[Iv 0],[Iv 14]]])) fun v l=>eI .i64 v fun v=>Aj (Ae lo 66 [.ptr (some (nA,(nB,nC))),Iv 3] l) fun l c=>eI .i64 l fun l=>some (.agg [Iv v,Iv l,Iv 0,Iv 0,.str ⟨⟨[]⟩⟩,.bool false],c)))))))))))))))))))))=some r) :
  Ae lo 308 [.ptr (some (nA,(nB,nC))),.agg [.sl 6 a1 n1 c1,.sl 5 aA nD cA,.sl 9 aB nE cB,.sl 5 aC nF cC]] h=some r :=
 eK Tryz.func308 hk
theorem TT {lo:Nat}{h:Heap}{r:V×Heap} (hk:(some (.agg [.sl 6 (some (h.length,0)) 4 (some 4)],(h ++ [.rows 6 34 false [[Iv 0,Iv 0,Iv 0,.sl 0 none 0 (some 0),.str ⟨⟨[]⟩⟩,.bool false],[Iv 0,Iv 0,Iv 0,.sl 0 none 0 (some 0),.str ⟨⟨[]⟩⟩,.bool false],[Iv 0,Iv 0,Iv 0,.sl 0 none 0 (some 0),.str ⟨⟨[]⟩⟩,.bool false],[Iv 0,Iv 0,Iv 0,.sl 0 none 0 (some 0),.str ⟨⟨[]⟩⟩,.bool false]]])))=some r) :
  Ae lo 309 [] h=some r :=
 eK Tryz.func309 hk
def AM lo a0 n0 c0 a1 n1 c1 b4 xA xB h:=
 LA 310 Tryz.f310 221311 0 111 lo ⟨[(0,.sl 2 a0 n0 c0),(1,.sl 2 a1 n1 c1),(4,.bool b4),(12,Iv xA),(13,Iv xB)],[],h⟩
theorem GD {lo n0 n1:Nat}{a0 a1:Pq}{c0 c1:Nq}{h h':Heap}{v:V} (hk:(br ((n0:Int)==(n1:Int)) (AM h.length a0 n0 c0 a1 n1 c1 false ((n0:Int)) 0 h) (some (.bool false,h)))=some (v,h')) (hn:noId v=true:=by rfl) :
  Ae lo 310 [.sl 2 a0 n0 c0,.sl 2 a1 n1 c1] h=some (v,h) :=
 eD Tryz.func310 hk hn
theorem AM.e {lo n0 n1:Nat}{a0 a1:Pq}{c0 c1:Nq}{b4:Bool}{xA xB:Int}{h:Heap} :
  AM lo a0 n0 c0 a1 n1 c1 b4 xA xB h=br (decide (xB<xA)) (Ap xB n0 (eO a0 fun v=>eO (ld h v.1 (v.2+xB.toNat) 0 2) fun v=>eC v fun v l=>eI .i64 v fun v=>eC l fun l c=>eI .i64 l fun l=>eN c (Ap xB n1 (eO a1 fun c=>eO (ld h c.1 (c.2+xB.toNat) 0 2) fun c=>eC c fun c n=>eI .i64 c fun c=>eC n fun n a=>eI .i64 n fun n=>eN a (br ((v==c)&&((l==n)&&true)) (AM lo a0 n0 c0 a1 n1 c1 b4 xA (IntKind.wrap .i64 (xB+1)) h) (some (.bool false,h))))))) (some (.bool true,h)) :=
 lE
def A1 lo a0 n0 c0 q1 a1 n1 c1 b4 xA xB h:=
 LA 310 Tryz.f310 221311 0 111 lo ⟨[(0,.sl 2 a0 n0 c0),(1,.sl q1 a1 n1 c1),(4,.bool b4),(12,Iv xA),(13,Iv xB)],[],h⟩
theorem FH {lo n0:Nat}{a0:Pq}{c0:Nq}{h h':Heap}{v:V} (hk:(br ((n0:Int)==((0:Nat):Int)) (A1 h.length a0 n0 c0 0 none 0 (some 0) false ((n0:Int)) 0 h) (some (.bool false,h)))=some (v,h')) (hn:noId v=true:=by rfl) :
  Ae lo 310 [.sl 2 a0 n0 c0,.sl 0 none 0 (some 0)] h=some (v,h) :=
 eD Tryz.func310 hk hn
theorem A1.e {lo n0 q1 n1:Nat}{a0 a1:Pq}{c0 c1:Nq}{b4:Bool}{xA xB:Int}{h:Heap} :
  A1 lo a0 n0 c0 q1 a1 n1 c1 b4 xA xB h=br (decide (xB<xA)) (Ap xB n0 (eO a0 fun v=>eO (ld h v.1 (v.2+xB.toNat) 0 2) fun v=>eC v fun v l=>eI .i64 v fun v=>eC l fun l c=>eI .i64 l fun l=>eN c (Ap xB n1 (eO a1 fun c=>Bm ((q1.beq (2:Nat))&&true) (eO (ld h c.1 (c.2+xB.toNat) 0 2) fun c=>eC c fun c n=>eI .i64 c fun c=>eC n fun n a=>eI .i64 n fun n=>eN a (br ((v==c)&&((l==n)&&true)) (A1 lo a0 n0 c0 q1 a1 n1 c1 b4 xA (IntKind.wrap .i64 (xB+1)) h) (some (.bool false,h)))))))) (some (.bool true,h)) :=
 lE
def Aq lo a0 n0 c0 x1 x2 g3 l3 x8 h:=
 Lp (X 311) lo (pf 221 Tryz.f311) 0 (AV 0 (IH (X 311) Tryz.f311.results.toList)) ⟨[(0,.sl 6 a0 n0 c0),(1,Iv x1),(2,Iv x2),(3,.fn g3 l3),(8,Iv x8)],[],h⟩
def Az lo a0 n0 c0 x1 x2 g3 l3 x8 x9 h:=
 Lp (X 311) lo (pf 221231221 Tryz.f311) 2 (AV 2 (AV 1 (kS (X 311) lo (pf 11221 Tryz.f311) 0 (T6 (X 311) lo (pf 221 Tryz.f311) 0 (AV 0 (IH (X 311) Tryz.f311.results.toList)))))) ⟨[(0,.sl 6 a0 n0 c0),(1,Iv x1),(2,Iv x2),(3,.fn g3 l3),(8,Iv x8),(9,Iv x9)],[],h⟩
theorem EK {lo n0 g3:Nat}{a0:Pq}{c0:Nq}{x1 x2:Int}{l3:List V}{h:Heap}{r:V×Heap} (hk:(Aq lo a0 n0 c0 x1 x2 g3 l3 (IntKind.wrap .i64 (x1+1)) h)=some r) :
  Ae lo 311 [.sl 6 a0 n0 c0,Iv x1,Iv x2,.fn g3 l3] h=some r :=
 eK Tryz.func311 hk
theorem Aq.e {lo n0 g3:Nat}{a0:Pq}{c0:Nq}{x1 x2 x8:Int}{l3:List V}{h:Heap} :
  Aq lo a0 n0 c0 x1 x2 g3 l3 x8 h=br (decide (x8<x2)) (Az lo a0 n0 c0 x1 x2 g3 l3 x8 x8 h) (some (.tup [],h)) :=
 lE
theorem Az.e {lo n0 g3:Nat}{a0:Pq}{c0:Nq}{x1 x2 x8 x9:Int}{l3:List V}{h:Heap} :
  Az lo a0 n0 c0 x1 x2 g3 l3 x8 x9 h=br (decide (x9>x1)) (Ap x9 n0 (eO a0 fun v=>eO (ld h v.1 (v.2+x9.toNat) 0 6) fun v=>eC v fun v l=>eI .i64 v fun v=>eC l fun l c=>eI .i64 l fun l=>eC c fun c n=>eI .i64 c fun c=>eC n fun n a=>eS 2 n fun n o s=>eC a fun a b=>eT a fun a=>eC b fun b x=>eBv b fun b=>eN x (Ap (IntKind.wrap .i64 (x9 - 1)) n0 (eO a0 fun x=>eO (ld h x.1 (x.2+((IntKind.i64.wrap (x9 - (1:Int))).toNat)) 0 6) fun x=>eC x fun x y=>eI .i64 x fun x=>eC y fun y z=>eI .i64 y fun y=>eC z fun z u=>eI .i64 z fun z=>eC u fun u w=>eS 2 u fun u p q=>eC w fun w g=>eT w fun w=>eC g fun g i=>eBv g fun g=>eN i (Aj (Ae lo g3 (Dh [.agg [Iv v,Iv l,Iv c,.sl 2 n o s,.str a,.bool b],.agg [Iv x,Iv y,Iv z,.sl 2 u p q,.str w,.bool g]] l3) h) fun v l=>eI .i64 v fun v=>br (decide (v<0)) (Ap (IntKind.wrap .i64 (x9 - 1)) n0 (eO a0 fun v=>eO (ld l v.1 (v.2+((IntKind.i64.wrap (x9 - (1:Int))).toNat)) 0 6) fun v=>eC v fun v c=>eI .i64 v fun v=>eC c fun c n=>eI .i64 c fun c=>eC n fun n a=>eI .i64 n fun n=>eC a fun a o=>eS 2 a fun a s b=>eC o fun o x=>eT o fun o=>eC x fun x y=>eBv x fun x=>eN y (Ap x9 n0 (eO a0 fun y=>eO (ld l y.1 (y.2+x9.toNat) 0 6) fun y=>eC y fun y z=>eI .i64 y fun y=>eC z fun z u=>eI .i64 z fun z=>eC u fun u w=>eI .i64 u fun u=>eC w fun w p=>eS 2 w fun w q g=>eC p fun p i=>eT p fun p=>eC i fun i j=>eBv i fun i=>eN j (Ap x9 n0 (eO a0 fun j=>eO (st lo l j.1 (j.2+x9.toNat) 0 [Iv v,Iv c,Iv n,.sl 2 a s b,.str o,.bool x]) fun v=>Ap (IntKind.wrap .i64 (x9 - 1)) n0 (eO a0 fun c=>eO (st lo v c.1 (c.2+((IntKind.i64.wrap (x9 - (1:Int))).toNat)) 0 [Iv y,Iv z,Iv u,.sl 2 w q g,.str p,.bool i]) fun v=>Az lo a0 n0 c0 x1 x2 g3 l3 x8 (IntKind.wrap .i64 (x9 - 1)) v))))))) (Aq lo a0 n0 c0 x1 x2 g3 l3 (IntKind.wrap .i64 (x8+1)) l)))))) (Aq lo a0 n0 c0 x1 x2 g3 l3 (IntKind.wrap .i64 (x8+1)) h) :=
 lE
theorem MT {lo:Nat}{x0:Int}{h h':Heap}{v:V} (hk:(br (decide (x0≥4294967296)) none (br (decide (x0≥65536)) none (br (decide (x0≥256)) none (eO (Oc ⟨⟨[0,1,2,2,3,3,3,3,4,4,4,4,4,4,4,4,5,5,5,5,5,5,5,5,5,5,5,5,5,5,5,5,6,6,6,6,6,6,6,6,6,6,6,6,6,6,6,6,6,6,6,6,6,6,6,6,6,6,6,6,6,6,6,6,7,7,7,7,7,7,7,7,7,7,7,7,7,7,7,7,7,7,7,7,7,7,7,7,7,7,7,7,7,7,7,7,7,7,7,7,7,7,7,7,7,7,7,7,7,7,7,7,7,7,7,7,7,7,7,7,7,7,7,7,7,7,7,7,8,8,8,8,8,8,8,8,8,8,8,8,8,8,8,8,8,8,8,8,8,8,8,8,8,8,8,8,8,8,8,8,8,8,8,8,8,8,8,8,8,8,8,8,8,8,8,8,8,8,8,8,8,8,8,8,8,8,8,8,8,8,8,8,8,8,8,8,8,8,8,8,8,8,8,8,8,8,8,8,8,8,8,8,8,8,8,8,8,8,8,8,8,8,8,8,8,8,8,8,8,8,8,8,8,8,8,8,8,8,8,8,8,8,8,8,8,8,8,8,8,8,8,8,8,8,8,8]⟩⟩ (IntKind.wrap .u8 x0)) fun l=>some (Iv (IntKind.wrap .i64 (0+(IntKind.wrap .i64 ((l.toNat:Int))))),h)))))=some (v,h')) (hn:noId v=true:=by rfl) :
  Ae lo 320 [.int .u64 x0] h=some (v,h) :=
 eD Tryz.func320 hk hn
def AA lo a0 n0 c0 g1 l1 x4 x7 x8 h:=
 LA 321 Tryz.f321 22131 0 11 lo ⟨[(0,.sl 2 a0 n0 c0),(1,.fn g1 l1),(4,Iv x4),(7,Iv x7),(8,Iv x8)],[],h⟩
theorem EL {lo n0 g1:Nat}{a0:Pq}{c0:Nq}{l1:List V}{h h':Heap}{v:V} (hk:(AA h.length a0 n0 c0 g1 l1 0 ((n0:Int)) 0 h)=some (v,h')) (hn:noId v=true:=by rfl) :
  Ae lo 321 [.sl 2 a0 n0 c0,.fn g1 l1] h=some (v,h) :=
 eD Tryz.func321 hk hn
theorem AA.e {lo n0 g1:Nat}{a0:Pq}{c0:Nq}{l1:List V}{x4 x7 x8:Int}{h:Heap} :
  AA lo a0 n0 c0 g1 l1 x4 x7 x8 h=br (decide (x8<x7)) (Ap x8 n0 (eO a0 fun v=>eO (ld h v.1 (v.2+x8.toNat) 0 2) fun v=>eC v fun v l=>eS 6 v fun v c n=>eC l fun l a=>eS 6 l fun l o s=>eN a (Aj (Ae lo g1 (Dh [.agg [.sl 6 v c n,.sl 6 l o s]] l1) h) fun v l=>eB v (some (Iv x8,l)) (AA lo a0 n0 c0 g1 l1 x4 x7 (IntKind.wrap .i64 (x8+1)) l)))) (some (Iv (-1),h)) :=
 lE
def Hd lo a0 n0 c0 x1 x4 x5 h:=
 LA 322 Tryz.f322 2213111 0 1111 lo ⟨[(0,.sl 2 a0 n0 c0),(1,Iv x1),(4,Iv x4),(5,Iv x5)],[],h⟩
theorem Hd.e {lo n0:Nat}{a0:Pq}{c0:Nq}{x1 x4 x5:Int}{h:Heap} :
  Hd lo a0 n0 c0 x1 x4 x5 h=br (decide (x5<(n0:Int))) (Ap x5 n0 (eO a0 fun v=>eO (ld h v.1 (v.2+x5.toNat) 0 2) fun v=>eC v fun v l=>eS 6 v fun v c n=>eC l fun l a=>eS 6 l fun l o s=>eN a (Aj (Ae lo 343 [.agg [.sl 6 v c n,.sl 6 l o s],Iv x1] h) fun v l=>eI .i64 v fun v=>br (decide (v<0)) (some (Iv (-1),l)) (Hd lo a0 n0 c0 v x4 (IntKind.wrap .i64 (x5+1)) l)))) (some (Iv x1,h)) :=
 lE
theorem TS {lo n0:Nat}{x0 xA xB:Int}{a0:Pq}{c0:Nq}{s0:ByteArray}{b0:Bool}{h h':Heap}{v:V} (hk:(MM ⟨⟨[61]⟩⟩ s0 fun l=>br b0 (Aj (Ae h.length 344 [Iv x0] h) fun c n=>eT c fun c=>MM c ⟨⟨[32]⟩⟩ fun c=>Aj (Ae h.length 345 [.agg [Iv xA,Iv xB]] n) fun n a=>eT n fun n=>MM c n fun c=>Aj (Ae h.length 346 [.agg [.sl 2 a0 n0 c0]] a) fun n a=>eT n fun n=>MM c n fun c=>MM c ⟨⟨[32]⟩⟩ fun c=>MM c ⟨⟨[45]⟩⟩ fun c=>some (.str c,a)) (Aj (Ae h.length 344 [Iv x0] h) fun c n=>eT c fun c=>MM c ⟨⟨[32]⟩⟩ fun c=>Aj (Ae h.length 345 [.agg [Iv xA,Iv xB]] n) fun n a=>eT n fun n=>MM c n fun c=>Aj (Ae h.length 346 [.agg [.sl 2 a0 n0 c0]] a) fun n a=>eT n fun n=>MM c n fun c=>MM c ⟨⟨[32]⟩⟩ fun c=>MM c l fun l=>some (.str l,a)))=some (v,h')) (hn:noId v=true:=by rfl) :
  Ae lo 324 [.agg [Iv x0,Iv xA,Iv xB,.sl 2 a0 n0 c0,.str s0,.bool b0]] h=some (v,h) :=
 by cases b0<;>exact eD Tryz.func324 hk hn
theorem Rq {lo n0 nA nB nC:Nat}{a0 aA aB aC:Pq}{c0 cA cB cC:Nq}{x1 x2 x3 x4 xA:Int}{h:Heap}{r:V×Heap} (hk:(At 5 (h ++ [.rows 5 174 false [[Iv x1,Iv x2,Iv x3,Iv x4,Iv xA]]]) (.sl 5 (some (h.length,0)) 1 (some 1)) fun v=>CS lo 174 5 40 (.sl 5 aC nC cC) v (h ++ [.rows 5 174 false [[Iv x1,Iv x2,Iv x3,Iv x4,Iv xA]]]) fun v l=>eS 5 v fun v c n=>some (.agg [.sl 6 a0 n0 c0,.sl 5 aA nA cA,.sl 9 aB nB cB,.sl 5 v c n],l))=some r) :
  Ae lo 325 [.agg [.sl 6 a0 n0 c0,.sl 5 aA nA cA,.sl 9 aB nB cB,.sl 5 aC nC cC],Iv x1,Iv x2,Iv x3,.agg [Iv x4,Iv xA]] h=some r :=
 eK Tryz.func325 hk
theorem RL {lo n0:Nat}{a0:Pq}{c0:Nq}{x1 x2 xA:Int}{h:Heap}{r:V×Heap} (hk:(At 2 (h ++ [.rows 2 29 false []]) (.sl 2 a0 n0 c0) fun v=>CS lo 29 2 16 (.sl 2 (some (h.length,0)) 0 (some 0)) v (h ++ [.rows 2 29 false []]) fun v l=>eS 2 v fun v c n=>Ap x1 c (eO v fun a=>eO (ld l a.1 (a.2+x1.toNat) 0 2) fun a=>eC a fun a o=>eI .i64 a fun a=>eC o fun o s=>eI .i64 o fun o=>eN s (Aj (Ae lo 347 [.agg [Iv a,Iv o],.agg [Iv x2,Iv xA]] l) fun l a=>eA l fun l=>eC l fun l o=>eI .i64 l fun l=>eC o fun o s=>eI .i64 o fun o=>eN s (Ap x1 c (eO v fun s=>eO (st lo a s.1 (s.2+x1.toNat) 0 [Iv l,Iv o]) fun l=>some (.agg [.sl 2 v c n],l))))))=some r) :
  Ae lo 326 [.agg [.sl 2 a0 n0 c0],Iv x1,.agg [Iv x2,Iv xA]] h=some r :=
 eK Tryz.func326 hk
def C8 lo x6 aA nA cA aB nB cB nC aC nD cC nE aD nF cD h:=
 LA 327 Tryz.f327 221311 0 111 lo ⟨[(2,.lp 2 0),(3,.lp 3 0),(4,.lp 4 0),(5,.lp 5 0),(6,Iv x6)],[(2,[.sl 2 aA nA cA]),(3,[.sl 2 aB nB cB]),(4,[.sl nC aC nD cC]),(5,[.sl nE aD nF cD])],h⟩
theorem RO {lo n0 n1:Nat}{a0 a1:Pq}{c0 c1:Nq}{h:Heap}{r:V×Heap} (hk:(C8 lo 0 a0 n0 c0 a1 n1 c1 0 none 0 (some 0) 0 none 0 (some 0) h)=some r) :
  Ae lo 327 [.agg [.sl 2 a0 n0 c0],.agg [.sl 2 a1 n1 c1]] h=some r :=
 eK Tryz.func327 hk
theorem C8.e {lo nA nB nC nD nE nF:Nat}{x6:Int}{aA aB aC aD:Pq}{cA cB cC cD:Nq}{h:Heap} :
  C8 lo x6 aA nA cA aB nB cB nC aC nD cC nE aD nF cD h=br (decide (x6<4)) (Ap x6 nA (eO aA fun v=>eO (ld h v.1 (v.2+x6.toNat) 0 2) fun v=>eC v fun v l=>eI .i64 v fun v=>eC l fun l c=>eI .i64 l fun l=>eN c (Ap x6 nB (eO aB fun c=>eO (ld h c.1 (c.2+x6.toNat) 0 2) fun c=>eC c fun c n=>eI .i64 c fun c=>eC n fun n a=>eI .i64 n fun n=>eN a (Aj (Ae lo 347 [.agg [Iv v,Iv l],.agg [Iv c,Iv n]] h) fun v l=>eA v fun v=>eC v fun v c=>eI .i64 v fun v=>eC c fun c n=>eI .i64 c fun c=>eN n (At 2 (l ++ [.rows 2 29 false [[Iv v,Iv c]]]) (.sl 2 (some (l.length,0)) 1 (some 1)) fun n=>CS lo 29 2 16 (.sl nE aD nF cD) n (l ++ [.rows 2 29 false [[Iv v,Iv c]]]) fun v l=>eS 2 v fun v c n=>C8 lo (IntKind.wrap .i64 (x6+1)) aA nA cA aB nB cB nC aC nD cC 2 v c n l)))))) (some (.agg [.sl nE aD nF cD],h)) :=
 lE
def G9 lo a0 n0 c0 a3 n3 c3 x4 h:=
 LA 328 Tryz.f328 221311 0 111 lo ⟨[(0,.sl 2 a0 n0 c0),(3,.sl 2 a3 n3 c3),(4,Iv x4)],[],h⟩
theorem G9.e {lo n0 n3:Nat}{a0 a3:Pq}{c0 c3:Nq}{x4:Int}{h:Heap} :
  G9 lo a0 n0 c0 a3 n3 c3 x4 h=br (decide (x4<(n0:Int))) (Ap x4 n0 (eO a0 fun v=>eO (ld h v.1 (v.2+x4.toNat) 0 2) fun v=>eC v fun v l=>eS 6 v fun v c n=>eC l fun l a=>eS 6 l fun l o s=>eN a (Aj (Ae lo 348 [.agg [.sl 6 v c n,.sl 6 l o s]] h) fun v l=>eA v fun v=>eC v fun v c=>eS 6 v fun v n a=>eC c fun c o=>eS 6 c fun c s b=>eN o (Ap x4 n3 (eO a3 fun o=>eO (st lo l o.1 (o.2+x4.toNat) 0 [.sl 6 v n a,.sl 6 c s b]) fun v=>G9 lo a0 n0 c0 a3 n3 c3 (IntKind.wrap .i64 (x4+1)) v))))) (some (.sl 2 a3 n3 c3,h)) :=
 lE
def HK lo a0 n0 c0 a3 n3 c3 x4 h:=
 LA 329 Tryz.f329 221311 0 111 lo ⟨[(0,.sl 2 a0 n0 c0),(3,.sl 2 a3 n3 c3),(4,Iv x4)],[],h⟩
theorem HK.e {lo n0 n3:Nat}{a0 a3:Pq}{c0 c3:Nq}{x4:Int}{h:Heap} :
  HK lo a0 n0 c0 a3 n3 c3 x4 h=br (decide (x4<(n0:Int))) (Ap x4 n0 (eO a0 fun v=>eO (ld h v.1 (v.2+x4.toNat) 0 2) fun v=>eC v fun v l=>eI .i64 v fun v=>eC l fun l c=>eI .i64 l fun l=>eN c (Aj (Ae lo 284 [.agg [Iv v,Iv l]] h) fun v l=>eA v fun v=>eC v fun v c=>eI .i64 v fun v=>eC c fun c n=>eI .i64 c fun c=>eN n (Ap x4 n3 (eO a3 fun n=>eO (st lo l n.1 (n.2+x4.toNat) 0 [Iv v,Iv c]) fun v=>HK lo a0 n0 c0 a3 n3 c3 (IntKind.wrap .i64 (x4+1)) v))))) (some (.sl 2 a3 n3 c3,h)) :=
 lE
def BD lo a0 n0 c0 g1 l1 x4 x7 x8 h:=
 LA 330 Tryz.f330 22131 0 11 lo ⟨[(0,.sl 5 a0 n0 c0),(1,.fn g1 l1),(4,Iv x4),(7,Iv x7),(8,Iv x8)],[],h⟩
theorem BD.e {lo n0 g1:Nat}{a0:Pq}{c0:Nq}{l1:List V}{x4 x7 x8:Int}{h:Heap} :
  BD lo a0 n0 c0 g1 l1 x4 x7 x8 h=br (decide (x8<x7)) (Ap x8 n0 (eO a0 fun v=>eO (ld h v.1 (v.2+x8.toNat) 0 5) fun v=>eC v fun v l=>eI .i64 v fun v=>eC l fun l c=>eI .i64 l fun l=>eC c fun c n=>eI .i64 c fun c=>eC n fun n a=>eI .i64 n fun n=>eC a fun a o=>eI .i64 a fun a=>eN o (Aj (Ae lo g1 (Dh [.agg [Iv v,Iv l,Iv c,Iv n,Iv a]] l1) h) fun v l=>eB v (some (Iv x8,l)) (BD lo a0 n0 c0 g1 l1 x4 x7 (IntKind.wrap .i64 (x8+1)) l)))) (some (Iv (-1),h)) :=
 lE
def FG lo aA nA cA xA xB nB aB nC cB aC nD cC h:=
 LA 334 Tryz.f334 221311 0 111 lo ⟨[(4,.lp 4 0),(5,.lp 5 0),(11,.sl 2 aA nA cA),(12,Iv xA),(13,Iv xB)],[(4,[.sl nB aB nC cB]),(5,[.sl 2 aC nD cC])],h⟩
theorem FG.e {lo nA nB nC nD:Nat}{aA aB aC:Pq}{cA cB cC:Nq}{xA xB:Int}{h:Heap} :
  FG lo aA nA cA xA xB nB aB nC cB aC nD cC h=br (decide (xB<xA)) (Ap xB nA (eO aA fun v=>eO (ld h v.1 (v.2+xB.toNat) 0 2) fun v=>eC v fun v l=>eI .i64 v fun v=>eC l fun l c=>eI .i64 l fun l=>eN c (Ap xB nD (eO aC fun c=>eO (ld h c.1 (c.2+xB.toNat) 0 2) fun c=>eC c fun c n=>eI .i64 c fun c=>eC n fun n a=>eI .i64 n fun n=>eN a (Aj (Ae lo 349 [.agg [Iv c,Iv n],.agg [Iv v,Iv l]] h) fun v l=>eA v fun v=>eC v fun v c=>eI .i64 v fun v=>eC c fun c n=>eI .i64 c fun c=>eN n (Ap xB nD (eO aC fun n=>eO (st lo l n.1 (n.2+xB.toNat) 0 [Iv v,Iv c]) fun v=>FG lo aA nA cA xA (IntKind.wrap .i64 (xB+1)) nB aB nC cB aC nD cC v))))))) (some (.agg [.sl 2 aC nD cC],h)) :=
 lE
def Hg lo a0 n0 c0 a1 n1 c1 b4 x5 h:=
 LA 335 Tryz.f335 221311 0 111 lo ⟨[(0,.sl 2 a0 n0 c0),(1,.sl 2 a1 n1 c1),(4,.bool b4),(5,Iv x5)],[],h⟩
theorem Hg.e {lo n0 n1:Nat}{a0 a1:Pq}{c0 c1:Nq}{b4:Bool}{x5:Int}{h:Heap} :
  Hg lo a0 n0 c0 a1 n1 c1 b4 x5 h=br (decide (x5<(n0:Int))) (Ap x5 n0 (eO a0 fun v=>eO (ld h v.1 (v.2+x5.toNat) 0 2) fun v=>eC v fun v l=>eS 6 v fun v c n=>eC l fun l a=>eS 6 l fun l o s=>eN a (Ap x5 n1 (eO a1 fun a=>eO (ld h a.1 (a.2+x5.toNat) 0 2) fun a=>eC a fun a b=>eS 6 a fun a x y=>eC b fun b z=>eS 6 b fun b u w=>eN z (Aj (Ae lo 350 [.agg [.sl 6 v c n,.sl 6 l o s],.agg [.sl 6 a x y,.sl 6 b u w]] h) fun v l=>eB v (Hg lo a0 n0 c0 a1 n1 c1 b4 (IntKind.wrap .i64 (x5+1)) l) (some (.bool false,l))))))) (some (.bool true,h)) :=
 lE
def HN lo a0 n0 c0 a1 n1 c1 b4 x5 h:=
 LA 336 Tryz.f336 221311 0 111 lo ⟨[(0,.sl 2 a0 n0 c0),(1,.sl 2 a1 n1 c1),(4,.bool b4),(5,Iv x5)],[],h⟩
theorem HN.e {lo n0 n1:Nat}{a0 a1:Pq}{c0 c1:Nq}{b4:Bool}{x5:Int}{h:Heap} :
  HN lo a0 n0 c0 a1 n1 c1 b4 x5 h=br (decide (x5<(n0:Int))) (Ap x5 n0 (eO a0 fun v=>eO (ld h v.1 (v.2+x5.toNat) 0 2) fun v=>eC v fun v l=>eI .i64 v fun v=>eC l fun l c=>eI .i64 l fun l=>eN c (Ap x5 n1 (eO a1 fun c=>eO (ld h c.1 (c.2+x5.toNat) 0 2) fun c=>eC c fun c n=>eI .i64 c fun c=>eC n fun n a=>eI .i64 n fun n=>eN a (Aj (Ae lo 304 [.agg [Iv v,Iv l],.agg [Iv c,Iv n]] h) fun v l=>eB v (HN lo a0 n0 c0 a1 n1 c1 b4 (IntKind.wrap .i64 (x5+1)) l) (some (.bool false,l))))))) (some (.bool true,h)) :=
 lE
theorem MS {lo:Nat}{x0:Int}{h h':Heap}{v:V} (hk:(br (decide (x0<(-9223372036854775807:Int))) (some (.str ⟨⟨[45,57,50,50,51,51,55,50,48,51,54,56,53,52,55,55,53,56,48,56]⟩⟩,h)) (br (decide (x0<0)) (Aj (Ae h.length 344 [Iv (IntKind.wrap .i64 (0 - x0))] h) fun l c=>eT l fun l=>MM ⟨⟨[45]⟩⟩ l fun l=>some (.str l,c)) (br (decide (x0<10)) (At 1 (h ++ [.rows 1 5 false [[.int .u8 (IntKind.wrap .u8 (IntKind.wrap .i64 (48+x0)))]]]) (.sl 1 (some (h.length,0)) 1 (some 1)) fun l=>eO (E8 l) fun l=>some (.str (JT l),(h ++ [.rows 1 5 false [[.int .u8 (IntKind.wrap .u8 (IntKind.wrap .i64 (48+x0)))]]]))) (Aj (Ae h.length 344 [Iv (IntKind.wrap .i64 (x0.tdiv (10:Int)))] h) fun l c=>eT l fun l=>At 1 (c ++ [.rows 1 5 false [[.int .u8 (IntKind.wrap .u8 (IntKind.wrap .i64 (48+(x0.tmod (10:Int)))))]]]) (.sl 1 (some (c.length,0)) 1 (some 1)) fun n=>eO (E8 n) fun n=>MM l (JT n) fun l=>some (.str l,(c ++ [.rows 1 5 false [[.int .u8 (IntKind.wrap .u8 (IntKind.wrap .i64 (48+(x0.tmod (10:Int)))))]]]))))))=some (v,h')) (hn:noId v=true:=by rfl) :
  Ae lo 344 [Iv x0] h=some (v,h) :=
 eD Tryz.func344 hk hn
theorem TW {lo:Nat}{x0 xA:Int}{h h':Heap}{v:V} (hk:(Aj (Ae h.length 344 [Iv x0] h) fun l c=>eT l fun l=>MM l ⟨⟨[46]⟩⟩ fun l=>Aj (Ae h.length 344 [Iv xA] c) fun c n=>eT c fun c=>MM l c fun l=>some (.str l,n))=some (v,h')) (hn:noId v=true:=by rfl) :
  Ae lo 345 [.agg [Iv x0,Iv xA]] h=some (v,h) :=
 eD Tryz.func345 hk hn
def C7 lo s3 x4 aA nA cA h:=
 LA 346 Tryz.f346 221311 0 111 lo ⟨[(1,.lp 1 0),(3,.str s3),(4,Iv x4)],[(1,[.sl 2 aA nA cA])],h⟩
theorem RH {lo n0:Nat}{a0:Pq}{c0:Nq}{h h':Heap}{v:V} (hk:(C7 h.length ⟨⟨[]⟩⟩ 0 a0 n0 c0 h)=some (v,h')) (hn:noId v=true:=by rfl) :
  Ae lo 346 [.agg [.sl 2 a0 n0 c0]] h=some (v,h) :=
 eD Tryz.func346 hk hn
theorem C7.e {lo nA:Nat}{s3:ByteArray}{x4:Int}{aA:Pq}{cA:Nq}{h:Heap} :
  C7 lo s3 x4 aA nA cA h=br (decide (x4<(nA:Int))) (MM s3 ⟨⟨[32]⟩⟩ fun v=>Ap x4 nA (eO aA fun l=>eO (ld h l.1 (l.2+x4.toNat) 0 2) fun l=>eC l fun l c=>eI .i64 l fun l=>eC c fun c n=>eI .i64 c fun c=>eN n (Aj (Ae lo 345 [.agg [Iv l,Iv c]] h) fun l c=>eT l fun l=>MM v l fun v=>C7 lo v (IntKind.wrap .i64 (x4+1)) aA nA cA c))) (some (.str s3,h)) :=
 lE
theorem TX {lo:Nat}{x0 xA x1 xB:Int}{h h':Heap}{v:V} (hk:(Aj (Ae h.length 255 [.agg [Iv x0,Iv xA],.agg [Iv x1,Iv xB]] h) fun l c=>eB l (some (.agg [Iv x1,Iv xB],c)) (some (.agg [Iv x0,Iv xA],c)))=some (v,h')) (hn:noId v=true:=by rfl) :
  Ae lo 347 [.agg [Iv x0,Iv xA],.agg [Iv x1,Iv xB]] h=some (v,h) :=
 eD Tryz.func347 hk hn
end


structure Tag where
 time:Int
 place:Int
 deriving DecidableEq
def Tag.cs (t:Tag):List V := [Iv t.time,Iv t.place]
def Al (n a b:Int):Bool:=decide (a≤n)&&decide (n≤b)
def A2 (t:Int) (p:Int):Bool:=(t==0&&p==0) || (Al t 1 999&&Al p 0 2)
def HF (t p t' p':Int):Bool:=decide (t<t') || (t==t'&&decide (p<p'))
section
variable {lo:Nat}{h:Heap}{a b c d e:Int}
theorem DB:Ae lo 87 [Iv a,Iv b,Iv c] h=some (.bool (Al a b c),h) :=
 RR (h':=h) (by simp[Al])
theorem By:Ae lo 71 [Iv a,Iv b,Iv c] h=some (.bool (Al a b c),h) :=
 Vv (h':=h) (by simp[Al])
theorem My:Ae lo 86 [Iv a] h=some (.bool (Al a 0 2),h):=QX (h':=h) (by simp[DB])
theorem Qh:Ae lo 160 [Iv a] h=some (.bool (Al a 0 3),h):=T0 (h':=h) (by simp[DB])
theorem Qj:Ae lo 196 [.agg [Iv a,Iv b]] h=some (.bool (A2 a b),h) :=
 T3 (h':=h) (by simp[DB,My,A2])
theorem Md:Ae lo 179 [.agg [Iv a,Iv b]] h=some (.bool (A2 a b),h) :=
 QT (h':=h) (by simp[By,A2])
theorem BI:Ae lo 255 [.agg [Iv a,Iv b],.agg [Iv c,Iv d]] h=some (.bool (HF a b c d),h) :=
 RN (h':=h) (by simp[HF])
theorem VB {t p:Int} (h:A2 t p=true):(!(t==0&&p==0))=decide (t>0):=by rw[zcX];simp[A2,Al] at h ⊢;omega
def Cm {α:Type} (p:α→Bool):List α→Nat→Int
 | [],_ => -1
 | x :: r,k=>bif p x then (k:Int) else Cm p r (k+1)
theorem IU {α:Type}{p:α→Bool}:∀ {l:List α}{k:Nat},decide (Cm p l k≥0)=l.any p
 | [],k=>by simp[Cm]
 | x :: r,k=>by
  simp only[Cm,zdu];by_cases h:p x=true
  ·simp[h]
  ·simpa [h] using IU (p:=p) (l:=r) (k:=k+1)
def GX (a b:Int):Int:=if a<b then -1 else if b<a then 1 else 0
theorem Yq:Ae lo 258 [Iv a] h=some (.bool false,h):=Pc (h':=h) (by simp)
theorem OI:Ae lo 166 [Iv a,Iv b] h=some (Iv (GX a b),h) :=
 Nf (h':=h) (by
  simp only[Yq,Ac,Av,Au];unfold GX;by_cases h1:a<b
  ·rw[Ak h1,if_pos h1]
  ·rw[Ai h1,if_neg h1];by_cases h2:b<a
   ·rw[Ak h2,if_pos h2]
   ·rw[Ai h2,if_neg h2])
theorem QF:Ae lo 165 [.sl 1 (some (h.length,0)) 2 (some 2)] (h ++ [.rows 1 3 false [[Iv a],[Iv b]]])=some (Iv (if a=0 then b else a),h ++ [.rows 1 3 false [[Iv a],[Iv b]]]) :=
 T4 (h':=h ++ [.rows 1 3 false [[Iv a],[Iv b]]]) (by
  rw[Du.e,Ak (by decide),Cl (by decide)];simp only[Af];rw[Ta (row := [Iv a]) (by rfl)];simp only[cut,Af,Ab,Ag,Aa];by_cases h1:a=0
  ·subst h1;rw[if_pos rfl,show ((0:Int)==0)=true from rfl,An,show IntKind.i64.wrap (0+1)=((1:Nat):Int) from Am (k:=0) (by decide),Du.e,Ak (by decide),Cl (by decide)];simp only[Af];rw[Ta (row := [Iv b]) (by rfl)];simp only[cut,Af,Ab,Ag,Aa];by_cases h2:b=0
   ·subst h2;rw[show ((0:Int)==0)=true from rfl,An,show IntKind.i64.wrap (((1:Nat):Int)+1)=((2:Nat):Int) from Am (k:=1) (by decide),Du.e,Ai (by decide)]
   ·rw[show (b==0)=false by simpa using h2,Au]
  ·rw[if_neg h1,show (a==0)=false by simpa using h1,Au])
theorem Mz:Ae lo 73 [.agg [Iv a,Iv b],.agg [Iv c,Iv d]] h=some (Iv (if GX a c=0 then GX b d else GX a c),h) :=
 LT (h':=h ++ [.rows 1 3 false [[Iv (GX a c)],[Iv (GX b d)]]]) (by
  simp only[OI,Ac,Aa,QF])
theorem ZE:decide ((if GX a c=0 then GX b d else GX a c)<0)=HF a b c d:=by
 unfold GX HF;by_cases h1:a<c
 ·simp[h1]
 ·by_cases h2:c<a
  ·simp[h1,h2];omega
  ·have:a=c:=by omega
   subst this;by_cases h3:b<d
   ·simp[h3]
   ·simp[h3];split<;>simp
theorem HV:Ae lo 19 [.agg [Iv a,Iv b],.agg [Iv c,Iv d]] h=some (.bool (HF a b c d),h) :=
 QZ (h':=h) (by simp only[Mz,Ac,Aa,Po,ZE];simp)
end
end Go.Proofs.YtoihoaaiadagaaaGreat
namespace Go.Proofs.YtoihoaaiadagaaaGreat.T
open Go
variable {h:Heap}{b n:Nat}
def Za (P:Program) (g:TypeId→Bool):List Field→Nat→Nat→Bool
 | [],off,n=>Nat.beq off n
 | f :: fs,off,n=>match Nat.beq f.offset off&&g f.type with
  | true=>Za P g fs (off+P.cellsOf f.type) n
  | false=>false
def OM (P:Program):Nat→TypeId→Bool
 | 0,_=>false
 | n+1,t=>match P.underlying t with
  | some .bool=>Nat.beq (P.cellsOf t) 1
  | some (.int _)=>Nat.beq (P.cellsOf t) 1
  | some .string=>Nat.beq (P.cellsOf t) 1
  | some (.slice e)=>Nat.beq (P.cellsOf t) 1&&Nat.blt 0 (P.cellsOf e)&&OM P n e
  | some (.struct fs)=>Za P (OM P n) fs.toList 0 (P.cellsOf t)
  | _=>false
def TVs (P:Program) (g:TypeId→List V→Prop):List Field→List V→Prop
 | [],xs=>xs = []
 | f :: fs,xs=>∃ ys zs,xs=ys++zs∧ys.length=P.cellsOf f.type∧g f.type ys∧TVs P g fs zs
def TV (P:Program) (h:Heap):Nat→TypeId→List V→Prop
 | 0,_,_=>False
 | n+1,t,xs=>match P.underlying t with
  | some .bool=>∃ b,xs = [.bool b]
  | some (.int k)=>∃ i,xs = [.int k i]∧(Lit.int k i).wf=true
  | some .string=>∃ s,xs = [.str s]∧s.size≤maxLen
  | some (.slice e)=>∃ a c rs,xs = [.sl (P.cellsOf e) a rs.length c]∧(rs.length≤maxLen∧∀ k,c=some k→rs.length≤k)∧(∀ row∈rs,row.length=P.cellsOf e∧TV P h n e row) ∧
    (rs = []∨∃ b,a=some (b,0)∧Heap.rows? h b=some rs)
  | some (.struct fs)=>TVs P (TV P h n) fs.toList xs
  | _=>False
theorem YN {h':Heap} (hp:h <+: h') {rs:List (List V)} (hb:Heap.rows? h b=some rs):Heap.rows? h' b=some rs:=by
 obtain ⟨t,rfl⟩:=hp;unfold Heap.rows? at hb ⊢;have hl:b<h.length:=by apply zdl;intro hle;rw[zcn hle] at hb;cases hb
 rw[zbS hl];exact hb
theorem TVs.imp {P:Program}{g g':TypeId→List V→Prop} (hg:∀ t xs,g t xs→g' t xs):∀ {fs:List Field}{xs:List V},TVs P g fs xs→TVs P g' fs xs
 | [],xs,h=>h
 | f :: fs,xs,⟨ys,zs,h1,h2,h3,h4⟩=>⟨ys,zs,h1,h2,hg _ _ h3,TVs.imp hg h4⟩
theorem TV.mono {P:Program}{h h':Heap} (hp:h <+: h'):∀ (n:Nat) (t:TypeId) (xs:List V),TV P h n t xs→TV P h' n t xs
 | 0,_,_,hx=>hx
 | n+1,t,xs,hx=>by
  simp only[TV] at hx ⊢;split at hx
  ·exact hx
  ·exact hx
  ·exact hx
  ·obtain ⟨a,c,rs,h1,h2,h3,h4⟩:=hx;exact ⟨a,c,rs,h1,h2,fun row hr=>⟨(h3 row hr).1,TV.mono hp n _ _ (h3 row hr).2⟩,h4.imp id fun ⟨b,h5,h6⟩=>⟨b,h5,YN hp h6⟩⟩
  ·exact TVs.imp (fun t xs=>TV.mono hp n t xs) hx
  ·exact hx
theorem Tl {xs ys:List V} (h1:Di xs=true) (h2:Di ys=true):Di (xs++ys)=true:=by
 induction xs with
 | nil=>exact h2
 | cons x r ih =>
  simp only[zcm,Di] at h1 ⊢;split at h1
  ·exact ih h1
  ·cases h1
theorem TVs.firm {P:Program}{g:TypeId→List V→Prop} (hg:∀ t xs,g t xs→Di xs=true):∀ {l:List Field}{xs:List V},TVs P g l xs→Di xs=true
 | [],xs,h=>by simp only[TVs] at h;subst h;rfl
 | f :: l,xs,⟨ys,zs,e,_,h3,h4⟩=>by subst e;exact Tl (hg _ _ h3) (TVs.firm hg h4)
theorem TV.firm {P:Program}{h:Heap}:∀ (n:Nat) (t:TypeId) (xs:List V),TV P h n t xs→Di xs=true
 | 0,_,_,hx=>hx.elim
 | n+1,t,xs,hx=>by
  simp only[TV] at hx;split at hx
  ·obtain ⟨b,rfl⟩:=hx;rfl
  ·obtain ⟨i,rfl,_⟩:=hx;rfl
  ·obtain ⟨s,rfl,_⟩:=hx;rfl
  ·obtain ⟨a,c,rs,rfl,_⟩:=hx;rfl
  ·exact TVs.firm (fun t xs=>TV.firm n t xs) hx
  ·exact hx.elim
structure Imp (W:World) (ρ:Rho) (h:Heap):Prop where
 rel:HRel ρ h W
 ro:∀ b,b<h.length→BU h b∨Qd h b
theorem V9 {k:Blk} (hb:b<h.length) (hd:BU h b):BU (h ++ [k]) b:=by unfold BU at *;rw[zbS hb];exact hd
theorem Y8 {k:Blk} (hb:b<h.length) (hd:Qd h b):Qd (h ++ [k]) b:=by obtain ⟨R,e,rs,h1⟩:=hd;exact ⟨R,e,rs,by rw[zbS hb];exact h1⟩
theorem Imp.lay {W:World}{ρ:Rho} (hi:Imp W ρ h) (k:Blk) (e:E) (hlt:e.r<W.heap.size) (hk:BR ρ e k W) (hro:k = .dead∨∃ R e rs,k = .rows R e true rs) :
  Imp W (ρ.set h.length e) (h ++ [k]):=by
 have hle:Rle ρ (ρ.set h.length e):=Rho.set_le hi.rel.fresh;have hnew:BU (h ++ [k]) h.length∨Qd (h ++ [k]) h.length:=by
  rcases hro with rfl | ⟨R,t,rs,rfl⟩
  ·exact .inl (by simp[BU])
  ·exact .inr ⟨R,t,rs,by simp⟩
 have hall:∀ b,b<(h ++ [k]).length→BU (h ++ [k]) b∨Qd (h ++ [k]) b:=fun b hb=>by
  by_cases hx:b=h.length
  ·subst hx;exact hnew
  ·have:b<h.length:=by simp at hb;omega
   exact (hi.ro b this).imp (V9 this) (Y8 this)
 have hdom:∀ b e',(ρ.set h.length e) b=some e'→b<(h ++ [k]).length∧e'.r<W.heap.size:=fun b e' hb=>by
  by_cases hx:b=h.length
  ·subst hx;rw[Rho.set_same] at hb;injection hb with hb;subst hb;exact ⟨by simp,hlt⟩
  ·rw[Rho.set_other hx] at hb;have:=hi.rel.dom b e' hb;exact ⟨by simp;omega,by omega⟩
 refine ⟨⟨hdom,fun b e' k' hb hk'=>?_,fun b b' e1 e2 h1 h2 hr hne=>?_⟩,hall⟩
 ·by_cases hx:b=h.length
  ·subst hx;rw[Rho.set_same] at hb;injection hb with hb;subst hb;simp at hk';subst hk';exact BR.mono hle rfl hk
  ·rw[Rho.set_other hx] at hb;have:=(hi.rel.dom b e' hb).1;rw[zbS this] at hk';exact BR.mono hle rfl (hi.rel.blk b e' k' hb hk')
 ·have g1:=hall b (hdom b e1 h1).1;have g2:=hall b' (hdom b' e2 h2).1;rcases g1 with g1 | g1
  ·exact .inl g1
  ·rcases g2 with g2 | g2
   ·exact .inr (.inl g2)
   ·exact .inr (.inr ⟨g1,g2⟩)
section
variable {P:Program}{W:World}{H:Type}{enc:TypeId×Value→H}
theorem QJ {base:Nat}{a:Addr}{cs:List Value} (h:W.cells? base a n=some cs):cs.length=n∧∀ (i:Nat) (c:Value),cs[i]?=some c→W.cell? (a.add i)=some c:=by
 unfold World.cells? at h;split at h
 ·have hl:cs.length=n:=by simpa using mapM_some_length h
  refine ⟨hl,fun i c hc=>?_⟩;have hi:i<n:=by have:=(zbT.1 hc).1;omega
  have:=mapM_some_get h i i (by simp[hi]);rw[this,hc]
 ·cases h
theorem WA {a:Addr}{c:Value} (h:W.cell? a=some c):∃ cs el fr,W.heap[a.block]?=some (.cells cs el fr)∧a.spot=none∧cs[a.off]?=some c:=by
 unfold World.cell? at h;split at h
 ·rename_i cs el fr he
  split at h
  ·cases h
  ·rename_i hs;exact ⟨cs,el,fr,he,by simpa using hs,h⟩
 ·cases h
def zbi (P:Program) (W:World) (n:Nat) (t:TypeId) (cs:List Value):Prop :=
 ∀ ρ h,Imp W ρ h→∃ (ρ':Rho) (h':Heap) (xs:List V),Rle ρ ρ'∧h <+: h'∧Imp W ρ' h'∧VRs ρ' xs cs∧TV P h' n t xs
theorem Su {n:Nat}{t:TypeId}{R:Nat}:∀ (css:List (List Value)),(∀ cs∈css,cs.length=R∧zbi P W n t cs)→∀ ρ h,Imp W ρ h →
  ∃ (ρ':Rho) (h':Heap) (rs:List (List V)),Rle ρ ρ'∧h <+: h'∧Imp W ρ' h'∧rs.length=css.length∧(∀ (i:Nat) (row:List V),rs[i]?=some row→∃ cs,css[i]?=some cs∧VRs ρ' row cs∧row.length=R∧TV P h' n t row)
 | [],_,ρ,h,hi=>⟨ρ,h,[],Rle.refl _,zdt _,hi,rfl,fun i row hr=>by simp at hr⟩
 | cs :: css,hc,ρ,h,hi=>by
  obtain ⟨ρ1,h1,xs,a1,a2,a3,a4,a5⟩:=(hc cs (by simp)).2 ρ h hi;obtain ⟨ρ2,h2,rs,b1,b2,b3,b4,b5⟩:=Su css (fun c hcc=>hc c (by simp[hcc])) ρ1 h1 a3;refine ⟨ρ2,h2,xs :: rs,a1.trans b1,a2.trans b2,b3,by simp[b4],fun i row hr=>?_⟩;cases i with
  | zero =>simp at hr;subst hr;exact ⟨cs,rfl,VRs.mono b1 _ _ a4,by rw[a4.length];exact (hc cs (by simp)).1,TV.mono b2 _ _ _ a5⟩
  | succ i =>simp at hr;obtain ⟨c,g1,g2⟩:=b5 i row hr;exact ⟨c,by simpa using g1,g2⟩
theorem OA {n:Nat}{cs:List Value}:∀ (fs:List Field) (off:Nat),Za P (OM P n) fs off cs.length=true→(∀ f∈fs,OM P n f.type=true→zbi P W n f.type ((cs.drop f.offset).take (P.cellsOf f.type)))→∀ ρ h,Imp W ρ h →
  ∃ (ρ':Rho) (h':Heap) (xs:List V),Rle ρ ρ'∧h <+: h'∧Imp W ρ' h'∧VRs ρ' xs (cs.drop off)∧TVs P (TV P h' n) fs xs∧off≤cs.length
 | [],off,hin,_,ρ,h,hi=>by simp only[Za] at hin;have:=zbZ hin;exact ⟨ρ,h,[],Rle.refl _,zdt _,hi,by rw[zcK (by omega)];exact VRs.nil,rfl,by omega⟩
 | f :: fs,off,hin,hl,ρ,h,hi=>by
  simp only[Za] at hin;split at hin
  ·rename_i hc
   simp only[zb3] at hc;have ho:=zbZ hc.1;obtain ⟨ρ1,h1,xs,a1,a2,a3,a4,a5⟩:=hl f (by simp) hc.2 ρ h hi;obtain ⟨ρ2,h2,ys,b1,b2,b3,b4,b5,b6⟩:=OA fs (off+P.cellsOf f.type) hin (fun g hg=>hl g (by simp[hg])) ρ1 h1 a3;rw[ho] at a4;have hlen:=a4.length;refine ⟨ρ2,h2,xs++ys,a1.trans b1,a2.trans b2,b3,?_,⟨xs,ys,rfl,?_,TV.mono b2 _ _ _ a5,b5⟩,by omega⟩
   ·have:=(VRs.mono b1 _ _ a4).append b4;rwa [← zc4,zcw] at this
   ·rw[hlen];simp;omega
  ·cases hin
theorem zbB:∀ (n:Nat) (t:TypeId),OM P n t=true→∀ (fuel:Nat) (cs:List Value) (x:DataW H×List MemPlace),DataW.trod enc P W 0 (fun _=>true) true fuel t cs=some x →
  (∀ a l c,Value.slice (some a) l c∈cs→0<W.heap.size)→zbi P W n t cs:=by
 intro n;induction n with
 | zero=>intro t h;simp[OM] at h
 | succ n ih =>
  intro t hin fuel cs x hx hpos ρ h hi;simp only[OM] at hin;split at hin
  ·rename_i hu
   obtain ⟨b,rfl,_⟩:=DataW.trod_bool hu hx;exact ⟨ρ,h,[.bool b],Rle.refl _,zdt _,hi,VRs.cons VR.bool' VRs.nil,by simp only[TV,hu];exact ⟨b,rfl⟩⟩
  ·rename_i k hu
   obtain ⟨i,rfl,_,hw⟩:=DataW.trod_int hu hx;exact ⟨ρ,h,[.int k i],Rle.refl _,zdt _,hi,VRs.cons VR.int' VRs.nil,by simp only[TV,hu];exact ⟨i,rfl,hw⟩⟩
  ·rename_i hu
   obtain ⟨s,rfl,_,hw⟩:=DataW.trod_string hu hx;exact ⟨ρ,h,[.str s],Rle.refl _,zdt _,hi,VRs.cons (by simp[VR]) VRs.nil,by simp only[TV,hu];exact ⟨s,rfl,hw⟩⟩
  ·rename_i e hu
   simp only[zb3] at hin;have hR:0<P.cellsOf e:=by have:=hin.1.2;simpa [zdi] using this
   rcases DataW.trod_slice hu hx with ⟨rfl,_⟩ | ⟨a,len,cap,elems,rest,m,rfl,rfl,_,_,hlc,hcm,hel,hg,hsp,_⟩
   ·exact ⟨ρ,h,[.sl (P.cellsOf e) none 0 (some 0)],Rle.refl _,zdt _,hi,VRs.cons (by simp[VR]) VRs.nil,by
     simp only[TV,hu];exact ⟨none,some 0,[],rfl,⟨zch _,fun _ _=>zch _⟩,fun r hr=>(by cases hr),.inl rfl⟩⟩
   ·-- the rows
    have hrow:∀ i,i<len→∃ c y,W.cells? 0 (a.add (i*P.cellsOf e)) (P.cellsOf e)=some c∧DataW.trod enc P W 0 (fun _=>true) true m e c=some y:=fun i hi'=>by have h1:=hg i hi';rw[zb7 (by omega)] at h1;obtain ⟨c,h2,h3⟩:=Option.bind_eq_some_iff.1 h1;exact ⟨c,_,h2,h3⟩
    have hspare:∀ j,len+j<cap→∃ c,W.cells? 0 (a.add ((len+j)*P.cellsOf e)) (P.cellsOf e)=some c:=fun j hj=>by obtain ⟨h0,h1⟩:=hsp rfl;have h1:=h1 j (by omega);rw[zb7 (by omega)] at h1;obtain ⟨c,h2,_⟩:=Option.bind_eq_some_iff.1 h1;exact ⟨c,h2⟩
    by_cases hcap:cap=0
    ·-- no room at all
     subst hcap;have hl0:len=0:=by omega
     subst hl0;have hp:=hpos a 0 0 (by simp);have hi2:=hi.lay .dead ⟨0,0,P.cellsOf e,0,0⟩ hp trivial (.inl rfl);refine ⟨_,_,[.sl (P.cellsOf e) (some (h.length,0)) 0 (some 0)],Rho.set_le hi.rel.fresh,⟨_,rfl⟩,hi2,VRs.cons ?_ VRs.nil,?_⟩
     ·simp only[VR];exact ⟨_,a,0,Rho.set_same _ _ _,rfl,rfl,.inl rfl,zbR _,fun y hy=>by injection hy,fun hc=>by cases hc⟩
     ·simp only[TV,hu];exact ⟨_,_,[],rfl,⟨zch _,fun _ _=>zch _⟩,fun r hr=>(by cases hr),.inl rfl⟩
    ·-- the block
     have hblk:∃ carr el fr,W.heap[a.block]?=some (.cells carr el fr)∧a.spot=none:=by
      have:∃ c,W.cells? 0 (a.add (0*P.cellsOf e)) (P.cellsOf e)=some c:=by
       by_cases hl0:len=0
       ·have:=hspare 0 (by omega);rw[hl0] at this;simpa using this
       ·obtain ⟨c,_,h2,_⟩:=hrow 0 (by omega);exact ⟨c,h2⟩
      obtain ⟨c,hc⟩:=this;obtain ⟨c1,c2⟩:=QJ hc;have h0:c[0]?=some c[0]:=zb7 (by omega);obtain ⟨carr,el,fr,h1,h2,_⟩:=WA (c2 0 _ h0);have e1:(a.add (0*P.cellsOf e)).add 0=a:=by simp[Addr.add]
      rw[e1] at h1 h2;exact ⟨carr,el,fr,h1,h2⟩
     obtain ⟨carr,el,fr,hW,hspot⟩:=hblk;obtain ⟨r,o,sp⟩:=a;simp only at hW hspot;subst hspot;have hlt:r<W.heap.size:=by apply zdl;intro hle;rw[Array.getElem?_eq_none hle] at hW;cases hW
     have hcells:∀ i,i<len→∃ c y,c.length=P.cellsOf e∧(∀ (j:Nat) (v:Value),c[j]?=some v→carr[o+(i*P.cellsOf e+j)]?=some v)∧DataW.trod enc P W 0 (fun _=>true) true m e c=some y:=fun i hi'=>by obtain ⟨c,y,h1,h2⟩:=hrow i hi';obtain ⟨c1,c2⟩:=QJ h1;refine ⟨c,y,c1,fun j v hv=>?_,h2⟩;have:=c2 j v hv;rw[Fu,Fu,KT hW] at this;rw[← this];congr 1;omega
     have hall:∃ css:List (List Value),css.length=len∧∀ i,i<len→∃ c y,css[i]?=some c∧c.length=P.cellsOf e∧(∀ (j:Nat) (v:Value),c[j]?=some v→carr[o+(i*P.cellsOf e+j)]?=some v)∧DataW.trod enc P W 0 (fun _=>true) true m e c=some y:=by refine ⟨(List.range len).map fun i=>if hi':i<len then (hcells i hi').choose else [],by simp,fun i hi'=>?_⟩;obtain ⟨y,h1,h2,h3⟩:=(hcells i hi').choose_spec;exact ⟨_,y,by simp[hi'],h1,h2,h3⟩
     obtain ⟨css,hcl,hcs⟩:=hall;obtain ⟨ρ1,h1,rs,a1,a2,a3,a4,a5⟩:=Su (P:=P) (W:=W) (n:=n) (t:=e) (R:=P.cellsOf e) css (fun c hc=>by
      obtain ⟨i,hi'⟩:=zb5.1 hc;have hlt:=(zbT.1 hi').1;obtain ⟨c',y,g1,g2,g3,g4⟩:=hcs i (by omega);rw[hi'] at g1;injection g1 with g1;subst g1;exact ⟨g2,ih e hin.2 m c y g4 fun _ _ _ _=>by omega⟩) ρ h hi
     by_cases hl0:len=0
     ·have hrs:rs = []:=zbY (by omega);subst hrs;have hi2:=a3.lay .dead ⟨r,o,P.cellsOf e,0,0⟩ hlt trivial (.inl rfl);refine ⟨_,_,[.sl (P.cellsOf e) (some (h1.length,0)) 0 (some cap)],a1.trans (Rho.set_le a3.rel.fresh),a2.trans ⟨_,rfl⟩,hi2,VRs.cons ?_ VRs.nil,?_⟩
      ·simp only[VR];exact ⟨_,⟨r,o,none⟩,cap,Rho.set_same _ _ _,rfl,by rw[hl0],.inr (by simp),by omega,fun y hy=>by injection hy,fun hc=>by cases hc⟩
      ·simp only[TV,hu];exact ⟨_,_,[],rfl,⟨zch _,fun _ _=>zch _⟩,fun r hr=>(by cases hr),.inl rfl⟩
     ·have hrl:rs.length=len:=by omega
      have hbr:BR ρ1 ⟨r,o,P.cellsOf e,rs.length,rs.length⟩ (.rows (P.cellsOf e) el true rs) W:=by
       refine ⟨carr,fr,?_,fun h=>(by cases h),rfl,rfl,zbR _,?_,fun i row hr=>?_,.inr ⟨rfl,fun j c g1 g2 g3=>?_⟩⟩
       ·exact hW
       ·obtain ⟨c,y,g1,g2,g3,_⟩:=hcs (len - 1) (by omega);have:=g3 (P.cellsOf e - 1) _ (zb7 (by omega));have hb:=(zcY.1 this).1;have e1:rs.length*P.cellsOf e=(len - 1)*P.cellsOf e+P.cellsOf e:=by rw[hrl,← Nat.succ_mul];congr 1;omega
        show o+rs.length*P.cellsOf e≤carr.size;omega
       ·obtain ⟨c,g1,g2,g3,_⟩:=a5 i row hr;refine ⟨g3,fun j v hv=>?_⟩;have hlt:=(zbT.1 hr).1;obtain ⟨c',y,k1,k2,k3,_⟩:=hcs i (by omega);rw[g1] at k1;injection k1 with k1;subst k1;obtain ⟨z,z1,z2⟩:=g2.get j v hv;exact ⟨z,k3 j z z1,z2⟩
       ·obtain ⟨q,hq⟩:∃ q,j=o+q:=⟨j - o,by simp only at g1;omega⟩;have hq2:q<rs.length*P.cellsOf e:=by simp only at g2;omega
        have hdiv:q / P.cellsOf e<rs.length:=(Nat.div_lt_iff_lt_mul hR).2 hq2;have hmod:q % P.cellsOf e<P.cellsOf e:=Nat.mod_lt _ hR;have hqq:q=q / P.cellsOf e*P.cellsOf e+q % P.cellsOf e:=by rw[Nat.mul_comm];exact (Nat.div_add_mod q _).symm
        obtain ⟨c0,k1,k2,k3,k4⟩:=a5 (q / P.cellsOf e) _ (zb7 hdiv);obtain ⟨c',y,l1,l2,l3,_⟩:=hcs (q / P.cellsOf e) (by omega);rw[k1] at l1;injection l1 with l1;subst l1;have hz:=l3 (q % P.cellsOf e) _ (zb7 (by omega));rw[← hqq,← hq,g3] at hz;injection hz with hz;rw[hz];exact CJ k2 (TV.firm _ _ _ k4) _ (zbO _)
      have hi2:=a3.lay (.rows (P.cellsOf e) el true rs) ⟨r,o,P.cellsOf e,rs.length,rs.length⟩ hlt hbr (.inr ⟨_,_,_,rfl⟩);refine ⟨_,_,[.sl (P.cellsOf e) (some (h1.length,0)) rs.length (some cap)],a1.trans (Rho.set_le a3.rel.fresh),a2.trans ⟨_,rfl⟩,hi2,VRs.cons ?_ VRs.nil,?_⟩
      ·simp only[VR];exact ⟨_,⟨r,o,none⟩,cap,Rho.set_same _ _ _,rfl,by rw[hrl],.inr (by simp),by omega,fun y hy=>by injection hy,fun hc=>by cases hc⟩
      ·simp only[TV,hu];refine ⟨_,_,rs,rfl,⟨by omega,fun k hk=>by injection hk with hk;omega⟩,fun row hr=>?_,.inr ⟨_,rfl,by simp[Heap.rows?]⟩⟩;obtain ⟨i,hi'⟩:=zb5.1 hr;obtain ⟨c,_,_,g3,g4⟩:=a5 i row hi';exact ⟨g3,TV.mono ⟨_,rfl⟩ _ _ _ g4⟩
  ·rename_i fs hu
   obtain ⟨xs,m,rfl,_,hl,hxl,hf⟩:=DataW.trod_struct hu hx;rw[← hl] at hin;obtain ⟨ρ',h',ys,b1,b2,b3,b4,b5,_⟩:=OA (P:=P) (W:=W) (n:=n) (cs:=cs) fs.toList 0 hin (fun f hfm hft=>by
    obtain ⟨i,hi'⟩:=zb5.1 hfm;have hi2:fs[i]?=some f:=by simpa using hi'
    have h1:=hf i f hi2;have hlt:i<xs.length:=by have:=(zcY.1 hi2).1;omega
    rw[zb7 hlt] at h1;exact ih f.type hft m _ _ h1 fun a l c hm=>hpos a l c (zdj (zdk hm))) ρ h hi
   exact ⟨ρ',h',ys,b1,b2,b3,by simpa using b4,by simp only[TV,hu];exact b5⟩
  ·cases hin
end
end Go.Proofs.YtoihoaaiadagaaaGreat.T
namespace Go.Proofs.YtoihoaaiadagaaaGreat.T
open Go Go.RowKit
variable {r:Reach}{base:Nat}{a:Addr}{n:Nat}{h:Heap}
section
variable {P:Program}{W:World}{H:Type}{enc:TypeId×Value→H}
theorem V0 {e:TypeId} (h:W.has P r base a e n):0<W.heap.size:=by obtain ⟨_,_,row,cells,hs,_⟩:=h;unfold World.shape? at hs;apply zdl;intro hle;rw[Array.getElem?_eq_none (by omega)] at hs;cases hs
theorem Ot {u:TypeId}{l c:Nat} (h:Cell.okWide P W r base u (.slice (some a) l c)):0<W.heap.size:=by
 have h2:Cell.ok P W r base u (.slice (some a) l c):=by unfold Cell.okWide at h;split at h<;>simp_all
 unfold Cell.ok at h2;split at h2<;>simp_all
 exact V0 h2.2.2
theorem S5 {t:TypeId}{v:Value} (h:Value.okWide P W r base t v) {l c:Nat} (hm:Value.slice (some a) l c∈v.cells.toList):0<W.heap.size:=by
 have row:∀ cs:Array Value,Row.okWide P W r base t cs→v = .agg cs→0<W.heap.size:=fun cs hr hv=>by subst hv;obtain ⟨ts,_,_,h3⟩:=hr;simp[Value.cells] at hm;obtain ⟨i,hi⟩:=Array.mem_iff_getElem?.1 hm;obtain ⟨u,_,hu⟩:=h3 i _ hi;exact Ot hu
 unfold Value.okWide at h;split at h
 ·obtain ⟨cs,hv,_,hr⟩:=h;exact row cs hr hv
 ·obtain ⟨cs,hv,_,hr⟩:=h;exact row cs hr hv
 ·cases v<;>simp[Value.cells] at hm
  ·obtain ⟨rfl,rfl,rfl⟩:=hm;exact Ot h
  ·exfalso;unfold Cell.okWide Cell.ok at h;split at h<;>(try split at h)<;>simp_all
def ArgV (P:Program) (h:Heap) (n:Nat) (t:TypeId) (x:V):Prop:=match P.underlying t with
 | some (.struct _)=>∃ xs,x = .agg xs∧TV P h n t xs
 | _=>TV P h n t [x]
theorem ArgV.mono {h h':Heap} (hp:h <+: h') {n:Nat}{t:TypeId}{x:V} (hx:ArgV P h n t x):ArgV P h' n t x:=by
 unfold ArgV at *
 split at hx
 ·obtain ⟨xs,h1,h2⟩:=hx;exact ⟨xs,h1,TV.mono hp _ _ _ h2⟩
 ·exact TV.mono hp _ _ _ hx
theorem lays_arg {t:TypeId}{v:Value}{d:DataW H}{p:List MemPlace} (hin:OM P n t=true) (hok:Value.okWide P W r base t v)
  (h0:DataW.Trod enc P W 0 (fun _=>true) true t v d p) {ρ:Rho} (hi:Imp W ρ h):∃ (ρ':Rho) (h':Heap) (x:V),Rle ρ ρ'∧h <+: h'∧Imp W ρ' h'∧VR ρ' x v∧ArgV P h' n t x:=by
 obtain ⟨fuel,hf⟩:=h0;obtain ⟨ρ',h',xs,a1,a2,a3,a4,a5⟩:=zbB n t hin fuel _ _ hf (fun a l c hm=>S5 hok hm) ρ h hi;unfold Value.okWide at hok;cases hu:P.underlying t with
 | none =>
  cases n with
  | zero=>simp[OM] at hin
  | succ n=>simp[OM,hu] at hin
 | some td =>
  have one:(∀ fs,td ≠ .struct fs)→∃ x,xs = [x]∧VR ρ' x v:=fun hns=>by
   cases n with
   | zero=>simp[OM] at hin
   | succ n =>
    simp only[TV,hu] at a5;have hl:=a4.length;have hx:∃ x,xs = [x]:=by
     cases td<;>simp only at a5<;>(try exact a5.elim)
     ·obtain ⟨b,rfl⟩:=a5;exact ⟨_,rfl⟩
     ·obtain ⟨i,rfl,_⟩:=a5;exact ⟨_,rfl⟩
     ·obtain ⟨s,rfl,_⟩:=a5;exact ⟨_,rfl⟩
     ·obtain ⟨a,c,rs,rfl,_⟩:=a5;exact ⟨_,rfl⟩
     ·exact absurd rfl (hns _)
    obtain ⟨x,rfl⟩:=hx;refine ⟨x,rfl,?_⟩;have hns':∀ cs,v ≠ .agg cs:=fun cs hv=>by
     subst hv;rw[hu] at hok;cases td<;>simp only[OM,hu] at hin<;>(try cases hin)<;>simp[Cell.okWide,Cell.ok,hu] at hok
     exact absurd rfl (hns _)
    have hc:v.cells.toList = [v]:=by
     cases v<;>(try rfl)
     ·exact absurd rfl (hns' _)
    rw[hc] at a4;exact a4.uncons.1
  by_cases hs:∃ fs,td = .struct fs
  ·obtain ⟨fs,rfl⟩:=hs;rw[hu] at hok;obtain ⟨cs,rfl,_⟩:=hok;refine ⟨ρ',h',.agg xs,a1,a2,a3,?_,?_⟩
   ·simp only[VR];exact ⟨cs,rfl,by simpa [Value.cells] using a4⟩
   ·simp only[ArgV,hu];exact ⟨xs,rfl,a5⟩
  ·obtain ⟨x,rfl,hx⟩:=one fun fs e=>hs ⟨fs,e⟩;refine ⟨ρ',h',x,a1,a2,a3,hx,?_⟩;unfold ArgV;rw[hu];split
   ·rename_i fs' he;injection he with he;exact absurd ⟨_,he⟩ hs
   ·exact a5
theorem imp_nil (W:World):Imp W (fun _=>none) [] :=
 ⟨⟨fun b e h=>(by cases h),fun b e k h=>(by cases h),fun b b' e e' h=>(by cases h)⟩,fun b hb=>by simp at hb⟩
theorem law_walk {call:HD} (hS:SC P call) {f:FuncId}{args:List V}{h':Heap}{ρ:Rho} (hk:call h.length f args h=some (.bool true,h')) {cargs:Array Value} (hv:VRs ρ args cargs.toList) (hi:Imp W ρ h) :
  Calls P f cargs W fun e w'=>e = .returned (.bool true)∧Below W.heap.size W w':=by
 refine Calls.mono (hS.calls hk (zbR _) hv hi.rel) ?_
 rintro e w' ⟨c,rfl,ρ',h1,h2,h3⟩
 simp only[VR] at h1;subst h1;exact ⟨rfl,⟨h3.os,h3.tape,h3.output,h3.size,fun k hk=>h3.frame k hk fun b e hb hle=>by
  have:=(hi.rel.dom b e hb).1;omega⟩⟩
end
end Go.Proofs.YtoihoaaiadagaaaGreat.T
namespace Go.Proofs.YtoihoaaiadagaaaGreat
open Go T


structure Ver where
 key:Int
 tag:Tag
 past:List Tag
 text:ByteArray
 gone:Bool
structure Node where
 store:List Ver
 wait:List Ver
structure Place where
 me:Int
 clock:Int
 chain:List Node
 log:List Ver
 got:List (List Ver)
 fell:Bool
structure Frame where
 fro:Int
 to:Int
 at':Int
 ver:Ver
abbrev zbu (ro:Bool):Nat:=bif ro then 219 else 29
abbrev MF (ro:Bool):Nat:=bif ro then 224 else 34
abbrev Zp (ro:Bool):Nat:=bif ro then 211 else 41
abbrev OF (ro:Bool):Nat:=bif ro then 321 else 45
abbrev Ver.cs (v:Ver) (a:Pq) (c:Nq):List V := [Iv v.key,Iv v.tag.time,Iv v.tag.place,.sl 2 a v.past.length c,.str v.text,.bool v.gone]
abbrev RTags (ro:Bool):Rel (List Tag):=Sli ro 2 (zbu ro) (flat Tag.cs)
def RVer (ro:Bool):Rel Ver:=fun h cs v F=>∃ s,cs = [Iv v.key,Iv v.tag.time,Iv v.tag.place,s,.str v.text,.bool v.gone]∧RTags ro h [s] v.past F
abbrev RVers (ro:Bool):Rel (List Ver):=Sli ro 6 (MF ro) (RVer ro)
abbrev RVss (ro:Bool):Rel (List (List Ver)):=Sli ro 1 (Zp ro) (RVers ro)
def RNode (ro:Bool):Rel Node:=fun h cs x F=>∃ s1 s2 F1 F2,cs = [s1,s2]∧F=F1++F2∧RVers ro h [s1] x.store F1∧RVers ro h [s2] x.wait F2
abbrev RNodes (ro:Bool):Rel (List Node):=Sli ro 2 (OF ro) (RNode ro)
def RPlace (ro:Bool):Rel Place:=fun h cs p F=>∃ s1 s2 s3 F1 F2 F3,cs = [Iv p.me,Iv p.clock,s1,s2,s3,.bool p.fell]∧F=F1++(F2++F3)∧RNodes ro h [s1] p.chain F1∧RVers ro h [s2] p.log F2∧RVss ro h [s3] p.got F3
def WJ (ro:Bool):Rel Frame:=fun h cs f F=>∃ vs,cs = Iv f.fro :: Iv f.to :: Iv f.at' :: vs∧RVer ro h vs f.ver F
theorem rtags_ok {ro:Bool}:(RTags ro).Ok:=Sli.ok CK
theorem rver_ok {ro:Bool}:(RVer ro).Ok :=
 ⟨fun h h' cs x F ⟨s,h1,h2⟩ hb=>⟨s,h1,rtags_ok.fr _ _ _ _ _ h2 hb⟩,fun h cs x F ⟨s,_,h2⟩=>rtags_ok.bd _ _ _ _ h2⟩
theorem rvers_ok {ro:Bool}:(RVers ro).Ok:=Sli.ok rver_ok
theorem rvss_ok {ro:Bool}:(RVss ro).Ok:=Sli.ok rvers_ok
theorem rnode_ok {ro:Bool}:(RNode ro).Ok:=by
 refine ⟨?_,?_⟩
 ·rintro h h' cs x F ⟨s1,s2,F1,F2,h1,rfl,h2,h3⟩ hb
  exact ⟨s1,s2,F1,F2,h1,rfl,rvers_ok.fr _ _ _ _ _ h2 fun b hm=>hb b (by simp[hm]),rvers_ok.fr _ _ _ _ _ h3 fun b hm=>hb b (by simp[hm])⟩
 ·rintro h cs x F ⟨s1,s2,F1,F2,h1,rfl,h2,h3⟩ b hb
  rw[zbP] at hb;exact hb.elim (rvers_ok.bd _ _ _ _ h2 b) (rvers_ok.bd _ _ _ _ h3 b)
theorem rnodes_ok {ro:Bool}:(RNodes ro).Ok:=Sli.ok rnode_ok
theorem rplace_ok {ro:Bool}:(RPlace ro).Ok:=by
 refine ⟨?_,?_⟩
 ·rintro h h' cs x F ⟨s1,s2,s3,F1,F2,F3,h1,rfl,h2,h3,h4⟩ hb
  exact ⟨s1,s2,s3,F1,F2,F3,h1,rfl,rnodes_ok.fr _ _ _ _ _ h2 fun b hm=>hb b (by simp[hm]),rvers_ok.fr _ _ _ _ _ h3 fun b hm=>hb b (by simp[hm]),rvss_ok.fr _ _ _ _ _ h4 fun b hm=>hb b (by simp[hm])⟩
 ·rintro h cs x F ⟨s1,s2,s3,F1,F2,F3,h1,rfl,h2,h3,h4⟩ b hb
  rw[zbP,zbP] at hb;rcases hb with hb | hb | hb
  ·exact rnodes_ok.bd _ _ _ _ h2 b hb
  ·exact rvers_ok.bd _ _ _ _ h3 b hb
  ·exact rvss_ok.bd _ _ _ _ h4 b hb
theorem rframe_ok {ro:Bool}:(WJ ro).Ok :=
 ⟨fun h h' cs x F ⟨s,h1,h2⟩ hb=>⟨s,h1,rver_ok.fr _ _ _ _ _ h2 hb⟩,fun h cs x F ⟨s,_,h2⟩=>rver_ok.bd _ _ _ _ h2⟩
section
variable {ro:Bool}{h:Heap}{F:List Nat}{a:Pq}{c:Nq}{n k:Nat}
theorem RTags.get {l:List Tag} (hs:RTags ro h [.sl 2 a n c] l F) (hk:k<l.length):∃ o,a=some o∧ld h o.1 (o.2+k) 0 2=some [Iv l[k].time,Iv l[k].place]:=by obtain ⟨o,row,G,h1,h2,⟨rfl,_⟩,_⟩:=hs.read hk;exact ⟨o,h1,by rw[h2];rfl⟩
theorem RVer.form {row:List V}{v:Ver} (hv:RVer ro h row v F):∃ s a c,row = [Iv v.key,Iv v.tag.time,Iv v.tag.place,s,.str v.text,.bool v.gone] ∧
  (∀ {R':Type} (K:Pq→Nat→Nq→Option R'),eS 2 s K=K a v.past.length c)∧RTags ro h [.sl 2 a v.past.length c] v.past F:=by
 obtain ⟨s,rfl,hp⟩:=hv;obtain ⟨a,c,es,hp2⟩:=hp.form;exact ⟨s,a,c,rfl,es,hp2⟩
theorem RVers.get {l:List Ver} (hs:RVers ro h [.sl 6 a n c] l F) (hk:k<l.length):∃ o s a' c' G,a=some o ∧
  ld h o.1 (o.2+k) 0 6=some [Iv l[k].key,Iv l[k].tag.time,Iv l[k].tag.place,s,.str l[k].text,.bool l[k].gone] ∧
  (∀ {R':Type} (K:Pq→Nat→Nq→Option R'),eS 2 s K=K a' l[k].past.length c')∧RTags ro h [.sl 2 a' l[k].past.length c'] l[k].past G∧(∀ b∈G,b∈F):=by
 obtain ⟨o,row,G,h1,h2,hv,hG,_⟩:=hs.read hk;obtain ⟨s,a',c',rfl,es,hp⟩:=hv.form;exact ⟨o,s,a',c',G,h1,by rw[h2];rfl,es,hp,hG⟩
theorem RVss.get {l:List (List Ver)} (hs:RVss ro h [.sl 1 a n c] l F) (hk:k<l.length):∃ o s a' c' G,a=some o∧ld h o.1 (o.2+k) 0 1=some [s] ∧
  (∀ {R':Type} (K:Pq→Nat→Nq→Option R'),eS 6 s K=K a' l[k].length c')∧RVers ro h [.sl 6 a' l[k].length c'] l[k] G∧(∀ b∈G,b∈F):=by
 obtain ⟨o,row,G,h1,h2,hv,hG,_⟩:=hs.read hk;have:∃ s,row = [s]:=by obtain ⟨R',a',c',e,_⟩:=hv;exact ⟨_,e⟩
 obtain ⟨s,rfl⟩:=this;obtain ⟨a',c',es,hp⟩:=hv.form;exact ⟨o,s,a',c',G,h1,by rw[h2];rfl,es,hp,hG⟩
theorem RNode.form {row:List V}{x:Node} (hv:RNode ro h row x F):∃ s1 s2 a1 c1 a2 c2 F1 F2,row = [s1,s2]∧F=F1++F2 ∧
  (∀ {R':Type} (K:Pq→Nat→Nq→Option R'),eS 6 s1 K=K a1 x.store.length c1)∧(∀ {R':Type} (K:Pq→Nat→Nq→Option R'),eS 6 s2 K=K a2 x.wait.length c2) ∧
  RVers ro h [.sl 6 a1 x.store.length c1] x.store F1∧RVers ro h [.sl 6 a2 x.wait.length c2] x.wait F2:=by
 obtain ⟨s1,s2,F1,F2,rfl,rfl,h1,h2⟩:=hv;obtain ⟨a1,c1,e1,g1⟩:=h1.form;obtain ⟨a2,c2,e2,g2⟩:=h2.form;exact ⟨s1,s2,a1,c1,a2,c2,F1,F2,rfl,rfl,e1,e2,g1,g2⟩
theorem RNodes.get {l:List Node} (hs:RNodes ro h [.sl 2 a n c] l F) (hk:k<l.length):∃ o s1 s2 a1 c1 a2 c2 F1 F2,a=some o∧ld h o.1 (o.2+k) 0 2=some [s1,s2]∧ld h o.1 (o.2+k) 0 1=some [s1]∧ld h o.1 (o.2+k) 1 1=some [s2] ∧
  (∀ {R':Type} (K:Pq→Nat→Nq→Option R'),eS 6 s1 K=K a1 l[k].store.length c1)∧(∀ {R':Type} (K:Pq→Nat→Nq→Option R'),eS 6 s2 K=K a2 l[k].wait.length c2) ∧
  RVers ro h [.sl 6 a1 l[k].store.length c1] l[k].store F1∧RVers ro h [.sl 6 a2 l[k].wait.length c2] l[k].wait F2∧(∀ b∈F1,b∈F)∧(∀ b∈F2,b∈F):=by
 obtain ⟨o,row,G,h1,h2,hv,hG,_⟩:=hs.read hk;obtain ⟨s1,s2,a1,c1,a2,c2,F1,F2,rfl,rfl,e1,e2,g1,g2⟩:=hv.form;exact ⟨o,s1,s2,a1,c1,a2,c2,F1,F2,h1,by rw[h2];rfl,by rw[h2];rfl,by rw[h2];rfl,e1,e2,g1,g2,fun b hb=>hG b (zcf _ hb),fun b hb=>hG b (zci _ hb)⟩
theorem RPlace.form {row:List V}{p:Place} (hv:RPlace ro h row p F):∃ s1 s2 s3 a1 c1 a2 c2 a3 c3 F1 F2 F3,row = [Iv p.me,Iv p.clock,s1,s2,s3,.bool p.fell]∧F=F1++(F2++F3) ∧
  (∀ {R':Type} (K:Pq→Nat→Nq→Option R'),eS 2 s1 K=K a1 p.chain.length c1)∧(∀ {R':Type} (K:Pq→Nat→Nq→Option R'),eS 6 s2 K=K a2 p.log.length c2) ∧
  (∀ {R':Type} (K:Pq→Nat→Nq→Option R'),eS 1 s3 K=K a3 p.got.length c3) ∧
  RNodes ro h [.sl 2 a1 p.chain.length c1] p.chain F1∧RVers ro h [.sl 6 a2 p.log.length c2] p.log F2∧RVss ro h [.sl 1 a3 p.got.length c3] p.got F3:=by
 obtain ⟨s1,s2,s3,F1,F2,F3,rfl,rfl,h1,h2,h3⟩:=hv;obtain ⟨a1,c1,e1,g1⟩:=h1.form;obtain ⟨a2,c2,e2,g2⟩:=h2.form;obtain ⟨a3,c3,e3,g3⟩:=h3.form;exact ⟨s1,s2,s3,a1,c1,a2,c2,a3,c3,F1,F2,F3,rfl,rfl,e1,e2,e3,g1,g2,g3⟩
end
theorem CQ {α T:Type}{p:α→Bool}{l:List α} (L:Nat→Option T) (no yes:Option T)
  (step:∀ i (hi:i<l.length),L i=if p l[i]=true then L (i+1) else no) (done:L l.length=yes):L 0=if l.all p=true then yes else no:=by
 have loop:∀ m i,m+i=l.length→L i=if (l.drop i).all p=true then yes else no:=by
  intro m;induction m with
  | zero =>
   intro i hi;have:i=l.length:=by omega
   subst this;rw[done,List.drop_length];simp
  | succ m ih =>
   intro i hi;have hlt:i<l.length:=by omega
   rw[step i hlt,zca hlt,List.all_cons];cases hp:p l[i]
   ·simp
   ·simpa using ih (i+1) (by omega)
 exact loop l.length 0 (by omega)


section
variable {lo:Nat}{ro:Bool}{h:Heap}{F:List Nat}{a:Pq}{c:Nq}{left:Int}
end
def Cy (l:List Ver):Prop:=l.length≤1048576∧∀ v∈l,v.past.length≤1048576∧v.text.size≤1048576
def zbo (l:List (List Ver)):Prop:=l.length≤1048576∧∀ v∈l,Cy v
def Ci (l:List Node):Prop:=l.length≤1048576∧∀ x∈l,Cy x.store∧Cy x.wait
def CT (p:Place):Prop:=Ci p.chain∧Cy p.log∧zbo p.got
section
variable {lo:Nat}{ro:Bool}{h:Heap}{F:List Nat}{a:Pq}{c:Nq}
abbrev Place.cs (p:Place) (a1:Pq) (c1:Nq) (a2:Pq) (c2:Nq) (a3:Pq) (c3:Nq):List V :=
 [Iv p.me,Iv p.clock,.sl 2 a1 p.chain.length c1,.sl 6 a2 p.log.length c2,.sl 1 a3 p.got.length c3,.bool p.fell]
end


theorem Hp {T:Type}{n:Nat} (L:Nat→Option T) (step:∀ i,i<n→L i=L (i+1)):L 0=L n:=by
 have loop:∀ i,i≤n→L 0=L i:=by
  intro i;induction i with
  | zero=>intro _;rfl
  | succ i ih=>intro hi;rw[ih (by omega),step i (by omega)]
 exact loop n (zbR n)
section
variable {lo:Nat}{ro ro':Bool}{h:Heap}{F F':List Nat}{a a':Pq}{c c':Nq}
theorem MO (x:Int):(x==x)=true:=by simp
theorem zby (x:Bool):(x==x)=true:=by simp
theorem zbG (x:List UInt8):(x==x)=true:=by simp
abbrev Frame.cs (f:Frame) (a:Pq) (c:Nq):List V := Iv f.fro :: Iv f.to :: Iv f.at' :: f.ver.cs a c
end
def zbr {α:Type} (f:Int→α→α) (w:α→Nat):List α→Int→List α
 | [],_ => []
 | x :: r,k=>f k x :: zbr f w r (k+w x)
def Y0 {α:Type} (w:α→Nat) (l:List α):Nat:=(l.map w).sum


abbrev zbK:Int:=1099511627776
abbrev ZS (_:Tag):Nat:=2
def zaR (v:Ver):Nat:=5+Y0 ZS v.past
def Ub (l:List Ver):Nat:=Y0 zaR l
def Yx (x:Node):Nat:=Ub x.store+Ub x.wait
section
variable {lo:Nat}{h:Heap}{F:List Nat}{a:Pq}{c:Nq}{k:Int}
def zbl (l:List (List Ver)):Nat:=Y0 Ub l
def Yw (l:List Node):Nat:=Y0 Yx l
end


section
variable {lo:Nat}{h:Heap}{F:List Nat}{a:Pq}{c:Nq}{k:Int}
def Yv (p:Place):Nat:=Yw p.chain+Ub p.log+zbl p.got
theorem RPlace.cells {ro:Bool}{p:Place}{a1 a2 a3:Pq}{c1 c2 c3:Nq} (h1:RPlace ro h (p.cs a1 c1 a2 c2 a3 c3) p F) :
  ∃ F1 F2 F3,F=F1++(F2++F3)∧RNodes ro h [.sl 2 a1 p.chain.length c1] p.chain F1∧RVers ro h [.sl 6 a2 p.log.length c2] p.log F2∧RVss ro h [.sl 1 a3 p.got.length c3] p.got F3:=by
 obtain ⟨_,_,_,F1,F2,F3,e1,rfl,r1,r2,r3⟩:=h1;injection e1 with _ e1;injection e1 with _ e1;injection e1 with x1 e1;injection e1 with x2 e1;injection e1 with x3 e1;subst x1;subst x2;subst x3;exact ⟨F1,F2,F3,rfl,r1,r2,r3⟩
end


variable {s:ByteArray}{l:List Tag}{v:Ver}{p q:List Tag}
def LG (b:UInt8):Bool:=Al b.toNat 33 126
def DY (s:ByteArray):Bool:=s.data.toList.all LG&&decide ((s.size:Int)≤8)
def Bg (p:List Tag):Bool:=decide (p.length=4)&&p.all fun t=>A2 t.time t.place
def Ca (p q:List Tag):Bool:=(p.zip q).all fun x => !HF x.2.time x.2.place x.1.time x.1.place
def EI (p:List Tag):Int:=p.foldl (fun m t=>if t.time>m then t.time else m) 0
def Ej (s:ByteArray):Bool:=decide (s.size=0)
def Hl (v:Ver):Bool:=Al v.key 0 3&&DY v.text&&(!v.gone || Ej v.text)&&Bg v.past
def A3 (v:Ver):Bool:=Hl v&&A2 v.tag.time v.tag.place&&decide (EI v.past<v.tag.time)
section
variable {lo:Nat}{ro ro':Bool}{h:Heap}{F F':List Nat}{a a':Pq}{c c':Nq}
theorem R5 {i:Nat} (hi:i<s.data.toList.length):Oc s (i:Nat)=some (s.data.toList[i]):=by
 unfold Oc;have:i<s.size:=by simpa using hi
 simp[this];rfl
theorem Lf (hn:s.size≤1048576):Ae lo 111 [.str s] h=some (.bool (DY s),h):=by
 refine OW (h':=h) ?_;have hl:s.data.toList.length=s.size:=by simp
 refine (CQ (p:=LG) (l:=s.data.toList) (fun i=>Cq (List.length h) s false (i:Nat) h) (some (.bool false,h)) (some (.bool (decide ((s.size:Int)≤8)),h)) (fun i hi=>?_) ?_).trans ?_
 ·rw[Cq.e,Ak (by omega)];simp only[R5 hi,Af,Am (show i<9223372036854775807 by omega)];unfold LG Al;generalize s.data.toList[i]=b;by_cases h1:(b.toNat:Int)<33
  ·rw[Ak h1,if_neg (by simp;omega)]
  ·rw[Ai h1];by_cases h2:(b.toNat:Int)>126
   ·rw[Ak h2,if_neg (by simp;omega)]
   ·rw[Ai h2,if_pos (by simp;omega)]
 ·rw[Cq.e,Ai (by omega)];by_cases h3:(s.size:Int)≤8
  ·rw[Ak h3,decide_eq_true h3]
  ·rw[Ai h3,decide_eq_false h3]
 ·unfold DY;cases s.data.toList.all LG<;>simp
theorem UR (hn:s.size≤1048576):Ae lo 269 [.str s] h=some (.bool (DY s),h):=by
 refine RS (h':=h) ?_;have hl:s.data.toList.length=s.size:=by simp
 refine (CQ (p:=LG) (l:=s.data.toList) (fun i=>Db (List.length h) s false (s.size:Nat) (i:Nat) h) (some (.bool false,h)) (some (.bool (decide ((s.size:Int)≤8)),h)) (fun i hi=>?_) ?_).trans ?_
 ·have hb:s.data.toList[i].toNat<256:=s.data.toList[i].toNat_lt;rw[Db.e,Ak (by omega)];simp only[R5 hi,Af,Am (show i<9223372036854775807 by omega),DB,Ac,Av];rw[wr (by omega) (by omega)];unfold LG;cases Al (s.data.toList[i].toNat:Int) 33 126<;>simp
 ·rw[Db.e,Ai (by omega)];by_cases h3:(s.size:Int)≤8
  ·rw[Ak h3,decide_eq_true h3]
  ·rw[Ai h3,decide_eq_false h3]
 ·unfold DY;cases s.data.toList.all LG<;>simp
theorem Re (hs:RTags ro h [.sl 2 a l.length c] l F) (hn:l.length≤1048576):Ae lo 112 [.agg [.sl 2 a l.length c]] h=some (.bool (Bg l),h):=by
 refine O4 (h':=h) ?_;refine (CQ (p:=fun t:Tag=>A2 t.time t.place) (l:=l) (fun i=>Ct (List.length h) false (i:Nat) a l.length c h) (some (.bool false,h)) (some (.bool (decide (l.length=4)),h)) (fun i hi=>?_) ?_).trans ?_
 ·obtain ⟨o,rfl,ho⟩:=hs.get hi;rw[Ct.e,Ak (by omega),Ad hi];simp only[Af,A7,ho,Ab,Aa,Ag,Md,Ac,Av,Am (show i<9223372036854775807 by omega)];cases A2 l[i].time l[i].place<;>simp
 ·rw[Ct.e,Ai (by omega)];by_cases h3:l.length=4
  ·rw[h3];rfl
  ·rw[show ((l.length:Int)==4)=false by simp;omega,Au,decide_eq_false h3]
 ·unfold Bg;cases l.all (fun t:Tag=>A2 t.time t.place)<;>simp
theorem Rn {g:Nat}{cl:List V}{p:Tag→Bool} (hs:RTags ro h [.sl 2 a l.length c] l F) (hn:l.length≤1048576)
  (hp:∀ lo d,d∈l→Ae lo g (Dh [.agg [Iv d.time,Iv d.place]] cl) h=some (.bool (p d),h)) :
  Ae lo 267 [.sl 2 a l.length c,.fn g cl] h=some (Iv (Cm p l 0),h):=by
 have loop:∀ m k x,m+k=l.length→AE (List.length h) a l.length c g cl x (l.length:Nat) (k:Nat) h=some (Iv (Cm p (l.drop k) k),h):=by
  intro m;induction m with
  | zero =>intro k x hk;rw[AE.e,Ai (by omega),show k=l.length by omega];simp[Cm]
  | succ m ih =>
   intro k x hk;have hlt:k<l.length:=by omega
   obtain ⟨o,rfl,ho⟩:=hs.get hlt;rw[AE.e,Ak (by omega),Ad (by omega)];simp only[Af,A7,ho,Ab,Aa,Ag];rw[hp (List.length h) l[k] (by simp),Ac,Av,zca hlt];simp only[Cm];cases p l[k]
   ·simp only[Au,cond_false];rw[Am (by omega)];exact ih (k+1) _ (by omega)
   ·simp
 refine E4 (h':=h) ?_;simpa using loop l.length 0 0 (by omega)
theorem Kr (hs:RTags ro h [.sl 2 a l.length c] l F) (hn:l.length≤1048576):Ae lo 99 [.agg [.sl 2 a l.length c]] h=some (.bool (Bg l),h):=by
 refine RU (h':=h) ?_;rw[Ev (h':=h) (v := .bool (l.any fun t => !A2 t.time t.place)) (by
  rw[Rn hs hn (p:=fun t => !A2 t.time t.place) (fun lo d _=>Pa (h':=h) (by rw[Qj];simp only[Ac,Av];cases A2 d.time d.place<;>rfl))];simp only[Ac,Aa,Po];rw[IU];simp)]
 unfold Bg;by_cases h3:l.length=4
 ·rw[show ((l.length:Int)==4)=true by simp;omega,An,decide_eq_true h3];simp only[Ac,Av];rw[List.any_eq_not_all_not];simp only[Bool.not_not,zb8];cases l.all (fun t:Tag=>A2 t.time t.place)<;>rfl
 ·rw[show ((l.length:Int)==4)=false by simp;omega,Au,decide_eq_false h3];rfl
theorem UU (hs:RTags ro h [.sl 2 a l.length c] l F) (hn:l.length≤1048576):Ae lo 202 [.agg [.sl 2 a l.length c]] h=some (Iv (EI l),h):=by
 have loop:∀ m k x,m+k=l.length→BM (List.length h) x a l.length c (l.length:Nat) (k:Nat) h=some (Iv ((l.drop k).foldl (fun m t=>if t.time>m then t.time else m) x),h):=by
  intro m;induction m with
  | zero =>intro k x hk;rw[BM.e,Ai (by omega),show k=l.length by omega];simp
  | succ m ih =>
   intro k x hk;have hlt:k<l.length:=by omega
   obtain ⟨o,rfl,ho⟩:=hs.get hlt;rw[BM.e,Ak (by omega),Ad (by omega)];simp only[Af,A7,ho,Ab,Aa,Ag,Am (show k<9223372036854775807 by omega)];rw[ih (k+1) _ (by omega),zca hlt,zcA]
 refine LW (h':=h) ?_;exact loop l.length 0 0 (by omega)
theorem Ie:(s.toList==(ByteArray.mk #[]).toList)=Ej s:=by
 unfold Ej;rw[zcX];rw[zc9,zc9];simp only[beq_iff_eq,decide_eq_true_eq];constructor
 ·intro h;have:=congrArg List.length h;simpa using this
 ·intro h;exact zbY (by simpa using h)
theorem Td (hs:RTags ro h [.sl 2 a v.past.length c] v.past F) (hn:v.past.length≤1048576∧v.text.size≤1048576):Ae lo 200 [.agg (v.cs a c)] h=some (.bool (Hl v),h):=by refine LS (h':=h) ?_;simp only[Qh,UR hn.2,Kr hs hn.1,Ie,Ac,Av];unfold Hl;cases Al v.key 0 3<;>cases DY v.text<;>cases v.gone<;>cases Ej v.text<;>cases Bg v.past<;>rfl
theorem Ly (hs:RTags ro h [.sl 2 a v.past.length c] v.past F) (hn:v.past.length≤1048576∧v.text.size≤1048576):Ae lo 157 [.agg (v.cs a c)] h=some (.bool (A3 v),h):=by
 refine T2 (h':=h) ?_;simp only[Td hs hn,Qj,UU hs hn.1,Ac,Av,Aa];unfold A3;by_cases hl:EI v.past<v.tag.time
 ·rw[Ak hl,decide_eq_true hl];cases Hl v<;>cases A2 v.tag.time v.tag.place<;>rfl
 ·rw[Ai hl,decide_eq_false hl];cases Hl v<;>cases A2 v.tag.time v.tag.place<;>rfl
theorem Qo {x:Int}:∀ {l:List Tag}{m:Int},l.foldl (fun m t=>if t.time>m then t.time else m) m<x↔m<x∧∀ t∈l,t.time<x
 | [],m=>by simp
 | t :: l,m=>by
  rw[zcA,Qo];simp only[zb0,forall_eq_or_imp];constructor
  ·rintro ⟨h1,h2⟩
   refine ⟨?_,?_,h2⟩<;>(split at h1<;>omega)
  ·rintro ⟨h1,h2,h3⟩
   refine ⟨?_,h3⟩;split<;>omega
theorem latest_lt {x:Int}:EI p<x↔0<x∧∀ t∈p,t.time<x:=Qo
theorem DF {t p:Int} (h:A2 t p=true):0≤t∧t≤999∧0≤p∧p≤2:=by simp[A2,Al] at h;omega
theorem BK (h:Bg p=true):p.length=4:=by simp only[Bg,Dm,decide_eq_true_eq] at h;exact h.1
theorem Nr (hs:RTags ro h [.sl 2 a v.past.length c] v.past F) (hn:v.past.length≤1048576∧v.text.size≤1048576):Ae lo 83 [.agg (v.cs a c)] h=some (.bool (A3 v),h):=by
 refine Vu (h':=h) ?_;have loop:∀ x b,Bg v.past=true→CN (List.length h) x 0 v.key v.tag.time v.tag.place a v.past.length c v.text b h=some (.bool (v.past.all fun t=>decide (t.time<v.tag.time)),h):=by
  intro x b hp;have h4:=BK hp;refine (CQ (p:=fun t:Tag=>decide (t.time<v.tag.time)) (l:=v.past) (fun i=>CN (List.length h) x (i:Nat) v.key v.tag.time v.tag.place a v.past.length c v.text b h) (some (.bool false,h)) (some (.bool true,h)) (fun i hi=>?_) ?_).trans ?_
  ·obtain ⟨o,row,G,rfl,ho,⟨rfl,_⟩,_⟩:=hs.read hi;rw[CN.e,Ak (by omega),Ad hi];simp only[Af,A7,ho,Tag.cs,cut,Ab,Aa,Ag,Am (show i<9223372036854775807 by omega)];by_cases ht:v.past[i].time<v.tag.time
   ·rw[Ai (by omega),if_pos (by simpa using ht)]
   ·rw[Ak (by omega),if_neg (by simpa using ht)]
  ·rw[CN.e,Ai (by omega)]
  ·cases v.past.all fun t:Tag=>decide (t.time<v.tag.time)<;>rfl
 have key:∀ x:Bool,(A2 v.tag.time v.tag.place&&x&&decide (EI v.past<v.tag.time))=(A2 v.tag.time v.tag.place && !(v.tag.time==0)&&x&&(v.past.all fun t=>decide (t.time<v.tag.time))):=by
  intro x;cases ht:A2 v.tag.time v.tag.place with
  | false=>simp
  | true =>
   have:=DF ht;have e:decide (EI v.past<v.tag.time)=(!(v.tag.time==0)&&(v.past.all fun t=>decide (t.time<v.tag.time))):=by
    rw[zcX];simp only[decide_eq_true_eq,latest_lt,Dm,zb2,zcy,beq_eq_false_iff_ne];constructor
    ·rintro ⟨h1,h2⟩;exact ⟨by omega,h2⟩
    ·rintro ⟨h1,h2⟩;exact ⟨by omega,h2⟩
   rw[e];cases x<;>cases (v.tag.time==0)<;>simp
 have e2:A3 v=(Al v.key 0 3&&DY v.text&&(!v.gone || Ej v.text)&&(A2 v.tag.time v.tag.place&&Bg v.past&&decide (EI v.past<v.tag.time))):=by unfold A3 Hl;cases Al v.key 0 3<;>cases DY v.text<;>cases v.gone<;>cases Ej v.text<;>cases Bg v.past<;>cases A2 v.tag.time v.tag.place<;>simp
 rw[e2,key];simp only[By,Lf hn.2,Md,Re hs hn.1,Ie,Ac,Av];cases hp:Bg v.past with
 | true =>simp only[loop _ _ hp];cases Al v.key 0 3<;>cases DY v.text<;>cases v.gone<;>cases Ej v.text<;>cases A2 v.tag.time v.tag.place<;>cases (v.tag.time==0)<;>rfl
 | false =>cases Al v.key 0 3<;>cases DY v.text<;>cases v.gone<;>cases Ej v.text<;>cases A2 v.tag.time v.tag.place<;>cases (v.tag.time==0)<;>rfl
theorem Pw {T:Type} (L:Nat→Option T) (no yes:Option T) (hl:p.length≤q.length)
  (step:∀ i (hi:i<p.length),L i=if HF q[i].time q[i].place p[i].time p[i].place=true then no else L (i+1)) (done:L p.length=yes):L 0=if Ca p q=true then yes else no:=by
 have hz:(p.zip q).length=p.length:=by simp;omega
 refine CQ (l:=p.zip q) L no yes (fun i hi=>?_) (by rw[hz];exact done);rw[step i (by omega)];simp only[zdo];cases HF q[i].time q[i].place p[i].time p[i].place<;>simp
theorem Qe (hs:RTags ro h [.sl 2 a p.length c] p F) (hs':RTags ro' h [.sl 2 a' q.length c'] q F') (hn:p.length≤1048576) (hl:p.length≤q.length) :
  Ae lo 92 [.agg [.sl 2 a p.length c],.agg [.sl 2 a' q.length c']] h=some (.bool (Ca p q),h):=by
 refine MZ (h':=h) ?_;refine (Pw (p:=p) (q:=q) (fun i=>BW (List.length h) false a p.length c (p.length:Nat) (i:Nat) a' q.length c' h) (some (.bool false,h)) (some (.bool true,h)) hl (fun i hi=>?_) ?_).trans ?_
 ·obtain ⟨o,rfl,ho⟩:=hs.get hi;obtain ⟨o',rfl,ho'⟩:=hs'.get (show i<q.length by omega);rw[BW.e,Ak (by omega),Ad hi];simp only[Af,A7,ho,ho',Ab,Aa,Ag,Ad (show i<q.length by omega),HV,Ac,Av,Am (show i<9223372036854775807 by omega)];cases HF q[i].time q[i].place p[i].time p[i].place<;>simp
 ·rw[BW.e,Ai (by omega)]
 ·cases Ca p q<;>rfl
theorem E5 (hs:RTags ro h [.sl 2 a p.length c] p F) (hs':RTags ro' h [.sl 2 a' q.length c'] q F') (hp:p.length=4) (hq:q.length=4) :
  Ae lo 192 [.agg [.sl 2 a p.length c],.agg [.sl 2 a' q.length c']] h=some (.bool (Ca p q),h):=by
 refine O3 (h':=h) ?_;refine (Pw (p:=p) (q:=q) (fun i=>Cs (List.length h) false (i:Nat) a p.length c a' q.length c' h) (some (.bool false,h)) (some (.bool true,h)) (by omega) (fun i hi=>?_) ?_).trans ?_
 ·obtain ⟨o,rfl,ho⟩:=hs.get hi;obtain ⟨o',rfl,ho'⟩:=hs'.get (show i<q.length by omega);rw[Cs.e,Ak (by omega),Ad (show i<q.length by omega)];simp only[Af,A7,ho,ho',Ab,Aa,Ag,Ad hi,BI,Ac,Av,Am (show i<9223372036854775807 by omega)];cases HF q[i].time q[i].place p[i].time p[i].place<;>simp
 ·rw[Cs.e,Ai (by omega)]
 ·cases Ca p q<;>rfl
end


variable {l:List Tag}{α:Type}{El:Rel α}
section
variable {lo:Nat}{ro ro':Bool}{h:Heap}{F F':List Nat}{a a':Pq}{c c':Nq}
theorem Sli.rows {α:Type}{El:Rel α}{R e:Nat}{l:List α} (hs:Sli false R e El h [.sl R a l.length c] l F) :
  ∃ rows Fs,(∀ {T:Type} (K:List (List V)→Option T),At R h (.sl R a l.length c) K=K rows)∧EAll El h rows l Fs∧∀ b∈Fs.flatten,b∈F:=by
 obtain ⟨R1,a1,c1,e1,g⟩:=hs;injection e1 with e1 _;injection e1 with e0 e2 _ e3;subst e2;subst e3;cases a with
 | none =>obtain ⟨rfl,_,_⟩:=g;exact ⟨[],[],fun K=>rfl,trivial,by simp⟩
 | some p =>
  obtain ⟨b,i⟩:=p;obtain ⟨_,rs,Fs,g1,g2,g3,g4,g5,rfl⟩:=g;refine ⟨_,Fs,fun K=>?_,g5,fun b hb=>zcz _ hb⟩;simp only[At,Iz,Do];cases hl:l.length with
  | zero=>simp
  | succ n =>rw[hl] at g2;simp only[D1,Heap.rows?,g1,zcr,Dy g2,Af]
theorem RTags.rows {l:List Tag} (hs:RTags false h [.sl 2 a l.length c] l F) {T:Type} (K:List (List V)→Option T):At 2 h (.sl 2 a l.length c) K=K (l.map Tag.cs):=by obtain ⟨rows,Fs,h1,h2,_⟩:=Sli.rows hs;rw[h1,h2.of_flat.1]
theorem Sli.fresh {R e n:Nat}{rs:List (List V)} (hn:n≤rs.length):Sli false R e El (h ++ [.rows R e false rs]) [.sl R (some (h.length,0)) 0 (some n)] [] [h.length] :=
 ⟨R,some (h.length,0),some n,rfl,rfl,rs,[],by simp,by simp,fun k hk=>by injection hk with hk;subst hk;simpa using hn,fun h=>(by cases h),by simp[EAll],by simp⟩
theorem Qp:(l.map fun _=>([]:List Nat)).flatten = []:=by induction l<;>simp_all
theorem Jq (hl:lo≤h.length) (hn:l.length≤1048576):∃ a' c' h' F',(∀ {T:Type} (K:V→Heap→Option T),CS lo 29 2 16 (.sl 2 (some (h.length,0)) 0 (some 0)) (l.map Tag.cs) (h ++ [.rows 2 29 false []]) K=K (.sl 2 a' l.length c') h') ∧
  RTags false h' [.sl 2 a' l.length c'] l F'∧Mv h [] h' F':=by
 have h0:RTags false (h ++ [.rows 2 (zbu false) false []]) [.sl 2 (some (h.length,0)) 0 (some 0)] [] [h.length]:=Sli.fresh (zbR _);by_cases he:l = []
 ·subst he;exact ⟨some (h.length,0),some 0,_,_,fun K=>rfl,h0,Mv.last⟩
 ·obtain ⟨a',c',h',F',p1,p2,p3,p4,p5,p6⟩:=Sli.push (lo:=lo) (bytes:=16) W6 h0 (xs:=l.map Tag.cs) (ys:=l) (Gs:=l.map fun _ => []) EAll.flat (by decide) (by simp;omega) (by simp;omega) (by simp;omega) (by rw[Qp];simp) (by rw[Qp];simp) he;simp only[zc2,zcl,zco] at p1 p2;refine ⟨a',c',h',F',p1,p2,by simp at p3;omega,fun b hb _=>?_,p6,fun b hb=>?_⟩
  ·rw[p4 b (by simp;omega) (by simp;omega),zbS hb]
  ·simp at p3;rcases p5 b hb with h1 | h1
   ·rw[Qp] at h1;simp at h1;exact .inr (by omega)
   ·simp at h1;exact .inr (by omega)
theorem CO {v:Ver} (hs:RTags false h [.sl 2 a v.past.length c] v.past F) (hl:lo≤h.length) (hn:v.past.length≤1048576) :
  ∃ a' c' h' F',Ae lo 164 [.agg (v.cs a c)] h=some (.agg (v.cs a' c'),h')∧RTags false h' [.sl 2 a' v.past.length c'] v.past F'∧Mv h [] h' F':=by
 obtain ⟨a',c',h',F',e,r⟩:=Jq (l:=v.past) hl hn;refine ⟨a',c',h',F',RI ?_,r⟩;rw[RTags.rows (Mv.snoc.keep0 rtags_ok hs),e,Ah]
theorem Wg (hs:RTags false h [.sl 2 a l.length c] l F) (hl:lo≤h.length) (hn:l.length≤1048576) :
  ∃ v h' F',Ae lo 293 [.sl 2 a l.length c] h=some (v,h')∧RTags false h' [v] l F'∧Mv h [] h' F':=by
 cases a with
 | none =>obtain ⟨R1,a1,c1,e1,g⟩:=hs;injection e1 with e1 _;injection e1 with e0 e2 _ e3;subst e2;subst e3;obtain ⟨rfl,_,_⟩:=g;exact ⟨_,h,[],DE (by rw[show (none:Pq).isNone=true from rfl,An]),Sli.nil,Mv.nil⟩
 | some p =>obtain ⟨a',c',h',F',e,r⟩:=Jq (l:=l) hl hn;refine ⟨_,h',F',DE ?_,r⟩;rw[show (some p).isNone=false from rfl,Au,RTags.rows (Mv.snoc.keep0 rtags_ok hs),e,Ah]
theorem NE (hs:RTags false h [.sl 2 a l.length c] l F) (hl:lo≤h.length) (hn:l.length≤1048576) :
  ∃ a' c' h' F',Ae lo 229 [.agg [.sl 2 a l.length c]] h=some (.agg [.sl 2 a' l.length c'],h')∧RTags false h' [.sl 2 a' l.length c'] l F'∧Mv h [] h' F':=by
 obtain ⟨v,h',F',e,r,m⟩:=Wg hs hl hn;obtain ⟨a',c',es,r2⟩:=r.form;refine ⟨a',_,h',F',LX ?_,r2.clip,m⟩;rw[e];simp only[Ac,es];rw[GF (r:=(.sl 2 a' l.length (some l.length),h')) (by rw[JF r2])];simp only[Ac,Ah]
theorem CV {v:Ver} (hs:RTags false h [.sl 2 a v.past.length c] v.past F) (hl:lo≤h.length) (hn:v.past.length≤1048576) :
  ∃ a' c' h' F',Ae lo 161 [.agg (v.cs a c)] h=some (.agg (v.cs a' c'),h')∧RTags false h' [.sl 2 a' v.past.length c'] v.past F'∧Mv h [] h' F':=by
 obtain ⟨a',c',h',F',e,r⟩:=NE hs hl hn;refine ⟨a',c',h',F',MV ?_,r⟩;rw[e];simp only[Ac,AC,Ab,Ah,Ag]
theorem NP {l:List Ver}{e0:Pq}{h0:Heap}{n0:Nq}{F0:List Nat}{T:Type} (L:Nat→Pq→Nat→Nq→Heap→Option T) (hs:RVers false h [.sl 6 a l.length c] l F) (hl:lo≤h.length) (hn:Cy l)
  (m0:Mv h [] h0 F0) (h1:RVers false h0 [.sl 6 e0 0 n0] [] F0)
  (step:∀ i (hi:i<l.length) s a2 c2 a1 n1 c1 hh,(i=0→a1=e0∧c1=n0)→(∀ o,a=some o→ld hh o.1 (o.2+i) 0 6=some [Iv l[i].key,Iv l[i].tag.time,Iv l[i].tag.place,s,.str l[i].text,.bool l[i].gone])→(∃ o,a=some o) →
   (∀ {R':Type} (K:Pq→Nat→Nq→Option R'),eS 2 s K=K a2 l[i].past.length c2)→(∃ G,RTags false hh [.sl 2 a2 l[i].past.length c2] l[i].past G)→lo≤hh.length →
   ∃ a3 c3 h3 F3,RTags false h3 [.sl 2 a3 l[i].past.length c3] l[i].past F3∧Mv hh [] h3 F3 ∧
    L i a1 n1 c1 hh=CS lo 34 6 72 (.sl 6 a1 n1 c1) [l[i].cs a3 c3] (h3 ++ [.rows 6 34 false [l[i].cs a3 c3]]) fun v h=>eS 6 v fun a n c=>L (i+1) a n c h) :
  ∃ a' c' h' F',L 0 e0 0 n0 h0=L l.length a' l.length c' h'∧RVers false h' [.sl 6 a' l.length c'] l F'∧Mv h [] h' F':=by
 have hn1:=hn.1;obtain ⟨a',c',h',F',e,r,m⟩:=LH (El:=RVer false) rver_ok (h0:=h0) (l:=l) (g:=fun _ v=>some (id v)) (lo:=lo) (R:=6) (e:=MF false) (bytes:=72) (b0 := []) (F0:=F0) (a0:=e0) (c0:=n0)
  (zbN hl m0.le) (m0.ge hl (by simp)) m0.nd (by decide) (by simp;omega) L (fun i hi a1 c1 hh F1 acc hz hacc hm hr=>by
   have hm':Mv h [] hh []:=(m0.trans hm).drop;obtain ⟨o,s,a2,c2,G,ho,hld,es,hp,_⟩:=(hm'.keep0 rvers_ok hs).get hi;obtain ⟨a3,c3,h3,F3,r3,m3,e3⟩:=step i hi s a2 c2 a1 acc.length c1 hh hz (fun o' ho'=>by rw[ho] at ho';injection ho' with ho';subst ho';exact hld) ⟨o,ho⟩ es ⟨G,hp⟩ (zbN hl hm'.le);exact .inr ⟨l[i],l[i].cs a3 c3,F3,_,rfl,⟨_,rfl,Mv.snoc.keep0 rtags_ok r3⟩,m3.trans (Mv.snoc' m3.nd),e3⟩) h1
 rw[MC,List.map_id,zco] at e r;exact ⟨a',c',h',F',e,r,m0.trans m⟩
theorem HG {l:List Ver} (hs:RVers false h [.sl 6 a l.length c] l F) (hl:lo≤h.length) (hn:Cy l) :
  ∃ a' c' h' F',Ae lo 259 [.sl 6 a l.length c] h=some (.sl 6 a' l.length c',h')∧RVers false h' [.sl 6 a' l.length c'] l F'∧Mv h [] h' F':=by
 have hn1:=hn.1;obtain ⟨a',c',h',F',e,r,m⟩:=NP (e0:=some (h.length,0)) (n0:=some l.length) (h0:=h ++ [.rows 6 (MF false) false (List.replicate l.length [Iv 0,Iv 0,Iv 0,.sl 0 none 0 (some 0),.str ⟨⟨[]⟩⟩,.bool false])])
  (fun i a1 n1 c1 hh=>A5 lo a1 n1 c1 a l.length c (l.length:Nat) (i:Nat) hh) hs hl hn Mv.last (Sli.fresh (by simp)) (fun i hi s a2 c2 a1 n1 c1 hh hz hld ho es hp hlo=>by
   obtain ⟨o,rfl⟩:=ho;obtain ⟨G,hp⟩:=hp;obtain ⟨a3,c3,h3,F3,e3,r3,m3⟩:=CV (lo:=lo) (v:=l[i]) hp hlo (hn.2 _ (zbO hi)).1;refine ⟨a3,c3,h3,F3,r3,m3,?_⟩;rw[A5.e,Ak (by omega),Ad hi];simp only[Af,A7,hld o rfl,Ab,Aa,es,A8,Aw,Ag];rw[e3];simp only[Ac,AC,Ab,Aa,Ah,A8,Aw,Ag,AZ,Am (show i<9223372036854775807 by omega)])
 refine ⟨a',c',h',F',I0 ?_,r,m⟩;rw[Ff (by omega)];refine e.trans ?_;rw[A5.e,Ai (by omega)]
theorem Of {l:List Ver} (hs:RVers false h [.sl 6 a l.length c] l F) (hl:lo≤h.length) (hn:Cy l) :
  ∃ a' c' h' F',Ae lo 181 [.sl 6 a l.length c] h=some (.sl 6 a' l.length c',h')∧RVers false h' [.sl 6 a' l.length c'] l F'∧Mv h [] h' F':=by
 have hn1:=hn.1;obtain ⟨a',c',h',F',e,r,m⟩:=NP (e0:=some (h.length,0)) (n0:=some 0) (h0:=h ++ [.rows 6 (MF false) false []])
  (fun i a1 n1 c1 hh=>C0 lo a l.length c a1 n1 c1 (i:Nat) hh) hs hl hn Mv.last (Sli.fresh (by simp)) (fun i hi s a2 c2 a1 n1 c1 hh hz hld ho es hp hlo=>by
   obtain ⟨o,rfl⟩:=ho;obtain ⟨G,hp⟩:=hp;obtain ⟨a3,c3,h3,F3,e3,r3,m3⟩:=CO (lo:=lo) (v:=l[i]) hp hlo (hn.2 _ (zbO hi)).1;refine ⟨a3,c3,h3,F3,r3,m3,?_⟩;rw[C0.e,Ak (by omega),Ad hi];simp only[Af,A7,hld o rfl,Ab,Aa,es,A8,Aw,Ag];rw[e3];simp only[Ac,AC,Ab,Aa,Ah,A8,Aw,Ag,AZ,Am (show i<9223372036854775807 by omega)])
 refine ⟨a',c',h',F',Rs ?_,r,m⟩;refine e.trans ?_;rw[C0.e,Ai (by omega)]
theorem IQ {l:List Ver} (hs:RVers false h [.sl 6 a l.length c] l F) (hl:lo≤h.length) (hn:Cy l) :
  ∃ a' c' h' F',Ae lo 252 [.agg [.sl 6 a l.length c]] h=some (.agg [.sl 6 a' l.length c'],h')∧RVers false h' [.sl 6 a' l.length c'] l F'∧Mv h [] h' F':=by
 obtain ⟨a',c',h',F',e,r⟩:=HG hs hl hn;refine ⟨a',c',h',F',K5 ?_,r⟩;rw[e];simp only[Ac,Ah]
theorem GO {l:List Ver} (hs:RVers false h [.sl 6 a l.length c] l F) (hl:lo≤h.length) (hn:Cy l) :
  ∃ v h' F',Ae lo 254 [.agg [.sl 6 a l.length c]] h=some (.agg [v],h')∧RVers false h' [v] l F'∧Mv h [] h' F':=by
 have hn1:=hn.1;by_cases he:l = []
 ·subst he;exact ⟨_,h,[],IE (by rw[Bt.e,Ai (by simp)]),Sli.nil,Mv.nil⟩
 have hpos:0<l.length:=List.length_pos_iff.2 he;obtain ⟨a',c',h',F',e,r,m⟩:=NP (e0:=none) (n0:=some 0) (h0:=h)
  (fun i a1 n1 c1 hh=>Bt lo (i:Nat) a l.length c 0 none 0 (some 0) (if i=0 then 0 else 6) a1 n1 c1 hh) hs hl hn Mv.nil Sli.nil (fun i hi s a2 c2 a1 n1 c1 hh hz hld ho es hp hlo=>by
   obtain ⟨o,rfl⟩:=ho;obtain ⟨G,hp⟩:=hp;obtain ⟨a3,c3,h3,F3,e3,r3,m3⟩:=CO (lo:=lo) (v:=l[i]) hp hlo (hn.2 _ (zbO hi)).1;refine ⟨a3,c3,h3,F3,r3,m3,?_⟩;rw[Bt.e,Ak (by omega),Ad hi];simp only[Af,A7,hld o rfl,Ab,Aa,es,A8,Aw,Ag];rw[e3];simp only[Ac,AC,Ab,Aa,Ah,A8,Aw,Ag,AZ,Am (show i<9223372036854775807 by omega),if_neg (Nat.succ_ne_zero i)];by_cases h0:i=0
   ·obtain ⟨rfl,rfl⟩:=hz h0;rw[zaQ]
   ·rw[if_neg h0])
 refine ⟨_,h',F',IE ?_,r,m⟩;refine e.trans ?_;rw[if_neg (by omega),Bt.e,Ai (by omega)]
theorem Oj {l:List Node} (hs:RNodes false h [.sl 2 a l.length c] l F) (hl:lo≤h.length) (hn:Ci l) :
  ∃ v h' F',Ae lo 180 [.agg [.sl 2 a l.length c]] h=some (.agg [v],h')∧RNodes false h' [v] l F'∧Mv h [] h' F':=by
 have hn1:=hn.1;obtain ⟨q,a',c',h',F',e,r,m⟩:=Dp (El:=RNode false) rnode_ok (h:=h) (l:=l) (f:=id) (lo:=lo) (R:=2) (e:=45) (bytes:=48) hl (by decide) (by omega)
  (fun i q a1 n1 c1 hh=>C5 lo (i:Nat) a l.length c 0 none 0 (some 0) q a1 n1 c1 hh) (fun i hi q a1 n1 c1 hh hm=>by
   obtain ⟨o,s1,s2,b1,d1,b2,d2,G1,G2,ha,_,ho1,ho2,e1,e2,p1,p2,_⟩:=(hm.keep0 rnodes_ok hs).get hi;have hsm:=hn.2 _ (zbO hi);have hw1:=hsm.2.1;obtain ⟨v3,h3,F3,e3,r3,m3⟩:=GO (lo:=lo) p1 (zbN hl hm.le) hsm.1;obtain ⟨a3,c3,es3,r3'⟩:=r3.form;have p2':=m3.keep0 rvers_ok p2;obtain ⟨q4,a4,c4,h4,F4,e4,r4,m4⟩:=Dp (El:=RVer false) rver_ok (h:=h3) (l:=l[i].wait) (f:=id) (lo:=lo) (R:=6) (e:=34) (bytes:=72) (zbN hl (zbN hm.le m3.le)) (by decide) (by omega)
    (fun j q5 a5 n5 c5 hh=>C4 lo (i:Nat) (j:Nat) a l.length c 0 none 0 (some 0) q a1 n1 c1 a3 l[i].store.length c3 q5 a5 n5 c5 hh) (fun j hj q5 a5 n5 c5 hh2 hm2=>by
     obtain ⟨o',s1',s2',b1',d1',b2',d2',G1',G2',ha',_,_,ho2',_,e2',_,p2',_⟩:=(hm2.keep0 rnodes_ok (m3.keep0 rnodes_ok (hm.keep0 rnodes_ok hs))).get hi;obtain ⟨o'',s,b,d,G,hb,hld,es,hp,_⟩:=p2'.get hj;obtain ⟨a6,c6,h6,F6,e6,r6,m6⟩:=CO (lo:=lo) (v:=l[i].wait[j]) hp (zbN hl (zbN hm.le (zbN m3.le hm2.le))) (hsm.2.2 _ (zbO hj)).1;refine ⟨l[i].wait[j].cs a6 c6,F6,h6 ++ [.rows 6 34 false [l[i].wait[j].cs a6 c6]],⟨_,rfl,Mv.snoc.keep0 rtags_ok r6⟩,m6.trans (Mv.snoc' m6.nd),?_⟩;rw[C4.e,Ad hi,ha',Af];simp only[A7,ho2',Af,Ab,Ag,e2'];rw[Ak (by omega),Ad hi];simp only[hb,Ad hj,Af,A7,hld,Ab,Aa,es,A8,Aw,Ag];rw[e6];simp only[Ac,AC,Ab,Aa,Ah,A8,Aw,Ag,AZ,Am (show j<9223372036854775807 by omega)])
   rw[List.map_id] at r4;have m34:=m3.join m4 (rvers_ok.bd _ _ _ _ r3');obtain ⟨o',s1',s2',b1',d1',b2',d2',G1',G2',ha',_,_,ho2',_,e2',_,_,_⟩:=(m4.keep0 rnodes_ok (m3.keep0 rnodes_ok (hm.keep0 rnodes_ok hs))).get hi;refine ⟨[.sl 6 a3 l[i].store.length c3,.sl q4 a4 l[i].wait.length c4],F3++F4,h4 ++ [.rows 2 45 false [[.sl 6 a3 l[i].store.length c3,.sl q4 a4 l[i].wait.length c4]]],
    ⟨_,_,F3,F4,rfl,rfl,Mv.snoc.keep0 rvers_ok (m4.keep0 rvers_ok r3'),Mv.snoc.keep0 rvers_ok r4⟩,m34.trans (Mv.snoc' m34.nd),?_⟩
   rw[C5.e,Ak (by omega),Ad hi,ha,Af];simp only[A7,ho1,Af,Ab,Ag,e1];rw[e3];simp only[Ac,AC,Ab,Ag,es3];rw[← ha];refine e4.trans ?_;rw[C4.e,Ad hi,ha',Af];simp only[A7,ho2',Af,Ab,Ag,e2'];rw[Ai (by omega)];simp only[AZ,Am (show i<9223372036854775807 by omega)])
 rw[List.map_id] at r;refine ⟨_,h',F',RE ?_,r,m⟩;refine e.trans ?_;rw[C5.e,Ai (by omega)]
theorem Um {p:Place}{a1 a2 a3:Pq}{c1 c2 c3:Nq}{F1 F2 F3:List Nat} (hs1:RNodes false h [.sl 2 a1 p.chain.length c1] p.chain F1) (hs2:RVers false h [.sl 6 a2 p.log.length c2] p.log F2)
  (hs3:RVss false h [.sl 1 a3 p.got.length c3] p.got F3) (hl:lo≤h.length) (hn:CT p) :
  ∃ vs h' F',Ae lo 84 [.agg (p.cs a1 c1 a2 c2 a3 c3)] h=some (.agg vs,h')∧RPlace false h' vs p F'∧Mv h [] h' F':=by
 have hn1:=hn.2.2.1;obtain ⟨v1,h1,G1,e1,r1,m1⟩:=Oj (lo:=h.length) hs1 (zbR _) hn.1;obtain ⟨b1,d1,es1,r1⟩:=r1.form;obtain ⟨b2,d2,h2,G2,e2,r2,m2⟩:=Of (lo:=h1.length) (m1.keep0 rvers_ok hs2) (zbR _) hn.2.1;have m12:=m1.join m2 (rnodes_ok.bd _ _ _ _ r1);have r1':=m2.keep0 rnodes_ok r1;have hs3':=m2.keep0 rvss_ok (m1.keep0 rvss_ok hs3);obtain ⟨q,b3,d3,h',F',e,r,m⟩:=Dp (El:=RVers false) rvers_ok (h:=h2) (l:=p.got) (f:=id) (lo:=lo) (R:=1) (e:=41) (bytes:=24) (zbN hl m12.le) (by decide) (by omega)
  (fun i q a n c hh=>C1 lo (i:Nat) p.me p.clock a1 p.chain.length c1 a2 p.log.length c2 a3 p.got.length c3 p.fell 0 0 0 none 0 (some 0) 0 none 0 (some 0) 0 none 0 (some 0) false p.me p.clock b1 p.chain.length d1 b2 p.log.length d2 q a n c p.fell hh) (fun i hi q x n y hh hm=>by
   obtain ⟨o,s,b,d,G,ha,ho,es,hp,_⟩:=(hm.keep0 rvss_ok hs3').get hi;obtain ⟨a5,c5,h5,F5,e5,r5,m5⟩:=Of (lo:=lo) hp (zbN hl (zbN m12.le hm.le)) (hn.2.2.2 _ (zbO hi));refine ⟨[.sl 6 a5 p.got[i].length c5],F5,h5 ++ [.rows 1 41 false [[.sl 6 a5 p.got[i].length c5]]],Mv.snoc.keep0 rvers_ok r5,m5.trans (Mv.snoc' m5.nd),?_⟩;rw[C1.e,Ak (by omega),Ad hi];simp only[ha,Af,A7,ho,Ab,es,Ag];rw[e5];simp only[Ac,Ah,AZ,Am (show i<9223372036854775807 by omega)])
 rw[List.map_id] at r;have m3:=m12.join m (fun b hb=>by
   rw[zbP] at hb;exact hb.elim (rnodes_ok.bd _ _ _ _ r1' b) (rvers_ok.bd _ _ _ _ r2 b))
 rw[zb4] at m3;refine ⟨_,h',G1++(G2++F'),Rx ?_,⟨_,_,_,G1,G2,F',rfl,rfl,m.keep0 rnodes_ok r1',m.keep0 rvers_ok r2,r⟩,m3⟩;rw[e1];simp only[Ac,AC,Ab,es1,Ag];rw[e2];simp only[Ac,Ah];refine e.trans ?_;rw[C1.e,Ai (by omega)]
end


variable {l:List Ver}{v:Ver}
def DZ (v u:Ver):Bool:=v.key==u.key&&(v.tag.time==u.tag.time&&v.tag.place==u.tag.place)&&decide (v.past=u.past)&&(v.text.toList==u.text.toList)&&(v.gone==u.gone)
def Fb (v:Ver):Bool:=v.key==0&&(v.tag.time==0&&v.tag.place==0)&&decide (v.past.length=0)&&Ej v.text && !v.gone
def Hw (i:Nat) (v:Ver):Bool:=Fb v || (A3 v&&v.key==i)
def AH (l:List Ver):Bool:=(l.zipIdx.all fun x=>Hw x.2 x.1)&&decide (l.length=4)
theorem AQ (h:AH l=true):l.length=4:=by simp only[AH,Dm,decide_eq_true_eq] at h;exact h.2
theorem Cb (h:AH l=true) {i:Nat} (hi:i<l.length):Hw i l[i]=true:=by simp only[AH,Dm,zb2] at h;have:=h.1 (l[i],i) (by rw[zcV];simp[hi]);exact this
theorem GL (h:A3 v=true):0<v.tag.time:=by simp only[A3,Dm,decide_eq_true_eq] at h;exact (latest_lt.1 h.2).1
section
variable {lo:Nat}{ro ro':Bool}{h:Heap}{F F':List Nat}{a a':Pq}{c c':Nq}
theorem IY {α T:Type}{p:Nat→α→Bool}{l:List α} (L:Nat→Option T) (no yes:Option T)
  (step:∀ i (hi:i<l.length),L i=if p i l[i]=true then L (i+1) else no) (done:L l.length=yes):L 0=if (l.zipIdx.all fun x=>p x.2 x.1)=true then yes else no:=by
 have hz:l.zipIdx.length=l.length:=by simp
 refine CQ (l:=l.zipIdx) (p:=fun x=>p x.2 x.1) L no yes (fun i hi=>?_) (by rw[hz];exact done);rw[step i (by omega)];simp only[List.getElem_zipIdx,zcl]
theorem Wf {p q:List Tag} (hs:RTags ro h [.sl 2 a p.length c] p F) (hs':RTags ro' h [.sl 2 a' q.length c'] q F') (hn:p.length≤1048576) :
  Ae lo 310 [.sl 2 a p.length c,.sl 2 a' q.length c'] h=some (.bool (decide (p=q)),h):=by
 refine GD (h':=h) ?_;by_cases hl:p.length=q.length
 ·rw[show ((p.length:Int)==(q.length:Int))=true by simp;omega,An];refine (CQ (p:=fun x:Tag×Tag=>decide (x.1=x.2)) (l:=p.zip q) (fun i=>AM (List.length h) a p.length c a' q.length c' false (p.length:Nat) (i:Nat) h) (some (.bool false,h)) (some (.bool true,h)) (fun i hi=>?_) ?_).trans ?_
  ·have hip:i<p.length:=by simp at hi;omega
   have hiq:i<q.length:=by omega
   obtain ⟨o,rfl,ho⟩:=hs.get hip;obtain ⟨o',rfl,ho'⟩:=hs'.get hiq;rw[AM.e,Ak (by omega),Ad hip];simp only[Af,A7,ho,ho',Ab,Aa,Ag,Ad hiq,zdo,Am (show i<9223372036854775807 by omega),zcT];have e:(p[i].time==q[i].time&&p[i].place==q[i].place)=decide (p[i]=q[i]):=by rw[zcX];cases hx:p[i];cases hy:q[i];simp
   rw[e];cases decide (p[i]=q[i])<;>simp
  ·have hz:(p.zip q).length=p.length:=by simp;omega
   rw[hz,AM.e,Ai (by omega)]
  ·have e:((p.zip q).all fun x=>decide (x.1=x.2))=decide (p=q):=by
    rw[zcX,zb2,decide_eq_true_eq];constructor
    ·intro hx;apply List.ext_getElem hl;intro i h1 h2;have:=hx (p[i],q[i]) (by rw[zcu];exact ⟨i,by simp;omega,by simp⟩);simpa using this
    ·rintro rfl x hx
     obtain ⟨i,hi,rfl⟩:=zcu.1 hx;simp
   rw[e];cases decide (p=q)<;>simp
 ·rw[show ((p.length:Int)==(q.length:Int))=false by simp;omega,Au,decide_eq_false (fun e=>hl (by rw[e]))]
theorem X1 {u:Ver} (hs:RTags ro h [.sl 2 a v.past.length c] v.past F) (hs':RTags ro' h [.sl 2 a' u.past.length c'] u.past F') (hn:v.past.length≤1048576) :
  Ae lo 251 [.agg (v.cs a c),.agg (u.cs a' c')] h=some (.bool (DZ v u),h):=by
 refine O9 (h':=h) ?_;simp only[Wf hs hs' hn,Ac,Av,zcT];unfold DZ;cases (v.key==u.key)<;>cases (v.tag.time==u.tag.time&&v.tag.place==u.tag.place)<;>cases (decide (v.past=u.past))<;>cases (v.text.toList==u.text.toList)<;>cases (v.gone==u.gone)<;>rfl
theorem US (hs:RTags ro h [.sl 2 a v.past.length c] v.past F) (hn:v.past.length≤1048576) :
  Ae lo 251 [.agg (v.cs a c),.agg [Iv 0,Iv 0,Iv 0,.sl 0 none 0 (some 0),.str ⟨⟨[]⟩⟩,.bool false]] h=some (.bool (Fb v),h):=by
 refine MU (h':=h) ?_;have e:Ae (List.length h) 310 [.sl 2 a v.past.length c,.sl 0 none 0 (some 0)] h=some (.bool (decide (v.past.length=0)),h):=by
  refine FH (h':=h) ?_;by_cases h0:v.past.length=0
  ·rw[h0,MO,An,A1.e,Ai (by simp)];rfl
  ·rw[show ((v.past.length:Int)==((0:Nat):Int))=false by rw[beq_eq_false_iff_ne];omega,Au,decide_eq_false h0]
 simp only[e,Ac,Av,zcT,Ie];unfold Fb;cases (v.key==0)<;>cases (v.tag.time==0&&v.tag.place==0)<;>cases (decide (v.past.length=0))<;>cases Ej v.text<;>cases v.gone<;>rfl
theorem Tf (hs:RVers ro h [.sl 6 a l.length c] l F) (hn:Cy l):Ae lo 154 [.agg [.sl 6 a l.length c]] h=some (.bool (AH l),h):=by
 have hn1:=hn.1;refine Q0 (h':=h) ?_;refine (IY (p:=Hw) (l:=l) (fun i=>Cc (List.length h) false a l.length c (l.length:Nat) (i:Nat) a l.length c h) (some (.bool false,h)) (some (.bool (decide (l.length=4)),h)) (fun i hi=>?_) ?_).trans ?_
 ·obtain ⟨o,s,b,d,G,rfl,ho,es,hp,_⟩:=hs.get hi;have hm:=hn.2 _ (zbO hi);rw[Cc.e,Ak (by omega),Ad hi];simp only[Af,A7,ho,Ab,Aa,es,A8,Aw,Ag];rw[US hp hm.1];simp only[Ac,Av,Ly hp hm,Am (show i<9223372036854775807 by omega)];unfold Hw;cases Fb l[i]<;>cases A3 l[i]<;>cases (l[i].key==i)<;>simp
 ·rw[Cc.e,Ai (by omega)];by_cases h3:l.length=4
  ·rw[h3];rfl
  ·rw[show ((l.length:Int)==4)=false by simp;omega,Au,decide_eq_false h3]
 ·unfold AH;cases (l.zipIdx.all fun x=>Hw x.2 x.1)<;>simp
theorem RVers.all {n:Nat}{i:Nat} (hs:RVers ro h [.sl 6 a n c] l F) (hi:i<l.length):∃ o s a' c' G,a=some o∧ld h o.1 (o.2+i) 0 1=some [Iv l[i].key]∧ld h o.1 (o.2+i) 1 1=some [Iv l[i].tag.time] ∧
  ld h o.1 (o.2+i) 2 1=some [Iv l[i].tag.place]∧ld h o.1 (o.2+i) 3 1=some [s]∧ld h o.1 (o.2+i) 4 1=some [.str l[i].text]∧ld h o.1 (o.2+i) 5 1=some [.bool l[i].gone]∧ld h o.1 (o.2+i) 1 2=some [Iv l[i].tag.time,Iv l[i].tag.place] ∧
  ld h o.1 (o.2+i) 0 6=some [Iv l[i].key,Iv l[i].tag.time,Iv l[i].tag.place,s,.str l[i].text,.bool l[i].gone] ∧
  (∀ {R':Type} (K:Pq→Nat→Nq→Option R'),eS 2 s K=K a' l[i].past.length c')∧RTags ro h [.sl 2 a' l[i].past.length c'] l[i].past G∧(∀ b∈G,b∈F):=by
 obtain ⟨o,row,G,h1,h2,hv,hG,_⟩:=hs.read hi;obtain ⟨s,a',c',rfl,es,hp⟩:=hv.form;exact ⟨o,s,a',c',G,h1,by rw[h2];rfl,by rw[h2];rfl,by rw[h2];rfl,by rw[h2];rfl,by rw[h2];rfl,by rw[h2];rfl,by rw[h2];rfl,by rw[h2];rfl,es,hp,hG⟩
theorem Kf (hs:RVers ro h [.sl 6 a l.length c] l F) (hn:Cy l):Ae lo 162 [.agg [.sl 6 a l.length c]] h=some (.bool (AH l),h):=by
 have hn1:=hn.1;refine NW (h':=h) ?_;refine (IY (p:=Hw) (l:=l) (fun i=>Bi (List.length h) false (i:Nat) a l.length c h) (some (.bool false,h)) (some (.bool (decide (l.length=4)),h)) (fun i hi=>?_) ?_).trans ?_
 ·obtain ⟨o,s,b,d,G,rfl,ho0,_,_,ho3,ho4,ho5,ho12,ho,es,hp,_⟩:=hs.all hi;have hm:=hn.2 _ (zbO hi);rw[Bi.e,Ak (by omega),Ad hi];simp only[Af,A7,ho0,ho3,ho4,ho5,ho12,ho,Ab,Aa,es,A8,Aw,Ag,Ad hi,zcT,Ie,Nr hp hm,Ac,Av,Am (show i<9223372036854775807 by omega)];have hpl:∀ {T:Type} (x y:Option T),br (decide ((l[i].past.length:Int)>0)) x y=br (!decide (l[i].past.length=0)) x y:=by
   intro T x y;by_cases h0:l[i].past.length=0
   ·rw[Ai (by omega),decide_eq_true h0];rfl
   ·rw[Ak (by omega),decide_eq_false h0];rfl
  simp only[hpl];unfold Hw Fb;cases hz:(l[i].tag.time==0&&l[i].tag.place==0) with
  | true =>
   have:A3 l[i]=false:=by
    cases hv:A3 l[i] with
    | false=>rfl
    | true=>have:=GL hv;simp at hz;omega
   rw[this];cases (l[i].key==0)<;>cases Ej l[i].text<;>cases l[i].gone<;>cases (decide (l[i].past.length=0))<;>rfl
  | false =>cases (l[i].key==0)<;>cases Ej l[i].text<;>cases l[i].gone<;>cases (decide (l[i].past.length=0))<;>cases A3 l[i]<;>cases (l[i].key==i)<;>rfl
 ·rw[Bi.e,Ai (by omega)];by_cases h3:l.length=4
  ·rw[h3];rfl
  ·rw[show ((l.length:Int)==4)=false by simp;omega,Au,decide_eq_false h3]
 ·unfold AH;cases (l.zipIdx.all fun x=>Hw x.2 x.1)<;>simp
end


variable {l:List Ver}{α:Type}{El:Rel α}
def Bw (l:List Ver) (t:Tag):Bool:=l.any fun v=>v.tag.time==t.time&&v.tag.place==t.place
section
variable {lo:Nat}{ro ro':Bool}{h:Heap}{F F':List Nat}{a a':Pq}{c c':Nq}
theorem Rm {g:Nat}{cl:List V}{p:Ver→Bool} (hs:RVers ro h [.sl 6 a l.length c] l F) (hn:l.length≤1048576)
  (hp:∀ lo v a c G,v∈l→RTags ro h [.sl 2 a v.past.length c] v.past G→Ae lo g (Dh [.agg (v.cs a c)] cl) h=some (.bool (p v),h)) :
  Ae lo 186 [.sl 6 a l.length c,.fn g cl] h=some (Iv (Cm p l 0),h):=by
 have loop:∀ m k x,m+k=l.length→AD (List.length h) a l.length c g cl x (l.length:Nat) (k:Nat) h=some (Iv (Cm p (l.drop k) k),h):=by
  intro m;induction m with
  | zero =>intro k x hk;rw[AD.e,Ai (by omega),show k=l.length by omega];simp[Cm]
  | succ m ih =>
   intro k x hk;have hlt:k<l.length:=by omega
   obtain ⟨o,s,b,d,G,rfl,ho,es,hv,_⟩:=hs.get hlt;rw[AD.e,Ak (by omega),Ad (by omega)];simp only[Af,A7,ho,Ab,Aa,es,A8,Aw,Ag];rw[hp (List.length h) l[k] b d G (zbO hlt) hv,Ac,Av,zca hlt];simp only[Cm];cases p l[k]
   ·simp only[Au,cond_false];rw[Am (by omega)];exact ih (k+1) _ (by omega)
   ·simp
 refine E3 (h':=h) ?_;exact loop l.length 0 0 (by omega)
theorem Jx {g:Nat}{cl:List V}{p:Ver→Bool} (hs:RVers ro h [.sl 6 a l.length c] l F) (hn:l.length≤1048576)
  (hp:∀ lo v a c G,v∈l→RTags ro h [.sl 2 a v.past.length c] v.past G→Ae lo g (Dh [.agg (v.cs a c)] cl) h=some (.bool (p v),h)) :
  Ae lo 155 [.sl 6 a l.length c,.fn g cl] h=some (.bool (l.any p),h) :=
 Eu (h':=h) (by rw[Rm hs hn hp];simp only[Ac,Aa,Po];rw[IU];simp)
theorem OC {t p:Int} (hs:RVers ro h [.sl 6 a l.length c] l F) (hn:l.length≤1048576) :
  Ae lo 176 [.sl 6 a l.length c,.agg [Iv t,Iv p]] h=some (.bool (Bw l ⟨t,p⟩),h):=by
 refine RT (h':=h ++ [.rows 2 29 false [[Iv t,Iv p]]]) ?_;rw[Jx (p:=fun v=>v.tag.time==t&&v.tag.place==p) (Mv.snoc.keep0 rvers_ok hs) hn (fun lo v a c G _ _=>by
  refine O8 (h':=h ++ [.rows 2 29 false [[Iv t,Iv p]]]) ?_;have:ld (h ++ [.rows 2 29 false [[Iv t,Iv p]]]) h.length 0 0 2=some [Iv t,Iv p]:=by rw[Ta (row := [Iv t,Iv p]) (by rfl)];rfl
  simp only[this,Af,Ab,Aa,Ag,zcT];cases (v.tag.time==t&&v.tag.place==p)<;>rfl)]
 simp only[Ac,Av];unfold Bw;cases (l.any fun v=>v.tag.time==t&&v.tag.place==p)<;>rfl
theorem Sli.pre {R R' e n i:Nat}{l:List α} (hs:Sli false R e El h [.sl R' a n c] l F) (hi:i≤l.length):∃ F',Sli false R e El h [.sl R' a i c] (l.take i) F':=by
 have hn:=hs.val;subst hn;obtain ⟨R1,a1,c1,e1,g⟩:=hs;injection e1 with e1 _;injection e1 with e0 e2 _ e3;subst e0;subst e2;subst e3;have hl:(l.take i).length=i:=by simp;omega
 cases a with
 | none =>obtain ⟨rfl,h2,_⟩:=g;exact ⟨[],R',none,c,by rw[hl],by simp,h2,rfl⟩
 | some p =>
  obtain ⟨b,j⟩:=p;obtain ⟨hR,rs,Fs,g1,g2,g3,g4,g5,rfl⟩:=g;refine ⟨b ::(Fs.take i).flatten,R',some (b,j),c,by rw[hl],hR,rs,Fs.take i,g1,by rw[hl];omega,fun k hk=>?_,g4,?_,rfl⟩
  ·have:=g3 k hk;rw[hl];omega
  ·rw[hl];have:=g5.take i;rw[List.take_take,Nat.min_eq_left hi] at this;exact this
theorem ED {R R' e n i:Nat}{l:List α} (hs:Sli false R e El h [.sl R' a n c] l F) (hi:i≤l.length) {T:Type}{K:Pq→Nat→Nq→Option T} :
  As a n c none (some (Iv (i:Nat))) none K=K a i c:=by
 have hn:=hs.val;subst hn;obtain ⟨R1,a',c',h1,h2⟩:=hs;injection h1 with h1 _;injection h1 with e0 e1 e2 e3;subst e0;subst e1;subst e3;have hc:∀ k,c=some k→l.length≤k:=fun k hk=>by
  cases a with
  | none=>obtain ⟨rfl,_⟩:=h2;simp
  | some p=>obtain ⟨b,i⟩:=p;obtain ⟨_,_,_,_,_,g3,_⟩:=h2;exact (g3 k hk).1
 unfold As EC HT IG;cases c with
 | none=>simp only[Aa,A7];rw[Cj ⟨by omega,by omega⟩]
 | some k=>have:=hc k rfl;simp only[Aa,A7];rw[Cj ⟨by omega,by omega⟩]
def Mp (place:Int) (l:List Ver) (i:Nat) (v:Ver):Bool:=A3 v&&(v.tag.place==place) && !Bw (l.take i) v.tag
def Ea (place:Int) (l:List Ver):Bool:=(l.zipIdx.all fun x=>Mp place l x.2 x.1)&&decide ((l.length:Int)≤60)
theorem Qf {m:Int} (hs:RVers false h [.sl 6 a l.length c] l F) (hn:Cy l):Ae lo 88 [.sl 6 a l.length c,Iv m] h=some (.bool (Ea m l),h):=by
 have hn1:=hn.1;refine TZ (h':=h) ?_;refine (IY (p:=Mp m l) (l:=l) (fun i=>Dt (List.length h) a l.length c m false a l.length c (l.length:Nat) (i:Nat) h) (some (.bool false,h)) (some (.bool (decide ((l.length:Int)≤60)),h)) (fun i hi=>?_) ?_).trans ?_
 ·obtain ⟨F2,hpre⟩:=Sli.pre hs (show i≤l.length by omega);have hres:=fun {T:Type} (K:Pq→Nat→Nq→Option T)=>ED hs (show i≤l.length by omega) (K:=K);obtain ⟨o,s,b,d,G,ha,ho,es,hp,_⟩:=hs.get hi;have hm:=hn.2 _ (zbO hi);have hil:(l.take i).length=i:=by simp;omega
  have hpre':RVers false h [.sl 6 a (l.take i).length c] (l.take i) F2:=by rw[hil];exact hpre
  have hht:=fun lo=>OC (lo:=lo) (t:=l[i].tag.time) (p:=l[i].tag.place) hpre' (by omega);rw[hil] at hht;rw[Dt.e,Ak (by omega),Ad hi];simp only[ha,Af,A7,ho,Ab,Aa,es,A8,Aw,Ag];rw[Ly hp hm];simp only[← ha,Ac,Av,hres,hht,Am (show i<9223372036854775807 by omega)];unfold Mp;cases A3 l[i]<;>cases (l[i].tag.place==m)<;>cases Bw (l.take i) l[i].tag<;>simp
 ·rw[Dt.e,Ai (by omega)];by_cases h3:(l.length:Int)≤60
  ·rw[Ak h3,decide_eq_true h3]
  ·rw[Ai h3,decide_eq_false h3]
 ·unfold Ea;cases (l.zipIdx.all fun x=>Mp m l x.2 x.1)<;>simp
theorem PD {m:Int} (hs:RVers ro h [.sl 6 a l.length c] l F) (hn:Cy l):Ae lo 178 [.sl 6 a l.length c,Iv m] h=some (.bool (Ea m l),h):=by
 have hn1:=hn.1;refine TO (h':=h) ?_;have inner:∀ i (hi:i<l.length),CR (List.length h) a l.length c m false (i:Nat) 0 h=if Bw (l.take i) l[i].tag=true then some (.bool false,h) else Cp (List.length h) a l.length c m false ((i+1:Nat):Int) h:=by
  intro i hi;obtain ⟨o,s,b,d,G,ha,_,_,_,_,_,_,ho12,_⟩:=hs.all hi;have hil:(l.take i).length=i:=by simp;omega
  refine (CQ (p:=fun v:Ver => !(v.tag.time==l[i].tag.time&&v.tag.place==l[i].tag.place)) (l:=l.take i) (fun k=>CR (List.length h) a l.length c m false (i:Nat) (k:Nat) h) (some (.bool false,h)) (Cp (List.length h) a l.length c m false ((i+1:Nat):Int) h) (fun k hk=>?_) ?_).trans ?_
  ·have hkl:k<l.length:=by omega
   obtain ⟨o',s',b',d',G',ha',_,_,_,_,_,_,ho12',_⟩:=hs.all hkl;have hoo:o'=o:=by rw[ha] at ha';injection ha' with ha';exact ha'.symm
   subst hoo;rw[CR.e,Ak (by omega),Ad hkl];simp only[ha,Af,A7,ho12,ho12',Ab,Aa,Ag,Ad hi,zcT,List.getElem_take,Am (show k<9223372036854775807 by omega)];cases (l[k].tag.time==l[i].tag.time&&l[k].tag.place==l[i].tag.place)<;>simp
  ·rw[hil,CR.e,Ai (by omega),Am (by omega)]
  ·unfold Bw;rw[List.any_eq_not_all_not];cases ((l.take i).all fun v:Ver => !(v.tag.time==l[i].tag.time&&v.tag.place==l[i].tag.place))<;>simp
 refine (IY (p:=Mp m l) (l:=l) (fun i=>Cp (List.length h) a l.length c m false (i:Nat) h) (some (.bool false,h)) (some (.bool (decide ((l.length:Int)≤60)),h)) (fun i hi=>?_) ?_).trans ?_
 ·have hin:=inner i hi;obtain ⟨o,s,b,d,G,ha,_,_,ho2,_,_,_,_,ho,es,hp,_⟩:=hs.all hi;have hm:=hn.2 _ (zbO hi);rw[Cp.e,Ak (by omega),Ad hi];simp only[ha,Af,A7,ho,Ab,Aa,es,A8,Aw,Ag];rw[Nr hp hm];simp only[Ac,Av,Ad hi,ho2,Af,Ab,Ag,Aa];rw[← ha,hin];unfold Mp;cases A3 l[i]<;>cases (l[i].tag.place==m)<;>cases Bw (l.take i) l[i].tag<;>simp
 ·rw[Cp.e,Ai (by omega)];by_cases h3:(l.length:Int)≤60
  ·rw[Ak h3,decide_eq_true h3]
  ·rw[Ai h3,decide_eq_false h3]
 ·unfold Ea;cases (l.zipIdx.all fun x=>Mp m l x.2 x.1)<;>simp
end


variable {l:List Node}
def BH (l:List Ver):List Tag:=l.map fun v=>v.tag
section
variable {lo:Nat}{ro ro':Bool}{h:Heap}{F F':List Nat}{a a':Pq}{c c':Nq}
theorem Ol {l:List Ver} (hs:RVers ro h [.sl 6 a l.length c] l F) (hl:lo≤h.length) (hn:l.length≤1048576) :
  ∃ v h' F',Ae lo 199 [.agg [.sl 6 a l.length c]] h=some (.agg [v],h')∧RTags false h' [v] (BH l) F'∧Mv h [] h' F':=by
 obtain ⟨q,a',c',h',F',e,r,m⟩:=Dp (El:=flat Tag.cs) CK (h:=h) (l:=l) (f:=fun v=>v.tag) (lo:=lo) (R:=2) (e:=29) (bytes:=16) hl (by decide) (by omega)
  (fun i q a1 n1 c1 hh=>C6 lo (i:Nat) a l.length c 0 none 0 (some 0) q a1 n1 c1 hh) (fun i hi q a1 n1 c1 hh hm=>by
   obtain ⟨o,s,b,d,G,ha,_,_,_,_,_,_,ho12,_⟩:=(hm.keep0 rvers_ok hs).all hi;refine ⟨[Iv l[i].tag.time,Iv l[i].tag.place],[],hh ++ [.rows 2 29 false [[Iv l[i].tag.time,Iv l[i].tag.place]]],⟨rfl,rfl⟩,Mv.snoc,?_⟩;rw[C6.e,Ak (by omega),Ad hi];simp only[ha,Af,A7,ho12,Ab,Aa,Ag,AZ,Am (show i<9223372036854775807 by omega)])
 refine ⟨_,h',F',RF ?_,r,m⟩;refine e.trans ?_;rw[C6.e,Ai (by omega)]
theorem SE {l:List Ver} (hs:RVers ro h [.sl 6 a l.length c] l F) (hl:lo≤h.length) (h4:l.length=4) :
  ∃ v h' F',Ae lo 90 [.agg [.sl 6 a l.length c]] h=some (.agg [v],h')∧RTags false h' [v] (BH l) F'∧Mv h [] h' F':=by
 obtain ⟨h',F',e,r,m⟩:=Yc (El:=flat Tag.cs) CK (h0:=h) (l:=l) (f:=fun v=>v.tag) (lo:=lo) (R:=2) (e:=29) (z := [Iv 0,Iv 0]) rfl hl
  (fun i hh=>BV lo a l.length c (l.length:Nat) (i:Nat) 0 none 0 (some 0) (some (h.length,0)) 4 (some 4) hh) (fun i hi hh hm=>by
   obtain ⟨o,s,b,d,G,rfl,ho,es,_,_⟩:=(hm.keep0 rvers_ok hs).get hi;refine ⟨[Iv l[i].tag.time,Iv l[i].tag.place],[],hh,⟨rfl,rfl⟩,Mv.nil,rfl,?_⟩;rw[BV.e,Ak (by omega),Ad hi];simp only[Af,A7,ho,Ab,Aa,es,A8,Aw,Ag,Ad (show i<4 by omega),zcl,Am (show i<9223372036854775807 by omega)])
 rw[h4] at r;refine ⟨_,h',F',MW ?_,r,m⟩;rw[Pb (r:=(.agg [.sl 2 (some (h.length,0)) 4 (some 4)],h ++ [.rows 2 29 false (List.replicate l.length [Iv 0,Iv 0])])) (by rw[h4];rfl)];simp only[Ac,AC,Ab,Ah,Ag];refine e.trans ?_;rw[BV.e,Ai (by omega)]
def AS (l:List Node):List Tag:=match l.getLast? with | some x=>BH x.store | none => []
theorem Jj (h0:0<l.length):AS l=BH (l[l.length - 1]'(by omega)).store:=by unfold AS;rw[zc5,Dd (by omega)]
theorem I4 (hs:RNodes ro h [.sl 2 a l.length c] l F) (hl:lo≤h.length) (hn:Ci l) (h0:0<l.length) :
  ∃ v h' F',Ae lo 107 [.agg [.sl 2 a l.length c]] h=some (.agg [v],h')∧RTags false h' [v] (AS l) F'∧Mv h [] h' F':=by
 have hn1:=hn.1;obtain ⟨o,s1,s2,a1,c1,a2,c2,F1,F2,ha,_,ho1,_,e1,_,p1,_⟩:=hs.get (show l.length - 1<l.length by omega);obtain ⟨v,h',F',e,r,m⟩:=Ol (lo:=lo) p1 hl (hn.2 _ (zbO _)).1.1;obtain ⟨a',c',es,r'⟩:=r.form;rw[Jj h0];refine ⟨_,h',F',OU ?_,r',m⟩;rw[wr (by omega) (by omega),Cl ⟨by omega,by omega⟩,ha,Af,show ((l.length:Int) - 1).toNat=l.length - 1 by omega,ho1];simp only[Af,Ab,Ag,e1];rw[e];simp only[Ac,AC,Ab,es,Ag]
end


variable {t:Tag}{u v:Ver}{s:ByteArray}{l:List Tag}
abbrev tx (l:List UInt8):ByteArray:=⟨⟨l⟩⟩
theorem Id {a b:List UInt8}:tx a++tx b=tx (a++b):=by apply ByteArray.ext;simp[tx]
theorem CH {a:List UInt8}:(tx a).size=a.length:=rfl
theorem Xy {a:List UInt8}:(tx a).toList=a:=by rw[zc9]
theorem Vz (s:ByteArray):tx s.data.toList=s:=rfl
def J5 (n:Nat):List UInt8:=if n<10 then [UInt8.ofNat (48+n)] else J5 (n / 10) ++ [UInt8.ofNat (48+n % 10)]
termination_by n
decreasing_by omega
theorem Jp (n:Nat):(J5 n).length≤n+1:=by
 induction n using Nat.strongRecOn with
 | ind n ih =>
  unfold J5;split
  ·simp
  ·have:=ih (n / 10) (by omega);simp only[zbX,zb6];omega
def zaS (l:List UInt8):Nat:=l.foldl (fun a c=>a*10+(c.toNat - 48)) 0
theorem Pl {k:Nat} (h:k<10):(UInt8.ofNat (48+k)).toNat=48+k:=by rw[UInt8.toNat_ofNat'];omega
theorem Vd (n:Nat):zaS (J5 n)=n:=by
 induction n using Nat.strongRecOn with
 | ind n ih =>
  unfold J5;split
  ·rename_i h;simp only[zaS,zcA,List.foldl_nil,Pl h];omega
  ·have:=ih (n / 10) (by omega);simp only[zaS,List.foldl_append,zcA,List.foldl_nil] at this ⊢;rw[this,Pl (Nat.mod_lt _ (by decide))];omega
theorem QE {n m:Nat} (h:J5 n=J5 m):n=m:=by rw[← Vd n,← Vd m,h]
theorem ZD (n:Nat):∀ c∈J5 n,48≤c.toNat∧c.toNat≤57:=by
 induction n using Nat.strongRecOn with
 | ind n ih =>
  unfold J5;split
  ·rename_i h
   intro c hc;simp only[zbW] at hc;subst hc;rw[Pl h];omega
  ·intro c hc;rw[zbP] at hc;rcases hc with hc | hc
   ·exact ih (n / 10) (by omega) c hc
   ·simp only[zbW] at hc;subst hc;rw[Pl (Nat.mod_lt _ (by decide))];omega
theorem Jo {n:Nat}{c:UInt8} (hc:c.toNat<48):c∉J5 n:=fun h=>by have:=ZD n c h;omega
def FU (t:Tag):List UInt8:=J5 t.time.toNat++46 :: J5 t.place.toNat
def B7 (l:List Tag):List UInt8:=l.flatMap fun t=>32 :: FU t
def KK (v:Ver):List UInt8:=bif v.gone then [45] else 61 :: v.text.data.toList
def Ls (v:Ver):List UInt8:=J5 v.key.toNat++32 ::(FU v.tag++B7 v.past++32 :: KK v)
theorem Pm {x:UInt8}:∀ {a a' b b':List UInt8},a++x :: b=a'++x :: b'→x∉a→x∉a'→a=a'∧b=b'
 | [],[],b,b',h,_,_=>⟨rfl,by simpa using h⟩
 | [],y :: a',b,b',h,_,h'=>by simp only[zco,zcm,List.cons.injEq] at h;exact absurd (by simp[h.1]) h'
 | y :: a,[],b,b',h,h',_=>by simp only[zco,zcm,List.cons.injEq] at h;exact absurd (by simp[h.1]) h'
 | y :: a,z :: a',b,b',h,h1,h2=>by simp only[zcm,List.cons.injEq] at h;simp only[zb0,not_or] at h1 h2;obtain ⟨e1,e2⟩:=Pm h.2 h1.2 h2.2;exact ⟨by rw[h.1,e1],e2⟩
theorem PV:(32:UInt8)∉FU t:=by unfold FU;simp only[zbP,zb0,not_or];exact ⟨Jo (by decide),by decide,Jo (by decide)⟩
theorem VY {u:Tag} (ht:A2 t.time t.place=true) (hu:A2 u.time u.place=true) (h:FU t=FU u):t=u:=by
 have h1:=DF ht;have h2:=DF hu;obtain ⟨e1,e2⟩:=Pm h (Jo (by decide)) (Jo (by decide));have e1:=QE e1;have e2:=QE e2;cases t;cases u;simp only[Tag.mk.injEq] at *
 omega
theorem Or:∀ {p q:List Tag}{r s:List UInt8},p.length=q.length→(∀ t∈p,A2 t.time t.place=true)→(∀ t∈q,A2 t.time t.place=true) →
  B7 p++32 :: r=B7 q++32 :: s→p=q∧r=s
 | [],[],r,s,_,_,_,h=>⟨rfl,by simpa [B7] using h⟩
 | [],_ :: _,_,_,h,_,_,_=>by simp at h
 | _ :: _,[],_,_,h,_,_,_=>by simp at h
 | t :: p,u :: q,r,s,hl,hp,hq,h=>by
  have e:∀ (x:List Tag) (z:List UInt8),∃ w,B7 x++32 :: z=32 :: w:=by
   intro x z;cases x with
   | nil=>exact ⟨z,rfl⟩
   | cons a x=>exact ⟨_,by simp only[B7,zc7,zcm];rfl⟩
  obtain ⟨w1,hw1⟩:=e p r;obtain ⟨w2,hw2⟩:=e q s;have h0:FU t++(B7 p++32 :: r)=FU u++(B7 q++32 :: s):=by simpa [B7,zc7] using h
  rw[hw1,hw2] at h0;obtain ⟨e1,e2⟩:=Pm h0 PV PV;have et:=VY (hp t (by simp)) (hq u (by simp)) e1;obtain ⟨e3,e4⟩:=Or (by simpa using hl) (fun x hx=>hp x (by simp[hx])) (fun x hx=>hq x (by simp[hx])) (show B7 p++32 :: r=B7 q++32 :: s by rw[hw1,hw2,e2]);exact ⟨by rw[et,e3],e4⟩
theorem JG {p:List Tag} (h:Bg p=true):∀ t∈p,A2 t.time t.place=true:=by simp only[Bg,Dm,zb2] at h;exact h.2
theorem AN (h:A3 v=true):(0≤v.key∧v.key≤3)∧DY v.text=true∧(v.gone=true→v.text.size=0)∧Bg v.past=true∧A2 v.tag.time v.tag.place=true∧EI v.past<v.tag.time:=by
 simp only[A3,Hl,Al,Dm,decide_eq_true_eq,zcH,zcy,Ej] at h;obtain ⟨⟨⟨⟨⟨⟨h1,h2⟩,h3⟩,h4⟩,h5⟩,h6⟩,h7⟩:=h;refine ⟨⟨h1,h2⟩,h3,fun hg=>?_,h5,h6,h7⟩;rcases h4 with h4 | h4
 ·rw[hg] at h4;cases h4
 ·exact h4
theorem KU {t:ByteArray} (h:s.data.toList=t.data.toList):s=t:=by rw[← Vz s,← Vz t,h]
theorem NR (h:s.size=0):s.data.toList = []:=zbY (by simpa using h)
theorem VX (hv:A3 v=true) (hu:A3 u=true) (h:Ls v=Ls u):v=u:=by
 obtain ⟨⟨k1,k2⟩,_,g1,p1,t1,_⟩:=AN hv;obtain ⟨⟨k3,k4⟩,_,g2,p2,t2,_⟩:=AN hu;obtain ⟨e1,e2⟩:=Pm h (Jo (by decide)) (Jo (by decide));have e1:=QE e1;have l1:=BK p1;have l2:=BK p2;have e3:B7 (v.tag :: v.past)++32 :: KK v=B7 (u.tag :: u.past)++32 :: KK u:=by simp only[B7,zc7,zcm,zb4] at e2 ⊢;rw[e2]
 obtain ⟨e4,e5⟩:=Or (by simp[l1,l2]) (fun t ht=>by
  rcases zb0.1 ht with rfl | ht
  ·exact t1
  ·exact JG p1 t ht) (fun t ht=>by
  rcases zb0.1 ht with rfl | ht
  ·exact t2
  ·exact JG p2 t ht) e3
 injection e4 with e6 e7;have e8:v.gone=u.gone∧v.text=u.text:=by
  unfold KK at e5;cases hg:v.gone<;>cases hg2:u.gone<;>simp only[hg,hg2,cond_true,cond_false,List.cons.injEq] at e5
  ·exact ⟨rfl,KU e5.2⟩
  ·exact absurd e5.1 (by decide)
  ·exact absurd e5.1 (by decide)
  ·exact ⟨rfl,KU (by rw[NR (g1 hg),NR (g2 hg2)])⟩
 cases v;cases u;simp only[Ver.mk.injEq] at *
 exact ⟨by omega,e6,e7,e8.2,e8.1⟩
theorem same_iff:DZ v u=true↔v=u:=by
 cases v with | mk k1 t1 p1 s1 g1=>cases u with | mk k2 t2 p2 s2 g2 =>
 cases t1;cases t2;simp only[DZ,Dm,beq_iff_eq,decide_eq_true_eq,Ver.mk.injEq,Tag.mk.injEq];constructor
 ·rintro ⟨⟨⟨⟨h1,h2⟩,h3⟩,h4⟩,h5⟩
  exact ⟨h1,h2,h3,KU (by rwa [zc9,zc9] at h4),h5⟩
 ·rintro ⟨h1,h2,h3,h4,h5⟩
  exact ⟨⟨⟨⟨h1,h2⟩,h3⟩,by rw[h4]⟩,h5⟩
theorem UA (hv:A3 v=true) (hu:A3 u=true):(Ls v==Ls u)=DZ v u:=by rw[zcX,beq_iff_eq,same_iff];exact ⟨VX hv hu,fun h=>by rw[h]⟩
section
variable {lo:Nat}{ro ro':Bool}{h:Heap}{F F':List Nat}{a a':Pq}{c c':Nq}
theorem SP {n:Int} (h0:0≤n) (h1:n<10):JT [IntKind.wrap .u8 (IntKind.wrap .i64 (48+n))]=tx [UInt8.ofNat (48+n.toNat)]:=by
 have e:IntKind.wrap .u8 (IntKind.wrap .i64 (48+n))=((48+n.toNat:Nat):Int):=by
  rw[wr (by omega) (by omega)];obtain ⟨k,rfl⟩:=Int.eq_ofNat_of_zero_le h0;have:k<10:=by omega
  rcases k with _ | _ | _ | _ | _ | _ | _ | _ | _ | _ | k<;>first | rfl | omega
 rw[e];rfl
theorem Lr:∀ {n:Int},0≤n→n≤1000000000→∀ {lo:Nat}{h:Heap},Ae lo 344 [Iv n] h=some (.str (tx (J5 n.toNat)),h):=by
 suffices ∀ (m:Nat) (n:Int),n.toNat=m→0≤n→n≤1000000000→∀ {lo:Nat}{h:Heap},Ae lo 344 [Iv n] h=some (.str (tx (J5 n.toNat)),h) from fun {n} h0 h1 {lo}{h}=>this n.toNat n rfl h0 h1;intro m;induction m using Nat.strongRecOn with
 | ind m ih =>
  intro n hm h0 h1 lo h;by_cases h10:n<10
  ·refine MS (h':=h ++ [.rows 1 5 false [[.int .u8 (IntKind.wrap .u8 (IntKind.wrap .i64 (48+n)))]]]) ?_;rw[Ai (by omega),Ai (by omega),Ak h10];simp only[AZ,E8,Af];rw[SP h0 h10];unfold J5;rw[if_pos (by omega)]
  ·have e1:n.tdiv 10=n / 10:=Int.tdiv_eq_ediv_of_nonneg h0;have e2:n.tmod 10=n % 10:=Int.tmod_eq_emod_of_nonneg h0;refine MS (h':=h ++ [.rows 1 5 false [[.int .u8 (IntKind.wrap .u8 (IntKind.wrap .i64 (48+n.tmod 10)))]]]) ?_;have hl:=Jp (n / 10).toNat;rw[Ai (by omega),Ai (by omega),Ai h10,e1,wr (by omega) (by omega),ih (n / 10).toNat (by omega) (n / 10) rfl (by omega) (by omega)];simp only[Ac,A8,AZ,E8,Af];rw[e2,SP (by omega) (by omega),Iy (by rw[CH,CH];simp only[zb6];omega),Id];conv=>rhs;unfold J5
   rw[if_neg (by omega),show (n / 10).toNat=n.toNat / 10 by omega,show (n % 10).toNat=n.toNat % 10 by omega]
theorem Lt (h:A2 t.time t.place=true):(FU t).length≤1010:=by have h1:=DF h;have h2:=Jp t.time.toNat;have h3:=Jp t.place.toNat;simp only[FU,zbX,zcF];omega
theorem PI (ht:A2 t.time t.place=true):Ae lo 345 [.agg [Iv t.time,Iv t.place]] h=some (.str (tx (FU t)),h):=by have h1:=DF ht;have h2:=Jp t.time.toNat;have h3:=Jp t.place.toNat;refine TW (h':=h) ?_;rw[Lr (by omega) (by omega)];simp only[Ac,A8];rw[Iy (by rw[CH,CH];simp only[zb6];omega),Id,Lr (by omega) (by omega)];simp only[Ac,A8];rw[Iy (by rw[CH,CH];simp only[zbX,zb6];omega),Id];simp[FU]
theorem Oq (h:∀ t∈l,A2 t.time t.place=true):(B7 l).length≤1011*l.length:=by
 induction l with
 | nil=>simp[B7]
 | cons t l ih =>have h1:=ih fun x hx=>h x (by simp[hx]);have h2:=Lt (h t (by simp));simp only[B7,zc7,zbX,zcF] at h1 ⊢;omega
theorem Uq (hs:RTags ro h [.sl 2 a l.length c] l F) (hp:∀ t∈l,A2 t.time t.place=true) (hn:l.length≤1048576):Ae lo 346 [.agg [.sl 2 a l.length c]] h=some (.str (tx (B7 l)),h):=by
 refine RH (h':=h) ?_;have loop:∀ m i,m+i=l.length→C7 (List.length h) (tx (B7 (l.take i))) (i:Nat) a l.length c h=some (.str (tx (B7 l)),h):=by
  intro m;induction m with
  | zero =>
   intro i hi;have:i=l.length:=by omega
   subst this;rw[C7.e,Ai (by omega),zdn]
  | succ m ih =>
   intro i hi;have hlt:i<l.length:=by omega
   obtain ⟨o,ha,ho⟩:=hs.get hlt;have hl:=Oq (l:=l.take i) fun t ht=>hp t (zdk ht);have hl2:=Lt (hp _ (zbO hlt));simp only[zcp] at hl;rw[C7.e,Ak (by omega),Iy (by rw[CH,CH];simp only[zb6];omega),Ad hlt];simp only[ha,Af,A7,ho,Ab,Aa,Ag];rw[PI (hp _ (zbO hlt))];simp only[Ac,A8];rw[Id,Iy (by rw[CH,CH];simp only[zbX,zb6];omega),Id,Am (by omega),← ha];have e9:B7 (l.take (i+1))=B7 (l.take i) ++ [32]++FU l[i]:=by rw[List.take_add_one,Dd hlt];simp only[B7,Option.toList,List.flatMap_append,zc7,List.flatMap_nil,zcB,zb4,List.singleton_append]
   have:=ih (i+1) (by omega);rw[e9] at this;exact this
 simpa [B7] using loop l.length 0 (by omega)
theorem DW (h:DY s=true):s.size≤8:=by simp only[DY,Dm,decide_eq_true_eq] at h;omega
theorem PF (hs:RTags ro h [.sl 2 a v.past.length c] v.past F) (hv:A3 v=true):Ae lo 324 [.agg (v.cs a c)] h=some (.str (tx (Ls v)),h):=by
 obtain ⟨⟨k1,k2⟩,ht,_,hp,htg,_⟩:=AN hv;have h0:=DW ht;have h4:=BK hp;have h1:=Jp v.key.toNat;have h2:=Lt htg;have h3:=Oq (JG hp);rw[h4] at h3;have e:=fun lo=>Uq (lo:=lo) hs (JG hp) (by omega);have hts:(⟨⟨[61]⟩⟩:ByteArray)++v.text=tx (61 :: v.text.data.toList):=by rw[← Vz v.text];exact Id
 have key:∀ (r:List UInt8) {T:Type} (K:ByteArray→Heap→Option T),r.length≤9→(Aj (Ae (List.length h) 344 [Iv v.key] h) fun v_1 h_2=>eT v_1 fun s_3=>MM s_3 ⟨⟨[32]⟩⟩ fun s_4=>Aj (Ae (List.length h) 345 [.agg [Iv v.tag.time,Iv v.tag.place]] h_2) fun v_5 h_6=>eT v_5 fun s_7=>MM s_4 s_7 fun s_8 =>
   Aj (Ae (List.length h) 346 [.agg [.sl 2 a v.past.length c]] h_6) fun v_9 h_10=>eT v_9 fun s_11=>MM s_8 s_11 fun s_12=>MM s_12 ⟨⟨[32]⟩⟩ fun s_13=>MM s_13 (tx r) fun s_14=>K s_14 h_10)=K (tx (J5 v.key.toNat++32 ::(FU v.tag++B7 v.past++32 :: r))) h:=by
  intro r T K hr;rw[Lr (by omega) (by omega)];simp only[Ac,A8];rw[Iy (by rw[CH,CH];simp only[zb6];omega)];rw[PI htg];simp only[Ac,A8];rw[Id,Iy (by rw[CH,CH];simp only[zbX,zb6];omega)];rw[e];simp only[Ac,A8];rw[Id,Iy (by rw[CH,CH];simp only[zbX,zb6];omega)];rw[Id,Iy (by rw[CH,CH];simp only[zbX,zb6];omega)];rw[Id,Iy (by rw[CH,CH];simp only[zbX,zb6];omega)];rw[Id];simp
 refine TS (h':=h) ?_;rw[Iy (by rw[CH];simp only[zb6];omega),hts];cases hg:v.gone
 ·rw[Au];refine (key (61 :: v.text.data.toList) (T:=V×Heap) (fun s h=>some (V.str s,h)) (by simp;omega)).trans ?_;simp[Ls,KK,hg]
 ·rw[An];refine (key [45] (T:=V×Heap) (fun s h=>some (V.str s,h)) (by simp)).trans ?_;simp[Ls,KK,hg]
theorem Up (hs:RTags ro h [.sl 2 a v.past.length c] v.past F) (hs':RTags ro' h [.sl 2 a' u.past.length c'] u.past F') (hv:A3 v=true) (hu:A3 u=true) :
  Ae lo 275 [.agg (v.cs a c),.agg (u.cs a' c')] h=some (.bool (DZ v u),h):=by
 refine RG (h':=h) ?_;rw[PF hs hv];simp only[Ac,A8];rw[PF hs' hu];simp only[Ac,A8,Xy];rw[UA hv hu];cases DZ v u<;>rfl
end


variable {l:List Ver}{v:Ver}{ro:Bool}
theorem Sli.at {α:Type}{El:Rel α} (ok:El.Ok) {h:Heap}{R R' e n k lo:Nat}{a:Pq}{c:Nq}{l:List α}{F:List Nat} (hs:Sli false R e El h [.sl R' a n c] l F) (hk:k<l.length) (hnd:F.Nodup) (hlo:∀ b∈F,lo≤b) :
  ∃ b i rs row G,a=some (b,i)∧b∈F∧b∉G∧h[b]?=some (.rows R e false rs)∧rs[i+k]?=some row∧El h row l[k] G∧(∀ y∈G,y∈F)∧G.Nodup ∧
   (∀ h' x' G',Mv h G h' G'→El h' row x' G'→∃ F',Sli false R e El h' [.sl R' a n c] (l.set k x') F'∧Mv h F h' F') ∧
   (∀ h1 G1 j cs row' x',Mv h G h1 G1→paste row j cs=some row'→El h1 row' x' G1 →
    ∃ h2 F',st lo h1 b (i+k) j cs=some h2∧Sli false R e El h2 [.sl R' a n c] (l.set k x') F'∧Mv h F h2 F'∧h2[b]?=some (.rows R e false (rs.set (i+k) row'))∧(∀ y,y≠b→h2[y]?=h1[y]?)∧h2.length=h1.length):=by
 have hbd:=(Sli.ok ok).bd _ _ _ _ hs;obtain ⟨b,i,rs,row,G,ha,hbF,hbG,hb,hrow,hel,hGF,hGn,put⟩:=hs.put ok.fr hk hnd;have hblt:b<h.length:=hbd b hbF;refine ⟨b,i,rs,row,G,ha,hbF,hbG,hb,hrow,hel,hGF,hGn,fun h' x' G' m hx=>?_,fun h1 G1 j cs row' x' m hp hx=>?_⟩
 ·obtain ⟨F',p1,p2,p3,_⟩:=put h' row x' G' (by rw[set_same hrow,m.fr b hblt hbG];exact hb) (fun y hy _ hyG=>m.fr y (hbd y hy) hyG) hx m.nd (fun y hy hyF=>by
   rcases m.sub y hy with h1 | h1
   ·exact h1
   ·have:=hbd y hyF;omega)
  refine ⟨F',p1,m.le,fun y hy hyF=>m.fr y hy fun hg=>hyF (hGF y hg),p3,fun y hy=>?_⟩;rcases p2 y hy with h1 | h1
  ·exact .inl h1.1
  ·exact (m.sub y h1).imp (hGF y) id
 ·have hbG1:b∉G1:=fun hm=>by
   rcases m.sub b hm with h1 | h1
   ·exact hbG h1
   ·omega
  have hb1:h1[b]?=some (.rows R e false rs):=by rw[m.fr b hblt hbG];exact hb
  have hb1lt:b<h1.length:=zb1 hblt m.le;have e2:=DA hb1 (hlo b hbF) hrow hp;have fr2:∀ y,y≠b→(h1.set b (.rows R e false (rs.set (i+k) row')))[y]?=h1[y]?:=fun y hy=>zbU (Ne.symm hy);obtain ⟨F',p1,p2,p3,_⟩:=put (h1.set b (.rows R e false (rs.set (i+k) row'))) row' x' G1 (by simp[hb1lt]) (fun y hy hyb hyG=>by rw[fr2 y hyb];exact m.fr y (hbd y hy) hyG)
   (ok.fr _ _ _ _ _ hx fun y hy=>fr2 y fun e=>hbG1 (e ▸ hy)) m.nd (fun y hy hyF=>by
   rcases m.sub y hy with h1 | h1
   ·exact h1
   ·have:=hbd y hyF;omega)
  refine ⟨_,F',e2,p1,⟨by simpa using m.le,fun y hy hyF=>?_,p3,fun y hy=>?_⟩,by simp[hb1lt],fr2,by simp⟩
  ·rw[fr2 y fun e=>hyF (e ▸ hbF)];exact m.fr y hy fun hg=>hyF (hGF y hg)
  ·rcases p2 y hy with h1 | h1
   ·exact .inl h1.1
   ·refine (m.sub y h1).imp (hGF y) fun h=>by simpa using h
def AT (v u:Ver):Bool:=HF v.tag.time v.tag.place u.tag.time u.tag.place
def DU (s t:List Ver):Bool:=decide (s.length=t.length)&&(s.zip t).all fun x=>DZ x.1 x.2
theorem sameVers_iff {s t:List Ver}:DU s t=true↔s=t:=by
 unfold DU;rw[Dm,decide_eq_true_eq,zb2];constructor
 ·rintro ⟨hl,hx⟩
  apply List.ext_getElem hl;intro i h1 h2;have:=hx (s[i],t[i]) (by rw[zcu];exact ⟨i,by simp;omega,by simp⟩);exact same_iff.1 this
 ·rintro rfl
  refine ⟨rfl,fun x hx=>?_⟩;obtain ⟨i,hi,rfl⟩:=zcu.1 hx;simp[same_iff]
def Ek (l:List Ver) (v:Ver):List Ver:=match l[v.key.toNat]? with
 | some x=>bif AT x v then l.set v.key.toNat v else l
 | none=>l
theorem LK (h:v.key.toNat<l.length):Ek l v=bif AT l[v.key.toNat] v then l.set v.key.toNat v else l:=by unfold Ek;rw[Dd h]
theorem addVer_len:(Ek l v).length=l.length:=by
 unfold Ek;split
 ·cases AT _ v<;>simp
 ·rfl
theorem Yz (h:A3 v=true):Hw v.key.toNat v=true:=by have:=(AN h).1;unfold Hw;rw[h,show (v.key==((v.key.toNat:Nat):Int))=true by rw[beq_iff_eq];omega];simp
theorem IJ (hl:AH l=true) (hv:A3 v=true):AH (l.set v.key.toNat v)=true:=by
 have h4:=AQ hl;unfold AH;rw[Dm,zb2,decide_eq_true_eq];refine ⟨fun x hx=>?_,by simpa using h4⟩;rw[zcV] at hx;have hi:=(Fh hx).1;rw[List.getElem?_set] at hx;split at hx
 ·rename_i he
  split at hx
  ·injection hx with hx;rw[← hx,← he];exact Yz hv
  ·cases hx
 ·rw[Dd (by simpa using hi)] at hx;injection hx with hx;rw[← hx];exact Cb hl _
theorem Uh (hl:AH l=true) (hv:A3 v=true):AH (Ek l v)=true:=by
 unfold Ek;split
 ·cases AT _ v
  ·exact hl
  ·exact IJ hl hv
 ·exact hl
def DC:List Ver→List Ver→Option (List Ver)
 | s,[]=>some s
 | s,v :: r=>match s[v.key.toNat]? with
  | some x=>bif AT x v then DC (s.set v.key.toNat v) r else none
  | none=>none
def Tk (x:Node) (next:List Ver):Bool:=match DC next x.wait with
 | some s=>DU s x.store
 | none=>false
def B6 (x:Node):Bool:=AH x.store&&decide ((x.wait.length:Int)≤6)&&x.wait.all A3
def EX (l:List Node) (k:Nat) (x:Node):Bool:=match l[k+1]? with
 | some y=>Tk x y.store
 | none=>decide (x.wait.length=0)
def Cz (l:List Node):Bool:=Al l.length 1 4&&l.all B6&&l.zipIdx.all fun x=>EX l x.2 x.1
theorem Ay {x:Node} (h:B6 x=true):AH x.store=true∧x.wait.length≤6∧∀ v∈x.wait,A3 v=true:=by simp only[B6,Dm,decide_eq_true_eq,zb2] at h;exact ⟨h.1.1,by have:=h.1.2;omega,h.2⟩
section
variable {lo:Nat}{h:Heap}{F F':List Nat}{a a':Pq}{c c':Nq}
theorem Qg {ca:Pq}{cc:Nq}{n:Nat} (hs:RVers ro h [.sl 6 a l.length c] l F) (hk:0≤v.key∧v.key<l.length) :
  Ae lo 187 [.agg [.sl 6 a l.length c],.agg [Iv v.key,Iv v.tag.time,Iv v.tag.place,.sl 2 ca n cc,.str v.text,.bool v.gone]] h=some (.bool (AT (l[v.key.toNat]'(by omega)) v),h):=by
 refine LU (h':=h) ?_;obtain ⟨o,s,b,d,G,ha,_,_,_,_,_,_,ho12,_⟩:=hs.all (show v.key.toNat<l.length by omega);rw[Cl ⟨by omega,by omega⟩,ha];simp only[Af,ho12,Ab,Aa,Ag,HV,Ac,Av];unfold AT;cases HF _ _ _ _<;>rfl
theorem Ql {l':List Ver}{ro':Bool} (hs:RVers ro h [.sl 6 a l.length c] l F) (hs':RVers ro' h [.sl 6 a' l'.length c'] l' F') (hn:Cy l) :
  Ae lo 288 [.sl 6 a l.length c,.sl 6 a' l'.length c',.fn 251 []] h=some (.bool (DU l l'),h):=by
 have hn1:=hn.1;refine Dc (h':=h) ?_;unfold DU;by_cases hl:l.length=l'.length
 ·rw[show ((l.length:Int)==(l'.length:Int))=true by simp;omega,An,decide_eq_true hl];have hz:(l.zip l').length=l.length:=by simp;omega
  refine (CQ (p:=fun x:Ver×Ver=>DZ x.1 x.2) (l:=l.zip l') (fun i=>Ar (List.length h) a' l'.length c' 251 [] false a l.length c (l.length:Nat) (i:Nat) h) (some (.bool false,h)) (some (.bool true,h)) (fun i hi=>?_) ?_).trans ?_
  ·have hil:i<l.length:=by omega
   have hil':i<l'.length:=by omega
   obtain ⟨o,s,b,d,G,ha,ho,es,hp,_⟩:=hs.get hil;obtain ⟨o',s',b',d',G',ha',ho',es',hp',_⟩:=hs'.get hil';rw[Ar.e,Ak (by omega),Ad hil];simp only[ha,ha',Af,A7,ho,ho',Ab,Aa,es,es',A8,Aw,Ag,Ad hil',Dh,zcB];rw[X1 hp hp' (hn.2 _ (zbO hil)).1];simp only[Ac,Av,zdo,Am (show i<9223372036854775807 by omega)];cases DZ l[i] l'[i]<;>simp
  ·rw[hz,Ar.e,Ai (by omega)]
  ·cases (l.zip l').all fun x=>DZ x.1 x.2<;>rfl
 ·rw[show ((l.length:Int)==(l'.length:Int))=false by simp;omega,Au,decide_eq_false hl];rfl
theorem ON {l':List Ver}{ro':Bool} (hs:RVers ro h [.sl 6 a l.length c] l F) (hs':RVers ro' h [.sl 6 a' l'.length c'] l' F') (hn:Cy l) :
  Ae lo 253 [.agg [.sl 6 a l.length c],.agg [.sl 6 a' l'.length c']] h=some (.bool (DU l l'),h):=by
 refine MX (h':=h) ?_;rw[Ql hs hs' hn];simp only[Ac,Av];cases DU l l'<;>rfl
theorem Lq {av:Pq}{cv:Nq}{G:List Nat} (hs:RVers false h [.sl 6 a l.length c] l F) (hv:RTags false h [.sl 2 av v.past.length cv] v.past G)
  (hnd:F.Nodup) (hlo:∀ b∈F,lo≤b) (hl:lo≤h.length) (hk:0≤v.key∧v.key<l.length) (hn:v.past.length≤1048576) :
  ∃ h' F',Ae lo 256 [.agg [.sl 6 a l.length c],.agg (v.cs av cv)] h=some (.agg [.sl 6 a l.length c],h')∧RVers false h' [.sl 6 a l.length c] (Ek l v) F'∧Mv h F h' F':=by
 have hkl:v.key.toNat<l.length:=by omega
 obtain ⟨o,s,b,d,G1,ha,_,_,_,_,_,_,ho12,_⟩:=hs.all hkl;suffices hk:∃ h' F',_=some (V.agg [.sl 6 a l.length c],h')∧RVers false h' [.sl 6 a l.length c] (Ek l v) F'∧Mv h F h' F' from hk.imp fun h' hk=>hk.imp fun F' hk=>⟨TU hk.1,hk.2⟩
 rw[Cl ⟨by omega,by omega⟩];simp only[ha,Af,ho12,Ab,Aa,Ag,BI,Ac,Av];rw[LK hkl];show ∃ h' F',br (AT l[v.key.toNat] v) _ _=_∧_;cases hle:AT l[v.key.toNat] v with
 | false=>exact ⟨h,F,rfl,by rw[← ha];exact hs,Mv.refl hnd⟩
 | true =>
  obtain ⟨b2,i2,rs,row,G2,ha2,hb2,hbG2,hbb,hrow,hel,hGF,hGn,_,wr⟩:=hs.at rver_ok hkl hnd hlo;obtain ⟨a3,c3,h3,F3,e3,r3,m3⟩:=CO (lo:=lo) (v:=v) hv hl hn;have hab:o=(b2,i2):=by rw[ha] at ha2;injection ha2
  subst hab;obtain ⟨h4,F4,e4,r4,m4,_⟩:=wr h3 F3 0 (v.cs a3 c3) (v.cs a3 c3) v (m3.wide (by simp)) (Dl (by obtain ⟨s,rfl,_⟩:=hel;rfl)) ⟨_,rfl,r3⟩;rw[An,e3];simp only[Ac,AC,Ab,Aa,Ah,A8,Aw,Ag];rw[Cl ⟨by omega,by omega⟩,e4];exact ⟨h4,F4,rfl,by rw[← ha];exact r4,m4⟩
end


variable {l:List Ver}{v:Ver}
theorem ST {T:Type}{b:Bool}{x y:Option T}:br b x y=if b=true then x else y:=by cases b<;>rfl
theorem Sli.row {α:Type}{El:Rel α} (hfr:El.Fr) {R R' e n k lo b i:Nat} (hln:El.Ln R) {h:Heap}{c:Nq}{l:List α}{G Gx:List Nat}{row:List V}{x:α} (hs:Sli false R e El h [.sl R' (some (b,i)) n c] l (b :: G)) (hb:b∉G) (hk:k<l.length) (hlo:lo≤b)
  (hx:El h row x Gx) (hbx:b∉Gx):∃ h' G',st lo h b (i+k) 0 row=some h'∧Sli false R e El h' [.sl R' (some (b,i)) n c] (l.set k x) (b :: G')∧b∉G'∧h'.length=h.length∧∀ y,y≠b→h'[y]?=h[y]?:=by
 have hn:=hs.val;subst hn;obtain ⟨R1,a1,c1,e1,e2⟩:=hs;injection e1 with e1 _;injection e1 with e0 e3 _ e4;subst e0;subst e3;subst e4;obtain ⟨hR,rs,Fs,g1,g2,g3,g4,g5,g6⟩:=e2;injection g6 with _ g6;subst g6;obtain ⟨row0,G0,k1,k2,k3⟩:=g5.get (Dd hk);have hblt:b<h.length:=(Fh g1).1;have hrow:rs[i+k]?=some row0:=by rw[zc8 hk,zcj] at k1;exact k1
 have hp:paste row0 0 row=some row:=Dl (by rw[hln _ _ _ _ k3,hln _ _ _ _ hx]);have fr2:∀ y,y≠b→(h.set b (.rows R e false (rs.set (i+k) row)))[y]?=h[y]?:=fun y hy=>zbU (Ne.symm hy);have hl1:((rs.set (i+k) row).drop i).take l.length=((rs.drop i).take l.length).set k row:=by rw[List.drop_set,if_neg (by omega),show i+k - i=k by omega,List.take_set]
 refine ⟨_,(Fs.set k Gx).flatten,DA g1 hlo hrow hp,⟨R',some (b,i),c,by simp,hR,rs.set (i+k) row,Fs.set k Gx,by simp[hblt],by simpa using g2,fun q hq=>by simpa using g3 q hq,g4,?_,rfl⟩,fun hm=>?_,by simp,fr2⟩
 ·rw[zcd,hl1];exact EAll.set (g5.fr hfr fun y hy=>fr2 y fun e=>hb (e ▸ hy)) (hfr _ _ _ _ _ hx fun y hy=>fr2 y fun e=>hbx (e ▸ hy))
 ·rcases Ec hm with h6 | h6
  ·exact hb h6
  ·exact hbx h6
theorem Z2 {ro:Bool}:(RVer ro).Ln 6:=by rintro h cs x F ⟨s,rfl,_⟩;rfl
theorem KG (h:Fb v=true):v=⟨0,⟨0,0⟩,[],⟨⟨[]⟩⟩,false⟩:=by obtain ⟨k,⟨t1,t2⟩,p,s,g⟩:=v;simp only[Fb,Ej,Dm,beq_iff_eq,decide_eq_true_eq,zcy] at h;obtain ⟨⟨⟨⟨h1,h2,h3⟩,h4⟩,h5⟩,h6⟩:=h;simp only[Ver.mk.injEq,Tag.mk.injEq];exact ⟨h1,⟨h2,h3⟩,zbY h4,KU (by rw[NR h5]),h6⟩
theorem CB {i:Nat} (h:Hw i v=true):Fb v=true∨(A3 v=true∧v.key=i):=by simp only[Hw,zcH,Dm,beq_iff_eq] at h;exact h
theorem DS (h:Fb v=true):v.tag.time=0∧v.tag.place=0:=by rw[KG h];exact ⟨rfl,rfl⟩
theorem PN {l':List Ver} (h:Cy l) (hl:l'.length≤1048576) (hs:∀ v∈l',v∈l):Cy l':=⟨hl,fun v hv=>h.2 v (hs v hv)⟩
theorem GN (h:AH l=true):Cy l:=by
 refine ⟨by have:=AQ h;omega,fun v hv=>?_⟩;obtain ⟨i,hi,rfl⟩:=zcu.1 hv;rcases CB (Cb h hi) with h1 | ⟨h1,_⟩
 ·rw[KG h1];exact ⟨by simp,by show 0≤_;omega⟩
 ·obtain ⟨_,h2,_,h3,_⟩:=AN h1;have:=DW h2;have:=BK h3;omega
section
variable {lo:Nat}{h:Heap}{F F':List Nat}{a a':Pq}{c c':Nq}
theorem Te {n:Int}:Ae lo 153 [Iv n] h=some (.bool (Al n 1 4),h):=QY (h':=h) (by simp[DB])
theorem ND {n k:Nat} (hn:n≤1048576):Ae lo 158 [.agg [.sl 2 a n c],Iv (k:Nat)] h=some (.bool (decide (k+1=n)),h):=by
 refine Na (h':=h) ?_;rw[wr (by omega) (by omega)];by_cases hk:k+1=n
 ·rw[show ((k:Int)==(n:Int) - 1)=true by rw[beq_iff_eq];omega,decide_eq_true hk];rfl
 ·rw[show ((k:Int)==(n:Int) - 1)=false by rw[beq_eq_false_iff_ne];omega,decide_eq_false hk];rfl
theorem X4 {x:Node}{next:List Ver}{a1 a2 a3:Pq}{c1 c2 c3:Nq}{F1 F2 F3:List Nat} (hs1:RVers false h [.sl 6 a1 x.store.length c1] x.store F1) (hs2:RVers false h [.sl 6 a2 x.wait.length c2] x.wait F2)
  (hs3:RVers false h [.sl 6 a3 next.length c3] next F3) (hx:B6 x=true) (hnx:AH next=true) :
  Ae lo 159 [.agg [.sl 6 a1 x.store.length c1,.sl 6 a2 x.wait.length c2],.agg [.sl 6 a3 next.length c3]] h=some (.bool (Tk x next),h):=by
 obtain ⟨hx1,hx2,hx3⟩:=Ay hx;obtain ⟨a5,c5,h5,F5,e5,r5,m5⟩:=IQ (lo:=h.length) hs3 (zbR _) (GN hnx);have h4:=AQ hnx;suffices hk:∃ h',_=some (V.bool (Tk x next),h') from hk.elim fun h' hk=>N7 hk;rw[e5];simp only[Ac,AC,Ab,Ah,Ag];have loop:∀ m i s hh b j G,m+i=x.wait.length→AH s=true→RVers false hh [.sl 6 (some (b,j)) s.length c5] s (b :: G)→b∉G→h.length≤b→Mv h [] hh [] →
   ∃ h',B9 (List.length h) false a2 x.wait.length c2 (x.wait.length:Nat) (i:Nat) a1 x.store.length c1 a2 x.wait.length c2 (some (b,j)) s.length c5 hh=some (V.bool (match DC s (x.wait.drop i) with | some s=>DU s x.store | none=>false),h'):=by
  intro m;induction m with
  | zero =>intro i s hh b j G hi hso hs hb hbl hm;rw[B9.e,Ai (by omega),ON hs (hm.keep0 rvers_ok hs1) (GN hso),show i=x.wait.length by omega,List.drop_length];simp only[Ac,Av,DC];exact ⟨hh,by cases DU s x.store<;>rfl⟩
  | succ m ih =>
   intro i s hh b j G hi hso hs hb hbl hm;have hlt:i<x.wait.length:=by omega
   have hvo:=hx3 _ (zbO hlt);have hk:=(AN hvo).1;have hs4:=AQ hso;have hkl:x.wait[i].key.toNat<s.length:=by omega
   obtain ⟨o,sv,b',d',G',ha,ho,es,hp,hG'⟩:=(hm.keep0 rvers_ok hs2).get hlt;have hbl2:=rvers_ok.bd _ _ _ _ hs2;rw[B9.e,Ak (by omega),Ad hlt];simp only[ha,Af,A7,ho,Ab,Aa,es,A8,Aw,Ag];rw[Qg (v:=x.wait[i]) hs ⟨by omega,by omega⟩];simp only[Ac,Av];rw[zca hlt];simp only[DC,Dd hkl];cases hle:AT s[x.wait[i].key.toNat] x.wait[i] with
   | false=>exact ⟨hh,rfl⟩
   | true =>obtain ⟨h6,G6,e6,r6,n6,l6,f6⟩:=Sli.row rver_ok.fr Z2 hs hb hkl hbl (row:=x.wait[i].cs b' d') (x:=x.wait[i]) ⟨_,rfl,hp⟩ (fun hm'=>by have:=hbl2 _ (hG' _ hm');omega);rw[An,Cl ⟨by omega,by omega⟩,e6,cond_true];simp only[Af];rw[← ha,Am (by omega)];have m6:Mv h [] h6 []:=⟨by rw[l6];exact hm.le,fun y hy hF=>by rw[f6 y (by omega)];exact hm.fr y hy hF,by simp,by simp⟩;have:=ih (i+1) (s.set x.wait[i].key.toNat x.wait[i]) h6 b j G6 (by omega) (IJ hso hvo) (by rw[zcd];exact r6) n6 hbl m6;rw[zcd] at this;exact this
 have:∃ b j G,a5=some (b,j)∧F5=b :: G∧b∉G∧h.length≤b:=by obtain ⟨b,i,rs,Fs,h1,h2,_,_,_,_,rfl⟩:=r5.data (k:=0) (by omega);exact ⟨b,i,_,h1,rfl,(zbV.1 m5.nd).1,m5.new b (by simp)⟩
 obtain ⟨b,j,G,rfl,rfl,hb,hbl⟩:=this;have:=loop x.wait.length 0 next h5 b j G (by omega) hnx r5 hb hbl m5.drop
 exact this
theorem JM {l:List Node} (hs:RNodes false h [.sl 2 a l.length c] l F) (hn:Ci l):Ae lo 68 [.agg [.sl 2 a l.length c]] h=some (.bool (Cz l),h):=by
 have hn1:=hn.1;refine Q6 (h':=h) ?_;rw[Te];simp only[Ac,Av];unfold Cz;cases hw:Al (l.length:Int) 1 4 with
 | false=>rfl
 | true =>
  have hl4:1≤l.length∧l.length≤4:=by simp[Al] at hw;omega
  rw[An];refine (CQ (p:=B6) (l:=l) (fun i=>Cf (List.length h) false a l.length c (l.length:Nat) (i:Nat) a l.length c h) (some (.bool false,h)) (Cf (List.length h) false a l.length c (l.length:Nat) (l.length:Nat) a l.length c h) (fun i hi=>?_) rfl).trans ?_
  ·obtain ⟨o,s1,s2,a1,c1,a2,c2,F1,F2,ha,ho,_,_,e1,e2,p1,p2,_⟩:=hs.get hi;have hm:=hn.2 _ (zbO hi);rw[Cf.e,Ak (by omega),Ad hi];simp only[ha,Af,A7,ho,Ab,e1,e2,Ag];rw[Tf p1 hm.1];simp only[Ac,Av];rw[Jx (p:=fun v => !A3 v) p2 hm.2.1 (fun lo v av cv Gv hv hvp=>N8 (h':=h) (by rw[Ly hvp (hm.2.2 v hv)];simp only[Ac,Av];cases A3 v<;>rfl))];simp only[Ac,Av,Am (show i<9223372036854775807 by omega),← ha];unfold B6;rw[List.any_eq_not_all_not];simp only[Bool.not_not];by_cases h6:(l[i].wait.length:Int)≤6
   ·rw[Ai (by omega),decide_eq_true h6];cases AH l[i].store<;>cases l[i].wait.all A3<;>simp
   ·rw[Ak (by omega),decide_eq_false h6];cases AH l[i].store<;>simp
  ·cases hall:l.all B6 with
   | false=>rfl
   | true =>
    rw[if_pos rfl,Cf.e,Ai (by omega)];have hno:=zb2.1 hall;refine (IY (p:=EX l) (l:=l) (fun i=>BA (List.length h) false a l.length c (l.length:Nat) (i:Nat) a l.length c h) (some (.bool false,h)) (some (.bool true,h)) (fun i hi=>?_) ?_).trans ?_
    ·obtain ⟨o,s1,s2,a1,c1,a2,c2,F1,F2,ha,ho,_,_,e1,e2,p1,p2,_⟩:=hs.get hi;have hm:=hn.2 _ (zbO hi);rw[BA.e,Ak (by omega),Ad hi];simp only[ha,Af,A7,ho,Ab,e1,e2,Ag,ND hn1,Ac,Av];by_cases hk:i+1=l.length
     ·rw[decide_eq_true hk,An,An];unfold EX;rw[zcn (by omega)];simp only[Am (show i<9223372036854775807 by omega)];by_cases h0:l[i].wait.length=0
      ·rw[Ai (by omega),decide_eq_true h0];rfl
      ·rw[Ak (by omega),decide_eq_false h0];rfl
     ·have hi1:i+1<l.length:=by omega
      obtain ⟨o',s1',s2',a1',c1',a2',c2',F1',F2',ha',_,ho1',_,e1',_,p1',_⟩:=hs.get hi1;have hoo:o'=o:=by rw[ha] at ha';injection ha' with ha';exact ha'.symm
      subst hoo;rw[decide_eq_false hk,Au];unfold EX;rw[Dd hi1];simp only[Au,Am (show i<9223372036854775807 by omega)];rw[Ad hi1];simp only[A7,ho1',Af,Ab,e1',Ag];rw[X4 p1 p2 p1' (hno _ (zbO hi)) (Ay (hno _ (zbO hi1))).1];simp only[Ac,Av];exact ST
    ·rw[BA.e,Ai (by omega)]
    ·cases (l.zipIdx.all fun x=>EX l x.2 x.1)<;>simp
end


variable {l:List Node}
theorem BY (h:Cz l=true):(1≤l.length∧l.length≤4)∧∀ x∈l,B6 x=true:=by simp only[Cz,Al,Dm,decide_eq_true_eq,zb2] at h;exact ⟨⟨by omega,by omega⟩,h.1.2⟩
theorem ML (h:Cz l=true) {i:Nat} (hi:i<l.length):EX l i l[i]=true:=by simp only[Cz,Dm,zb2] at h;exact h.2 (l[i],i) (by rw[zcV];simp[hi])
theorem EJ {α:Type}{p:Nat→α→Bool}{l:List α}:(l.zipIdx.all fun x=>p x.2 x.1)=true↔∀ i (hi:i<l.length),p i l[i]=true:=by
 rw[zb2];constructor
 ·intro h i hi;exact h (l[i],i) (by rw[zcV];simp[hi])
 ·rintro h ⟨x,i⟩ hx
  rw[zcV] at hx;obtain ⟨hi,hx⟩:=Fh hx;have:=h i hi;simp only at hx;rw[hx] at this;exact this
theorem TG {α:Type}{p:α→Bool}{l:List α}:l.all p=true↔∀ i (hi:i<l.length),p l[i]=true:=by rw[zb2];exact ⟨fun h i hi=>h _ (zbO hi),fun h x hx=>by obtain ⟨i,hi,rfl⟩:=zcu.1 hx;exact h i hi⟩
def HE (l:List Node) (k:Nat) (x:Node):Bool:=B6 x&&match l[k+1]? with
 | some y=>AH y.store&&Tk x y.store
 | none=>true
theorem Vi:Cz l=((l.zipIdx.all fun x=>HE l x.2 x.1)&&(Al l.length 1 4&&match l.getLast? with | some x=>decide (x.wait.length=0) | none=>false)):=by
 rw[zcX];unfold Cz;simp only[Dm];rw[EJ (p:=EX l),EJ (p:=HE l),TG (l:=l)];constructor
 ·rintro ⟨⟨h1,h2⟩,h3⟩
  have hl:1≤l.length:=by simp[Al] at h1;omega
  refine ⟨fun i hi=>?_,h1,?_⟩
  ·have:=h3 i hi;unfold EX at this;unfold HE;rw[h2 i hi];by_cases hi1:i+1<l.length
   ·rw[Dd hi1] at this ⊢;simp only at this;simp only[this,(Ay (h2 _ hi1)).1,Bool.and_self]
   ·rw[zcn (by omega)];rfl
  ·have:=h3 (l.length - 1) (by omega);unfold EX at this;rw[zcn (by omega)] at this;rw[zc5,Dd (by omega)];exact this
 ·rintro ⟨h1,h2,h3⟩
  have hno:∀ i (hi:i<l.length),B6 l[i]=true:=fun i hi=>by have:=h1 i hi;simp only[HE,Dm] at this;exact this.1
  refine ⟨⟨h2,hno⟩,fun i hi=>?_⟩;have:=h1 i hi;unfold HE at this;unfold EX;by_cases hi1:i+1<l.length
  ·rw[Dd hi1] at this ⊢;simp only[Dm] at this;exact this.2.2
  ·rw[zcn (by omega)];rw[zc5,Dd (by omega)] at h3;have e:l.length - 1=i:=by omega
   simp only[e] at h3;exact h3
section
variable {lo:Nat}{h:Heap}{F F':List Nat}{a a':Pq}{c c':Nq}
theorem Np {s t:List Ver} (hs:RVers false h [.sl 6 a s.length c] s F) (hs':RVers false h [.sl 6 a' t.length c'] t F') (h1:AH s=true) (h2:AH t=true) :
  Ae lo 257 [.agg [.sl 6 a s.length c],.agg [.sl 6 a' t.length c']] h=some (.bool (DU s t),h):=by
 have l1:=AQ h1;have l2:=AQ h2;have hz:(s.zip t).length=4:=by simp;omega
 refine LM (h':=h) ?_;refine (CQ (p:=fun x:Ver×Ver=>DZ x.1 x.2) (l:=s.zip t) (fun i=>Bs (List.length h) false (i:Nat) a s.length c a' t.length c' h) (some (.bool false,h)) (some (.bool true,h)) (fun i hi=>?_) ?_).trans ?_
 ·have hi1:i<s.length:=by omega
  have hi2:i<t.length:=by omega
  obtain ⟨o,sv,b,d,G,ha,_,ho1,_,_,_,_,ho12,ho,es,hp,_⟩:=hs.all hi1;obtain ⟨o',sv',b',d',G',ha',_,_,_,_,_,_,ho12',ho',es',hp',_⟩:=hs'.all hi2;rw[Bs.e,Ak (by omega),Ad hi1];simp only[ha,ha',Af,A7,ho12,ho12',ho1,ho,ho',Ab,Aa,es,es',A8,Aw,Ag,Ad hi1,Ad hi2,zcT,zdo,Am (show i<9223372036854775807 by omega)];have g1:=CB (Cb h1 hi1);have g2:=CB (Cb h2 hi2);cases htag:(s[i].tag.time==t[i].tag.time&&s[i].tag.place==t[i].tag.place) with
  | false =>
   have:DZ s[i] t[i]=false:=by unfold DZ;rw[htag];simp
   rw[this,Au];rfl
  | true =>
   rw[An];by_cases htm:s[i].tag.time>0
   ·rw[Ak htm];have o1:A3 s[i]=true:=by
     rcases g1 with g | g
     ·have:=DS g;omega
     ·exact g.1
    have o2:A3 t[i]=true:=by
     rcases g2 with g | g
     ·have:=DS g;simp at htag;omega
     ·exact g.1
    rw[Up hp hp' o1 o2];simp only[Ac,Av];exact ST
   ·rw[Ai htm];have o1:Fb s[i]=true:=by
     rcases g1 with g | g
     ·exact g
     ·have:=GL g.1;omega
    have o2:Fb t[i]=true:=by
     rcases g2 with g | g
     ·exact g
     ·have:=GL g.1;simp at htag;omega
    rw[if_pos (same_iff.2 (by rw[KG o1,KG o2]))]
 ·rw[hz,Bs.e,Ai (by omega)]
 ·unfold DU;rw[decide_eq_true (by omega)];cases (s.zip t).all fun x=>DZ x.1 x.2<;>rfl
theorem Un {x y:Node}{a1 a2 a3 a4:Pq}{c1 c2 c3 c4:Nq}{F1 F2 F3:List Nat} (hs1:RVers false h [.sl 6 a1 x.store.length c1] x.store F1) (hs2:RVers false h [.sl 6 a2 x.wait.length c2] x.wait F2)
  (hs3:RVers false h [.sl 6 a3 y.store.length c3] y.store F3) (hx:B6 x=true) (hy:Cy y.store) {n4:Nat} :
  Ae lo 163 [.agg [.sl 6 a1 x.store.length c1,.sl 6 a2 x.wait.length c2],.agg [.sl 6 a3 y.store.length c3,.sl 6 a4 n4 c4]] h=some (.bool (AH y.store&&Tk x y.store),h):=by
 obtain ⟨hx1,hx2,hx3⟩:=Ay hx;suffices hk:∃ h',_=some (V.bool (AH y.store&&Tk x y.store),h') from hk.elim fun h' hk=>RA hk;rw[Kf hs3 hy];simp only[Ac,Av];cases hyo:AH y.store with
 | false=>exact ⟨h,rfl⟩
 | true =>
  obtain ⟨v5,h5,F5,e5,r5,m5⟩:=GO (lo:=h.length) hs3 (zbR _) hy;obtain ⟨a5,c5,es5,r5⟩:=r5.form;rw[An,e5];simp only[Ac,AC,Ab,es5,Ag];have loop:∀ m i s hh G,m+i=x.wait.length→AH s=true→RVers false hh [.sl 6 a5 s.length c5] s G→Mv h [] hh G →
    ∃ h',C2 (List.length h) false (i:Nat) a1 x.store.length c1 a2 x.wait.length c2 a5 s.length c5 hh=some (V.bool (match DC s (x.wait.drop i) with | some s=>DU s x.store | none=>false),h'):=by
   intro m;induction m with
   | zero =>intro i s hh G hi hso hs hm;rw[C2.e,Ai (by omega),Np hs (hm.keep0 rvers_ok hs1) hso hx1,show i=x.wait.length by omega,List.drop_length];simp only[Ac,Av,DC];exact ⟨hh,by cases DU s x.store<;>rfl⟩
   | succ m ih =>
    intro i s hh G hi hso hs hm;have hlt:i<x.wait.length:=by omega
    have hvo:=hx3 _ (zbO hlt);have hk:=(AN hvo).1;have hs4:=AQ hso;have hkl:x.wait[i].key.toNat<s.length:=by omega
    obtain ⟨o,sv,b',d',G',ha,ho0,_,_,_,_,_,ho12,ho,es,hp,hG'⟩:=(hm.keep0 rvers_ok hs2).all hlt;obtain ⟨o2,sv2,b2,d2,G2,ha2,_,_,_,_,_,_,ho122,_⟩:=hs.all hkl;rw[C2.e,Ak (by omega),Ad hlt];simp only[ha,Af,A7,ho0,Ab,Aa,Ag];rw[Cl ⟨by omega,by omega⟩];simp only[ha2,Af,ho122,Ab,Aa,Ag,Ad hlt,ho12,BI,Ac,Av];rw[zca hlt];simp only[DC,Dd hkl];show ∃ h',br (AT s[x.wait[i].key.toNat] x.wait[i]) _ _=_;cases hle:AT s[x.wait[i].key.toNat] x.wait[i] with
    | false=>exact ⟨hh,rfl⟩
    | true =>
     obtain ⟨h6,F6,e6,r6,m6⟩:=Lq (lo:=h.length) (v:=x.wait[i]) hs hp hm.nd (hm.ge (zbR _) (by simp)) hm.le ⟨by omega,by omega⟩ (by have:=BK (AN hvo).2.2.2.1;omega);rw[An,cond_true];simp only[ho,Af,Ab,Aa,es,A8,Aw,Ag];rw[← ha2,e6];simp only[Ac,AC,Ab,Ah,Ag];rw[← ha,Am (by omega)];have hadd:Ek s x.wait[i]=s.set x.wait[i].key.toNat x.wait[i]:=by rw[LK hkl,hle];rfl
     rw[hadd] at r6;have:=ih (i+1) (s.set x.wait[i].key.toNat x.wait[i]) h6 F6 (by omega) (IJ hso hvo) (by rw[zcd];exact r6) (hm.trans m6);rw[zcd] at this;exact this
  obtain ⟨h',e⟩:=loop x.wait.length 0 y.store h5 F5 (by omega) hyo r5 m5;exact ⟨h',e⟩
theorem XD (hs:RNodes false h [.sl 2 a l.length c] l F) (hn:Ci l):Ae lo 70 [.agg [.sl 2 a l.length c]] h=some (.bool (Cz l),h):=by
 have hn1:=hn.1;refine Vt (h':=h) ?_;rw[Vi];have inner:∀ i (hi:i<l.length),AH l[i].store=true→(l[i].wait.length:Int)≤6→CL (List.length h) false (i:Nat) 0 a l.length c h=if HE l i l[i]=true then CM (List.length h) false ((i+1:Nat):Int) a l.length c h else some (.bool false,h):=by
  intro i hi hst h6;obtain ⟨o,s1,s2,a1,c1,a2,c2,F1,F2,ha,ho,ho1,ho2,e1,e2,p1,p2,_⟩:=hs.get hi;have hm:=hn.2 _ (zbO hi);refine (CQ (p:=A3) (l:=l[i].wait) (fun k=>CL (List.length h) false (i:Nat) (k:Nat) a l.length c h) (some (.bool false,h)) (CL (List.length h) false (i:Nat) (l[i].wait.length:Nat) a l.length c h) (fun k hk=>?_) rfl).trans ?_
  ·obtain ⟨o',s,b,d,G,ha',ho',es,hp,_⟩:=p2.get hk;rw[CL.e,Ad hi];simp only[ha,Af,A7,ho2,Ab,e2,Ag];rw[Ak (by omega),Ad hi];simp only[e2,Ad hk,ha',Af,ho',Ab,Aa,es,A8,Aw,Ag];rw[Nr hp (hm.2.2 _ (zbO hk))];simp only[Ac,Av,Am (show k<9223372036854775807 by have:=hm.2.1;omega),← ha];exact ST
  ·by_cases hall:l[i].wait.all A3=true
   ·rw[if_pos hall,CL.e,Ad hi];simp only[ha,Af,A7,ho2,Ab,e2,Ag];rw[Ai (by omega)];have hno:B6 l[i]=true:=by unfold B6;rw[hst,decide_eq_true h6,hall];rfl
    rw[Am (by omega)];unfold HE;rw[hno];by_cases hi1:i+1<l.length
    ·obtain ⟨o',s1',s2',a1',c1',a2',c2',F1',F2',ha',ho',_,_,e1',e2',p1',p2',_⟩:=hs.get hi1;have hoo:o'=o:=by rw[ha] at ha';injection ha' with ha';exact ha'.symm
     subst hoo;rw[Ak (by omega),Ad hi];simp only[ho,Af,Ab,e1,e2,Ag,Ad hi1,A7,ho',e1',e2'];rw[Un p1 p2 p1' hno (hn.2 _ (zbO hi1)).1,Dd hi1];simp only[Ac,Av,zb8];exact ST
    ·rw[Ai (by omega),zcn (by omega)];rfl
   ·rw[if_neg hall,if_neg];unfold HE B6;simp[hall]
 refine (IY (p:=HE l) (l:=l) (fun i=>CM (List.length h) false (i:Nat) a l.length c h) (some (.bool false,h)) (some (.bool (Al l.length 1 4&&match l.getLast? with | some x=>decide (x.wait.length=0) | none=>false),h)) (fun i hi=>?_) ?_).trans ?_
 ·obtain ⟨o,s1,s2,a1,c1,a2,c2,F1,F2,ha,ho,ho1,ho2,e1,e2,p1,p2,_⟩:=hs.get hi;have hm:=hn.2 _ (zbO hi);rw[CM.e,Ak (by omega),Ad hi];simp only[ha,Af,A7,ho1,Ab,e1,Ag];rw[Kf p1 hm.1];simp only[Ac,Av];cases hst:AH l[i].store with
  | false =>rw[if_neg (by unfold HE B6;simp[hst])];rfl
  | true =>
   rw[An,Ad hi];simp only[ho2,Af,Ab,e2,Ag];by_cases h6:(l[i].wait.length:Int)≤6
   ·rw[Ai (by omega),← ha];exact inner i hi hst h6
   ·rw[Ak (by omega),if_neg];unfold HE B6;rw[decide_eq_false h6];simp
 ·rw[CM.e,Ai (by omega),By];simp only[Ac,Av];cases hw:Al (l.length:Int) 1 4 with
  | false=>rfl
  | true =>
   have hl:1≤l.length:=by simp[Al] at hw;omega
   obtain ⟨o,s1,s2,a1,c1,a2,c2,F1,F2,ha,ho,ho1,ho2,e1,e2,p1,p2,_⟩:=hs.get (show l.length - 1<l.length by omega);rw[An,wr (by omega) (by omega),Cl ⟨by omega,by omega⟩,show ((l.length:Int) - 1).toNat=l.length - 1 by omega];simp only[ha,Af,ho2,Ab,e2,Ag];rw[zc5,Dd (by omega)];simp only[zb8];by_cases h0:l[l.length - 1].wait.length=0
   ·rw[h0];rfl
   ·rw[show ((l[l.length - 1].wait.length:Int)==0)=false by rw[beq_eq_false_iff_ne];omega,decide_eq_false h0];rfl
 ·cases (l.zipIdx.all fun x=>HE l x.2 x.1)<;>simp
end


variable {l:List Node}
def Fm (st:List Tag) (x:Node):Bool:=(x.store.all fun v => !decide (v.tag.time>0) || Ca v.past st)&&x.wait.all fun v=>Ca v.past st
def Ed (l:List Node):Bool:=l.all (Fm (AS l))
def D3 (l:List Node) (clock:Int):Bool:=match l[0]? with
 | some x=>x.store.all fun v=>decide (v.tag.time≤clock)
 | none=>false
def IR (me:Int) (i:Nat) (l:List Ver):Bool:=Ea i l&&(!((i:Int)==me) || decide (l.length=0))
def Ao (p:Place):Bool:=Al p.me 0 2&&Al p.clock 0 999&&decide (p.got.length=3)&&Cz p.chain&&Ed p.chain&&Ea p.me p.log&&(p.got.zipIdx.all fun x=>IR p.me x.2 x.1)&&D3 p.chain p.clock
theorem W3 {b:Bool}{h:Heap}:(if b=true then some (V.bool true,h) else some (V.bool false,h))=some (V.bool b,h):=by cases b<;>rfl
theorem JS (h:Cz l=true):Ci l:=by obtain ⟨h1,h2⟩:=BY h;refine ⟨by omega,fun x hx=>?_⟩;obtain ⟨g1,g2,g3⟩:=Ay (h2 x hx);refine ⟨GN g1,by omega,fun v hv=>?_⟩;obtain ⟨_,h2,_,h3,_⟩:=AN (g3 v hv);have:=DW h2;have:=BK h3;omega
theorem Jz (h:Cz l=true):(AS l).length=4:=by obtain ⟨h1,h2⟩:=BY h;rw[Jj (by omega)];simp only[BH,zdv];exact AQ (Ay (h2 _ (zbO _))).1
theorem BB {h:Heap}{b i j n R e:Nat}{ro:Bool}{rs:List (List V)}{row:List V} (hb:h[b]?=some (.rows R e ro rs)) (hi:rs[i]?=some row):ld h b i j n=cut row j n:=by simp[ld,Heap.rows?,hb,hi]
theorem Py {x:Node} (h:B6 x=true) {i:Nat} (hi:i<x.store.length) (ht:x.store[i].tag.time>0):x.store[i].past.length=4:=by
 rcases CB (Cb (Ay h).1 hi) with g | g
 ·have:=DS g;omega
 ·exact BK (AN g.1).2.2.2.1
theorem R3 {x:Node} (h:B6 x=true) {i:Nat} (hi:i<x.wait.length):x.wait[i].past.length=4:=BK (AN ((Ay h).2.2 _ (zbO hi))).2.2.2.1
section
variable {lo:Nat}{h:Heap}{F F':List Nat}{a a':Pq}{c c':Nq}
theorem Rc (hs:RNodes false h [.sl 2 a l.length c] l F) (hc:Cz l=true):Ae lo 177 [.agg [.sl 2 a l.length c]] h=some (.bool (Ed l),h):=by
 obtain ⟨hl4,hno⟩:=BY hc;have hst:=Jz hc;obtain ⟨v1,h1,F1,e1,r1,m1⟩:=I4 (lo:=h.length) hs (zbR _) (JS hc) (by omega);obtain ⟨a3,c3,es3,r1⟩:=r1.form;refine OT (h':=h1) ?_;rw[e1];simp only[Ac,AC,Ab,es3,Ag];have hs1:=m1.keep0 rnodes_ok hs;refine (CQ (p:=Fm (AS l)) (l:=l) (fun i=>B4 (List.length h) false (i:Nat) a l.length c a3 (AS l).length c3 h1) (some (.bool false,h1)) (some (.bool true,h1)) (fun i hi=>?_) ?_).trans ?_
 ·have hno:=hno _ (zbO hi);have hsl:=AQ (Ay hno).1;have hwl:=(Ay hno).2.1;obtain ⟨o,s1,s2,b1,d1,b2,d2,G1,G2,ha,ho,ho1,ho2,e1,e2,p1,p2,_⟩:=hs1.get hi;rw[B4.e,Ak (by omega)];refine (CQ (p:=fun v:Ver => !decide (v.tag.time>0) || Ca v.past (AS l)) (l:=l[i].store) (fun k=>B3 (List.length h) false (i:Nat) (k:Nat) a l.length c a3 (AS l).length c3 h1) (some (.bool false,h1)) (B0 (List.length h) false (i:Nat) 0 a l.length c a3 (AS l).length c3 h1) (fun k hk=>?_) ?_).trans ?_
  ·obtain ⟨o',s,b,d,G,ha',ho',es,hp,_⟩:=p1.get hk;rw[B3.e,Ak (by omega),Ad hi];simp only[ha,Af,A7,ho1,Ab,e1,Ag,Ad hk,ha',ho',Aa,es,A8,Aw,Am (show k<9223372036854775807 by omega)];by_cases ht:l[i].store[k].tag.time>0
   ·rw[Ak ht,E5 hp r1 (Py hno hk ht) hst];simp only[Ac,Av,decide_eq_true ht,zcE,zcL,← ha];exact ST
   ·rw[Ai ht,decide_eq_false ht,← ha];rfl
  ·rw[B3.e,Ai (by omega)]
  ·unfold Fm;cases hall:l[i].store.all fun v:Ver => !decide (v.tag.time>0) || Ca v.past (AS l) with
   | false=>rw[if_neg Bool.false_ne_true,zcZ,if_neg Bool.false_ne_true]
   | true =>
    rw[if_pos rfl,zb8];refine CQ (p:=fun v:Ver=>Ca v.past (AS l)) (l:=l[i].wait) (fun k=>B0 (List.length h) false (i:Nat) (k:Nat) a l.length c a3 (AS l).length c3 h1) (some (.bool false,h1)) (B4 (List.length h) false ((i+1:Nat):Int) a l.length c a3 (AS l).length c3 h1) (fun k hk=>?_) ?_
    ·obtain ⟨o',s,b,d,G,ha',_,_,_,ho3,_,_,_,_,es,hp,_⟩:=p2.all hk;rw[B0.e,Ad hi];simp only[ha,Af,A7,ho2,Ab,e2,Ag];rw[Ak (by omega),Ad hi];simp only[e2,Ad hk,ha',Af,ho3,Ab,es,Ag];rw[E5 hp r1 (R3 hno hk) hst];simp only[Ac,Av,Am (show k<9223372036854775807 by omega),← ha];exact ST
    ·rw[B0.e,Ad hi];simp only[ha,Af,A7,ho2,Ab,e2,Ag];rw[Ai (by omega),Am (by omega)]
 ·rw[B4.e,Ai (by omega)]
 ·unfold Ed;cases l.all (Fm (AS l))<;>rfl
theorem R9 {p:Place}{a1 a2 a3:Pq}{c1 c2 c3:Nq}{F1 F2 F3:List Nat} (hs1:RNodes false h [.sl 2 a1 p.chain.length c1] p.chain F1) (hs2:RVers false h [.sl 6 a2 p.log.length c2] p.log F2)
  (hs3:RVss false h [.sl 1 a3 p.got.length c3] p.got F3) (hn:CT p):Ae lo 82 [.agg (p.cs a1 c1 a2 c2 a3 c3)] h=some (.bool (Ao p),h):=by
 refine Vs (h':=h) ?_;simp only[By,Ac,Av];unfold Ao;cases Al p.me 0 2 with
 | false=>rfl
 | true =>
 cases Al p.clock 0 999 with
 | false=>rfl
 | true =>
 by_cases hg:¬ p.got.length=3
 ·rw[show ((p.got.length:Int)==3)=false by rw[beq_eq_false_iff_ne];omega,decide_eq_false hg];rfl
 have hg:p.got.length=3:=by omega
 rw[show ((p.got.length:Int)==3)=true by rw[beq_iff_eq];omega,decide_eq_true hg];simp only[An];rw[XD hs1 hn.1];simp only[Ac,Av];cases hc:Cz p.chain with
 | false=>rfl
 | true =>
 rw[An,Rc hs1 hc];simp only[Ac,Av];cases Ed p.chain with
 | false=>rfl
 | true =>
 rw[An,PD hs2 hn.2.1];simp only[Ac,Av];cases Ea p.me p.log with
 | false=>rfl
 | true =>
 obtain ⟨hl4,hno⟩:=BY hc;simp only[An,zb8,zcT];refine (IY (p:=IR p.me) (l:=p.got) (fun i=>Dj (List.length h) false (i:Nat) p.me p.clock a1 p.chain.length c1 a2 p.log.length c2 a3 p.got.length c3 p.fell h) (some (.bool false,h)) (some (.bool (D3 p.chain p.clock),h)) (fun i hi=>?_) ?_).trans ?_
 ·obtain ⟨o,s,b,d,G,ha,ho,es,hp,_⟩:=hs3.get hi;rw[Dj.e,Ak (by omega),Ad hi];simp only[ha,Af,A7,ho,Ab,es,Ag];rw[PD hp (hn.2.2.2 _ (zbO hi))];simp only[Ac,Av,Ad hi,ho,Af,Ab,es,Ag,Am (show i<9223372036854775807 by omega),← ha];unfold IR;by_cases h0:p.got[i].length=0
  ·rw[Ai (by omega),decide_eq_true h0];cases Ea i p.got[i]<;>cases ((i:Int)==p.me)<;>rfl
  ·rw[Ak (by omega),decide_eq_false h0];cases Ea i p.got[i]<;>cases ((i:Int)==p.me)<;>rfl
 ·obtain ⟨o,s1,s2,b1,d1,b2,d2,G1,G2,ha,ho,ho1,ho2,e1,e2,q1,q2,_⟩:=hs1.get (show 0<p.chain.length by omega);have hsl:=AQ (Ay (hno _ (zbO (show 0<p.chain.length by omega)))).1;rw[Dj.e,Ai (by omega),show (0:Int)=((0:Nat):Int) from rfl,Ad (by omega)];simp only[ha,Af,ho1,Ab,e1,Ag];unfold D3;rw[Dd (show 0<p.chain.length by omega)];refine (CQ (p:=fun v:Ver=>decide (v.tag.time≤p.clock)) (l:=p.chain[0].store) (fun k=>DJ (List.length h) false (k:Nat) p.me p.clock (some o) p.chain.length c1 a2 p.log.length c2 a3 p.got.length c3 p.fell b1 p.chain[0].store.length d1 h) (some (.bool false,h)) (some (.bool true,h)) (fun k hk=>?_) ?_).trans ?_
  ·obtain ⟨o',s,b,d,G,ha',_,ho1',_⟩:=q1.all hk;rw[DJ.e,Ak (by omega),Ad hk];simp only[ha',Af,A7,ho1',Ab,Aa,Ag,Am (show k<9223372036854775807 by omega)];by_cases ht:p.chain[0].store[k].tag.time≤p.clock
   ·rw[Ai (by omega),decide_eq_true ht];rfl
   ·rw[Ak (by omega),decide_eq_false ht];rfl
  ·rw[DJ.e,Ai (by omega)]
  ·exact W3
 ·cases (p.got.zipIdx.all fun x=>IR p.me x.2 x.1)<;>cases D3 p.chain p.clock<;>rfl
end
end Go.Proofs.YtoihoaaiadagaaaGreat
