/- Part 3 of what is shown for the law FnPlaceJoin, whatever the input; no condition of its own. -/
import Derived.Test.YthdfojchihooeaaGreatBPPlaceJoin2
set_option linter.unusedVariables false
set_option linter.unusedSimpArgs false
set_option linter.unnecessarySimpa false
namespace Go.Proofs.YthdfojchihooeaaGreat
open Go T

set_option maxRecDepth 100000
theorem zoa {lo n0 aB aE aH:Nat}{a0 aA aD aG:Pq}{c0 aC aF aI:Nq}{x1 aJ aK aL:Int}{s1:ByteArray}{b1:Bool}{h:Heap}{r:V×Heap} (hk:(inB aJ aB (eO aA fun v=>eO (ld h v.1 (v.2+aJ.toNat) 0 5) fun v=>eC v fun v l=>eI .i64 v fun v=>eC l fun l c=>eS 2 l fun l n a=>eC c fun c o=>eI .i64 c fun c=>eC o fun o s=>eI .i64 o fun o=>eC s fun o s=>eI .i64 o fun o=>eN s (inB v n0 (eO a0 fun o=>eO (ld h o.1 (o.2+v.toNat) 2 1) fun v=>eC v fun v o=>eS 2 v fun v s b=>eN o (br (decide (c>0)) (some (.tup [.agg [.sl 6 a0 n0 c0,.sl 5 aA aB aC,.sl 9 aD aE aF,.sl 5 aG aH aI],.bool false],h)) (cal (evl lo 78 [.int .i64 aL,.int .i64 0,.int .i64 3] h) fun c o=>eB c (cal (evl lo 78 [.int .i64 aK,.int .i64 0,.int .i64 (IntKind.wrap .i64 (((↑s:Int)) - 1))] o) fun c x=>eB c (br (decide ((↑aH:Int)≥80)) (some (.tup [.agg [.sl 6 a0 n0 c0,.sl 5 aA aB aC,.sl 9 aD aE aF,.sl 5 aG aH aI],.bool false],x)) (cal (evl lo 80 [.agg [.sl 2 v s b],.int .i64 aK,.int .i64 aL] x) fun v c=>eA v fun v=>eC v fun v s=>eI .i64 v fun v=>eC s fun v s=>eI .i64 v fun v=>eC s fun s b=>eI .i64 s fun s=>eC b fun b y=>eS 2 b fun b z u=>eC y fun y w=>eT y fun y=>eC w fun y w=>eBv y fun y=>eN w (inB aL n (eO l fun y=>eO (ld c y.1 (y.2+aL.toNat) 0 2) fun y=>eC y fun y w=>eI .i64 y fun y=>eC w fun w p=>eI .i64 w fun w=>eN p (cal (evl lo 79 [.agg [.int .i64 v,.int .i64 s],.agg [.int .i64 y,.int .i64 w]] c) fun c y=>eB c (some (.tup [.agg [.sl 6 a0 n0 c0,.sl 5 aA aB aC,.sl 9 aD aE aF,.sl 5 aG aH aI],.bool false],y)) (br (decide (v>0)) (cal (evl lo 210 [.agg [.sl 2 l n a],.agg [.sl 2 b z u]] y) fun l c=>eA l fun l=>eC l fun l n=>eS 2 l fun l a b=>eN n (cal (evl lo 307 [.agg [.sl 2 l a b],.int .i64 aL,.agg [.int .i64 v,.int .i64 s]] c) fun l c=>eA l fun l=>eC l fun l n=>eS 2 l fun l a b=>eN n (inB aJ aB (eO aA fun n=>eO (st lo c n.1 (n.2+aJ.toNat) 1 [.sl 2 l a b]) fun l=>cal (evl lo 335 [.agg [.sl 6 a0 n0 c0,.sl 5 aA aB aC,.sl 9 aD aE aF,.sl 5 aG aH aI],.int .i64 aJ,.int .i64 2,.int .i64 aL,.agg [.int .i64 v,.int .i64 s]] l) fun l c=>eA l fun l=>eC l fun l n=>eS 6 l fun l a b=>eC n fun n z=>eS 5 n fun n u w=>eC z fun z p=>eS 9 z fun z q g=>eC p fun p i=>eS 5 p fun p j k=>eN i (some (.tup [.agg [.sl 6 l a b,.sl 5 n u w,.sl 9 z q g,.sl 5 p j k],.bool true],c)))))) (cal (evl lo 335 [.agg [.sl 6 a0 n0 c0,.sl 5 aA aB aC,.sl 9 aD aE aF,.sl 5 aG aH aI],.int .i64 aJ,.int .i64 2,.int .i64 aL,.agg [.int .i64 v,.int .i64 s]] y) fun v l=>eA v fun v=>eC v fun v c=>eS 6 v fun v n a=>eC c fun c s=>eS 5 c fun c b y=>eC s fun s z=>eS 9 s fun s u w=>eC z fun z p=>eS 5 z fun z q g=>eN p (some (.tup [.agg [.sl 6 v n a,.sl 5 c b y,.sl 9 s u w,.sl 5 z q g],.bool true],l))))))))) (some (.tup [.agg [.sl 6 a0 n0 c0,.sl 5 aA aB aC,.sl 9 aD aE aF,.sl 5 aG aH aI],.bool false],x))) (some (.tup [.agg [.sl 6 a0 n0 c0,.sl 5 aA aB aC,.sl 9 aD aE aF,.sl 5 aG aH aI],.bool false],o))))))))=some r) :
  evl lo 290 [.agg [.sl 6 a0 n0 c0,.sl 5 aA aB aC,.sl 9 aD aE aF,.sl 5 aG aH aI],.agg [.int .i64 x1,.int .i64 aJ,.int .i64 aK,.int .i64 aL,.str s1,.bool b1]] h=some r :=
 zaf Tryz.func290 (by kernel_rfl) (Eq.trans (by kernel_rfl) hk)
noncomputable def zcI (lo:Nat) (x9:Int) (aA:Pq) (aB:Nat) (aC:Nq) (aD:Pq) (aE:Nat) (aF:Nq) (aG:Pq) (aH:Nat) (aI:Nq) (aJ:Pq) (aK:Nat) (aL:Nq) (aM aN aO aP:Int) (aQ:ByteArray) (aR:Bool) (aS:Nat) (aT:Pq) (aU:Nat) (aV:Nq) (aW:Nat) (aX:Pq) (aY:Nat) (aZ:Nq) (bA:Nat) (bB:Pq) (bC:Nat) (bD:Nq) (bE:Nat) (bF:Pq) (bG:Nat) (bH:Nq) (bI:Pq) (bJ:Nat) (bK:Nq) (h:Heap):Option (V×Heap) :=
 Lp (X 291) lo (cb (cb (cr (cl (cr (cr (cr (cr (cr (code Tryz.f291)))))))))) 0 (zae 0 (kS (X 291) lo (cr (cr (cr (cr (cr (cr (code Tryz.f291))))))) 0 (zaP (X 291) Tryz.f291.results.toList))) ⟨[(2,.lp 2 0),(3,.lp 3 0),(4,.lp 4 0),(8,.lp 8 0),(9,.int .i64 x9)],[(2,[.sl 6 aA aB aC,.sl 5 aD aE aF,.sl 9 aG aH aI,.sl 5 aJ aK aL]),(3,[.int .i64 aM,.int .i64 aN,.int .i64 aO,.int .i64 aP,.str aQ,.bool aR]),(4,[.sl aS aT aU aV,.sl aW aX aY aZ,.sl bA bB bC bD,.sl bE bF bG bH]),(8,[.sl 6 bI bJ bK])],h⟩
theorem zpY {lo n0 aB aE aH:Nat}{a0 aA aD aG:Pq}{c0 aC aF aI:Nq}{x1 aJ aK aL:Int}{s1:ByteArray}{b1:Bool}{h:Heap}{r:V×Heap} (hk:(inB aJ aB (eO aA fun v=>eO (ld h v.1 (v.2+aJ.toNat) 0 5) fun v=>eC v fun v l=>eI .i64 v fun v=>eC l fun l c=>eS 2 l fun l n a=>eC c fun c o=>eI .i64 c fun c=>eC o fun o s=>eI .i64 o fun o=>eC s fun o s=>eI .i64 o fun o=>eN s (inB v n0 (eO a0 fun o=>eO (ld h o.1 (o.2+v.toNat) 2 1) fun v=>eC v fun v o=>eS 2 v fun v s b=>eN o (inB (IntKind.wrap .i64 (((↑s:Int)) - 1)) s (eO v fun v=>eO (ld h v.1 (v.2+((IntKind.i64.wrap ((↑s:Int) - (1:Int))).toNat)) 0 1) fun v=>eC v fun v o=>eS 6 v fun v s b=>eN o (br (decide (c>0)) (some (.tup [.agg [.sl 6 a0 n0 c0,.sl 5 aA aB aC,.sl 9 aD aE aF,.sl 5 aG aH aI],.bool false],h)) (cal (evl h.length 211 [.agg [.sl 6 v s b]] h) fun c o=>eA c fun c=>eC c fun c x=>eS 2 c fun c y z=>eN x (cal (evl lo 212 [.agg [.sl 2 l n a],.agg [.sl 2 c y z]] o) fun l c=>eB l (br (decide (IntKind.i64.wrap ((↑aH:Int)+(4:Int))>80)) (some (.tup [.agg [.sl 6 a0 n0 c0,.sl 5 aA aB aC,.sl 9 aD aE aF,.sl 5 aG aH aI],.bool false],c)) (zcI lo 0 a0 n0 c0 aA aB aC aD aE aF aG aH aI x1 aJ aK aL s1 b1 0 none 0 (some 0) 0 none 0 (some 0) 0 none 0 (some 0) 0 none 0 (some 0) v s b c)) (some (.tup [.agg [.sl 6 a0 n0 c0,.sl 5 aA aB aC,.sl 9 aD aE aF,.sl 5 aG aH aI],.bool false],c)))))))))))=some r) :
  evl lo 291 [.agg [.sl 6 a0 n0 c0,.sl 5 aA aB aC,.sl 9 aD aE aF,.sl 5 aG aH aI],.agg [.int .i64 x1,.int .i64 aJ,.int .i64 aK,.int .i64 aL,.str s1,.bool b1]] h=some r :=
 zaf Tryz.func291 (by kernel_rfl) (Eq.trans (by kernel_rfl) hk)
theorem zcI.e {lo aB aE aH aK aS aU aW aY bA bC bE bG bJ:Nat}{x9 aM aN aO aP:Int}{aA aD aG aJ aT aX bB bF bI:Pq}{aC aF aI aL aV aZ bD bH bK:Nq}{aQ:ByteArray}{aR:Bool}{h:Heap} :
  zcI lo x9 aA aB aC aD aE aF aG aH aI aJ aK aL aM aN aO aP aQ aR aS aT aU aV aW aX aY aZ bA bB bC bD bE bF bG bH bI bJ bK h=br (decide (x9<4)) (inB aN aE (eO aD fun v=>eO (ld h v.1 (v.2+aN.toNat) 1 1) fun v=>eC v fun v l=>eS 2 v fun v c n=>eN l (inB x9 bJ (eO bI fun l=>eO (ld h l.1 (l.2+x9.toNat) 1 2) fun l=>eC l fun l a=>eI .i64 l fun l=>eC a fun a o=>eI .i64 a fun a=>eN o (cal (evl lo 307 [.agg [.sl 2 v c n],.int .i64 x9,.agg [.int .i64 l,.int .i64 a]] h) fun v l=>eA v fun v=>eC v fun v c=>eS 2 v fun v n a=>eN c (inB aN aE (eO aD fun c=>eO (st lo l c.1 (c.2+aN.toNat) 1 [.sl 2 v n a]) fun v=>inB x9 bJ (eO bI fun l=>eO (ld v l.1 (l.2+x9.toNat) 1 2) fun l=>eC l fun l c=>eI .i64 l fun l=>eC c fun c n=>eI .i64 c fun c=>eN n (cal (evl lo 335 [.agg [.sl 6 aA aB aC,.sl 5 aD aE aF,.sl 9 aG aH aI,.sl 5 aJ aK aL],.int .i64 aN,.int .i64 2,.int .i64 x9,.agg [.int .i64 l,.int .i64 c]] v) fun v l=>eA v fun v=>eC v fun v c=>eS 6 v fun v n a=>eC c fun c o=>eS 5 c fun c s b=>eC o fun o x=>eS 9 o fun o y z=>eC x fun x u=>eS 5 x fun x w p=>eN u (zcI lo (IntKind.wrap .i64 (x9+1)) v n a c s b o y z x w p aM aN aO aP aQ aR aS aT aU aV aW aX aY aZ bA bB bC bD bE bF bG bH bI bJ bK l)))))))))) (some (.tup [.agg [.sl 6 aA aB aC,.sl 5 aD aE aF,.sl 9 aG aH aI,.sl 5 aJ aK aL],.bool true],h)) :=
 Lp_eq.trans (by kernel_rfl)
theorem zkl {lo n0 aC aF:Nat}{x0 aA x1:Int}{a0 aB aE:Pq}{c0 aD aG:Nq}{b0:Bool}{h h':Heap}{v:V} (hk:(br (!b0) (br (!b0) (br (!b0) (br (!b0) (br (!b0) (br (decide ((↑n0:Int)>1)) (br (!b0) (cal (evl h.length 78 [.int .i64 x1,.int .i64 0,.int .i64 (IntKind.wrap .i64 (((↑n0:Int)) - 1))] h) fun l c=>eB l (some (.bool true,c)) (some (.bool false,c))) (some (.bool false,h))) (br (!b0) (some (.bool false,h)) (some (.bool false,h)))) (br (!b0) none (some (.bool false,h)))) (br (!b0) none (br (!b0) none (some (.bool false,h))))) (br (!b0) none (br (!b0) none (br (!b0) none (some (.bool false,h)))))) (br (!b0) none (br (!b0) none (br (!b0) none (br (!b0) none (some (.bool false,h))))))) (br (!b0) none (br (!b0) none (br (!b0) none (br (!b0) none (br (!b0) none (some (.bool false,h))))))))=some (v,h')) (hn:noId v=true:=by rfl) :
  evl lo 292 [.agg [.int .i64 x0,.int .i64 aA,.sl 2 a0 n0 c0,.sl 6 aB aC aD,.sl 1 aE aF aG,.bool b0],.int .i64 x1] h=some (v,h) :=
 zag Tryz.func292 (by kernel_rfl) (Eq.trans (by kernel_rfl) hk) hn
noncomputable def zbl (lo:Nat) (a3:Pq) (n3:Nat) (c3:Nq) (a9:Pq) (n9:Nat) (c9:Nq) (aA aB:Int) (h:Heap):Option (V×Heap) :=
 Lp (X 293) lo (cb (cb (cr (cl (cr (cr (code Tryz.f293))))))) 0 (zae 0 (kS (X 293) lo (cr (cr (cr (code Tryz.f293)))) 0 (zaP (X 293) Tryz.f293.results.toList))) ⟨[(3,.sl 6 a3 n3 c3),(9,.sl 6 a9 n9 c9),(10,.int .i64 aA),(11,.int .i64 aB)],[],h⟩
theorem zjF {lo n0:Nat}{a0:Pq}{c0:Nq}{h:Heap}{r:V×Heap} (hk:(zc7 (decide ((0:Int)≤0∧(0:Int)≤(↑n0:Int)∧(↑n0:Int)≤140737488355328∧(↑n0:Int)*(↑(72:Nat):Int)≤281474976710656)) (zbl lo (some (h.length,0)) 0 (some n0) a0 n0 c0 ((↑n0:Int)) 0 (h ++ [.rows 6 65 false (List.replicate n0 [.int .i64 0,.int .i64 0,.int .i64 0,.sl 0 none 0 (some 0),.str ⟨⟨[]⟩⟩,.bool false])])))=some r) :
  evl lo 293 [.sl 6 a0 n0 c0] h=some r :=
 zaf Tryz.func293 (by kernel_rfl) (Eq.trans (by kernel_rfl) hk)
theorem zbl.e {lo n3 n9:Nat}{a3 a9:Pq}{c3 c9:Nq}{aA aB:Int}{h:Heap} :
  zbl lo a3 n3 c3 a9 n9 c9 aA aB h=br (decide (aB<aA)) (inB aB n9 (eO a9 fun v=>eO (ld h v.1 (v.2+aB.toNat) 0 6) fun v=>eC v fun v l=>eI .i64 v fun v=>eC l fun l c=>eI .i64 l fun l=>eC c fun c n=>eI .i64 c fun c=>eC n fun n a=>eS 2 n fun n o s=>eC a fun a b=>eT a fun a=>eC b fun b x=>eBv b fun b=>eN x (cal (evl lo 186 [.agg [.int .i64 v,.int .i64 l,.int .i64 c,.sl 2 n o s,.str a,.bool b]] h) fun v l=>eA v fun v=>eC v fun v c=>eI .i64 v fun v=>eC c fun c n=>eI .i64 c fun c=>eC n fun n a=>eI .i64 n fun n=>eC a fun a o=>eS 2 a fun a s b=>eC o fun o x=>eT o fun o=>eC x fun x y=>eBv x fun x=>eN y (zaq 6 (l ++ [.rows 6 65 false [[.int .i64 v,.int .i64 c,.int .i64 n,.sl 2 a s b,.str o,.bool x]]]) (.sl 6 (some (l.length,0)) 1 (some 1)) fun y=>app lo 65 6 72 (.sl 6 a3 n3 c3) y (l ++ [.rows 6 65 false [[.int .i64 v,.int .i64 c,.int .i64 n,.sl 2 a s b,.str o,.bool x]]]) fun v l=>eS 6 v fun v c n=>zbl lo v c n a9 n9 c9 aA (IntKind.wrap .i64 (aB+1)) l)))) (some (.sl 6 a3 n3 c3,h)) :=
 Lp_eq.trans (by kernel_rfl)
theorem zeK {lo n0:Nat}{a0:Pq}{c0:Nq}{h:Heap}{r:V×Heap} (hk:(zaz a0 n0 c0 none (some (.int .i64 ((↑n0:Int)))) (some (.int .i64 ((↑n0:Int)))) fun v l c=>some (.sl 2 v l c,h))=some r) :
  evl lo 294 [.sl 2 a0 n0 c0] h=some r :=
 zaf Tryz.func294 (by kernel_rfl) (Eq.trans (by kernel_rfl) hk)
theorem zcL {lo n0:Nat}{a0:Pq}{c0:Nq}{h:Heap}{r:V×Heap} (hk:(br (a0.isNone) (some (.sl 0 none 0 (some 0),h)) (zaq 2 (h ++ [.rows 2 60 false []]) (.sl 2 a0 n0 c0) fun v=>app lo 60 2 16 (.sl 2 (some (h.length,0)) 0 (some 0)) v (h ++ [.rows 2 60 false []]) fun v l=>eS 2 v fun v c n=>some (.sl 2 v c n,l)))=some r) :
  evl lo 295 [.sl 2 a0 n0 c0] h=some r :=
 zaf Tryz.func295 (by kernel_rfl) (Eq.trans (by kernel_rfl) hk)
noncomputable def zei (lo aA aB aC:Nat) (aD:Pq) (aE:Nat) (aF:Nq) (aG aH aI aJ aK aL:Int) (aM:ByteArray) (aN:Bool) (h:Heap):Option (V×Heap) :=
 Lp (X 299) lo (cb (cb (cr (cl (cr (cr (cr (cr (code Tryz.f299))))))))) 0 (zae 0 (kS (X 299) lo (cr (cr (cr (cr (cr (code Tryz.f299)))))) 0 (zaP (X 299) Tryz.f299.results.toList))) ⟨[(0,.ptr (some (aA,(aB,aC)))),(5,.lp 5 0),(39,.sl 2 aD aE aF),(40,.int .i64 aG),(41,.int .i64 aH)],[(5,[.int .i64 aI,.int .i64 aJ,.int .i64 aK,.int .i64 aL,.str aM,.bool aN])],h⟩
theorem zei.e {lo aA aB aC aE:Nat}{aD:Pq}{aF:Nq}{aG aH aI aJ aK aL:Int}{aM:ByteArray}{aN:Bool}{h:Heap} :
  zei lo aA aB aC aD aE aF aG aH aI aJ aK aL aM aN h=br (decide (aH<aG)) (inB aH aE (eO aD fun v=>eO (ld h v.1 (v.2+aH.toNat) 0 2) fun v=>eC v fun v l=>eI .i64 v fun v=>eC l fun l c=>eI .i64 l fun l=>eN c (cal (evl lo 337 [.ptr (some (aA,(aB,aC))),.int .i64 aJ,.int .i64 2,.int .i64 aH,.agg [.int .i64 v,.int .i64 l]] h) fun v l=>eU v fun v=>eN v (zei lo aA aB aC aD aE aF aG (IntKind.wrap .i64 (aH+1)) aI aJ aK aL aM aN l)))) (some (.bool true,h)) :=
 Lp_eq.trans (by kernel_rfl)
theorem zp8 {lo:Nat}{x0 aA x1 aB:Int}{h h':Heap}{v:V} (hk:(cal (evl h.length 79 [.agg [.int .i64 x0,.int .i64 aA],.agg [.int .i64 x1,.int .i64 aB]] h) fun l c=>eB l (some (.agg [.int .i64 x1,.int .i64 aB],c)) (some (.agg [.int .i64 x0,.int .i64 aA],c)))=some (v,h')) (hn:noId v=true:=by rfl) :
  evl lo 302 [.agg [.int .i64 x0,.int .i64 aA],.agg [.int .i64 x1,.int .i64 aB]] h=some (v,h) :=
 zag Tryz.func302 (by kernel_rfl) (Eq.trans (by kernel_rfl) hk) hn
noncomputable def zdF (lo:Nat) (a0:Pq) (n0:Nat) (c0:Nq) (a1:Pq) (n1:Nat) (c1:Nq) (b7:Bool) (x8 aA aB:Int) (aC:Nat) (aD:Pq) (aE:Nat) (aF:Nq) (h:Heap):Option (V×Heap) :=
 Lp (X 303) lo (cb (cb (cr (cl (cr (code Tryz.f303)))))) 0 (zae 0 (kS (X 303) lo (cr (cr (code Tryz.f303))) 0 (zaP (X 303) Tryz.f303.results.toList))) ⟨[(0,.sl 5 a0 n0 c0),(1,.sl 1 a1 n1 c1),(5,.lp 5 0),(6,.lp 6 0),(7,.bool b7),(8,.int .i64 x8)],[(5,[.int .i64 aA,.int .i64 aB]),(6,[.sl aC aD aE aF])],h⟩
theorem zdF.e {lo n0 n1 aC aE:Nat}{a0 a1 aD:Pq}{c0 c1 aF:Nq}{b7:Bool}{x8 aA aB:Int}{h:Heap} :
  zdF lo a0 n0 c0 a1 n1 c1 b7 x8 aA aB aC aD aE aF h=br (decide (x8<(↑n0:Int))) (inB x8 n0 (eO a0 fun v=>eO (ld h v.1 (v.2+x8.toNat) 1 1) fun v=>eC v fun v l=>eN l (eI .i64 v fun v=>br (v==1) (inB x8 n0 (eO a0 fun v=>eO (ld h v.1 (v.2+x8.toNat) 3 2) fun v=>eC v fun v l=>eI .i64 v fun v=>eC l fun l c=>eI .i64 l fun l=>eN c (br ((v==aA)&&((l==aB)&&true)) (inB x8 n1 (eO a1 fun v=>eO (ld h v.1 (v.2+x8.toNat) 0 1) fun v=>eC v fun v l=>eS 2 v fun v c n=>eN l (some (.tup [.agg [.sl 2 v c n],.bool true],h)))) (zdF lo a0 n0 c0 a1 n1 c1 b7 (IntKind.wrap .i64 (x8+1)) aA aB aC aD aE aF h)))) (zdF lo a0 n0 c0 a1 n1 c1 b7 (IntKind.wrap .i64 (x8+1)) aA aB aC aD aE aF h)))) (some (.tup [.agg [.sl 0 none 0 (some 0)],.bool false],h)) :=
 Lp_eq.trans (by kernel_rfl)
noncomputable def zfb (lo:Nat) (b4:Bool) (x5:Int) (aA:Pq) (aB:Nat) (aC:Nq) (aD aE:Int) (h:Heap):Option (V×Heap) :=
 Lp (X 304) lo (cb (cb (cr (cl (cr (code Tryz.f304)))))) 0 (zae 0 (kS (X 304) lo (cr (cr (code Tryz.f304))) 0 (zaP (X 304) Tryz.f304.results.toList))) ⟨[(2,.lp 2 0),(3,.lp 3 0),(4,.bool b4),(5,.int .i64 x5)],[(2,[.sl 2 aA aB aC]),(3,[.int .i64 aD,.int .i64 aE])],h⟩
theorem zfb.e {lo aB:Nat}{b4:Bool}{x5 aD aE:Int}{aA:Pq}{aC:Nq}{h:Heap} :
  zfb lo b4 x5 aA aB aC aD aE h=br (decide (x5<4)) (inB x5 aB (eO aA fun v=>eO (ld h v.1 (v.2+x5.toNat) 0 1) fun v=>eC v fun v l=>eN l (eI .i64 v fun v=>br (decide (v≥aD)) (some (.bool false,h)) (zfb lo b4 (IntKind.wrap .i64 (x5+1)) aA aB aC aD aE h)))) (some (.bool true,h)) :=
 Lp_eq.trans (by kernel_rfl)
noncomputable def zfx (lo:Nat) (a0:Pq) (n0:Nat) (c0:Nq) (b4:Bool) (x5 aA aB aC aD aE:Int) (h:Heap):Option (V×Heap) :=
 Lp (X 305) lo (cb (cb (cr (cl (cr (code Tryz.f305)))))) 0 (zae 0 (kS (X 305) lo (cr (cr (code Tryz.f305))) 0 (zaP (X 305) Tryz.f305.results.toList))) ⟨[(0,.sl 5 a0 n0 c0),(3,.lp 3 0),(4,.bool b4),(5,.int .i64 x5)],[(3,[.int .i64 aA,.int .i64 aB,.int .i64 aC,.int .i64 aD,.int .i64 aE])],h⟩
theorem zfx.e {lo n0:Nat}{a0:Pq}{c0:Nq}{b4:Bool}{x5 aA aB aC aD aE:Int}{h:Heap} :
  zfx lo a0 n0 c0 b4 x5 aA aB aC aD aE h=br (decide (x5<(↑n0:Int))) (inB x5 n0 (eO a0 fun v=>eO (ld h v.1 (v.2+x5.toNat) 1 1) fun v=>eC v fun v l=>eN l (eI .i64 v fun v=>br (v==1) (inB x5 n0 (eO a0 fun v=>eO (ld h v.1 (v.2+x5.toNat) 3 2) fun v=>eC v fun v l=>eI .i64 v fun v=>eC l fun l c=>eI .i64 l fun l=>eN c (br ((v==aD)&&((l==aE)&&true)) (inB x5 n0 (eO a0 fun v=>eO (ld h v.1 (v.2+x5.toNat) 2 1) fun v=>eC v fun v l=>eN l (eI .i64 v fun v=>br (v==aC) (some (.bool true,h)) (some (.bool false,h))))) (zfx lo a0 n0 c0 b4 (IntKind.wrap .i64 (x5+1)) aA aB aC aD aE h)))) (zfx lo a0 n0 c0 b4 (IntKind.wrap .i64 (x5+1)) aA aB aC aD aE h)))) (some (.bool false,h)) :=
 Lp_eq.trans (by kernel_rfl)
noncomputable def zeP (lo:Nat) (a0:Pq) (n0:Nat) (c0:Nq) (b4:Bool) (x5 aA aB aC aD aE:Int) (h:Heap):Option (V×Heap) :=
 Lp (X 306) lo (cb (cb (cr (cl (cr (code Tryz.f306)))))) 0 (zae 0 (kS (X 306) lo (cr (cr (code Tryz.f306))) 0 (zaP (X 306) Tryz.f306.results.toList))) ⟨[(0,.sl 5 a0 n0 c0),(3,.lp 3 0),(4,.bool b4),(5,.int .i64 x5)],[(3,[.int .i64 aA,.int .i64 aB,.int .i64 aC,.int .i64 aD,.int .i64 aE])],h⟩
theorem zeP.e {lo n0:Nat}{a0:Pq}{c0:Nq}{b4:Bool}{x5 aA aB aC aD aE:Int}{h:Heap} :
  zeP lo a0 n0 c0 b4 x5 aA aB aC aD aE h=br (decide (x5<(↑n0:Int))) (inB x5 n0 (eO a0 fun v=>eO (ld h v.1 (v.2+x5.toNat) 1 1) fun v=>eC v fun v l=>eN l (eI .i64 v fun v=>br (v==1) (inB x5 n0 (eO a0 fun v=>eO (ld h v.1 (v.2+x5.toNat) 3 2) fun v=>eC v fun v l=>eI .i64 v fun v=>eC l fun l c=>eI .i64 l fun l=>eN c (br ((v==aD)&&((l==aE)&&true)) (inB x5 n0 (eO a0 fun v=>eO (ld h v.1 (v.2+x5.toNat) 0 1) fun v=>eC v fun v l=>eN l (eI .i64 v fun v=>br (v==aA) (some (.bool true,h)) (some (.bool false,h))))) (zeP lo a0 n0 c0 b4 (IntKind.wrap .i64 (x5+1)) aA aB aC aD aE h)))) (zeP lo a0 n0 c0 b4 (IntKind.wrap .i64 (x5+1)) aA aB aC aD aE h)))) (some (.bool false,h)) :=
 Lp_eq.trans (by kernel_rfl)
theorem zox {lo n0:Nat}{a0:Pq}{c0:Nq}{x1 x2 aA:Int}{h:Heap}{r:V×Heap} (hk:(zaq 2 (h ++ [.rows 2 60 false []]) (.sl 2 a0 n0 c0) fun v=>app lo 60 2 16 (.sl 2 (some (h.length,0)) 0 (some 0)) v (h ++ [.rows 2 60 false []]) fun v l=>eS 2 v fun v c n=>inB x1 c (eO v fun a=>eO (ld l a.1 (a.2+x1.toNat) 0 2) fun a=>eC a fun a o=>eI .i64 a fun a=>eC o fun o s=>eI .i64 o fun o=>eN s (cal (evl lo 302 [.agg [.int .i64 a,.int .i64 o],.agg [.int .i64 x2,.int .i64 aA]] l) fun l a=>eA l fun l=>eC l fun l o=>eI .i64 l fun l=>eC o fun o s=>eI .i64 o fun o=>eN s (inB x1 c (eO v fun s=>eO (st lo a s.1 (s.2+x1.toNat) 0 [.int .i64 l,.int .i64 o]) fun l=>some (.agg [.sl 2 v c n],l))))))=some r) :
  evl lo 307 [.agg [.sl 2 a0 n0 c0],.int .i64 x1,.agg [.int .i64 x2,.int .i64 aA]] h=some r :=
 zaf Tryz.func307 (by kernel_rfl) (Eq.trans (by kernel_rfl) hk)
noncomputable def zbL (lo:Nat) (x0 x4:Int) (aA:Nat) (aB:Pq) (aC:Nat) (aD:Nq) (aE:Nat) (aF:Pq) (aG:Nat) (aH:Nq) (h:Heap):Option (V×Heap) :=
 Lp (X 310) lo (cb (cb (cr (cl (cr (cr (cr (code Tryz.f310)))))))) 0 (zae 0 (kS (X 310) lo (cr (cr (cr (cr (code Tryz.f310))))) 0 (zaP (X 310) Tryz.f310.results.toList))) ⟨[(0,.int .i64 x0),(2,.lp 2 0),(3,.lp 3 0),(4,.int .i64 x4)],[(2,[.sl aA aB aC aD]),(3,[.sl aE aF aG aH])],h⟩
theorem zl5 {lo:Nat}{x0:Int}{h:Heap}{r:V×Heap} (hk:(cal (evl lo 78 [.int .i64 x0,.int .i64 1,.int .i64 4] h) fun v l=>eB v (zbL lo x0 0 0 none 0 (some 0) 0 none 0 (some 0) l) (some (.agg [.sl 0 none 0 (some 0)],l)))=some r) :
  evl lo 310 [.int .i64 x0] h=some r :=
 zaf Tryz.func310 (by kernel_rfl) (Eq.trans (by kernel_rfl) hk)
theorem zbL.e {lo aA aC aE aG:Nat}{x0 x4:Int}{aB aF:Pq}{aD aH:Nq}{h:Heap} :
  zbL lo x0 x4 aA aB aC aD aE aF aG aH h=br (decide (x4<x0)) (cal (evl lo 340 [] h) fun v l=>eA v fun v=>eC v fun v c=>eS 6 v fun v n a=>eN c (zaq 2 (l ++ [.rows 2 76 false [[.sl 6 v n a,.sl 0 none 0 (some 0)]]]) (.sl 2 (some (l.length,0)) 1 (some 1)) fun c=>app lo 76 2 48 (.sl aE aF aG aH) c (l ++ [.rows 2 76 false [[.sl 6 v n a,.sl 0 none 0 (some 0)]]]) fun v l=>eS 2 v fun v c n=>zbL lo x0 (IntKind.wrap .i64 (x4+1)) aA aB aC aD 2 v c n l)) (some (.agg [.sl aE aF aG aH],h)) :=
 Lp_eq.trans (by kernel_rfl)
noncomputable def zbI (lo aA aB aC:Nat) (x4:Int) (aD:Nat) (aE:Pq) (aF:Nat) (aG:Nq) (aH:Pq) (aI:Nat) (aJ:Nq) (h:Heap):Option (V×Heap) :=
 Lp (X 311) lo (cb (cb (cr (cl (cr (cr (code Tryz.f311))))))) 0 (zae 0 (kS (X 311) lo (cr (cr (cr (code Tryz.f311)))) 0 (zaP (X 311) Tryz.f311.results.toList))) ⟨[(0,.ptr (some (aA,(aB,aC)))),(2,.lp 2 0),(3,.lp 3 0),(4,.int .i64 x4)],[(2,[.sl aD aE aF aG]),(3,[.sl 6 aH aI aJ])],h⟩
theorem zlY {lo aA aB aC:Nat}{h:Heap}{r:V×Heap} (hk:(cal (evl lo 340 [] h) fun v l=>eA v fun v=>eC v fun v c=>eS 6 v fun v n a=>eN c (cal (evl lo 109 [.ptr (some (aA,(aB,aC))),.int .i64 7] l) fun l c=>eI .i64 l fun l=>zbI lo aA aB aC l 0 none 0 (some 0) v n a c))=some r) :
  evl lo 311 [.ptr (some (aA,(aB,aC)))] h=some r :=
 zaf Tryz.func311 (by kernel_rfl) (Eq.trans (by kernel_rfl) hk)
theorem zbI.e {lo aA aB aC aD aF aI:Nat}{x4:Int}{aE aH:Pq}{aG aJ:Nq}{h:Heap} :
  zbI lo aA aB aC x4 aD aE aF aG aH aI aJ h=br (decide (x4>0)) (cal (evl lo 245 [.ptr (some (aA,(aB,aC)))] h) fun v l=>eA v fun v=>eC v fun v c=>eI .i64 v fun v=>eC c fun c n=>eI .i64 c fun c=>eC n fun n a=>eI .i64 n fun n=>eC a fun a o=>eS 2 a fun a s b=>eC o fun o x=>eT o fun o=>eC x fun x y=>eBv x fun x=>eN y (cal (evl lo 312 [.agg [.sl 6 aH aI aJ],.agg [.int .i64 v,.int .i64 c,.int .i64 n,.sl 2 a s b,.str o,.bool x]] l) fun v l=>eA v fun v=>eC v fun v c=>eS 6 v fun v n a=>eN c (zbI lo aA aB aC (IntKind.wrap .i64 (x4 - 1)) aD aE aF aG v n a l))) (some (.agg [.sl 6 aH aI aJ],h)) :=
 Lp_eq.trans (by kernel_rfl)
theorem zp6 {lo n0 n1:Nat}{a0 a1:Pq}{c0 c1:Nq}{x1 aA aB:Int}{s1:ByteArray}{b1:Bool}{h:Heap}{r:V×Heap} (hk:(inB x1 n0 (eO a0 fun v=>eO (ld h v.1 (v.2+x1.toNat) 1 2) fun v=>eC v fun v l=>eI .i64 v fun v=>eC l fun l c=>eI .i64 l fun l=>eN c (cal (evl lo 79 [.agg [.int .i64 v,.int .i64 l],.agg [.int .i64 aA,.int .i64 aB]] h) fun v l=>eB v (cal (evl lo 181 [.agg [.int .i64 x1,.int .i64 aA,.int .i64 aB,.sl 2 a1 n1 c1,.str s1,.bool b1]] l) fun v c=>eA v fun v=>eC v fun v n=>eI .i64 v fun v=>eC n fun n a=>eI .i64 n fun n=>eC a fun a o=>eI .i64 a fun a=>eC o fun o s=>eS 2 o fun o b x=>eC s fun s y=>eT s fun s=>eC y fun y z=>eBv y fun y=>eN z (inB x1 n0 (eO a0 fun z=>eO (st lo c z.1 (z.2+x1.toNat) 0 [.int .i64 v,.int .i64 n,.int .i64 a,.sl 2 o b x,.str s,.bool y]) fun v=>some (.agg [.sl 6 a0 n0 c0],v)))) (some (.agg [.sl 6 a0 n0 c0],l)))))=some r) :
  evl lo 312 [.agg [.sl 6 a0 n0 c0],.agg [.int .i64 x1,.int .i64 aA,.int .i64 aB,.sl 2 a1 n1 c1,.str s1,.bool b1]] h=some r :=
 zaf Tryz.func312 (by kernel_rfl) (Eq.trans (by kernel_rfl) hk)
noncomputable def zaW (lo:Nat) (b4:Bool) (x5:Int) (aA:Pq) (aB:Nat) (aC:Nq) (aD:Pq) (aE:Nat) (aF:Nq) (h:Heap):Option (V×Heap) :=
 Lp (X 313) lo (cb (cb (cr (cl (cr (code Tryz.f313)))))) 0 (zae 0 (kS (X 313) lo (cr (cr (code Tryz.f313))) 0 (zaP (X 313) Tryz.f313.results.toList))) ⟨[(2,.lp 2 0),(3,.lp 3 0),(4,.bool b4),(5,.int .i64 x5)],[(2,[.sl 6 aA aB aC]),(3,[.sl 6 aD aE aF])],h⟩
theorem ziZ {lo n0 n1:Nat}{a0 a1:Pq}{c0 c1:Nq}{h h':Heap}{v:V} (hk:(zaW h.length false 0 a0 n0 c0 a1 n1 c1 h)=some (v,h')) (hn:noId v=true:=by rfl) :
  evl lo 313 [.agg [.sl 6 a0 n0 c0],.agg [.sl 6 a1 n1 c1]] h=some (v,h) :=
 zag Tryz.func313 (by kernel_rfl) (Eq.trans (by kernel_rfl) hk) hn
theorem zaW.e {lo aB aE:Nat}{b4:Bool}{x5:Int}{aA aD:Pq}{aC aF:Nq}{h:Heap} :
  zaW lo b4 x5 aA aB aC aD aE aF h=br (decide (x5<4)) (inB x5 aB (eO aA fun v=>eO (ld h v.1 (v.2+x5.toNat) 1 2) fun v=>eC v fun v l=>eI .i64 v fun v=>eC l fun l c=>eI .i64 l fun l=>eN c (inB x5 aE (eO aD fun c=>eO (ld h c.1 (c.2+x5.toNat) 1 2) fun c=>eC c fun c n=>eI .i64 c fun c=>eC n fun n a=>eI .i64 n fun n=>eN a (br ((v==c)&&((l==n)&&true)) (inB x5 aB (eO aA fun v=>eO (ld h v.1 (v.2+x5.toNat) 1 1) fun v=>eC v fun v l=>eN l (eI .i64 v fun v=>br (decide (v>0)) (inB x5 aB (eO aA fun v=>eO (ld h v.1 (v.2+x5.toNat) 0 6) fun v=>eC v fun v l=>eI .i64 v fun v=>eC l fun l c=>eI .i64 l fun l=>eC c fun c n=>eI .i64 c fun c=>eC n fun n a=>eS 2 n fun n o s=>eC a fun a b=>eT a fun a=>eC b fun b x=>eBv b fun b=>eN x (inB x5 aE (eO aD fun x=>eO (ld h x.1 (x.2+x5.toNat) 0 6) fun x=>eC x fun x y=>eI .i64 x fun x=>eC y fun y z=>eI .i64 y fun y=>eC z fun z u=>eI .i64 z fun z=>eC u fun u w=>eS 2 u fun u p q=>eC w fun w g=>eT w fun w=>eC g fun g i=>eBv g fun g=>eN i (cal (evl lo 275 [.agg [.int .i64 v,.int .i64 l,.int .i64 c,.sl 2 n o s,.str a,.bool b],.agg [.int .i64 x,.int .i64 y,.int .i64 z,.sl 2 u p q,.str w,.bool g]] h) fun v l=>eB v (zaW lo b4 (IntKind.wrap .i64 (x5+1)) aA aB aC aD aE aF l) (some (.bool false,l))))))) (zaW lo b4 (IntKind.wrap .i64 (x5+1)) aA aB aC aD aE aF h)))) (some (.bool false,h))))))) (some (.bool true,h)) :=
 Lp_eq.trans (by kernel_rfl)
theorem zma {lo:Nat}{x0:Int}{h h':Heap}{v:V} (hk:(br (x0==x0) (some (.bool false,h)) (some (.bool true,h)))=some (v,h')) (hn:noId v=true:=by rfl) :
  evl lo 314 [.int .i64 x0] h=some (v,h) :=
 zag Tryz.func314 (by kernel_rfl) (Eq.trans (by kernel_rfl) hk) hn
noncomputable def zay (lo:Nat) (a0:Pq) (n0:Nat) (c0:Nq) (a1:Pq) (n1:Nat) (c1:Nq) (b4:Bool) (aA aB:Int) (h:Heap):Option (V×Heap) :=
 Lp (X 317) lo (cb (cb (cr (cl (cr (cr (code Tryz.f317))))))) 0 (zae 0 (kS (X 317) lo (cr (cr (cr (code Tryz.f317)))) 0 (zaP (X 317) Tryz.f317.results.toList))) ⟨[(0,.sl 2 a0 n0 c0),(1,.sl 2 a1 n1 c1),(4,.bool b4),(12,.int .i64 aA),(13,.int .i64 aB)],[],h⟩
theorem zen {lo n0 n1:Nat}{a0 a1:Pq}{c0 c1:Nq}{h h':Heap}{v:V} (hk:(br ((↑n0:Int)==(↑n1:Int)) (zay h.length a0 n0 c0 a1 n1 c1 false ((↑n0:Int)) 0 h) (some (.bool false,h)))=some (v,h')) (hn:noId v=true:=by rfl) :
  evl lo 317 [.sl 2 a0 n0 c0,.sl 2 a1 n1 c1] h=some (v,h) :=
 zag Tryz.func317 (by kernel_rfl) (Eq.trans (by kernel_rfl) hk) hn
theorem zay.e {lo n0 n1:Nat}{a0 a1:Pq}{c0 c1:Nq}{b4:Bool}{aA aB:Int}{h:Heap} :
  zay lo a0 n0 c0 a1 n1 c1 b4 aA aB h=br (decide (aB<aA)) (inB aB n0 (eO a0 fun v=>eO (ld h v.1 (v.2+aB.toNat) 0 2) fun v=>eC v fun v l=>eI .i64 v fun v=>eC l fun l c=>eI .i64 l fun l=>eN c (inB aB n1 (eO a1 fun c=>eO (ld h c.1 (c.2+aB.toNat) 0 2) fun c=>eC c fun c n=>eI .i64 c fun c=>eC n fun n a=>eI .i64 n fun n=>eN a (br ((v==c)&&((l==n)&&true)) (zay lo a0 n0 c0 a1 n1 c1 b4 aA (IntKind.wrap .i64 (aB+1)) h) (some (.bool false,h))))))) (some (.bool true,h)) :=
 Lp_eq.trans (by kernel_rfl)
noncomputable def zcs (lo:Nat) (s0:ByteArray) (b2:Bool) (x5 x6:Int) (h:Heap):Option (V×Heap) :=
 Lp (X 318) lo (cb (cb (cr (cl (cr (code Tryz.f318)))))) 0 (zae 0 (kS (X 318) lo (cr (cr (code Tryz.f318))) 0 (zaP (X 318) Tryz.f318.results.toList))) ⟨[(0,.str s0),(2,.bool b2),(5,.int .i64 x5),(6,.int .i64 x6)],[],h⟩
theorem zoE {lo:Nat}{s0:ByteArray}{h h':Heap}{v:V} (hk:(zcs h.length s0 false ((↑s0.size:Int)) 0 h)=some (v,h')) (hn:noId v=true:=by rfl) :
  evl lo 318 [.str s0] h=some (v,h) :=
 zag Tryz.func318 (by kernel_rfl) (Eq.trans (by kernel_rfl) hk) hn
theorem zcs.e {lo:Nat}{s0:ByteArray}{b2:Bool}{x5 x6:Int}{h:Heap} :
  zcs lo s0 b2 x5 x6 h=br (decide (x6<x5)) (eO (zql s0 x6) fun v=>cal (evl lo 85 [.int .i64 (IntKind.wrap .i64 ((↑v.toNat:Int))),.int .i64 33,.int .i64 126] h) fun v l=>eB v (zcs lo s0 b2 x5 (IntKind.wrap .i64 (x6+1)) l) (some (.bool false,l))) (br (decide ((↑s0.size:Int)≤8)) (some (.bool true,h)) (some (.bool false,h))) :=
 Lp_eq.trans (by kernel_rfl)
noncomputable def zas (lo:Nat) (a0:Pq) (n0:Nat) (c0:Nq) (g1:Nat) (l1:List V) (x4 x7 x8:Int) (h:Heap):Option (V×Heap) :=
 Lp (X 319) lo (cb (cb (cr (cl (cr (code Tryz.f319)))))) 0 (zae 0 (kS (X 319) lo (cr (cr (code Tryz.f319))) 0 (zaP (X 319) Tryz.f319.results.toList))) ⟨[(0,.sl 2 a0 n0 c0),(1,.fn g1 l1),(4,.int .i64 x4),(7,.int .i64 x7),(8,.int .i64 x8)],[],h⟩
theorem zdC {lo n0 g1:Nat}{a0:Pq}{c0:Nq}{l1:List V}{h h':Heap}{v:V} (hk:(zas h.length a0 n0 c0 g1 l1 0 ((↑n0:Int)) 0 h)=some (v,h')) (hn:noId v=true:=by rfl) :
  evl lo 319 [.sl 2 a0 n0 c0,.fn g1 l1] h=some (v,h) :=
 zag Tryz.func319 (by kernel_rfl) (Eq.trans (by kernel_rfl) hk) hn
theorem zas.e {lo n0 g1:Nat}{a0:Pq}{c0:Nq}{l1:List V}{x4 x7 x8:Int}{h:Heap} :
  zas lo a0 n0 c0 g1 l1 x4 x7 x8 h=br (decide (x8<x7)) (inB x8 n0 (eO a0 fun v=>eO (ld h v.1 (v.2+x8.toNat) 0 2) fun v=>eC v fun v l=>eI .i64 v fun v=>eC l fun l c=>eI .i64 l fun l=>eN c (cal (evl lo g1 (zdz [.agg [.int .i64 v,.int .i64 l]] l1) h) fun v l=>eB v (some (.int .i64 x8,l)) (zas lo a0 n0 c0 g1 l1 x4 x7 (IntKind.wrap .i64 (x8+1)) l)))) (some (.int .i64 (-1),h)) :=
 Lp_eq.trans (by kernel_rfl)
noncomputable def zaR (lo aA aB aC:Nat) (x3:Int) (aD:Pq) (aE:Nat) (aF:Nq) (aG:Int) (aH:Pq) (aI:Nat) (aJ:Nq) (aK:Pq) (aL:Nat) (aM:Nq) (aN:Pq) (aO:Nat) (aP:Nq) (aQ:Pq) (aR:Nat) (aS:Nq) (h:Heap):Option (V×Heap) :=
 Lp (X 320) lo (cb (cb (cr (cl (cr (cr (cr (code Tryz.f320)))))))) 0 (zae 0 (kS (X 320) lo (cr (cr (cr (cr (code Tryz.f320))))) 0 (zaP (X 320) Tryz.f320.results.toList))) ⟨[(0,.ptr (some (aA,(aB,aC)))),(3,.int .i64 x3),(9,.lp 9 0),(10,.sl 6 aD aE aF),(11,.int .i64 aG)],[(9,[.sl 6 aH aI aJ,.sl 5 aK aL aM,.sl 9 aN aO aP,.sl 5 aQ aR aS])],h⟩
theorem zko {lo aA aB aC:Nat}{x1 x2 x3:Int}{h:Heap}{r:V×Heap} (hk:(cal (evl lo 321 [.int .i64 x1,.int .i64 x2] h) fun v l=>eA v fun v=>eC v fun v c=>eS 6 v fun v n a=>eC c fun c o=>eS 5 c fun c s b=>eC o fun o x=>eS 9 o fun o y z=>eC x fun x u=>eS 5 x fun x w p=>eN u (zaR lo aA aB aC x3 (some (l.length,0)) 0 (some 0) 0 v n a c s b o y z x w p (l ++ [.rows 6 48 false []])))=some r) :
  evl lo 320 [.ptr (some (aA,(aB,aC))),.int .i64 x1,.int .i64 x2,.int .i64 x3] h=some r :=
 zaf Tryz.func320 (by kernel_rfl) (Eq.trans (by kernel_rfl) hk)
theorem zaR.e {lo aA aB aC aE aI aL aO aR:Nat}{x3 aG:Int}{aD aH aK aN aQ:Pq}{aF aJ aM aP aS:Nq}{h:Heap} :
  zaR lo aA aB aC x3 aD aE aF aG aH aI aJ aK aL aM aN aO aP aQ aR aS h=br (decide (aG<x3)) (cal (evl lo 165 [.ptr (some (aA,(aB,aC))),.agg [.sl 6 aH aI aJ,.sl 5 aK aL aM,.sl 9 aN aO aP,.sl 5 aQ aR aS]] h) fun v l=>eA v fun v=>eC v fun v c=>eI .i64 v fun v=>eC c fun c n=>eI .i64 c fun c=>eC n fun n a=>eI .i64 n fun n=>eC a fun a o=>eI .i64 a fun a=>eC o fun o s=>eT o fun o=>eC s fun s b=>eBv s fun s=>eN b (cal (evl lo 96 [.agg [.sl 6 aH aI aJ,.sl 5 aK aL aM,.sl 9 aN aO aP,.sl 5 aQ aR aS],.agg [.int .i64 v,.int .i64 c,.int .i64 n,.int .i64 a,.str o,.bool s]] l) fun l b=>eU l fun l=>eC l fun l x=>eA l fun l=>eC l fun l y=>eS 6 l fun l z u=>eC y fun y w=>eS 5 y fun y p q=>eC w fun w g=>eS 9 w fun w i j=>eC g fun g k=>eS 5 g fun g m t=>eN k (eC x fun x k=>eB x (eN k (zaq 6 (b ++ [.rows 6 48 false [[.int .i64 v,.int .i64 c,.int .i64 n,.int .i64 a,.str o,.bool s]]]) (.sl 6 (some (b.length,0)) 1 (some 1)) fun x=>app lo 48 6 56 (.sl 6 aD aE aF) x (b ++ [.rows 6 48 false [[.int .i64 v,.int .i64 c,.int .i64 n,.int .i64 a,.str o,.bool s]]]) fun x d=>eS 6 x fun x e f=>zaR lo aA aB aC x3 x e f (IntKind.wrap .i64 (aG+1)) l z u y p q w i j g m t d)) (eN k (cal (evl lo 109 [.ptr (some (aA,(aB,aC))),.int .i64 6] b) fun b x=>eI .i64 b fun b=>br (decide (b>0)) (zaR lo aA aB aC x3 aD aE aF (IntKind.wrap .i64 (aG+1)) aH aI aJ aK aL aM aN aO aP aQ aR aS x) (zaq 6 (x ++ [.rows 6 48 false [[.int .i64 v,.int .i64 c,.int .i64 n,.int .i64 a,.str o,.bool s]]]) (.sl 6 (some (x.length,0)) 1 (some 1)) fun b=>app lo 48 6 56 (.sl 6 aD aE aF) b (x ++ [.rows 6 48 false [[.int .i64 v,.int .i64 c,.int .i64 n,.int .i64 a,.str o,.bool s]]]) fun v c=>eS 6 v fun v n a=>zaR lo aA aB aC x3 v n a (IntKind.wrap .i64 (aG+1)) l z u y p q w i j g m t c)))))) (some (.sl 6 aD aE aF,h)) :=
 Lp_eq.trans (by kernel_rfl)
noncomputable def zcH (lo:Nat) (x0 x1 x6:Int) (aA:Nat) (aB:Pq) (aC:Nat) (aD:Nq) (aE:Nat) (aF:Pq) (aG:Nat) (aH:Nq) (aI:Nat) (aJ:Pq) (aK:Nat) (aL:Nq) (aM:Nat) (aN:Pq) (aO:Nat) (aP:Nq) (aQ:Nat) (aR:Pq) (aS:Nat) (aT:Nq) (aU:Nat) (aV:Pq) (aW:Nat) (aX:Nq) (aY:Nat) (aZ:Pq) (bA:Nat) (bB:Nq) (bC:Nat) (bD:Pq) (bE:Nat) (bF:Nq) (h:Heap):Option (V×Heap) :=
 Lp (X 321) lo (cb (cb (cr (cl (cr (cr (code Tryz.f321))))))) 0 (zae 0 (kS (X 321) lo (cr (cr (cr (code Tryz.f321)))) 0 (zaP (X 321) Tryz.f321.results.toList))) ⟨[(0,.int .i64 x0),(1,.int .i64 x1),(4,.lp 4 0),(5,.lp 5 0),(6,.int .i64 x6)],[(4,[.sl aA aB aC aD,.sl aE aF aG aH,.sl aI aJ aK aL,.sl aM aN aO aP]),(5,[.sl aQ aR aS aT,.sl aU aV aW aX,.sl aY aZ bA bB,.sl bC bD bE bF])],h⟩
noncomputable def zcG (lo:Nat) (x1 x7:Int) (aA:Nat) (aB:Pq) (aC:Nat) (aD:Nq) (aE:Nat) (aF:Pq) (aG:Nat) (aH:Nq) (aI:Nat) (aJ:Pq) (aK:Nat) (aL:Nq) (aM:Nat) (aN:Pq) (aO:Nat) (aP:Nq) (aQ:Nat) (aR:Pq) (aS:Nat) (aT:Nq) (aU:Nat) (aV:Pq) (aW:Nat) (aX:Nq) (aY:Nat) (aZ:Pq) (bA:Nat) (bB:Nq) (bC:Nat) (bD:Pq) (bE:Nat) (bF:Nq) (h:Heap):Option (V×Heap) :=
 Lp (X 321) lo (cb (cb (cr (cl (cr (cr (cr (code Tryz.f321)))))))) 2 (zae 2 (kS (X 321) lo (cr (cr (cr (cr (code Tryz.f321))))) 0 (zaP (X 321) Tryz.f321.results.toList))) ⟨[(1,.int .i64 x1),(4,.lp 4 0),(5,.lp 5 0),(7,.int .i64 x7)],[(4,[.sl aA aB aC aD,.sl aE aF aG aH,.sl aI aJ aK aL,.sl aM aN aO aP]),(5,[.sl aQ aR aS aT,.sl aU aV aW aX,.sl aY aZ bA bB,.sl bC bD bE bF])],h⟩
theorem zpV {lo:Nat}{x0 x1:Int}{h:Heap}{r:V×Heap} (hk:(zcH lo x0 x1 0 0 none 0 (some 0) 0 none 0 (some 0) 0 none 0 (some 0) 0 none 0 (some 0) 0 none 0 (some 0) 0 none 0 (some 0) 0 none 0 (some 0) 0 none 0 (some 0) h)=some r) :
  evl lo 321 [.int .i64 x0,.int .i64 x1] h=some r :=
 zaf Tryz.func321 (by kernel_rfl) (Eq.trans (by kernel_rfl) hk)
theorem zcH.e {lo aA aC aE aG aI aK aM aO aQ aS aU aW aY bA bC bE:Nat}{x0 x1 x6:Int}{aB aF aJ aN aR aV aZ bD:Pq}{aD aH aL aP aT aX bB bF:Nq}{h:Heap} :
  zcH lo x0 x1 x6 aA aB aC aD aE aF aG aH aI aJ aK aL aM aN aO aP aQ aR aS aT aU aV aW aX aY aZ bA bB bC bD bE bF h=br (decide (x6<3)) (cal (evl lo 351 [.int .i64 x6,.int .i64 x0] h) fun v l=>eA v fun v=>eC v fun v c=>eI .i64 v fun v=>eC c fun c n=>eI .i64 c fun c=>eC n fun n a=>eS 2 n fun n o s=>eC a fun a b=>eS 6 a fun a x y=>eC b fun b z=>eS 1 b fun b u w=>eC z fun z p=>eBv z fun z=>eN p (zaq 6 (l ++ [.rows 6 89 false [[.int .i64 v,.int .i64 c,.sl 2 n o s,.sl 6 a x y,.sl 1 b u w,.bool z]]]) (.sl 6 (some (l.length,0)) 1 (some 1)) fun p=>app lo 89 6 96 (.sl aQ aR aS aT) p (l ++ [.rows 6 89 false [[.int .i64 v,.int .i64 c,.sl 2 n o s,.sl 6 a x y,.sl 1 b u w,.bool z]]]) fun v l=>eS 6 v fun v c n=>zcH lo x0 x1 (IntKind.wrap .i64 (x6+1)) aA aB aC aD aE aF aG aH aI aJ aK aL aM aN aO aP 6 v c n aU aV aW aX aY aZ bA bB bC bD bE bF l)) (zcG lo x1 0 aA aB aC aD aE aF aG aH aI aJ aK aL aM aN aO aP aQ aR aS aT aU aV aW aX aY aZ bA bB bC bD bE bF h) :=
 Lp_eq.trans (by kernel_rfl)
theorem zcG.e {lo aA aC aE aG aI aK aM aO aQ aS aU aW aY bA bC bE:Nat}{x1 x7:Int}{aB aF aJ aN aR aV aZ bD:Pq}{aD aH aL aP aT aX bB bF:Nq}{h:Heap} :
  zcG lo x1 x7 aA aB aC aD aE aF aG aH aI aJ aK aL aM aN aO aP aQ aR aS aT aU aV aW aX aY aZ bA bB bC bD bE bF h=br (decide (x7<x1)) (cal (evl lo 155 [] h) fun v l=>eA v fun v=>eC v fun v c=>eS 2 v fun v n a=>eN c (zaq 5 (l ++ [.rows 5 115 false [[.int .i64 (x7.tmod (3:Int)),.sl 2 v n a,.int .i64 0,.int .i64 0,.int .i64 0]]]) (.sl 5 (some (l.length,0)) 1 (some 1)) fun c=>app lo 115 5 56 (.sl aU aV aW aX) c (l ++ [.rows 5 115 false [[.int .i64 (x7.tmod (3:Int)),.sl 2 v n a,.int .i64 0,.int .i64 0,.int .i64 0]]]) fun v l=>eS 5 v fun v c n=>zcG lo x1 (IntKind.wrap .i64 (x7+1)) aA aB aC aD aE aF aG aH aI aJ aK aL aM aN aO aP aQ aR aS aT 5 v c n aY aZ bA bB bC bD bE bF l)) (some (.agg [.sl aQ aR aS aT,.sl aU aV aW aX,.sl aY aZ bA bB,.sl bC bD bE bF],h)) :=
 Lp_eq.trans (by kernel_rfl)
theorem zl6 {lo n0 aC:Nat}{x0 aA aB:Int}{a0:Pq}{c0:Nq}{s0:ByteArray}{b0:Bool}{h h':Heap}{v:V} (hk:(eO (ld h aC 0 0 2) fun l=>eC l fun l c=>eI .i64 l fun l=>eC c fun c n=>eI .i64 c fun c=>eN n (br ((aA==l)&&((aB==c)&&true)) (some (.bool true,h)) (some (.bool false,h))))=some (v,h')) (hn:noId v=true:=by rfl) :
  evl lo 322 [.agg [.int .i64 x0,.int .i64 aA,.int .i64 aB,.sl 2 a0 n0 c0,.str s0,.bool b0],.ptr (some (aC,(0,0)))] h=some (v,h) :=
 zag Tryz.func322 (by kernel_rfl) (Eq.trans (by kernel_rfl) hk) hn
noncomputable def za1 (lo:Nat) (a0:Pq) (n0:Nat) (c0:Nq) (g1:Nat) (l1:List V) (x4 x7 x8:Int) (h:Heap):Option (V×Heap) :=
 Lp (X 327) lo (cb (cb (cr (cl (cr (code Tryz.f327)))))) 0 (zae 0 (kS (X 327) lo (cr (cr (code Tryz.f327))) 0 (zaP (X 327) Tryz.f327.results.toList))) ⟨[(0,.sl 5 a0 n0 c0),(1,.fn g1 l1),(4,.int .i64 x4),(7,.int .i64 x7),(8,.int .i64 x8)],[],h⟩
theorem za1.e {lo n0 g1:Nat}{a0:Pq}{c0:Nq}{l1:List V}{x4 x7 x8:Int}{h:Heap} :
  za1 lo a0 n0 c0 g1 l1 x4 x7 x8 h=br (decide (x8<x7)) (inB x8 n0 (eO a0 fun v=>eO (ld h v.1 (v.2+x8.toNat) 0 5) fun v=>eC v fun v l=>eI .i64 v fun v=>eC l fun l c=>eI .i64 l fun l=>eC c fun c n=>eI .i64 c fun c=>eC n fun n a=>eI .i64 n fun n=>eC a fun a o=>eI .i64 a fun a=>eN o (cal (evl lo g1 (zdz [.agg [.int .i64 v,.int .i64 l,.int .i64 c,.int .i64 n,.int .i64 a]] l1) h) fun v l=>eB v (some (.int .i64 x8,l)) (za1 lo a0 n0 c0 g1 l1 x4 x7 (IntKind.wrap .i64 (x8+1)) l)))) (some (.int .i64 (-1),h)) :=
 Lp_eq.trans (by kernel_rfl)
noncomputable def zfj (lo:Nat) (a0:Pq) (n0:Nat) (c0:Nq) (x1 x4 x5:Int) (h:Heap):Option (V×Heap) :=
 Lp (X 328) lo (cb (cb (cr (cl (cr (cr (cr (code Tryz.f328)))))))) 0 (zae 0 (kS (X 328) lo (cr (cr (cr (cr (code Tryz.f328))))) 0 (zaP (X 328) Tryz.f328.results.toList))) ⟨[(0,.sl 2 a0 n0 c0),(1,.int .i64 x1),(4,.int .i64 x4),(5,.int .i64 x5)],[],h⟩
theorem zfj.e {lo n0:Nat}{a0:Pq}{c0:Nq}{x1 x4 x5:Int}{h:Heap} :
  zfj lo a0 n0 c0 x1 x4 x5 h=br (decide (x5<(↑n0:Int))) (inB x5 n0 (eO a0 fun v=>eO (ld h v.1 (v.2+x5.toNat) 0 2) fun v=>eC v fun v l=>eS 6 v fun v c n=>eC l fun l a=>eS 6 l fun l o s=>eN a (cal (evl lo 353 [.agg [.sl 6 v c n,.sl 6 l o s],.int .i64 x1] h) fun v l=>eI .i64 v fun v=>br (decide (v<0)) (some (.int .i64 (-1),l)) (zfj lo a0 n0 c0 v x4 (IntKind.wrap .i64 (x5+1)) l)))) (some (.int .i64 x1,h)) :=
 Lp_eq.trans (by kernel_rfl)
theorem zp4 {lo n0:Nat}{x0 aA aB:Int}{a0:Pq}{c0:Nq}{s0:ByteArray}{b0:Bool}{h h':Heap}{v:V} (hk:(cat ⟨⟨[61]⟩⟩ s0 fun l=>br b0 (cal (evl h.length 354 [.int .i64 x0] h) fun c n=>eT c fun c=>cat c ⟨⟨[32]⟩⟩ fun c=>cal (evl h.length 355 [.agg [.int .i64 aA,.int .i64 aB]] n) fun n a=>eT n fun n=>cat c n fun c=>cal (evl h.length 356 [.agg [.sl 2 a0 n0 c0]] a) fun n a=>eT n fun n=>cat c n fun c=>cat c ⟨⟨[32]⟩⟩ fun c=>cat c ⟨⟨[45]⟩⟩ fun c=>some (.str c,a)) (cal (evl h.length 354 [.int .i64 x0] h) fun c n=>eT c fun c=>cat c ⟨⟨[32]⟩⟩ fun c=>cal (evl h.length 355 [.agg [.int .i64 aA,.int .i64 aB]] n) fun n a=>eT n fun n=>cat c n fun c=>cal (evl h.length 356 [.agg [.sl 2 a0 n0 c0]] a) fun n a=>eT n fun n=>cat c n fun c=>cat c ⟨⟨[32]⟩⟩ fun c=>cat c l fun l=>some (.str l,a)))=some (v,h')) (hn:noId v=true:=by rfl) :
  evl lo 330 [.agg [.int .i64 x0,.int .i64 aA,.int .i64 aB,.sl 2 a0 n0 c0,.str s0,.bool b0]] h=some (v,h) :=
 by cases b0<;>exact zag Tryz.func330 (by kernel_rfl) (Eq.trans (by kernel_rfl) hk) hn
noncomputable def zff (lo:Nat) (a0:Pq) (n0:Nat) (c0:Nq) (a3:Pq) (n3:Nat) (c3:Nq) (x4:Int) (h:Heap):Option (V×Heap) :=
 Lp (X 331) lo (cb (cb (cr (cl (cr (cr (code Tryz.f331))))))) 0 (zae 0 (kS (X 331) lo (cr (cr (cr (code Tryz.f331)))) 0 (zaP (X 331) Tryz.f331.results.toList))) ⟨[(0,.sl 2 a0 n0 c0),(3,.sl 2 a3 n3 c3),(4,.int .i64 x4)],[],h⟩
theorem zff.e {lo n0 n3:Nat}{a0 a3:Pq}{c0 c3:Nq}{x4:Int}{h:Heap} :
  zff lo a0 n0 c0 a3 n3 c3 x4 h=br (decide (x4<(↑n0:Int))) (inB x4 n0 (eO a0 fun v=>eO (ld h v.1 (v.2+x4.toNat) 0 2) fun v=>eC v fun v l=>eS 6 v fun v c n=>eC l fun l a=>eS 6 l fun l o s=>eN a (cal (evl lo 357 [.agg [.sl 6 v c n,.sl 6 l o s]] h) fun v l=>eA v fun v=>eC v fun v c=>eS 6 v fun v n a=>eC c fun c o=>eS 6 c fun c s b=>eN o (inB x4 n3 (eO a3 fun o=>eO (st lo l o.1 (o.2+x4.toNat) 0 [.sl 6 v n a,.sl 6 c s b]) fun v=>zff lo a0 n0 c0 a3 n3 c3 (IntKind.wrap .i64 (x4+1)) v))))) (some (.sl 2 a3 n3 c3,h)) :=
 Lp_eq.trans (by kernel_rfl)
noncomputable def zfW (lo:Nat) (a0:Pq) (n0:Nat) (c0:Nq) (a3:Pq) (n3:Nat) (c3:Nq) (x4:Int) (h:Heap):Option (V×Heap) :=
 Lp (X 332) lo (cb (cb (cr (cl (cr (cr (code Tryz.f332))))))) 0 (zae 0 (kS (X 332) lo (cr (cr (cr (code Tryz.f332)))) 0 (zaP (X 332) Tryz.f332.results.toList))) ⟨[(0,.sl 2 a0 n0 c0),(3,.sl 2 a3 n3 c3),(4,.int .i64 x4)],[],h⟩
theorem zfW.e {lo n0 n3:Nat}{a0 a3:Pq}{c0 c3:Nq}{x4:Int}{h:Heap} :
  zfW lo a0 n0 c0 a3 n3 c3 x4 h=br (decide (x4<(↑n0:Int))) (inB x4 n0 (eO a0 fun v=>eO (ld h v.1 (v.2+x4.toNat) 0 2) fun v=>eC v fun v l=>eI .i64 v fun v=>eC l fun l c=>eI .i64 l fun l=>eN c (cal (evl lo 280 [.agg [.int .i64 v,.int .i64 l]] h) fun v l=>eA v fun v=>eC v fun v c=>eI .i64 v fun v=>eC c fun c n=>eI .i64 c fun c=>eN n (inB x4 n3 (eO a3 fun n=>eO (st lo l n.1 (n.2+x4.toNat) 0 [.int .i64 v,.int .i64 c]) fun v=>zfW lo a0 n0 c0 a3 n3 c3 (IntKind.wrap .i64 (x4+1)) v))))) (some (.sl 2 a3 n3 c3,h)) :=
 Lp_eq.trans (by kernel_rfl)
noncomputable def zfm (lo:Nat) (a0:Pq) (n0:Nat) (c0:Nq) (a1:Pq) (n1:Nat) (c1:Nq) (b4:Bool) (x5:Int) (h:Heap):Option (V×Heap) :=
 Lp (X 333) lo (cb (cb (cr (cl (cr (cr (code Tryz.f333))))))) 0 (zae 0 (kS (X 333) lo (cr (cr (cr (code Tryz.f333)))) 0 (zaP (X 333) Tryz.f333.results.toList))) ⟨[(0,.sl 2 a0 n0 c0),(1,.sl 2 a1 n1 c1),(4,.bool b4),(5,.int .i64 x5)],[],h⟩
theorem zfm.e {lo n0 n1:Nat}{a0 a1:Pq}{c0 c1:Nq}{b4:Bool}{x5:Int}{h:Heap} :
  zfm lo a0 n0 c0 a1 n1 c1 b4 x5 h=br (decide (x5<(↑n0:Int))) (inB x5 n0 (eO a0 fun v=>eO (ld h v.1 (v.2+x5.toNat) 0 2) fun v=>eC v fun v l=>eS 6 v fun v c n=>eC l fun l a=>eS 6 l fun l o s=>eN a (inB x5 n1 (eO a1 fun a=>eO (ld h a.1 (a.2+x5.toNat) 0 2) fun a=>eC a fun a b=>eS 6 a fun a x y=>eC b fun b z=>eS 6 b fun b u w=>eN z (cal (evl lo 358 [.agg [.sl 6 v c n,.sl 6 l o s],.agg [.sl 6 a x y,.sl 6 b u w]] h) fun v l=>eB v (zfm lo a0 n0 c0 a1 n1 c1 b4 (IntKind.wrap .i64 (x5+1)) l) (some (.bool false,l))))))) (some (.bool true,h)) :=
 Lp_eq.trans (by kernel_rfl)
noncomputable def zfZ (lo:Nat) (a0:Pq) (n0:Nat) (c0:Nq) (a1:Pq) (n1:Nat) (c1:Nq) (b4:Bool) (x5:Int) (h:Heap):Option (V×Heap) :=
 Lp (X 334) lo (cb (cb (cr (cl (cr (cr (code Tryz.f334))))))) 0 (zae 0 (kS (X 334) lo (cr (cr (cr (code Tryz.f334)))) 0 (zaP (X 334) Tryz.f334.results.toList))) ⟨[(0,.sl 2 a0 n0 c0),(1,.sl 2 a1 n1 c1),(4,.bool b4),(5,.int .i64 x5)],[],h⟩
theorem zfZ.e {lo n0 n1:Nat}{a0 a1:Pq}{c0 c1:Nq}{b4:Bool}{x5:Int}{h:Heap} :
  zfZ lo a0 n0 c0 a1 n1 c1 b4 x5 h=br (decide (x5<(↑n0:Int))) (inB x5 n0 (eO a0 fun v=>eO (ld h v.1 (v.2+x5.toNat) 0 2) fun v=>eC v fun v l=>eI .i64 v fun v=>eC l fun l c=>eI .i64 l fun l=>eN c (inB x5 n1 (eO a1 fun c=>eO (ld h c.1 (c.2+x5.toNat) 0 2) fun c=>eC c fun c n=>eI .i64 c fun c=>eC n fun n a=>eI .i64 n fun n=>eN a (cal (evl lo 286 [.agg [.int .i64 v,.int .i64 l],.agg [.int .i64 c,.int .i64 n]] h) fun v l=>eB v (zfZ lo a0 n0 c0 a1 n1 c1 b4 (IntKind.wrap .i64 (x5+1)) l) (some (.bool false,l))))))) (some (.bool true,h)) :=
 Lp_eq.trans (by kernel_rfl)
theorem zoc {lo n0 aB aE aH:Nat}{a0 aA aD aG:Pq}{c0 aC aF aI:Nq}{x1 x2 x3 x4 aJ:Int}{h:Heap}{r:V×Heap} (hk:(zaq 5 (h ++ [.rows 5 179 false [[.int .i64 x1,.int .i64 x2,.int .i64 x3,.int .i64 x4,.int .i64 aJ]]]) (.sl 5 (some (h.length,0)) 1 (some 1)) fun v=>app lo 179 5 40 (.sl 5 aG aH aI) v (h ++ [.rows 5 179 false [[.int .i64 x1,.int .i64 x2,.int .i64 x3,.int .i64 x4,.int .i64 aJ]]]) fun v l=>eS 5 v fun v c n=>some (.agg [.sl 6 a0 n0 c0,.sl 5 aA aB aC,.sl 9 aD aE aF,.sl 5 v c n],l))=some r) :
  evl lo 335 [.agg [.sl 6 a0 n0 c0,.sl 5 aA aB aC,.sl 9 aD aE aF,.sl 5 aG aH aI],.int .i64 x1,.int .i64 x2,.int .i64 x3,.agg [.int .i64 x4,.int .i64 aJ]] h=some r :=
 zaf Tryz.func335 (by kernel_rfl) (Eq.trans (by kernel_rfl) hk)
noncomputable def zf2 (lo:Nat) (a0:Pq) (n0:Nat) (c0:Nq) (p2:Option (Nat×Nat×Nat)) (x3:Int) (p4:Option (Nat×Nat×Nat)) (a8:Pq) (n8:Nat) (c8:Nq) (x9 aA:Int) (h:Heap):Option (V×Heap) :=
 Lp (X 339) lo (cb (cb (cr (cl (cr (cr (code Tryz.f339))))))) 0 (zae 0 (kS (X 339) lo (cr (cr (cr (code Tryz.f339)))) 0 (zaP (X 339) Tryz.f339.results.toList))) ⟨[(0,.sl 5 a0 n0 c0),(2,.ptr p2),(3,.int .i64 x3),(4,.ptr p4),(8,.sl 5 a8 n8 c8),(9,.int .i64 x9),(10,.int .i64 aA)],[],h⟩
theorem zf2.e {lo n0 n8:Nat}{a0 a8:Pq}{c0 c8:Nq}{p2 p4:Option (Nat×Nat×Nat)}{x3 x9 aA:Int}{h:Heap} :
  zf2 lo a0 n0 c0 p2 x3 p4 a8 n8 c8 x9 aA h=br (decide (aA<x9)) (inB aA n8 (eO a8 fun v=>eO (ld h v.1 (v.2+aA.toNat) 0 5) fun v=>eC v fun v l=>eI .i64 v fun v=>eC l fun l c=>eI .i64 l fun l=>eC c fun c n=>eI .i64 c fun c=>eC n fun n a=>eI .i64 n fun n=>eC a fun a o=>eI .i64 a fun a=>eN o (cal (evl lo 360 [.ptr p4,.agg [.int .i64 v,.int .i64 l,.int .i64 c,.int .i64 n,.int .i64 a]] h) fun v l=>eB v (zf2 lo a0 n0 c0 p2 x3 p4 a8 n8 c8 x9 (IntKind.wrap .i64 (aA+1)) l) (some (.tup [.ptr p4,.int .i64 aA],l))))) (some (.tup [.ptr p4,.int .i64 ((↑n0:Int))],h)) :=
 Lp_eq.trans (by kernel_rfl)
theorem zp5 {lo:Nat}{h:Heap}{r:V×Heap} (hk:(some (.agg [.sl 6 (some (h.length,0)) 4 (some 4)],(h ++ [.rows 6 65 false [[.int .i64 0,.int .i64 0,.int .i64 0,.sl 0 none 0 (some 0),.str ⟨⟨[]⟩⟩,.bool false],[.int .i64 0,.int .i64 0,.int .i64 0,.sl 0 none 0 (some 0),.str ⟨⟨[]⟩⟩,.bool false],[.int .i64 0,.int .i64 0,.int .i64 0,.sl 0 none 0 (some 0),.str ⟨⟨[]⟩⟩,.bool false],[.int .i64 0,.int .i64 0,.int .i64 0,.sl 0 none 0 (some 0),.str ⟨⟨[]⟩⟩,.bool false]]])))=some r) :
  evl lo 340 [] h=some r :=
 zaf Tryz.func340 (by kernel_rfl) (Eq.trans (by kernel_rfl) hk)
noncomputable def zaM (lo:Nat) (a0:Pq) (n0:Nat) (c0:Nq) (x1 x2:Int) (g3:Nat) (l3:List V) (x8:Int) (h:Heap):Option (V×Heap) :=
 Lp (X 341) lo (cb (cb (cr (code Tryz.f341)))) 0 (zae 0 (zaP (X 341) Tryz.f341.results.toList)) ⟨[(0,.sl 6 a0 n0 c0),(1,.int .i64 x1),(2,.int .i64 x2),(3,.fn g3 l3),(8,.int .i64 x8)],[],h⟩
noncomputable def zaL (lo:Nat) (a0:Pq) (n0:Nat) (c0:Nq) (x1 x2:Int) (g3:Nat) (l3:List V) (x8 x9:Int) (h:Heap):Option (V×Heap) :=
 Lp (X 341) lo (cb (cb (cr (cb (cl (cr (cb (cb (cr (code Tryz.f341)))))))))) 2 (zae 2 (zae 1 (kS (X 341) lo (cr (cr (cb (cb (cr (code Tryz.f341)))))) 0 (kLp (X 341) lo (cb (cb (cr (code Tryz.f341)))) 0 (zae 0 (zaP (X 341) Tryz.f341.results.toList)))))) ⟨[(0,.sl 6 a0 n0 c0),(1,.int .i64 x1),(2,.int .i64 x2),(3,.fn g3 l3),(8,.int .i64 x8),(9,.int .i64 x9)],[],h⟩
theorem zaM.e {lo n0 g3:Nat}{a0:Pq}{c0:Nq}{x1 x2 x8:Int}{l3:List V}{h:Heap} :
  zaM lo a0 n0 c0 x1 x2 g3 l3 x8 h=br (decide (x8<x2)) (zaL lo a0 n0 c0 x1 x2 g3 l3 x8 x8 h) (some (.tup [],h)) :=
 Lp_eq.trans (by kernel_rfl)
theorem zaL.e {lo n0 g3:Nat}{a0:Pq}{c0:Nq}{x1 x2 x8 x9:Int}{l3:List V}{h:Heap} :
  zaL lo a0 n0 c0 x1 x2 g3 l3 x8 x9 h=br (decide (x9>x1)) (inB x9 n0 (eO a0 fun v=>eO (ld h v.1 (v.2+x9.toNat) 0 6) fun v=>eC v fun v l=>eI .i64 v fun v=>eC l fun l c=>eI .i64 l fun l=>eC c fun c n=>eI .i64 c fun c=>eC n fun n a=>eS 2 n fun n o s=>eC a fun a b=>eT a fun a=>eC b fun b x=>eBv b fun b=>eN x (inB (IntKind.wrap .i64 (x9 - 1)) n0 (eO a0 fun x=>eO (ld h x.1 (x.2+((IntKind.i64.wrap (x9 - (1:Int))).toNat)) 0 6) fun x=>eC x fun x y=>eI .i64 x fun x=>eC y fun y z=>eI .i64 y fun y=>eC z fun z u=>eI .i64 z fun z=>eC u fun u w=>eS 2 u fun u p q=>eC w fun w g=>eT w fun w=>eC g fun g i=>eBv g fun g=>eN i (cal (evl lo g3 (zdz [.agg [.int .i64 v,.int .i64 l,.int .i64 c,.sl 2 n o s,.str a,.bool b],.agg [.int .i64 x,.int .i64 y,.int .i64 z,.sl 2 u p q,.str w,.bool g]] l3) h) fun v l=>eI .i64 v fun v=>br (decide (v<0)) (inB (IntKind.wrap .i64 (x9 - 1)) n0 (eO a0 fun v=>eO (ld l v.1 (v.2+((IntKind.i64.wrap (x9 - (1:Int))).toNat)) 0 6) fun v=>eC v fun v c=>eI .i64 v fun v=>eC c fun c n=>eI .i64 c fun c=>eC n fun n a=>eI .i64 n fun n=>eC a fun a o=>eS 2 a fun a s b=>eC o fun o x=>eT o fun o=>eC x fun x y=>eBv x fun x=>eN y (inB x9 n0 (eO a0 fun y=>eO (ld l y.1 (y.2+x9.toNat) 0 6) fun y=>eC y fun y z=>eI .i64 y fun y=>eC z fun z u=>eI .i64 z fun z=>eC u fun u w=>eI .i64 u fun u=>eC w fun w p=>eS 2 w fun w q g=>eC p fun p i=>eT p fun p=>eC i fun i j=>eBv i fun i=>eN j (inB x9 n0 (eO a0 fun j=>eO (st lo l j.1 (j.2+x9.toNat) 0 [.int .i64 v,.int .i64 c,.int .i64 n,.sl 2 a s b,.str o,.bool x]) fun v=>inB (IntKind.wrap .i64 (x9 - 1)) n0 (eO a0 fun c=>eO (st lo v c.1 (c.2+((IntKind.i64.wrap (x9 - (1:Int))).toNat)) 0 [.int .i64 y,.int .i64 z,.int .i64 u,.sl 2 w q g,.str p,.bool i]) fun v=>zaL lo a0 n0 c0 x1 x2 g3 l3 x8 (IntKind.wrap .i64 (x9 - 1)) v))))))) (zaM lo a0 n0 c0 x1 x2 g3 l3 (IntKind.wrap .i64 (x8+1)) l)))))) (zaM lo a0 n0 c0 x1 x2 g3 l3 (IntKind.wrap .i64 (x8+1)) h) :=
 Lp_eq.trans (by kernel_rfl)
theorem zpZ {lo:Nat}{x0 x1:Int}{h:Heap}{r:V×Heap} (hk:(cal (evl h.length 310 [.int .i64 x1] h) fun v l=>eA v fun v=>eC v fun v c=>eS 2 v fun v n a=>eN c (some (.agg [.int .i64 x0,.int .i64 0,.sl 2 v n a,.sl 0 none 0 (some 0),.sl 1 (some (l.length,0)) 3 (some 3),.bool false],(l ++ [.rows 1 72 false [[.sl 0 none 0 (some 0)],[.sl 0 none 0 (some 0)],[.sl 0 none 0 (some 0)]]]))))=some r) :
  evl lo 351 [.int .i64 x0,.int .i64 x1] h=some r :=
 zaf Tryz.func351 (by kernel_rfl) (Eq.trans (by kernel_rfl) hk)
noncomputable def za0 (lo:Nat) (a0:Pq) (n0:Nat) (c0:Nq) (g1:Nat) (l1:List V) (x4 x7 x8:Int) (h:Heap):Option (V×Heap) :=
 Lp (X 352) lo (cb (cb (cr (cl (cr (code Tryz.f352)))))) 0 (zae 0 (kS (X 352) lo (cr (cr (code Tryz.f352))) 0 (zaP (X 352) Tryz.f352.results.toList))) ⟨[(0,.sl 2 a0 n0 c0),(1,.fn g1 l1),(4,.int .i64 x4),(7,.int .i64 x7),(8,.int .i64 x8)],[],h⟩
theorem za0.e {lo n0 g1:Nat}{a0:Pq}{c0:Nq}{l1:List V}{x4 x7 x8:Int}{h:Heap} :
  za0 lo a0 n0 c0 g1 l1 x4 x7 x8 h=br (decide (x8<x7)) (inB x8 n0 (eO a0 fun v=>eO (ld h v.1 (v.2+x8.toNat) 0 2) fun v=>eC v fun v l=>eS 6 v fun v c n=>eC l fun l a=>eS 6 l fun l o s=>eN a (cal (evl lo g1 (zdz [.agg [.sl 6 v c n,.sl 6 l o s]] l1) h) fun v l=>eB v (some (.int .i64 x8,l)) (za0 lo a0 n0 c0 g1 l1 x4 x7 (IntKind.wrap .i64 (x8+1)) l)))) (some (.int .i64 (-1),h)) :=
 Lp_eq.trans (by kernel_rfl)
theorem zkd {lo:Nat}{x0:Int}{h h':Heap}{v:V} (hk:(br (decide (x0<(-9223372036854775807:Int))) (some (.str ⟨⟨[45,57,50,50,51,51,55,50,48,51,54,56,53,52,55,55,53,56,48,56]⟩⟩,h)) (br (decide (x0<0)) (cal (evl h.length 354 [.int .i64 (IntKind.wrap .i64 (0 - x0))] h) fun l c=>eT l fun l=>cat ⟨⟨[45]⟩⟩ l fun l=>some (.str l,c)) (br (decide (x0<10)) (zaq 1 (h ++ [.rows 1 5 false [[.int .u8 (IntKind.wrap .u8 (IntKind.wrap .i64 (48+x0)))]]]) (.sl 1 (some (h.length,0)) 1 (some 1)) fun l=>eO (zeO l) fun l=>some (.str (zil l),(h ++ [.rows 1 5 false [[.int .u8 (IntKind.wrap .u8 (IntKind.wrap .i64 (48+x0)))]]]))) (cal (evl h.length 354 [.int .i64 (IntKind.wrap .i64 (x0.tdiv (10:Int)))] h) fun l c=>eT l fun l=>zaq 1 (c ++ [.rows 1 5 false [[.int .u8 (IntKind.wrap .u8 (IntKind.wrap .i64 (48+(x0.tmod (10:Int)))))]]]) (.sl 1 (some (c.length,0)) 1 (some 1)) fun n=>eO (zeO n) fun n=>cat l (zil n) fun l=>some (.str l,(c ++ [.rows 1 5 false [[.int .u8 (IntKind.wrap .u8 (IntKind.wrap .i64 (48+(x0.tmod (10:Int)))))]]]))))))=some (v,h')) (hn:noId v=true:=by rfl) :
  evl lo 354 [.int .i64 x0] h=some (v,h) :=
 zag Tryz.func354 (by kernel_rfl) (Eq.trans (by kernel_rfl) hk) hn
theorem zp7 {lo:Nat}{x0 aA:Int}{h h':Heap}{v:V} (hk:(cal (evl h.length 354 [.int .i64 x0] h) fun l c=>eT l fun l=>cat l ⟨⟨[46]⟩⟩ fun l=>cal (evl h.length 354 [.int .i64 aA] c) fun c n=>eT c fun c=>cat l c fun l=>some (.str l,n))=some (v,h')) (hn:noId v=true:=by rfl) :
  evl lo 355 [.agg [.int .i64 x0,.int .i64 aA]] h=some (v,h) :=
 zag Tryz.func355 (by kernel_rfl) (Eq.trans (by kernel_rfl) hk) hn
noncomputable def zco (lo:Nat) (s3:ByteArray) (x4:Int) (aA:Pq) (aB:Nat) (aC:Nq) (h:Heap):Option (V×Heap) :=
 Lp (X 356) lo (cb (cb (cr (cl (cr (cr (code Tryz.f356))))))) 0 (zae 0 (kS (X 356) lo (cr (cr (cr (code Tryz.f356)))) 0 (zaP (X 356) Tryz.f356.results.toList))) ⟨[(1,.lp 1 0),(3,.str s3),(4,.int .i64 x4)],[(1,[.sl 2 aA aB aC])],h⟩
theorem zot {lo n0:Nat}{a0:Pq}{c0:Nq}{h h':Heap}{v:V} (hk:(zco h.length ⟨⟨[]⟩⟩ 0 a0 n0 c0 h)=some (v,h')) (hn:noId v=true:=by rfl) :
  evl lo 356 [.agg [.sl 2 a0 n0 c0]] h=some (v,h) :=
 zag Tryz.func356 (by kernel_rfl) (Eq.trans (by kernel_rfl) hk) hn
theorem zco.e {lo aB:Nat}{s3:ByteArray}{x4:Int}{aA:Pq}{aC:Nq}{h:Heap} :
  zco lo s3 x4 aA aB aC h=br (decide (x4<(↑aB:Int))) (cat s3 ⟨⟨[32]⟩⟩ fun v=>inB x4 aB (eO aA fun l=>eO (ld h l.1 (l.2+x4.toNat) 0 2) fun l=>eC l fun l c=>eI .i64 l fun l=>eC c fun c n=>eI .i64 c fun c=>eN n (cal (evl lo 355 [.agg [.int .i64 l,.int .i64 c]] h) fun l c=>eT l fun l=>cat v l fun v=>zco lo v (IntKind.wrap .i64 (x4+1)) aA aB aC c))) (some (.str s3,h)) :=
 Lp_eq.trans (by kernel_rfl)
noncomputable def zfp (lo aA aB aC:Nat) (x6:Int) (h:Heap):Option (V×Heap) :=
 Lp (X 359) lo (cb (cb (cr (cl (cr (cr (code Tryz.f359))))))) 0 (zae 0 (kS (X 359) lo (cr (cr (cr (code Tryz.f359)))) 0 (zaP (X 359) Tryz.f359.results.toList))) ⟨[(1,.ptr (some (aA,(aB,aC)))),(6,.int .i64 x6)],[],h⟩
theorem zfp.e {lo aA aB aC:Nat}{x6:Int}{h:Heap} :
  zfp lo aA aB aC x6 h=br (decide (x6<4)) (cal (evl lo 215 [] h) fun v l=>eA v fun v=>eC v fun v c=>eS 2 v fun v n a=>eN c (inB x6 4 (eO (st lo l aA aB ((aC+0)+(x6.toNat*1)) [.sl 2 v n a]) fun v=>zfp lo aA aB aC (IntKind.wrap .i64 (x6+1)) v))) (some (.ptr (some (aA,(aB,aC))),h)) :=
 Lp_eq.trans (by kernel_rfl)
noncomputable def zbW (lo:Nat) (a0:Pq) (n0:Nat) (c0:Nq) (x3:Int) (g4:Nat) (l4:List V) (h:Heap):Option (V×Heap) :=
 Lp (X 315) lo (cb (cb (cr (cr (code Tryz.f315))))) 0 (zae 0 (zaP (X 315) Tryz.f315.results.toList)) ⟨[(0,.sl 6 a0 n0 c0),(1,.int .i64 0),(2,.int .i64 0),(3,.int .i64 x3),(4,.fn g4 l4),(10,.bool true),(11,.bool true)],[],h⟩
theorem zbW.e {lo n0 g4:Nat}{a0:Pq}{c0:Nq}{x3:Int}{l4:List V}{h:Heap} :
  zbW lo a0 n0 c0 x3 g4 l4 h=cal (evl lo 341 [.sl 6 a0 n0 c0,.int .i64 0,.int .i64 0,.fn g4 l4] h) fun v l=>eU v fun v=>eN v (some (.tup [],l)) :=
 Lp_eq.trans (by kernel_rfl)
noncomputable def zbV (lo:Nat) (a0:Pq) (n0:Nat) (c0:Nq) (x3:Int) (g4:Nat) (l4:List V) (h:Heap):Option (V×Heap) :=
 Lp (X 315) lo (cb (cb (cr (cr (code Tryz.f315))))) 0 (zae 0 (zaP (X 315) Tryz.f315.results.toList)) ⟨[(0,.sl 6 a0 n0 c0),(1,.int .i64 0),(2,.int .i64 1),(3,.int .i64 x3),(4,.fn g4 l4),(10,.bool true),(11,.bool true)],[],h⟩
theorem zbV.e {lo n0 g4:Nat}{a0:Pq}{c0:Nq}{x3:Int}{l4:List V}{h:Heap} :
  zbV lo a0 n0 c0 x3 g4 l4 h=cal (evl lo 341 [.sl 6 a0 n0 c0,.int .i64 0,.int .i64 1,.fn g4 l4] h) fun v l=>eU v fun v=>eN v (some (.tup [],l)) :=
 Lp_eq.trans (by kernel_rfl)
noncomputable def zbU (lo:Nat) (a0:Pq) (n0:Nat) (c0:Nq) (x3:Int) (g4:Nat) (l4:List V) (h:Heap):Option (V×Heap) :=
 Lp (X 315) lo (cb (cb (cr (cr (code Tryz.f315))))) 0 (zae 0 (zaP (X 315) Tryz.f315.results.toList)) ⟨[(0,.sl 6 a0 n0 c0),(1,.int .i64 0),(2,.int .i64 2),(3,.int .i64 x3),(4,.fn g4 l4),(10,.bool true),(11,.bool true)],[],h⟩
theorem zbU.e {lo n0 g4:Nat}{a0:Pq}{c0:Nq}{x3:Int}{l4:List V}{h:Heap} :
  zbU lo a0 n0 c0 x3 g4 l4 h=cal (evl lo 341 [.sl 6 a0 n0 c0,.int .i64 0,.int .i64 2,.fn g4 l4] h) fun v l=>eU v fun v=>eN v (some (.tup [],l)) :=
 Lp_eq.trans (by kernel_rfl)
noncomputable def zbT (lo:Nat) (a0:Pq) (n0:Nat) (c0:Nq) (x3:Int) (g4:Nat) (l4:List V) (h:Heap):Option (V×Heap) :=
 Lp (X 315) lo (cb (cb (cr (cr (code Tryz.f315))))) 0 (zae 0 (zaP (X 315) Tryz.f315.results.toList)) ⟨[(0,.sl 6 a0 n0 c0),(1,.int .i64 0),(2,.int .i64 3),(3,.int .i64 x3),(4,.fn g4 l4),(10,.bool true),(11,.bool true)],[],h⟩
theorem zbT.e {lo n0 g4:Nat}{a0:Pq}{c0:Nq}{x3:Int}{l4:List V}{h:Heap} :
  zbT lo a0 n0 c0 x3 g4 l4 h=cal (evl lo 341 [.sl 6 a0 n0 c0,.int .i64 0,.int .i64 3,.fn g4 l4] h) fun v l=>eU v fun v=>eN v (some (.tup [],l)) :=
 Lp_eq.trans (by kernel_rfl)
noncomputable def zbS (lo:Nat) (a0:Pq) (n0:Nat) (c0:Nq) (x3:Int) (g4:Nat) (l4:List V) (h:Heap):Option (V×Heap) :=
 Lp (X 315) lo (cb (cb (cr (cr (code Tryz.f315))))) 0 (zae 0 (zaP (X 315) Tryz.f315.results.toList)) ⟨[(0,.sl 6 a0 n0 c0),(1,.int .i64 0),(2,.int .i64 4),(3,.int .i64 x3),(4,.fn g4 l4),(10,.bool true),(11,.bool true)],[],h⟩
theorem zbS.e {lo n0 g4:Nat}{a0:Pq}{c0:Nq}{x3:Int}{l4:List V}{h:Heap} :
  zbS lo a0 n0 c0 x3 g4 l4 h=cal (evl lo 341 [.sl 6 a0 n0 c0,.int .i64 0,.int .i64 4,.fn g4 l4] h) fun v l=>eU v fun v=>eN v (some (.tup [],l)) :=
 Lp_eq.trans (by kernel_rfl)
theorem zjG {lo n0:Nat}{x0 aA aB:Int}{a0:Pq}{c0:Nq}{s0:ByteArray}{b0:Bool}{h h':Heap}{v:V} (hk:(br (x0==0) (br ((aA==0)&&((aB==0)&&true)) (cal (evl h.length 317 [.sl 2 a0 n0 c0,.sl 0 none 0 (some 0)] h) fun l c=>eB l (br (s0.toList==(ByteArray.mk #[]).toList) (br (b0==false) (some (.bool true,c)) (some (.bool false,c))) (some (.bool false,c))) (some (.bool false,c))) (some (.bool false,h))) (some (.bool false,h)))=some (v,h')) (hn:noId v=true:=by rfl) :
  evl lo 233 [.agg [.int .i64 x0,.int .i64 aA,.int .i64 aB,.sl 2 a0 n0 c0,.str s0,.bool b0],.agg [.int .i64 0,.int .i64 0,.int .i64 0,.sl 0 none 0 (some 0),.str ⟨⟨[]⟩⟩,.bool false]] h=some (v,h) :=
 zag Tryz.func233 (by kernel_rfl) (Eq.trans (by kernel_rfl) hk) hn
noncomputable def zaE (lo:Nat) (a0:Pq) (n0:Nat) (c0:Nq) (q1:Nat) (a1:Pq) (n1:Nat) (c1:Nq) (b4:Bool) (aA aB:Int) (h:Heap):Option (V×Heap) :=
 Lp (X 317) lo (cb (cb (cr (cl (cr (cr (code Tryz.f317))))))) 0 (zae 0 (kS (X 317) lo (cr (cr (cr (code Tryz.f317)))) 0 (zaP (X 317) Tryz.f317.results.toList))) ⟨[(0,.sl 2 a0 n0 c0),(1,.sl q1 a1 n1 c1),(4,.bool b4),(12,.int .i64 aA),(13,.int .i64 aB)],[],h⟩
theorem zdU {lo n0:Nat}{a0:Pq}{c0:Nq}{h h':Heap}{v:V} (hk:(br ((↑n0:Int)==(↑(0:Nat):Int)) (zaE h.length a0 n0 c0 0 none 0 (some 0) false ((↑n0:Int)) 0 h) (some (.bool false,h)))=some (v,h')) (hn:noId v=true:=by rfl) :
  evl lo 317 [.sl 2 a0 n0 c0,.sl 0 none 0 (some 0)] h=some (v,h) :=
 zag Tryz.func317 (by kernel_rfl) (Eq.trans (by kernel_rfl) hk) hn
theorem zaE.e {lo n0 q1 n1:Nat}{a0 a1:Pq}{c0 c1:Nq}{b4:Bool}{aA aB:Int}{h:Heap} :
  zaE lo a0 n0 c0 q1 a1 n1 c1 b4 aA aB h=br (decide (aB<aA)) (inB aB n0 (eO a0 fun v=>eO (ld h v.1 (v.2+aB.toNat) 0 2) fun v=>eC v fun v l=>eI .i64 v fun v=>eC l fun l c=>eI .i64 l fun l=>eN c (inB aB n1 (eO a1 fun c=>zc7 ((q1.beq (2:Nat))&&true) (eO (ld h c.1 (c.2+aB.toNat) 0 2) fun c=>eC c fun c n=>eI .i64 c fun c=>eC n fun n a=>eI .i64 n fun n=>eN a (br ((v==c)&&((l==n)&&true)) (zaE lo a0 n0 c0 q1 a1 n1 c1 b4 aA (IntKind.wrap .i64 (aB+1)) h) (some (.bool false,h)))))))) (some (.bool true,h)) :=
 Lp_eq.trans (by kernel_rfl)
theorem zek {lo:Nat}{x1:Int}{h:Heap}{r:V×Heap} (hk:(br (decide (x1<0)) none (br (decide (IntKind.i64.wrap (x1 - IntKind.i64.wrap ((↑(0:Nat):Int) - (↑(0:Nat):Int)))>0)) (zaz none 0 (some 0) none (some (.int .i64 0)) none fun v l c=>zc7 (decide ((0:Int)≤IntKind.i64.wrap (x1 - IntKind.i64.wrap ((↑(0:Nat):Int) - (↑(0:Nat):Int)))∧IntKind.i64.wrap (x1 - IntKind.i64.wrap ((↑(0:Nat):Int) - (↑(0:Nat):Int)))*(↑(72:Nat):Int)≤140737488355328)) (app lo 65 6 72 (.sl 6 v l c) (List.replicate ((IntKind.i64.wrap (x1 - IntKind.i64.wrap ((↑(0:Nat):Int) - (↑(0:Nat):Int)))).toNat) [.int .i64 0,.int .i64 0,.int .i64 0,.sl 0 none 0 (some 0),.str ⟨⟨[]⟩⟩,.bool false]) h fun v l=>eS 6 v fun v c n=>zaz v c n none (some (.int .i64 0)) none fun v c n=>some (.sl 6 v c n,l))) (some (.sl 0 none 0 (some 0),h))))=some r) :
  evl lo 253 [.sl 0 none 0 (some 0),.int .i64 x1] h=some r :=
 zaf Tryz.func253 (by kernel_rfl) (Eq.trans (by kernel_rfl) hk)
end Go.Proofs.YthdfojchihooeaaGreat
namespace Go.Proofs.YthdfojchihooeaaGreat
open Go T


structure Tag where
 time:Int
 place:Int
 deriving DecidableEq
def Tag.cs (t:Tag):List V := [.int .i64 t.time,.int .i64 t.place]
def zak (n a b:Int):Bool:=decide (a≤n)&&decide (n≤b)
def zbj (t:Int) (p:Int):Bool:=(t==0&&p==0) || (zak t 1 999&&zak p 0 2)
def zkF (t p t' p':Int):Bool:=decide (t<t') || (t==t'&&decide (p<p'))
section
variable {lo:Nat}{h:Heap}{a b c d e:Int}
theorem zeu:evl lo 85 [.int .i64 a,.int .i64 b,.int .i64 c] h=some (.bool (zak a b c),h) :=
 zoD (h':=h) (by simp [zak])
theorem zbb:evl lo 78 [.int .i64 a,.int .i64 b,.int .i64 c] h=some (.bool (zak a b c),h) :=
 zrm (h':=h) (by simp [zak])
theorem zj2:evl lo 140 [.int .i64 a] h=some (.bool (zak a 0 2),h):=zmz (h':=h) (by simp [zeu])
theorem zsz:evl lo 86 [.int .i64 a] h=some (.bool (zak a 0 3),h):=zqb (h':=h) (by simp [zeu])
theorem zna:evl lo 236 [.agg [.int .i64 a,.int .i64 b]] h=some (.bool (zbj a b),h) :=
 zqd (h':=h) (by simp [zeu,zj2,zbj])
theorem zjT:evl lo 250 [.agg [.int .i64 a,.int .i64 b]] h=some (.bool (zbj a b),h) :=
 zmv (h':=h) (by simp [zbb,zbj])
theorem zbk:evl lo 79 [.agg [.int .i64 a,.int .i64 b],.agg [.int .i64 c,.int .i64 d]] h=some (.bool (zkF a b c d),h) :=
 zoz (h':=h) (by simp [zkF])
def zcS {α:Type} (p:α→Bool):List α→Nat→Int
 | [],_ => -1
 | x :: r,k=>bif p x then (k:Int) else zcS p r (k+1)
theorem zig {α:Type}{p:α→Bool}:∀ {l:List α}{k:Nat},decide (zcS p l k≥0)=l.any p
 | [],k=>by simp [zcS]
 | x :: r,k=>by
  simp only [zcS,List.any_cons]
  by_cases h:p x=true
  ·simp [h]
  ·simpa [h] using zig (p:=p) (l:=r) (k:=k+1)
def zuD (a b:Int):Int:=if a<b then -1 else if b<a then 1 else 0
theorem zuC:evl lo 314 [.int .i64 a] h=some (.bool false,h):=zma (h':=h) (by simp)
theorem zrc:evl lo 224 [.int .i64 a,.int .i64 b] h=some (.int .i64 (zuD a b),h) :=
 zjN (h':=h) (by
  simp only [zuC,zac,zbi,za5]
  unfold zuD
  by_cases h1:a<b
  ·rw [zal h1,if_pos h1]
  ·rw [zaj h1,if_neg h1]
   by_cases h2:b<a
   ·rw [zal h2,if_pos h2]
   ·rw [zaj h2,if_neg h2])
theorem zsQ:evl lo 223 [.sl 1 (some (h.length,0)) 2 (some 2)] (h ++ [.rows 1 3 false [[.int .i64 a],[.int .i64 b]]])=some (.int .i64 (if a=0 then b else a),h ++ [.rows 1 3 false [[.int .i64 a],[.int .i64 b]]]) :=
 zqe (h':=h ++ [.rows 1 3 false [[.int .i64 a],[.int .i64 b]]]) (by
  rw [zcK.e,zal (by decide),zdd (by decide)]
  simp only [zam]
  rw [zqK (row := [.int .i64 a]) (by rfl)]
  simp only [cut,zam,zad,zao,zaa]
  by_cases h1:a=0
  ·subst h1
   rw [if_pos rfl,show ((0:Int)==0)=true from rfl,zaN,show IntKind.i64.wrap (0+1)=((1:Nat):Int) from zap (k:=0) (by decide),zcK.e,zal (by decide),zdd (by decide)]
   simp only [zam]
   rw [zqK (row := [.int .i64 b]) (by rfl)]
   simp only [cut,zam,zad,zao,zaa]
   by_cases h2:b=0
   ·subst h2
    rw [show ((0:Int)==0)=true from rfl,zaN,show IntKind.i64.wrap (((1:Nat):Int)+1)=((2:Nat):Int) from zap (k:=1) (by decide),zcK.e,zaj (by decide)]
   ·rw [show (b==0)=false by simpa using h2,za5]
  ·rw [if_neg h1,show (a==0)=false by simpa using h1,za5])
theorem zpw:evl lo 112 [.agg [.int .i64 a,.int .i64 b],.agg [.int .i64 c,.int .i64 d]] h=some (.int .i64 (if zuD a c=0 then zuD b d else zuD a c),h) :=
 zi5 (h':=h ++ [.rows 1 3 false [[.int .i64 (zuD a c)],[.int .i64 (zuD b d)]]]) (by
  simp only [zrc,zac,zaa,zsQ])
theorem zvK:decide ((if zuD a c=0 then zuD b d else zuD a c)<0)=zkF a b c d:=by
 unfold zuD zkF
 by_cases h1:a<c
 ·simp [h1]
 ·by_cases h2:c<a
  ·simp [h1,h2];omega
  ·have:a=c:=by omega
   subst this
   by_cases h3:b<d
   ·simp [h3]
   ·simp [h3];split<;>simp
theorem zj3:evl lo 35 [.agg [.int .i64 a,.int .i64 b],.agg [.int .i64 c,.int .i64 d]] h=some (.bool (zkF a b c d),h) :=
 zmB (h':=h) (by simp only [zpw,zac,zaa,zre,zvK];simp)
end
end Go.Proofs.YthdfojchihooeaaGreat
/- Arguments: data that came in,as blocks that are read alone. -/
namespace Go.Proofs.YthdfojchihooeaaGreat.T
open Go
def zxx (P:Program) (g:TypeId→Bool):List Field→Nat→Nat→Bool
 | [],off,n=>Nat.beq off n
 | f :: fs,off,n=>match Nat.beq f.offset off&&g f.type with
  | true=>zxx P g fs (off+P.cellsOf f.type) n
  | false=>false
def zs1 (P:Program):Nat→TypeId→Bool
 | 0,_=>false
 | n+1,t=>match P.underlying t with
  | some .bool=>Nat.beq (P.cellsOf t) 1
  | some (.int _)=>Nat.beq (P.cellsOf t) 1
  | some .string=>Nat.beq (P.cellsOf t) 1
  | some (.slice e)=>Nat.beq (P.cellsOf t) 1&&Nat.blt 0 (P.cellsOf e)&&zs1 P n e
  | some (.struct fs)=>zxx P (zs1 P n) fs.toList 0 (P.cellsOf t)
  | _=>false
def TVs (P:Program) (g:TypeId→List V→Prop):List Field→List V→Prop
 | [],xs=>xs = []
 | f :: fs,xs=>∃ ys zs,xs=ys++zs∧ys.length=P.cellsOf f.type∧g f.type ys∧TVs P g fs zs
def TV (P:Program) (h:Heap):Nat→TypeId→List V→Prop
 | 0,_,_=>False
 | n+1,t,xs=>match P.underlying t with
  | some .bool=>∃ b,xs = [.bool b]
  | some (.int k)=>∃ i,xs = [.int k i]∧(Lit.int k i).wf=true
  | some .string=>∃ s,xs = [.str s]∧s.size≤maxLen
  | some (.slice e)=>∃ a c rs,xs = [.sl (P.cellsOf e) a rs.length c]∧(rs.length≤maxLen∧∀ k,c=some k→rs.length≤k)∧(∀ row∈rs,row.length=P.cellsOf e∧TV P h n e row) ∧
    (rs = []∨∃ b,a=some (b,0)∧Heap.rows? h b=some rs)
  | some (.struct fs)=>TVs P (TV P h n) fs.toList xs
  | _=>False
theorem zu4 {h h':Heap} (hp:h <+: h') {b:Nat}{rs:List (List V)} (hb:Heap.rows? h b=some rs):Heap.rows? h' b=some rs:=by
 obtain ⟨t,rfl⟩:=hp
 unfold Heap.rows? at hb ⊢
 have hl:b<h.length:=by
  apply Nat.lt_of_not_le
  intro hle
  rw [List.getElem?_eq_none hle] at hb;cases hb
 rw [List.getElem?_append_left hl];exact hb
theorem TVs.imp {P:Program}{g g':TypeId→List V→Prop} (hg:∀ t xs,g t xs→g' t xs):∀ {fs:List Field}{xs:List V},TVs P g fs xs→TVs P g' fs xs
 | [],xs,h=>h
 | f :: fs,xs,⟨ys,zs,h1,h2,h3,h4⟩=>⟨ys,zs,h1,h2,hg _ _ h3,TVs.imp hg h4⟩
theorem TV.mono {P:Program}{h h':Heap} (hp:h <+: h'):∀ (n:Nat) (t:TypeId) (xs:List V),TV P h n t xs→TV P h' n t xs
 | 0,_,_,hx=>hx
 | n+1,t,xs,hx=>by
  simp only [TV] at hx ⊢
  split at hx
  ·exact hx
  ·exact hx
  ·exact hx
  ·obtain ⟨a,c,rs,h1,h2,h3,h4⟩:=hx
   exact ⟨a,c,rs,h1,h2,fun row hr=>⟨(h3 row hr).1,TV.mono hp n _ _ (h3 row hr).2⟩,h4.imp id fun ⟨b,h5,h6⟩=>⟨b,h5,zu4 hp h6⟩⟩
  ·exact TVs.imp (fun t xs=>TV.mono hp n t xs) hx
  ·exact hx
theorem zpF {xs ys:List V} (h1:zdA xs=true) (h2:zdA ys=true):zdA (xs++ys)=true:=by
 induction xs with
 | nil=>exact h2
 | cons x r ih =>
  simp only [List.cons_append,zdA] at h1 ⊢
  split at h1
  ·exact ih h1
  ·cases h1
theorem TVs.firm {P:Program}{g:TypeId→List V→Prop} (hg:∀ t xs,g t xs→zdA xs=true):∀ {l:List Field}{xs:List V},TVs P g l xs→zdA xs=true
 | [],xs,h=>by simp only [TVs] at h;subst h;rfl
 | f :: l,xs,⟨ys,zs,e,_,h3,h4⟩=>by subst e;exact zpF (hg _ _ h3) (TVs.firm hg h4)
theorem TV.firm {P:Program}{h:Heap}:∀ (n:Nat) (t:TypeId) (xs:List V),TV P h n t xs→zdA xs=true
 | 0,_,_,hx=>hx.elim
 | n+1,t,xs,hx=>by
  simp only [TV] at hx
  split at hx
  ·obtain ⟨b,rfl⟩:=hx;rfl
  ·obtain ⟨i,rfl,_⟩:=hx;rfl
  ·obtain ⟨s,rfl,_⟩:=hx;rfl
  ·obtain ⟨a,c,rs,rfl,_⟩:=hx;rfl
  ·exact TVs.firm (fun t xs=>TV.firm n t xs) hx
  ·exact hx.elim
structure Imp (W:World) (ρ:Rho) (h:Heap):Prop where
 rel:HRel ρ h W
 ro:∀ b,b<h.length→zbR h b∨zt1 h b
theorem zsw {h:Heap}{k:Blk}{b:Nat} (hb:b<h.length) (hd:zbR h b):zbR (h ++ [k]) b:=by unfold zbR at *;rw [List.getElem?_append_left hb];exact hd
theorem zvj {h:Heap}{k:Blk}{b:Nat} (hb:b<h.length) (hd:zt1 h b):zt1 (h ++ [k]) b:=by obtain ⟨R,e,rs,h1⟩:=hd;exact ⟨R,e,rs,by rw [List.getElem?_append_left hb];exact h1⟩
theorem Imp.lay {W:World}{ρ:Rho}{h:Heap} (hi:Imp W ρ h) (k:Blk) (e:E) (hlt:e.r<W.heap.size) (hk:BR ρ e k W) (hro:k = .dead∨∃ R e rs,k = .rows R e true rs) :
  Imp W (ρ.set h.length e) (h ++ [k]):=by
 have hle:Rle ρ (ρ.set h.length e):=Rho.set_le hi.rel.fresh
 have hnew:zbR (h ++ [k]) h.length∨zt1 (h ++ [k]) h.length:=by
  rcases hro with rfl | ⟨R,t,rs,rfl⟩
  ·exact .inl (by simp [zbR])
  ·exact .inr ⟨R,t,rs,by simp⟩
 have hall:∀ b,b<(h ++ [k]).length→zbR (h ++ [k]) b∨zt1 (h ++ [k]) b:=fun b hb=>by
  by_cases hx:b=h.length
  ·subst hx;exact hnew
  ·have:b<h.length:=by simp at hb;omega
   exact (hi.ro b this).imp (zsw this) (zvj this)
 have hdom:∀ b e',(ρ.set h.length e) b=some e'→b<(h ++ [k]).length∧e'.r<W.heap.size:=fun b e' hb=>by
  by_cases hx:b=h.length
  ·subst hx;rw [Rho.set_same] at hb;injection hb with hb;subst hb;exact ⟨by simp,hlt⟩
  ·rw [Rho.set_other hx] at hb
   have:=hi.rel.dom b e' hb
   exact ⟨by simp;omega,by omega⟩
 refine ⟨⟨hdom,fun b e' k' hb hk'=>?_,fun b b' e1 e2 h1 h2 hr hne=>?_⟩,hall⟩
 ·by_cases hx:b=h.length
  ·subst hx;rw [Rho.set_same] at hb;injection hb with hb;subst hb
   simp at hk';subst hk'
   exact BR.mono hle rfl hk
  ·rw [Rho.set_other hx] at hb
   have:=(hi.rel.dom b e' hb).1
   rw [List.getElem?_append_left this] at hk'
   exact BR.mono hle rfl (hi.rel.blk b e' k' hb hk')
 ·have g1:=hall b (hdom b e1 h1).1
  have g2:=hall b' (hdom b' e2 h2).1
  rcases g1 with g1 | g1
  ·exact .inl g1
  ·rcases g2 with g2 | g2
   ·exact .inr (.inl g2)
   ·exact .inr (.inr ⟨g1,g2⟩)
section
variable {P:Program}{W:World}{H:Type}{enc:TypeId×Value→H}
theorem znp {base:Nat}{a:Addr}{n:Nat}{cs:List Value} (h:W.cells? base a n=some cs):cs.length=n∧∀ (i:Nat) (c:Value),cs[i]?=some c→W.cell? (a.add i)=some c:=by
 unfold World.cells? at h
 split at h
 ·have hl:cs.length=n:=by simpa using mapM_some_length h
  refine ⟨hl,fun i c hc=>?_⟩
  have hi:i<n:=by have:=(List.getElem?_eq_some_iff.1 hc).1;omega
  have:=mapM_some_get h i i (by simp [hi])
  rw [this,hc]
 ·cases h
theorem zsS {a:Addr}{c:Value} (h:W.cell? a=some c):∃ cs el fr,W.heap[a.block]?=some (.cells cs el fr)∧a.spot=none∧cs[a.off]?=some c:=by
 unfold World.cell? at h
 split at h
 ·rename_i cs el fr he
  split at h
  ·cases h
  ·rename_i hs;exact ⟨cs,el,fr,he,by simpa using hs,h⟩
 ·cases h
def zx1 (P:Program) (W:World) (n:Nat) (t:TypeId) (cs:List Value):Prop :=
 ∀ ρ h,Imp W ρ h→∃ (ρ':Rho) (h':Heap) (xs:List V),Rle ρ ρ'∧h <+: h'∧Imp W ρ' h'∧VRs ρ' xs cs∧TV P h' n t xs
theorem zph {n:Nat}{t:TypeId}{R:Nat}:∀ (css:List (List Value)),(∀ cs∈css,cs.length=R∧zx1 P W n t cs)→∀ ρ h,Imp W ρ h →
  ∃ (ρ':Rho) (h':Heap) (rs:List (List V)),Rle ρ ρ'∧h <+: h'∧Imp W ρ' h'∧rs.length=css.length∧(∀ (i:Nat) (row:List V),rs[i]?=some row→∃ cs,css[i]?=some cs∧VRs ρ' row cs∧row.length=R∧TV P h' n t row)
 | [],_,ρ,h,hi=>⟨ρ,h,[],Rle.refl _,List.prefix_refl _,hi,rfl,fun i row hr=>by simp at hr⟩
 | cs :: css,hc,ρ,h,hi=>by
  obtain ⟨ρ1,h1,xs,a1,a2,a3,a4,a5⟩:=(hc cs (by simp)).2 ρ h hi
  obtain ⟨ρ2,h2,rs,b1,b2,b3,b4,b5⟩:=zph css (fun c hcc=>hc c (by simp [hcc])) ρ1 h1 a3
  refine ⟨ρ2,h2,xs :: rs,a1.trans b1,a2.trans b2,b3,by simp [b4],fun i row hr=>?_⟩
  cases i with
  | zero =>
   simp at hr;subst hr
   exact ⟨cs,rfl,VRs.mono b1 _ _ a4,by rw [a4.length];exact (hc cs (by simp)).1,TV.mono b2 _ _ _ a5⟩
  | succ i =>
   simp at hr
   obtain ⟨c,g1,g2⟩:=b5 i row hr
   exact ⟨c,by simpa using g1,g2⟩
theorem zlo {n:Nat}{cs:List Value}:∀ (fs:List Field) (off:Nat),zxx P (zs1 P n) fs off cs.length=true→(∀ f∈fs,zs1 P n f.type=true→zx1 P W n f.type ((cs.drop f.offset).take (P.cellsOf f.type)))→∀ ρ h,Imp W ρ h →
  ∃ (ρ':Rho) (h':Heap) (xs:List V),Rle ρ ρ'∧h <+: h'∧Imp W ρ' h'∧VRs ρ' xs (cs.drop off)∧TVs P (TV P h' n) fs xs∧off≤cs.length
 | [],off,hin,_,ρ,h,hi=>by
  simp only [zxx] at hin
  have:=Nat.eq_of_beq_eq_true hin
  exact ⟨ρ,h,[],Rle.refl _,List.prefix_refl _,hi,by rw [List.drop_eq_nil_of_le (by omega)];exact VRs.nil,rfl,by omega⟩
 | f :: fs,off,hin,hl,ρ,h,hi=>by
  simp only [zxx] at hin
  split at hin
  ·rename_i hc
   simp only [Bool.and_eq_true] at hc
   have ho:=Nat.eq_of_beq_eq_true hc.1
   obtain ⟨ρ1,h1,xs,a1,a2,a3,a4,a5⟩:=hl f (by simp) hc.2 ρ h hi
   obtain ⟨ρ2,h2,ys,b1,b2,b3,b4,b5,b6⟩:=zlo fs (off+P.cellsOf f.type) hin (fun g hg=>hl g (by simp [hg])) ρ1 h1 a3
   rw [ho] at a4
   have hlen:=a4.length
   refine ⟨ρ2,h2,xs++ys,a1.trans b1,a2.trans b2,b3,?_,⟨xs,ys,rfl,?_,TV.mono b2 _ _ _ a5,b5⟩,by omega⟩
   ·have:=(VRs.mono b1 _ _ a4).append b4
    rwa [← List.drop_drop,List.take_append_drop] at this
   ·rw [hlen];simp;omega
  ·cases hin
theorem zyb:∀ (n:Nat) (t:TypeId),zs1 P n t=true→∀ (fuel:Nat) (cs:List Value) (x:DataW H×List MemPlace),DataW.trod enc P W 0 (fun _=>true) true fuel t cs=some x →
  (∀ a l c,Value.slice (some a) l c∈cs→0<W.heap.size)→zx1 P W n t cs:=by
 intro n
 induction n with
 | zero=>intro t h;simp [zs1] at h
 | succ n ih =>
  intro t hin fuel cs x hx hpos ρ h hi
  simp only [zs1] at hin
  split at hin
  ·rename_i hu
   obtain ⟨b,rfl,_⟩:=DataW.trod_bool hu hx
   exact ⟨ρ,h,[.bool b],Rle.refl _,List.prefix_refl _,hi,VRs.cons VR.bool' VRs.nil,by simp only [TV,hu];exact ⟨b,rfl⟩⟩
  ·rename_i k hu
   obtain ⟨i,rfl,_,hw⟩:=DataW.trod_int hu hx
   exact ⟨ρ,h,[.int k i],Rle.refl _,List.prefix_refl _,hi,VRs.cons VR.int' VRs.nil,by simp only [TV,hu];exact ⟨i,rfl,hw⟩⟩
  ·rename_i hu
   obtain ⟨s,rfl,_,hw⟩:=DataW.trod_string hu hx
   exact ⟨ρ,h,[.str s],Rle.refl _,List.prefix_refl _,hi,VRs.cons (by simp [VR]) VRs.nil,by simp only [TV,hu];exact ⟨s,rfl,hw⟩⟩
  ·rename_i e hu
   simp only [Bool.and_eq_true] at hin
   have hR:0<P.cellsOf e:=by have:=hin.1.2;simpa [Nat.blt_eq] using this
   rcases DataW.trod_slice hu hx with ⟨rfl,_⟩ | ⟨a,len,cap,elems,rest,m,rfl,rfl,_,_,hlc,hcm,hel,hg,hsp,_⟩
   ·exact ⟨ρ,h,[.sl (P.cellsOf e) none 0 (some 0)],Rle.refl _,List.prefix_refl _,hi,VRs.cons (by simp [VR]) VRs.nil,by
     simp only [TV,hu];exact ⟨none,some 0,[],rfl,⟨Nat.zero_le _,fun _ _=>Nat.zero_le _⟩,fun r hr=>(by cases hr),.inl rfl⟩⟩
   ·-- the rows
    have hrow:∀ i,i<len→∃ c y,W.cells? 0 (a.add (i*P.cellsOf e)) (P.cellsOf e)=some c∧DataW.trod enc P W 0 (fun _=>true) true m e c=some y:=fun i hi'=>by
     have h1:=hg i hi'
     rw [List.getElem?_eq_getElem (by omega)] at h1
     obtain ⟨c,h2,h3⟩:=Option.bind_eq_some_iff.1 h1
     exact ⟨c,_,h2,h3⟩
    have hspare:∀ j,len+j<cap→∃ c,W.cells? 0 (a.add ((len+j)*P.cellsOf e)) (P.cellsOf e)=some c:=fun j hj=>by
     obtain ⟨h0,h1⟩:=hsp rfl
     have h1:=h1 j (by omega)
     rw [List.getElem?_eq_getElem (by omega)] at h1
     obtain ⟨c,h2,_⟩:=Option.bind_eq_some_iff.1 h1
     exact ⟨c,h2⟩
    by_cases hcap:cap=0
    ·-- no room at all
     subst hcap
     have hl0:len=0:=by omega
     subst hl0
     have hp:=hpos a 0 0 (by simp)
     have hi2:=hi.lay .dead ⟨0,0,P.cellsOf e,0,0⟩ hp trivial (.inl rfl)
     refine ⟨_,_,[.sl (P.cellsOf e) (some (h.length,0)) 0 (some 0)],Rho.set_le hi.rel.fresh,⟨_,rfl⟩,hi2,VRs.cons ?_ VRs.nil,?_⟩
     ·simp only [VR];exact ⟨_,a,0,Rho.set_same _ _ _,rfl,rfl,.inl rfl,Nat.le_refl _,fun y hy=>by injection hy,fun hc=>by cases hc⟩
     ·simp only [TV,hu];exact ⟨_,_,[],rfl,⟨Nat.zero_le _,fun _ _=>Nat.zero_le _⟩,fun r hr=>(by cases hr),.inl rfl⟩
    ·-- the block
     have hblk:∃ carr el fr,W.heap[a.block]?=some (.cells carr el fr)∧a.spot=none:=by
      have:∃ c,W.cells? 0 (a.add (0*P.cellsOf e)) (P.cellsOf e)=some c:=by
       by_cases hl0:len=0
       ·have:=hspare 0 (by omega);rw [hl0] at this;simpa using this
       ·obtain ⟨c,_,h2,_⟩:=hrow 0 (by omega);exact ⟨c,h2⟩
      obtain ⟨c,hc⟩:=this
      obtain ⟨c1,c2⟩:=znp hc
      have h0:c[0]?=some c[0]:=List.getElem?_eq_getElem (by omega)
      obtain ⟨carr,el,fr,h1,h2,_⟩:=zsS (c2 0 _ h0)
      have e1:(a.add (0*P.cellsOf e)).add 0=a:=by simp [Addr.add]
      rw [e1] at h1 h2
      exact ⟨carr,el,fr,h1,h2⟩
     obtain ⟨carr,el,fr,hW,hspot⟩:=hblk
     obtain ⟨r,o,sp⟩:=a
     simp only at hW hspot
     subst hspot
     have hlt:r<W.heap.size:=by
      apply Nat.lt_of_not_le
      intro hle
      rw [Array.getElem?_eq_none hle] at hW;cases hW
     have hcells:∀ i,i<len→∃ c y,c.length=P.cellsOf e∧(∀ (j:Nat) (v:Value),c[j]?=some v→carr[o+(i*P.cellsOf e+j)]?=some v)∧DataW.trod enc P W 0 (fun _=>true) true m e c=some y:=fun i hi'=>by
      obtain ⟨c,y,h1,h2⟩:=hrow i hi'
      obtain ⟨c1,c2⟩:=znp h1
      refine ⟨c,y,c1,fun j v hv=>?_,h2⟩
      have:=c2 j v hv
      rw [zfT,zfT,zjy hW] at this
      rw [← this];congr 1;omega
     have hall:∃ css:List (List Value),css.length=len∧∀ i,i<len→∃ c y,css[i]?=some c∧c.length=P.cellsOf e∧(∀ (j:Nat) (v:Value),c[j]?=some v→carr[o+(i*P.cellsOf e+j)]?=some v)∧DataW.trod enc P W 0 (fun _=>true) true m e c=some y:=by
      refine ⟨(List.range len).map fun i=>if hi':i<len then (hcells i hi').choose else [],by simp,fun i hi'=>?_⟩
      obtain ⟨y,h1,h2,h3⟩:=(hcells i hi').choose_spec
      exact ⟨_,y,by simp [hi'],h1,h2,h3⟩
     obtain ⟨css,hcl,hcs⟩:=hall
     obtain ⟨ρ1,h1,rs,a1,a2,a3,a4,a5⟩:=zph (P:=P) (W:=W) (n:=n) (t:=e) (R:=P.cellsOf e) css (fun c hc=>by
      obtain ⟨i,hi'⟩:=List.mem_iff_getElem?.1 hc
      have hlt:=(List.getElem?_eq_some_iff.1 hi').1
      obtain ⟨c',y,g1,g2,g3,g4⟩:=hcs i (by omega)
      rw [hi'] at g1;injection g1 with g1;subst g1
      exact ⟨g2,ih e hin.2 m c y g4 fun _ _ _ _=>by omega⟩) ρ h hi
     by_cases hl0:len=0
     ·have hrs:rs = []:=List.eq_nil_of_length_eq_zero (by omega)
      subst hrs
      have hi2:=a3.lay .dead ⟨r,o,P.cellsOf e,0,0⟩ hlt trivial (.inl rfl)
      refine ⟨_,_,[.sl (P.cellsOf e) (some (h1.length,0)) 0 (some cap)],a1.trans (Rho.set_le a3.rel.fresh),a2.trans ⟨_,rfl⟩,hi2,VRs.cons ?_ VRs.nil,?_⟩
      ·simp only [VR];exact ⟨_,⟨r,o,none⟩,cap,Rho.set_same _ _ _,rfl,by rw [hl0],.inr (by simp),by omega,fun y hy=>by injection hy,fun hc=>by cases hc⟩
      ·simp only [TV,hu];exact ⟨_,_,[],rfl,⟨Nat.zero_le _,fun _ _=>Nat.zero_le _⟩,fun r hr=>(by cases hr),.inl rfl⟩
     ·have hrl:rs.length=len:=by omega
      have hbr:BR ρ1 ⟨r,o,P.cellsOf e,rs.length,rs.length⟩ (.rows (P.cellsOf e) el true rs) W:=by
       refine ⟨carr,fr,?_,fun h=>(by cases h),rfl,rfl,Nat.le_refl _,?_,fun i row hr=>?_,.inr ⟨rfl,fun j c g1 g2 g3=>?_⟩⟩
       ·exact hW
       ·obtain ⟨c,y,g1,g2,g3,_⟩:=hcs (len - 1) (by omega)
        have:=g3 (P.cellsOf e - 1) _ (List.getElem?_eq_getElem (by omega))
        have hb:=(Array.getElem?_eq_some_iff.1 this).1
        have e1:rs.length*P.cellsOf e=(len - 1)*P.cellsOf e+P.cellsOf e:=by rw [hrl,← Nat.succ_mul];congr 1;omega
        show o+rs.length*P.cellsOf e≤carr.size
        omega
       ·obtain ⟨c,g1,g2,g3,_⟩:=a5 i row hr
        refine ⟨g3,fun j v hv=>?_⟩
        have hlt:=(List.getElem?_eq_some_iff.1 hr).1
        obtain ⟨c',y,k1,k2,k3,_⟩:=hcs i (by omega)
        rw [g1] at k1;injection k1 with k1;subst k1
        obtain ⟨z,z1,z2⟩:=g2.get j v hv
        exact ⟨z,k3 j z z1,z2⟩
       ·obtain ⟨q,hq⟩:∃ q,j=o+q:=⟨j - o,by simp only at g1;omega⟩
        have hq2:q<rs.length*P.cellsOf e:=by simp only at g2;omega
        have hdiv:q / P.cellsOf e<rs.length:=(Nat.div_lt_iff_lt_mul hR).2 hq2
        have hmod:q % P.cellsOf e<P.cellsOf e:=Nat.mod_lt _ hR
        have hqq:q=q / P.cellsOf e*P.cellsOf e+q % P.cellsOf e:=by rw [Nat.mul_comm];exact (Nat.div_add_mod q _).symm
        obtain ⟨c0,k1,k2,k3,k4⟩:=a5 (q / P.cellsOf e) _ (List.getElem?_eq_getElem hdiv)
        obtain ⟨c',y,l1,l2,l3,_⟩:=hcs (q / P.cellsOf e) (by omega)
        rw [k1] at l1;injection l1 with l1;subst l1
        have hz:=l3 (q % P.cellsOf e) _ (List.getElem?_eq_getElem (by omega))
        rw [← hqq,← hq,g3] at hz
        injection hz with hz
        rw [hz]
        exact zb8 k2 (TV.firm _ _ _ k4) _ (List.getElem_mem _)
      have hi2:=a3.lay (.rows (P.cellsOf e) el true rs) ⟨r,o,P.cellsOf e,rs.length,rs.length⟩ hlt hbr (.inr ⟨_,_,_,rfl⟩)
      refine ⟨_,_,[.sl (P.cellsOf e) (some (h1.length,0)) rs.length (some cap)],a1.trans (Rho.set_le a3.rel.fresh),a2.trans ⟨_,rfl⟩,hi2,VRs.cons ?_ VRs.nil,?_⟩
      ·simp only [VR];exact ⟨_,⟨r,o,none⟩,cap,Rho.set_same _ _ _,rfl,by rw [hrl],.inr (by simp),by omega,fun y hy=>by injection hy,fun hc=>by cases hc⟩
      ·simp only [TV,hu]
       refine ⟨_,_,rs,rfl,⟨by omega,fun k hk=>by injection hk with hk;omega⟩,fun row hr=>?_,.inr ⟨_,rfl,by simp [Heap.rows?]⟩⟩
       obtain ⟨i,hi'⟩:=List.mem_iff_getElem?.1 hr
       obtain ⟨c,_,_,g3,g4⟩:=a5 i row hi'
       exact ⟨g3,TV.mono ⟨_,rfl⟩ _ _ _ g4⟩
  ·rename_i fs hu
   obtain ⟨xs,m,rfl,_,hl,hxl,hf⟩:=DataW.trod_struct hu hx
   rw [← hl] at hin
   obtain ⟨ρ',h',ys,b1,b2,b3,b4,b5,_⟩:=zlo (P:=P) (W:=W) (n:=n) (cs:=cs) fs.toList 0 hin (fun f hfm hft=>by
    obtain ⟨i,hi'⟩:=List.mem_iff_getElem?.1 hfm
    have hi2:fs[i]?=some f:=by simpa using hi'
    have h1:=hf i f hi2
    have hlt:i<xs.length:=by have:=(Array.getElem?_eq_some_iff.1 hi2).1;omega
    rw [List.getElem?_eq_getElem hlt] at h1
    exact ih f.type hft m _ _ h1 fun a l c hm=>hpos a l c (List.mem_of_mem_drop (List.mem_of_mem_take hm))) ρ h hi
   exact ⟨ρ',h',ys,b1,b2,b3,by simpa using b4,by simp only [TV,hu];exact b5⟩
  ·cases hin
end
end Go.Proofs.YthdfojchihooeaaGreat.T
/- A law's call: its arguments laid,its answer and what it leaves as it was. -/
namespace Go.Proofs.YthdfojchihooeaaGreat.T
open Go Go.RowKit
section
variable {P:Program}{W:World}{H:Type}{enc:TypeId×Value→H}
theorem zsp {r:Reach}{base:Nat}{a:Addr}{e:TypeId}{n:Nat} (h:W.has P r base a e n):0<W.heap.size:=by
 obtain ⟨_,_,row,cells,hs,_⟩:=h
 unfold World.shape? at hs
 apply Nat.lt_of_not_le
 intro hle
 rw [Array.getElem?_eq_none (by omega)] at hs
 cases hs
theorem zlf {r:Reach}{base:Nat}{u:TypeId}{a:Addr}{l c:Nat} (h:Cell.okWide P W r base u (.slice (some a) l c)):0<W.heap.size:=by
 have h2:Cell.ok P W r base u (.slice (some a) l c):=by
  unfold Cell.okWide at h
  split at h<;>simp_all
 unfold Cell.ok at h2
 split at h2<;>simp_all
 exact zsp h2.2.2
theorem zo8 {r:Reach}{base:Nat}{t:TypeId}{v:Value} (h:Value.okWide P W r base t v) {a:Addr}{l c:Nat} (hm:Value.slice (some a) l c∈v.cells.toList):0<W.heap.size:=by
 have row:∀ cs:Array Value,Row.okWide P W r base t cs→v = .agg cs→0<W.heap.size:=fun cs hr hv=>by
  subst hv
  obtain ⟨ts,_,_,h3⟩:=hr
  simp [Value.cells] at hm
  obtain ⟨i,hi⟩:=Array.mem_iff_getElem?.1 hm
  obtain ⟨u,_,hu⟩:=h3 i _ hi
  exact zlf hu
 unfold Value.okWide at h
 split at h
 ·obtain ⟨cs,hv,_,hr⟩:=h;exact row cs hr hv
 ·obtain ⟨cs,hv,_,hr⟩:=h;exact row cs hr hv
 ·cases v<;>simp [Value.cells] at hm
  ·obtain ⟨rfl,rfl,rfl⟩:=hm
   exact zlf h
  ·exfalso
   unfold Cell.okWide Cell.ok at h
   split at h<;>(try split at h)<;>simp_all
def ArgV (P:Program) (h:Heap) (n:Nat) (t:TypeId) (x:V):Prop:=match P.underlying t with
 | some (.struct _)=>∃ xs,x = .agg xs∧TV P h n t xs
 | _=>TV P h n t [x]
theorem ArgV.mono {h h':Heap} (hp:h <+: h') {n:Nat}{t:TypeId}{x:V} (hx:ArgV P h n t x):ArgV P h' n t x:=by
 unfold ArgV at *
 split at hx
 ·obtain ⟨xs,h1,h2⟩:=hx;exact ⟨xs,h1,TV.mono hp _ _ _ h2⟩
 ·exact TV.mono hp _ _ _ hx
theorem lays_arg {n:Nat}{t:TypeId}{v:Value}{d:DataW H}{p:List MemPlace}{r:Reach}{base:Nat} (hin:zs1 P n t=true) (hok:Value.okWide P W r base t v)
  (h0:DataW.Trod enc P W 0 (fun _=>true) true t v d p) {ρ:Rho}{h:Heap} (hi:Imp W ρ h):∃ (ρ':Rho) (h':Heap) (x:V),Rle ρ ρ'∧h <+: h'∧Imp W ρ' h'∧VR ρ' x v∧ArgV P h' n t x:=by
 obtain ⟨fuel,hf⟩:=h0
 obtain ⟨ρ',h',xs,a1,a2,a3,a4,a5⟩:=zyb n t hin fuel _ _ hf (fun a l c hm=>zo8 hok hm) ρ h hi
 unfold Value.okWide at hok
 cases hu:P.underlying t with
 | none =>
  cases n with
  | zero=>simp [zs1] at hin
  | succ n=>simp [zs1,hu] at hin
 | some td =>
  have one:(∀ fs,td ≠ .struct fs)→∃ x,xs = [x]∧VR ρ' x v:=fun hns=>by
   cases n with
   | zero=>simp [zs1] at hin
   | succ n =>
    simp only [TV,hu] at a5
    have hl:=a4.length
    have hx:∃ x,xs = [x]:=by
     cases td<;>simp only at a5<;>(try exact a5.elim)
     ·obtain ⟨b,rfl⟩:=a5;exact ⟨_,rfl⟩
     ·obtain ⟨i,rfl,_⟩:=a5;exact ⟨_,rfl⟩
     ·obtain ⟨s,rfl,_⟩:=a5;exact ⟨_,rfl⟩
     ·obtain ⟨a,c,rs,rfl,_⟩:=a5;exact ⟨_,rfl⟩
     ·exact absurd rfl (hns _)
    obtain ⟨x,rfl⟩:=hx
    refine ⟨x,rfl,?_⟩
    have hns':∀ cs,v ≠ .agg cs:=fun cs hv=>by
     subst hv
     rw [hu] at hok
     cases td<;>simp only [zs1,hu] at hin<;>(try cases hin)<;>simp [Cell.okWide,Cell.ok,hu] at hok
     exact absurd rfl (hns _)
    have hc:v.cells.toList = [v]:=by
     cases v<;>(try rfl)
     ·exact absurd rfl (hns' _)
    rw [hc] at a4
    exact a4.uncons.1
  by_cases hs:∃ fs,td = .struct fs
  ·obtain ⟨fs,rfl⟩:=hs
   rw [hu] at hok
   obtain ⟨cs,rfl,_⟩:=hok
   refine ⟨ρ',h',.agg xs,a1,a2,a3,?_,?_⟩
   ·simp only [VR];exact ⟨cs,rfl,by simpa [Value.cells] using a4⟩
   ·simp only [ArgV,hu];exact ⟨xs,rfl,a5⟩
  ·obtain ⟨x,rfl,hx⟩:=one fun fs e=>hs ⟨fs,e⟩
   refine ⟨ρ',h',x,a1,a2,a3,hx,?_⟩
   unfold ArgV
   rw [hu]
   split
   ·rename_i fs' he;injection he with he;exact absurd ⟨_,he⟩ hs
   ·exact a5
theorem imp_nil (W:World):Imp W (fun _=>none) [] :=
 ⟨⟨fun b e h=>(by cases h),fun b e k h=>(by cases h),fun b b' e e' h=>(by cases h)⟩,fun b hb=>by simp at hb⟩
theorem law_walk {call:zhZ} (hS:SC P call) {f:FuncId}{args:List V}{h h':Heap}{ρ:Rho} (hk:call h.length f args h=some (.bool true,h')) {cargs:Array Value} (hv:VRs ρ args cargs.toList) (hi:Imp W ρ h) :
  Calls P f cargs W fun e w'=>e = .returned (.bool true)∧Below W.heap.size W w':=by
 refine Calls.mono (hS.calls hk (Nat.le_refl _) hv hi.rel) ?_
 rintro e w' ⟨c,rfl,ρ',h1,h2,h3⟩
 simp only [VR] at h1;subst h1
 exact ⟨rfl,⟨h3.os,h3.tape,h3.output,h3.size,fun k hk=>h3.frame k hk fun b e hb hle=>by
  have:=(hi.rel.dom b e hb).1
  omega⟩⟩
end
end Go.Proofs.YthdfojchihooeaaGreat.T
namespace Go.Proofs.YthdfojchihooeaaGreat
open Go T


structure Ver where
 key:Int
 tag:Tag
 past:List Tag
 text:ByteArray
 gone:Bool
structure Node where
 store:List Ver
 wait:List Ver
structure Place where
 me:Int
 clock:Int
 chain:List Node
 log:List Ver
 got:List (List Ver)
 fell:Bool
structure Frame where
 fro:Int
 to:Int
 at':Int
 ver:Ver
abbrev zx8 (ro:Bool):Nat:=bif ro then 192 else 60
abbrev zv7 (ro:Bool):Nat:=bif ro then 197 else 65
abbrev zwP (ro:Bool):Nat:=bif ro then 184 else 72
abbrev zpJ (ro:Bool):Nat:=bif ro then 330 else 76
abbrev Ver.cs (v:Ver) (a:Option (Nat×Nat)) (c:Option Nat):List V := [.int .i64 v.key,.int .i64 v.tag.time,.int .i64 v.tag.place,.sl 2 a v.past.length c,.str v.text,.bool v.gone]
abbrev RTags (ro:Bool):Rel (List Tag):=Sli ro 2 (zx8 ro) (flat Tag.cs)
def RVer (ro:Bool):Rel Ver:=fun h cs v F=>∃ s,cs = [.int .i64 v.key,.int .i64 v.tag.time,.int .i64 v.tag.place,s,.str v.text,.bool v.gone]∧RTags ro h [s] v.past F
abbrev RVers (ro:Bool):Rel (List Ver):=Sli ro 6 (zv7 ro) (RVer ro)
abbrev RVss (ro:Bool):Rel (List (List Ver)):=Sli ro 1 (zwP ro) (RVers ro)
def RNode (ro:Bool):Rel Node:=fun h cs x F=>∃ s1 s2 F1 F2,cs = [s1,s2]∧F=F1++F2∧RVers ro h [s1] x.store F1∧RVers ro h [s2] x.wait F2
abbrev RNodes (ro:Bool):Rel (List Node):=Sli ro 2 (zpJ ro) (RNode ro)
def RPlace (ro:Bool):Rel Place:=fun h cs p F=>∃ s1 s2 s3 F1 F2 F3,cs = [.int .i64 p.me,.int .i64 p.clock,s1,s2,s3,.bool p.fell]∧F=F1++(F2++F3)∧RNodes ro h [s1] p.chain F1∧RVers ro h [s2] p.log F2∧RVss ro h [s3] p.got F3
def zuP (ro:Bool):Rel Frame:=fun h cs f F=>∃ vs,cs = .int .i64 f.fro :: .int .i64 f.to :: .int .i64 f.at' :: vs∧RVer ro h vs f.ver F
theorem rtags_ok {ro:Bool}:(RTags ro).Ok:=Sli.ok zcE
theorem rver_ok {ro:Bool}:(RVer ro).Ok :=
 ⟨fun h h' cs x F ⟨s,h1,h2⟩ hb=>⟨s,h1,rtags_ok.fr _ _ _ _ _ h2 hb⟩,fun h cs x F ⟨s,_,h2⟩=>rtags_ok.bd _ _ _ _ h2⟩
theorem rvers_ok {ro:Bool}:(RVers ro).Ok:=Sli.ok rver_ok
theorem rvss_ok {ro:Bool}:(RVss ro).Ok:=Sli.ok rvers_ok
theorem rnode_ok {ro:Bool}:(RNode ro).Ok:=by
 refine ⟨?_,?_⟩
 ·rintro h h' cs x F ⟨s1,s2,F1,F2,h1,rfl,h2,h3⟩ hb
  exact ⟨s1,s2,F1,F2,h1,rfl,rvers_ok.fr _ _ _ _ _ h2 fun b hm=>hb b (by simp [hm]),rvers_ok.fr _ _ _ _ _ h3 fun b hm=>hb b (by simp [hm])⟩
 ·rintro h cs x F ⟨s1,s2,F1,F2,h1,rfl,h2,h3⟩ b hb
  rw [List.mem_append] at hb
  exact hb.elim (rvers_ok.bd _ _ _ _ h2 b) (rvers_ok.bd _ _ _ _ h3 b)
theorem rnodes_ok {ro:Bool}:(RNodes ro).Ok:=Sli.ok rnode_ok
theorem rplace_ok {ro:Bool}:(RPlace ro).Ok:=by
 refine ⟨?_,?_⟩
 ·rintro h h' cs x F ⟨s1,s2,s3,F1,F2,F3,h1,rfl,h2,h3,h4⟩ hb
  exact ⟨s1,s2,s3,F1,F2,F3,h1,rfl,rnodes_ok.fr _ _ _ _ _ h2 fun b hm=>hb b (by simp [hm]),rvers_ok.fr _ _ _ _ _ h3 fun b hm=>hb b (by simp [hm]),rvss_ok.fr _ _ _ _ _ h4 fun b hm=>hb b (by simp [hm])⟩
 ·rintro h cs x F ⟨s1,s2,s3,F1,F2,F3,h1,rfl,h2,h3,h4⟩ b hb
  rw [List.mem_append,List.mem_append] at hb
  rcases hb with hb | hb | hb
  ·exact rnodes_ok.bd _ _ _ _ h2 b hb
  ·exact rvers_ok.bd _ _ _ _ h3 b hb
  ·exact rvss_ok.bd _ _ _ _ h4 b hb
theorem rframe_ok {ro:Bool}:(zuP ro).Ok :=
 ⟨fun h h' cs x F ⟨s,h1,h2⟩ hb=>⟨s,h1,rver_ok.fr _ _ _ _ _ h2 hb⟩,fun h cs x F ⟨s,_,h2⟩=>rver_ok.bd _ _ _ _ h2⟩
section
variable {ro:Bool}{h:Heap}{F:List Nat}{a:Option (Nat×Nat)}{c:Option Nat}{n k:Nat}
theorem RTags.get {l:List Tag} (hs:RTags ro h [.sl 2 a n c] l F) (hk:k<l.length):∃ o,a=some o∧ld h o.1 (o.2+k) 0 2=some [.int .i64 l[k].time,.int .i64 l[k].place]:=by
 obtain ⟨o,row,G,h1,h2,⟨rfl,_⟩,_⟩:=hs.read hk
 exact ⟨o,h1,by rw [h2];rfl⟩
theorem RVer.form {row:List V}{v:Ver} (hv:RVer ro h row v F):∃ s a c,row = [.int .i64 v.key,.int .i64 v.tag.time,.int .i64 v.tag.place,s,.str v.text,.bool v.gone] ∧
  (∀ {R':Type} (K:Option (Nat×Nat)→Nat→Option Nat→Option R'),eS 2 s K=K a v.past.length c)∧RTags ro h [.sl 2 a v.past.length c] v.past F:=by
 obtain ⟨s,rfl,hp⟩:=hv
 obtain ⟨a,c,es,hp2⟩:=hp.form
 exact ⟨s,a,c,rfl,es,hp2⟩
theorem RVers.get {l:List Ver} (hs:RVers ro h [.sl 6 a n c] l F) (hk:k<l.length):∃ o s a' c' G,a=some o ∧
  ld h o.1 (o.2+k) 0 6=some [.int .i64 l[k].key,.int .i64 l[k].tag.time,.int .i64 l[k].tag.place,s,.str l[k].text,.bool l[k].gone] ∧
  (∀ {R':Type} (K:Option (Nat×Nat)→Nat→Option Nat→Option R'),eS 2 s K=K a' l[k].past.length c')∧RTags ro h [.sl 2 a' l[k].past.length c'] l[k].past G∧(∀ b∈G,b∈F):=by
 obtain ⟨o,row,G,h1,h2,hv,hG,_⟩:=hs.read hk
 obtain ⟨s,a',c',rfl,es,hp⟩:=hv.form
 exact ⟨o,s,a',c',G,h1,by rw [h2];rfl,es,hp,hG⟩
theorem RVss.get {l:List (List Ver)} (hs:RVss ro h [.sl 1 a n c] l F) (hk:k<l.length):∃ o s a' c' G,a=some o∧ld h o.1 (o.2+k) 0 1=some [s] ∧
  (∀ {R':Type} (K:Option (Nat×Nat)→Nat→Option Nat→Option R'),eS 6 s K=K a' l[k].length c')∧RVers ro h [.sl 6 a' l[k].length c'] l[k] G∧(∀ b∈G,b∈F):=by
 obtain ⟨o,row,G,h1,h2,hv,hG,_⟩:=hs.read hk
 have:∃ s,row = [s]:=by obtain ⟨R',a',c',e,_⟩:=hv;exact ⟨_,e⟩
 obtain ⟨s,rfl⟩:=this
 obtain ⟨a',c',es,hp⟩:=hv.form
 exact ⟨o,s,a',c',G,h1,by rw [h2];rfl,es,hp,hG⟩
theorem RNode.form {row:List V}{x:Node} (hv:RNode ro h row x F):∃ s1 s2 a1 c1 a2 c2 F1 F2,row = [s1,s2]∧F=F1++F2 ∧
  (∀ {R':Type} (K:Option (Nat×Nat)→Nat→Option Nat→Option R'),eS 6 s1 K=K a1 x.store.length c1)∧(∀ {R':Type} (K:Option (Nat×Nat)→Nat→Option Nat→Option R'),eS 6 s2 K=K a2 x.wait.length c2) ∧
  RVers ro h [.sl 6 a1 x.store.length c1] x.store F1∧RVers ro h [.sl 6 a2 x.wait.length c2] x.wait F2:=by
 obtain ⟨s1,s2,F1,F2,rfl,rfl,h1,h2⟩:=hv
 obtain ⟨a1,c1,e1,g1⟩:=h1.form
 obtain ⟨a2,c2,e2,g2⟩:=h2.form
 exact ⟨s1,s2,a1,c1,a2,c2,F1,F2,rfl,rfl,e1,e2,g1,g2⟩
theorem RNodes.get {l:List Node} (hs:RNodes ro h [.sl 2 a n c] l F) (hk:k<l.length):∃ o s1 s2 a1 c1 a2 c2 F1 F2,a=some o∧ld h o.1 (o.2+k) 0 2=some [s1,s2]∧ld h o.1 (o.2+k) 0 1=some [s1]∧ld h o.1 (o.2+k) 1 1=some [s2] ∧
  (∀ {R':Type} (K:Option (Nat×Nat)→Nat→Option Nat→Option R'),eS 6 s1 K=K a1 l[k].store.length c1)∧(∀ {R':Type} (K:Option (Nat×Nat)→Nat→Option Nat→Option R'),eS 6 s2 K=K a2 l[k].wait.length c2) ∧
  RVers ro h [.sl 6 a1 l[k].store.length c1] l[k].store F1∧RVers ro h [.sl 6 a2 l[k].wait.length c2] l[k].wait F2∧(∀ b∈F1,b∈F)∧(∀ b∈F2,b∈F):=by
 obtain ⟨o,row,G,h1,h2,hv,hG,_⟩:=hs.read hk
 obtain ⟨s1,s2,a1,c1,a2,c2,F1,F2,rfl,rfl,e1,e2,g1,g2⟩:=hv.form
 exact ⟨o,s1,s2,a1,c1,a2,c2,F1,F2,h1,by rw [h2];rfl,by rw [h2];rfl,by rw [h2];rfl,e1,e2,g1,g2,fun b hb=>hG b (List.mem_append_left _ hb),fun b hb=>hG b (List.mem_append_right _ hb)⟩
theorem RPlace.form {row:List V}{p:Place} (hv:RPlace ro h row p F):∃ s1 s2 s3 a1 c1 a2 c2 a3 c3 F1 F2 F3,row = [.int .i64 p.me,.int .i64 p.clock,s1,s2,s3,.bool p.fell]∧F=F1++(F2++F3) ∧
  (∀ {R':Type} (K:Option (Nat×Nat)→Nat→Option Nat→Option R'),eS 2 s1 K=K a1 p.chain.length c1)∧(∀ {R':Type} (K:Option (Nat×Nat)→Nat→Option Nat→Option R'),eS 6 s2 K=K a2 p.log.length c2) ∧
  (∀ {R':Type} (K:Option (Nat×Nat)→Nat→Option Nat→Option R'),eS 1 s3 K=K a3 p.got.length c3) ∧
  RNodes ro h [.sl 2 a1 p.chain.length c1] p.chain F1∧RVers ro h [.sl 6 a2 p.log.length c2] p.log F2∧RVss ro h [.sl 1 a3 p.got.length c3] p.got F3:=by
 obtain ⟨s1,s2,s3,F1,F2,F3,rfl,rfl,h1,h2,h3⟩:=hv
 obtain ⟨a1,c1,e1,g1⟩:=h1.form
 obtain ⟨a2,c2,e2,g2⟩:=h2.form
 obtain ⟨a3,c3,e3,g3⟩:=h3.form
 exact ⟨s1,s2,s3,a1,c1,a2,c2,a3,c3,F1,F2,F3,rfl,rfl,e1,e2,e3,g1,g2,g3⟩
end
theorem zcx {α T:Type}{p:α→Bool}{l:List α} (L:Nat→Option T) (no yes:Option T)
  (step:∀ i (hi:i<l.length),L i=if p l[i]=true then L (i+1) else no) (done:L l.length=yes):L 0=if l.all p=true then yes else no:=by
 have loop:∀ m i,m+i=l.length→L i=if (l.drop i).all p=true then yes else no:=by
  intro m
  induction m with
  | zero =>
   intro i hi
   have:i=l.length:=by omega
   subst this
   rw [done,List.drop_length];simp
  | succ m ih =>
   intro i hi
   have hlt:i<l.length:=by omega
   rw [step i hlt,List.drop_eq_getElem_cons hlt,List.all_cons]
   cases hp:p l[i]
   ·simp
   ·simpa using ih (i+1) (by omega)
 exact loop l.length 0 (by omega)
end Go.Proofs.YthdfojchihooeaaGreat
namespace Go.Proofs.YthdfojchihooeaaGreat
open Go T


section
variable {lo:Nat}{ro:Bool}{h:Heap}{F:List Nat}{a:Option (Nat×Nat)}{c:Option Nat}{left:Int}
end
def zcQ (l:List Ver):Prop:=l.length≤1048576∧∀ v∈l,v.past.length≤1048576∧v.text.size≤1048576
def zxQ (l:List (List Ver)):Prop:=l.length≤1048576∧∀ v∈l,zcQ v
def zcW (l:List Node):Prop:=l.length≤1048576∧∀ x∈l,zcQ x.store∧zcQ x.wait
def zcc (p:Place):Prop:=zcW p.chain∧zcQ p.log∧zxQ p.got
section
variable {lo:Nat}{ro:Bool}{h:Heap}{F:List Nat}{a:Option (Nat×Nat)}{c:Option Nat}
abbrev Place.cs (p:Place) (a1:Option (Nat×Nat)) (c1:Option Nat) (a2:Option (Nat×Nat)) (c2:Option Nat) (a3:Option (Nat×Nat)) (c3:Option Nat):List V :=
 [.int .i64 p.me,.int .i64 p.clock,.sl 2 a1 p.chain.length c1,.sl 6 a2 p.log.length c2,.sl 1 a3 p.got.length c3,.bool p.fell]
end
end Go.Proofs.YthdfojchihooeaaGreat
namespace Go.Proofs.YthdfojchihooeaaGreat
open Go T


theorem zlw {T:Type}{n:Nat} (L:Nat→Option T) (step:∀ i,i<n→L i=L (i+1)):L 0=L n:=by
 have loop:∀ i,i≤n→L 0=L i:=by
  intro i
  induction i with
  | zero=>intro _;rfl
  | succ i ih=>intro hi;rw [ih (by omega),step i (by omega)]
 exact loop n (Nat.le_refl n)
section
variable {lo:Nat}{ro ro':Bool}{h:Heap}{F F':List Nat}{a a':Option (Nat×Nat)}{c c':Option Nat}
theorem zqg (x:Int):(x==x)=true:=by simp
theorem zx9 (x:Bool):(x==x)=true:=by simp
theorem zye (x:List UInt8):(x==x)=true:=by simp
abbrev Frame.cs (f:Frame) (a:Option (Nat×Nat)) (c:Option Nat):List V := .int .i64 f.fro :: .int .i64 f.to :: .int .i64 f.at' :: f.ver.cs a c
end
def zxU {α:Type} (f:Int→α→α) (w:α→Nat):List α→Int→List α
 | [],_ => []
 | x :: r,k=>f k x :: zxU f w r (k+w x)
def mkN {α:Type} (w:α→Nat) (l:List α):Nat:=(l.map w).sum
end Go.Proofs.YthdfojchihooeaaGreat
namespace Go.Proofs.YthdfojchihooeaaGreat
open Go T


abbrev big:Int:=1099511627776
abbrev zxJ (_:Tag):Nat:=2
def zxM (v:Ver):Nat:=5+mkN zxJ v.past
def zs5 (l:List Ver):Nat:=mkN zxM l
def zwg (x:Node):Nat:=zs5 x.store+zs5 x.wait
section
variable {lo:Nat}{h:Heap}{F:List Nat}{a:Option (Nat×Nat)}{c:Option Nat}{k:Int}
def zx2 (l:List (List Ver)):Nat:=mkN zs5 l
def zvZ (l:List Node):Nat:=mkN zwg l
end
end Go.Proofs.YthdfojchihooeaaGreat
namespace Go.Proofs.YthdfojchihooeaaGreat
open Go T


section
variable {lo:Nat}{h:Heap}{F:List Nat}{a:Option (Nat×Nat)}{c:Option Nat}{k:Int}
def zvY (p:Place):Nat:=zvZ p.chain+zs5 p.log+zx2 p.got
theorem RPlace.cells {ro:Bool}{p:Place}{a1 a2 a3:Option (Nat×Nat)}{c1 c2 c3:Option Nat} (h1:RPlace ro h (p.cs a1 c1 a2 c2 a3 c3) p F) :
  ∃ F1 F2 F3,F=F1++(F2++F3)∧RNodes ro h [.sl 2 a1 p.chain.length c1] p.chain F1∧RVers ro h [.sl 6 a2 p.log.length c2] p.log F2∧RVss ro h [.sl 1 a3 p.got.length c3] p.got F3:=by
 obtain ⟨_,_,_,F1,F2,F3,e1,rfl,r1,r2,r3⟩:=h1
 injection e1 with _ e1;injection e1 with _ e1;injection e1 with x1 e1;injection e1 with x2 e1;injection e1 with x3 e1
 subst x1;subst x2;subst x3
 exact ⟨F1,F2,F3,rfl,r1,r2,r3⟩
end
end Go.Proofs.YthdfojchihooeaaGreat
namespace Go.Proofs.YthdfojchihooeaaGreat
open Go T


def zlP (b:UInt8):Bool:=zak b.toNat 33 126
def zdX (s:ByteArray):Bool:=s.data.toList.all zlP&&decide ((s.size:Int)≤8)
def zbr (p:List Tag):Bool:=decide (p.length=4)&&p.all fun t=>zbj t.time t.place
def zcU (p q:List Tag):Bool:=(p.zip q).all fun x => !zkF x.2.time x.2.place x.1.time x.1.place
def zeT (p:List Tag):Int:=p.foldl (fun m t=>if t.time>m then t.time else m) 0
def zep (s:ByteArray):Bool:=decide (s.size=0)
def zgd (v:Ver):Bool:=zak v.key 0 3&&zdX v.text&&(!v.gone || zep v.text)&&zbr v.past
def zbg (v:Ver):Bool:=zgd v&&zbj v.tag.time v.tag.place&&decide (zeT v.past<v.tag.time)
section
variable {lo:Nat}{ro ro':Bool}{h:Heap}{F F':List Nat}{a a':Option (Nat×Nat)}{c c':Option Nat}
theorem zoT {s:ByteArray}{i:Nat} (hi:i<s.data.toList.length):zql s (i:Nat)=some (s.data.toList[i]):=by
 unfold zql
 have:i<s.size:=by simpa using hi
 simp [this]
 rfl
theorem ziz {s:ByteArray} (hn:s.size≤1048576):evl lo 160 [.str s] h=some (.bool (zdX s),h):=by
 refine zlW (h':=h) ?_
 have hl:s.data.toList.length=s.size:=by simp
 refine (zcx (p:=zlP) (l:=s.data.toList) (fun i=>zbH (List.length h) s false (i:Nat) h) (some (.bool false,h)) (some (.bool (decide ((s.size:Int)≤8)),h)) (fun i hi=>?_) ?_).trans ?_
 ·rw [zbH.e,zal (by omega)]
  simp only [zoT hi,zam,zap (show i<9223372036854775807 by omega)]
  unfold zlP zak
  generalize s.data.toList[i]=b
  by_cases h1:(b.toNat:Int)<33
  ·rw [zal h1,if_neg (by simp;omega)]
  ·rw [zaj h1]
   by_cases h2:(b.toNat:Int)>126
   ·rw [zal h2,if_neg (by simp;omega)]
   ·rw [zaj h2,if_pos (by simp;omega)]
 ·rw [zbH.e,zaj (by omega)]
  by_cases h3:(s.size:Int)≤8
  ·rw [zal h3,decide_eq_true h3]
  ·rw [zaj h3,decide_eq_false h3]
 ·unfold zdX
  cases s.data.toList.all zlP<;>simp
theorem zqR {s:ByteArray} (hn:s.size≤1048576):evl lo 318 [.str s] h=some (.bool (zdX s),h):=by
 refine zoE (h':=h) ?_
 have hl:s.data.toList.length=s.size:=by simp
 refine (zcx (p:=zlP) (l:=s.data.toList) (fun i=>zcs (List.length h) s false (s.size:Nat) (i:Nat) h) (some (.bool false,h)) (some (.bool (decide ((s.size:Int)≤8)),h)) (fun i hi=>?_) ?_).trans ?_
 ·have hb:s.data.toList[i].toNat<256:=s.data.toList[i].toNat_lt
  rw [zcs.e,zal (by omega)]
  simp only [zoT hi,zam,zap (show i<9223372036854775807 by omega),zeu,zac,zbi]
  rw [wr (by omega) (by omega)]
  unfold zlP
  cases zak (s.data.toList[i].toNat:Int) 33 126<;>simp
 ·rw [zcs.e,zaj (by omega)]
  by_cases h3:(s.size:Int)≤8
  ·rw [zal h3,decide_eq_true h3]
  ·rw [zaj h3,decide_eq_false h3]
 ·unfold zdX
  cases s.data.toList.all zlP<;>simp
theorem znE {l:List Tag} (hs:RTags ro h [.sl 2 a l.length c] l F) (hn:l.length≤1048576):evl lo 161 [.agg [.sl 2 a l.length c]] h=some (.bool (zbr l),h):=by
 refine zl4 (h':=h) ?_
 refine (zcx (p:=fun t:Tag=>zbj t.time t.place) (l:=l) (fun i=>zbK (List.length h) false (i:Nat) a l.length c h) (some (.bool false,h)) (some (.bool (decide (l.length=4)),h)) (fun i hi=>?_) ?_).trans ?_
 ·obtain ⟨o,rfl,ho⟩:=hs.get hi
  rw [zbK.e,zal (by omega),zab hi]
  simp only [zam,Int.toNat_natCast,ho,zad,zaa,zao,zjT,zac,zbi,zap (show i<9223372036854775807 by omega)]
  cases zbj l[i].time l[i].place<;>simp
 ·rw [zbK.e,zaj (by omega)]
  by_cases h3:l.length=4
  ·rw [h3];rfl
  ·rw [show ((l.length:Int)==4)=false by simp;omega,za5,decide_eq_false h3]
 ·unfold zbr
  cases l.all (fun t:Tag=>zbj t.time t.place)<;>simp
theorem zn9 {l:List Tag}{g:Nat}{cl:List V}{p:Tag→Bool} (hs:RTags ro h [.sl 2 a l.length c] l F) (hn:l.length≤1048576)
  (hp:∀ lo d,d∈l→evl lo g (zdz [.agg [.int .i64 d.time,.int .i64 d.place]] cl) h=some (.bool (p d),h)) :
  evl lo 319 [.sl 2 a l.length c,.fn g cl] h=some (.int .i64 (zcS p l 0),h):=by
 have loop:∀ m k x,m+k=l.length→zas (List.length h) a l.length c g cl x (l.length:Nat) (k:Nat) h=some (.int .i64 (zcS p (l.drop k) k),h):=by
  intro m
  induction m with
  | zero =>
   intro k x hk
   rw [zas.e,zaj (by omega),show k=l.length by omega]
   simp [zcS]
  | succ m ih =>
   intro k x hk
   have hlt:k<l.length:=by omega
   obtain ⟨o,rfl,ho⟩:=hs.get hlt
   rw [zas.e,zal (by omega),zab (by omega)]
   simp only [zam,Int.toNat_natCast,ho,zad,zaa,zao]
   rw [hp (List.length h) l[k] (by simp),zac,zbi,List.drop_eq_getElem_cons hlt]
   simp only [zcS]
   cases p l[k]
   ·simp only [za5,cond_false];rw [zap (by omega)];exact ih (k+1) _ (by omega)
   ·simp
 refine zdC (h':=h) ?_
 simpa using loop l.length 0 0 (by omega)
theorem zqV {l:List Tag} (hs:RTags ro h [.sl 2 a l.length c] l F) (hn:l.length≤1048576):evl lo 125 [.agg [.sl 2 a l.length c]] h=some (.bool (zbr l),h):=by
 refine zoG (h':=h) ?_
 rw [zdk (h':=h) (v := .bool (l.any fun t => !zbj t.time t.place)) (by
  rw [zn9 hs hn (p:=fun t => !zbj t.time t.place) (fun lo d _=>zl8 (h':=h) (by rw [zna];simp only [zac,zbi];cases zbj d.time d.place<;>rfl))]
  simp only [zac,zaa,zre];rw [zig];simp)]
 unfold zbr
 by_cases h3:l.length=4
 ·rw [show ((l.length:Int)==4)=true by simp;omega,zaN,decide_eq_true h3]
  simp only [zac,zbi]
  rw [List.any_eq_not_all_not]
  simp only [Bool.not_not,Bool.true_and]
  cases l.all (fun t:Tag=>zbj t.time t.place)<;>rfl
 ·rw [show ((l.length:Int)==4)=false by simp;omega,za5,decide_eq_false h3];rfl
theorem zqT {l:List Tag} (hs:RTags ro h [.sl 2 a l.length c] l F) (hn:l.length≤1048576):evl lo 237 [.agg [.sl 2 a l.length c]] h=some (.int .i64 (zeT l),h):=by
 have loop:∀ m k x,m+k=l.length→za9 (List.length h) x a l.length c (l.length:Nat) (k:Nat) h=some (.int .i64 ((l.drop k).foldl (fun m t=>if t.time>m then t.time else m) x),h):=by
  intro m
  induction m with
  | zero =>
   intro k x hk
   rw [za9.e,zaj (by omega),show k=l.length by omega]
   simp
  | succ m ih =>
   intro k x hk
   have hlt:k<l.length:=by omega
   obtain ⟨o,rfl,ho⟩:=hs.get hlt
   rw [za9.e,zal (by omega),zab (by omega)]
   simp only [zam,Int.toNat_natCast,ho,zad,zaa,zao,zap (show k<9223372036854775807 by omega)]
   rw [ih (k+1) _ (by omega),List.drop_eq_getElem_cons hlt,List.foldl_cons]
 refine zi8 (h':=h) ?_
 exact loop l.length 0 0 (by omega)
theorem zgm {s:ByteArray}:(s.toList==(ByteArray.mk #[]).toList)=zep s:=by
 unfold zep
 rw [Bool.eq_iff_iff]
 rw [ByteArray.toList_eq,ByteArray.toList_eq]
 simp only [beq_iff_eq,decide_eq_true_eq]
 constructor
 ·intro h
  have:=congrArg List.length h
  simpa using this
 ·intro h
  exact List.eq_nil_of_length_eq_zero (by simpa using h)
theorem zpt {v:Ver} (hs:RTags ro h [.sl 2 a v.past.length c] v.past F) (hn:v.past.length≤1048576∧v.text.size≤1048576):evl lo 235 [.agg (v.cs a c)] h=some (.bool (zgd v),h):=by
 refine zi4 (h':=h) ?_
 simp only [zsz,zqR hn.2,zqV hs hn.1,zgm,zac,zbi]
 unfold zgd
 cases zak v.key 0 3<;>cases zdX v.text<;>cases v.gone<;>cases zep v.text<;>cases zbr v.past<;>rfl
theorem zjr {v:Ver} (hs:RTags ro h [.sl 2 a v.past.length c] v.past F) (hn:v.past.length≤1048576∧v.text.size≤1048576):evl lo 122 [.agg (v.cs a c)] h=some (.bool (zbg v),h):=by
 refine zqc (h':=h) ?_
 simp only [zpt hs hn,zna,zqT hs hn.1,zac,zbi,zaa]
 unfold zbg
 by_cases hl:zeT v.past<v.tag.time
 ·rw [zal hl,decide_eq_true hl]
  cases zgd v<;>cases zbj v.tag.time v.tag.place<;>rfl
 ·rw [zaj hl,decide_eq_false hl]
  cases zgd v<;>cases zbj v.tag.time v.tag.place<;>rfl
theorem znR {x:Int}:∀ {l:List Tag}{m:Int},l.foldl (fun m t=>if t.time>m then t.time else m) m<x↔m<x∧∀ t∈l,t.time<x
 | [],m=>by simp
 | t :: l,m=>by
  rw [List.foldl_cons,znR]
  simp only [List.mem_cons,forall_eq_or_imp]
  constructor
  ·rintro ⟨h1,h2⟩
   refine ⟨?_,?_,h2⟩<;>(split at h1<;>omega)
  ·rintro ⟨h1,h2,h3⟩
   refine ⟨?_,h3⟩
   split<;>omega
theorem latest_lt {p:List Tag}{x:Int}:zeT p<x↔0<x∧∀ t∈p,t.time<x:=znR
theorem zdn {t p:Int} (h:zbj t p=true):0≤t∧t≤999∧0≤p∧p≤2:=by
 simp [zbj,zak] at h;omega
theorem zbq {p:List Tag} (h:zbr p=true):p.length=4:=by
 simp only [zbr,Bool.and_eq_true,decide_eq_true_eq] at h;exact h.1
theorem zk5 {v:Ver} (hs:RTags ro h [.sl 2 a v.past.length c] v.past F) (hn:v.past.length≤1048576∧v.text.size≤1048576):evl lo 137 [.agg (v.cs a c)] h=some (.bool (zbg v),h):=by
 refine zrl (h':=h) ?_
 have loop:∀ x b,zbr v.past=true→zb7 (List.length h) x 0 v.key v.tag.time v.tag.place a v.past.length c v.text b h=some (.bool (v.past.all fun t=>decide (t.time<v.tag.time)),h):=by
  intro x b hp
  have h4:=zbq hp
  refine (zcx (p:=fun t:Tag=>decide (t.time<v.tag.time)) (l:=v.past) (fun i=>zb7 (List.length h) x (i:Nat) v.key v.tag.time v.tag.place a v.past.length c v.text b h) (some (.bool false,h)) (some (.bool true,h)) (fun i hi=>?_) ?_).trans ?_
  ·obtain ⟨o,row,G,rfl,ho,⟨rfl,_⟩,_⟩:=hs.read hi
   rw [zb7.e,zal (by omega),zab hi]
   simp only [zam,Int.toNat_natCast,ho,Tag.cs,cut,zad,zaa,zao,zap (show i<9223372036854775807 by omega)]
   by_cases ht:v.past[i].time<v.tag.time
   ·rw [zaj (by omega),if_pos (by simpa using ht)]
   ·rw [zal (by omega),if_neg (by simpa using ht)]
  ·rw [zb7.e,zaj (by omega)]
  ·cases v.past.all fun t:Tag=>decide (t.time<v.tag.time)<;>rfl
 have key:∀ x:Bool,(zbj v.tag.time v.tag.place&&x&&decide (zeT v.past<v.tag.time))=(zbj v.tag.time v.tag.place && !(v.tag.time==0)&&x&&(v.past.all fun t=>decide (t.time<v.tag.time))):=by
  intro x
  cases ht:zbj v.tag.time v.tag.place with
  | false=>simp
  | true =>
   have:=zdn ht
   have e:decide (zeT v.past<v.tag.time)=(!(v.tag.time==0)&&(v.past.all fun t=>decide (t.time<v.tag.time))):=by
    rw [Bool.eq_iff_iff]
    simp only [decide_eq_true_eq,latest_lt,Bool.and_eq_true,List.all_eq_true,Bool.not_eq_true',beq_eq_false_iff_ne]
    constructor
    ·rintro ⟨h1,h2⟩;exact ⟨by omega,h2⟩
    ·rintro ⟨h1,h2⟩;exact ⟨by omega,h2⟩
   rw [e]
   cases x<;>cases (v.tag.time==0)<;>simp
 have e2:zbg v=(zak v.key 0 3&&zdX v.text&&(!v.gone || zep v.text)&&(zbj v.tag.time v.tag.place&&zbr v.past&&decide (zeT v.past<v.tag.time))):=by
  unfold zbg zgd
  cases zak v.key 0 3<;>cases zdX v.text<;>cases v.gone<;>cases zep v.text<;>cases zbr v.past<;>cases zbj v.tag.time v.tag.place<;>simp
 rw [e2,key]
 simp only [zbb,ziz hn.2,zjT,znE hs hn.1,zgm,zac,zbi]
 cases hp:zbr v.past with
 | true =>
  simp only [loop _ _ hp]
  cases zak v.key 0 3<;>cases zdX v.text<;>cases v.gone<;>cases zep v.text<;>cases zbj v.tag.time v.tag.place<;>cases (v.tag.time==0)<;>rfl
 | false =>
  cases zak v.key 0 3<;>cases zdX v.text<;>cases v.gone<;>cases zep v.text<;>cases zbj v.tag.time v.tag.place<;>cases (v.tag.time==0)<;>rfl
theorem zmG {p q:List Tag}{T:Type} (L:Nat→Option T) (no yes:Option T) (hl:p.length≤q.length)
  (step:∀ i (hi:i<p.length),L i=if zkF q[i].time q[i].place p[i].time p[i].place=true then no else L (i+1)) (done:L p.length=yes):L 0=if zcU p q=true then yes else no:=by
 have hz:(p.zip q).length=p.length:=by simp;omega
 refine zcx (l:=p.zip q) L no yes (fun i hi=>?_) (by rw [hz];exact done)
 rw [step i (by omega)]
 simp only [List.getElem_zip]
 cases zkF q[i].time q[i].place p[i].time p[i].place<;>simp
theorem zsx {p q:List Tag} (hs:RTags ro h [.sl 2 a p.length c] p F) (hs':RTags ro' h [.sl 2 a' q.length c'] q F') (hn:p.length≤1048576) (hl:p.length≤q.length) :
  evl lo 126 [.agg [.sl 2 a p.length c],.agg [.sl 2 a' q.length c']] h=some (.bool (zcU p q),h):=by
 refine zjK (h':=h) ?_
 refine (zmG (p:=p) (q:=q) (fun i=>zbn (List.length h) false a p.length c (p.length:Nat) (i:Nat) a' q.length c' h) (some (.bool false,h)) (some (.bool true,h)) hl (fun i hi=>?_) ?_).trans ?_
 ·obtain ⟨o,rfl,ho⟩:=hs.get hi
  obtain ⟨o',rfl,ho'⟩:=hs'.get (show i<q.length by omega)
  rw [zbn.e,zal (by omega),zab hi]
  simp only [zam,Int.toNat_natCast,ho,ho',zad,zaa,zao,zab (show i<q.length by omega),zj3,zac,zbi,zap (show i<9223372036854775807 by omega)]
  cases zkF q[i].time q[i].place p[i].time p[i].place<;>simp
 ·rw [zbn.e,zaj (by omega)]
 ·cases zcU p q<;>rfl
theorem zdY {p q:List Tag} (hs:RTags ro h [.sl 2 a p.length c] p F) (hs':RTags ro' h [.sl 2 a' q.length c'] q F') (hp:p.length=4) (hq:q.length=4) :
  evl lo 212 [.agg [.sl 2 a p.length c],.agg [.sl 2 a' q.length c']] h=some (.bool (zcU p q),h):=by
 refine zl3 (h':=h) ?_
 refine (zmG (p:=p) (q:=q) (fun i=>zbJ (List.length h) false (i:Nat) a p.length c a' q.length c' h) (some (.bool false,h)) (some (.bool true,h)) (by omega) (fun i hi=>?_) ?_).trans ?_
 ·obtain ⟨o,rfl,ho⟩:=hs.get hi
  obtain ⟨o',rfl,ho'⟩:=hs'.get (show i<q.length by omega)
  rw [zbJ.e,zal (by omega),zab (show i<q.length by omega)]
  simp only [zam,Int.toNat_natCast,ho,ho',zad,zaa,zao,zab hi,zbk,zac,zbi,zap (show i<9223372036854775807 by omega)]
  cases zkF q[i].time q[i].place p[i].time p[i].place<;>simp
 ·rw [zbJ.e,zaj (by omega)]
 ·cases zcU p q<;>rfl
end
end Go.Proofs.YthdfojchihooeaaGreat
namespace Go.Proofs.YthdfojchihooeaaGreat
open Go T


section
variable {lo:Nat}{ro ro':Bool}{h:Heap}{F F':List Nat}{a a':Option (Nat×Nat)}{c c':Option Nat}
theorem Sli.rows {α:Type}{El:Rel α}{R e:Nat}{l:List α} (hs:Sli false R e El h [.sl R a l.length c] l F) :
  ∃ rows Fs,(∀ {T:Type} (K:List (List V)→Option T),zaq R h (.sl R a l.length c) K=K rows)∧EAll El h rows l Fs∧∀ b∈Fs.flatten,b∈F:=by
 obtain ⟨R1,a1,c1,e1,g⟩:=hs
 injection e1 with e1 _;injection e1 with e0 e2 _ e3
 subst e2;subst e3
 cases a with
 | none =>
  obtain ⟨rfl,_,_⟩:=g
  exact ⟨[],[],fun K=>rfl,trivial,by simp⟩
 | some p =>
  obtain ⟨b,i⟩:=p
  obtain ⟨_,rs,Fs,g1,g2,g3,g4,g5,rfl⟩:=g
  refine ⟨_,Fs,fun K=>?_,g5,fun b hb=>List.mem_cons_of_mem _ hb⟩
  simp only [zaq,ziX,zgt]
  cases hl:l.length with
  | zero=>simp
  | succ n =>
   rw [hl] at g2
   simp only [zeS,Heap.rows?,g1,Option.bind_some,zfS g2,zam]
theorem RTags.rows {l:List Tag} (hs:RTags false h [.sl 2 a l.length c] l F) {T:Type} (K:List (List V)→Option T):zaq 2 h (.sl 2 a l.length c) K=K (l.map Tag.cs):=by
 obtain ⟨rows,Fs,h1,h2,_⟩:=Sli.rows hs
 rw [h1,h2.of_flat.1]
theorem Sli.fresh {α:Type}{El:Rel α}{R e n:Nat}{rs:List (List V)} (hn:n≤rs.length):Sli false R e El (h ++ [.rows R e false rs]) [.sl R (some (h.length,0)) 0 (some n)] [] [h.length] :=
 ⟨R,some (h.length,0),some n,rfl,rfl,rs,[],by simp,by simp,fun k hk=>by injection hk with hk;subst hk;simpa using hn,fun h=>(by cases h),by simp [EAll],by simp⟩
theorem znS {l:List Tag}:(l.map fun _=>([]:List Nat)).flatten = []:=by induction l<;>simp_all
theorem zhn {l:List Tag} (hl:lo≤h.length) (hn:l.length≤1048576):∃ a' c' h' F',(∀ {T:Type} (K:V→Heap→Option T),app lo 60 2 16 (.sl 2 (some (h.length,0)) 0 (some 0)) (l.map Tag.cs) (h ++ [.rows 2 60 false []]) K=K (.sl 2 a' l.length c') h') ∧
  RTags false h' [.sl 2 a' l.length c'] l F'∧Mv h [] h' F':=by
 have h0:RTags false (h ++ [.rows 2 (zx8 false) false []]) [.sl 2 (some (h.length,0)) 0 (some 0)] [] [h.length]:=Sli.fresh (Nat.le_refl _)
 by_cases he:l = []
 ·subst he
  exact ⟨some (h.length,0),some 0,_,_,fun K=>rfl,h0,Mv.last⟩
 ·obtain ⟨a',c',h',F',p1,p2,p3,p4,p5,p6⟩:=Sli.push (lo:=lo) (bytes:=16) zuh h0 (xs:=l.map Tag.cs) (ys:=l) (Gs:=l.map fun _ => []) EAll.flat (by decide) (by simp;omega) (by simp;omega) (by simp;omega) (by rw [znS];simp) (by rw [znS];simp) he
  simp only [List.length_nil,Nat.zero_add,List.nil_append] at p1 p2
  refine ⟨a',c',h',F',p1,p2,by simp at p3;omega,fun b hb _=>?_,p6,fun b hb=>?_⟩
  ·rw [p4 b (by simp;omega) (by simp;omega),List.getElem?_append_left hb]
  ·simp at p3
   rcases p5 b hb with h1 | h1
   ·rw [znS] at h1;simp at h1;exact .inr (by omega)
   ·simp at h1;exact .inr (by omega)
theorem zcb {v:Ver} (hs:RTags false h [.sl 2 a v.past.length c] v.past F) (hl:lo≤h.length) (hn:v.past.length≤1048576) :
  ∃ a' c' h' F',evl lo 181 [.agg (v.cs a c)] h=some (.agg (v.cs a' c'),h')∧RTags false h' [.sl 2 a' v.past.length c'] v.past F'∧Mv h [] h' F':=by
 obtain ⟨a',c',h',F',e,r⟩:=zhn (l:=v.past) hl hn
 refine ⟨a',c',h',F',zou ?_,r⟩
 rw [RTags.rows (Mv.snoc.keep0 rtags_ok hs),e,zah]
theorem zsB {l:List Tag} (hs:RTags false h [.sl 2 a l.length c] l F) (hl:lo≤h.length) (hn:l.length≤1048576) :
  ∃ v h' F',evl lo 295 [.sl 2 a l.length c] h=some (v,h')∧RTags false h' [v] l F'∧Mv h [] h' F':=by
 cases a with
 | none =>
  obtain ⟨R1,a1,c1,e1,g⟩:=hs
  injection e1 with e1 _;injection e1 with e0 e2 _ e3
  subst e2;subst e3
  obtain ⟨rfl,_,_⟩:=g
  exact ⟨_,h,[],zcL (by rw [show (none:Option (Nat×Nat)).isNone=true from rfl,zaN]),Sli.nil,Mv.nil⟩
 | some p =>
  obtain ⟨a',c',h',F',e,r⟩:=zhn (l:=l) hl hn
  refine ⟨_,h',F',zcL ?_,r⟩
  rw [show (some p).isNone=false from rfl,za5,RTags.rows (Mv.snoc.keep0 rtags_ok hs),e,zah]
theorem zkg {l:List Tag} (hs:RTags false h [.sl 2 a l.length c] l F) (hl:lo≤h.length) (hn:l.length≤1048576) :
  ∃ a' c' h' F',evl lo 202 [.agg [.sl 2 a l.length c]] h=some (.agg [.sl 2 a' l.length c'],h')∧RTags false h' [.sl 2 a' l.length c'] l F'∧Mv h [] h' F':=by
 obtain ⟨v,h',F',e,r,m⟩:=zsB hs hl hn
 obtain ⟨a',c',es,r2⟩:=r.form
 refine ⟨a',_,h',F',zi9 ?_,r2.clip,m⟩
 rw [e];simp only [zac,es]
 rw [zeK (r:=(.sl 2 a' l.length (some l.length),h')) (by rw [zjW r2])]
 simp only [zac,zah]
theorem zlu {v:Ver} (hs:RTags false h [.sl 2 a v.past.length c] v.past F) (hl:lo≤h.length) (hn:v.past.length≤1048576) :
  ∃ a' c' h' F',evl lo 186 [.agg (v.cs a c)] h=some (.agg (v.cs a' c'),h')∧RTags false h' [.sl 2 a' v.past.length c'] v.past F'∧Mv h [] h' F':=by
 obtain ⟨a',c',h',F',e,r⟩:=zkg hs hl hn
 refine ⟨a',c',h',F',zjH ?_,r⟩
 rw [e];simp only [zac,zbx,zad,zah,zao]
theorem zlL {l:List Ver}{e0:Option (Nat×Nat)}{h0:Heap}{n0:Option Nat}{F0:List Nat}{T:Type} (L:Nat→Option (Nat×Nat)→Nat→Option Nat→Heap→Option T) (hs:RVers false h [.sl 6 a l.length c] l F) (hl:lo≤h.length) (hn:zcQ l)
  (m0:Mv h [] h0 F0) (h1:RVers false h0 [.sl 6 e0 0 n0] [] F0)
  (step:∀ i (hi:i<l.length) s a2 c2 a1 n1 c1 hh,(i=0→a1=e0∧c1=n0)→(∀ o,a=some o→ld hh o.1 (o.2+i) 0 6=some [.int .i64 l[i].key,.int .i64 l[i].tag.time,.int .i64 l[i].tag.place,s,.str l[i].text,.bool l[i].gone])→(∃ o,a=some o) →
   (∀ {R':Type} (K:Option (Nat×Nat)→Nat→Option Nat→Option R'),eS 2 s K=K a2 l[i].past.length c2)→(∃ G,RTags false hh [.sl 2 a2 l[i].past.length c2] l[i].past G)→lo≤hh.length →
   ∃ a3 c3 h3 F3,RTags false h3 [.sl 2 a3 l[i].past.length c3] l[i].past F3∧Mv hh [] h3 F3 ∧
    L i a1 n1 c1 hh=app lo 65 6 72 (.sl 6 a1 n1 c1) [l[i].cs a3 c3] (h3 ++ [.rows 6 65 false [l[i].cs a3 c3]]) fun v h=>eS 6 v fun a n c=>L (i+1) a n c h) :
  ∃ a' c' h' F',L 0 e0 0 n0 h0=L l.length a' l.length c' h'∧RVers false h' [.sl 6 a' l.length c'] l F'∧Mv h [] h' F':=by
 have hn1:=hn.1
 obtain ⟨a',c',h',F',e,r,m⟩:=zhT (El:=RVer false) rver_ok (h0:=h0) (l:=l) (g:=fun _ v=>some (id v)) (lo:=lo) (R:=6) (e:=zv7 false) (bytes:=72) (b0 := []) (F0:=F0) (a0:=e0) (c0:=n0)
  (Nat.le_trans hl m0.le) (m0.ge hl (by simp)) m0.nd (by decide) (by simp;omega) L (fun i hi a1 c1 hh F1 acc hz hacc hm hr=>by
   have hm':Mv h [] hh []:=(m0.trans hm).drop
   obtain ⟨o,s,a2,c2,G,ho,hld,es,hp,_⟩:=(hm'.keep0 rvers_ok hs).get hi
   obtain ⟨a3,c3,h3,F3,r3,m3,e3⟩:=step i hi s a2 c2 a1 acc.length c1 hh hz (fun o' ho'=>by rw [ho] at ho';injection ho' with ho';subst ho';exact hld) ⟨o,ho⟩ es ⟨G,hp⟩ (Nat.le_trans hl hm'.le)
   exact .inr ⟨l[i],l[i].cs a3 c3,F3,_,rfl,⟨_,rfl,Mv.snoc.keep0 rtags_ok r3⟩,m3.trans (Mv.snoc' m3.nd),e3⟩) h1
 rw [ziL,List.map_id,List.nil_append] at e r
 exact ⟨a',c',h',F',e,r,m0.trans m⟩
theorem zd3 {l:List Ver} (hs:RVers false h [.sl 6 a l.length c] l F) (hl:lo≤h.length) (hn:zcQ l) :
  ∃ a' c' h' F',evl lo 293 [.sl 6 a l.length c] h=some (.sl 6 a' l.length c',h')∧RVers false h' [.sl 6 a' l.length c'] l F'∧Mv h [] h' F':=by
 have hn1:=hn.1
 obtain ⟨a',c',h',F',e,r,m⟩:=zlL (e0:=some (h.length,0)) (n0:=some l.length) (h0:=h ++ [.rows 6 (zv7 false) false (List.replicate l.length [.int .i64 0,.int .i64 0,.int .i64 0,.sl 0 none 0 (some 0),.str ⟨⟨[]⟩⟩,.bool false])])
  (fun i a1 n1 c1 hh=>zbl lo a1 n1 c1 a l.length c (l.length:Nat) (i:Nat) hh) hs hl hn Mv.last (Sli.fresh (by simp)) (fun i hi s a2 c2 a1 n1 c1 hh hz hld ho es hp hlo=>by
   obtain ⟨o,rfl⟩:=ho
   obtain ⟨G,hp⟩:=hp
   obtain ⟨a3,c3,h3,F3,e3,r3,m3⟩:=zlu (lo:=lo) (v:=l[i]) hp hlo (hn.2 _ (List.getElem_mem hi)).1
   refine ⟨a3,c3,h3,F3,r3,m3,?_⟩
   rw [zbl.e,zal (by omega),zab hi]
   simp only [zam,Int.toNat_natCast,hld o rfl,zad,zaa,es,zdl,zaS,zao]
   rw [e3]
   simp only [zac,zbx,zad,zaa,zah,zdl,zaS,zao,zaT,zap (show i<9223372036854775807 by omega)])
 refine ⟨a',c',h',F',zjF ?_,r,m⟩
 rw [zfJ (by omega)]
 refine e.trans ?_
 rw [zbl.e,zaj (by omega)]
theorem zkY {l:List Ver} (hs:RVers false h [.sl 6 a l.length c] l F) (hl:lo≤h.length) (hn:zcQ l) :
  ∃ a' c' h' F',evl lo 251 [.sl 6 a l.length c] h=some (.sl 6 a' l.length c',h')∧RVers false h' [.sl 6 a' l.length c'] l F'∧Mv h [] h' F':=by
 have hn1:=hn.1
 obtain ⟨a',c',h',F',e,r,m⟩:=zlL (e0:=some (h.length,0)) (n0:=some 0) (h0:=h ++ [.rows 6 (zv7 false) false []])
  (fun i a1 n1 c1 hh=>zch lo a l.length c a1 n1 c1 (i:Nat) hh) hs hl hn Mv.last (Sli.fresh (by simp)) (fun i hi s a2 c2 a1 n1 c1 hh hz hld ho es hp hlo=>by
   obtain ⟨o,rfl⟩:=ho
   obtain ⟨G,hp⟩:=hp
   obtain ⟨a3,c3,h3,F3,e3,r3,m3⟩:=zcb (lo:=lo) (v:=l[i]) hp hlo (hn.2 _ (List.getElem_mem hi)).1
   refine ⟨a3,c3,h3,F3,r3,m3,?_⟩
   rw [zch.e,zal (by omega),zab hi]
   simp only [zam,Int.toNat_natCast,hld o rfl,zad,zaa,es,zdl,zaS,zao]
   rw [e3]
   simp only [zac,zbx,zad,zaa,zah,zdl,zaS,zao,zaT,zap (show i<9223372036854775807 by omega)])
 refine ⟨a',c',h',F',zoe ?_,r,m⟩
 refine e.trans ?_
 rw [zch.e,zaj (by omega)]
theorem zev {l:List Ver} (hs:RVers false h [.sl 6 a l.length c] l F) (hl:lo≤h.length) (hn:zcQ l) :
  ∃ a' c' h' F',evl lo 238 [.agg [.sl 6 a l.length c]] h=some (.agg [.sl 6 a' l.length c'],h')∧RVers false h' [.sl 6 a' l.length c'] l F'∧Mv h [] h' F':=by
 obtain ⟨a',c',h',F',e,r⟩:=zd3 hs hl hn
 refine ⟨a',c',h',F',zis ?_,r⟩
 rw [e];simp only [zac,zah]
theorem ze3 {l:List Ver} (hs:RVers false h [.sl 6 a l.length c] l F) (hl:lo≤h.length) (hn:zcQ l) :
  ∃ v h' F',evl lo 231 [.agg [.sl 6 a l.length c]] h=some (.agg [v],h')∧RVers false h' [v] l F'∧Mv h [] h' F':=by
 have hn1:=hn.1
 by_cases he:l = []
 ·subst he
  exact ⟨_,h,[],zgb (by rw [zaX.e,zaj (by simp)]),Sli.nil,Mv.nil⟩
 have hpos:0<l.length:=List.length_pos_iff.2 he
 obtain ⟨a',c',h',F',e,r,m⟩:=zlL (e0:=none) (n0:=some 0) (h0:=h)
  (fun i a1 n1 c1 hh=>zaX lo (i:Nat) a l.length c 0 none 0 (some 0) (if i=0 then 0 else 6) a1 n1 c1 hh) hs hl hn Mv.nil Sli.nil (fun i hi s a2 c2 a1 n1 c1 hh hz hld ho es hp hlo=>by
   obtain ⟨o,rfl⟩:=ho
   obtain ⟨G,hp⟩:=hp
   obtain ⟨a3,c3,h3,F3,e3,r3,m3⟩:=zcb (lo:=lo) (v:=l[i]) hp hlo (hn.2 _ (List.getElem_mem hi)).1
   refine ⟨a3,c3,h3,F3,r3,m3,?_⟩
   rw [zaX.e,zal (by omega),zab hi]
   simp only [zam,Int.toNat_natCast,hld o rfl,zad,zaa,es,zdl,zaS,zao]
   rw [e3]
   simp only [zac,zbx,zad,zaa,zah,zdl,zaS,zao,zaT,zap (show i<9223372036854775807 by omega),if_neg (Nat.succ_ne_zero i)]
   by_cases h0:i=0
   ·obtain ⟨rfl,rfl⟩:=hz h0
    rw [zxF]
   ·rw [if_neg h0])
 refine ⟨_,h',F',zgb ?_,r,m⟩
 refine e.trans ?_
 rw [if_neg (by omega),zaX.e,zaj (by omega)]
theorem zjt {l:List Node} (hs:RNodes false h [.sl 2 a l.length c] l F) (hl:lo≤h.length) (hn:zcW l) :
  ∃ a' c' h' F',evl lo 225 [.agg [.sl 2 a l.length c]] h=some (.agg [.sl 2 a' l.length c'],h')∧RNodes false h' [.sl 2 a' l.length c'] l F'∧Mv h [] h' F':=by
 have hn1:=hn.1
 have m0:Mv h [] (h ++ [.rows 2 (zpJ false) false (List.replicate l.length [.sl 0 none 0 (some 0),.sl 0 none 0 (some 0)])]) [h.length]:=Mv.last
 obtain ⟨a',c',h',F',e,r,m⟩:=zhT (El:=RNode false) rnode_ok (h0:=h ++ [.rows 2 (zpJ false) false (List.replicate l.length [.sl 0 none 0 (some 0),.sl 0 none 0 (some 0)])]) (l:=l) (g:=fun _ v=>some (id v)) (lo:=lo) (R:=2) (e:=76) (bytes:=48) (b0 := []) (F0 := [h.length]) (a0:=some (h.length,0)) (c0:=some l.length)
  (Nat.le_trans hl m0.le) (m0.ge hl (by simp)) m0.nd (by decide) (by simp;omega) (fun i a1 n1 c1 hh=>za4 lo a l.length c (l.length:Nat) (i:Nat) 0 none 0 (some 0) a1 n1 c1 hh) (fun i hi a1 c1 hh F1 acc hz hacc hm hr=>by
   have hm':Mv h [] hh []:=(m0.trans hm).drop
   obtain ⟨o,s1,s2,b1,d1,b2,d2,G1,G2,rfl,ho,_,_,e1,e2,p1,p2,_⟩:=(hm'.keep0 rnodes_ok hs).get hi
   have hsm:=hn.2 _ (List.getElem_mem hi)
   obtain ⟨a3,c3,h3,F3,e3,r3,m3⟩:=zev (lo:=lo) p1 (Nat.le_trans hl (Nat.le_trans m0.le (Nat.le_trans hm.le (Nat.le_refl _)))) hsm.1
   obtain ⟨a4,c4,h4,F4,e4,r4,m4⟩:=zd3 (lo:=lo) (m3.keep0 rvers_ok p2) (Nat.le_trans hl (Nat.le_trans m0.le (Nat.le_trans hm.le m3.le))) hsm.2
   have m34:=m3.join m4 (rvers_ok.bd _ _ _ _ r3)
   refine .inr ⟨l[i],[.sl 6 a3 l[i].store.length c3,.sl 6 a4 l[i].wait.length c4],F3++F4,h4 ++ [.rows 2 76 false [[.sl 6 a3 l[i].store.length c3,.sl 6 a4 l[i].wait.length c4]]],rfl,
    ⟨_,_,F3,F4,rfl,rfl,Mv.snoc.keep0 rvers_ok (m4.keep0 rvers_ok r3),Mv.snoc.keep0 rvers_ok r4⟩,m34.trans (Mv.snoc' m34.nd),?_⟩
   rw [za4.e,zal (by omega),zab hi]
   simp only [zam,Int.toNat_natCast,ho,zad,e1,e2,zao]
   rw [e3]
   simp only [zac,zbx,zad,zah,zao]
   rw [e4]
   simp only [zac,zah,zaT,zap (show i<9223372036854775807 by omega)]) (Sli.fresh (by simp))
 rw [ziL,List.map_id,List.nil_append] at e r
 refine ⟨a',c',h',F',ziu ?_,r,m0.trans m⟩
 rw [zfJ (by omega)]
 refine e.trans ?_
 rw [za4.e,zaj (by omega)]
theorem zjs {p:Place}{a1 a2 a3:Option (Nat×Nat)}{c1 c2 c3:Option Nat}{F1 F2 F3:List Nat} (hs1:RNodes false h [.sl 2 a1 p.chain.length c1] p.chain F1) (hs2:RVers false h [.sl 6 a2 p.log.length c2] p.log F2)
  (hs3:RVss false h [.sl 1 a3 p.got.length c3] p.got F3) (hl:lo≤h.length) (hn:zcc p) :
  ∃ a1' c1' a2' c2' a3' c3' h' F',evl lo 201 [.agg (p.cs a1 c1 a2 c2 a3 c3)] h=some (.agg (p.cs a1' c1' a2' c2' a3' c3'),h')∧RPlace false h' (p.cs a1' c1' a2' c2' a3' c3') p F'∧Mv h [] h' F':=by
 have hn1:=hn.2.2.1
 obtain ⟨b1,d1,h1,G1,e1,r1,m1⟩:=zjt (lo:=h.length) hs1 (Nat.le_refl _) hn.1
 obtain ⟨b2,d2,h2,G2,e2,r2,m2⟩:=zd3 (lo:=h1.length) (m1.keep0 rvers_ok hs2) (Nat.le_refl _) hn.2.1
 have m12:=m1.join m2 (rnodes_ok.bd _ _ _ _ r1)
 have r1':=m2.keep0 rnodes_ok r1
 have hs3':=m2.keep0 rvss_ok (m1.keep0 rvss_ok hs3)
 have m0:Mv h2 [] (h2 ++ [.rows 1 (zwP false) false (List.replicate p.got.length [.sl 0 none 0 (some 0)])]) [h2.length]:=Mv.last
 obtain ⟨b3,d3,h',F',e,r,m⟩:=zhT (El:=RVers false) rvers_ok (h0:=h2 ++ [.rows 1 (zwP false) false (List.replicate p.got.length [.sl 0 none 0 (some 0)])]) (l:=p.got) (g:=fun _ v=>some (id v)) (lo:=lo) (R:=1) (e:=72) (bytes:=24) (b0 := []) (F0 := [h2.length]) (a0:=some (h2.length,0)) (c0:=some p.got.length)
  (Nat.le_trans hl (Nat.le_trans m12.le m0.le)) (m0.ge (Nat.le_trans hl m12.le) (by simp)) m0.nd (by decide) (by simp;omega) (fun i a n c hh=>za3 lo a3 p.got.length c3 (p.got.length:Nat) (i:Nat) 0 0 0 none 0 (some 0) 0 none 0 (some 0) 0 none 0 (some 0) false p.me p.clock b1 p.chain.length d1 b2 p.log.length d2 a n c p.fell hh) (fun i hi q1 q2 hh F1 acc hz hacc hm hr=>by
   have hm':Mv h2 [] hh []:=(m0.trans hm).drop
   obtain ⟨o,s,b,d,G,rfl,ho,es,hp,_⟩:=(hm'.keep0 rvss_ok hs3').get hi
   obtain ⟨a5,c5,h5,F5,e5,r5,m5⟩:=zd3 (lo:=lo) hp (Nat.le_trans hl (Nat.le_trans m12.le (Nat.le_trans m0.le hm.le))) (hn.2.2.2 _ (List.getElem_mem hi))
   refine .inr ⟨p.got[i],[.sl 6 a5 p.got[i].length c5],F5,h5 ++ [.rows 1 72 false [[.sl 6 a5 p.got[i].length c5]]],rfl,Mv.snoc.keep0 rvers_ok r5,m5.trans (Mv.snoc' m5.nd),?_⟩
   rw [za3.e,zal (by omega),zab hi]
   simp only [zam,Int.toNat_natCast,ho,zad,es,zao]
   rw [e5]
   simp only [zac,zah,zaT,zap (show i<9223372036854775807 by omega)]) (Sli.fresh (by simp))
 rw [ziL,List.map_id,List.nil_append] at e r
 have m3:=m12.join (m0.trans m) (fun b hb=>by
   rw [List.mem_append] at hb
   exact hb.elim (rnodes_ok.bd _ _ _ _ r1' b) (rvers_ok.bd _ _ _ _ r2 b))
 rw [List.append_assoc] at m3
 refine ⟨b1,d1,b2,d2,b3,d3,h',G1++(G2++F'),zit ?_,⟨_,_,_,G1,G2,F',rfl,rfl,(m0.trans m).keep0 rnodes_ok r1',(m0.trans m).keep0 rvers_ok r2,r⟩,m3⟩
 rw [e1];simp only [zac,zbx,zad,zah,zao]
 rw [e2];simp only [zac,zah]
 rw [zfJ (by omega)]
 refine e.trans ?_
 rw [za3.e,zaj (by omega)]
theorem zk3 {l:List Node} (hs:RNodes false h [.sl 2 a l.length c] l F) (hl:lo≤h.length) (hn:zcW l) :
  ∃ v h' F',evl lo 116 [.agg [.sl 2 a l.length c]] h=some (.agg [v],h')∧RNodes false h' [v] l F'∧Mv h [] h' F':=by
 have hn1:=hn.1
 obtain ⟨q,a',c',h',F',e,r,m⟩:=zcR (El:=RNode false) rnode_ok (h:=h) (l:=l) (f:=id) (lo:=lo) (R:=2) (e:=76) (bytes:=48) hl (by decide) (by omega)
  (fun i q a1 n1 c1 hh=>zcm lo (i:Nat) a l.length c 0 none 0 (some 0) q a1 n1 c1 hh) (fun i hi q a1 n1 c1 hh hm=>by
   obtain ⟨o,s1,s2,b1,d1,b2,d2,G1,G2,ha,_,ho1,ho2,e1,e2,p1,p2,_⟩:=(hm.keep0 rnodes_ok hs).get hi
   have hsm:=hn.2 _ (List.getElem_mem hi)
   have hw1:=hsm.2.1
   obtain ⟨v3,h3,F3,e3,r3,m3⟩:=ze3 (lo:=lo) p1 (Nat.le_trans hl hm.le) hsm.1
   obtain ⟨a3,c3,es3,r3'⟩:=r3.form
   have p2':=m3.keep0 rvers_ok p2
   obtain ⟨q4,a4,c4,h4,F4,e4,r4,m4⟩:=zcR (El:=RVer false) rver_ok (h:=h3) (l:=l[i].wait) (f:=id) (lo:=lo) (R:=6) (e:=65) (bytes:=72) (Nat.le_trans hl (Nat.le_trans hm.le m3.le)) (by decide) (by omega)
    (fun j q5 a5 n5 c5 hh=>zcl lo (i:Nat) (j:Nat) a l.length c 0 none 0 (some 0) q a1 n1 c1 a3 l[i].store.length c3 q5 a5 n5 c5 hh) (fun j hj q5 a5 n5 c5 hh2 hm2=>by
     obtain ⟨o',s1',s2',b1',d1',b2',d2',G1',G2',ha',_,_,ho2',_,e2',_,p2',_⟩:=(hm2.keep0 rnodes_ok (m3.keep0 rnodes_ok (hm.keep0 rnodes_ok hs))).get hi
     obtain ⟨o'',s,b,d,G,hb,hld,es,hp,_⟩:=p2'.get hj
     obtain ⟨a6,c6,h6,F6,e6,r6,m6⟩:=zcb (lo:=lo) (v:=l[i].wait[j]) hp (Nat.le_trans hl (Nat.le_trans hm.le (Nat.le_trans m3.le hm2.le))) (hsm.2.2 _ (List.getElem_mem hj)).1
     refine ⟨l[i].wait[j].cs a6 c6,F6,h6 ++ [.rows 6 65 false [l[i].wait[j].cs a6 c6]],⟨_,rfl,Mv.snoc.keep0 rtags_ok r6⟩,m6.trans (Mv.snoc' m6.nd),?_⟩
     rw [zcl.e,zab hi,ha',zam]
     simp only [Int.toNat_natCast,ho2',zam,zad,zao,e2']
     rw [zal (by omega),zab hi]
     simp only [hb,zab hj,zam,Int.toNat_natCast,hld,zad,zaa,es,zdl,zaS,zao]
     rw [e6]
     simp only [zac,zbx,zad,zaa,zah,zdl,zaS,zao,zaT,zap (show j<9223372036854775807 by omega)])
   rw [List.map_id] at r4
   have m34:=m3.join m4 (rvers_ok.bd _ _ _ _ r3')
   obtain ⟨o',s1',s2',b1',d1',b2',d2',G1',G2',ha',_,_,ho2',_,e2',_,_,_⟩:=(m4.keep0 rnodes_ok (m3.keep0 rnodes_ok (hm.keep0 rnodes_ok hs))).get hi
   refine ⟨[.sl 6 a3 l[i].store.length c3,.sl q4 a4 l[i].wait.length c4],F3++F4,h4 ++ [.rows 2 76 false [[.sl 6 a3 l[i].store.length c3,.sl q4 a4 l[i].wait.length c4]]],
    ⟨_,_,F3,F4,rfl,rfl,Mv.snoc.keep0 rvers_ok (m4.keep0 rvers_ok r3'),Mv.snoc.keep0 rvers_ok r4⟩,m34.trans (Mv.snoc' m34.nd),?_⟩
   rw [zcm.e,zal (by omega),zab hi,ha,zam]
   simp only [Int.toNat_natCast,ho1,zam,zad,zao,e1]
   rw [e3]
   simp only [zac,zbx,zad,zao,es3]
   rw [← ha]
   refine e4.trans ?_
   rw [zcl.e,zab hi,ha',zam]
   simp only [Int.toNat_natCast,ho2',zam,zad,zao,e2']
   rw [zaj (by omega)]
   simp only [zaT,zap (show i<9223372036854775807 by omega)])
 rw [List.map_id] at r
 refine ⟨_,h',F',zoq ?_,r,m⟩
 refine e.trans ?_
 rw [zcm.e,zaj (by omega)]
theorem zqt {p:Place}{a1 a2 a3:Option (Nat×Nat)}{c1 c2 c3:Option Nat}{F1 F2 F3:List Nat} (hs1:RNodes false h [.sl 2 a1 p.chain.length c1] p.chain F1) (hs2:RVers false h [.sl 6 a2 p.log.length c2] p.log F2)
  (hs3:RVss false h [.sl 1 a3 p.got.length c3] p.got F3) (hl:lo≤h.length) (hn:zcc p) :
  ∃ vs h' F',evl lo 138 [.agg (p.cs a1 c1 a2 c2 a3 c3)] h=some (.agg vs,h')∧RPlace false h' vs p F'∧Mv h [] h' F':=by
 have hn1:=hn.2.2.1
 obtain ⟨v1,h1,G1,e1,r1,m1⟩:=zk3 (lo:=h.length) hs1 (Nat.le_refl _) hn.1
 obtain ⟨b1,d1,es1,r1⟩:=r1.form
 obtain ⟨b2,d2,h2,G2,e2,r2,m2⟩:=zkY (lo:=h1.length) (m1.keep0 rvers_ok hs2) (Nat.le_refl _) hn.2.1
 have m12:=m1.join m2 (rnodes_ok.bd _ _ _ _ r1)
 have r1':=m2.keep0 rnodes_ok r1
 have hs3':=m2.keep0 rvss_ok (m1.keep0 rvss_ok hs3)
 obtain ⟨q,b3,d3,h',F',e,r,m⟩:=zcR (El:=RVers false) rvers_ok (h:=h2) (l:=p.got) (f:=id) (lo:=lo) (R:=1) (e:=72) (bytes:=24) (Nat.le_trans hl m12.le) (by decide) (by omega)
  (fun i q a n c hh=>zci lo (i:Nat) p.me p.clock a1 p.chain.length c1 a2 p.log.length c2 a3 p.got.length c3 p.fell 0 0 0 none 0 (some 0) 0 none 0 (some 0) 0 none 0 (some 0) false p.me p.clock b1 p.chain.length d1 b2 p.log.length d2 q a n c p.fell hh) (fun i hi q x n y hh hm=>by
   obtain ⟨o,s,b,d,G,ha,ho,es,hp,_⟩:=(hm.keep0 rvss_ok hs3').get hi
   obtain ⟨a5,c5,h5,F5,e5,r5,m5⟩:=zkY (lo:=lo) hp (Nat.le_trans hl (Nat.le_trans m12.le hm.le)) (hn.2.2.2 _ (List.getElem_mem hi))
   refine ⟨[.sl 6 a5 p.got[i].length c5],F5,h5 ++ [.rows 1 72 false [[.sl 6 a5 p.got[i].length c5]]],Mv.snoc.keep0 rvers_ok r5,m5.trans (Mv.snoc' m5.nd),?_⟩
   rw [zci.e,zal (by omega),zab hi]
   simp only [ha,zam,Int.toNat_natCast,ho,zad,es,zao]
   rw [e5]
   simp only [zac,zah,zaT,zap (show i<9223372036854775807 by omega)])
 rw [List.map_id] at r
 have m3:=m12.join m (fun b hb=>by
   rw [List.mem_append] at hb
   exact hb.elim (rnodes_ok.bd _ _ _ _ r1' b) (rvers_ok.bd _ _ _ _ r2 b))
 rw [List.append_assoc] at m3
 refine ⟨_,h',G1++(G2++F'),zoj ?_,⟨_,_,_,G1,G2,F',rfl,rfl,m.keep0 rnodes_ok r1',m.keep0 rvers_ok r2,r⟩,m3⟩
 rw [e1];simp only [zac,zbx,zad,es1,zao]
 rw [e2];simp only [zac,zah]
 refine e.trans ?_
 rw [zci.e,zaj (by omega)]
end
end Go.Proofs.YthdfojchihooeaaGreat
namespace Go.Proofs.YthdfojchihooeaaGreat
open Go T


def zdO (v u:Ver):Bool:=v.key==u.key&&(v.tag.time==u.tag.time&&v.tag.place==u.tag.place)&&decide (v.past=u.past)&&(v.text.toList==u.text.toList)&&(v.gone==u.gone)
def zeZ (v:Ver):Bool:=v.key==0&&(v.tag.time==0&&v.tag.place==0)&&decide (v.past.length=0)&&zep v.text && !v.gone
def zg4 (i:Nat) (v:Ver):Bool:=zeZ v || (zbg v&&v.key==i)
def zaF (l:List Ver):Bool:=(l.zipIdx.all fun x=>zg4 x.2 x.1)&&decide (l.length=4)
theorem zaH {l:List Ver} (h:zaF l=true):l.length=4:=by
 simp only [zaF,Bool.and_eq_true,decide_eq_true_eq] at h;exact h.2
theorem zcD {l:List Ver} (h:zaF l=true) {i:Nat} (hi:i<l.length):zg4 i l[i]=true:=by
 simp only [zaF,Bool.and_eq_true,List.all_eq_true] at h
 have:=h.1 (l[i],i) (by rw [List.mem_zipIdx_iff_getElem?];simp [hi])
 exact this
theorem zfB {v:Ver} (h:zbg v=true):0<v.tag.time:=by
 simp only [zbg,Bool.and_eq_true,decide_eq_true_eq] at h
 exact (latest_lt.1 h.2).1
section
variable {lo:Nat}{ro ro':Bool}{h:Heap}{F F':List Nat}{a a':Option (Nat×Nat)}{c c':Option Nat}
theorem zhu {α T:Type}{p:Nat→α→Bool}{l:List α} (L:Nat→Option T) (no yes:Option T)
  (step:∀ i (hi:i<l.length),L i=if p i l[i]=true then L (i+1) else no) (done:L l.length=yes):L 0=if (l.zipIdx.all fun x=>p x.2 x.1)=true then yes else no:=by
 have hz:l.zipIdx.length=l.length:=by simp
 refine zcx (l:=l.zipIdx) (p:=fun x=>p x.2 x.1) L no yes (fun i hi=>?_) (by rw [hz];exact done)
 rw [step i (by omega)]
 simp only [List.getElem_zipIdx,Nat.zero_add]
theorem zsA {p q:List Tag} (hs:RTags ro h [.sl 2 a p.length c] p F) (hs':RTags ro' h [.sl 2 a' q.length c'] q F') (hn:p.length≤1048576) :
  evl lo 317 [.sl 2 a p.length c,.sl 2 a' q.length c'] h=some (.bool (decide (p=q)),h):=by
 refine zen (h':=h) ?_
 by_cases hl:p.length=q.length
 ·rw [show ((p.length:Int)==(q.length:Int))=true by simp;omega,zaN]
  refine (zcx (p:=fun x:Tag×Tag=>decide (x.1=x.2)) (l:=p.zip q) (fun i=>zay (List.length h) a p.length c a' q.length c' false (p.length:Nat) (i:Nat) h) (some (.bool false,h)) (some (.bool true,h)) (fun i hi=>?_) ?_).trans ?_
  ·have hip:i<p.length:=by simp at hi;omega
   have hiq:i<q.length:=by omega
   obtain ⟨o,rfl,ho⟩:=hs.get hip
   obtain ⟨o',rfl,ho'⟩:=hs'.get hiq
   rw [zay.e,zal (by omega),zab hip]
   simp only [zam,Int.toNat_natCast,ho,ho',zad,zaa,zao,zab hiq,List.getElem_zip,zap (show i<9223372036854775807 by omega),Bool.and_true]
   have e:(p[i].time==q[i].time&&p[i].place==q[i].place)=decide (p[i]=q[i]):=by
    rw [Bool.eq_iff_iff];cases hx:p[i];cases hy:q[i];simp
   rw [e]
   cases decide (p[i]=q[i])<;>simp
  ·have hz:(p.zip q).length=p.length:=by simp;omega
   rw [hz,zay.e,zaj (by omega)]
  ·have e:((p.zip q).all fun x=>decide (x.1=x.2))=decide (p=q):=by
    rw [Bool.eq_iff_iff,List.all_eq_true,decide_eq_true_eq]
    constructor
    ·intro hx
     apply List.ext_getElem hl
     intro i h1 h2
     have:=hx (p[i],q[i]) (by rw [List.mem_iff_getElem];exact ⟨i,by simp;omega,by simp⟩)
     simpa using this
    ·rintro rfl x hx
     obtain ⟨i,hi,rfl⟩:=List.mem_iff_getElem.1 hx
     simp
   rw [e]
   cases decide (p=q)<;>simp
 ·rw [show ((p.length:Int)==(q.length:Int))=false by simp;omega,za5,decide_eq_false (fun e=>hl (by rw [e]))]
theorem zt5 {v u:Ver} (hs:RTags ro h [.sl 2 a v.past.length c] v.past F) (hs':RTags ro' h [.sl 2 a' u.past.length c'] u.past F') (hn:v.past.length≤1048576) :
  evl lo 233 [.agg (v.cs a c),.agg (u.cs a' c')] h=some (.bool (zdO v u),h):=by
 refine zl7 (h':=h) ?_
 simp only [zsA hs hs' hn,zac,zbi,Bool.and_true]
 unfold zdO
 cases (v.key==u.key)<;>cases (v.tag.time==u.tag.time&&v.tag.place==u.tag.place)<;>cases (decide (v.past=u.past))<;>cases (v.text.toList==u.text.toList)<;>cases (v.gone==u.gone)<;>rfl
theorem zqS {v:Ver} (hs:RTags ro h [.sl 2 a v.past.length c] v.past F) (hn:v.past.length≤1048576) :
  evl lo 233 [.agg (v.cs a c),.agg [.int .i64 0,.int .i64 0,.int .i64 0,.sl 0 none 0 (some 0),.str ⟨⟨[]⟩⟩,.bool false]] h=some (.bool (zeZ v),h):=by
 refine zjG (h':=h) ?_
 have e:evl (List.length h) 317 [.sl 2 a v.past.length c,.sl 0 none 0 (some 0)] h=some (.bool (decide (v.past.length=0)),h):=by
  refine zdU (h':=h) ?_
  by_cases h0:v.past.length=0
  ·rw [h0,zqg,zaN,zaE.e,zaj (by simp)];rfl
  ·rw [show ((v.past.length:Int)==((0:Nat):Int))=false by rw [beq_eq_false_iff_ne];omega,za5,decide_eq_false h0]
 simp only [e,zac,zbi,Bool.and_true,zgm]
 unfold zeZ
 cases (v.key==0)<;>cases (v.tag.time==0&&v.tag.place==0)<;>cases (decide (v.past.length=0))<;>cases zep v.text<;>cases v.gone<;>rfl
theorem zpx {l:List Ver} (hs:RVers ro h [.sl 6 a l.length c] l F) (hn:zcQ l):evl lo 119 [.agg [.sl 6 a l.length c]] h=some (.bool (zaF l),h):=by
 have hn1:=hn.1
 refine zmC (h':=h) ?_
 refine (zhu (p:=zg4) (l:=l) (fun i=>zbC (List.length h) false a l.length c (l.length:Nat) (i:Nat) a l.length c h) (some (.bool false,h)) (some (.bool (decide (l.length=4)),h)) (fun i hi=>?_) ?_).trans ?_
 ·obtain ⟨o,s,b,d,G,rfl,ho,es,hp,_⟩:=hs.get hi
  have hm:=hn.2 _ (List.getElem_mem hi)
  rw [zbC.e,zal (by omega),zab hi]
  simp only [zam,Int.toNat_natCast,ho,zad,zaa,es,zdl,zaS,zao]
  rw [zqS hp hm.1]
  simp only [zac,zbi,zjr hp hm,zap (show i<9223372036854775807 by omega)]
  unfold zg4
  cases zeZ l[i]<;>cases zbg l[i]<;>cases (l[i].key==i)<;>simp
 ·rw [zbC.e,zaj (by omega)]
  by_cases h3:l.length=4
  ·rw [h3];rfl
  ·rw [show ((l.length:Int)==4)=false by simp;omega,za5,decide_eq_false h3]
 ·unfold zaF
  cases (l.zipIdx.all fun x=>zg4 x.2 x.1)<;>simp
theorem RVers.all {l:List Ver}{n:Nat}{i:Nat} (hs:RVers ro h [.sl 6 a n c] l F) (hi:i<l.length):∃ o s a' c' G,a=some o∧ld h o.1 (o.2+i) 0 1=some [.int .i64 l[i].key]∧ld h o.1 (o.2+i) 1 1=some [.int .i64 l[i].tag.time] ∧
  ld h o.1 (o.2+i) 2 1=some [.int .i64 l[i].tag.place]∧ld h o.1 (o.2+i) 3 1=some [s]∧ld h o.1 (o.2+i) 4 1=some [.str l[i].text]∧ld h o.1 (o.2+i) 5 1=some [.bool l[i].gone]∧ld h o.1 (o.2+i) 1 2=some [.int .i64 l[i].tag.time,.int .i64 l[i].tag.place] ∧
  ld h o.1 (o.2+i) 0 6=some [.int .i64 l[i].key,.int .i64 l[i].tag.time,.int .i64 l[i].tag.place,s,.str l[i].text,.bool l[i].gone] ∧
  (∀ {R':Type} (K:Option (Nat×Nat)→Nat→Option Nat→Option R'),eS 2 s K=K a' l[i].past.length c')∧RTags ro h [.sl 2 a' l[i].past.length c'] l[i].past G∧(∀ b∈G,b∈F):=by
 obtain ⟨o,row,G,h1,h2,hv,hG,_⟩:=hs.read hi
 obtain ⟨s,a',c',rfl,es,hp⟩:=hv.form
 exact ⟨o,s,a',c',G,h1,by rw [h2];rfl,by rw [h2];rfl,by rw [h2];rfl,by rw [h2];rfl,by rw [h2];rfl,by rw [h2];rfl,by rw [h2];rfl,by rw [h2];rfl,es,hp,hG⟩
theorem zh1 {l:List Ver} (hs:RVers ro h [.sl 6 a l.length c] l F) (hn:zcQ l):evl lo 221 [.agg [.sl 6 a l.length c]] h=some (.bool (zaF l),h):=by
 have hn1:=hn.1
 refine zkm (h':=h) ?_
 refine (zhu (p:=zg4) (l:=l) (fun i=>zaQ (List.length h) false (i:Nat) a l.length c h) (some (.bool false,h)) (some (.bool (decide (l.length=4)),h)) (fun i hi=>?_) ?_).trans ?_
 ·obtain ⟨o,s,b,d,G,rfl,ho0,_,_,ho3,ho4,ho5,ho12,ho,es,hp,_⟩:=hs.all hi
  have hm:=hn.2 _ (List.getElem_mem hi)
  rw [zaQ.e,zal (by omega),zab hi]
  simp only [zam,Int.toNat_natCast,ho0,ho3,ho4,ho5,ho12,ho,zad,zaa,es,zdl,zaS,zao,zab hi,Bool.and_true,zgm,zk5 hp hm,zac,zbi,zap (show i<9223372036854775807 by omega)]
  have hpl:∀ {T:Type} (x y:Option T),br (decide ((l[i].past.length:Int)>0)) x y=br (!decide (l[i].past.length=0)) x y:=by
   intro T x y
   by_cases h0:l[i].past.length=0
   ·rw [zaj (by omega),decide_eq_true h0];rfl
   ·rw [zal (by omega),decide_eq_false h0];rfl
  simp only [hpl]
  unfold zg4 zeZ
  cases hz:(l[i].tag.time==0&&l[i].tag.place==0) with
  | true =>
   have:zbg l[i]=false:=by
    cases hv:zbg l[i] with
    | false=>rfl
    | true=>have:=zfB hv;simp at hz;omega
   rw [this]
   cases (l[i].key==0)<;>cases zep l[i].text<;>cases l[i].gone<;>cases (decide (l[i].past.length=0))<;>rfl
  | false =>
   cases (l[i].key==0)<;>cases zep l[i].text<;>cases l[i].gone<;>cases (decide (l[i].past.length=0))<;>cases zbg l[i]<;>cases (l[i].key==i)<;>rfl
 ·rw [zaQ.e,zaj (by omega)]
  by_cases h3:l.length=4
  ·rw [h3];rfl
  ·rw [show ((l.length:Int)==4)=false by simp;omega,za5,decide_eq_false h3]
 ·unfold zaF
  cases (l.zipIdx.all fun x=>zg4 x.2 x.1)<;>simp
end
end Go.Proofs.YthdfojchihooeaaGreat
namespace Go.Proofs.YthdfojchihooeaaGreat
open Go T


def zcv (l:List Ver) (t:Tag):Bool:=l.any fun v=>v.tag.time==t.time&&v.tag.place==t.place
section
variable {lo:Nat}{ro ro':Bool}{h:Heap}{F F':List Nat}{a a':Option (Nat×Nat)}{c c':Option Nat}
theorem zn8 {l:List Ver}{g:Nat}{cl:List V}{p:Ver→Bool} (hs:RVers ro h [.sl 6 a l.length c] l F) (hn:l.length≤1048576)
  (hp:∀ lo v a c G,v∈l→RTags ro h [.sl 2 a v.past.length c] v.past G→evl lo g (zdz [.agg (v.cs a c)] cl) h=some (.bool (p v),h)) :
  evl lo 234 [.sl 6 a l.length c,.fn g cl] h=some (.int .i64 (zcS p l 0),h):=by
 have loop:∀ m k x,m+k=l.length→zar (List.length h) a l.length c g cl x (l.length:Nat) (k:Nat) h=some (.int .i64 (zcS p (l.drop k) k),h):=by
  intro m
  induction m with
  | zero =>
   intro k x hk
   rw [zar.e,zaj (by omega),show k=l.length by omega]
   simp [zcS]
  | succ m ih =>
   intro k x hk
   have hlt:k<l.length:=by omega
   obtain ⟨o,s,b,d,G,rfl,ho,es,hv,_⟩:=hs.get hlt
   rw [zar.e,zal (by omega),zab (by omega)]
   simp only [zam,Int.toNat_natCast,ho,zad,zaa,es,zdl,zaS,zao]
   rw [hp (List.length h) l[k] b d G (List.getElem_mem hlt) hv,zac,zbi,List.drop_eq_getElem_cons hlt]
   simp only [zcS]
   cases p l[k]
   ·simp only [za5,cond_false];rw [zap (by omega)];exact ih (k+1) _ (by omega)
   ·simp
 refine zdB (h':=h) ?_
 exact loop l.length 0 0 (by omega)
theorem zgZ {l:List Ver}{g:Nat}{cl:List V}{p:Ver→Bool} (hs:RVers ro h [.sl 6 a l.length c] l F) (hn:l.length≤1048576)
  (hp:∀ lo v a c G,v∈l→RTags ro h [.sl 2 a v.past.length c] v.past G→evl lo g (zdz [.agg (v.cs a c)] cl) h=some (.bool (p v),h)) :
  evl lo 120 [.sl 6 a l.length c,.fn g cl] h=some (.bool (l.any p),h) :=
 zdj (h':=h) (by rw [zn8 hs hn hp];simp only [zac,zaa,zre];rw [zig];simp)
theorem zqU {l:List Ver}{t p:Int} (hs:RVers ro h [.sl 6 a l.length c] l F) (hn:l.length≤1048576) :
  evl lo 247 [.sl 6 a l.length c,.agg [.int .i64 t,.int .i64 p]] h=some (.bool (zcv l ⟨t,p⟩),h):=by
 refine zoF (h':=h ++ [.rows 2 60 false [[.int .i64 t,.int .i64 p]]]) ?_
 rw [zgZ (p:=fun v=>v.tag.time==t&&v.tag.place==p) (Mv.snoc.keep0 rvers_ok hs) hn (fun lo v a c G _ _=>by
  refine zl6 (h':=h ++ [.rows 2 60 false [[.int .i64 t,.int .i64 p]]]) ?_
  have:ld (h ++ [.rows 2 60 false [[.int .i64 t,.int .i64 p]]]) h.length 0 0 2=some [.int .i64 t,.int .i64 p]:=by rw [zqK (row := [.int .i64 t,.int .i64 p]) (by rfl)];rfl
  simp only [this,zam,zad,zaa,zao,Bool.and_true]
  cases (v.tag.time==t&&v.tag.place==p)<;>rfl)]
 simp only [zac,zbi]
 unfold zcv
 cases (l.any fun v=>v.tag.time==t&&v.tag.place==p)<;>rfl
theorem Sli.pre {α:Type}{El:Rel α}{R R' e n i:Nat}{l:List α} (hs:Sli false R e El h [.sl R' a n c] l F) (hi:i≤l.length):∃ F',Sli false R e El h [.sl R' a i c] (l.take i) F':=by
 have hn:=hs.val
 subst hn
 obtain ⟨R1,a1,c1,e1,g⟩:=hs
 injection e1 with e1 _;injection e1 with e0 e2 _ e3
 subst e0;subst e2;subst e3
 have hl:(l.take i).length=i:=by simp;omega
 cases a with
 | none =>
  obtain ⟨rfl,h2,_⟩:=g
  exact ⟨[],R',none,c,by rw [hl],by simp,h2,rfl⟩
 | some p =>
  obtain ⟨b,j⟩:=p
  obtain ⟨hR,rs,Fs,g1,g2,g3,g4,g5,rfl⟩:=g
  refine ⟨b ::(Fs.take i).flatten,R',some (b,j),c,by rw [hl],hR,rs,Fs.take i,g1,by rw [hl];omega,fun k hk=>?_,g4,?_,rfl⟩
  ·have:=g3 k hk
   rw [hl];omega
  ·rw [hl]
   have:=g5.take i
   rw [List.take_take,Nat.min_eq_left hi] at this
   exact this
theorem zla {α:Type}{El:Rel α}{R R' e n i:Nat}{l:List α} (hs:Sli false R e El h [.sl R' a n c] l F) (hi:i≤l.length) {T:Type}{K:Option (Nat×Nat)→Nat→Option Nat→Option T} :
  zaz a n c none (some (.int .i64 (i:Nat))) none K=K a i c:=by
 have hn:=hs.val
 subst hn
 obtain ⟨R1,a',c',h1,h2⟩:=hs
 injection h1 with h1 _
 injection h1 with e0 e1 e2 e3
 subst e0;subst e1;subst e3
 have hc:∀ k,c=some k→l.length≤k:=fun k hk=>by
  cases a with
  | none=>obtain ⟨rfl,_⟩:=h2;simp
  | some p=>obtain ⟨b,i⟩:=p;obtain ⟨_,_,_,_,_,g3,_⟩:=h2;exact (g3 k hk).1
 unfold zaz zgK zmT zoI
 cases c with
 | none=>simp only [zaa,Int.toNat_natCast];rw [zd2 ⟨by omega,by omega⟩]
 | some k=>have:=hc k rfl;simp only [zaa,Int.toNat_natCast];rw [zd2 ⟨by omega,by omega⟩]
def znM (place:Int) (l:List Ver) (i:Nat) (v:Ver):Bool:=zbg v&&(v.tag.place==place) && !zcv (l.take i) v.tag
def ze5 (place:Int) (l:List Ver):Bool:=(l.zipIdx.all fun x=>znM place l x.2 x.1)&&decide ((l.length:Int)≤60)
theorem zm9 {l:List Ver}{m:Int} (hs:RVers false h [.sl 6 a l.length c] l F) (hn:zcQ l):evl lo 141 [.sl 6 a l.length c,.int .i64 m] h=some (.bool (ze5 m l),h):=by
 have hn1:=hn.1
 refine zqa (h':=h) ?_
 refine (zhu (p:=znM m l) (l:=l) (fun i=>zcJ (List.length h) a l.length c m false a l.length c (l.length:Nat) (i:Nat) h) (some (.bool false,h)) (some (.bool (decide ((l.length:Int)≤60)),h)) (fun i hi=>?_) ?_).trans ?_
 ·obtain ⟨F2,hpre⟩:=Sli.pre hs (show i≤l.length by omega)
  have hres:=fun {T:Type} (K:Option (Nat×Nat)→Nat→Option Nat→Option T)=>zla hs (show i≤l.length by omega) (K:=K)
  obtain ⟨o,s,b,d,G,ha,ho,es,hp,_⟩:=hs.get hi
  have hm:=hn.2 _ (List.getElem_mem hi)
  have hil:(l.take i).length=i:=by simp;omega
  have hpre':RVers false h [.sl 6 a (l.take i).length c] (l.take i) F2:=by rw [hil];exact hpre
  have hht:=fun lo=>zqU (lo:=lo) (t:=l[i].tag.time) (p:=l[i].tag.place) hpre' (by omega)
  rw [hil] at hht
  rw [zcJ.e,zal (by omega),zab hi]
  simp only [ha,zam,Int.toNat_natCast,ho,zad,zaa,es,zdl,zaS,zao]
  rw [zjr hp hm]
  simp only [← ha,zac,zbi,hres,hht,zap (show i<9223372036854775807 by omega)]
  unfold znM
  cases zbg l[i]<;>cases (l[i].tag.place==m)<;>cases zcv (l.take i) l[i].tag<;>simp
 ·rw [zcJ.e,zaj (by omega)]
  by_cases h3:(l.length:Int)≤60
  ·rw [zal h3,decide_eq_true h3]
  ·rw [zaj h3,decide_eq_false h3]
 ·unfold ze5
  cases (l.zipIdx.all fun x=>znM m l x.2 x.1)<;>simp
theorem zmN {l:List Ver}{m:Int} (hs:RVers ro h [.sl 6 a l.length c] l F) (hn:zcQ l):evl lo 249 [.sl 6 a l.length c,.int .i64 m] h=some (.bool (ze5 m l),h):=by
 have hn1:=hn.1
 refine zp0 (h':=h) ?_
 have inner:∀ i (hi:i<l.length),zca (List.length h) a l.length c m false (i:Nat) 0 h=if zcv (l.take i) l[i].tag=true then some (.bool false,h) else zbO (List.length h) a l.length c m false ((i+1:Nat):Int) h:=by
  intro i hi
  obtain ⟨o,s,b,d,G,ha,_,_,_,_,_,_,ho12,_⟩:=hs.all hi
  have hil:(l.take i).length=i:=by simp;omega
  refine (zcx (p:=fun v:Ver => !(v.tag.time==l[i].tag.time&&v.tag.place==l[i].tag.place)) (l:=l.take i) (fun k=>zca (List.length h) a l.length c m false (i:Nat) (k:Nat) h) (some (.bool false,h)) (zbO (List.length h) a l.length c m false ((i+1:Nat):Int) h) (fun k hk=>?_) ?_).trans ?_
  ·have hkl:k<l.length:=by omega
   obtain ⟨o',s',b',d',G',ha',_,_,_,_,_,_,ho12',_⟩:=hs.all hkl
   have hoo:o'=o:=by rw [ha] at ha';injection ha' with ha';exact ha'.symm
   subst hoo
   rw [zca.e,zal (by omega),zab hkl]
   simp only [ha,zam,Int.toNat_natCast,ho12,ho12',zad,zaa,zao,zab hi,Bool.and_true,List.getElem_take,zap (show k<9223372036854775807 by omega)]
   cases (l[k].tag.time==l[i].tag.time&&l[k].tag.place==l[i].tag.place)<;>simp
  ·rw [hil,zca.e,zaj (by omega),zap (by omega)]
  ·unfold zcv
   rw [List.any_eq_not_all_not]
   cases ((l.take i).all fun v:Ver => !(v.tag.time==l[i].tag.time&&v.tag.place==l[i].tag.place))<;>simp
 refine (zhu (p:=znM m l) (l:=l) (fun i=>zbO (List.length h) a l.length c m false (i:Nat) h) (some (.bool false,h)) (some (.bool (decide ((l.length:Int)≤60)),h)) (fun i hi=>?_) ?_).trans ?_
 ·have hin:=inner i hi
  obtain ⟨o,s,b,d,G,ha,_,_,ho2,_,_,_,_,ho,es,hp,_⟩:=hs.all hi
  have hm:=hn.2 _ (List.getElem_mem hi)
  rw [zbO.e,zal (by omega),zab hi]
  simp only [ha,zam,Int.toNat_natCast,ho,zad,zaa,es,zdl,zaS,zao]
  rw [zk5 hp hm]
  simp only [zac,zbi,zab hi,ho2,zam,zad,zao,zaa]
  rw [← ha,hin]
  unfold znM
  cases zbg l[i]<;>cases (l[i].tag.place==m)<;>cases zcv (l.take i) l[i].tag<;>simp
 ·rw [zbO.e,zaj (by omega)]
  by_cases h3:(l.length:Int)≤60
  ·rw [zal h3,decide_eq_true h3]
  ·rw [zaj h3,decide_eq_false h3]
 ·unfold ze5
  cases (l.zipIdx.all fun x=>znM m l x.2 x.1)<;>simp
end
end Go.Proofs.YthdfojchihooeaaGreat
namespace Go.Proofs.YthdfojchihooeaaGreat
open Go T


def zbN (l:List Ver):List Tag:=l.map fun v=>v.tag
section
variable {lo:Nat}{ro ro':Bool}{h:Heap}{F F':List Nat}{a a':Option (Nat×Nat)}{c c':Option Nat}
theorem zk4 {l:List Ver} (hs:RVers ro h [.sl 6 a l.length c] l F) (hl:lo≤h.length) (hn:l.length≤1048576) :
  ∃ v h' F',evl lo 211 [.agg [.sl 6 a l.length c]] h=some (.agg [v],h')∧RTags false h' [v] (zbN l) F'∧Mv h [] h' F':=by
 obtain ⟨q,a',c',h',F',e,r,m⟩:=zcR (El:=flat Tag.cs) zcE (h:=h) (l:=l) (f:=fun v=>v.tag) (lo:=lo) (R:=2) (e:=60) (bytes:=16) hl (by decide) (by omega)
  (fun i q a1 n1 c1 hh=>zcn lo (i:Nat) a l.length c 0 none 0 (some 0) q a1 n1 c1 hh) (fun i hi q a1 n1 c1 hh hm=>by
   obtain ⟨o,s,b,d,G,ha,_,_,_,_,_,_,ho12,_⟩:=(hm.keep0 rvers_ok hs).all hi
   refine ⟨[.int .i64 l[i].tag.time,.int .i64 l[i].tag.place],[],hh ++ [.rows 2 60 false [[.int .i64 l[i].tag.time,.int .i64 l[i].tag.place]]],⟨rfl,rfl⟩,Mv.snoc,?_⟩
   rw [zcn.e,zal (by omega),zab hi]
   simp only [ha,zam,Int.toNat_natCast,ho12,zad,zaa,zao,zaT,zap (show i<9223372036854775807 by omega)])
 refine ⟨_,h',F',zor ?_,r,m⟩
 refine e.trans ?_
 rw [zcn.e,zaj (by omega)]
theorem zpu {l:List Ver} (hs:RVers ro h [.sl 6 a l.length c] l F) (hl:lo≤h.length) (h4:l.length=4) :
  ∃ v h' F',evl lo 128 [.agg [.sl 6 a l.length c]] h=some (.agg [v],h')∧RTags false h' [v] (zbN l) F'∧Mv h [] h' F':=by
 obtain ⟨h',F',e,r,m⟩:=zui (El:=flat Tag.cs) zcE (h0:=h) (l:=l) (f:=fun v=>v.tag) (lo:=lo) (R:=2) (e:=60) (z := [.int .i64 0,.int .i64 0]) rfl hl
  (fun i hh=>zbm lo a l.length c (l.length:Nat) (i:Nat) 0 none 0 (some 0) (some (h.length,0)) 4 (some 4) hh) (fun i hi hh hm=>by
   obtain ⟨o,s,b,d,G,rfl,ho,es,_,_⟩:=(hm.keep0 rvers_ok hs).get hi
   refine ⟨[.int .i64 l[i].tag.time,.int .i64 l[i].tag.place],[],hh,⟨rfl,rfl⟩,Mv.nil,rfl,?_⟩
   rw [zbm.e,zal (by omega),zab hi]
   simp only [zam,Int.toNat_natCast,ho,zad,zaa,es,zdl,zaS,zao,zab (show i<4 by omega),Nat.zero_add,zap (show i<9223372036854775807 by omega)])
 rw [h4] at r
 refine ⟨_,h',F',zjI ?_,r,m⟩
 rw [zl9 (r:=(.agg [.sl 2 (some (h.length,0)) 4 (some 4)],h ++ [.rows 2 60 false (List.replicate l.length [.int .i64 0,.int .i64 0])])) (by rw [h4];rfl)]
 simp only [zac,zbx,zad,zah,zao]
 refine e.trans ?_
 rw [zbm.e,zaj (by omega)]
def zaO (l:List Node):List Tag:=match l.getLast? with | some x=>zbN x.store | none => []
theorem zhJ {l:List Node} (h0:0<l.length):zaO l=zbN (l[l.length - 1]'(by omega)).store:=by
 unfold zaO
 rw [List.getLast?_eq_getElem?,List.getElem?_eq_getElem (by omega)]
theorem zgJ {l:List Node} (hs:RNodes ro h [.sl 2 a l.length c] l F) (hl:lo≤h.length) (hn:zcW l) (h0:0<l.length) :
  ∃ v h' F',evl lo 156 [.agg [.sl 2 a l.length c]] h=some (.agg [v],h')∧RTags false h' [v] (zaO l) F'∧Mv h [] h' F':=by
 have hn1:=hn.1
 obtain ⟨o,s1,s2,a1,c1,a2,c2,F1,F2,ha,_,ho1,_,e1,_,p1,_⟩:=hs.get (show l.length - 1<l.length by omega)
 obtain ⟨v,h',F',e,r,m⟩:=zk4 (lo:=lo) p1 hl (hn.2 _ (List.getElem_mem _)).1.1
 obtain ⟨a',c',es,r'⟩:=r.form
 rw [zhJ h0]
 refine ⟨_,h',F',zlV ?_,r',m⟩
 rw [wr (by omega) (by omega),zdd ⟨by omega,by omega⟩,ha,zam,show ((l.length:Int) - 1).toNat=l.length - 1 by omega,ho1]
 simp only [zam,zad,zao,e1]
 rw [e]
 simp only [zac,zbx,zad,es,zao]
end
end Go.Proofs.YthdfojchihooeaaGreat
namespace Go.Proofs.YthdfojchihooeaaGreat
open Go T


abbrev tx (l:List UInt8):ByteArray:=⟨⟨l⟩⟩
theorem zg5 {a b:List UInt8}:tx a++tx b=tx (a++b):=by
 apply ByteArray.ext
 simp [tx]
theorem zcC {a:List UInt8}:(tx a).size=a.length:=rfl
theorem zs7 {a:List UInt8}:(tx a).toList=a:=by rw [ByteArray.toList_eq]
theorem zs8 (s:ByteArray):tx s.data.toList=s:=rfl
def zoJ (n:Nat):List UInt8:=if n<10 then [UInt8.ofNat (48+n)] else zoJ (n / 10) ++ [UInt8.ofNat (48+n % 10)]
termination_by n
decreasing_by omega
theorem zhP (n:Nat):(zoJ n).length≤n+1:=by
 induction n using Nat.strongRecOn with
 | ind n ih =>
  unfold zoJ
  split
  ·simp
  ·have:=ih (n / 10) (by omega)
   simp only [List.length_append,List.length_singleton];omega
def zxN (l:List UInt8):Nat:=l.foldl (fun a c=>a*10+(c.toNat - 48)) 0
theorem zn0 {k:Nat} (h:k<10):(UInt8.ofNat (48+k)).toNat=48+k:=by
 rw [UInt8.toNat_ofNat'];omega
theorem zrO (n:Nat):zxN (zoJ n)=n:=by
 induction n using Nat.strongRecOn with
 | ind n ih =>
  unfold zoJ
  split
  ·rename_i h;simp only [zxN,List.foldl_cons,List.foldl_nil,zn0 h];omega
  ·have:=ih (n / 10) (by omega)
   simp only [zxN,List.foldl_append,List.foldl_cons,List.foldl_nil] at this ⊢
   rw [this,zn0 (Nat.mod_lt _ (by decide))];omega
theorem zn1 {n m:Nat} (h:zoJ n=zoJ m):n=m:=by rw [← zrO n,← zrO m,h]
theorem zvJ (n:Nat):∀ c∈zoJ n,48≤c.toNat∧c.toNat≤57:=by
 induction n using Nat.strongRecOn with
 | ind n ih =>
  unfold zoJ
  split
  ·rename_i h
   intro c hc
   simp only [List.mem_singleton] at hc
   subst hc
   rw [zn0 h];omega
  ·intro c hc
   rw [List.mem_append] at hc
   rcases hc with hc | hc
   ·exact ih (n / 10) (by omega) c hc
   ·simp only [List.mem_singleton] at hc
    subst hc
    rw [zn0 (Nat.mod_lt _ (by decide))];omega
theorem zhO {n:Nat}{c:UInt8} (hc:c.toNat<48):c∉zoJ n:=fun h=>by have:=zvJ n c h;omega
def zf8 (t:Tag):List UInt8:=zoJ t.time.toNat++46 :: zoJ t.place.toNat
def zbX (l:List Tag):List UInt8:=l.flatMap fun t=>32 :: zf8 t
def zjl (v:Ver):List UInt8:=bif v.gone then [45] else 61 :: v.text.data.toList
def zlc (v:Ver):List UInt8:=zoJ v.key.toNat++32 ::(zf8 v.tag++zbX v.past++32 :: zjl v)
theorem zn2 {x:UInt8}:∀ {a a' b b':List UInt8},a++x :: b=a'++x :: b'→x∉a→x∉a'→a=a'∧b=b'
 | [],[],b,b',h,_,_=>⟨rfl,by simpa using h⟩
 | [],y :: a',b,b',h,_,h'=>by simp only [List.nil_append,List.cons_append,List.cons.injEq] at h;exact absurd (by simp [h.1]) h'
 | y :: a,[],b,b',h,h',_=>by simp only [List.nil_append,List.cons_append,List.cons.injEq] at h;exact absurd (by simp [h.1]) h'
 | y :: a,z :: a',b,b',h,h1,h2=>by
  simp only [List.cons_append,List.cons.injEq] at h
  simp only [List.mem_cons,not_or] at h1 h2
  obtain ⟨e1,e2⟩:=zn2 h.2 h1.2 h2.2
  exact ⟨by rw [h.1,e1],e2⟩
theorem zmZ {t:Tag}:(32:UInt8)∉zf8 t:=by
 unfold zf8
 simp only [List.mem_append,List.mem_cons,not_or]
 exact ⟨zhO (by decide),by decide,zhO (by decide)⟩
theorem zso {t u:Tag} (ht:zbj t.time t.place=true) (hu:zbj u.time u.place=true) (h:zf8 t=zf8 u):t=u:=by
 have h1:=zdn ht
 have h2:=zdn hu
 obtain ⟨e1,e2⟩:=zn2 h (zhO (by decide)) (zhO (by decide))
 have e1:=zn1 e1
 have e2:=zn1 e2
 cases t;cases u
 simp only [Tag.mk.injEq] at *
 omega
theorem zle:∀ {p q:List Tag}{r s:List UInt8},p.length=q.length→(∀ t∈p,zbj t.time t.place=true)→(∀ t∈q,zbj t.time t.place=true) →
  zbX p++32 :: r=zbX q++32 :: s→p=q∧r=s
 | [],[],r,s,_,_,_,h=>⟨rfl,by simpa [zbX] using h⟩
 | [],_ :: _,_,_,h,_,_,_=>by simp at h
 | _ :: _,[],_,_,h,_,_,_=>by simp at h
 | t :: p,u :: q,r,s,hl,hp,hq,h=>by
  have e:∀ (x:List Tag) (z:List UInt8),∃ w,zbX x++32 :: z=32 :: w:=by
   intro x z
   cases x with
   | nil=>exact ⟨z,rfl⟩
   | cons a x=>exact ⟨_,by simp only [zbX,List.flatMap_cons,List.cons_append];rfl⟩
  obtain ⟨w1,hw1⟩:=e p r
  obtain ⟨w2,hw2⟩:=e q s
  have h0:zf8 t++(zbX p++32 :: r)=zf8 u++(zbX q++32 :: s):=by
   simpa [zbX,List.flatMap_cons] using h
  rw [hw1,hw2] at h0
  obtain ⟨e1,e2⟩:=zn2 h0 zmZ zmZ
  have et:=zso (hp t (by simp)) (hq u (by simp)) e1
  obtain ⟨e3,e4⟩:=zle (by simpa using hl) (fun x hx=>hp x (by simp [hx])) (fun x hx=>hq x (by simp [hx])) (show zbX p++32 :: r=zbX q++32 :: s by rw [hw1,hw2,e2])
  exact ⟨by rw [et,e3],e4⟩
theorem zhF {p:List Tag} (h:zbr p=true):∀ t∈p,zbj t.time t.place=true:=by
 simp only [zbr,Bool.and_eq_true,List.all_eq_true] at h;exact h.2
theorem zaA {v:Ver} (h:zbg v=true):(0≤v.key∧v.key≤3)∧zdX v.text=true∧(v.gone=true→v.text.size=0)∧zbr v.past=true∧zbj v.tag.time v.tag.place=true∧zeT v.past<v.tag.time:=by
 simp only [zbg,zgd,zak,Bool.and_eq_true,decide_eq_true_eq,Bool.or_eq_true,Bool.not_eq_true',zep] at h
 obtain ⟨⟨⟨⟨⟨⟨h1,h2⟩,h3⟩,h4⟩,h5⟩,h6⟩,h7⟩:=h
 refine ⟨⟨h1,h2⟩,h3,fun hg=>?_,h5,h6,h7⟩
 rcases h4 with h4 | h4
 ·rw [hg] at h4;cases h4
 ·exact h4
theorem ziU {s t:ByteArray} (h:s.data.toList=t.data.toList):s=t:=by
 rw [← zs8 s,← zs8 t,h]
theorem zlO {s:ByteArray} (h:s.size=0):s.data.toList = []:=List.eq_nil_of_length_eq_zero (by simpa using h)
theorem zsn {v u:Ver} (hv:zbg v=true) (hu:zbg u=true) (h:zlc v=zlc u):v=u:=by
 obtain ⟨⟨k1,k2⟩,_,g1,p1,t1,_⟩:=zaA hv
 obtain ⟨⟨k3,k4⟩,_,g2,p2,t2,_⟩:=zaA hu
 obtain ⟨e1,e2⟩:=zn2 h (zhO (by decide)) (zhO (by decide))
 have e1:=zn1 e1
 have l1:=zbq p1
 have l2:=zbq p2
 have e3:zbX (v.tag :: v.past)++32 :: zjl v=zbX (u.tag :: u.past)++32 :: zjl u:=by
  simp only [zbX,List.flatMap_cons,List.cons_append,List.append_assoc] at e2 ⊢
  rw [e2]
 obtain ⟨e4,e5⟩:=zle (by simp [l1,l2]) (fun t ht=>by
  rcases List.mem_cons.1 ht with rfl | ht
  ·exact t1
  ·exact zhF p1 t ht) (fun t ht=>by
  rcases List.mem_cons.1 ht with rfl | ht
  ·exact t2
  ·exact zhF p2 t ht) e3
 injection e4 with e6 e7
 have e8:v.gone=u.gone∧v.text=u.text:=by
  unfold zjl at e5
  cases hg:v.gone<;>cases hg2:u.gone<;>simp only [hg,hg2,cond_true,cond_false,List.cons.injEq] at e5
  ·exact ⟨rfl,ziU e5.2⟩
  ·exact absurd e5.1 (by decide)
  ·exact absurd e5.1 (by decide)
  ·exact ⟨rfl,ziU (by rw [zlO (g1 hg),zlO (g2 hg2)])⟩
 cases v;cases u
 simp only [Ver.mk.injEq] at *
 exact ⟨by omega,e6,e7,e8.2,e8.1⟩
theorem same_iff {v u:Ver}:zdO v u=true↔v=u:=by
 cases v with | mk k1 t1 p1 s1 g1=>cases u with | mk k2 t2 p2 s2 g2 =>
 cases t1;cases t2
 simp only [zdO,Bool.and_eq_true,beq_iff_eq,decide_eq_true_eq,Ver.mk.injEq,Tag.mk.injEq]
 constructor
 ·rintro ⟨⟨⟨⟨h1,h2⟩,h3⟩,h4⟩,h5⟩
  exact ⟨h1,h2,h3,ziU (by rwa [ByteArray.toList_eq,ByteArray.toList_eq] at h4),h5⟩
 ·rintro ⟨h1,h2,h3,h4,h5⟩
  exact ⟨⟨⟨⟨h1,h2⟩,h3⟩,by rw [h4]⟩,h5⟩
theorem zqD {v u:Ver} (hv:zbg v=true) (hu:zbg u=true):(zlc v==zlc u)=zdO v u:=by
 rw [Bool.eq_iff_iff,beq_iff_eq,same_iff]
 exact ⟨zsn hv hu,fun h=>by rw [h]⟩
section
variable {lo:Nat}{ro ro':Bool}{h:Heap}{F F':List Nat}{a a':Option (Nat×Nat)}{c c':Option Nat}
theorem zpP {n:Int} (h0:0≤n) (h1:n<10):zil [IntKind.wrap .u8 (IntKind.wrap .i64 (48+n))]=tx [UInt8.ofNat (48+n.toNat)]:=by
 have e:IntKind.wrap .u8 (IntKind.wrap .i64 (48+n))=((48+n.toNat:Nat):Int):=by
  rw [wr (by omega) (by omega)]
  obtain ⟨k,rfl⟩:=Int.eq_ofNat_of_zero_le h0
  have:k<10:=by omega
  rcases k with _ | _ | _ | _ | _ | _ | _ | _ | _ | _ | k<;>first | rfl | omega
 rw [e]
 rfl
theorem zjg:∀ {n:Int},0≤n→n≤1000000000→∀ {lo:Nat}{h:Heap},evl lo 354 [.int .i64 n] h=some (.str (tx (zoJ n.toNat)),h):=by
 suffices ∀ (m:Nat) (n:Int),n.toNat=m→0≤n→n≤1000000000→∀ {lo:Nat}{h:Heap},evl lo 354 [.int .i64 n] h=some (.str (tx (zoJ n.toNat)),h) from fun {n} h0 h1 {lo}{h}=>this n.toNat n rfl h0 h1
 intro m
 induction m using Nat.strongRecOn with
 | ind m ih =>
  intro n hm h0 h1 lo h
  by_cases h10:n<10
  ·refine zkd (h':=h ++ [.rows 1 5 false [[.int .u8 (IntKind.wrap .u8 (IntKind.wrap .i64 (48+n)))]]]) ?_
   rw [zaj (by omega),zaj (by omega),zal h10]
   simp only [zaT,zeO,zam]
   rw [zpP h0 h10]
   unfold zoJ
   rw [if_pos (by omega)]
  ·have e1:n.tdiv 10=n / 10:=Int.tdiv_eq_ediv_of_nonneg h0
   have e2:n.tmod 10=n % 10:=Int.tmod_eq_emod_of_nonneg h0
   refine zkd (h':=h ++ [.rows 1 5 false [[.int .u8 (IntKind.wrap .u8 (IntKind.wrap .i64 (48+n.tmod 10)))]]]) ?_
   have hl:=zhP (n / 10).toNat
   rw [zaj (by omega),zaj (by omega),zaj h10,e1,wr (by omega) (by omega),ih (n / 10).toNat (by omega) (n / 10) rfl (by omega) (by omega)]
   simp only [zac,zdl,zaT,zeO,zam]
   rw [e2,zpP (by omega) (by omega),zho (by rw [zcC,zcC];simp only [List.length_singleton];omega),zg5]
   conv=>rhs;unfold zoJ
   rw [if_neg (by omega),show (n / 10).toNat=n.toNat / 10 by omega,show (n % 10).toNat=n.toNat % 10 by omega]
theorem zjk {t:Tag} (h:zbj t.time t.place=true):(zf8 t).length≤1010:=by
 have h1:=zdn h
 have h2:=zhP t.time.toNat
 have h3:=zhP t.place.toNat
 simp only [zf8,List.length_append,List.length_cons];omega
theorem zmR {t:Tag} (ht:zbj t.time t.place=true):evl lo 355 [.agg [.int .i64 t.time,.int .i64 t.place]] h=some (.str (tx (zf8 t)),h):=by
 have h1:=zdn ht
 have h2:=zhP t.time.toNat
 have h3:=zhP t.place.toNat
 refine zp7 (h':=h) ?_
 rw [zjg (by omega) (by omega)]
 simp only [zac,zdl]
 rw [zho (by rw [zcC,zcC];simp only [List.length_singleton];omega),zg5,zjg (by omega) (by omega)]
 simp only [zac,zdl]
 rw [zho (by rw [zcC,zcC];simp only [List.length_append,List.length_singleton];omega),zg5]
 simp [zf8]
theorem zld {l:List Tag} (h:∀ t∈l,zbj t.time t.place=true):(zbX l).length≤1011*l.length:=by
 induction l with
 | nil=>simp [zbX]
 | cons t l ih =>
  have h1:=ih fun x hx=>h x (by simp [hx])
  have h2:=zjk (h t (by simp))
  simp only [zbX,List.flatMap_cons,List.length_append,List.length_cons] at h1 ⊢;omega
theorem zqx {l:List Tag} (hs:RTags ro h [.sl 2 a l.length c] l F) (hp:∀ t∈l,zbj t.time t.place=true) (hn:l.length≤1048576):evl lo 356 [.agg [.sl 2 a l.length c]] h=some (.str (tx (zbX l)),h):=by
 refine zot (h':=h) ?_
 have loop:∀ m i,m+i=l.length→zco (List.length h) (tx (zbX (l.take i))) (i:Nat) a l.length c h=some (.str (tx (zbX l)),h):=by
  intro m
  induction m with
  | zero =>
   intro i hi
   have:i=l.length:=by omega
   subst this
   rw [zco.e,zaj (by omega),List.take_length]
  | succ m ih =>
   intro i hi
   have hlt:i<l.length:=by omega
   obtain ⟨o,ha,ho⟩:=hs.get hlt
   have hl:=zld (l:=l.take i) fun t ht=>hp t (List.mem_of_mem_take ht)
   have hl2:=zjk (hp _ (List.getElem_mem hlt))
   simp only [List.length_take] at hl
   rw [zco.e,zal (by omega),zho (by rw [zcC,zcC];simp only [List.length_singleton];omega),zab hlt]
   simp only [ha,zam,Int.toNat_natCast,ho,zad,zaa,zao]
   rw [zmR (hp _ (List.getElem_mem hlt))]
   simp only [zac,zdl]
   rw [zg5,zho (by rw [zcC,zcC];simp only [List.length_append,List.length_singleton];omega),zg5,zap (by omega),← ha]
   have e9:zbX (l.take (i+1))=zbX (l.take i) ++ [32]++zf8 l[i]:=by
    rw [List.take_add_one,List.getElem?_eq_getElem hlt]
    simp only [zbX,Option.toList,List.flatMap_append,List.flatMap_cons,List.flatMap_nil,List.append_nil,List.append_assoc,List.singleton_append]
   have:=ih (i+1) (by omega)
   rw [e9] at this
   exact this
 simpa [zbX] using loop l.length 0 (by omega)
theorem zdf {s:ByteArray} (h:zdX s=true):s.size≤8:=by
 simp only [zdX,Bool.and_eq_true,decide_eq_true_eq] at h;omega
theorem zmP {v:Ver} (hs:RTags ro h [.sl 2 a v.past.length c] v.past F) (hv:zbg v=true):evl lo 330 [.agg (v.cs a c)] h=some (.str (tx (zlc v)),h):=by
 obtain ⟨⟨k1,k2⟩,ht,_,hp,htg,_⟩:=zaA hv
 have h0:=zdf ht
 have h4:=zbq hp
 have h1:=zhP v.key.toNat
 have h2:=zjk htg
 have h3:=zld (zhF hp)
 rw [h4] at h3
 have e:=fun lo=>zqx (lo:=lo) hs (zhF hp) (by omega)
 have hts:(⟨⟨[61]⟩⟩:ByteArray)++v.text=tx (61 :: v.text.data.toList):=by rw [← zs8 v.text];exact zg5
 have key:∀ (r:List UInt8) {T:Type} (K:ByteArray→Heap→Option T),r.length≤9→(cal (evl (List.length h) 354 [.int .i64 v.key] h) fun v_1 h_2=>eT v_1 fun s_3=>cat s_3 ⟨⟨[32]⟩⟩ fun s_4=>cal (evl (List.length h) 355 [.agg [.int .i64 v.tag.time,.int .i64 v.tag.place]] h_2) fun v_5 h_6=>eT v_5 fun s_7=>cat s_4 s_7 fun s_8 =>
   cal (evl (List.length h) 356 [.agg [.sl 2 a v.past.length c]] h_6) fun v_9 h_10=>eT v_9 fun s_11=>cat s_8 s_11 fun s_12=>cat s_12 ⟨⟨[32]⟩⟩ fun s_13=>cat s_13 (tx r) fun s_14=>K s_14 h_10)=K (tx (zoJ v.key.toNat++32 ::(zf8 v.tag++zbX v.past++32 :: r))) h:=by
  intro r T K hr
  rw [zjg (by omega) (by omega)]
  simp only [zac,zdl]
  rw [zho (by rw [zcC,zcC];simp only [List.length_singleton];omega)]
  rw [zmR htg]
  simp only [zac,zdl]
  rw [zg5,zho (by rw [zcC,zcC];simp only [List.length_append,List.length_singleton];omega)]
  rw [e]
  simp only [zac,zdl]
  rw [zg5,zho (by rw [zcC,zcC];simp only [List.length_append,List.length_singleton];omega)]
  rw [zg5,zho (by rw [zcC,zcC];simp only [List.length_append,List.length_singleton];omega)]
  rw [zg5,zho (by rw [zcC,zcC];simp only [List.length_append,List.length_singleton];omega)]
  rw [zg5]
  simp
 refine zp4 (h':=h) ?_
 rw [zho (by rw [zcC];simp only [List.length_singleton];omega),hts]
 cases hg:v.gone
 ·rw [za5]
  refine (key (61 :: v.text.data.toList) (T:=V×Heap) (fun s h=>some (V.str s,h)) (by simp;omega)).trans ?_
  simp [zlc,zjl,hg]
 ·rw [zaN]
  refine (key [45] (T:=V×Heap) (fun s h=>some (V.str s,h)) (by simp)).trans ?_
  simp [zlc,zjl,hg]
theorem zqw {v u:Ver} (hs:RTags ro h [.sl 2 a v.past.length c] v.past F) (hs':RTags ro' h [.sl 2 a' u.past.length c'] u.past F') (hv:zbg v=true) (hu:zbg u=true) :
  evl lo 275 [.agg (v.cs a c),.agg (u.cs a' c')] h=some (.bool (zdO v u),h):=by
 refine zos (h':=h) ?_
 rw [zmP hs hv];simp only [zac,zdl]
 rw [zmP hs' hu];simp only [zac,zdl,zs7]
 rw [zqD hv hu]
 cases zdO v u<;>rfl
end
end Go.Proofs.YthdfojchihooeaaGreat
namespace Go.Proofs.YthdfojchihooeaaGreat
open Go T


theorem Sli.at {α:Type}{El:Rel α} (ok:El.Ok) {h:Heap}{R R' e n k lo:Nat}{a:Option (Nat×Nat)}{c:Option Nat}{l:List α}{F:List Nat} (hs:Sli false R e El h [.sl R' a n c] l F) (hk:k<l.length) (hnd:F.Nodup) (hlo:∀ b∈F,lo≤b) :
  ∃ b i rs row G,a=some (b,i)∧b∈F∧b∉G∧h[b]?=some (.rows R e false rs)∧rs[i+k]?=some row∧El h row l[k] G∧(∀ y∈G,y∈F)∧G.Nodup ∧
   (∀ h' x' G',Mv h G h' G'→El h' row x' G'→∃ F',Sli false R e El h' [.sl R' a n c] (l.set k x') F'∧Mv h F h' F') ∧
   (∀ h1 G1 j cs row' x',Mv h G h1 G1→paste row j cs=some row'→El h1 row' x' G1 →
    ∃ h2 F',st lo h1 b (i+k) j cs=some h2∧Sli false R e El h2 [.sl R' a n c] (l.set k x') F'∧Mv h F h2 F'∧h2[b]?=some (.rows R e false (rs.set (i+k) row'))∧(∀ y,y≠b→h2[y]?=h1[y]?)∧h2.length=h1.length):=by
 have hbd:=(Sli.ok ok).bd _ _ _ _ hs
 obtain ⟨b,i,rs,row,G,ha,hbF,hbG,hb,hrow,hel,hGF,hGn,put⟩:=hs.put ok.fr hk hnd
 have hblt:b<h.length:=hbd b hbF
 refine ⟨b,i,rs,row,G,ha,hbF,hbG,hb,hrow,hel,hGF,hGn,fun h' x' G' m hx=>?_,fun h1 G1 j cs row' x' m hp hx=>?_⟩
 ·obtain ⟨F',p1,p2,p3,_⟩:=put h' row x' G' (by rw [set_same hrow,m.fr b hblt hbG];exact hb) (fun y hy _ hyG=>m.fr y (hbd y hy) hyG) hx m.nd (fun y hy hyF=>by
   rcases m.sub y hy with h1 | h1
   ·exact h1
   ·have:=hbd y hyF;omega)
  refine ⟨F',p1,m.le,fun y hy hyF=>m.fr y hy fun hg=>hyF (hGF y hg),p3,fun y hy=>?_⟩
  rcases p2 y hy with h1 | h1
  ·exact .inl h1.1
  ·exact (m.sub y h1).imp (hGF y) id
 ·have hbG1:b∉G1:=fun hm=>by
   rcases m.sub b hm with h1 | h1
   ·exact hbG h1
   ·omega
  have hb1:h1[b]?=some (.rows R e false rs):=by rw [m.fr b hblt hbG];exact hb
  have hb1lt:b<h1.length:=Nat.lt_of_lt_of_le hblt m.le
  have e2:=zf5 hb1 (hlo b hbF) hrow hp
  have fr2:∀ y,y≠b→(h1.set b (.rows R e false (rs.set (i+k) row')))[y]?=h1[y]?:=fun y hy=>List.getElem?_set_ne (Ne.symm hy)
  obtain ⟨F',p1,p2,p3,_⟩:=put (h1.set b (.rows R e false (rs.set (i+k) row'))) row' x' G1 (by simp [hb1lt]) (fun y hy hyb hyG=>by rw [fr2 y hyb];exact m.fr y (hbd y hy) hyG)
   (ok.fr _ _ _ _ _ hx fun y hy=>fr2 y fun e=>hbG1 (e ▸ hy)) m.nd (fun y hy hyF=>by
   rcases m.sub y hy with h1 | h1
   ·exact h1
   ·have:=hbd y hyF;omega)
  refine ⟨_,F',e2,p1,⟨by simpa using m.le,fun y hy hyF=>?_,p3,fun y hy=>?_⟩,by simp [hb1lt],fr2,by simp⟩
  ·rw [fr2 y fun e=>hyF (e ▸ hbF)]
   exact m.fr y hy fun hg=>hyF (hGF y hg)
  ·rcases p2 y hy with h1 | h1
   ·exact .inl h1.1
   ·refine (m.sub y h1).imp (hGF y) fun h=>by simpa using h
def zbh (v u:Ver):Bool:=zkF v.tag.time v.tag.place u.tag.time u.tag.place
def zdo (s t:List Ver):Bool:=decide (s.length=t.length)&&(s.zip t).all fun x=>zdO x.1 x.2
theorem sameVers_iff {s t:List Ver}:zdo s t=true↔s=t:=by
 unfold zdo
 rw [Bool.and_eq_true,decide_eq_true_eq,List.all_eq_true]
 constructor
 ·rintro ⟨hl,hx⟩
  apply List.ext_getElem hl
  intro i h1 h2
  have:=hx (s[i],t[i]) (by rw [List.mem_iff_getElem];exact ⟨i,by simp;omega,by simp⟩)
  exact same_iff.1 this
 ·rintro rfl
  refine ⟨rfl,fun x hx=>?_⟩
  obtain ⟨i,hi,rfl⟩:=List.mem_iff_getElem.1 hx
  simp [same_iff]
def zeq (l:List Ver) (v:Ver):List Ver:=match l[v.key.toNat]? with
 | some x=>bif zbh x v then l.set v.key.toNat v else l
 | none=>l
theorem zjB {l:List Ver}{v:Ver} (h:v.key.toNat<l.length):zeq l v=bif zbh l[v.key.toNat] v then l.set v.key.toNat v else l:=by
 unfold zeq;rw [List.getElem?_eq_getElem h]
theorem addVer_len {l:List Ver}{v:Ver}:(zeq l v).length=l.length:=by
 unfold zeq
 split
 ·cases zbh _ v<;>simp
 ·rfl
theorem zuS {v:Ver} (h:zbg v=true):zg4 v.key.toNat v=true:=by
 have:=(zaA h).1
 unfold zg4
 rw [h,show (v.key==((v.key.toNat:Nat):Int))=true by rw [beq_iff_eq];omega];simp
theorem zgG {l:List Ver}{v:Ver} (hl:zaF l=true) (hv:zbg v=true):zaF (l.set v.key.toNat v)=true:=by
 have h4:=zaH hl
 unfold zaF
 rw [Bool.and_eq_true,List.all_eq_true,decide_eq_true_eq]
 refine ⟨fun x hx=>?_,by simpa using h4⟩
 rw [List.mem_zipIdx_iff_getElem?] at hx
 have hi:=(List.getElem?_eq_some_iff.1 hx).1
 rw [List.getElem?_set] at hx
 split at hx
 ·rename_i he
  split at hx
  ·injection hx with hx
   rw [← hx,← he];exact zuS hv
  ·cases hx
 ·rw [List.getElem?_eq_getElem (by simpa using hi)] at hx
  injection hx with hx
  rw [← hx]
  exact zcD hl _
theorem zqn {l:List Ver}{v:Ver} (hl:zaF l=true) (hv:zbg v=true):zaF (zeq l v)=true:=by
 unfold zeq
 split
 ·cases zbh _ v
  ·exact hl
  ·exact zgG hl hv
 ·exact hl
def zd5:List Ver→List Ver→Option (List Ver)
 | s,[]=>some s
 | s,v :: r=>match s[v.key.toNat]? with
  | some x=>bif zbh x v then zd5 (s.set v.key.toNat v) r else none
  | none=>none
def zvr (x:Node) (next:List Ver):Bool:=match zd5 next x.wait with
 | some s=>zdo s x.store
 | none=>false
def zb9 (x:Node):Bool:=zaF x.store&&decide ((x.wait.length:Int)≤6)&&x.wait.all zbg
def zfr (l:List Node) (k:Nat) (x:Node):Bool:=match l[k+1]? with
 | some y=>zvr x y.store
 | none=>decide (x.wait.length=0)
def zcF (l:List Node):Bool:=zak l.length 1 4&&l.all zb9&&l.zipIdx.all fun x=>zfr l x.2 x.1
theorem zav {x:Node} (h:zb9 x=true):zaF x.store=true∧x.wait.length≤6∧∀ v∈x.wait,zbg v=true:=by
 simp only [zb9,Bool.and_eq_true,decide_eq_true_eq,List.all_eq_true] at h
 exact ⟨h.1.1,by have:=h.1.2;omega,h.2⟩
section
variable {lo:Nat}{h:Heap}{F F':List Nat}{a a':Option (Nat×Nat)}{c c':Option Nat}
theorem zsy {l:List Ver}{v:Ver}{ro:Bool}{ca:Option (Nat×Nat)}{cc:Option Nat}{n:Nat} (hs:RVers ro h [.sl 6 a l.length c] l F) (hk:0≤v.key∧v.key<l.length) :
  evl lo 239 [.agg [.sl 6 a l.length c],.agg [.int .i64 v.key,.int .i64 v.tag.time,.int .i64 v.tag.place,.sl 2 ca n cc,.str v.text,.bool v.gone]] h=some (.bool (zbh (l[v.key.toNat]'(by omega)) v),h):=by
 refine zi6 (h':=h) ?_
 obtain ⟨o,s,b,d,G,ha,_,_,_,_,_,_,ho12,_⟩:=hs.all (show v.key.toNat<l.length by omega)
 rw [zdd ⟨by omega,by omega⟩,ha]
 simp only [zam,ho12,zad,zaa,zao,zj3,zac,zbi]
 unfold zbh
 cases zkF _ _ _ _<;>rfl
theorem zmk {l l':List Ver}{ro ro':Bool} (hs:RVers ro h [.sl 6 a l.length c] l F) (hs':RVers ro' h [.sl 6 a' l'.length c'] l' F') (hn:zcQ l) :
  evl lo 266 [.sl 6 a l.length c,.sl 6 a' l'.length c',.fn 233 []] h=some (.bool (zdo l l'),h):=by
 have hn1:=hn.1
 refine zb4 (h':=h) ?_
 unfold zdo
 by_cases hl:l.length=l'.length
 ·rw [show ((l.length:Int)==(l'.length:Int))=true by simp;omega,zaN,decide_eq_true hl]
  have hz:(l.zip l').length=l.length:=by simp;omega
  refine (zcx (p:=fun x:Ver×Ver=>zdO x.1 x.2) (l:=l.zip l') (fun i=>zai (List.length h) a' l'.length c' 233 [] false a l.length c (l.length:Nat) (i:Nat) h) (some (.bool false,h)) (some (.bool true,h)) (fun i hi=>?_) ?_).trans ?_
  ·have hil:i<l.length:=by omega
   have hil':i<l'.length:=by omega
   obtain ⟨o,s,b,d,G,ha,ho,es,hp,_⟩:=hs.get hil
   obtain ⟨o',s',b',d',G',ha',ho',es',hp',_⟩:=hs'.get hil'
   rw [zai.e,zal (by omega),zab hil]
   simp only [ha,ha',zam,Int.toNat_natCast,ho,ho',zad,zaa,es,es',zdl,zaS,zao,zab hil',zdz,List.append_nil]
   rw [zt5 hp hp' (hn.2 _ (List.getElem_mem hil)).1]
   simp only [zac,zbi,List.getElem_zip,zap (show i<9223372036854775807 by omega)]
   cases zdO l[i] l'[i]<;>simp
  ·rw [hz,zai.e,zaj (by omega)]
  ·cases (l.zip l').all fun x=>zdO x.1 x.2<;>rfl
 ·rw [show ((l.length:Int)==(l'.length:Int))=false by simp;omega,za5,decide_eq_false hl];rfl
theorem zlv {l l':List Ver}{ro ro':Bool} (hs:RVers ro h [.sl 6 a l.length c] l F) (hs':RVers ro' h [.sl 6 a' l'.length c'] l' F') (hn:zcQ l) :
  evl lo 240 [.agg [.sl 6 a l.length c],.agg [.sl 6 a' l'.length c']] h=some (.bool (zdo l l'),h):=by
 refine zjJ (h':=h) ?_
 rw [zmk hs hs' hn];simp only [zac,zbi]
 cases zdo l l'<;>rfl
theorem zjf {l:List Ver}{v:Ver}{av:Option (Nat×Nat)}{cv:Option Nat}{G:List Nat} (hs:RVers false h [.sl 6 a l.length c] l F) (hv:RTags false h [.sl 2 av v.past.length cv] v.past G)
  (hnd:F.Nodup) (hlo:∀ b∈F,lo≤b) (hl:lo≤h.length) (hk:0≤v.key∧v.key<l.length) (hn:v.past.length≤1048576) :
  ∃ h' F',evl lo 312 [.agg [.sl 6 a l.length c],.agg (v.cs av cv)] h=some (.agg [.sl 6 a l.length c],h')∧RVers false h' [.sl 6 a l.length c] (zeq l v) F'∧Mv h F h' F':=by
 have hkl:v.key.toNat<l.length:=by omega
 obtain ⟨o,s,b,d,G1,ha,_,_,_,_,_,_,ho12,_⟩:=hs.all hkl
 suffices hk:∃ h' F',_=some (V.agg [.sl 6 a l.length c],h')∧RVers false h' [.sl 6 a l.length c] (zeq l v) F'∧Mv h F h' F' from hk.imp fun h' hk=>hk.imp fun F' hk=>⟨zp6 hk.1,hk.2⟩
 rw [zdd ⟨by omega,by omega⟩]
 simp only [ha,zam,ho12,zad,zaa,zao,zbk,zac,zbi]
 rw [zjB hkl]
 show ∃ h' F',br (zbh l[v.key.toNat] v) _ _=_∧_
 cases hle:zbh l[v.key.toNat] v with
 | false=>exact ⟨h,F,rfl,by rw [← ha];exact hs,Mv.refl hnd⟩
 | true =>
  obtain ⟨b2,i2,rs,row,G2,ha2,hb2,hbG2,hbb,hrow,hel,hGF,hGn,_,wr⟩:=hs.at rver_ok hkl hnd hlo
  obtain ⟨a3,c3,h3,F3,e3,r3,m3⟩:=zcb (lo:=lo) (v:=v) hv hl hn
  have hab:o=(b2,i2):=by rw [ha] at ha2;injection ha2
  subst hab
  obtain ⟨h4,F4,e4,r4,m4,_⟩:=wr h3 F3 0 (v.cs a3 c3) (v.cs a3 c3) v (m3.wide (by simp)) (zdy (by obtain ⟨s,rfl,_⟩:=hel;rfl)) ⟨_,rfl,r3⟩
  rw [zaN,e3]
  simp only [zac,zbx,zad,zaa,zah,zdl,zaS,zao]
  rw [zdd ⟨by omega,by omega⟩,e4]
  exact ⟨h4,F4,rfl,by rw [← ha];exact r4,m4⟩
end
end Go.Proofs.YthdfojchihooeaaGreat
namespace Go.Proofs.YthdfojchihooeaaGreat
open Go T


theorem zsU {T:Type}{b:Bool}{x y:Option T}:br b x y=if b=true then x else y:=by cases b<;>rfl
theorem Sli.row {α:Type}{El:Rel α} (hfr:El.Fr) {R R' e n k lo b i:Nat} (hln:El.Ln R) {h:Heap}{c:Option Nat}{l:List α}{G Gx:List Nat}{row:List V}{x:α} (hs:Sli false R e El h [.sl R' (some (b,i)) n c] l (b :: G)) (hb:b∉G) (hk:k<l.length) (hlo:lo≤b)
  (hx:El h row x Gx) (hbx:b∉Gx):∃ h' G',st lo h b (i+k) 0 row=some h'∧Sli false R e El h' [.sl R' (some (b,i)) n c] (l.set k x) (b :: G')∧b∉G'∧h'.length=h.length∧∀ y,y≠b→h'[y]?=h[y]?:=by
 have hn:=hs.val
 subst hn
 obtain ⟨R1,a1,c1,e1,e2⟩:=hs
 injection e1 with e1 _;injection e1 with e0 e3 _ e4
 subst e0;subst e3;subst e4
 obtain ⟨hR,rs,Fs,g1,g2,g3,g4,g5,g6⟩:=e2
 injection g6 with _ g6
 subst g6
 obtain ⟨row0,G0,k1,k2,k3⟩:=g5.get (List.getElem?_eq_getElem hk)
 have hblt:b<h.length:=(List.getElem?_eq_some_iff.1 g1).1
 have hrow:rs[i+k]?=some row0:=by rw [List.getElem?_take_of_lt hk,List.getElem?_drop] at k1;exact k1
 have hp:paste row0 0 row=some row:=zdy (by rw [hln _ _ _ _ k3,hln _ _ _ _ hx])
 have fr2:∀ y,y≠b→(h.set b (.rows R e false (rs.set (i+k) row)))[y]?=h[y]?:=fun y hy=>List.getElem?_set_ne (Ne.symm hy)
 have hl1:((rs.set (i+k) row).drop i).take l.length=((rs.drop i).take l.length).set k row:=by
  rw [List.drop_set,if_neg (by omega),show i+k - i=k by omega,List.take_set]
 refine ⟨_,(Fs.set k Gx).flatten,zf5 g1 hlo hrow hp,⟨R',some (b,i),c,by simp,hR,rs.set (i+k) row,Fs.set k Gx,by simp [hblt],by simpa using g2,fun q hq=>by simpa using g3 q hq,g4,?_,rfl⟩,fun hm=>?_,by simp,fr2⟩
 ·rw [List.length_set,hl1]
  exact EAll.set (g5.fr hfr fun y hy=>fr2 y fun e=>hb (e ▸ hy)) (hfr _ _ _ _ _ hx fun y hy=>fr2 y fun e=>hbx (e ▸ hy))
 ·rcases zfM hm with h6 | h6
  ·exact hb h6
  ·exact hbx h6
theorem zwq {ro:Bool}:(RVer ro).Ln 6:=by rintro h cs x F ⟨s,rfl,_⟩;rfl
theorem zkO {v:Ver} (h:zeZ v=true):v=⟨0,⟨0,0⟩,[],⟨⟨[]⟩⟩,false⟩:=by
 obtain ⟨k,⟨t1,t2⟩,p,s,g⟩:=v
 simp only [zeZ,zep,Bool.and_eq_true,beq_iff_eq,decide_eq_true_eq,Bool.not_eq_true'] at h
 obtain ⟨⟨⟨⟨h1,h2,h3⟩,h4⟩,h5⟩,h6⟩:=h
 simp only [Ver.mk.injEq,Tag.mk.injEq]
 exact ⟨h1,⟨h2,h3⟩,List.eq_nil_of_length_eq_zero h4,ziU (by rw [zlO h5]),h6⟩
theorem zcO {i:Nat}{v:Ver} (h:zg4 i v=true):zeZ v=true∨(zbg v=true∧v.key=i):=by
 simp only [zg4,Bool.or_eq_true,Bool.and_eq_true,beq_iff_eq] at h;exact h
theorem zdV {v:Ver} (h:zeZ v=true):v.tag.time=0∧v.tag.place=0:=by rw [zkO h];exact ⟨rfl,rfl⟩
theorem zsd {l l':List Ver} (h:zcQ l) (hl:l'.length≤1048576) (hs:∀ v∈l',v∈l):zcQ l':=⟨hl,fun v hv=>h.2 v (hs v hv)⟩
theorem zhA {l:List Ver} (h:zaF l=true):zcQ l:=by
 refine ⟨by have:=zaH h;omega,fun v hv=>?_⟩
 obtain ⟨i,hi,rfl⟩:=List.mem_iff_getElem.1 hv
 rcases zcO (zcD h hi) with h1 | ⟨h1,_⟩
 ·rw [zkO h1];exact ⟨by simp,by show 0≤_;omega⟩
 ·obtain ⟨_,h2,_,h3,_⟩:=zaA h1
  have:=zdf h2
  have:=zbq h3
  omega
section
variable {lo:Nat}{h:Heap}{F F':List Nat}{a a':Option (Nat×Nat)}{c c':Option Nat}
theorem zpv {n:Int}:evl lo 118 [.int .i64 n] h=some (.bool (zak n 1 4),h):=zmA (h':=h) (by simp [zeu])
theorem zt6 {n k:Nat} (hn:n≤1048576):evl lo 123 [.agg [.sl 2 a n c],.int .i64 (k:Nat)] h=some (.bool (decide (k+1=n)),h):=by
 refine zjM (h':=h) ?_
 rw [wr (by omega) (by omega)]
 by_cases hk:k+1=n
 ·rw [show ((k:Int)==(n:Int) - 1)=true by rw [beq_iff_eq];omega,decide_eq_true hk];rfl
 ·rw [show ((k:Int)==(n:Int) - 1)=false by rw [beq_eq_false_iff_ne];omega,decide_eq_false hk];rfl
theorem zt8 {x:Node}{next:List Ver}{a1 a2 a3:Option (Nat×Nat)}{c1 c2 c3:Option Nat}{F1 F2 F3:List Nat} (hs1:RVers false h [.sl 6 a1 x.store.length c1] x.store F1) (hs2:RVers false h [.sl 6 a2 x.wait.length c2] x.wait F2)
  (hs3:RVers false h [.sl 6 a3 next.length c3] next F3) (hx:zb9 x=true) (hnx:zaF next=true) :
  evl lo 124 [.agg [.sl 6 a1 x.store.length c1,.sl 6 a2 x.wait.length c2],.agg [.sl 6 a3 next.length c3]] h=some (.bool (zvr x next),h):=by
 obtain ⟨hx1,hx2,hx3⟩:=zav hx
 obtain ⟨a5,c5,h5,F5,e5,r5,m5⟩:=zev (lo:=h.length) hs3 (Nat.le_refl _) (zhA hnx)
 have h4:=zaH hnx
 suffices hk:∃ h',_=some (V.bool (zvr x next),h') from hk.elim fun h' hk=>zku hk
 rw [e5];simp only [zac,zbx,zad,zah,zao]
 have loop:∀ m i s hh b j G,m+i=x.wait.length→zaF s=true→RVers false hh [.sl 6 (some (b,j)) s.length c5] s (b :: G)→b∉G→h.length≤b→Mv h [] hh [] →
   ∃ h',zbB (List.length h) false a2 x.wait.length c2 (x.wait.length:Nat) (i:Nat) a1 x.store.length c1 a2 x.wait.length c2 (some (b,j)) s.length c5 hh=some (V.bool (match zd5 s (x.wait.drop i) with | some s=>zdo s x.store | none=>false),h'):=by
  intro m
  induction m with
  | zero =>
   intro i s hh b j G hi hso hs hb hbl hm
   rw [zbB.e,zaj (by omega),zlv hs (hm.keep0 rvers_ok hs1) (zhA hso),show i=x.wait.length by omega,List.drop_length]
   simp only [zac,zbi,zd5]
   exact ⟨hh,by cases zdo s x.store<;>rfl⟩
  | succ m ih =>
   intro i s hh b j G hi hso hs hb hbl hm
   have hlt:i<x.wait.length:=by omega
   have hvo:=hx3 _ (List.getElem_mem hlt)
   have hk:=(zaA hvo).1
   have hs4:=zaH hso
   have hkl:x.wait[i].key.toNat<s.length:=by omega
   obtain ⟨o,sv,b',d',G',ha,ho,es,hp,hG'⟩:=(hm.keep0 rvers_ok hs2).get hlt
   have hbl2:=rvers_ok.bd _ _ _ _ hs2
   rw [zbB.e,zal (by omega),zab hlt]
   simp only [ha,zam,Int.toNat_natCast,ho,zad,zaa,es,zdl,zaS,zao]
   rw [zsy (v:=x.wait[i]) hs ⟨by omega,by omega⟩]
   simp only [zac,zbi]
   rw [List.drop_eq_getElem_cons hlt]
   simp only [zd5,List.getElem?_eq_getElem hkl]
   cases hle:zbh s[x.wait[i].key.toNat] x.wait[i] with
   | false=>exact ⟨hh,rfl⟩
   | true =>
    obtain ⟨h6,G6,e6,r6,n6,l6,f6⟩:=Sli.row rver_ok.fr zwq hs hb hkl hbl (row:=x.wait[i].cs b' d') (x:=x.wait[i]) ⟨_,rfl,hp⟩ (fun hm'=>by have:=hbl2 _ (hG' _ hm');omega)
    rw [zaN,zdd ⟨by omega,by omega⟩,e6,cond_true]
    simp only [zam]
    rw [← ha,zap (by omega)]
    have m6:Mv h [] h6 []:=⟨by rw [l6];exact hm.le,fun y hy hF=>by rw [f6 y (by omega)];exact hm.fr y hy hF,by simp,by simp⟩
    have:=ih (i+1) (s.set x.wait[i].key.toNat x.wait[i]) h6 b j G6 (by omega) (zgG hso hvo) (by rw [List.length_set];exact r6) n6 hbl m6
    rw [List.length_set] at this
    exact this
 have:∃ b j G,a5=some (b,j)∧F5=b :: G∧b∉G∧h.length≤b:=by
  obtain ⟨b,i,rs,Fs,h1,h2,_,_,_,_,rfl⟩:=r5.data (k:=0) (by omega)
  exact ⟨b,i,_,h1,rfl,(List.nodup_cons.1 m5.nd).1,m5.new b (by simp)⟩
 obtain ⟨b,j,G,rfl,rfl,hb,hbl⟩:=this
 have:=loop x.wait.length 0 next h5 b j G (by omega) hnx r5 hb hbl m5.drop
 exact this
theorem zj4 {l:List Node} (hs:RNodes false h [.sl 2 a l.length c] l F) (hn:zcW l):evl lo 40 [.agg [.sl 2 a l.length c]] h=some (.bool (zcF l),h):=by
 have hn1:=hn.1
 refine zmE (h':=h) ?_
 rw [zpv];simp only [zac,zbi]
 unfold zcF
 cases hw:zak (l.length:Int) 1 4 with
 | false=>rfl
 | true =>
  have hl4:1≤l.length∧l.length≤4:=by simp [zak] at hw;omega
  rw [zaN]
  refine (zcx (p:=zb9) (l:=l) (fun i=>zbF (List.length h) false a l.length c (l.length:Nat) (i:Nat) a l.length c h) (some (.bool false,h)) (zbF (List.length h) false a l.length c (l.length:Nat) (l.length:Nat) a l.length c h) (fun i hi=>?_) rfl).trans ?_
  ·obtain ⟨o,s1,s2,a1,c1,a2,c2,F1,F2,ha,ho,_,_,e1,e2,p1,p2,_⟩:=hs.get hi
   have hm:=hn.2 _ (List.getElem_mem hi)
   rw [zbF.e,zal (by omega),zab hi]
   simp only [ha,zam,Int.toNat_natCast,ho,zad,e1,e2,zao]
   rw [zpx p1 hm.1]
   simp only [zac,zbi]
   rw [zgZ (p:=fun v => !zbg v) p2 hm.2.1 (fun lo v av cv Gv hv hvp=>zkv (h':=h) (by rw [zjr hvp (hm.2.2 v hv)];simp only [zac,zbi];cases zbg v<;>rfl))]
   simp only [zac,zbi,zap (show i<9223372036854775807 by omega),← ha]
   unfold zb9
   rw [List.any_eq_not_all_not]
   simp only [Bool.not_not]
   by_cases h6:(l[i].wait.length:Int)≤6
   ·rw [zaj (by omega),decide_eq_true h6]
    cases zaF l[i].store<;>cases l[i].wait.all zbg<;>simp
   ·rw [zal (by omega),decide_eq_false h6]
    cases zaF l[i].store<;>simp
  ·cases hall:l.all zb9 with
   | false=>rfl
   | true =>
    rw [if_pos rfl,zbF.e,zaj (by omega)]
    have hno:=List.all_eq_true.1 hall
    refine (zhu (p:=zfr l) (l:=l) (fun i=>za7 (List.length h) false a l.length c (l.length:Nat) (i:Nat) a l.length c h) (some (.bool false,h)) (some (.bool true,h)) (fun i hi=>?_) ?_).trans ?_
    ·obtain ⟨o,s1,s2,a1,c1,a2,c2,F1,F2,ha,ho,_,_,e1,e2,p1,p2,_⟩:=hs.get hi
     have hm:=hn.2 _ (List.getElem_mem hi)
     rw [za7.e,zal (by omega),zab hi]
     simp only [ha,zam,Int.toNat_natCast,ho,zad,e1,e2,zao,zt6 hn1,zac,zbi]
     by_cases hk:i+1=l.length
     ·rw [decide_eq_true hk,zaN,zaN]
      unfold zfr
      rw [List.getElem?_eq_none (by omega)]
      simp only [zap (show i<9223372036854775807 by omega)]
      by_cases h0:l[i].wait.length=0
      ·rw [zaj (by omega),decide_eq_true h0];rfl
      ·rw [zal (by omega),decide_eq_false h0];rfl
     ·have hi1:i+1<l.length:=by omega
      obtain ⟨o',s1',s2',a1',c1',a2',c2',F1',F2',ha',_,ho1',_,e1',_,p1',_⟩:=hs.get hi1
      have hoo:o'=o:=by rw [ha] at ha';injection ha' with ha';exact ha'.symm
      subst hoo
      rw [decide_eq_false hk,za5]
      unfold zfr
      rw [List.getElem?_eq_getElem hi1]
      simp only [za5,zap (show i<9223372036854775807 by omega)]
      rw [zab hi1]
      simp only [Int.toNat_natCast,ho1',zam,zad,e1',zao]
      rw [zt8 p1 p2 p1' (hno _ (List.getElem_mem hi)) (zav (hno _ (List.getElem_mem hi1))).1]
      simp only [zac,zbi]
      exact zsU
    ·rw [za7.e,zaj (by omega)]
    ·cases (l.zipIdx.all fun x=>zfr l x.2 x.1)<;>simp
end
end Go.Proofs.YthdfojchihooeaaGreat
namespace Go.Proofs.YthdfojchihooeaaGreat
open Go T


theorem zbY {l:List Node} (h:zcF l=true):(1≤l.length∧l.length≤4)∧∀ x∈l,zb9 x=true:=by
 simp only [zcF,zak,Bool.and_eq_true,decide_eq_true_eq,List.all_eq_true] at h
 exact ⟨⟨by omega,by omega⟩,h.1.2⟩
theorem zj9 {l:List Node} (h:zcF l=true) {i:Nat} (hi:i<l.length):zfr l i l[i]=true:=by
 simp only [zcF,Bool.and_eq_true,List.all_eq_true] at h
 exact h.2 (l[i],i) (by rw [List.mem_zipIdx_iff_getElem?];simp [hi])
theorem zdT {α:Type}{p:Nat→α→Bool}{l:List α}:(l.zipIdx.all fun x=>p x.2 x.1)=true↔∀ i (hi:i<l.length),p i l[i]=true:=by
 rw [List.all_eq_true]
 constructor
 ·intro h i hi
  exact h (l[i],i) (by rw [List.mem_zipIdx_iff_getElem?];simp [hi])
 ·rintro h ⟨x,i⟩ hx
  rw [List.mem_zipIdx_iff_getElem?] at hx
  obtain ⟨hi,hx⟩:=List.getElem?_eq_some_iff.1 hx
  have:=h i hi
  simp only at hx
  rw [hx] at this;exact this
theorem zrh {α:Type}{p:α→Bool}{l:List α}:l.all p=true↔∀ i (hi:i<l.length),p l[i]=true:=by
 rw [List.all_eq_true]
 exact ⟨fun h i hi=>h _ (List.getElem_mem hi),fun h x hx=>by obtain ⟨i,hi,rfl⟩:=List.mem_iff_getElem.1 hx;exact h i hi⟩
def zgW (l:List Node) (k:Nat) (x:Node):Bool:=zb9 x&&match l[k+1]? with
 | some y=>zaF y.store&&zvr x y.store
 | none=>true
theorem zrd {l:List Node}:zcF l=((l.zipIdx.all fun x=>zgW l x.2 x.1)&&(zak l.length 1 4&&match l.getLast? with | some x=>decide (x.wait.length=0) | none=>false)):=by
 rw [Bool.eq_iff_iff]
 unfold zcF
 simp only [Bool.and_eq_true]
 rw [zdT (p:=zfr l),zdT (p:=zgW l),zrh (l:=l)]
 constructor
 ·rintro ⟨⟨h1,h2⟩,h3⟩
  have hl:1≤l.length:=by simp [zak] at h1;omega
  refine ⟨fun i hi=>?_,h1,?_⟩
  ·have:=h3 i hi
   unfold zfr at this
   unfold zgW
   rw [h2 i hi]
   by_cases hi1:i+1<l.length
   ·rw [List.getElem?_eq_getElem hi1] at this ⊢
    simp only at this
    simp only [this,(zav (h2 _ hi1)).1,Bool.and_self]
   ·rw [List.getElem?_eq_none (by omega)];rfl
  ·have:=h3 (l.length - 1) (by omega)
   unfold zfr at this
   rw [List.getElem?_eq_none (by omega)] at this
   rw [List.getLast?_eq_getElem?,List.getElem?_eq_getElem (by omega)]
   exact this
 ·rintro ⟨h1,h2,h3⟩
  have hno:∀ i (hi:i<l.length),zb9 l[i]=true:=fun i hi=>by
   have:=h1 i hi
   simp only [zgW,Bool.and_eq_true] at this;exact this.1
  refine ⟨⟨h2,hno⟩,fun i hi=>?_⟩
  have:=h1 i hi
  unfold zgW at this
  unfold zfr
  by_cases hi1:i+1<l.length
  ·rw [List.getElem?_eq_getElem hi1] at this ⊢
   simp only [Bool.and_eq_true] at this
   exact this.2.2
  ·rw [List.getElem?_eq_none (by omega)]
   rw [List.getLast?_eq_getElem?,List.getElem?_eq_getElem (by omega)] at h3
   have e:l.length - 1=i:=by omega
   simp only [e] at h3
   exact h3
section
variable {lo:Nat}{h:Heap}{F F':List Nat}{a a':Option (Nat×Nat)}{c c':Option Nat}
theorem zke {s t:List Ver} (hs:RVers false h [.sl 6 a s.length c] s F) (hs':RVers false h [.sl 6 a' t.length c'] t F') (h1:zaF s=true) (h2:zaF t=true) :
  evl lo 313 [.agg [.sl 6 a s.length c],.agg [.sl 6 a' t.length c']] h=some (.bool (zdo s t),h):=by
 have l1:=zaH h1
 have l2:=zaH h2
 have hz:(s.zip t).length=4:=by simp;omega
 refine ziZ (h':=h) ?_
 refine (zcx (p:=fun x:Ver×Ver=>zdO x.1 x.2) (l:=s.zip t) (fun i=>zaW (List.length h) false (i:Nat) a s.length c a' t.length c' h) (some (.bool false,h)) (some (.bool true,h)) (fun i hi=>?_) ?_).trans ?_
 ·have hi1:i<s.length:=by omega
  have hi2:i<t.length:=by omega
  obtain ⟨o,sv,b,d,G,ha,_,ho1,_,_,_,_,ho12,ho,es,hp,_⟩:=hs.all hi1
  obtain ⟨o',sv',b',d',G',ha',_,_,_,_,_,_,ho12',ho',es',hp',_⟩:=hs'.all hi2
  rw [zaW.e,zal (by omega),zab hi1]
  simp only [ha,ha',zam,Int.toNat_natCast,ho12,ho12',ho1,ho,ho',zad,zaa,es,es',zdl,zaS,zao,zab hi1,zab hi2,Bool.and_true,List.getElem_zip,zap (show i<9223372036854775807 by omega)]
  have g1:=zcO (zcD h1 hi1)
  have g2:=zcO (zcD h2 hi2)
  cases htag:(s[i].tag.time==t[i].tag.time&&s[i].tag.place==t[i].tag.place) with
  | false =>
   have:zdO s[i] t[i]=false:=by unfold zdO;rw [htag];simp
   rw [this,za5];rfl
  | true =>
   rw [zaN]
   by_cases htm:s[i].tag.time>0
   ·rw [zal htm]
    have o1:zbg s[i]=true:=by
     rcases g1 with g | g
     ·have:=zdV g;omega
     ·exact g.1
    have o2:zbg t[i]=true:=by
     rcases g2 with g | g
     ·have:=zdV g;simp at htag;omega
     ·exact g.1
    rw [zqw hp hp' o1 o2]
    simp only [zac,zbi]
    exact zsU
   ·rw [zaj htm]
    have o1:zeZ s[i]=true:=by
     rcases g1 with g | g
     ·exact g
     ·have:=zfB g.1;omega
    have o2:zeZ t[i]=true:=by
     rcases g2 with g | g
     ·exact g
     ·have:=zfB g.1;simp at htag;omega
    rw [if_pos (same_iff.2 (by rw [zkO o1,zkO o2]))]
 ·rw [hz,zaW.e,zaj (by omega)]
 ·unfold zdo
  rw [decide_eq_true (by omega)]
  cases (s.zip t).all fun x=>zdO x.1 x.2<;>rfl
theorem zqu {x y:Node}{a1 a2 a3 a4:Option (Nat×Nat)}{c1 c2 c3 c4:Option Nat}{F1 F2 F3:List Nat} (hs1:RVers false h [.sl 6 a1 x.store.length c1] x.store F1) (hs2:RVers false h [.sl 6 a2 x.wait.length c2] x.wait F2)
  (hs3:RVers false h [.sl 6 a3 y.store.length c3] y.store F3) (hx:zb9 x=true) (hy:zcQ y.store) {n4:Nat} :
  evl lo 222 [.agg [.sl 6 a1 x.store.length c1,.sl 6 a2 x.wait.length c2],.agg [.sl 6 a3 y.store.length c3,.sl 6 a4 n4 c4]] h=some (.bool (zaF y.store&&zvr x y.store),h):=by
 obtain ⟨hx1,hx2,hx3⟩:=zav hx
 suffices hk:∃ h',_=some (V.bool (zaF y.store&&zvr x y.store),h') from hk.elim fun h' hk=>zom hk
 rw [zh1 hs3 hy];simp only [zac,zbi]
 cases hyo:zaF y.store with
 | false=>exact ⟨h,rfl⟩
 | true =>
  obtain ⟨v5,h5,F5,e5,r5,m5⟩:=ze3 (lo:=h.length) hs3 (Nat.le_refl _) hy
  obtain ⟨a5,c5,es5,r5⟩:=r5.form
  rw [zaN,e5];simp only [zac,zbx,zad,es5,zao]
  have loop:∀ m i s hh G,m+i=x.wait.length→zaF s=true→RVers false hh [.sl 6 a5 s.length c5] s G→Mv h [] hh G →
    ∃ h',zcj (List.length h) false (i:Nat) a1 x.store.length c1 a2 x.wait.length c2 a5 s.length c5 hh=some (V.bool (match zd5 s (x.wait.drop i) with | some s=>zdo s x.store | none=>false),h'):=by
   intro m
   induction m with
   | zero =>
    intro i s hh G hi hso hs hm
    rw [zcj.e,zaj (by omega),zke hs (hm.keep0 rvers_ok hs1) hso hx1,show i=x.wait.length by omega,List.drop_length]
    simp only [zac,zbi,zd5]
    exact ⟨hh,by cases zdo s x.store<;>rfl⟩
   | succ m ih =>
    intro i s hh G hi hso hs hm
    have hlt:i<x.wait.length:=by omega
    have hvo:=hx3 _ (List.getElem_mem hlt)
    have hk:=(zaA hvo).1
    have hs4:=zaH hso
    have hkl:x.wait[i].key.toNat<s.length:=by omega
    obtain ⟨o,sv,b',d',G',ha,ho0,_,_,_,_,_,ho12,ho,es,hp,hG'⟩:=(hm.keep0 rvers_ok hs2).all hlt
    obtain ⟨o2,sv2,b2,d2,G2,ha2,_,_,_,_,_,_,ho122,_⟩:=hs.all hkl
    rw [zcj.e,zal (by omega),zab hlt]
    simp only [ha,zam,Int.toNat_natCast,ho0,zad,zaa,zao]
    rw [zdd ⟨by omega,by omega⟩]
    simp only [ha2,zam,ho122,zad,zaa,zao,zab hlt,ho12,zbk,zac,zbi]
    rw [List.drop_eq_getElem_cons hlt]
    simp only [zd5,List.getElem?_eq_getElem hkl]
    show ∃ h',br (zbh s[x.wait[i].key.toNat] x.wait[i]) _ _=_
    cases hle:zbh s[x.wait[i].key.toNat] x.wait[i] with
    | false=>exact ⟨hh,rfl⟩
    | true =>
     obtain ⟨h6,F6,e6,r6,m6⟩:=zjf (lo:=h.length) (v:=x.wait[i]) hs hp hm.nd (hm.ge (Nat.le_refl _) (by simp)) hm.le ⟨by omega,by omega⟩ (by have:=zbq (zaA hvo).2.2.2.1;omega)
     rw [zaN,cond_true]
     simp only [ho,zam,zad,zaa,es,zdl,zaS,zao]
     rw [← ha2,e6]
     simp only [zac,zbx,zad,zah,zao]
     rw [← ha,zap (by omega)]
     have hadd:zeq s x.wait[i]=s.set x.wait[i].key.toNat x.wait[i]:=by rw [zjB hkl,hle];rfl
     rw [hadd] at r6
     have:=ih (i+1) (s.set x.wait[i].key.toNat x.wait[i]) h6 F6 (by omega) (zgG hso hvo) (by rw [List.length_set];exact r6) (hm.trans m6)
     rw [List.length_set] at this
     exact this
  obtain ⟨h',e⟩:=loop x.wait.length 0 y.store h5 F5 (by omega) hyo r5 m5
  exact ⟨h',e⟩
theorem zth {l:List Node} (hs:RNodes false h [.sl 2 a l.length c] l F) (hn:zcW l):evl lo 111 [.agg [.sl 2 a l.length c]] h=some (.bool (zcF l),h):=by
 have hn1:=hn.1
 refine zrk (h':=h) ?_
 rw [zrd]
 have inner:∀ i (hi:i<l.length),zaF l[i].store=true→(l[i].wait.length:Int)≤6→zb5 (List.length h) false (i:Nat) 0 a l.length c h=if zgW l i l[i]=true then zb6 (List.length h) false ((i+1:Nat):Int) a l.length c h else some (.bool false,h):=by
  intro i hi hst h6
  obtain ⟨o,s1,s2,a1,c1,a2,c2,F1,F2,ha,ho,ho1,ho2,e1,e2,p1,p2,_⟩:=hs.get hi
  have hm:=hn.2 _ (List.getElem_mem hi)
  refine (zcx (p:=zbg) (l:=l[i].wait) (fun k=>zb5 (List.length h) false (i:Nat) (k:Nat) a l.length c h) (some (.bool false,h)) (zb5 (List.length h) false (i:Nat) (l[i].wait.length:Nat) a l.length c h) (fun k hk=>?_) rfl).trans ?_
  ·obtain ⟨o',s,b,d,G,ha',ho',es,hp,_⟩:=p2.get hk
   rw [zb5.e,zab hi]
   simp only [ha,zam,Int.toNat_natCast,ho2,zad,e2,zao]
   rw [zal (by omega),zab hi]
   simp only [e2,zab hk,ha',zam,ho',zad,zaa,es,zdl,zaS,zao]
   rw [zk5 hp (hm.2.2 _ (List.getElem_mem hk))]
   simp only [zac,zbi,zap (show k<9223372036854775807 by have:=hm.2.1;omega),← ha]
   exact zsU
  ·by_cases hall:l[i].wait.all zbg=true
   ·rw [if_pos hall,zb5.e,zab hi]
    simp only [ha,zam,Int.toNat_natCast,ho2,zad,e2,zao]
    rw [zaj (by omega)]
    have hno:zb9 l[i]=true:=by unfold zb9;rw [hst,decide_eq_true h6,hall];rfl
    rw [zap (by omega)]
    unfold zgW
    rw [hno]
    by_cases hi1:i+1<l.length
    ·obtain ⟨o',s1',s2',a1',c1',a2',c2',F1',F2',ha',ho',_,_,e1',e2',p1',p2',_⟩:=hs.get hi1
     have hoo:o'=o:=by rw [ha] at ha';injection ha' with ha';exact ha'.symm
     subst hoo
     rw [zal (by omega),zab hi]
     simp only [ho,zam,zad,e1,e2,zao,zab hi1,Int.toNat_natCast,ho',e1',e2']
     rw [zqu p1 p2 p1' hno (hn.2 _ (List.getElem_mem hi1)).1,List.getElem?_eq_getElem hi1]
     simp only [zac,zbi,Bool.true_and]
     exact zsU
    ·rw [zaj (by omega),List.getElem?_eq_none (by omega)];rfl
   ·rw [if_neg hall,if_neg]
    unfold zgW zb9
    simp [hall]
 refine (zhu (p:=zgW l) (l:=l) (fun i=>zb6 (List.length h) false (i:Nat) a l.length c h) (some (.bool false,h)) (some (.bool (zak l.length 1 4&&match l.getLast? with | some x=>decide (x.wait.length=0) | none=>false),h)) (fun i hi=>?_) ?_).trans ?_
 ·obtain ⟨o,s1,s2,a1,c1,a2,c2,F1,F2,ha,ho,ho1,ho2,e1,e2,p1,p2,_⟩:=hs.get hi
  have hm:=hn.2 _ (List.getElem_mem hi)
  rw [zb6.e,zal (by omega),zab hi]
  simp only [ha,zam,Int.toNat_natCast,ho1,zad,e1,zao]
  rw [zh1 p1 hm.1]
  simp only [zac,zbi]
  cases hst:zaF l[i].store with
  | false =>
   rw [if_neg (by unfold zgW zb9;simp [hst])];rfl
  | true =>
   rw [zaN,zab hi]
   simp only [ho2,zam,zad,e2,zao]
   by_cases h6:(l[i].wait.length:Int)≤6
   ·rw [zaj (by omega),← ha];exact inner i hi hst h6
   ·rw [zal (by omega),if_neg]
    unfold zgW zb9
    rw [decide_eq_false h6];simp
 ·rw [zb6.e,zaj (by omega),zbb]
  simp only [zac,zbi]
  cases hw:zak (l.length:Int) 1 4 with
  | false=>rfl
  | true =>
   have hl:1≤l.length:=by simp [zak] at hw;omega
   obtain ⟨o,s1,s2,a1,c1,a2,c2,F1,F2,ha,ho,ho1,ho2,e1,e2,p1,p2,_⟩:=hs.get (show l.length - 1<l.length by omega)
   rw [zaN,wr (by omega) (by omega),zdd ⟨by omega,by omega⟩,show ((l.length:Int) - 1).toNat=l.length - 1 by omega]
   simp only [ha,zam,ho2,zad,e2,zao]
   rw [List.getLast?_eq_getElem?,List.getElem?_eq_getElem (by omega)]
   simp only [Bool.true_and]
   by_cases h0:l[l.length - 1].wait.length=0
   ·rw [h0];rfl
   ·rw [show ((l[l.length - 1].wait.length:Int)==0)=false by rw [beq_eq_false_iff_ne];omega,decide_eq_false h0];rfl
 ·cases (l.zipIdx.all fun x=>zgW l x.2 x.1)<;>simp
end
end Go.Proofs.YthdfojchihooeaaGreat
namespace Go.Proofs.YthdfojchihooeaaGreat
open Go T


def zet (st:List Tag) (x:Node):Bool:=(x.store.all fun v => !decide (v.tag.time>0) || zcU v.past st)&&x.wait.all fun v=>zcU v.past st
def zd7 (l:List Node):Bool:=l.all (zet (zaO l))
def zd4 (l:List Node) (clock:Int):Bool:=match l[0]? with
 | some x=>x.store.all fun v=>decide (v.tag.time≤clock)
 | none=>false
def ziM (me:Int) (i:Nat) (l:List Ver):Bool:=ze5 i l&&(!((i:Int)==me) || decide (l.length=0))
def zan (p:Place):Bool:=zak p.me 0 2&&zak p.clock 0 999&&decide (p.got.length=3)&&zcF p.chain&&zd7 p.chain&&ze5 p.me p.log&&(p.got.zipIdx.all fun x=>ziM p.me x.2 x.1)&&zd4 p.chain p.clock
theorem zt9 {b:Bool}{h:Heap}:(if b=true then some (V.bool true,h) else some (V.bool false,h))=some (V.bool b,h):=by cases b<;>rfl
theorem zhR {l:List Node} (h:zcF l=true):zcW l:=by
 obtain ⟨h1,h2⟩:=zbY h
 refine ⟨by omega,fun x hx=>?_⟩
 obtain ⟨g1,g2,g3⟩:=zav (h2 x hx)
 refine ⟨zhA g1,by omega,fun v hv=>?_⟩
 obtain ⟨_,h2,_,h3,_⟩:=zaA (g3 v hv)
 have:=zdf h2
 have:=zbq h3
 omega
theorem zhB {l:List Node} (h:zcF l=true):(zaO l).length=4:=by
 obtain ⟨h1,h2⟩:=zbY h
 rw [zhJ (by omega)]
 simp only [zbN,List.length_map]
 exact zaH (zav (h2 _ (List.getElem_mem _))).1
theorem zeR {h:Heap}{b i j n R e:Nat}{ro:Bool}{rs:List (List V)}{row:List V} (hb:h[b]?=some (.rows R e ro rs)) (hi:rs[i]?=some row):ld h b i j n=cut row j n:=by
 simp [ld,Heap.rows?,hb,hi]
theorem zmH {x:Node} (h:zb9 x=true) {i:Nat} (hi:i<x.store.length) (ht:x.store[i].tag.time>0):x.store[i].past.length=4:=by
 rcases zcO (zcD (zav h).1 hi) with g | g
 ·have:=zdV g;omega
 ·exact zbq (zaA g.1).2.2.2.1
theorem zoQ {x:Node} (h:zb9 x=true) {i:Nat} (hi:i<x.wait.length):x.wait[i].past.length=4:=zbq (zaA ((zav h).2.2 _ (List.getElem_mem hi))).2.2.2.1
section
variable {lo:Nat}{h:Heap}{F F':List Nat}{a a':Option (Nat×Nat)}{c c':Option Nat}
theorem znD {l:List Node} (hs:RNodes false h [.sl 2 a l.length c] l F) (hc:zcF l=true):evl lo 248 [.agg [.sl 2 a l.length c]] h=some (.bool (zd7 l),h):=by
 obtain ⟨hl4,hno⟩:=zbY hc
 have hst:=zhB hc
 obtain ⟨v1,h1,F1,e1,r1,m1⟩:=zgJ (lo:=h.length) hs (Nat.le_refl _) (zhR hc) (by omega)
 obtain ⟨a3,c3,es3,r1⟩:=r1.form
 refine zlU (h':=h1) ?_
 rw [e1];simp only [zac,zbx,zad,es3,zao]
 have hs1:=m1.keep0 rnodes_ok hs
 refine (zcx (p:=zet (zaO l)) (l:=l) (fun i=>zbu (List.length h) false (i:Nat) a l.length c a3 (zaO l).length c3 h1) (some (.bool false,h1)) (some (.bool true,h1)) (fun i hi=>?_) ?_).trans ?_
 ·have hno:=hno _ (List.getElem_mem hi)
  have hsl:=zaH (zav hno).1
  have hwl:=(zav hno).2.1
  obtain ⟨o,s1,s2,b1,d1,b2,d2,G1,G2,ha,ho,ho1,ho2,e1,e2,p1,p2,_⟩:=hs1.get hi
  rw [zbu.e,zal (by omega)]
  refine (zcx (p:=fun v:Ver => !decide (v.tag.time>0) || zcU v.past (zaO l)) (l:=l[i].store) (fun k=>zbt (List.length h) false (i:Nat) (k:Nat) a l.length c a3 (zaO l).length c3 h1) (some (.bool false,h1)) (zbs (List.length h) false (i:Nat) 0 a l.length c a3 (zaO l).length c3 h1) (fun k hk=>?_) ?_).trans ?_
  ·obtain ⟨o',s,b,d,G,ha',ho',es,hp,_⟩:=p1.get hk
   rw [zbt.e,zal (by omega),zab hi]
   simp only [ha,zam,Int.toNat_natCast,ho1,zad,e1,zao,zab hk,ha',ho',zaa,es,zdl,zaS,zap (show k<9223372036854775807 by omega)]
   by_cases ht:l[i].store[k].tag.time>0
   ·rw [zal ht,zdY hp r1 (zmH hno hk ht) hst]
    simp only [zac,zbi,decide_eq_true ht,Bool.not_true,Bool.false_or,← ha]
    exact zsU
   ·rw [zaj ht,decide_eq_false ht,← ha];rfl
  ·rw [zbt.e,zaj (by omega)]
  ·unfold zet
   cases hall:l[i].store.all fun v:Ver => !decide (v.tag.time>0) || zcU v.past (zaO l) with
   | false=>rw [if_neg Bool.false_ne_true,Bool.false_and,if_neg Bool.false_ne_true]
   | true =>
    rw [if_pos rfl,Bool.true_and]
    refine zcx (p:=fun v:Ver=>zcU v.past (zaO l)) (l:=l[i].wait) (fun k=>zbs (List.length h) false (i:Nat) (k:Nat) a l.length c a3 (zaO l).length c3 h1) (some (.bool false,h1)) (zbu (List.length h) false ((i+1:Nat):Int) a l.length c a3 (zaO l).length c3 h1) (fun k hk=>?_) ?_
    ·obtain ⟨o',s,b,d,G,ha',_,_,_,ho3,_,_,_,_,es,hp,_⟩:=p2.all hk
     rw [zbs.e,zab hi]
     simp only [ha,zam,Int.toNat_natCast,ho2,zad,e2,zao]
     rw [zal (by omega),zab hi]
     simp only [e2,zab hk,ha',zam,ho3,zad,es,zao]
     rw [zdY hp r1 (zoQ hno hk) hst]
     simp only [zac,zbi,zap (show k<9223372036854775807 by omega),← ha]
     exact zsU
    ·rw [zbs.e,zab hi]
     simp only [ha,zam,Int.toNat_natCast,ho2,zad,e2,zao]
     rw [zaj (by omega),zap (by omega)]
 ·rw [zbu.e,zaj (by omega)]
 ·unfold zd7
  cases l.all (zet (zaO l))<;>rfl
theorem ztg {p:Place}{a1 a2 a3:Option (Nat×Nat)}{c1 c2 c3:Option Nat}{F1 F2 F3:List Nat} (hs1:RNodes false h [.sl 2 a1 p.chain.length c1] p.chain F1) (hs2:RVers false h [.sl 6 a2 p.log.length c2] p.log F2)
  (hs3:RVss false h [.sl 1 a3 p.got.length c3] p.got F3) (hn:zcc p):evl lo 136 [.agg (p.cs a1 c1 a2 c2 a3 c3)] h=some (.bool (zan p),h):=by
 refine zrj (h':=h) ?_
 simp only [zbb,zac,zbi]
 unfold zan
 cases zak p.me 0 2 with
 | false=>rfl
 | true =>
 cases zak p.clock 0 999 with
 | false=>rfl
 | true =>
 by_cases hg:¬ p.got.length=3
 ·rw [show ((p.got.length:Int)==3)=false by rw [beq_eq_false_iff_ne];omega,decide_eq_false hg];rfl
 have hg:p.got.length=3:=by omega
 rw [show ((p.got.length:Int)==3)=true by rw [beq_iff_eq];omega,decide_eq_true hg]
 simp only [zaN]
 rw [zth hs1 hn.1]
 simp only [zac,zbi]
 cases hc:zcF p.chain with
 | false=>rfl
 | true =>
 rw [zaN,znD hs1 hc]
 simp only [zac,zbi]
 cases zd7 p.chain with
 | false=>rfl
 | true =>
 rw [zaN,zmN hs2 hn.2.1]
 simp only [zac,zbi]
 cases ze5 p.me p.log with
 | false=>rfl
 | true =>
 obtain ⟨hl4,hno⟩:=zbY hc
 simp only [zaN,Bool.true_and,Bool.and_true]
 refine (zhu (p:=ziM p.me) (l:=p.got) (fun i=>zcy (List.length h) false (i:Nat) p.me p.clock a1 p.chain.length c1 a2 p.log.length c2 a3 p.got.length c3 p.fell h) (some (.bool false,h)) (some (.bool (zd4 p.chain p.clock),h)) (fun i hi=>?_) ?_).trans ?_
 ·obtain ⟨o,s,b,d,G,ha,ho,es,hp,_⟩:=hs3.get hi
  rw [zcy.e,zal (by omega),zab hi]
  simp only [ha,zam,Int.toNat_natCast,ho,zad,es,zao]
  rw [zmN hp (hn.2.2.2 _ (List.getElem_mem hi))]
  simp only [zac,zbi,zab hi,ho,zam,zad,es,zao,zap (show i<9223372036854775807 by omega),← ha]
  unfold ziM
  by_cases h0:p.got[i].length=0
  ·rw [zaj (by omega),decide_eq_true h0]
   cases ze5 i p.got[i]<;>cases ((i:Int)==p.me)<;>rfl
  ·rw [zal (by omega),decide_eq_false h0]
   cases ze5 i p.got[i]<;>cases ((i:Int)==p.me)<;>rfl
 ·obtain ⟨o,s1,s2,b1,d1,b2,d2,G1,G2,ha,ho,ho1,ho2,e1,e2,q1,q2,_⟩:=hs1.get (show 0<p.chain.length by omega)
  have hsl:=zaH (zav (hno _ (List.getElem_mem (show 0<p.chain.length by omega)))).1
  rw [zcy.e,zaj (by omega),show (0:Int)=((0:Nat):Int) from rfl,zab (by omega)]
  simp only [ha,zam,ho1,zad,e1,zao]
  unfold zd4
  rw [List.getElem?_eq_getElem (show 0<p.chain.length by omega)]
  refine (zcx (p:=fun v:Ver=>decide (v.tag.time≤p.clock)) (l:=p.chain[0].store) (fun k=>zcZ (List.length h) false (k:Nat) p.me p.clock (some o) p.chain.length c1 a2 p.log.length c2 a3 p.got.length c3 p.fell b1 p.chain[0].store.length d1 h) (some (.bool false,h)) (some (.bool true,h)) (fun k hk=>?_) ?_).trans ?_
  ·obtain ⟨o',s,b,d,G,ha',_,ho1',_⟩:=q1.all hk
   rw [zcZ.e,zal (by omega),zab hk]
   simp only [ha',zam,Int.toNat_natCast,ho1',zad,zaa,zao,zap (show k<9223372036854775807 by omega)]
   by_cases ht:p.chain[0].store[k].tag.time≤p.clock
   ·rw [zaj (by omega),decide_eq_true ht];rfl
   ·rw [zal (by omega),decide_eq_false ht];rfl
  ·rw [zcZ.e,zaj (by omega)]
  ·exact zt9
 ·cases (p.got.zipIdx.all fun x=>ziM p.me x.2 x.1)<;>cases zd4 p.chain p.clock<;>rfl
end
end Go.Proofs.YthdfojchihooeaaGreat
namespace Go.Proofs.YthdfojchihooeaaGreat
open Go T


theorem zxH {α:Type}{p:Nat→α→Bool}{l:List α}{h0:Heap} (L:Nat→Heap→Option (V×Heap)) (res:Bool)
  (step:∀ i (hi:i<l.length) hh,Mv h0 [] hh []→∃ h2,Mv hh [] h2 []∧L i hh=if p i l[i]=true then L (i+1) h2 else some (.bool false,h2))
  (done:∀ hh,Mv h0 [] hh []→∃ h2,L l.length hh=some (.bool res,h2)):∃ h',L 0 h0=some (.bool ((l.zipIdx.all fun x=>p x.2 x.1)&&res),h'):=by
 have loop:∀ m i hh,m+i=l.length→Mv h0 [] hh []→∃ h',L i hh=some (.bool (((l.zipIdx.drop i).all fun x=>p x.2 x.1)&&res),h'):=by
  intro m
  induction m with
  | zero =>
   intro i hh hi hm
   have:i=l.length:=by omega
   subst this
   obtain ⟨h2,e⟩:=done hh hm
   exact ⟨h2,by rw [e,List.drop_of_length_le (by simp)];rfl⟩
  | succ m ih =>
   intro i hh hi hm
   have hlt:i<l.length:=by omega
   obtain ⟨h2,m2,e⟩:=step i hlt hh hm
   rw [e,List.drop_eq_getElem_cons (show i<l.zipIdx.length by simpa using hlt),List.all_cons]
   simp only [List.getElem_zipIdx,Nat.zero_add]
   cases hp:p i l[i] with
   | false=>exact ⟨h2,by rw [if_neg Bool.false_ne_true];rfl⟩
   | true =>
    obtain ⟨h',e'⟩:=ih (i+1) h2 (by omega) (hm.trans m2)
    exact ⟨h',by rw [if_pos rfl,e'];rfl⟩
 exact loop l.length 0 h0 (by omega) Mv.nil
theorem zmX {α:Type}{El:Rel α}{R e:Nat}{h:Heap}{a:Option (Nat×Nat)}{c:Option Nat}{l:List α}{F:List Nat} (hs:Sli false R e El h [.sl R a l.length c] l F) :
  ∃ rows Fs,(∀ {T:Type} (K:List (List V)→Option T),zaq R h (.sl R a l.length c) K=K rows)∧EAll El h rows l Fs∧(∀ b∈Fs.flatten,b∈F)∧(F.Nodup→Fs.flatten.Nodup):=by
 obtain ⟨R',a',c',e1,e2⟩:=hs
 injection e1 with e1 _;injection e1 with e0 e3 _ e4
 subst e0;subst e3;subst e4
 cases a with
 | none =>
  obtain ⟨rfl,_,_⟩:=e2
  exact ⟨[],[],fun K=>rfl,trivial,by simp,by simp⟩
 | some q =>
  obtain ⟨b,i⟩:=q
  obtain ⟨hR,rs,Fs,g1,g2,g3,g4,g5,rfl⟩:=e2
  refine ⟨_,Fs,fun K=>?_,g5,fun b hb=>by simp only [List.mem_cons];exact .inr hb,fun hn=>(List.nodup_cons.1 hn).2⟩
  simp only [zaq,ziX,zgt]
  cases hl:l.length with
  | zero=>simp
  | succ n=>simp only [zeS,Heap.rows?,g1,Option.bind_some,zfS (show i+(n+1)≤rs.length by omega),zam]
def zgc (v:Ver):Bool:=v.tag.time==0&&v.tag.place==0
def zh2 (st:List Tag) (clock:Int) (k:Nat) (v:Ver):Bool:=(zgc v || zcU v.past st)&&(!decide (k=0) || decide (v.tag.time≤clock))
theorem zst {v u:Ver} (h:zbh v u=true):v.tag.time≤u.tag.time:=by
 simp [zbh,zkF] at h;omega
theorem zne:∀ {w s t:List Ver},zd5 s w=some t→s.length=t.length∧(∀ k (h1:k<s.length) (h2:k<t.length),s[k].tag.time≤t[k].tag.time)∧∀ v∈w,∃ h2:v.key.toNat<t.length,v.tag.time≤t[v.key.toNat].tag.time
 | [],s,t,h=>by injection h with h;subst h;exact ⟨rfl,fun k _ _=>Int.le_refl _,by simp⟩
 | v :: w,s,t,h=>by
  simp only [zd5] at h
  by_cases hk:v.key.toNat<s.length
  ·rw [List.getElem?_eq_getElem hk] at h
   cases hl:zbh s[v.key.toNat] v with
   | false=>simp [hl] at h
   | true =>
    simp only [hl,cond_true] at h
    obtain ⟨i1,i2,i3⟩:=zne h
    rw [List.length_set] at i1
    have ht:=zst hl
    refine ⟨i1,fun k h1 h2=>?_,fun u hu=>?_⟩
    ·have:=i2 k (by simpa using h1) h2
     rw [List.getElem_set] at this
     split at this
     ·rename_i he;subst he;omega
     ·exact this
    ·rcases List.mem_cons.1 hu with rfl | hu
     ·have:=i2 u.key.toNat (by simpa using hk) (by omega)
      rw [List.getElem_set_self] at this
      exact ⟨by omega,this⟩
     ·exact i3 u hu
  ·rw [List.getElem?_eq_none (by omega)] at h;cases h
theorem zh4 {x:Node} (h:zb9 x=true) {v:Ver} (hv:v∈x.store):zgc v = !decide (v.tag.time>0):=by
 obtain ⟨i,hi,rfl⟩:=List.mem_iff_getElem.1 hv
 rcases zcO (zcD (zav h).1 hi) with g | g
 ·have:=zdV g
  unfold zgc;rw [this.1,this.2];rfl
 ·have:=zfB g.1
  unfold zgc
  rw [decide_eq_true this,show (x.store[i].tag.time==0)=false by rw [beq_eq_false_iff_ne];omega];rfl
theorem zr2 {v:Ver} (h:zbg v=true):zgc v=false:=by
 have:=zfB h
 unfold zgc
 rw [show (v.tag.time==0)=false by rw [beq_eq_false_iff_ne];omega];rfl
theorem zsT {l:List Node}{clock:Int} (hc:zcF l=true):(l.zipIdx.all fun x=>(x.1.store++x.1.wait).all (zh2 (zaO l) clock x.2))=(zd7 l&&zd4 l clock):=by
 obtain ⟨hl4,hno⟩:=zbY hc
 rw [Bool.eq_iff_iff,Bool.and_eq_true]
 rw [zdT (p:=fun i (x:Node)=>(x.store++x.wait).all (zh2 (zaO l) clock i))]
 unfold zd7 zd4
 rw [List.getElem?_eq_getElem (show 0<l.length by omega),zrh]
 simp only [List.all_append,Bool.and_eq_true,List.all_eq_true]
 constructor
 ·intro hx
  refine ⟨fun i hi=>?_,fun v hv=>?_⟩
  ·have hi':=hno _ (List.getElem_mem hi)
   unfold zet
   simp only [Bool.and_eq_true,List.all_eq_true]
   refine ⟨fun v hv=>?_,fun v hv=>?_⟩
   ·have:=(hx i hi).1 v hv
    simp only [zh2,Bool.and_eq_true] at this
    rw [← zh4 hi' hv];exact this.1
   ·have:=(hx i hi).2 v hv
    simp only [zh2,Bool.and_eq_true,zr2 ((zav hi').2.2 v hv),Bool.false_or] at this
    exact this.1
  ·have:=(hx 0 (by omega)).1 v hv
   simp only [zh2,Bool.and_eq_true] at this
   simpa using this.2
 ·rintro ⟨h1,h2⟩ i hi
  have hi':=hno _ (List.getElem_mem hi)
  have h3:=h1 i hi
  unfold zet at h3
  simp only [Bool.and_eq_true,List.all_eq_true] at h3
  refine ⟨fun v hv=>?_,fun v hv=>?_⟩
  ·unfold zh2
   rw [zh4 hi' hv,h3.1 v hv,Bool.true_and]
   by_cases h0:i=0
   ·subst h0;simpa using h2 v hv
   ·simp [h0]
  ·unfold zh2
   rw [h3.2 v hv,Bool.or_true,Bool.true_and]
   by_cases h0:i=0
   ·subst h0
    have hlk:=zj9 hc hi
    unfold zfr at hlk
    by_cases h10:0+1<l.length
    ·rw [List.getElem?_eq_getElem h10] at hlk
     simp only [zvr] at hlk
     cases hf:zd5 l[0+1].store l[0].wait with
     | none=>simp [hf] at hlk
     | some t =>
      simp only [hf] at hlk
      have e:=sameVers_iff.1 hlk
      obtain ⟨_,_,g3⟩:=zne hf
      obtain ⟨g4,g5⟩:=g3 v hv
      have:=h2 (l[0].store[v.key.toNat]'(by rw [← e];exact g4)) (List.getElem_mem _)
      simp only [decide_eq_true_eq] at this
      simp only [← e] at this
      simp only [decide_true,Bool.not_true,Bool.false_or,decide_eq_true_eq]
      omega
    ·rw [List.getElem?_eq_none (by omega)] at hlk
     simp only [decide_eq_true_eq] at hlk
     have:l[0].wait = []:=List.eq_nil_of_length_eq_zero hlk
     rw [this] at hv;simp at hv
   ·simp [h0]
section
variable {lo:Nat}{h:Heap}{F F':List Nat}{a a':Option (Nat×Nat)}{c c':Option Nat}
theorem zlt {b i j:Nat}{l:List Node} (hld:ld h b i j 1=some [.sl 2 a l.length c]) (hs:RNodes false h [.sl 2 a l.length c] l F) (h0:0<l.length) (hn:l.length≤1048576) :
  ∃ a' c' G,evl lo 127 [.ptr (some (b,i,j))] h=some (.agg [.sl 6 a' (l[l.length - 1]'(by omega)).store.length c'],h)∧RVers false h [.sl 6 a' (l[l.length - 1]'(by omega)).store.length c'] (l[l.length - 1]'(by omega)).store G∧∀ y∈G,y∈F:=by
 obtain ⟨o,s1,s2,b1,d1,b2,d2,G1,G2,ha,ho,ho1,ho2,e1,e2,q1,q2,q3,_⟩:=hs.get (show l.length - 1<l.length by omega)
 refine ⟨b1,d1,G1,zjL ?_,q1,q3⟩
 simp only [Nat.add_zero,hld,zam,zad,zah,zao]
 rw [wr (by omega) (by omega),zdd ⟨by omega,by omega⟩,show ((l.length:Int) - 1).toNat=l.length - 1 by omega]
 simp only [ha,zam,ho1,zad,e1,zao]
theorem zwe {T:Type}{e R bytes b i len:Nat}{rs xs:List (List V)}{K:V→Heap→Option T} (hb:h[b]?=some (.rows R e false rs)) (hl:lo≤b) (hf:i+len+xs.length≤rs.length) (h0:0<bytes) (hsz:(len+xs.length)*bytes≤140737488355328) :
  app lo e R bytes (.sl R (some (b,i)) len none) xs h K=K (.sl R (some (b,i)) (len+xs.length) none) (h.set b (.rows R e false (rs.take (i+len)++xs++rs.drop (i+len+xs.length)))):=by
 cases xs with
 | nil =>
  simp only [app,List.length_nil,Nat.add_zero,List.append_nil,List.take_append_drop]
  rw [set_same hb]
 | cons x xs =>
  have hbl:Nat.blt 0 bytes=true:=by simpa [Nat.blt_eq] using h0
  have hsz':decide ((len+(x :: xs).length)*bytes≤ziG)=true:=decide_eq_true hsz
  have hown:Heap.own? lo e h b=some rs:=by simp only [Heap.own?,hb,zfS hl,ziX]
  have hst:zgn lo h b (i+len) (x :: xs)=some (h.set b (.rows R e false (rs.take (i+len)++(x :: xs)++rs.drop (i+len+(x :: xs).length)))):=by
   simp only [zgn,hb,zfS hl,zfS hf]
  simp only [app,hbl,hsz',zgt,ziX,hown,zam,zfS hf,hst]
theorem zqW {l1 l2:List Ver}{a1 a2:Option (Nat×Nat)}{c1 c2:Option Nat}{F1 F2:List Nat} (hs1:RVers false h [.sl 6 a1 l1.length c1] l1 F1) (hs2:RVers false h [.sl 6 a2 l2.length c2] l2 F2) (hl1:l1.length=4) (hl2:l2.length≤6) (hlo:lo≤h.length) :
  ∃ a' F' h',evl lo 142 [.sl 1 (some (h.length,0)) 2 (some 2)] (h ++ [.rows 1 72 false [[.sl 6 a1 l1.length c1],[.sl 6 a2 l2.length c2]]])=some (.sl 6 a' (l1++l2).length none,h') ∧
   RVers false h' [.sl 6 a' (l1++l2).length none] (l1++l2) F'∧Mv h [] h' []:=by
 have m0:Mv h [] (h ++ [.rows 1 72 false [[.sl 6 a1 l1.length c1],[.sl 6 a2 l2.length c2]]]) []:=Mv.snoc
 have hbB:(h ++ [Blk.rows 1 72 false [[.sl 6 a1 l1.length c1],[.sl 6 a2 l2.length c2]]])[h.length]?=some (.rows 1 72 false [[.sl 6 a1 l1.length c1],[.sl 6 a2 l2.length c2]]):=by simp
 have hBl:h.length<(h ++ [Blk.rows 1 72 false [[.sl 6 a1 l1.length c1],[.sl 6 a2 l2.length c2]]]).length:=by simp
 generalize hB:h ++ [Blk.rows 1 72 false [[.sl 6 a1 l1.length c1],[.sl 6 a2 l2.length c2]]]=B at *
 have r1:=m0.keep0 rvers_ok hs1
 have r2:=m0.keep0 rvers_ok hs2
 obtain ⟨n,hn⟩:∃ n,l1.length+l2.length=n+1:=⟨l1.length+l2.length - 1,by omega⟩
 have m1:Mv B [] (B ++ [.rows 6 65 false (List.replicate (n+1) [.int .i64 0,.int .i64 0,.int .i64 0,.sl 0 none 0 (some 0),.str ⟨⟨[]⟩⟩,.bool false])]) []:=Mv.snoc
 have hC0:(B ++ [Blk.rows 6 65 false (List.replicate (n+1) [V.int .i64 0,.int .i64 0,.int .i64 0,.sl 0 none 0 (some 0),.str ⟨⟨[]⟩⟩,.bool false])])[B.length]?=some (.rows 6 65 false (List.replicate (n+1) [.int .i64 0,.int .i64 0,.int .i64 0,.sl 0 none 0 (some 0),.str ⟨⟨[]⟩⟩,.bool false])):=by simp
 have zgi:evl lo 253 [.sl 0 none 0 (some 0),.int .i64 ((n+1:Nat):Int)] B=some (.sl 6 (some (B.length,0)) 0 none,B ++ [.rows 6 65 false (List.replicate (n+1) [.int .i64 0,.int .i64 0,.int .i64 0,.sl 0 none 0 (some 0),.str ⟨⟨[]⟩⟩,.bool false])]):=by
  refine zek ?_
  have e1:IntKind.i64.wrap (((0:Nat):Int) - ((0:Nat):Int))=0:=by decide
  have e2:IntKind.i64.wrap (((n+1:Nat):Int) - 0)=((n+1:Nat):Int):=by rw [wr (by omega) (by omega)];omega
  rw [zaj (by omega)]
  simp only [zam,e1,e2]
  rw [zal (by omega)]
  have e3:∀ {T:Type} (K:Option (Nat×Nat)→Nat→Option Nat→Option T),zaz none 0 (some 0) none (some (.int .i64 0)) none K=K none 0 (some 0):=by
   intro T K
   unfold zaz zgK zmT zoI
   simp only [zaa]
   rw [zd2 ⟨by decide,by decide⟩];rfl
  rw [e3,zfJ ⟨by omega,by omega⟩,Int.toNat_natCast,List.replicate_succ]
  simp only [app,show Nat.blt 0 72=true from rfl,zgt]
  rw [zfJ (by simp [ziG];omega)]
  simp only [zah]
  unfold zaz zgK zmT zoI
  simp only [zaa]
  rw [zd2 ⟨by omega,by omega⟩]
  simp [List.replicate_succ]
 have hBle:B.length<(B ++ [Blk.rows 6 65 false (List.replicate (n+1) [V.int .i64 0,.int .i64 0,.int .i64 0,.sl 0 none 0 (some 0),.str ⟨⟨[]⟩⟩,.bool false])]).length:=by simp
 generalize hC:B ++ [Blk.rows 6 65 false (List.replicate (n+1) [V.int .i64 0,.int .i64 0,.int .i64 0,.sl 0 none 0 (some 0),.str ⟨⟨[]⟩⟩,.bool false])]=C at *
 generalize hz : [V.int .i64 0,.int .i64 0,.int .i64 0,.sl 0 none 0 (some 0),.str ⟨⟨[]⟩⟩,.bool false]=z at hC0
 obtain ⟨rows1,Fs1,er1,ea1,sub1,_⟩:=zmX (m1.keep0 rvers_ok r1)
 have len1:=ea1.len.1
 have bd1:=fun y hy=>rvers_ok.bd _ _ _ _ r1 y (sub1 y hy)
 have frD:∀ y,y≠B.length→(C.set B.length (.rows 6 65 false ((List.replicate (n+1) z).take (0+0)++rows1++(List.replicate (n+1) z).drop (0+0+rows1.length))))[y]?=C[y]?:=fun y hy=>List.getElem?_set_ne (Ne.symm hy)
 have hD0:(C.set B.length (.rows 6 65 false ((List.replicate (n+1) z).take (0+0)++rows1++(List.replicate (n+1) z).drop (0+0+rows1.length))))[B.length]?=some (.rows 6 65 false (rows1++List.replicate l2.length z)):=by
  rw [List.getElem?_set_self hBle]
  simp only [Nat.add_zero,List.take_zero,List.nil_append,Nat.zero_add,List.drop_replicate]
  rw [show n+1 - rows1.length=l2.length by omega]
 have hDl:(C.set B.length (.rows 6 65 false ((List.replicate (n+1) z).take (0+0)++rows1++(List.replicate (n+1) z).drop (0+0+rows1.length)))).length=C.length:=by simp
 have e5:=fun {T:Type} (K:V→Heap→Option T)=>zwe (lo:=lo) (e:=65) (bytes:=72) (i:=0) (len:=0) (xs:=rows1) (K:=K) hC0 (by omega) (by simp;omega) (by decide) (by omega)
 generalize hD:C.set B.length (.rows 6 65 false ((List.replicate (n+1) z).take (0+0)++rows1++(List.replicate (n+1) z).drop (0+0+rows1.length)))=D at *
 have mD:Mv B [] D []:=⟨by omega,fun y hy _=>by rw [frD y (by omega)];exact m1.fr y hy (by simp),by simp,by simp⟩
 obtain ⟨rows2,Fs2,er2,ea2,sub2,_⟩:=zmX (mD.keep0 rvers_ok r2)
 have len2:=ea2.len.1
 have bd2:=fun y hy=>rvers_ok.bd _ _ _ _ r2 y (sub2 y hy)
 have e6:=fun {T:Type} (K:V→Heap→Option T)=>zwe (lo:=lo) (e:=65) (bytes:=72) (i:=0) (len:=4) (xs:=rows2) (K:=K) hD0 (by omega) (by simp;omega) (by decide) (by omega)
 have hDle:B.length<D.length:=by omega
 have hE0:(D.set B.length (.rows 6 65 false ((rows1++List.replicate l2.length z).take (0+4)++rows2++(rows1++List.replicate l2.length z).drop (0+4+rows2.length))))[B.length]?=some (.rows 6 65 false (rows1++rows2)):=by
  rw [List.getElem?_set_self hDle]
  rw [List.take_append_of_le_length (by omega),List.take_of_length_le (by omega),List.drop_of_length_le (by simp;omega),List.append_nil]
 have frE:∀ y,y≠B.length→(D.set B.length (.rows 6 65 false ((rows1++List.replicate l2.length z).take (0+4)++rows2++(rows1++List.replicate l2.length z).drop (0+4+rows2.length))))[y]?=D[y]?:=fun y hy=>List.getElem?_set_ne (Ne.symm hy)
 have hEl:(D.set B.length (.rows 6 65 false ((rows1++List.replicate l2.length z).take (0+4)++rows2++(rows1++List.replicate l2.length z).drop (0+4+rows2.length)))).length=D.length:=by simp
 generalize hE:D.set B.length (.rows 6 65 false ((rows1++List.replicate l2.length z).take (0+4)++rows2++(rows1++List.replicate l2.length z).drop (0+4+rows2.length)))=E at *
 have ldB:∀ {X:Heap} (k:Nat) {v:V},X[h.length]?=some (.rows 1 72 false [[.sl 6 a1 l1.length c1],[.sl 6 a2 l2.length c2]])→([[V.sl 6 a1 l1.length c1],[.sl 6 a2 l2.length c2]]:List (List V))[k]?=some [v]→ld X h.length k 0 1=some [v]:=fun k v hb hk=>by rw [zeR hb hk];rfl
 refine ⟨some (B.length,0),B.length ::(Fs1++Fs2).flatten,E,zel ?_,⟨6,some (B.length,0),none,by simp,rfl,rows1++rows2,Fs1++Fs2,hE0,by simp;omega,fun k hk=>(by cases hk),fun _=>rfl,?_,rfl⟩,⟨by omega,fun y hy _=>by rw [frE y (by omega),frD y (by omega),m1.fr y (by omega) (by simp)];exact m0.fr y hy (by simp),by simp,by simp⟩⟩
 ·have hBC:C[h.length]?=some (.rows 1 72 false [[.sl 6 a1 l1.length c1],[.sl 6 a2 l2.length c2]]):=by rw [m1.fr _ hBl (by simp)];exact hbB
  have hBD:D[h.length]?=some (.rows 1 72 false [[.sl 6 a1 l1.length c1],[.sl 6 a2 l2.length c2]]):=by rw [frD _ (by omega)];exact hBC
  have w1:IntKind.i64.wrap (0+(l1.length:Int))=(l1.length:Int):=by rw [wr (by omega) (by omega)];omega
  have w2:IntKind.i64.wrap ((l1.length:Int)+(l2.length:Int))=((n+1:Nat):Int):=by rw [wr (by omega) (by omega)];omega
  have w3:IntKind.i64.wrap (0+1)=1:=by decide
  have w4:IntKind.i64.wrap (1+1)=2:=by decide
  rw [zax.e,zal (by decide),zdd ⟨by decide,by decide⟩]
  simp only [zam,Nat.zero_add,show Int.toNat 0=0 from rfl]
  rw [ldB 0 hbB rfl]
  simp only [zam,zad,zao,zah,w1,w3]
  rw [zaj (by omega),zax.e,zal (by decide),zdd ⟨by decide,by decide⟩]
  simp only [zam,Nat.zero_add,show Int.toNat 1=1 from rfl]
  rw [ldB 1 hbB rfl]
  simp only [zam,zad,zao,zah,w2,w4]
  rw [zaj (by omega),zax.e,zaj (by decide),zgi]
  simp only [zac,zah]
  rw [zaw.e,zal (by decide),zdd ⟨by decide,by decide⟩]
  simp only [zam,Nat.zero_add,show Int.toNat 0=0 from rfl]
  rw [ldB 0 hBC rfl]
  simp only [zam,zad,zao,zah,w3]
  rw [er1,e5]
  simp only [zah]
  rw [zaw.e,zal (by decide),zdd ⟨by decide,by decide⟩]
  simp only [zam,Nat.zero_add,show Int.toNat 1=1 from rfl]
  rw [ldB 1 hBD rfl]
  simp only [zam,zad,zao,zah,w4]
  rw [er2,show rows1.length=4 by omega,e6]
  simp only [zah]
  rw [zaw.e,zaj (by decide)]
  rw [show 4+rows2.length=(l1++l2).length by simp;omega]
 ·rw [List.drop_zero,List.take_of_length_le (by simp;omega)]
  refine EAll.append (ea1.fr rver_ok.fr fun y hy=>?_) (ea2.fr rver_ok.fr fun y hy=>frE y ?_)
  ·have:=bd1 y hy
   rw [frE y (by omega),frD y (by omega)]
  ·have:=bd2 y hy;omega
end
end Go.Proofs.YthdfojchihooeaaGreat
namespace Go.Proofs.YthdfojchihooeaaGreat
open Go T


section
variable {lo:Nat}{h:Heap}{F F':List Nat}{a a':Option (Nat×Nat)}{c c':Option Nat}
theorem zhh {p:Place}{a1 a2 a3:Option (Nat×Nat)}{c1 c2 c3:Option Nat}{F1 F2 F3:List Nat} (hs1:RNodes false h [.sl 2 a1 p.chain.length c1] p.chain F1) (hs2:RVers false h [.sl 6 a2 p.log.length c2] p.log F2)
  (hs3:RVss false h [.sl 1 a3 p.got.length c3] p.got F3) (hn:zcc p):evl lo 52 [.agg (p.cs a1 c1 a2 c2 a3 c3)] h=some (.bool (zan p),h):=by
 suffices hk:∃ h',_=some (V.bool (zan p),h') from hk.elim fun h' hk=>zmD hk
 have m0:Mv h [] (h ++ [.rows 6 89 false [p.cs a1 c1 a2 c2 a3 c3]]) []:=Mv.snoc
 have hB0:(h ++ [Blk.rows 6 89 false [p.cs a1 c1 a2 c2 a3 c3]])[h.length]?=some (.rows 6 89 false [p.cs a1 c1 a2 c2 a3 c3]):=by simp
 have hBl:h.length<(h ++ [Blk.rows 6 89 false [p.cs a1 c1 a2 c2 a3 c3]]).length:=by simp
 generalize hB:h ++ [Blk.rows 6 89 false [p.cs a1 c1 a2 c2 a3 c3]]=B at *
 have r1:=m0.keep0 rnodes_ok hs1
 have r2:=m0.keep0 rvers_ok hs2
 have r3:=m0.keep0 rvss_ok hs3
 have ld1:∀ {X:Heap} (j:Nat) {v:V},X[h.length]?=some (.rows 6 89 false [p.cs a1 c1 a2 c2 a3 c3])→(p.cs a1 c1 a2 c2 a3 c3)[j]?=some v→ld X h.length 0 j 1=some [v]:=fun j v hb hv=>by
  rw [zeR hb rfl];exact zuB hv
 rw [ld1 0 hB0 rfl];simp only [zam,zad,zao,zaa]
 rw [zj2];simp only [zac,zbi]
 unfold zan
 cases zak p.me 0 2 with
 | false=>exact ⟨_,rfl⟩
 | true =>
 rw [zaN,ld1 1 hB0 rfl];simp only [zam,zad,zao,zaa]
 rw [zeu];simp only [zac,zbi]
 cases zak p.clock 0 999 with
 | false=>exact ⟨_,rfl⟩
 | true =>
 rw [zaN,ld1 2 hB0 rfl];simp only [zam,zad,zao,zah]
 rw [zj4 r1 hn.1];simp only [zac,zbi]
 cases hc:zcF p.chain with
 | false=>exact ⟨_,by rw [Bool.and_false];rfl⟩
 | true =>
 rw [zaN,ld1 3 hB0 rfl];simp only [zam,zad,zao,zah]
 rw [ld1 0 hB0 rfl];simp only [zam,zad,zao,zaa]
 rw [zm9 r2 hn.2.1];simp only [zac,zbi]
 cases ze5 p.me p.log with
 | false=>exact ⟨_,by rw [Bool.and_false];rfl⟩
 | true =>
 rw [zaN,ld1 4 hB0 rfl];simp only [zam,zad,zao,zah]
 by_cases hg:¬ p.got.length=3
 ·rw [show ((p.got.length:Int)==3)=false by rw [beq_eq_false_iff_ne];omega,decide_eq_false hg]
  exact ⟨_,by rw [Bool.and_false];rfl⟩
 have hg:p.got.length=3:=by omega
 rw [show ((p.got.length:Int)==3)=true by rw [beq_iff_eq];omega,decide_eq_true hg,zaN]
 obtain ⟨hl4,hno⟩:=zbY hc
 obtain ⟨at',ct,Gt,et,rt,_⟩:=zlt (lo:=h.length) (ld1 2 hB0 rfl) r1 (by omega) (by omega)
 rw [et];simp only [zac,zbx,zad,zah,zao]
 have hsl:=zaH (zav (hno _ (List.getElem_mem (show p.chain.length - 1<p.chain.length by omega)))).1
 obtain ⟨vg,hg1,Gg,eg,rg,mg⟩:=zpu (lo:=h.length) rt m0.le hsl
 obtain ⟨ag,cg,esg,rg⟩:=rg.form
 rw [← zhJ (by omega)] at rg esg
 have hst:=zhB hc
 rw [eg];simp only [zac,zbx,zad,esg,zao]
 have hG0:hg1[h.length]?=some (.rows 6 89 false [p.cs a1 c1 a2 c2 a3 c3]):=by rw [mg.fr _ hBl (by simp)];exact hB0
 rw [ld1 2 hG0 rfl];simp only [zam,zad,zao,zah]
 have r1':=mg.keep0 rnodes_ok r1
 have r3':=mg.keep0 rvss_ok r3
 have key:=zxH (p:=fun i (x:Node)=>(x.store++x.wait).all (zh2 (zaO p.chain) p.clock i)) (l:=p.chain) (h0:=hg1) (fun i hh=>zbE (List.length h) (List.length h) 0 0 false a1 p.chain.length c1 (p.chain.length:Nat) (i:Nat) ag (zaO p.chain).length cg hh)
  (p.got.zipIdx.all fun x=>ziM p.me x.2 x.1) (fun i hi hh hm=>by
   have hni:=hno _ (List.getElem_mem hi)
   obtain ⟨g1,g2,g3⟩:=zav hni
   obtain ⟨o,s1,s2,b1,d1,b2,d2,G1,G2,ha,ho,_,_,e1,e2,q1,q2,_⟩:=(hm.keep0 rnodes_ok r1').get hi
   obtain ⟨a5,F5,h5,e5,r5,m5⟩:=zqW (lo:=h.length) q1 q2 (zaH g1) g2 (Nat.le_trans (Nat.le_of_lt hBl) (Nat.le_trans mg.le hm.le))
   have hmh:Mv hg1 [] h5 []:=hm.trans m5
   have hH0:h5[h.length]?=some (.rows 6 89 false [p.cs a1 c1 a2 c2 a3 c3]):=by rw [hmh.fr _ (Nat.lt_of_lt_of_le hBl mg.le) (by simp)];exact hG0
   have rgs:=hmh.keep0 rtags_ok rg
   refine ⟨h5,m5,?_⟩
   rw [zbE.e,zal (by omega),zab hi]
   simp only [ha,zam,Int.toNat_natCast,ho,zad,e1,e2,zao]
   rw [e5]
   simp only [zac,zah]
   rw [← ha]
   have hlen:(p.chain[i].store++p.chain[i].wait).length≤10:=by rw [List.length_append,zaH g1];omega
   refine (zcx (p:=zh2 (zaO p.chain) p.clock i) (l:=p.chain[i].store++p.chain[i].wait) (fun k=>za6 (List.length h) (List.length h) 0 0 false (i:Nat) a1 p.chain.length c1 (p.chain.length:Nat) (i:Nat) a5 (p.chain[i].store++p.chain[i].wait).length none ((p.chain[i].store++p.chain[i].wait).length:Nat) (k:Nat) ag (zaO p.chain).length cg h5) (some (.bool false,h5)) (zbE (List.length h) (List.length h) 0 0 false a1 p.chain.length c1 (p.chain.length:Nat) ((i+1:Nat):Int) ag (zaO p.chain).length cg h5) (fun k hk=>?_) ?_).trans ?_
   ·obtain ⟨o',s,b,d,G,ha',ho',es,hp,_⟩:=r5.get hk
    rw [za6.e,zal (by omega),zab hk]
    simp only [ha',zam,Int.toNat_natCast,ho',zad,zaa,es,zdl,zaS,zao,Bool.and_true,zap (show k<9223372036854775807 by omega),Nat.zero_add]
    rw [ld1 1 hH0 rfl]
    simp only [zam,zad,zao,zaa]
    have hk0:((i:Int)==0)=decide (i=0):=by rw [Bool.eq_iff_iff,beq_iff_eq,decide_eq_true_eq];omega
    rw [hk0]
    have elem:zh2 (zaO p.chain) p.clock i (p.chain[i].store++p.chain[i].wait)[k]=((zgc (p.chain[i].store++p.chain[i].wait)[k] || zcU (p.chain[i].store++p.chain[i].wait)[k].past (zaO p.chain))&&(!decide (i=0) || decide ((p.chain[i].store++p.chain[i].wait)[k].tag.time≤p.clock))):=rfl
    have past4:zgc (p.chain[i].store++p.chain[i].wait)[k]=false→(p.chain[i].store++p.chain[i].wait)[k].past.length=4:=by
     intro hz
     have hmem:(p.chain[i].store++p.chain[i].wait)[k]∈p.chain[i].store++p.chain[i].wait:=List.getElem_mem hk
     rw [List.mem_append] at hmem
     rcases hmem with hmem | hmem
     ·obtain ⟨j,hj,ej⟩:=List.mem_iff_getElem.1 hmem
      rw [← ej] at hz ⊢
      exact zmH hni hj (by have:=zh4 hni (List.getElem_mem hj);rw [hz] at this;simpa using this)
     ·obtain ⟨j,hj,ej⟩:=List.mem_iff_getElem.1 hmem
      rw [← ej];exact zoQ hni hj
    rw [elem]
    generalize (p.chain[i].store++p.chain[i].wait)[k]=u at *
    have htm:∀ {T:Type} (x y:Option T),br (decide (u.tag.time>p.clock)) x y=br (!decide (u.tag.time≤p.clock)) x y:=by
     intro T x y
     by_cases ht:u.tag.time≤p.clock
     ·rw [zaj (by omega),decide_eq_true ht];rfl
     ·rw [zal (by omega),decide_eq_false ht];rfl
    simp only [htm]
    show br (zgc u) _ _=_
    cases hz:zgc u with
    | true =>
     cases decide (i=0)<;>cases decide (u.tag.time≤p.clock)<;>simp only [zaN,za5,Bool.not_true,Bool.not_false,Bool.true_and,Bool.false_and,Bool.and_true,Bool.and_false,Bool.true_or,Bool.false_or,Bool.or_true,Bool.or_false,cond_true,cond_false,if_true,if_false,Bool.false_eq_true]
    | false =>
     have hu4:=past4 hz
     rw [za5,zsx hp rgs (by omega) (by omega)]
     simp only [zac,zbi]
     rw [ld1 1 hH0 rfl]
     simp only [zam,zad,zao,zaa,htm]
     cases zcU u.past (zaO p.chain)<;>cases decide (i=0)<;>cases decide (u.tag.time≤p.clock)<;>simp only [zaN,za5,Bool.not_true,Bool.not_false,Bool.true_and,Bool.false_and,Bool.and_true,Bool.and_false,Bool.true_or,Bool.false_or,Bool.or_true,Bool.or_false,cond_true,cond_false,if_true,if_false,Bool.false_eq_true]
   ·rw [za6.e,zaj (by omega),zap (by omega)]
   ·rfl) (fun hh hm=>by
   have hH0:hh[h.length]?=some (.rows 6 89 false [p.cs a1 c1 a2 c2 a3 c3]):=by rw [hm.fr _ (Nat.lt_of_lt_of_le hBl mg.le) (by simp)];exact hG0
   have r3s:=hm.keep0 rvss_ok r3'
   refine ⟨hh,?_⟩
   rw [zbE.e,zaj (by omega)]
   simp only [Nat.zero_add]
   rw [ld1 4 hH0 rfl];simp only [zam,zad,zao,zah]
   refine (zhu (p:=ziM p.me) (l:=p.got) (fun i=>zbD (List.length h) (List.length h) 0 0 false a3 p.got.length c3 (p.got.length:Nat) (i:Nat) hh) (some (.bool false,hh)) (some (.bool true,hh)) (fun i hi=>?_) ?_).trans zt9
   ·obtain ⟨o,s,b,d,G,ha,ho,es,hp,_⟩:=r3s.get hi
    rw [zbD.e,zal (by omega),zab hi]
    simp only [ha,zam,Int.toNat_natCast,ho,zad,es,zao,Nat.add_zero]
    rw [zm9 hp (hn.2.2.2 _ (List.getElem_mem hi)),]
    simp only [zac,zbi]
    rw [ld1 0 hH0 rfl]
    simp only [zam,zad,zao,zaa,zap (show i<9223372036854775807 by omega)]
    unfold ziM
    by_cases h0:p.got[i].length=0
    ·rw [zaj (by omega),decide_eq_true h0]
     cases ze5 i p.got[i]<;>cases ((i:Int)==p.me)<;>rfl
    ·rw [zal (by omega),decide_eq_false h0]
     cases ze5 i p.got[i]<;>cases ((i:Int)==p.me)<;>rfl
   ·rw [zbD.e,zaj (by omega)])
 rw [zsT hc] at key
 obtain ⟨h',e⟩:=key
 refine ⟨h',e.trans ?_⟩
 cases zd7 p.chain<;>cases zd4 p.chain p.clock<;>cases (p.got.zipIdx.all fun x=>ziM p.me x.2 x.1)<;>rfl
end
end Go.Proofs.YthdfojchihooeaaGreat
namespace Go.Proofs.YthdfojchihooeaaGreat
open Go T


set_option maxRecDepth 100000
section
variable {h:Heap}
theorem zxj {α:Type}{El:Rel α}{bd:α→Prop}{n t e ee R:Nat}{xs:List V} (hu:Tryz.prog.underlying t=some (.slice e)) (hR:Tryz.prog.cellsOf e=R) (hel:∀ row,TV Tryz.prog h n e row→∃ x F,El h row x F∧bd x) (hx:TV Tryz.prog h (n+1) t xs) :
  ∃ l F,Sli true R ee El h xs l F∧l.length≤maxLen∧∀ x∈l,bd x:=by
 simp only [TV,hu] at hx
 obtain ⟨a,c,rs,rfl,⟨h2,_⟩,h3,h4⟩:=hx
 have all:∀ rs:List (List V),(∀ row∈rs,TV Tryz.prog h n e row)→∃ l Fs,EAll El h rs l Fs∧l.length=rs.length∧∀ x∈l,bd x:=by
  intro rs
  induction rs with
  | nil=>intro _;exact ⟨[],[],trivial,rfl,by simp⟩
  | cons r rs ih =>
   intro hr
   obtain ⟨l,Fs,g1,g2,g3⟩:=ih fun row hrow=>hr row (by simp [hrow])
   obtain ⟨x,F,g4,g5⟩:=hel r (hr r (by simp))
   exact ⟨x :: l,F :: Fs,⟨g4,g1⟩,by simp [g2],fun y hy=>by
    rcases List.mem_cons.1 hy with rfl | hy
    ·exact g5
    ·exact g3 y hy⟩
 obtain ⟨l,Fs,g1,g2,g3⟩:=all rs fun row hr=>(h3 row hr).2
 rcases h4 with rfl | ⟨b,rfl,hb⟩
 ·have:l = []:=List.eq_nil_of_length_eq_zero (by simpa using g2)
  subst this
  exact ⟨[],[],⟨R,a,c,by rw [hR];rfl,rfl,.inl ⟨rfl,rfl⟩⟩,Nat.zero_le _,by simp⟩
 ·refine ⟨l,b :: Fs.flatten,⟨R,some (b,0),c,by rw [hR,g2],rfl,.inr ⟨b,0,rs,Fs,rfl,hb,by omega,?_,rfl⟩⟩,by omega,g3⟩
  rw [List.drop_zero,List.take_of_length_le (by omega)];exact g1
end
end Go.Proofs.YthdfojchihooeaaGreat
namespace Go.Proofs.YthdfojchihooeaaGreat
open Go T


def zdt (ro:Bool):Rel Place:=fun h cs p F=>∃ a1 c1 a2 c2 a3 c3,cs=p.cs a1 c1 a2 c2 a3 c3∧RPlace ro h cs p F
theorem zji {ro:Bool}:(zdt ro).Ok :=
 ⟨fun h h' cs p F ⟨a1,c1,a2,c2,a3,c3,e,hp⟩ hb=>⟨a1,c1,a2,c2,a3,c3,e,rplace_ok.fr _ _ _ _ _ hp hb⟩,fun h cs p F ⟨_,_,_,_,_,_,_,hp⟩=>rplace_ok.bd _ _ _ _ hp⟩
theorem ztN:∀ {l:List Tag},mkN zxJ l=2*l.length
 | []=>rfl
 | t :: l=>by
  have h1:=ztN (l:=l)
  have h2:mkN zxJ (t :: l)=2+mkN zxJ l:=by simp only [mkN,List.map_cons,List.sum_cons]
  rw [h2,h1,List.length_cons];omega
abbrev zvX:Ver:=⟨0,⟨0,0⟩,[],⟨⟨[]⟩⟩,false⟩
abbrev zoM:Place:=⟨0,0,[],[],[],false⟩
section
variable {lo:Nat}{h:Heap}{F F':List Nat}{a a':Option (Nat×Nat)}{c c':Option Nat}
end
end Go.Proofs.YthdfojchihooeaaGreat
namespace Go.Proofs.YthdfojchihooeaaGreat
open Go T


theorem Mv.swap {h h':Heap}{A B A' B':List Nat} (m:Mv h (A++B) h' (A'++B')):Mv h (B++A) h' (B'++A'):=by
 refine ⟨m.le,fun b hb hn=>m.fr b hb fun hm=>hn ?_,?_,fun b hb=>?_⟩
 ·rw [List.mem_append] at hm ⊢;exact hm.symm
 ·have:=m.nd
  rw [List.nodup_append] at this ⊢
  exact ⟨this.2.1,this.1,fun x hx y hy e=>this.2.2 y hy x hx e.symm⟩
 ·rw [List.mem_append] at hb
  refine (m.sub b (by rw [List.mem_append];exact hb.symm)).imp (fun h=>?_) id
  rw [List.mem_append] at h ⊢;exact h.symm
theorem zeN {α:Type}{El:Rel α} (ok:El.Ok) {h0 h1:Heap}{lo R e n bytes:Nat}{a:Option (Nat×Nat)}{c:Option Nat}{l:List α}{F:List Nat}{row:List V}{x:α}{G:List Nat} (hs:Sli false R e El h0 [.sl R a n c] l F) (hx:El h1 row x G) (m:Mv h0 [] h1 G)
  (hnd:F.Nodup) (hlo:∀ b∈F,lo≤b) (hl:lo≤h0.length) (hb:0<bytes) (hsz:(l.length+1)*bytes≤140737488355328) :
  ∃ a' c' h2 F',(∀ {T:Type} (K:V→Heap→Option T),app lo e R bytes (.sl R a n c) [row] h1 K=K (.sl R a' (l.length+1) c') h2)∧Sli false R e El h2 [.sl R a' (l.length+1) c'] (l ++ [x]) F'∧Mv h0 F h2 F':=by
 have hbd:=(Sli.ok ok).bd _ _ _ _ hs
 have hs1:=m.keep0 (Sli.ok ok) hs
 have hGb:=m.lt (by simp)
 obtain ⟨a',c',h2,F',p1,p2,p3,p4,p5,p6⟩:=Sli.push (lo:=lo) (bytes:=bytes) ok.fr hs1 (xs := [row]) (ys := [x]) (Gs := [G]) ⟨hx,trivial⟩ hb hsz hlo (Nat.le_trans hl m.le)
  (by
   rw [List.nodup_append]
   refine ⟨hnd,by simpa using m.nd,fun y hy z hz=>?_⟩
   rintro rfl
   have g1:=hbd y hy
   have g2:=m.new y (by simpa using hz)
   omega)
  (fun b hb'=>by
   have g1:=m.le
   rw [List.mem_append] at hb'
   rcases hb' with hb' | hb'
   ·have:=hbd b hb';omega
   ·exact hGb b (by simpa using hb')) (by simp)
 refine ⟨a',c',h2,F',p1,p2,Nat.le_trans m.le p3,fun b hb' hF=>?_,p6,fun b hb'=>?_⟩
 ·rw [p4 b (Nat.lt_of_lt_of_le hb' m.le) hF,m.fr b hb' (by simp)]
 ·have g1:=m.le
  rcases p5 b hb' with g | g
  ·rw [List.mem_append] at g
   rcases g with g | g
   ·exact .inl g
   ·have g2:=m.new b (by simpa using g)
    have g3:=hGb b (by simpa using g)
    exact .inr (by omega)
  ·exact .inr (by omega)
def zhf (l:List Node):List Node:=match l.getLast? with
 | some x=>l ++ [⟨x.store,[]⟩]
 | none=>l
def zct (l:List Node):Bool:=decide ((l.length:Int)<4)
def zdW (l:List Node):List Node:=bif zct l then zhf l else l
theorem zeV {l:List Node} (h0:0<l.length):zhf l=l ++ [⟨(l[l.length - 1]'(by omega)).store,[]⟩]:=by
 unfold zhf;rw [List.getLast?_eq_getElem?,List.getElem?_eq_getElem (by omega)]
def zkb (raw:List V) (p:Place) (r:List V):Prop:=∃ s1 s2 s3 a1 c1 a2 c2 a3 c3,raw = [.int .i64 p.me,.int .i64 p.clock,s1,s2,s3,.bool p.fell] ∧
 (∀ {T:Type} (K:Option (Nat×Nat)→Nat→Option Nat→Option T),eS 2 s1 K=K a1 p.chain.length c1)∧(∀ {T:Type} (K:Option (Nat×Nat)→Nat→Option Nat→Option T),eS 6 s2 K=K a2 p.log.length c2) ∧
 (∀ {T:Type} (K:Option (Nat×Nat)→Nat→Option Nat→Option T),eS 1 s3 K=K a3 p.got.length c3)∧r=p.cs a1 c1 a2 c2 a3 c3
theorem zlh {hh:Heap}:∃ raw r,raw = [.int .i64 0,.int .i64 0,.sl 0 none 0 (some 0),.sl 0 none 0 (some 0),.sl 0 none 0 (some 0),.bool false]∧zkb raw zoM r∧zdt false hh r zoM [] :=
 ⟨_,_,rfl,⟨_,_,_,none,some 0,none,some 0,none,some 0,rfl,fun K=>rfl,fun K=>rfl,fun K=>rfl,rfl⟩,⟨none,some 0,none,some 0,none,some 0,rfl,_,_,_,[],[],[],rfl,rfl,Sli.nil,Sli.nil,Sli.nil⟩⟩
theorem zgN {p:Place}{a1 a2 a3:Option (Nat×Nat)}{c1 c2 c3:Option Nat}:zkb (p.cs a1 c1 a2 c2 a3 c3) p (p.cs a1 c1 a2 c2 a3 c3) :=
 ⟨_,_,_,a1,c1,a2,c2,a3,c3,rfl,fun K=>zah _ _ _ _ _,fun K=>zah _ _ _ _ _,fun K=>zah _ _ _ _ _,rfl⟩
section
variable {lo:Nat}{h:Heap}{F F':List Nat}{a a':Option (Nat×Nat)}{c c':Option Nat}
theorem zuE {l:List Node}{n:Nat} (hs:RNodes false h [.sl 2 a n c] l F):evl lo 226 [.sl 2 a n c] h=some (.sl 2 a n (some n),h):=zem (by rw [zjW hs])
theorem zh7 {l:List Node} (hs:RNodes false h [.sl 2 a l.length c] l F) (h0:0<l.length) (hn:zcW l) (hnd:F.Nodup) (hlo:∀ b∈F,lo≤b) (hl:lo≤h.length) :
  ∃ a' c' h' F',evl lo 130 [.agg [.sl 2 a l.length c]] h=some (.agg [.sl 2 a' (l.length+1) c'],h')∧RNodes false h' [.sl 2 a' (l.length+1) c'] (zhf l) F'∧Mv h F h' F':=by
 have hn1:=hn.1
 obtain ⟨o,s1,s2,b1,d1,b2,d2,G1,G2,ha,ho,ho1,ho2,e1,e2,q1,q2,_⟩:=hs.get (show l.length - 1<l.length by omega)
 obtain ⟨v3,h3,F3,e3,r3,m3⟩:=ze3 (lo:=lo) q1 hl (hn.2 _ (List.getElem_mem _)).1
 obtain ⟨a4,c4,es4,r4⟩:=r3.form
 obtain ⟨a5,c5,h5,F5,e5,r5,m5⟩:=zeN (lo:=lo) (bytes:=48) (e:=76) rnode_ok hs (row := [.sl 6 a4 (l[l.length - 1]'(by omega)).store.length c4,.sl 0 none 0 (some 0)]) (x:=⟨(l[l.length - 1]'(by omega)).store,[]⟩) (G:=F3) (h1:=h3 ++ [.rows 2 76 false [[.sl 6 a4 (l[l.length - 1]'(by omega)).store.length c4,.sl 0 none 0 (some 0)]]])
  ⟨_,_,F3,[],rfl,by simp,Mv.snoc.keep0 rvers_ok r4,Sli.nil⟩ (m3.trans (Mv.snoc' m3.nd)) hnd hlo hl (by decide) (by omega)
 refine ⟨a5,c5,h5,F5,zoo ?_,by rw [zeV h0];exact r5,m5⟩
 rw [wr (by omega) (by omega),zdd ⟨by omega,by omega⟩,show ((l.length:Int) - 1).toNat=l.length - 1 by omega]
 simp only [ha,zam,ho1,zad,e1,zao]
 rw [e3];simp only [zac,zbx,zad,es4,zao,zaT]
 rw [← ha,e5];simp only [zah]
theorem zt7 {b i j R e:Nat}{rs:List (List V)}{row:List V}{l:List Node} (hb:h[b]?=some (.rows R e false rs)) (hrow:rs[i]?=some row) (hcell:row[j]?=some (.sl 2 a l.length c)) (hs:RNodes false h [.sl 2 a l.length c] l F) (h0:0<l.length) (hn:zcW l)
  (hnd:(b :: F).Nodup) (hlo:∀ y∈b :: F,lo≤y) (hl:lo≤h.length) :
  ∃ a' n' c' h' F',evl lo 129 [.ptr (some (b,i,j))] h=some (.bool (zct l),h')∧h'[b]?=some (.rows R e false (rs.set i (row.set j (.sl 2 a' n' c'))))∧RNodes false h' [.sl 2 a' n' c'] (zdW l) F'∧Mv h (b :: F) h' (b :: F'):=by
 have hn1:=hn.1
 have hblt:b<h.length:=(List.getElem?_eq_some_iff.1 hb).1
 have hld:ld h b i j 1=some [.sl 2 a l.length c]:=by rw [zeR hb hrow];exact zuB hcell
 unfold zdW zct
 by_cases h4:(l.length:Int)<4
 ·obtain ⟨at',ct,Gt,et,rt,_⟩:=zlt (lo:=h.length) hld hs h0 hn1
  obtain ⟨a3,c3,h3,F3,e3,r3,m3⟩:=zev (lo:=h.length) rt (Nat.le_refl _) (hn.2 _ (List.getElem_mem _)).1
  rw [List.nodup_cons] at hnd
  obtain ⟨a5,c5,h5,F5,e5,r5,m5⟩:=zeN (lo:=lo) (bytes:=48) (e:=76) rnode_ok hs (row := [.sl 6 a3 (l[l.length - 1]'(by omega)).store.length c3,.sl 0 none 0 (some 0)]) (x:=⟨(l[l.length - 1]'(by omega)).store,[]⟩) (G:=F3) (h1:=h3 ++ [.rows 2 76 false [[.sl 6 a3 (l[l.length - 1]'(by omega)).store.length c3,.sl 0 none 0 (some 0)]]])
   ⟨_,_,F3,[],rfl,by simp,Mv.snoc.keep0 rvers_ok r3,Sli.nil⟩ (m3.trans (Mv.snoc' m3.nd)) hnd.2 (fun y hy=>hlo y (by simp [hy])) hl (by decide) (by omega)
  have hb5:h5[b]?=some (.rows R e false rs):=by rw [m5.fr b hblt hnd.1];exact hb
  have hbF5:b∉F5:=fun hm=>by
   rcases m5.sub b hm with g | g
   ·exact hnd.1 g
   ·omega
  have hb5lt:b<h5.length:=Nat.lt_of_lt_of_le hblt m5.le
  have hjl:j<row.length:=(List.getElem?_eq_some_iff.1 hcell).1
  have e6:=zf5 hb5 (hlo b (by simp)) hrow (ztw (v := .sl 2 a5 (l.length+1) (some (l.length+1))) hjl)
  refine ⟨a5,l.length+1,some (l.length+1),h5.set b (.rows R e false (rs.set i (row.set j (.sl 2 a5 (l.length+1) (some (l.length+1)))))),F5,zgE ?_,by simp [hb5lt],?_,?_⟩
  ·simp only [Nat.add_zero,hld,zam,zad,zao,zah]
   rw [zaj (by omega),et];simp only [zac,zbx,zad,zah,zao]
   rw [e3];simp only [zac,zbx,zad,zah,zao,zaT]
   rw [e5];simp only [zah]
   rw [zuE r5];simp only [zac,zah]
   rw [e6];simp only [zam,decide_eq_true h4]
  ·rw [decide_eq_true h4,cond_true,zeV h0]
   exact rnodes_ok.fr _ _ _ _ _ r5.clip fun y hy=>List.getElem?_set_ne (show b≠y from fun e=>hbF5 (by rw [e];exact hy))
  ·refine ⟨by simpa using m5.le,fun y hy hF=>?_,by rw [List.nodup_cons];exact ⟨hbF5,m5.nd⟩,fun y hy=>?_⟩
   ·rw [List.mem_cons,not_or] at hF
    rw [List.getElem?_set_ne (Ne.symm hF.1)]
    exact m5.fr y hy hF.2
   ·rw [List.mem_cons] at hy
    rcases hy with rfl | hy
    ·exact .inl (by simp)
    ·refine (m5.sub y hy).imp (fun g=>by simp [g]) fun g=>by simpa using g
 ·refine ⟨a,l.length,c,h,F,zgE ?_,?_,?_,Mv.refl hnd⟩
  ·simp only [Nat.add_zero,hld,zam,zad,zao,zah]
   rw [zal (by omega),decide_eq_false h4]
  ·rw [set_same hcell,set_same hrow];exact hb
  ·rw [decide_eq_false h4];exact hs
end
end Go.Proofs.YthdfojchihooeaaGreat
namespace Go.Proofs.YthdfojchihooeaaGreat
open Go T


theorem zhm:∀ {row:List V}{n:Nat},row.length=n→cut row 0 n=some row
 | [],0,_=>rfl
 | v :: r,n+1,h=>by
  have h1:=zhm (row:=r) (n:=n) (by simpa using h)
  show (match cut r 0 n with | some l=>some (v :: l) | none=>none)=_
  rw [h1]
theorem zwb {p:Place}{a1 a2 a3 b1 b2 b3:Option (Nat×Nat)}{c1 c2 c3 d1 d2 d3:Option Nat} (h:p.cs a1 c1 a2 c2 a3 c3=p.cs b1 d1 b2 d2 b3 d3):a1=b1∧c1=d1∧a2=b2∧c2=d2∧a3=b3∧c3=d3:=by
 simp only [Place.cs,List.cons.injEq,V.sl.injEq,true_and,and_true] at h
 obtain ⟨⟨h1,h2⟩,⟨h3,h4⟩,h5,h6⟩:=h
 exact ⟨h1,h2,h3,h4,h5,h6⟩
def zg6 (p p':Place):Place:=bif zan p then p' else zoM
def ze6 (p:Place):Place:=⟨p.me,p.clock,zdW p.chain,p.log,p.got,p.fell⟩
theorem zd6 {p:Place} (h:zan p=true):0<p.chain.length:=by
 unfold zan at h
 simp only [Bool.and_eq_true] at h
 have:=(zbY h.1.1.1.1.2).1
 omega
theorem Mv.swapNil {h h':Heap}{A B:List Nat} (m:Mv h [] h' (A++B)):Mv h [] h' (B++A):=Mv.swap (A := []) (B := []) m
theorem zhp {b:Bool}{h:Heap}:br b (some (V.bool true,h)) (some (V.bool false,h))=some (V.bool b,h):=by cases b<;>rfl
theorem zwo:zcc zoM:=⟨⟨Nat.zero_le _,by simp⟩,⟨Nat.zero_le _,by simp⟩,⟨Nat.zero_le _,by simp⟩⟩
section
variable {lo:Nat}{h:Heap}{F F':List Nat}{a a':Option (Nat×Nat)}{c c':Option Nat}
theorem zmi {p p':Place}{cs l1:List V}{g:Nat}{ok:Bool} (hp:zdt false h cs p F) (hl:lo≤h.length) (hn:zcc p)
  (hg:zan p=true→∀ hh b row F1,h.length≤hh.length→Mv h [] hh []→zdt false hh row p F1→hh[b]?=some (.rows 6 89 false [row])→(b :: F1).Nodup→(∀ y∈b :: F1,h.length≤y) →
   ∃ hh' row' F1',evl lo g (zdz [.ptr (some (b,(0,0)))] l1) hh=some (.bool ok,hh')∧zdt false hh' row' p' F1'∧hh'[b]?=some (.rows 6 89 false [row'])∧Mv hh (b :: F1) hh' (b :: F1')) :
  ∃ raw r h' F',evl lo 133 [.agg cs,.fn g l1] h=some (.tup [.agg raw,.bool (zan p&&ok)],h')∧zkb raw (zg6 p p') r∧zdt false h' r (zg6 p p') F'∧Mv h [] h' F':=by
 obtain ⟨a1,c1,a2,c2,a3,c3,rfl,hp⟩:=hp
 obtain ⟨F1,F2,F3,_,h1,h2,h3⟩:=hp.cells
 suffices hk:∃ raw r h' F',_=some (V.tup [.agg raw,.bool (zan p&&ok)],h')∧zkb raw (zg6 p p') r∧zdt false h' r (zg6 p p') F'∧Mv h [] h' F' from by
  obtain ⟨raw,r,h',F',e,hr⟩:=hk
  exact ⟨raw,r,h',F',zks e,hr⟩
 rw [zhh h1 h2 h3 hn];simp only [zac,zbi]
 unfold zg6
 cases hpo:zan p with
 | false =>
  rw [za5]
  obtain ⟨raw,r,rfl,n1,n2⟩:=zlh (hh:=h)
  exact ⟨_,r,h,[],rfl,n1,n2,Mv.nil⟩
 | true =>
 obtain ⟨b1,d1,b2,d2,b3,d3,h4,F4,e4,r4,m4⟩:=zjs (lo:=lo) h1 h2 h3 hl hn
 rw [zaN,e4];simp only [zac,zbx,zad,zaa,zah,zaS,zao]
 have m5:Mv h4 [] (h4 ++ [.rows 6 89 false [p.cs b1 d1 b2 d2 b3 d3]]) [h4.length]:=Mv.last
 rw [zwn (row':=p.cs b1 d1 b2 d2 b3 d3) (Nat.le_trans hl m4.le) rfl (zdy (by simp [Place.cs]))]
 simp only [zam,List.set_cons_zero]
 have m45:=(m4.join m5 (rplace_ok.bd _ _ _ _ r4)).swapNil
 obtain ⟨h6,row6,F6,e6,r6,b6,m6⟩:=hg hpo (h4 ++ [.rows 6 89 false [p.cs b1 d1 b2 d2 b3 d3]]) h4.length _ F4 m45.le m45.drop ⟨_,_,_,_,_,_,rfl,m5.keep0 rplace_ok r4⟩ (by simp) m45.nd (fun y hy=>m45.new y hy)
 obtain ⟨b4,d4,b5,d5,b7,d7,rfl,r6'⟩:=id r6
 rw [e6];simp only [zac,zbi]
 have e7:ld h6 h4.length 0 0 6=some (p'.cs b4 d4 b5 d5 b7 d7):=by rw [zeR b6 rfl];exact zhm rfl
 have m7:Mv h [] h6 F6:=(m45.trans m6).lean (List.nodup_cons.1 m6.nd).2 fun b hb=>by simp [hb]
 rw [e7]
 simp only [zam,zad,zaa,zah,zaS,zao,cond_true]
 cases ok
 all_goals
  first | rw [zaN] | rw [za5]
  exact ⟨_,_,h6,F6,rfl,zgN,r6,m7⟩
theorem zjS {p:Place}{a1 a2 a3:Option (Nat×Nat)}{c1 c2 c3:Option Nat}{F1 F2 F3:List Nat} (hs1:RNodes false h [.sl 2 a1 p.chain.length c1] p.chain F1) (hs2:RVers false h [.sl 6 a2 p.log.length c2] p.log F2)
  (hs3:RVss false h [.sl 1 a3 p.got.length c3] p.got F3) (hl:lo≤h.length) (hn:zcc p) :
  ∃ raw a1' c1' a2' c2' a3' c3' h' F',evl lo 138 [.agg (p.cs a1 c1 a2 c2 a3 c3)] h=some (.agg raw,h')∧zkb raw p (p.cs a1' c1' a2' c2' a3' c3')∧RPlace false h' (p.cs a1' c1' a2' c2' a3' c3') p F'∧Mv h [] h' F':=by
 obtain ⟨vs,h',F',e,r,m⟩:=zqt (lo:=lo) hs1 hs2 hs3 hl hn
 obtain ⟨s1,s2,s3,G1,G2,G3,rfl,rfl,g1,g2,g3⟩:=r
 obtain ⟨x1,y1,es1,g1⟩:=g1.form
 obtain ⟨x2,y2,es2,g2⟩:=g2.form
 obtain ⟨x3,y3,es3,g3⟩:=g3.form
 exact ⟨_,x1,y1,x2,y2,x3,y3,h',_,e,⟨s1,s2,s3,x1,y1,x2,y2,x3,y3,rfl,fun K=>es1 K,fun K=>es2 K,fun K=>es3 K,rfl⟩,⟨_,_,_,G1,G2,G3,rfl,rfl,g1,g2,g3⟩,m⟩
theorem zmj {p:Place}{cs:List V} (hp:zdt false h cs p F) (hl:lo≤h.length) (hn:zcc p) :
  ∃ raw r h' F',evl lo 54 [.agg cs] h=some (.tup [.agg raw,.bool (zan p&&zct p.chain)],h')∧zkb raw (zg6 p (ze6 p)) r∧zdt false h' r (zg6 p (ze6 p)) F'∧Mv h [] h' F':=by
 obtain ⟨raw,r,h',F',e,n,rr,m⟩:=zmi (lo:=lo) (p':=ze6 p) (l1 := []) (g:=144) (ok:=zct p.chain) hp hl hn (fun hpo hh b row F1 hhl mm rp hb hnd hlo=>by
  obtain ⟨b1,d1,b2,d2,b3,d3,rfl,rp⟩:=rp
  obtain ⟨G1,G2,G3,rfl,g1,g2,g3⟩:=rp.cells
  have nd:=hnd
  rw [List.nodup_cons,List.nodup_append] at nd
  have hbn:b∉G1∧b∉G2++G3:=by have:=nd.1;rw [List.mem_append,not_or] at this;exact this
  obtain ⟨a9,n9,c9,h9,F9,e9,q9,r9,m9⟩:=zt7 (lo:=lo) (j:=2) hb (i:=0) rfl rfl g1 (zd6 hpo) hn.1 (by rw [List.nodup_cons];exact ⟨hbn.1,nd.2.1⟩) (fun y hy=>by
   have:=hlo y (by rw [List.mem_cons] at hy ⊢;rw [List.mem_append];exact hy.imp id .inl)
   omega) (by omega)
  have dis:∀ y∈G2++G3,y∉b :: G1:=fun y hy hm=>by
   rw [List.mem_cons] at hm
   rcases hm with rfl | hm
   ·exact hbn.2 hy
   ·exact nd.2.2.2 y hm y hy rfl
  obtain rfl:=r9.val
  have nd9:(G2++G3).Nodup:=nd.2.2.1
  have bd23:∀ y∈G2++G3,y<hh.length:=fun y hy=>by
   rw [List.mem_append] at hy
   exact hy.elim (rvers_ok.bd _ _ _ _ g2 y) (rvss_ok.bd _ _ _ _ g3 y)
  have m8:=m9.aside (G:=G2++G3) (by simpa using hnd) bd23
  refine ⟨h9,(ze6 p).cs a9 c9 b2 d2 b3 d3,F9++(G2++G3),zi7 ?_,⟨_,_,_,_,_,_,rfl,_,_,_,F9,G2,G3,rfl,rfl,r9,m9.keep rvers_ok g2 fun y hy=>dis y (by simp [hy]),m9.keep rvss_ok g3 fun y hy=>dis y (by simp [hy])⟩,q9,m8⟩
  simp only [Nat.zero_add]
  rw [e9];simp only [zac,zbi]
  exact zhp)
 obtain ⟨b1,d1,b2,d2,b3,d3,rfl,_⟩:=hp
 obtain ⟨s1,s2,s3,a1',c1',a2',c2',a3',c3',rfl,n1,n2,n3,rfl⟩:=n
 refine ⟨(zg6 p (ze6 p)).cs a1' c1' a2' c2' a3' c3',_,h',F',zkt ?_,zgN,rr,m⟩
 rw [e]
 simp only [zac,zs2,zad,zbx,zaa,n1,n2,n3,zaS,zao,zbi]
 cases (zan p&&zct p.chain)<;>rfl
theorem zme {p:Place}{cs:List V} (hp:zdt false h cs p F) (hl:lo≤h.length) (hn:zcc p) :
  ∃ raw r h' F',evl lo 55 [.agg cs] h=some (.tup [.agg raw,.bool (zan p&&zct p.chain)],h')∧zkb raw (zg6 p (ze6 p)) r∧zdt false h' r (zg6 p (ze6 p)) F'∧Mv h [] h' F':=by
 obtain ⟨a1,c1,a2,c2,a3,c3,rfl,hp⟩:=hp
 obtain ⟨F1,F2,F3,_,h1,h2,h3⟩:=hp.cells
 suffices hk:∃ raw r h' F',_=some (V.tup [.agg raw,.bool (zan p&&zct p.chain)],h')∧zkb raw (zg6 p (ze6 p)) r∧zdt false h' r (zg6 p (ze6 p)) F'∧Mv h [] h' F' from by
  obtain ⟨raw,r,h',F',e,hr⟩:=hk
  exact ⟨raw,r,h',F',zkr e,hr⟩
 rw [ztg h1 h2 h3 hn];simp only [zac,zbi]
 unfold zg6
 cases hpo:zan p with
 | false =>
  rw [za5]
  obtain ⟨raw,r,rfl,n1,n2⟩:=zlh (hh:=h)
  exact ⟨_,r,h,[],rfl,n1,n2,Mv.nil⟩
 | true =>
 obtain ⟨raw,b1,d1,b2,d2,b3,d3,h4,F4,e4,n4,r4,m4⟩:=zjS (lo:=lo) h1 h2 h3 hl hn
 obtain ⟨s1,s2,s3,q1,q2,q3,q4,q5,q6,rfl,n1,n2,n3,eq⟩:=n4
 obtain ⟨rfl,rfl,rfl,rfl,rfl,rfl⟩:=zwb eq
 rw [zaN,e4];simp only [zac,zbx,zad,zaa,n1,n2,n3,zaS,zao,cond_true]
 have r4':=r4
 obtain ⟨G1,G2,G3,rfl,g1,g2,g3⟩:=r4'.cells
 by_cases h4':(p.chain.length:Int)<4
 ·rw [zaj (by omega)]
  have nd:=m4.nd
  rw [List.nodup_append] at nd
  obtain ⟨a5,c5,h5,F5,e5,r5,m5⟩:=zh7 (lo:=lo) g1 (zd6 hpo) hn.1 nd.1 (fun y hy=>by
   have:=m4.new y (by rw [List.mem_append];exact .inl hy)
   omega) (Nat.le_trans hl m4.le)
  rw [e5];simp only [zac,zbx,zad,zah,zao]
  have hj:zdW p.chain=zhf p.chain:=by unfold zdW zct;rw [decide_eq_true h4',cond_true]
  have hlen:p.chain.length+1=(zdW p.chain).length:=by rw [hj];exact r5.val
  have bd23:∀ y∈G2++G3,y<h4.length:=fun y hy=>by
   rw [List.mem_append] at hy
   exact hy.elim (rvers_ok.bd _ _ _ _ g2 y) (rvss_ok.bd _ _ _ _ g3 y)
  have m8:=m5.aside (G:=G2++G3) m4.nd bd23
  have dis:∀ y∈G2++G3,y∉G1:=fun y hy hm=>nd.2.2 y hm y hy rfl
  rw [hlen] at r5 ⊢
  rw [← hj] at r5
  have hc:zct p.chain=true:=decide_eq_true h4'
  rw [hc]
  exact ⟨(ze6 p).cs a5 c5 b2 d2 b3 d3,_,h5,_,rfl,zgN,⟨_,_,_,_,_,_,rfl,_,_,_,F5,G2,G3,rfl,rfl,r5,m5.keep rvers_ok g2 fun y hy=>dis y (by simp [hy]),m5.keep rvss_ok g3 fun y hy=>dis y (by simp [hy])⟩,m4.trans m8⟩
 ·rw [zal (by omega)]
  have hc:zct p.chain=false:=decide_eq_false h4'
  have hj:ze6 p=p:=by unfold ze6 zdW;rw [hc];rfl
  rw [hc,hj]
  exact ⟨p.cs b1 d1 b2 d2 b3 d3,_,h4,_,rfl,zgN,⟨_,_,_,_,_,_,rfl,r4⟩,m4⟩
end
end Go.Proofs.YthdfojchihooeaaGreat
namespace Go.Proofs.YthdfojchihooeaaGreat
open Go T


def zkM (l:List Node) (k:Nat) (v:Ver):List Node:=match l[k]? with
 | some x=>match x.store[v.key.toNat]? with
  | some u=>bif zbh u v then l.set k ⟨x.store.set v.key.toNat v,bif decide (k+1<l.length) then x.wait ++ [v] else x.wait⟩ else l
  | none=>l
 | none=>l
theorem zvU {l:List Node}{k:Nat}{v:Ver} (hk:k<l.length) (hv:v.key.toNat<l[k].store.length) :
  zkM l k v=bif zbh l[k].store[v.key.toNat] v then l.set k ⟨l[k].store.set v.key.toNat v,bif decide (k+1<l.length) then l[k].wait ++ [v] else l[k].wait⟩ else l:=by
 unfold zkM;rw [List.getElem?_eq_getElem hk];simp only;rw [List.getElem?_eq_getElem hv]
section
variable {lo:Nat}{h h3:Heap}{F F' G:List Nat}{a a' av:Option (Nat×Nat)}{c c' cv:Option Nat}{n k:Nat}{l:List Node}{v:Ver}
theorem ztu (hs:RNodes false h [.sl 2 a n c] l F) (hk:k<l.length) (hnd:F.Nodup) (hlo:∀ b∈F,lo≤b) (hl:lo≤h.length) (hw:l[k].wait.length≤1048576) (hv:RTags false h3 [.sl 2 av v.past.length cv] v.past G) (m3:Mv h [] h3 G) :
  ∃ b i t2 a2 c2 a5 c5 h5,a=some (b,i)∧ld h b (i+k) 1 1=some [t2]∧(∀ {T:Type} (K:Option (Nat×Nat)→Nat→Option Nat→Option T),eS 6 t2 K=K a2 l[k].wait.length c2) ∧
   (∀ {T:Type} (K:V→Heap→Option T),app lo 65 6 72 (.sl 6 a2 l[k].wait.length c2) [v.cs av cv] (h3 ++ [.rows 6 65 false [v.cs av cv]]) K=K (.sl 6 a5 (l[k].wait.length+1) c5) h5) ∧
   (∃ F5,RVers false h5 [.sl 6 a5 (l[k].wait.length+1) c5] (l[k].wait ++ [v]) F5) ∧
   ∀ c6,(c6=c5∨c6=some (l[k].wait.length+1))→∃ h6 F6,st lo h5 b (i+k) 1 [.sl 6 a5 (l[k].wait.length+1) c6]=some h6∧RNodes false h6 [.sl 2 a n c] (l.set k ⟨l[k].store,l[k].wait ++ [v]⟩) F6∧Mv h F h6 F6:=by
 obtain ⟨b,i,rs,row,G0,ha,hbF,hbG,hb,hrow,hel,hGF,hGn,_,put⟩:=hs.at rnode_ok hk hnd hlo
 obtain ⟨t1,t2,F1,F2,rfl,rfl,r1,r2⟩:=hel
 obtain ⟨a2,c2,e2,r2'⟩:=r2.form
 rw [List.nodup_append] at hGn
 obtain ⟨a5,c5,h5,F5,e5,r5,m5⟩:=zeN (lo:=lo) (bytes:=72) (e:=65) rver_ok r2' (row:=v.cs av cv) (x:=v) (G:=G) (h1:=h3 ++ [.rows 6 65 false [v.cs av cv]])
  ⟨_,rfl,Mv.snoc.keep0 rtags_ok hv⟩ (m3.trans (Mv.snoc' m3.nd)) hGn.2.1 (fun y hy=>hlo y (hGF y (by simp [hy]))) hl (by decide) (by omega)
 have b1:∀ y∈F1,y<h.length:=rvers_ok.bd _ _ _ _ r1
 have m6:=(m5.aside (G:=F1) (by rw [List.nodup_append];exact ⟨hGn.2.1,hGn.1,fun x hx y hy e=>hGn.2.2 y hy x hx e.symm⟩) b1).swap
 have r1':=m5.keep rvers_ok r1 fun y hy hm=>hGn.2.2 y hy y hm rfl
 refine ⟨b,i,t2,a2,c2,a5,c5,h5,ha,by rw [zeR hb hrow];rfl,fun K=>e2 K,fun K=>e5 K,⟨F5,r5⟩,fun c6 hc=>?_⟩
 have r5':RVers false h5 [.sl 6 a5 (l[k].wait.length+1) c6] (l[k].wait ++ [v]) F5:=by
  rcases hc with rfl | rfl
  ·exact r5
  ·exact r5.clip
 obtain ⟨h6,F6,e6,r6,m7,_⟩:=put h5 (F1++F5) 1 [.sl 6 a5 (l[k].wait.length+1) c6] [t1,.sl 6 a5 (l[k].wait.length+1) c6] ⟨l[k].store,l[k].wait ++ [v]⟩ m6 rfl ⟨_,_,F1,F5,rfl,rfl,r1',r5'⟩
 exact ⟨h6,F6,e6,r6,m7⟩
theorem zje (hs:RNodes false h [.sl 2 a l.length c] l F) (hv:RTags false h [.sl 2 av v.past.length cv] v.past G) (hd:∀ b∈G,b∉F) (hnd:F.Nodup) (hlo:∀ b∈F,lo≤b) (hl:lo≤h.length) (hk:k<l.length)
  (hkey:0≤v.key∧v.key<l[k].store.length) (hn:zcW l) (hvn:v.past.length≤1048576) :
  ∃ h' F',evl lo 258 [.agg [.sl 2 a l.length c],.int .i64 k,.agg (v.cs av cv)] h=some (.agg [.sl 2 a l.length c],h')∧RNodes false h' [.sl 2 a l.length c] (zkM l k v) F'∧Mv h F h' F':=by
 have hn1:=hn.1
 have hkl:v.key.toNat<l[k].store.length:=by omega
 have hsm:=hn.2 _ (List.getElem_mem hk)
 suffices hq:∃ h' F',_=some (V.agg [.sl 2 a l.length c],h')∧RNodes false h' [.sl 2 a l.length c] (zkM l k v) F'∧Mv h F h' F' from hq.imp fun h' hq=>hq.imp fun F' hq=>⟨zp3 hq.1,hq.2⟩
 obtain ⟨b,i,rs,row,G0,ha,hbF,hbG,hb,hrow,hel,hGF,hGn,_,put⟩:=hs.at rnode_ok hk hnd hlo
 obtain ⟨t1,t2,F1,F2,rfl,rfl,r1,r2⟩:=hel
 obtain ⟨a1,c1,e1,r1'⟩:=r1.form
 obtain ⟨o,s,_,_,_,ha1,_,_,_,_,_,_,ho12,_⟩:=RVers.all r1' hkl
 have ld0:ld h b (i+k) 0 1=some [t1]:=by rw [zeR hb hrow];rfl
 rw [zvU hk hkl]
 rw [zab hk]
 simp only [ha,zam,Int.toNat_natCast,ld0,zad,zao,e1]
 rw [zdd ⟨by omega,by omega⟩]
 simp only [ha1,zam,ho12,zad,zaa,zao,zbk,zac,zbi]
 show ∃ h' F',br (zbh l[k].store[v.key.toNat] v) _ _=_∧_
 cases hle:zbh l[k].store[v.key.toNat] v with
 | false=>exact ⟨h,F,rfl,by rw [← ha];exact hs,Mv.refl hnd⟩
 | true =>
  have hGn0:=hGn
  rw [List.nodup_append] at hGn
  have hGlt:∀ b∈G,b<h.length:=rtags_ok.bd _ _ _ _ hv
  obtain ⟨h2,F3,e2,r3,m2⟩:=zjf (lo:=lo) r1' hv hGn.1 (fun y hy=>hlo y (hGF y (by simp [hy]))) hl hkey hvn
  have b2':∀ y∈F2,y<h.length:=rvers_ok.bd _ _ _ _ r2
  have m3:=m2.aside (G:=F2) hGn0 b2'
  have r2':=m2.keep rvers_ok r2 fun y hy hm=>hGn.2.2 y hm y hy rfl
  have hadd:zeq l[k].store v=l[k].store.set v.key.toNat v:=by rw [zjB hkl,hle,cond_true]
  have hlen:(zeq l[k].store v).length=l[k].store.length:=addVer_len
  rw [← hlen] at r3
  obtain ⟨h4,F4,e4,r4,m4,b4,fr4,l4⟩:=put h2 (F3++F2) 0 [.sl 6 a1 (zeq l[k].store v).length c1] [.sl 6 a1 (zeq l[k].store v).length c1,t2] ⟨zeq l[k].store v,l[k].wait⟩ m3 rfl ⟨_,_,F3,F2,rfl,rfl,r3,r2'⟩
  rw [hlen] at e4
  have hv4:RTags false h4 [.sl 2 av v.past.length cv] v.past G:=m4.keep rtags_ok hv hd
  have hk4:k<(l.set k ⟨zeq l[k].store v,l[k].wait⟩).length:=by simpa using hk
  rw [zaN,zab hk]
  simp only [zam,ld0,zad,e1,zao]
  rw [e2]
  simp only [zac,zbx,zad,zah,zao]
  rw [zab hk,e4]
  simp only [zam]
  rw [wr (by omega) (by omega),cond_true]
  by_cases hlast:k+1<l.length
  ·rw [zal (by omega),zab hk,decide_eq_true hlast,cond_true]
   obtain ⟨a6,c6,h6,F6,e6,r6,m6⟩:=zcb (lo:=h4.length) (v:=v) hv4 (Nat.le_refl _) hvn
   have hself:(l.set k ⟨zeq l[k].store v,l[k].wait⟩)[k]=⟨zeq l[k].store v,l[k].wait⟩:=List.getElem_set_self hk4
   obtain ⟨b7,i7,u2,a7,c7,a8,c8,h8,ha7,ld7,e7,app7,_,st7⟩:=ztu (lo:=lo) r4 hk4 m4.nd (fun y hy=>m4.ge hl hlo y hy) (Nat.le_trans hl m4.le) (by rw [hself];exact hsm.2.1) r6 m6
   simp only [hself] at e7 app7 st7
   obtain ⟨h9,F9,e9,r9,m9⟩:=st7 _ (.inl rfl)
   rw [ha] at ha7
   injection ha7 with ha7
   injection ha7 with hb7 hi7
   subst hb7;subst hi7
   simp only [ld7,zam,zad,zao,e7]
   rw [e6]
   simp only [zac,zbx,zad,zaa,zah,zdl,zaS,zao,zaT]
   rw [app7]
   simp only [zah]
   rw [zab hk,e9]
   rw [List.set_set,hadd] at r9
   exact ⟨h9,F9,rfl,by rw [← ha];exact r9,m4.trans m9⟩
  ·rw [zaj (by omega),decide_eq_false hlast,cond_false]
   rw [hadd] at r4
   exact ⟨h4,F4,rfl,by rw [← ha];exact r4,m4⟩
end
end Go.Proofs.YthdfojchihooeaaGreat
namespace Go.Proofs.YthdfojchihooeaaGreat
open Go T


def noted (me:Int) (log:List Ver) (v:Ver):List Ver:=bif decide (v.tag.time>0)&&(v.tag.place==me && !zcv log v.tag) then log ++ [v] else log
def zfs (l:List Node):List Ver:=match l.getLast? with
 | some x=>x.store
 | none => []
def zx6 (l:List Node):Bool:=l.all fun x=>decide (x.wait.length=0)
def zd1 (p:Place):Place:=⟨p.me,p.clock,p.chain,(zfs p.chain).foldl (noted p.me) p.log,p.got,p.fell && !zx6 p.chain⟩
theorem zfD {l:List Node} (h0:0<l.length):zfs l=(l[l.length - 1]'(by omega)).store:=by
 unfold zfs;rw [List.getLast?_eq_getElem?,List.getElem?_eq_getElem (by omega)]
theorem ztH {me:Int}{log:List Ver}{v:Ver}:(noted me log v).length≤log.length+1:=by
 unfold noted
 cases decide (v.tag.time>0)&&(v.tag.place==me && !zcv log v.tag)<;>simp
section
variable {lo:Nat}{h:Heap}{F F':List Nat}{a a':Option (Nat×Nat)}{c c':Option Nat}
theorem zix {l:List Ver}{t p:Int}{ro:Bool} (hs:RVers ro h [.sl 6 a l.length c] l F) (hn:l.length≤1048576) :
  evl lo 252 [.sl 6 a l.length c,.agg [.int .i64 t,.int .i64 p]] h=some (.bool (zcv l ⟨t,p⟩),h):=by
 refine zlT (h':=h) ?_
 have loop:∀ m i,m+i=l.length→zbG h.length a l.length c false (i:Nat) t p h=some (.bool ((l.drop i).any fun v=>v.tag.time==t&&v.tag.place==p),h):=by
  intro m
  induction m with
  | zero =>
   intro i hi
   rw [zbG.e,zaj (by omega),List.drop_eq_nil_of_le (by omega)];rfl
  | succ m ih =>
   intro i hi
   have hil:i<l.length:=by omega
   obtain ⟨o,s,_,_,_,ha,_,_,_,_,_,_,ho,_⟩:=RVers.all hs hil
   rw [zbG.e,zal (by omega),zab hil]
   simp only [ha,zam,Int.toNat_natCast,ho,zad,zaa,zao,Bool.and_true]
   rw [zap (show i<9223372036854775807 by omega),← ha,ih (i+1) (by omega),List.drop_eq_getElem_cons hil,List.any_cons]
   cases (l[i].tag.time==t&&l[i].tag.place==p)<;>rfl
 exact loop l.length 0 (by omega)
theorem zkZ {p:Place}{a1 a2 a3:Option (Nat×Nat)}{c1 c2 c3:Option Nat}{F1 F2:List Nat} (hs1:RNodes false h [.sl 2 a1 p.chain.length c1] p.chain F1) (hs2:RVers false h [.sl 6 a2 p.log.length c2] p.log F2)
  (h0:0<p.chain.length) (h4:(zfs p.chain).length=4) (hd:∀ b∈F1,b∉F2) (hnd:F2.Nodup) (hlo:∀ b∈F2,lo≤b) (hl:lo≤h.length) (hcl:p.chain.length≤1048576) (hlog:p.log.length≤1000000) (hvn:∀ v∈zfs p.chain,v.past.length≤1048576) :
  ∃ a2' c2' h' F2',evl lo 153 [.agg (p.cs a1 c1 a2 c2 a3 c3)] h=some (.agg ((zd1 p).cs a1 c1 a2' c2' a3 c3),h')∧RVers false h' [.sl 6 a2' (zd1 p).log.length c2'] (zd1 p).log F2'∧Mv h F2 h' F2':=by
 obtain ⟨o,s1,s2,b1,d1,b2,d2,G1,G2,ha,_,ho1,_,e1,_,q1,_,q3,_⟩:=hs1.get (show p.chain.length - 1<p.chain.length by omega)
 rw [zfD h0] at h4 hvn
 have two:∀ (hh:Heap) (F':List Nat) (ax:Option (Nat×Nat)) (nx:Nat) (cx:Option Nat),Mv h F2 hh F'→∀ m i (b:Bool),m+i=p.chain.length →
   zbd lo b (i:Nat) p.me p.clock a1 p.chain.length c1 ax nx cx a3 p.got.length c3 p.fell 0 0 0 none 0 (some 0) 0 none 0 (some 0) 0 none 0 (some 0) false hh=some (.agg [.int .i64 p.me,.int .i64 p.clock,.sl 2 a1 p.chain.length c1,.sl 6 ax nx cx,.sl 1 a3 p.got.length c3,.bool (p.fell && !(b&&(p.chain.drop i).all fun x=>decide (x.wait.length=0)))],hh):=by
  intro hh F' ax nx cx hm m
  induction m with
  | zero =>
   intro i b hi
   rw [zbd.e,zaj (by omega),List.drop_eq_nil_of_le (by omega)]
   cases p.fell<;>cases b<;>rfl
  | succ m ih =>
   intro i b hi
   have hil:i<p.chain.length:=by omega
   obtain ⟨o',_,_,_,_,_,_,_,_,ha',_,_,ho2',_,e2',_⟩:=(hm.keep rnodes_ok hs1 hd).get hil
   rw [zbd.e,zal (by omega),zap (show i<9223372036854775807 by omega)]
   cases b with
   | false=>rw [za5,ih (i+1) false (by omega)];rfl
   | true =>
    rw [zaN,zab hil]
    simp only [ha',zam,Int.toNat_natCast,ho2',zad,zao,e2']
    rw [← ha',ih (i+1) true (by omega),ih (i+1) false (by omega),List.drop_eq_getElem_cons hil,List.all_cons,show (((p.chain[i].wait.length:Nat):Int)==0)=decide (p.chain[i].wait.length=0) by rw [Bool.eq_iff_iff,beq_iff_eq,decide_eq_true_eq];omega]
    cases decide (p.chain[i].wait.length=0)<;>rfl
 have one:∀ m i,m+i=4→∀ hh ax cx (lg:List Ver) Fx,RVers false hh [.sl 6 ax lg.length cx] lg Fx→Mv h F2 hh Fx→lg.length≤1000000+i→∃ a' c' h' F',
   zbe lo (i:Nat) p.me p.clock a1 p.chain.length c1 ax lg.length cx a3 p.got.length c3 p.fell 0 0 0 none 0 (some 0) 0 none 0 (some 0) 0 none 0 (some 0) false b1 (p.chain[p.chain.length - 1]'(by omega)).store.length d1 hh =
    zbd lo true 0 p.me p.clock a1 p.chain.length c1 a' (((p.chain[p.chain.length - 1]'(by omega)).store.drop i).foldl (noted p.me) lg).length c' a3 p.got.length c3 p.fell 0 0 0 none 0 (some 0) 0 none 0 (some 0) 0 none 0 (some 0) false h' ∧
   RVers false h' [.sl 6 a' (((p.chain[p.chain.length - 1]'(by omega)).store.drop i).foldl (noted p.me) lg).length c'] (((p.chain[p.chain.length - 1]'(by omega)).store.drop i).foldl (noted p.me) lg) F'∧Mv h F2 h' F':=by
  intro m
  induction m with
  | zero =>
   intro i hi hh ax cx lg Fx hr hm hlen
   rw [zbe.e,zaj (by omega),List.drop_eq_nil_of_le (by omega)]
   exact ⟨ax,cx,hh,Fx,rfl,hr,hm⟩
  | succ m ih =>
   intro i hi hh ax cx lg Fx hr hm hlen
   have hil:i<(p.chain[p.chain.length - 1]'(by omega)).store.length:=by omega
   have q1':=hm.keep rvers_ok q1 fun y hy=>hd y (q3 y hy)
   obtain ⟨o',s',b',d',G',ha',_,_,_,_,_,_,_,ho',es',hp',_⟩:=RVers.all q1' hil
   rw [List.drop_eq_getElem_cons hil,List.foldl_cons]
   rw [zbe.e,zal (by omega),zab hil]
   simp only [ha',zam,Int.toNat_natCast,ho',zad,zaa,es',zdl,zaS,zao]
   rw [← ha',zap (show i<9223372036854775807 by omega),zix hr (by omega)]
   simp only [zac,zbi]
   have stay:=ih (i+1) (by omega) hh ax cx lg Fx hr hm (by omega)
   have hno:=@noted.eq_1 p.me lg ((p.chain[p.chain.length - 1]'(by omega)).store[i]'hil)
   cases g1:decide (((p.chain[p.chain.length - 1]'(by omega)).store[i]'hil).tag.time>0) with
   | false=>rw [za5,hno,g1];exact stay
   | true =>
   rw [zaN]
   cases g2:(((p.chain[p.chain.length - 1]'(by omega)).store[i]'hil).tag.place==p.me) with
   | false=>rw [za5,hno,g1,g2];exact stay
   | true =>
   rw [zaN]
   cases g3:zcv lg ((p.chain[p.chain.length - 1]'(by omega)).store[i]'hil).tag with
   | true=>rw [zaN,hno,g1,g2,g3];exact stay
   | false =>
   rw [za5,hno,g1,g2,g3]
   obtain ⟨a3',c3',h3,F3,e3,r3,m3⟩:=zcb (lo:=lo) (v:=((p.chain[p.chain.length - 1]'(by omega)).store[i]'hil)) hp' (Nat.le_trans hl hm.le) (hvn _ (List.getElem_mem hil))
   obtain ⟨a5,c5,h5,F5,e5,r5,m5⟩:=zeN (lo:=lo) (bytes:=72) (e:=65) rver_ok hr (row:=((p.chain[p.chain.length - 1]'(by omega)).store[i]'hil).cs a3' c3') (x:=((p.chain[p.chain.length - 1]'(by omega)).store[i]'hil)) (G:=F3) (h1:=h3 ++ [.rows 6 65 false [((p.chain[p.chain.length - 1]'(by omega)).store[i]'hil).cs a3' c3']])
    ⟨_,rfl,Mv.snoc.keep0 rtags_ok r3⟩ (m3.trans (Mv.snoc' m3.nd)) hm.nd (fun y hy=>hm.ge hl hlo y hy) (Nat.le_trans hl hm.le) (by decide) (by omega)
   rw [e3]
   simp only [zac,zbx,zad,zaa,zah,zdl,zaS,zao,zaT]
   rw [e5]
   simp only [zah]
   have:=ih (i+1) (by omega) h5 a5 c5 (lg ++ [((p.chain[p.chain.length - 1]'(by omega)).store[i]'hil)]) F5 (by rw [List.length_append];exact r5) (hm.trans m5) (by simp;omega)
   rw [List.length_append] at this
   exact this
 obtain ⟨a',c',h',F',el,r,m⟩:=one 4 0 (by omega) h a2 c2 p.log F2 hs2 (Mv.refl hnd) (by omega)
 refine ⟨a',c',h',F',zog ?_,?_,m⟩
 ·rw [zdd ⟨by rw [wr (by omega) (by omega)];omega,by rw [wr (by omega) (by omega)];omega⟩,wr (by omega) (by omega),show ((p.chain.length:Int) - 1).toNat=p.chain.length - 1 by omega]
  simp only [ha,zam,ho1,zad,e1,zao]
  rw [← ha]
  refine el.trans ?_
  have:=two h' F' a' (((p.chain[p.chain.length - 1]'(by omega)).store.drop 0).foldl (noted p.me) p.log).length c' m p.chain.length 0 true (by omega)
  refine this.trans ?_
  simp only [zd1,Place.cs,zfD h0,List.drop_zero,Bool.true_and,zx6]
 ·simp only [zd1,zfD h0]
  rw [List.drop_zero] at r
  exact r
end
end Go.Proofs.YthdfojchihooeaaGreat
namespace Go.Proofs.YthdfojchihooeaaGreat
open Go T


theorem Mv.store {h h':Heap}{F F':List Nat}{b:Nat} (m:Mv h F h' F') (hb:b<h.length) (hbF:b∉F) (X:Blk) :
  Mv h (b :: F) (h'.set b X) (b :: F')∧(h'.set b X)[b]?=some X∧(∀ y,y≠b→(h'.set b X)[y]?=h'[y]?)∧b∉F':=by
 have hbF':b∉F':=fun hm=>by
  rcases m.sub b hm with g | g
  ·exact hbF g
  ·omega
 have hb':b<h'.length:=Nat.lt_of_lt_of_le hb m.le
 refine ⟨⟨by simpa using m.le,fun y hy hF=>?_,by rw [List.nodup_cons];exact ⟨hbF',m.nd⟩,fun y hy=>?_⟩,by simp [hb'],fun y hy=>List.getElem?_set_ne (Ne.symm hy),hbF'⟩
 ·rw [List.mem_cons,not_or] at hF
  rw [List.getElem?_set_ne (Ne.symm hF.1)]
  exact m.fr y hy hF.2
 ·rw [List.mem_cons] at hy
  rcases hy with rfl | hy
  ·exact .inl (by simp)
  ·refine (m.sub y hy).imp (fun g=>by simp [g]) fun g=>by simpa using g
section
variable {lo:Nat}{ro:Bool}{h:Heap}{F F':List Nat}{a a':Option (Nat×Nat)}{c c':Option Nat}
end
end Go.Proofs.YthdfojchihooeaaGreat
namespace Go.Proofs.YthdfojchihooeaaGreat
open Go T


def thin (v:Ver):Prop:=v.past.length≤4∧v.text.size≤8∧zbj v.tag.time v.tag.place=true
def zf9 (nw:Nat) (x:Node):Prop:=x.store.length=4∧x.wait.length≤nw∧(∀ v∈x.store,thin v)∧∀ v∈x.wait,thin v
structure Tidy (nc nw nl:Nat) (p:Place):Prop where
 len:p.chain.length≤nc
 node:∀ x∈p.chain,zf9 nw x
 log:p.log.length≤nl∧∀ v∈p.log,thin v
 got:p.got.length≤3∧∀ l∈p.got,l.length≤nl∧∀ v∈l,thin v
theorem zg7 {v:Ver} (h:zbg v=true):thin v:=by
 obtain ⟨_,h2,_,h3,h4,_⟩:=zaA h
 have:=zdf h2
 have:=zbq h3
 exact ⟨by omega,by omega,h4⟩
theorem ztd {v:Ver} (h:zeZ v=true):thin v:=by
 rw [zkO h];exact ⟨by simp,by show 0≤8;omega,rfl⟩
theorem zqk {i:Nat}{v:Ver} (h:zg4 i v=true):thin v:=(zcO h).elim ztd fun h=>zg7 h.1
theorem zgw {m:Int}{l:List Ver} (h:ze5 m l=true):l.length≤60∧∀ i (hi:i<l.length),zbg l[i]=true∧l[i].tag.place=m∧zcv (l.take i) l[i].tag=false:=by
 unfold ze5 at h
 rw [Bool.and_eq_true,zdT,decide_eq_true_eq] at h
 refine ⟨by omega,fun i hi=>?_⟩
 have:=h.1 i hi
 simp only [znM,Bool.and_eq_true,beq_iff_eq,Bool.not_eq_true'] at this
 exact ⟨this.1.1,this.1.2,this.2⟩
theorem zrz {m:Int}{l:List Ver} (h:ze5 m l=true):l.length≤60∧∀ v∈l,thin v:=by
 obtain ⟨h1,h2⟩:=zgw h
 refine ⟨h1,fun v hv=>?_⟩
 obtain ⟨i,hi,rfl⟩:=List.mem_iff_getElem.1 hv
 exact zg7 (h2 i hi).1
theorem ziE {x:Node} (h:zb9 x=true):zf9 6 x:=by
 obtain ⟨h1,h2,h3⟩:=zav h
 refine ⟨zaH h1,h2,fun v hv=>?_,fun v hv=>zg7 (h3 v hv)⟩
 obtain ⟨i,hi,rfl⟩:=List.mem_iff_getElem.1 hv
 exact zqk (zcD h1 hi)
theorem zaK {p:Place} (h:zan p=true):(0≤p.me∧p.me≤2)∧(0≤p.clock∧p.clock≤999)∧p.got.length=3∧zcF p.chain=true∧zd7 p.chain=true∧ze5 p.me p.log=true ∧
  (∀ i (hi:i<p.got.length),ziM p.me i p.got[i]=true)∧zd4 p.chain p.clock=true:=by
 unfold zan at h
 simp only [Bool.and_eq_true,zdT,decide_eq_true_eq,zak] at h
 obtain ⟨⟨⟨⟨⟨⟨⟨h1,h2⟩,h3⟩,h4⟩,h5⟩,h6⟩,h7⟩,h8⟩:=h
 exact ⟨h1,h2,h3,h4,h5,h6,h7,h8⟩
theorem zqZ {p:Place} (h:zan p=true) {i:Nat} (hi:i<p.got.length):ze5 i p.got[i]=true:=by
 have:=(zaK h).2.2.2.2.2.2.1 i hi
 unfold ziM at this
 rw [Bool.and_eq_true] at this
 exact this.1
theorem zcV {p:Place} (h:zan p=true):Tidy 4 6 60 p:=by
 obtain ⟨_,_,h3,h4,_,h6,h7,_⟩:=zaK h
 obtain ⟨g1,g2⟩:=zbY h4
 refine ⟨g1.2,fun x hx=>ziE (g2 x hx),zrz h6,by omega,fun l hl=>?_⟩
 obtain ⟨i,hi,rfl⟩:=List.mem_iff_getElem.1 hl
 exact zrz (zqZ h hi)
theorem znK {α:Type}{w:α→Nat}{c:Nat}:∀ {l:List α},(∀ v∈l,w v≤c)→mkN w l≤c*l.length
 | [],_=>by simp [mkN]
 | x :: l,h=>by
  have h1:=znK (w:=w) (l:=l) fun v hv=>h v (by simp [hv])
  have h2:=h x (by simp)
  simp only [mkN,List.map_cons,List.sum_cons,List.length_cons,Nat.mul_add,Nat.mul_one] at h1 ⊢
  omega
theorem zxk {v:Ver} (h:thin v):zxM v≤13:=by
 have:=h.1
 unfold zxM
 rw [ztN];omega
theorem znu {l:List Ver} (hl:l.length≤1048576) (h:∀ v∈l,thin v):zcQ l:=⟨hl,fun v hv=>by have:=h v hv;exact ⟨by have:=this.1;omega,by have:=this.2.1;omega⟩⟩
theorem znt {l:List Ver} (h:∀ v∈l,thin v):zs5 l≤13*l.length:=znK fun v hv=>zxk (h v hv)
theorem zwB {nw:Nat}{x:Node} (h:zf9 nw x) (hw:nw≤100):zcQ x.store∧zcQ x.wait:=by
 obtain ⟨h1,h2,h3,h4⟩:=h
 exact ⟨znu (by omega) h3,znu (by omega) h4⟩
theorem zxs {nw:Nat}{x:Node} (h:zf9 nw x) (hw:nw≤100):zwg x≤1352:=by
 obtain ⟨h1,h2,h3,h4⟩:=h
 have:=znt h3
 have:=znt h4
 unfold zwg
 omega
theorem zro {nc nw nl:Nat}{p:Place} (h:Tidy nc nw nl p) (h1:nc≤100) (h2:nw≤100):zcW p.chain:=⟨by have:=h.len;omega,fun x hx=>zwB (h.node x hx) h2⟩
theorem zfE {nc nw nl:Nat}{p:Place} (h:Tidy nc nw nl p) (h1:nc≤100) (h2:nw≤100) (h3:nl≤1000):zcc p∧(1:Int)+zvY p≤big:=by
 have g1:=h.len
 have g2:=h.log.1
 have g3:=h.got.1
 refine ⟨⟨zro h h1 h2,znu (by omega) h.log.2,by omega,fun l hl=>znu (by have:=(h.got.2 l hl).1;omega) (h.got.2 l hl).2⟩,?_⟩
 have e1:zvZ p.chain≤1352*p.chain.length:=znK fun x hx=>zxs (h.node x hx) h2
 have e2:=znt h.log.2
 have e3:zx2 p.got≤13000*p.got.length:=znK fun l hl=>by
  have:=znt (h.got.2 l hl).2
  have:=(h.got.2 l hl).1
  omega
 simp only [zvY,big]
 omega
theorem zrp {nc nw nl k:Nat}{t:Int}{v:Ver}{p:Place} (h:Tidy nc nw nl p) (hv:thin v):Tidy nc (nw+1) nl ⟨p.me,t,zkM p.chain k v,p.log,p.got,p.fell⟩:=by
 have hx:∀ x,x∈p.chain→zf9 (nw+1) x:=fun x hx=>by obtain ⟨g1,g2,g3⟩:=h.node x hx;exact ⟨g1,by omega,g3⟩
 have key:(zkM p.chain k v).length≤nc∧∀ x∈zkM p.chain k v,zf9 (nw+1) x:=by
  unfold zkM
  split
  ·rename_i x hk
   split
   ·rename_i u hu
    cases zbh u v with
    | false=>exact ⟨h.len,hx⟩
    | true =>
     rw [cond_true]
     refine ⟨by simpa using h.len,fun y hy=>?_⟩
     rcases List.mem_or_eq_of_mem_set hy with hy | rfl
     ·exact hx y hy
     ·obtain ⟨g1,g2,g3,g4⟩:=h.node x (List.mem_of_getElem? hk)
      refine ⟨by simpa using g1,?_,fun w hw=>?_,?_⟩
      ·cases decide (k+1<p.chain.length)
       ·show x.wait.length≤nw+1;omega
       ·show (x.wait ++ [v]).length≤nw+1;simp;omega
      ·rcases List.mem_or_eq_of_mem_set hw with hw | rfl
       ·exact g3 w hw
       ·exact hv
      ·cases decide (k+1<p.chain.length)
       ·exact g4
       ·intro w hw
        rcases List.mem_append.1 hw with hw | hw
        ·exact g4 w hw
        ·rw [List.mem_singleton] at hw;subst hw;exact hv
   ·exact ⟨h.len,hx⟩
  ·exact ⟨h.len,hx⟩
 exact ⟨key.1,key.2,h.log,h.got⟩
theorem zm5 {l:List Node} (h0:0<l.length):∃ x∈l,zfs l=x.store:=⟨_,List.getElem_mem (show l.length - 1<l.length by omega),zfD h0⟩
end Go.Proofs.YthdfojchihooeaaGreat
