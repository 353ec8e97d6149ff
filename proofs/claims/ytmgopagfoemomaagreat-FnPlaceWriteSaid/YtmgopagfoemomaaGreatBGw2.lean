/- Part 2 of what is shown for the law Gw, whatever the input; no condition of its own. -/
import Derived.Test.YtmgopagfoemomaaGreatBGw1
set_option linter.unusedVariables false
set_option linter.unusedSimpArgs false
set_option linter.unnecessarySimpa false
set_option maxRecDepth 100000
namespace Go.Proofs.YtmgopagfoemomaaGreat
open Go T
noncomputable section
variable {lo:Nat}{f:Bool}{args:List V}{h:Heap}{t:Int}{p:Nq}{h':Heap}{v:V}{c:Nq}{n:Nat}{a:Pq}{r:V×Heap}{k g G m i j:Nat}{F:Bool}{x z y:Int}{S:ByteArray}{d a0 a1 b A B:Pq}{u D c0 s C:Nq}{H:Nat}{a2:Pq}{c1:Nq}{J:Nat}{a3:Pq}{c2:Nq}{n0 n1:Nat}{l:List V}{n2:Nat}
def pd:Nat->Nat->Code->Code
 | 0,_,c=>c
 | k+1,n,c=>match n%10 with
  | 1=>pd k (n/10) (cr c)
  | 2=>pd k (n/10) (cb c)
  | 3=>pd k (n/10) (cl c)
  | 4=>pd k (n/10) (ct c)
  | 5=>pd k (n/10) (ce c)
  | _=>c
def pf (n:Nat) (F:Func):Code:=pd 40 n (code F)
def LA (n:Nat) (F:Func) (p t q lo:Nat) (σ:St):Ov:=Lp (X n) lo (pf p F) t (A8 t (kS (X n) lo (pf q F) 0 (I0 (X n) F.results.toList))) σ
theorem eK {f:Nat}{fn:Func}{t:Ov}{p:Vh} (hf:Tryz.prog.funcs[f]?=some fn) (hk:t=some p) (hd:I.drop f=false:=by kernel_rfl) (ht:fnT I fn (eval Tryz.prog I) lo f args h=t:=by kernel_rfl):Ae lo f args h=some p:=XF hf hd (ht.trans hk)
theorem eD {f:Nat}{fn:Func}{t:Ov} (hf:Tryz.prog.funcs[f]?=some fn) (hk:t=some (v,h')) (hn:noId v=true) (hd:I.drop f=true:=by kernel_rfl) (ht:fnT I fn (eval Tryz.prog I) h.length f args h=t:=by kernel_rfl):Ae lo f args h=some (v,h):=XG hf hd (ht.trans hk) hn
theorem lE {X:Ctx}{id:Nat}{c:Code}{K:Ex->St->Ov}{σ:St}{t:Ov} (h:exec X lo c id σ (U0 X lo c id K)=t:=by kernel_rfl):Lp X lo c id K σ=t:=Lp_eq.trans h
def AZ lo f x S F y z t a n c b m p d k u b0 e i s w q A j C B g D a0 G c0 b1 M N h:=
 LA 3 Tryz.f3 22131111111 0 11111111 lo ⟨[(2,.bool f),(3,.lp 3 0),(4,Iv x),(5,.str S),(6,.bool F),(7,.lp 7 0),(8,.lp 8 0),(9,.lp 9 0),(12,Iv y)],[(3,(CB z t a n c b m p d k u b0)),(7,(Bk e i s)),(8,(CB w q A j C B g D a0 G c0 b1)),(9,(BN M N))],h⟩
theorem KL (hk:(br (decide ((n:Int)>1048576)) (Cc h) (Ai (Ae lo 9 [.sl 1 a n c] h) λv l=>eU v λv=>eC v λv o=>eA v λv=>eC v λv s=>eI .i64 v λv=>eC s λs b=>eI .i64 s λs=>eC b λb x=>eS 2 b λb y z=>eC x λx u=>eS 6 x λx w p=>eC u λu q=>eS 1 u λu g i=>eC q λq j=>eBv q λq=>eN j (eC o λo j=>eI .i64 o λo=>eC j λj k=>eT j λj=>eC k λk m=>eB k (eC m λk t=>eA k λk=>eC k λk d=>eS 2 k λk e f=>eN d (eN t (Ai (Ae lo 10 [Al v s b y z x w p u g i q,Iv o,.str j,.bool true,Am k e f] l) λt d=>eU t λt=>eC t λt A=>eA t λt=>eC t λt B=>eI .i64 t λt=>eC B λB C=>eI .i64 B λB=>eC C λC D=>eS 2 C λC E G=>eC D λD H=>eS 6 D λD J K=>eC H λH L=>eS 1 H λH M N=>eC L λL O=>eBv L λL=>eN O (eC A λA O=>eA A λA=>eC A λA P=>eI .i64 A λA=>eC P λP Q=>eI .i64 P λP=>eN Q (eN O (Ai (Ae lo 11 [Al v s b y z x w p u g i q,Iv o,.str j,.bool true,Am k e f] d) λd O=>eU d λd=>eC d λd Q=>eA d λd=>eC d λd S=>eI .i64 d λd=>eC S λS U=>eI .i64 S λS=>eC U λU W=>eS 2 U λU Y Z=>eC W λW v0=>eS 6 W λW v1 v2=>eC v0 λv0 v3=>eS 1 v0 λv0 v4 v5=>eC v3 λv3 v6=>eBv v3 λv3=>eN v6 (eC Q λQ v6=>eA Q λQ=>eC Q λQ v7=>eI .i64 Q λQ=>eC v7 λv7 v8=>eI .i64 v7 λv7=>eN v8 (eN v6 (br ((A==Q)&&((P==v7)&&true)) (Ai (Ae lo 12 [Al t B C E G D J K H M N L,Al d S U Y Z W v1 v2 v0 v4 v5 v3] O) λv6 v8=>eB v6 (Ai (Ae v8.length 13 [Al v s b y z x w p u g i q] v8) λv6 v9=>eB v6 (Ai (Ae lo 14 [Al v s b y z x w p u g i q] v9) λv6 l0=>eB v6 (Ai (Ae lo 13 [Al v s b y z x w p u g i q] l0) λv6 l1=>eB v6 (br (A==0) (Ai (Ae lo 12 [Al t B C E G D J K H M N L,Al v s b y z x w p u g i q] l1) λv6 l2=>eB v6 (Cc l2) (AI l2)) (AZ lo false o j true 0 v s b y z x w p u g i q k e f t B C E G D J K H M N L A P l1)) (br ((A==Q)&&((P==v7)&&true)) (Ai (Ae lo 12 [Al t B C E G D J K H M N L,Al d S U Y Z W v1 v2 v0 v4 v5 v3] l1) λv6 l2=>eB v6 (Ai (Ae l2.length 13 [Al v s b y z x w p u g i q] l2) λv6 l3=>eB v6 (Ai (Ae lo 14 [Al v s b y z x w p u g i q] l3) λv6 l4=>eB v6 (Cc l4) (AI l4)) (Ai (Ae lo 14 [Al v s b y z x w p u g i q] l3) λv6 l3=>eB v6 (AI l3) (Cc l3))) (AI l2)) (AI l1))) (br ((A==Q)&&((P==v7)&&true)) (Ai (Ae lo 12 [Al t B C E G D J K H M N L,Al d S U Y Z W v1 v2 v0 v4 v5 v3] l0) λv6 l1=>eB v6 (Ai (Ae l1.length 13 [Al v s b y z x w p u g i q] l1) λv6 l2=>eB v6 (Ai (Ae lo 14 [Al v s b y z x w p u g i q] l2) λv6 l3=>eB v6 (Cc l3) (AI l3)) (Ai (Ae lo 14 [Al v s b y z x w p u g i q] l2) λv6 l2=>eB v6 (AI l2) (Cc l2))) (AI l1)) (AI l0))) (Ai (Ae lo 14 [Al v s b y z x w p u g i q] v9) λv6 v9=>eB v6 (br ((A==Q)&&((P==v7)&&true)) (Ai (Ae lo 12 [Al t B C E G D J K H M N L,Al d S U Y Z W v1 v2 v0 v4 v5 v3] v9) λv6 l0=>eB v6 (Ai (Ae l0.length 13 [Al v s b y z x w p u g i q] l0) λv6 l1=>eB v6 (Ai (Ae lo 14 [Al v s b y z x w p u g i q] l1) λv6 l2=>eB v6 (Cc l2) (AI l2)) (Ai (Ae lo 14 [Al v s b y z x w p u g i q] l1) λv6 l1=>eB v6 (AI l1) (Cc l1))) (AI l0)) (AI v9)) (Ai (Ae lo 13 [Al v s b y z x w p u g i q] v9) λv6 v9=>eB v6 (br (A==0) (Ai (Ae lo 12 [Al t B C E G D J K H M N L,Al v s b y z x w p u g i q] v9) λv6 l0=>eB v6 (Cc l0) (AI l0)) (AZ lo false o j true 0 v s b y z x w p u g i q k e f t B C E G D J K H M N L A P v9)) (br ((A==Q)&&((P==v7)&&true)) (Ai (Ae lo 12 [Al t B C E G D J K H M N L,Al d S U Y Z W v1 v2 v0 v4 v5 v3] v9) λk e=>eB k (Ai (Ae e.length 13 [Al v s b y z x w p u g i q] e) λk f=>eB k (Ai (Ae lo 14 [Al v s b y z x w p u g i q] f) λk v6=>eB k (Cc v6) (AI v6)) (Ai (Ae lo 14 [Al v s b y z x w p u g i q] f) λk f=>eB k (AI f) (Cc f))) (AI e)) (AI v9))))) (br ((A==Q)&&((P==v7)&&true)) (Ai (Ae lo 12 [Al t B C E G D J K H M N L,Al d S U Y Z W v1 v2 v0 v4 v5 v3] v8) λk e=>eB k (Ai (Ae e.length 13 [Al v s b y z x w p u g i q] e) λk f=>eB k (Ai (Ae lo 14 [Al v s b y z x w p u g i q] f) λk v6=>eB k (Cc v6) (AI v6)) (Ai (Ae lo 14 [Al v s b y z x w p u g i q] f) λk f=>eB k (AI f) (Cc f))) (AI e)) (AI v8))) (br ((A==Q)&&((P==v7)&&true)) (Ai (Ae lo 12 [Al t B C E G D J K H M N L,Al d S U Y Z W v1 v2 v0 v4 v5 v3] O) λk t=>eB k (Ai (Ae t.length 13 [Al v s b y z x w p u g i q] t) λk d=>eB k (Ai (Ae lo 14 [Al v s b y z x w p u g i q] d) λk e=>eB k (Cc e) (AI e)) (Ai (Ae lo 14 [Al v s b y z x w p u g i q] d) λk d=>eB k (AI d) (Cc d))) (AI t)) (AI O))))))))))) (eC m λk m=>eA k λk=>eC k λk t=>eS 2 k λk d e=>eN t (eN m (Ai (Ae lo 10 [Al v s b y z x w p u g i q,Iv o,.str j,.bool false,Am k d e] l) λl m=>eU l λl=>eC l λl t=>eA l λl=>eC l λl f=>eI .i64 l λl=>eC f λf A=>eI .i64 f λf=>eC A λA B=>eS 2 A λA C D=>eC B λB E=>eS 6 B λB G H=>eC E λE J=>eS 1 E λE K L=>eC J λJ M=>eBv J λJ=>eN M (eC t λt M=>eA t λt=>eC t λt N=>eI .i64 t λt=>eC N λN O=>eI .i64 N λN=>eN O (eN M (Ai (Ae lo 11 [Al v s b y z x w p u g i q,Iv o,.str j,.bool false,Am k d e] m) λm M=>eU m λm=>eC m λm O=>eA m λm=>eC m λm P=>eI .i64 m λm=>eC P λP Q=>eI .i64 P λP=>eC Q λQ S=>eS 2 Q λQ U W=>eC S λS Y=>eS 6 S λS Z v0=>eC Y λY v1=>eS 1 Y λY v2 v3=>eC v1 λv1 v4=>eBv v1 λv1=>eN v4 (eC O λO v4=>eA O λO=>eC O λO v5=>eI .i64 O λO=>eC v5 λv5 v6=>eI .i64 v5 λv5=>eN v6 (eN v4 (br ((t==O)&&((N==v5)&&true)) (Ai (Ae lo 12 [Al l f A C D B G H E K L J,Al m P Q U W S Z v0 Y v2 v3 v1] M) λv4 v6=>eB v4 (Ai (Ae v6.length 13 [Al v s b y z x w p u g i q] v6) λv4 v7=>eB v4 (Ai (Ae lo 14 [Al v s b y z x w p u g i q] v7) λv4 v8=>eB v4 (Ai (Ae lo 13 [Al v s b y z x w p u g i q] v8) λv4 v9=>eB v4 (br (t==0) (Ai (Ae lo 12 [Al l f A C D B G H E K L J,Al v s b y z x w p u g i q] v9) λv4 l0=>eB v4 (Cc l0) (AI l0)) (AZ lo false o j false 0 v s b y z x w p u g i q k d e l f A C D B G H E K L J t N v9)) (br ((t==O)&&((N==v5)&&true)) (Ai (Ae lo 12 [Al l f A C D B G H E K L J,Al m P Q U W S Z v0 Y v2 v3 v1] v9) λv4 l0=>eB v4 (Ai (Ae l0.length 13 [Al v s b y z x w p u g i q] l0) λv4 l1=>eB v4 (Ai (Ae lo 14 [Al v s b y z x w p u g i q] l1) λv4 l2=>eB v4 (Cc l2) (AI l2)) (Ai (Ae lo 14 [Al v s b y z x w p u g i q] l1) λv4 l1=>eB v4 (AI l1) (Cc l1))) (AI l0)) (AI v9))) (br ((t==O)&&((N==v5)&&true)) (Ai (Ae lo 12 [Al l f A C D B G H E K L J,Al m P Q U W S Z v0 Y v2 v3 v1] v8) λv4 v9=>eB v4 (Ai (Ae v9.length 13 [Al v s b y z x w p u g i q] v9) λv4 l0=>eB v4 (Ai (Ae lo 14 [Al v s b y z x w p u g i q] l0) λv4 l1=>eB v4 (Cc l1) (AI l1)) (Ai (Ae lo 14 [Al v s b y z x w p u g i q] l0) λv4 l0=>eB v4 (AI l0) (Cc l0))) (AI v9)) (AI v8))) (Ai (Ae lo 14 [Al v s b y z x w p u g i q] v7) λv4 v7=>eB v4 (br ((t==O)&&((N==v5)&&true)) (Ai (Ae lo 12 [Al l f A C D B G H E K L J,Al m P Q U W S Z v0 Y v2 v3 v1] v7) λv4 v8=>eB v4 (Ai (Ae v8.length 13 [Al v s b y z x w p u g i q] v8) λv4 v9=>eB v4 (Ai (Ae lo 14 [Al v s b y z x w p u g i q] v9) λv4 l0=>eB v4 (Cc l0) (AI l0)) (Ai (Ae lo 14 [Al v s b y z x w p u g i q] v9) λv4 v9=>eB v4 (AI v9) (Cc v9))) (AI v8)) (AI v7)) (Ai (Ae lo 13 [Al v s b y z x w p u g i q] v7) λv4 v7=>eB v4 (br (t==0) (Ai (Ae lo 12 [Al l f A C D B G H E K L J,Al v s b y z x w p u g i q] v7) λv4 v8=>eB v4 (Cc v8) (AI v8)) (AZ lo false o j false 0 v s b y z x w p u g i q k d e l f A C D B G H E K L J t N v7)) (br ((t==O)&&((N==v5)&&true)) (Ai (Ae lo 12 [Al l f A C D B G H E K L J,Al m P Q U W S Z v0 Y v2 v3 v1] v7) λo j=>eB o (Ai (Ae j.length 13 [Al v s b y z x w p u g i q] j) λo k=>eB o (Ai (Ae lo 14 [Al v s b y z x w p u g i q] k) λo d=>eB o (Cc d) (AI d)) (Ai (Ae lo 14 [Al v s b y z x w p u g i q] k) λo k=>eB o (AI k) (Cc k))) (AI j)) (AI v7))))) (br ((t==O)&&((N==v5)&&true)) (Ai (Ae lo 12 [Al l f A C D B G H E K L J,Al m P Q U W S Z v0 Y v2 v3 v1] v6) λo j=>eB o (Ai (Ae j.length 13 [Al v s b y z x w p u g i q] j) λo k=>eB o (Ai (Ae lo 14 [Al v s b y z x w p u g i q] k) λo d=>eB o (Cc d) (AI d)) (Ai (Ae lo 14 [Al v s b y z x w p u g i q] k) λo k=>eB o (AI k) (Cc k))) (AI j)) (AI v6))) (br ((t==O)&&((N==v5)&&true)) (Ai (Ae lo 12 [Al l f A C D B G H E K L J,Al m P Q U W S Z v0 Y v2 v3 v1] M) λl o=>eB l (Ai (Ae o.length 13 [Al v s b y z x w p u g i q] o) λl j=>eB l (Ai (Ae lo 14 [Al v s b y z x w p u g i q] j) λl k=>eB l (Cc k) (AI k)) (Ai (Ae lo 14 [Al v s b y z x w p u g i q] j) λv l=>eB v (AI l) (Cc l))) (AI o)) (AI M))))))))))))))=some r) :
  Ae lo 3 [.sl 1 a n c] h=some r :=
 eK Tryz.func3 hk
theorem AZ.e {lo k g G n m i j:Nat}{b0 f b1 F:Bool}{t x w N q M z y:Int}{S:ByteArray}{d a0 a1 a b A B:Pq}{u D c0 c p s C:Nq}{h:Heap} :
  AZ lo b0 t S f x w N d k u a0 g D a1 G c0 b1 a n c q M b m p A i s B j C F z y h=br (decide (x<4)) (Aq x n (eO a λv=>eO (ld h v.1 (v.2+x.toNat) 0 2) λv=>eC v λv l=>eI .i64 v λv=>eC l λl o=>eI .i64 l λl=>eN o (Ai (Ae lo 15 [Ax v l,Ax z y] h) λv l=>eB v (Aq 0 k (eO d λv=>eO (ld l v.1 (v.2+0) 0 1) λv=>eC v λv o=>eN o (eS 6 v λv o e=>Aq x o (eO v λv=>eO (ld l v.1 (v.2+x.toNat) 1 2) λv=>eC v λv o=>eI .i64 v λv=>eC o λo e=>eI .i64 o λo=>eN e (Ai (Ae lo 15 [Ax v o,Ax z y] l) λv o=>eB v (AZ lo b0 t S f (Ao (x+1)) w N d k u a0 g D a1 G c0 b1 a n c q M b m p A i s B j C F z y o) (AI o)))))) (AI l)))) (Aq 0 m (eO b λv=>eO (ld h v.1 (v.2+0) 0 1) λv=>eC v λv l=>eN l (eS 6 v λv l o=>Aq t l (eO v λv=>eO (ld h v.1 (v.2+t.toNat) 0 6) λv=>eC v λv l=>eI .i64 v λv=>eC l λv l=>eI .i64 v λv=>eC l λl o=>eI .i64 l λl=>eC o λo e=>eS 2 o λo E H=>eC e λe J=>eT e λe=>eC J λJ K=>eBv J λJ=>eN K (Ai (Ae lo 13 [Al q M b m p A i s B j C F] h) λK L=>eB K (Ai (Ae lo 16 [Am b m p] L) λK O=>eB K (br ((v==z)&&((l==y)&&true)) (br (y==w) (br (e.toList==S.toList) (br (J==f) (Ai (Ae lo 17 [Am o E H,Am a n c] O) λv l=>eB v (Ai (Ae l.length 19 [Am d k u] l) λv o=>eA v λv=>eC v λv e=>eS 2 v λv E H=>eN e (Ai (Ae lo 18 [Am a n c,Am v E H] o) λv o=>eB v (Cc o) (AI o))) (AI l)) (AI O)) (AI O)) (AI O)) (AI O)) (AI O)) (AI L)))))) :=
 lE
def EH lo f x a n c b m p d k u e i s A j C B g D a0 G c0 a1 H c1 h:=
 LA 4 Tryz.f4 221311111 0 111111 lo ⟨[(4,.bool f),(8,.lp 8 0),(9,.lp 9 0),(10,Iv x)],[(8,(DC a n c b m p d k u e i s)),(9,(DC A j C B g D a0 G c0 a1 H c1))],h⟩
theorem EH.e :
  EH lo f x B j u a i s a0 g C b n c a1 G D d m c0 a2 H c1 A k p h=br (decide (x<(m:Int))) (Aq x i (eO a λv=>eO (ld h v.1 (v.2+x.toNat) 1 1) λv=>eC v λv l=>eS 2 v λv o y=>eN l (Aq x m (eO d λl=>eO (ld h l.1 (l.2+x.toNat) 1 1) λl=>eC l λl z=>eS 2 l λl w q=>eN z (Ai (Ae lo 18 [Am v o y,Am l w q] h) λv l=>eB v (EH lo f (Ao (x+1)) B j u a i s a0 g C b n c a1 G D d m c0 a2 H c1 A k p l) (AI l)))))) (br (decide ((n:Int)<=(k:Int))) (AL A k p none (some (Iv (n:Int))) none λv l o=>Ai (Ae lo 24 [.sl 5 v l o,.sl 5 b n c] h) λv l=>eB v (Cc l) (AI l)) (AI h)) :=
 lE
def D3 lo f x a n c b m p d k u e i s h:=
 LA 5 Tryz.f5 221311111 0 111111 lo ⟨[(2,.bool f),(6,.lp 6 0),(7,Iv x)],[(6,(DC a n c b m p d k u e i s))],h⟩
theorem D3.e :
  D3 lo f x a n c b m p d k u A i s h=br (decide (x<(n:Int))) (Aq x n (eO a λv=>eO (ld h v.1 (v.2+x.toNat) 2 1) λv=>eC v λv l=>eS 2 v λv o y=>eN l (Ai (Ae lo 16 [Am v o y] h) λl y=>eB l (Aq (Ao ((o:Int) - 1)) o (eO v λv=>eO (ld y v.1 (v.2+((Ao ((o:Int) - (1:Int))).toNat)) 0 1) λv=>eC v λv l=>eS 6 v λv o z=>eN l (Ai (Ae lo 26 [Bh v o z] y) λv l=>eB v (D3 lo f (Ao (x+1)) a n c b m p d k u A i s l) (AI l)))) (AI y)))) (Cc h) :=
 lE
def DD lo a n c x b m p d k u e i s A j C B g D a0 G c0 a1 H c1 a2 J c2 h:=
 LA 6 Tryz.f6 2213111111 0 1111111 lo ⟨[(5,.sl 6 a n c),(6,.lp 6 0),(7,.lp 7 0),(8,Iv x)],[(6,(DC b m p d k u e i s A j C)),(7,(DC B g D a0 G c0 a1 H c1 a2 J c2))],h⟩
theorem DD.e {lo n m k i j g G H J:Nat}{B a b d A a0 a1 a2 a3:Pq}{c2 c p u s C D c0 c1:Nq}{x:Int}{h:Heap} :
  DD lo B n c2 x a m c b k p d i u A j s a0 g C a1 G D a2 H c0 a3 J c1 h=br (decide (x<(n:Int))) (br (decide (x<60)) (Aq x n (eO B λv=>eO (ld h v.1 (v.2+x.toNat) 0 6) λv=>eC v λv l=>eI .i64 v λv=>eC l λl o=>eI .i64 l λl=>eC o λo y=>eI .i64 o λo=>eC y λy z=>eI .i64 y λy=>eC z λz w=>eT z λz=>eC w λw q=>eBv w λw=>eN q (Ai (Ae lo 28 [Av a0 g C a1 G D a2 H c0 a3 J c1,BZ v l o y z w] h) λv l=>eU v λv=>eC v λv o=>eA v λv=>eC v λv y=>eS 6 v λv z w=>eC y λy q=>eS 5 y λy t e=>eC q λq f=>eS 9 q λq E K=>eC f λf L=>eS 5 f λf M N=>eN L (eC o λo L=>eB o (eN L (DD lo B n c2 (Ao (x+1)) a m c b k p d i u A j s v z w y t e q E K f M N l)) (eN L (DD lo B n c2 (Ao (x+1)) a m c b k p d i u A j s v z w y t e q E K f M N l)))))) (Ai (Ae lo 22 [Av a0 g C a1 G D a2 H c0 a3 J c1,Av a m c b k p d i u A j s] h) λv l=>eB v (Cc l) (AI l))) (Ai (Ae lo 22 [Av a0 g C a1 G D a2 H c0 a3 J c1,Av a m c b k p d i u A j s] h) λv l=>eB v (Cc l) (AI l)) :=
 lE
theorem JS (hk:(Ai (Ae lo 41 [.sl 1 a n c] h) λv l=>eP v λv=>Ai (Ae lo 42 [.ptr v] l) λl o=>eA l λl=>eC l λl s=>eI .i64 l λl=>eC s λs b=>eI .i64 s λs=>eC b λb x=>eS 2 b λb y z=>eC x λx u=>eS 6 x λx w p=>eC u λu q=>eS 1 u λu g i=>eC q λq j=>eBv q λq=>eN j (Ai (Ae lo 43 [.ptr v] o) λo j=>eA o λo=>eC o λo k=>eS 2 o λo m t=>eN k (Ai (Ae lo 44 [.ptr v,Iv 3] j) λj k=>eI .i64 j λj=>br (decide (j>0)) (Ai (Ae lo 45 [] k) λj d=>eA j λj=>eC j λj e=>eS 2 j λj f A=>eN e (Ai (Ae lo 46 [Am b y z] d) λd e=>eB d (Ai (Ae lo 47 [Am b y z] e) λd B=>eA d λd=>eC d λd C=>eS 2 d λd D E=>eN C (Ai (Ae lo 48 [.ptr v,.sl 1 (some (B.length,0)) 4 (some 4)] (B ++ [.rows 1 9 false [[.str ⟨⟨[97]⟩⟩],[.str ⟨⟨[98]⟩⟩],[.str ⟨⟨[]⟩⟩],[.str ⟨⟨[97,32,98]⟩⟩]]])) λB C=>eT B λB=>Ai (Ae lo 49 [.ptr v,.sl 1 (some (C.length,0)) 5 (some 5)] (C ++ [.rows 1 3 false [Au 0,Au 1,Au 2,Au 3,Au 4]])) λC G=>eI .i64 C λC=>br (B.toList==(ByteArray.mk #[]).toList) (Ai (Ae lo 44 [.ptr v,Iv 2] G) λH J=>eI .i64 H λH=>br (H==0) (some (.tup [Al l s b y z x w p u g i q,Iv C,.str B,.bool true,Am d D E],J)) (some (.tup [Al l s b y z x w p u g i q,Iv C,.str B,.bool false,Am d D E],J))) (some (.tup [Al l s b y z x w p u g i q,Iv C,.str B,.bool false,Am d D E],G)))) (Ai (Ae lo 48 [.ptr v,.sl 1 (some (e.length,0)) 4 (some 4)] (e ++ [.rows 1 9 false [[.str ⟨⟨[97]⟩⟩],[.str ⟨⟨[98]⟩⟩],[.str ⟨⟨[]⟩⟩],[.str ⟨⟨[97,32,98]⟩⟩]]])) λd e=>eT d λd=>Ai (Ae lo 49 [.ptr v,.sl 1 (some (e.length,0)) 5 (some 5)] (e ++ [.rows 1 3 false [Au 0,Au 1,Au 2,Au 3,Au 4]])) λe B=>eI .i64 e λe=>br (d.toList==(ByteArray.mk #[]).toList) (Ai (Ae lo 44 [.ptr v,Iv 2] B) λC D=>eI .i64 C λC=>br (C==0) (some (.tup [Al l s b y z x w p u g i q,Iv e,.str d,.bool true,Am j f A],D)) (some (.tup [Al l s b y z x w p u g i q,Iv e,.str d,.bool false,Am j f A],D))) (some (.tup [Al l s b y z x w p u g i q,Iv e,.str d,.bool false,Am j f A],B))))) (Ai (Ae lo 48 [.ptr v,.sl 1 (some (k.length,0)) 4 (some 4)] (k ++ [.rows 1 9 false [[.str ⟨⟨[97]⟩⟩],[.str ⟨⟨[98]⟩⟩],[.str ⟨⟨[]⟩⟩],[.str ⟨⟨[97,32,98]⟩⟩]]])) λj k=>eT j λj=>Ai (Ae lo 49 [.ptr v,.sl 1 (some (k.length,0)) 5 (some 5)] (k ++ [.rows 1 3 false [Au 0,Au 1,Au 2,Au 3,Au 4]])) λk d=>eI .i64 k λk=>br (j.toList==(ByteArray.mk #[]).toList) (Ai (Ae lo 44 [.ptr v,Iv 2] d) λv e=>eI .i64 v λv=>br (v==0) (some (.tup [Al l s b y z x w p u g i q,Iv k,.str j,.bool true,Am o m t],e)) (some (.tup [Al l s b y z x w p u g i q,Iv k,.str j,.bool false,Am o m t],e))) (some (.tup [Al l s b y z x w p u g i q,Iv k,.str j,.bool false,Am o m t],d))))))=some r) :
  Ae lo 9 [.sl 1 a n c] h=some r :=
 eK Tryz.func9 hk
theorem MF {e:Pq} (hk:(Ai (Ae lo 50 [Al y z b m p d k u e i s F,.fn 51 [.ptr (some (h.length,(0,0))),.ptr (some ((List.length (((h ++ [.rows 1 3 false [Au x]]) ++ [.rows 1 9 false [[.str S]]]) ++ [.rows 1 4 false [[.bool f]]])),(0,0))),.ptr (some ((List.length (h ++ [.rows 1 3 false [Au x]])),(0,0))),.ptr (some ((List.length ((h ++ [.rows 1 3 false [Au x]]) ++ [.rows 1 9 false [[.str S]]])),(0,0))),.ptr (some ((List.length ((((h ++ [.rows 1 3 false [Au x]]) ++ [.rows 1 9 false [[.str S]]]) ++ [.rows 1 4 false [[.bool f]]]) ++ [.rows 1 32 false [Bk a n c]])),(0,0)))]] (((((h ++ [.rows 1 3 false [Au x]]) ++ [.rows 1 9 false [[.str S]]]) ++ [.rows 1 4 false [[.bool f]]]) ++ [.rows 1 32 false [Bk a n c]]) ++ [.rows 2 36 false [BN 0 0]])) λv l=>eU v λv=>eC v λv o=>eA v λv=>eC v λv w=>eI .i64 v λv=>eC w λw q=>eI .i64 w λw=>eC q λq g=>eS 2 q λq j t=>eC g λg A=>eS 6 g λg B C=>eC A λA D=>eS 1 A λA E G=>eC D λD H=>eBv D λD=>eN H (eC o λo H=>eB o (eN H (eO (ld l (List.length ((((h ++ [.rows 1 3 false [Au x]]) ++ [.rows 1 9 false [[.str S]]]) ++ [.rows 1 4 false [[.bool f]]]) ++ [.rows 1 32 false [Bk a n c]])) 0 0 2) λo=>eC o λo J=>eI .i64 o λo=>eC J λJ K=>eI .i64 J λJ=>eN K (some (.tup [Al v w q j t g B C A E G D,Ax o J],l)))) (eN H (eO (ld l (List.length ((((h ++ [.rows 1 3 false [Au x]]) ++ [.rows 1 9 false [[.str S]]]) ++ [.rows 1 4 false [[.bool f]]]) ++ [.rows 1 32 false [Bk a n c]])) 0 0 2) λo=>eC o λo H=>eI .i64 o λo=>eC H λH J=>eI .i64 H λH=>eN J (some (.tup [Al v w q j t g B C A E G D,Ax o H],l))))))=some r) :
  Ae lo 10 [Al y z b m p d k u e i s F,Iv x,.str S,.bool f,Am a n c] h=some r :=
 eK Tryz.func10 hk
theorem Mz {e:Pq} (hk:(Ai (Ae lo 53 [Al x y a n c b m p d k u f] h) λv l=>eB v (Ai (Ae lo 54 (Dh z 0 3) l) λv o=>eB v (Ai (Ae lo 55 [.str S] o) λv w=>eB v (br F (br (S.toList==(ByteArray.mk #[]).toList) (Ai (Ae lo 56 [Am e i s] w) λv q=>eB v (Ai (Ae lo 57 [Al x y a n c b m p d k u f,Am e i s] q) λv g=>eB v (Ai (Ae lo 58 [Al x y a n c b m p d k u f] g) λv j=>eA v λv=>eC v λv t=>eI .i64 v λv=>eC t λt A=>eI .i64 t λt=>eC A λA B=>eS 2 A λA C D=>eC B λB E=>eS 6 B λB G H=>eC E λE J=>eS 1 E λE K L=>eC J λJ M=>eBv J λJ=>eN M (Ai (Ae lo 59 [Al v t A C D B G H E K L J,Iv z,.str S,.bool true,Am e i s] j) λv j=>eU v λv=>eC v λv t=>eA v λv=>eC v λv A=>eI .i64 v λv=>eC A λA B=>eI .i64 A λA=>eC B λB C=>eS 2 B λB D E=>eC C λC G=>eS 6 C λC H J=>eC G λG K=>eS 1 G λG L M=>eC K λK N=>eBv K λK=>eN N (eC t λt N=>eA t λt=>eC t λt O=>eI .i64 t λt=>eC O λO P=>eI .i64 O λO=>eN P (eN N (some (.tup [Al v A B D E C H J G L M K,Ax t O],j)))))) (Ai (Ae lo 58 [Al x y a n c b m p d k u f] g) λv g=>eA v λv=>eC v λv j=>eI .i64 v λv=>eC j λj t=>eI .i64 j λj=>eC t λt A=>eS 2 t λt B C=>eC A λA D=>eS 6 A λA E G=>eC D λD H=>eS 1 D λD J K=>eC H λH L=>eBv H λH=>eN L (some (.tup [Al v j t B C A E G D J K H,Ax 0 0],g)))) (Ai (Ae lo 58 [Al x y a n c b m p d k u f] q) λv q=>eA v λv=>eC v λv g=>eI .i64 v λv=>eC g λg j=>eI .i64 g λg=>eC j λj t=>eS 2 j λj A B=>eC t λt C=>eS 6 t λt D E=>eC C λC G=>eS 1 C λC H J=>eC G λG K=>eBv G λG=>eN K (some (.tup [Al v g j A B t D E C H J G,Ax 0 0],q)))) (Ai (Ae lo 58 [Al x y a n c b m p d k u f] w) λv q=>eA v λv=>eC v λv g=>eI .i64 v λv=>eC g λg j=>eI .i64 g λg=>eC j λj t=>eS 2 j λj A B=>eC t λt C=>eS 6 t λt D E=>eC C λC G=>eS 1 C λC H J=>eC G λG K=>eBv G λG=>eN K (some (.tup [Al v g j A B t D E C H J G,Ax 0 0],q)))) (Ai (Ae lo 56 [Am e i s] w) λv q=>eB v (Ai (Ae lo 57 [Al x y a n c b m p d k u f,Am e i s] q) λv g=>eB v (Ai (Ae lo 58 [Al x y a n c b m p d k u f] g) λv j=>eA v λv=>eC v λv t=>eI .i64 v λv=>eC t λt A=>eI .i64 t λt=>eC A λA B=>eS 2 A λA C D=>eC B λB E=>eS 6 B λB G H=>eC E λE J=>eS 1 E λE K L=>eC J λJ M=>eBv J λJ=>eN M (Ai (Ae lo 59 [Al v t A C D B G H E K L J,Iv z,.str S,.bool false,Am e i s] j) λv j=>eU v λv=>eC v λv t=>eA v λv=>eC v λv A=>eI .i64 v λv=>eC A λA B=>eI .i64 A λA=>eC B λB C=>eS 2 B λB D E=>eC C λC G=>eS 6 C λC H J=>eC G λG K=>eS 1 G λG L M=>eC K λK N=>eBv K λK=>eN N (eC t λt N=>eA t λt=>eC t λt O=>eI .i64 t λt=>eC O λO P=>eI .i64 O λO=>eN P (eN N (some (.tup [Al v A B D E C H J G L M K,Ax t O],j)))))) (Ai (Ae lo 58 [Al x y a n c b m p d k u f] g) λv g=>eA v λv=>eC v λv j=>eI .i64 v λv=>eC j λj t=>eI .i64 j λj=>eC t λt A=>eS 2 t λt B C=>eC A λA D=>eS 6 A λA E G=>eC D λD H=>eS 1 D λD J K=>eC H λH L=>eBv H λH=>eN L (some (.tup [Al v j t B C A E G D J K H,Ax 0 0],g)))) (Ai (Ae lo 58 [Al x y a n c b m p d k u f] q) λv q=>eA v λv=>eC v λv g=>eI .i64 v λv=>eC g λg j=>eI .i64 g λg=>eC j λj t=>eS 2 j λj A B=>eC t λt C=>eS 6 t λt D E=>eC C λC G=>eS 1 C λC H J=>eC G λG K=>eBv G λG=>eN K (some (.tup [Al v g j A B t D E C H J G,Ax 0 0],q))))) (Ai (Ae lo 58 [Al x y a n c b m p d k u f] w) λv w=>eA v λv=>eC v λv q=>eI .i64 v λv=>eC q λq g=>eI .i64 q λq=>eC g λg j=>eS 2 g λg t A=>eC j λj B=>eS 6 j λj C D=>eC B λB E=>eS 1 B λB G H=>eC E λE J=>eBv E λE=>eN J (some (.tup [Al v q g t A j C D B G H E,Ax 0 0],w)))) (Ai (Ae lo 58 [Al x y a n c b m p d k u f] o) λv o=>eA v λv=>eC v λv w=>eI .i64 v λv=>eC w λw q=>eI .i64 w λw=>eC q λq g=>eS 2 q λq j t=>eC g λg A=>eS 6 g λg B C=>eC A λA D=>eS 1 A λA E G=>eC D λD H=>eBv D λD=>eN H (some (.tup [Al v w q j t g B C A E G D,Ax 0 0],o)))) (some (.tup [.agg [Iv 0,Iv 0,.sl 0 none 0 (some 0),.sl 0 none 0 (some 0),.sl 0 none 0 (some 0),.bool false],Ax 0 0],l)))=some r) :
  Ae lo 11 [Al x y a n c b m p d k u f,Iv z,.str S,.bool F,Am e i s] h=some r :=
 by cases F<;>exact eK Tryz.func11 hk
def Cy lo f x y z a n c b m p d k u F t w e i s A j C B g D b0 h:=
 LA 12 Tryz.f12 221311 0 111 lo ⟨[(2,.lp 2 0),(3,.lp 3 0),(4,.bool f),(5,Iv x)],[(2,(CB y z a n c b m p d k u F)),(3,(CB t w e i s A j C B g D b0))],h⟩
theorem Qt {e:Pq} (hk:(br (x==z) (br (y==t) (br (f==F) (Ai (Ae h.length 60 [Am a n c,Am d i u] h) λl o=>eB l (Ai (Ae h.length 61 (Kh b m p e j s) o) λl w=>eB l (br ((k:Int)==(g:Int)) (Cy h.length false 0 x y a n c b m p A k C f z t d i u e j s B g D F w) (AI w)) (AI w)) (AI o)) (AI h)) (AI h)) (AI h))=some (v,h')) (hn:noId v=true:=by rfl) :
  Ae lo 12 [Al x y a n c b m p A k C f,Al z t d i u e j s B g D F] h=some (v,h) :=
 eD Tryz.func12 hk hn
theorem Cy.e {lo k i n j g m:Nat}{f F b0:Bool}{x y z t w:Int}{d A a B a0 b:Pq}{c p u s C D:Nq}{h:Heap} :
  Cy lo f x y z d k c A i p a n u F t w B j s a0 g C b m D b0 h=br (decide (x<(n:Int))) (Aq x n (eO a λv=>eO (ld h v.1 (v.2+x.toNat) 0 1) λv=>eC v λv l=>eN l (eS 6 v λv l o=>Aq x m (eO b λq=>eO (ld h q.1 (q.2+x.toNat) 0 1) λq=>eC q λq e=>eN e (eS 6 q λq e E=>Ai (Ae lo 61 (Kh v l o q e E) h) λv l=>eB v (Cy lo f (Ao (x+1)) y z d k c A i p a n u F t w B j s a0 g C b m D b0 l) (AI l)))))) (Cc h) :=
 lE
def B8 lo n m k f a i c x y b j p h:=
 LA 13 Tryz.f13 2213111 0 1111 lo ⟨[(1,(Bi n m k)),(2,.bool f),(3,.lp 3 0),(45,.sl 2 a i c),(46,Iv x),(47,Iv y)],[(3,(Bk b j p))],h⟩
def Bv lo n m k f x a i c y z b j p t w d g u h:=
 Lp (X 13) lo (pf 221123112213111 Tryz.f13) 2 (A8 2 (A8 1 (kS (X 13) lo (pf 1112213111 Tryz.f13) 0 (U0 (X 13) lo (pf 2213111 Tryz.f13) 0 (A8 0 (kS (X 13) lo (pf 1111 Tryz.f13) 0 (I0 (X 13) Tryz.f13.results.toList))))))) ⟨[(1,(Bi n m k)),(2,.bool f),(3,.lp 3 0),(4,Iv x),(45,.sl 2 a i c),(46,Iv y),(47,Iv z),(58,.sl 6 b j p),(59,Iv t),(60,Iv w)],[(3,(Bk d g u))],h⟩
def B7 lo n m k f a i c x y h:=
 LA 13 Tryz.f13 22131111 4 11111 lo ⟨[(1,(Bi n m k)),(2,.bool f),(90,.sl 1 a i c),(91,Iv x),(92,Iv y)],[],h⟩
theorem Qz (hk:(eO (ld (h ++ [.rows 6 29 false [CB x y a n c b m p d k u f]]) h.length 0 0 1) λl=>eC l λl o=>eN o (eI .i64 l λl=>Ai (Ae h.length 62 (Au l) (h ++ [.rows 6 29 false [CB x y a n c b m p d k u f]])) λl o=>eB l (eO (ld o h.length 0 1 1) λl=>eC l λl s=>eN s (eI .i64 l λl=>Ai (Ae h.length 63 (Dh l 0 999) o) λl s=>eB l (eO (ld s h.length 0 2 1) λl=>eC l λl z=>eS 2 l λl w q=>eN z (Ai (Ae h.length 64 [Am l w q] s) λl z=>eB l (eO (ld z h.length 0 3 1) λl=>eC l λl w=>eN w (eS 6 l λl w q=>eO (ld z h.length 0 0 1) λg=>eC g λg i=>eN i (eI .i64 g λg=>Ai (Ae h.length 65 [.sl 6 l w q,Iv g] z) λl w=>eB l (eO (ld w h.length 0 4 1) λl=>eC l λl q=>eN q (eS 1 l λl l q=>br ((l:Int)==3) (Ai (Ae h.length 66 [.ptr (some (h.length,(0,2)))] w) λl q=>eA l λl=>eC l λl g=>eS 6 l λl i j=>eN g (Ai (Ae h.length 67 [Bh l i j] q) λl q=>eA l λl=>eC l λl g=>eS 2 l λl i j=>eN g (eO (ld q h.length 0 2 1) λg=>eC g λg t=>eN t (eS 2 g λg t e=>B8 h.length h.length 0 0 false g t e (t:Int) 0 l i j q)))) (AI w))) (AI w)))) (AI z))) (AI s))) (AI o)))=some (v,h')) (hn:noId v=true:=by rfl) :
  Ae lo 13 [Al x y a n c b m p d k u f] h=some (v,h) :=
 eD Tryz.func13 hk hn
theorem B8.e :
  B8 lo n m k f a i c y x b j p h=br (decide (x<y)) (Aq x i (eO a λv=>eO (ld h v.1 (v.2+x.toNat) 0 2) λv=>eC v λv l=>eS 6 v λv o s=>eC l λl z=>eS 6 l λl u w=>eN z (Ai (Ae lo 68 [.sl 1 (some (h.length,0)) 2 (some 2)] (h ++ [.rows 1 26 false [Bs v o s,Bs l u w]])) λv l=>eS 6 v λv o s=>Bv lo n m k f x a i c y x v o s (o:Int) 0 b j p l))) (eO (ld h n m (k+4) 1) λv=>eC v λv l=>eN l (eS 1 v λv l o=>B7 lo n m k f v l o (l:Int) 0 h)) :=
 lE
theorem Bv.e {lo n m k j g i:Nat}{f:Bool}{y z t w x:Int}{b d a:Pq}{p u c:Nq}{h:Heap} :
  Bv lo n m k f y b j p z t d g u w x a i c h=br (decide (x<w)) (Aq x g (eO d λv=>eO (ld h v.1 (v.2+x.toNat) 0 6) λv=>eC v λv l=>eI .i64 v λv=>eC l λv l=>eI .i64 v λv=>eC l λl o=>eI .i64 l λl=>eC o λo s=>eS 2 o λo q e=>eC s λs A=>eT s λs=>eC A λs A=>eBv s λs=>eN A (br ((v==0)&&((l==0)&&true)) (br (y==0) (eO (ld h n m (k+1) 1) λl=>eC l λl s=>eN s (eI .i64 l λl=>br (decide (v>l)) (AI h) (Bv lo n m k f y b j p z t d g u w (Ao (x+1)) a i c h))) (Bv lo n m k f y b j p z t d g u w (Ao (x+1)) a i c h)) (Ai (Ae lo 69 [Am o q e,Am a i c] h) λl o=>eB l (br (y==0) (eO (ld o n m (k+1) 1) λl=>eC l λl s=>eN s (eI .i64 l λl=>br (decide (v>l)) (AI o) (Bv lo n m k f y b j p z t d g u w (Ao (x+1)) a i c o))) (Bv lo n m k f y b j p z t d g u w (Ao (x+1)) a i c o)) (AI o))))) (B8 lo n m k f b j p z (Ao (t+1)) a i c h) :=
 lE
theorem B7.e :
  B7 lo n m k f a i c y x h=br (decide (x<y)) (Aq x i (eO a λv=>eO (ld h v.1 (v.2+x.toNat) 0 1) λv=>eC v λv l=>eN l (eS 6 v λv l o=>Ai (Ae lo 65 [.sl 6 v l o,Iv x] h) λv o=>eB v (eO (ld o n m (k+0) 1) λv=>eC v λv s=>eN s (eI .i64 v λv=>br (x==v) (br (decide ((l:Int)>0)) (AI o) (B7 lo n m k f a i c y (Ao (x+1)) o)) (B7 lo n m k f a i c y (Ao (x+1)) o))) (AI o)))) (Cc h) :=
 lE
theorem Qr (hk:(Ai (Ae lo 53 [Al x y a n c b m p d k u f] h) λv l=>eB v (Cc l) (AI l))=some r) :
  Ae lo 14 [Al x y a n c b m p d k u f] h=some r :=
 eK Tryz.func14 hk
theorem Qx (hk:(Ai (Ae h.length 70 [Ax x y,Ax z t] h) λl c=>eI .i64 l λl=>br (decide (l<0)) (Cc c) (AI c))=some (v,h')) (hn:noId v=true:=by rfl) :
  Ae lo 15 [Ax x y,Ax z t] h=some (v,h) :=
 eD Tryz.func15 hk hn
def Co lo f x a n c b m p h:=
 LA 16 Tryz.f16 221311 0 111 lo ⟨[(1,.lp 1 0),(2,.bool f),(3,.lp 3 0),(4,Iv x)],[(1,(Bk a n c)),(3,(Bk b m p))],h⟩
def BX lo f x y a n c b m p h:=
 Lp (X 16) lo (pf 221231221311 Tryz.f16) 2 (A8 2 (A8 1 (kS (X 16) lo (pf 11221311 Tryz.f16) 0 (U0 (X 16) lo (pf 221311 Tryz.f16) 0 (A8 0 (kS (X 16) lo (pf 111 Tryz.f16) 0 (I0 (X 16) Tryz.f16.results.toList))))))) ⟨[(1,.lp 1 0),(2,.bool f),(3,.lp 3 0),(4,Iv x),(5,Iv y)],[(1,(Bk a n c)),(3,(Bk b m p))],h⟩
theorem OH (hk:(Ai (Ae lo 19 [Am a n c] h) λv l=>eA v λv=>eC v λv o=>eS 2 v λv s b=>eN o (Co lo false 0 a n c v s b l))=some r) :
  Ae lo 16 [Am a n c] h=some r :=
 eK Tryz.func16 hk
theorem Co.e :
  Co lo f x a n c b m p h=br (decide (x<(n:Int))) (BX lo f x 0 a n c b m p h) (Cc h) :=
 lE
theorem BX.e :
  BX lo f x y a n p b m c h=br (decide (y<4)) (Aq x n (eO a λv=>eO (ld h v.1 (v.2+x.toNat) 0 1) λv=>eC v λv l=>eN l (eS 6 v λv l o=>Aq y l (eO v λv=>eO (ld h v.1 (v.2+y.toNat) 0 6) λv=>eC v λv l=>eI .i64 v λv=>eC l λv l=>eI .i64 v λv=>eC l λl o=>eI .i64 l λl=>eC o λl o=>eS 2 l λl s z=>eC o λo u=>eT o λo=>eC u λo u=>eBv o λo=>eN u (br (decide (v>0)) (Ai (Ae lo 18 [Am l s z,Am b m c] h) λv l=>eB v (BX lo f x (Ao (y+1)) a n p b m c l) (AI l)) (BX lo f x (Ao (y+1)) a n p b m c h)))))) (Co lo f (Ao (x+1)) a n p b m c h) :=
 lE
def C8 lo f x a n c b m p h:=
 LA 17 Tryz.f17 221311 0 111 lo ⟨[(2,.lp 2 0),(3,.lp 3 0),(4,.bool f),(5,Iv x)],[(2,(Bk a n c)),(3,(Bk b m p))],h⟩
theorem Ro (hk:(br ((n:Int)==(m:Int)) (C8 h.length false 0 a n c b m p h) (AI h))=some (v,h')) (hn:noId v=true:=by rfl) :
  Ae lo 17 [Am a n c,Am b m p] h=some (v,h) :=
 eD Tryz.func17 hk hn
theorem C8.e :
  C8 lo f x a n c b m p h=br (decide (x<(n:Int))) (Aq x n (eO a λv=>eO (ld h v.1 (v.2+x.toNat) 0 2) λv=>eC v λv l=>eI .i64 v λv=>eC l λl o=>eI .i64 l λl=>eN o (Aq x m (eO b λo=>eO (ld h o.1 (o.2+x.toNat) 0 2) λo=>eC o λo s=>eI .i64 o λo=>eC s λs y=>eI .i64 s λs=>eN y (br ((v==o)&&((l==s)&&true)) (C8 lo f (Ao (x+1)) a n c b m p h) (AI h)))))) (Cc h) :=
 lE
theorem MH (hk:(Ai (Ae h.length 71 [Am a n c] h) λl o=>eB l (Ai (Ae h.length 71 [Am b m p] o) λl s=>eB l (Ai (Ae h.length 69 [Am a n c,Am b m p] s) λl x=>eB l (Cc x) (AI x)) (AI s)) (AI o))=some (v,h')) (hn:noId v=true:=by rfl) :
  Ae lo 18 [Am a n c,Am b m p] h=some (v,h) :=
 eD Tryz.func18 hk hn
theorem LE (hk:(eO (ld (h ++ [.rows 1 25 false [Bk a n c]]) h.length 0 0 1) λv=>eC v λv l=>eS 2 v λv o s=>eN l (Ai (Ae lo 64 [Am v o s] (h ++ [.rows 1 25 false [Bk a n c]])) λv l=>eB v (Ai (Ae lo 66 [.ptr (some (h.length,(0,0)))] l) λv o=>eA v λv=>eC v λv s=>eS 6 v λv b x=>eN s (Ai (Ae lo 67 [Bh v b x] o) λv o=>eA v λv=>eC v λv s=>eS 2 v λv b x=>eN s (some ((Am v b x),o)))) (some (.agg [.sl 0 none 0 (some 0)],l))))=some r) :
  Ae lo 19 [Am a n c] h=some r :=
 eK Tryz.func19 hk
def Hd lo f x a n c b m p d k u e i s A j C B g D a0 G c0 a1 H c1 h:=
 LA 22 Tryz.f22 221311 0 111 lo ⟨[(2,.lp 2 0),(3,.lp 3 0),(4,.bool f),(5,Iv x)],[(2,(DC a n c b m p d k u e i s)),(3,(DC A j C B g D a0 G c0 a1 H c1))],h⟩
def ER lo f x a n c b m p d k u e i s A j C B g D a0 G c0 a1 H c1 h:=
 LA 22 Tryz.f22 2213111 2 1111 lo ⟨[(2,.lp 2 0),(3,.lp 3 0),(4,.bool f),(6,Iv x)],[(2,(DC a n c b m p d k u e i s)),(3,(DC A j C B g D a0 G c0 a1 H c1))],h⟩
def EQ lo f x a n c b m p d k u e i s A j C B g D a0 G c0 a1 H c1 h:=
 LA 22 Tryz.f22 22131111 4 11111 lo ⟨[(2,.lp 2 0),(3,.lp 3 0),(4,.bool f),(9,Iv x)],[(2,(DC a n c b m p d k u e i s)),(3,(DC A j C B g D a0 G c0 a1 H c1))],h⟩
theorem Hd.e {lo n k i j m g G H:Nat}{f:Bool}{x:Int}{a d A B b a0 a1 a2:Pq}{c p u s C D c0 c1:Nq}{h:Heap} :
  Hd lo f x a n c d k p A i u B j s b m C a0 g D a1 G c0 a2 H c1 h=br (decide (x<(n:Int))) (Aq x n (eO a λv=>eO (ld h v.1 (v.2+x.toNat) 0 6) λv=>eC v λv l=>eI .i64 v λv=>eC l λl o=>eI .i64 l λl=>eC o λo y=>eS 2 o λo z w=>eC y λy q=>eS 6 y λy t e=>eC q λq E=>eS 1 q λq J K=>eC E λE L=>eBv E λE=>eN L (Aq x m (eO b λL=>eO (ld h L.1 (L.2+x.toNat) 0 6) λL=>eC L λL M=>eI .i64 L λL=>eC M λM N=>eI .i64 M λM=>eC N λN O=>eS 2 N λN P Q=>eC O λO S=>eS 6 O λO U W=>eC S λS Y=>eS 1 S λS Z v0=>eC Y λY v1=>eBv Y λY=>eN v1 (Ai (Ae lo 12 [Al v l o z w y t e q J K E,Al L M N P Q O U W S Z v0 Y] h) λv l=>eB v (Hd lo f (Ao (x+1)) a n c d k p A i u B j s b m C a0 g D a1 G c0 a2 H c1 l) (AI l)))))) (ER lo f 0 a n c d k p A i u B j s b m C a0 g D a1 G c0 a2 H c1 h) :=
 lE
theorem ER.e {lo k n i j g m G H:Nat}{f:Bool}{x:Int}{d a A B a0 b a1 a2:Pq}{c p u s C D c0 c1:Nq}{h:Heap} :
  ER lo f x d k c a n p A i u B j s a0 g C b m D a1 G c0 a2 H c1 h=br (decide (x<(n:Int))) (Aq x n (eO a λv=>eO (ld h v.1 (v.2+x.toNat) 0 5) λv=>eC v λv l=>eI .i64 v λv=>eC l λl o=>eS 2 l λl y z=>eC o λo w=>eI .i64 o λo=>eC w λw q=>eI .i64 w λw=>eC q λq t=>eI .i64 q λq=>eN t (Aq x m (eO b λt=>eO (ld h t.1 (t.2+x.toNat) 0 5) λt=>eC t λt e=>eI .i64 t λt=>eC e λe E=>eS 2 e λe J K=>eC E λE L=>eI .i64 E λE=>eC L λL M=>eI .i64 L λL=>eC M λM N=>eI .i64 M λM=>eN N (br (v==t) (br ((o==E)&&((w==L)&&true)) (br (q==M) (Ai (Ae lo 17 [Am l y z,Am e J K] h) λv l=>eB v (ER lo f (Ao (x+1)) d k c a n p A i u B j s a0 g C b m D a1 G c0 a2 H c1 l) (AI l)) (AI h)) (AI h)) (AI h)))))) (EQ lo f 0 d k c a n p A i u B j s a0 g C b m D a1 G c0 a2 H c1 h) :=
 lE
theorem EQ.e {lo k i n j g G m H:Nat}{f:Bool}{x:Int}{d A a B a0 a1 b a2:Pq}{c p u s C D c0 c1:Nq}{h:Heap} :
  EQ lo f x d k c A i p a n u B j s a0 g C a1 G D b m c0 a2 H c1 h=br (decide (x<(n:Int))) (Aq x n (eO a λv=>eO (ld h v.1 (v.2+x.toNat) 0 9) λv=>eC v λv l=>eI .i64 v λv=>eC l λl o=>eI .i64 l λl=>eC o λo y=>eI .i64 o λo=>eC y λy z=>eI .i64 y λy=>eC z λz w=>eI .i64 z λz=>eC w λw q=>eI .i64 w λw=>eC q λq t=>eS 2 q λq e E=>eC t λt J=>eT t λt=>eC J λJ K=>eBv J λJ=>eN K (Aq x m (eO b λK=>eO (ld h K.1 (K.2+x.toNat) 0 9) λK=>eC K λK L=>eI .i64 K λK=>eC L λL M=>eI .i64 L λL=>eC M λM N=>eI .i64 M λM=>eC N λN O=>eI .i64 N λN=>eC O λO P=>eI .i64 O λO=>eC P λP Q=>eI .i64 P λP=>eC Q λQ S=>eS 2 Q λQ U W=>eC S λS Y=>eT S λS=>eC Y λY Z=>eBv Y λY=>eN Z (br (v==K) (br (l==L) (br (o==M) (Ai (Ae lo 73 [AD y z w q e E t J,AD N O P Q U W S Y] h) λv l=>eB v (EQ lo f (Ao (x+1)) d k c A i p a n u B j s a0 g C a1 G D b m c0 a2 H c1 l) (AI l)) (AI h)) (AI h)) (AI h)))))) (Cc h) :=
 lE
def HG lo a n c b m p f x h:=
 LA 24 Tryz.f24 221311 0 111 lo ⟨[(0,.sl 5 a n c),(1,.sl 5 b m p),(4,.bool f),(5,Iv x)],[],h⟩
theorem HG.e :
  HG lo a n c b m p f x h=br (decide (x<(n:Int))) (Aq x n (eO a λv=>eO (ld h v.1 (v.2+x.toNat) 0 5) λv=>eC v λv l=>eI .i64 v λv=>eC l λl o=>eI .i64 l λl=>eC o λo s=>eI .i64 o λo=>eC s λs y=>eI .i64 s λs=>eC y λy z=>eI .i64 y λy=>eN z (Aq x m (eO b λz=>eO (ld h z.1 (z.2+x.toNat) 0 5) λz=>eC z λz u=>eI .i64 z λz=>eC u λu w=>eI .i64 u λu=>eC w λw q=>eI .i64 w λw=>eC q λq g=>eI .i64 q λq=>eC g λg i=>eI .i64 g λg=>eN i (br ((v==z)&&((l==u)&&((o==w)&&((s==q)&&((y==g)&&true))))) (HG lo a n c b m p f (Ao (x+1)) h) (AI h)))))) (Cc h) :=
 lE
def D4 lo n m k a i c x y j b g p G d H u J e P s n0 A n1 C h:=
 LA 25 Tryz.f25 2213111 0 1111 lo ⟨[(6,.lp 6 0),(7,(Bi n m k)),(22,.sl 6 a i c),(23,Iv x),(24,Iv y)],[(6,[.sl j b g p,.sl G d H u,.sl J e P s,.sl n0 A n1 C])],h⟩
theorem D4.e {lo n m k i j g G H J P n0 n1:Nat}{a b d A B:Pq}{c p u s C:Nq}{y x:Int}{h:Heap} :
  D4 lo n m k a i c y x j b g p G d H u J A P s n0 B n1 C h=br (decide (x<y)) (Aq x i (eO a λv=>eO (ld h v.1 (v.2+x.toNat) 0 6) λv=>eC v λv l=>eI .i64 v λv=>eC l λl o=>eI .i64 l λl=>eC o λo z=>eI .i64 o λo=>eC z λz w=>eI .i64 z λz=>eC w λw q=>eT w λw=>eC q λq t=>eBv q λq=>eN t (Ai (Ae lo 77 [Bi n m k,BZ v l o z w q] h) λv l=>eB v (D4 lo n m k a i c y (Ao (x+1)) j b g p G d H u J A P s n0 B n1 C l) (D4 lo n m k a i c y (Ao (x+1)) j b g p G d H u J A P s n0 B n1 C l)))) (eO (ld h n m k 4) λv=>eC v λv l=>eS 6 v λv o z=>eC l λl w=>eS 5 l λl q t=>eC w λw e=>eS 9 w λw f D=>eC e λe E=>eS 5 e λe K L=>eN E (Ai (Ae lo 78 [Av v o z l q t w f D e K L] h) λv l=>eA v λv=>eC v λv o=>eS 6 v λv z w=>eC o λo q=>eS 5 o λo t e=>eC q λq f=>eS 9 q λq D E=>eC f λf K=>eS 5 f λf L M=>eN K (some ((Av v z w o t e q D E f L M),l)))) :=
 lE
def Gk lo a n c x y z h:=
 LA 29 Tryz.f29 2213111 0 1111 lo ⟨[(0,.sl 6 a n c),(1,Iv x),(4,Iv y),(5,Iv z)],[],h⟩
theorem Gk.e :
  Gk lo a n c y z x h=br (decide (x<(n:Int))) (Aq x n (eO a λv=>eO (ld h v.1 (v.2+x.toNat) 0 6) λv=>eC v λv l=>eI .i64 v λv=>eC l λl o=>eI .i64 l λl=>eC o λo s=>eI .i64 o λo=>eC s λs b=>eI .i64 s λs=>eC b λb u=>eT b λb=>eC u λu w=>eBv u λu=>eN w (Ai (Ae lo 37 [BZ v l o s b u,Iv y] h) λv l=>eI .i64 v λv=>br (decide (v<0)) (some (Iv (-1),l)) (Gk lo a n c v z (Ao (x+1)) l)))) (some (Iv y,h)) :=
 lE
def Gh lo a n c b m p x h:=
 LA 30 Tryz.f30 221311 0 111 lo ⟨[(0,.sl 6 a n c),(3,.sl 6 b m p),(4,Iv x)],[],h⟩
theorem Gh.e :
  Gh lo b n p a m c x h=br (decide (x<(n:Int))) (Aq x n (eO b λv=>eO (ld h v.1 (v.2+x.toNat) 0 6) λv=>eC v λv l=>eI .i64 v λv=>eC l λl o=>eI .i64 l λl=>eC o λo s=>eI .i64 o λo=>eC s λs y=>eI .i64 s λs=>eC y λy z=>eT y λy=>eC z λz u=>eBv z λz=>eN u (Ai (Ae lo 40 [BZ v l o s y z] h) λv l=>eA v λv=>eC v λv o=>eI .i64 v λv=>eC o λo s=>eI .i64 o λo=>eC s λs y=>eI .i64 s λs=>eC y λy z=>eI .i64 y λy=>eC z λz u=>eT z λz=>eC u λu w=>eBv u λu=>eN w (Aq x m (eO a λw=>eO (st lo l w.1 (w.2+x.toNat) 0 (Qc v o s y z u)) λv=>Gh lo b n p a m c (Ao (x+1)) v))))) (some (.sl 6 a m c,h)) :=
 lE
def Gr lo a n c b m p f x h:=
 LA 32 Tryz.f32 221311 0 111 lo ⟨[(0,.sl 6 a n c),(1,.sl 6 b m p),(4,.bool f),(5,Iv x)],[],h⟩
theorem Gr.e :
  Gr lo a n c b m p f x h=br (decide (x<(n:Int))) (Aq x n (eO a λv=>eO (ld h v.1 (v.2+x.toNat) 0 6) λv=>eC v λv l=>eI .i64 v λv=>eC l λl o=>eI .i64 l λl=>eC o λo s=>eI .i64 o λo=>eC s λs y=>eI .i64 s λs=>eC y λy z=>eT y λy=>eC z λz u=>eBv z λz=>eN u (Aq x m (eO b λu=>eO (ld h u.1 (u.2+x.toNat) 0 6) λu=>eC u λu w=>eI .i64 u λu=>eC w λw q=>eI .i64 w λw=>eC q λq g=>eI .i64 q λq=>eC g λg i=>eI .i64 g λg=>eC i λi j=>eT i λi=>eC j λj k=>eBv j λj=>eN k (Ai (Ae lo 87 [BZ v l o s y z,BZ u w q g i j] h) λv l=>eB v (Gr lo a n c b m p f (Ao (x+1)) l) (AI l)))))) (Cc h) :=
 lE
def DN lo a n c x y h:=
 LA 33 Tryz.f33 22131 0 11 lo ⟨[(0,.sl 6 a n c),(1,Iv x),(5,Iv y)],[],h⟩
theorem DN.e :
  DN lo a n c y x h=br (decide (x<(n:Int))) (Aq x n (eO a λv=>eO (st lo h v.1 (v.2+x.toNat) 0 (Au y)) λv=>Aq x n (eO a λl=>eO (st lo v l.1 (l.2+x.toNat) 1 (Au (Ao (y+1)))) λv=>Aq x n (eO a λl=>eO (st lo v l.1 (l.2+x.toNat) 2 (Au (Ao ((Ao (y+1))+1)))) λv=>Aq x n (eO a λl=>eO (st lo v l.1 (l.2+x.toNat) 3 (Au (Ao ((Ao ((Ao (y+1))+1))+1)))) λv=>Ai (Ae lo 88 (Au (Ao ((Ao ((Ao ((Ao (y+1))+1))+1))+1))) v) λv l=>eT v λv=>Aq x n (eO a λo=>eO (st lo l o.1 (o.2+x.toNat) 4 [.str v]) λv=>br ((Ao (Ao (Ao (Ao (Ao (y+(1:Int))+(1:Int))+(1:Int))+(1:Int))+(1:Int))).tmod (3:Int)==0) (Aq x n (eO a λl=>eO (st lo v l.1 (l.2+x.toNat) 5 [.bool true]) λl=>DN lo a n c (Ao ((Ao ((Ao ((Ao ((Ao ((Ao (y+1))+1))+1))+1))+1))+1)) (Ao (x+1)) l)) (Aq x n (eO a λl=>eO (st lo v l.1 (l.2+x.toNat) 5 [.bool false]) λv=>DN lo a n c (Ao ((Ao ((Ao ((Ao ((Ao ((Ao (y+1))+1))+1))+1))+1))+1)) (Ao (x+1)) v)))))))) (some (Iv y,h)) :=
 lE
theorem Qp (hk:(br (decide ((n:Int)>2000)) (AL a n c none (some (Iv 2000)) none λv l o=>some (.ptr (some (h.length,(0,0))),(h ++ [.rows 2 152 false [[.sl 1 v l o,Iv 0]]]))) (some (.ptr (some (h.length,(0,0))),(h ++ [.rows 2 152 false [[.sl 1 a n c,Iv 0]]]))))=some r) :
  Ae lo 41 [.sl 1 a n c] h=some r :=
 eK Tryz.func41 hk
theorem OB (hk:(Ai (Ae lo 108 [Bi n m k] h) λv l=>eA v λv=>eC v λv c=>eS 6 v λv a o=>eC c λc o=>eS 5 c λc c c=>eC o λc o=>eS 9 c λc c c=>eC o λc o=>eS 5 c λc c c=>eN o (Ai (Ae lo 44 [Bi n m k,Iv (a:Int)] l) λl c=>eI .i64 l λl=>Aq l a (eO v λv=>eO (ld c v.1 (v.2+l.toNat) 0 6) λv=>eC v λv l=>eI .i64 v λv=>eC l λl a=>eI .i64 l λl=>eC a λa o=>eS 2 a λa s b=>eC o λo x=>eS 6 o λo y z=>eC x λx u=>eS 1 x λx w p=>eC u λu q=>eBv u λu=>eN q (some ((Al v l a s b o y z x w p u),c)))))=some r) :
  Ae lo 42 [Bi n m k] h=some r :=
 eK Tryz.func42 hk
def Cw lo n m k x i a j c b g p h:=
 LA 43 Tryz.f43 221311 0 111 lo ⟨[(0,(Bi n m k)),(2,.lp 2 0),(3,.lp 3 0),(4,Iv x)],[(2,[.sl i a j c]),(3,(Bk b g p))],h⟩
theorem Qo (hk:(Ai (Ae lo 45 [] h) λv l=>eA v λv=>eC v λv c=>eS 2 v λv a o=>eN c (Cw lo n m k 0 0 none 0 (some 0) v a o l))=some r) :
  Ae lo 43 [Bi n m k] h=some r :=
 eK Tryz.func43 hk
theorem Cw.e :
  Cw lo m k i x j b g p a n c h=br (decide (x<4)) (Ai (Ae lo 109 [Bi m k i] h) λv l=>eA v λv=>eC v λv o=>eI .i64 v λv=>eC o λo s=>eI .i64 o λo=>eN s (Aq x n (eO a λs=>eO (st lo l s.1 (s.2+x.toNat) 0 (BN v o)) λv=>Cw lo m k i (Ao (x+1)) j b g p a n c v))) (Ai (Ae lo 44 [Bi m k i,Iv 10] h) λv l=>eI .i64 v λv=>br (v==0) (AL a n c (some (Iv 1)) none none λo s y=>some ((Am o s y),l)) (br (v==1) (Ai (Ae lo 44 [Bi m k i,Iv 4] l) λv o=>eI .i64 v λv=>Ai (Ae lo 110 [Bi m k i] o) λo s=>eA o λo=>eC o λo y=>eI .i64 o λo=>eC y λy z=>eI .i64 y λy=>eN z (Aq v n (eO a λz=>eO (st lo s z.1 (z.2+v.toNat) 0 (BN o y)) λv=>some ((Am a n c),v)))) (some ((Am a n c),l)))) :=
 lE
theorem Mx (hk:(eO (ld h n m (k+1) 1) λv=>eC v λv l=>eN l (eI .i64 v λv=>eO (st lo h n m (k+1) (Au (Ao (v+1)))) λv=>br (decide (x<1)) (some (Iv 0,v)) (eO (ld v n m (k+0) 1) λl=>eC l λl c=>eN c (eS 1 l λl l c=>br ((l:Int)==0) (some (Iv 0,v)) (eO (ld v n m (k+1) 1) λl=>eC l λl c=>eN c (eI .i64 l λl=>eO (ld v n m (k+0) 1) λc=>eC c λc a=>eN a (eS 1 c λc c a=>br (decide (Ao (l - (1:Int))<(c:Int))) (eO (ld v n m (k+0) 1) λc=>eC c λc a=>eN a (eS 1 c λc a o=>Aq (Ao (l - 1)) a (eO c λc=>eO (ld v c.1 (c.2+((Ao (l - (1:Int))).toNat)) 0 1) λc=>eC c λc a=>eN a (eI .u8 c λc=>Bu (decide (x≠(0:Int))) (some (Iv ((Ao c).tmod x),v)))))) (eO (ld v n m (k+0) 1) λc=>eC c λc a=>eN a (eS 1 c λc a o=>eO (ld v n m (k+0) 1) λo=>eC o λo s=>eN s (eS 1 o λo o s=>Bu (decide ((o:Int)≠(0:Int))) (Aq ((Ao (l - (1:Int))).tmod (o:Int)) a (eO c λc=>eO (ld v c.1 (c.2+(((Ao (l - (1:Int))).tmod (o:Int)).toNat)) 0 1) λc=>eC c λc a=>eN a (eI .u8 c λc=>eO (ld v n m (k+0) 1) λa=>eC a λa o=>eN o (eS 1 a λa o s=>eO (ld v n m (k+0) 1) λs=>eC s λs b=>eN b (eS 1 s λs s b=>Bu (decide ((s:Int)≠(0:Int))) (Aq ((Ao (Ao (Ao (l - (1:Int))*(7:Int))+(3:Int))).tmod (s:Int)) o (eO a λa=>eO (ld v a.1 (a.2+(((Ao (Ao (Ao (l - (1:Int))*(7:Int))+(3:Int))).tmod (s:Int)).toNat)) 0 1) λa=>eC a λa o=>eN o (eI .u8 a λa=>eO (ld v n m (k+0) 1) λo=>eC o λo s=>eN s (eS 1 o λo o s=>Bu (decide ((o:Int)≠(0:Int))) (Bu (decide (x≠(0:Int))) (some (Iv ((Ao ((BitVec.ofInt IntKind.i64.bits (Ao (Ao (Ao (Ao (Ao c*(131:Int))+Ao (Ao a*(1117:Int)))+Ao (Ao (l - (1:Int))*(29:Int)))+Ao (Ao ((Ao (l - (1:Int))).tdiv (o:Int))*(53:Int)))) ^^^ BitVec.ofInt IntKind.i64.bits (Ao ((Ao (Ao (Ao (Ao (Ao c*(131:Int))+Ao (Ao a*(1117:Int)))+Ao (Ao (l - (1:Int))*(29:Int)))+Ao (Ao ((Ao (l - (1:Int))).tdiv (o:Int))*(53:Int)))).tdiv (64:Int)))).toNat:Int)).tmod x),v))))))))))))))))))))))=some r) :
  Ae lo 44 [Bi n m k,Iv x] h=some r :=
 eK Tryz.func44 hk
theorem Rk (hk:(some ((Am (some (h.length,0)) 4 (some 4)),(h ++ [.rows 2 36 false [BN 0 0,BN 0 0,BN 0 0,BN 0 0]])))=some r) :
  Ae lo 45 [] h=some r :=
 eK Tryz.func45 hk
def CH lo f x a n c h:=
 LA 46 Tryz.f46 22131 0 11 lo ⟨[(1,.lp 1 0),(2,.bool f),(3,Iv x)],[(1,(Bk a n c))],h⟩
def CG lo f x y a n c h:=
 Lp (X 46) lo (pf 2213123122131 Tryz.f46) 2 (A8 2 (kS (X 46) lo (pf 1123122131 Tryz.f46) 1 (A8 1 (kS (X 46) lo (pf 1122131 Tryz.f46) 0 (U0 (X 46) lo (pf 22131 Tryz.f46) 0 (A8 0 (kS (X 46) lo (pf 11 Tryz.f46) 0 (I0 (X 46) Tryz.f46.results.toList)))))))) ⟨[(1,.lp 1 0),(2,.bool f),(3,Iv x),(4,Iv y)],[(1,(Bk a n c))],h⟩
theorem UX (hk:(CH h.length false 0 a n c h)=some (v,h')) (hn:noId v=true:=by rfl) :
  Ae lo 46 [Am a n c] h=some (v,h) :=
 eD Tryz.func46 hk hn
theorem CH.e :
  CH lo f x a n c h=br (decide (x<(n:Int))) (Aq x n (eO a λv=>eO (ld h v.1 (v.2+x.toNat) 0 1) λv=>eC v λv l=>eS 6 v λv o s=>eN l (Ai (Ae lo 111 [Bh v o s] h) λv l=>eB v (Aq x n (eO a λv=>eO (ld l v.1 (v.2+x.toNat) 1 1) λv=>eC v λv o=>eN o (eS 6 v λv v o=>br (decide ((v:Int)>6)) (AI l) (CG lo f x 0 a n c l)))) (AI l)))) (Ai (Ae lo 54 (Dh (n:Int) 1 4) h) λv l=>eB v (Aq (Ao ((n:Int) - 1)) n (eO a λv=>eO (ld l v.1 (v.2+((Ao ((n:Int) - (1:Int))).toNat)) 1 1) λv=>eC v λv o=>eN o (eS 6 v λv v o=>br ((v:Int)==0) (Cc l) (AI l)))) (AI l)) :=
 lE
theorem CG.e :
  CG lo f x y a n c h=Aq x n (eO a λv=>eO (ld h v.1 (v.2+x.toNat) 1 1) λv=>eC v λv l=>eN l (eS 6 v λv v l=>br (decide (y<(v:Int))) (Aq x n (eO a λv=>eO (ld h v.1 (v.2+x.toNat) 1 1) λv=>eC v λv l=>eN l (eS 6 v λv l o=>Aq y l (eO v λv=>eO (ld h v.1 (v.2+y.toNat) 0 6) λv=>eC v λv l=>eI .i64 v λv=>eC l λl o=>eI .i64 l λl=>eC o λo s=>eI .i64 o λo=>eC s λs b=>eS 2 s λs z u=>eC b λb w=>eT b λb=>eC w λw p=>eBv w λw=>eN p (Ai (Ae lo 112 [AD v l o s z u b w] h) λv l=>eB v (CG lo f x (Ao (y+1)) a n c l) (AI l)))))) (br (decide (Ao (x+(1:Int))<(n:Int))) (Aq x n (eO a λv=>eO (ld h v.1 (v.2+x.toNat) 0 2) λv=>eC v λv l=>eS 6 v λv o s=>eC l λl b=>eS 6 l λl z u=>eN b (Aq (Ao (x+1)) n (eO a λb=>eO (ld h b.1 (b.2+((Ao (x+(1:Int))).toNat)) 0 2) λb=>eC b λb w=>eS 6 b λb p q=>eC w λw g=>eS 6 w λw i j=>eN g (Ai (Ae lo 113 [I5 v o s l z u,I5 b p q w i j] h) λv l=>eB v (CH lo f (Ao (x+1)) a n c l) (AI l)))))) (CH lo f (Ao (x+1)) a n c h)))) :=
 lE
theorem Ow (hk:(Aq (Ao ((n:Int) - 1)) n (eO a λv=>eO (ld h v.1 (v.2+((Ao ((n:Int) - (1:Int))).toNat)) 0 1) λv=>eC v λv l=>eS 6 v λv o s=>eN l (Ai (Ae lo 114 [Bh v o s] h) λv l=>eA v λv=>eC v λv o=>eS 2 v λv s b=>eN o (some ((Am v s b),l)))))=some r) :
  Ae lo 47 [Am a n c] h=some r :=
 eK Tryz.func47 hk
theorem OA (hk:(Ai (Ae lo 44 [Bi m k i,Iv (n:Int)] h) λv l=>eI .i64 v λv=>Aq v n (eO a λo=>eO (ld l o.1 (o.2+v.toNat) 0 1) λv=>eC v λv o=>eN o (eT v λv=>some (.str v,l))))=some r) :
  Ae lo 48 [Bi m k i,.sl 1 a n c] h=some r :=
 eK Tryz.func48 hk
theorem NB (hk:(Ai (Ae lo 44 [Bi m k i,Iv (n:Int)] h) λv l=>eI .i64 v λv=>Aq v n (eO a λo=>eO (ld l o.1 (o.2+v.toNat) 0 1) λv=>eC v λv o=>eN o (eI .i64 v λv=>some (Iv v,l))))=some r) :
  Ae lo 49 [Bi m k i,.sl 1 a n c] h=some r :=
 eK Tryz.func49 hk
theorem NF (hk:(Ai (Ae lo 13 [Al x y a n c b m p d k u f] h) λv o=>eB v (Ai (Ae lo 115 [Al x y a n c b m p d k u f] o) λv s=>eA v λv=>eC v λv z=>eI .i64 v λv=>eC z λz w=>eI .i64 z λz=>eC w λw q=>eS 2 w λw g j=>eC q λq t=>eS 6 q λq e A=>eC t λt B=>eS 1 t λt C D=>eC B λB E=>eBv B λB=>eN E (eO (st lo (s ++ [.rows 6 29 false [[Iv 0,Iv 0,.sl 0 none 0 (some 0),.sl 0 none 0 (some 0),.sl 0 none 0 (some 0),.bool false]]]) s.length 0 0 (CB v z w g j q e A t C D B)) λv=>Ai (Ae lo i (Dy [.ptr (some (s.length,(0,0)))] l) v) λv z=>eB v (eO (ld z s.length 0 0 6) λv=>eC v λv w=>eI .i64 v λv=>eC w λw q=>eI .i64 w λw=>eC q λq g=>eS 2 q λq j t=>eC g λg e=>eS 6 g λg A B=>eC e λe C=>eS 1 e λe D E=>eC C λC G=>eBv C λC=>eN G (some (.tup [Al v w q j t g A B e D E C,.bool true],z))) (eO (ld z s.length 0 0 6) λv=>eC v λv s=>eI .i64 v λv=>eC s λs w=>eI .i64 s λs=>eC w λw q=>eS 2 w λw g j=>eC q λq t=>eS 6 q λq e A=>eC t λt B=>eS 1 t λt C D=>eC B λB E=>eBv B λB=>eN E (some (.tup [Al v s w g j q e A t C D B,.bool false],z))))) (some (.tup [.agg [Iv 0,Iv 0,.sl 0 none 0 (some 0),.sl 0 none 0 (some 0),.sl 0 none 0 (some 0),.bool false],.bool false],o)))=some r) :
  Ae lo 50 [Al x y a n c b m p d k u f,.fn i l] h=some r :=
 eK Tryz.func50 hk
theorem KP (hk:(eO (ld h j 0 0 1) λv=>eC v λv l=>eN l (eI .i64 v λv=>eO (ld h g 0 0 1) λl=>eC l λl c=>eS 2 l λl a o=>eN c (eO (ld h G 0 0 1) λc=>eC c λc s=>eN s (eT c λc=>eO (ld h H 0 0 1) λs=>eC s λs b=>eN b (eB s (Ai (Ae lo 52 [Bi n m k,AD v 0 0 l a o c true] h) λs b=>eA s λs=>eC s λs x=>eI .i64 s λs=>eC x λx y=>eI .i64 x λx=>eN y (eO (st lo b i 0 0 (BN s x)) λs=>some (.bool true,s))) (Ai (Ae lo 52 [Bi n m k,AD v 0 0 l a o c false] h) λv l=>eA v λv=>eC v λv c=>eI .i64 v λv=>eC c λc a=>eI .i64 c λc=>eN a (eO (st lo l i 0 0 (BN v c)) λv=>some (.bool true,v))))))))=some r) :
  Ae lo 51 [Bi n m k,Bi j 0 0,Bi g 0 0,Bi G 0 0,Bi H 0 0,Bi i 0 0] h=some r :=
 eK Tryz.func51 hk
theorem Lz (hk:(Ai (Ae lo 116 [AD x y z a i c S f] h) λv l=>eB v (Ai (Ae l.length 66 [Bi n m (k+2)] l) λv o=>eA v λv=>eC v λv s=>eS 6 v λv b u=>eN s (Ai (Ae o.length 67 [Bh v b u] o) λv o=>eA v λv=>eC v λv s=>eS 2 v λv b u=>eN s (Ai (Ae lo 69 [Am a i c,Am v b u] o) λv o=>eB v (Ai (Ae lo 117 [Bi n m (k+2),Iv 0] o) λv s=>eB v (some ((Ax 0 0),s)) (eO (ld s n m (k+3) 1) λv=>eC v λv b=>eN b (eS 6 v λv v b=>br (decide ((v:Int)>=36)) (some ((Ax 0 0),s)) (eO (ld s n m (k+1) 1) λv=>eC v λv b=>eN b (eI .i64 v λv=>Ai (Ae s.length 118 [Am a i c] s) λs b=>eI .i64 s λs=>br (decide (Ao ((if s>v then s else v)+(1:Int))>999)) (some ((Ax 0 0),b)) (eO (ld b n m (k+0) 1) λu=>eC u λu w=>eN w (eI .i64 u λu=>eO (st lo b n m (k+1) (Au (Ao ((if s>v then s else v)+1)))) λb=>Ai (Ae lo 119 [Bi n m (k+2),AD x (Ao ((if s>v then s else v)+1)) u a i c S f] b) λb w=>eB b (Ai (Ae lo 120 [Bi n m k] w) λb p=>eU b λb=>eN b (some ((Ax (Ao ((if s>v then s else v)+1)) u),p))) (Ai (Ae lo 120 [Bi n m k] w) λb w=>eU b λb=>eN b (some ((Ax (Ao ((if s>v then s else v)+1)) u),w)))))))))) (some ((Ax 0 0),o))))) (some ((Ax 0 0),l)))=some r) :
  Ae lo 52 [Bi n m k,AD x y z a i c S f] h=some r :=
 eK Tryz.func52 hk
def Di lo f x y z a n c b m p d k u F h:=
 LA 53 Tryz.f53 221311 0 111 lo ⟨[(1,.lp 1 0),(2,.bool f),(3,Iv x)],[(1,(CB y z a n c b m p d k u F))],h⟩
def DI lo f x y z a n c b m p d k u F e i s h:=
 LA 53 Tryz.f53 22131111 2 11111 lo ⟨[(1,.lp 1 0),(2,.bool f),(4,.lp 4 0),(5,Iv x)],[(1,(CB y z a n c b m p d k u F)),(4,(Bs e i s))],h⟩
theorem UW (hk:(Ai (Ae h.length 54 (Dh x 0 2) h) λl o=>eB l (Ai (Ae h.length 54 (Dh y 0 999) o) λl s=>eB l (br ((k:Int)==3) (Ai (Ae h.length 46 [Am a n c] s) λl z=>eB l (Ai (Ae h.length 121 [Am a n c] z) λl w=>eB l (Ai (Ae h.length 122 [.sl 6 b m p,Iv x] w) λl q=>eB l (Di h.length false 0 x y a n c b m p d k u f q) (AI q)) (AI w)) (AI z)) (AI s)) (AI s)) (AI o))=some (v,h')) (hn:noId v=true:=by rfl) :
  Ae lo 53 [Al x y a n c b m p d k u f] h=some (v,h) :=
 eD Tryz.func53 hk hn
theorem Di.e :
  Di lo f x y z b m c d k p a n u F h=br (decide (x<3)) (Aq x n (eO a λv=>eO (ld h v.1 (v.2+x.toNat) 0 1) λv=>eC v λv l=>eN l (eS 6 v λv l o=>Ai (Ae lo 122 [.sl 6 v l o,Iv x] h) λv l=>eB v (br (x==y) (Aq x n (eO a λv=>eO (ld l v.1 (v.2+x.toNat) 0 1) λv=>eC v λv o=>eN o (eS 6 v λv v o=>br (decide ((v:Int)>0)) (AI l) (Di lo f (Ao (x+1)) y z b m c d k p a n u F l)))) (Di lo f (Ao (x+1)) y z b m c d k p a n u F l)) (AI l)))) (Aq 0 m (eO b λv=>eO (ld h v.1 (v.2+0) 0 1) λv=>eC v λv l=>eS 6 v λv o s=>eN l (DI lo f 0 y z b m c d k p a n u F v o s h))) :=
 lE
theorem DI.e :
  DI lo f x z y b m c d k p A i u F a n s h=br (decide (x<4)) (Aq x n (eO a λv=>eO (ld h v.1 (v.2+x.toNat) 1 1) λv=>eC v λv l=>eN l (eI .i64 v λv=>br (decide (v>y)) (AI h) (DI lo f (Ao (x+1)) z y b m c d k p A i u F a n s h)))) (Cc h) :=
 lE
theorem UZ (hk:(br (decide (x>=y)) (br (decide (x<=z)) (Cc h) (AI h)) (AI h))=some (v,h')) (hn:noId v=true:=by rfl) :
  Ae lo 54 (Dh x y z) h=some (v,h) :=
 eD Tryz.func54 hk hn
def Cj lo S f x h:=
 LA 55 Tryz.f55 22131 0 11 lo ⟨[(0,.str S),(2,.bool f),(3,Iv x)],[],h⟩
theorem Ox (hk:(Cj h.length S false 0 h)=some (v,h')) (hn:noId v=true:=by rfl) :
  Ae lo 55 [.str S] h=some (v,h) :=
 eD Tryz.func55 hk hn
theorem Cj.e :
  Cj lo S f x h=br (decide (x<(S.size:Int))) (eO (O9 S x) λv=>br (decide ((v.toNat:Int)<33)) (AI h) (eO (O9 S x) λv=>br (decide ((v.toNat:Int)>126)) (AI h) (Cj lo S f (Ao (x+1)) h))) (br (decide ((S.size:Int)<=8)) (Cc h) (AI h)) :=
 lE
def Cm lo f x a n c h:=
 LA 56 Tryz.f56 22131 0 11 lo ⟨[(1,.lp 1 0),(2,.bool f),(3,Iv x)],[(1,(Bk a n c))],h⟩
theorem OF (hk:(Cm h.length false 0 a n c h)=some (v,h')) (hn:noId v=true:=by rfl) :
  Ae lo 56 [Am a n c] h=some (v,h) :=
 eD Tryz.func56 hk hn
theorem Cm.e :
  Cm lo f x a n c h=br (decide (x<(n:Int))) (Aq x n (eO a λv=>eO (ld h v.1 (v.2+x.toNat) 0 2) λv=>eC v λv l=>eI .i64 v λv=>eC l λl o=>eI .i64 l λl=>eN o (Ai (Ae lo 123 [Ax v l] h) λv l=>eB v (Cm lo f (Ao (x+1)) a n c l) (AI l)))) (br ((n:Int)==4) (Cc h) (AI h)) :=
 lE
theorem Tj {e:Pq} (hk:(Ai (Ae h.length 47 [Am a n c] h) λl o=>eA l λl=>eC l λl z=>eS 2 l λl w q=>eN z (Ai (Ae h.length 124 [Am b k p,Am l w q] o) λl o=>eB l (Ai (Ae h.length 125 [Am a n c] o) λl z=>eB l (Ai (Ae h.length 126 [Al x y a n c d m u e i s f,Am b k p] z) λl w=>eI .i64 l λl=>br (decide (l<=999)) (br (decide ((m:Int)<36)) (Cc w) (AI w)) (AI w)) (AI z)) (AI o)))=some (v,h')) (hn:noId v=true:=by rfl) :
  Ae lo 57 [Al x y a n c d m u e i s f,Am b k p] h=some (v,h) :=
 eD Tryz.func57 hk hn
def CZ lo x y z a n c b m p d k u f t w i e j s g A G C H B J D F q M a0 P c0 a1 n0 c1 n1 a2 n2 c2 b0 h:=
 LA 58 Tryz.f58 221311 0 111 lo ⟨[(1,.lp 1 0),(2,.lp 2 0),(3,.lp 3 0),(4,Iv x)],[(1,(CB y z a n c b m p d k u f)),(2,[Iv t,Iv w,.sl i e j s,.sl g A G C,.sl H B J D,.bool F]),(3,[Iv q,Iv M,.sl 2 a0 P c0,.sl 6 a1 n0 c1,.sl n1 a2 n2 c2,.bool b0])],h⟩
theorem Q0 (hk:(Ai (Ae h.length 127 [Am a n c] h) λv l=>eA v λv=>eC v λv o=>eS 2 v λv s z=>eN o (Ai (Ae l.length 128 (Bs b m p) l) λl o=>eS 6 l λl w q=>CZ lo 0 x y a n c b m p d k u f 0 0 0 none 0 (some 0) 0 none 0 (some 0) 0 none 0 (some 0) false x y v s z l w q 0 none 0 (some 0) f o))=some r) :
  Ae lo 58 [Al x y a n c b m p d k u f] h=some r :=
 eK Tryz.func58 hk
theorem CZ.e {lo g G n H J P n0 n1 n2 m k i j:Nat}{x t w q M y z:Int}{B a0 a a1 a2 a3 b d A:Pq}{s C D c0 c1 c2 c p u:Nq}{F b0 f:Bool}{h:Heap} :
  CZ lo x t w B g s a0 G C a n D F q M H a1 J c0 P a2 n0 c1 n1 a3 n2 c2 b0 y z b m c d k p i A j u f h=br (decide (x<(n:Int))) (Aq x n (eO a λv=>eO (ld h v.1 (v.2+x.toNat) 0 1) λv=>eC v λv l=>eN l (eS 6 v λv l o=>Ai (Ae lo 128 (Bs v l o) h) λv l=>eS 6 v λv o e=>Aw 1 (l ++ [.rows 1 26 false [Bs v o e]]) (.sl 1 (some (l.length,0)) 1 (some 1)) λE=>Dk lo 26 1 24 (.sl i A j u) E (l ++ [.rows 1 26 false [Bs v o e]]) λv l=>eS 1 v λv o e=>CZ lo (Ao (x+1)) t w B g s a0 G C a n D F q M H a1 J c0 P a2 n0 c1 n1 a3 n2 c2 b0 y z b m c d k p 1 v o e f l))) (some (.agg [Iv y,Iv z,.sl 2 b m c,.sl 6 d k p,.sl i A j u,.bool f],h)) :=
 lE
theorem Qj {e:Pq} (hk:(Ai (Ae h.length 126 [Al x y a n c b m p d k u f,Am e i s] h) λv l=>eI .i64 v λv=>Aw 2 (l ++ [.rows 2 36 false []]) (.sl 2 e i s) λo=>Dk (List.length (l ++ [.rows 2 36 false []])) 36 2 16 (.sl 2 (some (l.length,0)) 0 (some 0)) o (l ++ [.rows 2 36 false []]) λl o=>eS 2 l λl w q=>Ai (Ae lo 129 [Am a n c,Iv 0,AD z v x l w q S F] o) λl o=>eA l λl=>eC l λl w=>eS 2 l λl q g=>eN w (Ai (Ae lo 130 [Al x v l q g b m p d k u f] o) λl o=>eA l λl=>eC l λl w=>eI .i64 l λl=>eC w λw q=>eI .i64 w λw=>eC q λq g=>eS 2 q λq j t=>eC g λg A=>eS 6 g λg B C=>eC A λA D=>eS 1 A λA E G=>eC D λD H=>eBv D λD=>eN H (some (.tup [Al l w q j t g B C A E G D,Ax v x],o))))=some r) :
  Ae lo 59 [Al x y a n c b m p d k u f,Iv z,.str S,.bool F,Am e i s] h=some r :=
 eK Tryz.func59 hk
def Cz lo f x a n c b m p h:=
 LA 60 Tryz.f60 221311 0 111 lo ⟨[(2,.lp 2 0),(3,.lp 3 0),(4,.bool f),(5,Iv x)],[(2,(Bk a n c)),(3,(Bk b m p))],h⟩
theorem Qu (hk:(br ((n:Int)==(m:Int)) (Cz h.length false 0 a n c b m p h) (AI h))=some (v,h')) (hn:noId v=true:=by rfl) :
  Ae lo 60 [Am a n c,Am b m p] h=some (v,h) :=
 eD Tryz.func60 hk hn
theorem Cz.e :
  Cz lo f x a n c b m p h=br (decide (x<(n:Int))) (Aq x n (eO a λv=>eO (ld h v.1 (v.2+x.toNat) 0 1) λv=>eC v λv l=>eS 6 v λv o s=>eN l (Aq x m (eO b λl=>eO (ld h l.1 (l.2+x.toNat) 0 1) λl=>eC l λl y=>eS 6 l λl z u=>eN y (Ai (Ae lo 131 [Bh v o s,Bh l z u] h) λv l=>eB v (Aq x n (eO a λv=>eO (ld l v.1 (v.2+x.toNat) 1 1) λv=>eC v λv o=>eN o (eS 6 v λv o s=>Aq x m (eO b λy=>eO (ld l y.1 (y.2+x.toNat) 1 1) λy=>eC y λy z=>eN z (eS 6 y λy z u=>Ai (Ae lo 61 (Kh v o s y z u) l) λv o=>eB v (Cz lo f (Ao (x+1)) a n c b m p o) (AI o)))))) (AI l)))))) (Cc h) :=
 lE
def C7 lo a n c b m p f x h:=
 LA 61 Tryz.f61 221311 0 111 lo ⟨[(0,.sl 6 a n c),(1,.sl 6 b m p),(4,.bool f),(5,Iv x)],[],h⟩
theorem Rn (hk:(br ((n:Int)==(m:Int)) (C7 h.length a n c b m p false 0 h) (AI h))=some (v,h')) (hn:noId v=true:=by rfl) :
  Ae lo 61 (Kh a n c b m p) h=some (v,h) :=
 eD Tryz.func61 hk hn
theorem C7.e {lo n m:Nat}{a b:Pq}{c p:Nq}{f:Bool}{x:Int}{h:Heap} :
  C7 lo a n c b m p f x h=br (decide (x<(n:Int))) (Aq x n (eO a λv=>eO (ld h v.1 (v.2+x.toNat) 0 6) λv=>eC v λv l=>eI .i64 v λv=>eC l λl o=>eI .i64 l λl=>eC o λo s=>eI .i64 o λo=>eC s λs y=>eS 2 s λs z u=>eC y λy w=>eT y λy=>eC w λw q=>eBv w λw=>eN q (Aq x m (eO b λq=>eO (ld h q.1 (q.2+x.toNat) 0 6) λq=>eC q λq g=>eI .i64 q λq=>eC g λg i=>eI .i64 g λg=>eC i λi j=>eI .i64 i λi=>eC j λj k=>eS 2 j λj t d=>eC k λk e=>eT k λk=>eC e λe A=>eBv e λe=>eN A (Ai (Ae lo 73 [AD v l o s z u y w,AD q g i j t d k e] h) λv l=>eB v (C7 lo a n c b m p f (Ao (x+1)) l) (AI l)))))) (Cc h) :=
 lE
theorem Qv (hk:(Ai (Ae h.length 63 (Dh x 0 2) h) λl c=>eB l (Cc c) (AI c))=some (v,h')) (hn:noId v=true:=by rfl) :
  Ae lo 62 (Au x) h=some (v,h) :=
 eD Tryz.func62 hk hn
theorem Rp (hk:(br (decide (x>=y)) (br (decide (x<=z)) (Cc h) (AI h)) (AI h))=some (v,h')) (hn:noId v=true:=by rfl) :
  Ae lo 63 (Dh x y z) h=some (v,h) :=
 eD Tryz.func63 hk hn
def B9 lo f a n c x y b m p h:=
 LA 64 Tryz.f64 221311 0 111 lo ⟨[(1,.lp 1 0),(2,.bool f),(13,.sl 2 a n c),(14,Iv x),(15,Iv y)],[(1,(Bk b m p))],h⟩
def Bw lo f a n c x y b m p h:=
 LA 64 Tryz.f64 2213111 2 1111 lo ⟨[(1,.lp 1 0),(2,.bool f),(36,.sl 2 a n c),(37,Iv x),(38,Iv y)],[(1,(Bk b m p))],h⟩
theorem QA (hk:(Ai (Ae h.length 132 (Au (n:Int)) h) λl o=>eB l (B9 h.length false a n c (n:Int) 0 a n c o) (AI o))=some (v,h')) (hn:noId v=true:=by rfl) :
  Ae lo 64 [Am a n c] h=some (v,h) :=
 eD Tryz.func64 hk hn
theorem B9.e :
  B9 lo f b m p y x a n c h=br (decide (x<y)) (Aq x m (eO b λv=>eO (ld h v.1 (v.2+x.toNat) 0 2) λv=>eC v λv l=>eS 6 v λv o s=>eC l λl z=>eS 6 l λl u w=>eN z (Ai (Ae lo 79 [Bh v o s] h) λv o=>eB v (br (decide ((u:Int)>6)) (AI o) (Ai (Ae lo 80 [.sl 6 l u w,.fn 133 []] o) λv l=>eB v (AI l) (B9 lo f b m p y (Ao (x+1)) a n c l))) (AI o)))) (Bw lo f a n c (n:Int) 0 a n c h) :=
 lE
theorem Bw.e :
  Bw lo f b m p y x a n c h=br (decide (x<y)) (Aq x m (eO b λv=>eO (ld h v.1 (v.2+x.toNat) 0 2) λv=>eC v λv l=>eS 6 v λv o s=>eC l λl z=>eS 6 l λl u w=>eN z (Ai (Ae lo 135 [Am a n c,Iv x] h) λz q=>eB z (br (decide ((u:Int)>0)) (AI q) (Ai (Ae lo 135 [Am a n c,Iv x] q) λz g=>eB z (Bw lo f b m p y (Ao (x+1)) a n c g) (Aq (Ao (x+1)) n (eO a λz=>eO (ld g z.1 (z.2+((Ao (x+(1:Int))).toNat)) 0 1) λz=>eC z λz i=>eS 6 z λz j k=>eN i (Ai (Ae lo 136 [I5 v o s l u w,Bh z j k] g) λz g=>eB z (Bw lo f b m p y (Ao (x+1)) a n c g) (AI g)))))) (Ai (Ae lo 135 [Am a n c,Iv x] q) λz q=>eB z (Bw lo f b m p y (Ao (x+1)) a n c q) (Aq (Ao (x+1)) n (eO a λz=>eO (ld q z.1 (z.2+((Ao (x+(1:Int))).toNat)) 0 1) λz=>eC z λz g=>eS 6 z λz i j=>eN g (Ai (Ae lo 136 [I5 v o s l u w,Bh z i j] q) λv l=>eB v (Bw lo f b m p y (Ao (x+1)) a n c l) (AI l)))))))) (Cc h) :=
 lE
def Dr lo a n c x f b m p y z h:=
 LA 65 Tryz.f65 22131 0 11 lo ⟨[(0,.sl 6 a n c),(1,Iv x),(4,.bool f),(7,.sl 6 b m p),(8,Iv y),(9,Iv z)],[],h⟩
theorem Ts (hk:(Dr h.length a n c x false a n c (n:Int) 0 h)=some (v,h')) (hn:noId v=true:=by rfl) :
  Ae lo 65 [.sl 6 a n c,Iv x] h=some (v,h) :=
 eD Tryz.func65 hk hn
theorem Dr.e :
  Dr lo a n c y f b m p z x h=br (decide (x<z)) (Aq x m (eO b λv=>eO (ld h v.1 (v.2+x.toNat) 0 6) λv=>eC v λv l=>eI .i64 v λv=>eC l λl o=>eI .i64 l λl=>eC o λo s=>eI .i64 o λo=>eC s λs u=>eS 2 s λs w q=>eC u λu g=>eT u λu=>eC g λg i=>eBv g λg=>eN i (Ai (Ae lo 134 [AD v l o s w q u g] h) λv s=>eB v (br (o==y) (AL a n c none (some (Iv x)) none λv u w=>Ai (Ae lo 137 [.sl 6 v u w,Ax l o] s) λv l=>eB v (AI l) (Dr lo a n c y f b m p z (Ao (x+1)) l)) (AI s)) (AI s)))) (br (decide ((n:Int)<=60)) (Cc h) (AI h)) :=
 lE
theorem MI (hk:(eO (ld h n m (k+0) 1) λv=>eC v λv l=>eN l (eS 2 v λv l c=>eO (ld h n m (k+0) 1) λc=>eC c λc a=>eN a (eS 2 c λc c a=>Aq (Ao ((c:Int) - 1)) l (eO v λv=>eO (ld h v.1 (v.2+((Ao ((c:Int) - (1:Int))).toNat)) 0 1) λv=>eC v λv l=>eS 6 v λv c a=>eN l (some ((Bh v c a),h))))))=some r) :
  Ae lo 66 [Bi n m k] h=some r :=
 eK Tryz.func66 hk
def BP lo a n c x y m b k p d i u h:=
 LA 67 Tryz.f67 221311 0 111 lo ⟨[(2,.lp 2 0),(3,.lp 3 0),(8,.sl 6 a n c),(9,Iv x),(10,Iv y)],[(2,[.sl m b k p]),(3,(Bk d i u))],h⟩
theorem MD (hk:(Ai (Ae lo 138 [] h) λv l=>eA v λv=>eC v λv o=>eS 2 v λv s b=>eN o (BP lo a n c (n:Int) 0 0 none 0 (some 0) v s b l))=some r) :
  Ae lo 67 [Bh a n c] h=some r :=
 eK Tryz.func67 hk
theorem BP.e :
  BP lo b m p y x k d i u a n c h=br (decide (x<y)) (Aq x m (eO b λv=>eO (ld h v.1 (v.2+x.toNat) 0 6) λv=>eC v λv l=>eI .i64 v λv=>eC l λv l=>eI .i64 v λv=>eC l λl o=>eI .i64 l λl=>eC o λo s=>eS 2 o λo o o=>eC s λo s=>eT o λo=>eC s λo s=>eBv o λo=>eN s (Aq x n (eO a λo=>eO (st lo h o.1 (o.2+x.toNat) 0 (BN v l)) λv=>BP lo b m p y (Ao (x+1)) k d i u a n c v)))) (some ((Am a n c),h)) :=
 lE
def AQ lo a n c x b m p y z h:=
 LA 68 Tryz.f68 221311 0 111 lo ⟨[(0,.sl 1 a n c),(3,Iv x),(9,.sl 1 b m p),(10,Iv y),(11,Iv z)],[],h⟩
def AP lo a n c b m p x y h:=
 LA 68 Tryz.f68 22131111 2 11111 lo ⟨[(6,.sl 6 a n c),(25,.sl 1 b m p),(26,Iv x),(27,Iv y)],[],h⟩
theorem FM (hk:(AQ lo a n c 0 a n c (n:Int) 0 h)=some r) :
  Ae lo 68 [.sl 1 a n c] h=some r :=
 eK Tryz.func68 hk
theorem AQ.e :
  AQ lo a n c y b m p z x h=br (decide (x<z)) (Aq x m (eO b λv=>eO (ld h v.1 (v.2+x.toNat) 0 1) λv=>eC v λv l=>eN l (eS 6 v λv v l=>br (decide (Ao (y+(v:Int))<0)) none (AQ lo a n c (Ao (y+(v:Int))) b m p z (Ao (x+1)) h)))) (Ai (Ae lo 139 [.sl 0 none 0 (some 0),Iv y] h) λv l=>eS 6 v λv o s=>AP lo v o s a n c (n:Int) 0 l) :=
 lE
theorem AP.e :
  AP lo a n c b m p y x h=br (decide (x<y)) (Aq x m (eO b λv=>eO (ld h v.1 (v.2+x.toNat) 0 1) λv=>eC v λv l=>eN l (eS 6 v λv l o=>Aw 6 h (.sl 6 v l o) λv=>Dk lo 43 6 72 (.sl 6 a n c) v h λv l=>eS 6 v λv o s=>AP lo v o s b m p y (Ao (x+1)) l))) (some (.sl 6 a n c,h)) :=
 lE
def BQ lo f a n c x y b m p h:=
 LA 69 Tryz.f69 22131 0 11 lo ⟨[(3,.lp 3 0),(4,.bool f),(8,.sl 2 a n c),(9,Iv x),(10,Iv y)],[(3,(Bk b m p))],h⟩
theorem MG (hk:(BQ h.length false a n c (n:Int) 0 b m p h)=some (v,h')) (hn:noId v=true:=by rfl) :
  Ae lo 69 [Am a n c,Am b m p] h=some (v,h) :=
 eD Tryz.func69 hk hn
theorem BQ.e :
  BQ lo f a n c y x b m p h=br (decide (x<y)) (Aq x n (eO a λv=>eO (ld h v.1 (v.2+x.toNat) 0 2) λv=>eC v λv l=>eI .i64 v λv=>eC l λl o=>eI .i64 l λl=>eN o (Aq x m (eO b λo=>eO (ld h o.1 (o.2+x.toNat) 0 2) λo=>eC o λo s=>eI .i64 o λo=>eC s λs z=>eI .i64 s λs=>eN z (Ai (Ae lo 15 [Ax o s,Ax v l] h) λv l=>eB v (AI l) (BQ lo f a n c y (Ao (x+1)) b m p l)))))) (Cc h) :=
 lE
theorem Lx (hk:(Ai (Ae h.length 141 (BN x z) h) λl c=>eI .i64 l λl=>Ai (Ae h.length 141 (BN y t) c) λc n=>eI .i64 c λc=>Ai (Ae h.length 140 [.sl 1 (some (n.length,0)) 2 (some 2)] (n ++ [.rows 1 3 false [Au l,Au c]])) λl c=>eI .i64 l λl=>some (Iv l,c))=some (v,h')) (hn:noId v=true:=by rfl) :
  Ae lo 70 [Ax x y,Ax z t] h=some (v,h) :=
 eD Tryz.func70 hk hn
theorem Rs (hk:(br ((n:Int)==4) (Ai (Ae h.length 142 [.sl 2 a n c,.fn 143 []] h) λl o=>eB l (AI o) (Cc o)) (AI h))=some (v,h')) (hn:noId v=true:=by rfl) :
  Ae lo 71 [Am a n c] h=some (v,h) :=
 eD Tryz.func71 hk hn
theorem Qn (hk:(Ai (Ae lo 44 [Bi n m k,Iv 4] h) λv l=>eI .i64 v λv=>Ai (Ae lo 44 [Bi n m k,Iv 4] l) λl c=>eI .i64 l λl=>Ai (Ae lo 49 [Bi n m k,.sl 1 (some (c.length,0)) 4 (some 4)] (c ++ [.rows 1 3 false [Au 0,Au 20,Au 60,Au 120]])) λc a=>eI .i64 c λc=>Ai (Ae lo 145 [Bi n m k,Iv (Ao (1+v)),Iv (Ao (1+l)),Iv c] a) λc a=>eS 6 c λc o s=>some (.tup [Iv (Ao (1+v)),Iv (Ao (1+l)),.sl 6 c o s],a))=some r) :
  Ae lo 72 [Bi n m k] h=some r :=
 eK Tryz.func72 hk
theorem Tr {w q:Int}{s0:ByteArray} (hk:(br (x==t) (br ((y==w)&&((z==q)&&true)) (Ai (Ae h.length 17 [Am a n c,Am b m p] h) λl o=>eB l (br (S.toList==s0.toList) (br (f==F) (Cc o) (AI o)) (AI o)) (AI o)) (AI h)) (AI h))=some (v,h')) (hn:noId v=true:=by rfl) :
  Ae lo 73 [AD x y z a n c S f,AD t w q b m p s0 F] h=some (v,h) :=
 eD Tryz.func73 hk hn
def B3 lo a n c x m b k p i d j u g e G s H A J C B P D a0 n0 c0 a1 n1 c1 a2 n2 c2 h:=
 LA 74 Tryz.f74 221311 0 111 lo ⟨[(2,.sl 6 a n c),(6,.lp 6 0),(7,.lp 7 0),(8,Iv x)],[(6,[.sl m b k p,.sl i d j u,.sl g e G s,.sl H A J C]),(7,(DC B P D a0 n0 c0 a1 n1 c1 a2 n2 c2))],h⟩
theorem QS (hk:(Ai (Ae lo 146 (BN x y) h) λv l=>eA v λv=>eC v λv o=>eS 6 v λv s b=>eC o λo z=>eS 5 o λo u w=>eC z λz p=>eS 9 z λz q g=>eC p λp i=>eS 5 p λp j k=>eN i (B3 lo a n c 0 0 none 0 (some 0) 0 none 0 (some 0) 0 none 0 (some 0) 0 none 0 (some 0) v s b o u w z q g p j k l))=some r) :
  Ae lo 74 [Iv x,Iv y,.sl 6 a n c] h=some r :=
 eK Tryz.func74 hk
theorem B3.e {lo n g G H J P n0 n1 n2 m k i j:Nat}{a a0 a1 a2 a3 b d A B:Pq}{C D c0 c1 c2 c p u s:Nq}{x:Int}{h:Heap} :
  B3 lo a n C x g a0 G D H a1 J c0 P a2 n0 c1 n1 a3 n2 c2 b m c d k p A i u B j s h=br (decide (x<(n:Int))) (br (decide (x<60)) (Aq x n (eO a λv=>eO (ld h v.1 (v.2+x.toNat) 0 6) λv=>eC v λv l=>eI .i64 v λv=>eC l λl o=>eI .i64 l λl=>eC o λo y=>eI .i64 o λo=>eC y λy z=>eI .i64 y λy=>eC z λz w=>eT z λz=>eC w λw q=>eBv w λw=>eN q (Ai (Ae lo 102 [Av b m c d k p A i u B j s,BZ v l o y z w] h) λv l=>eU v λv=>eC v λv o=>eA v λv=>eC v λv y=>eS 6 v λv z w=>eC y λy q=>eS 5 y λy t e=>eC q λq f=>eS 9 q λq E K=>eC f λf L=>eS 5 f λf M N=>eN L (eC o λo L=>eB o (eN L (B3 lo a n C (Ao (x+1)) g a0 G D H a1 J c0 P a2 n0 c1 n1 a3 n2 c2 v z w y t e q E K f M N l)) (eN L (B3 lo a n C (Ao (x+1)) g a0 G D H a1 J c0 P a2 n0 c1 n1 a3 n2 c2 v z w y t e q E K f M N l)))))) (some ((Av b m c d k p A i u B j s),h))) (some ((Av b m c d k p A i u B j s),h)) :=
 lE
def Gu lo x y z n a m c k b i p j d g u G e H s A J C B P D n0 a0 n1 c0 n2 a1 n3 c1 h:=
 LA 76 Tryz.f76 221311 0 111 lo ⟨[(0,Iv x),(1,Iv y),(4,.lp 4 0),(5,.lp 5 0),(12,Iv z)],[(4,[.sl n a m c,.sl k b i p,.sl j d g u,.sl G e H s]),(5,[.sl 6 A J C,.sl 5 B P D,.sl n0 a0 n1 c0,.sl n2 a1 n3 c1])],h⟩
def Et lo x y n a m c k b i p j d g u G e H s A J C B P D n0 a0 n1 c0 n2 a1 n3 c1 h:=
 LA 76 Tryz.f76 2213111 2 1111 lo ⟨[(4,.lp 4 0),(5,.lp 5 0),(24,Iv x),(25,Iv y)],[(4,[.sl n a m c,.sl k b i p,.sl j d g u,.sl G e H s]),(5,[.sl 6 A J C,.sl 5 B P D,.sl n0 a0 n1 c0,.sl n2 a1 n3 c1])],h⟩
theorem Gu.e {lo n m k i j g G H J P n0 n1 n2 n3:Nat}{y z x:Int}{a b d A B a0 a1 a2:Pq}{c p u s C D c0 c1:Nq}{h:Heap} :
  Gu lo y z x n a m c k b i p j d g u G A H s B J C a0 P D n0 a1 n1 c0 n2 a2 n3 c1 h=br (decide (x<3)) (Ai (Ae lo 147 (BN x y) h) λv l=>eA v λv=>eC v λv o=>eI .i64 v λv=>eC o λo w=>eI .i64 o λo=>eC w λw q=>eS 2 w λw t e=>eC q λq f=>eS 6 q λq E K=>eC f λf L=>eS 1 f λf M N=>eC L λL O=>eBv L λL=>eN O (Aw 6 (l ++ [.rows 6 29 false [CB v o w t e q E K f M N L]]) (.sl 6 (some (l.length,0)) 1 (some 1)) λO=>Dk lo 29 6 96 (.sl 6 B J C) O (l ++ [.rows 6 29 false [CB v o w t e q E K f M N L]]) λv l=>eS 6 v λv o w=>Gu lo y z (Ao (x+1)) n a m c k b i p j d g u G A H s v o w a0 P D n0 a1 n1 c0 n2 a2 n3 c1 l)) (Et lo z 0 n a m c k b i p j d g u G A H s B J C a0 P D n0 a1 n1 c0 n2 a2 n3 c1 h) :=
 lE
theorem Et.e {P n3:Nat} :
  Et lo y x G B H C J a0 P D n0 a1 n1 c0 n2 a2 n3 c1 a n c b m p k d i u j A g s h=br (decide (x<y)) (Ai (Ae lo 138 [] h) λv l=>eA v λv=>eC v λv o=>eS 2 v λv z w=>eN o (Aw 5 (l ++ [.rows 5 66 false [Mo (x.tmod (3:Int)) v z w 0 0 0]]) (.sl 5 (some (l.length,0)) 1 (some 1)) λo=>Dk lo 66 5 56 (.sl 5 b m p) o (l ++ [.rows 5 66 false [Mo (x.tmod (3:Int)) v z w 0 0 0]]) λv l=>eS 5 v λv o z=>Et lo y (Ao (x+1)) G B H C J a0 P D n0 a1 n1 c0 n2 a2 n3 c1 a n c v o z k d i u j A g s l)) (some (.agg [.sl 6 a n c,.sl 5 b m p,.sl k d i u,.sl j A g s],h)) :=
 lE
def Em lo a n c x y b m p d k u e i s A j C g B G D H a0 J c0 P a1 n0 c1 n1 a2 n2 c2 a3 n3 c3 a4 n4 c4 a5 n5 c5 a6 n6 c6 h:=
 LA 78 Tryz.f78 221311 0 111 lo ⟨[(1,.lp 1 0),(2,.lp 2 0),(3,.lp 3 0),(28,.sl 6 a n c),(29,Iv x),(30,Iv y)],[(1,(DC b m p d k u e i s A j C)),(2,[.sl g B G D,.sl H a0 J c0,.sl P a1 n0 c1,.sl n1 a2 n2 c2]),(3,(DC a3 n3 c3 a4 n4 c4 a5 n5 c5 a6 n6 c6))],h⟩
def Dw lo a n c x y b m p d k u e i s A j C g B G D H a0 J c0 P a1 n0 c1 n1 a2 n2 c2 a3 n3 c3 a4 n4 c4 a5 n5 c5 a6 n6 c6 h:=
 LA 78 Tryz.f78 2213111 2 1111 lo ⟨[(1,.lp 1 0),(2,.lp 2 0),(3,.lp 3 0),(43,.sl 5 a n c),(44,Iv x),(45,Iv y)],[(1,(DC b m p d k u e i s A j C)),(2,[.sl g B G D,.sl H a0 J c0,.sl P a1 n0 c1,.sl n1 a2 n2 c2]),(3,(DC a3 n3 c3 a4 n4 c4 a5 n5 c5 a6 n6 c6))],h⟩
def Dv lo a n c x y m b k p i d j u g e G s H A J C B P D a0 n0 c0 a1 n1 c1 a2 n2 c2 h:=
 LA 78 Tryz.f78 22131111 4 11111 lo ⟨[(2,.lp 2 0),(3,.lp 3 0),(61,.sl 9 a n c),(62,Iv x),(63,Iv y)],[(2,[.sl m b k p,.sl i d j u,.sl g e G s,.sl H A J C]),(3,(DC B P D a0 n0 c0 a1 n1 c1 a2 n2 c2))],h⟩
theorem Em.e {lo m k n i j g G H J P n0 n1 n2 n3 n4 n5 n6:Nat}{b d a A B a0 a1 a2 a3 a4 a5 a6 a7:Pq}{c6 p c u s C D c0 c1 c2 c3 c4 c5:Nq}{y x:Int}{h:Heap} :
  Em lo b m c6 y x d k p a n c A i u B j s g a0 G C H a1 J D P a2 n0 c0 n1 a3 n2 c1 a4 n3 c2 a5 n4 c3 a6 n5 c4 a7 n6 c5 h=br (decide (x<y)) (Aq x m (eO b λv=>eO (ld h v.1 (v.2+x.toNat) 0 6) λv=>eC v λv l=>eI .i64 v λv=>eC l λl o=>eI .i64 l λl=>eC o λo z=>eS 2 o λo w q=>eC z λz t=>eS 6 z λz e f=>eC t λt E=>eS 1 t λt K L=>eC E λE M=>eBv E λE=>eN M (Ai (Ae lo 115 [Al v l o w q z e f t K L E] h) λv l=>eA v λv=>eC v λv o=>eI .i64 v λv=>eC o λo z=>eI .i64 o λo=>eC z λz w=>eS 2 z λz q t=>eC w λw e=>eS 6 w λw f E=>eC e λe K=>eS 1 e λe L M=>eC K λK N=>eBv K λK=>eN N (Aw 6 (l ++ [.rows 6 29 false [CB v o z q t w f E e L M K]]) (.sl 6 (some (l.length,0)) 1 (some 1)) λN=>Dk lo 29 6 96 (.sl 6 a4 n3 c2) N (l ++ [.rows 6 29 false [CB v o z q t w f E e L M K]]) λv l=>eS 6 v λv o z=>Em lo b m c6 y (Ao (x+1)) d k p a n c A i u B j s g a0 G C H a1 J D P a2 n0 c0 n1 a3 n2 c1 v o z a5 n4 c3 a6 n5 c4 a7 n6 c5 l)))) (Dw lo a n c (n:Int) 0 d k p a n c A i u B j s g a0 G C H a1 J D P a2 n0 c0 n1 a3 n2 c1 a4 n3 c2 a5 n4 c3 a6 n5 c4 a7 n6 c5 h) :=
 lE
theorem Dw.e {lo m n4 n5 n n6 k i j g G H J P n0 n1 n2 n3:Nat}{a a5 a6 b a7 d A B a0 a1 a2 a3 a4:Pq}{c3 c4 c5 c c6 p u s C D c0 c1 c2:Nq}{y x:Int}{h:Heap} :
  Dw lo a m c3 y x a5 n4 c4 a6 n5 c5 b n c a7 n6 c6 k d i p j A g u G B H s J a0 P C a1 n0 D a2 n1 c0 a3 n2 c1 a4 n3 c2 h=br (decide (x<y)) (Aq x m (eO a λv=>eO (ld h v.1 (v.2+x.toNat) 0 5) λv=>eC v λv l=>eI .i64 v λv=>eC l λl o=>eS 2 l λl z w=>eC o λo q=>eI .i64 o λo=>eC q λq t=>eI .i64 q λq=>eC t λt e=>eI .i64 t λt=>eN e (Ai (Ae lo 153 [Am l z w] h) λl z=>eA l λl=>eC l λl w=>eS 2 l λl e f=>eN w (Aw 5 (z ++ [.rows 5 66 false [Mo v l e f o q t]]) (.sl 5 (some (z.length,0)) 1 (some 1)) λw=>Dk lo 66 5 56 (.sl 5 a2 n1 c0) w (z ++ [.rows 5 66 false [Mo v l e f o q t]]) λv l=>eS 5 v λv o z=>Dw lo a m c3 y (Ao (x+1)) a5 n4 c4 a6 n5 c5 b n c a7 n6 c6 k d i p j A g u G B H s J a0 P C a1 n0 D v o z a3 n2 c1 a4 n3 c2 l)))) (Dv lo b n c (n:Int) 0 k d i p j A g u G B H s J a0 P C a1 n0 D a2 n1 c0 a3 n2 c1 a4 n3 c2 h) :=
 lE
theorem Dv.e {lo n g G H J P n0 n1 n2 m k i j:Nat}{a a0 a1 a2 a3 b d A B:Pq}{C D c0 c1 c2 c p u s:Nq}{y x:Int}{h:Heap} :
  Dv lo a n C y x g a0 G D H a1 J c0 P a2 n0 c1 n1 a3 n2 c2 b m c d k p A i u B j s h=br (decide (x<y)) (Aq x n (eO a λv=>eO (ld h v.1 (v.2+x.toNat) 0 9) λv=>eC v λv l=>eI .i64 v λv=>eC l λl o=>eI .i64 l λl=>eC o λo z=>eI .i64 o λo=>eC z λz w=>eI .i64 z λz=>eC w λw q=>eI .i64 w λw=>eC q λq t=>eI .i64 q λq=>eC t λt e=>eS 2 t λt f E=>eC e λe K=>eT e λe=>eC K λK L=>eBv K λK=>eN L (Ai (Ae lo 154 [AD z w q t f E e K] h) λz w=>eA z λz=>eC z λz q=>eI .i64 z λz=>eC q λq t=>eI .i64 q λq=>eC t λt e=>eI .i64 t λt=>eC e λe f=>eS 2 e λe E K=>eC f λf L=>eT f λf=>eC L λL M=>eBv L λL=>eN M (Aw 9 (w ++ [.rows 9 123 false [Mp v l o z q t e E K f L]]) (.sl 9 (some (w.length,0)) 1 (some 1)) λM=>Dk lo 123 9 96 (.sl 9 A i u) M (w ++ [.rows 9 123 false [Mp v l o z q t e E K f L]]) λv l=>eS 9 v λv o z=>Dv lo a n C y (Ao (x+1)) g a0 G D H a1 J c0 P a2 n0 c1 n1 a3 n2 c2 b m c d k p v o z B j s l)))) (some ((Av b m c d k p A i u B j s),h)) :=
 lE
def B6 lo f a n c x y b m p h:=
 LA 79 Tryz.f79 22131 0 11 lo ⟨[(1,.lp 1 0),(2,.bool f),(6,.sl 6 a n c),(7,Iv x),(8,Iv y)],[(1,(Bs b m p))],h⟩
theorem Qy (hk:(B6 h.length false a n c (n:Int) 0 a n c h)=some (v,h')) (hn:noId v=true:=by rfl) :
  Ae lo 79 [Bh a n c] h=some (v,h) :=
 eD Tryz.func79 hk hn
theorem B6.e :
  B6 lo f a n c y x b m p h=br (decide (x<y)) (Aq x n (eO a λv=>eO (ld h v.1 (v.2+x.toNat) 0 6) λv=>eC v λv l=>eI .i64 v λv=>eC l λl o=>eI .i64 l λl=>eC o λo s=>eI .i64 o λo=>eC s λs z=>eS 2 s λs u w=>eC z λz q=>eT z λz=>eC q λq g=>eBv q λq=>eN g (Ai (Ae lo 155 [AD v l o s u w z q,.agg [Iv 0,Iv 0,Iv 0,.sl 0 none 0 (some 0),.str ⟨⟨[]⟩⟩,.bool false]] h) λg i=>eB g (B6 lo f a n c y (Ao (x+1)) b m p i) (Ai (Ae lo 134 [AD v l o s u w z q] i) λl o=>eB l (br (v==x) (B6 lo f a n c y (Ao (x+1)) b m p o) (AI o)) (AI o))))) (br ((m:Int)==4) (Cc h) (AI h)) :=
 lE
theorem Eu (hk:(Ai (Ae h.length 156 [.sl 6 a n c,.fn m l] h) λo s=>eI .i64 o λo=>br (decide (o>=0)) (Cc s) (AI s))=some (v,h')) (hn:noId v=true:=by rfl) :
  Ae lo 80 [.sl 6 a n c,.fn m l] h=some (v,h) :=
 eD Tryz.func80 hk hn
end
noncomputable section

variable {lo n m k i:Nat}{f:Bool}{a:Pq}{c:Nq}{y x:Int}{h:Heap}{j:Nat}{b:Pq}{p:Nq}{z t:Int}{S:ByteArray}{d A:Pq}{u s:Nq}{r:V×Heap}{g G H:Nat}{B a0 a1:Pq}{C D c0:Nq}{h':Heap}{v:V}{F:Bool}{l:List V}
def He lo n m k f a i c x y h:=
 LA 82 Tryz.f82 221311 0 111 lo ⟨[(1,(Bi n m k)),(2,.bool f),(32,.sl 6 a i c),(33,Iv x),(34,Iv y)],[],h⟩
def ET lo n m k f a i c x y h:=
 LA 82 Tryz.f82 2213111 2 1111 lo ⟨[(1,(Bi n m k)),(2,.bool f),(50,.sl 6 a i c),(51,Iv x),(52,Iv y)],[],h⟩
def ES lo n m k f a i c x y b j p z t h:=
 Lp (X 82) lo (pf 221123112213111 Tryz.f82) 4 (A8 4 (A8 3 (kS (X 82) lo (pf 1112213111 Tryz.f82) 2 (U0 (X 82) lo (pf 2213111 Tryz.f82) 2 (A8 2 (kS (X 82) lo (pf 1111 Tryz.f82) 0 (I0 (X 82) Tryz.f82.results.toList))))))) ⟨[(1,(Bi n m k)),(2,.bool f),(50,.sl 6 a i c),(51,Iv x),(52,Iv y),(57,.sl 1 b j p),(58,Iv z),(59,Iv t)],[],h⟩
theorem He.e :
  He lo n m k f a i c y x h=br (decide (x<y)) (Aq x i (eO a λv=>eO (ld h v.1 (v.2+x.toNat) 0 6) λv=>eC v λv l=>eI .i64 v λv=>eC l λl o=>eI .i64 l λl=>eC o λo s=>eS 2 o λo b z=>eC s λs u=>eS 6 s λs w p=>eC u λu q=>eS 1 u λu g j=>eC q λq t=>eBv q λq=>eN t (Ai (Ae lo 13 [Al v l o b z s w p u g j q] h) λl o=>eB l (br (v==x) (He lo n m k f a i c y (Ao (x+1)) o) (AI o)) (AI o)))) (eO (ld h n m (k+0) 1) λv=>eC v λv l=>eN l (eS 6 v λv l o=>ET lo n m k f v l o (l:Int) 0 h)) :=
 lE
theorem ET.e :
  ET lo n m k f a i c y x h=br (decide (x<y)) (Aq x i (eO a λv=>eO (ld h v.1 (v.2+x.toNat) 0 6) λv=>eC v λv l=>eI .i64 v λv=>eC l λv l=>eI .i64 v λv=>eC l λv l=>eS 2 v λv v v=>eC l λv l=>eS 6 v λv v v=>eC l λv l=>eS 1 v λv o s=>eC l λl b=>eBv l λl=>eN b (ES lo n m k f a i c y x v o s (o:Int) 0 h))) (eO (ld h n m (k+1) 1) λv=>eC v λv l=>eN l (eS 5 v λv l o=>Ai (Ae lo 159 [.sl 5 v l o,.fn 160 []] h) λv l=>eB v (AI l) (eO (ld l n m (k+2) 1) λv=>eC v λv o=>eN o (eS 9 v λv o s=>Ai (Ae lo 162 [.sl 9 v o s,.fn 163 [Bi n m k]] l) λv l=>eB v (AI l) (Cc l))))) :=
 lE
theorem ES.e :
  ES lo n m k f a i c y z b j p t x h=br (decide (x<t)) (Aq x j (eO b λv=>eO (ld h v.1 (v.2+x.toNat) 0 1) λv=>eC v λv l=>eN l (eS 6 v λv l o=>eO (ld h n m (k+0) 1) λs=>eC s λs u=>eN u (eS 6 s λs u w=>Aq x u (eO s λs=>eO (ld h s.1 (s.2+x.toNat) 3 1) λs=>eC s λs u=>eN u (eS 6 s λs u w=>Ai (Ae lo 158 (Kh s u w v l o) h) λv l=>eB v (ES lo n m k f a i c y z b j p t (Ao (x+1)) l) (AI l))))))) (ET lo n m k f a i c y (Ao (z+1)) h) :=
 lE
def Gp lo a n c b m p f x h:=
 LA 83 Tryz.f83 221311 0 111 lo ⟨[(0,.sl 6 a n c),(1,.sl 6 b m p),(4,.bool f),(5,Iv x)],[],h⟩
theorem Gp.e {lo n m:Nat}{a b:Pq}{c p:Nq}{f:Bool}{x:Int}{h:Heap} :
  Gp lo a n c b m p f x h=br (decide (x<(n:Int))) (Aq x n (eO a λv=>eO (ld h v.1 (v.2+x.toNat) 0 6) λv=>eC v λv l=>eI .i64 v λv=>eC l λl o=>eI .i64 l λl=>eC o λo s=>eS 2 o λo y z=>eC s λs u=>eS 6 s λs w q=>eC u λu g=>eS 1 u λu i j=>eC g λg k=>eBv g λg=>eN k (Aq x m (eO b λk=>eO (ld h k.1 (k.2+x.toNat) 0 6) λk=>eC k λk t=>eI .i64 k λk=>eC t λt d=>eI .i64 t λt=>eC d λd e=>eS 2 d λd A B=>eC e λe C=>eS 6 e λe D E=>eC C λC G=>eS 1 C λC H J=>eC G λG K=>eBv G λG=>eN K (Ai (Ae lo 165 [Al v l o y z s w q u i j g,Al k t d A B e D E C H J G] h) λv l=>eB v (Gp lo a n c b m p f (Ao (x+1)) l) (AI l)))))) (Cc h) :=
 lE
def Ha lo a n c b m p f x h:=
 LA 84 Tryz.f84 221311 0 111 lo ⟨[(0,.sl 5 a n c),(1,.sl 5 b m p),(4,.bool f),(5,Iv x)],[],h⟩
theorem Ha.e :
  Ha lo a n c b m p f x h=br (decide (x<(n:Int))) (Aq x n (eO a λv=>eO (ld h v.1 (v.2+x.toNat) 0 5) λv=>eC v λv l=>eI .i64 v λv=>eC l λl o=>eS 2 l λl s y=>eC o λo z=>eI .i64 o λo=>eC z λz u=>eI .i64 z λz=>eC u λu w=>eI .i64 u λu=>eN w (Aq x m (eO b λw=>eO (ld h w.1 (w.2+x.toNat) 0 5) λw=>eC w λw q=>eI .i64 w λw=>eC q λq g=>eS 2 q λq i j=>eC g λg k=>eI .i64 g λg=>eC k λk t=>eI .i64 k λk=>eC t λt d=>eI .i64 t λt=>eN d (Ai (Ae lo 166 [R3 v l s y o z u,R3 w q i j g k t] h) λv l=>eB v (Ha lo a n c b m p f (Ao (x+1)) l) (AI l)))))) (Cc h) :=
 lE
def Gq lo a n c b m p f x h:=
 LA 85 Tryz.f85 221311 0 111 lo ⟨[(0,.sl 9 a n c),(1,.sl 9 b m p),(4,.bool f),(5,Iv x)],[],h⟩
theorem Gq.e {lo n m:Nat}{a b:Pq}{c p:Nq}{f:Bool}{x:Int}{h:Heap} :
  Gq lo a n c b m p f x h=br (decide (x<(n:Int))) (Aq x n (eO a λv=>eO (ld h v.1 (v.2+x.toNat) 0 9) λv=>eC v λv l=>eI .i64 v λv=>eC l λl o=>eI .i64 l λl=>eC o λo s=>eI .i64 o λo=>eC s λs y=>eI .i64 s λs=>eC y λy z=>eI .i64 y λy=>eC z λz u=>eI .i64 z λz=>eC u λu w=>eS 2 u λu q g=>eC w λw i=>eT w λw=>eC i λi j=>eBv i λi=>eN j (Aq x m (eO b λj=>eO (ld h j.1 (j.2+x.toNat) 0 9) λj=>eC j λj k=>eI .i64 j λj=>eC k λk t=>eI .i64 k λk=>eC t λt d=>eI .i64 t λt=>eC d λd e=>eI .i64 d λd=>eC e λe A=>eI .i64 e λe=>eC A λA B=>eI .i64 A λA=>eC B λB C=>eS 2 B λB D E=>eC C λC G=>eT C λC=>eC G λG H=>eBv G λG=>eN H (Ai (Ae lo 167 [R4 v l o s y z u q g w i,R4 j k t d e A B D E C G] h) λv l=>eB v (Gq lo a n c b m p f (Ao (x+1)) l) (AI l)))))) (Cc h) :=
 lE
def Hc lo a n c b m p f x h:=
 LA 86 Tryz.f86 221311 0 111 lo ⟨[(0,.sl 5 a n c),(1,.sl 5 b m p),(4,.bool f),(5,Iv x)],[],h⟩
theorem Hc.e :
  Hc lo a n c b m p f x h=br (decide (x<(n:Int))) (Aq x n (eO a λv=>eO (ld h v.1 (v.2+x.toNat) 0 5) λv=>eC v λv l=>eI .i64 v λv=>eC l λl o=>eI .i64 l λl=>eC o λo s=>eI .i64 o λo=>eC s λs y=>eI .i64 s λs=>eC y λy z=>eI .i64 y λy=>eN z (Aq x m (eO b λz=>eO (ld h z.1 (z.2+x.toNat) 0 5) λz=>eC z λz u=>eI .i64 z λz=>eC u λu w=>eI .i64 u λu=>eC w λw q=>eI .i64 w λw=>eC q λq g=>eI .i64 q λq=>eC g λg i=>eI .i64 g λg=>eN i (Ai (Ae lo 168 [Ur v l o s y,Ur z u w q g] h) λv l=>eB v (Hc lo a n c b m p f (Ao (x+1)) l) (AI l)))))) (Cc h) :=
 lE
def Gl lo x S h:=
 LA 88 Tryz.f88 223111 0 1111 lo ⟨[(0,Iv x),(3,.str S)],[],h⟩
theorem Gl.e :
  Gl lo x S h=br (decide (x>0)) (Aw 1 (h ++ [.rows 1 5 false [[.int .u8 (IntKind.wrap .u8 (Ao (48+(x.tmod (10:Int)))))]]]) (.sl 1 (some (h.length,0)) 1 (some 1)) λv=>eO (E3 v) λv=>Ms (JA v) S λv=>Gl lo (Ao (x.tdiv (10:Int))) v (h ++ [.rows 1 5 false [[.int .u8 (IntKind.wrap .u8 (Ao (48+(x.tmod (10:Int)))))]]])) (Ms ⟨⟨[109]⟩⟩ S λv=>some (.str v,h)) :=
 lE
def DL lo a n c x y h:=
 LA 89 Tryz.f89 22131 0 11 lo ⟨[(0,.sl 6 a n c),(1,Iv x),(5,Iv y)],[],h⟩
theorem DL.e :
  DL lo a n c y x h=br (decide (x<(n:Int))) (Aq x n (eO a λv=>eO (st lo h v.1 (v.2+x.toNat) 0 (Au y)) λv=>Aq x n (eO a λl=>eO (st lo v l.1 (l.2+x.toNat) 1 (Au (Ao (y+1)))) λv=>Aq x n (eO a λl=>eO (ld v l.1 (l.2+x.toNat) 2 1) λl=>eC l λl o=>eN o (eS 2 l λl o s=>Ai (Ae lo 169 [.sl 2 l o s,Iv (Ao ((Ao (y+1))+1))] v) λv l=>eI .i64 v λv=>Aq x n (eO a λo=>eO (ld l o.1 (o.2+x.toNat) 3 1) λo=>eC o λo s=>eN s (eS 6 o λo s b=>Ai (Ae lo 170 [.sl 6 o s b,Iv v] l) λv l=>eI .i64 v λv=>Aq x n (eO a λo=>eO (ld l o.1 (o.2+x.toNat) 4 1) λo=>eC o λo s=>eN s (eS 1 o λo s b=>Ai (Ae lo 171 [.sl 1 o s b,Iv v] l) λv l=>eI .i64 v λv=>br (v.tmod (3:Int)==0) (Aq x n (eO a λo=>eO (st lo l o.1 (o.2+x.toNat) 5 [.bool true]) λo=>DL lo a n c (Ao (v+1)) (Ao (x+1)) o)) (Aq x n (eO a λo=>eO (st lo l o.1 (o.2+x.toNat) 5 [.bool false]) λl=>DL lo a n c (Ao (v+1)) (Ao (x+1)) l))))))))))) (some (Iv y,h)) :=
 lE
def Ft lo a n c x y h:=
 LA 90 Tryz.f90 22131 0 11 lo ⟨[(0,.sl 5 a n c),(1,Iv x),(5,Iv y)],[],h⟩
theorem Ft.e :
  Ft lo a n c y x h=br (decide (x<(n:Int))) (Aq x n (eO a λv=>eO (st lo h v.1 (v.2+x.toNat) 0 (Au y)) λv=>Aq x n (eO a λl=>eO (ld v l.1 (l.2+x.toNat) 1 1) λl=>eC l λl o=>eN o (eS 2 l λl o s=>Ai (Ae lo 172 [.sl 2 l o s,Iv (Ao (y+1))] v) λv l=>eI .i64 v λv=>Aq x n (eO a λo=>eO (st lo l o.1 (o.2+x.toNat) 2 (Au v)) λl=>Aq x n (eO a λo=>eO (st lo l o.1 (o.2+x.toNat) 3 (Au (Ao (v+1)))) λl=>Aq x n (eO a λo=>eO (st lo l o.1 (o.2+x.toNat) 4 (Au (Ao ((Ao (v+1))+1)))) λl=>Ft lo a n c (Ao ((Ao ((Ao (v+1))+1))+1)) (Ao (x+1)) l))))))) (some (Iv y,h)) :=
 lE
def DM lo a n c x y h:=
 LA 91 Tryz.f91 22131 0 11 lo ⟨[(0,.sl 9 a n c),(1,Iv x),(5,Iv y)],[],h⟩
theorem DM.e :
  DM lo a n c y x h=br (decide (x<(n:Int))) (Aq x n (eO a λv=>eO (st lo h v.1 (v.2+x.toNat) 0 (Au y)) λv=>Aq x n (eO a λl=>eO (st lo v l.1 (l.2+x.toNat) 1 (Au (Ao (y+1)))) λv=>Aq x n (eO a λl=>eO (st lo v l.1 (l.2+x.toNat) 2 (Au (Ao ((Ao (y+1))+1)))) λv=>Aq x n (eO a λl=>eO (st lo v l.1 (l.2+x.toNat) 3 (Au (Ao ((Ao ((Ao (y+1))+1))+1)))) λv=>Aq x n (eO a λl=>eO (st lo v l.1 (l.2+x.toNat) 4 (Au (Ao ((Ao ((Ao ((Ao (y+1))+1))+1))+1)))) λv=>Aq x n (eO a λl=>eO (st lo v l.1 (l.2+x.toNat) 5 (Au (Ao ((Ao ((Ao ((Ao ((Ao (y+1))+1))+1))+1))+1)))) λv=>Aq x n (eO a λl=>eO (ld v l.1 (l.2+x.toNat) 6 1) λl=>eC l λl o=>eN o (eS 2 l λl o s=>Ai (Ae lo 172 [.sl 2 l o s,Iv (Ao ((Ao ((Ao ((Ao ((Ao ((Ao (y+1))+1))+1))+1))+1))+1))] v) λv l=>eI .i64 v λv=>Ai (Ae lo 88 (Au v) l) λl o=>eT l λl=>Aq x n (eO a λs=>eO (st lo o s.1 (s.2+x.toNat) 7 [.str l]) λl=>br ((Ao (v+(1:Int))).tmod (3:Int)==0) (Aq x n (eO a λo=>eO (st lo l o.1 (o.2+x.toNat) 8 [.bool true]) λo=>DM lo a n c (Ao ((Ao (v+1))+1)) (Ao (x+1)) o)) (Aq x n (eO a λo=>eO (st lo l o.1 (o.2+x.toNat) 8 [.bool false]) λl=>DM lo a n c (Ao ((Ao (v+1))+1)) (Ao (x+1)) l)))))))))))) (some (Iv y,h)) :=
 lE
def Fv lo a n c x y h:=
 LA 92 Tryz.f92 22131 0 11 lo ⟨[(0,.sl 5 a n c),(1,Iv x),(5,Iv y)],[],h⟩
theorem Fv.e :
  Fv lo a n c y x h=br (decide (x<(n:Int))) (Aq x n (eO a λv=>eO (st lo h v.1 (v.2+x.toNat) 0 (Au y)) λv=>Aq x n (eO a λl=>eO (st lo v l.1 (l.2+x.toNat) 1 (Au (Ao (y+1)))) λv=>Aq x n (eO a λl=>eO (st lo v l.1 (l.2+x.toNat) 2 (Au (Ao ((Ao (y+1))+1)))) λv=>Aq x n (eO a λl=>eO (st lo v l.1 (l.2+x.toNat) 3 (Au (Ao ((Ao ((Ao (y+1))+1))+1)))) λv=>Aq x n (eO a λl=>eO (st lo v l.1 (l.2+x.toNat) 4 (Au (Ao ((Ao ((Ao ((Ao (y+1))+1))+1))+1)))) λv=>Fv lo a n c (Ao ((Ao ((Ao ((Ao ((Ao (y+1))+1))+1))+1))+1)) (Ao (x+1)) v)))))) (some (Iv y,h)) :=
 lE
def DO lo a n c x y z h:=
 LA 93 Tryz.f93 22131 0 11 lo ⟨[(0,.sl 6 a n c),(1,Iv x),(4,Iv y),(5,Iv z)],[],h⟩
theorem DO.e :
  DO lo a n c y z x h=br (decide (x<(n:Int))) (Aq x n (eO a λv=>eO (ld h v.1 (v.2+x.toNat) 0 1) λv=>eC v λv l=>eN l (eI .i64 v λv=>br (v==y) (Aq x n (eO a λv=>eO (ld h v.1 (v.2+x.toNat) 1 1) λv=>eC v λv l=>eN l (eI .i64 v λv=>br (v==Ao (y+(1:Int))) (Aq x n (eO a λv=>eO (ld h v.1 (v.2+x.toNat) 2 1) λv=>eC v λv l=>eN l (eS 2 v λv l o=>Ai (Ae lo 173 [.sl 2 v l o,Iv (Ao ((Ao (y+1))+1))] h) λv l=>eI .i64 v λv=>br (decide (v<0)) (some (Iv (-1),l)) (Aq x n (eO a λo=>eO (ld l o.1 (o.2+x.toNat) 3 1) λo=>eC o λo s=>eN s (eS 6 o λo s b=>Ai (Ae lo 174 [.sl 6 o s b,Iv v] l) λv l=>eI .i64 v λv=>br (decide (v<0)) (some (Iv (-1),l)) (Aq x n (eO a λo=>eO (ld l o.1 (o.2+x.toNat) 4 1) λo=>eC o λo s=>eN s (eS 1 o λo s b=>Ai (Ae lo 175 [.sl 1 o s b,Iv v] l) λv l=>eI .i64 v λv=>br (decide (v<0)) (some (Iv (-1),l)) (Aq x n (eO a λo=>eO (ld l o.1 (o.2+x.toNat) 5 1) λo=>eC o λo s=>eN s (eB o (br (v.tmod (3:Int)==0) (DO lo a n c (Ao (v+1)) z (Ao (x+1)) l) (some (Iv (-1),l))) (br (v.tmod (3:Int)==0) (some (Iv (-1),l)) (DO lo a n c (Ao (v+1)) z (Ao (x+1)) l)))))))))))))) (some (Iv (-1),h))))) (some (Iv (-1),h))))) (some (Iv y,h)) :=
 lE
def Fz lo a n c x y z h:=
 LA 94 Tryz.f94 22131 0 11 lo ⟨[(0,.sl 5 a n c),(1,Iv x),(4,Iv y),(5,Iv z)],[],h⟩
theorem Fz.e :
  Fz lo a n c y z x h=br (decide (x<(n:Int))) (Aq x n (eO a λv=>eO (ld h v.1 (v.2+x.toNat) 0 1) λv=>eC v λv l=>eN l (eI .i64 v λv=>br (v==y) (Aq x n (eO a λv=>eO (ld h v.1 (v.2+x.toNat) 1 1) λv=>eC v λv l=>eN l (eS 2 v λv l o=>Ai (Ae lo 176 [.sl 2 v l o,Iv (Ao (y+1))] h) λv l=>eI .i64 v λv=>br (decide (v<0)) (some (Iv (-1),l)) (Aq x n (eO a λo=>eO (ld l o.1 (o.2+x.toNat) 2 1) λo=>eC o λo s=>eN s (eI .i64 o λo=>br (o==v) (Aq x n (eO a λo=>eO (ld l o.1 (o.2+x.toNat) 3 1) λo=>eC o λo s=>eN s (eI .i64 o λo=>br (o==Ao (v+(1:Int))) (Aq x n (eO a λo=>eO (ld l o.1 (o.2+x.toNat) 4 1) λo=>eC o λo s=>eN s (eI .i64 o λo=>br (o==Ao (Ao (v+(1:Int))+(1:Int))) (Fz lo a n c (Ao ((Ao ((Ao (v+1))+1))+1)) z (Ao (x+1)) l) (some (Iv (-1),l))))) (some (Iv (-1),l))))) (some (Iv (-1),l)))))))) (some (Iv (-1),h))))) (some (Iv y,h)) :=
 lE
def DP lo a n c x y z h:=
 LA 95 Tryz.f95 22131 0 11 lo ⟨[(0,.sl 9 a n c),(1,Iv x),(4,Iv y),(5,Iv z)],[],h⟩
theorem DP.e :
  DP lo a n c y z x h=br (decide (x<(n:Int))) (Aq x n (eO a λv=>eO (ld h v.1 (v.2+x.toNat) 0 1) λv=>eC v λv l=>eN l (eI .i64 v λv=>br (v==y) (Aq x n (eO a λv=>eO (ld h v.1 (v.2+x.toNat) 1 1) λv=>eC v λv l=>eN l (eI .i64 v λv=>br (v==Ao (y+(1:Int))) (Aq x n (eO a λv=>eO (ld h v.1 (v.2+x.toNat) 2 1) λv=>eC v λv l=>eN l (eI .i64 v λv=>br (v==Ao (Ao (y+(1:Int))+(1:Int))) (Aq x n (eO a λv=>eO (ld h v.1 (v.2+x.toNat) 3 1) λv=>eC v λv l=>eN l (eI .i64 v λv=>br (v==Ao (Ao (Ao (y+(1:Int))+(1:Int))+(1:Int))) (Aq x n (eO a λv=>eO (ld h v.1 (v.2+x.toNat) 4 1) λv=>eC v λv l=>eN l (eI .i64 v λv=>br (v==Ao (Ao (Ao (Ao (y+(1:Int))+(1:Int))+(1:Int))+(1:Int))) (Aq x n (eO a λv=>eO (ld h v.1 (v.2+x.toNat) 5 1) λv=>eC v λv l=>eN l (eI .i64 v λv=>br (v==Ao (Ao (Ao (Ao (Ao (y+(1:Int))+(1:Int))+(1:Int))+(1:Int))+(1:Int))) (Aq x n (eO a λv=>eO (ld h v.1 (v.2+x.toNat) 6 1) λv=>eC v λv l=>eN l (eS 2 v λv l o=>Ai (Ae lo 176 [.sl 2 v l o,Iv (Ao ((Ao ((Ao ((Ao ((Ao ((Ao (y+1))+1))+1))+1))+1))+1))] h) λv l=>eI .i64 v λv=>br (decide (v<0)) (some (Iv (-1),l)) (Aq x n (eO a λo=>eO (ld l o.1 (o.2+x.toNat) 7 1) λo=>eC o λo s=>eN s (eT o λo=>Ai (Ae l.length 88 (Au v) l) λl s=>eT l λl=>br (o.toList==l.toList) (Aq x n (eO a λl=>eO (ld s l.1 (l.2+x.toNat) 8 1) λl=>eC l λl o=>eN o (eB l (br ((Ao (v+(1:Int))).tmod (3:Int)==0) (DP lo a n c (Ao ((Ao (v+1))+1)) z (Ao (x+1)) s) (some (Iv (-1),s))) (br ((Ao (v+(1:Int))).tmod (3:Int)==0) (some (Iv (-1),s)) (DP lo a n c (Ao ((Ao (v+1))+1)) z (Ao (x+1)) s))))) (some (Iv (-1),s)))))))) (some (Iv (-1),h))))) (some (Iv (-1),h))))) (some (Iv (-1),h))))) (some (Iv (-1),h))))) (some (Iv (-1),h))))) (some (Iv (-1),h))))) (some (Iv y,h)) :=
 lE
def FB lo a n c x y z h:=
 LA 96 Tryz.f96 22131 0 11 lo ⟨[(0,.sl 5 a n c),(1,Iv x),(4,Iv y),(5,Iv z)],[],h⟩
theorem FB.e :
  FB lo a n c y z x h=br (decide (x<(n:Int))) (Aq x n (eO a λv=>eO (ld h v.1 (v.2+x.toNat) 0 1) λv=>eC v λv l=>eN l (eI .i64 v λv=>br (v==y) (Aq x n (eO a λv=>eO (ld h v.1 (v.2+x.toNat) 1 1) λv=>eC v λv l=>eN l (eI .i64 v λv=>br (v==Ao (y+(1:Int))) (Aq x n (eO a λv=>eO (ld h v.1 (v.2+x.toNat) 2 1) λv=>eC v λv l=>eN l (eI .i64 v λv=>br (v==Ao (Ao (y+(1:Int))+(1:Int))) (Aq x n (eO a λv=>eO (ld h v.1 (v.2+x.toNat) 3 1) λv=>eC v λv l=>eN l (eI .i64 v λv=>br (v==Ao (Ao (Ao (y+(1:Int))+(1:Int))+(1:Int))) (Aq x n (eO a λv=>eO (ld h v.1 (v.2+x.toNat) 4 1) λv=>eC v λv l=>eN l (eI .i64 v λv=>br (v==Ao (Ao (Ao (Ao (y+(1:Int))+(1:Int))+(1:Int))+(1:Int))) (FB lo a n c (Ao ((Ao ((Ao ((Ao ((Ao (y+1))+1))+1))+1))+1)) z (Ao (x+1)) h) (some (Iv (-1),h))))) (some (Iv (-1),h))))) (some (Iv (-1),h))))) (some (Iv (-1),h))))) (some (Iv (-1),h))))) (some (Iv y,h)) :=
 lE
def Gi lo a n c x y z h:=
 LA 97 Tryz.f97 2213111 0 1111 lo ⟨[(0,.sl 6 a n c),(1,Iv x),(4,Iv y),(5,Iv z)],[],h⟩
theorem Gi.e :
  Gi lo a n c y z x h=br (decide (x<(n:Int))) (Aq x n (eO a λv=>eO (ld h v.1 (v.2+x.toNat) 0 6) λv=>eC v λv l=>eI .i64 v λv=>eC l λl o=>eI .i64 l λl=>eC o λo s=>eS 2 o λo b u=>eC s λs w=>eS 6 s λs p q=>eC w λw g=>eS 1 w λw i j=>eC g λg k=>eBv g λg=>eN k (Ai (Ae lo 177 [Al v l o b u s p q w i j g,Iv y] h) λv l=>eI .i64 v λv=>br (decide (v<0)) (some (Iv (-1),l)) (Gi lo a n c v z (Ao (x+1)) l)))) (some (Iv y,h)) :=
 lE
def G7 lo a n c x y z h:=
 LA 98 Tryz.f98 2213111 0 1111 lo ⟨[(0,.sl 5 a n c),(1,Iv x),(4,Iv y),(5,Iv z)],[],h⟩
theorem G7.e :
  G7 lo a n c y z x h=br (decide (x<(n:Int))) (Aq x n (eO a λv=>eO (ld h v.1 (v.2+x.toNat) 0 5) λv=>eC v λv l=>eI .i64 v λv=>eC l λl o=>eS 2 l λl s b=>eC o λo u=>eI .i64 o λo=>eC u λu w=>eI .i64 u λu=>eC w λw p=>eI .i64 w λw=>eN p (Ai (Ae lo 178 [R3 v l s b o u w,Iv y] h) λv l=>eI .i64 v λv=>br (decide (v<0)) (some (Iv (-1),l)) (G7 lo a n c v z (Ao (x+1)) l)))) (some (Iv y,h)) :=
 lE
def Gj lo a n c x y z h:=
 LA 99 Tryz.f99 2213111 0 1111 lo ⟨[(0,.sl 9 a n c),(1,Iv x),(4,Iv y),(5,Iv z)],[],h⟩
theorem Gj.e :
  Gj lo a n c y z x h=br (decide (x<(n:Int))) (Aq x n (eO a λv=>eO (ld h v.1 (v.2+x.toNat) 0 9) λv=>eC v λv l=>eI .i64 v λv=>eC l λl o=>eI .i64 l λl=>eC o λo s=>eI .i64 o λo=>eC s λs b=>eI .i64 s λs=>eC b λb u=>eI .i64 b λb=>eC u λu w=>eI .i64 u λu=>eC w λw p=>eS 2 w λw q g=>eC p λp i=>eT p λp=>eC i λi j=>eBv i λi=>eN j (Ai (Ae lo 179 [R4 v l o s b u w q g p i,Iv y] h) λv l=>eI .i64 v λv=>br (decide (v<0)) (some (Iv (-1),l)) (Gj lo a n c v z (Ao (x+1)) l)))) (some (Iv y,h)) :=
 lE
def IS lo f x a n c b m p d k u e i s h:=
 LA 101 Tryz.f101 221311 0 111 lo ⟨[(1,.lp 1 0),(2,.bool f),(3,Iv x)],[(1,(DC a n c b m p d k u e i s))],h⟩
def Hn lo f x a n c b m p d k u e i s h:=
 LA 101 Tryz.f101 2213111 2 1111 lo ⟨[(1,.lp 1 0),(2,.bool f),(4,Iv x)],[(1,(DC a n c b m p d k u e i s))],h⟩
def Hl lo f x a n c b m p d k u e i s h:=
 LA 101 Tryz.f101 22131111 4 11111 lo ⟨[(1,.lp 1 0),(2,.bool f),(5,Iv x)],[(1,(DC a n c b m p d k u e i s))],h⟩
def Hk lo f x a n c b m p d k u e i s h:=
 LA 101 Tryz.f101 221311111 6 111111 lo ⟨[(1,.lp 1 0),(2,.bool f),(6,Iv x)],[(1,(DC a n c b m p d k u e i s))],h⟩
theorem IS.e {lo n m k i:Nat}{f:Bool}{x:Int}{a b d A:Pq}{c p u s:Nq}{h:Heap} :
  IS lo f x a n c b m p d k u A i s h=br (decide (x<3)) (Aq x n (eO a λv=>eO (ld h v.1 (v.2+x.toNat) 0 1) λv=>eC v λv l=>eN l (eI .i64 v λv=>br (v==x) (Aq x n (eO a λv=>eO (ld h v.1 (v.2+x.toNat) 0 6) λv=>eC v λv l=>eI .i64 v λv=>eC l λl o=>eI .i64 l λl=>eC o λo y=>eS 2 o λo z w=>eC y λy q=>eS 6 y λy g j=>eC q λq t=>eS 1 q λq e B=>eC t λt C=>eBv t λt=>eN C (Ai (Ae lo 53 [Al v l o z w y g j q e B t] h) λv l=>eB v (IS lo f (Ao (x+1)) a n c b m p d k u A i s l) (AI l)))) (AI h)))) (Hn lo f 0 a n c b m p d k u A i s h) :=
 lE
theorem Hn.e :
  Hn lo f x b m c a n p d k u A i s h=br (decide (x<(n:Int))) (Aq x n (eO a λv=>eO (ld h v.1 (v.2+x.toNat) 0 5) λv=>eC v λv l=>eI .i64 v λv=>eC l λl o=>eS 2 l λl y z=>eC o λo w=>eI .i64 o λo=>eC w λw q=>eI .i64 w λw=>eC q λq g=>eI .i64 q λq=>eN g (Ai (Ae lo 180 [R3 v l y z o w q] h) λv l=>eB v (Hn lo f (Ao (x+1)) b m c a n p d k u A i s l) (AI l)))) (Hl lo f 0 b m c a n p d k u A i s h) :=
 lE
theorem Hl.e {lo m k n i:Nat}{f:Bool}{x:Int}{b d a A:Pq}{c p u s:Nq}{h:Heap} :
  Hl lo f x b m c d k p a n u A i s h=br (decide (x<(n:Int))) (Aq x n (eO a λv=>eO (ld h v.1 (v.2+x.toNat) 0 9) λv=>eC v λv l=>eI .i64 v λv=>eC l λl o=>eI .i64 l λl=>eC o λo y=>eI .i64 o λo=>eC y λy z=>eI .i64 y λy=>eC z λz w=>eI .i64 z λz=>eC w λw q=>eI .i64 w λw=>eC q λq g=>eS 2 q λq j t=>eC g λg e=>eT g λg=>eC e λe B=>eBv e λe=>eN B (Ai (Ae lo 181 [Av b m c d k p a n u A i s,R4 v l o y z w q j t g e] h) λv l=>eB v (Hl lo f (Ao (x+1)) b m c d k p a n u A i s l) (AI l)))) (Hk lo f 0 b m c d k p a n u A i s h) :=
 lE
theorem Hk.e :
  Hk lo f x b m c d k p A i u a n s h=br (decide (x<(n:Int))) (Aq x n (eO a λv=>eO (ld h v.1 (v.2+x.toNat) 0 5) λv=>eC v λv l=>eI .i64 v λv=>eC l λl o=>eI .i64 l λl=>eC o λo y=>eI .i64 o λo=>eC y λy z=>eI .i64 y λy=>eC z λz w=>eI .i64 z λz=>eN w (Ai (Ae lo 182 [Ur v l o y z] h) λv l=>eB v (Hk lo f (Ao (x+1)) b m c d k p A i u a n s l) (AI l)))) (Ai (Ae lo 183 [Av b m c d k p A i u a n s] h) λv l=>eB v (Cc l) (AI l)) :=
 lE
theorem UV {e:Pq} (hk:(Ai (Ae lo 54 (Dh x 1 5) h) λv l=>eB v (Ai (Ae lo 184 [Av a n c b m p d k u e i s,BZ x y z t S f] l) λv o=>eU v λv=>eC v λv w=>eA v λv=>eC v λv q=>eS 6 v λv g j=>eC q λq A=>eS 5 q λq B C=>eC A λA D=>eS 9 A λA E G=>eC D λD H=>eS 5 D λD J K=>eN H (eC w λw H=>eB w (eN H (some (.tup [Av v g j q B C A E G D J K,.bool true],o))) (eN H (some (.tup [Av v g j q B C A E G D J K,.bool false],o))))) (Ai (Ae lo 54 (Dh x 6 9) l) λv l=>eB v (Ai (Ae lo 185 [Av a n c b m p d k u e i s,BZ x y z t S f] l) λv o=>eU v λv=>eC v λv w=>eA v λv=>eC v λv q=>eS 6 v λv g j=>eC q λq A=>eS 5 q λq B C=>eC A λA D=>eS 9 A λA E G=>eC D λD H=>eS 5 D λD J K=>eN H (eC w λw H=>eB w (eN H (some (.tup [Av v g j q B C A E G D J K,.bool true],o))) (eN H (some (.tup [Av v g j q B C A E G D J K,.bool false],o))))) (Ai (Ae lo 54 (Dh x 10 13) l) λv l=>eB v (Ai (Ae lo 186 [Av a n c b m p d k u e i s,BZ x y z t S f] l) λv o=>eU v λv=>eC v λv w=>eA v λv=>eC v λv q=>eS 6 v λv g j=>eC q λq A=>eS 5 q λq B C=>eC A λA D=>eS 9 A λA E G=>eC D λD H=>eS 5 D λD J K=>eN H (eC w λw H=>eB w (eN H (some (.tup [Av v g j q B C A E G D J K,.bool true],o))) (eN H (some (.tup [Av v g j q B C A E G D J K,.bool false],o))))) (some (.tup [Av a n c b m p d k u e i s,.bool false],l)))))=some r) :
  Ae lo 102 [Av a n c b m p d k u e i s,BZ x y z t S f] h=some r :=
 eK Tryz.func102 hk
def CX lo x a n c b m p d k u e i s j A g C G B H D J a0 P c0 n0 a1 n1 c1 n2 a2 n3 c2 n4 a3 n5 c3 n6 a4 n7 c4 a5 n8 c5 h:=
 LA 103 Tryz.f103 221311 0 111 lo ⟨[(1,.lp 1 0),(2,.lp 2 0),(3,.lp 3 0),(4,Iv x)],[(1,(DC a n c b m p d k u e i s)),(2,[.sl j A g C,.sl G B H D,.sl J a0 P c0,.sl n0 a1 n1 c1]),(3,[.sl n2 a2 n3 c2,.sl n4 a3 n5 c3,.sl n6 a4 n7 c4,.sl 5 a5 n8 c5])],h⟩
def CW lo x a n c b m p d k u e i s j A g C G B H D J a0 P c0 n0 a1 n1 c1 n2 a2 n3 c2 n4 a3 n5 c3 n6 a4 n7 c4 a5 n8 c5 h:=
 LA 103 Tryz.f103 2213111 2 1111 lo ⟨[(1,.lp 1 0),(2,.lp 2 0),(3,.lp 3 0),(5,Iv x)],[(1,(DC a n c b m p d k u e i s)),(2,[.sl j A g C,.sl G B H D,.sl J a0 P c0,.sl n0 a1 n1 c1]),(3,[.sl n2 a2 n3 c2,.sl n4 a3 n5 c3,.sl n6 a4 n7 c4,.sl 5 a5 n8 c5])],h⟩
def CV lo x a n c b m p d k u e i s j A g C G B H D J a0 P c0 n0 a1 n1 c1 n2 a2 n3 c2 n4 a3 n5 c3 n6 a4 n7 c4 a5 n8 c5 h:=
 LA 103 Tryz.f103 22131111 4 11111 lo ⟨[(1,.lp 1 0),(2,.lp 2 0),(3,.lp 3 0),(7,Iv x)],[(1,(DC a n c b m p d k u e i s)),(2,[.sl j A g C,.sl G B H D,.sl J a0 P c0,.sl n0 a1 n1 c1]),(3,[.sl n2 a2 n3 c2,.sl n4 a3 n5 c3,.sl n6 a4 n7 c4,.sl 5 a5 n8 c5])],h⟩
theorem QU {e:Pq} (hk:(Aw 5 (h ++ [.rows 5 126 false []]) (.sl 5 a n c) λv=>Dk lo 126 5 40 (.sl 5 (some (h.length,0)) 0 (some 0)) v (h ++ [.rows 5 126 false []]) λv l=>eS 5 v λv o x=>CX lo 0 b m p d k u e i s a n c 0 none 0 (some 0) 0 none 0 (some 0) 0 none 0 (some 0) 0 none 0 (some 0) 0 none 0 (some 0) 0 none 0 (some 0) 0 none 0 (some 0) v o x l)=some r) :
  Ae lo 103 [Av b m p d k u e i s a n c] h=some r :=
 eK Tryz.func103 hk
theorem CX.e {lo n m k i j g G H J P n0 n1 n2 n3 n4 n5 n6 n7 n8:Nat}{x:Int}{a b d A B a0 a1 a2 a3 a4 a5 a6:Pq}{c p u s C D c0 c1 c2 c3 c4 c5:Nq}{h:Heap} :
  CX lo x a n c b m p d k u A i s j B g C G a0 H D J a1 P c0 n0 a2 n1 c1 n2 a3 n3 c2 n4 a4 n5 c3 n6 a5 n7 c4 a6 n8 c5 h=br (decide (x<(n:Int))) (Aq x n (eO a λv=>eO (ld h v.1 (v.2+x.toNat) 0 6) λv=>eC v λv l=>eI .i64 v λv=>eC l λl o=>eI .i64 l λl=>eC o λo y=>eS 2 o λo z w=>eC y λy q=>eS 6 y λy t e=>eC q λq f=>eS 1 q λq E K=>eC f λf L=>eBv f λf=>eN L (Ai (Ae lo 58 [Al v l o z w y t e q E K f] h) λv l=>eA v λv=>eC v λv o=>eI .i64 v λv=>eC o λo y=>eI .i64 o λo=>eC y λy z=>eS 2 y λy w q=>eC z λz t=>eS 6 z λz e f=>eC t λt E=>eS 1 t λt K L=>eC E λE M=>eBv E λE=>eN M (Aw 6 (l ++ [.rows 6 29 false [CB v o y w q z e f t K L E]]) (.sl 6 (some (l.length,0)) 1 (some 1)) λM=>Dk lo 29 6 96 (.sl n2 a3 n3 c2) M (l ++ [.rows 6 29 false [CB v o y w q z e f t K L E]]) λv l=>eS 6 v λv o y=>CX lo (Ao (x+1)) a n c b m p d k u A i s j B g C G a0 H D J a1 P c0 n0 a2 n1 c1 6 v o y n4 a4 n5 c3 n6 a5 n7 c4 a6 n8 c5 l)))) (CW lo 0 a n c b m p d k u A i s j B g C G a0 H D J a1 P c0 n0 a2 n1 c1 n2 a3 n3 c2 n4 a4 n5 c3 n6 a5 n7 c4 a6 n8 c5 h) :=
 lE
theorem CW.e {lo m n k i j g G H J P n0 n1 n2 n3 n4 n5 n6 n7 n8:Nat}{x:Int}{b a d A B a0 a1 a2 a3 a4 a5 a6:Pq}{c p u s C D c0 c1 c2 c3 c4 c5:Nq}{h:Heap} :
  CW lo x b m c a n p d k u A i s j B g C G a0 H D J a1 P c0 n0 a2 n1 c1 n2 a3 n3 c2 n4 a4 n5 c3 n6 a5 n7 c4 a6 n8 c5 h=br (decide (x<(n:Int))) (Aq x n (eO a λv=>eO (ld h v.1 (v.2+x.toNat) 0 5) λv=>eC v λv l=>eI .i64 v λv=>eC l λl o=>eS 2 l λl y z=>eC o λo w=>eI .i64 o λo=>eC w λw q=>eI .i64 w λw=>eC q λq t=>eI .i64 q λq=>eN t (Aw 2 (h ++ [.rows 2 36 false []]) (.sl 2 l y z) λl=>Dk lo 36 2 16 (.sl 2 (some (h.length,0)) 0 (some 0)) l (h ++ [.rows 2 36 false []]) λl y=>eS 2 l λl z t=>Aw 5 (y ++ [.rows 5 66 false [Mo v l z t o w q]]) (.sl 5 (some (y.length,0)) 1 (some 1)) λe=>Dk lo 66 5 56 (.sl n4 a4 n5 c3) e (y ++ [.rows 5 66 false [Mo v l z t o w q]]) λv l=>eS 5 v λv o y=>CW lo (Ao (x+1)) b m c a n p d k u A i s j B g C G a0 H D J a1 P c0 n0 a2 n1 c1 n2 a3 n3 c2 5 v o y n6 a5 n7 c4 a6 n8 c5 l))) (CV lo 0 b m c a n p d k u A i s j B g C G a0 H D J a1 P c0 n0 a2 n1 c1 n2 a3 n3 c2 n4 a4 n5 c3 n6 a5 n7 c4 a6 n8 c5 h) :=
 lE
theorem CV.e {lo J P n n0 n1 n2 n3 n4 n5 n6 n7 n8 m k i j g G H:Nat}{x:Int}{a0 a1 a a2 a3 a4 a5 a6 b d A B:Pq}{C D c0 c1 c2 c3 c4 c5 c p u s:Nq}{h:Heap} :
  CV lo x a0 J C a1 P D a n c0 a2 n0 c1 n1 a3 n2 c2 n3 a4 n4 c3 n5 a5 n6 c4 n7 a6 n8 c5 m b k c i d j p g A G u B H s h=br (decide (x<(n:Int))) (Aq x n (eO a λv=>eO (ld h v.1 (v.2+x.toNat) 0 9) λv=>eC v λv l=>eI .i64 v λv=>eC l λl o=>eI .i64 l λl=>eC o λo y=>eI .i64 o λo=>eC y λy z=>eI .i64 y λy=>eC z λz w=>eI .i64 z λz=>eC w λw q=>eI .i64 w λw=>eC q λq t=>eS 2 q λq e f=>eC t λt E=>eT t λt=>eC E λE K=>eBv E λE=>eN K (Ai (Ae lo 187 [AD y z w q e f t E] h) λy z=>eA y λy=>eC y λy w=>eI .i64 y λy=>eC w λw q=>eI .i64 w λw=>eC q λq t=>eI .i64 q λq=>eC t λt e=>eS 2 t λt f E=>eC e λe K=>eT e λe=>eC K λK L=>eBv K λK=>eN L (Aw 9 (z ++ [.rows 9 123 false [Mp v l o y w q t f E e K]]) (.sl 9 (some (z.length,0)) 1 (some 1)) λL=>Dk lo 123 9 96 (.sl g A G u) L (z ++ [.rows 9 123 false [Mp v l o y w q t f E e K]]) λv l=>eS 9 v λv o y=>CV lo (Ao (x+1)) a0 J C a1 P D a n c0 a2 n0 c1 n1 a3 n2 c2 n3 a4 n4 c3 n5 a5 n6 c4 n7 a6 n8 c5 m b k c i d j p 9 v o y B H s l)))) (some (.agg [.sl m b k c,.sl i d j p,.sl g A G u,.sl 5 B H s],h)) :=
 lE
def Ge lo a n c b m p x h:=
 LA 104 Tryz.f104 221311 0 111 lo ⟨[(0,.sl 6 a n c),(3,.sl 6 b m p),(4,Iv x)],[],h⟩
theorem Ge.e :
  Ge lo b n p a m c x h=br (decide (x<(n:Int))) (Aq x n (eO b λv=>eO (ld h v.1 (v.2+x.toNat) 0 6) λv=>eC v λv l=>eI .i64 v λv=>eC l λl o=>eI .i64 l λl=>eC o λo s=>eS 2 o λo y z=>eC s λs u=>eS 6 s λs w q=>eC u λu g=>eS 1 u λu i j=>eC g λg k=>eBv g λg=>eN k (Ai (Ae lo 188 [Al v l o y z s w q u i j g] h) λv l=>eA v λv=>eC v λv o=>eI .i64 v λv=>eC o λo s=>eI .i64 o λo=>eC s λs y=>eS 2 s λs z u=>eC y λy w=>eS 6 y λy q g=>eC w λw i=>eS 1 w λw j k=>eC i λi t=>eBv i λi=>eN t (Aq x m (eO a λt=>eO (st lo l t.1 (t.2+x.toNat) 0 (CB v o s z u y q g w j k i)) λv=>Ge lo b n p a m c (Ao (x+1)) v))))) (some (.sl 6 a m c,h)) :=
 lE
def GW lo a n c b m p x h:=
 LA 105 Tryz.f105 221311 0 111 lo ⟨[(0,.sl 5 a n c),(3,.sl 5 b m p),(4,Iv x)],[],h⟩
theorem GW.e :
  GW lo b n p a m c x h=br (decide (x<(n:Int))) (Aq x n (eO b λv=>eO (ld h v.1 (v.2+x.toNat) 0 5) λv=>eC v λv l=>eI .i64 v λv=>eC l λl o=>eS 2 l λl s y=>eC o λo z=>eI .i64 o λo=>eC z λz u=>eI .i64 z λz=>eC u λu w=>eI .i64 u λu=>eN w (Ai (Ae lo 189 [R3 v l s y o z u] h) λv l=>eA v λv=>eC v λv o=>eI .i64 v λv=>eC o λo s=>eS 2 o λo y z=>eC s λs u=>eI .i64 s λs=>eC u λu w=>eI .i64 u λu=>eC w λw q=>eI .i64 w λw=>eN q (Aq x m (eO a λq=>eO (st lo l q.1 (q.2+x.toNat) 0 (Mo v o y z s u w)) λv=>GW lo b n p a m c (Ao (x+1)) v))))) (some (.sl 5 a m c,h)) :=
 lE
def Gf lo a n c b m p x h:=
 LA 106 Tryz.f106 221311 0 111 lo ⟨[(0,.sl 9 a n c),(3,.sl 9 b m p),(4,Iv x)],[],h⟩
theorem Gf.e :
  Gf lo b n p a m c x h=br (decide (x<(n:Int))) (Aq x n (eO b λv=>eO (ld h v.1 (v.2+x.toNat) 0 9) λv=>eC v λv l=>eI .i64 v λv=>eC l λl o=>eI .i64 l λl=>eC o λo s=>eI .i64 o λo=>eC s λs y=>eI .i64 s λs=>eC y λy z=>eI .i64 y λy=>eC z λz u=>eI .i64 z λz=>eC u λu w=>eS 2 u λu q g=>eC w λw i=>eT w λw=>eC i λi j=>eBv i λi=>eN j (Ai (Ae lo 190 [R4 v l o s y z u q g w i] h) λv l=>eA v λv=>eC v λv o=>eI .i64 v λv=>eC o λo s=>eI .i64 o λo=>eC s λs y=>eI .i64 s λs=>eC y λy z=>eI .i64 y λy=>eC z λz u=>eI .i64 z λz=>eC u λu w=>eI .i64 u λu=>eC w λw q=>eS 2 w λw g i=>eC q λq j=>eT q λq=>eC j λj k=>eBv j λj=>eN k (Aq x m (eO a λk=>eO (st lo l k.1 (k.2+x.toNat) 0 (Mp v o s y z u w g i q j)) λv=>Gf lo b n p a m c (Ao (x+1)) v))))) (some (.sl 9 a m c,h)) :=
 lE
def GY lo a n c b m p x h:=
 LA 107 Tryz.f107 221311 0 111 lo ⟨[(0,.sl 5 a n c),(3,.sl 5 b m p),(4,Iv x)],[],h⟩
theorem GY.e :
  GY lo b n p a m c x h=br (decide (x<(n:Int))) (Aq x n (eO b λv=>eO (ld h v.1 (v.2+x.toNat) 0 5) λv=>eC v λv l=>eI .i64 v λv=>eC l λl o=>eI .i64 l λl=>eC o λo s=>eI .i64 o λo=>eC s λs y=>eI .i64 s λs=>eC y λy z=>eI .i64 y λy=>eN z (Ai (Ae lo 191 [Ur v l o s y] h) λv l=>eA v λv=>eC v λv o=>eI .i64 v λv=>eC o λo s=>eI .i64 o λo=>eC s λs y=>eI .i64 s λs=>eC y λy z=>eI .i64 y λy=>eC z λz u=>eI .i64 z λz=>eN u (Aq x m (eO a λu=>eO (st lo l u.1 (u.2+x.toNat) 0 (UJ v o s y z)) λv=>GY lo b n p a m c (Ao (x+1)) v))))) (some (.sl 5 a m c,h)) :=
 lE
theorem Lt (hk:(Ai (Ae lo 192 [Bi n m k] h) λv l=>eA v λv=>eC v λv c=>eS 6 v λv a o=>eC c λc s=>eS 5 c λc b x=>eC s λs y=>eS 9 s λs z u=>eC y λy w=>eS 5 y λy p q=>eN w (Ai (Ae lo 44 [Bi n m k,Iv 3] l) λl w=>eI .i64 l λl=>Ai (Ae lo 44 [Bi n m k,Iv 16] w) λw g=>eI .i64 w λw=>br (w==0) (Ai (Ae lo 49 [Bi n m k,.sl 1 (some (g.length,0)) 3 (some 3)] (g ++ [.rows 1 3 false [Au (-1),Au 0,Au 1000]])) λi j=>eI .i64 i λi=>Aq l a (eO v λt=>eO (st lo j t.1 (t.2+l.toNat) 1 (Au i)) λi=>some ((Av v a o c b x s z u y p q),i))) (br (w==1) (Aq l a (eO v λi=>eO (ld g i.1 (i.2+l.toNat) 3 1) λj=>eC j λj t=>eN t (eS 6 j λj t d=>Ai (Ae lo 193 [Bi n m k] g) λe f=>eA e λe=>eC e λe A=>eI .i64 e λe=>eC A λA B=>eI .i64 A λA=>eC B λB C=>eI .i64 B λB=>eC C λC D=>eS 2 C λC E G=>eC D λD H=>eT D λD=>eC H λH J=>eBv H λH=>eN J (Bu (KV (ld g i.1 (i.2+l.toNat) 3 1) (ld f i.1 (i.2+l.toNat) 3 1)) (Bu (KV (ld f i.1 (i.2+l.toNat) 3 1) (ld (f ++ [.rows 6 43 false [Cf e A B C E G D H]]) i.1 (i.2+l.toNat) 3 1)) (Aw 6 (f ++ [.rows 6 43 false [Cf e A B C E G D H]]) (.sl 6 (some (f.length,0)) 1 (some 1)) λi=>Dk lo 43 6 72 (.sl 6 j t d) i (f ++ [.rows 6 43 false [Cf e A B C E G D H]]) λi j=>eS 6 i λi t d=>Aq l a (eO v λe=>eO (st lo j e.1 (e.2+l.toNat) 3 (Bs i t d)) λi=>some ((Av v a o c b x s z u y p q),i)))))))) (br (w==2) (Ai (Ae lo 194 [Bi n m k] g) λi j=>eA i λi=>eC i λi t=>eS 2 i λi d e=>eN t (Aq l a (eO v λt=>eO (st lo j t.1 (t.2+l.toNat) 2 (Bk i d e)) λi=>some ((Av v a o c b x s z u y p q),i)))) (br (w==3) (AL v a o (some (Iv 1)) none none λi j t=>some ((Av i j t c b x s z u y p q),g)) (br (w==4) (Ai (Ae lo 44 [Bi n m k,Iv 3] g) λi j=>eI .i64 i λi=>Ai (Ae lo 195 [Bi n m k] j) λj t=>eA j λj=>eC j λj d=>eI .i64 j λj=>eC d λd e=>eI .i64 d λd=>eC e λe f=>eI .i64 e λe=>eC f λf A=>eS 2 f λf B C=>eC A λA D=>eT A λA=>eC D λD E=>eBv D λD=>eN E (Aw 9 (t ++ [.rows 9 123 false [Mp l i 0 j d e f B C A D]]) (.sl 9 (some (t.length,0)) 1 (some 1)) λE=>Dk lo 123 9 96 (.sl 9 s z u) E (t ++ [.rows 9 123 false [Mp l i 0 j d e f B C A D]]) λl i=>eS 9 l λl j t=>some ((Av v a o c b x l j t y p q),i))) (br (w==5) (Ai (Ae lo 44 [Bi n m k,Iv 5] g) λl i=>eI .i64 l λl=>Ai (Ae lo 44 [Bi n m k,Iv 5] i) λi j=>eI .i64 i λi=>Ai (Ae lo 44 [Bi n m k,Iv 5] j) λj t=>eI .i64 j λj=>Ai (Ae lo 110 [Bi n m k] t) λt d=>eA t λt=>eC t λt e=>eI .i64 t λt=>eC e λe f=>eI .i64 e λe=>eN f (Aw 5 (d ++ [.rows 5 126 false [UJ l i j t e]]) (.sl 5 (some (d.length,0)) 1 (some 1)) λf=>Dk lo 126 5 40 (.sl 5 y p q) f (d ++ [.rows 5 126 false [UJ l i j t e]]) λl i=>eS 5 l λl j t=>some ((Av v a o c b x s z u l j t),i))) (br (w==6) (Ai (Ae lo 43 [Bi n m k] g) λl w=>eA l λl=>eC l λl i=>eS 2 l λl j t=>eN i (Aq 0 b (eO c λi=>eO (st lo w i.1 (i.2+0) 1 (Bk l j t)) λl=>some ((Av v a o c b x s z u y p q),l)))) (some ((Av v a o c b x s z u y p q),g))))))))))=some r) :
  Ae lo 108 [Bi n m k] h=some r :=
 eK Tryz.func108 hk
theorem Ri (hk:(Ai (Ae lo 44 [Bi n m k,Iv 3] h) λv l=>eI .i64 v λv=>br (v==0) (some ((Ax 0 0),l)) (Ai (Ae lo 44 [Bi n m k,Iv 9] l) λv l=>eI .i64 v λv=>Ai (Ae lo 44 [Bi n m k,Iv 3] l) λl c=>eI .i64 l λl=>some ((Ax (Ao (1+v)) l),c)))=some r) :
  Ae lo 109 [Bi n m k] h=some r :=
 eK Tryz.func109 hk
theorem NE (hk:(Ai (Ae lo 44 [Bi n m k,Iv 8] h) λv l=>eI .i64 v λv=>br (v==0) (Ai (Ae lo 49 [Bi n m k,.sl 1 (some (l.length,0)) 4 (some 4)] (l ++ [.rows 1 3 false [Au 0,Au (-1),Au 1000,Au 999]])) λv c=>eI .i64 v λv=>Ai (Ae lo 49 [Bi n m k,.sl 1 (some (c.length,0)) 4 (some 4)] (c ++ [.rows 1 3 false [Au 0,Au 1,Au 3,Au (-1)]])) λc a=>eI .i64 c λc=>some ((Ax v c),a)) (Ai (Ae lo 109 [Bi n m k] l) λv l=>eA v λv=>eC v λv c=>eI .i64 v λv=>eC c λc a=>eI .i64 c λc=>eN a (some ((Ax v c),l))))=some r) :
  Ae lo 110 [Bi n m k] h=some r :=
 eK Tryz.func110 hk
def Bf lo f x a n c h:=
 LA 111 Tryz.f111 22131 0 11 lo ⟨[(1,.lp 1 0),(2,.bool f),(3,Iv x)],[(1,(Bs a n c))],h⟩
theorem NA (hk:(Bf h.length false 0 a n c h)=some (v,h')) (hn:noId v=true:=by rfl) :
  Ae lo 111 [Bh a n c] h=some (v,h) :=
 eD Tryz.func111 hk hn
theorem Bf.e :
  Bf lo f x a n c h=br (decide (x<(n:Int))) (Aq x n (eO a λv=>eO (ld h v.1 (v.2+x.toNat) 1 2) λv=>eC v λv l=>eI .i64 v λv=>eC l λl o=>eI .i64 l λl=>eN o (br ((v==0)&&((l==0)&&true)) (Aq x n (eO a λv=>eO (ld h v.1 (v.2+x.toNat) 1 2) λv=>eC v λv l=>eI .i64 v λv=>eC l λl o=>eI .i64 l λl=>eN o (br ((v==0)&&((l==0)&&true)) (Aq x n (eO a λv=>eO (ld h v.1 (v.2+x.toNat) 0 1) λv=>eC v λv l=>eN l (eI .i64 v λv=>br (v==0) (Aq x n (eO a λv=>eO (ld h v.1 (v.2+x.toNat) 4 1) λv=>eC v λv l=>eN l (eT v λv=>br (v.toList==(ByteArray.mk #[]).toList) (Aq x n (eO a λv=>eO (ld h v.1 (v.2+x.toNat) 5 1) λv=>eC v λv l=>eN l (eB v (AI h) (Aq x n (eO a λv=>eO (ld h v.1 (v.2+x.toNat) 3 1) λv=>eC v λv l=>eN l (eS 2 v λv v l=>br (decide ((v:Int)>0)) (AI h) (Bf lo f (Ao (x+1)) a n c h))))))) (AI h)))) (AI h)))) (Bf lo f (Ao (x+1)) a n c h)))) (Aq x n (eO a λv=>eO (ld h v.1 (v.2+x.toNat) 0 6) λv=>eC v λv l=>eI .i64 v λv=>eC l λl o=>eI .i64 l λl=>eC o λo s=>eI .i64 o λo=>eC s λs b=>eS 2 s λs y z=>eC b λb u=>eT b λb=>eC u λu w=>eBv u λu=>eN w (Ai (Ae lo 112 [AD v l o s y z b u] h) λv l=>eB v (Aq x n (eO a λv=>eO (ld l v.1 (v.2+x.toNat) 0 1) λv=>eC v λv o=>eN o (eI .i64 v λv=>br (v==x) (Aq x n (eO a λv=>eO (ld l v.1 (v.2+x.toNat) 1 2) λv=>eC v λv o=>eI .i64 v λv=>eC o λo s=>eI .i64 o λo=>eN s (br ((v==0)&&((o==0)&&true)) (Aq x n (eO a λv=>eO (ld l v.1 (v.2+x.toNat) 0 1) λv=>eC v λv o=>eN o (eI .i64 v λv=>br (v==0) (Aq x n (eO a λv=>eO (ld l v.1 (v.2+x.toNat) 4 1) λv=>eC v λv o=>eN o (eT v λv=>br (v.toList==(ByteArray.mk #[]).toList) (Aq x n (eO a λv=>eO (ld l v.1 (v.2+x.toNat) 5 1) λv=>eC v λv o=>eN o (eB v (AI l) (Aq x n (eO a λv=>eO (ld l v.1 (v.2+x.toNat) 3 1) λv=>eC v λv o=>eN o (eS 2 v λv v o=>br (decide ((v:Int)>0)) (AI l) (Bf lo f (Ao (x+1)) a n c l))))))) (AI l)))) (AI l)))) (Bf lo f (Ao (x+1)) a n c l)))) (AI l)))) (AI l))))))) (br ((n:Int)==4) (Cc h) (AI h)) :=
 lE
def CI lo f x y z t a n c S F h:=
 LA 112 Tryz.f112 221311 0 111 lo ⟨[(1,.lp 1 0),(2,.bool f),(3,Iv x)],[(1,(Cf y z t a n c S F))],h⟩
theorem UY (hk:(Ai (Ae h.length 54 (Dh y 0 3) h) λl o=>eB l (Ai (Ae h.length 55 [.str S] o) λl s=>eB l (Ai (Ae h.length 123 [Ax x z] s) λl b=>eB l (br (x==0) (AI b) (br f (br (S.toList==(ByteArray.mk #[]).toList) (Ai (Ae h.length 56 [Am a n c] b) λl u=>eB l (CI h.length false 0 y x z a n c S true u) (AI u)) (AI b)) (Ai (Ae h.length 56 [Am a n c] b) λl u=>eB l (CI h.length false 0 y x z a n c S false u) (AI u)))) (AI b)) (AI s)) (AI o))=some (v,h')) (hn:noId v=true:=by rfl) :
  Ae lo 112 [AD y x z a n c S f] h=some (v,h) :=
 by cases f<;>exact eD Tryz.func112 hk hn
theorem CI.e :
  CI lo f x z y t a n c S F h=br (decide (x<4)) (Aq x n (eO a λv=>eO (ld h v.1 (v.2+x.toNat) 0 1) λv=>eC v λv l=>eN l (eI .i64 v λv=>br (decide (v>=y)) (AI h) (CI lo f (Ao (x+1)) z y t a n c S F h)))) (Cc h) :=
 lE
def C0 lo f x a n c b m p d k u h:=
 LA 113 Tryz.f113 2213111 0 1111 lo ⟨[(2,.lp 2 0),(4,.bool f),(5,.lp 5 0),(6,Iv x)],[(2,(Kh a n c b m p)),(5,(Bs d k u))],h⟩
theorem Q7 {e:Pq} (hk:(Ai (Ae h.length 111 [Bh a n c] h) λl o=>eB l (Ai (Ae h.length 196 [Bh a n c] o) λl x=>eA l λl=>eC l λl y=>eS 6 l λl z w=>eN y (C0 h.length false 0 b m p d k u l z w x)) (AI o))=some (v,h')) (hn:noId v=true:=by rfl) :
  Ae lo 113 [I5 b m p d k u,I5 a n c e i s] h=some (v,h) :=
 eD Tryz.func113 hk hn
theorem C0.e :
  C0 lo f x d k c a n u b m p h=br (decide (x<(n:Int))) (Aq x n (eO a λv=>eO (ld h v.1 (v.2+x.toNat) 0 1) λv=>eC v λv l=>eN l (eI .i64 v λv=>Aq v m (eO b λl=>eO (ld h l.1 (l.2+v.toNat) 1 2) λv=>eC v λv l=>eI .i64 v λv=>eC l λl o=>eI .i64 l λl=>eN o (Aq x n (eO a λo=>eO (ld h o.1 (o.2+x.toNat) 1 2) λo=>eC o λo s=>eI .i64 o λo=>eC s λs y=>eI .i64 s λs=>eN y (Ai (Ae lo 197 [Ax v l,Ax o s] h) λv l=>eB v (Aq x n (eO a λv=>eO (ld l v.1 (v.2+x.toNat) 0 6) λv=>eC v λv o=>eI .i64 v λv=>eC o λo s=>eI .i64 o λo=>eC s λs y=>eI .i64 s λs=>eC y λy z=>eS 2 y λy w q=>eC z λz g=>eT z λz=>eC g λg i=>eBv g λg=>eN i (Ai (Ae lo 198 [Bh b m p,AD v o s y w q z g] l) λv o=>eA v λv=>eC v λv s=>eS 6 v λv y z=>eN s (C0 lo f (Ao (x+1)) d k c a n u v y z o)))) (AI l)))))))) (Ai (Ae lo 199 [Bh b m p,Bh d k c] h) λv l=>eB v (Cc l) (AI l)) :=
 lE
def C4 lo x a n c m b k p i d j u h:=
 LA 114 Tryz.f114 221311 0 111 lo ⟨[(1,.lp 1 0),(2,.lp 2 0),(3,.lp 3 0),(4,Iv x)],[(1,(Bs a n c)),(2,[.sl m b k p]),(3,[.sl i d j u])],h⟩
theorem Rc (hk:(C4 lo 0 a n c 0 none 0 (some 0) 0 none 0 (some 0) h)=some r) :
  Ae lo 114 [Bh a n c] h=some r :=
 eK Tryz.func114 hk
theorem C4.e :
  C4 lo x a n p i d j u m b k c h=br (decide (x<(n:Int))) (Aq x n (eO a λv=>eO (ld h v.1 (v.2+x.toNat) 1 2) λv=>eC v λv l=>eI .i64 v λv=>eC l λl o=>eI .i64 l λl=>eN o (Aw 2 (h ++ [.rows 2 36 false [BN v l]]) (.sl 2 (some (h.length,0)) 1 (some 1)) λo=>Dk lo 36 2 16 (.sl m b k c) o (h ++ [.rows 2 36 false [BN v l]]) λv l=>eS 2 v λv o s=>C4 lo (Ao (x+1)) a n p i d j u 2 v o s l))) (some (.agg [.sl m b k c],h)) :=
 lE
def BB lo a n c x y z t m b k p i d j u g e G s f w q A H C B J D a0 P c0 F h:=
 LA 115 Tryz.f115 221311 0 111 lo ⟨[(2,.lp 2 0),(3,.lp 3 0),(24,.sl 1 a n c),(25,Iv x),(26,Iv y)],[(2,[Iv z,Iv t,.sl m b k p,.sl i d j u,.sl g e G s,.bool f]),(3,(CB w q A H C B J D a0 P c0 F))],h⟩
theorem KO (hk:(Ai (Ae h.length 200 [Am a m c] h) λv l=>eA v λv=>eC v λv o=>eS 2 v λv s z=>eN o (Ai (Ae l.length 201 (Bs b k p) l) λl o=>eS 6 l λl w q=>Bu (decide ((0:Int)<=0/\(0:Int)<=(n:Int)/\(n:Int)<=140737488355328/\(n:Int)*((24:Nat):Int)<=281474976710656)) (BB lo d n u (n:Int) 0 0 0 0 none 0 (some 0) 0 none 0 (some 0) 0 none 0 (some 0) false x y v s z l w q (some (o.length,0)) 0 (some n) f (o ++ [.rows 1 26 false (List.replicate n [.sl 0 none 0 (some 0)])]))))=some r) :
  Ae lo 115 [Al x y a m c b k p d n u f] h=some r :=
 eK Tryz.func115 hk
theorem BB.e {lo n j g G H J P m k i:Nat}{a B a0 a1 b d A:Pq}{s C D c0 c p u:Nq}{y x w q z t:Int}{F f:Bool}{h:Heap} :
  BB lo a n s y x w q j B g C G a0 H D J a1 P c0 F z t b m c d k p A i u f h=br (decide (x<y)) (Aq x n (eO a λv=>eO (ld h v.1 (v.2+x.toNat) 0 1) λv=>eC v λv l=>eN l (eS 6 v λv l o=>Ai (Ae lo 201 (Bs v l o) h) λv l=>eS 6 v λv o e=>Aw 1 (l ++ [.rows 1 26 false [Bs v o e]]) (.sl 1 (some (l.length,0)) 1 (some 1)) λE=>Dk lo 26 1 24 (.sl 1 A i u) E (l ++ [.rows 1 26 false [Bs v o e]]) λv l=>eS 1 v λv o e=>BB lo a n s y (Ao (x+1)) w q j B g C G a0 H D J a1 P c0 F z t b m c d k p v o e f l))) (some ((Al z t b m c d k p A i u f),h)) :=
 lE
theorem Lw (hk:(Ai (Ae h.length 202 (Au x) h) λl o=>eB l (Ai (Ae h.length 203 [.str S] o) λl s=>eB l (br (!f) (br (!f) (br (!f) (br (!f) (Ai (Ae h.length 71 [Am a n c] s) λl b=>eB l (Cc b) (AI b)) none) none) none) (br (!f) (br (!f) (br (!f) (Ai (Ae h.length 71 [Am a n c] s) λl b=>eB l (Cc b) (AI b)) none) none) (br (!f) (br (!f) (Ai (Ae h.length 71 [Am a n c] s) λl b=>eB l (Cc b) (AI b)) none) (br (S.toList==(ByteArray.mk #[]).toList) (br (!f) (Ai (Ae h.length 71 [Am a n c] s) λl b=>eB l (Cc b) (AI b)) (Ai (Ae h.length 71 [Am a n c] s) λl b=>eB l (Cc b) (AI b))) (br (!f) (Ai (Ae h.length 71 [Am a n c] s) λl b=>eB l (Cc b) (AI b)) (AI s)))))) (AI s)) (AI o))=some (v,h')) (hn:noId v=true:=by rfl) :
  Ae lo 116 [AD x y z a n c S f] h=some (v,h) :=
 eD Tryz.func116 hk hn
theorem MK (hk:(eO (ld h n m (k+0) 1) λl=>eC l λl c=>eN c (eS 2 l λl c a=>Aq x c (eO l λl=>eO (ld h l.1 (l.2+x.toNat) 1 1) λl=>eC l λl c=>eN c (eS 6 l λl l c=>br (decide ((l:Int)>=6)) (Cc h) (AI h)))))=some (v,h')) (hn:noId v=true:=by rfl) :
  Ae lo 117 [Bi n m k,Iv x] h=some (v,h) :=
 eD Tryz.func117 hk hn
def BG lo x a n c y z h:=
 LA 118 Tryz.f118 221311 0 111 lo ⟨[(3,Iv x),(7,.sl 2 a n c),(8,Iv y),(9,Iv z)],[],h⟩
theorem LB (hk:(BG h.length 0 a n c (n:Int) 0 h)=some (v,h')) (hn:noId v=true:=by rfl) :
  Ae lo 118 [Am a n c] h=some (v,h) :=
 eD Tryz.func118 hk hn
theorem BG.e :
  BG lo y a n c z x h=br (decide (x<z)) (Aq x n (eO a λv=>eO (ld h v.1 (v.2+x.toNat) 0 2) λv=>eC v λv l=>eI .i64 v λv=>eC l λl o=>eI .i64 l λl=>eN o (BG lo (if v>y then v else y) a n c z (Ao (x+1)) h))) (some (Iv y,h)) :=
 lE
theorem NH (hk:(Ai (Ae lo 117 [Bi n m k,Iv 0] h) λv l=>eB v (AI l) (Ai (Ae lo 204 [Bi n m k,Iv 0,AD x y z a i c S f] l) λv l=>eU v λv=>eN v (Cc l)))=some r) :
  Ae lo 119 [Bi n m k,AD x y z a i c S f] h=some r :=
 eK Tryz.func119 hk
def A0 lo n m k a i c x y h:=
 LA 120 Tryz.f120 2213 0 1 lo ⟨[(0,(Bi n m k)),(8,.sl 6 a i c),(9,Iv x),(10,Iv y)],[],h⟩
theorem KN (hk:(Ai (Ae lo 66 [Bi n m (k+2)] h) λv l=>eA v λv=>eC v λv c=>eS 6 v λv a o=>eN c (A0 lo n m k v a o (a:Int) 0 l))=some r) :
  Ae lo 120 [Bi n m k] h=some r :=
 eK Tryz.func120 hk
theorem A0.e :
  A0 lo n m k a i c y x h=br (decide (x<y)) (Aq x i (eO a λv=>eO (ld h v.1 (v.2+x.toNat) 0 6) λv=>eC v λv l=>eI .i64 v λv=>eC l λl o=>eI .i64 l λl=>eC o λo s=>eI .i64 o λo=>eC s λs b=>eS 2 s λs z u=>eC b λb w=>eT b λb=>eC w λw p=>eBv w λw=>eN p (br ((l==0)&&((o==0)&&true)) (A0 lo n m k a i c y (Ao (x+1)) h) (eO (ld h n m (k+0) 1) λp=>eC p λp q=>eN q (eI .i64 p λp=>br (o==p) (eO (ld h n m (k+3) 1) λp=>eC p λp q=>eN q (eS 6 p λp q g=>Ai (Ae lo 137 [.sl 6 p q g,Ax l o] h) λp q=>eB p (A0 lo n m k a i c y (Ao (x+1)) q) (eO (ld q n m (k+3) 1) λp=>eC p λp g=>eN g (eS 6 p λp g j=>Ai (Ae q.length 154 [AD v l o s z u b w] q) λv l=>eA v λv=>eC v λv o=>eI .i64 v λv=>eC o λo s=>eI .i64 o λo=>eC s λs b=>eI .i64 s λs=>eC b λb z=>eS 2 b λb u w=>eC z λz q=>eT z λz=>eC q λq t=>eBv q λq=>eN t (Aw 6 (l ++ [.rows 6 43 false [Cf v o s b u w z q]]) (.sl 6 (some (l.length,0)) 1 (some 1)) λt=>Dk lo 43 6 72 (.sl 6 p g j) t (l ++ [.rows 6 43 false [Cf v o s b u w z q]]) λv l=>eS 6 v λv o s=>eO (st lo l n m (k+3) (Bs v o s)) λv=>A0 lo n m k a i c y (Ao (x+1)) v))))) (A0 lo n m k a i c y (Ao (x+1)) h)))))) (eO (ld h n m (k+3) 1) λv=>eC v λv l=>eN l (eS 6 v λv l o=>Ai (Ae lo 205 (Bs v l o) h) λv l=>eS 6 v λv o s=>eO (st lo l n m (k+3) (Bs v o s)) λv=>eO (ld v n m ((k+2)+0) 1) λl=>eC l λl o=>eN o (eS 2 l λl o s=>Ai (Ae lo 206 [.sl 2 l o s,.fn 207 []] v) λv l=>eB v (some (.tup [],l)) (eO (st lo l n m (k+5) [.bool false]) λv=>some (.tup [],v))))) :=
 lE
def BW lo f x a n c b m p h:=
 LA 121 Tryz.f121 221311 0 111 lo ⟨[(1,.lp 1 0),(2,.bool f),(3,.lp 3 0),(4,Iv x)],[(1,(Bk a n c)),(3,(Bk b m p))],h⟩
def BV lo f x y a n c b m p h:=
 Lp (X 121) lo (pf 2213231221311 Tryz.f121) 2 (A8 2 (kS (X 121) lo (pf 1231221311 Tryz.f121) 1 (A8 1 (kS (X 121) lo (pf 11221311 Tryz.f121) 0 (U0 (X 121) lo (pf 221311 Tryz.f121) 0 (A8 0 (kS (X 121) lo (pf 111 Tryz.f121) 0 (I0 (X 121) Tryz.f121.results.toList)))))))) ⟨[(1,.lp 1 0),(2,.bool f),(3,.lp 3 0),(4,Iv x),(5,Iv y)],[(1,(Bk a n c)),(3,(Bk b m p))],h⟩
def BU lo f x y a n c b m p h:=
 Lp (X 121) lo (pf 2211231221311 Tryz.f121) 4 (A8 4 (A8 1 (kS (X 121) lo (pf 11221311 Tryz.f121) 0 (U0 (X 121) lo (pf 221311 Tryz.f121) 0 (A8 0 (kS (X 121) lo (pf 111 Tryz.f121) 0 (I0 (X 121) Tryz.f121.results.toList))))))) ⟨[(1,.lp 1 0),(2,.bool f),(3,.lp 3 0),(4,Iv x),(7,Iv y)],[(1,(Bk a n c)),(3,(Bk b m p))],h⟩
theorem Ou (hk:(Ai (Ae h.length 47 [Am a n c] h) λl o=>eA l λl=>eC l λl s=>eS 2 l λl b x=>eN s (BW h.length false 0 a n c l b x o))=some (v,h')) (hn:noId v=true:=by rfl) :
  Ae lo 121 [Am a n c] h=some (v,h) :=
 eD Tryz.func121 hk hn
theorem BW.e :
  BW lo f x a n c b m p h=br (decide (x<(n:Int))) (BV lo f x 0 a n c b m p h) (Cc h) :=
 lE
theorem BV.e :
  BV lo f x y a n p b m c h=br (decide (y<4)) (Aq x n (eO a λv=>eO (ld h v.1 (v.2+x.toNat) 0 1) λv=>eC v λv l=>eN l (eS 6 v λv l o=>Aq y l (eO v λv=>eO (ld h v.1 (v.2+y.toNat) 0 6) λv=>eC v λv l=>eI .i64 v λv=>eC l λv l=>eI .i64 v λv=>eC l λl o=>eI .i64 l λl=>eC o λl o=>eS 2 l λl s z=>eC o λo u=>eT o λo=>eC u λo u=>eBv o λo=>eN u (br (decide (v>0)) (Ai (Ae lo 124 [Am l s z,Am b m c] h) λv l=>eB v (BV lo f x (Ao (y+1)) a n p b m c l) (AI l)) (BV lo f x (Ao (y+1)) a n p b m c h)))))) (BU lo f x 0 a n p b m c h) :=
 lE
theorem BU.e :
  BU lo f x y a n p b m c h=Aq x n (eO a λv=>eO (ld h v.1 (v.2+x.toNat) 1 1) λv=>eC v λv l=>eN l (eS 6 v λv v l=>br (decide (y<(v:Int))) (Aq x n (eO a λv=>eO (ld h v.1 (v.2+x.toNat) 1 1) λv=>eC v λv l=>eN l (eS 6 v λv l o=>Aq y l (eO v λv=>eO (ld h v.1 (v.2+y.toNat) 3 1) λv=>eC v λv l=>eS 2 v λv o s=>eN l (Ai (Ae lo 124 [Am v o s,Am b m c] h) λv l=>eB v (BU lo f x (Ao (y+1)) a n p b m c l) (AI l)))))) (BW lo f (Ao (x+1)) a n p b m c h))) :=
 lE
def Ci lo a n c x f y h:=
 LA 122 Tryz.f122 22131 0 11 lo ⟨[(0,.sl 6 a n c),(1,Iv x),(4,.bool f),(5,Iv y)],[],h⟩
def CM lo a n c x f y z h:=
 Lp (X 122) lo (pf 221123122131 Tryz.f122) 2 (A8 2 (A8 1 (kS (X 122) lo (pf 1122131 Tryz.f122) 0 (U0 (X 122) lo (pf 22131 Tryz.f122) 0 (A8 0 (kS (X 122) lo (pf 11 Tryz.f122) 0 (I0 (X 122) Tryz.f122.results.toList))))))) ⟨[(0,.sl 6 a n c),(1,Iv x),(4,.bool f),(5,Iv y),(6,Iv z)],[],h⟩
theorem Ti (hk:(Ci h.length a n c x false 0 h)=some (v,h')) (hn:noId v=true:=by rfl) :
  Ae lo 122 [.sl 6 a n c,Iv x] h=some (v,h) :=
 eD Tryz.func122 hk hn
theorem Ci.e :
  Ci lo a n c y f x h=br (decide (x<(n:Int))) (Aq x n (eO a λv=>eO (ld h v.1 (v.2+x.toNat) 0 6) λv=>eC v λv l=>eI .i64 v λv=>eC l λl o=>eI .i64 l λl=>eC o λo s=>eI .i64 o λo=>eC s λs b=>eS 2 s λs z u=>eC b λb w=>eT b λb=>eC w λw p=>eBv w λw=>eN p (Ai (Ae lo 112 [AD v l o s z u b w] h) λv l=>eB v (Aq x n (eO a λv=>eO (ld l v.1 (v.2+x.toNat) 2 1) λv=>eC v λv o=>eN o (eI .i64 v λv=>br (v==y) (CM lo a n c y f x 0 l) (AI l)))) (AI l)))) (br (decide ((n:Int)<=60)) (Cc h) (AI h)) :=
 lE
theorem CM.e :
  CM lo a n c z f x y h=br (decide (y<x)) (Aq y n (eO a λv=>eO (ld h v.1 (v.2+y.toNat) 1 2) λv=>eC v λv l=>eI .i64 v λv=>eC l λl o=>eI .i64 l λl=>eN o (Aq x n (eO a λo=>eO (ld h o.1 (o.2+x.toNat) 1 2) λo=>eC o λo s=>eI .i64 o λo=>eC s λs b=>eI .i64 s λs=>eN b (br ((v==o)&&((l==s)&&true)) (AI h) (CM lo a n c z f x (Ao (y+1)) h)))))) (Ci lo a n c z f (Ao (x+1)) h) :=
 lE
theorem Qq (hk:(br ((x==0)&&((y==0)&&true)) (Cc h) (Ai (Ae h.length 54 (Dh x 1 999) h) λl c=>eB l (Ai (Ae h.length 54 (Dh y 0 2) c) λl n=>eB l (Cc n) (AI n)) (AI c)))=some (v,h')) (hn:noId v=true:=by rfl) :
  Ae lo 123 [Ax x y] h=some (v,h) :=
 eD Tryz.func123 hk hn
def Cl lo f x a n c b m p h:=
 LA 124 Tryz.f124 22131 0 11 lo ⟨[(2,.lp 2 0),(3,.lp 3 0),(4,.bool f),(5,Iv x)],[(2,(Bk a n c)),(3,(Bk b m p))],h⟩
theorem OE (hk:(Cl h.length false 0 a n c b m p h)=some (v,h')) (hn:noId v=true:=by rfl) :
  Ae lo 124 [Am a n c,Am b m p] h=some (v,h) :=
 eD Tryz.func124 hk hn
theorem Cl.e :
  Cl lo f x a n c b m p h=br (decide (x<4)) (Aq x m (eO b λv=>eO (ld h v.1 (v.2+x.toNat) 0 2) λv=>eC v λv l=>eI .i64 v λv=>eC l λl o=>eI .i64 l λl=>eN o (Aq x n (eO a λo=>eO (ld h o.1 (o.2+x.toNat) 0 2) λo=>eC o λo s=>eI .i64 o λo=>eC s λs y=>eI .i64 s λs=>eN y (Ai (Ae lo 197 [Ax v l,Ax o s] h) λv l=>eB v (AI l) (Cl lo f (Ao (x+1)) a n c b m p l)))))) (Cc h) :=
 lE
theorem Q5 (hk:(Aq 0 n (eO a λl=>eO (ld h l.1 (l.2+0) 1 1) λl=>eC l λl o=>eN o (eS 6 l λl l o=>br (decide ((l:Int)<6)) (Cc h) (AI h))))=some (v,h')) (hn:noId v=true:=by rfl) :
  Ae lo 125 [Am a n c] h=some (v,h) :=
 eD Tryz.func125 hk hn
def Cq lo x y a n c h:=
 LA 126 Tryz.f126 221311 0 111 lo ⟨[(3,.lp 3 0),(5,Iv x),(6,Iv y)],[(3,(Bk a n c))],h⟩
theorem QY {e:Pq} (hk:(Cq h.length x 0 a n c h)=some (v,h')) (hn:noId v=true:=by rfl) :
  Ae lo 126 [Al y x b m p d k u e i s f,Am a n c] h=some (v,h) :=
 eD Tryz.func126 hk hn
theorem Cq.e :
  Cq lo y x a n c h=br (decide (x<4)) (Aq x n (eO a λv=>eO (ld h v.1 (v.2+x.toNat) 0 1) λv=>eC v λv l=>eN l (eI .i64 v λv=>br (decide (v>y)) (Aq x n (eO a λv=>eO (ld h v.1 (v.2+x.toNat) 0 1) λv=>eC v λv l=>eN l (eI .i64 v λv=>Cq lo v (Ao (x+1)) a n c h))) (Cq lo y (Ao (x+1)) a n c h)))) (some (Iv (Ao (y+1)),h)) :=
 lE
def C3 lo x a n c m b k p i d j u h:=
 LA 127 Tryz.f127 221311 0 111 lo ⟨[(1,.lp 1 0),(2,.lp 2 0),(3,.lp 3 0),(4,Iv x)],[(1,(Bk a n c)),(2,[.sl m b k p]),(3,[.sl i d j u])],h⟩
def C2 lo x y a n c m b k p i d j u e g s G A H C h:=
 Lp (X 127) lo (pf 22131231221311 Tryz.f127) 2 (A8 2 (kS (X 127) lo (pf 11231221311 Tryz.f127) 1 (A8 1 (kS (X 127) lo (pf 11221311 Tryz.f127) 0 (U0 (X 127) lo (pf 221311 Tryz.f127) 0 (A8 0 (kS (X 127) lo (pf 111 Tryz.f127) 0 (I0 (X 127) Tryz.f127.results.toList)))))))) ⟨[(1,.lp 1 0),(2,.lp 2 0),(3,.lp 3 0),(4,Iv x),(5,.lp 5 0),(6,Iv y)],[(1,(Bk a n c)),(2,[.sl m b k p]),(3,[.sl i d j u]),(5,[.sl 6 e g s,.sl G A H C])],h⟩
theorem Rb (hk:(C3 lo 0 a n c 0 none 0 (some 0) 0 none 0 (some 0) h)=some r) :
  Ae lo 127 [Am a n c] h=some r :=
 eK Tryz.func127 hk
theorem C3.e :
  C3 lo x a n p i d j u m b k c h=br (decide (x<(n:Int))) (Aq x n (eO a λv=>eO (ld h v.1 (v.2+x.toNat) 0 1) λv=>eC v λv l=>eS 6 v λv o s=>eN l (Ai (Ae lo 196 [Bh v o s] h) λv l=>eA v λv=>eC v λv o=>eS 6 v λv s y=>eN o (C2 lo x 0 a n p i d j u m b k c v s y 0 none 0 (some 0) l)))) (some (.agg [.sl m b k c],h)) :=
 lE
theorem C2.e {lo n j g G H m k i:Nat}{x y:Int}{a A B b d:Pq}{u s C c p:Nq}{h:Heap} :
  C2 lo x y a n u j A g s G B H C b m c k d i p h=Aq x n (eO a λv=>eO (ld h v.1 (v.2+x.toNat) 1 1) λv=>eC v λv l=>eN l (eS 6 v λv v l=>br (decide (y<(v:Int))) (Aq x n (eO a λv=>eO (ld h v.1 (v.2+x.toNat) 1 1) λv=>eC v λv l=>eN l (eS 6 v λv l o=>Aq y l (eO v λv=>eO (ld h v.1 (v.2+y.toNat) 0 6) λv=>eC v λv l=>eI .i64 v λv=>eC l λl o=>eI .i64 l λl=>eC o λo z=>eI .i64 o λo=>eC z λz w=>eS 2 z λz q t=>eC w λw e=>eT w λw=>eC e λe f=>eBv e λe=>eN f (Ai (Ae lo 187 [AD v l o z q t w e] h) λv l=>eA v λv=>eC v λv o=>eI .i64 v λv=>eC o λo z=>eI .i64 o λo=>eC z λz w=>eI .i64 z λz=>eC w λw q=>eS 2 w λw t e=>eC q λq f=>eT q λq=>eC f λf D=>eBv f λf=>eN D (Aw 6 (l ++ [.rows 6 43 false [Cf v o z w t e q f]]) (.sl 6 (some (l.length,0)) 1 (some 1)) λD=>Dk lo 43 6 72 (.sl k d i p) D (l ++ [.rows 6 43 false [Cf v o z w t e q f]]) λv l=>eS 6 v λv o z=>C2 lo x (Ao (y+1)) a n u j A g s G B H C b m c 6 v o z l)))))) (Aw 2 (h ++ [.rows 2 47 false [[.sl 6 b m c,.sl k d i p]]]) (.sl 2 (some (h.length,0)) 1 (some 1)) λv=>Dk lo 47 2 48 (.sl G B H C) v (h ++ [.rows 2 47 false [[.sl 6 b m c,.sl k d i p]]]) λv l=>eS 2 v λv o z=>C3 lo (Ao (x+1)) a n u j A g s 2 v o z l))) :=
 lE
def CY lo a n c b m p x h:=
 LA 128 Tryz.f128 221311 0 111 lo ⟨[(0,.sl 6 a n c),(3,.sl 6 b m p),(4,Iv x)],[],h⟩
theorem QV (hk:(CY lo a n c (some (h.length,0)) 0 (some 0) 0 (h ++ [.rows 6 43 false []]))=some r) :
  Ae lo 128 (Bs a n c) h=some r :=
 eK Tryz.func128 hk
theorem CY.e :
  CY lo a n p b m c x h=br (decide (x<(n:Int))) (Aq x n (eO a λv=>eO (ld h v.1 (v.2+x.toNat) 0 6) λv=>eC v λv l=>eI .i64 v λv=>eC l λl o=>eI .i64 l λl=>eC o λo s=>eI .i64 o λo=>eC s λs y=>eS 2 s λs z u=>eC y λy w=>eT y λy=>eC w λw q=>eBv w λw=>eN q (Ai (Ae lo 187 [AD v l o s z u y w] h) λv l=>eA v λv=>eC v λv o=>eI .i64 v λv=>eC o λo s=>eI .i64 o λo=>eC s λs y=>eI .i64 s λs=>eC y λy z=>eS 2 y λy u w=>eC z λz q=>eT z λz=>eC q λq g=>eBv q λq=>eN g (Aw 6 (l ++ [.rows 6 43 false [Cf v o s y u w z q]]) (.sl 6 (some (l.length,0)) 1 (some 1)) λg=>Dk lo 43 6 72 (.sl 6 b m c) g (l ++ [.rows 6 43 false [Cf v o s y u w z q]]) λv l=>eS 6 v λv o s=>CY lo a n p v o s (Ao (x+1)) l)))) (some (.sl 6 b m c,h)) :=
 lE
theorem Tl (hk:(Aq x n (eO a λv=>eO (ld h v.1 (v.2+x.toNat) 0 1) λv=>eC v λv l=>eN l (eS 6 v λv l o=>Aq y l (eO v λv=>eO (ld h v.1 (v.2+y.toNat) 1 2) λv=>eC v λv l=>eI .i64 v λv=>eC l λl o=>eI .i64 l λl=>eN o (Ai (Ae lo 197 [Ax v l,Ax z t] h) λv l=>eB v (Aq x n (eO a λv=>eO (ld l v.1 (v.2+x.toNat) 0 1) λv=>eC v λv o=>eS 6 v λv s u=>eN o (Ai (Ae lo 198 [Bh v s u,AD y z t b m p S f] l) λv o=>eA v λv=>eC v λv s=>eS 6 v λv u w=>eN s (Aq x n (eO a λs=>eO (st lo o s.1 (s.2+x.toNat) 0 (Bs v u w)) λv=>br (decide (x<Ao ((n:Int) - (1:Int)))) (Aq x n (eO a λo=>eO (ld v o.1 (o.2+x.toNat) 1 1) λo=>eC o λo s=>eN s (eS 6 o λo s u=>Ai (Ae v.length 187 [AD y z t b m p S f] v) λw q=>eA w λw=>eC w λw g=>eI .i64 w λw=>eC g λg i=>eI .i64 g λg=>eC i λi j=>eI .i64 i λi=>eC j λj k=>eS 2 j λj d e=>eC k λk A=>eT k λk=>eC A λA B=>eBv A λA=>eN B (Aw 6 (q ++ [.rows 6 43 false [Cf w g i j d e k A]]) (.sl 6 (some (q.length,0)) 1 (some 1)) λB=>Dk lo 43 6 72 (.sl 6 o s u) B (q ++ [.rows 6 43 false [Cf w g i j d e k A]]) λo s=>eS 6 o λo u w=>Aq x n (eO a λq=>eO (st lo s q.1 (q.2+x.toNat) 1 (Bs o u w)) λo=>some ((Am a n c),o)))))) (some ((Am a n c),v))))))) (some ((Am a n c),l)))))))=some r) :
  Ae lo 129 [Am a n c,Iv x,AD y z t b m p S f] h=some r :=
 eK Tryz.func129 hk
def BI lo x y z a n c b m p d k u f t w i e j s g A G C H B J D F a0 P c0 h:=
 LA 130 Tryz.f130 221311 0 111 lo ⟨[(1,.lp 1 0),(2,.lp 2 0),(3,.lp 3 0),(4,Iv x)],[(1,(CB y z a n c b m p d k u f)),(2,[Iv t,Iv w,.sl i e j s,.sl g A G C,.sl H B J D,.bool F]),(3,(Bs a0 P c0))],h⟩
def BH lo f x y z a n c b m p d k u F t w i e j s g A G C H B J D b0 h:=
 LA 130 Tryz.f130 22131111 2 11111 lo ⟨[(1,.lp 1 0),(2,.lp 2 0),(6,.bool f),(7,Iv x)],[(1,(CB y z a n c b m p d k u F)),(2,[Iv t,Iv w,.sl i e j s,.sl g A G C,.sl H B J D,.bool b0])],h⟩
theorem QX (hk:(Aq (Ao ((n:Int) - 1)) n (eO a λv=>eO (ld h v.1 (v.2+((Ao ((n:Int) - (1:Int))).toNat)) 0 1) λv=>eC v λv l=>eS 6 v λv o s=>eN l (BI lo 0 x y a n c b m p d k u f 0 0 0 none 0 (some 0) 0 none 0 (some 0) 0 none 0 (some 0) false v o s h)))=some r) :
  Ae lo 130 [Al x y a n c b m p d k u f] h=some r :=
 eK Tryz.func130 hk
theorem BI.e {lo m n k i j g G H J P:Nat}{x y z t w:Int}{b a d A B a0 a1:Pq}{p c u s C D c0:Nq}{f F:Bool}{h:Heap} :
  BI lo x y z b m p a n c d k u f t w i A j s g B G C H a0 J D F a1 P c0 h=br (decide (x<4)) (Aq x P (eO a1 λv=>eO (ld h v.1 (v.2+x.toNat) 0 6) λv=>eC v λv l=>eI .i64 v λv=>eC l λl o=>eI .i64 l λl=>eC o λo q=>eI .i64 o λo=>eC q λq e=>eS 2 q λq E K=>eC e λe L=>eT e λe=>eC L λL M=>eBv L λL=>eN M (br (decide (l>0)) (br (o==y) (Ai (Ae lo 208 [.sl 6 a n c,Ax l o] h) λM N=>eB M (BI lo (Ao (x+1)) y z b m p a n c d k u f t w i A j s g B G C H a0 J D F a1 P c0 N) (Ai (Ae lo 187 [AD v l o q E K e L] N) λv l=>eA v λv=>eC v λv o=>eI .i64 v λv=>eC o λo q=>eI .i64 o λo=>eC q λq e=>eI .i64 q λq=>eC e λe E=>eS 2 e λe K L=>eC E λE M=>eT E λE=>eC M λM N=>eBv M λM=>eN N (Aw 6 (l ++ [.rows 6 43 false [Cf v o q e K L E M]]) (.sl 6 (some (l.length,0)) 1 (some 1)) λN=>Dk lo 43 6 72 (.sl 6 a n c) N (l ++ [.rows 6 43 false [Cf v o q e K L E M]]) λv l=>eS 6 v λv o q=>BI lo (Ao (x+1)) y z b m p v o q d k u f t w i A j s g B G C H a0 J D F a1 P c0 l))) (BI lo (Ao (x+1)) y z b m p a n c d k u f t w i A j s g B G C H a0 J D F a1 P c0 h)) (BI lo (Ao (x+1)) y z b m p a n c d k u f t w i A j s g B G C H a0 J D F a1 P c0 h)))) (BH lo true 0 y z b m p a n c d k u f t w i A j s g B G C H a0 J D F h) :=
 lE
theorem BH.e {J:Nat}{b0:Bool}{w:Int} :
  BH lo F x y z a n c b m p d k u f t w i A j s g B G C H a0 J D b0 h=br (decide (x<(n:Int))) (br F (Aq x n (eO a λv=>eO (ld h v.1 (v.2+x.toNat) 1 1) λv=>eC v λv l=>eN l (eS 6 v λv v l=>br ((v:Int)==0) (BH lo true (Ao (x+1)) y z a n c b m p d k u f t w i A j s g B G C H a0 J D b0 h) (BH lo false (Ao (x+1)) y z a n c b m p d k u f t w i A j s g B G C H a0 J D b0 h)))) (BH lo false (Ao (x+1)) y z a n c b m p d k u f t w i A j s g B G C H a0 J D b0 h)) (br f (some ((Al y z a n c b m p d k u (!F)),h)) (some ((Al y z a n c b m p d k u false),h))) :=
 by cases f<;>cases F<;>exact lE
def Cx lo f x a n c b m p h:=
 LA 131 Tryz.f131 221311 0 111 lo ⟨[(2,.lp 2 0),(3,.lp 3 0),(4,.bool f),(5,Iv x)],[(2,(Bs a n c)),(3,(Bs b m p))],h⟩
theorem Qs (hk:(br ((n:Int)==(m:Int)) (Cx h.length false 0 a n c b m p h) (AI h))=some (v,h')) (hn:noId v=true:=by rfl) :
  Ae lo 131 [Bh a n c,Bh b m p] h=some (v,h) :=
 eD Tryz.func131 hk hn
theorem Cx.e {lo n m:Nat}{f:Bool}{x:Int}{a b:Pq}{c p:Nq}{h:Heap} :
  Cx lo f x a n c b m p h=br (decide (x<(n:Int))) (Aq x n (eO a λv=>eO (ld h v.1 (v.2+x.toNat) 0 6) λv=>eC v λv l=>eI .i64 v λv=>eC l λl o=>eI .i64 l λl=>eC o λo s=>eI .i64 o λo=>eC s λs y=>eS 2 s λs z u=>eC y λy w=>eT y λy=>eC w λw q=>eBv w λw=>eN q (Aq x m (eO b λq=>eO (ld h q.1 (q.2+x.toNat) 0 6) λq=>eC q λq g=>eI .i64 q λq=>eC g λg i=>eI .i64 g λg=>eC i λi j=>eI .i64 i λi=>eC j λj k=>eS 2 j λj t d=>eC k λk e=>eT k λk=>eC e λe A=>eBv e λe=>eN A (Ai (Ae lo 73 [AD v l o s z u y w,AD q g i j t d k e] h) λv l=>eB v (Cx lo f (Ao (x+1)) a n c b m p l) (AI l)))))) (Cc h) :=
 lE
theorem Qw (hk:(Ai (Ae h.length 63 (Dh x 1 4) h) λl c=>eB l (Cc c) (AI c))=some (v,h')) (hn:noId v=true:=by rfl) :
  Ae lo 132 (Au x) h=some (v,h) :=
 eD Tryz.func132 hk hn
theorem NI (hk:(Ai (Ae h.length 134 [AD x y z a n c S f] h) λl o=>eB l (AI o) (Cc o))=some (v,h')) (hn:noId v=true:=by rfl) :
  Ae lo 133 [AD x y z a n c S f] h=some (v,h) :=
 eD Tryz.func133 hk hn
theorem Tu (hk:(Ai (Ae h.length 116 [AD z x y a n c S f] h) λl o=>eB l (Ai (Ae h.length 144 [Ax x y] o) λl s=>eB l (Ai (Ae s.length 118 [Am a n c] s) λl b=>eI .i64 l λl=>br (decide (x>l)) (Cc b) (AI b)) (AI s)) (AI o))=some (v,h')) (hn:noId v=true:=by rfl) :
  Ae lo 134 [AD z x y a n c S f] h=some (v,h) :=
 eD Tryz.func134 hk hn
theorem MJ (hk:(br (x==Ao ((n:Int) - (1:Int))) (Cc h) (AI h))=some (v,h')) (hn:noId v=true:=by rfl) :
  Ae lo 135 [Am a n c,Iv x] h=some (v,h) :=
 eD Tryz.func135 hk hn
def B5 lo f a n c x y b m p d k u e i s h:=
 LA 136 Tryz.f136 221311 0 111 lo ⟨[(2,.lp 2 0),(4,.bool f),(5,.lp 5 0),(11,.sl 6 a n c),(12,Iv x),(13,Iv y)],[(2,(Kh b m p d k u)),(5,(Bs e i s))],h⟩
theorem NG (hk:(Ai (Ae h.length 209 [Bh d k u] h) λl o=>eA l λl=>eC l λl s=>eS 6 l λl x y=>eN s (B5 h.length false a n c (n:Int) 0 b m p a n c l x y o))=some (v,h')) (hn:noId v=true:=by rfl) :
  Ae lo 136 [I5 b m p a n c,Bh d k u] h=some (v,h) :=
 eD Tryz.func136 hk hn
theorem B5.e {lo m k i n:Nat}{f:Bool}{b d A a:Pq}{u p s c:Nq}{y x:Int}{h:Heap} :
  B5 lo f b m u y x d k p A i s a n c h=br (decide (x<y)) (Aq x m (eO b λv=>eO (ld h v.1 (v.2+x.toNat) 0 6) λv=>eC v λv l=>eI .i64 v λv=>eC l λl o=>eI .i64 l λl=>eC o λo z=>eI .i64 o λo=>eC z λz w=>eS 2 z λz q g=>eC w λw j=>eT w λw=>eC j λj t=>eBv j λj=>eN t (Ai (Ae lo 210 [Bh a n c,AD v l o z q g w j] h) λt e=>eB t (Aq v n (eO a λt=>eO (st lo e t.1 (t.2+v.toNat) 0 (Cf v l o z q g w j)) λv=>B5 lo f b m u y (Ao (x+1)) d k p A i s a n c v)) (AI e)))) (Ai (Ae lo 211 [Bh a n c,Bh d k p] h) λv l=>eB v (Cc l) (AI l)) :=
 lE
theorem Rr (hk:(Ai (Ae h.length 80 [.sl 6 a n c,.fn 212 [.ptr (some (h.length,(0,0)))]] (h ++ [.rows 2 36 false [BN x y]])) λl o=>eB l (Cc o) (AI o))=some (v,h')) (hn:noId v=true:=by rfl) :
  Ae lo 137 [.sl 6 a n c,Ax x y] h=some (v,h) :=
 eD Tryz.func137 hk hn
theorem OL (hk:(some ((Am (some (h.length,0)) 4 (some 4)),(h ++ [.rows 2 36 false [BN 0 0,BN 0 0,BN 0 0,BN 0 0]])))=some r) :
  Ae lo 138 [] h=some r :=
 eK Tryz.func138 hk
theorem FL (hk:(br (decide (x<0)) none (br (decide (Ao (x - Ao (((0:Nat):Int) - ((0:Nat):Int)))>0)) (AL none 0 (some 0) none (some (Iv 0)) none λv l c=>Bu (decide ((0:Int)<=Ao (x - Ao (((0:Nat):Int) - ((0:Nat):Int)))/\Ao (x - Ao (((0:Nat):Int) - ((0:Nat):Int)))*((72:Nat):Int)<=140737488355328)) (Dk lo 43 6 72 (.sl 6 v l c) (List.replicate ((Ao (x - Ao (((0:Nat):Int) - ((0:Nat):Int)))).toNat) [Iv 0,Iv 0,Iv 0,.sl 0 none 0 (some 0),.str ⟨⟨[]⟩⟩,.bool false]) h λv l=>eS 6 v λv c n=>AL v c n none (some (Iv 0)) none λv c n=>some (.sl 6 v c n,l))) (some (.sl 0 none 0 (some 0),h))))=some r) :
  Ae lo 139 [.sl 0 none 0 (some 0),Iv x] h=some r :=
 eK Tryz.func139 hk
def Ds lo x y a n c z t h:=
 LA 140 Tryz.f140 221311 0 111 lo ⟨[(2,Iv x),(3,Iv y),(6,.sl 1 a n c),(7,Iv z),(8,Iv t)],[],h⟩
theorem Tw (hk:(Ds h.length 0 0 a n c (n:Int) 0 h)=some (v,h')) (hn:noId v=true:=by rfl) :
  Ae lo 140 [.sl 1 a n c] h=some (v,h) :=
 eD Tryz.func140 hk hn
theorem Ds.e :
  Ds lo t y a n c z x h=br (decide (x<z)) (Aq x n (eO a λv=>eO (ld h v.1 (v.2+x.toNat) 0 1) λv=>eC v λv l=>eN l (eI .i64 v λv=>br (v==y) (Ds lo t y a n c z (Ao (x+1)) h) (some (Iv v,h))))) (some (Iv y,h)) :=
 lE
theorem ML (hk:(Ai (Ae h.length 213 (Au y) h) λl c=>eB l (Ai (Ae h.length 213 (Au x) c) λl n=>eB l (some (Iv 0,n)) (some (Iv (-1),n))) (Ai (Ae h.length 213 (Au x) c) λl c=>eB l (some (Iv 1,c)) (br (decide (y<x)) (some (Iv (-1),c)) (br (decide (y>x)) (some (Iv 1,c)) (some (Iv 0,c))))))=some (v,h')) (hn:noId v=true:=by rfl) :
  Ae lo 141 (BN y x) h=some (v,h) :=
 eD Tryz.func141 hk hn
theorem Ev (hk:(Ai (Ae h.length 214 [.sl 2 a n c,.fn m l] h) λo s=>eI .i64 o λo=>br (decide (o>=0)) (Cc s) (AI s))=some (v,h')) (hn:noId v=true:=by rfl) :
  Ae lo 142 [.sl 2 a n c,.fn m l] h=some (v,h) :=
 eD Tryz.func142 hk hn
theorem OK (hk:(Ai (Ae h.length 144 [Ax x y] h) λl c=>eB l (AI c) (Cc c))=some (v,h')) (hn:noId v=true:=by rfl) :
  Ae lo 143 [Ax x y] h=some (v,h) :=
 eD Tryz.func143 hk hn
theorem Tv (hk:(br ((x==0)&&((y==0)&&true)) (Cc h) (Ai (Ae h.length 63 (Dh x 1 999) h) λl c=>eB l (Ai (Ae h.length 62 (Au y) c) λl n=>eB l (Cc n) (AI n)) (AI c)))=some (v,h')) (hn:noId v=true:=by rfl) :
  Ae lo 144 [Ax x y] h=some (v,h) :=
 eD Tryz.func144 hk hn
def Bg lo n m k x a i c y b j p d g u e G s A H C h:=
 LA 145 Tryz.f145 2213111 0 1111 lo ⟨[(0,(Bi n m k)),(3,Iv x),(9,.lp 9 0),(10,.sl 6 a i c),(11,Iv y)],[(9,(DC b j p d g u e G s A H C))],h⟩
theorem NC (hk:(Ai (Ae lo 146 (BN x y) h) λv l=>eA v λv=>eC v λv c=>eS 6 v λv a o=>eC c λc s=>eS 5 c λc b u=>eC s λs w=>eS 9 s λs p q=>eC w λw g=>eS 5 w λw i j=>eN g (Bg lo n m k z (some (l.length,0)) 0 (some 0) 0 v a o c b u s p q w i j (l ++ [.rows 6 74 false []])))=some r) :
  Ae lo 145 [Bi n m k,Iv x,Iv y,Iv z] h=some r :=
 eK Tryz.func145 hk
theorem Bg.e {lo n m k i j g G H:Nat}{x y:Int}{a b d A B:Pq}{c p u s C:Nq}{h:Heap} :
  Bg lo n m k x a i c y b j p d g u A G s B H C h=br (decide (y<x)) (Ai (Ae lo 215 [Bi n m k,Av b j p d g u A G s B H C] h) λv l=>eA v λv=>eC v λv o=>eI .i64 v λv=>eC o λo z=>eI .i64 o λo=>eC z λz w=>eI .i64 z λz=>eC w λw q=>eI .i64 w λw=>eC q λq t=>eT q λq=>eC t λt e=>eBv t λt=>eN e (Ai (Ae lo 102 [Av b j p d g u A G s B H C,BZ v o z w q t] l) λl e=>eU l λl=>eC l λl f=>eA l λl=>eC l λl D=>eS 6 l λl E J=>eC D λD K=>eS 5 D λD L M=>eC K λK N=>eS 9 K λK O P=>eC N λN Q=>eS 5 N λN S U=>eN Q (eC f λf Q=>eB f (eN Q (Aw 6 (e ++ [.rows 6 74 false [Qc v o z w q t]]) (.sl 6 (some (e.length,0)) 1 (some 1)) λf=>Dk lo 74 6 56 (.sl 6 a i c) f (e ++ [.rows 6 74 false [Qc v o z w q t]]) λf W=>eS 6 f λf Y Z=>Bg lo n m k x f Y Z (Ao (y+1)) l E J D L M K O P N S U W)) (eN Q (Ai (Ae lo 44 [Bi n m k,Iv 6] e) λe f=>eI .i64 e λe=>br (decide (e>0)) (Bg lo n m k x a i c (Ao (y+1)) b j p d g u A G s B H C f) (Aw 6 (f ++ [.rows 6 74 false [Qc v o z w q t]]) (.sl 6 (some (f.length,0)) 1 (some 1)) λe=>Dk lo 74 6 56 (.sl 6 a i c) e (f ++ [.rows 6 74 false [Qc v o z w q t]]) λv o=>eS 6 v λv z w=>Bg lo n m k x v z w (Ao (y+1)) l E J D L M K O P N S U o)))))) (some (.sl 6 a i c,h)) :=
 lE
def Dp lo x y z n a m c k b i p j d g u G e H s J A P C n0 B n1 D n2 a0 n3 c0 n4 a1 n5 c1 h:=
 LA 146 Tryz.f146 221311 0 111 lo ⟨[(0,Iv x),(1,Iv y),(4,.lp 4 0),(5,.lp 5 0),(6,Iv z)],[(4,[.sl n a m c,.sl k b i p,.sl j d g u,.sl G e H s]),(5,[.sl J A P C,.sl n0 B n1 D,.sl n2 a0 n3 c0,.sl n4 a1 n5 c1])],h⟩
def Do lo x y n a m c k b i p j d g u G e H s J A P C n0 B n1 D n2 a0 n3 c0 n4 a1 n5 c1 h:=
 LA 146 Tryz.f146 2213111 2 1111 lo ⟨[(1,Iv x),(4,.lp 4 0),(5,.lp 5 0),(7,Iv y)],[(4,[.sl n a m c,.sl k b i p,.sl j d g u,.sl G e H s]),(5,[.sl J A P C,.sl n0 B n1 D,.sl n2 a0 n3 c0,.sl n4 a1 n5 c1])],h⟩
theorem Td (hk:(Dp lo x y 0 0 none 0 (some 0) 0 none 0 (some 0) 0 none 0 (some 0) 0 none 0 (some 0) 0 none 0 (some 0) 0 none 0 (some 0) 0 none 0 (some 0) 0 none 0 (some 0) h)=some r) :
  Ae lo 146 (BN x y) h=some r :=
 eK Tryz.func146 hk
theorem Dp.e {lo n m k i j g G H J P n0 n1 n2 n3 n4 n5:Nat}{y z x:Int}{a b d A B a0 a1 a2:Pq}{c p u s C D c0 c1:Nq}{h:Heap} :
  Dp lo y z x n a m c k b i p j d g u G A H s J B P C n0 a0 n1 D n2 a1 n3 c0 n4 a2 n5 c1 h=br (decide (x<3)) (Ai (Ae lo 216 (BN x y) h) λv l=>eA v λv=>eC v λv o=>eI .i64 v λv=>eC o λo w=>eI .i64 o λo=>eC w λw q=>eS 2 w λw t e=>eC q λq f=>eS 6 q λq E K=>eC f λf L=>eS 1 f λf M N=>eC L λL O=>eBv L λL=>eN O (Aw 6 (l ++ [.rows 6 29 false [CB v o w t e q E K f M N L]]) (.sl 6 (some (l.length,0)) 1 (some 1)) λO=>Dk lo 29 6 96 (.sl J B P C) O (l ++ [.rows 6 29 false [CB v o w t e q E K f M N L]]) λv l=>eS 6 v λv o w=>Dp lo y z (Ao (x+1)) n a m c k b i p j d g u G A H s 6 v o w n0 a0 n1 D n2 a1 n3 c0 n4 a2 n5 c1 l)) (Do lo z 0 n a m c k b i p j d g u G A H s J B P C n0 a0 n1 D n2 a1 n3 c0 n4 a2 n5 c1 h) :=
 lE
theorem Do.e {J P n0 n1 n2 n3 n4 n5:Nat}{a2:Pq}{c1:Nq} :
  Do lo y x J B P C n0 a0 n1 D n2 a1 n3 c0 n4 a2 n5 c1 n a m c k b i p j d g u G A H s h=br (decide (x<y)) (Ai (Ae lo 45 [] h) λv l=>eA v λv=>eC v λv o=>eS 2 v λv z w=>eN o (Aw 5 (l ++ [.rows 5 66 false [Mo (x.tmod (3:Int)) v z w 0 0 0]]) (.sl 5 (some (l.length,0)) 1 (some 1)) λo=>Dk lo 66 5 56 (.sl k b i p) o (l ++ [.rows 5 66 false [Mo (x.tmod (3:Int)) v z w 0 0 0]]) λv l=>eS 5 v λv o z=>Do lo y (Ao (x+1)) J B P C n0 a0 n1 D n2 a1 n3 c0 n4 a2 n5 c1 n a m c 5 v o z j d g u G A H s l)) (some (.agg [.sl n a m c,.sl k b i p,.sl j d g u,.sl G A H s],h)) :=
 lE
theorem LC (hk:(Ai (Ae lo 230 (Bk a n c) h) λv l=>eS 2 v λv o s=>Ai (Ae lo 229 (Bk v o s) l) λv l=>eS 2 v λv o s=>some ((Am v o s),l))=some r) :
  Ae lo 153 [Am a n c] h=some r :=
 eK Tryz.func153 hk
theorem MC (hk:(Ai (Ae lo 153 [Am a n c] h) λv l=>eA v λv=>eC v λv o=>eS 2 v λv s b=>eN o (some ((AD x y z v s b S f),l)))=some r) :
  Ae lo 154 [AD x y z a n c S f] h=some r :=
 eK Tryz.func154 hk
theorem OJ {w q:Int}{s0:ByteArray} (hk:(br (x==t) (br ((y==w)&&((z==q)&&true)) (Ai (Ae h.length 231 [.sl 2 a n c,.sl 2 b m p] h) λl o=>eB l (br (S.toList==s0.toList) (br (f==F) (Cc o) (AI o)) (AI o)) (AI o)) (AI h)) (AI h))=some (v,h')) (hn:noId v=true:=by rfl) :
  Ae lo 155 [AD x y z a n c S f,AD t w q b m p s0 F] h=some (v,h) :=
 eD Tryz.func155 hk hn
theorem MB (hk:(br (x==0) (br ((y==0)&&((z==0)&&true)) (Ai (Ae h.length 231 [.sl 2 a n c,.sl 0 none 0 (some 0)] h) λl o=>eB l (br (S.toList==(ByteArray.mk #[]).toList) (br (f==false) (Cc o) (AI o)) (AI o)) (AI o)) (AI h)) (AI h))=some (v,h')) (hn:noId v=true:=by rfl) :
  Ae lo 155 [AD x y z a n c S f,.agg [Iv 0,Iv 0,Iv 0,.sl 0 none 0 (some 0),.str ⟨⟨[]⟩⟩,.bool false]] h=some (v,h) :=
 eD Tryz.func155 hk hn
def AJ lo a n c m l x y z h:=
 LA 156 Tryz.f156 22131 0 11 lo ⟨[(0,.sl 6 a n c),(1,.fn m l),(4,Iv x),(7,Iv y),(8,Iv z)],[],h⟩
theorem EW (hk:(AJ h.length a n c m l 0 (n:Int) 0 h)=some (v,h')) (hn:noId v=true:=by rfl) :
  Ae lo 156 [.sl 6 a n c,.fn m l] h=some (v,h) :=
 eD Tryz.func156 hk hn
theorem AJ.e :
  AJ lo a n c m l z y x h=br (decide (x<y)) (Aq x n (eO a λv=>eO (ld h v.1 (v.2+x.toNat) 0 6) λv=>eC v λv o=>eI .i64 v λv=>eC o λo s=>eI .i64 o λo=>eC s λs b=>eI .i64 s λs=>eC b λb u=>eS 2 b λb w p=>eC u λu q=>eT u λu=>eC q λq g=>eBv q λq=>eN g (Ai (Ae lo m (Dy [AD v o s b w p u q] l) h) λv o=>eB v (some (Iv x,o)) (AJ lo a n c m l z y (Ao (x+1)) o)))) (some (Iv (-1),h)) :=
 lE
def Fu lo a n c x y h:=
 LA 169 Tryz.f169 22131 0 11 lo ⟨[(0,.sl 2 a n c),(1,Iv x),(5,Iv y)],[],h⟩
theorem Fu.e :
  Fu lo a n c y x h=br (decide (x<(n:Int))) (Aq x n (eO a λv=>eO (ld h v.1 (v.2+x.toNat) 0 1) λv=>eC v λv l=>eN l (eS 6 v λv l o=>Ai (Ae lo 170 [.sl 6 v l o,Iv y] h) λv l=>eI .i64 v λv=>Aq x n (eO a λo=>eO (ld l o.1 (o.2+x.toNat) 1 1) λo=>eC o λo s=>eN s (eS 6 o λo s b=>Ai (Ae lo 170 [.sl 6 o s b,Iv v] l) λv l=>eI .i64 v λv=>Fu lo a n c v (Ao (x+1)) l))))) (some (Iv y,h)) :=
 lE
def Er lo a n c x y h:=
 LA 170 Tryz.f170 22131 0 11 lo ⟨[(0,.sl 6 a n c),(1,Iv x),(5,Iv y)],[],h⟩
theorem Er.e :
  Er lo a n c y x h=br (decide (x<(n:Int))) (Aq x n (eO a λv=>eO (st lo h v.1 (v.2+x.toNat) 0 (Au y)) λv=>Aq x n (eO a λl=>eO (st lo v l.1 (l.2+x.toNat) 1 (Au (Ao (y+1)))) λv=>Aq x n (eO a λl=>eO (st lo v l.1 (l.2+x.toNat) 2 (Au (Ao ((Ao (y+1))+1)))) λv=>Aq x n (eO a λl=>eO (ld v l.1 (l.2+x.toNat) 3 1) λl=>eC l λl o=>eN o (eS 2 l λl o s=>Ai (Ae lo 172 [.sl 2 l o s,Iv (Ao ((Ao ((Ao (y+1))+1))+1))] v) λv l=>eI .i64 v λv=>Ai (Ae lo 88 (Au v) l) λl o=>eT l λl=>Aq x n (eO a λs=>eO (st lo o s.1 (s.2+x.toNat) 4 [.str l]) λl=>br ((Ao (v+(1:Int))).tmod (3:Int)==0) (Aq x n (eO a λo=>eO (st lo l o.1 (o.2+x.toNat) 5 [.bool true]) λo=>Er lo a n c (Ao ((Ao (v+1))+1)) (Ao (x+1)) o)) (Aq x n (eO a λo=>eO (st lo l o.1 (o.2+x.toNat) 5 [.bool false]) λl=>Er lo a n c (Ao ((Ao (v+1))+1)) (Ao (x+1)) l))))))))) (some (Iv y,h)) :=
 lE
def Fq lo a n c x y h:=
 LA 171 Tryz.f171 22131 0 11 lo ⟨[(0,.sl 1 a n c),(1,Iv x),(5,Iv y)],[],h⟩
theorem Fq.e :
  Fq lo a n c y x h=br (decide (x<(n:Int))) (Aq x n (eO a λv=>eO (ld h v.1 (v.2+x.toNat) 0 1) λv=>eC v λv l=>eN l (eS 6 v λv l o=>Ai (Ae lo 170 [.sl 6 v l o,Iv y] h) λv l=>eI .i64 v λv=>Fq lo a n c v (Ao (x+1)) l))) (some (Iv y,h)) :=
 lE
def Gm lo a n c x y h:=
 LA 172 Tryz.f172 22131 0 11 lo ⟨[(0,.sl 2 a n c),(1,Iv x),(5,Iv y)],[],h⟩
theorem Gm.e :
  Gm lo a n c y x h=br (decide (x<(n:Int))) (Aq x n (eO a λv=>eO (st lo h v.1 (v.2+x.toNat) 0 (Au y)) λv=>Aq x n (eO a λl=>eO (st lo v l.1 (l.2+x.toNat) 1 (Au (Ao (y+1)))) λv=>Gm lo a n c (Ao ((Ao (y+1))+1)) (Ao (x+1)) v))) (some (Iv y,h)) :=
 lE
def FA lo a n c x y z h:=
 LA 173 Tryz.f173 22131 0 11 lo ⟨[(0,.sl 2 a n c),(1,Iv x),(4,Iv y),(5,Iv z)],[],h⟩
theorem FA.e :
  FA lo a n c y z x h=br (decide (x<(n:Int))) (Aq x n (eO a λv=>eO (ld h v.1 (v.2+x.toNat) 0 1) λv=>eC v λv l=>eN l (eS 6 v λv l o=>Ai (Ae lo 174 [.sl 6 v l o,Iv y] h) λv l=>eI .i64 v λv=>br (decide (v<0)) (some (Iv (-1),l)) (Aq x n (eO a λo=>eO (ld l o.1 (o.2+x.toNat) 1 1) λo=>eC o λo s=>eN s (eS 6 o λo s b=>Ai (Ae lo 174 [.sl 6 o s b,Iv v] l) λv l=>eI .i64 v λv=>br (decide (v<0)) (some (Iv (-1),l)) (FA lo a n c v z (Ao (x+1)) l))))))) (some (Iv y,h)) :=
 lE
def Es lo a n c x y z h:=
 LA 174 Tryz.f174 22131 0 11 lo ⟨[(0,.sl 6 a n c),(1,Iv x),(4,Iv y),(5,Iv z)],[],h⟩
theorem Es.e :
  Es lo a n c y z x h=br (decide (x<(n:Int))) (Aq x n (eO a λv=>eO (ld h v.1 (v.2+x.toNat) 0 1) λv=>eC v λv l=>eN l (eI .i64 v λv=>br (v==y) (Aq x n (eO a λv=>eO (ld h v.1 (v.2+x.toNat) 1 1) λv=>eC v λv l=>eN l (eI .i64 v λv=>br (v==Ao (y+(1:Int))) (Aq x n (eO a λv=>eO (ld h v.1 (v.2+x.toNat) 2 1) λv=>eC v λv l=>eN l (eI .i64 v λv=>br (v==Ao (Ao (y+(1:Int))+(1:Int))) (Aq x n (eO a λv=>eO (ld h v.1 (v.2+x.toNat) 3 1) λv=>eC v λv l=>eN l (eS 2 v λv l o=>Ai (Ae lo 176 [.sl 2 v l o,Iv (Ao ((Ao ((Ao (y+1))+1))+1))] h) λv l=>eI .i64 v λv=>br (decide (v<0)) (some (Iv (-1),l)) (Aq x n (eO a λo=>eO (ld l o.1 (o.2+x.toNat) 4 1) λo=>eC o λo s=>eN s (eT o λo=>Ai (Ae l.length 88 (Au v) l) λl s=>eT l λl=>br (o.toList==l.toList) (Aq x n (eO a λl=>eO (ld s l.1 (l.2+x.toNat) 5 1) λl=>eC l λl o=>eN o (eB l (br ((Ao (v+(1:Int))).tmod (3:Int)==0) (Es lo a n c (Ao ((Ao (v+1))+1)) z (Ao (x+1)) s) (some (Iv (-1),s))) (br ((Ao (v+(1:Int))).tmod (3:Int)==0) (some (Iv (-1),s)) (Es lo a n c (Ao ((Ao (v+1))+1)) z (Ao (x+1)) s))))) (some (Iv (-1),s)))))))) (some (Iv (-1),h))))) (some (Iv (-1),h))))) (some (Iv (-1),h))))) (some (Iv y,h)) :=
 lE
def Fy lo a n c x y z h:=
 LA 175 Tryz.f175 22131 0 11 lo ⟨[(0,.sl 1 a n c),(1,Iv x),(4,Iv y),(5,Iv z)],[],h⟩
theorem Fy.e :
  Fy lo a n c y z x h=br (decide (x<(n:Int))) (Aq x n (eO a λv=>eO (ld h v.1 (v.2+x.toNat) 0 1) λv=>eC v λv l=>eN l (eS 6 v λv l o=>Ai (Ae lo 174 [.sl 6 v l o,Iv y] h) λv l=>eI .i64 v λv=>br (decide (v<0)) (some (Iv (-1),l)) (Fy lo a n c v z (Ao (x+1)) l)))) (some (Iv y,h)) :=
 lE
def Gn lo a n c x y z h:=
 LA 176 Tryz.f176 22131 0 11 lo ⟨[(0,.sl 2 a n c),(1,Iv x),(4,Iv y),(5,Iv z)],[],h⟩
theorem Gn.e :
  Gn lo a n c y z x h=br (decide (x<(n:Int))) (Aq x n (eO a λv=>eO (ld h v.1 (v.2+x.toNat) 0 1) λv=>eC v λv l=>eN l (eI .i64 v λv=>br (v==y) (Aq x n (eO a λv=>eO (ld h v.1 (v.2+x.toNat) 1 1) λv=>eC v λv l=>eN l (eI .i64 v λv=>br (v==Ao (y+(1:Int))) (Gn lo a n c (Ao ((Ao (y+1))+1)) z (Ao (x+1)) h) (some (Iv (-1),h))))) (some (Iv (-1),h))))) (some (Iv y,h)) :=
 lE
def GU lo f x a n c b m p d k u e i s h:=
 LA 183 Tryz.f183 22131 0 11 lo ⟨[(1,.lp 1 0),(2,.bool f),(3,Iv x)],[(1,(DC a n c b m p d k u e i s))],h⟩
def EP lo f x y a n c b m p d k u e i s h:=
 Lp (X 183) lo (pf 22123122131 Tryz.f183) 2 (A8 2 (A8 1 (kS (X 183) lo (pf 1122131 Tryz.f183) 0 (U0 (X 183) lo (pf 22131 Tryz.f183) 0 (A8 0 (kS (X 183) lo (pf 11 Tryz.f183) 0 (I0 (X 183) Tryz.f183.results.toList))))))) ⟨[(1,.lp 1 0),(2,.bool f),(3,Iv x),(4,Iv y)],[(1,(DC a n c b m p d k u e i s))],h⟩
def EO lo f x y a n c z b m p d k u e i s A j C h:=
 Lp (X 183) lo (pf 2211123122123122131 Tryz.f183) 4 (A8 4 (A8 3 (kS (X 183) lo (pf 1122123122131 Tryz.f183) 2 (U0 (X 183) lo (pf 22123122131 Tryz.f183) 2 (A8 2 (A8 1 (kS (X 183) lo (pf 1122131 Tryz.f183) 0 (U0 (X 183) lo (pf 22131 Tryz.f183) 0 (A8 0 (kS (X 183) lo (pf 11 Tryz.f183) 0 (I0 (X 183) Tryz.f183.results.toList))))))))))) ⟨[(1,.lp 1 0),(2,.bool f),(3,Iv x),(4,Iv y),(5,.sl 6 a n c),(6,Iv z)],[(1,(DC b m p d k u e i s A j C))],h⟩
theorem GU.e :
  GU lo f x a n c b m p d k u A i s h=br (decide (x<3)) (EP lo f x 0 a n c b m p d k u A i s h) (Cc h) :=
 lE
theorem EP.e :
  EP lo f y x a n c b m p d k u A i s h=br (decide (x<3)) (Aq y n (eO a λv=>eO (ld h v.1 (v.2+y.toNat) 4 1) λv=>eC v λv l=>eN l (eS 1 v λv l o=>Aq x l (eO v λv=>eO (ld h v.1 (v.2+x.toNat) 0 1) λv=>eC v λv l=>eN l (eS 6 v λv l o=>Aq x n (eO a λz=>eO (ld h z.1 (z.2+x.toNat) 3 1) λz=>eC z λz w=>eN w (eS 6 z λz z w=>br (decide ((l:Int)>(z:Int))) (AI h) (EO lo f y x v l o 0 a n c b m p d k u A i s h)))))))) (GU lo f (Ao (y+1)) a n c b m p d k u A i s h) :=
 lE
theorem EO.e {lo n m k i j:Nat}{f:Bool}{z y x:Int}{b a d A B:Pq}{C c p u s:Nq}{h:Heap} :
  EO lo f z y b n C x a m c d k p A i u B j s h=br (decide (x<(n:Int))) (Aq x n (eO b λv=>eO (ld h v.1 (v.2+x.toNat) 0 6) λv=>eC v λv l=>eI .i64 v λv=>eC l λl o=>eI .i64 l λl=>eC o λo w=>eI .i64 o λo=>eC w λw q=>eS 2 w λw g t=>eC q λq e=>eT q λq=>eC e λe D=>eBv e λe=>eN D (Aq y m (eO a λD=>eO (ld h D.1 (D.2+y.toNat) 3 1) λD=>eC D λD E=>eN E (eS 6 D λD E G=>Aq x E (eO D λD=>eO (ld h D.1 (D.2+x.toNat) 0 6) λD=>eC D λD E=>eI .i64 D λD=>eC E λE G=>eI .i64 E λE=>eC G λG H=>eI .i64 G λG=>eC H λH J=>eS 2 H λH K L=>eC J λJ M=>eT J λJ=>eC M λM N=>eBv M λM=>eN N (Ai (Ae lo 248 [AD v l o w g t q e,AD D E G H K L J M] h) λv l=>eB v (EO lo f z y b n C (Ao (x+1)) a m c d k p A i u B j s l) (AI l)))))))) (EP lo f z (Ao (y+1)) a m c d k p A i u B j s h) :=
 lE
theorem Or {e:Pq} (hk:(Ai (Ae lo 54 (Dh x 0 (Ao ((n:Int) - 1))) h) λv l=>eB v (br (y==1) (Ai (Ae lo 249 [Av b m c a n p d k u e i s,BZ y x z t S f] l) λv o=>eU v λv=>eC v λv w=>eA v λv=>eC v λv q=>eS 6 v λv g j=>eC q λq A=>eS 5 q λq B C=>eC A λA D=>eS 9 A λA E G=>eC D λD H=>eS 5 D λD J K=>eN H (eC w λw H=>eB w (eN H (some (.tup [Av v g j q B C A E G D J K,.bool true],o))) (eN H (some (.tup [Av v g j q B C A E G D J K,.bool false],o))))) (br (y==2) (Ai (Ae lo 250 [Av b m c a n p d k u e i s,BZ y x z t S f] l) λv o=>eU v λv=>eC v λv w=>eA v λv=>eC v λv q=>eS 6 v λv g j=>eC q λq A=>eS 5 q λq B C=>eC A λA D=>eS 9 A λA E G=>eC D λD H=>eS 5 D λD J K=>eN H (eC w λw H=>eB w (eN H (some (.tup [Av v g j q B C A E G D J K,.bool true],o))) (eN H (some (.tup [Av v g j q B C A E G D J K,.bool false],o))))) (br (y==3) (Ai (Ae lo 251 [Av b m c a n p d k u e i s,BZ y x z t S f] l) λv o=>eU v λv=>eC v λv w=>eA v λv=>eC v λv q=>eS 6 v λv g j=>eC q λq A=>eS 5 q λq B C=>eC A λA D=>eS 9 A λA E G=>eC D λD H=>eS 5 D λD J K=>eN H (eC w λw H=>eB w (eN H (some (.tup [Av v g j q B C A E G D J K,.bool true],o))) (eN H (some (.tup [Av v g j q B C A E G D J K,.bool false],o))))) (br (y==4) (Ai (Ae lo 252 [Av b m c a n p d k u e i s,BZ y x z t S f] l) λv o=>eU v λv=>eC v λv w=>eA v λv=>eC v λv q=>eS 6 v λv g j=>eC q λq A=>eS 5 q λq B C=>eC A λA D=>eS 9 A λA E G=>eC D λD H=>eS 5 D λD J K=>eN H (eC w λw H=>eB w (eN H (some (.tup [Av v g j q B C A E G D J K,.bool true],o))) (eN H (some (.tup [Av v g j q B C A E G D J K,.bool false],o))))) (Aq x n (eO a λv=>eO (ld l v.1 (v.2+x.toNat) 2 1) λv=>eC v λv o=>eN o (eI .i64 v λv=>br (decide (v>0)) (some (.tup [Av b m c a n p d k u e i s,.bool false],l)) (Ai (Ae lo 54 (Dh z 0 2) l) λv o=>eB v (Aq x n (eO a λv=>eO (st lo o v.1 (v.2+x.toNat) 0 (Au z)) λv=>some (.tup [Av b m c a n p d k u e i s,.bool true],v))) (some (.tup [Av b m c a n p d k u e i s,.bool false],o)))))))))) (some (.tup [Av b m c a n p d k u e i s,.bool false],l)))=some r) :
  Ae lo 184 [Av b m c a n p d k u e i s,BZ y x z t S f] h=some r :=
 eK Tryz.func184 hk
end
noncomputable section

variable {lo n m k i:Nat}{a b d:Pq}{c p u s:Nq}{z x y t:Int}{S:ByteArray}{f:Bool}{h:Heap}{r:V×Heap}{j:Nat}{w:Int}{h':Heap}{v:V}{l:List V}
theorem Qi {e:Pq} (hk:(Ai (Ae lo 54 (Dh x 0 2) h) λv l=>eB v (Aq x n (eO a λv=>eO (ld l v.1 (v.2+x.toNat) 0 6) λv=>eC v λv o=>eI .i64 v λv=>eC o λo w=>eI .i64 o λo=>eC w λw q=>eS 2 w λw g j=>eC q λq A=>eS 6 q λq B C=>eC A λA D=>eS 1 A λA E G=>eC D λD H=>eBv D λD=>eN H (br (z==6) (Ai (Ae lo 253 [Am w g j,Iv y] l) λH J=>eB H (Ai (Ae lo 254 [Am w g j,Iv y] J) λH K=>eA H λH=>eC H λH L=>eS 2 H λH M N=>eN L (Ai (Ae lo 130 [Al v o H M N q B C A E G D] K) λH K=>eA H λH=>eC H λH L=>eI .i64 H λH=>eC L λL M=>eI .i64 L λL=>eC M λM N=>eS 2 M λM O P=>eC N λN Q=>eS 6 N λN U W=>eC Q λQ Y=>eS 1 Q λQ Z v0=>eC Y λY v1=>eBv Y λY=>eN v1 (Aq x n (eO a λv1=>eO (st lo K v1.1 (v1.2+x.toNat) 0 (CB H L M O P N U W Q Z v0 Y)) λH=>some (.tup [Av a n c b m p d k u e i s,.bool true],H))))) (Aq x n (eO a λH=>eO (st lo J H.1 (H.2+x.toNat) 0 (CB v o w g j q B C A E G D)) λH=>some (.tup [Av a n c b m p d k u e i s,.bool false],H)))) (br (z==7) (Ai (Ae lo 255 [Al v o w g j q B C A E G D,Iv y] l) λH J=>eB H (Ai (Ae lo 256 [Am w g j,Iv y] J) λH K=>eA H λH=>eC H λH L=>eS 2 H λH M N=>eN L (Ai (Ae lo 130 [Al v o H M N q B C A E G true] K) λH K=>eA H λH=>eC H λH L=>eI .i64 H λH=>eC L λL M=>eI .i64 L λL=>eC M λM N=>eS 2 M λM O P=>eC N λN Q=>eS 6 N λN U W=>eC Q λQ Y=>eS 1 Q λQ Z v0=>eC Y λY v1=>eBv Y λY=>eN v1 (Aq x n (eO a λv1=>eO (st lo K v1.1 (v1.2+x.toNat) 0 (CB H L M O P N U W Q Z v0 Y)) λH=>some (.tup [Av a n c b m p d k u e i s,.bool true],H))))) (Aq x n (eO a λH=>eO (st lo J H.1 (H.2+x.toNat) 0 (CB v o w g j q B C A E G D)) λH=>some (.tup [Av a n c b m p d k u e i s,.bool false],H)))) (br (z==8) (br (decide ((g:Int)<4)) (Ai (Ae lo 257 [Am w g j] l) λH J=>eA H λH=>eC H λH K=>eS 2 H λH L M=>eN K (Aq x n (eO a λK=>eO (st lo J K.1 (K.2+x.toNat) 0 (CB v o H L M q B C A E G D)) λH=>some (.tup [Av a n c b m p d k u e i s,.bool true],H)))) (Aq x n (eO a λH=>eO (st lo l H.1 (H.2+x.toNat) 0 (CB v o w g j q B C A E G D)) λH=>some (.tup [Av a n c b m p d k u e i s,.bool false],H)))) (Ai (Ae lo 54 (Dh y 0 2) l) λH J=>eB H (Ai (Ae lo 258 [Al v o w g j q B C A E G D,Iv y] J) λH K=>eB H (Ai (Ae lo 259 [Al v o w g j q B C A E G D,Iv y] K) λH L=>eA H λH=>eC H λH M=>eI .i64 H λH=>eC M λM N=>eI .i64 M λM=>eC N λN O=>eS 2 N λN P Q=>eC O λO U=>eS 6 O λO W Y=>eC U λU Z=>eS 1 U λU v0 v1=>eC Z λZ v2=>eBv Z λZ=>eN v2 (Aq x n (eO a λv2=>eO (st lo L v2.1 (v2.2+x.toNat) 0 (CB H M N P Q O W Y U v0 v1 Z)) λH=>some (.tup [Av a n c b m p d k u e i s,.bool true],H)))) (Aq x n (eO a λH=>eO (st lo K H.1 (H.2+x.toNat) 0 (CB v o w g j q B C A E G D)) λH=>some (.tup [Av a n c b m p d k u e i s,.bool false],H)))) (Aq x n (eO a λH=>eO (st lo J H.1 (H.2+x.toNat) 0 (CB v o w g j q B C A E G D)) λv=>some (.tup [Av a n c b m p d k u e i s,.bool false],v))))))))) (some (.tup [Av a n c b m p d k u e i s,.bool false],l)))=some r) :
  Ae lo 185 [Av a n c b m p d k u e i s,BZ z x y t S f] h=some r :=
 eK Tryz.func185 hk
theorem Te {e:Pq} (hk:(br (z==10) (Ai (Ae lo 54 (Dh x 0 2) h) λv l=>eB v (Ai (Ae lo 54 (Dh t 0 2) l) λv o=>eB v (br (x==t) (some (.tup [Av a n c b k p d m s e i u,.bool false],o)) (br (decide ((m:Int)>=12)) (some (.tup [Av a n c b k p d m s e i u,.bool false],o)) (Aq x n (eO a λv=>eO (ld o v.1 (v.2+x.toNat) 3 1) λv=>eC v λv w=>eN w (eS 6 v λv v w=>Ai (Ae lo 54 (Dh y 0 (Ao ((v:Int) - 1))) o) λv w=>eB v (Aq x n (eO a λv=>eO (ld w v.1 (v.2+x.toNat) 3 1) λv=>eC v λv q=>eN q (eS 6 v λv q g=>Aq y q (eO v λv=>eO (ld w v.1 (v.2+y.toNat) 0 6) λv=>eC v λv q=>eI .i64 v λv=>eC q λq g=>eI .i64 q λq=>eC g λg j=>eI .i64 g λg=>eC j λj A=>eS 2 j λj B C=>eC A λA D=>eT A λA=>eC D λD E=>eBv D λD=>eN E (Ai (Ae lo 187 [AD v q g j B C A D] w) λv q=>eA v λv=>eC v λv g=>eI .i64 v λv=>eC g λg j=>eI .i64 g λg=>eC j λj A=>eI .i64 j λj=>eC A λA B=>eS 2 A λA C D=>eC B λB E=>eT B λB=>eC E λE G=>eBv E λE=>eN G (Aw 9 (q ++ [.rows 9 123 false [Mp x t y v g j A C D B E]]) (.sl 9 (some (q.length,0)) 1 (some 1)) λG=>Dk lo 123 9 96 (.sl 9 d m s) G (q ++ [.rows 9 123 false [Mp x t y v g j A C D B E]]) λv q=>eS 9 v λv g j=>some (.tup [Av a n c b k p v g j e i u,.bool true],q))))))) (some (.tup [Av a n c b k p d m s e i u,.bool false],w))))))) (some (.tup [Av a n c b k p d m s e i u,.bool false],o))) (some (.tup [Av a n c b k p d m s e i u,.bool false],l))) (Ai (Ae lo 54 (Dh x 0 (Ao ((m:Int) - 1))) h) λv l=>eB v (Aq x m (eO d λv=>eO (ld l v.1 (v.2+x.toNat) 0 9) λv=>eC v λv o=>eI .i64 v λv=>eC o λo w=>eI .i64 o λo=>eC w λw q=>eI .i64 w λw=>eC q λq g=>eI .i64 q λq=>eC g λg j=>eI .i64 g λg=>eC j λj A=>eI .i64 j λj=>eC A λA B=>eS 2 A λA C D=>eC B λB E=>eT B λB=>eC E λE G=>eBv E λE=>eN G (br (z==13) (br (z==12) (some (.tup [Av a n c b k p d m s e i u,.bool true],l)) (Aq o n (eO a λG=>eO (ld l G.1 (G.2+o.toNat) 0 6) λG=>eC G λG H=>eI .i64 G λG=>eC H λH J=>eI .i64 H λH=>eC J λJ K=>eS 2 J λJ L M=>eC K λK N=>eS 6 K λK O P=>eC N λN Q=>eS 1 N λN U W=>eC Q λQ Y=>eBv Q λQ=>eN Y (Ai (Ae lo 260 [Al G H J L M K O P N U W Q,Iv v,Iv w,AD q g j A C D B E] l) λG H=>eU G λG=>eC G λG J=>eA G λG=>eC G λG K=>eI .i64 G λG=>eC K λK L=>eI .i64 K λK=>eC L λL M=>eS 2 L λL N O=>eC M λM P=>eS 6 M λM Q U=>eC P λP W=>eS 1 P λP Y Z=>eC W λW v0=>eBv W λW=>eN v0 (eC J λJ v0=>eB J (eN v0 (Aq o n (eO a λJ=>eO (st lo H J.1 (J.2+o.toNat) 0 (CB G K L N O M Q U P Y Z W)) λG=>some (.tup [Av a n c b k p d m s e i u,.bool true],G)))) (eN v0 (some (.tup [Av a n c b k p d m s e i u,.bool true],H)))))))) (AL d m s none (some (Iv x)) none λG H J=>Aw 9 (l ++ [.rows 9 123 false []]) (.sl 9 G H J) λG=>Dk lo 123 9 96 (.sl 9 (some (l.length,0)) 0 (some 0)) G (l ++ [.rows 9 123 false []]) λG H=>eS 9 G λG J K=>AL d m s (some (Iv (Ao (x+1)))) none none λL M N=>Aw 9 H (.sl 9 L M N) λL=>Dk lo 123 9 96 (.sl 9 G J K) L H λG H=>eS 9 G λG J K=>br (z==12) (some (.tup [Av a n c b k p G J K e i u,.bool true],H)) (Aq o n (eO a λL=>eO (ld H L.1 (L.2+o.toNat) 0 6) λL=>eC L λL M=>eI .i64 L λL=>eC M λM N=>eI .i64 M λM=>eC N λN O=>eS 2 N λN P Q=>eC O λO U=>eS 6 O λO W Y=>eC U λU Z=>eS 1 U λU v0 v1=>eC Z λZ v2=>eBv Z λZ=>eN v2 (Ai (Ae lo 260 [Al L M N P Q O W Y U v0 v1 Z,Iv v,Iv w,AD q g j A C D B E] H) λv w=>eU v λv=>eC v λv q=>eA v λv=>eC v λv g=>eI .i64 v λv=>eC g λg j=>eI .i64 g λg=>eC j λj A=>eS 2 j λj B C=>eC A λA D=>eS 6 A λA E H=>eC D λD L=>eS 1 D λD M N=>eC L λL O=>eBv L λL=>eN O (eC q λq O=>eB q (eN O (Aq o n (eO a λq=>eO (st lo w q.1 (q.2+o.toNat) 0 (CB v g j B C A E H D M N L)) λv=>some (.tup [Av a n c b k p G J K e i u,.bool true],v)))) (eN O (some (.tup [Av a n c b k p G J K e i u,.bool true],w))))))))))) (some (.tup [Av a n c b k p d m s e i u,.bool false],l))))=some r) :
  Ae lo 186 [Av a n c b k p d m s e i u,BZ z x t y S f] h=some r :=
 eK Tryz.func186 hk
theorem Rg (hk:(Aw 2 (h ++ [.rows 2 36 false []]) (.sl 2 a n c) λv=>Dk lo 36 2 16 (.sl 2 (some (h.length,0)) 0 (some 0)) v (h ++ [.rows 2 36 false []]) λv l=>eS 2 v λv o s=>some ((AD x y z v o s S f),l))=some r) :
  Ae lo 187 [AD x y z a n c S f] h=some r :=
 eK Tryz.func187 hk
theorem Oy (hk:(Ai (Ae lo 72 [Bi n m k] h) λv l=>eU v λv=>eC v λv c=>eI .i64 v λv=>eC c λc a=>eI .i64 c λc=>eC a λa o=>eS 6 a λa s b=>eN o (Ai (Ae lo 74 [Iv v,Iv c,.sl 6 a s b] l) λv l=>eA v λv=>eC v λv c=>eS 6 v λv a o=>eC c λc s=>eS 5 c λc b x=>eC s λs y=>eS 9 s λs z u=>eC y λy w=>eS 5 y λy p q=>eN w (Ai (Ae lo 103 [Av v a o c b x s z u y p q] l) λv l=>eA v λv=>eC v λv c=>eS 6 v λv a o=>eC c λc s=>eS 5 c λc b x=>eC s λs y=>eS 9 s λs z u=>eC y λy w=>eS 5 y λy p q=>eN w (some ((Av v a o c b x s z u y p q),l)))))=some r) :
  Ae lo 192 [Bi n m k] h=some r :=
 eK Tryz.func192 hk
theorem ND (hk:(Ai (Ae lo 195 [Bi n m k] h) λv l=>eA v λv=>eC v λv c=>eI .i64 v λv=>eC c λc a=>eI .i64 c λc=>eC a λa o=>eI .i64 a λa=>eC o λo s=>eS 2 o λo b x=>eC s λs y=>eT s λs=>eC y λy z=>eBv y λy=>eN z (Ai (Ae lo 44 [Bi n m k,Iv 10] l) λl z=>eI .i64 l λl=>br (l==0) (Ai (Ae lo 49 [Bi n m k,.sl 1 (some (z.length,0)) 2 (some 2)] (z ++ [.rows 1 3 false [Au (-1),Au 4]])) λu w=>eI .i64 u λu=>some ((AD u c a o b x s y),w)) (br (l==1) (Ai (Ae lo 48 [Bi n m k,.sl 1 (some (z.length,0)) 3 (some 3)] (z ++ [.rows 1 9 false [[.str ⟨⟨[97,32,98]⟩⟩],[.str ⟨⟨[116,111,111,108,111,110,103,101,114]⟩⟩],[.str ⟨⟨[10]⟩⟩]]])) λu w=>eT u λu=>some ((AD v c a o b x u y),w)) (br (l==2) (AL o b x (some (Iv 1)) none none λu w p=>some ((AD v c a u w p s y),z)) (br (l==3) (Ai (Ae lo 44 [Bi n m k,Iv 4] z) λu w=>eI .i64 u λu=>Aq u b (eO o λp=>eO (st lo w p.1 (p.2+u.toNat) 0 (BN 50 1)) λu=>some ((AD v c a o b x s y),u))) (br (l==4) (Ai (Ae lo 110 [Bi n m k] z) λu w=>eA u λu=>eC u λu p=>eI .i64 u λu=>eC p λp q=>eI .i64 p λp=>eN q (some ((AD v u p o b x s y),w))) (br (l==5) (some ((AD v c a o b x s true),z)) (some ((AD v c a o b x s y),z)))))))))=some r) :
  Ae lo 193 [Bi n m k] h=some r :=
 eK Tryz.func193 hk
theorem Lv (hk:(Ai (Ae lo 267 [Bi n m k] h) λv l=>eA v λv=>eC v λv c=>eS 2 v λv a o=>eN c (Ai (Ae lo 44 [Bi n m k,Iv (a:Int)] l) λl c=>eI .i64 l λl=>Ai (Ae lo 44 [Bi n m k,Iv 10] c) λc s=>eI .i64 c λc=>br (c==0) (Ai (Ae lo 268 [Bi n m k] s) λb x=>eA b λb=>eC b λb y=>eS 6 b λb z u=>eN y (Aq l a (eO v λy=>eO (st lo x y.1 (y.2+l.toNat) 0 (Bs b z u)) λb=>some ((Am v a o),b)))) (br (c==1) (Aq l a (eO v λb=>eO (ld s b.1 (b.2+l.toNat) 1 1) λx=>eC x λx y=>eN y (eS 6 x λx y z=>Ai (Ae lo 193 [Bi n m k] s) λu w=>eA u λu=>eC u λu p=>eI .i64 u λu=>eC p λp q=>eI .i64 p λp=>eC q λq g=>eI .i64 q λq=>eC g λg i=>eS 2 g λg j t=>eC i λi d=>eT i λi=>eC d λd e=>eBv d λd=>eN e (Bu (KV (ld s b.1 (b.2+l.toNat) 1 1) (ld w b.1 (b.2+l.toNat) 1 1)) (Bu (KV (ld w b.1 (b.2+l.toNat) 1 1) (ld (w ++ [.rows 6 43 false [Cf u p q g j t i d]]) b.1 (b.2+l.toNat) 1 1)) (Aw 6 (w ++ [.rows 6 43 false [Cf u p q g j t i d]]) (.sl 6 (some (w.length,0)) 1 (some 1)) λb=>Dk lo 43 6 72 (.sl 6 x y z) b (w ++ [.rows 6 43 false [Cf u p q g j t i d]]) λb x=>eS 6 b λb y z=>Aq l a (eO v λu=>eO (st lo x u.1 (u.2+l.toNat) 1 (Bs b y z)) λb=>some ((Am v a o),b)))))))) (br (c==2) (AL v a o none (some (Iv l)) none λl c b=>some ((Am l c b),s)) (some ((Am v a o),s))))))=some r) :
  Ae lo 194 [Bi n m k] h=some r :=
 eK Tryz.func194 hk
def Cr lo n m k x y z t w i a j c S f q M N b g p s0 F h:=
 LA 195 Tryz.f195 2213111 0 1111 lo ⟨[(0,(Bi n m k)),(2,.lp 2 0),(3,.lp 3 0),(4,Iv x),(5,Iv y)],[(2,[Iv z,Iv t,Iv w,.sl i a j c,.str S,.bool f]),(3,(Cf q M N b g p s0 F))],h⟩
theorem Rh (hk:(Ai (Ae lo 44 [Bi n m k,Iv 4] h) λv l=>eI .i64 v λv=>Ai (Ae lo 45 [] l) λl c=>eA l λl=>eC l λl a=>eS 2 l λl o s=>eN a (Ai (Ae lo 269 [Bi n m k] c) λc a=>eT c λc=>Cr lo n m k 0 0 0 0 0 0 none 0 (some 0) ⟨⟨[]⟩⟩ false v 0 0 l o s c false a))=some r) :
  Ae lo 195 [Bi n m k] h=some r :=
 eK Tryz.func195 hk
theorem Cr.e {g:Nat}{q M N:Int}{s0:ByteArray}{F:Bool} :
  Cr lo m k i y x t w q j b g p s0 F z M N a n c S f h=br (decide (x<4)) (Ai (Ae lo 109 [Bi m k i] h) λv l=>eA v λv=>eC v λv o=>eI .i64 v λv=>eC o λo s=>eI .i64 o λo=>eN s (Aq x n (eO a λs=>eO (st lo l s.1 (s.2+x.toNat) 0 (BN v o)) λv=>Aq x n (eO a λl=>eO (ld v l.1 (l.2+x.toNat) 0 1) λl=>eC l λl o=>eN o (eI .i64 l λl=>br (decide (l>y)) (Aq x n (eO a λl=>eO (ld v l.1 (l.2+x.toNat) 0 1) λl=>eC l λl o=>eN o (eI .i64 l λl=>Cr lo m k i l (Ao (x+1)) t w q j b g p s0 F z M N a n c S f v))) (Cr lo m k i y (Ao (x+1)) t w q j b g p s0 F z M N a n c S f v)))))) (Ai (Ae lo 44 [Bi m k i,Iv 3] h) λv l=>eI .i64 v λv=>Ai (Ae lo 44 [Bi m k i,Iv 3] l) λl o=>eI .i64 l λl=>Ai (Ae lo 44 [Bi m k i,Iv 6] o) λo s=>eI .i64 o λo=>br (o==0) (some ((AD z (Ao ((Ao (y+1))+v)) l a n c ⟨⟨[]⟩⟩ true),s)) (some ((AD z (Ao ((Ao (y+1))+v)) l a n c S f),s))) :=
 lE
def Bo lo x a n c m b k p i d j u h:=
 LA 196 Tryz.f196 221311 0 111 lo ⟨[(1,.lp 1 0),(2,.lp 2 0),(3,.lp 3 0),(4,Iv x)],[(1,(Bs a n c)),(2,[.sl m b k p]),(3,[.sl i d j u])],h⟩
theorem Ir (hk:(Bo lo 0 a n c 0 none 0 (some 0) 0 none 0 (some 0) h)=some r) :
  Ae lo 196 [Bh a n c] h=some r :=
 eK Tryz.func196 hk
theorem Bo.e :
  Bo lo x a n p i d j u m b k c h=br (decide (x<(n:Int))) (Aq x n (eO a λv=>eO (ld h v.1 (v.2+x.toNat) 0 6) λv=>eC v λv l=>eI .i64 v λv=>eC l λl o=>eI .i64 l λl=>eC o λo s=>eI .i64 o λo=>eC s λs y=>eS 2 s λs z w=>eC y λy q=>eT y λy=>eC q λq g=>eBv q λq=>eN g (Ai (Ae lo 187 [AD v l o s z w y q] h) λv l=>eA v λv=>eC v λv o=>eI .i64 v λv=>eC o λo s=>eI .i64 o λo=>eC s λs y=>eI .i64 s λs=>eC y λy z=>eS 2 y λy w q=>eC z λz g=>eT z λz=>eC g λg t=>eBv g λg=>eN t (Aw 6 (l ++ [.rows 6 43 false [Cf v o s y w q z g]]) (.sl 6 (some (l.length,0)) 1 (some 1)) λt=>Dk lo 43 6 72 (.sl m b k c) t (l ++ [.rows 6 43 false [Cf v o s y w q z g]]) λv l=>eS 6 v λv o s=>Bo lo (Ao (x+1)) a n p i d j u 6 v o s l)))) (some (.agg [.sl m b k c],h)) :=
 lE
theorem Rl (hk:(br (decide (x<y)) (Cc h) (br (x==y) (br (decide (z<t)) (Cc h) (AI h)) (AI h)))=some (v,h')) (hn:noId v=true:=by rfl) :
  Ae lo 197 [Ax x z,Ax y t] h=some (v,h) :=
 eD Tryz.func197 hk hn
theorem To (hk:(Aq x n (eO a λv=>eO (ld h v.1 (v.2+x.toNat) 1 2) λv=>eC v λv l=>eI .i64 v λv=>eC l λl o=>eI .i64 l λl=>eN o (Ai (Ae lo 197 [Ax v l,Ax y z] h) λv l=>eB v (Ai (Ae lo 187 [AD x y z b m p S f] l) λv o=>eA v λv=>eC v λv s=>eI .i64 v λv=>eC s λs u=>eI .i64 s λs=>eC u λu w=>eI .i64 u λu=>eC w λw q=>eS 2 w λw g i=>eC q λq j=>eT q λq=>eC j λj k=>eBv j λj=>eN k (Aq x n (eO a λk=>eO (st lo o k.1 (k.2+x.toNat) 0 (Cf v s u w g i q j)) λv=>some ((Bh a n c),v)))) (some ((Bh a n c),l)))))=some r) :
  Ae lo 198 [Bh a n c,AD x y z b m p S f] h=some r :=
 eK Tryz.func198 hk
def Bn lo f x a n c b m p h:=
 LA 199 Tryz.f199 22131 0 11 lo ⟨[(2,.lp 2 0),(3,.lp 3 0),(4,.bool f),(5,Iv x)],[(2,(Bs a n c)),(3,(Bs b m p))],h⟩
theorem Ls (hk:(Bn h.length false 0 a n c b m p h)=some (v,h')) (hn:noId v=true:=by rfl) :
  Ae lo 199 [Bh a n c,Bh b m p] h=some (v,h) :=
 eD Tryz.func199 hk hn
theorem Bn.e {lo n m:Nat}{f:Bool}{x:Int}{a b:Pq}{c p:Nq}{h:Heap} :
  Bn lo f x a n c b m p h=br (decide (x<4)) (Aq x n (eO a λv=>eO (ld h v.1 (v.2+x.toNat) 1 2) λv=>eC v λv l=>eI .i64 v λv=>eC l λl o=>eI .i64 l λl=>eN o (Aq x m (eO b λo=>eO (ld h o.1 (o.2+x.toNat) 1 2) λo=>eC o λo s=>eI .i64 o λo=>eC s λs y=>eI .i64 s λs=>eN y (br ((v==o)&&((l==s)&&true)) (Aq x n (eO a λv=>eO (ld h v.1 (v.2+x.toNat) 1 1) λv=>eC v λv l=>eN l (eI .i64 v λv=>br (decide (v>0)) (Aq x n (eO a λv=>eO (ld h v.1 (v.2+x.toNat) 0 6) λv=>eC v λv l=>eI .i64 v λv=>eC l λl o=>eI .i64 l λl=>eC o λo s=>eI .i64 o λo=>eC s λs y=>eS 2 s λs z u=>eC y λy w=>eT y λy=>eC w λw q=>eBv w λw=>eN q (Aq x m (eO b λq=>eO (ld h q.1 (q.2+x.toNat) 0 6) λq=>eC q λq g=>eI .i64 q λq=>eC g λg i=>eI .i64 g λg=>eC i λi j=>eI .i64 i λi=>eC j λj k=>eS 2 j λj t d=>eC k λk e=>eT k λk=>eC e λe A=>eBv e λe=>eN A (Ai (Ae lo 248 [AD v l o s z u y w,AD q g i j t d k e] h) λv l=>eB v (Bn lo f (Ao (x+1)) a n c b m p l) (AI l)))))) (Bn lo f (Ao (x+1)) a n c b m p h)))) (AI h)))))) (Cc h) :=
 lE
def BC lo a n c x y m b k p d i u h:=
 LA 200 Tryz.f200 221311 0 111 lo ⟨[(2,.lp 2 0),(3,.lp 3 0),(12,.sl 2 a n c),(13,Iv x),(14,Iv y)],[(2,[.sl m b k p]),(3,(Bk d i u))],h⟩
theorem KQ (hk:(Bu (decide ((0:Int)<=0/\(0:Int)<=(n:Int)/\(n:Int)<=140737488355328/\(n:Int)*((48:Nat):Int)<=281474976710656)) (BC lo a n c (n:Int) 0 0 none 0 (some 0) (some (h.length,0)) 0 (some n) (h ++ [.rows 2 47 false (List.replicate n [.sl 0 none 0 (some 0),.sl 0 none 0 (some 0)])])))=some r) :
  Ae lo 200 [Am a n c] h=some r :=
 eK Tryz.func200 hk
theorem BC.e :
  BC lo a n p y x k d i u b m c h=br (decide (x<y)) (Aq x n (eO a λv=>eO (ld h v.1 (v.2+x.toNat) 0 2) λv=>eC v λv l=>eS 6 v λv o s=>eC l λl z=>eS 6 l λl w q=>eN z (Ai (Ae lo 209 [Bh v o s] h) λv o=>eA v λv=>eC v λv s=>eS 6 v λv z g=>eN s (Ai (Ae lo 201 (Bs l w q) o) λl o=>eS 6 l λl s w=>Aw 2 (o ++ [.rows 2 47 false [Kh v z g l s w]]) (.sl 2 (some (o.length,0)) 1 (some 1)) λq=>Dk lo 47 2 48 (.sl 2 b m c) q (o ++ [.rows 2 47 false [Kh v z g l s w]]) λv l=>eS 2 v λv o s=>BC lo a n p y (Ao (x+1)) k d i u v o s l)))) (some ((Am b m c),h)) :=
 lE
def BO lo a n c b m p x y h:=
 LA 201 Tryz.f201 221311 0 111 lo ⟨[(3,.sl 6 a n c),(9,.sl 6 b m p),(10,Iv x),(11,Iv y)],[],h⟩
theorem MA (hk:(Bu (decide ((0:Int)<=0/\(0:Int)<=(n:Int)/\(n:Int)<=140737488355328/\(n:Int)*((72:Nat):Int)<=281474976710656)) (BO lo (some (h.length,0)) 0 (some n) a n c (n:Int) 0 (h ++ [.rows 6 43 false (List.replicate n [Iv 0,Iv 0,Iv 0,.sl 0 none 0 (some 0),.str ⟨⟨[]⟩⟩,.bool false])])))=some r) :
  Ae lo 201 (Bs a n c) h=some r :=
 eK Tryz.func201 hk
theorem BO.e :
  BO lo a n c b m p y x h=br (decide (x<y)) (Aq x m (eO b λv=>eO (ld h v.1 (v.2+x.toNat) 0 6) λv=>eC v λv l=>eI .i64 v λv=>eC l λl o=>eI .i64 l λl=>eC o λo s=>eI .i64 o λo=>eC s λs z=>eS 2 s λs u w=>eC z λz q=>eT z λz=>eC q λq g=>eBv q λq=>eN g (Ai (Ae lo 154 [AD v l o s u w z q] h) λv l=>eA v λv=>eC v λv o=>eI .i64 v λv=>eC o λo s=>eI .i64 o λo=>eC s λs z=>eI .i64 s λs=>eC z λz u=>eS 2 z λz w q=>eC u λu g=>eT u λu=>eC g λg i=>eBv g λg=>eN i (Aw 6 (l ++ [.rows 6 43 false [Cf v o s z w q u g]]) (.sl 6 (some (l.length,0)) 1 (some 1)) λi=>Dk lo 43 6 72 (.sl 6 a n c) i (l ++ [.rows 6 43 false [Cf v o s z w q u g]]) λv l=>eS 6 v λv o s=>BO lo v o s b m p y (Ao (x+1)) l)))) (some (.sl 6 a n c,h)) :=
 lE
theorem Tt (hk:(Ai (Ae h.length 63 (Dh x 0 3) h) λl c=>eB l (Cc c) (AI c))=some (v,h')) (hn:noId v=true:=by rfl) :
  Ae lo 202 (Au x) h=some (v,h) :=
 eD Tryz.func202 hk hn
def C9 lo S f x y h:=
 LA 203 Tryz.f203 22131 0 11 lo ⟨[(0,.str S),(2,.bool f),(5,Iv x),(6,Iv y)],[],h⟩
theorem Rq (hk:(C9 h.length S false ((S.size:Int)) 0 h)=some (v,h')) (hn:noId v=true:=by rfl) :
  Ae lo 203 [.str S] h=some (v,h) :=
 eD Tryz.func203 hk hn
theorem C9.e :
  C9 lo S f y x h=br (decide (x<y)) (eO (O9 S x) λv=>Ai (Ae lo 63 (Dh (Ao ((v.toNat:Int))) 33 126) h) λv l=>eB v (C9 lo S f y (Ao (x+1)) l) (AI l)) (br (decide ((S.size:Int)<=8)) (Cc h) (AI h)) :=
 lE
theorem LD (hk:(eO (ld h m k (i+0) 1) λv=>eC v λv l=>eN l (eS 2 v λv l o=>Aq x l (eO v λv=>eO (ld h v.1 (v.2+x.toNat) 0 1) λl=>eC l λl o=>eS 6 l λl s b=>eN o (Ai (Ae lo 210 [Bh l s b,AD y z t a n c S f] h) λl o=>eB l (eO (ld o v.1 (v.2+x.toNat) 0 1) λl=>eC l λl s=>eN s (eS 6 l λl s b=>Ai (Ae o.length 154 [AD y z t a n c S f] o) λb u=>eA b λb=>eC b λb w=>eI .i64 b λb=>eC w λw p=>eI .i64 w λw=>eC p λp q=>eI .i64 p λp=>eC q λq g=>eS 2 q λq j d=>eC g λg e=>eT g λg=>eC e λe A=>eBv e λe=>eN A (Aq y s (eO l λl=>eO (st lo u l.1 (l.2+y.toNat) 0 (Cf b w p q j d g e)) λl=>eO (ld l m k i 1) λs=>eC s λs b=>eS 2 s λs u w=>eN b (Ai (Ae lo 135 [Am s u w,Iv x] l) λl s=>eB l (some (.tup [],s)) (eO (ld s v.1 (v.2+x.toNat) 1 1) λl=>eC l λl b=>eN b (eS 6 l λl b u=>Ai (Ae s.length 154 [AD y z t a n c S f] s) λs w=>eA s λs=>eC s λs p=>eI .i64 s λs=>eC p λp q=>eI .i64 p λp=>eC q λq g=>eI .i64 q λq=>eC g λg j=>eS 2 g λg d e=>eC j λj A=>eT j λj=>eC A λA B=>eBv A λA=>eN B (Aw 6 (w ++ [.rows 6 43 false [Cf s p q g d e j A]]) (.sl 6 (some (w.length,0)) 1 (some 1)) λB=>Dk lo 43 6 72 (.sl 6 l b u) B (w ++ [.rows 6 43 false [Cf s p q g d e j A]]) λl s=>eS 6 l λl b u=>Ai (Ae lo 205 (Bs l b u) s) λl s=>eS 6 l λl b u=>eO (st lo s v.1 (v.2+x.toNat) 1 (Bs l b u)) λv=>some (.tup [],v))))))))) (some (.tup [],o))))))=some r) :
  Ae lo 204 [Bi m k i,Iv x,AD y z t a n c S f] h=some r :=
 eK Tryz.func204 hk
theorem GB (hk:(AL a n c none (some (Iv (n:Int))) (some (Iv (n:Int))) λv l o=>some (.sl 6 v l o,h))=some r) :
  Ae lo 205 (Bs a n c) h=some r :=
 eK Tryz.func205 hk
theorem Ef (hk:(Ai (Ae h.length 270 [.sl 2 a n c,.fn m l] h) λo s=>eI .i64 o λo=>br (decide (o>=0)) (Cc s) (AI s))=some (v,h')) (hn:noId v=true:=by rfl) :
  Ae lo 206 [.sl 2 a n c,.fn m l] h=some (v,h) :=
 eD Tryz.func206 hk hn
theorem JT (hk:(br (decide ((n:Int)>0)) (Cc h) (AI h))=some (v,h')) (hn:noId v=true:=by rfl) :
  Ae lo 207 [I5 a m c b n p] h=some (v,h) :=
 eD Tryz.func207 hk hn
def Cg lo a n c f x y z h:=
 LA 208 Tryz.f208 22131 0 11 lo ⟨[(0,.sl 6 a n c),(3,.lp 3 0),(4,.bool f),(5,Iv x)],[(3,(BN y z))],h⟩
theorem Ot (hk:(Cg h.length a n c false 0 x y h)=some (v,h')) (hn:noId v=true:=by rfl) :
  Ae lo 208 [.sl 6 a n c,Ax x y] h=some (v,h) :=
 eD Tryz.func208 hk hn
theorem Cg.e :
  Cg lo a n c f x y z h=br (decide (x<(n:Int))) (Aq x n (eO a λv=>eO (ld h v.1 (v.2+x.toNat) 1 2) λv=>eC v λv l=>eI .i64 v λv=>eC l λl o=>eI .i64 l λl=>eN o (br ((v==y)&&((l==z)&&true)) (Cc h) (Cg lo a n c f (Ao (x+1)) y z h)))) (AI h) :=
 lE
theorem KM (hk:(Ai (Ae lo 201 (Bs a n c) h) λv l=>eS 6 v λv o s=>some ((Bh v o s),l))=some r) :
  Ae lo 209 [Bh a n c] h=some r :=
 eK Tryz.func209 hk
theorem Ly (hk:(Aq x n (eO a λl=>eO (ld h l.1 (l.2+x.toNat) 1 2) λl=>eC l λl o=>eI .i64 l λl=>eC o λo s=>eI .i64 o λo=>eN s (Ai (Ae h.length 15 [Ax l o,Ax y z] h) λl o=>eB l (Cc o) (AI o))))=some (v,h')) (hn:noId v=true:=by rfl) :
  Ae lo 210 [Bh a n c,AD x y z b m p S f] h=some (v,h) :=
 eD Tryz.func210 hk hn
theorem ME (hk:(Ai (Ae h.length 234 [.sl 6 a n c,.sl 6 b m p,.fn 155 []] h) λl o=>eB l (Cc o) (AI o))=some (v,h')) (hn:noId v=true:=by rfl) :
  Ae lo 211 [Bh a n c,Bh b m p] h=some (v,h) :=
 eD Tryz.func211 hk hn
theorem OI (hk:(eO (ld h n 0 0 2) λl=>eC l λl o=>eI .i64 l λl=>eC o λo s=>eI .i64 o λo=>eN s (br ((x==l)&&((y==o)&&true)) (Cc h) (AI h)))=some (v,h')) (hn:noId v=true:=by rfl) :
  Ae lo 212 [AD z x y a m c S f,Bi n 0 0] h=some (v,h) :=
 eD Tryz.func212 hk hn
theorem OM (hk:(br (x==x) (AI h) (Cc h))=some (v,h')) (hn:noId v=true:=by rfl) :
  Ae lo 213 (Au x) h=some (v,h) :=
 eD Tryz.func213 hk hn
def AK lo a n c m l x y z h:=
 LA 214 Tryz.f214 22131 0 11 lo ⟨[(0,.sl 2 a n c),(1,.fn m l),(4,Iv x),(7,Iv y),(8,Iv z)],[],h⟩
theorem EX (hk:(AK h.length a n c m l 0 (n:Int) 0 h)=some (v,h')) (hn:noId v=true:=by rfl) :
  Ae lo 214 [.sl 2 a n c,.fn m l] h=some (v,h) :=
 eD Tryz.func214 hk hn
theorem AK.e :
  AK lo a n c m l z y x h=br (decide (x<y)) (Aq x n (eO a λv=>eO (ld h v.1 (v.2+x.toNat) 0 2) λv=>eC v λv o=>eI .i64 v λv=>eC o λo s=>eI .i64 o λo=>eN s (Ai (Ae lo m (Dy [Ax v o] l) h) λv o=>eB v (some (Iv x,o)) (AK lo a n c m l z y (Ao (x+1)) o)))) (some (Iv (-1),h)) :=
 lE
theorem OC {g G:Nat}{e:Pq} (hk:(Ai (Ae lo 44 [Bi n m k,Iv 3] h) λv l=>eI .i64 v λv=>Ai (Ae lo 44 [Bi n m k,Iv 20] l) λl o=>eI .i64 l λl=>br (l==0) (Ai (Ae lo 44 [Bi n m k,Iv 4] o) λx y=>eI .i64 x λx=>Ai (Ae lo 44 [Bi n m k,Iv 4] y) λy z=>eI .i64 y λy=>Ai (Ae lo 269 [Bi n m k] z) λz w=>eT z λz=>some ((BZ 1 x 0 y z false),w)) (br (l==1) (Ai (Ae lo 44 [Bi n m k,Iv 4] o) λx y=>eI .i64 x λx=>Ai (Ae lo 44 [Bi n m k,Iv 4] y) λy z=>eI .i64 y λy=>Ai (Ae lo 269 [Bi n m k] z) λz w=>eT z λz=>some ((BZ 1 x 0 y z false),w)) (br (l==2) (Ai (Ae lo 44 [Bi n m k,Iv 4] o) λx y=>eI .i64 x λx=>Ai (Ae lo 44 [Bi n m k,Iv 4] y) λy z=>eI .i64 y λy=>Ai (Ae lo 269 [Bi n m k] z) λz w=>eT z λz=>some ((BZ 1 x 0 y z false),w)) (br (l==3) (Ai (Ae lo 44 [Bi n m k,Iv 4] o) λx y=>eI .i64 x λx=>Ai (Ae lo 44 [Bi n m k,Iv 4] y) λy z=>eI .i64 y λy=>some ((BZ 1 x 0 y ⟨⟨[]⟩⟩ true),z)) (br (l==4) (Ai (Ae lo 44 [Bi n m k,Iv 4] o) λx y=>eI .i64 x λx=>some ((BZ 2 x 0 0 ⟨⟨[]⟩⟩ false),y)) (br (l==5) (Ai (Ae lo 44 [Bi n m k,Iv 4] o) λx y=>eI .i64 x λx=>some ((BZ 2 x 0 0 ⟨⟨[]⟩⟩ false),y)) (br (l==6) (Ai (Ae lo 44 [Bi n m k,Iv 4] o) λx y=>eI .i64 x λx=>some ((BZ 2 x 0 0 ⟨⟨[]⟩⟩ false),y)) (br (l==7) (Ai (Ae lo 44 [Bi n m k,Iv 4] o) λx y=>eI .i64 x λx=>Ai (Ae lo 44 [Bi n m k,Iv 4] y) λy z=>eI .i64 y λy=>Ai (Ae lo 44 [Bi n m k,Iv 4] z) λz w=>eI .i64 z λz=>some ((BZ 3 x y z ⟨⟨[]⟩⟩ false),w)) (br (l==8) (Ai (Ae lo 44 [Bi n m k,Iv 4] o) λx y=>eI .i64 x λx=>Ai (Ae lo 44 [Bi n m k,Iv 4] y) λy z=>eI .i64 y λy=>Ai (Ae lo 44 [Bi n m k,Iv 4] z) λz w=>eI .i64 z λz=>some ((BZ 3 x y z ⟨⟨[]⟩⟩ false),w)) (br (l==9) (Ai (Ae lo 44 [Bi n m k,Iv 4] o) λx y=>eI .i64 x λx=>Ai (Ae lo 44 [Bi n m k,Iv 4] y) λy z=>eI .i64 y λy=>Ai (Ae lo 44 [Bi n m k,Iv 4] z) λz w=>eI .i64 z λz=>some ((BZ 3 x y z ⟨⟨[]⟩⟩ false),w)) (br (l==10) (Ai (Ae lo 49 [Bi n m k,.sl 1 (some (o.length,0)) 2 (some 2)] (o ++ [.rows 1 3 false [Au 4,Au 5]])) λx y=>eI .i64 x λx=>Ai (Ae lo 44 [Bi n m k,Iv 4] y) λy z=>eI .i64 y λy=>Ai (Ae lo 44 [Bi n m k,Iv 3] z) λz w=>eI .i64 z λz=>some ((BZ x y z 0 ⟨⟨[]⟩⟩ false),w)) (br (l==11) (Ai (Ae lo 49 [Bi n m k,.sl 1 (some (o.length,0)) 4 (some 4)] (o ++ [.rows 1 3 false [Au 0,Au 0,Au 1,Au 2]])) λx y=>eI .i64 x λx=>some ((BZ 6 v x 0 ⟨⟨[]⟩⟩ false),y)) (br (l==12) (Ai (Ae lo 49 [Bi n m k,.sl 1 (some (o.length,0)) 4 (some 4)] (o ++ [.rows 1 3 false [Au 0,Au 0,Au 1,Au 2]])) λx y=>eI .i64 x λx=>some ((BZ 6 v x 0 ⟨⟨[]⟩⟩ false),y)) (br (l==13) (Ai (Ae lo 49 [Bi n m k,.sl 1 (some (o.length,0)) 4 (some 4)] (o ++ [.rows 1 3 false [Au 0,Au 0,Au 1,Au 2]])) λx y=>eI .i64 x λx=>some ((BZ 6 v x 0 ⟨⟨[]⟩⟩ false),y)) (br (l==14) (Ai (Ae lo 49 [Bi n m k,.sl 1 (some (o.length,0)) 2 (some 2)] (o ++ [.rows 1 3 false [Au 7,Au 8]])) λx y=>eI .i64 x λx=>Ai (Ae lo 44 [Bi n m k,Iv 4] y) λy z=>eI .i64 y λy=>some ((BZ x v y 0 ⟨⟨[]⟩⟩ false),z)) (br (l==15) (Ai (Ae lo 44 [Bi n m k,Iv 3] o) λx y=>eI .i64 x λx=>some ((BZ 9 v x 0 ⟨⟨[]⟩⟩ false),y)) (br (l==16) (Ai (Ae lo 44 [Bi n m k,Iv 3] o) λx y=>eI .i64 x λx=>some ((BZ 9 v x 0 ⟨⟨[]⟩⟩ false),y)) (br (l==17) (Ai (Ae lo 44 [Bi n m k,Iv 3] o) λx y=>eI .i64 x λx=>Aq x i (eO a λz=>eO (ld y z.1 (z.2+x.toNat) 4 1) λz=>eC z λz w=>eN w (eS 1 z λz w q=>Aq v w (eO z λz=>eO (ld y z.1 (z.2+v.toNat) 0 1) λz=>eC z λz w=>eN w (eS 6 z λz z w=>some ((BZ 10 v x (z:Int) ⟨⟨[]⟩⟩ false),y)))))) (br (l==18) (Ai (Ae lo 44 [Bi n m k,Iv 3] o) λl x=>eI .i64 l λl=>Aq l i (eO a λy=>eO (ld x y.1 (y.2+l.toNat) 4 1) λy=>eC y λy z=>eN z (eS 1 y λy z w=>Aq v z (eO y λy=>eO (ld x y.1 (y.2+v.toNat) 0 1) λy=>eC y λy z=>eN z (eS 6 y λy y z=>some ((BZ 10 v l (y:Int) ⟨⟨[]⟩⟩ false),x)))))) (Ai (Ae lo 49 [Bi n m k,.sl 1 (some (o.length,0)) 7 (some 7)] (o ++ [.rows 1 3 false [Au 11,Au 11,Au 11,Au 12,Au 13,Au 0,Au 14]])) λv l=>eI .i64 v λv=>Ai (Ae lo 44 [Bi n m k,Iv 3] l) λl o=>eI .i64 l λl=>some ((BZ v l 0 0 ⟨⟨[]⟩⟩ false),o)))))))))))))))))))))=some r) :
  Ae lo 215 [Bi n m k,Av a i c b j p d g u e G s] h=some r :=
 eK Tryz.func215 hk
theorem Th (hk:(Ai (Ae h.length 271 (Au y) h) λv l=>eA v λv=>eC v λv c=>eS 2 v λv n a=>eN c (some (.agg [Iv x,Iv 0,.sl 2 v n a,.sl 0 none 0 (some 0),.sl 1 (some (l.length,0)) 3 (some 3),.bool false],(l ++ [.rows 1 26 false [[.sl 0 none 0 (some 0)],[.sl 0 none 0 (some 0)],[.sl 0 none 0 (some 0)]]]))))=some r) :
  Ae lo 216 (BN x y) h=some r :=
 eK Tryz.func216 hk
def Gw lo x y n a m c b k p h:=
 LA 217 Tryz.f217 2213111 0 1111 lo ⟨[(2,.lp 2 0),(3,.lp 3 0),(11,Iv x),(12,Iv y)],[(2,[.sl n a m c]),(3,(Bk b k p))],h⟩
theorem Gw.e :
  Gw lo x y m b k p a n c h=br (decide (y<x)) (Ai (Ae lo 272 [] h) λv l=>eA v λv=>eC v λv o=>eS 6 v λv s z=>eN o (Aw 2 (l ++ [.rows 2 47 false [[.sl 6 v s z,.sl 0 none 0 (some 0)]]]) (.sl 2 (some (l.length,0)) 1 (some 1)) λo=>Dk lo 47 2 48 (.sl 2 a n c) o (l ++ [.rows 2 47 false [[.sl 6 v s z,.sl 0 none 0 (some 0)]]]) λv l=>eS 2 v λv o s=>Gw lo x (Ao (y+1)) m b k p v o s l)) (some ((Am a n c),h)) :=
 lE
def FC lo n m k a i c x y z t w q S f h:=
 LA 221 Tryz.f221 22131111 0 11111 lo ⟨[(0,(Bi n m k)),(5,.lp 5 0),(39,.sl 2 a i c),(40,Iv x),(41,Iv y)],[(5,(Qc z t w q S f))],h⟩
theorem FC.e {q:Int} :
  FC lo n m k a i c y x t z w q S f h=br (decide (x<y)) (Aq x i (eO a λv=>eO (ld h v.1 (v.2+x.toNat) 0 2) λv=>eC v λv l=>eI .i64 v λv=>eC l λl o=>eI .i64 l λl=>eN o (Ai (Ae lo 274 [Bi n m k,Iv z,Iv 2,Iv x,Ax v l] h) λv l=>eU v λv=>eN v (FC lo n m k a i c y (Ao (x+1)) t z w q S f l)))) (Cc h) :=
 lE
theorem GC (hk:(AL a n c none (some (Iv (n:Int))) (some (Iv (n:Int))) λv l o=>some (.sl 2 v l o,h))=some r) :
  Ae lo 229 (Bk a n c) h=some r :=
 eK Tryz.func229 hk
theorem DE (hk:(br (a.isNone) (some (.sl 0 none 0 (some 0),h)) (Aw 2 (h ++ [.rows 2 36 false []]) (.sl 2 a n c) λv=>Dk lo 36 2 16 (.sl 2 (some (h.length,0)) 0 (some 0)) v (h ++ [.rows 2 36 false []]) λv l=>eS 2 v λv o s=>some (.sl 2 v o s,l)))=some r) :
  Ae lo 230 (Bk a n c) h=some r :=
 eK Tryz.func230 hk
def AS lo a n c b m p f x y h:=
 LA 231 Tryz.f231 221311 0 111 lo ⟨[(0,.sl 2 a n c),(1,.sl 2 b m p),(4,.bool f),(12,Iv x),(13,Iv y)],[],h⟩
theorem Gy (hk:(br ((n:Int)==(m:Int)) (AS h.length a n c b m p false (n:Int) 0 h) (AI h))=some (v,h')) (hn:noId v=true:=by rfl) :
  Ae lo 231 [.sl 2 a n c,.sl 2 b m p] h=some (v,h) :=
 eD Tryz.func231 hk hn
theorem AS.e :
  AS lo a n c b m p f y x h=br (decide (x<y)) (Aq x n (eO a λv=>eO (ld h v.1 (v.2+x.toNat) 0 2) λv=>eC v λv l=>eI .i64 v λv=>eC l λl o=>eI .i64 l λl=>eN o (Aq x m (eO b λo=>eO (ld h o.1 (o.2+x.toNat) 0 2) λo=>eC o λo s=>eI .i64 o λo=>eC s λs z=>eI .i64 s λs=>eN z (br ((v==o)&&((l==s)&&true)) (AS lo a n c b m p f y (Ao (x+1)) h) (AI h)))))) (Cc h) :=
 lE
def A5 lo a n c m b k p f x y h:=
 LA 231 Tryz.f231 221311 0 111 lo ⟨[(0,.sl 2 a n c),(1,.sl m b k p),(4,.bool f),(12,Iv x),(13,Iv y)],[],h⟩
theorem FE (hk:(br ((n:Int)==((0:Nat):Int)) (A5 h.length a n c 0 none 0 (some 0) false (n:Int) 0 h) (AI h))=some (v,h')) (hn:noId v=true:=by rfl) :
  Ae lo 231 [.sl 2 a n c,.sl 0 none 0 (some 0)] h=some (v,h) :=
 eD Tryz.func231 hk hn
theorem A5.e :
  A5 lo a n c m b k p f y x h=br (decide (x<y)) (Aq x n (eO a λv=>eO (ld h v.1 (v.2+x.toNat) 0 2) λv=>eC v λv l=>eI .i64 v λv=>eC l λl o=>eI .i64 l λl=>eN o (Aq x k (eO b λo=>Bu ((m.beq (2:Nat))&&true) (eO (ld h o.1 (o.2+x.toNat) 0 2) λo=>eC o λo s=>eI .i64 o λo=>eC s λs z=>eI .i64 s λs=>eN z (br ((v==o)&&((l==s)&&true)) (A5 lo a n c m b k p f y (Ao (x+1)) h) (AI h))))))) (Cc h) :=
 lE
def Ar lo a n c m l f b k p x y h:=
 LA 234 Tryz.f234 221311 0 111 lo ⟨[(1,.sl 6 a n c),(2,.fn m l),(6,.bool f),(15,.sl 6 b k p),(16,Iv x),(17,Iv y)],[],h⟩
theorem Da (hk:(br ((n:Int)==(m:Int)) (Ar h.length b m p k l false a n c (n:Int) 0 h) (AI h))=some (v,h')) (hn:noId v=true:=by rfl) :
  Ae lo 234 [.sl 6 a n c,.sl 6 b m p,.fn k l] h=some (v,h) :=
 eD Tryz.func234 hk hn
theorem Ar.e {lo n m k:Nat}{a b:Pq}{c p:Nq}{l:List V}{f:Bool}{y x:Int}{h:Heap} :
  Ar lo a n c m l f b k p y x h=br (decide (x<y)) (Aq x k (eO b λv=>eO (ld h v.1 (v.2+x.toNat) 0 6) λv=>eC v λv o=>eI .i64 v λv=>eC o λo s=>eI .i64 o λo=>eC s λs z=>eI .i64 s λs=>eC z λz u=>eS 2 z λz w q=>eC u λu g=>eT u λu=>eC g λg i=>eBv g λg=>eN i (Aq x n (eO a λi=>eO (ld h i.1 (i.2+x.toNat) 0 6) λi=>eC i λi j=>eI .i64 i λi=>eC j λj t=>eI .i64 j λj=>eC t λt d=>eI .i64 t λt=>eC d λd e=>eS 2 d λd A B=>eC e λe C=>eT e λe=>eC C λC D=>eBv C λC=>eN D (Ai (Ae lo m (Dy [AD v o s z w q u g,AD i j t d A B e C] l) h) λv o=>eB v (Ar lo a n c m l f b k p y (Ao (x+1)) o) (AI o)))))) (Cc h) :=
 lE
def Bz lo a n c m l x y z h:=
 LA 235 Tryz.f235 22131 0 11 lo ⟨[(0,.sl 5 a n c),(1,.fn m l),(4,Iv x),(7,Iv y),(8,Iv z)],[],h⟩
theorem Bz.e :
  Bz lo a n c m l z y x h=br (decide (x<y)) (Aq x n (eO a λv=>eO (ld h v.1 (v.2+x.toNat) 0 5) λv=>eC v λv o=>eI .i64 v λv=>eC o λo s=>eS 2 o λo b u=>eC s λs w=>eI .i64 s λs=>eC w λw p=>eI .i64 w λw=>eC p λp q=>eI .i64 p λp=>eN q (Ai (Ae lo m (Dy [R3 v o b u s w p] l) h) λv o=>eB v (some (Iv x,o)) (Bz lo a n c m l z y (Ao (x+1)) o)))) (some (Iv (-1),h)) :=
 lE
def Br lo a n c m l x y z h:=
 LA 236 Tryz.f236 22131 0 11 lo ⟨[(0,.sl 9 a n c),(1,.fn m l),(4,Iv x),(7,Iv y),(8,Iv z)],[],h⟩
theorem Br.e :
  Br lo a n c m l z y x h=br (decide (x<y)) (Aq x n (eO a λv=>eO (ld h v.1 (v.2+x.toNat) 0 9) λv=>eC v λv o=>eI .i64 v λv=>eC o λo s=>eI .i64 o λo=>eC s λs b=>eI .i64 s λs=>eC b λb u=>eI .i64 b λb=>eC u λu w=>eI .i64 u λu=>eC w λw p=>eI .i64 w λw=>eC p λp q=>eS 2 p λp g i=>eC q λq j=>eT q λq=>eC j λj k=>eBv j λj=>eN k (Ai (Ae lo m (Dy [R4 v o s b u w p g i q j] l) h) λv o=>eB v (some (Iv x,o)) (Br lo a n c m l z y (Ao (x+1)) o)))) (some (Iv (-1),h)) :=
 lE
def HE lo a n c b m p f x h:=
 LA 238 Tryz.f238 221311 0 111 lo ⟨[(0,.sl 6 a n c),(1,.sl 6 b m p),(4,.bool f),(5,Iv x)],[],h⟩
theorem HE.e {lo n m:Nat}{a b:Pq}{c p:Nq}{f:Bool}{x:Int}{h:Heap} :
  HE lo a n c b m p f x h=br (decide (x<(n:Int))) (Aq x n (eO a λv=>eO (ld h v.1 (v.2+x.toNat) 0 6) λv=>eC v λv l=>eI .i64 v λv=>eC l λl o=>eI .i64 l λl=>eC o λo s=>eI .i64 o λo=>eC s λs y=>eS 2 s λs z u=>eC y λy w=>eT y λy=>eC w λw q=>eBv w λw=>eN q (Aq x m (eO b λq=>eO (ld h q.1 (q.2+x.toNat) 0 6) λq=>eC q λq g=>eI .i64 q λq=>eC g λg i=>eI .i64 g λg=>eC i λi j=>eI .i64 i λi=>eC j λj k=>eS 2 j λj t d=>eC k λk e=>eT k λk=>eC e λe A=>eBv e λe=>eN A (Ai (Ae lo 242 [AD v l o s z u y w,AD q g i j t d k e] h) λv l=>eB v (HE lo a n c b m p f (Ao (x+1)) l) (AI l)))))) (Cc h) :=
 lE
def G9 lo a n c b m p f x h:=
 LA 239 Tryz.f239 221311 0 111 lo ⟨[(0,.sl 1 a n c),(1,.sl 1 b m p),(4,.bool f),(5,Iv x)],[],h⟩
theorem G9.e :
  G9 lo a n c b m p f x h=br (decide (x<(n:Int))) (Aq x n (eO a λv=>eO (ld h v.1 (v.2+x.toNat) 0 1) λv=>eC v λv l=>eN l (eS 6 v λv l o=>Aq x m (eO b λs=>eO (ld h s.1 (s.2+x.toNat) 0 1) λs=>eC s λs y=>eN y (eS 6 s λs y z=>Ai (Ae lo 238 (Kh v l o s y z) h) λv l=>eB v (G9 lo a n c b m p f (Ao (x+1)) l) (AI l)))))) (Cc h) :=
 lE
def HD lo a n c x y z h:=
 LA 244 Tryz.f244 2213111 0 1111 lo ⟨[(0,.sl 6 a n c),(1,Iv x),(4,Iv y),(5,Iv z)],[],h⟩
theorem HD.e :
  HD lo a n c y z x h=br (decide (x<(n:Int))) (Aq x n (eO a λv=>eO (ld h v.1 (v.2+x.toNat) 0 6) λv=>eC v λv l=>eI .i64 v λv=>eC l λl o=>eI .i64 l λl=>eC o λo s=>eI .i64 o λo=>eC s λs b=>eS 2 s λs u w=>eC b λb p=>eT b λb=>eC p λp q=>eBv p λp=>eN q (Ai (Ae lo 247 [AD v l o s u w b p,Iv y] h) λv l=>eI .i64 v λv=>br (decide (v<0)) (some (Iv (-1),l)) (HD lo a n c v z (Ao (x+1)) l)))) (some (Iv y,h)) :=
 lE
def GZ lo a n c x y z h:=
 LA 245 Tryz.f245 2213111 0 1111 lo ⟨[(0,.sl 1 a n c),(1,Iv x),(4,Iv y),(5,Iv z)],[],h⟩
theorem GZ.e :
  GZ lo a n c y z x h=br (decide (x<(n:Int))) (Aq x n (eO a λv=>eO (ld h v.1 (v.2+x.toNat) 0 1) λv=>eC v λv l=>eN l (eS 6 v λv l o=>Ai (Ae lo 244 [.sl 6 v l o,Iv y] h) λv l=>eI .i64 v λv=>br (decide (v<0)) (some (Iv (-1),l)) (GZ lo a n c v z (Ao (x+1)) l)))) (some (Iv y,h)) :=
 lE
theorem Re {q:Int}{s0:ByteArray}{F:Bool} (hk:(Ai (Ae h.length 286 [AD x y z a n c S f] h) λl o=>eT l λl=>Ai (Ae h.length 286 [AD t w q b m p s0 F] o) λo s=>eT o λo=>br (l.toList==o.toList) (Cc s) (AI s))=some (v,h')) (hn:noId v=true:=by rfl) :
  Ae lo 248 [AD x y z a n c S f,AD t w q b m p s0 F] h=some (v,h) :=
 eD Tryz.func248 hk hn
theorem Qh {e:Pq} (hk:(Aq x n (eO a λv=>eO (ld h v.1 (v.2+x.toNat) 0 5) λv=>eC v λv l=>eI .i64 v λv=>eC l λl o=>eS 2 l λl w q=>eC o λo g=>eI .i64 o λo=>eC g λg j=>eI .i64 g λg=>eC j λg j=>eI .i64 g λg=>eN j (Aq v m (eO b λg=>eO (ld h g.1 (g.2+v.toNat) 0 6) λg=>eC g λg j=>eI .i64 g λg=>eC j λj A=>eI .i64 j λj=>eC A λA B=>eS 2 A λA C D=>eC B λB E=>eS 6 B λB G H=>eC E λE J=>eS 1 E λE K L=>eC J λJ M=>eBv J λJ=>eN M (br (decide (o>0)) (some (.tup [Av b m c a n p d i u e k s,.bool false],h)) (Ai (Ae lo 54 (Dh y 0 3) h) λo M=>eB o (Ai (Ae lo 55 [.str S] M) λo N=>eB o (br f (br (S.toList==(ByteArray.mk #[]).toList) (Ai (Ae lo 57 [Al g j A C D B G H E K L J,Am l w q] N) λo O=>eB o (br (decide ((k:Int)>=80)) (some (.tup [Av b m c a n p d i u e k s,.bool false],O)) (Ai (Ae lo 59 [Al g j A C D B G H E K L J,Iv y,.str S,.bool true,Am l w q] O) λo P=>eU o λo=>eC o λo Q=>eA o λo=>eC o λo U=>eI .i64 o λo=>eC U λU W=>eI .i64 U λU=>eC W λW Y=>eS 2 W λW Z v0=>eC Y λY v1=>eS 6 Y λY v2 v3=>eC v1 λv1 v4=>eS 1 v1 λv1 v5 v6=>eC v4 λv4 v7=>eBv v4 λv4=>eN v7 (eC Q λQ v7=>eA Q λQ=>eC Q λQ v8=>eI .i64 Q λQ=>eC v8 λv8 v9=>eI .i64 v8 λv8=>eN v9 (eN v7 (Aq v m (eO b λv7=>eO (st lo P v7.1 (v7.2+v.toNat) 0 (CB o U W Z v0 Y v2 v3 v1 v5 v6 v4)) λo=>Aq x n (eO a λP=>eO (st lo o P.1 (P.2+x.toNat) 2 (BN Q v8)) λo=>Aq x n (eO a λP=>eO (st lo o P.1 (P.2+x.toNat) 4 (Au y)) λo=>Ai (Ae lo 287 [Av b m c a n p d i u e k s,Iv x,Iv 1,Iv y,Ax Q v8] o) λo P=>eA o λo=>eC o λo Q=>eS 6 o λo U W=>eC Q λQ Y=>eS 5 Q λQ Z v0=>eC Y λY v1=>eS 9 Y λY v2 v3=>eC v1 λv1 v4=>eS 5 v1 λv1 v5 v6=>eN v4 (some (.tup [Av o U W Q Z v0 Y v2 v3 v1 v5 v6,.bool true],P)))))))))) (some (.tup [Av b m c a n p d i u e k s,.bool false],O))) (some (.tup [Av b m c a n p d i u e k s,.bool false],N))) (Ai (Ae lo 57 [Al g j A C D B G H E K L J,Am l w q] N) λo O=>eB o (br (decide ((k:Int)>=80)) (some (.tup [Av b m c a n p d i u e k s,.bool false],O)) (Ai (Ae lo 59 [Al g j A C D B G H E K L J,Iv y,.str S,.bool false,Am l w q] O) λl o=>eU l λl=>eC l λl w=>eA l λl=>eC l λl q=>eI .i64 l λl=>eC q λq g=>eI .i64 q λq=>eC g λg j=>eS 2 g λg A B=>eC j λj C=>eS 6 j λj D E=>eC C λC G=>eS 1 C λC H J=>eC G λG K=>eBv G λG=>eN K (eC w λw K=>eA w λw=>eC w λw L=>eI .i64 w λw=>eC L λL P=>eI .i64 L λL=>eN P (eN K (Aq v m (eO b λK=>eO (st lo o K.1 (K.2+v.toNat) 0 (CB l q g A B j D E C H J G)) λv=>Aq x n (eO a λl=>eO (st lo v l.1 (l.2+x.toNat) 2 (BN w L)) λv=>Aq x n (eO a λl=>eO (st lo v l.1 (l.2+x.toNat) 4 (Au y)) λv=>Ai (Ae lo 287 [Av b m c a n p d i u e k s,Iv x,Iv 1,Iv y,Ax w L] v) λv l=>eA v λv=>eC v λv o=>eS 6 v λv w q=>eC o λo g=>eS 5 o λo j A=>eC g λg B=>eS 9 g λg C D=>eC B λB E=>eS 5 B λB G H=>eN E (some (.tup [Av v w q o j A g C D B G H,.bool true],l)))))))))) (some (.tup [Av b m c a n p d i u e k s,.bool false],O)))) (some (.tup [Av b m c a n p d i u e k s,.bool false],N))) (some (.tup [Av b m c a n p d i u e k s,.bool false],M))))))))=some r) :
  Ae lo 249 [Av b m c a n p d i u e k s,BZ z x t y S f] h=some r :=
 by cases f<;>exact eK Tryz.func249 hk
theorem Tf {e:Pq} (hk:(Aq x n (eO a λv=>eO (ld h v.1 (v.2+x.toNat) 0 5) λv=>eC v λv l=>eI .i64 v λv=>eC l λl o=>eS 2 l λl w q=>eC o λo g=>eI .i64 o λo=>eC g λg j=>eI .i64 g λg=>eC j λj A=>eI .i64 j λj=>eN A (br (o==0) (some (.tup [Av b k c a n p d i u e m s,.bool false],h)) (Aq v k (eO b λA=>eO (ld h A.1 (A.2+v.toNat) 2 1) λv=>eC v λv A=>eS 2 v λv B C=>eN A (Ai (Ae lo 288 [Am v B C,Iv 0,Iv j] h) λA C=>eA A λA=>eC A λA D=>eI .i64 A λA=>eC D λA D=>eI .i64 A λA=>eC D λD E=>eI .i64 D λD=>eC E λE G=>eS 2 E λE E E=>eC G λE G=>eT E λE=>eC G λE G=>eBv E λE=>eN G (Aq 0 B (eO v λv=>eO (ld C v.1 (v.2+0) 0 1) λv=>eC v λv B=>eN B (eS 6 v λv B E=>Aq j B (eO v λv=>eO (ld C v.1 (v.2+j.toNat) 1 2) λv=>eC v λv B=>eI .i64 v λv=>eC B λB E=>eI .i64 B λB=>eN E (Ai (Ae lo 197 [Ax A D,Ax o g] C) λC E=>eB C (Ai (Ae lo 197 [Ax v B,Ax o g] E) λv B=>eB v (Ai (Ae lo 197 [Ax A D,Ax o g] B) λv C=>eB v (Ai (Ae lo 197 [Ax A D,Ax o g] C) λv G=>eB v (Aq x n (eO a λv=>eO (st lo G v.1 (v.2+x.toNat) 2 (BN 0 0)) λv=>Aq x n (eO a λH=>eO (st lo v H.1 (H.2+x.toNat) 4 (Au 0)) λv=>some (.tup [Av b k c a n p d i u e m s,.bool true],v)))) (Ai (Ae lo 289 [Am l w q,Iv j,Ax o g] G) λv G=>eA v λv=>eC v λv H=>eS 2 v λv J K=>eN H (Aq x n (eO a λH=>eO (st lo G H.1 (H.2+x.toNat) 1 (Bk v J K)) λv=>Ai (Ae lo 287 [Av b k c a n p d i u e m s,Iv x,Iv 3,Iv j,Ax o g] v) λv G=>eA v λv=>eC v λv H=>eS 6 v λv J K=>eC H λH L=>eS 5 H λH M N=>eC L λL O=>eS 9 L λL P Q=>eC O λO U=>eS 5 O λO W Y=>eN U (Aq x M (eO H λU=>eO (st lo G U.1 (U.2+x.toNat) 2 (BN 0 0)) λG=>Aq x M (eO H λU=>eO (st lo G U.1 (U.2+x.toNat) 4 (Au 0)) λG=>some (.tup [Av v J K H M N L P Q O W Y,.bool true],G)))))))) (br (decide ((m:Int)>=80)) (some (.tup [Av b k c a n p d i u e m s,.bool false],C)) (Ai (Ae lo 197 [Ax A D,Ax o g] C) λv C=>eB v (Aq x n (eO a λv=>eO (st lo C v.1 (v.2+x.toNat) 2 (BN 0 0)) λv=>Aq x n (eO a λG=>eO (st lo v G.1 (G.2+x.toNat) 4 (Au 0)) λv=>some (.tup [Av b k c a n p d i u e m s,.bool true],v)))) (Ai (Ae lo 289 [Am l w q,Iv j,Ax o g] C) λv C=>eA v λv=>eC v λv G=>eS 2 v λv H J=>eN G (Aq x n (eO a λG=>eO (st lo C G.1 (G.2+x.toNat) 1 (Bk v H J)) λv=>Ai (Ae lo 287 [Av b k c a n p d i u e m s,Iv x,Iv 3,Iv j,Ax o g] v) λv C=>eA v λv=>eC v λv G=>eS 6 v λv H J=>eC G λG K=>eS 5 G λG L M=>eC K λK N=>eS 9 K λK O P=>eC N λN Q=>eS 5 N λN U W=>eN Q (Aq x L (eO G λQ=>eO (st lo C Q.1 (Q.2+x.toNat) 2 (BN 0 0)) λC=>Aq x L (eO G λQ=>eO (st lo C Q.1 (Q.2+x.toNat) 4 (Au 0)) λC=>some (.tup [Av v H J G L M K O P N U W,.bool true],C)))))))))) (some (.tup [Av b k c a n p d i u e m s,.bool false],B))) (Ai (Ae lo 197 [Ax A D,Ax o g] E) λv B=>eB v (Ai (Ae lo 197 [Ax A D,Ax o g] B) λv C=>eB v (Aq x n (eO a λv=>eO (st lo C v.1 (v.2+x.toNat) 2 (BN 0 0)) λv=>Aq x n (eO a λE=>eO (st lo v E.1 (E.2+x.toNat) 4 (Au 0)) λv=>some (.tup [Av b k c a n p d i u e m s,.bool true],v)))) (Ai (Ae lo 289 [Am l w q,Iv j,Ax o g] C) λv C=>eA v λv=>eC v λv E=>eS 2 v λv G H=>eN E (Aq x n (eO a λE=>eO (st lo C E.1 (E.2+x.toNat) 1 (Bk v G H)) λv=>Ai (Ae lo 287 [Av b k c a n p d i u e m s,Iv x,Iv 3,Iv j,Ax o g] v) λv C=>eA v λv=>eC v λv E=>eS 6 v λv G H=>eC E λE J=>eS 5 E λE K L=>eC J λJ M=>eS 9 J λJ N O=>eC M λM P=>eS 5 M λM Q U=>eN P (Aq x K (eO E λP=>eO (st lo C P.1 (P.2+x.toNat) 2 (BN 0 0)) λC=>Aq x K (eO E λP=>eO (st lo C P.1 (P.2+x.toNat) 4 (Au 0)) λC=>some (.tup [Av v G H E K L J N O M Q U,.bool true],C)))))))) (br (decide ((m:Int)>=80)) (some (.tup [Av b k c a n p d i u e m s,.bool false],B)) (Ai (Ae lo 197 [Ax A D,Ax o g] B) λv A=>eB v (Aq x n (eO a λv=>eO (st lo A v.1 (v.2+x.toNat) 2 (BN 0 0)) λv=>Aq x n (eO a λB=>eO (st lo v B.1 (B.2+x.toNat) 4 (Au 0)) λv=>some (.tup [Av b k c a n p d i u e m s,.bool true],v)))) (Ai (Ae lo 289 [Am l w q,Iv j,Ax o g] A) λv l=>eA v λv=>eC v λv w=>eS 2 v λv q A=>eN w (Aq x n (eO a λw=>eO (st lo l w.1 (w.2+x.toNat) 1 (Bk v q A)) λv=>Ai (Ae lo 287 [Av b k c a n p d i u e m s,Iv x,Iv 3,Iv j,Ax o g] v) λv l=>eA v λv=>eC v λv o=>eS 6 v λv w q=>eC o λo g=>eS 5 o λo j A=>eC g λg B=>eS 9 g λg C D=>eC B λB E=>eS 5 B λB G H=>eN E (Aq x j (eO o λE=>eO (st lo l E.1 (E.2+x.toNat) 2 (BN 0 0)) λl=>Aq x j (eO o λE=>eO (st lo l E.1 (E.2+x.toNat) 4 (Au 0)) λl=>some (.tup [Av v w q o j A g C D B G H,.bool true],l)))))))))))))))))))))=some r) :
  Ae lo 250 [Av b k c a n p d i u e m s,BZ y x z t S f] h=some r :=
 eK Tryz.func250 hk
theorem QR {e:Pq} (hk:(Aq y n (eO a λv=>eO (ld h v.1 (v.2+y.toNat) 0 5) λv=>eC v λv l=>eI .i64 v λv=>eC l λl o=>eS 2 l λl w q=>eC o λo g=>eI .i64 o λo=>eC g λg j=>eI .i64 g λg=>eC j λg j=>eI .i64 g λg=>eN j (Aq v m (eO b λg=>eO (ld h g.1 (g.2+v.toNat) 2 1) λv=>eC v λv g=>eS 2 v λv j A=>eN g (br (decide (o>0)) (some (.tup [Av b m c a n p d i u e k s,.bool false],h)) (Ai (Ae lo 54 (Dh x 0 3) h) λo g=>eB o (Ai (Ae lo 54 (Dh z 0 (Ao ((j:Int) - 1))) g) λo B=>eB o (br (decide ((k:Int)>=80)) (some (.tup [Av b m c a n p d i u e k s,.bool false],B)) (Ai (Ae lo 288 [Am v j A,Iv z,Iv x] B) λv o=>eA v λv=>eC v λv j=>eI .i64 v λv=>eC j λv j=>eI .i64 v λv=>eC j λj A=>eI .i64 j λj=>eC A λA C=>eS 2 A λA D E=>eC C λC G=>eT C λC=>eC G λC G=>eBv C λC=>eN G (Aq x w (eO l λC=>eO (ld o C.1 (C.2+x.toNat) 0 2) λC=>eC C λC G=>eI .i64 C λC=>eC G λG H=>eI .i64 G λG=>eN H (Ai (Ae lo 197 [Ax v j,Ax C G] o) λo C=>eB o (some (.tup [Av b m c a n p d i u e k s,.bool false],C)) (br (decide (v>0)) (Ai (Ae lo 290 [Am l w q,Am A D E] C) λl o=>eA l λl=>eC l λl w=>eS 2 l λl q A=>eN w (Ai (Ae lo 289 [Am l q A,Iv x,Ax v j] o) λl o=>eA l λl=>eC l λl w=>eS 2 l λl q A=>eN w (Aq y n (eO a λw=>eO (st lo o w.1 (w.2+y.toNat) 1 (Bk l q A)) λl=>Ai (Ae lo 287 [Av b m c a n p d i u e k s,Iv y,Iv 2,Iv x,Ax v j] l) λl o=>eA l λl=>eC l λl w=>eS 6 l λl q A=>eC w λw D=>eS 5 w λw E G=>eC D λD H=>eS 9 D λD J K=>eC H λH L=>eS 5 H λH M N=>eN L (some (.tup [Av l q A w E G D J K H M N,.bool true],o)))))) (Ai (Ae lo 287 [Av b m c a n p d i u e k s,Iv y,Iv 2,Iv x,Ax v j] C) λv l=>eA v λv=>eC v λv o=>eS 6 v λv w q=>eC o λo j=>eS 5 o λo A C=>eC j λj D=>eS 9 j λj E G=>eC D λD H=>eS 5 D λD J K=>eN H (some (.tup [Av v w q o A C j E G D J K,.bool true],l))))))))) (some (.tup [Av b m c a n p d i u e k s,.bool false],B))) (some (.tup [Av b m c a n p d i u e k s,.bool false],g))))))))=some r) :
  Ae lo 251 [Av b m c a n p d i u e k s,BZ t y z x S f] h=some r :=
 eK Tryz.func251 hk
def Dq lo x a n c b m p d k u e i s y z t w S f j A g C G B H D J a0 P c0 n0 a1 n1 c1 a2 n2 c2 h:=
 LA 252 Tryz.f252 221311111 0 111111 lo ⟨[(2,.lp 2 0),(3,.lp 3 0),(4,.lp 4 0),(8,.lp 8 0),(9,Iv x)],[(2,(DC a n c b m p d k u e i s)),(3,(Qc y z t w S f)),(4,[.sl j A g C,.sl G B H D,.sl J a0 P c0,.sl n0 a1 n1 c1]),(8,(Bs a2 n2 c2))],h⟩
theorem Tg {e:Pq} (hk:(Aq x m (eO b λv=>eO (ld h v.1 (v.2+x.toNat) 0 5) λv=>eC v λv l=>eI .i64 v λv=>eC l λl o=>eS 2 l λl w q=>eC o λo g=>eI .i64 o λo=>eC g λg j=>eI .i64 g λg=>eC j λg j=>eI .i64 g λg=>eN j (Aq v n (eO a λg=>eO (ld h g.1 (g.2+v.toNat) 2 1) λv=>eC v λv g=>eS 2 v λv j A=>eN g (Aq (Ao ((j:Int) - 1)) j (eO v λv=>eO (ld h v.1 (v.2+((Ao ((j:Int) - (1:Int))).toNat)) 0 1) λv=>eC v λv g=>eS 6 v λv j A=>eN g (br (decide (o>0)) (some (.tup [Av a n c b m p d i u e k s,.bool false],h)) (Ai (Ae h.length 114 [Bh v j A] h) λo g=>eA o λo=>eC o λo B=>eS 2 o λo C D=>eN B (Ai (Ae lo 124 [Am l w q,Am o C D] g) λl o=>eB l (br (decide (Ao ((k:Int)+(4:Int))>80)) (some (.tup [Av a n c b m p d i u e k s,.bool false],o)) (Dq lo 0 a n c b m p d i u e k s y x z t S f 0 none 0 (some 0) 0 none 0 (some 0) 0 none 0 (some 0) 0 none 0 (some 0) v j A o)) (some (.tup [Av a n c b m p d i u e k s,.bool false],o)))))))))))=some r) :
  Ae lo 252 [Av a n c b m p d i u e k s,BZ y x z t S f] h=some r :=
 eK Tryz.func252 hk
theorem Dq.e {lo k n i j g G H J P n0 n1 n2 m:Nat}{x z y t w:Int}{d a A B a0 a1 a2 a3 b:Pq}{c p u s C D c0 c1 c2:Nq}{S:ByteArray}{f:Bool}{h:Heap} :
  Dq lo x d k c a n p A i u B j s z y t w S f g a0 G C H a1 J D P a2 n0 c0 n1 a3 n2 c1 b m c2 h=br (decide (x<4)) (Aq y n (eO a λv=>eO (ld h v.1 (v.2+y.toNat) 1 1) λv=>eC v λv l=>eS 2 v λv o q=>eN l (Aq x m (eO b λl=>eO (ld h l.1 (l.2+x.toNat) 1 2) λl=>eC l λl e=>eI .i64 l λl=>eC e λe E=>eI .i64 e λe=>eN E (Ai (Ae lo 289 [Am v o q,Iv x,Ax l e] h) λv l=>eA v λv=>eC v λv o=>eS 2 v λv q e=>eN o (Aq y n (eO a λo=>eO (st lo l o.1 (o.2+y.toNat) 1 (Bk v q e)) λv=>Aq x m (eO b λl=>eO (ld v l.1 (l.2+x.toNat) 1 2) λl=>eC l λl o=>eI .i64 l λl=>eC o λo q=>eI .i64 o λo=>eN q (Ai (Ae lo 287 [Av d k c a n p A i u B j s,Iv y,Iv 2,Iv x,Ax l o] v) λv l=>eA v λv=>eC v λv o=>eS 6 v λv q e=>eC o λo E=>eS 5 o λo K L=>eC E λE M=>eS 9 E λE N O=>eC M λM Q=>eS 5 M λM U W=>eN Q (Dq lo (Ao (x+1)) v q e o K L E N O M U W z y t w S f g a0 G C H a1 J D P a2 n0 c0 n1 a3 n2 c1 b m c2 l)))))))))) (some (.tup [Av d k c a n p A i u B j s,.bool true],h)) :=
 lE
theorem Tk (hk:(Ai (Ae h.length 54 (Dh x 0 (Ao ((n:Int) - 2))) h) λl o=>eB l (Aq x n (eO a λl=>eO (ld o l.1 (l.2+x.toNat) 1 1) λl=>eC l λl s=>eN s (eS 6 l λl l s=>br (decide ((l:Int)>0)) (Aq (Ao (x+1)) n (eO a λl=>eO (ld o l.1 (l.2+((Ao (x+(1:Int))).toNat)) 1 1) λl=>eC l λl s=>eN s (eS 6 l λl l s=>br (decide ((l:Int)<6)) (Cc o) (AI o)))) (AI o)))) (AI o))=some (v,h')) (hn:noId v=true:=by rfl) :
  Ae lo 253 [Am a n c,Iv x] h=some (v,h) :=
 eD Tryz.func253 hk hn
theorem Q6 (hk:(Aq x n (eO a λv=>eO (ld h v.1 (v.2+x.toNat) 1 1) λv=>eC v λv l=>eN l (eS 6 v λv l o=>Aq 0 l (eO v λv=>eO (ld h v.1 (v.2+0) 0 6) λv=>eC v λv l=>eI .i64 v λv=>eC l λl o=>eI .i64 l λl=>eC o λo s=>eI .i64 o λo=>eC s λs b=>eS 2 s λs y z=>eC b λb u=>eT b λb=>eC u λu w=>eBv u λu=>eN w (Aq x n (eO a λw=>eO (ld (h ++ [.rows 6 43 false []]) w.1 (w.2+x.toNat) 1 1) λw=>eC w λw p=>eN p (eS 6 w λw p q=>AL w p q (some (Iv 1)) none none λw p q=>Aw 6 (h ++ [.rows 6 43 false []]) (.sl 6 w p q) λw=>Dk lo 43 6 72 (.sl 6 (some (h.length,0)) 0 (some 0)) w (h ++ [.rows 6 43 false []]) λw p=>eS 6 w λw q g=>Aq x n (eO a λi=>eO (st lo p i.1 (i.2+x.toNat) 1 (Bs w q g)) λw=>Ai (Ae lo 129 [Am a n c,Iv (Ao (x+1)),AD v l o s y z b u] w) λv l=>eA v λv=>eC v λv o=>eS 2 v λv s b=>eN o (some ((Am v s b),l))))))))))=some r) :
  Ae lo 254 [Am a n c,Iv x] h=some r :=
 eK Tryz.func254 hk
theorem Nz (hk:(br (!f) (br (!f) (br (!f) (br (!f) (br (!f) (br (decide ((n:Int)>1)) (br (!f) (Ai (Ae h.length 54 (Dh x 0 (Ao ((n:Int) - 1))) h) λl o=>eB l (Cc o) (AI o)) (AI h)) (br (!f) (AI h) (AI h))) (br (!f) none (AI h))) (br (!f) none (br (!f) none (AI h)))) (br (!f) none (br (!f) none (br (!f) none (AI h))))) (br (!f) none (br (!f) none (br (!f) none (br (!f) none (AI h)))))) (br (!f) none (br (!f) none (br (!f) none (br (!f) none (br (!f) none (AI h)))))))=some (v,h')) (hn:noId v=true:=by rfl) :
  Ae lo 255 [Al y z a n c b m p d k u f,Iv x] h=some (v,h) :=
 eD Tryz.func255 hk hn
theorem Ra (hk:(AL a n c none (some (Iv x)) none λv l o=>Aw 2 (h ++ [.rows 2 47 false []]) (.sl 2 v l o) λv=>Dk lo 47 2 48 (.sl 2 (some (h.length,0)) 0 (some 0)) v (h ++ [.rows 2 47 false []]) λv l=>eS 2 v λv o s=>AL a n c (some (Iv (Ao (x+1)))) none none λb y z=>Aw 2 l (.sl 2 b y z) λb=>Dk lo 47 2 48 (.sl 2 v o s) b l λv l=>eS 2 v λv o s=>br (decide (x>0)) (br (decide (x<(o:Int))) (Aq (Ao (x - 1)) o (eO v λb=>eO (ld l b.1 (b.2+((Ao (x - (1:Int))).toNat)) 0 1) λb=>eC b λb y=>eS 6 b λb z u=>eN y (Aq x o (eO v λy=>eO (ld l y.1 (y.2+x.toNat) 0 1) λy=>eC y λy w=>eS 6 y λy p q=>eN w (Ai (Ae lo 291 [Bh b z u,Bh y p q] l) λb y=>eS 6 b λb z u=>Aq (Ao (x - 1)) o (eO v λw=>eO (st lo y w.1 (w.2+((Ao (x - (1:Int))).toNat)) 1 (Bs b z u)) λb=>Aq (Ao ((o:Int) - 1)) o (eO v λy=>eO (st lo b y.1 (y.2+((Ao ((o:Int) - (1:Int))).toNat)) 1 [.sl 0 none 0 (some 0)]) λb=>some ((Am v o s),b)))))))) (Aq (Ao ((o:Int) - 1)) o (eO v λb=>eO (st lo l b.1 (b.2+((Ao ((o:Int) - (1:Int))).toNat)) 1 [.sl 0 none 0 (some 0)]) λb=>some ((Am v o s),b)))) (Aq (Ao ((o:Int) - 1)) o (eO v λb=>eO (st lo l b.1 (b.2+((Ao ((o:Int) - (1:Int))).toNat)) 1 [.sl 0 none 0 (some 0)]) λl=>some ((Am v o s),l))))=some r) :
  Ae lo 256 [Am a n c,Iv x] h=some r :=
 eK Tryz.func256 hk
theorem Q9 (hk:(Aq (Ao ((n:Int) - 1)) n (eO a λv=>eO (ld h v.1 (v.2+((Ao ((n:Int) - (1:Int))).toNat)) 0 1) λv=>eC v λv l=>eS 6 v λv o s=>eN l (Ai (Ae lo 196 [Bh v o s] h) λv l=>eA v λv=>eC v λv o=>eS 6 v λv s b=>eN o (Aw 2 (l ++ [.rows 2 47 false [[.sl 6 v s b,.sl 0 none 0 (some 0)]]]) (.sl 2 (some (l.length,0)) 1 (some 1)) λo=>Dk lo 47 2 48 (.sl 2 a n c) o (l ++ [.rows 2 47 false [[.sl 6 v s b,.sl 0 none 0 (some 0)]]]) λv l=>eS 2 v λv o s=>some ((Am v o s),l)))))=some r) :
  Ae lo 257 [Am a n c] h=some r :=
 eK Tryz.func257 hk
theorem Ny (hk:(Ai (Ae h.length 292 [Al y z a n c d k p b m u f,Iv x] h) λl o=>eI .i64 l λl=>br (decide (l>=0)) (Ai (Ae h.length 125 [Am a n c] o) λs w=>eB s (Aq x m (eO b λs=>eO (ld w s.1 (s.2+x.toNat) 0 1) λs=>eC s λs q=>eN q (eS 6 s λs q g=>Aq l q (eO s λs=>eO (ld w s.1 (s.2+l.toNat) 3 1) λl=>eC l λl s=>eS 2 l λl q g=>eN s (Ai (Ae w.length 47 [Am a n c] w) λs i=>eA s λs=>eC s λs j=>eS 2 s λs t e=>eN j (Ai (Ae h.length 124 [Am l q g,Am s t e] i) λl s=>eB l (Cc s) (AI s))))))) (AI w)) (AI o))=some (v,h')) (hn:noId v=true:=by rfl) :
  Ae lo 258 [Al y z a n c d k p b m u f,Iv x] h=some (v,h) :=
 eD Tryz.func258 hk hn
theorem QW (hk:(Aq z n (eO a λv=>eO (ld h v.1 (v.2+z.toNat) 0 1) λv=>eC v λv l=>eN l (eS 6 v λv l o=>Ai (Ae h.length 292 [Al x y b m c d k p a n u f,Iv z] h) λo s=>eI .i64 o λo=>Aq o l (eO v λv=>eO (ld s v.1 (v.2+o.toNat) 0 6) λv=>eC v λv l=>eI .i64 v λv=>eC l λl o=>eI .i64 l λl=>eC o λo w=>eI .i64 o λo=>eC w λw q=>eS 2 w λw g i=>eC q λq j=>eT q λq=>eC j λj t=>eBv j λj=>eN t (br (decide (l>y)) (Ai (Ae lo 129 [Am b m c,Iv 0,AD v l o w g i q j] s) λt e=>eA t λt=>eC t λt A=>eS 2 t λt B C=>eN A (Ai (Ae lo 130 [Al x l t B C d k p a n u f] e) λt e=>eA t λt=>eC t λt A=>eI .i64 t λt=>eC A λA B=>eI .i64 A λA=>eC B λB C=>eS 2 B λB D E=>eC C λC G=>eS 6 C λC H J=>eC G λG K=>eS 1 G λG L M=>eC K λK N=>eBv K λK=>eN N (some ((Al t A B D E C H J G L M K),e)))) (Ai (Ae lo 129 [Am b m c,Iv 0,AD v l o w g i q j] s) λv l=>eA v λv=>eC v λv o=>eS 2 v λv s w=>eN o (Ai (Ae lo 130 [Al x y v s w d k p a n u f] l) λv l=>eA v λv=>eC v λv o=>eI .i64 v λv=>eC o λo s=>eI .i64 o λo=>eC s λs w=>eS 2 s λs q g=>eC w λw i=>eS 6 w λw j t=>eC i λi e=>eS 1 i λi A B=>eC e λe C=>eBv e λe=>eN C (some ((Al v o s q g w j t i A B e),l)))))))))=some r) :
  Ae lo 259 [Al x y b m c d k p a n u f,Iv z] h=some r :=
 eK Tryz.func259 hk
theorem QZ {M q:Int}{e:Pq}{F:Bool} (hk:(br (x==y) (some (.tup [Al y z b m c d k p a n u f,.bool false],h)) (Aq x n (eO a λv=>eO (ld h v.1 (v.2+x.toNat) 0 1) λv=>eC v λv l=>eN l (eS 6 v λv v l=>br (t==(v:Int)) (br (decide (t>=60)) (some (.tup [Al y z b m c d k p a n u f,.bool false],h)) (Aq x n (eO a λv=>eO (ld h v.1 (v.2+x.toNat) 0 1) λv=>eC v λv l=>eN l (eS 6 v λv l o=>Ai (Ae lo 208 [.sl 6 v l o,Ax w q] h) λv l=>eB v (some (.tup [Al y z b m c d k p a n u f,.bool false],l)) (Aq x n (eO a λv=>eO (ld l v.1 (v.2+x.toNat) 0 1) λv=>eC v λv o=>eN o (eS 6 v λv o g=>Ai (Ae l.length 187 [AD M w q e i s S F] l) λl j=>eA l λl=>eC l λl A=>eI .i64 l λl=>eC A λA B=>eI .i64 A λA=>eC B λB C=>eI .i64 B λB=>eC C λC D=>eS 2 C λC E G=>eC D λD H=>eT D λD=>eC H λH J=>eBv H λH=>eN J (Aw 6 (j ++ [.rows 6 43 false [Cf l A B C E G D H]]) (.sl 6 (some (j.length,0)) 1 (some 1)) λJ=>Dk lo 43 6 72 (.sl 6 v o g) J (j ++ [.rows 6 43 false [Cf l A B C E G D H]]) λv l=>eS 6 v λv o g=>Aq x n (eO a λj=>eO (st lo l j.1 (j.2+x.toNat) 0 (Bs v o g)) λv=>some (.tup [Al y z b m c d k p a n u f,.bool true],v)))))))))) (some (.tup [Al y z b m c d k p a n u f,.bool false],h))))))=some r) :
  Ae lo 260 [Al y z b m c d k p a n u f,Iv x,Iv t,AD M w q e i s S F] h=some r :=
 eK Tryz.func260 hk
def HB lo a n c b m p x h:=
 LA 262 Tryz.f262 221311 0 111 lo ⟨[(0,.sl 6 a n c),(3,.sl 6 b m p),(4,Iv x)],[],h⟩
theorem HB.e :
  HB lo b n p a m c x h=br (decide (x<(n:Int))) (Aq x n (eO b λv=>eO (ld h v.1 (v.2+x.toNat) 0 6) λv=>eC v λv l=>eI .i64 v λv=>eC l λl o=>eI .i64 l λl=>eC o λo s=>eI .i64 o λo=>eC s λs y=>eS 2 s λs z u=>eC y λy w=>eT y λy=>eC w λw q=>eBv w λw=>eN q (Ai (Ae lo 266 [AD v l o s z u y w] h) λv l=>eA v λv=>eC v λv o=>eI .i64 v λv=>eC o λo s=>eI .i64 o λo=>eC s λs y=>eI .i64 s λs=>eC y λy z=>eS 2 y λy u w=>eC z λz q=>eT z λz=>eC q λq g=>eBv q λq=>eN g (Aq x m (eO a λg=>eO (st lo l g.1 (g.2+x.toNat) 0 (Cf v o s y u w z q)) λv=>HB lo b n p a m c (Ao (x+1)) v))))) (some (.sl 6 a m c,h)) :=
 lE
def GV lo a n c b m p x h:=
 LA 263 Tryz.f263 221311 0 111 lo ⟨[(0,.sl 1 a n c),(3,.sl 1 b m p),(4,Iv x)],[],h⟩
theorem GV.e :
  GV lo b n p a m c x h=br (decide (x<(n:Int))) (Aq x n (eO b λv=>eO (ld h v.1 (v.2+x.toNat) 0 1) λv=>eC v λv l=>eN l (eS 6 v λv l o=>Ai (Ae lo 262 (Bs v l o) h) λv l=>eS 6 v λv o s=>Aq x m (eO a λy=>eO (st lo l y.1 (y.2+x.toNat) 0 (Bs v o s)) λv=>GV lo b n p a m c (Ao (x+1)) v)))) (some (.sl 1 a m c,h)) :=
 lE
def AM lo n m k x i a j c b g p h:=
 LA 267 Tryz.f267 221311 0 111 lo ⟨[(0,(Bi n m k)),(2,.lp 2 0),(3,.lp 3 0),(4,Iv x)],[(2,[.sl i a j c]),(3,(Bk b g p))],h⟩
theorem OD (hk:(Ai (Ae lo 44 [Bi n m k,Iv 4] h) λv l=>eI .i64 v λv=>Ai (Ae lo 271 (Au (Ao (1+v))) l) λv l=>eA v λv=>eC v λv c=>eS 2 v λv a o=>eN c (Ai (Ae lo 44 [Bi n m k,Iv 12] l) λl c=>eI .i64 l λl=>AM lo n m k l 0 none 0 (some 0) v a o c))=some r) :
  Ae lo 267 [Bi n m k] h=some r :=
 eK Tryz.func267 hk
theorem AM.e {lo m k i j g n:Nat}{x:Int}{b a:Pq}{p c:Nq}{h:Heap} :
  AM lo m k i x j b g p a n c h=br (decide (x>0)) (Ai (Ae lo 44 [Bi m k i,Iv 6] h) λv l=>eI .i64 v λv=>br (v==0) (Ai (Ae lo 125 [Am a n c] l) λo s=>eB o (Ai (Ae lo 195 [Bi m k i] s) λo y=>eA o λo=>eC o λo z=>eI .i64 o λo=>eC z λz u=>eI .i64 z λz=>eC u λu w=>eI .i64 u λu=>eC w λw q=>eS 2 w λw t d=>eC q λq e=>eT q λq=>eC e λe f=>eBv e λe=>eN f (Ai (Ae lo 129 [Am a n c,Iv 0,AD o z u w t d q e] y) λo y=>eA o λo=>eC o λo z=>eS 2 o λo u w=>eN z (AM lo m k i (Ao (x - 1)) j b g p o u w y))) (AM lo m k i (Ao (x - 1)) j b g p a n c s)) (br (v==1) (Ai (Ae lo 125 [Am a n c] l) λo s=>eB o (Ai (Ae lo 195 [Bi m k i] s) λo y=>eA o λo=>eC o λo z=>eI .i64 o λo=>eC z λz u=>eI .i64 z λz=>eC u λu w=>eI .i64 u λu=>eC w λw q=>eS 2 w λw t d=>eC q λq e=>eT q λq=>eC e λe f=>eBv e λe=>eN f (Ai (Ae lo 129 [Am a n c,Iv 0,AD o z u w t d q e] y) λo y=>eA o λo=>eC o λo z=>eS 2 o λo u w=>eN z (AM lo m k i (Ao (x - 1)) j b g p o u w y))) (AM lo m k i (Ao (x - 1)) j b g p a n c s)) (br (v==2) (br (decide ((n:Int)>1)) (Ai (Ae lo 44 [Bi m k i,Iv (n:Int)] l) λo s=>eI .i64 o λo=>Ai (Ae lo 256 [Am a n c,Iv o] s) λo s=>eA o λo=>eC o λo y=>eS 2 o λo z u=>eN y (AM lo m k i (Ao (x - 1)) j b g p o z u s)) (AM lo m k i (Ao (x - 1)) j b g p a n c l)) (br (v==3) (br (decide ((n:Int)<4)) (Ai (Ae lo 257 [Am a n c] l) λv o=>eA v λv=>eC v λv s=>eS 2 v λv y z=>eN s (AM lo m k i (Ao (x - 1)) j b g p v y z o)) (AM lo m k i (Ao (x - 1)) j b g p a n c l)) (Ai (Ae lo 44 [Bi m k i,Iv 4] l) λv l=>eI .i64 v λv=>Ai (Ae lo 253 [Am a n c,Iv v] l) λl o=>eB l (Ai (Ae lo 254 [Am a n c,Iv v] o) λv l=>eA v λv=>eC v λv s=>eS 2 v λv y z=>eN s (AM lo m k i (Ao (x - 1)) j b g p v y z l)) (AM lo m k i (Ao (x - 1)) j b g p a n c o)))))) (Ai (Ae lo 127 [Am a n c] h) λv l=>eA v λv=>eC v λv o=>eS 2 v λv s y=>eN o (some ((Am v s y),l))) :=
 lE
theorem Lu (hk:(Ai (Ae lo 295 [Bi n m k] h) λv l=>eA v λv=>eC v λv c=>eS 6 v λv a o=>eN c (Ai (Ae lo 44 [Bi n m k,Iv 10] l) λl c=>eI .i64 l λl=>br (l==0) (AL v a o (some (Iv 1)) none none λs b x=>some ((Bh s b x),c)) (br (l==1) (Ai (Ae lo 44 [Bi n m k,Iv 4] c) λs b=>eI .i64 s λs=>Ai (Ae lo 193 [Bi n m k] b) λb x=>eA b λb=>eC b λb y=>eI .i64 b λb=>eC y λy z=>eI .i64 y λy=>eC z λz u=>eI .i64 z λz=>eC u λu w=>eS 2 u λu p q=>eC w λw g=>eT w λw=>eC g λg i=>eBv g λg=>eN i (Aq s a (eO v λi=>eO (st lo x i.1 (i.2+s.toNat) 0 (Cf b y z u p q w g)) λs=>some ((Bh v a o),s)))) (br (l==2) (Ai (Ae lo 44 [Bi n m k,Iv 4] c) λl s=>eI .i64 l λl=>Aq l a (eO v λb=>eO (st lo s b.1 (b.2+l.toNat) 0 [Iv 0,Iv 0,Iv 0,.sl 0 none 0 (some 0),.str ⟨⟨[120]⟩⟩,.bool false]) λl=>some ((Bh v a o),l))) (some ((Bh v a o),c))))))=some r) :
  Ae lo 268 [Bi n m k] h=some r :=
 eK Tryz.func268 hk
theorem Qm (hk:(Ai (Ae lo 48 [Bi n m k,.sl 1 (some (h.length,0)) 8 (some 8)] (h ++ [.rows 1 9 false [[.str ⟨⟨[]⟩⟩],[.str ⟨⟨[97]⟩⟩],[.str ⟨⟨[98]⟩⟩],[.str ⟨⟨[120,35,49]⟩⟩],[.str ⟨⟨[61]⟩⟩],[.str ⟨⟨[45]⟩⟩],[.str ⟨⟨[108,111,110,103,116,101,120,116]⟩⟩],[.str ⟨⟨[122,122]⟩⟩]]])) λv l=>eT v λv=>some (.str v,l))=some r) :
  Ae lo 269 [Bi n m k] h=some r :=
 eK Tryz.func269 hk
def AF lo a n c m l x y z h:=
 LA 270 Tryz.f270 22131 0 11 lo ⟨[(0,.sl 2 a n c),(1,.fn m l),(4,Iv x),(7,Iv y),(8,Iv z)],[],h⟩
theorem EI (hk:(AF h.length a n c m l 0 (n:Int) 0 h)=some (v,h')) (hn:noId v=true:=by rfl) :
  Ae lo 270 [.sl 2 a n c,.fn m l] h=some (v,h) :=
 eD Tryz.func270 hk hn
theorem AF.e :
  AF lo a n c m l z y x h=br (decide (x<y)) (Aq x n (eO a λv=>eO (ld h v.1 (v.2+x.toNat) 0 2) λv=>eC v λv o=>eS 6 v λv s b=>eC o λo u=>eS 6 o λo w p=>eN u (Ai (Ae lo m (Dy [I5 v s b o w p] l) h) λv o=>eB v (some (Iv x,o)) (AF lo a n c m l z y (Ao (x+1)) o)))) (some (Iv (-1),h)) :=
 lE
def Cn lo x y n a m c k b i p h:=
 LA 271 Tryz.f271 2213111 0 1111 lo ⟨[(0,Iv x),(2,.lp 2 0),(3,.lp 3 0),(4,Iv y)],[(2,[.sl n a m c]),(3,[.sl k b i p])],h⟩
theorem OG (hk:(Ai (Ae lo 54 (Dh x 1 4) h) λv l=>eB v (Cn lo x 0 0 none 0 (some 0) 0 none 0 (some 0) l) (some (.agg [.sl 0 none 0 (some 0)],l)))=some r) :
  Ae lo 271 (Au x) h=some r :=
 eK Tryz.func271 hk
theorem Cn.e :
  Cn lo x y k b i p n a m c h=br (decide (y<x)) (Ai (Ae lo 296 [] h) λv l=>eA v λv=>eC v λv o=>eS 6 v λv s z=>eN o (Aw 2 (l ++ [.rows 2 47 false [[.sl 6 v s z,.sl 0 none 0 (some 0)]]]) (.sl 2 (some (l.length,0)) 1 (some 1)) λo=>Dk lo 47 2 48 (.sl n a m c) o (l ++ [.rows 2 47 false [[.sl 6 v s z,.sl 0 none 0 (some 0)]]]) λv l=>eS 2 v λv o s=>Cn lo x (Ao (y+1)) k b i p 2 v o s l)) (some (.agg [.sl n a m c],h)) :=
 lE
def FD lo a n c x y m b k p d i u h:=
 LA 277 Tryz.f277 221311 0 111 lo ⟨[(4,.lp 4 0),(5,.lp 5 0),(11,.sl 2 a n c),(12,Iv x),(13,Iv y)],[(4,[.sl m b k p]),(5,(Bk d i u))],h⟩
theorem FD.e :
  FD lo b m p y x k d i u a n c h=br (decide (x<y)) (Aq x m (eO b λv=>eO (ld h v.1 (v.2+x.toNat) 0 2) λv=>eC v λv l=>eI .i64 v λv=>eC l λl o=>eI .i64 l λl=>eN o (Aq x n (eO a λo=>eO (ld h o.1 (o.2+x.toNat) 0 2) λo=>eC o λo s=>eI .i64 o λo=>eC s λs z=>eI .i64 s λs=>eN z (Ai (Ae lo 297 [Ax o s,Ax v l] h) λv l=>eA v λv=>eC v λv o=>eI .i64 v λv=>eC o λo s=>eI .i64 o λo=>eN s (Aq x n (eO a λs=>eO (st lo l s.1 (s.2+x.toNat) 0 (BN v o)) λv=>FD lo b m p y (Ao (x+1)) k d i u a n c v))))))) (some ((Am a n c),h)) :=
 lE
def DQ lo n m k x i j g a G c y z h:=
 LA 279 Tryz.f279 22131111111 0 11111111 lo ⟨[(0,(Bi n m k)),(1,Iv x),(5,(Bi i j g)),(59,.sl 6 a G c),(60,Iv y),(61,Iv z)],[],h⟩
theorem DQ.e {lo i j g n m k G:Nat}{y z x:Int}{a:Pq}{c:Nq}{h:Heap} :
  DQ lo i j g y n m k a G c z x h=br (decide (x<z)) (Aq x G (eO a λv=>eO (ld h v.1 (v.2+x.toNat) 0 6) λv=>eC v λv l=>eI .i64 v λv=>eC l λl o=>eI .i64 l λl=>eC o λo s=>eI .i64 o λo=>eC s λs b=>eS 2 s λs u w=>eC b λb p=>eT b λb=>eC p λp q=>eBv p λp=>eN q (eO (ld h i j (g+0) 1) λq=>eC q λq t=>eN t (eS 2 q λq t d=>Aq y t (eO q λq=>eO (ld h q.1 (q.2+y.toNat) 0 1) λq=>eC q λq t=>eN t (eS 6 q λq t d=>Aq v t (eO q λq=>eO (ld h q.1 (q.2+v.toNat) 1 2) λq=>eC q λq t=>eI .i64 q λq=>eC t λt d=>eI .i64 t λt=>eN d (Ai (Ae lo 15 [Ax q t,Ax l o] h) λq t=>eB q (eO (ld t n m (k+1) 1) λq=>eC q λq d=>eN d (eS 6 q λq d e=>Ai (Ae t.length 154 [AD v l o s u w b p] t) λv l=>eA v λv=>eC v λv o=>eI .i64 v λv=>eC o λo s=>eI .i64 o λo=>eC s λs b=>eI .i64 s λs=>eC b λb u=>eS 2 b λb w p=>eC u λu f=>eT u λu=>eC f λf A=>eBv f λf=>eN A (Aw 6 (l ++ [.rows 6 43 false [Cf v o s b w p u f]]) (.sl 6 (some (l.length,0)) 1 (some 1)) λA=>Dk lo 43 6 72 (.sl 6 q d e) A (l ++ [.rows 6 43 false [Cf v o s b w p u f]]) λv l=>eS 6 v λv o s=>eO (st lo l n m (k+1) (Bs v o s)) λv=>DQ lo i j g y n m k a G c z (Ao (x+1)) v))) (DQ lo i j g y n m k a G c z (Ao (x+1)) t))))))))) (eO (ld h n m (k+1) 1) λv=>eC v λv l=>eN l (eS 6 v λv l o=>Ai (Ae lo 300 [.sl 6 v l o,.fn 301 []] h) λv l=>eU v λv=>eN v (eO (ld l n m (k+1) 1) λv=>eC v λv o=>eN o (eS 6 v λv o s=>Ai (Ae lo 205 (Bs v o s) l) λv l=>eS 6 v λv o s=>eO (st lo l n m (k+1) (Bs v o s)) λv=>some (.bool true,v))))) :=
 lE
def BA lo a n c m l x y z h:=
 LA 281 Tryz.f281 22131 0 11 lo ⟨[(0,.sl 5 a n c),(1,.fn m l),(4,Iv x),(7,Iv y),(8,Iv z)],[],h⟩
theorem BA.e :
  BA lo a n c m l z y x h=br (decide (x<y)) (Aq x n (eO a λv=>eO (ld h v.1 (v.2+x.toNat) 0 5) λv=>eC v λv o=>eI .i64 v λv=>eC o λo s=>eI .i64 o λo=>eC s λs b=>eI .i64 s λs=>eC b λb u=>eI .i64 b λb=>eC u λu w=>eI .i64 u λu=>eN w (Ai (Ae lo m (Dy [Ur v o s b u] l) h) λv o=>eB v (some (Iv x,o)) (BA lo a n c m l z y (Ao (x+1)) o)))) (some (Iv (-1),h)) :=
 lE
def Hb lo a n c b m p f x h:=
 LA 282 Tryz.f282 221311 0 111 lo ⟨[(0,.sl 2 a n c),(1,.sl 2 b m p),(4,.bool f),(5,Iv x)],[],h⟩
theorem Hb.e :
  Hb lo a n c b m p f x h=br (decide (x<(n:Int))) (Aq x n (eO a λv=>eO (ld h v.1 (v.2+x.toNat) 0 2) λv=>eC v λv l=>eS 6 v λv o s=>eC l λl y=>eS 6 l λl z u=>eN y (Aq x m (eO b λy=>eO (ld h y.1 (y.2+x.toNat) 0 2) λy=>eC y λy w=>eS 6 y λy q g=>eC w λw i=>eS 6 w λw j k=>eN i (Ai (Ae lo 302 [I5 v o s l z u,I5 y q g w j k] h) λv l=>eB v (Hb lo a n c b m p f (Ao (x+1)) l) (AI l)))))) (Cc h) :=
 lE
def HF lo a n c b m p f x h:=
 LA 283 Tryz.f283 221311 0 111 lo ⟨[(0,.sl 2 a n c),(1,.sl 2 b m p),(4,.bool f),(5,Iv x)],[],h⟩
theorem HF.e :
  HF lo a n c b m p f x h=br (decide (x<(n:Int))) (Aq x n (eO a λv=>eO (ld h v.1 (v.2+x.toNat) 0 2) λv=>eC v λv l=>eI .i64 v λv=>eC l λl o=>eI .i64 l λl=>eN o (Aq x m (eO b λo=>eO (ld h o.1 (o.2+x.toNat) 0 2) λo=>eC o λo s=>eI .i64 o λo=>eC s λs y=>eI .i64 s λs=>eN y (Ai (Ae lo 241 [Ax v l,Ax o s] h) λv l=>eB v (HF lo a n c b m p f (Ao (x+1)) l) (AI l)))))) (Cc h) :=
 lE
def G8 lo a n c x y z h:=
 LA 284 Tryz.f284 2213111 0 1111 lo ⟨[(0,.sl 2 a n c),(1,Iv x),(4,Iv y),(5,Iv z)],[],h⟩
theorem G8.e :
  G8 lo a n c y z x h=br (decide (x<(n:Int))) (Aq x n (eO a λv=>eO (ld h v.1 (v.2+x.toNat) 0 2) λv=>eC v λv l=>eS 6 v λv o s=>eC l λl b=>eS 6 l λl u w=>eN b (Ai (Ae lo 303 [I5 v o s l u w,Iv y] h) λv l=>eI .i64 v λv=>br (decide (v<0)) (some (Iv (-1),l)) (G8 lo a n c v z (Ao (x+1)) l)))) (some (Iv y,h)) :=
 lE
theorem Tm (hk:(Ms ⟨⟨[61]⟩⟩ S λl=>br f (Ai (Ae h.length 304 (Au x) h) λo s=>eT o λo=>Ms o ⟨⟨[32]⟩⟩ λo=>Ai (Ae h.length 305 [Ax y z] s) λs b=>eT s λs=>Ms o s λo=>Ai (Ae h.length 306 [Am a n c] b) λs b=>eT s λs=>Ms o s λo=>Ms o ⟨⟨[32]⟩⟩ λo=>Ms o ⟨⟨[45]⟩⟩ λo=>some (.str o,b)) (Ai (Ae h.length 304 (Au x) h) λo s=>eT o λo=>Ms o ⟨⟨[32]⟩⟩ λo=>Ai (Ae h.length 305 [Ax y z] s) λs b=>eT s λs=>Ms o s λo=>Ai (Ae h.length 306 [Am a n c] b) λs b=>eT s λs=>Ms o s λo=>Ms o ⟨⟨[32]⟩⟩ λo=>Ms o l λl=>some (.str l,b)))=some (v,h')) (hn:noId v=true:=by rfl) :
  Ae lo 286 [AD x y z a n c S f] h=some (v,h) :=
 by cases f<;>exact eD Tryz.func286 hk hn
theorem QT {e:Pq} (hk:(Aw 5 (h ++ [.rows 5 126 false [UJ x y z t w]]) (.sl 5 (some (h.length,0)) 1 (some 1)) λv=>Dk lo 126 5 40 (.sl 5 e i s) v (h ++ [.rows 5 126 false [UJ x y z t w]]) λv l=>eS 5 v λv o q=>some ((Av a n c b m p d k u v o q),l))=some r) :
  Ae lo 287 [Av a n c b m p d k u e i s,Iv x,Iv y,Iv z,Ax t w] h=some r :=
 eK Tryz.func287 hk
theorem Ql (hk:(br (y==0) (br (decide ((n:Int)>1)) (Aq 1 n (eO a λv=>eO (ld h v.1 (v.2+1) 0 1) λv=>eC v λv l=>eN l (eS 6 v λv l o=>Aq x l (eO v λv=>eO (ld h v.1 (v.2+x.toNat) 0 6) λv=>eC v λv l=>eI .i64 v λv=>eC l λl o=>eI .i64 l λl=>eC o λo s=>eI .i64 o λo=>eC s λs b=>eS 2 s λs z u=>eC b λb w=>eT b λb=>eC w λw p=>eBv w λw=>eN p (Ai (Ae lo 187 [AD v l o s z u b w] h) λv l=>eA v λv=>eC v λv o=>eI .i64 v λv=>eC o λo s=>eI .i64 o λo=>eC s λs b=>eI .i64 s λs=>eC b λb z=>eS 2 b λb u w=>eC z λz p=>eT z λz=>eC p λp q=>eBv p λp=>eN q (some ((AD v o s b u w z p),l))))))) (Aq y n (eO a λv=>eO (ld h v.1 (v.2+y.toNat) 0 1) λv=>eC v λv l=>eN l (eS 6 v λv l o=>Aq x l (eO v λv=>eO (ld h v.1 (v.2+x.toNat) 0 6) λv=>eC v λv l=>eI .i64 v λv=>eC l λl o=>eI .i64 l λl=>eC o λo s=>eI .i64 o λo=>eC s λs b=>eS 2 s λs z u=>eC b λb w=>eT b λb=>eC w λw p=>eBv w λw=>eN p (Ai (Ae lo 187 [AD v l o s z u b w] h) λv l=>eA v λv=>eC v λv o=>eI .i64 v λv=>eC o λo s=>eI .i64 o λo=>eC s λs b=>eI .i64 s λs=>eC b λb z=>eS 2 b λb u w=>eC z λz p=>eT z λz=>eC p λp q=>eBv p λp=>eN q (some ((AD v o s b u w z p),l)))))))) (Aq y n (eO a λv=>eO (ld h v.1 (v.2+y.toNat) 0 1) λv=>eC v λv l=>eN l (eS 6 v λv l o=>Aq x l (eO v λv=>eO (ld h v.1 (v.2+x.toNat) 0 6) λv=>eC v λv l=>eI .i64 v λv=>eC l λl o=>eI .i64 l λl=>eC o λo s=>eI .i64 o λo=>eC s λs b=>eS 2 s λs z u=>eC b λb w=>eT b λb=>eC w λw p=>eBv w λw=>eN p (Ai (Ae lo 187 [AD v l o s z u b w] h) λv l=>eA v λv=>eC v λv o=>eI .i64 v λv=>eC o λo s=>eI .i64 o λo=>eC s λs b=>eI .i64 s λs=>eC b λb z=>eS 2 b λb u w=>eC z λz p=>eT z λz=>eC p λp q=>eBv p λp=>eN q (some ((AD v o s b u w z p),l))))))))=some r) :
  Ae lo 288 [Am a n c,Iv y,Iv x] h=some r :=
 eK Tryz.func288 hk
theorem Rj (hk:(Aw 2 (h ++ [.rows 2 36 false []]) (.sl 2 a n c) λv=>Dk lo 36 2 16 (.sl 2 (some (h.length,0)) 0 (some 0)) v (h ++ [.rows 2 36 false []]) λv l=>eS 2 v λv o s=>Aq x o (eO v λb=>eO (ld l b.1 (b.2+x.toNat) 0 2) λb=>eC b λb u=>eI .i64 b λb=>eC u λu w=>eI .i64 u λu=>eN w (Ai (Ae lo 307 [Ax b u,Ax y z] l) λl b=>eA l λl=>eC l λl u=>eI .i64 l λl=>eC u λu w=>eI .i64 u λu=>eN w (Aq x o (eO v λw=>eO (st lo b w.1 (w.2+x.toNat) 0 (BN l u)) λl=>some ((Am v o s),l))))))=some r) :
  Ae lo 289 [Am a n c,Iv x,Ax y z] h=some r :=
 eK Tryz.func289 hk
def C6 lo x a n c b m p k d i u j e g s h:=
 LA 290 Tryz.f290 221311 0 111 lo ⟨[(2,.lp 2 0),(3,.lp 3 0),(4,.lp 4 0),(5,.lp 5 0),(6,Iv x)],[(2,(Bk a n c)),(3,(Bk b m p)),(4,[.sl k d i u]),(5,[.sl j e g s])],h⟩
theorem Rm (hk:(C6 lo 0 a n c b m p 0 none 0 (some 0) 0 none 0 (some 0) h)=some r) :
  Ae lo 290 [Am a n c,Am b m p] h=some r :=
 eK Tryz.func290 hk
theorem C6.e {g:Nat}{A:Pq} :
  C6 lo x a n p b m u j A g s k d i c h=br (decide (x<4)) (Aq x n (eO a λv=>eO (ld h v.1 (v.2+x.toNat) 0 2) λv=>eC v λv l=>eI .i64 v λv=>eC l λl o=>eI .i64 l λl=>eN o (Aq x m (eO b λo=>eO (ld h o.1 (o.2+x.toNat) 0 2) λo=>eC o λo y=>eI .i64 o λo=>eC y λy z=>eI .i64 y λy=>eN z (Ai (Ae lo 307 [Ax v l,Ax o y] h) λv l=>eA v λv=>eC v λv o=>eI .i64 v λv=>eC o λo y=>eI .i64 o λo=>eN y (Aw 2 (l ++ [.rows 2 36 false [BN v o]]) (.sl 2 (some (l.length,0)) 1 (some 1)) λy=>Dk lo 36 2 16 (.sl k d i c) y (l ++ [.rows 2 36 false [BN v o]]) λv l=>eS 2 v λv o y=>C6 lo (Ao (x+1)) a n p b m u j A g s 2 v o y l)))))) (some (.agg [.sl k d i c],h)) :=
 lE
def BJ lo a n c x b m p d k u h:=
 LA 291 Tryz.f291 221311 0 111 lo ⟨[(2,.lp 2 0),(3,.lp 3 0),(5,.sl 6 a n c),(6,Iv x)],[(2,(Bs b m p)),(3,(Bs d k u))],h⟩
def C1 lo a n c x y b m p d k u h:=
 Lp (X 291) lo (pf 22311231221311 Tryz.f291) 2 (A8 2 (kS (X 291) lo (pf 111231221311 Tryz.f291) 1 (A8 1 (kS (X 291) lo (pf 11221311 Tryz.f291) 0 (U0 (X 291) lo (pf 221311 Tryz.f291) 0 (A8 0 (kS (X 291) lo (pf 111 Tryz.f291) 0 (I0 (X 291) Tryz.f291.results.toList)))))))) ⟨[(2,.lp 2 0),(3,.lp 3 0),(5,.sl 6 a n c),(6,Iv x),(7,Iv y)],[(2,(Bs b m p)),(3,(Bs d k u))],h⟩
theorem Q8 (hk:(BJ lo (some (h.length,0)) 0 (some 0) 0 a n c b m p (h ++ [.rows 6 43 false []]))=some r) :
  Ae lo 291 [Bh a n c,Bh b m p] h=some r :=
 eK Tryz.func291 hk
theorem BJ.e :
  BJ lo a n c x b m p d k u h=br (decide (x<4)) (Aq x k (eO d λv=>eO (ld h v.1 (v.2+x.toNat) 1 2) λv=>eC v λv l=>eI .i64 v λv=>eC l λl o=>eI .i64 l λl=>eN o (Aq x m (eO b λo=>eO (ld h o.1 (o.2+x.toNat) 1 2) λo=>eC o λo s=>eI .i64 o λo=>eC s λs y=>eI .i64 s λs=>eN y (Ai (Ae lo 197 [Ax v l,Ax o s] h) λv l=>eB v (C1 lo a n c x 0 b m p d k u l) (BJ lo a n c (Ao (x+1)) b m p d k u l)))))) (some (.sl 6 a n c,h)) :=
 lE
theorem C1.e {lo n m k:Nat}{a b d:Pq}{c p u:Nq}{x y:Int}{h:Heap} :
  C1 lo a n c x y b m p d k u h=br (decide (y<(n:Int))) (Aq y n (eO a λv=>eO (ld h v.1 (v.2+y.toNat) 1 2) λv=>eC v λv l=>eI .i64 v λv=>eC l λl o=>eI .i64 l λl=>eN o (Aq x m (eO b λo=>eO (ld h o.1 (o.2+x.toNat) 1 2) λo=>eC o λo s=>eI .i64 o λo=>eC s λs z=>eI .i64 s λs=>eN z (Ai (Ae lo 197 [Ax v l,Ax o s] h) λv l=>eB v (C1 lo a n c x (Ao (y+1)) b m p d k u l) (AL a n c none (some (Iv y)) none λv o s=>Aw 6 (l ++ [.rows 6 43 false []]) (.sl 6 v o s) λv=>Dk lo 43 6 72 (.sl 6 (some (l.length,0)) 0 (some 0)) v (l ++ [.rows 6 43 false []]) λv l=>eS 6 v λv o s=>Aq x m (eO b λz=>eO (ld l z.1 (z.2+x.toNat) 0 6) λz=>eC z λz w=>eI .i64 z λz=>eC w λw q=>eI .i64 w λw=>eC q λq g=>eI .i64 q λq=>eC g λg i=>eS 2 g λg j t=>eC i λi e=>eT i λi=>eC e λe f=>eBv e λe=>eN f (Ai (Ae lo 187 [AD z w q g j t i e] l) λl z=>eA l λl=>eC l λl w=>eI .i64 l λl=>eC w λw q=>eI .i64 w λw=>eC q λq g=>eI .i64 q λq=>eC g λg i=>eS 2 g λg j t=>eC i λi e=>eT i λi=>eC e λe f=>eBv e λe=>eN f (Aw 6 (z ++ [.rows 6 43 false [Cf l w q g j t i e]]) (.sl 6 (some (z.length,0)) 1 (some 1)) λf=>Dk lo 43 6 72 (.sl 6 v o s) f (z ++ [.rows 6 43 false [Cf l w q g j t i e]]) λv l=>eS 6 v λv o s=>AL a n c (some (Iv y)) none none λz w q=>Aw 6 l (.sl 6 z w q) λz=>Dk lo 43 6 72 (.sl 6 v o s) z l λv l=>eS 6 v λv o s=>BJ lo v o s (Ao (x+1)) b m p d k u l))))))))) (AL a n c none (some (Iv y)) none λv l o=>Aw 6 (h ++ [.rows 6 43 false []]) (.sl 6 v l o) λv=>Dk lo 43 6 72 (.sl 6 (some (h.length,0)) 0 (some 0)) v (h ++ [.rows 6 43 false []]) λv l=>eS 6 v λv o s=>Aq x m (eO b λz=>eO (ld l z.1 (z.2+x.toNat) 0 6) λz=>eC z λz w=>eI .i64 z λz=>eC w λw q=>eI .i64 w λw=>eC q λq g=>eI .i64 q λq=>eC g λg i=>eS 2 g λg j t=>eC i λi e=>eT i λi=>eC e λe f=>eBv e λe=>eN f (Ai (Ae lo 187 [AD z w q g j t i e] l) λl z=>eA l λl=>eC l λl w=>eI .i64 l λl=>eC w λw q=>eI .i64 w λw=>eC q λq g=>eI .i64 q λq=>eC g λg i=>eS 2 g λg j t=>eC i λi e=>eT i λi=>eC e λe f=>eBv e λe=>eN f (Aw 6 (z ++ [.rows 6 43 false [Cf l w q g j t i e]]) (.sl 6 (some (z.length,0)) 1 (some 1)) λf=>Dk lo 43 6 72 (.sl 6 v o s) f (z ++ [.rows 6 43 false [Cf l w q g j t i e]]) λv l=>eS 6 v λv o s=>AL a n c (some (Iv y)) none none λz w q=>Aw 6 l (.sl 6 z w q) λz=>Dk lo 43 6 72 (.sl 6 v o s) z l λv l=>eS 6 v λv o s=>BJ lo v o s (Ao (x+1)) b m p d k u l)))) :=
 lE
def Cv lo x y z t w a n c b m p d k u f e i s h:=
 LA 292 Tryz.f292 221311 0 111 lo ⟨[(1,Iv x),(2,.lp 2 0),(4,Iv y),(5,.lp 5 0),(6,Iv z)],[(2,(CB t w a n c b m p d k u f)),(5,(Bs e i s))],h⟩
theorem Qk (hk:(Aq 0 n (eO a λl=>eO (ld h l.1 (l.2+0) 0 1) λl=>eC l λl o=>eS 6 l λl s w=>eN o (Cv h.length z 0 0 x y a n c b m p d k u f l s w h)))=some (v,h')) (hn:noId v=true:=by rfl) :
  Ae lo 292 [Al x y a n c b m p d k u f,Iv z] h=some (v,h) :=
 eD Tryz.func292 hk hn
theorem Cv.e {A:Pq} :
  Cv lo x z y t w d k c A i p a n u f b m s h=Aq x n (eO a λv=>eO (ld h v.1 (v.2+x.toNat) 0 1) λv=>eC v λv l=>eN l (eS 6 v λv v l=>br (decide (y<(v:Int))) (Aq x n (eO a λv=>eO (ld h v.1 (v.2+x.toNat) 0 1) λv=>eC v λv l=>eN l (eS 6 v λv l o=>Aq y l (eO v λv=>eO (ld h v.1 (v.2+y.toNat) 0 6) λv=>eC v λv l=>eI .i64 v λv=>eC l λl o=>eI .i64 l λl=>eC o λo q=>eI .i64 o λo=>eC q λq g=>eS 2 q λq q q=>eC g λq g=>eT q λq=>eC g λq g=>eBv q λq=>eN g (Aq v m (eO b λq=>eO (ld h q.1 (q.2+v.toNat) 1 2) λv=>eC v λv q=>eI .i64 v λv=>eC q λq g=>eI .i64 q λq=>eN g (Ai (Ae lo 197 [Ax v q,Ax l o] h) λv l=>eB v (some (Iv y,l)) (Cv lo x z (Ao (y+1)) t w d k c A i p a n u f b m s l)))))))) (some (Iv (-1),h)))) :=
 lE
def GX lo a n c b m p x h:=
 LA 293 Tryz.f293 221311 0 111 lo ⟨[(0,.sl 2 a n c),(3,.sl 2 b m p),(4,Iv x)],[],h⟩
theorem GX.e :
  GX lo b n p a m c x h=br (decide (x<(n:Int))) (Aq x n (eO b λv=>eO (ld h v.1 (v.2+x.toNat) 0 2) λv=>eC v λv l=>eS 6 v λv o s=>eC l λl y=>eS 6 l λl z u=>eN y (Ai (Ae lo 308 [I5 v o s l z u] h) λv l=>eA v λv=>eC v λv o=>eS 6 v λv s y=>eC o λo z=>eS 6 o λo u w=>eN z (Aq x m (eO a λz=>eO (st lo l z.1 (z.2+x.toNat) 0 (Kh v s y o u w)) λv=>GX lo b n p a m c (Ao (x+1)) v))))) (some (.sl 2 a m c,h)) :=
 lE
def HC lo a n c b m p x h:=
 LA 294 Tryz.f294 221311 0 111 lo ⟨[(0,.sl 2 a n c),(3,.sl 2 b m p),(4,Iv x)],[],h⟩
theorem HC.e :
  HC lo b n p a m c x h=br (decide (x<(n:Int))) (Aq x n (eO b λv=>eO (ld h v.1 (v.2+x.toNat) 0 2) λv=>eC v λv l=>eI .i64 v λv=>eC l λl o=>eI .i64 l λl=>eN o (Ai (Ae lo 265 [Ax v l] h) λv l=>eA v λv=>eC v λv o=>eI .i64 v λv=>eC o λo s=>eI .i64 o λo=>eN s (Aq x m (eO a λs=>eO (st lo l s.1 (s.2+x.toNat) 0 (BN v o)) λv=>HC lo b n p a m c (Ao (x+1)) v))))) (some (.sl 2 a m c,h)) :=
 lE
def Ck lo n m k x i a j c b g p h:=
 LA 295 Tryz.f295 221311 0 111 lo ⟨[(0,(Bi n m k)),(2,.lp 2 0),(3,.lp 3 0),(4,Iv x)],[(2,[.sl i a j c]),(3,(Bs b g p))],h⟩
theorem Oz (hk:(Ai (Ae lo 296 [] h) λv l=>eA v λv=>eC v λv c=>eS 6 v λv a o=>eN c (Ai (Ae lo 44 [Bi n m k,Iv 7] l) λl c=>eI .i64 l λl=>Ck lo n m k l 0 none 0 (some 0) v a o c))=some r) :
  Ae lo 295 [Bi n m k] h=some r :=
 eK Tryz.func295 hk
theorem Ck.e {g:Nat} :
  Ck lo n m k x j b g p a i c h=br (decide (x>0)) (Ai (Ae lo 195 [Bi n m k] h) λv l=>eA v λv=>eC v λv o=>eI .i64 v λv=>eC o λo s=>eI .i64 o λo=>eC s λs y=>eI .i64 s λs=>eC y λy z=>eS 2 y λy u w=>eC z λz q=>eT z λz=>eC q λq t=>eBv q λq=>eN t (Ai (Ae lo 198 [Bh a i c,AD v o s y u w z q] l) λv l=>eA v λv=>eC v λv o=>eS 6 v λv s y=>eN o (Ck lo n m k (Ao (x - 1)) j b g p v s y l))) (some ((Bh a i c),h)) :=
 lE
theorem Tn (hk:(some ((Bh (some (h.length,0)) 4 (some 4)),(h ++ [.rows 6 43 false [[Iv 0,Iv 0,Iv 0,.sl 0 none 0 (some 0),.str ⟨⟨[]⟩⟩,.bool false],[Iv 0,Iv 0,Iv 0,.sl 0 none 0 (some 0),.str ⟨⟨[]⟩⟩,.bool false],[Iv 0,Iv 0,Iv 0,.sl 0 none 0 (some 0),.str ⟨⟨[]⟩⟩,.bool false],[Iv 0,Iv 0,Iv 0,.sl 0 none 0 (some 0),.str ⟨⟨[]⟩⟩,.bool false]]])))=some r) :
  Ae lo 296 [] h=some r :=
 eK Tryz.func296 hk
theorem My (hk:(br (decide (x<(-9223372036854775807:Int))) (some (.str ⟨⟨[45,57,50,50,51,51,55,50,48,51,54,56,53,52,55,55,53,56,48,56]⟩⟩,h)) (br (decide (x<0)) (Ai (Ae h.length 304 (Au (Ao (0 - x))) h) λl c=>eT l λl=>Ms ⟨⟨[45]⟩⟩ l λl=>some (.str l,c)) (br (decide (x<10)) (Aw 1 (h ++ [.rows 1 5 false [[.int .u8 (IntKind.wrap .u8 (Ao (48+x)))]]]) (.sl 1 (some (h.length,0)) 1 (some 1)) λl=>eO (E3 l) λl=>some (.str (JA l),(h ++ [.rows 1 5 false [[.int .u8 (IntKind.wrap .u8 (Ao (48+x)))]]]))) (Ai (Ae h.length 304 (Au (Ao (x.tdiv (10:Int)))) h) λl c=>eT l λl=>Aw 1 (c ++ [.rows 1 5 false [[.int .u8 (IntKind.wrap .u8 (Ao (48+(x.tmod (10:Int)))))]]]) (.sl 1 (some (c.length,0)) 1 (some 1)) λn=>eO (E3 n) λn=>Ms l (JA n) λl=>some (.str l,(c ++ [.rows 1 5 false [[.int .u8 (IntKind.wrap .u8 (Ao (48+(x.tmod (10:Int)))))]]]))))))=some (v,h')) (hn:noId v=true:=by rfl) :
  Ae lo 304 (Au x) h=some (v,h) :=
 eD Tryz.func304 hk hn
theorem Tp (hk:(Ai (Ae h.length 304 (Au x) h) λl c=>eT l λl=>Ms l ⟨⟨[46]⟩⟩ λl=>Ai (Ae h.length 304 (Au y) c) λc n=>eT c λc=>Ms l c λl=>some (.str l,n))=some (v,h')) (hn:noId v=true:=by rfl) :
  Ae lo 305 [Ax x y] h=some (v,h) :=
 eD Tryz.func305 hk hn
def C5 lo S x a n c h:=
 LA 306 Tryz.f306 221311 0 111 lo ⟨[(1,.lp 1 0),(3,.str S),(4,Iv x)],[(1,(Bk a n c))],h⟩
theorem Rf (hk:(C5 h.length ⟨⟨[]⟩⟩ 0 a n c h)=some (v,h')) (hn:noId v=true:=by rfl) :
  Ae lo 306 [Am a n c] h=some (v,h) :=
 eD Tryz.func306 hk hn
theorem C5.e :
  C5 lo S x a n c h=br (decide (x<(n:Int))) (Ms S ⟨⟨[32]⟩⟩ λv=>Aq x n (eO a λl=>eO (ld h l.1 (l.2+x.toNat) 0 2) λl=>eC l λl o=>eI .i64 l λl=>eC o λo s=>eI .i64 o λo=>eN s (Ai (Ae lo 305 [Ax l o] h) λl o=>eT l λl=>Ms v l λv=>C5 lo v (Ao (x+1)) a n c o))) (some (.str S,h)) :=
 lE
theorem Tq (hk:(Ai (Ae h.length 197 [Ax x y,Ax z t] h) λl c=>eB l (some ((Ax z t),c)) (some ((Ax x y),c)))=some (v,h')) (hn:noId v=true:=by rfl) :
  Ae lo 307 [Ax x y,Ax z t] h=some (v,h) :=
 eD Tryz.func307 hk hn
end
noncomputable section

variable {lo n m:Nat}{a:Pq}{c:Nq}{x:Int}{l:List V}{h:Heap}
def CR lo a n c x m l h:=
 Lp (X 309) lo (pf 2211 Tryz.f309) 0 (A8 0 (I0 (X 309) Tryz.f309.results.toList)) ⟨[(0,.sl 6 a n c),(1,Iv 0),(2,Iv 0),(3,Iv x),(4,.fn m l),(10,.bool true),(11,.bool true)],[],h⟩
theorem CR.e :
  CR lo a n c x m l h=Ai (Ae lo 314 [.sl 6 a n c,Iv 0,Iv 0,.fn m l] h) λv o=>eU v λv=>eN v (some (.tup [],o)) :=
 lE
def CQ lo a n c x m l h:=
 Lp (X 309) lo (pf 2211 Tryz.f309) 0 (A8 0 (I0 (X 309) Tryz.f309.results.toList)) ⟨[(0,.sl 6 a n c),(1,Iv 0),(2,Iv 1),(3,Iv x),(4,.fn m l),(10,.bool true),(11,.bool true)],[],h⟩
theorem CQ.e :
  CQ lo a n c x m l h=Ai (Ae lo 314 [.sl 6 a n c,Iv 0,Iv 1,.fn m l] h) λv o=>eU v λv=>eN v (some (.tup [],o)) :=
 lE
def CP lo a n c x m l h:=
 Lp (X 309) lo (pf 2211 Tryz.f309) 0 (A8 0 (I0 (X 309) Tryz.f309.results.toList)) ⟨[(0,.sl 6 a n c),(1,Iv 0),(2,Iv 2),(3,Iv x),(4,.fn m l),(10,.bool true),(11,.bool true)],[],h⟩
theorem CP.e :
  CP lo a n c x m l h=Ai (Ae lo 314 [.sl 6 a n c,Iv 0,Iv 2,.fn m l] h) λv o=>eU v λv=>eN v (some (.tup [],o)) :=
 lE
def CO lo a n c x m l h:=
 Lp (X 309) lo (pf 2211 Tryz.f309) 0 (A8 0 (I0 (X 309) Tryz.f309.results.toList)) ⟨[(0,.sl 6 a n c),(1,Iv 0),(2,Iv 3),(3,Iv x),(4,.fn m l),(10,.bool true),(11,.bool true)],[],h⟩
theorem CO.e :
  CO lo a n c x m l h=Ai (Ae lo 314 [.sl 6 a n c,Iv 0,Iv 3,.fn m l] h) λv o=>eU v λv=>eN v (some (.tup [],o)) :=
 lE
def CN lo a n c x m l h:=
 Lp (X 309) lo (pf 2211 Tryz.f309) 0 (A8 0 (I0 (X 309) Tryz.f309.results.toList)) ⟨[(0,.sl 6 a n c),(1,Iv 0),(2,Iv 4),(3,Iv x),(4,.fn m l),(10,.bool true),(11,.bool true)],[],h⟩
theorem CN.e :
  CN lo a n c x m l h=Ai (Ae lo 314 [.sl 6 a n c,Iv 0,Iv 4,.fn m l] h) λv o=>eU v λv=>eN v (some (.tup [],o)) :=
 lE
def Bd lo a n c x y m l z h:=
 Lp (X 314) lo (pf 221 Tryz.f314) 0 (A8 0 (I0 (X 314) Tryz.f314.results.toList)) ⟨[(0,.sl 6 a n c),(1,Iv x),(2,Iv y),(3,.fn m l),(8,Iv z)],[],h⟩
def Bc lo a n c x y m l z t h:=
 Lp (X 314) lo (pf 221231221 Tryz.f314) 2 (A8 2 (A8 1 (kS (X 314) lo (pf 11221 Tryz.f314) 0 (U0 (X 314) lo (pf 221 Tryz.f314) 0 (A8 0 (I0 (X 314) Tryz.f314.results.toList)))))) ⟨[(0,.sl 6 a n c),(1,Iv x),(2,Iv y),(3,.fn m l),(8,Iv z),(9,Iv t)],[],h⟩
theorem Bd.e {z y:Int} :
  Bd lo a n c z y m l x h=br (decide (x<y)) (Bc lo a n c z y m l x x h) (some (.tup [],h)) :=
 lE
theorem Bc.e {lo n m:Nat}{a:Pq}{c:Nq}{y z t x:Int}{l:List V}{h:Heap} :
  Bc lo a n c y z m l t x h=br (decide (x>y)) (Aq x n (eO a λv=>eO (ld h v.1 (v.2+x.toNat) 0 6) λv=>eC v λv o=>eI .i64 v λv=>eC o λo s=>eI .i64 o λo=>eC s λs b=>eI .i64 s λs=>eC b λb u=>eS 2 b λb w p=>eC u λu q=>eT u λu=>eC q λq g=>eBv q λq=>eN g (Aq (Ao (x - 1)) n (eO a λg=>eO (ld h g.1 (g.2+((Ao (x - (1:Int))).toNat)) 0 6) λg=>eC g λg i=>eI .i64 g λg=>eC i λi j=>eI .i64 i λi=>eC j λj k=>eI .i64 j λj=>eC k λk d=>eS 2 k λk e f=>eC d λd A=>eT d λd=>eC A λA B=>eBv A λA=>eN B (Ai (Ae lo m (Dy [AD v o s b w p u q,AD g i j k e f d A] l) h) λv o=>eI .i64 v λv=>br (decide (v<0)) (Aq (Ao (x - 1)) n (eO a λv=>eO (ld o v.1 (v.2+((Ao (x - (1:Int))).toNat)) 0 6) λv=>eC v λv s=>eI .i64 v λv=>eC s λs b=>eI .i64 s λs=>eC b λb u=>eI .i64 b λb=>eC u λu w=>eS 2 u λu p q=>eC w λw g=>eT w λw=>eC g λg i=>eBv g λg=>eN i (Aq x n (eO a λi=>eO (ld o i.1 (i.2+x.toNat) 0 6) λi=>eC i λi j=>eI .i64 i λi=>eC j λj k=>eI .i64 j λj=>eC k λk d=>eI .i64 k λk=>eC d λd e=>eS 2 d λd f A=>eC e λe B=>eT e λe=>eC B λB C=>eBv B λB=>eN C (Aq x n (eO a λC=>eO (st lo o C.1 (C.2+x.toNat) 0 (Cf v s b u p q w g)) λv=>Aq (Ao (x - 1)) n (eO a λs=>eO (st lo v s.1 (s.2+((Ao (x - (1:Int))).toNat)) 0 (Cf i j k d f A e B)) λv=>Bc lo a n c y z m l t (Ao (x - 1)) v))))))) (Bd lo a n c y z m l (Ao (t+1)) o)))))) (Bd lo a n c y z m l (Ao (t+1)) h) :=
 lE
end


structure Tag where
 time:Int
 place:Int
 deriving DecidableEq
def Tag.cs (t:Tag):List V := [Iv t.time,Iv t.place]
def An (n a b:Int):Bool:=decide (a<=n)&&decide (n<=b)
def A6 (t:Int) (p:Int):Bool:=(t==0&&p==0) || (An t 1 999&&An p 0 2)
def GA (t p t' p':Int):Bool:=decide (t<t') || (t==t'&&decide (p<p'))
section
variable {lo:Nat}{h:Heap}{a b c d e:Int}
theorem FI:Ae lo 63 [Iv a,Iv b,Iv c] h=some (.bool (An a b c),h) :=
 Rp (h':=h) (by simp[An])
theorem Bp:Ae lo 54 [Iv a,Iv b,Iv c] h=some (.bool (An a b c),h) :=
 UZ (h':=h) (by simp[An])
theorem Md:Ae lo 62 [Iv a] h=some (.bool (An a 0 2),h):=Qv (h':=h) (by simp[FI])
theorem VI:Ae lo 202 [Iv a] h=some (.bool (An a 0 3),h):=Tt (h':=h) (by simp[FI])
theorem PS:Ae lo 144 [.agg [Iv a,Iv b]] h=some (.bool (A6 a b),h) :=
 Tv (h':=h) (by simp[FI,Md,A6])
theorem LS:Ae lo 123 [.agg [Iv a,Iv b]] h=some (.bool (A6 a b),h) :=
 Qq (h':=h) (by simp[Bp,A6])
theorem BF:Ae lo 197 [.agg [Iv a,Iv b],.agg [Iv c,Iv d]] h=some (.bool (GA a b c d),h) :=
 Rl (h':=h) (by simp[GA])
theorem U6 {t p:Int} (h:A6 t p=true):(!(t==0&&p==0))=decide (t>0):=by rw[zcq];simp[A6,An] at h ⊢;omega
def Cd {α:Type} (p:α->Bool):List α->Nat->Int
 | [],_ => -1
 | x :: r,k=>bif p x then (k:Int) else Cd p r (k+1)
theorem IH {α:Type}{p:α->Bool}:∀ {l:List α}{k:Nat},decide (Cd p l k>=0)=l.any p
 | [],k=>by simp[Cd]
 | x :: r,k=>by
  simp only[Cd,List.any_cons];by_cases h:p x=true
  ·simp[h]
  ·simpa [h] using IH (p:=p) (l:=r) (k:=k+1)
def Qd (a b:Int):Int:=if a<b then -1 else if b<a then 1 else 0
theorem XP:Ae lo 213 [Iv a] h=some (.bool false,h):=OM (h':=h) (by simp)
theorem UK:Ae lo 141 [Iv a,Iv b] h=some (Iv (Qd a b),h) :=
 ML (h':=h) (by
  simp only[XP,Ac,Az,Ay];unfold Qd;by_cases h1:a<b
  ·rw[Ak h1,if_pos h1]
  ·rw[Aj h1,if_neg h1];by_cases h2:b<a
   ·rw[Ak h2,if_pos h2]
   ·rw[Aj h2,if_neg h2])
theorem V1:Ae lo 140 [.sl 1 (some (h.length,0)) 2 (some 2)] (h ++ [.rows 1 3 false [[Iv a],[Iv b]]])=some (Iv (if a=0 then b else a),h ++ [.rows 1 3 false [[Iv a],[Iv b]]]) :=
 Tw (h':=h ++ [.rows 1 3 false [[Iv a],[Iv b]]]) (by
  rw[Ds.e,Ak (by decide),Cu (by decide)];simp only[Ag];rw[SF (row := [Iv a]) (by rfl)];simp only[cut,Ag,Ab,Af,Aa];by_cases h1:a=0
  ·subst h1;rw[if_pos rfl,show ((0:Int)==0)=true from rfl,Ap,show Ao (0+1)=((1:Nat):Int) from At (k:=0) (by decide),Ds.e,Ak (by decide),Cu (by decide)];simp only[Ag];rw[SF (row := [Iv b]) (by rfl)];simp only[cut,Ag,Ab,Af,Aa];by_cases h2:b=0
   ·subst h2;rw[show ((0:Int)==0)=true from rfl,Ap,show Ao (((1:Nat):Int)+1)=((2:Nat):Int) from At (k:=1) (by decide),Ds.e,Aj (by decide)]
   ·rw[show (b==0)=false by simpa using h2,Ay]
  ·rw[if_neg h1,show (a==0)=false by simpa using h1,Ay])
theorem SK:Ae lo 70 [.agg [Iv a,Iv b],.agg [Iv c,Iv d]] h=some (Iv (if Qd a c=0 then Qd b d else Qd a c),h) :=
 Lx (h':=h ++ [.rows 1 3 false [[Iv (Qd a c)],[Iv (Qd b d)]]]) (by
  simp only[UK,Ac,Aa,V1])
theorem Y4:decide ((if Qd a c=0 then Qd b d else Qd a c)<0)=GA a b c d:=by
 unfold Qd GA;by_cases h1:a<c
 ·simp[h1]
 ·by_cases h2:c<a
  ·simp[h1,h2];omega
  ·have:a=c:=by omega
   subst this;by_cases h3:b<d
   ·simp[h3]
   ·simp[h3];split<;>simp
theorem HN:Ae lo 15 [.agg [Iv a,Iv b],.agg [Iv c,Iv d]] h=some (.bool (GA a b c d),h) :=
 Qx (h':=h) (by simp only[SK,Ac,Aa,OZ,Y4];simp)
end
end Go.Proofs.YtmgopagfoemomaaGreat
