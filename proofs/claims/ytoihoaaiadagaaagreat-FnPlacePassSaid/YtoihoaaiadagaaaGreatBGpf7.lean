/- Part 7 of what is shown for the law Gpf, whatever the input; no condition of its own. -/
import Derived.Test.YtoihoaaiadagaaaGreatBGpf6
import Derived.Below
import Derived.Tactics
import Derived.Orders
import Derived.Laws.Sem
import Derived.Laws.World
import Derived.Laws.Cells
import Derived.Laws.StructEq
import Derived.Laws.Cover3
import Derived.Laws.BitsLemmas
import Derived.Laws.BytesString
import Derived.IntWalk
import Derived.Laws.Append
import Derived.Test.YtoihoaaiadagaaaGreatProg
import Derived.KernelRfl
import Derived.ProofKit
import Derived.Laws.Strings
import Derived.Test.YtoihoaaiadagaaaGreatRows
import Derived.JoinedOf
import Derived.WalkKit
import Derived.OpenShut
import Derived.ShutString
import Derived.ChangeOld
set_option linter.unusedVariables false
set_option linter.unusedSimpArgs false
set_option linter.unnecessarySimpa false
set_option maxRecDepth 100000
namespace Go.Proofs.YtoihoaaiadagaaaGreat
open Go
theorem fx_split {a b:Bool} (h1:a=true) (h2:b=true):(a&&b)=true:=by rw[h1,h2];rfl
theorem fx2:laidOutB Tryz.pinned.checked.prog=true:=by kernel_rfl
theorem fx3:mapsRowed Tryz.pinned.checked.prog=true:=by kernel_rfl
theorem fx23:(Rows.fnPlaceTakeRow.plainKeys==Tryz.pinned.checked.prog.plainKeys)=true:=by kernel_rfl
theorem fx25:Tryz.pinned.checked.prog.stopsHeard=true:=by kernel_rfl
theorem fx26:Tryz.pinned.checked.prog.mayEnter=true:=by kernel_rfl
theorem fx27:(Rows.fnPlaceTakeRow.lifted==Tryz.pinned.checked.prog.liftsFinal)=true:=by kernel_rfl
theorem fx28:(Tryz.pinned.checked.prog.make==some Rows.fnPlaceTakeRow.make)=true:=by kernel_rfl


variable {l:List Node}
section
variable {lo:Nat}{h:Heap}{F F':List Nat}{a:Pq}{c:Nq}
theorem RW {a0:Pq}{c0:Nq}{code:List UInt8} (hs:RBytes h [.sl 1 a0 code.length c0] code F) (hF:∀ y∈F,y<lo) (hl:lo≤h.length) (hn:code.length≤1048576) (hcap:∀ k,c0=some k→code.length≤k) :
  ∃ (p:Place) (cs:List V) (k:Int) (h':Heap) (F':List Nat),Ae lo 42 [.sl 1 a0 code.length c0] h=some (.tup [.agg cs,Iv k],h')∧BZ false h' cs p F'∧Z0 p∧lo≤h'.length:=by
 obtain ⟨b,h1,e1,r1,m1⟩:=Sm hs hF hl hn hcap;obtain ⟨p,cs,h2,F2,e2,t2,sm2,hb,r2,l2⟩:=PX r1 (by omega) (zbN hl m1.le);obtain ⟨k,h3,e3,_,r3,m3⟩:=DV (e:=3) [0,0,1,2,3,-1] (rows := [[Iv 0],[Iv 0],[Iv 1],[Iv 2],[Iv 3],[Iv (-1)]]) (len:=6) (cc:=some 6) r2 (by omega) rfl rfl (by decide);refine ⟨p,cs,k,h3,F2,KF ?_,m3.keep DH t2 (fun y hy hm=>hb (by rw[zbW] at hm;exact hm ▸ hy)),sm2,zbN l2 m3.le⟩;obtain ⟨x1,y1,x2,y2,x3,y3,rfl,_⟩:=t2;rw[e1,Ac,zbw,e2,Ac,AC,Ab,Aa,Ab,Aa,Ab,Ah,Ab,Ah,Ab,Ah,Ab,Aw,Ag,e3,Ac,Aa]
end
theorem Wm (hc:Ch l) {k i key:Nat}{v u:Ver}{x:Node} (hk:k<l.length) (h1:1<l.length) (hi:i<l.length) (hv:GG l i key=some v) (hx:(Bq l k)[0]?=some x) (hu:x.store[key]?=some u):HF u.tag.time u.tag.place v.tag.time v.tag.place=false:=by
 have hql:BJ l i<l.length:=by unfold BJ;split<;>omega
 have hq1:1≤BJ l i:=by unfold BJ;split<;>omega
 have hy:=Dd hql;unfold GG at hv;rw[CI hql] at hv;have key:∃ (q:Nat) (z:Node),q≤1∧l[q]?=some z∧x.store=z.store:=by
  rw[Iw hk] at hx;split at hx
  ·rw[zcv] at hx;obtain ⟨z,hz,rfl⟩:=hx;exact ⟨0,z,by omega,hz,rfl⟩
  ·split at hx
   ·exact ⟨0,x,by omega,hx,rfl⟩
   ·exact ⟨1,x,by omega,hx,rfl⟩
 obtain ⟨q,z,hq,hz,hxz⟩:=key;rw[hxz] at hu;have up:=hc.up (BJ l i - q) q z _ hz (by rw[show q+(BJ l i - q)=BJ l i by omega];exact hy);rw[GS];rcases up _ _ _ hv hu with rfl | g
 ·omega
 ·rw[GT] at g;omega
theorem Yd {p:Place}{f:Int} (hc:Bk p f=true):∃ n:Nat,f=(n:Int)∧n<p.chain.length∧1<p.chain.length∧(A6 p f).chain=Bq p.chain n∧(A6 p f).fell = !Qm (Bq p.chain n)∧∃ r,(A6 p f).log=p.log++r:=by
 have hc':=hc;unfold Bk at hc';rw[Dm] at hc';obtain ⟨n,rfl,g1,g2⟩:=LC hc'.2;have hx:A6 p (n:Int)=BL (IV p n):=by unfold A6;rw[hc,cond_true,A7]
 rw[hx];exact ⟨n,rfl,g1,g2,rfl,by show (true && !Qm (Bq p.chain n))=_;rw[zb8],noted_has.2⟩
section
variable {lo:Nat}{h:Heap}{F:List Nat}{a:Pq}{c:Nq}
theorem OP {k key:Nat} (hs:RNodes false h [.sl 2 a l.length c] l F) (hok:Cz l=true) (hn:Ci l) (hk:k<l.length) (hst:∀ x∈l,AH x.store=true) (hkey:key<4) (hl:lo≤h.length) :
  ∃ v a' c' h',Ae lo 16 [.agg [.sl 2 a l.length c],Iv (k:Nat),Iv (key:Nat)] h=some (.tup [.agg (Ver.cs v a' c'),.bool true],h')∧GG l k key=some v∧Mv h [] h' []:=by
 have hb:(h ++ [Blk.rows 1 25 false [[.sl 2 a l.length c]]])[h.length]?=some (.rows 1 25 false [[.sl 2 a l.length c]]):=by simp
 have hld:ld (h ++ [Blk.rows 1 25 false [[.sl 2 a l.length c]]]) h.length 0 (0+0) 1=some [.sl 2 a l.length c]:=by rw[BB hb rfl];rfl
 have m0:Mv h [] (h ++ [Blk.rows 1 25 false [[.sl 2 a l.length c]]]) []:=Mv.snoc;have hs':=m0.keep0 rnodes_ok hs;obtain ⟨v,a',c',h',e,hsh,m⟩:=Wc (lo:=lo) (b:=h.length) (i:=0) (j:=0) hld (fun K=>Ah 2 a l.length c K) hs' hk hst hkey (zbN hl m0.le) hn.1;have hld':ld (h ++ [Blk.rows 1 25 false [[.sl 2 a l.length c]]]) h.length 0 0 1=some [.sl 2 a l.length c]:=hld;simp only[Ver.cs] at e;refine ⟨v,a',c',h',Nd ?_,hsh,m0.trans m⟩;rw[hld',Af,Ab,Ah,Ag,JM hs' hn,Ac,Av,hok,An,e,Ac,Ge,Ab,AC,Ab,Aa,Ab,Aa,Ab,Aa,Ab,Ah,Ab,A8,Ab,Aw,Ag,Ab,Av,An,Ag]
end


theorem OL {h:Heap}{F:List Nat}{a0:Pq}{c0:Nq}{code:List UInt8} (hs:RBytes h [.sl 1 a0 code.length c0] code F) (hF:∀ y∈F,y<h.length) (hcap:∀ k,c0=some k→code.length≤k) :
  ∃ h',Ae h.length 9 [.sl 1 a0 code.length c0] h=some (.bool true,h'):=by
 suffices hk:∃ h',_=some (V.bool true,h') from by obtain ⟨h',e⟩:=hk;exact ⟨h',LR e⟩
 by_cases hbig:(code.length:Int)>1048576
 ·rw[Ak hbig];exact ⟨h,rfl⟩
 rw[Ai hbig];obtain ⟨p,cs,f,h1,F1,e1,r1,sm1',l1⟩:=RW (lo:=h.length) hs hF (zbR _) (by omega) hcap;have sm1:=sm1'.1;obtain ⟨raw2,cs2,h2,F2,e2,n2,r2,m2⟩:=Kq (lo:=h.length) (k:=f) r1 l1 sm1;have r12:=m2.keep0 DH r1;have l2:=zbN l1 m2.le;obtain ⟨raw3,cs3,h3,F3,e3,n3,r3,m3⟩:=PL (lo:=h.length) (k:=f) r12 l2 sm1;have r13:=m3.keep0 DH r12;have l3:=zbN l2 m3.le;have r23:=m3.keep0 DH r2;have hX:∃ X,DT p (A6 p f)=X:=⟨_,rfl⟩;obtain ⟨X,hX⟩:=hX;have hokx:Ao p=true→Ao (A6 p f)=true:=fun hpo=>WS hpo (by have:=sm1'.2;omega);have hsm:CT X:=by
  rw[← hX];unfold DT;cases hpo:Ao p with
  | false=>exact WL
  | true=>exact (Fe (Cg (hokx hpo)) (by decide) (by decide) (by decide)).1
 rw[hX] at n2 n3 r3 r23;obtain ⟨s1,s2,s3,x1,y1,x2,y2,x3,y3,rfl,k1,k2,k3,rfl⟩:=n2;obtain ⟨t1,t2,t3,z1,w1,z2,w2,z3,w3,rfl,j1,j2,j3,rfl⟩:=n3;obtain ⟨b1,d1,b2,d2,b3,d3,rfl,q1⟩:=r13;obtain ⟨_,_,_,_,_,_,_,q2⟩:=r23;obtain ⟨_,_,_,_,_,_,_,q3⟩:=r3;obtain ⟨K1,K2,K3,hF2eq,f1,f2,f3⟩:=q2.cells;obtain ⟨G1,G2,G3,_,g1,g2,g3⟩:=q1.cells;simp only[Place.cs] at e1 e2 e3;have cf:=Pn (lo:=h.length) q2 q3 hsm;have ok1:=Ga (lo:=h.length) g1 g2 g3 sm1;simp only[Place.cs] at cf ok1;rw[e1,Ac,Ge,Ab,AC,Ab,Aa,Ab,Aa,Ab,Ah,Ab,Ah,Ab,Ah,Ab,Aw,Ag,Ab,Aa,Ag,e2,Ac,Ge,Ab,AC,Ab,Aa,Ab,Aa,Ab,k1,Ab,k2,Ab,k3,Ab,Aw,Ag,Ab,Av];cases hpo:Ao p with
 | false =>rw[hpo] at e3 ok1;rw[zcZ] at e3 ⊢;rw[Au,Ag,e3,Ac,Ge,Ab,AC,Ab,Aa,Ab,Aa,Ab,j1,Ab,j2,Ab,j3,Ab,Aw,Ag,Ab,Av,Au,Ag,cf,Ac,Av,An,ok1,Ac,Av,Au,cf,Ac,Av,An];exact ⟨_,rfl⟩
 | true =>
 rw[hpo] at e3 ok1;rw[zb8] at e3 ⊢;have hX':X=A6 p f:=by rw[← hX];unfold DT;rw[hpo];rfl
 cases hcj:Bk p f with
 | false =>
  have hX2:X=p:=by rw[hX'];unfold A6;rw[hcj];rfl
  clear hX';subst hX2;rw[hcj] at e3;have cf2:=Pn (lo:=h.length) q2 q1 sm1;simp only[Place.cs] at cf2;rw[Au,Ag,e3,Ac,Ge,Ab,AC,Ab,Aa,Ab,Aa,Ab,j1,Ab,j2,Ab,j3,Ab,Aw,Ag,Ab,Av,Au,Ag,cf,Ac,Av,An,ok1,Ac,Av,An,cf2,Ac,Av,An];exact ⟨_,rfl⟩
 | true =>
 have hch:=HA hpo;have hxo:Ao X=true:=by rw[hX'];exact hokx hpo
 have hchx:Ch X.chain:=HA hxo;have hxpos:=hchx.pos;obtain ⟨n,rfl,hn,hn1,hXc,hXf,rr,hlog⟩:=Yd hcj;rw[← hX'] at hXc hXf hlog;have hst:∀ x∈p.chain,AH x.store=true:=fun x hx=>(Ay ((BY (AK hpo).2.2.2.1).2 x hx)).1
 have hco:=(AK hpo).2.2.2.1;have ok2:∀ lo hh,Mv h3 [] hh []→Ae lo 25 [.agg (X.cs x1 y1 x2 y2 x3 y3)] hh=some (.bool true,hh):=fun lo hh m=>by rw[← hxo];exact Ga (m.keep0 rnodes_ok f1) (m.keep0 rvers_ok f2) (m.keep0 rvss_ok f3) hsm
 simp only[Place.cs] at ok2;have hXl:=hsm.1.1;have hpl:=sm1.1.1;have hw0:∀ {l:List Node},(l.any fun x=>decide (0<x.wait.length)) = !Qm l:=fun {l}=>by
  unfold Qm;induction l with
  | nil=>rfl
  | cons x l ih=>rw[zdu,List.all_cons,ih,Bool.not_and];congr 1;cases x.wait<;>rfl
 have loop0:=Hp (n:=X.chain.length) (fun i=>Bf h.length false ((X.chain.take i).any fun x=>decide (0<x.wait.length)) (i:Nat) p.me p.clock b1 p.chain.length d1 b2 p.log.length d2 b3 p.got.length d3 p.fell X.me X.clock x1 X.chain.length y1 x2 X.log.length y2 x3 X.got.length y3 X.fell h3) fun i hi=>by
  have hnext:((X.chain.take (i+1)).any fun x=>decide (0<x.wait.length))=(((X.chain.take i).any fun x=>decide (0<x.wait.length)) || decide (0<X.chain[i].wait.length)):=by rw[zc6 hi,List.any_append,zdu,List.any_nil,zdp]
  rw[hnext,Bf.e,Ak (by omega)];cases hb:((X.chain.take i).any fun x=>decide (0<x.wait.length)) with
  | true=>rw[An,Bool.true_or,Am (by omega)]
  | false =>
   obtain ⟨o,v1,v2,c1,e1',c2,e2',H1,H2,ha,_,_,ho2,_,es2,_,_,_⟩:=f1.get hi;rw[Au,Ad hi,ha,Af,A7,ho2,Af,Ab,Ag,es2,zcL,← ha];by_cases hwt:0<X.chain[i].wait.length
   ·rw[Ak (by omega),Am (by omega),decide_eq_true hwt]
   ·rw[Ai (by omega),Am (by omega),decide_eq_false hwt]
 rw[zdn,show ((X.chain.take 0).any fun x=>decide (0<x.wait.length))=false from rfl,hw0 (l:=X.chain)] at loop0;obtain ⟨W,hW⟩:∃ W,(!Qm X.chain)=W:=⟨_,rfl⟩;rw[hW] at loop0;have hXW:X.fell=W:=by rw[hXf,← hXc,hW]
 obtain ⟨o,v1,v2,c1,e1',c2,e2',H1,H2,ha,_,ho1,_,es1,_,px,_⟩:=f1.get hxpos;have hs4:=(hchx.store (Dd hxpos)).2;have inner:∀ m j hh (i:Nat),m+j=4→i<p.chain.length→Mv h3 [] hh []→∃ hh',Bv h.length false W (i:Nat) (j:Nat) p.me p.clock b1 p.chain.length d1 b2 p.log.length d2 b3 p.got.length d3 p.fell X.me X.clock x1 X.chain.length y1 x2 X.log.length y2 x3 X.got.length y3 X.fell hh=AY h.length false W ((i+1:Nat):Int) p.me p.clock b1 p.chain.length d1 b2 p.log.length d2 b3 p.got.length d3 p.fell X.me X.clock x1 X.chain.length y1 x2 X.log.length y2 x3 X.got.length y3 X.fell hh'∧Mv h3 [] hh' []:=by
  intro m;induction m with
  | zero =>intro j hh i hj hi mm;rw[Bv.e,Ai (by omega),Am (by omega)];exact ⟨hh,rfl,mm⟩
  | succ m ih =>
   intro j hh i hj hi mm;obtain ⟨v,a',c',h5,e5,hsh,m5⟩:=OP (lo:=h.length) (k:=i) (key:=j) (mm.keep0 rnodes_ok g1) hco sm1.1 hi hst (by omega) (zbN l3 mm.le);have mm5:=mm.trans m5;have hjs:j<X.chain[0].store.length:=by omega
   obtain ⟨o',_,_,_,_,_,_,_,_,ha',_,ho1',_,es1'',_,px',_⟩:=(mm5.keep0 rnodes_ok f1).get hxpos;obtain ⟨o3,_,_,_,_,ha3,_,_,_,_,_,_,ho12,_⟩:=px'.all hjs;have hlt:=Wm hch hn hn1 hi hsh (x:=X.chain[0]) (by rw[← hXc];exact Dd hxpos) (Dd hjs);simp only[Ver.cs] at e5;obtain ⟨hh',q1,q2⟩:=ih (j+1) h5 i (by omega) hi mm5;refine ⟨hh',?_,q2⟩;rw[← q1,Bv.e,Ak (by omega),e5,Ac,Ge,Ab,AC,Ab,Aa,Ab,Aa,Ab,Aa,Ab,Ah,Ab,A8,Ab,Aw,Ag,Ab,Av,An,Ag,Cl ⟨by omega,by omega⟩,ha',Af,ho1',Af,Ab,Ag,es1'',Ad hjs,ha3,Af,A7,ho12,Af,Ab,Aa,Ab,Aa,Ag,HV,Ac,Av,hlt,Au,Am (by omega),← ha']
 have outer:∀ m i hh,m+i=p.chain.length→Mv h3 [] hh []→∃ hh',AY h.length false W (i:Nat) p.me p.clock b1 p.chain.length d1 b2 p.log.length d2 b3 p.got.length d3 p.fell X.me X.clock x1 X.chain.length y1 x2 X.log.length y2 x3 X.got.length y3 X.fell hh=AY h.length false W (p.chain.length:Nat) p.me p.clock b1 p.chain.length d1 b2 p.log.length d2 b3 p.got.length d3 p.fell X.me X.clock x1 X.chain.length y1 x2 X.log.length y2 x3 X.got.length y3 X.fell hh'∧Mv h3 [] hh' []:=by
  intro m;induction m with
  | zero=>intro i hh hi mm;rw[show i=p.chain.length by omega];exact ⟨hh,rfl,mm⟩
  | succ m ih =>intro i hh hi mm;obtain ⟨h5,q1,m5⟩:=inner 4 0 hh i rfl (by omega) mm;obtain ⟨h6,q2,m6⟩:=ih (i+1) h5 (by omega) m5;refine ⟨h6,?_,m6⟩;rw[← q2,← q1,AY.e,Ak (by omega)];rfl
 obtain ⟨h5,q5,m5⟩:=outer p.chain.length 0 h3 rfl Mv.nil;have l5:=zbN l3 m5.le;have r25:BZ false h5 (X.cs x1 y1 x2 y2 x3 y3) X F2:=⟨_,_,_,_,_,_,rfl,m5.keep0 rplace_ok q2⟩;obtain ⟨raw6,cs6,h6,F6,e6,n6,r6,m6⟩:=Kq (lo:=h.length) (k:=0) r25 l5 hsm;obtain ⟨s1',s2',s3',xx1,yy1,xx2,yy2,xx3,yy3,rfl,kk1,kk2,kk3,rfl⟩:=n6;have mm6:=m5.trans m6.drop;have l6:=zbN l5 m6.le;obtain ⟨h7,e7,m7⟩:=Vj (lo:=h.length) (mm6.keep0 rnodes_ok f1) l6 hsm.1 hchx (AK hxo).2.2.2.2.1;have mm7:=mm6.trans m7;have nF:F2.Nodup:=m2.nd;have hF2:F2=K1++(K2++K3):=hF2eq;have nK2:K2.Nodup:=by rw[hF2,zbQ,zbQ] at nF;exact nF.2.1.1
 have hle:p.log.length≤X.log.length:=by rw[hlog];simp
 obtain ⟨F9,t9,_,_⟩:=(mm7.keep0 rvers_ok f2).first hle nK2;have htake:X.log.take p.log.length=p.log:=by rw[hlog];simp
 rw[htake] at t9;have hbb:∀ b:Bool,(b==b)=true:=fun b=>by cases b<;>rfl
 have cfl:∀ {T:Type} (K:V→Heap→Option T),True:=fun _=>trivial;simp only[Place.cs] at e6;refine ⟨h7,?_⟩;rw[hcj] at e3;rw[An,Ag,e3,Ac,Ge,Ab,AC,Ab,Aa,Ab,Aa,Ab,j1,Ab,j2,Ab,j3,Ab,Aw,Ag,Ab,Av,An,Ag,cf,Ac,Av,An,ok1,Ac,Av,An];refine loop0.trans ?_;rw[Bf.e,Ai (by omega)];refine q5.trans ?_;have e8:=QI (lo:=h.length) t9 (mm7.keep0 rvers_ok g2) sm1.2.1;have e9:=@ED;cases hWb:W with
 | true =>
  have hag:(Ao X&&Bk X 0)=false:=by unfold Bk;rw[hXW,hWb,hxo];rfl
  rw[hWb] at hXW;rw[hag] at e6;rw[AY.e,Ai (by omega),e6,Ac,Ge,Ab,AC,Ab,Aa,Ab,Aa,Ab,kk1,Ab,kk2,Ab,kk3,Ab,Aw,Ag,Ab,Av,Au,Ag,ok2 _ _ mm6,Ac,Av,An,e7,Ac,Av,An,hXW,hbb,An,zcE,Au,Au,Au,ED (mm7.keep0 rvers_ok f2) hle,e8,Ac,Av,An]
 | false =>
  rw[hWb] at hXW;cases hag:(Ao X&&Bk X 0) with
  | true =>rw[hag] at e6;rw[AY.e,Ai (by omega),e6,Ac,Ge,Ab,AC,Ab,Aa,Ab,Aa,Ab,kk1,Ab,kk2,Ab,kk3,Ab,Aw,Ag,Ab,Av,An,Ag,ok2 _ _ mm6,Ac,Av,An,e7,Ac,Av,An,hXW,hbb,An,zcR,An,An,An,ED (mm7.keep0 rvers_ok f2) hle,e8,Ac,Av,An]
  | false =>rw[hag] at e6;rw[AY.e,Ai (by omega),e6,Ac,Ge,Ab,AC,Ab,Aa,Ab,Aa,Ab,kk1,Ab,kk2,Ab,kk3,Ab,Aw,Ag,Ab,Av,Au,Ag,ok2 _ _ mm6,Ac,Av,An,e7,Ac,Av,An,hXW,hbb,An,zcR,An,An,An,ED (mm7.keep0 rvers_ok f2) hle,e8,Ac,Av,An]
theorem main_FnPlaceFall {h:Heap}{x:V} (hx:ArgV Tryz.prog h 12 22 x):∃ h',Ae h.length 9 [x] h=some (.bool true,h'):=by obtain ⟨a,c,l,F,rfl,h1,h2,h3⟩:=Vm (n:=10) hx;exact OL h1 h2 h3
end Go.Proofs.YtoihoaaiadagaaaGreat
