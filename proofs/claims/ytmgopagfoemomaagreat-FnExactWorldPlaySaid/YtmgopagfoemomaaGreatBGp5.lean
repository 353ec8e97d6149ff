/- Part 5 of what is shown for the law Gp, whatever the input; no condition of its own. -/
import Derived.Test.YtmgopagfoemomaaGreatBGp4
set_option linter.unusedVariables false
set_option linter.unusedSimpArgs false
set_option linter.unnecessarySimpa false
set_option maxRecDepth 100000
namespace Go.Proofs.YtmgopagfoemomaaGreat
open Go T


section
variable {lo b:Nat}{h h':Heap}{w:World}{a1 a2 a3 a4 a:Pq}{c1 c2 c3 c4 c:Nq}{F1 F2 F3 F4:List Nat}{k b2 i2:Nat}
theorem zcV {b:Bool}{h:Heap}:br b (some (V.bool true,h)) (some (V.bool false,h))=some (V.bool b,h):=by cases b<;>rfl
theorem NE {e:Event} (H:WN lo h b w a1 c1 a2 c2 a3 c3 a4 c4 F1 F2 F3 F4) (hg:Fits w) (hes:e.text.size<=1048576) :
  ∃ h' F',Af lo 148 [.ptr (some (b,(0,0))),.agg e.cs] h=some (.bool (Ef w e).isSome,h')/\Ik lo h' b ((Ef w e).getD w) F'/\Mv h (b ::(F1++(F2++(F3++F4)))) h' F':=by
 suffices hq:∃ h' F',_=some (V.bool (Ef w e).isSome,h')/\Ik lo h' b ((Ef w e).getD w) F'/\Mv h (b ::(F1++(F2++(F3++F4)))) h' F' from by obtain ⟨h',F',e1,hr⟩:=hq;exact ⟨h',F',L6 e1,hr⟩
 have hs4:=hg.ok.s4;obtain ⟨X,hX⟩:∃ X,Ef w e=X:=⟨_,rfl⟩;rw[hX];unfold Ef at hX;rw[H.cell.2.1,Ae,Aa,Ag,Ai,wr (by omega) (by omega),Bk,Ad,Ax];cases hin:Ah e.at' 0 ((w.sess.length:Int) - 1) with
 | false =>rw[hin,cond_false] at hX;rw[Az];exact H.stay Mv.nil hX.symm
 | true =>
 rw[hin,cond_true] at hX;simp only[Ah,DH,decide_eq_true_eq] at hin;obtain ⟨k,he⟩:∃ k:Nat,e.at'=(k:Int):=⟨e.at'.toNat,by omega⟩;have hk:k<w.sess.length:=by omega
 have hkn:e.at'.toNat=k:=by omega
 rw[hkn,DZ hk] at hX;simp only[] at hX;obtain ⟨b2,i2,rs,v,x,y,G,rfl,hil,hb2,_,_,_,_,hF2,_⟩:=H.sess hk;obtain ⟨_,_,_,_,lp,_,lw,_,_,_⟩:=H.row hk;have lw':ld h b2 (i2+k) 2 2=some [Iv w.sess[k].wait.time,Iv w.sess[k].wait.place]:=lw;obtain ⟨t1,t2,t3,t4,t5,t6⟩:=BD (hg.ok.sess _ (zdf hk));rw[Aq,H.cell.2.1,Ae,Aa,Ag,Ai,DE ⟨by omega,by omega⟩,Ae,hkn,lw',Ae,Aa,Ab,Aa,Ab,Ag];have done:∀ {Y:Option World}{h':Heap}{F':List Nat},Y=X->Ik lo h' b (Y.getD w) F'->Mv h (b ::(F1++(F2++(F3++F4)))) h' F'->∃ h'' F'',br Y.isSome (some (V.bool true,h')) (some (V.bool false,h'))=some (V.bool X.isSome,h'')/\Ik lo h'' b (X.getD w) F''/\Mv h (b ::(F1++(F2++(F3++F4)))) h'' F'':=λ{Y h' F'} e W M=>by subst e;exact ⟨h',F',zcV,W,M⟩
 by_cases hw:w.sess[k].wait.time=0
 ·have hwp:w.sess[k].wait.place=0:=by have:=QG t3;rw[hw] at this;simpa using this
  have hz:((w.sess[k].wait.time==(0:Int))&&((w.sess[k].wait.place==(0:Int))&&true))=true:=by rw[hw,hwp];rfl
  rw[hz,Aq];cases h2:e.kind==(2:Int) with
  | true =>
   rw[Aq];have h2':e.kind=2:=by simpa using h2
   have:Jn w k w.sess[k]=none:=by unfold Jn;rw[hw];split<;>(try rfl);split<;>rfl
   rw[h2'] at hX;exact H.stay Mv.nil (hX.symm.trans this)
  | false =>
  rw[Az];rw[h2] at hX;cases h1:e.kind==(1:Int) with
  | true =>rw[h1,cond_true] at hX;obtain ⟨h',F',q1,q2,q3⟩:=OJ H hg hk he hw hes;simp only[Event.cs] at q1;rw[Aq,q1,Ad,Ax];exact done hX q2 q3
  | false =>
  rw[h1,cond_false,cond_false] at hX;rw[Az,Az];cases h3:e.kind==(3:Int) with
  | true =>rw[h3,cond_true] at hX;obtain ⟨h',F',q1,q2,q3⟩:=PZ H hg hk he hw;simp only[Event.cs] at q1;rw[Aq,q1,Ad,Ax];exact done hX q2 q3
  | false =>
  rw[h3,cond_false] at hX;rw[Az];cases h4:e.kind==(4:Int) with
  | true =>rw[h4,cond_true] at hX;obtain ⟨h',F',q1,q2,q3⟩:=Rz H hg hk he hw;simp only[Event.cs] at q1;rw[Aq,q1,Ad,Ax];exact done hX q2 q3
  | false =>
  rw[h4,cond_false] at hX;rw[Az,Ev,Ad,Ax];unfold TM at hX;rw[hw,show (!decide ((0:Int)>0))=true from rfl,zdu] at hX;cases hm:Ah e.num 0 2 with
  | false =>rw[hm,cond_false] at hX;rw[Az];exact H.stay Mv.nil hX.symm
  | true =>rw[hm,cond_true] at hX;obtain ⟨b2',i2',rs',v',ha',lob,hil',hb',put'⟩:=H.sets hk;injection ha' with ha';injection ha' with z1 z2;subst z1;subst z2;have s1:=On (lo:=lo) (j:=0) (cs := [Iv e.num]) (row' := [Iv e.num,v',Iv w.sess[k].wait.time,Iv w.sess[k].wait.place,Iv w.sess[k].key]) hb' hil' lob rfl;obtain ⟨F2',H7,M7⟩:=put' ⟨e.num,w.sess[k].past,w.sess[k].wait,w.sess[k].key⟩ rfl;rw[Aq,s1,Ae];subst hX;refine ⟨_,_,rfl,?_,M7⟩;have:=H7.at;simpa only [setS,zeu,zd0] using this
 ·have hpos:0<w.sess[k].wait.time:=by have:=IU t3;omega
  have hz:((w.sess[k].wait.time==(0:Int))&&((w.sess[k].wait.place==(0:Int))&&true))=false:=by rw[show (w.sess[k].wait.time==(0:Int))=false by rw[beq_eq_false_iff_ne];omega];rfl
  rw[hz,Az];cases h2:e.kind==(2:Int) with
  | true =>
   have h2':e.kind=2:=by simpa using h2
   rw[h2'] at hX;have hX':Jn w k w.sess[k]=X:=hX;obtain ⟨h',F',q1,q2,q3⟩:=Ry H hg hk he hpos;simp only[Event.cs,h2'] at q1;rw[Aq,h2',show ((2:Int)==1)=false from rfl,Az,Aq,q1,Ad,Ax];exact done hX' q2 q3
  | false =>
   rw[Az];refine H.stay Mv.nil ?_;rw[<- hX,h2];have hd:decide (w.sess[k].wait.time>0)=true:=decide_eq_true hpos;cases e.kind==(1:Int) with
   | true=>rw[cond_true];unfold Eh;rw[hd];split<;>rfl
   | false =>
    rw[cond_false,cond_false];cases e.kind==(3:Int) with
    | true=>rw[cond_true];unfold Gj;rw[hd];split<;>rfl
    | false =>
     rw[cond_false];cases e.kind==(4:Int) with
     | true=>rw[cond_true];unfold JU;rw[hd];split<;>rfl
     | false=>rw[cond_false];unfold TM;rw[hd];rfl
end


section
variable {lo:Nat}{h h':Heap}
theorem XB {p:Place}{b i0:Nat}{rs:List (List V)} (hrl:i0<rs.length) {a1 a2 a3:Pq}{c1 c2 c3:Nq}{G1 G2 G3:List Nat} (hb:h[b]?=some (CC rs i0 (p.cs a1 c1 a2 c2 a3 c3)))
  (g1:RNodes false h [.sl 2 a1 p.chain.length c1] p.chain G1) (g2:RVers false h [.sl 6 a2 p.log.length c2] p.log G2) (g3:RVss false h [.sl 1 a3 p.got.length c3] p.got G3) (hpo:Av p=true)
  (hnd:(b ::(G1++(G2++G3))).Nodup) (hlo':∀ y∈b ::(G1++(G2++G3)),lo<=y) (hl:lo<=h.length) :
  ∃ h' row' F',Af lo 224 [.ptr (some (b,(i0,2)))] h=some (.bool (Eg p.chain),h')/\B7 false h' row' (KR p) F'/\h'[b]?=some (CC rs i0 row')/\Mv h (b ::(G1++(G2++G3))) h' (b :: F'):=by
 have hblt:b<h.length:=(DY hb).1;have hbd:∀ y∈b ::(G1++(G2++G3)),y<h.length:=λy hy=>by
  simp only[zdm,zde] at hy;rcases hy with rfl | hy | hy | hy
  ·exact hblt
  ·exact rnodes_ok.bd _ _ _ _ g1 y hy
  ·exact rvers_ok.bd _ _ _ _ g2 y hy
  ·exact rvss_ok.bd _ _ _ _ g3 y hy
 have hsmN:De p.chain:=KZ (Bd hpo) (by decide) (by decide);have nd:=hnd;rw[zdn,zdg,zde,zde,zdg] at nd;obtain ⟨n1,n2,⟨n3,n4,n5⟩,n6⟩:=nd;simp only[not_or] at n1;obtain ⟨a5,x5,c5,h5,F5,e5,b5,r5,m5⟩:=Zm (lo:=lo) (R:=6) (e:=29) (rs:=rs.set i0 (p.cs a1 c1 a2 c2 a3 c3)) (row:=p.cs a1 c1 a2 c2 a3 c3) (i:=i0) (j:=2) hb (zdr hrl) rfl g1 (Dl hpo) hsmN (by rw[zdn];exact ⟨n1.1,n2⟩) (λy hy=>hlo' y (by simp only[zdm,zde] at hy ⊢;exact hy.imp id .inl)) hl;rw[zd1] at b5;have hx5:=r5.val;subst hx5;have mA:Mv h (b ::(G1++(G2++G3))) h5 (b ::(F5++(G2++G3))):=m5.aside (G:=G2++G3) (by simpa using hnd) (λy hy=>hbd y (by simp only[zdm,zde] at hy ⊢;exact .inr (.inr hy)));have d2:∀ y∈G2,y∉b :: G1:=λy hy hm=>by
  rcases zdm.1 hm with rfl | hm
  ·exact n1.2.1 hy
  ·exact n6 y hm y (by simp[hy]) rfl
 have d3:∀ y∈G3,y∉b :: G1:=λy hy hm=>by
  rcases zdm.1 hm with rfl | hm
  ·exact n1.2.2 hy
  ·exact n6 y hm y (by simp[hy]) rfl
 exact ⟨h5,(KR p).cs a5 c5 a2 c2 a3 c3,F5++(G2++G3),e5,⟨_,_,_,_,_,_,rfl,_,_,_,F5,G2,G3,rfl,rfl,r5,m5.keep rvers_ok g2 d2,m5.keep rvss_ok g3 d3⟩,b5,mA⟩
end
section
variable {lo b:Nat}{h h':Heap}{w:World}{a1 a2 a3 a4 a:Pq}{c1 c2 c3 c4 c:Nq}{F1 F2 F3 F4:List Nat}
def JE (w:World) (e:Event):Option World:=bif e.kind==10 then Ps w e else GD w e
theorem NF {e:Event} (H:WN lo h b w a1 c1 a2 c2 a3 c3 a4 c4 F1 F2 F3 F4) (hg:Fits w) (hkd:6<=e.kind/\e.kind<=10) :
  ∃ h' F',Af lo 149 [.ptr (some (b,(0,0))),.agg e.cs] h=some (.bool (JE w e).isSome,h')/\Ik lo h' b ((JE w e).getD w) F'/\Mv h (b ::(F1++(F2++(F3++F4)))) h' F':=by
 suffices hq:∃ h' F',_=some (V.bool (JE w e).isSome,h')/\Ik lo h' b ((JE w e).getD w) F'/\Mv h (b ::(F1++(F2++(F3++F4)))) h' F' from by obtain ⟨h',F',e1,hr⟩:=hq;exact ⟨h',F',L7 e1,hr⟩
 have hp3:=hg.ok.p3;have hn12:=hg.ok.n12;obtain ⟨X,hX⟩:∃ X,JE w e=X:=⟨_,rfl⟩;rw[hX];unfold JE at hX;rw[Ev,Ad,Ax];cases hin:Ah e.at' 0 2 with
 | false =>rw[Az];refine H.stay Mv.nil ?_;rw[<- hX];unfold Ps GD;rw[hin];cases e.kind==10<;>rfl
 | true =>
 have hin':=hin;simp only[Ah,DH,decide_eq_true_eq] at hin';obtain ⟨q,he⟩:∃ q:Nat,e.at'=(q:Int):=⟨e.at'.toNat,by omega⟩;have hq:q<w.places.length:=by omega
 have hqn:e.at'.toNat=q:=by omega
 obtain ⟨hpo,hme,hro⟩:=hg.at hq;have hn:=(D1 (Bd hpo) (by decide) (by decide) (by decide)).1;obtain ⟨b1,i1,rs,x1,y1,x2,y2,x3,y3,G1,G2,G3,rfl,hil,hb1,g1,g2,g3,nd,hF,put⟩:=H.place hq;have hlo1:∀ y∈b1 ::(G1++(G2++G3)),lo<=y:=λy hy=>(hF y hy).1
 rw[Aq,H.cell.1,Ae,Aa,Ag,Ai,DE ⟨by omega,by omega⟩,Ae,hqn];have done:∀ {Y:Option Place}{h':Heap}{row':List V}{F':List Nat}{p':Place}{ok:Bool},(Y.map (setP w q)=X)->ok=Y.isSome->p'=Y.getD w.places[q]->B7 false h' row' p' F'->h'[b1]?=some (CC rs (i1+q) row')->Mv h (b1 ::(G1++(G2++G3))) h' (b1 :: F') ->
   ∃ h'' F'',br ok (some (V.bool true,h')) (some (V.bool false,h'))=some (V.bool X.isSome,h'')/\Ik lo h'' b (X.getD w) F''/\Mv h (b ::(F1++(F2++(F3++F4)))) h'' F'':=λ{Y h' row' F' p' ok} e1 e2 e3 r hb' m=>by
  obtain ⟨F1',W,M⟩:=put h' row' p' F' hb' r m;subst e1;subst e2;subst e3;refine ⟨h',_,?_,?_,M⟩
  ·rw[zcV];cases Y<;>rfl
  ·cases Y with
   | none=>rw[Option.getD_none,Tw hq] at W;exact W.at
   | some p'=>exact W.at
 have hpl:e.kind≠10->GD w e=X:=λhne=>by rw[show (e.kind==(10:Int))=false by rw[beq_eq_false_iff_ne];exact hne,cond_false] at hX;exact hX
 have hpl2:e.kind≠10->(DG w.places[q] e).map (setP w q)=X:=λhne=>by rw[<- hpl hne];unfold GD;rw[hin,cond_true,hqn,DZ hq]
 cases h6:e.kind==(6:Int) with
 | true =>
  have hk6:e.kind=6:=by simpa using h6
  obtain ⟨h5,row5,F5,e5,r5,b5,m5⟩:=OF (lo:=lo) (k:=e.num) hil hb1 g1 g2 g3 hpo nd hlo1 H.hl;rw[Aq,e5,Ad,Ax];refine done (hpl2 (by omega)) ?_ ?_ r5 b5 m5
  ·unfold DG;rw[h6,cond_true];cases Bw w.places[q].chain e.num<;>rfl
  ·unfold DG;rw[h6,cond_true];cases hc:Bw w.places[q].chain e.num with
   | true=>rfl
   | false=>unfold Er;rw[hc];rfl
 | false =>
 rw[Az];cases h7:e.kind==(7:Int) with
 | true =>
  have hk7:e.kind=7:=by simpa using h7
  obtain ⟨h5,row5,F5,e5,r5,b5,m5⟩:=OG (lo:=lo) (k:=e.num) hil hb1 g1 g2 g3 hpo nd hlo1 H.hl;rw[Aq,e5,Ad,Ax];refine done (hpl2 (by omega)) ?_ ?_ r5 b5 m5
  ·unfold DG;rw[h6,cond_false,h7,cond_true];cases CI w.places[q] e.num<;>rfl
  ·unfold DG;rw[h6,cond_false,h7,cond_true];cases hc:CI w.places[q] e.num with
   | true=>rfl
   | false=>unfold Dx;rw[hc];rfl
 | false =>
 rw[Az];cases h8:e.kind==(8:Int) with
 | true =>
  have hk8:e.kind=8:=by simpa using h8
  obtain ⟨h5,row5,F5,e5,r5,b5,m5⟩:=XB (lo:=lo) hil hb1 g1 g2 g3 hpo nd hlo1 H.hl;rw[Aq,e5,Ad,Ax];refine done (hpl2 (by omega)) ?_ ?_ r5 b5 m5
  ·unfold DG;rw[h6,cond_false,h7,cond_false,h8,cond_true];cases Eg w.places[q].chain<;>rfl
  ·unfold DG;rw[h6,cond_false,h7,cond_false,h8,cond_true];cases hc:Eg w.places[q].chain with
   | true=>rfl
   | false=>unfold KR IG;rw[hc];rfl
 | false =>
 rw[Az];cases h9:e.kind==(9:Int) with
 | true =>
  have hk9:e.kind=9:=by simpa using h9
  obtain ⟨h5,row5,F5,e5,r5,b5,m5⟩:=Xz (lo:=lo) (k:=e.num) hil hb1 g1 g2 g3 hpo hn nd hlo1 H.hl;rw[Aq,e5,Ad,Ax];refine done (hpl2 (by omega)) ?_ ?_ r5 b5 m5
  ·unfold DG;rw[h6,cond_false,h7,cond_false,h8,cond_false];cases Co w.places[q] e.num<;>rfl
  ·unfold DG;rw[h6,cond_false,h7,cond_false,h8,cond_false];cases hc:Co w.places[q] e.num with
   | true=>rfl
   | false=>unfold Dw;rw[hc];rfl
 | false =>
 have hk10:e.kind=10:=by rw[beq_eq_false_iff_ne] at h6 h7 h8 h9;omega
 rw[hk10,show ((10:Int)==10)=true from rfl,cond_true] at hX;unfold Ps at hX;rw[hin,zdu,hqn,LQ hq] at hX;have hll:w.places[q].log.length<=1000:=zdh (Bd hpo).log.1 (by decide);have l3:ld h b1 (i1+q) 3 1=some [.sl 6 x2 w.places[q].log.length y2]:=by rw[Dg hil hb1];rfl
 rw[Az,XE,Ad,Ax,hin,zdu];cases hnu:Ah e.num 0 2 with
 | false=>rw[hnu,zer,cond_false] at hX;rw[zer,Az];exact H.stay Mv.nil hX.symm
 | true =>
 rw[hnu,zdu] at hX;rw[zdu];cases hap:(!(e.at'==e.num)) with
 | false=>rw[hap,zer,cond_false] at hX;rw[Az];exact H.stay Mv.nil hX.symm
 | true =>
 rw[hap,zdu] at hX;rw[Aq,l3,Ae,Aa,Ag,Ai,WM (by omega),Bk,Ad,Ax];cases hke:Ah e.key 0 ((w.places[q].log.length:Int) - 1) with
 | false=>rw[hke,zeD,cond_false] at hX;rw[Az];exact H.stay Mv.nil hX.symm
 | true =>
 rw[hke,zeA] at hX;simp only[Ah,DH,decide_eq_true_eq] at hke;rw[Aq,H.cell.2.2.1,Ae,Aa,Ag,Ai];by_cases h12:(w.net.length:Int)>=12
 ·rw[decide_eq_false (by omega),cond_false] at hX;rw[Am h12];exact H.stay Mv.nil hX.symm
 rw[decide_eq_true (by omega),cond_true] at hX;obtain ⟨m,hkm⟩:∃ m:Nat,e.key=(m:Int):=⟨e.key.toNat,by omega⟩;have hml:m<w.places[q].log.length:=by omega
 have hkn:e.key.toNat=m:=by omega
 rw[hkn,DZ hml] at hX;simp only[] at hX;obtain ⟨o,s,av,cv,G,ha,ho,es,hp,_⟩:=g2.get hml;have hvp:w.places[q].log[m].past.length<=1048576:=by have:=(hn.2.1.2 _ (zdf hml)).1;omega
 obtain ⟨a5,c5,h5,F5,e5,r5,m5⟩:=Bu (lo:=h.length) (v:=w.places[q].log[m]) hp (zdj _) hvp;obtain ⟨⟨n1,n2,n3,n4⟩,_⟩:=PT H.ne.2;obtain ⟨a6,c6,h6',F6,e6,r6,m6⟩:=DN (lo:=lo) (bytes:=96) (e:=123) (El:=R7 false) rframe_ok H.r3 (row := Iv e.at' :: Iv e.num :: Iv e.key ::(w.places[q].log[m]).cs a5 c5) (x:=⟨e.at',e.num,e.key,w.places[q].log[m]⟩) (G:=F5)
  (h1:=h5 ++ [.rows 9 123 false [Iv e.at' :: Iv e.num :: Iv e.key ::(w.places[q].log[m]).cs a5 c5]])
  ⟨_,rfl,_,rfl,Mv.snoc.keep0 rtags_ok r5⟩ (m5.trans (Mv.snoc' m5.nd)) n3 (λy hy=>H.ge y (by simp[hy])) H.hl (by decide) (by omega)
 have hnl:(w.net ++ [Frame.mk e.at' e.num e.key w.places[q].log[m]]).length=w.net.length+1:=by simp
 rw[<- hnl] at r6 e6;obtain ⟨h7,s7,W,M⟩:=H.up3 m6 r6;simp only[Ver.cs] at e5 e6;rw[Aj h12,Ae,Aa,Ag,Ai,l3,Ae,Aa,Ag,Ai,DE ⟨by omega,by omega⟩,ha,Ae,hkn,ho,Ae,Aa,Ab,Aa,Ab,Aa,Ab,Aa,es,Aa,BO,Aa,AK,Ag,e5,Ad,AS,Aa,Ab,Aa,Ab,Aa,Ab,Aa,Ai,Aa,BO,Aa,AK,Ag,AX,e6,Ai,s7,Ae];subst hX;exact ⟨h7,_,rfl,W.at,M⟩
end


section
variable {lo b:Nat}{h h':Heap}{w:World}{a1 a2 a3 a4 a:Pq}{c1 c2 c3 c4 c:Nq}{F1 F2 F3 F4:List Nat}
theorem UI {l:List Frame}{k:Nat}{F:List Nat} (hs:RFrames false h [.sl 9 a l.length c] l F) (hk:k<l.length) (hnd:F.Nodup) (hlo:∀ b∈F,lo<=b) (hn:l.length<=1048576) :
  ∃ b i h' F',a=some (b,i)/\Af lo 227 [.sl 9 a l.length c,Iv (k:Nat),Iv ((k+1:Nat):Int)] h=some (.sl 9 a (l.eraseIdx k).length c,h')/\RFrames false h' [.sl 9 a (l.eraseIdx k).length c] (l.eraseIdx k) F'/\Mv h F h' F'/\∀ y,y≠b->h'[y]?=h[y]?:=by
 obtain ⟨h',F',Gv,b,i,row,ha,hld,hel,hG,e,r,m,fr⟩:=Sli.del (lo:=lo) (bytes:=96) (e:=123) (z := [Iv 0,Iv 0,Iv 0,Iv 0,Iv 0,Iv 0,.sl 0 none 0 (some 0),.str ⟨⟨[]⟩⟩,.bool false]) (x1:=(k:Nat)) (x2:=((k+1:Nat):Int)) (T:=V×Heap) rframe_ok hs hk hnd hlo rfl (by omega) (by decide) (by omega) (some (.sl 9 a l.length c,h)) (λv h=>some (v,h));rw[zdN hk];exact ⟨b,i,h',F',ha,Fp e,r,m,fr⟩
theorem WN.hear (H:WN lo h b w a1 c1 a2 c2 a3 c3 a4 c4 F1 F2 F3 F4) {f:Frame}{q:Nat}{av:Pq}{cv:Nq}{G:List Nat} (hto:f.to=(q:Int)) (hq:q<w.places.length) (hpo:Av w.places[q]=true) (hv:RTags false h [.sl 2 av f.ver.past.length cv] f.ver.past G) (hvn:f.ver.past.length<=1048576/\f.ver.text.size<=1048576) :
  ∃ b1 i1 ok h' F',a1=some (b1,i1)/\Af lo 228 [.ptr (some (b1,(i1+q,0))),Iv f.fro,Iv f.at',.agg (f.ver.cs av cv)] h=some (.bool ok,h')/\Ik lo h' b (Mk w f) F'/\Mv h (b ::(F1++(F2++(F3++F4)))) h' F':=by
 obtain ⟨b1,i1,rs,x1,y1,x2,y2,x3,y3,G1,G2,G3,ha,hil,hb1,g1,g2,g3,nd,hF,put⟩:=H.place hq;obtain ⟨h5,row5,F5,e5,r5,b5,m5⟩:=XC (lo:=lo) (f:=f.fro) (at':=f.at') (v:=f.ver) hil hb1 g1 g2 g3 hv hpo hvn nd (λy hy=>(hF y hy).1) H.hl;obtain ⟨F1',W,M⟩:=put h5 row5 _ F5 b5 r5 m5;have hh:Mk w f=setP w q (Ed w.places[q] f.fro f.at' f.ver):=by unfold Mk;rw[hto,A7,DZ hq]
 rw[hh];exact ⟨b1,i1,_,h5,_,ha,e5,W.at,M⟩
theorem MA {e:Event} (H:WN lo h b w a1 c1 a2 c2 a3 c3 a4 c4 F1 F2 F3 F4) (hg:Fits w) (hkd:11<=e.kind/\e.kind<=13) :
  ∃ h' F',Af lo 150 [.ptr (some (b,(0,0))),.agg e.cs] h=some (.bool (Jd w e).isSome,h')/\Ik lo h' b ((Jd w e).getD w) F'/\Mv h (b ::(F1++(F2++(F3++F4)))) h' F':=by
 suffices hq:∃ h' F',_=some (V.bool (Jd w e).isSome,h')/\Ik lo h' b ((Jd w e).getD w) F'/\Mv h (b ::(F1++(F2++(F3++F4)))) h' F' from by obtain ⟨h',F',e1,hr⟩:=hq;exact ⟨h',F',LG e1,hr⟩
 have hp3:=hg.ok.p3;have hn12:=hg.ok.n12;obtain ⟨X,hX⟩:∃ X,Jd w e=X:=⟨_,rfl⟩;rw[hX];unfold Jd at hX;rw[H.cell.2.2.1,Ae,Aa,Ag,Ai,wr (by omega) (by omega),Bk,Ad,Ax];cases hin:Ah e.at' 0 ((w.net.length:Int) - 1) with
 | false =>rw[hin,cond_false] at hX;rw[Az];exact H.stay Mv.nil hX.symm
 | true =>
 rw[hin,cond_true] at hX;simp only[Ah,DH,decide_eq_true_eq] at hin;obtain ⟨k,he⟩:∃ k:Nat,e.at'=(k:Int):=⟨e.at'.toNat,by omega⟩;have hk:k<w.net.length:=by omega
 have hkn:e.at'.toNat=k:=by omega
 rw[hkn,DZ hk] at hX;simp only[] at hX;obtain ⟨⟨n1,n2,n3,n4⟩,_⟩:=PT H.ne.2;obtain ⟨b3,i3,rs,row,G,rfl,hbF,hbG,hb3,hil,⟨vs,rfl,hv⟩,hGF,hGn,_⟩:=Sli.atP rframe_ok H.r3 hk n3;obtain ⟨s,av,cv,rfl,es,hp⟩:=hv.form;have hld:ld h b3 (i3+k) 0 9=some [Iv w.net[k].fro,Iv w.net[k].to,Iv w.net[k].at',Iv w.net[k].ver.key,Iv w.net[k].ver.tag.time,Iv w.net[k].ver.tag.place,s,.str w.net[k].ver.text,.bool w.net[k].ver.gone]:=by rw[Mt hb3 hil];rfl
 obtain ⟨⟨q1,q2⟩,⟨q3,q4⟩,_,_,q5⟩:=hg.ok.net _ (zdf hk);obtain ⟨q,hto⟩:∃ q:Nat,w.net[k].to=(q:Int):=⟨w.net[k].to.toNat,by omega⟩;have hq:q<w.places.length:=by omega
 obtain ⟨hpo,_,_⟩:=hg.at hq;have hvn:w.net[k].ver.past.length<=1048576/\w.net[k].ver.text.size<=1048576:=by
  have hf:w.net[k].fro.toNat<w.places.length:=by omega
  rw[LQ hf] at q5;have hn:=(D1 (Bd (hg.at hf).1) (by decide) (by decide) (by decide)).1;have:=hn.2.1.2 _ (zdt q5);exact ⟨by omega,by omega⟩
 generalize hf:w.net[k]=f at *
 rw[Aq,H.cell.2.2.1,Ae,Aa,Ag,Ai,DE ⟨by omega,by omega⟩,Ae,hkn,hld,Ae,Aa,Ab,Aa,Ab,Aa,Ab,Aa,Ab,Aa,Ab,Aa,Ab,Aa,es,Aa,BO,Aa,AK,Ag];cases h13:e.kind==(13:Int) with
 | true =>
  have hk13:e.kind=13:=by simpa using h13
  rw[h13,cond_true,show (e.kind==(12:Int))=false by rw[hk13];rfl,cond_false] at hX;obtain ⟨b1,i1,ok,h5,F5,rfl,e5,W,M⟩:=H.hear hto hq hpo hp hvn;simp only[Ver.cs] at e5;rw[Aq,show (e.kind==(12:Int))=false by rw[hk13];rfl,Az,H.cell.1,Ae,Aa,Ag,Ai,hto,Ac hq,Ae,A7,e5,Ad,Ax];subst hX;refine ⟨h5,F5,?_,W,M⟩;cases ok<;>rfl
 | false =>
 rw[h13,cond_false] at hX;obtain ⟨b3',i3',h5,F5,ha,e5,r5,m5,fr5⟩:=UI (lo:=lo) H.r3 hk n3 (λy hy=>H.ge y (by simp[hy])) (by omega);injection ha with ha;injection ha with z1 z2;subst z1;subst z2;obtain ⟨h6,s6,H6,M6⟩:=H.up3 m5 r5;rw[Az,Ae,Aa,Ag,Ai,he,Au (by omega),e5,Ad,Ai,s6,Ae];cases h12:e.kind==(12:Int) with
 | true =>rw[h12,cond_true] at hX;rw[Aq];subst hX;exact ⟨h6,_,rfl,H6.at,M6⟩
 | false =>
  rw[h12,cond_false] at hX;have hp6:RTags false h6 [.sl 2 av f.ver.past.length cv] f.ver.past G:=rtags_ok.fr _ _ _ _ _ (rtags_ok.fr _ _ _ _ _ hp λy hy=>fr5 y λe=>hbG (e ▸ hy)) λy hy=>Z2 s6 y λe=>H.ne.1 (by
   have:=hGF y hy;rw[e] at this;simp[this])
  obtain ⟨b1,i1,ok,h7,F7,rfl,e7,W,M⟩:=H6.hear hto hq hpo hp6 hvn;simp only[Ver.cs] at e7;rw[Az,H6.cell.1,Ae,Aa,Ag,Ai,hto,Ac hq,Ae,A7,e7,Ad,Ax];subst hX;refine ⟨h7,F7,?_,W,M6.trans M⟩;cases ok<;>rfl
theorem SH {e:Event} (H:WN lo h b w a1 c1 a2 c2 a3 c3 a4 c4 F1 F2 F3 F4) (hg:Fits w) (hes:e.text.size<=1048576) :
  ∃ h' F',Af lo 77 [.ptr (some (b,(0,0))),.agg e.cs] h=some (.bool (He w e).isSome,h')/\Ik lo h' b ((He w e).getD w) F'/\Mv h (b ::(F1++(F2++(F3++F4)))) h' F':=by
 suffices hq:∃ h' F',_=some (V.bool (He w e).isSome,h')/\Ik lo h' b ((He w e).getD w) F'/\Mv h (b ::(F1++(F2++(F3++F4)))) h' F' from by obtain ⟨h',F',e1,hr⟩:=hq;exact ⟨h',F',Qj e1,hr⟩
 obtain ⟨X,hX⟩:∃ X,He w e=X:=⟨_,rfl⟩;rw[hX];unfold He at hX;rw[Bk,Ad,Ax];cases h15:Ah e.kind 1 5 with
 | true =>rw[h15,cond_true] at hX;obtain ⟨h',F',q1,q2,q3⟩:=NE H hg hes;simp only[Event.cs] at q1;rw[Aq,q1,Ad,Ax,zcV];subst hX;exact ⟨h',F',rfl,q2,q3⟩
 | false =>
 rw[h15,cond_false] at hX;rw[Az,Bk,Ad,Ax];cases h610:Ah e.kind 6 10 with
 | true =>
  simp only[Ah,DH,decide_eq_true_eq] at h610;obtain ⟨h',F',q1,q2,q3⟩:=NF H hg h610;have hXc:JE w e=X:=by
   rw[<- hX];unfold JE;cases h10:e.kind==(10:Int) with
   | true =>
    have:e.kind=10:=by simpa using h10
    rw[show Ah e.kind 6 9=false by rw[this];rfl];rfl
   | false =>rw[beq_eq_false_iff_ne] at h10;rw[show Ah e.kind 6 9=true by simp only[Ah,DH,decide_eq_true_eq];omega];rfl
  simp only[Event.cs] at q1;rw[Aq,q1,Ad,Ax,zcV];subst hXc;exact ⟨h',F',rfl,q2,q3⟩
 | false =>
 have h69:Ah e.kind 6 9=false:=by rw[<- Bool.not_eq_true] at h610 ⊢;simp only[Ah,DH,decide_eq_true_eq] at h610 ⊢;omega
 have h10:(e.kind==(10:Int))=false:=by rw[<- Bool.not_eq_true] at h610;rw[beq_eq_false_iff_ne];simp only[Ah,DH,decide_eq_true_eq] at h610;omega
 rw[h69,cond_false,h10,cond_false] at hX;rw[Az,Bk,Ad,Ax];cases h11:Ah e.kind 11 13 with
 | true =>rw[h11,cond_true] at hX;simp only[Ah,DH,decide_eq_true_eq] at h11;obtain ⟨h',F',q1,q2,q3⟩:=MA H hg h11;simp only[Event.cs] at q1;rw[Aq,q1,Ad,Ax,zcV];subst hX;exact ⟨h',F',rfl,q2,q3⟩
 | false =>rw[h11,cond_false] at hX;rw[Az];exact H.stay Mv.nil hX.symm
end


variable {l:List Done}
section
variable {lo:Nat}{h:Heap}{F1 F2 F3 F4:List Nat}{a a1 a2 a3 a4:Pq}{c c1 c2 c3 c4:Nq}{F:List Nat}
theorem OM:(l.map λ_=>([]:List Nat)).flatten = []:=by induction l<;>simp_all
theorem RDones.rowsG (hs:RDones false h [.sl 5 a l.length c] l F) {T:Type} (K:List (List V)->Option T):As 5 h (.sl 5 a l.length c) K=K (l.map Done.cs):=by obtain ⟨rows,Fs,h1,h2,_⟩:=Sli.rows hs;rw[h1,h2.of_flat.1]
theorem Mv.over {h h1 hh:Heap}{P F:List Nat} (m0:Mv h [] h1 []) (m:Mv h1 P hh F) (hP:∀ y∈P,h.length<=y):Mv h [] hh [] :=
 ⟨zdh m0.le m.le,λb hb _=>by rw[m.fr b (zdq hb m0.le) (λhm=>by have:=hP b hm;omega),m0.fr b hb (by simp)],by simp,by simp⟩
theorem WA (hl:lo<=h.length) (hn:l.length<=1048576):∃ a' c' h' F',(∀ {T:Type} (K:V->Heap->Option T),Dv lo 126 5 40 (.sl 5 (some (h.length,0)) 0 (some 0)) (l.map Done.cs) (h ++ [.rows 5 126 false []]) K=K (.sl 5 a' l.length c') h') /\
  RDones false h' [.sl 5 a' l.length c'] l F'/\Mv h [] h' F':=by
 have h0:RDones false (h ++ [.rows 5 (zaT false) false []]) [.sl 5 (some (h.length,0)) 0 (some 0)] [] [h.length]:=Sli.fresh (zdj _);by_cases he:l = []
 ·subst he;exact ⟨some (h.length,0),some 0,_,_,λK=>rfl,h0,Mv.last⟩
 ·obtain ⟨a',c',h',F',p1,p2,p3,p4,p5,p6⟩:=Sli.push (lo:=lo) (bytes:=40) UM h0 (xs:=l.map Done.cs) (ys:=l) (Gs:=l.map λ_ => []) EAll.flat (by decide) (by simp;omega) (by simp;omega) (by simp;omega) (by rw[OM];simp) (by rw[OM];simp) he;simp only[zet,zdR,zdO] at p1 p2;refine ⟨a',c',h',F',p1,p2,by simp at p3;omega,λb hb _=>?_,p6,λb hb=>?_⟩
  ·rw[p4 b (by simp;omega) (by simp;omega),zdl hb]
  ·simp at p3;rcases p5 b hb with h1 | h1
   ·rw[OM] at h1;simp at h1;exact .inr (by omega)
   ·simp at h1;exact .inr (by omega)
theorem Wh (hs:RDones false h [.sl 5 a l.length c] l F) (hl:lo<=h.length) (hn:l.length<=1048576) :
  ∃ v a' c' h' F',Af lo 152 [.sl 5 a l.length c] h=some (v,h')/\(∀ {T:Type} (K:Pq->Nat->Nq->Option T),eS 5 v K=K a' l.length c')/\RDones false h' [.sl 5 a' l.length c'] l F'/\Mv h [] h' F':=by
 cases a with
 | none =>obtain ⟨R1,a1,c1,e1,g⟩:=hs;injection e1 with e1 _;injection e1 with e0 e2 _ e3;subst e2;subst e3;obtain ⟨rfl,_,_⟩:=g;exact ⟨_,none,some 0,h,[],DU (by rw[show (none:Pq).isNone=true from rfl,Aq]),λK=>rfl,Sli.nil,Mv.nil⟩
 | some p =>obtain ⟨a',c',h',F',e,r⟩:=WA (l:=l) hl hn;refine ⟨_,a',c',h',F',DU ?_,λK=>Ai 5 _ _ _ K,r⟩;rw[show (some p).isNone=false from rfl,Az,RDones.rowsG (Mv.snoc.keep0 rdones_ok hs),e,Ai]
theorem RPlacesN.up {cs:List V}{l:List Place} (hs:RPlacesN h cs l F):RPlaces false h cs l F:=Sli.mono (λ_ _ _ h=>by obtain ⟨_,_,_,_,_,_,rfl,q⟩:=h;exact q) hs
theorem ND {w:World} (r1:RPlaces false h [.sl 6 a1 w.places.length c1] w.places F1) (r2:RSesss false h [.sl 5 a2 w.sess.length c2] w.sess F2) (r3:RFrames false h [.sl 9 a3 w.net.length c3] w.net F3) (r4:RDones false h [.sl 5 a4 w.hist.length c4] w.hist F4) (hl:lo<=h.length) (hn:Jo w) :
  ∃ b1 d1 b2 d2 b3 d3 b4 d4 h' G1 G2 G3 G4,Af lo 78 [.agg (w.cs a1 c1 a2 c2 a3 c3 a4 c4)] h=some (.agg (w.cs b1 d1 b2 d2 b3 d3 b4 d4),h')/\RPlacesN h' [.sl 6 b1 w.places.length d1] w.places G1/\RSesss false h' [.sl 5 b2 w.sess.length d2] w.sess G2/\RFrames false h' [.sl 9 b3 w.net.length d3] w.net G3/\RDones false h' [.sl 5 b4 w.hist.length d4] w.hist G4/\Mv h [] h' (G1++(G2++(G3++G4))):=by
 obtain ⟨⟨n1,s1⟩,⟨n2,s2⟩,⟨n3,s3⟩,n4⟩:=hn;have mP:Mv h [] (h ++ [.rows 6 29 false (List.replicate w.places.length [Iv 0,Iv 0,.sl 0 none 0 (some 0),.sl 0 none 0 (some 0),.sl 0 none 0 (some 0),.bool false])]) [h.length]:=Mv.last;generalize hhP:h ++ [Blk.rows 6 29 false (List.replicate w.places.length [Iv 0,Iv 0,.sl 0 none 0 (some 0),.sl 0 none 0 (some 0),.sl 0 none 0 (some 0),.bool false])]=hP at mP;have sP:RPlacesN hP [.sl 6 (some (h.length,0)) 0 (some w.places.length)] [] [h.length]:=by rw[<- hhP];exact Sli.fresh (by simp)
 have mS:Mv hP [] (hP ++ [.rows 5 66 false (List.replicate w.sess.length [Iv 0,.sl 0 none 0 (some 0),Iv 0,Iv 0,Iv 0])]) [hP.length]:=Mv.last;generalize hhS:hP ++ [Blk.rows 5 66 false (List.replicate w.sess.length [Iv 0,.sl 0 none 0 (some 0),Iv 0,Iv 0,Iv 0])]=hS at mS;have sS:RSesss false hS [.sl 5 (some (hP.length,0)) 0 (some w.sess.length)] [] [hP.length]:=by rw[<- hhS];exact Sli.fresh (by simp)
 have mN:Mv hS [] (hS ++ [.rows 9 123 false (List.replicate w.net.length [Iv 0,Iv 0,Iv 0,Iv 0,Iv 0,Iv 0,.sl 0 none 0 (some 0),.str ⟨⟨[]⟩⟩,.bool false])]) [hS.length]:=Mv.last;generalize hhN:hS ++ [Blk.rows 9 123 false (List.replicate w.net.length [Iv 0,Iv 0,Iv 0,Iv 0,Iv 0,Iv 0,.sl 0 none 0 (some 0),.str ⟨⟨[]⟩⟩,.bool false])]=hN at mN;have sN:RFrames false hN [.sl 9 (some (hS.length,0)) 0 (some w.net.length)] [] [hS.length]:=by rw[<- hhN];exact Sli.fresh (by simp)
 have mSN:=mS.join mN (λy hy=>by have:=mS.lt (by simp) y hy;exact this);have mPSN:=mP.join mSN (λy hy=>by have:=mP.lt (by simp) y hy;exact this);have r4':=mPSN.drop.keep0 rdones_ok r4;obtain ⟨v4,b4,d4,hD,G4,e4,es4,q4,m4⟩:=Wh (lo:=hN.length) r4' (zdj _) n4;have e4':Af hD.length 151 [.sl 5 b4 w.hist.length d4] hD=some (.sl 5 b4 w.hist.length (some w.hist.length),hD):=Gz (by rw[IK q4]);have q4c:=q4.clip;have m0:=mPSN.join m4 (λy hy=>mPSN.lt (by simp) y hy);have lt0:=m0.lt (by simp);have m0d:=m0.drop;have lP:h.length<hP.length:=by have:=mP.lt (by simp) h.length (by simp);exact this
 have lS:hP.length<hS.length:=by have:=mS.lt (by simp) hP.length (by simp);exact this
 have lN:hS.length<hN.length:=by have:=mN.lt (by simp) hS.length (by simp);exact this
 have lD:=m4.le;have hG4:=m4.new;have sP4:RPlacesN hD [.sl 6 (some (h.length,0)) 0 (some w.places.length)] [] [h.length]:=m4.keep0 rplacesN_ok (mN.keep0 rplacesN_ok (mS.keep0 rplacesN_ok sP));obtain ⟨h1,G1,e1,q1,m1⟩:=Gu (El:=B7 false) IY (l:=w.places) (lo:=lo) (R:=6) (e:=29) (bytes:=96) (N:=w.places.length) (p0:=(h.length,0)) (F0 := [h.length])
  (zdh hl m0.le) (by intro y hy;simp at hy;omega) (by simp) (by decide) (by omega) (zdj _)
  (λi x n d hh=>BI lo a1 w.places.length c1 (w.places.length:Nat) (i:Nat) a1 w.places.length c1 a2 w.sess.length c2 a3 w.net.length c3 a4 w.hist.length c4 0 none 0 (some 0) 0 none 0 (some 0) 0 none 0 (some 0) 0 none 0 (some 0) x n d (some (hP.length,0)) 0 (some w.sess.length) (some (hS.length,0)) 0 (some w.net.length) b4 w.hist.length (some w.hist.length) hh)
  (λi hi hh F hm=>by
   have hm':=m0d.over hm (λy hy=>by simp at hy;omega);obtain ⟨o,s1',s2',s3',x1,y1,x2,y2,x3,y3,J1,J2,J3,ha,ho,_,_,_,_,es1,es2,es3,g1,g2,g3,_⟩:=(hm'.keep0 rplaces_ok r1).get hi;obtain ⟨p1,p2,d2,p3,d3,h5,K1,K2,K3,e5,k1,k2,k3,m5⟩:=MB (lo:=lo) (p:=w.places[i]) g1 g2 g3 (zdh hl hm'.le) (s1 _ (zdf hi));refine ⟨w.places[i].cs p1 (some w.places[i].chain.length) p2 d2 p3 d3,K1++(K2++K3),h5 ++ [.rows 6 29 false [w.places[i].cs p1 (some w.places[i].chain.length) p2 d2 p3 d3]],
    ⟨_,_,_,_,_,_,rfl,_,_,_,K1,K2,K3,rfl,rfl,Mv.snoc.keep0 rnodes_ok (RNodesC.up k1),Mv.snoc.keep0 rvers_ok k2,Mv.snoc.keep0 rvss_ok k3⟩,m5.trans (Mv.snoc' m5.nd),?_⟩
   simp only[Place.cs] at e5;rw[BI.e,Am (by omega),Ac hi,ha,Ae,A7,ho,Ae,Aa,Ab,Aa,Ab,Aa,es1,Aa,es2,Aa,es3,Aa,AK,Ag,e5,Ad,AS,Aa,Ab,Aa,Ab,Aa,Ai,Aa,Ai,Aa,Ai,Aa,AK,Ag,AX,Au (by omega)]) sP4
 have m1d:=m0d.over m1 (λy hy=>by simp at hy;omega);have sS1:RSesss false h1 [.sl 5 (some (hP.length,0)) 0 (some w.sess.length)] [] [hP.length]:=m1.keep rsesss_ok (m4.keep0 rsesss_ok (mN.keep0 rsesss_ok sS)) (λy hy hm=>by simp at hy hm;omega);obtain ⟨h2,G2,e2,q2,m2⟩:=Gu (El:=RSess false) IX (l:=w.sess) (lo:=lo) (R:=5) (e:=66) (bytes:=56) (N:=w.sess.length) (p0:=(hP.length,0)) (F0 := [hP.length])
  (zdh hl m1d.le) (by intro y hy;simp at hy;omega) (by simp) (by decide) (by omega) (zdj _)
  (λi x n d hh=>BH lo a2 w.sess.length c2 (w.sess.length:Nat) (i:Nat) a1 w.places.length c1 a2 w.sess.length c2 a3 w.net.length c3 a4 w.hist.length c4 0 none 0 (some 0) 0 none 0 (some 0) 0 none 0 (some 0) 0 none 0 (some 0) (some (h.length,0)) w.places.length (some w.places.length) x n d (some (hS.length,0)) 0 (some w.net.length) b4 w.hist.length (some w.hist.length) hh)
  (λi hi hh F hm=>by
   have hm':=m1d.over hm (λy hy=>by simp at hy;omega);obtain ⟨o,v,x1,y1,J,ha,ho,_,_,es,hp,_⟩:=(hm'.keep0 rsesss_ok r2).get hi;obtain ⟨p1,d1,h5,K1,e5,k1,m5⟩:=DL (lo:=lo) hp (zdh hl hm'.le) (s2 _ (zdf hi));refine ⟨w.sess[i].cs p1 d1,K1,h5 ++ [.rows 5 66 false [w.sess[i].cs p1 d1]],⟨_,rfl,Mv.snoc.keep0 rtags_ok k1⟩,m5.trans (Mv.snoc' m5.nd),?_⟩;rw[BH.e,Am (by omega),Ac hi,ha,Ae,A7,ho,Ae,Aa,Ab,Aa,es,Aa,Ab,Aa,Ab,Aa,Ab,Ag,e5,Ad,AS,Aa,Ai,Ag,AX,Au (by omega)]) sS1
 have m2d:=m1d.over m2 (λy hy=>by simp at hy;omega);have sN2:RFrames false h2 [.sl 9 (some (hS.length,0)) 0 (some w.net.length)] [] [hS.length]:=m2.keep rframes_ok (m1.keep rframes_ok (m4.keep0 rframes_ok sN) (λy hy hm=>by simp at hy hm;omega)) (λy hy hm=>by simp at hy hm;omega);obtain ⟨h3,G3,e3,q3,m3⟩:=Gu (El:=R7 false) rframe_ok (l:=w.net) (lo:=lo) (R:=9) (e:=123) (bytes:=96) (N:=w.net.length) (p0:=(hS.length,0)) (F0 := [hS.length])
  (zdh hl m2d.le) (by intro y hy;simp at hy;omega) (by simp) (by decide) (by omega) (zdj _)
  (λi x n d hh=>BG lo a3 w.net.length c3 (w.net.length:Nat) (i:Nat) 0 none 0 (some 0) 0 none 0 (some 0) 0 none 0 (some 0) 0 none 0 (some 0) (some (h.length,0)) w.places.length (some w.places.length) (some (hP.length,0)) w.sess.length (some w.sess.length) x n d b4 w.hist.length (some w.hist.length) hh)
  (λi hi hh F hm=>by
   have hm':=m2d.over hm (λy hy=>by simp at hy;omega);obtain ⟨o,v,x1,y1,J,ha,ho,es,hp,_⟩:=(hm'.keep0 rframes_ok r3).get hi;obtain ⟨p1,d1,h5,K1,e5,k1,m5⟩:=Bu (lo:=lo) (v:=w.net[i].ver) hp (zdh hl hm'.le) (s3 _ (zdf hi)).1;refine ⟨Iv w.net[i].fro :: Iv w.net[i].to :: Iv w.net[i].at' :: w.net[i].ver.cs p1 d1,K1,h5 ++ [.rows 9 123 false [Iv w.net[i].fro :: Iv w.net[i].to :: Iv w.net[i].at' :: w.net[i].ver.cs p1 d1]],⟨_,rfl,_,rfl,Mv.snoc.keep0 rtags_ok k1⟩,m5.trans (Mv.snoc' m5.nd),?_⟩;simp only[Ver.cs] at e5;rw[BG.e,Am (by omega),Ac hi,ha,Ae,A7,ho,Ae,Aa,Ab,Aa,Ab,Aa,Ab,Aa,Ab,Aa,Ab,Aa,Ab,Aa,es,Aa,BO,Aa,AK,Ag,e5,Ad,AS,Aa,Ab,Aa,Ab,Aa,Ab,Aa,Ai,Aa,BO,Aa,AK,Ag,AX,Au (by omega)]) sN2
 have nd0:([h.length]++([hP.length]++([hS.length]++G4))).Nodup:=by have:=m0.nd;simpa using this
 have lt0':∀ y ∈ [h.length]++([hP.length]++([hS.length]++G4)),y<hD.length:=λy hy=>lt0 y (by simpa using hy);have M1:Mv hD ([h.length]++([hP.length]++([hS.length]++G4))) h1 (G1++([hP.length]++([hS.length]++G4))):=m1.mid (.refl _) nd0 (λy hy=>lt0' y (by simp only[zde] at hy ⊢;exact .inr hy)) (.refl _);have lt1:=M1.lt lt0';have M2:Mv h1 (G1++([hP.length]++([hS.length]++G4))) h2 (G1++(G2++([hS.length]++G4))):=m2.mid Py M1.nd (λy hy=>lt1 y (by simp only[zde] at hy ⊢;grind)) Py;have lt2:=M2.lt lt1;have M3:Mv h2 (G1++(G2++([hS.length]++G4))) h3 (G1++(G2++(G3++G4))):=m3.mid TE M2.nd (λy hy=>lt2 y (by simp only[zde] at hy ⊢;grind)) TE;have m0':Mv h [] hD ([h.length]++([hP.length]++([hS.length]++G4))):=by simpa using m0
 have M:=(m0'.trans M1).trans (M2.trans M3);obtain ⟨_,d12,d13,d14,d23,d24,d34⟩:=PT M.nd;have n2':=M2.nd;refine ⟨some (h.length,0),some w.places.length,some (hP.length,0),some w.sess.length,some (hS.length,0),some w.net.length,b4,some w.hist.length,h3,G1,G2,G3,G4,L5 ?_,?_,?_,q3,?_,M⟩
 ·rw[GG (by omega),GG (by omega),GG (by omega)];simp only[hhP,hhS,hhN];rw[e4,Ad,es4,e4',Ad,Ai];refine e1.trans ?_;rw[BI.e,Aj (by omega)];refine e2.trans ?_;rw[BH.e,Aj (by omega)];refine e3.trans ?_;rw[BG.e,Aj (by omega)]
 ·refine m3.keep rplacesN_ok (m2.keep rplacesN_ok q1 λy hy hm=>?_) λy hy hm=>?_
  ·have:=M1.nd;rw[zdg] at this;exact this.2.2 y hy y (by simp at hm ⊢;exact .inl hm) rfl
  ·have:=M2.nd;rw[zdg] at this;exact this.2.2 y hy y (by simp at hm ⊢;exact .inr (.inl hm)) rfl
 ·refine m3.keep rsesss_ok q2 λy hy hm=>?_;have:=M2.nd;rw[zdg,zdg] at this;exact this.2.1.2.2 y hy y (by simp at hm ⊢;exact .inl hm) rfl
 ·refine m3.keep rdones_ok (m2.keep rdones_ok (m1.keep rdones_ok q4c λy hy hm=>?_) λy hy hm=>?_) λy hy hm=>?_
  ·have:=hG4 y hy;simp at hm;omega
  ·have:=hG4 y hy;simp at hm;omega
  ·have:=hG4 y hy;simp at hm;omega
end


def Um:World:=⟨[],[],[],[]⟩
def MJ (raw:List V) (w:World) (r:List V):Prop:=∃ s1 s2 s3 s4 a1 c1 a2 c2 a3 c3 a4 c4,raw = [s1,s2,s3,s4] /\
 (∀ {T:Type} (K:Pq->Nat->Nq->Option T),eS 6 s1 K=K a1 w.places.length c1)/\(∀ {T:Type} (K:Pq->Nat->Nq->Option T),eS 5 s2 K=K a2 w.sess.length c2) /\
 (∀ {T:Type} (K:Pq->Nat->Nq->Option T),eS 9 s3 K=K a3 w.net.length c3)/\(∀ {T:Type} (K:Pq->Nat->Nq->Option T),eS 5 s4 K=K a4 w.hist.length c4)/\r=w.cs a1 c1 a2 c2 a3 c3 a4 c4
section
variable {lo:Nat}{h:Heap}{F:List Nat}
theorem PA:∃ raw r,raw = [.sl 0 none 0 (some 0),.sl 0 none 0 (some 0),.sl 0 none 0 (some 0),.sl 0 none 0 (some 0)]/\MJ raw Um r/\FP false h r Um [] :=
 ⟨_,_,rfl,⟨_,_,_,_,none,some 0,none,some 0,none,some 0,none,some 0,rfl,λK=>rfl,λK=>rfl,λK=>rfl,λK=>rfl,rfl⟩,⟨none,some 0,none,some 0,none,some 0,none,some 0,[],[],[],[],rfl,rfl,Sli.nil,Sli.nil,Sli.nil,Sli.nil⟩⟩
theorem TG {w:World}{a1 a2 a3 a4:Pq}{c1 c2 c3 c4:Nq}:MJ (w.cs a1 c1 a2 c2 a3 c3 a4 c4) w (w.cs a1 c1 a2 c2 a3 c3 a4 c4) :=
 ⟨_,_,_,_,_,_,_,_,_,_,_,_,rfl,λK=>Ai _ _ _ _ K,λK=>Ai _ _ _ _ K,λK=>Ai _ _ _ _ K,λK=>Ai _ _ _ _ K,rfl⟩
end


section
variable {lo:Nat}{h:Heap}
theorem SK:∃ h' q,Af lo 138 [] h=some (.agg [.sl 2 (some (q,0)) 4 (some 4)],h')/\RTags false h' [.sl 2 (some (q,0)) 4 (some 4)] TH [q]/\Mv h [] h' [q] :=
 ⟨_,h.length,KW rfl,Sli.made (l:=TH) rfl,Mv.last⟩
theorem SI:∃ h' q,Af lo 272 [] h=some (.agg [.sl 6 (some (q,0)) 4 (some 4)],h')/\RVers false h' [.sl 6 (some (q,0)) 4 (some 4)] Kn [q]/\Mv h [] h' [q]:=by
 refine ⟨_,h.length,Qk rfl,⟨6,some (h.length,0),some 4,rfl,rfl,[[Iv 0,Iv 0,Iv 0,.sl 0 none 0 (some 0),.str ⟨⟨[]⟩⟩,.bool false],[Iv 0,Iv 0,Iv 0,.sl 0 none 0 (some 0),.str ⟨⟨[]⟩⟩,.bool false],[Iv 0,Iv 0,Iv 0,.sl 0 none 0 (some 0),.str ⟨⟨[]⟩⟩,.bool false],[Iv 0,Iv 0,Iv 0,.sl 0 none 0 (some 0),.str ⟨⟨[]⟩⟩,.bool false]],[[],[],[],[]],by simp,by decide,λk hk=>?_,(λhc=>(by cases hc)),?_,rfl⟩,Mv.last⟩
 ·injection hk with hk;subst hk;exact ⟨by decide,by decide⟩
 ·exact ⟨If,If,If,If,trivial⟩
theorem SL {m:Nat} (h1:1<=m) (h4:m<=4) (hl:lo<=h.length):∃ b h' F',Af lo 217 [Iv (m:Nat)] h=some (.agg [.sl 2 (some (b,0)) m (some m)],h')/\RNodes false h' [.sl 2 (some (b,0)) m (some m)] (List.replicate m ⟨Kn,[]⟩) F'/\Mv h [] h' F':=by
 have m0:Mv h [] (h ++ [.rows 2 47 false (List.replicate m [.sl 0 none 0 (some 0),.sl 0 none 0 (some 0)])]) [h.length]:=Mv.last;generalize hhP:h ++ [Blk.rows 2 47 false (List.replicate m [.sl 0 none 0 (some 0),.sl 0 none 0 (some 0)])]=hP at m0;have sP:RNodes false hP [.sl 2 (some (h.length,0)) 0 (some m)] [] [h.length]:=by rw[<- hhP];exact Sli.fresh (by simp)
 obtain ⟨h',F1,e1,q1,m1⟩:=Gu (El:=RNode false) rnode_ok (l:=List.replicate m (⟨Kn,[]⟩:Node)) (lo:=lo) (R:=2) (e:=47) (bytes:=48) (N:=m) (p0:=(h.length,0)) (F0 := [h.length])
  (zdh hl m0.le) (by intro y hy;simp at hy;omega) (by simp) (by decide) (by rw[zd3];omega) (by simp)
  (λi x n d hh=>CW lo (m:Nat) (i:Nat) 0 none 0 (some 0) x n d hh)
  (λi hi hh F hm=>by
   rw[zd3] at hi;obtain ⟨h3,q3,e3,t3,m3⟩:=SI (lo:=lo) (h:=hh);refine ⟨[.sl 6 (some (q3,0)) 4 (some 4),.sl 0 none 0 (some 0)],[q3],h3 ++ [.rows 2 47 false [[.sl 6 (some (q3,0)) 4 (some 4),.sl 0 none 0 (some 0)]]],by rw[List.getElem_replicate];exact ⟨_,_,[q3],[],rfl,rfl,Mv.snoc.keep0 rvers_ok t3,Sli.nil⟩,m3.trans (Mv.snoc' m3.nd),?_⟩;rw[CW.e,Am (by omega),e3,Ad,AS,Aa,Ai,Ag,AX,Au (by omega)]) sP
 rw[zd3] at e1;refine ⟨h.length,h',F1,Qn ?_,by rw[zd3] at q1;exact q1,m0.trans m1⟩;have hw:Ah ((m:Nat):Int) 1 4=true:=by simp only[Ah,DH,decide_eq_true_eq];omega
 rw[KD,Ad,Ax,hw,Aq,GG (by omega)];simp only[A7,hhP];refine e1.trans ?_;rw[CW.e,Aj (by omega)]
theorem SJ {i n:Nat} (hi:i<=2) (h1:1<=n) (h4:n<=4) (hl:lo<=h.length):∃ b g h' F',Af lo 147 [Iv (i:Nat),Iv (n:Nat)] h=some (.agg [Iv (i:Nat),Iv 0,.sl 2 (some (b,0)) n (some n),.sl 0 none 0 (some 0),.sl 1 (some (g,0)) 3 (some 3),.bool false],h') /\
  B7 false h' [Iv (i:Nat),Iv 0,.sl 2 (some (b,0)) n (some n),.sl 6 none 0 (some 0),.sl 1 (some (g,0)) 3 (some 3),.bool false] (Nr i n) F'/\Mv h [] h' F':=by
 obtain ⟨b,h2,F2,e2,r2,m2⟩:=SL (lo:=h.length) (h:=h) h1 h4 (zdj _);have mx:Mv h2 [] (h2 ++ [.rows 1 26 false [[.sl 0 none 0 (some 0)],[.sl 0 none 0 (some 0)],[.sl 0 none 0 (some 0)]]]) [h2.length]:=Mv.last;have m3:=m2.join mx (rnodes_ok.bd _ _ _ _ r2);have hi2:Ah ((i:Nat):Int) 0 2=true:=by simp only[Ah,DH,decide_eq_true_eq];omega
 have hw:Ah ((n:Nat):Int) 1 4=true:=by simp only[Ah,DH,decide_eq_true_eq];omega
 have hc:(Nr i n).chain.length=n:=zd3 ..;refine ⟨b,h2.length,_,F2 ++ [h2.length],Ql ?_,⟨some (b,0),some n,none,some 0,some (h2.length,0),some 3,by rw[Place.cs,hc];rfl,_,_,_,F2,[],[h2.length],rfl,rfl,mx.keep0 rnodes_ok r2,Sli.nil,?_⟩,m3⟩
 ·rw[Ev,Ad,Ax,hi2,Aq,KD,Ad,Ax,hw,Aq,e2,Ad,AS,Aa,Ai,Ag]
 ·refine ⟨1,some (h2.length,0),some 3,rfl,rfl,[[.sl 0 none 0 (some 0)],[.sl 0 none 0 (some 0)],[.sl 0 none 0 (some 0)]],[[],[],[]],by simp,zdj 3,λk hk=>by injection hk with hk;subst hk;exact ⟨zdj 3,zdj 3⟩,(λhk=>by cases hk),?_,rfl⟩;exact ⟨Sli.nil,Sli.nil,Sli.nil,trivial⟩
theorem zbW {T:Type} (K:Pq->Nat->Nq->Option T):eS 9 (.sl 0 none 0 (some 0)) K=K none 0 (some 0):=rfl
theorem zbX {T:Type} (K:Pq->Nat->Nq->Option T):eS 5 (.sl 0 none 0 (some 0)) K=K none 0 (some 0):=rfl
theorem SF {n s:Nat} (h1:1<=n) (h4:n<=4) (hs:s<=4) (hl:lo<=h.length):∃ p q h' F1 F2,Af lo 76 [Iv (n:Nat),Iv (s:Nat)] h=some (.agg [.sl 6 (some (p,0)) 3 (some 3),.sl 5 (some (q,0)) s (some s),.sl 0 none 0 (some 0),.sl 0 none 0 (some 0)],h') /\
  RPlacesN h' [.sl 6 (some (p,0)) 3 (some 3)] (Ej n s).places F1/\RSesss false h' [.sl 5 (some (q,0)) s (some s)] (Ej n s).sess F2/\Mv h [] h' (F1++F2):=by
 have mP:Mv h [] (h ++ [.rows 6 29 false [[Iv 0,Iv 0,.sl 0 none 0 (some 0),.sl 0 none 0 (some 0),.sl 0 none 0 (some 0),.bool false],[Iv 0,Iv 0,.sl 0 none 0 (some 0),.sl 0 none 0 (some 0),.sl 0 none 0 (some 0),.bool false],[Iv 0,Iv 0,.sl 0 none 0 (some 0),.sl 0 none 0 (some 0),.sl 0 none 0 (some 0),.bool false]]]) [h.length]:=Mv.last;generalize hhP:h ++ [Blk.rows 6 29 false [[Iv 0,Iv 0,.sl 0 none 0 (some 0),.sl 0 none 0 (some 0),.sl 0 none 0 (some 0),.bool false],[Iv 0,Iv 0,.sl 0 none 0 (some 0),.sl 0 none 0 (some 0),.sl 0 none 0 (some 0),.bool false],[Iv 0,Iv 0,.sl 0 none 0 (some 0),.sl 0 none 0 (some 0),.sl 0 none 0 (some 0),.bool false]]]=hP at mP;have sP:RPlacesN hP [.sl 6 (some (h.length,0)) 0 (some 3)] [] [h.length]:=by rw[<- hhP];exact Sli.fresh (by simp)
 have mS:Mv hP [] (hP ++ [.rows 5 66 false (List.replicate s [Iv 0,.sl 0 none 0 (some 0),Iv 0,Iv 0,Iv 0])]) [hP.length]:=Mv.last;generalize hhS:hP ++ [Blk.rows 5 66 false (List.replicate s [Iv 0,.sl 0 none 0 (some 0),Iv 0,Iv 0,Iv 0])]=hS at mS;have sS:RSesss false hS [.sl 5 (some (hP.length,0)) 0 (some s)] [] [hP.length]:=by rw[<- hhS];exact Sli.fresh (by simp)
 have mPS:=mP.join mS (λy hy=>by have:=mP.lt (by simp) y hy;exact this);have lP:h.length<hP.length:=by have:=mP.lt (by simp) h.length (by simp);exact this
 have lS:hP.length<hS.length:=by have:=mS.lt (by simp) hP.length (by simp);exact this
 have lPl:(Ej n s).places.length=3:=by simp[Ej]
 have lSe:(Ej n s).sess.length=s:=by simp[Ej]
 obtain ⟨h5,G1,e1,q1,m1⟩:=Gu (El:=B7 false) IY (h0:=hS) (l:=(Ej n s).places) (lo:=lo) (R:=6) (e:=29) (bytes:=96) (N:=3) (p0:=(h.length,0)) (F0 := [h.length])
  (zdh hl mPS.le) (by intro y hy;simp at hy;omega) (by simp) (by decide) (by rw[lPl];decide) (by rw[lPl];exact zdj 3)
  (λi x n1 d hh=>CV lo (n:Nat) (s:Nat) (i:Nat) 0 none 0 (some 0) 0 none 0 (some 0) 0 none 0 (some 0) 0 none 0 (some 0) x n1 d (some (hP.length,0)) 0 (some s) 0 none 0 (some 0) 0 none 0 (some 0) hh)
  (λi hi hh F hm=>by
   have hi3:i<3:=by rw[lPl] at hi;exact hi
   obtain ⟨b,g,h6,K,e6,r6,m6⟩:=SJ (lo:=lo) (h:=hh) (i:=i) (n:=n) (by omega) h1 h4 (zdh (zdh hl mPS.le) hm.le);refine ⟨[Iv (i:Nat),Iv 0,.sl 2 (some (b,0)) n (some n),.sl 6 none 0 (some 0),.sl 1 (some (g,0)) 3 (some 3),.bool false],K,h6 ++ [.rows 6 29 false [[Iv (i:Nat),Iv 0,.sl 2 (some (b,0)) n (some n),.sl 6 none 0 (some 0),.sl 1 (some (g,0)) 3 (some 3),.bool false]]],?_,m6.trans (Mv.snoc' m6.nd),?_⟩
   ·have:(Ej n s).places[i]=Nr i n:=by simp[Ej]
    have r7:=Mv.snoc (t := [.rows 6 29 false [[Iv (i:Nat),Iv 0,.sl 2 (some (b,0)) n (some n),.sl 6 none 0 (some 0),.sl 1 (some (g,0)) 3 (some 3),.bool false]]]) |>.keep0 IY r6
    rw[<- this] at r7;exact r7
   ·rw[CV.e,Am (by omega),e6,Ad,AS,Aa,Ab,Aa,Ab,Aa,Ai,Aa,YD,Aa,Ai,Aa,AK,Ag,AX,Au (by omega)]) (mS.keep0 rplacesN_ok sP)
 have sS1:RSesss false h5 [.sl 5 (some (hP.length,0)) 0 (some s)] [] [hP.length]:=m1.keep rsesss_ok sS (λy hy hm=>by simp at hy hm;omega);obtain ⟨h7,G2,e2,q2,m2⟩:=Gu (El:=RSess false) IX (h0:=h5) (l:=(Ej n s).sess) (lo:=lo) (R:=5) (e:=66) (bytes:=56) (N:=s) (p0:=(hP.length,0)) (F0 := [hP.length])
  (zdh (zdh hl mPS.le) m1.le) (by intro y hy;simp at hy;omega) (by simp) (by decide) (by rw[lSe];omega) (by rw[lSe];exact zdj s)
  (λi x n1 d hh=>CU lo (s:Nat) (i:Nat) 0 none 0 (some 0) 0 none 0 (some 0) 0 none 0 (some 0) 0 none 0 (some 0) (some (h.length,0)) 3 (some 3) x n1 d 0 none 0 (some 0) 0 none 0 (some 0) hh)
  (λi hi hh F hm=>by
   have his:i<s:=by rw[lSe] at hi;exact hi
   obtain ⟨h6,q3,e6,r6,m6⟩:=SK (lo:=lo) (h:=hh);have ht:((i:Int).tmod 3)=((i % 3:Nat):Int):=(Int.ofNat_tmod i 3).symm;refine ⟨[Iv ((i % 3:Nat):Int),.sl 2 (some (q3,0)) 4 (some 4),Iv 0,Iv 0,Iv 0],[q3],h6 ++ [.rows 5 66 false [[Iv ((i % 3:Nat):Int),.sl 2 (some (q3,0)) 4 (some 4),Iv 0,Iv 0,Iv 0]]],?_,m6.trans (Mv.snoc' m6.nd),?_⟩
   ·have:(Ej n s).sess[i]=zbE i:=by simp[Ej]
    rw[this];exact ⟨_,rfl,Mv.snoc.keep0 rtags_ok r6⟩
   ·rw[CU.e,Am (by omega),e6,Ad,AS,Aa,Ai,Ag,ht,AX,Au (by omega)]) sS1
 rw[lPl] at e1 q1;rw[lSe] at e2 q2;have lt1:=m1.lt (λy hy=>by simp at hy;omega);have nd0:([h.length] ++ [hP.length]).Nodup:=by have:=mPS.nd;simpa using this
 have M1:Mv hS ([h.length] ++ [hP.length]) h5 (G1 ++ [hP.length]):=m1.mid (.refl _) nd0 (λy hy=>by simp at hy;omega) (.refl _);have M2:Mv h5 (G1 ++ [hP.length]) h7 (G1++G2):=m2.mid List.perm_append_comm M1.nd (λy hy=>lt1 y hy) List.perm_append_comm;have mPS':Mv h [] hS ([h.length] ++ [hP.length]):=by simpa using mPS
 have M:=mPS'.trans (M1.trans M2);refine ⟨h.length,hP.length,h7,G1,G2,Qh ?_,m2.keep rplacesN_ok q1 (λy hy hm=>?_),q2,M⟩
 ·rw[GG (by omega)];simp only[A7,hhP,hhS];refine e1.trans ?_;rw[CV.e,Aj (by omega)];refine e2.trans ?_;rw[CU.e,Aj (by omega)]
 ·have:=M1.nd;rw[zdg] at this;exact this.2.2 y hy y hm rfl
end


variable {l:List Event}
section
variable {lo b:Nat}{h:Heap}{a:Pq}{c:Nq}{E:List Nat}
theorem Lm {x y:Int}:Af lo 75 [Iv x,Iv y] h=some (.bool (Ah x 1 4&&Ah y 0 4),h):=by
 refine Pa (h':=h) ?_;rw[KD,Ad,Ax];cases Ah x 1 4
 ·rw[Az];rfl
 ·rw[Aq,Bk,Ad,Ax,zcV];rfl
theorem Wa (ht:∀ e∈l,e.text.size<=1048576) (hl6:l.length<=1048576):∀ (r m:Nat) (hh:Heap) (w:World) (F:List Nat),
  m+r=l.length->REvents hh [.sl 6 a l.length c] l E->Ik lo hh b w F->Good w->(∀ y∈E,y∉F) ->
  ∃ h' F',Bq lo b 0 0 a l.length c (l.length:Nat) (m:Nat) 0 none 0 (some 0) 0 none 0 (some 0) 0 none 0 (some 0) 0 none 0 (some 0) hh=Bq lo b 0 0 a l.length c (l.length:Nat) (l.length:Nat) 0 none 0 (some 0) 0 none 0 (some 0) 0 none 0 (some 0) 0 none 0 (some 0) h' /\
   Ik lo h' b (Ld w (l.drop m)) F'/\Mv hh F h' F':=by
 intro r;induction r with
 | zero =>
  intro m hh w F hm re H hg hd;have:m=l.length:=by omega
  subst this;obtain ⟨a1,c1,a2,c2,a3,c3,a4,c4,F1,F2,F3,F4,rfl,W⟩:=id H;exact ⟨hh,_,rfl,by rw[List.drop_length];exact H,Mv.refl W.nd⟩
 | succ r ih =>
  intro m hh w F hm re H hg hd;have hml:m<l.length:=by omega
  obtain ⟨o,row,G,rfl,hld,⟨rfl,_⟩,_⟩:=re.read hml;obtain ⟨a1,c1,a2,c2,a3,c3,a4,c4,F1,F2,F3,F4,rfl,W⟩:=id H;obtain ⟨h2,F5,e2,W2,m2⟩:=SH (e:=l[m]) W hg.fits (ht _ (zdf hml));have re2:=m2.keep revents_ok re hd;have hEb:=revents_ok.bd _ _ _ _ re;obtain ⟨h',F',f1,f2,f3⟩:=ih (m+1) h2 (zco w l[m]) F5 (by omega) re2 W2 (UK hg) (λy hy hm=>by
   rcases m2.sub y hm with g | g
   ·exact hd y hy g
   ·have:=hEb y hy;omega)
  have hld6:ld hh o.1 (o.2+m) 0 6=some l[m].cs:=by rw[hld];exact GN rfl
  simp only[Event.cs] at hld6 e2;refine ⟨h',F',?_,by rw[zdw hml,QY];exact f2,m2.trans f3⟩;rw[Bq.e,Am (by omega),Ac hml,Ae,A7,hld6,Ae,Aa,Ab,Aa,Ab,Aa,Ab,Aa,Ab,Aa,BO,Aa,AK,Ag,e2,Ad,Ax,Au (by omega)];cases (He w l[m]).isSome
  ·rw[Az];exact f1
  ·rw[Aq];exact f1
theorem Xq {n s p q:Nat}{h1:Heap}{F1 F2:List Nat} (q1:RPlacesN h1 [.sl 6 (some (p,0)) 3 (some 3)] (Ej n s).places F1) (q2:RSesss false h1 [.sl 5 (some (q,0)) s (some s)] (Ej n s).sess F2) (m:Mv h [] h1 (F1++F2)) (hl:lo<=h.length) :
  ∃ h2,st lo (h1 ++ [.rows 4 60 false [[.sl 0 none 0 (some 0),.sl 0 none 0 (some 0),.sl 0 none 0 (some 0),.sl 0 none 0 (some 0)]]]) h1.length 0 0 [.sl 6 (some (p,0)) 3 (some 3),.sl 5 (some (q,0)) s (some s),.sl 9 none 0 (some 0),.sl 5 none 0 (some 0)]=some h2 /\
   Ik lo h2 h1.length (Ej n s) (h1.length ::(F1++(F2++([] ++ []))))/\Mv h [] h2 (h1.length ::(F1++(F2++([] ++ [])))):=by
 have lSe:(Ej n s).sess.length=s:=by simp[Ej]
 have hcs:([.sl 6 (some (p,0)) 3 (some 3),.sl 5 (some (q,0)) s (some s),.sl 9 none 0 (some 0),.sl 5 none 0 (some 0)]:List V)=(Ej n s).cs (some (p,0)) (some 3) (some (q,0)) (some s) none (some 0) none (some 0):=by rw[World.cs,lSe];rfl
 have lt:=m.lt (by simp);have mS:Mv h1 [] (h1 ++ [.rows 4 60 false [(Ej n s).cs (some (p,0)) (some 3) (some (q,0)) (some s) none (some 0) none (some 0)]]) [h1.length]:=Mv.last;have mm:=m.join mS lt;have hnd:(h1.length ::(F1++(F2++([] ++ [])))).Nodup:=by rw[zdn];refine ⟨λhm=>?_,by simpa using m.nd⟩;have:=lt h1.length (by simpa using hm);omega
 refine ⟨h1 ++ [.rows 4 60 false [(Ej n s).cs (some (p,0)) (some 3) (some (q,0)) (some s) none (some 0) none (some 0)]],?_,⟨some (p,0),some 3,some (q,0),some s,none,some 0,none,some 0,F1,F2,[],[],rfl,by simp,mS.keep0 rplacesN_ok q1,by rw[lSe];exact mS.keep0 rsesss_ok q2,Sli.nil,Sli.nil,hnd,?_,?_⟩,mm.lean hnd λy hy=>?_⟩
 ·rw[hcs,Bt (lo:=lo) (r:=0) (row := [.sl 0 none 0 (some 0),.sl 0 none 0 (some 0),.sl 0 none 0 (some 0),.sl 0 none 0 (some 0)]) (row':=(Ej n s).cs (some (p,0)) (some 3) (some (q,0)) (some s) none (some 0) none (some 0)) (by simp;exact ⟨rfl,rfl,rfl⟩) (by have:=m.le;omega) rfl rfl];simp
 ·intro y hy;rcases zdm.1 hy with rfl | hy
  ·have:=m.le;omega
  ·have:=m.new y (by simpa using hy);omega
 ·have:=m.le;simp;omega
 ·simp only[zde,zdm,List.not_mem_nil,or_false] at hy ⊢;grind
theorem RA {n s:Nat} (h1:1<=n) (h4:n<=4) (hs:s<=4) (re:REvents h [.sl 6 a l.length c] l E) (ht:∀ e∈l,e.text.size<=1048576) (hl6:l.length<=1048576) (hl:lo<=h.length) :
  ∃ b1 d1 b2 d2 b3 d3 b4 d4 h' F',Af lo 25 [Iv (n:Nat),Iv (s:Nat),.sl 6 a l.length c] h=some (.agg ((Ld (Ej n s) (l.take 60)).cs b1 d1 b2 d2 b3 d3 b4 d4),h')/\FP false h' ((Ld (Ej n s) (l.take 60)).cs b1 d1 b2 d2 b3 d3 b4 d4) (Ld (Ej n s) (l.take 60)) F'/\Mv h [] h' F':=by
 obtain ⟨p,q,h2,G1,G2,e2,q1,q2,m2⟩:=SF (lo:=lo) (h:=h) h1 h4 hs hl;obtain ⟨h3,e3,W3,m3⟩:=Xq q1 q2 m2 hl;obtain ⟨k,hk,hkl⟩:∃ k:Nat,(if (60:Int)<((l.length:Nat):Int) then (60:Int) else ((l.length:Nat):Int))=(k:Int)/\k=min 60 l.length:=by refine ⟨min 60 l.length,?_,rfl⟩;split<;>omega
 have hkl':k<=l.length:=by omega
 have hlen:(l.take 60).length=k:=by rw[zdD];omega
 have htk:l.take k=l.take 60:=by
  rw[hkl];by_cases h60:60<=l.length
  ·rw[Nat.min_eq_left h60]
  ·rw[Nat.min_eq_right (by omega),zdP (by omega),zdP (by omega)]
 obtain ⟨E',re'⟩:=Sli.pre re hkl';rw[htk,<- hlen] at re';have hEb:=revents_ok.bd _ _ _ _ re';have hg:=Ow h1 h4 hs;obtain ⟨h5,F5,f1,f2,f3⟩:=Wa (λe he=>ht e (zeS he)) (by omega) (l.take 60).length 0 h3 (Ej n s) _ (by omega) (m3.keep0 revents_ok re') W3 hg (λy hy hm=>by have:=m3.new y hm;have:=hEb y hy;omega);rw[zeg] at f2;obtain ⟨u1,v1,u2,v2,u3,v3,u4,v4,J1,J2,J3,J4,rfl,W4⟩:=f2;obtain ⟨z1,t1,z2,t2,z3,t3,z4,t4,h6,K1,K2,K3,K4,e6,k1,k2,k3,k4,m6⟩:=ND (lo:=lo) W4.r1.up W4.r2 W4.r3 W4.r4 W4.hl (Yq (OL hg));have hld:ld h5 h2.length 0 0 4=some ((Ld (Ej n s) (l.take 60)).cs u1 v1 u2 v2 u3 v3 u4 v4):=by rw[CA W4.hb rfl];rfl
 have hw1:Ah ((n:Nat):Int) 1 4=true:=by simp only[Ah,DH,decide_eq_true_eq];omega
 have hw2:Ah ((s:Nat):Int) 0 4=true:=by simp only[Ah,DH,decide_eq_true_eq];omega
 refine ⟨z1,t1,z2,t2,z3,t3,z4,t4,h6,_,Kl ?_,⟨_,_,_,_,_,_,_,_,K1,K2,K3,K4,rfl,rfl,k1.up,k2,k3,k4⟩,(m3.trans f3).drop.trans m6⟩;simp only[World.cs] at e6 hld;rw[Lm,Ad,Ax,hw1,hw2,zeT,Aq,e2,Ad,AS,Aa,Ai,Aa,Ai,Aa,zbW,Aa,zbX,Ag,e3,Ae,hk,VT re hkl',<- hlen];refine f1.trans ?_;rw[Bq.e,Aj (by omega),hld,Ae,Aa,Ai,Aa,Ai,Aa,Ai,Aa,Ai,Ag,e6,Ad,AS,Aa,Ai,Aa,Ai,Aa,Ai,Aa,Ai,Ag]
theorem NG {x y:Int}{n:Nat} (hno:(Ah x 1 4&&Ah y 0 4)=false):Af lo 25 [Iv x,Iv y,.sl 6 a n c] h=some (.agg [.sl 0 none 0 (some 0),.sl 0 none 0 (some 0),.sl 0 none 0 (some 0),.sl 0 none 0 (some 0)],h):=by refine Kl ?_;rw[Lm,Ad,Ax,hno,Az]
end


variable {x y:Int}{l:List Event}
def HA (x y:Int):Bool:=Ah x 1 4&&Ah y 0 4
def L3 (x y:Int) (l:List Event):World:=bif HA x y then Ld (Ej x.toNat y.toNat) (l.take 60) else Um
theorem R4 (h:HA x y=true):∃ n s:Nat,x=(n:Int)/\y=(s:Int)/\1<=n/\n<=4/\s<=4:=by simp only[HA,Ah,DH,decide_eq_true_eq] at h;exact ⟨x.toNat,y.toNat,by omega,by omega,by omega,by omega,by omega⟩
theorem YN:Jo Um:=⟨⟨by decide,by intro p hp;cases hp⟩,⟨by decide,by intro p hp;cases hp⟩,⟨by decide,by intro p hp;cases hp⟩,by decide⟩
theorem TC (h:HA x y=true):Good (L3 x y l):=by unfold L3;rw[h,cond_true];obtain ⟨n,s,rfl,rfl,h1,h4,hs⟩:=R4 h;exact OL (Ow h1 h4 hs)
theorem zbv:Jo (L3 x y l):=by
 cases h:HA x y with
 | true=>exact Yq (TC h)
 | false=>unfold L3;rw[h];exact YN
section
variable {lo:Nat}{h:Heap}{a:Pq}{c:Nq}{E F:List Nat}
theorem Zp (re:REvents h [.sl 6 a l.length c] l E) (ht:∀ e∈l,e.text.size<=1048576) (hl6:l.length<=1048576) (hl:lo<=h.length) :
  ∃ raw r h' F',Af lo 25 [Iv x,Iv y,.sl 6 a l.length c] h=some (.agg raw,h')/\MJ raw (L3 x y l) r/\FP false h' r (L3 x y l) F'/\Mv h [] h' F':=by
 unfold L3;cases hok:HA x y with
 | true =>obtain ⟨n,s,rfl,rfl,h1,h4,hs⟩:=R4 hok;obtain ⟨b1,d1,b2,d2,b3,d3,b4,d4,h',F',e1,r1,m1⟩:=RA (lo:=lo) h1 h4 hs re ht hl6 hl;exact ⟨_,_,h',F',e1,TG,r1,m1⟩
 | false =>obtain ⟨raw,r,rfl,z1,z2⟩:=PA (h:=h);exact ⟨_,r,h,[],NG hok,z1,z2,Mv.nil⟩
theorem YZ (re:REvents h [.sl 6 a l.length c] l E) (ht:∀ e∈l,e.text.size<=1048576) (hl6:l.length<=1048576) (hl:lo<=h.length) :
  ∃ raw r h' F',Af lo 23 [Iv x,Iv y,.sl 6 a l.length c] h=some (.agg raw,h')/\MJ raw (L3 x y l) r/\FP false h' r (L3 x y l) F'/\Mv h [] h' F':=by
 suffices hq:∃ raw r h' F',_=some (V.agg raw,h')/\MJ raw (L3 x y l) r/\FP false h' r (L3 x y l) F'/\Mv h [] h' F' from by obtain ⟨raw,r,h',F',e,hr⟩:=hq;exact ⟨raw,r,h',F',OZ e,hr⟩
 obtain ⟨raw,r,rfl,z1,z2⟩:=PA (h:=h);unfold L3;rw[B0,Ad,Ax];cases hx:Ah x 1 4 with
 | false=>rw[show HA x y=false by unfold HA;rw[hx];rfl,Az];exact ⟨_,r,h,[],rfl,z1,z2,Mv.nil⟩
 | true =>
 rw[Aq,B0,Ad,Ax];cases hy:Ah y 0 4 with
 | false=>rw[show HA x y=false by unfold HA;rw[hy,zeD],Az];exact ⟨_,r,h,[],rfl,z1,z2,Mv.nil⟩
 | true =>
 have hok:HA x y=true:=by unfold HA;rw[hx,hy];rfl
 obtain ⟨n,s,rfl,rfl,h1,h4,hs⟩:=R4 hok;obtain ⟨cs',h',F',e1,⟨u1,v1,u2,v2,u3,v3,u4,v4,J1,J2,J3,J4,rfl,rfl,W4⟩,m1⟩:=VD (lo:=lo) h1 h4 hs re ht hl6 hl;simp only[World.cs] at e1;rw[hok,Aq,e1,Ad,AS,Aa,Ai,Aa,Ai,Aa,Ai,Aa,Ai,Ag];exact ⟨_,_,h',_,rfl,TG,⟨_,_,_,_,_,_,_,_,J1,J2,J3,J4,rfl,rfl,W4.r1,W4.r2,W4.r3,W4.r4⟩,m1⟩
end


structure Snug (w:World):Prop where
 p:w.places.length<=3/\∀ p∈w.places,Tidy 10 20 100 p
 s:w.sess.length<=4/\∀ s∈w.sess,s.past.length<=4
 n:w.net.length<=13/\∀ f∈w.net,thin f.ver
 h:w.hist.length<=90
section
variable {w w':World}
theorem Snug.setP (h:Snug w) {k:Nat}{q:Place} (hq:Tidy 10 20 100 q):Snug (Go.Proofs.YtmgopagfoemomaaGreat.setP w k q) :=
 ⟨⟨by show (w.places.set k q).length<=3;rw[zdM];exact h.p.1,λp hp=>(zdE hp).elim (h.p.2 p) λe=>e ▸ hq⟩,h.s,h.n,h.h⟩
theorem Snug.setS (h:Snug w) {i:Nat}{s:Sess}{ds:List Done} (hs:s.past.length<=4) (hd:w.hist.length+ds.length<=90):Snug (Go.Proofs.YtmgopagfoemomaaGreat.setS w i s ds) :=
 ⟨h.p,⟨by show (w.sess.set i s).length<=4;rw[zdM];exact h.s.1,λx hx=>(zdE hx).elim (h.s.2 x) λe=>e ▸ hs⟩,h.n,by show (w.hist++ds).length<=90;rw[zdy];exact hd⟩
theorem Snug.setN (h:Snug w) {l:List Frame} (hl:l.length<=13) (hf:∀ f∈l,thin f.ver):Snug (Go.Proofs.YtmgopagfoemomaaGreat.setN w l):=⟨h.p,h.s,⟨hl,hf⟩,h.h⟩
theorem YP (h:Wd w) {k:Nat}:∀ v∈GI w.places k,thin v:=λv hv=>by
 unfold GI at hv;split at hv
 ·rename_i p hp
  exact (Bd (h.place _ p hp).2).log.2 v hv
 ·simp at hv
theorem Wd.snug (h:Wd w):Snug w:=by
 refine ⟨⟨Nat.le_of_eq h.p3,λp hp=>?_⟩,⟨h.s4,λs hs=>?_⟩,⟨zdh h.n12 (by decide),λf hf=>?_⟩,zdh h.h80 (by decide)⟩
 ·obtain ⟨i,hi⟩:=zdA.1 hp;exact Ko (h.place i p hi).2
 ·have:=BQ (BD (h.sess s hs)).2.1;omega
 ·exact YP h _ (zdt (h.net f hf).2.2.2.2)
end


theorem zct {p:Place} (h:Tidy 10 20 100 p):Bm p<=1000000:=by
 have g1:=h.len;have g2:=h.log.1;have g3:=h.got.1;have e1:Ei p.chain<=1352*p.chain.length:=HU λx hx=>zag (h.node x hx) (by decide);have e2:=LK h.log.2;have e3:M4 p.got<=13000*p.got.length:=HU λl hl=>by have:=LK (h.got.2 l hl).2;have:=(h.got.2 l hl).1;omega
 simp only[Bm,Un];omega
theorem Snug.sm {w:World} (h:Snug w):Jo w/\(1:Int)+Im w<=EN:=by
 have hp:=h.p;have hs:=h.s;have hn:=h.n;have hh:=h.h;refine ⟨⟨⟨by omega,λp hp'=>(D1 (hp.2 p hp') (by decide) (by decide) (by decide)).1⟩,⟨by omega,λs hs'=>by have:=hs.2 s hs';omega⟩,⟨by omega,λf hf=>?_⟩,by omega⟩,?_⟩
 ·have:=hn.2 f hf;exact ⟨by have:=this.1;omega,by have:=this.2.1;omega⟩
 ·have e1:Bj Bm w.places<=1000000*w.places.length:=HU λp hp'=>zct (hp.2 p hp');have e2:Bj Eb w.sess<=100*w.sess.length:=HU λs hs'=>by have:=hs.2 s hs';have:=UC (l:=s.past);unfold Eb;omega
  have e3:Bj Dh w.net<=100*w.net.length:=HU λf hf=>by have:=ZT (hn.2 f hf);unfold Dh;omega
  have e4:Bj Fq w.hist<=5*w.hist.length:=HU λd _=>zdj _;simp only[Im,EN];omega


section
variable {lo:Nat}{h:Heap}{F:List Nat}{a:Pq}{c:Nq}{k:Int}
theorem Rl {l:List Done} (hs:RDones false h [.sl 5 a l.length c] (BN Ky Fq l k) F) (h0:0<=k) (hB:k+Bj Fq l<=EN) (hn:l.length<=1048576) :
  Af lo 96 [.sl 5 a l.length c,Iv k] h=some (Iv (k+Bj Fq l),h):=by
 refine O9 (h':=h) ?_;refine (Gn (w:=Fq) (l:=l) (k:=k) (λk i=>Cy (List.length h) a l.length c k 0 (i:Nat) h) λi hi=>?_).trans ?_
 ·have hi':i<(BN Ky Fq l k).length:=by rw[Ba];exact hi
  obtain ⟨o,row,G,rfl,ho,⟨rfl,_⟩,_⟩:=hs.read hi';have hle:=JP (w:=Fq) (l:=l) (i:=i+1);rw[E2 hi] at hle;rw[Fb hi] at ho;generalize hk':k+(Bj Fq (l.take i):Int)=k' at ho ⊢;simp only[EN] at hB;have hw:Fq l[i]=5:=rfl;rw[hw] at hle ⊢;rw[Cy.e,Am (by omega),Ac hi,wr (n:=k'+1) (by omega) (by omega),wr (n:=k'+1+1) (by omega) (by omega),wr (n:=k'+1+1+1) (by omega) (by omega),wr (n:=k'+1+1+1+1) (by omega) (by omega),wr (n:=k'+1+1+1+1+1) (by omega) (by omega),Au (by omega)];simp only[Ae,A7,ho,Done.cs,Ky,cut,Aa,Ab,Ag,EI,Aq,Ac hi];rw[show k'+1+1+1+1+1=k'+((5:Nat):Int) by omega]
 ·rw[Cy.e,Aj (by omega)]
theorem Rj {l:List Sess} (hs:RSesss false h [.sl 5 a l.length c] (BN Mr Eb l k) F) (h0:0<=k) (hB:k+Bj Eb l<=EN) (hn:l.length<=1048576/\∀ s∈l,s.past.length<=1048576) :
  Af lo 94 [.sl 5 a l.length c,Iv k] h=some (Iv (k+Bj Eb l),h):=by
 have hn1:=hn.1;refine O7 (h':=h) ?_;refine (Gn (w:=Eb) (l:=l) (k:=k) (λk i=>Cw (List.length h) a l.length c k 0 (i:Nat) h) λi hi=>?_).trans ?_
 ·have hi':i<(BN Mr Eb l k).length:=by rw[Ba];exact hi
  obtain ⟨o,row,G,rfl,ho,hv,_⟩:=hs.read hi';have hle:=JP (w:=Eb) (l:=l) (i:=i+1);rw[E2 hi] at hle;rw[Fb hi] at hv;have hpl:=hn.2 _ (zdf hi);generalize hk':k+(Bj Eb (l.take i):Int)=k' at hv ⊢;obtain ⟨v,a2,c2,rfl,es,hp⟩:=hv.form;simp only[Mr,Ba] at es hp ho;simp only[EN] at hB;have hw:Eb l[i]=4+Bj C0 l[i].past:=rfl;rw[hw] at hle ⊢;rw[Cw.e,Am (by omega),Ac hi];simp only[Ae,A7,ho,cut,Aa,Ab,Ag,es,EI,Aq,Ac hi];rw[wr (n:=k'+1) (by omega) (by omega)];rw[JR hp (by omega) (by simp only[EN];omega) hpl];simp only[Ad,Ab];generalize hN:k'+1+(Bj C0 l[i].past:Int)=N;rw[Aj (by omega),ho];simp only[Ae,cut,Aa,Ab,Ag,hN,EI,Aq];rw[wr (n:=N+1) (by omega) (by omega),ho];simp only[Ae,cut,Aa,Ab,Ag,hN,EI,Aq];rw[wr (n:=N+1+1) (by omega) (by omega),ho];simp only[Ae,cut,Aa,Ab,Ag,hN,EI,Aq];rw[wr (n:=N+1+1+1) (by omega) (by omega),Au (by omega)];rw[show N+1+1+1=k'+((4+Bj C0 l[i].past:Nat):Int) by omega]
 ·rw[Cw.e,Aj (by omega)]
theorem PX {l:List Frame} (hs:RFrames false h [.sl 9 a l.length c] (BN Jt Dh l k) F) (h0:0<=k) (hB:k+Bj Dh l<=EN) (hn:l.length<=1048576/\∀ f∈l,f.ver.past.length<=1048576/\f.ver.text.size<=1048576) :
  Af lo 95 [.sl 9 a l.length c,Iv k] h=some (Iv (k+Bj Dh l),h):=by
 have hn1:=hn.1;refine N1 (h':=h) ?_;refine (Gn (w:=Dh) (l:=l) (k:=k) (λk i=>BC (List.length h) a l.length c k 0 (i:Nat) h) λi hi=>?_).trans ?_
 ·have hi':i<(BN Jt Dh l k).length:=by rw[Ba];exact hi
  obtain ⟨o,row,G,rfl,ho,hv,_⟩:=hs.read hi';have hle:=JP (w:=Dh) (l:=l) (i:=i+1);rw[E2 hi] at hle;rw[Fb hi] at hv;have hpl:=(hn.2 _ (zdf hi)).1;generalize hk':k+(Bj Dh (l.take i):Int)=k' at hv ⊢;obtain ⟨vs,rfl,hv⟩:=hv;obtain ⟨s,a2,c2,rfl,es,hp⟩:=hv.form;simp only[Jt,Lh,Ba] at es hp ho;simp only[EN] at hB;have hw:Dh l[i]=3+(5+Bj C0 l[i].ver.past):=rfl;rw[hw] at hle ⊢;rw[BC.e,Am (by omega),Ac hi];simp only[Ae,A7,ho,cut,Aa,Ab,Ag,es,EI,Aq,Ac hi];rw[wr (n:=k'+1) (by omega) (by omega),EI,Aq,wr (n:=k'+1+1) (by omega) (by omega),EI,Aq,wr (n:=k'+1+1+1) (by omega) (by omega),show k'+1+1+1=k'+3 by omega,EI,Aq,
   wr (n:=k'+3+1) (by omega) (by omega),EI,Aq,wr (n:=k'+3+1+1) (by omega) (by omega),show k'+3+1+1=k'+3+2 by omega,EI,Aq,wr (n:=k'+3+2+1) (by omega) (by omega),show k'+3+2+1=k'+3+3 by omega]
  rw[JR hp (by omega) (by simp only[EN];omega) hpl];simp only[Ad,Ab];generalize hN:k'+3+3+(Bj C0 l[i].ver.past:Int)=N at *
  rw[Aj (by omega),FJ (by omega) (by simp only[EN];omega)];simp only[Ae,A7,ho,cut,Aa,Ag,Ad,BO,zch,Aq,Ax];rw[wr (n:=N+1) (by omega) (by omega),wr (n:=N+1+1) (by omega) (by omega),Au (by omega)];rw[show k'+((3+(5+Bj C0 l[i].ver.past):Nat):Int)=N+1+1 by omega];cases ((N+1).tmod 3==0)<;>simp only[Aq,Az]
 ·rw[BC.e,Aj (by omega)]
theorem PW {l:List Place} (hs:RPlaces false h [.sl 6 a l.length c] (BN I3 Bm l k) F) (h0:0<=k) (hB:k+Bj Bm l<=EN) (hn:l.length<=1048576/\∀ p∈l,FM p) :
  Af lo 93 [.sl 6 a l.length c,Iv k] h=some (Iv (k+Bj Bm l),h):=by
 have hn1:=hn.1;refine N0 (h':=h) ?_;refine (Gn (w:=Bm) (l:=l) (k:=k) (λk i=>BB (List.length h) a l.length c k 0 (i:Nat) h) λi hi=>?_).trans ?_
 ·have hi':i<(BN I3 Bm l k).length:=by rw[Ba];exact hi
  obtain ⟨o,row,G,rfl,ho,hv,_⟩:=hs.read hi';have hle:=JP (w:=Bm) (l:=l) (i:=i+1);rw[E2 hi] at hle;rw[Fb hi] at hv;have hsm:=hn.2 _ (zdf hi);generalize hk':k+(Bj Bm (l.take i):Int)=k' at hv ⊢;obtain ⟨s1,s2,s3,a1,c1,a2,c2,a3,c3,F1,F2,F3,rfl,rfl,e1,e2,e3,g1,g2,g3⟩:=hv.form;simp only[I3,Li,CF,Ox] at e1 e2 e3 g1 g2 g3 ho;simp only[EN] at hB;have hw:Bm l[i]=3+(Ei l[i].chain+CX l[i].log+M4 l[i].got):=rfl;rw[hw] at hle ⊢;rw[BB.e,Am (by omega),Ac hi];simp only[Ae,A7,ho,cut,Aa,Ab,Ag,e1,EI,Aq,Ac hi];rw[wr (n:=k'+1) (by omega) (by omega),EI,Aq,wr (n:=k'+1+1) (by omega) (by omega),show k'+1+1=k'+2 by omega];rw[Rk g1 (by omega) (by simp only[EN];omega) hsm.1];simp only[Ad,Ab];rw[Aj (by omega),ho];simp only[Ae,cut,Aa,Ag,e2];rw[HW g2 (by omega) (by simp only[EN];omega) hsm.2.1];simp only[Ad,Ab];rw[Aj (by omega),ho];simp only[Ae,cut,Aa,Ag,e3];rw[Ri g3 (by omega) (by simp only[EN];omega) hsm.2.2];simp only[Ad,Ab];generalize hN:k'+2+(Ei l[i].chain:Int)+(CX l[i].log:Int)+(M4 l[i].got:Int)=N at *
  rw[Aj (by omega),ho];simp only[Ae,cut,Aa,Ag,Ax];rw[wr (n:=N+1) (by omega) (by omega),Au (by omega)];rw[show k'+((3+(Ei l[i].chain+CX l[i].log+M4 l[i].got):Nat):Int)=N+1 by omega];cases (N.tmod 3==0)<;>simp only[Aq,Az]
 ·rw[BB.e,Aj (by omega)]
theorem RD {w:World}{cs:List V} (hs:FP false h cs (HT w) F) (hB:(1:Int)+Im w<=EN) (hn:Jo w) :
  Af lo 35 [.agg cs,Iv 1] h=some (Iv (1+Im w),h):=by
 obtain ⟨a1,c1,a2,c2,a3,c3,a4,c4,F1,F2,F3,F4,rfl,rfl,r1,r2,r3,r4⟩:=hs;obtain ⟨b1,b2,b3,b4⟩:=hn;have hw:Im w=Bj Bm w.places+Bj Eb w.sess+Bj Dh w.net+Bj Fq w.hist:=rfl;rw[hw] at hB ⊢;simp only[HT,Ba] at r1 r2 r3 r4;simp only[World.cs,HT,Ba];refine O5 (h':=h) ?_;rw[PW r1 (by omega) (by omega) b1];simp only[Ad,Ab];rw[Aj (by omega),Rj r2 (by omega) (by omega) b2];simp only[Ad,Ab];rw[Aj (by omega),PX r3 (by omega) (by omega) b3];simp only[Ad,Ab];rw[Aj (by omega),Rl r4 (by omega) (by omega) b4];simp only[Ad,Ab];rw[Aj (by omega),show (1:Int)+(Bj Bm w.places:Int)+(Bj Eb w.sess:Int)+(Bj Dh w.net:Int)+(Bj Fq w.hist:Int)=1+((Bj Bm w.places+Bj Eb w.sess+Bj Dh w.net+Bj Fq w.hist:Nat):Int) by omega]
end


variable {ro:Bool}{c1:List V}{p:Place}{l:List Tag}
def RPT (ro:Bool):Rel (Place×List Tag):=λh cs x F=>∃ c1 a c F1 F2,cs = [.agg c1,.sl 2 a x.2.length c]/\F=F1++F2/\B7 ro h c1 x.1 F1/\RTags ro h [.sl 2 a x.2.length c] x.2 F2
theorem RPT.parts {h:Heap}{a:Pq}{n:Nat}{c:Nq}{F:List Nat} (hs:RPT ro h [.agg c1,.sl 2 a n c] (p,l) F) :
  ∃ F1 F2,F=F1++F2/\n=l.length/\B7 ro h c1 p F1/\RTags ro h [.sl 2 a l.length c] l F2:=by
 obtain ⟨d1,b,d,F1,F2,e,e2,h1,h2⟩:=hs;injection e with e1 e;injection e1 with e1;injection e with e _;injection e with _ e3 e4 e5;subst e1;subst e3;subst e5;exact ⟨F1,F2,e2,e4,h1,h2⟩
theorem RPT.mk {h:Heap}{a:Pq}{c:Nq}{F1 F2:List Nat} (h1:B7 ro h c1 p F1) (h2:RTags ro h [.sl 2 a l.length c] l F2):RPT ro h [.agg c1,.sl 2 a l.length c] (p,l) (F1++F2):=⟨_,_,_,_,_,rfl,rfl,h1,h2⟩
section
variable {lo lo1 lo2:Nat}{h:Heap}{F:List Nat}
end


section
variable {lo:Nat}{h:Heap}{F F':List Nat}
theorem ZY {e:Event} (hb:e.text.size<=maxLen) {left:Int} (h0:0<=left) (h1:left<=1048576):Af lo 37 [.agg e.cs,Iv left] h=some (Iv (MU left e.text.size),h):=by
 refine Se (h':=h) ?_;rw[ZX h0 h1 hb];by_cases hh:MU left e.text.size<0
 ·rw[if_pos hh];unfold MU at hh ⊢;split<;>simp_all;omega
 ·rw[if_neg hh,Vy h0 h1 hb hh]
theorem ZS {e:Event}:Af lo 40 [.agg e.cs] h=some (.agg e.cs,h):=Sd rfl
end
section
variable {h:Heap}
end


abbrev REventsL:Rel (List Event):=Sli true 6 88 (flat Event.cs)
def REventsN:Rel (List Event):=λh cs l F=>(∃ b,cs = [.sl 6 (some (b,0)) l.length (some l.length)])/\REvents h cs l F
theorem VS:REventsN.Ok:=⟨λh h' cs l F hr hb=>⟨hr.1,revents_ok.fr _ _ _ _ _ hr.2 hb⟩,λh cs l F hr=>revents_ok.bd _ _ _ _ hr.2⟩
theorem Pv:REventsL.Ok:=Sli.ok DF
def zbm (e:Event):Nat:=e.text.size
def Vz (l:List Event):Nat:=l.length+(l.map zbm).sum
noncomputable def Qs (k:Int) (e:Event):Event:=⟨k,k+1,k+1+1,k+1+1+1,GH (k+1+1+1+1),(k+1+1+1+1+1).tmod 3==0⟩
def JK (e:Event):Nat:=6
theorem zbi {l:List Event}:Bj JK l=6*l.length:=by
 induction l with
 | nil=>rfl
 | cons e l ih=>simp only[Bj,zeq,zeO,zd7] at ih ⊢;rw[ih];unfold JK;omega
theorem zcx {x y:Int}{l:List Event}:(1:Int)+Im (L3 x y l)<=EN:=by
 cases hok:HA x y with
 | true=>exact (TC hok).ok.snug.sm.2
 | false=>unfold L3;rw[hok,cond_false];decide
section
variable {lo:Nat}{ro:Bool}{h:Heap}{F F':List Nat}{a a':Pq}{c c':Nq}{k left:Int}{l:List Event}
theorem ZZ (hs:REventsL h [.sl 6 a l.length c] l F) (hb:l.length<=maxLen/\∀ e∈l,e.text.size<=maxLen) (h0:0<=left) (h1:left<=1048576):Af lo 29 [.sl 6 a l.length c,Iv left] h=some (Iv (MU left (Vz l)),h):=by
 refine P9 (h':=h) ?_;unfold Vz;rw[ZX h0 h1 hb.1,<- Yb h0];by_cases hn:MU left l.length<0
 ·rw[if_pos hn,if_pos hn]
 ·rw[if_neg hn,if_neg hn,Vy h0 h1 hb.1 hn];have hle:=zcv (s:=l.length) h0;have hbig:l.length<=1048576:=by unfold MU at hn;split at hn<;>omega
  refine zbl (sz:=zbm) (L:=λleft i=>CO (List.length h) a l.length c left 0 (i:Nat) h) (λi hi left g0 g1=>?_) (λleft=>?_) (by omega) (by omega)
  ·obtain ⟨o,row,G,rfl,ho,⟨rfl,_⟩,_⟩:=hs.read hi;have ho6:ld h o.1 (o.2+i) 0 6=some l[i].cs:=by rw[ho];exact GN rfl
   have e5:=ZY (lo:=h.length) (h:=h) (e:=l[i]) (hb.2 _ (zdf hi)) g0 g1;simp only[Event.cs] at ho6 e5;rw[CO.e,Am (by omega),Ac hi,Ae,A7,ho6,Ae,Aa,Ab,Aa,Ab,Aa,Ab,Aa,Ab,Aa,BO,Aa,AK,Ag,e5,Ad,Ab,zc1,Au (show i<9223372036854775807 by omega)];rfl
  ·rw[CO.e,Aj (by omega)]
theorem Vw (hs:REventsL h [.sl 6 a l.length c] l F) (hl:lo<=h.length) (hn:l.length<=1048576) :
  ∃ b h' F',Af lo 30 [.sl 6 a l.length c] h=some (.sl 6 (some (b,0)) l.length (some l.length),h')/\REvents h' [.sl 6 (some (b,0)) l.length (some l.length)] l F'/\Mv h [] h' F':=by
 obtain ⟨h',F',e,r,m⟩:=Ub (El:=flat Event.cs) DF (h0:=h) (l:=l) (f:=id) (lo:=lo) (R:=6) (e:=74) (z := [Iv 0,Iv 0,Iv 0,Iv 0,.str ⟨⟨[]⟩⟩,.bool false]) rfl hl
  (λi hh=>CN lo a l.length c (some (h.length,0)) l.length (some l.length) (i:Nat) hh) (λi hi hh m=>by
   obtain ⟨o,row,G,rfl,ho,⟨rfl,_⟩,_⟩:=(m.keep0 Pv hs).read hi;have ho6:ld hh o.1 (o.2+i) 0 6=some l[i].cs:=by rw[ho];exact GN rfl
   have e5:=ZS (lo:=lo) (h:=hh) (e:=l[i]);simp only[Event.cs] at ho6 e5;refine ⟨l[i].cs,[],hh,⟨rfl,rfl⟩,Mv.nil,rfl,?_⟩;rw[CN.e,Am (by omega),Ac hi,Ae,A7,ho6,Ae,Aa,Ab,Aa,Ab,Aa,Ab,Aa,Ab,Aa,BO,Aa,AK,Ag,e5,Ad,AS,Aa,Ab,Aa,Ab,Aa,Ab,Aa,Ab,Aa,BO,Aa,AK,Ag];simp only[Ae,A7,Ac hi,zdR,Au (show i<9223372036854775807 by omega)])
 refine ⟨h.length,h',F',P8 ?_,by rw[List.map_id] at r;exact r,m⟩;rw[GG (by omega)];refine e.trans ?_;rw[CN.e,Aj (by omega)]
theorem zaP (h1:REvents h [.sl 6 a l.length c] l F) (h2:REvents h [.sl 6 a' l.length c'] l F') (hn:l.length<=1048576):Af lo 32 [.sl 6 a l.length c,.sl 6 a' l.length c'] h=some (.bool true,h):=by
 refine Qg (h':=h) ?_;rw[EI,Aq];refine (HY (n:=l.length) (λi=>CT h.length a l.length c a' l.length c' false (i:Nat) h) λi hi=>?_).trans ?_
 ·obtain ⟨o,row,G,rfl,ho,⟨rfl,_⟩,_⟩:=h1.read hi;obtain ⟨o',row',G',rfl,ho',⟨rfl,_⟩,_⟩:=h2.read hi;have ho6:ld h o.1 (o.2+i) 0 6=some l[i].cs:=by rw[ho];exact GN rfl
  have ho6':ld h o'.1 (o'.2+i) 0 6=some l[i].cs:=by rw[ho'];exact GN rfl
  have e5:Af h.length 87 [.agg l[i].cs,.agg l[i].cs] h=some (.bool true,h):=So (h':=h) (by simp only[EI,zcP,zch,Aq]);simp only[Event.cs] at ho6 ho6' e5;rw[CT.e,Am (by omega),Ac hi,Ae,A7,ho6,Ae,Aa,Ab,Aa,Ab,Aa,Ab,Aa,Ab,Aa,BO,Aa,AK,Ag,Ac hi,Ae,ho6',Ae,Aa,Ab,Aa,Ab,Aa,Ab,Aa,Ab,Aa,BO,Aa,AK,Ag,e5,Ad,Ax,Aq,Au (by omega)]
 ·rw[CT.e,Aj (by omega)]
theorem Xu (hs:REvents h [.sl 6 a l.length c] l F) (hlo:∀ b∈F,lo<=b) (hnd:F.Nodup) (h0:0<=k) (hB:k+Bj JK l<=EN) (hn:l.length<=1048576) :
  ∃ h',Af lo 33 [.sl 6 a l.length c,Iv k] h=some (Iv (k+Bj JK l),h')/\Mv h F h' F:=by
 obtain ⟨h',e,r,_,m⟩:=Fd (El:=flat Event.cs) DF (f:=Qs) (w:=JK) (B:=EN) (λk i hh=>BA lo a l.length c k (i:Nat) hh) (λi k hh x b j rs row G ha hbF hbG hGn hGF hb hrow hel hx hi h0 hB=>by
  obtain ⟨rfl,rfl⟩:=hel;subst ha;have hrl:j+i<rs.length:=(DY hrow).1;have hbl:b<hh.length:=(DY hb).1;have hlob:=hlo b hbF;have hw:JK x=6:=rfl;rw[hw] at hB;simp only[EN] at hB;refine ⟨hh.set b (.rows 6 74 false (rs.set (j+i) (Qs k x).cs)),(Qs k x).cs,?_,by simp[hbl],⟨rfl,rfl⟩,λy hy _=>zdi (Ne.symm hy),by simp⟩;rw[BA.e,Am (by omega),Ac hi];simp only[Ae,A7];rw[wr (n:=k+1) (by omega) (by omega),wr (n:=k+1+1) (by omega) (by omega),wr (n:=k+1+1+1) (by omega) (by omega),wr (n:=k+1+1+1+1) (by omega) (by omega),wr (n:=k+1+1+1+1+1) (by omega) (by omega),wr (n:=k+1+1+1+1+1+1) (by omega) (by omega),Au (by omega)];rw[Bt hb hlob hrow (row' := [Iv k,Iv x.at',Iv x.num,Iv x.key,.str x.text,.bool x.gone]) (by rfl),Ae,Ac hi];rw[Cm hbl hlob hrl (row' := [Iv k,Iv (k+1),Iv x.num,Iv x.key,.str x.text,.bool x.gone]) (by rfl),Ae,Ac hi];rw[Cm hbl hlob hrl (row' := [Iv k,Iv (k+1),Iv (k+1+1),Iv x.key,.str x.text,.bool x.gone]) (by rfl),Ae,Ac hi];rw[Cm hbl hlob hrl (row' := [Iv k,Iv (k+1),Iv (k+1+1),Iv (k+1+1+1),.str x.text,.bool x.gone]) (by rfl),Ae];rw[FJ (by omega) (by simp only[EN];omega),Ad,BO,Ac hi];rw[Cm hbl hlob hrl (row' := [Iv k,Iv (k+1),Iv (k+1+1),Iv (k+1+1+1),.str (GH (k+1+1+1+1)),.bool x.gone]) (by rfl),Ae,Ac hi];rw[show k+((JK x:Nat):Int)=k+1+1+1+1+1+1 by rw[hw];omega];unfold Qs;cases hg:((k+1+1+1+1+1).tmod 3==0)
  ·rw[Az,Cm hbl hlob hrl (row' := [Iv k,Iv (k+1),Iv (k+1+1),Iv (k+1+1+1),.str (GH (k+1+1+1+1)),.bool false]) (by rfl),Ae,Ac hi]
  ·rw[Aq,Cm hbl hlob hrl (row' := [Iv k,Iv (k+1),Iv (k+1+1),Iv (k+1+1+1),.str (GH (k+1+1+1+1)),.bool true]) (by rfl),Ae]) (λk hh=>by
  rw[BA.e,Aj (by omega)]) hs hnd h0 hB
 exact ⟨h',NZ e,m⟩
end
section
variable {h:Heap}{F:List Nat}{a:Pq}{c:Nq}{l:List Event}
set_option maxRecDepth 100000 in
theorem Lk {x y:Int} (hs:REventsL h [.sl 6 a l.length c] l F) (hb:l.length<=maxLen/\∀ e∈l,e.text.size<=maxLen) :
  ∃ h',Af h.length 7 [Iv x,Iv y,.sl 6 a l.length c] h=some (.bool true,h'):=by
 suffices hk:∃ h',_=some (V.bool true,h') from hk.imp λh' hh=>Kk hh;rw[ZZ (lo:=h.length) hs hb (by decide) (by decide),Ad,Ab];by_cases hneg:MU 1048576 (Vz l)<0
 ·rw[Am hneg];exact ⟨_,rfl⟩
 ·rw[Aj hneg];have hsm:=YW hneg;have hn:l.length<=1048576:=by unfold Vz at hsm;omega
  have ht:∀ e∈l,e.text.size<=1048576:=λe he=>by have:=zao (f:=zbm) he;have e1:zbm e=e.text.size:=rfl;unfold Vz at hsm;omega
  have hw:(1:Int)+Bj JK l<=EN:=by rw[zbi];simp only[EN];omega
  have hq:=zbv (x:=x) (y:=y) (l:=l);have hwq:(1:Int)+Im (L3 x y l)<=EN:=zcx;have hS:=λ(lo:Nat) (A:Pq) (C:Nq) (hh:Heap) (F:List Nat) (hl:lo<=hh.length) (hr:REvents hh [.sl 6 A l.length C] l F)=>YZ (lo:=lo) (x:=x) (y:=y) hr ht hn hl;have hI:=λ(lo:Nat) (A:Pq) (C:Nq) (hh:Heap) (F:List Nat) (hl:lo<=hh.length) (hr:REvents hh [.sl 6 A l.length C] l F)=>Zp (lo:=lo) (x:=x) (y:=y) hr ht hn hl;generalize L3 x y l=q at hq hwq hS hI;obtain ⟨c1,h1,w1,h2,c3,h3,g,h4,c5,h5,h6,h7,c8,h8,g9,h9,⟨B1,t1,rfl⟩,s2,⟨B3,t3,rfl⟩,i4,⟨B5,t5,rfl⟩,p6,p7,⟨B8,t8,rfl⟩,i9,⟨⟨X1,x1⟩,⟨X3,x3⟩,⟨X8,x8⟩⟩,⟨⟨W2,w2⟩,⟨G4,g4⟩,⟨W4,w4⟩⟩,⟨_,⟨X35,x35⟩,⟨X5,x5⟩⟩,⟨⟨G6,g6⟩,⟨W6,w6⟩⟩,⟨G7,g7⟩,⟨⟨G9,r9⟩,⟨W9,w9⟩⟩,⟨G79,g79⟩⟩ :=
   Ws (Ra:=REventsL) (Rx:=REventsN) (Rr:=FP false) Pv VS Xb (y:=q) (y':=HT q) hs
    (TO:=λhh r h'=>∃ b,Af h.length 30 [.sl 6 a l.length c] hh=some (.sl 6 (some (b,0)) l.length (some l.length),h')/\r = [.sl 6 (some (b,0)) l.length (some l.length)])
    (TO':=λhh r h'=>∃ b,Af h.length 30 [.sl 6 a l.length c] hh=some (.sl 6 (some (b,0)) l.length (some l.length),h')/\r = [.sl 6 (some (b,0)) l.length (some l.length)])
    (SP:=λv hh r h'=>∃ b raw,v = [.sl 6 (some (b,0)) l.length (some l.length)]/\Af h.length 23 [Iv x,Iv y,.sl 6 (some (b,0)) l.length (some l.length)] hh=some (.agg raw,h')/\MJ raw q r)
    (IM:=λv hh r h'=>∃ b raw,v = [.sl 6 (some (b,0)) l.length (some l.length)]/\Af h.length 25 [Iv x,Iv y,.sl 6 (some (b,0)) l.length (some l.length)] hh=some (.agg raw,h')/\MJ raw q r)
    (MX:=λv hh h'=>∃ b,v = [.sl 6 (some (b,0)) l.length (some l.length)]/\Af h.length 33 [.sl 6 (some (b,0)) l.length (some l.length),Iv 1] hh=some (Iv (1+Bj JK l),h'))
    (MR:=λr hh h'=>Af h.length 34 [.agg r,Iv 1] hh=some (Iv (1+Im q),h'))
    (λhh F hl hr=>by obtain ⟨b,h',F',e1,e2,e3⟩:=Vw (lo:=h.length) hr hl hn;exact ⟨_,h',F',⟨b,e1,rfl⟩,⟨⟨b,rfl⟩,e2⟩,e3⟩)
    (λhh F hl hr=>by obtain ⟨b,h',F',e1,e2,e3⟩:=Vw (lo:=h.length) hr hl hn;exact ⟨_,h',F',⟨b,e1,rfl⟩,⟨⟨b,rfl⟩,e2⟩,e3⟩)
    (λv hh F hl hr _ _=>by
     obtain ⟨⟨b,rfl⟩,hr⟩:=hr;obtain ⟨raw,r,h',F',e1,e2,e3,e4⟩:=hS h.length _ _ hh F hl hr;exact ⟨r,h',F',⟨b,raw,rfl,e1,e2⟩,e3,e4⟩)
    (λv hh F hl hr _ _=>by
     obtain ⟨⟨b,rfl⟩,hr⟩:=hr;obtain ⟨raw,r,h',F',e1,e2,e3,e4⟩:=hI h.length _ _ hh F hl hr;exact ⟨r,h',F',⟨b,raw,rfl,e1,e2⟩,e3,e4⟩)
    (λv hh F hr hnd hlo=>by
     obtain ⟨⟨b,rfl⟩,hr⟩:=hr;obtain ⟨h',e,m⟩:=Xu (lo:=h.length) hr hlo hnd (by decide) hw hn;exact ⟨h',⟨b,rfl,e⟩,m⟩)
    (λr hh F hr hnd hlo=>by obtain ⟨h',e,rr,m⟩:=V4 (lo:=h.length) hr hlo hnd hwq hq;exact ⟨h',e,rr,m⟩)
  have e35:=zaP (lo:=h.length) x35.2 x5.2 hn;have e4:=RN (lo:=h.length) g4 w4 hq;have e6:=RN (lo:=h.length) g6 w6 hq;have e9:=RN (lo:=h.length) r9 w9 hq;have k7:=RD (lo:=h.length) g7 hwq hq;have k9:=RD (lo:=h.length) g79 hwq hq;obtain ⟨b2,raw2,q2,s2,_,_,_,_,_,_,_,_,_,_,_,_,rfl,su1,su2,su3,su4,rfl⟩:=s2;injection q2 with q2 _;injection q2 with _ q2 _ _;injection q2 with q2;injection q2 with q2 _;subst q2;obtain ⟨b4,raw4,q4,i4,_,_,_,_,_,_,_,_,_,_,_,_,rfl,sv1,sv2,sv3,sv4,rfl⟩:=i4;injection q4 with q4 _;injection q4 with _ q4 _ _;injection q4 with q4;injection q4 with q4 _;subst q4;obtain ⟨b9,raw9,q9,i9,_,_,_,_,_,_,_,_,_,_,_,_,rfl,sy1,sy2,sy3,sy4,rfl⟩:=i9;injection q9 with q9 _;injection q9 with _ q9 _ _;injection q9 with q9;injection q9 with q9 _;subst q9;obtain ⟨b6,q6,p6⟩:=p6;injection q6 with q6 _;injection q6 with _ q6 _ _;injection q6 with q6;injection q6 with q6 _;subst q6;have z1:decide ((1:Int)+Bj JK l<0)=false:=decide_eq_false (by omega);have z2:decide ((1:Int)+Im q<0)=false:=decide_eq_false (by omega);have bq:∀ {T:Type} (x:Int) (y z:Option T),br (x==x) y z=y:=λx y z=>by rw[EI,Aq]
  refine ⟨h9,?_⟩;rw[t1,Ad,Ai,s2,Ad,AS,Aa,su1,Aa,su2,Aa,su3,Aa,su4,Ag,t3,Ad,Ai,i4,Ad,AS,Aa,sv1,Aa,sv2,Aa,sv3,Aa,sv4,Ag,e4,Ad,Ax,Aq,t5,Ad,Ai,e35,Ad,Ax,Aq,p6,Ad,Ab,z1,Az,e6,Ad,Ax,Aq,p7,Ad,Ab,k7,Ad,Ab,z2,Az,bq,t8,Ad,Ai,i9,Ad,AS,Aa,sy1,Aa,sy2,Aa,sy3,Aa,sy4,Ag,e9,Ad,Ax,Aq,k9,Ad,Ab,z2,Az,bq]
set_option maxRecDepth 100000 in
theorem ZM {n:Nat}{x:V} (hx:ArgV Tryz.prog h (n+4) 75 x):∃ a c l F,x = .sl 6 a (List.length l) c/\REventsL h [.sl 6 a l.length c] l F/\l.length<=maxLen/\∀ e∈l,e.text.size<=maxLen:=by
 have hx2:TV Tryz.prog h (n+4) 75 [x]:=by unfold ArgV at hx;rw[Tryz.underlying75] at hx;exact hx
 obtain ⟨l,F,h1,h2,h3⟩:=zcs (El:=flat Event.cs) (bd:=λe:Event=>e.text.size<=maxLen) (ee:=88) (R:=6) Tryz.underlying75 (by kernel_rfl) (λrow hr=>by
  obtain ⟨y1,z1,rfl,_,g1,y2,z2,rfl,_,g2,y3,z3,rfl,_,g3,y4,z4,rfl,_,g4,y5,z5,rfl,_,g5,y6,z6,rfl,_,g6,rfl⟩:=YT Tryz.underlying88 hr;obtain ⟨i1,rfl,_⟩:=QD Tryz.underlying3 g1;obtain ⟨i2,rfl,_⟩:=QD Tryz.underlying3 g2;obtain ⟨i3,rfl,_⟩:=QD Tryz.underlying3 g3;obtain ⟨i4,rfl,_⟩:=QD Tryz.underlying3 g4;obtain ⟨s,rfl,hs⟩:=zcr Tryz.underlying9 g5;obtain ⟨b,rfl⟩:=zbj Tryz.underlying4 g6;exact ⟨⟨i1,i2,i3,i4,s,b⟩,[],⟨rfl,rfl⟩,hs⟩) hx2
 obtain ⟨a,c,e⟩:=Z4 h1;subst e;exact ⟨a,c,l,F,rfl,h1,h2,h3⟩
end
set_option maxRecDepth 100000 in
theorem main_FnExactWorldPlay {h:Heap}{x y z:V} (hx:ArgV Tryz.prog h 12 3 x) (hy:ArgV Tryz.prog h 12 3 y) (hz:ArgV Tryz.prog h 12 75 z):∃ h',Af h.length 7 [x,y,z] h=some (.bool true,h'):=by obtain ⟨i,rfl,_⟩:=zbb (n:=11) hx;obtain ⟨j,rfl,_⟩:=zbb (n:=11) hy;obtain ⟨a,c,l,F,rfl,h1,h2⟩:=ZM (n:=8) hz;exact Lk h1 h2
end Go.Proofs.YtmgopagfoemomaaGreat
