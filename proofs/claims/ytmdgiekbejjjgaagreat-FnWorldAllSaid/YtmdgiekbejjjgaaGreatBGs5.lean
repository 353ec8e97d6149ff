/- Part 5 of what is shown for the law Gs, whatever the input; no condition of its own. -/
import Derived.Test.YtmdgiekbejjjgaaGreatBGs4
set_option linter.unusedVariables false
set_option linter.unusedSimpArgs false
set_option linter.unnecessarySimpa false
set_option maxRecDepth 100000
namespace Go.Proofs.YtmdgiekbejjjgaaGreat
open Go T


variable {p:Place}{rs:List (List V)}
section
variable {lo:Nat}{ro:Bool}{hh:Heap}{F F' G:List Nat}{a a' av:Pq}{c c' cv:Nq}
theorem Ob {k:Int}{b i0:Nat} (hrl:i0<rs.length) {a1 a2 a3:Pq}{c1 c2 c3:Nq}{G1 G2 G3:List Nat} (hb:hh[b]?=some (CB rs i0 (p.cs a1 c1 a2 c2 a3 c3)))
  (g1:RNodes false hh [.sl 2 a1 p.chain.length c1] p.chain G1) (g2:RVers false hh [.sl 6 a2 p.log.length c2] p.log G2) (g3:RVss false hh [.sl 1 a3 p.got.length c3] p.got G3) (hpo:As p=true)
  (hnd:(b ::(G1++(G2++G3))).Nodup) (hlo':∀ y∈b ::(G1++(G2++G3)),lo<=y) (hl:lo<=hh.length) :
  ∃ hh' row' F1',Ai lo 110 [.ptr (some (b,(i0,0))),Iv k] hh=some (.bool (Cm p k),hh')/\Cy false hh' row' (C9 p k) F1'/\hh'[b]?=some (CB rs i0 row')/\Mv hh (b ::(G1++(G2++G3))) hh' (b :: F1'):=by
 have hblt:b<hh.length:=(Ea hb).1;have hbd:∀ y∈b ::(G1++(G2++G3)),y<hh.length:=λy hy=>by
  simp only[zcD,zcx] at hy;rcases hy with rfl | hy | hy | hy
  ·exact hblt
  ·exact rnodes_ok.bd _ _ _ _ g1 y hy
  ·exact rvers_ok.bd _ _ _ _ g2 y hy
  ·exact rvss_ok.bd _ _ _ _ g3 y hy
 have hsmN:Dm p.chain:=Kk (Bv hpo) (by decide) (by decide);have l5:ld hh b i0 (0+5) 1=some [.bool p.fell]:=by rw[Dc hrl hb];rfl
 have stay:Cm p k=false->∃ hh' row' F1',some (V.bool false,hh)=some (V.bool (Cm p k),hh')/\Cy false hh' row' (C9 p k) F1'/\hh'[b]?=some (CB rs i0 row')/\Mv hh (b ::(G1++(G2++G3))) hh' (b :: F1'):=λhc=>by unfold C9;rw[hc];exact ⟨hh,_,G1++(G2++G3),rfl,⟨_,_,_,_,_,_,rfl,_,_,_,G1,G2,G3,rfl,rfl,g1,g2,g3⟩,hb,Mv.refl hnd⟩
 suffices hq:∃ hh' row' F1',_=some (V.bool (Cm p k),hh')/\Cy false hh' row' (C9 p k) F1'/\hh'[b]?=some (CB rs i0 row')/\Mv hh (b ::(G1++(G2++G3))) hh' (b :: F1') from by obtain ⟨hh',row',F1',e,hr⟩:=hq;exact ⟨hh',row',F1',NE e,hr⟩
 have hcd:Cm p k=(!p.fell&&Dh p.chain k):=rfl;rw[l5,Ad,Aa,Ag,Ao];cases hf:p.fell with
 | true=>rw[Am];exact stay (by rw[hcd,hf];rfl)
 | false =>
 rw[hf,zdm,zcJ] at hcd;have nd:=hnd;rw[zcE,zcy,zcx,zcx,zcy] at nd;obtain ⟨n1,n2,⟨n3,n4,n5⟩,n6⟩:=nd;simp only[not_or] at n1;have nd2:(b :: G2).Nodup:=by rw[zcE];exact ⟨n1.2.1,n3⟩
 obtain ⟨a5,x5,c5,h5,F5,e5,b5,r5,m5⟩:=YE (lo:=lo) (k:=k) (R:=6) (e:=60) (rs:=rs.set i0 (p.cs a1 c1 a2 c2 a3 c3)) (row:=p.cs a1 c1 a2 c2 a3 c3) (i:=i0) (j:=0+2) hb (zcG hrl) rfl g1 n1.1 n2 (hlo' b (by simp)) (λy hy=>hlo' y (by simp[hy])) hl hsmN (Dp hpo) (λx hx=>(AY ((CO (AI hpo).2.2.2.1).2 x hx)).1);rw[zdL] at b5;have hx5:=r5.val;have mA:Mv hh (b ::(G1++(G2++G3))) h5 (b ::(F5++(G2++G3))):=m5.aside (G:=G2++G3) (by simpa using hnd) (λy hy=>hbd y (by simp only[zcD,zcx] at hy ⊢;exact .inr (.inr hy)));have d2:∀ y∈G2,y∉b :: G1:=λy hy hm=>by
  rcases zcD.1 hm with rfl | hm
  ·exact n1.2.1 hy
  ·exact n6 y hm y (by simp[hy]) rfl
 have d3:∀ y∈G3,y∉b :: G1:=λy hy hm=>by
  rcases zcD.1 hm with rfl | hm
  ·exact n1.2.2 hy
  ·exact n6 y hm y (by simp[hy]) rfl
 have g25:=m5.keep rvers_ok g2 d2;have g35:=m5.keep rvss_ok g3 d3;cases hc:Dh p.chain k with
 | false =>
  have hcf:Cm p k=false:=by rw[hcd,hc]
  rw[hc] at e5 r5;rw[cond_false] at r5;rw[hc,cond_false] at hx5;subst hx5;rw[Av,e5,Ac,Ao,Av];unfold C9;rw[hcf];exact ⟨h5,p.cs a5 c5 a2 c2 a3 c3,F5++(G2++G3),rfl,⟨_,_,_,_,_,_,rfl,_,_,_,F5,G2,G3,rfl,rfl,r5,g25,g35⟩,b5,mA⟩
 | true =>
  have hcf:Cm p k=true:=by rw[hcd,hc]
  rw[hc] at e5 r5;rw[cond_true] at r5;rw[hc,cond_true] at hx5;subst hx5;have hc':=hc;unfold Dh at hc';simp only[CA,Ah,decide_eq_true_eq] at hc';obtain ⟨hw,hl1⟩:=hc';have hk':k.toNat<p.chain.length:=by omega
  have hb5lt:b<h5.length:=zcI hblt m5.le;have b5':h5[b]?=some (CB rs i0 [Iv p.me,Iv p.clock,.sl 2 a5 (B6 p.chain k.toNat).length c5,.sl 6 a2 p.log.length c2,.sl 1 a3 p.got.length c3,.bool p.fell]):=b5;have e6:=K8 (lo:=lo) (cs := [.bool true]) (j:=0+5) b5' (hlo' b (by simp)) hrl (EN (by simp));obtain ⟨m6,b6,k6,_⟩:=(Mv.refl (h:=h5) (F := []) (by simp)).store hb5lt (by simp) (CB rs i0 ((LN p k.toNat).cs a5 c5 a2 c2 a3 c3));generalize hh6:h5.set b (CB rs i0 ((LN p k.toNat).cs a5 c5 a2 c2 a3 c3))=h6 at m6 b6 k6;have e6':st lo h5 b i0 (0+5) [.bool true]=some h6:=by rw[<- hh6];exact e6
  have ndA:=mA.nd;have ndA':=ndA;rw[zcE,zcy,zcx,zcx] at ndA';obtain ⟨q1,q2,_,q4⟩:=ndA';simp only[not_or] at q1;have bdA:∀ y∈b ::(F5++(G2++G3)),y<h5.length:=mA.lt hbd;have bdA6:∀ y∈b ::(F5++(G2++G3)),y<h6.length:=λy hy=>zcI (bdA y hy) m6.le;have r56:=m6.keep rnodes_ok r5 λy hy hm=>by rw[zcQ] at hm;subst hm;exact q1.1 hy
  have g26:=m6.keep rvers_ok g25 λy hy hm=>by rw[zcQ] at hm;subst hm;exact q1.2.1 hy
  have g36:=m6.keep rvss_ok g35 λy hy hm=>by rw[zcQ] at hm;subst hm;exact q1.2.2 hy
  have ht:=PQ (Sz (k:=k.toNat) (Bv hpo)) (by decide) (by decide) (by decide);have d1':=(UH (Mv.refl (h:=h6) q2) (Mv.refl nd2) ndA bdA6).2.1;obtain ⟨a8,c8,h8,F8,e9,b9,r9,m9⟩:=Hu (lo:=lo) (p:=LN p k.toNat) hrl (a3:=a3) (c3:=c3) b6 r56 g26 (by show 0<(B6 _ _).length;rw[Jv hk' hl1];omega) ht d1' nd2 (λy hy=>hlo' y (by simp only[zcD,zcx] at hy ⊢;rcases hy with hy | hy;exact .inl hy;exact .inr (.inr (.inl hy)))) (by have:=m5.le;have:=m6.le;omega);obtain ⟨r10,m10⟩:=Fg (q:=BF (LN p k.toNat)) (Mv.refl (h:=h6) q2) m9 ndA bdA6 r56 r9 g36;have mB:Mv h5 (b ::(F5++(G2++G3))) h6 (b ::(F5++(G2++G3))):=m6.aside (G:=F5++(G2++G3)) ndA λy hy=>bdA y (by simp[hy]);rw[Av,e5,Ac,Ao,Am,e6',Ad,e9,Ac,Gn,Ag];unfold C9;rw[hcf];exact ⟨h8,_,_,rfl,r10,b9,(mA.trans mB).trans m10⟩
theorem Oa {k:Int}{b i0:Nat} (hrl:i0<rs.length) {a1 a2 a3:Pq}{c1 c2 c3:Nq}{G1 G2 G3:List Nat} (hb:hh[b]?=some (CB rs i0 (p.cs a1 c1 a2 c2 a3 c3)))
  (g1:RNodes false hh [.sl 2 a1 p.chain.length c1] p.chain G1) (g2:RVers false hh [.sl 6 a2 p.log.length c2] p.log G2) (g3:RVss false hh [.sl 1 a3 p.got.length c3] p.got G3) (hpo:As p=true)
  (hnd:(b ::(G1++(G2++G3))).Nodup) (hlo':∀ y∈b ::(G1++(G2++G3)),lo<=y) (hl:lo<=hh.length) :
  ∃ hh' row' F1',Ai lo 109 [.ptr (some (b,(i0,0))),Iv k] hh=some (.bool (BJ p.chain k),hh')/\Cy false hh' row' (D3 p k) F1'/\hh'[b]?=some (CB rs i0 row')/\Mv hh (b ::(G1++(G2++G3))) hh' (b :: F1'):=by
 have hblt:b<hh.length:=(Ea hb).1;have hbd:∀ y∈b ::(G1++(G2++G3)),y<hh.length:=λy hy=>by
  simp only[zcD,zcx] at hy;rcases hy with rfl | hy | hy | hy
  ·exact hblt
  ·exact rnodes_ok.bd _ _ _ _ g1 y hy
  ·exact rvers_ok.bd _ _ _ _ g2 y hy
  ·exact rvss_ok.bd _ _ _ _ g3 y hy
 have hsmN:Dm p.chain:=Kk (Bv hpo) (by decide) (by decide);have nd:=hnd;rw[zcE,zcy,zcx,zcx,zcy] at nd;obtain ⟨n1,n2,⟨n3,n4,n5⟩,n6⟩:=nd;simp only[not_or] at n1;have nd2:(b :: G2).Nodup:=by rw[zcE];exact ⟨n1.2.1,n3⟩
 obtain ⟨h5,F5,e5,r5,m5⟩:=YB (lo:=lo) (k:=k) (R:=6) (e:=60) (rs:=rs.set i0 (p.cs a1 c1 a2 c2 a3 c3)) (row:=p.cs a1 c1 a2 c2 a3 c3) (i:=i0) (j:=0+2) hb (zcG hrl) rfl g1 n1.1 n2 (λy hy=>hlo' y (by simp[hy])) hl hsmN (TE hpo);have hb5:h5[b]?=some (CB rs i0 (p.cs a1 c1 a2 c2 a3 c3)):=by rw[m5.fr b hblt n1.1];exact hb
 have g25:=m5.keep rvers_ok g2 λy hy hm=>n6 y hm y (by simp[hy]) rfl;have d1':=(UH m5 (Mv.refl nd2) hnd hbd).2.1;unfold D3;cases hc:BJ p.chain k with
 | false =>rw[hc,cond_false] at r5;rw[hc] at e5;obtain ⟨r8,m8⟩:=Fg (q:=p) m5 (Mv.refl nd2) hnd hbd r5 g25 g3;exact ⟨h5,_,_,I9 (r:=(.bool false,h5)) (by rw[e5,Ac,Ao,Av]),r8,hb5,m8⟩
 | true =>
  rw[hc,cond_true] at r5;rw[hc] at e5;have ht:=PQ (Sy (k:=k.toNat) (Bv hpo)) (by decide) (by decide) (by decide);have h0:=Dp hpo;have hcs:(Iu p k.toNat).cs a1 c1 a2 c2 a3 c3=p.cs a1 c1 a2 c2 a3 c3:=by simp only[Place.cs,Iu,GW]
  have r5':RNodes false h5 [.sl 2 a1 (Iu p k.toNat).chain.length c1] (Iu p k.toNat).chain F5:=by show RNodes false h5 [.sl 2 a1 (EU p.chain k.toNat).length c1] (EU p.chain k.toNat) F5;rw[GW];exact r5
  obtain ⟨a8,c8,h8,F8,e9,b9,r9,m9⟩:=Hu (lo:=lo) (p:=Iu p k.toNat) hrl (a3:=a3) (c3:=c3) (by rw[hcs];exact hb5) r5' g25 (by show 0<(EU _ _).length;rw[GW];omega) ht d1' nd2 (λy hy=>hlo' y (by simp only[zcD,zcx] at hy ⊢;rcases hy with hy | hy;exact .inl hy;exact .inr (.inr (.inl hy)))) (by have:=m5.le;omega);obtain ⟨r10,m10⟩:=Fg (q:=BF (Iu p k.toNat)) m5 m9 hnd hbd r5' r9 g3;exact ⟨h8,_,_,I9 (r:=(.bool true,h8)) (by rw[e5,Ac,Ao,Am,e9,Ac,Gn,Ag]),r10,b9,m10⟩
end


theorem Sli.atP {α:Type}{El:Rel α} (ok:El.Ok) {h:Heap}{R R' e n k:Nat}{a:Pq}{c:Nq}{l:List α}{F:List Nat} (hs:Sli false R e El h [.sl R' a n c] l F) (hk:k<l.length) (hnd:F.Nodup) :
  ∃ (b i:Nat) (rs:List (List V)) (row:List V) (G:List Nat),a=some (b,i)/\b∈F/\b∉G/\h[b]?=some (.rows R e false (rs.set (i+k) row))/\i+k<rs.length/\El h row l[k] G/\(∀ y∈G,y∈F)/\G.Nodup /\
   ∀ h' row' x' G',h'[b]?=some (.rows R e false (rs.set (i+k) row'))->El h' row' x' G'->Mv h (b :: G) h' (b :: G')->∃ F',Sli false R e El h' [.sl R' a n c] (l.set k x') F'/\Mv h F h' F':=by
 have hbd:=(Sli.ok ok).bd _ _ _ _ hs;obtain ⟨b,i,rs,row,G,ha,hbF,hbG,hb,hrow,hel,hGF,hGn,put⟩:=hs.put ok.fr hk hnd;refine ⟨b,i,rs,row,G,ha,hbF,hbG,by rw[set_same hrow];exact hb,(Ea hrow).1,hel,hGF,hGn,λh' row' x' G' hb' hx m=>?_⟩;have hnd':=m.nd;rw[zcE] at hnd';have hsub:∀ y∈b :: G,y∈F:=λy hy=>by
  rcases zcD.1 hy with rfl | hy
  ·exact hbF
  ·exact hGF y hy
 obtain ⟨F',p1,p2,p3,_⟩:=put h' row' x' G' hb' (λy hy hyb hyG=>m.fr y (hbd y hy) (by simp[hyb,hyG])) hx hnd'.2 (λy hy hyF=>by
  rcases m.sub y (by simp[hy]) with g | g
  ·rcases zcD.1 g with rfl | g
   ·exact absurd hy hnd'.1
   ·exact g
  ·have:=hbd y hyF;omega)
 refine ⟨F',p1,m.le,λy hy hyF=>m.fr y hy λhg=>hyF (hsub y hg),p3,λy hy=>?_⟩;rcases p2 y hy with g | g
 ·exact .inl g.1
 ·rcases m.sub y (by simp[g]) with q | q
  ·exact .inl (hsub y q)
  ·exact .inr q
abbrev RPlacesN:Rel (List Place):=Sli false 6 (Z0 false) (Cy false)
theorem rplacesN_ok:RPlacesN.Ok:=Sli.ok Is
structure WN (lo:Nat) (h:Heap) (b:Nat) (w:World) (a1:Pq) (c1:Nq) (a2:Pq) (c2:Nq) (a3:Pq) (c3:Nq) (a4:Pq) (c4:Nq) (F1 F2 F3 F4:List Nat):Prop where
 hb:h[b]?=some (.rows 4 41 false [w.cs a1 c1 a2 c2 a3 c3 a4 c4])
 r1:RPlacesN h [.sl 6 a1 w.places.length c1] w.places F1
 r2:RSesss false h [.sl 5 a2 w.sess.length c2] w.sess F2
 r3:RFrames false h [.sl 9 a3 w.net.length c3] w.net F3
 r4:RDones false h [.sl 5 a4 w.hist.length c4] w.hist F4
 nd:(b ::(F1++(F2++(F3++F4)))).Nodup
 ge:∀ y∈b ::(F1++(F2++(F3++F4))),lo<=y
 hl:lo<=h.length
def HH (lo:Nat) (h:Heap) (b:Nat) (w:World) (F:List Nat):Prop:=∃ a1 c1 a2 c2 a3 c3 a4 c4 F1 F2 F3 F4,F=b ::(F1++(F2++(F3++F4)))/\WN lo h b w a1 c1 a2 c2 a3 c3 a4 c4 F1 F2 F3 F4
section
variable {lo b:Nat}{h h':Heap}{w:World}{a1 a2 a3 a4 a:Pq}{c1 c2 c3 c4 c:Nq}{F1 F2 F3 F4:List Nat}
theorem WN.at (H:WN lo h b w a1 c1 a2 c2 a3 c3 a4 c4 F1 F2 F3 F4):HH lo h b w (b ::(F1++(F2++(F3++F4)))):=⟨a1,c1,a2,c2,a3,c3,a4,c4,F1,F2,F3,F4,rfl,H⟩
theorem WN.blt (H:WN lo h b w a1 c1 a2 c2 a3 c3 a4 c4 F1 F2 F3 F4):b<h.length:=(Ea H.hb).1
theorem WN.lt (H:WN lo h b w a1 c1 a2 c2 a3 c3 a4 c4 F1 F2 F3 F4):(∀ y∈F1,y<h.length)/\(∀ y∈F2,y<h.length)/\(∀ y∈F3,y<h.length)/\∀ y∈F4,y<h.length :=
 ⟨rplacesN_ok.bd _ _ _ _ H.r1,rsesss_ok.bd _ _ _ _ H.r2,rframes_ok.bd _ _ _ _ H.r3,rdones_ok.bd _ _ _ _ H.r4⟩
theorem WN.bd (H:WN lo h b w a1 c1 a2 c2 a3 c3 a4 c4 F1 F2 F3 F4):∀ y∈F1++(F2++(F3++F4)),y<h.length:=λy hy=>by
 obtain ⟨g1,g2,g3,g4⟩:=H.lt;simp only[zcx] at hy;rcases hy with hy | hy | hy | hy
 ·exact g1 y hy
 ·exact g2 y hy
 ·exact g3 y hy
 ·exact g4 y hy
theorem WN.ne (H:WN lo h b w a1 c1 a2 c2 a3 c3 a4 c4 F1 F2 F3 F4):b∉F1++(F2++(F3++F4))/\(F1++(F2++(F3++F4))).Nodup:=zcE.1 H.nd
theorem WN.with (H:WN lo h b w a1 c1 a2 c2 a3 c3 a4 c4 F1 F2 F3 F4) {F':List Nat} (m:Mv h (F1++(F2++(F3++F4))) h' F'):h'[b]?=h[b]?/\Mv h (b ::(F1++(F2++(F3++F4)))) h' (b :: F'):=by
 have e:=m.fr b H.blt H.ne.1;refine ⟨e,⟨m.le,λy hy hF=>m.fr y hy λg=>hF (by simp[g]),?_,λy hy=>?_⟩⟩
 ·rw[zcE];refine ⟨λhm=>?_,m.nd⟩;rcases m.sub b hm with g | g
  ·exact H.ne.1 g
  ·have:=H.blt;omega
 ·rcases zcD.1 hy with rfl | hy
  ·exact .inl (by simp)
  ·rcases m.sub y hy with g | g
   ·exact .inl (by simp[g])
   ·exact .inr g
theorem WN.up1 (H:WN lo h b w a1 c1 a2 c2 a3 c3 a4 c4 F1 F2 F3 F4) {l:List Place}{G:List Nat} (hn:l.length=w.places.length) (m:Mv h F1 h' G) (r:RPlacesN h' [.sl 6 a1 w.places.length c1] l G) :
  WN lo h' b ⟨l,w.sess,w.net,w.hist⟩ a1 c1 a2 c2 a3 c3 a4 c4 G F2 F3 F4/\Mv h (b ::(F1++(F2++(F3++F4)))) h' (b ::(G++(F2++(F3++F4)))):=by
 obtain ⟨_,d12,d13,d14,d23,d24,d34⟩:=Po H.ne.2;have m1:Mv h (F1++(F2++(F3++F4))) h' (G++(F2++(F3++F4))):=m.mid (.refl _) H.ne.2 (λy hy=>H.bd y (by simp only[zcx] at hy ⊢;grind)) (.refl _);obtain ⟨e,m2⟩:=H.with m1;refine ⟨⟨by rw[e,H.hb];simp only[World.cs,hn],by rw[<- hn] at r;exact r,m.keep rsesss_ok H.r2 (λb hb hm=>d12 b hm hb),m.keep rframes_ok H.r3 (λb hb hm=>d13 b hm hb),m.keep rdones_ok H.r4 (λb hb hm=>d14 b hm hb),m2.nd,m2.ge H.hl H.ge,zcw H.hl m.le⟩,m2⟩
theorem WN.up2 (H:WN lo h b w a1 c1 a2 c2 a3 c3 a4 c4 F1 F2 F3 F4) {l:List Sess}{G:List Nat} (hn:l.length=w.sess.length) (m:Mv h F2 h' G) (r:RSesss false h' [.sl 5 a2 w.sess.length c2] l G) :
  WN lo h' b ⟨w.places,l,w.net,w.hist⟩ a1 c1 a2 c2 a3 c3 a4 c4 F1 G F3 F4/\Mv h (b ::(F1++(F2++(F3++F4)))) h' (b ::(F1++(G++(F3++F4)))):=by
 obtain ⟨_,d12,d13,d14,d23,d24,d34⟩:=Po H.ne.2;have m1:Mv h (F1++(F2++(F3++F4))) h' (F1++(G++(F3++F4))):=m.mid O3 H.ne.2 (λy hy=>H.bd y (by simp only[zcx] at hy ⊢;grind)) O3;obtain ⟨e,m2⟩:=H.with m1;refine ⟨⟨by rw[e,H.hb];simp only[World.cs,hn],m.keep rplacesN_ok H.r1 (λb hb hm=>d12 b hb hm),by rw[<- hn] at r;exact r,m.keep rframes_ok H.r3 (λb hb hm=>d23 b hm hb),m.keep rdones_ok H.r4 (λb hb hm=>d24 b hm hb),m2.nd,m2.ge H.hl H.ge,zcw H.hl m.le⟩,m2⟩
theorem WN.up0 (H:WN lo h b w a1 c1 a2 c2 a3 c3 a4 c4 F1 F2 F3 F4) (m:Mv h [] h' []):WN lo h' b w a1 c1 a2 c2 a3 c3 a4 c4 F1 F2 F3 F4/\Mv h (b ::(F1++(F2++(F3++F4)))) h' (b ::(F1++(F2++(F3++F4)))):=by have m1:Mv h (F1++(F2++(F3++F4))) h' (F1++(F2++(F3++F4))):=m.aside (by simpa using H.ne.2) H.bd;obtain ⟨e,m2⟩:=H.with m1;exact ⟨⟨by rw[e,H.hb],m.keep0 rplacesN_ok H.r1,m.keep0 rsesss_ok H.r2,m.keep0 rframes_ok H.r3,m.keep0 rdones_ok H.r4,H.nd,H.ge,zcw H.hl m.le⟩,m2⟩
theorem WN.up3 (H:WN lo h b w a1 c1 a2 c2 a3 c3 a4 c4 F1 F2 F3 F4) {l:List Frame}{G:List Nat} (m:Mv h F3 h' G) (r:RFrames false h' [.sl 9 a l.length c] l G) :
  ∃ h2,st lo h' b 0 (0+2) [.sl 9 a l.length c]=some h2/\WN lo h2 b ⟨w.places,w.sess,l,w.hist⟩ a1 c1 a2 c2 a c a4 c4 F1 F2 G F4/\Mv h (b ::(F1++(F2++(F3++F4)))) h2 (b ::(F1++(F2++(G++F4)))):=by
 obtain ⟨_,d12,d13,d14,d23,d24,d34⟩:=Po H.ne.2;have m1:Mv h (F1++(F2++(F3++F4))) h' (F1++(F2++(G++F4))):=m.mid SP H.ne.2 (λy hy=>H.bd y (by simp only[zcx] at hy ⊢;grind)) SP;obtain ⟨e,_⟩:=H.with m1;rw[H.hb] at e;obtain ⟨m6,b6,k6,n6⟩:=m1.store H.blt H.ne.1 (.rows 4 41 false [(World.mk w.places w.sess l w.hist).cs a1 c1 a2 c2 a c a4 c4]);have es:=DR (lo:=lo) (j:=0+2) (r:=0) (cs := [.sl 9 a l.length c]) (row':=(World.mk w.places w.sess l w.hist).cs a1 c1 a2 c2 a c a4 c4) e (H.ge b (by simp)) rfl (EN (by simp[World.cs]));have ne:∀ {F:List Nat},(∀ y∈F,y∈F1++(F2++(G++F4)))->∀ y∈F,y≠b:=λhs y hy e=>n6 (e ▸ hs y hy);refine ⟨_,es,⟨b6,rplacesN_ok.fr _ _ _ _ _ (m.keep rplacesN_ok H.r1 (λb hb hm=>d13 b hb hm)) λy hy=>k6 y (ne (F:=F1) (λy hy=>by simp[hy]) y hy),rsesss_ok.fr _ _ _ _ _ (m.keep rsesss_ok H.r2 (λb hb hm=>d23 b hb hm)) λy hy=>k6 y (ne (F:=F2) (λy hy=>by simp[hy]) y hy),rframes_ok.fr _ _ _ _ _ r λy hy=>k6 y (ne (F:=G) (λy hy=>by simp[hy]) y hy),rdones_ok.fr _ _ _ _ _ (m.keep rdones_ok H.r4 (λb hb hm=>d34 b hm hb)) λy hy=>k6 y (ne (F:=F4) (λy hy=>by simp[hy]) y hy),m6.nd,m6.ge H.hl H.ge,zcw H.hl m6.le⟩,m6⟩
theorem WN.up4 (H:WN lo h b w a1 c1 a2 c2 a3 c3 a4 c4 F1 F2 F3 F4) {l:List Done}{G:List Nat} (m:Mv h F4 h' G) (r:RDones false h' [.sl 5 a l.length c] l G) :
  ∃ h2,st lo h' b 0 (0+3) [.sl 5 a l.length c]=some h2/\WN lo h2 b ⟨w.places,w.sess,w.net,l⟩ a1 c1 a2 c2 a3 c3 a c F1 F2 F3 G/\Mv h (b ::(F1++(F2++(F3++F4)))) h2 (b ::(F1++(F2++(F3++G)))):=by
 obtain ⟨_,d12,d13,d14,d23,d24,d34⟩:=Po H.ne.2;have m1:Mv h (F1++(F2++(F3++F4))) h' (F1++(F2++(F3++G))):=m.mid Xm H.ne.2 (λy hy=>H.bd y (by simp only[zcx] at hy ⊢;grind)) Xm;obtain ⟨e,_⟩:=H.with m1;rw[H.hb] at e;obtain ⟨m6,b6,k6,n6⟩:=m1.store H.blt H.ne.1 (.rows 4 41 false [(World.mk w.places w.sess w.net l).cs a1 c1 a2 c2 a3 c3 a c]);have es:=DR (lo:=lo) (j:=0+3) (r:=0) (cs := [.sl 5 a l.length c]) (row':=(World.mk w.places w.sess w.net l).cs a1 c1 a2 c2 a3 c3 a c) e (H.ge b (by simp)) rfl (EN (by simp[World.cs]));have ne:∀ {F:List Nat},(∀ y∈F,y∈F1++(F2++(F3++G)))->∀ y∈F,y≠b:=λhs y hy e=>n6 (e ▸ hs y hy);refine ⟨_,es,⟨b6,rplacesN_ok.fr _ _ _ _ _ (m.keep rplacesN_ok H.r1 (λb hb hm=>d14 b hb hm)) λy hy=>k6 y (ne (F:=F1) (λy hy=>by simp[hy]) y hy),rsesss_ok.fr _ _ _ _ _ (m.keep rsesss_ok H.r2 (λb hb hm=>d24 b hb hm)) λy hy=>k6 y (ne (F:=F2) (λy hy=>by simp[hy]) y hy),rframes_ok.fr _ _ _ _ _ (m.keep rframes_ok H.r3 (λb hb hm=>d34 b hb hm)) λy hy=>k6 y (ne (F:=F3) (λy hy=>by simp[hy]) y hy),rdones_ok.fr _ _ _ _ _ r λy hy=>k6 y (ne (F:=G) (λy hy=>by simp[hy]) y hy),m6.nd,m6.ge H.hl H.ge,zcw H.hl m6.le⟩,m6⟩
theorem WN.cell (H:WN lo h b w a1 c1 a2 c2 a3 c3 a4 c4 F1 F2 F3 F4):ld h b 0 (0+0) 1=some [.sl 6 a1 w.places.length c1]/\ld h b 0 (0+1) 1=some [.sl 5 a2 w.sess.length c2]/\ld h b 0 (0+2) 1=some [.sl 9 a3 w.net.length c3]/\ld h b 0 (0+3) 1=some [.sl 5 a4 w.hist.length c4]:=by refine ⟨?_,?_,?_,?_⟩<;>rw[Bx H.hb rfl]<;>rfl
theorem WN.place (H:WN lo h b w a1 c1 a2 c2 a3 c3 a4 c4 F1 F2 F3 F4) {k:Nat} (hk:k<w.places.length):∃ b1 i1 rs x1 y1 x2 y2 x3 y3 G1 G2 G3,a1=some (b1,i1)/\i1+k<rs.length/\h[b1]?=some (CB rs (i1+k) (w.places[k].cs x1 y1 x2 y2 x3 y3)) /\
  RNodes false h [.sl 2 x1 w.places[k].chain.length y1] w.places[k].chain G1/\RVers false h [.sl 6 x2 w.places[k].log.length y2] w.places[k].log G2/\RVss false h [.sl 1 x3 w.places[k].got.length y3] w.places[k].got G3 /\
  (b1 ::(G1++(G2++G3))).Nodup/\(∀ y∈b1 ::(G1++(G2++G3)),lo<=y/\y<h.length/\y∈F1) /\
  ∀ h' row' p' F',h'[b1]?=some (CB rs (i1+k) row')->Cy false h' row' p' F'->Mv h (b1 ::(G1++(G2++G3))) h' (b1 :: F') ->
   ∃ F1',WN lo h' b (setP w k p') a1 c1 a2 c2 a3 c3 a4 c4 F1' F2 F3 F4/\Mv h (b ::(F1++(F2++(F3++F4)))) h' (b ::(F1'++(F2++(F3++F4)))):=by
 obtain ⟨⟨n1,_⟩,_⟩:=Po H.ne.2;obtain ⟨b1,i1,rs,row,G,ha,hbF,hbG,hb,hil,hel,hGF,hGn,put⟩:=Sli.atP Is H.r1 hk n1;obtain ⟨x1,y1,x2,y2,x3,y3,rfl,q⟩:=hel;obtain ⟨G1,G2,G3,rfl,g1,g2,g3⟩:=q.cells;refine ⟨b1,i1,rs,x1,y1,x2,y2,x3,y3,G1,G2,G3,ha,hil,hb,g1,g2,g3,by rw[zcE];exact ⟨hbG,hGn⟩,λy hy=>?_,λh' row' p' F' hb' hx m=>?_⟩
 ·have hyF:y∈F1:=by
   rcases zcD.1 hy with rfl | hy
   ·exact hbF
   ·exact hGF y hy
  exact ⟨H.ge y (by simp[hyF]),H.lt.1 y hyF,hyF⟩
 ·obtain ⟨F1',r,m'⟩:=put h' row' p' F' hb' hx m;exact ⟨F1',(H.up1 (by simp) m' r).1,(H.up1 (by simp) m' r).2⟩
end


variable {rs:List (List V)}
theorem LY {h:Heap}{b i j n R e:Nat}{ro:Bool}{row:List V} (hb:h[b]?=some (.rows R e ro (rs.set i row))) (hil:i<rs.length):ld h b i j n=cut row j n:=Bx hb (by simp[hil])
theorem NV {lo:Nat}{h:Heap}{b i j R e:Nat}{row row' cs:List V} (hb:h[b]?=some (.rows R e false (rs.set i row))) (hil:i<rs.length) (hl:lo<=b) (hp:paste row j cs=some row'):st lo h b i j cs=some (h.set b (.rows R e false (rs.set i row'))):=by rw[DR (r:=i) hb hl (by simp[hil]) hp,zdL]
section
variable {lo l0 b:Nat}{h h':Heap}{w:World}{a1 a2 a3 a4 a:Pq}{c1 c2 c3 c4 c:Nq}{F1 F2 F3 F4:List Nat}
theorem Lf {n:Int} (H:WN l0 h b w a1 c1 a2 c2 a3 c3 a4 c4 F1 F2 F3 F4) (h80:w.hist.length<=1000) (hn:0<=n/\n<=4):Ai lo 143 [.ptr (some (b,(0,0))),Iv n] h=some (.bool (Ct w n),h):=by
 refine Nv (h':=h) ?_;rw[H.cell.2.2.2,Ad,Aa,Ag,Af,wr (by omega) (by omega)];unfold Ct;cases decide ((w.hist.length:Int)+n<=80) with
 | true=>rw[Am]
 | false=>rw[Av]
theorem Oe {d:Done} (H:WN lo h b w a1 c1 a2 c2 a3 c3 a4 c4 F1 F2 F3 F4) (h80:w.hist.length<=1000) :
  ∃ a5 c5 h' G,Ai lo 145 [.ptr (some (b,(0,0))),Iv d.sess,Iv d.kind,Iv d.key,.agg [Iv d.tag.time,Iv d.tag.place]] h=some (.tup [],h') /\
   WN lo h' b ⟨w.places,w.sess,w.net,w.hist ++ [d]⟩ a1 c1 a2 c2 a3 c3 a5 c5 F1 F2 F3 G/\Mv h (b ::(F1++(F2++(F3++F4)))) h' (b ::(F1++(F2++(F3++G)))):=by
 obtain ⟨⟨n1,n2,n3,n4⟩,_⟩:=Po H.ne.2;obtain ⟨a6,c6,h6,F6,e6,r6,m6⟩:=DC (lo:=lo) (bytes:=40) (e:=32) (El:=flat Done.cs) DN H.r4 (row:=d.cs) (x:=d) (G := []) (h1:=h ++ [.rows 5 32 false [d.cs]])
  ⟨rfl,rfl⟩ Mv.snoc n4 (λy hy=>H.ge y (by simp[hy])) H.hl (by decide) (by omega)
 have hnl:(w.hist ++ [d]).length=w.hist.length+1:=by simp
 rw[<- hnl] at r6 e6;obtain ⟨h2,es,W,M⟩:=H.up4 m6 r6;refine ⟨a6,c6,h2,F6,I8 ?_,W,M⟩;simp only[Done.cs] at e6;rw[H.cell.2.2.2,Ad,Aa,Ag,Af,A9,e6,Af,es,Ad]
theorem WN.sess (H:WN lo h b w a1 c1 a2 c2 a3 c3 a4 c4 F1 F2 F3 F4) {k:Nat} (hk:k<w.sess.length):∃ (b2 i2:Nat) (rs:List (List V)) (v:V) (x:Pq) (y:Nq) (G:List Nat),a2=some (b2,i2)/\i2+k<rs.length /\
  h[b2]?=some (.rows 5 (HW false) false (rs.set (i2+k) [Iv w.sess[k].place,v,Iv w.sess[k].wait.time,Iv w.sess[k].wait.place,Iv w.sess[k].key])) /\
  (∀ {R':Type} (K:Pq->Nat->Nq->Option R'),eS 2 v K=K x w.sess[k].past.length y)/\RTags false h [.sl 2 x w.sess[k].past.length y] w.sess[k].past G/\RTags false h [v] w.sess[k].past G /\
  (b2 :: G).Nodup/\(∀ y∈b2 :: G,lo<=y/\y<h.length/\y∈F2) /\
  ∀ h' row' s' G',h'[b2]?=some (.rows 5 (HW false) false (rs.set (i2+k) row'))->RSess false h' row' s' G'->Mv h (b2 :: G) h' (b2 :: G') ->
   ∃ F2',WN lo h' b ⟨w.places,w.sess.set k s',w.net,w.hist⟩ a1 c1 a2 c2 a3 c3 a4 c4 F1 F2' F3 F4/\Mv h (b ::(F1++(F2++(F3++F4)))) h' (b ::(F1++(F2'++(F3++F4)))):=by
 obtain ⟨⟨_,n2,_⟩,_⟩:=Po H.ne.2;obtain ⟨b2,i2,rs,row,G,ha,hbF,hbG,hb,hil,hel,hGF,hGn,put⟩:=Sli.atP Jm H.r2 hk n2;obtain ⟨v,rfl,hv⟩:=hel;obtain ⟨x,y,es,hp⟩:=hv.form;refine ⟨b2,i2,rs,v,x,y,G,ha,hil,hb,es,hp,hv,by rw[zcE];exact ⟨hbG,hGn⟩,λy hy=>?_,λh' row' s' G' hb' hx m=>?_⟩
 ·have hyF:y∈F2:=by
   rcases zcD.1 hy with rfl | hy
   ·exact hbF
   ·exact hGF y hy
  exact ⟨H.ge y (by simp[hyF]),H.lt.2.1 y hyF,hyF⟩
 ·obtain ⟨F2',r,m'⟩:=put h' row' s' G' hb' hx m;exact ⟨F2',(H.up2 (by simp) m' r).1,(H.up2 (by simp) m' r).2⟩
theorem WN.sets (H:WN lo h b w a1 c1 a2 c2 a3 c3 a4 c4 F1 F2 F3 F4) {k:Nat} (hk:k<w.sess.length):∃ (b2 i2:Nat) (rs:List (List V)) (v:V),a2=some (b2,i2)/\lo<=b2/\i2+k<rs.length /\
  h[b2]?=some (.rows 5 (HW false) false (rs.set (i2+k) [Iv w.sess[k].place,v,Iv w.sess[k].wait.time,Iv w.sess[k].wait.place,Iv w.sess[k].key])) /\
  ∀ s':Sess,s'.past=w.sess[k].past->∃ F2',WN lo (h.set b2 (.rows 5 (HW false) false (rs.set (i2+k) [Iv s'.place,v,Iv s'.wait.time,Iv s'.wait.place,Iv s'.key]))) b ⟨w.places,w.sess.set k s',w.net,w.hist⟩ a1 c1 a2 c2 a3 c3 a4 c4 F1 F2' F3 F4 /\
   Mv h (b ::(F1++(F2++(F3++F4)))) (h.set b2 (.rows 5 (HW false) false (rs.set (i2+k) [Iv s'.place,v,Iv s'.wait.time,Iv s'.wait.place,Iv s'.key]))) (b ::(F1++(F2'++(F3++F4)))):=by
 obtain ⟨b2,i2,rs,v,x,y,G,ha,hil,hb,es,hp,hv,hnd,hF,put⟩:=H.sess hk;refine ⟨b2,i2,rs,v,ha,(hF b2 (by simp)).1,hil,hb,λs' hs'=>?_⟩;obtain ⟨hbG,hGn⟩:=zcE.1 hnd;obtain ⟨m6,b6,k6,n6⟩:=(Mv.refl (h:=h) hGn).store (hF b2 (by simp)).2.1 hbG (.rows 5 (HW false) false (rs.set (i2+k) [Iv s'.place,v,Iv s'.wait.time,Iv s'.wait.place,Iv s'.key]));exact put _ _ s' G b6 ⟨v,rfl,by rw[hs'];exact rtags_ok.fr _ _ _ _ _ hv λy hy=>k6 y λe=>hbG (e ▸ hy)⟩ m6
theorem WN.setp (H:WN lo h b w a1 c1 a2 c2 a3 c3 a4 c4 F1 F2 F3 F4) {k:Nat} (hk:k<w.sess.length) {l:List Tag}{G5:List Nat} (m:Mv h [] h' G5) (r:RTags false h' [.sl 2 a l.length c] l G5):∃ (b2 i2:Nat) (rs:List (List V)) (v:V),a2=some (b2,i2)/\lo<=b2/\i2+k<rs.length /\
  h'[b2]?=some (.rows 5 (HW false) false (rs.set (i2+k) [Iv w.sess[k].place,v,Iv w.sess[k].wait.time,Iv w.sess[k].wait.place,Iv w.sess[k].key])) /\
  ∀ s':Sess,s'.past=l->∃ F2',WN lo (h'.set b2 (.rows 5 (HW false) false (rs.set (i2+k) [Iv s'.place,.sl 2 a l.length c,Iv s'.wait.time,Iv s'.wait.place,Iv s'.key]))) b ⟨w.places,w.sess.set k s',w.net,w.hist⟩ a1 c1 a2 c2 a3 c3 a4 c4 F1 F2' F3 F4 /\
   Mv h (b ::(F1++(F2++(F3++F4)))) (h'.set b2 (.rows 5 (HW false) false (rs.set (i2+k) [Iv s'.place,.sl 2 a l.length c,Iv s'.wait.time,Iv s'.wait.place,Iv s'.key]))) (b ::(F1++(F2'++(F3++F4)))):=by
 obtain ⟨b2,i2,rs,v,x,y,G,ha,hil,hb,es,hp,hv,hnd,hF,put⟩:=H.sess hk;obtain ⟨hbG,hGn⟩:=zcE.1 hnd;have hblt:=(hF b2 (by simp)).2.1;refine ⟨b2,i2,rs,v,ha,(hF b2 (by simp)).1,hil,by rw[m.fr b2 hblt (by simp)];exact hb,λs' hs'=>?_⟩;have mG:Mv h G h' G5:=m.wide (λb hb=>by simp at hb);obtain ⟨m6,b6,k6,n6⟩:=mG.store hblt hbG (.rows 5 (HW false) false (rs.set (i2+k) [Iv s'.place,.sl 2 a l.length c,Iv s'.wait.time,Iv s'.wait.place,Iv s'.key]));exact put _ _ s' G5 b6 ⟨_,rfl,by rw[hs'];exact rtags_ok.fr _ _ _ _ _ r λy hy=>k6 y λe=>n6 (e ▸ hy)⟩ m6
theorem WN.stay (H:WN lo h b w a1 c1 a2 c2 a3 c3 a4 c4 F1 F2 F3 F4) (m:Mv h [] h' []) {X:Option World} (hX:X=none):∃ h'' F',some (V.bool false,h')=some (V.bool X.isSome,h'')/\HH lo h'' b (X.getD w) F'/\Mv h (b ::(F1++(F2++(F3++F4)))) h'' F':=by subst hX;exact ⟨h',_,rfl,(H.up0 m).1.at,(H.up0 m).2⟩
end


theorem SI {w:World}{q:Nat} (hq:q<w.places.length):setP w q w.places[q]=w:=by unfold setP;rw[zdS]
section
variable {lo b:Nat}{h h':Heap}{w:World}{a1 a2 a3 a4 a:Pq}{c1 c2 c3 c4 c:Nq}{F1 F2 F3 F4:List Nat}
theorem Of {e:Event}{k b2 i2:Nat} (H:WN lo h b w a1 c1 (some (b2,i2)) c2 a3 c3 a4 c4 F1 F2 F3 F4) (hg:Fits w) (hk:k<w.sess.length) (he:e.at'=(k:Int)) (hw0:w.sess[k].wait.time=0) (hes:e.text.size<=1048576) :
  ∃ h' F',Ai lo 105 [.ptr (some (b,(0,0))),.ptr (some (b2,(i2+k,0))),.agg e.cs] h=some (.bool (DF w k w.sess[k] e).isSome,h')/\HH lo h' b ((DF w k w.sess[k] e).getD w) F'/\Mv h (b ::(F1++(F2++(F3++F4)))) h' F':=by
 suffices hq:∃ h' F',_=some (V.bool (DF w k w.sess[k] e).isSome,h')/\HH lo h' b ((DF w k w.sess[k] e).getD w) F'/\Mv h (b ::(F1++(F2++(F3++F4)))) h' F' from by obtain ⟨h',F',e1,hr⟩:=hq;exact ⟨h',F',Mj e1,hr⟩
 have hso:=hg.ok.sess _ (zcv hk);obtain ⟨t1,t2,t3,t4,t5,t6⟩:=Bp hso;have hp4:=Be t2;have h80:=hg.ok.h80;obtain ⟨q,hpl⟩:∃ q:Nat,w.sess[k].place=(q:Int):=⟨w.sess[k].place.toNat,by omega⟩;have hq:q<w.places.length:=by have:=hg.ok.p3;omega
 obtain ⟨hpo,hme,hro⟩:=hg.at hq;have hn:=(Eh (Bv hpo) (by decide) (by decide) (by decide)).1;have hX:DF w k w.sess[k] e=bif (A6 w.places[q] e.key e.text e.gone w.sess[k].past&&Ct w 1) then some (setS (setP w q (Ee w.places[q] e.key e.text e.gone w.sess[k].past).1) k ⟨w.sess[k].place,w.sess[k].past,(Ee w.places[q] e.key e.text e.gone w.sess[k].past).2,e.key⟩ [⟨k,1,e.key,(Ee w.places[q] e.key e.text e.gone w.sess[k].past).2⟩]) else none:=by unfold DF;rw[hpl,Bb,Cz hq,hw0];rfl
 generalize hXX:DF w k w.sess[k] e=X at hX;obtain ⟨b2',i2',rs2,v,x,y,G,ha2',hil2,hb2,es,hp,hv,hnd2,hF2,_⟩:=H.sess hk;injection ha2' with ha2';injection ha2' with z1 z2;subst z1;subst z2;obtain ⟨b1,i1,rs,x1,y1,x2,y2,x3,y3,G1,G2,G3,rfl,hil,hb1,g1,g2,g3,nd,hF,put⟩:=H.place hq;have lp:∀ hh:Heap,hh[b2]?=h[b2]?->ld hh b2 (i2+k) (0+0) 1=some [Iv (q:Nat)]:=λhh e=>by rw[hb2] at e;rw[LY e hil2,<- hpl];rfl
 have lv:ld h b2 (i2+k) (0+1) 1=some [v]:=by rw[LY hb2 hil2];rfl
 rw[Lf H (by omega) ⟨by omega,by omega⟩,Ac,Ao];cases hr:Ct w 1 with
 | false=>rw[Av];exact H.stay Mv.nil (by rw[hX,hr,zdD];rfl)
 | true =>
 rw[hr,zdw] at hX;obtain ⟨a5,c5,h5,F5,e5,r5,m5⟩:=DQ (lo:=lo) hp H.hl (by omega);have H5:=(H.up0 m5.drop).1;have h5b2:h5[b2]?=h[b2]?:=m5.fr b2 (hF2 b2 (by simp)).2.1 (by simp);have hblt:=(hF b1 (by simp)).2.1;have m5a:=m5.drop.aside (G:=b1 ::(G1++(G2++G3))) nd (λy hy=>(hF y hy).2.1);obtain ⟨h6,row6,F6,e6,r6,b6,m6⟩:=Vd (lo:=lo) (h:=h5) hil (k:=e.key) (s:=e.text) (g:=e.gone) (l:=w.sess[k].past) (by rw[m5.fr b1 hblt (by simp)];exact hb1) (m5.keep0 rnodes_ok g1) (m5.keep0 rvers_ok g2) (m5.keep0 rvss_ok g3) r5
  (λy hy hm=>by have:=m5.new y hy;have:=(hF y (by simp only[zcD,zcx] at hm ⊢;rcases hm with hm | hm;exact .inl hm;exact .inr (.inl hm))).2.1;omega) hpo hn ⟨by omega,hes⟩ nd (λy hy=>(hF y hy).1) (zcw H.hl m5.le)
 obtain ⟨F1',H6,M6⟩:=put h6 row6 _ F6 b6 r6 (m5a.trans m6);rw[Am,H.cell.1,Ad,Aa,Ag,Af,lp h rfl,Ad,Aa,Ag,Ab,Ae hq,Ad,lv,Ad,Aa,es,Ag,Ir,CW,Ir,CW,e5,Ac,AO,Aa,Af,Ag,H5.cell.1,lp h5 h5b2,Ir,CW,Ir,CW,Bb,e6,Ac,AO,Aa,Ab,Aa,Ab,Ag];cases hcw:A6 w.places[q] e.key e.text e.gone w.sess[k].past with
 | false =>
  rw[hcw] at hX;have hwr:Ee w.places[q] e.key e.text e.gone w.sess[k].past=(w.places[q],⟨0,0⟩):=by unfold Ee;rw[hpo,hcw];rfl
  rw[hwr] at H6 ⊢;rw[SI hq] at H6;subst hX;exact ⟨h6,_,rfl,H6.at,M6⟩
 | true =>
 rw[hcw] at hX;have hz:(((Ee w.places[q] e.key e.text e.gone w.sess[k].past).2.time==(0:Int))&&(((Ee w.places[q] e.key e.text e.gone w.sess[k].past).2.place==(0:Int))&&true))=false:=by
  have hlt:ER w.sess[k].past<AQ w.places[q] w.sess[k].past/\w.places[q].clock<AQ w.places[q] w.sess[k].past:=newer_lt_iff.1 (by unfold AQ;omega);have hcl:=(AI hpo).2.1;have:((Ee w.places[q] e.key e.text e.gone w.sess[k].past).2.time==(0:Int))=false:=by rw[KX hpo hcw,beq_eq_false_iff_ne];show AQ w.places[q] w.sess[k].past≠0;omega
  rw[this];rfl
 generalize (Ee w.places[q] e.key e.text e.gone w.sess[k].past).1=P at hX H6 M6;generalize (Ee w.places[q] e.key e.text e.gone w.sess[k].past).2=T at hX hz ⊢;obtain ⟨b2',i2',rs6,v6,ha6,lob,hil6,hb6,put6⟩:=H6.sets (k:=k) hk;injection ha6 with ha6;injection ha6 with z1 z2;subst z1;subst z2;have hb6':h6[b2]?=some (.rows 5 (HW false) false (rs6.set (i2+k) [Iv w.sess[k].place,v6,Iv w.sess[k].wait.time,Iv w.sess[k].wait.place,Iv w.sess[k].key])):=hb6;have s1:=NV (lo:=lo) (j:=0+2) (cs := [Iv T.time,Iv T.place]) (row' := [Iv w.sess[k].place,v6,Iv T.time,Iv T.place,Iv w.sess[k].key]) hb6' hil6 lob rfl;have s2:=NV (lo:=lo) (h:=h6.set b2 (.rows 5 (HW false) false (rs6.set (i2+k) [Iv w.sess[k].place,v6,Iv T.time,Iv T.place,Iv w.sess[k].key]))) (b:=b2) (i:=i2+k) (rs:=rs6) (e:=HW false) (R:=5) (j:=0+4) (cs := [Iv e.key]) (row := [Iv w.sess[k].place,v6,Iv T.time,Iv T.place,Iv w.sess[k].key]) (row' := [Iv w.sess[k].place,v6,Iv T.time,Iv T.place,Iv e.key]) (by rw[zcG (Ea hb6').1]) hil6 lob rfl;rw[zdL] at s2;obtain ⟨F2',H7,M7⟩:=put6 ⟨w.sess[k].place,w.sess[k].past,T,e.key⟩ rfl;obtain ⟨a8,c8,h8,G8,e8,H8,M8⟩:=Oe (d:=⟨e.at',1,e.key,T⟩) H7 (by show w.hist.length<=1000;omega);rw[hz,Av,s1,Ad,s2,Ad,e8,Ac,Gn,Ag];subst hX;rw[he] at H8;exact ⟨h8,_,rfl,H8.at,M6.trans (M7.trans M8)⟩
end


section
variable {lo:Nat}{h h':Heap}{F F':List Nat}{a a':Pq}{c c':Nq}
theorem S7 {x y:Tag}:Ai lo 140 [.agg [Iv x.time,Iv x.place],.agg [Iv y.time,Iv y.place]] h=some (.agg [Iv (E4 x y).time,Iv (E4 x y).place],h):=by
 refine Su (h':=h) ?_;rw[D7,Ac,Ao];unfold E4 CT;cases Fu x.time x.place y.time y.place with
 | true=>rw[Am];rfl
 | false=>rw[Av];rfl
theorem KB {l:List Tag}{k:Nat}{t:Tag} (hs:RTags false h [.sl 2 a l.length c] l F) (hk:k<l.length) (hl:lo<=h.length) (hn:l.length<=1048576) :
  ∃ a' c' h' F',Ai lo 102 [.agg [.sl 2 a l.length c],Iv (k:Nat),.agg [Iv t.time,Iv t.place]] h=some (.agg [.sl 2 a' (Eo l k t).length c'],h')/\RTags false h' [.sl 2 a' (Eo l k t).length c'] (Eo l k t) F'/\Mv h [] h' F':=by
 obtain ⟨a1,c1,h1,F1,e1,r1,m1⟩:=DQ (lo:=lo) hs hl hn;obtain ⟨b,i,rs,row,G,ha,hbF,hbG,hb,hrow,⟨rfl,rfl⟩,hGF,hGn,_,put⟩:=r1.at (lo:=lo) DN hk m1.nd (λy hy=>m1.ge hl (by simp) y hy);have hld:ld h1 b (i+k) 0 2=some [Iv l[k].time,Iv l[k].place]:=by rw[Bx hb hrow];rfl
 obtain ⟨h2,F2,e2,r2,m2,_⟩:=put h1 [] 0 (E4 l[k] t).cs (E4 l[k] t).cs (E4 l[k] t) Mv.nil rfl ⟨rfl,rfl⟩;subst ha;have hwl:(Eo l k t).length=l.length:=by rw[KY hk];simp
 rw[hwl];refine ⟨some (b,i),c1,h2,F2,OJ ?_,by rw[KY hk];exact r2,m1.trans m2⟩;simp only[Tag.cs] at e2;rw[e1,Ac,AO,Aa,Af,Ag,Ae hk,Ad,Bb,hld,Ad,Aa,Ab,Aa,Ab,Ag,S7,Ac,AO,Aa,Ab,Aa,Ab,Ag,Ae hk,Ad,e2,Ad]
theorem QT {p q:List Tag} (hs:RTags false h [.sl 2 a p.length c] p F) (hs':RTags false h [.sl 2 a' q.length c'] q F') (hp:p.length=4) (hq:q.length=4) (hl:lo<=h.length) :
  ∃ a5 c5 h' F5,Ai lo 101 [.agg [.sl 2 a p.length c],.agg [.sl 2 a' q.length c']] h=some (.agg [.sl 2 a5 (Do p q).length c5],h')/\RTags false h' [.sl 2 a5 (Do p q).length c5] (Do p q) F5/\Mv h [] h' F5:=by
 obtain ⟨a1,c1,h1,F1,e1,r1,m1⟩:=DQ (lo:=lo) hs hl (by omega);have hj:(Do p q).length=4:=by unfold Do;rw[zd5];omega
 have part:∀ i (hi:i<4),((Do p q).take i++p.drop i).length=4/\((Do p q).take i++p.drop i)[i]?=p[i]?/\((Do p q).take i++p.drop i).set i (E4 (p[i]'(by omega)) (q[i]'(by omega)))=(Do p q).take (i+1)++p.drop (i+1):=λi hi=>by
  have e:((Do p q).take i).length=i:=by rw[zcS];omega
  refine ⟨by rw[zcP,zdB,e];omega,?_,?_⟩
  ·rw[zcU (by omega),e,zd6,zcX,zdf]
  ·rw[zdR _ _ (by omega),e,zd6,zcM (by omega:i<p.length),List.set_cons_zero,zdT (by omega:i<(Do p q).length),zcO];have:(Do p q)[i]'(by omega)=E4 (p[i]'(by omega)) (q[i]'(by omega)):=List.getElem_zipWith;rw[this];rfl
 have loop:∀ m i hh G,m+i=4->Mv h1 F1 hh G->RTags false hh [.sl 2 a1 4 c1] ((Do p q).take i++p.drop i) G->∃ h' F5,BZ lo a' q.length c' (q.length:Nat) (i:Nat) 0 none 0 (some 0) a1 p.length c1 hh=some (.agg [.sl 2 a1 (Do p q).length c1],h')/\RTags false h' [.sl 2 a1 4 c1] (Do p q) F5/\Mv h1 F1 h' F5:=by
  intro m;induction m with
  | zero =>
   intro i hh G hi mm r;obtain rfl:i=4:=by omega
   rw[zdk (by omega),zdc,zc0 (by omega)] at r;refine ⟨hh,G,?_,r,mm⟩;rw[BZ.e,Aj (by omega),hp,hj]
  | succ m ih =>
   intro i hh G hi mm r;obtain ⟨g1,g2,g3⟩:=part i (by omega);have hi4:i<((Do p q).take i++p.drop i).length:=by omega
   have hip:i<p.length:=by omega
   obtain ⟨o,rfl,ho⟩:=((m1.trans mm).drop.keep0 rtags_ok hs').get (show i<q.length by omega);obtain ⟨b,i1,rs,row,G1,ha,hbF,hbG,hb,hrow,⟨hrw,rfl⟩,hGF,hGn,_,put⟩:=r.at (lo:=lo) DN hi4 mm.nd (λy hy=>(m1.trans mm).ge hl (by simp) y hy);have hpi:((Do p q).take i++p.drop i)[i]'hi4=p[i]:=by have:=Cz hi4;rw[g2,Cz hip] at this;injection this with this;exact this.symm
   rw[hpi] at hrw;have hld:ld hh b (i1+i) 0 2=some [Iv p[i].time,Iv p[i].place]:=by rw[Bx hb hrow,hrw];rfl
   obtain ⟨h2,F2,e2,r2,m2,_⟩:=put hh [] 0 (E4 p[i] (q[i]'(by omega))).cs (E4 p[i] (q[i]'(by omega))).cs (E4 p[i] (q[i]'(by omega))) Mv.nil (by rw[hrw];rfl) ⟨rfl,rfl⟩;rw[g3] at r2;subst ha;obtain ⟨h',F5,q1,q2,q3⟩:=ih (i+1) h2 F2 (by omega) (mm.trans m2) r2;refine ⟨h',F5,?_,q2,q3⟩;simp only[Tag.cs] at e2;rw[<- q1,BZ.e,Ak (by omega),Ae (by omega),Ad,Bb,ho,Ad,Aa,Ab,Aa,Ab,Ag,Ae hip,Ad,hld,Ad,Aa,Ab,Aa,Ab,Ag,S7,Ac,AO,Aa,Ab,Aa,Ab,Ag,Ae hip,Ad,e2,Ad,Ar (by omega)]
 obtain ⟨h',F5,q1,q2,q3⟩:=loop 4 0 h1 F1 rfl (Mv.refl m1.nd) (by rw[List.take_zero,zc3,zdt,<- hp];exact r1);refine ⟨a1,c1,h',F5,JD ?_,by rw[hj];exact q2,m1.trans q3⟩;rw[e1,Ac,AO,Aa,Af,Ag];exact q1
end


section
variable {lo b:Nat}{h h':Heap}{w:World}{a1 a2 a3 a4 a:Pq}{c1 c2 c3 c4 c:Nq}{F1 F2 F3 F4:List Nat}{k b2 i2:Nat}
theorem WN.row (H:WN lo h b w a1 c1 (some (b2,i2)) c2 a3 c3 a4 c4 F1 F2 F3 F4) (hk:k<w.sess.length):∃ v x y G,ld h b2 (i2+k) (0+0) 1=some [Iv w.sess[k].place]/\ld h b2 (i2+k) (0+1) 1=some [v]/\ld h b2 (i2+k) (0+2) 2=some [Iv w.sess[k].wait.time,Iv w.sess[k].wait.place]/\ld h b2 (i2+k) (0+4) 1=some [Iv w.sess[k].key] /\
  (∀ {R':Type} (K:Pq->Nat->Nq->Option R'),eS 2 v K=K x w.sess[k].past.length y)/\RTags false h [.sl 2 x w.sess[k].past.length y] w.sess[k].past G:=by
 obtain ⟨b2',i2',rs,v,x,y,G,ha,hil,hb2,es,hp,_⟩:=H.sess hk;injection ha with ha;injection ha with z1 z2;subst z1;subst z2;exact ⟨v,x,y,G,by rw[LY hb2 hil];rfl,by rw[LY hb2 hil];rfl,by rw[LY hb2 hil];rfl,by rw[LY hb2 hil];rfl,es,hp⟩
theorem WN.waits (H:WN lo h b w a1 c1 (some (b2,i2)) c2 a3 c3 a4 c4 F1 F2 F3 F4) (hk:k<w.sess.length) (t:Tag) (key:Int):∃ h1 h2 F2',st lo h b2 (i2+k) (0+2) [Iv t.time,Iv t.place]=some h1/\st lo h1 b2 (i2+k) (0+4) [Iv key]=some h2 /\
  WN lo h2 b ⟨w.places,w.sess.set k ⟨w.sess[k].place,w.sess[k].past,t,key⟩,w.net,w.hist⟩ a1 c1 (some (b2,i2)) c2 a3 c3 a4 c4 F1 F2' F3 F4/\Mv h (b ::(F1++(F2++(F3++F4)))) h2 (b ::(F1++(F2'++(F3++F4)))):=by
 obtain ⟨b2',i2',rs,v,ha,lob,hil,hb,put⟩:=H.sets hk;injection ha with ha;injection ha with z1 z2;subst z1;subst z2;have s1:=NV (lo:=lo) (j:=0+2) (cs := [Iv t.time,Iv t.place]) (row' := [Iv w.sess[k].place,v,Iv t.time,Iv t.place,Iv w.sess[k].key]) hb hil lob rfl;have s2:=NV (lo:=lo) (h:=h.set b2 (.rows 5 (HW false) false (rs.set (i2+k) [Iv w.sess[k].place,v,Iv t.time,Iv t.place,Iv w.sess[k].key]))) (b:=b2) (i:=i2+k) (rs:=rs) (e:=HW false) (R:=5) (j:=0+4) (cs := [Iv key]) (row := [Iv w.sess[k].place,v,Iv t.time,Iv t.place,Iv w.sess[k].key]) (row' := [Iv w.sess[k].place,v,Iv t.time,Iv t.place,Iv key]) (by rw[zcG (Ea hb).1]) hil lob rfl;rw[zdL] at s2;obtain ⟨F2',H7,M7⟩:=put ⟨w.sess[k].place,w.sess[k].past,t,key⟩ rfl;exact ⟨_,_,F2',s1,s2,H7,M7⟩
theorem WN.pasts (H:WN lo h b w a1 c1 (some (b2,i2)) c2 a3 c3 a4 c4 F1 F2 F3 F4) (hk:k<w.sess.length) {l:List Tag}{G5:List Nat} (m:Mv h [] h' G5) (r:RTags false h' [.sl 2 a l.length c] l G5):∃ h1 F2',st lo h' b2 (i2+k) (0+1) [.sl 2 a l.length c]=some h1 /\
  WN lo h1 b ⟨w.places,w.sess.set k ⟨w.sess[k].place,l,w.sess[k].wait,w.sess[k].key⟩,w.net,w.hist⟩ a1 c1 (some (b2,i2)) c2 a3 c3 a4 c4 F1 F2' F3 F4/\Mv h (b ::(F1++(F2++(F3++F4)))) h1 (b ::(F1++(F2'++(F3++F4)))):=by
 obtain ⟨b2',i2',rs,v,ha,lob,hil,hb,put⟩:=H.setp hk m r;injection ha with ha;injection ha with z1 z2;subst z1;subst z2;have s1:=NV (lo:=lo) (j:=0+1) (cs := [.sl 2 a l.length c]) (row' := [Iv w.sess[k].place,.sl 2 a l.length c,Iv w.sess[k].wait.time,Iv w.sess[k].wait.place,Iv w.sess[k].key]) hb hil lob rfl;obtain ⟨F2',H7,M7⟩:=put ⟨w.sess[k].place,l,w.sess[k].wait,w.sess[k].key⟩ rfl;exact ⟨_,F2',s1,H7,M7⟩
theorem QP {e:Event} (H:WN lo h b w a1 c1 (some (b2,i2)) c2 a3 c3 a4 c4 F1 F2 F3 F4) (hg:Fits w) (hk:k<w.sess.length) (he:e.at'=(k:Int)) (hw:0<w.sess[k].wait.time) :
  ∃ h' F',Ai lo 106 [.ptr (some (b,(0,0))),.ptr (some (b2,(i2+k,0))),.agg e.cs] h=some (.bool (Hj w k w.sess[k]).isSome,h')/\HH lo h' b ((Hj w k w.sess[k]).getD w) F'/\Mv h (b ::(F1++(F2++(F3++F4)))) h' F':=by
 suffices hq:∃ h' F',_=some (V.bool (Hj w k w.sess[k]).isSome,h')/\HH lo h' b ((Hj w k w.sess[k]).getD w) F'/\Mv h (b ::(F1++(F2++(F3++F4)))) h' F' from by obtain ⟨h',F',e1,hr⟩:=hq;exact ⟨h',F',OE e1,hr⟩
 have hso:=hg.ok.sess _ (zcv hk);obtain ⟨t1,t2,t3,t4,t5,t6⟩:=Bp hso;have hp4:=Be t2;have h80:=hg.ok.h80;obtain ⟨q,hpl⟩:∃ q:Nat,w.sess[k].place=(q:Int):=⟨w.sess[k].place.toNat,by omega⟩;obtain ⟨m,hky⟩:∃ m:Nat,w.sess[k].key=(m:Int):=⟨w.sess[k].key.toNat,by omega⟩;have hq:q<w.places.length:=by have:=hg.ok.p3;omega
 obtain ⟨hpo,hme,hro⟩:=hg.at hq;have hn:=(Eh (Bv hpo) (by decide) (by decide) (by decide)).1;have hst:∀ x∈w.places[q].chain,Bc x.store=true:=λx hx=>(AY ((CO (AI hpo).2.2.2.1).2 x hx)).1
 have h0:=Dp hpo;have hhl:=Nd hpo;have hmh:m<(Ev w.places[q].chain).length:=by omega
 obtain ⟨v,x,y,G,lp,lv,lw,lk,es,hp⟩:=H.row hk;obtain ⟨b1,i1,rs,x1,y1,x2,y2,x3,y3,G1,G2,G3,rfl,hil,hb1,g1,g2,g3,nd,hF,put⟩:=H.place hq;have hld:ld h b1 (i1+q) (2+0) 1=some [.sl 2 x1 w.places[q].chain.length y1]:=by rw[Dc hil hb1];rfl
 obtain ⟨u,a5,c5,h5,e5,hsh,m5⟩:=WC (lo:=lo) (k:=0) (key:=m) (b:=b1) (i:=i1+q) (j:=2) hld (λK=>Af 2 _ _ _ K) g1 h0 hst (by omega) H.hl hn.1.1;obtain ⟨H5,M5⟩:=H.up0 m5;have hX:Hj w k w.sess[k]=bif CT u.tag w.sess[k].wait then (bif CT ((Ev w.places[q].chain)[m]'hmh).tag w.sess[k].wait then some (setS w k ⟨w.sess[k].place,w.sess[k].past,⟨0,0⟩,0⟩ []) else none)
   else (bif Ct w 1 then some (setS w k ⟨w.sess[k].place,Eo w.sess[k].past m w.sess[k].wait,⟨0,0⟩,0⟩ [⟨k,3,w.sess[k].key,w.sess[k].wait⟩]) else none):=by
  unfold Hj;rw[hpl,Bb,Cz hq];simp only[hky,Bb,hsh,Cz hmh,decide_eq_true hw,cond_true]
 generalize hXX:Hj w k w.sess[k]=X at hX;obtain ⟨v5,x5,y5,G5,lp5,lv5,lw5,lk5,es5,hp5⟩:=H5.row hk;have e5':Ai lo 146 [.ptr (some (b1,(i1+q,2))),Iv 0,Iv (m:Nat)] h=some (.tup [.agg (Ver.cs u a5 c5),.bool true],h5):=e5;simp only[Ver.cs] at e5';have hz0:∀ s:Sess,setS w k s []=⟨w.places,w.sess.set k s,w.net,w.hist⟩:=λs=>by unfold setS;rw[zdc]
 rw[H.cell.1,Ad,Aa,Ag,Af,lp,Ad,Aa,Ag,Ab,hpl,Ae hq,Ad,lk,Ad,Aa,Ag,Ab,Bb,hky,e5',Ac,Gn,Aa,AO,Aa,Ab,Aa,Ab,Aa,Ab,Aa,Af,Aa,BH,Aa,AM,Ag,Aa,Ao,Am,Ag,lw5,Ad,Aa,Ab,Aa,Ab,Ag,D7,Ac,Ao];cases hl:Fu u.tag.time u.tag.place w.sess[k].wait.time w.sess[k].wait.place with
 | true =>
  rw[show CT u.tag w.sess[k].wait=true from hl,cond_true] at hX;have hb5:h5[b1]?=some (CB rs (i1+q) (w.places[q].cs x1 y1 x2 y2 x3 y3)):=by rw[m5.fr b1 (hF b1 (by simp)).2.1 (by simp)];exact hb1
  have lc5:ld h5 b1 (i1+q) 2 1=some [.sl 2 x1 w.places[q].chain.length y1]:=by rw[Dc hil hb5];rfl
  obtain ⟨o,s1,s2,d1,f1,d2,f2,J1,J2,ha,_,ho1,_,es1,_,px,_⟩:=(m5.keep0 rnodes_ok g1).get h0;have hms:m<w.places[q].chain[0].store.length:=by rw[He h0] at hmh;exact hmh
  obtain ⟨o3,_,_,_,_,ha3,_,_,_,_,_,_,ho12,_⟩:=px.all hms;have hub:(Ev w.places[q].chain)[m]'hmh=w.places[q].chain[0].store[m]:=by simp only[He h0]
  rw[hub] at hX;rw[Am,lc5,Ad,Aa,Ag,Af,Cl ⟨by omega,by omega⟩,ha,Ad,ho1,Ad,Aa,Ag,es1,lk5,Ad,Aa,Ag,Ab,hky,Ae hms,ha3,Ad,Bb,ho12,Ad,Aa,Ab,Aa,Ab,Ag,lw5,Ad,Aa,Ab,Aa,Ab,Ag,D7,Ac,Ao];cases hl2:Fu w.places[q].chain[0].store[m].tag.time w.places[q].chain[0].store[m].tag.place w.sess[k].wait.time w.sess[k].wait.place with
  | true =>rw[show CT w.places[q].chain[0].store[m].tag w.sess[k].wait=true from hl2,cond_true,hz0] at hX;obtain ⟨h6,h7,F6,s6,s7,H7,M7⟩:=H5.waits hk ⟨0,0⟩ 0;rw[Am,s6,Ad,s7,Ad];subst hX;exact ⟨h7,_,rfl,H7.at,M5.trans M7⟩
  | false =>rw[show CT w.places[q].chain[0].store[m].tag w.sess[k].wait=false from hl2,cond_false] at hX;rw[Av];subst hX;exact ⟨h5,_,rfl,H5.at,M5⟩
 | false =>
  rw[show CT u.tag w.sess[k].wait=false from hl,cond_false] at hX;rw[Av,Lf H5 (by omega) ⟨by omega,by omega⟩,Ac,Ao];cases hr:Ct w 1 with
  | false =>rw[hr,cond_false] at hX;rw[Av];subst hX;exact ⟨h5,_,rfl,H5.at,M5⟩
  | true =>
  rw[hr,cond_true] at hX;obtain ⟨a6,c6,h6,F6,e6,r6,m6⟩:=KB (lo:=lo) (k:=m) (t:=w.sess[k].wait) hp5 (by omega) H5.hl (by omega);obtain ⟨h7,F7,s7,H7,M7⟩:=H5.pasts hk m6 r6;have hk7:k<(w.sess.set k ⟨w.sess[k].place,Eo w.sess[k].past m w.sess[k].wait,w.sess[k].wait,w.sess[k].key⟩).length:=by simpa using hk
  have hse:(w.sess.set k ⟨w.sess[k].place,Eo w.sess[k].past m w.sess[k].wait,w.sess[k].wait,w.sess[k].key⟩)[k]'hk7=⟨w.sess[k].place,Eo w.sess[k].past m w.sess[k].wait,w.sess[k].wait,w.sess[k].key⟩:=zdK hk7;obtain ⟨v7,x7,y7,G7,lp7,lv7,lw7,lk7,_,_⟩:=H7.row hk7;simp only[hse] at lw7 lk7;obtain ⟨a8,c8,h8,G8,e8,H8,M8⟩:=Oe (d:=⟨e.at',3,w.sess[k].key,w.sess[k].wait⟩) H7 (by show w.hist.length<=1000;omega);obtain ⟨h9,h10,F10,s9,s10,H10,M10⟩:=H8.waits hk7 ⟨0,0⟩ 0;have e8':Ai lo 145 [.ptr (some (b,(0,0))),Iv e.at',Iv 3,Iv (m:Nat),.agg [Iv w.sess[k].wait.time,Iv w.sess[k].wait.place]] h7=some (.tup [],h8):=by rw[<- hky];exact e8
  rw[Am,lv5,Ad,Aa,es5,Ag,lk5,Ad,Aa,Ag,Ab,hky,lw5,Ad,Aa,Ab,Aa,Ab,Ag,e6,Ac,AO,Aa,Af,Ag,s7,Ad,lk7,Ad,Aa,Ag,Ab,hky,lw7,Ad,Aa,Ab,Aa,Ab,Ag,e8',Ac,Gn,Ag,s9,Ad,s10,Ad];subst hX;refine ⟨h10,_,rfl,?_,M5.trans (M7.trans (M8.trans M10))⟩;have:=H10.at;simp only[hse,zdL] at this;rw[he] at this;exact this
end


variable {l:List Node}{p:List Tag}
section
variable {lo:Nat}{h h':Heap}{F F':List Nat}{a a':Pq}{c c':Nq}
theorem Vf {k key b i j:Nat}{s0:V} (hld:ld h b i (j+0) 1=some [s0]) (es0:∀ {T:Type} (K:Pq->Nat->Nq->Option T),eS 2 s0 K=K a l.length c) (hs:RNodes false h [.sl 2 a l.length c] l F) (hk:k<l.length) (hst:∀ x∈l,Bc x.store=true) (hkey:key<4) (hl:lo<=h.length) (hn1:l.length<=1048576) :
  ∃ v a' c' h' G,Ai lo 146 [.ptr (some (b,(i,j))),Iv (k:Nat),Iv (key:Nat)] h=some (.tup [.agg (Ver.cs v a' c'),.bool true],h')/\Gd l k key=some v/\RTags false h' [.sl 2 a' v.past.length c'] v.past G/\Mv h [] h' G:=by
 suffices hq:∃ v a' c' h' G,_=some (V.tup [.agg (Ver.cs v a' c'),.bool true],h')/\Gd l k key=some v/\RTags false h' [.sl 2 a' v.past.length c'] v.past G/\Mv h [] h' G from by obtain ⟨v,a',c',h',G,e,hr⟩:=hq;exact ⟨v,a',c',h',G,FZ e,hr⟩
 have hql:A5 l k<l.length:=by unfold A5;split<;>omega
 obtain ⟨o,s1,s2,b1,d1,b2,d2,H1,H2,ha,_,ho1,_,q1,_,p1,_⟩:=hs.get hql;have hs4:=hst _ (zcv hql);have hkl:key<l[A5 l k].store.length:=by rw[Bi hs4];exact hkey
 obtain ⟨o2,t,b3,d3,G,ha2,ho2,es2,pv,_⟩:=p1.get hkl;obtain ⟨a5,c5,h5,F5,e5,r5,m5⟩:=BG (lo:=lo) (v:=l[A5 l k].store[key]) pv hl ((GU hs4).2 _ (zcv hkl)).1;have hsh:Gd l k key=some l[A5 l k].store[key]:=by unfold Gd;rw[Da hql,Cz hkl]
 generalize l[A5 l k].store[key]=v at ho2 es2 pv e5 r5 hsh;generalize l[A5 l k].store.length=n1 at q1 hkl ha2;refine ⟨v,a5,c5,h5,F5,?_,hsh,r5,m5⟩;simp only[Ver.cs] at e5;have hw1:Ah ((k:Nat):Int) 0 ((l.length:Int) - 1)=true:=by simp only[Ah,CA,decide_eq_true_eq];omega
 have hw2:Ah ((key:Nat):Int) 0 3=true:=by simp only[Ah,CA,decide_eq_true_eq];omega
 rw[hld,Ad,Aa,Ag,es0,wr (n:=((l.length:Nat):Int) - 1) (by omega) (by omega),Ba,Ac,Ao,hw1,Am,Hd,Ac,Ao,hw2,Am];by_cases hk0:k=0
 ·rw[show (((k:Nat):Int)==0)=true by rw[beq_iff_eq];omega,Am,hld,Ad,Aa,Ag,es0,Ad,Aa,Ag,es0,wr (n:=((l.length:Nat):Int) - 1) (by omega) (by omega)];have hif:(if ((l.length:Nat):Int) - 1<1 then ((l.length:Nat):Int) - 1 else 1)=((A5 l k:Nat):Int):=by
   unfold A5;by_cases h1:1<l.length
   ·rw[if_neg (by omega),if_pos ⟨hk0,h1⟩];rfl
   ·rw[if_pos (by omega),if_neg (by omega)];omega
  rw[hif,Ae hql,ha,Ad,Bb,ho1,Ad,Aa,Ag,q1,Ae hkl,ha2,Ad,Bb,ho2,Ad,Aa,Ab,Aa,Ab,Aa,Ab,Aa,es2,Aa,BH,Aa,AM,Ag,e5,Ac,AO,Aa,Ab,Aa,Ab,Aa,Ab,Aa,Af,Aa,BH,Aa,AM,Ag]
 ·have hsa:A5 l k=k:=by unfold A5;rw[if_neg (by omega)]
  rw[hsa] at ho1;rw[show (((k:Nat):Int)==0)=false by rw[beq_eq_false_iff_ne];omega,Av,hld,Ad,Aa,Ag,es0,Ae hk,ha,Ad,Bb,ho1,Ad,Aa,Ag,q1,Ae hkl,ha2,Ad,Bb,ho2,Ad,Aa,Ab,Aa,Ab,Aa,Ab,Aa,es2,Aa,BH,Aa,AM,Ag,e5,Ac,AO,Aa,Ab,Aa,Ab,Aa,Ab,Aa,Af,Aa,BH,Aa,AM,Ag]
theorem RO {num key:Int}{b i j:Nat}{s0:V} (hld:ld h b i (j+0) 1=some [s0]) (es0:∀ {T:Type} (K:Pq->Nat->Nq->Option T),eS 2 s0 K=K a l.length c) (hn1:l.length<=1048576) (hno:(Ah key 0 3&&Ah num 0 ((l.length:Int) - 1))=false) :
  Ai lo 146 [.ptr (some (b,(i,j))),Iv num,Iv key] h=some (.tup [.agg [Iv 0,Iv 0,Iv 0,.sl 0 none 0 (some 0),.str ⟨⟨[]⟩⟩,.bool false],.bool false],h):=by
 refine FZ ?_;rw[hld,Ad,Aa,Ag,es0,wr (n:=((l.length:Nat):Int) - 1) (by omega) (by omega),Ba,Ac,Ao];cases hw:Ah num 0 ((l.length:Int) - 1) with
 | false=>rw[Av]
 | true =>rw[hw,zdw] at hno;rw[Am,Hd,Ac,Ao,hno,Av]
theorem Nb {q:List Tag} (hs:RTags false h [.sl 2 a p.length c] p F) (hs':RTags false h [.sl 2 a' q.length c'] q F') (hp:p.length=4) (hq:q.length=0) (hl:lo<=h.length) :
  ∃ a5 c5 h' F5,Ai lo 101 [.agg [.sl 2 a p.length c],.agg [.sl 2 a' q.length c']] h=some (.agg [.sl 2 a5 p.length c5],h')/\RTags false h' [.sl 2 a5 p.length c5] p F5/\Mv h [] h' F5:=by
 obtain ⟨a1,c1,h1,F1,e1,r1,m1⟩:=DQ (lo:=lo) hs hl (by omega);refine ⟨a1,c1,h1,F1,JD ?_,r1,m1⟩;rw[e1,Ac,AO,Aa,Af,Ag,BZ.e,Aj (by omega)]
theorem Ys {x:Tag} (hx:B5 x.time x.place=true):E4 x ⟨0,0⟩=x:=by have:=GS hx;unfold E4 CT Fu;rw[show (decide (x.time<0) || (x.time==0&&decide (x.place<0)))=false by simp;omega];rfl
theorem VT {k:Nat} (hp:BE p=true):Eo p k ⟨0,0⟩=p:=by
 unfold Eo;cases hx:p[k]? with
 | none=>rfl
 | some x =>obtain ⟨hi,rfl⟩:=Ea hx;simp only;rw[Ys ((pastOk_iff.1 hp).2 _ (zcv hi)),zdS]
end
section
variable {lo b:Nat}{h h':Heap}{w:World}{a1 a2 a3 a4 a:Pq}{c1 c2 c3 c4 c:Nq}{F1 F2 F3 F4:List Nat}{k b2 i2:Nat}
theorem Pu {e:Event} (H:WN lo h b w a1 c1 (some (b2,i2)) c2 a3 c3 a4 c4 F1 F2 F3 F4) (hg:Fits w) (hk:k<w.sess.length) (he:e.at'=(k:Int)) (hw0:w.sess[k].wait.time=0) :
  ∃ h' F',Ai lo 107 [.ptr (some (b,(0,0))),.ptr (some (b2,(i2+k,0))),.agg e.cs] h=some (.bool (EB w k w.sess[k] e).isSome,h')/\HH lo h' b ((EB w k w.sess[k] e).getD w) F'/\Mv h (b ::(F1++(F2++(F3++F4)))) h' F':=by
 suffices hq:∃ h' F',_=some (V.bool (EB w k w.sess[k] e).isSome,h')/\HH lo h' b ((EB w k w.sess[k] e).getD w) F'/\Mv h (b ::(F1++(F2++(F3++F4)))) h' F' from by obtain ⟨h',F',e1,hr⟩:=hq;exact ⟨h',F',Nw e1,hr⟩
 have hso:=hg.ok.sess _ (zcv hk);obtain ⟨t1,t2,t3,t4,t5,t6⟩:=Bp hso;have hp4:=Be t2;have h80:=hg.ok.h80;obtain ⟨q,hpl⟩:∃ q:Nat,w.sess[k].place=(q:Int):=⟨w.sess[k].place.toNat,by omega⟩;have hq:q<w.places.length:=by have:=hg.ok.p3;omega
 obtain ⟨hpo,hme,hro⟩:=hg.at hq;have hn:=(Eh (Bv hpo) (by decide) (by decide) (by decide)).1;have hst:∀ x∈w.places[q].chain,Bc x.store=true:=λx hx=>(AY ((CO (AI hpo).2.2.2.1).2 x hx)).1
 obtain ⟨v,x,y,G,lp,lv,lw,lk,es,hp⟩:=H.row hk;obtain ⟨b1,i1,rs,x1,y1,x2,y2,x3,y3,G1,G2,G3,rfl,hil,hb1,g1,g2,g3,nd,hF,put⟩:=H.place hq;have hld:ld h b1 (i1+q) (2+0) 1=some [.sl 2 x1 w.places[q].chain.length y1]:=by rw[Dc hil hb1];rfl
 have hX:EB w k w.sess[k] e=bif (Ah e.key 0 3&&Ah e.num 0 ((w.places[q].chain.length:Int) - 1))&&Ct w 1 then
   (match Gd w.places[q].chain e.num.toNat e.key.toNat,w.sess[k].past[e.key.toNat]? with
   | some v,some t=>bif CT v.tag t then none else some (setS w k ⟨w.sess[k].place,Kr w.sess[k] v e.key.toNat,w.sess[k].wait,w.sess[k].key⟩ [⟨k,2,e.key,v.tag⟩])
   | _,_=>none) else none:=by
  unfold EB;rw[hpl,Bb,Cz hq,hw0,Bool.and_assoc];rfl
 generalize hXX:EB w k w.sess[k] e=X at hX;rw[H.cell.1,Ad,Aa,Ag,Af,lp,Ad,Aa,Ag,Ab,hpl,Ae hq,Ad,Bb];cases hin:(Ah e.key 0 3&&Ah e.num 0 ((w.places[q].chain.length:Int) - 1)) with
 | false =>rw[hin,zdn,cond_false] at hX;rw[RO hld (λK=>Af 2 _ _ _ K) hn.1.1 hin,Ac,Gn,Aa,AO,Aa,Ab,Aa,Ab,Aa,Ab,Aa];have es0:∀ {R':Type} (K:Pq->Nat->Nq->Option R'),eS 2 (.sl 0 none 0 (some 0)) K=K none 0 (some 0):=λK=>rfl;rw[es0,Aa,BH,Aa,AM,Ag,Aa,Ao,Av,Ag];exact H.stay Mv.nil hX
 | true =>
 rw[hin,zcJ] at hX;simp only[Ah,CA,decide_eq_true_eq] at hin;obtain ⟨m,hkm⟩:∃ m:Nat,e.key=(m:Int):=⟨e.key.toNat,by omega⟩;obtain ⟨n,hnm⟩:∃ n:Nat,e.num=(n:Int):=⟨e.num.toNat,by omega⟩;have hmp:m<w.sess[k].past.length:=by omega
 obtain ⟨u,a5,c5,h5,G5,e5,hsh,r5,m5⟩:=Vf (lo:=h.length) (k:=n) (key:=m) (b:=b1) (i:=i1+q) (j:=2) hld (λK=>Af 2 _ _ _ K) g1 (by omega) hst (by omega) (zcz _) hn.1.1;obtain ⟨H5,M5⟩:=H.up0 m5.drop;simp only[Ver.cs] at e5;rw[hkm,hnm,Bb,Bb,hsh,Cz hmp] at hX;simp only[] at hX;rw[hkm,hnm,e5,Ac,Gn,Aa,AO,Aa,Ab,Aa,Ab,Aa,Ab,Aa,Af,Aa,BH,Aa,AM,Ag,Aa,Ao,Am,Ag,Lf H5 (by omega) ⟨by omega,by omega⟩,Ac,Ao];cases hr:Ct w 1 with
 | false =>rw[hr,cond_false] at hX;rw[Av];subst hX;exact ⟨h5,_,rfl,H5.at,M5⟩
 | true =>
 rw[hr,cond_true] at hX;obtain ⟨v5,x5,y5,G6,lp5,lv5,lw5,lk5,es5,hp5⟩:=H5.row hk;have lv5':ld h5 b2 (i2+k) (0+1+0) 1=some [v5]:=lv5;obtain ⟨o',ho',ho2⟩:=hp5.get hmp;rw[Am,lv5',Ad,Aa,Ag,es5,Ae hmp,ho',Ad,Bb,ho2,Ad,Aa,Ab,Aa,Ab,Ag,D7,Ac,Ao];cases hA:Fu u.tag.time u.tag.place w.sess[k].past[m].time w.sess[k].past[m].place with
 | true =>rw[show CT u.tag w.sess[k].past[m]=true from hA,cond_true] at hX;rw[Am];subst hX;exact ⟨h5,_,rfl,H5.at,M5⟩
 | false =>
 rw[show CT u.tag w.sess[k].past[m]=false from hA,cond_false] at hX;have hu:=Qj (D5 hpo) hsh;have joined:∃ J a6 c6 h6 F6,Ai lo 101 [.agg [.sl 2 x5 w.sess[k].past.length y5],.agg [.sl 2 a5 u.past.length c5]] h5=some (.agg [.sl 2 a6 J.length c6],h6)/\RTags false h6 [.sl 2 a6 J.length c6] J F6/\Mv h5 [] h6 F6/\J.length=4/\Eo J m u.tag=Kr w.sess[k] u m:=by
  rcases Cp hu with g | g
  ·have ht:=DP g;have hl0:u.past.length=0:=by rw[Mw g];rfl
   obtain ⟨a6,c6,h6,F6,q1,q2,q3⟩:=Nb (lo:=lo) hp5 r5 hp4 hl0 H5.hl;refine ⟨w.sess[k].past,a6,c6,h6,F6,q1,q2,q3,hp4,?_⟩;unfold Kr;rw[decide_eq_false (by omega),cond_false,show u.tag=⟨0,0⟩ from by cases hq:u.tag;rw[hq] at ht;simp only at ht;rw[ht.1,ht.2],VT t2]
  ·have hv:=A3 g.1;have htm:0<u.tag.time:=(latest_lt.1 hv.2.2.2.2.2).1;obtain ⟨a6,c6,h6,F6,q1,q2,q3⟩:=QT (lo:=lo) hp5 r5 hp4 (Be hv.2.2.2.1) H5.hl;refine ⟨_,a6,c6,h6,F6,q1,q2,q3,by unfold Do;rw[zd5,hp4,Be hv.2.2.2.1];rfl,?_⟩;unfold Kr;rw[decide_eq_true htm,cond_true]
 obtain ⟨J,a6,c6,h6,F6,e6,r6,m6,hJ4,hJW⟩:=joined;obtain ⟨a7,c7,h7,F7,e7,r7,m7⟩:=KB (lo:=lo) (k:=m) (t:=u.tag) r6 (by omega) (zcw H5.hl m6.le) (by omega);rw[hJW] at e7 r7;obtain ⟨h8,F8,s8,H8,M8⟩:=H5.pasts hk (m6.drop.trans m7) r7;obtain ⟨a9,c9,h9,G9,e9,H9,M9⟩:=Oe (d:=⟨e.at',2,(m:Nat),u.tag⟩) H8 (by show w.hist.length<=1000;omega);rw[Av,lv5,Ad,Aa,es5,Ag,e6,Ac,AO,Aa,Af,Ag,e7,Ac,AO,Aa,Af,Ag,s8,Ad,e9,Ac,Gn,Ag];subst hX;rw[he] at H9;exact ⟨h9,_,rfl,H9.at,M5.trans (M8.trans M9)⟩
end


theorem Zj {lo:Nat}{h h2:Heap}{b i j:Nat}{cs:List V} (e:st lo h b i j cs=some h2):∀ y,y≠b->h2[y]?=h[y]?:=λy hy=>by
 unfold st at e;split at e
 ·split at e
  ·obtain ⟨row,_,e⟩:=zdG.1 e;obtain ⟨row',_,e⟩:=zdG.1 e;injection e with e;rw[<- e,zcA (Ne.symm hy)]
  ·cases e
 ·cases e
section
variable {lo b:Nat}{h h':Heap}{w:World}{a1 a2 a3 a4 a:Pq}{c1 c2 c3 c4 c:Nq}{F1 F2 F3 F4:List Nat}{k b2 i2:Nat}
theorem WF {d:Done} (H:WN lo h b w a1 c1 a2 c2 a3 c3 a4 c4 F1 F2 F3 F4) (h80:w.hist.length<=1000) :
  ∃ a5 c5 h' G,Ai lo 145 [.ptr (some (b,(0,0))),Iv d.sess,Iv d.kind,Iv d.key,.agg [Iv d.tag.time,Iv d.tag.place]] h=some (.tup [],h') /\
   WN lo h' b ⟨w.places,w.sess,w.net,w.hist ++ [d]⟩ a1 c1 a2 c2 a3 c3 a5 c5 F1 F2 F3 G/\Mv h (b ::(F1++(F2++(F3++F4)))) h' (b ::(F1++(F2++(F3++G))))/\(∀ y,y<h.length->y≠b->y∉F4->h'[y]?=h[y]?)/\∀ y∈G,y∈F4\/h.length<=y:=by
 obtain ⟨⟨n1,n2,n3,n4⟩,_⟩:=Po H.ne.2;obtain ⟨a6,c6,h6,F6,e6,r6,m6⟩:=DC (lo:=lo) (bytes:=40) (e:=32) (El:=flat Done.cs) DN H.r4 (row:=d.cs) (x:=d) (G := []) (h1:=h ++ [.rows 5 32 false [d.cs]])
  ⟨rfl,rfl⟩ Mv.snoc n4 (λy hy=>H.ge y (by simp[hy])) H.hl (by decide) (by omega)
 have hnl:(w.hist ++ [d]).length=w.hist.length+1:=by simp
 rw[<- hnl] at r6 e6;obtain ⟨h2,es,W,M⟩:=H.up4 m6 r6;refine ⟨a6,c6,h2,F6,I8 ?_,W,M,λy hy hb hF=>(Zj es y hb).trans (m6.fr y hy hF),λy hy=>(m6.sub y hy).imp id λq=>q.1⟩;simp only[Done.cs] at e6;rw[H.cell.2.2.2,Ad,Aa,Ag,Af,A9,e6,Af,es,Ad]
theorem Tz {i:Nat}{l:List Tag}{j:Nat} (hj:j<l.length):BB i (l.take (j+1))=BB i (l.take j) ++ [⟨i,2,(j:Int),l[j]⟩]:=by unfold BB;rw[zdT hj,List.zipIdx_append,List.map_append];congr 1;simp[zcS,zej (zdo hj)]
theorem QQ {e:Event} (H:WN lo h b w a1 c1 (some (b2,i2)) c2 a3 c3 a4 c4 F1 F2 F3 F4) (hg:Fits w) (hk:k<w.sess.length) (he:e.at'=(k:Int)) (hw0:w.sess[k].wait.time=0) :
  ∃ h' F',Ai lo 108 [.ptr (some (b,(0,0))),.ptr (some (b2,(i2+k,0))),.agg e.cs] h=some (.bool (HG w k w.sess[k]).isSome,h')/\HH lo h' b ((HG w k w.sess[k]).getD w) F'/\Mv h (b ::(F1++(F2++(F3++F4)))) h' F':=by
 suffices hq:∃ h' F',_=some (V.bool (HG w k w.sess[k]).isSome,h')/\HH lo h' b ((HG w k w.sess[k]).getD w) F'/\Mv h (b ::(F1++(F2++(F3++F4)))) h' F' from by obtain ⟨h',F',e1,hr⟩:=hq;exact ⟨h',F',OF e1,hr⟩
 have hso:=hg.ok.sess _ (zcv hk);obtain ⟨t1,t2,t3,t4,t5,t6⟩:=Bp hso;have hp4:=Be t2;have h80:=hg.ok.h80;obtain ⟨q,hpl⟩:∃ q:Nat,w.sess[k].place=(q:Int):=⟨w.sess[k].place.toNat,by omega⟩;have hq:q<w.places.length:=by have:=hg.ok.p3;omega
 obtain ⟨hpo,hme,hro⟩:=hg.at hq;have hn:=(Eh (Bv hpo) (by decide) (by decide) (by decide)).1;have h0:=Dp hpo;have hst4:=Hx (D5 hpo);have hs4:=Be hst4;obtain ⟨v,x,y,G,lp,lv,lw,lk,es,hp⟩:=H.row hk;obtain ⟨b1,i1,rs,x1,y1,x2,y2,x3,y3,G1,G2,G3,rfl,hil,hb1,g1,g2,g3,nd,hF,put⟩:=H.place hq;have hld:ld h b1 (i1+q) 2 1=some [.sl 2 x1 w.places[q].chain.length y1]:=by rw[Dc hil hb1];rfl
 obtain ⟨bt,dt,Ht,et,rt,_⟩:=Hb (lo:=h.length) hld g1 h0 hn.1.1;have hslen:(w.places[q].chain[w.places[q].chain.length - 1]'(by omega)).store.length=4:=((Bv hpo).node _ (zcv _)).1;obtain ⟨vt,h5,F5,e5,r5,m5⟩:=Hc (lo:=h.length) rt (zcz _) hslen;obtain ⟨a6,c6,es6,r6⟩:=r5.form;rw[<- GC h0] at es6 r6;obtain ⟨H5,M5⟩:=H.up0 m5.drop;have hX:HG w k w.sess[k]=bif (Bs w.sess[k].past (AR w.places[q].chain)&&Ct w 4) then some (setS w k ⟨w.sess[k].place,AR w.places[q].chain,w.sess[k].wait,w.sess[k].key⟩ (BB k (AR w.places[q].chain))) else none:=by unfold HG;rw[hpl,Bb,Cz hq,hw0];rfl
 generalize hXX:HG w k w.sess[k]=X at hX;generalize AR w.places[q].chain=S at *
 obtain ⟨v5,x5,y5,G6,lp5,lv5,lw5,lk5,es5,hp5⟩:=H5.row hk;rw[H.cell.1,Ad,Aa,Ag,Af,lp,Ad,Aa,Ag,Ab,hpl,Ae hq,Ad,Bb,et,Ac,AO,Aa,Af,Ag,e5,Ac,AO,Aa,es6,Ag,Lf H5 (by omega) ⟨by omega,by omega⟩,Ac,Ao];cases hr:Ct w 4 with
 | false =>rw[hr,zdD,cond_false] at hX;rw[Av];subst hX;exact ⟨h5,_,rfl,H5.at,M5⟩
 | true =>
 rw[hr,zdw] at hX;have hr4:w.hist.length+4<=80:=by unfold Ct at hr;simp only[decide_eq_true_eq] at hr;omega
 rw[Am,lv5,Ad,Aa,es5,Ag,Ha hp5 r6 (by omega) (by omega),Ac,Ao];cases hu:Bs w.sess[k].past S with
 | false =>rw[hu,cond_false] at hX;rw[Av];subst hX;exact ⟨h5,_,rfl,H5.at,M5⟩
 | true =>
 rw[hu,cond_true] at hX;obtain ⟨h7,F7,s7,H7,M7⟩:=H.pasts hk m5 r6;have hF5:∀ y∈F5,h.length<=y/\y<h5.length:=λy hy=>by refine ⟨m5.new y hy,rtags_ok.bd _ _ _ _ r6 y hy⟩
 have hb2:b2<h.length:=by obtain ⟨b2',i2',_,_,_,_,_,ha,_,_,_,_,_,_,hF2,_⟩:=H.sess hk;injection ha with ha;injection ha with z1 z2;subst z1;exact (hF2 b2 (by simp)).2.1
 have r7:RTags false h7 [.sl 2 a6 S.length c6] S F5:=rtags_ok.fr _ _ _ _ _ r6 λy hy=>Zj s7 y (by have:=hF5 y hy;omega);have h57:h5.length<=h7.length:=by
  have:=rtags_ok.bd _ _ _ _ r7;have e:=s7;unfold st at e;split at e
  ·split at e
   ·obtain ⟨row,_,e⟩:=zdG.1 e;obtain ⟨row',_,e⟩:=zdG.1 e;injection e with e;rw[<- e];simp
   ·cases e
  ·cases e
 have loop:∀ m j hh a4' c4' F4',m+j=4->WN lo hh b ⟨w.places,w.sess.set k ⟨w.sess[k].place,S,w.sess[k].wait,w.sess[k].key⟩,w.net,w.hist++BB k (S.take j)⟩ (some (b1,i1)) c1 (some (b2,i2)) c2 a3 c3 a4' c4' F1 F7 F3 F4' ->
   RTags false hh [.sl 2 a6 S.length c6] S F5->(∀ y∈F5,y<hh.length/\y∉F4')->∃ h' F',Cr lo b 0 0 a6 S.length c6 (S.length:Nat) (j:Nat) e.kind e.at' e.num e.key e.text e.gone hh=some (.bool true,h') /\
    HH lo h' b ⟨w.places,w.sess.set k ⟨w.sess[k].place,S,w.sess[k].wait,w.sess[k].key⟩,w.net,w.hist++BB k S⟩ F'/\Mv hh (b ::(F1++(F7++(F3++F4')))) h' F':=by
  intro m;induction m with
  | zero =>intro j hh a4' c4' F4' hj W r hy;rw[zc0 (by omega)] at W;rw[Cr.e,Aj (by omega)];exact ⟨hh,_,rfl,W.at,Mv.refl W.nd⟩
  | succ m ih =>
   intro j hh a4' c4' F4' hj W r hy;have hjS:j<S.length:=by omega
   obtain ⟨o,ho,ho2⟩:=r.get hjS;have hlen:(BB k (S.take j)).length=j:=by unfold BB;rw[zdQ,zd8,zcS];omega
   obtain ⟨a8,c8,h8,G8,e8,H8,M8,fr8,sub8⟩:=WF (d:=⟨e.at',2,(j:Nat),S[j]⟩) W (by show (w.hist++BB k (S.take j)).length<=1000;rw[zcP,hlen];omega);have hb:∀ y∈F5,y≠b:=λy hy2 e=>by have:=hF5 y hy2;have:=H.blt;omega
   have W8:=H8;simp only[zcO] at W8;rw[he,<- Tz hjS] at W8;obtain ⟨h',F',q1,q2,q3⟩:=ih (j+1) h8 a8 c8 G8 (by omega) W8 (rtags_ok.fr _ _ _ _ _ r λy hy2=>fr8 y (hy y hy2).1 (hb y hy2) (hy y hy2).2) (λy hy2=>⟨zcI (hy y hy2).1 M8.le,λhm=>by
    rcases sub8 y hm with g | g
    ·exact (hy y hy2).2 g
    ·have:=(hy y hy2).1;omega⟩)
   refine ⟨h',F',?_,q2,M8.trans q3⟩;rw[<- q1,Cr.e,Ak (by omega),Ae hjS,ho,Ad,Bb,ho2,Ad,Aa,Ab,Aa,Ab,Ag,e8,Ac,Gn,Ag,Ar (by omega)]
 obtain ⟨h',F',q1,q2,q3⟩:=loop 4 0 h7 a4 c4 F4 rfl (by
  have:BB k (S.take 0) = []:=by rw[List.take_zero];rfl
  rw[this,zdc];exact H7) r7 (λy hy=>⟨zcI (hF5 y hy).2 h57,λhm=>by have:=H.lt.2.2.2 y hm;have:=hF5 y hy;omega⟩)
 rw[Am,s7,Ad];subst hX;exact ⟨h',F',q1,q2,M7.trans q3⟩
end


section
variable {lo b:Nat}{h h':Heap}{w:World}{a1 a2 a3 a4 a:Pq}{c1 c2 c3 c4 c:Nq}{F1 F2 F3 F4:List Nat}{k b2 i2:Nat}
theorem zb2 {b:Bool}{h:Heap}:br b (some (V.bool true,h)) (some (V.bool false,h))=some (V.bool b,h):=by cases b<;>rfl
theorem MY {e:Event} (H:WN lo h b w a1 c1 a2 c2 a3 c3 a4 c4 F1 F2 F3 F4) (hg:Fits w) (hes:e.text.size<=1048576) :
  ∃ h' F',Ai lo 66 [.ptr (some (b,(0,0))),.agg e.cs] h=some (.bool (CS w e).isSome,h')/\HH lo h' b ((CS w e).getD w) F'/\Mv h (b ::(F1++(F2++(F3++F4)))) h' F':=by
 suffices hq:∃ h' F',_=some (V.bool (CS w e).isSome,h')/\HH lo h' b ((CS w e).getD w) F'/\Mv h (b ::(F1++(F2++(F3++F4)))) h' F' from by obtain ⟨h',F',e1,hr⟩:=hq;exact ⟨h',F',Lx e1,hr⟩
 have hs4:=hg.ok.s4;obtain ⟨X,hX⟩:∃ X,CS w e=X:=⟨_,rfl⟩;rw[hX];unfold CS at hX;rw[H.cell.2.1,Ad,Aa,Ag,Af,wr (by omega) (by omega),Ba,Ac,Ao];cases hin:Ah e.at' 0 ((w.sess.length:Int) - 1) with
 | false =>rw[hin,cond_false] at hX;rw[Av];exact H.stay Mv.nil hX.symm
 | true =>
 rw[hin,cond_true] at hX;simp only[Ah,CA,decide_eq_true_eq] at hin;obtain ⟨k,he⟩:∃ k:Nat,e.at'=(k:Int):=⟨e.at'.toNat,by omega⟩;have hk:k<w.sess.length:=by omega
 have hkn:e.at'.toNat=k:=by omega
 rw[hkn,Cz hk] at hX;simp only[] at hX;obtain ⟨b2,i2,rs,v,x,y,G,rfl,hil,hb2,_,_,_,_,hF2,_⟩:=H.sess hk;obtain ⟨_,_,_,_,lp,_,lw,_,_,_⟩:=H.row hk;have lw':ld h b2 (i2+k) 2 2=some [Iv w.sess[k].wait.time,Iv w.sess[k].wait.place]:=lw;obtain ⟨t1,t2,t3,t4,t5,t6⟩:=Bp (hg.ok.sess _ (zcv hk));rw[Am,H.cell.2.1,Ad,Aa,Ag,Af,Cl ⟨by omega,by omega⟩,Ad,hkn,lw',Ad,Aa,Ab,Aa,Ab,Ag];have done:∀ {Y:Option World}{h':Heap}{F':List Nat},Y=X->HH lo h' b (Y.getD w) F'->Mv h (b ::(F1++(F2++(F3++F4)))) h' F'->∃ h'' F'',br Y.isSome (some (V.bool true,h')) (some (V.bool false,h'))=some (V.bool X.isSome,h'')/\HH lo h'' b (X.getD w) F''/\Mv h (b ::(F1++(F2++(F3++F4)))) h'' F'':=λ{Y h' F'} e W M=>by subst e;exact ⟨h',F',zb2,W,M⟩
 by_cases hw:w.sess[k].wait.time=0
 ·have hwp:w.sess[k].wait.place=0:=by have:=P6 t3;rw[hw] at this;simpa using this
  have hz:((w.sess[k].wait.time==(0:Int))&&((w.sess[k].wait.place==(0:Int))&&true))=true:=by rw[hw,hwp];rfl
  rw[hz,Am];cases h2:e.kind==(2:Int) with
  | true =>
   rw[Am];have h2':e.kind=2:=by simpa using h2
   have:Hj w k w.sess[k]=none:=by unfold Hj;rw[hw];split<;>(try rfl);split<;>rfl
   rw[h2'] at hX;exact H.stay Mv.nil (hX.symm.trans this)
  | false =>
  rw[Av];rw[h2] at hX;cases h1:e.kind==(1:Int) with
  | true =>rw[h1,cond_true] at hX;obtain ⟨h',F',q1,q2,q3⟩:=Of H hg hk he hw hes;simp only[Event.cs] at q1;rw[Am,q1,Ac,Ao];exact done hX q2 q3
  | false =>
  rw[h1,cond_false,cond_false] at hX;rw[Av,Av];cases h3:e.kind==(3:Int) with
  | true =>rw[h3,cond_true] at hX;obtain ⟨h',F',q1,q2,q3⟩:=Pu H hg hk he hw;simp only[Event.cs] at q1;rw[Am,q1,Ac,Ao];exact done hX q2 q3
  | false =>
  rw[h3,cond_false] at hX;rw[Av];cases h4:e.kind==(4:Int) with
  | true =>rw[h4,cond_true] at hX;obtain ⟨h',F',q1,q2,q3⟩:=QQ H hg hk he hw;simp only[Event.cs] at q1;rw[Am,q1,Ac,Ao];exact done hX q2 q3
  | false =>
  rw[h4,cond_false] at hX;rw[Av,DM,Ac,Ao];unfold LI at hX;rw[hw,show (!decide ((0:Int)>0))=true from rfl,zcJ] at hX;cases hm:Ah e.num 0 2 with
  | false =>rw[hm,cond_false] at hX;rw[Av];exact H.stay Mv.nil hX.symm
  | true =>rw[hm,cond_true] at hX;obtain ⟨b2',i2',rs',v',ha',lob,hil',hb',put'⟩:=H.sets hk;injection ha' with ha';injection ha' with z1 z2;subst z1;subst z2;have s1:=NV (lo:=lo) (j:=0) (cs := [Iv e.num]) (row' := [Iv e.num,v',Iv w.sess[k].wait.time,Iv w.sess[k].wait.place,Iv w.sess[k].key]) hb' hil' lob rfl;obtain ⟨F2',H7,M7⟩:=put' ⟨e.num,w.sess[k].past,w.sess[k].wait,w.sess[k].key⟩ rfl;rw[Am,s1,Ad];subst hX;refine ⟨_,_,rfl,?_,M7⟩;have:=H7.at;simpa only [setS,zds,zdc] using this
 ·have hpos:0<w.sess[k].wait.time:=by have:=GS t3;omega
  have hz:((w.sess[k].wait.time==(0:Int))&&((w.sess[k].wait.place==(0:Int))&&true))=false:=by rw[show (w.sess[k].wait.time==(0:Int))=false by rw[beq_eq_false_iff_ne];omega];rfl
  rw[hz,Av];cases h2:e.kind==(2:Int) with
  | true =>
   have h2':e.kind=2:=by simpa using h2
   rw[h2'] at hX;have hX':Hj w k w.sess[k]=X:=hX;obtain ⟨h',F',q1,q2,q3⟩:=QP H hg hk he hpos;simp only[Event.cs,h2'] at q1;rw[Am,h2',show ((2:Int)==1)=false from rfl,Av,Am,q1,Ac,Ao];exact done hX' q2 q3
  | false =>
   rw[Av];refine H.stay Mv.nil ?_;rw[<- hX,h2];have hd:decide (w.sess[k].wait.time>0)=true:=decide_eq_true hpos;cases e.kind==(1:Int) with
   | true=>rw[cond_true];unfold DF;rw[hd];split<;>rfl
   | false =>
    rw[cond_false,cond_false];cases e.kind==(3:Int) with
    | true=>rw[cond_true];unfold EB;rw[hd];split<;>rfl
    | false =>
     rw[cond_false];cases e.kind==(4:Int) with
     | true=>rw[cond_true];unfold HG;rw[hd];split<;>rfl
     | false=>rw[cond_false];unfold LI;rw[hd];rfl
end


section
variable {lo:Nat}{h h':Heap}
theorem WD {p:Place}{b i0:Nat}{rs:List (List V)} (hrl:i0<rs.length) {a1 a2 a3:Pq}{c1 c2 c3:Nq}{G1 G2 G3:List Nat} (hb:h[b]?=some (CB rs i0 (p.cs a1 c1 a2 c2 a3 c3)))
  (g1:RNodes false h [.sl 2 a1 p.chain.length c1] p.chain G1) (g2:RVers false h [.sl 6 a2 p.log.length c2] p.log G2) (g3:RVss false h [.sl 1 a3 p.got.length c3] p.got G3) (hpo:As p=true)
  (hnd:(b ::(G1++(G2++G3))).Nodup) (hlo':∀ y∈b ::(G1++(G2++G3)),lo<=y) (hl:lo<=h.length) :
  ∃ h' row' F',Ai lo 111 [.ptr (some (b,(i0,2)))] h=some (.bool (Ej p.chain),h')/\Cy false h' row' (Jr p) F'/\h'[b]?=some (CB rs i0 row')/\Mv h (b ::(G1++(G2++G3))) h' (b :: F'):=by
 have hblt:b<h.length:=(Ea hb).1;have hbd:∀ y∈b ::(G1++(G2++G3)),y<h.length:=λy hy=>by
  simp only[zcD,zcx] at hy;rcases hy with rfl | hy | hy | hy
  ·exact hblt
  ·exact rnodes_ok.bd _ _ _ _ g1 y hy
  ·exact rvers_ok.bd _ _ _ _ g2 y hy
  ·exact rvss_ok.bd _ _ _ _ g3 y hy
 have hsmN:Dm p.chain:=Kk (Bv hpo) (by decide) (by decide);have nd:=hnd;rw[zcE,zcy,zcx,zcx,zcy] at nd;obtain ⟨n1,n2,⟨n3,n4,n5⟩,n6⟩:=nd;simp only[not_or] at n1;obtain ⟨a5,x5,c5,h5,F5,e5,b5,r5,m5⟩:=YC (lo:=lo) (R:=6) (e:=60) (rs:=rs.set i0 (p.cs a1 c1 a2 c2 a3 c3)) (row:=p.cs a1 c1 a2 c2 a3 c3) (i:=i0) (j:=2) hb (zcG hrl) rfl g1 (Dp hpo) hsmN (by rw[zcE];exact ⟨n1.1,n2⟩) (λy hy=>hlo' y (by simp only[zcD,zcx] at hy ⊢;exact hy.imp id .inl)) hl;rw[zdL] at b5;have hx5:=r5.val;subst hx5;have mA:Mv h (b ::(G1++(G2++G3))) h5 (b ::(F5++(G2++G3))):=m5.aside (G:=G2++G3) (by simpa using hnd) (λy hy=>hbd y (by simp only[zcD,zcx] at hy ⊢;exact .inr (.inr hy)));have d2:∀ y∈G2,y∉b :: G1:=λy hy hm=>by
  rcases zcD.1 hm with rfl | hm
  ·exact n1.2.1 hy
  ·exact n6 y hm y (by simp[hy]) rfl
 have d3:∀ y∈G3,y∉b :: G1:=λy hy hm=>by
  rcases zcD.1 hm with rfl | hm
  ·exact n1.2.2 hy
  ·exact n6 y hm y (by simp[hy]) rfl
 exact ⟨h5,(Jr p).cs a5 c5 a2 c2 a3 c3,F5++(G2++G3),e5,⟨_,_,_,_,_,_,rfl,_,_,_,F5,G2,G3,rfl,rfl,r5,m5.keep rvers_ok g2 d2,m5.keep rvss_ok g3 d3⟩,b5,mA⟩
end
section
variable {lo b:Nat}{h h':Heap}{w:World}{a1 a2 a3 a4 a:Pq}{c1 c2 c3 c4 c:Nq}{F1 F2 F3 F4:List Nat}
def I4 (w:World) (e:Event):Option World:=bif e.kind==10 then Kd w e else EQ w e
theorem MZ {e:Event} (H:WN lo h b w a1 c1 a2 c2 a3 c3 a4 c4 F1 F2 F3 F4) (hg:Fits w) (hkd:6<=e.kind/\e.kind<=10) :
  ∃ h' F',Ai lo 67 [.ptr (some (b,(0,0))),.agg e.cs] h=some (.bool (I4 w e).isSome,h')/\HH lo h' b ((I4 w e).getD w) F'/\Mv h (b ::(F1++(F2++(F3++F4)))) h' F':=by
 suffices hq:∃ h' F',_=some (V.bool (I4 w e).isSome,h')/\HH lo h' b ((I4 w e).getD w) F'/\Mv h (b ::(F1++(F2++(F3++F4)))) h' F' from by obtain ⟨h',F',e1,hr⟩:=hq;exact ⟨h',F',Ly e1,hr⟩
 have hp3:=hg.ok.p3;have hn12:=hg.ok.n12;obtain ⟨X,hX⟩:∃ X,I4 w e=X:=⟨_,rfl⟩;rw[hX];unfold I4 at hX;rw[DM,Ac,Ao];cases hin:Ah e.at' 0 2 with
 | false =>rw[Av];refine H.stay Mv.nil ?_;rw[<- hX];unfold Kd EQ;rw[hin];cases e.kind==10<;>rfl
 | true =>
 have hin':=hin;simp only[Ah,CA,decide_eq_true_eq] at hin';obtain ⟨q,he⟩:∃ q:Nat,e.at'=(q:Int):=⟨e.at'.toNat,by omega⟩;have hq:q<w.places.length:=by omega
 have hqn:e.at'.toNat=q:=by omega
 obtain ⟨hpo,hme,hro⟩:=hg.at hq;have hn:=(Eh (Bv hpo) (by decide) (by decide) (by decide)).1;obtain ⟨b1,i1,rs,x1,y1,x2,y2,x3,y3,G1,G2,G3,rfl,hil,hb1,g1,g2,g3,nd,hF,put⟩:=H.place hq;have hlo1:∀ y∈b1 ::(G1++(G2++G3)),lo<=y:=λy hy=>(hF y hy).1
 rw[Am,H.cell.1,Ad,Aa,Ag,Af,Cl ⟨by omega,by omega⟩,Ad,hqn];have done:∀ {Y:Option Place}{h':Heap}{row':List V}{F':List Nat}{p':Place}{ok:Bool},(Y.map (setP w q)=X)->ok=Y.isSome->p'=Y.getD w.places[q]->Cy false h' row' p' F'->h'[b1]?=some (CB rs (i1+q) row')->Mv h (b1 ::(G1++(G2++G3))) h' (b1 :: F') ->
   ∃ h'' F'',br ok (some (V.bool true,h')) (some (V.bool false,h'))=some (V.bool X.isSome,h'')/\HH lo h'' b (X.getD w) F''/\Mv h (b ::(F1++(F2++(F3++F4)))) h'' F'':=λ{Y h' row' F' p' ok} e1 e2 e3 r hb' m=>by
  obtain ⟨F1',W,M⟩:=put h' row' p' F' hb' r m;subst e1;subst e2;subst e3;refine ⟨h',_,?_,?_,M⟩
  ·rw[zb2];cases Y<;>rfl
  ·cases Y with
   | none=>rw[Option.getD_none,SI hq] at W;exact W.at
   | some p'=>exact W.at
 have hpl:e.kind≠10->EQ w e=X:=λhne=>by rw[show (e.kind==(10:Int))=false by rw[beq_eq_false_iff_ne];exact hne,cond_false] at hX;exact hX
 have hpl2:e.kind≠10->(C6 w.places[q] e).map (setP w q)=X:=λhne=>by rw[<- hpl hne];unfold EQ;rw[hin,cond_true,hqn,Cz hq]
 cases h6:e.kind==(6:Int) with
 | true =>
  have hk6:e.kind=6:=by simpa using h6
  obtain ⟨h5,row5,F5,e5,r5,b5,m5⟩:=Oa (lo:=lo) (k:=e.num) hil hb1 g1 g2 g3 hpo nd hlo1 H.hl;rw[Am,e5,Ac,Ao];refine done (hpl2 (by omega)) ?_ ?_ r5 b5 m5
  ·unfold C6;rw[h6,cond_true];cases BJ w.places[q].chain e.num<;>rfl
  ·unfold C6;rw[h6,cond_true];cases hc:BJ w.places[q].chain e.num with
   | true=>rfl
   | false=>unfold D3;rw[hc];rfl
 | false =>
 rw[Av];cases h7:e.kind==(7:Int) with
 | true =>
  have hk7:e.kind=7:=by simpa using h7
  obtain ⟨h5,row5,F5,e5,r5,b5,m5⟩:=Ob (lo:=lo) (k:=e.num) hil hb1 g1 g2 g3 hpo nd hlo1 H.hl;rw[Am,e5,Ac,Ao];refine done (hpl2 (by omega)) ?_ ?_ r5 b5 m5
  ·unfold C6;rw[h6,cond_false,h7,cond_true];cases Cm w.places[q] e.num<;>rfl
  ·unfold C6;rw[h6,cond_false,h7,cond_true];cases hc:Cm w.places[q] e.num with
   | true=>rfl
   | false=>unfold C9;rw[hc];rfl
 | false =>
 rw[Av];cases h8:e.kind==(8:Int) with
 | true =>
  have hk8:e.kind=8:=by simpa using h8
  obtain ⟨h5,row5,F5,e5,r5,b5,m5⟩:=WD (lo:=lo) hil hb1 g1 g2 g3 hpo nd hlo1 H.hl;rw[Am,e5,Ac,Ao];refine done (hpl2 (by omega)) ?_ ?_ r5 b5 m5
  ·unfold C6;rw[h6,cond_false,h7,cond_false,h8,cond_true];cases Ej w.places[q].chain<;>rfl
  ·unfold C6;rw[h6,cond_false,h7,cond_false,h8,cond_true];cases hc:Ej w.places[q].chain with
   | true=>rfl
   | false=>unfold Jr Dj;rw[hc];rfl
 | false =>
 rw[Av];cases h9:e.kind==(9:Int) with
 | true =>
  have hk9:e.kind=9:=by simpa using h9
  obtain ⟨h5,row5,F5,e5,r5,b5,m5⟩:=WB (lo:=lo) (k:=e.num) hil hb1 g1 g2 g3 hpo hn nd hlo1 H.hl;rw[Am,e5,Ac,Ao];refine done (hpl2 (by omega)) ?_ ?_ r5 b5 m5
  ·unfold C6;rw[h6,cond_false,h7,cond_false,h8,cond_false];cases Ci w.places[q] e.num<;>rfl
  ·unfold C6;rw[h6,cond_false,h7,cond_false,h8,cond_false];cases hc:Ci w.places[q] e.num with
   | true=>rfl
   | false=>unfold C8;rw[hc];rfl
 | false =>
 have hk10:e.kind=10:=by rw[beq_eq_false_iff_ne] at h6 h7 h8 h9;omega
 rw[hk10,show ((10:Int)==10)=true from rfl,cond_true] at hX;unfold Kd at hX;rw[hin,zcJ,hqn,GY hq] at hX;have hll:w.places[q].log.length<=1000:=zcw (Bv hpo).log.1 (by decide);have l3:ld h b1 (i1+q) 3 1=some [.sl 6 x2 w.places[q].log.length y2]:=by rw[Dc hil hb1];rfl
 rw[Av,QO,Ac,Ao,hin,zcJ];cases hnu:Ah e.num 0 2 with
 | false=>rw[hnu,zdn,cond_false] at hX;rw[zdn,Av];exact H.stay Mv.nil hX.symm
 | true =>
 rw[hnu,zcJ] at hX;rw[zcJ];cases hap:(!(e.at'==e.num)) with
 | false=>rw[hap,zdn,cond_false] at hX;rw[Av];exact H.stay Mv.nil hX.symm
 | true =>
 rw[hap,zcJ] at hX;rw[Am,l3,Ad,Aa,Ag,Af,VS (by omega),Ba,Ac,Ao];cases hke:Ah e.key 0 ((w.places[q].log.length:Int) - 1) with
 | false=>rw[hke,zdD,cond_false] at hX;rw[Av];exact H.stay Mv.nil hX.symm
 | true =>
 rw[hke,zdw] at hX;simp only[Ah,CA,decide_eq_true_eq] at hke;rw[Am,H.cell.2.2.1,Ad,Aa,Ag,Af];by_cases h12:(w.net.length:Int)>=12
 ·rw[decide_eq_false (by omega),cond_false] at hX;rw[Ak h12];exact H.stay Mv.nil hX.symm
 rw[decide_eq_true (by omega),cond_true] at hX;obtain ⟨m,hkm⟩:∃ m:Nat,e.key=(m:Int):=⟨e.key.toNat,by omega⟩;have hml:m<w.places[q].log.length:=by omega
 have hkn:e.key.toNat=m:=by omega
 rw[hkn,Cz hml] at hX;simp only[] at hX;obtain ⟨o,s,av,cv,G,ha,ho,es,hp,_⟩:=g2.get hml;have hvp:w.places[q].log[m].past.length<=1048576:=by have:=(hn.2.1.2 _ (zcv hml)).1;omega
 obtain ⟨a5,c5,h5,F5,e5,r5,m5⟩:=BG (lo:=h.length) (v:=w.places[q].log[m]) hp (zcz _) hvp;obtain ⟨⟨n1,n2,n3,n4⟩,_⟩:=Po H.ne.2;obtain ⟨a6,c6,h6',F6,e6,r6,m6⟩:=DC (lo:=lo) (bytes:=96) (e:=91) (El:=Ui false) rframe_ok H.r3 (row := Iv e.at' :: Iv e.num :: Iv e.key ::(w.places[q].log[m]).cs a5 c5) (x:=⟨e.at',e.num,e.key,w.places[q].log[m]⟩) (G:=F5)
  (h1:=h5 ++ [.rows 9 91 false [Iv e.at' :: Iv e.num :: Iv e.key ::(w.places[q].log[m]).cs a5 c5]])
  ⟨_,rfl,_,rfl,Mv.snoc.keep0 rtags_ok r5⟩ (m5.trans (Mv.snoc' m5.nd)) n3 (λy hy=>H.ge y (by simp[hy])) H.hl (by decide) (by omega)
 have hnl:(w.net ++ [Frame.mk e.at' e.num e.key w.places[q].log[m]]).length=w.net.length+1:=by simp
 rw[<- hnl] at r6 e6;obtain ⟨h7,s7,W,M⟩:=H.up3 m6 r6;simp only[Ver.cs] at e5 e6;rw[Aj h12,Ad,Aa,Ag,Af,l3,Ad,Aa,Ag,Af,Cl ⟨by omega,by omega⟩,ha,Ad,hkn,ho,Ad,Aa,Ab,Aa,Ab,Aa,Ab,Aa,es,Aa,BH,Aa,AM,Ag,e5,Ac,AO,Aa,Ab,Aa,Ab,Aa,Ab,Aa,Af,Aa,BH,Aa,AM,Ag,A9,e6,Af,s7,Ad];subst hX;exact ⟨h7,_,rfl,W.at,M⟩
end


section
variable {lo b:Nat}{h h':Heap}{w:World}{a1 a2 a3 a4 a:Pq}{c1 c2 c3 c4 c:Nq}{F1 F2 F3 F4:List Nat}
theorem TR {l:List Frame}{k:Nat}{F:List Nat} (hs:RFrames false h [.sl 9 a l.length c] l F) (hk:k<l.length) (hnd:F.Nodup) (hlo:∀ b∈F,lo<=b) (hn:l.length<=1048576) :
  ∃ b i h' F',a=some (b,i)/\Ai lo 114 [.sl 9 a l.length c,Iv (k:Nat),Iv ((k+1:Nat):Int)] h=some (.sl 9 a (l.eraseIdx k).length c,h')/\RFrames false h' [.sl 9 a (l.eraseIdx k).length c] (l.eraseIdx k) F'/\Mv h F h' F'/\∀ y,y≠b->h'[y]?=h[y]?:=by
 obtain ⟨h',F',Gv,b,i,row,ha,hld,hel,hG,e,r,m,fr⟩:=Sli.del (lo:=lo) (bytes:=96) (e:=91) (z := [Iv 0,Iv 0,Iv 0,Iv 0,Iv 0,Iv 0,.sl 0 none 0 (some 0),.str ⟨⟨[]⟩⟩,.bool false]) (x1:=(k:Nat)) (x2:=((k+1:Nat):Int)) (T:=V×Heap) rframe_ok hs hk hnd hlo rfl (by omega) (by decide) (by omega) (some (.sl 9 a l.length c,h)) (λv h=>some (v,h));rw[zdb hk];exact ⟨b,i,h',F',ha,Fp e,r,m,fr⟩
theorem WN.hear (H:WN lo h b w a1 c1 a2 c2 a3 c3 a4 c4 F1 F2 F3 F4) {f:Frame}{q:Nat}{av:Pq}{cv:Nq}{G:List Nat} (hto:f.to=(q:Int)) (hq:q<w.places.length) (hpo:As w.places[q]=true) (hv:RTags false h [.sl 2 av f.ver.past.length cv] f.ver.past G) (hvn:f.ver.past.length<=1048576/\f.ver.text.size<=1048576) :
  ∃ b1 i1 ok h' F',a1=some (b1,i1)/\Ai lo 115 [.ptr (some (b1,(i1+q,0))),Iv f.fro,Iv f.at',.agg (f.ver.cs av cv)] h=some (.bool ok,h')/\HH lo h' b (HC w f) F'/\Mv h (b ::(F1++(F2++(F3++F4)))) h' F':=by
 obtain ⟨b1,i1,rs,x1,y1,x2,y2,x3,y3,G1,G2,G3,ha,hil,hb1,g1,g2,g3,nd,hF,put⟩:=H.place hq;obtain ⟨h5,row5,F5,e5,r5,b5,m5⟩:=WE (lo:=lo) (f:=f.fro) (at':=f.at') (v:=f.ver) hil hb1 g1 g2 g3 hv hpo hvn nd (λy hy=>(hF y hy).1) H.hl;obtain ⟨F1',W,M⟩:=put h5 row5 _ F5 b5 r5 m5;have hh:HC w f=setP w q (Dk w.places[q] f.fro f.at' f.ver):=by unfold HC;rw[hto,Bb,Cz hq]
 rw[hh];exact ⟨b1,i1,_,h5,_,ha,e5,W.at,M⟩
theorem L4 {e:Event} (H:WN lo h b w a1 c1 a2 c2 a3 c3 a4 c4 F1 F2 F3 F4) (hg:Fits w) (hkd:11<=e.kind/\e.kind<=13) :
  ∃ h' F',Ai lo 68 [.ptr (some (b,(0,0))),.agg e.cs] h=some (.bool (FT w e).isSome,h')/\HH lo h' b ((FT w e).getD w) F'/\Mv h (b ::(F1++(F2++(F3++F4)))) h' F':=by
 suffices hq:∃ h' F',_=some (V.bool (FT w e).isSome,h')/\HH lo h' b ((FT w e).getD w) F'/\Mv h (b ::(F1++(F2++(F3++F4)))) h' F' from by obtain ⟨h',F',e1,hr⟩:=hq;exact ⟨h',F',KV e1,hr⟩
 have hp3:=hg.ok.p3;have hn12:=hg.ok.n12;obtain ⟨X,hX⟩:∃ X,FT w e=X:=⟨_,rfl⟩;rw[hX];unfold FT at hX;rw[H.cell.2.2.1,Ad,Aa,Ag,Af,wr (by omega) (by omega),Ba,Ac,Ao];cases hin:Ah e.at' 0 ((w.net.length:Int) - 1) with
 | false =>rw[hin,cond_false] at hX;rw[Av];exact H.stay Mv.nil hX.symm
 | true =>
 rw[hin,cond_true] at hX;simp only[Ah,CA,decide_eq_true_eq] at hin;obtain ⟨k,he⟩:∃ k:Nat,e.at'=(k:Int):=⟨e.at'.toNat,by omega⟩;have hk:k<w.net.length:=by omega
 have hkn:e.at'.toNat=k:=by omega
 rw[hkn,Cz hk] at hX;simp only[] at hX;obtain ⟨⟨n1,n2,n3,n4⟩,_⟩:=Po H.ne.2;obtain ⟨b3,i3,rs,row,G,rfl,hbF,hbG,hb3,hil,⟨vs,rfl,hv⟩,hGF,hGn,_⟩:=Sli.atP rframe_ok H.r3 hk n3;obtain ⟨s,av,cv,rfl,es,hp⟩:=hv.form;have hld:ld h b3 (i3+k) 0 9=some [Iv w.net[k].fro,Iv w.net[k].to,Iv w.net[k].at',Iv w.net[k].ver.key,Iv w.net[k].ver.tag.time,Iv w.net[k].ver.tag.place,s,.str w.net[k].ver.text,.bool w.net[k].ver.gone]:=by rw[LY hb3 hil];rfl
 obtain ⟨⟨q1,q2⟩,⟨q3,q4⟩,_,_,q5⟩:=hg.ok.net _ (zcv hk);obtain ⟨q,hto⟩:∃ q:Nat,w.net[k].to=(q:Int):=⟨w.net[k].to.toNat,by omega⟩;have hq:q<w.places.length:=by omega
 obtain ⟨hpo,_,_⟩:=hg.at hq;have hvn:w.net[k].ver.past.length<=1048576/\w.net[k].ver.text.size<=1048576:=by
  have hf:w.net[k].fro.toNat<w.places.length:=by omega
  rw[GY hf] at q5;have hn:=(Eh (Bv (hg.at hf).1) (by decide) (by decide) (by decide)).1;have:=hn.2.1.2 _ (zcL q5);exact ⟨by omega,by omega⟩
 generalize hf:w.net[k]=f at *
 rw[Am,H.cell.2.2.1,Ad,Aa,Ag,Af,Cl ⟨by omega,by omega⟩,Ad,hkn,hld,Ad,Aa,Ab,Aa,Ab,Aa,Ab,Aa,Ab,Aa,Ab,Aa,Ab,Aa,es,Aa,BH,Aa,AM,Ag];cases h13:e.kind==(13:Int) with
 | true =>
  have hk13:e.kind=13:=by simpa using h13
  rw[h13,cond_true,show (e.kind==(12:Int))=false by rw[hk13];rfl,cond_false] at hX;obtain ⟨b1,i1,ok,h5,F5,rfl,e5,W,M⟩:=H.hear hto hq hpo hp hvn;simp only[Ver.cs] at e5;rw[Am,show (e.kind==(12:Int))=false by rw[hk13];rfl,Av,H.cell.1,Ad,Aa,Ag,Af,hto,Ae hq,Ad,Bb,e5,Ac,Ao];subst hX;refine ⟨h5,F5,?_,W,M⟩;cases ok<;>rfl
 | false =>
 rw[h13,cond_false] at hX;obtain ⟨b3',i3',h5,F5,ha,e5,r5,m5,fr5⟩:=TR (lo:=lo) H.r3 hk n3 (λy hy=>H.ge y (by simp[hy])) (by omega);injection ha with ha;injection ha with z1 z2;subst z1;subst z2;obtain ⟨h6,s6,H6,M6⟩:=H.up3 m5 r5;rw[Av,Ad,Aa,Ag,Af,he,Ar (by omega),e5,Ac,Af,s6,Ad];cases h12:e.kind==(12:Int) with
 | true =>rw[h12,cond_true] at hX;rw[Am];subst hX;exact ⟨h6,_,rfl,H6.at,M6⟩
 | false =>
  rw[h12,cond_false] at hX;have hp6:RTags false h6 [.sl 2 av f.ver.past.length cv] f.ver.past G:=rtags_ok.fr _ _ _ _ _ (rtags_ok.fr _ _ _ _ _ hp λy hy=>fr5 y λe=>hbG (e ▸ hy)) λy hy=>Zj s6 y λe=>H.ne.1 (by
   have:=hGF y hy;rw[e] at this;simp[this])
  obtain ⟨b1,i1,ok,h7,F7,rfl,e7,W,M⟩:=H6.hear hto hq hpo hp6 hvn;simp only[Ver.cs] at e7;rw[Av,H6.cell.1,Ad,Aa,Ag,Af,hto,Ae hq,Ad,Bb,e7,Ac,Ao];subst hX;refine ⟨h7,F7,?_,W,M6.trans M⟩;cases ok<;>rfl
theorem LM {e:Event} (H:WN lo h b w a1 c1 a2 c2 a3 c3 a4 c4 F1 F2 F3 F4) (hg:Fits w) (hes:e.text.size<=1048576) :
  ∃ h' F',Ai lo 37 [.ptr (some (b,(0,0))),.agg e.cs] h=some (.bool (CN w e).isSome,h')/\HH lo h' b ((CN w e).getD w) F'/\Mv h (b ::(F1++(F2++(F3++F4)))) h' F':=by
 suffices hq:∃ h' F',_=some (V.bool (CN w e).isSome,h')/\HH lo h' b ((CN w e).getD w) F'/\Mv h (b ::(F1++(F2++(F3++F4)))) h' F' from by obtain ⟨h',F',e1,hr⟩:=hq;exact ⟨h',F',PJ e1,hr⟩
 obtain ⟨X,hX⟩:∃ X,CN w e=X:=⟨_,rfl⟩;rw[hX];unfold CN at hX;rw[Ba,Ac,Ao];cases h15:Ah e.kind 1 5 with
 | true =>rw[h15,cond_true] at hX;obtain ⟨h',F',q1,q2,q3⟩:=MY H hg hes;simp only[Event.cs] at q1;rw[Am,q1,Ac,Ao,zb2];subst hX;exact ⟨h',F',rfl,q2,q3⟩
 | false =>
 rw[h15,cond_false] at hX;rw[Av,Ba,Ac,Ao];cases h610:Ah e.kind 6 10 with
 | true =>
  simp only[Ah,CA,decide_eq_true_eq] at h610;obtain ⟨h',F',q1,q2,q3⟩:=MZ H hg h610;have hXc:I4 w e=X:=by
   rw[<- hX];unfold I4;cases h10:e.kind==(10:Int) with
   | true =>
    have:e.kind=10:=by simpa using h10
    rw[show Ah e.kind 6 9=false by rw[this];rfl];rfl
   | false =>rw[beq_eq_false_iff_ne] at h10;rw[show Ah e.kind 6 9=true by simp only[Ah,CA,decide_eq_true_eq];omega];rfl
  simp only[Event.cs] at q1;rw[Am,q1,Ac,Ao,zb2];subst hXc;exact ⟨h',F',rfl,q2,q3⟩
 | false =>
 have h69:Ah e.kind 6 9=false:=by rw[<- Bool.not_eq_true] at h610 ⊢;simp only[Ah,CA,decide_eq_true_eq] at h610 ⊢;omega
 have h10:(e.kind==(10:Int))=false:=by rw[<- Bool.not_eq_true] at h610;rw[beq_eq_false_iff_ne];simp only[Ah,CA,decide_eq_true_eq] at h610;omega
 rw[h69,cond_false,h10,cond_false] at hX;rw[Av,Ba,Ac,Ao];cases h11:Ah e.kind 11 13 with
 | true =>rw[h11,cond_true] at hX;simp only[Ah,CA,decide_eq_true_eq] at h11;obtain ⟨h',F',q1,q2,q3⟩:=L4 H hg h11;simp only[Event.cs] at q1;rw[Am,q1,Ac,Ao,zb2];subst hX;exact ⟨h',F',rfl,q2,q3⟩
 | false =>rw[h11,cond_false] at hX;rw[Av];exact H.stay Mv.nil hX.symm
end


variable {l:List Done}
section
variable {lo:Nat}{h:Heap}{F1 F2 F3 F4:List Nat}{a a1 a2 a3 a4:Pq}{c c1 c2 c3 c4:Nq}{F:List Nat}
theorem Oi:(l.map λ_=>([]:List Nat)).flatten = []:=by induction l<;>simp_all
theorem RDones.rowsG (hs:RDones false h [.sl 5 a l.length c] l F) {T:Type} (K:List (List V)->Option T):Au 5 h (.sl 5 a l.length c) K=K (l.map Done.cs):=by obtain ⟨rows,Fs,h1,h2,_⟩:=Sli.rows hs;rw[h1,h2.of_flat.1]
theorem Mv.over {h h1 hh:Heap}{P F:List Nat} (m0:Mv h [] h1 []) (m:Mv h1 P hh F) (hP:∀ y∈P,h.length<=y):Mv h [] hh [] :=
 ⟨zcw m0.le m.le,λb hb _=>by rw[m.fr b (zcI hb m0.le) (λhm=>by have:=hP b hm;omega),m0.fr b hb (by simp)],by simp,by simp⟩
theorem VD (hl:lo<=h.length) (hn:l.length<=1048576):∃ a' c' h' F',(∀ {T:Type} (K:V->Heap->Option T),Dd lo 32 5 40 (.sl 5 (some (h.length,0)) 0 (some 0)) (l.map Done.cs) (h ++ [.rows 5 32 false []]) K=K (.sl 5 a' l.length c') h') /\
  RDones false h' [.sl 5 a' l.length c'] l F'/\Mv h [] h' F':=by
 have h0:RDones false (h ++ [.rows 5 (zbA false) false []]) [.sl 5 (some (h.length,0)) 0 (some 0)] [] [h.length]:=Sli.fresh (zcz _);by_cases he:l = []
 ·subst he;exact ⟨some (h.length,0),some 0,_,_,λK=>rfl,h0,Mv.last⟩
 ·obtain ⟨a',c',h',F',p1,p2,p3,p4,p5,p6⟩:=Sli.push (lo:=lo) (bytes:=40) TW h0 (xs:=l.map Done.cs) (ys:=l) (Gs:=l.map λ_ => []) EAll.flat (by decide) (by simp;omega) (by simp;omega) (by simp;omega) (by rw[Oi];simp) (by rw[Oi];simp) he;simp only[zdJ,zcW,zc3] at p1 p2;refine ⟨a',c',h',F',p1,p2,by simp at p3;omega,λb hb _=>?_,p6,λb hb=>?_⟩
  ·rw[p4 b (by simp;omega) (by simp;omega),zcC hb]
  ·simp at p3;rcases p5 b hb with h1 | h1
   ·rw[Oi] at h1;simp at h1;exact .inr (by omega)
   ·simp at h1;exact .inr (by omega)
theorem Vm (hs:RDones false h [.sl 5 a l.length c] l F) (hl:lo<=h.length) (hn:l.length<=1048576) :
  ∃ v a' c' h' F',Ai lo 70 [.sl 5 a l.length c] h=some (v,h')/\(∀ {T:Type} (K:Pq->Nat->Nq->Option T),eS 5 v K=K a' l.length c')/\RDones false h' [.sl 5 a' l.length c'] l F'/\Mv h [] h' F':=by
 cases a with
 | none =>obtain ⟨R1,a1,c1,e1,g⟩:=hs;injection e1 with e1 _;injection e1 with e0 e2 _ e3;subst e2;subst e3;obtain ⟨rfl,_,_⟩:=g;exact ⟨_,none,some 0,h,[],D0 (by rw[show (none:Pq).isNone=true from rfl,Am]),λK=>rfl,Sli.nil,Mv.nil⟩
 | some p =>obtain ⟨a',c',h',F',e,r⟩:=VD (l:=l) hl hn;refine ⟨_,a',c',h',F',D0 ?_,λK=>Af 5 _ _ _ K,r⟩;rw[show (some p).isNone=false from rfl,Av,RDones.rowsG (Mv.snoc.keep0 rdones_ok hs),e,Af]
theorem RPlacesN.up {cs:List V}{l:List Place} (hs:RPlacesN h cs l F):RPlaces false h cs l F:=Sli.mono (λ_ _ _ h=>by obtain ⟨_,_,_,_,_,_,rfl,q⟩:=h;exact q) hs
theorem GE {w:World} (r1:RPlaces false h [.sl 6 a1 w.places.length c1] w.places F1) (r2:RSesss false h [.sl 5 a2 w.sess.length c2] w.sess F2) (r3:RFrames false h [.sl 9 a3 w.net.length c3] w.net F3) (r4:RDones false h [.sl 5 a4 w.hist.length c4] w.hist F4) (hl:lo<=h.length) (hn:Ia w) :
  ∃ b1 d1 b2 d2 b3 d3 b4 d4 h' G1 G2 G3 G4,Ai lo 38 [.agg (w.cs a1 c1 a2 c2 a3 c3 a4 c4)] h=some (.agg (w.cs b1 d1 b2 d2 b3 d3 b4 d4),h')/\RPlacesN h' [.sl 6 b1 w.places.length d1] w.places G1/\RSesss false h' [.sl 5 b2 w.sess.length d2] w.sess G2/\RFrames false h' [.sl 9 b3 w.net.length d3] w.net G3/\RDones false h' [.sl 5 b4 w.hist.length d4] w.hist G4/\Mv h [] h' (G1++(G2++(G3++G4))):=by
 obtain ⟨⟨n1,s1⟩,⟨n2,s2⟩,⟨n3,s3⟩,n4⟩:=hn;have mP:Mv h [] (h ++ [.rows 6 60 false (List.replicate w.places.length [Iv 0,Iv 0,.sl 0 none 0 (some 0),.sl 0 none 0 (some 0),.sl 0 none 0 (some 0),.bool false])]) [h.length]:=Mv.last;generalize hhP:h ++ [Blk.rows 6 60 false (List.replicate w.places.length [Iv 0,Iv 0,.sl 0 none 0 (some 0),.sl 0 none 0 (some 0),.sl 0 none 0 (some 0),.bool false])]=hP at mP;have sP:RPlacesN hP [.sl 6 (some (h.length,0)) 0 (some w.places.length)] [] [h.length]:=by rw[<- hhP];exact Sli.fresh (by simp)
 have mS:Mv hP [] (hP ++ [.rows 5 72 false (List.replicate w.sess.length [Iv 0,.sl 0 none 0 (some 0),Iv 0,Iv 0,Iv 0])]) [hP.length]:=Mv.last;generalize hhS:hP ++ [Blk.rows 5 72 false (List.replicate w.sess.length [Iv 0,.sl 0 none 0 (some 0),Iv 0,Iv 0,Iv 0])]=hS at mS;have sS:RSesss false hS [.sl 5 (some (hP.length,0)) 0 (some w.sess.length)] [] [hP.length]:=by rw[<- hhS];exact Sli.fresh (by simp)
 have mN:Mv hS [] (hS ++ [.rows 9 91 false (List.replicate w.net.length [Iv 0,Iv 0,Iv 0,Iv 0,Iv 0,Iv 0,.sl 0 none 0 (some 0),.str ⟨⟨[]⟩⟩,.bool false])]) [hS.length]:=Mv.last;generalize hhN:hS ++ [Blk.rows 9 91 false (List.replicate w.net.length [Iv 0,Iv 0,Iv 0,Iv 0,Iv 0,Iv 0,.sl 0 none 0 (some 0),.str ⟨⟨[]⟩⟩,.bool false])]=hN at mN;have sN:RFrames false hN [.sl 9 (some (hS.length,0)) 0 (some w.net.length)] [] [hS.length]:=by rw[<- hhN];exact Sli.fresh (by simp)
 have mSN:=mS.join mN (λy hy=>by have:=mS.lt (by simp) y hy;exact this);have mPSN:=mP.join mSN (λy hy=>by have:=mP.lt (by simp) y hy;exact this);have r4':=mPSN.drop.keep0 rdones_ok r4;obtain ⟨v4,b4,d4,hD,G4,e4,es4,q4,m4⟩:=Vm (lo:=hN.length) r4' (zcz _) n4;have e4':Ai hD.length 69 [.sl 5 b4 w.hist.length d4] hD=some (.sl 5 b4 w.hist.length (some w.hist.length),hD):=Gw (by rw[Ic q4]);have q4c:=q4.clip;have m0:=mPSN.join m4 (λy hy=>mPSN.lt (by simp) y hy);have lt0:=m0.lt (by simp);have m0d:=m0.drop;have lP:h.length<hP.length:=by have:=mP.lt (by simp) h.length (by simp);exact this
 have lS:hP.length<hS.length:=by have:=mS.lt (by simp) hP.length (by simp);exact this
 have lN:hS.length<hN.length:=by have:=mN.lt (by simp) hS.length (by simp);exact this
 have lD:=m4.le;have hG4:=m4.new;have sP4:RPlacesN hD [.sl 6 (some (h.length,0)) 0 (some w.places.length)] [] [h.length]:=m4.keep0 rplacesN_ok (mN.keep0 rplacesN_ok (mS.keep0 rplacesN_ok sP));obtain ⟨h1,G1,e1,q1,m1⟩:=Gm (El:=Cy false) Is (l:=w.places) (lo:=lo) (R:=6) (e:=60) (bytes:=96) (N:=w.places.length) (p0:=(h.length,0)) (F0 := [h.length])
  (zcw hl m0.le) (by intro y hy;simp at hy;omega) (by simp) (by decide) (by omega) (zcz _)
  (λi x n d hh=>BP lo a1 w.places.length c1 (w.places.length:Nat) (i:Nat) a1 w.places.length c1 a2 w.sess.length c2 a3 w.net.length c3 a4 w.hist.length c4 0 none 0 (some 0) 0 none 0 (some 0) 0 none 0 (some 0) 0 none 0 (some 0) x n d (some (hP.length,0)) 0 (some w.sess.length) (some (hS.length,0)) 0 (some w.net.length) b4 w.hist.length (some w.hist.length) hh)
  (λi hi hh F hm=>by
   have hm':=m0d.over hm (λy hy=>by simp at hy;omega);obtain ⟨o,s1',s2',s3',x1,y1,x2,y2,x3,y3,J1,J2,J3,ha,ho,_,_,_,_,es1,es2,es3,g1,g2,g3,_⟩:=(hm'.keep0 rplaces_ok r1).get hi;obtain ⟨p1,p2,d2,p3,d3,h5,K1,K2,K3,e5,k1,k2,k3,m5⟩:=L5 (lo:=lo) (p:=w.places[i]) g1 g2 g3 (zcw hl hm'.le) (s1 _ (zcv hi));refine ⟨w.places[i].cs p1 (some w.places[i].chain.length) p2 d2 p3 d3,K1++(K2++K3),h5 ++ [.rows 6 60 false [w.places[i].cs p1 (some w.places[i].chain.length) p2 d2 p3 d3]],
    ⟨_,_,_,_,_,_,rfl,_,_,_,K1,K2,K3,rfl,rfl,Mv.snoc.keep0 rnodes_ok (RNodesC.up k1),Mv.snoc.keep0 rvers_ok k2,Mv.snoc.keep0 rvss_ok k3⟩,m5.trans (Mv.snoc' m5.nd),?_⟩
   simp only[Place.cs] at e5;rw[BP.e,Ak (by omega),Ae hi,ha,Ad,Bb,ho,Ad,Aa,Ab,Aa,Ab,Aa,es1,Aa,es2,Aa,es3,Aa,AM,Ag,e5,Ac,AO,Aa,Ab,Aa,Ab,Aa,Af,Aa,Af,Aa,Af,Aa,AM,Ag,A9,Ar (by omega)]) sP4
 have m1d:=m0d.over m1 (λy hy=>by simp at hy;omega);have sS1:RSesss false h1 [.sl 5 (some (hP.length,0)) 0 (some w.sess.length)] [] [hP.length]:=m1.keep rsesss_ok (m4.keep0 rsesss_ok (mN.keep0 rsesss_ok sS)) (λy hy hm=>by simp at hy hm;omega);obtain ⟨h2,G2,e2,q2,m2⟩:=Gm (El:=RSess false) Jm (l:=w.sess) (lo:=lo) (R:=5) (e:=72) (bytes:=56) (N:=w.sess.length) (p0:=(hP.length,0)) (F0 := [hP.length])
  (zcw hl m1d.le) (by intro y hy;simp at hy;omega) (by simp) (by decide) (by omega) (zcz _)
  (λi x n d hh=>BO lo a2 w.sess.length c2 (w.sess.length:Nat) (i:Nat) a1 w.places.length c1 a2 w.sess.length c2 a3 w.net.length c3 a4 w.hist.length c4 0 none 0 (some 0) 0 none 0 (some 0) 0 none 0 (some 0) 0 none 0 (some 0) (some (h.length,0)) w.places.length (some w.places.length) x n d (some (hS.length,0)) 0 (some w.net.length) b4 w.hist.length (some w.hist.length) hh)
  (λi hi hh F hm=>by
   have hm':=m1d.over hm (λy hy=>by simp at hy;omega);obtain ⟨o,v,x1,y1,J,ha,ho,_,_,es,hp,_⟩:=(hm'.keep0 rsesss_ok r2).get hi;obtain ⟨p1,d1,h5,K1,e5,k1,m5⟩:=DQ (lo:=lo) hp (zcw hl hm'.le) (s2 _ (zcv hi));refine ⟨w.sess[i].cs p1 d1,K1,h5 ++ [.rows 5 72 false [w.sess[i].cs p1 d1]],⟨_,rfl,Mv.snoc.keep0 rtags_ok k1⟩,m5.trans (Mv.snoc' m5.nd),?_⟩;rw[BO.e,Ak (by omega),Ae hi,ha,Ad,Bb,ho,Ad,Aa,Ab,Aa,es,Aa,Ab,Aa,Ab,Aa,Ab,Ag,e5,Ac,AO,Aa,Af,Ag,A9,Ar (by omega)]) sS1
 have m2d:=m1d.over m2 (λy hy=>by simp at hy;omega);have sN2:RFrames false h2 [.sl 9 (some (hS.length,0)) 0 (some w.net.length)] [] [hS.length]:=m2.keep rframes_ok (m1.keep rframes_ok (m4.keep0 rframes_ok sN) (λy hy hm=>by simp at hy hm;omega)) (λy hy hm=>by simp at hy hm;omega);obtain ⟨h3,G3,e3,q3,m3⟩:=Gm (El:=Ui false) rframe_ok (l:=w.net) (lo:=lo) (R:=9) (e:=91) (bytes:=96) (N:=w.net.length) (p0:=(hS.length,0)) (F0 := [hS.length])
  (zcw hl m2d.le) (by intro y hy;simp at hy;omega) (by simp) (by decide) (by omega) (zcz _)
  (λi x n d hh=>BN lo a3 w.net.length c3 (w.net.length:Nat) (i:Nat) 0 none 0 (some 0) 0 none 0 (some 0) 0 none 0 (some 0) 0 none 0 (some 0) (some (h.length,0)) w.places.length (some w.places.length) (some (hP.length,0)) w.sess.length (some w.sess.length) x n d b4 w.hist.length (some w.hist.length) hh)
  (λi hi hh F hm=>by
   have hm':=m2d.over hm (λy hy=>by simp at hy;omega);obtain ⟨o,v,x1,y1,J,ha,ho,es,hp,_⟩:=(hm'.keep0 rframes_ok r3).get hi;obtain ⟨p1,d1,h5,K1,e5,k1,m5⟩:=BG (lo:=lo) (v:=w.net[i].ver) hp (zcw hl hm'.le) (s3 _ (zcv hi)).1;refine ⟨Iv w.net[i].fro :: Iv w.net[i].to :: Iv w.net[i].at' :: w.net[i].ver.cs p1 d1,K1,h5 ++ [.rows 9 91 false [Iv w.net[i].fro :: Iv w.net[i].to :: Iv w.net[i].at' :: w.net[i].ver.cs p1 d1]],⟨_,rfl,_,rfl,Mv.snoc.keep0 rtags_ok k1⟩,m5.trans (Mv.snoc' m5.nd),?_⟩;simp only[Ver.cs] at e5;rw[BN.e,Ak (by omega),Ae hi,ha,Ad,Bb,ho,Ad,Aa,Ab,Aa,Ab,Aa,Ab,Aa,Ab,Aa,Ab,Aa,Ab,Aa,es,Aa,BH,Aa,AM,Ag,e5,Ac,AO,Aa,Ab,Aa,Ab,Aa,Ab,Aa,Af,Aa,BH,Aa,AM,Ag,A9,Ar (by omega)]) sN2
 have nd0:([h.length]++([hP.length]++([hS.length]++G4))).Nodup:=by have:=m0.nd;simpa using this
 have lt0':∀ y ∈ [h.length]++([hP.length]++([hS.length]++G4)),y<hD.length:=λy hy=>lt0 y (by simpa using hy);have M1:Mv hD ([h.length]++([hP.length]++([hS.length]++G4))) h1 (G1++([hP.length]++([hS.length]++G4))):=m1.mid (.refl _) nd0 (λy hy=>lt0' y (by simp only[zcx] at hy ⊢;exact .inr hy)) (.refl _);have lt1:=M1.lt lt0';have M2:Mv h1 (G1++([hP.length]++([hS.length]++G4))) h2 (G1++(G2++([hS.length]++G4))):=m2.mid O3 M1.nd (λy hy=>lt1 y (by simp only[zcx] at hy ⊢;grind)) O3;have lt2:=M2.lt lt1;have M3:Mv h2 (G1++(G2++([hS.length]++G4))) h3 (G1++(G2++(G3++G4))):=m3.mid SP M2.nd (λy hy=>lt2 y (by simp only[zcx] at hy ⊢;grind)) SP;have m0':Mv h [] hD ([h.length]++([hP.length]++([hS.length]++G4))):=by simpa using m0
 have M:=(m0'.trans M1).trans (M2.trans M3);obtain ⟨_,d12,d13,d14,d23,d24,d34⟩:=Po M.nd;have n2':=M2.nd;refine ⟨some (h.length,0),some w.places.length,some (hP.length,0),some w.sess.length,some (hS.length,0),some w.net.length,b4,some w.hist.length,h3,G1,G2,G3,G4,Lw ?_,?_,?_,q3,?_,M⟩
 ·rw[DJ (by omega),DJ (by omega),DJ (by omega)];simp only[hhP,hhS,hhN];rw[e4,Ac,es4,e4',Ac,Af];refine e1.trans ?_;rw[BP.e,Aj (by omega)];refine e2.trans ?_;rw[BO.e,Aj (by omega)];refine e3.trans ?_;rw[BN.e,Aj (by omega)]
 ·refine m3.keep rplacesN_ok (m2.keep rplacesN_ok q1 λy hy hm=>?_) λy hy hm=>?_
  ·have:=M1.nd;rw[zcy] at this;exact this.2.2 y hy y (by simp at hm ⊢;exact .inl hm) rfl
  ·have:=M2.nd;rw[zcy] at this;exact this.2.2 y hy y (by simp at hm ⊢;exact .inr (.inl hm)) rfl
 ·refine m3.keep rsesss_ok q2 λy hy hm=>?_;have:=M2.nd;rw[zcy,zcy] at this;exact this.2.1.2.2 y hy y (by simp at hm ⊢;exact .inl hm) rfl
 ·refine m3.keep rdones_ok (m2.keep rdones_ok (m1.keep rdones_ok q4c λy hy hm=>?_) λy hy hm=>?_) λy hy hm=>?_
  ·have:=hG4 y hy;simp at hm;omega
  ·have:=hG4 y hy;simp at hm;omega
  ·have:=hG4 y hy;simp at hm;omega
end


variable {w:World}
def JF:World:=⟨[],[],[],[]⟩
def Ye (w:World) (e:Event):World:=bif ET w then JX w e else JF
def KS (raw:List V) (w:World) (r:List V):Prop:=∃ s1 s2 s3 s4 a1 c1 a2 c2 a3 c3 a4 c4,raw = [s1,s2,s3,s4] /\
 (∀ {T:Type} (K:Pq->Nat->Nq->Option T),eS 6 s1 K=K a1 w.places.length c1)/\(∀ {T:Type} (K:Pq->Nat->Nq->Option T),eS 5 s2 K=K a2 w.sess.length c2) /\
 (∀ {T:Type} (K:Pq->Nat->Nq->Option T),eS 9 s3 K=K a3 w.net.length c3)/\(∀ {T:Type} (K:Pq->Nat->Nq->Option T),eS 5 s4 K=K a4 w.hist.length c4)/\r=w.cs a1 c1 a2 c2 a3 c3 a4 c4
section
variable {lo:Nat}{h:Heap}{F:List Nat}
theorem Kv:∃ raw r,raw = [.sl 0 none 0 (some 0),.sl 0 none 0 (some 0),.sl 0 none 0 (some 0),.sl 0 none 0 (some 0)]/\KS raw JF r/\RWorldN false h r JF [] :=
 ⟨_,_,rfl,⟨_,_,_,_,none,some 0,none,some 0,none,some 0,none,some 0,rfl,λK=>rfl,λK=>rfl,λK=>rfl,λK=>rfl,rfl⟩,⟨none,some 0,none,some 0,none,some 0,none,some 0,[],[],[],[],rfl,rfl,Sli.nil,Sli.nil,Sli.nil,Sli.nil⟩⟩
theorem NZ {a1 a2 a3 a4:Pq}{c1 c2 c3 c4:Nq}:KS (w.cs a1 c1 a2 c2 a3 c3 a4 c4) w (w.cs a1 c1 a2 c2 a3 c3 a4 c4) :=
 ⟨_,_,_,_,_,_,_,_,_,_,_,_,rfl,λK=>Af _ _ _ _ K,λK=>Af _ _ _ _ K,λK=>Af _ _ _ _ K,λK=>Af _ _ _ _ K,rfl⟩
theorem TO {cs:List V}{e:Event} (hp:RWorldN false h cs w F) (hl:lo<=h.length) (hn:Ia w) (hn':ET w=true->Ia (JX w e)) (hes:e.text.size<=1048576) :
  ∃ raw r h' F',Ai lo 22 [.agg cs,.agg e.cs] h=some (.tup [.agg raw,.bool (ET w&&(CN w e).isSome)],h')/\KS raw (Ye w e) r/\RWorldN false h' r (Ye w e) F'/\Mv h [] h' F':=by
 obtain ⟨h1,e1,m1⟩:=TN (lo:=lo) hp hl hn;have hp1:=m1.keep0 Dr hp;obtain ⟨a1,c1,a2,c2,a3,c3,a4,c4,F1,F2,F3,F4,rfl,rfl,r1,r2,r3,r4⟩:=hp1;suffices hq:∃ raw r h' F',_=some (V.tup [.agg raw,.bool (ET w&&(CN w e).isSome)],h')/\KS raw (Ye w e) r/\RWorldN false h' r (Ye w e) F'/\Mv h [] h' F' from by obtain ⟨raw,r,h',F',e1,hr⟩:=hq;exact ⟨raw,r,h',F',Rz e1,hr⟩
 rw[e1,Ac,Ao];unfold Ye;cases hw:ET w with
 | false =>obtain ⟨raw,r,rfl,z1,z2⟩:=Kv (h:=h1);rw[Av];exact ⟨_,r,h1,[],rfl,z1,z2,m1⟩
 | true =>
 have hg:Fits w:=⟨world_iff.1 hw⟩;obtain ⟨x1,y1,x2,y2,x3,y3,x4,y4,h2,G1,G2,G3,G4,e2,q1,q2,q3,q4,m2⟩:=GE (lo:=lo) r1 r2 r3 r4 (zcw hl m1.le) hn;have lt2:=m2.lt (by simp);have W:WN lo (h2 ++ [.rows 4 41 false [w.cs x1 y1 x2 y2 x3 y3 x4 y4]]) h2.length w x1 y1 x2 y2 x3 y3 x4 y4 G1 G2 G3 G4:=by
  refine ⟨by simp,Mv.snoc.keep0 rplacesN_ok q1,Mv.snoc.keep0 rsesss_ok q2,Mv.snoc.keep0 rframes_ok q3,Mv.snoc.keep0 rdones_ok q4,?_,?_,?_⟩
  ·rw[zcE];exact ⟨λhm=>by have:=lt2 _ hm;omega,m2.nd⟩
  ·intro y hy;rcases zcD.1 hy with rfl | hy
   ·have:=m2.le;have:=m1.le;omega
   ·exact m2.ge (zcw hl m1.le) (by simp) y hy
  ·have:=m2.le;have:=m1.le;simp;omega
 have es:st lo (h2 ++ [.rows 4 41 false [[.sl 0 none 0 (some 0),.sl 0 none 0 (some 0),.sl 0 none 0 (some 0),.sl 0 none 0 (some 0)]]]) h2.length 0 0 (w.cs x1 y1 x2 y2 x3 y3 x4 y4)=some (h2 ++ [.rows 4 41 false [w.cs x1 y1 x2 y2 x3 y3 x4 y4]]):=by rw[DR (lo:=lo) (r:=0) (row := [.sl 0 none 0 (some 0),.sl 0 none 0 (some 0),.sl 0 none 0 (some 0),.sl 0 none 0 (some 0)]) (row':=w.cs x1 y1 x2 y2 x3 y3 x4 y4) (by simp;exact ⟨rfl,rfl,rfl⟩) (by have:=m2.le;have:=m1.le;omega) rfl rfl];simp
 obtain ⟨h4,F4',e4,⟨u1,v1,u2,v2,u3,v3,u4,v4,J1,J2,J3,J4,rfl,W4⟩,M4⟩:=LM W hg hes;have W4:WN lo h4 h2.length (JX w e) u1 v1 u2 v2 u3 v3 u4 v4 J1 J2 J3 J4:=W4;obtain ⟨z1,t1,z2,t2,z3,t3,z4,t4,h5,K1,K2,K3,K4,e5,k1,k2,k3,k4,m5⟩:=GE (lo:=lo) W4.r1.up W4.r2 W4.r3 W4.r4 W4.hl (hn' hw);have hld:ld h4 h2.length 0 0 4=some ((JX w e).cs u1 v1 u2 v2 u3 v3 u4 v4):=by rw[Bx W4.hb rfl];rfl
 have mm:Mv h [] h5 (K1++(K2++(K3++K4))):=by
  have m24:Mv h [] h4 []:=by
   have m12:=m1.trans m2.drop;have mS:Mv h [] (h2 ++ [.rows 4 41 false [w.cs x1 y1 x2 y2 x3 y3 x4 y4]]) []:=m12.trans Mv.snoc;refine mS.over M4 λy hy=>?_;rcases zcD.1 hy with rfl | hy
   ·have:=m2.le;have:=m1.le;omega
   ·have:=m2.new y hy;have:=m1.le;omega
  exact m24.trans m5
 simp only[World.cs,Event.cs] at e2 es e4 e5 hld;rw[Am,e2,Ac,AO,Aa,Af,Aa,Af,Aa,Af,Aa,Af,Ag,es,Ad,e4,Ac,Ao];have fin:∀ b:Bool,b=(CN w e).isSome->∃ raw r h' F',some (V.tup [.agg [.sl 6 z1 (JX w e).places.length t1,.sl 5 z2 (JX w e).sess.length t2,.sl 9 z3 (JX w e).net.length t3,.sl 5 z4 (JX w e).hist.length t4],.bool b],h5)=some (V.tup [.agg raw,.bool (true&&(CN w e).isSome)],h')/\KS raw (bif true then JX w e else JF) r/\RWorldN false h' r (bif true then JX w e else JF) F'/\Mv h [] h' F':=λb hb=>by subst hb;exact ⟨_,_,h5,_,rfl,NZ,⟨_,_,_,_,_,_,_,_,K1,K2,K3,K4,rfl,rfl,k1.up,k2,k3,k4⟩,mm⟩
 cases hs:(CN w e).isSome with
 | true =>rw[hs] at fin;rw[Am,hld,Ad,Aa,Af,Aa,Af,Aa,Af,Aa,Af,Ag,e5,Ac,AO,Aa,Af,Aa,Af,Aa,Af,Aa,Af,Ag];exact fin true rfl
 | false =>rw[hs] at fin;rw[Av,hld,Ad,Aa,Af,Aa,Af,Aa,Af,Aa,Af,Ag,e5,Ac,AO,Aa,Af,Aa,Af,Aa,Af,Aa,Af,Ag];exact fin false rfl
end


section
variable {lo:Nat}{h:Heap}
theorem RR:∃ h' q,Ai lo 65 [] h=some (.agg [.sl 2 (some (q,0)) 4 (some 4)],h')/\RTags false h' [.sl 2 (some (q,0)) 4 (some 4)] SR [q]/\Mv h [] h' [q] :=
 ⟨_,h.length,Kh rfl,Sli.made (l:=SR) rfl,Mv.last⟩
theorem RP:∃ h' q,Ai lo 142 [] h=some (.agg [.sl 6 (some (q,0)) 4 (some 4)],h')/\RVers false h' [.sl 6 (some (q,0)) 4 (some 4)] JG [q]/\Mv h [] h' [q]:=by
 refine ⟨_,h.length,PL rfl,⟨6,some (h.length,0),some 4,rfl,rfl,[[Iv 0,Iv 0,Iv 0,.sl 0 none 0 (some 0),.str ⟨⟨[]⟩⟩,.bool false],[Iv 0,Iv 0,Iv 0,.sl 0 none 0 (some 0),.str ⟨⟨[]⟩⟩,.bool false],[Iv 0,Iv 0,Iv 0,.sl 0 none 0 (some 0),.str ⟨⟨[]⟩⟩,.bool false],[Iv 0,Iv 0,Iv 0,.sl 0 none 0 (some 0),.str ⟨⟨[]⟩⟩,.bool false]],[[],[],[],[]],by simp,by decide,λk hk=>?_,(λhc=>(by cases hc)),?_,rfl⟩,Mv.last⟩
 ·injection hk with hk;subst hk;exact ⟨by decide,by decide⟩
 ·exact ⟨Hw,Hw,Hw,Hw,trivial⟩
theorem RS {m:Nat} (h1:1<=m) (h4:m<=4) (hl:lo<=h.length):∃ b h' F',Ai lo 104 [Iv (m:Nat)] h=some (.agg [.sl 2 (some (b,0)) m (some m)],h')/\RNodes false h' [.sl 2 (some (b,0)) m (some m)] (List.replicate m ⟨JG,[]⟩) F'/\Mv h [] h' F':=by
 have m0:Mv h [] (h ++ [.rows 2 54 false (List.replicate m [.sl 0 none 0 (some 0),.sl 0 none 0 (some 0)])]) [h.length]:=Mv.last;generalize hhP:h ++ [Blk.rows 2 54 false (List.replicate m [.sl 0 none 0 (some 0),.sl 0 none 0 (some 0)])]=hP at m0;have sP:RNodes false hP [.sl 2 (some (h.length,0)) 0 (some m)] [] [h.length]:=by rw[<- hhP];exact Sli.fresh (by simp)
 obtain ⟨h',F1,e1,q1,m1⟩:=Gm (El:=RNode false) rnode_ok (l:=List.replicate m (⟨JG,[]⟩:Node)) (lo:=lo) (R:=2) (e:=54) (bytes:=48) (N:=m) (p0:=(h.length,0)) (F0 := [h.length])
  (zcw hl m0.le) (by intro y hy;simp at hy;omega) (by simp) (by decide) (by rw[zdq];omega) (by simp)
  (λi x n d hh=>CM lo (m:Nat) (i:Nat) 0 none 0 (some 0) x n d hh)
  (λi hi hh F hm=>by
   rw[zdq] at hi;obtain ⟨h3,q3,e3,t3,m3⟩:=RP (lo:=lo) (h:=hh);refine ⟨[.sl 6 (some (q3,0)) 4 (some 4),.sl 0 none 0 (some 0)],[q3],h3 ++ [.rows 2 54 false [[.sl 6 (some (q3,0)) 4 (some 4),.sl 0 none 0 (some 0)]]],by rw[List.getElem_replicate];exact ⟨_,_,[q3],[],rfl,rfl,Mv.snoc.keep0 rvers_ok t3,Sli.nil⟩,m3.trans (Mv.snoc' m3.nd),?_⟩;rw[CM.e,Ak (by omega),e3,Ac,AO,Aa,Af,Ag,A9,Ar (by omega)]) sP
 rw[zdq] at e1;refine ⟨h.length,h',F1,PO ?_,by rw[zdq] at q1;exact q1,m0.trans m1⟩;have hw:Ah ((m:Nat):Int) 1 4=true:=by simp only[Ah,CA,decide_eq_true_eq];omega
 rw[Ie,Ac,Ao,hw,Am,DJ (by omega)];simp only[Bb,hhP];refine e1.trans ?_;rw[CM.e,Aj (by omega)]
theorem RQ {i n:Nat} (hi:i<=2) (h1:1<=n) (h4:n<=4) (hl:lo<=h.length):∃ b g h' F',Ai lo 64 [Iv (i:Nat),Iv (n:Nat)] h=some (.agg [Iv (i:Nat),Iv 0,.sl 2 (some (b,0)) n (some n),.sl 0 none 0 (some 0),.sl 1 (some (g,0)) 3 (some 3),.bool false],h') /\
  Cy false h' [Iv (i:Nat),Iv 0,.sl 2 (some (b,0)) n (some n),.sl 6 none 0 (some 0),.sl 1 (some (g,0)) 3 (some 3),.bool false] (ML i n) F'/\Mv h [] h' F':=by
 obtain ⟨b,h2,F2,e2,r2,m2⟩:=RS (lo:=h.length) (h:=h) h1 h4 (zcz _);have mx:Mv h2 [] (h2 ++ [.rows 1 50 false [[.sl 0 none 0 (some 0)],[.sl 0 none 0 (some 0)],[.sl 0 none 0 (some 0)]]]) [h2.length]:=Mv.last;have m3:=m2.join mx (rnodes_ok.bd _ _ _ _ r2);have hi2:Ah ((i:Nat):Int) 0 2=true:=by simp only[Ah,CA,decide_eq_true_eq];omega
 have hw:Ah ((n:Nat):Int) 1 4=true:=by simp only[Ah,CA,decide_eq_true_eq];omega
 have hc:(ML i n).chain.length=n:=zdq ..;refine ⟨b,h2.length,_,F2 ++ [h2.length],PM ?_,⟨some (b,0),some n,none,some 0,some (h2.length,0),some 3,by rw[Place.cs,hc];rfl,_,_,_,F2,[],[h2.length],rfl,rfl,mx.keep0 rnodes_ok r2,Sli.nil,?_⟩,m3⟩
 ·rw[DM,Ac,Ao,hi2,Am,Ie,Ac,Ao,hw,Am,e2,Ac,AO,Aa,Af,Ag]
 ·refine ⟨1,some (h2.length,0),some 3,rfl,rfl,[[.sl 0 none 0 (some 0)],[.sl 0 none 0 (some 0)],[.sl 0 none 0 (some 0)]],[[],[],[]],by simp,zcz 3,λk hk=>by injection hk with hk;subst hk;exact ⟨zcz 3,zcz 3⟩,(λhk=>by cases hk),?_,rfl⟩;exact ⟨Sli.nil,Sli.nil,Sli.nil,trivial⟩
theorem za3 {T:Type} (K:Pq->Nat->Nq->Option T):eS 9 (.sl 0 none 0 (some 0)) K=K none 0 (some 0):=rfl
theorem za4 {T:Type} (K:Pq->Nat->Nq->Option T):eS 5 (.sl 0 none 0 (some 0)) K=K none 0 (some 0):=rfl
theorem RN {n s:Nat} (h1:1<=n) (h4:n<=4) (hs:s<=4) (hl:lo<=h.length):∃ p q h' F1 F2,Ai lo 36 [Iv (n:Nat),Iv (s:Nat)] h=some (.agg [.sl 6 (some (p,0)) 3 (some 3),.sl 5 (some (q,0)) s (some s),.sl 0 none 0 (some 0),.sl 0 none 0 (some 0)],h') /\
  RPlacesN h' [.sl 6 (some (p,0)) 3 (some 3)] (D6 n s).places F1/\RSesss false h' [.sl 5 (some (q,0)) s (some s)] (D6 n s).sess F2/\Mv h [] h' (F1++F2):=by
 have mP:Mv h [] (h ++ [.rows 6 60 false [[Iv 0,Iv 0,.sl 0 none 0 (some 0),.sl 0 none 0 (some 0),.sl 0 none 0 (some 0),.bool false],[Iv 0,Iv 0,.sl 0 none 0 (some 0),.sl 0 none 0 (some 0),.sl 0 none 0 (some 0),.bool false],[Iv 0,Iv 0,.sl 0 none 0 (some 0),.sl 0 none 0 (some 0),.sl 0 none 0 (some 0),.bool false]]]) [h.length]:=Mv.last;generalize hhP:h ++ [Blk.rows 6 60 false [[Iv 0,Iv 0,.sl 0 none 0 (some 0),.sl 0 none 0 (some 0),.sl 0 none 0 (some 0),.bool false],[Iv 0,Iv 0,.sl 0 none 0 (some 0),.sl 0 none 0 (some 0),.sl 0 none 0 (some 0),.bool false],[Iv 0,Iv 0,.sl 0 none 0 (some 0),.sl 0 none 0 (some 0),.sl 0 none 0 (some 0),.bool false]]]=hP at mP;have sP:RPlacesN hP [.sl 6 (some (h.length,0)) 0 (some 3)] [] [h.length]:=by rw[<- hhP];exact Sli.fresh (by simp)
 have mS:Mv hP [] (hP ++ [.rows 5 72 false (List.replicate s [Iv 0,.sl 0 none 0 (some 0),Iv 0,Iv 0,Iv 0])]) [hP.length]:=Mv.last;generalize hhS:hP ++ [Blk.rows 5 72 false (List.replicate s [Iv 0,.sl 0 none 0 (some 0),Iv 0,Iv 0,Iv 0])]=hS at mS;have sS:RSesss false hS [.sl 5 (some (hP.length,0)) 0 (some s)] [] [hP.length]:=by rw[<- hhS];exact Sli.fresh (by simp)
 have mPS:=mP.join mS (λy hy=>by have:=mP.lt (by simp) y hy;exact this);have lP:h.length<hP.length:=by have:=mP.lt (by simp) h.length (by simp);exact this
 have lS:hP.length<hS.length:=by have:=mS.lt (by simp) hP.length (by simp);exact this
 have lPl:(D6 n s).places.length=3:=by simp[D6]
 have lSe:(D6 n s).sess.length=s:=by simp[D6]
 obtain ⟨h5,G1,e1,q1,m1⟩:=Gm (El:=Cy false) Is (h0:=hS) (l:=(D6 n s).places) (lo:=lo) (R:=6) (e:=60) (bytes:=96) (N:=3) (p0:=(h.length,0)) (F0 := [h.length])
  (zcw hl mPS.le) (by intro y hy;simp at hy;omega) (by simp) (by decide) (by rw[lPl];decide) (by rw[lPl];exact zcz 3)
  (λi x n1 d hh=>CL lo (n:Nat) (s:Nat) (i:Nat) 0 none 0 (some 0) 0 none 0 (some 0) 0 none 0 (some 0) 0 none 0 (some 0) x n1 d (some (hP.length,0)) 0 (some s) 0 none 0 (some 0) 0 none 0 (some 0) hh)
  (λi hi hh F hm=>by
   have hi3:i<3:=by rw[lPl] at hi;exact hi
   obtain ⟨b,g,h6,K,e6,r6,m6⟩:=RQ (lo:=lo) (h:=hh) (i:=i) (n:=n) (by omega) h1 h4 (zcw (zcw hl mPS.le) hm.le);refine ⟨[Iv (i:Nat),Iv 0,.sl 2 (some (b,0)) n (some n),.sl 6 none 0 (some 0),.sl 1 (some (g,0)) 3 (some 3),.bool false],K,h6 ++ [.rows 6 60 false [[Iv (i:Nat),Iv 0,.sl 2 (some (b,0)) n (some n),.sl 6 none 0 (some 0),.sl 1 (some (g,0)) 3 (some 3),.bool false]]],?_,m6.trans (Mv.snoc' m6.nd),?_⟩
   ·have:(D6 n s).places[i]=ML i n:=by simp[D6]
    have r7:=Mv.snoc (t := [.rows 6 60 false [[Iv (i:Nat),Iv 0,.sl 2 (some (b,0)) n (some n),.sl 6 none 0 (some 0),.sl 1 (some (g,0)) 3 (some 3),.bool false]]]) |>.keep0 Is r6
    rw[<- this] at r7;exact r7
   ·rw[CL.e,Ak (by omega),e6,Ac,AO,Aa,Ab,Aa,Ab,Aa,Af,Aa,XN,Aa,Af,Aa,AM,Ag,A9,Ar (by omega)]) (mS.keep0 rplacesN_ok sP)
 have sS1:RSesss false h5 [.sl 5 (some (hP.length,0)) 0 (some s)] [] [hP.length]:=m1.keep rsesss_ok sS (λy hy hm=>by simp at hy hm;omega);obtain ⟨h7,G2,e2,q2,m2⟩:=Gm (El:=RSess false) Jm (h0:=h5) (l:=(D6 n s).sess) (lo:=lo) (R:=5) (e:=72) (bytes:=56) (N:=s) (p0:=(hP.length,0)) (F0 := [hP.length])
  (zcw (zcw hl mPS.le) m1.le) (by intro y hy;simp at hy;omega) (by simp) (by decide) (by rw[lSe];omega) (by rw[lSe];exact zcz s)
  (λi x n1 d hh=>CK lo (s:Nat) (i:Nat) 0 none 0 (some 0) 0 none 0 (some 0) 0 none 0 (some 0) 0 none 0 (some 0) (some (h.length,0)) 3 (some 3) x n1 d 0 none 0 (some 0) 0 none 0 (some 0) hh)
  (λi hi hh F hm=>by
   have his:i<s:=by rw[lSe] at hi;exact hi
   obtain ⟨h6,q3,e6,r6,m6⟩:=RR (lo:=lo) (h:=hh);have ht:((i:Int).tmod 3)=((i % 3:Nat):Int):=(Int.ofNat_tmod i 3).symm;refine ⟨[Iv ((i % 3:Nat):Int),.sl 2 (some (q3,0)) 4 (some 4),Iv 0,Iv 0,Iv 0],[q3],h6 ++ [.rows 5 72 false [[Iv ((i % 3:Nat):Int),.sl 2 (some (q3,0)) 4 (some 4),Iv 0,Iv 0,Iv 0]]],?_,m6.trans (Mv.snoc' m6.nd),?_⟩
   ·have:(D6 n s).sess[i]=zaR i:=by simp[D6]
    rw[this];exact ⟨_,rfl,Mv.snoc.keep0 rtags_ok r6⟩
   ·rw[CK.e,Ak (by omega),e6,Ac,AO,Aa,Af,Ag,ht,A9,Ar (by omega)]) sS1
 rw[lPl] at e1 q1;rw[lSe] at e2 q2;have lt1:=m1.lt (λy hy=>by simp at hy;omega);have nd0:([h.length] ++ [hP.length]).Nodup:=by have:=mPS.nd;simpa using this
 have M1:Mv hS ([h.length] ++ [hP.length]) h5 (G1 ++ [hP.length]):=m1.mid (.refl _) nd0 (λy hy=>by simp at hy;omega) (.refl _);have M2:Mv h5 (G1 ++ [hP.length]) h7 (G1++G2):=m2.mid zec M1.nd (λy hy=>lt1 y hy) zec;have mPS':Mv h [] hS ([h.length] ++ [hP.length]):=by simpa using mPS
 have M:=mPS'.trans (M1.trans M2);refine ⟨h.length,hP.length,h7,G1,G2,PG ?_,m2.keep rplacesN_ok q1 (λy hy hm=>?_),q2,M⟩
 ·rw[DJ (by omega)];simp only[Bb,hhP,hhS];refine e1.trans ?_;rw[CL.e,Aj (by omega)];refine e2.trans ?_;rw[CK.e,Aj (by omega)]
 ·have:=M1.nd;rw[zcy] at this;exact this.2.2 y hy y hm rfl
end


variable {l:List Event}
section
variable {lo b:Nat}{h:Heap}{a:Pq}{c:Nq}{E:List Nat}
theorem Kz {x y:Int}:Ai lo 35 [Iv x,Iv y] h=some (.bool (Ah x 1 4&&Ah y 0 4),h):=by
 refine OD (h':=h) ?_;rw[Ie,Ac,Ao];cases Ah x 1 4
 ·rw[Av];rfl
 ·rw[Am,Ba,Ac,Ao,zb2];rfl
theorem Vc (ht:∀ e∈l,e.text.size<=1048576) (hl6:l.length<=1048576):∀ (r m:Nat) (hh:Heap) (w:World) (F:List Nat),
  m+r=l.length->REvents hh [.sl 6 a l.length c] l E->HH lo hh b w F->Good w->(∀ y∈E,y∉F) ->
  ∃ h' F',BD lo b 0 0 a l.length c (l.length:Nat) (m:Nat) 0 none 0 (some 0) 0 none 0 (some 0) 0 none 0 (some 0) 0 none 0 (some 0) hh=BD lo b 0 0 a l.length c (l.length:Nat) (l.length:Nat) 0 none 0 (some 0) 0 none 0 (some 0) 0 none 0 (some 0) 0 none 0 (some 0) h' /\
   HH lo h' b (E2 w (l.drop m)) F'/\Mv hh F h' F':=by
 intro r;induction r with
 | zero =>
  intro m hh w F hm re H hg hd;have:m=l.length:=by omega
  subst this;obtain ⟨a1,c1,a2,c2,a3,c3,a4,c4,F1,F2,F3,F4,rfl,W⟩:=id H;exact ⟨hh,_,rfl,by rw[List.drop_length];exact H,Mv.refl W.nd⟩
 | succ r ih =>
  intro m hh w F hm re H hg hd;have hml:m<l.length:=by omega
  obtain ⟨o,row,G,rfl,hld,⟨rfl,_⟩,_⟩:=re.read hml;obtain ⟨a1,c1,a2,c2,a3,c3,a4,c4,F1,F2,F3,F4,rfl,W⟩:=id H;obtain ⟨h2,F5,e2,W2,m2⟩:=LM (e:=l[m]) W hg.fits (ht _ (zcv hml));have re2:=m2.keep revents_ok re hd;have hEb:=revents_ok.bd _ _ _ _ re;obtain ⟨h',F',f1,f2,f3⟩:=ih (m+1) h2 (JX w l[m]) F5 (by omega) re2 W2 (If hg) (λy hy hm=>by
   rcases m2.sub y hm with g | g
   ·exact hd y hy g
   ·have:=hEb y hy;omega)
  have hld6:ld hh o.1 (o.2+m) 0 6=some l[m].cs:=by rw[hld];exact I3 rfl
  simp only[Event.cs] at hld6 e2;refine ⟨h',F',?_,by rw[zcM hml,LW];exact f2,m2.trans f3⟩;rw[BD.e,Ak (by omega),Ae hml,Ad,Bb,hld6,Ad,Aa,Ab,Aa,Ab,Aa,Ab,Aa,Ab,Aa,BH,Aa,AM,Ag,e2,Ac,Ao,Ar (by omega)];cases (CN w l[m]).isSome
  ·rw[Av];exact f1
  ·rw[Am];exact f1
theorem Ws {n s p q:Nat}{h1:Heap}{F1 F2:List Nat} (q1:RPlacesN h1 [.sl 6 (some (p,0)) 3 (some 3)] (D6 n s).places F1) (q2:RSesss false h1 [.sl 5 (some (q,0)) s (some s)] (D6 n s).sess F2) (m:Mv h [] h1 (F1++F2)) (hl:lo<=h.length) :
  ∃ h2,st lo (h1 ++ [.rows 4 41 false [[.sl 0 none 0 (some 0),.sl 0 none 0 (some 0),.sl 0 none 0 (some 0),.sl 0 none 0 (some 0)]]]) h1.length 0 0 [.sl 6 (some (p,0)) 3 (some 3),.sl 5 (some (q,0)) s (some s),.sl 9 none 0 (some 0),.sl 5 none 0 (some 0)]=some h2 /\
   HH lo h2 h1.length (D6 n s) (h1.length ::(F1++(F2++([] ++ []))))/\Mv h [] h2 (h1.length ::(F1++(F2++([] ++ [])))):=by
 have lSe:(D6 n s).sess.length=s:=by simp[D6]
 have hcs:([.sl 6 (some (p,0)) 3 (some 3),.sl 5 (some (q,0)) s (some s),.sl 9 none 0 (some 0),.sl 5 none 0 (some 0)]:List V)=(D6 n s).cs (some (p,0)) (some 3) (some (q,0)) (some s) none (some 0) none (some 0):=by rw[World.cs,lSe];rfl
 have lt:=m.lt (by simp);have mS:Mv h1 [] (h1 ++ [.rows 4 41 false [(D6 n s).cs (some (p,0)) (some 3) (some (q,0)) (some s) none (some 0) none (some 0)]]) [h1.length]:=Mv.last;have mm:=m.join mS lt;have hnd:(h1.length ::(F1++(F2++([] ++ [])))).Nodup:=by rw[zcE];refine ⟨λhm=>?_,by simpa using m.nd⟩;have:=lt h1.length (by simpa using hm);omega
 refine ⟨h1 ++ [.rows 4 41 false [(D6 n s).cs (some (p,0)) (some 3) (some (q,0)) (some s) none (some 0) none (some 0)]],?_,⟨some (p,0),some 3,some (q,0),some s,none,some 0,none,some 0,F1,F2,[],[],rfl,by simp,mS.keep0 rplacesN_ok q1,by rw[lSe];exact mS.keep0 rsesss_ok q2,Sli.nil,Sli.nil,hnd,?_,?_⟩,mm.lean hnd λy hy=>?_⟩
 ·rw[hcs,DR (lo:=lo) (r:=0) (row := [.sl 0 none 0 (some 0),.sl 0 none 0 (some 0),.sl 0 none 0 (some 0),.sl 0 none 0 (some 0)]) (row':=(D6 n s).cs (some (p,0)) (some 3) (some (q,0)) (some s) none (some 0) none (some 0)) (by simp;exact ⟨rfl,rfl,rfl⟩) (by have:=m.le;omega) rfl rfl];simp
 ·intro y hy;rcases zcD.1 hy with rfl | hy
  ·have:=m.le;omega
  ·have:=m.new y (by simpa using hy);omega
 ·have:=m.le;simp;omega
 ·simp only[zcx,zcD,List.not_mem_nil,or_false] at hy ⊢;grind
theorem QR {n s:Nat} (h1:1<=n) (h4:n<=4) (hs:s<=4) (re:REvents h [.sl 6 a l.length c] l E) (ht:∀ e∈l,e.text.size<=1048576) (hl6:l.length<=1048576) (hl:lo<=h.length) :
  ∃ b1 d1 b2 d2 b3 d3 b4 d4 h' F',Ai lo 14 [Iv (n:Nat),Iv (s:Nat),.sl 6 a l.length c] h=some (.agg ((E2 (D6 n s) (l.take 60)).cs b1 d1 b2 d2 b3 d3 b4 d4),h')/\RWorldN false h' ((E2 (D6 n s) (l.take 60)).cs b1 d1 b2 d2 b3 d3 b4 d4) (E2 (D6 n s) (l.take 60)) F'/\Mv h [] h' F':=by
 obtain ⟨p,q,h2,G1,G2,e2,q1,q2,m2⟩:=RN (lo:=lo) (h:=h) h1 h4 hs hl;obtain ⟨h3,e3,W3,m3⟩:=Ws q1 q2 m2 hl;obtain ⟨k,hk,hkl⟩:∃ k:Nat,(if (60:Int)<((l.length:Nat):Int) then (60:Int) else ((l.length:Nat):Int))=(k:Int)/\k=min 60 l.length:=by refine ⟨min 60 l.length,?_,rfl⟩;split<;>omega
 have hkl':k<=l.length:=by omega
 have hlen:(l.take 60).length=k:=by rw[zcS];omega
 have htk:l.take k=l.take 60:=by
  rw[hkl];by_cases h60:60<=l.length
  ·rw[zej h60]
  ·rw[Nat.min_eq_right (by omega),zc0 (by omega),zc0 (by omega)]
 obtain ⟨E',re'⟩:=Sli.pre re hkl';rw[htk,<- hlen] at re';have hEb:=revents_ok.bd _ _ _ _ re';have hg:=Jo h1 h4 hs;obtain ⟨h5,F5,f1,f2,f3⟩:=Vc (λe he=>ht e (zdO he)) (by omega) (l.take 60).length 0 h3 (D6 n s) _ (by omega) (m3.keep0 revents_ok re') W3 hg (λy hy hm=>by have:=m3.new y hm;have:=hEb y hy;omega);rw[zdt] at f2;obtain ⟨u1,v1,u2,v2,u3,v3,u4,v4,J1,J2,J3,J4,rfl,W4⟩:=f2;obtain ⟨z1,t1,z2,t2,z3,t3,z4,t4,h6,K1,K2,K3,K4,e6,k1,k2,k3,k4,m6⟩:=GE (lo:=lo) W4.r1.up W4.r2 W4.r3 W4.r4 W4.hl (TT (Li hg));have hld:ld h5 h2.length 0 0 4=some ((E2 (D6 n s) (l.take 60)).cs u1 v1 u2 v2 u3 v3 u4 v4):=by rw[Bx W4.hb rfl];rfl
 have hw1:Ah ((n:Nat):Int) 1 4=true:=by simp only[Ah,CA,decide_eq_true_eq];omega
 have hw2:Ah ((s:Nat):Int) 0 4=true:=by simp only[Ah,CA,decide_eq_true_eq];omega
 refine ⟨z1,t1,z2,t2,z3,t3,z4,t4,h6,_,JC ?_,⟨_,_,_,_,_,_,_,_,K1,K2,K3,K4,rfl,rfl,k1.up,k2,k3,k4⟩,(m3.trans f3).drop.trans m6⟩;simp only[World.cs] at e6 hld;rw[Kz,Ac,Ao,hw1,hw2,zeg,Am,e2,Ac,AO,Aa,Af,Aa,Af,Aa,za3,Aa,za4,Ag,e3,Ad,hk,E1 re hkl',<- hlen];refine f1.trans ?_;rw[BD.e,Aj (by omega),hld,Ad,Aa,Af,Aa,Af,Aa,Af,Aa,Af,Ag,e6,Ac,AO,Aa,Af,Aa,Af,Aa,Af,Aa,Af,Ag]
theorem Na {x y:Int}{n:Nat} (hno:(Ah x 1 4&&Ah y 0 4)=false):Ai lo 14 [Iv x,Iv y,.sl 6 a n c] h=some (.agg [.sl 0 none 0 (some 0),.sl 0 none 0 (some 0),.sl 0 none 0 (some 0),.sl 0 none 0 (some 0)],h):=by refine JC ?_;rw[Kz,Ac,Ao,hno,Av]
end


variable {x y:Int}{l:List Event}
def Ec (x y:Int):Bool:=Ah x 1 4&&Ah y 0 4
def Ds (x y:Int) (l:List Event):World:=bif Ec x y then E2 (D6 x.toNat y.toNat) (l.take 60) else JF
theorem KP (h:Ec x y=true):∃ n s:Nat,x=(n:Int)/\y=(s:Int)/\1<=n/\n<=4/\s<=4:=by simp only[Ec,Ah,CA,decide_eq_true_eq] at h;exact ⟨x.toNat,y.toNat,by omega,by omega,by omega,by omega,by omega⟩
theorem XY:Ia JF:=⟨⟨by decide,by intro p hp;cases hp⟩,⟨by decide,by intro p hp;cases hp⟩,⟨by decide,by intro p hp;cases hp⟩,by decide⟩
theorem Fh (h:Ec x y=true):Good (Ds x y l):=by unfold Ds;rw[h,cond_true];obtain ⟨n,s,rfl,rfl,h1,h4,hs⟩:=KP h;exact Li (Jo h1 h4 hs)
theorem JK:Ia (Ds x y l):=by
 cases h:Ec x y with
 | true=>exact TT (Fh h)
 | false=>unfold Ds;rw[h];exact XY
section
variable {lo:Nat}{h:Heap}{a:Pq}{c:Nq}{E F:List Nat}
theorem Jt (re:REvents h [.sl 6 a l.length c] l E) (ht:∀ e∈l,e.text.size<=1048576) (hl6:l.length<=1048576) (hl:lo<=h.length) :
  ∃ raw r h' F',Ai lo 14 [Iv x,Iv y,.sl 6 a l.length c] h=some (.agg raw,h')/\KS raw (Ds x y l) r/\RWorldN false h' r (Ds x y l) F'/\Mv h [] h' F':=by
 unfold Ds;cases hok:Ec x y with
 | true =>obtain ⟨n,s,rfl,rfl,h1,h4,hs⟩:=KP hok;obtain ⟨b1,d1,b2,d2,b3,d3,b4,d4,h',F',e1,r1,m1⟩:=QR (lo:=lo) h1 h4 hs re ht hl6 hl;exact ⟨_,_,h',F',e1,NZ,r1,m1⟩
 | false =>obtain ⟨raw,r,rfl,z1,z2⟩:=Kv (h:=h);exact ⟨_,r,h,[],Na hok,z1,z2,Mv.nil⟩
theorem Ii (re:REvents h [.sl 6 a l.length c] l E) (ht:∀ e∈l,e.text.size<=1048576) (hl6:l.length<=1048576) (hl:lo<=h.length) :
  ∃ raw r h' F',Ai lo 16 [Iv x,Iv y,.sl 6 a l.length c] h=some (.agg raw,h')/\KS raw (Ds x y l) r/\RWorldN false h' r (Ds x y l) F'/\Mv h [] h' F':=by
 suffices hq:∃ raw r h' F',_=some (V.agg raw,h')/\KS raw (Ds x y l) r/\RWorldN false h' r (Ds x y l) F'/\Mv h [] h' F' from by obtain ⟨raw,r,h',F',e,hr⟩:=hq;exact ⟨raw,r,h',F',OC e,hr⟩
 obtain ⟨raw,r,rfl,z1,z2⟩:=Kv (h:=h);unfold Ds;rw[B8,Ac,Ao];cases hx:Ah x 1 4 with
 | false=>rw[show Ec x y=false by unfold Ec;rw[hx];rfl,Av];exact ⟨_,r,h,[],rfl,z1,z2,Mv.nil⟩
 | true =>
 rw[Am,B8,Ac,Ao];cases hy:Ah y 0 4 with
 | false=>rw[show Ec x y=false by unfold Ec;rw[hy,zdD],Av];exact ⟨_,r,h,[],rfl,z1,z2,Mv.nil⟩
 | true =>
 have hok:Ec x y=true:=by unfold Ec;rw[hx,hy];rfl
 obtain ⟨n,s,rfl,rfl,h1,h4,hs⟩:=KP hok;obtain ⟨cs',h',F',e1,⟨u1,v1,u2,v2,u3,v3,u4,v4,J1,J2,J3,J4,rfl,rfl,W4⟩,m1⟩:=UK (lo:=lo) h1 h4 hs re ht hl6 hl;simp only[World.cs] at e1;rw[hok,Am,e1,Ac,AO,Aa,Af,Aa,Af,Aa,Af,Aa,Af,Ag];exact ⟨_,_,h',_,rfl,NZ,⟨_,_,_,_,_,_,_,_,J1,J2,J3,J4,rfl,rfl,W4.r1,W4.r2,W4.r3,W4.r4⟩,m1⟩
theorem Hv {a0:Pq}{c0:Nq}{code:List UInt8} (hs:RBytes h [.sl 1 a0 code.length c0] code F) (hF:∀ y∈F,y<lo) (hl:lo<=h.length) (hn:code.length<=1048576) (hcap:∀ k,c0=some k->code.length<=k) :
  ∃ (x y:Int) (l:List Event) (a:Pq) (c:Nq) (h':Heap) (E:List Nat),Ai lo 13 [.sl 1 a0 code.length c0] h=some (.tup [Iv x,Iv y,.sl 6 a l.length c],h')/\REvents h' [.sl 6 a l.length c] l E/\(∀ e∈l,e.text.size<=1048576)/\l.length<=1048576/\(1<=y/\y<=4)/\Mv h [] h' []:=by
 obtain ⟨b,h1,e1,r1,m1⟩:=Yl hs hF hl hn hcap;have l1:=zcw hl m1.le;obtain ⟨n0,s0,l,a,c,h2,E,e2,hn0,hs0,re,ht,hl6,r2,m2⟩:=Tu r1 (by omega) l1;obtain ⟨v,h3,e3,_,_,r3,m3⟩:=pick r2 (by omega) 16;have hbE:b∉E:=by have:=m2.nd;rw[zcE] at this;exact this.1
 have re3:=m3.keep revents_ok re (λy hy hm=>by rw[zcQ] at hm;exact hbE (hm ▸ hy));have ht':∀ e∈l,e.text.size<=1048576:=λe he=>by have:=ht e he;omega
 have m13:Mv h [] h3 []:=(m1.trans (m2.lean (F'' := [b]) (by simp) (by simp))).trans m3 |>.drop
 by_cases hv:v=0
 ·obtain ⟨x,h4,e4,_,r4,m4⟩:=HA (e:=3) [0,5] (rows := [[Iv 0],[Iv 5]]) (len:=2) (cc:=some 2) r3 (by omega) rfl rfl (by decide);refine ⟨x,s0,l,a,c,h4,E,HI ?_,m4.keep revents_ok re3 (λy hy hm=>by rw[zcQ] at hm;exact hbE (hm ▸ hy)),ht',by omega,by omega,?_⟩
  ·rw[e1,Ac,zcd,e2,Ac,Gn,Aa,Ab,Aa,Ab,Aa,Af,Ag,e3,Ac,Ab,hv,HE,Am,e4,Ac,Ab]
  ·exact (((m1.trans (m2.lean (F'' := [b]) (by simp) (by simp))).trans m3).trans m4).drop
 ·refine ⟨n0,s0,l,a,c,h3,E,HI ?_,re3,ht',by omega,by omega,m13⟩;rw[e1,Ac,zcd,e2,Ac,Gn,Aa,Ab,Aa,Ab,Aa,Af,Ag,e3,Ac,Ab,show (v==(0:Int))=false by simpa using hv,Av]
end


section
variable {h:Heap}
theorem zb4 {n t:Nat}{xs:List V} (hu:Tryz.prog.underlying t=some (.int .u8)) (hx:TV Tryz.prog h (n+1) t xs):∃ u:UInt8,xs=zcg u:=by
 simp only[TV,hu] at hx;obtain ⟨i,rfl,h2⟩:=hx;have e1:IntKind.u8.min=0:=by decide
 have e2:IntKind.u8.max=255:=by decide
 simp only[Lit.wf,CA,decide_eq_true_eq,e1,e2] at h2;refine ⟨UInt8.ofNat i.toNat,?_⟩;unfold zcg;rw[UInt8.toNat_ofNat',Nat.mod_eq_of_lt (by omega),show ((i.toNat:Nat):Int)=i by omega]
theorem HF {n:Nat}{x:V} (hx:ArgV Tryz.prog h (n+2) 22 x):∃ (a:Pq) (c:Nq) (l:List UInt8) (F:List Nat),x = .sl 1 a l.length c/\RBytes h [.sl 1 a l.length c] l F/\(∀ y∈F,y<h.length)/\∀ k,c=some k->l.length<=k:=by
 have hx2:TV Tryz.prog h (n+2) 22 [x]:=by unfold ArgV at hx;rw[Tryz.underlying22] at hx;exact hx
 have hx3:=hx2;simp only[TV,Tryz.underlying22] at hx3;obtain ⟨a,c,rs,e,⟨_,hcap⟩,_⟩:=hx3;injection e with e _;subst e;obtain ⟨l,F,h1,_⟩:=zbE (El:=flat zcg) (bd:=λ_=>True) (ee:=0) (R:=1) Tryz.underlying22 (by kernel_rfl) (λrow hr=>by obtain ⟨t,rfl⟩:=zb4 (n:=n) Tryz.underlying5 hr;exact ⟨t,[],⟨rfl,rfl⟩,trivial⟩) hx2;have hv:=h1.val;have hc:Tryz.prog.cellsOf 5=1:=by kernel_rfl
 rw[hv,hc] at h1;exact ⟨a,c,l,F,by rw[hv,hc],h1,(Sli.ok DN).bd _ _ _ _ h1,λk hk=>by rw[<- hv];exact hcap k hk⟩
end


section
variable {lo:Nat}{ro ro':Bool}{h:Heap}{F F':List Nat}
theorem zbr {p:Place}{a1 a2 a3 a1' a2' a3':Pq}{c1 c2 c3 c1' c2' c3':Nq} (h1:RPlace ro h (p.cs a1 c1 a2 c2 a3 c3) p F) (h2:RPlace ro' h (p.cs a1' c1' a2' c2' a3' c3') p F') (hn:Hp p) :
  Ai lo 39 [.agg (p.cs a1 c1 a2 c2 a3 c3),.agg (p.cs a1' c1' a2' c2' a3' c3')] h=some (.bool true,h):=by
 obtain ⟨n1,n2,n3⟩:=hn;have n3':=n3.1;obtain ⟨G1,G2,G3,_,p1,p2,p3⟩:=h1.cells;obtain ⟨G1',G2',G3',_,q1,q2,q3⟩:=h2.cells;refine Ru (h':=h) ?_;rw[HE,Am,HE,Am,zcf,Am,zbs p1 q1 n1,Ac,Ao,Am,Rh p2 q2 n2,Ac,Ao,Am,HE,Am];refine (FM (n:=p.got.length) (λi=>C2 h.length false (i:Nat) p.me p.clock a1 p.chain.length c1 a2 p.log.length c2 a3 p.got.length c3 p.fell p.me p.clock a1' p.chain.length c1' a2' p.log.length c2' a3' p.got.length c3' p.fell h) λi hi=>?_).trans ?_
 ·obtain ⟨o,s,b1,d1,G,ha,ho,es,hp,_⟩:=p3.get hi;obtain ⟨o',s',b1',d1',G',ha',ho',es',hp',_⟩:=q3.get hi;rw[C2.e,Ak (by omega),Ae hi,ha,Ad,Bb,ho,Ad,Aa,Ag,es,Ae hi,ha',Ad,ho',Ad,Aa,Ag,es',Rh hp hp' (n3.2 _ (zcv hi)),Ac,Ao,Am,Ar (show i<9223372036854775807 by omega)]
 ·rw[C2.e,Aj (by omega)]
end


section
variable {lo:Nat}{ro ro':Bool}{h:Heap}{F F':List Nat}{a a':Pq}{c c':Nq}
theorem zbV {l:List Done} (h1:RDones ro h [.sl 5 a l.length c] l F) (h2:RDones ro' h [.sl 5 a' l.length c'] l F') (hn:l.length<=1048576):Ai lo 10 [.sl 5 a l.length c,.sl 5 a' l.length c'] h=some (.bool true,h):=by
 refine So (h':=h) ?_;rw[HE,Am];refine (FM (n:=l.length) (λi=>Dz h.length a l.length c a' l.length c' false (i:Nat) h) λi hi=>?_).trans ?_
 ·obtain ⟨o,rfl,ho⟩:=h1.get hi;obtain ⟨o',rfl,ho'⟩:=h2.get hi;rw[Dz.e,Ak (by omega),Ae hi,Ad,Bb,ho,Ad,Aa,Ab,Aa,Ab,Aa,Ab,Aa,Ab,Aa,Ab,Ag,Ae hi,Ad,ho',Ad,Aa,Ab,Aa,Ab,Aa,Ab,Aa,Ab,Aa,Ab,Ag];simp only[HE,zeg,Am,Ar (show i<9223372036854775807 by omega)]
 ·rw[Dz.e,Aj (by omega)]
theorem Lq {w:World}{a1 a2 a3 a4 a1' a2' a3' a4':Pq}{c1 c2 c3 c4 c1' c2' c3' c4':Nq} (h1:RWorldN ro h (w.cs a1 c1 a2 c2 a3 c3 a4 c4) w F) (h2:RWorldN ro' h (w.cs a1' c1' a2' c2' a3' c3' a4' c4') w F') (hn:Ia w) :
  Ai lo 15 [.agg (w.cs a1 c1 a2 c2 a3 c3 a4 c4),.agg (w.cs a1' c1' a2' c2' a3' c3' a4' c4')] h=some (.bool true,h):=by
 obtain ⟨⟨n1,n1'⟩,⟨n2,n2'⟩,⟨n3,n3'⟩,n4⟩:=hn;obtain ⟨_,_,_,_,_,_,_,_,F1,F2,F3,F4,q,_,r1,r2,r3,r4⟩:=h1;obtain ⟨_,_,_,_,_,_,_,_,F1',F2',F3',F4',q',_,r1',r2',r3',r4'⟩:=h2;injection q with q1 q;injection q1 with _ x1 _ y1;subst x1;subst y1;injection q with q2 q;injection q2 with _ x2 _ y2;subst x2;subst y2;injection q with q3 q;injection q3 with _ x3 _ y3;subst x3;subst y3;injection q with q4 q;injection q4 with _ x4 _ y4;subst x4;subst y4;injection q' with q1 q';injection q1 with _ x1 _ y1;subst x1;subst y1;injection q' with q2 q';injection q2 with _ x2 _ y2;subst x2;subst y2;injection q' with q3 q';injection q3 with _ x3 _ y3;subst x3;subst y3;injection q' with q4 q';injection q4 with _ x4 _ y4;subst x4;subst y4;refine Rs (h':=h) ?_;rw[HE,Am,HE,Am,HE,Am,zbV r4 r4' n4,Ac,Ao,Am];refine (FM (n:=w.places.length) (λi=>C0 h.length false (i:Nat) a1 w.places.length c1 a2 w.sess.length c2 a3 w.net.length c3 a4 w.hist.length c4 a1' w.places.length c1' a2' w.sess.length c2' a3' w.net.length c3' a4' w.hist.length c4' h) λi hi=>?_).trans ?_
 ·obtain ⟨o,s1,s2,s3,x1,y1,x2,y2,x3,y3,J1,J2,J3,ha,ho,_,_,_,_,es1,es2,es3,g1,g2,g3,_⟩:=r1.get hi;obtain ⟨o',t1,t2,t3,z1,w1,z2,w2,z3,w3,J1',J2',J3',ha',ho',_,_,_,_,et1,et2,et3,g1',g2',g3',_⟩:=r1'.get hi;have e5:=zbr (lo:=h.length) (p:=w.places[i]) ⟨_,_,_,J1,J2,J3,rfl,rfl,g1,g2,g3⟩ ⟨_,_,_,J1',J2',J3',rfl,rfl,g1',g2',g3'⟩ (n1' _ (zcv hi));simp only[Place.cs] at e5;rw[C0.e,Ak (by omega),Ae hi,ha,Ad,Bb,ho,Ad,Aa,Ab,Aa,Ab,Aa,es1,Aa,es2,Aa,es3,Aa,AM,Ag,Ae hi,ha',Ad,ho',Ad,Aa,Ab,Aa,Ab,Aa,et1,Aa,et2,Aa,et3,Aa,AM,Ag,e5,Ac,Ao,Am,Ar (by omega)]
 rw[C0.e,Aj (by omega)];refine (FM (n:=w.sess.length) (λi=>CZ h.length false (i:Nat) a1 w.places.length c1 a2 w.sess.length c2 a3 w.net.length c3 a4 w.hist.length c4 a1' w.places.length c1' a2' w.sess.length c2' a3' w.net.length c3' a4' w.hist.length c4' h) λi hi=>?_).trans ?_
 ·obtain ⟨o,v,x1,y1,J,ha,ho,_,_,es,hp,_⟩:=r2.get hi;obtain ⟨o',v',x1',y1',J',ha',ho',_,_,es',hp',_⟩:=r2'.get hi;rw[CZ.e,Ak (by omega),Ae hi,ha,Ad,Bb,ho,Ad,Aa,Ab,Aa,es,Aa,Ab,Aa,Ab,Aa,Ab,Ag,Ae hi,ha',Ad,ho',Ad,Aa,Ab,Aa,es',Aa,Ab,Aa,Ab,Aa,Ab,Ag,HE,Am];simp only[HE,zeg,Am];rw[W0 hp hp' (n2' _ (zcv hi)),Ac,Ao,Am,Ar (by omega)]
 rw[CZ.e,Aj (by omega)];refine (FM (n:=w.net.length) (λi=>CY h.length false (i:Nat) a1 w.places.length c1 a2 w.sess.length c2 a3 w.net.length c3 a4 w.hist.length c4 a1' w.places.length c1' a2' w.sess.length c2' a3' w.net.length c3' a4' w.hist.length c4' h) λi hi=>?_).trans ?_
 ·obtain ⟨o,v,x1,y1,J,ha,ho,es,hp,_⟩:=r3.get hi;obtain ⟨o',v',x1',y1',J',ha',ho',es',hp',_⟩:=r3'.get hi;have e5:=zah (lo:=h.length) (v:=w.net[i].ver) hp hp' (n3' _ (zcv hi)).1;simp only[Ver.cs] at e5;rw[CY.e,Ak (by omega),Ae hi,ha,Ad,Bb,ho,Ad,Aa,Ab,Aa,Ab,Aa,Ab,Aa,Ab,Aa,Ab,Aa,Ab,Aa,es,Aa,BH,Aa,AM,Ag,Ae hi,ha',Ad,ho',Ad,Aa,Ab,Aa,Ab,Aa,Ab,Aa,Ab,Aa,Ab,Aa,Ab,Aa,es',Aa,BH,Aa,AM,Ag,HE,Am,HE,Am,HE,Am,e5,Ac,Ao,Am,Ar (by omega)]
 rw[CY.e,Aj (by omega)]
end


section
variable {lo:Nat}{h:Heap}{a:Pq}{c:Nq}{E F:List Nat}{x y:Int}{l:List Event}
theorem UZ {k:Nat}:Ec x y=true->∃ r,Ds x y l=E2 (Ds x y (l.take k)) r:=λhok=>by unfold Ds;rw[hok,cond_true,cond_true];exact Zq
theorem Yg {k:Nat}:More (Ds x y (l.take k)) (Ds x y l):=by
 cases hok:Ec x y with
 | true =>obtain ⟨r,hr⟩:=UZ (l:=l) (k:=k) hok;rw[hr];exact Yi (Fh hok)
 | false=>unfold Ds;rw[hok];exact More.refl
theorem QC {far:Nat} (re:REvents h [.sl 6 a l.length c] l E) (ht:∀ e∈l,e.text.size<=1048576) (hl6:l.length<=1048576) (hl:lo<=h.length) :
  ∃ k a1 c1 a2 c2 a3 c3 a4 c4 b1 d1 b2 d2 b3 d3 b4 d4 h' F1 F2,Ai lo 18 [Iv x,Iv y,.sl 6 a l.length c,Iv (far:Nat)] h=some (.tup [.agg ((Ds x y (l.take k)).cs a1 c1 a2 c2 a3 c3 a4 c4),.agg ((Ds x y l).cs b1 d1 b2 d2 b3 d3 b4 d4)],h') /\
   RWorldN false h' ((Ds x y (l.take k)).cs a1 c1 a2 c2 a3 c3 a4 c4) (Ds x y (l.take k)) F1/\RWorldN false h' ((Ds x y l).cs b1 d1 b2 d2 b3 d3 b4 d4) (Ds x y l) F2/\Mv h [] h' []:=by
 obtain ⟨k,hk⟩:∃ k,k=far % (l.length+1):=⟨_,rfl⟩;have hkl:k<=l.length:=by have:=zeh far (show 0<l.length+1 by omega);omega
 have hlen:(l.take k).length=k:=by rw[zcS];omega
 obtain ⟨E',re'⟩:=Sli.pre re hkl;replace re':REvents h [.sl 6 a (l.take k).length c] (l.take k) E':=by rw[hlen];exact re'
 obtain ⟨raw1,r1,h1,F1,e1,n1,q1,m1⟩:=Jt (lo:=lo) (x:=x) (y:=y) re' (λe he=>ht e (zdO he)) (by rw[zcS];omega) hl;obtain ⟨raw2,r2,h2,F2,e2,n2,q2,m2⟩:=Jt (lo:=lo) (x:=x) (y:=y) (m1.drop.keep0 revents_ok re) ht hl6 (zcw hl m1.le);rw[hlen] at e1;obtain ⟨s1,s2,s3,s4,a1,c1,a2,c2,a3,c3,a4,c4,rfl,es1,es2,es3,es4,rfl⟩:=n1;obtain ⟨t1,t2,t3,t4,b1,d1,b2,d2,b3,d3,b4,d4,rfl,et1,et2,et3,et4,rfl⟩:=n2;refine ⟨k,a1,c1,a2,c2,a3,c3,a4,c4,b1,d1,b2,d2,b3,d3,b4,d4,h2,F1,F2,Uv ?_,m2.keep0 Dr q1,q2,m1.drop.trans m2.drop⟩;have hw:AL ((l.length:Int)+1)=(l.length:Int)+1:=wr (by omega) (by omega);have htm:((far:Nat):Int).tmod ((l.length:Int)+1)=(k:Nat):=by rw[hk];exact (Int.ofNat_tmod far (l.length+1)).symm
 rw[hw,DJ (by omega),htm,E1 re hkl,e1,Ac,AO,Aa,es1,Aa,es2,Aa,es3,Aa,es4,Ag,e2,Ac,AO,Aa,et1,Aa,et2,Aa,et3,Aa,et4,Ag]
end
section
variable {h:Heap}
end


variable {w:World}
structure Kept (p q:Place):Prop where
 stab:Bs (AR p.chain) (AR q.chain)=true
 clock:p.clock<=q.clock
 log:∃ r,q.log=p.log++r
 len:q.got.length=p.got.length
 got:∀ (k:Nat) (g:List Ver),p.got[k]?=some g->∃ r,q.got[k]?=some (g++r)
section
variable {p q r:Place}
theorem Kept.refl:Kept p p:=⟨CU,zea _,⟨[],by simp⟩,rfl,λk g hg=>⟨[],by simpa using hg⟩⟩
theorem Kept.of (h1:Bs (AR p.chain) (AR q.chain)=true) (h2:p.clock<=q.clock) (h3:∃ r,q.log=p.log++r) (h4:q.got=p.got):Kept p q:=⟨h1,h2,h3,by rw[h4],λk g hg=>⟨[],by rw[h4];simpa using hg⟩⟩
theorem Kept.trans (hp:As p=true) (hq:As q=true) (h1:Kept p q) (h2:Kept q r):Kept p r:=by obtain ⟨r1,e1⟩:=h1.log;obtain ⟨r2,e2⟩:=h2.log;refine ⟨IP (by rw[(D5 hp).four.1,(D5 hq).four.1];exact zcz 4) h1.stab h2.stab,Int.le_trans h1.clock h2.clock,⟨r1++r2,by rw[e2,e1,zcO]⟩,h2.len.trans h1.len,λk g hg=>?_⟩;obtain ⟨s1,g1⟩:=h1.got k g hg;obtain ⟨s2,g2⟩:=h2.got k _ g1;exact ⟨s1++s2,by rw[g2,zcO]⟩
theorem Ld (h1:Bs (AR p.chain) (AR q.chain)=true) (h2:p.clock<=q.clock) (h3:q.log=p.log) (h4:q.got=p.got):Kept p (BF q):=by obtain ⟨s,hs⟩:=Kw (p:=q);exact .of h1 h2 ⟨s,by rw[hs,h3]⟩ h4
theorem Yz {e:Event} (hp:As p=true) (h:C6 p e=some q):Kept p q:=by
 have hc:=D5 hp;unfold C6 at h;simp only[cond_eq_ite] at h
 repeat' split at h
 all_goals first
  | (cases h;done)
  | skip
 ·rename_i _ g
  injection h with h;subst h;unfold D3;rw[g,cond_true];exact Ld (O5 hc g) (zea _) rfl rfl
 ·rename_i _ _ g
  injection h with h;subst h;unfold C9;rw[g,cond_true];unfold Cm at g;rw[CA] at g;obtain ⟨f,hf,g1,g2⟩:=JW g.2;rw[hf,Bb];exact Ld (Pg hc g1 g2) (zea _) rfl rfl
 ·rename_i _ _ _ g
  injection h with h;subst h;refine .of ?_ (zea _) ⟨[],by simp[Jr]⟩ rfl;show Bs (AR p.chain) (AR (Dj p.chain))=true;unfold Dj;rw[g,cond_true,(N8 hc).2.1];exact CU
 ·rename_i _ _ _ g
  injection h with h;subst h;unfold C8;rw[g,cond_true];unfold Kc;split
  ·rename_i v hv
   obtain ⟨v1,_⟩:=MQ hp hv;exact Ld (Mf hc v1) (Qv (t:=v.tag.time)).2.1 rfl rfl
  ·exact Kept.refl
theorem Wx {k:Int}{s:ByteArray}{g:Bool}{l:List Tag} (hp:As p=true) (hw:A6 p k s g l=true):Kept p (Ee p k s g l).1:=by rw[KX hp hw];exact Ld (Mf (D5 hp) (Lc hp hw)) (by show p.clock<=AQ p l;unfold AQ;have:=(Qv (t:=ER l) (c:=p.clock)).2.1;omega) rfl rfl
theorem YA {f a:Int}{v:Ver}:Kept p (Dk p f a v):=by
 unfold Dk;cases D8 p f a v with
 | false=>exact Kept.refl
 | true =>
  rw[cond_true];refine ⟨CU,zea _,⟨[],by simp[GG]⟩,by simp[GG],λk g hg=>?_⟩;show ∃ r,(p.got.set f.toNat (IZ p f.toNat ++ [v]))[k]?=some (g++r);by_cases hk:f.toNat=k
  ·subst hk;have hl:=(Ea hg).1;refine ⟨[v],?_⟩;rw[zcG hl];unfold IZ;rw[hg]
  ·exact ⟨[],by rw[zcA hk,hg];simp⟩
end
structure MoreP (w w':World):Prop where
 len:w'.places.length=w.places.length
 each:∀ (i:Nat) (p:Place),w.places[i]?=some p->∃ q,w'.places[i]?=some q/\Kept p q
theorem MoreP.refl {w:World}:MoreP w w:=⟨rfl,λi p hp=>⟨p,hp,Kept.refl⟩⟩
theorem MoreP.trans {u v w:World} (hu:Good u) (hv:Good v) (h1:MoreP u v) (h2:MoreP v w):MoreP u w:=by refine ⟨h2.len.trans h1.len,λi p hp=>?_⟩;obtain ⟨q,hq,k1⟩:=h1.each i p hp;obtain ⟨r,hr,k2⟩:=h2.each i q hq;exact ⟨r,hr,k1.trans (hu.ok.place i p hp).2 (hv.ok.place i q hq).2 k2⟩
theorem MoreP.same {w':World} (h:w'.places=w.places):MoreP w w':=⟨by rw[h],λi p hp=>⟨p,by rw[h];exact hp,Kept.refl⟩⟩
theorem MoreP.setP {w':World}{k:Nat}{p q:Place} (hp:w.places[k]?=some p) (hk:Kept p q) (h:w'.places=w.places.set k q):MoreP w w':=by
 refine ⟨by rw[h,zc6],λi x hx=>?_⟩;by_cases hik:k=i
 ·subst hik;rw[hp] at hx;injection hx with hx;subst hx;exact ⟨q,by rw[h,zcG (Ea hp).1],hk⟩
 ·exact ⟨x,by rw[h,zcA hik];exact hx,Kept.refl⟩
theorem QU {f:Frame}:MoreP w (HC w f):=by
 unfold HC;split
 ·rename_i p hp
  exact MoreP.setP hp YA rfl
 ·exact MoreP.refl
theorem Z9 {e:Event} (hg:Good w):MoreP w (JX w e):=by
 unfold JX;cases he:CN w e with
 | none=>exact MoreP.refl
 | some w' =>
  rw[zds];unfold CN at he;cases h1:Ah e.kind 1 5 with
  | true =>
   rw[h1,cond_true] at he;unfold CS at he;cases hc:Ah e.at' 0 ((w.sess.length:Int) - 1) with
   | false=>rw[hc] at he;cases he
   | true =>
    rw[hc,cond_true] at he;split at he
    ·rename_i s hs
     unfold Hj EB HG LI at he;cases hk:e.kind==1 with
     | true =>
      rw[hk,cond_true] at he;unfold DF at he;split at he
      ·rename_i p hp
       cases hc2:(!decide (s.wait.time>0)&&(A6 p e.key e.text e.gone s.past&&Ct w 1)) with
       | false=>rw[hc2] at he;cases he
       | true =>rw[hc2,cond_true] at he;injection he with he;subst he;simp only[CA] at hc2;exact MoreP.setP hp (Wx (hg.ok.place _ p hp).2 hc2.2.1) rfl
      ·cases he
     | false =>
      rw[hk,cond_false] at he;simp only[cond_eq_ite] at he
      repeat' split at he
      all_goals first
       | (cases he;done)
       | (injection he with he;subst he;exact MoreP.same rfl)
    ·cases he
  | false =>
   rw[h1,cond_false] at he;cases h2:Ah e.kind 6 9 with
   | true =>
    rw[h2,cond_true] at he;unfold EQ at he;cases hc:Ah e.at' 0 2 with
    | false=>rw[hc] at he;cases he
    | true =>
     rw[hc,cond_true] at he;split at he
     ·rename_i p hp
      rw[zc2] at he;obtain ⟨q,hq,rfl⟩:=he;exact MoreP.setP hp (Yz (hg.ok.place _ p hp).2 hq) rfl
     ·cases he
   | false =>
    rw[h2,cond_false] at he;unfold Kd FT at he;simp only[cond_eq_ite] at he
    repeat' split at he
    all_goals first
     | (cases he;done)
     | (injection he with he;subst he;exact MoreP.same rfl)
     | (injection he with he;subst he;exact QU)
     | (
       injection he with he;subst he;obtain ⟨g1,g2⟩:=QU (w:=setN w (w.net.eraseIdx e.at'.toNat)) (f:=by assumption);exact ⟨g1,g2⟩)
theorem Wn {l:List Event} (hg:Good w):MoreP w (E2 w l) :=
 Qs (λ_=>MoreP.refl) (λ_ _ _ hu hv _ h1 h2=>h1.trans hu hv h2) (λ_ _ h=>Z9 h) hg


section
variable {lo:Nat}{ro:Bool}{h:Heap}{F:List Nat}{x y:Int}{l:List Event}{w:World}{a1 a2 a3 a4 a:Pq}{c1 c2 c3 c4 c:Nq}
theorem RWorldN.parts (h1:RWorldN ro h (w.cs a1 c1 a2 c2 a3 c3 a4 c4) w F):∃ F1 F2 F3 F4,RPlaces ro h [.sl 6 a1 w.places.length c1] w.places F1/\RSesss ro h [.sl 5 a2 w.sess.length c2] w.sess F2/\RFrames ro h [.sl 9 a3 w.net.length c3] w.net F3/\RDones ro h [.sl 5 a4 w.hist.length c4] w.hist F4:=by obtain ⟨_,_,_,_,_,_,_,_,F1,F2,F3,F4,q,_,r⟩:=h1;injection q with q1 q;injection q1 with _ x1 _ y1;subst x1;subst y1;injection q with q2 q;injection q2 with _ x2 _ y2;subst x2;subst y2;injection q with q3 q;injection q3 with _ x3 _ y3;subst x3;subst y3;injection q with q4 q;injection q4 with _ x4 _ y4;subst x4;subst y4;exact ⟨F1,F2,F3,F4,r⟩
theorem RPlaces.clock {l:List Place}{n k:Nat} (hs:RPlaces ro h [.sl 6 a n c] l F) (hk:k<l.length):∃ o,a=some o/\ld h o.1 (o.2+k) 1 1=some [Iv l[k].clock]:=by obtain ⟨o,row,G,h1,h2,hv,_⟩:=hs.read hk;obtain ⟨_,_,_,_,_,_,_,_,_,_,_,_,rfl,_⟩:=hv.form;exact ⟨o,h1,by rw[h2];rfl⟩
theorem Qp {k:Nat}:MoreP (Ds x y (l.take k)) (Ds x y l):=by
 cases hok:Ec x y with
 | true =>obtain ⟨r,hr⟩:=UZ (l:=l) (k:=k) hok;rw[hr];exact Wn (Fh hok)
 | false=>unfold Ds;rw[hok];exact MoreP.refl
theorem JL:∀ p∈(Ds x y l).places,As p=true:=λp hp=>by
 cases hok:Ec x y with
 | true =>obtain ⟨i,hi⟩:=zcT.1 hp;exact ((Fh hok).ok.place i p hi).2
 | false=>unfold Ds at hp;rw[hok] at hp;cases hp
end
theorem MP {h:Heap}{F:List Nat}{a0 a1:Pq}{c0 c1:Nq}{n1:Nat}{code:List UInt8} (hs:RBytes h [.sl 1 a0 code.length c0] code F) (hF:∀ y∈F,y<h.length) (hcap:∀ k,c0=some k->code.length<=k) :
  ∃ h',Ai h.length 6 [.sl 1 a0 code.length c0,.sl 1 a1 n1 c1] h=some (.bool true,h'):=by
 suffices hk:∃ h',_=some (V.bool true,h') from by obtain ⟨h',e⟩:=hk;exact ⟨h',KU e⟩
 by_cases hbig:(code.length:Int)>1048576
 ·rw[Ak hbig];exact ⟨h,rfl⟩
 rw[Aj hbig];by_cases hbig2:(n1:Int)>1048576
 ·rw[Ak hbig2];exact ⟨h,rfl⟩
 rw[Aj hbig2];obtain ⟨x,y,l,a,c,h1,E,e1,re,ht,hl6,hy,m1⟩:=Hv (lo:=h.length) hs hF (zcz _) (by omega) hcap;obtain ⟨k,x1,y1,x2,y2,x3,y3,x4,y4,b1,d1,b2,d2,b3,d3,b4,d4,h2,F1,F2,e2,q1,q2,m2⟩:=QC (lo:=h.length) (x:=x) (y:=y) (far:=n1) re ht hl6 m1.le;obtain ⟨raw3,r3,h3,F3,e3,n3,q3,m3⟩:=Ii (lo:=h.length) (x:=x) (y:=y) (m2.keep0 revents_ok re) ht hl6 (zcw m1.le m2.le);have hm:=Qp (x:=x) (y:=y) (l:=l) (k:=k);have hpu:=JL (x:=x) (y:=y) (l:=l.take k);have hpw:=JL (x:=x) (y:=y) (l:=l);have hsm:=JK (x:=x) (y:=y) (l:=l);have hsm':=JK (x:=x) (y:=y) (l:=l.take k);generalize Ds x y l=w at *
 generalize Ds x y (l.take k)=u at *
 obtain ⟨t1,t2,t3,t4,z1,w1,z2,w2,z3,w3,z4,w4,rfl,et1,et2,et3,et4,rfl⟩:=n3;have q1':=m3.keep0 Dr q1;have q2':=m3.keep0 Dr q2;have e4:=Lq (lo:=h.length) q2' q3 hsm;simp only[World.cs] at e2 e4;rw[e1,Ac,Gn,Aa,Ab,Aa,Ab,Aa,Af,Ag,e2,Ac,Gn,Aa,AO,Aa,Af,Aa,Af,Aa,Af,Aa,Af,Ag,Aa,AO,Aa,Af,Aa,Af,Aa,Af,Aa,Af,Ag,Ag,e3,Ac,AO,Aa,et1,Aa,et2,Aa,et3,Aa,et4,Ag,e4,Ac,Ao,Am];obtain ⟨G1,G2,G3,G4,p1,p2,p3,p4⟩:=q1'.parts;obtain ⟨J1,J2,J3,J4,v1,v2,v3,v4⟩:=q2'.parts;have l3:h.length<=h3.length:=zcw (zcw m1.le m2.le) m3.le;have hlen:=hm.len;have n1:=hsm.1.1;have loop:∀ m i hh,m+i=w.places.length->Mv h3 [] hh []->∃ h',BC h.length false (i:Nat) x1 u.places.length y1 x2 u.sess.length y2 x3 u.net.length y3 x4 u.hist.length y4 b1 w.places.length d1 b2 w.sess.length d2 b3 w.net.length d3 b4 w.hist.length d4 hh=some (.bool true,h'):=by
  intro m;induction m with
  | zero=>intro i hh hi hm;exact ⟨hh,by rw[BC.e,Aj (by omega)]⟩
  | succ m ih =>
   intro i hh hi hmv;have hil:i<w.places.length:=by omega
   have hiu:i<u.places.length:=by omega
   have hl:=zcw l3 hmv.le;obtain ⟨q,hq,hk⟩:=hm.each i _ (Cz hiu);rw[Cz hil] at hq;injection hq with hq;subst hq;have pu:=hpu _ (zcv hiu);have pw:=hpw _ (zcv hil);obtain ⟨o,_,_,_,z1,t1,_,_,_,_,_,_,_,ha,_,_,ho,_,_,es,_,_,g1,_⟩:=(hmv.keep0 rplaces_ok p1).get hiu;obtain ⟨s1,f1,h5,K1,e5,r5,m5⟩:=Ju (lo:=hh.length) g1 (zcz _) (hsm'.1.2 _ (zcv hiu)).1 (D5 pu);have mm5:=hmv.trans m5.drop;obtain ⟨o',_,_,_,z2,t2,_,_,_,_,_,_,_,ha',_,_,ho',_,_,es',_,_,g2,_⟩:=(mm5.keep0 rplaces_ok v1).get hil;obtain ⟨s2,f2,h6,K2,e6,r6,m6⟩:=Ju (lo:=h.length) g2 (zcw l3 mm5.le) (hsm.1.2 _ (zcv hil)).1 (D5 pw);have mm6:=mm5.trans m6.drop;obtain ⟨q1,hq1,k1⟩:=RPlaces.clock (mm6.keep0 rplaces_ok p1) hiu;obtain ⟨q2,hq2,k2⟩:=RPlaces.clock (mm6.keep0 rplaces_ok v1) hil;have hck:=hk.clock;obtain ⟨h',e'⟩:=ih (i+1) h6 (by omega) mm6;refine ⟨h',?_⟩;rw[BC.e,Ak (by omega),Ae hiu,ha,Ad,Bb,ho,Ad,Aa,es,Ag,e5,Ac,AO,Aa,Af,Ag,Ae hil,ha',Ad,ho',Ad,Aa,es',Ag,e6,Ac,AO,Aa,Af,Ag,Kf (m6.keep0 rtags_ok r5) r6 (Hx (D5 pu)) (Hx (D5 pw)),hk.stab,Ac,Ao,Am,<- ha,<- ha',Ae hiu,hq1,Ad,k1,Ad,Aa,Ag,Ab,Ae hil,hq2,Ad,k2,Ad,Aa,Ag,Ab,Aj (by omega),Ar (by omega),<- hq1,<- hq2];exact e'
 exact loop w.places.length 0 h3 (by omega) Mv.nil
theorem main_FnWorldStable {h:Heap}{x y:V} (hx:ArgV Tryz.prog h 12 22 x) (hy:ArgV Tryz.prog h 12 22 y):∃ h',Ai h.length 6 [x,y] h=some (.bool true,h'):=by obtain ⟨a,c,l,F,rfl,h1,h2,h3⟩:=HF (n:=10) hx;obtain ⟨a',c',l',F',rfl,_,_,_⟩:=HF (n:=10) hy;exact MP h1 h2 h3


section
variable {x y:Int}{l:List Event}
theorem Wh:(Ds x y l).places.length<=3:=by
 cases hok:Ec x y with
 | true=>exact Nat.le_of_eq (Fh hok).ok.p3
 | false=>unfold Ds;rw[hok,cond_false];decide
theorem Wj:∀ (i:Nat) (p:Place) (k:Nat) (g:List Ver),(Ds x y l).places[i]?=some p->p.got[k]?=some g->∃ r,EE (Ds x y l).places k=g++r:=λi p k g hp hg=>by
 cases hok:Ec x y with
 | true=>exact (Fh hok).ok.heard i p k g hp hg
 | false=>unfold Ds at hp;rw[hok] at hp;cases hp
end
theorem Pr {h:Heap}{F:List Nat}{a0 a1:Pq}{c0 c1:Nq}{n1:Nat}{code:List UInt8} (hs:RBytes h [.sl 1 a0 code.length c0] code F) (hF:∀ y∈F,y<h.length) (hcap:∀ k,c0=some k->code.length<=k) :
  ∃ h',Ai h.length 5 [.sl 1 a0 code.length c0,.sl 1 a1 n1 c1] h=some (.bool true,h'):=by
 suffices hk:∃ h',_=some (V.bool true,h') from by obtain ⟨h',e⟩:=hk;exact ⟨h',Mi e⟩
 by_cases hbig:(code.length:Int)>1048576
 ·rw[Ak hbig];exact ⟨h,rfl⟩
 rw[Aj hbig];by_cases hbig2:(n1:Int)>1048576
 ·rw[Ak hbig2];exact ⟨h,rfl⟩
 rw[Aj hbig2];obtain ⟨x,y,l,a,c,h1,E,e1,re,ht,hl6,hy,m1⟩:=Hv (lo:=h.length) hs hF (zcz _) (by omega) hcap;obtain ⟨k,x1,y1,x2,y2,x3,y3,x4,y4,b1,d1,b2,d2,b3,d3,b4,d4,h2,F1,F2,e2,q1,q2,m2⟩:=QC (lo:=h.length) (x:=x) (y:=y) (far:=n1) re ht hl6 m1.le;obtain ⟨raw3,r3,h3,F3,e3,n3,q3,m3⟩:=Ii (lo:=h.length) (x:=x) (y:=y) (m2.keep0 revents_ok re) ht hl6 (zcw m1.le m2.le);have hm:=Qp (x:=x) (y:=y) (l:=l) (k:=k);have hpu:=JL (x:=x) (y:=y) (l:=l.take k);have hpw:=JL (x:=x) (y:=y) (l:=l);have hhe:=Wj (x:=x) (y:=y) (l:=l);have h3p:=Wh (x:=x) (y:=y) (l:=l);have hsm:=JK (x:=x) (y:=y) (l:=l);have hsm':=JK (x:=x) (y:=y) (l:=l.take k);generalize Ds x y l=w at *
 generalize Ds x y (l.take k)=u at *
 obtain ⟨t1,t2,t3,t4,z1,w1,z2,w2,z3,w3,z4,w4,rfl,et1,et2,et3,et4,rfl⟩:=n3;have q1':=m3.keep0 Dr q1;have q2':=m3.keep0 Dr q2;have e4:=Lq (lo:=h.length) q2' q3 hsm;simp only[World.cs] at e2 e4;rw[e1,Ac,Gn,Aa,Ab,Aa,Ab,Aa,Af,Ag,e2,Ac,Gn,Aa,AO,Aa,Af,Aa,Af,Aa,Af,Aa,Af,Ag,Aa,AO,Aa,Af,Aa,Af,Aa,Af,Aa,Af,Ag,Ag,e3,Ac,AO,Aa,et1,Aa,et2,Aa,et3,Aa,et4,Ag,e4,Ac,Ao,Am];obtain ⟨G1,G2,G3,G4,p1,p2,p3,p4⟩:=q1'.parts;obtain ⟨J1,J2,J3,J4,v1,v2,v3,v4⟩:=q2'.parts;have hlen:=hm.len;have n1:=hsm.1.1;refine ⟨h3,?_⟩;refine (FM (n:=w.places.length) (λi=>BX h.length false (i:Nat) x1 u.places.length y1 x2 u.sess.length y2 x3 u.net.length y3 x4 u.hist.length y4 b1 w.places.length d1 b2 w.sess.length d2 b3 w.net.length d3 b4 w.hist.length d4 h3) λi hil=>?_).trans ?_
 ·have hiu:i<u.places.length:=by omega
  obtain ⟨q,hq,hk⟩:=hm.each i _ (Cz hiu);rw[Cz hil] at hq;injection hq with hq;subst hq;obtain ⟨r,hr⟩:=hk.log;have hlu:u.places[i].log.length<=w.places[i].log.length:=by rw[hr,zcP];omega
  have sml:=(hsm.1.2 _ (zcv hil)).2.1;have smu:=(hsm'.1.2 _ (zcv hiu)).2.1;have smg:=λk hk=>(hsm.1.2 _ (zcv (l:=w.places) (n:=k) hk)).2.2
  obtain ⟨o,_,_,_,_,_,z2,t2,_,_,_,_,_,ha,_,_,_,ho,_,_,es,_,_,g2,_⟩:=p1.get hiu;obtain ⟨o',_,_,_,_,_,z2',t2',_,_,_,_,_,ha',_,_,_,ho',_,_,es',_,_,g2',_⟩:=v1.get hil;obtain ⟨Q1,re1⟩:=Sli.pre g2' hlu;rw[show w.places[i].log.take u.places[i].log.length=u.places[i].log by rw[hr,List.take_left]] at re1;rw[BX.e,Ak (by omega),Ae hil,ha',Ad,Bb,ho',Ad,Aa,Ag,es',Ae hiu,ha,Ad,ho,Ad,Aa,Ag,es,Aj (by omega),Ae hiu,Ad,ho,Ad,Aa,Ag,es,E1 g2' hlu,Ae hiu,Ad,ho,Ad,Aa,Ag,es,Rh re1 g2 smu,Ac,Ao,Am,<- ha,<- ha'];refine (FM (n:=w.places.length) (λk=>BW h.length false (i:Nat) z2' w.places[i].log.length t2' (k:Nat) x1 u.places.length y1 x2 u.sess.length y2 x3 u.net.length y3 x4 u.hist.length y4 b1 w.places.length d1 b2 w.sess.length d2 b3 w.net.length d3 b4 w.hist.length d4 h3) λk hkl=>?_).trans ?_
  ·have hku:k<u.places.length:=by omega
   obtain ⟨q,hq,hk⟩:=hm.each k _ (Cz hku);rw[Cz hkl] at hq;injection hq with hq;subst hq;have gw:=(AI (hpw _ (zcv hkl))).2.2.1;have gu:=(AI (hpu _ (zcv hku))).2.2.1;have hig:i<w.places[k].got.length:=by omega
   have hiv:i<u.places[k].got.length:=by omega
   obtain ⟨s,hs⟩:=hhe k _ i _ (Cz hkl) (Cz hig);rw[GY hil] at hs;have hgl:w.places[k].got[i].length<=w.places[i].log.length:=by rw[hs,zcP];omega
   obtain ⟨s2,hs2⟩:=hk.got i _ (Cz hiv);rw[Cz hig] at hs2;injection hs2 with hs2;have hgu:u.places[k].got[i].length<=w.places[k].got[i].length:=by rw[hs2,zcP];omega
   obtain ⟨e1,_,_,_,_,_,_,_,z3,t3,_,_,_,ka,_,_,_,_,ko,_,_,ks,_,_,g3,_⟩:=p1.get hku;obtain ⟨e1',_,_,_,_,_,_,_,z3',t3',_,_,_,ka',_,_,_,_,ko',_,_,ks',_,_,g3',_⟩:=v1.get hkl;obtain ⟨f1,_,z4,t4,_,fa,fo,fs,g4,_⟩:=g3.get hiv;obtain ⟨f1',_,z4',t4',_,fa',fo',fs',g4',_⟩:=g3'.get hig;obtain ⟨Q2,re2⟩:=Sli.pre g2' hgl;rw[show w.places[i].log.take w.places[k].got[i].length=w.places[k].got[i] by rw[hs,List.take_left]] at re2;rw[BW.e,Ak (by omega),Ae hkl,ka',Ad,Bb,ko',Ad,Aa,Ag,ks',Ae hig,fa',Ad,Bb,fo',Ad,Aa,Ag,fs',Aj (by omega),E1 g2' hgl,Rh re2 g4' ((smg k hkl).2 _ (zcv hig)),Ac,Ao,Am,Ae hku,ka,Ad,ko,Ad,Aa,Ag,ks,Ae hiv,fa,Ad,fo,Ad,Aa,Ag,fs,Aj (by omega),Ar (by omega)]
  ·rw[BW.e,Aj (by omega),Ar (by omega)]
 ·rw[BX.e,Aj (by omega)]
theorem main_FnWorldLogs {h:Heap}{x y:V} (hx:ArgV Tryz.prog h 12 22 x) (hy:ArgV Tryz.prog h 12 22 y):∃ h',Ai h.length 5 [x,y] h=some (.bool true,h'):=by obtain ⟨a,c,l,F,rfl,h1,h2,h3⟩:=HF (n:=10) hx;obtain ⟨a',c',l',F',rfl,_,_,_⟩:=HF (n:=10) hy;exact Pr h1 h2 h3


variable {l:List Node}{w w':World}{ds:List Done}
def Je (s:List Ver) (k:Nat) (t:Tag):Prop:=∃ u,s[k]?=some u/\CT u.tag t=false
structure Held (p:Place) (k:Nat) (t:Tag):Prop where
 head:Je (AC p.chain 0) k t
 next:p.fell=false->Je (AC p.chain (A5 p.chain 0)) k t
theorem N1 {s s':List Ver}{k:Nat}{t:Tag} (h:upS s s') (hl:s'.length=s.length) (hn:Je s k t):Je s' k t:=by
 obtain ⟨u,hu,hl2⟩:=hn;have hk:=(Ea hu).1;have hu':=Cz (show k<s'.length by omega);refine ⟨_,hu',?_⟩;rcases h k u _ hu hu' with e | e
 ·rw[<- e];exact hl2
 ·unfold A0 Fu at e;unfold CT at hl2 ⊢;rw[Eb] at hl2 ⊢;simp only[zdh,decide_eq_true_eq,CA,beq_iff_eq] at e;omega
theorem X7 {j i:Nat}{x y:Node} (hx:l[j]?=some x) (hu:upS x.store y.store) (hl:y.store.length=x.store.length):upS (AC l i) (AC (l.set j y) i)/\(AC (l.set j y) i).length=(AC l i).length:=by
 unfold AC;by_cases hij:j=i
 ·subst hij;rw[zcG (Ea hx).1,hx];exact ⟨hu,hl⟩
 ·rw[zcA hij];exact ⟨upS.refl,rfl⟩
theorem Xf {j:Nat}{v:Ver} (i:Nat):upS (AC l i) (AC (FI l j v) i)/\(AC (FI l j v) i).length=(AC l i).length:=by
 unfold FI;split
 ·rename_i x hx
  split
  ·rename_i u hu
   cases hl:A0 u v with
   | false=>exact ⟨upS.refl,rfl⟩
   | true=>exact X7 hx (upS.set hu hl) (by simp)
  ·exact ⟨upS.refl,rfl⟩
 ·exact ⟨upS.refl,rfl⟩
theorem zbg {j:Nat} (i:Nat):AC (E8 l j) i=AC l i:=by
 unfold E8;split
 ·rename_i x hx
  unfold AC;by_cases hij:j=i
  ·subst hij;rw[zcG (Ea hx).1,hx]
  ·rw[zcA hij]
 ·rfl
theorem zaI {k:Nat} (i:Nat):upS (AC l i) (AC (EU l k) i)/\(AC (EU l k) i).length=(AC l i).length:=by
 unfold EU;split
 ·split
  ·have:=Xf (l:=E8 l k) (j:=k+1) (v:=by assumption) i;rw[zbg] at this;exact this
  ·exact ⟨upS.refl,rfl⟩
 ·exact ⟨upS.refl,rfl⟩
section
variable {p q:Place}{k:Nat}{t:Tag}
theorem Held.up (h:Held p k t) (hs:∀ i,upS (AC p.chain i) (AC q.chain i)/\(AC q.chain i).length=(AC p.chain i).length) (hl:q.chain.length=p.chain.length) (hf:q.fell=p.fell):Held q k t:=by refine ⟨N1 (hs 0).1 (hs 0).2 h.head,λhq=>?_⟩;have:=h.next (hf ▸ hq);rw[show A5 q.chain 0=A5 p.chain 0 by unfold A5;rw[hl]];exact N1 (hs _).1 (hs _).2 this
theorem YG (hc:Ch l) (hi:RT l=true):AC l (A5 l 0)=AC l 0:=by
 unfold A5;split
 ·rename_i h
  have h0:=Cz (show 0<l.length by omega);have h1:=Cz (show 0+1<l.length by omega);have hl:=hc.link 0 _ _ h0 h1;unfold RT at hi;rw[zcK] at hi;have hw:=hi _ (zcL h0);rw[decide_eq_true_eq,List.length_eq_zero_iff] at hw;rw[hw] at hl;unfold Ek at hl;injection hl with hl;unfold AC;rw[h1,h0];exact hl
 ·rfl
theorem Held.note (hc:Ch q.chain) (h:Held q k t):Held (BF q) k t:=by
 refine ⟨h.head,λhf=>?_⟩;cases hi:RT q.chain with
 | true =>show Je (AC q.chain (A5 q.chain 0)) k t;rw[YG hc hi];exact h.head
 | false =>have hf:(q.fell && !RT q.chain)=false:=hf;rw[hi,zdm,zdw] at hf;exact h.next hf
theorem YH {e:Event} (hp:As p=true) (h:C6 p e=some q) (hh:Held p k t):Held q k t:=by
 have hc:=D5 hp;unfold C6 at h;simp only[cond_eq_ite] at h
 repeat' split at h
 all_goals first
  | (cases h;done)
  | skip
 ·rename_i _ g
  injection h with h;subst h;unfold D3;rw[g,cond_true];exact (hh.up (q:=Iu p e.num.toNat) (λi=>zaI i) GW rfl).note (hc.pass g)
 ·rename_i _ _ g
  injection h with h;subst h;unfold C9;rw[g,cond_true];unfold Cm at g;rw[CA,zdd] at g;obtain ⟨f,hf,g1,g2⟩:=JW g.2;rw[hf,Bb];refine Held.note (hc.fall g1 g2) ⟨?_,λhq=>by cases hq⟩;show Je (AC (B6 p.chain f) 0) k t;have hn:=hh.next g.1;unfold A5 at hn;rw[if_pos ⟨rfl,g2⟩] at hn;have hg:=IH g1 0;have h0:=Cz (show 0<p.chain.length by omega);have h1:=Cz (show 1<p.chain.length by omega);unfold AC at hn ⊢;rw[hg];by_cases e0:f=0
  ·subst e0;simp only[h1] at hn;rw[if_neg (by omega)];simpa [h1] using hn
  ·have hd:=hh.head;unfold AC at hd;simp only[h0] at hd;by_cases e1:0+1=f
   ·rw[if_pos e1];simpa [h0] using hd
   ·rw[if_neg e1,if_pos (by omega)];simpa [h0] using hd
 ·rename_i _ _ _ g
  injection h with h;subst h;have hpos:=hc.pos;have hj:(Dj p.chain)=p.chain ++ [⟨(p.chain[p.chain.length - 1]'(by omega)).store,[]⟩]:=by unfold Dj;rw[g,cond_true,Fm (by omega)]
  have hs:∀ i,i<p.chain.length->AC (Dj p.chain) i=AC p.chain i:=λi hi=>by unfold AC;rw[hj,zcC hi]
  refine ⟨?_,λhq=>?_⟩
  ·show Je (AC (Dj p.chain) 0) k t;rw[hs 0 (by omega)];exact hh.head
  ·show Je (AC (Dj p.chain) (A5 (Dj p.chain) 0)) k t;have hlen:(Dj p.chain).length=p.chain.length+1:=by rw[hj];simp
   rw[show A5 (Dj p.chain) 0=1 by unfold A5;rw[if_pos ⟨rfl,by omega⟩]];by_cases h1:p.chain.length=1
   ·have:AC (Dj p.chain) 1=AC p.chain 0:=by unfold AC;rw[hj,zcU (by omega),Cz (show 0<p.chain.length by omega)];simp[h1]
    rw[this];exact hh.head
   ·have hn:=hh.next hq;unfold A5 at hn;rw[if_pos ⟨rfl,by omega⟩] at hn;rw[hs 1 (by omega)];exact hn
 ·rename_i _ _ _ g
  injection h with h;subst h;unfold C8;rw[g,cond_true];unfold Ci at g;rw[CA] at g;have hk:=g.2;unfold IQ at hk;unfold Kc;cases hv:Jf p e.num.toNat with
  | none=>exact hh
  | some v =>rw[hv] at hk;simp only[CA] at hk;obtain ⟨v1,_⟩:=MQ hp hv;exact (hh.up (q:=EW p 0 (Fq v.tag.time p.clock) v) (λi=>Xf i) Em rfl).note (hc.add v1 hk.1)
theorem WI {n:Int}{s:ByteArray}{g:Bool}{l:List Tag} (hp:As p=true) (hw:A6 p n s g l=true) (hh:Held p k t):Held (Ee p n s g l).1 k t:=by rw[KX hp hw];have hr:=(Gl hw).2.2.2.2.2.1;exact (hh.up (q:=EW p 0 (AQ p l) (DU p n s g l)) (λi=>Xf i) Em rfl).note ((D5 hp).add (Lc hp hw) hr)
theorem YI {f a:Int}{v:Ver} (hh:Held p k t):Held (Dk p f a v) k t:=by
 unfold Dk;cases D8 p f a v with
 | false=>exact hh
 | true=>exact ⟨hh.head,hh.next⟩
end
def Sures (w:World):Prop:=∀ d∈w.hist,d.kind=3->∃ p,w.places[d.tag.place.toNat]?=some p/\Held p d.key.toNat d.tag
theorem Sures.add (h:Sures w) (h1:w'.places=w.places) (h2:w'.hist=w.hist++ds) (hd:∀ d∈ds,d.kind=3->∃ p,w.places[d.tag.place.toNat]?=some p/\Held p d.key.toNat d.tag):Sures w':=λd hm hk=>by rw[h2] at hm;rw[h1];exact (zcx.1 hm).elim (λg=>h d g hk) λg=>hd d g hk
theorem Sures.setP {k:Nat}{p q:Place} (h:Sures w) (hp:w.places[k]?=some p) (hq:∀ {n:Nat}{t:Tag},Held p n t->Held q n t) (h1:w'.places=w.places.set k q) (h2:w'.hist=w.hist++ds) (hd:∀ d∈ds,d.kind≠3):Sures w':=λd hm hk=>by
 rw[h2] at hm;rw[h1];rcases zcx.1 hm with g | g
 ·obtain ⟨x,hx,hh⟩:=h d g hk;by_cases e:k=d.tag.place.toNat
  ·subst e;rw[hp] at hx;injection hx with hx;subst hx;exact ⟨q,zcG (Ea hp).1,hq hh⟩
  ·exact ⟨x,by rw[zcA e];exact hx,hh⟩
 ·exact absurd hk (hd d g)
theorem Y5 {i:Nat}{s:Sess} (hg:Good w) (h:Sures w) (hs:s∈w.sess) (he:Hj w i s=some w'):Sures w':=by
 unfold Hj at he;split at he
 ·rename_i p hp
  split at he
  ·rename_i v u hv hu
   cases hc:decide (s.wait.time>0) with
   | false=>rw[hc] at he;cases he
   | true =>
    rw[hc,cond_true] at he;cases hl:CT v.tag s.wait with
    | true =>
     rw[hl,cond_true] at he;cases hl2:CT u.tag s.wait with
     | false=>rw[hl2] at he;cases he
     | true =>rw[hl2,cond_true] at he;injection he with he;subst he;exact h.add (ds := []) rfl rfl (by simp)
    | false =>
     rw[hl,cond_false] at he;cases hr:Ct w 1 with
     | false=>rw[hr] at he;cases he
     | true =>
      rw[hr,cond_true] at he;injection he with he;subst he;refine h.add rfl rfl λd hd _=>?_;rw[zcQ] at hd;subst hd;have hpl:=(Bp (hg.ok.sess s hs)).2.2.2.2.2;have hct:=of_decide_eq_true hc;have hpe:s.wait.place=s.place:=by omega
      have hch:=D5 (hg.ok.place _ p hp).2;have hn:Je (AC p.chain (A5 p.chain 0)) s.key.toNat s.wait:=⟨v,hv,hl⟩;refine ⟨p,by show w.places[s.wait.place.toNat]?=some p;rw[hpe];exact hp,?_,λ_=>hn⟩;show Je (AC p.chain 0) s.key.toNat s.wait;unfold A5 at hn;split at hn
      ·rename_i hsh
       have h0:=Cz (show 0<p.chain.length by omega);have h1:=Cz (show 0+1<p.chain.length by omega);have hup:=hch.up 1 0 _ _ h0 h1;have l0:=(hch.store h0).2;have l1:=(hch.store h1).2;unfold AC at hn ⊢;simp only[h1] at hn;simp only[h0];exact N1 hup (by omega) hn
      ·exact hn
  ·cases he
 ·cases he
theorem Z5 {e:Event} (hg:Good w) (h:Sures w):Sures (JX w e):=by
 unfold JX;cases he:CN w e with
 | none=>exact h
 | some w' =>
  rw[zds];unfold CN at he;cases h1:Ah e.kind 1 5 with
  | true =>
   rw[h1,cond_true] at he;unfold CS at he;cases hc:Ah e.at' 0 ((w.sess.length:Int) - 1) with
   | false=>rw[hc] at he;cases he
   | true =>
    rw[hc,cond_true] at he;split at he
    ·rename_i s hs
     cases hk:e.kind==1 with
     | true =>
      rw[hk,cond_true] at he;unfold DF at he;split at he
      ·rename_i p hp
       cases hc2:(!decide (s.wait.time>0)&&(A6 p e.key e.text e.gone s.past&&Ct w 1)) with
       | false=>rw[hc2] at he;cases he
       | true =>rw[hc2,cond_true] at he;injection he with he;subst he;simp only[CA] at hc2;exact h.setP hp (λhh=>WI (hg.ok.place _ p hp).2 hc2.2.1 hh) rfl rfl (by intro d hd;rw[zcQ] at hd;subst hd;show (1:Int)≠3;decide)
      ·cases he
     | false =>
      rw[hk,cond_false] at he;cases hk2:e.kind==2 with
      | true=>rw[hk2,cond_true] at he;exact Y5 hg h (zcL hs) he
      | false =>
       rw[hk2,cond_false] at he;unfold EB HG LI at he;simp only[cond_eq_ite] at he
       repeat' split at he
       all_goals first
        | (cases he;done)
        | (injection he with he;subst he;exact h.add (ds := []) rfl rfl (by simp))
        | (injection he with he;subst he;refine h.add rfl rfl λd hd hk=>?_;rw[zcQ] at hd;subst hd;cases hk;done)
        | (injection he with he;subst he;refine h.add rfl rfl λd hd hk=>?_;unfold BB at hd;obtain ⟨x,_,rfl⟩:=zeb.1 hd;cases hk)
    ·cases he
  | false =>
   rw[h1,cond_false] at he;cases h2:Ah e.kind 6 9 with
   | true =>
    rw[h2,cond_true] at he;unfold EQ at he;cases hc:Ah e.at' 0 2 with
    | false=>rw[hc] at he;cases he
    | true =>
     rw[hc,cond_true] at he;split at he
     ·rename_i p hp
      rw[zc2] at he;obtain ⟨q,hq,rfl⟩:=he;exact h.setP hp (λhh=>YH (hg.ok.place _ p hp).2 hq hh) rfl (zdc _).symm (by simp)
     ·cases he
   | false =>
    rw[h2,cond_false] at he;have hear:∀ {u:World}{f:Frame},Sures u->Sures (HC u f):=λ{u f} hu=>by
     unfold HC;split
     ·rename_i p hp
      exact hu.setP hp (λhh=>YI hh) rfl (zdc _).symm (by simp)
     ·exact hu
    unfold Kd FT at he;simp only[cond_eq_ite] at he
    repeat' split at he
    all_goals first
     | (cases he;done)
     | (injection he with he;subst he;exact h)
     | (injection he with he;subst he;exact hear h)
theorem Qr:∀ {l:List Event}{w:World},Good w->Sures w->Sures (E2 w l)
 | [],_,_,h=>h
 | e :: l,w,hg,h=>Qr (l:=l) (If hg) (Z5 hg h)


section
variable {x y:Int}{l:List Event}
theorem Wi:Ec x y=true->Sures (Ds x y l):=λhok=>by unfold Ds;rw[hok,cond_true];obtain ⟨n,s,rfl,rfl,h1,h4,hs⟩:=KP hok;exact Qr (Jo h1 h4 hs) (λd hd=>by cases hd)
end
theorem Pp {h:Heap}{F:List Nat}{a0 a1:Pq}{c0 c1:Nq}{n1:Nat}{code:List UInt8} (hs:RBytes h [.sl 1 a0 code.length c0] code F) (hF:∀ y∈F,y<h.length) (hcap:∀ k,c0=some k->code.length<=k) :
  ∃ h',Ai h.length 4 [.sl 1 a0 code.length c0,.sl 1 a1 n1 c1] h=some (.bool true,h'):=by
 suffices hk:∃ h',_=some (V.bool true,h') from by obtain ⟨h',e⟩:=hk;exact ⟨h',Mh e⟩
 by_cases hbig:(code.length:Int)>1048576
 ·rw[Ak hbig];exact ⟨h,rfl⟩
 rw[Aj hbig];by_cases hbig2:(n1:Int)>1048576
 ·rw[Ak hbig2];exact ⟨h,rfl⟩
 rw[Aj hbig2];obtain ⟨x,y,l,a,c,h1,E,e1,re,ht,hl6,hy,m1⟩:=Hv (lo:=h.length) hs hF (zcz _) (by omega) hcap;obtain ⟨raw2,r2,h2,F2,e2,n2,q2,m2⟩:=Jt (lo:=h.length) (x:=x) (y:=y) re ht hl6 m1.le;have re2:=m2.drop.keep0 revents_ok re;have l2:=zcw m1.le m2.le;obtain ⟨raw3,r3,h3,F3,e3,n3,q3,m3⟩:=Ii (lo:=h.length) (x:=x) (y:=y) re2 ht hl6 l2;have re3:=m3.drop.keep0 revents_ok re2;have l3:=zcw l2 m3.le;have hsm:=JK (x:=x) (y:=y) (l:=l);obtain ⟨s1,s2,s3,s4,b1,d1,b2,d2,b3,d3,b4,d4,rfl,es1,es2,es3,es4,rfl⟩:=n2;obtain ⟨t1,t2,t3,t4,z1,w1,z2,w2,z3,w3,z4,w4,rfl,et1,et2,et3,et4,rfl⟩:=n3;have q2':=m3.keep0 Dr q2;have e4:=Lq (lo:=h.length) q2' q3 hsm;simp only[World.cs] at e4;rw[e1,Ac,Gn,Aa,Ab,Aa,Ab,Aa,Af,Ag,e2,Ac,AO,Aa,es1,Aa,es2,Aa,es3,Aa,es4,Ag,e3,Ac,AO,Aa,et1,Aa,et2,Aa,et3,Aa,et4,Ag,e4,Ac,Ao,Am];cases hok:Ec x y with
 | false =>
  have hz:Ds x y l=JF:=by unfold Ds;rw[hok];rfl
  obtain ⟨raw4,r4,h4,F4,e5,n4,q4,m4⟩:=Ii (lo:=h.length) (x:=x) (y:=y) re3 ht hl6 l3;obtain ⟨v1,v2,v3,v4,g1,k1,g2,k2,g3,k3,g4,k4,rfl,ev1,ev2,ev3,ev4,rfl⟩:=n4;have e6:=Lq (lo:=h.length) (m4.keep0 Dr q2') q4 hsm;simp only[World.cs] at e6;refine ⟨h4,?_⟩;rw[show (((Ds x y l).places.length:Int)==(0:Int))=true by rw[hz];rfl,Am,e5,Ac,AO,Aa,ev1,Aa,ev2,Aa,ev3,Aa,ev4,Ag,e6,Ac,Ao,Am]
 | true =>
  have hg:=Fh (l:=l) hok;have hp3:=hg.ok.p3;have hsu:=Wi (l:=l) hok;obtain ⟨k,hk⟩:∃ k,k=n1 % (l.length+1):=⟨_,rfl⟩;have hkl:k<=l.length:=by have:=zeh n1 (show 0<l.length+1 by omega);omega
  have hlen:(l.take k).length=k:=by rw[zcS];omega
  obtain ⟨E',re'⟩:=Sli.pre re3 hkl;replace re':REvents h3 [.sl 6 a (l.take k).length c] (l.take k) E':=by rw[hlen];exact re'
  obtain ⟨raw4,r4,h4,F4,e5,n4,q4,m4⟩:=Jt (lo:=h.length) (x:=x) (y:=y) re' (λe he=>ht e (zdO he)) (by rw[zcS];omega) l3;rw[hlen] at e5;have hm:=Yg (x:=x) (y:=y) (l:=l) (k:=k);have hdo:=(Fh (l:=l.take k) hok).ok.hist;have hsm':=JK (x:=x) (y:=y) (l:=l.take k);have hw:AL ((l.length:Int)+1)=(l.length:Int)+1:=wr (by omega) (by omega);have htm:((n1:Nat):Int).tmod ((l.length:Int)+1)=(k:Nat):=by rw[hk];exact (Int.ofNat_tmod n1 (l.length+1)).symm
  have q2'':=m4.keep0 Dr q2';generalize Ds x y l=w at *
  generalize Ds x y (l.take k)=u at *
  obtain ⟨v1,v2,v3,v4,g1,k1,g2,k2,g3,k3,g4,k4,rfl,ev1,ev2,ev3,ev4,rfl⟩:=n4;obtain ⟨G1,G2,G3,G4,p1,p2,p3,p4⟩:=q2''.parts;obtain ⟨J1,J2,J3,J4,w1,w2,w3,w4⟩:=q4.parts;rw[show ((w.places.length:Int)==(0:Int))=false by rw[hp3];rfl,Av,hw,DJ (by omega),htm,E1 re3 hkl,e5,Ac,AO,Aa,ev1,Aa,ev2,Aa,ev3,Aa,ev4,Ag];refine ⟨h4,?_⟩;have n4:=hsm'.2.2.2;refine (FM (n:=u.hist.length) (λi=>BA h.length false (i:Nat) b1 w.places.length d1 b2 w.sess.length d2 b3 w.net.length d3 b4 w.hist.length d4 g1 u.places.length k1 g2 u.sess.length k2 g3 u.net.length k3 g4 u.hist.length k4 h4) λi hi=>?_).trans ?_
  ·obtain ⟨o,ha,ho⟩:=w4.get hi;rw[BA.e,Ak (by omega),Ae hi,ha,Ad,Bb,ho,Ad,Aa,Ab,Aa,Ab,Aa,Ab,Aa,Ab,Aa,Ab,Ag,Ar (by omega),<- ha];cases hk3:u.hist[i].kind==(3:Int) with
   | false=>rw[Av]
   | true =>
    rw[Am];have hk3:u.hist[i].kind=3:=by simpa using hk3
    obtain ⟨r,hr⟩:=hm.hist;obtain ⟨p,hp,hh⟩:=hsu u.hist[i] (by rw[hr];exact zdl _ (zcv hi)) hk3;have hd:=hdo _ (zcv hi);unfold Fy at hd;simp only[CA,zdh,decide_eq_true_eq,beq_iff_eq,Ah] at hd;obtain ⟨⟨⟨⟨_,_⟩,hkey⟩,htag⟩,_⟩:=hd;have htt:=GS htag;obtain ⟨q,hq⟩:∃ q:Nat,u.hist[i].tag.place=(q:Int):=⟨u.hist[i].tag.place.toNat,by omega⟩;obtain ⟨z,hz⟩:∃ z:Nat,u.hist[i].key=(z:Int):=⟨u.hist[i].key.toNat,by omega⟩;have htn:u.hist[i].tag.place.toNat=q:=by omega
    rw[htn] at hp;obtain ⟨hql,rfl⟩:=Ea hp;obtain ⟨uu,hu,hlt⟩:=hh.head;rw[show u.hist[i].key.toNat=z by omega] at hu;have hch:=D5 (hg.ok.place q _ hp).2;have h0:=hch.pos;have h0g:=Cz (show 0<w.places[q].chain.length by omega);unfold AC at hu;simp only[h0g] at hu;obtain ⟨hzl,rfl⟩:=Ea hu;obtain ⟨o1,s1,_,_,x1,y1,_,_,_,_,_,_,_,ga,_,_,go,_,_,es,_,_,gg,_⟩:=p1.get hql;obtain ⟨o2,t1,_,f1,f2,_,_,_,_,fa,_,fo,_,fs,_,fg,_⟩:=gg.get (show 0<w.places[q].chain.length by omega);obtain ⟨o3,_,_,_,_,ka,_,_,_,_,_,_,ko,_⟩:=fg.all hzl;rw[hq,Ae hql,ga,Ad,Bb,go,Ad,Aa,Ag,es,show (0:Int)=((0:Nat):Int) from rfl,Ae (show 0<w.places[q].chain.length by omega),fa,Ad,fo,Ad,Aa,Ag,fs,hz,Ae hzl,ka,Ad,Bb,ko,Ad,Aa,Ab,Aa,Ab,Ag,<- hq,D7,Ac,Ao];unfold CT at hlt;rw[hlt,Av]
  ·rw[BA.e,Aj (by omega)]
theorem main_FnWorldSure {h:Heap}{x y:V} (hx:ArgV Tryz.prog h 12 22 x) (hy:ArgV Tryz.prog h 12 22 y):∃ h',Ai h.length 4 [x,y] h=some (.bool true,h'):=by obtain ⟨a,c,l,F,rfl,h1,h2,h3⟩:=HF (n:=10) hx;obtain ⟨a',c',l',F',rfl,_,_,_⟩:=HF (n:=10) hy;exact Pp h1 h2 h3


section
variable {lo:Nat}{h:Heap}{F:List Nat}{a:Pq}{c:Nq}
theorem Og {l:List Ver} (hs:RVers false h [.sl 6 a l.length c] l F) (hn:Dq l) (hok:Bc l=true) (h4:l.length=4) (hcl:∀ v∈l,0<v.tag.time->Bs v.past (Bg l)=true) :
  Ai lo 25 [.agg [.sl 6 a l.length c]] h=some (.bool true,h):=by
 have hlt:(Bg l).length=4:=by unfold Bg;rw[zdQ];exact h4
 suffices hk:∃ h',_=some (V.bool true,h') from by obtain ⟨h',e⟩:=hk;exact Mn e
 have m0:Mv h [] (h ++ [.rows 1 52 false [[.sl 6 a l.length c]]]) []:=Mv.snoc;have hb0:(h ++ [Blk.rows 1 52 false [[.sl 6 a l.length c]]])[h.length]?=some (.rows 1 52 false [[.sl 6 a l.length c]]):=by simp
 have hl0:h.length<(h ++ [Blk.rows 1 52 false [[.sl 6 a l.length c]]]).length:=by simp
 generalize h ++ [Blk.rows 1 52 false [[.sl 6 a l.length c]]]=h0 at m0 hb0 hl0 ⊢;have hs0:=m0.keep0 rvers_ok hs;have hld:∀ hh,Mv h0 [] hh []->ld hh h.length 0 0 1=some [.sl 6 a l.length c]:=λhh hm=>by rw[Bx (by rw[hm.fr h.length hl0 (by simp)];exact hb0) rfl];rfl
 have loop:∀ m i hh,m+i=l.length->Mv h0 [] hh []->∃ h',Ax h0.length a l.length c 52 [.ptr (some (h.length,(0,0)))] 0 (l.length:Nat) (i:Nat) hh=some (Iv (-1),h'):=by
  intro m;induction m with
  | zero=>intro i hh hi hm;exact ⟨hh,by rw[Ax.e,Aj (by omega)]⟩
  | succ m ih =>
   intro i hh hi hm;have hil:i<l.length:=by omega
   obtain ⟨o,s,b1,d1,G,rfl,ho,es,hp,_⟩:=(hm.keep0 rvers_ok hs0).get hil;have hva:=Ip hok (Cz hil);have hmem:=zcv hil;have step:∃ h2,Ai h0.length 52 (CR [.agg [Iv l[i].key,Iv l[i].tag.time,Iv l[i].tag.place,.sl 2 b1 l[i].past.length d1,.str l[i].text,.bool l[i].gone]] [.ptr (some (h.length,(0,0)))]) hh=some (.bool false,h2)/\Mv hh [] h2 []:=by
    by_cases ht:l[i].tag.time>0
    ·have hpo:BE l[i].past=true:=by
      rcases Cp hva with g | g
      ·have:=(DP g).1;omega
      ·exact (A3 g.1).2.2.2.1
     obtain ⟨v,h2,F2,e2,r2,m2⟩:=Hc (lo:=hh.length) (hm.keep0 rvers_ok hs0) (zcz _) h4;obtain ⟨b2,d2,es2,r2⟩:=r2.form;refine ⟨h2,HJ ?_,m2.drop⟩;rw[show (l[i].tag.time==(0:Int))=false by rw[beq_eq_false_iff_ne];omega,zdn,Av,hld hh hm,Ad,Aa,Af,Ag,e2,Ac,AO,Aa,es2,Ag,Ha (m2.drop.keep0 rtags_ok hp) r2 (by have:=Be hpo;omega) (by have:=Be hpo;omega),hcl _ hmem ht,Ac,Ao,Am]
    ·refine ⟨hh,HJ ?_,Mv.nil⟩;have hz:l[i].tag.time=0/\l[i].tag.place=0:=by
      rcases Cp hva with g | g
      ·exact DP g
      ·have:=(latest_lt.1 (A3 g.1).2.2.2.2.2).1;omega
     rw[hz.1,hz.2];rfl
   obtain ⟨h2,e2,m2⟩:=step;obtain ⟨h',e'⟩:=ih (i+1) h2 (by omega) (hm.trans m2);refine ⟨h',?_⟩;rw[Ax.e,Ak (by omega),Ae hil,Ad,Bb,ho,Ad,Aa,Ab,Aa,Ab,Aa,Ab,Aa,es,Aa,BH,Aa,AM,Ag,e2,Ac,Ao,Av,Ar (by omega)];exact e'
 obtain ⟨h',e⟩:=loop l.length 0 h0 (by omega) Mv.nil;have e1:Ai h.length 51 [.sl 6 a l.length c,.fn 52 [.ptr (some (h.length,(0,0)))]] h0=some (.bool false,h0):=C7 (h':=h0) (by
  rw[DE (h':=h') e,Ac,Ab];rfl)
 refine ⟨h0,?_⟩;rw[hld h0 Mv.nil,Ad,Aa,Af,Ag,JU hs0 hn,hok,Ac,Ao,Am,hld h0 Mv.nil,Ad,Aa,Ag,Af,e1,Ac,Ao,Av]
end


section
variable {lo:Nat}{ro:Bool}{h:Heap}{F:List Nat}{a:Pq}{c:Nq}
theorem QS {l:List Ver} (hs:RVers ro h [.sl 6 a l.length c] l F) (hn:Dq l) (hok:Bc l=true) (h4:l.length=4) (hl:lo<=h.length) :
  ∃ v h' F',Ai lo 24 [.agg [.sl 6 a l.length c]] h=some (.agg [v],h')/\RTags false h' [v] (Bg l) F'/\Mv h [] h' F':=by
 obtain ⟨v,h2,F2,e2,r2,m2⟩:=Hc (lo:=lo) hs hl h4;obtain ⟨b2,d2,es2,r2'⟩:=id r2.form;refine ⟨.sl 2 b2 (Bg l).length d2,h2,F2,OI ?_,r2',m2⟩;rw[JU hs hn,hok,Ac,Ao,Am,e2,Ac,AO,Aa,es2,Ag]
theorem zaq {w:World}{k:Nat}{s:Sess} (hg:Good w) (hs:w.sess[k]?=some s) (hl:(w.sess.length:Int)<=4) {w':World} (he:CN w ⟨4,(k:Nat),0,0,⟨⟨[]⟩⟩,false⟩=some w') :
  ∃ q:Nat,∃ hq:q<w.places.length,s.place=(q:Int)/\Bs s.past (AR w.places[q].chain)=true/\w'=setS w k ⟨s.place,AR w.places[q].chain,s.wait,s.key⟩ (BB k (AR w.places[q].chain)):=by
 have hk:=(Ea hs).1;unfold CN CS at he;rw[show Ah (4:Int) 1 5=true from rfl,cond_true] at he;simp only[Bb,hs] at he;rw[show Ah ((k:Nat):Int) 0 ((w.sess.length:Int) - 1)=true by simp only[Ah,CA,decide_eq_true_eq];omega,cond_true,show ((4:Int)==1)=false from rfl,cond_false,show ((4:Int)==2)=false from rfl,cond_false,show ((4:Int)==3)=false from rfl,cond_false,show ((4:Int)==4)=true from rfl,cond_true] at he;have hsp:=(Bp (hg.ok.sess s (zcL hs))).1;have hp3:=hg.ok.p3;obtain ⟨q,hq⟩:∃ q:Nat,s.place=(q:Int):=⟨s.place.toNat,by omega⟩;have hql:q<w.places.length:=by omega
 unfold HG at he;rw[show s.place.toNat=q by omega,Cz hql] at he;simp only[] at he;cases hcc:(!decide (s.wait.time>0)&&(Bs s.past (AR w.places[q].chain)&&Ct w 4)) with
 | false=>rw[hcc] at he;cases he
 | true =>rw[hcc,cond_true] at he;injection he with he;simp only[CA] at hcc;exact ⟨q,hql,hq,hcc.2.1,he.symm⟩
end
theorem QD {h:Heap}{F:List Nat}{a0 a1:Pq}{c0 c1:Nq}{n1:Nat}{code:List UInt8} (hs:RBytes h [.sl 1 a0 code.length c0] code F) (hF:∀ y∈F,y<h.length) (hcap:∀ k,c0=some k->code.length<=k) :
  ∃ h',Ai h.length 7 [.sl 1 a0 code.length c0,.sl 1 a1 n1 c1] h=some (.bool true,h'):=by
 suffices hk:∃ h',_=some (V.bool true,h') from by obtain ⟨h',e⟩:=hk;exact ⟨h',Nt e⟩
 by_cases hbig:(code.length:Int)>1048576
 ·rw[Ak hbig];exact ⟨h,rfl⟩
 rw[Aj hbig];by_cases hbig2:(n1:Int)>1048576
 ·rw[Ak hbig2];exact ⟨h,rfl⟩
 rw[Aj hbig2];obtain ⟨x,y,l,a,c,h1,E,e1,re,ht,hl6,hy,m1⟩:=Hv (lo:=h.length) hs hF (zcz _) (by omega) hcap;obtain ⟨raw2,r2,h2,F2,e2,n2,q2,m2⟩:=Jt (lo:=h.length) (x:=x) (y:=y) re ht hl6 m1.le;have re2:=m2.drop.keep0 revents_ok re;have l2:=zcw m1.le m2.le;obtain ⟨raw3,r3,h3,F3,e3,n3,q3,m3⟩:=Ii (lo:=h.length) (x:=x) (y:=y) re2 ht hl6 l2;have re3:=m3.drop.keep0 revents_ok re2;have l3:=zcw l2 m3.le;have hsm:=JK (x:=x) (y:=y) (l:=l);obtain ⟨s1,s2,s3,s4,b1,d1,b2,d2,b3,d3,b4,d4,rfl,es1,es2,es3,es4,rfl⟩:=n2;obtain ⟨t1,t2,t3,t4,z1,w1,z2,w2,z3,w3,z4,w4,rfl,et1,et2,et3,et4,rfl⟩:=n3;have q2':=m3.keep0 Dr q2;have e4:=Lq (lo:=h.length) q2' q3 hsm;simp only[World.cs] at e4;rw[e1,Ac,Gn,Aa,Ab,Aa,Ab,Aa,Af,Ag,e2,Ac,AO,Aa,es1,Aa,es2,Aa,es3,Aa,es4,Ag,e3,Ac,AO,Aa,et1,Aa,et2,Aa,et3,Aa,et4,Ag,e4,Ac,Ao,Am];cases hok:Ec x y with
 | false =>
  have hz:Ds x y l=JF:=by unfold Ds;rw[hok];rfl
  obtain ⟨raw4,r4,h4,F4,e5,n4,q4,m4⟩:=Ii (lo:=h.length) (x:=x) (y:=y) re3 ht hl6 l3;obtain ⟨v1,v2,v3,v4,g1,k1,g2,k2,g3,k3,g4,k4,rfl,ev1,ev2,ev3,ev4,rfl⟩:=n4;have e6:=Lq (lo:=h.length) (m4.keep0 Dr q2') q4 hsm;simp only[World.cs] at e6;refine ⟨h4,?_⟩;rw[show (((Ds x y l).places.length:Int)==(0:Int))=true by rw[hz];rfl,Am,e5,Ac,AO,Aa,ev1,Aa,ev2,Aa,ev3,Aa,ev4,Ag,e6,Ac,Ao,Am]
 | true =>
  have hg:=Fh (l:=l) hok;have hp3:=hg.ok.p3;obtain ⟨n0,s0,rfl,rfl,g1,g4,gs⟩:=KP hok;have hse:(Ds n0 s0 l).sess.length=s0:=by unfold Ds;rw[hok,cond_true,SO];simp[D6]
  obtain ⟨k,hk⟩:∃ k,k=n1 % s0:=⟨_,rfl⟩;have hks:k<s0:=by rw[hk];exact zeh n1 (by omega)
  have htm:((n1:Nat):Int).tmod (s0:Nat)=(k:Nat):=by rw[hk];exact (Int.ofNat_tmod n1 s0).symm
  generalize Ds n0 s0 l=w at *
  have hkw:k<w.sess.length:=by omega
  obtain ⟨raw5,r5,h5,F5,e5,n5,q5,m5⟩:=TO (lo:=h.length) (e:=⟨4,(k:Nat),0,0,⟨⟨[]⟩⟩,false⟩) q2' l3 hsm (λ_=>TT (If hg)) (by show (0:Nat)<=_;omega);have hwo:ET w=true:=world_iff.2 hg.ok;rw[hwo,zcJ] at e5;unfold Ye at n5 q5;rw[hwo,cond_true] at n5 q5;unfold JX at n5 q5;obtain ⟨v1,v2,v3,v4,g1,k1,g2,k2,g3,k3,g4,k4,rfl,ev1,ev2,ev3,ev4,rfl⟩:=n5;simp only[World.cs,Event.cs] at e5;rw[show ((w.places.length:Int)==(0:Int))=false by rw[hp3];rfl,Av,DJ (by omega),htm,e5,Ac,Gn,Aa,AO,Aa,ev1,Aa,ev2,Aa,ev3,Aa,ev4,Ag,Aa,Ao];cases hst:CN w ⟨4,(k:Nat),0,0,⟨⟨[]⟩⟩,false⟩ with
  | none=>exact ⟨h5,by rw[Option.isSome_none,Av,Ag]⟩
  | some w' =>
   have hss:=Cz hkw;obtain ⟨q,hq,hsq,hun,hw'⟩:=zaq hg hss (by omega) hst;rw[hst,zds] at q5;rw[zds,Option.isSome_some,Am,Ag];have hpo:=(hg.ok.place q _ (Cz hq)).2;have hch:=D5 hpo;have hpos:=hch.pos;have hsmp:=(hsm.1.2 _ (zcv hq)).1;have hcl:=hsmp.1;have hlast:w.places[q].chain.length - 1<w.places[q].chain.length:=by omega
   have hx:=Cz hlast;have hsto:=hch.store hx;have hta:=Dl hx (by omega);have hst4:(AR w.places[q].chain).length=4:=hch.four.1;have hso:=hg.ok.sess _ (zcv hkw);have hpa:=(Bp hso).2.1;have hsp:=Hx hch;have hkw':k<w'.sess.length:=by rw[hw'];simpa [setS] using hkw
   have hsk:w'.sess[k].past=AR w.places[q].chain:=by simp[hw',setS]
   have hhl:w'.hist.length=w.hist.length+4:=by rw[hw'];simp[setS,BB,hst4]
   have h80:=hg.ok.h80;have q25:=m5.keep0 Dr q2';obtain ⟨G1,G2,G3,G4,p1,p2,p3,p4⟩:=q25.parts;obtain ⟨J1,J2,J3,J4,w1,w2,w3,w4⟩:=q5.parts;obtain ⟨o1,t1,x1,y1,K1,a1',_,o1a,o1b,et,hp1,_⟩:=p2.get hkw;obtain ⟨o2,t2,x2,y2,K2,a2',_,_,o2b,et2,hp2,_⟩:=w2.get hkw';obtain ⟨o3,u1,_,_,x3,y3,_,_,_,_,_,_,_,a3',_,_,o3c,_,_,eu1,_,_,gg1,_⟩:=p1.get hq;obtain ⟨o4,z1,_,f1,f2,_,_,_,_,a4',_,o4s,_,ez1,_,gs1,_⟩:=gg1.get hlast;have hwr:AL ((w.places[q].chain.length:Int) - 1)=((w.places[q].chain.length - 1:Nat):Int):=by rw[wr (by omega) (by omega)];omega
   obtain ⟨v,h6,K6,e6,r6,m6⟩:=QS (lo:=h5.length) gs1 (hsmp.2 _ (zcv hlast)).1 hsto.1 hsto.2 (zcz _);obtain ⟨b6,d6,es6,r6⟩:=r6.form;rw[<- hta,<- hsk] at es6 r6;have hp26:=m6.drop.keep0 rtags_ok hp2;have e7:=W0 (lo:=h.length) hp26 r6 (by rw[hsk];omega);have e8:=Og (lo:=h.length) (m6.drop.keep0 rvers_ok gs1) (hsmp.2 _ (zcv hlast)).1 hsto.1 hsto.2 (λv hv ht=>by
    rw[<- hta];exact (Mb hch).1 (AI hpo).2.2.2.2.1 v (.of hx (.inl hv)) ht)
   obtain ⟨o5,t5,x5,y5,K5,a5',_,_,o5b,et5,hp5,_⟩:=(m6.drop.keep0 rsesss_ok p2).get hkw;obtain ⟨o6,t6,x6,y6,K7,a6',_,_,o6b,et6,hp6,_⟩:=(m6.drop.keep0 rsesss_ok w2).get hkw';have e9:=Kf (lo:=h.length) hp5 hp6 hpa (by rw[hsk];exact hsp);rw[show Bs w.sess[k].past w'.sess[k].past=true by rw[hsk];exact hun] at e9;rw[a1'] at a5';rw[a2'] at a6';injection a5' with a5';injection a6' with a6';subst a5';subst a6';refine ⟨h6,?_⟩;rw[Ae hkw,a1',Ad,Bb,o1a,Ad,Aa,Ag,Ab,hsq,Ae hq,a3',Ad,Bb,o3c,Ad,Aa,eu1,Ag,hwr,Ae hlast,a4',Ad,Bb,o4s,Ad,Aa,ez1,Ag,Ae hkw',a2',Ad,o2b,Ad,Aa,et2,Ag,e6,Ac,AO,Aa,es6,Ag,e7,Ac,Ao,Am,e8,Ac,Ao,Am,Ae hkw,Ad,o5b,Ad,Aa,et5,Ag,Ae hkw',Ad,o6b,Ad,Aa,et6,Ag,e9,Ac,Ao,Am,wr (n:=(w.hist.length:Int)+4) (by omega) (by omega),show ((w'.hist.length:Int)==(w.hist.length:Int)+4)=true by rw[beq_iff_eq];omega,Am]
theorem main_FnWorldAll {h:Heap}{x y:V} (hx:ArgV Tryz.prog h 12 22 x) (hy:ArgV Tryz.prog h 12 22 y):∃ h',Ai h.length 7 [x,y] h=some (.bool true,h'):=by obtain ⟨a,c,l,F,rfl,h1,h2,h3⟩:=HF (n:=10) hx;obtain ⟨a',c',l',F',rfl,_,_,_⟩:=HF (n:=10) hy;exact QD h1 h2 h3
end Go.Proofs.YtmdgiekbejjjgaaGreat
