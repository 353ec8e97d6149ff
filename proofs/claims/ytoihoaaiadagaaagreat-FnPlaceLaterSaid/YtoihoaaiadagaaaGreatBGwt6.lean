/- Part 6 of what is shown for the law Gwt, whatever the input; no condition of its own. -/
import Derived.Test.YtoihoaaiadagaaaGreatBGwt5
set_option linter.unusedVariables false
set_option linter.unusedSimpArgs false
set_option linter.unnecessarySimpa false
set_option maxRecDepth 100000
namespace Go.Proofs.YtoihoaaiadagaaaGreat
open Go T


theorem O7 {p:Place}{k:Int}{s:ByteArray}{g:Bool}{l:List Tag} (hpo:An p=true) (hc:Az p k s g l=true):Aw (AY p k s g l).1 l=Aw p l+1∧(AY p k s g l).1.me=p.me∧(AY p k s g l).1.clock=Aw p l:=by
 have hw:AY p k s g l=(Bj (DM p 0 (Aw p l) (Bp p k s g l)),⟨Aw p l,p.me⟩):=by unfold AY;rw[hpo,hc];rfl
 have hlt:Ds l<Aw p l∧p.clock<Aw p l:=newer_lt_iff.1 (by unfold Aw;omega);rw[hw];refine ⟨?_,rfl,rfl⟩;show Ew (Ds l) (Aw p l)+1=_;generalize Aw p l=t at hlt ⊢;unfold Ew;rw[if_neg (by omega)]
theorem Nh {h:Heap}{F:List Nat}{a0:Pq}{c0:Nq}{code:List UInt8} (hs:RBytes h [.sl 1 a0 code.length c0] code F) (hF:∀ y∈F,y<h.length) (hcap:∀ k,c0=some k→code.length≤k) :
  ∃ h',Ad h.length 8 [.sl 1 a0 code.length c0] h=some (.bool true,h'):=by
 suffices hk:∃ h',_=some (V.bool true,h') from by obtain ⟨h',e⟩:=hk;exact ⟨h',KQ e⟩
 by_cases hbig:(code.length:Int)>1048576
 ·rw[Ak hbig];exact ⟨h,rfl⟩
 rw[Aj hbig];obtain ⟨p,cs,k,s,g,l,al,cl,h1,F1,G0,e1,r1,sm1',tl,hl4,hs10,l1⟩:=Kr (lo:=h.length) hs hF (zbf _) (by omega) hcap;have sm1:=sm1'.1;obtain ⟨raw2,cs2,h2,F2,e2,n2,r2,m2⟩:=Hp (lo:=h.length) (k:=k) (s:=s) (g:=g) r1 tl l1 sm1 ⟨by omega,by omega⟩;have r12:=m2.keep0 rplaceN_ok r1;have tl2:=m2.keep0 rtags_ok tl;have l2:=zba l1 m2.le;obtain ⟨raw3,cs3,h3,F3,e3,n3,r3,m3⟩:=JM (lo:=h.length) (k:=k) (s:=s) (g:=g) r12 tl2 l2 sm1 ⟨by omega,by omega⟩;have r13:=m3.keep0 rplaceN_ok r12;have tl3:=m3.keep0 rtags_ok tl2;have l3:=zba l2 m3.le;have r23:=m3.keep0 rplaceN_ok r2;obtain ⟨X,hX⟩:∃ X,(AY p k s g l).1=X:=⟨_,rfl⟩;obtain ⟨T,hT⟩:∃ T,(AY p k s g l).2=T:=⟨_,rfl⟩;have hsm:BT X:=by
  rw[← hX];cases hpo:An p with
  | false=>unfold AY;rw[hpo];exact OT
  | true=>exact (Ed (B3 (IZ hpo)) (by decide) (by decide) (by decide)).1
 rw[hX] at n2 n3 r3 r23;rw[hT] at e2 e3;obtain ⟨raw4,cs4,h4,F4,e4,n4,r4,m4⟩:=Hp (lo:=h.length) (k:=k) (s:=s) (g:=g) r23 tl3 l3 hsm ⟨by omega,by omega⟩;have r24:=m4.keep0 rplaceN_ok r23;obtain ⟨Y,hY⟩:∃ Y,(AY X k s g l).1=Y:=⟨_,rfl⟩;obtain ⟨U,hU⟩:∃ U,(AY X k s g l).2=U:=⟨_,rfl⟩;rw[hY] at n4 r4;rw[hU] at e4;have hsmY:BT Y:=by
  rw[← hY];cases hpo:An X with
  | false=>unfold AY;rw[hpo];exact OT
  | true=>exact (Ed (B3 (IZ hpo)) (by decide) (by decide) (by decide)).1
 obtain ⟨s1,s2,s3,x1,y1,x2,y2,x3,y3,rfl,k1,k2,k3,rfl⟩:=n2;obtain ⟨t1,t2,t3,z1,w1,z2,w2,z3,w3,rfl,j1,j2,j3,rfl⟩:=n3;obtain ⟨u1,u2,u3,p1,q1',p2,q2',p3,q3',rfl,i1,i2,i3,rfl⟩:=n4;obtain ⟨b1,d1,b2,d2,b3,d3,rfl,q1⟩:=r13;obtain ⟨_,_,_,_,_,_,_,q2⟩:=r23;obtain ⟨_,_,_,_,_,_,_,q3⟩:=r3;obtain ⟨_,_,_,_,_,_,_,q4⟩:=r4;obtain ⟨_,_,_,_,_,_,_,q5⟩:=r24;simp only[Place.cs] at e1 e2 e3 e4;have cf:=KG (lo:=h.length) q2 q3 hsm;simp only[Place.cs] at cf;have hTT:((T.time==T.time)&&((T.place==T.place)&&true))=true:=by rw[FE,FE];rfl
 rw[e1,Ac,C4,Aa,Ap,Aa,Ab,Aa,Ab,Aa,Ah,Aa,Ah,Aa,Ah,Aa,At,Af,Aa,Ab,Aa,Bh,Aa,As];cases h0:(T.time==(0:Int)) with
 | true =>
  cases g
  ·rw[Au,Aa,Ap,Aa,Ah,Af,Af,e2,Ac,C4,Aa,Ap,Aa,Ab,Aa,Ab,Aa,k1,Aa,k2,Aa,k3,Aa,At,Af,Aa,Ap,Aa,Ab,Aa,Ab,Af,Af,e3,Ac,C4,Aa,Ap,Aa,Ab,Aa,Ab,Aa,j1,Aa,j2,Aa,j3,Aa,At,Af,Aa,Ap,Aa,Ab,Aa,Ab,Af,Af,hTT,Al,cf,Ac,As,Al,h0,Al,Al,cf,Ac,As,Al];exact ⟨_,rfl⟩
  ·rw[Al,Aa,Ap,Aa,Ah,Af,Af,e2,Ac,C4,Aa,Ap,Aa,Ab,Aa,Ab,Aa,k1,Aa,k2,Aa,k3,Aa,At,Af,Aa,Ap,Aa,Ab,Aa,Ab,Af,Af,e3,Ac,C4,Aa,Ap,Aa,Ab,Aa,Ab,Aa,j1,Aa,j2,Aa,j3,Aa,At,Af,Aa,Ap,Aa,Ab,Aa,Ab,Af,Af,hTT,Al,cf,Ac,As,Al,h0,Al,Al,cf,Ac,As,Al];exact ⟨_,rfl⟩
 | false =>
 have hok:An p=true∧Az p k s g l=true:=by
  cases hpo:An p with
  | false=>exfalso;rw[← hT] at h0;unfold AY at h0;rw[hpo] at h0;cases h0
  | true =>
   cases hcw:Az p k s g l with
   | false=>exfalso;rw[← hT] at h0;unfold AY at h0;rw[hpo,hcw] at h0;cases h0
   | true=>exact ⟨rfl,rfl⟩
 obtain ⟨hpo,hcw⟩:=hok;have hxo:An X=true:=by rw[← hX];exact IZ hpo
 have hTt:T=⟨Aw p l,p.me⟩:=by rw[← hT];unfold AY;rw[hpo,hcw];rfl
 obtain ⟨g1,g2,g3⟩:=O7 hpo hcw;rw[hX] at g1 g2 g3;cases hcx:Az X k s g l with
 | false =>
  have hw:AY X k s g l=(X,⟨0,0⟩):=by unfold AY;rw[hxo,hcx];rfl
  have hY2:Y=X:=by rw[← hY,hw]
  have hU0:(U.time==(0:Int))=true:=by rw[← hU,hw];rfl
  subst hY2;have cfY:=KG (lo:=h.length) q4 q5 hsmY;simp only[Place.cs] at cfY;cases g
  ·rw[Au,Aa,Ap,Aa,Ah,Af,Af,e2,Ac,C4,Aa,Ap,Aa,Ab,Aa,Ab,Aa,k1,Aa,k2,Aa,k3,Aa,At,Af,Aa,Ap,Aa,Ab,Aa,Ab,Af,Af,e3,Ac,C4,Aa,Ap,Aa,Ab,Aa,Ab,Aa,j1,Aa,j2,Aa,j3,Aa,At,Af,Aa,Ap,Aa,Ab,Aa,Ab,Af,Af,hTT,Al,cf,Ac,As,Al,h0,Au,e4,Ac,C4,Aa,Ap,Aa,Ab,Aa,Ab,Aa,i1,Aa,i2,Aa,i3,Aa,At,Af,Aa,Ap,Aa,Ab,Aa,Ab,Af,Af,hU0,Al,cfY,Ac,As,Al];exact ⟨_,rfl⟩
  ·rw[Al,Aa,Ap,Aa,Ah,Af,Af,e2,Ac,C4,Aa,Ap,Aa,Ab,Aa,Ab,Aa,k1,Aa,k2,Aa,k3,Aa,At,Af,Aa,Ap,Aa,Ab,Aa,Ab,Af,Af,e3,Ac,C4,Aa,Ap,Aa,Ab,Aa,Ab,Aa,j1,Aa,j2,Aa,j3,Aa,At,Af,Aa,Ap,Aa,Ab,Aa,Ab,Af,Af,hTT,Al,cf,Ac,As,Al,h0,Au,e4,Ac,C4,Aa,Ap,Aa,Ab,Aa,Ab,Aa,i1,Aa,i2,Aa,i3,Aa,At,Af,Aa,Ap,Aa,Ab,Aa,Ab,Af,Af,hU0,Al,cfY,Ac,As,Al];exact ⟨_,rfl⟩
 | true =>
 obtain ⟨z,x,hz,hx0,hxk,hUt,hpos,hzt,hlt⟩:=O8 hxo hcx;obtain ⟨_,_,hYc⟩:=O7 hxo hcx;rw[hY] at hx0 hYc;rw[hU] at hUt;obtain ⟨v1,v2,v3,v4,v5,v6,v7,v8⟩:=D8 hcx;obtain ⟨kk,rfl⟩:∃ kk:Nat,k=(kk:Int):=⟨k.toNat,by omega⟩;rw[Be] at hxk;obtain ⟨hyp0,hx0⟩:=EY hx0;obtain ⟨hkx,hxk⟩:=EY hxk;obtain ⟨K1,K2,K3,_,f1,f2,f3⟩:=q4.cells;obtain ⟨o,w1',w2',c1,e1',c2,e2',H1,H2,ha,_,ho1,_,es1,_,px,_⟩:=f1.get hyp0;rw[hx0] at es1 px;obtain ⟨o3,_,_,_,_,ha3,_,_,_,_,_,_,ho12,_⟩:=px.all hkx;rw[hxk] at ho12;have hU1:U.time=T.time+1:=by rw[hUt,hTt];exact g1
 have hU2:U.place=T.place:=by rw[hUt,hTt];exact g2
 have ho12':ld h4 o3.1 (o3.2+kk) 1 2=some [Iv U.time,Iv U.place]:=by rw[hUt];exact ho12
 have hbT:0≤T.time∧T.time≤1099511627776:=by have q:0≤Aw p l∧Aw p l≤999∧_:=Dx (AB (Kz hpo hcw)).2.2.2.2.1;rw[hTt];show 0≤Aw p l∧Aw p l≤_;omega
 have hU0:(U.time==(0:Int))=false:=by rw[beq_eq_false_iff_ne];omega
 have hw1:IntKind.i64.wrap (T.time+1)=U.time:=by rw[wr (by omega) (by omega),hU1]
 have hUU:((U.time==U.time)&&((U.place==U.place)&&true))=true:=by rw[FE,FE];rfl
 have hYcl:(Y.clock==U.time)=true:=by rw[hYc,hUt,FE]
 refine ⟨h4,?_⟩;cases g
 ·rw[Au,Aa,Ap,Aa,Ah,Af,Af,e2,Ac,C4,Aa,Ap,Aa,Ab,Aa,Ab,Aa,k1,Aa,k2,Aa,k3,Aa,At,Af,Aa,Ap,Aa,Ab,Aa,Ab,Af,Af,e3,Ac,C4,Aa,Ap,Aa,Ab,Aa,Ab,Aa,j1,Aa,j2,Aa,j3,Aa,At,Af,Aa,Ap,Aa,Ab,Aa,Ab,Af,Af,hTT,Al,cf,Ac,As,Al,h0,Au,e4,Ac,C4,Aa,Ap,Aa,Ab,Aa,Ab,Aa,i1,Aa,i2,Aa,i3,Aa,At,Af,Aa,Ap,Aa,Ab,Aa,Ab,Af,Af,hU0,Au,hw1,FE,Al,hU2,FE,Al,BI ⟨by omega,by omega⟩,ha,Ag,ho1,Ag,Aa,Af,es1,Ae hkx,ha3,Ag,Be,ho12',Ag,Aa,Ab,Aa,Ab,Af,← hU2,hUU,Al,hYcl,Al]
 ·rw[Al,Aa,Ap,Aa,Ah,Af,Af,e2,Ac,C4,Aa,Ap,Aa,Ab,Aa,Ab,Aa,k1,Aa,k2,Aa,k3,Aa,At,Af,Aa,Ap,Aa,Ab,Aa,Ab,Af,Af,e3,Ac,C4,Aa,Ap,Aa,Ab,Aa,Ab,Aa,j1,Aa,j2,Aa,j3,Aa,At,Af,Aa,Ap,Aa,Ab,Aa,Ab,Af,Af,hTT,Al,cf,Ac,As,Al,h0,Au,e4,Ac,C4,Aa,Ap,Aa,Ab,Aa,Ab,Aa,i1,Aa,i2,Aa,i3,Aa,At,Af,Aa,Ap,Aa,Ab,Aa,Ab,Af,Af,hU0,Au,hw1,FE,Al,hU2,FE,Al,BI ⟨by omega,by omega⟩,ha,Ag,ho1,Ag,Aa,Af,es1,Ae hkx,ha3,Ag,Be,ho12',Ag,Aa,Ab,Aa,Ab,Af,← hU2,hUU,Al,hYcl,Al]
theorem main_FnPlaceLater {h:Heap}{x:V} (hx:ArgV Tryz.prog h 12 22 x):∃ h',Ad h.length 8 [x] h=some (.bool true,h'):=by obtain ⟨a,c,l,F,rfl,h1,h2,h3⟩:=Ql (n:=10) hx;exact Nh h1 h2 h3
end Go.Proofs.YtoihoaaiadagaaaGreat
