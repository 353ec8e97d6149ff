/- Part 6 of what is shown for the law Gpf, whatever the input; no condition of its own. -/
import Derived.Test.YtoihoaaiadagaaaGreatBGpf5
set_option linter.unusedVariables false
set_option linter.unusedSimpArgs false
set_option linter.unnecessarySimpa false
set_option maxRecDepth 100000
namespace Go.Proofs.YtoihoaaiadagaaaGreat
open Go T


section
variable {lo:Nat}{h h':Heap}{w:World}{a1 a2 a3 a4 a:Pq}{c1 c2 c3 c4 c:Nq}{E F F' F1 F2 F3 F4:List Nat}{b n:Nat}
abbrev Vq:Rel (List Place):=Sli true 6 0 (RPlace false)
def Z0 (p:Place):Prop:=CT p∧p.log.length≤55
theorem VM {l:List Place}{k:Nat}{p:Place} (h:∀ x∈l,Z0 x) (hp:Z0 p):∀ x∈l.set k p,Z0 x:=fun x hx=>by
 rcases zcb hx with g | rfl
 ·exact h x g
 ·exact hp
theorem S8 {hh h2:Heap}{A A':List Nat} (m:Mv hh A h2 A') (hb:b<hh.length) (hA:b∉A):b∉A':=fun hm=>by
 rcases m.sub b hm with g | g
 ·exact hA g
 ·omega
theorem Mm {hh h2:Heap}{A F5:List Nat} (m:Mv hh [b] h2 (b :: F5)) (hA:A.Nodup) (hb:∀ y∈A,y<hh.length):(A++F5).Nodup∧b∉F5:=by
 obtain ⟨k1,k2⟩:=zbV.1 m.nd;refine ⟨?_,k1⟩;rw[zbQ];refine ⟨hA,k2,fun y hy z hz e=>?_⟩;subst e;rcases m.sub y (by simp[hz]) with g | g
 ·rw[zbW] at g;subst g;exact k1 hz
 ·have:=hb y hy;omega
theorem Rj (r:Rd lo h b n) (hn:n≤200000) (hl:lo≤h.length) :
  ∃ (l:List Place) (a:Pq) (c:Nq) (a2:Pq) (n2:Nat) (c2:Nq) (a3:Pq) (n3:Nat) (c3:Nq) (a4:Pq) (n4:Nat) (c4:Nq) (h':Heap) (F':List Nat),
   Ae lo 185 [.ptr (some (b,(0,0)))] h=some (.agg [.sl 6 a l.length c,.sl 5 a2 n2 c2,.sl 9 a3 n3 c3,.sl 5 a4 n4 c4],h')∧Vq h' [.sl 6 a l.length c] l F'∧(∀ p∈l,Z0 p)∧(1≤l.length∧l.length≤3)∧b∉F'∧Rd lo h' b (n+6000)∧lo≤h'.length:=by
 obtain ⟨w,a1,c1,a2,c2,a3,c3,a4,c4,h1,F1,F2,F3,F4,e1,H1,hg,hsl,r1,m1⟩:=Vy r (by omega) hl;obtain ⟨bF,hnd⟩:=zbV.1 m1.nd;have hp3:=hg.ok.p3;have hh80:=hg.ok.h80;have hn12:=hg.ok.n12;obtain ⟨k,h2,e2,g2,g2',r2,m2⟩:=pick r1 (by omega) 3;obtain ⟨x,h3,e3,g3,g3',r3,m3⟩:=pick r2 (by omega) 16;have m23:=m2.trans m3;have notb:∀ {G:List Nat},(∀ y∈G,y∈F1++(F2++(F3++F4)))→∀ y∈G,y ∉ [b]:=fun hG y hy hm=>by rw[zbW] at hm;exact bF (hm ▸ hG y hy)
 have keepW:∀ {hh:Heap},Mv h1 [b] hh [b]→WR lo hh w a1 c1 a2 c2 a3 c3 a4 c4 F1 F2 F3 F4:=fun m=>⟨m.keep rplaces_ok H1.r1 (notb fun y hy=>by simp[hy]),m.keep rsesss_ok H1.r2 (notb fun y hy=>by simp[hy]),m.keep rframes_ok H1.r3 (notb fun y hy=>by simp[hy]),m.keep rdones_ok H1.r4 (notb fun y hy=>by simp[hy]),H1.nd,H1.ge,zbN H1.hl m.le⟩
 have H:=keepW m23;have bF1:b∉F1:=fun hm=>bF (by simp[hm]);have hsm:∀ p∈w.places,Z0 p:=fun p hp=>⟨(W4 hg).1.2 p hp,by
  obtain ⟨i,hi⟩:=zb5.1 hp;have:=(hg.room p hp).len (hg.ok.place i p hi).2;omega⟩
 have hk3:=g2' (by omega);obtain ⟨k,rfl⟩:∃ q:Nat,k=(q:Int):=⟨k.toNat,by omega⟩;have hk:k<w.places.length:=by omega
 obtain ⟨hpo,_,_⟩:=hg.at hk;have hpsm:=(hsm _ (zbO hk)).1;have hplog:w.places[k].log.length≤54:=(hg.room _ (zbO hk)).len hpo;obtain ⟨⟨n1,_⟩,d12,d13,d14,_⟩:=Sq H.nd;have hge1:∀ y∈F1,lo≤y:=fun y hy=>H.ge y (by simp[hy]);have hset:∀ p':Place,(w.places.set k p').length=w.places.length:=fun p'=>by simp
 suffices hkk:∃ (l:List Place) (a:Pq) (c:Nq) (a2:Pq) (n2:Nat) (c2:Nq) (a3:Pq) (n3:Nat) (c3:Nq) (a4:Pq) (n4:Nat) (c4:Nq) (h':Heap) (F':List Nat),
   _=some (V.agg [.sl 6 a l.length c,.sl 5 a2 n2 c2,.sl 9 a3 n3 c3,.sl 5 a4 n4 c4],h')∧Vq h' [.sl 6 a l.length c] l F'∧(∀ p∈l,Z0 p)∧(1≤l.length∧l.length≤3)∧b∉F'∧Rd lo h' b (n+6000)∧lo≤h'.length from by
  obtain ⟨l,a,c,a2,n2,c2,a3,n3,c3,a4,n4,c4,h',F',e,hr⟩:=hkk;exact ⟨l,a,c,a2,n2,c2,a3,n3,c3,a4,n4,c4,h',F',LN e,hr⟩
 simp only[World.cs] at e1;rw[e1,Ac,AC,Ab,Ah,Ab,Ah,Ab,Ah,Ab,Ah,Ag,e2,Ac,Aa,e3,Ac,Aa];cases x==(0:Int) with
 | true =>obtain ⟨g,h4,e4,_,r4,m4⟩:=DV (e:=3) [-1,0,1000] (rows := [[Iv (-1)],[Iv 0],[Iv 1000]]) (len:=3) (cc:=some 3) r3 (by omega) rfl rfl (by decide);have H4:=keepW (m23.trans m4);obtain ⟨b0,i0,rs,row,G,ha,_,_,hb,hrow,hel,hGF,hGn,_,put⟩:=Sli.at (lo:=lo) rplace_ok H4.r1 hk n1 hge1;obtain ⟨s1,s2,s3,G1,G2,G3,rfl,rfl,q1,q2,q3⟩:=hel;subst ha;obtain ⟨h5,F5,e5,t5,m5,_⟩:=put h4 (G1++(G2++G3)) 1 [Iv g] [Iv w.places[k].me,Iv g,s1,s2,s3,.bool w.places[k].fell] ⟨w.places[k].me,g,w.places[k].chain,w.places[k].log,w.places[k].got,w.places[k].fell⟩ (Mv.refl hGn) rfl ⟨_,_,_,G1,G2,G3,rfl,rfl,q1,q2,q3⟩;rw[An,e4,Ac,Aa,Ad hk,Af,A7,e5,Af,← hset ⟨w.places[k].me,g,w.places[k].chain,w.places[k].log,w.places[k].got,w.places[k].fell⟩];rw[← hset ⟨w.places[k].me,g,w.places[k].chain,w.places[k].log,w.places[k].got,w.places[k].fell⟩] at t5;exact ⟨_,_,_,_,_,_,_,_,_,_,_,_,h5,F5,rfl,t5.toRo,VM hsm ⟨⟨hpsm.1,hpsm.2.1,hpsm.2.2⟩,by show w.places[k].log.length≤55;omega⟩,by rw[hset];omega,S8 m5 r4.lt bF1,(r4.keep m5 bF1 hge1).up (by omega),zbN H4.hl m5.le⟩
 | false =>
 rw[Au];cases x==(1:Int) with
 | true =>
  obtain ⟨v,av,cv,h4,F5,e4,t4,hv,r4,m4⟩:=Kz r3 (by omega) H.hl;obtain ⟨nd5,b5⟩:=Mm m4 n1 H.lt.1;have hr1:=m4.keep rplaces_ok H.r1 (notb fun y hy=>by simp[hy]);have hF5:=rtags_ok.bd _ _ _ _ t4;obtain ⟨b',i',rs,row,G,rfl,hbF,hbG,hb1,hb2,hel,hGF,hGn,put⟩:=Sli.at_aside (lo:=lo) (E:=F5) rplace_ok hr1 hk nd5 hge1 hF5;obtain ⟨s1,s2,s3,G1,G2,G3,rfl,rfl,q1,q2,q3⟩:=hel;obtain ⟨aw,cw,esw,q2⟩:=q2.form;obtain ⟨nG1,nG23,dG1⟩:=zbQ.1 hGn;obtain ⟨nG2,nG3,dG23⟩:=zbQ.1 nG23;have dF5:∀ y∈G1++(G2++G3),y∉F5:=fun y hy hm=>(zbQ.1 nd5).2.2 y (hGF y hy) y hm rfl;have hlog:=(Cg hpo).log.1;have hH1:=rnodes_ok.bd _ _ _ _ q1;have hH2:=rvers_ok.bd _ _ _ _ q2;have hH3:=rvss_ok.bd _ _ _ _ q3;have mx:Mv h4 [] (h4 ++ [.rows 6 34 false [v.cs av cv]]) []:=Mv.snoc;have q2x:=mx.keep0 rvers_ok q2;have t5x:=mx.keep0 rtags_ok t4;have hl4:=zbN H.hl m4.le;obtain ⟨a6,c6,h6,F6,p1,p2,p3,p4,p5,p6⟩:=Sli.push (lo:=lo) (bytes:=72) (e:=34) rver_ok.fr q2x (xs := [v.cs av cv]) (ys := [v]) (Gs := [F5]) ⟨⟨_,rfl,t5x⟩,trivial⟩ (by decide) (by simp;omega) (fun y hy=>hge1 y (hGF y (by simp[hy]))) (by simp;omega)
   (by
    rw[zbQ];refine ⟨nG2,by simpa using (zbQ.1 nd5).2.1,fun y hy z hz e=>?_⟩;subst e;exact dF5 y (by simp[hy]) (by simpa using hz))
   (fun y hy=>by
    rw[zbP] at hy;rw[zbX];rcases hy with hy | hy
    ·have:=hH2 y hy;omega
    ·have:=hF5 y (by simpa using hy);omega) (by simp)
  simp only[zb6] at p1 p2;have hfin:∀ y∈F6,y∈G2∨y∈F5∨(h4.length≤y∧y<h6.length):=fun y hy=>by
   rcases p5 y hy with g | g
   ·rw[zbP] at g;rcases g with g | g
    ·exact .inl g
    ·exact .inr (.inl (by simpa using g))
   ·rw[zbX] at g;exact .inr (.inr (by omega))
  have hlen:h4.length≤h6.length:=by rw[zbX] at p3;omega
  have fr:∀ y,y<h4.length→y∉G2→h6[y]?=h4[y]?:=fun y hy hn=>by rw[p4 y (by rw[zbX];omega) hn,zbS hy]
  have hmv:Mv h4 ((G1++(G2++G3))++F5) h6 (G1++(F6++G3)):=by
   refine ⟨hlen,fun y hy hn=>fr y hy fun hm=>hn (by simp[hm]),?_,fun y hy=>?_⟩
   ·rw[zbQ,zbQ];refine ⟨nG1,⟨p6,nG3,fun y hy z hz e=>?_⟩,fun y hy z hz e=>?_⟩
    ·subst e;rcases hfin y hy with g | g | g
     ·exact dG23 y g y hz rfl
     ·exact dF5 y (by simp[hz]) g
     ·have:=hH3 y hz;omega
    ·subst e;rcases zbP.1 hz with hz | hz
     ·rcases hfin y hz with g | g | g
      ·exact dG1 y hy y (by simp[g]) rfl
      ·exact dF5 y (by simp[hy]) g
      ·have:=hH1 y hy;omega
     ·exact dG1 y hy y (by simp[hz]) rfl
   ·simp only[zbP] at hy;rcases hy with hy | hy | hy
    ·exact .inl (by simp[hy])
    ·rcases hfin y hy with g | g | g
     ·exact .inl (by simp[g])
     ·exact .inl (by simp[g])
     ·exact .inr g
    ·exact .inl (by simp[hy])
  have q1x:=rnodes_ok.fr _ _ _ _ _ q1 fun y hy=>fr y (hH1 y hy) fun hm=>dG1 y hy y (by simp[hm]) rfl;have q3x:=rvss_ok.fr _ _ _ _ _ q3 fun y hy=>fr y (hH3 y hy) fun hm=>dG23 y hm y hy rfl;obtain ⟨h7,F7,e7,t7,m7⟩:=put h6 (G1++(F6++G3)) 3 [.sl 6 a6 (w.places[k].log.length+1) c6] [Iv w.places[k].me,Iv w.places[k].clock,s1,.sl 6 a6 (w.places[k].log.length+1) c6,s3,.bool w.places[k].fell] ⟨w.places[k].me,w.places[k].clock,w.places[k].chain,w.places[k].log ++ [v],w.places[k].got,w.places[k].fell⟩ hmv rfl ⟨_,_,_,G1,F6,G3,rfl,rfl,q1x,p2,q3x⟩;have l5:ld h4 b' (i'+k) 3 1=some [s2]:=by rw[BB hb1 hb2];rfl
  have l3:ld h3 b' (i'+k) 3 1=some [s2]:=by have hb3:h4[b']?=h3[b']?:=m4.fr b' (H.lt.1 b' hbF) (fun hm=>bF1 (by rw[zbW] at hm;exact hm ▸ hbF));rw[← Ph hb3];exact l5
  have l6:ld (h4 ++ [.rows 6 34 false [v.cs av cv]]) b' (i'+k) 3 1=some [s2]:=by rw[Ph (zbS (zb1 (H.lt.1 b' hbF) m4.le))];exact l5
  simp only[Ver.cs] at e4 p1 l6;rw[An,Ad hk,Af,A7,l3,Af,Ab,Ag,esw,e4,Ac,AC,Ab,Aa,Ab,Aa,Ab,Aa,Ab,Ah,Ab,A8,Ab,Aw,Ag,l5,l6,PR,Do,Do,AZ,p1,Ah,Ad hk,Af,e7,Af];have hs':=hset ⟨w.places[k].me,w.places[k].clock,w.places[k].chain,w.places[k].log ++ [v],w.places[k].got,w.places[k].fell⟩;rw[← hs'] at t7 ⊢;refine ⟨_,_,_,_,_,_,_,_,_,_,_,_,h7,F7,rfl,t7.toRo,VM hsm ⟨⟨hpsm.1,⟨by simp;omega,fun u hu=>?_⟩,hpsm.2.2⟩,by show (w.places[k].log ++ [v]).length≤55;simp;omega⟩,by rw[hs'];omega,S8 m7 r4.lt (fun hm=>(zbP.1 hm).elim bF1 b5),((r4.keep m7 (fun hm=>(zbP.1 hm).elim bF1 b5) fun y hy=>(zbP.1 hy).elim (hge1 y) fun g=>m4.ge H.hl (fun z hz=>by rw[zbW] at hz;subst hz;exact r3.ge) y (by simp[g]))).up (by omega),zbN hl4 m7.le⟩;rcases zbP.1 hu with hu | hu
  ·exact hpsm.2.1.2 u hu
  ·rw[zbW] at hu;subst hu;exact ⟨by omega,by omega⟩
 | false =>
 rw[Au];cases x==(2:Int) with
 | true =>
  obtain ⟨l,al,cl,h4,G4,e4,t4,sm4,r4,m4⟩:=Rl r3 (by omega) H.hl;obtain ⟨nd5,b5⟩:=Mm m4 n1 H.lt.1;have hr1:=m4.keep rplaces_ok H.r1 (notb fun y hy=>by simp[hy]);have hG4:=rnodes_ok.bd _ _ _ _ t4;obtain ⟨b',i',rs,row,G,rfl,hbF,hbG,hb1,hb2,hel,hGF,hGn,put⟩:=Sli.at_aside (lo:=lo) (E:=G4) rplace_ok hr1 hk nd5 hge1 hG4;obtain ⟨s1,s2,s3,H1',H2',H3',rfl,rfl,q1,q2,q3⟩:=hel;have nd23:(G4++(H2'++H3')).Nodup:=by rw[zbQ];refine ⟨(zbQ.1 nd5).2.1,(zbQ.1 hGn).2.1,fun y hy z hz e=>?_⟩;subst e;exact (zbQ.1 nd5).2.2 y (hGF y (zci _ hz)) y hy rfl
  have hmv:Mv h4 ((H1'++(H2'++H3'))++G4) h4 (G4++(H2'++H3')):=⟨zbR _,fun _ _ _=>rfl,nd23,fun y hy=>by
   simp only[zbP] at hy ⊢;left;grind⟩
  obtain ⟨h5,F5,e5,t5,m5⟩:=put h4 (G4++(H2'++H3')) 2 [.sl 2 al l.length cl] [Iv w.places[k].me,Iv w.places[k].clock,.sl 2 al l.length cl,s2,s3,.bool w.places[k].fell] ⟨w.places[k].me,w.places[k].clock,l,w.places[k].log,w.places[k].got,w.places[k].fell⟩ hmv rfl ⟨_,_,_,G4,H2',H3',rfl,rfl,t4,q2,q3⟩;rw[An,e4,Ac,AC,Ab,Ah,Ag,Ad hk,Af,A7,e5,Af];have hs':=hset ⟨w.places[k].me,w.places[k].clock,l,w.places[k].log,w.places[k].got,w.places[k].fell⟩;rw[← hs'] at t5 ⊢;exact ⟨_,_,_,_,_,_,_,_,_,_,_,_,h5,F5,rfl,t5.toRo,VM hsm ⟨⟨sm4,hpsm.2.1,hpsm.2.2⟩,by show w.places[k].log.length≤55;omega⟩,by rw[hs'];omega,S8 m5 r4.lt (fun hm=>(zbP.1 hm).elim bF1 b5),((r4.keep m5 (fun hm=>(zbP.1 hm).elim bF1 b5) fun y hy=>(zbP.1 hy).elim (hge1 y) fun g=>m4.ge H.hl (fun z hz=>by rw[zbW] at hz;subst hz;exact r3.ge) y (by simp[g]))).up (by omega),zbN (zbN H.hl m4.le) m5.le⟩
 | false =>
 rw[Au];cases x==(3:Int) with
 | true =>
  obtain ⟨a',c',F',k1,k2,k3⟩:=H.r1.one_on (e':=0) (by omega);rw[An,k1];have hdl:(w.places.drop 1).length=w.places.length - 1:=by simp
  exact ⟨w.places.drop 1,_,_,_,_,_,_,_,_,_,_,_,h3,F',rfl,k2,fun p hp=>hsm p (zdj hp),by omega,fun hm=>bF1 (k3 b hm),r3.up (by omega),H.hl⟩
 | false =>
 rw[Au];cases x==(4:Int) with
 | true =>
  obtain ⟨g,h4,e4,_,_,r4,m4⟩:=pick r3 (by omega) 3;have H4:=keepW (m23.trans m4);obtain ⟨v,q,h5,F5,e5,t5,hv,r5,m5⟩:=L4 r4 (by omega) H4.hl;obtain ⟨⟨_,_,n3,_⟩,_⟩:=Sq H4.nd;have bF3:b∉F3:=fun hm=>bF (by simp[hm]);obtain ⟨nd5,b5⟩:=Mm m5 n3 H4.lt.2.2.1;have hr3:=m5.keep rframes_ok H4.r3 (notb fun y hy=>by simp[hy]);have hr1:=m5.keep rplaces_ok H4.r1 (notb fun y hy=>by simp[hy]);have hF5:=rtags_ok.bd _ _ _ _ t5;have hF3:=rframes_ok.bd _ _ _ _ hr3;have hl5:=zbN H4.hl m5.le;have mx:Mv h5 [] (h5 ++ [.rows 9 172 false [Iv (k:Nat) :: Iv g :: Iv 0 :: v.cs (some (q,0)) (some 4)]]) []:=Mv.snoc;have hr3x:=mx.keep0 rframes_ok hr3;have t5x:=mx.keep0 rtags_ok t5;have hge3:∀ y∈F3,lo≤y:=fun y hy=>H.ge y (by simp[hy]);obtain ⟨a6,c6,h6,F6,p1,p2,p3,p4,p5,p6⟩:=Sli.push (lo:=lo) (bytes:=96) (e:=172) rframe_ok.fr hr3x (xs := [Iv (k:Nat) :: Iv g :: Iv 0 :: v.cs (some (q,0)) (some 4)]) (ys := [⟨(k:Nat),g,0,v⟩]) (Gs := [F5]) ⟨⟨_,rfl,_,rfl,t5x⟩,trivial⟩ (by decide) (by simp;omega) hge3 (by simp;omega)
   (by simpa using nd5)
   (fun y hy=>by
    rw[zbP] at hy;rw[zbX];rcases hy with hy | hy
    ·have:=hF3 y hy;omega
    ·have:=hF5 y (by simpa using hy);omega) (by simp)
  simp only[zb6] at p1 p2;have hlen:h5.length≤h6.length:=by rw[zbX] at p3;omega
  have fr:∀ y,y<h5.length→y∉F3→h6[y]?=h5[y]?:=fun y hy hn=>by rw[p4 y (by rw[zbX];omega) hn,zbS hy]
  have m6:Mv h5 F3 h6 []:=⟨hlen,fr,by simp,by simp⟩;simp only[Ver.cs] at e5 p1;rw[An,e4,Ac,Aa,e5,Ac,AC,Ab,Aa,Ab,Aa,Ab,Aa,Ab,Ah,Ab,A8,Ab,Aw,Ag,AZ,p1,Ah];exact ⟨w.places,_,_,_,_,_,_,_,_,_,_,_,h6,F1,rfl,(m6.keep rplaces_ok hr1 d13).toRo,hsm,by omega,bF1,(r5.keep m6 bF3 hge3).up (by omega),zbN hl5 hlen⟩
 | false =>
 rw[Au];cases x==(5:Int) with
 | true =>
  obtain ⟨x1,k1,f1,_,_,r4,m4⟩:=pick r3 (by omega) 5;obtain ⟨x2,k2,f2,_,_,r5,m5⟩:=pick r4 (by omega) 5;obtain ⟨x3,k3,f3,_,_,r6,m6⟩:=pick r5 (by omega) 5;obtain ⟨t,k4,f4,r7,m7⟩:=KA r6 (by omega);have H4:=keepW ((((m23.trans m4).trans m5).trans m6).trans m7);obtain ⟨a5,c5,h5,G5,_,H5,M5,s5⟩:=EA (d:=⟨x1,x2,x3,t⟩) H4 (by omega);obtain ⟨⟨_,_,_,n4⟩,_,_,d14',_⟩:=Sq H4.nd;obtain ⟨a6,c6,h6,F6,e6,r8,m8⟩:=D9 (lo:=lo) (bytes:=40) (e:=174) (El:=flat Done.cs) CK H4.r4 (row:=Done.cs ⟨x1,x2,x3,t⟩) (x:=⟨x1,x2,x3,t⟩) (G := []) (h1:=k4 ++ [.rows 5 174 false [Done.cs ⟨x1,x2,x3,t⟩]])
   ⟨rfl,rfl⟩ Mv.snoc n4 (fun y hy=>H4.ge y (by simp[hy])) H4.hl (by decide) (by omega)
  simp only[Tag.cs] at f4;simp only[Done.cs] at e6;rw[An,f1,Ac,Aa,f2,Ac,Aa,f3,Ac,Aa,f4,Ac,AC,Ab,Aa,Ab,Aa,Ag,AZ,e6,Ah];exact ⟨w.places,_,_,_,_,_,_,_,_,_,_,_,h6,F1,rfl,(m8.keep rplaces_ok H4.r1 fun y hy hm=>d14' y hy hm).toRo,hsm,by omega,bF1,(r7.keep m8 (fun hm=>bF (by simp[hm])) fun y hy=>H4.ge y (by simp[hy])).up (by omega),zbN H4.hl m8.le⟩
 | false =>
 rw[Au];cases x==(6:Int) with
 | true =>
  obtain ⟨l,al,cl,h4,G4,e4,t4,_,r4,m4⟩:=XM r3 (by omega) H.hl;obtain ⟨⟨_,n2,_,_⟩,_⟩:=Sq H.nd;have bF2:b∉F2:=fun hm=>bF (by simp[hm]);obtain ⟨nd5,b5⟩:=Mm m4 n2 H.lt.2.1;have hr2:=m4.keep rsesss_ok H.r2 (notb fun y hy=>by simp[hy]);have hr1:=m4.keep rplaces_ok H.r1 (notb fun y hy=>by simp[hy]);have hG4:=rtags_ok.bd _ _ _ _ t4;have hge2:∀ y∈F2,lo≤y:=fun y hy=>H.ge y (by simp[hy]);obtain ⟨b',i',rs,row,G,rfl,hbF,hbG,hb1,hb2,hel,hGF,hGn,put⟩:=Sli.at_aside (lo:=lo) (E:=G4) (k:=0) Jd hr2 (by omega) nd5 hge2 hG4;obtain ⟨v,rfl,hv⟩:=hel;have hmv:Mv h4 (G++G4) h4 G4:=⟨zbR _,fun _ _ _=>rfl,(zbQ.1 nd5).2.1,fun y hy => .inl (by simp[hy])⟩;obtain ⟨h5,F5,e5,t5,m5⟩:=put h4 G4 1 [.sl 2 al l.length cl] [Iv w.sess[0].place,.sl 2 al l.length cl,Iv w.sess[0].wait.time,Iv w.sess[0].wait.place,Iv w.sess[0].key] ⟨w.sess[0].place,l,w.sess[0].wait,w.sess[0].key⟩ hmv rfl ⟨_,rfl,t4⟩;have hG4':∀ y∈G4,h3.length≤y:=fun y hy=>by
   rcases m4.sub y (by simp[hy]) with g | g
   ·rw[zbW] at g;subst g;exact absurd hy b5
   ·exact g.1
  rw[An,e4,Ac,AC,Ab,Ah,Ag,Cl ⟨by omega,by omega⟩,Af,e5,Af];exact ⟨w.places,_,_,_,_,_,_,_,_,_,_,_,h5,F1,rfl,(m5.keep rplaces_ok hr1 fun y hy hm=>(zbP.1 hm).elim (d12 y hy) fun g=>by have:=hG4' y g;have:=H.lt.1 y hy;omega).toRo,hsm,by omega,bF1,(r4.keep m5 (fun hm=>(zbP.1 hm).elim bF2 b5) fun y hy=>(zbP.1 hy).elim (hge2 y) fun g=>zbN H.hl (hG4' y g)).up (by omega),zbN (zbN H.hl m4.le) m5.le⟩
 | false =>rw[Au];exact ⟨w.places,_,_,_,_,_,_,_,_,_,_,_,h3,F1,rfl,H.r1.toRo,hsm,by omega,bF1,r3.up (by omega),H.hl⟩
theorem PX (r:Rd lo h b n) (hn:n≤200000) (hl:lo≤h.length) :
  ∃ (p:Place) (cs:List V) (h':Heap) (F':List Nat),Ae lo 94 [.ptr (some (b,(0,0)))] h=some (.agg cs,h')∧BZ false h' cs p F'∧Z0 p∧b∉F'∧Rd lo h' b (n+6001)∧lo≤h'.length:=by
 obtain ⟨l,a,c,a2,n2,c2,a3,n3,c3,a4,n4,c4,h1,F1,e1,t1,hsm,hlen,hb,r1,hl1⟩:=Rj r hn hl;obtain ⟨x,h2,e2,g2,g2',r2,m2⟩:=pick r1 (by omega) ((l.length:Nat):Int);have hx:=g2' (by omega);obtain ⟨k,rfl⟩:∃ k:Nat,x=(k:Int):=⟨x.toNat,by omega⟩;have hk:k<l.length:=by omega
 have t2:=m2.keep (Sli.ok rplace_ok) t1 fun y hy hm=>hb (by rw[zbW] at hm;exact hm ▸ hy);obtain ⟨o,row,G,ha,hld,hel,hG,_⟩:=t2.read hk;obtain ⟨s1,s2,s3,b1,d1,b2,d2,b3,d3,G1,G2,G3,rfl,rfl,es1,es2,es3,q1,q2,q3⟩:=hel.form;have hld6:ld h2 o.1 (o.2+k) 0 6=some [Iv l[k].me,Iv l[k].clock,s1,s2,s3,.bool l[k].fell]:=by rw[hld];exact HW rfl
 refine ⟨l[k],l[k].cs b1 d1 b2 d2 b3 d3,h2,G1++(G2++G3),O0 ?_,⟨_,_,_,_,_,_,rfl,_,_,_,G1,G2,G3,rfl,rfl,q1,q2,q3⟩,hsm _ (zbO hk),fun hm=>hb (hG b hm),r2.up (by omega),zbN hl1 m2.le⟩;rw[e1,Ac,AC,Ab,Ah,Ab,Ah,Ab,Ah,Ab,Ah,Ag,e2,Ac,Aa,Ad hk,ha,Af,A7,hld6,Af,Ab,Aa,Ab,Aa,Ab,es1,Ab,es2,Ab,es3,Ab,Aw,Ag]
end


section
variable {h:Heap}
theorem zbm {n t:Nat}{xs:List V} (hu:Tryz.prog.underlying t=some (.int .u8)) (hx:TV Tryz.prog h (n+1) t xs):∃ u:UInt8,xs=zbz u:=by
 simp only[TV,hu] at hx;obtain ⟨i,rfl,h2⟩:=hx;have e1:IntKind.u8.min=0:=by decide
 have e2:IntKind.u8.max=255:=by decide
 simp only[Lit.wf,Dm,decide_eq_true_eq,e1,e2] at h2;refine ⟨UInt8.ofNat i.toNat,?_⟩;unfold zbz;rw[UInt8.toNat_ofNat',Nat.mod_eq_of_lt (by omega),show ((i.toNat:Nat):Int)=i by omega]
theorem Vm {n:Nat}{x:V} (hx:ArgV Tryz.prog h (n+2) 22 x):∃ (a:Pq) (c:Nq) (l:List UInt8) (F:List Nat),x = .sl 1 a l.length c∧RBytes h [.sl 1 a l.length c] l F∧(∀ y∈F,y<h.length)∧∀ k,c=some k→l.length≤k:=by
 have hx2:TV Tryz.prog h (n+2) 22 [x]:=by unfold ArgV at hx;rw[Tryz.underlying22] at hx;exact hx
 have hx3:=hx2;simp only[TV,Tryz.underlying22] at hx3;obtain ⟨a,c,rs,e,⟨_,hcap⟩,_⟩:=hx3;injection e with e _;subst e;obtain ⟨l,F,h1,_⟩:=zaT (El:=flat zbz) (bd:=fun _=>True) (ee:=0) (R:=1) Tryz.underlying22 (by kernel_rfl) (fun row hr=>by obtain ⟨t,rfl⟩:=zbm (n:=n) Tryz.underlying5 hr;exact ⟨t,[],⟨rfl,rfl⟩,trivial⟩) hx2;have hv:=h1.val;have hc:Tryz.prog.cellsOf 5=1:=by kernel_rfl
 rw[hv,hc] at h1;exact ⟨a,c,l,F,by rw[hv,hc],h1,(Sli.ok CK).bd _ _ _ _ h1,fun k hk=>by rw[← hv];exact hcap k hk⟩
end


section
variable {lo:Nat}{ro ro':Bool}{h:Heap}{F F':List Nat}
theorem Pn {p:Place}{a1 a2 a3 a1' a2' a3':Pq}{c1 c2 c3 c1' c2' c3':Nq} (h1:RPlace ro h (p.cs a1 c1 a2 c2 a3 c3) p F) (h2:RPlace ro' h (p.cs a1' c1' a2' c2' a3' c3') p F') (hn:CT p) :
  Ae lo 24 [.agg (p.cs a1 c1 a2 c2 a3 c3),.agg (p.cs a1' c1' a2' c2' a3' c3')] h=some (.bool true,h):=by
 obtain ⟨n1,n2,n3⟩:=hn;have n3':=n3.1;obtain ⟨G1,G2,G3,_,p1,p2,p3⟩:=h1.cells;obtain ⟨G1',G2',G3',_,q1,q2,q3⟩:=h2.cells;refine QV (h':=h) ?_;rw[MO,An,MO,An,zby,An,zaG p1 q1 n1,Ac,Av,An,QI p2 q2 n2,Ac,Av,An,MO,An];refine (Hp (n:=p.got.length) (fun i=>CF h.length false (i:Nat) p.me p.clock a1 p.chain.length c1 a2 p.log.length c2 a3 p.got.length c3 p.fell p.me p.clock a1' p.chain.length c1' a2' p.log.length c2' a3' p.got.length c3' p.fell h) fun i hi=>?_).trans ?_
 ·obtain ⟨o,s,b1,d1,G,ha,ho,es,hp,_⟩:=p3.get hi;obtain ⟨o',s',b1',d1',G',ha',ho',es',hp',_⟩:=q3.get hi;rw[CF.e,Ak (by omega),Ad hi,ha,Af,A7,ho,Af,Ab,Ag,es,Ad hi,ha',Af,ho',Af,Ab,Ag,es',QI hp hp' (n3.2 _ (zbO hi)),Ac,Av,An,Am (show i<9223372036854775807 by omega)]
 ·rw[CF.e,Ai (by omega)]
end


section
variable {lo:Nat}{h:Heap}{F F':List Nat}{a:Pq}{c:Nq}
theorem Vj {l:List Node} (hs:RNodes false h [.sl 2 a l.length c] l F) (hl:lo≤h.length) (hn:Ci l) (hc:Ch l) (hca:Ed l=true):∃ h',Ae lo 32 [.agg [.sl 2 a l.length c]] h=some (.bool true,h')∧Mv h [] h' []:=by
 obtain ⟨a1,c1,h1,F1,e1,r1,m1⟩:=NF (lo:=lo) hs hl hn hc;have hs1:=m1.keep0 rnodes_ok hs;have hn1:=hn.1;refine ⟨h1,O7 ?_,m1.drop⟩;rw[e1,Ac,AC,Ab,Ah,Ag];refine (Hp (n:=l.length) (fun i=>Cv lo false (i:Nat) a l.length c a1 (AS l).length c1 h1) fun i hi=>?_).trans ?_
 ·rw[Cv.e,Ak (by omega)];have hx:=Dd hi;have h4:=(hc.store hx).2;refine (Hp (n:=4) (fun j=>B5 lo false (i:Nat) (j:Nat) a l.length c a1 (AS l).length c1 h1) fun j hj=>?_).trans ?_
  ·obtain ⟨o,s1,s2,b1,d1,b2,d2,G1,G2,ha,ho,ho1,ho2,es1,es2,p1,p2,_⟩:=hs1.get hi;have hj4:j<l[i].store.length:=by omega
   obtain ⟨o',s,b3,d3,G,ha',ho',es,hp,_⟩:=p1.get hj4;rw[B5.e,Ak (by omega),Ad hi,ha,Af,A7,ho1,Af,Ab,Ag,es1,Ad hj4,ha',Af,A7,ho',Af,Ab,Aa,Ab,Aa,Ab,Aa,Ab,es,Ab,A8,Ab,Aw,Ag,← ha];by_cases ht:l[i].store[j].tag.time>0
   ·have hin:inCh l l[i].store[j]:=⟨l[i],zbO hi,.inl (zbO hj4)⟩;have hv:=hc.ver hin ht;rw[Ak ht,OO hp r1 (AN hv).2.2.2.1 (Od hc),Ac,Av,(LF hc).1 hca _ hin ht,An,Am (by omega)]
   ·rw[Ai ht,Am (by omega)]
  ·rw[B5.e,Ai (by omega),Am (by omega)]
 ·rw[Cv.e,Ai (by omega)]
theorem RV {a0:Pq}{c0:Nq}{code:List UInt8} (hs:RBytes h [.sl 1 a0 code.length c0] code F) (hF:∀ y∈F,y<lo) (hl:lo≤h.length) (hn:code.length≤1048576) (hcap:∀ k,c0=some k→code.length≤k) :
  ∃ (p:Place) (cs:List V) (k:Int) (h':Heap) (F':List Nat),Ae lo 33 [.sl 1 a0 code.length c0] h=some (.tup [.agg cs,Iv k],h')∧BZ false h' cs p F'∧Z0 p∧lo≤h'.length:=by
 obtain ⟨b,h1,e1,r1,m1⟩:=Sm hs hF hl hn hcap;obtain ⟨p,cs,h2,F2,e2,t2,sm2,hb,r2,l2⟩:=PX r1 (by omega) (zbN hl m1.le);obtain ⟨k,h3,e3,_,r3,m3⟩:=DV (e:=3) [0,0,1,1,2,3] (rows := [[Iv 0],[Iv 0],[Iv 1],[Iv 1],[Iv 2],[Iv 3]]) (len:=6) (cc:=some 6) r2 (by omega) rfl rfl (by decide);refine ⟨p,cs,k,h3,F2,KE ?_,m3.keep DH t2 (fun y hy hm=>hb (by rw[zbW] at hm;exact hm ▸ hy)),sm2,zbN l2 m3.le⟩;obtain ⟨x1,y1,x2,y2,x3,y3,rfl,_⟩:=t2;rw[e1,Ac,zbw,e2,Ac,AC,Ab,Aa,Ab,Aa,Ab,Ah,Ab,Ah,Ab,Ah,Ab,Aw,Ag,e3,Ac,Aa]
end


theorem XN {p:Place}{f:Int} (hc:A4 p.chain f=true):(Bo p f).me=p.me∧(∀ v∈DI (Bo p f).chain,0<v.tag.time→v.tag.place=p.me→Bw (Bo p f).log v.tag=true)∧∃ r,(Bo p f).log=p.log++r:=by
 have hx:Bo p f=BL (FV p f.toNat):=by unfold Bo;rw[hc];rfl
 rw[hx];exact ⟨rfl,noted_has.1,noted_has.2⟩
theorem XY {l:List Node} (h0:0<l.length):DI l=(l[l.length - 1]'(by omega)).store:=D2 h0
theorem OK {h:Heap}{F:List Nat}{a0:Pq}{c0:Nq}{code:List UInt8} (hs:RBytes h [.sl 1 a0 code.length c0] code F) (hF:∀ y∈F,y<h.length) (hcap:∀ k,c0=some k→code.length≤k) :
  ∃ h',Ae h.length 6 [.sl 1 a0 code.length c0] h=some (.bool true,h'):=by
 suffices hk:∃ h',_=some (V.bool true,h') from by obtain ⟨h',e⟩:=hk;exact ⟨h',LQ e⟩
 by_cases hbig:(code.length:Int)>1048576
 ·rw[Ak hbig];exact ⟨h,rfl⟩
 rw[Ai hbig];obtain ⟨p,cs,f,h1,F1,e1,r1,sm1',l1⟩:=RV (lo:=h.length) hs hF (zbR _) (by omega) hcap;have sm1:=sm1'.1;obtain ⟨raw2,cs2,h2,F2,e2,n2,r2,m2⟩:=Qk (lo:=h.length) (k:=f) r1 l1 sm1;have r12:=m2.keep0 DH r1;have l2:=zbN l1 m2.le;obtain ⟨raw3,cs3,h3,F3,e3,n3,r3,m3⟩:=PK (lo:=h.length) (k:=f) r12 l2 sm1;have r13:=m3.keep0 DH r12;have l3:=zbN l2 m3.le;have r23:=m3.keep0 DH r2;have hX:∃ X,DT p (Bo p f)=X:=⟨_,rfl⟩;obtain ⟨X,hX⟩:=hX;have hokx:Ao p=true→Ao (Bo p f)=true:=fun hpo=>WQ hpo (by have:=sm1'.2;omega);have hsm:CT X:=by
  rw[← hX];unfold DT;cases hpo:Ao p with
  | false=>exact WL
  | true=>exact (Fe (Cg (hokx hpo)) (by decide) (by decide) (by decide)).1
 rw[hX] at n2 n3 r3 r23;obtain ⟨s1,s2,s3,x1,y1,x2,y2,x3,y3,rfl,k1,k2,k3,rfl⟩:=n2;obtain ⟨t1,t2,t3,z1,w1,z2,w2,z3,w3,rfl,j1,j2,j3,rfl⟩:=n3;obtain ⟨b1,d1,b2,d2,b3,d3,rfl,q1⟩:=r13;obtain ⟨_,_,_,_,_,_,_,q2⟩:=r23;obtain ⟨_,_,_,_,_,_,_,q3⟩:=r3;obtain ⟨K1,K2,K3,hF2eq,f1,f2,f3⟩:=q2.cells;obtain ⟨G1,G2,G3,_,g1,g2,g3⟩:=q1.cells;simp only[Place.cs] at e1 e2 e3;have cf:=Pn (lo:=h.length) q2 q3 hsm;have ok1:=Ga (lo:=h.length) g1 g2 g3 sm1;simp only[Place.cs] at cf ok1;rw[e1,Ac,Ge,Ab,AC,Ab,Aa,Ab,Aa,Ab,Ah,Ab,Ah,Ab,Ah,Ab,Aw,Ag,Ab,Aa,Ag,e2,Ac,Ge,Ab,AC,Ab,Aa,Ab,Aa,Ab,k1,Ab,k2,Ab,k3,Ab,Aw,Ag,Ab,Av];cases hpo:Ao p with
 | false =>rw[hpo] at e3 ok1;rw[zcZ] at e3 ⊢;rw[Au,Ag,e3,Ac,Ge,Ab,AC,Ab,Aa,Ab,Aa,Ab,j1,Ab,j2,Ab,j3,Ab,Aw,Ag,Ab,Av,Au,Ag,cf,Ac,Av,An,ok1,Ac,Av,Au,cf,Ac,Av,An];exact ⟨_,rfl⟩
 | true =>
 rw[hpo] at e3 ok1;rw[zb8] at e3 ⊢;have hX':X=Bo p f:=by rw[← hX];unfold DT;rw[hpo];rfl
 cases hcj:A4 p.chain f with
 | false =>
  have hX2:X=p:=by rw[hX'];unfold Bo;rw[hcj];rfl
  clear hX';subst hX2;rw[hcj] at e3;have cf2:=Pn (lo:=h.length) q2 q1 sm1;simp only[Place.cs] at cf2;rw[Au,Ag,e3,Ac,Ge,Ab,AC,Ab,Aa,Ab,Aa,Ab,j1,Ab,j2,Ab,j3,Ab,Aw,Ag,Ab,Av,Au,Ag,cf,Ac,Av,An,ok1,Ac,Av,An,cf2,Ac,Av,An];exact ⟨_,rfl⟩
 | true =>
 have hch:=HA hpo;have hxo:Ao X=true:=by rw[hX'];exact hokx hpo
 have hchx:Ch X.chain:=HA hxo;have hxpos:=hchx.pos;obtain ⟨hme,htold,rr,hlog⟩:=XN hcj;rw[← hX'] at hme htold hlog;rw[XY (by omega)] at htold;have hll:X.chain.length - 1<X.chain.length:=by omega
 have hs4:=(hchx.store (Dd hll)).2;have hXl:=hsm.2.1.1;have hXc:=hsm.1.1;obtain ⟨o,v1,v2,c1,e1',c2,e2',H1,H2,ha,_,ho1,_,es1,_,p1,_⟩:=f1.get hll;generalize hst:(X.chain[X.chain.length - 1]'hll).store=store at htold hs4 es1 p1;have ok2:=Ga (lo:=h.length) f1 f2 f3 hsm;rw[hxo] at ok2;simp only[Place.cs] at ok2;obtain ⟨h5,e5,m5⟩:=Vj (lo:=h.length) f1 l3 hsm.1 hchx (AK hxo).2.2.2.2.1;have inner:∀ (i:Nat) (is:Bool) (v:Ver) (pa:Pq) (pc:Nq),(is || Bw X.log v.tag)=true →
   AO h.length false (i:Nat) is 0 p.me p.clock b1 p.chain.length d1 b2 p.log.length d2 b3 p.got.length d3 p.fell X.me X.clock x1 X.chain.length y1 x2 X.log.length y2 x3 X.got.length y3 X.fell c1 store.length e1' v.key v.tag.time v.tag.place pa v.past.length pc v.text v.gone h3 =
   Bu h.length false (IntKind.i64.wrap ((i:Int)+1)) p.me p.clock b1 p.chain.length d1 b2 p.log.length d2 b3 p.got.length d3 p.fell X.me X.clock x1 X.chain.length y1 x2 X.log.length y2 x3 X.got.length y3 X.fell c1 store.length e1' h3:=by
  intro i is v pa pc hfin;refine (show _=AO h.length false (i:Nat) (is || Bw (X.log.take 0) v.tag) ((0:Nat):Int) p.me p.clock b1 p.chain.length d1 b2 p.log.length d2 b3 p.got.length d3 p.fell X.me X.clock x1 X.chain.length y1 x2 X.log.length y2 x3 X.got.length y3 X.fell c1 store.length e1' v.key v.tag.time v.tag.place pa v.past.length pc v.text v.gone h3 by rw[List.take_zero,show Bw [] v.tag=false from rfl,zdp];rfl).trans ?_;refine (Hp (n:=X.log.length) (fun n=>AO h.length false (i:Nat) (is || Bw (X.log.take n) v.tag) (n:Nat) p.me p.clock b1 p.chain.length d1 b2 p.log.length d2 b3 p.got.length d3 p.fell X.me X.clock x1 X.chain.length y1 x2 X.log.length y2 x3 X.got.length y3 X.fell c1 store.length e1' v.key v.tag.time v.tag.place pa v.past.length pc v.text v.gone h3) fun n hn=>?_).trans ?_
  ·have hnext:Bw (X.log.take (n+1)) v.tag=(Bw (X.log.take n) v.tag || (X.log[n].tag.time==v.tag.time&&X.log[n].tag.place==v.tag.place)):=by rw[zc6 hn];unfold Bw;rw[List.any_append,zdu,List.any_nil,zdp]
   rw[hnext,← Bool.or_assoc,AO.e,Ak (by omega)];cases hb:(is || Bw (X.log.take n) v.tag) with
   | true=>rw[An,Bool.true_or,Am (by omega)]
   | false =>
    obtain ⟨o3,_,_,_,_,ha3,_,_,_,_,_,_,ho12,_⟩:=f2.all hn;rw[Au,Ad hn,ha3,Af,A7,ho12,Af,Ab,Aa,Ab,Aa,Ag,zcL,zcT,← ha3];cases (X.log[n].tag.time==v.tag.time&&X.log[n].tag.place==v.tag.place) with
    | true=>rw[An,Am (by omega)]
    | false=>rw[Au,Am (by omega)]
  ·rw[zdn,hfin,AO.e,Ai (by omega),zcE,Au]
 have loop:=Hp (n:=4) (fun i=>Bu h.length false (i:Nat) p.me p.clock b1 p.chain.length d1 b2 p.log.length d2 b3 p.got.length d3 p.fell X.me X.clock x1 X.chain.length y1 x2 X.log.length y2 x3 X.got.length y3 X.fell c1 store.length e1' h3) fun i hi=>by
  have hi4:i<store.length:=by omega
  obtain ⟨o2,s,b3',d3',G,ha2,ho2,es2,hp2,_⟩:=p1.get hi4;rw[Bu.e,Ak (by omega),Ad hi4,ha2,Af,A7,ho2,Af,Ab,Aa,Ab,Aa,Ab,Aa,Ab,es2,Ab,A8,Ab,Aw,Ag,← ha2];have hin:=zbO hi4;cases ht:store[i].tag.time==(0:Int) with
  | true=>rw[An,inner i true store[i] b3' d3' rfl,Am (by omega)]
  | false =>
   rw[Au];cases hm:store[i].tag.place==p.me with
   | false=>rw[Au,inner i true store[i] b3' d3' rfl,Am (by omega)]
   | true =>
    have hpos:0<store[i].tag.time:=by rw[beq_eq_false_iff_ne] at ht;have hx:=hchx.store (Dd hll);rw[hst] at hx;have hv:=Hx hx.1 (Dd hi4);have:=DF (LJ hv);omega
    rw[An,inner i false store[i] b3' d3' (by rw[zcL];exact htold _ hin hpos (by rw[beq_iff_eq] at hm;exact hm)),Am (by omega)]
 have nF:F2.Nodup:=m2.nd;have hF2:F2=K1++(K2++K3):=hF2eq;have nK2:K2.Nodup:=by rw[hF2,zbQ,zbQ] at nF;exact nF.2.1.1
 have hle:p.log.length≤X.log.length:=by rw[hlog];simp
 obtain ⟨F5,t5,_,_⟩:=(m5.keep0 rvers_ok f2).first hle nK2;have htake:X.log.take p.log.length=p.log:=by rw[hlog];simp
 rw[htake] at t5;refine ⟨h5,?_⟩;rw[hcj] at e3;rw[An,Ag,e3,Ac,Ge,Ab,AC,Ab,Aa,Ab,Aa,Ab,j1,Ab,j2,Ab,j3,Ab,Aw,Ag,Ab,Av,An,Ag,cf,Ac,Av,An,ok1,Ac,Av,An,wr (by omega) (by omega),Cl ⟨by omega,by omega⟩,ha,Af,show ((X.chain.length:Int) - 1).toNat=X.chain.length - 1 by omega,ho1,Af,Ab,es1,Ag,← ha];refine loop.trans ?_;rw[Bu.e,Ai (by omega),ok2,Ac,Av,An,e5,Ac,Av,An,Ak (by omega),ED (m5.keep0 rvers_ok f2) hle,QI t5 (m5.keep0 rvers_ok g2) sm1.2.1,Ac,Av,An]
theorem main_FnPlacePass {h:Heap}{x:V} (hx:ArgV Tryz.prog h 12 22 x):∃ h',Ae h.length 6 [x] h=some (.bool true,h'):=by obtain ⟨a,c,l,F,rfl,h1,h2,h3⟩:=Vm (n:=10) hx;exact OK h1 h2 h3


variable {l:List Node}
section
variable {lo:Nat}{h:Heap}{F F':List Nat}{a:Pq}{c:Nq}
theorem RW {a0:Pq}{c0:Nq}{code:List UInt8} (hs:RBytes h [.sl 1 a0 code.length c0] code F) (hF:∀ y∈F,y<lo) (hl:lo≤h.length) (hn:code.length≤1048576) (hcap:∀ k,c0=some k→code.length≤k) :
  ∃ (p:Place) (cs:List V) (k:Int) (h':Heap) (F':List Nat),Ae lo 42 [.sl 1 a0 code.length c0] h=some (.tup [.agg cs,Iv k],h')∧BZ false h' cs p F'∧Z0 p∧lo≤h'.length:=by
 obtain ⟨b,h1,e1,r1,m1⟩:=Sm hs hF hl hn hcap;obtain ⟨p,cs,h2,F2,e2,t2,sm2,hb,r2,l2⟩:=PX r1 (by omega) (zbN hl m1.le);obtain ⟨k,h3,e3,_,r3,m3⟩:=DV (e:=3) [0,0,1,2,3,-1] (rows := [[Iv 0],[Iv 0],[Iv 1],[Iv 2],[Iv 3],[Iv (-1)]]) (len:=6) (cc:=some 6) r2 (by omega) rfl rfl (by decide);refine ⟨p,cs,k,h3,F2,KF ?_,m3.keep DH t2 (fun y hy hm=>hb (by rw[zbW] at hm;exact hm ▸ hy)),sm2,zbN l2 m3.le⟩;obtain ⟨x1,y1,x2,y2,x3,y3,rfl,_⟩:=t2;rw[e1,Ac,zbw,e2,Ac,AC,Ab,Aa,Ab,Aa,Ab,Ah,Ab,Ah,Ab,Ah,Ab,Aw,Ag,e3,Ac,Aa]
end
theorem Wm (hc:Ch l) {k i key:Nat}{v u:Ver}{x:Node} (hk:k<l.length) (h1:1<l.length) (hi:i<l.length) (hv:GG l i key=some v) (hx:(Bq l k)[0]?=some x) (hu:x.store[key]?=some u):HF u.tag.time u.tag.place v.tag.time v.tag.place=false:=by
 have hql:BJ l i<l.length:=by unfold BJ;split<;>omega
 have hq1:1≤BJ l i:=by unfold BJ;split<;>omega
 have hy:=Dd hql;unfold GG at hv;rw[CI hql] at hv;have key:∃ (q:Nat) (z:Node),q≤1∧l[q]?=some z∧x.store=z.store:=by
  rw[Iw hk] at hx;split at hx
  ·rw[zcv] at hx;obtain ⟨z,hz,rfl⟩:=hx;exact ⟨0,z,by omega,hz,rfl⟩
  ·split at hx
   ·exact ⟨0,x,by omega,hx,rfl⟩
   ·exact ⟨1,x,by omega,hx,rfl⟩
 obtain ⟨q,z,hq,hz,hxz⟩:=key;rw[hxz] at hu;have up:=hc.up (BJ l i - q) q z _ hz (by rw[show q+(BJ l i - q)=BJ l i by omega];exact hy);rw[GS];rcases up _ _ _ hv hu with rfl | g
 ·omega
 ·rw[GT] at g;omega
theorem Yd {p:Place}{f:Int} (hc:Bk p f=true):∃ n:Nat,f=(n:Int)∧n<p.chain.length∧1<p.chain.length∧(A6 p f).chain=Bq p.chain n∧(A6 p f).fell = !Qm (Bq p.chain n)∧∃ r,(A6 p f).log=p.log++r:=by
 have hc':=hc;unfold Bk at hc';rw[Dm] at hc';obtain ⟨n,rfl,g1,g2⟩:=LC hc'.2;have hx:A6 p (n:Int)=BL (IV p n):=by unfold A6;rw[hc,cond_true,A7]
 rw[hx];exact ⟨n,rfl,g1,g2,rfl,by show (true && !Qm (Bq p.chain n))=_;rw[zb8],noted_has.2⟩
section
variable {lo:Nat}{h:Heap}{F:List Nat}{a:Pq}{c:Nq}
theorem OP {k key:Nat} (hs:RNodes false h [.sl 2 a l.length c] l F) (hok:Cz l=true) (hn:Ci l) (hk:k<l.length) (hst:∀ x∈l,AH x.store=true) (hkey:key<4) (hl:lo≤h.length) :
  ∃ v a' c' h',Ae lo 16 [.agg [.sl 2 a l.length c],Iv (k:Nat),Iv (key:Nat)] h=some (.tup [.agg (Ver.cs v a' c'),.bool true],h')∧GG l k key=some v∧Mv h [] h' []:=by
 have hb:(h ++ [Blk.rows 1 25 false [[.sl 2 a l.length c]]])[h.length]?=some (.rows 1 25 false [[.sl 2 a l.length c]]):=by simp
 have hld:ld (h ++ [Blk.rows 1 25 false [[.sl 2 a l.length c]]]) h.length 0 (0+0) 1=some [.sl 2 a l.length c]:=by rw[BB hb rfl];rfl
 have m0:Mv h [] (h ++ [Blk.rows 1 25 false [[.sl 2 a l.length c]]]) []:=Mv.snoc;have hs':=m0.keep0 rnodes_ok hs;obtain ⟨v,a',c',h',e,hsh,m⟩:=Wc (lo:=lo) (b:=h.length) (i:=0) (j:=0) hld (fun K=>Ah 2 a l.length c K) hs' hk hst hkey (zbN hl m0.le) hn.1;have hld':ld (h ++ [Blk.rows 1 25 false [[.sl 2 a l.length c]]]) h.length 0 0 1=some [.sl 2 a l.length c]:=hld;simp only[Ver.cs] at e;refine ⟨v,a',c',h',Nd ?_,hsh,m0.trans m⟩;rw[hld',Af,Ab,Ah,Ag,JM hs' hn,Ac,Av,hok,An,e,Ac,Ge,Ab,AC,Ab,Aa,Ab,Aa,Ab,Aa,Ab,Ah,Ab,A8,Ab,Aw,Ag,Ab,Av,An,Ag]
end


theorem OL {h:Heap}{F:List Nat}{a0:Pq}{c0:Nq}{code:List UInt8} (hs:RBytes h [.sl 1 a0 code.length c0] code F) (hF:∀ y∈F,y<h.length) (hcap:∀ k,c0=some k→code.length≤k) :
  ∃ h',Ae h.length 9 [.sl 1 a0 code.length c0] h=some (.bool true,h'):=by
 suffices hk:∃ h',_=some (V.bool true,h') from by obtain ⟨h',e⟩:=hk;exact ⟨h',LR e⟩
 by_cases hbig:(code.length:Int)>1048576
 ·rw[Ak hbig];exact ⟨h,rfl⟩
 rw[Ai hbig];obtain ⟨p,cs,f,h1,F1,e1,r1,sm1',l1⟩:=RW (lo:=h.length) hs hF (zbR _) (by omega) hcap;have sm1:=sm1'.1;obtain ⟨raw2,cs2,h2,F2,e2,n2,r2,m2⟩:=Kq (lo:=h.length) (k:=f) r1 l1 sm1;have r12:=m2.keep0 DH r1;have l2:=zbN l1 m2.le;obtain ⟨raw3,cs3,h3,F3,e3,n3,r3,m3⟩:=PL (lo:=h.length) (k:=f) r12 l2 sm1;have r13:=m3.keep0 DH r12;have l3:=zbN l2 m3.le;have r23:=m3.keep0 DH r2;have hX:∃ X,DT p (A6 p f)=X:=⟨_,rfl⟩;obtain ⟨X,hX⟩:=hX;have hokx:Ao p=true→Ao (A6 p f)=true:=fun hpo=>WS hpo (by have:=sm1'.2;omega);have hsm:CT X:=by
  rw[← hX];unfold DT;cases hpo:Ao p with
  | false=>exact WL
  | true=>exact (Fe (Cg (hokx hpo)) (by decide) (by decide) (by decide)).1
 rw[hX] at n2 n3 r3 r23;obtain ⟨s1,s2,s3,x1,y1,x2,y2,x3,y3,rfl,k1,k2,k3,rfl⟩:=n2;obtain ⟨t1,t2,t3,z1,w1,z2,w2,z3,w3,rfl,j1,j2,j3,rfl⟩:=n3;obtain ⟨b1,d1,b2,d2,b3,d3,rfl,q1⟩:=r13;obtain ⟨_,_,_,_,_,_,_,q2⟩:=r23;obtain ⟨_,_,_,_,_,_,_,q3⟩:=r3;obtain ⟨K1,K2,K3,hF2eq,f1,f2,f3⟩:=q2.cells;obtain ⟨G1,G2,G3,_,g1,g2,g3⟩:=q1.cells;simp only[Place.cs] at e1 e2 e3;have cf:=Pn (lo:=h.length) q2 q3 hsm;have ok1:=Ga (lo:=h.length) g1 g2 g3 sm1;simp only[Place.cs] at cf ok1;rw[e1,Ac,Ge,Ab,AC,Ab,Aa,Ab,Aa,Ab,Ah,Ab,Ah,Ab,Ah,Ab,Aw,Ag,Ab,Aa,Ag,e2,Ac,Ge,Ab,AC,Ab,Aa,Ab,Aa,Ab,k1,Ab,k2,Ab,k3,Ab,Aw,Ag,Ab,Av];cases hpo:Ao p with
 | false =>rw[hpo] at e3 ok1;rw[zcZ] at e3 ⊢;rw[Au,Ag,e3,Ac,Ge,Ab,AC,Ab,Aa,Ab,Aa,Ab,j1,Ab,j2,Ab,j3,Ab,Aw,Ag,Ab,Av,Au,Ag,cf,Ac,Av,An,ok1,Ac,Av,Au,cf,Ac,Av,An];exact ⟨_,rfl⟩
 | true =>
 rw[hpo] at e3 ok1;rw[zb8] at e3 ⊢;have hX':X=A6 p f:=by rw[← hX];unfold DT;rw[hpo];rfl
 cases hcj:Bk p f with
 | false =>
  have hX2:X=p:=by rw[hX'];unfold A6;rw[hcj];rfl
  clear hX';subst hX2;rw[hcj] at e3;have cf2:=Pn (lo:=h.length) q2 q1 sm1;simp only[Place.cs] at cf2;rw[Au,Ag,e3,Ac,Ge,Ab,AC,Ab,Aa,Ab,Aa,Ab,j1,Ab,j2,Ab,j3,Ab,Aw,Ag,Ab,Av,Au,Ag,cf,Ac,Av,An,ok1,Ac,Av,An,cf2,Ac,Av,An];exact ⟨_,rfl⟩
 | true =>
 have hch:=HA hpo;have hxo:Ao X=true:=by rw[hX'];exact hokx hpo
 have hchx:Ch X.chain:=HA hxo;have hxpos:=hchx.pos;obtain ⟨n,rfl,hn,hn1,hXc,hXf,rr,hlog⟩:=Yd hcj;rw[← hX'] at hXc hXf hlog;have hst:∀ x∈p.chain,AH x.store=true:=fun x hx=>(Ay ((BY (AK hpo).2.2.2.1).2 x hx)).1
 have hco:=(AK hpo).2.2.2.1;have ok2:∀ lo hh,Mv h3 [] hh []→Ae lo 25 [.agg (X.cs x1 y1 x2 y2 x3 y3)] hh=some (.bool true,hh):=fun lo hh m=>by rw[← hxo];exact Ga (m.keep0 rnodes_ok f1) (m.keep0 rvers_ok f2) (m.keep0 rvss_ok f3) hsm
 simp only[Place.cs] at ok2;have hXl:=hsm.1.1;have hpl:=sm1.1.1;have hw0:∀ {l:List Node},(l.any fun x=>decide (0<x.wait.length)) = !Qm l:=fun {l}=>by
  unfold Qm;induction l with
  | nil=>rfl
  | cons x l ih=>rw[zdu,List.all_cons,ih,Bool.not_and];congr 1;cases x.wait<;>rfl
 have loop0:=Hp (n:=X.chain.length) (fun i=>Bf h.length false ((X.chain.take i).any fun x=>decide (0<x.wait.length)) (i:Nat) p.me p.clock b1 p.chain.length d1 b2 p.log.length d2 b3 p.got.length d3 p.fell X.me X.clock x1 X.chain.length y1 x2 X.log.length y2 x3 X.got.length y3 X.fell h3) fun i hi=>by
  have hnext:((X.chain.take (i+1)).any fun x=>decide (0<x.wait.length))=(((X.chain.take i).any fun x=>decide (0<x.wait.length)) || decide (0<X.chain[i].wait.length)):=by rw[zc6 hi,List.any_append,zdu,List.any_nil,zdp]
  rw[hnext,Bf.e,Ak (by omega)];cases hb:((X.chain.take i).any fun x=>decide (0<x.wait.length)) with
  | true=>rw[An,Bool.true_or,Am (by omega)]
  | false =>
   obtain ⟨o,v1,v2,c1,e1',c2,e2',H1,H2,ha,_,_,ho2,_,es2,_,_,_⟩:=f1.get hi;rw[Au,Ad hi,ha,Af,A7,ho2,Af,Ab,Ag,es2,zcL,← ha];by_cases hwt:0<X.chain[i].wait.length
   ·rw[Ak (by omega),Am (by omega),decide_eq_true hwt]
   ·rw[Ai (by omega),Am (by omega),decide_eq_false hwt]
 rw[zdn,show ((X.chain.take 0).any fun x=>decide (0<x.wait.length))=false from rfl,hw0 (l:=X.chain)] at loop0;obtain ⟨W,hW⟩:∃ W,(!Qm X.chain)=W:=⟨_,rfl⟩;rw[hW] at loop0;have hXW:X.fell=W:=by rw[hXf,← hXc,hW]
 obtain ⟨o,v1,v2,c1,e1',c2,e2',H1,H2,ha,_,ho1,_,es1,_,px,_⟩:=f1.get hxpos;have hs4:=(hchx.store (Dd hxpos)).2;have inner:∀ m j hh (i:Nat),m+j=4→i<p.chain.length→Mv h3 [] hh []→∃ hh',Bv h.length false W (i:Nat) (j:Nat) p.me p.clock b1 p.chain.length d1 b2 p.log.length d2 b3 p.got.length d3 p.fell X.me X.clock x1 X.chain.length y1 x2 X.log.length y2 x3 X.got.length y3 X.fell hh=AY h.length false W ((i+1:Nat):Int) p.me p.clock b1 p.chain.length d1 b2 p.log.length d2 b3 p.got.length d3 p.fell X.me X.clock x1 X.chain.length y1 x2 X.log.length y2 x3 X.got.length y3 X.fell hh'∧Mv h3 [] hh' []:=by
  intro m;induction m with
  | zero =>intro j hh i hj hi mm;rw[Bv.e,Ai (by omega),Am (by omega)];exact ⟨hh,rfl,mm⟩
  | succ m ih =>
   intro j hh i hj hi mm;obtain ⟨v,a',c',h5,e5,hsh,m5⟩:=OP (lo:=h.length) (k:=i) (key:=j) (mm.keep0 rnodes_ok g1) hco sm1.1 hi hst (by omega) (zbN l3 mm.le);have mm5:=mm.trans m5;have hjs:j<X.chain[0].store.length:=by omega
   obtain ⟨o',_,_,_,_,_,_,_,_,ha',_,ho1',_,es1'',_,px',_⟩:=(mm5.keep0 rnodes_ok f1).get hxpos;obtain ⟨o3,_,_,_,_,ha3,_,_,_,_,_,_,ho12,_⟩:=px'.all hjs;have hlt:=Wm hch hn hn1 hi hsh (x:=X.chain[0]) (by rw[← hXc];exact Dd hxpos) (Dd hjs);simp only[Ver.cs] at e5;obtain ⟨hh',q1,q2⟩:=ih (j+1) h5 i (by omega) hi mm5;refine ⟨hh',?_,q2⟩;rw[← q1,Bv.e,Ak (by omega),e5,Ac,Ge,Ab,AC,Ab,Aa,Ab,Aa,Ab,Aa,Ab,Ah,Ab,A8,Ab,Aw,Ag,Ab,Av,An,Ag,Cl ⟨by omega,by omega⟩,ha',Af,ho1',Af,Ab,Ag,es1'',Ad hjs,ha3,Af,A7,ho12,Af,Ab,Aa,Ab,Aa,Ag,HV,Ac,Av,hlt,Au,Am (by omega),← ha']
 have outer:∀ m i hh,m+i=p.chain.length→Mv h3 [] hh []→∃ hh',AY h.length false W (i:Nat) p.me p.clock b1 p.chain.length d1 b2 p.log.length d2 b3 p.got.length d3 p.fell X.me X.clock x1 X.chain.length y1 x2 X.log.length y2 x3 X.got.length y3 X.fell hh=AY h.length false W (p.chain.length:Nat) p.me p.clock b1 p.chain.length d1 b2 p.log.length d2 b3 p.got.length d3 p.fell X.me X.clock x1 X.chain.length y1 x2 X.log.length y2 x3 X.got.length y3 X.fell hh'∧Mv h3 [] hh' []:=by
  intro m;induction m with
  | zero=>intro i hh hi mm;rw[show i=p.chain.length by omega];exact ⟨hh,rfl,mm⟩
  | succ m ih =>intro i hh hi mm;obtain ⟨h5,q1,m5⟩:=inner 4 0 hh i rfl (by omega) mm;obtain ⟨h6,q2,m6⟩:=ih (i+1) h5 (by omega) m5;refine ⟨h6,?_,m6⟩;rw[← q2,← q1,AY.e,Ak (by omega)];rfl
 obtain ⟨h5,q5,m5⟩:=outer p.chain.length 0 h3 rfl Mv.nil;have l5:=zbN l3 m5.le;have r25:BZ false h5 (X.cs x1 y1 x2 y2 x3 y3) X F2:=⟨_,_,_,_,_,_,rfl,m5.keep0 rplace_ok q2⟩;obtain ⟨raw6,cs6,h6,F6,e6,n6,r6,m6⟩:=Kq (lo:=h.length) (k:=0) r25 l5 hsm;obtain ⟨s1',s2',s3',xx1,yy1,xx2,yy2,xx3,yy3,rfl,kk1,kk2,kk3,rfl⟩:=n6;have mm6:=m5.trans m6.drop;have l6:=zbN l5 m6.le;obtain ⟨h7,e7,m7⟩:=Vj (lo:=h.length) (mm6.keep0 rnodes_ok f1) l6 hsm.1 hchx (AK hxo).2.2.2.2.1;have mm7:=mm6.trans m7;have nF:F2.Nodup:=m2.nd;have hF2:F2=K1++(K2++K3):=hF2eq;have nK2:K2.Nodup:=by rw[hF2,zbQ,zbQ] at nF;exact nF.2.1.1
 have hle:p.log.length≤X.log.length:=by rw[hlog];simp
 obtain ⟨F9,t9,_,_⟩:=(mm7.keep0 rvers_ok f2).first hle nK2;have htake:X.log.take p.log.length=p.log:=by rw[hlog];simp
 rw[htake] at t9;have hbb:∀ b:Bool,(b==b)=true:=fun b=>by cases b<;>rfl
 have cfl:∀ {T:Type} (K:V→Heap→Option T),True:=fun _=>trivial;simp only[Place.cs] at e6;refine ⟨h7,?_⟩;rw[hcj] at e3;rw[An,Ag,e3,Ac,Ge,Ab,AC,Ab,Aa,Ab,Aa,Ab,j1,Ab,j2,Ab,j3,Ab,Aw,Ag,Ab,Av,An,Ag,cf,Ac,Av,An,ok1,Ac,Av,An];refine loop0.trans ?_;rw[Bf.e,Ai (by omega)];refine q5.trans ?_;have e8:=QI (lo:=h.length) t9 (mm7.keep0 rvers_ok g2) sm1.2.1;have e9:=@ED;cases hWb:W with
 | true =>
  have hag:(Ao X&&Bk X 0)=false:=by unfold Bk;rw[hXW,hWb,hxo];rfl
  rw[hWb] at hXW;rw[hag] at e6;rw[AY.e,Ai (by omega),e6,Ac,Ge,Ab,AC,Ab,Aa,Ab,Aa,Ab,kk1,Ab,kk2,Ab,kk3,Ab,Aw,Ag,Ab,Av,Au,Ag,ok2 _ _ mm6,Ac,Av,An,e7,Ac,Av,An,hXW,hbb,An,zcE,Au,Au,Au,ED (mm7.keep0 rvers_ok f2) hle,e8,Ac,Av,An]
 | false =>
  rw[hWb] at hXW;cases hag:(Ao X&&Bk X 0) with
  | true =>rw[hag] at e6;rw[AY.e,Ai (by omega),e6,Ac,Ge,Ab,AC,Ab,Aa,Ab,Aa,Ab,kk1,Ab,kk2,Ab,kk3,Ab,Aw,Ag,Ab,Av,An,Ag,ok2 _ _ mm6,Ac,Av,An,e7,Ac,Av,An,hXW,hbb,An,zcR,An,An,An,ED (mm7.keep0 rvers_ok f2) hle,e8,Ac,Av,An]
  | false =>rw[hag] at e6;rw[AY.e,Ai (by omega),e6,Ac,Ge,Ab,AC,Ab,Aa,Ab,Aa,Ab,kk1,Ab,kk2,Ab,kk3,Ab,Aw,Ag,Ab,Av,Au,Ag,ok2 _ _ mm6,Ac,Av,An,e7,Ac,Av,An,hXW,hbb,An,zcR,An,An,An,ED (mm7.keep0 rvers_ok f2) hle,e8,Ac,Av,An]
theorem main_FnPlaceFall {h:Heap}{x:V} (hx:ArgV Tryz.prog h 12 22 x):∃ h',Ae h.length 9 [x] h=some (.bool true,h'):=by obtain ⟨a,c,l,F,rfl,h1,h2,h3⟩:=Vm (n:=10) hx;exact OL h1 h2 h3
end Go.Proofs.YtoihoaaiadagaaaGreat
