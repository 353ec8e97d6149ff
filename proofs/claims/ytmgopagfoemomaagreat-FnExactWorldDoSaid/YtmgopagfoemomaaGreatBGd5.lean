/- Part 5 of what is shown for the law Gd, whatever the input; no condition of its own. -/
import Derived.Test.YtmgopagfoemomaaGreatBGd4
set_option linter.unusedVariables false
set_option linter.unusedSimpArgs false
set_option linter.unnecessarySimpa false
set_option maxRecDepth 100000
namespace Go.Proofs.YtmgopagfoemomaaGreat
open Go T


variable {t:Tag}{l:List Tag}
section
variable {lo:Nat}{h h':Heap}{F F':List Nat}{a a':Pq}{c c':Nq}
theorem Sv {s:Tag}:Af lo 307 [.agg [Iv s.time,Iv s.place],.agg [Iv t.time,Iv t.place]] h=some (.agg [Iv (GZ s t).time,Iv (GZ s t).place],h):=by unfold GZ EQ;refine XT (h':=h) ?_;rw[B9,Ad,Ar];cases Ic s.time s.place t.time t.place<;>rfl
theorem MM {k:Nat} (hk:k<l.length):FW l k t=l.set k (GZ l[k] t):=by unfold FW;rw[EM hk]
theorem zbl {k:Nat}:(FW l k t).length=l.length:=by unfold FW;split<;>simp
theorem Mg {k:Nat} (hs:RTags false h [.sl 2 a l.length c] l F) (hk:k<l.length) (hl:lo<=h.length) (hn:l.length<=1048576) :
  ∃ a' c' h' F',Af lo 289 [.agg [.sl 2 a l.length c],Iv (k:Nat),.agg [Iv t.time,Iv t.place]] h=some (.agg [.sl 2 a' l.length c'],h')/\RTags false h' [.sl 2 a' l.length c'] (FW l k t) F'/\Mv h [] h' F':=by
 obtain ⟨a1,c1,h1,F1,e1,r1,m1⟩:=Lf (lo:=lo) (h:=h) (l:=l) hl hn;obtain ⟨b,i,rs,row,G,ha,hbF,hbG,hb,hrow,⟨rfl,rfl⟩,hGF,hGn,_,put⟩:=r1.at (lo:=lo) EG hk m1.nd (λy hy=>m1.ge hl (by simp) y hy);have hld:ld h1 b (i+k) 0 2=some [Iv l[k].time,Iv l[k].place]:=by rw[B7 hb hrow];rfl
 obtain ⟨h2,F2,e2,r2,m2,_⟩:=put h1 [] 0 (GZ l[k] t).cs (GZ l[k] t).cs (GZ l[k] t) Mv.nil rfl ⟨rfl,rfl⟩;subst ha;refine ⟨some (b,i),c1,h2,F2,U4 ?_,by rw[MM hk];exact r2,m1.trans m2⟩;simp only[Tag.cs] at e2;rw[RTags.rows (Mv.snoc.keep0 rtags_ok hs),e1,Ah,Ac hk,Ae,AW,hld,Ae,Ab,Aa,Ab,Aa,Ag,Sv,Ad,AN,Ab,Aa,Ab,Aa,Ag,Ac hk,Ae,e2,Ae]
theorem Yq {p q:List Tag} (hs:RTags false h [.sl 2 a p.length c] p F) (hs':RTags false h [.sl 2 a' q.length c'] q F') (hp:p.length=4) (hq:q.length=4) (hl:lo<=h.length) :
  ∃ q5 a5 c5 h' F5,Af lo 290 [.agg [.sl 2 a p.length c],.agg [.sl 2 a' q.length c']] h=some (.agg [.sl q5 a5 (Ew p q).length c5],h')/\RTags false h' [.sl q5 a5 (Ew p q).length c5] (Ew p q) F5/\Mv h [] h' F5:=by
 have hj:(Ew p q).length=4:=by unfold Ew;rw[zhp];omega
 obtain ⟨q5,a5,c5,h',F5,e,r,m⟩:=Gp (El:=flat Tag.cs) EG (h:=h) (l:=Ew p q) (f:=id) (lo:=lo) (R:=2) (e:=36) (bytes:=16) hl (by decide) (by omega)
  (λi q5 a1 n1 c1 hh=>D6 lo (i:Nat) a p.length c a' q.length c' 0 none 0 (some 0) q5 a1 n1 c1 hh) (λi hi q5 a1 n1 c1 hh hm=>by
   obtain ⟨o,ha,ho⟩:=(hm.keep0 rtags_ok hs).get (show i<p.length by omega);obtain ⟨o',ha',ho'⟩:=(hm.keep0 rtags_ok hs').get (show i<q.length by omega);have hji:(Ew p q)[i]=GZ p[i] q[i]:=List.getElem_zipWith;refine ⟨[Iv (GZ p[i] q[i]).time,Iv (GZ p[i] q[i]).place],[],hh ++ [.rows 2 36 false [[Iv (GZ p[i] q[i]).time,Iv (GZ p[i] q[i]).place]]],⟨by rw[id,hji];rfl,rfl⟩,Mv.snoc,?_⟩;rw[D6.e,Ak (by omega),Ac (show i<p.length by omega),ha,Ae,AW,ho,Ae,Ab,Aa,Ab,Aa,Ag,Ac (show i<q.length by omega),ha',Ae,ho',Ae,Ab,Aa,Ab,Aa,Ag,Sv,Ad,AN,Ab,Aa,Ab,Aa,Ag,A2,Am (by omega)])
 rw[zgU] at r;refine ⟨q5,a5,c5,h',F5,U6 ?_,r,m⟩;refine e.trans ?_;rw[D6.e,Ai (by omega)]
end
section
variable {lo:Nat}{h h':Heap}{w:World}{a1 a2 a3 a4 a:Pq}{c1 c2 c3 c4 c:Nq}{F1 F2 F3 F4:List Nat}
theorem HC {d:Done} (H:WR lo h w a1 c1 a2 c2 a3 c3 a4 c4 F1 F2 F3 F4) (h80:w.hist.length<=1000) :
  ∃ a5 c5 h' G,Af lo 287 [.agg (w.cs a1 c1 a2 c2 a3 c3 a4 c4),Iv d.sess,Iv d.kind,Iv d.key,.agg [Iv d.tag.time,Iv d.tag.place]] h=some (.agg ((World.mk w.places w.sess w.net (w.hist ++ [d])).cs a1 c1 a2 c2 a3 c3 a5 c5),h') /\
   WR lo h' ⟨w.places,w.sess,w.net,w.hist ++ [d]⟩ a1 c1 a2 c2 a3 c3 a5 c5 F1 F2 F3 G/\Mv h (F1++(F2++(F3++F4))) h' (F1++(F2++(F3++G)))/\∀ y∈F1,h'[y]?=h[y]?:=by
 obtain ⟨⟨n1,n2,n3,n4⟩,_,_,d14,_⟩:=Rm H.nd;obtain ⟨a6,c6,h6,F6,e6,r6,m6⟩:=Ev (lo:=lo) (bytes:=40) (e:=126) (El:=flat Done.cs) EG H.r4 (row:=d.cs) (x:=d) (G := []) (h1:=h ++ [.rows 5 126 false [d.cs]])
  ⟨rfl,rfl⟩ Mv.snoc n4 (λy hy=>H.ge y (by simp[hy])) H.hl (by decide) (by omega)
 have hnl:(w.hist ++ [d]).length=w.hist.length+1:=by simp
 rw[<- hnl] at r6 e6;obtain ⟨q,mq⟩:=H.up4 m6 r6;refine ⟨a6,c6,h6,F6,UL ?_,q,mq,λy hy=>m6.fr y (H.lt.1 y hy) (d14 y hy)⟩;simp only[Done.cs] at e6;rw[A2,e6,Ah]
theorem WR.sess (H:WR lo h w a1 c1 a2 c2 a3 c3 a4 c4 F1 F2 F3 F4) {k:Nat} (hk:k<w.sess.length):∃ b i v b1 d1 G,a2=some (b,i) /\
  ld h b (i+k) 0 5=some [Iv w.sess[k].place,v,Iv w.sess[k].wait.time,Iv w.sess[k].wait.place,Iv w.sess[k].key]/\ld h b (i+k) 1 1=some [v]/\ld h b (i+k) 2 1=some [Iv w.sess[k].wait.time] /\
  (∀ {R':Type} (K:Pq->Nat->Nq->Option R'),eS 2 v K=K b1 w.sess[k].past.length d1)/\RTags false h [.sl 2 b1 w.sess[k].past.length d1] w.sess[k].past G/\RTags false h [v] w.sess[k].past G/\G.Nodup /\
  ∀ h1 G1 j cs row' s',Mv h G h1 G1->paste [Iv w.sess[k].place,v,Iv w.sess[k].wait.time,Iv w.sess[k].wait.place,Iv w.sess[k].key] j cs=some row'->RSess false h1 row' s' G1 ->
   ∃ h2 F2',st lo h1 b (i+k) j cs=some h2/\WR lo h2 ⟨w.places,w.sess.set k s',w.net,w.hist⟩ a1 c1 a2 c2 a3 c3 a4 c4 F1 F2' F3 F4/\Mv h (F1++(F2++(F3++F4))) h2 (F1++(F2'++(F3++F4)))/\∀ y∈F1,h2[y]?=h[y]?:=by
 obtain ⟨⟨_,n2,_,_⟩,d12,_⟩:=Rm H.nd;obtain ⟨b,i,rs,row,G,ha,hbF,hbG,hb,hrow,hel,hGF,hGn,_,put⟩:=Sli.at (lo:=lo) Jb H.r2 hk n2 (λy hy=>H.ge y (by simp[hy]));obtain ⟨v,rfl,hv⟩:=hel;obtain ⟨b1,d1,es,hv'⟩:=hv.form;refine ⟨b,i,v,b1,d1,G,ha,by rw[B7 hb hrow];exact Pa rfl,by rw[B7 hb hrow];rfl,by rw[B7 hb hrow];rfl,es,hv',hv,hGn,λh1 G1 j cs row' s' m hp hx=>?_⟩;obtain ⟨h2,F',e,r,m2,_⟩:=put h1 G1 j cs row' s' m hp hx;have hlen:(w.sess.set k s').length=w.sess.length:=by simp
 rw[<- hlen] at r;obtain ⟨q1,q2⟩:=H.up2 m2 r;exact ⟨h2,F',e,q1,q2,λy hy=>m2.fr y (H.lt.1 y hy) (d12 y hy)⟩
theorem WR.wait (H:WR lo h w a1 c1 a2 c2 a3 c3 a4 c4 F1 F2 F3 F4) {k:Nat} (hk:k<w.sess.length) (t:Tag) (key:Int) :
  ∃ h' F2',(∀ {T:Type} (K:Heap->Option T),(As (k:Nat) w.sess.length (eO a2 λv=>eO (st lo h v.1 (v.2+k) 2 [Iv t.time,Iv t.place]) λv=>As (k:Nat) w.sess.length (eO a2 λp=>eO (st lo v p.1 (p.2+k) 4 [Iv key]) K)))=K h') /\
   WR lo h' ⟨w.places,w.sess.set k ⟨w.sess[k].place,w.sess[k].past,t,key⟩,w.net,w.hist⟩ a1 c1 a2 c2 a3 c3 a4 c4 F1 F2' F3 F4/\Mv h (F1++(F2++(F3++F4))) h' (F1++(F2'++(F3++F4))):=by
 obtain ⟨b,i,v,b1,d1,G,ha,_,_,_,es,hv',hv,hGn,put⟩:=H.sess hk;obtain ⟨h2,F5,e2,q2,m2,_⟩:=put h G 2 [Iv t.time,Iv t.place] [Iv w.sess[k].place,v,Iv t.time,Iv t.place,Iv w.sess[k].key] ⟨w.sess[k].place,w.sess[k].past,t,w.sess[k].key⟩ (Mv.refl hGn) rfl ⟨v,rfl,hv⟩;have hk2:k<(w.sess.set k ⟨w.sess[k].place,w.sess[k].past,t,w.sess[k].key⟩).length:=by simpa using hk
 obtain ⟨b',i',v',b1',d1',G',ha',_,_,_,es2,hv2',hv2,hGn2,put2⟩:=q2.sess hk2;simp only[zgR] at hv2 put2;obtain ⟨h3,F6,e3,q3,m3,_⟩:=put2 h2 G' 4 [Iv key] [Iv w.sess[k].place,v',Iv t.time,Iv t.place,Iv key] ⟨w.sess[k].place,w.sess[k].past,t,key⟩ (Mv.refl hGn2) rfl ⟨v',rfl,hv2⟩;rw[ha] at ha';injection ha' with ha';injection ha' with x1 x2;subst x1;subst x2;refine ⟨h3,F6,λK=>?_,by simpa using q3,m2.trans m3⟩;rw[Ac hk,ha,Ae,e2,Ae,Ac hk,Ae,e3,Ae]
theorem WR.past (H:WR lo h w a1 c1 a2 c2 a3 c3 a4 c4 F1 F2 F3 F4) {k:Nat} (hk:k<w.sess.length) {h1:Heap}{G1:List Nat} (m:Mv h [] h1 G1) {q n:Nat} (r:RTags false h1 [.sl q a n c] l G1) :
  ∃ h' F2',(∀ {T:Type} (K:Heap->Option T),(As (k:Nat) w.sess.length (eO a2 λv=>eO (st lo h1 v.1 (v.2+k) 1 [.sl q a n c]) K))=K h') /\
   WR lo h' ⟨w.places,w.sess.set k ⟨w.sess[k].place,l,w.sess[k].wait,w.sess[k].key⟩,w.net,w.hist⟩ a1 c1 a2 c2 a3 c3 a4 c4 F1 F2' F3 F4/\Mv h (F1++(F2++(F3++F4))) h' (F1++(F2'++(F3++F4)))/\∀ y∈F1,h'[y]?=h[y]?:=by
 obtain ⟨b,i,v,b1,d1,G,ha,_,_,_,es,hv',hv,hGn,put⟩:=H.sess hk;obtain ⟨h2,F5,e2,q2,m2,s2⟩:=put h1 G1 1 [.sl q a n c] [Iv w.sess[k].place,.sl q a n c,Iv w.sess[k].wait.time,Iv w.sess[k].wait.place,Iv w.sess[k].key] ⟨w.sess[k].place,l,w.sess[k].wait,w.sess[k].key⟩ (m.wide (by simp)) rfl ⟨_,rfl,r⟩;refine ⟨h2,F5,λK=>?_,q2,m2,s2⟩;rw[Ac hk,ha,Ae,e2,Ae]
end


theorem Sli.atP {α:Type}{El:Rel α} (ok:El.Ok) {h:Heap}{R R' e n k:Nat}{a:Pq}{c:Nq}{l:List α}{F:List Nat} (hs:Sli false R e El h [.sl R' a n c] l F) (hk:k<l.length) (hnd:F.Nodup) :
  ∃ (b i:Nat) (rs:List (List V)) (row:List V) (G:List Nat),a=some (b,i)/\b∈F/\b∉G/\h[b]?=some (.rows R e false (rs.set (i+k) row))/\i+k<rs.length/\El h row l[k] G/\(∀ y∈G,y∈F)/\G.Nodup /\
   ∀ h' row' x' G',h'[b]?=some (.rows R e false (rs.set (i+k) row'))->El h' row' x' G'->Mv h (b :: G) h' (b :: G')->∃ F',Sli false R e El h' [.sl R' a n c] (l.set k x') F'/\Mv h F h' F':=by
 have hbd:=(Sli.ok ok).bd _ _ _ _ hs;obtain ⟨b,i,rs,row,G,ha,hbF,hbG,hb,hrow,hel,hGF,hGn,put⟩:=hs.put ok.fr hk hnd;refine ⟨b,i,rs,row,G,ha,hbF,hbG,by rw[set_same hrow];exact hb,(Ga hrow).1,hel,hGF,hGn,λh' row' x' G' hb' hx m=>?_⟩;have hnd':=m.nd;rw[zfN] at hnd';have hsub:∀ y∈b :: G,y∈F:=λy hy=>by
  rcases zfL.1 hy with rfl | hy
  ·exact hbF
  ·exact hGF y hy
 obtain ⟨F',p1,p2,p3,_⟩:=put h' row' x' G' hb' (λy hy hyb hyG=>m.fr y (hbd y hy) (by simp[hyb,hyG])) hx hnd'.2 (λy hy hyF=>by
  rcases m.sub y (by simp[hy]) with g | g
  ·rcases zfL.1 g with rfl | g
   ·exact absurd hy hnd'.1
   ·exact g
  ·have:=hbd y hyF;omega)
 refine ⟨F',p1,m.le,λy hy hyF=>m.fr y hy λhg=>hyF (hsub y hg),p3,λy hy=>?_⟩;rcases p2 y hy with g | g
 ·exact .inl g.1
 ·rcases m.sub y (by simp[g]) with q | q
  ·exact .inl (hsub y q)
  ·exact .inr q
abbrev RPlacesN:Rel (List Place):=Sli false 6 (Hr false) (Cz false)
theorem rplacesN_ok:RPlacesN.Ok:=Sli.ok NQ
structure WN (lo:Nat) (h:Heap) (b:Nat) (w:World) (a1:Pq) (c1:Nq) (a2:Pq) (c2:Nq) (a3:Pq) (c3:Nq) (a4:Pq) (c4:Nq) (F1 F2 F3 F4:List Nat):Prop where
 hb:h[b]?=some (.rows 4 60 false [w.cs a1 c1 a2 c2 a3 c3 a4 c4])
 r1:RPlacesN h [.sl 6 a1 w.places.length c1] w.places F1
 r2:RSesss false h [.sl 5 a2 w.sess.length c2] w.sess F2
 r3:RFrames false h [.sl 9 a3 w.net.length c3] w.net F3
 r4:RDones false h [.sl 5 a4 w.hist.length c4] w.hist F4
 nd:(b ::(F1++(F2++(F3++F4)))).Nodup
 ge:∀ y∈b ::(F1++(F2++(F3++F4))),lo<=y
 hl:lo<=h.length
def Kb (lo:Nat) (h:Heap) (b:Nat) (w:World) (F:List Nat):Prop:=∃ a1 c1 a2 c2 a3 c3 a4 c4 F1 F2 F3 F4,F=b ::(F1++(F2++(F3++F4)))/\WN lo h b w a1 c1 a2 c2 a3 c3 a4 c4 F1 F2 F3 F4
section
variable {lo b:Nat}{h h':Heap}{w:World}{a1 a2 a3 a4 a:Pq}{c1 c2 c3 c4 c:Nq}{F1 F2 F3 F4:List Nat}
theorem WN.at (H:WN lo h b w a1 c1 a2 c2 a3 c3 a4 c4 F1 F2 F3 F4):Kb lo h b w (b ::(F1++(F2++(F3++F4)))):=⟨a1,c1,a2,c2,a3,c3,a4,c4,F1,F2,F3,F4,rfl,H⟩
theorem WN.blt (H:WN lo h b w a1 c1 a2 c2 a3 c3 a4 c4 F1 F2 F3 F4):b<h.length:=(Ga H.hb).1
theorem WN.lt (H:WN lo h b w a1 c1 a2 c2 a3 c3 a4 c4 F1 F2 F3 F4):(∀ y∈F1,y<h.length)/\(∀ y∈F2,y<h.length)/\(∀ y∈F3,y<h.length)/\∀ y∈F4,y<h.length :=
 ⟨rplacesN_ok.bd _ _ _ _ H.r1,rsesss_ok.bd _ _ _ _ H.r2,rframes_ok.bd _ _ _ _ H.r3,rdones_ok.bd _ _ _ _ H.r4⟩
theorem WN.bd (H:WN lo h b w a1 c1 a2 c2 a3 c3 a4 c4 F1 F2 F3 F4):∀ y∈F1++(F2++(F3++F4)),y<h.length:=λy hy=>by
 obtain ⟨g1,g2,g3,g4⟩:=H.lt;simp only[zfF] at hy;rcases hy with hy | hy | hy | hy
 ·exact g1 y hy
 ·exact g2 y hy
 ·exact g3 y hy
 ·exact g4 y hy
theorem WN.ne (H:WN lo h b w a1 c1 a2 c2 a3 c3 a4 c4 F1 F2 F3 F4):b∉F1++(F2++(F3++F4))/\(F1++(F2++(F3++F4))).Nodup:=zfN.1 H.nd
theorem WN.with (H:WN lo h b w a1 c1 a2 c2 a3 c3 a4 c4 F1 F2 F3 F4) {F':List Nat} (m:Mv h (F1++(F2++(F3++F4))) h' F'):h'[b]?=h[b]?/\Mv h (b ::(F1++(F2++(F3++F4)))) h' (b :: F'):=by
 have e:=m.fr b H.blt H.ne.1;refine ⟨e,⟨m.le,λy hy hF=>m.fr y hy λg=>hF (by simp[g]),?_,λy hy=>?_⟩⟩
 ·rw[zfN];refine ⟨λhm=>?_,m.nd⟩;rcases m.sub b hm with g | g
  ·exact H.ne.1 g
  ·have:=H.blt;omega
 ·rcases zfL.1 hy with rfl | hy
  ·exact .inl (by simp)
  ·rcases m.sub y hy with g | g
   ·exact .inl (by simp[g])
   ·exact .inr g
theorem WN.up1 (H:WN lo h b w a1 c1 a2 c2 a3 c3 a4 c4 F1 F2 F3 F4) {l:List Place}{G:List Nat} (hn:l.length=w.places.length) (m:Mv h F1 h' G) (r:RPlacesN h' [.sl 6 a1 w.places.length c1] l G) :
  WN lo h' b ⟨l,w.sess,w.net,w.hist⟩ a1 c1 a2 c2 a3 c3 a4 c4 G F2 F3 F4/\Mv h (b ::(F1++(F2++(F3++F4)))) h' (b ::(G++(F2++(F3++F4)))):=by
 obtain ⟨_,d12,d13,d14,d23,d24,d34⟩:=Rm H.ne.2;have m1:Mv h (F1++(F2++(F3++F4))) h' (G++(F2++(F3++F4))):=m.mid (.refl _) H.ne.2 (λy hy=>H.bd y (by simp only[zfF] at hy ⊢;grind)) (.refl _);obtain ⟨e,m2⟩:=H.with m1;refine ⟨⟨by rw[e,H.hb];simp only[World.cs,hn],by rw[<- hn] at r;exact r,m.keep rsesss_ok H.r2 (λb hb hm=>d12 b hm hb),m.keep rframes_ok H.r3 (λb hb hm=>d13 b hm hb),m.keep rdones_ok H.r4 (λb hb hm=>d14 b hm hb),m2.nd,m2.ge H.hl H.ge,zfE H.hl m.le⟩,m2⟩
theorem WN.up2 (H:WN lo h b w a1 c1 a2 c2 a3 c3 a4 c4 F1 F2 F3 F4) {l:List Sess}{G:List Nat} (hn:l.length=w.sess.length) (m:Mv h F2 h' G) (r:RSesss false h' [.sl 5 a2 w.sess.length c2] l G) :
  WN lo h' b ⟨w.places,l,w.net,w.hist⟩ a1 c1 a2 c2 a3 c3 a4 c4 F1 G F3 F4/\Mv h (b ::(F1++(F2++(F3++F4)))) h' (b ::(F1++(G++(F3++F4)))):=by
 obtain ⟨_,d12,d13,d14,d23,d24,d34⟩:=Rm H.ne.2;have m1:Mv h (F1++(F2++(F3++F4))) h' (F1++(G++(F3++F4))):=m.mid QZ H.ne.2 (λy hy=>H.bd y (by simp only[zfF] at hy ⊢;grind)) QZ;obtain ⟨e,m2⟩:=H.with m1;refine ⟨⟨by rw[e,H.hb];simp only[World.cs,hn],m.keep rplacesN_ok H.r1 (λb hb hm=>d12 b hb hm),by rw[<- hn] at r;exact r,m.keep rframes_ok H.r3 (λb hb hm=>d23 b hm hb),m.keep rdones_ok H.r4 (λb hb hm=>d24 b hm hb),m2.nd,m2.ge H.hl H.ge,zfE H.hl m.le⟩,m2⟩
theorem WN.up0 (H:WN lo h b w a1 c1 a2 c2 a3 c3 a4 c4 F1 F2 F3 F4) (m:Mv h [] h' []):WN lo h' b w a1 c1 a2 c2 a3 c3 a4 c4 F1 F2 F3 F4/\Mv h (b ::(F1++(F2++(F3++F4)))) h' (b ::(F1++(F2++(F3++F4)))):=by have m1:Mv h (F1++(F2++(F3++F4))) h' (F1++(F2++(F3++F4))):=m.aside (by simpa using H.ne.2) H.bd;obtain ⟨e,m2⟩:=H.with m1;exact ⟨⟨by rw[e,H.hb],m.keep0 rplacesN_ok H.r1,m.keep0 rsesss_ok H.r2,m.keep0 rframes_ok H.r3,m.keep0 rdones_ok H.r4,H.nd,H.ge,zfE H.hl m.le⟩,m2⟩
theorem WN.up3 (H:WN lo h b w a1 c1 a2 c2 a3 c3 a4 c4 F1 F2 F3 F4) {l:List Frame}{G:List Nat} (m:Mv h F3 h' G) (r:RFrames false h' [.sl 9 a l.length c] l G) :
  ∃ h2,st lo h' b 0 (0+2) [.sl 9 a l.length c]=some h2/\WN lo h2 b ⟨w.places,w.sess,l,w.hist⟩ a1 c1 a2 c2 a c a4 c4 F1 F2 G F4/\Mv h (b ::(F1++(F2++(F3++F4)))) h2 (b ::(F1++(F2++(G++F4)))):=by
 obtain ⟨_,d12,d13,d14,d23,d24,d34⟩:=Rm H.ne.2;have m1:Mv h (F1++(F2++(F3++F4))) h' (F1++(F2++(G++F4))):=m.mid VN H.ne.2 (λy hy=>H.bd y (by simp only[zfF] at hy ⊢;grind)) VN;obtain ⟨e,_⟩:=H.with m1;rw[H.hb] at e;obtain ⟨m6,b6,k6,n6⟩:=m1.store H.blt H.ne.1 (.rows 4 60 false [(World.mk w.places w.sess l w.hist).cs a1 c1 a2 c2 a c a4 c4]);have es:=B4 (lo:=lo) (j:=0+2) (r:=0) (cs := [.sl 9 a l.length c]) (row':=(World.mk w.places w.sess l w.hist).cs a1 c1 a2 c2 a c a4 c4) e (H.ge b (by simp)) rfl (FL (by simp[World.cs]));have ne:∀ {F:List Nat},(∀ y∈F,y∈F1++(F2++(G++F4)))->∀ y∈F,y≠b:=λhs y hy e=>n6 (e ▸ hs y hy);refine ⟨_,es,⟨b6,rplacesN_ok.fr _ _ _ _ _ (m.keep rplacesN_ok H.r1 (λb hb hm=>d13 b hb hm)) λy hy=>k6 y (ne (F:=F1) (λy hy=>by simp[hy]) y hy),rsesss_ok.fr _ _ _ _ _ (m.keep rsesss_ok H.r2 (λb hb hm=>d23 b hb hm)) λy hy=>k6 y (ne (F:=F2) (λy hy=>by simp[hy]) y hy),rframes_ok.fr _ _ _ _ _ r λy hy=>k6 y (ne (F:=G) (λy hy=>by simp[hy]) y hy),rdones_ok.fr _ _ _ _ _ (m.keep rdones_ok H.r4 (λb hb hm=>d34 b hm hb)) λy hy=>k6 y (ne (F:=F4) (λy hy=>by simp[hy]) y hy),m6.nd,m6.ge H.hl H.ge,zfE H.hl m6.le⟩,m6⟩
theorem WN.up4 (H:WN lo h b w a1 c1 a2 c2 a3 c3 a4 c4 F1 F2 F3 F4) {l:List Done}{G:List Nat} (m:Mv h F4 h' G) (r:RDones false h' [.sl 5 a l.length c] l G) :
  ∃ h2,st lo h' b 0 (0+3) [.sl 5 a l.length c]=some h2/\WN lo h2 b ⟨w.places,w.sess,w.net,l⟩ a1 c1 a2 c2 a3 c3 a c F1 F2 F3 G/\Mv h (b ::(F1++(F2++(F3++F4)))) h2 (b ::(F1++(F2++(F3++G)))):=by
 obtain ⟨_,d12,d13,d14,d23,d24,d34⟩:=Rm H.ne.2;have m1:Mv h (F1++(F2++(F3++F4))) h' (F1++(F2++(F3++G))):=m.mid YD H.ne.2 (λy hy=>H.bd y (by simp only[zfF] at hy ⊢;grind)) YD;obtain ⟨e,_⟩:=H.with m1;rw[H.hb] at e;obtain ⟨m6,b6,k6,n6⟩:=m1.store H.blt H.ne.1 (.rows 4 60 false [(World.mk w.places w.sess w.net l).cs a1 c1 a2 c2 a3 c3 a c]);have es:=B4 (lo:=lo) (j:=0+3) (r:=0) (cs := [.sl 5 a l.length c]) (row':=(World.mk w.places w.sess w.net l).cs a1 c1 a2 c2 a3 c3 a c) e (H.ge b (by simp)) rfl (FL (by simp[World.cs]));have ne:∀ {F:List Nat},(∀ y∈F,y∈F1++(F2++(F3++G)))->∀ y∈F,y≠b:=λhs y hy e=>n6 (e ▸ hs y hy);refine ⟨_,es,⟨b6,rplacesN_ok.fr _ _ _ _ _ (m.keep rplacesN_ok H.r1 (λb hb hm=>d14 b hb hm)) λy hy=>k6 y (ne (F:=F1) (λy hy=>by simp[hy]) y hy),rsesss_ok.fr _ _ _ _ _ (m.keep rsesss_ok H.r2 (λb hb hm=>d24 b hb hm)) λy hy=>k6 y (ne (F:=F2) (λy hy=>by simp[hy]) y hy),rframes_ok.fr _ _ _ _ _ (m.keep rframes_ok H.r3 (λb hb hm=>d34 b hb hm)) λy hy=>k6 y (ne (F:=F3) (λy hy=>by simp[hy]) y hy),rdones_ok.fr _ _ _ _ _ r λy hy=>k6 y (ne (F:=G) (λy hy=>by simp[hy]) y hy),m6.nd,m6.ge H.hl H.ge,zfE H.hl m6.le⟩,m6⟩
theorem WN.cell (H:WN lo h b w a1 c1 a2 c2 a3 c3 a4 c4 F1 F2 F3 F4):ld h b 0 (0+0) 1=some [.sl 6 a1 w.places.length c1]/\ld h b 0 (0+1) 1=some [.sl 5 a2 w.sess.length c2]/\ld h b 0 (0+2) 1=some [.sl 9 a3 w.net.length c3]/\ld h b 0 (0+3) 1=some [.sl 5 a4 w.hist.length c4]:=by refine ⟨?_,?_,?_,?_⟩<;>rw[B7 H.hb rfl]<;>rfl
theorem WN.place (H:WN lo h b w a1 c1 a2 c2 a3 c3 a4 c4 F1 F2 F3 F4) {k:Nat} (hk:k<w.places.length):∃ b1 i1 rs x1 y1 x2 y2 x3 y3 G1 G2 G3,a1=some (b1,i1)/\i1+k<rs.length/\h[b1]?=some (CS rs (i1+k) (w.places[k].cs x1 y1 x2 y2 x3 y3)) /\
  RNodes false h [.sl 2 x1 w.places[k].chain.length y1] w.places[k].chain G1/\RVers false h [.sl 6 x2 w.places[k].log.length y2] w.places[k].log G2/\RVss false h [.sl 1 x3 w.places[k].got.length y3] w.places[k].got G3 /\
  (b1 ::(G1++(G2++G3))).Nodup/\(∀ y∈b1 ::(G1++(G2++G3)),lo<=y/\y<h.length/\y∈F1) /\
  ∀ h' row' p' F',h'[b1]?=some (CS rs (i1+k) row')->Cz false h' row' p' F'->Mv h (b1 ::(G1++(G2++G3))) h' (b1 :: F') ->
   ∃ F1',WN lo h' b (setP w k p') a1 c1 a2 c2 a3 c3 a4 c4 F1' F2 F3 F4/\Mv h (b ::(F1++(F2++(F3++F4)))) h' (b ::(F1'++(F2++(F3++F4)))):=by
 obtain ⟨⟨n1,_⟩,_⟩:=Rm H.ne.2;obtain ⟨b1,i1,rs,row,G,ha,hbF,hbG,hb,hil,hel,hGF,hGn,put⟩:=Sli.atP NQ H.r1 hk n1;obtain ⟨x1,y1,x2,y2,x3,y3,rfl,q⟩:=hel;obtain ⟨G1,G2,G3,rfl,g1,g2,g3⟩:=q.cells;refine ⟨b1,i1,rs,x1,y1,x2,y2,x3,y3,G1,G2,G3,ha,hil,hb,g1,g2,g3,by rw[zfN];exact ⟨hbG,hGn⟩,λy hy=>?_,λh' row' p' F' hb' hx m=>?_⟩
 ·have hyF:y∈F1:=by
   rcases zfL.1 hy with rfl | hy
   ·exact hbF
   ·exact hGF y hy
  exact ⟨H.ge y (by simp[hyF]),H.lt.1 y hyF,hyF⟩
 ·obtain ⟨F1',r,m'⟩:=put h' row' p' F' hb' hx m;exact ⟨F1',(H.up1 (by simp) m' r).1,(H.up1 (by simp) m' r).2⟩
end


variable {rs:List (List V)}
theorem NZ {h:Heap}{b i j n R e:Nat}{ro:Bool}{row:List V} (hb:h[b]?=some (.rows R e ro (rs.set i row))) (hil:i<rs.length):ld h b i j n=cut row j n:=B7 hb (by simp[hil])
theorem PQ {lo:Nat}{h:Heap}{b i j R e:Nat}{row row' cs:List V} (hb:h[b]?=some (.rows R e false (rs.set i row))) (hil:i<rs.length) (hl:lo<=b) (hp:paste row j cs=some row'):st lo h b i j cs=some (h.set b (.rows R e false (rs.set i row'))):=by rw[B4 (r:=i) hb hl (by simp[hil]) hp,zgv]
section
variable {lo l0 b:Nat}{h h':Heap}{w:World}{a1 a2 a3 a4 a:Pq}{c1 c2 c3 c4 c:Nq}{F1 F2 F3 F4:List Nat}
theorem Na {n:Int} (H:WN l0 h b w a1 c1 a2 c2 a3 c3 a4 c4 F1 F2 F3 F4) (h80:w.hist.length<=1000) (hn:0<=n/\n<=4):Af lo 273 [.ptr (some (b,(0,0))),Iv n] h=some (.bool (E0 w n),h):=by
 refine Po (h':=h) ?_;rw[H.cell.2.2.2,Ae,Ab,Ag,Ah,wr (by omega) (by omega)];unfold E0;cases decide ((w.hist.length:Int)+n<=80) with
 | true=>rw[Aq]
 | false=>rw[Ay]
theorem P5 {d:Done} (H:WN lo h b w a1 c1 a2 c2 a3 c3 a4 c4 F1 F2 F3 F4) (h80:w.hist.length<=1000) :
  ∃ a5 c5 h' G,Af lo 274 [.ptr (some (b,(0,0))),Iv d.sess,Iv d.kind,Iv d.key,.agg [Iv d.tag.time,Iv d.tag.place]] h=some (.tup [],h') /\
   WN lo h' b ⟨w.places,w.sess,w.net,w.hist ++ [d]⟩ a1 c1 a2 c2 a3 c3 a5 c5 F1 F2 F3 G/\Mv h (b ::(F1++(F2++(F3++F4)))) h' (b ::(F1++(F2++(F3++G)))):=by
 obtain ⟨⟨n1,n2,n3,n4⟩,_⟩:=Rm H.ne.2;obtain ⟨a6,c6,h6,F6,e6,r6,m6⟩:=Ev (lo:=lo) (bytes:=40) (e:=126) (El:=flat Done.cs) EG H.r4 (row:=d.cs) (x:=d) (G := []) (h1:=h ++ [.rows 5 126 false [d.cs]])
  ⟨rfl,rfl⟩ Mv.snoc n4 (λy hy=>H.ge y (by simp[hy])) H.hl (by decide) (by omega)
 have hnl:(w.hist ++ [d]).length=w.hist.length+1:=by simp
 rw[<- hnl] at r6 e6;obtain ⟨h2,es,W,M⟩:=H.up4 m6 r6;refine ⟨a6,c6,h2,F6,Kz ?_,W,M⟩;simp only[Done.cs] at e6;rw[H.cell.2.2.2,Ae,Ab,Ag,Ah,A2,e6,Ah,es,Ae]
theorem WN.sess (H:WN lo h b w a1 c1 a2 c2 a3 c3 a4 c4 F1 F2 F3 F4) {k:Nat} (hk:k<w.sess.length):∃ (b2 i2:Nat) (rs:List (List V)) (v:V) (x:Pq) (y:Nq) (G:List Nat),a2=some (b2,i2)/\i2+k<rs.length /\
  h[b2]?=some (.rows 5 (FY false) false (rs.set (i2+k) [Iv w.sess[k].place,v,Iv w.sess[k].wait.time,Iv w.sess[k].wait.place,Iv w.sess[k].key])) /\
  (∀ {R':Type} (K:Pq->Nat->Nq->Option R'),eS 2 v K=K x w.sess[k].past.length y)/\RTags false h [.sl 2 x w.sess[k].past.length y] w.sess[k].past G/\RTags false h [v] w.sess[k].past G /\
  (b2 :: G).Nodup/\(∀ y∈b2 :: G,lo<=y/\y<h.length/\y∈F2) /\
  ∀ h' row' s' G',h'[b2]?=some (.rows 5 (FY false) false (rs.set (i2+k) row'))->RSess false h' row' s' G'->Mv h (b2 :: G) h' (b2 :: G') ->
   ∃ F2',WN lo h' b ⟨w.places,w.sess.set k s',w.net,w.hist⟩ a1 c1 a2 c2 a3 c3 a4 c4 F1 F2' F3 F4/\Mv h (b ::(F1++(F2++(F3++F4)))) h' (b ::(F1++(F2'++(F3++F4)))):=by
 obtain ⟨⟨_,n2,_⟩,_⟩:=Rm H.ne.2;obtain ⟨b2,i2,rs,row,G,ha,hbF,hbG,hb,hil,hel,hGF,hGn,put⟩:=Sli.atP Jb H.r2 hk n2;obtain ⟨v,rfl,hv⟩:=hel;obtain ⟨x,y,es,hp⟩:=hv.form;refine ⟨b2,i2,rs,v,x,y,G,ha,hil,hb,es,hp,hv,by rw[zfN];exact ⟨hbG,hGn⟩,λy hy=>?_,λh' row' s' G' hb' hx m=>?_⟩
 ·have hyF:y∈F2:=by
   rcases zfL.1 hy with rfl | hy
   ·exact hbF
   ·exact hGF y hy
  exact ⟨H.ge y (by simp[hyF]),H.lt.2.1 y hyF,hyF⟩
 ·obtain ⟨F2',r,m'⟩:=put h' row' s' G' hb' hx m;exact ⟨F2',(H.up2 (by simp) m' r).1,(H.up2 (by simp) m' r).2⟩
theorem WN.sets (H:WN lo h b w a1 c1 a2 c2 a3 c3 a4 c4 F1 F2 F3 F4) {k:Nat} (hk:k<w.sess.length):∃ (b2 i2:Nat) (rs:List (List V)) (v:V),a2=some (b2,i2)/\lo<=b2/\i2+k<rs.length /\
  h[b2]?=some (.rows 5 (FY false) false (rs.set (i2+k) [Iv w.sess[k].place,v,Iv w.sess[k].wait.time,Iv w.sess[k].wait.place,Iv w.sess[k].key])) /\
  ∀ s':Sess,s'.past=w.sess[k].past->∃ F2',WN lo (h.set b2 (.rows 5 (FY false) false (rs.set (i2+k) [Iv s'.place,v,Iv s'.wait.time,Iv s'.wait.place,Iv s'.key]))) b ⟨w.places,w.sess.set k s',w.net,w.hist⟩ a1 c1 a2 c2 a3 c3 a4 c4 F1 F2' F3 F4 /\
   Mv h (b ::(F1++(F2++(F3++F4)))) (h.set b2 (.rows 5 (FY false) false (rs.set (i2+k) [Iv s'.place,v,Iv s'.wait.time,Iv s'.wait.place,Iv s'.key]))) (b ::(F1++(F2'++(F3++F4)))):=by
 obtain ⟨b2,i2,rs,v,x,y,G,ha,hil,hb,es,hp,hv,hnd,hF,put⟩:=H.sess hk;refine ⟨b2,i2,rs,v,ha,(hF b2 (by simp)).1,hil,hb,λs' hs'=>?_⟩;obtain ⟨hbG,hGn⟩:=zfN.1 hnd;obtain ⟨m6,b6,k6,n6⟩:=(Mv.refl (h:=h) hGn).store (hF b2 (by simp)).2.1 hbG (.rows 5 (FY false) false (rs.set (i2+k) [Iv s'.place,v,Iv s'.wait.time,Iv s'.wait.place,Iv s'.key]));exact put _ _ s' G b6 ⟨v,rfl,by rw[hs'];exact rtags_ok.fr _ _ _ _ _ hv λy hy=>k6 y λe=>hbG (e ▸ hy)⟩ m6
theorem WN.setp (H:WN lo h b w a1 c1 a2 c2 a3 c3 a4 c4 F1 F2 F3 F4) {k:Nat} (hk:k<w.sess.length) {l:List Tag}{G5:List Nat} (m:Mv h [] h' G5) (r:RTags false h' [.sl 2 a l.length c] l G5):∃ (b2 i2:Nat) (rs:List (List V)) (v:V),a2=some (b2,i2)/\lo<=b2/\i2+k<rs.length /\
  h'[b2]?=some (.rows 5 (FY false) false (rs.set (i2+k) [Iv w.sess[k].place,v,Iv w.sess[k].wait.time,Iv w.sess[k].wait.place,Iv w.sess[k].key])) /\
  ∀ s':Sess,s'.past=l->∃ F2',WN lo (h'.set b2 (.rows 5 (FY false) false (rs.set (i2+k) [Iv s'.place,.sl 2 a l.length c,Iv s'.wait.time,Iv s'.wait.place,Iv s'.key]))) b ⟨w.places,w.sess.set k s',w.net,w.hist⟩ a1 c1 a2 c2 a3 c3 a4 c4 F1 F2' F3 F4 /\
   Mv h (b ::(F1++(F2++(F3++F4)))) (h'.set b2 (.rows 5 (FY false) false (rs.set (i2+k) [Iv s'.place,.sl 2 a l.length c,Iv s'.wait.time,Iv s'.wait.place,Iv s'.key]))) (b ::(F1++(F2'++(F3++F4)))):=by
 obtain ⟨b2,i2,rs,v,x,y,G,ha,hil,hb,es,hp,hv,hnd,hF,put⟩:=H.sess hk;obtain ⟨hbG,hGn⟩:=zfN.1 hnd;have hblt:=(hF b2 (by simp)).2.1;refine ⟨b2,i2,rs,v,ha,(hF b2 (by simp)).1,hil,by rw[m.fr b2 hblt (by simp)];exact hb,λs' hs'=>?_⟩;have mG:Mv h G h' G5:=m.wide (λb hb=>by simp at hb);obtain ⟨m6,b6,k6,n6⟩:=mG.store hblt hbG (.rows 5 (FY false) false (rs.set (i2+k) [Iv s'.place,.sl 2 a l.length c,Iv s'.wait.time,Iv s'.wait.place,Iv s'.key]));exact put _ _ s' G5 b6 ⟨_,rfl,by rw[hs'];exact rtags_ok.fr _ _ _ _ _ r λy hy=>k6 y λe=>n6 (e ▸ hy)⟩ m6
theorem WN.stay (H:WN lo h b w a1 c1 a2 c2 a3 c3 a4 c4 F1 F2 F3 F4) (m:Mv h [] h' []) {X:Option World} (hX:X=none):∃ h'' F',some (V.bool false,h')=some (V.bool X.isSome,h'')/\Kb lo h'' b (X.getD w) F'/\Mv h (b ::(F1++(F2++(F3++F4)))) h'' F':=by subst hX;exact ⟨h',_,rfl,(H.up0 m).1.at,(H.up0 m).2⟩
end


section
variable {lo:Nat}{h h':Heap}{w:World}{a1 a2 a3 a4 a:Pq}{c1 c2 c3 c4 c:Nq}{F1 F2 F3 F4:List Nat}
theorem WR.stay (H:WR lo h w a1 c1 a2 c2 a3 c3 a4 c4 F1 F2 F3 F4) {X:Option World} (hX:X=none) :
  ∃ cs' h' F',some (V.tup [.agg (w.cs a1 c1 a2 c2 a3 c3 a4 c4),.bool false],h)=some (V.tup [.agg cs',.bool X.isSome],h')/\Tz lo h' cs' (X.getD w) F'/\Mv h (F1++(F2++(F3++F4))) h' F'/\((X)=none->cs'=w.cs a1 c1 a2 c2 a3 c3 a4 c4):=by
 subst hX;exact ⟨_,h,_,rfl,H.at,Mv.refl H.nd,λ_=>rfl⟩
theorem Wo {kind num key:Int}{text:ByteArray}{gone:Bool}{i:Nat} (H:WR lo h w a1 c1 a2 c2 a3 c3 a4 c4 F1 F2 F3 F4) (hg:Fits w) (ht:text.size<=1048576) (hi:i<w.sess.length) :
  ∃ cs' h' F',Af lo 249 [.agg (w.cs a1 c1 a2 c2 a3 c3 a4 c4),.agg [Iv kind,Iv (i:Nat),Iv num,Iv key,.str text,.bool gone]] h=some (.tup [.agg cs',.bool (Fe w i w.sess[i] ⟨kind,(i:Nat),num,key,text,gone⟩).isSome],h') /\
   Tz lo h' cs' ((Fe w i w.sess[i] ⟨kind,(i:Nat),num,key,text,gone⟩).getD w) F'/\Mv h (F1++(F2++(F3++F4))) h' F'/\((Fe w i w.sess[i] ⟨kind,(i:Nat),num,key,text,gone⟩)=none->cs'=w.cs a1 c1 a2 c2 a3 c3 a4 c4):=by
 suffices hk:∃ cs' h' F',_=some (V.tup [.agg cs',.bool (Fe w i w.sess[i] ⟨kind,(i:Nat),num,key,text,gone⟩).isSome],h')/\Tz lo h' cs' ((Fe w i w.sess[i] ⟨kind,(i:Nat),num,key,text,gone⟩).getD w) F'/\Mv h (F1++(F2++(F3++F4))) h' F'/\((Fe w i w.sess[i] ⟨kind,(i:Nat),num,key,text,gone⟩)=none->cs'=w.cs a1 c1 a2 c2 a3 c3 a4 c4) from by obtain ⟨cs',h',F',e,hr⟩:=hk;exact ⟨cs',h',F',TA e,hr⟩
 have hso:=hg.ok.sess _ (zfD hi);obtain ⟨t1,t2,t3,t4,t5,t6⟩:=CV hso;have h80:=hg.ok.h80;obtain ⟨k,hpl⟩:∃ k:Nat,w.sess[i].place=(k:Int):=⟨w.sess[i].place.toNat,by omega⟩;have hk:k<w.places.length:=by have:=hg.ok.p3;omega
 obtain ⟨hpo,hme,hro⟩:=hg.at hk;have hn:=(E3 (Bj hpo) (by decide) (by decide) (by decide)).1;have hX:Fe w i w.sess[i] ⟨kind,(i:Nat),num,key,text,gone⟩=bif !decide (w.sess[i].wait.time>0)&&(BE w.places[k] key text gone w.sess[i].past&&E0 w 1) then
   some (setS (setP w k (FV w.places[k] key text gone w.sess[i].past).1) i ⟨w.sess[i].place,w.sess[i].past,(FV w.places[k] key text gone w.sess[i].past).2,key⟩ [⟨i,1,key,(FV w.places[k] key text gone w.sess[i].past).2⟩]) else none:=by
  unfold Fe;rw[hpl,AW,EM hk]
 obtain ⟨b',i',v,e1',d1',Gs,rfl,hld',_,_,es',hv',_,hGn,puts⟩:=H.sess hi;obtain ⟨b,j,s1,s2,s3,b1,d1,b2,d2,b3,d3,G1,G2,G3,rfl,hld,_,_,e1,e2,e3,g1,g2,g3,nd,hF,put⟩:=H.place hk;have hFlo:∀ y∈G1++(G2++G3),lo<=y:=λy hy=>(hF y hy).1
 generalize hXX:Fe w i w.sess[i] ⟨kind,(i:Nat),num,key,text,gone⟩=X at hX;rw[Ac hi,Ae,AW,hld',Ae,Ab,Aa,Ab,es',Ab,Aa,Ab,Aa,Ab,Aa,Ag,hpl,Ac hk,Ae,AW,hld,Ae,Ab,Aa,Ab,Aa,Ab,e1,Ab,e2,Ab,e3,Ab,AB,Ag];by_cases hw:w.sess[i].wait.time>0
 ·rw[Ak hw];exact H.stay (by rw[hX,decide_eq_true hw];rfl)
 rw[Ai hw,A9,Ad,Ar];rw[decide_eq_false hw,zgx,zfQ] at hX;cases hwk:Aj key 0 3 with
 | false=>rw[Ay];exact H.stay (by rw[hX];unfold BE;rw[hwk];rfl)
 | true =>
 rw[Aq,NA ht,Ad,Ar];cases hto:GM text with
 | false=>rw[Ay];exact H.stay (by rw[hX];unfold BE;rw[hwk,hto];rfl)
 | true =>
 rw[Aq];have ec:=ZM (lo:=lo) (a2:=b2) (c2:=d2) (a3:=b3) (c3:=d3) g1 hv' hpo t2 hn;simp only[Place.cs] at ec;have fin:BE w.places[k] key text gone w.sess[i].past=true->E0 w 1=true->X=some ⟨w.places.set k (Cg (Hy w.places[k] 0 (AX w.places[k] w.sess[i].past) (Fh w.places[k] key text gone w.sess[i].past))),w.sess.set i ⟨w.sess[i].place,w.sess[i].past,⟨AX w.places[k] w.sess[i].past,w.places[k].me⟩,key⟩,w.net,w.hist ++ [⟨i,1,key,⟨AX w.places[k] w.sess[i].past,w.places[k].me⟩⟩]⟩:=λq1 q2=>by rw[hX,q1,q2];unfold FV;rw[hpo,q1];rfl
 cases gone with
 | false =>
  rw[Ay,ec,Ad,Ar];cases hm:Jd w.places[k] w.sess[i].past with
  | false=>rw[Ay];exact H.stay (by rw[hX];unfold BE;rw[hm];simp)
  | true =>
  have hcw:BE w.places[k] key text false w.sess[i].past=true:=by unfold BE;rw[hwk,hto,t2,hm];simp
  rw[Aq];by_cases hh:(w.hist.length:Int)>=80
  ·rw[Ak hh];exact H.stay (by rw[hX,show E0 w 1=false from decide_eq_false (by omega),zgI];rfl)
  have hX2:=fin hcw (decide_eq_true (by omega));obtain ⟨a6,c6,h5,F5,e5,⟨_,_,_,_,_,_,_,r5⟩,m5⟩:=OB (lo:=lo) g1 g2 g3 hv' hpo hcw nd hFlo H.hl;obtain ⟨h6,F6,e6,q6,m6⟩:=put h5 _ _ _ m5 r5 rfl;obtain ⟨h7,F7,e7,q7,m7⟩:=q6.wait hi ⟨AX w.places[k] w.sess[i].past,w.places[k].me⟩ key;obtain ⟨a8,c8,h8,F8,e8,q8,m8,_⟩:=HC (d:=⟨i,1,key,⟨AX w.places[k] w.sess[i].past,w.places[k].me⟩⟩) q7 (by show w.hist.length<=1000;omega);have W:=q8.at;simp only[setP,World.cs,zf6] at e7 e8 W;simp only[Place.cs] at e5 e6;rw[Ai hh,e5,Ad,J5,Ab,AN,Ab,Aa,Ab,Aa,Ab,Ah,Ab,Ah,Ab,Ah,Ab,AB,Ag,Ab,AN,Ab,Aa,Ab,Aa,Ag,Ag,Ac hk,Ae,e6,Ae];rw[e7,e8,Ad,AN,Ab,Ah,Ab,Ah,Ab,Ah,Ab,Ah,Ag,hX2];exact ⟨_,h8,_,rfl,W,(m6.trans m7).trans m8,λg=>by first | cases g | (simp at g)⟩
 | true =>
  rw[Aq,JK];cases hnt:Gm text with
  | false=>rw[Ay];exact H.stay (by rw[hX];unfold BE;rw[hwk,hto,hnt];rfl)
  | true =>
  rw[Aq,ec,Ad,Ar];cases hm:Jd w.places[k] w.sess[i].past with
  | false=>rw[Ay];exact H.stay (by rw[hX];unfold BE;rw[hm];simp)
  | true =>
  have hcw:BE w.places[k] key text true w.sess[i].past=true:=by unfold BE;rw[hwk,hto,t2,hm,hnt];simp
  rw[Aq];by_cases hh:(w.hist.length:Int)>=80
  ·rw[Ak hh];exact H.stay (by rw[hX,show E0 w 1=false from decide_eq_false (by omega),zgI];rfl)
  have hX2:=fin hcw (decide_eq_true (by omega));obtain ⟨a6,c6,h5,F5,e5,⟨_,_,_,_,_,_,_,r5⟩,m5⟩:=OB (lo:=lo) g1 g2 g3 hv' hpo hcw nd hFlo H.hl;obtain ⟨h6,F6,e6,q6,m6⟩:=put h5 _ _ _ m5 r5 rfl;obtain ⟨h7,F7,e7,q7,m7⟩:=q6.wait hi ⟨AX w.places[k] w.sess[i].past,w.places[k].me⟩ key;obtain ⟨a8,c8,h8,F8,e8,q8,m8,_⟩:=HC (d:=⟨i,1,key,⟨AX w.places[k] w.sess[i].past,w.places[k].me⟩⟩) q7 (by show w.hist.length<=1000;omega);have W:=q8.at;simp only[setP,World.cs,zf6] at e7 e8 W;simp only[Place.cs] at e5 e6;rw[Ai hh,e5,Ad,J5,Ab,AN,Ab,Aa,Ab,Aa,Ab,Ah,Ab,Ah,Ab,Ah,Ab,AB,Ag,Ab,AN,Ab,Aa,Ab,Aa,Ag,Ag,Ac hk,Ae,e6,Ae];rw[e7,e8,Ad,AN,Ab,Ah,Ab,Ah,Ab,Ah,Ab,Ah,Ag,hX2];exact ⟨_,h8,_,rfl,W,(m6.trans m7).trans m8,λg=>by first | cases g | (simp at g)⟩
end


def zfB (x:UInt8):List V := [.int .u8 (x.toNat:Int)]
abbrev RBytes:Rel (List UInt8):=Sli true 1 0 (flat zfB)
structure Rd (lo:Nat) (h:Heap) (b n:Nat):Prop where
 ge:lo<=b
 ex:∃ a code c p Fc,h[b]?=some (.rows 2 152 false [[.sl 1 a code.length c,Iv ((p:Nat):Int)]])/\RBytes h [.sl 1 a code.length c] code Fc/\(∀ y∈Fc,y<lo)/\p<=n/\code.length<=1048576
section
variable {lo:Nat}{h h':Heap}{F F':List Nat}{b n:Nat}
theorem Rd.lt (r:Rd lo h b n):b<h.length:=by obtain ⟨_,a,code,c,p,Fc,hb,_⟩:=r;exact (Ga hb).1
theorem Rd.up {n':Nat} (r:Rd lo h b n) (hn:n<=n'):Rd lo h b n':=by obtain ⟨hge,a,code,c,p,Fc,hb,hc,hF,hp,hl⟩:=r;exact ⟨hge,a,code,c,p,Fc,hb,hc,hF,by omega,hl⟩
theorem Rd.keep (r:Rd lo h b n) (m:Mv h F h' F') (hb:b∉F) (hF:∀ y∈F,lo<=y):Rd lo h' b n:=by have hlt:=r.lt;obtain ⟨hge,a,code,c,p,Fc,e,hc,hFc,hp,hl⟩:=r;refine ⟨hge,a,code,c,p,Fc,by rw[m.fr b hlt hb];exact e,m.keep (Sli.ok EG) hc (λy hy hm=>?_),hFc,hp,hl⟩;have h1:=hFc y hy;have h2:=hF y hm;omega
theorem RBytes.get {a:Pq}{c:Nq}{m k:Nat}{l:List UInt8} (hs:RBytes h [.sl 1 a m c] l F) (hk:k<l.length):∃ o,a=some o/\ld h o.1 (o.2+k) 0 1=some [.int .u8 (l[k].toNat:Int)]:=by obtain ⟨o,row,G,h1,h2,⟨rfl,_⟩,_⟩:=hs.read hk;exact ⟨o,h1,by rw[h2];rfl⟩
theorem V4 {α β:Type}:∀ (l:List α),(l.map λ_=>([]:List β)).flatten = []
 | []=>rfl
 | _ :: l=>by simp[V4 l]
end


variable {α:Type}{l:List α}
theorem Mv.apart {h h1:Heap}{A F1:List Nat}{b:Nat} (m:Mv h A h1 (b :: F1)):∀ y∈F1,y ∉ [b]:=λy hy hm=>by have hn:=m.nd;rw[zfN] at hn;rw[zgg] at hm;exact hn.1 (hm ▸ hy)
section
variable {lo:Nat}{h h':Heap}{F F':List Nat}{b n:Nat}
theorem Sli.made {cs:α->List V}{R e:Nat}{rows:List (List V)} (hr:rows=l.map cs):Sli false R e (flat cs) (h ++ [.rows R e false rows]) [.sl R (some (h.length,0)) l.length (some l.length)] l [h.length]:=by subst hr;refine ⟨R,some (h.length,0),some l.length,rfl,rfl,l.map cs,l.map λ_ => [],by simp,by simp,λk hk=>by injection hk with hk;simp;omega,(λhc=>(by cases hc)),?_,by rw[V4]⟩;rw[zgF,zgk (by simp)];exact EAll.flat
theorem V5 {Fs:List (List Nat)}:(Fs.drop 1).flatten.Sublist Fs.flatten:=by
 cases Fs with
 | nil=>simp
 | cons F Fs=>simp only[List.drop_succ_cons,zgF,zf7];exact List.sublist_append_right _ _
theorem Sli.behind {El:Rel α}{R e q i k m:Nat} (hs:Sli false R e El h [.sl R (some (q,i)) m (some k)] l F) (h0:0<l.length) (hnd:F.Nodup) :
  (∀ {T:Type} (K:Pq->Nat->Nq->Option T),1<k->Az (some (q,i)) m (some k) (some (Iv 1)) none none K=K (some (q,i+1)) (l.drop 1).length (some (k - 1))) /\
   ∃ F',Sli false R e El h [.sl R (some (q,i+1)) (l.drop 1).length (some (k - 1))] (l.drop 1) F'/\F'.Nodup/\∀ y∈F',y∈F:=by
 have hm:=hs.val;subst hm;obtain ⟨b',i',rs,Fs,ha,g1,g2,g3,g4,g5,rfl⟩:=hs.data h0;injection ha with ha;injection ha with e1 e2;subst e1;subst e2;obtain ⟨k1,k2⟩:=g3 k rfl;refine ⟨λK hk=>?_,q ::(Fs.drop 1).flatten,⟨R,some (q,i+1),some (k - 1),rfl,rfl,rs,Fs.drop 1,g1,by simp;omega,λk' hk=>?_,(λhc=>(by cases hc)),?_,rfl⟩,?_,λy hy=>?_⟩
 ·unfold Az HD KI Lw NP;simp only[Aa,zgT];rw[DL ⟨by omega,by omega⟩];have:Nat.beq k (Int.toNat 1)=false:=by
   cases hb:Nat.beq k (Int.toNat 1) with
   | false=>rfl
   | true =>have:=zfP hb;have e:Int.toNat 1=1:=rfl;omega
  rw[this,Ay,zgE];rfl
 ·injection hk with hk;subst hk;simp only[zgE];omega
 ·have hd:=g5.drop 1;have:((rs.drop i).take l.length).drop 1=(rs.drop (i+1)).take (l.drop 1).length:=by rw[List.drop_take,zg9,zgE]
  rw[<- this];exact hd
 ·rw[zfN] at hnd ⊢;have hsub:(Fs.drop 1).flatten.Sublist Fs.flatten:=V5;exact ⟨λhm=>hnd.1 (hsub.mem hm),hnd.2.sublist hsub⟩
 ·have hsub:(Fs.drop 1).flatten.Sublist Fs.flatten:=V5;rw[zfL] at hy ⊢;exact hy.imp id λhy=>hsub.mem hy
end


section
variable {lo:Nat}{h h':Heap}{F F':List Nat}{b n:Nat}
theorem Mv.thin {A F1 F2:List Nat}{h1:Heap} (m:Mv h A h1 (b :: F1)) (hn:F2.Nodup) (hs:∀ y∈F2,y∈F1):Mv h A h1 (b :: F2):=by have hn1:=m.nd;rw[zfN] at hn1;refine m.lean (zfN.2 ⟨λhm=>hn1.1 (hs b hm),hn⟩) λy hy=>?_;rw[zfL] at hy ⊢;exact hy.imp id (hs y)
end


section
variable {lo:Nat}{h h':Heap}{F F':List Nat}{b n:Nat}
theorem Sli.first {α:Type}{El:Rel α}{R e m i:Nat}{a:Pq}{c:Nq}{l:List α} (hs:Sli false R e El h [.sl R a m c] l F) (hi:i<=l.length) (hnd:F.Nodup):∃ F2,Sli false R e El h [.sl R a i c] (l.take i) F2/\F2.Nodup/\∀ y∈F2,y∈F:=by
 have hm:=hs.val;subst hm;by_cases h0:l.length=0
 ·have:l = []:=zfM h0;subst this;have:i=0:=by simpa using hi
  subst this;exact ⟨F,hs,hnd,λy hy=>hy⟩
 obtain ⟨b',i',rs,Fs,ha,g1,g2,g3,g4,g5,rfl⟩:=hs.data (k:=0) (by omega);have hs0:=hs;obtain ⟨R1,a1,c1,e1,_⟩:=hs;injection e1 with e1 _;injection e1 with e0 e2 _ e4;have hsub:(Fs.take i).flatten.Sublist Fs.flatten:=by
  conv=>{ rhs;rw[<- zgi i Fs,zgf] }
  exact List.sublist_append_left _ _
 rw[zfN] at hnd;refine ⟨b' ::(Fs.take i).flatten,⟨R,a,c,by simp;omega,?_⟩,zfN.2 ⟨λhm=>hnd.1 (hsub.mem hm),hnd.2.sublist hsub⟩,λy hy=>?_⟩
 ·subst ha;refine ⟨rfl,rs,Fs.take i,g1,by simp;omega,λk hk=>?_,g4,?_,rfl⟩
  ·have:=g3 k hk;simp only[zf2];omega
  ·have hd:=g5.take i;rw[List.take_take] at hd;have:min i l.length=(l.take i).length:=by simp
   rw[<- this];exact hd
 ·rw[zfL] at hy ⊢;exact hy.imp id λhy=>hsub.mem hy
end


section
variable {lo:Nat}{ro ro':Bool}{h:Heap}{F F':List Nat}{a a':Pq}{c c':Nq}
theorem BP {p:List Tag} (hp:Bt p=true):p.length=4:=by unfold Bt at hp;rw[E1,decide_eq_true_eq] at hp;exact hp.1
end


section
variable {lo:Nat}{h h':Heap}{w:World}{a1 a2 a3 a4 a:Pq}{c1 c2 c3 c4 c:Nq}{F1 F2 F3 F4:List Nat}
theorem ZK {kind num key:Int}{text:ByteArray}{gone:Bool}{i:Nat} (H:WR lo h w a1 c1 a2 c2 a3 c3 a4 c4 F1 F2 F3 F4) (hg:Fits w) (hi:i<w.sess.length) :
  ∃ cs' h' F',Af lo 250 [.agg (w.cs a1 c1 a2 c2 a3 c3 a4 c4),.agg [Iv kind,Iv (i:Nat),Iv num,Iv key,.str text,.bool gone]] h=some (.tup [.agg cs',.bool (KR w i w.sess[i]).isSome],h') /\
   Tz lo h' cs' ((KR w i w.sess[i]).getD w) F'/\Mv h (F1++(F2++(F3++F4))) h' F'/\((KR w i w.sess[i])=none->cs'=w.cs a1 c1 a2 c2 a3 c3 a4 c4):=by
 suffices hk:∃ cs' h' F',_=some (V.tup [.agg cs',.bool (KR w i w.sess[i]).isSome],h')/\Tz lo h' cs' ((KR w i w.sess[i]).getD w) F'/\Mv h (F1++(F2++(F3++F4))) h' F'/\((KR w i w.sess[i])=none->cs'=w.cs a1 c1 a2 c2 a3 c3 a4 c4) from by obtain ⟨cs',h',F',e,hr⟩:=hk;exact ⟨cs',h',F',XK e,hr⟩
 have hso:=hg.ok.sess _ (zfD hi);obtain ⟨t1,t2,t3,t4,t5,t6⟩:=CV hso;have hp4:=BP t2;have h80:=hg.ok.h80;obtain ⟨k,hpl⟩:∃ k:Nat,w.sess[i].place=(k:Int):=⟨w.sess[i].place.toNat,by omega⟩;obtain ⟨m,hkey⟩:∃ m:Nat,w.sess[i].key=(m:Int):=⟨w.sess[i].key.toNat,by omega⟩;have hk:k<w.places.length:=by have:=hg.ok.p3;omega
 obtain ⟨hpo,hme,hro⟩:=hg.at hk;have hn:=(E3 (Bj hpo) (by decide) (by decide) (by decide)).1;have hco:=(A3 hpo).2.2.2.1;have hcl:=Dm hpo;have hst:∀ x∈w.places[k].chain,A5 x.store=true:=λx hx=>(AQ ((Ca hco).2 x hx)).1
 have h04:=A6 (hst _ (zfD hcl));have hm0:m<w.places[k].chain[0].store.length:=by omega
 obtain ⟨b',i',v,e1',d1',Gs,rfl,hld',_,_,es',hv',_,hGn,puts⟩:=H.sess hi;obtain ⟨b,j,s1,s2,s3,b1,d1,b2,d2,b3,d3,G1,G2,G3,rfl,_,hc2,_,e1,e2,e3,g1,g2,g3,nd,hF,put⟩:=H.place hk;obtain ⟨u,x5,y5,h1,G5,e5,hsh,r5,m5⟩:=Nz (lo:=lo) (k:=0) (key:=m) g1 hcl hst (by omega) H.hl hn.1.1;rw[show ((0:Nat):Int)=0 from rfl] at e5;obtain ⟨o,z1,z2,p1,q1,p2,q2,H1,H2,rfl,_,ho1,_,ez1,_,gg1,_,_⟩:=(m5.keep0 rnodes_ok g1).get hcl;obtain ⟨o',_,_,_,_,rfl,_,_,_,_,_,_,ho12,_⟩:=gg1.all hm0;have hX:KR w i w.sess[i]=bif decide (w.sess[i].wait.time>0) then
    (bif EQ u.tag w.sess[i].wait then (bif EQ w.places[k].chain[0].store[m].tag w.sess[i].wait then some (setS w i ⟨w.sess[i].place,w.sess[i].past,⟨0,0⟩,0⟩ []) else none)
    else (bif E0 w 1 then some (setS w i ⟨w.sess[i].place,FW w.sess[i].past m w.sess[i].wait,⟨0,0⟩,0⟩ [⟨i,3,w.sess[i].key,w.sess[i].wait⟩]) else none)) else none:=by
  have hhd:(Fp w.places[k].chain)[m]?=some w.places[k].chain[0].store[m]:=by unfold Fp;rw[EM hcl];exact EM hm0
  unfold KR;rw[hpl,hkey,AW,AW,EM hk];simp only[hsh,hhd]
 generalize hXX:KR w i w.sess[i]=X at hX;obtain ⟨Hq,mq⟩:=H.up0 m5.drop;simp only[Ver.cs] at e5;rw[Ac hi,Ae,AW,hld',Ae,Ab,Aa,Ab,es',Ab,Aa,Ab,Aa,Ab,Aa,Ag];by_cases hw:¬ w.sess[i].wait.time>0
 ·have:w.sess[i].wait.time=0:=by simp[Bd,Aj] at t3;omega
  rw[this,FS,Aq];exact H.stay (by rw[hX,decide_eq_false hw];rfl)
 have hw:w.sess[i].wait.time>0:=by omega
 rw[decide_eq_true hw,cond_true] at hX;rw[show (w.sess[i].wait.time==0)=false by rw[beq_eq_false_iff_ne];omega,Ay,hpl,Ac hk,Ae,AW,hc2,Ae,Ab,e1,Ag,hkey,e5,Ad,AN,Ab,Aa,Ab,Aa,Ab,Aa,Ab,Ah,Ab,A4,Ab,AB,Ag,BY ⟨by omega,by omega⟩,Ae,ho1,Ae,Ab,Ag,ez1,Ac hm0,Ae,AW,ho12,Ae,Ab,Aa,Ab,Aa,Ag,B9,Ad,Ar];cases hA:Ic u.tag.time u.tag.place w.sess[i].wait.time w.sess[i].wait.place with
 | true =>
  rw[show EQ u.tag w.sess[i].wait=true from hA,cond_true] at hX;rw[Aq,B9,Ad,Ar];cases hB:Ic w.places[k].chain[0].store[m].tag.time w.places[k].chain[0].store[m].tag.place w.sess[i].wait.time w.sess[i].wait.place with
  | false =>rw[show EQ w.places[k].chain[0].store[m].tag w.sess[i].wait=false from hB,cond_false] at hX;rw[Ay];obtain ⟨cs',h',F',e,W,M,N⟩:=Hq.stay hX;exact ⟨cs',h',F',e,W,mq.trans M,N⟩
  | true =>rw[show EQ w.places[k].chain[0].store[m].tag w.sess[i].wait=true from hB,cond_true] at hX;obtain ⟨h7,F7,e7,q7,m7⟩:=Hq.wait hi ⟨0,0⟩ 0;rw[Aq,B9,Ad,Ar,hA,Aq,B9,Ad,Ar,hA,Aq];simp only[] at e7;rw[e7,hX];refine ⟨_,h7,_,rfl,?_,mq.trans m7,λg=>by first | cases g | (simp at g)⟩;have W:=q7.at;simp only[World.cs,zf6] at W;simpa only [setS,zgX,zgc] using W
 | false =>
  rw[show EQ u.tag w.sess[i].wait=false from hA,cond_false] at hX;rw[Ay,B9,Ad,Ar,hA,Ay];by_cases hh:(w.hist.length:Int)>=80
  ·rw[Ak hh];obtain ⟨cs',h',F',e,W,M,N⟩:=Hq.stay (X:=X) (by rw[hX,show E0 w 1=false from decide_eq_false (by omega)];rfl);exact ⟨cs',h',F',e,W,mq.trans M,N⟩
  rw[show E0 w 1=true from decide_eq_true (by omega),cond_true] at hX;obtain ⟨x6,y6,h6,F6,e6,r6,m6⟩:=Mg (lo:=lo) (k:=m) (t:=w.sess[i].wait) (m5.keep0 rtags_ok hv') (by omega) Hq.hl (by omega);obtain ⟨h7,F7,e7,q7,m7,_⟩:=Hq.past hi m6 r6;obtain ⟨a8,c8,h8,F8,e8,q8,m8,_⟩:=HC (d:=⟨i,3,(m:Nat),w.sess[i].wait⟩) q7 (by show w.hist.length<=1000;omega);have hi8:i<(w.sess.set i ⟨w.sess[i].place,FW w.sess[i].past m w.sess[i].wait,w.sess[i].wait,w.sess[i].key⟩).length:=by simpa using hi
  obtain ⟨h9,F9,e9,q9,m9⟩:=q8.wait hi8 ⟨0,0⟩ 0;have W:=q9.at;simp only[World.cs,zf6] at e8 e9;simp only[World.cs,zf6,zgR,zgv] at W;rw[Ai hh,B9,Ad,Ar,hA,Ay,e6,Ad,AN,Ab,Ah,Ag,e7,e8,Ad,AN,Ab,Ah,Ab,Ah,Ab,Ah,Ab,Ah,Ag,e9,hX];refine ⟨_,h9,_,rfl,?_,mq.trans ((m7.trans m8).trans m9),λg=>by first | cases g | (simp at g)⟩;simpa only [setS,zgX,hkey] using W
end


section
variable {lo:Nat}{h h':Heap}{w:World}{a1 a2 a3 a4 a:Pq}{c1 c2 c3 c4 c:Nq}{F1 F2 F3 F4:List Nat}
theorem Yf {kind num key:Int}{text:ByteArray}{gone:Bool}{i:Nat} (H:WR lo h w a1 c1 a2 c2 a3 c3 a4 c4 F1 F2 F3 F4) (hg:Fits w) (hi:i<w.sess.length) :
  ∃ cs' h' F',Af lo 251 [.agg (w.cs a1 c1 a2 c2 a3 c3 a4 c4),.agg [Iv kind,Iv (i:Nat),Iv num,Iv key,.str text,.bool gone]] h=some (.tup [.agg cs',.bool (HY w i w.sess[i] ⟨kind,(i:Nat),num,key,text,gone⟩).isSome],h') /\
   Tz lo h' cs' ((HY w i w.sess[i] ⟨kind,(i:Nat),num,key,text,gone⟩).getD w) F'/\Mv h (F1++(F2++(F3++F4))) h' F'/\((HY w i w.sess[i] ⟨kind,(i:Nat),num,key,text,gone⟩)=none->cs'=w.cs a1 c1 a2 c2 a3 c3 a4 c4):=by
 suffices hk:∃ cs' h' F',_=some (V.tup [.agg cs',.bool (HY w i w.sess[i] ⟨kind,(i:Nat),num,key,text,gone⟩).isSome],h')/\Tz lo h' cs' ((HY w i w.sess[i] ⟨kind,(i:Nat),num,key,text,gone⟩).getD w) F'/\Mv h (F1++(F2++(F3++F4))) h' F'/\((HY w i w.sess[i] ⟨kind,(i:Nat),num,key,text,gone⟩)=none->cs'=w.cs a1 c1 a2 c2 a3 c3 a4 c4) from by obtain ⟨cs',h',F',e,hr⟩:=hk;exact ⟨cs',h',F',UJ e,hr⟩
 have hso:=hg.ok.sess _ (zfD hi);obtain ⟨t1,t2,t3,t4,t5,t6⟩:=CV hso;have hp4:=BP t2;have h80:=hg.ok.h80;obtain ⟨k,hpl⟩:∃ k:Nat,w.sess[i].place=(k:Int):=⟨w.sess[i].place.toNat,by omega⟩;have hk:k<w.places.length:=by have:=hg.ok.p3;omega
 obtain ⟨hpo,hme,hro⟩:=hg.at hk;have hn:=(E3 (Bj hpo) (by decide) (by decide) (by decide)).1;have hn1:=hn.1.1;have hch:=chain_iff.1 (A3 hpo).2.2.2.1;have hst:∀ x∈w.places[k].chain,A5 x.store=true:=λx hx=>(AQ ((Ca (A3 hpo).2.2.2.1).2 x hx)).1
 obtain ⟨b',i',v,e1',d1',Gs,rfl,hld',_,_,es',hv',_,hGn,puts⟩:=H.sess hi;obtain ⟨b,j,s1,s2,s3,b1,d1,b2,d2,b3,d3,G1,G2,G3,rfl,_,hc2,_,e1,e2,e3,g1,g2,g3,nd,hF,put⟩:=H.place hk;have hX:HY w i w.sess[i] ⟨kind,(i:Nat),num,key,text,gone⟩=bif !decide (w.sess[i].wait.time>0)&&(Aj key 0 3&&(Aj num 0 ((w.places[k].chain.length:Int) - 1)&&E0 w 1)) then
   (match HE w.places[k].chain num.toNat key.toNat,w.sess[i].past[key.toNat]? with
   | some v,some t=>bif EQ v.tag t then none else some (setS w i ⟨w.sess[i].place,OG w.sess[i] v key.toNat,w.sess[i].wait,w.sess[i].key⟩ [⟨i,2,key,v.tag⟩])
   | _,_=>none) else none:=by
  unfold HY;rw[hpl,AW,EM hk]<;>rfl
 generalize hXX:HY w i w.sess[i] ⟨kind,(i:Nat),num,key,text,gone⟩=X at hX;rw[Ac hi,Ae,AW,hld',Ae,Ab,Aa,Ab,es',Ab,Aa,Ab,Aa,Ab,Aa,Ag,hpl,Ac hk,Ae,AW,hc2,Ae,Ab,e1,Ag];by_cases hw:w.sess[i].wait.time>0
 ·rw[Ak hw];exact H.stay (by rw[hX,decide_eq_true hw];rfl)
 rw[decide_eq_false hw,zgx,zfQ] at hX;rw[Ai hw,A9,Ad,Ar];cases hwk:Aj key 0 3 with
 | false=>rw[Ay];exact H.stay (by rw[hX,hwk];rfl)
 | true =>
 rw[hwk,zfQ] at hX;rw[Aq,wr (by omega) (by omega),A9,Ad,Ar];cases hwn:Aj num 0 ((w.places[k].chain.length:Int) - 1) with
 | false=>rw[Ay];exact H.stay (by rw[hX,hwn];rfl)
 | true =>
 rw[hwn,zfQ] at hX;rw[Aq];by_cases hh:(w.hist.length:Int)>=80
 ·rw[Ak hh];exact H.stay (by rw[hX,show E0 w 1=false from decide_eq_false (by omega)];rfl)
 rw[show E0 w 1=true from decide_eq_true (by omega),cond_true] at hX;simp only[Aj,E1,decide_eq_true_eq] at hwk hwn;obtain ⟨m,rfl⟩:∃ m:Nat,key=(m:Int):=⟨key.toNat,by omega⟩;obtain ⟨n,rfl⟩:∃ n:Nat,num=(n:Int):=⟨num.toNat,by omega⟩;have hmp:m<w.sess[i].past.length:=by omega
 obtain ⟨u,x5,y5,h1,G5,e5,hsh,r5,m5⟩:=Nz (lo:=lo) (k:=n) (key:=m) g1 (by omega) hst (by omega) H.hl hn1;obtain ⟨Hq,mq⟩:=H.up0 m5.drop;rw[AW,AW,hsh,EM hmp] at hX;simp only[] at hX;have hu4:Bt u.past=true\/u.tag.time=0:=by
  have hql:BH w.places[k].chain n<w.places[k].chain.length:=by unfold BH;split<;>omega
  unfold HE at hsh;rw[EO hql] at hsh;rcases Di (Oy (hst _ (zfD hql)) hsh) with g | g
  ·exact .inr (E8 g).1
  ·exact .inl (AZ g.1).2.2.2.1
 obtain ⟨o',ho',ho2⟩:=(m5.keep0 rtags_ok hv').get hmp;subst ho';simp only[Ver.cs] at e5;rw[Ai hh,e5,Ad,AN,Ab,Aa,Ab,Aa,Ab,Aa,Ab,Ah,Ab,A4,Ab,AB,Ag,Ac hmp,Ae,AW,ho2,Ae,Ab,Aa,Ab,Aa,Ag,B9,Ad,Ar];cases hA:Ic u.tag.time u.tag.place w.sess[i].past[m].time w.sess[i].past[m].place with
 | true =>rw[show EQ u.tag w.sess[i].past[m]=true from hA,cond_true] at hX;rw[Aq];obtain ⟨cs',h',F',e,W,M,N⟩:=Hq.stay hX;exact ⟨cs',h',F',e,W,mq.trans M,N⟩
 | false =>
 rw[show EQ u.tag w.sess[i].past[m]=false from hA,cond_false] at hX;rw[Ay];unfold OG at hX;by_cases ht:u.tag.time>0
 ·rw[decide_eq_true ht,cond_true] at hX;have hu4':u.past.length=4:=BP (hu4.resolve_right (by omega));obtain ⟨q6,x6,y6,h6,F6,e6,r6,m6⟩:=Yq (lo:=lo) (m5.keep0 rtags_ok hv') r5 hp4 hu4' Hq.hl;obtain ⟨x7,y7,es7,r7⟩:=r6.form;have hj:(Ew w.sess[i].past u.past).length=4:=by unfold Ew;rw[zhp];omega
  obtain ⟨x8,y8,h8,F8,e8,r8,m8⟩:=Mg (lo:=lo) (k:=m) (t:=u.tag) r7 (by omega) (zfE Hq.hl m6.le) (by omega);obtain ⟨h9,F9,e9,q9,m9,_⟩:=Hq.past hi (m6.drop.trans m8) r8;obtain ⟨x10,y10,h10,F10,e10,q10,m10,_⟩:=HC (d:=⟨i,2,(m:Nat),u.tag⟩) q9 (by show w.hist.length<=1000;omega);have W:=q10.at;simp only[World.cs,zf6] at e10 W;rw[Ak ht,e6,Ad,AN,Ab,es7,Ag,e8,Ad,AN,Ab,Ah,Ag,e9,e10,Ad,AN,Ab,Ah,Ab,Ah,Ab,Ah,Ab,Ah,Ag,hX];exact ⟨_,h10,_,rfl,W,mq.trans (m9.trans m10),λg=>by first | cases g | (simp at g)⟩
 ·rw[decide_eq_false ht,cond_false] at hX;obtain ⟨x10,y10,h10,F10,e10,q10,m10,_⟩:=HC (d:=⟨i,2,(m:Nat),u.tag⟩) Hq (by omega);have W:=q10.at;simp only[World.cs] at e10 W;have hse:w.sess.set i ⟨w.sess[i].place,w.sess[i].past,w.sess[i].wait,w.sess[i].key⟩=w.sess:=zgY hi;rw[Ai ht,e10,Ad,AN,Ab,Ah,Ab,Ah,Ab,Ah,Ab,Ah,Ag,hX];refine ⟨_,h10,_,rfl,?_,mq.trans m10,λg=>by first | cases g | (simp at g)⟩;simpa only [setS,zgX,hse] using W
end


theorem VH {w:World}{q:Nat} (hq:q<w.places.length):setP w q w.places[q]=w:=by unfold setP;rw[zgY]
section
variable {lo b:Nat}{h h':Heap}{w:World}{a1 a2 a3 a4 a:Pq}{c1 c2 c3 c4 c:Nq}{F1 F2 F3 F4:List Nat}
theorem P6 {e:Event}{k b2 i2:Nat} (H:WN lo h b w a1 c1 (some (b2,i2)) c2 a3 c3 a4 c4 F1 F2 F3 F4) (hg:Fits w) (hk:k<w.sess.length) (he:e.at'=(k:Int)) (hw0:w.sess[k].wait.time=0) (hes:e.text.size<=1048576) :
  ∃ h' F',Af lo 218 [.ptr (some (b,(0,0))),.ptr (some (b2,(i2+k,0))),.agg e.cs] h=some (.bool (Fe w k w.sess[k] e).isSome,h')/\Kb lo h' b ((Fe w k w.sess[k] e).getD w) F'/\Mv h (b ::(F1++(F2++(F3++F4)))) h' F':=by
 suffices hq:∃ h' F',_=some (V.bool (Fe w k w.sess[k] e).isSome,h')/\Kb lo h' b ((Fe w k w.sess[k] e).getD w) F'/\Mv h (b ::(F1++(F2++(F3++F4)))) h' F' from by obtain ⟨h',F',e1,hr⟩:=hq;exact ⟨h',F',Og e1,hr⟩
 have hso:=hg.ok.sess _ (zfD hk);obtain ⟨t1,t2,t3,t4,t5,t6⟩:=CV hso;have hp4:=BP t2;have h80:=hg.ok.h80;obtain ⟨q,hpl⟩:∃ q:Nat,w.sess[k].place=(q:Int):=⟨w.sess[k].place.toNat,by omega⟩;have hq:q<w.places.length:=by have:=hg.ok.p3;omega
 obtain ⟨hpo,hme,hro⟩:=hg.at hq;have hn:=(E3 (Bj hpo) (by decide) (by decide) (by decide)).1;have hX:Fe w k w.sess[k] e=bif (BE w.places[q] e.key e.text e.gone w.sess[k].past&&E0 w 1) then some (setS (setP w q (FV w.places[q] e.key e.text e.gone w.sess[k].past).1) k ⟨w.sess[k].place,w.sess[k].past,(FV w.places[q] e.key e.text e.gone w.sess[k].past).2,e.key⟩ [⟨k,1,e.key,(FV w.places[q] e.key e.text e.gone w.sess[k].past).2⟩]) else none:=by unfold Fe;rw[hpl,AW,EM hq,hw0];rfl
 generalize hXX:Fe w k w.sess[k] e=X at hX;obtain ⟨b2',i2',rs2,v,x,y,G,ha2',hil2,hb2,es,hp,hv,hnd2,hF2,_⟩:=H.sess hk;injection ha2' with ha2';injection ha2' with z1 z2;subst z1;subst z2;obtain ⟨b1,i1,rs,x1,y1,x2,y2,x3,y3,G1,G2,G3,rfl,hil,hb1,g1,g2,g3,nd,hF,put⟩:=H.place hq;have lp:∀ hh:Heap,hh[b2]?=h[b2]?->ld hh b2 (i2+k) (0+0) 1=some [Iv (q:Nat)]:=λhh e=>by rw[hb2] at e;rw[NZ e hil2,<- hpl];rfl
 have lv:ld h b2 (i2+k) (0+1) 1=some [v]:=by rw[NZ hb2 hil2];rfl
 rw[Na H (by omega) ⟨by omega,by omega⟩,Ad,Ar];cases hr:E0 w 1 with
 | false=>rw[Ay];exact H.stay Mv.nil (by rw[hX,hr,zgI];rfl)
 | true =>
 rw[hr,zgp] at hX;obtain ⟨a5,c5,h5,F5,e5,r5,m5⟩:=Es (lo:=lo) hp H.hl (by omega);have H5:=(H.up0 m5.drop).1;have h5b2:h5[b2]?=h[b2]?:=m5.fr b2 (hF2 b2 (by simp)).2.1 (by simp);have hblt:=(hF b1 (by simp)).2.1;have m5a:=m5.drop.aside (G:=b1 ::(G1++(G2++G3))) nd (λy hy=>(hF y hy).2.1);obtain ⟨h6,row6,F6,e6,r6,b6,m6⟩:=YW (lo:=lo) (h:=h5) hil (k:=e.key) (s:=e.text) (g:=e.gone) (l:=w.sess[k].past) (by rw[m5.fr b1 hblt (by simp)];exact hb1) (m5.keep0 rnodes_ok g1) (m5.keep0 rvers_ok g2) (m5.keep0 rvss_ok g3) r5
  (λy hy hm=>by have:=m5.new y hy;have:=(hF y (by simp only[zfL,zfF] at hm ⊢;rcases hm with hm | hm;exact .inl hm;exact .inr (.inl hm))).2.1;omega) hpo hn ⟨by omega,hes⟩ nd (λy hy=>(hF y hy).1) (zfE H.hl m5.le)
 obtain ⟨F1',H6,M6⟩:=put h6 row6 _ F6 b6 r6 (m5a.trans m6);rw[Aq,H.cell.1,Ae,Ab,Ag,Ah,lp h rfl,Ae,Ab,Ag,Aa,Ac hq,Ae,lv,Ae,Ab,es,Ag,JM,Dj,JM,Dj,e5,Ad,AN,Ab,Ah,Ag,H5.cell.1,lp h5 h5b2,JM,Dj,JM,Dj,AW,e6,Ad,AN,Ab,Aa,Ab,Aa,Ag];cases hcw:BE w.places[q] e.key e.text e.gone w.sess[k].past with
 | false =>
  rw[hcw] at hX;have hwr:FV w.places[q] e.key e.text e.gone w.sess[k].past=(w.places[q],⟨0,0⟩):=by unfold FV;rw[hpo,hcw];rfl
  rw[hwr] at H6 ⊢;rw[VH hq] at H6;subst hX;exact ⟨h6,_,rfl,H6.at,M6⟩
 | true =>
 rw[hcw] at hX;have hz:(((FV w.places[q] e.key e.text e.gone w.sess[k].past).2.time==(0:Int))&&(((FV w.places[q] e.key e.text e.gone w.sess[k].past).2.place==(0:Int))&&true))=false:=by
  have hlt:Fm w.sess[k].past<AX w.places[q] w.sess[k].past/\w.places[q].clock<AX w.places[q] w.sess[k].past:=newer_lt_iff.1 (by unfold AX;omega);have hcl:=(A3 hpo).2.1;have:((FV w.places[q] e.key e.text e.gone w.sess[k].past).2.time==(0:Int))=false:=by rw[Vv hpo hcw,beq_eq_false_iff_ne];show AX w.places[q] w.sess[k].past≠0;omega
  rw[this];rfl
 generalize (FV w.places[q] e.key e.text e.gone w.sess[k].past).1=P at hX H6 M6;generalize (FV w.places[q] e.key e.text e.gone w.sess[k].past).2=T at hX hz ⊢;obtain ⟨b2',i2',rs6,v6,ha6,lob,hil6,hb6,put6⟩:=H6.sets (k:=k) hk;injection ha6 with ha6;injection ha6 with z1 z2;subst z1;subst z2;have hb6':h6[b2]?=some (.rows 5 (FY false) false (rs6.set (i2+k) [Iv w.sess[k].place,v6,Iv w.sess[k].wait.time,Iv w.sess[k].wait.place,Iv w.sess[k].key])):=hb6;have s1:=PQ (lo:=lo) (j:=0+2) (cs := [Iv T.time,Iv T.place]) (row' := [Iv w.sess[k].place,v6,Iv T.time,Iv T.place,Iv w.sess[k].key]) hb6' hil6 lob rfl;have s2:=PQ (lo:=lo) (h:=h6.set b2 (.rows 5 (FY false) false (rs6.set (i2+k) [Iv w.sess[k].place,v6,Iv T.time,Iv T.place,Iv w.sess[k].key]))) (b:=b2) (i:=i2+k) (rs:=rs6) (e:=FY false) (R:=5) (j:=0+4) (cs := [Iv e.key]) (row := [Iv w.sess[k].place,v6,Iv T.time,Iv T.place,Iv w.sess[k].key]) (row' := [Iv w.sess[k].place,v6,Iv T.time,Iv T.place,Iv e.key]) (by rw[zf3 (Ga hb6').1]) hil6 lob rfl;rw[zgv] at s2;obtain ⟨F2',H7,M7⟩:=put6 ⟨w.sess[k].place,w.sess[k].past,T,e.key⟩ rfl;obtain ⟨a8,c8,h8,G8,e8,H8,M8⟩:=P5 (d:=⟨e.at',1,e.key,T⟩) H7 (by show w.hist.length<=1000;omega);rw[hz,Ay,s1,Ae,s2,Ae,e8,Ad,J5,Ag];subst hX;rw[he] at H8;exact ⟨h8,_,rfl,H8.at,M6.trans (M7.trans M8)⟩
end


section
variable {lo:Nat}{h h':Heap}{F F':List Nat}{a a':Pq}{c c':Nq}
theorem V0 {x y:Tag}:Af lo 297 [.agg [Iv x.time,Iv x.place],.agg [Iv y.time,Iv y.place]] h=some (.agg [Iv (GZ x y).time,Iv (GZ x y).place],h):=by
 refine Vt (h':=h) ?_;rw[Fo,Ad,Ar];unfold GZ EQ;cases Ic x.time x.place y.time y.place with
 | true=>rw[Aq];rfl
 | false=>rw[Ay];rfl
theorem Mt {l:List Tag}{k:Nat}{t:Tag} (hs:RTags false h [.sl 2 a l.length c] l F) (hk:k<l.length) (hl:lo<=h.length) (hn:l.length<=1048576) :
  ∃ a' c' h' F',Af lo 276 [.agg [.sl 2 a l.length c],Iv (k:Nat),.agg [Iv t.time,Iv t.place]] h=some (.agg [.sl 2 a' (FW l k t).length c'],h')/\RTags false h' [.sl 2 a' (FW l k t).length c'] (FW l k t) F'/\Mv h [] h' F':=by
 obtain ⟨a1,c1,h1,F1,e1,r1,m1⟩:=Es (lo:=lo) hs hl hn;obtain ⟨b,i,rs,row,G,ha,hbF,hbG,hb,hrow,⟨rfl,rfl⟩,hGF,hGn,_,put⟩:=r1.at (lo:=lo) EG hk m1.nd (λy hy=>m1.ge hl (by simp) y hy);have hld:ld h1 b (i+k) 0 2=some [Iv l[k].time,Iv l[k].place]:=by rw[B7 hb hrow];rfl
 obtain ⟨h2,F2,e2,r2,m2,_⟩:=put h1 [] 0 (GZ l[k] t).cs (GZ l[k] t).cs (GZ l[k] t) Mv.nil rfl ⟨rfl,rfl⟩;subst ha;have hwl:(FW l k t).length=l.length:=by rw[MM hk];simp
 rw[hwl];refine ⟨some (b,i),c1,h2,F2,QC ?_,by rw[MM hk];exact r2,m1.trans m2⟩;simp only[Tag.cs] at e2;rw[e1,Ad,AN,Ab,Ah,Ag,Ac hk,Ae,AW,hld,Ae,Ab,Aa,Ab,Aa,Ag,V0,Ad,AN,Ab,Aa,Ab,Aa,Ag,Ac hk,Ae,e2,Ae]
theorem Td {p q:List Tag} (hs:RTags false h [.sl 2 a p.length c] p F) (hs':RTags false h [.sl 2 a' q.length c'] q F') (hp:p.length=4) (hq:q.length=4) (hl:lo<=h.length) :
  ∃ a5 c5 h' F5,Af lo 277 [.agg [.sl 2 a p.length c],.agg [.sl 2 a' q.length c']] h=some (.agg [.sl 2 a5 (Ew p q).length c5],h')/\RTags false h' [.sl 2 a5 (Ew p q).length c5] (Ew p q) F5/\Mv h [] h' F5:=by
 obtain ⟨a1,c1,h1,F1,e1,r1,m1⟩:=Es (lo:=lo) hs hl (by omega);have hj:(Ew p q).length=4:=by unfold Ew;rw[zhp];omega
 have part:∀ i (hi:i<4),((Ew p q).take i++p.drop i).length=4/\((Ew p q).take i++p.drop i)[i]?=p[i]?/\((Ew p q).take i++p.drop i).set i (GZ (p[i]'(by omega)) (q[i]'(by omega)))=(Ew p q).take (i+1)++p.drop (i+1):=λi hi=>by
  have e:((Ew p q).take i).length=i:=by rw[zf2];omega
  refine ⟨by rw[zfR,zgE,e];omega,?_,?_⟩
  ·rw[zf5 (by omega),e,zhl,zf4,zgl]
  ·rw[zgQ _ _ (by omega),e,zhl,zfT (by omega:i<p.length),zhr,zg0 (by omega:i<(Ew p q).length),zfS];have:(Ew p q)[i]'(by omega)=GZ (p[i]'(by omega)) (q[i]'(by omega)):=List.getElem_zipWith;rw[this];rfl
 have loop:∀ m i hh G,m+i=4->Mv h1 F1 hh G->RTags false hh [.sl 2 a1 4 c1] ((Ew p q).take i++p.drop i) G->∃ h' F5,Cc lo a' q.length c' (q.length:Nat) (i:Nat) 0 none 0 (some 0) a1 p.length c1 hh=some (.agg [.sl 2 a1 (Ew p q).length c1],h')/\RTags false h' [.sl 2 a1 4 c1] (Ew p q) F5/\Mv h1 F1 h' F5:=by
  intro m;induction m with
  | zero =>
   intro i hh G hi mm r;obtain rfl:i=4:=by omega
   rw[zgt (by omega),zgc,zgk (by omega)] at r;refine ⟨hh,G,?_,r,mm⟩;rw[Cc.e,Ai (by omega),hp,hj]
  | succ m ih =>
   intro i hh G hi mm r;obtain ⟨g1,g2,g3⟩:=part i (by omega);have hi4:i<((Ew p q).take i++p.drop i).length:=by omega
   have hip:i<p.length:=by omega
   obtain ⟨o,rfl,ho⟩:=((m1.trans mm).drop.keep0 rtags_ok hs').get (show i<q.length by omega);obtain ⟨b,i1,rs,row,G1,ha,hbF,hbG,hb,hrow,⟨hrw,rfl⟩,hGF,hGn,_,put⟩:=r.at (lo:=lo) EG hi4 mm.nd (λy hy=>(m1.trans mm).ge hl (by simp) y hy);have hpi:((Ew p q).take i++p.drop i)[i]'hi4=p[i]:=by have:=EM hi4;rw[g2,EM hip] at this;injection this with this;exact this.symm
   rw[hpi] at hrw;have hld:ld hh b (i1+i) 0 2=some [Iv p[i].time,Iv p[i].place]:=by rw[B7 hb hrow,hrw];rfl
   obtain ⟨h2,F2,e2,r2,m2,_⟩:=put hh [] 0 (GZ p[i] (q[i]'(by omega))).cs (GZ p[i] (q[i]'(by omega))).cs (GZ p[i] (q[i]'(by omega))) Mv.nil (by rw[hrw];rfl) ⟨rfl,rfl⟩;rw[g3] at r2;subst ha;obtain ⟨h',F5,q1,q2,q3⟩:=ih (i+1) h2 F2 (by omega) (mm.trans m2) r2;refine ⟨h',F5,?_,q2,q3⟩;simp only[Tag.cs] at e2;rw[<- q1,Cc.e,Ak (by omega),Ac (by omega),Ae,AW,ho,Ae,Ab,Aa,Ab,Aa,Ag,Ac hip,Ae,hld,Ae,Ab,Aa,Ab,Aa,Ag,V0,Ad,AN,Ab,Aa,Ab,Aa,Ag,Ac hip,Ae,e2,Ae,Am (by omega)]
 obtain ⟨h',F5,q1,q2,q3⟩:=loop 4 0 h1 F1 rfl (Mv.refl m1.nd) (by rw[List.take_zero,zf8,zgF,<- hp];exact r1);refine ⟨a1,c1,h',F5,Lq ?_,by rw[hj];exact q2,m1.trans q3⟩;rw[e1,Ad,AN,Ab,Ah,Ag];exact q1
end


section
variable {lo b:Nat}{h h':Heap}{w:World}{a1 a2 a3 a4 a:Pq}{c1 c2 c3 c4 c:Nq}{F1 F2 F3 F4:List Nat}{k b2 i2:Nat}
theorem WN.row (H:WN lo h b w a1 c1 (some (b2,i2)) c2 a3 c3 a4 c4 F1 F2 F3 F4) (hk:k<w.sess.length):∃ v x y G,ld h b2 (i2+k) (0+0) 1=some [Iv w.sess[k].place]/\ld h b2 (i2+k) (0+1) 1=some [v]/\ld h b2 (i2+k) (0+2) 2=some [Iv w.sess[k].wait.time,Iv w.sess[k].wait.place]/\ld h b2 (i2+k) (0+4) 1=some [Iv w.sess[k].key] /\
  (∀ {R':Type} (K:Pq->Nat->Nq->Option R'),eS 2 v K=K x w.sess[k].past.length y)/\RTags false h [.sl 2 x w.sess[k].past.length y] w.sess[k].past G:=by
 obtain ⟨b2',i2',rs,v,x,y,G,ha,hil,hb2,es,hp,_⟩:=H.sess hk;injection ha with ha;injection ha with z1 z2;subst z1;subst z2;exact ⟨v,x,y,G,by rw[NZ hb2 hil];rfl,by rw[NZ hb2 hil];rfl,by rw[NZ hb2 hil];rfl,by rw[NZ hb2 hil];rfl,es,hp⟩
theorem WN.waits (H:WN lo h b w a1 c1 (some (b2,i2)) c2 a3 c3 a4 c4 F1 F2 F3 F4) (hk:k<w.sess.length) (t:Tag) (key:Int):∃ h1 h2 F2',st lo h b2 (i2+k) (0+2) [Iv t.time,Iv t.place]=some h1/\st lo h1 b2 (i2+k) (0+4) [Iv key]=some h2 /\
  WN lo h2 b ⟨w.places,w.sess.set k ⟨w.sess[k].place,w.sess[k].past,t,key⟩,w.net,w.hist⟩ a1 c1 (some (b2,i2)) c2 a3 c3 a4 c4 F1 F2' F3 F4/\Mv h (b ::(F1++(F2++(F3++F4)))) h2 (b ::(F1++(F2'++(F3++F4)))):=by
 obtain ⟨b2',i2',rs,v,ha,lob,hil,hb,put⟩:=H.sets hk;injection ha with ha;injection ha with z1 z2;subst z1;subst z2;have s1:=PQ (lo:=lo) (j:=0+2) (cs := [Iv t.time,Iv t.place]) (row' := [Iv w.sess[k].place,v,Iv t.time,Iv t.place,Iv w.sess[k].key]) hb hil lob rfl;have s2:=PQ (lo:=lo) (h:=h.set b2 (.rows 5 (FY false) false (rs.set (i2+k) [Iv w.sess[k].place,v,Iv t.time,Iv t.place,Iv w.sess[k].key]))) (b:=b2) (i:=i2+k) (rs:=rs) (e:=FY false) (R:=5) (j:=0+4) (cs := [Iv key]) (row := [Iv w.sess[k].place,v,Iv t.time,Iv t.place,Iv w.sess[k].key]) (row' := [Iv w.sess[k].place,v,Iv t.time,Iv t.place,Iv key]) (by rw[zf3 (Ga hb).1]) hil lob rfl;rw[zgv] at s2;obtain ⟨F2',H7,M7⟩:=put ⟨w.sess[k].place,w.sess[k].past,t,key⟩ rfl;exact ⟨_,_,F2',s1,s2,H7,M7⟩
theorem WN.pasts (H:WN lo h b w a1 c1 (some (b2,i2)) c2 a3 c3 a4 c4 F1 F2 F3 F4) (hk:k<w.sess.length) {l:List Tag}{G5:List Nat} (m:Mv h [] h' G5) (r:RTags false h' [.sl 2 a l.length c] l G5):∃ h1 F2',st lo h' b2 (i2+k) (0+1) [.sl 2 a l.length c]=some h1 /\
  WN lo h1 b ⟨w.places,w.sess.set k ⟨w.sess[k].place,l,w.sess[k].wait,w.sess[k].key⟩,w.net,w.hist⟩ a1 c1 (some (b2,i2)) c2 a3 c3 a4 c4 F1 F2' F3 F4/\Mv h (b ::(F1++(F2++(F3++F4)))) h1 (b ::(F1++(F2'++(F3++F4)))):=by
 obtain ⟨b2',i2',rs,v,ha,lob,hil,hb,put⟩:=H.setp hk m r;injection ha with ha;injection ha with z1 z2;subst z1;subst z2;have s1:=PQ (lo:=lo) (j:=0+1) (cs := [.sl 2 a l.length c]) (row' := [Iv w.sess[k].place,.sl 2 a l.length c,Iv w.sess[k].wait.time,Iv w.sess[k].wait.place,Iv w.sess[k].key]) hb hil lob rfl;obtain ⟨F2',H7,M7⟩:=put ⟨w.sess[k].place,l,w.sess[k].wait,w.sess[k].key⟩ rfl;exact ⟨_,F2',s1,H7,M7⟩
theorem Tb {e:Event} (H:WN lo h b w a1 c1 (some (b2,i2)) c2 a3 c3 a4 c4 F1 F2 F3 F4) (hg:Fits w) (hk:k<w.sess.length) (he:e.at'=(k:Int)) (hw:0<w.sess[k].wait.time) :
  ∃ h' F',Af lo 219 [.ptr (some (b,(0,0))),.ptr (some (b2,(i2+k,0))),.agg e.cs] h=some (.bool (KR w k w.sess[k]).isSome,h')/\Kb lo h' b ((KR w k w.sess[k]).getD w) F'/\Mv h (b ::(F1++(F2++(F3++F4)))) h' F':=by
 suffices hq:∃ h' F',_=some (V.bool (KR w k w.sess[k]).isSome,h')/\Kb lo h' b ((KR w k w.sess[k]).getD w) F'/\Mv h (b ::(F1++(F2++(F3++F4)))) h' F' from by obtain ⟨h',F',e1,hr⟩:=hq;exact ⟨h',F',Qy e1,hr⟩
 have hso:=hg.ok.sess _ (zfD hk);obtain ⟨t1,t2,t3,t4,t5,t6⟩:=CV hso;have hp4:=BP t2;have h80:=hg.ok.h80;obtain ⟨q,hpl⟩:∃ q:Nat,w.sess[k].place=(q:Int):=⟨w.sess[k].place.toNat,by omega⟩;obtain ⟨m,hky⟩:∃ m:Nat,w.sess[k].key=(m:Int):=⟨w.sess[k].key.toNat,by omega⟩;have hq:q<w.places.length:=by have:=hg.ok.p3;omega
 obtain ⟨hpo,hme,hro⟩:=hg.at hq;have hn:=(E3 (Bj hpo) (by decide) (by decide) (by decide)).1;have hst:∀ x∈w.places[q].chain,A5 x.store=true:=λx hx=>(AQ ((Ca (A3 hpo).2.2.2.1).2 x hx)).1
 have h0:=Dm hpo;have hhl:=OX hpo;have hmh:m<(Fp w.places[q].chain).length:=by omega
 obtain ⟨v,x,y,G,lp,lv,lw,lk,es,hp⟩:=H.row hk;obtain ⟨b1,i1,rs,x1,y1,x2,y2,x3,y3,G1,G2,G3,rfl,hil,hb1,g1,g2,g3,nd,hF,put⟩:=H.place hq;have hld:ld h b1 (i1+q) (2+0) 1=some [.sl 2 x1 w.places[q].chain.length y1]:=by rw[DF hil hb1];rfl
 obtain ⟨u,a5,c5,h5,e5,hsh,m5⟩:=zah (lo:=lo) (k:=0) (key:=m) (b:=b1) (i:=i1+q) (j:=2) hld (λK=>Ah 2 _ _ _ K) g1 h0 hst (by omega) H.hl hn.1.1;obtain ⟨H5,M5⟩:=H.up0 m5;have hX:KR w k w.sess[k]=bif EQ u.tag w.sess[k].wait then (bif EQ ((Fp w.places[q].chain)[m]'hmh).tag w.sess[k].wait then some (setS w k ⟨w.sess[k].place,w.sess[k].past,⟨0,0⟩,0⟩ []) else none)
   else (bif E0 w 1 then some (setS w k ⟨w.sess[k].place,FW w.sess[k].past m w.sess[k].wait,⟨0,0⟩,0⟩ [⟨k,3,w.sess[k].key,w.sess[k].wait⟩]) else none):=by
  unfold KR;rw[hpl,AW,EM hq];simp only[hky,AW,hsh,EM hmh,decide_eq_true hw,cond_true]
 generalize hXX:KR w k w.sess[k]=X at hX;obtain ⟨v5,x5,y5,G5,lp5,lv5,lw5,lk5,es5,hp5⟩:=H5.row hk;have e5':Af lo 275 [.ptr (some (b1,(i1+q,2))),Iv 0,Iv (m:Nat)] h=some (.tup [.agg (Ver.cs u a5 c5),.bool true],h5):=e5;simp only[Ver.cs] at e5';have hz0:∀ s:Sess,setS w k s []=⟨w.places,w.sess.set k s,w.net,w.hist⟩:=λs=>by unfold setS;rw[zgc]
 rw[H.cell.1,Ae,Ab,Ag,Ah,lp,Ae,Ab,Ag,Aa,hpl,Ac hq,Ae,lk,Ae,Ab,Ag,Aa,AW,hky,e5',Ad,J5,Ab,AN,Ab,Aa,Ab,Aa,Ab,Aa,Ab,Ah,Ab,A4,Ab,AB,Ag,Ab,Ar,Aq,Ag,lw5,Ae,Ab,Aa,Ab,Aa,Ag,Fo,Ad,Ar];cases hl:Ic u.tag.time u.tag.place w.sess[k].wait.time w.sess[k].wait.place with
 | true =>
  rw[show EQ u.tag w.sess[k].wait=true from hl,cond_true] at hX;have hb5:h5[b1]?=some (CS rs (i1+q) (w.places[q].cs x1 y1 x2 y2 x3 y3)):=by rw[m5.fr b1 (hF b1 (by simp)).2.1 (by simp)];exact hb1
  have lc5:ld h5 b1 (i1+q) 2 1=some [.sl 2 x1 w.places[q].chain.length y1]:=by rw[DF hil hb5];rfl
  obtain ⟨o,s1,s2,d1,f1,d2,f2,J1,J2,ha,_,ho1,_,es1,_,px,_⟩:=(m5.keep0 rnodes_ok g1).get h0;have hms:m<w.places[q].chain[0].store.length:=by rw[IP h0] at hmh;exact hmh
  obtain ⟨o3,_,_,_,_,ha3,_,_,_,_,_,_,ho12,_⟩:=px.all hms;have hub:(Fp w.places[q].chain)[m]'hmh=w.places[q].chain[0].store[m]:=by simp only[IP h0]
  rw[hub] at hX;rw[Aq,lc5,Ae,Ab,Ag,Ah,BY ⟨by omega,by omega⟩,ha,Ae,ho1,Ae,Ab,Ag,es1,lk5,Ae,Ab,Ag,Aa,hky,Ac hms,ha3,Ae,AW,ho12,Ae,Ab,Aa,Ab,Aa,Ag,lw5,Ae,Ab,Aa,Ab,Aa,Ag,Fo,Ad,Ar];cases hl2:Ic w.places[q].chain[0].store[m].tag.time w.places[q].chain[0].store[m].tag.place w.sess[k].wait.time w.sess[k].wait.place with
  | true =>rw[show EQ w.places[q].chain[0].store[m].tag w.sess[k].wait=true from hl2,cond_true,hz0] at hX;obtain ⟨h6,h7,F6,s6,s7,H7,M7⟩:=H5.waits hk ⟨0,0⟩ 0;rw[Aq,s6,Ae,s7,Ae];subst hX;exact ⟨h7,_,rfl,H7.at,M5.trans M7⟩
  | false =>rw[show EQ w.places[q].chain[0].store[m].tag w.sess[k].wait=false from hl2,cond_false] at hX;rw[Ay];subst hX;exact ⟨h5,_,rfl,H5.at,M5⟩
 | false =>
  rw[show EQ u.tag w.sess[k].wait=false from hl,cond_false] at hX;rw[Ay,Na H5 (by omega) ⟨by omega,by omega⟩,Ad,Ar];cases hr:E0 w 1 with
  | false =>rw[hr,cond_false] at hX;rw[Ay];subst hX;exact ⟨h5,_,rfl,H5.at,M5⟩
  | true =>
  rw[hr,cond_true] at hX;obtain ⟨a6,c6,h6,F6,e6,r6,m6⟩:=Mt (lo:=lo) (k:=m) (t:=w.sess[k].wait) hp5 (by omega) H5.hl (by omega);obtain ⟨h7,F7,s7,H7,M7⟩:=H5.pasts hk m6 r6;have hk7:k<(w.sess.set k ⟨w.sess[k].place,FW w.sess[k].past m w.sess[k].wait,w.sess[k].wait,w.sess[k].key⟩).length:=by simpa using hk
  have hse:(w.sess.set k ⟨w.sess[k].place,FW w.sess[k].past m w.sess[k].wait,w.sess[k].wait,w.sess[k].key⟩)[k]'hk7=⟨w.sess[k].place,FW w.sess[k].past m w.sess[k].wait,w.sess[k].wait,w.sess[k].key⟩:=zgR hk7;obtain ⟨v7,x7,y7,G7,lp7,lv7,lw7,lk7,_,_⟩:=H7.row hk7;simp only[hse] at lw7 lk7;obtain ⟨a8,c8,h8,G8,e8,H8,M8⟩:=P5 (d:=⟨e.at',3,w.sess[k].key,w.sess[k].wait⟩) H7 (by show w.hist.length<=1000;omega);obtain ⟨h9,h10,F10,s9,s10,H10,M10⟩:=H8.waits hk7 ⟨0,0⟩ 0;have e8':Af lo 274 [.ptr (some (b,(0,0))),Iv e.at',Iv 3,Iv (m:Nat),.agg [Iv w.sess[k].wait.time,Iv w.sess[k].wait.place]] h7=some (.tup [],h8):=by rw[<- hky];exact e8
  rw[Aq,lv5,Ae,Ab,es5,Ag,lk5,Ae,Ab,Ag,Aa,hky,lw5,Ae,Ab,Aa,Ab,Aa,Ag,e6,Ad,AN,Ab,Ah,Ag,s7,Ae,lk7,Ae,Ab,Ag,Aa,hky,lw7,Ae,Ab,Aa,Ab,Aa,Ag,e8',Ad,J5,Ag,s9,Ae,s10,Ae];subst hX;refine ⟨h10,_,rfl,?_,M5.trans (M7.trans (M8.trans M10))⟩;have:=H10.at;simp only[hse,zgv] at this;rw[he] at this;exact this
end


variable {l:List Node}{p:List Tag}
section
variable {lo:Nat}{h h':Heap}{F F':List Nat}{a a':Pq}{c c':Nq}
theorem YY {k key b i j:Nat}{s0:V} (hld:ld h b i (j+0) 1=some [s0]) (es0:∀ {T:Type} (K:Pq->Nat->Nq->Option T),eS 2 s0 K=K a l.length c) (hs:RNodes false h [.sl 2 a l.length c] l F) (hk:k<l.length) (hst:∀ x∈l,A5 x.store=true) (hkey:key<4) (hl:lo<=h.length) (hn1:l.length<=1048576) :
  ∃ v a' c' h' G,Af lo 275 [.ptr (some (b,(i,j))),Iv (k:Nat),Iv (key:Nat)] h=some (.tup [.agg (Ver.cs v a' c'),.bool true],h')/\HE l k key=some v/\RTags false h' [.sl 2 a' v.past.length c'] v.past G/\Mv h [] h' G:=by
 suffices hq:∃ v a' c' h' G,_=some (V.tup [.agg (Ver.cs v a' c'),.bool true],h')/\HE l k key=some v/\RTags false h' [.sl 2 a' v.past.length c'] v.past G/\Mv h [] h' G from by obtain ⟨v,a',c',h',G,e,hr⟩:=hq;exact ⟨v,a',c',h',G,HA e,hr⟩
 have hql:BH l k<l.length:=by unfold BH;split<;>omega
 obtain ⟨o,s1,s2,b1,d1,b2,d2,H1,H2,ha,_,ho1,_,q1,_,p1,_⟩:=hs.get hql;have hs4:=hst _ (zfD hql);have hkl:key<l[BH l k].store.length:=by rw[A6 hs4];exact hkey
 obtain ⟨o2,t,b3,d3,G,ha2,ho2,es2,pv,_⟩:=p1.get hkl;obtain ⟨a5,c5,h5,F5,e5,r5,m5⟩:=BJ (lo:=lo) (v:=l[BH l k].store[key]) pv hl ((Hk hs4).2 _ (zfD hkl)).1;have hsh:HE l k key=some l[BH l k].store[key]:=by unfold HE;rw[EO hql,EM hkl]
 generalize l[BH l k].store[key]=v at ho2 es2 pv e5 r5 hsh;generalize l[BH l k].store.length=n1 at q1 hkl ha2;refine ⟨v,a5,c5,h5,F5,?_,hsh,r5,m5⟩;simp only[Ver.cs] at e5;have hw1:Aj ((k:Nat):Int) 0 ((l.length:Int) - 1)=true:=by simp only[Aj,E1,decide_eq_true_eq];omega
 have hw2:Aj ((key:Nat):Int) 0 3=true:=by simp only[Aj,E1,decide_eq_true_eq];omega
 rw[hld,Ae,Ab,Ag,es0,wr (n:=((l.length:Nat):Int) - 1) (by omega) (by omega),Be,Ad,Ar,hw1,Aq,IO,Ad,Ar,hw2,Aq];by_cases hk0:k=0
 ·rw[show (((k:Nat):Int)==0)=true by rw[beq_iff_eq];omega,Aq,hld,Ae,Ab,Ag,es0,Ae,Ab,Ag,es0,wr (n:=((l.length:Nat):Int) - 1) (by omega) (by omega)];have hif:(if ((l.length:Nat):Int) - 1<1 then ((l.length:Nat):Int) - 1 else 1)=((BH l k:Nat):Int):=by
   unfold BH;by_cases h1:1<l.length
   ·rw[if_neg (by omega),if_pos ⟨hk0,h1⟩];rfl
   ·rw[if_pos (by omega),if_neg (by omega)];omega
  rw[hif,Ac hql,ha,Ae,AW,ho1,Ae,Ab,Ag,q1,Ac hkl,ha2,Ae,AW,ho2,Ae,Ab,Aa,Ab,Aa,Ab,Aa,Ab,es2,Ab,A4,Ab,AB,Ag,e5,Ad,AN,Ab,Aa,Ab,Aa,Ab,Aa,Ab,Ah,Ab,A4,Ab,AB,Ag]
 ·have hsa:BH l k=k:=by unfold BH;rw[if_neg (by omega)]
  rw[hsa] at ho1;rw[show (((k:Nat):Int)==0)=false by rw[beq_eq_false_iff_ne];omega,Ay,hld,Ae,Ab,Ag,es0,Ac hk,ha,Ae,AW,ho1,Ae,Ab,Ag,q1,Ac hkl,ha2,Ae,AW,ho2,Ae,Ab,Aa,Ab,Aa,Ab,Aa,Ab,es2,Ab,A4,Ab,AB,Ag,e5,Ad,AN,Ab,Aa,Ab,Aa,Ab,Aa,Ab,Ah,Ab,A4,Ab,AB,Ag]
theorem UB {num key:Int}{b i j:Nat}{s0:V} (hld:ld h b i (j+0) 1=some [s0]) (es0:∀ {T:Type} (K:Pq->Nat->Nq->Option T),eS 2 s0 K=K a l.length c) (hn1:l.length<=1048576) (hno:(Aj key 0 3&&Aj num 0 ((l.length:Int) - 1))=false) :
  Af lo 275 [.ptr (some (b,(i,j))),Iv num,Iv key] h=some (.tup [.agg [Iv 0,Iv 0,Iv 0,.sl 0 none 0 (some 0),.str ⟨⟨[]⟩⟩,.bool false],.bool false],h):=by
 refine HA ?_;rw[hld,Ae,Ab,Ag,es0,wr (n:=((l.length:Nat):Int) - 1) (by omega) (by omega),Be,Ad,Ar];cases hw:Aj num 0 ((l.length:Int) - 1) with
 | false=>rw[Ay]
 | true =>rw[hw,zgp] at hno;rw[Aq,IO,Ad,Ar,hno,Ay]
theorem OW {q:List Tag} (hs:RTags false h [.sl 2 a p.length c] p F) (hs':RTags false h [.sl 2 a' q.length c'] q F') (hp:p.length=4) (hq:q.length=0) (hl:lo<=h.length) :
  ∃ a5 c5 h' F5,Af lo 277 [.agg [.sl 2 a p.length c],.agg [.sl 2 a' q.length c']] h=some (.agg [.sl 2 a5 p.length c5],h')/\RTags false h' [.sl 2 a5 p.length c5] p F5/\Mv h [] h' F5:=by
 obtain ⟨a1,c1,h1,F1,e1,r1,m1⟩:=Es (lo:=lo) hs hl (by omega);refine ⟨a1,c1,h1,F1,Lq ?_,r1,m1⟩;rw[e1,Ad,AN,Ab,Ah,Ag,Cc.e,Ai (by omega)]
theorem zbQ {x:Tag} (hx:Bd x.time x.place=true):GZ x ⟨0,0⟩=x:=by have:=Gi hx;unfold GZ EQ Ic;rw[show (decide (x.time<0) || (x.time==0&&decide (x.place<0)))=false by simp;omega];rfl
theorem ZE {k:Nat} (hp:Bt p=true):FW p k ⟨0,0⟩=p:=by
 unfold FW;cases hx:p[k]? with
 | none=>rfl
 | some x =>obtain ⟨hi,rfl⟩:=Ga hx;simp only;rw[zbQ ((pastOk_iff.1 hp).2 _ (zfD hi)),zgY]
end
section
variable {lo b:Nat}{h h':Heap}{w:World}{a1 a2 a3 a4 a:Pq}{c1 c2 c3 c4 c:Nq}{F1 F2 F3 F4:List Nat}{k b2 i2:Nat}
theorem Ru {e:Event} (H:WN lo h b w a1 c1 (some (b2,i2)) c2 a3 c3 a4 c4 F1 F2 F3 F4) (hg:Fits w) (hk:k<w.sess.length) (he:e.at'=(k:Int)) (hw0:w.sess[k].wait.time=0) :
  ∃ h' F',Af lo 220 [.ptr (some (b,(0,0))),.ptr (some (b2,(i2+k,0))),.agg e.cs] h=some (.bool (HY w k w.sess[k] e).isSome,h')/\Kb lo h' b ((HY w k w.sess[k] e).getD w) F'/\Mv h (b ::(F1++(F2++(F3++F4)))) h' F':=by
 suffices hq:∃ h' F',_=some (V.bool (HY w k w.sess[k] e).isSome,h')/\Kb lo h' b ((HY w k w.sess[k] e).getD w) F'/\Mv h (b ::(F1++(F2++(F3++F4)))) h' F' from by obtain ⟨h',F',e1,hr⟩:=hq;exact ⟨h',F',Pp e1,hr⟩
 have hso:=hg.ok.sess _ (zfD hk);obtain ⟨t1,t2,t3,t4,t5,t6⟩:=CV hso;have hp4:=BP t2;have h80:=hg.ok.h80;obtain ⟨q,hpl⟩:∃ q:Nat,w.sess[k].place=(q:Int):=⟨w.sess[k].place.toNat,by omega⟩;have hq:q<w.places.length:=by have:=hg.ok.p3;omega
 obtain ⟨hpo,hme,hro⟩:=hg.at hq;have hn:=(E3 (Bj hpo) (by decide) (by decide) (by decide)).1;have hst:∀ x∈w.places[q].chain,A5 x.store=true:=λx hx=>(AQ ((Ca (A3 hpo).2.2.2.1).2 x hx)).1
 obtain ⟨v,x,y,G,lp,lv,lw,lk,es,hp⟩:=H.row hk;obtain ⟨b1,i1,rs,x1,y1,x2,y2,x3,y3,G1,G2,G3,rfl,hil,hb1,g1,g2,g3,nd,hF,put⟩:=H.place hq;have hld:ld h b1 (i1+q) (2+0) 1=some [.sl 2 x1 w.places[q].chain.length y1]:=by rw[DF hil hb1];rfl
 have hX:HY w k w.sess[k] e=bif (Aj e.key 0 3&&Aj e.num 0 ((w.places[q].chain.length:Int) - 1))&&E0 w 1 then
   (match HE w.places[q].chain e.num.toNat e.key.toNat,w.sess[k].past[e.key.toNat]? with
   | some v,some t=>bif EQ v.tag t then none else some (setS w k ⟨w.sess[k].place,OG w.sess[k] v e.key.toNat,w.sess[k].wait,w.sess[k].key⟩ [⟨k,2,e.key,v.tag⟩])
   | _,_=>none) else none:=by
  unfold HY;rw[hpl,AW,EM hq,hw0,Bool.and_assoc];rfl
 generalize hXX:HY w k w.sess[k] e=X at hX;rw[H.cell.1,Ae,Ab,Ag,Ah,lp,Ae,Ab,Ag,Aa,hpl,Ac hq,Ae,AW];cases hin:(Aj e.key 0 3&&Aj e.num 0 ((w.places[q].chain.length:Int) - 1)) with
 | false =>rw[hin,zgs,cond_false] at hX;rw[UB hld (λK=>Ah 2 _ _ _ K) hn.1.1 hin,Ad,J5,Ab,AN,Ab,Aa,Ab,Aa,Ab,Aa,Ab];have es0:∀ {R':Type} (K:Pq->Nat->Nq->Option R'),eS 2 (.sl 0 none 0 (some 0)) K=K none 0 (some 0):=λK=>rfl;rw[es0,Ab,A4,Ab,AB,Ag,Ab,Ar,Ay,Ag];exact H.stay Mv.nil hX
 | true =>
 rw[hin,zfQ] at hX;simp only[Aj,E1,decide_eq_true_eq] at hin;obtain ⟨m,hkm⟩:∃ m:Nat,e.key=(m:Int):=⟨e.key.toNat,by omega⟩;obtain ⟨n,hnm⟩:∃ n:Nat,e.num=(n:Int):=⟨e.num.toNat,by omega⟩;have hmp:m<w.sess[k].past.length:=by omega
 obtain ⟨u,a5,c5,h5,G5,e5,hsh,r5,m5⟩:=YY (lo:=h.length) (k:=n) (key:=m) (b:=b1) (i:=i1+q) (j:=2) hld (λK=>Ah 2 _ _ _ K) g1 (by omega) hst (by omega) (zfH _) hn.1.1;obtain ⟨H5,M5⟩:=H.up0 m5.drop;simp only[Ver.cs] at e5;rw[hkm,hnm,AW,AW,hsh,EM hmp] at hX;simp only[] at hX;rw[hkm,hnm,e5,Ad,J5,Ab,AN,Ab,Aa,Ab,Aa,Ab,Aa,Ab,Ah,Ab,A4,Ab,AB,Ag,Ab,Ar,Aq,Ag,Na H5 (by omega) ⟨by omega,by omega⟩,Ad,Ar];cases hr:E0 w 1 with
 | false =>rw[hr,cond_false] at hX;rw[Ay];subst hX;exact ⟨h5,_,rfl,H5.at,M5⟩
 | true =>
 rw[hr,cond_true] at hX;obtain ⟨v5,x5,y5,G6,lp5,lv5,lw5,lk5,es5,hp5⟩:=H5.row hk;have lv5':ld h5 b2 (i2+k) (0+1+0) 1=some [v5]:=lv5;obtain ⟨o',ho',ho2⟩:=hp5.get hmp;rw[Aq,lv5',Ae,Ab,Ag,es5,Ac hmp,ho',Ae,AW,ho2,Ae,Ab,Aa,Ab,Aa,Ag,Fo,Ad,Ar];cases hA:Ic u.tag.time u.tag.place w.sess[k].past[m].time w.sess[k].past[m].place with
 | true =>rw[show EQ u.tag w.sess[k].past[m]=true from hA,cond_true] at hX;rw[Aq];subst hX;exact ⟨h5,_,rfl,H5.at,M5⟩
 | false =>
 rw[show EQ u.tag w.sess[k].past[m]=false from hA,cond_false] at hX;have hu:=Ys (zaO hpo) hsh;have joined:∃ J a6 c6 h6 F6,Af lo 277 [.agg [.sl 2 x5 w.sess[k].past.length y5],.agg [.sl 2 a5 u.past.length c5]] h5=some (.agg [.sl 2 a6 J.length c6],h6)/\RTags false h6 [.sl 2 a6 J.length c6] J F6/\Mv h5 [] h6 F6/\J.length=4/\FW J m u.tag=OG w.sess[k] u m:=by
  rcases Di hu with g | g
  ·have ht:=E8 g;have hl0:u.past.length=0:=by rw[Ls g];rfl
   obtain ⟨a6,c6,h6,F6,q1,q2,q3⟩:=OW (lo:=lo) hp5 r5 hp4 hl0 H5.hl;refine ⟨w.sess[k].past,a6,c6,h6,F6,q1,q2,q3,hp4,?_⟩;unfold OG;rw[decide_eq_false (by omega),cond_false,show u.tag=⟨0,0⟩ from by cases hq:u.tag;rw[hq] at ht;simp only at ht;rw[ht.1,ht.2],ZE t2]
  ·have hv:=AZ g.1;have htm:0<u.tag.time:=(latest_lt.1 hv.2.2.2.2.2).1;obtain ⟨a6,c6,h6,F6,q1,q2,q3⟩:=Td (lo:=lo) hp5 r5 hp4 (BP hv.2.2.2.1) H5.hl;refine ⟨_,a6,c6,h6,F6,q1,q2,q3,by unfold Ew;rw[zhp,hp4,BP hv.2.2.2.1];rfl,?_⟩;unfold OG;rw[decide_eq_true htm,cond_true]
 obtain ⟨J,a6,c6,h6,F6,e6,r6,m6,hJ4,hJW⟩:=joined;obtain ⟨a7,c7,h7,F7,e7,r7,m7⟩:=Mt (lo:=lo) (k:=m) (t:=u.tag) r6 (by omega) (zfE H5.hl m6.le) (by omega);rw[hJW] at e7 r7;obtain ⟨h8,F8,s8,H8,M8⟩:=H5.pasts hk (m6.drop.trans m7) r7;obtain ⟨a9,c9,h9,G9,e9,H9,M9⟩:=P5 (d:=⟨e.at',2,(m:Nat),u.tag⟩) H8 (by show w.hist.length<=1000;omega);rw[Ay,lv5,Ae,Ab,es5,Ag,e6,Ad,AN,Ab,Ah,Ag,e7,Ad,AN,Ab,Ah,Ag,s8,Ae,e9,Ad,J5,Ag];subst hX;rw[he] at H9;exact ⟨h9,_,rfl,H9.at,M5.trans (M8.trans M9)⟩
end


theorem zcG {lo:Nat}{h h2:Heap}{b i j:Nat}{cs:List V} (e:st lo h b i j cs=some h2):∀ y,y≠b->h2[y]?=h[y]?:=λy hy=>by
 unfold st at e;split at e
 ·split at e
  ·obtain ⟨row,_,e⟩:=zgK.1 e;obtain ⟨row',_,e⟩:=zgK.1 e;injection e with e;rw[<- e,zfJ (Ne.symm hy)]
  ·cases e
 ·cases e
section
variable {lo b:Nat}{h h':Heap}{w:World}{a1 a2 a3 a4 a:Pq}{c1 c2 c3 c4 c:Nq}{F1 F2 F3 F4:List Nat}{k b2 i2:Nat}
theorem zak {d:Done} (H:WN lo h b w a1 c1 a2 c2 a3 c3 a4 c4 F1 F2 F3 F4) (h80:w.hist.length<=1000) :
  ∃ a5 c5 h' G,Af lo 274 [.ptr (some (b,(0,0))),Iv d.sess,Iv d.kind,Iv d.key,.agg [Iv d.tag.time,Iv d.tag.place]] h=some (.tup [],h') /\
   WN lo h' b ⟨w.places,w.sess,w.net,w.hist ++ [d]⟩ a1 c1 a2 c2 a3 c3 a5 c5 F1 F2 F3 G/\Mv h (b ::(F1++(F2++(F3++F4)))) h' (b ::(F1++(F2++(F3++G))))/\(∀ y,y<h.length->y≠b->y∉F4->h'[y]?=h[y]?)/\∀ y∈G,y∈F4\/h.length<=y:=by
 obtain ⟨⟨n1,n2,n3,n4⟩,_⟩:=Rm H.ne.2;obtain ⟨a6,c6,h6,F6,e6,r6,m6⟩:=Ev (lo:=lo) (bytes:=40) (e:=126) (El:=flat Done.cs) EG H.r4 (row:=d.cs) (x:=d) (G := []) (h1:=h ++ [.rows 5 126 false [d.cs]])
  ⟨rfl,rfl⟩ Mv.snoc n4 (λy hy=>H.ge y (by simp[hy])) H.hl (by decide) (by omega)
 have hnl:(w.hist ++ [d]).length=w.hist.length+1:=by simp
 rw[<- hnl] at r6 e6;obtain ⟨h2,es,W,M⟩:=H.up4 m6 r6;refine ⟨a6,c6,h2,F6,Kz ?_,W,M,λy hy hb hF=>(zcG es y hb).trans (m6.fr y hy hF),λy hy=>(m6.sub y hy).imp id λq=>q.1⟩;simp only[Done.cs] at e6;rw[H.cell.2.2.2,Ae,Ab,Ag,Ah,A2,e6,Ah,es,Ae]
theorem Wz {i:Nat}{l:List Tag}{j:Nat} (hj:j<l.length):Cl i (l.take (j+1))=Cl i (l.take j) ++ [⟨i,2,(j:Int),l[j]⟩]:=by unfold Cl;rw[zg0 hj,List.zipIdx_append,List.map_append];congr 1;simp[zf2,Nat.min_eq_left (zgu hj)]
theorem Tc {e:Event} (H:WN lo h b w a1 c1 (some (b2,i2)) c2 a3 c3 a4 c4 F1 F2 F3 F4) (hg:Fits w) (hk:k<w.sess.length) (he:e.at'=(k:Int)) (hw0:w.sess[k].wait.time=0) :
  ∃ h' F',Af lo 221 [.ptr (some (b,(0,0))),.ptr (some (b2,(i2+k,0))),.agg e.cs] h=some (.bool (Ll w k w.sess[k]).isSome,h')/\Kb lo h' b ((Ll w k w.sess[k]).getD w) F'/\Mv h (b ::(F1++(F2++(F3++F4)))) h' F':=by
 suffices hq:∃ h' F',_=some (V.bool (Ll w k w.sess[k]).isSome,h')/\Kb lo h' b ((Ll w k w.sess[k]).getD w) F'/\Mv h (b ::(F1++(F2++(F3++F4)))) h' F' from by obtain ⟨h',F',e1,hr⟩:=hq;exact ⟨h',F',Qz e1,hr⟩
 have hso:=hg.ok.sess _ (zfD hk);obtain ⟨t1,t2,t3,t4,t5,t6⟩:=CV hso;have hp4:=BP t2;have h80:=hg.ok.h80;obtain ⟨q,hpl⟩:∃ q:Nat,w.sess[k].place=(q:Int):=⟨w.sess[k].place.toNat,by omega⟩;have hq:q<w.places.length:=by have:=hg.ok.p3;omega
 obtain ⟨hpo,hme,hro⟩:=hg.at hq;have hn:=(E3 (Bj hpo) (by decide) (by decide) (by decide)).1;have h0:=Dm hpo;have hst4:=QM (zaO hpo);have hs4:=BP hst4;obtain ⟨v,x,y,G,lp,lv,lw,lk,es,hp⟩:=H.row hk;obtain ⟨b1,i1,rs,x1,y1,x2,y2,x3,y3,G1,G2,G3,rfl,hil,hb1,g1,g2,g3,nd,hF,put⟩:=H.place hq;have hld:ld h b1 (i1+q) 2 1=some [.sl 2 x1 w.places[q].chain.length y1]:=by rw[DF hil hb1];rfl
 obtain ⟨bt,dt,Ht,et,rt,_⟩:=JE (lo:=h.length) hld g1 h0 hn.1.1;have hslen:(w.places[q].chain[w.places[q].chain.length - 1]'(by omega)).store.length=4:=((Bj hpo).node _ (zfD _)).1;obtain ⟨vt,h5,F5,e5,r5,m5⟩:=MZ (lo:=h.length) rt (zfH _) hslen;obtain ⟨a6,c6,es6,r6⟩:=r5.form;rw[<- Je h0] at es6 r6;obtain ⟨H5,M5⟩:=H.up0 m5.drop;have hX:Ll w k w.sess[k]=bif (Et w.sess[k].past (Bl w.places[q].chain)&&E0 w 4) then some (setS w k ⟨w.sess[k].place,Bl w.places[q].chain,w.sess[k].wait,w.sess[k].key⟩ (Cl k (Bl w.places[q].chain))) else none:=by unfold Ll;rw[hpl,AW,EM hq,hw0];rfl
 generalize hXX:Ll w k w.sess[k]=X at hX;generalize Bl w.places[q].chain=S at *
 obtain ⟨v5,x5,y5,G6,lp5,lv5,lw5,lk5,es5,hp5⟩:=H5.row hk;rw[H.cell.1,Ae,Ab,Ag,Ah,lp,Ae,Ab,Ag,Aa,hpl,Ac hq,Ae,AW,et,Ad,AN,Ab,Ah,Ag,e5,Ad,AN,Ab,es6,Ag,Na H5 (by omega) ⟨by omega,by omega⟩,Ad,Ar];cases hr:E0 w 4 with
 | false =>rw[hr,zgI,cond_false] at hX;rw[Ay];subst hX;exact ⟨h5,_,rfl,H5.at,M5⟩
 | true =>
 rw[hr,zgp] at hX;have hr4:w.hist.length+4<=80:=by unfold E0 at hr;simp only[decide_eq_true_eq] at hr;omega
 rw[Aq,lv5,Ae,Ab,es5,Ag,LK hp5 r6 (by omega) (by omega),Ad,Ar];cases hu:Et w.sess[k].past S with
 | false =>rw[hu,cond_false] at hX;rw[Ay];subst hX;exact ⟨h5,_,rfl,H5.at,M5⟩
 | true =>
 rw[hu,cond_true] at hX;obtain ⟨h7,F7,s7,H7,M7⟩:=H.pasts hk m5 r6;have hF5:∀ y∈F5,h.length<=y/\y<h5.length:=λy hy=>by refine ⟨m5.new y hy,rtags_ok.bd _ _ _ _ r6 y hy⟩
 have hb2:b2<h.length:=by obtain ⟨b2',i2',_,_,_,_,_,ha,_,_,_,_,_,_,hF2,_⟩:=H.sess hk;injection ha with ha;injection ha with z1 z2;subst z1;exact (hF2 b2 (by simp)).2.1
 have r7:RTags false h7 [.sl 2 a6 S.length c6] S F5:=rtags_ok.fr _ _ _ _ _ r6 λy hy=>zcG s7 y (by have:=hF5 y hy;omega);have h57:h5.length<=h7.length:=by
  have:=rtags_ok.bd _ _ _ _ r7;have e:=s7;unfold st at e;split at e
  ·split at e
   ·obtain ⟨row,_,e⟩:=zgK.1 e;obtain ⟨row',_,e⟩:=zgK.1 e;injection e with e;rw[<- e];simp
   ·cases e
  ·cases e
 have loop:∀ m j hh a4' c4' F4',m+j=4->WN lo hh b ⟨w.places,w.sess.set k ⟨w.sess[k].place,S,w.sess[k].wait,w.sess[k].key⟩,w.net,w.hist++Cl k (S.take j)⟩ (some (b1,i1)) c1 (some (b2,i2)) c2 a3 c3 a4' c4' F1 F7 F3 F4' ->
   RTags false hh [.sl 2 a6 S.length c6] S F5->(∀ y∈F5,y<hh.length/\y∉F4')->∃ h' F',CI lo b 0 0 a6 S.length c6 (S.length:Nat) (j:Nat) e.kind e.at' e.num e.key e.text e.gone hh=some (.bool true,h') /\
    Kb lo h' b ⟨w.places,w.sess.set k ⟨w.sess[k].place,S,w.sess[k].wait,w.sess[k].key⟩,w.net,w.hist++Cl k S⟩ F'/\Mv hh (b ::(F1++(F7++(F3++F4')))) h' F':=by
  intro m;induction m with
  | zero =>intro j hh a4' c4' F4' hj W r hy;rw[zgk (by omega)] at W;rw[CI.e,Ai (by omega)];exact ⟨hh,_,rfl,W.at,Mv.refl W.nd⟩
  | succ m ih =>
   intro j hh a4' c4' F4' hj W r hy;have hjS:j<S.length:=by omega
   obtain ⟨o,ho,ho2⟩:=r.get hjS;have hlen:(Cl k (S.take j)).length=j:=by unfold Cl;rw[zhb,zgM,zf2];omega
   obtain ⟨a8,c8,h8,G8,e8,H8,M8,fr8,sub8⟩:=zak (d:=⟨e.at',2,(j:Nat),S[j]⟩) W (by show (w.hist++Cl k (S.take j)).length<=1000;rw[zfR,hlen];omega);have hb:∀ y∈F5,y≠b:=λy hy2 e=>by have:=hF5 y hy2;have:=H.blt;omega
   have W8:=H8;simp only[zfS] at W8;rw[he,<- Wz hjS] at W8;obtain ⟨h',F',q1,q2,q3⟩:=ih (j+1) h8 a8 c8 G8 (by omega) W8 (rtags_ok.fr _ _ _ _ _ r λy hy2=>fr8 y (hy y hy2).1 (hb y hy2) (hy y hy2).2) (λy hy2=>⟨zfO (hy y hy2).1 M8.le,λhm=>by
    rcases sub8 y hm with g | g
    ·exact (hy y hy2).2 g
    ·have:=(hy y hy2).1;omega⟩)
   refine ⟨h',F',?_,q2,M8.trans q3⟩;rw[<- q1,CI.e,Ak (by omega),Ac hjS,ho,Ae,AW,ho2,Ae,Ab,Aa,Ab,Aa,Ag,e8,Ad,J5,Ag,Am (by omega)]
 obtain ⟨h',F',q1,q2,q3⟩:=loop 4 0 h7 a4 c4 F4 rfl (by
  have:Cl k (S.take 0) = []:=by rw[List.take_zero];rfl
  rw[this,zgc];exact H7) r7 (λy hy=>⟨zfO (hF5 y hy).2 h57,λhm=>by have:=H.lt.2.2.2 y hm;have:=hF5 y hy;omega⟩)
 rw[Aq,s7,Ae];subst hX;exact ⟨h',F',q1,q2,M7.trans q3⟩
end


section
variable {lo b:Nat}{h h':Heap}{w:World}{a1 a2 a3 a4 a:Pq}{c1 c2 c3 c4 c:Nq}{F1 F2 F3 F4:List Nat}{k b2 i2:Nat}
theorem zfo {b:Bool}{h:Heap}:br b (some (V.bool true,h)) (some (V.bool false,h))=some (V.bool b,h):=by cases b<;>rfl
theorem OT {e:Event} (H:WN lo h b w a1 c1 a2 c2 a3 c3 a4 c4 F1 F2 F3 F4) (hg:Fits w) (hes:e.text.size<=1048576) :
  ∃ h' F',Af lo 148 [.ptr (some (b,(0,0))),.agg e.cs] h=some (.bool (Fq w e).isSome,h')/\Kb lo h' b ((Fq w e).getD w) F'/\Mv h (b ::(F1++(F2++(F3++F4)))) h' F':=by
 suffices hq:∃ h' F',_=some (V.bool (Fq w e).isSome,h')/\Kb lo h' b ((Fq w e).getD w) F'/\Mv h (b ::(F1++(F2++(F3++F4)))) h' F' from by obtain ⟨h',F',e1,hr⟩:=hq;exact ⟨h',F',Nr e1,hr⟩
 have hs4:=hg.ok.s4;obtain ⟨X,hX⟩:∃ X,Fq w e=X:=⟨_,rfl⟩;rw[hX];unfold Fq at hX;rw[H.cell.2.1,Ae,Ab,Ag,Ah,wr (by omega) (by omega),Be,Ad,Ar];cases hin:Aj e.at' 0 ((w.sess.length:Int) - 1) with
 | false =>rw[hin,cond_false] at hX;rw[Ay];exact H.stay Mv.nil hX.symm
 | true =>
 rw[hin,cond_true] at hX;simp only[Aj,E1,decide_eq_true_eq] at hin;obtain ⟨k,he⟩:∃ k:Nat,e.at'=(k:Int):=⟨e.at'.toNat,by omega⟩;have hk:k<w.sess.length:=by omega
 have hkn:e.at'.toNat=k:=by omega
 rw[hkn,EM hk] at hX;simp only[] at hX;obtain ⟨b2,i2,rs,v,x,y,G,rfl,hil,hb2,_,_,_,_,hF2,_⟩:=H.sess hk;obtain ⟨_,_,_,_,lp,_,lw,_,_,_⟩:=H.row hk;have lw':ld h b2 (i2+k) 2 2=some [Iv w.sess[k].wait.time,Iv w.sess[k].wait.place]:=lw;obtain ⟨t1,t2,t3,t4,t5,t6⟩:=CV (hg.ok.sess _ (zfD hk));rw[Aq,H.cell.2.1,Ae,Ab,Ag,Ah,BY ⟨by omega,by omega⟩,Ae,hkn,lw',Ae,Ab,Aa,Ab,Aa,Ag];have done:∀ {Y:Option World}{h':Heap}{F':List Nat},Y=X->Kb lo h' b (Y.getD w) F'->Mv h (b ::(F1++(F2++(F3++F4)))) h' F'->∃ h'' F'',br Y.isSome (some (V.bool true,h')) (some (V.bool false,h'))=some (V.bool X.isSome,h'')/\Kb lo h'' b (X.getD w) F''/\Mv h (b ::(F1++(F2++(F3++F4)))) h'' F'':=λ{Y h' F'} e W M=>by subst e;exact ⟨h',F',zfo,W,M⟩
 by_cases hw:w.sess[k].wait.time=0
 ·have hwp:w.sess[k].wait.place=0:=by have:=Sf t3;rw[hw] at this;simpa using this
  have hz:((w.sess[k].wait.time==(0:Int))&&((w.sess[k].wait.place==(0:Int))&&true))=true:=by rw[hw,hwp];rfl
  rw[hz,Aq];cases h2:e.kind==(2:Int) with
  | true =>
   rw[Aq];have h2':e.kind=2:=by simpa using h2
   have:KR w k w.sess[k]=none:=by unfold KR;rw[hw];split<;>(try rfl);split<;>rfl
   rw[h2'] at hX;exact H.stay Mv.nil (hX.symm.trans this)
  | false =>
  rw[Ay];rw[h2] at hX;cases h1:e.kind==(1:Int) with
  | true =>rw[h1,cond_true] at hX;obtain ⟨h',F',q1,q2,q3⟩:=P6 H hg hk he hw hes;simp only[Event.cs] at q1;rw[Aq,q1,Ad,Ar];exact done hX q2 q3
  | false =>
  rw[h1,cond_false,cond_false] at hX;rw[Ay,Ay];cases h3:e.kind==(3:Int) with
  | true =>rw[h3,cond_true] at hX;obtain ⟨h',F',q1,q2,q3⟩:=Ru H hg hk he hw;simp only[Event.cs] at q1;rw[Aq,q1,Ad,Ar];exact done hX q2 q3
  | false =>
  rw[h3,cond_false] at hX;rw[Ay];cases h4:e.kind==(4:Int) with
  | true =>rw[h4,cond_true] at hX;obtain ⟨h',F',q1,q2,q3⟩:=Tc H hg hk he hw;simp only[Event.cs] at q1;rw[Aq,q1,Ad,Ar];exact done hX q2 q3
  | false =>
  rw[h4,cond_false] at hX;rw[Ay,ER,Ad,Ar];unfold YH at hX;rw[hw,show (!decide ((0:Int)>0))=true from rfl,zfQ] at hX;cases hm:Aj e.num 0 2 with
  | false =>rw[hm,cond_false] at hX;rw[Ay];exact H.stay Mv.nil hX.symm
  | true =>rw[hm,cond_true] at hX;obtain ⟨b2',i2',rs',v',ha',lob,hil',hb',put'⟩:=H.sets hk;injection ha' with ha';injection ha' with z1 z2;subst z1;subst z2;have s1:=PQ (lo:=lo) (j:=0) (cs := [Iv e.num]) (row' := [Iv e.num,v',Iv w.sess[k].wait.time,Iv w.sess[k].wait.place,Iv w.sess[k].key]) hb' hil' lob rfl;obtain ⟨F2',H7,M7⟩:=put' ⟨e.num,w.sess[k].past,w.sess[k].wait,w.sess[k].key⟩ rfl;rw[Aq,s1,Ae];subst hX;refine ⟨_,_,rfl,?_,M7⟩;have:=H7.at;simpa only [setS,zgX,zgc] using this
 ·have hpos:0<w.sess[k].wait.time:=by have:=Gi t3;omega
  have hz:((w.sess[k].wait.time==(0:Int))&&((w.sess[k].wait.place==(0:Int))&&true))=false:=by rw[show (w.sess[k].wait.time==(0:Int))=false by rw[beq_eq_false_iff_ne];omega];rfl
  rw[hz,Ay];cases h2:e.kind==(2:Int) with
  | true =>
   have h2':e.kind=2:=by simpa using h2
   rw[h2'] at hX;have hX':KR w k w.sess[k]=X:=hX;obtain ⟨h',F',q1,q2,q3⟩:=Tb H hg hk he hpos;simp only[Event.cs,h2'] at q1;rw[Aq,h2',show ((2:Int)==1)=false from rfl,Ay,Aq,q1,Ad,Ar];exact done hX' q2 q3
  | false =>
   rw[Ay];refine H.stay Mv.nil ?_;rw[<- hX,h2];have hd:decide (w.sess[k].wait.time>0)=true:=decide_eq_true hpos;cases e.kind==(1:Int) with
   | true=>rw[cond_true];unfold Fe;rw[hd];split<;>rfl
   | false =>
    rw[cond_false,cond_false];cases e.kind==(3:Int) with
    | true=>rw[cond_true];unfold HY;rw[hd];split<;>rfl
    | false =>
     rw[cond_false];cases e.kind==(4:Int) with
     | true=>rw[cond_true];unfold Ll;rw[hd];split<;>rfl
     | false=>rw[cond_false];unfold YH;rw[hd];rfl
end


section
variable {lo:Nat}{h h':Heap}
theorem zai {p:Place}{b i0:Nat}{rs:List (List V)} (hrl:i0<rs.length) {a1 a2 a3:Pq}{c1 c2 c3:Nq}{G1 G2 G3:List Nat} (hb:h[b]?=some (CS rs i0 (p.cs a1 c1 a2 c2 a3 c3)))
  (g1:RNodes false h [.sl 2 a1 p.chain.length c1] p.chain G1) (g2:RVers false h [.sl 6 a2 p.log.length c2] p.log G2) (g3:RVss false h [.sl 1 a3 p.got.length c3] p.got G3) (hpo:AM p=true)
  (hnd:(b ::(G1++(G2++G3))).Nodup) (hlo':∀ y∈b ::(G1++(G2++G3)),lo<=y) (hl:lo<=h.length) :
  ∃ h' row' F',Af lo 224 [.ptr (some (b,(i0,2)))] h=some (.bool (Hg p.chain),h')/\Cz false h' row' (NF p) F'/\h'[b]?=some (CS rs i0 row')/\Mv h (b ::(G1++(G2++G3))) h' (b :: F'):=by
 have hblt:b<h.length:=(Ga hb).1;have hbd:∀ y∈b ::(G1++(G2++G3)),y<h.length:=λy hy=>by
  simp only[zfL,zfF] at hy;rcases hy with rfl | hy | hy | hy
  ·exact hblt
  ·exact rnodes_ok.bd _ _ _ _ g1 y hy
  ·exact rvers_ok.bd _ _ _ _ g2 y hy
  ·exact rvss_ok.bd _ _ _ _ g3 y hy
 have hsmN:B8 p.chain:=L9 (Bj hpo) (by decide) (by decide);have nd:=hnd;rw[zfN,zfG,zfF,zfF,zfG] at nd;obtain ⟨n1,n2,⟨n3,n4,n5⟩,n6⟩:=nd;simp only[not_or] at n1;obtain ⟨a5,x5,c5,h5,F5,e5,b5,r5,m5⟩:=zbZ (lo:=lo) (R:=6) (e:=29) (rs:=rs.set i0 (p.cs a1 c1 a2 c2 a3 c3)) (row:=p.cs a1 c1 a2 c2 a3 c3) (i:=i0) (j:=2) hb (zf3 hrl) rfl g1 (Dm hpo) hsmN (by rw[zfN];exact ⟨n1.1,n2⟩) (λy hy=>hlo' y (by simp only[zfL,zfF] at hy ⊢;exact hy.imp id .inl)) hl;rw[zgv] at b5;have hx5:=r5.val;subst hx5;have mA:Mv h (b ::(G1++(G2++G3))) h5 (b ::(F5++(G2++G3))):=m5.aside (G:=G2++G3) (by simpa using hnd) (λy hy=>hbd y (by simp only[zfL,zfF] at hy ⊢;exact .inr (.inr hy)));have d2:∀ y∈G2,y∉b :: G1:=λy hy hm=>by
  rcases zfL.1 hm with rfl | hm
  ·exact n1.2.1 hy
  ·exact n6 y hm y (by simp[hy]) rfl
 have d3:∀ y∈G3,y∉b :: G1:=λy hy hm=>by
  rcases zfL.1 hm with rfl | hm
  ·exact n1.2.2 hy
  ·exact n6 y hm y (by simp[hy]) rfl
 exact ⟨h5,(NF p).cs a5 c5 a2 c2 a3 c3,F5++(G2++G3),e5,⟨_,_,_,_,_,_,rfl,_,_,_,F5,G2,G3,rfl,rfl,r5,m5.keep rvers_ok g2 d2,m5.keep rvss_ok g3 d3⟩,b5,mA⟩
end
section
variable {lo b:Nat}{h h':Heap}{w:World}{a1 a2 a3 a4 a:Pq}{c1 c2 c3 c4 c:Nq}{F1 F2 F3 F4:List Nat}
def Kv (w:World) (e:Event):Option World:=bif e.kind==10 then SB w e else IG w e
theorem OU {e:Event} (H:WN lo h b w a1 c1 a2 c2 a3 c3 a4 c4 F1 F2 F3 F4) (hg:Fits w) (hkd:6<=e.kind/\e.kind<=10) :
  ∃ h' F',Af lo 149 [.ptr (some (b,(0,0))),.agg e.cs] h=some (.bool (Kv w e).isSome,h')/\Kb lo h' b ((Kv w e).getD w) F'/\Mv h (b ::(F1++(F2++(F3++F4)))) h' F':=by
 suffices hq:∃ h' F',_=some (V.bool (Kv w e).isSome,h')/\Kb lo h' b ((Kv w e).getD w) F'/\Mv h (b ::(F1++(F2++(F3++F4)))) h' F' from by obtain ⟨h',F',e1,hr⟩:=hq;exact ⟨h',F',Ns e1,hr⟩
 have hp3:=hg.ok.p3;have hn12:=hg.ok.n12;obtain ⟨X,hX⟩:∃ X,Kv w e=X:=⟨_,rfl⟩;rw[hX];unfold Kv at hX;rw[ER,Ad,Ar];cases hin:Aj e.at' 0 2 with
 | false =>rw[Ay];refine H.stay Mv.nil ?_;rw[<- hX];unfold SB IG;rw[hin];cases e.kind==10<;>rfl
 | true =>
 have hin':=hin;simp only[Aj,E1,decide_eq_true_eq] at hin';obtain ⟨q,he⟩:∃ q:Nat,e.at'=(q:Int):=⟨e.at'.toNat,by omega⟩;have hq:q<w.places.length:=by omega
 have hqn:e.at'.toNat=q:=by omega
 obtain ⟨hpo,hme,hro⟩:=hg.at hq;have hn:=(E3 (Bj hpo) (by decide) (by decide) (by decide)).1;obtain ⟨b1,i1,rs,x1,y1,x2,y2,x3,y3,G1,G2,G3,rfl,hil,hb1,g1,g2,g3,nd,hF,put⟩:=H.place hq;have hlo1:∀ y∈b1 ::(G1++(G2++G3)),lo<=y:=λy hy=>(hF y hy).1
 rw[Aq,H.cell.1,Ae,Ab,Ag,Ah,BY ⟨by omega,by omega⟩,Ae,hqn];have done:∀ {Y:Option Place}{h':Heap}{row':List V}{F':List Nat}{p':Place}{ok:Bool},(Y.map (setP w q)=X)->ok=Y.isSome->p'=Y.getD w.places[q]->Cz false h' row' p' F'->h'[b1]?=some (CS rs (i1+q) row')->Mv h (b1 ::(G1++(G2++G3))) h' (b1 :: F') ->
   ∃ h'' F'',br ok (some (V.bool true,h')) (some (V.bool false,h'))=some (V.bool X.isSome,h'')/\Kb lo h'' b (X.getD w) F''/\Mv h (b ::(F1++(F2++(F3++F4)))) h'' F'':=λ{Y h' row' F' p' ok} e1 e2 e3 r hb' m=>by
  obtain ⟨F1',W,M⟩:=put h' row' p' F' hb' r m;subst e1;subst e2;subst e3;refine ⟨h',_,?_,?_,M⟩
  ·rw[zfo];cases Y<;>rfl
  ·cases Y with
   | none=>rw[Option.getD_none,VH hq] at W;exact W.at
   | some p'=>exact W.at
 have hpl:e.kind≠10->IG w e=X:=λhne=>by rw[show (e.kind==(10:Int))=false by rw[beq_eq_false_iff_ne];exact hne,cond_false] at hX;exact hX
 have hpl2:e.kind≠10->(EI w.places[q] e).map (setP w q)=X:=λhne=>by rw[<- hpl hne];unfold IG;rw[hin,cond_true,hqn,EM hq]
 cases h6:e.kind==(6:Int) with
 | true =>
  have hk6:e.kind=6:=by simpa using h6
  obtain ⟨h5,row5,F5,e5,r5,b5,m5⟩:=P1 (lo:=lo) (k:=e.num) hil hb1 g1 g2 g3 hpo nd hlo1 H.hl;rw[Aq,e5,Ad,Ar];refine done (hpl2 (by omega)) ?_ ?_ r5 b5 m5
  ·unfold EI;rw[h6,cond_true];cases DT w.places[q].chain e.num<;>rfl
  ·unfold EI;rw[h6,cond_true];cases hc:DT w.places[q].chain e.num with
   | true=>rfl
   | false=>unfold HT;rw[hc];rfl
 | false =>
 rw[Ay];cases h7:e.kind==(7:Int) with
 | true =>
  have hk7:e.kind=7:=by simpa using h7
  obtain ⟨h5,row5,F5,e5,r5,b5,m5⟩:=P2 (lo:=lo) (k:=e.num) hil hb1 g1 g2 g3 hpo nd hlo1 H.hl;rw[Aq,e5,Ad,Ar];refine done (hpl2 (by omega)) ?_ ?_ r5 b5 m5
  ·unfold EI;rw[h6,cond_false,h7,cond_true];cases ES w.places[q] e.num<;>rfl
  ·unfold EI;rw[h6,cond_false,h7,cond_true];cases hc:ES w.places[q] e.num with
   | true=>rfl
   | false=>unfold Fg;rw[hc];rfl
 | false =>
 rw[Ay];cases h8:e.kind==(8:Int) with
 | true =>
  have hk8:e.kind=8:=by simpa using h8
  obtain ⟨h5,row5,F5,e5,r5,b5,m5⟩:=zai (lo:=lo) hil hb1 g1 g2 g3 hpo nd hlo1 H.hl;rw[Aq,e5,Ad,Ar];refine done (hpl2 (by omega)) ?_ ?_ r5 b5 m5
  ·unfold EI;rw[h6,cond_false,h7,cond_false,h8,cond_true];cases Hg w.places[q].chain<;>rfl
  ·unfold EI;rw[h6,cond_false,h7,cond_false,h8,cond_true];cases hc:Hg w.places[q].chain with
   | true=>rfl
   | false=>unfold NF Kf;rw[hc];rfl
 | false =>
 rw[Ay];cases h9:e.kind==(9:Int) with
 | true =>
  have hk9:e.kind=9:=by simpa using h9
  obtain ⟨h5,row5,F5,e5,r5,b5,m5⟩:=zag (lo:=lo) (k:=e.num) hil hb1 g1 g2 g3 hpo hn nd hlo1 H.hl;rw[Aq,e5,Ad,Ar];refine done (hpl2 (by omega)) ?_ ?_ r5 b5 m5
  ·unfold EI;rw[h6,cond_false,h7,cond_false,h8,cond_false];cases Ek w.places[q] e.num<;>rfl
  ·unfold EI;rw[h6,cond_false,h7,cond_false,h8,cond_false];cases hc:Ek w.places[q] e.num with
   | true=>rfl
   | false=>unfold Ff;rw[hc];rfl
 | false =>
 have hk10:e.kind=10:=by rw[beq_eq_false_iff_ne] at h6 h7 h8 h9;omega
 rw[hk10,show ((10:Int)==10)=true from rfl,cond_true] at hX;unfold SB at hX;rw[hin,zfQ,hqn,HJ hq] at hX;have hll:w.places[q].log.length<=1000:=zfE (Bj hpo).log.1 (by decide);have l3:ld h b1 (i1+q) 3 1=some [.sl 6 x2 w.places[q].log.length y2]:=by rw[DF hil hb1];rfl
 rw[Ay,Ta,Ad,Ar,hin,zfQ];cases hnu:Aj e.num 0 2 with
 | false=>rw[hnu,zgs,cond_false] at hX;rw[zgs,Ay];exact H.stay Mv.nil hX.symm
 | true =>
 rw[hnu,zfQ] at hX;rw[zfQ];cases hap:(!(e.at'==e.num)) with
 | false=>rw[hap,zgs,cond_false] at hX;rw[Ay];exact H.stay Mv.nil hX.symm
 | true =>
 rw[hap,zfQ] at hX;rw[Aq,l3,Ae,Ab,Ag,Ah,ZD (by omega),Be,Ad,Ar];cases hke:Aj e.key 0 ((w.places[q].log.length:Int) - 1) with
 | false=>rw[hke,zgI,cond_false] at hX;rw[Ay];exact H.stay Mv.nil hX.symm
 | true =>
 rw[hke,zgp] at hX;simp only[Aj,E1,decide_eq_true_eq] at hke;rw[Aq,H.cell.2.2.1,Ae,Ab,Ag,Ah];by_cases h12:(w.net.length:Int)>=12
 ·rw[decide_eq_false (by omega),cond_false] at hX;rw[Ak h12];exact H.stay Mv.nil hX.symm
 rw[decide_eq_true (by omega),cond_true] at hX;obtain ⟨m,hkm⟩:∃ m:Nat,e.key=(m:Int):=⟨e.key.toNat,by omega⟩;have hml:m<w.places[q].log.length:=by omega
 have hkn:e.key.toNat=m:=by omega
 rw[hkn,EM hml] at hX;simp only[] at hX;obtain ⟨o,s,av,cv,G,ha,ho,es,hp,_⟩:=g2.get hml;have hvp:w.places[q].log[m].past.length<=1048576:=by have:=(hn.2.1.2 _ (zfD hml)).1;omega
 obtain ⟨a5,c5,h5,F5,e5,r5,m5⟩:=BJ (lo:=h.length) (v:=w.places[q].log[m]) hp (zfH _) hvp;obtain ⟨⟨n1,n2,n3,n4⟩,_⟩:=Rm H.ne.2;obtain ⟨a6,c6,h6',F6,e6,r6,m6⟩:=Ev (lo:=lo) (bytes:=96) (e:=123) (El:=LY false) rframe_ok H.r3 (row := Iv e.at' :: Iv e.num :: Iv e.key ::(w.places[q].log[m]).cs a5 c5) (x:=⟨e.at',e.num,e.key,w.places[q].log[m]⟩) (G:=F5)
  (h1:=h5 ++ [.rows 9 123 false [Iv e.at' :: Iv e.num :: Iv e.key ::(w.places[q].log[m]).cs a5 c5]])
  ⟨_,rfl,_,rfl,Mv.snoc.keep0 rtags_ok r5⟩ (m5.trans (Mv.snoc' m5.nd)) n3 (λy hy=>H.ge y (by simp[hy])) H.hl (by decide) (by omega)
 have hnl:(w.net ++ [Frame.mk e.at' e.num e.key w.places[q].log[m]]).length=w.net.length+1:=by simp
 rw[<- hnl] at r6 e6;obtain ⟨h7,s7,W,M⟩:=H.up3 m6 r6;simp only[Ver.cs] at e5 e6;rw[Ai h12,Ae,Ab,Ag,Ah,l3,Ae,Ab,Ag,Ah,BY ⟨by omega,by omega⟩,ha,Ae,hkn,ho,Ae,Ab,Aa,Ab,Aa,Ab,Aa,Ab,es,Ab,A4,Ab,AB,Ag,e5,Ad,AN,Ab,Aa,Ab,Aa,Ab,Aa,Ab,Ah,Ab,A4,Ab,AB,Ag,A2,e6,Ah,s7,Ae];subst hX;exact ⟨h7,_,rfl,W.at,M⟩
end


section
variable {lo b:Nat}{h h':Heap}{w:World}{a1 a2 a3 a4 a:Pq}{c1 c2 c3 c4 c:Nq}{F1 F2 F3 F4:List Nat}
theorem Xe {l:List Frame}{k:Nat}{F:List Nat} (hs:RFrames false h [.sl 9 a l.length c] l F) (hk:k<l.length) (hnd:F.Nodup) (hlo:∀ b∈F,lo<=b) (hn:l.length<=1048576) :
  ∃ b i h' F',a=some (b,i)/\Af lo 227 [.sl 9 a l.length c,Iv (k:Nat),Iv ((k+1:Nat):Int)] h=some (.sl 9 a (l.eraseIdx k).length c,h')/\RFrames false h' [.sl 9 a (l.eraseIdx k).length c] (l.eraseIdx k) F'/\Mv h F h' F'/\∀ y,y≠b->h'[y]?=h[y]?:=by
 obtain ⟨h',F',Gv,b,i,row,ha,hld,hel,hG,e,r,m,fr⟩:=Sli.del (lo:=lo) (bytes:=96) (e:=123) (z := [Iv 0,Iv 0,Iv 0,Iv 0,Iv 0,Iv 0,.sl 0 none 0 (some 0),.str ⟨⟨[]⟩⟩,.bool false]) (x1:=(k:Nat)) (x2:=((k+1:Nat):Int)) (T:=V×Heap) rframe_ok hs hk hnd hlo rfl (by omega) (by decide) (by omega) (some (.sl 9 a l.length c,h)) (λv h=>some (v,h));rw[zgm hk];exact ⟨b,i,h',F',ha,GI e,r,m,fr⟩
theorem WN.hear (H:WN lo h b w a1 c1 a2 c2 a3 c3 a4 c4 F1 F2 F3 F4) {f:Frame}{q:Nat}{av:Pq}{cv:Nq}{G:List Nat} (hto:f.to=(q:Int)) (hq:q<w.places.length) (hpo:AM w.places[q]=true) (hv:RTags false h [.sl 2 av f.ver.past.length cv] f.ver.past G) (hvn:f.ver.past.length<=1048576/\f.ver.text.size<=1048576) :
  ∃ b1 i1 ok h' F',a1=some (b1,i1)/\Af lo 228 [.ptr (some (b1,(i1+q,0))),Iv f.fro,Iv f.at',.agg (f.ver.cs av cv)] h=some (.bool ok,h')/\Kb lo h' b (NG w f) F'/\Mv h (b ::(F1++(F2++(F3++F4)))) h' F':=by
 obtain ⟨b1,i1,rs,x1,y1,x2,y2,x3,y3,G1,G2,G3,ha,hil,hb1,g1,g2,g3,nd,hF,put⟩:=H.place hq;obtain ⟨h5,row5,F5,e5,r5,b5,m5⟩:=zaj (lo:=lo) (f:=f.fro) (at':=f.at') (v:=f.ver) hil hb1 g1 g2 g3 hv hpo hvn nd (λy hy=>(hF y hy).1) H.hl;obtain ⟨F1',W,M⟩:=put h5 row5 _ F5 b5 r5 m5;have hh:NG w f=setP w q (IZ w.places[q] f.fro f.at' f.ver):=by unfold NG;rw[hto,AW,EM hq]
 rw[hh];exact ⟨b1,i1,_,h5,_,ha,e5,W.at,M⟩
theorem N5 {e:Event} (H:WN lo h b w a1 c1 a2 c2 a3 c3 a4 c4 F1 F2 F3 F4) (hg:Fits w) (hkd:11<=e.kind/\e.kind<=13) :
  ∃ h' F',Af lo 150 [.ptr (some (b,(0,0))),.agg e.cs] h=some (.bool (KM w e).isSome,h')/\Kb lo h' b ((KM w e).getD w) F'/\Mv h (b ::(F1++(F2++(F3++F4)))) h' F':=by
 suffices hq:∃ h' F',_=some (V.bool (KM w e).isSome,h')/\Kb lo h' b ((KM w e).getD w) F'/\Mv h (b ::(F1++(F2++(F3++F4)))) h' F' from by obtain ⟨h',F',e1,hr⟩:=hq;exact ⟨h',F',MK e1,hr⟩
 have hp3:=hg.ok.p3;have hn12:=hg.ok.n12;obtain ⟨X,hX⟩:∃ X,KM w e=X:=⟨_,rfl⟩;rw[hX];unfold KM at hX;rw[H.cell.2.2.1,Ae,Ab,Ag,Ah,wr (by omega) (by omega),Be,Ad,Ar];cases hin:Aj e.at' 0 ((w.net.length:Int) - 1) with
 | false =>rw[hin,cond_false] at hX;rw[Ay];exact H.stay Mv.nil hX.symm
 | true =>
 rw[hin,cond_true] at hX;simp only[Aj,E1,decide_eq_true_eq] at hin;obtain ⟨k,he⟩:∃ k:Nat,e.at'=(k:Int):=⟨e.at'.toNat,by omega⟩;have hk:k<w.net.length:=by omega
 have hkn:e.at'.toNat=k:=by omega
 rw[hkn,EM hk] at hX;simp only[] at hX;obtain ⟨⟨n1,n2,n3,n4⟩,_⟩:=Rm H.ne.2;obtain ⟨b3,i3,rs,row,G,rfl,hbF,hbG,hb3,hil,⟨vs,rfl,hv⟩,hGF,hGn,_⟩:=Sli.atP rframe_ok H.r3 hk n3;obtain ⟨s,av,cv,rfl,es,hp⟩:=hv.form;have hld:ld h b3 (i3+k) 0 9=some [Iv w.net[k].fro,Iv w.net[k].to,Iv w.net[k].at',Iv w.net[k].ver.key,Iv w.net[k].ver.tag.time,Iv w.net[k].ver.tag.place,s,.str w.net[k].ver.text,.bool w.net[k].ver.gone]:=by rw[NZ hb3 hil];rfl
 obtain ⟨⟨q1,q2⟩,⟨q3,q4⟩,_,_,q5⟩:=hg.ok.net _ (zfD hk);obtain ⟨q,hto⟩:∃ q:Nat,w.net[k].to=(q:Int):=⟨w.net[k].to.toNat,by omega⟩;have hq:q<w.places.length:=by omega
 obtain ⟨hpo,_,_⟩:=hg.at hq;have hvn:w.net[k].ver.past.length<=1048576/\w.net[k].ver.text.size<=1048576:=by
  have hf:w.net[k].fro.toNat<w.places.length:=by omega
  rw[HJ hf] at q5;have hn:=(E3 (Bj (hg.at hf).1) (by decide) (by decide) (by decide)).1;have:=hn.2.1.2 _ (zfV q5);exact ⟨by omega,by omega⟩
 generalize hf:w.net[k]=f at *
 rw[Aq,H.cell.2.2.1,Ae,Ab,Ag,Ah,BY ⟨by omega,by omega⟩,Ae,hkn,hld,Ae,Ab,Aa,Ab,Aa,Ab,Aa,Ab,Aa,Ab,Aa,Ab,Aa,Ab,es,Ab,A4,Ab,AB,Ag];cases h13:e.kind==(13:Int) with
 | true =>
  have hk13:e.kind=13:=by simpa using h13
  rw[h13,cond_true,show (e.kind==(12:Int))=false by rw[hk13];rfl,cond_false] at hX;obtain ⟨b1,i1,ok,h5,F5,rfl,e5,W,M⟩:=H.hear hto hq hpo hp hvn;simp only[Ver.cs] at e5;rw[Aq,show (e.kind==(12:Int))=false by rw[hk13];rfl,Ay,H.cell.1,Ae,Ab,Ag,Ah,hto,Ac hq,Ae,AW,e5,Ad,Ar];subst hX;refine ⟨h5,F5,?_,W,M⟩;cases ok<;>rfl
 | false =>
 rw[h13,cond_false] at hX;obtain ⟨b3',i3',h5,F5,ha,e5,r5,m5,fr5⟩:=Xe (lo:=lo) H.r3 hk n3 (λy hy=>H.ge y (by simp[hy])) (by omega);injection ha with ha;injection ha with z1 z2;subst z1;subst z2;obtain ⟨h6,s6,H6,M6⟩:=H.up3 m5 r5;rw[Ay,Ae,Ab,Ag,Ah,he,Am (by omega),e5,Ad,Ah,s6,Ae];cases h12:e.kind==(12:Int) with
 | true =>rw[h12,cond_true] at hX;rw[Aq];subst hX;exact ⟨h6,_,rfl,H6.at,M6⟩
 | false =>
  rw[h12,cond_false] at hX;have hp6:RTags false h6 [.sl 2 av f.ver.past.length cv] f.ver.past G:=rtags_ok.fr _ _ _ _ _ (rtags_ok.fr _ _ _ _ _ hp λy hy=>fr5 y λe=>hbG (e ▸ hy)) λy hy=>zcG s6 y λe=>H.ne.1 (by
   have:=hGF y hy;rw[e] at this;simp[this])
  obtain ⟨b1,i1,ok,h7,F7,rfl,e7,W,M⟩:=H6.hear hto hq hpo hp6 hvn;simp only[Ver.cs] at e7;rw[Ay,H6.cell.1,Ae,Ab,Ag,Ah,hto,Ac hq,Ae,AW,e7,Ad,Ar];subst hX;refine ⟨h7,F7,?_,W,M6.trans M⟩;cases ok<;>rfl
theorem UC {e:Event} (H:WN lo h b w a1 c1 a2 c2 a3 c3 a4 c4 F1 F2 F3 F4) (hg:Fits w) (hes:e.text.size<=1048576) :
  ∃ h' F',Af lo 77 [.ptr (some (b,(0,0))),.agg e.cs] h=some (.bool (E9 w e).isSome,h')/\Kb lo h' b ((E9 w e).getD w) F'/\Mv h (b ::(F1++(F2++(F3++F4)))) h' F':=by
 suffices hq:∃ h' F',_=some (V.bool (E9 w e).isSome,h')/\Kb lo h' b ((E9 w e).getD w) F'/\Mv h (b ::(F1++(F2++(F3++F4)))) h' F' from by obtain ⟨h',F',e1,hr⟩:=hq;exact ⟨h',F',RS e1,hr⟩
 obtain ⟨X,hX⟩:∃ X,E9 w e=X:=⟨_,rfl⟩;rw[hX];unfold E9 at hX;rw[Be,Ad,Ar];cases h15:Aj e.kind 1 5 with
 | true =>rw[h15,cond_true] at hX;obtain ⟨h',F',q1,q2,q3⟩:=OT H hg hes;simp only[Event.cs] at q1;rw[Aq,q1,Ad,Ar,zfo];subst hX;exact ⟨h',F',rfl,q2,q3⟩
 | false =>
 rw[h15,cond_false] at hX;rw[Ay,Be,Ad,Ar];cases h610:Aj e.kind 6 10 with
 | true =>
  simp only[Aj,E1,decide_eq_true_eq] at h610;obtain ⟨h',F',q1,q2,q3⟩:=OU H hg h610;have hXc:Kv w e=X:=by
   rw[<- hX];unfold Kv;cases h10:e.kind==(10:Int) with
   | true =>
    have:e.kind=10:=by simpa using h10
    rw[show Aj e.kind 6 9=false by rw[this];rfl];rfl
   | false =>rw[beq_eq_false_iff_ne] at h10;rw[show Aj e.kind 6 9=true by simp only[Aj,E1,decide_eq_true_eq];omega];rfl
  simp only[Event.cs] at q1;rw[Aq,q1,Ad,Ar,zfo];subst hXc;exact ⟨h',F',rfl,q2,q3⟩
 | false =>
 have h69:Aj e.kind 6 9=false:=by rw[<- Bool.not_eq_true] at h610 ⊢;simp only[Aj,E1,decide_eq_true_eq] at h610 ⊢;omega
 have h10:(e.kind==(10:Int))=false:=by rw[<- Bool.not_eq_true] at h610;rw[beq_eq_false_iff_ne];simp only[Aj,E1,decide_eq_true_eq] at h610;omega
 rw[h69,cond_false,h10,cond_false] at hX;rw[Ay,Be,Ad,Ar];cases h11:Aj e.kind 11 13 with
 | true =>rw[h11,cond_true] at hX;simp only[Aj,E1,decide_eq_true_eq] at h11;obtain ⟨h',F',q1,q2,q3⟩:=N5 H hg h11;simp only[Event.cs] at q1;rw[Aq,q1,Ad,Ar,zfo];subst hX;exact ⟨h',F',rfl,q2,q3⟩
 | false =>rw[h11,cond_false] at hX;rw[Ay];exact H.stay Mv.nil hX.symm
end


variable {l:List Done}
section
variable {lo:Nat}{h:Heap}{F1 F2 F3 F4:List Nat}{a a1 a2 a3 a4:Pq}{c c1 c2 c3 c4:Nq}{F:List Nat}
theorem P8:(l.map λ_=>([]:List Nat)).flatten = []:=by induction l<;>simp_all
theorem RDones.rowsG (hs:RDones false h [.sl 5 a l.length c] l F) {T:Type} (K:List (List V)->Option T):Aw 5 h (.sl 5 a l.length c) K=K (l.map Done.cs):=by obtain ⟨rows,Fs,h1,h2,_⟩:=Sli.rows hs;rw[h1,h2.of_flat.1]
theorem Mv.over {h h1 hh:Heap}{P F:List Nat} (m0:Mv h [] h1 []) (m:Mv h1 P hh F) (hP:∀ y∈P,h.length<=y):Mv h [] hh [] :=
 ⟨zfE m0.le m.le,λb hb _=>by rw[m.fr b (zfO hb m0.le) (λhm=>by have:=hP b hm;omega),m0.fr b hb (by simp)],by simp,by simp⟩
theorem Zk (hl:lo<=h.length) (hn:l.length<=1048576):∃ a' c' h' F',(∀ {T:Type} (K:V->Heap->Option T),DJ lo 126 5 40 (.sl 5 (some (h.length,0)) 0 (some 0)) (l.map Done.cs) (h ++ [.rows 5 126 false []]) K=K (.sl 5 a' l.length c') h') /\
  RDones false h' [.sl 5 a' l.length c'] l F'/\Mv h [] h' F':=by
 have h0:RDones false (h ++ [.rows 5 (Zg false) false []]) [.sl 5 (some (h.length,0)) 0 (some 0)] [] [h.length]:=Sli.fresh (zfH _);by_cases he:l = []
 ·subst he;exact ⟨some (h.length,0),some 0,_,_,λK=>rfl,h0,Mv.last⟩
 ·obtain ⟨a',c',h',F',p1,p2,p3,p4,p5,p6⟩:=Sli.push (lo:=lo) (bytes:=40) Xi h0 (xs:=l.map Done.cs) (ys:=l) (Gs:=l.map λ_ => []) EAll.flat (by decide) (by simp;omega) (by simp;omega) (by simp;omega) (by rw[P8];simp) (by rw[P8];simp) he;simp only[zg2,zfY,zf8] at p1 p2;refine ⟨a',c',h',F',p1,p2,by simp at p3;omega,λb hb _=>?_,p6,λb hb=>?_⟩
  ·rw[p4 b (by simp;omega) (by simp;omega),zfK hb]
  ·simp at p3;rcases p5 b hb with h1 | h1
   ·rw[P8] at h1;simp at h1;exact .inr (by omega)
   ·simp at h1;exact .inr (by omega)
theorem Y4 (hs:RDones false h [.sl 5 a l.length c] l F) (hl:lo<=h.length) (hn:l.length<=1048576) :
  ∃ v a' c' h' F',Af lo 152 [.sl 5 a l.length c] h=some (v,h')/\(∀ {T:Type} (K:Pq->Nat->Nq->Option T),eS 5 v K=K a' l.length c')/\RDones false h' [.sl 5 a' l.length c'] l F'/\Mv h [] h' F':=by
 cases a with
 | none =>obtain ⟨R1,a1,c1,e1,g⟩:=hs;injection e1 with e1 _;injection e1 with e0 e2 _ e3;subst e2;subst e3;obtain ⟨rfl,_,_⟩:=g;exact ⟨_,none,some 0,h,[],EE (by rw[show (none:Pq).isNone=true from rfl,Aq]),λK=>rfl,Sli.nil,Mv.nil⟩
 | some p =>obtain ⟨a',c',h',F',e,r⟩:=Zk (l:=l) hl hn;refine ⟨_,a',c',h',F',EE ?_,λK=>Ah 5 _ _ _ K,r⟩;rw[show (some p).isNone=false from rfl,Ay,RDones.rowsG (Mv.snoc.keep0 rdones_ok hs),e,Ah]
theorem RPlacesN.up {cs:List V}{l:List Place} (hs:RPlacesN h cs l F):RPlaces false h cs l F:=Sli.mono (λ_ _ _ h=>by obtain ⟨_,_,_,_,_,_,rfl,q⟩:=h;exact q) hs
theorem Kp {w:World} (r1:RPlaces false h [.sl 6 a1 w.places.length c1] w.places F1) (r2:RSesss false h [.sl 5 a2 w.sess.length c2] w.sess F2) (r3:RFrames false h [.sl 9 a3 w.net.length c3] w.net F3) (r4:RDones false h [.sl 5 a4 w.hist.length c4] w.hist F4) (hl:lo<=h.length) (hn:EP w) :
  ∃ b1 d1 b2 d2 b3 d3 b4 d4 h' G1 G2 G3 G4,Af lo 78 [.agg (w.cs a1 c1 a2 c2 a3 c3 a4 c4)] h=some (.agg (w.cs b1 d1 b2 d2 b3 d3 b4 d4),h')/\RPlacesN h' [.sl 6 b1 w.places.length d1] w.places G1/\RSesss false h' [.sl 5 b2 w.sess.length d2] w.sess G2/\RFrames false h' [.sl 9 b3 w.net.length d3] w.net G3/\RDones false h' [.sl 5 b4 w.hist.length d4] w.hist G4/\Mv h [] h' (G1++(G2++(G3++G4))):=by
 obtain ⟨⟨n1,s1⟩,⟨n2,s2⟩,⟨n3,s3⟩,n4⟩:=hn;have mP:Mv h [] (h ++ [.rows 6 29 false (List.replicate w.places.length [Iv 0,Iv 0,.sl 0 none 0 (some 0),.sl 0 none 0 (some 0),.sl 0 none 0 (some 0),.bool false])]) [h.length]:=Mv.last;generalize hhP:h ++ [Blk.rows 6 29 false (List.replicate w.places.length [Iv 0,Iv 0,.sl 0 none 0 (some 0),.sl 0 none 0 (some 0),.sl 0 none 0 (some 0),.bool false])]=hP at mP;have sP:RPlacesN hP [.sl 6 (some (h.length,0)) 0 (some w.places.length)] [] [h.length]:=by rw[<- hhP];exact Sli.fresh (by simp)
 have mS:Mv hP [] (hP ++ [.rows 5 66 false (List.replicate w.sess.length [Iv 0,.sl 0 none 0 (some 0),Iv 0,Iv 0,Iv 0])]) [hP.length]:=Mv.last;generalize hhS:hP ++ [Blk.rows 5 66 false (List.replicate w.sess.length [Iv 0,.sl 0 none 0 (some 0),Iv 0,Iv 0,Iv 0])]=hS at mS;have sS:RSesss false hS [.sl 5 (some (hP.length,0)) 0 (some w.sess.length)] [] [hP.length]:=by rw[<- hhS];exact Sli.fresh (by simp)
 have mN:Mv hS [] (hS ++ [.rows 9 123 false (List.replicate w.net.length [Iv 0,Iv 0,Iv 0,Iv 0,Iv 0,Iv 0,.sl 0 none 0 (some 0),.str ⟨⟨[]⟩⟩,.bool false])]) [hS.length]:=Mv.last;generalize hhN:hS ++ [Blk.rows 9 123 false (List.replicate w.net.length [Iv 0,Iv 0,Iv 0,Iv 0,Iv 0,Iv 0,.sl 0 none 0 (some 0),.str ⟨⟨[]⟩⟩,.bool false])]=hN at mN;have sN:RFrames false hN [.sl 9 (some (hS.length,0)) 0 (some w.net.length)] [] [hS.length]:=by rw[<- hhN];exact Sli.fresh (by simp)
 have mSN:=mS.join mN (λy hy=>by have:=mS.lt (by simp) y hy;exact this);have mPSN:=mP.join mSN (λy hy=>by have:=mP.lt (by simp) y hy;exact this);have r4':=mPSN.drop.keep0 rdones_ok r4;obtain ⟨v4,b4,d4,hD,G4,e4,es4,q4,m4⟩:=Y4 (lo:=hN.length) r4' (zfH _) n4;have e4':Af hD.length 151 [.sl 5 b4 w.hist.length d4] hD=some (.sl 5 b4 w.hist.length (some w.hist.length),hD):=HR (by rw[Jw q4]);have q4c:=q4.clip;have m0:=mPSN.join m4 (λy hy=>mPSN.lt (by simp) y hy);have lt0:=m0.lt (by simp);have m0d:=m0.drop;have lP:h.length<hP.length:=by have:=mP.lt (by simp) h.length (by simp);exact this
 have lS:hP.length<hS.length:=by have:=mS.lt (by simp) hP.length (by simp);exact this
 have lN:hS.length<hN.length:=by have:=mN.lt (by simp) hS.length (by simp);exact this
 have lD:=m4.le;have hG4:=m4.new;have sP4:RPlacesN hD [.sl 6 (some (h.length,0)) 0 (some w.places.length)] [] [h.length]:=m4.keep0 rplacesN_ok (mN.keep0 rplacesN_ok (mS.keep0 rplacesN_ok sP));obtain ⟨h1,G1,e1,q1,m1⟩:=Lh (El:=Cz false) NQ (l:=w.places) (lo:=lo) (R:=6) (e:=29) (bytes:=96) (N:=w.places.length) (p0:=(h.length,0)) (F0 := [h.length])
  (zfE hl m0.le) (by intro y hy;simp at hy;omega) (by simp) (by decide) (by omega) (zfH _)
  (λi x n d hh=>B1 lo a1 w.places.length c1 (w.places.length:Nat) (i:Nat) a1 w.places.length c1 a2 w.sess.length c2 a3 w.net.length c3 a4 w.hist.length c4 0 none 0 (some 0) 0 none 0 (some 0) 0 none 0 (some 0) 0 none 0 (some 0) x n d (some (hP.length,0)) 0 (some w.sess.length) (some (hS.length,0)) 0 (some w.net.length) b4 w.hist.length (some w.hist.length) hh)
  (λi hi hh F hm=>by
   have hm':=m0d.over hm (λy hy=>by simp at hy;omega);obtain ⟨o,s1',s2',s3',x1,y1,x2,y2,x3,y3,J1,J2,J3,ha,ho,_,_,_,_,es1,es2,es3,g1,g2,g3,_⟩:=(hm'.keep0 rplaces_ok r1).get hi;obtain ⟨p1,p2,d2,p3,d3,h5,K1,K2,K3,e5,k1,k2,k3,m5⟩:=N6 (lo:=lo) (p:=w.places[i]) g1 g2 g3 (zfE hl hm'.le) (s1 _ (zfD hi));refine ⟨w.places[i].cs p1 (some w.places[i].chain.length) p2 d2 p3 d3,K1++(K2++K3),h5 ++ [.rows 6 29 false [w.places[i].cs p1 (some w.places[i].chain.length) p2 d2 p3 d3]],
    ⟨_,_,_,_,_,_,rfl,_,_,_,K1,K2,K3,rfl,rfl,Mv.snoc.keep0 rnodes_ok (RNodesC.up k1),Mv.snoc.keep0 rvers_ok k2,Mv.snoc.keep0 rvss_ok k3⟩,m5.trans (Mv.snoc' m5.nd),?_⟩
   simp only[Place.cs] at e5;rw[B1.e,Ak (by omega),Ac hi,ha,Ae,AW,ho,Ae,Ab,Aa,Ab,Aa,Ab,es1,Ab,es2,Ab,es3,Ab,AB,Ag,e5,Ad,AN,Ab,Aa,Ab,Aa,Ab,Ah,Ab,Ah,Ab,Ah,Ab,AB,Ag,A2,Am (by omega)]) sP4
 have m1d:=m0d.over m1 (λy hy=>by simp at hy;omega);have sS1:RSesss false h1 [.sl 5 (some (hP.length,0)) 0 (some w.sess.length)] [] [hP.length]:=m1.keep rsesss_ok (m4.keep0 rsesss_ok (mN.keep0 rsesss_ok sS)) (λy hy hm=>by simp at hy hm;omega);obtain ⟨h2,G2,e2,q2,m2⟩:=Lh (El:=RSess false) Jb (l:=w.sess) (lo:=lo) (R:=5) (e:=66) (bytes:=56) (N:=w.sess.length) (p0:=(hP.length,0)) (F0 := [hP.length])
  (zfE hl m1d.le) (by intro y hy;simp at hy;omega) (by simp) (by decide) (by omega) (zfH _)
  (λi x n d hh=>B0 lo a2 w.sess.length c2 (w.sess.length:Nat) (i:Nat) a1 w.places.length c1 a2 w.sess.length c2 a3 w.net.length c3 a4 w.hist.length c4 0 none 0 (some 0) 0 none 0 (some 0) 0 none 0 (some 0) 0 none 0 (some 0) (some (h.length,0)) w.places.length (some w.places.length) x n d (some (hS.length,0)) 0 (some w.net.length) b4 w.hist.length (some w.hist.length) hh)
  (λi hi hh F hm=>by
   have hm':=m1d.over hm (λy hy=>by simp at hy;omega);obtain ⟨o,v,x1,y1,J,ha,ho,_,_,es,hp,_⟩:=(hm'.keep0 rsesss_ok r2).get hi;obtain ⟨p1,d1,h5,K1,e5,k1,m5⟩:=Es (lo:=lo) hp (zfE hl hm'.le) (s2 _ (zfD hi));refine ⟨w.sess[i].cs p1 d1,K1,h5 ++ [.rows 5 66 false [w.sess[i].cs p1 d1]],⟨_,rfl,Mv.snoc.keep0 rtags_ok k1⟩,m5.trans (Mv.snoc' m5.nd),?_⟩;rw[B0.e,Ak (by omega),Ac hi,ha,Ae,AW,ho,Ae,Ab,Aa,Ab,es,Ab,Aa,Ab,Aa,Ab,Aa,Ag,e5,Ad,AN,Ab,Ah,Ag,A2,Am (by omega)]) sS1
 have m2d:=m1d.over m2 (λy hy=>by simp at hy;omega);have sN2:RFrames false h2 [.sl 9 (some (hS.length,0)) 0 (some w.net.length)] [] [hS.length]:=m2.keep rframes_ok (m1.keep rframes_ok (m4.keep0 rframes_ok sN) (λy hy hm=>by simp at hy hm;omega)) (λy hy hm=>by simp at hy hm;omega);obtain ⟨h3,G3,e3,q3,m3⟩:=Lh (El:=LY false) rframe_ok (l:=w.net) (lo:=lo) (R:=9) (e:=123) (bytes:=96) (N:=w.net.length) (p0:=(hS.length,0)) (F0 := [hS.length])
  (zfE hl m2d.le) (by intro y hy;simp at hy;omega) (by simp) (by decide) (by omega) (zfH _)
  (λi x n d hh=>BZ lo a3 w.net.length c3 (w.net.length:Nat) (i:Nat) 0 none 0 (some 0) 0 none 0 (some 0) 0 none 0 (some 0) 0 none 0 (some 0) (some (h.length,0)) w.places.length (some w.places.length) (some (hP.length,0)) w.sess.length (some w.sess.length) x n d b4 w.hist.length (some w.hist.length) hh)
  (λi hi hh F hm=>by
   have hm':=m2d.over hm (λy hy=>by simp at hy;omega);obtain ⟨o,v,x1,y1,J,ha,ho,es,hp,_⟩:=(hm'.keep0 rframes_ok r3).get hi;obtain ⟨p1,d1,h5,K1,e5,k1,m5⟩:=BJ (lo:=lo) (v:=w.net[i].ver) hp (zfE hl hm'.le) (s3 _ (zfD hi)).1;refine ⟨Iv w.net[i].fro :: Iv w.net[i].to :: Iv w.net[i].at' :: w.net[i].ver.cs p1 d1,K1,h5 ++ [.rows 9 123 false [Iv w.net[i].fro :: Iv w.net[i].to :: Iv w.net[i].at' :: w.net[i].ver.cs p1 d1]],⟨_,rfl,_,rfl,Mv.snoc.keep0 rtags_ok k1⟩,m5.trans (Mv.snoc' m5.nd),?_⟩;simp only[Ver.cs] at e5;rw[BZ.e,Ak (by omega),Ac hi,ha,Ae,AW,ho,Ae,Ab,Aa,Ab,Aa,Ab,Aa,Ab,Aa,Ab,Aa,Ab,Aa,Ab,es,Ab,A4,Ab,AB,Ag,e5,Ad,AN,Ab,Aa,Ab,Aa,Ab,Aa,Ab,Ah,Ab,A4,Ab,AB,Ag,A2,Am (by omega)]) sN2
 have nd0:([h.length]++([hP.length]++([hS.length]++G4))).Nodup:=by have:=m0.nd;simpa using this
 have lt0':∀ y ∈ [h.length]++([hP.length]++([hS.length]++G4)),y<hD.length:=λy hy=>lt0 y (by simpa using hy);have M1:Mv hD ([h.length]++([hP.length]++([hS.length]++G4))) h1 (G1++([hP.length]++([hS.length]++G4))):=m1.mid (.refl _) nd0 (λy hy=>lt0' y (by simp only[zfF] at hy ⊢;exact .inr hy)) (.refl _);have lt1:=M1.lt lt0';have M2:Mv h1 (G1++([hP.length]++([hS.length]++G4))) h2 (G1++(G2++([hS.length]++G4))):=m2.mid QZ M1.nd (λy hy=>lt1 y (by simp only[zfF] at hy ⊢;grind)) QZ;have lt2:=M2.lt lt1;have M3:Mv h2 (G1++(G2++([hS.length]++G4))) h3 (G1++(G2++(G3++G4))):=m3.mid VN M2.nd (λy hy=>lt2 y (by simp only[zfF] at hy ⊢;grind)) VN;have m0':Mv h [] hD ([h.length]++([hP.length]++([hS.length]++G4))):=by simpa using m0
 have M:=(m0'.trans M1).trans (M2.trans M3);obtain ⟨_,d12,d13,d14,d23,d24,d34⟩:=Rm M.nd;have n2':=M2.nd;refine ⟨some (h.length,0),some w.places.length,some (hP.length,0),some w.sess.length,some (hS.length,0),some w.net.length,b4,some w.hist.length,h3,G1,G2,G3,G4,Np ?_,?_,?_,q3,?_,M⟩
 ·rw[EF (by omega),EF (by omega),EF (by omega)];simp only[hhP,hhS,hhN];rw[e4,Ad,es4,e4',Ad,Ah];refine e1.trans ?_;rw[B1.e,Ai (by omega)];refine e2.trans ?_;rw[B0.e,Ai (by omega)];refine e3.trans ?_;rw[BZ.e,Ai (by omega)]
 ·refine m3.keep rplacesN_ok (m2.keep rplacesN_ok q1 λy hy hm=>?_) λy hy hm=>?_
  ·have:=M1.nd;rw[zfG] at this;exact this.2.2 y hy y (by simp at hm ⊢;exact .inl hm) rfl
  ·have:=M2.nd;rw[zfG] at this;exact this.2.2 y hy y (by simp at hm ⊢;exact .inr (.inl hm)) rfl
 ·refine m3.keep rsesss_ok q2 λy hy hm=>?_;have:=M2.nd;rw[zfG,zfG] at this;exact this.2.1.2.2 y hy y (by simp at hm ⊢;exact .inl hm) rfl
 ·refine m3.keep rdones_ok (m2.keep rdones_ok (m1.keep rdones_ok q4c λy hy hm=>?_) λy hy hm=>?_) λy hy hm=>?_
  ·have:=hG4 y hy;simp at hm;omega
  ·have:=hG4 y hy;simp at hm;omega
  ·have:=hG4 y hy;simp at hm;omega
end


theorem zdV {a b:Tag} (h1:a.time=b.time) (h2:a.place=b.place):a=b:=by cases a;cases b;simp_all
theorem zbP {p q:List Tag}{m:Nat}{a b:Tag} (hu:Et p q=true) (ha:p[m]?=some a) (hb:q[m]?=some b):GZ a b=b:=by
 have:=under_iff.1 hu m a b ha hb;unfold GZ EQ;rw[SQ] at this;cases hl:Ic a.time a.place b.time b.place with
 | true=>rfl
 | false =>rw[SQ] at hl;show a=b;exact zdV (by omega) (by omega)
theorem Up {p q:List Tag}{m:Nat} (hm:m<p.length) (hq:p.length=q.length) (hu:Et p q=true):FW (q.take m++p.drop m) m (q[m]'(by omega))=q.take (m+1)++p.drop (m+1):=by
 have h1:(q.take m).length=m:=by simp;omega
 have h2:m<(q.take m++p.drop m).length:=by simp;omega
 have h3:(q.take m++p.drop m)[m]=p[m]:=by rw[zht (by omega)];simp[h1]
 rw[MM h2,h3,zbP hu (EM hm) (EM (by omega)),zgQ _ _ (by omega),h1,zhl,zg0 (by omega),zfS,zfT hm];rfl
theorem OH {i:Nat}{l:List Tag}{m:Nat} (hm:m<l.length):(Cl i l).take (m+1)=(Cl i l).take m ++ [⟨i,2,(m:Nat),l[m]⟩]:=by
 have hl:(Cl i l).length=l.length:=by unfold Cl;simp
 rw[zg0 (by omega)];congr 2;unfold Cl;rw[List.getElem_map,zg6];simp
section
variable {lo:Nat}{h h':Heap}{w:World}{a1 a2 a3 a4 a:Pq}{c1 c2 c3 c4 c:Nq}{F1 F2 F3 F4:List Nat}
theorem ZL {kind num key:Int}{text:ByteArray}{gone:Bool}{i:Nat} (H:WR lo h w a1 c1 a2 c2 a3 c3 a4 c4 F1 F2 F3 F4) (hg:Fits w) (hi:i<w.sess.length) :
  ∃ cs' h' F',Af lo 252 [.agg (w.cs a1 c1 a2 c2 a3 c3 a4 c4),.agg [Iv kind,Iv (i:Nat),Iv num,Iv key,.str text,.bool gone]] h=some (.tup [.agg cs',.bool (Ll w i w.sess[i]).isSome],h') /\
   Tz lo h' cs' ((Ll w i w.sess[i]).getD w) F'/\Mv h (F1++(F2++(F3++F4))) h' F'/\((Ll w i w.sess[i])=none->cs'=w.cs a1 c1 a2 c2 a3 c3 a4 c4):=by
 suffices hk:∃ cs' h' F',_=some (V.tup [.agg cs',.bool (Ll w i w.sess[i]).isSome],h')/\Tz lo h' cs' ((Ll w i w.sess[i]).getD w) F'/\Mv h (F1++(F2++(F3++F4))) h' F'/\((Ll w i w.sess[i])=none->cs'=w.cs a1 c1 a2 c2 a3 c3 a4 c4) from by obtain ⟨cs',h',F',e,hr⟩:=hk;exact ⟨cs',h',F',XL e,hr⟩
 have hso:=hg.ok.sess _ (zfD hi);obtain ⟨t1,t2,t3,t4,t5,t6⟩:=CV hso;have hp4:=BP t2;have h80:=hg.ok.h80;obtain ⟨k,hpl⟩:∃ k:Nat,w.sess[i].place=(k:Int):=⟨w.sess[i].place.toNat,by omega⟩;have hk:k<w.places.length:=by have:=hg.ok.p3;omega
 obtain ⟨hpo,hme,hro⟩:=hg.at hk;have hn:=(E3 (Bj hpo) (by decide) (by decide) (by decide)).1;have hn1:=hn.1.1;have hch:=chain_iff.1 (A3 hpo).2.2.2.1;have hpos:=hch.pos;have hX:Ll w i w.sess[i]=bif !decide (w.sess[i].wait.time>0)&&(Et w.sess[i].past (Bl w.places[k].chain)&&E0 w 4) then some (setS w i ⟨w.sess[i].place,Bl w.places[k].chain,w.sess[i].wait,w.sess[i].key⟩ (Cl i (Bl w.places[k].chain))) else none:=by unfold Ll;rw[hpl,AW,EM hk]
 obtain ⟨b',i',v,e1',d1',Gs,rfl,hld',_,_,es',hv',_,hGn,puts⟩:=H.sess hi;obtain ⟨b,j,s1,s2,s3,b1,d1,b2,d2,b3,d3,G1,G2,G3,rfl,_,hc2,_,e1,e2,e3,g1,g2,g3,nd,hF,put⟩:=H.place hk;have hlast:=Je (l:=w.places[k].chain) (by omega);have hs4:=(hch.store (EM (show w.places[k].chain.length - 1<w.places[k].chain.length by omega))).2;obtain ⟨o,z1,z2,p1,q1,p2,q2,H1,H2,rfl,_,ho1,_,ez1,_,gg1,_,hH1,_⟩:=g1.get (show w.places[k].chain.length - 1<w.places[k].chain.length by omega);generalize hst:(w.places[k].chain[w.places[k].chain.length - 1]'(by omega)).store=store at hlast hs4 ez1 gg1;obtain ⟨tv,h1,T1,e5,r5,m5⟩:=QS (lo:=h.length) gg1 (zfH _) (by omega);obtain ⟨x5,y5,es5,r5⟩:=r5.form;obtain ⟨Hq,mq⟩:=H.up0 m5.drop;rw[hlast] at hX;have htl:(BW store).length=4:=by unfold BW;rw[zhb];exact hs4
 have loop:∀ (r m:Nat) (hh:Heap) (x1:Pq) (y1:Nq) (x2:Pq) (y2:Nq) (x3:Pq) (y3:Nq) (x4:Pq) (y4:Nq) (K1 K2 K3 K4:List Nat),m+r=4->Et w.sess[i].past (BW store)=true->w.hist.length<=76 ->
   WR lo hh (setS w i ⟨w.sess[i].place,(BW store).take m++w.sess[i].past.drop m,w.sess[i].wait,w.sess[i].key⟩ ((Cl i (BW store)).take m)) x1 y1 x2 y2 x3 y3 x4 y4 K1 K2 K3 K4 ->
   RVers false hh [.sl 6 p1 store.length q1] store H1->(∀ y∈H1,y∈K1) ->
   ∃ cs' h' F',EA lo (m:Nat) x1 w.places.length y1 x2 w.sess.length y2 x3 w.net.length y3 x4 (w.hist++(Cl i (BW store)).take m).length y4 kind (i:Nat) num key text gone 0 none 0 (some 0) 0 none 0 (some 0) 0 none 0 (some 0) 0 none 0 (some 0) p1 store.length q1 hh=some (V.tup [.agg cs',.bool true],h') /\
    Tz lo h' cs' (setS w i ⟨w.sess[i].place,BW store,w.sess[i].wait,w.sess[i].key⟩ (Cl i (BW store))) F'/\Mv hh (K1++(K2++(K3++K4))) h' F':=by
  intro r;induction r with
  | zero =>
   intro m hh x1 y1 x2 y2 x3 y3 x4 y4 K1 K2 K3 K4 hm hu hl Hm hv hK;have:m=4:=by omega
   subst this;have hrl:(Cl i (BW store)).length=4:=by unfold Cl;simpa using htl
   have W:=Hm.at;rw[zgk (by omega),zgt (by omega),zgc,zgk (by omega)] at W;refine ⟨_,hh,_,?_,W,Mv.refl Hm.nd⟩;rw[EA.e,Ai (by omega),zgk (by omega)];simp only[World.cs,setS,zf6]
  | succ r ih =>
   intro m hh x1 y1 x2 y2 x3 y3 x4 y4 K1 K2 K3 K4 hm hu hl Hm hv hK;have him:i<(setS w i ⟨w.sess[i].place,(BW store).take m++w.sess[i].past.drop m,w.sess[i].wait,w.sess[i].key⟩ ((Cl i (BW store)).take m)).sess.length:=by simpa [setS] using hi
   obtain ⟨b0,i0,v0,e0,d0,G0,rfl,_,hld1,_,es0,hv0,_,_,_⟩:=Hm.sess him;have hss:(setS w i ⟨w.sess[i].place,(BW store).take m++w.sess[i].past.drop m,w.sess[i].wait,w.sess[i].key⟩ ((Cl i (BW store)).take m)).sess[i]=⟨w.sess[i].place,(BW store).take m++w.sess[i].past.drop m,w.sess[i].wait,w.sess[i].key⟩:=by simp[setS]
   have hpl4:((BW store).take m++w.sess[i].past.drop m).length=4:=by simp;omega
   have hms:m<store.length:=by omega
   obtain ⟨o',_,_,_,_,ho',_,_,_,_,_,_,ho12,_⟩:=hv.all hms;have htm:(BW store)[m]'(by omega)=store[m].tag:=by unfold BW;rw[List.getElem_map]
   rw[hss] at es0 hv0;have es0:∀ {R':Type} (K:Pq->Nat->Nq->Option R'),eS 2 v0 K=K e0 ((BW store).take m++w.sess[i].past.drop m).length d0:=es0;have hv0:RTags false hh [.sl 2 e0 ((BW store).take m++w.sess[i].past.drop m).length d0] ((BW store).take m++w.sess[i].past.drop m) G0:=hv0;obtain ⟨x8,y8,h8,F8,e8,r8,m8⟩:=Mg (lo:=lo) (k:=m) (t:=store[m].tag) hv0 (by omega) Hm.hl (by omega);rw[<- htm,Up (by omega) (by omega) hu] at r8;obtain ⟨h9,F9,e9,q9,m9,s9⟩:=Hm.past him m8 r8;have hv9:=rvers_ok.fr _ _ _ _ _ hv λy hy=>s9 y (hK y hy);obtain ⟨o9,_,_,_,_,ho9,_,_,_,_,_,_,ho129,_⟩:=hv9.all hms;have:o'=o9:=by rw[ho'] at ho9;injection ho9
   subst this;have hrt:((Cl i (BW store)).take m).length<=4:=by rw[zf2];omega
   obtain ⟨x10,y10,h10,F10,e10,q10,m10,s10⟩:=HC (d:=⟨i,2,(m:Nat),store[m].tag⟩) q9 (by show (w.hist++_).length<=1000;rw[zfR];omega);have hv10:=rvers_ok.fr _ _ _ _ _ hv9 λy hy=>s10 y (hK y hy);simp only[setS,zgR,zgv,zfS] at q10;rw[<- htm,<- OH (by omega)] at q10;obtain ⟨cs',h',F',e,W,M⟩:=ih (m+1) h10 _ _ _ _ _ _ _ _ _ _ _ _ (by omega) hu hl q10 hv10 hK;refine ⟨cs',h',F',?_,W,(m9.trans m10).trans M⟩;simp only[World.cs,setS,zf6] at e9 e10;rw[hpl4] at es0 e8 e9;have hw8:(FW ((BW store).take m++w.sess[i].past.drop m) m store[m].tag).length=4:=by rw[zbl];exact hpl4
   rw[EA.e,Ak (by omega),Ac hi,Ae,AW,hld1,Ae,Ab,es0,Ag,Ac hms,ho',Ae,AW,ho12,Ae,Ab,Aa,Ab,Aa,Ag,e8,Ad,AN,Ab,Ah,Ag,e9,Ac hms,Ae,ho129,Ae,Ab,Aa,Ab,Aa,Ag,e10,Ad,AN,Ab,Ah,Ab,Ah,Ab,Ah,Ab,Ah,Ag,Am (by omega),<- ho'];rw[zfS,<- htm,<- OH (by omega)];exact e
 rw[Ac hi,Ae,AW,hld',Ae,Ab,Aa,Ab,es',Ab,Aa,Ab,Aa,Ab,Aa,Ag,hpl,Ac hk,Ae,AW,hc2,Ae,Ab,e1,Ag,wr (by omega) (by omega),BY ⟨by omega,by omega⟩,Ae,show ((w.places[k].chain.length:Int) - 1).toNat=w.places[k].chain.length - 1 by omega,ho1,Ae,Ab,ez1,Ag];by_cases hw:w.sess[i].wait.time>0
 ·rw[Ak hw];exact H.stay (by rw[hX,decide_eq_true hw];rfl)
 rw[decide_eq_false hw,zgx,zfQ] at hX;rw[Ai hw,e5,Ad,AN,Ab,es5,Ag,GX (m5.keep0 rtags_ok hv') r5 hp4 htl,Ad,Ar];cases hu:Et w.sess[i].past (BW store) with
 | false =>rw[Ay];obtain ⟨cs',h',F',e,W,M,N⟩:=Hq.stay (X:=Ll w i w.sess[i]) (by rw[hX,hu];rfl);exact ⟨cs',h',F',e,W,mq.trans M,N⟩
 | true =>
 rw[hu,zfQ] at hX;rw[Aq,wr (by omega) (by omega)];by_cases hh:(w.hist.length:Int)+4>80
 ·rw[Ak hh];obtain ⟨cs',h',F',e,W,M,N⟩:=Hq.stay (X:=Ll w i w.sess[i]) (by rw[hX,show E0 w 4=false from decide_eq_false (by omega)];rfl);exact ⟨cs',h',F',e,W,mq.trans M,N⟩
 rw[show E0 w 4=true from decide_eq_true (by omega),cond_true] at hX;have h0:setS w i ⟨w.sess[i].place,(BW store).take 0++w.sess[i].past.drop 0,w.sess[i].wait,w.sess[i].key⟩ ((Cl i (BW store)).take 0)=w:=by have hse:w.sess.set i ⟨w.sess[i].place,w.sess[i].past,w.sess[i].wait,w.sess[i].key⟩=w.sess:=zgY hi;simp only[setS,List.take_zero,zf8,zgF,zgc,hse]
 have hH1:∀ y∈H1,y∈F1:=λy hy=>(hF y (zgN _ (hH1 y hy))).2.2
 obtain ⟨cs',h',F',e,W,M⟩:=loop 4 0 h1 _ _ _ _ _ _ _ _ _ _ _ _ (by omega) hu (by omega) (by rw[h0];exact Hq) (m5.keep0 rvers_ok gg1) hH1;simp only[List.take_zero,zgc] at e;rw[Ai hh,hX];exact ⟨cs',h',F',e,W,mq.trans M,λg=>by first | cases g | (simp at g)⟩
theorem QH {F:List Nat}{cs:List V}{X:Option World}{t:Ov} (ht:∃ cs' h' F',t=some (.tup [.agg cs',.bool X.isSome],h')/\Tz lo h' cs' (X.getD w) F'/\Mv h F h' F'/\(X=none->cs'=cs)) :
  ∃ cs' h' F',(Al t λv_2 h_3=>eU v_2 λc_4=>eC c_4 λv_5 l_6=>eA v_5 λc_7=>eC c_7 λv_8 l_9=>eS 6 (v_8) λa_10 n_11 c_12=>eC l_9 λv_13 l_14=>eS 5 (v_13) λa_15 n_16 c_17=>eC l_14 λv_18 l_19=>eS 9 (v_18) λa_20 n_21 c_22=>eC l_19 λv_23 l_24=>eS 5 (v_23) λa_25 n_26 c_27=>eN l_24 (eC l_6 λv_28 l_29=>eB v_28 (eN l_29 (some (V.tup [.agg [.sl 6 a_10 n_11 c_12,.sl 5 a_15 n_16 c_17,.sl 9 a_20 n_21 c_22,.sl 5 a_25 n_26 c_27],.bool true],h_3))) (eN l_29 (some (V.tup [.agg [.sl 6 a_10 n_11 c_12,.sl 5 a_15 n_16 c_17,.sl 9 a_20 n_21 c_22,.sl 5 a_25 n_26 c_27],.bool false],h_3)))))=some (.tup [.agg cs',.bool X.isSome],h')/\Tz lo h' cs' (X.getD w) F'/\Mv h F h' F'/\(X=none->cs'=cs):=by
 obtain ⟨cs',h',F',rfl,W,M,N⟩:=ht;refine ⟨cs',h',F',?_,W,M,N⟩;obtain ⟨x1,y1,x2,y2,x3,y3,x4,y4,K1,K2,K3,K4,rfl,_,_⟩:=W;rw[Ad,J5,Ab,AN,Ab,Ah,Ab,Ah,Ab,Ah,Ab,Ah,Ag,Ab,Ar];cases X.isSome
 ·rw[Ay,Ag]
 ·rw[Aq,Ag]
theorem Ut {e:Event} (H:WR lo h w a1 c1 a2 c2 a3 c3 a4 c4 F1 F2 F3 F4) (hg:Fits w) (ht:e.text.size<=1048576) :
  ∃ cs' h' F',Af lo 184 [.agg (w.cs a1 c1 a2 c2 a3 c3 a4 c4),.agg e.cs] h=some (.tup [.agg cs',.bool (Fq w e).isSome],h')/\Tz lo h' cs' ((Fq w e).getD w) F'/\Mv h (F1++(F2++(F3++F4))) h' F'/\((Fq w e)=none->cs'=w.cs a1 c1 a2 c2 a3 c3 a4 c4):=by
 obtain ⟨kind,at',num,key,text,gone⟩:=e;suffices hk:∃ cs' h' F',_=some (V.tup [.agg cs',.bool (Fq w ⟨kind,at',num,key,text,gone⟩).isSome],h')/\Tz lo h' cs' ((Fq w ⟨kind,at',num,key,text,gone⟩).getD w) F'/\Mv h (F1++(F2++(F3++F4))) h' F'/\((Fq w ⟨kind,at',num,key,text,gone⟩)=none->cs'=w.cs a1 c1 a2 c2 a3 c3 a4 c4) from by obtain ⟨cs',h',F',e,hr⟩:=hk;exact ⟨cs',h',F',Ry e,hr⟩
 have hs4:=hg.ok.s4;unfold Fq;rw[wr (by omega) (by omega),A9,Ad,Ar];cases hat:Aj at' 0 ((w.sess.length:Int) - 1) with
 | false=>rw[Ay];exact H.stay rfl
 | true =>
 simp only[Aj,E1,decide_eq_true_eq] at hat;obtain ⟨i,rfl⟩:∃ i:Nat,at'=(i:Int):=⟨at'.toNat,by omega⟩;have hi:i<w.sess.length:=by omega
 rw[Aq,cond_true,AW,EM hi];simp only[];cases h1:kind==1 with
 | true=>rw[Aq,cond_true];exact QH (Wo H hg ht hi)
 | false =>
 rw[Ay,cond_false];cases h2:kind==2 with
 | true=>rw[Aq,cond_true];exact QH (ZK H hg hi)
 | false =>
 rw[Ay,cond_false];cases h3:kind==3 with
 | true=>rw[Aq,cond_true];exact QH (Yf H hg hi)
 | false =>
 rw[Ay,cond_false];cases h4:kind==4 with
 | true=>rw[Aq,cond_true];exact QH (ZL H hg hi)
 | false =>
 rw[Ay,cond_false];obtain ⟨b',i',v,e1',d1',Gs,rfl,_,_,hld2,es',hv',hv,hGn,puts⟩:=H.sess hi;rw[Ac hi,Ae,hld2,Ae,Ab,Ag,Aa];unfold YH;by_cases hw:w.sess[i].wait.time>0
 ·rw[Ak hw];exact H.stay (by rw[decide_eq_true hw];rfl)
 rw[Ai hw,decide_eq_false hw,zgx,zfQ,A9,Ad,Ar];cases hwn:Aj num 0 2 with
 | false=>rw[Ay];exact H.stay rfl
 | true =>
 obtain ⟨h2',F5,e2,q2,m2,_⟩:=puts h Gs 0 [Iv num] [Iv num,v,Iv w.sess[i].wait.time,Iv w.sess[i].wait.place,Iv w.sess[i].key] ⟨num,w.sess[i].past,w.sess[i].wait,w.sess[i].key⟩ (Mv.refl hGn) rfl ⟨v,rfl,hv⟩;have W:=q2.at;simp only[World.cs,zf6] at W;rw[Aq,Ac hi,Ae,e2,Ae,cond_true];refine ⟨_,h2',_,rfl,?_,m2,λg=>by first | cases g | (simp at g)⟩;simpa only [setS,zgX,zgc] using W
theorem zbA {e:Event} (H:WR lo h w a1 c1 a2 c2 a3 c3 a4 c4 F1 F2 F3 F4) (hg:Fits w) (ht:e.text.size<=1048576) :
  ∃ cs' h' F',Af lo 102 [.agg (w.cs a1 c1 a2 c2 a3 c3 a4 c4),.agg e.cs] h=some (.tup [.agg cs',.bool (E9 w e).isSome],h')/\Tz lo h' cs' (UG w e) F'/\Mv h (F1++(F2++(F3++F4))) h' F'/\((E9 w e)=none->cs'=w.cs a1 c1 a2 c2 a3 c3 a4 c4):=by
 have hc:=Ut H hg ht;have hp:=Wp (e:=e) H hg;have hn:=ZJ (e:=e) H hg;obtain ⟨kind,at',num,key,text,gone⟩:=e;unfold UG;suffices hk:∃ cs' h' F',_=some (V.tup [.agg cs',.bool (E9 w ⟨kind,at',num,key,text,gone⟩).isSome],h')/\Tz lo h' cs' ((E9 w ⟨kind,at',num,key,text,gone⟩).getD w) F'/\Mv h (F1++(F2++(F3++F4))) h' F'/\((E9 w ⟨kind,at',num,key,text,gone⟩)=none->cs'=w.cs a1 c1 a2 c2 a3 c3 a4 c4) from by obtain ⟨cs',h',F',e,hr⟩:=hk;exact ⟨cs',h',F',Zw e,hr⟩
 rw[A9,Ad,Ar];unfold E9;cases h1:Aj kind 1 5 with
 | true=>rw[Aq,cond_true];exact QH hc
 | false =>
 rw[Ay,cond_false,A9,Ad,Ar];cases h2:Aj kind 6 9 with
 | true=>rw[Aq,cond_true];exact QH hp
 | false =>
 rw[Ay,cond_false,A9,Ad,Ar];unfold YG at hn;cases h3:kind==10 with
 | true =>
  have h4:Aj kind 10 13=true:=by rw[beq_iff_eq] at h3;subst h3;rfl
  simp only[h3,cond_true] at hn;rw[h4,Aq,cond_true];exact QH hn
 | false =>
  simp only[h3,cond_false] at hn;rw[cond_false];cases h4:Aj kind 11 13 with
  | true =>
   have h5:Aj kind 10 13=true:=by simp[Aj] at h4 ⊢;omega
   rw[h5,Aq,cond_true];exact QH hn
  | false =>
   have h5:Aj kind 10 13=false:=by rw[beq_eq_false_iff_ne] at h3;simp[Aj] at h4 ⊢;omega
   rw[h5,Ay];exact H.stay rfl
end


section
variable {lo:Nat}{h h':Heap}{w:World}{a1 a2 a3 a4 a:Pq}{c1 c2 c3 c4 c:Nq}{F F' F1 F2 F3 F4:List Nat}
theorem WR.of {cs:List V} (hw:XI false h cs w F) (hnd:F.Nodup) (hge:∀ y∈F,lo<=y) (hl:lo<=h.length):∃ s1 s2 s3 s4 a1 c1 a2 c2 a3 c3 a4 c4 F1 F2 F3 F4,cs = [s1,s2,s3,s4]/\F=F1++(F2++(F3++F4)) /\
  (∀ {T:Type} (K:Pq->Nat->Nq->Option T),eS 6 s1 K=K a1 w.places.length c1)/\(∀ {T:Type} (K:Pq->Nat->Nq->Option T),eS 5 s2 K=K a2 w.sess.length c2) /\
  (∀ {T:Type} (K:Pq->Nat->Nq->Option T),eS 9 s3 K=K a3 w.net.length c3)/\(∀ {T:Type} (K:Pq->Nat->Nq->Option T),eS 5 s4 K=K a4 w.hist.length c4)/\WR lo h w a1 c1 a2 c2 a3 c3 a4 c4 F1 F2 F3 F4:=by
 obtain ⟨s1,s2,s3,s4,F1,F2,F3,F4,rfl,rfl,r1,r2,r3,r4⟩:=hw;obtain ⟨a1,c1,e1,r1⟩:=r1.form;obtain ⟨a2,c2,e2,r2⟩:=r2.form;obtain ⟨a3,c3,e3,r3⟩:=r3.form;obtain ⟨a4,c4,e4,r4⟩:=r4.form;exact ⟨s1,s2,s3,s4,a1,c1,a2,c2,a3,c3,a4,c4,F1,F2,F3,F4,rfl,rfl,e1,e2,e3,e4,r1,r2,r3,r4,hnd,hge,hl⟩
end


section
variable {lo:Nat}{h h':Heap}{w:World}{a1 a2 a3 a4 a:Pq}{c1 c2 c3 c4 c:Nq}{F F' F1 F2 F3 F4:List Nat}
theorem zaw {l:List Done} (hl:lo<=h.length) (hn:l.length<=1048576):∃ a' c' h' F',(∀ {T:Type} (K:V->Heap->Option T),DJ lo 126 5 40 (.sl 5 (some (h.length,0)) 0 (some 0)) (l.map Done.cs) (h ++ [.rows 5 126 false []]) K=K (.sl 5 a' l.length c') h') /\
  RDones false h' [.sl 5 a' l.length c'] l F'/\Mv h [] h' F':=by
 have hfl:(l.map λ_=>([]:List Nat)).flatten = []:=by simp
 obtain ⟨a',c',h',F',e,r,l1,fr,sub,nd⟩:=LN (h:=h) (lo:=lo) (El:=flat Done.cs) (R:=5) (e:=126) (bytes:=40) EG (rows:=l.map Done.cs) (l:=l) (Fs:=l.map λ_ => []) EAll.flat (by rw[hfl];simp) (by rw[hfl];simp) (by decide) (by omega) hl;refine ⟨a',c',h',F',e,r,by omega,λy hy _=>fr y hy,nd,λy hy=>?_⟩;rcases sub y hy with g | g
 ·rw[hfl] at g;simp at g
 ·exact .inr g
theorem Yg (r1:RPlaces false h [.sl 6 a1 w.places.length c1] w.places F1) (r2:RSesss false h [.sl 5 a2 w.sess.length c2] w.sess F2) (r3:RFrames false h [.sl 9 a3 w.net.length c3] w.net F3) (r4:RDones false h [.sl 5 a4 w.hist.length c4] w.hist F4) (hn:EP w) (hl:lo<=h.length) :
  ∃ cs h' F',Af lo 103 [.agg (w.cs a1 c1 a2 c2 a3 c3 a4 c4)] h=some (.agg cs,h')/\XI false h' cs w F'/\Mv h [] h' F':=by
 obtain ⟨⟨n1,n1'⟩,⟨n2,n2'⟩,⟨n3,n3'⟩,n4⟩:=hn;obtain ⟨x4,y4,h4,K4,e4,t4,m4⟩:=zaw (lo:=lo) (h:=h) (l:=w.hist) hl n4;obtain ⟨q1,x1,y1,h5,K1,e1,t1,m1⟩:=Gp (El:=RPlace false) rplace_ok (h:=h4) (l:=w.places) (f:=id) (lo:=lo) (R:=6) (e:=29) (bytes:=96) (zfE hl m4.le) (by decide) (by omega)
  (λi q a n c hh=>DX lo (i:Nat) a1 w.places.length c1 a2 w.sess.length c2 a3 w.net.length c3 a4 w.hist.length c4 0 none 0 (some 0) 0 none 0 (some 0) 0 none 0 (some 0) 0 none 0 (some 0) q a n c 0 none 0 (some 0) 0 none 0 (some 0) x4 w.hist.length y4 hh) (λi hi q a n c hh hm=>by
   obtain ⟨o,s1,s2,s3,b1,d1,b2,d2,b3,d3,H1,H2,H3,ha,ho,_,_,_,_,es1,es2,es3,p1,p2,p3,_⟩:=((m4.drop.trans hm).keep0 rplaces_ok r1).get hi;obtain ⟨raw,z1,t1,z2,t2,z3,t3,h6,K6,e6,n6,r6,m6⟩:=Ws (lo:=lo) p1 p2 p3 (zfE (zfE hl m4.le) hm.le) (n1' _ (zfD hi));obtain ⟨v1,v2,v3,_,_,_,_,_,_,rfl,k1,k2,k3,eq⟩:=n6;obtain ⟨rfl,rfl,rfl,rfl,rfl,rfl⟩:=ze7 eq;refine ⟨w.places[i].cs z1 t1 z2 t2 z3 t3,K6,h6 ++ [.rows 6 29 false [w.places[i].cs z1 t1 z2 t2 z3 t3]],Mv.snoc.keep0 rplace_ok r6,m6.trans (Mv.snoc' m6.nd),?_⟩;simp only[Place.cs] at e6;rw[DX.e,Ak (by omega),Ac hi,ha,Ae,AW,ho,Ae,Ab,Aa,Ab,Aa,Ab,es1,Ab,es2,Ab,es3,Ab,AB,Ag,e6,Ad,AN,Ab,Aa,Ab,Aa,Ab,k1,Ab,k2,Ab,k3,Ab,AB,Ag,A2,Am (by omega),<- ha])
 have l5:=zfE (zfE hl m4.le) m1.le;have m41:=m4.drop.trans m1.drop;obtain ⟨q2,x2,y2,h6,K2,e2,t2,m2⟩:=Gp (El:=RSess false) Jb (h:=h5) (l:=w.sess) (f:=id) (lo:=lo) (R:=5) (e:=66) (bytes:=56) l5 (by decide) (by omega)
  (λi q a n c hh=>DW lo (i:Nat) a1 w.places.length c1 a2 w.sess.length c2 a3 w.net.length c3 a4 w.hist.length c4 0 none 0 (some 0) 0 none 0 (some 0) 0 none 0 (some 0) 0 none 0 (some 0) q1 x1 w.places.length y1 q a n c 0 none 0 (some 0) x4 w.hist.length y4 hh) (λi hi q a n c hh hm=>by
   obtain ⟨o,v,b1,d1,G,ha,ho,_,_,es,hp,_⟩:=((m41.trans hm).keep0 rsesss_ok r2).get hi;obtain ⟨z1,t1,h7,K7,e7,r7,m7⟩:=Lf (lo:=lo) (h:=hh) (l:=w.sess[i].past) (zfE l5 hm.le) (n2' _ (zfD hi));refine ⟨w.sess[i].cs z1 t1,K7,h7 ++ [.rows 5 66 false [w.sess[i].cs z1 t1]],⟨_,rfl,Mv.snoc.keep0 rtags_ok r7⟩,m7.trans (Mv.snoc' m7.nd),?_⟩;rw[DW.e,Ak (by omega),Ac hi,ha,Ae,AW,ho,Ae,Ab,Aa,Ab,es,Ab,Aa,Ab,Aa,Ab,Aa,Ag,RTags.rows (Mv.snoc.keep0 rtags_ok hp),e7,Ah,A2,Am (by omega),<- ha])
 have l6:=zfE l5 m2.le;have m42:=m41.trans m2.drop;obtain ⟨q3,x3,y3,h7,K3,e3,t3,m3⟩:=Gp (El:=LY false) rframe_ok (h:=h6) (l:=w.net) (f:=id) (lo:=lo) (R:=9) (e:=123) (bytes:=96) l6 (by decide) (by omega)
  (λi q a n c hh=>DV lo (i:Nat) a1 w.places.length c1 a2 w.sess.length c2 a3 w.net.length c3 a4 w.hist.length c4 0 none 0 (some 0) 0 none 0 (some 0) 0 none 0 (some 0) 0 none 0 (some 0) q1 x1 w.places.length y1 q2 x2 w.sess.length y2 q a n c x4 w.hist.length y4 hh) (λi hi q a n c hh hm=>by
   obtain ⟨o,s,b1,d1,G,ha,ho,es,hp,_⟩:=((m42.trans hm).keep0 rframes_ok r3).get hi;obtain ⟨z1,t1,h7,K7,e7,r7,m7⟩:=DK (lo:=lo) (v:=w.net[i].ver) hp (zfE l6 hm.le) (n3' _ (zfD hi)).1;refine ⟨w.net[i].cs z1 t1,K7,h7 ++ [.rows 9 123 false [w.net[i].cs z1 t1]],⟨_,rfl,_,rfl,Mv.snoc.keep0 rtags_ok r7⟩,m7.trans (Mv.snoc' m7.nd),?_⟩;simp only[Ver.cs] at e7;rw[DV.e,Ak (by omega),Ac hi,ha,Ae,AW,ho,Ae,Ab,Aa,Ab,Aa,Ab,Aa,Ab,Aa,Ab,Aa,Ab,Aa,Ab,es,Ab,A4,Ab,AB,Ag,e7,Ad,AN,Ab,Aa,Ab,Aa,Ab,Aa,Ab,Ah,Ab,A4,Ab,AB,Ag,A2,Am (by omega),<- ha])
 rw[zgU] at t1 t2 t3;have bd1:=(Sli.ok rplace_ok).bd _ _ _ _ t1;have bd2:=(Sli.ok Jb).bd _ _ _ _ t2;have bd4:=rdones_ok.bd _ _ _ _ t4;have j1:=m4.join m1 bd4;have j2:=j1.join m2 (λy hy=>by
  rcases zfF.1 hy with g | g
  ·exact zfO (bd4 y g) m1.le
  ·exact bd1 y g)
 have j3:=j2.join m3 (λy hy=>by
  rcases zfF.1 hy with g | g
  ·rcases zfF.1 g with g | g
   ·exact zfO (bd4 y g) (zfE m1.le m2.le)
   ·exact zfO (bd1 y g) m2.le
  ·exact bd2 y g)
 have hperm:(K1++(K2++(K3++K4))).Perm (((K4++K1)++K2)++K3):=by rw[zfS,zfS];exact YD
 refine ⟨_,h7,K1++(K2++(K3++K4)),UM ?_,⟨_,_,_,_,K1,K2,K3,K4,rfl,rfl,(m2.drop.trans m3.drop).keep0 rplaces_ok t1,m3.keep0 rsesss_ok t2,t3,(m1.drop.trans (m2.drop.trans m3.drop)).keep0 rdones_ok t4⟩,j3.lean (hperm.nodup_iff.2 j3.nd) λy hy=>hperm.mem_iff.1 hy⟩;obtain ⟨rows,Fs,k1,k2,_⟩:=(Mv.snoc (t := [.rows 5 126 false []])).keep0 rdones_ok r4 |>.rows;rw[k1,k2.of_flat.1,e4,Ah];refine e1.trans ?_;rw[DX.e,Ai (by omega)];refine e2.trans ?_;rw[DW.e,Ai (by omega)];refine e3.trans ?_;rw[DV.e,Ai (by omega)]
end


variable {w:World}
def KC:World:=⟨[],[],[],[]⟩
def NS (w:World) (e:Event):World:=bif Df w then UG w e else KC
def Kc (raw:List V) (w:World) (r:List V):Prop:=∃ s1 s2 s3 s4 a1 c1 a2 c2 a3 c3 a4 c4,raw = [s1,s2,s3,s4] /\
 (∀ {T:Type} (K:Pq->Nat->Nq->Option T),eS 6 s1 K=K a1 w.places.length c1)/\(∀ {T:Type} (K:Pq->Nat->Nq->Option T),eS 5 s2 K=K a2 w.sess.length c2) /\
 (∀ {T:Type} (K:Pq->Nat->Nq->Option T),eS 9 s3 K=K a3 w.net.length c3)/\(∀ {T:Type} (K:Pq->Nat->Nq->Option T),eS 5 s4 K=K a4 w.hist.length c4)/\r=w.cs a1 c1 a2 c2 a3 c3 a4 c4
section
variable {lo:Nat}{h:Heap}{F:List Nat}
theorem Q1:∃ raw r,raw = [.sl 0 none 0 (some 0),.sl 0 none 0 (some 0),.sl 0 none 0 (some 0),.sl 0 none 0 (some 0)]/\Kc raw KC r/\BK false h r KC [] :=
 ⟨_,_,rfl,⟨_,_,_,_,none,some 0,none,some 0,none,some 0,none,some 0,rfl,λK=>rfl,λK=>rfl,λK=>rfl,λK=>rfl,rfl⟩,⟨none,some 0,none,some 0,none,some 0,none,some 0,[],[],[],[],rfl,rfl,Sli.nil,Sli.nil,Sli.nil,Sli.nil⟩⟩
theorem VP {a1 a2 a3 a4:Pq}{c1 c2 c3 c4:Nq}:Kc (w.cs a1 c1 a2 c2 a3 c3 a4 c4) w (w.cs a1 c1 a2 c2 a3 c3 a4 c4) :=
 ⟨_,_,_,_,_,_,_,_,_,_,_,_,rfl,λK=>Ah _ _ _ _ K,λK=>Ah _ _ _ _ K,λK=>Ah _ _ _ _ K,λK=>Ah _ _ _ _ K,rfl⟩
theorem Xa {cs:List V}{e:Event} (hp:BK false h cs w F) (hl:lo<=h.length) (hn:EP w) (hn':Df w=true->EP (UG w e)) (hes:e.text.size<=1048576) :
  ∃ raw r h' F',Af lo 28 [.agg cs,.agg e.cs] h=some (.tup [.agg raw,.bool (Df w&&(E9 w e).isSome)],h')/\Kc raw (NS w e) r/\BK false h' r (NS w e) F'/\Mv h [] h' F':=by
 obtain ⟨h1,e1,m1⟩:=W7 (lo:=lo) hp hl hn;have hp1:=m1.keep0 Lz hp;obtain ⟨a1,c1,a2,c2,a3,c3,a4,c4,F1,F2,F3,F4,rfl,rfl,r1,r2,r3,r4⟩:=hp1;suffices hq:∃ raw r h' F',_=some (V.tup [.agg raw,.bool (Df w&&(E9 w e).isSome)],h')/\Kc raw (NS w e) r/\BK false h' r (NS w e) F'/\Mv h [] h' F' from by obtain ⟨raw,r,h',F',e1,hr⟩:=hq;exact ⟨raw,r,h',F',Uj e1,hr⟩
 rw[e1,Ad,Ar];unfold NS;cases hw:Df w with
 | false =>obtain ⟨raw,r,rfl,z1,z2⟩:=Q1 (h:=h1);rw[Ay];exact ⟨_,r,h1,[],rfl,z1,z2,m1⟩
 | true =>
 have hg:Fits w:=⟨world_iff.1 hw⟩;obtain ⟨x1,y1,x2,y2,x3,y3,x4,y4,h2,G1,G2,G3,G4,e2,q1,q2,q3,q4,m2⟩:=Kp (lo:=lo) r1 r2 r3 r4 (zfE hl m1.le) hn;have lt2:=m2.lt (by simp);have W:WN lo (h2 ++ [.rows 4 60 false [w.cs x1 y1 x2 y2 x3 y3 x4 y4]]) h2.length w x1 y1 x2 y2 x3 y3 x4 y4 G1 G2 G3 G4:=by
  refine ⟨by simp,Mv.snoc.keep0 rplacesN_ok q1,Mv.snoc.keep0 rsesss_ok q2,Mv.snoc.keep0 rframes_ok q3,Mv.snoc.keep0 rdones_ok q4,?_,?_,?_⟩
  ·rw[zfN];exact ⟨λhm=>by have:=lt2 _ hm;omega,m2.nd⟩
  ·intro y hy;rcases zfL.1 hy with rfl | hy
   ·have:=m2.le;have:=m1.le;omega
   ·exact m2.ge (zfE hl m1.le) (by simp) y hy
  ·have:=m2.le;have:=m1.le;simp;omega
 have es:st lo (h2 ++ [.rows 4 60 false [[.sl 0 none 0 (some 0),.sl 0 none 0 (some 0),.sl 0 none 0 (some 0),.sl 0 none 0 (some 0)]]]) h2.length 0 0 (w.cs x1 y1 x2 y2 x3 y3 x4 y4)=some (h2 ++ [.rows 4 60 false [w.cs x1 y1 x2 y2 x3 y3 x4 y4]]):=by rw[B4 (lo:=lo) (r:=0) (row := [.sl 0 none 0 (some 0),.sl 0 none 0 (some 0),.sl 0 none 0 (some 0),.sl 0 none 0 (some 0)]) (row':=w.cs x1 y1 x2 y2 x3 y3 x4 y4) (by simp;exact ⟨rfl,rfl,rfl⟩) (by have:=m2.le;have:=m1.le;omega) rfl rfl];simp
 obtain ⟨h4,F4',e4,⟨u1,v1,u2,v2,u3,v3,u4,v4,J1,J2,J3,J4,rfl,W4⟩,M4⟩:=UC W hg hes;have W4:WN lo h4 h2.length (UG w e) u1 v1 u2 v2 u3 v3 u4 v4 J1 J2 J3 J4:=W4;obtain ⟨z1,t1,z2,t2,z3,t3,z4,t4,h5,K1,K2,K3,K4,e5,k1,k2,k3,k4,m5⟩:=Kp (lo:=lo) W4.r1.up W4.r2 W4.r3 W4.r4 W4.hl (hn' hw);have hld:ld h4 h2.length 0 0 4=some ((UG w e).cs u1 v1 u2 v2 u3 v3 u4 v4):=by rw[B7 W4.hb rfl];rfl
 have mm:Mv h [] h5 (K1++(K2++(K3++K4))):=by
  have m24:Mv h [] h4 []:=by
   have m12:=m1.trans m2.drop;have mS:Mv h [] (h2 ++ [.rows 4 60 false [w.cs x1 y1 x2 y2 x3 y3 x4 y4]]) []:=m12.trans Mv.snoc;refine mS.over M4 λy hy=>?_;rcases zfL.1 hy with rfl | hy
   ·have:=m2.le;have:=m1.le;omega
   ·have:=m2.new y hy;have:=m1.le;omega
  exact m24.trans m5
 simp only[World.cs,Event.cs] at e2 es e4 e5 hld;rw[Aq,e2,Ad,AN,Ab,Ah,Ab,Ah,Ab,Ah,Ab,Ah,Ag,es,Ae,e4,Ad,Ar];have fin:∀ b:Bool,b=(E9 w e).isSome->∃ raw r h' F',some (V.tup [.agg [.sl 6 z1 (UG w e).places.length t1,.sl 5 z2 (UG w e).sess.length t2,.sl 9 z3 (UG w e).net.length t3,.sl 5 z4 (UG w e).hist.length t4],.bool b],h5)=some (V.tup [.agg raw,.bool (true&&(E9 w e).isSome)],h')/\Kc raw (bif true then UG w e else KC) r/\BK false h' r (bif true then UG w e else KC) F'/\Mv h [] h' F':=λb hb=>by subst hb;exact ⟨_,_,h5,_,rfl,VP,⟨_,_,_,_,_,_,_,_,K1,K2,K3,K4,rfl,rfl,k1.up,k2,k3,k4⟩,mm⟩
 cases hs:(E9 w e).isSome with
 | true =>rw[hs] at fin;rw[Aq,hld,Ae,Ab,Ah,Ab,Ah,Ab,Ah,Ab,Ah,Ag,e5,Ad,AN,Ab,Ah,Ab,Ah,Ab,Ah,Ab,Ah,Ag];exact fin true rfl
 | false =>rw[hs] at fin;rw[Ay,hld,Ae,Ab,Ah,Ab,Ah,Ab,Ah,Ab,Ah,Ag,e5,Ad,AN,Ab,Ah,Ab,Ah,Ab,Ah,Ab,Ah,Ag];exact fin false rfl
end


section
variable {lo:Nat}{h:Heap}{F:List Nat}
theorem Wt {w:World}{cs:List V}{e:Event} (hp:BK false h cs w F) (hl:lo<=h.length) (hn:EP w) (hes:e.text.size<=1048576) :
  ∃ raw r h' F',Af lo 38 [.agg cs,.agg e.cs] h=some (.tup [.agg raw,.bool (Df w&&(E9 w e).isSome)],h')/\Kc raw (NS w e) r/\BK false h' r (NS w e) F'/\Mv h [] h' F':=by
 have e1:=Wn (lo:=lo) hp hn;obtain ⟨a1,c1,a2,c2,a3,c3,a4,c4,F1,F2,F3,F4,rfl,rfl,r1,r2,r3,r4⟩:=hp;suffices hq:∃ raw r h' F',_=some (V.tup [.agg raw,.bool (Df w&&(E9 w e).isSome)],h')/\Kc raw (NS w e) r/\BK false h' r (NS w e) F'/\Mv h [] h' F' from by obtain ⟨raw,r,h',F',e1,hr⟩:=hq;exact ⟨raw,r,h',F',TJ e1,hr⟩
 rw[e1,Ad,Ar];unfold NS;cases hw:Df w with
 | false =>obtain ⟨raw,r,rfl,z1,z2⟩:=Q1 (h:=h);rw[Ay];exact ⟨_,r,h,[],rfl,z1,z2,Mv.nil⟩
 | true =>
 have hg:Fits w:=⟨world_iff.1 hw⟩;obtain ⟨cs2,h2,G,e2,⟨s1,s2,s3,s4,G1,G2,G3,G4,rfl,rfl,q1,q2,q3,q4⟩,m2⟩:=Yg (lo:=lo) r1 r2 r3 r4 hn hl;obtain ⟨x1,y1,es1,q1⟩:=q1.form;obtain ⟨x2,y2,es2,q2⟩:=q2.form;obtain ⟨x3,y3,es3,q3⟩:=q3.form;obtain ⟨x4,y4,es4,q4⟩:=q4.form;have W:WR lo h2 w x1 y1 x2 y2 x3 y3 x4 y4 G1 G2 G3 G4:=⟨q1,q2,q3,q4,m2.nd,m2.ge hl (by simp),zfE hl m2.le⟩;obtain ⟨cs4,h4,F4',e4,⟨u1,v1,u2,v2,u3,v3,u4,v4,J1,J2,J3,J4,rfl,rfl,W4⟩,M4,_⟩:=zbA W hg hes;have mm:Mv h [] h4 (J1++(J2++(J3++J4))):=m2.trans M4;simp only[World.cs,Event.cs] at e2 e4;rw[Aq,e2,Ad,AN,Ab,es1,Ab,es2,Ab,es3,Ab,es4,Ag,e4,Ad,J5,Ab,AN,Ab,Ah,Ab,Ah,Ab,Ah,Ab,Ah,Ag,Ab,Ar];have fin:∀ b:Bool,b=(E9 w e).isSome->∃ raw r h' F',some (V.tup [.agg [.sl 6 u1 (UG w e).places.length v1,.sl 5 u2 (UG w e).sess.length v2,.sl 9 u3 (UG w e).net.length v3,.sl 5 u4 (UG w e).hist.length v4],.bool b],h4)=some (V.tup [.agg raw,.bool (true&&(E9 w e).isSome)],h')/\Kc raw (bif true then UG w e else KC) r/\BK false h' r (bif true then UG w e else KC) F'/\Mv h [] h' F':=λb hb=>by subst hb;exact ⟨_,_,h4,_,rfl,VP,⟨_,_,_,_,_,_,_,_,J1,J2,J3,J4,rfl,rfl,W4.r1,W4.r2,W4.r3,W4.r4⟩,mm⟩
 cases hs:(E9 w e).isSome with
 | true=>rw[hs] at fin;rw[Aq,Ag];exact fin true rfl
 | false=>rw[hs] at fin;rw[Ay,Ag];exact fin false rfl
end


variable {p:Place}
structure Snug (w:World):Prop where
 p:w.places.length<=3/\∀ p∈w.places,Tidy 10 20 100 p
 s:w.sess.length<=4/\∀ s∈w.sess,s.past.length<=4
 n:w.net.length<=13/\∀ f∈w.net,thin f.ver
 h:w.hist.length<=90
theorem Db {α:Type}{c:Bool}{x:Option α}{y:α} (h:(bif c then x else none)=some y):c=true/\x=some y:=by
 cases c
 ·cases h
 ·exact ⟨rfl,h⟩
section
variable {w w':World}
theorem Snug.setP (h:Snug w) {k:Nat}{q:Place} (hq:Tidy 10 20 100 q):Snug (Go.Proofs.YtmgopagfoemomaaGreat.setP w k q) :=
 ⟨⟨by show (w.places.set k q).length<=3;rw[zf6];exact h.p.1,λp hp=>(zgd hp).elim (h.p.2 p) λe=>e ▸ hq⟩,h.s,h.n,h.h⟩
theorem Snug.setS (h:Snug w) {i:Nat}{s:Sess}{ds:List Done} (hs:s.past.length<=4) (hd:w.hist.length+ds.length<=90):Snug (Go.Proofs.YtmgopagfoemomaaGreat.setS w i s ds) :=
 ⟨h.p,⟨by show (w.sess.set i s).length<=4;rw[zf6];exact h.s.1,λx hx=>(zgd hx).elim (h.s.2 x) λe=>e ▸ hs⟩,h.n,by show (w.hist++ds).length<=90;rw[zfR];exact hd⟩
theorem Snug.setN (h:Snug w) {l:List Frame} (hl:l.length<=13) (hf:∀ f∈l,thin f.ver):Snug (Go.Proofs.YtmgopagfoemomaaGreat.setN w l):=⟨h.p,h.s,⟨hl,hf⟩,h.h⟩
theorem Vw (h:Wd w) {k:Nat}:∀ v∈FC w.places k,thin v:=λv hv=>by
 unfold FC at hv;split at hv
 ·rename_i p hp
  exact (Bj (h.place _ p hp).2).log.2 v hv
 ·simp at hv
theorem Wd.snug (h:Wd w):Snug w:=by
 refine ⟨⟨Nat.le_of_eq h.p3,λp hp=>?_⟩,⟨h.s4,λs hs=>?_⟩,⟨zfE h.n12 (by decide),λf hf=>?_⟩,zfE h.h80 (by decide)⟩
 ·obtain ⟨i,hi⟩:=zgb.1 hp;exact ID (h.place i p hi).2
 ·have:=BP (CV (h.sess s hs)).2.1;omega
 ·exact Vw h _ (zfV (h.net f hf).2.2.2.2)
theorem ZH (h:AM p=true):Tidy 10 20 100 (NF p):=by
 have ht:=ID h;have h4:=(Bj h).len;have h0:=Dm h;unfold NF Kf;cases Hg p.chain with
 | false=>exact ht
 | true =>
  rw[cond_true];have e:=K9 (l:=p.chain) (by omega);refine ⟨by show (OO p.chain).length<=10;rw[e,zfR,zf0];omega,λx hx=>?_,ht.log,ht.got⟩;have hx:x∈OO p.chain:=hx;rw[e] at hx;rcases zfF.1 hx with hx | hx
  ·exact ht.node x hx
  ·rw[zgg] at hx;have:=ht.node _ (zfD (show p.chain.length - 1<p.chain.length by omega));subst hx;exact ⟨this.1,zgr _,this.2.2.1,by simp⟩
theorem zbv {q:Place}{e:Event} (h:AM p=true) (he:EI p e=some q):Tidy 10 20 100 q:=by
 have ht:=Bj h;unfold EI at he;cases h6:e.kind==(6:Int) with
 | true =>rw[h6,cond_true] at he;obtain ⟨hc,he⟩:=Db he;injection he with he;subst he;unfold HT;rw[hc];exact Jr (MN (PM (k:=e.num.toNat) ht)) (by decide) (by decide) (by decide)
 | false =>
 rw[h6,cond_false] at he;cases h7:e.kind==(7:Int) with
 | true =>rw[h7,cond_true] at he;obtain ⟨hc,he⟩:=Db he;injection he with he;subst he;unfold Fg;rw[hc];exact Jr (MN (PN (k:=e.num.toNat) ht)) (by decide) (by decide) (by decide)
 | false =>
 rw[h7,cond_false] at he;cases h8:e.kind==(8:Int) with
 | true =>rw[h8,cond_true] at he;obtain ⟨hc,he⟩:=Db he;injection he with he;subst he;exact ZH h
 | false =>
  rw[h8,cond_false] at he;obtain ⟨hc,he⟩:=Db he;injection he with he;subst he;unfold Ff;rw[hc,cond_true];unfold QJ;cases hv:Mq p e.num.toNat with
  | none=>exact ID h
  | some v =>obtain ⟨v1,_⟩:=zc0 h hv;exact Jr (MN (KU (k:=0) (t:=Jo v.tag.time p.clock) ht (Lt v1))) (by decide) (by decide) (by decide)
theorem ZG {k:Int}{s:ByteArray}{g:Bool}{l:List Tag} (h:AM p=true) (hc:BE p k s g l=true):Tidy 10 20 100 (FV p k s g l).1:=by rw[Vv h hc];exact Jr (MN (KU (k:=0) (t:=AX p l) (Bj h) (Mm h hc))) (by decide) (by decide) (by decide)
theorem VD (h:Snug w) {f:Frame} (hf:thin f.ver) (hl:∀ p∈w.places,Tidy 10 20 90 p):Snug (NG w f):=by
 unfold NG;split
 ·rename_i p hp
  refine h.setP ?_;unfold IZ;cases JB p f.fro f.at' f.ver with
  | false=>exact h.p.2 p (zfV hp)
  | true=>exact Jr (zbw (f:=f.fro.toNat) (hl p (zfV hp)) hf) (by decide) (by decide) (by decide)
 ·exact h
theorem zbE (h:Wd w) {e:Event} (he:E9 w e=some w'):Snug w':=by
 have hs:=h.snug;have h80:=h.h80;have hl:∀ p∈w.places,Tidy 10 20 90 p:=λp hp=>by obtain ⟨i,hi⟩:=zgb.1 hp;have:=Bj (h.place i p hi).2;exact ⟨zfE this.len (by decide),λx hx=>by obtain ⟨q1,q2,q3⟩:=this.node x hx;exact ⟨q1,by omega,q3⟩,⟨by have:=this.log.1;omega,this.log.2⟩,⟨this.got.1,λl hl=>⟨by have:=(this.got.2 l hl).1;omega,(this.got.2 l hl).2⟩⟩⟩
 unfold E9 at he;cases h15:Aj e.kind 1 5 with
 | true =>
  rw[h15,cond_true] at he;unfold Fq at he;obtain ⟨hin,he⟩:=Db he;split at he
  ·rename_i s hsx
   have hso:=h.sess s (zfV hsx);have hp4:=BP (CV hso).2.1;cases h1:e.kind==(1:Int) with
   | true =>
    rw[h1,cond_true] at he;unfold Fe at he;split at he
    ·rename_i p hp
     obtain ⟨hc,he⟩:=Db he;injection he with he;subst he;simp only[E1] at hc;exact (hs.setP (ZG (h.place _ p hp).2 hc.2.1)).setS (by show s.past.length<=4;omega) (by show w.hist.length+1<=90;omega)
    ·cases he
   | false =>
   rw[h1,cond_false] at he;cases h2:e.kind==(2:Int) with
   | true =>
    rw[h2,cond_true] at he;unfold KR at he;split at he
    ·split at he
     ·rename_i v u hv hu
      obtain ⟨hc,he⟩:=Db he;cases hl2:EQ v.tag s.wait with
      | true =>rw[hl2,cond_true] at he;obtain ⟨_,he⟩:=Db he;injection he with he;subst he;exact hs.setS (by show s.past.length<=4;omega) (by simp;omega)
      | false =>rw[hl2,cond_false] at he;obtain ⟨_,he⟩:=Db he;injection he with he;subst he;refine hs.setS ?_ (by simp;omega);have:=BP (Yc (k:=s.key.toNat) (CV hso).2.1 (CV hso).2.2.1);exact Nat.le_of_eq this
     ·cases he
    ·cases he
   | false =>
   rw[h2,cond_false] at he;cases h3:e.kind==(3:Int) with
   | true =>
    rw[h3,cond_true] at he;unfold HY at he;split at he
    ·rename_i p hp
     obtain ⟨hc,he⟩:=Db he;split at he
     ·rename_i v t hv ht
      cases hl2:EQ v.tag t with
      | true=>rw[hl2] at he;cases he
      | false =>rw[hl2,cond_false] at he;injection he with he;subst he;exact hs.setS (Nat.le_of_eq (BP (zcP (CV hso).2.1 (Ys (zaO (h.place _ p hp).2) hv)))) (by simp;omega)
     ·cases he
    ·cases he
   | false =>
   rw[h3,cond_false] at he;cases h4:e.kind==(4:Int) with
   | true =>
    rw[h4,cond_true] at he;unfold Ll at he;split at he
    ·rename_i p hp
     obtain ⟨hc,he⟩:=Db he;injection he with he;subst he;have h4':=BP (QM (zaO (h.place _ p hp).2));exact hs.setS (Nat.le_of_eq h4') (by unfold Cl;rw[zhb,zgM];omega)
    ·cases he
   | false =>rw[h4,cond_false] at he;unfold YH at he;obtain ⟨hc,he⟩:=Db he;injection he with he;subst he;exact hs.setS (by show s.past.length<=4;omega) (by simp;omega)
  ·cases he
 | false =>
 rw[h15,cond_false] at he;cases h69:Aj e.kind 6 9 with
 | true =>
  rw[h69,cond_true] at he;unfold IG at he;obtain ⟨hin,he⟩:=Db he;split at he
  ·rename_i p hp
   rw[Option.map_eq_some_iff] at he;obtain ⟨q,hq,rfl⟩:=he;exact hs.setP (zbv (h.place _ p hp).2 hq)
  ·cases he
 | false =>
 rw[h69,cond_false] at he;cases h10:e.kind==(10:Int) with
 | true =>
  rw[h10,cond_true] at he;unfold SB at he;obtain ⟨hc,he⟩:=Db he;split at he
  ·rename_i v hv
   injection he with he;subst he;simp only[E1,decide_eq_true_eq] at hc;refine hs.setN (by rw[zfR,zf0];have:=hc.2.2.2.1;omega) λf hf=>?_;rcases zfF.1 hf with hf | hf
   ·exact hs.n.2 f hf
   ·rw[zgg] at hf;subst hf;exact Vw h _ (zfV hv)
  ·cases he
 | false =>
 rw[h10,cond_false] at he;obtain ⟨_,he⟩:=Db he;unfold KM at he;obtain ⟨hin,he⟩:=Db he;split at he
 ·rename_i f hf
  injection he with he;subst he;have hft:=hs.n.2 f (zfV hf);have hs2:Snug (setN w (w.net.eraseIdx e.at'.toNat)):=hs.setN (zfE (zg7 _ _) hs.n.1) λx hx=>hs.n.2 x (zgB hx);cases e.kind==(12:Int) with
  | true=>exact hs2
  | false =>
   cases e.kind==(13:Int) with
   | true=>exact VD hs hft hl
   | false=>exact VD hs2 hft hl
 ·cases he
end


variable {w:World}
theorem zeQ {p:Place} (h:Tidy 10 20 100 p):Bx p<=1000000:=by
 have g1:=h.len;have g2:=h.log.1;have g3:=h.got.1;have e1:EW p.chain<=1352*p.chain.length:=Ib λx hx=>zcT (h.node x hx) (by decide);have e2:=MO h.log.2;have e3:NK p.got<=13000*p.got.length:=Ib λl hl=>by have:=MO (h.got.2 l hl).2;have:=(h.got.2 l hl).1;omega
 simp only[Bx,PL];omega
theorem Snug.sm (h:Snug w):EP w/\(1:Int)+FM w<=Gd:=by
 have hp:=h.p;have hs:=h.s;have hn:=h.n;have hh:=h.h;refine ⟨⟨⟨by omega,λp hp'=>(E3 (hp.2 p hp') (by decide) (by decide) (by decide)).1⟩,⟨by omega,λs hs'=>by have:=hs.2 s hs';omega⟩,⟨by omega,λf hf=>?_⟩,by omega⟩,?_⟩
 ·have:=hn.2 f hf;exact ⟨by have:=this.1;omega,by have:=this.2.1;omega⟩
 ·have e1:BD Bx w.places<=1000000*w.places.length:=Ib λp hp'=>zeQ (hp.2 p hp');have e2:BD EH w.sess<=100*w.sess.length:=Ib λs hs'=>by have:=hs.2 s hs';have:=OK (l:=s.past);unfold EH;omega
  have e3:BD De w.net<=100*w.net.length:=Ib λf hf=>by have:=zcz (hn.2 f hf);unfold De;omega
  have e4:BD Ge w.hist<=5*w.hist.length:=Ib λd _=>zfH _;simp only[FM,Gd];omega
theorem zd0 {e:Event} (hw:Df w=true):Snug (UG w e):=by
 have h:=world_iff.1 hw;unfold UG;cases hs:E9 w e with
 | none=>exact h.snug
 | some w'=>exact zbE h hs
theorem ZQ {e:Event}:EP (NS w e)/\(1:Int)+FM (NS w e)<=Gd:=by
 unfold NS;cases hw:Df w with
 | true=>exact (zd0 hw).sm
 | false=>rw[cond_false];exact ⟨⟨⟨by decide,by simp[KC]⟩,⟨by decide,by simp[KC]⟩,⟨by decide,by simp[KC]⟩,by decide⟩,by decide⟩


section
variable {lo:Nat}{h:Heap}{F:List Nat}{a:Pq}{c:Nq}{k:Int}
theorem S1 {l:List Done} (hs:RDones false h [.sl 5 a l.length c] (B6 LE Ge l k) F) (h0:0<=k) (hB:k+BD Ge l<=Gd) (hn:l.length<=1048576) :
  Af lo 96 [.sl 5 a l.length c,Iv k] h=some (Iv (k+BD Ge l),h):=by
 refine Qx (h':=h) ?_;refine (HL (w:=Ge) (l:=l) (k:=k) (λk i=>CH (List.length h) a l.length c k 0 (i:Nat) h) λi hi=>?_).trans ?_
 ·have hi':i<(B6 LE Ge l k).length:=by rw[Bw];exact hi
  obtain ⟨o,row,G,rfl,ho,⟨rfl,_⟩,_⟩:=hs.read hi';have hle:=KJ (w:=Ge) (l:=l) (i:=i+1);rw[Gn hi] at hle;rw[GE hi] at ho;generalize hk':k+(BD Ge (l.take i):Int)=k' at ho ⊢;simp only[Gd] at hB;have hw:Ge l[i]=5:=rfl;rw[hw] at hle ⊢;rw[CH.e,Ak (by omega),Ac hi,wr (n:=k'+1) (by omega) (by omega),wr (n:=k'+1+1) (by omega) (by omega),wr (n:=k'+1+1+1) (by omega) (by omega),wr (n:=k'+1+1+1+1) (by omega) (by omega),wr (n:=k'+1+1+1+1+1) (by omega) (by omega),Am (by omega)];simp only[Ae,AW,ho,Done.cs,LE,cut,Ab,Aa,Ag,FS,Aq,Ac hi];rw[show k'+1+1+1+1+1=k'+((5:Nat):Int) by omega]
 ·rw[CH.e,Ai (by omega)]
theorem SZ {l:List Sess} (hs:RSesss false h [.sl 5 a l.length c] (B6 NX EH l k) F) (h0:0<=k) (hB:k+BD EH l<=Gd) (hn:l.length<=1048576/\∀ s∈l,s.past.length<=1048576) :
  Af lo 94 [.sl 5 a l.length c,Iv k] h=some (Iv (k+BD EH l),h):=by
 have hn1:=hn.1;refine Qv (h':=h) ?_;refine (HL (w:=EH) (l:=l) (k:=k) (λk i=>CF (List.length h) a l.length c k 0 (i:Nat) h) λi hi=>?_).trans ?_
 ·have hi':i<(B6 NX EH l k).length:=by rw[Bw];exact hi
  obtain ⟨o,row,G,rfl,ho,hv,_⟩:=hs.read hi';have hle:=KJ (w:=EH) (l:=l) (i:=i+1);rw[Gn hi] at hle;rw[GE hi] at hv;have hpl:=hn.2 _ (zfD hi);generalize hk':k+(BD EH (l.take i):Int)=k' at hv ⊢;obtain ⟨v,a2,c2,rfl,es,hp⟩:=hv.form;simp only[NX,Bw] at es hp ho;simp only[Gd] at hB;have hw:EH l[i]=4+BD Dg l[i].past:=rfl;rw[hw] at hle ⊢;rw[CF.e,Ak (by omega),Ac hi];simp only[Ae,AW,ho,cut,Ab,Aa,Ag,es,FS,Aq,Ac hi];rw[wr (n:=k'+1) (by omega) (by omega)];rw[KL hp (by omega) (by simp only[Gd];omega) hpl];simp only[Ad,Aa];generalize hN:k'+1+(BD Dg l[i].past:Int)=N;rw[Ai (by omega),ho];simp only[Ae,cut,Ab,Aa,Ag,hN,FS,Aq];rw[wr (n:=N+1) (by omega) (by omega),ho];simp only[Ae,cut,Ab,Aa,Ag,hN,FS,Aq];rw[wr (n:=N+1+1) (by omega) (by omega),ho];simp only[Ae,cut,Ab,Aa,Ag,hN,FS,Aq];rw[wr (n:=N+1+1+1) (by omega) (by omega),Am (by omega)];rw[show N+1+1+1=k'+((4+BD Dg l[i].past:Nat):Int) by omega]
 ·rw[CF.e,Ai (by omega)]
theorem Rq {l:List Frame} (hs:RFrames false h [.sl 9 a l.length c] (B6 Kj De l k) F) (h0:0<=k) (hB:k+BD De l<=Gd) (hn:l.length<=1048576/\∀ f∈l,f.ver.past.length<=1048576/\f.ver.text.size<=1048576) :
  Af lo 95 [.sl 9 a l.length c,Iv k] h=some (Iv (k+BD De l),h):=by
 have hn1:=hn.1;refine Pm (h':=h) ?_;refine (HL (w:=De) (l:=l) (k:=k) (λk i=>BV (List.length h) a l.length c k 0 (i:Nat) h) λi hi=>?_).trans ?_
 ·have hi':i<(B6 Kj De l k).length:=by rw[Bw];exact hi
  obtain ⟨o,row,G,rfl,ho,hv,_⟩:=hs.read hi';have hle:=KJ (w:=De) (l:=l) (i:=i+1);rw[Gn hi] at hle;rw[GE hi] at hv;have hpl:=(hn.2 _ (zfD hi)).1;generalize hk':k+(BD De (l.take i):Int)=k' at hv ⊢;obtain ⟨vs,rfl,hv⟩:=hv;obtain ⟨s,a2,c2,rfl,es,hp⟩:=hv.form;simp only[Kj,Mn,Bw] at es hp ho;simp only[Gd] at hB;have hw:De l[i]=3+(5+BD Dg l[i].ver.past):=rfl;rw[hw] at hle ⊢;rw[BV.e,Ak (by omega),Ac hi];simp only[Ae,AW,ho,cut,Ab,Aa,Ag,es,FS,Aq,Ac hi];rw[wr (n:=k'+1) (by omega) (by omega),FS,Aq,wr (n:=k'+1+1) (by omega) (by omega),FS,Aq,wr (n:=k'+1+1+1) (by omega) (by omega),show k'+1+1+1=k'+3 by omega,FS,Aq,
   wr (n:=k'+3+1) (by omega) (by omega),FS,Aq,wr (n:=k'+3+1+1) (by omega) (by omega),show k'+3+1+1=k'+3+2 by omega,FS,Aq,wr (n:=k'+3+2+1) (by omega) (by omega),show k'+3+2+1=k'+3+3 by omega]
  rw[KL hp (by omega) (by simp only[Gd];omega) hpl];simp only[Ad,Aa];generalize hN:k'+3+3+(BD Dg l[i].ver.past:Int)=N at *
  rw[Ai (by omega),I4 (by omega) (by simp only[Gd];omega)];simp only[Ae,AW,ho,cut,Ab,Ag,Ad,A4,zfa,Aq,Ar];rw[wr (n:=N+1) (by omega) (by omega),wr (n:=N+1+1) (by omega) (by omega),Am (by omega)];rw[show k'+((3+(5+BD Dg l[i].ver.past):Nat):Int)=N+1+1 by omega];cases ((N+1).tmod 3==0)<;>simp only[Aq,Ay]
 ·rw[BV.e,Ai (by omega)]
theorem Rp {l:List Place} (hs:RPlaces false h [.sl 6 a l.length c] (B6 JR Bx l k) F) (h0:0<=k) (hB:k+BD Bx l<=Gd) (hn:l.length<=1048576/\∀ p∈l,Ef p) :
  Af lo 93 [.sl 6 a l.length c,Iv k] h=some (Iv (k+BD Bx l),h):=by
 have hn1:=hn.1;refine Pl (h':=h) ?_;refine (HL (w:=Bx) (l:=l) (k:=k) (λk i=>BU (List.length h) a l.length c k 0 (i:Nat) h) λi hi=>?_).trans ?_
 ·have hi':i<(B6 JR Bx l k).length:=by rw[Bw];exact hi
  obtain ⟨o,row,G,rfl,ho,hv,_⟩:=hs.read hi';have hle:=KJ (w:=Bx) (l:=l) (i:=i+1);rw[Gn hi] at hle;rw[GE hi] at hv;have hsm:=hn.2 _ (zfD hi);generalize hk':k+(BD Bx (l.take i):Int)=k' at hv ⊢;obtain ⟨s1,s2,s3,a1,c1,a2,c2,a3,c3,F1,F2,F3,rfl,rfl,e1,e2,e3,g1,g2,g3⟩:=hv.form;simp only[JR,Mo,CW,PV] at e1 e2 e3 g1 g2 g3 ho;simp only[Gd] at hB;have hw:Bx l[i]=3+(EW l[i].chain+CU l[i].log+NK l[i].got):=rfl;rw[hw] at hle ⊢;rw[BU.e,Ak (by omega),Ac hi];simp only[Ae,AW,ho,cut,Ab,Aa,Ag,e1,FS,Aq,Ac hi];rw[wr (n:=k'+1) (by omega) (by omega),FS,Aq,wr (n:=k'+1+1) (by omega) (by omega),show k'+1+1=k'+2 by omega];rw[S0 g1 (by omega) (by simp only[Gd];omega) hsm.1];simp only[Ad,Aa];rw[Ai (by omega),ho];simp only[Ae,cut,Ab,Ag,e2];rw[I5 g2 (by omega) (by simp only[Gd];omega) hsm.2.1];simp only[Ad,Aa];rw[Ai (by omega),ho];simp only[Ae,cut,Ab,Ag,e3];rw[SY g3 (by omega) (by simp only[Gd];omega) hsm.2.2];simp only[Ad,Aa];generalize hN:k'+2+(EW l[i].chain:Int)+(CU l[i].log:Int)+(NK l[i].got:Int)=N at *
  rw[Ai (by omega),ho];simp only[Ae,cut,Ab,Ag,Ar];rw[wr (n:=N+1) (by omega) (by omega),Am (by omega)];rw[show k'+((3+(EW l[i].chain+CU l[i].log+NK l[i].got):Nat):Int)=N+1 by omega];cases (N.tmod 3==0)<;>simp only[Aq,Ay]
 ·rw[BU.e,Ai (by omega)]
theorem Te {w:World}{cs:List V} (hs:BK false h cs (I2 w) F) (hB:(1:Int)+FM w<=Gd) (hn:EP w) :
  Af lo 35 [.agg cs,Iv 1] h=some (Iv (1+FM w),h):=by
 obtain ⟨a1,c1,a2,c2,a3,c3,a4,c4,F1,F2,F3,F4,rfl,rfl,r1,r2,r3,r4⟩:=hs;obtain ⟨b1,b2,b3,b4⟩:=hn;have hw:FM w=BD Bx w.places+BD EH w.sess+BD De w.net+BD Ge w.hist:=rfl;rw[hw] at hB ⊢;simp only[I2,Bw] at r1 r2 r3 r4;simp only[World.cs,I2,Bw];refine Qt (h':=h) ?_;rw[Rp r1 (by omega) (by omega) b1];simp only[Ad,Aa];rw[Ai (by omega),SZ r2 (by omega) (by omega) b2];simp only[Ad,Aa];rw[Ai (by omega),Rq r3 (by omega) (by omega) b3];simp only[Ad,Aa];rw[Ai (by omega),S1 r4 (by omega) (by omega) b4];simp only[Ad,Aa];rw[Ai (by omega),show (1:Int)+(BD Bx w.places:Int)+(BD EH w.sess:Int)+(BD De w.net:Int)+(BD Ge w.hist:Int)=1+((BD Bx w.places+BD EH w.sess+BD De w.net+BD Ge w.hist:Nat):Int) by omega]
end


variable {ro:Bool}{c1:List V}{p:Place}{l:List Tag}
theorem Xl {α β:Type}{Ra Rx:Rel α}{Rr:Rel β} (okA:Ra.Ok) (okX:Rx.Ok) (okR:Rr.Ok) {h:Heap}{a0:List V}{x:α}{y y':β}{F0:List Nat} (ha:Ra h a0 x F0) {TO1 TO TO' TO8:Heap->List V->Heap->Prop}{SP IM IM9:List V->Heap->List V->Heap->Prop}{MX MR:List V->Heap->Heap->Prop}
  (hto1:∀ hh F,h.length<=hh.length->Ra hh a0 x F->∃ cs h' F',TO1 hh cs h'/\Rx h' cs x F'/\Mv hh [] h' F')
  (hto:∀ hh F,h.length<=hh.length->Ra hh a0 x F->∃ cs h' F',TO hh cs h'/\Rx h' cs x F'/\Mv hh [] h' F')
  (hto':∀ hh F,h.length<=hh.length->Ra hh a0 x F->∃ cs h' F',TO' hh cs h'/\Rx h' cs x F'/\Mv hh [] h' F')
  (hto8:∀ hh F,h.length<=hh.length->Ra hh a0 x F->∃ cs h' F',TO8 hh cs h'/\Rx h' cs x F'/\Mv hh [] h' F')
  (hsp:∀ cs hh F,h.length<=hh.length->Rx hh cs x F->F.Nodup->(∀ b∈F,h.length<=b)->∃ r h' F',SP cs hh r h'/\Rr h' r y F'/\Mv hh [] h' F')
  (him:∀ cs hh F,h.length<=hh.length->Rx hh cs x F->F.Nodup->(∀ b∈F,h.length<=b)->∃ r h' F',IM cs hh r h'/\Rr h' r y F'/\Mv hh [] h' F')
  (him9:∀ cs hh F,h.length<=hh.length->Rx hh cs x F->F.Nodup->(∀ b∈F,h.length<=b)->∃ r h' F',IM9 cs hh r h'/\Rr h' r y F'/\Mv hh [] h' F')
  (hmx:∀ cs hh F,Rx hh cs x F->F.Nodup->(∀ b∈F,h.length<=b)->∃ h',MX cs hh h'/\Mv hh F h' F)
  (hmr:∀ cs hh F,Rr hh cs y F->F.Nodup->(∀ b∈F,h.length<=b)->∃ h',MR cs hh h'/\Rr h' cs y' F/\Mv hh F h' F) :
  ∃ c1 h1 w h2 c3 h3 g h4 c5 h5 h6 h7 c8 h8 g9 h9,TO1 h c1 h1/\SP c1 h1 w h2/\TO h2 c3 h3/\IM c3 h3 g h4/\TO' h4 c5 h5/\MX c3 h5 h6/\MR g h6 h7/\TO8 h7 c8 h8/\IM9 c8 h8 g9 h9 /\
   ((∃ F,Rx h1 c1 x F)/\(∃ F,Rx h3 c3 x F)/\(∃ F,Rx h8 c8 x F))/\((∃ F,Rr h2 w y F)/\(∃ F,Rr h4 g y F)/\(∃ F,Rr h4 w y F))/\((∀ hm,Mv h4 [] hm []->∃ F,Rx hm c3 x F)/\(∃ F,Rx h5 c3 x F)/\(∃ F,Rx h5 c5 x F))/\((∃ F,Rr h6 g y F)/\(∃ F,Rr h6 w y F)) /\
   (∃ F,Rr h7 g y' F)/\((∃ F,Rr h9 g9 y F)/\(∃ F,Rr h9 w y F))/\(∃ F,Rr h9 g y' F):=by
 obtain ⟨c1,h1,X1,t1,x1,m1⟩:=hto1 h F0 (zfH _) ha;have b1:=m1.inv;obtain ⟨w,h2,W,s2,w2,m2⟩:=hsp c1 h1 X1 m1.le x1 m1.nd (λb hb=>(b1 b hb).1);have b2:=m2.inv;have l1:=m1.le;have l2:=m2.le;have a2:=m2.keep0 okA (m1.keep0 okA ha);obtain ⟨c3,h3,X3,t3,x3,m3⟩:=hto h2 F0 (by omega) a2;have b3:=m3.inv;have l3:=m3.le;obtain ⟨g,h4,G,i4,g4,m4⟩:=him c3 h3 X3 (by omega) x3 m3.nd (λb hb=>by have:=b3 b hb;omega);have b4:=m4.inv;have l4:=m4.le;have w4:=m4.keep0 okR (m3.keep0 okR w2);have x4:=m4.keep0 okX x3;have a4:=m4.keep0 okA (m3.keep0 okA a2);obtain ⟨c5,h5,X5,t5,x5,m5⟩:=hto' h4 F0 (by omega) a4;have l5:=m5.le;have w5:=m5.keep0 okR w4;have g5:=m5.keep0 okR g4;have x35:=m5.keep0 okX x4;have a5:=m5.keep0 okA a4;have bA:=okA.bd _ _ _ _ ha;obtain ⟨h6,p6,m6⟩:=hmx c3 h5 X3 x35 m3.nd (λb hb=>by have:=b3 b hb;omega);have w6:=m6.keepB okR w5 (m:=h2.length) (λb hb=>(b2 b hb).2) (λb hb=>(b3 b hb).1);have g6:=m6.keepA okR g5 (m:=h3.length) (λb hb=>(b4 b hb).1) (λb hb=>(b3 b hb).2);have a6:=m6.keepB okA a5 (m:=h.length) bA (λb hb=>by have:=b3 b hb;omega);obtain ⟨h7,p7,g7,m7⟩:=hmr g h6 G g6 m4.nd (λb hb=>by have:=b4 b hb;omega);have w7:=m7.keepB okR w6 (m:=h2.length) (λb hb=>(b2 b hb).2) (λb hb=>by have:=b4 b hb;omega);have a7:=m7.keepB okA a6 (m:=h.length) bA (λb hb=>by have:=b4 b hb;omega);have l6:=m6.le;have l7:=m7.le;obtain ⟨c8,h8,X8,t8,x8,m8⟩:=hto8 h7 F0 (by omega) a7;have b8:=m8.inv;have l8:=m8.le;obtain ⟨g9,h9,G9,i9,r9,m9⟩:=him9 c8 h8 X8 (by omega) x8 m8.nd (λb hb=>by have:=b8 b hb;omega);exact ⟨c1,h1,w,h2,c3,h3,g,h4,c5,h5,h6,h7,c8,h8,g9,h9,t1,s2,t3,i4,t5,p6,p7,t8,i9,⟨⟨_,x1⟩,⟨_,x3⟩,⟨_,x8⟩⟩,⟨⟨_,w2⟩,⟨_,g4⟩,⟨_,w4⟩⟩,⟨λhm mm=>⟨_,mm.keep0 okX x4⟩,⟨_,x35⟩,⟨_,x5⟩⟩,⟨⟨_,g6⟩,⟨_,w6⟩⟩,⟨_,g7⟩,
  ⟨⟨_,r9⟩,⟨_,m9.keep0 okR (m8.keep0 okR w7)⟩⟩,⟨_,m9.keep0 okR (m8.keep0 okR g7)⟩⟩
def RPT (ro:Bool):Rel (Place×List Tag):=λh cs x F=>∃ c1 a c F1 F2,cs = [.agg c1,.sl 2 a x.2.length c]/\F=F1++F2/\Cz ro h c1 x.1 F1/\RTags ro h [.sl 2 a x.2.length c] x.2 F2
theorem RPT.parts {h:Heap}{a:Pq}{n:Nat}{c:Nq}{F:List Nat} (hs:RPT ro h [.agg c1,.sl 2 a n c] (p,l) F) :
  ∃ F1 F2,F=F1++F2/\n=l.length/\Cz ro h c1 p F1/\RTags ro h [.sl 2 a l.length c] l F2:=by
 obtain ⟨d1,b,d,F1,F2,e,e2,h1,h2⟩:=hs;injection e with e1 e;injection e1 with e1;injection e with e _;injection e with _ e3 e4 e5;subst e1;subst e3;subst e5;exact ⟨F1,F2,e2,e4,h1,h2⟩
theorem RPT.mk {h:Heap}{a:Pq}{c:Nq}{F1 F2:List Nat} (h1:Cz ro h c1 p F1) (h2:RTags ro h [.sl 2 a l.length c] l F2):RPT ro h [.agg c1,.sl 2 a l.length c] (p,l) (F1++F2):=⟨_,_,_,_,_,rfl,rfl,h1,h2⟩
section
variable {lo lo1 lo2:Nat}{h:Heap}{F:List Nat}
end


variable {n:Nat}{xs:List V}
section
variable {h:Heap}
theorem zbs (hx:TV Tryz.prog h (n+12) 82 xs):∃ l F,RPlaces true h xs l F/\l.length<=maxLen/\∀ x∈l,Nl x :=
 L8 (El:=RPlace true) (bd:=Nl) (ee:=Hr true) (R:=6) Tryz.underlying82 (by kernel_rfl) (λrow hr=>zct (n:=n) hr) hx
theorem zdS (hx:TV Tryz.prog h (n+5) 204 xs):∃ v F,RSess true h xs v F/\v.past.length<=maxLen:=by obtain ⟨y1,z1,rfl,_,g1,y2,z2,rfl,_,g2,y3,z3,rfl,_,g3,y4,z4,rfl,_,g4,rfl⟩:=EK Tryz.underlying204 hx;obtain ⟨i,rfl,_⟩:=Gf Tryz.underlying3 g1;obtain ⟨l,F,g2,g2'⟩:=zaK (n:=n) g2;obtain ⟨t,rfl⟩:=Wl g3;obtain ⟨k,rfl,_⟩:=Gf Tryz.underlying3 g4;obtain ⟨v,rfl⟩:=I1 g2;exact ⟨⟨i,l,t,k⟩,F,⟨v,rfl,g2⟩,g2'⟩
theorem zcs (hx:TV Tryz.prog h (n+6) 83 xs):∃ l F,RSesss true h xs l F/\l.length<=maxLen/\∀ x∈l,x.past.length<=maxLen :=
 L8 (El:=RSess true) (bd:=λs:Sess=>s.past.length<=maxLen) (ee:=FY true) (R:=5) Tryz.underlying83 (by kernel_rfl) (λrow hr=>zdS (n:=n) hr) hx
theorem zcv (hx:TV Tryz.prog h (n+6) 209 xs):∃ v F,LY true h xs v F/\NH v.ver:=by obtain ⟨y1,z1,rfl,_,g1,y2,z2,rfl,_,g2,y3,z3,rfl,_,g3,y4,z4,rfl,_,g4,rfl⟩:=EK Tryz.underlying209 hx;obtain ⟨i,rfl,_⟩:=Gf Tryz.underlying3 g1;obtain ⟨j,rfl,_⟩:=Gf Tryz.underlying3 g2;obtain ⟨k,rfl,_⟩:=Gf Tryz.underlying3 g3;obtain ⟨v,F,g4,g4'⟩:=zcq (n:=n) g4;exact ⟨⟨i,j,k,v⟩,F,⟨y4,by rw[zgc];rfl,g4⟩,g4'⟩
theorem zbt (hx:TV Tryz.prog h (n+7) 84 xs):∃ l F,RFrames true h xs l F/\l.length<=maxLen/\∀ x∈l,NH x.ver :=
 L8 (El:=LY true) (bd:=λf:Frame=>NH f.ver) (ee:=KP true) (R:=9) Tryz.underlying84 (by kernel_rfl) (λrow hr=>zcv (n:=n) hr) hx
theorem zdU (hx:TV Tryz.prog h (n+3) 218 xs):∃ d:Done,xs=d.cs:=by obtain ⟨y1,z1,rfl,_,g1,y2,z2,rfl,_,g2,y3,z3,rfl,_,g3,y4,z4,rfl,_,g4,rfl⟩:=EK Tryz.underlying218 hx;obtain ⟨i,rfl,_⟩:=Gf Tryz.underlying3 g1;obtain ⟨j,rfl,_⟩:=Gf Tryz.underlying3 g2;obtain ⟨k,rfl,_⟩:=Gf Tryz.underlying3 g3;obtain ⟨t,rfl⟩:=Wl g4;exact ⟨⟨i,j,k,t⟩,rfl⟩
theorem zcw (hx:TV Tryz.prog h (n+4) 85 xs):∃ l F,RDones true h xs l F/\l.length<=maxLen:=by obtain ⟨l,F,h1,h2,_⟩:=L8 (El:=flat Done.cs) (bd:=λ_=>True) (ee:=Zg true) (R:=5) Tryz.underlying85 (by kernel_rfl) (λrow hr=>by obtain ⟨t,rfl⟩:=zdU (n:=n) hr;exact ⟨t,[],⟨rfl,rfl⟩,trivial⟩) hx;exact ⟨l,F,h1,h2⟩
theorem zco (hx:TV Tryz.prog h (n+13) 87 xs):∃ w F,XI true h xs w F/\R7 w:=by obtain ⟨y1,z1,rfl,_,g1,y2,z2,rfl,_,g2,y3,z3,rfl,_,g3,y4,z4,rfl,_,g4,rfl⟩:=EK Tryz.underlying87 hx;obtain ⟨l1,F1,r1,b1⟩:=zbs (n:=n) g1;obtain ⟨l2,F2,r2,b2⟩:=zcs (n:=n+6) g2;obtain ⟨l3,F3,r3,b3⟩:=zbt (n:=n+5) g3;obtain ⟨l4,F4,r4,b4⟩:=zcw (n:=n+8) g4;obtain ⟨v1,rfl⟩:=I1 r1;obtain ⟨v2,rfl⟩:=I1 r2;obtain ⟨v3,rfl⟩:=I1 r3;obtain ⟨v4,rfl⟩:=I1 r4;exact ⟨⟨l1,l2,l3,l4⟩,F1++(F2++(F3++F4)),⟨v1,v2,v3,v4,F1,F2,F3,F4,rfl,rfl,r1,r2,r3,r4⟩,b1,b2,b3,b4⟩
theorem zdJ {x:V} (hx:ArgV Tryz.prog h (n+13) 87 x):∃ cs w F,x = .agg cs/\BK true h cs w F/\R7 w:=by obtain ⟨xs,rfl,hx2⟩:=zdI Tryz.underlying87 hx;obtain ⟨w,F,h1,h2⟩:=zco (n:=n) hx2;exact ⟨xs,w,F,rfl,Yw h1,h2⟩
end


section
variable {lo:Nat}{h:Heap}{F F':List Nat}
theorem zcE {e:Event} (hb:e.text.size<=maxLen) {left:Int} (h0:0<=left) (h1:left<=1048576):Af lo 37 [.agg e.cs,Iv left] h=some (Iv (E4 left e.text.size),h):=by
 refine T4 (h':=h) ?_;rw[KE h0 h1 hb];by_cases hh:E4 left e.text.size<0
 ·rw[if_pos hh];unfold E4 at hh ⊢;split<;>simp_all;omega
 ·rw[if_neg hh,GW h0 h1 hb hh]
theorem zcy {e:Event}:Af lo 40 [.agg e.cs] h=some (.agg e.cs,h):=TS rfl
set_option maxRecDepth 100000 in
theorem N0 {w:World}{cs:List V}{e:Event} (hs:BK true h cs w F) (hb:R7 w) (hbe:e.text.size<=maxLen) :
  ∃ h',Af h.length 8 [.agg cs,.agg e.cs] h=some (.bool true,h'):=by
 have hsz:=zcD (lo:=h.length) hs hb;obtain ⟨b1,d1,b2,d2,b3,d3,b4,d4,_,_,_,_,rfl,_⟩:=id hs;suffices hk:∃ h',_=some (V.bool true,h') from hk.imp λh' hh=>L5 hh;rw[hsz,Ad,Aa];by_cases hneg:E4 1048576 (Hd w)<0
 ·rw[Ak hneg];exact ⟨_,rfl⟩
 ·rw[Ai hneg];have hsm:=zby hneg;have hL:E4 1048576 (Hd w)=1048576 - (Hd w:Int):=by unfold E4;rw[if_pos (by omega)]
  have hL0:0<=E4 1048576 (Hd w):=by omega
  have e0:=zcE (lo:=h.length) (h:=h) (e:=e) (left:=E4 1048576 (Hd w)) hbe hL0 (HV (by decide));simp only[Event.cs] at e0;rw[e0,Ad,Aa];by_cases hneg2:E4 (E4 1048576 (Hd w)) e.text.size<0
  ·rw[Ak hneg2];exact ⟨_,rfl⟩
  ·rw[Ai hneg2];have hes:e.text.size<=1048576:=by rw[zdW (by omega)] at hneg2;omega
   have hn:=zcI hsm;have hw:(1:Int)+FM w<=Gd:=by have:=zbn (w:=w);simp only[Gd];omega
   obtain ⟨hq,hwq⟩:=ZQ (w:=w) (e:=e);have hn':Df w=true->EP (UG w e):=λhok=>by have:=hq;unfold NS at this;rw[hok] at this;exact this
   have hS:=λ(lo:Nat) (x:List V) (hh:Heap) (F:List Nat) (hl:lo<=hh.length) (hr:BK false hh x w F)=>Wt (lo:=lo) (e:=e) hr hl hn hes;have hI:=λ(lo:Nat) (x:List V) (hh:Heap) (F:List Nat) (hl:lo<=hh.length) (hr:BK false hh x w F)=>Xa (lo:=lo) (e:=e) hr hl hn hn' hes;generalize NS w e=q at hq hwq hS hI;generalize (Df w&&(E9 w e).isSome)=okb at hS hI;have TE:∀ (lo:Nat) (h:Heap),Af lo 40 [.agg e.cs] h=some (.agg e.cs,h):=λlo h=>zcy;obtain ⟨c1,h1,w1,h2,c3,h3,g,h4,c5,h5,h6,h7,c8,h8,g9,h9,t1,s2,t3,i4,t5,p6,p7,t8,i9,⟨⟨X1,x1⟩,⟨X3,x3⟩,⟨X8,x8⟩⟩,⟨⟨W2,w2⟩,⟨G4,g4⟩,⟨W4,w4⟩⟩,⟨_,⟨X35,x35⟩,⟨X5,x5⟩⟩,⟨⟨G6,g6⟩,⟨W6,w6⟩⟩,⟨G7,g7⟩,⟨⟨G9,r9⟩,⟨W9,w9⟩⟩,⟨G79,g79⟩⟩ :=
    Xl (Ra:=BK true) (Rx:=BK false) (Rr:=BK false) Lz Lz Lz (y:=q) (y':=I2 q) hs
     (TO1:=λhh r h'=>Af hh.length 39 [.agg (w.cs b1 d1 b2 d2 b3 d3 b4 d4)] hh=some (.agg r,h'))
     (TO:=λhh r h'=>Af h.length 39 [.agg (w.cs b1 d1 b2 d2 b3 d3 b4 d4)] hh=some (.agg r,h'))
     (TO':=λhh r h'=>Af h.length 39 [.agg (w.cs b1 d1 b2 d2 b3 d3 b4 d4)] hh=some (.agg r,h'))
     (TO8:=λhh r h'=>Af hh.length 39 [.agg (w.cs b1 d1 b2 d2 b3 d3 b4 d4)] hh=some (.agg r,h'))
     (SP:=λx hh r h'=>∃ raw,Af hh.length 38 [.agg x,.agg e.cs] hh=some (.tup [.agg raw,.bool okb],h')/\Kc raw q r)
     (IM:=λx hh r h'=>∃ raw,Af hh.length 28 [.agg x,.agg e.cs] hh=some (.tup [.agg raw,.bool okb],h')/\Kc raw q r)
     (IM9:=λx hh r h'=>∃ raw,Af hh.length 28 [.agg x,.agg e.cs] hh=some (.tup [.agg raw,.bool okb],h')/\Kc raw q r)
     (MX:=λx hh h'=>Af h.length 34 [.agg x,Iv 1] hh=some (Iv (1+FM w),h'))
     (MR:=λr hh h'=>Af h.length 34 [.agg r,Iv 1] hh=some (Iv (1+FM q),h'))
     (λhh F hl hr=>Ow hr (zfH _) hn)
     (λhh F hl hr=>Ow hr hl hn)
     (λhh F hl hr=>Ow hr hl hn)
     (λhh F hl hr=>Ow hr (zfH _) hn)
     (λx hh F hl hr _ _=>by obtain ⟨raw,r,h',F',e1,e2,e3,e4⟩:=hS hh.length x hh F (zfH _) hr;exact ⟨r,h',F',⟨raw,e1,e2⟩,e3,e4⟩)
     (λx hh F hl hr _ _=>by obtain ⟨raw,r,h',F',e1,e2,e3,e4⟩:=hI hh.length x hh F (zfH _) hr;exact ⟨r,h',F',⟨raw,e1,e2⟩,e3,e4⟩)
     (λx hh F hl hr _ _=>by obtain ⟨raw,r,h',F',e1,e2,e3,e4⟩:=hI hh.length x hh F (zfH _) hr;exact ⟨r,h',F',⟨raw,e1,e2⟩,e3,e4⟩)
     (λx hh F hr hnd hlo=>by obtain ⟨h',e,m⟩:=Z8 (lo:=h.length) hr hlo hnd hw hn;exact ⟨h',e,m⟩)
     (λr hh F hr hnd hlo=>by obtain ⟨h',e,rr,m⟩:=Q3 (lo:=h.length) hr hlo hnd hwq hq;exact ⟨h',e,rr,m⟩)
   have e35:=O3 (lo:=h.length) x35 x5 hn;have e4:=O3 (lo:=h.length) g4 w4 hq;have e6:=O3 (lo:=h.length) g6 w6 hq;have e9:=O3 (lo:=h.length) r9 w9 hq;have k7:=Te (lo:=h.length) g7 hwq hq;have k9:=Te (lo:=h.length) g79 hwq hq;obtain ⟨_,_,_,_,_,_,_,_,_,_,_,_,rfl,_⟩:=x1;obtain ⟨_,_,_,_,_,_,_,_,_,_,_,_,rfl,_⟩:=x3;obtain ⟨_,_,_,_,_,_,_,_,_,_,_,_,rfl,_⟩:=x5;obtain ⟨_,_,_,_,_,_,_,_,_,_,_,_,rfl,_⟩:=x8;obtain ⟨raw2,s2,_,_,_,_,_,_,_,_,_,_,_,_,rfl,su1,su2,su3,su4,rfl⟩:=s2;obtain ⟨raw4,i4,_,_,_,_,_,_,_,_,_,_,_,_,rfl,sv1,sv2,sv3,sv4,rfl⟩:=i4;obtain ⟨raw9,i9,_,_,_,_,_,_,_,_,_,_,_,_,rfl,sy1,sy2,sy3,sy4,rfl⟩:=i9;have z1:decide ((1:Int)+FM w<0)=false:=decide_eq_false (by omega);have z2:decide ((1:Int)+FM q<0)=false:=decide_eq_false (by omega);have bq:∀ {T:Type} (x:Int) (y z:Option T),br (x==x) y z=y:=λx y z=>by rw[FS,Aq]
   simp only[Event.cs] at TE s2 i4 i9;cases okb;all_goals
    rw[t1,Ad,AN,Ab,Ah,Ab,Ah,Ab,Ah,Ab,Ah,Ag,TE,Ad,AN,Ab,Aa,Ab,Aa,Ab,Aa,Ab,Aa,Ab,A4,Ab,AB,Ag,s2,Ad,J5,Ab,AN,Ab,su1,Ab,su2,Ab,su3,Ab,su4,Ag,Ab,Ar];first | rw[Aq] | rw[Ay]
    rw[Ag,t3,Ad,AN,Ab,Ah,Ab,Ah,Ab,Ah,Ab,Ah,Ag,TE,Ad,AN,Ab,Aa,Ab,Aa,Ab,Aa,Ab,Aa,Ab,A4,Ab,AB,Ag,i4,Ad,J5,Ab,AN,Ab,sv1,Ab,sv2,Ab,sv3,Ab,sv4,Ag,Ab,Ar];first | rw[Aq] | rw[Ay]
    rw[Ag,e4,Ad,Ar,Aq,t5,Ad,AN,Ab,Ah,Ab,Ah,Ab,Ah,Ab,Ah,Ag,e35,Ad,Ar,Aq,p6,Ad,Aa,z1,Ay,e6,Ad,Ar,Aq,p7,Ad,Aa,k7,Ad,Aa,z2,Ay,bq,t8,Ad,AN,Ab,Ah,Ab,Ah,Ab,Ah,Ab,Ah,Ag,TE,Ad,AN,Ab,Aa,Ab,Aa,Ab,Aa,Ab,Aa,Ab,A4,Ab,AB,Ag,i9,Ad,J5,Ab,AN,Ab,sy1,Ab,sy2,Ab,sy3,Ab,sy4,Ag,Ab,Ar];first | rw[Aq] | rw[Ay]
    rw[Ag,e9,Ad,Ar,Aq,k9,Ad,Aa,z2,Ay,bq];exact ⟨h9,rfl⟩
end
section
variable {h:Heap}
set_option maxRecDepth 100000 in
theorem zdK {n:Nat}{x:V} (hx:ArgV Tryz.prog h (n+3) 88 x):∃ e:Event,x = .agg e.cs/\e.text.size<=maxLen:=by obtain ⟨xs,rfl,hx2⟩:=zdI Tryz.underlying88 hx;obtain ⟨y1,z1,rfl,_,g1,y2,z2,rfl,_,g2,y3,z3,rfl,_,g3,y4,z4,rfl,_,g4,y5,z5,rfl,_,g5,y6,z6,rfl,_,g6,rfl⟩:=EK Tryz.underlying88 hx2;obtain ⟨i1,rfl,_⟩:=Gf Tryz.underlying3 g1;obtain ⟨i2,rfl,_⟩:=Gf Tryz.underlying3 g2;obtain ⟨i3,rfl,_⟩:=Gf Tryz.underlying3 g3;obtain ⟨i4,rfl,_⟩:=Gf Tryz.underlying3 g4;obtain ⟨s,rfl,hs⟩:=zcn Tryz.underlying9 g5;obtain ⟨b,rfl⟩:=Wk Tryz.underlying4 g6;exact ⟨⟨i1,i2,i3,i4,s,b⟩,rfl,hs⟩
end
set_option maxRecDepth 100000 in
theorem main_FnExactWorldDo {h:Heap}{x y0:V} (hx:ArgV Tryz.prog h 13 87 x) (hy0:ArgV Tryz.prog h 13 88 y0):∃ h',Af h.length 8 [x,y0] h=some (.bool true,h'):=by obtain ⟨cs,w,F,rfl,hp,hb⟩:=zdJ (n:=0) hx;obtain ⟨e,rfl,he⟩:=zdK (n:=10) hy0;exact N0 hp hb he
end Go.Proofs.YtmgopagfoemomaaGreat
