/- Part 5 of what is shown for the law Gmcf, whatever the input; no condition of its own. -/
import Derived.Test.YtmgopagfoemomaaGreatBGmcf4
set_option linter.unusedVariables false
set_option linter.unusedSimpArgs false
set_option linter.unnecessarySimpa false
set_option maxRecDepth 100000
namespace Go.Proofs.YtmgopagfoemomaaGreat
open Go T


theorem Tz {w:World}{q:Nat} (hq:q<w.places.length):setP w q w.places[q]=w:=by unfold setP;rw[zet]
section
variable {lo b:Nat}{h h':Heap}{w:World}{a1 a2 a3 a4 a:Pq}{c1 c2 c3 c4 c:Nq}{F1 F2 F3 F4:List Nat}
theorem Pg {e:Event}{k b2 i2:Nat} (H:WN lo h b w a1 c1 (some (b2,i2)) c2 a3 c3 a4 c4 F1 F2 F3 F4) (hg:Fits w) (hk:k<w.sess.length) (he:e.at'=(k:Int)) (hw0:w.sess[k].wait.time=0) (hes:e.text.size<=1048576) :
  ∃ h' F',Af lo 218 [.ptr (some (b,(0,0))),.ptr (some (b2,(i2+k,0))),.agg e.cs] h=some (.bool (D4 w k w.sess[k] e).isSome,h')/\IC lo h' b ((D4 w k w.sess[k] e).getD w) F'/\Mv h (b ::(F1++(F2++(F3++F4)))) h' F':=by
 suffices hq:∃ h' F',_=some (V.bool (D4 w k w.sess[k] e).isSome,h')/\IC lo h' b ((D4 w k w.sess[k] e).getD w) F'/\Mv h (b ::(F1++(F2++(F3++F4)))) h' F' from by obtain ⟨h',F',e1,hr⟩:=hq;exact ⟨h',F',Nl e1,hr⟩
 have hso:=hg.ok.sess _ (zc7 hk);obtain ⟨t1,t2,t3,t4,t5,t6⟩:=Bv hso;have hp4:=Bc t2;have h80:=hg.ok.h80;obtain ⟨q,hpl⟩:∃ q:Nat,w.sess[k].place=(q:Int):=⟨w.sess[k].place.toNat,by omega⟩;have hq:q<w.places.length:=by have:=hg.ok.p3;omega
 obtain ⟨hpo,hme,hro⟩:=hg.at hq;have hn:=(Ea (By hpo) (by decide) (by decide) (by decide)).1;have hX:D4 w k w.sess[k] e=bif (Bg w.places[q] e.key e.text e.gone w.sess[k].past&&CR w 1) then some (setS (setP w q (Ej w.places[q] e.key e.text e.gone w.sess[k].past).1) k ⟨w.sess[k].place,w.sess[k].past,(Ej w.places[q] e.key e.text e.gone w.sess[k].past).2,e.key⟩ [⟨k,1,e.key,(Ej w.places[q] e.key e.text e.gone w.sess[k].past).2⟩]) else none:=by unfold D4;rw[hpl,Bd,Dj hq,hw0];rfl
 generalize hXX:D4 w k w.sess[k] e=X at hX;obtain ⟨b2',i2',rs2,v,x,y,G,ha2',hil2,hb2,es,hp,hv,hnd2,hF2,_⟩:=H.sess hk;injection ha2' with ha2';injection ha2' with z1 z2;subst z1;subst z2;obtain ⟨b1,i1,rs,x1,y1,x2,y2,x3,y3,G1,G2,G3,rfl,hil,hb1,g1,g2,g3,nd,hF,put⟩:=H.place hq;have lp:∀ hh:Heap,hh[b2]?=h[b2]?->ld hh b2 (i2+k) (0+0) 1=some [Iv (q:Nat)]:=λhh e=>by rw[hb2] at e;rw[MR e hil2,<- hpl];rfl
 have lv:ld h b2 (i2+k) (0+1) 1=some [v]:=by rw[MR hb2 hil2];rfl
 rw[L8 H (by omega) ⟨by omega,by omega⟩,Ac,At];cases hr:CR w 1 with
 | false=>rw[Ax];exact H.stay Mv.nil (by rw[hX,hr,zee];rfl)
 | true =>
 rw[hr,zec] at hX;obtain ⟨a5,c5,h5,F5,e5,r5,m5⟩:=DL (lo:=lo) hp H.hl (by omega);have H5:=(H.up0 m5.drop).1;have h5b2:h5[b2]?=h[b2]?:=m5.fr b2 (hF2 b2 (by simp)).2.1 (by simp);have hblt:=(hF b1 (by simp)).2.1;have m5a:=m5.drop.aside (G:=b1 ::(G1++(G2++G3))) nd (λy hy=>(hF y hy).2.1);obtain ⟨h6,row6,F6,e6,r6,b6,m6⟩:=V5 (lo:=lo) (h:=h5) hil (k:=e.key) (s:=e.text) (g:=e.gone) (l:=w.sess[k].past) (by rw[m5.fr b1 hblt (by simp)];exact hb1) (m5.keep0 rnodes_ok g1) (m5.keep0 rvers_ok g2) (m5.keep0 rvss_ok g3) r5
  (λy hy hm=>by have:=m5.new y hy;have:=(hF y (by simp only[zdf,zc9] at hm ⊢;rcases hm with hm | hm;exact .inl hm;exact .inr (.inl hm))).2.1;omega) hpo hn ⟨by omega,hes⟩ nd (λy hy=>(hF y hy).1) (zc8 H.hl m5.le)
 obtain ⟨F1',H6,M6⟩:=put h6 row6 _ F6 b6 r6 (m5a.trans m6);rw[Ao,H.cell.1,Ad,Aa,Ah,Ag,lp h rfl,Ad,Aa,Ah,Ab,Ae hq,Ad,lv,Ad,Aa,es,Ah,Jo,CT,Jo,CT,e5,Ac,AR,Aa,Ag,Ah,H5.cell.1,lp h5 h5b2,Jo,CT,Jo,CT,Bd,e6,Ac,AR,Aa,Ab,Aa,Ab,Ah];cases hcw:Bg w.places[q] e.key e.text e.gone w.sess[k].past with
 | false =>
  rw[hcw] at hX;have hwr:Ej w.places[q] e.key e.text e.gone w.sess[k].past=(w.places[q],⟨0,0⟩):=by unfold Ej;rw[hpo,hcw];rfl
  rw[hwr] at H6 ⊢;rw[Tz hq] at H6;subst hX;exact ⟨h6,_,rfl,H6.at,M6⟩
 | true =>
 rw[hcw] at hX;have hz:(((Ej w.places[q] e.key e.text e.gone w.sess[k].past).2.time==(0:Int))&&(((Ej w.places[q] e.key e.text e.gone w.sess[k].past).2.place==(0:Int))&&true))=false:=by
  have hlt:E8 w.sess[k].past<AS w.places[q] w.sess[k].past/\w.places[q].clock<AS w.places[q] w.sess[k].past:=newer_lt_iff.1 (by unfold AS;omega);have hcl:=(AO hpo).2.1;have:((Ej w.places[q] e.key e.text e.gone w.sess[k].past).2.time==(0:Int))=false:=by rw[Tm hpo hcw,beq_eq_false_iff_ne];show AS w.places[q] w.sess[k].past≠0;omega
  rw[this];rfl
 generalize (Ej w.places[q] e.key e.text e.gone w.sess[k].past).1=P at hX H6 M6;generalize (Ej w.places[q] e.key e.text e.gone w.sess[k].past).2=T at hX hz ⊢;obtain ⟨b2',i2',rs6,v6,ha6,lob,hil6,hb6,put6⟩:=H6.sets (k:=k) hk;injection ha6 with ha6;injection ha6 with z1 z2;subst z1;subst z2;have hb6':h6[b2]?=some (.rows 5 (IX false) false (rs6.set (i2+k) [Iv w.sess[k].place,v6,Iv w.sess[k].wait.time,Iv w.sess[k].wait.place,Iv w.sess[k].key])):=hb6;have s1:=OZ (lo:=lo) (j:=0+2) (cs := [Iv T.time,Iv T.place]) (row' := [Iv w.sess[k].place,v6,Iv T.time,Iv T.place,Iv w.sess[k].key]) hb6' hil6 lob rfl;have s2:=OZ (lo:=lo) (h:=h6.set b2 (.rows 5 (IX false) false (rs6.set (i2+k) [Iv w.sess[k].place,v6,Iv T.time,Iv T.place,Iv w.sess[k].key]))) (b:=b2) (i:=i2+k) (rs:=rs6) (e:=IX false) (R:=5) (j:=0+4) (cs := [Iv e.key]) (row := [Iv w.sess[k].place,v6,Iv T.time,Iv T.place,Iv w.sess[k].key]) (row' := [Iv w.sess[k].place,v6,Iv T.time,Iv T.place,Iv e.key]) (by rw[zdl (EA hb6').1]) hil6 lob rfl;rw[zem] at s2;obtain ⟨F2',H7,M7⟩:=put6 ⟨w.sess[k].place,w.sess[k].past,T,e.key⟩ rfl;obtain ⟨a8,c8,h8,G8,e8,H8,M8⟩:=Pf (d:=⟨e.at',1,e.key,T⟩) H7 (by show w.hist.length<=1000;omega);rw[hz,Ax,s1,Ad,s2,Ad,e8,Ac,HA,Ah];subst hX;rw[he] at H8;exact ⟨h8,_,rfl,H8.at,M6.trans (M7.trans M8)⟩
end


section
variable {lo:Nat}{h h':Heap}{F F':List Nat}{a a':Pq}{c c':Nq}
theorem T2 {x y:Tag}:Af lo 297 [.agg [Iv x.time,Iv x.place],.agg [Iv y.time,Iv y.place]] h=some (.agg [Iv (E7 x y).time,Iv (E7 x y).place],h):=by
 refine Tk (h':=h) ?_;rw[Ey,Ac,At];unfold E7 DI;cases FM x.time x.place y.time y.place with
 | true=>rw[Ao];rfl
 | false=>rw[Ax];rfl
theorem LG {l:List Tag}{k:Nat}{t:Tag} (hs:RTags false h [.sl 2 a l.length c] l F) (hk:k<l.length) (hl:lo<=h.length) (hn:l.length<=1048576) :
  ∃ a' c' h' F',Af lo 276 [.agg [.sl 2 a l.length c],Iv (k:Nat),.agg [Iv t.time,Iv t.place]] h=some (.agg [.sl 2 a' (Ek l k t).length c'],h')/\RTags false h' [.sl 2 a' (Ek l k t).length c'] (Ek l k t) F'/\Mv h [] h' F':=by
 obtain ⟨a1,c1,h1,F1,e1,r1,m1⟩:=DL (lo:=lo) hs hl hn;obtain ⟨b,i,rs,row,G,ha,hbF,hbG,hb,hrow,⟨rfl,rfl⟩,hGF,hGn,_,put⟩:=r1.at (lo:=lo) DG hk m1.nd (λy hy=>m1.ge hl (by simp) y hy);have hld:ld h1 b (i+k) 0 2=some [Iv l[k].time,Iv l[k].place]:=by rw[BA hb hrow];rfl
 obtain ⟨h2,F2,e2,r2,m2,_⟩:=put h1 [] 0 (E7 l[k] t).cs (E7 l[k] t).cs (E7 l[k] t) Mv.nil rfl ⟨rfl,rfl⟩;subst ha;have hwl:(Ek l k t).length=l.length:=by rw[L0 hk];simp
 rw[hwl];refine ⟨some (b,i),c1,h2,F2,PH ?_,by rw[L0 hk];exact r2,m1.trans m2⟩;simp only[Tag.cs] at e2;rw[e1,Ac,AR,Aa,Ag,Ah,Ae hk,Ad,Bd,hld,Ad,Aa,Ab,Aa,Ab,Ah,T2,Ac,AR,Aa,Ab,Aa,Ab,Ah,Ae hk,Ad,e2,Ad]
theorem RN {p q:List Tag} (hs:RTags false h [.sl 2 a p.length c] p F) (hs':RTags false h [.sl 2 a' q.length c'] q F') (hp:p.length=4) (hq:q.length=4) (hl:lo<=h.length) :
  ∃ a5 c5 h' F5,Af lo 277 [.agg [.sl 2 a p.length c],.agg [.sl 2 a' q.length c']] h=some (.agg [.sl 2 a5 (Di p q).length c5],h')/\RTags false h' [.sl 2 a5 (Di p q).length c5] (Di p q) F5/\Mv h [] h' F5:=by
 obtain ⟨a1,c1,h1,F1,e1,r1,m1⟩:=DL (lo:=lo) hs hl (by omega);have hj:(Di p q).length=4:=by unfold Di;rw[zeI];omega
 have part:∀ i (hi:i<4),((Di p q).take i++p.drop i).length=4/\((Di p q).take i++p.drop i)[i]?=p[i]?/\((Di p q).take i++p.drop i).set i (E7 (p[i]'(by omega)) (q[i]'(by omega)))=(Di p q).take (i+1)++p.drop (i+1):=λi hi=>by
  have e:((Di p q).take i).length=i:=by rw[zdr];omega
  refine ⟨by rw[zdt,zeb,e];omega,?_,?_⟩
  ·rw[zdx (by omega),e,zeJ,zdz,zdP]
  ·rw[zes _ _ (by omega),e,zeJ,zdn (by omega:i<p.length),List.set_cons_zero,zeu (by omega:i<(Di p q).length),zdq];have:(Di p q)[i]'(by omega)=E7 (p[i]'(by omega)) (q[i]'(by omega)):=List.getElem_zipWith;rw[this];rfl
 have loop:∀ m i hh G,m+i=4->Mv h1 F1 hh G->RTags false hh [.sl 2 a1 4 c1] ((Di p q).take i++p.drop i) G->∃ h' F5,B4 lo a' q.length c' (q.length:Nat) (i:Nat) 0 none 0 (some 0) a1 p.length c1 hh=some (.agg [.sl 2 a1 (Di p q).length c1],h')/\RTags false h' [.sl 2 a1 4 c1] (Di p q) F5/\Mv h1 F1 h' F5:=by
  intro m;induction m with
  | zero =>
   intro i hh G hi mm r;obtain rfl:i=4:=by omega
   rw[zdV (by omega),zdS,zdC (by omega)] at r;refine ⟨hh,G,?_,r,mm⟩;rw[B4.e,Ak (by omega),hp,hj]
  | succ m ih =>
   intro i hh G hi mm r;obtain ⟨g1,g2,g3⟩:=part i (by omega);have hi4:i<((Di p q).take i++p.drop i).length:=by omega
   have hip:i<p.length:=by omega
   obtain ⟨o,rfl,ho⟩:=((m1.trans mm).drop.keep0 rtags_ok hs').get (show i<q.length by omega);obtain ⟨b,i1,rs,row,G1,ha,hbF,hbG,hb,hrow,⟨hrw,rfl⟩,hGF,hGn,_,put⟩:=r.at (lo:=lo) DG hi4 mm.nd (λy hy=>(m1.trans mm).ge hl (by simp) y hy);have hpi:((Di p q).take i++p.drop i)[i]'hi4=p[i]:=by have:=Dj hi4;rw[g2,Dj hip] at this;injection this with this;exact this.symm
   rw[hpi] at hrw;have hld:ld hh b (i1+i) 0 2=some [Iv p[i].time,Iv p[i].place]:=by rw[BA hb hrow,hrw];rfl
   obtain ⟨h2,F2,e2,r2,m2,_⟩:=put hh [] 0 (E7 p[i] (q[i]'(by omega))).cs (E7 p[i] (q[i]'(by omega))).cs (E7 p[i] (q[i]'(by omega))) Mv.nil (by rw[hrw];rfl) ⟨rfl,rfl⟩;rw[g3] at r2;subst ha;obtain ⟨h',F5,q1,q2,q3⟩:=ih (i+1) h2 F2 (by omega) (mm.trans m2) r2;refine ⟨h',F5,?_,q2,q3⟩;simp only[Tag.cs] at e2;rw[<- q1,B4.e,Al (by omega),Ae (by omega),Ad,Bd,ho,Ad,Aa,Ab,Aa,Ab,Ah,Ae hip,Ad,hld,Ad,Aa,Ab,Aa,Ab,Ah,T2,Ac,AR,Aa,Ab,Aa,Ab,Ah,Ae hip,Ad,e2,Ad,Ar (by omega)]
 obtain ⟨h',F5,q1,q2,q3⟩:=loop 4 0 h1 F1 rfl (Mv.refl m1.nd) (by rw[List.take_zero,zdE,zdX,<- hp];exact r1);refine ⟨a1,c1,h',F5,KG ?_,by rw[hj];exact q2,m1.trans q3⟩;rw[e1,Ac,AR,Aa,Ag,Ah];exact q1
end


section
variable {lo b:Nat}{h h':Heap}{w:World}{a1 a2 a3 a4 a:Pq}{c1 c2 c3 c4 c:Nq}{F1 F2 F3 F4:List Nat}{k b2 i2:Nat}
theorem WN.row (H:WN lo h b w a1 c1 (some (b2,i2)) c2 a3 c3 a4 c4 F1 F2 F3 F4) (hk:k<w.sess.length):∃ v x y G,ld h b2 (i2+k) (0+0) 1=some [Iv w.sess[k].place]/\ld h b2 (i2+k) (0+1) 1=some [v]/\ld h b2 (i2+k) (0+2) 2=some [Iv w.sess[k].wait.time,Iv w.sess[k].wait.place]/\ld h b2 (i2+k) (0+4) 1=some [Iv w.sess[k].key] /\
  (∀ {R':Type} (K:Pq->Nat->Nq->Option R'),eS 2 v K=K x w.sess[k].past.length y)/\RTags false h [.sl 2 x w.sess[k].past.length y] w.sess[k].past G:=by
 obtain ⟨b2',i2',rs,v,x,y,G,ha,hil,hb2,es,hp,_⟩:=H.sess hk;injection ha with ha;injection ha with z1 z2;subst z1;subst z2;exact ⟨v,x,y,G,by rw[MR hb2 hil];rfl,by rw[MR hb2 hil];rfl,by rw[MR hb2 hil];rfl,by rw[MR hb2 hil];rfl,es,hp⟩
theorem WN.waits (H:WN lo h b w a1 c1 (some (b2,i2)) c2 a3 c3 a4 c4 F1 F2 F3 F4) (hk:k<w.sess.length) (t:Tag) (key:Int):∃ h1 h2 F2',st lo h b2 (i2+k) (0+2) [Iv t.time,Iv t.place]=some h1/\st lo h1 b2 (i2+k) (0+4) [Iv key]=some h2 /\
  WN lo h2 b ⟨w.places,w.sess.set k ⟨w.sess[k].place,w.sess[k].past,t,key⟩,w.net,w.hist⟩ a1 c1 (some (b2,i2)) c2 a3 c3 a4 c4 F1 F2' F3 F4/\Mv h (b ::(F1++(F2++(F3++F4)))) h2 (b ::(F1++(F2'++(F3++F4)))):=by
 obtain ⟨b2',i2',rs,v,ha,lob,hil,hb,put⟩:=H.sets hk;injection ha with ha;injection ha with z1 z2;subst z1;subst z2;have s1:=OZ (lo:=lo) (j:=0+2) (cs := [Iv t.time,Iv t.place]) (row' := [Iv w.sess[k].place,v,Iv t.time,Iv t.place,Iv w.sess[k].key]) hb hil lob rfl;have s2:=OZ (lo:=lo) (h:=h.set b2 (.rows 5 (IX false) false (rs.set (i2+k) [Iv w.sess[k].place,v,Iv t.time,Iv t.place,Iv w.sess[k].key]))) (b:=b2) (i:=i2+k) (rs:=rs) (e:=IX false) (R:=5) (j:=0+4) (cs := [Iv key]) (row := [Iv w.sess[k].place,v,Iv t.time,Iv t.place,Iv w.sess[k].key]) (row' := [Iv w.sess[k].place,v,Iv t.time,Iv t.place,Iv key]) (by rw[zdl (EA hb).1]) hil lob rfl;rw[zem] at s2;obtain ⟨F2',H7,M7⟩:=put ⟨w.sess[k].place,w.sess[k].past,t,key⟩ rfl;exact ⟨_,_,F2',s1,s2,H7,M7⟩
theorem WN.pasts (H:WN lo h b w a1 c1 (some (b2,i2)) c2 a3 c3 a4 c4 F1 F2 F3 F4) (hk:k<w.sess.length) {l:List Tag}{G5:List Nat} (m:Mv h [] h' G5) (r:RTags false h' [.sl 2 a l.length c] l G5):∃ h1 F2',st lo h' b2 (i2+k) (0+1) [.sl 2 a l.length c]=some h1 /\
  WN lo h1 b ⟨w.places,w.sess.set k ⟨w.sess[k].place,l,w.sess[k].wait,w.sess[k].key⟩,w.net,w.hist⟩ a1 c1 (some (b2,i2)) c2 a3 c3 a4 c4 F1 F2' F3 F4/\Mv h (b ::(F1++(F2++(F3++F4)))) h1 (b ::(F1++(F2'++(F3++F4)))):=by
 obtain ⟨b2',i2',rs,v,ha,lob,hil,hb,put⟩:=H.setp hk m r;injection ha with ha;injection ha with z1 z2;subst z1;subst z2;have s1:=OZ (lo:=lo) (j:=0+1) (cs := [.sl 2 a l.length c]) (row' := [Iv w.sess[k].place,.sl 2 a l.length c,Iv w.sess[k].wait.time,Iv w.sess[k].wait.place,Iv w.sess[k].key]) hb hil lob rfl;obtain ⟨F2',H7,M7⟩:=put ⟨w.sess[k].place,l,w.sess[k].wait,w.sess[k].key⟩ rfl;exact ⟨_,F2',s1,H7,M7⟩
theorem RK {e:Event} (H:WN lo h b w a1 c1 (some (b2,i2)) c2 a3 c3 a4 c4 F1 F2 F3 F4) (hg:Fits w) (hk:k<w.sess.length) (he:e.at'=(k:Int)) (hw:0<w.sess[k].wait.time) :
  ∃ h' F',Af lo 219 [.ptr (some (b,(0,0))),.ptr (some (b2,(i2+k,0))),.agg e.cs] h=some (.bool (JF w k w.sess[k]).isSome,h')/\IC lo h' b ((JF w k w.sess[k]).getD w) F'/\Mv h (b ::(F1++(F2++(F3++F4)))) h' F':=by
 suffices hq:∃ h' F',_=some (V.bool (JF w k w.sess[k]).isSome,h')/\IC lo h' b ((JF w k w.sess[k]).getD w) F'/\Mv h (b ::(F1++(F2++(F3++F4)))) h' F' from by obtain ⟨h',F',e1,hr⟩:=hq;exact ⟨h',F',PD e1,hr⟩
 have hso:=hg.ok.sess _ (zc7 hk);obtain ⟨t1,t2,t3,t4,t5,t6⟩:=Bv hso;have hp4:=Bc t2;have h80:=hg.ok.h80;obtain ⟨q,hpl⟩:∃ q:Nat,w.sess[k].place=(q:Int):=⟨w.sess[k].place.toNat,by omega⟩;obtain ⟨m,hky⟩:∃ m:Nat,w.sess[k].key=(m:Int):=⟨w.sess[k].key.toNat,by omega⟩;have hq:q<w.places.length:=by have:=hg.ok.p3;omega
 obtain ⟨hpo,hme,hro⟩:=hg.at hq;have hn:=(Ea (By hpo) (by decide) (by decide) (by decide)).1;have hst:∀ x∈w.places[q].chain,Bb x.store=true:=λx hx=>(AW ((CM (AO hpo).2.2.2.1).2 x hx)).1
 have h0:=Dk hpo;have hhl:=N7 hpo;have hmh:m<(Ez w.places[q].chain).length:=by omega
 obtain ⟨v,x,y,G,lp,lv,lw,lk,es,hp⟩:=H.row hk;obtain ⟨b1,i1,rs,x1,y1,x2,y2,x3,y3,G1,G2,G3,rfl,hil,hb1,g1,g2,g3,nd,hF,put⟩:=H.place hq;have hld:ld h b1 (i1+q) (2+0) 1=some [.sl 2 x1 w.places[q].chain.length y1]:=by rw[C9 hil hb1];rfl
 obtain ⟨u,a5,c5,h5,e5,hsh,m5⟩:=Xy (lo:=lo) (k:=0) (key:=m) (b:=b1) (i:=i1+q) (j:=2) hld (λK=>Ag 2 _ _ _ K) g1 h0 hst (by omega) H.hl hn.1.1;obtain ⟨H5,M5⟩:=H.up0 m5;have hX:JF w k w.sess[k]=bif DI u.tag w.sess[k].wait then (bif DI ((Ez w.places[q].chain)[m]'hmh).tag w.sess[k].wait then some (setS w k ⟨w.sess[k].place,w.sess[k].past,⟨0,0⟩,0⟩ []) else none)
   else (bif CR w 1 then some (setS w k ⟨w.sess[k].place,Ek w.sess[k].past m w.sess[k].wait,⟨0,0⟩,0⟩ [⟨k,3,w.sess[k].key,w.sess[k].wait⟩]) else none):=by
  unfold JF;rw[hpl,Bd,Dj hq];simp only[hky,Bd,hsh,Dj hmh,decide_eq_true hw,cond_true]
 generalize hXX:JF w k w.sess[k]=X at hX;obtain ⟨v5,x5,y5,G5,lp5,lv5,lw5,lk5,es5,hp5⟩:=H5.row hk;have e5':Af lo 275 [.ptr (some (b1,(i1+q,2))),Iv 0,Iv (m:Nat)] h=some (.tup [.agg (Ver.cs u a5 c5),.bool true],h5):=e5;simp only[Ver.cs] at e5';have hz0:∀ s:Sess,setS w k s []=⟨w.places,w.sess.set k s,w.net,w.hist⟩:=λs=>by unfold setS;rw[zdS]
 rw[H.cell.1,Ad,Aa,Ah,Ag,lp,Ad,Aa,Ah,Ab,hpl,Ae hq,Ad,lk,Ad,Aa,Ah,Ab,Bd,hky,e5',Ac,HA,Aa,AR,Aa,Ab,Aa,Ab,Aa,Ab,Aa,Ag,Aa,BG,Aa,AL,Ah,Aa,At,Ao,Ah,lw5,Ad,Aa,Ab,Aa,Ab,Ah,Ey,Ac,At];cases hl:FM u.tag.time u.tag.place w.sess[k].wait.time w.sess[k].wait.place with
 | true =>
  rw[show DI u.tag w.sess[k].wait=true from hl,cond_true] at hX;have hb5:h5[b1]?=some (Cz rs (i1+q) (w.places[q].cs x1 y1 x2 y2 x3 y3)):=by rw[m5.fr b1 (hF b1 (by simp)).2.1 (by simp)];exact hb1
  have lc5:ld h5 b1 (i1+q) 2 1=some [.sl 2 x1 w.places[q].chain.length y1]:=by rw[C9 hil hb5];rfl
  obtain ⟨o,s1,s2,d1,f1,d2,f2,J1,J2,ha,_,ho1,_,es1,_,px,_⟩:=(m5.keep0 rnodes_ok g1).get h0;have hms:m<w.places[q].chain[0].store.length:=by rw[HN h0] at hmh;exact hmh
  obtain ⟨o3,_,_,_,_,ha3,_,_,_,_,_,_,ho12,_⟩:=px.all hms;have hub:(Ez w.places[q].chain)[m]'hmh=w.places[q].chain[0].store[m]:=by simp only[HN h0]
  rw[hub] at hX;rw[Ao,lc5,Ad,Aa,Ah,Ag,Cm ⟨by omega,by omega⟩,ha,Ad,ho1,Ad,Aa,Ah,es1,lk5,Ad,Aa,Ah,Ab,hky,Ae hms,ha3,Ad,Bd,ho12,Ad,Aa,Ab,Aa,Ab,Ah,lw5,Ad,Aa,Ab,Aa,Ab,Ah,Ey,Ac,At];cases hl2:FM w.places[q].chain[0].store[m].tag.time w.places[q].chain[0].store[m].tag.place w.sess[k].wait.time w.sess[k].wait.place with
  | true =>rw[show DI w.places[q].chain[0].store[m].tag w.sess[k].wait=true from hl2,cond_true,hz0] at hX;obtain ⟨h6,h7,F6,s6,s7,H7,M7⟩:=H5.waits hk ⟨0,0⟩ 0;rw[Ao,s6,Ad,s7,Ad];subst hX;exact ⟨h7,_,rfl,H7.at,M5.trans M7⟩
  | false =>rw[show DI w.places[q].chain[0].store[m].tag w.sess[k].wait=false from hl2,cond_false] at hX;rw[Ax];subst hX;exact ⟨h5,_,rfl,H5.at,M5⟩
 | false =>
  rw[show DI u.tag w.sess[k].wait=false from hl,cond_false] at hX;rw[Ax,L8 H5 (by omega) ⟨by omega,by omega⟩,Ac,At];cases hr:CR w 1 with
  | false =>rw[hr,cond_false] at hX;rw[Ax];subst hX;exact ⟨h5,_,rfl,H5.at,M5⟩
  | true =>
  rw[hr,cond_true] at hX;obtain ⟨a6,c6,h6,F6,e6,r6,m6⟩:=LG (lo:=lo) (k:=m) (t:=w.sess[k].wait) hp5 (by omega) H5.hl (by omega);obtain ⟨h7,F7,s7,H7,M7⟩:=H5.pasts hk m6 r6;have hk7:k<(w.sess.set k ⟨w.sess[k].place,Ek w.sess[k].past m w.sess[k].wait,w.sess[k].wait,w.sess[k].key⟩).length:=by simpa using hk
  have hse:(w.sess.set k ⟨w.sess[k].place,Ek w.sess[k].past m w.sess[k].wait,w.sess[k].wait,w.sess[k].key⟩)[k]'hk7=⟨w.sess[k].place,Ek w.sess[k].past m w.sess[k].wait,w.sess[k].wait,w.sess[k].key⟩:=zel hk7;obtain ⟨v7,x7,y7,G7,lp7,lv7,lw7,lk7,_,_⟩:=H7.row hk7;simp only[hse] at lw7 lk7;obtain ⟨a8,c8,h8,G8,e8,H8,M8⟩:=Pf (d:=⟨e.at',3,w.sess[k].key,w.sess[k].wait⟩) H7 (by show w.hist.length<=1000;omega);obtain ⟨h9,h10,F10,s9,s10,H10,M10⟩:=H8.waits hk7 ⟨0,0⟩ 0;have e8':Af lo 274 [.ptr (some (b,(0,0))),Iv e.at',Iv 3,Iv (m:Nat),.agg [Iv w.sess[k].wait.time,Iv w.sess[k].wait.place]] h7=some (.tup [],h8):=by rw[<- hky];exact e8
  rw[Ao,lv5,Ad,Aa,es5,Ah,lk5,Ad,Aa,Ah,Ab,hky,lw5,Ad,Aa,Ab,Aa,Ab,Ah,e6,Ac,AR,Aa,Ag,Ah,s7,Ad,lk7,Ad,Aa,Ah,Ab,hky,lw7,Ad,Aa,Ab,Aa,Ab,Ah,e8',Ac,HA,Ah,s9,Ad,s10,Ad];subst hX;refine ⟨h10,_,rfl,?_,M5.trans (M7.trans (M8.trans M10))⟩;have:=H10.at;simp only[hse,zem] at this;rw[he] at this;exact this
end


variable {l:List Node}{p:List Tag}
section
variable {lo:Nat}{h h':Heap}{F F':List Nat}{a a':Pq}{c c':Nq}
theorem V7 {k key b i j:Nat}{s0:V} (hld:ld h b i (j+0) 1=some [s0]) (es0:∀ {T:Type} (K:Pq->Nat->Nq->Option T),eS 2 s0 K=K a l.length c) (hs:RNodes false h [.sl 2 a l.length c] l F) (hk:k<l.length) (hst:∀ x∈l,Bb x.store=true) (hkey:key<4) (hl:lo<=h.length) (hn1:l.length<=1048576) :
  ∃ v a' c' h' G,Af lo 275 [.ptr (some (b,(i,j))),Iv (k:Nat),Iv (key:Nat)] h=some (.tup [.agg (Ver.cs v a' c'),.bool true],h')/\Gz l k key=some v/\RTags false h' [.sl 2 a' v.past.length c'] v.past G/\Mv h [] h' G:=by
 suffices hq:∃ v a' c' h' G,_=some (V.tup [.agg (Ver.cs v a' c'),.bool true],h')/\Gz l k key=some v/\RTags false h' [.sl 2 a' v.past.length c'] v.past G/\Mv h [] h' G from by obtain ⟨v,a',c',h',G,e,hr⟩:=hq;exact ⟨v,a',c',h',G,Gr e,hr⟩
 have hql:BE l k<l.length:=by unfold BE;split<;>omega
 obtain ⟨o,s1,s2,b1,d1,b2,d2,H1,H2,ha,_,ho1,_,q1,_,p1,_⟩:=hs.get hql;have hs4:=hst _ (zc7 hql);have hkl:key<l[BE l k].store.length:=by rw[Bi hs4];exact hkey
 obtain ⟨o2,t,b3,d3,G,ha2,ho2,es2,pv,_⟩:=p1.get hkl;obtain ⟨a5,c5,h5,F5,e5,r5,m5⟩:=BK (lo:=lo) (v:=l[BE l k].store[key]) pv hl ((HG hs4).2 _ (zc7 hkl)).1;have hsh:Gz l k key=some l[BE l k].store[key]:=by unfold Gz;rw[C6 hql,Dj hkl]
 generalize l[BE l k].store[key]=v at ho2 es2 pv e5 r5 hsh;generalize l[BE l k].store.length=n1 at q1 hkl ha2;refine ⟨v,a5,c5,h5,F5,?_,hsh,r5,m5⟩;simp only[Ver.cs] at e5;have hw1:Ai ((k:Nat):Int) 0 ((l.length:Int) - 1)=true:=by simp only[Ai,CP,decide_eq_true_eq];omega
 have hw2:Ai ((key:Nat):Int) 0 3=true:=by simp only[Ai,CP,decide_eq_true_eq];omega
 rw[hld,Ad,Aa,Ah,es0,wr (n:=((l.length:Nat):Int) - 1) (by omega) (by omega),A8,Ac,At,hw1,Ao,HM,Ac,At,hw2,Ao];by_cases hk0:k=0
 ·rw[show (((k:Nat):Int)==0)=true by rw[beq_iff_eq];omega,Ao,hld,Ad,Aa,Ah,es0,Ad,Aa,Ah,es0,wr (n:=((l.length:Nat):Int) - 1) (by omega) (by omega)];have hif:(if ((l.length:Nat):Int) - 1<1 then ((l.length:Nat):Int) - 1 else 1)=((BE l k:Nat):Int):=by
   unfold BE;by_cases h1:1<l.length
   ·rw[if_neg (by omega),if_pos ⟨hk0,h1⟩];rfl
   ·rw[if_pos (by omega),if_neg (by omega)];omega
  rw[hif,Ae hql,ha,Ad,Bd,ho1,Ad,Aa,Ah,q1,Ae hkl,ha2,Ad,Bd,ho2,Ad,Aa,Ab,Aa,Ab,Aa,Ab,Aa,es2,Aa,BG,Aa,AL,Ah,e5,Ac,AR,Aa,Ab,Aa,Ab,Aa,Ab,Aa,Ag,Aa,BG,Aa,AL,Ah]
 ·have hsa:BE l k=k:=by unfold BE;rw[if_neg (by omega)]
  rw[hsa] at ho1;rw[show (((k:Nat):Int)==0)=false by rw[beq_eq_false_iff_ne];omega,Ax,hld,Ad,Aa,Ah,es0,Ae hk,ha,Ad,Bd,ho1,Ad,Aa,Ah,q1,Ae hkl,ha2,Ad,Bd,ho2,Ad,Aa,Ab,Aa,Ab,Aa,Ab,Aa,es2,Aa,BG,Aa,AL,Ah,e5,Ac,AR,Aa,Ab,Aa,Ab,Aa,Ab,Aa,Ag,Aa,BG,Aa,AL,Ah]
theorem SJ {num key:Int}{b i j:Nat}{s0:V} (hld:ld h b i (j+0) 1=some [s0]) (es0:∀ {T:Type} (K:Pq->Nat->Nq->Option T),eS 2 s0 K=K a l.length c) (hn1:l.length<=1048576) (hno:(Ai key 0 3&&Ai num 0 ((l.length:Int) - 1))=false) :
  Af lo 275 [.ptr (some (b,(i,j))),Iv num,Iv key] h=some (.tup [.agg [Iv 0,Iv 0,Iv 0,.sl 0 none 0 (some 0),.str ⟨⟨[]⟩⟩,.bool false],.bool false],h):=by
 refine Gr ?_;rw[hld,Ad,Aa,Ah,es0,wr (n:=((l.length:Nat):Int) - 1) (by omega) (by omega),A8,Ac,At];cases hw:Ai num 0 ((l.length:Int) - 1) with
 | false=>rw[Ax]
 | true =>rw[hw,zec] at hno;rw[Ao,HM,Ac,At,hno,Ax]
theorem N5 {q:List Tag} (hs:RTags false h [.sl 2 a p.length c] p F) (hs':RTags false h [.sl 2 a' q.length c'] q F') (hp:p.length=4) (hq:q.length=0) (hl:lo<=h.length) :
  ∃ a5 c5 h' F5,Af lo 277 [.agg [.sl 2 a p.length c],.agg [.sl 2 a' q.length c']] h=some (.agg [.sl 2 a5 p.length c5],h')/\RTags false h' [.sl 2 a5 p.length c5] p F5/\Mv h [] h' F5:=by
 obtain ⟨a1,c1,h1,F1,e1,r1,m1⟩:=DL (lo:=lo) hs hl (by omega);refine ⟨a1,c1,h1,F1,KG ?_,r1,m1⟩;rw[e1,Ac,AR,Aa,Ag,Ah,B4.e,Ak (by omega)]
theorem Zc {x:Tag} (hx:B8 x.time x.place=true):E7 x ⟨0,0⟩=x:=by have:=Jl hx;unfold E7 DI FM;rw[show (decide (x.time<0) || (x.time==0&&decide (x.place<0)))=false by simp;omega];rfl
theorem WO {k:Nat} (hp:BJ p=true):Ek p k ⟨0,0⟩=p:=by
 unfold Ek;cases hx:p[k]? with
 | none=>rfl
 | some x =>obtain ⟨hi,rfl⟩:=EA hx;simp only;rw[Zc ((pastOk_iff.1 hp).2 _ (zc7 hi)),zet]
end
section
variable {lo b:Nat}{h h':Heap}{w:World}{a1 a2 a3 a4 a:Pq}{c1 c2 c3 c4 c:Nq}{F1 F2 F3 F4:List Nat}{k b2 i2:Nat}
theorem Ql {e:Event} (H:WN lo h b w a1 c1 (some (b2,i2)) c2 a3 c3 a4 c4 F1 F2 F3 F4) (hg:Fits w) (hk:k<w.sess.length) (he:e.at'=(k:Int)) (hw0:w.sess[k].wait.time=0) :
  ∃ h' F',Af lo 220 [.ptr (some (b,(0,0))),.ptr (some (b2,(i2+k,0))),.agg e.cs] h=some (.bool (Fv w k w.sess[k] e).isSome,h')/\IC lo h' b ((Fv w k w.sess[k] e).getD w) F'/\Mv h (b ::(F1++(F2++(F3++F4)))) h' F':=by
 suffices hq:∃ h' F',_=some (V.bool (Fv w k w.sess[k] e).isSome,h')/\IC lo h' b ((Fv w k w.sess[k] e).getD w) F'/\Mv h (b ::(F1++(F2++(F3++F4)))) h' F' from by obtain ⟨h',F',e1,hr⟩:=hq;exact ⟨h',F',Oz e1,hr⟩
 have hso:=hg.ok.sess _ (zc7 hk);obtain ⟨t1,t2,t3,t4,t5,t6⟩:=Bv hso;have hp4:=Bc t2;have h80:=hg.ok.h80;obtain ⟨q,hpl⟩:∃ q:Nat,w.sess[k].place=(q:Int):=⟨w.sess[k].place.toNat,by omega⟩;have hq:q<w.places.length:=by have:=hg.ok.p3;omega
 obtain ⟨hpo,hme,hro⟩:=hg.at hq;have hn:=(Ea (By hpo) (by decide) (by decide) (by decide)).1;have hst:∀ x∈w.places[q].chain,Bb x.store=true:=λx hx=>(AW ((CM (AO hpo).2.2.2.1).2 x hx)).1
 obtain ⟨v,x,y,G,lp,lv,lw,lk,es,hp⟩:=H.row hk;obtain ⟨b1,i1,rs,x1,y1,x2,y2,x3,y3,G1,G2,G3,rfl,hil,hb1,g1,g2,g3,nd,hF,put⟩:=H.place hq;have hld:ld h b1 (i1+q) (2+0) 1=some [.sl 2 x1 w.places[q].chain.length y1]:=by rw[C9 hil hb1];rfl
 have hX:Fv w k w.sess[k] e=bif (Ai e.key 0 3&&Ai e.num 0 ((w.places[q].chain.length:Int) - 1))&&CR w 1 then
   (match Gz w.places[q].chain e.num.toNat e.key.toNat,w.sess[k].past[e.key.toNat]? with
   | some v,some t=>bif DI v.tag t then none else some (setS w k ⟨w.sess[k].place,Lx w.sess[k] v e.key.toNat,w.sess[k].wait,w.sess[k].key⟩ [⟨k,2,e.key,v.tag⟩])
   | _,_=>none) else none:=by
  unfold Fv;rw[hpl,Bd,Dj hq,hw0,Bool.and_assoc];rfl
 generalize hXX:Fv w k w.sess[k] e=X at hX;rw[H.cell.1,Ad,Aa,Ah,Ag,lp,Ad,Aa,Ah,Ab,hpl,Ae hq,Ad,Bd];cases hin:(Ai e.key 0 3&&Ai e.num 0 ((w.places[q].chain.length:Int) - 1)) with
 | false =>rw[hin,zdY,cond_false] at hX;rw[SJ hld (λK=>Ag 2 _ _ _ K) hn.1.1 hin,Ac,HA,Aa,AR,Aa,Ab,Aa,Ab,Aa,Ab,Aa];have es0:∀ {R':Type} (K:Pq->Nat->Nq->Option R'),eS 2 (.sl 0 none 0 (some 0)) K=K none 0 (some 0):=λK=>rfl;rw[es0,Aa,BG,Aa,AL,Ah,Aa,At,Ax,Ah];exact H.stay Mv.nil hX
 | true =>
 rw[hin,zdk] at hX;simp only[Ai,CP,decide_eq_true_eq] at hin;obtain ⟨m,hkm⟩:∃ m:Nat,e.key=(m:Int):=⟨e.key.toNat,by omega⟩;obtain ⟨n,hnm⟩:∃ n:Nat,e.num=(n:Int):=⟨e.num.toNat,by omega⟩;have hmp:m<w.sess[k].past.length:=by omega
 obtain ⟨u,a5,c5,h5,G5,e5,hsh,r5,m5⟩:=V7 (lo:=h.length) (k:=n) (key:=m) (b:=b1) (i:=i1+q) (j:=2) hld (λK=>Ag 2 _ _ _ K) g1 (by omega) hst (by omega) (zdb _) hn.1.1;obtain ⟨H5,M5⟩:=H.up0 m5.drop;simp only[Ver.cs] at e5;rw[hkm,hnm,Bd,Bd,hsh,Dj hmp] at hX;simp only[] at hX;rw[hkm,hnm,e5,Ac,HA,Aa,AR,Aa,Ab,Aa,Ab,Aa,Ab,Aa,Ag,Aa,BG,Aa,AL,Ah,Aa,At,Ao,Ah,L8 H5 (by omega) ⟨by omega,by omega⟩,Ac,At];cases hr:CR w 1 with
 | false =>rw[hr,cond_false] at hX;rw[Ax];subst hX;exact ⟨h5,_,rfl,H5.at,M5⟩
 | true =>
 rw[hr,cond_true] at hX;obtain ⟨v5,x5,y5,G6,lp5,lv5,lw5,lk5,es5,hp5⟩:=H5.row hk;have lv5':ld h5 b2 (i2+k) (0+1+0) 1=some [v5]:=lv5;obtain ⟨o',ho',ho2⟩:=hp5.get hmp;rw[Ao,lv5',Ad,Aa,Ah,es5,Ae hmp,ho',Ad,Bd,ho2,Ad,Aa,Ab,Aa,Ab,Ah,Ey,Ac,At];cases hA:FM u.tag.time u.tag.place w.sess[k].past[m].time w.sess[k].past[m].place with
 | true =>rw[show DI u.tag w.sess[k].past[m]=true from hA,cond_true] at hX;rw[Ao];subst hX;exact ⟨h5,_,rfl,H5.at,M5⟩
 | false =>
 rw[show DI u.tag w.sess[k].past[m]=false from hA,cond_false] at hX;have hu:=Rj (Iy hpo) hsh;have joined:∃ J a6 c6 h6 F6,Af lo 277 [.agg [.sl 2 x5 w.sess[k].past.length y5],.agg [.sl 2 a5 u.past.length c5]] h5=some (.agg [.sl 2 a6 J.length c6],h6)/\RTags false h6 [.sl 2 a6 J.length c6] J F6/\Mv h5 [] h6 F6/\J.length=4/\Ek J m u.tag=Lx w.sess[k] u m:=by
  rcases Cp hu with g | g
  ·have ht:=DK g;have hl0:u.past.length=0:=by rw[Ny g];rfl
   obtain ⟨a6,c6,h6,F6,q1,q2,q3⟩:=N5 (lo:=lo) hp5 r5 hp4 hl0 H5.hl;refine ⟨w.sess[k].past,a6,c6,h6,F6,q1,q2,q3,hp4,?_⟩;unfold Lx;rw[decide_eq_false (by omega),cond_false,show u.tag=⟨0,0⟩ from by cases hq:u.tag;rw[hq] at ht;simp only at ht;rw[ht.1,ht.2],WO t2]
  ·have hv:=AZ g.1;have htm:0<u.tag.time:=(latest_lt.1 hv.2.2.2.2.2).1;obtain ⟨a6,c6,h6,F6,q1,q2,q3⟩:=RN (lo:=lo) hp5 r5 hp4 (Bc hv.2.2.2.1) H5.hl;refine ⟨_,a6,c6,h6,F6,q1,q2,q3,by unfold Di;rw[zeI,hp4,Bc hv.2.2.2.1];rfl,?_⟩;unfold Lx;rw[decide_eq_true htm,cond_true]
 obtain ⟨J,a6,c6,h6,F6,e6,r6,m6,hJ4,hJW⟩:=joined;obtain ⟨a7,c7,h7,F7,e7,r7,m7⟩:=LG (lo:=lo) (k:=m) (t:=u.tag) r6 (by omega) (zc8 H5.hl m6.le) (by omega);rw[hJW] at e7 r7;obtain ⟨h8,F8,s8,H8,M8⟩:=H5.pasts hk (m6.drop.trans m7) r7;obtain ⟨a9,c9,h9,G9,e9,H9,M9⟩:=Pf (d:=⟨e.at',2,(m:Nat),u.tag⟩) H8 (by show w.hist.length<=1000;omega);rw[Ax,lv5,Ad,Aa,es5,Ah,e6,Ac,AR,Aa,Ag,Ah,e7,Ac,AR,Aa,Ag,Ah,s8,Ad,e9,Ac,HA,Ah];subst hX;rw[he] at H9;exact ⟨h9,_,rfl,H9.at,M5.trans (M8.trans M9)⟩
end


theorem Z0 {lo:Nat}{h h2:Heap}{b i j:Nat}{cs:List V} (e:st lo h b i j cs=some h2):∀ y,y≠b->h2[y]?=h[y]?:=λy hy=>by
 unfold st at e;split at e
 ·split at e
  ·obtain ⟨row,_,e⟩:=zeh.1 e;obtain ⟨row',_,e⟩:=zeh.1 e;injection e with e;rw[<- e,zdd (Ne.symm hy)]
  ·cases e
 ·cases e
section
variable {lo b:Nat}{h h':Heap}{w:World}{a1 a2 a3 a4 a:Pq}{c1 c2 c3 c4 c:Nq}{F1 F2 F3 F4:List Nat}{k b2 i2:Nat}
theorem XB {d:Done} (H:WN lo h b w a1 c1 a2 c2 a3 c3 a4 c4 F1 F2 F3 F4) (h80:w.hist.length<=1000) :
  ∃ a5 c5 h' G,Af lo 274 [.ptr (some (b,(0,0))),Iv d.sess,Iv d.kind,Iv d.key,.agg [Iv d.tag.time,Iv d.tag.place]] h=some (.tup [],h') /\
   WN lo h' b ⟨w.places,w.sess,w.net,w.hist ++ [d]⟩ a1 c1 a2 c2 a3 c3 a5 c5 F1 F2 F3 G/\Mv h (b ::(F1++(F2++(F3++F4)))) h' (b ::(F1++(F2++(F3++G))))/\(∀ y,y<h.length->y≠b->y∉F4->h'[y]?=h[y]?)/\∀ y∈G,y∈F4\/h.length<=y:=by
 obtain ⟨⟨n1,n2,n3,n4⟩,_⟩:=Qg H.ne.2;obtain ⟨a6,c6,h6,F6,e6,r6,m6⟩:=Dv (lo:=lo) (bytes:=40) (e:=126) (El:=flat Done.cs) DG H.r4 (row:=d.cs) (x:=d) (G := []) (h1:=h ++ [.rows 5 126 false [d.cs]])
  ⟨rfl,rfl⟩ Mv.snoc n4 (λy hy=>H.ge y (by simp[hy])) H.hl (by decide) (by omega)
 have hnl:(w.hist ++ [d]).length=w.hist.length+1:=by simp
 rw[<- hnl] at r6 e6;obtain ⟨h2,es,W,M⟩:=H.up4 m6 r6;refine ⟨a6,c6,h2,F6,J7 ?_,W,M,λy hy hb hF=>(Z0 es y hb).trans (m6.fr y hy hF),λy hy=>(m6.sub y hy).imp id λq=>q.1⟩;simp only[Done.cs] at e6;rw[H.cell.2.2.2,Ad,Aa,Ah,Ag,A7,e6,Ag,es,Ad]
theorem Us {i:Nat}{l:List Tag}{j:Nat} (hj:j<l.length):BY i (l.take (j+1))=BY i (l.take j) ++ [⟨i,2,(j:Int),l[j]⟩]:=by unfold BY;rw[zeu hj,List.zipIdx_append,List.map_append];congr 1;simp[zdr,zeT (zdZ hj)]
theorem RL {e:Event} (H:WN lo h b w a1 c1 (some (b2,i2)) c2 a3 c3 a4 c4 F1 F2 F3 F4) (hg:Fits w) (hk:k<w.sess.length) (he:e.at'=(k:Int)) (hw0:w.sess[k].wait.time=0) :
  ∃ h' F',Af lo 221 [.ptr (some (b,(0,0))),.ptr (some (b2,(i2+k,0))),.agg e.cs] h=some (.bool (JL w k w.sess[k]).isSome,h')/\IC lo h' b ((JL w k w.sess[k]).getD w) F'/\Mv h (b ::(F1++(F2++(F3++F4)))) h' F':=by
 suffices hq:∃ h' F',_=some (V.bool (JL w k w.sess[k]).isSome,h')/\IC lo h' b ((JL w k w.sess[k]).getD w) F'/\Mv h (b ::(F1++(F2++(F3++F4)))) h' F' from by obtain ⟨h',F',e1,hr⟩:=hq;exact ⟨h',F',PE e1,hr⟩
 have hso:=hg.ok.sess _ (zc7 hk);obtain ⟨t1,t2,t3,t4,t5,t6⟩:=Bv hso;have hp4:=Bc t2;have h80:=hg.ok.h80;obtain ⟨q,hpl⟩:∃ q:Nat,w.sess[k].place=(q:Int):=⟨w.sess[k].place.toNat,by omega⟩;have hq:q<w.places.length:=by have:=hg.ok.p3;omega
 obtain ⟨hpo,hme,hro⟩:=hg.at hq;have hn:=(Ea (By hpo) (by decide) (by decide) (by decide)).1;have h0:=Dk hpo;have hst4:=Lt (Iy hpo);have hs4:=Bc hst4;obtain ⟨v,x,y,G,lp,lv,lw,lk,es,hp⟩:=H.row hk;obtain ⟨b1,i1,rs,x1,y1,x2,y2,x3,y3,G1,G2,G3,rfl,hil,hb1,g1,g2,g3,nd,hF,put⟩:=H.place hq;have hld:ld h b1 (i1+q) 2 1=some [.sl 2 x1 w.places[q].chain.length y1]:=by rw[C9 hil hb1];rfl
 obtain ⟨bt,dt,Ht,et,rt,_⟩:=HL (lo:=h.length) hld g1 h0 hn.1.1;have hslen:(w.places[q].chain[w.places[q].chain.length - 1]'(by omega)).store.length=4:=((By hpo).node _ (zc7 _)).1;obtain ⟨vt,h5,F5,e5,r5,m5⟩:=Jh (lo:=h.length) rt (zdb _) hslen;obtain ⟨a6,c6,es6,r6⟩:=r5.form;rw[<- GT h0] at es6 r6;obtain ⟨H5,M5⟩:=H.up0 m5.drop;have hX:JL w k w.sess[k]=bif (BP w.sess[k].past (A3 w.places[q].chain)&&CR w 4) then some (setS w k ⟨w.sess[k].place,A3 w.places[q].chain,w.sess[k].wait,w.sess[k].key⟩ (BY k (A3 w.places[q].chain))) else none:=by unfold JL;rw[hpl,Bd,Dj hq,hw0];rfl
 generalize hXX:JL w k w.sess[k]=X at hX;generalize A3 w.places[q].chain=S at *
 obtain ⟨v5,x5,y5,G6,lp5,lv5,lw5,lk5,es5,hp5⟩:=H5.row hk;rw[H.cell.1,Ad,Aa,Ah,Ag,lp,Ad,Aa,Ah,Ab,hpl,Ae hq,Ad,Bd,et,Ac,AR,Aa,Ag,Ah,e5,Ac,AR,Aa,es6,Ah,L8 H5 (by omega) ⟨by omega,by omega⟩,Ac,At];cases hr:CR w 4 with
 | false =>rw[hr,zee,cond_false] at hX;rw[Ax];subst hX;exact ⟨h5,_,rfl,H5.at,M5⟩
 | true =>
 rw[hr,zec] at hX;have hr4:w.hist.length+4<=80:=by unfold CR at hr;simp only[decide_eq_true_eq] at hr;omega
 rw[Ao,lv5,Ad,Aa,es5,Ah,HK hp5 r6 (by omega) (by omega),Ac,At];cases hu:BP w.sess[k].past S with
 | false =>rw[hu,cond_false] at hX;rw[Ax];subst hX;exact ⟨h5,_,rfl,H5.at,M5⟩
 | true =>
 rw[hu,cond_true] at hX;obtain ⟨h7,F7,s7,H7,M7⟩:=H.pasts hk m5 r6;have hF5:∀ y∈F5,h.length<=y/\y<h5.length:=λy hy=>by refine ⟨m5.new y hy,rtags_ok.bd _ _ _ _ r6 y hy⟩
 have hb2:b2<h.length:=by obtain ⟨b2',i2',_,_,_,_,_,ha,_,_,_,_,_,_,hF2,_⟩:=H.sess hk;injection ha with ha;injection ha with z1 z2;subst z1;exact (hF2 b2 (by simp)).2.1
 have r7:RTags false h7 [.sl 2 a6 S.length c6] S F5:=rtags_ok.fr _ _ _ _ _ r6 λy hy=>Z0 s7 y (by have:=hF5 y hy;omega);have h57:h5.length<=h7.length:=by
  have:=rtags_ok.bd _ _ _ _ r7;have e:=s7;unfold st at e;split at e
  ·split at e
   ·obtain ⟨row,_,e⟩:=zeh.1 e;obtain ⟨row',_,e⟩:=zeh.1 e;injection e with e;rw[<- e];simp
   ·cases e
  ·cases e
 have loop:∀ m j hh a4' c4' F4',m+j=4->WN lo hh b ⟨w.places,w.sess.set k ⟨w.sess[k].place,S,w.sess[k].wait,w.sess[k].key⟩,w.net,w.hist++BY k (S.take j)⟩ (some (b1,i1)) c1 (some (b2,i2)) c2 a3 c3 a4' c4' F1 F7 F3 F4' ->
   RTags false hh [.sl 2 a6 S.length c6] S F5->(∀ y∈F5,y<hh.length/\y∉F4')->∃ h' F',Cr lo b 0 0 a6 S.length c6 (S.length:Nat) (j:Nat) e.kind e.at' e.num e.key e.text e.gone hh=some (.bool true,h') /\
    IC lo h' b ⟨w.places,w.sess.set k ⟨w.sess[k].place,S,w.sess[k].wait,w.sess[k].key⟩,w.net,w.hist++BY k S⟩ F'/\Mv hh (b ::(F1++(F7++(F3++F4')))) h' F':=by
  intro m;induction m with
  | zero =>intro j hh a4' c4' F4' hj W r hy;rw[zdC (by omega)] at W;rw[Cr.e,Ak (by omega)];exact ⟨hh,_,rfl,W.at,Mv.refl W.nd⟩
  | succ m ih =>
   intro j hh a4' c4' F4' hj W r hy;have hjS:j<S.length:=by omega
   obtain ⟨o,ho,ho2⟩:=r.get hjS;have hlen:(BY k (S.take j)).length=j:=by unfold BY;rw[zer,zeM,zdr];omega
   obtain ⟨a8,c8,h8,G8,e8,H8,M8,fr8,sub8⟩:=XB (d:=⟨e.at',2,(j:Nat),S[j]⟩) W (by show (w.hist++BY k (S.take j)).length<=1000;rw[zdt,hlen];omega);have hb:∀ y∈F5,y≠b:=λy hy2 e=>by have:=hF5 y hy2;have:=H.blt;omega
   have W8:=H8;simp only[zdq] at W8;rw[he,<- Us hjS] at W8;obtain ⟨h',F',q1,q2,q3⟩:=ih (j+1) h8 a8 c8 G8 (by omega) W8 (rtags_ok.fr _ _ _ _ _ r λy hy2=>fr8 y (hy y hy2).1 (hb y hy2) (hy y hy2).2) (λy hy2=>⟨zdj (hy y hy2).1 M8.le,λhm=>by
    rcases sub8 y hm with g | g
    ·exact (hy y hy2).2 g
    ·have:=(hy y hy2).1;omega⟩)
   refine ⟨h',F',?_,q2,M8.trans q3⟩;rw[<- q1,Cr.e,Al (by omega),Ae hjS,ho,Ad,Bd,ho2,Ad,Aa,Ab,Aa,Ab,Ah,e8,Ac,HA,Ah,Ar (by omega)]
 obtain ⟨h',F',q1,q2,q3⟩:=loop 4 0 h7 a4 c4 F4 rfl (by
  have:BY k (S.take 0) = []:=by rw[List.take_zero];rfl
  rw[this,zdS];exact H7) r7 (λy hy=>⟨zdj (hF5 y hy).2 h57,λhm=>by have:=H.lt.2.2.2 y hm;have:=hF5 y hy;omega⟩)
 rw[Ao,s7,Ad];subst hX;exact ⟨h',F',q1,q2,M7.trans q3⟩
end


section
variable {lo b:Nat}{h h':Heap}{w:World}{a1 a2 a3 a4 a:Pq}{c1 c2 c3 c4 c:Nq}{F1 F2 F3 F4:List Nat}{k b2 i2:Nat}
theorem zcF {b:Bool}{h:Heap}:br b (some (V.bool true,h)) (some (V.bool false,h))=some (V.bool b,h):=by cases b<;>rfl
theorem N0 {e:Event} (H:WN lo h b w a1 c1 a2 c2 a3 c3 a4 c4 F1 F2 F3 F4) (hg:Fits w) (hes:e.text.size<=1048576) :
  ∃ h' F',Af lo 148 [.ptr (some (b,(0,0))),.agg e.cs] h=some (.bool (DV w e).isSome,h')/\IC lo h' b ((DV w e).getD w) F'/\Mv h (b ::(F1++(F2++(F3++F4)))) h' F':=by
 suffices hq:∃ h' F',_=some (V.bool (DV w e).isSome,h')/\IC lo h' b ((DV w e).getD w) F'/\Mv h (b ::(F1++(F2++(F3++F4)))) h' F' from by obtain ⟨h',F',e1,hr⟩:=hq;exact ⟨h',F',Mp e1,hr⟩
 have hs4:=hg.ok.s4;obtain ⟨X,hX⟩:∃ X,DV w e=X:=⟨_,rfl⟩;rw[hX];unfold DV at hX;rw[H.cell.2.1,Ad,Aa,Ah,Ag,wr (by omega) (by omega),A8,Ac,At];cases hin:Ai e.at' 0 ((w.sess.length:Int) - 1) with
 | false =>rw[hin,cond_false] at hX;rw[Ax];exact H.stay Mv.nil hX.symm
 | true =>
 rw[hin,cond_true] at hX;simp only[Ai,CP,decide_eq_true_eq] at hin;obtain ⟨k,he⟩:∃ k:Nat,e.at'=(k:Int):=⟨e.at'.toNat,by omega⟩;have hk:k<w.sess.length:=by omega
 have hkn:e.at'.toNat=k:=by omega
 rw[hkn,Dj hk] at hX;simp only[] at hX;obtain ⟨b2,i2,rs,v,x,y,G,rfl,hil,hb2,_,_,_,_,hF2,_⟩:=H.sess hk;obtain ⟨_,_,_,_,lp,_,lw,_,_,_⟩:=H.row hk;have lw':ld h b2 (i2+k) 2 2=some [Iv w.sess[k].wait.time,Iv w.sess[k].wait.place]:=lw;obtain ⟨t1,t2,t3,t4,t5,t6⟩:=Bv (hg.ok.sess _ (zc7 hk));rw[Ao,H.cell.2.1,Ad,Aa,Ah,Ag,Cm ⟨by omega,by omega⟩,Ad,hkn,lw',Ad,Aa,Ab,Aa,Ab,Ah];have done:∀ {Y:Option World}{h':Heap}{F':List Nat},Y=X->IC lo h' b (Y.getD w) F'->Mv h (b ::(F1++(F2++(F3++F4)))) h' F'->∃ h'' F'',br Y.isSome (some (V.bool true,h')) (some (V.bool false,h'))=some (V.bool X.isSome,h'')/\IC lo h'' b (X.getD w) F''/\Mv h (b ::(F1++(F2++(F3++F4)))) h'' F'':=λ{Y h' F'} e W M=>by subst e;exact ⟨h',F',zcF,W,M⟩
 by_cases hw:w.sess[k].wait.time=0
 ·have hwp:w.sess[k].wait.place=0:=by have:=Q5 t3;rw[hw] at this;simpa using this
  have hz:((w.sess[k].wait.time==(0:Int))&&((w.sess[k].wait.place==(0:Int))&&true))=true:=by rw[hw,hwp];rfl
  rw[hz,Ao];cases h2:e.kind==(2:Int) with
  | true =>
   rw[Ao];have h2':e.kind=2:=by simpa using h2
   have:JF w k w.sess[k]=none:=by unfold JF;rw[hw];split<;>(try rfl);split<;>rfl
   rw[h2'] at hX;exact H.stay Mv.nil (hX.symm.trans this)
  | false =>
  rw[Ax];rw[h2] at hX;cases h1:e.kind==(1:Int) with
  | true =>rw[h1,cond_true] at hX;obtain ⟨h',F',q1,q2,q3⟩:=Pg H hg hk he hw hes;simp only[Event.cs] at q1;rw[Ao,q1,Ac,At];exact done hX q2 q3
  | false =>
  rw[h1,cond_false,cond_false] at hX;rw[Ax,Ax];cases h3:e.kind==(3:Int) with
  | true =>rw[h3,cond_true] at hX;obtain ⟨h',F',q1,q2,q3⟩:=Ql H hg hk he hw;simp only[Event.cs] at q1;rw[Ao,q1,Ac,At];exact done hX q2 q3
  | false =>
  rw[h3,cond_false] at hX;rw[Ax];cases h4:e.kind==(4:Int) with
  | true =>rw[h4,cond_true] at hX;obtain ⟨h',F',q1,q2,q3⟩:=RL H hg hk he hw;simp only[Event.cs] at q1;rw[Ao,q1,Ac,At];exact done hX q2 q3
  | false =>
  rw[h4,cond_false] at hX;rw[Ax,DF,Ac,At];unfold Rt at hX;rw[hw,show (!decide ((0:Int)>0))=true from rfl,zdk] at hX;cases hm:Ai e.num 0 2 with
  | false =>rw[hm,cond_false] at hX;rw[Ax];exact H.stay Mv.nil hX.symm
  | true =>rw[hm,cond_true] at hX;obtain ⟨b2',i2',rs',v',ha',lob,hil',hb',put'⟩:=H.sets hk;injection ha' with ha';injection ha' with z1 z2;subst z1;subst z2;have s1:=OZ (lo:=lo) (j:=0) (cs := [Iv e.num]) (row' := [Iv e.num,v',Iv w.sess[k].wait.time,Iv w.sess[k].wait.place,Iv w.sess[k].key]) hb' hil' lob rfl;obtain ⟨F2',H7,M7⟩:=put' ⟨e.num,w.sess[k].past,w.sess[k].wait,w.sess[k].key⟩ rfl;rw[Ao,s1,Ad];subst hX;refine ⟨_,_,rfl,?_,M7⟩;have:=H7.at;simpa only [setS,zep,zdS] using this
 ·have hpos:0<w.sess[k].wait.time:=by have:=Jl t3;omega
  have hz:((w.sess[k].wait.time==(0:Int))&&((w.sess[k].wait.place==(0:Int))&&true))=false:=by rw[show (w.sess[k].wait.time==(0:Int))=false by rw[beq_eq_false_iff_ne];omega];rfl
  rw[hz,Ax];cases h2:e.kind==(2:Int) with
  | true =>
   have h2':e.kind=2:=by simpa using h2
   rw[h2'] at hX;have hX':JF w k w.sess[k]=X:=hX;obtain ⟨h',F',q1,q2,q3⟩:=RK H hg hk he hpos;simp only[Event.cs,h2'] at q1;rw[Ao,h2',show ((2:Int)==1)=false from rfl,Ax,Ao,q1,Ac,At];exact done hX' q2 q3
  | false =>
   rw[Ax];refine H.stay Mv.nil ?_;rw[<- hX,h2];have hd:decide (w.sess[k].wait.time>0)=true:=decide_eq_true hpos;cases e.kind==(1:Int) with
   | true=>rw[cond_true];unfold D4;rw[hd];split<;>rfl
   | false =>
    rw[cond_false,cond_false];cases e.kind==(3:Int) with
    | true=>rw[cond_true];unfold Fv;rw[hd];split<;>rfl
    | false =>
     rw[cond_false];cases e.kind==(4:Int) with
     | true=>rw[cond_true];unfold JL;rw[hd];split<;>rfl
     | false=>rw[cond_false];unfold Rt;rw[hd];rfl
end


section
variable {lo:Nat}{h h':Heap}
theorem Xz {p:Place}{b i0:Nat}{rs:List (List V)} (hrl:i0<rs.length) {a1 a2 a3:Pq}{c1 c2 c3:Nq}{G1 G2 G3:List Nat} (hb:h[b]?=some (Cz rs i0 (p.cs a1 c1 a2 c2 a3 c3)))
  (g1:RNodes false h [.sl 2 a1 p.chain.length c1] p.chain G1) (g2:RVers false h [.sl 6 a2 p.log.length c2] p.log G2) (g3:RVss false h [.sl 1 a3 p.got.length c3] p.got G3) (hpo:Ay p=true)
  (hnd:(b ::(G1++(G2++G3))).Nodup) (hlo':∀ y∈b ::(G1++(G2++G3)),lo<=y) (hl:lo<=h.length) :
  ∃ h' row' F',Af lo 224 [.ptr (some (b,(i0,2)))] h=some (.bool (Ec p.chain),h')/\Cy false h' row' (Lc p) F'/\h'[b]?=some (Cz rs i0 row')/\Mv h (b ::(G1++(G2++G3))) h' (b :: F'):=by
 have hblt:b<h.length:=(EA hb).1;have hbd:∀ y∈b ::(G1++(G2++G3)),y<h.length:=λy hy=>by
  simp only[zdf,zc9] at hy;rcases hy with rfl | hy | hy | hy
  ·exact hblt
  ·exact rnodes_ok.bd _ _ _ _ g1 y hy
  ·exact rvers_ok.bd _ _ _ _ g2 y hy
  ·exact rvss_ok.bd _ _ _ _ g3 y hy
 have hsmN:C7 p.chain:=Lo (By hpo) (by decide) (by decide);have nd:=hnd;rw[zdg,zda,zc9,zc9,zda] at nd;obtain ⟨n1,n2,⟨n3,n4,n5⟩,n6⟩:=nd;simp only[not_or] at n1;obtain ⟨a5,x5,c5,h5,F5,e5,b5,r5,m5⟩:=Zk (lo:=lo) (R:=6) (e:=29) (rs:=rs.set i0 (p.cs a1 c1 a2 c2 a3 c3)) (row:=p.cs a1 c1 a2 c2 a3 c3) (i:=i0) (j:=2) hb (zdl hrl) rfl g1 (Dk hpo) hsmN (by rw[zdg];exact ⟨n1.1,n2⟩) (λy hy=>hlo' y (by simp only[zdf,zc9] at hy ⊢;exact hy.imp id .inl)) hl;rw[zem] at b5;have hx5:=r5.val;subst hx5;have mA:Mv h (b ::(G1++(G2++G3))) h5 (b ::(F5++(G2++G3))):=m5.aside (G:=G2++G3) (by simpa using hnd) (λy hy=>hbd y (by simp only[zdf,zc9] at hy ⊢;exact .inr (.inr hy)));have d2:∀ y∈G2,y∉b :: G1:=λy hy hm=>by
  rcases zdf.1 hm with rfl | hm
  ·exact n1.2.1 hy
  ·exact n6 y hm y (by simp[hy]) rfl
 have d3:∀ y∈G3,y∉b :: G1:=λy hy hm=>by
  rcases zdf.1 hm with rfl | hm
  ·exact n1.2.2 hy
  ·exact n6 y hm y (by simp[hy]) rfl
 exact ⟨h5,(Lc p).cs a5 c5 a2 c2 a3 c3,F5++(G2++G3),e5,⟨_,_,_,_,_,_,rfl,_,_,_,F5,G2,G3,rfl,rfl,r5,m5.keep rvers_ok g2 d2,m5.keep rvss_ok g3 d3⟩,b5,mA⟩
end
section
variable {lo b:Nat}{h h':Heap}{w:World}{a1 a2 a3 a4 a:Pq}{c1 c2 c3 c4 c:Nq}{F1 F2 F3 F4:List Nat}
def JZ (w:World) (e:Event):Option World:=bif e.kind==10 then NI w e else FY w e
theorem N1 {e:Event} (H:WN lo h b w a1 c1 a2 c2 a3 c3 a4 c4 F1 F2 F3 F4) (hg:Fits w) (hkd:6<=e.kind/\e.kind<=10) :
  ∃ h' F',Af lo 149 [.ptr (some (b,(0,0))),.agg e.cs] h=some (.bool (JZ w e).isSome,h')/\IC lo h' b ((JZ w e).getD w) F'/\Mv h (b ::(F1++(F2++(F3++F4)))) h' F':=by
 suffices hq:∃ h' F',_=some (V.bool (JZ w e).isSome,h')/\IC lo h' b ((JZ w e).getD w) F'/\Mv h (b ::(F1++(F2++(F3++F4)))) h' F' from by obtain ⟨h',F',e1,hr⟩:=hq;exact ⟨h',F',Mq e1,hr⟩
 have hp3:=hg.ok.p3;have hn12:=hg.ok.n12;obtain ⟨X,hX⟩:∃ X,JZ w e=X:=⟨_,rfl⟩;rw[hX];unfold JZ at hX;rw[DF,Ac,At];cases hin:Ai e.at' 0 2 with
 | false =>rw[Ax];refine H.stay Mv.nil ?_;rw[<- hX];unfold NI FY;rw[hin];cases e.kind==10<;>rfl
 | true =>
 have hin':=hin;simp only[Ai,CP,decide_eq_true_eq] at hin';obtain ⟨q,he⟩:∃ q:Nat,e.at'=(q:Int):=⟨e.at'.toNat,by omega⟩;have hq:q<w.places.length:=by omega
 have hqn:e.at'.toNat=q:=by omega
 obtain ⟨hpo,hme,hro⟩:=hg.at hq;have hn:=(Ea (By hpo) (by decide) (by decide) (by decide)).1;obtain ⟨b1,i1,rs,x1,y1,x2,y2,x3,y3,G1,G2,G3,rfl,hil,hb1,g1,g2,g3,nd,hF,put⟩:=H.place hq;have hlo1:∀ y∈b1 ::(G1++(G2++G3)),lo<=y:=λy hy=>(hF y hy).1
 rw[Ao,H.cell.1,Ad,Aa,Ah,Ag,Cm ⟨by omega,by omega⟩,Ad,hqn];have done:∀ {Y:Option Place}{h':Heap}{row':List V}{F':List Nat}{p':Place}{ok:Bool},(Y.map (setP w q)=X)->ok=Y.isSome->p'=Y.getD w.places[q]->Cy false h' row' p' F'->h'[b1]?=some (Cz rs (i1+q) row')->Mv h (b1 ::(G1++(G2++G3))) h' (b1 :: F') ->
   ∃ h'' F'',br ok (some (V.bool true,h')) (some (V.bool false,h'))=some (V.bool X.isSome,h'')/\IC lo h'' b (X.getD w) F''/\Mv h (b ::(F1++(F2++(F3++F4)))) h'' F'':=λ{Y h' row' F' p' ok} e1 e2 e3 r hb' m=>by
  obtain ⟨F1',W,M⟩:=put h' row' p' F' hb' r m;subst e1;subst e2;subst e3;refine ⟨h',_,?_,?_,M⟩
  ·rw[zcF];cases Y<;>rfl
  ·cases Y with
   | none=>rw[Option.getD_none,Tz hq] at W;exact W.at
   | some p'=>exact W.at
 have hpl:e.kind≠10->FY w e=X:=λhne=>by rw[show (e.kind==(10:Int))=false by rw[beq_eq_false_iff_ne];exact hne,cond_false] at hX;exact hX
 have hpl2:e.kind≠10->(DH w.places[q] e).map (setP w q)=X:=λhne=>by rw[<- hpl hne];unfold FY;rw[hin,cond_true,hqn,Dj hq]
 cases h6:e.kind==(6:Int) with
 | true =>
  have hk6:e.kind=6:=by simpa using h6
  obtain ⟨h5,row5,F5,e5,r5,b5,m5⟩:=Pb (lo:=lo) (k:=e.num) hil hb1 g1 g2 g3 hpo nd hlo1 H.hl;rw[Ao,e5,Ac,At];refine done (hpl2 (by omega)) ?_ ?_ r5 b5 m5
  ·unfold DH;rw[h6,cond_true];cases BL w.places[q].chain e.num<;>rfl
  ·unfold DH;rw[h6,cond_true];cases hc:BL w.places[q].chain e.num with
   | true=>rfl
   | false=>unfold Er;rw[hc];rfl
 | false =>
 rw[Ax];cases h7:e.kind==(7:Int) with
 | true =>
  have hk7:e.kind=7:=by simpa using h7
  obtain ⟨h5,row5,F5,e5,r5,b5,m5⟩:=Pc (lo:=lo) (k:=e.num) hil hb1 g1 g2 g3 hpo nd hlo1 H.hl;rw[Ao,e5,Ac,At];refine done (hpl2 (by omega)) ?_ ?_ r5 b5 m5
  ·unfold DH;rw[h6,cond_false,h7,cond_true];cases CD w.places[q] e.num<;>rfl
  ·unfold DH;rw[h6,cond_false,h7,cond_true];cases hc:CD w.places[q] e.num with
   | true=>rfl
   | false=>unfold Dz;rw[hc];rfl
 | false =>
 rw[Ax];cases h8:e.kind==(8:Int) with
 | true =>
  have hk8:e.kind=8:=by simpa using h8
  obtain ⟨h5,row5,F5,e5,r5,b5,m5⟩:=Xz (lo:=lo) hil hb1 g1 g2 g3 hpo nd hlo1 H.hl;rw[Ao,e5,Ac,At];refine done (hpl2 (by omega)) ?_ ?_ r5 b5 m5
  ·unfold DH;rw[h6,cond_false,h7,cond_false,h8,cond_true];cases Ec w.places[q].chain<;>rfl
  ·unfold DH;rw[h6,cond_false,h7,cond_false,h8,cond_true];cases hc:Ec w.places[q].chain with
   | true=>rfl
   | false=>unfold Lc I0;rw[hc];rfl
 | false =>
 rw[Ax];cases h9:e.kind==(9:Int) with
 | true =>
  have hk9:e.kind=9:=by simpa using h9
  obtain ⟨h5,row5,F5,e5,r5,b5,m5⟩:=Xx (lo:=lo) (k:=e.num) hil hb1 g1 g2 g3 hpo hn nd hlo1 H.hl;rw[Ao,e5,Ac,At];refine done (hpl2 (by omega)) ?_ ?_ r5 b5 m5
  ·unfold DH;rw[h6,cond_false,h7,cond_false,h8,cond_false];cases Cn w.places[q] e.num<;>rfl
  ·unfold DH;rw[h6,cond_false,h7,cond_false,h8,cond_false];cases hc:Cn w.places[q] e.num with
   | true=>rfl
   | false=>unfold Dy;rw[hc];rfl
 | false =>
 have hk10:e.kind=10:=by rw[beq_eq_false_iff_ne] at h6 h7 h8 h9;omega
 rw[hk10,show ((10:Int)==10)=true from rfl,cond_true] at hX;unfold NI at hX;rw[hin,zdk,hqn,Je hq] at hX;have hll:w.places[q].log.length<=1000:=zc8 (By hpo).log.1 (by decide);have l3:ld h b1 (i1+q) 3 1=some [.sl 6 x2 w.places[q].log.length y2]:=by rw[C9 hil hb1];rfl
 rw[Ax,RJ,Ac,At,hin,zdk];cases hnu:Ai e.num 0 2 with
 | false=>rw[hnu,zdY,cond_false] at hX;rw[zdY,Ax];exact H.stay Mv.nil hX.symm
 | true =>
 rw[hnu,zdk] at hX;rw[zdk];cases hap:(!(e.at'==e.num)) with
 | false=>rw[hap,zdY,cond_false] at hX;rw[Ax];exact H.stay Mv.nil hX.symm
 | true =>
 rw[hap,zdk] at hX;rw[Ao,l3,Ad,Aa,Ah,Ag,WM (by omega),A8,Ac,At];cases hke:Ai e.key 0 ((w.places[q].log.length:Int) - 1) with
 | false=>rw[hke,zee,cond_false] at hX;rw[Ax];exact H.stay Mv.nil hX.symm
 | true =>
 rw[hke,zec] at hX;simp only[Ai,CP,decide_eq_true_eq] at hke;rw[Ao,H.cell.2.2.1,Ad,Aa,Ah,Ag];by_cases h12:(w.net.length:Int)>=12
 ·rw[decide_eq_false (by omega),cond_false] at hX;rw[Al h12];exact H.stay Mv.nil hX.symm
 rw[decide_eq_true (by omega),cond_true] at hX;obtain ⟨m,hkm⟩:∃ m:Nat,e.key=(m:Int):=⟨e.key.toNat,by omega⟩;have hml:m<w.places[q].log.length:=by omega
 have hkn:e.key.toNat=m:=by omega
 rw[hkn,Dj hml] at hX;simp only[] at hX;obtain ⟨o,s,av,cv,G,ha,ho,es,hp,_⟩:=g2.get hml;have hvp:w.places[q].log[m].past.length<=1048576:=by have:=(hn.2.1.2 _ (zc7 hml)).1;omega
 obtain ⟨a5,c5,h5,F5,e5,r5,m5⟩:=BK (lo:=h.length) (v:=w.places[q].log[m]) hp (zdb _) hvp;obtain ⟨⟨n1,n2,n3,n4⟩,_⟩:=Qg H.ne.2;obtain ⟨a6,c6,h6',F6,e6,r6,m6⟩:=Dv (lo:=lo) (bytes:=96) (e:=123) (El:=U6 false) rframe_ok H.r3 (row := Iv e.at' :: Iv e.num :: Iv e.key ::(w.places[q].log[m]).cs a5 c5) (x:=⟨e.at',e.num,e.key,w.places[q].log[m]⟩) (G:=F5)
  (h1:=h5 ++ [.rows 9 123 false [Iv e.at' :: Iv e.num :: Iv e.key ::(w.places[q].log[m]).cs a5 c5]])
  ⟨_,rfl,_,rfl,Mv.snoc.keep0 rtags_ok r5⟩ (m5.trans (Mv.snoc' m5.nd)) n3 (λy hy=>H.ge y (by simp[hy])) H.hl (by decide) (by omega)
 have hnl:(w.net ++ [Frame.mk e.at' e.num e.key w.places[q].log[m]]).length=w.net.length+1:=by simp
 rw[<- hnl] at r6 e6;obtain ⟨h7,s7,W,M⟩:=H.up3 m6 r6;simp only[Ver.cs] at e5 e6;rw[Ak h12,Ad,Aa,Ah,Ag,l3,Ad,Aa,Ah,Ag,Cm ⟨by omega,by omega⟩,ha,Ad,hkn,ho,Ad,Aa,Ab,Aa,Ab,Aa,Ab,Aa,es,Aa,BG,Aa,AL,Ah,e5,Ac,AR,Aa,Ab,Aa,Ab,Aa,Ab,Aa,Ag,Aa,BG,Aa,AL,Ah,A7,e6,Ag,s7,Ad];subst hX;exact ⟨h7,_,rfl,W.at,M⟩
end


section
variable {lo b:Nat}{h h':Heap}{w:World}{a1 a2 a3 a4 a:Pq}{c1 c2 c3 c4 c:Nq}{F1 F2 F3 F4:List Nat}
theorem UJ {l:List Frame}{k:Nat}{F:List Nat} (hs:RFrames false h [.sl 9 a l.length c] l F) (hk:k<l.length) (hnd:F.Nodup) (hlo:∀ b∈F,lo<=b) (hn:l.length<=1048576) :
  ∃ b i h' F',a=some (b,i)/\Af lo 227 [.sl 9 a l.length c,Iv (k:Nat),Iv ((k+1:Nat):Int)] h=some (.sl 9 a (l.eraseIdx k).length c,h')/\RFrames false h' [.sl 9 a (l.eraseIdx k).length c] (l.eraseIdx k) F'/\Mv h F h' F'/\∀ y,y≠b->h'[y]?=h[y]?:=by
 obtain ⟨h',F',Gv,b,i,row,ha,hld,hel,hG,e,r,m,fr⟩:=Sli.del (lo:=lo) (bytes:=96) (e:=123) (z := [Iv 0,Iv 0,Iv 0,Iv 0,Iv 0,Iv 0,.sl 0 none 0 (some 0),.str ⟨⟨[]⟩⟩,.bool false]) (x1:=(k:Nat)) (x2:=((k+1:Nat):Int)) (T:=V×Heap) rframe_ok hs hk hnd hlo rfl (by omega) (by decide) (by omega) (some (.sl 9 a l.length c,h)) (λv h=>some (v,h));rw[zdM hk];exact ⟨b,i,h',F',ha,Fu e,r,m,fr⟩
theorem WN.hear (H:WN lo h b w a1 c1 a2 c2 a3 c3 a4 c4 F1 F2 F3 F4) {f:Frame}{q:Nat}{av:Pq}{cv:Nq}{G:List Nat} (hto:f.to=(q:Int)) (hq:q<w.places.length) (hpo:Ay w.places[q]=true) (hv:RTags false h [.sl 2 av f.ver.past.length cv] f.ver.past G) (hvn:f.ver.past.length<=1048576/\f.ver.text.size<=1048576) :
  ∃ b1 i1 ok h' F',a1=some (b1,i1)/\Af lo 228 [.ptr (some (b1,(i1+q,0))),Iv f.fro,Iv f.at',.agg (f.ver.cs av cv)] h=some (.bool ok,h')/\IC lo h' b (Kv w f) F'/\Mv h (b ::(F1++(F2++(F3++F4)))) h' F':=by
 obtain ⟨b1,i1,rs,x1,y1,x2,y2,x3,y3,G1,G2,G3,ha,hil,hb1,g1,g2,g3,nd,hF,put⟩:=H.place hq;obtain ⟨h5,row5,F5,e5,r5,b5,m5⟩:=XA (lo:=lo) (f:=f.fro) (at':=f.at') (v:=f.ver) hil hb1 g1 g2 g3 hv hpo hvn nd (λy hy=>(hF y hy).1) H.hl;obtain ⟨F1',W,M⟩:=put h5 row5 _ F5 b5 r5 m5;have hh:Kv w f=setP w q (D9 w.places[q] f.fro f.at' f.ver):=by unfold Kv;rw[hto,Bd,Dj hq]
 rw[hh];exact ⟨b1,i1,_,h5,_,ha,e5,W.at,M⟩
theorem MX {e:Event} (H:WN lo h b w a1 c1 a2 c2 a3 c3 a4 c4 F1 F2 F3 F4) (hg:Fits w) (hkd:11<=e.kind/\e.kind<=13) :
  ∃ h' F',Af lo 150 [.ptr (some (b,(0,0))),.agg e.cs] h=some (.bool (IJ w e).isSome,h')/\IC lo h' b ((IJ w e).getD w) F'/\Mv h (b ::(F1++(F2++(F3++F4)))) h' F':=by
 suffices hq:∃ h' F',_=some (V.bool (IJ w e).isSome,h')/\IC lo h' b ((IJ w e).getD w) F'/\Mv h (b ::(F1++(F2++(F3++F4)))) h' F' from by obtain ⟨h',F',e1,hr⟩:=hq;exact ⟨h',F',LY e1,hr⟩
 have hp3:=hg.ok.p3;have hn12:=hg.ok.n12;obtain ⟨X,hX⟩:∃ X,IJ w e=X:=⟨_,rfl⟩;rw[hX];unfold IJ at hX;rw[H.cell.2.2.1,Ad,Aa,Ah,Ag,wr (by omega) (by omega),A8,Ac,At];cases hin:Ai e.at' 0 ((w.net.length:Int) - 1) with
 | false =>rw[hin,cond_false] at hX;rw[Ax];exact H.stay Mv.nil hX.symm
 | true =>
 rw[hin,cond_true] at hX;simp only[Ai,CP,decide_eq_true_eq] at hin;obtain ⟨k,he⟩:∃ k:Nat,e.at'=(k:Int):=⟨e.at'.toNat,by omega⟩;have hk:k<w.net.length:=by omega
 have hkn:e.at'.toNat=k:=by omega
 rw[hkn,Dj hk] at hX;simp only[] at hX;obtain ⟨⟨n1,n2,n3,n4⟩,_⟩:=Qg H.ne.2;obtain ⟨b3,i3,rs,row,G,rfl,hbF,hbG,hb3,hil,⟨vs,rfl,hv⟩,hGF,hGn,_⟩:=Sli.atP rframe_ok H.r3 hk n3;obtain ⟨s,av,cv,rfl,es,hp⟩:=hv.form;have hld:ld h b3 (i3+k) 0 9=some [Iv w.net[k].fro,Iv w.net[k].to,Iv w.net[k].at',Iv w.net[k].ver.key,Iv w.net[k].ver.tag.time,Iv w.net[k].ver.tag.place,s,.str w.net[k].ver.text,.bool w.net[k].ver.gone]:=by rw[MR hb3 hil];rfl
 obtain ⟨⟨q1,q2⟩,⟨q3,q4⟩,_,_,q5⟩:=hg.ok.net _ (zc7 hk);obtain ⟨q,hto⟩:∃ q:Nat,w.net[k].to=(q:Int):=⟨w.net[k].to.toNat,by omega⟩;have hq:q<w.places.length:=by omega
 obtain ⟨hpo,_,_⟩:=hg.at hq;have hvn:w.net[k].ver.past.length<=1048576/\w.net[k].ver.text.size<=1048576:=by
  have hf:w.net[k].fro.toNat<w.places.length:=by omega
  rw[Je hf] at q5;have hn:=(Ea (By (hg.at hf).1) (by decide) (by decide) (by decide)).1;have:=hn.2.1.2 _ (zdp q5);exact ⟨by omega,by omega⟩
 generalize hf:w.net[k]=f at *
 rw[Ao,H.cell.2.2.1,Ad,Aa,Ah,Ag,Cm ⟨by omega,by omega⟩,Ad,hkn,hld,Ad,Aa,Ab,Aa,Ab,Aa,Ab,Aa,Ab,Aa,Ab,Aa,Ab,Aa,es,Aa,BG,Aa,AL,Ah];cases h13:e.kind==(13:Int) with
 | true =>
  have hk13:e.kind=13:=by simpa using h13
  rw[h13,cond_true,show (e.kind==(12:Int))=false by rw[hk13];rfl,cond_false] at hX;obtain ⟨b1,i1,ok,h5,F5,rfl,e5,W,M⟩:=H.hear hto hq hpo hp hvn;simp only[Ver.cs] at e5;rw[Ao,show (e.kind==(12:Int))=false by rw[hk13];rfl,Ax,H.cell.1,Ad,Aa,Ah,Ag,hto,Ae hq,Ad,Bd,e5,Ac,At];subst hX;refine ⟨h5,F5,?_,W,M⟩;cases ok<;>rfl
 | false =>
 rw[h13,cond_false] at hX;obtain ⟨b3',i3',h5,F5,ha,e5,r5,m5,fr5⟩:=UJ (lo:=lo) H.r3 hk n3 (λy hy=>H.ge y (by simp[hy])) (by omega);injection ha with ha;injection ha with z1 z2;subst z1;subst z2;obtain ⟨h6,s6,H6,M6⟩:=H.up3 m5 r5;rw[Ax,Ad,Aa,Ah,Ag,he,Ar (by omega),e5,Ac,Ag,s6,Ad];cases h12:e.kind==(12:Int) with
 | true =>rw[h12,cond_true] at hX;rw[Ao];subst hX;exact ⟨h6,_,rfl,H6.at,M6⟩
 | false =>
  rw[h12,cond_false] at hX;have hp6:RTags false h6 [.sl 2 av f.ver.past.length cv] f.ver.past G:=rtags_ok.fr _ _ _ _ _ (rtags_ok.fr _ _ _ _ _ hp λy hy=>fr5 y λe=>hbG (e ▸ hy)) λy hy=>Z0 s6 y λe=>H.ne.1 (by
   have:=hGF y hy;rw[e] at this;simp[this])
  obtain ⟨b1,i1,ok,h7,F7,rfl,e7,W,M⟩:=H6.hear hto hq hpo hp6 hvn;simp only[Ver.cs] at e7;rw[Ax,H6.cell.1,Ad,Aa,Ah,Ag,hto,Ae hq,Ad,Bd,e7,Ac,At];subst hX;refine ⟨h7,F7,?_,W,M6.trans M⟩;cases ok<;>rfl
theorem MF {e:Event} (H:WN lo h b w a1 c1 a2 c2 a3 c3 a4 c4 F1 F2 F3 F4) (hg:Fits w) (hes:e.text.size<=1048576) :
  ∃ h' F',Af lo 77 [.ptr (some (b,(0,0))),.agg e.cs] h=some (.bool (DZ w e).isSome,h')/\IC lo h' b ((DZ w e).getD w) F'/\Mv h (b ::(F1++(F2++(F3++F4)))) h' F':=by
 suffices hq:∃ h' F',_=some (V.bool (DZ w e).isSome,h')/\IC lo h' b ((DZ w e).getD w) F'/\Mv h (b ::(F1++(F2++(F3++F4)))) h' F' from by obtain ⟨h',F',e1,hr⟩:=hq;exact ⟨h',F',QB e1,hr⟩
 obtain ⟨X,hX⟩:∃ X,DZ w e=X:=⟨_,rfl⟩;rw[hX];unfold DZ at hX;rw[A8,Ac,At];cases h15:Ai e.kind 1 5 with
 | true =>rw[h15,cond_true] at hX;obtain ⟨h',F',q1,q2,q3⟩:=N0 H hg hes;simp only[Event.cs] at q1;rw[Ao,q1,Ac,At,zcF];subst hX;exact ⟨h',F',rfl,q2,q3⟩
 | false =>
 rw[h15,cond_false] at hX;rw[Ax,A8,Ac,At];cases h610:Ai e.kind 6 10 with
 | true =>
  simp only[Ai,CP,decide_eq_true_eq] at h610;obtain ⟨h',F',q1,q2,q3⟩:=N1 H hg h610;have hXc:JZ w e=X:=by
   rw[<- hX];unfold JZ;cases h10:e.kind==(10:Int) with
   | true =>
    have:e.kind=10:=by simpa using h10
    rw[show Ai e.kind 6 9=false by rw[this];rfl];rfl
   | false =>rw[beq_eq_false_iff_ne] at h10;rw[show Ai e.kind 6 9=true by simp only[Ai,CP,decide_eq_true_eq];omega];rfl
  simp only[Event.cs] at q1;rw[Ao,q1,Ac,At,zcF];subst hXc;exact ⟨h',F',rfl,q2,q3⟩
 | false =>
 have h69:Ai e.kind 6 9=false:=by rw[<- Bool.not_eq_true] at h610 ⊢;simp only[Ai,CP,decide_eq_true_eq] at h610 ⊢;omega
 have h10:(e.kind==(10:Int))=false:=by rw[<- Bool.not_eq_true] at h610;rw[beq_eq_false_iff_ne];simp only[Ai,CP,decide_eq_true_eq] at h610;omega
 rw[h69,cond_false,h10,cond_false] at hX;rw[Ax,A8,Ac,At];cases h11:Ai e.kind 11 13 with
 | true =>rw[h11,cond_true] at hX;simp only[Ai,CP,decide_eq_true_eq] at h11;obtain ⟨h',F',q1,q2,q3⟩:=MX H hg h11;simp only[Event.cs] at q1;rw[Ao,q1,Ac,At,zcF];subst hX;exact ⟨h',F',rfl,q2,q3⟩
 | false =>rw[h11,cond_false] at hX;rw[Ax];exact H.stay Mv.nil hX.symm
end


variable {l:List Done}
section
variable {lo:Nat}{h:Heap}{F1 F2 F3 F4:List Nat}{a a1 a2 a3 a4:Pq}{c c1 c2 c3 c4:Nq}{F:List Nat}
theorem Pk:(l.map λ_=>([]:List Nat)).flatten = []:=by induction l<;>simp_all
theorem RDones.rowsG (hs:RDones false h [.sl 5 a l.length c] l F) {T:Type} (K:List (List V)->Option T):Av 5 h (.sl 5 a l.length c) K=K (l.map Done.cs):=by obtain ⟨rows,Fs,h1,h2,_⟩:=Sli.rows hs;rw[h1,h2.of_flat.1]
theorem Mv.over {h h1 hh:Heap}{P F:List Nat} (m0:Mv h [] h1 []) (m:Mv h1 P hh F) (hP:∀ y∈P,h.length<=y):Mv h [] hh [] :=
 ⟨zc8 m0.le m.le,λb hb _=>by rw[m.fr b (zdj hb m0.le) (λhm=>by have:=hP b hm;omega),m0.fr b hb (by simp)],by simp,by simp⟩
theorem Wx (hl:lo<=h.length) (hn:l.length<=1048576):∃ a' c' h' F',(∀ {T:Type} (K:V->Heap->Option T),Df lo 126 5 40 (.sl 5 (some (h.length,0)) 0 (some 0)) (l.map Done.cs) (h ++ [.rows 5 126 false []]) K=K (.sl 5 a' l.length c') h') /\
  RDones false h' [.sl 5 a' l.length c'] l F'/\Mv h [] h' F':=by
 have h0:RDones false (h ++ [.rows 5 (zcd false) false []]) [.sl 5 (some (h.length,0)) 0 (some 0)] [] [h.length]:=Sli.fresh (zdb _);by_cases he:l = []
 ·subst he;exact ⟨some (h.length,0),some 0,_,_,λK=>rfl,h0,Mv.last⟩
 ·obtain ⟨a',c',h',F',p1,p2,p3,p4,p5,p6⟩:=Sli.push (lo:=lo) (bytes:=40) UM h0 (xs:=l.map Done.cs) (ys:=l) (Gs:=l.map λ_ => []) EAll.flat (by decide) (by simp;omega) (by simp;omega) (by simp;omega) (by rw[Pk];simp) (by rw[Pk];simp) he;simp only[zek,zdy,zdE] at p1 p2;refine ⟨a',c',h',F',p1,p2,by simp at p3;omega,λb hb _=>?_,p6,λb hb=>?_⟩
  ·rw[p4 b (by simp;omega) (by simp;omega),zde hb]
  ·simp at p3;rcases p5 b hb with h1 | h1
   ·rw[Pk] at h1;simp at h1;exact .inr (by omega)
   ·simp at h1;exact .inr (by omega)
theorem We (hs:RDones false h [.sl 5 a l.length c] l F) (hl:lo<=h.length) (hn:l.length<=1048576) :
  ∃ v a' c' h' F',Af lo 152 [.sl 5 a l.length c] h=some (v,h')/\(∀ {T:Type} (K:Pq->Nat->Nq->Option T),eS 5 v K=K a' l.length c')/\RDones false h' [.sl 5 a' l.length c'] l F'/\Mv h [] h' F':=by
 cases a with
 | none =>obtain ⟨R1,a1,c1,e1,g⟩:=hs;injection e1 with e1 _;injection e1 with e0 e2 _ e3;subst e2;subst e3;obtain ⟨rfl,_,_⟩:=g;exact ⟨_,none,some 0,h,[],DU (by rw[show (none:Pq).isNone=true from rfl,Ao]),λK=>rfl,Sli.nil,Mv.nil⟩
 | some p =>obtain ⟨a',c',h',F',e,r⟩:=Wx (l:=l) hl hn;refine ⟨_,a',c',h',F',DU ?_,λK=>Ag 5 _ _ _ K,r⟩;rw[show (some p).isNone=false from rfl,Ax,RDones.rowsG (Mv.snoc.keep0 rdones_ok hs),e,Ag]
theorem RPlacesN.up {cs:List V}{l:List Place} (hs:RPlacesN h cs l F):RPlaces false h cs l F:=Sli.mono (λ_ _ _ h=>by obtain ⟨_,_,_,_,_,_,rfl,q⟩:=h;exact q) hs
theorem GV {w:World} (r1:RPlaces false h [.sl 6 a1 w.places.length c1] w.places F1) (r2:RSesss false h [.sl 5 a2 w.sess.length c2] w.sess F2) (r3:RFrames false h [.sl 9 a3 w.net.length c3] w.net F3) (r4:RDones false h [.sl 5 a4 w.hist.length c4] w.hist F4) (hl:lo<=h.length) (hn:I3 w) :
  ∃ b1 d1 b2 d2 b3 d3 b4 d4 h' G1 G2 G3 G4,Af lo 78 [.agg (w.cs a1 c1 a2 c2 a3 c3 a4 c4)] h=some (.agg (w.cs b1 d1 b2 d2 b3 d3 b4 d4),h')/\RPlacesN h' [.sl 6 b1 w.places.length d1] w.places G1/\RSesss false h' [.sl 5 b2 w.sess.length d2] w.sess G2/\RFrames false h' [.sl 9 b3 w.net.length d3] w.net G3/\RDones false h' [.sl 5 b4 w.hist.length d4] w.hist G4/\Mv h [] h' (G1++(G2++(G3++G4))):=by
 obtain ⟨⟨n1,s1⟩,⟨n2,s2⟩,⟨n3,s3⟩,n4⟩:=hn;have mP:Mv h [] (h ++ [.rows 6 29 false (List.replicate w.places.length [Iv 0,Iv 0,.sl 0 none 0 (some 0),.sl 0 none 0 (some 0),.sl 0 none 0 (some 0),.bool false])]) [h.length]:=Mv.last;generalize hhP:h ++ [Blk.rows 6 29 false (List.replicate w.places.length [Iv 0,Iv 0,.sl 0 none 0 (some 0),.sl 0 none 0 (some 0),.sl 0 none 0 (some 0),.bool false])]=hP at mP;have sP:RPlacesN hP [.sl 6 (some (h.length,0)) 0 (some w.places.length)] [] [h.length]:=by rw[<- hhP];exact Sli.fresh (by simp)
 have mS:Mv hP [] (hP ++ [.rows 5 66 false (List.replicate w.sess.length [Iv 0,.sl 0 none 0 (some 0),Iv 0,Iv 0,Iv 0])]) [hP.length]:=Mv.last;generalize hhS:hP ++ [Blk.rows 5 66 false (List.replicate w.sess.length [Iv 0,.sl 0 none 0 (some 0),Iv 0,Iv 0,Iv 0])]=hS at mS;have sS:RSesss false hS [.sl 5 (some (hP.length,0)) 0 (some w.sess.length)] [] [hP.length]:=by rw[<- hhS];exact Sli.fresh (by simp)
 have mN:Mv hS [] (hS ++ [.rows 9 123 false (List.replicate w.net.length [Iv 0,Iv 0,Iv 0,Iv 0,Iv 0,Iv 0,.sl 0 none 0 (some 0),.str ⟨⟨[]⟩⟩,.bool false])]) [hS.length]:=Mv.last;generalize hhN:hS ++ [Blk.rows 9 123 false (List.replicate w.net.length [Iv 0,Iv 0,Iv 0,Iv 0,Iv 0,Iv 0,.sl 0 none 0 (some 0),.str ⟨⟨[]⟩⟩,.bool false])]=hN at mN;have sN:RFrames false hN [.sl 9 (some (hS.length,0)) 0 (some w.net.length)] [] [hS.length]:=by rw[<- hhN];exact Sli.fresh (by simp)
 have mSN:=mS.join mN (λy hy=>by have:=mS.lt (by simp) y hy;exact this);have mPSN:=mP.join mSN (λy hy=>by have:=mP.lt (by simp) y hy;exact this);have r4':=mPSN.drop.keep0 rdones_ok r4;obtain ⟨v4,b4,d4,hD,G4,e4,es4,q4,m4⟩:=We (lo:=hN.length) r4' (zdb _) n4;have e4':Af hD.length 151 [.sl 5 b4 w.hist.length d4] hD=some (.sl 5 b4 w.hist.length (some w.hist.length),hD):=GN (by rw[I5 q4]);have q4c:=q4.clip;have m0:=mPSN.join m4 (λy hy=>mPSN.lt (by simp) y hy);have lt0:=m0.lt (by simp);have m0d:=m0.drop;have lP:h.length<hP.length:=by have:=mP.lt (by simp) h.length (by simp);exact this
 have lS:hP.length<hS.length:=by have:=mS.lt (by simp) hP.length (by simp);exact this
 have lN:hS.length<hN.length:=by have:=mN.lt (by simp) hS.length (by simp);exact this
 have lD:=m4.le;have hG4:=m4.new;have sP4:RPlacesN hD [.sl 6 (some (h.length,0)) 0 (some w.places.length)] [] [h.length]:=m4.keep0 rplacesN_ok (mN.keep0 rplacesN_ok (mS.keep0 rplacesN_ok sP));obtain ⟨h1,G1,e1,q1,m1⟩:=GI (El:=Cy false) Jp (l:=w.places) (lo:=lo) (R:=6) (e:=29) (bytes:=96) (N:=w.places.length) (p0:=(h.length,0)) (F0 := [h.length])
  (zc8 hl m0.le) (by intro y hy;simp at hy;omega) (by simp) (by decide) (by omega) (zdb _)
  (λi x n d hh=>BT lo a1 w.places.length c1 (w.places.length:Nat) (i:Nat) a1 w.places.length c1 a2 w.sess.length c2 a3 w.net.length c3 a4 w.hist.length c4 0 none 0 (some 0) 0 none 0 (some 0) 0 none 0 (some 0) 0 none 0 (some 0) x n d (some (hP.length,0)) 0 (some w.sess.length) (some (hS.length,0)) 0 (some w.net.length) b4 w.hist.length (some w.hist.length) hh)
  (λi hi hh F hm=>by
   have hm':=m0d.over hm (λy hy=>by simp at hy;omega);obtain ⟨o,s1',s2',s3',x1,y1,x2,y2,x3,y3,J1,J2,J3,ha,ho,_,_,_,_,es1,es2,es3,g1,g2,g3,_⟩:=(hm'.keep0 rplaces_ok r1).get hi;obtain ⟨p1,p2,d2,p3,d3,h5,K1,K2,K3,e5,k1,k2,k3,m5⟩:=MY (lo:=lo) (p:=w.places[i]) g1 g2 g3 (zc8 hl hm'.le) (s1 _ (zc7 hi));refine ⟨w.places[i].cs p1 (some w.places[i].chain.length) p2 d2 p3 d3,K1++(K2++K3),h5 ++ [.rows 6 29 false [w.places[i].cs p1 (some w.places[i].chain.length) p2 d2 p3 d3]],
    ⟨_,_,_,_,_,_,rfl,_,_,_,K1,K2,K3,rfl,rfl,Mv.snoc.keep0 rnodes_ok (RNodesC.up k1),Mv.snoc.keep0 rvers_ok k2,Mv.snoc.keep0 rvss_ok k3⟩,m5.trans (Mv.snoc' m5.nd),?_⟩
   simp only[Place.cs] at e5;rw[BT.e,Al (by omega),Ae hi,ha,Ad,Bd,ho,Ad,Aa,Ab,Aa,Ab,Aa,es1,Aa,es2,Aa,es3,Aa,AL,Ah,e5,Ac,AR,Aa,Ab,Aa,Ab,Aa,Ag,Aa,Ag,Aa,Ag,Aa,AL,Ah,A7,Ar (by omega)]) sP4
 have m1d:=m0d.over m1 (λy hy=>by simp at hy;omega);have sS1:RSesss false h1 [.sl 5 (some (hP.length,0)) 0 (some w.sess.length)] [] [hP.length]:=m1.keep rsesss_ok (m4.keep0 rsesss_ok (mN.keep0 rsesss_ok sS)) (λy hy hm=>by simp at hy hm;omega);obtain ⟨h2,G2,e2,q2,m2⟩:=GI (El:=RSess false) Kn (l:=w.sess) (lo:=lo) (R:=5) (e:=66) (bytes:=56) (N:=w.sess.length) (p0:=(hP.length,0)) (F0 := [hP.length])
  (zc8 hl m1d.le) (by intro y hy;simp at hy;omega) (by simp) (by decide) (by omega) (zdb _)
  (λi x n d hh=>BS lo a2 w.sess.length c2 (w.sess.length:Nat) (i:Nat) a1 w.places.length c1 a2 w.sess.length c2 a3 w.net.length c3 a4 w.hist.length c4 0 none 0 (some 0) 0 none 0 (some 0) 0 none 0 (some 0) 0 none 0 (some 0) (some (h.length,0)) w.places.length (some w.places.length) x n d (some (hS.length,0)) 0 (some w.net.length) b4 w.hist.length (some w.hist.length) hh)
  (λi hi hh F hm=>by
   have hm':=m1d.over hm (λy hy=>by simp at hy;omega);obtain ⟨o,v,x1,y1,J,ha,ho,_,_,es,hp,_⟩:=(hm'.keep0 rsesss_ok r2).get hi;obtain ⟨p1,d1,h5,K1,e5,k1,m5⟩:=DL (lo:=lo) hp (zc8 hl hm'.le) (s2 _ (zc7 hi));refine ⟨w.sess[i].cs p1 d1,K1,h5 ++ [.rows 5 66 false [w.sess[i].cs p1 d1]],⟨_,rfl,Mv.snoc.keep0 rtags_ok k1⟩,m5.trans (Mv.snoc' m5.nd),?_⟩;rw[BS.e,Al (by omega),Ae hi,ha,Ad,Bd,ho,Ad,Aa,Ab,Aa,es,Aa,Ab,Aa,Ab,Aa,Ab,Ah,e5,Ac,AR,Aa,Ag,Ah,A7,Ar (by omega)]) sS1
 have m2d:=m1d.over m2 (λy hy=>by simp at hy;omega);have sN2:RFrames false h2 [.sl 9 (some (hS.length,0)) 0 (some w.net.length)] [] [hS.length]:=m2.keep rframes_ok (m1.keep rframes_ok (m4.keep0 rframes_ok sN) (λy hy hm=>by simp at hy hm;omega)) (λy hy hm=>by simp at hy hm;omega);obtain ⟨h3,G3,e3,q3,m3⟩:=GI (El:=U6 false) rframe_ok (l:=w.net) (lo:=lo) (R:=9) (e:=123) (bytes:=96) (N:=w.net.length) (p0:=(hS.length,0)) (F0 := [hS.length])
  (zc8 hl m2d.le) (by intro y hy;simp at hy;omega) (by simp) (by decide) (by omega) (zdb _)
  (λi x n d hh=>BQ lo a3 w.net.length c3 (w.net.length:Nat) (i:Nat) 0 none 0 (some 0) 0 none 0 (some 0) 0 none 0 (some 0) 0 none 0 (some 0) (some (h.length,0)) w.places.length (some w.places.length) (some (hP.length,0)) w.sess.length (some w.sess.length) x n d b4 w.hist.length (some w.hist.length) hh)
  (λi hi hh F hm=>by
   have hm':=m2d.over hm (λy hy=>by simp at hy;omega);obtain ⟨o,v,x1,y1,J,ha,ho,es,hp,_⟩:=(hm'.keep0 rframes_ok r3).get hi;obtain ⟨p1,d1,h5,K1,e5,k1,m5⟩:=BK (lo:=lo) (v:=w.net[i].ver) hp (zc8 hl hm'.le) (s3 _ (zc7 hi)).1;refine ⟨Iv w.net[i].fro :: Iv w.net[i].to :: Iv w.net[i].at' :: w.net[i].ver.cs p1 d1,K1,h5 ++ [.rows 9 123 false [Iv w.net[i].fro :: Iv w.net[i].to :: Iv w.net[i].at' :: w.net[i].ver.cs p1 d1]],⟨_,rfl,_,rfl,Mv.snoc.keep0 rtags_ok k1⟩,m5.trans (Mv.snoc' m5.nd),?_⟩;simp only[Ver.cs] at e5;rw[BQ.e,Al (by omega),Ae hi,ha,Ad,Bd,ho,Ad,Aa,Ab,Aa,Ab,Aa,Ab,Aa,Ab,Aa,Ab,Aa,Ab,Aa,es,Aa,BG,Aa,AL,Ah,e5,Ac,AR,Aa,Ab,Aa,Ab,Aa,Ab,Aa,Ag,Aa,BG,Aa,AL,Ah,A7,Ar (by omega)]) sN2
 have nd0:([h.length]++([hP.length]++([hS.length]++G4))).Nodup:=by have:=m0.nd;simpa using this
 have lt0':∀ y ∈ [h.length]++([hP.length]++([hS.length]++G4)),y<hD.length:=λy hy=>lt0 y (by simpa using hy);have M1:Mv hD ([h.length]++([hP.length]++([hS.length]++G4))) h1 (G1++([hP.length]++([hS.length]++G4))):=m1.mid (.refl _) nd0 (λy hy=>lt0' y (by simp only[zc9] at hy ⊢;exact .inr hy)) (.refl _);have lt1:=M1.lt lt0';have M2:Mv h1 (G1++([hP.length]++([hS.length]++G4))) h2 (G1++(G2++([hS.length]++G4))):=m2.mid P0 M1.nd (λy hy=>lt1 y (by simp only[zc9] at hy ⊢;grind)) P0;have lt2:=M2.lt lt1;have M3:Mv h2 (G1++(G2++([hS.length]++G4))) h3 (G1++(G2++(G3++G4))):=m3.mid TG M2.nd (λy hy=>lt2 y (by simp only[zc9] at hy ⊢;grind)) TG;have m0':Mv h [] hD ([h.length]++([hP.length]++([hS.length]++G4))):=by simpa using m0
 have M:=(m0'.trans M1).trans (M2.trans M3);obtain ⟨_,d12,d13,d14,d23,d24,d34⟩:=Qg M.nd;have n2':=M2.nd;refine ⟨some (h.length,0),some w.places.length,some (hP.length,0),some w.sess.length,some (hS.length,0),some w.net.length,b4,some w.hist.length,h3,G1,G2,G3,G4,Mo ?_,?_,?_,q3,?_,M⟩
 ·rw[D0 (by omega),D0 (by omega),D0 (by omega)];simp only[hhP,hhS,hhN];rw[e4,Ac,es4,e4',Ac,Ag];refine e1.trans ?_;rw[BT.e,Ak (by omega)];refine e2.trans ?_;rw[BS.e,Ak (by omega)];refine e3.trans ?_;rw[BQ.e,Ak (by omega)]
 ·refine m3.keep rplacesN_ok (m2.keep rplacesN_ok q1 λy hy hm=>?_) λy hy hm=>?_
  ·have:=M1.nd;rw[zda] at this;exact this.2.2 y hy y (by simp at hm ⊢;exact .inl hm) rfl
  ·have:=M2.nd;rw[zda] at this;exact this.2.2 y hy y (by simp at hm ⊢;exact .inr (.inl hm)) rfl
 ·refine m3.keep rsesss_ok q2 λy hy hm=>?_;have:=M2.nd;rw[zda,zda] at this;exact this.2.1.2.2 y hy y (by simp at hm ⊢;exact .inl hm) rfl
 ·refine m3.keep rdones_ok (m2.keep rdones_ok (m1.keep rdones_ok q4c λy hy hm=>?_) λy hy hm=>?_) λy hy hm=>?_
  ·have:=hG4 y hy;simp at hm;omega
  ·have:=hG4 y hy;simp at hm;omega
  ·have:=hG4 y hy;simp at hm;omega
end


variable {w:World}
def Ll:World:=⟨[],[],[],[]⟩
def Xg (w:World) (e:Event):World:=bif Eo w then Mh w e else Ll
def LV (raw:List V) (w:World) (r:List V):Prop:=∃ s1 s2 s3 s4 a1 c1 a2 c2 a3 c3 a4 c4,raw = [s1,s2,s3,s4] /\
 (∀ {T:Type} (K:Pq->Nat->Nq->Option T),eS 6 s1 K=K a1 w.places.length c1)/\(∀ {T:Type} (K:Pq->Nat->Nq->Option T),eS 5 s2 K=K a2 w.sess.length c2) /\
 (∀ {T:Type} (K:Pq->Nat->Nq->Option T),eS 9 s3 K=K a3 w.net.length c3)/\(∀ {T:Type} (K:Pq->Nat->Nq->Option T),eS 5 s4 K=K a4 w.hist.length c4)/\r=w.cs a1 c1 a2 c2 a3 c3 a4 c4
section
variable {lo:Nat}{h:Heap}{F:List Nat}
theorem LC:∃ raw r,raw = [.sl 0 none 0 (some 0),.sl 0 none 0 (some 0),.sl 0 none 0 (some 0),.sl 0 none 0 (some 0)]/\LV raw Ll r/\Da false h r Ll [] :=
 ⟨_,_,rfl,⟨_,_,_,_,none,some 0,none,some 0,none,some 0,none,some 0,rfl,λK=>rfl,λK=>rfl,λK=>rfl,λK=>rfl,rfl⟩,⟨none,some 0,none,some 0,none,some 0,none,some 0,[],[],[],[],rfl,rfl,Sli.nil,Sli.nil,Sli.nil,Sli.nil⟩⟩
theorem O3 {a1 a2 a3 a4:Pq}{c1 c2 c3 c4:Nq}:LV (w.cs a1 c1 a2 c2 a3 c3 a4 c4) w (w.cs a1 c1 a2 c2 a3 c3 a4 c4) :=
 ⟨_,_,_,_,_,_,_,_,_,_,_,_,rfl,λK=>Ag _ _ _ _ K,λK=>Ag _ _ _ _ K,λK=>Ag _ _ _ _ K,λK=>Ag _ _ _ _ K,rfl⟩
theorem UG {cs:List V}{e:Event} (hp:Da false h cs w F) (hl:lo<=h.length) (hn:I3 w) (hn':Eo w=true->I3 (Mh w e)) (hes:e.text.size<=1048576) :
  ∃ raw r h' F',Af lo 28 [.agg cs,.agg e.cs] h=some (.tup [.agg raw,.bool (Eo w&&(DZ w e).isSome)],h')/\LV raw (Xg w e) r/\Da false h' r (Xg w e) F'/\Mv h [] h' F':=by
 obtain ⟨h1,e1,m1⟩:=UF (lo:=lo) hp hl hn;have hp1:=m1.keep0 Es hp;obtain ⟨a1,c1,a2,c2,a3,c3,a4,c4,F1,F2,F3,F4,rfl,rfl,r1,r2,r3,r4⟩:=hp1;suffices hq:∃ raw r h' F',_=some (V.tup [.agg raw,.bool (Eo w&&(DZ w e).isSome)],h')/\LV raw (Xg w e) r/\Da false h' r (Xg w e) F'/\Mv h [] h' F' from by obtain ⟨raw,r,h',F',e1,hr⟩:=hq;exact ⟨raw,r,h',F',Su e1,hr⟩
 rw[e1,Ac,At];unfold Xg;cases hw:Eo w with
 | false =>obtain ⟨raw,r,rfl,z1,z2⟩:=LC (h:=h1);rw[Ax];exact ⟨_,r,h1,[],rfl,z1,z2,m1⟩
 | true =>
 have hg:Fits w:=⟨world_iff.1 hw⟩;obtain ⟨x1,y1,x2,y2,x3,y3,x4,y4,h2,G1,G2,G3,G4,e2,q1,q2,q3,q4,m2⟩:=GV (lo:=lo) r1 r2 r3 r4 (zc8 hl m1.le) hn;have lt2:=m2.lt (by simp);have W:WN lo (h2 ++ [.rows 4 60 false [w.cs x1 y1 x2 y2 x3 y3 x4 y4]]) h2.length w x1 y1 x2 y2 x3 y3 x4 y4 G1 G2 G3 G4:=by
  refine ⟨by simp,Mv.snoc.keep0 rplacesN_ok q1,Mv.snoc.keep0 rsesss_ok q2,Mv.snoc.keep0 rframes_ok q3,Mv.snoc.keep0 rdones_ok q4,?_,?_,?_⟩
  ·rw[zdg];exact ⟨λhm=>by have:=lt2 _ hm;omega,m2.nd⟩
  ·intro y hy;rcases zdf.1 hy with rfl | hy
   ·have:=m2.le;have:=m1.le;omega
   ·exact m2.ge (zc8 hl m1.le) (by simp) y hy
  ·have:=m2.le;have:=m1.le;simp;omega
 have es:st lo (h2 ++ [.rows 4 60 false [[.sl 0 none 0 (some 0),.sl 0 none 0 (some 0),.sl 0 none 0 (some 0),.sl 0 none 0 (some 0)]]]) h2.length 0 0 (w.cs x1 y1 x2 y2 x3 y3 x4 y4)=some (h2 ++ [.rows 4 60 false [w.cs x1 y1 x2 y2 x3 y3 x4 y4]]):=by rw[DM (lo:=lo) (r:=0) (row := [.sl 0 none 0 (some 0),.sl 0 none 0 (some 0),.sl 0 none 0 (some 0),.sl 0 none 0 (some 0)]) (row':=w.cs x1 y1 x2 y2 x3 y3 x4 y4) (by simp;exact ⟨rfl,rfl,rfl⟩) (by have:=m2.le;have:=m1.le;omega) rfl rfl];simp
 obtain ⟨h4,F4',e4,⟨u1,v1,u2,v2,u3,v3,u4,v4,J1,J2,J3,J4,rfl,W4⟩,M4⟩:=MF W hg hes;have W4:WN lo h4 h2.length (Mh w e) u1 v1 u2 v2 u3 v3 u4 v4 J1 J2 J3 J4:=W4;obtain ⟨z1,t1,z2,t2,z3,t3,z4,t4,h5,K1,K2,K3,K4,e5,k1,k2,k3,k4,m5⟩:=GV (lo:=lo) W4.r1.up W4.r2 W4.r3 W4.r4 W4.hl (hn' hw);have hld:ld h4 h2.length 0 0 4=some ((Mh w e).cs u1 v1 u2 v2 u3 v3 u4 v4):=by rw[BA W4.hb rfl];rfl
 have mm:Mv h [] h5 (K1++(K2++(K3++K4))):=by
  have m24:Mv h [] h4 []:=by
   have m12:=m1.trans m2.drop;have mS:Mv h [] (h2 ++ [.rows 4 60 false [w.cs x1 y1 x2 y2 x3 y3 x4 y4]]) []:=m12.trans Mv.snoc;refine mS.over M4 λy hy=>?_;rcases zdf.1 hy with rfl | hy
   ·have:=m2.le;have:=m1.le;omega
   ·have:=m2.new y hy;have:=m1.le;omega
  exact m24.trans m5
 simp only[World.cs,Event.cs] at e2 es e4 e5 hld;rw[Ao,e2,Ac,AR,Aa,Ag,Aa,Ag,Aa,Ag,Aa,Ag,Ah,es,Ad,e4,Ac,At];have fin:∀ b:Bool,b=(DZ w e).isSome->∃ raw r h' F',some (V.tup [.agg [.sl 6 z1 (Mh w e).places.length t1,.sl 5 z2 (Mh w e).sess.length t2,.sl 9 z3 (Mh w e).net.length t3,.sl 5 z4 (Mh w e).hist.length t4],.bool b],h5)=some (V.tup [.agg raw,.bool (true&&(DZ w e).isSome)],h')/\LV raw (bif true then Mh w e else Ll) r/\Da false h' r (bif true then Mh w e else Ll) F'/\Mv h [] h' F':=λb hb=>by subst hb;exact ⟨_,_,h5,_,rfl,O3,⟨_,_,_,_,_,_,_,_,K1,K2,K3,K4,rfl,rfl,k1.up,k2,k3,k4⟩,mm⟩
 cases hs:(DZ w e).isSome with
 | true =>rw[hs] at fin;rw[Ao,hld,Ad,Aa,Ag,Aa,Ag,Aa,Ag,Aa,Ag,Ah,e5,Ac,AR,Aa,Ag,Aa,Ag,Aa,Ag,Aa,Ag,Ah];exact fin true rfl
 | false =>rw[hs] at fin;rw[Ax,hld,Ad,Aa,Ag,Aa,Ag,Aa,Ag,Aa,Ag,Ah,e5,Ac,AR,Aa,Ag,Aa,Ag,Aa,Ag,Aa,Ag,Ah];exact fin false rfl
end


section
variable {lo:Nat}{h:Heap}
theorem SN:∃ h' q,Af lo 138 [] h=some (.agg [.sl 2 (some (q,0)) 4 (some 4)],h')/\RTags false h' [.sl 2 (some (q,0)) 4 (some 4)] TJ [q]/\Mv h [] h' [q] :=
 ⟨_,h.length,Li rfl,Sli.made (l:=TJ) rfl,Mv.last⟩
theorem SL:∃ h' q,Af lo 272 [] h=some (.agg [.sl 6 (some (q,0)) 4 (some 4)],h')/\RVers false h' [.sl 6 (some (q,0)) 4 (some 4)] KI [q]/\Mv h [] h' [q]:=by
 refine ⟨_,h.length,QE rfl,⟨6,some (h.length,0),some 4,rfl,rfl,[[Iv 0,Iv 0,Iv 0,.sl 0 none 0 (some 0),.str ⟨⟨[]⟩⟩,.bool false],[Iv 0,Iv 0,Iv 0,.sl 0 none 0 (some 0),.str ⟨⟨[]⟩⟩,.bool false],[Iv 0,Iv 0,Iv 0,.sl 0 none 0 (some 0),.str ⟨⟨[]⟩⟩,.bool false],[Iv 0,Iv 0,Iv 0,.sl 0 none 0 (some 0),.str ⟨⟨[]⟩⟩,.bool false]],[[],[],[],[]],by simp,by decide,λk hk=>?_,(λhc=>(by cases hc)),?_,rfl⟩,Mv.last⟩
 ·injection hk with hk;subst hk;exact ⟨by decide,by decide⟩
 ·exact ⟨Is,Is,Is,Is,trivial⟩
theorem SO {m:Nat} (h1:1<=m) (h4:m<=4) (hl:lo<=h.length):∃ b h' F',Af lo 217 [Iv (m:Nat)] h=some (.agg [.sl 2 (some (b,0)) m (some m)],h')/\RNodes false h' [.sl 2 (some (b,0)) m (some m)] (List.replicate m ⟨KI,[]⟩) F'/\Mv h [] h' F':=by
 have m0:Mv h [] (h ++ [.rows 2 47 false (List.replicate m [.sl 0 none 0 (some 0),.sl 0 none 0 (some 0)])]) [h.length]:=Mv.last;generalize hhP:h ++ [Blk.rows 2 47 false (List.replicate m [.sl 0 none 0 (some 0),.sl 0 none 0 (some 0)])]=hP at m0;have sP:RNodes false hP [.sl 2 (some (h.length,0)) 0 (some m)] [] [h.length]:=by rw[<- hhP];exact Sli.fresh (by simp)
 obtain ⟨h',F1,e1,q1,m1⟩:=GI (El:=RNode false) rnode_ok (l:=List.replicate m (⟨KI,[]⟩:Node)) (lo:=lo) (R:=2) (e:=47) (bytes:=48) (N:=m) (p0:=(h.length,0)) (F0 := [h.length])
  (zc8 hl m0.le) (by intro y hy;simp at hy;omega) (by simp) (by decide) (by rw[zd1];omega) (by simp)
  (λi x n d hh=>CL lo (m:Nat) (i:Nat) 0 none 0 (some 0) x n d hh)
  (λi hi hh F hm=>by
   rw[zd1] at hi;obtain ⟨h3,q3,e3,t3,m3⟩:=SL (lo:=lo) (h:=hh);refine ⟨[.sl 6 (some (q3,0)) 4 (some 4),.sl 0 none 0 (some 0)],[q3],h3 ++ [.rows 2 47 false [[.sl 6 (some (q3,0)) 4 (some 4),.sl 0 none 0 (some 0)]]],by rw[List.getElem_replicate];exact ⟨_,_,[q3],[],rfl,rfl,Mv.snoc.keep0 rvers_ok t3,Sli.nil⟩,m3.trans (Mv.snoc' m3.nd),?_⟩;rw[CL.e,Al (by omega),e3,Ac,AR,Aa,Ag,Ah,A7,Ar (by omega)]) sP
 rw[zd1] at e1;refine ⟨h.length,h',F1,QH ?_,by rw[zd1] at q1;exact q1,m0.trans m1⟩;have hw:Ai ((m:Nat):Int) 1 4=true:=by simp only[Ai,CP,decide_eq_true_eq];omega
 rw[I7,Ac,At,hw,Ao,D0 (by omega)];simp only[Bd,hhP];refine e1.trans ?_;rw[CL.e,Ak (by omega)]
theorem SM {i n:Nat} (hi:i<=2) (h1:1<=n) (h4:n<=4) (hl:lo<=h.length):∃ b g h' F',Af lo 147 [Iv (i:Nat),Iv (n:Nat)] h=some (.agg [Iv (i:Nat),Iv 0,.sl 2 (some (b,0)) n (some n),.sl 0 none 0 (some 0),.sl 1 (some (g,0)) 3 (some 3),.bool false],h') /\
  Cy false h' [Iv (i:Nat),Iv 0,.sl 2 (some (b,0)) n (some n),.sl 6 none 0 (some 0),.sl 1 (some (g,0)) 3 (some 3),.bool false] (NP i n) F'/\Mv h [] h' F':=by
 obtain ⟨b,h2,F2,e2,r2,m2⟩:=SO (lo:=h.length) (h:=h) h1 h4 (zdb _);have mx:Mv h2 [] (h2 ++ [.rows 1 26 false [[.sl 0 none 0 (some 0)],[.sl 0 none 0 (some 0)],[.sl 0 none 0 (some 0)]]]) [h2.length]:=Mv.last;have m3:=m2.join mx (rnodes_ok.bd _ _ _ _ r2);have hi2:Ai ((i:Nat):Int) 0 2=true:=by simp only[Ai,CP,decide_eq_true_eq];omega
 have hw:Ai ((n:Nat):Int) 1 4=true:=by simp only[Ai,CP,decide_eq_true_eq];omega
 have hc:(NP i n).chain.length=n:=zd1 ..;refine ⟨b,h2.length,_,F2 ++ [h2.length],QF ?_,⟨some (b,0),some n,none,some 0,some (h2.length,0),some 3,by rw[Place.cs,hc];rfl,_,_,_,F2,[],[h2.length],rfl,rfl,mx.keep0 rnodes_ok r2,Sli.nil,?_⟩,m3⟩
 ·rw[DF,Ac,At,hi2,Ao,I7,Ac,At,hw,Ao,e2,Ac,AR,Aa,Ag,Ah]
 ·refine ⟨1,some (h2.length,0),some 3,rfl,rfl,[[.sl 0 none 0 (some 0)],[.sl 0 none 0 (some 0)],[.sl 0 none 0 (some 0)]],[[],[],[]],by simp,zdb 3,λk hk=>by injection hk with hk;subst hk;exact ⟨zdb 3,zdb 3⟩,(λhk=>by cases hk),?_,rfl⟩;exact ⟨Sli.nil,Sli.nil,Sli.nil,trivial⟩
theorem Yy {T:Type} (K:Pq->Nat->Nq->Option T):eS 9 (.sl 0 none 0 (some 0)) K=K none 0 (some 0):=rfl
theorem YA {T:Type} (K:Pq->Nat->Nq->Option T):eS 5 (.sl 0 none 0 (some 0)) K=K none 0 (some 0):=rfl
theorem ME {n s:Nat} (h1:1<=n) (h4:n<=4) (hs:s<=4) (hl:lo<=h.length):∃ p q h' F1 F2,Af lo 76 [Iv (n:Nat),Iv (s:Nat)] h=some (.agg [.sl 6 (some (p,0)) 3 (some 3),.sl 5 (some (q,0)) s (some s),.sl 0 none 0 (some 0),.sl 0 none 0 (some 0)],h') /\
  RPlacesN h' [.sl 6 (some (p,0)) 3 (some 3)] (Dw n s).places F1/\RSesss false h' [.sl 5 (some (q,0)) s (some s)] (Dw n s).sess F2/\Mv h [] h' (F1++F2):=by
 have mP:Mv h [] (h ++ [.rows 6 29 false [[Iv 0,Iv 0,.sl 0 none 0 (some 0),.sl 0 none 0 (some 0),.sl 0 none 0 (some 0),.bool false],[Iv 0,Iv 0,.sl 0 none 0 (some 0),.sl 0 none 0 (some 0),.sl 0 none 0 (some 0),.bool false],[Iv 0,Iv 0,.sl 0 none 0 (some 0),.sl 0 none 0 (some 0),.sl 0 none 0 (some 0),.bool false]]]) [h.length]:=Mv.last;generalize hhP:h ++ [Blk.rows 6 29 false [[Iv 0,Iv 0,.sl 0 none 0 (some 0),.sl 0 none 0 (some 0),.sl 0 none 0 (some 0),.bool false],[Iv 0,Iv 0,.sl 0 none 0 (some 0),.sl 0 none 0 (some 0),.sl 0 none 0 (some 0),.bool false],[Iv 0,Iv 0,.sl 0 none 0 (some 0),.sl 0 none 0 (some 0),.sl 0 none 0 (some 0),.bool false]]]=hP at mP;have sP:RPlacesN hP [.sl 6 (some (h.length,0)) 0 (some 3)] [] [h.length]:=by rw[<- hhP];exact Sli.fresh (by simp)
 have mS:Mv hP [] (hP ++ [.rows 5 66 false (List.replicate s [Iv 0,.sl 0 none 0 (some 0),Iv 0,Iv 0,Iv 0])]) [hP.length]:=Mv.last;generalize hhS:hP ++ [Blk.rows 5 66 false (List.replicate s [Iv 0,.sl 0 none 0 (some 0),Iv 0,Iv 0,Iv 0])]=hS at mS;have sS:RSesss false hS [.sl 5 (some (hP.length,0)) 0 (some s)] [] [hP.length]:=by rw[<- hhS];exact Sli.fresh (by simp)
 have mPS:=mP.join mS (λy hy=>by have:=mP.lt (by simp) y hy;exact this);have lP:h.length<hP.length:=by have:=mP.lt (by simp) h.length (by simp);exact this
 have lS:hP.length<hS.length:=by have:=mS.lt (by simp) hP.length (by simp);exact this
 have lPl:(Dw n s).places.length=3:=by simp[Dw]
 have lSe:(Dw n s).sess.length=s:=by simp[Dw]
 obtain ⟨h5,G1,e1,q1,m1⟩:=GI (El:=Cy false) Jp (h0:=hS) (l:=(Dw n s).places) (lo:=lo) (R:=6) (e:=29) (bytes:=96) (N:=3) (p0:=(h.length,0)) (F0 := [h.length])
  (zc8 hl mPS.le) (by intro y hy;simp at hy;omega) (by simp) (by decide) (by rw[lPl];decide) (by rw[lPl];exact zdb 3)
  (λi x n1 d hh=>CK lo (n:Nat) (s:Nat) (i:Nat) 0 none 0 (some 0) 0 none 0 (some 0) 0 none 0 (some 0) 0 none 0 (some 0) x n1 d (some (hP.length,0)) 0 (some s) 0 none 0 (some 0) 0 none 0 (some 0) hh)
  (λi hi hh F hm=>by
   have hi3:i<3:=by rw[lPl] at hi;exact hi
   obtain ⟨b,g,h6,K,e6,r6,m6⟩:=SM (lo:=lo) (h:=hh) (i:=i) (n:=n) (by omega) h1 h4 (zc8 (zc8 hl mPS.le) hm.le);refine ⟨[Iv (i:Nat),Iv 0,.sl 2 (some (b,0)) n (some n),.sl 6 none 0 (some 0),.sl 1 (some (g,0)) 3 (some 3),.bool false],K,h6 ++ [.rows 6 29 false [[Iv (i:Nat),Iv 0,.sl 2 (some (b,0)) n (some n),.sl 6 none 0 (some 0),.sl 1 (some (g,0)) 3 (some 3),.bool false]]],?_,m6.trans (Mv.snoc' m6.nd),?_⟩
   ·have:(Dw n s).places[i]=NP i n:=by simp[Dw]
    have r7:=Mv.snoc (t := [.rows 6 29 false [[Iv (i:Nat),Iv 0,.sl 2 (some (b,0)) n (some n),.sl 6 none 0 (some 0),.sl 1 (some (g,0)) 3 (some 3),.bool false]]]) |>.keep0 Jp r6
    rw[<- this] at r7;exact r7
   ·rw[CK.e,Al (by omega),e6,Ac,AR,Aa,Ab,Aa,Ab,Aa,Ag,Aa,Yz,Aa,Ag,Aa,AL,Ah,A7,Ar (by omega)]) (mS.keep0 rplacesN_ok sP)
 have sS1:RSesss false h5 [.sl 5 (some (hP.length,0)) 0 (some s)] [] [hP.length]:=m1.keep rsesss_ok sS (λy hy hm=>by simp at hy hm;omega);obtain ⟨h7,G2,e2,q2,m2⟩:=GI (El:=RSess false) Kn (h0:=h5) (l:=(Dw n s).sess) (lo:=lo) (R:=5) (e:=66) (bytes:=56) (N:=s) (p0:=(hP.length,0)) (F0 := [hP.length])
  (zc8 (zc8 hl mPS.le) m1.le) (by intro y hy;simp at hy;omega) (by simp) (by decide) (by rw[lSe];omega) (by rw[lSe];exact zdb s)
  (λi x n1 d hh=>CJ lo (s:Nat) (i:Nat) 0 none 0 (some 0) 0 none 0 (some 0) 0 none 0 (some 0) 0 none 0 (some 0) (some (h.length,0)) 3 (some 3) x n1 d 0 none 0 (some 0) 0 none 0 (some 0) hh)
  (λi hi hh F hm=>by
   have his:i<s:=by rw[lSe] at hi;exact hi
   obtain ⟨h6,q3,e6,r6,m6⟩:=SN (lo:=lo) (h:=hh);have ht:((i:Int).tmod 3)=((i % 3:Nat):Int):=(Int.ofNat_tmod i 3).symm;refine ⟨[Iv ((i % 3:Nat):Int),.sl 2 (some (q3,0)) 4 (some 4),Iv 0,Iv 0,Iv 0],[q3],h6 ++ [.rows 5 66 false [[Iv ((i % 3:Nat):Int),.sl 2 (some (q3,0)) 4 (some 4),Iv 0,Iv 0,Iv 0]]],?_,m6.trans (Mv.snoc' m6.nd),?_⟩
   ·have:(Dw n s).sess[i]=zbz i:=by simp[Dw]
    rw[this];exact ⟨_,rfl,Mv.snoc.keep0 rtags_ok r6⟩
   ·rw[CJ.e,Al (by omega),e6,Ac,AR,Aa,Ag,Ah,ht,A7,Ar (by omega)]) sS1
 rw[lPl] at e1 q1;rw[lSe] at e2 q2;have lt1:=m1.lt (λy hy=>by simp at hy;omega);have nd0:([h.length] ++ [hP.length]).Nodup:=by have:=mPS.nd;simpa using this
 have M1:Mv hS ([h.length] ++ [hP.length]) h5 (G1 ++ [hP.length]):=m1.mid (.refl _) nd0 (λy hy=>by simp at hy;omega) (.refl _);have M2:Mv h5 (G1 ++ [hP.length]) h7 (G1++G2):=m2.mid zeO M1.nd (λy hy=>lt1 y hy) zeO;have mPS':Mv h [] hS ([h.length] ++ [hP.length]):=by simpa using mPS
 have M:=mPS'.trans (M1.trans M2);refine ⟨h.length,hP.length,h7,G1,G2,Qy ?_,m2.keep rplacesN_ok q1 (λy hy hm=>?_),q2,M⟩
 ·rw[D0 (by omega)];simp only[Bd,hhP,hhS];refine e1.trans ?_;rw[CK.e,Ak (by omega)];refine e2.trans ?_;rw[CJ.e,Ak (by omega)]
 ·have:=M1.nd;rw[zda] at this;exact this.2.2 y hy y hm rfl
end


variable {l:List Event}
section
variable {lo b:Nat}{h:Heap}{a:Pq}{c:Nq}{E:List Nat}
theorem Jz {x y:Int}:Af lo 75 [Iv x,Iv y] h=some (.bool (Ai x 1 4&&Ai y 0 4),h):=by
 refine PC (h':=h) ?_;rw[I7,Ac,At];cases Ai x 1 4
 ·rw[Ax];rfl
 ·rw[Ao,A8,Ac,At,zcF];rfl
theorem V4 (ht:∀ e∈l,e.text.size<=1048576) (hl6:l.length<=1048576):∀ (r m:Nat) (hh:Heap) (w:World) (F:List Nat),
  m+r=l.length->REvents hh [.sl 6 a l.length c] l E->IC lo hh b w F->Good w->(∀ y∈E,y∉F) ->
  ∃ h' F',BI lo b 0 0 a l.length c (l.length:Nat) (m:Nat) 0 none 0 (some 0) 0 none 0 (some 0) 0 none 0 (some 0) 0 none 0 (some 0) hh=BI lo b 0 0 a l.length c (l.length:Nat) (l.length:Nat) 0 none 0 (some 0) 0 none 0 (some 0) 0 none 0 (some 0) 0 none 0 (some 0) h' /\
   IC lo h' b (Fy w (l.drop m)) F'/\Mv hh F h' F':=by
 intro r;induction r with
 | zero =>
  intro m hh w F hm re H hg hd;have:m=l.length:=by omega
  subst this;obtain ⟨a1,c1,a2,c2,a3,c3,a4,c4,F1,F2,F3,F4,rfl,W⟩:=id H;exact ⟨hh,_,rfl,by rw[List.drop_length];exact H,Mv.refl W.nd⟩
 | succ r ih =>
  intro m hh w F hm re H hg hd;have hml:m<l.length:=by omega
  obtain ⟨o,row,G,rfl,hld,⟨rfl,_⟩,_⟩:=re.read hml;obtain ⟨a1,c1,a2,c2,a3,c3,a4,c4,F1,F2,F3,F4,rfl,W⟩:=id H;obtain ⟨h2,F5,e2,W2,m2⟩:=MF (e:=l[m]) W hg.fits (ht _ (zc7 hml));have re2:=m2.keep revents_ok re hd;have hEb:=revents_ok.bd _ _ _ _ re;obtain ⟨h',F',f1,f2,f3⟩:=ih (m+1) h2 (Mh w l[m]) F5 (by omega) re2 W2 (I8 hg) (λy hy hm=>by
   rcases m2.sub y hm with g | g
   ·exact hd y hy g
   ·have:=hEb y hy;omega)
  have hld6:ld hh o.1 (o.2+m) 0 6=some l[m].cs:=by rw[hld];exact Ja rfl
  simp only[Event.cs] at hld6 e2;refine ⟨h',F',?_,by rw[zdn hml,MP];exact f2,m2.trans f3⟩;rw[BI.e,Al (by omega),Ae hml,Ad,Bd,hld6,Ad,Aa,Ab,Aa,Ab,Aa,Ab,Aa,Ab,Aa,BG,Aa,AL,Ah,e2,Ac,At,Ar (by omega)];cases (DZ w l[m]).isSome
  ·rw[Ax];exact f1
  ·rw[Ao];exact f1
theorem Xo {n s p q:Nat}{h1:Heap}{F1 F2:List Nat} (q1:RPlacesN h1 [.sl 6 (some (p,0)) 3 (some 3)] (Dw n s).places F1) (q2:RSesss false h1 [.sl 5 (some (q,0)) s (some s)] (Dw n s).sess F2) (m:Mv h [] h1 (F1++F2)) (hl:lo<=h.length) :
  ∃ h2,st lo (h1 ++ [.rows 4 60 false [[.sl 0 none 0 (some 0),.sl 0 none 0 (some 0),.sl 0 none 0 (some 0),.sl 0 none 0 (some 0)]]]) h1.length 0 0 [.sl 6 (some (p,0)) 3 (some 3),.sl 5 (some (q,0)) s (some s),.sl 9 none 0 (some 0),.sl 5 none 0 (some 0)]=some h2 /\
   IC lo h2 h1.length (Dw n s) (h1.length ::(F1++(F2++([] ++ []))))/\Mv h [] h2 (h1.length ::(F1++(F2++([] ++ [])))):=by
 have lSe:(Dw n s).sess.length=s:=by simp[Dw]
 have hcs:([.sl 6 (some (p,0)) 3 (some 3),.sl 5 (some (q,0)) s (some s),.sl 9 none 0 (some 0),.sl 5 none 0 (some 0)]:List V)=(Dw n s).cs (some (p,0)) (some 3) (some (q,0)) (some s) none (some 0) none (some 0):=by rw[World.cs,lSe];rfl
 have lt:=m.lt (by simp);have mS:Mv h1 [] (h1 ++ [.rows 4 60 false [(Dw n s).cs (some (p,0)) (some 3) (some (q,0)) (some s) none (some 0) none (some 0)]]) [h1.length]:=Mv.last;have mm:=m.join mS lt;have hnd:(h1.length ::(F1++(F2++([] ++ [])))).Nodup:=by rw[zdg];refine ⟨λhm=>?_,by simpa using m.nd⟩;have:=lt h1.length (by simpa using hm);omega
 refine ⟨h1 ++ [.rows 4 60 false [(Dw n s).cs (some (p,0)) (some 3) (some (q,0)) (some s) none (some 0) none (some 0)]],?_,⟨some (p,0),some 3,some (q,0),some s,none,some 0,none,some 0,F1,F2,[],[],rfl,by simp,mS.keep0 rplacesN_ok q1,by rw[lSe];exact mS.keep0 rsesss_ok q2,Sli.nil,Sli.nil,hnd,?_,?_⟩,mm.lean hnd λy hy=>?_⟩
 ·rw[hcs,DM (lo:=lo) (r:=0) (row := [.sl 0 none 0 (some 0),.sl 0 none 0 (some 0),.sl 0 none 0 (some 0),.sl 0 none 0 (some 0)]) (row':=(Dw n s).cs (some (p,0)) (some 3) (some (q,0)) (some s) none (some 0) none (some 0)) (by simp;exact ⟨rfl,rfl,rfl⟩) (by have:=m.le;omega) rfl rfl];simp
 ·intro y hy;rcases zdf.1 hy with rfl | hy
  ·have:=m.le;omega
  ·have:=m.new y (by simpa using hy);omega
 ·have:=m.le;simp;omega
 ·simp only[zc9,zdf,List.not_mem_nil,or_false] at hy ⊢;grind
theorem RM {n s:Nat} (h1:1<=n) (h4:n<=4) (hs:s<=4) (re:REvents h [.sl 6 a l.length c] l E) (ht:∀ e∈l,e.text.size<=1048576) (hl6:l.length<=1048576) (hl:lo<=h.length) :
  ∃ b1 d1 b2 d2 b3 d3 b4 d4 h' F',Af lo 25 [Iv (n:Nat),Iv (s:Nat),.sl 6 a l.length c] h=some (.agg ((Fy (Dw n s) (l.take 60)).cs b1 d1 b2 d2 b3 d3 b4 d4),h')/\Da false h' ((Fy (Dw n s) (l.take 60)).cs b1 d1 b2 d2 b3 d3 b4 d4) (Fy (Dw n s) (l.take 60)) F'/\Mv h [] h' F':=by
 obtain ⟨p,q,h2,G1,G2,e2,q1,q2,m2⟩:=ME (lo:=lo) (h:=h) h1 h4 hs hl;obtain ⟨h3,e3,W3,m3⟩:=Xo q1 q2 m2 hl;obtain ⟨k,hk,hkl⟩:∃ k:Nat,(if (60:Int)<((l.length:Nat):Int) then (60:Int) else ((l.length:Nat):Int))=(k:Int)/\k=min 60 l.length:=by refine ⟨min 60 l.length,?_,rfl⟩;split<;>omega
 have hkl':k<=l.length:=by omega
 have hlen:(l.take 60).length=k:=by rw[zdr];omega
 have htk:l.take k=l.take 60:=by
  rw[hkl];by_cases h60:60<=l.length
  ·rw[zeT h60]
  ·rw[Nat.min_eq_right (by omega),zdC (by omega),zdC (by omega)]
 obtain ⟨E',re'⟩:=Sli.pre re hkl';rw[htk,<- hlen] at re';have hEb:=revents_ok.bd _ _ _ _ re';have hg:=Kq h1 h4 hs;obtain ⟨h5,F5,f1,f2,f3⟩:=V4 (λe he=>ht e (zev he)) (by omega) (l.take 60).length 0 h3 (Dw n s) _ (by omega) (m3.keep0 revents_ok re') W3 hg (λy hy hm=>by have:=m3.new y hm;have:=hEb y hy;omega);rw[zdX] at f2;obtain ⟨u1,v1,u2,v2,u3,v3,u4,v4,J1,J2,J3,J4,rfl,W4⟩:=f2;obtain ⟨z1,t1,z2,t2,z3,t3,z4,t4,h6,K1,K2,K3,K4,e6,k1,k2,k3,k4,m6⟩:=GV (lo:=lo) W4.r1.up W4.r2 W4.r3 W4.r4 W4.hl (Oc (Mc hg));have hld:ld h5 h2.length 0 0 4=some ((Fy (Dw n s) (l.take 60)).cs u1 v1 u2 v2 u3 v3 u4 v4):=by rw[BA W4.hb rfl];rfl
 have hw1:Ai ((n:Nat):Int) 1 4=true:=by simp only[Ai,CP,decide_eq_true_eq];omega
 have hw2:Ai ((s:Nat):Int) 0 4=true:=by simp only[Ai,CP,decide_eq_true_eq];omega
 refine ⟨z1,t1,z2,t2,z3,t3,z4,t4,h6,_,KF ?_,⟨_,_,_,_,_,_,_,_,K1,K2,K3,K4,rfl,rfl,k1.up,k2,k3,k4⟩,(m3.trans f3).drop.trans m6⟩;simp only[World.cs] at e6 hld;rw[Jz,Ac,At,hw1,hw2,zeL,Ao,e2,Ac,AR,Aa,Ag,Aa,Ag,Aa,Yy,Aa,YA,Ah,e3,Ad,hk,It re hkl',<- hlen];refine f1.trans ?_;rw[BI.e,Ak (by omega),hld,Ad,Aa,Ag,Aa,Ag,Aa,Ag,Aa,Ag,Ah,e6,Ac,AR,Aa,Ag,Aa,Ag,Aa,Ag,Aa,Ag,Ah]
theorem N3 {x y:Int}{n:Nat} (hno:(Ai x 1 4&&Ai y 0 4)=false):Af lo 25 [Iv x,Iv y,.sl 6 a n c] h=some (.agg [.sl 0 none 0 (some 0),.sl 0 none 0 (some 0),.sl 0 none 0 (some 0),.sl 0 none 0 (some 0)],h):=by refine KF ?_;rw[Jz,Ac,At,hno,Ax]
end


variable {x y:Int}{l:List Event}
def Fb (x y:Int):Bool:=Ai x 1 4&&Ai y 0 4
def EF (x y:Int) (l:List Event):World:=bif Fb x y then Fy (Dw x.toNat y.toNat) (l.take 60) else Ll
theorem Or (h:Fb x y=true):∃ n s:Nat,x=(n:Int)/\y=(s:Int)/\1<=n/\n<=4/\s<=4:=by simp only[Fb,Ai,CP,decide_eq_true_eq] at h;exact ⟨x.toNat,y.toNat,by omega,by omega,by omega,by omega,by omega⟩
theorem YL:I3 Ll:=⟨⟨by decide,by intro p hp;cases hp⟩,⟨by decide,by intro p hp;cases hp⟩,⟨by decide,by intro p hp;cases hp⟩,by decide⟩
theorem Ko (h:Fb x y=true):Good (EF x y l):=by unfold EF;rw[h,cond_true];obtain ⟨n,s,rfl,rfl,h1,h4,hs⟩:=Or h;exact Mc (Kq h1 h4 hs)
theorem QM:I3 (EF x y l):=by
 cases h:Fb x y with
 | true=>exact Oc (Ko h)
 | false=>unfold EF;rw[h];exact YL
section
variable {lo:Nat}{h:Heap}{a:Pq}{c:Nq}{E F:List Nat}
theorem L9 (re:REvents h [.sl 6 a l.length c] l E) (ht:∀ e∈l,e.text.size<=1048576) (hl6:l.length<=1048576) (hl:lo<=h.length) :
  ∃ raw r h' F',Af lo 25 [Iv x,Iv y,.sl 6 a l.length c] h=some (.agg raw,h')/\LV raw (EF x y l) r/\Da false h' r (EF x y l) F'/\Mv h [] h' F':=by
 unfold EF;cases hok:Fb x y with
 | true =>obtain ⟨n,s,rfl,rfl,h1,h4,hs⟩:=Or hok;obtain ⟨b1,d1,b2,d2,b3,d3,b4,d4,h',F',e1,r1,m1⟩:=RM (lo:=lo) h1 h4 hs re ht hl6 hl;exact ⟨_,_,h',F',e1,O3,r1,m1⟩
 | false =>obtain ⟨raw,r,rfl,z1,z2⟩:=LC (h:=h);exact ⟨_,r,h,[],N3 hok,z1,z2,Mv.nil⟩
theorem L4 (re:REvents h [.sl 6 a l.length c] l E) (ht:∀ e∈l,e.text.size<=1048576) (hl6:l.length<=1048576) (hl:lo<=h.length) :
  ∃ raw r h' F',Af lo 23 [Iv x,Iv y,.sl 6 a l.length c] h=some (.agg raw,h')/\LV raw (EF x y l) r/\Da false h' r (EF x y l) F'/\Mv h [] h' F':=by
 suffices hq:∃ raw r h' F',_=some (V.agg raw,h')/\LV raw (EF x y l) r/\Da false h' r (EF x y l) F'/\Mv h [] h' F' from by obtain ⟨raw,r,h',F',e,hr⟩:=hq;exact ⟨raw,r,h',F',PB e,hr⟩
 obtain ⟨raw,r,rfl,z1,z2⟩:=LC (h:=h);unfold EF;rw[Ca,Ac,At];cases hx:Ai x 1 4 with
 | false=>rw[show Fb x y=false by unfold Fb;rw[hx];rfl,Ax];exact ⟨_,r,h,[],rfl,z1,z2,Mv.nil⟩
 | true =>
 rw[Ao,Ca,Ac,At];cases hy:Ai y 0 4 with
 | false=>rw[show Fb x y=false by unfold Fb;rw[hy,zee],Ax];exact ⟨_,r,h,[],rfl,z1,z2,Mv.nil⟩
 | true =>
 have hok:Fb x y=true:=by unfold Fb;rw[hx,hy];rfl
 obtain ⟨n,s,rfl,rfl,h1,h4,hs⟩:=Or hok;obtain ⟨cs',h',F',e1,⟨u1,v1,u2,v2,u3,v3,u4,v4,J1,J2,J3,J4,rfl,rfl,W4⟩,m1⟩:=Vz (lo:=lo) h1 h4 hs re ht hl6 hl;simp only[World.cs] at e1;rw[hok,Ao,e1,Ac,AR,Aa,Ag,Aa,Ag,Aa,Ag,Aa,Ag,Ah];exact ⟨_,_,h',_,rfl,O3,⟨_,_,_,_,_,_,_,_,J1,J2,J3,J4,rfl,rfl,W4.r1,W4.r2,W4.r3,W4.r4⟩,m1⟩
theorem Ki {a0:Pq}{c0:Nq}{code:List UInt8} (hs:RBytes h [.sl 1 a0 code.length c0] code F) (hF:∀ y∈F,y<lo) (hl:lo<=h.length) (hn:code.length<=1048576) (hcap:∀ k,c0=some k->code.length<=k) :
  ∃ (x y:Int) (l:List Event) (a:Pq) (c:Nq) (h':Heap) (E:List Nat),Af lo 20 [.sl 1 a0 code.length c0] h=some (.tup [Iv x,Iv y,.sl 6 a l.length c],h')/\REvents h' [.sl 6 a l.length c] l E/\(∀ e∈l,e.text.size<=1048576)/\l.length<=1048576/\(1<=y/\y<=4)/\Mv h [] h' []:=by
 obtain ⟨b,h1,e1,r1,m1⟩:=Y5 hs hF hl hn hcap;have l1:=zc8 hl m1.le;obtain ⟨n0,s0,l,a,c,h2,E,e2,hn0,hs0,re,ht,hl6,r2,m2⟩:=Uo r1 (by omega) l1;obtain ⟨v,h3,e3,_,_,r3,m3⟩:=pick r2 (by omega) 16;have hbE:b∉E:=by have:=m2.nd;rw[zdg] at this;exact this.1
 have re3:=m3.keep revents_ok re (λy hy hm=>by rw[zdv] at hm;exact hbE (hm ▸ hy));have ht':∀ e∈l,e.text.size<=1048576:=λe he=>by have:=ht e he;omega
 have m13:Mv h [] h3 []:=(m1.trans (m2.lean (F'' := [b]) (by simp) (by simp))).trans m3 |>.drop
 by_cases hv:v=0
 ·obtain ⟨x,h4,e4,_,r4,m4⟩:=Ix (e:=3) [0,5] (rows := [[Iv 0],[Iv 5]]) (len:=2) (cc:=some 2) r3 (by omega) rfl rfl (by decide);refine ⟨x,s0,l,a,c,h4,E,ID ?_,m4.keep revents_ok re3 (λy hy hm=>by rw[zdv] at hm;exact hbE (hm ▸ hy)),ht',by omega,by omega,?_⟩
  ·rw[e1,Ac,zcQ,e2,Ac,HA,Aa,Ab,Aa,Ab,Aa,Ag,Ah,e3,Ac,Ab,hv,IB,Ao,e4,Ac,Ab]
  ·exact (((m1.trans (m2.lean (F'' := [b]) (by simp) (by simp))).trans m3).trans m4).drop
 ·refine ⟨n0,s0,l,a,c,h3,E,ID ?_,re3,ht',by omega,by omega,m13⟩;rw[e1,Ac,zcQ,e2,Ac,HA,Aa,Ab,Aa,Ab,Aa,Ag,Ah,e3,Ac,Ab,show (v==(0:Int))=false by simpa using hv,Ax]
end


section
variable {h:Heap}
theorem zcH {n t:Nat}{xs:List V} (hu:Tryz.prog.underlying t=some (.int .u8)) (hx:TV Tryz.prog h (n+1) t xs):∃ u:UInt8,xs=zcT u:=by
 simp only[TV,hu] at hx;obtain ⟨i,rfl,h2⟩:=hx;have e1:IntKind.u8.min=0:=by decide
 have e2:IntKind.u8.max=255:=by decide
 simp only[Lit.wf,CP,decide_eq_true_eq,e1,e2] at h2;refine ⟨UInt8.ofNat i.toNat,?_⟩;unfold zcT;rw[UInt8.toNat_ofNat',Nat.mod_eq_of_lt (by omega),show ((i.toNat:Nat):Int)=i by omega]
theorem Oq {n:Nat}{x:V} (hx:ArgV Tryz.prog h (n+2) 22 x):∃ (a:Pq) (c:Nq) (l:List UInt8) (F:List Nat),x = .sl 1 a l.length c/\RBytes h [.sl 1 a l.length c] l F/\(∀ y∈F,y<h.length)/\∀ k,c=some k->l.length<=k:=by
 have hx2:TV Tryz.prog h (n+2) 22 [x]:=by unfold ArgV at hx;rw[Tryz.underlying22] at hx;exact hx
 have hx3:=hx2;simp only[TV,Tryz.underlying22] at hx3;obtain ⟨a,c,rs,e,⟨_,hcap⟩,_⟩:=hx3;injection e with e _;subst e;obtain ⟨l,F,h1,_⟩:=zci (El:=flat zcT) (bd:=λ_=>True) (ee:=0) (R:=1) Tryz.underlying22 (by kernel_rfl) (λrow hr=>by obtain ⟨t,rfl⟩:=zcH (n:=n) Tryz.underlying5 hr;exact ⟨t,[],⟨rfl,rfl⟩,trivial⟩) hx2;have hv:=h1.val;have hc:Tryz.prog.cellsOf 5=1:=by kernel_rfl
 rw[hv,hc] at h1;exact ⟨a,c,l,F,by rw[hv,hc],h1,(Sli.ok DG).bd _ _ _ _ h1,λk hk=>by rw[<- hv];exact hcap k hk⟩
end


section
variable {lo:Nat}{ro ro':Bool}{h:Heap}{F F':List Nat}
theorem zb4 {p:Place}{a1 a2 a3 a1' a2' a3':Pq}{c1 c2 c3 c1' c2' c3':Nq} (h1:RPlace ro h (p.cs a1 c1 a2 c2 a3 c3) p F) (h2:RPlace ro' h (p.cs a1' c1' a2' c2' a3' c3') p F') (hn:Ii p) :
  Af lo 12 [.agg (p.cs a1 c1 a2 c2 a3 c3),.agg (p.cs a1' c1' a2' c2' a3' c3')] h=some (.bool true,h):=by
 obtain ⟨n1,n2,n3⟩:=hn;have n3':=n3.1;obtain ⟨G1,G2,G3,_,p1,p2,p3⟩:=h1.cells;obtain ⟨G1',G2',G3',_,q1,q2,q3⟩:=h2.cells;refine So (h':=h) ?_;rw[IB,Ao,IB,Ao,zcS,Ao,zb5 p1 q1 n1,Ac,At,Ao,XT p2 q2 n2,Ac,At,Ao,IB,Ao];refine (FQ (n:=p.got.length) (λi=>C0 h.length false (i:Nat) p.me p.clock a1 p.chain.length c1 a2 p.log.length c2 a3 p.got.length c3 p.fell p.me p.clock a1' p.chain.length c1' a2' p.log.length c2' a3' p.got.length c3' p.fell h) λi hi=>?_).trans ?_
 ·obtain ⟨o,s,b1,d1,G,ha,ho,es,hp,_⟩:=p3.get hi;obtain ⟨o',s',b1',d1',G',ha',ho',es',hp',_⟩:=q3.get hi;rw[C0.e,Al (by omega),Ae hi,ha,Ad,Bd,ho,Ad,Aa,Ah,es,Ae hi,ha',Ad,ho',Ad,Aa,Ah,es',XT hp hp' (n3.2 _ (zc7 hi)),Ac,At,Ao,Ar (show i<9223372036854775807 by omega)]
 ·rw[C0.e,Ak (by omega)]
end


section
variable {lo:Nat}{ro ro':Bool}{h:Heap}{F F':List Nat}{a a':Pq}{c c':Nq}
theorem za0 {l:List Done} (h1:RDones ro h [.sl 5 a l.length c] l F) (h2:RDones ro' h [.sl 5 a' l.length c'] l F') (hn:l.length<=1048576):Af lo 24 [.sl 5 a l.length c,.sl 5 a' l.length c'] h=some (.bool true,h):=by
 refine Tf (h':=h) ?_;rw[IB,Ao];refine (FQ (n:=l.length) (λi=>Ds h.length a l.length c a' l.length c' false (i:Nat) h) λi hi=>?_).trans ?_
 ·obtain ⟨o,rfl,ho⟩:=h1.get hi;obtain ⟨o',rfl,ho'⟩:=h2.get hi;rw[Ds.e,Al (by omega),Ae hi,Ad,Bd,ho,Ad,Aa,Ab,Aa,Ab,Aa,Ab,Aa,Ab,Aa,Ab,Ah,Ae hi,Ad,ho',Ad,Aa,Ab,Aa,Ab,Aa,Ab,Aa,Ab,Aa,Ab,Ah];simp only[IB,zeL,Ao,Ar (show i<9223372036854775807 by omega)]
 ·rw[Ds.e,Ak (by omega)]
theorem On {w:World}{a1 a2 a3 a4 a1' a2' a3' a4':Pq}{c1 c2 c3 c4 c1' c2' c3' c4':Nq} (h1:Da ro h (w.cs a1 c1 a2 c2 a3 c3 a4 c4) w F) (h2:Da ro' h (w.cs a1' c1' a2' c2' a3' c3' a4' c4') w F') (hn:I3 w) :
  Af lo 22 [.agg (w.cs a1 c1 a2 c2 a3 c3 a4 c4),.agg (w.cs a1' c1' a2' c2' a3' c3' a4' c4')] h=some (.bool true,h):=by
 obtain ⟨⟨n1,n1'⟩,⟨n2,n2'⟩,⟨n3,n3'⟩,n4⟩:=hn;obtain ⟨_,_,_,_,_,_,_,_,F1,F2,F3,F4,q,_,r1,r2,r3,r4⟩:=h1;obtain ⟨_,_,_,_,_,_,_,_,F1',F2',F3',F4',q',_,r1',r2',r3',r4'⟩:=h2;injection q with q1 q;injection q1 with _ x1 _ y1;subst x1;subst y1;injection q with q2 q;injection q2 with _ x2 _ y2;subst x2;subst y2;injection q with q3 q;injection q3 with _ x3 _ y3;subst x3;subst y3;injection q with q4 q;injection q4 with _ x4 _ y4;subst x4;subst y4;injection q' with q1 q';injection q1 with _ x1 _ y1;subst x1;subst y1;injection q' with q2 q';injection q2 with _ x2 _ y2;subst x2;subst y2;injection q' with q3 q';injection q3 with _ x3 _ y3;subst x3;subst y3;injection q' with q4 q';injection q4 with _ x4 _ y4;subst x4;subst y4;refine Sm (h':=h) ?_;rw[IB,Ao,IB,Ao,IB,Ao,za0 r4 r4' n4,Ac,At,Ao];refine (FQ (n:=w.places.length) (λi=>CY h.length false (i:Nat) a1 w.places.length c1 a2 w.sess.length c2 a3 w.net.length c3 a4 w.hist.length c4 a1' w.places.length c1' a2' w.sess.length c2' a3' w.net.length c3' a4' w.hist.length c4' h) λi hi=>?_).trans ?_
 ·obtain ⟨o,s1,s2,s3,x1,y1,x2,y2,x3,y3,J1,J2,J3,ha,ho,_,_,_,_,es1,es2,es3,g1,g2,g3,_⟩:=r1.get hi;obtain ⟨o',t1,t2,t3,z1,w1,z2,w2,z3,w3,J1',J2',J3',ha',ho',_,_,_,_,et1,et2,et3,g1',g2',g3',_⟩:=r1'.get hi;have e5:=zb4 (lo:=h.length) (p:=w.places[i]) ⟨_,_,_,J1,J2,J3,rfl,rfl,g1,g2,g3⟩ ⟨_,_,_,J1',J2',J3',rfl,rfl,g1',g2',g3'⟩ (n1' _ (zc7 hi));simp only[Place.cs] at e5;rw[CY.e,Al (by omega),Ae hi,ha,Ad,Bd,ho,Ad,Aa,Ab,Aa,Ab,Aa,es1,Aa,es2,Aa,es3,Aa,AL,Ah,Ae hi,ha',Ad,ho',Ad,Aa,Ab,Aa,Ab,Aa,et1,Aa,et2,Aa,et3,Aa,AL,Ah,e5,Ac,At,Ao,Ar (by omega)]
 rw[CY.e,Ak (by omega)];refine (FQ (n:=w.sess.length) (λi=>CX h.length false (i:Nat) a1 w.places.length c1 a2 w.sess.length c2 a3 w.net.length c3 a4 w.hist.length c4 a1' w.places.length c1' a2' w.sess.length c2' a3' w.net.length c3' a4' w.hist.length c4' h) λi hi=>?_).trans ?_
 ·obtain ⟨o,v,x1,y1,J,ha,ho,_,_,es,hp,_⟩:=r2.get hi;obtain ⟨o',v',x1',y1',J',ha',ho',_,_,es',hp',_⟩:=r2'.get hi;rw[CX.e,Al (by omega),Ae hi,ha,Ad,Bd,ho,Ad,Aa,Ab,Aa,es,Aa,Ab,Aa,Ab,Aa,Ab,Ah,Ae hi,ha',Ad,ho',Ad,Aa,Ab,Aa,es',Aa,Ab,Aa,Ab,Aa,Ab,Ah,IB,Ao];simp only[IB,zeL,Ao];rw[zaZ hp hp' (n2' _ (zc7 hi)),Ac,At,Ao,Ar (by omega)]
 rw[CX.e,Ak (by omega)];refine (FQ (n:=w.net.length) (λi=>CW h.length false (i:Nat) a1 w.places.length c1 a2 w.sess.length c2 a3 w.net.length c3 a4 w.hist.length c4 a1' w.places.length c1' a2' w.sess.length c2' a3' w.net.length c3' a4' w.hist.length c4' h) λi hi=>?_).trans ?_
 ·obtain ⟨o,v,x1,y1,J,ha,ho,es,hp,_⟩:=r3.get hi;obtain ⟨o',v',x1',y1',J',ha',ho',es',hp',_⟩:=r3'.get hi;have e5:=zaY (lo:=h.length) (v:=w.net[i].ver) hp hp' (n3' _ (zc7 hi)).1;simp only[Ver.cs] at e5;rw[CW.e,Al (by omega),Ae hi,ha,Ad,Bd,ho,Ad,Aa,Ab,Aa,Ab,Aa,Ab,Aa,Ab,Aa,Ab,Aa,Ab,Aa,es,Aa,BG,Aa,AL,Ah,Ae hi,ha',Ad,ho',Ad,Aa,Ab,Aa,Ab,Aa,Ab,Aa,Ab,Aa,Ab,Aa,Ab,Aa,es',Aa,BG,Aa,AL,Ah,IB,Ao,IB,Ao,IB,Ao,e5,Ac,At,Ao,Ar (by omega)]
 rw[CW.e,Ak (by omega)]
end


section
variable {lo:Nat}{h:Heap}{a:Pq}{c:Nq}{E F:List Nat}{x y:Int}{l:List Event}
theorem Z6 {k:Nat}:Fb x y=true->∃ r,EF x y l=Fy (EF x y (l.take k)) r:=λhok=>by unfold EF;rw[hok,cond_true,cond_true];exact Z8
theorem Y0 {k:Nat}:More (EF x y (l.take k)) (EF x y l):=by
 cases hok:Fb x y with
 | true =>obtain ⟨r,hr⟩:=Z6 (l:=l) (k:=k) hok;rw[hr];exact Y2 (Ko hok)
 | false=>unfold EF;rw[hok];exact More.refl
theorem TE:∀ s∈(EF x y l).sess,Dl s=true:=λs hs=>by
 cases hok:Fb x y with
 | true=>exact (Ko hok).ok.sess s hs
 | false=>unfold EF at hs;rw[hok] at hs;cases hs
theorem Xt {far:Nat} (re:REvents h [.sl 6 a l.length c] l E) (ht:∀ e∈l,e.text.size<=1048576) (hl6:l.length<=1048576) (hl:lo<=h.length) :
  ∃ k a1 c1 a2 c2 a3 c3 a4 c4 b1 d1 b2 d2 b3 d3 b4 d4 h' F1 F2,Af lo 21 [Iv x,Iv y,.sl 6 a l.length c,Iv (far:Nat)] h=some (.tup [.agg ((EF x y (l.take k)).cs a1 c1 a2 c2 a3 c3 a4 c4),.agg ((EF x y l).cs b1 d1 b2 d2 b3 d3 b4 d4)],h') /\
   Da false h' ((EF x y (l.take k)).cs a1 c1 a2 c2 a3 c3 a4 c4) (EF x y (l.take k)) F1/\Da false h' ((EF x y l).cs b1 d1 b2 d2 b3 d3 b4 d4) (EF x y l) F2/\Mv h [] h' []:=by
 obtain ⟨k,hk⟩:∃ k,k=far % (l.length+1):=⟨_,rfl⟩;have hkl:k<=l.length:=by have:=Nat.mod_lt far (show 0<l.length+1 by omega);omega
 have hlen:(l.take k).length=k:=by rw[zdr];omega
 obtain ⟨E',re'⟩:=Sli.pre re hkl;replace re':REvents h [.sl 6 a (l.take k).length c] (l.take k) E':=by rw[hlen];exact re'
 obtain ⟨raw1,r1,h1,F1,e1,n1,q1,m1⟩:=L9 (lo:=lo) (x:=x) (y:=y) re' (λe he=>ht e (zev he)) (by rw[zdr];omega) hl;obtain ⟨raw2,r2,h2,F2,e2,n2,q2,m2⟩:=L9 (lo:=lo) (x:=x) (y:=y) (m1.drop.keep0 revents_ok re) ht hl6 (zc8 hl m1.le);rw[hlen] at e1;obtain ⟨s1,s2,s3,s4,a1,c1,a2,c2,a3,c3,a4,c4,rfl,es1,es2,es3,es4,rfl⟩:=n1;obtain ⟨t1,t2,t3,t4,b1,d1,b2,d2,b3,d3,b4,d4,rfl,et1,et2,et3,et4,rfl⟩:=n2;refine ⟨k,a1,c1,a2,c2,a3,c3,a4,c4,b1,d1,b2,d2,b3,d3,b4,d4,h2,F1,F2,Vk ?_,m2.keep0 Es q1,q2,m1.drop.trans m2.drop⟩;have hw:Am ((l.length:Int)+1)=(l.length:Int)+1:=wr (by omega) (by omega);have htm:((far:Nat):Int).tmod ((l.length:Int)+1)=(k:Nat):=by rw[hk];exact (Int.ofNat_tmod far (l.length+1)).symm
 rw[hw,D0 (by omega),htm,It re hkl,e1,Ac,AR,Aa,es1,Aa,es2,Aa,es3,Aa,es4,Ah,e2,Ac,AR,Aa,et1,Aa,et2,Aa,et3,Aa,et4,Ah]
end
theorem Qh {h:Heap}{F:List Nat}{a0 a1:Pq}{c0 c1:Nq}{n1:Nat}{code:List UInt8} (hs:RBytes h [.sl 1 a0 code.length c0] code F) (hF:∀ y∈F,y<h.length) (hcap:∀ k,c0=some k->code.length<=k) :
  ∃ h',Af h.length 4 [.sl 1 a0 code.length c0,.sl 1 a1 n1 c1] h=some (.bool true,h'):=by
 suffices hk:∃ h',_=some (V.bool true,h') from by obtain ⟨h',e⟩:=hk;exact ⟨h',Nj e⟩
 by_cases hbig:(code.length:Int)>1048576
 ·rw[Al hbig];exact ⟨h,rfl⟩
 rw[Ak hbig];by_cases hbig2:(n1:Int)>1048576
 ·rw[Al hbig2];exact ⟨h,rfl⟩
 rw[Ak hbig2];obtain ⟨x,y,l,a,c,h1,E,e1,re,ht,hl6,hy,m1⟩:=Ki (lo:=h.length) hs hF (zdb _) (by omega) hcap;obtain ⟨k,x1,y1,x2,y2,x3,y3,x4,y4,b1,d1,b2,d2,b3,d3,b4,d4,h2,F1,F2,e2,q1,q2,m2⟩:=Xt (lo:=h.length) (x:=x) (y:=y) (far:=n1) re ht hl6 m1.le;obtain ⟨raw3,r3,h3,F3,e3,n3,q3,m3⟩:=L4 (lo:=h.length) (x:=x) (y:=y) (m2.keep0 revents_ok re) ht hl6 (zc8 m1.le m2.le);have hm:=Y0 (x:=x) (y:=y) (l:=l) (k:=k);have hso:=TE (x:=x) (y:=y) (l:=l);have hso':=TE (x:=x) (y:=y) (l:=l.take k);have hsm:=QM (x:=x) (y:=y) (l:=l);have hsm':=QM (x:=x) (y:=y) (l:=l.take k);generalize EF x y l=w at *
 generalize EF x y (l.take k)=u at *
 obtain ⟨t1,t2,t3,t4,z1,w1,z2,w2,z3,w3,z4,w4,rfl,et1,et2,et3,et4,rfl⟩:=n3;have q1':=m3.keep0 Es q1;have q2':=m3.keep0 Es q2;have e4:=On (lo:=h.length) q2' q3 hsm;simp only[World.cs] at e2 e4;rw[e1,Ac,HA,Aa,Ab,Aa,Ab,Aa,Ag,Ah,e2,Ac,HA,Aa,AR,Aa,Ag,Aa,Ag,Aa,Ag,Aa,Ag,Ah,Aa,AR,Aa,Ag,Aa,Ag,Aa,Ag,Aa,Ag,Ah,Ah,e3,Ac,AR,Aa,et1,Aa,et2,Aa,et3,Aa,et4,Ah,e4,Ac,At,Ao];obtain ⟨_,_,_,_,_,_,_,_,G1,G2,G3,G4,g,_,p1,p2,p3,p4⟩:=q1';injection g with g1 g;injection g with g2 g;injection g with g3 g;injection g with g4 g;injection g1 with _ o1 _ o2;subst o1;subst o2;injection g2 with _ o1 _ o2;subst o1;subst o2;injection g3 with _ o1 _ o2;subst o1;subst o2;injection g4 with _ o1 _ o2;subst o1;subst o2;obtain ⟨_,_,_,_,_,_,_,_,J1,J2,J3,J4,g,_,v1,v2,v3,v4⟩:=q2';injection g with g1 g;injection g with g2 g;injection g with g3 g;injection g with g4 g;injection g1 with _ o1 _ o2;subst o1;subst o2;injection g2 with _ o1 _ o2;subst o1;subst o2;injection g3 with _ o1 _ o2;subst o1;subst o2;injection g4 with _ o1 _ o2;subst o1;subst o2;refine ⟨h3,?_⟩;have n2:=hsm.2.1.1;have hlen:=hm.len;refine (FQ (n:=w.sess.length) (λi=>B0 h.length false (i:Nat) x1 u.places.length y1 x2 u.sess.length y2 x3 u.net.length y3 x4 u.hist.length y4 b1 w.places.length d1 b2 w.sess.length d2 b3 w.net.length d3 b4 w.hist.length d4 h3) λi hi=>?_).trans ?_
 ·have hiu:i<u.sess.length:=by omega
  obtain ⟨o,v,j1,k1,Q,ha,_,_,ho,es,hp,_⟩:=p2.get hiu;obtain ⟨o',v',j1',k1',Q',ha',_,_,ho',es',hp',_⟩:=v2.get hi;have hu:=hm.past i _ _ (Dj hiu) (Dj hi);rw[B0.e,Al (by omega),Ae hiu,ha,Ad,Bd,ho,Ad,Aa,es,Ah,Ae hi,ha',Ad,ho',Ad,Aa,es',Ah,Ld hp hp' (Bv (hso' _ (zc7 hiu))).2.1 (Bv (hso _ (zc7 hi))).2.1,hu,Ac,At,Ao,Ar (by omega)]
 obtain ⟨r,hr⟩:=hm.hist;have hlh:u.hist.length<=w.hist.length:=by rw[hr,zdt];omega
 obtain ⟨E5,re5⟩:=Sli.pre v4 hlh;rw[show w.hist.take u.hist.length=u.hist by rw[hr,List.take_left]] at re5;rw[B0.e,Ak (by omega),Al (by omega),It v4 hlh,za0 re5 p4 hsm'.2.2.2,Ac,At,Ao]
section
variable {h:Heap}
theorem main_FnWorldMono {x y:V} (hx:ArgV Tryz.prog h 12 22 x) (hy:ArgV Tryz.prog h 12 22 y):∃ h',Af h.length 4 [x,y] h=some (.bool true,h'):=by obtain ⟨a,c,l,F,rfl,h1,h2,h3⟩:=Oq (n:=10) hx;obtain ⟨a',c',l',F',rfl,_,_,_⟩:=Oq (n:=10) hy;exact Qh h1 h2 h3
end


section
variable {lo:Nat}{h:Heap}{F F':List Nat}{a:Pq}{c:Nq}
theorem za1 {l:List Node} (hs:RNodes false h [.sl 2 a l.length c] l F) (hl:lo<=h.length) (hn:C7 l) (hc:Ch l) (hca:Hb l=true):∃ h',Af lo 16 [.agg [.sl 2 a l.length c]] h=some (.bool true,h')/\Mv h [] h' []:=by
 obtain ⟨a1,c1,h1,F1,e1,r1,m1⟩:=Pi (lo:=lo) hs hl hn hc;have hs1:=m1.keep0 rnodes_ok hs;have hn1:=hn.1;refine ⟨h1,Qx ?_,m1.drop⟩;rw[e1,Ac,AR,Aa,Ag,Ah];refine (FQ (n:=l.length) (λi=>CI lo false (i:Nat) a l.length c a1 (A3 l).length c1 h1) λi hi=>?_).trans ?_
 ·rw[CI.e,Al (by omega)];have hx:=Dj hi;have h4:=(hc.store hx).2;refine (FQ (n:=4) (λj=>Ck lo false (i:Nat) (j:Nat) a l.length c a1 (A3 l).length c1 h1) λj hj=>?_).trans ?_
  ·obtain ⟨o,s1,s2,b1,d1,b2,d2,G1,G2,ha,ho,ho1,ho2,es1,es2,p1,p2,_⟩:=hs1.get hi;have hj4:j<l[i].store.length:=by omega
   obtain ⟨o',s,b3,d3,G,ha',ho',es,hp,_⟩:=p1.get hj4;rw[Ck.e,Al (by omega),Ae hi,ha,Ad,Bd,ho1,Ad,Aa,Ah,es1,Ae hj4,ha',Ad,Bd,ho',Ad,Aa,Ab,Aa,Ab,Aa,Ab,Aa,es,Aa,BG,Aa,AL,Ah,<- ha];by_cases ht:l[i].store[j].tag.time>0
   ·have hin:inCh l l[i].store[j]:=⟨l[i],zc7 hi,.inl (zc7 hj4)⟩;have hv:=hc.ver hin ht;rw[Al ht,Ld hp r1 (AZ hv).2.2.2.1 (Lt hc),Ac,At,(KY hc).1 hca _ hin ht,Ao,Ar (by omega)]
   ·rw[Ak ht,Ar (by omega)]
  ·rw[Ck.e,Ak (by omega),Ar (by omega)]
 ·rw[CI.e,Ak (by omega)]
end


section
variable {lo:Nat}{h:Heap}{F:List Nat}{a:Pq}{c:Nq}
theorem Ph {l:List Ver} (hs:RVers false h [.sl 6 a l.length c] l F) (hn:DA l) (hok:Bb l=true) (h4:l.length=4) (hcl:∀ v∈l,0<v.tag.time->BP v.past (Br l)=true) :
  Af lo 26 [.agg [.sl 6 a l.length c]] h=some (.bool true,h):=by
 have hlt:(Br l).length=4:=by unfold Br;rw[zer];exact h4
 suffices hk:∃ h',_=some (V.bool true,h') from by obtain ⟨h',e⟩:=hk;exact Np e
 have m0:Mv h [] (h ++ [.rows 1 45 false [[.sl 6 a l.length c]]]) []:=Mv.snoc;have hb0:(h ++ [Blk.rows 1 45 false [[.sl 6 a l.length c]]])[h.length]?=some (.rows 1 45 false [[.sl 6 a l.length c]]):=by simp
 have hl0:h.length<(h ++ [Blk.rows 1 45 false [[.sl 6 a l.length c]]]).length:=by simp
 generalize h ++ [Blk.rows 1 45 false [[.sl 6 a l.length c]]]=h0 at m0 hb0 hl0 ⊢;have hs0:=m0.keep0 rvers_ok hs;have hld:∀ hh,Mv h0 [] hh []->ld hh h.length 0 0 1=some [.sl 6 a l.length c]:=λhh hm=>by rw[BA (by rw[hm.fr h.length hl0 (by simp)];exact hb0) rfl];rfl
 have loop:∀ m i hh,m+i=l.length->Mv h0 [] hh []->∃ h',Az h0.length a l.length c 81 [.ptr (some (h.length,(0,0)))] 0 (l.length:Nat) (i:Nat) hh=some (Iv (-1),h'):=by
  intro m;induction m with
  | zero=>intro i hh hi hm;exact ⟨hh,by rw[Az.e,Ak (by omega)]⟩
  | succ m ih =>
   intro i hh hi hm;have hil:i<l.length:=by omega
   obtain ⟨o,s,b1,d1,G,rfl,ho,es,hp,_⟩:=(hm.keep0 rvers_ok hs0).get hil;have hva:=Jm hok (Dj hil);have hmem:=zc7 hil;have step:∃ h2,Af h0.length 81 (CQ [.agg [Iv l[i].key,Iv l[i].tag.time,Iv l[i].tag.place,.sl 2 b1 l[i].past.length d1,.str l[i].text,.bool l[i].gone]] [.ptr (some (h.length,(0,0)))]) hh=some (.bool false,h2)/\Mv hh [] h2 []:=by
    by_cases ht:l[i].tag.time>0
    ·have hpo:BJ l[i].past=true:=by
      rcases Cp hva with g | g
      ·have:=(DK g).1;omega
      ·exact (AZ g.1).2.2.2.1
     obtain ⟨v,h2,F2,e2,r2,m2⟩:=Jh (lo:=hh.length) (hm.keep0 rvers_ok hs0) (zdb _) h4;obtain ⟨b2,d2,es2,r2⟩:=r2.form;refine ⟨h2,IE ?_,m2.drop⟩;rw[show (l[i].tag.time==(0:Int))=false by rw[beq_eq_false_iff_ne];omega,zdY,Ax,hld hh hm,Ad,Aa,Ag,Ah,e2,Ac,AR,Aa,es2,Ah,HK (m2.drop.keep0 rtags_ok hp) r2 (by have:=Bc hpo;omega) (by have:=Bc hpo;omega),hcl _ hmem ht,Ac,At,Ao]
    ·refine ⟨hh,IE ?_,Mv.nil⟩;have hz:l[i].tag.time=0/\l[i].tag.place=0:=by
      rcases Cp hva with g | g
      ·exact DK g
      ·have:=(latest_lt.1 (AZ g.1).2.2.2.2.2).1;omega
     rw[hz.1,hz.2];rfl
   obtain ⟨h2,e2,m2⟩:=step;obtain ⟨h',e'⟩:=ih (i+1) h2 (by omega) (hm.trans m2);refine ⟨h',?_⟩;rw[Az.e,Al (by omega),Ae hil,Ad,Bd,ho,Ad,Aa,Ab,Aa,Ab,Aa,Ab,Aa,es,Aa,BG,Aa,AL,Ah,e2,Ac,At,Ax,Ar (by omega)];exact e'
 obtain ⟨h',e⟩:=loop l.length 0 h0 (by omega) Mv.nil;have e1:Af h.length 80 [.sl 6 a l.length c,.fn 81 [.ptr (some (h.length,(0,0)))]] h0=some (.bool false,h0):=C5 (h':=h0) (by
  rw[Dx (h':=h') e,Ac,Ab];rfl)
 refine ⟨h0,?_⟩;rw[hld h0 Mv.nil,Ad,Aa,Ag,Ah,N4 hs0 hn,hok,Ac,At,Ao,hld h0 Mv.nil,Ad,Aa,Ah,Ag,e1,Ac,At,Ax]
end
theorem NT {h:Heap}{F:List Nat}{a0:Pq}{c0:Nq}{code:List UInt8} (hs:RBytes h [.sl 1 a0 code.length c0] code F) (hF:∀ y∈F,y<h.length) (hcap:∀ k,c0=some k->code.length<=k) :
  ∃ h',Af h.length 5 [.sl 1 a0 code.length c0] h=some (.bool true,h'):=by
 suffices hk:∃ h',_=some (V.bool true,h') from by obtain ⟨h',e⟩:=hk;exact ⟨h',LX e⟩
 by_cases hbig:(code.length:Int)>1048576
 ·rw[Al hbig];exact ⟨h,rfl⟩
 rw[Ak hbig];obtain ⟨x,y,l,a,c,h1,E,e1,re,ht,hl6,hy,m1⟩:=Ki (lo:=h.length) hs hF (zdb _) (by omega) hcap;obtain ⟨raw2,r2,h2,F2,e2,n2,q2,m2⟩:=L9 (lo:=h.length) (x:=x) (y:=y) re ht hl6 m1.le;obtain ⟨raw3,r3,h3,F3,e3,n3,q3,m3⟩:=L4 (lo:=h.length) (x:=x) (y:=y) (m2.drop.keep0 revents_ok re) ht hl6 (zc8 m1.le m2.le);have hpl:∀ p∈(EF x y l).places,Ay p=true:=λp hp=>by
  cases hok:Fb x y with
  | true =>obtain ⟨i,hi⟩:=zdu.1 hp;exact ((Ko hok).ok.place i p hi).2
  | false=>unfold EF at hp;rw[hok] at hp;cases hp
 have hsm:=QM (x:=x) (y:=y) (l:=l);generalize EF x y l=w at *
 obtain ⟨s1,s2,s3,s4,b1,d1,b2,d2,b3,d3,b4,d4,rfl,es1,es2,es3,es4,rfl⟩:=n2;obtain ⟨t1,t2,t3,t4,z1,w1,z2,w2,z3,w3,z4,w4,rfl,et1,et2,et3,et4,rfl⟩:=n3;have q2':=m3.keep0 Es q2;have e4:=On (lo:=h.length) q2' q3 hsm;simp only[World.cs] at e4;rw[e1,Ac,HA,Aa,Ab,Aa,Ab,Aa,Ag,Ah,e2,Ac,AR,Aa,es1,Aa,es2,Aa,es3,Aa,es4,Ah,e3,Ac,AR,Aa,et1,Aa,et2,Aa,et3,Aa,et4,Ah,e4,Ac,At,Ao];have l3:h.length<=h3.length:=zc8 m1.le (zc8 m2.le m3.le);obtain ⟨_,_,_,_,_,_,_,_,G1,G2,G3,G4,g,_,p1,p2,p3,p4⟩:=q2';injection g with g1 g;injection g1 with _ o1 _ o2;subst o1;subst o2;have n1:=hsm.1.1;have loop:∀ m i hh,m+i=w.places.length->Mv h3 [] hh []->∃ h',BH h.length false (i:Nat) b1 w.places.length d1 b2 w.sess.length d2 b3 w.net.length d3 b4 w.hist.length d4 hh=some (.bool true,h'):=by
  intro m;induction m with
  | zero=>intro i hh hi hm;exact ⟨hh,by rw[BH.e,Ak (by omega)]⟩
  | succ m ih =>
   intro i hh hi hm;have hil:i<w.places.length:=by omega
   have hpo:=hpl _ (zc7 hil);have hch:=Iy hpo;have hpos:=hch.pos;have hca:=(AO hpo).2.2.2.2.1;have hsmp:=(hsm.1.2 _ (zc7 hil)).1;have hcl:=hsmp.1;obtain ⟨o,v1,v2,v3,x1,y1,x2,y2,x3,y3,J1,J2,J3,ha,_,_,ho,_,_,k1,_,_,g1,_,_,_⟩:=(hm.keep0 rplaces_ok p1).get hil;obtain ⟨h5,e5,m5⟩:=za1 (lo:=h.length) g1 (zc8 l3 hm.le) hsmp hch hca;have hlast:w.places[i].chain.length - 1<w.places[i].chain.length:=by omega
   have hx:=Dj hlast;have g5:=m5.keep0 rnodes_ok g1;obtain ⟨o',u1,u2,c1,f1,c2,f2,K1,K2,ha',_,ho1,_,ku1,_,gg1,_,_⟩:=g5.get hlast;have hst:=hch.store hx;have e6:=Ph (lo:=h.length) gg1 (hsmp.2 _ (zc7 hlast)).1 hst.1 hst.2 (λv hv ht=>by
    rw[<- Dg hx (by omega)];exact (KY hch).1 hca v (.of hx (.inl hv)) ht)
   obtain ⟨h',e'⟩:=ih (i+1) h5 (by omega) (hm.trans m5);refine ⟨h',?_⟩;have hwr:Am ((w.places[i].chain.length:Int) - 1)=((w.places[i].chain.length - 1:Nat):Int):=by rw[wr (by omega) (by omega)];omega
   rw[BH.e,Al (by omega),Ae hil,ha,Ad,Bd,ho,Ad,Aa,k1,Ah,e5,Ac,At,Ao,hwr,Ae hlast,ha',Ad,Bd,ho1,Ad,Aa,ku1,Ah,e6,Ac,At,Ao,Ar (by omega),<- ha];exact e'
 exact loop w.places.length 0 h3 (by omega) Mv.nil
theorem main_FnWorldCauses {h:Heap}{x:V} (hx:ArgV Tryz.prog h 12 22 x):∃ h',Af h.length 5 [x] h=some (.bool true,h'):=by obtain ⟨a,c,l,F,rfl,h1,h2,h3⟩:=Oq (n:=10) hx;exact NT h1 h2 h3


section
variable {lo:Nat}{h:Heap}{a:Pq}{c:Nq}{E:List Nat}
theorem SK {n s:Nat} (h1:1<=n) (h4:n<=4) (hs:s<=4) (hl:lo<=h.length):∃ b1 d1 b2 d2 b3 d3 b4 d4 h' F',Af lo 27 [Iv (n:Nat),Iv (s:Nat)] h=some (.agg ((Dw n s).cs b1 d1 b2 d2 b3 d3 b4 d4),h')/\Da false h' ((Dw n s).cs b1 d1 b2 d2 b3 d3 b4 d4) (Dw n s) F'/\Mv h [] h' F':=by
 obtain ⟨p,q,h2,G1,G2,e2,q1,q2,m2⟩:=ME (lo:=lo) (h:=h) h1 h4 hs hl;have lSe:(Dw n s).sess.length=s:=by simp[Dw]
 have hw1:Ai ((n:Nat):Int) 1 4=true:=by simp only[Ai,CP,decide_eq_true_eq];omega
 have hw2:Ai ((s:Nat):Int) 0 4=true:=by simp only[Ai,CP,decide_eq_true_eq];omega
 refine ⟨some (p,0),some 3,some (q,0),some s,none,some 0,none,some 0,h2,G1++(G2++([] ++ [])),QC ?_,⟨_,_,_,_,_,_,_,_,G1,G2,[],[],rfl,rfl,q1.up,by rw[lSe];exact q2,Sli.nil,Sli.nil⟩,by simpa using m2⟩;rw[Jz,Ac,At,hw1,hw2,zeL,Ao,e2,Ac,AR,Aa,Ag,Aa,Ag,Aa,Yy,Aa,YA,Ah,World.cs,lSe];rfl
theorem Zv {l:List Event}{w:World} (ht:∀ e∈l,e.text.size<=1048576) (hl6:l.length<=1048576) {x1 x2 x3 x4:Pq}{y1 y2 y3 y4:Nq}:∀ (r m:Nat) (hh:Heap) (u:World) (FW FU:List Nat) (z1:Pq) (t1:Nq) (z2:Pq) (t2:Nq) (z3:Pq) (t3:Nq) (z4:Pq) (t4:Nq),
  m+r=l.length->REvents hh [.sl 6 a l.length c] l E->Da false hh (w.cs x1 y1 x2 y2 x3 y3 x4 y4) w FW->Da false hh (u.cs z1 t1 z2 t2 z3 t3 z4 t4) u FU->Good u->Fy u ((l.take 60).drop m)=w->lo<=hh.length ->
  ∃ h',Bp lo a l.length c (m:Nat) x1 w.places.length y1 x2 w.sess.length y2 x3 w.net.length y3 x4 w.hist.length y4 z1 u.places.length t1 z2 u.sess.length t2 z3 u.net.length t3 z4 u.hist.length t4 hh=some (.bool true,h'):=by
 have fin:∀ (hh:Heap) (u:World) (FW FU:List Nat) (z1:Pq) (t1:Nq) (z2:Pq) (t2:Nq) (z3:Pq) (t3:Nq) (z4:Pq) (t4:Nq),Da false hh (w.cs x1 y1 x2 y2 x3 y3 x4 y4) w FW->Da false hh (u.cs z1 t1 z2 t2 z3 t3 z4 t4) u FU->Good u->u=w ->
   Af lo 22 [.agg [.sl 6 z1 u.places.length t1,.sl 5 z2 u.sess.length t2,.sl 9 z3 u.net.length t3,.sl 5 z4 u.hist.length t4],.agg [.sl 6 x1 w.places.length y1,.sl 5 x2 w.sess.length y2,.sl 9 x3 w.net.length y3,.sl 5 x4 w.hist.length y4]] hh=some (.bool true,hh):=by
  intro hh u FW FU z1 t1 z2 t2 z3 t3 z4 t4 hw hu hg e;subst e;exact On hu hw (Oc hg)
 intro r;induction r with
 | zero =>intro m hh u FW FU z1 t1 z2 t2 z3 t3 z4 t4 hm re hw hu hg he hl;rw[zez (by rw[zdr];omega)] at he;refine ⟨hh,?_⟩;rw[Bp.e,Ak (by omega),fin hh u FW FU z1 t1 z2 t2 z3 t3 z4 t4 hw hu hg he,Ac,At,Ao]
 | succ r ih =>
  intro m hh u FW FU z1 t1 z2 t2 z3 t3 z4 t4 hm re hw hu hg he hl;by_cases h60:(m:Int)<60
  ·have hml:m<l.length:=by omega
   obtain ⟨o,row,G,rfl,hld,⟨rfl,_⟩,_⟩:=re.read hml;have hwo:Eo u=true:=world_iff.2 hg.ok;have hres:Xg u l[m]=Mh u l[m]:=by unfold Xg;rw[hwo];rfl
   obtain ⟨raw,r2,h2,F2,e2,n2,q2,m2⟩:=UG (lo:=lo) (e:=l[m]) hu hl (Oc hg) (λ_=>Oc (I8 hg)) (ht _ (zc7 hml));rw[hres] at n2 q2;obtain ⟨s1,s2,s3,s4,b1,d1,b2,d2,b3,d3,b4,d4,rfl,es1,es2,es3,es4,rfl⟩:=n2;have hdr:(l.take 60).drop m=l[m] ::(l.take 60).drop (m+1):=by rw[zdn (show m<(l.take 60).length by rw[zdr];omega),List.getElem_take]
   rw[hdr,MP] at he;obtain ⟨h',f⟩:=ih (m+1) h2 (Mh u l[m]) FW F2 b1 d1 b2 d2 b3 d3 b4 d4 (by omega) (m2.drop.keep0 revents_ok re) (m2.drop.keep0 Es hw) q2 (I8 hg) he (zc8 hl m2.le);have hld6:ld hh o.1 (o.2+m) 0 6=some l[m].cs:=by rw[hld];exact Ja rfl
   simp only[Event.cs] at hld6;simp only[Event.cs,World.cs] at e2;refine ⟨h',?_⟩;rw[Bp.e,Al (by omega),Al h60,Ae hml,Ad,Bd,hld6,Ad,Aa,Ab,Aa,Ab,Aa,Ab,Aa,Ab,Aa,BG,Aa,AL,Ah,e2,Ac,HA,Aa,AR,Aa,es1,Aa,es2,Aa,es3,Aa,es4,Ah,Aa,At,Ar (by omega)];cases (Eo u&&(DZ u l[m]).isSome)
   ·rw[Ax,Ah];exact f
   ·rw[Ao,Ah];exact f
  ·rw[zez (by rw[zdr];omega)] at he;refine ⟨hh,?_⟩;rw[Bp.e,Al (by omega),Ak h60,fin hh u FW FU z1 t1 z2 t2 z3 t3 z4 t4 hw hu hg he,Ac,At,Ao]
end
theorem Qi {h:Heap}{F:List Nat}{a0:Pq}{c0:Nq}{code:List UInt8} (hs:RBytes h [.sl 1 a0 code.length c0] code F) (hF:∀ y∈F,y<h.length) (hcap:∀ k,c0=some k->code.length<=k) :
  ∃ h',Af h.length 6 [.sl 1 a0 code.length c0] h=some (.bool true,h'):=by
 suffices hk:∃ h',_=some (V.bool true,h') from by obtain ⟨h',e⟩:=hk;exact ⟨h',Nk e⟩
 by_cases hbig:(code.length:Int)>1048576
 ·rw[Al hbig];exact ⟨h,rfl⟩
 rw[Ak hbig];obtain ⟨x,y,l,a,c,h1,E,e1,re,ht,hl6,hy,m1⟩:=Ki (lo:=h.length) hs hF (zdb _) (by omega) hcap;obtain ⟨raw2,r2,h2,F2,e2,n2,q2,m2⟩:=L9 (lo:=h.length) (x:=x) (y:=y) re ht hl6 m1.le;have re2:=m2.drop.keep0 revents_ok re;have l2:=zc8 m1.le m2.le;obtain ⟨raw3,r3,h3,F3,e3,n3,q3,m3⟩:=L4 (lo:=h.length) (x:=x) (y:=y) re2 ht hl6 l2;have re3:=m3.drop.keep0 revents_ok re2;have l3:=zc8 l2 m3.le;have hsm:=QM (x:=x) (y:=y) (l:=l);obtain ⟨s1,s2,s3,s4,b1,d1,b2,d2,b3,d3,b4,d4,rfl,es1,es2,es3,es4,rfl⟩:=n2;obtain ⟨t1,t2,t3,t4,z1,w1,z2,w2,z3,w3,z4,w4,rfl,et1,et2,et3,et4,rfl⟩:=n3;have q2':=m3.keep0 Es q2;have e4:=On (lo:=h.length) q2' q3 hsm;simp only[World.cs] at e4;rw[e1,Ac,HA,Aa,Ab,Aa,Ab,Aa,Ag,Ah,e2,Ac,AR,Aa,es1,Aa,es2,Aa,es3,Aa,es4,Ah,e3,Ac,AR,Aa,et1,Aa,et2,Aa,et3,Aa,et4,Ah,e4,Ac,At,Ao];cases hok:Fb x y with
 | false =>
  have hz:EF x y l=Ll:=by unfold EF;rw[hok];rfl
  obtain ⟨raw4,r4,h4,F4,e5,n4,q4,m4⟩:=L4 (lo:=h.length) (x:=x) (y:=y) re3 ht hl6 l3;obtain ⟨v1,v2,v3,v4,g1,k1,g2,k2,g3,k3,g4,k4,rfl,ev1,ev2,ev3,ev4,rfl⟩:=n4;have e6:=On (lo:=h.length) (m4.keep0 Es q2') q4 hsm;simp only[World.cs] at e6;refine ⟨h4,?_⟩;rw[show (((EF x y l).places.length:Int)==(0:Int))=true by rw[hz];rfl,Ao,e5,Ac,AR,Aa,ev1,Aa,ev2,Aa,ev3,Aa,ev4,Ah,e6,Ac,At,Ao]
 | true =>
  have hp3:=(Ko (l:=l) hok).ok.p3;obtain ⟨n,s,rfl,rfl,g1,g4,gs⟩:=Or hok;have hres:EF n s l=Fy (Dw n s) (l.take 60):=by unfold EF;rw[hok];rfl
  obtain ⟨v1,f1,v2,f2,v3,f3,v4,f4,h4,F4,e5,q4,m4⟩:=SK (lo:=h.length) (h:=h3) g1 g4 gs l3;obtain ⟨h',f⟩:=Zv (lo:=h.length) (w:=EF n s l) ht hl6 l.length 0 h4 (Dw n s) _ F4 v1 f1 v2 f2 v3 f3 v4 f4 (by omega) (m4.drop.keep0 revents_ok re3) (m4.drop.keep0 Es q2') q4 (Kq g1 g4 gs) (by rw[zdX];exact hres.symm) (zc8 l3 m4.le);simp only[World.cs] at e5;refine ⟨h',?_⟩;rw[show (((EF n s l).places.length:Int)==(0:Int))=false by rw[hp3];rfl,Ax,e5,Ac,AR,Aa,Ag,Aa,Ag,Aa,Ag,Aa,Ag,Ah];exact f
theorem main_FnWorldFold {h:Heap}{x:V} (hx:ArgV Tryz.prog h 12 22 x):∃ h',Af h.length 6 [x] h=some (.bool true,h'):=by obtain ⟨a,c,l,F,rfl,h1,h2,h3⟩:=Oq (n:=10) hx;exact Qi h1 h2 h3
end Go.Proofs.YtmgopagfoemomaaGreat
