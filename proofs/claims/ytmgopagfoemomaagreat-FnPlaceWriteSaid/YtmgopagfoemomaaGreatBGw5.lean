/- Part 5 of what is shown for the law Gw, whatever the input; no condition of its own. -/
import Derived.Test.YtmgopagfoemomaaGreatBGw4
set_option linter.unusedVariables false
set_option linter.unusedSimpArgs false
set_option linter.unnecessarySimpa false
set_option maxRecDepth 100000
namespace Go.Proofs.YtmgopagfoemomaaGreat
open Go T


theorem Zn {a b:Tag} (h1:a.time=b.time) (h2:a.place=b.place):a=b:=by cases a;cases b;simp_all
theorem Xo {p q:List Tag}{m:Nat}{a b:Tag} (hu:B4 p q=true) (ha:p[m]?=some a) (hb:q[m]?=some b):Jt a b=b:=by
 have:=under_iff.1 hu m a b ha hb;unfold Jt FW;rw[Ie] at this;cases hl:GA a.time a.place b.time b.place with
 | true=>rfl
 | false =>rw[Ie] at hl;show a=b;exact Zn (by omega) (by omega)
theorem QC {p q:List Tag}{m:Nat} (hm:m<p.length) (hq:p.length=q.length) (hu:B4 p q=true):IT (q.take m++p.drop m) m (q[m]'(by omega))=q.take (m+1)++p.drop (m+1):=by
 have h1:(q.take m).length=m:=by simp;omega
 have h2:m<(q.take m++p.drop m).length:=by simp;omega
 have h3:(q.take m++p.drop m)[m]=p[m]:=by rw[List.getElem_append_right (by omega)];simp[h1]
 rw[Ru h2,h3,Xo hu (Dx hm) (Dx (by omega)),List.set_append_right _ _ (by omega),h1,Nat.sub_self,List.take_succ_eq_append_getElem (by omega),zbB,zbH hm];rfl
theorem LW {i:Nat}{l:List Tag}{m:Nat} (hm:m<l.length):(Du i l).take (m+1)=(Du i l).take m ++ [⟨i,2,(m:Nat),l[m]⟩]:=by
 have hl:(Du i l).length=l.length:=by unfold Du;simp
 rw[List.take_succ_eq_append_getElem (by omega)];congr 2;unfold Du;rw[List.getElem_map,List.getElem_zipIdx];simp
section
variable {lo:Nat}{h h':Heap}{w:World}{a1 a2 a3 a4 a:Pq}{c1 c2 c3 c4 c:Nq}{F1 F2 F3 F4:List Nat}
theorem Vb {kind num key:Int}{text:ByteArray}{gone:Bool}{i:Nat} (H:WR lo h w a1 c1 a2 c2 a3 c3 a4 c4 F1 F2 F3 F4) (hg:Fits w) (hi:i<w.sess.length) :
  ∃ cs' h' F',Ae lo 252 [.agg (w.cs a1 c1 a2 c2 a3 c3 a4 c4),.agg [Iv kind,Iv (i:Nat),Iv num,Iv key,.str text,.bool gone]] h=some (.tup [.agg cs',.bool (Mu w i w.sess[i]).isSome],h') /\
   Oq lo h' cs' ((Mu w i w.sess[i]).getD w) F'/\Mv h (F1++(F2++(F3++F4))) h' F'/\((Mu w i w.sess[i])=none->cs'=w.cs a1 c1 a2 c2 a3 c3 a4 c4):=by
 suffices hk:∃ cs' h' F',_=some (V.tup [.agg cs',.bool (Mu w i w.sess[i]).isSome],h')/\Oq lo h' cs' ((Mu w i w.sess[i]).getD w) F'/\Mv h (F1++(F2++(F3++F4))) h' F'/\((Mu w i w.sess[i])=none->cs'=w.cs a1 c1 a2 c2 a3 c3 a4 c4) from by obtain ⟨cs',h',F',e,hr⟩:=hk;exact ⟨cs',h',F',Tg e,hr⟩
 have hso:=hg.ok.sess _ (zbk hi);obtain ⟨t1,t2,t3,t4,t5,t6⟩:=DF hso;have hp4:=DV t2;have h80:=hg.ok.h80;obtain ⟨k,hpl⟩:∃ k:Nat,w.sess[i].place=(k:Int):=⟨w.sess[i].place.toNat,by omega⟩;have hk:k<w.places.length:=by have:=hg.ok.p3;omega
 obtain ⟨hpo,hme,hro⟩:=hg.at hk;have hn:=(FN (CS hpo) (by decide) (by decide) (by decide)).1;have hn1:=hn.1.1;have hch:=chain_iff.1 (AX hpo).2.2.2.1;have hpos:=hch.pos;have hX:Mu w i w.sess[i]=bif !decide (w.sess[i].wait.time>0)&&(B4 w.sess[i].past (AW w.places[k].chain)&&D7 w 4) then some (setS w i ⟨w.sess[i].place,AW w.places[k].chain,w.sess[i].wait,w.sess[i].key⟩ (Du i (AW w.places[k].chain))) else none:=by unfold Mu;rw[hpl,Bm,Dx hk]
 obtain ⟨b',i',v,e1',d1',Gs,rfl,hld',_,_,es',hv',_,hGn,puts⟩:=H.sess hi;obtain ⟨b,j,s1,s2,s3,b1,d1,b2,d2,b3,d3,G1,G2,G3,rfl,_,hc2,_,e1,e2,e3,g1,g2,g3,nd,hF,put⟩:=H.place hk;have hlast:=If (l:=w.places[k].chain) (by omega);have hs4:=(hch.store (Dx (show w.places[k].chain.length - 1<w.places[k].chain.length by omega))).2;obtain ⟨o,z1,z2,p1,q1,p2,q2,H1,H2,rfl,_,ho1,_,ez1,_,gg1,_,hH1,_⟩:=g1.get (show w.places[k].chain.length - 1<w.places[k].chain.length by omega);generalize hst:(w.places[k].chain[w.places[k].chain.length - 1]'(by omega)).store=store at hlast hs4 ez1 gg1;obtain ⟨tv,h1,T1,e5,r5,m5⟩:=NU (lo:=h.length) gg1 (zbo _) (by omega);obtain ⟨x5,y5,es5,r5⟩:=r5.form;obtain ⟨Hq,mq⟩:=H.up0 m5.drop;rw[hlast] at hX;have htl:(Bt store).length=4:=by unfold Bt;rw[zcO];exact hs4
 have loop:∀ (r m:Nat) (hh:Heap) (x1:Pq) (y1:Nq) (x2:Pq) (y2:Nq) (x3:Pq) (y3:Nq) (x4:Pq) (y4:Nq) (K1 K2 K3 K4:List Nat),m+r=4->B4 w.sess[i].past (Bt store)=true->w.hist.length<=76 ->
   WR lo hh (setS w i ⟨w.sess[i].place,(Bt store).take m++w.sess[i].past.drop m,w.sess[i].wait,w.sess[i].key⟩ ((Du i (Bt store)).take m)) x1 y1 x2 y2 x3 y3 x4 y4 K1 K2 K3 K4 ->
   RVers false hh [.sl 6 p1 store.length q1] store H1->(∀ y∈H1,y∈K1) ->
   ∃ cs' h' F',Dq lo (m:Nat) x1 w.places.length y1 x2 w.sess.length y2 x3 w.net.length y3 x4 (w.hist++(Du i (Bt store)).take m).length y4 kind (i:Nat) num key text gone 0 none 0 (some 0) 0 none 0 (some 0) 0 none 0 (some 0) 0 none 0 (some 0) p1 store.length q1 hh=some (V.tup [.agg cs',.bool true],h') /\
    Oq lo h' cs' (setS w i ⟨w.sess[i].place,Bt store,w.sess[i].wait,w.sess[i].key⟩ (Du i (Bt store))) F'/\Mv hh (K1++(K2++(K3++K4))) h' F':=by
  intro r;induction r with
  | zero =>
   intro m hh x1 y1 x2 y2 x3 y3 x4 y4 K1 K2 K3 K4 hm hu hl Hm hv hK;have:m=4:=by omega
   subst this;have hrl:(Du i (Bt store)).length=4:=by unfold Du;simpa using htl
   have W:=Hm.at;rw[zcc (by omega),zcb (by omega),zcf,zcc (by omega)] at W;refine ⟨_,hh,_,?_,W,Mv.refl Hm.nd⟩;rw[Dq.e,Aj (by omega),zcc (by omega)];simp only[World.cs,setS,zbL]
  | succ r ih =>
   intro m hh x1 y1 x2 y2 x3 y3 x4 y4 K1 K2 K3 K4 hm hu hl Hm hv hK;have him:i<(setS w i ⟨w.sess[i].place,(Bt store).take m++w.sess[i].past.drop m,w.sess[i].wait,w.sess[i].key⟩ ((Du i (Bt store)).take m)).sess.length:=by simpa [setS] using hi
   obtain ⟨b0,i0,v0,e0,d0,G0,rfl,_,hld1,_,es0,hv0,_,_,_⟩:=Hm.sess him;have hss:(setS w i ⟨w.sess[i].place,(Bt store).take m++w.sess[i].past.drop m,w.sess[i].wait,w.sess[i].key⟩ ((Du i (Bt store)).take m)).sess[i]=⟨w.sess[i].place,(Bt store).take m++w.sess[i].past.drop m,w.sess[i].wait,w.sess[i].key⟩:=by simp[setS]
   have hpl4:((Bt store).take m++w.sess[i].past.drop m).length=4:=by simp;omega
   have hms:m<store.length:=by omega
   obtain ⟨o',_,_,_,_,ho',_,_,_,_,_,_,ho12,_⟩:=hv.all hms;have htm:(Bt store)[m]'(by omega)=store[m].tag:=by unfold Bt;rw[List.getElem_map]
   rw[hss] at es0 hv0;have es0:∀ {R':Type} (K:Pq->Nat->Nq->Option R'),eS 2 v0 K=K e0 ((Bt store).take m++w.sess[i].past.drop m).length d0:=es0;have hv0:RTags false hh [.sl 2 e0 ((Bt store).take m++w.sess[i].past.drop m).length d0] ((Bt store).take m++w.sess[i].past.drop m) G0:=hv0;obtain ⟨x8,y8,h8,F8,e8,r8,m8⟩:=J1 (lo:=lo) (k:=m) (t:=store[m].tag) hv0 (by omega) Hm.hl (by omega);rw[<- htm,QC (by omega) (by omega) hu] at r8;obtain ⟨h9,F9,e9,q9,m9,s9⟩:=Hm.past him m8 r8;have hv9:=rvers_ok.fr _ _ _ _ _ hv λy hy=>s9 y (hK y hy);obtain ⟨o9,_,_,_,_,ho9,_,_,_,_,_,_,ho129,_⟩:=hv9.all hms;have:o'=o9:=by rw[ho'] at ho9;injection ho9
   subst this;have hrt:((Du i (Bt store)).take m).length<=4:=by rw[zco];omega
   obtain ⟨x10,y10,h10,F10,e10,q10,m10,s10⟩:=EA (d:=⟨i,2,(m:Nat),store[m].tag⟩) q9 (by show (w.hist++_).length<=1000;rw[zbw];omega);have hv10:=rvers_ok.fr _ _ _ _ _ hv9 λy hy=>s10 y (hK y hy);simp only[setS,zcG,List.set_set,zbB] at q10;rw[<- htm,<- LW (by omega)] at q10;obtain ⟨cs',h',F',e,W,M⟩:=ih (m+1) h10 _ _ _ _ _ _ _ _ _ _ _ _ (by omega) hu hl q10 hv10 hK;refine ⟨cs',h',F',?_,W,(m9.trans m10).trans M⟩;simp only[World.cs,setS,zbL] at e9 e10;rw[hpl4] at es0 e8 e9;have hw8:(IT ((Bt store).take m++w.sess[i].past.drop m) m store[m].tag).length=4:=by rw[WY];exact hpl4
   rw[Dq.e,Ak (by omega),Ad hi,Ag,Bm,hld1,Ag,Ab,es0,Af,Ad hms,ho',Ag,Bm,ho12,Ag,Ab,Aa,Ab,Aa,Af,e8,Ac,AA,Ab,Ah,Af,e9,Ad hms,Ag,ho129,Ag,Ab,Aa,Ab,Aa,Af,e10,Ac,AA,Ab,Ah,Ab,Ah,Ab,Ah,Ab,Ah,Af,At (by omega),<- ho'];rw[zbB,<- htm,<- LW (by omega)];exact e
 rw[Ad hi,Ag,Bm,hld',Ag,Ab,Aa,Ab,es',Ab,Aa,Ab,Aa,Ab,Aa,Af,hpl,Ad hk,Ag,Bm,hc2,Ag,Ab,e1,Af,wr (by omega) (by omega),Cu ⟨by omega,by omega⟩,Ag,show ((w.places[k].chain.length:Int) - 1).toNat=w.places[k].chain.length - 1 by omega,ho1,Ag,Ab,ez1,Af];by_cases hw:w.sess[i].wait.time>0
 ·rw[Ak hw];exact H.stay (by rw[hX,decide_eq_true hw];rfl)
 rw[decide_eq_false hw,zcs,zbK] at hX;rw[Aj hw,e5,Ac,AA,Ab,es5,Af,EY (m5.keep0 rtags_ok hv') r5 hp4 htl,Ac,Az];cases hu:B4 w.sess[i].past (Bt store) with
 | false =>rw[Ay];obtain ⟨cs',h',F',e,W,M,N⟩:=Hq.stay (X:=Mu w i w.sess[i]) (by rw[hX,hu];rfl);exact ⟨cs',h',F',e,W,mq.trans M,N⟩
 | true =>
 rw[hu,zbK] at hX;rw[Ap,wr (by omega) (by omega)];by_cases hh:(w.hist.length:Int)+4>80
 ·rw[Ak hh];obtain ⟨cs',h',F',e,W,M,N⟩:=Hq.stay (X:=Mu w i w.sess[i]) (by rw[hX,show D7 w 4=false from decide_eq_false (by omega)];rfl);exact ⟨cs',h',F',e,W,mq.trans M,N⟩
 rw[show D7 w 4=true from decide_eq_true (by omega),cond_true] at hX;have h0:setS w i ⟨w.sess[i].place,(Bt store).take 0++w.sess[i].past.drop 0,w.sess[i].wait,w.sess[i].key⟩ ((Du i (Bt store)).take 0)=w:=by have hse:w.sess.set i ⟨w.sess[i].place,w.sess[i].past,w.sess[i].wait,w.sess[i].key⟩=w.sess:=zcR hi;simp only[setS,List.take_zero,zbS,zci,zcf,hse]
 have hH1:∀ y∈H1,y∈F1:=λy hy=>(hF y (zbM _ (hH1 y hy))).2.2
 obtain ⟨cs',h',F',e,W,M⟩:=loop 4 0 h1 _ _ _ _ _ _ _ _ _ _ _ _ (by omega) hu (by omega) (by rw[h0];exact Hq) (m5.keep0 rvers_ok gg1) hH1;simp only[List.take_zero,zcf] at e;rw[Aj hh,hX];exact ⟨cs',h',F',e,W,mq.trans M,λg=>by first | cases g | (simp at g)⟩
theorem NK {F:List Nat}{cs:List V}{X:Option World}{t:Ov} (ht:∃ cs' h' F',t=some (.tup [.agg cs',.bool X.isSome],h')/\Oq lo h' cs' (X.getD w) F'/\Mv h F h' F'/\(X=none->cs'=cs)) :
  ∃ cs' h' F',(Ai t λv_2 h_3=>eU v_2 λc_4=>eC c_4 λv_5 l_6=>eA v_5 λc_7=>eC c_7 λv_8 l_9=>eS 6 (v_8) λa_10 n_11 c_12=>eC l_9 λv_13 l_14=>eS 5 (v_13) λa_15 n_16 c_17=>eC l_14 λv_18 l_19=>eS 9 (v_18) λa_20 n_21 c_22=>eC l_19 λv_23 l_24=>eS 5 (v_23) λa_25 n_26 c_27=>eN l_24 (eC l_6 λv_28 l_29=>eB v_28 (eN l_29 (some (V.tup [.agg [.sl 6 a_10 n_11 c_12,.sl 5 a_15 n_16 c_17,.sl 9 a_20 n_21 c_22,.sl 5 a_25 n_26 c_27],.bool true],h_3))) (eN l_29 (some (V.tup [.agg [.sl 6 a_10 n_11 c_12,.sl 5 a_15 n_16 c_17,.sl 9 a_20 n_21 c_22,.sl 5 a_25 n_26 c_27],.bool false],h_3)))))=some (.tup [.agg cs',.bool X.isSome],h')/\Oq lo h' cs' (X.getD w) F'/\Mv h F h' F'/\(X=none->cs'=cs):=by
 obtain ⟨cs',h',F',rfl,W,M,N⟩:=ht;refine ⟨cs',h',F',?_,W,M,N⟩;obtain ⟨x1,y1,x2,y2,x3,y3,x4,y4,K1,K2,K3,K4,rfl,_,_⟩:=W;rw[Ac,Hz,Ab,AA,Ab,Ah,Ab,Ah,Ab,Ah,Ab,Ah,Af,Ab,Az];cases X.isSome
 ·rw[Ay,Af]
 ·rw[Ap,Af]
theorem QG {e:Event} (H:WR lo h w a1 c1 a2 c2 a3 c3 a4 c4 F1 F2 F3 F4) (hg:Fits w) (ht:e.text.size<=1048576) :
  ∃ cs' h' F',Ae lo 184 [.agg (w.cs a1 c1 a2 c2 a3 c3 a4 c4),.agg e.cs] h=some (.tup [.agg cs',.bool (Gb w e).isSome],h')/\Oq lo h' cs' ((Gb w e).getD w) F'/\Mv h (F1++(F2++(F3++F4))) h' F'/\((Gb w e)=none->cs'=w.cs a1 c1 a2 c2 a3 c3 a4 c4):=by
 obtain ⟨kind,at',num,key,text,gone⟩:=e;suffices hk:∃ cs' h' F',_=some (V.tup [.agg cs',.bool (Gb w ⟨kind,at',num,key,text,gone⟩).isSome],h')/\Oq lo h' cs' ((Gb w ⟨kind,at',num,key,text,gone⟩).getD w) F'/\Mv h (F1++(F2++(F3++F4))) h' F'/\((Gb w ⟨kind,at',num,key,text,gone⟩)=none->cs'=w.cs a1 c1 a2 c2 a3 c3 a4 c4) from by obtain ⟨cs',h',F',e,hr⟩:=hk;exact ⟨cs',h',F',Or e,hr⟩
 have hs4:=hg.ok.s4;unfold Gb;rw[wr (by omega) (by omega),Bp,Ac,Az];cases hat:An at' 0 ((w.sess.length:Int) - 1) with
 | false=>rw[Ay];exact H.stay rfl
 | true =>
 simp only[An,DH,decide_eq_true_eq] at hat;obtain ⟨i,rfl⟩:∃ i:Nat,at'=(i:Int):=⟨at'.toNat,by omega⟩;have hi:i<w.sess.length:=by omega
 rw[Ap,cond_true,Bm,Dx hi];simp only[];cases h1:kind==1 with
 | true=>rw[Ap,cond_true];exact NK (Sq H hg ht hi)
 | false =>
 rw[Ay,cond_false];cases h2:kind==2 with
 | true=>rw[Ap,cond_true];exact NK (Va H hg hi)
 | false =>
 rw[Ay,cond_false];cases h3:kind==3 with
 | true=>rw[Ap,cond_true];exact NK (TK H hg hi)
 | false =>
 rw[Ay,cond_false];cases h4:kind==4 with
 | true=>rw[Ap,cond_true];exact NK (Vb H hg hi)
 | false =>
 rw[Ay,cond_false];obtain ⟨b',i',v,e1',d1',Gs,rfl,_,_,hld2,es',hv',hv,hGn,puts⟩:=H.sess hi;rw[Ad hi,Ag,hld2,Ag,Ab,Af,Aa];unfold Ub;by_cases hw:w.sess[i].wait.time>0
 ·rw[Ak hw];exact H.stay (by rw[decide_eq_true hw];rfl)
 rw[Aj hw,decide_eq_false hw,zcs,zbK,Bp,Ac,Az];cases hwn:An num 0 2 with
 | false=>rw[Ay];exact H.stay rfl
 | true =>
 obtain ⟨h2',F5,e2,q2,m2,_⟩:=puts h Gs 0 [Iv num] [Iv num,v,Iv w.sess[i].wait.time,Iv w.sess[i].wait.place,Iv w.sess[i].key] ⟨num,w.sess[i].past,w.sess[i].wait,w.sess[i].key⟩ (Mv.refl hGn) rfl ⟨v,rfl,hv⟩;have W:=q2.at;simp only[World.cs,zbL] at W;rw[Ap,Ad hi,Ag,e2,Ag,cond_true];refine ⟨_,h2',_,rfl,?_,m2,λg=>by first | cases g | (simp at g)⟩;simpa only [setS,zcB,zcf] using W
theorem Rz {e:Event} (H:WR lo h w a1 c1 a2 c2 a3 c3 a4 c4 F1 F2 F3 F4) (hg:Fits w) (ht:e.text.size<=1048576) :
  ∃ cs' h' F',Ae lo 102 [.agg (w.cs a1 c1 a2 c2 a3 c3 a4 c4),.agg e.cs] h=some (.tup [.agg cs',.bool (Hp w e).isSome],h')/\Oq lo h' cs' (Si w e) F'/\Mv h (F1++(F2++(F3++F4))) h' F'/\((Hp w e)=none->cs'=w.cs a1 c1 a2 c2 a3 c3 a4 c4):=by
 have hc:=QG H hg ht;have hp:=Sr (e:=e) H hg;have hn:=U9 (e:=e) H hg;obtain ⟨kind,at',num,key,text,gone⟩:=e;unfold Si;suffices hk:∃ cs' h' F',_=some (V.tup [.agg cs',.bool (Hp w ⟨kind,at',num,key,text,gone⟩).isSome],h')/\Oq lo h' cs' ((Hp w ⟨kind,at',num,key,text,gone⟩).getD w) F'/\Mv h (F1++(F2++(F3++F4))) h' F'/\((Hp w ⟨kind,at',num,key,text,gone⟩)=none->cs'=w.cs a1 c1 a2 c2 a3 c3 a4 c4) from by obtain ⟨cs',h',F',e,hr⟩:=hk;exact ⟨cs',h',F',UV e,hr⟩
 rw[Bp,Ac,Az];unfold Hp;cases h1:An kind 1 5 with
 | true=>rw[Ap,cond_true];exact NK hc
 | false =>
 rw[Ay,cond_false,Bp,Ac,Az];cases h2:An kind 6 9 with
 | true=>rw[Ap,cond_true];exact NK hp
 | false =>
 rw[Ay,cond_false,Bp,Ac,Az];unfold Ua at hn;cases h3:kind==10 with
 | true =>
  have h4:An kind 10 13=true:=by rw[beq_iff_eq] at h3;subst h3;rfl
  simp only[h3,cond_true] at hn;rw[h4,Ap,cond_true];exact NK hn
 | false =>
  simp only[h3,cond_false] at hn;rw[cond_false];cases h4:An kind 11 13 with
  | true =>
   have h5:An kind 10 13=true:=by simp[An] at h4 ⊢;omega
   rw[h5,Ap,cond_true];exact NK hn
  | false =>
   have h5:An kind 10 13=false:=by rw[beq_eq_false_iff_ne] at h3;simp[An] at h4 ⊢;omega
   rw[h5,Ay];exact H.stay rfl
end


def PD (m:Nat) (n:Nat):Place:=⟨(m:Int),0,List.replicate n ⟨HU,[]⟩,[],[[],[],[]],false⟩
def zav (i:Nat):Sess:=⟨((i % 3:Nat):Int),L1,⟨0,0⟩,0⟩
def Jp (n s:Nat):World:=⟨(List.range 3).map λi=>PD i n,(List.range s).map zav,[],[]⟩
theorem ZH {m n:Nat} (h1:1<=n) (h4:n<=4) (hm:m<=2):As (PD m n)=true:=by
 have hc:∀ n:Fin 5,1<=n.val->∀ m:Fin 3,As (PD m.val n.val)=true:=by decide +kernel
 exact hc ⟨n,by omega⟩ h1 ⟨m,by omega⟩
theorem Xn {m n:Nat} (h1:1<=n) (h4:n<=4) (hm:m<=2):Roomy (PD m n):=by
 have hz:∀ v,inCh (PD m n).chain v->v.tag.time=0:=λv ⟨x,hx,hv⟩=>by
  have hx:=(List.mem_replicate.1 hx).2;subst hx;rcases hv with hv | hv
  ·have:∀ v∈HU,v.tag.time=0:=by simp[HU,TA]
   exact this v hv
  ·simp at hv
 refine ⟨⟨[],by simp,by simp[PD],λv hv ht=>by have:=hz v hv;omega⟩,λv hv ht=>?_⟩;have hpos:0<(PD m n).chain.length:=by show 0<(List.replicate _ _).length;rw[zcH];omega
 have hl:=EF hpos;rw[hl] at hv;have:=hz v ⟨_,zbk (by omega),.inl hv⟩;omega
theorem ZG {i:Nat}:FQ (zav i)=true:=by
 have hc:∀ m:Fin 3,FQ ⟨((m.val:Nat):Int),L1,⟨0,0⟩,0⟩=true:=by decide +kernel
 exact hc ⟨i % 3,Nat.mod_lt _ (by decide)⟩
theorem M0 {n s:Nat} (h1:1<=n) (h4:n<=4) (hs:s<=4):Good (Jp n s):=by
 have hp:∀ (i:Nat) (p:Place),(Jp n s).places[i]?=some p->i<3/\p=PD i n:=λi p hp=>by simp only[Jp,zcI,zbY] at hp;obtain ⟨j,hj,rfl⟩:=hp;obtain ⟨hi,rfl⟩:=Gz hj;rw[List.length_range] at hi;exact ⟨hi,by rw[List.getElem_range]⟩
 refine ⟨⟨by simp[Jp],by simp[Jp,hs],by simp[Jp],by simp[Jp],λi p h=>?_,λx hx=>?_,by simp[Jp],by simp[Jp],λi p k g h hg=>?_⟩,λp h=>?_⟩
 ·obtain ⟨hi,rfl⟩:=hp i p h;exact ⟨rfl,ZH h1 h4 (by omega)⟩
 ·simp only[Jp,zcY] at hx;obtain ⟨i,_,rfl⟩:=hx;exact ZG
 ·obtain ⟨hi,rfl⟩:=hp i p h;refine ⟨Hu (Jp n s).places k,?_⟩;have:g = []:=by
   have:(PD i n).got=List.replicate 3 []:=rfl;rw[this,List.getElem?_replicate] at hg;split at hg
   ·injection hg with hg;exact hg.symm
   ·cases hg
  rw[this];rfl
 ·obtain ⟨i,hi⟩:=zbC.1 h;obtain ⟨h3,rfl⟩:=hp i p hi;exact Xn h1 h4 (by omega)
section
variable {lo:Nat}{h h':Heap}{w:World}{a1 a2 a3 a4 a:Pq}{c1 c2 c3 c4 c:Nq}{F F' F1 F2 F3 F4:List Nat}
theorem WR.of {cs:List V} (hw:Tc false h cs w F) (hnd:F.Nodup) (hge:∀ y∈F,lo<=y) (hl:lo<=h.length):∃ s1 s2 s3 s4 a1 c1 a2 c2 a3 c3 a4 c4 F1 F2 F3 F4,cs = [s1,s2,s3,s4]/\F=F1++(F2++(F3++F4)) /\
  (∀ {T:Type} (K:Pq->Nat->Nq->Option T),eS 6 s1 K=K a1 w.places.length c1)/\(∀ {T:Type} (K:Pq->Nat->Nq->Option T),eS 5 s2 K=K a2 w.sess.length c2) /\
  (∀ {T:Type} (K:Pq->Nat->Nq->Option T),eS 9 s3 K=K a3 w.net.length c3)/\(∀ {T:Type} (K:Pq->Nat->Nq->Option T),eS 5 s4 K=K a4 w.hist.length c4)/\WR lo h w a1 c1 a2 c2 a3 c3 a4 c4 F1 F2 F3 F4:=by
 obtain ⟨s1,s2,s3,s4,F1,F2,F3,F4,rfl,rfl,r1,r2,r3,r4⟩:=hw;obtain ⟨a1,c1,e1,r1⟩:=r1.form;obtain ⟨a2,c2,e2,r2⟩:=r2.form;obtain ⟨a3,c3,e3,r3⟩:=r3.form;obtain ⟨a4,c4,e4,r4⟩:=r4.form;exact ⟨s1,s2,s3,s4,a1,c1,a2,c2,a3,c3,a4,c4,F1,F2,F3,F4,rfl,rfl,e1,e2,e3,e4,r1,r2,r3,r4,hnd,hge,hl⟩
theorem Vc {m n:Nat} (h1:1<=n) (h4:n<=4) :
  ∃ raw b1 d1 b3 d3 h' F',Ae lo 216 [Iv (m:Nat),Iv (n:Nat)] h=some (.agg raw,h')/\raw = [Iv (m:Nat),Iv 0,.sl 2 b1 n d1,.sl 0 none 0 (some 0),.sl 1 b3 3 d3,.bool false] /\
   RPlace false h' [Iv (m:Nat),Iv 0,.sl 2 b1 n d1,.sl 6 none 0 (some 0),.sl 1 b3 3 d3,.bool false] (PD m n) F'/\Mv h [] h' F':=by
 obtain ⟨v,h2,F2,e2,r2,m2⟩:=KU (lo:=h.length) (h:=h) h1 h4 (zbo _);obtain ⟨b1,d1,es,r2⟩:=r2.form;rw[zcH] at es r2;have mx:Mv h2 [] (h2 ++ [.rows 1 26 false [[.sl 0 none 0 (some 0)],[.sl 0 none 0 (some 0)],[.sl 0 none 0 (some 0)]]]) [h2.length]:=Mv.last;have m3:=m2.join mx (rnodes_ok.bd _ _ _ _ r2);refine ⟨_,b1,d1,some (h2.length,0),some 3,_,F2 ++ [h2.length],Th ?_,rfl,⟨_,_,_,F2,[],[h2.length],rfl,rfl,mx.keep0 rnodes_ok r2,Sli.nil,?_⟩,m3⟩
 ·rw[e2,Ac,AA,Ab,es,Af]
 ·refine ⟨1,some (h2.length,0),some 3,rfl,rfl,[[.sl 0 none 0 (some 0)],[.sl 0 none 0 (some 0)],[.sl 0 none 0 (some 0)]],[[],[],[]],by simp,zbo 3,λk hk=>by injection hk with hk;subst hk;exact ⟨zbo 3,zbo 3⟩,(λhk=>by cases hk),?_,rfl⟩;exact ⟨Sli.nil,Sli.nil,Sli.nil,trivial⟩
end


section
variable {lo:Nat}{h h':Heap}{w:World}{a1 a2 a3 a4 a:Pq}{c1 c2 c3 c4 c:Nq}{F F' F1 F2 F3 F4:List Nat}
theorem ZR {T:Type} (K:Pq->Nat->Nq->Option T):eS 6 (.sl 0 none 0 (some 0)) K=K none 0 (some 0):=rfl
theorem Pf {n s:Nat} (h1:1<=n) (h4:n<=4) (hs:s<=1000) (hl:lo<=h.length):∃ cs h' F',Ae lo 146 [Iv (n:Nat),Iv (s:Nat)] h=some (.agg cs,h')/\Tc false h' cs (Jp n s) F'/\Mv h [] h' F':=by
 obtain ⟨q1,x1,y1,h1',F1,e1,r1,m1⟩:=Dn (El:=RPlace false) rplace_ok (h:=h) (l:=List.range 3) (f:=λi=>PD i n) (lo:=lo) (R:=6) (e:=29) (bytes:=96) hl (by decide) (by decide)
  (λi q a n1 c hh=>Dp lo (n:Nat) (s:Nat) (i:Nat) 0 none 0 (some 0) 0 none 0 (some 0) 0 none 0 (some 0) 0 none 0 (some 0) q a n1 c 0 none 0 (some 0) 0 none 0 (some 0) 0 none 0 (some 0) hh) (λi hi q a n1 c hh hm=>by
   rw[List.length_range] at hi;obtain ⟨raw,b1,d1,b3,d3,h2,F2,e2,rfl,r2,m2⟩:=Vc (lo:=lo) (h:=hh) (m:=i) h1 h4;refine ⟨[Iv (i:Nat),Iv 0,.sl 2 b1 n d1,.sl 6 none 0 (some 0),.sl 1 b3 3 d3,.bool false],F2,h2 ++ [.rows 6 29 false [[Iv (i:Nat),Iv 0,.sl 2 b1 n d1,.sl 6 none 0 (some 0),.sl 1 b3 3 d3,.bool false]]],by rw[List.getElem_range];exact Mv.snoc.keep0 rplace_ok r2,m2.trans (Mv.snoc' m2.nd),?_⟩;rw[Dp.e,Ak (by omega),e2,Ac,AA,Ab,Aa,Ab,Aa,Ab,Ah,Ab,ZR,Ab,Ah,Ab,AB,Af,A9,At (by omega)])
 obtain ⟨q2,x2,y2,h2',F2,e2,r2,m2⟩:=Dn (El:=RSess false) IW (h:=h1') (l:=List.range s) (f:=zav) (lo:=lo) (R:=5) (e:=66) (bytes:=56) (zbj hl m1.le) (by decide) (by rw[List.length_range];omega)
  (λi q a n1 c hh=>Do lo (s:Nat) (i:Nat) 0 none 0 (some 0) 0 none 0 (some 0) 0 none 0 (some 0) 0 none 0 (some 0) q1 x1 3 y1 q a n1 c 0 none 0 (some 0) 0 none 0 (some 0) hh) (λi hi q a n1 c hh hm=>by
   rw[List.length_range] at hi;obtain ⟨h2,q3,e3,t3,m3⟩:=Iu (lo:=lo) (h:=hh);have ht:((i:Int).tmod 3)=((i % 3:Nat):Int):=(Int.ofNat_tmod i 3).symm;refine ⟨[Iv ((i % 3:Nat):Int),.sl 2 (some (q3,0)) 4 (some 4),Iv 0,Iv 0,Iv 0],[q3],h2 ++ [.rows 5 66 false [[Iv ((i % 3:Nat):Int),.sl 2 (some (q3,0)) 4 (some 4),Iv 0,Iv 0,Iv 0]]],by rw[List.getElem_range];exact ⟨_,rfl,Mv.snoc.keep0 rtags_ok t3⟩,m3.trans (Mv.snoc' m3.nd),?_⟩;rw[Do.e,Ak (by omega),e3,Ac,AA,Ab,Ah,Af,ht,A9,At (by omega)])
 rw[List.length_range] at e1 r1 e2 r2;have m3:=m1.join m2 ((Sli.ok rplace_ok).bd _ _ _ _ r1);refine ⟨[.sl q1 x1 3 y1,.sl q2 x2 s y2,.sl 0 none 0 (some 0),.sl 0 none 0 (some 0)],h2',F1++(F2++([] ++ [])),Td ?_,⟨_,_,_,_,F1,F2,[],[],rfl,rfl,m2.keep0 rplaces_ok r1,r2,Sli.nil,Sli.nil⟩,by simpa using m3⟩;refine e1.trans ?_;rw[Dp.e,Aj (by omega)];refine e2.trans ?_;rw[Do.e,Aj (by omega)]
theorem V0 {l:List Done} (hl:lo<=h.length) (hn:l.length<=1048576):∃ a' c' h' F',(∀ {T:Type} (K:V->Heap->Option T),Dk lo 126 5 40 (.sl 5 (some (h.length,0)) 0 (some 0)) (l.map Done.cs) (h ++ [.rows 5 126 false []]) K=K (.sl 5 a' l.length c') h') /\
  RDones false h' [.sl 5 a' l.length c'] l F'/\Mv h [] h' F':=by
 have hfl:(l.map λ_=>([]:List Nat)).flatten = []:=by simp
 obtain ⟨a',c',h',F',e,r,l1,fr,sub,nd⟩:=Jv (h:=h) (lo:=lo) (El:=flat Done.cs) (R:=5) (e:=126) (bytes:=40) CF (rows:=l.map Done.cs) (l:=l) (Fs:=l.map λ_ => []) EAll.flat (by rw[hfl];simp) (by rw[hfl];simp) (by decide) (by omega) hl;refine ⟨a',c',h',F',e,r,by omega,λy hy _=>fr y hy,nd,λy hy=>?_⟩;rcases sub y hy with g | g
 ·rw[hfl] at g;simp at g
 ·exact .inr g
theorem TM (r1:RPlaces false h [.sl 6 a1 w.places.length c1] w.places F1) (r2:RSesss false h [.sl 5 a2 w.sess.length c2] w.sess F2) (r3:RFrames false h [.sl 9 a3 w.net.length c3] w.net F3) (r4:RDones false h [.sl 5 a4 w.hist.length c4] w.hist F4) (hn:Wh w) (hl:lo<=h.length) :
  ∃ cs h' F',Ae lo 103 [.agg (w.cs a1 c1 a2 c2 a3 c3 a4 c4)] h=some (.agg cs,h')/\Tc false h' cs w F'/\Mv h [] h' F':=by
 obtain ⟨⟨n1,n1'⟩,⟨n2,n2'⟩,⟨n3,n3'⟩,n4⟩:=hn;obtain ⟨x4,y4,h4,K4,e4,t4,m4⟩:=V0 (lo:=lo) (h:=h) (l:=w.hist) hl n4;obtain ⟨q1,x1,y1,h5,K1,e1,t1,m1⟩:=Dn (El:=RPlace false) rplace_ok (h:=h4) (l:=w.places) (f:=id) (lo:=lo) (R:=6) (e:=29) (bytes:=96) (zbj hl m4.le) (by decide) (by omega)
  (λi q a n c hh=>CX lo (i:Nat) a1 w.places.length c1 a2 w.sess.length c2 a3 w.net.length c3 a4 w.hist.length c4 0 none 0 (some 0) 0 none 0 (some 0) 0 none 0 (some 0) 0 none 0 (some 0) q a n c 0 none 0 (some 0) 0 none 0 (some 0) x4 w.hist.length y4 hh) (λi hi q a n c hh hm=>by
   obtain ⟨o,s1,s2,s3,b1,d1,b2,d2,b3,d3,H1,H2,H3,ha,ho,_,_,_,_,es1,es2,es3,p1,p2,p3,_⟩:=((m4.drop.trans hm).keep0 rplaces_ok r1).get hi;obtain ⟨raw,z1,t1,z2,t2,z3,t3,h6,K6,e6,n6,r6,m6⟩:=LR (lo:=lo) p1 p2 p3 (zbj (zbj hl m4.le) hm.le) (n1' _ (zbk hi));obtain ⟨v1,v2,v3,_,_,_,_,_,_,rfl,k1,k2,k3,eq⟩:=n6;obtain ⟨rfl,rfl,rfl,rfl,rfl,rfl⟩:=Y3 eq;refine ⟨w.places[i].cs z1 t1 z2 t2 z3 t3,K6,h6 ++ [.rows 6 29 false [w.places[i].cs z1 t1 z2 t2 z3 t3]],Mv.snoc.keep0 rplace_ok r6,m6.trans (Mv.snoc' m6.nd),?_⟩;simp only[Place.cs] at e6;rw[CX.e,Ak (by omega),Ad hi,ha,Ag,Bm,ho,Ag,Ab,Aa,Ab,Aa,Ab,es1,Ab,es2,Ab,es3,Ab,AB,Af,e6,Ac,AA,Ab,Aa,Ab,Aa,Ab,k1,Ab,k2,Ab,k3,Ab,AB,Af,A9,At (by omega),<- ha])
 have l5:=zbj (zbj hl m4.le) m1.le;have m41:=m4.drop.trans m1.drop;obtain ⟨q2,x2,y2,h6,K2,e2,t2,m2⟩:=Dn (El:=RSess false) IW (h:=h5) (l:=w.sess) (f:=id) (lo:=lo) (R:=5) (e:=66) (bytes:=56) l5 (by decide) (by omega)
  (λi q a n c hh=>CW lo (i:Nat) a1 w.places.length c1 a2 w.sess.length c2 a3 w.net.length c3 a4 w.hist.length c4 0 none 0 (some 0) 0 none 0 (some 0) 0 none 0 (some 0) 0 none 0 (some 0) q1 x1 w.places.length y1 q a n c 0 none 0 (some 0) x4 w.hist.length y4 hh) (λi hi q a n c hh hm=>by
   obtain ⟨o,v,b1,d1,G,ha,ho,_,_,es,hp,_⟩:=((m41.trans hm).keep0 rsesss_ok r2).get hi;obtain ⟨z1,t1,h7,K7,e7,r7,m7⟩:=Ja (lo:=lo) (h:=hh) (l:=w.sess[i].past) (zbj l5 hm.le) (n2' _ (zbk hi));refine ⟨w.sess[i].cs z1 t1,K7,h7 ++ [.rows 5 66 false [w.sess[i].cs z1 t1]],⟨_,rfl,Mv.snoc.keep0 rtags_ok r7⟩,m7.trans (Mv.snoc' m7.nd),?_⟩;rw[CW.e,Ak (by omega),Ad hi,ha,Ag,Bm,ho,Ag,Ab,Aa,Ab,es,Ab,Aa,Ab,Aa,Ab,Aa,Af,RTags.rows (Mv.snoc.keep0 rtags_ok hp),e7,Ah,A9,At (by omega),<- ha])
 have l6:=zbj l5 m2.le;have m42:=m41.trans m2.drop;obtain ⟨q3,x3,y3,h7,K3,e3,t3,m3⟩:=Dn (El:=We false) rframe_ok (h:=h6) (l:=w.net) (f:=id) (lo:=lo) (R:=9) (e:=123) (bytes:=96) l6 (by decide) (by omega)
  (λi q a n c hh=>CV lo (i:Nat) a1 w.places.length c1 a2 w.sess.length c2 a3 w.net.length c3 a4 w.hist.length c4 0 none 0 (some 0) 0 none 0 (some 0) 0 none 0 (some 0) 0 none 0 (some 0) q1 x1 w.places.length y1 q2 x2 w.sess.length y2 q a n c x4 w.hist.length y4 hh) (λi hi q a n c hh hm=>by
   obtain ⟨o,s,b1,d1,G,ha,ho,es,hp,_⟩:=((m42.trans hm).keep0 rframes_ok r3).get hi;obtain ⟨z1,t1,h7,K7,e7,r7,m7⟩:=CJ (lo:=lo) (v:=w.net[i].ver) hp (zbj l6 hm.le) (n3' _ (zbk hi)).1;refine ⟨w.net[i].cs z1 t1,K7,h7 ++ [.rows 9 123 false [w.net[i].cs z1 t1]],⟨_,rfl,_,rfl,Mv.snoc.keep0 rtags_ok r7⟩,m7.trans (Mv.snoc' m7.nd),?_⟩;simp only[Ver.cs] at e7;rw[CV.e,Ak (by omega),Ad hi,ha,Ag,Bm,ho,Ag,Ab,Aa,Ab,Aa,Ab,Aa,Ab,Aa,Ab,Aa,Ab,Aa,Ab,es,Ab,Bq,Ab,AB,Af,e7,Ac,AA,Ab,Aa,Ab,Aa,Ab,Aa,Ab,Ah,Ab,Bq,Ab,AB,Af,A9,At (by omega),<- ha])
 rw[zcV] at t1 t2 t3;have bd1:=(Sli.ok rplace_ok).bd _ _ _ _ t1;have bd2:=(Sli.ok IW).bd _ _ _ _ t2;have bd4:=rdones_ok.bd _ _ _ _ t4;have j1:=m4.join m1 bd4;have j2:=j1.join m2 (λy hy=>by
  rcases zbl.1 hy with g | g
  ·exact zbv (bd4 y g) m1.le
  ·exact bd1 y g)
 have j3:=j2.join m3 (λy hy=>by
  rcases zbl.1 hy with g | g
  ·rcases zbl.1 g with g | g
   ·exact zbv (bd4 y g) (zbj m1.le m2.le)
   ·exact zbv (bd1 y g) m2.le
  ·exact bd2 y g)
 have hperm:(K1++(K2++(K3++K4))).Perm (((K4++K1)++K2)++K3):=by rw[zbB,zbB];exact Ye
 refine ⟨_,h7,K1++(K2++(K3++K4)),QU ?_,⟨_,_,_,_,K1,K2,K3,K4,rfl,rfl,(m2.drop.trans m3.drop).keep0 rplaces_ok t1,m3.keep0 rsesss_ok t2,t3,(m1.drop.trans (m2.drop.trans m3.drop)).keep0 rdones_ok t4⟩,j3.lean (hperm.nodup_iff.2 j3.nd) λy hy=>hperm.mem_iff.1 hy⟩;obtain ⟨rows,Fs,k1,k2,_⟩:=(Mv.snoc (t := [.rows 5 126 false []])).keep0 rdones_ok r4 |>.rows;rw[k1,k2.of_flat.1,e4,Ah];refine e1.trans ?_;rw[CX.e,Aj (by omega)];refine e2.trans ?_;rw[CW.e,Aj (by omega)];refine e3.trans ?_;rw[CV.e,Aj (by omega)]
end


section
variable {lo:Nat}{h h':Heap}{w:World}{a1 a2 a3 a4 a:Pq}{c1 c2 c3 c4 c:Nq}{F F' F1 F2 F3 F4:List Nat}{b n:Nat}
theorem VT {n2 n3 n4:Nat} (r:Rd lo h b n) (hn:n<=500000) (hp:RPlaces false h [.sl 6 a1 w.places.length c1] w.places F1) (hb:b∉F1) (h3:w.places.length=3) (hgot:∀ p∈w.places,p.got.length=3) :
  ∃ (e:Event) (h':Heap),Ae lo 215 [.ptr (some (b,(0,0))),.agg [.sl 6 a1 w.places.length c1,.sl 5 a2 n2 c2,.sl 9 a3 n3 c3,.sl 5 a4 n4 c4]] h=some (.agg e.cs,h')/\e.text.size<=10/\Rd lo h' b (n+20)/\Mv h [b] h' [b]:=by
 suffices hk:∃ (e:Event) (h':Heap),_=some (V.agg e.cs,h')/\e.text.size<=10/\Rd lo h' b (n+20)/\Mv h [b] h' [b] from by obtain ⟨e,h',g,hr⟩:=hk;exact ⟨e,h',OC g,hr⟩
 obtain ⟨at',h1,e1,g1,g1',r1,m1⟩:=pick r (by omega) 3;obtain ⟨x,h2,e2,g2,g2',r2,m2⟩:=pick r1 (by omega) 20;have m12:=m1.trans m2;have h03:=g1' (by omega);have told:∀ (y:Int) (k:Heap),Ae lo 44 [.ptr (some (b,(0,0))),Iv 3] h2=some (Iv y,k)->0<=y->y<3->Rd lo k b (n+1+1+1)->Mv h2 [b] k [b] ->
   ∃ (e:Event) (h':Heap),(Ai (Ae lo 44 [.ptr (some (b,(0,0))),Iv 3] h2) λv_0 h_1=>eI .i64 v_0 λn_2=>Aq n_2 w.places.length (eO a1 λo=>eO (ld h_1 o.1 (o.2+n_2.toNat) 4 1) λo=>eC o λo s=>eN s (eS 1 o λo s b=>Aq at' s (eO o λo=>eO (ld h_1 o.1 (o.2+at'.toNat) 0 1) λo=>eC o λo s=>eN s (eS 6 o λo o s=>some (V.agg [Iv 10,Iv at',Iv n_2,Iv ((o:Nat):Int),.str ⟨⟨[]⟩⟩,.bool false],h_1))))))=some (V.agg e.cs,h')/\e.text.size<=10/\Rd lo h' b (n+20)/\Mv h [b] h' [b]:=by
  intro y k f lo1 hi1 q u;obtain ⟨j,rfl⟩:∃ j:Nat,y=(j:Int):=⟨y.toNat,by omega⟩;obtain ⟨i,rfl⟩:∃ i:Nat,at'=(i:Int):=⟨at'.toNat,by omega⟩;have hj:j<w.places.length:=by omega
  have hg3:=hgot _ (zbk hj);have m3:=m12.trans u;obtain ⟨o,s1,s2,s3,b1,d1,b2,d2,b3,d3,G1,G2,G3,ha,_,_,_,_,ho,_,_,es3,_,_,p3,_⟩:=(m3.keep rplaces_ok hp λy hy hm=>hb (by rw[zbr] at hm;exact hm ▸ hy)).get hj;obtain ⟨o',row,G,ha',ho',hel,_⟩:=p3.read (show i<w.places[j].got.length by omega);obtain ⟨v,rfl⟩:∃ v,row = [v]:=by obtain ⟨R',a',c',e,_⟩:=id hel;exact ⟨_,e⟩
  obtain ⟨b4,d4,es4,_⟩:=hel.form;have ld4:ld k o'.1 (o'.2+i) 0 1=some [v]:=by rw[ho'];rfl
  rw[f,Ac,Aa,Ad hj,ha,Ag,Bm,ho,Ag,Ab,Af,es3,Ad (by omega),ha',Ag,Bm,ld4,Ag,Ab,Af,es4];exact ⟨⟨10,(i:Nat),(j:Nat),((w.places[j].got[i]'(by omega)).length:Nat),⟨⟨[]⟩⟩,false⟩,k,rfl,zbN _,q.up (by omega),m3⟩
 rw[e1,Ac,Aa,e2,Ac,Aa];cases x==(0:Int) with
 | true =>rw[Ap];obtain ⟨y1,k1,f1,lo1,hi1,q1,u1⟩:=pick r2 (by omega) 4;obtain ⟨y2,k2,f2,lo2,hi2,q2,u2⟩:=pick q1 (by omega) 4;obtain ⟨y3,k3,f3,g3,q3,u3⟩:=Jw q2 (by omega);rw[f1,Ac,Aa,f2,Ac,Aa,f3,Ac,Bq];exact ⟨⟨1,y1,0,y2,y3,false⟩,k3,rfl,zbj (DU g3) (by decide),q3.up (by omega),((((m1.trans m2).trans u1).trans u2).trans u3)⟩
 | false =>
 rw[Ay];cases x==(1:Int) with
 | true =>rw[Ap];obtain ⟨y1,k1,f1,lo1,hi1,q1,u1⟩:=pick r2 (by omega) 4;obtain ⟨y2,k2,f2,lo2,hi2,q2,u2⟩:=pick q1 (by omega) 4;obtain ⟨y3,k3,f3,g3,q3,u3⟩:=Jw q2 (by omega);rw[f1,Ac,Aa,f2,Ac,Aa,f3,Ac,Bq];exact ⟨⟨1,y1,0,y2,y3,false⟩,k3,rfl,zbj (DU g3) (by decide),q3.up (by omega),((((m1.trans m2).trans u1).trans u2).trans u3)⟩
 | false =>
 rw[Ay];cases x==(2:Int) with
 | true =>rw[Ap];obtain ⟨y1,k1,f1,lo1,hi1,q1,u1⟩:=pick r2 (by omega) 4;obtain ⟨y2,k2,f2,lo2,hi2,q2,u2⟩:=pick q1 (by omega) 4;obtain ⟨y3,k3,f3,g3,q3,u3⟩:=Jw q2 (by omega);rw[f1,Ac,Aa,f2,Ac,Aa,f3,Ac,Bq];exact ⟨⟨1,y1,0,y2,y3,false⟩,k3,rfl,zbj (DU g3) (by decide),q3.up (by omega),((((m1.trans m2).trans u1).trans u2).trans u3)⟩
 | false =>
 rw[Ay];cases x==(3:Int) with
 | true =>rw[Ap];obtain ⟨y1,k1,f1,lo1,hi1,q1,u1⟩:=pick r2 (by omega) 4;obtain ⟨y2,k2,f2,lo2,hi2,q2,u2⟩:=pick q1 (by omega) 4;rw[f1,Ac,Aa,f2,Ac,Aa];exact ⟨⟨1,y1,0,y2,⟨⟨[]⟩⟩,true⟩,k2,rfl,zbN _,q2.up (by omega),(((m1.trans m2).trans u1).trans u2)⟩
 | false =>
 rw[Ay];cases x==(4:Int) with
 | true =>rw[Ap];obtain ⟨y1,k1,f1,lo1,hi1,q1,u1⟩:=pick r2 (by omega) 4;rw[f1,Ac,Aa];exact ⟨⟨2,y1,0,0,⟨⟨[]⟩⟩,false⟩,k1,rfl,zbN _,q1.up (by omega),((m1.trans m2).trans u1)⟩
 | false =>
 rw[Ay];cases x==(5:Int) with
 | true =>rw[Ap];obtain ⟨y1,k1,f1,lo1,hi1,q1,u1⟩:=pick r2 (by omega) 4;rw[f1,Ac,Aa];exact ⟨⟨2,y1,0,0,⟨⟨[]⟩⟩,false⟩,k1,rfl,zbN _,q1.up (by omega),((m1.trans m2).trans u1)⟩
 | false =>
 rw[Ay];cases x==(6:Int) with
 | true =>rw[Ap];obtain ⟨y1,k1,f1,lo1,hi1,q1,u1⟩:=pick r2 (by omega) 4;rw[f1,Ac,Aa];exact ⟨⟨2,y1,0,0,⟨⟨[]⟩⟩,false⟩,k1,rfl,zbN _,q1.up (by omega),((m1.trans m2).trans u1)⟩
 | false =>
 rw[Ay];cases x==(7:Int) with
 | true =>rw[Ap];obtain ⟨y1,k1,f1,lo1,hi1,q1,u1⟩:=pick r2 (by omega) 4;obtain ⟨y2,k2,f2,lo2,hi2,q2,u2⟩:=pick q1 (by omega) 4;obtain ⟨y3,k3,f3,lo3,hi3,q3,u3⟩:=pick q2 (by omega) 4;rw[f1,Ac,Aa,f2,Ac,Aa,f3,Ac,Aa];exact ⟨⟨3,y1,y2,y3,⟨⟨[]⟩⟩,false⟩,k3,rfl,zbN _,q3.up (by omega),((((m1.trans m2).trans u1).trans u2).trans u3)⟩
 | false =>
 rw[Ay];cases x==(8:Int) with
 | true =>rw[Ap];obtain ⟨y1,k1,f1,lo1,hi1,q1,u1⟩:=pick r2 (by omega) 4;obtain ⟨y2,k2,f2,lo2,hi2,q2,u2⟩:=pick q1 (by omega) 4;obtain ⟨y3,k3,f3,lo3,hi3,q3,u3⟩:=pick q2 (by omega) 4;rw[f1,Ac,Aa,f2,Ac,Aa,f3,Ac,Aa];exact ⟨⟨3,y1,y2,y3,⟨⟨[]⟩⟩,false⟩,k3,rfl,zbN _,q3.up (by omega),((((m1.trans m2).trans u1).trans u2).trans u3)⟩
 | false =>
 rw[Ay];cases x==(9:Int) with
 | true =>rw[Ap];obtain ⟨y1,k1,f1,lo1,hi1,q1,u1⟩:=pick r2 (by omega) 4;obtain ⟨y2,k2,f2,lo2,hi2,q2,u2⟩:=pick q1 (by omega) 4;obtain ⟨y3,k3,f3,lo3,hi3,q3,u3⟩:=pick q2 (by omega) 4;rw[f1,Ac,Aa,f2,Ac,Aa,f3,Ac,Aa];exact ⟨⟨3,y1,y2,y3,⟨⟨[]⟩⟩,false⟩,k3,rfl,zbN _,q3.up (by omega),((((m1.trans m2).trans u1).trans u2).trans u3)⟩
 | false =>
 rw[Ay];cases x==(10:Int) with
 | true =>rw[Ap];obtain ⟨y1,k1,f1,g1,q1,u1⟩:=Ea (e:=3) [4,5] (rows := [[Iv 4],[Iv 5]]) (len:=2) (cc:=some 2) r2 (by omega) rfl rfl (by decide);obtain ⟨y2,k2,f2,lo2,hi2,q2,u2⟩:=pick q1 (by omega) 4;obtain ⟨y3,k3,f3,lo3,hi3,q3,u3⟩:=pick q2 (by omega) 3;rw[f1,Ac,Aa,f2,Ac,Aa,f3,Ac,Aa];exact ⟨⟨y1,y2,y3,0,⟨⟨[]⟩⟩,false⟩,k3,rfl,zbN _,q3.up (by omega),((((m1.trans m2).trans u1).trans u2).trans u3)⟩
 | false =>
 rw[Ay];cases x==(11:Int) with
 | true =>rw[Ap];obtain ⟨y1,k1,f1,g1,q1,u1⟩:=Ea (e:=3) [0,0,1,2] (rows := [[Iv 0],[Iv 0],[Iv 1],[Iv 2]]) (len:=4) (cc:=some 4) r2 (by omega) rfl rfl (by decide);rw[f1,Ac,Aa];exact ⟨⟨6,at',y1,0,⟨⟨[]⟩⟩,false⟩,k1,rfl,zbN _,q1.up (by omega),((m1.trans m2).trans u1)⟩
 | false =>
 rw[Ay];cases x==(12:Int) with
 | true =>rw[Ap];obtain ⟨y1,k1,f1,g1,q1,u1⟩:=Ea (e:=3) [0,0,1,2] (rows := [[Iv 0],[Iv 0],[Iv 1],[Iv 2]]) (len:=4) (cc:=some 4) r2 (by omega) rfl rfl (by decide);rw[f1,Ac,Aa];exact ⟨⟨6,at',y1,0,⟨⟨[]⟩⟩,false⟩,k1,rfl,zbN _,q1.up (by omega),((m1.trans m2).trans u1)⟩
 | false =>
 rw[Ay];cases x==(13:Int) with
 | true =>rw[Ap];obtain ⟨y1,k1,f1,g1,q1,u1⟩:=Ea (e:=3) [0,0,1,2] (rows := [[Iv 0],[Iv 0],[Iv 1],[Iv 2]]) (len:=4) (cc:=some 4) r2 (by omega) rfl rfl (by decide);rw[f1,Ac,Aa];exact ⟨⟨6,at',y1,0,⟨⟨[]⟩⟩,false⟩,k1,rfl,zbN _,q1.up (by omega),((m1.trans m2).trans u1)⟩
 | false =>
 rw[Ay];cases x==(14:Int) with
 | true =>rw[Ap];obtain ⟨y1,k1,f1,g1,q1,u1⟩:=Ea (e:=3) [7,8] (rows := [[Iv 7],[Iv 8]]) (len:=2) (cc:=some 2) r2 (by omega) rfl rfl (by decide);obtain ⟨y2,k2,f2,lo2,hi2,q2,u2⟩:=pick q1 (by omega) 4;rw[f1,Ac,Aa,f2,Ac,Aa];exact ⟨⟨y1,at',y2,0,⟨⟨[]⟩⟩,false⟩,k2,rfl,zbN _,q2.up (by omega),(((m1.trans m2).trans u1).trans u2)⟩
 | false =>
 rw[Ay];cases x==(15:Int) with
 | true =>rw[Ap];obtain ⟨y1,k1,f1,lo1,hi1,q1,u1⟩:=pick r2 (by omega) 3;rw[f1,Ac,Aa];exact ⟨⟨9,at',y1,0,⟨⟨[]⟩⟩,false⟩,k1,rfl,zbN _,q1.up (by omega),((m1.trans m2).trans u1)⟩
 | false =>
 rw[Ay];cases x==(16:Int) with
 | true =>rw[Ap];obtain ⟨y1,k1,f1,lo1,hi1,q1,u1⟩:=pick r2 (by omega) 3;rw[f1,Ac,Aa];exact ⟨⟨9,at',y1,0,⟨⟨[]⟩⟩,false⟩,k1,rfl,zbN _,q1.up (by omega),((m1.trans m2).trans u1)⟩
 | false =>
 rw[Ay];cases x==(17:Int) with
 | true =>rw[Ap];obtain ⟨y1,k1,f1,lo1,hi1,q1,u1⟩:=pick r2 (by omega) 3;exact told y1 k1 f1 lo1 (hi1 (by omega)) q1 u1
 | false =>
 rw[Ay];cases x==(18:Int) with
 | true =>rw[Ap];obtain ⟨y1,k1,f1,lo1,hi1,q1,u1⟩:=pick r2 (by omega) 3;exact told y1 k1 f1 lo1 (hi1 (by omega)) q1 u1
 | false =>
 rw[Ay];obtain ⟨y1,k1,f1,g1,q1,u1⟩:=Ea (e:=3) [11,11,11,12,13,0,14] (rows := [[Iv 11],[Iv 11],[Iv 11],[Iv 12],[Iv 13],[Iv 0],[Iv 14]]) (len:=7) (cc:=some 7) r2 (by omega) rfl rfl (by decide);obtain ⟨y2,k2,f2,lo2,hi2,q2,u2⟩:=pick q1 (by omega) 3;rw[f1,Ac,Aa,f2,Ac,Aa];exact ⟨⟨y1,y2,0,0,⟨⟨[]⟩⟩,false⟩,k2,rfl,zbN _,q2.up (by omega),(((m1.trans m2).trans u1).trans u2)⟩
end


abbrev REvents:Rel (List Event):=Sli false 6 74 (flat Event.cs)
theorem revents_ok:REvents.Ok:=Sli.ok CF
section
variable {lo:Nat}{h h':Heap}{w:World}{a1 a2 a3 a4 a:Pq}{c1 c2 c3 c4 c:Nq}{E F F' F1 F2 F3 F4:List Nat}{b n:Nat}
theorem nd3 {E F:List Nat} (hn:(b ::(E++F)).Nodup):b∉E/\b∉F/\E.Nodup/\F.Nodup/\∀ y∈E,y∉F:=by rw[zbs,zbl,zbm] at hn;simp only[not_or] at hn;exact ⟨hn.1.1,hn.1.2,hn.2.1,hn.2.2.1,λy hy hm=>hn.2.2.2 y hy y hm rfl⟩
theorem zag {E F:List Nat}:(b ::(E++F)).Perm (E++(b :: F)):=List.perm_middle.symm
theorem zaf {E F:List Nat}:(b ::(E++F)).Perm (F++(b :: E)):=by rw[show b ::(E++F)=(b :: E)++F from rfl];exact zcg
theorem VS {e:Event} (h:e.text.size<=10):e.text.size<=1048576:=by omega
theorem UA {most:Int} (hmost:most<=1000):∀ (r m:Nat) (hh:Heap) (w:World) (l:List Event) (a:Pq) (c:Nq) (E:List Nat) (x1:Pq) (y1:Nq) (x2:Pq) (y2:Nq) (x3:Pq) (y3:Nq) (x4:Pq) (y4:Nq) (K1 K2 K3 K4:List Nat) (n:Nat),
  (m:Int)+r=most->r<=120->n+21*r<=500000->Rd lo hh b n->REvents hh [.sl 6 a l.length c] l E->(∀ e∈l,e.text.size<=10)->l.length+r<=1000->WR lo hh w x1 y1 x2 y2 x3 y3 x4 y4 K1 K2 K3 K4->Good w->(b ::(E++(K1++(K2++(K3++K4))))).Nodup->(∀ y∈E,lo<=y) ->
  ∃ (l':List Event) (a':Pq) (c':Nq) (h':Heap) (E':List Nat),Bg lo b 0 0 most a l.length c (m:Nat) x1 w.places.length y1 x2 w.sess.length y2 x3 w.net.length y3 x4 w.hist.length y4 hh=some (.sl 6 a' l'.length c',h')/\REvents h' [.sl 6 a' l'.length c'] l' E'/\(∀ e∈l',e.text.size<=10)/\l'.length<=1000 /\
   Rd lo h' b (n+21*r)/\Mv hh (b ::(E++(K1++(K2++(K3++K4))))) h' (b :: E'):=by
 intro r;induction r with
 | zero =>
  intro m hh w l a c E x1 y1 x2 y2 x3 y3 x4 y4 K1 K2 K3 K4 n hm _ _ r0 re ht hl H hg hnd hE;refine ⟨l,a,c,hh,E,?_,re,ht,by omega,r0,(Mv.refl hnd).lean ?_ λy hy=>?_⟩
  ·rw[Bg.e,Aj (by omega)]
  ·obtain ⟨k1,k2,k3,k4,k5⟩:=nd3 hnd;exact zbs.2 ⟨k1,k3⟩
  ·rw[zbx] at hy ⊢;exact hy.imp id λg=>zbM _ g
 | succ r ih =>
  intro m hh w l a c E x1 y1 x2 y2 x3 y3 x4 y4 K1 K2 K3 K4 n hm hr hn r0 re ht hl H hg hnd hE;obtain ⟨k1,k2,k3,k4,k5⟩:=nd3 hnd;have hEb:=revents_ok.bd _ _ _ _ re;have hFb:=H.bd;obtain ⟨e,h1,e1,et,r1,m1⟩:=VT (a2:=x2) (c2:=y2) (a3:=x3) (c3:=y3) (a4:=x4) (c4:=y4) (n2:=w.sess.length) (n3:=w.net.length) (n4:=w.hist.length) r0 (by omega) H.r1 (λhm=>k2 (by simp[hm])) hg.ok.p3 (λp hp=>by
   obtain ⟨i,hi⟩:=zbC.1 hp;exact (AX (hg.ok.place i p hi).2).2.2.1)
  have notb:∀ {G:List Nat},(∀ y∈G,y∈K1++(K2++(K3++K4)))->∀ y∈G,y ∉ [b]:=λhG y hy hm=>by rw[zbr] at hm;exact k2 (hm ▸ hG y hy)
  have H1:WR lo h1 w x1 y1 x2 y2 x3 y3 x4 y4 K1 K2 K3 K4:=⟨m1.keep rplaces_ok H.r1 (notb λy hy=>by simp[hy]),m1.keep rsesss_ok H.r2 (notb λy hy=>by simp[hy]),m1.keep rframes_ok H.r3 (notb λy hy=>by simp[hy]),m1.keep rdones_ok H.r4 (notb λy hy=>by simp[hy]),H.nd,H.ge,zbj H.hl m1.le⟩;have re1:=m1.keep revents_ok re λy hy hm=>k1 (by rw[zbr] at hm;exact hm ▸ hy);have M1:Mv hh (b ::(E++(K1++(K2++(K3++K4))))) h1 (b ::(E++(K1++(K2++(K3++K4))))):=m1.mid (A := [b]) (B:=E++(K1++(K2++(K3++K4)))) (A' := [b]) (.refl _) hnd (λy hy=>(zbl.1 hy).elim (hEb y) (hFb y)) (.refl _);obtain ⟨cs2,h2,F2,e2,⟨z1,t1,z2,t2,z3,t3,z4,t4,Q1,Q2,Q3,Q4,rfl,rfl,H2⟩,m2,N2⟩:=Rz (e:=e) H1 hg.fits (VS et);have hg2:Good (Si w e):=SN hg;have hEb1:=revents_ok.bd _ _ _ _ re1;have re2:=m2.keep revents_ok re1 k5;have r2:=r1.keep m2 k2 H.ge;have M2:Mv h1 (b ::(E++(K1++(K2++(K3++K4))))) h2 (b ::(E++(Q1++(Q2++(Q3++Q4))))):=m2.mid zaf hnd (λy hy=>by
   rw[zbx] at hy;rcases hy with rfl | hy
   ·exact r1.lt
   ·exact hEb1 y hy) zaf
  have M12:=M1.trans M2;have hnd2:=M12.nd;obtain ⟨j1,j2,j3,j4,j5⟩:=nd3 hnd2;have more:∀ (h3:Heap) (n3:Nat),Rd lo h3 b n3->n3+21*r<=500000->REvents h3 [.sl 6 a l.length c] l E->WR lo h3 (Si w e) z1 t1 z2 t2 z3 t3 z4 t4 Q1 Q2 Q3 Q4->n3<=n+21 ->
    ∃ (l':List Event) (a':Pq) (c':Nq) (h':Heap) (E':List Nat),(Aw 6 (h3 ++ [.rows 6 74 false [e.cs]]) (.sl 6 (some (h3.length,0)) 1 (some 1)) λx=>Dk lo 74 6 56 (.sl 6 a l.length c) x (h3 ++ [.rows 6 74 false [e.cs]]) λx d=>eS 6 x λx q f=>Bg lo b 0 0 most x q f ((m+1:Nat):Int) z1 (Si w e).places.length t1 z2 (Si w e).sess.length t2 z3 (Si w e).net.length t3 z4 (Si w e).hist.length t4 d)=some (.sl 6 a' l'.length c',h')/\REvents h' [.sl 6 a' l'.length c'] l' E'/\(∀ e∈l',e.text.size<=10)/\l'.length<=1000 /\
     Rd lo h' b (n+21*(r+1))/\Mv h3 (b ::(E++(Q1++(Q2++(Q3++Q4))))) h' (b :: E'):=by
   intro h3 n3 r3 hn3 re3 H3 hnn;have hEb3:=revents_ok.bd _ _ _ _ re3;obtain ⟨a6,c6,h6,E6,e6,r6,m6⟩:=E0 (lo:=lo) (bytes:=56) (e:=74) (El:=flat Event.cs) CF re3 (row:=e.cs) (x:=e) (G := []) (h1:=h3 ++ [.rows 6 74 false [e.cs]])
    ⟨rfl,rfl⟩ Mv.snoc j3 hE H3.hl (by decide) (by omega)
   have hll:(l ++ [e]).length=l.length+1:=by simp
   rw[<- hll] at r6 e6;have H6:WR lo h6 (Si w e) z1 t1 z2 t2 z3 t3 z4 t4 Q1 Q2 Q3 Q4:=⟨m6.keep rplaces_ok H3.r1 (λy hy hm=>j5 y hm (by simp[hy])),m6.keep rsesss_ok H3.r2 (λy hy hm=>j5 y hm (by simp[hy])),m6.keep rframes_ok H3.r3 (λy hy hm=>j5 y hm (by simp[hy])),m6.keep rdones_ok H3.r4 (λy hy hm=>j5 y hm (by simp[hy])),H3.nd,H3.ge,zbj H3.hl m6.le⟩;have M6:Mv h3 (b ::(E++(Q1++(Q2++(Q3++Q4))))) h6 (b ::(E6++(Q1++(Q2++(Q3++Q4))))):=m6.mid zag hnd2 (λy hy=>by
    rw[zbx] at hy;rcases hy with rfl | hy
    ·exact r3.lt
    ·exact H3.bd y hy) zag
   obtain ⟨l',a',c',h',E',f1,f2,f3,f4,f5,f6⟩:=ih (m+1) h6 (Si w e) (l ++ [e]) a6 c6 E6 _ _ _ _ _ _ _ _ _ _ _ _ n3 (by omega) (by omega) (by omega) (r3.keep m6 j1 hE) r6 (λx hx=>by
    rcases zbl.1 hx with g | g
    ·exact ht x g
    ·rw[zbr] at g;subst g;exact et) (by omega) H6 hg2 M6.nd (m6.ge H3.hl hE)
   refine ⟨l',a',c',h',E',?_,f2,f3,f4,f5.up (by omega),M6.trans f6⟩;rw[A9,e6,Ah];exact f1
  simp only[Event.cs] at e1;have e2':=e2;simp only[Event.cs,World.cs] at e2';rw[Bg.e,Ak (by omega),e1,Ac,AA,Ab,Aa,Ab,Aa,Ab,Aa,Ab,Aa,Ab,Bq,Ab,AB,Af,e2',Ac,Hz,Ab,AA,Ab,Ah,Ab,Ah,Ab,Ah,Ab,Ah,Af,Ab,Az];cases hs:(Hp w e).isSome with
  | true =>obtain ⟨l',a',c',h',E',f1,f2,f3,f4,f5,f6⟩:=more h2 (n+20) r2 (by omega) re2 H2 (by omega);refine ⟨l',a',c',h',E',?_,f2,f3,f4,f5,M12.trans f6⟩;rw[Ap,Af,At (by omega)];exact f1
  | false =>
   have hnone:Hp w e=none:=by
    cases hx:Hp w e with
    | none=>rfl
    | some y=>rw[hx] at hs;cases hs
   have hw:Si w e=w:=by unfold Si;rw[hnone];rfl
   obtain ⟨v,h3,e3,_,_,r3,m3⟩:=pick r2 (by omega) 6;have notb2:∀ {G:List Nat},(∀ y∈G,y∈Q1++(Q2++(Q3++Q4)))->∀ y∈G,y ∉ [b]:=λhG y hy hm=>by rw[zbr] at hm;exact j2 (hm ▸ hG y hy)
   have H3:WR lo h3 (Si w e) z1 t1 z2 t2 z3 t3 z4 t4 Q1 Q2 Q3 Q4:=⟨m3.keep rplaces_ok H2.r1 (notb2 λy hy=>by simp[hy]),m3.keep rsesss_ok H2.r2 (notb2 λy hy=>by simp[hy]),m3.keep rframes_ok H2.r3 (notb2 λy hy=>by simp[hy]),m3.keep rdones_ok H2.r4 (notb2 λy hy=>by simp[hy]),H2.nd,H2.ge,zbj H2.hl m3.le⟩;have re3:=m3.keep revents_ok re2 λy hy hm=>j1 (by rw[zbr] at hm;exact hm ▸ hy);have M3:Mv h2 (b ::(E++(Q1++(Q2++(Q3++Q4))))) h3 (b ::(E++(Q1++(Q2++(Q3++Q4))))):=m3.mid (A := [b]) (B:=E++(Q1++(Q2++(Q3++Q4)))) (A' := [b]) (.refl _) hnd2 (λy hy=>(zbl.1 hy).elim (revents_ok.bd _ _ _ _ re2 y) (H2.bd y)) (.refl _);have M123:=M12.trans M3;rw[Ay,Af,e3,Ac,Aa];by_cases hv:v>0
   ·have eq:=N2 hnone;rw[hw] at eq H3;simp only[World.cs,List.cons.injEq,V.sl.injEq,true_and,and_true] at eq;obtain ⟨⟨rfl,rfl⟩,⟨rfl,rfl⟩,⟨rfl,rfl⟩,rfl,rfl⟩:=eq;obtain ⟨l',a',c',h',E',f1,f2,f3,f4,f5,f6⟩:=ih (m+1) h3 w l a c E _ _ _ _ _ _ _ _ _ _ _ _ (n+21) (by omega) (by omega) (by omega) r3 re3 ht (by omega) H3 hg M123.nd hE;refine ⟨l',a',c',h',E',?_,f2,f3,f4,f5.up (by omega),M123.trans f6⟩;rw[Ak hv,At (by omega)];exact f1
   ·obtain ⟨l',a',c',h',E',f1,f2,f3,f4,f5,f6⟩:=more h3 (n+21) r3 (by omega) re3 H3 (by omega);refine ⟨l',a',c',h',E',?_,f2,f3,f4,f5,M123.trans f6⟩;rw[Aj hv,At (by omega)];exact f1
theorem MO {cs:List V} (hw:Tc false h cs w F) (m:Mv h' [] h F) (hl':lo<=h'.length):∃ s1 s2 s3 s4 a1 c1 a2 c2 a3 c3 a4 c4 F1 F2 F3 F4,cs = [s1,s2,s3,s4]/\F=F1++(F2++(F3++F4)) /\
  (∀ {T:Type} (K:Pq->Nat->Nq->Option T),eS 6 s1 K=K a1 w.places.length c1)/\(∀ {T:Type} (K:Pq->Nat->Nq->Option T),eS 5 s2 K=K a2 w.sess.length c2) /\
  (∀ {T:Type} (K:Pq->Nat->Nq->Option T),eS 9 s3 K=K a3 w.net.length c3)/\(∀ {T:Type} (K:Pq->Nat->Nq->Option T),eS 5 s4 K=K a4 w.hist.length c4)/\WR lo h w a1 c1 a2 c2 a3 c3 a4 c4 F1 F2 F3 F4 :=
 WR.of hw m.nd (m.ge hl' (by simp)) (zbj hl' m.le)
theorem Pn {n0 s0 most:Nat} (h1:1<=n0) (h4:n0<=4) (hs:s0<=4) (hmost:most<=120) (r:Rd lo h b n) (hn:n<=300000) (hl:lo<=h.length) :
  ∃ (l:List Event) (a:Pq) (c:Nq) (h':Heap) (E:List Nat),Ae lo 145 [.ptr (some (b,(0,0))),Iv (n0:Nat),Iv (s0:Nat),Iv (most:Nat)] h=some (.sl 6 a l.length c,h')/\REvents h' [.sl 6 a l.length c] l E/\(∀ e∈l,e.text.size<=10)/\l.length<=1000 /\
   Rd lo h' b (n+3000)/\Mv h [b] h' (b :: E):=by
 obtain ⟨cs,h2,F2,e2,w2,m2⟩:=Pf (lo:=lo) (h:=h) h1 h4 (by omega:s0<=1000) hl;obtain ⟨s1,s2,s3,s4,a1,c1,a2,c2,a3,c3,a4,c4,K1,K2,K3,K4,rfl,rfl,es1,es2,es3,es4,H⟩:=MO w2 m2 hl;have mx:Mv h2 [] (h2 ++ [.rows 6 74 false []]) [h2.length]:=Mv.last;have hb2:=H.bd;have H3:WR lo (h2 ++ [.rows 6 74 false []]) (Jp n0 s0) a1 c1 a2 c2 a3 c3 a4 c4 K1 K2 K3 K4:=⟨mx.keep0 rplaces_ok H.r1,mx.keep0 rsesss_ok H.r2,mx.keep0 rframes_ok H.r3,mx.keep0 rdones_ok H.r4,H.nd,H.ge,zbj H.hl mx.le⟩;have hre:REvents (h2 ++ [.rows 6 74 false []]) [.sl 6 (some (h2.length,0)) 0 (some 0)] [] [h2.length]:=Sli.fresh (zbo _);have hblt:=r.lt;have hbF:b∉K1++(K2++(K3++K4)):=λhm=>by have:=m2.new b hm;omega
 have hnd:(b ::([h2.length]++(K1++(K2++(K3++K4))))).Nodup:=by have:=m2.le;rw[zbs,zbT,zbS,zbs,zbx];exact ⟨λhm=>hm.elim (λg=>by omega) hbF,λhm=>by have:=hb2 _ hm;omega,m2.nd⟩
 have r3:=(r.keep m2 (by simp) (by simp)).keep mx (by simp) (by simp);obtain ⟨l,a,c,h',E,f1,f2,f3,f4,f5,f6⟩:=UA (most:=(most:Nat)) (by omega) most 0 _ (Jp n0 s0) [] _ _ _ _ _ _ _ _ _ _ _ _ _ _ _ n (by omega) (by omega) (by omega) r3 hre (by simp) (by simp;omega) H3 (M0 h1 h4 hs) hnd (by simp;exact zbj hl m2.le);refine ⟨l,a,c,h',E,NC ?_,f2,f3,f4,f5.up (by omega),?_⟩
 ·rw[e2,Ac,AA,Ab,es1,Ab,es2,Ab,es3,Ab,es4,Af];exact f1
 ·have M:Mv h [b] (h2 ++ [.rows 6 74 false []]) (b ::([h2.length]++(K1++(K2++(K3++K4))))):=by
   refine ⟨zbj m2.le mx.le,λy hy hF=>?_,hnd,λy hy=>?_⟩
   ·rw[mx.fr y (zbv hy m2.le) (by simp),m2.fr y hy (by simp)]
   ·simp only[zbx,zbT,zbS] at hy;rcases hy with rfl | rfl | hy
    ·exact .inl (by simp)
    ·exact .inr ⟨m2.le,by simp⟩
    ·have:=hb2 y hy;exact .inr ⟨m2.new y hy,by rw[zbw];omega⟩
  exact M.trans f6
end


variable {l:List Event}
def N3 (w:World) (l:List Event):World:=l.foldl Si w
theorem Pz {w:World}{e:Event}:N3 w (e :: l)=N3 (Si w e) l:=rfl
theorem R7:∀ {l:List Event}{w:World},Good w->Good (N3 w l)
 | [],_,h=>h
 | _ :: l,_,h=>R7 (l:=l) (SN h)
section
variable {lo:Nat}{h h':Heap}{w:World}{a1 a2 a3 a4 a:Pq}{c1 c2 c3 c4 c:Nq}{E F F' F1 F2 F3 F4:List Nat}{b n:Nat}
theorem Wy (hg:Good w):Wh w:=by
 have h1:=hg.ok.p3;have h2:=hg.ok.s4;have h3:=hg.ok.n12;have h4:=hg.ok.h80;refine ⟨⟨by omega,λp hp=>?_⟩,⟨by omega,λs hs=>?_⟩,⟨by omega,λf hf=>?_⟩,by omega⟩
 ·obtain ⟨i,hi⟩:=zbC.1 hp;exact (FN (CS (hg.ok.place i p hi).2) (by decide) (by decide) (by decide)).1
 ·have:=DV (DF (hg.ok.sess s hs)).2.1;omega
 ·have:=(NW hg.fits (hg.ok.net f hf)).1;have h1:=this.1;have h2:=this.2;omega
theorem Xy {f:Frame}:(Mh w f).sess=w.sess:=by unfold Mh;split<;>rfl
theorem W5 {w':World}{e:Event} (he:Hp w e=some w'):w'.sess.length=w.sess.length:=by
 unfold Hp Gb GG Nw IX Mu Ub H7 RF Ni at he;simp only[cond_eq_ite] at he
 repeat' split at he
 all_goals first
  | (cases he;done)
  | (injection he with he;subst he;simp[setS,setP,setN,Xy];done)
  | (rw[zbY] at he;obtain ⟨q,_,rfl⟩:=he;rfl)
theorem Z5 {e:Event}:(Si w e).sess.length=w.sess.length:=by
 unfold Si;cases he:Hp w e with
 | none=>rfl
 | some w'=>exact W5 he
theorem Su (r:Rd lo h b n) (hn:n<=290000) (hl:lo<=h.length) :
  ∃ (n0 s0:Nat) (l:List Event) (a:Pq) (c:Nq) (h':Heap) (E:List Nat),Ae lo 72 [.ptr (some (b,(0,0)))] h=some (.tup [Iv (n0:Nat),Iv (s0:Nat),.sl 6 a l.length c],h')/\(1<=n0/\n0<=4)/\(1<=s0/\s0<=4)/\REvents h' [.sl 6 a l.length c] l E/\(∀ e∈l,e.text.size<=10)/\l.length<=1000 /\
   Rd lo h' b (n+3010)/\Mv h [b] h' (b :: E):=by
 obtain ⟨v,h1,e1,g1,g1',r1,m1⟩:=pick r (by omega) 4;obtain ⟨u,h2,e2,g2,g2',r2,m2⟩:=pick r1 (by omega) 4;obtain ⟨k,h3,e3,hk,r3,m3⟩:=Ea (e:=3) [0,20,60,120] (rows := [[Iv 0],[Iv 20],[Iv 60],[Iv 120]]) (len:=4) (cc:=some 4) r2 (by omega) rfl rfl (by decide);have hv:=g1' (by omega);have hu:=g2' (by omega);have hk':0<=k/\k<=120:=by simp at hk;omega
 obtain ⟨q,rfl⟩:∃ q:Nat,k=(q:Int):=⟨k.toNat,by omega⟩;obtain ⟨n0,hn0⟩:∃ n0:Nat,1+v=(n0:Int):=⟨(1+v).toNat,by omega⟩;obtain ⟨s0,hs0⟩:∃ s0:Nat,1+u=(s0:Int):=⟨(1+u).toNat,by omega⟩;have m13:=(m1.trans m2).trans m3;obtain ⟨l,a,c,h4,E,e4,f2,f3,f4,f5,f6⟩:=Pn (n0:=n0) (s0:=s0) (most:=q) (by omega) (by omega) (by omega) (by omega) r3 (by omega) (zbj hl m13.le);refine ⟨n0,s0,l,a,c,h4,E,Qn ?_,⟨by omega,by omega⟩,⟨by omega,by omega⟩,f2,f3,f4,f5.up (by omega),m13.trans f6⟩;rw[e1,Ac,Aa,e2,Ac,Aa,e3,Ac,Aa,wr (by omega) (by omega),wr (by omega) (by omega),hn0,hs0,e4,Ac,Ah]
theorem RK:∀ {l:List Event}{w:World},(N3 w l).sess.length=w.sess.length
 | [],_=>rfl
 | e :: l,w=>by rw[Pz,RK,Z5]
theorem Xe (ht:∀ e∈l,e.text.size<=1048576) (hl6:l.length<=1048576):∀ (r m:Nat) (hh:Heap) (w:World) (E:List Nat) (x1:Pq) (y1:Nq) (x2:Pq) (y2:Nq) (x3:Pq) (y3:Nq) (x4:Pq) (y4:Nq) (K1 K2 K3 K4:List Nat),
  m+r=l.length->REvents hh [.sl 6 a l.length c] l E->WR lo hh w x1 y1 x2 y2 x3 y3 x4 y4 K1 K2 K3 K4->Good w->(∀ y∈E,y∉K1++(K2++(K3++K4))) ->
  ∃ cs' h' F',B3 lo a l.length c (m:Nat) 0 none 0 (some 0) 0 none 0 (some 0) 0 none 0 (some 0) 0 none 0 (some 0) x1 w.places.length y1 x2 w.sess.length y2 x3 w.net.length y3 x4 w.hist.length y4 hh=some (.agg cs',h')/\Oq lo h' cs' (N3 w ((l.take 60).drop m)) F'/\Mv hh (K1++(K2++(K3++K4))) h' F':=by
 intro r;induction r with
 | zero =>intro m hh w E x1 y1 x2 y2 x3 y3 x4 y4 K1 K2 K3 K4 hm re H hg hd;exact ⟨_,hh,_,by rw[B3.e,Aj (by omega)],by rw[List.drop_of_length_le (by rw[zco];omega)];exact H.at,Mv.refl H.nd⟩
 | succ r ih =>
  intro m hh w E x1 y1 x2 y2 x3 y3 x4 y4 K1 K2 K3 K4 hm re H hg hd;by_cases h60:(m:Int)<60
  ·have hml:m<l.length:=by omega
   obtain ⟨o,row,G,ha,hld,⟨rfl,_⟩,_⟩:=re.read hml;obtain ⟨cs2,h2,F2,e2,⟨z1,t1,z2,t2,z3,t3,z4,t4,Q1,Q2,Q3,Q4,rfl,rfl,H2⟩,m2,_⟩:=Rz (e:=l[m]) H hg.fits (ht _ (zbk hml));have re2:=m2.keep revents_ok re hd;have hEb:=revents_ok.bd _ _ _ _ re;obtain ⟨cs',h',F',f1,f2,f4⟩:=ih (m+1) h2 (Si w l[m]) E _ _ _ _ _ _ _ _ _ _ _ _ (by omega) re2 H2 (SN hg) (λy hy hm=>by
    rcases m2.sub y hm with g | g
    ·exact hd y hy g
    ·have:=hEb y hy;omega)
   have hld6:ld hh o.1 (o.2+m) 0 6=some l[m].cs:=by rw[hld];exact IJ rfl
   simp only[Event.cs] at hld6;simp only[Event.cs,World.cs] at e2;have hdr:(l.take 60).drop m=l[m] ::(l.take 60).drop (m+1):=by rw[zbH (show m<(l.take 60).length by rw[zco];omega),List.getElem_take]
   refine ⟨cs',h',F',?_,by rw[hdr,Pz];exact f2,m2.trans f4⟩;rw[B3.e,Ak (by omega),Ak h60,Ad hml,ha,Ag,Bm,hld6,Ag,Ab,Aa,Ab,Aa,Ab,Aa,Ab,Aa,Ab,Bq,Ab,AB,Af,e2,Ac,Hz,Ab,AA,Ab,Ah,Ab,Ah,Ab,Ah,Ab,Ah,Af,Ab,Az,Af,At (by omega),<- ha];cases (Hp w l[m]).isSome
   ·rw[Ay];exact f1
   ·rw[Ap];exact f1
  ·exact ⟨_,hh,_,by rw[B3.e,Ak (by omega),Aj h60],by rw[List.drop_of_length_le (by rw[zco];omega)];exact H.at,Mv.refl H.nd⟩
theorem TL {n0 s0:Nat} (h1:1<=n0) (h4:n0<=4) (hs:s0<=4) (re:REvents h [.sl 6 a l.length c] l E) (ht:∀ e∈l,e.text.size<=1048576) (hl6:l.length<=1048576) (hl:lo<=h.length) :
  ∃ cs' h' F',Ae lo 74 [Iv (n0:Nat),Iv (s0:Nat),.sl 6 a l.length c] h=some (.agg cs',h')/\Oq lo h' cs' (N3 (Jp n0 s0) (l.take 60)) F'/\Mv h [] h' F':=by
 obtain ⟨cs,h2,F2,e2,w2,m2⟩:=Pf (lo:=lo) (h:=h) h1 h4 (by omega:s0<=1000) hl;obtain ⟨s1,s2,s3,s4,a1,c1,a2,c2,a3,c3,a4,c4,K1,K2,K3,K4,rfl,rfl,es1,es2,es3,es4,H⟩:=MO w2 m2 hl;have hEb:=revents_ok.bd _ _ _ _ re;obtain ⟨cs',h',F',f1,f2,f4⟩:=Xe ht hl6 l.length 0 h2 (Jp n0 s0) E _ _ _ _ _ _ _ _ _ _ _ _ (by omega) (m2.keep0 revents_ok re) H (M0 h1 h4 hs) (λy hy hm=>by have:=m2.new y hm;have:=hEb y hy;omega);refine ⟨cs',h',F',QS ?_,by rw[zci] at f2;exact f2,m2.trans f4⟩;rw[e2,Ac,AA,Ab,es1,Ab,es2,Ab,es3,Ab,es4,Af];exact f1
theorem U4 (r:Rd lo h b n) (hn:n<=290000) (hl:lo<=h.length) :
  ∃ (w:World) (a1:Pq) (c1:Nq) (a2:Pq) (c2:Nq) (a3:Pq) (c3:Nq) (a4:Pq) (c4:Nq) (h':Heap) (F1 F2 F3 F4:List Nat),Ae lo 192 [.ptr (some (b,(0,0)))] h=some (.agg (w.cs a1 c1 a2 c2 a3 c3 a4 c4),h')/\WR lo h' w a1 c1 a2 c2 a3 c3 a4 c4 F1 F2 F3 F4/\Good w/\1<=w.sess.length/\Rd lo h' b (n+3010)/\Mv h [b] h' (b ::(F1++(F2++(F3++F4)))):=by
 obtain ⟨n0,s0,l,a,c,h1,E,e1,hn0,hs0,re,ht,hl6,r1,m1⟩:=Su r hn hl;have l1:=zbj hl m1.le;obtain ⟨cs2,h2,F2,e2,⟨z1,t1,z2,t2,z3,t3,z4,t4,Q1,Q2,Q3,Q4,rfl,rfl,H2⟩,m2⟩:=TL hn0.1 hn0.2 hs0.2 re (λe he=>by have:=ht e he;omega) (by omega) l1;have hg:=R7 (l:=l.take 60) (M0 hn0.1 hn0.2 hs0.2);have hsl:(N3 (Jp n0 s0) (l.take 60)).sess.length=s0:=by rw[RK];simp[Jp]
 generalize N3 (Jp n0 s0) (l.take 60)=w at H2 hg hsl e2 m2;obtain ⟨cs,h3,K,e3,w3,m3⟩:=TM (lo:=lo) H2.r1 H2.r2 H2.r3 H2.r4 (Wy hg) H2.hl;obtain ⟨s1,s2,s3,s4,a1,c1,a2,c2,a3,c3,a4,c4,K1,K2,K3,K4,rfl,rfl,es1,es2,es3,es4,H⟩:=MO w3 m3 H2.hl;have m12:Mv h [b] h2 [b]:=(m1.lean (F'' := [b]) (by simp) (by simp)).trans (m2.drop.aside (F := []) (F' := []) (G := [b]) (by simp) (by simp;exact r1.lt));have m13:Mv h [b] h3 (b ::(K1++(K2++(K3++K4)))):=by have:=m12.join m3 (by simp;exact zbv r1.lt m2.le);simpa using this
 refine ⟨w,a1,c1,a2,c2,a3,c3,a4,c4,h3,K1,K2,K3,K4,Oy ?_,H,hg,?_,(r1.keep m2 (by simp) (by simp)).keep m3 (by simp) (by simp),m13⟩
 ·simp only[World.cs] at e2 e3;rw[e1,Ac,Hz,Ab,Aa,Ab,Aa,Ab,Ah,Af,e2,Ac,AA,Ab,Ah,Ab,Ah,Ab,Ah,Ab,Ah,Af,e3,Ac,AA,Ab,es1,Ab,es2,Ab,es3,Ab,es4,Af]
 ·omega
end


variable {α:Type}{El:Rel α}{l:List α}
section
variable {lo:Nat}{h h':Heap}{w:World}{a1 a2 a3 a4 a:Pq}{c1 c2 c3 c4 c:Nq}{E F F' F1 F2 F3 F4:List Nat}{b n:Nat}
theorem Sli.toRo {R e e':Nat}{m:Nat} (hs:Sli false R e El h [.sl R a m c] l F):Sli true R e' El h [.sl R a m c] l F:=by
 obtain ⟨R1,a1,c1,e1,g⟩:=hs;injection e1 with e1 _;injection e1 with e0 e2 e4 e3;subst e2;subst e3;subst e4;cases a with
 | none =>obtain ⟨rfl,_,rfl⟩:=g;exact ⟨R,none,c,rfl,rfl,.inl ⟨rfl,rfl⟩⟩
 | some p =>obtain ⟨b,i⟩:=p;obtain ⟨_,rs,Fs,g1,g2,_,_,g5,rfl⟩:=g;exact ⟨R,some (b,i),c,rfl,rfl,.inr ⟨b,i,rs,Fs,rfl,by simp[Heap.rows?,g1],g2,g5,rfl⟩⟩
theorem Sli.one_on {R e e':Nat} (hs:Sli false R e El h [.sl R a l.length c] l F) (h2:2<=l.length) :
  ∃ a' c' F',(∀ {T:Type} (K:Pq->Nat->Nq->Option T),AL a l.length c (some (Iv 1)) none none K=K a' (l.drop 1).length c')/\Sli true R e' El h [.sl R a' (l.drop 1).length c'] (l.drop 1) F'/\∀ y∈F',y∈F:=by
 obtain ⟨R1,a1,c1,e1,g⟩:=hs;injection e1 with e1 _;injection e1 with e0 e2 e4 e3;subst e2;subst e3;cases a with
 | none=>obtain ⟨hl,_⟩:=g;rw[hl] at h2;simp at h2
 | some p =>
  obtain ⟨b,i⟩:=p;obtain ⟨_,rs,Fs,g1,g2,g3,_,g5,rfl⟩:=g;have hdl:(l.drop 1).length=l.length - 1:=by simp
  have hsub:∀ y∈(Fs.drop 1).flatten,y∈Fs.flatten:=λy hy=>flat_drop.subset hy;have hrel:Sli true R e' El h [.sl R (some (b,i+1)) (l.drop 1).length (match c with | some k=>some (k - 1) | none=>none)] (l.drop 1) (b ::(Fs.drop 1).flatten):=by refine ⟨R,some (b,i+1),_,rfl,rfl,.inr ⟨b,i+1,rs,Fs.drop 1,rfl,by simp[Heap.rows?,g1],by omega,?_,rfl⟩⟩;have:=g5.drop 1;rw[List.drop_take,zcv] at this;rw[hdl];exact this
  cases c with
  | none =>
   refine ⟨some (b,i+1),none,b ::(Fs.drop 1).flatten,λK=>?_,hrel,λy hy=>?_⟩
   ·simp only[AL,FP,IV,JQ,zcu,Aa];rw[D1 ⟨by omega,by omega⟩];rw[hdl];rfl
   ·rw[zbx] at hy ⊢;exact hy.imp id (hsub y)
  | some k =>
   have hk:=g3 k rfl;refine ⟨some (b,i+1),some (k - 1),b ::(Fs.drop 1).flatten,λK=>?_,hrel,λy hy=>?_⟩
   ·simp only[AL,FP,IV,JQ,zcu,Aa,Pr];rw[D1 ⟨by omega,by omega⟩,show Nat.beq k (1:Int).toNat=false by cases hb:Nat.beq k (1:Int).toNat with | false=>rfl | true=>(have:=zbt hb;simp at this;omega),Ay,hdl];rfl
   ·rw[zbx] at hy ⊢;exact hy.imp id (hsub y)
theorem Xf:∀ (r m:Nat) (hh:Heap) (l:List Tag) (q:Nat) (K:List Nat) (n:Nat),m+r=4->l.length=4->n+3*r<=700000->Rd lo hh b n->lo<=hh.length->RTags false hh [.sl 2 (some (q,0)) 4 (some 4)] l K->(b :: K).Nodup->(∀ y∈K,lo<=y) ->
  ∃ (l':List Tag) (a':Pq) (c':Nq) (h':Heap) (K':List Nat),Cw lo b 0 0 (m:Nat) 0 none 0 (some 0) (some (q,0)) 4 (some 4) hh=some (.agg [.sl 2 a' l'.length c'],h')/\RTags false h' [.sl 2 a' l'.length c'] l' K'/\l'.length<=4/\Rd lo h' b (n+3*r+10)/\Mv hh (b :: K) h' (b :: K'):=by
 intro r;induction r with
 | zero =>
  intro m hh l q K n hm hl hn r0 hlo rt hnd hK;have hm4:m=4:=by omega
  subst hm4;obtain ⟨k1,k2⟩:=zbs.1 hnd;have hKb:=rtags_ok.bd _ _ _ _ rt;obtain ⟨v,h1,e1,g1,g1',r1,m1⟩:=pick r0 (by omega) 10;have rt1:=m1.keep rtags_ok rt λy hy hm=>k1 (by rw[zbr] at hm;exact hm ▸ hy);have M1:Mv hh (b :: K) h1 (b :: K):=m1.mid (A := [b]) (B:=K) (A' := [b]) (.refl _) hnd hKb (.refl _);rw[Cw.e,Aj (by omega),e1,Ac,Aa];cases v==(0:Int) with
  | true =>
   obtain ⟨x1,F2,x2,x3,x4⟩:=rt1.behind (by omega) k2;refine ⟨l.drop 1,some (q,0+1),some 3,h1,F2,?_,x2,by simp;omega,r1.up (by omega),M1.lean (zbs.2 ⟨λhm=>k1 (x4 b hm),x3⟩) λy hy=>?_⟩
   ·rw[Ap,x1 _ (by decide)]
   ·rw[zbx] at hy ⊢;exact hy.imp id (x4 y)
  | false =>
  rw[Ay];cases v==(1:Int) with
  | true =>
   obtain ⟨u,h2,e2,g2,g2',r2,m2⟩:=pick r1 (by omega) 4;obtain ⟨t,h3,e3,r3,m3⟩:=Kn r2 (by omega);have m23:=m2.trans m3;have rt3:=m23.keep rtags_ok rt1 λy hy hm=>k1 (by rw[zbr] at hm;exact hm ▸ hy);have M3:Mv h1 (b :: K) h3 (b :: K):=m23.mid (A := [b]) (B:=K) (A' := [b]) (.refl _) hnd (λy hy=>zbv (hKb y hy) m1.le) (.refl _);have hu:=g2' (by omega);obtain ⟨j,rfl⟩:∃ j:Nat,u=(j:Int):=⟨u.toNat,by omega⟩;have rt3':RTags false h3 [.sl 2 (some (q,0)) l.length (some 4)] l K:=by rw[hl];exact rt3
   obtain ⟨b0,i0,rs,row,G,ha,_,_,hb,hrow,⟨rfl,rfl⟩,_,_,_,put⟩:=rt3'.at (lo:=lo) (k:=j) CF (by omega) k2 hK;obtain ⟨h4,F4,e4,r4,m4,_⟩:=put h3 [] 0 t.cs t.cs t Mv.nil rfl ⟨rfl,rfl⟩;injection ha with ha;injection ha with ha1 ha2;subst ha1;subst ha2;have M4:Mv h3 (b :: K) h4 (b :: F4):=m4.mid (B := [b]) (zcg (l₁ := [b])) hnd (λy hy=>by rw[zbr] at hy;subst hy;exact r3.lt) (zcg (l₁ := [b]));have hsl:(l.set j t).length=l.length:=by simp
   simp only[Tag.cs] at e3 e4;refine ⟨l.set j t,some (q,0),some 4,h4,F4,?_,by rw[hsl];exact r4,by omega,(r3.keep m4 k1 hK).up (by omega),(M1.trans M3).trans M4⟩;rw[Ap,e2,Ac,Aa,e3,Ac,AA,Ab,Aa,Ab,Aa,Af,Ad (by omega),Ag,Bm,e4,Ag,hsl,hl]
  | false =>rw[Ay];exact ⟨l,some (q,0),some 4,h1,K,by rw[hl],by rw[hl];exact rt1,by omega,r1.up (by omega),M1⟩
 | succ r ih =>
  intro m hh l q K n hm hl hn r0 hlo rt hnd hK;obtain ⟨k1,k2⟩:=zbs.1 hnd;have hKb:=rtags_ok.bd _ _ _ _ rt;obtain ⟨t,h1,e1,_,r1,m1⟩:=O8 r0 (by omega);have rt1:=m1.keep rtags_ok rt λy hy hm=>k1 (by rw[zbr] at hm;exact hm ▸ hy);have M1:Mv hh (b :: K) h1 (b :: K):=m1.mid (A := [b]) (B:=K) (A' := [b]) (.refl _) hnd hKb (.refl _);have rt1':RTags false h1 [.sl 2 (some (q,0)) l.length (some 4)] l K:=by rw[hl];exact rt1
  obtain ⟨b0,i0,rs,row,G,ha,_,_,hb,hrow,⟨rfl,rfl⟩,_,_,_,put⟩:=rt1'.at (lo:=lo) (k:=m) CF (by omega) k2 hK;obtain ⟨h4,F4,e4,r4,m4,_⟩:=put h1 [] 0 t.cs t.cs t Mv.nil rfl ⟨rfl,rfl⟩;injection ha with ha;injection ha with ha1 ha2;subst ha1;subst ha2;have M4:Mv h1 (b :: K) h4 (b :: F4):=m4.mid (B := [b]) (zcg (l₁ := [b])) hnd (λy hy=>by rw[zbr] at hy;subst hy;exact r1.lt) (zcg (l₁ := [b]));have hsl:(l.set m t).length=4:=by simp;exact hl
  rw[hl] at r4;obtain ⟨l',a',c',h',K',f1,f2,f3,f4,f5⟩:=ih (m+1) h4 (l.set m t) q F4 (n+3) (by omega) hsl (by omega) (r1.keep m4 k1 hK) (zbj hlo (zbj m1.le m4.le)) r4 M4.nd (m4.ge (zbj hlo m1.le) hK);simp only[Tag.cs] at e1 e4;refine ⟨l',a',c',h',K',?_,f2,f3,f4.up (by omega),(M1.trans M4).trans f5⟩;rw[Cw.e,Ak (by omega),e1,Ac,AA,Ab,Aa,Ab,Aa,Af,Ad (by omega),Ag,Bm,e4,Ag,At (by omega)];exact f1
theorem RL (r:Rd lo h b n) (hn:n<=600000) (hl:lo<=h.length):∃ (l:List Tag) (a:Pq) (c:Nq) (h':Heap) (F':List Nat),Ae lo 43 [.ptr (some (b,(0,0)))] h=some (.agg [.sl 2 a l.length c],h')/\RTags false h' [.sl 2 a l.length c] l F'/\l.length<=4/\Rd lo h' b (n+30)/\Mv h [b] h' (b :: F'):=by
 obtain ⟨h1,q,e1,t1,m1⟩:=Iu (lo:=lo) (h:=h);have hq:=m1.new q (by simp);have hblt:=r.lt;have M:Mv h [b] h1 (b :: [q]):=by have:=(m1.aside (F := []) (G := [b]) (by simp) (by simp;exact hblt));simpa using Mv.swap (A := []) (B := [b]) (A' := [q]) (B' := [b]) this
 obtain ⟨l',a',c',h',K',f1,f2,f3,f4,f5⟩:=Xf 4 0 h1 L1 q [q] n rfl rfl (by omega) (r.keep m1 (by simp) (by simp)) (zbj hl m1.le) t1 M.nd (by simp;omega);refine ⟨l',a',c',h',K',Qo ?_,f2,f3,f4.up (by omega),M.trans f5⟩;rw[e1,Ac,AA,Ab,Ah,Af];exact f1
end


section
variable {lo:Nat}{h h':Heap}{w:World}{a1 a2 a3 a4 a:Pq}{c1 c2 c3 c4 c:Nq}{E F F' F1 F2 F3 F4:List Nat}{b n:Nat}
abbrev UU:Rel (List Place):=Sli true 6 0 (RPlace false)
def Zi (p:Place):Prop:=Dt p/\p.log.length<=55
theorem Vg {l:List Place}{k:Nat}{p:Place} (h:∀ x∈l,Zi x) (hp:Zi p):∀ x∈l.set k p,Zi x:=λx hx=>by
 rcases zbI hx with g | rfl
 ·exact h x g
 ·exact hp
theorem SE {hh h2:Heap}{A A':List Nat} (m:Mv hh A h2 A') (hb:b<hh.length) (hA:b∉A):b∉A':=λhm=>by
 rcases m.sub b hm with g | g
 ·exact hA g
 ·omega
theorem L2 {hh h2:Heap}{A F5:List Nat} (m:Mv hh [b] h2 (b :: F5)) (hA:A.Nodup) (hb:∀ y∈A,y<hh.length):(A++F5).Nodup/\b∉F5:=by
 obtain ⟨k1,k2⟩:=zbs.1 m.nd;refine ⟨?_,k1⟩;rw[zbm];refine ⟨hA,k2,λy hy z hz e=>?_⟩;subst e;rcases m.sub y (by simp[hz]) with g | g
 ·rw[zbr] at g;subst g;exact k1 hz
 ·have:=hb y hy;omega
theorem QM (r:Rd lo h b n) (hn:n<=200000) (hl:lo<=h.length) :
  ∃ (l:List Place) (a:Pq) (c:Nq) (a2:Pq) (n2:Nat) (c2:Nq) (a3:Pq) (n3:Nat) (c3:Nq) (a4:Pq) (n4:Nat) (c4:Nq) (h':Heap) (F':List Nat),
   Ae lo 108 [.ptr (some (b,(0,0)))] h=some (.agg [.sl 6 a l.length c,.sl 5 a2 n2 c2,.sl 9 a3 n3 c3,.sl 5 a4 n4 c4],h')/\UU h' [.sl 6 a l.length c] l F'/\(∀ p∈l,Zi p)/\(1<=l.length/\l.length<=3)/\b∉F'/\Rd lo h' b (n+6000)/\lo<=h'.length:=by
 obtain ⟨w,a1,c1,a2,c2,a3,c3,a4,c4,h1,F1,F2,F3,F4,e1,H1,hg,hsl,r1,m1⟩:=U4 r (by omega) hl;obtain ⟨bF,hnd⟩:=zbs.1 m1.nd;have hp3:=hg.ok.p3;have hh80:=hg.ok.h80;have hn12:=hg.ok.n12;obtain ⟨k,h2,e2,g2,g2',r2,m2⟩:=pick r1 (by omega) 3;obtain ⟨x,h3,e3,g3,g3',r3,m3⟩:=pick r2 (by omega) 16;have m23:=m2.trans m3;have notb:∀ {G:List Nat},(∀ y∈G,y∈F1++(F2++(F3++F4)))->∀ y∈G,y ∉ [b]:=λhG y hy hm=>by rw[zbr] at hm;exact bF (hm ▸ hG y hy)
 have keepW:∀ {hh:Heap},Mv h1 [b] hh [b]->WR lo hh w a1 c1 a2 c2 a3 c3 a4 c4 F1 F2 F3 F4:=λm=>⟨m.keep rplaces_ok H1.r1 (notb λy hy=>by simp[hy]),m.keep rsesss_ok H1.r2 (notb λy hy=>by simp[hy]),m.keep rframes_ok H1.r3 (notb λy hy=>by simp[hy]),m.keep rdones_ok H1.r4 (notb λy hy=>by simp[hy]),H1.nd,H1.ge,zbj H1.hl m.le⟩
 have H:=keepW m23;have bF1:b∉F1:=λhm=>bF (by simp[hm]);have hsm:∀ p∈w.places,Zi p:=λp hp=>⟨(Wy hg).1.2 p hp,by
  obtain ⟨i,hi⟩:=zbC.1 hp;have:=(hg.room p hp).len (hg.ok.place i p hi).2;omega⟩
 have hk3:=g2' (by omega);obtain ⟨k,rfl⟩:∃ q:Nat,k=(q:Int):=⟨k.toNat,by omega⟩;have hk:k<w.places.length:=by omega
 obtain ⟨hpo,_,_⟩:=hg.fits.at hk;have hpsm:=(hsm _ (zbk hk)).1;have hplog:w.places[k].log.length<=54:=(hg.room _ (zbk hk)).len hpo;obtain ⟨⟨n1,_⟩,d12,d13,d14,_⟩:=Tz H.nd;have hge1:∀ y∈F1,lo<=y:=λy hy=>H.ge y (by simp[hy]);have hset:∀ p':Place,(w.places.set k p').length=w.places.length:=λp'=>by simp
 suffices hkk:∃ (l:List Place) (a:Pq) (c:Nq) (a2:Pq) (n2:Nat) (c2:Nq) (a3:Pq) (n3:Nat) (c3:Nq) (a4:Pq) (n4:Nat) (c4:Nq) (h':Heap) (F':List Nat),
   _=some (V.agg [.sl 6 a l.length c,.sl 5 a2 n2 c2,.sl 9 a3 n3 c3,.sl 5 a4 n4 c4],h')/\UU h' [.sl 6 a l.length c] l F'/\(∀ p∈l,Zi p)/\(1<=l.length/\l.length<=3)/\b∉F'/\Rd lo h' b (n+6000)/\lo<=h'.length from by
  obtain ⟨l,a,c,a2,n2,c2,a3,n3,c3,a4,n4,c4,h',F',e,hr⟩:=hkk;exact ⟨l,a,c,a2,n2,c2,a3,n3,c3,a4,n4,c4,h',F',Lt e,hr⟩
 simp only[World.cs] at e1;rw[e1,Ac,AA,Ab,Ah,Ab,Ah,Ab,Ah,Ab,Ah,Af,e2,Ac,Aa,e3,Ac,Aa];cases x==(0:Int) with
 | true =>obtain ⟨g,h4,e4,_,r4,m4⟩:=Ea (e:=3) [-1,0,1000] (rows := [[Iv (-1)],[Iv 0],[Iv 1000]]) (len:=3) (cc:=some 3) r3 (by omega) rfl rfl (by decide);have H4:=keepW (m23.trans m4);obtain ⟨b0,i0,rs,row,G,ha,_,_,hb,hrow,hel,hGF,hGn,_,put⟩:=Sli.at (lo:=lo) rplace_ok H4.r1 hk n1 hge1;obtain ⟨s1,s2,s3,G1,G2,G3,rfl,rfl,q1,q2,q3⟩:=hel;subst ha;obtain ⟨h5,F5,e5,t5,m5,_⟩:=put h4 (G1++(G2++G3)) 1 [Iv g] [Iv w.places[k].me,Iv g,s1,s2,s3,.bool w.places[k].fell] ⟨w.places[k].me,g,w.places[k].chain,w.places[k].log,w.places[k].got,w.places[k].fell⟩ (Mv.refl hGn) rfl ⟨_,_,_,G1,G2,G3,rfl,rfl,q1,q2,q3⟩;rw[Ap,e4,Ac,Aa,Ad hk,Ag,Bm,e5,Ag,<- hset ⟨w.places[k].me,g,w.places[k].chain,w.places[k].log,w.places[k].got,w.places[k].fell⟩];rw[<- hset ⟨w.places[k].me,g,w.places[k].chain,w.places[k].log,w.places[k].got,w.places[k].fell⟩] at t5;exact ⟨_,_,_,_,_,_,_,_,_,_,_,_,h5,F5,rfl,t5.toRo,Vg hsm ⟨⟨hpsm.1,hpsm.2.1,hpsm.2.2⟩,by show w.places[k].log.length<=55;omega⟩,by rw[hset];omega,SE m5 r4.lt bF1,(r4.keep m5 bF1 hge1).up (by omega),zbj H4.hl m5.le⟩
 | false =>
 rw[Ay];cases x==(1:Int) with
 | true =>
  obtain ⟨v,av,cv,h4,F5,e4,t4,hv,r4,m4⟩:=Km r3 (by omega) H.hl;obtain ⟨nd5,b5⟩:=L2 m4 n1 H.lt.1;have hr1:=m4.keep rplaces_ok H.r1 (notb λy hy=>by simp[hy]);have hF5:=rtags_ok.bd _ _ _ _ t4;obtain ⟨b',i',rs,row,G,rfl,hbF,hbG,hb1,hb2,hel,hGF,hGn,put⟩:=Sli.at_aside (lo:=lo) (E:=F5) rplace_ok hr1 hk nd5 hge1 hF5;obtain ⟨s1,s2,s3,G1,G2,G3,rfl,rfl,q1,q2,q3⟩:=hel;obtain ⟨aw,cw,esw,q2⟩:=q2.form;obtain ⟨nG1,nG23,dG1⟩:=zbm.1 hGn;obtain ⟨nG2,nG3,dG23⟩:=zbm.1 nG23;have dF5:∀ y∈G1++(G2++G3),y∉F5:=λy hy hm=>(zbm.1 nd5).2.2 y (hGF y hy) y hm rfl;have hlog:=(CS hpo).log.1;have hH1:=rnodes_ok.bd _ _ _ _ q1;have hH2:=rvers_ok.bd _ _ _ _ q2;have hH3:=rvss_ok.bd _ _ _ _ q3;have mx:Mv h4 [] (h4 ++ [.rows 6 43 false [v.cs av cv]]) []:=Mv.snoc;have q2x:=mx.keep0 rvers_ok q2;have t5x:=mx.keep0 rtags_ok t4;have hl4:=zbj H.hl m4.le;obtain ⟨a6,c6,h6,F6,p1,p2,p3,p4,p5,p6⟩:=Sli.push (lo:=lo) (bytes:=72) (e:=43) rver_ok.fr q2x (xs := [v.cs av cv]) (ys := [v]) (Gs := [F5]) ⟨⟨_,rfl,t5x⟩,trivial⟩ (by decide) (by simp;omega) (λy hy=>hge1 y (hGF y (by simp[hy]))) (by simp;omega)
   (by
    rw[zbm];refine ⟨nG2,by simpa using (zbm.1 nd5).2.1,λy hy z hz e=>?_⟩;subst e;exact dF5 y (by simp[hy]) (by simpa using hz))
   (λy hy=>by
    rw[zbl] at hy;rw[zbw];rcases hy with hy | hy
    ·have:=hH2 y hy;omega
    ·have:=hF5 y (by simpa using hy);omega) (by simp)
  simp only[zbE] at p1 p2;have hfin:∀ y∈F6,y∈G2\/y∈F5\/(h4.length<=y/\y<h6.length):=λy hy=>by
   rcases p5 y hy with g | g
   ·rw[zbl] at g;rcases g with g | g
    ·exact .inl g
    ·exact .inr (.inl (by simpa using g))
   ·rw[zbw] at g;exact .inr (.inr (by omega))
  have hlen:h4.length<=h6.length:=by rw[zbw] at p3;omega
  have fr:∀ y,y<h4.length->y∉G2->h6[y]?=h4[y]?:=λy hy hn=>by rw[p4 y (by rw[zbw];omega) hn,zbn hy]
  have hmv:Mv h4 ((G1++(G2++G3))++F5) h6 (G1++(F6++G3)):=by
   refine ⟨hlen,λy hy hn=>fr y hy λhm=>hn (by simp[hm]),?_,λy hy=>?_⟩
   ·rw[zbm,zbm];refine ⟨nG1,⟨p6,nG3,λy hy z hz e=>?_⟩,λy hy z hz e=>?_⟩
    ·subst e;rcases hfin y hy with g | g | g
     ·exact dG23 y g y hz rfl
     ·exact dF5 y (by simp[hz]) g
     ·have:=hH3 y hz;omega
    ·subst e;rcases zbl.1 hz with hz | hz
     ·rcases hfin y hz with g | g | g
      ·exact dG1 y hy y (by simp[g]) rfl
      ·exact dF5 y (by simp[hy]) g
      ·have:=hH1 y hy;omega
     ·exact dG1 y hy y (by simp[hz]) rfl
   ·simp only[zbl] at hy;rcases hy with hy | hy | hy
    ·exact .inl (by simp[hy])
    ·rcases hfin y hy with g | g | g
     ·exact .inl (by simp[g])
     ·exact .inl (by simp[g])
     ·exact .inr g
    ·exact .inl (by simp[hy])
  have q1x:=rnodes_ok.fr _ _ _ _ _ q1 λy hy=>fr y (hH1 y hy) λhm=>dG1 y hy y (by simp[hm]) rfl;have q3x:=rvss_ok.fr _ _ _ _ _ q3 λy hy=>fr y (hH3 y hy) λhm=>dG23 y hm y hy rfl;obtain ⟨h7,F7,e7,t7,m7⟩:=put h6 (G1++(F6++G3)) 3 [.sl 6 a6 (w.places[k].log.length+1) c6] [Iv w.places[k].me,Iv w.places[k].clock,s1,.sl 6 a6 (w.places[k].log.length+1) c6,s3,.bool w.places[k].fell] ⟨w.places[k].me,w.places[k].clock,w.places[k].chain,w.places[k].log ++ [v],w.places[k].got,w.places[k].fell⟩ hmv rfl ⟨_,_,_,G1,F6,G3,rfl,rfl,q1x,p2,q3x⟩;have l5:ld h4 b' (i'+k) 3 1=some [s2]:=by rw[BT hb1 hb2];rfl
  have l3:ld h3 b' (i'+k) 3 1=some [s2]:=by have hb3:h4[b']?=h3[b']?:=m4.fr b' (H.lt.1 b' hbF) (λhm=>bF1 (by rw[zbr] at hm;exact hm ▸ hbF));rw[<- OR hb3];exact l5
  have l6:ld (h4 ++ [.rows 6 43 false [v.cs av cv]]) b' (i'+k) 3 1=some [s2]:=by rw[OR (zbn (zbv (H.lt.1 b' hbF) m4.le))];exact l5
  simp only[Ver.cs] at e4 p1 l6;rw[Ap,Ad hk,Ag,Bm,l3,Ag,Ab,Af,esw,e4,Ac,AA,Ab,Aa,Ab,Aa,Ab,Aa,Ab,Ah,Ab,Bq,Ab,AB,Af,l5,l6,Pu,GN,GN,A9,p1,Ah,Ad hk,Ag,e7,Ag];have hs':=hset ⟨w.places[k].me,w.places[k].clock,w.places[k].chain,w.places[k].log ++ [v],w.places[k].got,w.places[k].fell⟩;rw[<- hs'] at t7 ⊢;refine ⟨_,_,_,_,_,_,_,_,_,_,_,_,h7,F7,rfl,t7.toRo,Vg hsm ⟨⟨hpsm.1,⟨by simp;omega,λu hu=>?_⟩,hpsm.2.2⟩,by show (w.places[k].log ++ [v]).length<=55;simp;omega⟩,by rw[hs'];omega,SE m7 r4.lt (λhm=>(zbl.1 hm).elim bF1 b5),((r4.keep m7 (λhm=>(zbl.1 hm).elim bF1 b5) λy hy=>(zbl.1 hy).elim (hge1 y) λg=>m4.ge H.hl (λz hz=>by rw[zbr] at hz;subst hz;exact r3.ge) y (by simp[g]))).up (by omega),zbj hl4 m7.le⟩;rcases zbl.1 hu with hu | hu
  ·exact hpsm.2.1.2 u hu
  ·rw[zbr] at hu;subst hu;exact ⟨by omega,by omega⟩
 | false =>
 rw[Ay];cases x==(2:Int) with
 | true =>
  obtain ⟨l,al,cl,h4,G4,e4,t4,sm4,r4,m4⟩:=QO r3 (by omega) H.hl;obtain ⟨nd5,b5⟩:=L2 m4 n1 H.lt.1;have hr1:=m4.keep rplaces_ok H.r1 (notb λy hy=>by simp[hy]);have hG4:=rnodes_ok.bd _ _ _ _ t4;obtain ⟨b',i',rs,row,G,rfl,hbF,hbG,hb1,hb2,hel,hGF,hGn,put⟩:=Sli.at_aside (lo:=lo) (E:=G4) rplace_ok hr1 hk nd5 hge1 hG4;obtain ⟨s1,s2,s3,H1',H2',H3',rfl,rfl,q1,q2,q3⟩:=hel;have nd23:(G4++(H2'++H3')).Nodup:=by rw[zbm];refine ⟨(zbm.1 nd5).2.1,(zbm.1 hGn).2.1,λy hy z hz e=>?_⟩;subst e;exact (zbm.1 nd5).2.2 y (hGF y (zbO _ hz)) y hy rfl
  have hmv:Mv h4 ((H1'++(H2'++H3'))++G4) h4 (G4++(H2'++H3')):=⟨zbo _,λ_ _ _=>rfl,nd23,λy hy=>by
   simp only[zbl] at hy ⊢;left;grind⟩
  obtain ⟨h5,F5,e5,t5,m5⟩:=put h4 (G4++(H2'++H3')) 2 [.sl 2 al l.length cl] [Iv w.places[k].me,Iv w.places[k].clock,.sl 2 al l.length cl,s2,s3,.bool w.places[k].fell] ⟨w.places[k].me,w.places[k].clock,l,w.places[k].log,w.places[k].got,w.places[k].fell⟩ hmv rfl ⟨_,_,_,G4,H2',H3',rfl,rfl,t4,q2,q3⟩;rw[Ap,e4,Ac,AA,Ab,Ah,Af,Ad hk,Ag,Bm,e5,Ag];have hs':=hset ⟨w.places[k].me,w.places[k].clock,l,w.places[k].log,w.places[k].got,w.places[k].fell⟩;rw[<- hs'] at t5 ⊢;exact ⟨_,_,_,_,_,_,_,_,_,_,_,_,h5,F5,rfl,t5.toRo,Vg hsm ⟨⟨sm4,hpsm.2.1,hpsm.2.2⟩,by show w.places[k].log.length<=55;omega⟩,by rw[hs'];omega,SE m5 r4.lt (λhm=>(zbl.1 hm).elim bF1 b5),((r4.keep m5 (λhm=>(zbl.1 hm).elim bF1 b5) λy hy=>(zbl.1 hy).elim (hge1 y) λg=>m4.ge H.hl (λz hz=>by rw[zbr] at hz;subst hz;exact r3.ge) y (by simp[g]))).up (by omega),zbj (zbj H.hl m4.le) m5.le⟩
 | false =>
 rw[Ay];cases x==(3:Int) with
 | true =>
  obtain ⟨a',c',F',k1,k2,k3⟩:=H.r1.one_on (e':=0) (by omega);rw[Ap,k1];have hdl:(w.places.drop 1).length=w.places.length - 1:=by simp
  exact ⟨w.places.drop 1,_,_,_,_,_,_,_,_,_,_,_,h3,F',rfl,k2,λp hp=>hsm p (zcJ hp),by omega,λhm=>bF1 (k3 b hm),r3.up (by omega),H.hl⟩
 | false =>
 rw[Ay];cases x==(4:Int) with
 | true =>
  obtain ⟨g,h4,e4,_,_,r4,m4⟩:=pick r3 (by omega) 3;have H4:=keepW (m23.trans m4);obtain ⟨v,q,h5,F5,e5,t5,hv,r5,m5⟩:=LK r4 (by omega) H4.hl;obtain ⟨⟨_,_,n3,_⟩,_⟩:=Tz H4.nd;have bF3:b∉F3:=λhm=>bF (by simp[hm]);obtain ⟨nd5,b5⟩:=L2 m5 n3 H4.lt.2.2.1;have hr3:=m5.keep rframes_ok H4.r3 (notb λy hy=>by simp[hy]);have hr1:=m5.keep rplaces_ok H4.r1 (notb λy hy=>by simp[hy]);have hF5:=rtags_ok.bd _ _ _ _ t5;have hF3:=rframes_ok.bd _ _ _ _ hr3;have hl5:=zbj H4.hl m5.le;have mx:Mv h5 [] (h5 ++ [.rows 9 123 false [Iv (k:Nat) :: Iv g :: Iv 0 :: v.cs (some (q,0)) (some 4)]]) []:=Mv.snoc;have hr3x:=mx.keep0 rframes_ok hr3;have t5x:=mx.keep0 rtags_ok t5;have hge3:∀ y∈F3,lo<=y:=λy hy=>H.ge y (by simp[hy]);obtain ⟨a6,c6,h6,F6,p1,p2,p3,p4,p5,p6⟩:=Sli.push (lo:=lo) (bytes:=96) (e:=123) rframe_ok.fr hr3x (xs := [Iv (k:Nat) :: Iv g :: Iv 0 :: v.cs (some (q,0)) (some 4)]) (ys := [⟨(k:Nat),g,0,v⟩]) (Gs := [F5]) ⟨⟨_,rfl,_,rfl,t5x⟩,trivial⟩ (by decide) (by simp;omega) hge3 (by simp;omega)
   (by simpa using nd5)
   (λy hy=>by
    rw[zbl] at hy;rw[zbw];rcases hy with hy | hy
    ·have:=hF3 y hy;omega
    ·have:=hF5 y (by simpa using hy);omega) (by simp)
  simp only[zbE] at p1 p2;have hlen:h5.length<=h6.length:=by rw[zbw] at p3;omega
  have fr:∀ y,y<h5.length->y∉F3->h6[y]?=h5[y]?:=λy hy hn=>by rw[p4 y (by rw[zbw];omega) hn,zbn hy]
  have m6:Mv h5 F3 h6 []:=⟨hlen,fr,by simp,by simp⟩;simp only[Ver.cs] at e5 p1;rw[Ap,e4,Ac,Aa,e5,Ac,AA,Ab,Aa,Ab,Aa,Ab,Aa,Ab,Ah,Ab,Bq,Ab,AB,Af,A9,p1,Ah];exact ⟨w.places,_,_,_,_,_,_,_,_,_,_,_,h6,F1,rfl,(m6.keep rplaces_ok hr1 d13).toRo,hsm,by omega,bF1,(r5.keep m6 bF3 hge3).up (by omega),zbj hl5 hlen⟩
 | false =>
 rw[Ay];cases x==(5:Int) with
 | true =>
  obtain ⟨x1,k1,f1,_,_,r4,m4⟩:=pick r3 (by omega) 5;obtain ⟨x2,k2,f2,_,_,r5,m5⟩:=pick r4 (by omega) 5;obtain ⟨x3,k3,f3,_,_,r6,m6⟩:=pick r5 (by omega) 5;obtain ⟨t,k4,f4,r7,m7⟩:=Kn r6 (by omega);have H4:=keepW ((((m23.trans m4).trans m5).trans m6).trans m7);obtain ⟨a5,c5,h5,G5,_,H5,M5,s5⟩:=EA (d:=⟨x1,x2,x3,t⟩) H4 (by omega);obtain ⟨⟨_,_,_,n4⟩,_,_,d14',_⟩:=Tz H4.nd;obtain ⟨a6,c6,h6,F6,e6,r8,m8⟩:=E0 (lo:=lo) (bytes:=40) (e:=126) (El:=flat Done.cs) CF H4.r4 (row:=Done.cs ⟨x1,x2,x3,t⟩) (x:=⟨x1,x2,x3,t⟩) (G := []) (h1:=k4 ++ [.rows 5 126 false [Done.cs ⟨x1,x2,x3,t⟩]])
   ⟨rfl,rfl⟩ Mv.snoc n4 (λy hy=>H4.ge y (by simp[hy])) H4.hl (by decide) (by omega)
  simp only[Tag.cs] at f4;simp only[Done.cs] at e6;rw[Ap,f1,Ac,Aa,f2,Ac,Aa,f3,Ac,Aa,f4,Ac,AA,Ab,Aa,Ab,Aa,Af,A9,e6,Ah];exact ⟨w.places,_,_,_,_,_,_,_,_,_,_,_,h6,F1,rfl,(m8.keep rplaces_ok H4.r1 λy hy hm=>d14' y hy hm).toRo,hsm,by omega,bF1,(r7.keep m8 (λhm=>bF (by simp[hm])) λy hy=>H4.ge y (by simp[hy])).up (by omega),zbj H4.hl m8.le⟩
 | false =>
 rw[Ay];cases x==(6:Int) with
 | true =>
  obtain ⟨l,al,cl,h4,G4,e4,t4,_,r4,m4⟩:=RL r3 (by omega) H.hl;obtain ⟨⟨_,n2,_,_⟩,_⟩:=Tz H.nd;have bF2:b∉F2:=λhm=>bF (by simp[hm]);obtain ⟨nd5,b5⟩:=L2 m4 n2 H.lt.2.1;have hr2:=m4.keep rsesss_ok H.r2 (notb λy hy=>by simp[hy]);have hr1:=m4.keep rplaces_ok H.r1 (notb λy hy=>by simp[hy]);have hG4:=rtags_ok.bd _ _ _ _ t4;have hge2:∀ y∈F2,lo<=y:=λy hy=>H.ge y (by simp[hy]);obtain ⟨b',i',rs,row,G,rfl,hbF,hbG,hb1,hb2,hel,hGF,hGn,put⟩:=Sli.at_aside (lo:=lo) (E:=G4) (k:=0) IW hr2 (by omega) nd5 hge2 hG4;obtain ⟨v,rfl,hv⟩:=hel;have hmv:Mv h4 (G++G4) h4 G4:=⟨zbo _,λ_ _ _=>rfl,(zbm.1 nd5).2.1,λy hy => .inl (by simp[hy])⟩;obtain ⟨h5,F5,e5,t5,m5⟩:=put h4 G4 1 [.sl 2 al l.length cl] [Iv w.sess[0].place,.sl 2 al l.length cl,Iv w.sess[0].wait.time,Iv w.sess[0].wait.place,Iv w.sess[0].key] ⟨w.sess[0].place,l,w.sess[0].wait,w.sess[0].key⟩ hmv rfl ⟨_,rfl,t4⟩;have hG4':∀ y∈G4,h3.length<=y:=λy hy=>by
   rcases m4.sub y (by simp[hy]) with g | g
   ·rw[zbr] at g;subst g;exact absurd hy b5
   ·exact g.1
  rw[Ap,e4,Ac,AA,Ab,Ah,Af,Cu ⟨by omega,by omega⟩,Ag,e5,Ag];exact ⟨w.places,_,_,_,_,_,_,_,_,_,_,_,h5,F1,rfl,(m5.keep rplaces_ok hr1 λy hy hm=>(zbl.1 hm).elim (d12 y hy) λg=>by have:=hG4' y g;have:=H.lt.1 y hy;omega).toRo,hsm,by omega,bF1,(r4.keep m5 (λhm=>(zbl.1 hm).elim bF2 b5) λy hy=>(zbl.1 hy).elim (hge2 y) λg=>zbj H.hl (hG4' y g)).up (by omega),zbj (zbj H.hl m4.le) m5.le⟩
 | false =>rw[Ay];exact ⟨w.places,_,_,_,_,_,_,_,_,_,_,_,h3,F1,rfl,H.r1.toRo,hsm,by omega,bF1,r3.up (by omega),H.hl⟩
theorem Vv (r:Rd lo h b n) (hn:n<=200000) (hl:lo<=h.length) :
  ∃ (p:Place) (cs:List V) (h':Heap) (F':List Nat),Ae lo 42 [.ptr (some (b,(0,0)))] h=some (.agg cs,h')/\Ca false h' cs p F'/\Zi p/\b∉F'/\Rd lo h' b (n+6001)/\lo<=h'.length:=by
 obtain ⟨l,a,c,a2,n2,c2,a3,n3,c3,a4,n4,c4,h1,F1,e1,t1,hsm,hlen,hb,r1,hl1⟩:=QM r hn hl;obtain ⟨x,h2,e2,g2,g2',r2,m2⟩:=pick r1 (by omega) ((l.length:Nat):Int);have hx:=g2' (by omega);obtain ⟨k,rfl⟩:∃ k:Nat,x=(k:Int):=⟨x.toNat,by omega⟩;have hk:k<l.length:=by omega
 have t2:=m2.keep (Sli.ok rplace_ok) t1 λy hy hm=>hb (by rw[zbr] at hm;exact hm ▸ hy);obtain ⟨o,row,G,ha,hld,hel,hG,_⟩:=t2.read hk;obtain ⟨s1,s2,s3,b1,d1,b2,d2,b3,d3,G1,G2,G3,rfl,rfl,es1,es2,es3,q1,q2,q3⟩:=hel.form;have hld6:ld h2 o.1 (o.2+k) 0 6=some [Iv l[k].me,Iv l[k].clock,s1,s2,s3,.bool l[k].fell]:=by rw[hld];exact IJ rfl
 refine ⟨l[k],l[k].cs b1 d1 b2 d2 b3 d3,h2,G1++(G2++G3),OB ?_,⟨_,_,_,_,_,_,rfl,_,_,_,G1,G2,G3,rfl,rfl,q1,q2,q3⟩,hsm _ (zbk hk),λhm=>hb (hG b hm),r2.up (by omega),zbj hl1 m2.le⟩;rw[e1,Ac,AA,Ab,Ah,Ab,Ah,Ab,Ah,Ab,Ah,Af,e2,Ac,Aa,Ad hk,ha,Ag,Bm,hld6,Ag,Ab,Aa,Ab,Aa,Ab,es1,Ab,es2,Ab,es3,Ab,AB,Af]
end


section
variable {h:Heap}
theorem zaR {n t:Nat}{xs:List V} (hu:Tryz.prog.underlying t=some (.int .u8)) (hx:TV Tryz.prog h (n+1) t xs):∃ u:UInt8,xs=za5 u:=by
 simp only[TV,hu] at hx;obtain ⟨i,rfl,h2⟩:=hx;have e1:IntKind.u8.min=0:=by decide
 have e2:IntKind.u8.max=255:=by decide
 simp only[Lit.wf,DH,decide_eq_true_eq,e1,e2] at h2;refine ⟨UInt8.ofNat i.toNat,?_⟩;unfold za5;rw[UInt8.toNat_ofNat',Nat.mod_eq_of_lt (by omega),show ((i.toNat:Nat):Int)=i by omega]
theorem Zd {n:Nat}{x:V} (hx:ArgV Tryz.prog h (n+2) 22 x):∃ (a:Pq) (c:Nq) (l:List UInt8) (F:List Nat),x = .sl 1 a l.length c/\RBytes h [.sl 1 a l.length c] l F/\(∀ y∈F,y<h.length)/\∀ k,c=some k->l.length<=k:=by
 have hx2:TV Tryz.prog h (n+2) 22 [x]:=by unfold ArgV at hx;rw[Tryz.underlying22] at hx;exact hx
 have hx3:=hx2;simp only[TV,Tryz.underlying22] at hx3;obtain ⟨a,c,rs,e,⟨_,hcap⟩,_⟩:=hx3;injection e with e _;subst e;obtain ⟨l,F,h1,_⟩:=zao (El:=flat za5) (bd:=λ_=>True) (ee:=0) (R:=1) Tryz.underlying22 (by kernel_rfl) (λrow hr=>by obtain ⟨t,rfl⟩:=zaR (n:=n) Tryz.underlying5 hr;exact ⟨t,[],⟨rfl,rfl⟩,trivial⟩) hx2;have hv:=h1.val;have hc:Tryz.prog.cellsOf 5=1:=by kernel_rfl
 rw[hv,hc] at h1;exact ⟨a,c,l,F,by rw[hv,hc],h1,(Sli.ok CF).bd _ _ _ _ h1,λk hk=>by rw[<- hv];exact hcap k hk⟩
end


section
variable {lo:Nat}{ro ro':Bool}{h:Heap}{F F':List Nat}
theorem WP {p:Place}{a1 a2 a3 a1' a2' a3':Pq}{c1 c2 c3 c1' c2' c3':Nq} (h1:RPlace ro h (p.cs a1 c1 a2 c2 a3 c3) p F) (h2:RPlace ro' h (p.cs a1' c1' a2' c2' a3' c3') p F') (hn:Dt p) :
  Ae lo 12 [.agg (p.cs a1 c1 a2 c2 a3 c3),.agg (p.cs a1' c1' a2' c2' a3' c3')] h=some (.bool true,h):=by
 obtain ⟨n1,n2,n3⟩:=hn;have n3':=n3.1;obtain ⟨G1,G2,G3,_,p1,p2,p3⟩:=h1.cells;obtain ⟨G1',G2',G3',_,q1,q2,q3⟩:=h2.cells;refine Qt (h':=h) ?_;rw[Kl,Ap,Kl,Ap,zaI,Ap,zab p1 q1 n1,Ac,Az,Ap,V4 p2 q2 n2,Ac,Az,Ap,Kl,Ap];refine (IE (n:=p.got.length) (λi=>Cy h.length false (i:Nat) p.me p.clock a1 p.chain.length c1 a2 p.log.length c2 a3 p.got.length c3 p.fell p.me p.clock a1' p.chain.length c1' a2' p.log.length c2' a3' p.got.length c3' p.fell h) λi hi=>?_).trans ?_
 ·obtain ⟨o,s,b1,d1,G,ha,ho,es,hp,_⟩:=p3.get hi;obtain ⟨o',s',b1',d1',G',ha',ho',es',hp',_⟩:=q3.get hi;rw[Cy.e,Ak (by omega),Ad hi,ha,Ag,Bm,ho,Ag,Ab,Af,es,Ad hi,ha',Ag,ho',Ag,Ab,Af,es',V4 hp hp' (n3.2 _ (zbk hi)),Ac,Az,Ap,At (show i<9223372036854775807 by omega)]
 ·rw[Cy.e,Aj (by omega)]
end


section
variable {lo:Nat}{h:Heap}{F F':List Nat}{a:Pq}{c:Nq}
theorem Y6 {l:List Node} (hs:RNodes false h [.sl 2 a l.length c] l F) (hl:lo<=h.length) (hn:CD l) (hc:Ch l) (hca:Ed l=true):∃ h',Ae lo 16 [.agg [.sl 2 a l.length c]] h=some (.bool true,h')/\Mv h [] h' []:=by
 obtain ⟨a1,c1,h1,F1,e1,r1,m1⟩:=I3 (lo:=lo) hs hl hn hc;have hs1:=m1.keep0 rnodes_ok hs;have hn1:=hn.1;refine ⟨h1,OH ?_,m1.drop⟩;rw[e1,Ac,AA,Ab,Ah,Af];refine (IE (n:=l.length) (λi=>Co lo false (i:Nat) a l.length c a1 (AW l).length c1 h1) λi hi=>?_).trans ?_
 ·rw[Co.e,Ak (by omega)];have hx:=Dx hi;have h4:=(hc.store hx).2;refine (IE (n:=4) (λj=>BX lo false (i:Nat) (j:Nat) a l.length c a1 (AW l).length c1 h1) λj hj=>?_).trans ?_
  ·obtain ⟨o,s1,s2,b1,d1,b2,d2,G1,G2,ha,ho,ho1,ho2,es1,es2,p1,p2,_⟩:=hs1.get hi;have hj4:j<l[i].store.length:=by omega
   obtain ⟨o',s,b3,d3,G,ha',ho',es,hp,_⟩:=p1.get hj4;rw[BX.e,Ak (by omega),Ad hi,ha,Ag,Bm,ho1,Ag,Ab,Af,es1,Ad hj4,ha',Ag,Bm,ho',Ag,Ab,Aa,Ab,Aa,Ab,Aa,Ab,es,Ab,Bq,Ab,AB,Af,<- ha];by_cases ht:l[i].store[j].tag.time>0
   ·have hin:inCh l l[i].store[j]:=⟨l[i],zbk hi,.inl (zbk hj4)⟩;have hv:=hc.ver hin ht;rw[Ak ht,JM hp r1 (AT hv).2.2.2.1 (JY hc),Ac,Az,(Ll hc).1 hca _ hin ht,Ap,At (by omega)]
   ·rw[Aj ht,At (by omega)]
  ·rw[BX.e,Aj (by omega),At (by omega)]
 ·rw[Co.e,Aj (by omega)]
end


section
variable {lo:Nat}{h:Heap}{F F':List Nat}{a:Pq}{c:Nq}{b n:Nat}
theorem QB {a0:Pq}{c0:Nq}{code:List UInt8} (hs:RBytes h [.sl 1 a0 code.length c0] code F) (hF:∀ y∈F,y<lo) (hl:lo<=h.length) (hn:code.length<=1048576) (hcap:∀ k,c0=some k->code.length<=k) :
  ∃ (p:Place) (cs:List V) (k:Int) (s:ByteArray) (g:Bool) (l:List Tag) (a:Pq) (c:Nq) (h':Heap) (F' G:List Nat),Ae lo 9 [.sl 1 a0 code.length c0] h=some (.tup [.agg cs,Iv k,.str s,.bool g,.agg [.sl 2 a l.length c]],h')/\Ca false h' cs p F'/\Zi p/\RTags false h' [.sl 2 a l.length c] l G/\l.length<=4/\s.size<=10/\lo<=h'.length:=by
 obtain ⟨b,h1,e1,r1,m1⟩:=Xi hs hF hl hn hcap;obtain ⟨p,cs,h2,F2,e2,t2,sm2,hb,r2,l2⟩:=Vv r1 (by omega) (zbj hl m1.le);obtain ⟨x1,y1,x2,y2,x3,y3,rfl,q2⟩:=t2;obtain ⟨lp,ap,cp,h3,F3,e3,t3,hl3,r3,m3⟩:=RL r2 (by omega) l2;have hb3:b∉F3:=(zbs.1 m3.nd).1;have q3:=m3.keep rplace_ok q2 λy hy hm=>hb (by rw[zbr] at hm;exact hm ▸ hy);obtain ⟨v,h4,e4,_,_,r4,m4⟩:=pick r3 (by omega) 3;have q4:=m4.keep rplace_ok q3 λy hy hm=>hb (by rw[zbr] at hm;exact hm ▸ hy);have t4:=m4.keep rtags_ok t3 λy hy hm=>hb3 (by rw[zbr] at hm;exact hm ▸ hy);have l4:=zbj l2 (zbj m3.le m4.le);have tail:∀ (hh:Heap) (n:Nat) (l:List Tag) (a:Pq) (c:Nq) (G:List Nat),n<=500000->Rd lo hh b n->RPlace false hh (p.cs x1 y1 x2 y2 x3 y3) p F2->RTags false hh [.sl 2 a l.length c] l G->b∉G->l.length<=4->lo<=hh.length ->
   ∃ (p':Place) (cs:List V) (k:Int) (s:ByteArray) (g:Bool) (l':List Tag) (a':Pq) (c':Nq) (h':Heap) (F' G:List Nat),(Ai (Ae lo 48 [.ptr (some (b,(0,0))),.sl 1 (some (hh.length,0)) 4 (some 4)] (hh ++ [.rows 1 9 false [[.str ⟨⟨[97]⟩⟩],[.str ⟨⟨[98]⟩⟩],[.str ⟨⟨[]⟩⟩],[.str ⟨⟨[97,32,98]⟩⟩]]])) λq g=>eT q λq=>Ai (Ae lo 49 [.ptr (some (b,(0,0))),.sl 1 (some (g.length,0)) 5 (some 5)] (g ++ [.rows 1 3 false [[Iv 0],[Iv 1],[Iv 2],[Iv 3],[Iv 4]]])) λg k=>eI .i64 g λg=>br (q.toList==(ByteArray.mk #[]).toList) (Ai (Ae lo 44 [.ptr (some (b,(0,0))),Iv 2] k) λv m=>eI .i64 v λv=>br (v==0) (some (V.tup [.agg (p.cs x1 y1 x2 y2 x3 y3),Iv g,.str q,.bool true,.agg [.sl 2 a l.length c]],m)) (some (V.tup [.agg (p.cs x1 y1 x2 y2 x3 y3),Iv g,.str q,.bool false,.agg [.sl 2 a l.length c]],m))) (some (V.tup [.agg (p.cs x1 y1 x2 y2 x3 y3),Iv g,.str q,.bool false,.agg [.sl 2 a l.length c]],k)))=some (V.tup [.agg cs,Iv k,.str s,.bool g,.agg [.sl 2 a' l'.length c']],h')/\Ca false h' cs p' F'/\Zi p'/\RTags false h' [.sl 2 a' l'.length c'] l' G/\l'.length<=4/\s.size<=10/\lo<=h'.length:=by
  intro hh n l a c G hn r q t hbG hll hlo;obtain ⟨s,h5,e5,hs5,r5,m5⟩:=MR (e:=9) [⟨⟨[97]⟩⟩,⟨⟨[98]⟩⟩,⟨⟨[]⟩⟩,⟨⟨[97,32,98]⟩⟩] (rows := [[.str ⟨⟨[97]⟩⟩],[.str ⟨⟨[98]⟩⟩],[.str ⟨⟨[]⟩⟩],[.str ⟨⟨[97,32,98]⟩⟩]]) (len:=4) (cc:=some 4) r (by omega) rfl rfl (by decide);obtain ⟨k,h6,e6,_,r6,m6⟩:=Ea (e:=3) [0,1,2,3,4] (rows := [[Iv 0],[Iv 1],[Iv 2],[Iv 3],[Iv 4]]) (len:=5) (cc:=some 5) r5 (by omega) rfl rfl (by decide);obtain ⟨w,h7,e7,_,_,r7,m7⟩:=pick r6 (by omega) 2;have m56:=m5.trans m6;have m57:=m56.trans m7;have hs10:s.size<=10:=by simp only[zbx,List.not_mem_nil,or_false] at hs5;rcases hs5 with rfl | rfl | rfl | rfl<;>decide
  have kq:∀ {h':Heap},Mv hh [b] h' [b]->Ca false h' (p.cs x1 y1 x2 y2 x3 y3) p F2:=λm=>⟨_,_,_,_,_,_,rfl,m.keep rplace_ok q λy hy hm=>hb (by rw[zbr] at hm;exact hm ▸ hy)⟩
  have kt:∀ {h':Heap},Mv hh [b] h' [b]->RTags false h' [.sl 2 a l.length c] l G:=λm=>m.keep rtags_ok t λy hy hm=>hbG (by rw[zbr] at hm;exact hm ▸ hy);rw[e5,Ac,Bq,e6,Ac,Aa];cases s.toList==(ByteArray.mk #[]).toList with
  | true =>
   rw[Ap,e7,Ac,Aa];cases w==(0:Int) with
   | true=>rw[Ap];exact ⟨p,_,k,s,true,l,a,c,h7,F2,G,rfl,kq m57,sm2,kt m57,hll,hs10,zbj hlo m57.le⟩
   | false=>rw[Ay];exact ⟨p,_,k,s,false,l,a,c,h7,F2,G,rfl,kq m57,sm2,kt m57,hll,hs10,zbj hlo m57.le⟩
  | false=>rw[Ay];exact ⟨p,_,k,s,false,l,a,c,h6,F2,G,rfl,kq m56,sm2,kt m56,hll,hs10,zbj hlo m56.le⟩
 suffices hk:∃ (p':Place) (cs:List V) (k:Int) (s:ByteArray) (g:Bool) (l':List Tag) (a':Pq) (c':Nq) (h':Heap) (F' G:List Nat),_=some (V.tup [.agg cs,Iv k,.str s,.bool g,.agg [.sl 2 a' l'.length c']],h')/\Ca false h' cs p' F'/\Zi p'/\RTags false h' [.sl 2 a' l'.length c'] l' G/\l'.length<=4/\s.size<=10/\lo<=h'.length from by obtain ⟨p',cs,k,s,g,l',a',c',h',F',G,e,hr⟩:=hk;exact ⟨p',cs,k,s,g,l',a',c',h',F',G,JS e,hr⟩
 simp only[Place.cs] at e2;rw[e1,Ac,zbb,e2,Ac,AA,Ab,Aa,Ab,Aa,Ab,Ah,Ab,Ah,Ab,Ah,Ab,AB,Af,e3,Ac,AA,Ab,Ah,Af,e4,Ac,Aa];by_cases hv:v>0
 ·obtain ⟨h5,q,e5,t5,m5⟩:=Iu (lo:=lo) (h:=h4);have hbq:b≠q:=λhm=>by have:=m5.new q (by simp);have:=r4.lt;omega
  have r5:=r4.keep m5 (by simp) (by simp);have q5:=m5.keep0 rplace_ok q4;obtain ⟨G1,G2,G3,_,g1,g2,g3⟩:=q5.cells;have l5:=zbj l4 m5.le;rw[Ak hv,e5,Ac,AA,Ab,Ah,Af,RB g1 sm2.1.1,Ac,Az];cases hco:Cs p.chain with
  | true =>have hch:=chain_iff.1 hco;have hpos:=hch.pos;obtain ⟨tv,h6,F6,e6,t6,m6⟩:=Hh (lo:=lo) g1 l5 sm2.1.1 (by omega);obtain ⟨a6,c6,es6,t6⟩:=t6.form;rw[Ap,e6,Ac,AA,Ab,es6,Af];exact tail h6 _ (AW p.chain) a6 c6 F6 (by omega) (r5.keep m6 (by simp) (by simp)) (m6.keep0 rplace_ok q5) t6 (λhm=>by have:=m6.new b hm;have:=r5.lt;omega) (by have:=hch.four.1;omega) (zbj l5 m6.le)
  | false =>rw[Ay];exact tail h5 _ L1 (some (q,0)) (some 4) [q] (by omega) r5 q5 t5 (by simpa using hbq) (by decide) l5
 ·rw[Aj hv];exact tail h4 _ lp ap cp F3 (by omega) r4 q4 t4 hb3 hl3 l4
end


theorem U3 {p:Place}{k:Int}{s:ByteArray}{g:Bool}{l:List Tag} (hpo:As p=true) (hc:AO p k s g l=true) :
  ∃ (z x:Node),p.chain[0]?=some z/\(Bl p k s g l).1.chain[0]?=some x/\x.store[k.toNat]?=some (By p k s g l)/\(Bl p k s g l).2=⟨AC p l,p.me⟩/\0<AC p l/\(∀ v∈z.store,v.tag.time<AC p l)/\∀ t∈l,t.time<AC p l:=by
 have hch:=HI hpo;have hpos:=hch.pos;obtain ⟨q1,q2,q3,q4,q5,q6,q7,q8⟩:=EM hc;have hz:=Dx (l:=p.chain) (i:=0) (by omega);have hhd:=(E2 hz).1 (AX hpo).2.2.2.2.2.2.2;have hcl:=(AX hpo).2.1;have hlt:DT l<AC p l/\p.clock<AC p l:=newer_lt_iff.1 (by unfold AC;omega);have hvo:=M7 hpo hc;obtain ⟨u,hu⟩:=hch.key hz hvo;have hut:=hhd u (zbF hu);have hless:A7 u (By p k s g l)=true:=by rw[IZ];have:(By p k s g l).tag.time=AC p l:=rfl;omega
 have hk:(By p k s g l).key=k:=rfl;rw[hk] at hu;have hki:=(Gz hu).1;have hadd:Fp p.chain 0 (By p k s g l)=p.chain.set 0 ⟨(p.chain[0]'(by omega)).store.set k.toNat (By p k s g l),bif decide (0+1<p.chain.length) then (p.chain[0]'(by omega)).wait ++ [By p k s g l] else (p.chain[0]'(by omega)).wait⟩:=by rw[Iq hz (by rw[hk];exact hu),hless,cond_true,hk]
 have hw:Bl p k s g l=(BE (EN p 0 (AC p l) (By p k s g l)),⟨AC p l,p.me⟩):=by unfold Bl;rw[hpo,hc];rfl
 rw[hw];refine ⟨_,⟨(p.chain[0]'(by omega)).store.set k.toNat (By p k s g l),bif decide (0+1<p.chain.length) then (p.chain[0]'(by omega)).wait ++ [By p k s g l] else (p.chain[0]'(by omega)).wait⟩,hz,?_,zbA hki,rfl,by omega,λv hv=>by have:=hhd v hv;omega,(latest_lt.1 hlt.1).2⟩;show (Fp p.chain 0 (By p k s g l))[0]?=_;rw[hadd,zbA (by omega)]
theorem Na {h:Heap}{F:List Nat}{a0:Pq}{c0:Nq}{code:List UInt8} (hs:RBytes h [.sl 1 a0 code.length c0] code F) (hF:∀ y∈F,y<h.length) (hcap:∀ k,c0=some k->code.length<=k) :
  ∃ h',Ae h.length 3 [.sl 1 a0 code.length c0] h=some (.bool true,h'):=by
 suffices hk:∃ h',_=some (V.bool true,h') from by obtain ⟨h',e⟩:=hk;exact ⟨h',KL e⟩
 by_cases hbig:(code.length:Int)>1048576
 ·rw[Ak hbig];exact ⟨h,rfl⟩
 rw[Aj hbig];obtain ⟨p,cs,k,s,g,l,al,cl,h1,F1,G0,e1,r1,sm1',tl,hl4,hs10,l1⟩:=QB (lo:=h.length) hs hF (zbo _) (by omega) hcap;have sm1:=sm1'.1;obtain ⟨raw2,cs2,h2,F2,e2,n2,r2,m2⟩:=Oo (lo:=h.length) (k:=k) (s:=s) (g:=g) r1 tl l1 sm1 ⟨by omega,by omega⟩;have r12:=m2.keep0 rplaceN_ok r1;have tl2:=m2.keep0 rtags_ok tl;have l2:=zbj l1 m2.le;obtain ⟨raw3,cs3,h3,F3,e3,n3,r3,m3⟩:=Oj (lo:=h.length) (k:=k) (s:=s) (g:=g) r12 tl2 l2 sm1 ⟨by omega,by omega⟩;have r13:=m3.keep0 rplaceN_ok r12;have tl3:=m3.keep0 rtags_ok tl2;have l3:=zbj l2 m3.le;have r23:=m3.keep0 rplaceN_ok r2;obtain ⟨X,hX⟩:∃ X,(Bl p k s g l).1=X:=⟨_,rfl⟩;obtain ⟨T,hT⟩:∃ T,(Bl p k s g l).2=T:=⟨_,rfl⟩;have hsm:Dt X:=by
  rw[<- hX];cases hpo:As p with
  | false=>unfold Bl;rw[hpo];exact Zt
  | true=>exact (FN (CS (PB hpo)) (by decide) (by decide) (by decide)).1
 rw[hX] at n2 n3 r3 r23;rw[hT] at e2 e3;obtain ⟨s1,s2,s3,x1,y1,x2,y2,x3,y3,rfl,k1,k2,k3,rfl⟩:=n2;obtain ⟨t1,t2,t3,z1,w1,z2,w2,z3,w3,rfl,j1,j2,j3,rfl⟩:=n3;obtain ⟨b1,d1,b2,d2,b3,d3,rfl,q1⟩:=r13;obtain ⟨_,_,_,_,_,_,_,q2⟩:=r23;obtain ⟨_,_,_,_,_,_,_,q3⟩:=r3;obtain ⟨K1,K2,K3,_,f1,f2,f3⟩:=q2.cells;obtain ⟨G1,G2,G3,_,g1,g2,g3⟩:=q1.cells;simp only[Place.cs] at e1 e2 e3;have cf:=WP (lo:=h.length) q2 q3 hsm;have ok1:=HO (lo:=h.length) g1 g2 g3 sm1;have ok1':=HO (lo:=h3.length) g1 g2 g3 sm1;have okS:Ae h.length 14 [.agg (p.cs b1 d1 b2 d2 b3 d3)] h3=some (.bool (As p),h3):=Qr (by
  rw[RA g1 g2 g3 sm1,Ac,Az];cases As p
  ·rw[Ay]
  ·rw[Ap])
 simp only[Place.cs] at cf ok1 ok1' okS;have hTT:((T.time==T.time)&&((T.place==T.place)&&true))=true:=by rw[Kl,Kl];rfl
 rw[e1,Ac,Hz,Ab,AA,Ab,Aa,Ab,Aa,Ab,Ah,Ab,Ah,Ab,Ah,Ab,AB,Af,Ab,Aa,Ab,Bq,Ab,Az];cases hpo:As p with
 | false =>
  rw[hpo] at ok1 ok1' okS;cases g
  ·rw[Ay,Ab,AA,Ab,Ah,Af,Af,e2,Ac,Hz,Ab,AA,Ab,Aa,Ab,Aa,Ab,k1,Ab,k2,Ab,k3,Ab,AB,Af,Ab,AA,Ab,Aa,Ab,Aa,Af,Af,e3,Ac,Hz,Ab,AA,Ab,Aa,Ab,Aa,Ab,j1,Ab,j2,Ab,j3,Ab,AB,Af,Ab,AA,Ab,Aa,Ab,Aa,Af,Af,hTT,Ap,cf,Ac,Az,Ap,ok1',Ac,Az,Ay,okS,Ac,Az,Ay,ok1,Ac,Az,Ay,Ap,cf,Ac,Az,Ap,ok1',Ac,Az,Ay,okS,Ac,Az,Ay];exact ⟨_,rfl⟩
  ·rw[Ap,Ab,AA,Ab,Ah,Af,Af,e2,Ac,Hz,Ab,AA,Ab,Aa,Ab,Aa,Ab,k1,Ab,k2,Ab,k3,Ab,AB,Af,Ab,AA,Ab,Aa,Ab,Aa,Af,Af,e3,Ac,Hz,Ab,AA,Ab,Aa,Ab,Aa,Ab,j1,Ab,j2,Ab,j3,Ab,AB,Af,Ab,AA,Ab,Aa,Ab,Aa,Af,Af,hTT,Ap,cf,Ac,Az,Ap,ok1',Ac,Az,Ay,okS,Ac,Az,Ay,ok1,Ac,Az,Ay,Ap,cf,Ac,Az,Ap,ok1',Ac,Az,Ay,okS,Ac,Az,Ay];exact ⟨_,rfl⟩
 | true =>
 rw[hpo] at ok1 ok1' okS;cases hcw:AO p k s g l with
 | false =>
  have hw:Bl p k s g l=(p,⟨0,0⟩):=by unfold Bl;rw[hpo,hcw];rfl
  have hX2:X=p:=by rw[<- hX,hw]
  have hT2:T.time=0:=by rw[<- hT,hw]
  subst hX2;have cf2:=WP (lo:=h.length) q2 q1 sm1;simp only[Place.cs] at cf2;have h0:(T.time==0)=true:=by rw[hT2];rfl
  cases g
  ·rw[Ay,Ab,AA,Ab,Ah,Af,Af,e2,Ac,Hz,Ab,AA,Ab,Aa,Ab,Aa,Ab,k1,Ab,k2,Ab,k3,Ab,AB,Af,Ab,AA,Ab,Aa,Ab,Aa,Af,Af,e3,Ac,Hz,Ab,AA,Ab,Aa,Ab,Aa,Ab,j1,Ab,j2,Ab,j3,Ab,AB,Af,Ab,AA,Ab,Aa,Ab,Aa,Af,Af,hTT,Ap,cf,Ac,Az,Ap,ok1',Ac,Az,Ap,okS,Ac,Az,Ap,ok1,Ac,Az,Ap,h0,Ap,cf2,Ac,Az,Ap];exact ⟨_,rfl⟩
  ·rw[Ap,Ab,AA,Ab,Ah,Af,Af,e2,Ac,Hz,Ab,AA,Ab,Aa,Ab,Aa,Ab,k1,Ab,k2,Ab,k3,Ab,AB,Af,Ab,AA,Ab,Aa,Ab,Aa,Af,Af,e3,Ac,Hz,Ab,AA,Ab,Aa,Ab,Aa,Ab,j1,Ab,j2,Ab,j3,Ab,AB,Af,Ab,AA,Ab,Aa,Ab,Aa,Af,Af,hTT,Ap,cf,Ac,Az,Ap,ok1',Ac,Az,Ap,okS,Ac,Az,Ap,ok1,Ac,Az,Ap,h0,Ap,cf2,Ac,Az,Ap];exact ⟨_,rfl⟩
 | true =>
 have hch:=HI hpo;have hxo:As X=true:=by rw[<- hX];exact PB hpo
 have hchx:Ch X.chain:=HI hxo;obtain ⟨z,x,hz,hx0,hxk,hTt,hpos,hzt,hlt⟩:=U3 hpo hcw;rw[hX] at hx0;rw[hT] at hTt;obtain ⟨u1,u2,u3,u4,u5,u6,u7,u8⟩:=EM hcw;obtain ⟨kk,rfl⟩:∃ kk:Nat,k=(kk:Int):=⟨k.toNat,by omega⟩;rw[Bm] at hxk;obtain ⟨hp0,hz⟩:=Gz hz;obtain ⟨hxp0,hx0⟩:=Gz hx0;have hz4:z.store.length=4:=by rw[<- hz];exact (hch.store (Dx hp0)).2
 obtain ⟨hkx,hxk⟩:=Gz hxk;have hl4':=DV u4;have ht1:T.time=AC p l:=by rw[hTt]
 have ht2:T.place=p.me:=by rw[hTt]
 have ok2:=HO (lo:=h.length) f1 f2 f3 hsm;rw[hxo] at ok2;simp only[Place.cs] at ok2;obtain ⟨h5,e5,m5⟩:=Y6 (lo:=h.length) f1 l3 hsm.1 hchx (AX hxo).2.2.2.2.1;obtain ⟨a6,c6,h6,F6,e6,r6,m6⟩:=I3 (lo:=h5.length) (m5.keep0 rnodes_ok g1) (zbo _) sm1.1 hch;have loop:=IE (n:=4) (λi=>AZ h.length false (kk:Nat) s g (i:Nat) p.me p.clock b1 p.chain.length d1 b2 p.log.length d2 b3 p.got.length d3 p.fell al l.length cl X.me X.clock x1 X.chain.length y1 x2 X.log.length y2 x3 X.got.length y3 X.fell T.time T.place h3) λi hi=>by
  obtain ⟨o,ha,ho⟩:=tl3.get (show i<l.length by omega);obtain ⟨o',v1',v2',c1',e1'',c2',e2'',H1',H2',ha',_,ho1',_,es1',_,p1',_⟩:=g1.get hp0;rw[hz] at es1' p1';obtain ⟨o3,_,_,_,_,ha3,_,_,_,_,_,_,ho12,_⟩:=p1'.all (show i<z.store.length by omega);have q1:GA (l[i]'(by omega)).time (l[i]'(by omega)).place T.time T.place=true:=by have:=hlt _ (zbk (show i<l.length by omega));unfold GA;simp;left;omega
  have q2:GA (z.store[i]'(by omega)).tag.time (z.store[i]'(by omega)).tag.place T.time T.place=true:=by have:=hzt _ (zbk (show i<z.store.length by omega));unfold GA;simp;left;omega
  rw[AZ.e,Ak (by omega),Ad (by omega),ha,Ag,Bm,ho,Ag,Ab,Aa,Ab,Aa,Af,HN,Ac,Az,q1,Ap,Cu ⟨by omega,by omega⟩,ha',Ag,ho1',Ag,Ab,Af,es1',Ad (by omega),ha3,Ag,ho12,Ag,Ab,Aa,Ab,Aa,Af,HN,Ac,Az,q2,Ap,At (by omega),<- ha,<- ha']
 obtain ⟨o,v1,v2,c1,e1',c2,e2',H1,H2,ha,_,ho1,_,es1,_,p1,_⟩:=f1.get hxp0;rw[hx0] at es1 p1;obtain ⟨o2,sv,b3',d3',G,ha2,ho2,es2,hp2,_⟩:=p1.get hkx;rw[hxk] at ho2 es2 hp2;have fin:AZ h.length false (kk:Nat) s g ((4:Nat):Int) p.me p.clock b1 p.chain.length d1 b2 p.log.length d2 b3 p.got.length d3 p.fell al l.length cl X.me X.clock x1 X.chain.length y1 x2 X.log.length y2 x3 X.got.length y3 X.fell T.time T.place h3=some (V.bool true,h6):=by
  have es2':∀ {R':Type} (K:Pq->Nat->Nq->Option R'),eS 2 sv K=K b3' l.length d3':=es2;have ho2':ld h3 o2.1 (o2.2+kk) 0 6=some [Iv (kk:Nat),Iv T.time,Iv T.place,sv,.str s,.bool g]:=by rw[ht1,ht2];exact ho2
  have hp2':RTags false h3 [.sl 2 b3' l.length d3'] l G:=hp2;rw[AZ.e,Aj (by omega),Cu ⟨by omega,by omega⟩,ha,Ag,ho1,Ag,Ab,Af,es1,Ad hkx,ha2,Ag,Bm,ho2',Ag,Ab,Aa,Ab,Aa,Ab,Aa,Ab,es2',Ab,Bq,Ab,AB,Af,<- ha,ok2,Ac,Az,Ap,e5,Ac,Az,Ap,hTT,Ap,ht2,Kl,Ap,za4,Ap,zaI,Ap,Y5 (m5.keep0 rtags_ok hp2') (m5.keep0 rtags_ok tl3) (by omega),Ac,Az,Ap,e6,Ac,AA,Ab,Ah,Af,JM ((m5.trans m6.drop).keep0 rtags_ok tl3) r6 u4 (JY hch),Ac,Az,u5,Ap]
 have h0:(T.time==0)=false:=by rw[beq_eq_false_iff_ne];omega
 refine ⟨h6,?_⟩;cases g
 ·rw[Ay,Ab,AA,Ab,Ah,Af,Af,e2,Ac,Hz,Ab,AA,Ab,Aa,Ab,Aa,Ab,k1,Ab,k2,Ab,k3,Ab,AB,Af,Ab,AA,Ab,Aa,Ab,Aa,Af,Af,e3,Ac,Hz,Ab,AA,Ab,Aa,Ab,Aa,Ab,j1,Ab,j2,Ab,j3,Ab,AB,Af,Ab,AA,Ab,Aa,Ab,Aa,Af,Af,hTT,Ap,cf,Ac,Az,Ap,ok1',Ac,Az,Ap,okS,Ac,Az,Ap,ok1,Ac,Az,Ap,h0,Ay];exact loop.trans fin
 ·rw[Ap,Ab,AA,Ab,Ah,Af,Af,e2,Ac,Hz,Ab,AA,Ab,Aa,Ab,Aa,Ab,k1,Ab,k2,Ab,k3,Ab,AB,Af,Ab,AA,Ab,Aa,Ab,Aa,Af,Af,e3,Ac,Hz,Ab,AA,Ab,Aa,Ab,Aa,Ab,j1,Ab,j2,Ab,j3,Ab,AB,Af,Ab,AA,Ab,Aa,Ab,Aa,Af,Af,hTT,Ap,cf,Ac,Az,Ap,ok1',Ac,Az,Ap,okS,Ac,Az,Ap,ok1,Ac,Az,Ap,h0,Ay];exact loop.trans fin
theorem main_FnPlaceWrite {h:Heap}{x:V} (hx:ArgV Tryz.prog h 12 22 x):∃ h',Ae h.length 3 [x] h=some (.bool true,h'):=by obtain ⟨a,c,l,F,rfl,h1,h2,h3⟩:=Zd (n:=10) hx;exact Na h1 h2 h3
end Go.Proofs.YtmgopagfoemomaaGreat
