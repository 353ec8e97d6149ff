/- Part 5 of what is shown for the law Gwt, whatever the input; no condition of its own. -/
import Derived.Test.YtoihoaaiadagaaaGreatBGwt4
set_option linter.unusedVariables false
set_option linter.unusedSimpArgs false
set_option linter.unnecessarySimpa false
set_option maxRecDepth 100000
namespace Go.Proofs.YtoihoaaiadagaaaGreat
open Go T


variable {p:Place}{k:Nat}{l:List Node}{v:Ver}{s:Sess}{i:Nat}
structure Event where
 kind:Int
 at':Int
 num:Int
 key:Int
 text:ByteArray
 gone:Bool
abbrev Event.cs (e:Event):List V := [Iv e.kind,Iv e.at',Iv e.num,Iv e.key,.str e.text,.bool e.gone]
def FQ (a b:Tag):Bool:=Gp a.time a.place b.time b.place
def Ju (a b:Tag):Tag:=bif FQ a b then b else a
def IT (p:List Tag) (k:Nat) (t:Tag):List Tag:=match p[k]? with
 | some x=>p.set k (Ju x t)
 | none=>p
def I1 (p q:List Tag):List Tag:=List.zipWith Ju p q
def setS (w:World) (i:Nat) (s:Sess) (ds:List Done):World:=⟨w.places,w.sess.set i s,w.net,w.hist++ds⟩
def setP (w:World) (k:Nat) (p:Place):World:=⟨w.places.set k p,w.sess,w.net,w.hist⟩
def setN (w:World) (l:List Frame):World:=⟨w.places,w.sess,l,w.hist⟩
def DY (w:World) (n:Int):Bool:=decide ((w.hist.length:Int)+n≤80)
def Gy (w:World) (i:Nat) (s:Sess) (e:Event):Option World:=match w.places[s.place.toNat]? with
 | some p=>bif !decide (s.wait.time>0)&&(Az p e.key e.text e.gone s.past&&DY w 1) then
   some (setS (setP w s.place.toNat (AY p e.key e.text e.gone s.past).1) i ⟨s.place,s.past,(AY p e.key e.text e.gone s.past).2,e.key⟩ [⟨i,1,e.key,(AY p e.key e.text e.gone s.past).2⟩]) else none
 | none=>none
def NB (w:World) (i:Nat) (s:Sess):Option World:=match w.places[s.place.toNat]? with
 | some p=>match J3 p.chain 0 s.key.toNat,(EQ p.chain)[s.key.toNat]? with
  | some v,some u=>bif decide (s.wait.time>0) then
    (bif FQ v.tag s.wait then (bif FQ u.tag s.wait then some (setS w i ⟨s.place,s.past,⟨0,0⟩,0⟩ []) else none)
    else (bif DY w 1 then some (setS w i ⟨s.place,IT s.past s.key.toNat s.wait,⟨0,0⟩,0⟩ [⟨i,3,s.key,s.wait⟩]) else none)) else none
  | _,_=>none
 | none=>none
def T4 (s:Sess) (v:Ver) (k:Nat):List Tag:=bif decide (v.tag.time>0) then IT (I1 s.past v.past) k v.tag else s.past
def IX (w:World) (i:Nat) (s:Sess) (e:Event):Option World:=match w.places[s.place.toNat]? with
 | some p=>bif !decide (s.wait.time>0)&&(Am e.key 0 3&&(Am e.num 0 ((p.chain.length:Int) - 1)&&DY w 1)) then
   (match J3 p.chain e.num.toNat e.key.toNat,s.past[e.key.toNat]? with
   | some v,some t=>bif FQ v.tag t then none else some (setS w i ⟨s.place,T4 s v e.key.toNat,s.wait,s.key⟩ [⟨i,2,e.key,v.tag⟩])
   | _,_=>none) else none
 | none=>none
def Do (i:Nat) (l:List Tag):List Done:=l.zipIdx.map fun x=>⟨i,2,(x.2:Int),x.1⟩
def MA (w:World) (i:Nat) (s:Sess):Option World:=match w.places[s.place.toNat]? with
 | some p=>bif !decide (s.wait.time>0)&&(BH s.past (AN p.chain)&&DY w 4) then some (setS w i ⟨s.place,AN p.chain,s.wait,s.key⟩ (Do i (AN p.chain))) else none
 | none=>none
def Uc (w:World) (i:Nat) (s:Sess) (e:Event):Option World:=bif !decide (s.wait.time>0)&&Am e.num 0 2 then some (setS w i ⟨e.num,s.past,s.wait,s.key⟩ []) else none
def FU (w:World) (e:Event):Option World:=bif Am e.at' 0 ((w.sess.length:Int) - 1) then
 (match w.sess[e.at'.toNat]? with
 | some s=>bif e.kind==1 then Gy w e.at'.toNat s e else bif e.kind==2 then NB w e.at'.toNat s else bif e.kind==3 then IX w e.at'.toNat s e else bif e.kind==4 then MA w e.at'.toNat s else Uc w e.at'.toNat s e
 | none=>none) else none
def Ep (p:Place) (e:Event):Option Place:=bif e.kind==6 then (bif C5 p.chain e.num then some (E2 p e.num) else none) else
 bif e.kind==7 then (bif Ef p e.num then some (E3 p e.num) else none) else
 bif e.kind==8 then (bif FV p.chain then some (Mf p) else none) else (bif Ba p e.num then some (A7 p e.num) else none)
def HZ (w:World) (e:Event):Option World:=bif Am e.at' 0 2 then
 (match w.places[e.at'.toNat]? with
 | some p=>(Ep p e).map (setP w e.at'.toNat)
 | none=>none) else none
def RI (w:World) (e:Event):Option World:=bif Am e.at' 0 2&&(Am e.num 0 2&&(!(e.at'==e.num)&&(decide ((w.net.length:Int)<12)&&Am e.key 0 (((Hj w.places e.at'.toNat).length:Int) - 1)))) then
 (match (Hj w.places e.at'.toNat)[e.key.toNat]? with
 | some v=>some (setN w (w.net ++ [⟨e.at',e.num,e.key,v⟩]))
 | none=>none) else none
def Mo (w:World) (f:Frame):World:=match w.places[f.to.toNat]? with
 | some p=>setP w f.to.toNat (G9 p f.fro f.at' f.ver)
 | none=>w
def Nn (w:World) (e:Event):Option World:=bif Am e.at' 0 ((w.net.length:Int) - 1) then
 (match w.net[e.at'.toNat]? with
 | some f=>some (bif e.kind==12 then setN w (w.net.eraseIdx e.at'.toNat) else bif e.kind==13 then Mo w f else Mo (setN w (w.net.eraseIdx e.at'.toNat)) f)
 | none=>none) else none
def Hh (w:World) (e:Event):Option World:=bif Am e.kind 1 5 then FU w e else bif Am e.kind 6 9 then HZ w e else bif e.kind==10 then RI w e else bif Am e.kind 11 13 then Nn w e else none
def TA (w:World) (e:Event):World:=(Hh w e).getD w
structure Good (w:World):Prop where
 ok:Wd w
 room:∀ p∈w.places,Roomy p
theorem pastOk_iff {p:List Tag}:A6 p=true↔p.length=4∧∀ t∈p,A2 t.time t.place=true:=by simp only[A6,Dr,decide_eq_true_eq,zbp]
theorem Wm {a b:Tag} (ha:A2 a.time a.place=true) (hb:A2 b.time b.place=true):A2 (Ju a b).time (Ju a b).place=true:=by
 unfold Ju;cases FQ a b
 ·exact ha
 ·exact hb
theorem TD {p:List Tag}{t:Tag} (hp:A6 p=true) (ht:A2 t.time t.place=true):A6 (IT p k t)=true:=by
 rw[pastOk_iff] at hp;unfold IT;cases hx:p[k]? with
 | none=>exact pastOk_iff.2 hp
 | some x =>
  refine pastOk_iff.2 ⟨by simpa using hp.1,fun y hy=>?_⟩;rcases zby hy with hy | rfl
  ·exact hp.2 y hy
  ·exact Wm (hp.2 x (zbw hx)) ht
theorem Yw {p q:List Tag} (hp:A6 p=true) (hq:A6 q=true):A6 (I1 p q)=true:=by rw[pastOk_iff] at hp hq;refine pastOk_iff.2 ⟨by unfold I1;rw[List.length_zipWith];omega,fun y hy=>?_⟩;unfold I1 at hy;obtain ⟨i,hi,rfl⟩:=zbM.1 hy;rw[List.getElem_zipWith];exact Wm (hp.2 _ (zbb _)) (hq.2 _ (zbb _))
theorem Ir (h:Ch l):A6 (AN l)=true:=by refine pastOk_iff.2 ⟨h.four.1,fun t ht=>?_⟩;obtain ⟨z,hz,hi⟩:=h.tail;rw[Da hz hi] at ht;unfold Bi at ht;obtain ⟨v,hv,rfl⟩:=zcQ.1 ht;obtain ⟨i,hi⟩:=zbt.1 hv;exact S9 (HW (h.store hz).1 hi)
theorem X9 {key:Nat} (h:Ch l) (hv:J3 l k key=some v):∃ (i:Nat) (x:Node),l[i]?=some x∧x.store[key]?=some v:=by
 unfold J3 FH at hv;cases hx:l[Et l k]? with
 | none=>rw[hx] at hv;simp at hv
 | some x=>rw[hx] at hv;exact ⟨_,x,hx,hv⟩
theorem Ya {key:Nat} (h:Ch l) (hv:J3 l k key=some v):Hg key v=true:=by obtain ⟨i,x,hx,hv⟩:=X9 h hv;exact HW (h.store hx).1 hv
theorem Dy (h:FJ s=true):(0≤s.place∧s.place≤2)∧A6 s.past=true∧A2 s.wait.time s.wait.place=true∧(0≤s.key∧s.key≤3)∧(0<s.wait.time∨s.key=0)∧(s.wait.time=0∨s.wait.place=s.place):=by unfold FJ at h;simp only[Dr,zbY,decide_eq_true_eq,beq_iff_eq,Am] at h;obtain ⟨⟨⟨⟨⟨h1,h2⟩,h3⟩,h4⟩,h5⟩,h6⟩:=h;exact ⟨h1,h2,h3,h4,h5,h6⟩
theorem Ku (h1:0≤s.place∧s.place≤2) (h2:A6 s.past=true) (h3:A2 s.wait.time s.wait.place=true) (h4:0≤s.key∧s.key≤3) (h5:0<s.wait.time∨s.key=0) (h6:s.wait.time=0∨s.wait.place=s.place):FJ s=true:=by unfold FJ;simp only[Dr,zbY,decide_eq_true_eq,beq_iff_eq,Am];exact ⟨⟨⟨⟨⟨h1,h2⟩,h3⟩,h4⟩,h5⟩,h6⟩
theorem OZ {d:Done} (h1:0≤d.sess∧d.sess≤3) (h2:1≤d.kind∧d.kind≤3) (h3:0≤d.key∧d.key≤3) (h4:A2 d.tag.time d.tag.place=true) (h5:d.kind=2∨0<d.tag.time):Qe d=true:=by unfold Qe;simp only[Dr,zbY,decide_eq_true_eq,beq_iff_eq,Am];exact ⟨⟨⟨⟨h1,h2⟩,h3⟩,h4⟩,h5⟩
theorem L8:∃ r,(Bj p).log=p.log++r:=(Nb (vs:=DS p.chain) (l:=p.log)).2
section
variable {w w':World}
theorem Good.setP (h:Good w) {k:Nat}{p q:Place} (hp:w.places[k]?=some p) (hq:An q=true) (hr:Roomy q) (hm:q.me=p.me) (hlog:∃ r,q.log=p.log++r)
  (hgot:∀ (i:Nat) (g:List Ver),q.got[i]?=some g→p.got[i]?=some g∨∃ r,Hj w.places i=g++r):Good (Go.Proofs.YtoihoaaiadagaaaGreat.setP w k q) :=
 ⟨h.ok.setP hp hq hm hlog hgot,fun x hx=>(zby hx).elim (h.room x) fun e=>e ▸ hr⟩
theorem Good.setS (h:Good w) {i:Nat}{s:Sess}{ds:List Done} (hs:FJ s=true) (hd:∀ d∈ds,Qe d=true) (hl:(w.hist.length:Int)+ds.length≤80):Good (Go.Proofs.YtoihoaaiadagaaaGreat.setS w i s ds) :=
 ⟨(h.ok.putS (i:=i) hs).addH hd (by show w.hist.length+ds.length≤80;omega),h.room⟩
theorem Good.setN (h:Good w) {l:List Frame} (hl:l.length≤12) (hf:∀ f∈l,KL w.places f):Good (Go.Proofs.YtoihoaaiadagaaaGreat.setN w l):=⟨h.ok.netN hl hf,h.room⟩
theorem WV {k:Int}{s:ByteArray}{g:Bool}{l:List Tag} (hp:An p=true) (hc:Az p k s g l=true):AY p k s g l=(Bj (DM p 0 (Aw p l) (Bp p k s g l)),⟨Aw p l,p.me⟩):=by rw[LS hp,hc,cond_true]
theorem VJ (h:Good w) {e:Event} (hi:i<w.sess.length) (hs:FJ s=true) (he:Gy w i s e=some w'):Good w':=by
 have h4:=h.ok.s4;unfold Gy at he;split at he
 ·rename_i p hp
  cases hc:(!decide (s.wait.time>0)&&(Az p e.key e.text e.gone s.past&&DY w 1)) with
  | false=>rw[hc] at he;cases he
  | true =>
   rw[hc,cond_true] at he;injection he with he;simp only[Dr,DY,decide_eq_true_eq] at hc;obtain ⟨_,hc,hh⟩:=hc;obtain ⟨hme,hpo⟩:=h.ok.place _ p hp;have hr:=h.room p (zbw hp);obtain ⟨s1,s2,s3,s4,s5,s6⟩:=Dy hs;obtain ⟨q1,q2,q3,q4,q5,q6,q7,q8⟩:=D8 hc;have ht:=Kt hpo s2;have hw:=WV hpo hc;have g1:Good (Go.Proofs.YtoihoaaiadagaaaGreat.setP w s.place.toNat (AY p e.key e.text e.gone s.past).1):=h.setP hp (IZ hpo) (TZ hr hpo) (by rw[hw];rfl) (by rw[hw];exact L8) (fun j g hg=>by rw[hw] at hg;exact .inl hg);have ht1:A2 (Aw p s.past) p.me=true:=by simp[A2,Am];omega
   rw[← he];refine g1.setS ?_ ?_ (by simp only[zbv];exact hh)
   ·rw[hw];exact Ku s1 s2 ht1 q1 (.inl (by show 0<Aw p s.past;omega)) (.inr (by show p.me=s.place;omega))
   ·intro d hd;rw[zbi] at hd;subst hd;rw[hw];exact OZ (by show (0:Int)≤(i:Int)∧(i:Int)≤3;omega) (by show (1:Int)≤1∧(1:Int)≤3;decide) q1 ht1 (.inr (by show 0<Aw p s.past;omega))
 ·cases he
theorem YD (h:Good w) (hi:i<w.sess.length) (hs:FJ s=true) (he:NB w i s=some w'):Good w':=by
 have h4:=h.ok.s4;have h8:=h.ok.h80;obtain ⟨s1,s2,s3,s4,s5,s6⟩:=Dy hs;unfold NB at he;split at he
 ·rename_i p hp
  split at he
  ·rename_i v u hv hu
   cases hc:decide (s.wait.time>0) with
   | false=>rw[hc] at he;cases he
   | true =>
    rw[hc,cond_true] at he;cases hl:FQ v.tag s.wait with
    | true =>
     rw[hl,cond_true] at he;cases hl2:FQ u.tag s.wait with
     | false=>rw[hl2] at he;cases he
     | true =>rw[hl2,cond_true] at he;injection he with he;rw[← he];exact h.setS (Ku s1 s2 rfl (by show (0:Int)≤0∧(0:Int)≤3;decide) (.inr rfl) (.inl rfl)) (by simp) (by simp only[zcp];omega)
    | false =>
     rw[hl,cond_false] at he;cases hr:DY w 1 with
     | false=>rw[hr] at he;cases he
     | true =>rw[hr,cond_true] at he;injection he with he;rw[← he];unfold DY at hr;refine h.setS (Ku s1 (TD s2 s3) rfl (by show (0:Int)≤0∧(0:Int)≤3;decide) (.inr rfl) (.inl rfl)) (fun d hd=>?_) (by simp only[zbv];exact of_decide_eq_true hr);rw[zbi] at hd;subst hd;exact OZ (by show (0:Int)≤(i:Int)∧(i:Int)≤3;omega) (by show (1:Int)≤3∧(3:Int)≤3;decide) s4 s3 (.inr (of_decide_eq_true hc))
  ·cases he
 ·cases he
theorem Ye (hs:A6 s.past=true) (hv:Hg k v=true):A6 (T4 s v k)=true:=by
 unfold T4;cases ht:decide (v.tag.time>0) with
 | false=>exact hs
 | true =>
  have ht:=of_decide_eq_true ht;rcases De hv with g | g
  ·have:=(ED g).1;omega
  ·have hp:=AB g.1;exact TD (Yw hs hp.2.2.2.1) hp.2.2.2.2.1
theorem XA (h:Good w) {e:Event} (hi:i<w.sess.length) (hs:FJ s=true) (he:IX w i s e=some w'):Good w':=by
 have h4:=h.ok.s4;obtain ⟨s1,s2,s3,s4,s5,s6⟩:=Dy hs;unfold IX at he;split at he
 ·rename_i p hp
  cases hc:(!decide (s.wait.time>0)&&(Am e.key 0 3&&(Am e.num 0 ((p.chain.length:Int) - 1)&&DY w 1))) with
  | false=>rw[hc] at he;cases he
  | true =>
   rw[hc,cond_true] at he;simp only[Dr,DY,Am,decide_eq_true_eq] at hc;obtain ⟨_,hk,_,hr⟩:=hc;split at he
   ·rename_i v t hv ht
    cases hl:FQ v.tag t with
    | true=>rw[hl] at he;cases he
    | false =>rw[hl,cond_false] at he;injection he with he;rw[← he];have hc:=FM (h.ok.place _ p hp).2;have hva:=Ya hc hv;refine h.setS (Ku s1 (Ye s2 hva) s3 s4 s5 s6) (fun d hd=>?_) (by simp only[zbv];exact hr);rw[zbi] at hd;subst hd;exact OZ (by show (0:Int)≤(i:Int)∧(i:Int)≤3;omega) (by show (1:Int)≤2∧(2:Int)≤3;decide) hk (S9 hva) (.inl rfl)
   ·cases he
 ·cases he
theorem YE (h:Good w) (hi:i<w.sess.length) (hs:FJ s=true) (he:MA w i s=some w'):Good w':=by
 have h4:=h.ok.s4;obtain ⟨s1,s2,s3,s4,s5,s6⟩:=Dy hs;unfold MA at he;split at he
 ·rename_i p hp
  cases hc:(!decide (s.wait.time>0)&&(BH s.past (AN p.chain)&&DY w 4)) with
  | false=>rw[hc] at he;cases he
  | true =>rw[hc,cond_true] at he;injection he with he;rw[← he];simp only[Dr,DY,decide_eq_true_eq] at hc;have hch:=FM (h.ok.place _ p hp).2;have hst:=Ir hch;refine h.setS (Ku s1 hst s3 s4 s5 s6) (fun d hd=>?_) (by unfold Do;rw[zcx,List.length_zipIdx,hch.four.1];exact hc.2.2);unfold Do at hd;obtain ⟨⟨t,k⟩,hx,rfl⟩:=zcQ.1 hd;rw[zcb] at hx;have hk:=(EY hx).1;rw[hch.four.1] at hk;simp only at hk;exact OZ (by show (0:Int)≤(i:Int)∧(i:Int)≤3;omega) (by show (1:Int)≤2∧(2:Int)≤3;decide) (by show (0:Int)≤(k:Int)∧(k:Int)≤3;omega) ((pastOk_iff.1 hst).2 t (zbw hx)) (.inl rfl)
 ·cases he
theorem XB (h:Good w) {e:Event} (hs:FJ s=true) (he:Uc w i s e=some w'):Good w':=by
 obtain ⟨s1,s2,s3,s4,s5,s6⟩:=Dy hs;unfold Uc at he;cases hc:(!decide (s.wait.time>0)&&Am e.num 0 2) with
 | false=>rw[hc] at he;cases he
 | true =>rw[hc,cond_true] at he;injection he with he;rw[← he];simp only[Dr,Am,decide_eq_true_eq,zbT,decide_eq_false_iff_not] at hc;have:=Dx s3;exact h.setS (Ku hc.2 s2 s3 s4 s5 (.inl (by show s.wait.time=0;omega))) (by simp) (by simp only[zcp];have:=h.ok.h80;omega)
theorem Uu (h:Good w) {e:Event} (he:FU w e=some w'):Good w':=by
 unfold FU at he;cases hc:Am e.at' 0 ((w.sess.length:Int) - 1) with
 | false=>rw[hc] at he;cases he
 | true =>
  rw[hc,cond_true] at he;split at he
  ·rename_i s hs
   have hi:=(EY hs).1;have hso:=h.ok.sess s (zbw hs);cases h1:e.kind==1 with
   | true=>rw[h1,cond_true] at he;exact VJ h hi hso he
   | false =>
    rw[h1,cond_false] at he;cases h2:e.kind==2 with
    | true=>rw[h2,cond_true] at he;exact YD h hi hso he
    | false =>
     rw[h2,cond_false] at he;cases h3:e.kind==3 with
     | true=>rw[h3,cond_true] at he;exact XA h hi hso he
     | false =>
      rw[h3,cond_false] at he;cases h4:e.kind==4 with
      | true=>rw[h4,cond_true] at he;exact YE h hi hso he
      | false=>rw[h4,cond_false] at he;exact XB h hso he
  ·cases he
theorem X5 {q:Place}{e:Event} (h:Ep p e=some q):q.me=p.me∧q.got=p.got∧∃ r,q.log=p.log++r:=by
 unfold Ep at h;have nil:∃ r,p.log=p.log++r:=⟨[],by simp⟩;cases h1:e.kind==6 with
 | true =>
  rw[h1,cond_true] at h;cases hc:C5 p.chain e.num with
  | false=>rw[hc] at h;cases h
  | true =>rw[hc,cond_true] at h;injection h with h;rw[← h];unfold E2;rw[hc,cond_true];exact ⟨rfl,rfl,L8⟩
 | false =>
  rw[h1,cond_false] at h;cases h2:e.kind==7 with
  | true =>
   rw[h2,cond_true] at h;cases hc:Ef p e.num with
   | false=>rw[hc] at h;cases h
   | true =>rw[hc,cond_true] at h;injection h with h;rw[← h];unfold E3;rw[hc,cond_true];exact ⟨rfl,rfl,L8⟩
  | false =>
   rw[h2,cond_false] at h;cases h3:e.kind==8 with
   | true =>
    rw[h3,cond_true] at h;cases hc:FV p.chain with
    | false=>rw[hc] at h;cases h
    | true =>rw[hc,cond_true] at h;injection h with h;rw[← h];exact ⟨rfl,rfl,nil⟩
   | false =>
    rw[h3,cond_false] at h;cases hc:Ba p e.num with
    | false=>rw[hc] at h;cases h
    | true =>
     rw[hc,cond_true] at h;injection h with h;rw[← h];unfold A7;rw[hc,cond_true];unfold JL;split
     ·exact ⟨rfl,rfl,L8⟩
     ·exact ⟨rfl,rfl,nil⟩
theorem Zj {q:Place}{e:Event} (hp:An p=true) (hl:p.log.length≤56) (h:Ep p e=some q):An q=true∧(Roomy p→Roomy q):=by
 unfold Ep at h;cases h1:e.kind==6 with
 | true =>
  rw[h1,cond_true] at h;cases hc:C5 p.chain e.num with
  | false=>rw[hc] at h;cases h
  | true =>rw[hc,cond_true] at h;injection h with h;rw[← h];exact ⟨Zs hp hl,fun hr=>Vi hr hp⟩
 | false =>
  rw[h1,cond_false] at h;cases h2:e.kind==7 with
  | true =>
   rw[h2,cond_true] at h;cases hc:Ef p e.num with
   | false=>rw[hc] at h;cases h
   | true =>rw[hc,cond_true] at h;injection h with h;rw[← h];exact ⟨Zv hp hl,fun hr=>Vl hr hp⟩
  | false =>
   rw[h2,cond_false] at h;cases h3:e.kind==8 with
   | true =>
    rw[h3,cond_true] at h;cases hc:FV p.chain with
    | false=>rw[hc] at h;cases h
    | true =>rw[hc,cond_true] at h;injection h with h;rw[← h];exact ⟨Zt hp,fun hr=>Vj hr hp⟩
   | false =>
    rw[h3,cond_false] at h;cases hc:Ba p e.num with
    | false=>rw[hc] at h;cases h
    | true =>rw[hc,cond_true] at h;injection h with h;rw[← h];exact ⟨Wj hp hl,fun hr=>Vg hr hp⟩
theorem VK (h:Good w) {e:Event} (he:HZ w e=some w'):Good w':=by
 unfold HZ at he;cases hc:Am e.at' 0 2 with
 | false=>rw[hc] at he;cases he
 | true =>
  rw[hc,cond_true] at he;split at he
  ·rename_i p hp
   rw[zbP] at he;obtain ⟨q,hq,rfl⟩:=he;have hpo:=(h.ok.place _ p hp).2;have hr:=h.room p (zbw hp);have hl:=hr.len hpo;obtain ⟨g1,g2⟩:=Zj hpo (by omega) hq;obtain ⟨g3,g4,g5⟩:=X5 hq;exact h.setP hp g1 (g2 hr) g3 g5 fun i g hg=>by rw[g4] at hg;exact .inl hg
  ·cases he
theorem Xz (h:Good w) {e:Event} (he:RI w e=some w'):Good w':=by
 unfold RI at he;cases hc:(Am e.at' 0 2&&(Am e.num 0 2&&(!(e.at'==e.num)&&(decide ((w.net.length:Int)<12)&&Am e.key 0 (((Hj w.places e.at'.toNat).length:Int) - 1))))) with
 | false=>rw[hc] at he;cases he
 | true =>
  rw[hc,cond_true] at he;simp only[Dr,Am,decide_eq_true_eq,zbT,beq_eq_false_iff_ne] at hc;obtain ⟨h1,h2,h3,h4,h5⟩:=hc;split at he
  ·rename_i v hv
   injection he with he;rw[← he];refine h.setN (by simp;omega) fun f hf=>?_;rcases zbc.1 hf with hf | hf
   ·exact h.ok.net f hf
   ·rw[zbi] at hf;subst hf;exact ⟨h1,h2,h3,h5.1,hv⟩
  ·cases he
theorem R9 (h:Good w) {f:Frame} (hf:KL w.places f):Good (Mo w f):=by
 unfold Mo;split
 ·rename_i p hp
  have hpo:=(h.ok.place _ p hp).2;have hr:=h.room p (zbw hp);obtain ⟨h1,h2,h3,h4,h5⟩:=hf;refine h.setP hp (Zu hpo) (Vk hr) ?_ ?_ ?_
  ·unfold G9;cases Hc p f.fro f.at' f.ver<;>rfl
  ·unfold G9;cases Hc p f.fro f.at' f.ver<;>exact ⟨[],by simp[JO]⟩
  ·intro i g hg;unfold G9 at hg;cases hc:Hc p f.fro f.at' f.ver with
   | false=>rw[hc] at hg;exact .inl hg
   | true =>
    rw[hc,cond_true] at hg;simp only[Hc,I4,Am,Dr,decide_eq_true_eq,beq_iff_eq,zbT] at hc;obtain ⟨⟨_,_⟩,_,_,_,q,_,_⟩:=hc;have hg:(p.got.set f.fro.toNat (JP p f.fro.toNat ++ [f.ver]))[i]?=some g:=hg;by_cases hi:f.fro.toNat=i
    ·subst hi;have hlt:f.fro.toNat<p.got.length:=by have:=(EY hg).1;simpa using this
     rw[zbr hlt] at hg;injection hg with hg;have hgo:p.got[f.fro.toNat]?=some (JP p f.fro.toNat):=by rw[I5 hlt];exact Dc hlt
     obtain ⟨r,hr⟩:=h.ok.heard _ p _ _ hp hgo;rw[hr,zbx (by omega),show f.at'.toNat - (JP p f.fro.toNat).length=0 by omega] at h5;cases r with
     | nil=>simp at h5
     | cons v r =>simp only[List.getElem?_cons_zero,Option.some.injEq] at h5;subst h5;exact .inr ⟨r,by rw[hr,← hg];simp⟩
    ·rw[zbh hi] at hg;exact .inl hg
 ·exact h
theorem VL (h:Good w) {e:Event} (he:Nn w e=some w'):Good w':=by
 unfold Nn at he;cases hc:Am e.at' 0 ((w.net.length:Int) - 1) with
 | false=>rw[hc] at he;cases he
 | true =>
  rw[hc,cond_true] at he;split at he
  ·rename_i f hf
   injection he with he;rw[← he];have hfi:=h.ok.net f (zbw hf);have hn:=h.ok.n12;have g1:Good (setN w (w.net.eraseIdx e.at'.toNat)):=h.setN (zba (zcG _ _) hn) fun x hx=>h.ok.net x (zcr hx);cases e.kind==12 with
   | true=>exact g1
   | false =>
    rw[cond_false];cases e.kind==13 with
    | true=>exact R9 h hfi
    | false=>exact R9 g1 hfi
  ·cases he
theorem Xy (h:Good w) {e:Event} (he:Hh w e=some w'):Good w':=by
 unfold Hh at he;cases h1:Am e.kind 1 5 with
 | true=>rw[h1,cond_true] at he;exact Uu h he
 | false =>
  rw[h1,cond_false] at he;cases h2:Am e.kind 6 9 with
  | true=>rw[h2,cond_true] at he;exact VK h he
  | false =>
   rw[h2,cond_false] at he;cases h3:e.kind==10 with
   | true=>rw[h3,cond_true] at he;exact Xz h he
   | false =>
    rw[h3,cond_false] at he;cases h4:Am e.kind 11 13 with
    | true=>rw[h4,cond_true] at he;exact VL h he
    | false=>rw[h4] at he;cases he
theorem Wx (h:Good w) {e:Event}:Good (TA w e):=by
 unfold TA;cases he:Hh w e with
 | none=>exact h
 | some w'=>exact Xy h he
end


theorem Mv.mid {h h':Heap}{A B A' F F':List Nat} (m:Mv h A h' A') (hp:F.Perm (A++B)) (hn:F.Nodup) (hB:∀ y∈B,y<h.length) (hp':F'.Perm (A'++B)):Mv h F h' F':=by have m1:=m.aside (hp.nodup_iff.1 hn) hB;exact (m1.wide fun b hb=>hp.mem_iff.2 hb).lean (hp'.nodup_iff.2 m1.nd) fun b hb=>hp'.mem_iff.1 hb
theorem Wh {A B C:List Nat}:(A++(B++C)).Perm (B++(A++C)):=List.perm_append_comm_assoc A B C
theorem Z8 {A B C D:List Nat}:(A++(B++(C++D))).Perm (C++(A++(B++D))):=(List.Perm.append_left A Wh).trans Wh
theorem Yg {A B C:List Nat}:(A++(B++C)).Perm (C++(A++B)):=by rw[← zbs A B C];exact zb7
theorem Yf {A B C D:List Nat}:(A++(B++(C++D))).Perm (D++(A++(B++C))):=by rw[← zbs B C D,← zbs A (B++C) D];exact zb7
structure WR (lo:Nat) (h:Heap) (w:World) (a1:Pq) (c1:Nq) (a2:Pq) (c2:Nq) (a3:Pq) (c3:Nq) (a4:Pq) (c4:Nq) (F1 F2 F3 F4:List Nat):Prop where
 r1:RPlaces false h [.sl 6 a1 w.places.length c1] w.places F1
 r2:RSesss false h [.sl 5 a2 w.sess.length c2] w.sess F2
 r3:RFrames false h [.sl 9 a3 w.net.length c3] w.net F3
 r4:RDones false h [.sl 5 a4 w.hist.length c4] w.hist F4
 nd:(F1++(F2++(F3++F4))).Nodup
 ge:∀ y∈F1++(F2++(F3++F4)),lo≤y
 hl:lo≤h.length
def Ow (lo:Nat) (h:Heap) (cs:List V) (w:World) (F:List Nat):Prop:=∃ a1 c1 a2 c2 a3 c3 a4 c4 F1 F2 F3 F4,cs=w.cs a1 c1 a2 c2 a3 c3 a4 c4∧F=F1++(F2++(F3++F4))∧WR lo h w a1 c1 a2 c2 a3 c3 a4 c4 F1 F2 F3 F4
section
variable {lo:Nat}{h h':Heap}{w:World}{a1 a2 a3 a4 a:Pq}{c1 c2 c3 c4 c:Nq}{F1 F2 F3 F4:List Nat}
theorem WR.at (H:WR lo h w a1 c1 a2 c2 a3 c3 a4 c4 F1 F2 F3 F4):Ow lo h (w.cs a1 c1 a2 c2 a3 c3 a4 c4) w (F1++(F2++(F3++F4))):=⟨a1,c1,a2,c2,a3,c3,a4,c4,F1,F2,F3,F4,rfl,rfl,H⟩
theorem WR.lt (H:WR lo h w a1 c1 a2 c2 a3 c3 a4 c4 F1 F2 F3 F4):(∀ y∈F1,y<h.length)∧(∀ y∈F2,y<h.length)∧(∀ y∈F3,y<h.length)∧∀ y∈F4,y<h.length :=
 ⟨rplaces_ok.bd _ _ _ _ H.r1,rsesss_ok.bd _ _ _ _ H.r2,rframes_ok.bd _ _ _ _ H.r3,rdones_ok.bd _ _ _ _ H.r4⟩
theorem WR.bd (H:WR lo h w a1 c1 a2 c2 a3 c3 a4 c4 F1 F2 F3 F4):∀ y∈F1++(F2++(F3++F4)),y<h.length:=fun y hy=>by
 obtain ⟨g1,g2,g3,g4⟩:=H.lt;simp only[zbc] at hy;rcases hy with hy | hy | hy | hy
 ·exact g1 y hy
 ·exact g2 y hy
 ·exact g3 y hy
 ·exact g4 y hy
theorem Tx (h:(F1++(F2++(F3++F4))).Nodup):(F1.Nodup∧F2.Nodup∧F3.Nodup∧F4.Nodup)∧(∀ y∈F1,y∉F2)∧(∀ y∈F1,y∉F3)∧(∀ y∈F1,y∉F4)∧(∀ y∈F2,y∉F3)∧(∀ y∈F2,y∉F4)∧∀ y∈F3,y∉F4:=by simp only[zbd,zbc] at h;obtain ⟨h1,⟨h2,⟨h3,h4,h5⟩,h6⟩,h7⟩:=h;exact ⟨⟨h1,h2,h3,h4⟩,fun y hy hm=>h7 y hy y (.inl hm) rfl,fun y hy hm=>h7 y hy y (.inr (.inl hm)) rfl,fun y hy hm=>h7 y hy y (.inr (.inr hm)) rfl,fun y hy hm=>h6 y hy y (.inl hm) rfl,fun y hy hm=>h6 y hy y (.inr hm) rfl,fun y hy hm=>h5 y hy y hm rfl⟩
theorem WR.up1 (H:WR lo h w a1 c1 a2 c2 a3 c3 a4 c4 F1 F2 F3 F4) {l:List Place}{G:List Nat} (m:Mv h F1 h' G) (r:RPlaces false h' [.sl 6 a l.length c] l G) :
  WR lo h' ⟨l,w.sess,w.net,w.hist⟩ a c a2 c2 a3 c3 a4 c4 G F2 F3 F4∧Mv h (F1++(F2++(F3++F4))) h' (G++(F2++(F3++F4))):=by
 obtain ⟨_,d12,d13,d14,d23,d24,d34⟩:=Tx H.nd;have m1:Mv h (F1++(F2++(F3++F4))) h' (G++(F2++(F3++F4))):=m.mid (.refl _) H.nd (fun y hy=>H.bd y (by simp only[zbc] at hy ⊢;grind)) (.refl _);exact ⟨⟨r,m.keep rsesss_ok H.r2 (fun b hb hm=>d12 b hm hb),m.keep rframes_ok H.r3 (fun b hb hm=>d13 b hm hb),m.keep rdones_ok H.r4 (fun b hb hm=>d14 b hm hb),m1.nd,m1.ge H.hl H.ge,zba H.hl m.le⟩,m1⟩
theorem WR.up2 (H:WR lo h w a1 c1 a2 c2 a3 c3 a4 c4 F1 F2 F3 F4) {l:List Sess}{G:List Nat} (m:Mv h F2 h' G) (r:RSesss false h' [.sl 5 a l.length c] l G) :
  WR lo h' ⟨w.places,l,w.net,w.hist⟩ a1 c1 a c a3 c3 a4 c4 F1 G F3 F4∧Mv h (F1++(F2++(F3++F4))) h' (F1++(G++(F3++F4))):=by
 obtain ⟨_,d12,d13,d14,d23,d24,d34⟩:=Tx H.nd;have m1:Mv h (F1++(F2++(F3++F4))) h' (F1++(G++(F3++F4))):=m.mid Wh H.nd (fun y hy=>H.bd y (by simp only[zbc] at hy ⊢;grind)) Wh;exact ⟨⟨m.keep rplaces_ok H.r1 (fun b hb hm=>d12 b hb hm),r,m.keep rframes_ok H.r3 (fun b hb hm=>d23 b hm hb),m.keep rdones_ok H.r4 (fun b hb hm=>d24 b hm hb),m1.nd,m1.ge H.hl H.ge,zba H.hl m.le⟩,m1⟩
theorem WR.up3 (H:WR lo h w a1 c1 a2 c2 a3 c3 a4 c4 F1 F2 F3 F4) {l:List Frame}{G:List Nat} (m:Mv h F3 h' G) (r:RFrames false h' [.sl 9 a l.length c] l G) :
  WR lo h' ⟨w.places,w.sess,l,w.hist⟩ a1 c1 a2 c2 a c a4 c4 F1 F2 G F4∧Mv h (F1++(F2++(F3++F4))) h' (F1++(F2++(G++F4))):=by
 obtain ⟨_,d12,d13,d14,d23,d24,d34⟩:=Tx H.nd;have m1:Mv h (F1++(F2++(F3++F4))) h' (F1++(F2++(G++F4))):=m.mid Z8 H.nd (fun y hy=>H.bd y (by simp only[zbc] at hy ⊢;grind)) Z8;exact ⟨⟨m.keep rplaces_ok H.r1 (fun b hb hm=>d13 b hb hm),m.keep rsesss_ok H.r2 (fun b hb hm=>d23 b hb hm),r,m.keep rdones_ok H.r4 (fun b hb hm=>d34 b hm hb),m1.nd,m1.ge H.hl H.ge,zba H.hl m.le⟩,m1⟩
theorem WR.up4 (H:WR lo h w a1 c1 a2 c2 a3 c3 a4 c4 F1 F2 F3 F4) {l:List Done}{G:List Nat} (m:Mv h F4 h' G) (r:RDones false h' [.sl 5 a l.length c] l G) :
  WR lo h' ⟨w.places,w.sess,w.net,l⟩ a1 c1 a2 c2 a3 c3 a c F1 F2 F3 G∧Mv h (F1++(F2++(F3++F4))) h' (F1++(F2++(F3++G))):=by
 obtain ⟨_,d12,d13,d14,d23,d24,d34⟩:=Tx H.nd;have m1:Mv h (F1++(F2++(F3++F4))) h' (F1++(F2++(F3++G))):=m.mid Yf H.nd (fun y hy=>H.bd y (by simp only[zbc] at hy ⊢;grind)) Yf;exact ⟨⟨m.keep rplaces_ok H.r1 (fun b hb hm=>d14 b hb hm),m.keep rsesss_ok H.r2 (fun b hb hm=>d24 b hb hm),m.keep rframes_ok H.r3 (fun b hb hm=>d34 b hb hm),r,m1.nd,m1.ge H.hl H.ge,zba H.hl m.le⟩,m1⟩
theorem WR.up0 (H:WR lo h w a1 c1 a2 c2 a3 c3 a4 c4 F1 F2 F3 F4) (m:Mv h [] h' []):WR lo h' w a1 c1 a2 c2 a3 c3 a4 c4 F1 F2 F3 F4∧Mv h (F1++(F2++(F3++F4))) h' (F1++(F2++(F3++F4))) :=
 ⟨⟨m.keep0 rplaces_ok H.r1,m.keep0 rsesss_ok H.r2,m.keep0 rframes_ok H.r3,m.keep0 rdones_ok H.r4,H.nd,H.ge,zba H.hl m.le⟩,m.aside (by simpa using H.nd) H.bd⟩
theorem WR.place (H:WR lo h w a1 c1 a2 c2 a3 c3 a4 c4 F1 F2 F3 F4) {k:Nat} (hk:k<w.places.length):∃ b i s1 s2 s3 b1 d1 b2 d2 b3 d3 G1 G2 G3,a1=some (b,i) ∧
  ld h b (i+k) 0 6=some [Iv w.places[k].me,Iv w.places[k].clock,s1,s2,s3,.bool w.places[k].fell]∧ld h b (i+k) 2 1=some [s1]∧ld h b (i+k) 3 1=some [s2] ∧
  (∀ {R':Type} (K:Pq→Nat→Nq→Option R'),eS 2 s1 K=K b1 w.places[k].chain.length d1)∧(∀ {R':Type} (K:Pq→Nat→Nq→Option R'),eS 6 s2 K=K b2 w.places[k].log.length d2) ∧
  (∀ {R':Type} (K:Pq→Nat→Nq→Option R'),eS 1 s3 K=K b3 w.places[k].got.length d3) ∧
  RNodes false h [.sl 2 b1 w.places[k].chain.length d1] w.places[k].chain G1∧RVers false h [.sl 6 b2 w.places[k].log.length d2] w.places[k].log G2∧RVss false h [.sl 1 b3 w.places[k].got.length d3] w.places[k].got G3 ∧
  (G1++(G2++G3)).Nodup∧(∀ y∈G1++(G2++G3),lo≤y∧y<h.length∧y∈F1) ∧
  ∀ h1 G p' cs',Mv h (G1++(G2++G3)) h1 G→RPlace false h1 cs' p' G→cs'.length=6 →
   ∃ h2 F1',st lo h1 b (i+k) 0 cs'=some h2∧WR lo h2 (setP w k p') a1 c1 a2 c2 a3 c3 a4 c4 F1' F2 F3 F4∧Mv h (F1++(F2++(F3++F4))) h2 (F1'++(F2++(F3++F4))):=by
 obtain ⟨⟨n1,_⟩,_⟩:=Tx H.nd;obtain ⟨b,i,rs,row,G,ha,hbF,hbG,hb,hrow,hel,hGF,hGn,_,put⟩:=Sli.at (lo:=lo) rplace_ok H.r1 hk n1 (fun y hy=>H.ge y (by simp[hy]));obtain ⟨s1,s2,s3,b1,d1,b2,d2,b3,d3,G1,G2,G3,rfl,rfl,e1,e2,e3,g1,g2,g3⟩:=hel.form;refine ⟨b,i,s1,s2,s3,b1,d1,b2,d2,b3,d3,G1,G2,G3,ha,by rw[Bx hb hrow];exact HL rfl,by rw[Bx hb hrow];rfl,by rw[Bx hb hrow];rfl,e1,e2,e3,g1,g2,g3,hGn,fun y hy=>⟨H.ge y (by simp[hGF y hy]),H.lt.1 y (hGF y hy),hGF y hy⟩,fun h1 G p' cs' m hx hc=>?_⟩;obtain ⟨h2,F',e,r,m2,_⟩:=put h1 G 0 cs' cs' p' m (Db (by rw[hc];rfl)) hx;have hlen:(w.places.set k p').length=w.places.length:=by simp
 rw[← hlen] at r;obtain ⟨q1,q2⟩:=H.up1 m2 r;exact ⟨h2,F',e,q1,q2⟩
end
section
variable {lo:Nat}{h:Heap}{p:Place}{b1 b2 b3:Pq}{d1 d2 d3:Nq}{G1 G2 G3:List Nat}
theorem Yh {f:Nat} (g1:RNodes false h [.sl 2 b1 p.chain.length d1] p.chain G1) (g2:RVers false h [.sl 6 b2 p.log.length d2] p.log G2) (g3:RVss false h [.sl 1 b3 p.got.length d3] p.got G3) (hpo:An p=true) (hc:C5 p.chain (f:Int)=true)
  (nd:(G1++(G2++G3)).Nodup) (hlo:∀ y∈G1++(G2++G3),lo≤y) (hl:lo≤h.length) :
  ∃ a6 c6 h5 h6 G,Ad lo 103 [.agg [.sl 2 b1 p.chain.length d1],Iv (f:Nat)] h=some (.agg [.sl 2 b1 p.chain.length d1],h5) ∧
   Ad lo 104 [.agg [Iv p.me,Iv p.clock,.sl 2 b1 p.chain.length d1,.sl 6 b2 p.log.length d2,.sl 1 b3 p.got.length d3,.bool p.fell]] h5=some (.agg ((E2 p f).cs b1 d1 a6 c6 b3 d3),h6) ∧
   RPlace false h6 ((E2 p f).cs b1 d1 a6 c6 b3 d3) (E2 p f) G∧Mv h (G1++(G2++G3)) h6 G:=by
 have hn:=(Ed (B3 hpo) (by decide) (by decide) (by decide)).1;have hb:∀ y∈G1++(G2++G3),y<h.length:=fun y hy=>by
  simp only[zbc] at hy;rcases hy with hy | hy | hy
  ·exact rnodes_ok.bd _ _ _ _ g1 y hy
  ·exact rvers_ok.bd _ _ _ _ g2 y hy
  ·exact rvss_ok.bd _ _ _ _ g3 y hy
 have hc':=hc;unfold C5 at hc';rw[Dr] at hc';obtain ⟨hw,hps⟩:=hc';simp only[Am,Dr,decide_eq_true_eq] at hw;rw[Be] at hps;have hk':f<p.chain.length:=by omega
 rw[Ll hk',Dr,decide_eq_true_eq] at hps;have nd':=nd;rw[zbd,zbd] at nd';obtain ⟨nd1,⟨nd2,nd3,Tx⟩,nd5⟩:=nd';obtain ⟨h5,F5,e5,r5,m5⟩:=NX (lo:=lo) g1 (by omega) hps.1 nd1 (fun y hy=>hlo y (by simp[hy])) hl hn.1 (Wi hpo);have g25:=m5.keep rvers_ok g2 fun y hy hm=>nd5 y hm y (by simp[hy]) rfl;have ht:=Wb (W0 (k:=f) (B3 hpo)) (by decide) (by decide) (by decide);rw[← passN_len (k:=f)] at r5;have d1':=(Pb m5 (Mv.refl nd2) nd hb).2.1;obtain ⟨a6,c6,h6,F6,e6,r6,m6⟩:=Pi (lo:=lo) (p:=Ob p f) (a3:=b3) (c3:=d3) r5 g25 (by show 0<(HD _ _).length;rw[passN_len];omega) ht d1' nd2 (fun y hy=>hlo y (by simp[hy])) (zba hl m5.le);have hcs:(Ob p f).cs b1 d1 b2 d2 b3 d3 = [Iv p.me,Iv p.clock,.sl 2 b1 p.chain.length d1,.sl 6 b2 p.log.length d2,.sl 1 b3 p.got.length d3,.bool p.fell]:=by simp only[Place.cs,Ob,passN_len]
 rw[hcs] at e6;obtain ⟨m7,x1,x2,x3⟩:=Pb m5 m6 nd hb;have hx:E2 p (f:Int)=Bj (Ob p f):=by unfold E2;rw[hc,cond_true,Be]
 rw[hx];exact ⟨a6,c6,h5,h6,F5++(F6++G3),e5,e6,⟨_,_,_,F5,F6,G3,rfl,rfl,m6.keep rnodes_ok r5 x1,r6,m6.keep rvss_ok (m5.keep rvss_ok g3 x2) x3⟩,m7⟩
theorem YI {f:Nat} (g1:RNodes false h [.sl 2 b1 p.chain.length d1] p.chain G1) (g2:RVers false h [.sl 6 b2 p.log.length d2] p.log G2) (g3:RVss false h [.sl 1 b3 p.got.length d3] p.got G3) (hpo:An p=true) (hc:Ef p (f:Int)=true)
  (nd:(G1++(G2++G3)).Nodup) (hlo:∀ y∈G1++(G2++G3),lo≤y) (hl:lo≤h.length) :
  ∃ a5 c5 a6 c6 h5 h6 G,Ad lo 118 [.agg [.sl 2 b1 p.chain.length d1],Iv (f:Nat)] h=some (.agg [.sl 2 a5 (Cq p.chain f).length c5],h5) ∧
   Ad lo 104 [.agg [Iv p.me,Iv p.clock,.sl 2 a5 (Cq p.chain f).length c5,.sl 6 b2 p.log.length d2,.sl 1 b3 p.got.length d3,.bool true]] h5=some (.agg ((E3 p f).cs a5 c5 a6 c6 b3 d3),h6) ∧
   RPlace false h6 ((E3 p f).cs a5 c5 a6 c6 b3 d3) (E3 p f) G∧Mv h (G1++(G2++G3)) h6 G:=by
 have hn:=(Ed (B3 hpo) (by decide) (by decide) (by decide)).1;have hb:∀ y∈G1++(G2++G3),y<h.length:=fun y hy=>by
  simp only[zbc] at hy;rcases hy with hy | hy | hy
  ·exact rnodes_ok.bd _ _ _ _ g1 y hy
  ·exact rvers_ok.bd _ _ _ _ g2 y hy
  ·exact rvss_ok.bd _ _ _ _ g3 y hy
 have hc':=hc;unfold Ef Ja at hc';simp only[Dr,Am,decide_eq_true_eq] at hc';obtain ⟨hfl,hw,hl1⟩:=hc';have hk':f<p.chain.length:=by omega
 have nd':=nd;rw[zbd,zbd] at nd';obtain ⟨nd1,⟨nd2,nd3,Tx⟩,nd5⟩:=nd';obtain ⟨a5,c5,h5,F5,e5,r5,m5⟩:=NZ (lo:=lo) g1 hk' hl1 (RU (AK hpo).2.2.2.1 (by omega)) nd1 (fun y hy=>hlo y (by simp[hy])) hl hn.1.1 (fun x hx=>(Wi hpo x hx).1);have g25:=m5.keep rvers_ok g2 fun y hy hm=>nd5 y hm y (by simp[hy]) rfl;have ht:=Wb (W1 (k:=f) (B3 hpo)) (by decide) (by decide) (by decide);have d1':=(Pb m5 (Mv.refl nd2) nd hb).2.1;obtain ⟨a6,c6,h6,F6,e6,r6,m6⟩:=Pi (lo:=lo) (p:=Sd p f) (a3:=b3) (c3:=d3) r5 g25 (by show 0<(Cq _ _).length;rw[KC hk' hl1];omega) ht d1' nd2 (fun y hy=>hlo y (by simp[hy])) (zba hl m5.le);have hcs:(Sd p f).cs a5 c5 b2 d2 b3 d3 = [Iv p.me,Iv p.clock,.sl 2 a5 (Cq p.chain f).length c5,.sl 6 b2 p.log.length d2,.sl 1 b3 p.got.length d3,.bool true]:=rfl;rw[hcs] at e6;obtain ⟨m7,x1,x2,x3⟩:=Pb m5 m6 nd hb;have hx:E3 p (f:Int)=Bj (Sd p f):=by unfold E3;rw[hc,cond_true,Be]
 rw[hx];exact ⟨a5,c5,a6,c6,h5,h6,F5++(F6++G3),e5,e6,⟨_,_,_,F5,F6,G3,rfl,rfl,m6.keep rnodes_ok r5 x1,r6,m6.keep rvss_ok (m5.keep rvss_ok g3 x2) x3⟩,m7⟩
theorem Yv (g1:RNodes false h [.sl 2 b1 p.chain.length d1] p.chain G1) (g2:RVers false h [.sl 6 b2 p.log.length d2] p.log G2) (g3:RVss false h [.sl 1 b3 p.got.length d3] p.got G3) (hpo:An p=true) (hc:FV p.chain=true)
  (nd:(G1++(G2++G3)).Nodup) (hlo:∀ y∈G1++(G2++G3),lo≤y) (hl:lo≤h.length) :
  ∃ a5 c5 h5 G,Ad lo 249 [.agg [.sl 2 b1 p.chain.length d1]] h=some (.agg [.sl 2 a5 (Ks p.chain).length c5],h5) ∧
   RPlace false h5 ((Mf p).cs a5 c5 b2 d2 b3 d3) (Mf p) G∧Mv h (G1++(G2++G3)) h5 G:=by
 have hn:=(Ed (B3 hpo) (by decide) (by decide) (by decide)).1;have hb:∀ y∈G1++(G2++G3),y<h.length:=fun y hy=>by
  simp only[zbc] at hy;rcases hy with hy | hy | hy
  ·exact rnodes_ok.bd _ _ _ _ g1 y hy
  ·exact rvers_ok.bd _ _ _ _ g2 y hy
  ·exact rvss_ok.bd _ _ _ _ g3 y hy
 have h0:=EG hpo;have nd':=nd;rw[zbd,zbd] at nd';obtain ⟨nd1,⟨nd2,nd3,Tx⟩,nd5⟩:=nd';obtain ⟨a5,c5,h5,F5,e5,r5,m5⟩:=NY (lo:=lo) g1 h0 hn.1 nd1 (fun y hy=>hlo y (by simp[hy])) hl;have hj:Ks p.chain=Ie p.chain:=by unfold Ks;rw[hc];rfl
 have hjl:(Ie p.chain).length=p.chain.length+1:=by rw[GH h0];simp
 obtain ⟨m7,x1,x2,x3⟩:=Pb m5 (Mv.refl nd2) nd hb;rw[← hjl,← hj] at e5 r5;refine ⟨a5,c5,h5,F5++(G2++G3),e5,⟨_,_,_,F5,G2,G3,rfl,rfl,r5,m5.keep rvers_ok g2 fun y hy hm=>nd5 y hm y (by simp[hy]) rfl,m5.keep rvss_ok g3 x2⟩,m7⟩
end


variable {p:Place}
section
variable {lo:Nat}{h h':Heap}{w:World}{a1 a2 a3 a4 a:Pq}{c1 c2 c3 c4 c:Nq}{F1 F2 F3 F4:List Nat}
theorem Wf {k:Nat}:(setP w k p).cs a1 c1 a2 c2 a3 c3 a4 c4=w.cs a1 c1 a2 c2 a3 c3 a4 c4:=by simp only[World.cs,setP,zbz]
theorem Good.at (hg:Good w) {k:Nat} (hk:k<w.places.length):An w.places[k]=true∧w.places[k].me=(k:Int)∧Roomy w.places[k]:=by have:=hg.ok.place k _ (Dc hk);exact ⟨this.2,this.1,hg.room _ (zbb hk)⟩
theorem X2 {f:Nat}{b1 b2 b3:Pq}{d1 d2 d3:Nq}{G1 G2 G3:List Nat} (g1:RNodes false h [.sl 2 b1 p.chain.length d1] p.chain G1) (g2:RVers false h [.sl 6 b2 p.log.length d2] p.log G2) (g3:RVss false h [.sl 1 b3 p.got.length d3] p.got G3) (hpo:An p=true) (hc:Ba p (f:Int)=true)
  (nd:(G1++(G2++G3)).Nodup) (hlo:∀ y∈G1++(G2++G3),lo≤y) (hl:lo≤h.length) :
  ∃ a1' c1' a2' c2' a3' c3' h' G,Ad lo 98 [.agg (p.cs b1 d1 b2 d2 b3 d3),Iv (f:Nat)] h=some (.agg ((A7 p (f:Int)).cs a1' c1' a2' c2' a3' c3'),h')∧RPlace false h' ((A7 p (f:Int)).cs a1' c1' a2' c2' a3' c3') (A7 p (f:Int)) G∧Mv h (G1++(G2++G3)) h' G:=by
 have hn:=(Ed (B3 hpo) (by decide) (by decide) (by decide)).1;have hx:A7 p (f:Int)=JL p f:=by unfold A7;rw[hc,cond_true,Be]
 unfold Ba at hc;rw[Dr,Be] at hc;obtain ⟨hw,ht⟩:=hc;simp only[Am,Dr,decide_eq_true_eq] at hw;have h3:=(AK hpo).2.2.1;obtain ⟨a2',c2',h',F',e,⟨_,_,_,_,_,_,ecs,r⟩,m⟩:=NU (lo:=lo) (f:=f) g1 g2 g3 hpo (by omega) hn ht nd hlo hl;rw[hx];exact ⟨_,_,_,_,_,_,h',F',e,r,m⟩
theorem Sr {e:Event} (H:WR lo h w a1 c1 a2 c2 a3 c3 a4 c4 F1 F2 F3 F4) (hg:Good w) :
  ∃ cs' h' F',Ad lo 213 [.agg (w.cs a1 c1 a2 c2 a3 c3 a4 c4),.agg e.cs] h=some (.tup [.agg cs',.bool (HZ w e).isSome],h')∧Ow lo h' cs' ((HZ w e).getD w) F'∧Mv h (F1++(F2++(F3++F4))) h' F'∧((HZ w e)=none→cs'=w.cs a1 c1 a2 c2 a3 c3 a4 c4):=by
 obtain ⟨kind,at',num,key,text,gone⟩:=e;suffices hk:∃ cs' h' F',_=some (V.tup [.agg cs',.bool (HZ w ⟨kind,at',num,key,text,gone⟩).isSome],h')∧Ow lo h' cs' ((HZ w ⟨kind,at',num,key,text,gone⟩).getD w) F'∧Mv h (F1++(F2++(F3++F4))) h' F'∧((HZ w ⟨kind,at',num,key,text,gone⟩)=none→cs'=w.cs a1 c1 a2 c2 a3 c3 a4 c4) from by obtain ⟨cs',h',F',e,hr⟩:=hk;exact ⟨cs',h',F',Qn e,hr⟩
 rw[Bf,Ac,As];unfold HZ;cases hat:Am at' 0 2 with
 | false =>rw[Au];exact ⟨_,h,_,rfl,H.at,Mv.refl H.nd,fun _=>rfl⟩
 | true =>
 simp only[Am,Dr,decide_eq_true_eq] at hat;obtain ⟨k,rfl⟩:∃ k:Nat,at'=(k:Int):=⟨at'.toNat,by omega⟩;have hk:k<w.places.length:=by have:=hg.ok.p3;omega
 obtain ⟨hpo,hme,hro⟩:=hg.at hk;have hn:=(Ed (B3 hpo) (by decide) (by decide) (by decide)).1;obtain ⟨b,i,s1,s2,s3,b1,d1,b2,d2,b3,d3,G1,G2,G3,rfl,hld,_,_,e1,e2,e3,g1,g2,g3,nd,hF,put⟩:=H.place hk;have hFlo:∀ y∈G1++(G2++G3),lo≤y:=fun y hy=>(hF y hy).1
 rw[Al,Ae hk,Ag,Be,hld,Ag,Aa,Ab,Aa,Ab,Aa,e1,Aa,e2,Aa,e3,Aa,At,Af,cond_true,Dc hk];simp only[];generalize hp:w.places[k]=p at hpo hme hro hn hld e1 e2 e3 g1 g2 g3 put;have done:∀ (h1:Heap) (G:List Nat) (p':Place) (cs':List V),Mv h (G1++(G2++G3)) h1 G→RPlace false h1 cs' p' G→cs'.length=6 →
   ∃ h2 F',st lo h1 b (i+k) 0 cs'=some h2∧Ow lo h2 (w.cs (some (b,i)) c1 a2 c2 a3 c3 a4 c4) (setP w k p') F'∧Mv h (F1++(F2++(F3++F4))) h2 F':=fun h1 G p' cs' m r hc=>by
  obtain ⟨h2,F1',e,q,m2⟩:=put h1 G p' cs' m r hc;refine ⟨h2,_,e,?_,m2⟩;rw[← Wf (k:=k) (p:=p')];exact q.at
 have hsame:setP w k p=w:=by unfold setP;rw[← hp,zcI]
 obtain ⟨h9,F9,e9,W9,m9⟩:=done h _ p (p.cs b1 d1 b2 d2 b3 d3) (Mv.refl nd) ⟨_,_,_,G1,G2,G3,rfl,rfl,g1,g2,g3⟩ rfl;rw[hsame] at W9;simp only[Place.cs] at e9;cases h6:kind==6 with
 | true =>
  rw[Al,Pn g1 hn.1.1,Ac,As];cases hc:C5 p.chain num with
  | false =>
   have hs:Ep p ⟨kind,(k:Nat),num,key,text,gone⟩=none:=by simp only[Ep,h6,hc,cond_true,cond_false]
   rw[Au,Ae hk,Ag,e9,Ag,hs];exact ⟨_,h9,F9,rfl,W9,m9,fun _=>rfl⟩
  | true =>
   obtain ⟨f,rfl⟩:∃ f:Nat,num=(f:Int):=by unfold C5 at hc;simp only[Am,Dr,decide_eq_true_eq] at hc;exact ⟨num.toNat,by omega⟩
   have hs:Ep p ⟨kind,(k:Nat),(f:Nat),key,text,gone⟩=some (E2 p f):=by simp only[Ep,h6,hc,cond_true]
   obtain ⟨a6,c6,h5,h6',G,e5,e6,r6,m6⟩:=Yh (lo:=lo) g1 g2 g3 hpo hc nd hFlo H.hl;obtain ⟨h8,F8,e8,W8,m8⟩:=done h6' G _ _ m6 r6 rfl;simp only[Place.cs] at e6 e8;rw[Al,e5,Ac,Ap,Aa,Ah,Af,e6,Ac,Ap,Aa,Ab,Aa,Ab,Aa,Ah,Aa,Ah,Aa,Ah,Aa,At,Af,Ae hk,Ag,e8,Ag,hs];exact ⟨_,h8,F8,rfl,W8,m8,fun g=>by first | cases g | (simp at g)⟩
 | false =>
 rw[Au];cases h7:kind==7 with
 | true =>
  have ec:=Pl (lo:=lo) (h:=h) (p:=p) (k:=num) (a1:=b1) (c1:=d1) (a2:=b2) (c2:=d2) (a3:=b3) (c3:=d3) hn.1.1;simp only[Place.cs] at ec;rw[Al,ec,Ac,As];cases hc:Ef p num with
  | false =>
   have hs:Ep p ⟨kind,(k:Nat),num,key,text,gone⟩=none:=by simp only[Ep,h6,h7,hc,cond_true,cond_false]
   rw[Au,Ae hk,Ag,e9,Ag,hs];exact ⟨_,h9,F9,rfl,W9,m9,fun _=>rfl⟩
  | true =>
   obtain ⟨f,rfl⟩:∃ f:Nat,num=(f:Int):=by unfold Ef Ja at hc;simp only[Am,Dr,decide_eq_true_eq] at hc;exact ⟨num.toNat,by omega⟩
   have hs:Ep p ⟨kind,(k:Nat),(f:Nat),key,text,gone⟩=some (E3 p f):=by simp only[Ep,h6,h7,hc,cond_true,cond_false]
   obtain ⟨a5,c5,a6,c6,h5,h6',G,e5,e6,r6,m6⟩:=YI (lo:=lo) g1 g2 g3 hpo hc nd hFlo H.hl;obtain ⟨h8,F8,e8,W8,m8⟩:=done h6' G _ _ m6 r6 rfl;simp only[Place.cs] at e6 e8;rw[Al,e5,Ac,Ap,Aa,Ah,Af,e6,Ac,Ap,Aa,Ab,Aa,Ab,Aa,Ah,Aa,Ah,Aa,Ah,Aa,At,Af,Ae hk,Ag,e8,Ag,hs];exact ⟨_,h8,F8,rfl,W8,m8,fun g=>by first | cases g | (simp at g)⟩
 | false =>
 rw[Au];cases h8:kind==8 with
 | true =>
  rw[Al];cases hc:FV p.chain with
  | false =>
   have hs:Ep p ⟨kind,(k:Nat),num,key,text,gone⟩=none:=by simp only[Ep,h6,h7,h8,hc,cond_true,cond_false]
   unfold FV at hc;rw[decide_eq_false_iff_not] at hc;rw[Aj hc,Ae hk,Ag,e9,Ag,hs];exact ⟨_,h9,F9,rfl,W9,m9,fun _=>rfl⟩
  | true =>
   have hs:Ep p ⟨kind,(k:Nat),num,key,text,gone⟩=some (Mf p):=by simp only[Ep,h6,h7,h8,hc,cond_true,cond_false]
   obtain ⟨a5,c5,h5,G,e5,r6,m6⟩:=Yv (lo:=lo) g1 g2 g3 hpo hc nd hFlo H.hl;obtain ⟨h8',F8,e8,W8,m8⟩:=done h5 G _ _ m6 r6 rfl;unfold FV at hc;rw[decide_eq_true_eq] at hc;simp only[Place.cs,Mf] at e8;rw[Ak hc,e5,Ac,Ap,Aa,Ah,Af,Ae hk,Ag,e8,Ag,hs];exact ⟨_,h8',F8,rfl,W8,m8,fun g=>by first | cases g | (simp at g)⟩
 | false =>
 rw[Au,Bf,Ac,As];cases hw:Am num 0 2 with
 | false =>
  have hs:Ep p ⟨kind,(k:Nat),num,key,text,gone⟩=none:=by simp only[Ep,h6,h7,h8,Ba,hw,zcn,cond_true,cond_false]
  rw[Au,Ae hk,Ag,e9,Ag,hs];exact ⟨_,h9,F9,rfl,W9,m9,fun _=>rfl⟩
 | true =>
  have hw':=hw;simp only[Am,Dr,decide_eq_true_eq] at hw';obtain ⟨f,rfl⟩:∃ f:Nat,num=(f:Int):=⟨num.toNat,by omega⟩;have h3:=(AK hpo).2.2.1;have ec:=JZ (lo:=lo) (f:=f) (a2:=b2) (c2:=d2) g1 g3 hpo (by omega) hn;simp only[Place.cs] at ec;rw[Al,ec,Ac,As];cases hc:HC p f with
  | false =>
   have hs:Ep p ⟨kind,(k:Nat),(f:Nat),key,text,gone⟩=none:=by simp only[Ep,h6,h7,h8,Ba,hw,Be,hc,zco,cond_true,cond_false]
   rw[Au,Ae hk,Ag,e9,Ag,hs];exact ⟨_,h9,F9,rfl,W9,m9,fun _=>rfl⟩
  | true =>
   have hct:Ba p (f:Int)=true:=by unfold Ba;rw[hw,Be,hc];rfl
   have hs:Ep p ⟨kind,(k:Nat),(f:Nat),key,text,gone⟩=some (A7 p f):=by simp only[Ep,h6,h7,h8,hct,cond_true,cond_false]
   obtain ⟨x1,y1,x2,y2,x3,y3,h5,G,e5,r6,m6⟩:=X2 (lo:=lo) g1 g2 g3 hpo hct nd hFlo H.hl;obtain ⟨h8',F8,e8,W8,m8⟩:=done h5 G _ _ m6 r6 rfl;simp only[Place.cs] at e5 e8;rw[Al,e5,Ac,Ap,Aa,Ab,Aa,Ab,Aa,Ah,Aa,Ah,Aa,Ah,Aa,At,Af,Ae hk,Ag,e8,Ag,hs];exact ⟨_,h8',F8,rfl,W8,m8,fun g=>by first | cases g | (simp at g)⟩
end


variable {α:Type}{El:Rel α}{h:Heap}{a:Pq}{c:Nq}{F:List Nat}{l:List α}{xs:List (List V)}{Fs:List (List Nat)}
theorem XH (ok:El.Ok) {lo R ee bytes:Nat}{k:Nat} (hs:Sli false R ee El h [.sl R a l.length c] l F) (hk:k<l.length) (hnd:F.Nodup) (hlo:∀ b∈F,lo≤b) (hl:lo≤h.length) (hby:0<bytes) (hn:l.length*bytes≤140737488355328) :
  ∃ a' c' h' F',(∀ {T:Type} (K:V→Heap→Option T),(Ax a l.length c none (some (Iv (k:Nat))) none fun a_0 n_1 c_2=>Av R (h ++ [.rows R ee false []]) (.sl R a_0 n_1 c_2) fun x_3=>Dd lo ee R bytes (.sl R (some ((List.length h),0)) 0 (some 0)) x_3 (h ++ [.rows R ee false []]) fun v_4 h_5=>eS R (v_4) fun a_6 n_7 c_8 =>
    Ax a l.length c (some (Iv ((k+1:Nat):Int))) none none fun a_9 n_10 c_11=>Av R h_5 (.sl R a_9 n_10 c_11) fun x_12=>Dd lo ee R bytes (.sl R a_6 n_7 c_8) x_12 h_5 K)=K (.sl R a' (l.eraseIdx k).length c') h') ∧
   Sli false R ee El h' [.sl R a' (l.eraseIdx k).length c'] (l.eraseIdx k) F'∧Mv h F h' F':=by
 have hbd:=(Sli.ok ok).bd _ _ _ _ hs;obtain ⟨Fs,nF,sF,own,cuts⟩:=Sli.parts hs hnd;obtain ⟨rP,_,eP,_,kP,_⟩:=cuts k (by omega);obtain ⟨_,rQ,_,eQ,_,kQ⟩:=cuts (k+1) (by omega);obtain ⟨nP,_,dPQ⟩:=Eo (k:=k) nF;obtain ⟨_,nQ,_⟩:=Eo (k:=k+1) nF;have inP:∀ y∈(Fs.take k).flatten,y∈Fs.flatten:=fun y hy=>by rw[← zbQ k Fs,zbL];simp[hy]
 have inQ:∀ y∈(Fs.drop (k+1)).flatten,y∈(Fs.drop k).flatten:=fun y hy=>by
  have:Fs.drop (k+1)=(Fs.drop k).drop 1:=by rw[zcl]
  rw[this] at hy;rw[← zbQ 1 (Fs.drop k),zbL];exact zbc.2 (.inr hy)
 have inQ':∀ y∈(Fs.drop (k+1)).flatten,y∈Fs.flatten:=fun y hy=>by rw[← zbQ k Fs,zbL];simp[inQ y hy]
 have hFl:∀ y∈Fs.flatten,y<h.length:=fun y hy=>hbd y (sF y hy);have htl:(l.take k).length=k:=by rw[zcu];omega
 have hdl:(l.drop (k+1)).length=l.length - (k+1):=by rw[zcv]
 obtain ⟨a3,c3,h3,F3,e3,r3,l3,fr3,sub3,nd3⟩:=Jx (lo:=lo) (R:=R) (e:=ee) (bytes:=bytes) ok eP nP (fun y hy=>hFl y (inP y hy)) hby (by rw[htl];exact zba (zbO _ (by omega)) hn) hl;have hQ3:∀ y∈(Fs.drop (k+1)).flatten,y∉F3∧y<h3.length:=fun y hy=>by
  have:=hFl y (inQ' y hy);refine ⟨fun hm3=>?_,by omega⟩;rcases sub3 y hm3 with g | g
  ·exact dPQ y g y (inQ y hy) rfl
  ·omega
 have F3b:∀ y∈F3,y<h3.length:=(Sli.ok ok).bd _ _ _ _ r3;obtain ⟨a7,c7,h7,F7,e7,r7,l7,fr7,sub7,nd7⟩:=Kx (lo:=lo) (bytes:=bytes) ok.fr r3 (xs:=rQ) (ys:=l.drop (k+1)) (Gs:=Fs.drop (k+1)) (eQ.fr ok.fr fun y hy=>fr3 y (hFl y (inQ' y hy))) hby (by rw[htl,hdl];exact zba (zbO _ (by omega)) hn) (fun y hy=>by
   rcases sub3 y hy with g | g
   ·exact hlo y (sF y (inP y g))
   ·omega) (by omega) (by
   rw[zbd];refine ⟨nd3,nQ,fun x hx y hy e=>?_⟩;subst e;exact (hQ3 x hy).1 hx) (fun y hy=>by
   rcases zbc.1 hy with hy | hy
   ·exact F3b y hy
   ·exact (hQ3 y hy).2)
 have hel:(l.take k).length+(l.drop (k+1)).length=(l.eraseIdx k).length:=by rw[zb9 hk,htl,hdl];omega
 have her:l.take k++l.drop (k+1)=l.eraseIdx k:=(List.eraseIdx_eq_take_drop_succ l k).symm;rw[hel] at e7 r7;rw[her] at r7;have mm0:Mv h [] (h ++ [.rows R ee false []]) []:=Mv.snoc;refine ⟨a7,c7,h7,F7,fun K=>?_,r7,⟨by omega,fun y hy hyF=>?_,nd7,fun y hy=>?_⟩⟩
 ·rw[kP _ (fun b i e=>mm0.fr b (hbd b (own b i e).1) (by simp)),e3,Ah,kQ _ (fun b i e=>fr3 b (hbd b (own b i e).1)),e7]
 ·have y3:y∉F3:=fun hm3=>by
   rcases sub3 y hm3 with g | g
   ·exact hyF (sF y (inP y g))
   ·omega
  rw[fr7 y (by omega) y3,fr3 y hy]
 ·rcases sub7 y hy with g | g
  ·rcases zbc.1 g with g | g
   ·rcases sub3 y g with g | g
    ·exact .inl (sF y (inP y g))
    ·exact .inr (by omega)
   ·exact .inl (sF y (inQ' y g))
  ·exact .inr (by omega)
theorem Nt {h:Heap}:∀ {xs:List (List V)},EAll (flat id) h xs xs (xs.map fun _ => [])
 | []=>trivial
 | x :: xs=>⟨⟨rfl,rfl⟩,Nt⟩
theorem Qb {rows:List (List V)} (hx:EAll (flat id) h rows xs Fs):rows=xs∧Fs.flatten = []:=by have:=hx.of_flat;simpa using this
theorem Sli.bare {R e n:Nat} (hs:Sli false R e El h [.sl R a n c] l F) :
  ∃ xs Fs F0,Sli false R e (flat id) h [.sl R a n c] xs F0∧EAll El h xs l Fs∧F=F0++Fs.flatten:=by
 obtain ⟨R1,a1,c1,e1,g⟩:=hs;injection e1 with e1 _;injection e1 with e0 e2 e4 e3;subst e2;subst e3;subst e4;cases a with
 | none =>obtain ⟨rfl,rfl,rfl⟩:=g;exact ⟨[],[],[],⟨R1,none,some 0,by rw[e0];rfl,rfl,rfl,rfl⟩,trivial,rfl⟩
 | some p =>
  obtain ⟨b,i⟩:=p;obtain ⟨_,rs,Fs,g1,g2,g3,g4,g5,rfl⟩:=g;have hlen:((rs.drop i).take l.length).length=l.length:=by rw[zcu,zcv];omega
  refine ⟨(rs.drop i).take l.length,Fs,[b],⟨R,some (b,i),c,by rw[hlen],rfl,rs,_,g1,by rw[hlen];exact g2,by rw[hlen];exact g3,g4,?_,by rw[(Qb (Nt (h:=h) (xs:=(rs.drop i).take l.length))).2]⟩,g5,rfl⟩;rw[hlen];exact Nt
theorem Sli.cook {R e n:Nat}{F0:List Nat} (hs:Sli false R e (flat id) h [.sl R a n c] xs F0) (hx:EAll El h xs l Fs) :
  Sli false R e El h [.sl R a n c] l (F0++Fs.flatten):=by
 have hl:=hx.len;obtain ⟨R1,a1,c1,e1,g⟩:=hs;injection e1 with e1 _;injection e1 with e0 e2 e4 e3;subst e2;subst e3;subst e4;cases a with
 | none =>obtain ⟨rfl,rfl,rfl⟩:=g;have:l = []:=zbm hl.1.symm;subst this;have:Fs = []:=zbm hl.2;subst this;exact ⟨R1,none,some 0,by rw[e0];rfl,rfl,rfl,rfl⟩
 | some p =>obtain ⟨b,i⟩:=p;obtain ⟨_,rs,Gs,g1,g2,g3,g4,g5,rfl⟩:=g;obtain ⟨q1,q2⟩:=Qb g5;refine ⟨R,some (b,i),c,by rw[hl.1],rfl,rs,Fs,g1,by rw[← hl.1];exact g2,by rw[← hl.1];exact g3,g4,?_,by rw[q2];rfl⟩;rw[← hl.1,q1];exact hx


variable {f:Frame}
section
variable {lo:Nat}{h h':Heap}{w:World}{a1 a2 a3 a4 a:Pq}{c1 c2 c3 c4 c:Nq}{F1 F2 F3 F4:List Nat}
theorem N4 (hg:Good w) (hf:KL w.places f):thin f.ver∧A3 f.ver=true∧f.ver.tag.place=f.fro:=by
 obtain ⟨h1,h2,h3,h4,h5⟩:=hf;have hk:f.fro.toNat<w.places.length:=by have:=hg.ok.p3;omega
 obtain ⟨hpo,hme,_⟩:=hg.at hk;rw[RS hk] at h5;obtain ⟨hi,h5⟩:=EY h5;obtain ⟨_,hl⟩:=HN (AK hpo).2.2.2.2.2.1;obtain ⟨g1,g2,_⟩:=hl _ hi;rw[h5] at g1 g2;exact ⟨HF g1,g1,by rw[g2,hme];omega⟩
theorem Up {b:Pq}{d:Nq}{G:List Nat} (H:WR lo h w a1 c1 a2 c2 a3 c3 a4 c4 F1 F2 F3 F4) (hg:Good w) (hf:KL w.places f) (hv:RTags false h [.sl 2 b f.ver.past.length d] f.ver.past G) :
  ∃ h' F',(Ao f.to w.places.length (eO a1 fun w0=>eO (ld h w0.1 (w0.2+f.to.toNat) 0 6) fun w0=>eC w0 fun w0 p=>eI .i64 w0 fun w0=>eC p fun p q=>eI .i64 p fun p=>eC q fun q g=>eS 2 q fun q i j=>eC g fun g k=>eS 6 g fun g m t=>eC k fun k d0=>eS 1 k fun k e f0=>eC d0 fun d0 v0=>eBv d0 fun d0=>eN v0 (Ai (Ad lo 85 [.agg [Iv w0,Iv p,.sl 2 q i j,.sl 6 g m t,.sl 1 k e f0,.bool d0],Iv f.fro,Iv f.at',.agg [Iv f.ver.key,Iv f.ver.tag.time,Iv f.ver.tag.place,.sl 2 b f.ver.past.length d,.str f.ver.text,.bool f.ver.gone]] h) fun w1 p=>eU w1 fun w1=>eC w1 fun w1 q=>eA w1 fun w1=>eC w1 fun w1 g=>eI .i64 w1 fun w1=>eC g fun g i=>eI .i64 g fun g=>eC i fun i j=>eS 2 i fun i k m=>eC j fun j t=>eS 6 j fun j d e=>eC t fun t f0=>eS 1 t fun t v0 v1=>eC f0 fun f0 v2=>eBv f0 fun f0=>eN v2 (eC q fun q v2=>eB q (eN v2 (Ao f.to w.places.length (eO a1 fun q=>eO (st lo p q.1 (q.2+f.to.toNat) 0 [Iv w1,Iv g,.sl 2 i k m,.sl 6 j d e,.sl 1 t v0 v1,.bool f0]) fun w1=>some (V.tup [.agg (w.cs a1 c1 a2 c2 a3 c3 a4 c4),.bool true],w1)))) (eN v2 (some (V.tup [.agg (w.cs a1 c1 a2 c2 a3 c3 a4 c4),.bool true],p)))))))=some (V.tup [.agg (w.cs a1 c1 a2 c2 a3 c3 a4 c4),.bool true],h') ∧
   Ow lo h' (w.cs a1 c1 a2 c2 a3 c3 a4 c4) (Mo w f) F'∧Mv h (F1++(F2++(F3++F4))) h' F':=by
 obtain ⟨hth,hvo,hvt⟩:=N4 hg hf;obtain ⟨⟨h1,h1'⟩,⟨h2,h2'⟩,h3,h4,h5⟩:=hf;obtain ⟨fro,to,at',ver⟩:=f;simp only at *
 obtain ⟨k,rfl⟩:∃ k:Nat,to=(k:Int):=⟨to.toNat,by omega⟩;obtain ⟨j,rfl⟩:∃ j:Nat,fro=(j:Int):=⟨fro.toNat,by omega⟩;have hk:k<w.places.length:=by have:=hg.ok.p3;omega
 obtain ⟨hpo,hme,hro⟩:=hg.at hk;obtain ⟨b0,i,s1,s2,s3,b1,d1,b2,d2,b3,d3,G1,G2,G3,rfl,hld,_,_,e1,e2,e3,g1,g2,g3,nd,hF,put⟩:=H.place hk;have hx:Mo w ⟨(j:Int),(k:Int),at',ver⟩=setP w k (G9 w.places[k] j at' ver):=by unfold Mo;simp only[Be,Dc hk]
 rw[hx];rw[Ae hk,Ag,Be,hld,Ag,Aa,Ab,Aa,Ab,Aa,e1,Aa,e2,Aa,e3,Aa,At,Af];generalize hp:w.places[k]=p at hpo hme hro hld e1 e2 e3 g1 g2 g3 put;have ht:=B3 hpo;have h3g:=(AK hpo).2.2.1;have nd':=nd;rw[zbd,zbd] at nd';obtain ⟨nd1,⟨nd2,nd3,Tx⟩,nd5⟩:=nd';have hj:j<p.got.length:=by omega
 obtain ⟨h5',F5,e5,r5,m5,x5⟩:=Ss (lo:=lo) (at':=at') (a1:=b1) (c1:=d1) (a2:=b2) (c2:=d2) g3 hv hj (by have:=(ht.got.2 _ (zbb hj)).1;omega) (by have:=hth.1;omega) nd3 (fun y hy=>(hF y (by simp[hy])).1) H.hl;simp only[Place.cs,Ver.cs] at e5;have hc:Hc p (j:Int) at' ver=I4 p j at' ver:=by unfold Hc;rw[hvo,hvt,FE,Be];simp[Am];omega
 have hsame:setP w k p=w:=by unfold setP;rw[← hp,zcI]
 rw[e5,Ac,C4,Aa,Ap,Aa,Ab,Aa,Ab,Aa,Ah,Aa,Ah,Aa,Ah,Aa,At,Af,Aa,As];unfold G9;rw[hc];cases hh:I4 p j at' ver with
 | false =>have:=x5 hh;subst this;rw[Au,Af,cond_false,hsame];exact ⟨_,_,rfl,H.at,Mv.refl H.nd⟩
 | true =>
  rw[hh,cond_true] at r5;have hb:∀ y∈G1++(G2++G3),y<h.length:=fun y hy=>(hF y hy).2.1
  have mm:Mv h (G1++(G2++G3)) h5' (G1++(G2++F5)):=m5.mid Yg nd (fun y hy=>hb y (by simp only[zbc] at hy ⊢;grind)) Yg;have hcs:(JO p j ver).cs b1 d1 b2 d2 b3 d3=p.cs b1 d1 b2 d2 b3 d3:=ZC;have rr:RPlace false h5' (p.cs b1 d1 b2 d2 b3 d3) (JO p j ver) (G1++(G2++F5)):=by
   rw[← hcs];refine ⟨_,_,_,G1,G2,F5,rfl,rfl,m5.keep rnodes_ok g1 (fun y hy hm=>nd5 y hy y (by simp[hm]) rfl),m5.keep rvers_ok g2 (fun y hy hm=>Tx y hy y hm rfl),?_⟩;have:(JO p j ver).got=p.got.set j (p.got[j] ++ [ver]):=by unfold JO;rw[I5 hj]
   rw[this,zbz];exact r5
  obtain ⟨h6,F6,e6,q6,m6⟩:=put h5' _ _ _ mm rr rfl;simp only[Place.cs] at e6;rw[Al,Af,Ae hk,Ag,e6,Ag,cond_true,Be];refine ⟨h6,_,rfl,?_,m6⟩;rw[← Wf (k:=k) (p:=JO p j ver)];exact q6.at
def Ub (w:World) (e:Event):Option World:=bif e.kind==10 then RI w e else Nn w e
theorem U6 {e:Event} (H:WR lo h w a1 c1 a2 c2 a3 c3 a4 c4 F1 F2 F3 F4) (hg:Good w) :
  ∃ cs' h' F',Ad lo 214 [.agg (w.cs a1 c1 a2 c2 a3 c3 a4 c4),.agg e.cs] h=some (.tup [.agg cs',.bool (Ub w e).isSome],h')∧Ow lo h' cs' ((Ub w e).getD w) F'∧Mv h (F1++(F2++(F3++F4))) h' F'∧((Ub w e)=none→cs'=w.cs a1 c1 a2 c2 a3 c3 a4 c4):=by
 obtain ⟨kind,at',num,key,text,gone⟩:=e;suffices hk:∃ cs' h' F',_=some (V.tup [.agg cs',.bool (Ub w ⟨kind,at',num,key,text,gone⟩).isSome],h')∧Ow lo h' cs' ((Ub w ⟨kind,at',num,key,text,gone⟩).getD w) F'∧Mv h (F1++(F2++(F3++F4))) h' F'∧((Ub w ⟨kind,at',num,key,text,gone⟩)=none→cs'=w.cs a1 c1 a2 c2 a3 c3 a4 c4) from by obtain ⟨cs',h',F',e,hr⟩:=hk;exact ⟨cs',h',F',Td e,hr⟩
 have hp3:=hg.ok.p3;have hn12:=hg.ok.n12;unfold Ub;cases h10:kind==10 with
 | true =>
  rw[cond_true,Al,Bf,Ac,As];unfold RI;cases x1:Am at' 0 2 with
  | false =>rw[zcn,cond_false,Au];exact ⟨_,h,_,rfl,H.at,Mv.refl H.nd,fun _=>rfl⟩
  | true =>
  rw[zbA,Al,Bf,Ac,As];cases x2:Am num 0 2 with
  | false =>rw[zcn,cond_false,Au];exact ⟨_,h,_,rfl,H.at,Mv.refl H.nd,fun _=>rfl⟩
  | true =>
  rw[zbA,Al];cases x3:at'==num with
  | true =>rw[zbX,zcn,cond_false,Al];exact ⟨_,h,_,rfl,H.at,Mv.refl H.nd,fun _=>rfl⟩
  | false =>
  rw[zci,zbA,Au];by_cases x4:(w.net.length:Int)<12
  ·simp only[Am,Dr,decide_eq_true_eq] at x1;obtain ⟨k,rfl⟩:∃ k:Nat,at'=(k:Int):=⟨at'.toNat,by omega⟩;have hk:k<w.places.length:=by omega
   obtain ⟨hpo,hme,hro⟩:=hg.at hk;obtain ⟨b0,i,s1,s2,s3,b1,d1,b2,d2,b3,d3,G1,G2,G3,rfl,hld,hc2,hc3,e1,e2,e3,g1,g2,g3,nd,hF,put⟩:=H.place hk;have hll:=(B3 hpo).log.1;rw[decide_eq_true x4,zbA,Aj (by omega),Ae hk,Ag,Be,hc3,Ag,Aa,Af,e2,wr (by omega) (by omega),Bf,Ac,As,RS hk];generalize hp:w.places[k]=p at hpo hme hro hld e1 e2 e3 g1 g2 g3 put hll;cases x5:Am key 0 ((p.log.length:Int) - 1) with
   | false =>rw[cond_false,Au];exact ⟨_,h,_,rfl,H.at,Mv.refl H.nd,fun _=>rfl⟩
   | true =>
   simp only[Am,Dr,decide_eq_true_eq] at x5;obtain ⟨m,rfl⟩:∃ m:Nat,key=(m:Int):=⟨key.toNat,by omega⟩;have hm:m<p.log.length:=by omega
   obtain ⟨o,s,b,d,G,ha,ho,es,hpv,hGF⟩:=g2.get hm;have hth:=(B3 hpo).log.2 _ (zbb hm);obtain ⟨a5,c5,h5,F5,e5,r5,m5⟩:=Cy (lo:=lo) (v:=p.log[m]) hpv H.hl (by have:=hth.1;omega);have e5':=e5;simp only[Ver.cs] at e5';rw[cond_true,Al,Ae hk,Ag,hc3,Ag,Aa,Af,e2,Ae hm,ha,Ag,Be,ho,Ag,Aa,Ab,Aa,Ab,Aa,Ab,Aa,es,Aa,Bh,Aa,At,Af,e5',Ac,Ap,Aa,Ab,Aa,Ab,Aa,Ab,Aa,Ah,Aa,Bh,Aa,At,Af,A4,Dc hm];obtain ⟨⟨n1,n2,n3,n4⟩,_⟩:=Tx H.nd;obtain ⟨a6,c6,h6,F6,e6,r6,m6⟩:=EV (lo:=lo) (bytes:=96) (e:=172) rframe_ok H.r3 (row := Iv (k:Nat) :: Iv num :: Iv (m:Nat) :: p.log[m].cs a5 c5) (x:=⟨(k:Nat),num,(m:Nat),p.log[m]⟩) (G:=F5) (h1:=h5 ++ [.rows 9 172 false [Iv (k:Nat) :: Iv num :: Iv (m:Nat) :: p.log[m].cs a5 c5]])
    ⟨_,rfl,_,rfl,Mv.snoc.keep0 rtags_ok r5⟩ (m5.trans (Mv.snoc' m5.nd)) n3 (fun y hy=>H.ge y (by simp[hy])) H.hl (by decide) (by omega)
   simp only[Ver.cs] at e6;rw[e6,Ah];have hnl:(w.net ++ [(⟨(k:Nat),num,(m:Nat),p.log[m]⟩:Frame)]).length=w.net.length+1:=by simp
   rw[← hnl] at r6;obtain ⟨q,mq⟩:=H.up3 m6 r6;refine ⟨_,h6,_,?_,q.at,mq,fun g=>by first | cases g | (simp at g)⟩;rw[← hnl];rfl
  ·rw[decide_eq_false x4,zcn,cond_false,Ak (by omega)];exact ⟨_,h,_,rfl,H.at,Mv.refl H.nd,fun _=>rfl⟩
 | false =>
 rw[cond_false,Au,wr (by omega) (by omega),Bf,Ac,As];unfold Nn;cases x1:Am at' 0 ((w.net.length:Int) - 1) with
 | false =>rw[cond_false,Au];exact ⟨_,h,_,rfl,H.at,Mv.refl H.nd,fun _=>rfl⟩
 | true =>
 simp only[Am,Dr,decide_eq_true_eq] at x1;obtain ⟨j,rfl⟩:∃ j:Nat,at'=(j:Int):=⟨at'.toNat,by omega⟩;have hj:j<w.net.length:=by omega
 obtain ⟨⟨n1,n2,n3,n4⟩,_⟩:=Tx H.nd;obtain ⟨xs,Fs,F0,hraw,hall,rfl⟩:=H.r3.bare;have hxl:w.net.length=xs.length:=hraw.val;obtain ⟨row,Fj,hr,hFj,⟨vs,rfl,hv⟩⟩:=hall.get (Dc hj);obtain ⟨s,b,d,rfl,es,hpv⟩:=hv.form;obtain ⟨o,row',_,ha,hld,⟨rfl,_⟩,_⟩:=hraw.read (show j<xs.length by omega);have hro:xs[j]'(by omega) = Iv w.net[j].fro :: Iv w.net[j].to :: Iv w.net[j].at' :: [Iv w.net[j].ver.key,Iv w.net[j].ver.tag.time,Iv w.net[j].ver.tag.place,s,.str w.net[j].ver.text,.bool w.net[j].ver.gone]:=by rw[Dc (by omega)] at hr;injection hr
 have hfi:=hg.ok.net _ (zbb hj);have hld9:ld h o.1 (o.2+j) 0 9=some (Iv w.net[j].fro :: Iv w.net[j].to :: Iv w.net[j].at' :: [Iv w.net[j].ver.key,Iv w.net[j].ver.tag.time,Iv w.net[j].ver.tag.place,s,.str w.net[j].ver.text,.bool w.net[j].ver.gone]):=by rw[hld,id,hro];exact HL rfl
 rw[Al,Ae hj,ha,Ag,Be,hld9,Ag,Aa,Ab,Aa,Ab,Aa,Ab,Aa,Ab,Aa,Ab,Aa,Ab,Aa,es,Aa,Bh,Aa,At,Af,cond_true,Dc hj,← ha];simp only[];cases h13:kind==13 with
 | true =>
  have h12:(kind==12)=false:=by rw[beq_iff_eq] at h13;subst h13;rfl
  rw[Al,h12,Au];obtain ⟨h',F',e,W,m⟩:=Up H hg hfi hpv;refine ⟨_,h',F',e,?_,m,fun g=>by first | cases g | (simp at g)⟩;simpa using W
 | false =>
  rw[zbd] at n3;obtain ⟨n5,n6,n7⟩:=n3;rw[hxl] at hraw;obtain ⟨a6,c6,h6,F6,e6,r6,m6⟩:=XH (k:=j) (lo:=lo) (bytes:=96) Cu hraw (by omega) n5 (fun y hy=>H.ge y (by simp[hy])) H.hl (by decide) (by omega);rw[← hxl] at e6;have hbd:∀ y∈F0++Fs.flatten,y<h.length:=H.lt.2.2.1;have hel:(xs.eraseIdx j).length=(w.net.eraseIdx j).length:=by rw[zb9 hj,zb9 (by omega)];omega
  obtain ⟨k1,k2⟩:=La hFj n6;have all6:=(hall.fr rframe_ok.fr fun y hy=>m6.fr y (hbd y (by simp[hy])) fun hm=>n7 y hm y hy rfl).erase j;have r3':=r6.cook all6;rw[hel] at r3' e6;have mm:Mv h (F0++Fs.flatten) h6 (F6++Fs.flatten):=m6.mid (.refl _) (by rw[zbd];exact ⟨n5,n6,n7⟩) (fun y hy=>hbd y (by simp[hy])) (.refl _);have nd6:=mm.nd;rw[zbd] at nd6;have mm':Mv h (F0++Fs.flatten) h6 (F6++(Fs.eraseIdx j).flatten):=mm.lean (by
   rw[zbd];exact ⟨nd6.1,k1,fun x hx y hy=>nd6.2.2 x hx y (k2 y hy).1⟩) fun y hy=>by
    rcases zbc.1 hy with hy | hy
    ·simp[hy]
    ·simp[(k2 y hy).1]
  obtain ⟨q,mq⟩:=H.up3 mm' r3';have hpv6:=m6.keep rtags_ok hpv fun y hy hm=>n7 y hm y (Jt hFj hy) rfl;rw[show YQ false=172 from rfl] at e6;rw[Au,Ar (by omega),e6,Ah];cases h12:kind==12 with
  | true =>rw[Al];exact ⟨_,h6,_,rfl,q.at,mq,fun g=>by first | cases g | (simp at g)⟩
  | false =>rw[Au];have hgn:Good (setN w (w.net.eraseIdx j)):=hg.setN (zba (zcG _ _) hn12) fun x hx=>hg.ok.net x (zcr hx);obtain ⟨h',F',e,W,m⟩:=Up (w:=setN w (w.net.eraseIdx j)) q hgn hfi hpv6;refine ⟨_,h',F',e,?_,mq.trans m,fun g=>by first | cases g | (simp at g)⟩;simpa using W
end


variable {t:Tag}{l:List Tag}
section
variable {lo:Nat}{h h':Heap}{F F':List Nat}{a a':Pq}{c c':Nq}
theorem Pt {s:Tag}:Ad lo 347 [.agg [Iv s.time,Iv s.place],.agg [Iv t.time,Iv t.place]] h=some (.agg [Iv (Ju s t).time,Iv (Ju s t).place],h):=by unfold Ju FQ;refine Tp (h':=h) ?_;rw[Bz,Ac,As];cases Gp s.time s.place t.time t.place<;>rfl
theorem Ry {k:Nat} (hk:k<l.length):IT l k t=l.set k (Ju l[k] t):=by unfold IT;rw[Dc hk]
theorem WW {k:Nat}:(IT l k t).length=l.length:=by unfold IT;split<;>simp
theorem J2 {k:Nat} (hs:RTags false h [.sl 2 a l.length c] l F) (hk:k<l.length) (hl:lo≤h.length) (hn:l.length≤1048576) :
  ∃ a' c' h' F',Ad lo 326 [.agg [.sl 2 a l.length c],Iv (k:Nat),.agg [Iv t.time,Iv t.place]] h=some (.agg [.sl 2 a' l.length c'],h')∧RTags false h' [.sl 2 a' l.length c'] (IT l k t) F'∧Mv h [] h' F':=by
 obtain ⟨a1,c1,h1,F1,e1,r1,m1⟩:=I9 (lo:=lo) (h:=h) (l:=l) hl hn;obtain ⟨b,i,rs,row,G,ha,hbF,hbG,hb,hrow,⟨rfl,rfl⟩,hGF,hGn,_,put⟩:=r1.at (lo:=lo) Cu hk m1.nd (fun y hy=>m1.ge hl (by simp) y hy);have hld:ld h1 b (i+k) 0 2=some [Iv l[k].time,Iv l[k].place]:=by rw[Bx hb hrow];rfl
 obtain ⟨h2,F2,e2,r2,m2,_⟩:=put h1 [] 0 (Ju l[k] t).cs (Ju l[k] t).cs (Ju l[k] t) Mv.nil rfl ⟨rfl,rfl⟩;subst ha;refine ⟨some (b,i),c1,h2,F2,Rm ?_,by rw[Ry hk];exact r2,m1.trans m2⟩;simp only[Tag.cs] at e2;rw[RTags.rows (Mv.snoc.keep0 rtags_ok hs),e1,Ah,Ae hk,Ag,Be,hld,Ag,Aa,Ab,Aa,Ab,Af,Pt,Ac,Ap,Aa,Ab,Aa,Ab,Af,Ae hk,Ag,e2,Ag]
theorem TT {p q:List Tag} (hs:RTags false h [.sl 2 a p.length c] p F) (hs':RTags false h [.sl 2 a' q.length c'] q F') (hp:p.length=4) (hq:q.length=4) (hl:lo≤h.length) :
  ∃ q5 a5 c5 h' F5,Ad lo 327 [.agg [.sl 2 a p.length c],.agg [.sl 2 a' q.length c']] h=some (.agg [.sl q5 a5 (I1 p q).length c5],h')∧RTags false h' [.sl q5 a5 (I1 p q).length c5] (I1 p q) F5∧Mv h [] h' F5:=by
 have hj:(I1 p q).length=4:=by unfold I1;rw[List.length_zipWith];omega
 obtain ⟨q5,a5,c5,h',F5,e,r,m⟩:=Dh (El:=flat Tag.cs) Cu (h:=h) (l:=I1 p q) (f:=id) (lo:=lo) (R:=2) (e:=29) (bytes:=16) hl (by decide) (by omega)
  (fun i q5 a1 n1 c1 hh=>CW lo (i:Nat) a p.length c a' q.length c' 0 none 0 (some 0) q5 a1 n1 c1 hh) (fun i hi q5 a1 n1 c1 hh hm=>by
   obtain ⟨o,ha,ho⟩:=(hm.keep0 rtags_ok hs).get (show i<p.length by omega);obtain ⟨o',ha',ho'⟩:=(hm.keep0 rtags_ok hs').get (show i<q.length by omega);have hji:(I1 p q)[i]=Ju p[i] q[i]:=List.getElem_zipWith;refine ⟨[Iv (Ju p[i] q[i]).time,Iv (Ju p[i] q[i]).place],[],hh ++ [.rows 2 29 false [[Iv (Ju p[i] q[i]).time,Iv (Ju p[i] q[i]).place]]],⟨by rw[id,hji];rfl,rfl⟩,Mv.snoc,?_⟩;rw[CW.e,Ak (by omega),Ae (show i<p.length by omega),ha,Ag,Be,ho,Ag,Aa,Ab,Aa,Ab,Af,Ae (show i<q.length by omega),ha',Ag,ho',Ag,Aa,Ab,Aa,Ab,Af,Pt,Ac,Ap,Aa,Ab,Aa,Ab,Af,A4,Ar (by omega)])
 rw[zcM] at r;refine ⟨q5,a5,c5,h',F5,Rp ?_,r,m⟩;refine e.trans ?_;rw[CW.e,Aj (by omega)]
end
section
variable {lo:Nat}{h h':Heap}{w:World}{a1 a2 a3 a4 a:Pq}{c1 c2 c3 c4 c:Nq}{F1 F2 F3 F4:List Nat}
theorem Er {d:Done} (H:WR lo h w a1 c1 a2 c2 a3 c3 a4 c4 F1 F2 F3 F4) (h80:w.hist.length≤1000) :
  ∃ a5 c5 h' G,Ad lo 325 [.agg (w.cs a1 c1 a2 c2 a3 c3 a4 c4),Iv d.sess,Iv d.kind,Iv d.key,.agg [Iv d.tag.time,Iv d.tag.place]] h=some (.agg ((World.mk w.places w.sess w.net (w.hist ++ [d])).cs a1 c1 a2 c2 a3 c3 a5 c5),h') ∧
   WR lo h' ⟨w.places,w.sess,w.net,w.hist ++ [d]⟩ a1 c1 a2 c2 a3 c3 a5 c5 F1 F2 F3 G∧Mv h (F1++(F2++(F3++F4))) h' (F1++(F2++(F3++G)))∧∀ y∈F1,h'[y]?=h[y]?:=by
 obtain ⟨⟨n1,n2,n3,n4⟩,_,_,d14,_⟩:=Tx H.nd;obtain ⟨a6,c6,h6,F6,e6,r6,m6⟩:=EV (lo:=lo) (bytes:=40) (e:=174) (El:=flat Done.cs) Cu H.r4 (row:=d.cs) (x:=d) (G := []) (h1:=h ++ [.rows 5 174 false [d.cs]])
  ⟨rfl,rfl⟩ Mv.snoc n4 (fun y hy=>H.ge y (by simp[hy])) H.hl (by decide) (by omega)
 have hnl:(w.hist ++ [d]).length=w.hist.length+1:=by simp
 rw[← hnl] at r6 e6;obtain ⟨q,mq⟩:=H.up4 m6 r6;refine ⟨a6,c6,h6,F6,QW ?_,q,mq,fun y hy=>m6.fr y (H.lt.1 y hy) (d14 y hy)⟩;simp only[Done.cs] at e6;rw[A4,e6,Ah]
theorem WR.sess (H:WR lo h w a1 c1 a2 c2 a3 c3 a4 c4 F1 F2 F3 F4) {k:Nat} (hk:k<w.sess.length):∃ b i v b1 d1 G,a2=some (b,i) ∧
  ld h b (i+k) 0 5=some [Iv w.sess[k].place,v,Iv w.sess[k].wait.time,Iv w.sess[k].wait.place,Iv w.sess[k].key]∧ld h b (i+k) 1 1=some [v]∧ld h b (i+k) 2 1=some [Iv w.sess[k].wait.time] ∧
  (∀ {R':Type} (K:Pq→Nat→Nq→Option R'),eS 2 v K=K b1 w.sess[k].past.length d1)∧RTags false h [.sl 2 b1 w.sess[k].past.length d1] w.sess[k].past G∧RTags false h [v] w.sess[k].past G∧G.Nodup ∧
  ∀ h1 G1 j cs row' s',Mv h G h1 G1→paste [Iv w.sess[k].place,v,Iv w.sess[k].wait.time,Iv w.sess[k].wait.place,Iv w.sess[k].key] j cs=some row'→RSess false h1 row' s' G1 →
   ∃ h2 F2',st lo h1 b (i+k) j cs=some h2∧WR lo h2 ⟨w.places,w.sess.set k s',w.net,w.hist⟩ a1 c1 a2 c2 a3 c3 a4 c4 F1 F2' F3 F4∧Mv h (F1++(F2++(F3++F4))) h2 (F1++(F2'++(F3++F4)))∧∀ y∈F1,h2[y]?=h[y]?:=by
 obtain ⟨⟨_,n2,_,_⟩,d12,_⟩:=Tx H.nd;obtain ⟨b,i,rs,row,G,ha,hbF,hbG,hb,hrow,hel,hGF,hGn,_,put⟩:=Sli.at (lo:=lo) IW H.r2 hk n2 (fun y hy=>H.ge y (by simp[hy]));obtain ⟨v,rfl,hv⟩:=hel;obtain ⟨b1,d1,es,hv'⟩:=hv.form;refine ⟨b,i,v,b1,d1,G,ha,by rw[Bx hb hrow];exact HL rfl,by rw[Bx hb hrow];rfl,by rw[Bx hb hrow];rfl,es,hv',hv,hGn,fun h1 G1 j cs row' s' m hp hx=>?_⟩;obtain ⟨h2,F',e,r,m2,_⟩:=put h1 G1 j cs row' s' m hp hx;have hlen:(w.sess.set k s').length=w.sess.length:=by simp
 rw[← hlen] at r;obtain ⟨q1,q2⟩:=H.up2 m2 r;exact ⟨h2,F',e,q1,q2,fun y hy=>m2.fr y (H.lt.1 y hy) (d12 y hy)⟩
theorem WR.wait (H:WR lo h w a1 c1 a2 c2 a3 c3 a4 c4 F1 F2 F3 F4) {k:Nat} (hk:k<w.sess.length) (t:Tag) (key:Int) :
  ∃ h' F2',(∀ {T:Type} (K:Heap→Option T),(Ao (k:Nat) w.sess.length (eO a2 fun v=>eO (st lo h v.1 (v.2+k) 2 [Iv t.time,Iv t.place]) fun v=>Ao (k:Nat) w.sess.length (eO a2 fun p=>eO (st lo v p.1 (p.2+k) 4 [Iv key]) K)))=K h') ∧
   WR lo h' ⟨w.places,w.sess.set k ⟨w.sess[k].place,w.sess[k].past,t,key⟩,w.net,w.hist⟩ a1 c1 a2 c2 a3 c3 a4 c4 F1 F2' F3 F4∧Mv h (F1++(F2++(F3++F4))) h' (F1++(F2'++(F3++F4))):=by
 obtain ⟨b,i,v,b1,d1,G,ha,_,_,_,es,hv',hv,hGn,put⟩:=H.sess hk;obtain ⟨h2,F5,e2,q2,m2,_⟩:=put h G 2 [Iv t.time,Iv t.place] [Iv w.sess[k].place,v,Iv t.time,Iv t.place,Iv w.sess[k].key] ⟨w.sess[k].place,w.sess[k].past,t,w.sess[k].key⟩ (Mv.refl hGn) rfl ⟨v,rfl,hv⟩;have hk2:k<(w.sess.set k ⟨w.sess[k].place,w.sess[k].past,t,w.sess[k].key⟩).length:=by simpa using hk
 obtain ⟨b',i',v',b1',d1',G',ha',_,_,_,es2,hv2',hv2,hGn2,put2⟩:=q2.sess hk2;simp only[zcy] at hv2 put2;obtain ⟨h3,F6,e3,q3,m3,_⟩:=put2 h2 G' 4 [Iv key] [Iv w.sess[k].place,v',Iv t.time,Iv t.place,Iv key] ⟨w.sess[k].place,w.sess[k].past,t,key⟩ (Mv.refl hGn2) rfl ⟨v',rfl,hv2⟩;rw[ha] at ha';injection ha' with ha';injection ha' with x1 x2;subst x1;subst x2;refine ⟨h3,F6,fun K=>?_,by simpa using q3,m2.trans m3⟩;rw[Ae hk,ha,Ag,e2,Ag,Ae hk,Ag,e3,Ag]
theorem WR.past (H:WR lo h w a1 c1 a2 c2 a3 c3 a4 c4 F1 F2 F3 F4) {k:Nat} (hk:k<w.sess.length) {h1:Heap}{G1:List Nat} (m:Mv h [] h1 G1) {q n:Nat} (r:RTags false h1 [.sl q a n c] l G1) :
  ∃ h' F2',(∀ {T:Type} (K:Heap→Option T),(Ao (k:Nat) w.sess.length (eO a2 fun v=>eO (st lo h1 v.1 (v.2+k) 1 [.sl q a n c]) K))=K h') ∧
   WR lo h' ⟨w.places,w.sess.set k ⟨w.sess[k].place,l,w.sess[k].wait,w.sess[k].key⟩,w.net,w.hist⟩ a1 c1 a2 c2 a3 c3 a4 c4 F1 F2' F3 F4∧Mv h (F1++(F2++(F3++F4))) h' (F1++(F2'++(F3++F4)))∧∀ y∈F1,h'[y]?=h[y]?:=by
 obtain ⟨b,i,v,b1,d1,G,ha,_,_,_,es,hv',hv,hGn,put⟩:=H.sess hk;obtain ⟨h2,F5,e2,q2,m2,s2⟩:=put h1 G1 1 [.sl q a n c] [Iv w.sess[k].place,.sl q a n c,Iv w.sess[k].wait.time,Iv w.sess[k].wait.place,Iv w.sess[k].key] ⟨w.sess[k].place,l,w.sess[k].wait,w.sess[k].key⟩ (m.wide (by simp)) rfl ⟨_,rfl,r⟩;refine ⟨h2,F5,fun K=>?_,q2,m2,s2⟩;rw[Ae hk,ha,Ag,e2,Ag]
end


section
variable {lo:Nat}{h h':Heap}{w:World}{a1 a2 a3 a4 a:Pq}{c1 c2 c3 c4 c:Nq}{F1 F2 F3 F4:List Nat}
theorem WR.stay (H:WR lo h w a1 c1 a2 c2 a3 c3 a4 c4 F1 F2 F3 F4) {X:Option World} (hX:X=none) :
  ∃ cs' h' F',some (V.tup [.agg (w.cs a1 c1 a2 c2 a3 c3 a4 c4),.bool false],h)=some (V.tup [.agg cs',.bool X.isSome],h')∧Ow lo h' cs' (X.getD w) F'∧Mv h (F1++(F2++(F3++F4))) h' F'∧((X)=none→cs'=w.cs a1 c1 a2 c2 a3 c3 a4 c4):=by
 subst hX;exact ⟨_,h,_,rfl,H.at,Mv.refl H.nd,fun _=>rfl⟩
theorem Sq {kind num key:Int}{text:ByteArray}{gone:Bool}{i:Nat} (H:WR lo h w a1 c1 a2 c2 a3 c3 a4 c4 F1 F2 F3 F4) (hg:Good w) (ht:text.size≤1048576) (hi:i<w.sess.length) :
  ∃ cs' h' F',Ad lo 276 [.agg (w.cs a1 c1 a2 c2 a3 c3 a4 c4),.agg [Iv kind,Iv (i:Nat),Iv num,Iv key,.str text,.bool gone]] h=some (.tup [.agg cs',.bool (Gy w i w.sess[i] ⟨kind,(i:Nat),num,key,text,gone⟩).isSome],h') ∧
   Ow lo h' cs' ((Gy w i w.sess[i] ⟨kind,(i:Nat),num,key,text,gone⟩).getD w) F'∧Mv h (F1++(F2++(F3++F4))) h' F'∧((Gy w i w.sess[i] ⟨kind,(i:Nat),num,key,text,gone⟩)=none→cs'=w.cs a1 c1 a2 c2 a3 c3 a4 c4):=by
 suffices hk:∃ cs' h' F',_=some (V.tup [.agg cs',.bool (Gy w i w.sess[i] ⟨kind,(i:Nat),num,key,text,gone⟩).isSome],h')∧Ow lo h' cs' ((Gy w i w.sess[i] ⟨kind,(i:Nat),num,key,text,gone⟩).getD w) F'∧Mv h (F1++(F2++(F3++F4))) h' F'∧((Gy w i w.sess[i] ⟨kind,(i:Nat),num,key,text,gone⟩)=none→cs'=w.cs a1 c1 a2 c2 a3 c3 a4 c4) from by obtain ⟨cs',h',F',e,hr⟩:=hk;exact ⟨cs',h',F',Qm e,hr⟩
 have hso:=hg.ok.sess _ (zbb hi);obtain ⟨t1,t2,t3,t4,t5,t6⟩:=Dy hso;have h80:=hg.ok.h80;obtain ⟨k,hpl⟩:∃ k:Nat,w.sess[i].place=(k:Int):=⟨w.sess[i].place.toNat,by omega⟩;have hk:k<w.places.length:=by have:=hg.ok.p3;omega
 obtain ⟨hpo,hme,hro⟩:=hg.at hk;have hn:=(Ed (B3 hpo) (by decide) (by decide) (by decide)).1;have hX:Gy w i w.sess[i] ⟨kind,(i:Nat),num,key,text,gone⟩=bif !decide (w.sess[i].wait.time>0)&&(Az w.places[k] key text gone w.sess[i].past&&DY w 1) then
   some (setS (setP w k (AY w.places[k] key text gone w.sess[i].past).1) i ⟨w.sess[i].place,w.sess[i].past,(AY w.places[k] key text gone w.sess[i].past).2,key⟩ [⟨i,1,key,(AY w.places[k] key text gone w.sess[i].past).2⟩]) else none:=by
  unfold Gy;rw[hpl,Be,Dc hk]
 obtain ⟨b',i',v,e1',d1',Gs,rfl,hld',_,_,es',hv',_,hGn,puts⟩:=H.sess hi;obtain ⟨b,j,s1,s2,s3,b1,d1,b2,d2,b3,d3,G1,G2,G3,rfl,hld,_,_,e1,e2,e3,g1,g2,g3,nd,hF,put⟩:=H.place hk;have hFlo:∀ y∈G1++(G2++G3),lo≤y:=fun y hy=>(hF y hy).1
 generalize hXX:Gy w i w.sess[i] ⟨kind,(i:Nat),num,key,text,gone⟩=X at hX;rw[Ae hi,Ag,Be,hld',Ag,Aa,Ab,Aa,es',Aa,Ab,Aa,Ab,Aa,Ab,Af,hpl,Ae hk,Ag,Be,hld,Ag,Aa,Ab,Aa,Ab,Aa,e1,Aa,e2,Aa,e3,Aa,At,Af];by_cases hw:w.sess[i].wait.time>0
 ·rw[Ak hw];exact H.stay (by rw[hX,decide_eq_true hw];rfl)
 rw[Aj hw,Bf,Ac,As];rw[decide_eq_false hw,zci,zbA] at hX;cases hwk:Am key 0 3 with
 | false=>rw[Au];exact H.stay (by rw[hX];unfold Az;rw[hwk];rfl)
 | true =>
 rw[Al,IN ht,Ac,As];cases hto:DI text with
 | false=>rw[Au];exact H.stay (by rw[hX];unfold Az;rw[hwk,hto];rfl)
 | true =>
 rw[Al];have ec:=Pm (lo:=lo) (a2:=b2) (c2:=d2) (a3:=b3) (c3:=d3) g1 hv' hpo t2 hn;simp only[Place.cs] at ec;have fin:Az w.places[k] key text gone w.sess[i].past=true→DY w 1=true→X=some ⟨w.places.set k (Bj (DM w.places[k] 0 (Aw w.places[k] w.sess[i].past) (Bp w.places[k] key text gone w.sess[i].past))),w.sess.set i ⟨w.sess[i].place,w.sess[i].past,⟨Aw w.places[k] w.sess[i].past,w.places[k].me⟩,key⟩,w.net,w.hist ++ [⟨i,1,key,⟨Aw w.places[k] w.sess[i].past,w.places[k].me⟩⟩]⟩:=fun q1 q2=>by rw[hX,q1,q2];unfold AY;rw[hpo,q1];rfl
 cases gone with
 | false =>
  rw[Au,ec,Ac,As];cases hm:EW w.places[k] w.sess[i].past with
  | false=>rw[Au];exact H.stay (by rw[hX];unfold Az;rw[hm];simp)
  | true =>
  have hcw:Az w.places[k] key text false w.sess[i].past=true:=by unfold Az;rw[hwk,hto,t2,hm];simp
  rw[Al];by_cases hh:(w.hist.length:Int)≥80
  ·rw[Ak hh];exact H.stay (by rw[hX,show DY w 1=false from decide_eq_false (by omega),zco];rfl)
  have hX2:=fin hcw (decide_eq_true (by omega));obtain ⟨a6,c6,h5,F5,e5,⟨_,_,_,_,_,_,_,r5⟩,m5⟩:=HH (lo:=lo) g1 g2 g3 hv' hpo hcw nd hFlo H.hl;obtain ⟨h6,F6,e6,q6,m6⟩:=put h5 _ _ _ m5 r5 rfl;obtain ⟨h7,F7,e7,q7,m7⟩:=q6.wait hi ⟨Aw w.places[k] w.sess[i].past,w.places[k].me⟩ key;obtain ⟨a8,c8,h8,F8,e8,q8,m8,_⟩:=Er (d:=⟨i,1,key,⟨Aw w.places[k] w.sess[i].past,w.places[k].me⟩⟩) q7 (by show w.hist.length≤1000;omega);have W:=q8.at;simp only[setP,World.cs,zbz] at e7 e8 W;simp only[Place.cs] at e5 e6;rw[Aj hh,e5,Ac,C4,Aa,Ap,Aa,Ab,Aa,Ab,Aa,Ah,Aa,Ah,Aa,Ah,Aa,At,Af,Aa,Ap,Aa,Ab,Aa,Ab,Af,Af,Ae hk,Ag,e6,Ag];rw[e7,e8,Ac,Ap,Aa,Ah,Aa,Ah,Aa,Ah,Aa,Ah,Af,hX2];exact ⟨_,h8,_,rfl,W,(m6.trans m7).trans m8,fun g=>by first | cases g | (simp at g)⟩
 | true =>
  rw[Al,GA];cases hnt:DQ text with
  | false=>rw[Au];exact H.stay (by rw[hX];unfold Az;rw[hwk,hto,hnt];rfl)
  | true =>
  rw[Al,ec,Ac,As];cases hm:EW w.places[k] w.sess[i].past with
  | false=>rw[Au];exact H.stay (by rw[hX];unfold Az;rw[hm];simp)
  | true =>
  have hcw:Az w.places[k] key text true w.sess[i].past=true:=by unfold Az;rw[hwk,hto,t2,hm,hnt];simp
  rw[Al];by_cases hh:(w.hist.length:Int)≥80
  ·rw[Ak hh];exact H.stay (by rw[hX,show DY w 1=false from decide_eq_false (by omega),zco];rfl)
  have hX2:=fin hcw (decide_eq_true (by omega));obtain ⟨a6,c6,h5,F5,e5,⟨_,_,_,_,_,_,_,r5⟩,m5⟩:=HH (lo:=lo) g1 g2 g3 hv' hpo hcw nd hFlo H.hl;obtain ⟨h6,F6,e6,q6,m6⟩:=put h5 _ _ _ m5 r5 rfl;obtain ⟨h7,F7,e7,q7,m7⟩:=q6.wait hi ⟨Aw w.places[k] w.sess[i].past,w.places[k].me⟩ key;obtain ⟨a8,c8,h8,F8,e8,q8,m8,_⟩:=Er (d:=⟨i,1,key,⟨Aw w.places[k] w.sess[i].past,w.places[k].me⟩⟩) q7 (by show w.hist.length≤1000;omega);have W:=q8.at;simp only[setP,World.cs,zbz] at e7 e8 W;simp only[Place.cs] at e5 e6;rw[Aj hh,e5,Ac,C4,Aa,Ap,Aa,Ab,Aa,Ab,Aa,Ah,Aa,Ah,Aa,Ah,Aa,At,Af,Aa,Ap,Aa,Ab,Aa,Ab,Af,Af,Ae hk,Ag,e6,Ag];rw[e7,e8,Ac,Ap,Aa,Ah,Aa,Ah,Aa,Ah,Aa,Ah,Af,hX2];exact ⟨_,h8,_,rfl,W,(m6.trans m7).trans m8,fun g=>by first | cases g | (simp at g)⟩
end


variable {l:List UInt8}{ro:Bool}{xs:List ByteArray}{cc:Nq}
def zaX (x:UInt8):List V := [.int .u8 (x.toNat:Int)]
abbrev RBytes:Rel (List UInt8):=Sli true 1 0 (flat zaX)
structure Rd (lo:Nat) (h:Heap) (b n:Nat):Prop where
 ge:lo≤b
 ex:∃ a code c p Fc,h[b]?=some (.rows 2 176 false [[.sl 1 a code.length c,Iv ((p:Nat):Int)]])∧RBytes h [.sl 1 a code.length c] code Fc∧(∀ y∈Fc,y<lo)∧p≤n∧code.length≤1048576
section
variable {lo:Nat}{h h':Heap}{F F':List Nat}{b n:Nat}
theorem Rd.lt (r:Rd lo h b n):b<h.length:=by obtain ⟨_,a,code,c,p,Fc,hb,_⟩:=r;exact (EY hb).1
theorem Rd.up {n':Nat} (r:Rd lo h b n) (hn:n≤n'):Rd lo h b n':=by obtain ⟨hge,a,code,c,p,Fc,hb,hc,hF,hp,hl⟩:=r;exact ⟨hge,a,code,c,p,Fc,hb,hc,hF,by omega,hl⟩
theorem Rd.keep (r:Rd lo h b n) (m:Mv h F h' F') (hb:b∉F) (hF:∀ y∈F,lo≤y):Rd lo h' b n:=by have hlt:=r.lt;obtain ⟨hge,a,code,c,p,Fc,e,hc,hFc,hp,hl⟩:=r;refine ⟨hge,a,code,c,p,Fc,by rw[m.fr b hlt hb];exact e,m.keep (Sli.ok Cu) hc (fun y hy hm=>?_),hFc,hp,hl⟩;have h1:=hFc y hy;have h2:=hF y hm;omega
theorem U0 {v:Int} (h0:0≤v) (h1:v<4611686018427387904):0≤IntKind.i64.wrap (((BitVec.ofInt IntKind.i64.bits v ^^^ BitVec.ofInt IntKind.i64.bits (IntKind.i64.wrap (v.tdiv 64))).toNat:Nat):Int):=by
 obtain ⟨k,rfl⟩:∃ k:Nat,v=(k:Int):=⟨v.toNat,by omega⟩;have hd:((k:Nat):Int).tdiv 64=((k / 64:Nat):Int):=rfl;rw[hd,wr (n:=((k / 64:Nat):Int)) (by omega) (by omega)];have hb:IntKind.i64.bits=64:=rfl;have t:∀ q:Nat,q<4611686018427387904→(BitVec.ofInt IntKind.i64.bits ((q:Nat):Int)).toNat=q:=fun q hq=>by rw[BitVec.toNat_ofInt,hb];omega
 have hx:(BitVec.ofInt IntKind.i64.bits ((k:Nat):Int) ^^^ BitVec.ofInt IntKind.i64.bits ((k / 64:Nat):Int)).toNat<2 ^ 62:=by rw[BitVec.toNat_xor,t k (by omega),t (k / 64) (by omega)];exact Nat.xor_lt_two_pow (by omega) (by omega)
 generalize (BitVec.ofInt IntKind.i64.bits ((k:Nat):Int) ^^^ BitVec.ofInt IntKind.i64.bits ((k / 64:Nat):Int)).toNat=w at hx;rw[wr (by omega) (by omega)];omega
theorem RBytes.get {a:Pq}{c:Nq}{m k:Nat} (hs:RBytes h [.sl 1 a m c] l F) (hk:k<l.length):∃ o,a=some o∧ld h o.1 (o.2+k) 0 1=some [.int .u8 (l[k].toNat:Int)]:=by obtain ⟨o,row,G,h1,h2,⟨rfl,_⟩,_⟩:=hs.read hk;exact ⟨o,h1,by rw[h2];rfl⟩
theorem pick (r:Rd lo h b n) (hn:n≤1000000) (m:Int):∃ (x:Int) (h':Heap),Ad lo 66 [.ptr (some (b,(0,0))),Iv m] h=some (Iv x,h')∧0≤x∧(0<m→x<m)∧Rd lo h' b (n+1)∧Mv h [b] h' [b]:=by
 obtain ⟨hge,a,code,c,p,Fc,hb,hc,hFc,hp,hcl⟩:=r;have hblt:=(EY hb).1;have e1:ld h b 0 (0+1) 1=some [Iv ((p:Nat):Int)]:=by rw[Bx hb rfl];rfl
 have e2:=DJ hb hge (r:=0) (j:=0+1) (cs := [Iv ((p+1:Nat):Int)]) (row' := [.sl 1 a code.length c,Iv ((p+1:Nat):Int)]) rfl rfl;generalize hh1:h.set b (Blk.rows 2 176 false (List.set [[V.sl 1 a code.length c,Iv ((p:Nat):Int)]] 0 [V.sl 1 a code.length c,Iv ((p+1:Nat):Int)]))=h1 at e2;have hb1:h1[b]?=some (.rows 2 176 false [[.sl 1 a code.length c,Iv ((p+1:Nat):Int)]]):=by rw[← hh1];simp[hblt]
 have m1:Mv h [b] h1 [b]:=⟨by rw[← hh1];simp,fun y hy hF=>by rw[← hh1];exact zbh (fun e=>hF (by simp[e])),by simp,fun y hy => .inl hy⟩;have hc1:RBytes h1 [.sl 1 a code.length c] code Fc:=m1.keep (Sli.ok Cu) hc (fun y hy hm=>by
  rw[zbi] at hm;have:=hFc y hy;omega)
 suffices hk:∃ x:Int,_=some (Iv x,h1)∧0≤x∧(0<m→x<m) from by obtain ⟨x,e,g1,g2⟩:=hk;exact ⟨x,h1,MC e,g1,g2,⟨hge,a,code,c,p+1,Fc,hb1,hc1,hFc,by omega,hcl⟩,m1⟩
 rw[e1,Ag,Aa,Af,Ab,Ar (by omega),e2,Ag];by_cases hm:m<1
 ·rw[Ak hm];exact ⟨0,rfl,zcN _,fun h=>by omega⟩
 ·have l0:ld h1 b 0 (0+0) 1=some [.sl 1 a code.length c]:=by rw[Bx hb1 rfl];rfl
  have l1:ld h1 b 0 (0+1) 1=some [Iv ((p+1:Nat):Int)]:=by rw[Bx hb1 rfl];rfl
  have tm:∀ z:Int,0≤z→∃ x:Int,some (Iv (z.tmod m),h1)=some (Iv x,h1)∧0≤x∧(0<m→x<m):=fun z hz=>⟨_,rfl,Int.tmod_nonneg m hz,fun h=>by rw[Int.tmod_eq_emod_of_nonneg hz];exact Int.emod_lt_of_pos z h⟩
  have w1:IntKind.i64.wrap (((p+1:Nat):Int) - 1)=((p:Nat):Int):=by rw[wr (by omega) (by omega)];omega
  rw[Aj hm,l0,Ag,Aa,Af,Ah];by_cases h0:code.length=0
  ·rw[show (((code.length:Nat):Int)==0)=true by rw[beq_iff_eq];omega,Al];exact ⟨0,rfl,zcN _,fun h=>by omega⟩
  ·rw[show (((code.length:Nat):Int)==0)=false by rw[beq_eq_false_iff_ne];omega,Au,l1,Ag,Aa,Af,Ab,Ag,Aa,Af,Ah,w1];by_cases hpc:p<code.length
   ·obtain ⟨o,ha,hld⟩:=hc1.get hpc;have hbt:code[p].toNat<256:=code[p].toNat_lt;rw[Ak (by omega),Ag,Aa,Af,Ah,Ae hpc,ha,Ag,Be,hld,Ag,Aa,Af,Ab,FP (by omega),wr (by omega) (by omega)];exact tm _ (by omega)
   ·have hk1:p % code.length<code.length:=Nat.mod_lt _ (by omega);have hk2:(p*7+3) % code.length<code.length:=Nat.mod_lt _ (by omega);obtain ⟨o,ha,hld⟩:=hc1.get hk1;obtain ⟨o',ha',hld'⟩:=hc1.get hk2;have ho:o'=o:=by rw[ha] at ha';injection ha' with e;exact e.symm
    subst ho;have hb1:code[p % code.length].toNat<256:=UInt8.toNat_lt _;have hb2:code[(p*7+3) % code.length].toNat<256:=UInt8.toNat_lt _;have t1:((p:Nat):Int).tmod ((code.length:Nat):Int)=((p % code.length:Nat):Int):=rfl;have t2:IntKind.i64.wrap (IntKind.i64.wrap (((p:Nat):Int)*7)+3)=((p*7+3:Nat):Int):=by rw[wr (n:=((p:Nat):Int)*7) (by omega) (by omega),wr (by omega) (by omega)];omega
    have t3:((p*7+3:Nat):Int).tmod ((code.length:Nat):Int)=(((p*7+3) % code.length:Nat):Int):=rfl;have t4:((p:Nat):Int).tdiv ((code.length:Nat):Int)=((p / code.length:Nat):Int):=rfl;have hdv:p / code.length≤p:=Nat.div_le_self _ _;rw[Aj (by omega),Ag,Aa,Af,Ah,Ag,Aa,Af,Ah,FP (by omega),t1,Ae hk1,ha,Ag,Be,hld,Ag,Aa,Af,Ab,Ag,Aa,Af,Ah,Ag,Aa,Af,Ah,FP (by omega),t2,t3,Ae hk2,Ag,Be,hld',Ag,Aa,Af,Ab,Ag,Aa,Af,Ah,FP (by omega),FP (by omega),t4];generalize code[p % code.length].toNat=B1 at hb1;generalize code[(p*7+3) % code.length].toNat=B2 at hb2;generalize p / code.length=D at hdv;rw[wr (n:=((B1:Nat):Int)) (by omega) (by omega),wr (n:=((B2:Nat):Int)) (by omega) (by omega),wr (n:=((B1:Nat):Int)*131) (by omega) (by omega),wr (n:=((B2:Nat):Int)*1117) (by omega) (by omega),wr (n:=((B1:Nat):Int)*131+((B2:Nat):Int)*1117) (by omega) (by omega),
     wr (n:=((p:Nat):Int)*29) (by omega) (by omega),wr (n:=((B1:Nat):Int)*131+((B2:Nat):Int)*1117+((p:Nat):Int)*29) (by omega) (by omega),wr (n:=((D:Nat):Int)) (by omega) (by omega),wr (n:=((D:Nat):Int)*53) (by omega) (by omega),wr (n:=((B1:Nat):Int)*131+((B2:Nat):Int)*1117+((p:Nat):Int)*29+((D:Nat):Int)*53) (by omega) (by omega)]
    exact tm _ (U0 (by omega) (by omega))
theorem H9 {c e:Nat}{xs:List Int}{rows:List (List V)}{len:Nat} (r:Rd lo h b n) (hn:n≤1000000) (hc:h[c]?=some (.rows 1 e ro rows)) (hcb:c≠b) (hr:rows=xs.map fun x => [Iv x]) (hl:len=xs.length) (h0:0<len) :
  ∃ (x:Int) (h':Heap),Ad lo 67 [.ptr (some (b,(0,0))),.sl 1 (some (c,0)) len cc] h=some (Iv x,h')∧x∈xs∧Rd lo h' b (n+1)∧Mv h [b] h' [b]:=by
 obtain ⟨x,h1,e1,g1,g2,r1,m1⟩:=pick r hn ((len:Nat):Int);have hlt:=(EY hc).1;obtain ⟨k,rfl⟩:∃ k:Nat,x=(k:Int):=⟨x.toNat,by omega⟩;have hk:k<xs.length:=by have:=g2 (by omega);omega
 have hc1:h1[c]?=some (.rows 1 e ro rows):=by rw[m1.fr c hlt (by simpa using hcb)];exact hc
 refine ⟨xs[k],h1,NG ?_,zbb hk,r1,m1⟩;rw[e1,Ac,Ab,Ae (by omega),Ag,Be,zbH,Bx hc1 (i:=k) (row := [Iv xs[k]]) (by rw[hr,zcA,Dc hk];rfl)];rfl
theorem Zh {c e:Nat}{rows:List (List V)}{len:Nat} (r:Rd lo h b n) (hn:n≤1000000) (hc:h[c]?=some (.rows 1 e ro rows)) (hcb:c≠b) (hr:rows=xs.map fun x => [.str x]) (hl:len=xs.length) (h0:0<len) :
  ∃ (x:ByteArray) (h':Heap),Ad lo 108 [.ptr (some (b,(0,0))),.sl 1 (some (c,0)) len cc] h=some (.str x,h')∧x∈xs∧Rd lo h' b (n+1)∧Mv h [b] h' [b]:=by
 obtain ⟨x,h1,e1,g1,g2,r1,m1⟩:=pick r hn ((len:Nat):Int);have hlt:=(EY hc).1;obtain ⟨k,rfl⟩:∃ k:Nat,x=(k:Int):=⟨x.toNat,by omega⟩;have hk:k<xs.length:=by have:=g2 (by omega);omega
 have hc1:h1[c]?=some (.rows 1 e ro rows):=by rw[m1.fr c hlt (by simpa using hcb)];exact hc
 refine ⟨xs[k],h1,OE ?_,zbb hk,r1,m1⟩;rw[e1,Ac,Ab,Ae (by omega),Ag,Be,zbH,Bx hc1 (i:=k) (row := [.str xs[k]]) (by rw[hr,zcA,Dc hk];rfl)];rfl
theorem DL {e:Nat} (xs:List Int) {rows:List (List V)}{len:Nat} (r:Rd lo h b n) (hn:n≤1000000) (hr:rows=xs.map fun x => [Iv x]) (hl:len=xs.length) (h0:0<len) :
  ∃ (x:Int) (h':Heap),Ad lo 67 [.ptr (some (b,(0,0))),.sl 1 (some (h.length,0)) len cc] (h ++ [.rows 1 e false rows])=some (Iv x,h')∧x∈xs∧Rd lo h' b (n+1)∧Mv h [b] h' [b]:=by
 have m0:Mv h [b] (h ++ [.rows 1 e false rows]) [b]:=Mv.snoc' (by simp);have hlt:=r.lt;obtain ⟨x,h',e1,g1,r1,m1⟩:=H9 (h:=h ++ [Blk.rows 1 e false rows]) (c:=h.length) (e:=e) (ro:=false) (xs:=xs) (cc:=cc) (r.keep (F := []) (F' := []) Mv.snoc (by simp) (by simp)) hn (by simp) (by omega) hr hl h0;exact ⟨x,h',e1,g1,r1,m0.trans m1⟩
theorem MX {e:Nat} (xs:List ByteArray) {rows:List (List V)}{len:Nat} (r:Rd lo h b n) (hn:n≤1000000) (hr:rows=xs.map fun x => [.str x]) (hl:len=xs.length) (h0:0<len) :
  ∃ (x:ByteArray) (h':Heap),Ad lo 108 [.ptr (some (b,(0,0))),.sl 1 (some (h.length,0)) len cc] (h ++ [.rows 1 e false rows])=some (.str x,h')∧x∈xs∧Rd lo h' b (n+1)∧Mv h [b] h' [b]:=by
 have m0:Mv h [b] (h ++ [.rows 1 e false rows]) [b]:=Mv.snoc' (by simp);have hlt:=r.lt;obtain ⟨x,h',e1,g1,r1,m1⟩:=Zh (h:=h ++ [Blk.rows 1 e false rows]) (c:=h.length) (e:=e) (ro:=false) (xs:=xs) (cc:=cc) (r.keep (F := []) (F' := []) Mv.snoc (by simp) (by simp)) hn (by simp) (by omega) hr hl h0;exact ⟨x,h',e1,g1,r1,m0.trans m1⟩
theorem No {α β:Type}:∀ (l:List α),(l.map fun _=>([]:List β)).flatten = []
 | []=>rfl
 | _ :: l=>by simp[No l]
theorem RO {a:Pq}{c:Nq} (hs:RBytes h [.sl 1 a l.length c] l F) (hF:∀ y∈F,y<lo) (hlo:lo≤h.length) (hl:l.length≤1048576) (hcap:∀ k,c=some k→l.length≤k) :
  ∃ (b:Nat) (h':Heap),Ad lo 64 [.sl 1 a l.length c] h=some (.ptr (some (b,(0,0))),h')∧Rd lo h' b 0∧Mv h [] h' [b]:=by
 refine ⟨h.length,?_⟩;suffices hk:∃ h',_=some (V.ptr (some (h.length,(0,0))),h')∧Rd lo h' h.length 0∧Mv h [] h' [h.length] from by obtain ⟨h',e,g⟩:=hk;exact ⟨h',Qu e,g⟩
 by_cases h2:l.length>2000
 ·have hre:∀ {T:Type} (K:Pq→Nat→Nq→Option T),Ax a l.length c none (some (Iv 2000)) none K=K a 2000 c:=fun K=>by
   unfold Ax FI IV JR;cases c with
   | none=>simp only[Ab];rw[DT ⟨by omega,by omega⟩];rfl
   | some k=>have:=hcap k rfl;simp only[Ab];rw[DT ⟨by omega,by omega⟩];rfl
  have ht:RBytes h [.sl 1 a (l.take 2000).length c] (l.take 2000) F:=by
   obtain ⟨R',a',c',e,hR,hh⟩:=hs;injection e with e _;injection e with e0 e1 e2 e3;subst e1;subst e3;refine ⟨1,a,c,rfl,rfl,?_⟩;rcases hh with ⟨g,_⟩ | ⟨b,i,rs,Fs,g0,g1,g2,g3,g4⟩
   ·rw[g] at h2;simp at h2
   ·have hfl:=EAll.of_flat g3;refine .inr ⟨b,i,rs,(l.take 2000).map fun _ => [],g0,g1,by simp;omega,?_,?_⟩
    ·have:(rs.drop i).take (l.take 2000).length=(l.take 2000).map zaX:=by rw[List.map_take,← hfl.1,List.take_take];congr 1;simp
     rw[this];exact EAll.flat
    ·rw[g4,hfl.2,No]
  have hlen:(l.take 2000).length=2000:=by simp;omega
  rw[Ak (by omega),hre];refine ⟨_,rfl,⟨hlo,a,l.take 2000,c,0,F,?_,(Mv.snoc (t := [_])).keep0 (Sli.ok Cu) ht,hF,zbf _,by omega⟩,Mv.last⟩;rw[hlen];simp
 ·rw[Aj (by omega)];exact ⟨_,rfl,⟨hlo,a,l,c,0,F,by simp,(Mv.snoc (t := [_])).keep0 (Sli.ok Cu) hs,hF,zbf _,hl⟩,Mv.last⟩
end


variable {h1 h2:Heap}{α:Type}{l:List α}{El:Rel α}
theorem Mv.draw {h:Heap}{A F1 F2:List Nat}{b:Nat} (m1:Mv h A h1 (b :: F1)) (m2:Mv h1 [b] h2 (b :: F2)) (hb:∀ y∈F1,y<h1.length):Mv h A h2 (b ::(F2++F1)) :=
 m1.trans (m2.aside (G:=F1) m1.nd hb)
theorem Mv.draw0 {h:Heap}{A F1:List Nat}{b:Nat} (m1:Mv h A h1 (b :: F1)) (m2:Mv h1 [b] h2 [b]) (hb:∀ y∈F1,y<h1.length):Mv h A h2 (b :: F1):=m1.draw m2 hb
theorem Mv.draw1 {h:Heap}{A F1 F2:List Nat}{b:Nat} (m1:Mv h A h1 (b :: F1)) (m2:Mv h1 F1 h2 F2) (hb:b<h1.length):Mv h A h2 (b :: F2):=by have hn:=m1.nd;rw[zbj] at hn;exact m1.trans (m2.cons hb hn.1 hn.2)
theorem Mv.apart {h:Heap}{A F1:List Nat}{b:Nat} (m:Mv h A h1 (b :: F1)):∀ y∈F1,y ∉ [b]:=fun y hy hm=>by have hn:=m.nd;rw[zbj] at hn;rw[zbi] at hm;exact hn.1 (hm ▸ hy)
section
variable {lo:Nat}{h h':Heap}{F F':List Nat}{b n:Nat}
theorem Rd.keepF {A F1 F2:List Nat} (r:Rd lo h1 b n) (m:Mv h A h1 (b :: F1)) (m2:Mv h1 F1 h2 F2) (hF:∀ y∈F1,lo≤y):Rd lo h2 b n:=by have hn:=m.nd;rw[zbj] at hn;exact r.keep m2 hn.1 hF
theorem Pc (r:Rd lo h b n) (hn:n≤900000):∃ (t:Tag) (h':Heap),Ad lo 198 [.ptr (some (b,(0,0)))] h=some (.agg t.cs,h')∧(A2 t.time t.place=true∧t.time≤9)∧Rd lo h' b (n+3)∧Mv h [b] h' [b]:=by
 obtain ⟨x,h1,e1,g1,g1',r1,m1⟩:=pick r (by omega) 3;suffices hk:∃ (t:Tag) (h':Heap),_=some (V.agg t.cs,h')∧(A2 t.time t.place=true∧t.time≤9)∧Rd lo h' b (n+3)∧Mv h [b] h' [b] from by obtain ⟨t,h',e,g⟩:=hk;exact ⟨t,h',Rl e,g⟩
 rw[e1,Ac,Ab];cases hx:(x==(0:Int)) with
 | true =>rw[Al];exact ⟨⟨0,0⟩,h1,rfl,⟨rfl,by show (0:Int)≤9;decide⟩,r1.up (by omega),m1⟩
 | false =>obtain ⟨y,h2,e2,g2,g2',r2,m2⟩:=pick r1 (by omega) 9;obtain ⟨z,h3,e3,g3,g3',r3,m3⟩:=pick r2 (by omega) 3;have hy:=g2' (by omega);have hz:=g3' (by omega);rw[Au,e2,Ac,Ab,e3,Ac,Ab,wr (by omega) (by omega)];exact ⟨⟨1+y,z⟩,h3,rfl,⟨by simp[A2,Am];omega,by show 1+y≤9;omega⟩,r3,(m1.trans m2).trans m3⟩
theorem Km (r:Rd lo h b n) (hn:n≤890000):∃ (t:Tag) (h':Heap),Ad lo 174 [.ptr (some (b,(0,0)))] h=some (.agg t.cs,h')∧Rd lo h' b (n+4)∧Mv h [b] h' [b]:=by
 obtain ⟨x,h1,e1,g1,g1',r1,m1⟩:=pick r (by omega) 8;suffices hk:∃ (t:Tag) (h':Heap),_=some (V.agg t.cs,h')∧Rd lo h' b (n+4)∧Mv h [b] h' [b] from by obtain ⟨t,h',e,g⟩:=hk;exact ⟨t,h',NJ e,g⟩
 rw[e1,Ac,Ab];cases hx:(x==(0:Int)) with
 | true =>obtain ⟨y,h2,e2,_,r2,m2⟩:=DL (e:=3) [0,-1,1000,999] (rows := [[Iv 0],[Iv (-1)],[Iv 1000],[Iv 999]]) (len:=4) (cc:=some 4) r1 (by omega) rfl rfl (by decide);obtain ⟨z,h3,e3,_,r3,m3⟩:=DL (e:=3) [0,1,3,-1] (rows := [[Iv 0],[Iv 1],[Iv 3],[Iv (-1)]]) (len:=4) (cc:=some 4) r2 (by omega) rfl rfl (by decide);rw[Al,e2,Ac,Ab,e3,Ac,Ab];exact ⟨⟨y,z⟩,h3,rfl,r3.up (by omega),(m1.trans m2).trans m3⟩
 | false =>obtain ⟨t,h2,e2,_,r2,m2⟩:=Pc r1 (by omega);simp only[Tag.cs] at e2;rw[Au,e2,Ac,Ap,Aa,Ab,Aa,Ab,Af];exact ⟨t,h2,rfl,r2,m1.trans m2⟩
theorem Jy (r:Rd lo h b n) (hn:n≤900000):∃ (s:ByteArray) (h':Heap),Ad lo 262 [.ptr (some (b,(0,0)))] h=some (.str s,h')∧DI s=true∧Rd lo h' b (n+1)∧Mv h [b] h' [b]:=by
 obtain ⟨s,h1,e1,g1,r1,m1⟩:=MX (e:=9) [⟨⟨[]⟩⟩,⟨⟨[97]⟩⟩,⟨⟨[98]⟩⟩,⟨⟨[120,35,49]⟩⟩,⟨⟨[61]⟩⟩,⟨⟨[45]⟩⟩,⟨⟨[108,111,110,103,116,101,120,116]⟩⟩,⟨⟨[122,122]⟩⟩]
  (rows := [[.str ⟨⟨[]⟩⟩],[.str ⟨⟨[97]⟩⟩],[.str ⟨⟨[98]⟩⟩],[.str ⟨⟨[120,35,49]⟩⟩],[.str ⟨⟨[61]⟩⟩],[.str ⟨⟨[45]⟩⟩],[.str ⟨⟨[108,111,110,103,116,101,120,116]⟩⟩],[.str ⟨⟨[122,122]⟩⟩]]) (len:=8) (cc:=some 8) r (by omega) rfl rfl (by decide)
 refine ⟨s,h1,Qr ?_,?_,r1,m1⟩
 ·rw[e1,Ac,Bh]
 ·have:∀ x∈([⟨⟨[]⟩⟩,⟨⟨[97]⟩⟩,⟨⟨[98]⟩⟩,⟨⟨[120,35,49]⟩⟩,⟨⟨[61]⟩⟩,⟨⟨[45]⟩⟩,⟨⟨[108,111,110,103,116,101,120,116]⟩⟩,⟨⟨[122,122]⟩⟩]:List ByteArray),DI x=true:=zbp.1 (by decide);exact this s g1
theorem Sli.made {cs:α→List V}{R e:Nat}{rows:List (List V)} (hr:rows=l.map cs):Sli false R e (flat cs) (h ++ [.rows R e false rows]) [.sl R (some (h.length,0)) l.length (some l.length)] l [h.length]:=by subst hr;refine ⟨R,some (h.length,0),some l.length,rfl,rfl,l.map cs,l.map fun _ => [],by simp,by simp,fun k hk=>by injection hk with hk;simp;omega,(fun hc=>(by cases hc)),?_,by rw[No]⟩;rw[zcc,zb3 (by simp)];exact EAll.flat
def L9:List Tag := [⟨0,0⟩,⟨0,0⟩,⟨0,0⟩,⟨0,0⟩]
theorem Is:∃ h' q,Ad lo 106 [] h=some (.agg [.sl 2 (some (q,0)) 4 (some 4)],h')∧RTags false h' [.sl 2 (some (q,0)) 4 (some 4)] L9 [q]∧Mv h [] h' [q] :=
 ⟨_,h.length,Rn rfl,Sli.made (l:=L9) rfl,Mv.last⟩
theorem XV {v:Ver} (h1:0≤v.key∧v.key≤3) (h2:DI v.text=true) (h3:v.gone=true→DQ v.text=true) (h4:A6 v.past=true) (h5:A2 v.tag.time v.tag.place=true) (h6:∀ t∈v.past,t.time<v.tag.time) (h7:0<v.tag.time):A3 v=true:=by
 unfold A3 E1;rw[h2,h4,h5,decide_eq_true (latest_lt.2 ⟨h7,h6⟩)];have:Am v.key 0 3=true:=by simp[Am];omega
 rw[this];cases hg:v.gone with
 | false=>rfl
 | true=>rw[h3 hg];rfl
theorem flat_drop {Fs:List (List Nat)}:(Fs.drop 1).flatten.Sublist Fs.flatten:=by
 cases Fs with
 | nil=>simp
 | cons F Fs=>simp only[List.drop_succ_cons,zcc,zbG];exact List.sublist_append_right _ _
theorem Sli.behind {R e q i k m:Nat} (hs:Sli false R e El h [.sl R (some (q,i)) m (some k)] l F) (h0:0<l.length) (hnd:F.Nodup) :
  (∀ {T:Type} (K:Pq→Nat→Nq→Option T),1<k→Ax (some (q,i)) m (some k) (some (Iv 1)) none none K=K (some (q,i+1)) (l.drop 1).length (some (k - 1))) ∧
   ∃ F',Sli false R e El h [.sl R (some (q,i+1)) (l.drop 1).length (some (k - 1))] (l.drop 1) F'∧F'.Nodup∧∀ y∈F',y∈F:=by
 have hm:=hs.val;subst hm;obtain ⟨b',i',rs,Fs,ha,g1,g2,g3,g4,g5,rfl⟩:=hs.data h0;injection ha with ha;injection ha with e1 e2;subst e1;subst e2;obtain ⟨k1,k2⟩:=g3 k rfl;refine ⟨fun K hk=>?_,q ::(Fs.drop 1).flatten,⟨R,some (q,i+1),some (k - 1),rfl,rfl,rs,Fs.drop 1,g1,by simp;omega,fun k' hk=>?_,(fun hc=>(by cases hc)),?_,rfl⟩,?_,fun y hy=>?_⟩
 ·unfold Ax FI IV JR Pv;simp only[Ab,zck];rw[DT ⟨by omega,by omega⟩];have:Nat.beq k (Int.toNat 1)=false:=by
   cases hb:Nat.beq k (Int.toNat 1) with
   | false=>rfl
   | true =>have:=zbl hb;have e:Int.toNat 1=1:=rfl;omega
  rw[this,Au,zcv];rfl
 ·injection hk with hk;subst hk;simp only[zcv];omega
 ·have hd:=g5.drop 1;have:((rs.drop i).take l.length).drop 1=(rs.drop (i+1)).take (l.drop 1).length:=by rw[List.drop_take,zcl,zcv]
  rw[← this];exact hd
 ·rw[zbj] at hnd ⊢;have hsub:(Fs.drop 1).flatten.Sublist Fs.flatten:=flat_drop;exact ⟨fun hm=>hnd.1 (hsub.mem hm),hnd.2.sublist hsub⟩
 ·have hsub:(Fs.drop 1).flatten.Sublist Fs.flatten:=flat_drop;rw[zbn] at hy ⊢;exact hy.imp id fun hy=>hsub.mem hy
theorem Sli.fresh_put (ok:El.Ok) {R e m k:Nat}{a:Pq}{c:Nq}{E:List Nat} (hs:Sli false R e El h [.sl R a m c] l F) (hk:k<l.length) (hnd:(F++E).Nodup) (hlo:∀ y∈F,lo≤y) :
  ∃ b i row G,a=some (b,i)∧(∃ rs,h[b]?=some (.rows R e false rs)∧rs[i+k]?=some row)∧El h row l[k] G∧(∀ y∈G,y∈F) ∧
   ∀ j cs row' x' G',paste row j cs=some row'→El h row' x' G'→G'.Nodup→(∀ y∈G',y∈G∨y∈E) →
    ∃ h2 F2,st lo h b (i+k) j cs=some h2∧Sli false R e El h2 [.sl R a m c] (l.set k x') F2∧Mv h (F++E) h2 F2:=by
 have hnd0:=hnd;rw[zbd] at hnd0;obtain ⟨hn1,hn2,hn3⟩:=hnd0;have hbd:=(Sli.ok ok).bd _ _ _ _ hs;obtain ⟨b',i',rs,row,G,ha,hbF,hbG,hb,hrow,hel,hGF,hGn,put⟩:=hs.put ok.fr hk hn1;have hblt:=hbd b' hbF;refine ⟨b',i',row,G,ha,⟨rs,hb,hrow⟩,hel,hGF,fun j cs row' x' G' hp hx hGn' hG'=>?_⟩;have e2:=DJ hb (hlo b' hbF) hrow hp;have hbG':b'∉G':=fun hm=>by
  rcases hG' b' hm with g | g
  ·exact hbG g
  ·exact hn3 b' hbF b' g rfl
 have fr2:∀ y,y≠b'→(h.set b' (.rows R e false (rs.set (i'+k) row')))[y]?=h[y]?:=fun y hy=>zbh (Ne.symm hy);obtain ⟨F2,p1,p2,p3,_⟩:=put (h.set b' (.rows R e false (rs.set (i'+k) row'))) row' x' G' (by simp[hblt]) (fun y hy hyb _=>fr2 y hyb) (ok.fr _ _ _ _ _ hx fun y hy=>fr2 y fun e=>hbG' (e ▸ hy)) hGn' (fun y hy hyF=>by
  rcases hG' y hy with g | g
  ·exact g
  ·exact absurd rfl (hn3 y hyF y g))
 refine ⟨_,F2,e2,p1,by simp,fun y hy hyF=>fr2 y fun e=>hyF (e ▸ zbD _ hbF),p3,fun y hy => .inl ?_⟩;rcases p2 y hy with g | g
 ·exact zbD _ g.1
 ·rcases hG' y g with g | g
  ·exact zbD _ (hGF y g)
  ·exact zbF _ g
theorem LU (r:Rd lo h b n) (hn:n≤800000) (hl:lo≤h.length):∃ (v:Ver) (q:Nat) (h':Heap) (F':List Nat),Ad lo 173 [.ptr (some (b,(0,0)))] h=some (.agg (v.cs (some (q,0)) (some 4)),h')∧RTags false h' [.sl 2 (some (q,0)) v.past.length (some 4)] v.past F'∧A3 v=true∧Rd lo h' b (n+20)∧Mv h [b] h' (b :: F'):=by
 obtain ⟨key,h1,e1,g1,g1',r1,m1⟩:=pick r (by omega) 4;obtain ⟨h2,q,e2,t2,m2⟩:=Is (lo:=lo) (h:=h1);have r2:=r1.keep m2 (by simp) (by simp);obtain ⟨s,h3,e3,gs,r3,m3⟩:=Jy r2 (by omega);have hb1:=r1.lt;have hbq:b≠q:=by have:=m2.new q (by simp);omega
 have m12:Mv h [b] h2 (b :: [q]):=m1.draw1 (F1 := []) m2 hb1;have t3:RTags false h3 [.sl 2 (some (q,0)) 4 (some 4)] L9 [q]:=m3.keep rtags_ok t2 (by simpa using fun e=>hbq e.symm);have hq2:∀ y ∈ [q],y<h2.length:=rtags_ok.bd _ _ _ _ t2;have m13:Mv h [b] h3 (b :: [q]):=m12.draw0 m3 hq2;have hkey:=g1' (by omega);suffices hk:∃ (v:Ver) (h':Heap) (F':List Nat),_=some (V.agg (v.cs (some (q,0)) (some 4)),h')∧RTags false h' [.sl 2 (some (q,0)) v.past.length (some 4)] v.past F'∧A3 v=true∧Rd lo h' b (n+20)∧Mv h [b] h' (b :: F') from by obtain ⟨v,h',F',e,g⟩:=hk;exact ⟨v,q,h',F',Rk e,g⟩
 rw[e1,Ac,Ab,e2,Ac,Ap,Aa,Ah,Af,e3,Ac,Bh];have loop:∀ (m i:Nat) (x4:Int) (l:List Tag) (hh:Heap) (F:List Nat),m+i=4→0≤x4→x4≤9→l.length=4→(∀ t∈l,A2 t.time t.place=true∧t.time≤x4)→RTags false hh [.sl 2 (some (q,0)) 4 (some 4)] l F→Rd lo hh b (n+2+3*i)→Mv h [b] hh (b :: F) →
   ∃ (v:Ver) (h':Heap) (F':List Nat),Ci lo b 0 0 x4 ((i:Nat):Int) 0 0 0 0 none 0 (some 0) ⟨⟨[]⟩⟩ false key 0 0 (some (q,0)) 4 (some 4) s false hh=some (V.agg (v.cs (some (q,0)) (some 4)),h')∧RTags false h' [.sl 2 (some (q,0)) v.past.length (some 4)] v.past F'∧A3 v=true∧Rd lo h' b (n+20)∧Mv h [b] h' (b :: F'):=by
  intro m;induction m with
  | zero =>
   intro i x4 l hh F hi h0 h9 h4 hall ht rr mm;have hi4:i=4:=by omega
   subst hi4;obtain ⟨k1,p1,f1,u1,v1,s1,n1⟩:=pick rr (by omega) 3;obtain ⟨k2,p2,f2,u2,v2,s2,n2⟩:=pick s1 (by omega) 3;obtain ⟨k3,p3,f3,u3,v3,s3,n3⟩:=pick s2 (by omega) 6;have hFb:=rtags_ok.bd _ _ _ _ ht;have nn:=(n1.trans n2).trans n3;have t':RTags false p3 [.sl 2 (some (q,0)) 4 (some 4)] l F:=nn.keep rtags_ok ht mm.apart;have mm':=mm.draw0 nn hFb;have w1:=v1 (by omega);have w2:=v2 (by omega);have hpo:A6 l=true:=by simp only[A6,Dr,decide_eq_true_eq,zbp];exact ⟨h4,fun t ht=>(hall t ht).1⟩
   have htg:A2 (x4+1+k1) k2=true:=by simp[A2,Am];omega
   rw[Ci.e,Aj (by omega),f1,Ac,Ab,f2,Ac,Ab,f3,Ac,Ab,wr (n:=x4+1) (by omega) (by omega),wr (n:=x4+1+k1) (by omega) (by omega)];cases k3==(0:Int) with
   | true =>rw[Al];refine ⟨⟨key,⟨x4+1+k1,k2⟩,l,⟨⟨[]⟩⟩,true⟩,p3,F,by simp only[Ver.cs,h4],by simp only[h4];exact t',XV ⟨g1,by show key≤3;omega⟩ rfl (fun _=>rfl) hpo htg (fun t ht=>?_) (by show 0<x4+1+k1;omega),s3.up (by omega),mm'⟩;have:=(hall t ht).2;show t.time<x4+1+k1;omega
   | false =>rw[Au];refine ⟨⟨key,⟨x4+1+k1,k2⟩,l,s,false⟩,p3,F,by simp only[Ver.cs,h4],by simp only[h4];exact t',XV ⟨g1,by show key≤3;omega⟩ gs (fun hc=>by cases hc) hpo htg (fun t ht=>?_) (by show 0<x4+1+k1;omega),s3.up (by omega),mm'⟩;have:=(hall t ht).2;show t.time<x4+1+k1;omega
  | succ m ih =>
   intro i x4 l hh F hi h0 h9 h4 hall ht rr mm;have hil:i<l.length:=by omega
   obtain ⟨t,p1,f1,⟨u1,u2⟩,s1,n1⟩:=Pc rr (by omega);have hFb:=rtags_ok.bd _ _ _ _ ht;have t1:RTags false p1 [.sl 2 (some (q,0)) 4 (some 4)] l F:=n1.keep rtags_ok ht mm.apart;have mm1:=mm.draw0 n1 hFb;have hnd1:=mm1.nd;rw[zbj] at hnd1;have hlo1:∀ y∈b :: F,lo≤y:=fun y hy=>mm1.ge hl (fun z hz=>by rw[zbi] at hz;subst hz;exact r.ge) y hy;have hloF:∀ y∈F,lo≤y:=fun y hy=>hlo1 y (by simp[hy]);obtain ⟨b',i',rs,row,G,ha,hbF,hbG,hbb,hrow,⟨hr1,hG⟩,hGF,hGn,_,put⟩:=Sli.at (lo:=lo) Cu t1 hil hnd1.2 hloF;injection ha with ha;injection ha with z1 z2;subst z1;subst z2;subst hG;obtain ⟨h5,F5,e5,t5,m5,hb5,_,_⟩:=put p1 [] 0 [Iv t.time,Iv t.place] t.cs t Mv.nil (by rw[hr1];exact Db rfl) ⟨rfl,rfl⟩;have l5:ld h5 q (0+i) 0 1=some [Iv t.time]:=by rw[Bx hb5 (row:=t.cs) (zbr (EY hrow).1)];rfl
   have s5:=s1.keepF mm1 m5 hloF;have mm5:=mm1.draw1 m5 s1.lt;have hall5:∀ x,x4≤x→t.time≤x→∀ u∈l.set i t,A2 u.time u.place=true∧u.time≤x:=fun x hx1 hx2 u hu=>by
    rcases zby hu with hu | rfl
    ·have:=hall u hu;exact ⟨this.1,by omega⟩
    ·exact ⟨u1,hx2⟩
   simp only[Tag.cs] at f1;have ht0:=(Dx u1).1;rw[Ci.e,Ak (by omega),f1,Ac,Ap,Aa,Ab,Aa,Ab,Af,Ae (by omega),Ag,Be,e5,Ag,Ae (by omega),Ag,l5,Ag,Aa,Af,Ab,Ar (by omega)];by_cases hc:t.time>x4
   ·rw[Ak hc,Ae (by omega),Ag,l5,Ag,Aa,Af,Ab];exact ih (i+1) t.time (l.set i t) h5 F5 (by omega) ht0 u2 (by simpa using h4) (hall5 _ (by omega) (zcN _)) t5 (s5.up (by omega)) mm5
   ·rw[Aj hc];exact ih (i+1) x4 (l.set i t) h5 F5 (by omega) h0 h9 (by simpa using h4) (hall5 _ (zcN _) (by omega)) t5 (s5.up (by omega)) mm5
 exact loop 4 0 0 L9 h3 [q] rfl (zcN _) (by decide) rfl (by intro t ht;simp[L9] at ht;subst ht;exact ⟨rfl,zcN _⟩) t3 (r3.up (by omega)) m13
end


variable {l:List Ver}
section
variable {lo:Nat}{h h':Heap}{F F':List Nat}{b n:Nat}
theorem Mv.thin {A F1 F2:List Nat}{h1:Heap} (m:Mv h A h1 (b :: F1)) (hn:F2.Nodup) (hs:∀ y∈F2,y∈F1):Mv h A h1 (b :: F2):=by have hn1:=m.nd;rw[zbj] at hn1;refine m.lean (zbj.2 ⟨fun hm=>hn1.1 (hs b hm),hn⟩) fun y hy=>?_;rw[zbn] at hy ⊢;exact hy.imp id (hs y)
theorem Kl (r:Rd lo h b n) (hn:n≤700000) (hl:lo≤h.length):∃ (v:Ver) (a:Pq) (c:Nq) (h':Heap) (F':List Nat),Ad lo 78 [.ptr (some (b,(0,0)))] h=some (.agg (v.cs a c),h')∧RTags false h' [.sl 2 a v.past.length c] v.past F'∧(v.past.length≤4∧v.text.size≤10)∧Rd lo h' b (n+40)∧Mv h [b] h' (b :: F'):=by
 obtain ⟨v,q,h1,F1,e1,t1,hv,r1,m1⟩:=LU r (by omega) hl;obtain ⟨x,h2,e2,g,g',r2,m2⟩:=pick r1 (by omega) 10;have hF1:=rtags_ok.bd _ _ _ _ t1;have t2:=m2.keep rtags_ok t1 m1.apart;have m12:=m1.draw0 m2 hF1;have hF2:=rtags_ok.bd _ _ _ _ t2;have hth:=HF hv;have h4:v.past.length=4:=Bn (AB hv).2.2.2.1;have hsz:v.past.length≤4∧v.text.size≤10:=⟨by omega,by have:=hth.2.1;omega⟩;have hlo2:∀ y∈F1,lo≤y:=fun y hy=>m12.ge hl (fun z hz=>by rw[zbi] at hz;subst hz;exact r.ge) y (by simp[hy]);have hnd2:=m12.nd;rw[zbj] at hnd2;suffices hk:∃ (v:Ver) (a:Pq) (c:Nq) (h':Heap) (F':List Nat),_=some (V.agg (v.cs a c),h')∧RTags false h' [.sl 2 a v.past.length c] v.past F'∧(v.past.length≤4∧v.text.size≤10)∧Rd lo h' b (n+40)∧Mv h [b] h' (b :: F') from by obtain ⟨v,a,c,h',F',e,gg⟩:=hk;exact ⟨v,a,c,h',F',NI e,gg⟩
 simp only[Ver.cs] at e1;rw[e1,Ac,Ap,Aa,Ab,Aa,Ab,Aa,Ab,Aa,Ah,Aa,Bh,Aa,At,Af,e2,Ac,Ab];cases x==(0:Int) with
 | true =>obtain ⟨k,h3,e3,_,r3,m3⟩:=DL (e:=3) [-1,4] (rows := [[Iv (-1)],[Iv 4]]) (len:=2) (cc:=some 2) r2 (by omega) rfl rfl (by decide);rw[Al,e3,Ac,Ab];exact ⟨⟨k,v.tag,v.past,v.text,v.gone⟩,_,_,h3,F1,rfl,m3.keep rtags_ok t2 m12.apart,hsz,r3.up (by omega),m12.draw0 m3 hF2⟩
 | false =>
 rw[Au];cases x==(1:Int) with
 | true =>
  obtain ⟨s,h3,e3,hs,r3,m3⟩:=MX (e:=9) [⟨⟨[97,32,98]⟩⟩,⟨⟨[116,111,111,108,111,110,103,101,114]⟩⟩,⟨⟨[10]⟩⟩] (rows := [[.str ⟨⟨[97,32,98]⟩⟩],[.str ⟨⟨[116,111,111,108,111,110,103,101,114]⟩⟩],[.str ⟨⟨[10]⟩⟩]]) (len:=3) (cc:=some 3) r2 (by omega) rfl rfl (by decide);have hs10:s.size≤10:=by have:∀ x∈([⟨⟨[97,32,98]⟩⟩,⟨⟨[116,111,111,108,111,110,103,101,114]⟩⟩,⟨⟨[10]⟩⟩]:List ByteArray),decide (x.size≤10)=true:=zbp.1 (by decide);exact of_decide_eq_true (this s hs)
  rw[Al,e3,Ac,Bh];exact ⟨⟨v.key,v.tag,v.past,s,v.gone⟩,_,_,h3,F1,rfl,m3.keep rtags_ok t2 m12.apart,⟨hsz.1,hs10⟩,r3.up (by omega),m12.draw0 m3 hF2⟩
 | false =>
 rw[Au];cases x==(2:Int) with
 | true =>obtain ⟨er,F3,t3,n3,s3⟩:=t2.behind (by omega) hnd2.2;rw[Al,er _ (by decide)];exact ⟨⟨v.key,v.tag,v.past.drop 1,v.text,v.gone⟩,_,_,h2,F3,rfl,t3,⟨by simp;omega,hsz.2⟩,r2.up (by omega),m12.thin n3 s3⟩
 | false =>
 rw[Au];cases x==(3:Int) with
 | true =>
  obtain ⟨k,h3,e3,k1,k2,r3,m3⟩:=pick r2 (by omega) 4;have t3:=m3.keep rtags_ok t2 m12.apart;have m13:=m12.draw0 m3 hF2;have k3:=k2 (by omega);obtain ⟨f,rfl⟩:∃ f:Nat,k=(f:Int):=⟨k.toNat,by omega⟩;obtain ⟨b',i',rs,row,G,ha,hbF,hbG,hbb,hrow,⟨hr1,hG⟩,hGF,hGn,_,put⟩:=Sli.at (lo:=lo) Cu t3 (show f<v.past.length by omega) hnd2.2 hlo2;injection ha with ha;injection ha with z1 z2;subst z1;subst z2;subst hG;obtain ⟨h5,F5,e5,t5,m5,hb5,_,_⟩:=put h3 [] 0 [Iv 50,Iv 1] (Tag.cs ⟨50,1⟩) ⟨50,1⟩ Mv.nil (by rw[hr1];exact Db rfl) ⟨rfl,rfl⟩;rw[Al,e3,Ac,Ab,Ae (by omega),Ag,Be,e5,Ag];have t5':RTags false h5 [.sl 2 (some (q,0)) (v.past.set f ⟨50,1⟩).length (some 4)] (v.past.set f ⟨50,1⟩) F5:=by rw[zbz];exact t5
  exact ⟨⟨v.key,v.tag,v.past.set f ⟨50,1⟩,v.text,v.gone⟩,some (q,0),some 4,h5,F5,by simp only[Ver.cs,zbz],t5',⟨by simp;omega,hsz.2⟩,(r3.keepF m13 m5 hlo2).up (by omega),m13.draw1 m5 r3.lt⟩
 | false =>
 rw[Au];cases x==(4:Int) with
 | true =>obtain ⟨t,h3,e3,r3,m3⟩:=Km r2 (by omega);simp only[Tag.cs] at e3;rw[Al,e3,Ac,Ap,Aa,Ab,Aa,Ab,Af];exact ⟨⟨v.key,t,v.past,v.text,v.gone⟩,_,_,h3,F1,rfl,m3.keep rtags_ok t2 m12.apart,hsz,r3.up (by omega),m12.draw0 m3 hF2⟩
 | false =>
 rw[Au];cases x==(5:Int) with
 | true=>exact ⟨⟨v.key,v.tag,v.past,v.text,true⟩,_,_,h2,F1,rfl,t2,hsz,r2.up (by omega),m12⟩
 | false=>exact ⟨v,_,_,h2,F1,rfl,t2,hsz,r2.up (by omega),m12⟩
def HS:List Ver := [TB,TB,TB,TB]
theorem Rx:AO HS=true:=by decide
theorem LP:RVer false h [Iv 0,Iv 0,Iv 0,.sl 0 none 0 (some 0),.str ⟨⟨[]⟩⟩,.bool false] TB []:=⟨_,rfl,Sli.nil⟩
theorem Pp:∃ h' q,Ad lo 309 [] h=some (.agg [.sl 6 (some (q,0)) 4 (some 4)],h')∧RVers false h' [.sl 6 (some (q,0)) 4 (some 4)] HS [q]∧Mv h [] h' [q]:=by
 refine ⟨_,h.length,Tm rfl,⟨6,some (h.length,0),some 4,rfl,rfl,[[Iv 0,Iv 0,Iv 0,.sl 0 none 0 (some 0),.str ⟨⟨[]⟩⟩,.bool false],[Iv 0,Iv 0,Iv 0,.sl 0 none 0 (some 0),.str ⟨⟨[]⟩⟩,.bool false],[Iv 0,Iv 0,Iv 0,.sl 0 none 0 (some 0),.str ⟨⟨[]⟩⟩,.bool false],[Iv 0,Iv 0,Iv 0,.sl 0 none 0 (some 0),.str ⟨⟨[]⟩⟩,.bool false]],[[],[],[],[]],by simp,by decide,fun k hk=>?_,(fun hc=>(by cases hc)),?_,rfl⟩,Mv.last⟩
 ·injection hk with hk;subst hk;exact ⟨by decide,by decide⟩
 ·exact ⟨LP,LP,LP,LP,trivial⟩
theorem U5 (r:Rd lo h b n) (hn:n≤600000) (hl:lo≤h.length):∃ (l:List Ver) (q:Nat) (h':Heap) (F':List Nat),Ad lo 250 [.ptr (some (b,(0,0)))] h=some (.agg [.sl 6 (some (q,0)) l.length (some 4)],h')∧RVers false h' [.sl 6 (some (q,0)) l.length (some 4)] l F'∧AO l=true∧Rd lo h' b (n+200)∧Mv h [b] h' (b :: F'):=by
 obtain ⟨h1,q,e1,t1,m1⟩:=Pp (lo:=lo) (h:=h);have r1:=r.keep m1 (by simp) (by simp);obtain ⟨x,h2,e2,g,g',r2,m2⟩:=pick r1 (by omega) 7;have m01:Mv h [b] h1 (b :: [q]):=(Mv.refl (F := [b]) (by simp)).draw1 (F1 := []) m1 r.lt;have hF1:=rvers_ok.bd _ _ _ _ t1;have t2:=m2.keep rvers_ok t1 m01.apart;have m12:=m01.draw0 m2 hF1;suffices hk:∃ (l:List Ver) (h':Heap) (F':List Nat),_=some (V.agg [.sl 6 (some (q,0)) l.length (some 4)],h')∧RVers false h' [.sl 6 (some (q,0)) l.length (some 4)] l F'∧AO l=true∧Rd lo h' b (n+200)∧Mv h [b] h' (b :: F') from by obtain ⟨l,h',F',e,gg⟩:=hk;exact ⟨l,q,h',F',OD e,gg⟩
 rw[e1,Ac,Ap,Aa,Ah,Af,e2,Ac,Ab];have loop:∀ (m:Nat) (l:List Ver) (n3:Nat) (hh:Heap) (F:List Nat),m≤6→n3=l.length→AO l=true→RVers false hh [.sl 6 (some (q,0)) n3 (some 4)] l F→Rd lo hh b (n+1+21*(6 - m))→Mv h [b] hh (b :: F) →
   ∃ (l:List Ver) (h':Heap) (F':List Nat),Ca lo b 0 0 ((m:Nat):Int) 0 none 0 (some 0) (some (q,0)) n3 (some 4) hh=some (V.agg [.sl 6 (some (q,0)) l.length (some 4)],h')∧RVers false h' [.sl 6 (some (q,0)) l.length (some 4)] l F'∧AO l=true∧Rd lo h' b (n+200)∧Mv h [b] h' (b :: F'):=by
  intro m;induction m with
  | zero =>intro l n3 hh F hm hn3 hok ht rr mm;subst hn3;rw[Ca.e,Aj (by omega)];exact ⟨l,hh,F,rfl,ht,hok,rr.up (by omega),mm⟩
  | succ m ih =>intro l n3 hh F hm hn3 hok ht rr mm;subst hn3;have hlh:lo≤hh.length:=zba hl mm.le;obtain ⟨v,qv,h5,F5,e5,t5,hv,r5,m5⟩:=LU rr (by omega) hlh;have hFb:=rvers_ok.bd _ _ _ _ ht;have mm5:=mm.draw m5 hFb;have hnd5:=mm5.nd;rw[zbj,zbd] at hnd5;have ht5:RVers false h5 [.sl 6 (some (q,0)) l.length (some 4)] l F:=m5.keep rvers_ok ht mm.apart;have hlo5:∀ y∈F5++F,lo≤y:=fun y hy=>mm5.ge hl (fun z hz=>by rw[zbi] at hz;subst hz;exact r.ge) y (zbS _ hy);have h4:=AX hok;have hkey:=(AB hv).1;obtain ⟨h6,F6,e6,t6,m6⟩:=Lh (lo:=lo) (av:=some (qv,0)) (cv:=some 4) ht5 t5 hnd5.2.2.1 (fun y hy=>hlo5 y (zbF _ hy)) (zba hlh m5.le) ⟨hkey.1,by omega⟩ (by have:=(HF hv).1;omega);have hFb5:=rvers_ok.bd _ _ _ _ ht5;have hT5:=rtags_ok.bd _ _ _ _ t5;have m5F:Mv h [b] h5 (b :: F):=mm5.thin hnd5.2.2.1 fun y hy=>zbF _ hy;have mm6:=m5F.draw1 m6 r5.lt;have r6:=r5.keepF m5F m6 (fun y hy=>hlo5 y (zbF _ hy));simp only[Ver.cs] at e5 e6;rw[Ca.e,Ak (by omega),e5,Ac,Ap,Aa,Ab,Aa,Ab,Aa,Ab,Aa,Ah,Aa,Bh,Aa,At,Af,e6,Ac,Ap,Aa,Ah,Af,show IntKind.wrap .i64 (((m+1:Nat):Int) - 1)=((m:Nat):Int) from by rw[wr (by omega) (by omega)];omega];exact ih (Eb l v) l.length h6 F6 (by omega) addVer_len.symm (TK hok hv) t6 (r6.up (by omega)) mm6
 have hx:=g' (by omega);obtain ⟨k,rfl⟩:∃ k:Nat,x=(k:Int):=⟨x.toNat,by omega⟩;exact loop k HS 4 h2 [q] (by omega) rfl Rx t2 (r2.up (by omega)) m12
theorem zai (hl:l.length≤4) (h:∀ v∈l,v.past.length≤4∧v.text.size≤10):Ck l:=⟨by omega,fun v hv=>by have:=h v hv;omega⟩
theorem TJ (h:AO l=true):l.length≤4∧∀ v∈l,v.past.length≤4∧v.text.size≤10:=by refine ⟨by rw[AX h];exact zbf _,fun v hv=>?_⟩;obtain ⟨i,hi⟩:=zbt.1 hv;have:=Sp (HW h hi);exact ⟨this.1,by have:=this.2.1;omega⟩
theorem QR (r:Rd lo h b n) (hn:n≤600000) (hl:lo≤h.length):∃ (l:List Ver) (a:Pq) (c:Nq) (h':Heap) (F':List Nat),Ad lo 152 [.ptr (some (b,(0,0)))] h=some (.agg [.sl 6 a l.length c],h')∧RVers false h' [.sl 6 a l.length c] l F'∧(l.length≤4∧∀ v∈l,v.past.length≤4∧v.text.size≤10)∧Rd lo h' b (n+300)∧Mv h [b] h' (b :: F'):=by
 obtain ⟨l,q,h1,F1,e1,t1,hok,r1,m1⟩:=U5 r hn hl;obtain ⟨x,h2,e2,g,g',r2,m2⟩:=pick r1 (by omega) 10;have hF1:=rvers_ok.bd _ _ _ _ t1;have t2:=m2.keep rvers_ok t1 m1.apart;have m12:=m1.draw0 m2 hF1;have hF2:=rvers_ok.bd _ _ _ _ t2;have hsm:=TJ hok;have h4:=AX hok;have hlo2:∀ y∈F1,lo≤y:=fun y hy=>m12.ge hl (fun z hz=>by rw[zbi] at hz;subst hz;exact r.ge) y (by simp[hy]);have hnd2:=m12.nd;rw[zbj] at hnd2;suffices hk:∃ (l:List Ver) (a:Pq) (c:Nq) (h':Heap) (F':List Nat),_=some (V.agg [.sl 6 a l.length c],h')∧RVers false h' [.sl 6 a l.length c] l F'∧(l.length≤4∧∀ v∈l,v.past.length≤4∧v.text.size≤10)∧Rd lo h' b (n+300)∧Mv h [b] h' (b :: F') from by obtain ⟨l,a,c,h',F',e,gg⟩:=hk;exact ⟨l,a,c,h',F',LD e,gg⟩
 rw[e1,Ac,Ap,Aa,Ah,Af,e2,Ac,Ab];cases x==(0:Int) with
 | true =>obtain ⟨er,F3,t3,n3,s3⟩:=t2.behind (by omega) hnd2.2;rw[Al,er _ (by decide)];exact ⟨l.drop 1,_,_,h2,F3,rfl,t3,⟨by simp;omega,fun v hv=>hsm.2 v (zcB hv)⟩,r2.up (by omega),m12.thin n3 s3⟩
 | false =>
 rw[Au];cases x==(1:Int) with
 | true =>
  obtain ⟨k,h3,e3,k1,k2,r3,m3⟩:=pick r2 (by omega) 4;have m13:=m12.draw0 m3 hF2;have t3:=m3.keep rvers_ok t2 m12.apart;have hF3:=rvers_ok.bd _ _ _ _ t3;have k3:=k2 (by omega);obtain ⟨f,rfl⟩:∃ f:Nat,k=(f:Int):=⟨k.toNat,by omega⟩;obtain ⟨v,av,cv,h5,F5,e5,t5,hv,r5,m5⟩:=Kl r3 (by omega) (zba hl m13.le);have m15:=m13.draw m5 hF3;have t4:=m5.keep rvers_ok t3 m13.apart;have hnd5:=m15.nd;rw[zbj] at hnd5;have hnd6:(F1++F5).Nodup:=(zb7.nodup_iff).1 hnd5.2;have m15':Mv h [b] h5 (b ::(F1++F5)):=m15.lean (zbj.2 ⟨fun hm=>hnd5.1 (by simpa [or_comm] using hm),hnd6⟩) fun y hy=>by simpa [or_comm,or_left_comm] using hy
  obtain ⟨b',i',row,G,ha,⟨rs,hb1,hb2⟩,hel,hGF,put⟩:=Sli.fresh_put (lo:=lo) (E:=F5) rver_ok t4 (show f<l.length by omega) hnd6 hlo2;injection ha with ha;injection ha with z1 z2;subst z1;subst z2;obtain ⟨sv,hrow,_⟩:=hel;obtain ⟨h6,F6,e6,t6,m6⟩:=put 0 (v.cs av cv) (v.cs av cv) v F5 (by rw[hrow];exact Db rfl) ⟨_,rfl,t5⟩ ((zbd.1 hnd6).2.1) (fun y hy => .inr hy);simp only[Ver.cs] at e5 e6;rw[Al,e3,Ac,Ab,e5,Ac,Ap,Aa,Ab,Aa,Ab,Aa,Ab,Aa,Ah,Aa,Bh,Aa,At,Af,Ae (by omega),Ag,Be,e6,Ag];have hlo5:∀ y∈F1++F5,lo≤y:=fun y hy=>m15'.ge hl (fun z hz=>by rw[zbi] at hz;subst hz;exact r.ge) y (zbS _ hy);have t6':RVers false h6 [.sl 6 (some (q,0)) (l.set f v).length (some 4)] (l.set f v) F6:=by rw[zbz];exact t6
  refine ⟨l.set f v,some (q,0),some 4,h6,F6,by rw[zbz],t6',⟨by simp;omega,fun u hu=>?_⟩,(r5.keepF m15' m6 hlo5).up (by omega),m15'.draw1 m6 r5.lt⟩;rcases zby hu with hu | rfl
  ·exact hsm.2 u hu
  ·exact hv
 | false =>
 rw[Au];cases x==(2:Int) with
 | true =>
  obtain ⟨k,h3,e3,k1,k2,r3,m3⟩:=pick r2 (by omega) 4;have m13:=m12.draw0 m3 hF2;have t3:=m3.keep rvers_ok t2 m12.apart;have k3:=k2 (by omega);obtain ⟨f,rfl⟩:∃ f:Nat,k=(f:Int):=⟨k.toNat,by omega⟩;obtain ⟨b',i',row,G,ha,⟨rs,hb1,hb2⟩,hel,hGF,put⟩:=Sli.fresh_put (lo:=lo) (E := []) rver_ok t3 (show f<l.length by omega) (by rw[zb6];exact hnd2.2) hlo2;injection ha with ha;injection ha with z1 z2;subst z1;subst z2;obtain ⟨sv,hrow,_⟩:=hel;obtain ⟨h6,F6,e6,t6,m6⟩:=put 0 [Iv 0,Iv 0,Iv 0,.sl 0 none 0 (some 0),.str ⟨⟨[120]⟩⟩,.bool false] [Iv 0,Iv 0,Iv 0,.sl 0 none 0 (some 0),.str ⟨⟨[120]⟩⟩,.bool false] ⟨0,⟨0,0⟩,[],⟨⟨[120]⟩⟩,false⟩ [] (by rw[hrow];exact Db rfl) ⟨_,rfl,Sli.nil⟩ (by simp) (by simp);rw[zb6] at m6;rw[Al,e3,Ac,Ab,Ae (by omega),Ag,Be,e6,Ag];have t6':RVers false h6 [.sl 6 (some (q,0)) (l.set f ⟨0,⟨0,0⟩,[],⟨⟨[120]⟩⟩,false⟩).length (some 4)] (l.set f ⟨0,⟨0,0⟩,[],⟨⟨[120]⟩⟩,false⟩) F6:=by rw[zbz];exact t6
  refine ⟨l.set f ⟨0,⟨0,0⟩,[],⟨⟨[120]⟩⟩,false⟩,some (q,0),some 4,h6,F6,by rw[zbz],t6',⟨by simp;omega,fun u hu=>?_⟩,(r3.keepF m13 m6 hlo2).up (by omega),m13.draw1 m6 r3.lt⟩;rcases zby hu with hu | rfl
  ·exact hsm.2 u hu
  ·exact ⟨by decide,by decide⟩
 | false=>exact ⟨l,_,_,h2,F1,rfl,t2,hsm,r2.up (by omega),m12⟩
end


variable {α:Type}{El:Rel α}{l:List α}
section
variable {lo:Nat}{h h':Heap}{F F':List Nat}{b n:Nat}
theorem Sli.at_aside (ok:El.Ok) {R e m k:Nat}{a:Pq}{c:Nq}{E:List Nat} (hs:Sli false R e El h [.sl R a m c] l F) (hk:k<l.length) (hnd:(F++E).Nodup) (hlo:∀ y∈F,lo≤y) (hE:∀ y∈E,y<h.length) :
  ∃ b i rs row G,a=some (b,i)∧b∈F∧b∉G∧h[b]?=some (.rows R e false rs)∧rs[i+k]?=some row∧El h row l[k] G∧(∀ y∈G,y∈F)∧G.Nodup ∧
   ∀ h1 G1 j cs row' x',Mv h (G++E) h1 G1→paste row j cs=some row'→El h1 row' x' G1 →
    ∃ h2 F2,st lo h1 b (i+k) j cs=some h2∧Sli false R e El h2 [.sl R a m c] (l.set k x') F2∧Mv h (F++E) h2 F2:=by
 have hnd0:=hnd;rw[zbd] at hnd0;obtain ⟨hn1,hn2,hn3⟩:=hnd0;have hbd:=(Sli.ok ok).bd _ _ _ _ hs;obtain ⟨b',i',rs,row,G,ha,hbF,hbG,hb,hrow,hel,hGF,hGn,put⟩:=hs.put ok.fr hk hn1;have hblt:=hbd b' hbF;refine ⟨b',i',rs,row,G,ha,hbF,hbG,hb,hrow,hel,hGF,hGn,fun h1 G1 j cs row' x' m hp hx=>?_⟩;have hbE:b'∉E:=fun hm=>hn3 b' hbF b' hm rfl;have hbGE:b'∉G++E:=fun hm=>(zbc.1 hm).elim hbG hbE;have hbG1:b'∉G1:=fun hm=>by
  rcases m.sub b' hm with g | g
  ·exact hbGE g
  ·omega
 have hb1:h1[b']?=some (.rows R e false rs):=by rw[m.fr b' hblt hbGE];exact hb
 have hb1lt:b'<h1.length:=zbk hblt m.le;have e2:=DJ hb1 (hlo b' hbF) hrow hp;have fr2:∀ y,y≠b'→(h1.set b' (.rows R e false (rs.set (i'+k) row')))[y]?=h1[y]?:=fun y hy=>zbh (Ne.symm hy);obtain ⟨F2,p1,p2,p3,_⟩:=put (h1.set b' (.rows R e false (rs.set (i'+k) row'))) row' x' G1 (by simp[hb1lt]) (fun y hy hyb hyG=>by
   rw[fr2 y hyb];exact m.fr y (hbd y hy) fun hm=>(zbc.1 hm).elim hyG fun g=>hn3 y hy y g rfl)
  (ok.fr _ _ _ _ _ hx fun y hy=>fr2 y fun e=>hbG1 (e ▸ hy)) m.nd (fun y hy hyF=>by
   rcases m.sub y hy with g | g
   ·rcases zbc.1 g with g | g
    ·exact g
    ·exact absurd rfl (hn3 y hyF y g)
   ·have:=hbd y hyF;omega)
 refine ⟨_,F2,e2,p1,by simpa using m.le,fun y hy hyF=>?_,p3,fun y hy=>?_⟩
 ·rw[fr2 y fun e=>hyF (e ▸ zbD _ hbF)];exact m.fr y hy fun hm=>hyF ((zbc.1 hm).elim (fun g=>zbD _ (hGF y g)) fun g=>zbF _ g)
 ·rcases p2 y hy with g | g
  ·exact .inl (zbD _ g.1)
  ·rcases m.sub y g with g | g
   ·exact .inl ((zbc.1 g).elim (fun g=>zbD _ (hGF y g)) fun g=>zbF _ g)
   ·exact .inr (by simpa using g)
theorem Sli.first {R e m i:Nat}{a:Pq}{c:Nq} (hs:Sli false R e El h [.sl R a m c] l F) (hi:i≤l.length) (hnd:F.Nodup):∃ F2,Sli false R e El h [.sl R a i c] (l.take i) F2∧F2.Nodup∧∀ y∈F2,y∈F:=by
 have hm:=hs.val;subst hm;by_cases h0:l.length=0
 ·have:l = []:=zbm h0;subst this;have:i=0:=by simpa using hi
  subst this;exact ⟨F,hs,hnd,fun y hy=>hy⟩
 obtain ⟨b',i',rs,Fs,ha,g1,g2,g3,g4,g5,rfl⟩:=hs.data (k:=0) (by omega);have hs0:=hs;obtain ⟨R1,a1,c1,e1,_⟩:=hs;injection e1 with e1 _;injection e1 with e0 e2 _ e4;have hsub:(Fs.take i).flatten.Sublist Fs.flatten:=by
  conv=>{ rhs;rw[← zbQ i Fs,zbL] }
  exact List.sublist_append_left _ _
 rw[zbj] at hnd;refine ⟨b' ::(Fs.take i).flatten,⟨R,a,c,by simp;omega,?_⟩,zbj.2 ⟨fun hm=>hnd.1 (hsub.mem hm),hnd.2.sublist hsub⟩,fun y hy=>?_⟩
 ·subst ha;refine ⟨rfl,rs,Fs.take i,g1,by simp;omega,fun k hk=>?_,g4,?_,rfl⟩
  ·have:=g3 k hk;simp only[zcu];omega
  ·have hd:=g5.take i;rw[List.take_take] at hd;have:min i l.length=(l.take i).length:=by simp
   rw[← this];exact hd
 ·rw[zbn] at hy ⊢;exact hy.imp id fun hy=>hsub.mem hy
theorem zal {m:Nat} (h1:1≤m) (h4:m≤4):Ch (List.replicate m ⟨HS,[]⟩):=by
 have get:∀ (i:Nat) (x:Node),(List.replicate m (⟨HS,[]⟩:Node))[i]?=some x→x=⟨HS,[]⟩:=fun i x hx=>by
  rw[List.getElem?_replicate] at hx;split at hx
  ·injection hx with hx;exact hx.symm
  ·cases hx
 refine ⟨by simpa using h1,by simpa using h4,fun i x hx=>?_,fun i x y hx hy=>?_,fun i x hx _=>?_⟩
 ·rw[get i x hx];unfold BS;simp only;rw[Rx];rfl
 ·rw[get i x hx,get _ y hy];rfl
 ·rw[get i x hx]
theorem KZ {m:Nat} (h1:1≤m) (h4:m≤4) (hl:lo≤h.length):∃ v h' F',Ad lo 248 [Iv (m:Nat)] h=some (.agg [v],h')∧RNodes false h' [v] (List.replicate m ⟨HS,[]⟩) F'∧Mv h [] h' F':=by
 obtain ⟨q,a',c',h',F',e,r,mm⟩:=Dh (El:=RNode false) rnode_ok (h:=h) (l:=List.replicate m ()) (f:=fun _=>(⟨HS,[]⟩:Node)) (lo:=lo) (R:=2) (e:=Om false) (bytes:=48) hl (by decide) (by rw[zcz];omega)
  (fun i q a n c hh=>Cd lo ((m:Nat):Int) ((i:Nat):Int) 0 none 0 (some 0) q a n c hh) (fun i hi q a n c hh hm=>by
   rw[zcz] at hi;obtain ⟨h3,q3,e3,t3,m3⟩:=Pp (lo:=lo) (h:=hh);refine ⟨[.sl 6 (some (q3,0)) 4 (some 4),.sl 0 none 0 (some 0)],[q3],h3 ++ [.rows 2 (Om false) false [[.sl 6 (some (q3,0)) 4 (some 4),.sl 0 none 0 (some 0)]]],⟨_,_,[q3],[],rfl,rfl,Mv.snoc.keep0 rvers_ok t3,Sli.nil⟩,m3.trans (Mv.snoc' m3.nd),?_⟩;rw[Cd.e,Ak (by omega),e3,Ac,Ap,Aa,Ah,Af,Ar (by omega)];exact A4)
 rw[List.map_replicate] at r;rw[zcz] at e;refine ⟨_,h',F',OK ?_,r,mm⟩;have hw:Am ((m:Nat):Int) 1 4=true:=by simp only[Am,Dr,decide_eq_true_eq];omega
 rw[Bf,Ac,As,hw,Al];refine e.trans ?_;rw[Cd.e,Aj (by omega),zcz]
theorem VZ (r:Rd lo h b n) (hn:n≤500000) (hl:lo≤h.length):∃ (l:List Node) (a:Pq) (c:Nq) (h':Heap) (F':List Nat),Ad lo 151 [.ptr (some (b,(0,0)))] h=some (.agg [.sl 2 a l.length c],h')∧RNodes false h' [.sl 2 a l.length c] l F'∧Ch l∧Rd lo h' b (n+400)∧Mv h [b] h' (b :: F'):=by
 obtain ⟨x,h1,e1,g,g',r1,m1⟩:=pick r (by omega) 4;have hx:=g' (by omega);obtain ⟨k,rfl⟩:∃ k:Nat,x=(k:Int):=⟨x.toNat,by omega⟩;obtain ⟨v,h2,F2,e2,t2,m2⟩:=KZ (lo:=lo) (m:=k+1) (h:=h1) (by omega) (by omega) (zba hl m1.le);obtain ⟨a2,c2,es2,t2⟩:=t2.form;have r2:=r1.keep m2 (by simp) (by simp);obtain ⟨y,h3,e3,g3,g3',r3,m3⟩:=pick r2 (by omega) 12;have m12:Mv h [b] h2 (b :: F2):=m1.draw1 (F1 := []) m2 r1.lt;have hF2:=rnodes_ok.bd _ _ _ _ t2;have t3:=m3.keep rnodes_ok t2 m12.apart;have m13:=m12.draw0 m3 hF2;suffices hk:∃ (l:List Node) (a:Pq) (c:Nq) (h':Heap) (F':List Nat),_=some (V.agg [.sl 2 a l.length c],h')∧RNodes false h' [.sl 2 a l.length c] l F'∧Ch l∧Rd lo h' b (n+400)∧Mv h [b] h' (b :: F') from by obtain ⟨l,a,c,h',F',e,gg⟩:=hk;exact ⟨l,a,c,h',F',OH e,gg⟩
 rw[e1,Ac,Ab,show IntKind.wrap .i64 (1+((k:Nat):Int))=((k+1:Nat):Int) from by rw[wr (by omega) (by omega)];omega,e2,Ac,Ap,Aa,es2,Af,e3,Ac,Ab];have loop:∀ (m:Nat) (l:List Node) (a:Pq) (n3:Nat) (c:Nq) (hh:Heap) (F:List Nat),m≤11→n3=l.length→Ch l→RNodes false hh [.sl 2 a n3 c] l F→Rd lo hh b (n+2+30*(11 - m))→Mv h [b] hh (b :: F) →
   ∃ (l:List Node) (a':Pq) (c':Nq) (h':Heap) (F':List Nat),AG lo b 0 0 ((m:Nat):Int) 0 none 0 (some 0) a n3 c hh=some (V.agg [.sl 2 a' l.length c'],h')∧RNodes false h' [.sl 2 a' l.length c'] l F'∧Ch l∧Rd lo h' b (n+400)∧Mv h [b] h' (b :: F'):=by
  intro m;induction m with
  | zero =>intro l a n3 c hh F hm hn3 hch ht rr mm;subst hn3;have hsm:=JB (chain_iff.2 hch);obtain ⟨v,h5,F5,e5,t5,m5⟩:=N0 (lo:=lo) ht (zba hl mm.le) hsm;obtain ⟨a5,c5,es5,t5⟩:=t5.form;have mm5:Mv h [b] h5 (b :: F5):=(mm.thin (F2 := []) (by simp) (by simp)).draw1 m5 rr.lt;rw[AG.e,Aj (by omega),e5,Ac,Ap,Aa,es5,Af];exact ⟨l,a5,c5,h5,F5,rfl,t5,hch,(rr.keep m5 (by simp) (by simp)).up (by omega),mm5⟩
  | succ m ih =>
   intro l a n3 c hh F hm hn3 hch ht rr mm;subst hn3;have hsm:=JB (chain_iff.2 hch);have hpos:=hch.pos;have hle:=hch.le;have hlh:lo≤hh.length:=zba hl mm.le;obtain ⟨z,h4,e4,g4,g4',r4,m4⟩:=pick rr (by omega) 6;have hFb:=rnodes_ok.bd _ _ _ _ ht;have t4:=m4.keep rnodes_ok ht mm.apart;have mm4:=mm.draw0 m4 hFb;have hF4:=rnodes_ok.bd _ _ _ _ t4;have hl4:lo≤h4.length:=zba hl mm4.le;have hnd4:=mm4.nd;rw[zbj] at hnd4;have hloA:∀ {hh:Heap}{F:List Nat},Mv h [b] hh (b :: F)→∀ y∈F,lo≤y:=fun mm y hy=>mm.ge hl (fun z hz=>by rw[zbi] at hz;subst hz;exact r.ge) y (by simp[hy]);have hlo4:=hloA mm4;have hw:IntKind.wrap .i64 (((m+1:Nat):Int) - 1)=((m:Nat):Int):=by rw[wr (by omega) (by omega)];omega
   have add:∃ (l':List Node) (a':Pq) (c':Nq) (h':Heap) (F':List Nat),(Ai (Ad lo 191 [.agg [.sl 2 a l.length c]] h4) fun v_17 h_18=>eB v_17 (Ai (Ad lo 173 [.ptr (some (b,(0,0)))] h_18) fun v_19 h_20=>eA v_19 fun c_21=>eC c_21 fun v_22 l_23=>eI .i64 v_22 fun n_24=>eC l_23 fun v_25 l_26=>eI .i64 v_25 fun n_27=>eC l_26 fun v_28 l_29=>eI .i64 v_28 fun n_30=>eC l_29 fun v_31 l_32=>eS 2 (v_31) fun a_33 n_34 c_35=>eC l_32 fun v_36 l_37=>eT v_36 fun s_38=>eC l_37 fun v_39 l_40=>eBv v_39 fun b_41=>eN l_40 (Ai (Ad lo 193 [.agg [.sl 2 a l.length c],Iv 0,.agg [Iv (n_24),Iv (n_27),Iv (n_30),.sl 2 a_33 n_34 c_35,.str (s_38),.bool (b_41)]] h_20) fun v_42 h_43=>eA v_42 fun c_44=>eC c_44 fun v_45 l_46=>eS 2 (v_45) fun a_47 n_48 c_49=>eN l_46 (AG lo b 0 0 (IntKind.wrap .i64 (((m+1:Nat):Int) - 1)) 0 none 0 (some 0) a_47 n_48 c_49 h_43))) (AG lo b 0 0 (IntKind.wrap .i64 (((m+1:Nat):Int) - 1)) 0 none 0 (some 0) a l.length c h_18))=some (V.agg [.sl 2 a' l'.length c'],h')∧RNodes false h' [.sl 2 a' l'.length c'] l' F'∧Ch l'∧Rd lo h' b (n+400)∧Mv h [b] h' (b :: F'):=by
    rw[J0 t4 (by omega),Ac,As,hw];cases hroom:Dg l 0 with
    | false =>rw[Au];exact ih l a _ c h4 F (by omega) rfl hch t4 (r4.up (by omega)) mm4
    | true =>obtain ⟨v,qv,h5,F5,e5,t5,hv,r5,m5⟩:=LU r4 (by omega) hl4;have mm5:=mm4.draw m5 hF4;have ht5:=m5.keep rnodes_ok t4 mm4.apart;have hnd5:=mm5.nd;rw[zbj,zbd] at hnd5;have hlo5:=hloA mm5;have m5F:Mv h [b] h5 (b :: F):=mm5.thin hnd5.2.2.1 fun y hy=>zbF _ hy;have hst:=hch.store (Dc (show 0<l.length by omega));have hkey:=(AB hv).1;obtain ⟨h6,F6,e6,t6,m6⟩:=Lg (lo:=lo) (k:=0) (av:=some (qv,0)) (cv:=some 4) ht5 t5 (fun y hy hm=>hnd5.2.2.2 y hy y hm rfl) hnd5.2.2.1 (fun y hy=>hlo5 y (zbF _ hy)) (zba hl4 m5.le) (by omega) ⟨hkey.1,by rw[hst.2];omega⟩ hsm (by have:=(HF hv).1;omega);have mm6:=m5F.draw1 m6 r5.lt;have r6:=r5.keepF m5F m6 (fun y hy=>hlo5 y (zbF _ hy));rw[show (((0:Nat):Nat):Int)=(0:Int) from rfl] at e6;simp only[Ver.cs] at e5 e6;rw[Al,e5,Ac,Ap,Aa,Ab,Aa,Ab,Aa,Ab,Aa,Ah,Aa,Bh,Aa,At,Af,e6,Ac,Ap,Aa,Ah,Af];exact ih (EH l 0 v) a l.length c h6 F6 (by omega) addN_len.symm (hch.add hv hroom) t6 (r6.up (by omega)) mm6
   rw[AG.e,Ak (by omega),e4,Ac,Ab];cases z==(0:Int) with
   | true=>rw[Al];exact add
   | false =>
   rw[Au];cases z==(1:Int) with
   | true=>rw[Al];exact add
   | false =>
   rw[Au,hw];cases z==(2:Int) with
   | true =>
    rw[Al];by_cases h2:1<l.length
    ·obtain ⟨kf,h5,e5,g5,g5',r5,m5⟩:=pick r4 (by omega) ((l.length:Nat):Int);have hkf:=g5' (by omega);obtain ⟨f,rfl⟩:∃ f:Nat,kf=(f:Int):=⟨kf.toNat,by omega⟩;have t5:=m5.keep rnodes_ok t4 mm4.apart;have mm5:=mm4.draw0 m5 hF4;obtain ⟨a6,c6,h6,F6,e6,t6,m6⟩:=NZ (lo:=lo) (k:=f) t5 (by omega) h2 (RU (chain_iff.2 hch) (by omega)) hnd4.2 hlo4 (zba hl4 m5.le) hsm.1 (fun x hx=>by
      obtain ⟨i,hi⟩:=zbt.1 hx;have:=Ky (hch.node i x hi);exact ⟨this.1,by have:=this.2.1;omega,this.2.2⟩)
     rw[Ak (by omega),e5,Ac,Ab,e6,Ac,Ap,Aa,Ah,Af];exact ih (Cq l f) a6 _ c6 h6 F6 (by omega) rfl (hch.fall (by omega) h2) t6 ((r5.keepF mm5 m6 hlo4).up (by omega)) (mm5.draw1 m6 r5.lt)
    ·rw[Aj (by omega)];exact ih l a _ c h4 F (by omega) rfl hch t4 (r4.up (by omega)) mm4
   | false =>
   rw[Au];cases z==(3:Int) with
   | true =>
    rw[Al];by_cases h4':l.length<4
    ·obtain ⟨a6,c6,h6,F6,e6,t6,m6⟩:=NY (lo:=lo) t4 (by omega) hsm hnd4.2 hlo4 hl4;rw[Ak (by omega),e6,Ac,Ap,Aa,Ah,Af];exact ih (Ie l) a6 (l.length+1) c6 h6 F6 (by omega) (Nk hch).1.symm (hch.join h4') t6 ((r4.keepF mm4 m6 hlo4).up (by omega)) (mm4.draw1 m6 r4.lt)
    ·rw[Aj (by omega)];exact ih l a _ c h4 F (by omega) rfl hch t4 (r4.up (by omega)) mm4
   | false =>
   rw[Au];obtain ⟨kf,h5,e5,g5,g5',r5,m5⟩:=pick r4 (by omega) 4;have t5:=m5.keep rnodes_ok t4 mm4.apart;have mm5:=mm4.draw0 m5 hF4;rw[e5,Ac,Ab,Pn t5 hsm.1,Ac,As];cases hcan:C5 l kf with
   | false =>rw[Au];exact ih l a _ c h5 F (by omega) rfl hch t5 (r5.up (by omega)) mm5
   | true =>
    have hchp:=hch.pass hcan;obtain ⟨f,x,y,v,ws,rfl,hx,hy,hw',hr'⟩:=H0 hcan;rw[Be] at hchp;obtain ⟨hf,rfl⟩:=EY hx;have hf1:=(EY hy).1;obtain ⟨h6,F6,e6,t6,m6⟩:=NX (lo:=lo) (k:=f) t5 hf1 (by rw[hw'];simp) hnd4.2 hlo4 (zba hl4 m5.le) hsm (fun x hx=>by
     obtain ⟨i,hi⟩:=zbt.1 hx;have hno:=hch.node i x hi;have:=Ky hno;exact ⟨⟨this.1,by have:=this.2.1;omega,this.2.2⟩,fun v hv=>(AB ((AD hno).2.2 v hv)).1⟩)
    rw[Al,e6,Ac,Ap,Aa,Ah,Af];exact ih (HD l f) a l.length c h6 F6 (by omega) passN_len.symm hchp t6 ((r5.keepF mm5 m6 hlo4).up (by omega)) (mm5.draw1 m6 r5.lt)
 have hy:=g3' (by omega);obtain ⟨k2,rfl⟩:∃ k:Nat,y=(k:Int):=⟨y.toNat,by omega⟩;exact loop k2 _ a2 _ c2 h3 F2 (by omega) rfl (zal (by omega) (by omega)) t3 (r3.up (by omega)) m13
end


section
variable {lo:Nat}{h h':Heap}{F F':List Nat}{b n:Nat}
theorem OX {h h':Heap}{q i j m:Nat} (hq:h'[q]?=h[q]?):ld h' q i j m=ld h q i j m:=by unfold ld Heap.rows?;rw[hq]
theorem X7 {l:List Node}{k:Nat}{x:Node} (h:Cs l) (hx:Ck x.store∧Ck x.wait):Cs (l.set k x):=⟨by rw[zbz];exact h.1,fun y hy=>by
 rcases zby hy with hy | rfl
 ·exact h.2 y hy
 ·exact hx⟩
theorem QS (r:Rd lo h b n) (hn:n≤400000) (hl:lo≤h.length):∃ (l:List Node) (a:Pq) (c:Nq) (h':Heap) (F':List Nat),Ad lo 65 [.ptr (some (b,(0,0)))] h=some (.agg [.sl 2 a l.length c],h')∧RNodes false h' [.sl 2 a l.length c] l F'∧Cs l∧Rd lo h' b (n+1000)∧Mv h [b] h' (b :: F'):=by
 obtain ⟨l,a,c,h1,F1,e1,t1,hch,r1,m1⟩:=VZ r (by omega) hl;have hsm:=JB (chain_iff.2 hch);have hpos:=hch.pos;have hle:=hch.le;obtain ⟨k,h2,e2,g2,g2',r2,m2⟩:=pick r1 (by omega) ((l.length:Nat):Int);obtain ⟨x,h3,e3,g3,g3',r3,m3⟩:=pick r2 (by omega) 10;have hk:=g2' (by omega);obtain ⟨f,rfl⟩:∃ f:Nat,k=(f:Int):=⟨k.toNat,by omega⟩;have hf:f<l.length:=by omega
 have m23:=m2.trans m3;have hF1:=rnodes_ok.bd _ _ _ _ t1;have t3:=m23.keep rnodes_ok t1 m1.apart;have m13:=m1.draw0 m23 hF1;have hF3:=rnodes_ok.bd _ _ _ _ t3;have hl3:lo≤h3.length:=zba hl m13.le;have hloA:∀ {hh:Heap}{F:List Nat},Mv h [b] hh (b :: F)→∀ y∈F,lo≤y:=fun mm y hy=>mm.ge hl (fun z hz=>by rw[zbi] at hz;subst hz;exact r.ge) y (by simp[hy]);suffices hk:∃ (l:List Node) (a:Pq) (c:Nq) (h':Heap) (F':List Nat),_=some (V.agg [.sl 2 a l.length c],h')∧RNodes false h' [.sl 2 a l.length c] l F'∧Cs l∧Rd lo h' b (n+1000)∧Mv h [b] h' (b :: F') from by obtain ⟨l,a,c,h',F',e,gg⟩:=hk;exact ⟨l,a,c,h',F',LE e,gg⟩
 rw[e1,Ac,Ap,Aa,Ah,Af,e2,Ac,Ab,e3,Ac,Ab];cases x==(0:Int) with
 | true =>
  obtain ⟨s,ast,cs,h5,F5,e5,t5,hs5,r5,m5⟩:=QR r3 (by omega) hl3;have m15:=m13.draw m5 hF3;have t4:=m5.keep rnodes_ok t3 m13.apart;have hnd5:=m15.nd;rw[zbj] at hnd5;have hnd6:(F1++F5).Nodup:=(zb7.nodup_iff).1 hnd5.2;have m15':Mv h [b] h5 (b ::(F1++F5)):=m15.lean (zbj.2 ⟨fun hm=>hnd5.1 (by simpa [or_comm] using hm),hnd6⟩) fun y hy=>by simpa [or_comm,or_left_comm] using hy
  have hlo5:=hloA m15';have hF5:=rvers_ok.bd _ _ _ _ t5;obtain ⟨b',i',rs,row,G,ha,hbF,hbG,hb1,hb2,hel,hGF,hGn,put⟩:=Sli.at_aside (lo:=lo) (E:=F5) rnode_ok t4 hf hnd6 (fun y hy=>hlo5 y (zbD _ hy)) hF5;obtain ⟨s1,s2,H1,H2,rfl,rfl,q1,q2⟩:=hel;have hnd7:=hnd6;rw[zbd] at hnd7;have hGn':=hGn;rw[zbd] at hGn';have hd:(F5++H2).Nodup:=by rw[zbd];exact ⟨hnd7.2.1,hGn'.2.1,fun y hy z hz e=>hnd7.2.2 z (hGF z (zbF _ hz)) y hy e.symm⟩
  have hd2:((H1++H2)++F5).Nodup:=by rw[zbd];exact ⟨hGn,hnd7.2.1,fun y hy z hz=>hnd7.2.2 y (hGF y hy) z hz⟩
  obtain ⟨h6,F6,e6,t6,m6⟩:=put h5 (F5++H2) 0 [.sl 6 ast s.length cs] [.sl 6 ast s.length cs,s2] ⟨s,l[f].wait⟩ ((Mv.refl hd2).lean hd fun y hy=>by
   rw[zbc] at hy ⊢;rw[zbc];exact hy.elim .inr fun g => .inl (.inr g)) rfl ⟨_,_,F5,H2,rfl,rfl,t5,q2⟩
  rw[Al,e5,Ac,Ap,Aa,Ah,Af,Ae hf,ha,Ag,Be,e6,Ag];have t6':RNodes false h6 [.sl 2 a (l.set f ⟨s,l[f].wait⟩).length c] (l.set f ⟨s,l[f].wait⟩) F6:=by rw[zbz];exact t6
  rw[← ha];exact ⟨l.set f ⟨s,l[f].wait⟩,a,c,h6,F6,by rw[zbz],t6',X7 hsm ⟨zai hs5.1 hs5.2,(hsm.2 _ (zbb hf)).2⟩,(r5.keepF m15' m6 hlo5).up (by omega),m15'.draw1 m6 r5.lt⟩
 | false =>
 rw[Au];cases x==(1:Int) with
 | true =>
  obtain ⟨v,av,cv,h5,F5,e5,t5,hv5,r5,m5⟩:=Kl r3 (by omega) hl3;have m15:=m13.draw m5 hF3;have t4:=m5.keep rnodes_ok t3 m13.apart;have hnd5:=m15.nd;rw[zbj] at hnd5;have hnd6:(F1++F5).Nodup:=(zb7.nodup_iff).1 hnd5.2;have m15':Mv h [b] h5 (b ::(F1++F5)):=m15.lean (zbj.2 ⟨fun hm=>hnd5.1 (by simpa [or_comm] using hm),hnd6⟩) fun y hy=>by simpa [or_comm,or_left_comm] using hy
  have hlo5:=hloA m15';have hF5:=rtags_ok.bd _ _ _ _ t5;have hF4:=rnodes_ok.bd _ _ _ _ t4;obtain ⟨b',i',rs,row,G,ha,hbF,hbG,hb1,hb2,hel,hGF,hGn,put⟩:=Sli.at_aside (lo:=lo) (E:=F5) rnode_ok t4 hf hnd6 (fun y hy=>hlo5 y (zbD _ hy)) hF5;obtain ⟨s1,s2,H1,H2,rfl,rfl,q1,q2⟩:=hel;obtain ⟨aw,cw,esw,q2⟩:=q2.form;have hnd7:=hnd6;rw[zbd] at hnd7;have hGn':=hGn;rw[zbd] at hGn';have hH1:=rvers_ok.bd _ _ _ _ q1;have hH2:=rvers_ok.bd _ _ _ _ q2;have hw6:l[f].wait.length≤6:=(AD (hch.node f _ (Dc hf))).2.1;have mx:Mv h5 [] (h5 ++ [.rows 6 34 false [v.cs av cv]]) []:=Mv.snoc;have q2x:=mx.keep0 rvers_ok q2;have t5x:=mx.keep0 rtags_ok t5;obtain ⟨a6,c6,h6,F6,p1,p2,p3,p4,p5,p6⟩:=Sli.push (lo:=lo) (bytes:=72) (e:=34) rver_ok.fr q2x (xs := [v.cs av cv]) (ys := [v]) (Gs := [F5]) ⟨⟨_,rfl,t5x⟩,trivial⟩ (by decide) (by simp;omega) (fun y hy=>hlo5 y (zbD _ (hGF y (zbF _ hy)))) (by simp;have:=m15'.le;omega)
   (by
    rw[zbd];refine ⟨hGn'.2.1,by simpa using hnd7.2.1,fun y hy z hz=>hnd7.2.2 y (hGF y (zbF _ hy)) z (by simpa using hz)⟩)
   (fun y hy=>by
    rw[zbc] at hy;rw[zbo];rcases hy with hy | hy
    ·have:=hH2 y hy;omega
    ·have:=hF5 y (by simpa using hy);omega) (by simp)
  simp only[zbv] at p1 p2;have hfin:∀ y∈F6,y∈H2∨y∈F5∨(h5.length≤y∧y<h6.length):=fun y hy=>by
   rcases p5 y hy with g | g
   ·rw[zbc] at g;rcases g with g | g
    ·exact .inl g
    ·exact .inr (.inl (by simpa using g))
   ·rw[zbo] at g;exact .inr (.inr (by omega))
  have hlen:h5.length≤h6.length:=by rw[zbo] at p3;omega
  have fr:∀ y,y<h5.length→y∉H2→h6[y]?=h5[y]?:=fun y hy hn=>by rw[p4 y (by rw[zbo];omega) hn,zbe hy]
  have hmv:Mv h5 ((H1++H2)++F5) h6 (H1++F6):=by
   refine ⟨hlen,fun y hy hn=>fr y hy fun hm=>hn (by simp[hm]),?_,fun y hy=>?_⟩
   ·rw[zbd];refine ⟨hGn'.1,p6,fun y hy z hz e=>?_⟩;subst e;rcases hfin y hz with g | g | g
    ·exact hGn'.2.2 y hy y g rfl
    ·exact hnd7.2.2 y (hGF y (zbD _ hy)) y g rfl
    ·have:=hH1 y hy;omega
   ·rw[zbc] at hy;rcases hy with hy | hy
    ·exact .inl (by simp[hy])
    ·rcases hfin y hy with g | g | g
     ·exact .inl (by simp[g])
     ·exact .inl (by simp[g])
     ·exact .inr g
  have q1x:RVers false h6 [s1] l[f].store H1:=rvers_ok.fr _ _ _ _ _ q1 fun y hy=>fr y (hH1 y hy) fun hm=>hGn'.2.2 y hy y hm rfl;have p2':RVers false h6 [.sl 6 a6 (l[f].wait.length+1) c6] (l[f].wait ++ [v]) F6:=p2;obtain ⟨h7,F7,e7,t7,m7⟩:=put h6 (H1++F6) 1 [.sl 6 a6 (l[f].wait.length+1) c6] [s1,.sl 6 a6 (l[f].wait.length+1) c6] ⟨l[f].store,l[f].wait ++ [v]⟩ hmv rfl ⟨_,_,H1,F6,rfl,rfl,q1x,p2'⟩;have hb3:h3[b']?=h5[b']?:=by rw[m5.fr b' (hF3 b' hbF) (m13.apart b' hbF)]
  have l5:ld h5 b' (i'+f) 1 1=some [s2]:=by rw[Bx hb1 hb2];rfl
  have l3:ld h3 b' (i'+f) 1 1=some [s2]:=by rw[OX hb3];exact l5
  have l6:ld (h5 ++ [.rows 6 34 false [v.cs av cv]]) b' (i'+f) 1 1=some [s2]:=by rw[OX (zbe (hF4 b' hbF))];exact l5
  simp only[Ver.cs] at e5 p1 l6;rw[Al,Ae hf,ha,Ag,Be,l3,Ag,Aa,Af,esw,e5,Ac,Ap,Aa,Ab,Aa,Ab,Aa,Ab,Aa,Ah,Aa,Bh,Aa,At,Af,l5,l6,Py,GF,GF,A4,p1,Ah,Ae hf,Ag,e7,Ag];have t7':RNodes false h7 [.sl 2 a (l.set f ⟨l[f].store,l[f].wait ++ [v]⟩).length c] (l.set f ⟨l[f].store,l[f].wait ++ [v]⟩) F7:=by rw[zbz];exact t7
  rw[← ha];refine ⟨l.set f ⟨l[f].store,l[f].wait ++ [v]⟩,a,c,h7,F7,by rw[zbz],t7',X7 hsm ⟨(hsm.2 _ (zbb hf)).1,by simp;omega,fun u hu=>?_⟩,(r5.keepF m15' m7 hlo5).up (by omega),m15'.draw1 m7 r5.lt⟩;rcases zbc.1 hu with hu | hu
  ·exact (hsm.2 _ (zbb hf)).2.2 u hu
  ·rw[zbi] at hu;subst hu;exact ⟨by omega,by omega⟩
 | false =>
 rw[Au];cases x==(2:Int) with
 | true =>
  have hnd3:=m13.nd;rw[zbj] at hnd3;obtain ⟨F5,t5,n5,s5⟩:=t3.first (i:=f) (by omega) hnd3.2;have hlen:(l.take f).length=f:=by simp;omega
  rw[Al,N5 t3 (by omega)];exact ⟨l.take f,a,c,h3,F5,by rw[hlen],by rw[hlen];exact t5,⟨by rw[hlen];omega,fun x hx=>hsm.2 x (zcC hx)⟩,r3.up (by omega),m13.thin n5 s5⟩
 | false =>rw[Au];exact ⟨l,a,c,h3,F1,rfl,t3,hsm,r3.up (by omega),m13⟩
end


variable {l:List Node}{p:List Tag}
section
variable {lo:Nat}{ro ro':Bool}{h:Heap}{F F':List Nat}{a a':Pq}{c c':Nq}
theorem Y3 {l:List Tag} (h1:RTags ro h [.sl 2 a l.length c] l F) (h2:RTags ro' h [.sl 2 a' l.length c'] l F') (hn:l.length≤1048576):Ad lo 41 [.agg [.sl 2 a l.length c],.agg [.sl 2 a' l.length c']] h=some (.bool true,h):=by
 refine Rr (h':=h) ?_;rw[FE,Al];refine (ID (n:=l.length) (fun i=>CY (List.length h) false (i:Nat) a l.length c a' l.length c' h) fun i hi=>?_).trans ?_
 ·obtain ⟨o,rfl,ho⟩:=h1.get hi;obtain ⟨o',rfl,ho'⟩:=h2.get hi;rw[CY.e,Ak (by omega),Ae hi];simp only[Ag,Be,ho,ho',Aa,Ab,Af,Ae hi,FE,Al,Bool.and_self,Ar (show i<9223372036854775807 by omega)]
 ·rw[CY.e,Aj (by omega)]
theorem zab {v:Ver} (h1:RTags ro h [.sl 2 a v.past.length c] v.past F) (h2:RTags ro' h [.sl 2 a' v.past.length c'] v.past F') (hn:v.past.length≤1048576):Ad lo 18 [.agg (v.cs a c),.agg (v.cs a' c')] h=some (.bool true,h) :=
 Tq (h':=h) (by simp only[Y3 h1 h2 hn,Ac,As,Al,FE,zaz,zaW,Bool.and_self])
theorem V0 {l:List Ver} (h1:RVers ro h [.sl 6 a l.length c] l F) (h2:RVers ro' h [.sl 6 a' l.length c'] l F') (hn:Ck l):Ad lo 36 [.sl 6 a l.length c,.sl 6 a' l.length c'] h=some (.bool true,h):=by
 have hn1:=hn.1;refine Rq (h':=h) ?_;rw[FE,Al];refine (ID (n:=l.length) (fun i=>CX (List.length h) a l.length c a' l.length c' false (i:Nat) h) fun i hi=>?_).trans ?_
 ·obtain ⟨o,s,b1,c1,G1,rfl,ho,es,hp,_⟩:=h1.get hi;obtain ⟨o',s',b2,c2,G2,rfl,ho',es',hp',_⟩:=h2.get hi;rw[CX.e,Ak (by omega),Ae hi];simp only[Ag,Be,ho,ho',Aa,Ab,es,es',Bh,At,Af,Ae hi];rw[zab hp hp' (hn.2 _ (zbb hi)).1];simp only[Ac,As,Al,Ar (show i<9223372036854775807 by omega)]
 ·rw[CX.e,Aj (by omega)]
theorem Z2 {l:List Ver} (h1:RVers ro h [.sl 6 a l.length c] l F) (h2:RVers ro' h [.sl 6 a' l.length c'] l F') (hn:Ck l):Ad lo 93 [.agg [.sl 6 a l.length c],.agg [.sl 6 a' l.length c']] h=some (.bool true,h):=by
 have hn1:=hn.1;refine Qx (h':=h) ?_;rw[FE,Al];refine (ID (n:=l.length) (fun i=>Cn (List.length h) false (i:Nat) a l.length c a' l.length c' h) fun i hi=>?_).trans ?_
 ·obtain ⟨o,s,b1,c1,G1,rfl,ho,es,hp,_⟩:=h1.get hi;obtain ⟨o',s',b2,c2,G2,rfl,ho',es',hp',_⟩:=h2.get hi;rw[Cn.e,Ak (by omega),Ae hi];simp only[Ag,Be,ho,ho',Aa,Ab,es,es',Bh,At,Af,Ae hi];rw[zab hp hp' (hn.2 _ (zbb hi)).1];simp only[Ac,As,Al,Ar (show i<9223372036854775807 by omega)]
 ·rw[Cn.e,Aj (by omega)]
theorem Z3 (h1:RNodes ro h [.sl 2 a l.length c] l F) (h2:RNodes ro' h [.sl 2 a' l.length c'] l F') (hn:Cs l):Ad lo 26 [.agg [.sl 2 a l.length c],.agg [.sl 2 a' l.length c']] h=some (.bool true,h):=by
 have hn1:=hn.1;refine Qz (h':=h) ?_;rw[FE,Al];refine (ID (n:=l.length) (fun i=>Cp (List.length h) false (i:Nat) a l.length c a' l.length c' h) fun i hi=>?_).trans ?_
 ·obtain ⟨o,s1,s2,a1,c1,a2,c2,G1,G2,rfl,ho,ho1,ho2,e1,e2,hp1,hp2,_⟩:=h1.get hi;obtain ⟨o',s1',s2',a1',c1',a2',c2',G1',G2',rfl,ho',ho1',ho2',e1',e2',hp1',hp2',_⟩:=h2.get hi;rw[Cp.e,Ak (by omega),Ae hi];simp only[Ag,Be,ho1,ho1',Aa,e1,e1',Af,Ae hi];rw[Z2 hp1 hp1' (hn.2 _ (zbb hi)).1];simp only[Ac,As,Al,Ag,ho2,ho2',Aa,Af,e2,e2',Ae hi];rw[V0 hp2 hp2' (hn.2 _ (zbb hi)).2];simp only[Ac,As,Al,Ar (show i<9223372036854775807 by omega)]
 ·rw[Cp.e,Aj (by omega)]
theorem DO (hp:A6 p=true):p.length=4:=by unfold A6 at hp;rw[Dr,decide_eq_true_eq] at hp;exact hp.1
theorem Hr {q:List Tag} (hs:RTags ro h [.sl 2 a p.length c] p F) (hs':RTags ro' h [.sl 2 a' q.length c'] q F') (hp:A6 p=true) (hq:A6 q=true) :
  Ad lo 30 [.agg [.sl 2 a p.length c],.agg [.sl 2 a' q.length c']] h=some (.bool (BH p q),h):=by
 have h1:=DO hp;have h2:=DO hq;refine MN (h':=h) ?_;rw[Kb hs (by omega),Ac,As,hp,Al,Kb hs' (by omega),Ac,As,hq,Al,Jv hs hs' (by omega) (by omega),Ac,As];cases BH p q<;>rfl
theorem GK (hs:RNodes false h [.sl 2 a l.length c] l F) (hl:lo≤h.length) (hn:Cs l) (hc:Ch l) :
  ∃ a' c' h' F',Ad lo 31 [.agg [.sl 2 a l.length c]] h=some (.agg [.sl 2 a' (AN l).length c'],h')∧RTags false h' [.sl 2 a' (AN l).length c'] (AN l) F'∧Mv h [] h' F':=by
 have hpos:=hc.pos;have m0:Mv h [] (h ++ [.rows 1 25 false [[.sl 2 a l.length c]]]) []:=Mv.snoc;have hs0:=m0.keep0 rnodes_ok hs;have hld:ld (h ++ [.rows 1 25 false [[.sl 2 a l.length c]]]) h.length 0 0 1=some [.sl 2 a l.length c]:=by rw[Bx (show (h ++ [Blk.rows 1 25 false [[.sl 2 a l.length c]]])[h.length]?=some (.rows 1 25 false [[.sl 2 a l.length c]]) by simp) rfl];exact HL rfl
 obtain ⟨a1,c1,G1,e1,q1,_⟩:=I3 (lo:=lo) hld hs0 (by omega) hn.1;obtain ⟨v,h2,F2,e2,r2,m2⟩:=KA (lo:=lo) q1 (zba hl m0.le) (hc.store (Dc (by omega))).2;rw[← Hk (by omega)] at r2;obtain ⟨a2,c2,es,r2⟩:=r2.form;refine ⟨a2,c2,h2,F2,LO ?_,r2,m0.trans m2⟩;rw[hld,Ag,Aa,Ah,Af,Mn hs0 hn,chain_iff.2 hc,Ac,As,Al,e1,Ac,Ap,Aa,Ah,Af,e2,Ac,Ap,Aa,es,Af]
end


section
variable {lo:Nat}{h h':Heap}{w:World}{a1 a2 a3 a4 a:Pq}{c1 c2 c3 c4 c:Nq}{F1 F2 F3 F4:List Nat}
theorem U7 {kind num key:Int}{text:ByteArray}{gone:Bool}{i:Nat} (H:WR lo h w a1 c1 a2 c2 a3 c3 a4 c4 F1 F2 F3 F4) (hg:Good w) (hi:i<w.sess.length) :
  ∃ cs' h' F',Ad lo 277 [.agg (w.cs a1 c1 a2 c2 a3 c3 a4 c4),.agg [Iv kind,Iv (i:Nat),Iv num,Iv key,.str text,.bool gone]] h=some (.tup [.agg cs',.bool (NB w i w.sess[i]).isSome],h') ∧
   Ow lo h' cs' ((NB w i w.sess[i]).getD w) F'∧Mv h (F1++(F2++(F3++F4))) h' F'∧((NB w i w.sess[i])=none→cs'=w.cs a1 c1 a2 c2 a3 c3 a4 c4):=by
 suffices hk:∃ cs' h' F',_=some (V.tup [.agg cs',.bool (NB w i w.sess[i]).isSome],h')∧Ow lo h' cs' ((NB w i w.sess[i]).getD w) F'∧Mv h (F1++(F2++(F3++F4))) h' F'∧((NB w i w.sess[i])=none→cs'=w.cs a1 c1 a2 c2 a3 c3 a4 c4) from by obtain ⟨cs',h',F',e,hr⟩:=hk;exact ⟨cs',h',F',Te e,hr⟩
 have hso:=hg.ok.sess _ (zbb hi);obtain ⟨t1,t2,t3,t4,t5,t6⟩:=Dy hso;have hp4:=DO t2;have h80:=hg.ok.h80;obtain ⟨k,hpl⟩:∃ k:Nat,w.sess[i].place=(k:Int):=⟨w.sess[i].place.toNat,by omega⟩;obtain ⟨m,hkey⟩:∃ m:Nat,w.sess[i].key=(m:Int):=⟨w.sess[i].key.toNat,by omega⟩;have hk:k<w.places.length:=by have:=hg.ok.p3;omega
 obtain ⟨hpo,hme,hro⟩:=hg.at hk;have hn:=(Ed (B3 hpo) (by decide) (by decide) (by decide)).1;have hco:=(AK hpo).2.2.2.1;have hcl:=EG hpo;have hst:∀ x∈w.places[k].chain,AO x.store=true:=fun x hx=>(AD ((Cf hco).2 x hx)).1
 have h04:=AX (hst _ (zbb hcl));have hm0:m<w.places[k].chain[0].store.length:=by omega
 obtain ⟨b',i',v,e1',d1',Gs,rfl,hld',_,_,es',hv',_,hGn,puts⟩:=H.sess hi;obtain ⟨b,j,s1,s2,s3,b1,d1,b2,d2,b3,d3,G1,G2,G3,rfl,_,hc2,_,e1,e2,e3,g1,g2,g3,nd,hF,put⟩:=H.place hk;obtain ⟨u,x5,y5,h1,G5,e5,hsh,r5,m5⟩:=KY (lo:=lo) (k:=0) (key:=m) g1 hcl hst (by omega) H.hl hn.1.1;rw[show ((0:Nat):Int)=0 from rfl] at e5;obtain ⟨o,z1,z2,p1,q1,p2,q2,H1,H2,rfl,_,ho1,_,ez1,_,gg1,_,_⟩:=(m5.keep0 rnodes_ok g1).get hcl;obtain ⟨o',_,_,_,_,rfl,_,_,_,_,_,_,ho12,_⟩:=gg1.all hm0;have hX:NB w i w.sess[i]=bif decide (w.sess[i].wait.time>0) then
    (bif FQ u.tag w.sess[i].wait then (bif FQ w.places[k].chain[0].store[m].tag w.sess[i].wait then some (setS w i ⟨w.sess[i].place,w.sess[i].past,⟨0,0⟩,0⟩ []) else none)
    else (bif DY w 1 then some (setS w i ⟨w.sess[i].place,IT w.sess[i].past m w.sess[i].wait,⟨0,0⟩,0⟩ [⟨i,3,w.sess[i].key,w.sess[i].wait⟩]) else none)) else none:=by
  have hhd:(EQ w.places[k].chain)[m]?=some w.places[k].chain[0].store[m]:=by unfold EQ;rw[Dc hcl];exact Dc hm0
  unfold NB;rw[hpl,hkey,Be,Be,Dc hk];simp only[hsh,hhd]
 generalize hXX:NB w i w.sess[i]=X at hX;obtain ⟨Hq,mq⟩:=H.up0 m5.drop;simp only[Ver.cs] at e5;rw[Ae hi,Ag,Be,hld',Ag,Aa,Ab,Aa,es',Aa,Ab,Aa,Ab,Aa,Ab,Af];by_cases hw:¬ w.sess[i].wait.time>0
 ·have:w.sess[i].wait.time=0:=by simp[A2,Am] at t3;omega
  rw[this,FE,Al];exact H.stay (by rw[hX,decide_eq_false hw];rfl)
 have hw:w.sess[i].wait.time>0:=by omega
 rw[decide_eq_true hw,cond_true] at hX;rw[show (w.sess[i].wait.time==0)=false by rw[beq_eq_false_iff_ne];omega,Au,hpl,Ae hk,Ag,Be,hc2,Ag,Aa,e1,Af,hkey,e5,Ac,Ap,Aa,Ab,Aa,Ab,Aa,Ab,Aa,Ah,Aa,Bh,Aa,At,Af,BI ⟨by omega,by omega⟩,Ag,ho1,Ag,Aa,Af,ez1,Ae hm0,Ag,Be,ho12,Ag,Aa,Ab,Aa,Ab,Af,Bz,Ac,As];cases hA:Gp u.tag.time u.tag.place w.sess[i].wait.time w.sess[i].wait.place with
 | true =>
  rw[show FQ u.tag w.sess[i].wait=true from hA,cond_true] at hX;rw[Al,Bz,Ac,As];cases hB:Gp w.places[k].chain[0].store[m].tag.time w.places[k].chain[0].store[m].tag.place w.sess[i].wait.time w.sess[i].wait.place with
  | false =>rw[show FQ w.places[k].chain[0].store[m].tag w.sess[i].wait=false from hB,cond_false] at hX;rw[Au];obtain ⟨cs',h',F',e,W,M,N⟩:=Hq.stay hX;exact ⟨cs',h',F',e,W,mq.trans M,N⟩
  | true =>rw[show FQ w.places[k].chain[0].store[m].tag w.sess[i].wait=true from hB,cond_true] at hX;obtain ⟨h7,F7,e7,q7,m7⟩:=Hq.wait hi ⟨0,0⟩ 0;rw[Al,Bz,Ac,As,hA,Al,Bz,Ac,As,hA,Al];simp only[] at e7;rw[e7,hX];refine ⟨_,h7,_,rfl,?_,mq.trans m7,fun g=>by first | cases g | (simp at g)⟩;have W:=q7.at;simp only[World.cs,zbz] at W;simpa only [setS,zct,zb6] using W
 | false =>
  rw[show FQ u.tag w.sess[i].wait=false from hA,cond_false] at hX;rw[Au,Bz,Ac,As,hA,Au];by_cases hh:(w.hist.length:Int)≥80
  ·rw[Ak hh];obtain ⟨cs',h',F',e,W,M,N⟩:=Hq.stay (X:=X) (by rw[hX,show DY w 1=false from decide_eq_false (by omega)];rfl);exact ⟨cs',h',F',e,W,mq.trans M,N⟩
  rw[show DY w 1=true from decide_eq_true (by omega),cond_true] at hX;obtain ⟨x6,y6,h6,F6,e6,r6,m6⟩:=J2 (lo:=lo) (k:=m) (t:=w.sess[i].wait) (m5.keep0 rtags_ok hv') (by omega) Hq.hl (by omega);obtain ⟨h7,F7,e7,q7,m7,_⟩:=Hq.past hi m6 r6;obtain ⟨a8,c8,h8,F8,e8,q8,m8,_⟩:=Er (d:=⟨i,3,(m:Nat),w.sess[i].wait⟩) q7 (by show w.hist.length≤1000;omega);have hi8:i<(w.sess.set i ⟨w.sess[i].place,IT w.sess[i].past m w.sess[i].wait,w.sess[i].wait,w.sess[i].key⟩).length:=by simpa using hi
  obtain ⟨h9,F9,e9,q9,m9⟩:=q8.wait hi8 ⟨0,0⟩ 0;have W:=q9.at;simp only[World.cs,zbz] at e8 e9;simp only[World.cs,zbz,zcy,List.set_set] at W;rw[Aj hh,Bz,Ac,As,hA,Au,e6,Ac,Ap,Aa,Ah,Af,e7,e8,Ac,Ap,Aa,Ah,Aa,Ah,Aa,Ah,Aa,Ah,Af,e9,hX];refine ⟨_,h9,_,rfl,?_,mq.trans ((m7.trans m8).trans m9),fun g=>by first | cases g | (simp at g)⟩;simpa only [setS,zct,hkey] using W
end


section
variable {lo:Nat}{h h':Heap}{w:World}{a1 a2 a3 a4 a:Pq}{c1 c2 c3 c4 c:Nq}{F1 F2 F3 F4:List Nat}
theorem TL {kind num key:Int}{text:ByteArray}{gone:Bool}{i:Nat} (H:WR lo h w a1 c1 a2 c2 a3 c3 a4 c4 F1 F2 F3 F4) (hg:Good w) (hi:i<w.sess.length) :
  ∃ cs' h' F',Ad lo 278 [.agg (w.cs a1 c1 a2 c2 a3 c3 a4 c4),.agg [Iv kind,Iv (i:Nat),Iv num,Iv key,.str text,.bool gone]] h=some (.tup [.agg cs',.bool (IX w i w.sess[i] ⟨kind,(i:Nat),num,key,text,gone⟩).isSome],h') ∧
   Ow lo h' cs' ((IX w i w.sess[i] ⟨kind,(i:Nat),num,key,text,gone⟩).getD w) F'∧Mv h (F1++(F2++(F3++F4))) h' F'∧((IX w i w.sess[i] ⟨kind,(i:Nat),num,key,text,gone⟩)=none→cs'=w.cs a1 c1 a2 c2 a3 c3 a4 c4):=by
 suffices hk:∃ cs' h' F',_=some (V.tup [.agg cs',.bool (IX w i w.sess[i] ⟨kind,(i:Nat),num,key,text,gone⟩).isSome],h')∧Ow lo h' cs' ((IX w i w.sess[i] ⟨kind,(i:Nat),num,key,text,gone⟩).getD w) F'∧Mv h (F1++(F2++(F3++F4))) h' F'∧((IX w i w.sess[i] ⟨kind,(i:Nat),num,key,text,gone⟩)=none→cs'=w.cs a1 c1 a2 c2 a3 c3 a4 c4) from by obtain ⟨cs',h',F',e,hr⟩:=hk;exact ⟨cs',h',F',QU e,hr⟩
 have hso:=hg.ok.sess _ (zbb hi);obtain ⟨t1,t2,t3,t4,t5,t6⟩:=Dy hso;have hp4:=DO t2;have h80:=hg.ok.h80;obtain ⟨k,hpl⟩:∃ k:Nat,w.sess[i].place=(k:Int):=⟨w.sess[i].place.toNat,by omega⟩;have hk:k<w.places.length:=by have:=hg.ok.p3;omega
 obtain ⟨hpo,hme,hro⟩:=hg.at hk;have hn:=(Ed (B3 hpo) (by decide) (by decide) (by decide)).1;have hn1:=hn.1.1;have hch:=chain_iff.1 (AK hpo).2.2.2.1;have hst:∀ x∈w.places[k].chain,AO x.store=true:=fun x hx=>(AD ((Cf (AK hpo).2.2.2.1).2 x hx)).1
 obtain ⟨b',i',v,e1',d1',Gs,rfl,hld',_,_,es',hv',_,hGn,puts⟩:=H.sess hi;obtain ⟨b,j,s1,s2,s3,b1,d1,b2,d2,b3,d3,G1,G2,G3,rfl,_,hc2,_,e1,e2,e3,g1,g2,g3,nd,hF,put⟩:=H.place hk;have hX:IX w i w.sess[i] ⟨kind,(i:Nat),num,key,text,gone⟩=bif !decide (w.sess[i].wait.time>0)&&(Am key 0 3&&(Am num 0 ((w.places[k].chain.length:Int) - 1)&&DY w 1)) then
   (match J3 w.places[k].chain num.toNat key.toNat,w.sess[i].past[key.toNat]? with
   | some v,some t=>bif FQ v.tag t then none else some (setS w i ⟨w.sess[i].place,T4 w.sess[i] v key.toNat,w.sess[i].wait,w.sess[i].key⟩ [⟨i,2,key,v.tag⟩])
   | _,_=>none) else none:=by
  unfold IX;rw[hpl,Be,Dc hk]<;>rfl
 generalize hXX:IX w i w.sess[i] ⟨kind,(i:Nat),num,key,text,gone⟩=X at hX;rw[Ae hi,Ag,Be,hld',Ag,Aa,Ab,Aa,es',Aa,Ab,Aa,Ab,Aa,Ab,Af,hpl,Ae hk,Ag,Be,hc2,Ag,Aa,e1,Af];by_cases hw:w.sess[i].wait.time>0
 ·rw[Ak hw];exact H.stay (by rw[hX,decide_eq_true hw];rfl)
 rw[decide_eq_false hw,zci,zbA] at hX;rw[Aj hw,Bf,Ac,As];cases hwk:Am key 0 3 with
 | false=>rw[Au];exact H.stay (by rw[hX,hwk];rfl)
 | true =>
 rw[hwk,zbA] at hX;rw[Al,wr (by omega) (by omega),Bf,Ac,As];cases hwn:Am num 0 ((w.places[k].chain.length:Int) - 1) with
 | false=>rw[Au];exact H.stay (by rw[hX,hwn];rfl)
 | true =>
 rw[hwn,zbA] at hX;rw[Al];by_cases hh:(w.hist.length:Int)≥80
 ·rw[Ak hh];exact H.stay (by rw[hX,show DY w 1=false from decide_eq_false (by omega)];rfl)
 rw[show DY w 1=true from decide_eq_true (by omega),cond_true] at hX;simp only[Am,Dr,decide_eq_true_eq] at hwk hwn;obtain ⟨m,rfl⟩:∃ m:Nat,key=(m:Int):=⟨key.toNat,by omega⟩;obtain ⟨n,rfl⟩:∃ n:Nat,num=(n:Int):=⟨num.toNat,by omega⟩;have hmp:m<w.sess[i].past.length:=by omega
 obtain ⟨u,x5,y5,h1,G5,e5,hsh,r5,m5⟩:=KY (lo:=lo) (k:=n) (key:=m) g1 (by omega) hst (by omega) H.hl hn1;obtain ⟨Hq,mq⟩:=H.up0 m5.drop;rw[Be,Be,hsh,Dc hmp] at hX;simp only[] at hX;have hu4:A6 u.past=true∨u.tag.time=0:=by
  have hql:Et w.places[k].chain n<w.places[k].chain.length:=by unfold Et;split<;>omega
  unfold J3 at hsh;rw[EE hql] at hsh;rcases De (HW (hst _ (zbb hql)) hsh) with g | g
  ·exact .inr (ED g).1
  ·exact .inl (AB g.1).2.2.2.1
 obtain ⟨o',ho',ho2⟩:=(m5.keep0 rtags_ok hv').get hmp;subst ho';simp only[Ver.cs] at e5;rw[Aj hh,e5,Ac,Ap,Aa,Ab,Aa,Ab,Aa,Ab,Aa,Ah,Aa,Bh,Aa,At,Af,Ae hmp,Ag,Be,ho2,Ag,Aa,Ab,Aa,Ab,Af,Bz,Ac,As];cases hA:Gp u.tag.time u.tag.place w.sess[i].past[m].time w.sess[i].past[m].place with
 | true =>rw[show FQ u.tag w.sess[i].past[m]=true from hA,cond_true] at hX;rw[Al];obtain ⟨cs',h',F',e,W,M,N⟩:=Hq.stay hX;exact ⟨cs',h',F',e,W,mq.trans M,N⟩
 | false =>
 rw[show FQ u.tag w.sess[i].past[m]=false from hA,cond_false] at hX;rw[Au];unfold T4 at hX;by_cases ht:u.tag.time>0
 ·rw[decide_eq_true ht,cond_true] at hX;have hu4':u.past.length=4:=DO (hu4.resolve_right (by omega));obtain ⟨q6,x6,y6,h6,F6,e6,r6,m6⟩:=TT (lo:=lo) (m5.keep0 rtags_ok hv') r5 hp4 hu4' Hq.hl;obtain ⟨x7,y7,es7,r7⟩:=r6.form;have hj:(I1 w.sess[i].past u.past).length=4:=by unfold I1;rw[List.length_zipWith];omega
  obtain ⟨x8,y8,h8,F8,e8,r8,m8⟩:=J2 (lo:=lo) (k:=m) (t:=u.tag) r7 (by omega) (zba Hq.hl m6.le) (by omega);obtain ⟨h9,F9,e9,q9,m9,_⟩:=Hq.past hi (m6.drop.trans m8) r8;obtain ⟨x10,y10,h10,F10,e10,q10,m10,_⟩:=Er (d:=⟨i,2,(m:Nat),u.tag⟩) q9 (by show w.hist.length≤1000;omega);have W:=q10.at;simp only[World.cs,zbz] at e10 W;rw[Ak ht,e6,Ac,Ap,Aa,es7,Af,e8,Ac,Ap,Aa,Ah,Af,e9,e10,Ac,Ap,Aa,Ah,Aa,Ah,Aa,Ah,Aa,Ah,Af,hX];exact ⟨_,h10,_,rfl,W,mq.trans (m9.trans m10),fun g=>by first | cases g | (simp at g)⟩
 ·rw[decide_eq_false ht,cond_false] at hX;obtain ⟨x10,y10,h10,F10,e10,q10,m10,_⟩:=Er (d:=⟨i,2,(m:Nat),u.tag⟩) Hq (by omega);have W:=q10.at;simp only[World.cs] at e10 W;have hse:w.sess.set i ⟨w.sess[i].place,w.sess[i].past,w.sess[i].wait,w.sess[i].key⟩=w.sess:=zcI hi;rw[Aj ht,e10,Ac,Ap,Aa,Ah,Aa,Ah,Aa,Ah,Aa,Ah,Af,hX];refine ⟨_,h10,_,rfl,?_,mq.trans m10,fun g=>by first | cases g | (simp at g)⟩;simpa only [setS,zct,hse] using W
end


theorem Zi {a b:Tag} (h1:a.time=b.time) (h2:a.place=b.place):a=b:=by cases a;cases b;simp_all
theorem Xm {p q:List Tag}{m:Nat}{a b:Tag} (hu:BH p q=true) (ha:p[m]?=some a) (hb:q[m]?=some b):Ju a b=b:=by
 have:=under_iff.1 hu m a b ha hb;unfold Ju FQ;rw[Ic] at this;cases hl:Gp a.time a.place b.time b.place with
 | true=>rfl
 | false =>rw[Ic] at hl;show a=b;exact Zi (by omega) (by omega)
theorem QG {p q:List Tag}{m:Nat} (hm:m<p.length) (hq:p.length=q.length) (hu:BH p q=true):IT (q.take m++p.drop m) m (q[m]'(by omega))=q.take (m+1)++p.drop (m+1):=by
 have h1:(q.take m).length=m:=by simp;omega
 have h2:m<(q.take m++p.drop m).length:=by simp;omega
 have h3:(q.take m++p.drop m)[m]=p[m]:=by rw[List.getElem_append_right (by omega)];simp[h1]
 rw[Ry h2,h3,Xm hu (Dc hm) (Dc (by omega)),List.set_append_right _ _ (by omega),h1,Nat.sub_self,List.take_succ_eq_append_getElem (by omega),zbs,zbC hm];rfl
theorem L4 {i:Nat}{l:List Tag}{m:Nat} (hm:m<l.length):(Do i l).take (m+1)=(Do i l).take m ++ [⟨i,2,(m:Nat),l[m]⟩]:=by
 have hl:(Do i l).length=l.length:=by unfold Do;simp
 rw[List.take_succ_eq_append_getElem (by omega)];congr 2;unfold Do;rw[List.getElem_map,List.getElem_zipIdx];simp
section
variable {lo:Nat}{h h':Heap}{w:World}{a1 a2 a3 a4 a:Pq}{c1 c2 c3 c4 c:Nq}{F1 F2 F3 F4:List Nat}
theorem U8 {kind num key:Int}{text:ByteArray}{gone:Bool}{i:Nat} (H:WR lo h w a1 c1 a2 c2 a3 c3 a4 c4 F1 F2 F3 F4) (hg:Good w) (hi:i<w.sess.length) :
  ∃ cs' h' F',Ad lo 279 [.agg (w.cs a1 c1 a2 c2 a3 c3 a4 c4),.agg [Iv kind,Iv (i:Nat),Iv num,Iv key,.str text,.bool gone]] h=some (.tup [.agg cs',.bool (MA w i w.sess[i]).isSome],h') ∧
   Ow lo h' cs' ((MA w i w.sess[i]).getD w) F'∧Mv h (F1++(F2++(F3++F4))) h' F'∧((MA w i w.sess[i])=none→cs'=w.cs a1 c1 a2 c2 a3 c3 a4 c4):=by
 suffices hk:∃ cs' h' F',_=some (V.tup [.agg cs',.bool (MA w i w.sess[i]).isSome],h')∧Ow lo h' cs' ((MA w i w.sess[i]).getD w) F'∧Mv h (F1++(F2++(F3++F4))) h' F'∧((MA w i w.sess[i])=none→cs'=w.cs a1 c1 a2 c2 a3 c3 a4 c4) from by obtain ⟨cs',h',F',e,hr⟩:=hk;exact ⟨cs',h',F',Tf e,hr⟩
 have hso:=hg.ok.sess _ (zbb hi);obtain ⟨t1,t2,t3,t4,t5,t6⟩:=Dy hso;have hp4:=DO t2;have h80:=hg.ok.h80;obtain ⟨k,hpl⟩:∃ k:Nat,w.sess[i].place=(k:Int):=⟨w.sess[i].place.toNat,by omega⟩;have hk:k<w.places.length:=by have:=hg.ok.p3;omega
 obtain ⟨hpo,hme,hro⟩:=hg.at hk;have hn:=(Ed (B3 hpo) (by decide) (by decide) (by decide)).1;have hn1:=hn.1.1;have hch:=chain_iff.1 (AK hpo).2.2.2.1;have hpos:=hch.pos;have hX:MA w i w.sess[i]=bif !decide (w.sess[i].wait.time>0)&&(BH w.sess[i].past (AN w.places[k].chain)&&DY w 4) then some (setS w i ⟨w.sess[i].place,AN w.places[k].chain,w.sess[i].wait,w.sess[i].key⟩ (Do i (AN w.places[k].chain))) else none:=by unfold MA;rw[hpl,Be,Dc hk]
 obtain ⟨b',i',v,e1',d1',Gs,rfl,hld',_,_,es',hv',_,hGn,puts⟩:=H.sess hi;obtain ⟨b,j,s1,s2,s3,b1,d1,b2,d2,b3,d3,G1,G2,G3,rfl,_,hc2,_,e1,e2,e3,g1,g2,g3,nd,hF,put⟩:=H.place hk;have hlast:=Hk (l:=w.places[k].chain) (by omega);have hs4:=(hch.store (Dc (show w.places[k].chain.length - 1<w.places[k].chain.length by omega))).2;obtain ⟨o,z1,z2,p1,q1,p2,q2,H1,H2,rfl,_,ho1,_,ez1,_,gg1,_,hH1,_⟩:=g1.get (show w.places[k].chain.length - 1<w.places[k].chain.length by omega);generalize hst:(w.places[k].chain[w.places[k].chain.length - 1]'(by omega)).store=store at hlast hs4 ez1 gg1;obtain ⟨tv,h1,T1,e5,r5,m5⟩:=N1 (lo:=h.length) gg1 (zbf _) (by omega);obtain ⟨x5,y5,es5,r5⟩:=r5.form;obtain ⟨Hq,mq⟩:=H.up0 m5.drop;rw[hlast] at hX;have htl:(Bi store).length=4:=by unfold Bi;rw[zcx];exact hs4
 have loop:∀ (r m:Nat) (hh:Heap) (x1:Pq) (y1:Nq) (x2:Pq) (y2:Nq) (x3:Pq) (y3:Nq) (x4:Pq) (y4:Nq) (K1 K2 K3 K4:List Nat),m+r=4→BH w.sess[i].past (Bi store)=true→w.hist.length≤76 →
   WR lo hh (setS w i ⟨w.sess[i].place,(Bi store).take m++w.sess[i].past.drop m,w.sess[i].wait,w.sess[i].key⟩ ((Do i (Bi store)).take m)) x1 y1 x2 y2 x3 y3 x4 y4 K1 K2 K3 K4 →
   RVers false hh [.sl 6 p1 store.length q1] store H1→(∀ y∈H1,y∈K1) →
   ∃ cs' h' F',Dl lo (m:Nat) x1 w.places.length y1 x2 w.sess.length y2 x3 w.net.length y3 x4 (w.hist++(Do i (Bi store)).take m).length y4 kind (i:Nat) num key text gone 0 none 0 (some 0) 0 none 0 (some 0) 0 none 0 (some 0) 0 none 0 (some 0) p1 store.length q1 hh=some (V.tup [.agg cs',.bool true],h') ∧
    Ow lo h' cs' (setS w i ⟨w.sess[i].place,Bi store,w.sess[i].wait,w.sess[i].key⟩ (Do i (Bi store))) F'∧Mv hh (K1++(K2++(K3++K4))) h' F':=by
  intro r;induction r with
  | zero =>
   intro m hh x1 y1 x2 y2 x3 y3 x4 y4 K1 K2 K3 K4 hm hu hl Hm hv hK;have:m=4:=by omega
   subst this;have hrl:(Do i (Bi store)).length=4:=by unfold Do;simpa using htl
   have W:=Hm.at;rw[zb3 (by omega),zb2 (by omega),zb6,zb3 (by omega)] at W;refine ⟨_,hh,_,?_,W,Mv.refl Hm.nd⟩;rw[Dl.e,Aj (by omega),zb3 (by omega)];simp only[World.cs,setS,zbz]
  | succ r ih =>
   intro m hh x1 y1 x2 y2 x3 y3 x4 y4 K1 K2 K3 K4 hm hu hl Hm hv hK;have him:i<(setS w i ⟨w.sess[i].place,(Bi store).take m++w.sess[i].past.drop m,w.sess[i].wait,w.sess[i].key⟩ ((Do i (Bi store)).take m)).sess.length:=by simpa [setS] using hi
   obtain ⟨b0,i0,v0,e0,d0,G0,rfl,_,hld1,_,es0,hv0,_,_,_⟩:=Hm.sess him;have hss:(setS w i ⟨w.sess[i].place,(Bi store).take m++w.sess[i].past.drop m,w.sess[i].wait,w.sess[i].key⟩ ((Do i (Bi store)).take m)).sess[i]=⟨w.sess[i].place,(Bi store).take m++w.sess[i].past.drop m,w.sess[i].wait,w.sess[i].key⟩:=by simp[setS]
   have hpl4:((Bi store).take m++w.sess[i].past.drop m).length=4:=by simp;omega
   have hms:m<store.length:=by omega
   obtain ⟨o',_,_,_,_,ho',_,_,_,_,_,_,ho12,_⟩:=hv.all hms;have htm:(Bi store)[m]'(by omega)=store[m].tag:=by unfold Bi;rw[List.getElem_map]
   rw[hss] at es0 hv0;have es0:∀ {R':Type} (K:Pq→Nat→Nq→Option R'),eS 2 v0 K=K e0 ((Bi store).take m++w.sess[i].past.drop m).length d0:=es0;have hv0:RTags false hh [.sl 2 e0 ((Bi store).take m++w.sess[i].past.drop m).length d0] ((Bi store).take m++w.sess[i].past.drop m) G0:=hv0;obtain ⟨x8,y8,h8,F8,e8,r8,m8⟩:=J2 (lo:=lo) (k:=m) (t:=store[m].tag) hv0 (by omega) Hm.hl (by omega);rw[← htm,QG (by omega) (by omega) hu] at r8;obtain ⟨h9,F9,e9,q9,m9,s9⟩:=Hm.past him m8 r8;have hv9:=rvers_ok.fr _ _ _ _ _ hv fun y hy=>s9 y (hK y hy);obtain ⟨o9,_,_,_,_,ho9,_,_,_,_,_,_,ho129,_⟩:=hv9.all hms;have:o'=o9:=by rw[ho'] at ho9;injection ho9
   subst this;have hrt:((Do i (Bi store)).take m).length≤4:=by rw[zcu];omega
   obtain ⟨x10,y10,h10,F10,e10,q10,m10,s10⟩:=Er (d:=⟨i,2,(m:Nat),store[m].tag⟩) q9 (by show (w.hist++_).length≤1000;rw[zbo];omega);have hv10:=rvers_ok.fr _ _ _ _ _ hv9 fun y hy=>s10 y (hK y hy);simp only[setS,zcy,List.set_set,zbs] at q10;rw[← htm,← L4 (by omega)] at q10;obtain ⟨cs',h',F',e,W,M⟩:=ih (m+1) h10 _ _ _ _ _ _ _ _ _ _ _ _ (by omega) hu hl q10 hv10 hK;refine ⟨cs',h',F',?_,W,(m9.trans m10).trans M⟩;simp only[World.cs,setS,zbz] at e9 e10;rw[hpl4] at es0 e8 e9;have hw8:(IT ((Bi store).take m++w.sess[i].past.drop m) m store[m].tag).length=4:=by rw[WW];exact hpl4
   rw[Dl.e,Ak (by omega),Ae hi,Ag,Be,hld1,Ag,Aa,es0,Af,Ae hms,ho',Ag,Be,ho12,Ag,Aa,Ab,Aa,Ab,Af,e8,Ac,Ap,Aa,Ah,Af,e9,Ae hms,Ag,ho129,Ag,Aa,Ab,Aa,Ab,Af,e10,Ac,Ap,Aa,Ah,Aa,Ah,Aa,Ah,Aa,Ah,Af,Ar (by omega),← ho'];rw[zbs,← htm,← L4 (by omega)];exact e
 rw[Ae hi,Ag,Be,hld',Ag,Aa,Ab,Aa,es',Aa,Ab,Aa,Ab,Aa,Ab,Af,hpl,Ae hk,Ag,Be,hc2,Ag,Aa,e1,Af,wr (by omega) (by omega),BI ⟨by omega,by omega⟩,Ag,show ((w.places[k].chain.length:Int) - 1).toNat=w.places[k].chain.length - 1 by omega,ho1,Ag,Aa,ez1,Af];by_cases hw:w.sess[i].wait.time>0
 ·rw[Ak hw];exact H.stay (by rw[hX,decide_eq_true hw];rfl)
 rw[decide_eq_false hw,zci,zbA] at hX;rw[Aj hw,e5,Ac,Ap,Aa,es5,Af,ET (m5.keep0 rtags_ok hv') r5 hp4 htl,Ac,As];cases hu:BH w.sess[i].past (Bi store) with
 | false =>rw[Au];obtain ⟨cs',h',F',e,W,M,N⟩:=Hq.stay (X:=MA w i w.sess[i]) (by rw[hX,hu];rfl);exact ⟨cs',h',F',e,W,mq.trans M,N⟩
 | true =>
 rw[hu,zbA] at hX;rw[Al,wr (by omega) (by omega)];by_cases hh:(w.hist.length:Int)+4>80
 ·rw[Ak hh];obtain ⟨cs',h',F',e,W,M,N⟩:=Hq.stay (X:=MA w i w.sess[i]) (by rw[hX,show DY w 4=false from decide_eq_false (by omega)];rfl);exact ⟨cs',h',F',e,W,mq.trans M,N⟩
 rw[show DY w 4=true from decide_eq_true (by omega),cond_true] at hX;have h0:setS w i ⟨w.sess[i].place,(Bi store).take 0++w.sess[i].past.drop 0,w.sess[i].wait,w.sess[i].key⟩ ((Do i (Bi store)).take 0)=w:=by have hse:w.sess.set i ⟨w.sess[i].place,w.sess[i].past,w.sess[i].wait,w.sess[i].key⟩=w.sess:=zcI hi;simp only[setS,List.take_zero,zbJ,zcc,zb6,hse]
 have hH1:∀ y∈H1,y∈F1:=fun y hy=>(hF y (zbD _ (hH1 y hy))).2.2
 obtain ⟨cs',h',F',e,W,M⟩:=loop 4 0 h1 _ _ _ _ _ _ _ _ _ _ _ _ (by omega) hu (by omega) (by rw[h0];exact Hq) (m5.keep0 rvers_ok gg1) hH1;simp only[List.take_zero,zb6] at e;rw[Aj hh,hX];exact ⟨cs',h',F',e,W,mq.trans M,fun g=>by first | cases g | (simp at g)⟩
theorem NQ {F:List Nat}{cs:List V}{X:Option World}{t:Ov} (ht:∃ cs' h' F',t=some (.tup [.agg cs',.bool X.isSome],h')∧Ow lo h' cs' (X.getD w) F'∧Mv h F h' F'∧(X=none→cs'=cs)) :
  ∃ cs' h' F',(Ai t fun v_2 h_3=>eU v_2 fun c_4=>eC c_4 fun v_5 l_6=>eA v_5 fun c_7=>eC c_7 fun v_8 l_9=>eS 6 (v_8) fun a_10 n_11 c_12=>eC l_9 fun v_13 l_14=>eS 5 (v_13) fun a_15 n_16 c_17=>eC l_14 fun v_18 l_19=>eS 9 (v_18) fun a_20 n_21 c_22=>eC l_19 fun v_23 l_24=>eS 5 (v_23) fun a_25 n_26 c_27=>eN l_24 (eC l_6 fun v_28 l_29=>eB v_28 (eN l_29 (some (V.tup [.agg [.sl 6 a_10 n_11 c_12,.sl 5 a_15 n_16 c_17,.sl 9 a_20 n_21 c_22,.sl 5 a_25 n_26 c_27],.bool true],h_3))) (eN l_29 (some (V.tup [.agg [.sl 6 a_10 n_11 c_12,.sl 5 a_15 n_16 c_17,.sl 9 a_20 n_21 c_22,.sl 5 a_25 n_26 c_27],.bool false],h_3)))))=some (.tup [.agg cs',.bool X.isSome],h')∧Ow lo h' cs' (X.getD w) F'∧Mv h F h' F'∧(X=none→cs'=cs):=by
 obtain ⟨cs',h',F',rfl,W,M,N⟩:=ht;refine ⟨cs',h',F',?_,W,M,N⟩;obtain ⟨x1,y1,x2,y2,x3,y3,x4,y4,K1,K2,K3,K4,rfl,_,_⟩:=W;rw[Ac,C4,Aa,Ap,Aa,Ah,Aa,Ah,Aa,Ah,Aa,Ah,Af,Aa,As];cases X.isSome
 ·rw[Au,Af]
 ·rw[Al,Af]
theorem QK {e:Event} (H:WR lo h w a1 c1 a2 c2 a3 c3 a4 c4 F1 F2 F3 F4) (hg:Good w) (ht:e.text.size≤1048576) :
  ∃ cs' h' F',Ad lo 212 [.agg (w.cs a1 c1 a2 c2 a3 c3 a4 c4),.agg e.cs] h=some (.tup [.agg cs',.bool (FU w e).isSome],h')∧Ow lo h' cs' ((FU w e).getD w) F'∧Mv h (F1++(F2++(F3++F4))) h' F'∧((FU w e)=none→cs'=w.cs a1 c1 a2 c2 a3 c3 a4 c4):=by
 obtain ⟨kind,at',num,key,text,gone⟩:=e;suffices hk:∃ cs' h' F',_=some (V.tup [.agg cs',.bool (FU w ⟨kind,at',num,key,text,gone⟩).isSome],h')∧Ow lo h' cs' ((FU w ⟨kind,at',num,key,text,gone⟩).getD w) F'∧Mv h (F1++(F2++(F3++F4))) h' F'∧((FU w ⟨kind,at',num,key,text,gone⟩)=none→cs'=w.cs a1 c1 a2 c2 a3 c3 a4 c4) from by obtain ⟨cs',h',F',e,hr⟩:=hk;exact ⟨cs',h',F',Ox e,hr⟩
 have hs4:=hg.ok.s4;unfold FU;rw[wr (by omega) (by omega),Bf,Ac,As];cases hat:Am at' 0 ((w.sess.length:Int) - 1) with
 | false=>rw[Au];exact H.stay rfl
 | true =>
 simp only[Am,Dr,decide_eq_true_eq] at hat;obtain ⟨i,rfl⟩:∃ i:Nat,at'=(i:Int):=⟨at'.toNat,by omega⟩;have hi:i<w.sess.length:=by omega
 rw[Al,cond_true,Be,Dc hi];simp only[];cases h1:kind==1 with
 | true=>rw[Al,cond_true];exact NQ (Sq H hg ht hi)
 | false =>
 rw[Au,cond_false];cases h2:kind==2 with
 | true=>rw[Al,cond_true];exact NQ (U7 H hg hi)
 | false =>
 rw[Au,cond_false];cases h3:kind==3 with
 | true=>rw[Al,cond_true];exact NQ (TL H hg hi)
 | false =>
 rw[Au,cond_false];cases h4:kind==4 with
 | true=>rw[Al,cond_true];exact NQ (U8 H hg hi)
 | false =>
 rw[Au,cond_false];obtain ⟨b',i',v,e1',d1',Gs,rfl,_,_,hld2,es',hv',hv,hGn,puts⟩:=H.sess hi;rw[Ae hi,Ag,hld2,Ag,Aa,Af,Ab];unfold Uc;by_cases hw:w.sess[i].wait.time>0
 ·rw[Ak hw];exact H.stay (by rw[decide_eq_true hw];rfl)
 rw[Aj hw,decide_eq_false hw,zci,zbA,Bf,Ac,As];cases hwn:Am num 0 2 with
 | false=>rw[Au];exact H.stay rfl
 | true =>
 obtain ⟨h2',F5,e2,q2,m2,_⟩:=puts h Gs 0 [Iv num] [Iv num,v,Iv w.sess[i].wait.time,Iv w.sess[i].wait.place,Iv w.sess[i].key] ⟨num,w.sess[i].past,w.sess[i].wait,w.sess[i].key⟩ (Mv.refl hGn) rfl ⟨v,rfl,hv⟩;have W:=q2.at;simp only[World.cs,zbz] at W;rw[Al,Ae hi,Ag,e2,Ag,cond_true];refine ⟨_,h2',_,rfl,?_,m2,fun g=>by first | cases g | (simp at g)⟩;simpa only [setS,zct,zb6] using W
theorem RD {e:Event} (H:WR lo h w a1 c1 a2 c2 a3 c3 a4 c4 F1 F2 F3 F4) (hg:Good w) (ht:e.text.size≤1048576) :
  ∃ cs' h' F',Ad lo 124 [.agg (w.cs a1 c1 a2 c2 a3 c3 a4 c4),.agg e.cs] h=some (.tup [.agg cs',.bool (Hh w e).isSome],h')∧Ow lo h' cs' (TA w e) F'∧Mv h (F1++(F2++(F3++F4))) h' F'∧((Hh w e)=none→cs'=w.cs a1 c1 a2 c2 a3 c3 a4 c4):=by
 have hc:=QK H hg ht;have hp:=Sr (e:=e) H hg;have hn:=U6 (e:=e) H hg;obtain ⟨kind,at',num,key,text,gone⟩:=e;unfold TA;suffices hk:∃ cs' h' F',_=some (V.tup [.agg cs',.bool (Hh w ⟨kind,at',num,key,text,gone⟩).isSome],h')∧Ow lo h' cs' ((Hh w ⟨kind,at',num,key,text,gone⟩).getD w) F'∧Mv h (F1++(F2++(F3++F4))) h' F'∧((Hh w ⟨kind,at',num,key,text,gone⟩)=none→cs'=w.cs a1 c1 a2 c2 a3 c3 a4 c4) from by obtain ⟨cs',h',F',e,hr⟩:=hk;exact ⟨cs',h',F',UU e,hr⟩
 rw[Bf,Ac,As];unfold Hh;cases h1:Am kind 1 5 with
 | true=>rw[Al,cond_true];exact NQ hc
 | false =>
 rw[Au,cond_false,Bf,Ac,As];cases h2:Am kind 6 9 with
 | true=>rw[Al,cond_true];exact NQ hp
 | false =>
 rw[Au,cond_false,Bf,Ac,As];unfold Ub at hn;cases h3:kind==10 with
 | true =>
  have h4:Am kind 10 13=true:=by rw[beq_iff_eq] at h3;subst h3;rfl
  simp only[h3,cond_true] at hn;rw[h4,Al,cond_true];exact NQ hn
 | false =>
  simp only[h3,cond_false] at hn;rw[cond_false];cases h4:Am kind 11 13 with
  | true =>
   have h5:Am kind 10 13=true:=by simp[Am] at h4 ⊢;omega
   rw[h5,Al,cond_true];exact NQ hn
  | false =>
   have h5:Am kind 10 13=false:=by rw[beq_eq_false_iff_ne] at h3;simp[Am] at h4 ⊢;omega
   rw[h5,Au];exact H.stay rfl
end


def PG (m:Nat) (n:Nat):Place:=⟨(m:Int),0,List.replicate n ⟨HS,[]⟩,[],[[],[],[]],false⟩
def zam (i:Nat):Sess:=⟨((i % 3:Nat):Int),L9,⟨0,0⟩,0⟩
def KN (n s:Nat):World:=⟨(List.range 3).map fun i=>PG i n,(List.range s).map zam,[],[]⟩
theorem Zz {m n:Nat} (h1:1≤n) (h4:n≤4) (hm:m≤2):An (PG m n)=true:=by
 have hc:∀ n:Fin 5,1≤n.val→∀ m:Fin 3,An (PG m.val n.val)=true:=by decide +kernel
 exact hc ⟨n,by omega⟩ h1 ⟨m,by omega⟩
theorem Xl {m n:Nat} (h1:1≤n) (h4:n≤4) (hm:m≤2):Roomy (PG m n):=by
 have hz:∀ v,inCh (PG m n).chain v→v.tag.time=0:=fun v ⟨x,hx,hv⟩=>by
  have hx:=(List.mem_replicate.1 hx).2;subst hx;rcases hv with hv | hv
  ·have:∀ v∈HS,v.tag.time=0:=by simp[HS,TB]
   exact this v hv
  ·simp at hv
 refine ⟨⟨[],by simp,by simp[PG],fun v hv ht=>by have:=hz v hv;omega⟩,fun v hv ht=>?_⟩;have hpos:0<(PG m n).chain.length:=by show 0<(List.replicate _ _).length;rw[zcz];omega
 have hl:=Ez hpos;rw[hl] at hv;have:=hz v ⟨_,zbb (by omega),.inl hv⟩;omega
theorem Zy {i:Nat}:FJ (zam i)=true:=by
 have hc:∀ m:Fin 3,FJ ⟨((m.val:Nat):Int),L9,⟨0,0⟩,0⟩=true:=by decide +kernel
 exact hc ⟨i % 3,Nat.mod_lt _ (by decide)⟩
theorem RQ {n s:Nat} (h1:1≤n) (h4:n≤4) (hs:s≤4):Good (KN n s):=by
 have hp:∀ (i:Nat) (p:Place),(KN n s).places[i]?=some p→i<3∧p=PG i n:=fun i p hp=>by simp only[KN,zcA,zbP] at hp;obtain ⟨j,hj,rfl⟩:=hp;obtain ⟨hi,rfl⟩:=EY hj;rw[List.length_range] at hi;exact ⟨hi,by rw[List.getElem_range]⟩
 refine ⟨⟨by simp[KN],by simp[KN,hs],by simp[KN],by simp[KN],fun i p h=>?_,fun x hx=>?_,by simp[KN],by simp[KN],fun i p k g h hg=>?_⟩,fun p h=>?_⟩
 ·obtain ⟨hi,rfl⟩:=hp i p h;exact ⟨rfl,Zz h1 h4 (by omega)⟩
 ·simp only[KN,zcQ] at hx;obtain ⟨i,_,rfl⟩:=hx;exact Zy
 ·obtain ⟨hi,rfl⟩:=hp i p h;refine ⟨Hj (KN n s).places k,?_⟩;have:g = []:=by
   have:(PG i n).got=List.replicate 3 []:=rfl;rw[this,List.getElem?_replicate] at hg;split at hg
   ·injection hg with hg;exact hg.symm
   ·cases hg
  rw[this];rfl
 ·obtain ⟨i,hi⟩:=zbt.1 h;obtain ⟨h3,rfl⟩:=hp i p hi;exact Xl h1 h4 (by omega)
section
variable {lo:Nat}{h h':Heap}{w:World}{a1 a2 a3 a4 a:Pq}{c1 c2 c3 c4 c:Nq}{F F' F1 F2 F3 F4:List Nat}
theorem WR.of {cs:List V} (hw:Tb false h cs w F) (hnd:F.Nodup) (hge:∀ y∈F,lo≤y) (hl:lo≤h.length):∃ s1 s2 s3 s4 a1 c1 a2 c2 a3 c3 a4 c4 F1 F2 F3 F4,cs = [s1,s2,s3,s4]∧F=F1++(F2++(F3++F4)) ∧
  (∀ {T:Type} (K:Pq→Nat→Nq→Option T),eS 6 s1 K=K a1 w.places.length c1)∧(∀ {T:Type} (K:Pq→Nat→Nq→Option T),eS 5 s2 K=K a2 w.sess.length c2) ∧
  (∀ {T:Type} (K:Pq→Nat→Nq→Option T),eS 9 s3 K=K a3 w.net.length c3)∧(∀ {T:Type} (K:Pq→Nat→Nq→Option T),eS 5 s4 K=K a4 w.hist.length c4)∧WR lo h w a1 c1 a2 c2 a3 c3 a4 c4 F1 F2 F3 F4:=by
 obtain ⟨s1,s2,s3,s4,F1,F2,F3,F4,rfl,rfl,r1,r2,r3,r4⟩:=hw;obtain ⟨a1,c1,e1,r1⟩:=r1.form;obtain ⟨a2,c2,e2,r2⟩:=r2.form;obtain ⟨a3,c3,e3,r3⟩:=r3.form;obtain ⟨a4,c4,e4,r4⟩:=r4.form;exact ⟨s1,s2,s3,s4,a1,c1,a2,c2,a3,c3,a4,c4,F1,F2,F3,F4,rfl,rfl,e1,e2,e3,e4,r1,r2,r3,r4,hnd,hge,hl⟩
theorem U9 {m n:Nat} (h1:1≤n) (h4:n≤4) :
  ∃ raw b1 d1 b3 d3 h' F',Ad lo 306 [Iv (m:Nat),Iv (n:Nat)] h=some (.agg raw,h')∧raw = [Iv (m:Nat),Iv 0,.sl 2 b1 n d1,.sl 0 none 0 (some 0),.sl 1 b3 3 d3,.bool false] ∧
   RPlace false h' [Iv (m:Nat),Iv 0,.sl 2 b1 n d1,.sl 6 none 0 (some 0),.sl 1 b3 3 d3,.bool false] (PG m n) F'∧Mv h [] h' F':=by
 obtain ⟨v,h2,F2,e2,r2,m2⟩:=KZ (lo:=h.length) (h:=h) h1 h4 (zbf _);obtain ⟨b1,d1,es,r2⟩:=r2.form;rw[zcz] at es r2;have mx:Mv h2 [] (h2 ++ [.rows 1 41 false [[.sl 0 none 0 (some 0)],[.sl 0 none 0 (some 0)],[.sl 0 none 0 (some 0)]]]) [h2.length]:=Mv.last;have m3:=m2.join mx (rnodes_ok.bd _ _ _ _ r2);refine ⟨_,b1,d1,some (h2.length,0),some 3,_,F2 ++ [h2.length],Tg ?_,rfl,⟨_,_,_,F2,[],[h2.length],rfl,rfl,mx.keep0 rnodes_ok r2,Sli.nil,?_⟩,m3⟩
 ·rw[e2,Ac,Ap,Aa,es,Af]
 ·refine ⟨1,some (h2.length,0),some 3,rfl,rfl,[[.sl 0 none 0 (some 0)],[.sl 0 none 0 (some 0)],[.sl 0 none 0 (some 0)]],[[],[],[]],by simp,zbf 3,fun k hk=>by injection hk with hk;subst hk;exact ⟨zbf 3,zbf 3⟩,(fun hk=>by cases hk),?_,rfl⟩;exact ⟨Sli.nil,Sli.nil,Sli.nil,trivial⟩
end


section
variable {lo:Nat}{h h':Heap}{w:World}{a1 a2 a3 a4 a:Pq}{c1 c2 c3 c4 c:Nq}{F F' F1 F2 F3 F4:List Nat}
theorem ZJ {T:Type} (K:Pq→Nat→Nq→Option T):eS 6 (.sl 0 none 0 (some 0)) K=K none 0 (some 0):=rfl
theorem Pj {n s:Nat} (h1:1≤n) (h4:n≤4) (hs:s≤1000) (hl:lo≤h.length):∃ cs h' F',Ad lo 245 [Iv (n:Nat),Iv (s:Nat)] h=some (.agg cs,h')∧Tb false h' cs (KN n s) F'∧Mv h [] h' F':=by
 obtain ⟨q1,x1,y1,h1',F1,e1,r1,m1⟩:=Dh (El:=RPlace false) rplace_ok (h:=h) (l:=List.range 3) (f:=fun i=>PG i n) (lo:=lo) (R:=6) (e:=49) (bytes:=96) hl (by decide) (by decide)
  (fun i q a n1 c hh=>Dk lo (n:Nat) (s:Nat) (i:Nat) 0 none 0 (some 0) 0 none 0 (some 0) 0 none 0 (some 0) 0 none 0 (some 0) q a n1 c 0 none 0 (some 0) 0 none 0 (some 0) 0 none 0 (some 0) hh) (fun i hi q a n1 c hh hm=>by
   rw[List.length_range] at hi;obtain ⟨raw,b1,d1,b3,d3,h2,F2,e2,rfl,r2,m2⟩:=U9 (lo:=lo) (h:=hh) (m:=i) h1 h4;refine ⟨[Iv (i:Nat),Iv 0,.sl 2 b1 n d1,.sl 6 none 0 (some 0),.sl 1 b3 3 d3,.bool false],F2,h2 ++ [.rows 6 49 false [[Iv (i:Nat),Iv 0,.sl 2 b1 n d1,.sl 6 none 0 (some 0),.sl 1 b3 3 d3,.bool false]]],by rw[List.getElem_range];exact Mv.snoc.keep0 rplace_ok r2,m2.trans (Mv.snoc' m2.nd),?_⟩;rw[Dk.e,Ak (by omega),e2,Ac,Ap,Aa,Ab,Aa,Ab,Aa,Ah,Aa,ZJ,Aa,Ah,Aa,At,Af,A4,Ar (by omega)])
 obtain ⟨q2,x2,y2,h2',F2,e2,r2,m2⟩:=Dh (El:=RSess false) IW (h:=h1') (l:=List.range s) (f:=zam) (lo:=lo) (R:=5) (e:=105) (bytes:=56) (zba hl m1.le) (by decide) (by rw[List.length_range];omega)
  (fun i q a n1 c hh=>Dj lo (s:Nat) (i:Nat) 0 none 0 (some 0) 0 none 0 (some 0) 0 none 0 (some 0) 0 none 0 (some 0) q1 x1 3 y1 q a n1 c 0 none 0 (some 0) 0 none 0 (some 0) hh) (fun i hi q a n1 c hh hm=>by
   rw[List.length_range] at hi;obtain ⟨h2,q3,e3,t3,m3⟩:=Is (lo:=lo) (h:=hh);have ht:((i:Int).tmod 3)=((i % 3:Nat):Int):=(Int.ofNat_tmod i 3).symm;refine ⟨[Iv ((i % 3:Nat):Int),.sl 2 (some (q3,0)) 4 (some 4),Iv 0,Iv 0,Iv 0],[q3],h2 ++ [.rows 5 105 false [[Iv ((i % 3:Nat):Int),.sl 2 (some (q3,0)) 4 (some 4),Iv 0,Iv 0,Iv 0]]],by rw[List.getElem_range];exact ⟨_,rfl,Mv.snoc.keep0 rtags_ok t3⟩,m3.trans (Mv.snoc' m3.nd),?_⟩;rw[Dj.e,Ak (by omega),e3,Ac,Ap,Aa,Ah,Af,ht,A4,Ar (by omega)])
 rw[List.length_range] at e1 r1 e2 r2;have m3:=m1.join m2 ((Sli.ok rplace_ok).bd _ _ _ _ r1);refine ⟨[.sl q1 x1 3 y1,.sl q2 x2 s y2,.sl 0 none 0 (some 0),.sl 0 none 0 (some 0)],h2',F1++(F2++([] ++ [])),Tc ?_,⟨_,_,_,_,F1,F2,[],[],rfl,rfl,m2.keep0 rplaces_ok r1,r2,Sli.nil,Sli.nil⟩,by simpa using m3⟩;refine e1.trans ?_;rw[Dk.e,Aj (by omega)];refine e2.trans ?_;rw[Dj.e,Aj (by omega)]
theorem VW {l:List Done} (hl:lo≤h.length) (hn:l.length≤1048576):∃ a' c' h' F',(∀ {T:Type} (K:V→Heap→Option T),Dd lo 174 5 40 (.sl 5 (some (h.length,0)) 0 (some 0)) (l.map Done.cs) (h ++ [.rows 5 174 false []]) K=K (.sl 5 a' l.length c') h') ∧
  RDones false h' [.sl 5 a' l.length c'] l F'∧Mv h [] h' F':=by
 have hfl:(l.map fun _=>([]:List Nat)).flatten = []:=by simp
 obtain ⟨a',c',h',F',e,r,l1,fr,sub,nd⟩:=Jx (h:=h) (lo:=lo) (El:=flat Done.cs) (R:=5) (e:=174) (bytes:=40) Cu (rows:=l.map Done.cs) (l:=l) (Fs:=l.map fun _ => []) EAll.flat (by rw[hfl];simp) (by rw[hfl];simp) (by decide) (by omega) hl;refine ⟨a',c',h',F',e,r,by omega,fun y hy _=>fr y hy,nd,fun y hy=>?_⟩;rcases sub y hy with g | g
 ·rw[hfl] at g;simp at g
 ·exact .inr g
theorem TN (r1:RPlaces false h [.sl 6 a1 w.places.length c1] w.places F1) (r2:RSesss false h [.sl 5 a2 w.sess.length c2] w.sess F2) (r3:RFrames false h [.sl 9 a3 w.net.length c3] w.net F3) (r4:RDones false h [.sl 5 a4 w.hist.length c4] w.hist F4) (hn:We w) (hl:lo≤h.length) :
  ∃ cs h' F',Ad lo 125 [.agg (w.cs a1 c1 a2 c2 a3 c3 a4 c4)] h=some (.agg cs,h')∧Tb false h' cs w F'∧Mv h [] h' F':=by
 obtain ⟨⟨n1,n1'⟩,⟨n2,n2'⟩,⟨n3,n3'⟩,n4⟩:=hn;obtain ⟨x4,y4,h4,K4,e4,t4,m4⟩:=VW (lo:=lo) (h:=h) (l:=w.hist) hl n4;obtain ⟨q1,x1,y1,h5,K1,e1,t1,m1⟩:=Dh (El:=RPlace false) rplace_ok (h:=h4) (l:=w.places) (f:=id) (lo:=lo) (R:=6) (e:=49) (bytes:=96) (zba hl m4.le) (by decide) (by omega)
  (fun i q a n c hh=>CN lo (i:Nat) a1 w.places.length c1 a2 w.sess.length c2 a3 w.net.length c3 a4 w.hist.length c4 0 none 0 (some 0) 0 none 0 (some 0) 0 none 0 (some 0) 0 none 0 (some 0) q a n c 0 none 0 (some 0) 0 none 0 (some 0) x4 w.hist.length y4 hh) (fun i hi q a n c hh hm=>by
   obtain ⟨o,s1,s2,s3,b1,d1,b2,d2,b3,d3,H1,H2,H3,ha,ho,_,_,_,_,es1,es2,es3,p1,p2,p3,_⟩:=((m4.drop.trans hm).keep0 rplaces_ok r1).get hi;obtain ⟨raw,z1,t1,z2,t2,z3,t3,h6,K6,e6,n6,r6,m6⟩:=Jl (lo:=lo) p1 p2 p3 (zba (zba hl m4.le) hm.le) (n1' _ (zbb hi));obtain ⟨v1,v2,v3,_,_,_,_,_,_,rfl,k1,k2,k3,eq⟩:=n6;obtain ⟨rfl,rfl,rfl,rfl,rfl,rfl⟩:=VV eq;refine ⟨w.places[i].cs z1 t1 z2 t2 z3 t3,K6,h6 ++ [.rows 6 49 false [w.places[i].cs z1 t1 z2 t2 z3 t3]],Mv.snoc.keep0 rplace_ok r6,m6.trans (Mv.snoc' m6.nd),?_⟩;simp only[Place.cs] at e6;rw[CN.e,Ak (by omega),Ae hi,ha,Ag,Be,ho,Ag,Aa,Ab,Aa,Ab,Aa,es1,Aa,es2,Aa,es3,Aa,At,Af,e6,Ac,Ap,Aa,Ab,Aa,Ab,Aa,k1,Aa,k2,Aa,k3,Aa,At,Af,A4,Ar (by omega),← ha])
 have l5:=zba (zba hl m4.le) m1.le;have m41:=m4.drop.trans m1.drop;obtain ⟨q2,x2,y2,h6,K2,e2,t2,m2⟩:=Dh (El:=RSess false) IW (h:=h5) (l:=w.sess) (f:=id) (lo:=lo) (R:=5) (e:=105) (bytes:=56) l5 (by decide) (by omega)
  (fun i q a n c hh=>CM lo (i:Nat) a1 w.places.length c1 a2 w.sess.length c2 a3 w.net.length c3 a4 w.hist.length c4 0 none 0 (some 0) 0 none 0 (some 0) 0 none 0 (some 0) 0 none 0 (some 0) q1 x1 w.places.length y1 q a n c 0 none 0 (some 0) x4 w.hist.length y4 hh) (fun i hi q a n c hh hm=>by
   obtain ⟨o,v,b1,d1,G,ha,ho,_,_,es,hp,_⟩:=((m41.trans hm).keep0 rsesss_ok r2).get hi;obtain ⟨z1,t1,h7,K7,e7,r7,m7⟩:=I9 (lo:=lo) (h:=hh) (l:=w.sess[i].past) (zba l5 hm.le) (n2' _ (zbb hi));refine ⟨w.sess[i].cs z1 t1,K7,h7 ++ [.rows 5 105 false [w.sess[i].cs z1 t1]],⟨_,rfl,Mv.snoc.keep0 rtags_ok r7⟩,m7.trans (Mv.snoc' m7.nd),?_⟩;rw[CM.e,Ak (by omega),Ae hi,ha,Ag,Be,ho,Ag,Aa,Ab,Aa,es,Aa,Ab,Aa,Ab,Aa,Ab,Af,RTags.rows (Mv.snoc.keep0 rtags_ok hp),e7,Ah,A4,Ar (by omega),← ha])
 have l6:=zba l5 m2.le;have m42:=m41.trans m2.drop;obtain ⟨q3,x3,y3,h7,K3,e3,t3,m3⟩:=Dh (El:=V9 false) rframe_ok (h:=h6) (l:=w.net) (f:=id) (lo:=lo) (R:=9) (e:=172) (bytes:=96) l6 (by decide) (by omega)
  (fun i q a n c hh=>CL lo (i:Nat) a1 w.places.length c1 a2 w.sess.length c2 a3 w.net.length c3 a4 w.hist.length c4 0 none 0 (some 0) 0 none 0 (some 0) 0 none 0 (some 0) 0 none 0 (some 0) q1 x1 w.places.length y1 q2 x2 w.sess.length y2 q a n c x4 w.hist.length y4 hh) (fun i hi q a n c hh hm=>by
   obtain ⟨o,s,b1,d1,G,ha,ho,es,hp,_⟩:=((m42.trans hm).keep0 rframes_ok r3).get hi;obtain ⟨z1,t1,h7,K7,e7,r7,m7⟩:=Cy (lo:=lo) (v:=w.net[i].ver) hp (zba l6 hm.le) (n3' _ (zbb hi)).1;refine ⟨w.net[i].cs z1 t1,K7,h7 ++ [.rows 9 172 false [w.net[i].cs z1 t1]],⟨_,rfl,_,rfl,Mv.snoc.keep0 rtags_ok r7⟩,m7.trans (Mv.snoc' m7.nd),?_⟩;simp only[Ver.cs] at e7;rw[CL.e,Ak (by omega),Ae hi,ha,Ag,Be,ho,Ag,Aa,Ab,Aa,Ab,Aa,Ab,Aa,Ab,Aa,Ab,Aa,Ab,Aa,es,Aa,Bh,Aa,At,Af,e7,Ac,Ap,Aa,Ab,Aa,Ab,Aa,Ab,Aa,Ah,Aa,Bh,Aa,At,Af,A4,Ar (by omega),← ha])
 rw[zcM] at t1 t2 t3;have bd1:=(Sli.ok rplace_ok).bd _ _ _ _ t1;have bd2:=(Sli.ok IW).bd _ _ _ _ t2;have bd4:=rdones_ok.bd _ _ _ _ t4;have j1:=m4.join m1 bd4;have j2:=j1.join m2 (fun y hy=>by
  rcases zbc.1 hy with g | g
  ·exact zbk (bd4 y g) m1.le
  ·exact bd1 y g)
 have j3:=j2.join m3 (fun y hy=>by
  rcases zbc.1 hy with g | g
  ·rcases zbc.1 g with g | g
   ·exact zbk (bd4 y g) (zba m1.le m2.le)
   ·exact zbk (bd1 y g) m2.le
  ·exact bd2 y g)
 have hperm:(K1++(K2++(K3++K4))).Perm (((K4++K1)++K2)++K3):=by rw[zbs,zbs];exact Yf
 refine ⟨_,h7,K1++(K2++(K3++K4)),QX ?_,⟨_,_,_,_,K1,K2,K3,K4,rfl,rfl,(m2.drop.trans m3.drop).keep0 rplaces_ok t1,m3.keep0 rsesss_ok t2,t3,(m1.drop.trans (m2.drop.trans m3.drop)).keep0 rdones_ok t4⟩,j3.lean (hperm.nodup_iff.2 j3.nd) fun y hy=>hperm.mem_iff.1 hy⟩;obtain ⟨rows,Fs,k1,k2,_⟩:=(Mv.snoc (t := [.rows 5 174 false []])).keep0 rdones_ok r4 |>.rows;rw[k1,k2.of_flat.1,e4,Ah];refine e1.trans ?_;rw[CN.e,Aj (by omega)];refine e2.trans ?_;rw[CM.e,Aj (by omega)];refine e3.trans ?_;rw[CL.e,Aj (by omega)]
end


section
variable {lo:Nat}{h h':Heap}{w:World}{a1 a2 a3 a4 a:Pq}{c1 c2 c3 c4 c:Nq}{F F' F1 F2 F3 F4:List Nat}{b n:Nat}
theorem VN {n2 n3 n4:Nat} (r:Rd lo h b n) (hn:n≤500000) (hp:RPlaces false h [.sl 6 a1 w.places.length c1] w.places F1) (hb:b∉F1) (h3:w.places.length=3) (hgot:∀ p∈w.places,p.got.length=3) :
  ∃ (e:Event) (h':Heap),Ad lo 308 [.ptr (some (b,(0,0))),.agg [.sl 6 a1 w.places.length c1,.sl 5 a2 n2 c2,.sl 9 a3 n3 c3,.sl 5 a4 n4 c4]] h=some (.agg e.cs,h')∧e.text.size≤10∧Rd lo h' b (n+20)∧Mv h [b] h' [b]:=by
 suffices hk:∃ (e:Event) (h':Heap),_=some (V.agg e.cs,h')∧e.text.size≤10∧Rd lo h' b (n+20)∧Mv h [b] h' [b] from by obtain ⟨e,h',g,hr⟩:=hk;exact ⟨e,h',OG g,hr⟩
 obtain ⟨at',h1,e1,g1,g1',r1,m1⟩:=pick r (by omega) 3;obtain ⟨x,h2,e2,g2,g2',r2,m2⟩:=pick r1 (by omega) 20;have m12:=m1.trans m2;have h03:=g1' (by omega);have told:∀ (y:Int) (k:Heap),Ad lo 66 [.ptr (some (b,(0,0))),Iv 3] h2=some (Iv y,k)→0≤y→y<3→Rd lo k b (n+1+1+1)→Mv h2 [b] k [b] →
   ∃ (e:Event) (h':Heap),(Ai (Ad lo 66 [.ptr (some (b,(0,0))),Iv 3] h2) fun v_0 h_1=>eI .i64 v_0 fun n_2=>Ao n_2 w.places.length (eO a1 fun o=>eO (ld h_1 o.1 (o.2+n_2.toNat) 4 1) fun o=>eC o fun o s=>eN s (eS 1 o fun o s b=>Ao at' s (eO o fun o=>eO (ld h_1 o.1 (o.2+at'.toNat) 0 1) fun o=>eC o fun o s=>eN s (eS 6 o fun o o s=>some (V.agg [Iv 10,Iv at',Iv n_2,Iv ((o:Nat):Int),.str ⟨⟨[]⟩⟩,.bool false],h_1))))))=some (V.agg e.cs,h')∧e.text.size≤10∧Rd lo h' b (n+20)∧Mv h [b] h' [b]:=by
  intro y k f lo1 hi1 q u;obtain ⟨j,rfl⟩:∃ j:Nat,y=(j:Int):=⟨y.toNat,by omega⟩;obtain ⟨i,rfl⟩:∃ i:Nat,at'=(i:Int):=⟨at'.toNat,by omega⟩;have hj:j<w.places.length:=by omega
  have hg3:=hgot _ (zbb hj);have m3:=m12.trans u;obtain ⟨o,s1,s2,s3,b1,d1,b2,d2,b3,d3,G1,G2,G3,ha,_,_,_,_,ho,_,_,es3,_,_,p3,_⟩:=(m3.keep rplaces_ok hp fun y hy hm=>hb (by rw[zbi] at hm;exact hm ▸ hy)).get hj;obtain ⟨o',row,G,ha',ho',hel,_⟩:=p3.read (show i<w.places[j].got.length by omega);obtain ⟨v,rfl⟩:∃ v,row = [v]:=by obtain ⟨R',a',c',e,_⟩:=id hel;exact ⟨_,e⟩
  obtain ⟨b4,d4,es4,_⟩:=hel.form;have ld4:ld k o'.1 (o'.2+i) 0 1=some [v]:=by rw[ho'];rfl
  rw[f,Ac,Ab,Ae hj,ha,Ag,Be,ho,Ag,Aa,Af,es3,Ae (by omega),ha',Ag,Be,ld4,Ag,Aa,Af,es4];exact ⟨⟨10,(i:Nat),(j:Nat),((w.places[j].got[i]'(by omega)).length:Nat),⟨⟨[]⟩⟩,false⟩,k,rfl,zbE _,q.up (by omega),m3⟩
 rw[e1,Ac,Ab,e2,Ac,Ab];cases x==(0:Int) with
 | true =>rw[Al];obtain ⟨y1,k1,f1,lo1,hi1,q1,u1⟩:=pick r2 (by omega) 4;obtain ⟨y2,k2,f2,lo2,hi2,q2,u2⟩:=pick q1 (by omega) 4;obtain ⟨y3,k3,f3,g3,q3,u3⟩:=Jy q2 (by omega);rw[f1,Ac,Ab,f2,Ac,Ab,f3,Ac,Bh];exact ⟨⟨1,y1,0,y2,y3,false⟩,k3,rfl,zba (DN g3) (by decide),q3.up (by omega),((((m1.trans m2).trans u1).trans u2).trans u3)⟩
 | false =>
 rw[Au];cases x==(1:Int) with
 | true =>rw[Al];obtain ⟨y1,k1,f1,lo1,hi1,q1,u1⟩:=pick r2 (by omega) 4;obtain ⟨y2,k2,f2,lo2,hi2,q2,u2⟩:=pick q1 (by omega) 4;obtain ⟨y3,k3,f3,g3,q3,u3⟩:=Jy q2 (by omega);rw[f1,Ac,Ab,f2,Ac,Ab,f3,Ac,Bh];exact ⟨⟨1,y1,0,y2,y3,false⟩,k3,rfl,zba (DN g3) (by decide),q3.up (by omega),((((m1.trans m2).trans u1).trans u2).trans u3)⟩
 | false =>
 rw[Au];cases x==(2:Int) with
 | true =>rw[Al];obtain ⟨y1,k1,f1,lo1,hi1,q1,u1⟩:=pick r2 (by omega) 4;obtain ⟨y2,k2,f2,lo2,hi2,q2,u2⟩:=pick q1 (by omega) 4;obtain ⟨y3,k3,f3,g3,q3,u3⟩:=Jy q2 (by omega);rw[f1,Ac,Ab,f2,Ac,Ab,f3,Ac,Bh];exact ⟨⟨1,y1,0,y2,y3,false⟩,k3,rfl,zba (DN g3) (by decide),q3.up (by omega),((((m1.trans m2).trans u1).trans u2).trans u3)⟩
 | false =>
 rw[Au];cases x==(3:Int) with
 | true =>rw[Al];obtain ⟨y1,k1,f1,lo1,hi1,q1,u1⟩:=pick r2 (by omega) 4;obtain ⟨y2,k2,f2,lo2,hi2,q2,u2⟩:=pick q1 (by omega) 4;rw[f1,Ac,Ab,f2,Ac,Ab];exact ⟨⟨1,y1,0,y2,⟨⟨[]⟩⟩,true⟩,k2,rfl,zbE _,q2.up (by omega),(((m1.trans m2).trans u1).trans u2)⟩
 | false =>
 rw[Au];cases x==(4:Int) with
 | true =>rw[Al];obtain ⟨y1,k1,f1,lo1,hi1,q1,u1⟩:=pick r2 (by omega) 4;rw[f1,Ac,Ab];exact ⟨⟨2,y1,0,0,⟨⟨[]⟩⟩,false⟩,k1,rfl,zbE _,q1.up (by omega),((m1.trans m2).trans u1)⟩
 | false =>
 rw[Au];cases x==(5:Int) with
 | true =>rw[Al];obtain ⟨y1,k1,f1,lo1,hi1,q1,u1⟩:=pick r2 (by omega) 4;rw[f1,Ac,Ab];exact ⟨⟨2,y1,0,0,⟨⟨[]⟩⟩,false⟩,k1,rfl,zbE _,q1.up (by omega),((m1.trans m2).trans u1)⟩
 | false =>
 rw[Au];cases x==(6:Int) with
 | true =>rw[Al];obtain ⟨y1,k1,f1,lo1,hi1,q1,u1⟩:=pick r2 (by omega) 4;rw[f1,Ac,Ab];exact ⟨⟨2,y1,0,0,⟨⟨[]⟩⟩,false⟩,k1,rfl,zbE _,q1.up (by omega),((m1.trans m2).trans u1)⟩
 | false =>
 rw[Au];cases x==(7:Int) with
 | true =>rw[Al];obtain ⟨y1,k1,f1,lo1,hi1,q1,u1⟩:=pick r2 (by omega) 4;obtain ⟨y2,k2,f2,lo2,hi2,q2,u2⟩:=pick q1 (by omega) 4;obtain ⟨y3,k3,f3,lo3,hi3,q3,u3⟩:=pick q2 (by omega) 4;rw[f1,Ac,Ab,f2,Ac,Ab,f3,Ac,Ab];exact ⟨⟨3,y1,y2,y3,⟨⟨[]⟩⟩,false⟩,k3,rfl,zbE _,q3.up (by omega),((((m1.trans m2).trans u1).trans u2).trans u3)⟩
 | false =>
 rw[Au];cases x==(8:Int) with
 | true =>rw[Al];obtain ⟨y1,k1,f1,lo1,hi1,q1,u1⟩:=pick r2 (by omega) 4;obtain ⟨y2,k2,f2,lo2,hi2,q2,u2⟩:=pick q1 (by omega) 4;obtain ⟨y3,k3,f3,lo3,hi3,q3,u3⟩:=pick q2 (by omega) 4;rw[f1,Ac,Ab,f2,Ac,Ab,f3,Ac,Ab];exact ⟨⟨3,y1,y2,y3,⟨⟨[]⟩⟩,false⟩,k3,rfl,zbE _,q3.up (by omega),((((m1.trans m2).trans u1).trans u2).trans u3)⟩
 | false =>
 rw[Au];cases x==(9:Int) with
 | true =>rw[Al];obtain ⟨y1,k1,f1,lo1,hi1,q1,u1⟩:=pick r2 (by omega) 4;obtain ⟨y2,k2,f2,lo2,hi2,q2,u2⟩:=pick q1 (by omega) 4;obtain ⟨y3,k3,f3,lo3,hi3,q3,u3⟩:=pick q2 (by omega) 4;rw[f1,Ac,Ab,f2,Ac,Ab,f3,Ac,Ab];exact ⟨⟨3,y1,y2,y3,⟨⟨[]⟩⟩,false⟩,k3,rfl,zbE _,q3.up (by omega),((((m1.trans m2).trans u1).trans u2).trans u3)⟩
 | false =>
 rw[Au];cases x==(10:Int) with
 | true =>rw[Al];obtain ⟨y1,k1,f1,g1,q1,u1⟩:=DL (e:=3) [4,5] (rows := [[Iv 4],[Iv 5]]) (len:=2) (cc:=some 2) r2 (by omega) rfl rfl (by decide);obtain ⟨y2,k2,f2,lo2,hi2,q2,u2⟩:=pick q1 (by omega) 4;obtain ⟨y3,k3,f3,lo3,hi3,q3,u3⟩:=pick q2 (by omega) 3;rw[f1,Ac,Ab,f2,Ac,Ab,f3,Ac,Ab];exact ⟨⟨y1,y2,y3,0,⟨⟨[]⟩⟩,false⟩,k3,rfl,zbE _,q3.up (by omega),((((m1.trans m2).trans u1).trans u2).trans u3)⟩
 | false =>
 rw[Au];cases x==(11:Int) with
 | true =>rw[Al];obtain ⟨y1,k1,f1,g1,q1,u1⟩:=DL (e:=3) [0,0,1,2] (rows := [[Iv 0],[Iv 0],[Iv 1],[Iv 2]]) (len:=4) (cc:=some 4) r2 (by omega) rfl rfl (by decide);rw[f1,Ac,Ab];exact ⟨⟨6,at',y1,0,⟨⟨[]⟩⟩,false⟩,k1,rfl,zbE _,q1.up (by omega),((m1.trans m2).trans u1)⟩
 | false =>
 rw[Au];cases x==(12:Int) with
 | true =>rw[Al];obtain ⟨y1,k1,f1,g1,q1,u1⟩:=DL (e:=3) [0,0,1,2] (rows := [[Iv 0],[Iv 0],[Iv 1],[Iv 2]]) (len:=4) (cc:=some 4) r2 (by omega) rfl rfl (by decide);rw[f1,Ac,Ab];exact ⟨⟨6,at',y1,0,⟨⟨[]⟩⟩,false⟩,k1,rfl,zbE _,q1.up (by omega),((m1.trans m2).trans u1)⟩
 | false =>
 rw[Au];cases x==(13:Int) with
 | true =>rw[Al];obtain ⟨y1,k1,f1,g1,q1,u1⟩:=DL (e:=3) [0,0,1,2] (rows := [[Iv 0],[Iv 0],[Iv 1],[Iv 2]]) (len:=4) (cc:=some 4) r2 (by omega) rfl rfl (by decide);rw[f1,Ac,Ab];exact ⟨⟨6,at',y1,0,⟨⟨[]⟩⟩,false⟩,k1,rfl,zbE _,q1.up (by omega),((m1.trans m2).trans u1)⟩
 | false =>
 rw[Au];cases x==(14:Int) with
 | true =>rw[Al];obtain ⟨y1,k1,f1,g1,q1,u1⟩:=DL (e:=3) [7,8] (rows := [[Iv 7],[Iv 8]]) (len:=2) (cc:=some 2) r2 (by omega) rfl rfl (by decide);obtain ⟨y2,k2,f2,lo2,hi2,q2,u2⟩:=pick q1 (by omega) 4;rw[f1,Ac,Ab,f2,Ac,Ab];exact ⟨⟨y1,at',y2,0,⟨⟨[]⟩⟩,false⟩,k2,rfl,zbE _,q2.up (by omega),(((m1.trans m2).trans u1).trans u2)⟩
 | false =>
 rw[Au];cases x==(15:Int) with
 | true =>rw[Al];obtain ⟨y1,k1,f1,lo1,hi1,q1,u1⟩:=pick r2 (by omega) 3;rw[f1,Ac,Ab];exact ⟨⟨9,at',y1,0,⟨⟨[]⟩⟩,false⟩,k1,rfl,zbE _,q1.up (by omega),((m1.trans m2).trans u1)⟩
 | false =>
 rw[Au];cases x==(16:Int) with
 | true =>rw[Al];obtain ⟨y1,k1,f1,lo1,hi1,q1,u1⟩:=pick r2 (by omega) 3;rw[f1,Ac,Ab];exact ⟨⟨9,at',y1,0,⟨⟨[]⟩⟩,false⟩,k1,rfl,zbE _,q1.up (by omega),((m1.trans m2).trans u1)⟩
 | false =>
 rw[Au];cases x==(17:Int) with
 | true =>rw[Al];obtain ⟨y1,k1,f1,lo1,hi1,q1,u1⟩:=pick r2 (by omega) 3;exact told y1 k1 f1 lo1 (hi1 (by omega)) q1 u1
 | false =>
 rw[Au];cases x==(18:Int) with
 | true =>rw[Al];obtain ⟨y1,k1,f1,lo1,hi1,q1,u1⟩:=pick r2 (by omega) 3;exact told y1 k1 f1 lo1 (hi1 (by omega)) q1 u1
 | false =>
 rw[Au];obtain ⟨y1,k1,f1,g1,q1,u1⟩:=DL (e:=3) [11,11,11,12,13,0,14] (rows := [[Iv 11],[Iv 11],[Iv 11],[Iv 12],[Iv 13],[Iv 0],[Iv 14]]) (len:=7) (cc:=some 7) r2 (by omega) rfl rfl (by decide);obtain ⟨y2,k2,f2,lo2,hi2,q2,u2⟩:=pick q1 (by omega) 3;rw[f1,Ac,Ab,f2,Ac,Ab];exact ⟨⟨y1,y2,0,0,⟨⟨[]⟩⟩,false⟩,k2,rfl,zbE _,q2.up (by omega),(((m1.trans m2).trans u1).trans u2)⟩
end


abbrev REvents:Rel (List Event):=Sli false 6 87 (flat Event.cs)
theorem revents_ok:REvents.Ok:=Sli.ok Cu
section
variable {lo:Nat}{h h':Heap}{w:World}{a1 a2 a3 a4 a:Pq}{c1 c2 c3 c4 c:Nq}{E F F' F1 F2 F3 F4:List Nat}{b n:Nat}
theorem nd3 {E F:List Nat} (hn:(b ::(E++F)).Nodup):b∉E∧b∉F∧E.Nodup∧F.Nodup∧∀ y∈E,y∉F:=by rw[zbj,zbc,zbd] at hn;simp only[not_or] at hn;exact ⟨hn.1.1,hn.1.2,hn.2.1,hn.2.2.1,fun y hy hm=>hn.2.2.2 y hy y hm rfl⟩
theorem Z7 {E F:List Nat}:(b ::(E++F)).Perm (E++(b :: F)):=List.perm_middle.symm
theorem Z6 {E F:List Nat}:(b ::(E++F)).Perm (F++(b :: E)):=by rw[show b ::(E++F)=(b :: E)++F from rfl];exact zb7
theorem P6 {e:Event} (h:e.text.size≤10):e.text.size≤1048576:=by omega
theorem Uz {most:Int} (hmost:most≤1000):∀ (r m:Nat) (hh:Heap) (w:World) (l:List Event) (a:Pq) (c:Nq) (E:List Nat) (x1:Pq) (y1:Nq) (x2:Pq) (y2:Nq) (x3:Pq) (y3:Nq) (x4:Pq) (y4:Nq) (K1 K2 K3 K4:List Nat) (n:Nat),
  (m:Int)+r=most→r≤120→n+21*r≤500000→Rd lo hh b n→REvents hh [.sl 6 a l.length c] l E→(∀ e∈l,e.text.size≤10)→l.length+r≤1000→WR lo hh w x1 y1 x2 y2 x3 y3 x4 y4 K1 K2 K3 K4→Good w→(b ::(E++(K1++(K2++(K3++K4))))).Nodup→(∀ y∈E,lo≤y) →
  ∃ (l':List Event) (a':Pq) (c':Nq) (h':Heap) (E':List Nat),Bd lo b 0 0 most a l.length c (m:Nat) x1 w.places.length y1 x2 w.sess.length y2 x3 w.net.length y3 x4 w.hist.length y4 hh=some (.sl 6 a' l'.length c',h')∧REvents h' [.sl 6 a' l'.length c'] l' E'∧(∀ e∈l',e.text.size≤10)∧l'.length≤1000 ∧
   Rd lo h' b (n+21*r)∧Mv hh (b ::(E++(K1++(K2++(K3++K4))))) h' (b :: E'):=by
 intro r;induction r with
 | zero =>
  intro m hh w l a c E x1 y1 x2 y2 x3 y3 x4 y4 K1 K2 K3 K4 n hm _ _ r0 re ht hl H hg hnd hE;refine ⟨l,a,c,hh,E,?_,re,ht,by omega,r0,(Mv.refl hnd).lean ?_ fun y hy=>?_⟩
  ·rw[Bd.e,Aj (by omega)]
  ·obtain ⟨k1,k2,k3,k4,k5⟩:=nd3 hnd;exact zbj.2 ⟨k1,k3⟩
  ·rw[zbn] at hy ⊢;exact hy.imp id fun g=>zbD _ g
 | succ r ih =>
  intro m hh w l a c E x1 y1 x2 y2 x3 y3 x4 y4 K1 K2 K3 K4 n hm hr hn r0 re ht hl H hg hnd hE;obtain ⟨k1,k2,k3,k4,k5⟩:=nd3 hnd;have hEb:=revents_ok.bd _ _ _ _ re;have hFb:=H.bd;obtain ⟨e,h1,e1,et,r1,m1⟩:=VN (a2:=x2) (c2:=y2) (a3:=x3) (c3:=y3) (a4:=x4) (c4:=y4) (n2:=w.sess.length) (n3:=w.net.length) (n4:=w.hist.length) r0 (by omega) H.r1 (fun hm=>k2 (by simp[hm])) hg.ok.p3 (fun p hp=>by
   obtain ⟨i,hi⟩:=zbt.1 hp;exact (AK (hg.ok.place i p hi).2).2.2.1)
  have notb:∀ {G:List Nat},(∀ y∈G,y∈K1++(K2++(K3++K4)))→∀ y∈G,y ∉ [b]:=fun hG y hy hm=>by rw[zbi] at hm;exact k2 (hm ▸ hG y hy)
  have H1:WR lo h1 w x1 y1 x2 y2 x3 y3 x4 y4 K1 K2 K3 K4:=⟨m1.keep rplaces_ok H.r1 (notb fun y hy=>by simp[hy]),m1.keep rsesss_ok H.r2 (notb fun y hy=>by simp[hy]),m1.keep rframes_ok H.r3 (notb fun y hy=>by simp[hy]),m1.keep rdones_ok H.r4 (notb fun y hy=>by simp[hy]),H.nd,H.ge,zba H.hl m1.le⟩;have re1:=m1.keep revents_ok re fun y hy hm=>k1 (by rw[zbi] at hm;exact hm ▸ hy);have M1:Mv hh (b ::(E++(K1++(K2++(K3++K4))))) h1 (b ::(E++(K1++(K2++(K3++K4))))):=m1.mid (A := [b]) (B:=E++(K1++(K2++(K3++K4)))) (A' := [b]) (.refl _) hnd (fun y hy=>(zbc.1 hy).elim (hEb y) (hFb y)) (.refl _);obtain ⟨cs2,h2,F2,e2,⟨z1,t1,z2,t2,z3,t3,z4,t4,Q1,Q2,Q3,Q4,rfl,rfl,H2⟩,m2,N2⟩:=RD (e:=e) H1 hg (P6 et);have hg2:Good (TA w e):=Wx hg;have hEb1:=revents_ok.bd _ _ _ _ re1;have re2:=m2.keep revents_ok re1 k5;have r2:=r1.keep m2 k2 H.ge;have M2:Mv h1 (b ::(E++(K1++(K2++(K3++K4))))) h2 (b ::(E++(Q1++(Q2++(Q3++Q4))))):=m2.mid Z6 hnd (fun y hy=>by
   rw[zbn] at hy;rcases hy with rfl | hy
   ·exact r1.lt
   ·exact hEb1 y hy) Z6
  have M12:=M1.trans M2;have hnd2:=M12.nd;obtain ⟨j1,j2,j3,j4,j5⟩:=nd3 hnd2;have more:∀ (h3:Heap) (n3:Nat),Rd lo h3 b n3→n3+21*r≤500000→REvents h3 [.sl 6 a l.length c] l E→WR lo h3 (TA w e) z1 t1 z2 t2 z3 t3 z4 t4 Q1 Q2 Q3 Q4→n3≤n+21 →
    ∃ (l':List Event) (a':Pq) (c':Nq) (h':Heap) (E':List Nat),(Av 6 (h3 ++ [.rows 6 87 false [e.cs]]) (.sl 6 (some (h3.length,0)) 1 (some 1)) fun x=>Dd lo 87 6 56 (.sl 6 a l.length c) x (h3 ++ [.rows 6 87 false [e.cs]]) fun x d=>eS 6 x fun x q f=>Bd lo b 0 0 most x q f ((m+1:Nat):Int) z1 (TA w e).places.length t1 z2 (TA w e).sess.length t2 z3 (TA w e).net.length t3 z4 (TA w e).hist.length t4 d)=some (.sl 6 a' l'.length c',h')∧REvents h' [.sl 6 a' l'.length c'] l' E'∧(∀ e∈l',e.text.size≤10)∧l'.length≤1000 ∧
     Rd lo h' b (n+21*(r+1))∧Mv h3 (b ::(E++(Q1++(Q2++(Q3++Q4))))) h' (b :: E'):=by
   intro h3 n3 r3 hn3 re3 H3 hnn;have hEb3:=revents_ok.bd _ _ _ _ re3;obtain ⟨a6,c6,h6,E6,e6,r6,m6⟩:=EV (lo:=lo) (bytes:=56) (e:=87) (El:=flat Event.cs) Cu re3 (row:=e.cs) (x:=e) (G := []) (h1:=h3 ++ [.rows 6 87 false [e.cs]])
    ⟨rfl,rfl⟩ Mv.snoc j3 hE H3.hl (by decide) (by omega)
   have hll:(l ++ [e]).length=l.length+1:=by simp
   rw[← hll] at r6 e6;have H6:WR lo h6 (TA w e) z1 t1 z2 t2 z3 t3 z4 t4 Q1 Q2 Q3 Q4:=⟨m6.keep rplaces_ok H3.r1 (fun y hy hm=>j5 y hm (by simp[hy])),m6.keep rsesss_ok H3.r2 (fun y hy hm=>j5 y hm (by simp[hy])),m6.keep rframes_ok H3.r3 (fun y hy hm=>j5 y hm (by simp[hy])),m6.keep rdones_ok H3.r4 (fun y hy hm=>j5 y hm (by simp[hy])),H3.nd,H3.ge,zba H3.hl m6.le⟩;have M6:Mv h3 (b ::(E++(Q1++(Q2++(Q3++Q4))))) h6 (b ::(E6++(Q1++(Q2++(Q3++Q4))))):=m6.mid Z7 hnd2 (fun y hy=>by
    rw[zbn] at hy;rcases hy with rfl | hy
    ·exact r3.lt
    ·exact H3.bd y hy) Z7
   obtain ⟨l',a',c',h',E',f1,f2,f3,f4,f5,f6⟩:=ih (m+1) h6 (TA w e) (l ++ [e]) a6 c6 E6 _ _ _ _ _ _ _ _ _ _ _ _ n3 (by omega) (by omega) (by omega) (r3.keep m6 j1 hE) r6 (fun x hx=>by
    rcases zbc.1 hx with g | g
    ·exact ht x g
    ·rw[zbi] at g;subst g;exact et) (by omega) H6 hg2 M6.nd (m6.ge H3.hl hE)
   refine ⟨l',a',c',h',E',?_,f2,f3,f4,f5.up (by omega),M6.trans f6⟩;rw[A4,e6,Ah];exact f1
  simp only[Event.cs] at e1;have e2':=e2;simp only[Event.cs,World.cs] at e2';rw[Bd.e,Ak (by omega),e1,Ac,Ap,Aa,Ab,Aa,Ab,Aa,Ab,Aa,Ab,Aa,Bh,Aa,At,Af,e2',Ac,C4,Aa,Ap,Aa,Ah,Aa,Ah,Aa,Ah,Aa,Ah,Af,Aa,As];cases hs:(Hh w e).isSome with
  | true =>obtain ⟨l',a',c',h',E',f1,f2,f3,f4,f5,f6⟩:=more h2 (n+20) r2 (by omega) re2 H2 (by omega);refine ⟨l',a',c',h',E',?_,f2,f3,f4,f5,M12.trans f6⟩;rw[Al,Af,Ar (by omega)];exact f1
  | false =>
   have hnone:Hh w e=none:=by
    cases hx:Hh w e with
    | none=>rfl
    | some y=>rw[hx] at hs;cases hs
   have hw:TA w e=w:=by unfold TA;rw[hnone];rfl
   obtain ⟨v,h3,e3,_,_,r3,m3⟩:=pick r2 (by omega) 6;have notb2:∀ {G:List Nat},(∀ y∈G,y∈Q1++(Q2++(Q3++Q4)))→∀ y∈G,y ∉ [b]:=fun hG y hy hm=>by rw[zbi] at hm;exact j2 (hm ▸ hG y hy)
   have H3:WR lo h3 (TA w e) z1 t1 z2 t2 z3 t3 z4 t4 Q1 Q2 Q3 Q4:=⟨m3.keep rplaces_ok H2.r1 (notb2 fun y hy=>by simp[hy]),m3.keep rsesss_ok H2.r2 (notb2 fun y hy=>by simp[hy]),m3.keep rframes_ok H2.r3 (notb2 fun y hy=>by simp[hy]),m3.keep rdones_ok H2.r4 (notb2 fun y hy=>by simp[hy]),H2.nd,H2.ge,zba H2.hl m3.le⟩;have re3:=m3.keep revents_ok re2 fun y hy hm=>j1 (by rw[zbi] at hm;exact hm ▸ hy);have M3:Mv h2 (b ::(E++(Q1++(Q2++(Q3++Q4))))) h3 (b ::(E++(Q1++(Q2++(Q3++Q4))))):=m3.mid (A := [b]) (B:=E++(Q1++(Q2++(Q3++Q4)))) (A' := [b]) (.refl _) hnd2 (fun y hy=>(zbc.1 hy).elim (revents_ok.bd _ _ _ _ re2 y) (H2.bd y)) (.refl _);have M123:=M12.trans M3;rw[Au,Af,e3,Ac,Ab];by_cases hv:v>0
   ·have eq:=N2 hnone;rw[hw] at eq H3;simp only[World.cs,List.cons.injEq,V.sl.injEq,true_and,and_true] at eq;obtain ⟨⟨rfl,rfl⟩,⟨rfl,rfl⟩,⟨rfl,rfl⟩,rfl,rfl⟩:=eq;obtain ⟨l',a',c',h',E',f1,f2,f3,f4,f5,f6⟩:=ih (m+1) h3 w l a c E _ _ _ _ _ _ _ _ _ _ _ _ (n+21) (by omega) (by omega) (by omega) r3 re3 ht (by omega) H3 hg M123.nd hE;refine ⟨l',a',c',h',E',?_,f2,f3,f4,f5.up (by omega),M123.trans f6⟩;rw[Ak hv,Ar (by omega)];exact f1
   ·obtain ⟨l',a',c',h',E',f1,f2,f3,f4,f5,f6⟩:=more h3 (n+21) r3 (by omega) re3 H3 (by omega);refine ⟨l',a',c',h',E',?_,f2,f3,f4,f5,M123.trans f6⟩;rw[Aj hv,Ar (by omega)];exact f1
theorem MU {cs:List V} (hw:Tb false h cs w F) (m:Mv h' [] h F) (hl':lo≤h'.length):∃ s1 s2 s3 s4 a1 c1 a2 c2 a3 c3 a4 c4 F1 F2 F3 F4,cs = [s1,s2,s3,s4]∧F=F1++(F2++(F3++F4)) ∧
  (∀ {T:Type} (K:Pq→Nat→Nq→Option T),eS 6 s1 K=K a1 w.places.length c1)∧(∀ {T:Type} (K:Pq→Nat→Nq→Option T),eS 5 s2 K=K a2 w.sess.length c2) ∧
  (∀ {T:Type} (K:Pq→Nat→Nq→Option T),eS 9 s3 K=K a3 w.net.length c3)∧(∀ {T:Type} (K:Pq→Nat→Nq→Option T),eS 5 s4 K=K a4 w.hist.length c4)∧WR lo h w a1 c1 a2 c2 a3 c3 a4 c4 F1 F2 F3 F4 :=
 WR.of hw m.nd (m.ge hl' (by simp)) (zba hl' m.le)
theorem Pr {n0 s0 most:Nat} (h1:1≤n0) (h4:n0≤4) (hs:s0≤4) (hmost:most≤120) (r:Rd lo h b n) (hn:n≤300000) (hl:lo≤h.length) :
  ∃ (l:List Event) (a:Pq) (c:Nq) (h':Heap) (E:List Nat),Ad lo 247 [.ptr (some (b,(0,0))),Iv (n0:Nat),Iv (s0:Nat),Iv (most:Nat)] h=some (.sl 6 a l.length c,h')∧REvents h' [.sl 6 a l.length c] l E∧(∀ e∈l,e.text.size≤10)∧l.length≤1000 ∧
   Rd lo h' b (n+3000)∧Mv h [b] h' (b :: E):=by
 obtain ⟨cs,h2,F2,e2,w2,m2⟩:=Pj (lo:=lo) (h:=h) h1 h4 (by omega:s0≤1000) hl;obtain ⟨s1,s2,s3,s4,a1,c1,a2,c2,a3,c3,a4,c4,K1,K2,K3,K4,rfl,rfl,es1,es2,es3,es4,H⟩:=MU w2 m2 hl;have mx:Mv h2 [] (h2 ++ [.rows 6 87 false []]) [h2.length]:=Mv.last;have hb2:=H.bd;have H3:WR lo (h2 ++ [.rows 6 87 false []]) (KN n0 s0) a1 c1 a2 c2 a3 c3 a4 c4 K1 K2 K3 K4:=⟨mx.keep0 rplaces_ok H.r1,mx.keep0 rsesss_ok H.r2,mx.keep0 rframes_ok H.r3,mx.keep0 rdones_ok H.r4,H.nd,H.ge,zba H.hl mx.le⟩;have hre:REvents (h2 ++ [.rows 6 87 false []]) [.sl 6 (some (h2.length,0)) 0 (some 0)] [] [h2.length]:=Sli.fresh (zbf _);have hblt:=r.lt;have hbF:b∉K1++(K2++(K3++K4)):=fun hm=>by have:=m2.new b hm;omega
 have hnd:(b ::([h2.length]++(K1++(K2++(K3++K4))))).Nodup:=by have:=m2.le;rw[zbj,zbK,zbJ,zbj,zbn];exact ⟨fun hm=>hm.elim (fun g=>by omega) hbF,fun hm=>by have:=hb2 _ hm;omega,m2.nd⟩
 have r3:=(r.keep m2 (by simp) (by simp)).keep mx (by simp) (by simp);obtain ⟨l,a,c,h',E,f1,f2,f3,f4,f5,f6⟩:=Uz (most:=(most:Nat)) (by omega) most 0 _ (KN n0 s0) [] _ _ _ _ _ _ _ _ _ _ _ _ _ _ _ n (by omega) (by omega) (by omega) r3 hre (by simp) (by simp;omega) H3 (RQ h1 h4 hs) hnd (by simp;exact zba hl m2.le);refine ⟨l,a,c,h',E,NH ?_,f2,f3,f4,f5.up (by omega),?_⟩
 ·rw[e2,Ac,Ap,Aa,es1,Aa,es2,Aa,es3,Aa,es4,Af];exact f1
 ·have M:Mv h [b] (h2 ++ [.rows 6 87 false []]) (b ::([h2.length]++(K1++(K2++(K3++K4))))):=by
   refine ⟨zba m2.le mx.le,fun y hy hF=>?_,hnd,fun y hy=>?_⟩
   ·rw[mx.fr y (zbk hy m2.le) (by simp),m2.fr y hy (by simp)]
   ·simp only[zbn,zbK,zbJ] at hy;rcases hy with rfl | rfl | hy
    ·exact .inl (by simp)
    ·exact .inr ⟨m2.le,by simp⟩
    ·have:=hb2 y hy;exact .inr ⟨m2.new y hy,by rw[zbo];omega⟩
  exact M.trans f6
end


variable {l:List Event}
section
variable {lo:Nat}{h h':Heap}{w:World}{a1 a2 a3 a4 a:Pq}{c1 c2 c3 c4 c:Nq}{E F F' F1 F2 F3 F4:List Nat}{b n:Nat}
theorem Ww (hg:Good w):We w:=by
 have h1:=hg.ok.p3;have h2:=hg.ok.s4;have h3:=hg.ok.n12;have h4:=hg.ok.h80;refine ⟨⟨by omega,fun p hp=>?_⟩,⟨by omega,fun s hs=>?_⟩,⟨by omega,fun f hf=>?_⟩,by omega⟩
 ·obtain ⟨i,hi⟩:=zbt.1 hp;exact (Ed (B3 (hg.ok.place i p hi).2) (by decide) (by decide) (by decide)).1
 ·have:=DO (Dy (hg.ok.sess s hs)).2.1;omega
 ·have:=(N4 hg (hg.ok.net f hf)).1;have h1:=this.1;have h2:=this.2;omega
theorem Xx {f:Frame}:(Mo w f).sess=w.sess:=by unfold Mo;split<;>rfl
theorem W4 {w':World}{e:Event} (he:Hh w e=some w'):w'.sess.length=w.sess.length:=by
 unfold Hh FU Gy NB IX MA Uc HZ RI Nn at he;simp only[cond_eq_ite] at he
 repeat' split at he
 all_goals first
  | (cases he;done)
  | (injection he with he;subst he;simp[setS,setP,setN,Xx];done)
  | (rw[zbP] at he;obtain ⟨q,_,rfl⟩:=he;rfl)
theorem ZX {e:Event}:(TA w e).sess.length=w.sess.length:=by
 unfold TA;cases he:Hh w e with
 | none=>rfl
 | some w'=>exact W4 he
theorem Su (r:Rd lo h b n) (hn:n≤290000) (hl:lo≤h.length) :
  ∃ (n0 s0:Nat) (l:List Event) (a:Pq) (c:Nq) (h':Heap) (E:List Nat),Ad lo 150 [.ptr (some (b,(0,0)))] h=some (.tup [Iv (n0:Nat),Iv (s0:Nat),.sl 6 a l.length c],h')∧(1≤n0∧n0≤4)∧(1≤s0∧s0≤4)∧REvents h' [.sl 6 a l.length c] l E∧(∀ e∈l,e.text.size≤10)∧l.length≤1000 ∧
   Rd lo h' b (n+3010)∧Mv h [b] h' (b :: E):=by
 obtain ⟨v,h1,e1,g1,g1',r1,m1⟩:=pick r (by omega) 4;obtain ⟨u,h2,e2,g2,g2',r2,m2⟩:=pick r1 (by omega) 4;obtain ⟨k,h3,e3,hk,r3,m3⟩:=DL (e:=3) [0,20,60,120] (rows := [[Iv 0],[Iv 20],[Iv 60],[Iv 120]]) (len:=4) (cc:=some 4) r2 (by omega) rfl rfl (by decide);have hv:=g1' (by omega);have hu:=g2' (by omega);have hk':0≤k∧k≤120:=by simp at hk;omega
 obtain ⟨q,rfl⟩:∃ q:Nat,k=(q:Int):=⟨k.toNat,by omega⟩;obtain ⟨n0,hn0⟩:∃ n0:Nat,1+v=(n0:Int):=⟨(1+v).toNat,by omega⟩;obtain ⟨s0,hs0⟩:∃ s0:Nat,1+u=(s0:Int):=⟨(1+u).toNat,by omega⟩;have m13:=(m1.trans m2).trans m3;obtain ⟨l,a,c,h4,E,e4,f2,f3,f4,f5,f6⟩:=Pr (n0:=n0) (s0:=s0) (most:=q) (by omega) (by omega) (by omega) (by omega) r3 (by omega) (zba hl m13.le);refine ⟨n0,s0,l,a,c,h4,E,Qs ?_,⟨by omega,by omega⟩,⟨by omega,by omega⟩,f2,f3,f4,f5.up (by omega),m13.trans f6⟩;rw[e1,Ac,Ab,e2,Ac,Ab,e3,Ac,Ab,wr (by omega) (by omega),wr (by omega) (by omega),hn0,hs0,e4,Ac,Ah]
theorem Xd (ht:∀ e∈l,e.text.size≤10) (hl6:l.length≤1000):∀ (r m:Nat) (hh:Heap) (w:World) (E:List Nat) (x1:Pq) (y1:Nq) (x2:Pq) (y2:Nq) (x3:Pq) (y3:Nq) (x4:Pq) (y4:Nq) (K1 K2 K3 K4:List Nat),
  m+r=l.length→REvents hh [.sl 6 a l.length c] l E→WR lo hh w x1 y1 x2 y2 x3 y3 x4 y4 K1 K2 K3 K4→Good w→(∀ y∈E,y∉K1++(K2++(K3++K4))) →
  ∃ cs' w' h' F',BV lo a l.length c (m:Nat) 0 none 0 (some 0) 0 none 0 (some 0) 0 none 0 (some 0) 0 none 0 (some 0) x1 w.places.length y1 x2 w.sess.length y2 x3 w.net.length y3 x4 w.hist.length y4 hh=some (.agg cs',h')∧Ow lo h' cs' w' F'∧(Good w'∧w'.sess.length=w.sess.length)∧Mv hh (K1++(K2++(K3++K4))) h' F':=by
 intro r;induction r with
 | zero =>intro m hh w E x1 y1 x2 y2 x3 y3 x4 y4 K1 K2 K3 K4 hm re H hg hd;exact ⟨_,w,hh,_,by rw[BV.e,Aj (by omega)],H.at,⟨hg,rfl⟩,Mv.refl H.nd⟩
 | succ r ih =>
  intro m hh w E x1 y1 x2 y2 x3 y3 x4 y4 K1 K2 K3 K4 hm re H hg hd;by_cases h60:(m:Int)<60
  ·have hml:m<l.length:=by omega
   obtain ⟨o,row,G,ha,hld,⟨rfl,_⟩,_⟩:=re.read hml;obtain ⟨cs2,h2,F2,e2,⟨z1,t1,z2,t2,z3,t3,z4,t4,Q1,Q2,Q3,Q4,rfl,rfl,H2⟩,m2,_⟩:=RD (e:=l[m]) H hg (P6 (ht _ (zbb hml)));have re2:=m2.keep revents_ok re hd;have hEb:=revents_ok.bd _ _ _ _ re;obtain ⟨cs',w',h',F',f1,f2,f3,f4⟩:=ih (m+1) h2 (TA w l[m]) E _ _ _ _ _ _ _ _ _ _ _ _ (by omega) re2 H2 (Wx hg) (fun y hy hm=>by
    rcases m2.sub y hm with g | g
    ·exact hd y hy g
    ·have:=hEb y hy;omega)
   have hld6:ld hh o.1 (o.2+m) 0 6=some l[m].cs:=by rw[hld];exact HL rfl
   simp only[Event.cs] at hld6;simp only[Event.cs,World.cs] at e2;refine ⟨cs',w',h',F',?_,f2,⟨f3.1,by rw[f3.2,ZX]⟩,m2.trans f4⟩;rw[BV.e,Ak (by omega),Ak h60,Ae hml,ha,Ag,Be,hld6,Ag,Aa,Ab,Aa,Ab,Aa,Ab,Aa,Ab,Aa,Bh,Aa,At,Af,e2,Ac,C4,Aa,Ap,Aa,Ah,Aa,Ah,Aa,Ah,Aa,Ah,Af,Aa,As,Af,Ar (by omega),← ha];cases (Hh w l[m]).isSome
   ·rw[Au];exact f1
   ·rw[Al];exact f1
  ·exact ⟨_,w,hh,_,by rw[BV.e,Ak (by omega),Aj h60],H.at,⟨hg,rfl⟩,Mv.refl H.nd⟩
theorem TM {n0 s0:Nat} (h1:1≤n0) (h4:n0≤4) (hs:s0≤4) (re:REvents h [.sl 6 a l.length c] l E) (ht:∀ e∈l,e.text.size≤10) (hl6:l.length≤1000) (hl:lo≤h.length) :
  ∃ cs' w' h' F',Ad lo 145 [Iv (n0:Nat),Iv (s0:Nat),.sl 6 a l.length c] h=some (.agg cs',h')∧Ow lo h' cs' w' F'∧(Good w'∧w'.sess.length=s0)∧Mv h [] h' F':=by
 obtain ⟨cs,h2,F2,e2,w2,m2⟩:=Pj (lo:=lo) (h:=h) h1 h4 (by omega:s0≤1000) hl;obtain ⟨s1,s2,s3,s4,a1,c1,a2,c2,a3,c3,a4,c4,K1,K2,K3,K4,rfl,rfl,es1,es2,es3,es4,H⟩:=MU w2 m2 hl;have hEb:=revents_ok.bd _ _ _ _ re;obtain ⟨cs',w',h',F',f1,f2,f3,f4⟩:=Xd ht hl6 l.length 0 h2 (KN n0 s0) E _ _ _ _ _ _ _ _ _ _ _ _ (by omega) (m2.keep0 revents_ok re) H (RQ h1 h4 hs) (fun y hy hm=>by have:=m2.new y hm;have:=hEb y hy;omega);refine ⟨cs',w',h',F',QV ?_,f2,⟨f3.1,by rw[f3.2];simp[KN]⟩,m2.trans f4⟩;rw[e2,Ac,Ap,Aa,es1,Aa,es2,Aa,es3,Aa,es4,Af];exact f1
theorem U1 (r:Rd lo h b n) (hn:n≤290000) (hl:lo≤h.length) :
  ∃ (w:World) (a1:Pq) (c1:Nq) (a2:Pq) (c2:Nq) (a3:Pq) (c3:Nq) (a4:Pq) (c4:Nq) (h':Heap) (F1 F2 F3 F4:List Nat),Ad lo 77 [.ptr (some (b,(0,0)))] h=some (.agg (w.cs a1 c1 a2 c2 a3 c3 a4 c4),h')∧WR lo h' w a1 c1 a2 c2 a3 c3 a4 c4 F1 F2 F3 F4∧Good w∧1≤w.sess.length∧Rd lo h' b (n+3010)∧Mv h [b] h' (b ::(F1++(F2++(F3++F4)))):=by
 obtain ⟨n0,s0,l,a,c,h1,E,e1,hn0,hs0,re,ht,hl6,r1,m1⟩:=Su r hn hl;have l1:=zba hl m1.le;obtain ⟨cs2,w,h2,F2,e2,⟨z1,t1,z2,t2,z3,t3,z4,t4,Q1,Q2,Q3,Q4,rfl,rfl,H2⟩,⟨hg,hsl⟩,m2⟩:=TM hn0.1 hn0.2 hs0.2 re ht hl6 l1;obtain ⟨cs,h3,K,e3,w3,m3⟩:=TN (lo:=lo) H2.r1 H2.r2 H2.r3 H2.r4 (Ww hg) H2.hl;obtain ⟨s1,s2,s3,s4,a1,c1,a2,c2,a3,c3,a4,c4,K1,K2,K3,K4,rfl,rfl,es1,es2,es3,es4,H⟩:=MU w3 m3 H2.hl;have m12:Mv h [b] h2 [b]:=(m1.lean (F'' := [b]) (by simp) (by simp)).trans (m2.drop.aside (F := []) (F' := []) (G := [b]) (by simp) (by simp;exact r1.lt));have m13:Mv h [b] h3 (b ::(K1++(K2++(K3++K4)))):=by have:=m12.join m3 (by simp;exact zbk r1.lt m2.le);simpa using this
 refine ⟨w,a1,c1,a2,c2,a3,c3,a4,c4,h3,K1,K2,K3,K4,OC ?_,H,hg,?_,(r1.keep m2 (by simp) (by simp)).keep m3 (by simp) (by simp),m13⟩
 ·simp only[World.cs] at e2 e3;rw[e1,Ac,C4,Aa,Ab,Aa,Ab,Aa,Ah,Af,e2,Ac,Ap,Aa,Ah,Aa,Ah,Aa,Ah,Aa,Ah,Af,e3,Ac,Ap,Aa,es1,Aa,es2,Aa,es3,Aa,es4,Af]
 ·omega
end


variable {α:Type}{El:Rel α}{l:List α}
section
variable {lo:Nat}{h h':Heap}{w:World}{a1 a2 a3 a4 a:Pq}{c1 c2 c3 c4 c:Nq}{E F F' F1 F2 F3 F4:List Nat}{b n:Nat}
theorem Sli.toRo {R e e':Nat}{m:Nat} (hs:Sli false R e El h [.sl R a m c] l F):Sli true R e' El h [.sl R a m c] l F:=by
 obtain ⟨R1,a1,c1,e1,g⟩:=hs;injection e1 with e1 _;injection e1 with e0 e2 e4 e3;subst e2;subst e3;subst e4;cases a with
 | none =>obtain ⟨rfl,_,rfl⟩:=g;exact ⟨R,none,c,rfl,rfl,.inl ⟨rfl,rfl⟩⟩
 | some p =>obtain ⟨b,i⟩:=p;obtain ⟨_,rs,Fs,g1,g2,_,_,g5,rfl⟩:=g;exact ⟨R,some (b,i),c,rfl,rfl,.inr ⟨b,i,rs,Fs,rfl,by simp[Heap.rows?,g1],g2,g5,rfl⟩⟩
theorem Sli.one_on {R e e':Nat} (hs:Sli false R e El h [.sl R a l.length c] l F) (h2:2≤l.length) :
  ∃ a' c' F',(∀ {T:Type} (K:Pq→Nat→Nq→Option T),Ax a l.length c (some (Iv 1)) none none K=K a' (l.drop 1).length c')∧Sli true R e' El h [.sl R a' (l.drop 1).length c'] (l.drop 1) F'∧∀ y∈F',y∈F:=by
 obtain ⟨R1,a1,c1,e1,g⟩:=hs;injection e1 with e1 _;injection e1 with e0 e2 e4 e3;subst e2;subst e3;cases a with
 | none=>obtain ⟨hl,_⟩:=g;rw[hl] at h2;simp at h2
 | some p =>
  obtain ⟨b,i⟩:=p;obtain ⟨_,rs,Fs,g1,g2,g3,_,g5,rfl⟩:=g;have hdl:(l.drop 1).length=l.length - 1:=by simp
  have hsub:∀ y∈(Fs.drop 1).flatten,y∈Fs.flatten:=fun y hy=>flat_drop.subset hy;have hrel:Sli true R e' El h [.sl R (some (b,i+1)) (l.drop 1).length (match c with | some k=>some (k - 1) | none=>none)] (l.drop 1) (b ::(Fs.drop 1).flatten):=by refine ⟨R,some (b,i+1),_,rfl,rfl,.inr ⟨b,i+1,rs,Fs.drop 1,rfl,by simp[Heap.rows?,g1],by omega,?_,rfl⟩⟩;have:=g5.drop 1;rw[List.drop_take,zcl] at this;rw[hdl];exact this
  cases c with
  | none =>
   refine ⟨some (b,i+1),none,b ::(Fs.drop 1).flatten,fun K=>?_,hrel,fun y hy=>?_⟩
   ·simp only[Ax,FI,IV,JR,zck,Ab];rw[DT ⟨by omega,by omega⟩];rw[hdl];rfl
   ·rw[zbn] at hy ⊢;exact hy.imp id (hsub y)
  | some k =>
   have hk:=g3 k rfl;refine ⟨some (b,i+1),some (k - 1),b ::(Fs.drop 1).flatten,fun K=>?_,hrel,fun y hy=>?_⟩
   ·simp only[Ax,FI,IV,JR,zck,Ab,Pv];rw[DT ⟨by omega,by omega⟩,show Nat.beq k (1:Int).toNat=false by cases hb:Nat.beq k (1:Int).toNat with | false=>rfl | true=>(have:=zbl hb;simp at this;omega),Au,hdl];rfl
   ·rw[zbn] at hy ⊢;exact hy.imp id (hsub y)
theorem Xe:∀ (r m:Nat) (hh:Heap) (l:List Tag) (q:Nat) (K:List Nat) (n:Nat),m+r=4→l.length=4→n+3*r≤700000→Rd lo hh b n→lo≤hh.length→RTags false hh [.sl 2 (some (q,0)) 4 (some 4)] l K→(b :: K).Nodup→(∀ y∈K,lo≤y) →
  ∃ (l':List Tag) (a':Pq) (c':Nq) (h':Heap) (K':List Nat),Cm lo b 0 0 (m:Nat) 0 none 0 (some 0) (some (q,0)) 4 (some 4) hh=some (.agg [.sl 2 a' l'.length c'],h')∧RTags false h' [.sl 2 a' l'.length c'] l' K'∧l'.length≤4∧Rd lo h' b (n+3*r+10)∧Mv hh (b :: K) h' (b :: K'):=by
 intro r;induction r with
 | zero =>
  intro m hh l q K n hm hl hn r0 hlo rt hnd hK;have hm4:m=4:=by omega
  subst hm4;obtain ⟨k1,k2⟩:=zbj.1 hnd;have hKb:=rtags_ok.bd _ _ _ _ rt;obtain ⟨v,h1,e1,g1,g1',r1,m1⟩:=pick r0 (by omega) 10;have rt1:=m1.keep rtags_ok rt fun y hy hm=>k1 (by rw[zbi] at hm;exact hm ▸ hy);have M1:Mv hh (b :: K) h1 (b :: K):=m1.mid (A := [b]) (B:=K) (A' := [b]) (.refl _) hnd hKb (.refl _);rw[Cm.e,Aj (by omega),e1,Ac,Ab];cases v==(0:Int) with
  | true =>
   obtain ⟨x1,F2,x2,x3,x4⟩:=rt1.behind (by omega) k2;refine ⟨l.drop 1,some (q,0+1),some 3,h1,F2,?_,x2,by simp;omega,r1.up (by omega),M1.lean (zbj.2 ⟨fun hm=>k1 (x4 b hm),x3⟩) fun y hy=>?_⟩
   ·rw[Al,x1 _ (by decide)]
   ·rw[zbn] at hy ⊢;exact hy.imp id (x4 y)
  | false =>
  rw[Au];cases v==(1:Int) with
  | true =>
   obtain ⟨u,h2,e2,g2,g2',r2,m2⟩:=pick r1 (by omega) 4;obtain ⟨t,h3,e3,r3,m3⟩:=Km r2 (by omega);have m23:=m2.trans m3;have rt3:=m23.keep rtags_ok rt1 fun y hy hm=>k1 (by rw[zbi] at hm;exact hm ▸ hy);have M3:Mv h1 (b :: K) h3 (b :: K):=m23.mid (A := [b]) (B:=K) (A' := [b]) (.refl _) hnd (fun y hy=>zbk (hKb y hy) m1.le) (.refl _);have hu:=g2' (by omega);obtain ⟨j,rfl⟩:∃ j:Nat,u=(j:Int):=⟨u.toNat,by omega⟩;have rt3':RTags false h3 [.sl 2 (some (q,0)) l.length (some 4)] l K:=by rw[hl];exact rt3
   obtain ⟨b0,i0,rs,row,G,ha,_,_,hb,hrow,⟨rfl,rfl⟩,_,_,_,put⟩:=rt3'.at (lo:=lo) (k:=j) Cu (by omega) k2 hK;obtain ⟨h4,F4,e4,r4,m4,_⟩:=put h3 [] 0 t.cs t.cs t Mv.nil rfl ⟨rfl,rfl⟩;injection ha with ha;injection ha with ha1 ha2;subst ha1;subst ha2;have M4:Mv h3 (b :: K) h4 (b :: F4):=m4.mid (B := [b]) (zb7 (l₁ := [b])) hnd (fun y hy=>by rw[zbi] at hy;subst hy;exact r3.lt) (zb7 (l₁ := [b]));have hsl:(l.set j t).length=l.length:=by simp
   simp only[Tag.cs] at e3 e4;refine ⟨l.set j t,some (q,0),some 4,h4,F4,?_,by rw[hsl];exact r4,by omega,(r3.keep m4 k1 hK).up (by omega),(M1.trans M3).trans M4⟩;rw[Al,e2,Ac,Ab,e3,Ac,Ap,Aa,Ab,Aa,Ab,Af,Ae (by omega),Ag,Be,e4,Ag,hsl,hl]
  | false =>rw[Au];exact ⟨l,some (q,0),some 4,h1,K,by rw[hl],by rw[hl];exact rt1,by omega,r1.up (by omega),M1⟩
 | succ r ih =>
  intro m hh l q K n hm hl hn r0 hlo rt hnd hK;obtain ⟨k1,k2⟩:=zbj.1 hnd;have hKb:=rtags_ok.bd _ _ _ _ rt;obtain ⟨t,h1,e1,_,r1,m1⟩:=Pc r0 (by omega);have rt1:=m1.keep rtags_ok rt fun y hy hm=>k1 (by rw[zbi] at hm;exact hm ▸ hy);have M1:Mv hh (b :: K) h1 (b :: K):=m1.mid (A := [b]) (B:=K) (A' := [b]) (.refl _) hnd hKb (.refl _);have rt1':RTags false h1 [.sl 2 (some (q,0)) l.length (some 4)] l K:=by rw[hl];exact rt1
  obtain ⟨b0,i0,rs,row,G,ha,_,_,hb,hrow,⟨rfl,rfl⟩,_,_,_,put⟩:=rt1'.at (lo:=lo) (k:=m) Cu (by omega) k2 hK;obtain ⟨h4,F4,e4,r4,m4,_⟩:=put h1 [] 0 t.cs t.cs t Mv.nil rfl ⟨rfl,rfl⟩;injection ha with ha;injection ha with ha1 ha2;subst ha1;subst ha2;have M4:Mv h1 (b :: K) h4 (b :: F4):=m4.mid (B := [b]) (zb7 (l₁ := [b])) hnd (fun y hy=>by rw[zbi] at hy;subst hy;exact r1.lt) (zb7 (l₁ := [b]));have hsl:(l.set m t).length=4:=by simp;exact hl
  rw[hl] at r4;obtain ⟨l',a',c',h',K',f1,f2,f3,f4,f5⟩:=ih (m+1) h4 (l.set m t) q F4 (n+3) (by omega) hsl (by omega) (r1.keep m4 k1 hK) (zba hlo (zba m1.le m4.le)) r4 M4.nd (m4.ge (zba hlo m1.le) hK);simp only[Tag.cs] at e1 e4;refine ⟨l',a',c',h',K',?_,f2,f3,f4.up (by omega),(M1.trans M4).trans f5⟩;rw[Cm.e,Ak (by omega),e1,Ac,Ap,Aa,Ab,Aa,Ab,Af,Ae (by omega),Ag,Be,e4,Ag,Ar (by omega)];exact f1
theorem RN (r:Rd lo h b n) (hn:n≤600000) (hl:lo≤h.length):∃ (l:List Tag) (a:Pq) (c:Nq) (h':Heap) (F':List Nat),Ad lo 105 [.ptr (some (b,(0,0)))] h=some (.agg [.sl 2 a l.length c],h')∧RTags false h' [.sl 2 a l.length c] l F'∧l.length≤4∧Rd lo h' b (n+30)∧Mv h [b] h' (b :: F'):=by
 obtain ⟨h1,q,e1,t1,m1⟩:=Is (lo:=lo) (h:=h);have hq:=m1.new q (by simp);have hblt:=r.lt;have M:Mv h [b] h1 (b :: [q]):=by have:=(m1.aside (F := []) (G := [b]) (by simp) (by simp;exact hblt));simpa using Mv.swap (A := []) (B := [b]) (A' := [q]) (B' := [b]) this
 obtain ⟨l',a',c',h',K',f1,f2,f3,f4,f5⟩:=Xe 4 0 h1 L9 q [q] n rfl rfl (by omega) (r.keep m1 (by simp) (by simp)) (zba hl m1.le) t1 M.nd (by simp;omega);refine ⟨l',a',c',h',K',Qt ?_,f2,f3,f4.up (by omega),M.trans f5⟩;rw[e1,Ac,Ap,Aa,Ah,Af];exact f1
end


section
variable {lo:Nat}{h h':Heap}{w:World}{a1 a2 a3 a4 a:Pq}{c1 c2 c3 c4 c:Nq}{E F F' F1 F2 F3 F4:List Nat}{b n:Nat}
abbrev UT:Rel (List Place):=Sli true 6 0 (RPlace false)
def X8 (p:Place):Prop:=BT p∧p.log.length≤55
theorem Vd {l:List Place}{k:Nat}{p:Place} (h:∀ x∈l,X8 x) (hp:X8 p):∀ x∈l.set k p,X8 x:=fun x hx=>by
 rcases zby hx with g | rfl
 ·exact h x g
 ·exact hp
theorem SD {hh h2:Heap}{A A':List Nat} (m:Mv hh A h2 A') (hb:b<hh.length) (hA:b∉A):b∉A':=fun hm=>by
 rcases m.sub b hm with g | g
 ·exact hA g
 ·omega
theorem Ma {hh h2:Heap}{A F5:List Nat} (m:Mv hh [b] h2 (b :: F5)) (hA:A.Nodup) (hb:∀ y∈A,y<hh.length):(A++F5).Nodup∧b∉F5:=by
 obtain ⟨k1,k2⟩:=zbj.1 m.nd;refine ⟨?_,k1⟩;rw[zbd];refine ⟨hA,k2,fun y hy z hz e=>?_⟩;subst e;rcases m.sub y (by simp[hz]) with g | g
 ·rw[zbi] at g;subst g;exact k1 hz
 ·have:=hb y hy;omega
theorem QQ (r:Rd lo h b n) (hn:n≤200000) (hl:lo≤h.length) :
  ∃ (l:List Place) (a:Pq) (c:Nq) (a2:Pq) (n2:Nat) (c2:Nq) (a3:Pq) (n3:Nat) (c3:Nq) (a4:Pq) (n4:Nat) (c4:Nq) (h':Heap) (F':List Nat),
   Ad lo 185 [.ptr (some (b,(0,0)))] h=some (.agg [.sl 6 a l.length c,.sl 5 a2 n2 c2,.sl 9 a3 n3 c3,.sl 5 a4 n4 c4],h')∧UT h' [.sl 6 a l.length c] l F'∧(∀ p∈l,X8 p)∧(1≤l.length∧l.length≤3)∧b∉F'∧Rd lo h' b (n+6000)∧lo≤h'.length:=by
 obtain ⟨w,a1,c1,a2,c2,a3,c3,a4,c4,h1,F1,F2,F3,F4,e1,H1,hg,hsl,r1,m1⟩:=U1 r (by omega) hl;obtain ⟨bF,hnd⟩:=zbj.1 m1.nd;have hp3:=hg.ok.p3;have hh80:=hg.ok.h80;have hn12:=hg.ok.n12;obtain ⟨k,h2,e2,g2,g2',r2,m2⟩:=pick r1 (by omega) 3;obtain ⟨x,h3,e3,g3,g3',r3,m3⟩:=pick r2 (by omega) 16;have m23:=m2.trans m3;have notb:∀ {G:List Nat},(∀ y∈G,y∈F1++(F2++(F3++F4)))→∀ y∈G,y ∉ [b]:=fun hG y hy hm=>by rw[zbi] at hm;exact bF (hm ▸ hG y hy)
 have keepW:∀ {hh:Heap},Mv h1 [b] hh [b]→WR lo hh w a1 c1 a2 c2 a3 c3 a4 c4 F1 F2 F3 F4:=fun m=>⟨m.keep rplaces_ok H1.r1 (notb fun y hy=>by simp[hy]),m.keep rsesss_ok H1.r2 (notb fun y hy=>by simp[hy]),m.keep rframes_ok H1.r3 (notb fun y hy=>by simp[hy]),m.keep rdones_ok H1.r4 (notb fun y hy=>by simp[hy]),H1.nd,H1.ge,zba H1.hl m.le⟩
 have H:=keepW m23;have bF1:b∉F1:=fun hm=>bF (by simp[hm]);have hsm:∀ p∈w.places,X8 p:=fun p hp=>⟨(Ww hg).1.2 p hp,by
  obtain ⟨i,hi⟩:=zbt.1 hp;have:=(hg.room p hp).len (hg.ok.place i p hi).2;omega⟩
 have hk3:=g2' (by omega);obtain ⟨k,rfl⟩:∃ q:Nat,k=(q:Int):=⟨k.toNat,by omega⟩;have hk:k<w.places.length:=by omega
 obtain ⟨hpo,_,_⟩:=hg.at hk;have hpsm:=(hsm _ (zbb hk)).1;have hplog:w.places[k].log.length≤54:=(hg.room _ (zbb hk)).len hpo;obtain ⟨⟨n1,_⟩,d12,d13,d14,_⟩:=Tx H.nd;have hge1:∀ y∈F1,lo≤y:=fun y hy=>H.ge y (by simp[hy]);have hset:∀ p':Place,(w.places.set k p').length=w.places.length:=fun p'=>by simp
 suffices hkk:∃ (l:List Place) (a:Pq) (c:Nq) (a2:Pq) (n2:Nat) (c2:Nq) (a3:Pq) (n3:Nat) (c3:Nq) (a4:Pq) (n4:Nat) (c4:Nq) (h':Heap) (F':List Nat),
   _=some (V.agg [.sl 6 a l.length c,.sl 5 a2 n2 c2,.sl 9 a3 n3 c3,.sl 5 a4 n4 c4],h')∧UT h' [.sl 6 a l.length c] l F'∧(∀ p∈l,X8 p)∧(1≤l.length∧l.length≤3)∧b∉F'∧Rd lo h' b (n+6000)∧lo≤h'.length from by
  obtain ⟨l,a,c,a2,n2,c2,a3,n3,c3,a4,n4,c4,h',F',e,hr⟩:=hkk;exact ⟨l,a,c,a2,n2,c2,a3,n3,c3,a4,n4,c4,h',F',LC e,hr⟩
 simp only[World.cs] at e1;rw[e1,Ac,Ap,Aa,Ah,Aa,Ah,Aa,Ah,Aa,Ah,Af,e2,Ac,Ab,e3,Ac,Ab];cases x==(0:Int) with
 | true =>obtain ⟨g,h4,e4,_,r4,m4⟩:=DL (e:=3) [-1,0,1000] (rows := [[Iv (-1)],[Iv 0],[Iv 1000]]) (len:=3) (cc:=some 3) r3 (by omega) rfl rfl (by decide);have H4:=keepW (m23.trans m4);obtain ⟨b0,i0,rs,row,G,ha,_,_,hb,hrow,hel,hGF,hGn,_,put⟩:=Sli.at (lo:=lo) rplace_ok H4.r1 hk n1 hge1;obtain ⟨s1,s2,s3,G1,G2,G3,rfl,rfl,q1,q2,q3⟩:=hel;subst ha;obtain ⟨h5,F5,e5,t5,m5,_⟩:=put h4 (G1++(G2++G3)) 1 [Iv g] [Iv w.places[k].me,Iv g,s1,s2,s3,.bool w.places[k].fell] ⟨w.places[k].me,g,w.places[k].chain,w.places[k].log,w.places[k].got,w.places[k].fell⟩ (Mv.refl hGn) rfl ⟨_,_,_,G1,G2,G3,rfl,rfl,q1,q2,q3⟩;rw[Al,e4,Ac,Ab,Ae hk,Ag,Be,e5,Ag,← hset ⟨w.places[k].me,g,w.places[k].chain,w.places[k].log,w.places[k].got,w.places[k].fell⟩];rw[← hset ⟨w.places[k].me,g,w.places[k].chain,w.places[k].log,w.places[k].got,w.places[k].fell⟩] at t5;exact ⟨_,_,_,_,_,_,_,_,_,_,_,_,h5,F5,rfl,t5.toRo,Vd hsm ⟨⟨hpsm.1,hpsm.2.1,hpsm.2.2⟩,by show w.places[k].log.length≤55;omega⟩,by rw[hset];omega,SD m5 r4.lt bF1,(r4.keep m5 bF1 hge1).up (by omega),zba H4.hl m5.le⟩
 | false =>
 rw[Au];cases x==(1:Int) with
 | true =>
  obtain ⟨v,av,cv,h4,F5,e4,t4,hv,r4,m4⟩:=Kl r3 (by omega) H.hl;obtain ⟨nd5,b5⟩:=Ma m4 n1 H.lt.1;have hr1:=m4.keep rplaces_ok H.r1 (notb fun y hy=>by simp[hy]);have hF5:=rtags_ok.bd _ _ _ _ t4;obtain ⟨b',i',rs,row,G,rfl,hbF,hbG,hb1,hb2,hel,hGF,hGn,put⟩:=Sli.at_aside (lo:=lo) (E:=F5) rplace_ok hr1 hk nd5 hge1 hF5;obtain ⟨s1,s2,s3,G1,G2,G3,rfl,rfl,q1,q2,q3⟩:=hel;obtain ⟨aw,cw,esw,q2⟩:=q2.form;obtain ⟨nG1,nG23,dG1⟩:=zbd.1 hGn;obtain ⟨nG2,nG3,dG23⟩:=zbd.1 nG23;have dF5:∀ y∈G1++(G2++G3),y∉F5:=fun y hy hm=>(zbd.1 nd5).2.2 y (hGF y hy) y hm rfl;have hlog:=(B3 hpo).log.1;have hH1:=rnodes_ok.bd _ _ _ _ q1;have hH2:=rvers_ok.bd _ _ _ _ q2;have hH3:=rvss_ok.bd _ _ _ _ q3;have mx:Mv h4 [] (h4 ++ [.rows 6 34 false [v.cs av cv]]) []:=Mv.snoc;have q2x:=mx.keep0 rvers_ok q2;have t5x:=mx.keep0 rtags_ok t4;have hl4:=zba H.hl m4.le;obtain ⟨a6,c6,h6,F6,p1,p2,p3,p4,p5,p6⟩:=Sli.push (lo:=lo) (bytes:=72) (e:=34) rver_ok.fr q2x (xs := [v.cs av cv]) (ys := [v]) (Gs := [F5]) ⟨⟨_,rfl,t5x⟩,trivial⟩ (by decide) (by simp;omega) (fun y hy=>hge1 y (hGF y (by simp[hy]))) (by simp;omega)
   (by
    rw[zbd];refine ⟨nG2,by simpa using (zbd.1 nd5).2.1,fun y hy z hz e=>?_⟩;subst e;exact dF5 y (by simp[hy]) (by simpa using hz))
   (fun y hy=>by
    rw[zbc] at hy;rw[zbo];rcases hy with hy | hy
    ·have:=hH2 y hy;omega
    ·have:=hF5 y (by simpa using hy);omega) (by simp)
  simp only[zbv] at p1 p2;have hfin:∀ y∈F6,y∈G2∨y∈F5∨(h4.length≤y∧y<h6.length):=fun y hy=>by
   rcases p5 y hy with g | g
   ·rw[zbc] at g;rcases g with g | g
    ·exact .inl g
    ·exact .inr (.inl (by simpa using g))
   ·rw[zbo] at g;exact .inr (.inr (by omega))
  have hlen:h4.length≤h6.length:=by rw[zbo] at p3;omega
  have fr:∀ y,y<h4.length→y∉G2→h6[y]?=h4[y]?:=fun y hy hn=>by rw[p4 y (by rw[zbo];omega) hn,zbe hy]
  have hmv:Mv h4 ((G1++(G2++G3))++F5) h6 (G1++(F6++G3)):=by
   refine ⟨hlen,fun y hy hn=>fr y hy fun hm=>hn (by simp[hm]),?_,fun y hy=>?_⟩
   ·rw[zbd,zbd];refine ⟨nG1,⟨p6,nG3,fun y hy z hz e=>?_⟩,fun y hy z hz e=>?_⟩
    ·subst e;rcases hfin y hy with g | g | g
     ·exact dG23 y g y hz rfl
     ·exact dF5 y (by simp[hz]) g
     ·have:=hH3 y hz;omega
    ·subst e;rcases zbc.1 hz with hz | hz
     ·rcases hfin y hz with g | g | g
      ·exact dG1 y hy y (by simp[g]) rfl
      ·exact dF5 y (by simp[hy]) g
      ·have:=hH1 y hy;omega
     ·exact dG1 y hy y (by simp[hz]) rfl
   ·simp only[zbc] at hy;rcases hy with hy | hy | hy
    ·exact .inl (by simp[hy])
    ·rcases hfin y hy with g | g | g
     ·exact .inl (by simp[g])
     ·exact .inl (by simp[g])
     ·exact .inr g
    ·exact .inl (by simp[hy])
  have q1x:=rnodes_ok.fr _ _ _ _ _ q1 fun y hy=>fr y (hH1 y hy) fun hm=>dG1 y hy y (by simp[hm]) rfl;have q3x:=rvss_ok.fr _ _ _ _ _ q3 fun y hy=>fr y (hH3 y hy) fun hm=>dG23 y hm y hy rfl;obtain ⟨h7,F7,e7,t7,m7⟩:=put h6 (G1++(F6++G3)) 3 [.sl 6 a6 (w.places[k].log.length+1) c6] [Iv w.places[k].me,Iv w.places[k].clock,s1,.sl 6 a6 (w.places[k].log.length+1) c6,s3,.bool w.places[k].fell] ⟨w.places[k].me,w.places[k].clock,w.places[k].chain,w.places[k].log ++ [v],w.places[k].got,w.places[k].fell⟩ hmv rfl ⟨_,_,_,G1,F6,G3,rfl,rfl,q1x,p2,q3x⟩;have l5:ld h4 b' (i'+k) 3 1=some [s2]:=by rw[Bx hb1 hb2];rfl
  have l3:ld h3 b' (i'+k) 3 1=some [s2]:=by have hb3:h4[b']?=h3[b']?:=m4.fr b' (H.lt.1 b' hbF) (fun hm=>bF1 (by rw[zbi] at hm;exact hm ▸ hbF));rw[← OX hb3];exact l5
  have l6:ld (h4 ++ [.rows 6 34 false [v.cs av cv]]) b' (i'+k) 3 1=some [s2]:=by rw[OX (zbe (zbk (H.lt.1 b' hbF) m4.le))];exact l5
  simp only[Ver.cs] at e4 p1 l6;rw[Al,Ae hk,Ag,Be,l3,Ag,Aa,Af,esw,e4,Ac,Ap,Aa,Ab,Aa,Ab,Aa,Ab,Aa,Ah,Aa,Bh,Aa,At,Af,l5,l6,Py,GF,GF,A4,p1,Ah,Ae hk,Ag,e7,Ag];have hs':=hset ⟨w.places[k].me,w.places[k].clock,w.places[k].chain,w.places[k].log ++ [v],w.places[k].got,w.places[k].fell⟩;rw[← hs'] at t7 ⊢;refine ⟨_,_,_,_,_,_,_,_,_,_,_,_,h7,F7,rfl,t7.toRo,Vd hsm ⟨⟨hpsm.1,⟨by simp;omega,fun u hu=>?_⟩,hpsm.2.2⟩,by show (w.places[k].log ++ [v]).length≤55;simp;omega⟩,by rw[hs'];omega,SD m7 r4.lt (fun hm=>(zbc.1 hm).elim bF1 b5),((r4.keep m7 (fun hm=>(zbc.1 hm).elim bF1 b5) fun y hy=>(zbc.1 hy).elim (hge1 y) fun g=>m4.ge H.hl (fun z hz=>by rw[zbi] at hz;subst hz;exact r3.ge) y (by simp[g]))).up (by omega),zba hl4 m7.le⟩;rcases zbc.1 hu with hu | hu
  ·exact hpsm.2.1.2 u hu
  ·rw[zbi] at hu;subst hu;exact ⟨by omega,by omega⟩
 | false =>
 rw[Au];cases x==(2:Int) with
 | true =>
  obtain ⟨l,al,cl,h4,G4,e4,t4,sm4,r4,m4⟩:=QS r3 (by omega) H.hl;obtain ⟨nd5,b5⟩:=Ma m4 n1 H.lt.1;have hr1:=m4.keep rplaces_ok H.r1 (notb fun y hy=>by simp[hy]);have hG4:=rnodes_ok.bd _ _ _ _ t4;obtain ⟨b',i',rs,row,G,rfl,hbF,hbG,hb1,hb2,hel,hGF,hGn,put⟩:=Sli.at_aside (lo:=lo) (E:=G4) rplace_ok hr1 hk nd5 hge1 hG4;obtain ⟨s1,s2,s3,H1',H2',H3',rfl,rfl,q1,q2,q3⟩:=hel;have nd23:(G4++(H2'++H3')).Nodup:=by rw[zbd];refine ⟨(zbd.1 nd5).2.1,(zbd.1 hGn).2.1,fun y hy z hz e=>?_⟩;subst e;exact (zbd.1 nd5).2.2 y (hGF y (zbF _ hz)) y hy rfl
  have hmv:Mv h4 ((H1'++(H2'++H3'))++G4) h4 (G4++(H2'++H3')):=⟨zbf _,fun _ _ _=>rfl,nd23,fun y hy=>by
   simp only[zbc] at hy ⊢;left;grind⟩
  obtain ⟨h5,F5,e5,t5,m5⟩:=put h4 (G4++(H2'++H3')) 2 [.sl 2 al l.length cl] [Iv w.places[k].me,Iv w.places[k].clock,.sl 2 al l.length cl,s2,s3,.bool w.places[k].fell] ⟨w.places[k].me,w.places[k].clock,l,w.places[k].log,w.places[k].got,w.places[k].fell⟩ hmv rfl ⟨_,_,_,G4,H2',H3',rfl,rfl,t4,q2,q3⟩;rw[Al,e4,Ac,Ap,Aa,Ah,Af,Ae hk,Ag,Be,e5,Ag];have hs':=hset ⟨w.places[k].me,w.places[k].clock,l,w.places[k].log,w.places[k].got,w.places[k].fell⟩;rw[← hs'] at t5 ⊢;exact ⟨_,_,_,_,_,_,_,_,_,_,_,_,h5,F5,rfl,t5.toRo,Vd hsm ⟨⟨sm4,hpsm.2.1,hpsm.2.2⟩,by show w.places[k].log.length≤55;omega⟩,by rw[hs'];omega,SD m5 r4.lt (fun hm=>(zbc.1 hm).elim bF1 b5),((r4.keep m5 (fun hm=>(zbc.1 hm).elim bF1 b5) fun y hy=>(zbc.1 hy).elim (hge1 y) fun g=>m4.ge H.hl (fun z hz=>by rw[zbi] at hz;subst hz;exact r3.ge) y (by simp[g]))).up (by omega),zba (zba H.hl m4.le) m5.le⟩
 | false =>
 rw[Au];cases x==(3:Int) with
 | true =>
  obtain ⟨a',c',F',k1,k2,k3⟩:=H.r1.one_on (e':=0) (by omega);rw[Al,k1];have hdl:(w.places.drop 1).length=w.places.length - 1:=by simp
  exact ⟨w.places.drop 1,_,_,_,_,_,_,_,_,_,_,_,h3,F',rfl,k2,fun p hp=>hsm p (zcB hp),by omega,fun hm=>bF1 (k3 b hm),r3.up (by omega),H.hl⟩
 | false =>
 rw[Au];cases x==(4:Int) with
 | true =>
  obtain ⟨g,h4,e4,_,_,r4,m4⟩:=pick r3 (by omega) 3;have H4:=keepW (m23.trans m4);obtain ⟨v,q,h5,F5,e5,t5,hv,r5,m5⟩:=LU r4 (by omega) H4.hl;obtain ⟨⟨_,_,n3,_⟩,_⟩:=Tx H4.nd;have bF3:b∉F3:=fun hm=>bF (by simp[hm]);obtain ⟨nd5,b5⟩:=Ma m5 n3 H4.lt.2.2.1;have hr3:=m5.keep rframes_ok H4.r3 (notb fun y hy=>by simp[hy]);have hr1:=m5.keep rplaces_ok H4.r1 (notb fun y hy=>by simp[hy]);have hF5:=rtags_ok.bd _ _ _ _ t5;have hF3:=rframes_ok.bd _ _ _ _ hr3;have hl5:=zba H4.hl m5.le;have mx:Mv h5 [] (h5 ++ [.rows 9 172 false [Iv (k:Nat) :: Iv g :: Iv 0 :: v.cs (some (q,0)) (some 4)]]) []:=Mv.snoc;have hr3x:=mx.keep0 rframes_ok hr3;have t5x:=mx.keep0 rtags_ok t5;have hge3:∀ y∈F3,lo≤y:=fun y hy=>H.ge y (by simp[hy]);obtain ⟨a6,c6,h6,F6,p1,p2,p3,p4,p5,p6⟩:=Sli.push (lo:=lo) (bytes:=96) (e:=172) rframe_ok.fr hr3x (xs := [Iv (k:Nat) :: Iv g :: Iv 0 :: v.cs (some (q,0)) (some 4)]) (ys := [⟨(k:Nat),g,0,v⟩]) (Gs := [F5]) ⟨⟨_,rfl,_,rfl,t5x⟩,trivial⟩ (by decide) (by simp;omega) hge3 (by simp;omega)
   (by simpa using nd5)
   (fun y hy=>by
    rw[zbc] at hy;rw[zbo];rcases hy with hy | hy
    ·have:=hF3 y hy;omega
    ·have:=hF5 y (by simpa using hy);omega) (by simp)
  simp only[zbv] at p1 p2;have hlen:h5.length≤h6.length:=by rw[zbo] at p3;omega
  have fr:∀ y,y<h5.length→y∉F3→h6[y]?=h5[y]?:=fun y hy hn=>by rw[p4 y (by rw[zbo];omega) hn,zbe hy]
  have m6:Mv h5 F3 h6 []:=⟨hlen,fr,by simp,by simp⟩;simp only[Ver.cs] at e5 p1;rw[Al,e4,Ac,Ab,e5,Ac,Ap,Aa,Ab,Aa,Ab,Aa,Ab,Aa,Ah,Aa,Bh,Aa,At,Af,A4,p1,Ah];exact ⟨w.places,_,_,_,_,_,_,_,_,_,_,_,h6,F1,rfl,(m6.keep rplaces_ok hr1 d13).toRo,hsm,by omega,bF1,(r5.keep m6 bF3 hge3).up (by omega),zba hl5 hlen⟩
 | false =>
 rw[Au];cases x==(5:Int) with
 | true =>
  obtain ⟨x1,k1,f1,_,_,r4,m4⟩:=pick r3 (by omega) 5;obtain ⟨x2,k2,f2,_,_,r5,m5⟩:=pick r4 (by omega) 5;obtain ⟨x3,k3,f3,_,_,r6,m6⟩:=pick r5 (by omega) 5;obtain ⟨t,k4,f4,r7,m7⟩:=Km r6 (by omega);have H4:=keepW ((((m23.trans m4).trans m5).trans m6).trans m7);obtain ⟨a5,c5,h5,G5,_,H5,M5,s5⟩:=Er (d:=⟨x1,x2,x3,t⟩) H4 (by omega);obtain ⟨⟨_,_,_,n4⟩,_,_,d14',_⟩:=Tx H4.nd;obtain ⟨a6,c6,h6,F6,e6,r8,m8⟩:=EV (lo:=lo) (bytes:=40) (e:=174) (El:=flat Done.cs) Cu H4.r4 (row:=Done.cs ⟨x1,x2,x3,t⟩) (x:=⟨x1,x2,x3,t⟩) (G := []) (h1:=k4 ++ [.rows 5 174 false [Done.cs ⟨x1,x2,x3,t⟩]])
   ⟨rfl,rfl⟩ Mv.snoc n4 (fun y hy=>H4.ge y (by simp[hy])) H4.hl (by decide) (by omega)
  simp only[Tag.cs] at f4;simp only[Done.cs] at e6;rw[Al,f1,Ac,Ab,f2,Ac,Ab,f3,Ac,Ab,f4,Ac,Ap,Aa,Ab,Aa,Ab,Af,A4,e6,Ah];exact ⟨w.places,_,_,_,_,_,_,_,_,_,_,_,h6,F1,rfl,(m8.keep rplaces_ok H4.r1 fun y hy hm=>d14' y hy hm).toRo,hsm,by omega,bF1,(r7.keep m8 (fun hm=>bF (by simp[hm])) fun y hy=>H4.ge y (by simp[hy])).up (by omega),zba H4.hl m8.le⟩
 | false =>
 rw[Au];cases x==(6:Int) with
 | true =>
  obtain ⟨l,al,cl,h4,G4,e4,t4,_,r4,m4⟩:=RN r3 (by omega) H.hl;obtain ⟨⟨_,n2,_,_⟩,_⟩:=Tx H.nd;have bF2:b∉F2:=fun hm=>bF (by simp[hm]);obtain ⟨nd5,b5⟩:=Ma m4 n2 H.lt.2.1;have hr2:=m4.keep rsesss_ok H.r2 (notb fun y hy=>by simp[hy]);have hr1:=m4.keep rplaces_ok H.r1 (notb fun y hy=>by simp[hy]);have hG4:=rtags_ok.bd _ _ _ _ t4;have hge2:∀ y∈F2,lo≤y:=fun y hy=>H.ge y (by simp[hy]);obtain ⟨b',i',rs,row,G,rfl,hbF,hbG,hb1,hb2,hel,hGF,hGn,put⟩:=Sli.at_aside (lo:=lo) (E:=G4) (k:=0) IW hr2 (by omega) nd5 hge2 hG4;obtain ⟨v,rfl,hv⟩:=hel;have hmv:Mv h4 (G++G4) h4 G4:=⟨zbf _,fun _ _ _=>rfl,(zbd.1 nd5).2.1,fun y hy => .inl (by simp[hy])⟩;obtain ⟨h5,F5,e5,t5,m5⟩:=put h4 G4 1 [.sl 2 al l.length cl] [Iv w.sess[0].place,.sl 2 al l.length cl,Iv w.sess[0].wait.time,Iv w.sess[0].wait.place,Iv w.sess[0].key] ⟨w.sess[0].place,l,w.sess[0].wait,w.sess[0].key⟩ hmv rfl ⟨_,rfl,t4⟩;have hG4':∀ y∈G4,h3.length≤y:=fun y hy=>by
   rcases m4.sub y (by simp[hy]) with g | g
   ·rw[zbi] at g;subst g;exact absurd hy b5
   ·exact g.1
  rw[Al,e4,Ac,Ap,Aa,Ah,Af,BI ⟨by omega,by omega⟩,Ag,e5,Ag];exact ⟨w.places,_,_,_,_,_,_,_,_,_,_,_,h5,F1,rfl,(m5.keep rplaces_ok hr1 fun y hy hm=>(zbc.1 hm).elim (d12 y hy) fun g=>by have:=hG4' y g;have:=H.lt.1 y hy;omega).toRo,hsm,by omega,bF1,(r4.keep m5 (fun hm=>(zbc.1 hm).elim bF2 b5) fun y hy=>(zbc.1 hy).elim (hge2 y) fun g=>zba H.hl (hG4' y g)).up (by omega),zba (zba H.hl m4.le) m5.le⟩
 | false =>rw[Au];exact ⟨w.places,_,_,_,_,_,_,_,_,_,_,_,h3,F1,rfl,H.r1.toRo,hsm,by omega,bF1,r3.up (by omega),H.hl⟩
theorem PD (r:Rd lo h b n) (hn:n≤200000) (hl:lo≤h.length) :
  ∃ (p:Place) (cs:List V) (h':Heap) (F':List Nat),Ad lo 94 [.ptr (some (b,(0,0)))] h=some (.agg cs,h')∧A5 false h' cs p F'∧X8 p∧b∉F'∧Rd lo h' b (n+6001)∧lo≤h'.length:=by
 obtain ⟨l,a,c,a2,n2,c2,a3,n3,c3,a4,n4,c4,h1,F1,e1,t1,hsm,hlen,hb,r1,hl1⟩:=QQ r hn hl;obtain ⟨x,h2,e2,g2,g2',r2,m2⟩:=pick r1 (by omega) ((l.length:Nat):Int);have hx:=g2' (by omega);obtain ⟨k,rfl⟩:∃ k:Nat,x=(k:Int):=⟨x.toNat,by omega⟩;have hk:k<l.length:=by omega
 have t2:=m2.keep (Sli.ok rplace_ok) t1 fun y hy hm=>hb (by rw[zbi] at hm;exact hm ▸ hy);obtain ⟨o,row,G,ha,hld,hel,hG,_⟩:=t2.read hk;obtain ⟨s1,s2,s3,b1,d1,b2,d2,b3,d3,G1,G2,G3,rfl,rfl,es1,es2,es3,q1,q2,q3⟩:=hel.form;have hld6:ld h2 o.1 (o.2+k) 0 6=some [Iv l[k].me,Iv l[k].clock,s1,s2,s3,.bool l[k].fell]:=by rw[hld];exact HL rfl
 refine ⟨l[k],l[k].cs b1 d1 b2 d2 b3 d3,h2,G1++(G2++G3),OF ?_,⟨_,_,_,_,_,_,rfl,_,_,_,G1,G2,G3,rfl,rfl,q1,q2,q3⟩,hsm _ (zbb hk),fun hm=>hb (hG b hm),r2.up (by omega),zba hl1 m2.le⟩;rw[e1,Ac,Ap,Aa,Ah,Aa,Ah,Aa,Ah,Aa,Ah,Af,e2,Ac,Ab,Ae hk,ha,Ag,Be,hld6,Ag,Aa,Ab,Aa,Ab,Aa,es1,Aa,es2,Aa,es3,Aa,At,Af]
end


section
variable {h:Heap}
theorem zaI {n t:Nat}{xs:List V} (hu:Tryz.prog.underlying t=some (.int .u8)) (hx:TV Tryz.prog h (n+1) t xs):∃ u:UInt8,xs=zaX u:=by
 simp only[TV,hu] at hx;obtain ⟨i,rfl,h2⟩:=hx;have e1:IntKind.u8.min=0:=by decide
 have e2:IntKind.u8.max=255:=by decide
 simp only[Lit.wf,Dr,decide_eq_true_eq,e1,e2] at h2;refine ⟨UInt8.ofNat i.toNat,?_⟩;unfold zaX;rw[UInt8.toNat_ofNat',Nat.mod_eq_of_lt (by omega),show ((i.toNat:Nat):Int)=i by omega]
theorem Ql {n:Nat}{x:V} (hx:ArgV Tryz.prog h (n+2) 22 x):∃ (a:Pq) (c:Nq) (l:List UInt8) (F:List Nat),x = .sl 1 a l.length c∧RBytes h [.sl 1 a l.length c] l F∧(∀ y∈F,y<h.length)∧∀ k,c=some k→l.length≤k:=by
 have hx2:TV Tryz.prog h (n+2) 22 [x]:=by unfold ArgV at hx;rw[Tryz.underlying22] at hx;exact hx
 have hx3:=hx2;simp only[TV,Tryz.underlying22] at hx3;obtain ⟨a,c,rs,e,⟨_,hcap⟩,_⟩:=hx3;injection e with e _;subst e;obtain ⟨l,F,h1,_⟩:=zaf (El:=flat zaX) (bd:=fun _=>True) (ee:=0) (R:=1) Tryz.underlying22 (by kernel_rfl) (fun row hr=>by obtain ⟨t,rfl⟩:=zaI (n:=n) Tryz.underlying5 hr;exact ⟨t,[],⟨rfl,rfl⟩,trivial⟩) hx2;have hv:=h1.val;have hc:Tryz.prog.cellsOf 5=1:=by kernel_rfl
 rw[hv,hc] at h1;exact ⟨a,c,l,F,by rw[hv,hc],h1,(Sli.ok Cu).bd _ _ _ _ h1,fun k hk=>by rw[← hv];exact hcap k hk⟩
end


section
variable {lo:Nat}{ro ro':Bool}{h:Heap}{F F':List Nat}
theorem KG {p:Place}{a1 a2 a3 a1' a2' a3':Pq}{c1 c2 c3 c1' c2' c3':Nq} (h1:RPlace ro h (p.cs a1 c1 a2 c2 a3 c3) p F) (h2:RPlace ro' h (p.cs a1' c1' a2' c2' a3' c3') p F') (hn:BT p) :
  Ad lo 24 [.agg (p.cs a1 c1 a2 c2 a3 c3),.agg (p.cs a1' c1' a2' c2' a3' c3')] h=some (.bool true,h):=by
 obtain ⟨n1,n2,n3⟩:=hn;have n3':=n3.1;obtain ⟨G1,G2,G3,_,p1,p2,p3⟩:=h1.cells;obtain ⟨G1',G2',G3',_,q1,q2,q3⟩:=h2.cells;refine Qy (h':=h) ?_;rw[FE,Al,FE,Al,zaz,Al,Z3 p1 q1 n1,Ac,As,Al,V0 p2 q2 n2,Ac,As,Al,FE,Al];refine (ID (n:=p.got.length) (fun i=>Co h.length false (i:Nat) p.me p.clock a1 p.chain.length c1 a2 p.log.length c2 a3 p.got.length c3 p.fell p.me p.clock a1' p.chain.length c1' a2' p.log.length c2' a3' p.got.length c3' p.fell h) fun i hi=>?_).trans ?_
 ·obtain ⟨o,s,b1,d1,G,ha,ho,es,hp,_⟩:=p3.get hi;obtain ⟨o',s',b1',d1',G',ha',ho',es',hp',_⟩:=q3.get hi;rw[Co.e,Ak (by omega),Ae hi,ha,Ag,Be,ho,Ag,Aa,Af,es,Ae hi,ha',Ag,ho',Ag,Aa,Af,es',V0 hp hp' (n3.2 _ (zbb hi)),Ac,As,Al,Ar (show i<9223372036854775807 by omega)]
 ·rw[Co.e,Aj (by omega)]
end


section
variable {lo:Nat}{h:Heap}{F F':List Nat}{a:Pq}{c:Nq}
theorem UN {l:List Node} (hs:RNodes false h [.sl 2 a l.length c] l F) (hl:lo≤h.length) (hn:Cs l) (hc:Ch l) (hca:D3 l=true):∃ h',Ad lo 32 [.agg [.sl 2 a l.length c]] h=some (.bool true,h')∧Mv h [] h' []:=by
 obtain ⟨a1,c1,h1,F1,e1,r1,m1⟩:=GK (lo:=lo) hs hl hn hc;have hs1:=m1.keep0 rnodes_ok hs;have hn1:=hn.1;refine ⟨h1,OL ?_,m1.drop⟩;rw[e1,Ac,Ap,Aa,Ah,Af];refine (ID (n:=l.length) (fun i=>Ce lo false (i:Nat) a l.length c a1 (AN l).length c1 h1) fun i hi=>?_).trans ?_
 ·rw[Ce.e,Ak (by omega)];have hx:=Dc hi;have h4:=(hc.store hx).2;refine (ID (n:=4) (fun j=>BQ lo false (i:Nat) (j:Nat) a l.length c a1 (AN l).length c1 h1) fun j hj=>?_).trans ?_
  ·obtain ⟨o,s1,s2,b1,d1,b2,d2,G1,G2,ha,ho,ho1,ho2,es1,es2,p1,p2,_⟩:=hs1.get hi;have hj4:j<l[i].store.length:=by omega
   obtain ⟨o',s,b3,d3,G,ha',ho',es,hp,_⟩:=p1.get hj4;rw[BQ.e,Ak (by omega),Ae hi,ha,Ag,Be,ho1,Ag,Aa,Af,es1,Ae hj4,ha',Ag,Be,ho',Ag,Aa,Ab,Aa,Ab,Aa,Ab,Aa,es,Aa,Bh,Aa,At,Af,← ha];by_cases ht:l[i].store[j].tag.time>0
   ·have hin:inCh l l[i].store[j]:=⟨l[i],zbb hi,.inl (zbb hj4)⟩;have hv:=hc.ver hin ht;rw[Ak ht,Hr hp r1 (AB hv).2.2.2.1 (Ir hc),Ac,As,(Lv hc).1 hca _ hin ht,Al,Ar (by omega)]
   ·rw[Aj ht,Ar (by omega)]
  ·rw[BQ.e,Aj (by omega),Ar (by omega)]
 ·rw[Ce.e,Aj (by omega)]
theorem Rw {a0:Pq}{c0:Nq}{code:List UInt8} (hs:RBytes h [.sl 1 a0 code.length c0] code F) (hF:∀ y∈F,y<lo) (hl:lo≤h.length) (hn:code.length≤1048576) (hcap:∀ k,c0=some k→code.length≤k) :
  ∃ (p:Place) (cs:List V) (k:Int) (h':Heap) (F':List Nat),Ad lo 27 [.sl 1 a0 code.length c0] h=some (.tup [.agg cs,Iv k],h')∧A5 false h' cs p F'∧X8 p∧lo≤h'.length:=by
 obtain ⟨b,h1,e1,r1,m1⟩:=RO hs hF hl hn hcap;obtain ⟨p,cs,h2,F2,e2,t2,sm2,hb,r2,l2⟩:=PD r1 (by omega) (zba hl m1.le);obtain ⟨k,h3,e3,_,r3,m3⟩:=DL (e:=3) [0,1,2,0,1,2,3] (rows := [[Iv 0],[Iv 1],[Iv 2],[Iv 0],[Iv 1],[Iv 2],[Iv 3]]) (len:=7) (cc:=some 7) r2 (by omega) rfl rfl (by decide);refine ⟨p,cs,k,h3,F2,Kq ?_,m3.keep rplaceN_ok t2 (fun y hy hm=>hb (by rw[zbi] at hm;exact hm ▸ hy)),sm2,zba l2 m3.le⟩;obtain ⟨x1,y1,x2,y2,x3,y3,rfl,_⟩:=t2;rw[e1,Ac,zaT,e2,Ac,Ap,Aa,Ab,Aa,Ab,Aa,Ah,Aa,Ah,Aa,Ah,Aa,At,Af,e3,Ac,Ab]
end


theorem Uv {T:Type}{n s:Nat} (L:Nat→Option T) (hs:s≤n) (step:∀ i,s≤i→i<n→L i=L (i+1)):L s=L n:=by
 have loop:∀ d,s+d≤n→L s=L (s+d):=by
  intro d;induction d with
  | zero=>intro _;rfl
  | succ d ih=>intro hd;rw[ih (by omega),step (s+d) (by omega) (by omega)];rfl
 have:=loop (n - s) (by omega);rwa [show s+(n - s)=n by omega] at this
theorem W3 {p:Place}{f:Int} (hpo:An p=true) (hc:Ba p f=true):∃ (v u:Ver) (z x:Node),p.chain[0]?=some z∧(A7 p f).chain[0]?=some x∧z.store[v.key.toNat]?=some u∧x.store=z.store.set v.key.toNat v∧AZ u v=true∧v.tag.place=f ∧
  v.tag.time≤(A7 p f).clock∧p.clock≤(A7 p f).clock∧A3 v=true∧BH v.past (AN p.chain)=true:=by
 have hch:=FM hpo;have hpos:=hch.pos;have hx:A7 p f=JL p f.toNat:=by unfold A7;rw[hc];rfl
 unfold Ba at hc;rw[Dr] at hc;obtain ⟨hw,ht⟩:=hc;simp only[Am,Dr,decide_eq_true_eq] at hw;unfold HC at ht;rw[hx];unfold JL;cases hv:IP p f.toNat with
 | none=>rw[hv] at ht;cases ht
 | some v =>
  rw[hv] at ht;simp only[Dr] at ht;obtain ⟨v1,v2,v3,v4⟩:=PM hpo hv;have hz:=Dc (l:=p.chain) (i:=0) (by omega);obtain ⟨u,hu⟩:=hch.key hz v1;have hless:AZ u v=true:=by have hl:=List.find?_some hv;rw[If (by omega)] at hl;obtain ⟨hi,hu'⟩:=EY hu;rw[Ka hi,hu'] at hl;exact hl
  have hn:=Ua (t:=v.tag.time) (c:=p.clock);have hadd:EH p.chain 0 v=p.chain.set 0 ⟨(p.chain[0]'(by omega)).store.set v.key.toNat v,bif decide (0+1<p.chain.length) then (p.chain[0]'(by omega)).wait ++ [v] else (p.chain[0]'(by omega)).wait⟩:=by rw[Hl hz hu,hless,cond_true]
  refine ⟨v,u,_,⟨(p.chain[0]'(by omega)).store.set v.key.toNat v,bif decide (0+1<p.chain.length) then (p.chain[0]'(by omega)).wait ++ [v] else (p.chain[0]'(by omega)).wait⟩,hz,?_,hu,rfl,hless,by omega,hn.1,hn.2.1,v1,ht.2⟩;show (EH p.chain 0 v)[0]?=_;rw[hadd,zbr (by omega)]
theorem Oq {h:Heap}{F:List Nat}{a0:Pq}{c0:Nq}{code:List UInt8} (hs:RBytes h [.sl 1 a0 code.length c0] code F) (hF:∀ y∈F,y<h.length) (hcap:∀ k,c0=some k→code.length≤k) :
  ∃ h',Ad h.length 5 [.sl 1 a0 code.length c0] h=some (.bool true,h'):=by
 suffices hk:∃ h',_=some (V.bool true,h') from by obtain ⟨h',e⟩:=hk;exact ⟨h',LF e⟩
 by_cases hbig:(code.length:Int)>1048576
 ·rw[Ak hbig];exact ⟨h,rfl⟩
 rw[Aj hbig];obtain ⟨p,cs,f,h1,F1,e1,r1,sm1',l1⟩:=Rw (lo:=h.length) hs hF (zbf _) (by omega) hcap;have sm1:=sm1'.1;obtain ⟨raw2,cs2,h2,F2,e2,n2,r2,m2⟩:=PW (lo:=h.length) (k:=f) r1 l1 sm1;have r12:=m2.keep0 rplaceN_ok r1;have l2:=zba l1 m2.le;obtain ⟨raw3,cs3,h3,F3,e3,n3,r3,m3⟩:=Pu (lo:=h.length) (k:=f) r12 l2 sm1;have r13:=m3.keep0 rplaceN_ok r12;have l3:=zba l2 m3.le;have r23:=m3.keep0 rplaceN_ok r2;have hX:∃ X,En p (A7 p f)=X:=⟨_,rfl⟩;obtain ⟨X,hX⟩:=hX;have hokx:An p=true→An (A7 p f)=true:=fun hpo=>Wj hpo (by have:=sm1'.2;omega);have hsm:BT X:=by
  rw[← hX];unfold En;cases hpo:An p with
  | false=>exact OT
  | true=>exact (Ed (B3 (hokx hpo)) (by decide) (by decide) (by decide)).1
 rw[hX] at n2 n3 r3 r23;obtain ⟨s1,s2,s3,x1,y1,x2,y2,x3,y3,rfl,k1,k2,k3,rfl⟩:=n2;obtain ⟨t1,t2,t3,z1,w1,z2,w2,z3,w3,rfl,j1,j2,j3,rfl⟩:=n3;obtain ⟨b1,d1,b2,d2,b3,d3,rfl,q1⟩:=r13;obtain ⟨_,_,_,_,_,_,_,q2⟩:=r23;obtain ⟨_,_,_,_,_,_,_,q3⟩:=r3;obtain ⟨K1,K2,K3,_,f1,f2,f3⟩:=q2.cells;obtain ⟨G1,G2,G3,_,g1,g2,g3⟩:=q1.cells;simp only[Place.cs] at e1 e2 e3;have cf:=KG (lo:=h.length) q2 q3 hsm;have ok1:=DU (lo:=h.length) g1 g2 g3 sm1;simp only[Place.cs] at cf ok1;rw[e1,Ac,C4,Aa,Ap,Aa,Ab,Aa,Ab,Aa,Ah,Aa,Ah,Aa,Ah,Aa,At,Af,Aa,Ab,Af,e2,Ac,C4,Aa,Ap,Aa,Ab,Aa,Ab,Aa,k1,Aa,k2,Aa,k3,Aa,At,Af,Aa,As];cases hpo:An p with
 | false =>rw[hpo] at e3 ok1;rw[zcn] at e3 ⊢;rw[Au,Af,e3,Ac,C4,Aa,Ap,Aa,Ab,Aa,Ab,Aa,j1,Aa,j2,Aa,j3,Aa,At,Af,Aa,As,Au,Af,cf,Ac,As,Al,ok1,Ac,As,Au,cf,Ac,As,Al];exact ⟨_,rfl⟩
 | true =>
 rw[hpo] at e3 ok1;rw[zbA] at e3 ⊢;have hX':X=A7 p f:=by rw[← hX];unfold En;rw[hpo];rfl
 cases hcj:Ba p f with
 | false =>
  have hX2:X=p:=by rw[hX'];unfold A7;rw[hcj];rfl
  clear hX';subst hX2;rw[hcj] at e3;have cf2:=KG (lo:=h.length) q2 q1 sm1;simp only[Place.cs] at cf2;rw[Au,Af,e3,Ac,C4,Aa,Ap,Aa,Ab,Aa,Ab,Aa,j1,Aa,j2,Aa,j3,Aa,At,Af,Aa,As,Au,Af,cf,Ac,As,Al,ok1,Ac,As,Al,cf2,Ac,As,Al];exact ⟨_,rfl⟩
 | true =>
 rw[hcj] at e3;have hch:=FM hpo;have hxo:An X=true:=by rw[hX'];exact hokx hpo
 have hchx:Ch X.chain:=FM hxo;obtain ⟨v,u,z,x,hz,hx0,hu,hst,hless,hvp,hvt,hcl,hvo,hun⟩:=W3 hpo hcj;rw[← hX'] at hx0 hvt hcl;obtain ⟨hp0,hz⟩:=EY hz;obtain ⟨hxp0,hx0⟩:=EY hx0;have hkey:=(AB hvo).1;obtain ⟨j,hj⟩:∃ j:Nat,v.key.toNat=j:=⟨_,rfl⟩;rw[hj] at hu hst;have hj4:j<4:=by omega
 have hz4:z.store.length=4:=by rw[← hz];exact (hch.store (Dc hp0)).2
 have hx4:x.store.length=4:=by rw[hst,zbz];exact hz4
 have round:∀ (hh:Heap) (came:Int) (i:Nat),Mv h3 [] hh []→i<4→i≠j →
   AR h.length false f came (i:Nat) p.me p.clock b1 p.chain.length d1 b2 p.log.length d2 b3 p.got.length d3 p.fell X.me X.clock x1 X.chain.length y1 x2 X.log.length y2 x3 X.got.length y3 X.fell hh =
   AR h.length false f came ((i+1:Nat):Int) p.me p.clock b1 p.chain.length d1 b2 p.log.length d2 b3 p.got.length d3 p.fell X.me X.clock x1 X.chain.length y1 x2 X.log.length y2 x3 X.got.length y3 X.fell hh:=by
  intro hh came i m hi hij;obtain ⟨o,v1,v2,c1,e1',c2,e2',H1,H2,ha,_,ho1,_,es1,_,p1,_⟩:=(m.keep0 rnodes_ok f1).get hxp0;obtain ⟨o',v1',v2',c1',e1'',c2',e2'',H1',H2',ha',_,ho1',_,es1',_,p1',_⟩:=(m.keep0 rnodes_ok g1).get hp0;rw[hx0] at es1 p1;rw[hz] at es1' p1';obtain ⟨o2,s,b3',d3',G,ha2,ho2,es2,hp2,_⟩:=p1.get (show i<x.store.length by omega);obtain ⟨o3,_,_,_,_,ha3,_,_,_,_,_,_,ho12,_⟩:=p1'.all (show i<z.store.length by omega);have heq:x.store[i]'(by omega)=z.store[i]'(by omega):=by
   have:x.store[i]?=z.store[i]?:=by rw[hst,zbh (Ne.symm hij)]
   rw[Dc (by omega),Dc (by omega)] at this;injection this
  rw[heq] at ho2 es2;rw[AR.e,Ak (by omega),BI ⟨by omega,by omega⟩,ha,Ag,ho1,Ag,Aa,Af,es1,Ae (by omega),ha2,Ag,Be,ho2,Ag,Aa,Ab,Aa,Ab,Aa,Ab,Aa,es2,Aa,Bh,Aa,At,Af,BI ⟨by omega,by omega⟩,ha',Ag,ho1',Ag,Aa,Af,es1',Ae (by omega),ha3,Ag,ho12,Ag,Aa,Ab,Aa,Ab,Af,FE,FE,Bool.and_self,Bool.and_self,Al,Ar (by omega),← ha,← ha']
 obtain ⟨a4,c4,h4,F4,e4,r4,m4⟩:=GK (lo:=h3.length) g1 (zbf _) sm1.1 hch;obtain ⟨h5,e5,m5⟩:=UN (lo:=h.length) (m4.keep0 rnodes_ok f1) (zba l3 m4.le) hsm.1 hchx (AK hxo).2.2.2.2.1;have ok2:=DU (lo:=h.length) (m4.keep0 rnodes_ok f1) (m4.keep0 rvers_ok f2) (m4.keep0 rvss_ok f3) hsm;rw[hxo] at ok2;simp only[Place.cs] at ok2;have start:=Uv (n:=j) (s:=0) (fun i=>AR h.length false f 0 (i:Nat) p.me p.clock b1 p.chain.length d1 b2 p.log.length d2 b3 p.got.length d3 p.fell X.me X.clock x1 X.chain.length y1 x2 X.log.length y2 x3 X.got.length y3 X.fell h3) (zbE _) (fun i _ hi=>round h3 0 i Mv.nil (by omega) (by omega));have rest:=Uv (n:=4) (s:=j+1) (fun i=>AR h.length false f 1 (i:Nat) p.me p.clock b1 p.chain.length d1 b2 p.log.length d2 b3 p.got.length d3 p.fell X.me X.clock x1 X.chain.length y1 x2 X.log.length y2 x3 X.got.length y3 X.fell h4) (by omega) (fun i hs hi=>round h4 1 i m4.drop (by omega) (by omega));rw[Al,Af,e3,Ac,C4,Aa,Ap,Aa,Ab,Aa,Ab,Aa,j1,Aa,j2,Aa,j3,Aa,At,Af,Aa,As,Al,Af,cf,Ac,As,Al,ok1,Ac,As,Al];refine ⟨h5,start.trans ?_⟩;obtain ⟨o,v1,v2,c1,e1',c2,e2',H1,H2,ha,_,ho1,_,es1,_,p1,_⟩:=f1.get hxp0;obtain ⟨o',v1',v2',c1',e1'',c2',e2'',H1',H2',ha',_,ho1',_,es1',_,p1',_⟩:=g1.get hp0;rw[hx0] at es1 p1;rw[hz] at es1' p1';have hjx:j<x.store.length:=by omega
 have hjz:j<z.store.length:=by omega
 obtain ⟨o2,s,b3',d3',G,ha2,ho2,es2,hp2,_⟩:=p1.get hjx;obtain ⟨o3,_,_,_,_,ha3,_,_,_,_,_,_,ho12,_⟩:=p1'.all hjz;have hxj:x.store[j]=v:=by
  have:x.store[j]?=some v:=by rw[hst,zbr hjz]
  rw[Dc hjx] at this;injection this
 have hzj:z.store[j]=u:=by rw[Dc hjz] at hu;injection hu
 rw[hxj] at ho2 es2 hp2;rw[hzj] at ho12;have hdiff:((v.tag.time==u.tag.time)&&((v.tag.place==u.tag.place)&&true))=false:=by
  rw[HO] at hless;cases hq:((v.tag.time==u.tag.time)&&((v.tag.place==u.tag.place)&&true)) with
  | false=>rfl
  | true =>simp only[Dr,beq_iff_eq] at hq;omega
 rw[AR.e,Ak (by omega),BI ⟨by omega,by omega⟩,ha,Ag,ho1,Ag,Aa,Af,es1,Ae hjx,ha2,Ag,Be,ho2,Ag,Aa,Ab,Aa,Ab,Aa,Ab,Aa,es2,Aa,Bh,Aa,At,Af,BI ⟨by omega,by omega⟩,ha',Ag,ho1',Ag,Aa,Af,es1',Ae hjz,ha3,Ag,ho12,Ag,Aa,Ab,Aa,Ab,Af,hdiff,Au,hvp,FE,Al,Aj (by omega),← ha',e4,Ac,Ap,Aa,Ah,Af,Hr (m4.keep0 rtags_ok hp2) r4 (AB hvo).2.2.2.1 (Ir hch),Ac,As,hun,Al,show IntKind.i64.wrap ((0:Int)+1)=1 from rfl,Ar (by omega),← ha];refine rest.trans ?_;rw[AR.e,Aj (by omega),ok2,Ac,As,Al,e5,Ac,As,Al,FE,Al,Ak (by omega)]
theorem main_FnPlaceTake {h:Heap}{x:V} (hx:ArgV Tryz.prog h 12 22 x):∃ h',Ad h.length 5 [x] h=some (.bool true,h'):=by obtain ⟨a,c,l,F,rfl,h1,h2,h3⟩:=Ql (n:=10) hx;exact Oq h1 h2 h3


section
variable {lo:Nat}{h:Heap}{F F':List Nat}{a:Pq}{c:Nq}{b n:Nat}
theorem Kr {a0:Pq}{c0:Nq}{code:List UInt8} (hs:RBytes h [.sl 1 a0 code.length c0] code F) (hF:∀ y∈F,y<lo) (hl:lo≤h.length) (hn:code.length≤1048576) (hcap:∀ k,c0=some k→code.length≤k) :
  ∃ (p:Place) (cs:List V) (k:Int) (s:ByteArray) (g:Bool) (l:List Tag) (a:Pq) (c:Nq) (h':Heap) (F' G:List Nat),Ad lo 37 [.sl 1 a0 code.length c0] h=some (.tup [.agg cs,Iv k,.str s,.bool g,.agg [.sl 2 a l.length c]],h')∧A5 false h' cs p F'∧X8 p∧RTags false h' [.sl 2 a l.length c] l G∧l.length≤4∧s.size≤10∧lo≤h'.length:=by
 obtain ⟨b,h1,e1,r1,m1⟩:=RO hs hF hl hn hcap;obtain ⟨p,cs,h2,F2,e2,t2,sm2,hb,r2,l2⟩:=PD r1 (by omega) (zba hl m1.le);obtain ⟨x1,y1,x2,y2,x3,y3,rfl,q2⟩:=t2;obtain ⟨lp,ap,cp,h3,F3,e3,t3,hl3,r3,m3⟩:=RN r2 (by omega) l2;have hb3:b∉F3:=(zbj.1 m3.nd).1;have q3:=m3.keep rplace_ok q2 fun y hy hm=>hb (by rw[zbi] at hm;exact hm ▸ hy);obtain ⟨v,h4,e4,_,_,r4,m4⟩:=pick r3 (by omega) 3;have q4:=m4.keep rplace_ok q3 fun y hy hm=>hb (by rw[zbi] at hm;exact hm ▸ hy);have t4:=m4.keep rtags_ok t3 fun y hy hm=>hb3 (by rw[zbi] at hm;exact hm ▸ hy);have l4:=zba l2 (zba m3.le m4.le);have tail:∀ (hh:Heap) (n:Nat) (l:List Tag) (a:Pq) (c:Nq) (G:List Nat),n≤500000→Rd lo hh b n→RPlace false hh (p.cs x1 y1 x2 y2 x3 y3) p F2→RTags false hh [.sl 2 a l.length c] l G→b∉G→l.length≤4→lo≤hh.length →
   ∃ (p':Place) (cs:List V) (k:Int) (s:ByteArray) (g:Bool) (l':List Tag) (a':Pq) (c':Nq) (h':Heap) (F' G:List Nat),(Ai (Ad lo 108 [.ptr (some (b,(0,0))),.sl 1 (some (hh.length,0)) 4 (some 4)] (hh ++ [.rows 1 9 false [[.str ⟨⟨[97]⟩⟩],[.str ⟨⟨[98]⟩⟩],[.str ⟨⟨[]⟩⟩],[.str ⟨⟨[97,32,98]⟩⟩]]])) fun q g=>eT q fun q=>Ai (Ad lo 67 [.ptr (some (b,(0,0))),.sl 1 (some (g.length,0)) 5 (some 5)] (g ++ [.rows 1 3 false [[Iv 0],[Iv 1],[Iv 2],[Iv 3],[Iv 4]]])) fun g k=>eI .i64 g fun g=>br (q.toList==(ByteArray.mk #[]).toList) (Ai (Ad lo 66 [.ptr (some (b,(0,0))),Iv 2] k) fun v m=>eI .i64 v fun v=>br (v==0) (some (V.tup [.agg (p.cs x1 y1 x2 y2 x3 y3),Iv g,.str q,.bool true,.agg [.sl 2 a l.length c]],m)) (some (V.tup [.agg (p.cs x1 y1 x2 y2 x3 y3),Iv g,.str q,.bool false,.agg [.sl 2 a l.length c]],m))) (some (V.tup [.agg (p.cs x1 y1 x2 y2 x3 y3),Iv g,.str q,.bool false,.agg [.sl 2 a l.length c]],k)))=some (V.tup [.agg cs,Iv k,.str s,.bool g,.agg [.sl 2 a' l'.length c']],h')∧A5 false h' cs p' F'∧X8 p'∧RTags false h' [.sl 2 a' l'.length c'] l' G∧l'.length≤4∧s.size≤10∧lo≤h'.length:=by
  intro hh n l a c G hn r q t hbG hll hlo;obtain ⟨s,h5,e5,hs5,r5,m5⟩:=MX (e:=9) [⟨⟨[97]⟩⟩,⟨⟨[98]⟩⟩,⟨⟨[]⟩⟩,⟨⟨[97,32,98]⟩⟩] (rows := [[.str ⟨⟨[97]⟩⟩],[.str ⟨⟨[98]⟩⟩],[.str ⟨⟨[]⟩⟩],[.str ⟨⟨[97,32,98]⟩⟩]]) (len:=4) (cc:=some 4) r (by omega) rfl rfl (by decide);obtain ⟨k,h6,e6,_,r6,m6⟩:=DL (e:=3) [0,1,2,3,4] (rows := [[Iv 0],[Iv 1],[Iv 2],[Iv 3],[Iv 4]]) (len:=5) (cc:=some 5) r5 (by omega) rfl rfl (by decide);obtain ⟨w,h7,e7,_,_,r7,m7⟩:=pick r6 (by omega) 2;have m56:=m5.trans m6;have m57:=m56.trans m7;have hs10:s.size≤10:=by simp only[zbn,List.not_mem_nil,or_false] at hs5;rcases hs5 with rfl | rfl | rfl | rfl<;>decide
  have kq:∀ {h':Heap},Mv hh [b] h' [b]→A5 false h' (p.cs x1 y1 x2 y2 x3 y3) p F2:=fun m=>⟨_,_,_,_,_,_,rfl,m.keep rplace_ok q fun y hy hm=>hb (by rw[zbi] at hm;exact hm ▸ hy)⟩
  have kt:∀ {h':Heap},Mv hh [b] h' [b]→RTags false h' [.sl 2 a l.length c] l G:=fun m=>m.keep rtags_ok t fun y hy hm=>hbG (by rw[zbi] at hm;exact hm ▸ hy);rw[e5,Ac,Bh,e6,Ac,Ab];cases s.toList==(ByteArray.mk #[]).toList with
  | true =>
   rw[Al,e7,Ac,Ab];cases w==(0:Int) with
   | true=>rw[Al];exact ⟨p,_,k,s,true,l,a,c,h7,F2,G,rfl,kq m57,sm2,kt m57,hll,hs10,zba hlo m57.le⟩
   | false=>rw[Au];exact ⟨p,_,k,s,false,l,a,c,h7,F2,G,rfl,kq m57,sm2,kt m57,hll,hs10,zba hlo m57.le⟩
  | false=>rw[Au];exact ⟨p,_,k,s,false,l,a,c,h6,F2,G,rfl,kq m56,sm2,kt m56,hll,hs10,zba hlo m56.le⟩
 suffices hk:∃ (p':Place) (cs:List V) (k:Int) (s:ByteArray) (g:Bool) (l':List Tag) (a':Pq) (c':Nq) (h':Heap) (F' G:List Nat),_=some (V.tup [.agg cs,Iv k,.str s,.bool g,.agg [.sl 2 a' l'.length c']],h')∧A5 false h' cs p' F'∧X8 p'∧RTags false h' [.sl 2 a' l'.length c'] l' G∧l'.length≤4∧s.size≤10∧lo≤h'.length from by obtain ⟨p',cs,k,s,g,l',a',c',h',F',G,e,hr⟩:=hk;exact ⟨p',cs,k,s,g,l',a',c',h',F',G,JT e,hr⟩
 simp only[Place.cs] at e2;rw[e1,Ac,zaT,e2,Ac,Ap,Aa,Ab,Aa,Ab,Aa,Ah,Aa,Ah,Aa,Ah,Aa,At,Af,e3,Ac,Ap,Aa,Ah,Af,e4,Ac,Ab];by_cases hv:v>0
 ·obtain ⟨h5,q,e5,t5,m5⟩:=Is (lo:=lo) (h:=h4);have hbq:b≠q:=fun hm=>by have:=m5.new q (by simp);have:=r4.lt;omega
  have r5:=r4.keep m5 (by simp) (by simp);have q5:=m5.keep0 rplace_ok q4;obtain ⟨G1,G2,G3,_,g1,g2,g3⟩:=q5.cells;have l5:=zba l4 m5.le;rw[Ak hv,e5,Ac,Ap,Aa,Ah,Af,RE g1 sm2.1.1,Ac,As];cases hco:Cj p.chain with
  | true =>have hch:=chain_iff.1 hco;have hpos:=hch.pos;obtain ⟨tv,h6,F6,e6,t6,m6⟩:=Ha (lo:=lo) g1 l5 sm2.1.1 (by omega);obtain ⟨a6,c6,es6,t6⟩:=t6.form;rw[Al,e6,Ac,Ap,Aa,es6,Af];exact tail h6 _ (AN p.chain) a6 c6 F6 (by omega) (r5.keep m6 (by simp) (by simp)) (m6.keep0 rplace_ok q5) t6 (fun hm=>by have:=m6.new b hm;have:=r5.lt;omega) (by have:=hch.four.1;omega) (zba l5 m6.le)
  | false =>rw[Au];exact tail h5 _ L9 (some (q,0)) (some 4) [q] (by omega) r5 q5 t5 (by simpa using hbq) (by decide) l5
 ·rw[Aj hv];exact tail h4 _ lp ap cp F3 (by omega) r4 q4 t4 hb3 hl3 l4
end


theorem O8 {p:Place}{k:Int}{s:ByteArray}{g:Bool}{l:List Tag} (hpo:An p=true) (hc:Az p k s g l=true) :
  ∃ (z x:Node),p.chain[0]?=some z∧(AY p k s g l).1.chain[0]?=some x∧x.store[k.toNat]?=some (Bp p k s g l)∧(AY p k s g l).2=⟨Aw p l,p.me⟩∧0<Aw p l∧(∀ v∈z.store,v.tag.time<Aw p l)∧∀ t∈l,t.time<Aw p l:=by
 have hch:=FM hpo;have hpos:=hch.pos;obtain ⟨q1,q2,q3,q4,q5,q6,q7,q8⟩:=D8 hc;have hz:=Dc (l:=p.chain) (i:=0) (by omega);have hhd:=(EX hz).1 (AK hpo).2.2.2.2.2.2.2;have hcl:=(AK hpo).2.1;have hlt:Ds l<Aw p l∧p.clock<Aw p l:=newer_lt_iff.1 (by unfold Aw;omega);have hvo:=Kz hpo hc;obtain ⟨u,hu⟩:=hch.key hz hvo;have hut:=hhd u (zbw hu);have hless:AZ u (Bp p k s g l)=true:=by rw[HO];have:(Bp p k s g l).tag.time=Aw p l:=rfl;omega
 have hk:(Bp p k s g l).key=k:=rfl;rw[hk] at hu;have hki:=(EY hu).1;have hadd:EH p.chain 0 (Bp p k s g l)=p.chain.set 0 ⟨(p.chain[0]'(by omega)).store.set k.toNat (Bp p k s g l),bif decide (0+1<p.chain.length) then (p.chain[0]'(by omega)).wait ++ [Bp p k s g l] else (p.chain[0]'(by omega)).wait⟩:=by rw[Hl hz (by rw[hk];exact hu),hless,cond_true,hk]
 have hw:AY p k s g l=(Bj (DM p 0 (Aw p l) (Bp p k s g l)),⟨Aw p l,p.me⟩):=by unfold AY;rw[hpo,hc];rfl
 rw[hw];refine ⟨_,⟨(p.chain[0]'(by omega)).store.set k.toNat (Bp p k s g l),bif decide (0+1<p.chain.length) then (p.chain[0]'(by omega)).wait ++ [Bp p k s g l] else (p.chain[0]'(by omega)).wait⟩,hz,?_,zbr hki,rfl,by omega,fun v hv=>by have:=hhd v hv;omega,(latest_lt.1 hlt.1).2⟩;show (EH p.chain 0 (Bp p k s g l))[0]?=_;rw[hadd,zbr (by omega)]
theorem Ng {h:Heap}{F:List Nat}{a0:Pq}{c0:Nq}{code:List UInt8} (hs:RBytes h [.sl 1 a0 code.length c0] code F) (hF:∀ y∈F,y<h.length) (hcap:∀ k,c0=some k→code.length≤k) :
  ∃ h',Ad h.length 7 [.sl 1 a0 code.length c0] h=some (.bool true,h'):=by
 suffices hk:∃ h',_=some (V.bool true,h') from by obtain ⟨h',e⟩:=hk;exact ⟨h',KP e⟩
 by_cases hbig:(code.length:Int)>1048576
 ·rw[Ak hbig];exact ⟨h,rfl⟩
 rw[Aj hbig];obtain ⟨p,cs,k,s,g,l,al,cl,h1,F1,G0,e1,r1,sm1',tl,hl4,hs10,l1⟩:=Kr (lo:=h.length) hs hF (zbf _) (by omega) hcap;have sm1:=sm1'.1;obtain ⟨raw2,cs2,h2,F2,e2,n2,r2,m2⟩:=Hp (lo:=h.length) (k:=k) (s:=s) (g:=g) r1 tl l1 sm1 ⟨by omega,by omega⟩;have r12:=m2.keep0 rplaceN_ok r1;have tl2:=m2.keep0 rtags_ok tl;have l2:=zba l1 m2.le;obtain ⟨raw3,cs3,h3,F3,e3,n3,r3,m3⟩:=JM (lo:=h.length) (k:=k) (s:=s) (g:=g) r12 tl2 l2 sm1 ⟨by omega,by omega⟩;have r13:=m3.keep0 rplaceN_ok r12;have tl3:=m3.keep0 rtags_ok tl2;have l3:=zba l2 m3.le;have r23:=m3.keep0 rplaceN_ok r2;obtain ⟨X,hX⟩:∃ X,(AY p k s g l).1=X:=⟨_,rfl⟩;obtain ⟨T,hT⟩:∃ T,(AY p k s g l).2=T:=⟨_,rfl⟩;have hsm:BT X:=by
  rw[← hX];cases hpo:An p with
  | false=>unfold AY;rw[hpo];exact OT
  | true=>exact (Ed (B3 (IZ hpo)) (by decide) (by decide) (by decide)).1
 rw[hX] at n2 n3 r3 r23;rw[hT] at e2 e3;obtain ⟨s1,s2,s3,x1,y1,x2,y2,x3,y3,rfl,k1,k2,k3,rfl⟩:=n2;obtain ⟨t1,t2,t3,z1,w1,z2,w2,z3,w3,rfl,j1,j2,j3,rfl⟩:=n3;obtain ⟨b1,d1,b2,d2,b3,d3,rfl,q1⟩:=r13;obtain ⟨_,_,_,_,_,_,_,q2⟩:=r23;obtain ⟨_,_,_,_,_,_,_,q3⟩:=r3;obtain ⟨K1,K2,K3,_,f1,f2,f3⟩:=q2.cells;obtain ⟨G1,G2,G3,_,g1,g2,g3⟩:=q1.cells;simp only[Place.cs] at e1 e2 e3;have cf:=KG (lo:=h.length) q2 q3 hsm;have ok1:=DU (lo:=h.length) g1 g2 g3 sm1;have ok1':=DU (lo:=h3.length) g1 g2 g3 sm1;have okS:Ad h.length 40 [.agg (p.cs b1 d1 b2 d2 b3 d3)] h3=some (.bool (An p),h3):=Qw (by
  rw[M0 g1 g2 g3 sm1,Ac,As];cases An p
  ·rw[Au]
  ·rw[Al])
 simp only[Place.cs] at cf ok1 ok1' okS;have hTT:((T.time==T.time)&&((T.place==T.place)&&true))=true:=by rw[FE,FE];rfl
 rw[e1,Ac,C4,Aa,Ap,Aa,Ab,Aa,Ab,Aa,Ah,Aa,Ah,Aa,Ah,Aa,At,Af,Aa,Ab,Aa,Bh,Aa,As];cases hpo:An p with
 | false =>
  rw[hpo] at ok1 ok1' okS;cases g
  ·rw[Au,Aa,Ap,Aa,Ah,Af,Af,e2,Ac,C4,Aa,Ap,Aa,Ab,Aa,Ab,Aa,k1,Aa,k2,Aa,k3,Aa,At,Af,Aa,Ap,Aa,Ab,Aa,Ab,Af,Af,e3,Ac,C4,Aa,Ap,Aa,Ab,Aa,Ab,Aa,j1,Aa,j2,Aa,j3,Aa,At,Af,Aa,Ap,Aa,Ab,Aa,Ab,Af,Af,hTT,Al,cf,Ac,As,Al,ok1',Ac,As,Au,okS,Ac,As,Au,ok1,Ac,As,Au,Al,cf,Ac,As,Al,ok1',Ac,As,Au,okS,Ac,As,Au];exact ⟨_,rfl⟩
  ·rw[Al,Aa,Ap,Aa,Ah,Af,Af,e2,Ac,C4,Aa,Ap,Aa,Ab,Aa,Ab,Aa,k1,Aa,k2,Aa,k3,Aa,At,Af,Aa,Ap,Aa,Ab,Aa,Ab,Af,Af,e3,Ac,C4,Aa,Ap,Aa,Ab,Aa,Ab,Aa,j1,Aa,j2,Aa,j3,Aa,At,Af,Aa,Ap,Aa,Ab,Aa,Ab,Af,Af,hTT,Al,cf,Ac,As,Al,ok1',Ac,As,Au,okS,Ac,As,Au,ok1,Ac,As,Au,Al,cf,Ac,As,Al,ok1',Ac,As,Au,okS,Ac,As,Au];exact ⟨_,rfl⟩
 | true =>
 rw[hpo] at ok1 ok1' okS;cases hcw:Az p k s g l with
 | false =>
  have hw:AY p k s g l=(p,⟨0,0⟩):=by unfold AY;rw[hpo,hcw];rfl
  have hX2:X=p:=by rw[← hX,hw]
  have hT2:T.time=0:=by rw[← hT,hw]
  subst hX2;have cf2:=KG (lo:=h.length) q2 q1 sm1;simp only[Place.cs] at cf2;have h0:(T.time==0)=true:=by rw[hT2];rfl
  cases g
  ·rw[Au,Aa,Ap,Aa,Ah,Af,Af,e2,Ac,C4,Aa,Ap,Aa,Ab,Aa,Ab,Aa,k1,Aa,k2,Aa,k3,Aa,At,Af,Aa,Ap,Aa,Ab,Aa,Ab,Af,Af,e3,Ac,C4,Aa,Ap,Aa,Ab,Aa,Ab,Aa,j1,Aa,j2,Aa,j3,Aa,At,Af,Aa,Ap,Aa,Ab,Aa,Ab,Af,Af,hTT,Al,cf,Ac,As,Al,ok1',Ac,As,Al,okS,Ac,As,Al,ok1,Ac,As,Al,h0,Al,cf2,Ac,As,Al];exact ⟨_,rfl⟩
  ·rw[Al,Aa,Ap,Aa,Ah,Af,Af,e2,Ac,C4,Aa,Ap,Aa,Ab,Aa,Ab,Aa,k1,Aa,k2,Aa,k3,Aa,At,Af,Aa,Ap,Aa,Ab,Aa,Ab,Af,Af,e3,Ac,C4,Aa,Ap,Aa,Ab,Aa,Ab,Aa,j1,Aa,j2,Aa,j3,Aa,At,Af,Aa,Ap,Aa,Ab,Aa,Ab,Af,Af,hTT,Al,cf,Ac,As,Al,ok1',Ac,As,Al,okS,Ac,As,Al,ok1,Ac,As,Al,h0,Al,cf2,Ac,As,Al];exact ⟨_,rfl⟩
 | true =>
 have hch:=FM hpo;have hxo:An X=true:=by rw[← hX];exact IZ hpo
 have hchx:Ch X.chain:=FM hxo;obtain ⟨z,x,hz,hx0,hxk,hTt,hpos,hzt,hlt⟩:=O8 hpo hcw;rw[hX] at hx0;rw[hT] at hTt;obtain ⟨u1,u2,u3,u4,u5,u6,u7,u8⟩:=D8 hcw;obtain ⟨kk,rfl⟩:∃ kk:Nat,k=(kk:Int):=⟨k.toNat,by omega⟩;rw[Be] at hxk;obtain ⟨hp0,hz⟩:=EY hz;obtain ⟨hxp0,hx0⟩:=EY hx0;have hz4:z.store.length=4:=by rw[← hz];exact (hch.store (Dc hp0)).2
 obtain ⟨hkx,hxk⟩:=EY hxk;have hl4':=DO u4;have ht1:T.time=Aw p l:=by rw[hTt]
 have ht2:T.place=p.me:=by rw[hTt]
 have ok2:=DU (lo:=h.length) f1 f2 f3 hsm;rw[hxo] at ok2;simp only[Place.cs] at ok2;obtain ⟨h5,e5,m5⟩:=UN (lo:=h.length) f1 l3 hsm.1 hchx (AK hxo).2.2.2.2.1;obtain ⟨a6,c6,h6,F6,e6,r6,m6⟩:=GK (lo:=h5.length) (m5.keep0 rnodes_ok g1) (zbf _) sm1.1 hch;have loop:=ID (n:=4) (fun i=>AS h.length false (kk:Nat) s g (i:Nat) p.me p.clock b1 p.chain.length d1 b2 p.log.length d2 b3 p.got.length d3 p.fell al l.length cl X.me X.clock x1 X.chain.length y1 x2 X.log.length y2 x3 X.got.length y3 X.fell T.time T.place h3) fun i hi=>by
  obtain ⟨o,ha,ho⟩:=tl3.get (show i<l.length by omega);obtain ⟨o',v1',v2',c1',e1'',c2',e2'',H1',H2',ha',_,ho1',_,es1',_,p1',_⟩:=g1.get hp0;rw[hz] at es1' p1';obtain ⟨o3,_,_,_,_,ha3,_,_,_,_,_,_,ho12,_⟩:=p1'.all (show i<z.store.length by omega);have q1:Gp (l[i]'(by omega)).time (l[i]'(by omega)).place T.time T.place=true:=by have:=hlt _ (zbb (show i<l.length by omega));unfold Gp;simp;left;omega
  have q2:Gp (z.store[i]'(by omega)).tag.time (z.store[i]'(by omega)).tag.place T.time T.place=true:=by have:=hzt _ (zbb (show i<z.store.length by omega));unfold Gp;simp;left;omega
  rw[AS.e,Ak (by omega),Ae (by omega),ha,Ag,Be,ho,Ag,Aa,Ab,Aa,Ab,Af,HK,Ac,As,q1,Al,BI ⟨by omega,by omega⟩,ha',Ag,ho1',Ag,Aa,Af,es1',Ae (by omega),ha3,Ag,ho12,Ag,Aa,Ab,Aa,Ab,Af,HK,Ac,As,q2,Al,Ar (by omega),← ha,← ha']
 obtain ⟨o,v1,v2,c1,e1',c2,e2',H1,H2,ha,_,ho1,_,es1,_,p1,_⟩:=f1.get hxp0;rw[hx0] at es1 p1;obtain ⟨o2,sv,b3',d3',G,ha2,ho2,es2,hp2,_⟩:=p1.get hkx;rw[hxk] at ho2 es2 hp2;have fin:AS h.length false (kk:Nat) s g ((4:Nat):Int) p.me p.clock b1 p.chain.length d1 b2 p.log.length d2 b3 p.got.length d3 p.fell al l.length cl X.me X.clock x1 X.chain.length y1 x2 X.log.length y2 x3 X.got.length y3 X.fell T.time T.place h3=some (V.bool true,h6):=by
  have es2':∀ {R':Type} (K:Pq→Nat→Nq→Option R'),eS 2 sv K=K b3' l.length d3':=es2;have ho2':ld h3 o2.1 (o2.2+kk) 0 6=some [Iv (kk:Nat),Iv T.time,Iv T.place,sv,.str s,.bool g]:=by rw[ht1,ht2];exact ho2
  have hp2':RTags false h3 [.sl 2 b3' l.length d3'] l G:=hp2;rw[AS.e,Aj (by omega),BI ⟨by omega,by omega⟩,ha,Ag,ho1,Ag,Aa,Af,es1,Ae hkx,ha2,Ag,Be,ho2',Ag,Aa,Ab,Aa,Ab,Aa,Ab,Aa,es2',Aa,Bh,Aa,At,Af,← ha,ok2,Ac,As,Al,e5,Ac,As,Al,hTT,Al,ht2,FE,Al,zaW,Al,zaz,Al,Y3 (m5.keep0 rtags_ok hp2') (m5.keep0 rtags_ok tl3) (by omega),Ac,As,Al,e6,Ac,Ap,Aa,Ah,Af,Hr ((m5.trans m6.drop).keep0 rtags_ok tl3) r6 u4 (Ir hch),Ac,As,u5,Al]
 have h0:(T.time==0)=false:=by rw[beq_eq_false_iff_ne];omega
 refine ⟨h6,?_⟩;cases g
 ·rw[Au,Aa,Ap,Aa,Ah,Af,Af,e2,Ac,C4,Aa,Ap,Aa,Ab,Aa,Ab,Aa,k1,Aa,k2,Aa,k3,Aa,At,Af,Aa,Ap,Aa,Ab,Aa,Ab,Af,Af,e3,Ac,C4,Aa,Ap,Aa,Ab,Aa,Ab,Aa,j1,Aa,j2,Aa,j3,Aa,At,Af,Aa,Ap,Aa,Ab,Aa,Ab,Af,Af,hTT,Al,cf,Ac,As,Al,ok1',Ac,As,Al,okS,Ac,As,Al,ok1,Ac,As,Al,h0,Au];exact loop.trans fin
 ·rw[Al,Aa,Ap,Aa,Ah,Af,Af,e2,Ac,C4,Aa,Ap,Aa,Ab,Aa,Ab,Aa,k1,Aa,k2,Aa,k3,Aa,At,Af,Aa,Ap,Aa,Ab,Aa,Ab,Af,Af,e3,Ac,C4,Aa,Ap,Aa,Ab,Aa,Ab,Aa,j1,Aa,j2,Aa,j3,Aa,At,Af,Aa,Ap,Aa,Ab,Aa,Ab,Af,Af,hTT,Al,cf,Ac,As,Al,ok1',Ac,As,Al,okS,Ac,As,Al,ok1,Ac,As,Al,h0,Au];exact loop.trans fin
theorem main_FnPlaceWrite {h:Heap}{x:V} (hx:ArgV Tryz.prog h 12 22 x):∃ h',Ad h.length 7 [x] h=some (.bool true,h'):=by obtain ⟨a,c,l,F,rfl,h1,h2,h3⟩:=Ql (n:=10) hx;exact Ng h1 h2 h3
end Go.Proofs.YtoihoaaiadagaaaGreat
