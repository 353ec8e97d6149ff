/- Part 4 of what is shown for the law Gp, whatever the input; no condition of its own. -/
import Derived.Test.YtmgopagfoemomaaGreatBGp3
set_option linter.unusedVariables false
set_option linter.unusedSimpArgs false
set_option linter.unnecessarySimpa false
set_option maxRecDepth 100000
namespace Go.Proofs.YtmgopagfoemomaaGreat
open Go T


variable {l:List Place}
structure Sess where
 place:Int
 past:List Tag
 wait:Tag
 key:Int
structure Done where
 sess:Int
 kind:Int
 key:Int
 tag:Tag
structure World where
 places:List Place
 sess:List Sess
 net:List Frame
 hist:List Done
abbrev Hw (ro:Bool):Nat:=bif ro then 197 else 29
abbrev Fu (ro:Bool):Nat:=bif ro then 204 else 66
abbrev Lt (ro:Bool):Nat:=bif ro then 209 else 123
abbrev zaT (ro:Bool):Nat:=bif ro then 218 else 126
abbrev Sess.cs (s:Sess) (a:Pq) (c:Nq):List V := [Iv s.place,.sl 2 a s.past.length c,Iv s.wait.time,Iv s.wait.place,Iv s.key]
abbrev Done.cs (d:Done):List V := [Iv d.sess,Iv d.kind,Iv d.key,Iv d.tag.time,Iv d.tag.place]
abbrev World.cs (w:World) (a1:Pq) (c1:Nq) (a2:Pq) (c2:Nq) (a3:Pq) (c3:Nq) (a4:Pq) (c4:Nq):List V :=
 [.sl 6 a1 w.places.length c1,.sl 5 a2 w.sess.length c2,.sl 9 a3 w.net.length c3,.sl 5 a4 w.hist.length c4]
abbrev RPlaces (ro:Bool):Rel (List Place):=Sli ro 6 (Hw ro) (RPlace ro)
def RSess (ro:Bool):Rel Sess:=λh cs s F=>∃ v,cs = [Iv s.place,v,Iv s.wait.time,Iv s.wait.place,Iv s.key]/\RTags ro h [v] s.past F
abbrev RSesss (ro:Bool):Rel (List Sess):=Sli ro 5 (Fu ro) (RSess ro)
abbrev RFrames (ro:Bool):Rel (List Frame):=Sli ro 9 (Lt ro) (R7 ro)
abbrev RDones (ro:Bool):Rel (List Done):=Sli ro 5 (zaT ro) (flat Done.cs)
def X7 (ro:Bool):Rel World:=λh cs w F=>∃ s1 s2 s3 s4 F1 F2 F3 F4,cs = [s1,s2,s3,s4]/\F=F1++(F2++(F3++F4))/\RPlaces ro h [s1] w.places F1/\RSesss ro h [s2] w.sess F2/\RFrames ro h [s3] w.net F3/\RDones ro h [s4] w.hist F4
def FP (ro:Bool):Rel World:=λh cs w F=>∃ a1 c1 a2 c2 a3 c3 a4 c4 F1 F2 F3 F4,cs=w.cs a1 c1 a2 c2 a3 c3 a4 c4/\F=F1++(F2++(F3++F4))/\RPlaces ro h [.sl 6 a1 w.places.length c1] w.places F1/\RSesss ro h [.sl 5 a2 w.sess.length c2] w.sess F2/\RFrames ro h [.sl 9 a3 w.net.length c3] w.net F3/\RDones ro h [.sl 5 a4 w.hist.length c4] w.hist F4
theorem rplaces_ok {ro:Bool}:(RPlaces ro).Ok:=Sli.ok rplace_ok
theorem IX {ro:Bool}:(RSess ro).Ok :=
 ⟨λh h' cs x F ⟨s,h1,h2⟩ hb=>⟨s,h1,rtags_ok.fr _ _ _ _ _ h2 hb⟩,λh cs x F ⟨s,_,h2⟩=>rtags_ok.bd _ _ _ _ h2⟩
theorem rsesss_ok {ro:Bool}:(RSesss ro).Ok:=Sli.ok IX
theorem rframes_ok {ro:Bool}:(RFrames ro).Ok:=Sli.ok rframe_ok
theorem rdones_ok {ro:Bool}:(RDones ro).Ok:=Sli.ok DF
theorem Xb {ro:Bool}:(FP ro).Ok:=by
 refine ⟨?_,?_⟩
 ·rintro h h' cs x F ⟨a1,c1,a2,c2,a3,c3,a4,c4,F1,F2,F3,F4,e,rfl,h1,h2,h3,h4⟩ hb
  exact ⟨a1,c1,a2,c2,a3,c3,a4,c4,F1,F2,F3,F4,e,rfl,rplaces_ok.fr _ _ _ _ _ h1 λb hm=>hb b (by simp[hm]),rsesss_ok.fr _ _ _ _ _ h2 λb hm=>hb b (by simp[hm]),rframes_ok.fr _ _ _ _ _ h3 λb hm=>hb b (by simp[hm]),rdones_ok.fr _ _ _ _ _ h4 λb hm=>hb b (by simp[hm])⟩
 ·rintro h cs x F ⟨a1,c1,a2,c2,a3,c3,a4,c4,F1,F2,F3,F4,e,rfl,h1,h2,h3,h4⟩ b hb
  simp only[zde] at hb;rcases hb with hb | hb | hb | hb
  ·exact rplaces_ok.bd _ _ _ _ h1 b hb
  ·exact rsesss_ok.bd _ _ _ _ h2 b hb
  ·exact rframes_ok.bd _ _ _ _ h3 b hb
  ·exact rdones_ok.bd _ _ _ _ h4 b hb
section
variable {ro:Bool}{h:Heap}{F:List Nat}{a:Pq}{c:Nq}{n k:Nat}
theorem RPlaces.get (hs:RPlaces ro h [.sl 6 a n c] l F) (hk:k<l.length):∃ o s1 s2 s3 a1 c1 a2 c2 a3 c3 F1 F2 F3,a=some o /\
  ld h o.1 (o.2+k) 0 6=some [Iv l[k].me,Iv l[k].clock,s1,s2,s3,.bool l[k].fell]/\ld h o.1 (o.2+k) 0 1=some [Iv l[k].me]/\ld h o.1 (o.2+k) 2 1=some [s1]/\ld h o.1 (o.2+k) 3 1=some [s2]/\ld h o.1 (o.2+k) 4 1=some [s3] /\
  (∀ {R':Type} (K:Pq->Nat->Nq->Option R'),eS 2 s1 K=K a1 l[k].chain.length c1)/\(∀ {R':Type} (K:Pq->Nat->Nq->Option R'),eS 6 s2 K=K a2 l[k].log.length c2) /\
  (∀ {R':Type} (K:Pq->Nat->Nq->Option R'),eS 1 s3 K=K a3 l[k].got.length c3) /\
  RNodes ro h [.sl 2 a1 l[k].chain.length c1] l[k].chain F1/\RVers ro h [.sl 6 a2 l[k].log.length c2] l[k].log F2/\RVss ro h [.sl 1 a3 l[k].got.length c3] l[k].got F3/\(∀ b,b∈F1\/b∈F2\/b∈F3->b∈F):=by
 obtain ⟨o,row,G,h1,h2,hv,hG,_⟩:=hs.read hk;obtain ⟨s1,s2,s3,a1,c1,a2,c2,a3,c3,F1,F2,F3,rfl,rfl,e1,e2,e3,g1,g2,g3⟩:=hv.form;exact ⟨o,s1,s2,s3,a1,c1,a2,c2,a3,c3,F1,F2,F3,h1,by rw[h2];rfl,by rw[h2];rfl,by rw[h2];rfl,by rw[h2];rfl,by rw[h2];rfl,e1,e2,e3,g1,g2,g3,λb hb=>hG b (by simpa using hb)⟩
theorem RSess.form {row:List V}{s:Sess} (hv:RSess ro h row s F):∃ v a c,row = [Iv s.place,v,Iv s.wait.time,Iv s.wait.place,Iv s.key] /\
  (∀ {R':Type} (K:Pq->Nat->Nq->Option R'),eS 2 v K=K a s.past.length c)/\RTags ro h [.sl 2 a s.past.length c] s.past F:=by
 obtain ⟨v,rfl,hp⟩:=hv;obtain ⟨a,c,es,hp2⟩:=hp.form;exact ⟨v,a,c,rfl,es,hp2⟩
theorem RSesss.get {l:List Sess} (hs:RSesss ro h [.sl 5 a n c] l F) (hk:k<l.length):∃ o v a' c' G,a=some o/\ld h o.1 (o.2+k) 0 5=some [Iv l[k].place,v,Iv l[k].wait.time,Iv l[k].wait.place,Iv l[k].key] /\
  ld h o.1 (o.2+k) 0 1=some [Iv l[k].place]/\ld h o.1 (o.2+k) 1 1=some [v] /\
  (∀ {R':Type} (K:Pq->Nat->Nq->Option R'),eS 2 v K=K a' l[k].past.length c')/\RTags ro h [.sl 2 a' l[k].past.length c'] l[k].past G/\(∀ b∈G,b∈F):=by
 obtain ⟨o,row,G,h1,h2,hv,hG,_⟩:=hs.read hk;obtain ⟨v,a',c',rfl,es,hp⟩:=hv.form;exact ⟨o,v,a',c',G,h1,by rw[h2];rfl,by rw[h2];rfl,by rw[h2];rfl,es,hp,hG⟩
theorem RFrames.get {l:List Frame} (hs:RFrames ro h [.sl 9 a n c] l F) (hk:k<l.length):∃ o s a' c' G,a=some o /\
  ld h o.1 (o.2+k) 0 9=some [Iv l[k].fro,Iv l[k].to,Iv l[k].at',Iv l[k].ver.key,Iv l[k].ver.tag.time,Iv l[k].ver.tag.place,s,.str l[k].ver.text,.bool l[k].ver.gone] /\
  (∀ {R':Type} (K:Pq->Nat->Nq->Option R'),eS 2 s K=K a' l[k].ver.past.length c')/\RTags ro h [.sl 2 a' l[k].ver.past.length c'] l[k].ver.past G/\(∀ b∈G,b∈F):=by
 obtain ⟨o,row,G,h1,h2,⟨vs,rfl,hv⟩,hG,_⟩:=hs.read hk;obtain ⟨s,a',c',rfl,es,hp⟩:=hv.form;exact ⟨o,s,a',c',G,h1,by rw[h2];rfl,es,hp,hG⟩
theorem RDones.get {l:List Done} (hs:RDones ro h [.sl 5 a n c] l F) (hk:k<l.length):∃ o,a=some o/\ld h o.1 (o.2+k) 0 5=some l[k].cs:=by obtain ⟨o,row,G,h1,h2,⟨rfl,_⟩,_⟩:=hs.read hk;exact ⟨o,h1,by rw[h2];rfl⟩
end
def Jo (w:World):Prop:=(w.places.length<=1048576/\∀ p∈w.places,FM p)/\(w.sess.length<=1048576/\∀ s∈w.sess,s.past.length<=1048576)/\(w.net.length<=1048576/\∀ f∈w.net,f.ver.past.length<=1048576/\f.ver.text.size<=1048576)/\w.hist.length<=1048576
section
variable {lo:Nat}{ro ro':Bool}{h:Heap}{F F':List Nat}{a a':Pq}{c c':Nq}{left:Int}
theorem zaL (h1:RPlaces ro h [.sl 6 a l.length c] l F) (h2:RPlaces ro' h [.sl 6 a' l.length c'] l F') (hn:l.length<=1048576/\∀ p∈l,FM p):Af lo 83 [.sl 6 a l.length c,.sl 6 a' l.length c'] h=some (.bool true,h):=by
 have hn1:=hn.1;refine Qe (h':=h) ?_;rw[EI,Aq];refine (HY (n:=l.length) (λi=>CR (List.length h) a l.length c a' l.length c' false (i:Nat) h) λi hi=>?_).trans ?_
 ·obtain ⟨o,s1,s2,s3,a1,c1,a2,c2,a3,c3,F1,F2,F3,rfl,ho,_,_,_,_,e1,e2,e3,r1,r2,r3,_⟩:=h1.get hi;obtain ⟨o',s1',s2',s3',a1',c1',a2',c2',a3',c3',F1',F2',F3',rfl,ho',_,_,_,_,e1',e2',e3',r1',r2',r3',_⟩:=h2.get hi;rw[CR.e,Am (by omega),Ac hi];simp only[Ae,A7,ho,ho',Aa,Ab,e1,e2,e3,e1',e2',e3',AK,Ag,Ac hi];have he:=zbN (lo:=List.length h) (p:=l[i]) (h:=h) (F:=F1++(F2++F3)) (F':=F1'++(F2'++F3')) (a1:=a1) (c1:=c1) (a2:=a2) (c2:=c2) (a3:=a3) (c3:=c3) (a1':=a1') (c1':=c1') (a2':=a2') (c2':=c2') (a3':=a3') (c3':=c3') ⟨_,_,_,_,_,_,rfl,rfl,r1,r2,r3⟩ ⟨_,_,_,_,_,_,rfl,rfl,r1',r2',r3'⟩ (hn.2 _ (zdf hi));rw[he];simp only[Ad,Ax,Aq,Au (show i<9223372036854775807 by omega)]
 ·rw[CR.e,Aj (by omega)]
theorem zcH {s:Sess} (h1:RTags ro h [.sl 2 a s.past.length c] s.past F) (h2:RTags ro' h [.sl 2 a' s.past.length c'] s.past F') (hn:s.past.length<=1048576):Af lo 166 [.agg (s.cs a c),.agg (s.cs a' c')] h=some (.bool true,h) :=
 Td (h':=h) (by simp only[zaM h1 h2 hn,Ad,Ax,Aq,EI,KB,zeT])
theorem zbM {l:List Sess} (h1:RSesss ro h [.sl 5 a l.length c] l F) (h2:RSesss ro' h [.sl 5 a' l.length c'] l F') (hn:l.length<=1048576/\∀ s∈l,s.past.length<=1048576):Af lo 84 [.sl 5 a l.length c,.sl 5 a' l.length c'] h=some (.bool true,h):=by
 have hn1:=hn.1;refine Sj (h':=h) ?_;rw[EI,Aq];refine (HY (n:=l.length) (λi=>C5 (List.length h) a l.length c a' l.length c' false (i:Nat) h) λi hi=>?_).trans ?_
 ·obtain ⟨o,v,a1,c1,G,rfl,ho,_,_,es,r1,_⟩:=h1.get hi;obtain ⟨o',v',a1',c1',G',rfl,ho',_,_,es',r1',_⟩:=h2.get hi;rw[C5.e,Am (by omega),Ac hi];simp only[Ae,A7,ho,ho',Aa,Ab,es,es',Ag,Ac hi];rw[zcH r1 r1' (hn.2 _ (zdf hi))];simp only[Ad,Ax,Aq,Au (show i<9223372036854775807 by omega)]
 ·rw[C5.e,Aj (by omega)]
theorem zaO {l:List Frame} (h1:RFrames ro h [.sl 9 a l.length c] l F) (h2:RFrames ro' h [.sl 9 a' l.length c'] l F') (hn:l.length<=1048576/\∀ f∈l,f.ver.past.length<=1048576/\f.ver.text.size<=1048576):Af lo 85 [.sl 9 a l.length c,.sl 9 a' l.length c'] h=some (.bool true,h):=by
 have hn1:=hn.1;refine Qf (h':=h) ?_;rw[EI,Aq];refine (HY (n:=l.length) (λi=>CS (List.length h) a l.length c a' l.length c' false (i:Nat) h) λi hi=>?_).trans ?_
 ·obtain ⟨o,s,a1,c1,G,rfl,ho,es,r1,_⟩:=h1.get hi;obtain ⟨o',s',a1',c1',G',rfl,ho',es',r1',_⟩:=h2.get hi;rw[CS.e,Am (by omega),Ac hi];simp only[Ae,A7,ho,ho',Aa,Ab,es,es',BO,AK,Ag,Ac hi];rw[zbQ (f:=l[i]) r1 r1' (hn.2 _ (zdf hi)).1];simp only[Ad,Ax,Aq,Au (show i<9223372036854775807 by omega)]
 ·rw[CS.e,Aj (by omega)]
theorem zcI {d:Done}:Af lo 168 [.agg d.cs,.agg d.cs] h=some (.bool true,h) :=
 Tg (h':=h) (by simp only[Ad,Ax,Aq,EI,KB,zeT])
theorem zbR {l:List Done} (h1:RDones ro h [.sl 5 a l.length c] l F) (h2:RDones ro' h [.sl 5 a' l.length c'] l F') (hn1:l.length<=1048576):Af lo 86 [.sl 5 a l.length c,.sl 5 a' l.length c'] h=some (.bool true,h):=by
 refine Sp (h':=h) ?_;rw[EI,Aq];refine (HY (n:=l.length) (λi=>C7 (List.length h) a l.length c a' l.length c' false (i:Nat) h) λi hi=>?_).trans ?_
 ·obtain ⟨o,rfl,ho⟩:=h1.get hi;obtain ⟨o',rfl,ho'⟩:=h2.get hi;rw[C7.e,Am (by omega),Ac hi];simp only[Ae,A7,ho,ho',Aa,Ab,Ag,Ac hi];rw[zcI];simp only[Ad,Ax,Aq,Au (show i<9223372036854775807 by omega)]
 ·rw[C7.e,Aj (by omega)]
theorem RN {w:World}{cs cs':List V} (h1:FP ro h cs w F) (h2:FP ro' h cs' w F') (hn:Jo w):Af lo 31 [.agg cs,.agg cs'] h=some (.bool true,h):=by obtain ⟨a1,c1,a2,c2,a3,c3,a4,c4,F1,F2,F3,F4,rfl,rfl,r1,r2,r3,r4⟩:=h1;obtain ⟨a1',c1',a2',c2',a3',c3',a4',c4',F1',F2',F3',F4',rfl,rfl,q1,q2,q3,q4⟩:=h2;refine Sf (h':=h) ?_;rw[zaL r1 q1 hn.1,Ad,Ax,Aq,zbM r2 q2 hn.2.1,Ad,Ax,Aq,zaO r3 q3 hn.2.2.1,Ad,Ax,Aq,zbR r4 q4 hn.2.2.2,Ad,Ax,Aq]
end


def ZU (p:Place) (to at':Int):Bool:=Av p&&Ah to 0 2 && !(p.me==to)&&Ah at' 0 (p.log.length - 1)
def told (p:Place) (to at':Int):Frame:=bif ZU p to at' then ⟨p.me,to,at',(p.log[at'.toNat]?).getD Vt⟩ else ⟨0,0,0,Vt⟩
section
variable {lo:Nat}{h:Heap}{F F':List Nat}{a a':Pq}{c c':Nq}
theorem XE {x y:Int}:Af lo 226 [Iv x,Iv y] h=some (.bool (Ah x 0 2&&Ah y 0 2 && !(x==y)),h) :=
 Vo (h':=h) (by
  simp only[Ev,Ad,Ax];cases Ah x 0 2<;>cases Ah y 0 2<;>cases (x==y)<;>rfl)
theorem WM {n:Nat} (hn:n<=1048576):Al ((n:Int) - 1)=(n:Int) - 1:=wr (by omega) (by omega)
end


def GB (s:Sess):Bool:=Ah s.place 0 2&&Ck s.past&&CY s.wait.time s.wait.place&&Ah s.key 0 3&&(decide (s.wait.time>0) || s.key==0)&&(s.wait.time==0 || s.wait.place==s.place)
def RU (d:Done):Bool:=Ah d.sess 0 3&&Ah d.kind 1 3&&Ah d.key 0 3&&CY d.tag.time d.tag.place&&(d.kind==2 || decide (d.tag.time>0))
def GI (l:List Place) (k:Nat):List Ver:=match l[k]? with
 | some p=>p.log
 | none => []
theorem LQ {l:List Place}{k:Nat} (hk:k<l.length):GI l k=l[k].log:=by unfold GI;rw[DZ hk]
section
variable {lo:Nat}{ro ro':Bool}{h:Heap}{F F':List Nat}{a a':Pq}{c c':Nq}
end


def Ky (k:Int) (_:Done):Done:=⟨k,k+1,k+1+1,⟨k+1+1+1,k+1+1+1+1⟩⟩
def Fq (_:Done):Nat:=5
def Mr (k:Int) (s:Sess):Sess:=⟨k,BN Ns C0 s.past (k+1),⟨k+1+Bj C0 s.past,k+1+Bj C0 s.past+1⟩,k+1+Bj C0 s.past+1+1⟩
def Eb (s:Sess):Nat:=4+Bj C0 s.past
noncomputable def Jt (k:Int) (f:Frame):Frame:=⟨k,k+1,k+1+1,Lh (k+3) f.ver⟩
def Dh (f:Frame):Nat:=3+Na f.ver
noncomputable def I3 (k:Int) (p:Place):Place:=⟨k,k+1,Js (k+2) p.chain,Hk (k+2+Ei p.chain) p.log,PC (k+2+Ei p.chain+CX p.log) p.got,(k+2+Ei p.chain+CX p.log+M4 p.got).tmod 3==0⟩
def Bm (p:Place):Nat:=3+Un p
def Im (w:World):Nat:=Bj Bm w.places+Bj Eb w.sess+Bj Dh w.net+Bj Fq w.hist
section
variable {lo:Nat}{h:Heap}{F:List Nat}{a:Pq}{c:Nq}{k:Int}
theorem Rh {l:List Done} (hs:RDones false h [.sl 5 a l.length c] l F) (hlo:∀ b∈F,lo<=b) (hnd:F.Nodup) (h0:0<=k) (hB:k+Bj Fq l<=EN) (hn:l.length<=1048576) :
  ∃ h',Af lo 92 [.sl 5 a l.length c,Iv k] h=some (Iv (k+Bj Fq l),h')/\RDones false h' [.sl 5 a l.length c] (BN Ky Fq l k) F/\h'.length=h.length/\Mv h F h' F:=by
 obtain ⟨h',e,q,r⟩:=Fd (El:=flat Done.cs) DF (f:=Ky) (w:=Fq) (B:=EN) (λk i hh=>Cu lo a l.length c k (i:Nat) hh) (λi k hh x b j rs row G ha hbF hbG hGn hGF hb hrow hel hx hi h0 hB=>by
  obtain ⟨rfl,rfl⟩:=hel;subst ha;have hrl:j+i<rs.length:=(DY hrow).1;have hbl:b<hh.length:=(DY hb).1;have hlob:=hlo b hbF;have hw:((Fq x:Nat):Int)=5:=rfl;rw[hw] at hB ⊢;refine ⟨hh.set b (.rows 5 (zaT false) false (rs.set (j+i) (Ky k x).cs)),(Ky k x).cs,?_,by simp[hbl],⟨rfl,rfl⟩,λy hy _=>zdi (Ne.symm hy),by simp⟩;simp only[EN] at hB;rw[Cu.e,Am (by omega),Ac hi];simp only[Ae,A7];rw[Bt hb hlob hrow (row' := [Iv k,Iv x.kind,Iv x.key,Iv x.tag.time,Iv x.tag.place]) (by rfl),Ae,Ac hi,wr (n:=k+1) (by omega) (by omega)];rw[Cm hbl hlob hrl (row' := [Iv k,Iv (k+1),Iv x.key,Iv x.tag.time,Iv x.tag.place]) (by rfl),Ae,Ac hi,wr (n:=k+1+1) (by omega) (by omega)];rw[Cm hbl hlob hrl (row' := [Iv k,Iv (k+1),Iv (k+1+1),Iv x.tag.time,Iv x.tag.place]) (by rfl),Ae,Ac hi,wr (n:=k+1+1+1) (by omega) (by omega)];rw[Cm hbl hlob hrl (row' := [Iv k,Iv (k+1),Iv (k+1+1),Iv (k+1+1+1),Iv x.tag.place]) (by rfl),Ae,Ac hi,wr (n:=k+1+1+1+1) (by omega) (by omega)];rw[Cm hbl hlob hrl (row':=(Ky k x).cs) (by rfl),Ae,wr (n:=k+1+1+1+1+1) (by omega) (by omega),Au (by omega),show k+1+1+1+1+1=k+5 by omega]) (λk hh=>by
  rw[Cu.e,Aj (by omega)]) hs hnd h0 hB
 exact ⟨h',O4 e,q,r⟩
theorem Rf {l:List Sess} (hs:RSesss false h [.sl 5 a l.length c] l F) (hlo:∀ b∈F,lo<=b) (hnd:F.Nodup) (h0:0<=k) (hB:k+Bj Eb l<=EN) (hn:l.length<=1048576/\∀ s∈l,s.past.length<=1048576) :
  ∃ h',Af lo 90 [.sl 5 a l.length c,Iv k] h=some (Iv (k+Bj Eb l),h')/\RSesss false h' [.sl 5 a l.length c] (BN Mr Eb l k) F/\h'.length=h.length/\Mv h F h' F:=by
 have hn1:=hn.1;obtain ⟨h',e,q,r⟩:=Fd (El:=RSess false) IX (f:=Mr) (w:=Eb) (B:=EN) (λk i hh=>Cs lo a l.length c k (i:Nat) hh) (λi k hh x b j rs row G ha hbF hbG hGn hGF hb hrow hel hx hi h0 hB=>by
  obtain ⟨s,rfl,hp0⟩:=hel;obtain ⟨a2,c2,es,hp⟩:=hp0.form;subst ha;have hrl:j+i<rs.length:=(DY hrow).1;have hbl:b<hh.length:=(DY hb).1;have hlob:=hlo b hbF;have hw:Eb x=4+Bj C0 x.past:=rfl;rw[hw] at hB;simp only[EN] at hB;have hb3:(hh.set b (.rows 5 (Fu false) false (rs.set (j+i) [Iv k,s,Iv x.wait.time,Iv x.wait.place,Iv x.key])))[b]?=some (.rows 5 (Fu false) false (rs.set (j+i) [Iv k,s,Iv x.wait.time,Iv x.wait.place,Iv x.key])):=by simp[hbl]
  have hp3:RTags false (hh.set b (.rows 5 (Fu false) false (rs.set (j+i) [Iv k,s,Iv x.wait.time,Iv x.wait.place,Iv x.key]))) [.sl 2 a2 x.past.length c2] x.past G:=rtags_ok.fr _ _ _ _ _ hp (λy hy=>zdi (by rintro rfl;exact hbG hy));obtain ⟨h4,e4,r4,l4,m4⟩:=JQ (lo:=lo) (k:=k+1) hp3 (λy hy=>hlo y (hGF y hy)) hGn (by omega) (by simp only[EN];omega) (hn.2 x hx);have hb4:h4[b]?=some (.rows 5 (Fu false) false (rs.set (j+i) [Iv k,s,Iv x.wait.time,Iv x.wait.place,Iv x.key])):=by rw[m4.fr b (by simpa using hbl) hbG];exact hb3
  have hbl4:b<h4.length:=(DY hb4).1;have hrow4:(rs.set (j+i) [Iv k,s,Iv x.wait.time,Iv x.wait.place,Iv x.key])[j+i]?=some [Iv k,s,Iv x.wait.time,Iv x.wait.place,Iv x.key]:=by simp[hrl]
  generalize hN:k+1+(Bj C0 x.past:Int)=N at e4;refine ⟨h4.set b (.rows 5 (Fu false) false (rs.set (j+i) [Iv k,s,Iv N,Iv (N+1),Iv (N+1+1)])),[Iv k,s,Iv N,Iv (N+1),Iv (N+1+1)],?_,by simp[hbl4],?_,λy hy hyG=>?_,by simpa using l4⟩
  ·rw[Cs.e,Am (by omega),Ac hi];simp only[Ae,A7];rw[Bt hb hlob hrow (row' := [Iv k,s,Iv x.wait.time,Iv x.wait.place,Iv x.key]) (by rfl),Ae,Ac hi,wr (n:=k+1) (by omega) (by omega)];have hld:ld (hh.set b (.rows 5 (Fu false) false (rs.set (j+i) [Iv k,s,Iv x.wait.time,Iv x.wait.place,Iv x.key]))) b (j+i) 1 1=some [s]:=by simp only[ld,Heap.rows?,hb3,zdF,hrow4];rfl
   rw[hld];simp only[Ae,Aa,Ag,es];rw[e4];simp only[Ad,Ab];rw[Ac hi,Bt hb4 hlob hrow4 (row' := [Iv k,s,Iv N,Iv x.wait.place,Iv x.key]) (by rfl),Ae,zd1,Ac hi,wr (n:=N+1) (by omega) (by omega)];rw[Cm hbl4 hlob hrl (row' := [Iv k,s,Iv N,Iv (N+1),Iv x.key]) (by rfl),Ae,Ac hi,wr (n:=N+1+1) (by omega) (by omega)];rw[Cm hbl4 hlob hrl (row' := [Iv k,s,Iv N,Iv (N+1),Iv (N+1+1)]) (by rfl),Ae,wr (n:=N+1+1+1) (by omega) (by omega),Au (by omega),show N+1+1+1=k+((Eb x:Nat):Int) by rw[hw];omega]
  ·refine ⟨s,by simp only[Mr,hN],?_⟩;exact Sli.same hp0 es (rtags_ok.fr _ _ _ _ _ r4 (λy hy=>zdi (by rintro rfl;exact hbG hy)))
  ·rw[zdi (Ne.symm hy),m4.fr' l4 y hyG,zdi (Ne.symm hy)]) (λk hh=>by
  rw[Cs.e,Aj (by omega)]) hs hnd h0 hB
 exact ⟨h',O2 e,q,r⟩
theorem PV {l:List Frame} (hs:RFrames false h [.sl 9 a l.length c] l F) (hlo:∀ b∈F,lo<=b) (hnd:F.Nodup) (h0:0<=k) (hB:k+Bj Dh l<=EN) (hn:l.length<=1048576/\∀ f∈l,f.ver.past.length<=1048576/\f.ver.text.size<=1048576) :
  ∃ h',Af lo 91 [.sl 9 a l.length c,Iv k] h=some (Iv (k+Bj Dh l),h')/\RFrames false h' [.sl 9 a l.length c] (BN Jt Dh l k) F/\h'.length=h.length/\Mv h F h' F:=by
 have hn1:=hn.1;obtain ⟨h',e,q,r⟩:=Fd (El:=R7 false) rframe_ok (f:=Jt) (w:=Dh) (B:=EN) (λk i hh=>Bz lo a l.length c k (i:Nat) hh) (λi k hh x b j rs row G ha hbF hbG hGn hGF hb hrow hel hx hi h0 hB=>by
  obtain ⟨vs,rfl,s,rfl,hp0⟩:=hel;obtain ⟨a2,c2,es,hp⟩:=hp0.form;subst ha;have hrl:j+i<rs.length:=(DY hrow).1;have hbl:b<hh.length:=(DY hb).1;have hlob:=hlo b hbF;have hw:Dh x=3+(5+Bj C0 x.ver.past):=rfl;rw[hw] at hB;simp only[EN] at hB;generalize hrow3 : [Iv k,Iv (k+1),Iv (k+1+1),Iv (k+1+1+1),Iv (k+1+1+1+1),Iv (k+1+1+1+1+1),s,.str x.ver.text,.bool x.ver.gone]=row3;have hb3:(hh.set b (.rows 9 (Lt false) false (rs.set (j+i) row3)))[b]?=some (.rows 9 (Lt false) false (rs.set (j+i) row3)):=by simp[hbl]
  have hp3:RTags false (hh.set b (.rows 9 (Lt false) false (rs.set (j+i) row3))) [.sl 2 a2 x.ver.past.length c2] x.ver.past G:=rtags_ok.fr _ _ _ _ _ hp (λy hy=>zdi (by rintro rfl;exact hbG hy));obtain ⟨h4,e4,r4,l4,m4⟩:=JQ (lo:=lo) (k:=k+6) hp3 (λy hy=>hlo y (hGF y hy)) hGn (by omega) (by simp only[EN];omega) (hn.2 x hx).1;have hb4:h4[b]?=some (.rows 9 (Lt false) false (rs.set (j+i) row3)):=by rw[m4.fr b (by simpa using hbl) hbG];exact hb3
  have hbl4:b<h4.length:=(DY hb4).1;have hrow4:(rs.set (j+i) row3)[j+i]?=some row3:=by simp[hrl]
  generalize hN:k+6+(Bj C0 x.ver.past:Int)=N at e4;refine ⟨h4.set b (.rows 9 (Lt false) false (rs.set (j+i) [Iv k,Iv (k+1),Iv (k+1+1),Iv (k+1+1+1),Iv (k+1+1+1+1),Iv (k+1+1+1+1+1),s,.str (GH N),.bool ((N+1).tmod 3==0)])),
   [Iv k,Iv (k+1),Iv (k+1+1),Iv (k+1+1+1),Iv (k+1+1+1+1),Iv (k+1+1+1+1+1),s,.str (GH N),.bool ((N+1).tmod 3==0)],?_,by simp[hbl4],?_,λy hy hyG=>?_,by simpa using l4⟩
  ·rw[Bz.e,Am (by omega),Ac hi];simp only[Ae,A7];rw[Bt hb hlob hrow (row' := [Iv k,Iv x.to,Iv x.at',Iv x.ver.key,Iv x.ver.tag.time,Iv x.ver.tag.place,s,.str x.ver.text,.bool x.ver.gone]) (by rfl),Ae,Ac hi,wr (n:=k+1) (by omega) (by omega)];rw[Cm hbl hlob hrl (row' := [Iv k,Iv (k+1),Iv x.at',Iv x.ver.key,Iv x.ver.tag.time,Iv x.ver.tag.place,s,.str x.ver.text,.bool x.ver.gone]) (by rfl),Ae,Ac hi,wr (n:=k+1+1) (by omega) (by omega)];rw[Cm hbl hlob hrl (row' := [Iv k,Iv (k+1),Iv (k+1+1),Iv x.ver.key,Iv x.ver.tag.time,Iv x.ver.tag.place,s,.str x.ver.text,.bool x.ver.gone]) (by rfl),Ae,Ac hi,wr (n:=k+1+1+1) (by omega) (by omega)];rw[Cm hbl hlob hrl (row' := [Iv k,Iv (k+1),Iv (k+1+1),Iv (k+1+1+1),Iv x.ver.tag.time,Iv x.ver.tag.place,s,.str x.ver.text,.bool x.ver.gone]) (by rfl),Ae,Ac hi,wr (n:=k+1+1+1+1) (by omega) (by omega)];rw[Cm hbl hlob hrl (row' := [Iv k,Iv (k+1),Iv (k+1+1),Iv (k+1+1+1),Iv (k+1+1+1+1),Iv x.ver.tag.place,s,.str x.ver.text,.bool x.ver.gone]) (by rfl),Ae,Ac hi,wr (n:=k+1+1+1+1+1) (by omega) (by omega)];rw[Cm hbl hlob hrl (row':=row3) (by rw[<- hrow3];rfl),Ae,Ac hi];have hld:ld (hh.set b (.rows 9 (Lt false) false (rs.set (j+i) row3))) b (j+i) 6 1=some [s]:=by simp only[ld,Heap.rows?,hb3,zdF,hrow4];rw[<- hrow3];rfl
   rw[hld,wr (n:=k+1+1+1+1+1+1) (by omega) (by omega),show k+1+1+1+1+1+1=k+6 by omega];simp only[Ae,Aa,Ag,es];rw[e4];simp only[Ad,Ab];rw[FJ (by omega) (by simp only[EN];omega)];simp only[Ad,BO];rw[Ac hi,Bt hb4 hlob hrow4 (row' := [Iv k,Iv (k+1),Iv (k+1+1),Iv (k+1+1+1),Iv (k+1+1+1+1),Iv (k+1+1+1+1+1),s,.str (GH N),.bool x.ver.gone]) (by rw[<- hrow3];rfl),Ae,zd1];rw[wr (n:=N+1) (by omega) (by omega),wr (n:=N+1+1) (by omega) (by omega),Au (by omega),Ac hi];rw[show k+((Dh x:Nat):Int)=N+1+1 by rw[hw];omega];cases hg:((N+1).tmod 3==0)
   ·rw[Az,Ac hi,Cm hbl4 hlob hrl (row' := [Iv k,Iv (k+1),Iv (k+1+1),Iv (k+1+1+1),Iv (k+1+1+1+1),Iv (k+1+1+1+1+1),s,.str (GH N),.bool false]) (by rfl),Ae]
   ·rw[Aq,Cm hbl4 hlob hrl (row' := [Iv k,Iv (k+1),Iv (k+1+1),Iv (k+1+1+1),Iv (k+1+1+1+1),Iv (k+1+1+1+1+1),s,.str (GH N),.bool true]) (by rfl),Ae]
  ·have e6:k+3+3=k+6:=by omega
   refine ⟨[Iv (k+1+1+1),Iv (k+1+1+1+1),Iv (k+1+1+1+1+1),s,.str (GH N),.bool ((N+1).tmod 3==0)],rfl,s,?_,?_⟩
   ·simp only[Jt,Lh,e6,hN];rw[show k+1+1+1=k+3 by omega,show k+3+1+1=k+3+2 by omega]
   ·simp only[Jt,Lh,e6];exact Sli.same hp0 es (rtags_ok.fr _ _ _ _ _ r4 (λy hy=>zdi (by rintro rfl;exact hbG hy)))
  ·rw[zdi (Ne.symm hy),m4.fr' l4 y hyG,zdi (Ne.symm hy)]) (λk hh=>by
  rw[Bz.e,Aj (by omega)]) hs hnd h0 hB
 exact ⟨h',NY e,q,r⟩
theorem PU {l:List Place} (hs:RPlaces false h [.sl 6 a l.length c] l F) (hlo:∀ b∈F,lo<=b) (hnd:F.Nodup) (h0:0<=k) (hB:k+Bj Bm l<=EN) (hn:l.length<=1048576/\∀ p∈l,FM p) :
  ∃ h',Af lo 89 [.sl 6 a l.length c,Iv k] h=some (Iv (k+Bj Bm l),h')/\RPlaces false h' [.sl 6 a l.length c] (BN I3 Bm l k) F/\h'.length=h.length/\Mv h F h' F:=by
 have hn1:=hn.1;obtain ⟨h',e,q,r⟩:=Fd (El:=RPlace false) rplace_ok (f:=I3) (w:=Bm) (B:=EN) (λk i hh=>By lo a l.length c k (i:Nat) hh) (λi k hh x b j rs row G ha hbF hbG hGn hGF hb hrow hel hx hi h0 hB=>by
  obtain ⟨s1,s2,s3,F1,F2,F3,rfl,rfl,p1,p2,p3⟩:=hel;obtain ⟨a1,c1,e1,q1⟩:=p1.form;obtain ⟨a2,c2,e2,q2⟩:=p2.form;obtain ⟨a3,c3,e3,q3⟩:=p3.form;subst ha;have hsm:=hn.2 x hx;have hrl:j+i<rs.length:=(DY hrow).1;have hbl:b<hh.length:=(DY hb).1;have hlob:=hlo b hbF;have hw:Bm x=3+(Ei x.chain+CX x.log+M4 x.got):=rfl;rw[hw] at hB;simp only[EN] at hB;simp only[zde,not_or] at hbG;rw[zdg,zdg] at hGn;obtain ⟨n1,⟨n2,n3,d23⟩,d1⟩:=hGn;have d12:∀ y∈F2,y∉F1:=λy h2 h1=>d1 y h1 y (zdQ _ h2) rfl;have d13:∀ y∈F3,y∉F1:=λy h2 h1=>d1 y h1 y (zef _ h2) rfl;have d32:∀ y∈F3,y∉F2:=λy h3 h2=>d23 y h2 y h3 rfl;have row3:(rs.set (j+i) [Iv k,Iv (k+1),s1,s2,s3,.bool x.fell])[j+i]?=some [Iv k,Iv (k+1),s1,s2,s3,.bool x.fell]:=by simp[hrl]
  have hb3:(hh.set b (.rows 6 (Hw false) false (rs.set (j+i) [Iv k,Iv (k+1),s1,s2,s3,.bool x.fell])))[b]?=some (.rows 6 (Hw false) false (rs.set (j+i) [Iv k,Iv (k+1),s1,s2,s3,.bool x.fell])):=by simp[hbl]
  have fr3:∀ y,y≠b->(hh.set b (.rows 6 (Hw false) false (rs.set (j+i) [Iv k,Iv (k+1),s1,s2,s3,.bool x.fell])))[y]?=hh[y]?:=λy hy=>zdi (Ne.symm hy);have l3:(hh.set b (.rows 6 (Hw false) false (rs.set (j+i) [Iv k,Iv (k+1),s1,s2,s3,.bool x.fell]))).length=hh.length:=by simp
  have st1:=Bt (j:=0) (cs := [Iv k]) hb hlob hrow (row' := [Iv k,Iv x.clock,s1,s2,s3,.bool x.fell]) (by rfl);have st2:=Cm (e:=Hw false) (R:=6) (rs:=rs) (j:=1) (cs := [Iv (k+1)]) hbl hlob hrl (row := [Iv k,Iv x.clock,s1,s2,s3,.bool x.fell]) (row' := [Iv k,Iv (k+1),s1,s2,s3,.bool x.fell]) (by rfl);generalize hh.set b (.rows 6 (Hw false) false (rs.set (j+i) [Iv k,Iv (k+1),s1,s2,s3,.bool x.fell]))=h3 at hb3 fr3 l3 st2;have q1:=rnodes_ok.fr _ _ _ _ _ q1 (λy hy=>fr3 y (by rintro rfl;exact hbG.1 hy));have q2:=rvers_ok.fr _ _ _ _ _ q2 (λy hy=>fr3 y (by rintro rfl;exact hbG.2.1 hy));have q3:=rvss_ok.fr _ _ _ _ _ q3 (λy hy=>fr3 y (by rintro rfl;exact hbG.2.2 hy));obtain ⟨h4,e4,r4,l4,m4⟩:=Rg (lo:=lo) (k:=k+2) q1 (λy hy=>hlo y (hGF y (by simp[hy]))) n1 (by omega) (by simp only[EN];omega) hsm.1;obtain ⟨h5,e5,r5,l5,m5⟩:=HV (lo:=lo) (k:=k+2+Ei x.chain) (m4.keep rvers_ok q2 d12) (λy hy=>hlo y (hGF y (by simp[hy]))) n2 (by omega) (by simp only[EN];omega) hsm.2.1;obtain ⟨h6,e6,r6,l6,m6⟩:=Re (lo:=lo) (k:=k+2+Ei x.chain+CX x.log) (m5.keep rvss_ok (m4.keep rvss_ok q3 d13) d32) (λy hy=>hlo y (hGF y (by simp[hy]))) n3 (by omega) (by simp only[EN];omega) hsm.2.2;have hb4:h4[b]?=some (.rows 6 (Hw false) false (rs.set (j+i) [Iv k,Iv (k+1),s1,s2,s3,.bool x.fell])):=by rw[m4.fr' l4 b hbG.1];exact hb3
  have hb5:h5[b]?=some (.rows 6 (Hw false) false (rs.set (j+i) [Iv k,Iv (k+1),s1,s2,s3,.bool x.fell])):=by rw[m5.fr' l5 b hbG.2.1];exact hb4
  have hb6:h6[b]?=some (.rows 6 (Hw false) false (rs.set (j+i) [Iv k,Iv (k+1),s1,s2,s3,.bool x.fell])):=by rw[m6.fr' l6 b hbG.2.2];exact hb5
  have hbl6:b<h6.length:=(DY hb6).1;have ld3:ld h3 b (j+i) 2 1=some [s1]:=by rw[CA hb3 row3];rfl
  have ld4:ld h4 b (j+i) 3 1=some [s2]:=by rw[CA hb4 row3];rfl
  have ld5:ld h5 b (j+i) 4 1=some [s3]:=by rw[CA hb5 row3];rfl
  have r4':=m6.keep rnodes_ok (m5.keep rnodes_ok r4 λy h1 h2=>d12 y h2 h1) λy h1 h2=>d13 y h2 h1;have r5':=m6.keep rvers_ok r5 λy h1 h2=>d32 y h2 h1;rw[<- Li (k:=k+2)] at r4';rw[<- CF (k:=k+2+Ei x.chain)] at r5';rw[<- Ox (k:=k+2+Ei x.chain+CX x.log)] at r6;generalize hN:k+2+(Ei x.chain:Int)+(CX x.log:Int)+(M4 x.got:Int)=N at e6;have fr6:∀ y,y≠b->(h6.set b (.rows 6 (Hw false) false (rs.set (j+i) [Iv k,Iv (k+1),s1,s2,s3,.bool (N.tmod 3==0)])))[y]?=h6[y]?:=λy hy=>zdi (Ne.symm hy);refine ⟨h6.set b (.rows 6 (Hw false) false (rs.set (j+i) [Iv k,Iv (k+1),s1,s2,s3,.bool (N.tmod 3==0)])),[Iv k,Iv (k+1),s1,s2,s3,.bool (N.tmod 3==0)],?_,by simp[hbl6],
   ⟨s1,s2,s3,F1,F2,F3,by simp only[I3,hN],rfl,Sli.same p1 (by rw[Li];exact e1) (rnodes_ok.fr _ _ _ _ _ r4' λy hy=>fr6 y (by rintro rfl;exact hbG.1 hy)),Sli.same p2 (by rw[CF];exact e2) (rvers_ok.fr _ _ _ _ _ r5' λy hy=>fr6 y (by rintro rfl;exact hbG.2.1 hy)),Sli.same p3 (by rw[Ox];exact e3) (rvss_ok.fr _ _ _ _ _ r6 λy hy=>fr6 y (by rintro rfl;exact hbG.2.2 hy))⟩,λy hy hyG=>?_,by rw[zdM];omega⟩
  ·rw[By.e,Am (by omega),Ac hi];simp only[Ae,A7];rw[st1,Ae,Ac hi,wr (n:=k+1) (by omega) (by omega),st2,Ae,Ac hi,ld3,wr (n:=k+1+1) (by omega) (by omega),show k+1+1=k+2 by omega];simp only[Ae,Aa,Ag,e1];rw[e4];simp only[Ad,Ab];rw[Ac hi,ld4];simp only[Ae,Aa,Ag,e2];rw[e5];simp only[Ad,Ab];rw[Ac hi,ld5];simp only[Ae,Aa,Ag,e3];rw[e6];simp only[Ad,Ab];rw[wr (n:=N+1) (by omega) (by omega),Au (by omega),Ac hi];rw[show k+((Bm x:Nat):Int)=N+1 by rw[hw];omega];cases hg:(N.tmod 3==0)
   ·rw[Az,Ac hi,Bt hb6 hlob row3 (row' := [Iv k,Iv (k+1),s1,s2,s3,.bool false]) (by rfl),Ae,zd1]
   ·rw[Aq,Bt hb6 hlob row3 (row' := [Iv k,Iv (k+1),s1,s2,s3,.bool true]) (by rfl),Ae,zd1]
  ·simp only[zde,not_or] at hyG;rw[fr6 y hy,m6.fr' l6 y hyG.2.2,m5.fr' l5 y hyG.2.1,m4.fr' l4 y hyG.1,fr3 y hy]) (λk hh=>by
  rw[By.e,Aj (by omega)]) hs hnd h0 hB
 exact ⟨h',NX e,q,r⟩
noncomputable def HT (w:World):World:=⟨BN I3 Bm w.places 1,BN Mr Eb w.sess (1+Bj Bm w.places),BN Jt Dh w.net (1+Bj Bm w.places+Bj Eb w.sess),BN Ky Fq w.hist (1+Bj Bm w.places+Bj Eb w.sess+Bj Dh w.net)⟩
theorem V4 {w:World}{cs:List V} (hs:FP false h cs w F) (hlo:∀ b∈F,lo<=b) (hnd:F.Nodup) (hB:(1:Int)+Im w<=EN) (hn:Jo w) :
  ∃ h',Af lo 34 [.agg cs,Iv 1] h=some (Iv (1+Im w),h')/\FP false h' cs (HT w) F/\Mv h F h' F:=by
 obtain ⟨a1,c1,a2,c2,a3,c3,a4,c4,F1,F2,F3,F4,rfl,rfl,r1,r2,r3,r4⟩:=hs;obtain ⟨b1,b2,b3,b4⟩:=hn;have hnd':=hnd;rw[zdg,zdg,zdg] at hnd;obtain ⟨n1,⟨n2,⟨n3,n4,d34⟩,d2⟩,d1⟩:=hnd;have hw:Im w=Bj Bm w.places+Bj Eb w.sess+Bj Dh w.net+Bj Fq w.hist:=rfl;rw[hw] at hB ⊢;obtain ⟨h1,e1,q1,l1,m1⟩:=PU (lo:=lo) (k:=1) r1 (λy hy=>hlo y (by simp[hy])) n1 (by omega) (by omega) b1;have r2:=m1.keep rsesss_ok r2 λy hy hm=>d1 y hm y (by simp[hy]) rfl;have r3:=m1.keep rframes_ok r3 λy hy hm=>d1 y hm y (by simp[hy]) rfl;have r4:=m1.keep rdones_ok r4 λy hy hm=>d1 y hm y (by simp[hy]) rfl;obtain ⟨h2,e2,q2,l2,m2⟩:=Rf (lo:=lo) (k:=1+Bj Bm w.places) r2 (λy hy=>hlo y (by simp[hy])) n2 (by omega) (by omega) b2;have r3:=m2.keep rframes_ok r3 λy hy hm=>d2 y hm y (by simp[hy]) rfl;have r4:=m2.keep rdones_ok r4 λy hy hm=>d2 y hm y (by simp[hy]) rfl;have q1:=m2.keep rplaces_ok q1 λy hy hm=>d1 y hy y (by simp[hm]) rfl;obtain ⟨h3,e3,q3,l3,m3⟩:=PV (lo:=lo) (k:=1+Bj Bm w.places+Bj Eb w.sess) r3 (λy hy=>hlo y (by simp[hy])) n3 (by omega) (by omega) b3;have r4:=m3.keep rdones_ok r4 λy hy hm=>d34 y hm y hy rfl;have q1:=m3.keep rplaces_ok q1 λy hy hm=>d1 y hy y (by simp[hm]) rfl;have q2:=m3.keep rsesss_ok q2 λy hy hm=>d2 y hy y (by simp[hm]) rfl;obtain ⟨h4,e4,q4,l4,m4⟩:=Rh (lo:=lo) (k:=1+Bj Bm w.places+Bj Eb w.sess+Bj Dh w.net) r4 (λy hy=>hlo y (by simp[hy])) n4 (by omega) (by omega) b4;have q1:=m4.keep rplaces_ok q1 λy hy hm=>d1 y hy y (by simp[hm]) rfl;have q2:=m4.keep rsesss_ok q2 λy hy hm=>d2 y hy y (by simp[hm]) rfl;have q3:=m4.keep rframes_ok q3 λy hy hm=>d34 y hy y hm rfl;refine ⟨h4,O0 ?_,⟨a1,c1,a2,c2,a3,c3,a4,c4,F1,F2,F3,F4,?_,rfl,?_,?_,?_,?_⟩,?_⟩
 ·rw[e1,Ad,Ab,e2,Ad,Ab,e3,Ad,Ab,e4,Ad,Ab,show (1:Int)+(Bj Bm w.places:Int)+(Bj Eb w.sess:Int)+(Bj Dh w.net:Int)+(Bj Fq w.hist:Int)=1+((Bj Bm w.places+Bj Eb w.sess+Bj Dh w.net+Bj Fq w.hist:Nat):Int) by omega]
 ·simp only[World.cs,HT,Ba]
 ·simpa only [HT,Ba] using q1
 ·simpa only [HT,Ba] using q2
 ·simpa only [HT,Ba] using q3
 ·simpa only [HT,Ba] using q4
 ·refine ⟨by omega,λy _ hy=>?_,hnd',λy hy => .inl hy⟩;simp only[zde,not_or] at hy;rw[m4.fr' l4 y hy.2.2.2,m3.fr' l3 y hy.2.2.1,m2.fr' l2 y hy.2.1,m1.fr' l1 y hy.1]
end


abbrev zc0 (n:Int):List V := [Iv n]
abbrev RInts:Rel (List Int):=Sli false 1 3 (flat zc0)
section
variable {lo:Nat}{h:Heap}{F F' F1:List Nat}{a a' a1 a2 a3 a4:Pq}{c c' c1 c2 c3 c4:Nq}{k:Int}
theorem RInts.get {l:List Int}{n i:Nat} (hs:RInts h [.sl 1 a n c] l F) (hi:i<l.length):∃ o,a=some o/\ld h o.1 (o.2+i) 0 1=some [Iv l[i]]:=by obtain ⟨o,row,G,h1,h2,⟨rfl,_⟩,_⟩:=hs.read hi;exact ⟨o,h1,by rw[h2];rfl⟩
end


variable {l:List Node}
def Bn (l:List Node) (k:Nat):Nat:=if k=0/\1<l.length then 1 else k
def Gg (l:List Node) (k key:Nat):Option Ver:=(GA l (Bn l k))[key]?
section
variable {lo:Nat}{ro:Bool}{h:Heap}{F F' F1:List Nat}{a a' a1 a2 a3 a4:Pq}{c c' c1 c2 c3 c4:Nq}
theorem Mg {k key:Nat} (hs:RNodes false h [.sl 2 a l.length c] l F) (hk:k<l.length) (hst:∀ x∈l,Bv x.store=true) (hkey:key<4) (hl:lo<=h.length) (hn1:l.length<=1048576) :
  ∃ v a' c' h' G,Af lo 288 [.agg [.sl 2 a l.length c],Iv (k:Nat),Iv (key:Nat)] h=some (.agg (Ver.cs v a' c'),h')/\Gg l k key=some v/\RTags false h' [.sl 2 a' v.past.length c'] v.past G/\Mv h [] h' G:=by
 suffices hq:∃ v a' c' h' G,_=some (V.agg (Ver.cs v a' c'),h')/\Gg l k key=some v/\RTags false h' [.sl 2 a' v.past.length c'] v.past G/\Mv h [] h' G from by obtain ⟨v,a',c',h',G,e,hr⟩:=hq;exact ⟨v,a',c',h',G,Sc e,hr⟩
 have hql:Bn l k<l.length:=by unfold Bn;split<;>omega
 obtain ⟨o,s1,s2,b1,d1,b2,d2,H1,H2,ha,_,ho1,_,q1,_,p1,_⟩:=hs.get hql;have hs4:=hst _ (zdf hql);have hkl:key<l[Bn l k].store.length:=by rw[Cd hs4];exact hkey
 obtain ⟨o2,t,b3,d3,G,ha2,ho2,es2,pv,_⟩:=p1.get hkl;obtain ⟨a5,c5,h5,F5,e5,r5,m5⟩:=Eo (lo:=lo) (v:=l[Bn l k].store[key]) pv hl ((Kp hs4).2 _ (zdf hkl)).1;have hsh:Gg l k key=some l[Bn l k].store[key]:=by unfold Gg;rw[Dd hql,DZ hkl]
 generalize l[Bn l k].store[key]=v at ho2 es2 pv e5 r5 hsh;generalize l[Bn l k].store.length=n1 at q1 hkl ha2;refine ⟨v,a5,c5,h5,F5,?_,hsh,r5,m5⟩;simp only[Ver.cs] at e5;by_cases hk0:k=0
 ·rw[show (((k:Nat):Int)==0)=true by rw[beq_iff_eq];omega,Aq];by_cases h1:1<l.length
  ·have hsa:Bn l k=1:=by unfold Bn;rw[if_pos ⟨hk0,h1⟩]
   rw[hsa] at ho1;rw[Am (by omega),DE ⟨by omega,by omega⟩,ha,Ae,ho1,Ae,Aa,Ag,q1,Ac hkl,ha2,Ae,A7,ho2,Ae,Aa,Ab,Aa,Ab,Aa,Ab,Aa,es2,Aa,BO,Aa,AK,Ag,e5,Ad,AS,Aa,Ab,Aa,Ab,Aa,Ab,Aa,Ai,Aa,BO,Aa,AK,Ag]
  ·have hsa:Bn l k=k:=by unfold Bn;rw[if_neg (by omega)]
   rw[hsa] at ho1;rw[Aj (by omega),Ac hk,ha,Ae,A7,ho1,Ae,Aa,Ag,q1,Ac hkl,ha2,Ae,A7,ho2,Ae,Aa,Ab,Aa,Ab,Aa,Ab,Aa,es2,Aa,BO,Aa,AK,Ag,e5,Ad,AS,Aa,Ab,Aa,Ab,Aa,Ab,Aa,Ai,Aa,BO,Aa,AK,Ag]
 ·have hsa:Bn l k=k:=by unfold Bn;rw[if_neg (by omega)]
  rw[hsa] at ho1;rw[show (((k:Nat):Int)==0)=false by rw[beq_eq_false_iff_ne];omega,Az,Ac hk,ha,Ae,A7,ho1,Ae,Aa,Ag,q1,Ac hkl,ha2,Ae,A7,ho2,Ae,Aa,Ab,Aa,Ab,Aa,Ab,Aa,es2,Aa,BO,Aa,AK,Ag,e5,Ad,AS,Aa,Ab,Aa,Ab,Aa,Ab,Aa,Ai,Aa,BO,Aa,AK,Ag]
theorem XA {k key b i j:Nat}{s0:V} (hld:ld h b i (j+0) 1=some [s0]) (es0:∀ {T:Type} (K:Pq->Nat->Nq->Option T),eS 2 s0 K=K a l.length c) (hs:RNodes false h [.sl 2 a l.length c] l F) (hk:k<l.length) (hst:∀ x∈l,Bv x.store=true) (hkey:key<4) (hl:lo<=h.length) (hn1:l.length<=1048576) :
  ∃ v a' c' h',Af lo 275 [.ptr (some (b,(i,j))),Iv (k:Nat),Iv (key:Nat)] h=some (.tup [.agg (Ver.cs v a' c'),.bool true],h')/\Gg l k key=some v/\Mv h [] h' []:=by
 suffices hq:∃ v a' c' h',_=some (V.tup [.agg (Ver.cs v a' c'),.bool true],h')/\Gg l k key=some v/\Mv h [] h' [] from by obtain ⟨v,a',c',h',e,hr⟩:=hq;exact ⟨v,a',c',h',Gc e,hr⟩
 have hql:Bn l k<l.length:=by unfold Bn;split<;>omega
 obtain ⟨o,s1,s2,b1,d1,b2,d2,H1,H2,ha,_,ho1,_,q1,_,p1,_⟩:=hs.get hql;have hs4:=hst _ (zdf hql);have hkl:key<l[Bn l k].store.length:=by rw[Cd hs4];exact hkey
 obtain ⟨o2,t,b3,d3,G,ha2,ho2,es2,pv,_⟩:=p1.get hkl;obtain ⟨a5,c5,h5,F5,e5,r5,m5⟩:=Bu (lo:=lo) (v:=l[Bn l k].store[key]) pv hl ((Kp hs4).2 _ (zdf hkl)).1;have hsh:Gg l k key=some l[Bn l k].store[key]:=by unfold Gg;rw[Dd hql,DZ hkl]
 generalize l[Bn l k].store[key]=v at ho2 es2 pv e5 r5 hsh;generalize l[Bn l k].store.length=n1 at q1 hkl ha2;refine ⟨v,a5,c5,h5,?_,hsh,m5.drop⟩;simp only[Ver.cs] at e5;have hw1:Ah ((k:Nat):Int) 0 ((l.length:Int) - 1)=true:=by simp only[Ah,DH,decide_eq_true_eq];omega
 have hw2:Ah ((key:Nat):Int) 0 3=true:=by simp only[Ah,DH,decide_eq_true_eq];omega
 rw[hld,Ae,Aa,Ag,es0,wr (n:=((l.length:Nat):Int) - 1) (by omega) (by omega),Bk,Ad,Ax,hw1,Aq,KE,Ad,Ax,hw2,Aq];by_cases hk0:k=0
 ·rw[show (((k:Nat):Int)==0)=true by rw[beq_iff_eq];omega,Aq,hld,Ae,Aa,Ag,es0,Ae,Aa,Ag,es0,wr (n:=((l.length:Nat):Int) - 1) (by omega) (by omega)];have hif:(if ((l.length:Nat):Int) - 1<1 then ((l.length:Nat):Int) - 1 else 1)=((Bn l k:Nat):Int):=by
   unfold Bn;by_cases h1:1<l.length
   ·rw[if_neg (by omega),if_pos ⟨hk0,h1⟩];rfl
   ·rw[if_pos (by omega),if_neg (by omega)];omega
  rw[hif,Ac hql,ha,Ae,A7,ho1,Ae,Aa,Ag,q1,Ac hkl,ha2,Ae,A7,ho2,Ae,Aa,Ab,Aa,Ab,Aa,Ab,Aa,es2,Aa,BO,Aa,AK,Ag,e5,Ad,AS,Aa,Ab,Aa,Ab,Aa,Ab,Aa,Ai,Aa,BO,Aa,AK,Ag]
 ·have hsa:Bn l k=k:=by unfold Bn;rw[if_neg (by omega)]
  rw[hsa] at ho1;rw[show (((k:Nat):Int)==0)=false by rw[beq_eq_false_iff_ne];omega,Az,hld,Ae,Aa,Ag,es0,Ac hk,ha,Ae,A7,ho1,Ae,Aa,Ag,q1,Ac hkl,ha2,Ae,A7,ho2,Ae,Aa,Ab,Aa,Ab,Aa,Ab,Aa,es2,Aa,BO,Aa,AK,Ag,e5,Ad,AS,Aa,Ab,Aa,Ab,Aa,Ab,Aa,Ai,Aa,BO,Aa,AK,Ag]
end


variable {k:Int}
structure Roomy (p:Place):Prop where
 seen:∃ U:List Tag,U.length<=54/\(∀ v∈p.log,v.tag∈U)/\∀ v,inCh p.chain v->0<v.tag.time->v.tag.place=p.me->v.tag∈U
 told:∀ v∈Eu p.chain,0<v.tag.time->v.tag.place=p.me->CB p.log v.tag=true
theorem TJ {α:Type} [DecidableEq α]:∀ {a U:List α},a.Nodup->(∀ x∈a,x∈U)->a.length<=U.length
 | [],U,_,_=>zd4 _
 | x :: a,U,hn,hs=>by
  rw[zdn] at hn;have h1:=hs x (by simp);have h2:=TJ (a:=a) (U:=U.erase x) hn.2 λy hy=>(List.mem_erase_of_ne (λe=>hn.1 (by rw[<- e];exact hy))).2 (hs y (by simp[hy]))
  rw[List.length_erase_of_mem h1] at h2;have:=List.length_pos_of_mem h1;simp only[zd7];omega
section
variable {p:Place}
theorem Zf {m:Int}{l:List Ver} (h:I7 m l=true):(l.map λv=>v.tag).Nodup:=by
 obtain ⟨_,h2⟩:=Hn h;unfold List.Nodup;rw[List.pairwise_map,List.pairwise_iff_getElem];intro i j hi hj hij e;have h3:=(h2 j hj).2.2;have:CB (l.take j) l[j].tag=true:=hasTag_mem.2 ⟨l[i],by
  rw[zea];exact ⟨i,by simp;omega,by simp⟩,e⟩
 rw[h3] at this;cases this
theorem Roomy.len (h:Roomy p) (hp:Av p=true):p.log.length<=54:=by
 obtain ⟨U,h1,h2,_⟩:=h.seen;have:=TJ (U:=U) (Zf (AL hp).2.2.2.2.2.1) (λt ht=>by
  obtain ⟨v,hv,rfl⟩:=zeZ.1 ht;exact h2 v hv)
 simp only[zez] at this;omega
theorem VZ {m:Int}:∀ {vs l:List Ver},∀ v∈vs.foldl (noted m) l,v∈l\/(v∈vs/\0<v.tag.time/\v.tag.place=m)
 | [],l,v,hv => .inl hv
 | x :: vs,l,v,hv=>by
  rw[zd6] at hv;rcases VZ v hv with g | ⟨g1,g2⟩
  ·unfold noted at g;cases hc:(decide (x.tag.time>0)&&(x.tag.place==m && !CB l x.tag)) with
   | false=>rw[hc] at g;exact .inl g
   | true =>
    rw[hc,cond_true] at g;simp only[DH,decide_eq_true_eq,beq_iff_eq] at hc;rcases zde.1 g with g | g
    ·exact .inl g
    ·rw[zdJ] at g;subst g;exact .inr ⟨by simp,hc.1,hc.2.1⟩
  ·exact .inr ⟨by simp[g1],g2⟩
theorem Kt (h:Ch p.chain) (hs:∃ U:List Tag,U.length<=54/\(∀ v∈p.log,v.tag∈U)/\∀ v,inCh p.chain v->0<v.tag.time->v.tag.place=p.me->v.tag∈U):Roomy (BL p):=by
 obtain ⟨U,h1,h2,h3⟩:=hs;refine ⟨⟨U,h1,λv hv=>?_,h3⟩,λv hv ht hp=>?_⟩
 ·rcases VZ v hv with g | ⟨g1,g2,g3⟩
  ·exact h2 v g
  ·obtain ⟨z,hz,hi⟩:=h.tail;rw[IQ hz hi] at g1;exact h3 v (.of hz (.inl g1)) g2 g3
 ·exact (Ot (vs:=Eu p.chain) (l:=p.log)).1 v hv ht hp
theorem Xf (h:Roomy p) (hp:Av p=true):Roomy (KR p):=by
 have hc:=I2 hp;unfold KR IG;cases Eg p.chain with
 | false=>exact h
 | true =>rw[cond_true];obtain ⟨U,h1,h2,h3⟩:=h.seen;exact ⟨⟨U,h1,h2,λv hv=>h3 v (TY hc.pos hv)⟩,λv hv=>h.told v (by rw[<- (TT hc).2.2.1];exact hv)⟩
theorem Xh (h:Roomy p) (hp:Av p=true):Roomy (Dx p k):=by
 have hc:=I2 hp;unfold Dx;cases hf:CI p k with
 | false=>exact h
 | true =>unfold CI at hf;rw[DH] at hf;obtain ⟨f,rfl,g1,g2⟩:=RL hf.2;obtain ⟨U,h1,h2,h3⟩:=h.seen;rw[cond_true,A7];exact Kt (p:=Ml p f) (hc.fall g1 g2) ⟨U,h1,h2,λv hv=>h3 v (TZ g1 hv)⟩
theorem Xe (h:Roomy p) (hp:Av p=true):Roomy (Er p k):=by
 have hc:=I2 hp;unfold Er;cases hf:Bw p.chain k with
 | false=>exact h
 | true =>obtain ⟨U,h1,h2,h3⟩:=h.seen;rw[cond_true];exact Kt (p:=Jr p k.toNat) (hc.pass hf) ⟨U,h1,h2,λv hv=>h3 v (TX hf hv)⟩
theorem Xd (h:Roomy p) (hp:Av p=true):Roomy (Dw p k):=by
 have hc:=I2 hp;unfold Dw;cases hk:Co p k with
 | false=>exact h
 | true =>
  rw[cond_true];unfold Co at hk;rw[DH] at hk;have hk:=hk.2;unfold JY at hk;unfold Md;cases hv:KC p k.toNat with
  | none=>exact h
  | some v =>
   rw[hv] at hk;simp only[DH] at hk;obtain ⟨v1,v2,v3,v4⟩:=V7 hp hv;obtain ⟨U,h1,h2,h3⟩:=h.seen;refine Kt (p:=Fe p 0 (FH v.tag.time p.clock) v) (hc.add v1 hk.1) ⟨U,h1,h2,λw hw ht hm=>?_⟩;rcases Nz hw with g | rfl
   ·exact h3 w g ht hm
   ·exact absurd (v2.symm.trans hm) v3
theorem Xg {f a:Int}{v:Ver} (h:Roomy p):Roomy (Ed p f a v):=by
 unfold Ed;cases Ez p f a v with
 | false=>exact h
 | true=>exact ⟨h.seen,h.told⟩
theorem MZ {l:List Node}{v:Ver} (h:Ch l):∀ (d i:Nat) (x:Node),i+d+1=l.length->l[i]?=some x->v∈x.store->(∃ (j:Nat) (y:Node),l[j]?=some y/\j+1<l.length/\v∈y.wait)\/v∈Eu l
 | 0,i,x,hd,hx,hv=>by rw[IQ hx (by omega)];exact .inr hv
 | d+1,i,x,hd,hx,hv=>by
  have hy:=DZ (l:=l) (i:=i+1) (by omega);rcases T9 (h.link i x _ hx hy) v hv with g | g
  ·exact .inl ⟨i,x,hx,by omega,g⟩
  ·exact MZ h d (i+1) _ (by omega) hy g
theorem Tn:∀ {l:List Node},(∀ x∈l,x.wait.length<=6)->(l.flatMap λx=>x.wait).length<=6*l.length
 | [],_=>by simp
 | x :: l,h=>by have h1:=h x (by simp);have h2:=Tn (l:=l) λy hy=>h y (by simp[hy]);simp only[List.flatMap_cons,zdy,zd7];omega
theorem VP {s:ByteArray}{g:Bool}{l:List Tag} (h:Roomy p) (hp:Av p=true):Roomy (En p k s g l).1:=by
 have hc:=I2 hp;rw[MY hp];cases hw:A0 p k s g l with
 | false=>exact h
 | true =>
  obtain ⟨h1,h2,h3,h4,h5,h6,h7,h8⟩:=Hy hw;have hv:=TL hp hw;refine Kt (p:=Fe p 0 (AI p l) (DX p k s g l)) (hc.add hv h6) ⟨(p.log++(p.chain.dropLast.flatMap λx=>x.wait)).map (λv=>v.tag) ++ [⟨AI p l,p.me⟩],?_,λv hv=>?_,λv hv ht hm=>?_⟩
  ·have hd:∀ x∈p.chain.dropLast,x.wait.length<=6:=λx hx=>by obtain ⟨i,hi⟩:=zdA.1 ((List.dropLast_sublist _).mem hx);exact (Bo (hc.node i x hi)).2.1
   have:=Tn hd;have h4:=hc.le;simp only[zdy,zez,List.length_dropLast,zd2] at this ⊢;omega
  ·refine zdQ _ (zeZ.2 ⟨v,zdQ _ hv,rfl⟩)
  ·have old:inCh p.chain v->v.tag∈(p.log++(p.chain.dropLast.flatMap λx=>x.wait)).map (λv=>v.tag):=λhi=>by
    have fin:(∃ (j:Nat) (y:Node),p.chain[j]?=some y/\j+1<p.chain.length/\v∈y.wait)\/v∈Eu p.chain:=by
     obtain ⟨i,x,hx,q | q⟩:=hi.get
     ·have hlt:=(DY hx).1;exact MZ hc (p.chain.length - 1 - i) i x (by omega) hx q
     ·have hlt:=(DY hx).1;by_cases he:i+1=p.chain.length
      ·rw[hc.last i x hx he] at q;simp at q
      ·exact .inl ⟨i,x,hx,by omega,q⟩
    rcases fin with ⟨j,y,hj,hjl,q⟩ | q
    ·refine zeZ.2 ⟨v,zef _ (List.mem_flatMap.2 ⟨y,?_,q⟩),rfl⟩;rw[zdA];exact ⟨j,by rw[List.getElem?_dropLast,if_pos (by omega)];exact hj⟩
    ·obtain ⟨u,hu,e⟩:=hasTag_mem.1 (h.told v q ht hm);exact zeZ.2 ⟨u,zdQ _ hu,e⟩
   rcases Nz hv with q | rfl
   ·exact zdQ _ (old q)
   ·exact zef _ (by simp[DX])
end
def L1 (l:List Place) (f:Frame):Prop:=(0<=f.fro/\f.fro<=2)/\(0<=f.to/\f.to<=2)/\f.fro≠f.to/\0<=f.at'/\(GI l f.fro.toNat)[f.at'.toNat]?=some f.ver
structure Wd (w:World):Prop where
 p3:w.places.length=3
 s4:w.sess.length<=4
 n12:w.net.length<=12
 h80:w.hist.length<=80
 place:∀ (i:Nat) (p:Place),w.places[i]?=some p->p.me=(i:Int)/\Av p=true
 sess:∀ s∈w.sess,GB s=true
 net:∀ f∈w.net,L1 w.places f
 hist:∀ d∈w.hist,RU d=true
 heard:∀ (i:Nat) (p:Place) (k:Nat) (g:List Ver),w.places[i]?=some p->p.got[k]?=some g->∃ r,GI w.places k=g++r
theorem Yk {l:List Place}{k:Nat}{p q:Place} (hp:l[k]?=some p) (hlog:∃ r,q.log=p.log++r) (j:Nat):∃ r,GI (l.set k q) j=GI l j++r:=by
 unfold GI;by_cases hj:k=j
 ·subst hj;rw[zdr (DY hp).1,hp];exact hlog
 ·rw[zdi hj];exact ⟨[],by simp⟩
section
variable {w:World}
theorem Wd.setP (h:Wd w) {k:Nat}{p q:Place} (hp:w.places[k]?=some p) (hq:Av q=true) (hm:q.me=p.me) (hlog:∃ r,q.log=p.log++r)
  (hgot:∀ (i:Nat) (g:List Ver),q.got[i]?=some g->p.got[i]?=some g\/∃ r,GI w.places i=g++r):Wd ⟨w.places.set k q,w.sess,w.net,w.hist⟩:=by
 have hk:=(DY hp).1;refine ⟨by simpa using h.p3,h.s4,h.n12,h.h80,λi x hx=>?_,h.sess,λf hf=>?_,h.hist,λi x j g hx hg=>?_⟩
 ·by_cases hi:k=i
  ·subst hi;simp only[zdr hk,Option.some.injEq] at hx;subst hx;exact ⟨hm.trans (h.place k p hp).1,hq⟩
  ·simp only[zdi hi] at hx;exact h.place i x hx
 ·obtain ⟨h1,h2,h3,h4,h5⟩:=h.net f hf;obtain ⟨r,hr⟩:=Yk hp hlog f.fro.toNat;refine ⟨h1,h2,h3,h4,?_⟩;show (GI (w.places.set k q) f.fro.toNat)[f.at'.toNat]?=some f.ver;rw[hr,zdl (DY h5).1];exact h5
 ·obtain ⟨r,hr⟩:=Yk hp hlog j;show ∃ r,GI (w.places.set k q) j=g++r;have old:(∃ r,GI w.places j=g++r)->∃ r,GI (w.places.set k q) j=g++r:=λ⟨r',hr'⟩=>⟨r'++r,by rw[hr,hr',zdv]⟩
  by_cases hi:k=i
  ·subst hi;simp only[zdr hk,Option.some.injEq] at hx;subst hx;rcases hgot j g hg with g1 | g1
   ·exact old (h.heard k p j g hp g1)
   ·exact old g1
  ·simp only[zdi hi] at hx;exact old (h.heard i x j g hx hg)
theorem Wd.putS (h:Wd w) {i:Nat}{s:Sess} (hs:GB s=true):Wd ⟨w.places,w.sess.set i s,w.net,w.hist⟩ :=
 ⟨h.p3,by simpa using h.s4,h.n12,h.h80,h.place,λx hx=>(zdE hx).elim (h.sess x) λe=>e ▸ hs,h.net,h.hist,h.heard⟩
theorem Wd.addH (h:Wd w) {ds:List Done} (hd:∀ d∈ds,RU d=true) (hl:w.hist.length+ds.length<=80):Wd ⟨w.places,w.sess,w.net,w.hist++ds⟩ :=
 ⟨h.p3,h.s4,h.n12,by simpa using hl,h.place,h.sess,h.net,λx hx=>(zde.1 hx).elim (h.hist x) (hd x),h.heard⟩
theorem Wd.netN (h:Wd w) {l:List Frame} (hl:l.length<=12) (hf:∀ f∈l,L1 w.places f):Wd ⟨w.places,w.sess,l,w.hist⟩ :=
 ⟨h.p3,h.s4,hl,h.h80,h.place,h.sess,hf,h.hist,h.heard⟩
end


variable {p:Place}{k:Nat}{l:List Node}{v:Ver}{s:Sess}{i:Nat}
structure Event where
 kind:Int
 at':Int
 num:Int
 key:Int
 text:ByteArray
 gone:Bool
abbrev Event.cs (e:Event):List V := [Iv e.kind,Iv e.at',Iv e.num,Iv e.key,.str e.text,.bool e.gone]
def DV (a b:Tag):Bool:=Hb a.time a.place b.time b.place
def FI (a b:Tag):Tag:=bif DV a b then b else a
def ET (p:List Tag) (k:Nat) (t:Tag):List Tag:=match p[k]? with
 | some x=>p.set k (FI x t)
 | none=>p
def DO (p q:List Tag):List Tag:=List.zipWith FI p q
def setS (w:World) (i:Nat) (s:Sess) (ds:List Done):World:=⟨w.places,w.sess.set i s,w.net,w.hist++ds⟩
def setP (w:World) (k:Nat) (p:Place):World:=⟨w.places.set k p,w.sess,w.net,w.hist⟩
def setN (w:World) (l:List Frame):World:=⟨w.places,w.sess,l,w.hist⟩
def Db (w:World) (n:Int):Bool:=decide ((w.hist.length:Int)+n<=80)
def Eh (w:World) (i:Nat) (s:Sess) (e:Event):Option World:=match w.places[s.place.toNat]? with
 | some p=>bif !decide (s.wait.time>0)&&(A0 p e.key e.text e.gone s.past&&Db w 1) then
   some (setS (setP w s.place.toNat (En p e.key e.text e.gone s.past).1) i ⟨s.place,s.past,(En p e.key e.text e.gone s.past).2,e.key⟩ [⟨i,1,e.key,(En p e.key e.text e.gone s.past).2⟩]) else none
 | none=>none
def Jn (w:World) (i:Nat) (s:Sess):Option World:=match w.places[s.place.toNat]? with
 | some p=>match Gg p.chain 0 s.key.toNat,(Ey p.chain)[s.key.toNat]? with
  | some v,some u=>bif decide (s.wait.time>0) then
    (bif DV v.tag s.wait then (bif DV u.tag s.wait then some (setS w i ⟨s.place,s.past,⟨0,0⟩,0⟩ []) else none)
    else (bif Db w 1 then some (setS w i ⟨s.place,ET s.past s.key.toNat s.wait,⟨0,0⟩,0⟩ [⟨i,3,s.key,s.wait⟩]) else none)) else none
  | _,_=>none
 | none=>none
def Nk (s:Sess) (v:Ver) (k:Nat):List Tag:=bif decide (v.tag.time>0) then ET (DO s.past v.past) k v.tag else s.past
def Gj (w:World) (i:Nat) (s:Sess) (e:Event):Option World:=match w.places[s.place.toNat]? with
 | some p=>bif !decide (s.wait.time>0)&&(Ah e.key 0 3&&(Ah e.num 0 ((p.chain.length:Int) - 1)&&Db w 1)) then
   (match Gg p.chain e.num.toNat e.key.toNat,s.past[e.key.toNat]? with
   | some v,some t=>bif DV v.tag t then none else some (setS w i ⟨s.place,Nk s v e.key.toNat,s.wait,s.key⟩ [⟨i,2,e.key,v.tag⟩])
   | _,_=>none) else none
 | none=>none
def BP (i:Nat) (l:List Tag):List Done:=l.zipIdx.map λx=>⟨i,2,(x.2:Int),x.1⟩
def JU (w:World) (i:Nat) (s:Sess):Option World:=match w.places[s.place.toNat]? with
 | some p=>bif !decide (s.wait.time>0)&&(CD s.past (Bs p.chain)&&Db w 4) then some (setS w i ⟨s.place,Bs p.chain,s.wait,s.key⟩ (BP i (Bs p.chain))) else none
 | none=>none
def TM (w:World) (i:Nat) (s:Sess) (e:Event):Option World:=bif !decide (s.wait.time>0)&&Ah e.num 0 2 then some (setS w i ⟨e.num,s.past,s.wait,s.key⟩ []) else none
def Ef (w:World) (e:Event):Option World:=bif Ah e.at' 0 ((w.sess.length:Int) - 1) then
 (match w.sess[e.at'.toNat]? with
 | some s=>bif e.kind==1 then Eh w e.at'.toNat s e else bif e.kind==2 then Jn w e.at'.toNat s else bif e.kind==3 then Gj w e.at'.toNat s e else bif e.kind==4 then JU w e.at'.toNat s else TM w e.at'.toNat s e
 | none=>none) else none
def DG (p:Place) (e:Event):Option Place:=bif e.kind==6 then (bif Bw p.chain e.num then some (Er p e.num) else none) else
 bif e.kind==7 then (bif CI p e.num then some (Dx p e.num) else none) else
 bif e.kind==8 then (bif Eg p.chain then some (KR p) else none) else (bif Co p e.num then some (Dw p e.num) else none)
def GD (w:World) (e:Event):Option World:=bif Ah e.at' 0 2 then
 (match w.places[e.at'.toNat]? with
 | some p=>(DG p e).map (setP w e.at'.toNat)
 | none=>none) else none
def Ps (w:World) (e:Event):Option World:=bif Ah e.at' 0 2&&(Ah e.num 0 2&&(!(e.at'==e.num)&&(decide ((w.net.length:Int)<12)&&Ah e.key 0 (((GI w.places e.at'.toNat).length:Int) - 1)))) then
 (match (GI w.places e.at'.toNat)[e.key.toNat]? with
 | some v=>some (setN w (w.net ++ [⟨e.at',e.num,e.key,v⟩]))
 | none=>none) else none
def Mk (w:World) (f:Frame):World:=match w.places[f.to.toNat]? with
 | some p=>setP w f.to.toNat (Ed p f.fro f.at' f.ver)
 | none=>w
def Jd (w:World) (e:Event):Option World:=bif Ah e.at' 0 ((w.net.length:Int) - 1) then
 (match w.net[e.at'.toNat]? with
 | some f=>some (bif e.kind==12 then setN w (w.net.eraseIdx e.at'.toNat) else bif e.kind==13 then Mk w f else Mk (setN w (w.net.eraseIdx e.at'.toNat)) f)
 | none=>none) else none
def He (w:World) (e:Event):Option World:=bif Ah e.kind 1 5 then Ef w e else bif Ah e.kind 6 9 then GD w e else bif e.kind==10 then Ps w e else bif Ah e.kind 11 13 then Jd w e else none
def zco (w:World) (e:Event):World:=(He w e).getD w
structure Good (w:World):Prop where
 ok:Wd w
 room:∀ p∈w.places,Roomy p
theorem pastOk_iff {p:List Tag}:Ck p=true<->p.length=4/\∀ t∈p,CY t.time t.place=true:=by simp only[Ck,DH,decide_eq_true_eq,zdz]
theorem Yh {a b:Tag} (ha:CY a.time a.place=true) (hb:CY b.time b.place=true):CY (FI a b).time (FI a b).place=true:=by
 unfold FI;cases DV a b
 ·exact ha
 ·exact hb
theorem Vv {p:List Tag}{t:Tag} (hp:Ck p=true) (ht:CY t.time t.place=true):Ck (ET p k t)=true:=by
 rw[pastOk_iff] at hp;unfold ET;cases hx:p[k]? with
 | none=>exact pastOk_iff.2 hp
 | some x =>
  refine pastOk_iff.2 ⟨by simpa using hp.1,λy hy=>?_⟩;rcases zdE hy with hy | rfl
  ·exact hp.2 y hy
  ·exact Yh (hp.2 x (zdt hx)) ht
theorem zau {p q:List Tag} (hp:Ck p=true) (hq:Ck q=true):Ck (DO p q)=true:=by rw[pastOk_iff] at hp hq;refine pastOk_iff.2 ⟨by unfold DO;rw[zeV];omega,λy hy=>?_⟩;unfold DO at hy;obtain ⟨i,hi,rfl⟩:=zea.1 hy;rw[List.getElem_zipWith];exact Yh (hp.2 _ (zdf _)) (hq.2 _ (zdf _))
theorem Pl (h:Ch l):Ck (Bs l)=true:=by refine pastOk_iff.2 ⟨h.four.1,λt ht=>?_⟩;obtain ⟨z,hz,hi⟩:=h.tail;rw[DK hz hi] at ht;unfold Bi at ht;obtain ⟨v,hv,rfl⟩:=zeZ.1 ht;obtain ⟨i,hi⟩:=zdA.1 hv;exact OU (J0 (h.store hz).1 hi)
theorem Z5 {key:Nat} (h:Ch l) (hv:Gg l k key=some v):∃ (i:Nat) (x:Node),l[i]?=some x/\x.store[key]?=some v:=by
 unfold Gg GA at hv;cases hx:l[Bn l k]? with
 | none=>rw[hx] at hv;simp at hv
 | some x=>rw[hx] at hv;exact ⟨_,x,hx,hv⟩
theorem VL {key:Nat} (h:Ch l) (hv:Gg l k key=some v):KY key v=true:=by obtain ⟨i,x,hx,hv⟩:=Z5 h hv;exact J0 (h.store hx).1 hv
theorem BD (h:GB s=true):(0<=s.place/\s.place<=2)/\Ck s.past=true/\CY s.wait.time s.wait.place=true/\(0<=s.key/\s.key<=3)/\(0<s.wait.time\/s.key=0)/\(s.wait.time=0\/s.wait.place=s.place):=by unfold GB at h;simp only[DH,zd5,decide_eq_true_eq,beq_iff_eq,Ah] at h;obtain ⟨⟨⟨⟨⟨h1,h2⟩,h3⟩,h4⟩,h5⟩,h6⟩:=h;exact ⟨h1,h2,h3,h4,h5,h6⟩
theorem LN (h1:0<=s.place/\s.place<=2) (h2:Ck s.past=true) (h3:CY s.wait.time s.wait.place=true) (h4:0<=s.key/\s.key<=3) (h5:0<s.wait.time\/s.key=0) (h6:s.wait.time=0\/s.wait.place=s.place):GB s=true:=by unfold GB;simp only[DH,zd5,decide_eq_true_eq,beq_iff_eq,Ah];exact ⟨⟨⟨⟨⟨h1,h2⟩,h3⟩,h4⟩,h5⟩,h6⟩
theorem Qv {d:Done} (h1:0<=d.sess/\d.sess<=3) (h2:1<=d.kind/\d.kind<=3) (h3:0<=d.key/\d.key<=3) (h4:CY d.tag.time d.tag.place=true) (h5:d.kind=2\/0<d.tag.time):RU d=true:=by unfold RU;simp only[DH,zd5,decide_eq_true_eq,beq_iff_eq,Ah];exact ⟨⟨⟨⟨h1,h2⟩,h3⟩,h4⟩,h5⟩
theorem Np:∃ r,(BL p).log=p.log++r:=(Ot (vs:=Eu p.chain) (l:=p.log)).2
section
variable {w w':World}
theorem Good.setP (h:Good w) {k:Nat}{p q:Place} (hp:w.places[k]?=some p) (hq:Av q=true) (hr:Roomy q) (hm:q.me=p.me) (hlog:∃ r,q.log=p.log++r)
  (hgot:∀ (i:Nat) (g:List Ver),q.got[i]?=some g->p.got[i]?=some g\/∃ r,GI w.places i=g++r):Good (Go.Proofs.YtmgopagfoemomaaGreat.setP w k q) :=
 ⟨h.ok.setP hp hq hm hlog hgot,λx hx=>(zdE hx).elim (h.room x) λe=>e ▸ hr⟩
theorem Good.setS (h:Good w) {i:Nat}{s:Sess}{ds:List Done} (hs:GB s=true) (hd:∀ d∈ds,RU d=true) (hl:(w.hist.length:Int)+ds.length<=80):Good (Go.Proofs.YtmgopagfoemomaaGreat.setS w i s ds) :=
 ⟨(h.ok.putS (i:=i) hs).addH hd (by show w.hist.length+ds.length<=80;omega),h.room⟩
theorem Good.setN (h:Good w) {l:List Frame} (hl:l.length<=12) (hf:∀ f∈l,L1 w.places f):Good (Go.Proofs.YtmgopagfoemomaaGreat.setN w l):=⟨h.ok.netN hl hf,h.room⟩
theorem Tm {k:Int}{s:ByteArray}{g:Bool}{l:List Tag} (hp:Av p=true) (hc:A0 p k s g l=true):En p k s g l=(BL (Fe p 0 (AI p l) (DX p k s g l)),⟨AI p l,p.me⟩):=by rw[MY hp,hc,cond_true]
theorem XI (h:Good w) {e:Event} (hi:i<w.sess.length) (hs:GB s=true) (he:Eh w i s e=some w'):Good w':=by
 have h4:=h.ok.s4;unfold Eh at he;split at he
 ·rename_i p hp
  cases hc:(!decide (s.wait.time>0)&&(A0 p e.key e.text e.gone s.past&&Db w 1)) with
  | false=>rw[hc] at he;cases he
  | true =>
   rw[hc,cond_true] at he;injection he with he;simp only[DH,Db,decide_eq_true_eq] at hc;obtain ⟨_,hc,hh⟩:=hc;obtain ⟨hme,hpo⟩:=h.ok.place _ p hp;have hr:=h.room p (zdt hp);obtain ⟨s1,s2,s3,s4,s5,s6⟩:=BD hs;obtain ⟨q1,q2,q3,q4,q5,q6,q7,q8⟩:=Hy hc;have ht:=LJ hpo s2;have hw:=Tm hpo hc;have g1:Good (Go.Proofs.YtmgopagfoemomaaGreat.setP w s.place.toNat (En p e.key e.text e.gone s.past).1):=h.setP hp (zad hpo) (VP hr hpo) (by rw[hw];rfl) (by rw[hw];exact Np) (λj g hg=>by rw[hw] at hg;exact .inl hg);have ht1:CY (AI p s.past) p.me=true:=by simp[CY,Ah];omega
   rw[<- he];refine g1.setS ?_ ?_ (by simp only[zd2];exact hh)
   ·rw[hw];exact LN s1 s2 ht1 q1 (.inl (by show 0<AI p s.past;omega)) (.inr (by show p.me=s.place;omega))
   ·intro d hd;rw[zdJ] at hd;subst hd;rw[hw];exact Qv (by show (0:Int)<=(i:Int)/\(i:Int)<=3;omega) (by show (1:Int)<=1/\(1:Int)<=3;decide) q1 ht1 (.inr (by show 0<AI p s.past;omega))
 ·cases he
theorem zaC (h:Good w) (hi:i<w.sess.length) (hs:GB s=true) (he:Jn w i s=some w'):Good w':=by
 have h4:=h.ok.s4;have h8:=h.ok.h80;obtain ⟨s1,s2,s3,s4,s5,s6⟩:=BD hs;unfold Jn at he;split at he
 ·rename_i p hp
  split at he
  ·rename_i v u hv hu
   cases hc:decide (s.wait.time>0) with
   | false=>rw[hc] at he;cases he
   | true =>
    rw[hc,cond_true] at he;cases hl:DV v.tag s.wait with
    | true =>
     rw[hl,cond_true] at he;cases hl2:DV u.tag s.wait with
     | false=>rw[hl2] at he;cases he
     | true =>rw[hl2,cond_true] at he;injection he with he;rw[<- he];exact h.setS (LN s1 s2 rfl (by show (0:Int)<=0/\(0:Int)<=3;decide) (.inr rfl) (.inl rfl)) (by simp) (by simp only[zet];omega)
    | false =>
     rw[hl,cond_false] at he;cases hr:Db w 1 with
     | false=>rw[hr] at he;cases he
     | true =>rw[hr,cond_true] at he;injection he with he;rw[<- he];unfold Db at hr;refine h.setS (LN s1 (Vv s2 s3) rfl (by show (0:Int)<=0/\(0:Int)<=3;decide) (.inr rfl) (.inl rfl)) (λd hd=>?_) (by simp only[zd2];exact of_decide_eq_true hr);rw[zdJ] at hd;subst hd;exact Qv (by show (0:Int)<=(i:Int)/\(i:Int)<=3;omega) (by show (1:Int)<=3/\(3:Int)<=3;decide) s4 s3 (.inr (of_decide_eq_true hc))
  ·cases he
 ·cases he
theorem Z9 (hs:Ck s.past=true) (hv:KY k v=true):Ck (Nk s v k)=true:=by
 unfold Nk;cases ht:decide (v.tag.time>0) with
 | false=>exact hs
 | true =>
  have ht:=of_decide_eq_true ht;rcases D8 hv with g | g
  ·have:=(Ge g).1;omega
  ·have hp:=Bx g.1;exact Vv (zau hs hp.2.2.2.1) hp.2.2.2.2.1
theorem Zu (h:Good w) {e:Event} (hi:i<w.sess.length) (hs:GB s=true) (he:Gj w i s e=some w'):Good w':=by
 have h4:=h.ok.s4;obtain ⟨s1,s2,s3,s4,s5,s6⟩:=BD hs;unfold Gj at he;split at he
 ·rename_i p hp
  cases hc:(!decide (s.wait.time>0)&&(Ah e.key 0 3&&(Ah e.num 0 ((p.chain.length:Int) - 1)&&Db w 1))) with
  | false=>rw[hc] at he;cases he
  | true =>
   rw[hc,cond_true] at he;simp only[DH,Db,Ah,decide_eq_true_eq] at hc;obtain ⟨_,hk,_,hr⟩:=hc;split at he
   ·rename_i v t hv ht
    cases hl:DV v.tag t with
    | true=>rw[hl] at he;cases he
    | false =>rw[hl,cond_false] at he;injection he with he;rw[<- he];have hc:=I2 (h.ok.place _ p hp).2;have hva:=VL hc hv;refine h.setS (LN s1 (Z9 s2 hva) s3 s4 s5 s6) (λd hd=>?_) (by simp only[zd2];exact hr);rw[zdJ] at hd;subst hd;exact Qv (by show (0:Int)<=(i:Int)/\(i:Int)<=3;omega) (by show (1:Int)<=2/\(2:Int)<=3;decide) hk (OU hva) (.inl rfl)
   ·cases he
 ·cases he
theorem zaD (h:Good w) (hi:i<w.sess.length) (hs:GB s=true) (he:JU w i s=some w'):Good w':=by
 have h4:=h.ok.s4;obtain ⟨s1,s2,s3,s4,s5,s6⟩:=BD hs;unfold JU at he;split at he
 ·rename_i p hp
  cases hc:(!decide (s.wait.time>0)&&(CD s.past (Bs p.chain)&&Db w 4)) with
  | false=>rw[hc] at he;cases he
  | true =>rw[hc,cond_true] at he;injection he with he;rw[<- he];simp only[DH,Db,decide_eq_true_eq] at hc;have hch:=I2 (h.ok.place _ p hp).2;have hst:=Pl hch;refine h.setS (LN s1 hst s3 s4 s5 s6) (λd hd=>?_) (by unfold BP;rw[zez,List.length_zipIdx,hch.four.1];exact hc.2.2);unfold BP at hd;obtain ⟨⟨t,k⟩,hx,rfl⟩:=zeZ.1 hd;rw[zek] at hx;have hk:=(DY hx).1;rw[hch.four.1] at hk;simp only at hk;exact Qv (by show (0:Int)<=(i:Int)/\(i:Int)<=3;omega) (by show (1:Int)<=2/\(2:Int)<=3;decide) (by show (0:Int)<=(k:Int)/\(k:Int)<=3;omega) ((pastOk_iff.1 hst).2 t (zdt hx)) (.inl rfl)
 ·cases he
theorem Zv (h:Good w) {e:Event} (hs:GB s=true) (he:TM w i s e=some w'):Good w':=by
 obtain ⟨s1,s2,s3,s4,s5,s6⟩:=BD hs;unfold TM at he;cases hc:(!decide (s.wait.time>0)&&Ah e.num 0 2) with
 | false=>rw[hc] at he;cases he
 | true =>rw[hc,cond_true] at he;injection he with he;rw[<- he];simp only[DH,Ah,decide_eq_true_eq,zdV,decide_eq_false_iff_not] at hc;have:=IU s3;exact h.setS (LN hc.2 s2 s3 s4 s5 (.inl (by show s.wait.time=0;omega))) (by simp) (by simp only[zet];have:=h.ok.h80;omega)
theorem Wn (h:Good w) {e:Event} (he:Ef w e=some w'):Good w':=by
 unfold Ef at he;cases hc:Ah e.at' 0 ((w.sess.length:Int) - 1) with
 | false=>rw[hc] at he;cases he
 | true =>
  rw[hc,cond_true] at he;split at he
  ·rename_i s hs
   have hi:=(DY hs).1;have hso:=h.ok.sess s (zdt hs);cases h1:e.kind==1 with
   | true=>rw[h1,cond_true] at he;exact XI h hi hso he
   | false =>
    rw[h1,cond_false] at he;cases h2:e.kind==2 with
    | true=>rw[h2,cond_true] at he;exact zaC h hi hso he
    | false =>
     rw[h2,cond_false] at he;cases h3:e.kind==3 with
     | true=>rw[h3,cond_true] at he;exact Zu h hi hso he
     | false =>
      rw[h3,cond_false] at he;cases h4:e.kind==4 with
      | true=>rw[h4,cond_true] at he;exact zaD h hi hso he
      | false=>rw[h4,cond_false] at he;exact Zv h hso he
  ·cases he
theorem Z1 {q:Place}{e:Event} (h:DG p e=some q):q.me=p.me/\q.got=p.got/\∃ r,q.log=p.log++r:=by
 unfold DG at h;have nil:∃ r,p.log=p.log++r:=⟨[],by simp⟩;cases h1:e.kind==6 with
 | true =>
  rw[h1,cond_true] at h;cases hc:Bw p.chain e.num with
  | false=>rw[hc] at h;cases h
  | true =>rw[hc,cond_true] at h;injection h with h;rw[<- h];unfold Er;rw[hc,cond_true];exact ⟨rfl,rfl,Np⟩
 | false =>
  rw[h1,cond_false] at h;cases h2:e.kind==7 with
  | true =>
   rw[h2,cond_true] at h;cases hc:CI p e.num with
   | false=>rw[hc] at h;cases h
   | true =>rw[hc,cond_true] at h;injection h with h;rw[<- h];unfold Dx;rw[hc,cond_true];exact ⟨rfl,rfl,Np⟩
  | false =>
   rw[h2,cond_false] at h;cases h3:e.kind==8 with
   | true =>
    rw[h3,cond_true] at h;cases hc:Eg p.chain with
    | false=>rw[hc] at h;cases h
    | true =>rw[hc,cond_true] at h;injection h with h;rw[<- h];exact ⟨rfl,rfl,nil⟩
   | false =>
    rw[h3,cond_false] at h;cases hc:Co p e.num with
    | false=>rw[hc] at h;cases h
    | true =>
     rw[hc,cond_true] at h;injection h with h;rw[<- h];unfold Dw;rw[hc,cond_true];unfold Md;split
     ·exact ⟨rfl,rfl,Np⟩
     ·exact ⟨rfl,rfl,nil⟩
theorem zbn {q:Place}{e:Event} (hp:Av p=true) (hl:p.log.length<=56) (h:DG p e=some q):Av q=true/\(Roomy p->Roomy q):=by
 unfold DG at h;cases h1:e.kind==6 with
 | true =>
  rw[h1,cond_true] at h;cases hc:Bw p.chain e.num with
  | false=>rw[hc] at h;cases h
  | true =>rw[hc,cond_true] at h;injection h with h;rw[<- h];exact ⟨zbx hp hl,λhr=>Xe hr hp⟩
 | false =>
  rw[h1,cond_false] at h;cases h2:e.kind==7 with
  | true =>
   rw[h2,cond_true] at h;cases hc:CI p e.num with
   | false=>rw[hc] at h;cases h
   | true =>rw[hc,cond_true] at h;injection h with h;rw[<- h];exact ⟨zbA hp hl,λhr=>Xh hr hp⟩
  | false =>
   rw[h2,cond_false] at h;cases h3:e.kind==8 with
   | true =>
    rw[h3,cond_true] at h;cases hc:Eg p.chain with
    | false=>rw[hc] at h;cases h
    | true =>rw[hc,cond_true] at h;injection h with h;rw[<- h];exact ⟨zby hp,λhr=>Xf hr hp⟩
   | false =>
    rw[h3,cond_false] at h;cases hc:Co p e.num with
    | false=>rw[hc] at h;cases h
    | true =>rw[hc,cond_true] at h;injection h with h;rw[<- h];exact ⟨zbw hp hl,λhr=>Xd hr hp⟩
theorem XJ (h:Good w) {e:Event} (he:GD w e=some w'):Good w':=by
 unfold GD at he;cases hc:Ah e.at' 0 2 with
 | false=>rw[hc] at he;cases he
 | true =>
  rw[hc,cond_true] at he;split at he
  ·rename_i p hp
   rw[zdU] at he;obtain ⟨q,hq,rfl⟩:=he;have hpo:=(h.ok.place _ p hp).2;have hr:=h.room p (zdt hp);have hl:=hr.len hpo;obtain ⟨g1,g2⟩:=zbn hpo (by omega) hq;obtain ⟨g3,g4,g5⟩:=Z1 hq;exact h.setP hp g1 (g2 hr) g3 g5 λi g hg=>by rw[g4] at hg;exact .inl hg
  ·cases he
theorem Zt (h:Good w) {e:Event} (he:Ps w e=some w'):Good w':=by
 unfold Ps at he;cases hc:(Ah e.at' 0 2&&(Ah e.num 0 2&&(!(e.at'==e.num)&&(decide ((w.net.length:Int)<12)&&Ah e.key 0 (((GI w.places e.at'.toNat).length:Int) - 1))))) with
 | false=>rw[hc] at he;cases he
 | true =>
  rw[hc,cond_true] at he;simp only[DH,Ah,decide_eq_true_eq,zdV,beq_eq_false_iff_ne] at hc;obtain ⟨h1,h2,h3,h4,h5⟩:=hc;split at he
  ·rename_i v hv
   injection he with he;rw[<- he];refine h.setN (by simp;omega) λf hf=>?_;rcases zde.1 hf with hf | hf
   ·exact h.ok.net f hf
   ·rw[zdJ] at hf;subst hf;exact ⟨h1,h2,h3,h5.1,hv⟩
  ·cases he
theorem T5 (h:Good w) {f:Frame} (hf:L1 w.places f):Good (Mk w f):=by
 unfold Mk;split
 ·rename_i p hp
  have hpo:=(h.ok.place _ p hp).2;have hr:=h.room p (zdt hp);obtain ⟨h1,h2,h3,h4,h5⟩:=hf;refine h.setP hp (zbz hpo) (Xg hr) ?_ ?_ ?_
  ·unfold Ed;cases Ez p f.fro f.at' f.ver<;>rfl
  ·unfold Ed;cases Ez p f.fro f.at' f.ver<;>exact ⟨[],by simp[Ii]⟩
  ·intro i g hg;unfold Ed at hg;cases hc:Ez p f.fro f.at' f.ver with
   | false=>rw[hc] at hg;exact .inl hg
   | true =>
    rw[hc,cond_true] at hg;simp only[Ez,IE,Ah,DH,decide_eq_true_eq,beq_iff_eq,zdV] at hc;obtain ⟨⟨_,_⟩,_,_,_,q,_,_⟩:=hc;have hg:(p.got.set f.fro.toNat (KT p f.fro.toNat ++ [f.ver]))[i]?=some g:=hg;by_cases hi:f.fro.toNat=i
    ·subst hi;have hlt:f.fro.toNat<p.got.length:=by have:=(DY hg).1;simpa using this
     rw[zdr hlt] at hg;injection hg with hg;have hgo:p.got[f.fro.toNat]?=some (KT p f.fro.toNat):=by rw[Hu hlt];exact DZ hlt
     obtain ⟨r,hr⟩:=h.ok.heard _ p _ _ hp hgo;rw[hr,zdC (by omega),show f.at'.toNat - (KT p f.fro.toNat).length=0 by omega] at h5;cases r with
     | nil=>simp at h5
     | cons v r =>simp only[List.getElem?_cons_zero,Option.some.injEq] at h5;subst h5;exact .inr ⟨r,by rw[hr,<- hg];simp⟩
    ·rw[zdi hi] at hg;exact .inl hg
 ·exact h
theorem XK (h:Good w) {e:Event} (he:Jd w e=some w'):Good w':=by
 unfold Jd at he;cases hc:Ah e.at' 0 ((w.net.length:Int) - 1) with
 | false=>rw[hc] at he;cases he
 | true =>
  rw[hc,cond_true] at he;split at he
  ·rename_i f hf
   injection he with he;rw[<- he];have hfi:=h.ok.net f (zdt hf);have hn:=h.ok.n12;have g1:Good (setN w (w.net.eraseIdx e.at'.toNat)):=h.setN (zdh (zeB _ _) hn) λx hx=>h.ok.net x (zed hx);cases e.kind==12 with
   | true=>exact g1
   | false =>
    rw[cond_false];cases e.kind==13 with
    | true=>exact T5 h hfi
    | false=>exact T5 g1 hfi
  ·cases he
theorem Zs (h:Good w) {e:Event} (he:He w e=some w'):Good w':=by
 unfold He at he;cases h1:Ah e.kind 1 5 with
 | true=>rw[h1,cond_true] at he;exact Wn h he
 | false =>
  rw[h1,cond_false] at he;cases h2:Ah e.kind 6 9 with
  | true=>rw[h2,cond_true] at he;exact XJ h he
  | false =>
   rw[h2,cond_false] at he;cases h3:e.kind==10 with
   | true=>rw[h3,cond_true] at he;exact Zt h he
   | false =>
    rw[h3,cond_false] at he;cases h4:Ah e.kind 11 13 with
    | true=>rw[h4,cond_true] at he;exact XK h he
    | false=>rw[h4] at he;cases he
theorem UK (h:Good w) {e:Event}:Good (zco w e):=by
 unfold zco;cases he:He w e with
 | none=>exact h
 | some w'=>exact Zs h he
end


theorem Mv.mid {h h':Heap}{A B A' F F':List Nat} (m:Mv h A h' A') (hp:F.Perm (A++B)) (hn:F.Nodup) (hB:∀ y∈B,y<h.length) (hp':F'.Perm (A'++B)):Mv h F h' F':=by have m1:=m.aside (hp.nodup_iff.1 hn) hB;exact (m1.wide λb hb=>hp.mem_iff.2 hb).lean (hp'.nodup_iff.2 m1.nd) λb hb=>hp'.mem_iff.1 hb
theorem Py {A B C:List Nat}:(A++(B++C)).Perm (B++(A++C)):=List.perm_append_comm_assoc A B C
theorem TE {A B C D:List Nat}:(A++(B++(C++D))).Perm (C++(A++(B++D))):=(List.Perm.append_left A Py).trans Py
theorem zaa {A B C:List Nat}:(A++(B++C)).Perm (C++(A++B)):=by rw[<- zdv A B C];exact List.perm_append_comm
theorem Yf {A B C D:List Nat}:(A++(B++(C++D))).Perm (D++(A++(B++C))):=by rw[<- zdv B C D,<- zdv A (B++C) D];exact List.perm_append_comm
structure WR (lo:Nat) (h:Heap) (w:World) (a1:Pq) (c1:Nq) (a2:Pq) (c2:Nq) (a3:Pq) (c3:Nq) (a4:Pq) (c4:Nq) (F1 F2 F3 F4:List Nat):Prop where
 r1:RPlaces false h [.sl 6 a1 w.places.length c1] w.places F1
 r2:RSesss false h [.sl 5 a2 w.sess.length c2] w.sess F2
 r3:RFrames false h [.sl 9 a3 w.net.length c3] w.net F3
 r4:RDones false h [.sl 5 a4 w.hist.length c4] w.hist F4
 nd:(F1++(F2++(F3++F4))).Nodup
 ge:∀ y∈F1++(F2++(F3++F4)),lo<=y
 hl:lo<=h.length
def P0 (lo:Nat) (h:Heap) (cs:List V) (w:World) (F:List Nat):Prop:=∃ a1 c1 a2 c2 a3 c3 a4 c4 F1 F2 F3 F4,cs=w.cs a1 c1 a2 c2 a3 c3 a4 c4/\F=F1++(F2++(F3++F4))/\WR lo h w a1 c1 a2 c2 a3 c3 a4 c4 F1 F2 F3 F4
section
variable {lo:Nat}{h h':Heap}{w:World}{a1 a2 a3 a4 a:Pq}{c1 c2 c3 c4 c:Nq}{F1 F2 F3 F4:List Nat}
theorem WR.at (H:WR lo h w a1 c1 a2 c2 a3 c3 a4 c4 F1 F2 F3 F4):P0 lo h (w.cs a1 c1 a2 c2 a3 c3 a4 c4) w (F1++(F2++(F3++F4))):=⟨a1,c1,a2,c2,a3,c3,a4,c4,F1,F2,F3,F4,rfl,rfl,H⟩
theorem WR.lt (H:WR lo h w a1 c1 a2 c2 a3 c3 a4 c4 F1 F2 F3 F4):(∀ y∈F1,y<h.length)/\(∀ y∈F2,y<h.length)/\(∀ y∈F3,y<h.length)/\∀ y∈F4,y<h.length :=
 ⟨rplaces_ok.bd _ _ _ _ H.r1,rsesss_ok.bd _ _ _ _ H.r2,rframes_ok.bd _ _ _ _ H.r3,rdones_ok.bd _ _ _ _ H.r4⟩
theorem WR.bd (H:WR lo h w a1 c1 a2 c2 a3 c3 a4 c4 F1 F2 F3 F4):∀ y∈F1++(F2++(F3++F4)),y<h.length:=λy hy=>by
 obtain ⟨g1,g2,g3,g4⟩:=H.lt;simp only[zde] at hy;rcases hy with hy | hy | hy | hy
 ·exact g1 y hy
 ·exact g2 y hy
 ·exact g3 y hy
 ·exact g4 y hy
theorem PT (h:(F1++(F2++(F3++F4))).Nodup):(F1.Nodup/\F2.Nodup/\F3.Nodup/\F4.Nodup)/\(∀ y∈F1,y∉F2)/\(∀ y∈F1,y∉F3)/\(∀ y∈F1,y∉F4)/\(∀ y∈F2,y∉F3)/\(∀ y∈F2,y∉F4)/\∀ y∈F3,y∉F4:=by simp only[zdg,zde] at h;obtain ⟨h1,⟨h2,⟨h3,h4,h5⟩,h6⟩,h7⟩:=h;exact ⟨⟨h1,h2,h3,h4⟩,λy hy hm=>h7 y hy y (.inl hm) rfl,λy hy hm=>h7 y hy y (.inr (.inl hm)) rfl,λy hy hm=>h7 y hy y (.inr (.inr hm)) rfl,λy hy hm=>h6 y hy y (.inl hm) rfl,λy hy hm=>h6 y hy y (.inr hm) rfl,λy hy hm=>h5 y hy y hm rfl⟩
theorem WR.up1 (H:WR lo h w a1 c1 a2 c2 a3 c3 a4 c4 F1 F2 F3 F4) {l:List Place}{G:List Nat} (m:Mv h F1 h' G) (r:RPlaces false h' [.sl 6 a l.length c] l G) :
  WR lo h' ⟨l,w.sess,w.net,w.hist⟩ a c a2 c2 a3 c3 a4 c4 G F2 F3 F4/\Mv h (F1++(F2++(F3++F4))) h' (G++(F2++(F3++F4))):=by
 obtain ⟨_,d12,d13,d14,d23,d24,d34⟩:=PT H.nd;have m1:Mv h (F1++(F2++(F3++F4))) h' (G++(F2++(F3++F4))):=m.mid (.refl _) H.nd (λy hy=>H.bd y (by simp only[zde] at hy ⊢;grind)) (.refl _);exact ⟨⟨r,m.keep rsesss_ok H.r2 (λb hb hm=>d12 b hm hb),m.keep rframes_ok H.r3 (λb hb hm=>d13 b hm hb),m.keep rdones_ok H.r4 (λb hb hm=>d14 b hm hb),m1.nd,m1.ge H.hl H.ge,zdh H.hl m.le⟩,m1⟩
theorem WR.up2 (H:WR lo h w a1 c1 a2 c2 a3 c3 a4 c4 F1 F2 F3 F4) {l:List Sess}{G:List Nat} (m:Mv h F2 h' G) (r:RSesss false h' [.sl 5 a l.length c] l G) :
  WR lo h' ⟨w.places,l,w.net,w.hist⟩ a1 c1 a c a3 c3 a4 c4 F1 G F3 F4/\Mv h (F1++(F2++(F3++F4))) h' (F1++(G++(F3++F4))):=by
 obtain ⟨_,d12,d13,d14,d23,d24,d34⟩:=PT H.nd;have m1:Mv h (F1++(F2++(F3++F4))) h' (F1++(G++(F3++F4))):=m.mid Py H.nd (λy hy=>H.bd y (by simp only[zde] at hy ⊢;grind)) Py;exact ⟨⟨m.keep rplaces_ok H.r1 (λb hb hm=>d12 b hb hm),r,m.keep rframes_ok H.r3 (λb hb hm=>d23 b hm hb),m.keep rdones_ok H.r4 (λb hb hm=>d24 b hm hb),m1.nd,m1.ge H.hl H.ge,zdh H.hl m.le⟩,m1⟩
theorem WR.up3 (H:WR lo h w a1 c1 a2 c2 a3 c3 a4 c4 F1 F2 F3 F4) {l:List Frame}{G:List Nat} (m:Mv h F3 h' G) (r:RFrames false h' [.sl 9 a l.length c] l G) :
  WR lo h' ⟨w.places,w.sess,l,w.hist⟩ a1 c1 a2 c2 a c a4 c4 F1 F2 G F4/\Mv h (F1++(F2++(F3++F4))) h' (F1++(F2++(G++F4))):=by
 obtain ⟨_,d12,d13,d14,d23,d24,d34⟩:=PT H.nd;have m1:Mv h (F1++(F2++(F3++F4))) h' (F1++(F2++(G++F4))):=m.mid TE H.nd (λy hy=>H.bd y (by simp only[zde] at hy ⊢;grind)) TE;exact ⟨⟨m.keep rplaces_ok H.r1 (λb hb hm=>d13 b hb hm),m.keep rsesss_ok H.r2 (λb hb hm=>d23 b hb hm),r,m.keep rdones_ok H.r4 (λb hb hm=>d34 b hm hb),m1.nd,m1.ge H.hl H.ge,zdh H.hl m.le⟩,m1⟩
theorem WR.up4 (H:WR lo h w a1 c1 a2 c2 a3 c3 a4 c4 F1 F2 F3 F4) {l:List Done}{G:List Nat} (m:Mv h F4 h' G) (r:RDones false h' [.sl 5 a l.length c] l G) :
  WR lo h' ⟨w.places,w.sess,w.net,l⟩ a1 c1 a2 c2 a3 c3 a c F1 F2 F3 G/\Mv h (F1++(F2++(F3++F4))) h' (F1++(F2++(F3++G))):=by
 obtain ⟨_,d12,d13,d14,d23,d24,d34⟩:=PT H.nd;have m1:Mv h (F1++(F2++(F3++F4))) h' (F1++(F2++(F3++G))):=m.mid Yf H.nd (λy hy=>H.bd y (by simp only[zde] at hy ⊢;grind)) Yf;exact ⟨⟨m.keep rplaces_ok H.r1 (λb hb hm=>d14 b hb hm),m.keep rsesss_ok H.r2 (λb hb hm=>d24 b hb hm),m.keep rframes_ok H.r3 (λb hb hm=>d34 b hb hm),r,m1.nd,m1.ge H.hl H.ge,zdh H.hl m.le⟩,m1⟩
theorem WR.up0 (H:WR lo h w a1 c1 a2 c2 a3 c3 a4 c4 F1 F2 F3 F4) (m:Mv h [] h' []):WR lo h' w a1 c1 a2 c2 a3 c3 a4 c4 F1 F2 F3 F4/\Mv h (F1++(F2++(F3++F4))) h' (F1++(F2++(F3++F4))) :=
 ⟨⟨m.keep0 rplaces_ok H.r1,m.keep0 rsesss_ok H.r2,m.keep0 rframes_ok H.r3,m.keep0 rdones_ok H.r4,H.nd,H.ge,zdh H.hl m.le⟩,m.aside (by simpa using H.nd) H.bd⟩
theorem WR.place (H:WR lo h w a1 c1 a2 c2 a3 c3 a4 c4 F1 F2 F3 F4) {k:Nat} (hk:k<w.places.length):∃ b i s1 s2 s3 b1 d1 b2 d2 b3 d3 G1 G2 G3,a1=some (b,i) /\
  ld h b (i+k) 0 6=some [Iv w.places[k].me,Iv w.places[k].clock,s1,s2,s3,.bool w.places[k].fell]/\ld h b (i+k) 2 1=some [s1]/\ld h b (i+k) 3 1=some [s2] /\
  (∀ {R':Type} (K:Pq->Nat->Nq->Option R'),eS 2 s1 K=K b1 w.places[k].chain.length d1)/\(∀ {R':Type} (K:Pq->Nat->Nq->Option R'),eS 6 s2 K=K b2 w.places[k].log.length d2) /\
  (∀ {R':Type} (K:Pq->Nat->Nq->Option R'),eS 1 s3 K=K b3 w.places[k].got.length d3) /\
  RNodes false h [.sl 2 b1 w.places[k].chain.length d1] w.places[k].chain G1/\RVers false h [.sl 6 b2 w.places[k].log.length d2] w.places[k].log G2/\RVss false h [.sl 1 b3 w.places[k].got.length d3] w.places[k].got G3 /\
  (G1++(G2++G3)).Nodup/\(∀ y∈G1++(G2++G3),lo<=y/\y<h.length/\y∈F1) /\
  ∀ h1 G p' cs',Mv h (G1++(G2++G3)) h1 G->RPlace false h1 cs' p' G->cs'.length=6 ->
   ∃ h2 F1',st lo h1 b (i+k) 0 cs'=some h2/\WR lo h2 (setP w k p') a1 c1 a2 c2 a3 c3 a4 c4 F1' F2 F3 F4/\Mv h (F1++(F2++(F3++F4))) h2 (F1'++(F2++(F3++F4))):=by
 obtain ⟨⟨n1,_⟩,_⟩:=PT H.nd;obtain ⟨b,i,rs,row,G,ha,hbF,hbG,hb,hrow,hel,hGF,hGn,_,put⟩:=Sli.at (lo:=lo) rplace_ok H.r1 hk n1 (λy hy=>H.ge y (by simp[hy]));obtain ⟨s1,s2,s3,b1,d1,b2,d2,b3,d3,G1,G2,G3,rfl,rfl,e1,e2,e3,g1,g2,g3⟩:=hel.form;refine ⟨b,i,s1,s2,s3,b1,d1,b2,d2,b3,d3,G1,G2,G3,ha,by rw[CA hb hrow];exact GN rfl,by rw[CA hb hrow];rfl,by rw[CA hb hrow];rfl,e1,e2,e3,g1,g2,g3,hGn,λy hy=>⟨H.ge y (by simp[hGF y hy]),H.lt.1 y (hGF y hy),hGF y hy⟩,λh1 G p' cs' m hx hc=>?_⟩;obtain ⟨h2,F',e,r,m2,_⟩:=put h1 G 0 cs' cs' p' m (Gk (by rw[hc];rfl)) hx;have hlen:(w.places.set k p').length=w.places.length:=by simp
 rw[<- hlen] at r;obtain ⟨q1,q2⟩:=H.up1 m2 r;exact ⟨h2,F',e,q1,q2⟩
end
section
variable {lo:Nat}{h:Heap}{p:Place}{b1 b2 b3:Pq}{d1 d2 d3:Nq}{G1 G2 G3:List Nat}
theorem zab {f:Nat} (g1:RNodes false h [.sl 2 b1 p.chain.length d1] p.chain G1) (g2:RVers false h [.sl 6 b2 p.log.length d2] p.log G2) (g3:RVss false h [.sl 1 b3 p.got.length d3] p.got G3) (hpo:Av p=true) (hc:Bw p.chain (f:Int)=true)
  (nd:(G1++(G2++G3)).Nodup) (hlo:∀ y∈G1++(G2++G3),lo<=y) (hl:lo<=h.length) :
  ∃ a6 c6 h5 h6 G,Af lo 254 [.agg [.sl 2 b1 p.chain.length d1],Iv (f:Nat)] h=some (.agg [.sl 2 b1 p.chain.length d1],h5) /\
   Af lo 130 [.agg [Iv p.me,Iv p.clock,.sl 2 b1 p.chain.length d1,.sl 6 b2 p.log.length d2,.sl 1 b3 p.got.length d3,.bool p.fell]] h5=some (.agg ((Er p f).cs b1 d1 a6 c6 b3 d3),h6) /\
   RPlace false h6 ((Er p f).cs b1 d1 a6 c6 b3 d3) (Er p f) G/\Mv h (G1++(G2++G3)) h6 G:=by
 have hn:=(D1 (Bd hpo) (by decide) (by decide) (by decide)).1;have hb:∀ y∈G1++(G2++G3),y<h.length:=λy hy=>by
  simp only[zde] at hy;rcases hy with hy | hy | hy
  ·exact rnodes_ok.bd _ _ _ _ g1 y hy
  ·exact rvers_ok.bd _ _ _ _ g2 y hy
  ·exact rvss_ok.bd _ _ _ _ g3 y hy
 have hc':=hc;unfold Bw at hc';rw[DH] at hc';obtain ⟨hw,hps⟩:=hc';simp only[Ah,DH,decide_eq_true_eq] at hw;rw[A7] at hps;have hk':f<p.chain.length:=by omega
 rw[Ku hk',DH,decide_eq_true_eq] at hps;have nd':=nd;rw[zdg,zdg] at nd';obtain ⟨nd1,⟨nd2,nd3,PT⟩,nd5⟩:=nd';obtain ⟨h5,F5,e5,r5,m5⟩:=VF (lo:=lo) g1 (by omega) hps.1 nd1 (λy hy=>hlo y (by simp[hy])) hl hn.1 (UA hpo);have g25:=m5.keep rvers_ok g2 λy hy hm=>nd5 y hm y (by simp[hy]) rfl;have ht:=Qp (To (k:=f) (Bd hpo)) (by decide) (by decide) (by decide);rw[<- IN (k:=f)] at r5;have d1':=(QF m5 (Mv.refl nd2) nd hb).2.1;obtain ⟨a6,c6,h6,F6,e6,r6,m6⟩:=QL (lo:=lo) (p:=Jr p f) (a3:=b3) (c3:=d3) r5 g25 (by show 0<(FG _ _).length;rw[IN];omega) ht d1' nd2 (λy hy=>hlo y (by simp[hy])) (zdh hl m5.le);have hcs:(Jr p f).cs b1 d1 b2 d2 b3 d3 = [Iv p.me,Iv p.clock,.sl 2 b1 p.chain.length d1,.sl 6 b2 p.log.length d2,.sl 1 b3 p.got.length d3,.bool p.fell]:=by simp only[Place.cs,Jr,IN]
 rw[hcs] at e6;obtain ⟨m7,x1,x2,x3⟩:=QF m5 m6 nd hb;have hx:Er p (f:Int)=BL (Jr p f):=by unfold Er;rw[hc,cond_true,A7]
 rw[hx];exact ⟨a6,c6,h5,h6,F5++(F6++G3),e5,e6,⟨_,_,_,F5,F6,G3,rfl,rfl,m6.keep rnodes_ok r5 x1,r6,m6.keep rvss_ok (m5.keep rvss_ok g3 x2) x3⟩,m7⟩
theorem zaH {f:Nat} (g1:RNodes false h [.sl 2 b1 p.chain.length d1] p.chain G1) (g2:RVers false h [.sl 6 b2 p.log.length d2] p.log G2) (g3:RVss false h [.sl 1 b3 p.got.length d3] p.got G3) (hpo:Av p=true) (hc:CI p (f:Int)=true)
  (nd:(G1++(G2++G3)).Nodup) (hlo:∀ y∈G1++(G2++G3),lo<=y) (hl:lo<=h.length) :
  ∃ a5 c5 a6 c6 h5 h6 G,Af lo 256 [.agg [.sl 2 b1 p.chain.length d1],Iv (f:Nat)] h=some (.agg [.sl 2 a5 (B9 p.chain f).length c5],h5) /\
   Af lo 130 [.agg [Iv p.me,Iv p.clock,.sl 2 a5 (B9 p.chain f).length c5,.sl 6 b2 p.log.length d2,.sl 1 b3 p.got.length d3,.bool true]] h5=some (.agg ((Dx p f).cs a5 c5 a6 c6 b3 d3),h6) /\
   RPlace false h6 ((Dx p f).cs a5 c5 a6 c6 b3 d3) (Dx p f) G/\Mv h (G1++(G2++G3)) h6 G:=by
 have hn:=(D1 (Bd hpo) (by decide) (by decide) (by decide)).1;have hb:∀ y∈G1++(G2++G3),y<h.length:=λy hy=>by
  simp only[zde] at hy;rcases hy with hy | hy | hy
  ·exact rnodes_ok.bd _ _ _ _ g1 y hy
  ·exact rvers_ok.bd _ _ _ _ g2 y hy
  ·exact rvss_ok.bd _ _ _ _ g3 y hy
 have hc':=hc;unfold CI Dj at hc';simp only[DH,Ah,decide_eq_true_eq] at hc';obtain ⟨hfl,hw,hl1⟩:=hc';have hk':f<p.chain.length:=by omega
 have nd':=nd;rw[zdg,zdg] at nd';obtain ⟨nd1,⟨nd2,nd3,PT⟩,nd5⟩:=nd';obtain ⟨a5,c5,h5,F5,e5,r5,m5⟩:=VI (lo:=lo) g1 hk' hl1 (Zi (AL hpo).2.2.2.1 (by omega)) nd1 (λy hy=>hlo y (by simp[hy])) hl hn.1.1 (λx hx=>(UA hpo x hx).1);have g25:=m5.keep rvers_ok g2 λy hy hm=>nd5 y hm y (by simp[hy]) rfl;have ht:=Qp (Tp (k:=f) (Bd hpo)) (by decide) (by decide) (by decide);have d1':=(QF m5 (Mv.refl nd2) nd hb).2.1;obtain ⟨a6,c6,h6,F6,e6,r6,m6⟩:=QL (lo:=lo) (p:=Ml p f) (a3:=b3) (c3:=d3) r5 g25 (by show 0<(B9 _ _).length;rw[Kb hk' hl1];omega) ht d1' nd2 (λy hy=>hlo y (by simp[hy])) (zdh hl m5.le);have hcs:(Ml p f).cs a5 c5 b2 d2 b3 d3 = [Iv p.me,Iv p.clock,.sl 2 a5 (B9 p.chain f).length c5,.sl 6 b2 p.log.length d2,.sl 1 b3 p.got.length d3,.bool true]:=rfl;rw[hcs] at e6;obtain ⟨m7,x1,x2,x3⟩:=QF m5 m6 nd hb;have hx:Dx p (f:Int)=BL (Ml p f):=by unfold Dx;rw[hc,cond_true,A7]
 rw[hx];exact ⟨a5,c5,a6,c6,h5,h6,F5++(F6++G3),e5,e6,⟨_,_,_,F5,F6,G3,rfl,rfl,m6.keep rnodes_ok r5 x1,r6,m6.keep rvss_ok (m5.keep rvss_ok g3 x2) x3⟩,m7⟩
theorem zat (g1:RNodes false h [.sl 2 b1 p.chain.length d1] p.chain G1) (g2:RVers false h [.sl 6 b2 p.log.length d2] p.log G2) (g3:RVss false h [.sl 1 b3 p.got.length d3] p.got G3) (hpo:Av p=true) (hc:Eg p.chain=true)
  (nd:(G1++(G2++G3)).Nodup) (hlo:∀ y∈G1++(G2++G3),lo<=y) (hl:lo<=h.length) :
  ∃ a5 c5 h5 G,Af lo 257 [.agg [.sl 2 b1 p.chain.length d1]] h=some (.agg [.sl 2 a5 (IG p.chain).length c5],h5) /\
   RPlace false h5 ((KR p).cs a5 c5 b2 d2 b3 d3) (KR p) G/\Mv h (G1++(G2++G3)) h5 G:=by
 have hn:=(D1 (Bd hpo) (by decide) (by decide) (by decide)).1;have hb:∀ y∈G1++(G2++G3),y<h.length:=λy hy=>by
  simp only[zde] at hy;rcases hy with hy | hy | hy
  ·exact rnodes_ok.bd _ _ _ _ g1 y hy
  ·exact rvers_ok.bd _ _ _ _ g2 y hy
  ·exact rvss_ok.bd _ _ _ _ g3 y hy
 have h0:=Dl hpo;have nd':=nd;rw[zdg,zdg] at nd';obtain ⟨nd1,⟨nd2,nd3,PT⟩,nd5⟩:=nd';obtain ⟨a5,c5,h5,F5,e5,r5,m5⟩:=VH (lo:=lo) g1 h0 hn.1 nd1 (λy hy=>hlo y (by simp[hy])) hl;have hj:IG p.chain=Jw p.chain:=by unfold IG;rw[hc];rfl
 have hjl:(Jw p.chain).length=p.chain.length+1:=by rw[Gm h0];simp
 obtain ⟨m7,x1,x2,x3⟩:=QF m5 (Mv.refl nd2) nd hb;rw[<- hjl,<- hj] at e5 r5;refine ⟨a5,c5,h5,F5++(G2++G3),e5,⟨_,_,_,F5,G2,G3,rfl,rfl,r5,m5.keep rvers_ok g2 λy hy hm=>nd5 y hm y (by simp[hy]) rfl,m5.keep rvss_ok g3 x2⟩,m7⟩
end


variable {p:Place}
structure Fits (w:World):Prop where
 ok:Wd w
theorem Good.fits {w:World} (hg:Good w):Fits w:=⟨hg.ok⟩
section
variable {lo:Nat}{h h':Heap}{w:World}{a1 a2 a3 a4 a:Pq}{c1 c2 c3 c4 c:Nq}{F1 F2 F3 F4:List Nat}
theorem Yd {k:Nat}:(setP w k p).cs a1 c1 a2 c2 a3 c3 a4 c4=w.cs a1 c1 a2 c2 a3 c3 a4 c4:=by simp only[World.cs,setP,zdM]
theorem Fits.at (hg:Fits w) {k:Nat} (hk:k<w.places.length):Av w.places[k]=true/\w.places[k].me=(k:Int)/\True:=by have:=hg.ok.place k _ (DZ hk);exact ⟨this.2,this.1,trivial⟩
theorem ZV {f:Nat}{b1 b2 b3:Pq}{d1 d2 d3:Nq}{G1 G2 G3:List Nat} (g1:RNodes false h [.sl 2 b1 p.chain.length d1] p.chain G1) (g2:RVers false h [.sl 6 b2 p.log.length d2] p.log G2) (g3:RVss false h [.sl 1 b3 p.got.length d3] p.got G3) (hpo:Av p=true) (hc:Co p (f:Int)=true)
  (nd:(G1++(G2++G3)).Nodup) (hlo:∀ y∈G1++(G2++G3),lo<=y) (hl:lo<=h.length) :
  ∃ a1' c1' a2' c2' a3' c3' h' G,Af lo 259 [.agg (p.cs b1 d1 b2 d2 b3 d3),Iv (f:Nat)] h=some (.agg ((Dw p (f:Int)).cs a1' c1' a2' c2' a3' c3'),h')/\RPlace false h' ((Dw p (f:Int)).cs a1' c1' a2' c2' a3' c3') (Dw p (f:Int)) G/\Mv h (G1++(G2++G3)) h' G:=by
 have hn:=(D1 (Bd hpo) (by decide) (by decide) (by decide)).1;have hx:Dw p (f:Int)=Md p f:=by unfold Dw;rw[hc,cond_true,A7]
 unfold Co at hc;rw[DH,A7] at hc;obtain ⟨hw,ht⟩:=hc;simp only[Ah,DH,decide_eq_true_eq] at hw;have h3:=(AL hpo).2.2.1;obtain ⟨a2',c2',h',F',e,⟨_,_,_,_,_,_,ecs,r⟩,m⟩:=VE (lo:=lo) (f:=f) g1 g2 g3 hpo (by omega) hn ht nd hlo hl;rw[hx];exact ⟨_,_,_,_,_,_,h',F',e,r,m⟩
theorem Up {e:Event} (H:WR lo h w a1 c1 a2 c2 a3 c3 a4 c4 F1 F2 F3 F4) (hg:Fits w) :
  ∃ cs' h' F',Af lo 185 [.agg (w.cs a1 c1 a2 c2 a3 c3 a4 c4),.agg e.cs] h=some (.tup [.agg cs',.bool (GD w e).isSome],h')/\P0 lo h' cs' ((GD w e).getD w) F'/\Mv h (F1++(F2++(F3++F4))) h' F'/\((GD w e)=none->cs'=w.cs a1 c1 a2 c2 a3 c3 a4 c4):=by
 obtain ⟨kind,at',num,key,text,gone⟩:=e;suffices hk:∃ cs' h' F',_=some (V.tup [.agg cs',.bool (GD w ⟨kind,at',num,key,text,gone⟩).isSome],h')/\P0 lo h' cs' ((GD w ⟨kind,at',num,key,text,gone⟩).getD w) F'/\Mv h (F1++(F2++(F3++F4))) h' F'/\((GD w ⟨kind,at',num,key,text,gone⟩)=none->cs'=w.cs a1 c1 a2 c2 a3 c3 a4 c4) from by obtain ⟨cs',h',F',e,hr⟩:=hk;exact ⟨cs',h',F',R9 e,hr⟩
 rw[B0,Ad,Ax];unfold GD;cases hat:Ah at' 0 2 with
 | false =>rw[Az];exact ⟨_,h,_,rfl,H.at,Mv.refl H.nd,λ_=>rfl⟩
 | true =>
 simp only[Ah,DH,decide_eq_true_eq] at hat;obtain ⟨k,rfl⟩:∃ k:Nat,at'=(k:Int):=⟨at'.toNat,by omega⟩;have hk:k<w.places.length:=by have:=hg.ok.p3;omega
 obtain ⟨hpo,hme,hro⟩:=hg.at hk;have hn:=(D1 (Bd hpo) (by decide) (by decide) (by decide)).1;obtain ⟨b,i,s1,s2,s3,b1,d1,b2,d2,b3,d3,G1,G2,G3,rfl,hld,_,_,e1,e2,e3,g1,g2,g3,nd,hF,put⟩:=H.place hk;have hFlo:∀ y∈G1++(G2++G3),lo<=y:=λy hy=>(hF y hy).1
 rw[Aq,Ac hk,Ae,A7,hld,Ae,Aa,Ab,Aa,Ab,Aa,e1,Aa,e2,Aa,e3,Aa,AK,Ag,cond_true,DZ hk];simp only[];generalize hp:w.places[k]=p at hpo hme hro hn hld e1 e2 e3 g1 g2 g3 put;have done:∀ (h1:Heap) (G:List Nat) (p':Place) (cs':List V),Mv h (G1++(G2++G3)) h1 G->RPlace false h1 cs' p' G->cs'.length=6 ->
   ∃ h2 F',st lo h1 b (i+k) 0 cs'=some h2/\P0 lo h2 (w.cs (some (b,i)) c1 a2 c2 a3 c3 a4 c4) (setP w k p') F'/\Mv h (F1++(F2++(F3++F4))) h2 F':=λh1 G p' cs' m r hc=>by
  obtain ⟨h2,F1',e,q,m2⟩:=put h1 G p' cs' m r hc;refine ⟨h2,_,e,?_,m2⟩;rw[<- Yd (k:=k) (p:=p')];exact q.at
 have hsame:setP w k p=w:=by unfold setP;rw[<- hp,zew]
 obtain ⟨h9,F9,e9,W9,m9⟩:=done h _ p (p.cs b1 d1 b2 d2 b3 d3) (Mv.refl nd) ⟨_,_,_,G1,G2,G3,rfl,rfl,g1,g2,g3⟩ rfl;rw[hsame] at W9;simp only[Place.cs] at e9;cases h6:kind==6 with
 | true =>
  rw[Aq,WY g1 hn.1.1,Ad,Ax];cases hc:Bw p.chain num with
  | false =>
   have hs:DG p ⟨kind,(k:Nat),num,key,text,gone⟩=none:=by simp only[DG,h6,hc,cond_true,cond_false]
   rw[Az,Ac hk,Ae,e9,Ae,hs];exact ⟨_,h9,F9,rfl,W9,m9,λ_=>rfl⟩
  | true =>
   obtain ⟨f,rfl⟩:∃ f:Nat,num=(f:Int):=by unfold Bw at hc;simp only[Ah,DH,decide_eq_true_eq] at hc;exact ⟨num.toNat,by omega⟩
   have hs:DG p ⟨kind,(k:Nat),(f:Nat),key,text,gone⟩=some (Er p f):=by simp only[DG,h6,hc,cond_true]
   obtain ⟨a6,c6,h5,h6',G,e5,e6,r6,m6⟩:=zab (lo:=lo) g1 g2 g3 hpo hc nd hFlo H.hl;obtain ⟨h8,F8,e8,W8,m8⟩:=done h6' G _ _ m6 r6 rfl;simp only[Place.cs] at e6 e8;rw[Aq,e5,Ad,AS,Aa,Ai,Ag,e6,Ad,AS,Aa,Ab,Aa,Ab,Aa,Ai,Aa,Ai,Aa,Ai,Aa,AK,Ag,Ac hk,Ae,e8,Ae,hs];exact ⟨_,h8,F8,rfl,W8,m8,λg=>by first | cases g | (simp at g)⟩
 | false =>
 rw[Az];cases h7:kind==7 with
 | true =>
  have ec:=QN (lo:=lo) (h:=h) (p:=p) (k:=num) (a1:=b1) (c1:=d1) (a2:=b2) (c2:=d2) (a3:=b3) (c3:=d3) hn.1.1;simp only[Place.cs] at ec;rw[Aq,ec,Ad,Ax];cases hc:CI p num with
  | false =>
   have hs:DG p ⟨kind,(k:Nat),num,key,text,gone⟩=none:=by simp only[DG,h6,h7,hc,cond_true,cond_false]
   rw[Az,Ac hk,Ae,e9,Ae,hs];exact ⟨_,h9,F9,rfl,W9,m9,λ_=>rfl⟩
  | true =>
   obtain ⟨f,rfl⟩:∃ f:Nat,num=(f:Int):=by unfold CI Dj at hc;simp only[Ah,DH,decide_eq_true_eq] at hc;exact ⟨num.toNat,by omega⟩
   have hs:DG p ⟨kind,(k:Nat),(f:Nat),key,text,gone⟩=some (Dx p f):=by simp only[DG,h6,h7,hc,cond_true,cond_false]
   obtain ⟨a5,c5,a6,c6,h5,h6',G,e5,e6,r6,m6⟩:=zaH (lo:=lo) g1 g2 g3 hpo hc nd hFlo H.hl;obtain ⟨h8,F8,e8,W8,m8⟩:=done h6' G _ _ m6 r6 rfl;simp only[Place.cs] at e6 e8;rw[Aq,e5,Ad,AS,Aa,Ai,Ag,e6,Ad,AS,Aa,Ab,Aa,Ab,Aa,Ai,Aa,Ai,Aa,Ai,Aa,AK,Ag,Ac hk,Ae,e8,Ae,hs];exact ⟨_,h8,F8,rfl,W8,m8,λg=>by first | cases g | (simp at g)⟩
 | false =>
 rw[Az];cases h8:kind==8 with
 | true =>
  rw[Aq];cases hc:Eg p.chain with
  | false =>
   have hs:DG p ⟨kind,(k:Nat),num,key,text,gone⟩=none:=by simp only[DG,h6,h7,h8,hc,cond_true,cond_false]
   unfold Eg at hc;rw[decide_eq_false_iff_not] at hc;rw[Aj hc,Ac hk,Ae,e9,Ae,hs];exact ⟨_,h9,F9,rfl,W9,m9,λ_=>rfl⟩
  | true =>
   have hs:DG p ⟨kind,(k:Nat),num,key,text,gone⟩=some (KR p):=by simp only[DG,h6,h7,h8,hc,cond_true,cond_false]
   obtain ⟨a5,c5,h5,G,e5,r6,m6⟩:=zat (lo:=lo) g1 g2 g3 hpo hc nd hFlo H.hl;obtain ⟨h8',F8,e8,W8,m8⟩:=done h5 G _ _ m6 r6 rfl;unfold Eg at hc;rw[decide_eq_true_eq] at hc;simp only[Place.cs,KR] at e8;rw[Am hc,e5,Ad,AS,Aa,Ai,Ag,Ac hk,Ae,e8,Ae,hs];exact ⟨_,h8',F8,rfl,W8,m8,λg=>by first | cases g | (simp at g)⟩
 | false =>
 rw[Az,B0,Ad,Ax];cases hw:Ah num 0 2 with
 | false =>
  have hs:DG p ⟨kind,(k:Nat),num,key,text,gone⟩=none:=by simp only[DG,h6,h7,h8,Co,hw,zer,cond_true,cond_false]
  rw[Az,Ac hk,Ae,e9,Ae,hs];exact ⟨_,h9,F9,rfl,W9,m9,λ_=>rfl⟩
 | true =>
  have hw':=hw;simp only[Ah,DH,decide_eq_true_eq] at hw';obtain ⟨f,rfl⟩:∃ f:Nat,num=(f:Int):=⟨num.toNat,by omega⟩;have h3:=(AL hpo).2.2.1;have ec:=QM (lo:=lo) (f:=f) (a2:=b2) (c2:=d2) g1 g3 hpo (by omega) hn;simp only[Place.cs] at ec;rw[Aq,ec,Ad,Ax];cases hc:JY p f with
  | false =>
   have hs:DG p ⟨kind,(k:Nat),(f:Nat),key,text,gone⟩=none:=by simp only[DG,h6,h7,h8,Co,hw,A7,hc,zeD,cond_true,cond_false]
   rw[Az,Ac hk,Ae,e9,Ae,hs];exact ⟨_,h9,F9,rfl,W9,m9,λ_=>rfl⟩
  | true =>
   have hct:Co p (f:Int)=true:=by unfold Co;rw[hw,A7,hc];rfl
   have hs:DG p ⟨kind,(k:Nat),(f:Nat),key,text,gone⟩=some (Dw p f):=by simp only[DG,h6,h7,h8,hct,cond_true,cond_false]
   obtain ⟨x1,y1,x2,y2,x3,y3,h5,G,e5,r6,m6⟩:=ZV (lo:=lo) g1 g2 g3 hpo hct nd hFlo H.hl;obtain ⟨h8',F8,e8,W8,m8⟩:=done h5 G _ _ m6 r6 rfl;simp only[Place.cs] at e5 e8;rw[Aq,e5,Ad,AS,Aa,Ab,Aa,Ab,Aa,Ai,Aa,Ai,Aa,Ai,Aa,AK,Ag,Ac hk,Ae,e8,Ae,hs];exact ⟨_,h8',F8,rfl,W8,m8,λg=>by first | cases g | (simp at g)⟩
end


variable {α:Type}{El:Rel α}{h:Heap}{a:Pq}{c:Nq}{F:List Nat}{l:List α}{xs:List (List V)}{Fs:List (List Nat)}
theorem ZB (ok:El.Ok) {lo R ee bytes:Nat}{k:Nat} (hs:Sli false R ee El h [.sl R a l.length c] l F) (hk:k<l.length) (hnd:F.Nodup) (hlo:∀ b∈F,lo<=b) (hl:lo<=h.length) (hby:0<bytes) (hn:l.length*bytes<=140737488355328) :
  ∃ a' c' h' F',(∀ {T:Type} (K:V->Heap->Option T),(Aw a l.length c none (some (Iv (k:Nat))) none λa_0 n_1 c_2=>As R (h ++ [.rows R ee false []]) (.sl R a_0 n_1 c_2) λx_3=>Dv lo ee R bytes (.sl R (some ((List.length h),0)) 0 (some 0)) x_3 (h ++ [.rows R ee false []]) λv_4 h_5=>eS R (v_4) λa_6 n_7 c_8 =>
    Aw a l.length c (some (Iv ((k+1:Nat):Int))) none none λa_9 n_10 c_11=>As R h_5 (.sl R a_9 n_10 c_11) λx_12=>Dv lo ee R bytes (.sl R a_6 n_7 c_8) x_12 h_5 K)=K (.sl R a' (l.eraseIdx k).length c') h') /\
   Sli false R ee El h' [.sl R a' (l.eraseIdx k).length c'] (l.eraseIdx k) F'/\Mv h F h' F':=by
 have hbd:=(Sli.ok ok).bd _ _ _ _ hs;obtain ⟨Fs,nF,sF,own,cuts⟩:=Sli.parts hs hnd;obtain ⟨rP,_,eP,_,kP,_⟩:=cuts k (by omega);obtain ⟨_,rQ,_,eQ,_,kQ⟩:=cuts (k+1) (by omega);obtain ⟨nP,_,dPQ⟩:=EZ (k:=k) nF;obtain ⟨_,nQ,_⟩:=EZ (k:=k+1) nF;have inP:∀ y∈(Fs.take k).flatten,y∈Fs.flatten:=λy hy=>by rw[<- zdS k Fs,zdL];simp[hy]
 have inQ:∀ y∈(Fs.drop (k+1)).flatten,y∈(Fs.drop k).flatten:=λy hy=>by
  have:Fs.drop (k+1)=(Fs.drop k).drop 1:=by rw[zeC]
  rw[this] at hy;rw[<- zdS 1 (Fs.drop k),zdL];exact zde.2 (.inr hy)
 have inQ':∀ y∈(Fs.drop (k+1)).flatten,y∈Fs.flatten:=λy hy=>by rw[<- zdS k Fs,zdL];simp[inQ y hy]
 have hFl:∀ y∈Fs.flatten,y<h.length:=λy hy=>hbd y (sF y hy);have htl:(l.take k).length=k:=by rw[zdD];omega
 have hdl:(l.drop (k+1)).length=l.length - (k+1):=by rw[zeh]
 obtain ⟨a3,c3,h3,F3,e3,r3,l3,fr3,sub3,nd3⟩:=MD (lo:=lo) (R:=R) (e:=ee) (bytes:=bytes) ok eP nP (λy hy=>hFl y (inP y hy)) hby (by rw[htl];exact zdh (zdI _ (by omega)) hn) hl;have hQ3:∀ y∈(Fs.drop (k+1)).flatten,y∉F3/\y<h3.length:=λy hy=>by
  have:=hFl y (inQ' y hy);refine ⟨λhm3=>?_,by omega⟩;rcases sub3 y hm3 with g | g
  ·exact dPQ y g y (inQ y hy) rfl
  ·omega
 have F3b:∀ y∈F3,y<h3.length:=(Sli.ok ok).bd _ _ _ _ r3;obtain ⟨a7,c7,h7,F7,e7,r7,l7,fr7,sub7,nd7⟩:=LP (lo:=lo) (bytes:=bytes) ok.fr r3 (xs:=rQ) (ys:=l.drop (k+1)) (Gs:=Fs.drop (k+1)) (eQ.fr ok.fr λy hy=>fr3 y (hFl y (inQ' y hy))) hby (by rw[htl,hdl];exact zdh (zdI _ (by omega)) hn) (λy hy=>by
   rcases sub3 y hy with g | g
   ·exact hlo y (sF y (inP y g))
   ·omega) (by omega) (by
   rw[zdg];refine ⟨nd3,nQ,λx hx y hy e=>?_⟩;subst e;exact (hQ3 x hy).1 hx) (λy hy=>by
   rcases zde.1 hy with hy | hy
   ·exact F3b y hy
   ·exact (hQ3 y hy).2)
 have hel:(l.take k).length+(l.drop (k+1)).length=(l.eraseIdx k).length:=by rw[zdN hk,htl,hdl];omega
 have her:l.take k++l.drop (k+1)=l.eraseIdx k:=(List.eraseIdx_eq_take_drop_succ l k).symm;rw[hel] at e7 r7;rw[her] at r7;have mm0:Mv h [] (h ++ [.rows R ee false []]) []:=Mv.snoc;refine ⟨a7,c7,h7,F7,λK=>?_,r7,⟨by omega,λy hy hyF=>?_,nd7,λy hy=>?_⟩⟩
 ·rw[kP _ (λb i e=>mm0.fr b (hbd b (own b i e).1) (by simp)),e3,Ai,kQ _ (λb i e=>fr3 b (hbd b (own b i e).1)),e7]
 ·have y3:y∉F3:=λhm3=>by
   rcases sub3 y hm3 with g | g
   ·exact hyF (sF y (inP y g))
   ·omega
  rw[fr7 y (by omega) y3,fr3 y hy]
 ·rcases sub7 y hy with g | g
  ·rcases zde.1 g with g | g
   ·rcases sub3 y g with g | g
    ·exact .inl (sF y (inP y g))
    ·exact .inr (by omega)
   ·exact .inl (sF y (inQ' y g))
  ·exact .inr (by omega)
theorem OQ {h:Heap}:∀ {xs:List (List V)},EAll (flat id) h xs xs (xs.map λ_ => [])
 | []=>trivial
 | x :: xs=>⟨⟨rfl,rfl⟩,OQ⟩
theorem RR {rows:List (List V)} (hx:EAll (flat id) h rows xs Fs):rows=xs/\Fs.flatten = []:=by have:=hx.of_flat;simpa using this
theorem Sli.bare {R e n:Nat} (hs:Sli false R e El h [.sl R a n c] l F) :
  ∃ xs Fs F0,Sli false R e (flat id) h [.sl R a n c] xs F0/\EAll El h xs l Fs/\F=F0++Fs.flatten:=by
 obtain ⟨R1,a1,c1,e1,g⟩:=hs;injection e1 with e1 _;injection e1 with e0 e2 e4 e3;subst e2;subst e3;subst e4;cases a with
 | none =>obtain ⟨rfl,rfl,rfl⟩:=g;exact ⟨[],[],[],⟨R1,none,some 0,by rw[e0];rfl,rfl,rfl,rfl⟩,trivial,rfl⟩
 | some p =>
  obtain ⟨b,i⟩:=p;obtain ⟨_,rs,Fs,g1,g2,g3,g4,g5,rfl⟩:=g;have hlen:((rs.drop i).take l.length).length=l.length:=by rw[zdD,zeh];omega
  refine ⟨(rs.drop i).take l.length,Fs,[b],⟨R,some (b,i),c,by rw[hlen],rfl,rs,_,g1,by rw[hlen];exact g2,by rw[hlen];exact g3,g4,?_,by rw[(RR (OQ (h:=h) (xs:=(rs.drop i).take l.length))).2]⟩,g5,rfl⟩;rw[hlen];exact OQ
theorem Sli.cook {R e n:Nat}{F0:List Nat} (hs:Sli false R e (flat id) h [.sl R a n c] xs F0) (hx:EAll El h xs l Fs) :
  Sli false R e El h [.sl R a n c] l (F0++Fs.flatten):=by
 have hl:=hx.len;obtain ⟨R1,a1,c1,e1,g⟩:=hs;injection e1 with e1 _;injection e1 with e0 e2 e4 e3;subst e2;subst e3;subst e4;cases a with
 | none =>obtain ⟨rfl,rfl,rfl⟩:=g;have:l = []:=zdp hl.1.symm;subst this;have:Fs = []:=zdp hl.2;subst this;exact ⟨R1,none,some 0,by rw[e0];rfl,rfl,rfl,rfl⟩
 | some p =>obtain ⟨b,i⟩:=p;obtain ⟨_,rs,Gs,g1,g2,g3,g4,g5,rfl⟩:=g;obtain ⟨q1,q2⟩:=RR g5;refine ⟨R,some (b,i),c,by rw[hl.1],rfl,rs,Fs,g1,by rw[<- hl.1];exact g2,by rw[<- hl.1];exact g3,g4,?_,by rw[q2];rfl⟩;rw[<- hl.1,q1];exact hx


variable {f:Frame}
section
variable {lo:Nat}{h h':Heap}{w:World}{a1 a2 a3 a4 a:Pq}{c1 c2 c3 c4 c:Nq}{F1 F2 F3 F4:List Nat}
theorem Pu (hg:Fits w) (hf:L1 w.places f):thin f.ver/\Da f.ver=true/\f.ver.tag.place=f.fro:=by
 obtain ⟨h1,h2,h3,h4,h5⟩:=hf;have hk:f.fro.toNat<w.places.length:=by have:=hg.ok.p3;omega
 obtain ⟨hpo,hme,_⟩:=hg.at hk;rw[LQ hk] at h5;obtain ⟨hi,h5⟩:=DY h5;obtain ⟨_,hl⟩:=Hn (AL hpo).2.2.2.2.2.1;obtain ⟨g1,g2,_⟩:=hl _ hi;rw[h5] at g1 g2;exact ⟨LL g1,g1,by rw[g2,hme];omega⟩
theorem Wi {b:Pq}{d:Nq}{G:List Nat} (H:WR lo h w a1 c1 a2 c2 a3 c3 a4 c4 F1 F2 F3 F4) (hg:Fits w) (hf:L1 w.places f) (hv:RTags false h [.sl 2 b f.ver.past.length d] f.ver.past G) :
  ∃ h' F',(An f.to w.places.length (eO a1 λw0=>eO (ld h w0.1 (w0.2+f.to.toNat) 0 6) λw0=>eC w0 λw0 p=>eI .i64 w0 λw0=>eC p λp q=>eI .i64 p λp=>eC q λq g=>eS 2 q λq i j=>eC g λg k=>eS 6 g λg m t=>eC k λk d0=>eS 1 k λk e f0=>eC d0 λd0 v0=>eBv d0 λd0=>eN v0 (Ak (Af lo 260 [.agg [Iv w0,Iv p,.sl 2 q i j,.sl 6 g m t,.sl 1 k e f0,.bool d0],Iv f.fro,Iv f.at',.agg [Iv f.ver.key,Iv f.ver.tag.time,Iv f.ver.tag.place,.sl 2 b f.ver.past.length d,.str f.ver.text,.bool f.ver.gone]] h) λw1 p=>eU w1 λw1=>eC w1 λw1 q=>eA w1 λw1=>eC w1 λw1 g=>eI .i64 w1 λw1=>eC g λg i=>eI .i64 g λg=>eC i λi j=>eS 2 i λi k m=>eC j λj t=>eS 6 j λj d e=>eC t λt f0=>eS 1 t λt v0 v1=>eC f0 λf0 v2=>eBv f0 λf0=>eN v2 (eC q λq v2=>eB q (eN v2 (An f.to w.places.length (eO a1 λq=>eO (st lo p q.1 (q.2+f.to.toNat) 0 [Iv w1,Iv g,.sl 2 i k m,.sl 6 j d e,.sl 1 t v0 v1,.bool f0]) λw1=>some (V.tup [.agg (w.cs a1 c1 a2 c2 a3 c3 a4 c4),.bool true],w1)))) (eN v2 (some (V.tup [.agg (w.cs a1 c1 a2 c2 a3 c3 a4 c4),.bool true],p)))))))=some (V.tup [.agg (w.cs a1 c1 a2 c2 a3 c3 a4 c4),.bool true],h') /\
   P0 lo h' (w.cs a1 c1 a2 c2 a3 c3 a4 c4) (Mk w f) F'/\Mv h (F1++(F2++(F3++F4))) h' F':=by
 obtain ⟨hth,hvo,hvt⟩:=Pu hg hf;obtain ⟨⟨h1,h1'⟩,⟨h2,h2'⟩,h3,h4,h5⟩:=hf;obtain ⟨fro,to,at',ver⟩:=f;simp only at *
 obtain ⟨k,rfl⟩:∃ k:Nat,to=(k:Int):=⟨to.toNat,by omega⟩;obtain ⟨j,rfl⟩:∃ j:Nat,fro=(j:Int):=⟨fro.toNat,by omega⟩;have hk:k<w.places.length:=by have:=hg.ok.p3;omega
 obtain ⟨hpo,hme,hro⟩:=hg.at hk;obtain ⟨b0,i,s1,s2,s3,b1,d1,b2,d2,b3,d3,G1,G2,G3,rfl,hld,_,_,e1,e2,e3,g1,g2,g3,nd,hF,put⟩:=H.place hk;have hx:Mk w ⟨(j:Int),(k:Int),at',ver⟩=setP w k (Ed w.places[k] j at' ver):=by unfold Mk;simp only[A7,DZ hk]
 rw[hx];rw[Ac hk,Ae,A7,hld,Ae,Aa,Ab,Aa,Ab,Aa,e1,Aa,e2,Aa,e3,Aa,AK,Ag];generalize hp:w.places[k]=p at hpo hme hro hld e1 e2 e3 g1 g2 g3 put;have ht:=Bd hpo;have h3g:=(AL hpo).2.2.1;have nd':=nd;rw[zdg,zdg] at nd';obtain ⟨nd1,⟨nd2,nd3,PT⟩,nd5⟩:=nd';have hj:j<p.got.length:=by omega
 obtain ⟨h5',F5,e5,r5,m5,x5⟩:=Uq (lo:=lo) (at':=at') (a1:=b1) (c1:=d1) (a2:=b2) (c2:=d2) g3 hv hj (by have:=(ht.got.2 _ (zdf hj)).1;omega) (by have:=hth.1;omega) nd3 (λy hy=>(hF y (by simp[hy])).1) H.hl;simp only[Place.cs,Ver.cs] at e5;have hc:Ez p (j:Int) at' ver=IE p j at' ver:=by unfold Ez;rw[hvo,hvt,EI,A7];simp[Ah];omega
 have hsame:setP w k p=w:=by unfold setP;rw[<- hp,zew]
 rw[e5,Ad,Kd,Aa,AS,Aa,Ab,Aa,Ab,Aa,Ai,Aa,Ai,Aa,Ai,Aa,AK,Ag,Aa,Ax];unfold Ed;rw[hc];cases hh:IE p j at' ver with
 | false =>have:=x5 hh;subst this;rw[Az,Ag,cond_false,hsame];exact ⟨_,_,rfl,H.at,Mv.refl H.nd⟩
 | true =>
  rw[hh,cond_true] at r5;have hb:∀ y∈G1++(G2++G3),y<h.length:=λy hy=>(hF y hy).2.1
  have mm:Mv h (G1++(G2++G3)) h5' (G1++(G2++F5)):=m5.mid zaa nd (λy hy=>hb y (by simp only[zde] at hy ⊢;grind)) zaa;have hcs:(Ii p j ver).cs b1 d1 b2 d2 b3 d3=p.cs b1 d1 b2 d2 b3 d3:=Yp;have rr:RPlace false h5' (p.cs b1 d1 b2 d2 b3 d3) (Ii p j ver) (G1++(G2++F5)):=by
   rw[<- hcs];refine ⟨_,_,_,G1,G2,F5,rfl,rfl,m5.keep rnodes_ok g1 (λy hy hm=>nd5 y hy y (by simp[hm]) rfl),m5.keep rvers_ok g2 (λy hy hm=>PT y hy y hm rfl),?_⟩;have:(Ii p j ver).got=p.got.set j (p.got[j] ++ [ver]):=by unfold Ii;rw[Hu hj]
   rw[this,zdM];exact r5
  obtain ⟨h6,F6,e6,q6,m6⟩:=put h5' _ _ _ mm rr rfl;simp only[Place.cs] at e6;rw[Aq,Ag,Ac hk,Ae,e6,Ae,cond_true,A7];refine ⟨h6,_,rfl,?_,m6⟩;rw[<- Yd (k:=k) (p:=Ii p j ver)];exact q6.at
def V0 (w:World) (e:Event):Option World:=bif e.kind==10 then Ps w e else Jd w e
theorem WT {e:Event} (H:WR lo h w a1 c1 a2 c2 a3 c3 a4 c4 F1 F2 F3 F4) (hg:Fits w) :
  ∃ cs' h' F',Af lo 186 [.agg (w.cs a1 c1 a2 c2 a3 c3 a4 c4),.agg e.cs] h=some (.tup [.agg cs',.bool (V0 w e).isSome],h')/\P0 lo h' cs' ((V0 w e).getD w) F'/\Mv h (F1++(F2++(F3++F4))) h' F'/\((V0 w e)=none->cs'=w.cs a1 c1 a2 c2 a3 c3 a4 c4):=by
 obtain ⟨kind,at',num,key,text,gone⟩:=e;suffices hk:∃ cs' h' F',_=some (V.tup [.agg cs',.bool (V0 w ⟨kind,at',num,key,text,gone⟩).isSome],h')/\P0 lo h' cs' ((V0 w ⟨kind,at',num,key,text,gone⟩).getD w) F'/\Mv h (F1++(F2++(F3++F4))) h' F'/\((V0 w ⟨kind,at',num,key,text,gone⟩)=none->cs'=w.cs a1 c1 a2 c2 a3 c3 a4 c4) from by obtain ⟨cs',h',F',e,hr⟩:=hk;exact ⟨cs',h',F',Va e,hr⟩
 have hp3:=hg.ok.p3;have hn12:=hg.ok.n12;unfold V0;cases h10:kind==10 with
 | true =>
  rw[cond_true,Aq,B0,Ad,Ax];unfold Ps;cases x1:Ah at' 0 2 with
  | false =>rw[zer,cond_false,Az];exact ⟨_,h,_,rfl,H.at,Mv.refl H.nd,λ_=>rfl⟩
  | true =>
  rw[zdu,Aq,B0,Ad,Ax];cases x2:Ah num 0 2 with
  | false =>rw[zer,cond_false,Az];exact ⟨_,h,_,rfl,H.at,Mv.refl H.nd,λ_=>rfl⟩
  | true =>
  rw[zdu,Aq];cases x3:at'==num with
  | true =>rw[zei,zer,cond_false,Aq];exact ⟨_,h,_,rfl,H.at,Mv.refl H.nd,λ_=>rfl⟩
  | false =>
  rw[zel,zdu,Az];by_cases x4:(w.net.length:Int)<12
  ·simp only[Ah,DH,decide_eq_true_eq] at x1;obtain ⟨k,rfl⟩:∃ k:Nat,at'=(k:Int):=⟨at'.toNat,by omega⟩;have hk:k<w.places.length:=by omega
   obtain ⟨hpo,hme,hro⟩:=hg.at hk;obtain ⟨b0,i,s1,s2,s3,b1,d1,b2,d2,b3,d3,G1,G2,G3,rfl,hld,hc2,hc3,e1,e2,e3,g1,g2,g3,nd,hF,put⟩:=H.place hk;have hll:=(Bd hpo).log.1;rw[decide_eq_true x4,zdu,Aj (by omega),Ac hk,Ae,A7,hc3,Ae,Aa,Ag,e2,wr (by omega) (by omega),B0,Ad,Ax,LQ hk];generalize hp:w.places[k]=p at hpo hme hro hld e1 e2 e3 g1 g2 g3 put hll;cases x5:Ah key 0 ((p.log.length:Int) - 1) with
   | false =>rw[cond_false,Az];exact ⟨_,h,_,rfl,H.at,Mv.refl H.nd,λ_=>rfl⟩
   | true =>
   simp only[Ah,DH,decide_eq_true_eq] at x5;obtain ⟨m,rfl⟩:∃ m:Nat,key=(m:Int):=⟨key.toNat,by omega⟩;have hm:m<p.log.length:=by omega
   obtain ⟨o,s,b,d,G,ha,ho,es,hpv,hGF⟩:=g2.get hm;have hth:=(Bd hpo).log.2 _ (zdf hm);obtain ⟨a5,c5,h5,F5,e5,r5,m5⟩:=Eo (lo:=lo) (v:=p.log[m]) hpv H.hl (by have:=hth.1;omega);have e5':=e5;simp only[Ver.cs] at e5';rw[cond_true,Aq,Ac hk,Ae,hc3,Ae,Aa,Ag,e2,Ac hm,ha,Ae,A7,ho,Ae,Aa,Ab,Aa,Ab,Aa,Ab,Aa,es,Aa,BO,Aa,AK,Ag,e5',Ad,AS,Aa,Ab,Aa,Ab,Aa,Ab,Aa,Ai,Aa,BO,Aa,AK,Ag,AX,DZ hm];obtain ⟨⟨n1,n2,n3,n4⟩,_⟩:=PT H.nd;obtain ⟨a6,c6,h6,F6,e6,r6,m6⟩:=DN (lo:=lo) (bytes:=96) (e:=123) rframe_ok H.r3 (row := Iv (k:Nat) :: Iv num :: Iv (m:Nat) :: p.log[m].cs a5 c5) (x:=⟨(k:Nat),num,(m:Nat),p.log[m]⟩) (G:=F5) (h1:=h5 ++ [.rows 9 123 false [Iv (k:Nat) :: Iv num :: Iv (m:Nat) :: p.log[m].cs a5 c5]])
    ⟨_,rfl,_,rfl,Mv.snoc.keep0 rtags_ok r5⟩ (m5.trans (Mv.snoc' m5.nd)) n3 (λy hy=>H.ge y (by simp[hy])) H.hl (by decide) (by omega)
   simp only[Ver.cs] at e6;rw[e6,Ai];have hnl:(w.net ++ [(⟨(k:Nat),num,(m:Nat),p.log[m]⟩:Frame)]).length=w.net.length+1:=by simp
   rw[<- hnl] at r6;obtain ⟨q,mq⟩:=H.up3 m6 r6;refine ⟨_,h6,_,?_,q.at,mq,λg=>by first | cases g | (simp at g)⟩;rw[<- hnl];rfl
  ·rw[decide_eq_false x4,zer,cond_false,Am (by omega)];exact ⟨_,h,_,rfl,H.at,Mv.refl H.nd,λ_=>rfl⟩
 | false =>
 rw[cond_false,Az,wr (by omega) (by omega),B0,Ad,Ax];unfold Jd;cases x1:Ah at' 0 ((w.net.length:Int) - 1) with
 | false =>rw[cond_false,Az];exact ⟨_,h,_,rfl,H.at,Mv.refl H.nd,λ_=>rfl⟩
 | true =>
 simp only[Ah,DH,decide_eq_true_eq] at x1;obtain ⟨j,rfl⟩:∃ j:Nat,at'=(j:Int):=⟨at'.toNat,by omega⟩;have hj:j<w.net.length:=by omega
 obtain ⟨⟨n1,n2,n3,n4⟩,_⟩:=PT H.nd;obtain ⟨xs,Fs,F0,hraw,hall,rfl⟩:=H.r3.bare;have hxl:w.net.length=xs.length:=hraw.val;obtain ⟨row,Fj,hr,hFj,⟨vs,rfl,hv⟩⟩:=hall.get (DZ hj);obtain ⟨s,b,d,rfl,es,hpv⟩:=hv.form;obtain ⟨o,row',_,ha,hld,⟨rfl,_⟩,_⟩:=hraw.read (show j<xs.length by omega);have hro:xs[j]'(by omega) = Iv w.net[j].fro :: Iv w.net[j].to :: Iv w.net[j].at' :: [Iv w.net[j].ver.key,Iv w.net[j].ver.tag.time,Iv w.net[j].ver.tag.place,s,.str w.net[j].ver.text,.bool w.net[j].ver.gone]:=by rw[DZ (by omega)] at hr;injection hr
 have hfi:=hg.ok.net _ (zdf hj);have hld9:ld h o.1 (o.2+j) 0 9=some (Iv w.net[j].fro :: Iv w.net[j].to :: Iv w.net[j].at' :: [Iv w.net[j].ver.key,Iv w.net[j].ver.tag.time,Iv w.net[j].ver.tag.place,s,.str w.net[j].ver.text,.bool w.net[j].ver.gone]):=by rw[hld,id,hro];exact GN rfl
 rw[Aq,Ac hj,ha,Ae,A7,hld9,Ae,Aa,Ab,Aa,Ab,Aa,Ab,Aa,Ab,Aa,Ab,Aa,Ab,Aa,es,Aa,BO,Aa,AK,Ag,cond_true,DZ hj,<- ha];simp only[];cases h13:kind==13 with
 | true =>
  have h12:(kind==12)=false:=by rw[beq_iff_eq] at h13;subst h13;rfl
  rw[Aq,h12,Az];obtain ⟨h',F',e,W,m⟩:=Wi H hg hfi hpv;refine ⟨_,h',F',e,?_,m,λg=>by first | cases g | (simp at g)⟩;simpa using W
 | false =>
  rw[zdg] at n3;obtain ⟨n5,n6,n7⟩:=n3;rw[hxl] at hraw;obtain ⟨a6,c6,h6,F6,e6,r6,m6⟩:=ZB (k:=j) (lo:=lo) (bytes:=96) DF hraw (by omega) n5 (λy hy=>H.ge y (by simp[hy])) H.hl (by decide) (by omega);rw[<- hxl] at e6;have hbd:∀ y∈F0++Fs.flatten,y<h.length:=H.lt.2.2.1;have hel:(xs.eraseIdx j).length=(w.net.eraseIdx j).length:=by rw[zdN hj,zdN (by omega)];omega
  obtain ⟨k1,k2⟩:=JS hFj n6;have all6:=(hall.fr rframe_ok.fr λy hy=>m6.fr y (hbd y (by simp[hy])) λhm=>n7 y hm y hy rfl).erase j;have r3':=r6.cook all6;rw[hel] at r3' e6;have mm:Mv h (F0++Fs.flatten) h6 (F6++Fs.flatten):=m6.mid (.refl _) (by rw[zdg];exact ⟨n5,n6,n7⟩) (λy hy=>hbd y (by simp[hy])) (.refl _);have nd6:=mm.nd;rw[zdg] at nd6;have mm':Mv h (F0++Fs.flatten) h6 (F6++(Fs.eraseIdx j).flatten):=mm.lean (by
   rw[zdg];exact ⟨nd6.1,k1,λx hx y hy=>nd6.2.2 x hx y (k2 y hy).1⟩) λy hy=>by
    rcases zde.1 hy with hy | hy
    ·simp[hy]
    ·simp[(k2 y hy).1]
  obtain ⟨q,mq⟩:=H.up3 mm' r3';have hpv6:=m6.keep rtags_ok hpv λy hy hm=>n7 y hm y (FW hFj hy) rfl;rw[show Lt false=123 from rfl] at e6;rw[Az,Au (by omega),e6,Ai];cases h12:kind==12 with
  | true =>rw[Aq];exact ⟨_,h6,_,rfl,q.at,mq,λg=>by first | cases g | (simp at g)⟩
  | false =>rw[Az];have hgn:Fits (setN w (w.net.eraseIdx j)):=⟨hg.ok.netN (zdh (zeB _ _) hn12) λx hx=>hg.ok.net x (zed hx)⟩;obtain ⟨h',F',e,W,m⟩:=Wi (w:=setN w (w.net.eraseIdx j)) q hgn hfi hpv6;refine ⟨_,h',F',e,?_,mq.trans m,λg=>by first | cases g | (simp at g)⟩;simpa using W
end


variable {t:Tag}{l:List Tag}
section
variable {lo:Nat}{h h':Heap}{F F':List Nat}{a a':Pq}{c c':Nq}
theorem QP {s:Tag}:Af lo 307 [.agg [Iv s.time,Iv s.place],.agg [Iv t.time,Iv t.place]] h=some (.agg [Iv (FI s t).time,Iv (FI s t).place],h):=by unfold FI DV;refine Vk (h':=h) ?_;rw[Ce,Ad,Ax];cases Hb s.time s.place t.time t.place<;>rfl
theorem LI {k:Nat} (hk:k<l.length):ET l k t=l.set k (FI l[k] t):=by unfold ET;rw[DZ hk]
theorem YQ {k:Nat}:(ET l k t).length=l.length:=by unfold ET;split<;>simp
theorem K8 {k:Nat} (hs:RTags false h [.sl 2 a l.length c] l F) (hk:k<l.length) (hl:lo<=h.length) (hn:l.length<=1048576) :
  ∃ a' c' h' F',Af lo 289 [.agg [.sl 2 a l.length c],Iv (k:Nat),.agg [Iv t.time,Iv t.place]] h=some (.agg [.sl 2 a' l.length c'],h')/\RTags false h' [.sl 2 a' l.length c'] (ET l k t) F'/\Mv h [] h' F':=by
 obtain ⟨a1,c1,h1,F1,e1,r1,m1⟩:=LX (lo:=lo) (h:=h) (l:=l) hl hn;obtain ⟨b,i,rs,row,G,ha,hbF,hbG,hb,hrow,⟨rfl,rfl⟩,hGF,hGn,_,put⟩:=r1.at (lo:=lo) DF hk m1.nd (λy hy=>m1.ge hl (by simp) y hy);have hld:ld h1 b (i+k) 0 2=some [Iv l[k].time,Iv l[k].place]:=by rw[CA hb hrow];rfl
 obtain ⟨h2,F2,e2,r2,m2,_⟩:=put h1 [] 0 (FI l[k] t).cs (FI l[k] t).cs (FI l[k] t) Mv.nil rfl ⟨rfl,rfl⟩;subst ha;refine ⟨some (b,i),c1,h2,F2,S7 ?_,by rw[LI hk];exact r2,m1.trans m2⟩;simp only[Tag.cs] at e2;rw[RTags.rows (Mv.snoc.keep0 rtags_ok hs),e1,Ai,Ac hk,Ae,A7,hld,Ae,Aa,Ab,Aa,Ab,Ag,QP,Ad,AS,Aa,Ab,Aa,Ab,Ag,Ac hk,Ae,e2,Ae]
theorem VK {p q:List Tag} (hs:RTags false h [.sl 2 a p.length c] p F) (hs':RTags false h [.sl 2 a' q.length c'] q F') (hp:p.length=4) (hq:q.length=4) (hl:lo<=h.length) :
  ∃ q5 a5 c5 h' F5,Af lo 290 [.agg [.sl 2 a p.length c],.agg [.sl 2 a' q.length c']] h=some (.agg [.sl q5 a5 (DO p q).length c5],h')/\RTags false h' [.sl q5 a5 (DO p q).length c5] (DO p q) F5/\Mv h [] h' F5:=by
 have hj:(DO p q).length=4:=by unfold DO;rw[zeV];omega
 obtain ⟨q5,a5,c5,h',F5,e,r,m⟩:=I5 (El:=flat Tag.cs) DF (h:=h) (l:=DO p q) (f:=id) (lo:=lo) (R:=2) (e:=36) (bytes:=16) hl (by decide) (by omega)
  (λi q5 a1 n1 c1 hh=>Dp lo (i:Nat) a p.length c a' q.length c' 0 none 0 (some 0) q5 a1 n1 c1 hh) (λi hi q5 a1 n1 c1 hh hm=>by
   obtain ⟨o,ha,ho⟩:=(hm.keep0 rtags_ok hs).get (show i<p.length by omega);obtain ⟨o',ha',ho'⟩:=(hm.keep0 rtags_ok hs').get (show i<q.length by omega);have hji:(DO p q)[i]=FI p[i] q[i]:=List.getElem_zipWith;refine ⟨[Iv (FI p[i] q[i]).time,Iv (FI p[i] q[i]).place],[],hh ++ [.rows 2 36 false [[Iv (FI p[i] q[i]).time,Iv (FI p[i] q[i]).place]]],⟨by rw[id,hji];rfl,rfl⟩,Mv.snoc,?_⟩;rw[Dp.e,Am (by omega),Ac (show i<p.length by omega),ha,Ae,A7,ho,Ae,Aa,Ab,Aa,Ab,Ag,Ac (show i<q.length by omega),ha',Ae,ho',Ae,Aa,Ab,Aa,Ab,Ag,QP,Ad,AS,Aa,Ab,Aa,Ab,Ag,AX,Au (by omega)])
 rw[List.map_id] at r;refine ⟨q5,a5,c5,h',F5,Ta ?_,r,m⟩;refine e.trans ?_;rw[Dp.e,Aj (by omega)]
end
section
variable {lo:Nat}{h h':Heap}{w:World}{a1 a2 a3 a4 a:Pq}{c1 c2 c3 c4 c:Nq}{F1 F2 F3 F4:List Nat}
theorem Gf {d:Done} (H:WR lo h w a1 c1 a2 c2 a3 c3 a4 c4 F1 F2 F3 F4) (h80:w.hist.length<=1000) :
  ∃ a5 c5 h' G,Af lo 287 [.agg (w.cs a1 c1 a2 c2 a3 c3 a4 c4),Iv d.sess,Iv d.kind,Iv d.key,.agg [Iv d.tag.time,Iv d.tag.place]] h=some (.agg ((World.mk w.places w.sess w.net (w.hist ++ [d])).cs a1 c1 a2 c2 a3 c3 a5 c5),h') /\
   WR lo h' ⟨w.places,w.sess,w.net,w.hist ++ [d]⟩ a1 c1 a2 c2 a3 c3 a5 c5 F1 F2 F3 G/\Mv h (F1++(F2++(F3++F4))) h' (F1++(F2++(F3++G)))/\∀ y∈F1,h'[y]?=h[y]?:=by
 obtain ⟨⟨n1,n2,n3,n4⟩,_,_,d14,_⟩:=PT H.nd;obtain ⟨a6,c6,h6,F6,e6,r6,m6⟩:=DN (lo:=lo) (bytes:=40) (e:=126) (El:=flat Done.cs) DF H.r4 (row:=d.cs) (x:=d) (G := []) (h1:=h ++ [.rows 5 126 false [d.cs]])
  ⟨rfl,rfl⟩ Mv.snoc n4 (λy hy=>H.ge y (by simp[hy])) H.hl (by decide) (by omega)
 have hnl:(w.hist ++ [d]).length=w.hist.length+1:=by simp
 rw[<- hnl] at r6 e6;obtain ⟨q,mq⟩:=H.up4 m6 r6;refine ⟨a6,c6,h6,F6,SU ?_,q,mq,λy hy=>m6.fr y (H.lt.1 y hy) (d14 y hy)⟩;simp only[Done.cs] at e6;rw[AX,e6,Ai]
theorem WR.sess (H:WR lo h w a1 c1 a2 c2 a3 c3 a4 c4 F1 F2 F3 F4) {k:Nat} (hk:k<w.sess.length):∃ b i v b1 d1 G,a2=some (b,i) /\
  ld h b (i+k) 0 5=some [Iv w.sess[k].place,v,Iv w.sess[k].wait.time,Iv w.sess[k].wait.place,Iv w.sess[k].key]/\ld h b (i+k) 1 1=some [v]/\ld h b (i+k) 2 1=some [Iv w.sess[k].wait.time] /\
  (∀ {R':Type} (K:Pq->Nat->Nq->Option R'),eS 2 v K=K b1 w.sess[k].past.length d1)/\RTags false h [.sl 2 b1 w.sess[k].past.length d1] w.sess[k].past G/\RTags false h [v] w.sess[k].past G/\G.Nodup /\
  ∀ h1 G1 j cs row' s',Mv h G h1 G1->paste [Iv w.sess[k].place,v,Iv w.sess[k].wait.time,Iv w.sess[k].wait.place,Iv w.sess[k].key] j cs=some row'->RSess false h1 row' s' G1 ->
   ∃ h2 F2',st lo h1 b (i+k) j cs=some h2/\WR lo h2 ⟨w.places,w.sess.set k s',w.net,w.hist⟩ a1 c1 a2 c2 a3 c3 a4 c4 F1 F2' F3 F4/\Mv h (F1++(F2++(F3++F4))) h2 (F1++(F2'++(F3++F4)))/\∀ y∈F1,h2[y]?=h[y]?:=by
 obtain ⟨⟨_,n2,_,_⟩,d12,_⟩:=PT H.nd;obtain ⟨b,i,rs,row,G,ha,hbF,hbG,hb,hrow,hel,hGF,hGn,_,put⟩:=Sli.at (lo:=lo) IX H.r2 hk n2 (λy hy=>H.ge y (by simp[hy]));obtain ⟨v,rfl,hv⟩:=hel;obtain ⟨b1,d1,es,hv'⟩:=hv.form;refine ⟨b,i,v,b1,d1,G,ha,by rw[CA hb hrow];exact GN rfl,by rw[CA hb hrow];rfl,by rw[CA hb hrow];rfl,es,hv',hv,hGn,λh1 G1 j cs row' s' m hp hx=>?_⟩;obtain ⟨h2,F',e,r,m2,_⟩:=put h1 G1 j cs row' s' m hp hx;have hlen:(w.sess.set k s').length=w.sess.length:=by simp
 rw[<- hlen] at r;obtain ⟨q1,q2⟩:=H.up2 m2 r;exact ⟨h2,F',e,q1,q2,λy hy=>m2.fr y (H.lt.1 y hy) (d12 y hy)⟩
theorem WR.wait (H:WR lo h w a1 c1 a2 c2 a3 c3 a4 c4 F1 F2 F3 F4) {k:Nat} (hk:k<w.sess.length) (t:Tag) (key:Int) :
  ∃ h' F2',(∀ {T:Type} (K:Heap->Option T),(An (k:Nat) w.sess.length (eO a2 λv=>eO (st lo h v.1 (v.2+k) 2 [Iv t.time,Iv t.place]) λv=>An (k:Nat) w.sess.length (eO a2 λp=>eO (st lo v p.1 (p.2+k) 4 [Iv key]) K)))=K h') /\
   WR lo h' ⟨w.places,w.sess.set k ⟨w.sess[k].place,w.sess[k].past,t,key⟩,w.net,w.hist⟩ a1 c1 a2 c2 a3 c3 a4 c4 F1 F2' F3 F4/\Mv h (F1++(F2++(F3++F4))) h' (F1++(F2'++(F3++F4))):=by
 obtain ⟨b,i,v,b1,d1,G,ha,_,_,_,es,hv',hv,hGn,put⟩:=H.sess hk;obtain ⟨h2,F5,e2,q2,m2,_⟩:=put h G 2 [Iv t.time,Iv t.place] [Iv w.sess[k].place,v,Iv t.time,Iv t.place,Iv w.sess[k].key] ⟨w.sess[k].place,w.sess[k].past,t,w.sess[k].key⟩ (Mv.refl hGn) rfl ⟨v,rfl,hv⟩;have hk2:k<(w.sess.set k ⟨w.sess[k].place,w.sess[k].past,t,w.sess[k].key⟩).length:=by simpa using hk
 obtain ⟨b',i',v',b1',d1',G',ha',_,_,_,es2,hv2',hv2,hGn2,put2⟩:=q2.sess hk2;simp only[zev] at hv2 put2;obtain ⟨h3,F6,e3,q3,m3,_⟩:=put2 h2 G' 4 [Iv key] [Iv w.sess[k].place,v',Iv t.time,Iv t.place,Iv key] ⟨w.sess[k].place,w.sess[k].past,t,key⟩ (Mv.refl hGn2) rfl ⟨v',rfl,hv2⟩;rw[ha] at ha';injection ha' with ha';injection ha' with x1 x2;subst x1;subst x2;refine ⟨h3,F6,λK=>?_,by simpa using q3,m2.trans m3⟩;rw[Ac hk,ha,Ae,e2,Ae,Ac hk,Ae,e3,Ae]
theorem WR.past (H:WR lo h w a1 c1 a2 c2 a3 c3 a4 c4 F1 F2 F3 F4) {k:Nat} (hk:k<w.sess.length) {h1:Heap}{G1:List Nat} (m:Mv h [] h1 G1) {q n:Nat} (r:RTags false h1 [.sl q a n c] l G1) :
  ∃ h' F2',(∀ {T:Type} (K:Heap->Option T),(An (k:Nat) w.sess.length (eO a2 λv=>eO (st lo h1 v.1 (v.2+k) 1 [.sl q a n c]) K))=K h') /\
   WR lo h' ⟨w.places,w.sess.set k ⟨w.sess[k].place,l,w.sess[k].wait,w.sess[k].key⟩,w.net,w.hist⟩ a1 c1 a2 c2 a3 c3 a4 c4 F1 F2' F3 F4/\Mv h (F1++(F2++(F3++F4))) h' (F1++(F2'++(F3++F4)))/\∀ y∈F1,h'[y]?=h[y]?:=by
 obtain ⟨b,i,v,b1,d1,G,ha,_,_,_,es,hv',hv,hGn,put⟩:=H.sess hk;obtain ⟨h2,F5,e2,q2,m2,s2⟩:=put h1 G1 1 [.sl q a n c] [Iv w.sess[k].place,.sl q a n c,Iv w.sess[k].wait.time,Iv w.sess[k].wait.place,Iv w.sess[k].key] ⟨w.sess[k].place,l,w.sess[k].wait,w.sess[k].key⟩ (m.wide (by simp)) rfl ⟨_,rfl,r⟩;refine ⟨h2,F5,λK=>?_,q2,m2,s2⟩;rw[Ac hk,ha,Ae,e2,Ae]
end


section
variable {lo:Nat}{h h':Heap}{w:World}{a1 a2 a3 a4 a:Pq}{c1 c2 c3 c4 c:Nq}{F1 F2 F3 F4:List Nat}
theorem WR.stay (H:WR lo h w a1 c1 a2 c2 a3 c3 a4 c4 F1 F2 F3 F4) {X:Option World} (hX:X=none) :
  ∃ cs' h' F',some (V.tup [.agg (w.cs a1 c1 a2 c2 a3 c3 a4 c4),.bool false],h)=some (V.tup [.agg cs',.bool X.isSome],h')/\P0 lo h' cs' (X.getD w) F'/\Mv h (F1++(F2++(F3++F4))) h' F'/\((X)=none->cs'=w.cs a1 c1 a2 c2 a3 c3 a4 c4):=by
 subst hX;exact ⟨_,h,_,rfl,H.at,Mv.refl H.nd,λ_=>rfl⟩
theorem Uo {kind num key:Int}{text:ByteArray}{gone:Bool}{i:Nat} (H:WR lo h w a1 c1 a2 c2 a3 c3 a4 c4 F1 F2 F3 F4) (hg:Fits w) (ht:text.size<=1048576) (hi:i<w.sess.length) :
  ∃ cs' h' F',Af lo 249 [.agg (w.cs a1 c1 a2 c2 a3 c3 a4 c4),.agg [Iv kind,Iv (i:Nat),Iv num,Iv key,.str text,.bool gone]] h=some (.tup [.agg cs',.bool (Eh w i w.sess[i] ⟨kind,(i:Nat),num,key,text,gone⟩).isSome],h') /\
   P0 lo h' cs' ((Eh w i w.sess[i] ⟨kind,(i:Nat),num,key,text,gone⟩).getD w) F'/\Mv h (F1++(F2++(F3++F4))) h' F'/\((Eh w i w.sess[i] ⟨kind,(i:Nat),num,key,text,gone⟩)=none->cs'=w.cs a1 c1 a2 c2 a3 c3 a4 c4):=by
 suffices hk:∃ cs' h' F',_=some (V.tup [.agg cs',.bool (Eh w i w.sess[i] ⟨kind,(i:Nat),num,key,text,gone⟩).isSome],h')/\P0 lo h' cs' ((Eh w i w.sess[i] ⟨kind,(i:Nat),num,key,text,gone⟩).getD w) F'/\Mv h (F1++(F2++(F3++F4))) h' F'/\((Eh w i w.sess[i] ⟨kind,(i:Nat),num,key,text,gone⟩)=none->cs'=w.cs a1 c1 a2 c2 a3 c3 a4 c4) from by obtain ⟨cs',h',F',e,hr⟩:=hk;exact ⟨cs',h',F',R8 e,hr⟩
 have hso:=hg.ok.sess _ (zdf hi);obtain ⟨t1,t2,t3,t4,t5,t6⟩:=BD hso;have h80:=hg.ok.h80;obtain ⟨k,hpl⟩:∃ k:Nat,w.sess[i].place=(k:Int):=⟨w.sess[i].place.toNat,by omega⟩;have hk:k<w.places.length:=by have:=hg.ok.p3;omega
 obtain ⟨hpo,hme,hro⟩:=hg.at hk;have hn:=(D1 (Bd hpo) (by decide) (by decide) (by decide)).1;have hX:Eh w i w.sess[i] ⟨kind,(i:Nat),num,key,text,gone⟩=bif !decide (w.sess[i].wait.time>0)&&(A0 w.places[k] key text gone w.sess[i].past&&Db w 1) then
   some (setS (setP w k (En w.places[k] key text gone w.sess[i].past).1) i ⟨w.sess[i].place,w.sess[i].past,(En w.places[k] key text gone w.sess[i].past).2,key⟩ [⟨i,1,key,(En w.places[k] key text gone w.sess[i].past).2⟩]) else none:=by
  unfold Eh;rw[hpl,A7,DZ hk]
 obtain ⟨b',i',v,e1',d1',Gs,rfl,hld',_,_,es',hv',_,hGn,puts⟩:=H.sess hi;obtain ⟨b,j,s1,s2,s3,b1,d1,b2,d2,b3,d3,G1,G2,G3,rfl,hld,_,_,e1,e2,e3,g1,g2,g3,nd,hF,put⟩:=H.place hk;have hFlo:∀ y∈G1++(G2++G3),lo<=y:=λy hy=>(hF y hy).1
 generalize hXX:Eh w i w.sess[i] ⟨kind,(i:Nat),num,key,text,gone⟩=X at hX;rw[Ac hi,Ae,A7,hld',Ae,Aa,Ab,Aa,es',Aa,Ab,Aa,Ab,Aa,Ab,Ag,hpl,Ac hk,Ae,A7,hld,Ae,Aa,Ab,Aa,Ab,Aa,e1,Aa,e2,Aa,e3,Aa,AK,Ag];by_cases hw:w.sess[i].wait.time>0
 ·rw[Am hw];exact H.stay (by rw[hX,decide_eq_true hw];rfl)
 rw[Aj hw,B0,Ad,Ax];rw[decide_eq_false hw,zel,zdu] at hX;cases hwk:Ah key 0 3 with
 | false=>rw[Az];exact H.stay (by rw[hX];unfold A0;rw[hwk];rfl)
 | true =>
 rw[Aq,SA ht,Ad,Ax];cases hto:In text with
 | false=>rw[Az];exact H.stay (by rw[hX];unfold A0;rw[hwk,hto];rfl)
 | true =>
 rw[Aq];have ec:=WX (lo:=lo) (a2:=b2) (c2:=d2) (a3:=b3) (c3:=d3) g1 hv' hpo t2 hn;simp only[Place.cs] at ec;have fin:A0 w.places[k] key text gone w.sess[i].past=true->Db w 1=true->X=some ⟨w.places.set k (BL (Fe w.places[k] 0 (AI w.places[k] w.sess[i].past) (DX w.places[k] key text gone w.sess[i].past))),w.sess.set i ⟨w.sess[i].place,w.sess[i].past,⟨AI w.places[k] w.sess[i].past,w.places[k].me⟩,key⟩,w.net,w.hist ++ [⟨i,1,key,⟨AI w.places[k] w.sess[i].past,w.places[k].me⟩⟩]⟩:=λq1 q2=>by rw[hX,q1,q2];unfold En;rw[hpo,q1];rfl
 cases gone with
 | false =>
  rw[Az,ec,Ad,Ax];cases hm:Ih w.places[k] w.sess[i].past with
  | false=>rw[Az];exact H.stay (by rw[hX];unfold A0;rw[hm];simp)
  | true =>
  have hcw:A0 w.places[k] key text false w.sess[i].past=true:=by unfold A0;rw[hwk,hto,t2,hm];simp
  rw[Aq];by_cases hh:(w.hist.length:Int)>=80
  ·rw[Am hh];exact H.stay (by rw[hX,show Db w 1=false from decide_eq_false (by omega),zeD];rfl)
  have hX2:=fin hcw (decide_eq_true (by omega));obtain ⟨a6,c6,h5,F5,e5,⟨_,_,_,_,_,_,_,r5⟩,m5⟩:=Ng (lo:=lo) g1 g2 g3 hv' hpo hcw nd hFlo H.hl;obtain ⟨h6,F6,e6,q6,m6⟩:=put h5 _ _ _ m5 r5 rfl;obtain ⟨h7,F7,e7,q7,m7⟩:=q6.wait hi ⟨AI w.places[k] w.sess[i].past,w.places[k].me⟩ key;obtain ⟨a8,c8,h8,F8,e8,q8,m8,_⟩:=Gf (d:=⟨i,1,key,⟨AI w.places[k] w.sess[i].past,w.places[k].me⟩⟩) q7 (by show w.hist.length<=1000;omega);have W:=q8.at;simp only[setP,World.cs,zdM] at e7 e8 W;simp only[Place.cs] at e5 e6;rw[Aj hh,e5,Ad,Kd,Aa,AS,Aa,Ab,Aa,Ab,Aa,Ai,Aa,Ai,Aa,Ai,Aa,AK,Ag,Aa,AS,Aa,Ab,Aa,Ab,Ag,Ag,Ac hk,Ae,e6,Ae];rw[e7,e8,Ad,AS,Aa,Ai,Aa,Ai,Aa,Ai,Aa,Ai,Ag,hX2];exact ⟨_,h8,_,rfl,W,(m6.trans m7).trans m8,λg=>by first | cases g | (simp at g)⟩
 | true =>
  rw[Aq,QE];cases hnt:JO text with
  | false=>rw[Az];exact H.stay (by rw[hX];unfold A0;rw[hwk,hto,hnt];rfl)
  | true =>
  rw[Aq,ec,Ad,Ax];cases hm:Ih w.places[k] w.sess[i].past with
  | false=>rw[Az];exact H.stay (by rw[hX];unfold A0;rw[hm];simp)
  | true =>
  have hcw:A0 w.places[k] key text true w.sess[i].past=true:=by unfold A0;rw[hwk,hto,t2,hm,hnt];simp
  rw[Aq];by_cases hh:(w.hist.length:Int)>=80
  ·rw[Am hh];exact H.stay (by rw[hX,show Db w 1=false from decide_eq_false (by omega),zeD];rfl)
  have hX2:=fin hcw (decide_eq_true (by omega));obtain ⟨a6,c6,h5,F5,e5,⟨_,_,_,_,_,_,_,r5⟩,m5⟩:=Ng (lo:=lo) g1 g2 g3 hv' hpo hcw nd hFlo H.hl;obtain ⟨h6,F6,e6,q6,m6⟩:=put h5 _ _ _ m5 r5 rfl;obtain ⟨h7,F7,e7,q7,m7⟩:=q6.wait hi ⟨AI w.places[k] w.sess[i].past,w.places[k].me⟩ key;obtain ⟨a8,c8,h8,F8,e8,q8,m8,_⟩:=Gf (d:=⟨i,1,key,⟨AI w.places[k] w.sess[i].past,w.places[k].me⟩⟩) q7 (by show w.hist.length<=1000;omega);have W:=q8.at;simp only[setP,World.cs,zdM] at e7 e8 W;simp only[Place.cs] at e5 e6;rw[Aj hh,e5,Ad,Kd,Aa,AS,Aa,Ab,Aa,Ab,Aa,Ai,Aa,Ai,Aa,Ai,Aa,AK,Ag,Aa,AS,Aa,Ab,Aa,Ab,Ag,Ag,Ac hk,Ae,e6,Ae];rw[e7,e8,Ad,AS,Aa,Ai,Aa,Ai,Aa,Ai,Aa,Ai,Ag,hX2];exact ⟨_,h8,_,rfl,W,(m6.trans m7).trans m8,λg=>by first | cases g | (simp at g)⟩
end


def zdc (x:UInt8):List V := [.int .u8 (x.toNat:Int)]
abbrev RBytes:Rel (List UInt8):=Sli true 1 0 (flat zdc)
structure Rd (lo:Nat) (h:Heap) (b n:Nat):Prop where
 ge:lo<=b
 ex:∃ a code c p Fc,h[b]?=some (.rows 2 152 false [[.sl 1 a code.length c,Iv ((p:Nat):Int)]])/\RBytes h [.sl 1 a code.length c] code Fc/\(∀ y∈Fc,y<lo)/\p<=n/\code.length<=1048576
section
variable {lo:Nat}{h h':Heap}{F F':List Nat}{b n:Nat}
theorem Rd.lt (r:Rd lo h b n):b<h.length:=by obtain ⟨_,a,code,c,p,Fc,hb,_⟩:=r;exact (DY hb).1
theorem Rd.up {n':Nat} (r:Rd lo h b n) (hn:n<=n'):Rd lo h b n':=by obtain ⟨hge,a,code,c,p,Fc,hb,hc,hF,hp,hl⟩:=r;exact ⟨hge,a,code,c,p,Fc,hb,hc,hF,by omega,hl⟩
theorem Rd.keep (r:Rd lo h b n) (m:Mv h F h' F') (hb:b∉F) (hF:∀ y∈F,lo<=y):Rd lo h' b n:=by have hlt:=r.lt;obtain ⟨hge,a,code,c,p,Fc,e,hc,hFc,hp,hl⟩:=r;refine ⟨hge,a,code,c,p,Fc,by rw[m.fr b hlt hb];exact e,m.keep (Sli.ok DF) hc (λy hy hm=>?_),hFc,hp,hl⟩;have h1:=hFc y hy;have h2:=hF y hm;omega
theorem RBytes.get {a:Pq}{c:Nq}{m k:Nat}{l:List UInt8} (hs:RBytes h [.sl 1 a m c] l F) (hk:k<l.length):∃ o,a=some o/\ld h o.1 (o.2+k) 0 1=some [.int .u8 (l[k].toNat:Int)]:=by obtain ⟨o,row,G,h1,h2,⟨rfl,_⟩,_⟩:=hs.read hk;exact ⟨o,h1,by rw[h2];rfl⟩
theorem T7 {α β:Type}:∀ (l:List α),(l.map λ_=>([]:List β)).flatten = []
 | []=>rfl
 | _ :: l=>by simp[T7 l]
end


variable {α:Type}{l:List α}
theorem Mv.apart {h h1:Heap}{A F1:List Nat}{b:Nat} (m:Mv h A h1 (b :: F1)):∀ y∈F1,y ∉ [b]:=λy hy hm=>by have hn:=m.nd;rw[zdn] at hn;rw[zdJ] at hm;exact hn.1 (hm ▸ hy)
section
variable {lo:Nat}{h h':Heap}{F F':List Nat}{b n:Nat}
theorem Sli.made {cs:α->List V}{R e:Nat}{rows:List (List V)} (hr:rows=l.map cs):Sli false R e (flat cs) (h ++ [.rows R e false rows]) [.sl R (some (h.length,0)) l.length (some l.length)] l [h.length]:=by subst hr;refine ⟨R,some (h.length,0),some l.length,rfl,rfl,l.map cs,l.map λ_ => [],by simp,by simp,λk hk=>by injection hk with hk;simp;omega,(λhc=>(by cases hc)),?_,by rw[T7]⟩;rw[zeg,zdP (by simp)];exact EAll.flat
def TH:List Tag := [⟨0,0⟩,⟨0,0⟩,⟨0,0⟩,⟨0,0⟩]
theorem VJ:∃ h' q,Af lo 45 [] h=some (.agg [.sl 2 (some (q,0)) 4 (some 4)],h')/\RTags false h' [.sl 2 (some (q,0)) 4 (some 4)] TH [q]/\Mv h [] h' [q] :=
 ⟨_,h.length,S8 rfl,Sli.made (l:=TH) rfl,Mv.last⟩
theorem T8 {Fs:List (List Nat)}:(Fs.drop 1).flatten.Sublist Fs.flatten:=by
 cases Fs with
 | nil=>simp
 | cons F Fs=>simp only[List.drop_succ_cons,zeg,zdH];exact List.sublist_append_right _ _
theorem Sli.behind {El:Rel α}{R e q i k m:Nat} (hs:Sli false R e El h [.sl R (some (q,i)) m (some k)] l F) (h0:0<l.length) (hnd:F.Nodup) :
  (∀ {T:Type} (K:Pq->Nat->Nq->Option T),1<k->Aw (some (q,i)) m (some k) (some (Iv 1)) none none K=K (some (q,i+1)) (l.drop 1).length (some (k - 1))) /\
   ∃ F',Sli false R e El h [.sl R (some (q,i+1)) (l.drop 1).length (some (k - 1))] (l.drop 1) F'/\F'.Nodup/\∀ y∈F',y∈F:=by
 have hm:=hs.val;subst hm;obtain ⟨b',i',rs,Fs,ha,g1,g2,g3,g4,g5,rfl⟩:=hs.data h0;injection ha with ha;injection ha with e1 e2;subst e1;subst e2;obtain ⟨k1,k2⟩:=g3 k rfl;refine ⟨λK hk=>?_,q ::(Fs.drop 1).flatten,⟨R,some (q,i+1),some (k - 1),rfl,rfl,rs,Fs.drop 1,g1,by simp;omega,λk' hk=>?_,(λhc=>(by cases hc)),?_,rfl⟩,?_,λy hy=>?_⟩
 ·unfold Aw Hf Kq La Mp;simp only[Ab,zep];rw[DD ⟨by omega,by omega⟩];have:Nat.beq k (Int.toNat 1)=false:=by
   cases hb:Nat.beq k (Int.toNat 1) with
   | false=>rfl
   | true =>have:=zdo hb;have e:Int.toNat 1=1:=rfl;omega
  rw[this,Az,zeh];rfl
 ·injection hk with hk;subst hk;simp only[zeh];omega
 ·have hd:=g5.drop 1;have:((rs.drop i).take l.length).drop 1=(rs.drop (i+1)).take (l.drop 1).length:=by rw[List.drop_take,zeC,zeh]
  rw[<- this];exact hd
 ·rw[zdn] at hnd ⊢;have hsub:(Fs.drop 1).flatten.Sublist Fs.flatten:=T8;exact ⟨λhm=>hnd.1 (hsub.mem hm),hnd.2.sublist hsub⟩
 ·have hsub:(Fs.drop 1).flatten.Sublist Fs.flatten:=T8;rw[zdm] at hy ⊢;exact hy.imp id λhy=>hsub.mem hy
end


section
variable {lo:Nat}{h h':Heap}{F F':List Nat}{b n:Nat}
theorem Mv.thin {A F1 F2:List Nat}{h1:Heap} (m:Mv h A h1 (b :: F1)) (hn:F2.Nodup) (hs:∀ y∈F2,y∈F1):Mv h A h1 (b :: F2):=by have hn1:=m.nd;rw[zdn] at hn1;refine m.lean (zdn.2 ⟨λhm=>hn1.1 (hs b hm),hn⟩) λy hy=>?_;rw[zdm] at hy ⊢;exact hy.imp id (hs y)
def Kn:List Ver := [Vt,Vt,Vt,Vt]
theorem If:RVer false h [Iv 0,Iv 0,Iv 0,.sl 0 none 0 (some 0),.str ⟨⟨[]⟩⟩,.bool false] Vt []:=⟨_,rfl,Sli.nil⟩
theorem WZ:∃ h' q,Af lo 296 [] h=some (.agg [.sl 6 (some (q,0)) 4 (some 4)],h')/\RVers false h' [.sl 6 (some (q,0)) 4 (some 4)] Kn [q]/\Mv h [] h' [q]:=by
 refine ⟨_,h.length,Vi rfl,⟨6,some (h.length,0),some 4,rfl,rfl,[[Iv 0,Iv 0,Iv 0,.sl 0 none 0 (some 0),.str ⟨⟨[]⟩⟩,.bool false],[Iv 0,Iv 0,Iv 0,.sl 0 none 0 (some 0),.str ⟨⟨[]⟩⟩,.bool false],[Iv 0,Iv 0,Iv 0,.sl 0 none 0 (some 0),.str ⟨⟨[]⟩⟩,.bool false],[Iv 0,Iv 0,Iv 0,.sl 0 none 0 (some 0),.str ⟨⟨[]⟩⟩,.bool false]],[[],[],[],[]],by simp,by decide,λk hk=>?_,(λhc=>(by cases hc)),?_,rfl⟩,Mv.last⟩
 ·injection hk with hk;subst hk;exact ⟨by decide,by decide⟩
 ·exact ⟨If,If,If,If,trivial⟩
end


section
variable {lo:Nat}{h h':Heap}{F F':List Nat}{b n:Nat}
theorem Sli.first {α:Type}{El:Rel α}{R e m i:Nat}{a:Pq}{c:Nq}{l:List α} (hs:Sli false R e El h [.sl R a m c] l F) (hi:i<=l.length) (hnd:F.Nodup):∃ F2,Sli false R e El h [.sl R a i c] (l.take i) F2/\F2.Nodup/\∀ y∈F2,y∈F:=by
 have hm:=hs.val;subst hm;by_cases h0:l.length=0
 ·have:l = []:=zdp h0;subst this;have:i=0:=by simpa using hi
  subst this;exact ⟨F,hs,hnd,λy hy=>hy⟩
 obtain ⟨b',i',rs,Fs,ha,g1,g2,g3,g4,g5,rfl⟩:=hs.data (k:=0) (by omega);have hs0:=hs;obtain ⟨R1,a1,c1,e1,_⟩:=hs;injection e1 with e1 _;injection e1 with e0 e2 _ e4;have hsub:(Fs.take i).flatten.Sublist Fs.flatten:=by
  conv=>{ rhs;rw[<- zdS i Fs,zdL] }
  exact List.sublist_append_left _ _
 rw[zdn] at hnd;refine ⟨b' ::(Fs.take i).flatten,⟨R,a,c,by simp;omega,?_⟩,zdn.2 ⟨λhm=>hnd.1 (hsub.mem hm),hnd.2.sublist hsub⟩,λy hy=>?_⟩
 ·subst ha;refine ⟨rfl,rs,Fs.take i,g1,by simp;omega,λk hk=>?_,g4,?_,rfl⟩
  ·have:=g3 k hk;simp only[zdD];omega
  ·have hd:=g5.take i;rw[List.take_take] at hd;have:min i l.length=(l.take i).length:=by simp
   rw[<- this];exact hd
 ·rw[zdm] at hy ⊢;exact hy.imp id λhy=>hsub.mem hy
theorem SB {m:Nat} (h1:1<=m) (h4:m<=4) (hl:lo<=h.length):∃ v h' F',Af lo 271 [Iv (m:Nat)] h=some (.agg [v],h')/\RNodes false h' [v] (List.replicate m ⟨Kn,[]⟩) F'/\Mv h [] h' F':=by
 obtain ⟨q,a',c',h',F',e,r,mm⟩:=I5 (El:=RNode false) rnode_ok (h:=h) (l:=List.replicate m ()) (f:=λ_=>(⟨Kn,[]⟩:Node)) (lo:=lo) (R:=2) (e:=NO false) (bytes:=48) hl (by decide) (by rw[zd3];omega)
  (λi q a n c hh=>CM lo ((m:Nat):Int) ((i:Nat):Int) 0 none 0 (some 0) q a n c hh) (λi hi q a n c hh hm=>by
   rw[zd3] at hi;obtain ⟨h3,q3,e3,t3,m3⟩:=WZ (lo:=lo) (h:=hh);refine ⟨[.sl 6 (some (q3,0)) 4 (some 4),.sl 0 none 0 (some 0)],[q3],h3 ++ [.rows 2 (NO false) false [[.sl 6 (some (q3,0)) 4 (some 4),.sl 0 none 0 (some 0)]]],⟨_,_,[q3],[],rfl,rfl,Mv.snoc.keep0 rvers_ok t3,Sli.nil⟩,m3.trans (Mv.snoc' m3.nd),?_⟩;rw[CM.e,Am (by omega),e3,Ad,AS,Aa,Ai,Ag,Au (by omega)];exact AX)
 rw[List.map_replicate] at r;rw[zd3] at e;refine ⟨_,h',F',P6 ?_,r,mm⟩;have hw:Ah ((m:Nat):Int) 1 4=true:=by simp only[Ah,DH,decide_eq_true_eq];omega
 rw[B0,Ad,Ax,hw,Aq];refine e.trans ?_;rw[CM.e,Aj (by omega),zd3]
end


section
variable {lo:Nat}{ro ro':Bool}{h:Heap}{F F':List Nat}{a a':Pq}{c c':Nq}
theorem BQ {p:List Tag} (hp:Ck p=true):p.length=4:=by unfold Ck at hp;rw[DH,decide_eq_true_eq] at hp;exact hp.1
end


section
variable {lo:Nat}{h h':Heap}{w:World}{a1 a2 a3 a4 a:Pq}{c1 c2 c3 c4 c:Nq}{F1 F2 F3 F4:List Nat}
theorem WU {kind num key:Int}{text:ByteArray}{gone:Bool}{i:Nat} (H:WR lo h w a1 c1 a2 c2 a3 c3 a4 c4 F1 F2 F3 F4) (hg:Fits w) (hi:i<w.sess.length) :
  ∃ cs' h' F',Af lo 250 [.agg (w.cs a1 c1 a2 c2 a3 c3 a4 c4),.agg [Iv kind,Iv (i:Nat),Iv num,Iv key,.str text,.bool gone]] h=some (.tup [.agg cs',.bool (Jn w i w.sess[i]).isSome],h') /\
   P0 lo h' cs' ((Jn w i w.sess[i]).getD w) F'/\Mv h (F1++(F2++(F3++F4))) h' F'/\((Jn w i w.sess[i])=none->cs'=w.cs a1 c1 a2 c2 a3 c3 a4 c4):=by
 suffices hk:∃ cs' h' F',_=some (V.tup [.agg cs',.bool (Jn w i w.sess[i]).isSome],h')/\P0 lo h' cs' ((Jn w i w.sess[i]).getD w) F'/\Mv h (F1++(F2++(F3++F4))) h' F'/\((Jn w i w.sess[i])=none->cs'=w.cs a1 c1 a2 c2 a3 c3 a4 c4) from by obtain ⟨cs',h',F',e,hr⟩:=hk;exact ⟨cs',h',F',Vb e,hr⟩
 have hso:=hg.ok.sess _ (zdf hi);obtain ⟨t1,t2,t3,t4,t5,t6⟩:=BD hso;have hp4:=BQ t2;have h80:=hg.ok.h80;obtain ⟨k,hpl⟩:∃ k:Nat,w.sess[i].place=(k:Int):=⟨w.sess[i].place.toNat,by omega⟩;obtain ⟨m,hkey⟩:∃ m:Nat,w.sess[i].key=(m:Int):=⟨w.sess[i].key.toNat,by omega⟩;have hk:k<w.places.length:=by have:=hg.ok.p3;omega
 obtain ⟨hpo,hme,hro⟩:=hg.at hk;have hn:=(D1 (Bd hpo) (by decide) (by decide) (by decide)).1;have hco:=(AL hpo).2.2.2.1;have hcl:=Dl hpo;have hst:∀ x∈w.places[k].chain,Bv x.store=true:=λx hx=>(Bo ((DJ hco).2 x hx)).1
 have h04:=Cd (hst _ (zdf hcl));have hm0:m<w.places[k].chain[0].store.length:=by omega
 obtain ⟨b',i',v,e1',d1',Gs,rfl,hld',_,_,es',hv',_,hGn,puts⟩:=H.sess hi;obtain ⟨b,j,s1,s2,s3,b1,d1,b2,d2,b3,d3,G1,G2,G3,rfl,_,hc2,_,e1,e2,e3,g1,g2,g3,nd,hF,put⟩:=H.place hk;obtain ⟨u,x5,y5,h1,G5,e5,hsh,r5,m5⟩:=Mg (lo:=lo) (k:=0) (key:=m) g1 hcl hst (by omega) H.hl hn.1.1;rw[show ((0:Nat):Int)=0 from rfl] at e5;obtain ⟨o,z1,z2,p1,q1,p2,q2,H1,H2,rfl,_,ho1,_,ez1,_,gg1,_,_⟩:=(m5.keep0 rnodes_ok g1).get hcl;obtain ⟨o',_,_,_,_,rfl,_,_,_,_,_,_,ho12,_⟩:=gg1.all hm0;have hX:Jn w i w.sess[i]=bif decide (w.sess[i].wait.time>0) then
    (bif DV u.tag w.sess[i].wait then (bif DV w.places[k].chain[0].store[m].tag w.sess[i].wait then some (setS w i ⟨w.sess[i].place,w.sess[i].past,⟨0,0⟩,0⟩ []) else none)
    else (bif Db w 1 then some (setS w i ⟨w.sess[i].place,ET w.sess[i].past m w.sess[i].wait,⟨0,0⟩,0⟩ [⟨i,3,w.sess[i].key,w.sess[i].wait⟩]) else none)) else none:=by
  have hhd:(Ey w.places[k].chain)[m]?=some w.places[k].chain[0].store[m]:=by unfold Ey;rw[DZ hcl];exact DZ hm0
  unfold Jn;rw[hpl,hkey,A7,A7,DZ hk];simp only[hsh,hhd]
 generalize hXX:Jn w i w.sess[i]=X at hX;obtain ⟨Hq,mq⟩:=H.up0 m5.drop;simp only[Ver.cs] at e5;rw[Ac hi,Ae,A7,hld',Ae,Aa,Ab,Aa,es',Aa,Ab,Aa,Ab,Aa,Ab,Ag];by_cases hw:¬ w.sess[i].wait.time>0
 ·have:w.sess[i].wait.time=0:=by simp[CY,Ah] at t3;omega
  rw[this,EI,Aq];exact H.stay (by rw[hX,decide_eq_false hw];rfl)
 have hw:w.sess[i].wait.time>0:=by omega
 rw[decide_eq_true hw,cond_true] at hX;rw[show (w.sess[i].wait.time==0)=false by rw[beq_eq_false_iff_ne];omega,Az,hpl,Ac hk,Ae,A7,hc2,Ae,Aa,e1,Ag,hkey,e5,Ad,AS,Aa,Ab,Aa,Ab,Aa,Ab,Aa,Ai,Aa,BO,Aa,AK,Ag,DE ⟨by omega,by omega⟩,Ae,ho1,Ae,Aa,Ag,ez1,Ac hm0,Ae,A7,ho12,Ae,Aa,Ab,Aa,Ab,Ag,Ce,Ad,Ax];cases hA:Hb u.tag.time u.tag.place w.sess[i].wait.time w.sess[i].wait.place with
 | true =>
  rw[show DV u.tag w.sess[i].wait=true from hA,cond_true] at hX;rw[Aq,Ce,Ad,Ax];cases hB:Hb w.places[k].chain[0].store[m].tag.time w.places[k].chain[0].store[m].tag.place w.sess[i].wait.time w.sess[i].wait.place with
  | false =>rw[show DV w.places[k].chain[0].store[m].tag w.sess[i].wait=false from hB,cond_false] at hX;rw[Az];obtain ⟨cs',h',F',e,W,M,N⟩:=Hq.stay hX;exact ⟨cs',h',F',e,W,mq.trans M,N⟩
  | true =>rw[show DV w.places[k].chain[0].store[m].tag w.sess[i].wait=true from hB,cond_true] at hX;obtain ⟨h7,F7,e7,q7,m7⟩:=Hq.wait hi ⟨0,0⟩ 0;rw[Aq,Ce,Ad,Ax,hA,Aq,Ce,Ad,Ax,hA,Aq];simp only[] at e7;rw[e7,hX];refine ⟨_,h7,_,rfl,?_,mq.trans m7,λg=>by first | cases g | (simp at g)⟩;have W:=q7.at;simp only[World.cs,zdM] at W;simpa only [setS,zeu,zd0] using W
 | false =>
  rw[show DV u.tag w.sess[i].wait=false from hA,cond_false] at hX;rw[Az,Ce,Ad,Ax,hA,Az];by_cases hh:(w.hist.length:Int)>=80
  ·rw[Am hh];obtain ⟨cs',h',F',e,W,M,N⟩:=Hq.stay (X:=X) (by rw[hX,show Db w 1=false from decide_eq_false (by omega)];rfl);exact ⟨cs',h',F',e,W,mq.trans M,N⟩
  rw[show Db w 1=true from decide_eq_true (by omega),cond_true] at hX;obtain ⟨x6,y6,h6,F6,e6,r6,m6⟩:=K8 (lo:=lo) (k:=m) (t:=w.sess[i].wait) (m5.keep0 rtags_ok hv') (by omega) Hq.hl (by omega);obtain ⟨h7,F7,e7,q7,m7,_⟩:=Hq.past hi m6 r6;obtain ⟨a8,c8,h8,F8,e8,q8,m8,_⟩:=Gf (d:=⟨i,3,(m:Nat),w.sess[i].wait⟩) q7 (by show w.hist.length<=1000;omega);have hi8:i<(w.sess.set i ⟨w.sess[i].place,ET w.sess[i].past m w.sess[i].wait,w.sess[i].wait,w.sess[i].key⟩).length:=by simpa using hi
  obtain ⟨h9,F9,e9,q9,m9⟩:=q8.wait hi8 ⟨0,0⟩ 0;have W:=q9.at;simp only[World.cs,zdM] at e8 e9;simp only[World.cs,zdM,zev,zd1] at W;rw[Aj hh,Ce,Ad,Ax,hA,Az,e6,Ad,AS,Aa,Ai,Ag,e7,e8,Ad,AS,Aa,Ai,Aa,Ai,Aa,Ai,Aa,Ai,Ag,e9,hX];refine ⟨_,h9,_,rfl,?_,mq.trans ((m7.trans m8).trans m9),λg=>by first | cases g | (simp at g)⟩;simpa only [setS,zeu,hkey] using W
end


section
variable {lo:Nat}{h h':Heap}{w:World}{a1 a2 a3 a4 a:Pq}{c1 c2 c3 c4 c:Nq}{F1 F2 F3 F4:List Nat}
theorem VC {kind num key:Int}{text:ByteArray}{gone:Bool}{i:Nat} (H:WR lo h w a1 c1 a2 c2 a3 c3 a4 c4 F1 F2 F3 F4) (hg:Fits w) (hi:i<w.sess.length) :
  ∃ cs' h' F',Af lo 251 [.agg (w.cs a1 c1 a2 c2 a3 c3 a4 c4),.agg [Iv kind,Iv (i:Nat),Iv num,Iv key,.str text,.bool gone]] h=some (.tup [.agg cs',.bool (Gj w i w.sess[i] ⟨kind,(i:Nat),num,key,text,gone⟩).isSome],h') /\
   P0 lo h' cs' ((Gj w i w.sess[i] ⟨kind,(i:Nat),num,key,text,gone⟩).getD w) F'/\Mv h (F1++(F2++(F3++F4))) h' F'/\((Gj w i w.sess[i] ⟨kind,(i:Nat),num,key,text,gone⟩)=none->cs'=w.cs a1 c1 a2 c2 a3 c3 a4 c4):=by
 suffices hk:∃ cs' h' F',_=some (V.tup [.agg cs',.bool (Gj w i w.sess[i] ⟨kind,(i:Nat),num,key,text,gone⟩).isSome],h')/\P0 lo h' cs' ((Gj w i w.sess[i] ⟨kind,(i:Nat),num,key,text,gone⟩).getD w) F'/\Mv h (F1++(F2++(F3++F4))) h' F'/\((Gj w i w.sess[i] ⟨kind,(i:Nat),num,key,text,gone⟩)=none->cs'=w.cs a1 c1 a2 c2 a3 c3 a4 c4) from by obtain ⟨cs',h',F',e,hr⟩:=hk;exact ⟨cs',h',F',SS e,hr⟩
 have hso:=hg.ok.sess _ (zdf hi);obtain ⟨t1,t2,t3,t4,t5,t6⟩:=BD hso;have hp4:=BQ t2;have h80:=hg.ok.h80;obtain ⟨k,hpl⟩:∃ k:Nat,w.sess[i].place=(k:Int):=⟨w.sess[i].place.toNat,by omega⟩;have hk:k<w.places.length:=by have:=hg.ok.p3;omega
 obtain ⟨hpo,hme,hro⟩:=hg.at hk;have hn:=(D1 (Bd hpo) (by decide) (by decide) (by decide)).1;have hn1:=hn.1.1;have hch:=chain_iff.1 (AL hpo).2.2.2.1;have hst:∀ x∈w.places[k].chain,Bv x.store=true:=λx hx=>(Bo ((DJ (AL hpo).2.2.2.1).2 x hx)).1
 obtain ⟨b',i',v,e1',d1',Gs,rfl,hld',_,_,es',hv',_,hGn,puts⟩:=H.sess hi;obtain ⟨b,j,s1,s2,s3,b1,d1,b2,d2,b3,d3,G1,G2,G3,rfl,_,hc2,_,e1,e2,e3,g1,g2,g3,nd,hF,put⟩:=H.place hk;have hX:Gj w i w.sess[i] ⟨kind,(i:Nat),num,key,text,gone⟩=bif !decide (w.sess[i].wait.time>0)&&(Ah key 0 3&&(Ah num 0 ((w.places[k].chain.length:Int) - 1)&&Db w 1)) then
   (match Gg w.places[k].chain num.toNat key.toNat,w.sess[i].past[key.toNat]? with
   | some v,some t=>bif DV v.tag t then none else some (setS w i ⟨w.sess[i].place,Nk w.sess[i] v key.toNat,w.sess[i].wait,w.sess[i].key⟩ [⟨i,2,key,v.tag⟩])
   | _,_=>none) else none:=by
  unfold Gj;rw[hpl,A7,DZ hk]<;>rfl
 generalize hXX:Gj w i w.sess[i] ⟨kind,(i:Nat),num,key,text,gone⟩=X at hX;rw[Ac hi,Ae,A7,hld',Ae,Aa,Ab,Aa,es',Aa,Ab,Aa,Ab,Aa,Ab,Ag,hpl,Ac hk,Ae,A7,hc2,Ae,Aa,e1,Ag];by_cases hw:w.sess[i].wait.time>0
 ·rw[Am hw];exact H.stay (by rw[hX,decide_eq_true hw];rfl)
 rw[decide_eq_false hw,zel,zdu] at hX;rw[Aj hw,B0,Ad,Ax];cases hwk:Ah key 0 3 with
 | false=>rw[Az];exact H.stay (by rw[hX,hwk];rfl)
 | true =>
 rw[hwk,zdu] at hX;rw[Aq,wr (by omega) (by omega),B0,Ad,Ax];cases hwn:Ah num 0 ((w.places[k].chain.length:Int) - 1) with
 | false=>rw[Az];exact H.stay (by rw[hX,hwn];rfl)
 | true =>
 rw[hwn,zdu] at hX;rw[Aq];by_cases hh:(w.hist.length:Int)>=80
 ·rw[Am hh];exact H.stay (by rw[hX,show Db w 1=false from decide_eq_false (by omega)];rfl)
 rw[show Db w 1=true from decide_eq_true (by omega),cond_true] at hX;simp only[Ah,DH,decide_eq_true_eq] at hwk hwn;obtain ⟨m,rfl⟩:∃ m:Nat,key=(m:Int):=⟨key.toNat,by omega⟩;obtain ⟨n,rfl⟩:∃ n:Nat,num=(n:Int):=⟨num.toNat,by omega⟩;have hmp:m<w.sess[i].past.length:=by omega
 obtain ⟨u,x5,y5,h1,G5,e5,hsh,r5,m5⟩:=Mg (lo:=lo) (k:=n) (key:=m) g1 (by omega) hst (by omega) H.hl hn1;obtain ⟨Hq,mq⟩:=H.up0 m5.drop;rw[A7,A7,hsh,DZ hmp] at hX;simp only[] at hX;have hu4:Ck u.past=true\/u.tag.time=0:=by
  have hql:Bn w.places[k].chain n<w.places[k].chain.length:=by unfold Bn;split<;>omega
  unfold Gg at hsh;rw[Dd hql] at hsh;rcases D8 (J0 (hst _ (zdf hql)) hsh) with g | g
  ·exact .inr (Ge g).1
  ·exact .inl (Bx g.1).2.2.2.1
 obtain ⟨o',ho',ho2⟩:=(m5.keep0 rtags_ok hv').get hmp;subst ho';simp only[Ver.cs] at e5;rw[Aj hh,e5,Ad,AS,Aa,Ab,Aa,Ab,Aa,Ab,Aa,Ai,Aa,BO,Aa,AK,Ag,Ac hmp,Ae,A7,ho2,Ae,Aa,Ab,Aa,Ab,Ag,Ce,Ad,Ax];cases hA:Hb u.tag.time u.tag.place w.sess[i].past[m].time w.sess[i].past[m].place with
 | true =>rw[show DV u.tag w.sess[i].past[m]=true from hA,cond_true] at hX;rw[Aq];obtain ⟨cs',h',F',e,W,M,N⟩:=Hq.stay hX;exact ⟨cs',h',F',e,W,mq.trans M,N⟩
 | false =>
 rw[show DV u.tag w.sess[i].past[m]=false from hA,cond_false] at hX;rw[Az];unfold Nk at hX;by_cases ht:u.tag.time>0
 ·rw[decide_eq_true ht,cond_true] at hX;have hu4':u.past.length=4:=BQ (hu4.resolve_right (by omega));obtain ⟨q6,x6,y6,h6,F6,e6,r6,m6⟩:=VK (lo:=lo) (m5.keep0 rtags_ok hv') r5 hp4 hu4' Hq.hl;obtain ⟨x7,y7,es7,r7⟩:=r6.form;have hj:(DO w.sess[i].past u.past).length=4:=by unfold DO;rw[zeV];omega
  obtain ⟨x8,y8,h8,F8,e8,r8,m8⟩:=K8 (lo:=lo) (k:=m) (t:=u.tag) r7 (by omega) (zdh Hq.hl m6.le) (by omega);obtain ⟨h9,F9,e9,q9,m9,_⟩:=Hq.past hi (m6.drop.trans m8) r8;obtain ⟨x10,y10,h10,F10,e10,q10,m10,_⟩:=Gf (d:=⟨i,2,(m:Nat),u.tag⟩) q9 (by show w.hist.length<=1000;omega);have W:=q10.at;simp only[World.cs,zdM] at e10 W;rw[Am ht,e6,Ad,AS,Aa,es7,Ag,e8,Ad,AS,Aa,Ai,Ag,e9,e10,Ad,AS,Aa,Ai,Aa,Ai,Aa,Ai,Aa,Ai,Ag,hX];exact ⟨_,h10,_,rfl,W,mq.trans (m9.trans m10),λg=>by first | cases g | (simp at g)⟩
 ·rw[decide_eq_false ht,cond_false] at hX;obtain ⟨x10,y10,h10,F10,e10,q10,m10,_⟩:=Gf (d:=⟨i,2,(m:Nat),u.tag⟩) Hq (by omega);have W:=q10.at;simp only[World.cs] at e10 W;have hse:w.sess.set i ⟨w.sess[i].place,w.sess[i].past,w.sess[i].wait,w.sess[i].key⟩=w.sess:=zew hi;rw[Aj ht,e10,Ad,AS,Aa,Ai,Aa,Ai,Aa,Ai,Aa,Ai,Ag,hX];refine ⟨_,h10,_,rfl,?_,mq.trans m10,λg=>by first | cases g | (simp at g)⟩;simpa only [setS,zeu,hse] using W
end


theorem zbk {a b:Tag} (h1:a.time=b.time) (h2:a.place=b.place):a=b:=by cases a;cases b;simp_all
theorem Zd {p q:List Tag}{m:Nat}{a b:Tag} (hu:CD p q=true) (ha:p[m]?=some a) (hb:q[m]?=some b):FI a b=b:=by
 have:=under_iff.1 hu m a b ha hb;unfold FI DV;rw[I8] at this;cases hl:Hb a.time a.place b.time b.place with
 | true=>rfl
 | false =>rw[I8] at hl;show a=b;exact zbk (by omega) (by omega)
theorem Sv {p q:List Tag}{m:Nat} (hm:m<p.length) (hq:p.length=q.length) (hu:CD p q=true):ET (q.take m++p.drop m) m (q[m]'(by omega))=q.take (m+1)++p.drop (m+1):=by
 have h1:(q.take m).length=m:=by simp;omega
 have h2:m<(q.take m++p.drop m).length:=by simp;omega
 have h3:(q.take m++p.drop m)[m]=p[m]:=by rw[zeJ (by omega)];simp[h1]
 rw[LI h2,h3,Zd hu (DZ hm) (DZ (by omega)),zeo _ _ (by omega),h1,zeH,zex (by omega),zdv,zdw hm];rfl
theorem Nl {i:Nat}{l:List Tag}{m:Nat} (hm:m<l.length):(BP i l).take (m+1)=(BP i l).take m ++ [⟨i,2,(m:Nat),l[m]⟩]:=by
 have hl:(BP i l).length=l.length:=by unfold BP;simp
 rw[zex (by omega)];congr 2;unfold BP;rw[List.getElem_map,List.getElem_zipIdx];simp
section
variable {lo:Nat}{h h':Heap}{w:World}{a1 a2 a3 a4 a:Pq}{c1 c2 c3 c4 c:Nq}{F1 F2 F3 F4:List Nat}
theorem WV {kind num key:Int}{text:ByteArray}{gone:Bool}{i:Nat} (H:WR lo h w a1 c1 a2 c2 a3 c3 a4 c4 F1 F2 F3 F4) (hg:Fits w) (hi:i<w.sess.length) :
  ∃ cs' h' F',Af lo 252 [.agg (w.cs a1 c1 a2 c2 a3 c3 a4 c4),.agg [Iv kind,Iv (i:Nat),Iv num,Iv key,.str text,.bool gone]] h=some (.tup [.agg cs',.bool (JU w i w.sess[i]).isSome],h') /\
   P0 lo h' cs' ((JU w i w.sess[i]).getD w) F'/\Mv h (F1++(F2++(F3++F4))) h' F'/\((JU w i w.sess[i])=none->cs'=w.cs a1 c1 a2 c2 a3 c3 a4 c4):=by
 suffices hk:∃ cs' h' F',_=some (V.tup [.agg cs',.bool (JU w i w.sess[i]).isSome],h')/\P0 lo h' cs' ((JU w i w.sess[i]).getD w) F'/\Mv h (F1++(F2++(F3++F4))) h' F'/\((JU w i w.sess[i])=none->cs'=w.cs a1 c1 a2 c2 a3 c3 a4 c4) from by obtain ⟨cs',h',F',e,hr⟩:=hk;exact ⟨cs',h',F',Vc e,hr⟩
 have hso:=hg.ok.sess _ (zdf hi);obtain ⟨t1,t2,t3,t4,t5,t6⟩:=BD hso;have hp4:=BQ t2;have h80:=hg.ok.h80;obtain ⟨k,hpl⟩:∃ k:Nat,w.sess[i].place=(k:Int):=⟨w.sess[i].place.toNat,by omega⟩;have hk:k<w.places.length:=by have:=hg.ok.p3;omega
 obtain ⟨hpo,hme,hro⟩:=hg.at hk;have hn:=(D1 (Bd hpo) (by decide) (by decide) (by decide)).1;have hn1:=hn.1.1;have hch:=chain_iff.1 (AL hpo).2.2.2.1;have hpos:=hch.pos;have hX:JU w i w.sess[i]=bif !decide (w.sess[i].wait.time>0)&&(CD w.sess[i].past (Bs w.places[k].chain)&&Db w 4) then some (setS w i ⟨w.sess[i].place,Bs w.places[k].chain,w.sess[i].wait,w.sess[i].key⟩ (BP i (Bs w.places[k].chain))) else none:=by unfold JU;rw[hpl,A7,DZ hk]
 obtain ⟨b',i',v,e1',d1',Gs,rfl,hld',_,_,es',hv',_,hGn,puts⟩:=H.sess hi;obtain ⟨b,j,s1,s2,s3,b1,d1,b2,d2,b3,d3,G1,G2,G3,rfl,_,hc2,_,e1,e2,e3,g1,g2,g3,nd,hF,put⟩:=H.place hk;have hlast:=I9 (l:=w.places[k].chain) (by omega);have hs4:=(hch.store (DZ (show w.places[k].chain.length - 1<w.places[k].chain.length by omega))).2;obtain ⟨o,z1,z2,p1,q1,p2,q2,H1,H2,rfl,_,ho1,_,ez1,_,gg1,_,hH1,_⟩:=g1.get (show w.places[k].chain.length - 1<w.places[k].chain.length by omega);generalize hst:(w.places[k].chain[w.places[k].chain.length - 1]'(by omega)).store=store at hlast hs4 ez1 gg1;obtain ⟨tv,h1,T1,e5,r5,m5⟩:=Pr (lo:=h.length) gg1 (zdj _) (by omega);obtain ⟨x5,y5,es5,r5⟩:=r5.form;obtain ⟨Hq,mq⟩:=H.up0 m5.drop;rw[hlast] at hX;have htl:(Bi store).length=4:=by unfold Bi;rw[zez];exact hs4
 have loop:∀ (r m:Nat) (hh:Heap) (x1:Pq) (y1:Nq) (x2:Pq) (y2:Nq) (x3:Pq) (y3:Nq) (x4:Pq) (y4:Nq) (K1 K2 K3 K4:List Nat),m+r=4->CD w.sess[i].past (Bi store)=true->w.hist.length<=76 ->
   WR lo hh (setS w i ⟨w.sess[i].place,(Bi store).take m++w.sess[i].past.drop m,w.sess[i].wait,w.sess[i].key⟩ ((BP i (Bi store)).take m)) x1 y1 x2 y2 x3 y3 x4 y4 K1 K2 K3 K4 ->
   RVers false hh [.sl 6 p1 store.length q1] store H1->(∀ y∈H1,y∈K1) ->
   ∃ cs' h' F',DR lo (m:Nat) x1 w.places.length y1 x2 w.sess.length y2 x3 w.net.length y3 x4 (w.hist++(BP i (Bi store)).take m).length y4 kind (i:Nat) num key text gone 0 none 0 (some 0) 0 none 0 (some 0) 0 none 0 (some 0) 0 none 0 (some 0) p1 store.length q1 hh=some (V.tup [.agg cs',.bool true],h') /\
    P0 lo h' cs' (setS w i ⟨w.sess[i].place,Bi store,w.sess[i].wait,w.sess[i].key⟩ (BP i (Bi store))) F'/\Mv hh (K1++(K2++(K3++K4))) h' F':=by
  intro r;induction r with
  | zero =>
   intro m hh x1 y1 x2 y2 x3 y3 x4 y4 K1 K2 K3 K4 hm hu hl Hm hv hK;have:m=4:=by omega
   subst this;have hrl:(BP i (Bi store)).length=4:=by unfold BP;simpa using htl
   have W:=Hm.at;rw[zdP (by omega),zdZ (by omega),zd0,zdP (by omega)] at W;refine ⟨_,hh,_,?_,W,Mv.refl Hm.nd⟩;rw[DR.e,Aj (by omega),zdP (by omega)];simp only[World.cs,setS,zdM]
  | succ r ih =>
   intro m hh x1 y1 x2 y2 x3 y3 x4 y4 K1 K2 K3 K4 hm hu hl Hm hv hK;have him:i<(setS w i ⟨w.sess[i].place,(Bi store).take m++w.sess[i].past.drop m,w.sess[i].wait,w.sess[i].key⟩ ((BP i (Bi store)).take m)).sess.length:=by simpa [setS] using hi
   obtain ⟨b0,i0,v0,e0,d0,G0,rfl,_,hld1,_,es0,hv0,_,_,_⟩:=Hm.sess him;have hss:(setS w i ⟨w.sess[i].place,(Bi store).take m++w.sess[i].past.drop m,w.sess[i].wait,w.sess[i].key⟩ ((BP i (Bi store)).take m)).sess[i]=⟨w.sess[i].place,(Bi store).take m++w.sess[i].past.drop m,w.sess[i].wait,w.sess[i].key⟩:=by simp[setS]
   have hpl4:((Bi store).take m++w.sess[i].past.drop m).length=4:=by simp;omega
   have hms:m<store.length:=by omega
   obtain ⟨o',_,_,_,_,ho',_,_,_,_,_,_,ho12,_⟩:=hv.all hms;have htm:(Bi store)[m]'(by omega)=store[m].tag:=by unfold Bi;rw[List.getElem_map]
   rw[hss] at es0 hv0;have es0:∀ {R':Type} (K:Pq->Nat->Nq->Option R'),eS 2 v0 K=K e0 ((Bi store).take m++w.sess[i].past.drop m).length d0:=es0;have hv0:RTags false hh [.sl 2 e0 ((Bi store).take m++w.sess[i].past.drop m).length d0] ((Bi store).take m++w.sess[i].past.drop m) G0:=hv0;obtain ⟨x8,y8,h8,F8,e8,r8,m8⟩:=K8 (lo:=lo) (k:=m) (t:=store[m].tag) hv0 (by omega) Hm.hl (by omega);rw[<- htm,Sv (by omega) (by omega) hu] at r8;obtain ⟨h9,F9,e9,q9,m9,s9⟩:=Hm.past him m8 r8;have hv9:=rvers_ok.fr _ _ _ _ _ hv λy hy=>s9 y (hK y hy);obtain ⟨o9,_,_,_,_,ho9,_,_,_,_,_,_,ho129,_⟩:=hv9.all hms;have:o'=o9:=by rw[ho'] at ho9;injection ho9
   subst this;have hrt:((BP i (Bi store)).take m).length<=4:=by rw[zdD];omega
   obtain ⟨x10,y10,h10,F10,e10,q10,m10,s10⟩:=Gf (d:=⟨i,2,(m:Nat),store[m].tag⟩) q9 (by show (w.hist++_).length<=1000;rw[zdy];omega);have hv10:=rvers_ok.fr _ _ _ _ _ hv9 λy hy=>s10 y (hK y hy);simp only[setS,zev,zd1,zdv] at q10;rw[<- htm,<- Nl (by omega)] at q10;obtain ⟨cs',h',F',e,W,M⟩:=ih (m+1) h10 _ _ _ _ _ _ _ _ _ _ _ _ (by omega) hu hl q10 hv10 hK;refine ⟨cs',h',F',?_,W,(m9.trans m10).trans M⟩;simp only[World.cs,setS,zdM] at e9 e10;rw[hpl4] at es0 e8 e9;have hw8:(ET ((Bi store).take m++w.sess[i].past.drop m) m store[m].tag).length=4:=by rw[YQ];exact hpl4
   rw[DR.e,Am (by omega),Ac hi,Ae,A7,hld1,Ae,Aa,es0,Ag,Ac hms,ho',Ae,A7,ho12,Ae,Aa,Ab,Aa,Ab,Ag,e8,Ad,AS,Aa,Ai,Ag,e9,Ac hms,Ae,ho129,Ae,Aa,Ab,Aa,Ab,Ag,e10,Ad,AS,Aa,Ai,Aa,Ai,Aa,Ai,Aa,Ai,Ag,Au (by omega),<- ho'];rw[zdv,<- htm,<- Nl (by omega)];exact e
 rw[Ac hi,Ae,A7,hld',Ae,Aa,Ab,Aa,es',Aa,Ab,Aa,Ab,Aa,Ab,Ag,hpl,Ac hk,Ae,A7,hc2,Ae,Aa,e1,Ag,wr (by omega) (by omega),DE ⟨by omega,by omega⟩,Ae,show ((w.places[k].chain.length:Int) - 1).toNat=w.places[k].chain.length - 1 by omega,ho1,Ae,Aa,ez1,Ag];by_cases hw:w.sess[i].wait.time>0
 ·rw[Am hw];exact H.stay (by rw[hX,decide_eq_true hw];rfl)
 rw[decide_eq_false hw,zel,zdu] at hX;rw[Aj hw,e5,Ad,AS,Aa,es5,Ag,JN (m5.keep0 rtags_ok hv') r5 hp4 htl,Ad,Ax];cases hu:CD w.sess[i].past (Bi store) with
 | false =>rw[Az];obtain ⟨cs',h',F',e,W,M,N⟩:=Hq.stay (X:=JU w i w.sess[i]) (by rw[hX,hu];rfl);exact ⟨cs',h',F',e,W,mq.trans M,N⟩
 | true =>
 rw[hu,zdu] at hX;rw[Aq,wr (by omega) (by omega)];by_cases hh:(w.hist.length:Int)+4>80
 ·rw[Am hh];obtain ⟨cs',h',F',e,W,M,N⟩:=Hq.stay (X:=JU w i w.sess[i]) (by rw[hX,show Db w 4=false from decide_eq_false (by omega)];rfl);exact ⟨cs',h',F',e,W,mq.trans M,N⟩
 rw[show Db w 4=true from decide_eq_true (by omega),cond_true] at hX;have h0:setS w i ⟨w.sess[i].place,(Bi store).take 0++w.sess[i].past.drop 0,w.sess[i].wait,w.sess[i].key⟩ ((BP i (Bi store)).take 0)=w:=by have hse:w.sess.set i ⟨w.sess[i].place,w.sess[i].past,w.sess[i].wait,w.sess[i].key⟩=w.sess:=zew hi;simp only[setS,List.take_zero,zdO,zeg,zd0,hse]
 have hH1:∀ y∈H1,y∈F1:=λy hy=>(hF y (zdQ _ (hH1 y hy))).2.2
 obtain ⟨cs',h',F',e,W,M⟩:=loop 4 0 h1 _ _ _ _ _ _ _ _ _ _ _ _ (by omega) hu (by omega) (by rw[h0];exact Hq) (m5.keep0 rvers_ok gg1) hH1;simp only[List.take_zero,zd0] at e;rw[Aj hh,hX];exact ⟨cs',h',F',e,W,mq.trans M,λg=>by first | cases g | (simp at g)⟩
theorem Ph {F:List Nat}{cs:List V}{X:Option World}{t:Ov} (ht:∃ cs' h' F',t=some (.tup [.agg cs',.bool X.isSome],h')/\P0 lo h' cs' (X.getD w) F'/\Mv h F h' F'/\(X=none->cs'=cs)) :
  ∃ cs' h' F',(Ak t λv_2 h_3=>eU v_2 λc_4=>eC c_4 λv_5 l_6=>eA v_5 λc_7=>eC c_7 λv_8 l_9=>eS 6 (v_8) λa_10 n_11 c_12=>eC l_9 λv_13 l_14=>eS 5 (v_13) λa_15 n_16 c_17=>eC l_14 λv_18 l_19=>eS 9 (v_18) λa_20 n_21 c_22=>eC l_19 λv_23 l_24=>eS 5 (v_23) λa_25 n_26 c_27=>eN l_24 (eC l_6 λv_28 l_29=>eB v_28 (eN l_29 (some (V.tup [.agg [.sl 6 a_10 n_11 c_12,.sl 5 a_15 n_16 c_17,.sl 9 a_20 n_21 c_22,.sl 5 a_25 n_26 c_27],.bool true],h_3))) (eN l_29 (some (V.tup [.agg [.sl 6 a_10 n_11 c_12,.sl 5 a_15 n_16 c_17,.sl 9 a_20 n_21 c_22,.sl 5 a_25 n_26 c_27],.bool false],h_3)))))=some (.tup [.agg cs',.bool X.isSome],h')/\P0 lo h' cs' (X.getD w) F'/\Mv h F h' F'/\(X=none->cs'=cs):=by
 obtain ⟨cs',h',F',rfl,W,M,N⟩:=ht;refine ⟨cs',h',F',?_,W,M,N⟩;obtain ⟨x1,y1,x2,y2,x3,y3,x4,y4,K1,K2,K3,K4,rfl,_,_⟩:=W;rw[Ad,Kd,Aa,AS,Aa,Ai,Aa,Ai,Aa,Ai,Aa,Ai,Ag,Aa,Ax];cases X.isSome
 ·rw[Az,Ag]
 ·rw[Aq,Ag]
theorem Sz {e:Event} (H:WR lo h w a1 c1 a2 c2 a3 c3 a4 c4 F1 F2 F3 F4) (hg:Fits w) (ht:e.text.size<=1048576) :
  ∃ cs' h' F',Af lo 184 [.agg (w.cs a1 c1 a2 c2 a3 c3 a4 c4),.agg e.cs] h=some (.tup [.agg cs',.bool (Ef w e).isSome],h')/\P0 lo h' cs' ((Ef w e).getD w) F'/\Mv h (F1++(F2++(F3++F4))) h' F'/\((Ef w e)=none->cs'=w.cs a1 c1 a2 c2 a3 c3 a4 c4):=by
 obtain ⟨kind,at',num,key,text,gone⟩:=e;suffices hk:∃ cs' h' F',_=some (V.tup [.agg cs',.bool (Ef w ⟨kind,at',num,key,text,gone⟩).isSome],h')/\P0 lo h' cs' ((Ef w ⟨kind,at',num,key,text,gone⟩).getD w) F'/\Mv h (F1++(F2++(F3++F4))) h' F'/\((Ef w ⟨kind,at',num,key,text,gone⟩)=none->cs'=w.cs a1 c1 a2 c2 a3 c3 a4 c4) from by obtain ⟨cs',h',F',e,hr⟩:=hk;exact ⟨cs',h',F',P1 e,hr⟩
 have hs4:=hg.ok.s4;unfold Ef;rw[wr (by omega) (by omega),B0,Ad,Ax];cases hat:Ah at' 0 ((w.sess.length:Int) - 1) with
 | false=>rw[Az];exact H.stay rfl
 | true =>
 simp only[Ah,DH,decide_eq_true_eq] at hat;obtain ⟨i,rfl⟩:∃ i:Nat,at'=(i:Int):=⟨at'.toNat,by omega⟩;have hi:i<w.sess.length:=by omega
 rw[Aq,cond_true,A7,DZ hi];simp only[];cases h1:kind==1 with
 | true=>rw[Aq,cond_true];exact Ph (Uo H hg ht hi)
 | false =>
 rw[Az,cond_false];cases h2:kind==2 with
 | true=>rw[Aq,cond_true];exact Ph (WU H hg hi)
 | false =>
 rw[Az,cond_false];cases h3:kind==3 with
 | true=>rw[Aq,cond_true];exact Ph (VC H hg hi)
 | false =>
 rw[Az,cond_false];cases h4:kind==4 with
 | true=>rw[Aq,cond_true];exact Ph (WV H hg hi)
 | false =>
 rw[Az,cond_false];obtain ⟨b',i',v,e1',d1',Gs,rfl,_,_,hld2,es',hv',hv,hGn,puts⟩:=H.sess hi;rw[Ac hi,Ae,hld2,Ae,Aa,Ag,Ab];unfold TM;by_cases hw:w.sess[i].wait.time>0
 ·rw[Am hw];exact H.stay (by rw[decide_eq_true hw];rfl)
 rw[Aj hw,decide_eq_false hw,zel,zdu,B0,Ad,Ax];cases hwn:Ah num 0 2 with
 | false=>rw[Az];exact H.stay rfl
 | true =>
 obtain ⟨h2',F5,e2,q2,m2,_⟩:=puts h Gs 0 [Iv num] [Iv num,v,Iv w.sess[i].wait.time,Iv w.sess[i].wait.place,Iv w.sess[i].key] ⟨num,w.sess[i].past,w.sess[i].wait,w.sess[i].key⟩ (Mv.refl hGn) rfl ⟨v,rfl,hv⟩;have W:=q2.at;simp only[World.cs,zdM] at W;rw[Aq,Ac hi,Ae,e2,Ae,cond_true];refine ⟨_,h2',_,rfl,?_,m2,λg=>by first | cases g | (simp at g)⟩;simpa only [setS,zeu,zd0] using W
theorem YY {e:Event} (H:WR lo h w a1 c1 a2 c2 a3 c3 a4 c4 F1 F2 F3 F4) (hg:Fits w) (ht:e.text.size<=1048576) :
  ∃ cs' h' F',Af lo 102 [.agg (w.cs a1 c1 a2 c2 a3 c3 a4 c4),.agg e.cs] h=some (.tup [.agg cs',.bool (He w e).isSome],h')/\P0 lo h' cs' (zco w e) F'/\Mv h (F1++(F2++(F3++F4))) h' F'/\((He w e)=none->cs'=w.cs a1 c1 a2 c2 a3 c3 a4 c4):=by
 have hc:=Sz H hg ht;have hp:=Up (e:=e) H hg;have hn:=WT (e:=e) H hg;obtain ⟨kind,at',num,key,text,gone⟩:=e;unfold zco;suffices hk:∃ cs' h' F',_=some (V.tup [.agg cs',.bool (He w ⟨kind,at',num,key,text,gone⟩).isSome],h')/\P0 lo h' cs' ((He w ⟨kind,at',num,key,text,gone⟩).getD w) F'/\Mv h (F1++(F2++(F3++F4))) h' F'/\((He w ⟨kind,at',num,key,text,gone⟩)=none->cs'=w.cs a1 c1 a2 c2 a3 c3 a4 c4) from by obtain ⟨cs',h',F',e,hr⟩:=hk;exact ⟨cs',h',F',WJ e,hr⟩
 rw[B0,Ad,Ax];unfold He;cases h1:Ah kind 1 5 with
 | true=>rw[Aq,cond_true];exact Ph hc
 | false =>
 rw[Az,cond_false,B0,Ad,Ax];cases h2:Ah kind 6 9 with
 | true=>rw[Aq,cond_true];exact Ph hp
 | false =>
 rw[Az,cond_false,B0,Ad,Ax];unfold V0 at hn;cases h3:kind==10 with
 | true =>
  have h4:Ah kind 10 13=true:=by rw[beq_iff_eq] at h3;subst h3;rfl
  simp only[h3,cond_true] at hn;rw[h4,Aq,cond_true];exact Ph hn
 | false =>
  simp only[h3,cond_false] at hn;rw[cond_false];cases h4:Ah kind 11 13 with
  | true =>
   have h5:Ah kind 10 13=true:=by simp[Ah] at h4 ⊢;omega
   rw[h5,Aq,cond_true];exact Ph hn
  | false =>
   have h5:Ah kind 10 13=false:=by rw[beq_eq_false_iff_ne] at h3;simp[Ah] at h4 ⊢;omega
   rw[h5,Az];exact H.stay rfl
end


def Nr (m:Nat) (n:Nat):Place:=⟨(m:Int),0,List.replicate n ⟨Kn,[]⟩,[],[[],[],[]],false⟩
def zbE (i:Nat):Sess:=⟨((i % 3:Nat):Int),TH,⟨0,0⟩,0⟩
def Ej (n s:Nat):World:=⟨(List.range 3).map λi=>Nr i n,(List.range s).map zbE,[],[]⟩
theorem zbF {m n:Nat} (h1:1<=n) (h4:n<=4) (hm:m<=2):Av (Nr m n)=true:=by
 have hc:∀ n:Fin 5,1<=n.val->∀ m:Fin 3,Av (Nr m.val n.val)=true:=by decide +kernel
 exact hc ⟨n,by omega⟩ h1 ⟨m,by omega⟩
theorem Zc {m n:Nat} (h1:1<=n) (h4:n<=4) (hm:m<=2):Roomy (Nr m n):=by
 have hz:∀ v,inCh (Nr m n).chain v->v.tag.time=0:=λv ⟨x,hx,hv⟩=>by
  have hx:=(List.mem_replicate.1 hx).2;subst hx;rcases hv with hv | hv
  ·have:∀ v∈Kn,v.tag.time=0:=by simp[Kn,Vt]
   exact this v hv
  ·simp at hv
 refine ⟨⟨[],by simp,by simp[Nr],λv hv ht=>by have:=hz v hv;omega⟩,λv hv ht=>?_⟩;have hpos:0<(Nr m n).chain.length:=by show 0<(List.replicate _ _).length;rw[zd3];omega
 have hl:=E4 hpos;rw[hl] at hv;have:=hz v ⟨_,zdf (by omega),.inl hv⟩;omega
theorem zbD {i:Nat}:GB (zbE i)=true:=by
 have hc:∀ m:Fin 3,GB ⟨((m.val:Nat):Int),TH,⟨0,0⟩,0⟩=true:=by decide +kernel
 exact hc ⟨i % 3,Nat.mod_lt _ (by decide)⟩
theorem Ow {n s:Nat} (h1:1<=n) (h4:n<=4) (hs:s<=4):Good (Ej n s):=by
 have hp:∀ (i:Nat) (p:Place),(Ej n s).places[i]?=some p->i<3/\p=Nr i n:=λi p hp=>by simp only[Ej,List.getElem?_map,zdU] at hp;obtain ⟨j,hj,rfl⟩:=hp;obtain ⟨hi,rfl⟩:=DY hj;rw[List.length_range] at hi;exact ⟨hi,by rw[List.getElem_range]⟩
 refine ⟨⟨by simp[Ej],by simp[Ej,hs],by simp[Ej],by simp[Ej],λi p h=>?_,λx hx=>?_,by simp[Ej],by simp[Ej],λi p k g h hg=>?_⟩,λp h=>?_⟩
 ·obtain ⟨hi,rfl⟩:=hp i p h;exact ⟨rfl,zbF h1 h4 (by omega)⟩
 ·simp only[Ej,zeZ] at hx;obtain ⟨i,_,rfl⟩:=hx;exact zbD
 ·obtain ⟨hi,rfl⟩:=hp i p h;refine ⟨GI (Ej n s).places k,?_⟩;have:g = []:=by
   have:(Nr i n).got=List.replicate 3 []:=rfl;rw[this,List.getElem?_replicate] at hg;split at hg
   ·injection hg with hg;exact hg.symm
   ·cases hg
  rw[this];rfl
 ·obtain ⟨i,hi⟩:=zdA.1 h;obtain ⟨h3,rfl⟩:=hp i p hi;exact Zc h1 h4 (by omega)
section
variable {lo:Nat}{h h':Heap}{w:World}{a1 a2 a3 a4 a:Pq}{c1 c2 c3 c4 c:Nq}{F F' F1 F2 F3 F4:List Nat}
theorem WR.of {cs:List V} (hw:X7 false h cs w F) (hnd:F.Nodup) (hge:∀ y∈F,lo<=y) (hl:lo<=h.length):∃ s1 s2 s3 s4 a1 c1 a2 c2 a3 c3 a4 c4 F1 F2 F3 F4,cs = [s1,s2,s3,s4]/\F=F1++(F2++(F3++F4)) /\
  (∀ {T:Type} (K:Pq->Nat->Nq->Option T),eS 6 s1 K=K a1 w.places.length c1)/\(∀ {T:Type} (K:Pq->Nat->Nq->Option T),eS 5 s2 K=K a2 w.sess.length c2) /\
  (∀ {T:Type} (K:Pq->Nat->Nq->Option T),eS 9 s3 K=K a3 w.net.length c3)/\(∀ {T:Type} (K:Pq->Nat->Nq->Option T),eS 5 s4 K=K a4 w.hist.length c4)/\WR lo h w a1 c1 a2 c2 a3 c3 a4 c4 F1 F2 F3 F4:=by
 obtain ⟨s1,s2,s3,s4,F1,F2,F3,F4,rfl,rfl,r1,r2,r3,r4⟩:=hw;obtain ⟨a1,c1,e1,r1⟩:=r1.form;obtain ⟨a2,c2,e2,r2⟩:=r2.form;obtain ⟨a3,c3,e3,r3⟩:=r3.form;obtain ⟨a4,c4,e4,r4⟩:=r4.form;exact ⟨s1,s2,s3,s4,a1,c1,a2,c2,a3,c3,a4,c4,F1,F2,F3,F4,rfl,rfl,e1,e2,e3,e4,r1,r2,r3,r4,hnd,hge,hl⟩
theorem WW {m n:Nat} (h1:1<=n) (h4:n<=4) :
  ∃ raw b1 d1 b3 d3 h' F',Af lo 216 [Iv (m:Nat),Iv (n:Nat)] h=some (.agg raw,h')/\raw = [Iv (m:Nat),Iv 0,.sl 2 b1 n d1,.sl 0 none 0 (some 0),.sl 1 b3 3 d3,.bool false] /\
   RPlace false h' [Iv (m:Nat),Iv 0,.sl 2 b1 n d1,.sl 6 none 0 (some 0),.sl 1 b3 3 d3,.bool false] (Nr m n) F'/\Mv h [] h' F':=by
 obtain ⟨v,h2,F2,e2,r2,m2⟩:=SB (lo:=h.length) (h:=h) h1 h4 (zdj _);obtain ⟨b1,d1,es,r2⟩:=r2.form;rw[zd3] at es r2;have mx:Mv h2 [] (h2 ++ [.rows 1 26 false [[.sl 0 none 0 (some 0)],[.sl 0 none 0 (some 0)],[.sl 0 none 0 (some 0)]]]) [h2.length]:=Mv.last;have m3:=m2.join mx (rnodes_ok.bd _ _ _ _ r2);refine ⟨_,b1,d1,some (h2.length,0),some 3,_,F2 ++ [h2.length],Vd ?_,rfl,⟨_,_,_,F2,[],[h2.length],rfl,rfl,mx.keep0 rnodes_ok r2,Sli.nil,?_⟩,m3⟩
 ·rw[e2,Ad,AS,Aa,es,Ag]
 ·refine ⟨1,some (h2.length,0),some 3,rfl,rfl,[[.sl 0 none 0 (some 0)],[.sl 0 none 0 (some 0)],[.sl 0 none 0 (some 0)]],[[],[],[]],by simp,zdj 3,λk hk=>by injection hk with hk;subst hk;exact ⟨zdj 3,zdj 3⟩,(λhk=>by cases hk),?_,rfl⟩;exact ⟨Sli.nil,Sli.nil,Sli.nil,trivial⟩
end


section
variable {lo:Nat}{h h':Heap}{w:World}{a1 a2 a3 a4 a:Pq}{c1 c2 c3 c4 c:Nq}{F F' F1 F2 F3 F4:List Nat}
theorem YD {T:Type} (K:Pq->Nat->Nq->Option T):eS 6 (.sl 0 none 0 (some 0)) K=K none 0 (some 0):=rfl
theorem WS {n s:Nat} (h1:1<=n) (h4:n<=4) (hs:s<=1000) (hl:lo<=h.length):∃ cs h' F',Af lo 146 [Iv (n:Nat),Iv (s:Nat)] h=some (.agg cs,h')/\X7 false h' cs (Ej n s) F'/\Mv h [] h' F':=by
 obtain ⟨q1,x1,y1,h1',F1,e1,r1,m1⟩:=I5 (El:=RPlace false) rplace_ok (h:=h) (l:=List.range 3) (f:=λi=>Nr i n) (lo:=lo) (R:=6) (e:=29) (bytes:=96) hl (by decide) (by decide)
  (λi q a n1 c hh=>DQ lo (n:Nat) (s:Nat) (i:Nat) 0 none 0 (some 0) 0 none 0 (some 0) 0 none 0 (some 0) 0 none 0 (some 0) q a n1 c 0 none 0 (some 0) 0 none 0 (some 0) 0 none 0 (some 0) hh) (λi hi q a n1 c hh hm=>by
   rw[List.length_range] at hi;obtain ⟨raw,b1,d1,b3,d3,h2,F2,e2,rfl,r2,m2⟩:=WW (lo:=lo) (h:=hh) (m:=i) h1 h4;refine ⟨[Iv (i:Nat),Iv 0,.sl 2 b1 n d1,.sl 6 none 0 (some 0),.sl 1 b3 3 d3,.bool false],F2,h2 ++ [.rows 6 29 false [[Iv (i:Nat),Iv 0,.sl 2 b1 n d1,.sl 6 none 0 (some 0),.sl 1 b3 3 d3,.bool false]]],by rw[List.getElem_range];exact Mv.snoc.keep0 rplace_ok r2,m2.trans (Mv.snoc' m2.nd),?_⟩;rw[DQ.e,Am (by omega),e2,Ad,AS,Aa,Ab,Aa,Ab,Aa,Ai,Aa,YD,Aa,Ai,Aa,AK,Ag,AX,Au (by omega)])
 obtain ⟨q2,x2,y2,h2',F2,e2,r2,m2⟩:=I5 (El:=RSess false) IX (h:=h1') (l:=List.range s) (f:=zbE) (lo:=lo) (R:=5) (e:=66) (bytes:=56) (zdh hl m1.le) (by decide) (by rw[List.length_range];omega)
  (λi q a n1 c hh=>DP lo (s:Nat) (i:Nat) 0 none 0 (some 0) 0 none 0 (some 0) 0 none 0 (some 0) 0 none 0 (some 0) q1 x1 3 y1 q a n1 c 0 none 0 (some 0) 0 none 0 (some 0) hh) (λi hi q a n1 c hh hm=>by
   rw[List.length_range] at hi;obtain ⟨h2,q3,e3,t3,m3⟩:=VJ (lo:=lo) (h:=hh);have ht:((i:Int).tmod 3)=((i % 3:Nat):Int):=(Int.ofNat_tmod i 3).symm;refine ⟨[Iv ((i % 3:Nat):Int),.sl 2 (some (q3,0)) 4 (some 4),Iv 0,Iv 0,Iv 0],[q3],h2 ++ [.rows 5 66 false [[Iv ((i % 3:Nat):Int),.sl 2 (some (q3,0)) 4 (some 4),Iv 0,Iv 0,Iv 0]]],by rw[List.getElem_range];exact ⟨_,rfl,Mv.snoc.keep0 rtags_ok t3⟩,m3.trans (Mv.snoc' m3.nd),?_⟩;rw[DP.e,Am (by omega),e3,Ad,AS,Aa,Ai,Ag,ht,AX,Au (by omega)])
 rw[List.length_range] at e1 r1 e2 r2;have m3:=m1.join m2 ((Sli.ok rplace_ok).bd _ _ _ _ r1);refine ⟨[.sl q1 x1 3 y1,.sl q2 x2 s y2,.sl 0 none 0 (some 0),.sl 0 none 0 (some 0)],h2',F1++(F2++([] ++ [])),U9 ?_,⟨_,_,_,_,F1,F2,[],[],rfl,rfl,m2.keep0 rplaces_ok r1,r2,Sli.nil,Sli.nil⟩,by simpa using m3⟩;refine e1.trans ?_;rw[DQ.e,Aj (by omega)];refine e2.trans ?_;rw[DP.e,Aj (by omega)]
end


abbrev REvents:Rel (List Event):=Sli false 6 74 (flat Event.cs)
theorem revents_ok:REvents.Ok:=Sli.ok DF
section
variable {lo:Nat}{h h':Heap}{w:World}{a1 a2 a3 a4 a:Pq}{c1 c2 c3 c4 c:Nq}{E F F' F1 F2 F3 F4:List Nat}{b n:Nat}
theorem nd3 {E F:List Nat} (hn:(b ::(E++F)).Nodup):b∉E/\b∉F/\E.Nodup/\F.Nodup/\∀ y∈E,y∉F:=by rw[zdn,zde,zdg] at hn;simp only[not_or] at hn;exact ⟨hn.1.1,hn.1.2,hn.2.1,hn.2.2.1,λy hy hm=>hn.2.2.2 y hy y hm rfl⟩
theorem YO {cs:List V} (hw:X7 false h cs w F) (m:Mv h' [] h F) (hl':lo<=h'.length):∃ s1 s2 s3 s4 a1 c1 a2 c2 a3 c3 a4 c4 F1 F2 F3 F4,cs = [s1,s2,s3,s4]/\F=F1++(F2++(F3++F4)) /\
  (∀ {T:Type} (K:Pq->Nat->Nq->Option T),eS 6 s1 K=K a1 w.places.length c1)/\(∀ {T:Type} (K:Pq->Nat->Nq->Option T),eS 5 s2 K=K a2 w.sess.length c2) /\
  (∀ {T:Type} (K:Pq->Nat->Nq->Option T),eS 9 s3 K=K a3 w.net.length c3)/\(∀ {T:Type} (K:Pq->Nat->Nq->Option T),eS 5 s4 K=K a4 w.hist.length c4)/\WR lo h w a1 c1 a2 c2 a3 c3 a4 c4 F1 F2 F3 F4 :=
 WR.of hw m.nd (m.ge hl' (by simp)) (zdh hl' m.le)
end


variable {l:List Event}
def Ld (w:World) (l:List Event):World:=l.foldl zco w
theorem QY {w:World}{e:Event}:Ld w (e :: l)=Ld (zco w e) l:=rfl
theorem OL:∀ {l:List Event}{w:World},Good w->Good (Ld w l)
 | [],_,h=>h
 | _ :: l,_,h=>OL (l:=l) (UK h)
section
variable {lo:Nat}{h h':Heap}{w:World}{a1 a2 a3 a4 a:Pq}{c1 c2 c3 c4 c:Nq}{E F F' F1 F2 F3 F4:List Nat}{b n:Nat}
theorem Yq (hg:Good w):Jo w:=by
 have h1:=hg.ok.p3;have h2:=hg.ok.s4;have h3:=hg.ok.n12;have h4:=hg.ok.h80;refine ⟨⟨by omega,λp hp=>?_⟩,⟨by omega,λs hs=>?_⟩,⟨by omega,λf hf=>?_⟩,by omega⟩
 ·obtain ⟨i,hi⟩:=zdA.1 hp;exact (D1 (Bd (hg.ok.place i p hi).2) (by decide) (by decide) (by decide)).1
 ·have:=BQ (BD (hg.ok.sess s hs)).2.1;omega
 ·have:=(Pu hg.fits (hg.ok.net f hf)).1;have h1:=this.1;have h2:=this.2;omega
theorem Y6 (ht:∀ e∈l,e.text.size<=1048576) (hl6:l.length<=1048576):∀ (r m:Nat) (hh:Heap) (w:World) (E:List Nat) (x1:Pq) (y1:Nq) (x2:Pq) (y2:Nq) (x3:Pq) (y3:Nq) (x4:Pq) (y4:Nq) (K1 K2 K3 K4:List Nat),
  m+r=l.length->REvents hh [.sl 6 a l.length c] l E->WR lo hh w x1 y1 x2 y2 x3 y3 x4 y4 K1 K2 K3 K4->Good w->(∀ y∈E,y∉K1++(K2++(K3++K4))) ->
  ∃ cs' h' F',Cp lo a l.length c (m:Nat) 0 none 0 (some 0) 0 none 0 (some 0) 0 none 0 (some 0) 0 none 0 (some 0) x1 w.places.length y1 x2 w.sess.length y2 x3 w.net.length y3 x4 w.hist.length y4 hh=some (.agg cs',h')/\P0 lo h' cs' (Ld w ((l.take 60).drop m)) F'/\Mv hh (K1++(K2++(K3++K4))) h' F':=by
 intro r;induction r with
 | zero =>intro m hh w E x1 y1 x2 y2 x3 y3 x4 y4 K1 K2 K3 K4 hm re H hg hd;exact ⟨_,hh,_,by rw[Cp.e,Aj (by omega)],by rw[List.drop_of_length_le (by rw[zdD];omega)];exact H.at,Mv.refl H.nd⟩
 | succ r ih =>
  intro m hh w E x1 y1 x2 y2 x3 y3 x4 y4 K1 K2 K3 K4 hm re H hg hd;by_cases h60:(m:Int)<60
  ·have hml:m<l.length:=by omega
   obtain ⟨o,row,G,ha,hld,⟨rfl,_⟩,_⟩:=re.read hml;obtain ⟨cs2,h2,F2,e2,⟨z1,t1,z2,t2,z3,t3,z4,t4,Q1,Q2,Q3,Q4,rfl,rfl,H2⟩,m2,_⟩:=YY (e:=l[m]) H hg.fits (ht _ (zdf hml));have re2:=m2.keep revents_ok re hd;have hEb:=revents_ok.bd _ _ _ _ re;obtain ⟨cs',h',F',f1,f2,f4⟩:=ih (m+1) h2 (zco w l[m]) E _ _ _ _ _ _ _ _ _ _ _ _ (by omega) re2 H2 (UK hg) (λy hy hm=>by
    rcases m2.sub y hm with g | g
    ·exact hd y hy g
    ·have:=hEb y hy;omega)
   have hld6:ld hh o.1 (o.2+m) 0 6=some l[m].cs:=by rw[hld];exact GN rfl
   simp only[Event.cs] at hld6;simp only[Event.cs,World.cs] at e2;have hdr:(l.take 60).drop m=l[m] ::(l.take 60).drop (m+1):=by rw[zdw (show m<(l.take 60).length by rw[zdD];omega),List.getElem_take]
   refine ⟨cs',h',F',?_,by rw[hdr,QY];exact f2,m2.trans f4⟩;rw[Cp.e,Am (by omega),Am h60,Ac hml,ha,Ae,A7,hld6,Ae,Aa,Ab,Aa,Ab,Aa,Ab,Aa,Ab,Aa,BO,Aa,AK,Ag,e2,Ad,Kd,Aa,AS,Aa,Ai,Aa,Ai,Aa,Ai,Aa,Ai,Ag,Aa,Ax,Ag,Au (by omega),<- ha];cases (He w l[m]).isSome
   ·rw[Az];exact f1
   ·rw[Aq];exact f1
  ·exact ⟨_,hh,_,by rw[Cp.e,Am (by omega),Aj h60],by rw[List.drop_of_length_le (by rw[zdD];omega)];exact H.at,Mv.refl H.nd⟩
theorem VD {n0 s0:Nat} (h1:1<=n0) (h4:n0<=4) (hs:s0<=4) (re:REvents h [.sl 6 a l.length c] l E) (ht:∀ e∈l,e.text.size<=1048576) (hl6:l.length<=1048576) (hl:lo<=h.length) :
  ∃ cs' h' F',Af lo 74 [Iv (n0:Nat),Iv (s0:Nat),.sl 6 a l.length c] h=some (.agg cs',h')/\P0 lo h' cs' (Ld (Ej n0 s0) (l.take 60)) F'/\Mv h [] h' F':=by
 obtain ⟨cs,h2,F2,e2,w2,m2⟩:=WS (lo:=lo) (h:=h) h1 h4 (by omega:s0<=1000) hl;obtain ⟨s1,s2,s3,s4,a1,c1,a2,c2,a3,c3,a4,c4,K1,K2,K3,K4,rfl,rfl,es1,es2,es3,es4,H⟩:=YO w2 m2 hl;have hEb:=revents_ok.bd _ _ _ _ re;obtain ⟨cs',h',F',f1,f2,f4⟩:=Y6 ht hl6 l.length 0 h2 (Ej n0 s0) E _ _ _ _ _ _ _ _ _ _ _ _ (by omega) (m2.keep0 revents_ok re) H (Ow h1 h4 hs) (λy hy hm=>by have:=m2.new y hm;have:=hEb y hy;omega);refine ⟨cs',h',F',ST ?_,by rw[zeg] at f2;exact f2,m2.trans f4⟩;rw[e2,Ad,AS,Aa,es1,Aa,es2,Aa,es3,Aa,es4,Ag];exact f1
end


variable {w:World}
structure More (w w':World):Prop where
 len:w'.sess.length=w.sess.length
 past:∀ (i:Nat) (s s':Sess),w.sess[i]?=some s->w'.sess[i]?=some s'->CD s.past s'.past=true
 hist:∃ r,w'.hist=w.hist++r
theorem More.refl:More w w:=⟨rfl,λi s s' h h'=>by rw[h] at h';injection h' with h';subst h';exact EY,[],by simp⟩
theorem More.trans {u v w:World} (hu:Good u) (hv:Good v) (h1:More u v) (h2:More v w):More u w:=by obtain ⟨r1,e1⟩:=h1.hist;obtain ⟨r2,e2⟩:=h2.hist;refine ⟨h2.len.trans h1.len,λi s s' h h'=>?_,r1++r2,by rw[e2,e1,zdv]⟩;have hi:=(DY h).1;have hv':=DZ (show i<v.sess.length by rw[h1.len];exact hi);have l1:=BQ (BD (hu.ok.sess _ (zdt h))).2.1;have l2:=BQ (BD (hv.ok.sess _ (zdt hv'))).2.1;exact Pj (by omega) (h1.past i _ _ h hv') (h2.past i _ _ hv' h')
theorem More.setS {w:World}{i:Nat}{s t:Sess}{ds:List Done} (hs:w.sess[i]?=some s) (hu:CD s.past t.past=true):More w (Go.Proofs.YtmgopagfoemomaaGreat.setS w i t ds):=by
 refine ⟨by simp[Go.Proofs.YtmgopagfoemomaaGreat.setS],λj x y hx hy=>?_,ds,rfl⟩;simp only[Go.Proofs.YtmgopagfoemomaaGreat.setS] at hy;by_cases hij:i=j
 ·subst hij;rw[zdr (DY hs).1] at hy;injection hy with hy;rw[hs] at hx;injection hx with hx;subst hx;subst hy;exact hu
 ·rw[zdi hij,hx] at hy;injection hy with hy;subst hy;exact EY
theorem More.same {w':World} (h1:w'.sess=w.sess) (h2:w'.hist=w.hist):More w w':=⟨by rw[h1],λi s s' h h'=>by rw[h1,h] at h';injection h' with h';subst h';exact EY,[],by rw[h2];simp⟩


variable {rs:List (List V)}{p:Place}
def CC (rs:List (List V)) (i:Nat) (row:List V):Blk := .rows 6 29 false (rs.set i row)
theorem Dg {h:Heap}{b i j n:Nat}{row:List V} (hil:i<rs.length) (hb:h[b]?=some (CC rs i row)):ld h b i j n=cut row j n :=
 CA (R:=6) (e:=29) (ro:=false) (rs:=rs.set i row) hb (by simp[hil])
theorem LM {lo:Nat}{h:Heap}{b i j:Nat}{row row' cs:List V} (hb:h[b]?=some (CC rs i row)) (hl:lo<=b) (hil:i<rs.length) (hp:paste row j cs=some row'):st lo h b i j cs=some (h.set b (CC rs i row')):=by have e:=Bt (lo:=lo) (R:=6) (e:=29) (rs:=rs.set i row) (r:=i) (row:=row) hb hl (by simp[hil]) hp;rw[e,zd1];rfl
section
variable {lo:Nat}{ro:Bool}{h:Heap}{F F':List Nat}{a a':Pq}{c c':Nq}
theorem UG {b i0:Nat} (hrl:i0<rs.length) {a1 a2 a3:Pq}{c1 c2 c3:Nq}{F1 F2:List Nat} (hb:h[b]?=some (CC rs i0 (p.cs a1 c1 a2 c2 a3 c3))) (hs1:RNodes false h [.sl 2 a1 p.chain.length c1] p.chain F1) (hs2:RVers false h [.sl 6 a2 p.log.length c2] p.log F2)
  (h0:0<p.chain.length) (h4:(Eu p.chain).length=4) (hd:∀ y∈F1,y∉b :: F2) (hnd:(b :: F2).Nodup) (hlo:∀ y∈b :: F2,lo<=y) (hl:lo<=h.length) (hcl:p.chain.length<=1048576) (hlog:p.log.length<=1000000) (hvn:∀ v∈Eu p.chain,v.past.length<=1048576)
  (htag:∀ v∈Eu p.chain,CY v.tag.time v.tag.place=true) :
  ∃ a2' c2' h' F2',Af lo 120 [.ptr (some (b,(i0,0)))] h=some (.tup [],h')/\h'[b]?=some (CC rs i0 ((BL p).cs a1 c1 a2' c2' a3 c3))/\RVers false h' [.sl 6 a2' (BL p).log.length c2'] (BL p).log F2'/\Mv h (b :: F2) h' (b :: F2'):=by
 have hblt:b<h.length:=(DY hb).1;have hlob:=hlo b (by simp);have hld2:ld h b i0 (0+2) 1=some [.sl 2 a1 p.chain.length c1]:=by rw[Dg hrl hb];rfl
 obtain ⟨b1,d1,G1,e1,q1,q3⟩:=J9 (lo:=lo) hld2 hs1 h0 hcl;rw[E4 h0] at h4 hvn htag;have one:∀ m i,m+i=4->∀ hh ax cx (lg:List Ver) Fx,hh[b]?=some (CC rs i0 [Iv p.me,Iv p.clock,.sl 2 a1 p.chain.length c1,.sl 6 ax lg.length cx,.sl 1 a3 p.got.length c3,.bool p.fell])->RVers false hh [.sl 6 ax lg.length cx] lg Fx->Mv h (b :: F2) hh (b :: Fx)->lg.length<=1000000+i->∃ a' c' h' F',
   AP lo b i0 0 b1 (p.chain[p.chain.length - 1]'(by omega)).store.length d1 ((p.chain[p.chain.length - 1]'(by omega)).store.length:Nat) (i:Nat) hh =
    AP lo b i0 0 b1 (p.chain[p.chain.length - 1]'(by omega)).store.length d1 ((p.chain[p.chain.length - 1]'(by omega)).store.length:Nat) (4:Nat) h' /\
   h'[b]?=some (CC rs i0 [Iv p.me,Iv p.clock,.sl 2 a1 p.chain.length c1,.sl 6 a' (((p.chain[p.chain.length - 1]'(by omega)).store.drop i).foldl (noted p.me) lg).length c',.sl 1 a3 p.got.length c3,.bool p.fell]) /\
   RVers false h' [.sl 6 a' (((p.chain[p.chain.length - 1]'(by omega)).store.drop i).foldl (noted p.me) lg).length c'] (((p.chain[p.chain.length - 1]'(by omega)).store.drop i).foldl (noted p.me) lg) F'/\Mv h (b :: F2) h' (b :: F'):=by
  intro m;induction m with
  | zero =>intro i hi hh ax cx lg Fx hbb hr hm hlen;rw[zdZ (by omega),show i=4 by omega];exact ⟨ax,cx,hh,Fx,rfl,hbb,hr,hm⟩
  | succ m ih =>
   intro i hi hh ax cx lg Fx hbb hr hm hlen;have hil:i<(p.chain[p.chain.length - 1]'(by omega)).store.length:=by omega
   have q1':=hm.keep rvers_ok q1 λy hy=>hd y (q3 y hy);obtain ⟨o',s',b',d',G',ha',_,_,_,_,_,_,_,ho',es',hp',_⟩:=RVers.all q1' hil;have hmem:=zdf hil;have ht0:=QG (htag _ hmem);have stay:=ih (i+1) (by omega) hh ax cx lg Fx hbb hr hm (by omega);have hno:=@noted.eq_1 p.me lg ((p.chain[p.chain.length - 1]'(by omega)).store[i]'hil);have l0:ld hh b i0 (0+0) 1=some [Iv p.me]:=by rw[Dg hrl hbb];rfl
   have l3:ld hh b i0 (0+3) 1=some [.sl 6 ax lg.length cx]:=by rw[Dg hrl hbb];rfl
   rw[zdw hil,zd6];generalize hx:((p.chain[p.chain.length - 1]'(by omega)).store[i]'hil)=x at *
   rw[AP.e,Am (by omega),Ac hil];simp only[ha',Ae,A7,ho',Aa,Ab,es',BO,AK,Ag,l0,l3,Ai];rw[<- ha',Au (show i<9223372036854775807 by omega),PK hr (by omega),zeA];simp only[Ad,Ax,l3,Ae,Aa,Ag,Ai];cases g1:decide (x.tag.time>0) with
   | false =>rw[g1,Bool.not_eq_false'] at ht0;rw[ht0,Aq,hno,g1];exact stay
   | true =>
   rw[g1,zdV] at ht0;rw[ht0,Az];cases g2:(x.tag.place==p.me) with
   | false=>rw[Az,hno,g1,g2];exact stay
   | true =>
   rw[Aq];cases g3:CB lg x.tag with
   | true=>rw[Aq,hno,g1,g2,g3];exact stay
   | false =>
   rw[Az,hno,g1,g2,g3];have hnx:=hm.nd;rw[zdn] at hnx;obtain ⟨a3',c3',h3,F3,e3,r3,m3⟩:=Bu (lo:=hh.length) (v:=x) hp' (zdj _) (hvn _ hmem);obtain ⟨a5,c5,h5,F5,e5,r5,m5⟩:=DN (lo:=lo) (bytes:=72) (e:=43) rver_ok hr (row:=x.cs a3' c3') (x:=x) (G:=F3) (h1:=h3 ++ [.rows 6 43 false [x.cs a3' c3']])
    ⟨_,rfl,Mv.snoc.keep0 rtags_ok r3⟩ (m3.trans (Mv.snoc' m3.nd)) hnx.2 (λy hy=>hm.ge hl hlo y (by simp[hy])) (zdh hl hm.le) (by decide) (by omega)
   have hblth:b<hh.length:=zdq hblt hm.le;have hb5:h5[b]?=hh[b]?:=m5.fr b hblth hnx.1;rw[hbb] at hb5;have e6:=LM (cs := [.sl 6 a5 (lg.length+1) c5]) (j:=0+3) (row := [Iv p.me,Iv p.clock,.sl 2 a1 p.chain.length c1,.sl 6 ax lg.length cx,.sl 1 a3 p.got.length c3,.bool p.fell]) hb5 hlob hrl (EM (by simp));obtain ⟨m6,b6,k6,n6⟩:=m5.store hblth hnx.1 (CC rs i0 [Iv p.me,Iv p.clock,.sl 2 a1 p.chain.length c1,.sl 6 a5 (lg.length+1) c5,.sl 1 a3 p.got.length c3,.bool p.fell]);rw[e3];simp only[Ad,AS,Aa,Ab,Ai,BO,AK,Ag,AX];rw[e5];simp only[Ai];rw[e6];simp only[Ae];have:=ih (i+1) (by omega) (h5.set b (CC rs i0 [Iv p.me,Iv p.clock,.sl 2 a1 p.chain.length c1,.sl 6 a5 (lg.length+1) c5,.sl 1 a3 p.got.length c3,.bool p.fell])) a5 c5 (lg ++ [x]) F5 (by rw[zdy];exact b6) (by rw[zdy];exact rvers_ok.fr _ _ _ _ _ r5 λy hy=>k6 y λe=>n6 (e ▸ hy)) (hm.trans m6) (by simp;omega);exact this
 obtain ⟨a',c',h',F',el,hb',r,m⟩:=one 4 0 (by omega) h a2 c2 p.log F2 hb hs2 (Mv.refl hnd) (by omega);rw[zeg] at hb' r;generalize hres:(p.chain[p.chain.length - 1]'(by omega)).store.foldl (noted p.me) p.log=res at hb' r;have hnl:(BL p).log=res:=by simp only[BL,E4 h0,hres]
 have hblt':b<h'.length:=zdq hblt m.le;have hnx:=m.nd;rw[zdn] at hnx;have l3:ld h' b i0 (0+3) 1=some [.sl 6 a' res.length c']:=by rw[Dg hrl hb'];rfl
 have e6:=LM (cs := [.sl 6 a' res.length (some res.length)]) (j:=0+3) (row := [Iv p.me,Iv p.clock,.sl 2 a1 p.chain.length c1,.sl 6 a' res.length c',.sl 1 a3 p.got.length c3,.bool p.fell]) hb' hlob hrl (EM (by simp));obtain ⟨m6,b6,k6,n6⟩:=(Mv.refl (h:=h') hnx.2).store hblt' hnx.1 (CC rs i0 [Iv p.me,Iv p.clock,.sl 2 a1 p.chain.length c1,.sl 6 a' res.length (some res.length),.sl 1 a3 p.got.length c3,.bool p.fell]);generalize hh6:h'.set b (CC rs i0 [Iv p.me,Iv p.clock,.sl 2 a1 p.chain.length c1,.sl 6 a' res.length (some res.length),.sl 1 a3 p.got.length c3,.bool p.fell])=h6 at m6 b6 k6;have e6':st lo h' b i0 (0+3) [.sl 6 a' res.length (some res.length)]=some h6:=by rw[<- hh6];exact e6
 have r6:RVers false h6 [.sl 6 a' res.length (some res.length)] res F':=rvers_ok.fr _ _ _ _ _ r.clip λy hy=>k6 y λe=>hnx.1 (e ▸ hy);have l2:ld h6 b i0 (0+2+0) 1=some [.sl 2 a1 p.chain.length c1]:=by rw[Dg hrl b6];rfl
 have m7:=m.trans m6;have ec:=Og (lo:=lo) (g:=207) (cl := []) (p:=λx=>decide (x.wait.length>0)) (m7.keep rnodes_ok hs1 hd) hcl (λlo x a1 c1 a2 c2 _=>KX (h':=h6) (by
  by_cases hw:x.wait.length>0
  ·rw[Am (by omega),decide_eq_true hw]
  ·rw[Aj (by omega),decide_eq_false hw]))
 rw[zaA] at ec;suffices hq:∃ a2' c2' h' F2',_=some (V.tup [],h')/\h'[b]?=some (CC rs i0 ((BL p).cs a1 c1 a2' c2' a3 c3))/\RVers false h' [.sl 6 a2' (BL p).log.length c2'] (BL p).log F2'/\Mv h (b :: F2) h' (b :: F2') from hq.imp λ_ hq=>hq.imp λ_ hq=>hq.imp λ_ hq=>hq.imp λ_ hq=>⟨L9 hq.1,hq.2⟩
 rw[e1];simp only[Ad,AS,Aa,Ai,Ag];rw[show (0:Int)=((0:Nat):Int) from rfl,el,AP.e,Aj (by omega)];simp only[l3,Ae,Aa,Ai,Ag];rw[Lx r];simp only[Ad,Ai];rw[e6'];simp only[Ae,l2,Aa,Ai,Ag];rw[ec];simp only[Ad,Ax];have hcs:∀ f:Bool,f=(p.fell && !Zq p.chain)->([Iv p.me,Iv p.clock,.sl 2 a1 p.chain.length c1,.sl 6 a' res.length (some res.length),.sl 1 a3 p.got.length c3,.bool f]:List V)=(BL p).cs a1 c1 a' (some res.length) a3 c3:=by intro f hf;simp only[Place.cs,hnl];rw[hf];rfl
 cases hi:Zq p.chain with
 | false =>rw[hi] at hcs;rw[zel,Aq];refine ⟨a',some res.length,h6,F',rfl,?_,by rw[hnl];exact r6,m7⟩;rw[b6,hcs p.fell (by simp)]
 | true =>rw[hi] at hcs;rw[zei,Az];have e8:=LM (cs := [.bool false]) (j:=0+5) (row := [Iv p.me,Iv p.clock,.sl 2 a1 p.chain.length c1,.sl 6 a' res.length (some res.length),.sl 1 a3 p.got.length c3,.bool p.fell]) b6 hlob hrl (EM (by simp));obtain ⟨m8,b8,k8,n8⟩:=(Mv.refl (h:=h6) hnx.2).store (zdq hblt m7.le) hnx.1 (CC rs i0 [Iv p.me,Iv p.clock,.sl 2 a1 p.chain.length c1,.sl 6 a' res.length (some res.length),.sl 1 a3 p.got.length c3,.bool false]);rw[e8];simp only[Ae];refine ⟨a',some res.length,_,F',rfl,?_,by rw[hnl];exact rvers_ok.fr _ _ _ _ _ r6 λy hy=>k8 y λe=>hnx.1 (e ▸ hy),m7.trans m8⟩;rw[<- hcs false (by simp)];exact b8
theorem HX {b i0:Nat} (hrl:i0<rs.length) {a1 a2 a3:Pq}{c1 c2 c3:Nq}{F1 F2:List Nat} (hb:h[b]?=some (CC rs i0 (p.cs a1 c1 a2 c2 a3 c3))) (hs1:RNodes false h [.sl 2 a1 p.chain.length c1] p.chain F1) (hs2:RVers false h [.sl 6 a2 p.log.length c2] p.log F2)
  (h0:0<p.chain.length) (ht:Tidy 10 20 100 p) (hd:∀ y∈F1,y∉b :: F2) (hnd:(b :: F2).Nodup) (hlo:∀ y∈b :: F2,lo<=y) (hl:lo<=h.length) :
  ∃ a2' c2' h' F2',Af lo 120 [.ptr (some (b,(i0,0)))] h=some (.tup [],h')/\h'[b]?=some (CC rs i0 ((BL p).cs a1 c1 a2' c2' a3 c3))/\RVers false h' [.sl 6 a2' (BL p).log.length c2'] (BL p).log F2'/\Mv h (b :: F2) h' (b :: F2'):=by
 obtain ⟨x,hx,hxe⟩:=Mu h0;have hxn:=ht.node x hx;exact UG hrl hb hs1 hs2 h0 (by rw[hxe];exact hxn.1) hd hnd hlo hl (zdh ht.len (by decide)) (zdh ht.log.1 (by decide))
  (λv hv=>by rw[hxe] at hv;have:=(hxn.2.2.1 v hv).1;omega) (λv hv=>by rw[hxe] at hv;exact (hxn.2.2.1 v hv).2.2)
theorem SQ {t:Int}{b i0:Nat} (hrl:i0<rs.length) {a1 a2 a3:Pq}{c1 c2 c3:Nq}{F1 F2:List Nat} (hb:h[b]?=some (CC rs i0 (p.cs a1 c1 a2 c2 a3 c3))) (hs1:RNodes false h [.sl 2 a1 p.chain.length c1] p.chain F1) (hs2:RVers false h [.sl 6 a2 p.log.length c2] p.log F2)
  (h0:0<p.chain.length) (ht:Tidy 10 20 100 p) (hd:∀ y∈F1,y∉b :: F2) (hnd:(b :: F2).Nodup) (hlo:∀ y∈b :: F2,lo<=y) (hl:lo<=h.length) :
  ∃ h1 a2' c2' h' F2',st lo h b i0 (0+1) [Iv t]=some h1/\Af lo 120 [.ptr (some (b,(i0,0)))] h1=some (.tup [],h')/\h'[b]?=some (CC rs i0 ((BL (EB p t)).cs a1 c1 a2' c2' a3 c3)) /\
   RVers false h' [.sl 6 a2' (BL (EB p t)).log.length c2'] (BL (EB p t)).log F2'/\Mv h (b :: F2) h' (b :: F2'):=by
 have hblt:b<h.length:=(DY hb).1;have e6:=LM (cs := [Iv t]) (j:=0+1) (row:=p.cs a1 c1 a2 c2 a3 c3) hb (hlo b (by simp)) hrl (EM (by simp[Place.cs]));have hnd':=hnd;rw[zdn] at hnd';obtain ⟨m6,b6,k6,n6⟩:=(Mv.refl (h:=h) hnd'.2).store hblt hnd'.1 (CC rs i0 ((EB p t).cs a1 c1 a2 c2 a3 c3));have hs1':=m6.keep rnodes_ok hs1 hd;have hs2':RVers false (h.set b (CC rs i0 ((EB p t).cs a1 c1 a2 c2 a3 c3))) [.sl 6 a2 p.log.length c2] p.log F2:=rvers_ok.fr _ _ _ _ _ hs2 λy hy=>k6 y λe=>n6 (e ▸ hy);obtain ⟨a2',c2',h',F2',e7,q7,r7,m7⟩:=HX (lo:=lo) (p:=EB p t) hrl b6 hs1' hs2' h0 ⟨ht.len,ht.node,ht.log,ht.got⟩ hd hnd hlo (zdh hl m6.le);exact ⟨_,a2',c2',h',F2',e6,e7,q7,r7,m6.trans m7⟩
end


variable {p:Place}{prs:List (List V)}
section
variable {lo:Nat}{ro:Bool}{h:Heap}{F F' G:List Nat}{a a' av:Pq}{c c' cv:Nq}
theorem Xz {b i0:Nat} (hrl:i0<prs.length) {k:Int}{a1 a2 a3:Pq}{c1 c2 c3:Nq}{G1 G2 G3:List Nat} (hb:h[b]?=some (CC prs i0 (p.cs a1 c1 a2 c2 a3 c3))) (hs1:RNodes false h [.sl 2 a1 p.chain.length c1] p.chain G1) (hs2:RVers false h [.sl 6 a2 p.log.length c2] p.log G2) (hs3:RVss false h [.sl 1 a3 p.got.length c3] p.got G3)
  (hok:Av p=true) (hn:FM p) (hnd:(b ::(G1++(G2++G3))).Nodup) (hlo:∀ y∈b ::(G1++(G2++G3)),lo<=y) (hl:lo<=h.length) :
  ∃ h' row' F',Af lo 225 [.ptr (some (b,(i0,0))),Iv k] h=some (.bool (Co p k),h')/\B7 false h' row' (Dw p k) F'/\h'[b]?=some (CC prs i0 (row'))/\Mv h (b ::(G1++(G2++G3))) h' (b :: F'):=by
 suffices hq:∃ h' row' F',_=some (V.bool (Co p k),h')/\B7 false h' row' (Dw p k) F'/\h'[b]?=some (CC prs i0 (row'))/\Mv h (b ::(G1++(G2++G3))) h' (b :: F') from by obtain ⟨h',row',F',e,hr⟩:=hq;exact ⟨h',row',F',N6 e,hr⟩
 have hblt:b<h.length:=(DY hb).1;have hbd:∀ y∈b ::(G1++(G2++G3)),y<h.length:=λy hy=>by
  simp only[zdm,zde] at hy;rcases hy with rfl | hy | hy | hy
  ·exact hblt
  ·exact rnodes_ok.bd _ _ _ _ hs1 y hy
  ·exact rvers_ok.bd _ _ _ _ hs2 y hy
  ·exact rvss_ok.bd _ _ _ _ hs3 y hy
 have stay:∀ h',Mv h [] h' []->Co p k=false->∃ h'' row' F',some (V.bool false,h')=some (V.bool (Co p k),h'')/\B7 false h'' row' (Dw p k) F'/\h''[b]?=some (CC prs i0 (row'))/\Mv h (b ::(G1++(G2++G3))) h'' (b :: F'):=λh' m hc=>by unfold Dw;rw[hc];exact ⟨h',_,G1++(G2++G3),rfl,⟨_,_,_,_,_,_,rfl,_,_,_,G1,G2,G3,rfl,rfl,m.keep0 rnodes_ok hs1,m.keep0 rvers_ok hs2,m.keep0 rvss_ok hs3⟩,by rw[m.fr b hblt (by simp)];exact hb,m.aside (G:=b ::(G1++(G2++G3))) hnd hbd⟩
 have h0:=Dl hok;have hhl:=NI hok;have hg3:=(AL hok).2.2.1;have hti:=Ko hok;rw[Ev];simp only[Ad,Ax];cases hw:Ah k 0 2 with
 | false=>rw[Az];exact stay h Mv.nil (by unfold Co;rw[hw];rfl)
 | true =>
 obtain ⟨f,rfl,hf⟩:=QA hw;have hf':f<p.got.length:=by omega
 have hct:Co p (f:Int)=JY p f:=by unfold Co;rw[hw,A7];rfl
 have hky:∀ v∈p.got[f],0<=v.key/\v.key<(Ey p.chain).length:=λv hv=>by have:=(Bx (LS hok hf' hv)).1;omega
 have hgn:p.got[f].length<=1048576:=(hn.2.2.2 _ (zdf hf')).1;obtain ⟨o3,s3,b3,d3,H3,ha3,ho3,e3,q3,hH3⟩:=hs3.get hf';obtain ⟨o,s1,s2,b1,d1,b2,d2,H1,H2,ha,_,ho1,_,e1,_,q1,_⟩:=hs1.get h0;have l4:∀ hh:Heap,hh[b]?=some (CC prs i0 (p.cs a1 c1 a2 c2 a3 c3))->ld hh b i0 (0+4) 1=some [.sl 1 a3 p.got.length c3]:=λhh hb=>by rw[Dg hrl hb];rfl
 have l2:ld h b i0 (0+2) 1=some [.sl 2 a1 p.chain.length c1]:=by rw[Dg hrl hb];rfl
 have hidx:=Mm (lo:=lo) (g:=210) (cl := [.tup [.agg [.sl 6 b1 p.chain[0].store.length d1]]]) (p:=IL (Ey p.chain)) q3 hgn (λlo v a c G hv ht=>by
  have:=hky v hv;rw[Hr h0] at this ⊢;rw[PH (by omega)];exact Ru q1 this)
 rw[Aq,l4 h hb];simp only[Ae,Aa,Ai,Ag];rw[Ac hf'];simp only[ha3,Ae,A7,ho3,Aa,e3,Ag,zdY,l2,Ai];rw[show (0:Int)=((0:Nat):Int) from rfl,Ac h0];have ho1':ld h o.fst o.snd 0 1=some [s1]:=ho1;simp only[ha,Ae,ho1',Aa,e1,Ag];rw[hidx];simp only[Ad,Ab];rcases Mw hf' with ⟨i,hi,x1,x2⟩ | ⟨x1,x2⟩
 ·obtain ⟨o4,s4,b4,d4,H4,ha4,ho4,e4,q4,hH4⟩:=q3.get hi;have hv:=LS hok hf' (zdf hi);have hvp:=Bx hv;have hpl:=D9 hvp.2.2.2.1;have htk:JY p f=(Dz p.chain 0&&CD p.got[f][i].past (Bs p.chain)):=by unfold JY;rw[x2]
  rw[x1,Aj (by omega)];rw[l4 h hb,Ae,Aa,Ag,Ai,Ac hf',ha3,Ae,A7,ho3,Ae,Aa,Ag,e3,Ac hi,ha4,Ae,ho4,Ae,Aa,Ab,Aa,Ab,Aa,Ab,Aa,e4,Aa,BO,Aa,AK,Ag];obtain ⟨bt,dt,Ht,et,rt,_⟩:=J9 (lo:=lo) (b:=b) (i:=i0) (j:=0+2) l2 hs1 h0 hn.1.1;have hslen:(p.chain[p.chain.length - 1]'(by omega)).store.length=4:=(hti.node _ (zdf _)).1;obtain ⟨vt,h5,F5,e5,r5,m5⟩:=OE (lo:=lo) rt hl hslen;obtain ⟨a6,c6,e6,r6⟩:=r5.form;rw[et,Ad,AS,Aa,Ai,Ag,e5,Ad,AS,Aa,e6,Ag,Mz (m5.keep0 rtags_ok q4) r6 (by omega) (by simp only[Bi,zez];omega),Ad,Ax];rw[I9 h0] at htk;cases hu:CD p.got[f][i].past (Bi (p.chain[p.chain.length - 1]'(by omega)).store) with
  | false=>rw[Az];exact stay h5 m5.drop (by rw[hct,htk,hu,zeD])
  | true =>
  rw[hu,zeA] at htk;have hb5:h5[b]?=some (CC prs i0 (p.cs a1 c1 a2 c2 a3 c3)):=by rw[m5.fr b hblt (by simp)];exact hb
  have hnd':=hnd;rw[zdn,zdg,zde,zde,zdg] at hnd';obtain ⟨n1,n2,⟨n3,n4,n5⟩,n6⟩:=hnd';simp only[not_or] at n1;have hs15:=m5.keep0 rnodes_ok hs1;have hs25:=m5.keep0 rvers_ok hs2;have hs35:=m5.keep0 rvss_ok hs3;have q45:=m5.keep0 rtags_ok q4;have hkey0:p.got[f][i].key<p.chain[0].store.length:=by have:=hky _ (zdf hi);rw[Hr h0] at this;omega
  obtain ⟨h6,F6,e7,r7,m7⟩:=Wf (lo:=lo) (i:=i0) (j:=0+2) hb5 (zdr hrl) rfl hs15 n1.1 q45 (λy hy hm=>n6 y hm y (by rw[zde];exact .inr (hH3 y (hH4 y hy))) rfl) n2 (λy hy=>hlo y (by simp[hy])) (zdh hl m5.le) h0 ⟨hvp.1.1,hkey0⟩ hn.1 (by omega);simp only[Ver.cs] at e7;rw[Aq,e7,Ad,Ax];cases hr:Dz p.chain 0 with
  | false =>
   rw[hr] at r7 htk;rw[Az];rw[cond_false] at r7;have hb6:h6[b]?=some (CC prs i0 (p.cs a1 c1 a2 c2 a3 c3)):=by rw[m7.fr b (zdq hblt m5.le) n1.1];exact hb5
   have hcf:Co p (f:Int)=false:=by rw[hct,htk]
   have hbd5:∀ y∈b ::(G1++(G2++G3)),y<h5.length:=λy hy=>zdq (hbd y hy) m5.le;have nd2:(b :: G2).Nodup:=by rw[zdn];exact ⟨n1.2.1,n3⟩
   have hs26:RVers false h6 [.sl 6 a2 p.log.length c2] p.log G2:=m7.keep rvers_ok hs25 λy hy hm=>n6 y hm y (by simp[hy]) rfl;obtain ⟨r8,m8⟩:=E9 (q:=p) m7 (Mv.refl nd2) hnd hbd5 r7 hs26 hs35;unfold Dw;rw[hcf];exact ⟨h6,_,_,rfl,r8,hb6,(m5.drop.aside (G:=b ::(G1++(G2++G3))) hnd hbd).trans m8⟩
  | true =>
   rw[hr] at r7 htk;rw[cond_true] at r7;have hb6:h6[b]?=some (CC prs i0 (p.cs a1 c1 a2 c2 a3 c3)):=by rw[m7.fr b (zdq hblt m5.le) n1.1];exact hb5
   have l1:ld h6 b i0 (0+1) 1=some [Iv p.clock]:=by rw[Dg hrl hb6];rfl
   have hct2:Co p (f:Int)=true:=by rw[hct,htk]
   have hbd5:∀ y∈b ::(G1++(G2++G3)),y<h5.length:=λy hy=>zdq (hbd y hy) m5.le;have nd2:(b :: G2).Nodup:=by rw[zdn];exact ⟨n1.2.1,n3⟩
   have hs26:RVers false h6 [.sl 6 a2 p.log.length c2] p.log G2:=m7.keep rvers_ok hs25 λy hy hm=>n6 y hm y (by simp[hy]) rfl;have d1:=(Vx m7 (Mv.refl nd2) hnd hbd5).2.1;have ta:=Nc (k:=0) (t:=p.clock) (Bd hok) (LL hv);have ta':Tidy 10 20 100 (Fe p 0 p.clock p.got[f][i]):=⟨zdh ta.len (by decide),λx hx=>by have:=ta.node x hx;exact ⟨this.1,zdh this.2.1 (by decide),this.2.2⟩,⟨zdh ta.log.1 (by decide),ta.log.2⟩,ta.got.1,λl hl=>⟨zdh (ta.got.2 l hl).1 (by decide),(ta.got.2 l hl).2⟩⟩;have hcs:(Fe p 0 p.clock p.got[f][i]).cs a1 c1 a2 c2 a3 c3=p.cs a1 c1 a2 c2 a3 c3:=by simp only[Place.cs,Fe,E5]
   rw[<- E5 (k:=0) (v:=p.got[f][i])] at r7;obtain ⟨h7,a8,c8,h8,F8,e8,e9,b9,r9,m9⟩:=SQ (lo:=lo) (p:=Fe p 0 p.clock p.got[f][i]) (t:=FH p.got[f][i].tag.time p.clock) (a3:=a3) (c3:=c3) hrl (by rw[hcs];exact hb6) r7 hs26 (by show 0<(GR _ _ _).length;rw[E5];omega) ta' d1 nd2 (λy hy=>hlo y (by simp only[zdm,zde] at hy ⊢;rcases hy with hy | hy;exact .inl hy;exact .inr (.inr (.inl hy)))) (by have:=m5.le;have:=m7.le;omega);obtain ⟨r10,m10⟩:=E9 (q:=BL (Fe p 0 (FH p.got[f][i].tag.time p.clock) p.got[f][i])) m7 m9 hnd hbd5 r7 r9 hs35;unfold FH at e8;rw[Aq,l1,Ae,Aa,Ag,Ab,e8,Ae,e9,Ad,Kd,Ag];rw[hct2];unfold Dw;rw[hct2,cond_true,A7];unfold Md;rw[x2];exact ⟨h8,_,_,rfl,r10,b9,(m5.drop.aside (G:=b ::(G1++(G2++G3))) hnd hbd).trans m10⟩
 ·rw[x1,Am (by omega)];exact stay h Mv.nil (by rw[hct];unfold JY;rw[x2])
theorem XC {b i0:Nat} (hrl:i0<prs.length) {f at':Int}{v:Ver}{a1 a2 a3:Pq}{c1 c2 c3:Nq}{G1 G2 G3:List Nat} (hb:h[b]?=some (CC prs i0 (p.cs a1 c1 a2 c2 a3 c3))) (hs1:RNodes false h [.sl 2 a1 p.chain.length c1] p.chain G1) (hs2:RVers false h [.sl 6 a2 p.log.length c2] p.log G2) (hs3:RVss false h [.sl 1 a3 p.got.length c3] p.got G3)
  (hv:RTags false h [.sl 2 av v.past.length cv] v.past G) (hok:Av p=true) (hvn:v.past.length<=1048576/\v.text.size<=1048576) (hnd:(b ::(G1++(G2++G3))).Nodup) (hlo:∀ y∈b ::(G1++(G2++G3)),lo<=y) (hl:lo<=h.length) :
  ∃ h' row' F',Af lo 228 [.ptr (some (b,(i0,0))),Iv f,Iv at',.agg (v.cs av cv)] h=some (.bool (Ez p f at' v),h')/\B7 false h' row' (Ed p f at' v) F'/\h'[b]?=some (CC prs i0 (row'))/\Mv h (b ::(G1++(G2++G3))) h' (b :: F'):=by
 suffices hq:∃ h' row' F',_=some (V.bool (Ez p f at' v),h')/\B7 false h' row' (Ed p f at' v) F'/\h'[b]?=some (CC prs i0 (row'))/\Mv h (b ::(G1++(G2++G3))) h' (b :: F') from by obtain ⟨h',row',F',e,hr⟩:=hq;exact ⟨h',row',F',N7 e,hr⟩
 have hblt:b<h.length:=(DY hb).1;have hbd:∀ y∈b ::(G1++(G2++G3)),y<h.length:=λy hy=>by
  simp only[zdm,zde] at hy;rcases hy with rfl | hy | hy | hy
  ·exact hblt
  ·exact rnodes_ok.bd _ _ _ _ hs1 y hy
  ·exact rvers_ok.bd _ _ _ _ hs2 y hy
  ·exact rvss_ok.bd _ _ _ _ hs3 y hy
 have stay:Ez p f at' v=false->∃ h'' row' F',some (V.bool false,h)=some (V.bool (Ez p f at' v),h'')/\B7 false h'' row' (Ed p f at' v) F'/\h''[b]?=some (CC prs i0 (row'))/\Mv h (b ::(G1++(G2++G3))) h'' (b :: F'):=λhc=>by unfold Ed;rw[hc];exact ⟨h,_,G1++(G2++G3),rfl,⟨_,_,_,_,_,_,rfl,_,_,_,G1,G2,G3,rfl,rfl,hs1,hs2,hs3⟩,hb,Mv.refl hnd⟩
 have hg3:=(AL hok).2.2.1;have hcd:Ez p f at' v=(Ah f 0 2&&(Da v&&((v.tag.place==f)&&IE p f.toNat at' v))):=rfl;have l0:ld h b i0 (0+0) 1=some [Iv p.me]:=by rw[Dg hrl hb];rfl
 have l4:∀ hh:Heap,hh[b]?=some (CC prs i0 (p.cs a1 c1 a2 c2 a3 c3))->ld hh b i0 (0+4) 1=some [.sl 1 a3 p.got.length c3]:=λhh hb=>by rw[Dg hrl hb];rfl
 rw[Ev,Ad,Ax];cases hw:Ah f 0 2 with
 | false=>rw[Az];exact stay (by rw[hcd,hw];rfl)
 | true =>
 rw[hw,zdu] at hcd;obtain ⟨f,rfl,hf⟩:=QA hw;rw[A7] at hcd;have hf':f<p.got.length:=by omega
 have hgl:p.got[f].length<=60:=(Hn (Qu hok hf')).1;have hh:IE p f at' v=(!((f:Int)==p.me)&&((at'==(p.got[f].length:Int))&&(decide ((p.got[f].length:Int)<60) && !CB p.got[f] v.tag))):=by unfold IE;rw[Hu hf']
 rw[hh] at hcd;rw[Aq,l0,Ae,Aa,Ag,Ab];cases x1:((f:Int)==p.me) with
 | true=>rw[Aq];exact stay (by rw[hcd,x1];simp)
 | false =>
 rw[x1,zel,zdu] at hcd;have e2:=XF (lo:=lo) hv hvn;simp only[Ver.cs] at e2;rw[Az,e2,Ad,Ax];cases hvo:Da v with
 | false=>rw[Az];exact stay (by rw[hcd,hvo];rfl)
 | true =>
 rw[hvo,zdu] at hcd;rw[Aq];cases hpl:(v.tag.place==(f:Int)) with
 | false=>rw[Az];exact stay (by rw[hcd,hpl];rfl)
 | true =>
 rw[hpl,zdu] at hcd;have hnd':=hnd;rw[zdn,zdg,zde,zde,zdg] at hnd';obtain ⟨n1,n2,⟨n3,n4,n5⟩,n6⟩:=hnd';simp only[not_or] at n1;have hlo3:∀ y∈G3,lo<=y:=λy hy=>hlo y (by simp[hy]);obtain ⟨b0,i,rs,row,G0,ha,hbF,hbG,hb0,hrow,hel,hGF,hGn,_,put⟩:=hs3.at rvers_ok hf' n4 hlo3;have hrs:∃ s,row = [s]:=by obtain ⟨R',a',c',e,_⟩:=id hel;exact ⟨_,e⟩
 obtain ⟨s,rfl⟩:=hrs;obtain ⟨b3,d3,es,r3⟩:=hel.form;have hld:ld h b0 (i+f) 0 1=some [s]:=by rw[CA hb0 hrow];rfl
 rw[Aq,l4 h hb,Ae,Aa,Ag,Ai,Ac hf',ha,Ae,A7,hld,Ae,Aa,Ag,es];cases x2:(at'==(p.got[f].length:Int)) with
 | false=>rw[Az];exact stay (by rw[hcd,x2];rfl)
 | true =>
 rw[x2,zdu] at hcd;rw[Aq];cases x3:decide ((p.got[f].length:Int)<60) with
 | false =>
  have:(p.got[f].length:Int)>=60:=by have:=of_decide_eq_false x3;omega
  rw[Am (by omega)];exact stay (by rw[hcd,x3];rfl)
 | true =>
 rw[x3,zdu] at hcd;have:(p.got[f].length:Int)<60:=of_decide_eq_true x3;have hht:CB p.got[f] ⟨v.tag.time,v.tag.place⟩=CB p.got[f] v.tag:=rfl;rw[Aj (by omega),PK r3 (by omega),hht,Ad,Ax];cases x4:CB p.got[f] v.tag with
 | true=>rw[Aq];exact stay (by rw[hcd,x4];rfl)
 | false =>
 rw[x4,zel] at hcd;obtain ⟨a5,c5,h5,F5,e5,r5,m5⟩:=Bu (lo:=lo) (v:=v) hv hl hvn.1;have m5':Mv h [] (h5 ++ [.rows 6 43 false [v.cs a5 c5]]) F5:=m5.trans (Mv.snoc' m5.nd);obtain ⟨a6,c6,h6,F6,e6,r6,m6⟩:=DN (lo:=lo) (bytes:=72) (e:=43) rver_ok r3 (row:=v.cs a5 c5) (x:=v) (G:=F5) (h1:=h5 ++ [.rows 6 43 false [v.cs a5 c5]])
  ⟨_,rfl,Mv.snoc.keep0 rtags_ok r5⟩ m5' hGn (λy hy=>hlo3 y (hGF y hy)) hl (by decide) (by omega)
 have r6c:=r6.clip;rw[show p.got[f].length+1=(p.got[f] ++ [v]).length by simp] at r6c;obtain ⟨h7,F7,e7,r7,m7,_⟩:=put h6 F6 0 [.sl 6 a6 (p.got[f] ++ [v]).length (some (p.got[f] ++ [v]).length)] [.sl 6 a6 (p.got[f] ++ [v]).length (some (p.got[f] ++ [v]).length)] (p.got[f] ++ [v]) m6 rfl r6c;rw[show (p.got[f] ++ [v]).length=p.got[f].length+1 by simp] at e7;obtain ⟨m8,k1,k2,k3⟩:=Zr m7 hnd hbd;have hb5:h5[b]?=some (CC prs i0 (p.cs a1 c1 a2 c2 a3 c3)):=by rw[m5.fr b hblt (by simp)];exact hb
 have hb5':(h5 ++ [.rows 6 43 false [v.cs a5 c5]])[b]?=some (CC prs i0 (p.cs a1 c1 a2 c2 a3 c3)):=by rw[m5'.fr b hblt (by simp)];exact hb
 have hb6:h6[b]?=some (CC prs i0 (p.cs a1 c1 a2 c2 a3 c3)):=by rw[m6.fr b hblt (λhm=>n1.2.2 (hGF b hm))];exact hb
 have hb7:h7[b]?=some (CC prs i0 (p.cs a1 c1 a2 c2 a3 c3)):=by rw[m7.fr b hblt k1];exact hb
 simp only[Ver.cs] at e5 e6 hb5';have l4:∀ hh:Heap,hh[b]?=some (CC prs i0 (p.cs a1 c1 a2 c2 a3 c3))->ld hh b i0 (0+4) 1=some [.sl 1 (some (b0,i)) p.got.length c3]:=λhh hb=>by rw[l4 hh hb,ha]
 rw[Az,l4 h hb,Ae,Aa,Ag,Ai,e5,Ad,AS,Aa,Ab,Aa,Ab,Aa,Ab,Aa,Ai,Aa,BO,Aa,AK,Ag,l4 h5 hb5,Ks,DA,l4 _ hb5',Ks,DA,AX,e6,Ai,l4 h6 hb6,Ks,DA,Lx r6,Ad,Ai,l4 h6 hb6,Ks,DA,Ac hf',Ae,e7,Ae];have hcs:=Yp (p:=p) (f:=f) (v:=v) (a1:=a1) (c1:=c1) (a2:=a2) (c2:=c2) (a3:=a3) (c3:=c3);have hgot:(Ii p f v).got=p.got.set f (p.got[f] ++ [v]):=by simp only[Ii];rw[Hu hf']
 have r7':RVss false h7 [.sl 1 a3 (Ii p f v).got.length c3] (Ii p f v).got F7:=by rw[hgot,zdM];exact r7
 unfold Ed;rw[hcd];refine ⟨h7,(Ii p f v).cs a1 c1 a2 c2 a3 c3,G1++(G2++F7),rfl,?_,by rw[hcs];exact hb7,m8⟩;exact ⟨a1,c1,a2,c2,a3,c3,rfl,_,_,_,G1,G2,F7,rfl,rfl,m7.keep rnodes_ok hs1 k2,m7.keep rvers_ok hs2 k3,r7'⟩
theorem Wb {b i0:Nat} (hrl:i0<prs.length) {k:Int}{s:ByteArray}{g:Bool}{l:List Tag}{a1 a2 a3:Pq}{c1 c2 c3:Nq}{G1 G2 G3:List Nat} (hb:h[b]?=some (CC prs i0 (p.cs a1 c1 a2 c2 a3 c3))) (hs1:RNodes false h [.sl 2 a1 p.chain.length c1] p.chain G1) (hs2:RVers false h [.sl 6 a2 p.log.length c2] p.log G2) (hs3:RVss false h [.sl 1 a3 p.got.length c3] p.got G3)
  (hv:RTags false h [.sl 2 av l.length cv] l G) (hvd:∀ y∈G,y∉b :: G1) (hok:Av p=true) (hn:FM p) (hvn:l.length<=1048576/\s.size<=1048576) (hnd:(b ::(G1++(G2++G3))).Nodup) (hlo:∀ y∈b ::(G1++(G2++G3)),lo<=y) (hl:lo<=h.length) :
  ∃ h' row' F',Af lo 52 [.ptr (some (b,(i0,0))),.agg [Iv k,Iv 0,Iv 0,.sl 2 av l.length cv,.str s,.bool g]] h=some (.agg [Iv (En p k s g l).2.time,Iv (En p k s g l).2.place],h') /\
   B7 false h' row' (En p k s g l).1 F'/\h'[b]?=some (CC prs i0 (row'))/\Mv h (b ::(G1++(G2++G3))) h' (b :: F'):=by
 rw[MY hok];have hblt:b<h.length:=(DY hb).1;have hbd:∀ y∈b ::(G1++(G2++G3)),y<h.length:=λy hy=>by
  simp only[zdm,zde] at hy;rcases hy with rfl | hy | hy | hy
  ·exact hblt
  ·exact rnodes_ok.bd _ _ _ _ hs1 y hy
  ·exact rvers_ok.bd _ _ _ _ hs2 y hy
  ·exact rvss_ok.bd _ _ _ _ hs3 y hy
 generalize hW:(bif A0 p k s g l then (BL (Fe p 0 (AI p l) (DX p k s g l)),(⟨AI p l,p.me⟩:Tag)) else (p,⟨0,0⟩))=W;suffices hq:∃ h' row' F',_=some (V.agg [Iv W.2.time,Iv W.2.place],h')/\B7 false h' row' W.1 F'/\h'[b]?=some (CC prs i0 (row'))/\Mv h (b ::(G1++(G2++G3))) h' (b :: F') from by obtain ⟨h',row',F',e,hr⟩:=hq;exact ⟨h',row',F',MP e,hr⟩
 have stay:∀ h',Mv h [] h' []->A0 p k s g l=false->∃ h'' row' F',some (V.agg [Iv 0,Iv 0],h')=some (V.agg [Iv W.2.time,Iv W.2.place],h'')/\B7 false h'' row' W.1 F'/\h''[b]?=some (CC prs i0 (row'))/\Mv h (b ::(G1++(G2++G3))) h'' (b :: F'):=λh' m hc=>by rw[hc,cond_false] at hW;subst hW;exact ⟨h',_,G1++(G2++G3),rfl,⟨_,_,_,_,_,_,rfl,_,_,_,G1,G2,G3,rfl,rfl,m.keep0 rnodes_ok hs1,m.keep0 rvers_ok hs2,m.keep0 rvss_ok hs3⟩,by rw[m.fr b hblt (by simp)];exact hb,m.aside (G:=b ::(G1++(G2++G3))) hnd hbd⟩
 have h0:=Dl hok;have hti:=Ko hok;have hcw:=Lz (p:=p) (k:=k) (s:=s) (g:=g) (l:=l);have e1:=NB (lo:=lo) (v:=⟨k,⟨0,0⟩,l,s,g⟩) hv hvn;simp only[Ver.cs] at e1;rw[e1,Ad,Ax];cases hwr:HR ⟨k,⟨0,0⟩,l,s,g⟩ with
 | false=>rw[Az];exact stay h Mv.nil (by rw[hcw,hwr];rfl)
 | true =>
 rw[hwr,zdu] at hcw;have hpk:Ck l=true:=by unfold HR at hwr;simp only[DH] at hwr;exact hwr.2
 have hl4:=D9 hpk;have htb:=LJ hok hpk;have l2:ld h b i0 (0+2) 1=some [.sl 2 a1 p.chain.length c1]:=by rw[Dg hrl hb];rfl
 obtain ⟨bt,dt,Ht,et,rt,_⟩:=J9 (lo:=h.length) (b:=b) (i:=i0) (j:=0+2) l2 hs1 h0 hn.1.1;have hslen:(p.chain[p.chain.length - 1]'(by omega)).store.length=4:=(hti.node _ (zdf _)).1;obtain ⟨vt,h5,F5,e5,r5,m5⟩:=OE (lo:=h.length) rt (zdj _) hslen;obtain ⟨a6,c6,e6,r6⟩:=r5.form;rw[Aq,et,Ad,AS,Aa,Ai,Ag,e5,Ad,AS,Aa,e6,Ag,Mz (m5.keep0 rtags_ok hv) r6 hvn.1 (by simp only[Bi,zez];omega),Ad,Ax];unfold Ih at hcw;rw[I9 h0] at hcw;cases hu:CD l (Bi (p.chain[p.chain.length - 1]'(by omega)).store) with
 | false=>rw[Az];exact stay h5 m5.drop (by rw[hcw,hu];rfl)
 | true =>
 rw[hu,zdu] at hcw;have hb5:h5[b]?=some (CC prs i0 (p.cs a1 c1 a2 c2 a3 c3)):=by rw[m5.fr b hblt (by simp)];exact hb
 have l25:ld h5 b i0 (0+2) 1=some [.sl 2 a1 p.chain.length c1]:=by rw[Dg hrl hb5];rfl
 have hs15:=m5.keep0 rnodes_ok hs1;have hs25:=m5.keep0 rvers_ok hs2;have hs35:=m5.keep0 rvss_ok hs3;have hv5:=m5.keep0 rtags_ok hv;have hfu:Af lo 117 [.ptr (some (b,(i0,0+2))),Iv 0] h5=some (.bool (!Dz p.chain 0),h5):=OH l25 hs15 h0;rw[Aq,hfu,Ad,Ax];cases hr:Dz p.chain 0 with
 | false=>rw[zel,Aq];exact stay h5 m5.drop (by rw[hcw,hr];rfl)
 | true =>
 rw[hr,zdu] at hcw;have l3:ld h5 b i0 (0+3) 1=some [.sl 6 a2 p.log.length c2]:=by rw[Dg hrl hb5];rfl
 rw[zei,Az,l3,Ae,Aa,Ag,Ai];cases hlg:decide ((p.log.length:Int)<36) with
 | false =>
  have:(p.log.length:Int)>=36:=by have:=of_decide_eq_false hlg;omega
  rw[Am (by omega)];exact stay h5 m5.drop (by rw[hcw,hlg];simp)
 | true =>
 have:(p.log.length:Int)<36:=of_decide_eq_true hlg;rw[hlg,zeA] at hcw;have l1:ld h5 b i0 (0+1) 1=some [Iv p.clock]:=by rw[Dg hrl hb5];rfl
 have l0:ld h5 b i0 (0+0) 1=some [Iv p.me]:=by rw[Dg hrl hb5];rfl
 have hT:(if E3 l>p.clock then E3 l else p.clock)+1=AI p l:=rfl;rw[Aj (by omega),l1,Ae,Aa,Ag,Ab,PJ hv5 hvn.1,Ad,Ab,hT,wr (n:=AI p l) (by omega) (by omega)];cases hti9:decide (AI p l<=999) with
 | false =>
  have:AI p l>999:=by have:=of_decide_eq_false hti9;omega
  rw[Am (by omega)];exact stay h5 m5.drop (by rw[hcw,hti9])
 | true =>
 have:AI p l<=999:=of_decide_eq_true hti9;rw[hti9] at hcw;have hvt:=PB hok hcw;rw[hcw,cond_true] at hW;obtain ⟨kp1,_⟩:=Hy hcw;have hnd':=hnd;rw[zdn,zdg,zde,zde,zdg] at hnd';obtain ⟨n1,n2,⟨n3,n4,n5⟩,n6⟩:=hnd';simp only[not_or] at n1;have hb5lt:b<h5.length:=zdq hblt m5.le;have e8:=LM (lo:=lo) (cs := [Iv (AI p l)]) (j:=0+1) (row:=p.cs a1 c1 a2 c2 a3 c3) (row':=(EB p (AI p l)).cs a1 c1 a2 c2 a3 c3) hb5 (hlo b (by simp)) hrl (EM (by simp[Place.cs]));obtain ⟨m6,b6,k6,_⟩:=(Mv.refl (h:=h5) (F := []) (by simp)).store hb5lt (by simp) (CC prs i0 ((EB p (AI p l)).cs a1 c1 a2 c2 a3 c3));generalize hh6:h5.set b (CC prs i0 ((EB p (AI p l)).cs a1 c1 a2 c2 a3 c3))=h6 at m6 b6 k6;have e8':st lo h5 b i0 (0+1) [Iv (AI p l)]=some h6:=by rw[<- hh6];exact e8
 have hs16:=m6.keep rnodes_ok hs15 λy hy hm=>by rw[zdJ] at hm;subst hm;exact n1.1 hy
 have hs26:=m6.keep rvers_ok hs25 λy hy hm=>by rw[zdJ] at hm;subst hm;exact n1.2.1 hy
 have hs36:=m6.keep rvss_ok hs35 λy hy hm=>by rw[zdJ] at hm;subst hm;exact n1.2.2 hy
 have hv6:=m6.keep rtags_ok hv5 λy hy hm=>by rw[zdJ] at hm;subst hm;exact hvd y hy (by simp)
 have hkl:(DX p k s g l).key<p.chain[0].store.length:=by have:=(hti.node _ (zdf h0)).1;show k<_;omega
 obtain ⟨h7,F7,e7,r7,m7⟩:=Wf (lo:=lo) (l:=p.chain) (v:=DX p k s g l) (i:=i0) (j:=0+2) b6 (zdr hrl) rfl hs16 n1.1 hv6 (λy hy hm=>hvd y hy (by simp[hm])) n2 (λy hy=>hlo y (by simp[hy])) (by have:=m5.le;have:=m6.le;omega) h0 ⟨kp1.1,hkl⟩ hn.1 hvn.1;rw[hr,cond_true] at r7;rw[hr] at e7;have hbd6:∀ y∈b ::(G1++(G2++G3)),y<h6.length:=λy hy=>zdq (hbd y hy) (zdh m5.le m6.le);have nd2:(b :: G2).Nodup:=by rw[zdn];exact ⟨n1.2.1,n3⟩
 have d1:=(Vx m7 (Mv.refl nd2) hnd hbd6).2.1;have hb7:h7[b]?=some (CC prs i0 ((EB p (AI p l)).cs a1 c1 a2 c2 a3 c3)):=by rw[m7.fr b (zdq hb5lt m6.le) n1.1];exact b6
 have hs27:RVers false h7 [.sl 6 a2 p.log.length c2] p.log G2:=m7.keep rvers_ok hs26 λy hy hm=>n6 y hm y (by simp[hy]) rfl;have ta:=Nc (k:=0) (t:=AI p l) (Bd hok) hvt;have ta':Tidy 10 20 100 (Fe p 0 (AI p l) (DX p k s g l)):=⟨zdh ta.len (by decide),λx hx=>by have:=ta.node x hx;exact ⟨this.1,zdh this.2.1 (by decide),this.2.2⟩,⟨zdh ta.log.1 (by decide),ta.log.2⟩,ta.got.1,λl hl=>⟨zdh (ta.got.2 l hl).1 (by decide),(ta.got.2 l hl).2⟩⟩;have hcs:(Fe p 0 (AI p l) (DX p k s g l)).cs a1 c1 a2 c2 a3 c3=(EB p (AI p l)).cs a1 c1 a2 c2 a3 c3:=by simp only[Place.cs,Fe,EB,E5]
 rw[<- E5 (k:=0) (v:=DX p k s g l)] at r7;obtain ⟨a8,c8,h8,F8,e9,b9,r9,m9⟩:=HX (lo:=lo) (p:=Fe p 0 (AI p l) (DX p k s g l)) (a3:=a3) (c3:=c3) hrl (by rw[hcs];exact hb7) r7 hs27 (by show 0<(GR _ _ _).length;rw[E5];omega) ta' d1 nd2 (λy hy=>hlo y (by simp only[zdm,zde] at hy ⊢;rcases hy with hy | hy;exact .inl hy;exact .inr (.inr (.inl hy)))) (by have:=m5.le;have:=m6.le;have:=m7.le;omega);obtain ⟨r10,m10⟩:=E9 (q:=BL (Fe p 0 (AI p l) (DX p k s g l))) m7 m9 hnd hbd6 r7 r9 hs36;have m56:Mv h (b ::(G1++(G2++G3))) h6 (b ::(G1++(G2++G3))):=(m5.drop.aside (G:=b ::(G1++(G2++G3))) hnd hbd).trans (m6.aside (G:=G1++(G2++G3)) hnd λy hy=>zdq (hbd y (by simp[hy])) m5.le);simp only[Ver.cs,DX] at e7;rw[Aj (by omega),l0,Ae,Aa,Ag,Ab,e8',Ae,e7,Ad,Ax,Aq,e9,Ad,Kd,Ag];subst hW;exact ⟨h8,_,_,rfl,r10,b9,m56.trans m10⟩
end


variable {p:Place}{rs:List (List V)}
section
variable {lo:Nat}{ro:Bool}{hh:Heap}{F F' G:List Nat}{a a' av:Pq}{c c' cv:Nq}
theorem OG {k:Int}{b i0:Nat} (hrl:i0<rs.length) {a1 a2 a3:Pq}{c1 c2 c3:Nq}{G1 G2 G3:List Nat} (hb:hh[b]?=some (CC rs i0 (p.cs a1 c1 a2 c2 a3 c3)))
  (g1:RNodes false hh [.sl 2 a1 p.chain.length c1] p.chain G1) (g2:RVers false hh [.sl 6 a2 p.log.length c2] p.log G2) (g3:RVss false hh [.sl 1 a3 p.got.length c3] p.got G3) (hpo:Av p=true)
  (hnd:(b ::(G1++(G2++G3))).Nodup) (hlo':∀ y∈b ::(G1++(G2++G3)),lo<=y) (hl:lo<=hh.length) :
  ∃ hh' row' F1',Af lo 223 [.ptr (some (b,(i0,0))),Iv k] hh=some (.bool (CI p k),hh')/\B7 false hh' row' (Dx p k) F1'/\hh'[b]?=some (CC rs i0 row')/\Mv hh (b ::(G1++(G2++G3))) hh' (b :: F1'):=by
 have hblt:b<hh.length:=(DY hb).1;have hbd:∀ y∈b ::(G1++(G2++G3)),y<hh.length:=λy hy=>by
  simp only[zdm,zde] at hy;rcases hy with rfl | hy | hy | hy
  ·exact hblt
  ·exact rnodes_ok.bd _ _ _ _ g1 y hy
  ·exact rvers_ok.bd _ _ _ _ g2 y hy
  ·exact rvss_ok.bd _ _ _ _ g3 y hy
 have hsmN:De p.chain:=KZ (Bd hpo) (by decide) (by decide);have l5:ld hh b i0 (0+5) 1=some [.bool p.fell]:=by rw[Dg hrl hb];rfl
 have stay:CI p k=false->∃ hh' row' F1',some (V.bool false,hh)=some (V.bool (CI p k),hh')/\B7 false hh' row' (Dx p k) F1'/\hh'[b]?=some (CC rs i0 row')/\Mv hh (b ::(G1++(G2++G3))) hh' (b :: F1'):=λhc=>by unfold Dx;rw[hc];exact ⟨hh,_,G1++(G2++G3),rfl,⟨_,_,_,_,_,_,rfl,_,_,_,G1,G2,G3,rfl,rfl,g1,g2,g3⟩,hb,Mv.refl hnd⟩
 suffices hq:∃ hh' row' F1',_=some (V.bool (CI p k),hh')/\B7 false hh' row' (Dx p k) F1'/\hh'[b]?=some (CC rs i0 row')/\Mv hh (b ::(G1++(G2++G3))) hh' (b :: F1') from by obtain ⟨hh',row',F1',e,hr⟩:=hq;exact ⟨hh',row',F1',N8 e,hr⟩
 have hcd:CI p k=(!p.fell&&Dj p.chain k):=rfl;rw[l5,Ae,Aa,Ag,Ax];cases hf:p.fell with
 | true=>rw[Aq];exact stay (by rw[hcd,hf];rfl)
 | false =>
 rw[hf,zel,zdu] at hcd;have nd:=hnd;rw[zdn,zdg,zde,zde,zdg] at nd;obtain ⟨n1,n2,⟨n3,n4,n5⟩,n6⟩:=nd;simp only[not_or] at n1;have nd2:(b :: G2).Nodup:=by rw[zdn];exact ⟨n1.2.1,n3⟩
 obtain ⟨a5,x5,c5,h5,F5,e5,b5,r5,m5⟩:=Zn (lo:=lo) (k:=k) (R:=6) (e:=29) (rs:=rs.set i0 (p.cs a1 c1 a2 c2 a3 c3)) (row:=p.cs a1 c1 a2 c2 a3 c3) (i:=i0) (j:=0+2) hb (zdr hrl) rfl g1 n1.1 n2 (hlo' b (by simp)) (λy hy=>hlo' y (by simp[hy])) hl hsmN (Dl hpo) (λx hx=>(Bo ((DJ (AL hpo).2.2.2.1).2 x hx)).1);rw[zd1] at b5;have hx5:=r5.val;have mA:Mv hh (b ::(G1++(G2++G3))) h5 (b ::(F5++(G2++G3))):=m5.aside (G:=G2++G3) (by simpa using hnd) (λy hy=>hbd y (by simp only[zdm,zde] at hy ⊢;exact .inr (.inr hy)));have d2:∀ y∈G2,y∉b :: G1:=λy hy hm=>by
  rcases zdm.1 hm with rfl | hm
  ·exact n1.2.1 hy
  ·exact n6 y hm y (by simp[hy]) rfl
 have d3:∀ y∈G3,y∉b :: G1:=λy hy hm=>by
  rcases zdm.1 hm with rfl | hm
  ·exact n1.2.2 hy
  ·exact n6 y hm y (by simp[hy]) rfl
 have g25:=m5.keep rvers_ok g2 d2;have g35:=m5.keep rvss_ok g3 d3;cases hc:Dj p.chain k with
 | false =>
  have hcf:CI p k=false:=by rw[hcd,hc]
  rw[hc] at e5 r5;rw[cond_false] at r5;rw[hc,cond_false] at hx5;subst hx5;rw[Az,e5,Ad,Ax,Az];unfold Dx;rw[hcf];exact ⟨h5,p.cs a5 c5 a2 c2 a3 c3,F5++(G2++G3),rfl,⟨_,_,_,_,_,_,rfl,_,_,_,F5,G2,G3,rfl,rfl,r5,g25,g35⟩,b5,mA⟩
 | true =>
  have hcf:CI p k=true:=by rw[hcd,hc]
  rw[hc] at e5 r5;rw[cond_true] at r5;rw[hc,cond_true] at hx5;subst hx5;have hc':=hc;unfold Dj at hc';simp only[DH,Ah,decide_eq_true_eq] at hc';obtain ⟨hw,hl1⟩:=hc';have hk':k.toNat<p.chain.length:=by omega
  have hb5lt:b<h5.length:=zdq hblt m5.le;have b5':h5[b]?=some (CC rs i0 [Iv p.me,Iv p.clock,.sl 2 a5 (B9 p.chain k.toNat).length c5,.sl 6 a2 p.log.length c2,.sl 1 a3 p.got.length c3,.bool p.fell]):=b5;have e6:=LM (lo:=lo) (cs := [.bool true]) (j:=0+5) b5' (hlo' b (by simp)) hrl (EM (by simp));obtain ⟨m6,b6,k6,_⟩:=(Mv.refl (h:=h5) (F := []) (by simp)).store hb5lt (by simp) (CC rs i0 ((Ml p k.toNat).cs a5 c5 a2 c2 a3 c3));generalize hh6:h5.set b (CC rs i0 ((Ml p k.toNat).cs a5 c5 a2 c2 a3 c3))=h6 at m6 b6 k6;have e6':st lo h5 b i0 (0+5) [.bool true]=some h6:=by rw[<- hh6];exact e6
  have ndA:=mA.nd;have ndA':=ndA;rw[zdn,zdg,zde,zde] at ndA';obtain ⟨q1,q2,_,q4⟩:=ndA';simp only[not_or] at q1;have bdA:∀ y∈b ::(F5++(G2++G3)),y<h5.length:=mA.lt hbd;have bdA6:∀ y∈b ::(F5++(G2++G3)),y<h6.length:=λy hy=>zdq (bdA y hy) m6.le;have r56:=m6.keep rnodes_ok r5 λy hy hm=>by rw[zdJ] at hm;subst hm;exact q1.1 hy
  have g26:=m6.keep rvers_ok g25 λy hy hm=>by rw[zdJ] at hm;subst hm;exact q1.2.1 hy
  have g36:=m6.keep rvss_ok g35 λy hy hm=>by rw[zdJ] at hm;subst hm;exact q1.2.2 hy
  have ht:=Qp (Tp (k:=k.toNat) (Bd hpo)) (by decide) (by decide) (by decide);have d1':=(Vx (Mv.refl (h:=h6) q2) (Mv.refl nd2) ndA bdA6).2.1;obtain ⟨a8,c8,h8,F8,e9,b9,r9,m9⟩:=HX (lo:=lo) (p:=Ml p k.toNat) hrl (a3:=a3) (c3:=c3) b6 r56 g26 (by show 0<(B9 _ _).length;rw[Kb hk' hl1];omega) ht d1' nd2 (λy hy=>hlo' y (by simp only[zdm,zde] at hy ⊢;rcases hy with hy | hy;exact .inl hy;exact .inr (.inr (.inl hy)))) (by have:=m5.le;have:=m6.le;omega);obtain ⟨r10,m10⟩:=E9 (q:=BL (Ml p k.toNat)) (Mv.refl (h:=h6) q2) m9 ndA bdA6 r56 r9 g36;have mB:Mv h5 (b ::(F5++(G2++G3))) h6 (b ::(F5++(G2++G3))):=m6.aside (G:=F5++(G2++G3)) ndA λy hy=>bdA y (by simp[hy]);rw[Az,e5,Ad,Ax,Aq,e6',Ae,e9,Ad,Kd,Ag];unfold Dx;rw[hcf];exact ⟨h8,_,_,rfl,r10,b9,(mA.trans mB).trans m10⟩
theorem OF {k:Int}{b i0:Nat} (hrl:i0<rs.length) {a1 a2 a3:Pq}{c1 c2 c3:Nq}{G1 G2 G3:List Nat} (hb:hh[b]?=some (CC rs i0 (p.cs a1 c1 a2 c2 a3 c3)))
  (g1:RNodes false hh [.sl 2 a1 p.chain.length c1] p.chain G1) (g2:RVers false hh [.sl 6 a2 p.log.length c2] p.log G2) (g3:RVss false hh [.sl 1 a3 p.got.length c3] p.got G3) (hpo:Av p=true)
  (hnd:(b ::(G1++(G2++G3))).Nodup) (hlo':∀ y∈b ::(G1++(G2++G3)),lo<=y) (hl:lo<=hh.length) :
  ∃ hh' row' F1',Af lo 222 [.ptr (some (b,(i0,0))),Iv k] hh=some (.bool (Bw p.chain k),hh')/\B7 false hh' row' (Er p k) F1'/\hh'[b]?=some (CC rs i0 row')/\Mv hh (b ::(G1++(G2++G3))) hh' (b :: F1'):=by
 have hblt:b<hh.length:=(DY hb).1;have hbd:∀ y∈b ::(G1++(G2++G3)),y<hh.length:=λy hy=>by
  simp only[zdm,zde] at hy;rcases hy with rfl | hy | hy | hy
  ·exact hblt
  ·exact rnodes_ok.bd _ _ _ _ g1 y hy
  ·exact rvers_ok.bd _ _ _ _ g2 y hy
  ·exact rvss_ok.bd _ _ _ _ g3 y hy
 have hsmN:De p.chain:=KZ (Bd hpo) (by decide) (by decide);have nd:=hnd;rw[zdn,zdg,zde,zde,zdg] at nd;obtain ⟨n1,n2,⟨n3,n4,n5⟩,n6⟩:=nd;simp only[not_or] at n1;have nd2:(b :: G2).Nodup:=by rw[zdn];exact ⟨n1.2.1,n3⟩
 obtain ⟨h5,F5,e5,r5,m5⟩:=Zl (lo:=lo) (k:=k) (R:=6) (e:=29) (rs:=rs.set i0 (p.cs a1 c1 a2 c2 a3 c3)) (row:=p.cs a1 c1 a2 c2 a3 c3) (i:=i0) (j:=0+2) hb (zdr hrl) rfl g1 n1.1 n2 (λy hy=>hlo' y (by simp[hy])) hl hsmN (UA hpo);have hb5:h5[b]?=some (CC rs i0 (p.cs a1 c1 a2 c2 a3 c3)):=by rw[m5.fr b hblt n1.1];exact hb
 have g25:=m5.keep rvers_ok g2 λy hy hm=>n6 y hm y (by simp[hy]) rfl;have d1':=(Vx m5 (Mv.refl nd2) hnd hbd).2.1;unfold Er;cases hc:Bw p.chain k with
 | false =>rw[hc,cond_false] at r5;rw[hc] at e5;obtain ⟨r8,m8⟩:=E9 (q:=p) m5 (Mv.refl nd2) hnd hbd r5 g25 g3;exact ⟨h5,_,_,JI (r:=(.bool false,h5)) (by rw[e5,Ad,Ax,Az]),r8,hb5,m8⟩
 | true =>
  rw[hc,cond_true] at r5;rw[hc] at e5;have ht:=Qp (To (k:=k.toNat) (Bd hpo)) (by decide) (by decide) (by decide);have h0:=Dl hpo;have hcs:(Jr p k.toNat).cs a1 c1 a2 c2 a3 c3=p.cs a1 c1 a2 c2 a3 c3:=by simp only[Place.cs,Jr,IN]
  have r5':RNodes false h5 [.sl 2 a1 (Jr p k.toNat).chain.length c1] (Jr p k.toNat).chain F5:=by show RNodes false h5 [.sl 2 a1 (FG p.chain k.toNat).length c1] (FG p.chain k.toNat) F5;rw[IN];exact r5
  obtain ⟨a8,c8,h8,F8,e9,b9,r9,m9⟩:=HX (lo:=lo) (p:=Jr p k.toNat) hrl (a3:=a3) (c3:=c3) (by rw[hcs];exact hb5) r5' g25 (by show 0<(FG _ _).length;rw[IN];omega) ht d1' nd2 (λy hy=>hlo' y (by simp only[zdm,zde] at hy ⊢;rcases hy with hy | hy;exact .inl hy;exact .inr (.inr (.inl hy)))) (by have:=m5.le;omega);obtain ⟨r10,m10⟩:=E9 (q:=BL (Jr p k.toNat)) m5 m9 hnd hbd r5' r9 g3;exact ⟨h8,_,_,JI (r:=(.bool true,h8)) (by rw[e5,Ad,Ax,Aq,e9,Ad,Kd,Ag]),r10,b9,m10⟩
end


theorem Sli.atP {α:Type}{El:Rel α} (ok:El.Ok) {h:Heap}{R R' e n k:Nat}{a:Pq}{c:Nq}{l:List α}{F:List Nat} (hs:Sli false R e El h [.sl R' a n c] l F) (hk:k<l.length) (hnd:F.Nodup) :
  ∃ (b i:Nat) (rs:List (List V)) (row:List V) (G:List Nat),a=some (b,i)/\b∈F/\b∉G/\h[b]?=some (.rows R e false (rs.set (i+k) row))/\i+k<rs.length/\El h row l[k] G/\(∀ y∈G,y∈F)/\G.Nodup /\
   ∀ h' row' x' G',h'[b]?=some (.rows R e false (rs.set (i+k) row'))->El h' row' x' G'->Mv h (b :: G) h' (b :: G')->∃ F',Sli false R e El h' [.sl R' a n c] (l.set k x') F'/\Mv h F h' F':=by
 have hbd:=(Sli.ok ok).bd _ _ _ _ hs;obtain ⟨b,i,rs,row,G,ha,hbF,hbG,hb,hrow,hel,hGF,hGn,put⟩:=hs.put ok.fr hk hnd;refine ⟨b,i,rs,row,G,ha,hbF,hbG,by rw[set_same hrow];exact hb,(DY hrow).1,hel,hGF,hGn,λh' row' x' G' hb' hx m=>?_⟩;have hnd':=m.nd;rw[zdn] at hnd';have hsub:∀ y∈b :: G,y∈F:=λy hy=>by
  rcases zdm.1 hy with rfl | hy
  ·exact hbF
  ·exact hGF y hy
 obtain ⟨F',p1,p2,p3,_⟩:=put h' row' x' G' hb' (λy hy hyb hyG=>m.fr y (hbd y hy) (by simp[hyb,hyG])) hx hnd'.2 (λy hy hyF=>by
  rcases m.sub y (by simp[hy]) with g | g
  ·rcases zdm.1 g with rfl | g
   ·exact absurd hy hnd'.1
   ·exact g
  ·have:=hbd y hyF;omega)
 refine ⟨F',p1,m.le,λy hy hyF=>m.fr y hy λhg=>hyF (hsub y hg),p3,λy hy=>?_⟩;rcases p2 y hy with g | g
 ·exact .inl g.1
 ·rcases m.sub y (by simp[g]) with q | q
  ·exact .inl (hsub y q)
  ·exact .inr q
abbrev RPlacesN:Rel (List Place):=Sli false 6 (Hw false) (B7 false)
theorem rplacesN_ok:RPlacesN.Ok:=Sli.ok IY
structure WN (lo:Nat) (h:Heap) (b:Nat) (w:World) (a1:Pq) (c1:Nq) (a2:Pq) (c2:Nq) (a3:Pq) (c3:Nq) (a4:Pq) (c4:Nq) (F1 F2 F3 F4:List Nat):Prop where
 hb:h[b]?=some (.rows 4 60 false [w.cs a1 c1 a2 c2 a3 c3 a4 c4])
 r1:RPlacesN h [.sl 6 a1 w.places.length c1] w.places F1
 r2:RSesss false h [.sl 5 a2 w.sess.length c2] w.sess F2
 r3:RFrames false h [.sl 9 a3 w.net.length c3] w.net F3
 r4:RDones false h [.sl 5 a4 w.hist.length c4] w.hist F4
 nd:(b ::(F1++(F2++(F3++F4)))).Nodup
 ge:∀ y∈b ::(F1++(F2++(F3++F4))),lo<=y
 hl:lo<=h.length
def Ik (lo:Nat) (h:Heap) (b:Nat) (w:World) (F:List Nat):Prop:=∃ a1 c1 a2 c2 a3 c3 a4 c4 F1 F2 F3 F4,F=b ::(F1++(F2++(F3++F4)))/\WN lo h b w a1 c1 a2 c2 a3 c3 a4 c4 F1 F2 F3 F4
section
variable {lo b:Nat}{h h':Heap}{w:World}{a1 a2 a3 a4 a:Pq}{c1 c2 c3 c4 c:Nq}{F1 F2 F3 F4:List Nat}
theorem WN.at (H:WN lo h b w a1 c1 a2 c2 a3 c3 a4 c4 F1 F2 F3 F4):Ik lo h b w (b ::(F1++(F2++(F3++F4)))):=⟨a1,c1,a2,c2,a3,c3,a4,c4,F1,F2,F3,F4,rfl,H⟩
theorem WN.blt (H:WN lo h b w a1 c1 a2 c2 a3 c3 a4 c4 F1 F2 F3 F4):b<h.length:=(DY H.hb).1
theorem WN.lt (H:WN lo h b w a1 c1 a2 c2 a3 c3 a4 c4 F1 F2 F3 F4):(∀ y∈F1,y<h.length)/\(∀ y∈F2,y<h.length)/\(∀ y∈F3,y<h.length)/\∀ y∈F4,y<h.length :=
 ⟨rplacesN_ok.bd _ _ _ _ H.r1,rsesss_ok.bd _ _ _ _ H.r2,rframes_ok.bd _ _ _ _ H.r3,rdones_ok.bd _ _ _ _ H.r4⟩
theorem WN.bd (H:WN lo h b w a1 c1 a2 c2 a3 c3 a4 c4 F1 F2 F3 F4):∀ y∈F1++(F2++(F3++F4)),y<h.length:=λy hy=>by
 obtain ⟨g1,g2,g3,g4⟩:=H.lt;simp only[zde] at hy;rcases hy with hy | hy | hy | hy
 ·exact g1 y hy
 ·exact g2 y hy
 ·exact g3 y hy
 ·exact g4 y hy
theorem WN.ne (H:WN lo h b w a1 c1 a2 c2 a3 c3 a4 c4 F1 F2 F3 F4):b∉F1++(F2++(F3++F4))/\(F1++(F2++(F3++F4))).Nodup:=zdn.1 H.nd
theorem WN.with (H:WN lo h b w a1 c1 a2 c2 a3 c3 a4 c4 F1 F2 F3 F4) {F':List Nat} (m:Mv h (F1++(F2++(F3++F4))) h' F'):h'[b]?=h[b]?/\Mv h (b ::(F1++(F2++(F3++F4)))) h' (b :: F'):=by
 have e:=m.fr b H.blt H.ne.1;refine ⟨e,⟨m.le,λy hy hF=>m.fr y hy λg=>hF (by simp[g]),?_,λy hy=>?_⟩⟩
 ·rw[zdn];refine ⟨λhm=>?_,m.nd⟩;rcases m.sub b hm with g | g
  ·exact H.ne.1 g
  ·have:=H.blt;omega
 ·rcases zdm.1 hy with rfl | hy
  ·exact .inl (by simp)
  ·rcases m.sub y hy with g | g
   ·exact .inl (by simp[g])
   ·exact .inr g
theorem WN.up1 (H:WN lo h b w a1 c1 a2 c2 a3 c3 a4 c4 F1 F2 F3 F4) {l:List Place}{G:List Nat} (hn:l.length=w.places.length) (m:Mv h F1 h' G) (r:RPlacesN h' [.sl 6 a1 w.places.length c1] l G) :
  WN lo h' b ⟨l,w.sess,w.net,w.hist⟩ a1 c1 a2 c2 a3 c3 a4 c4 G F2 F3 F4/\Mv h (b ::(F1++(F2++(F3++F4)))) h' (b ::(G++(F2++(F3++F4)))):=by
 obtain ⟨_,d12,d13,d14,d23,d24,d34⟩:=PT H.ne.2;have m1:Mv h (F1++(F2++(F3++F4))) h' (G++(F2++(F3++F4))):=m.mid (.refl _) H.ne.2 (λy hy=>H.bd y (by simp only[zde] at hy ⊢;grind)) (.refl _);obtain ⟨e,m2⟩:=H.with m1;refine ⟨⟨by rw[e,H.hb];simp only[World.cs,hn],by rw[<- hn] at r;exact r,m.keep rsesss_ok H.r2 (λb hb hm=>d12 b hm hb),m.keep rframes_ok H.r3 (λb hb hm=>d13 b hm hb),m.keep rdones_ok H.r4 (λb hb hm=>d14 b hm hb),m2.nd,m2.ge H.hl H.ge,zdh H.hl m.le⟩,m2⟩
theorem WN.up2 (H:WN lo h b w a1 c1 a2 c2 a3 c3 a4 c4 F1 F2 F3 F4) {l:List Sess}{G:List Nat} (hn:l.length=w.sess.length) (m:Mv h F2 h' G) (r:RSesss false h' [.sl 5 a2 w.sess.length c2] l G) :
  WN lo h' b ⟨w.places,l,w.net,w.hist⟩ a1 c1 a2 c2 a3 c3 a4 c4 F1 G F3 F4/\Mv h (b ::(F1++(F2++(F3++F4)))) h' (b ::(F1++(G++(F3++F4)))):=by
 obtain ⟨_,d12,d13,d14,d23,d24,d34⟩:=PT H.ne.2;have m1:Mv h (F1++(F2++(F3++F4))) h' (F1++(G++(F3++F4))):=m.mid Py H.ne.2 (λy hy=>H.bd y (by simp only[zde] at hy ⊢;grind)) Py;obtain ⟨e,m2⟩:=H.with m1;refine ⟨⟨by rw[e,H.hb];simp only[World.cs,hn],m.keep rplacesN_ok H.r1 (λb hb hm=>d12 b hb hm),by rw[<- hn] at r;exact r,m.keep rframes_ok H.r3 (λb hb hm=>d23 b hm hb),m.keep rdones_ok H.r4 (λb hb hm=>d24 b hm hb),m2.nd,m2.ge H.hl H.ge,zdh H.hl m.le⟩,m2⟩
theorem WN.up0 (H:WN lo h b w a1 c1 a2 c2 a3 c3 a4 c4 F1 F2 F3 F4) (m:Mv h [] h' []):WN lo h' b w a1 c1 a2 c2 a3 c3 a4 c4 F1 F2 F3 F4/\Mv h (b ::(F1++(F2++(F3++F4)))) h' (b ::(F1++(F2++(F3++F4)))):=by have m1:Mv h (F1++(F2++(F3++F4))) h' (F1++(F2++(F3++F4))):=m.aside (by simpa using H.ne.2) H.bd;obtain ⟨e,m2⟩:=H.with m1;exact ⟨⟨by rw[e,H.hb],m.keep0 rplacesN_ok H.r1,m.keep0 rsesss_ok H.r2,m.keep0 rframes_ok H.r3,m.keep0 rdones_ok H.r4,H.nd,H.ge,zdh H.hl m.le⟩,m2⟩
theorem WN.up3 (H:WN lo h b w a1 c1 a2 c2 a3 c3 a4 c4 F1 F2 F3 F4) {l:List Frame}{G:List Nat} (m:Mv h F3 h' G) (r:RFrames false h' [.sl 9 a l.length c] l G) :
  ∃ h2,st lo h' b 0 (0+2) [.sl 9 a l.length c]=some h2/\WN lo h2 b ⟨w.places,w.sess,l,w.hist⟩ a1 c1 a2 c2 a c a4 c4 F1 F2 G F4/\Mv h (b ::(F1++(F2++(F3++F4)))) h2 (b ::(F1++(F2++(G++F4)))):=by
 obtain ⟨_,d12,d13,d14,d23,d24,d34⟩:=PT H.ne.2;have m1:Mv h (F1++(F2++(F3++F4))) h' (F1++(F2++(G++F4))):=m.mid TE H.ne.2 (λy hy=>H.bd y (by simp only[zde] at hy ⊢;grind)) TE;obtain ⟨e,_⟩:=H.with m1;rw[H.hb] at e;obtain ⟨m6,b6,k6,n6⟩:=m1.store H.blt H.ne.1 (.rows 4 60 false [(World.mk w.places w.sess l w.hist).cs a1 c1 a2 c2 a c a4 c4]);have es:=Bt (lo:=lo) (j:=0+2) (r:=0) (cs := [.sl 9 a l.length c]) (row':=(World.mk w.places w.sess l w.hist).cs a1 c1 a2 c2 a c a4 c4) e (H.ge b (by simp)) rfl (EM (by simp[World.cs]));have ne:∀ {F:List Nat},(∀ y∈F,y∈F1++(F2++(G++F4)))->∀ y∈F,y≠b:=λhs y hy e=>n6 (e ▸ hs y hy);refine ⟨_,es,⟨b6,rplacesN_ok.fr _ _ _ _ _ (m.keep rplacesN_ok H.r1 (λb hb hm=>d13 b hb hm)) λy hy=>k6 y (ne (F:=F1) (λy hy=>by simp[hy]) y hy),rsesss_ok.fr _ _ _ _ _ (m.keep rsesss_ok H.r2 (λb hb hm=>d23 b hb hm)) λy hy=>k6 y (ne (F:=F2) (λy hy=>by simp[hy]) y hy),rframes_ok.fr _ _ _ _ _ r λy hy=>k6 y (ne (F:=G) (λy hy=>by simp[hy]) y hy),rdones_ok.fr _ _ _ _ _ (m.keep rdones_ok H.r4 (λb hb hm=>d34 b hm hb)) λy hy=>k6 y (ne (F:=F4) (λy hy=>by simp[hy]) y hy),m6.nd,m6.ge H.hl H.ge,zdh H.hl m6.le⟩,m6⟩
theorem WN.up4 (H:WN lo h b w a1 c1 a2 c2 a3 c3 a4 c4 F1 F2 F3 F4) {l:List Done}{G:List Nat} (m:Mv h F4 h' G) (r:RDones false h' [.sl 5 a l.length c] l G) :
  ∃ h2,st lo h' b 0 (0+3) [.sl 5 a l.length c]=some h2/\WN lo h2 b ⟨w.places,w.sess,w.net,l⟩ a1 c1 a2 c2 a3 c3 a c F1 F2 F3 G/\Mv h (b ::(F1++(F2++(F3++F4)))) h2 (b ::(F1++(F2++(F3++G)))):=by
 obtain ⟨_,d12,d13,d14,d23,d24,d34⟩:=PT H.ne.2;have m1:Mv h (F1++(F2++(F3++F4))) h' (F1++(F2++(F3++G))):=m.mid Yf H.ne.2 (λy hy=>H.bd y (by simp only[zde] at hy ⊢;grind)) Yf;obtain ⟨e,_⟩:=H.with m1;rw[H.hb] at e;obtain ⟨m6,b6,k6,n6⟩:=m1.store H.blt H.ne.1 (.rows 4 60 false [(World.mk w.places w.sess w.net l).cs a1 c1 a2 c2 a3 c3 a c]);have es:=Bt (lo:=lo) (j:=0+3) (r:=0) (cs := [.sl 5 a l.length c]) (row':=(World.mk w.places w.sess w.net l).cs a1 c1 a2 c2 a3 c3 a c) e (H.ge b (by simp)) rfl (EM (by simp[World.cs]));have ne:∀ {F:List Nat},(∀ y∈F,y∈F1++(F2++(F3++G)))->∀ y∈F,y≠b:=λhs y hy e=>n6 (e ▸ hs y hy);refine ⟨_,es,⟨b6,rplacesN_ok.fr _ _ _ _ _ (m.keep rplacesN_ok H.r1 (λb hb hm=>d14 b hb hm)) λy hy=>k6 y (ne (F:=F1) (λy hy=>by simp[hy]) y hy),rsesss_ok.fr _ _ _ _ _ (m.keep rsesss_ok H.r2 (λb hb hm=>d24 b hb hm)) λy hy=>k6 y (ne (F:=F2) (λy hy=>by simp[hy]) y hy),rframes_ok.fr _ _ _ _ _ (m.keep rframes_ok H.r3 (λb hb hm=>d34 b hb hm)) λy hy=>k6 y (ne (F:=F3) (λy hy=>by simp[hy]) y hy),rdones_ok.fr _ _ _ _ _ r λy hy=>k6 y (ne (F:=G) (λy hy=>by simp[hy]) y hy),m6.nd,m6.ge H.hl H.ge,zdh H.hl m6.le⟩,m6⟩
theorem WN.cell (H:WN lo h b w a1 c1 a2 c2 a3 c3 a4 c4 F1 F2 F3 F4):ld h b 0 (0+0) 1=some [.sl 6 a1 w.places.length c1]/\ld h b 0 (0+1) 1=some [.sl 5 a2 w.sess.length c2]/\ld h b 0 (0+2) 1=some [.sl 9 a3 w.net.length c3]/\ld h b 0 (0+3) 1=some [.sl 5 a4 w.hist.length c4]:=by refine ⟨?_,?_,?_,?_⟩<;>rw[CA H.hb rfl]<;>rfl
theorem WN.place (H:WN lo h b w a1 c1 a2 c2 a3 c3 a4 c4 F1 F2 F3 F4) {k:Nat} (hk:k<w.places.length):∃ b1 i1 rs x1 y1 x2 y2 x3 y3 G1 G2 G3,a1=some (b1,i1)/\i1+k<rs.length/\h[b1]?=some (CC rs (i1+k) (w.places[k].cs x1 y1 x2 y2 x3 y3)) /\
  RNodes false h [.sl 2 x1 w.places[k].chain.length y1] w.places[k].chain G1/\RVers false h [.sl 6 x2 w.places[k].log.length y2] w.places[k].log G2/\RVss false h [.sl 1 x3 w.places[k].got.length y3] w.places[k].got G3 /\
  (b1 ::(G1++(G2++G3))).Nodup/\(∀ y∈b1 ::(G1++(G2++G3)),lo<=y/\y<h.length/\y∈F1) /\
  ∀ h' row' p' F',h'[b1]?=some (CC rs (i1+k) row')->B7 false h' row' p' F'->Mv h (b1 ::(G1++(G2++G3))) h' (b1 :: F') ->
   ∃ F1',WN lo h' b (setP w k p') a1 c1 a2 c2 a3 c3 a4 c4 F1' F2 F3 F4/\Mv h (b ::(F1++(F2++(F3++F4)))) h' (b ::(F1'++(F2++(F3++F4)))):=by
 obtain ⟨⟨n1,_⟩,_⟩:=PT H.ne.2;obtain ⟨b1,i1,rs,row,G,ha,hbF,hbG,hb,hil,hel,hGF,hGn,put⟩:=Sli.atP IY H.r1 hk n1;obtain ⟨x1,y1,x2,y2,x3,y3,rfl,q⟩:=hel;obtain ⟨G1,G2,G3,rfl,g1,g2,g3⟩:=q.cells;refine ⟨b1,i1,rs,x1,y1,x2,y2,x3,y3,G1,G2,G3,ha,hil,hb,g1,g2,g3,by rw[zdn];exact ⟨hbG,hGn⟩,λy hy=>?_,λh' row' p' F' hb' hx m=>?_⟩
 ·have hyF:y∈F1:=by
   rcases zdm.1 hy with rfl | hy
   ·exact hbF
   ·exact hGF y hy
  exact ⟨H.ge y (by simp[hyF]),H.lt.1 y hyF,hyF⟩
 ·obtain ⟨F1',r,m'⟩:=put h' row' p' F' hb' hx m;exact ⟨F1',(H.up1 (by simp) m' r).1,(H.up1 (by simp) m' r).2⟩
end


variable {rs:List (List V)}
theorem Mt {h:Heap}{b i j n R e:Nat}{ro:Bool}{row:List V} (hb:h[b]?=some (.rows R e ro (rs.set i row))) (hil:i<rs.length):ld h b i j n=cut row j n:=CA hb (by simp[hil])
theorem On {lo:Nat}{h:Heap}{b i j R e:Nat}{row row' cs:List V} (hb:h[b]?=some (.rows R e false (rs.set i row))) (hil:i<rs.length) (hl:lo<=b) (hp:paste row j cs=some row'):st lo h b i j cs=some (h.set b (.rows R e false (rs.set i row'))):=by rw[Bt (r:=i) hb hl (by simp[hil]) hp,zd1]
section
variable {lo l0 b:Nat}{h h':Heap}{w:World}{a1 a2 a3 a4 a:Pq}{c1 c2 c3 c4 c:Nq}{F1 F2 F3 F4:List Nat}
theorem LR {n:Int} (H:WN l0 h b w a1 c1 a2 c2 a3 c3 a4 c4 F1 F2 F3 F4) (h80:w.hist.length<=1000) (hn:0<=n/\n<=4):Af lo 273 [.ptr (some (b,(0,0))),Iv n] h=some (.bool (Db w n),h):=by
 refine N2 (h':=h) ?_;rw[H.cell.2.2.2,Ae,Aa,Ag,Ai,wr (by omega) (by omega)];unfold Db;cases decide ((w.hist.length:Int)+n<=80) with
 | true=>rw[Aq]
 | false=>rw[Az]
theorem OI {d:Done} (H:WN lo h b w a1 c1 a2 c2 a3 c3 a4 c4 F1 F2 F3 F4) (h80:w.hist.length<=1000) :
  ∃ a5 c5 h' G,Af lo 274 [.ptr (some (b,(0,0))),Iv d.sess,Iv d.kind,Iv d.key,.agg [Iv d.tag.time,Iv d.tag.place]] h=some (.tup [],h') /\
   WN lo h' b ⟨w.places,w.sess,w.net,w.hist ++ [d]⟩ a1 c1 a2 c2 a3 c3 a5 c5 F1 F2 F3 G/\Mv h (b ::(F1++(F2++(F3++F4)))) h' (b ::(F1++(F2++(F3++G)))):=by
 obtain ⟨⟨n1,n2,n3,n4⟩,_⟩:=PT H.ne.2;obtain ⟨a6,c6,h6,F6,e6,r6,m6⟩:=DN (lo:=lo) (bytes:=40) (e:=126) (El:=flat Done.cs) DF H.r4 (row:=d.cs) (x:=d) (G := []) (h1:=h ++ [.rows 5 126 false [d.cs]])
  ⟨rfl,rfl⟩ Mv.snoc n4 (λy hy=>H.ge y (by simp[hy])) H.hl (by decide) (by omega)
 have hnl:(w.hist ++ [d]).length=w.hist.length+1:=by simp
 rw[<- hnl] at r6 e6;obtain ⟨h2,es,W,M⟩:=H.up4 m6 r6;refine ⟨a6,c6,h2,F6,JH ?_,W,M⟩;simp only[Done.cs] at e6;rw[H.cell.2.2.2,Ae,Aa,Ag,Ai,AX,e6,Ai,es,Ae]
theorem WN.sess (H:WN lo h b w a1 c1 a2 c2 a3 c3 a4 c4 F1 F2 F3 F4) {k:Nat} (hk:k<w.sess.length):∃ (b2 i2:Nat) (rs:List (List V)) (v:V) (x:Pq) (y:Nq) (G:List Nat),a2=some (b2,i2)/\i2+k<rs.length /\
  h[b2]?=some (.rows 5 (Fu false) false (rs.set (i2+k) [Iv w.sess[k].place,v,Iv w.sess[k].wait.time,Iv w.sess[k].wait.place,Iv w.sess[k].key])) /\
  (∀ {R':Type} (K:Pq->Nat->Nq->Option R'),eS 2 v K=K x w.sess[k].past.length y)/\RTags false h [.sl 2 x w.sess[k].past.length y] w.sess[k].past G/\RTags false h [v] w.sess[k].past G /\
  (b2 :: G).Nodup/\(∀ y∈b2 :: G,lo<=y/\y<h.length/\y∈F2) /\
  ∀ h' row' s' G',h'[b2]?=some (.rows 5 (Fu false) false (rs.set (i2+k) row'))->RSess false h' row' s' G'->Mv h (b2 :: G) h' (b2 :: G') ->
   ∃ F2',WN lo h' b ⟨w.places,w.sess.set k s',w.net,w.hist⟩ a1 c1 a2 c2 a3 c3 a4 c4 F1 F2' F3 F4/\Mv h (b ::(F1++(F2++(F3++F4)))) h' (b ::(F1++(F2'++(F3++F4)))):=by
 obtain ⟨⟨_,n2,_⟩,_⟩:=PT H.ne.2;obtain ⟨b2,i2,rs,row,G,ha,hbF,hbG,hb,hil,hel,hGF,hGn,put⟩:=Sli.atP IX H.r2 hk n2;obtain ⟨v,rfl,hv⟩:=hel;obtain ⟨x,y,es,hp⟩:=hv.form;refine ⟨b2,i2,rs,v,x,y,G,ha,hil,hb,es,hp,hv,by rw[zdn];exact ⟨hbG,hGn⟩,λy hy=>?_,λh' row' s' G' hb' hx m=>?_⟩
 ·have hyF:y∈F2:=by
   rcases zdm.1 hy with rfl | hy
   ·exact hbF
   ·exact hGF y hy
  exact ⟨H.ge y (by simp[hyF]),H.lt.2.1 y hyF,hyF⟩
 ·obtain ⟨F2',r,m'⟩:=put h' row' s' G' hb' hx m;exact ⟨F2',(H.up2 (by simp) m' r).1,(H.up2 (by simp) m' r).2⟩
theorem WN.sets (H:WN lo h b w a1 c1 a2 c2 a3 c3 a4 c4 F1 F2 F3 F4) {k:Nat} (hk:k<w.sess.length):∃ (b2 i2:Nat) (rs:List (List V)) (v:V),a2=some (b2,i2)/\lo<=b2/\i2+k<rs.length /\
  h[b2]?=some (.rows 5 (Fu false) false (rs.set (i2+k) [Iv w.sess[k].place,v,Iv w.sess[k].wait.time,Iv w.sess[k].wait.place,Iv w.sess[k].key])) /\
  ∀ s':Sess,s'.past=w.sess[k].past->∃ F2',WN lo (h.set b2 (.rows 5 (Fu false) false (rs.set (i2+k) [Iv s'.place,v,Iv s'.wait.time,Iv s'.wait.place,Iv s'.key]))) b ⟨w.places,w.sess.set k s',w.net,w.hist⟩ a1 c1 a2 c2 a3 c3 a4 c4 F1 F2' F3 F4 /\
   Mv h (b ::(F1++(F2++(F3++F4)))) (h.set b2 (.rows 5 (Fu false) false (rs.set (i2+k) [Iv s'.place,v,Iv s'.wait.time,Iv s'.wait.place,Iv s'.key]))) (b ::(F1++(F2'++(F3++F4)))):=by
 obtain ⟨b2,i2,rs,v,x,y,G,ha,hil,hb,es,hp,hv,hnd,hF,put⟩:=H.sess hk;refine ⟨b2,i2,rs,v,ha,(hF b2 (by simp)).1,hil,hb,λs' hs'=>?_⟩;obtain ⟨hbG,hGn⟩:=zdn.1 hnd;obtain ⟨m6,b6,k6,n6⟩:=(Mv.refl (h:=h) hGn).store (hF b2 (by simp)).2.1 hbG (.rows 5 (Fu false) false (rs.set (i2+k) [Iv s'.place,v,Iv s'.wait.time,Iv s'.wait.place,Iv s'.key]));exact put _ _ s' G b6 ⟨v,rfl,by rw[hs'];exact rtags_ok.fr _ _ _ _ _ hv λy hy=>k6 y λe=>hbG (e ▸ hy)⟩ m6
theorem WN.setp (H:WN lo h b w a1 c1 a2 c2 a3 c3 a4 c4 F1 F2 F3 F4) {k:Nat} (hk:k<w.sess.length) {l:List Tag}{G5:List Nat} (m:Mv h [] h' G5) (r:RTags false h' [.sl 2 a l.length c] l G5):∃ (b2 i2:Nat) (rs:List (List V)) (v:V),a2=some (b2,i2)/\lo<=b2/\i2+k<rs.length /\
  h'[b2]?=some (.rows 5 (Fu false) false (rs.set (i2+k) [Iv w.sess[k].place,v,Iv w.sess[k].wait.time,Iv w.sess[k].wait.place,Iv w.sess[k].key])) /\
  ∀ s':Sess,s'.past=l->∃ F2',WN lo (h'.set b2 (.rows 5 (Fu false) false (rs.set (i2+k) [Iv s'.place,.sl 2 a l.length c,Iv s'.wait.time,Iv s'.wait.place,Iv s'.key]))) b ⟨w.places,w.sess.set k s',w.net,w.hist⟩ a1 c1 a2 c2 a3 c3 a4 c4 F1 F2' F3 F4 /\
   Mv h (b ::(F1++(F2++(F3++F4)))) (h'.set b2 (.rows 5 (Fu false) false (rs.set (i2+k) [Iv s'.place,.sl 2 a l.length c,Iv s'.wait.time,Iv s'.wait.place,Iv s'.key]))) (b ::(F1++(F2'++(F3++F4)))):=by
 obtain ⟨b2,i2,rs,v,x,y,G,ha,hil,hb,es,hp,hv,hnd,hF,put⟩:=H.sess hk;obtain ⟨hbG,hGn⟩:=zdn.1 hnd;have hblt:=(hF b2 (by simp)).2.1;refine ⟨b2,i2,rs,v,ha,(hF b2 (by simp)).1,hil,by rw[m.fr b2 hblt (by simp)];exact hb,λs' hs'=>?_⟩;have mG:Mv h G h' G5:=m.wide (λb hb=>by simp at hb);obtain ⟨m6,b6,k6,n6⟩:=mG.store hblt hbG (.rows 5 (Fu false) false (rs.set (i2+k) [Iv s'.place,.sl 2 a l.length c,Iv s'.wait.time,Iv s'.wait.place,Iv s'.key]));exact put _ _ s' G5 b6 ⟨_,rfl,by rw[hs'];exact rtags_ok.fr _ _ _ _ _ r λy hy=>k6 y λe=>n6 (e ▸ hy)⟩ m6
theorem WN.stay (H:WN lo h b w a1 c1 a2 c2 a3 c3 a4 c4 F1 F2 F3 F4) (m:Mv h [] h' []) {X:Option World} (hX:X=none):∃ h'' F',some (V.bool false,h')=some (V.bool X.isSome,h'')/\Ik lo h'' b (X.getD w) F'/\Mv h (b ::(F1++(F2++(F3++F4)))) h'' F':=by subst hX;exact ⟨h',_,rfl,(H.up0 m).1.at,(H.up0 m).2⟩
end


theorem Tw {w:World}{q:Nat} (hq:q<w.places.length):setP w q w.places[q]=w:=by unfold setP;rw[zew]
section
variable {lo b:Nat}{h h':Heap}{w:World}{a1 a2 a3 a4 a:Pq}{c1 c2 c3 c4 c:Nq}{F1 F2 F3 F4:List Nat}
theorem OJ {e:Event}{k b2 i2:Nat} (H:WN lo h b w a1 c1 (some (b2,i2)) c2 a3 c3 a4 c4 F1 F2 F3 F4) (hg:Fits w) (hk:k<w.sess.length) (he:e.at'=(k:Int)) (hw0:w.sess[k].wait.time=0) (hes:e.text.size<=1048576) :
  ∃ h' F',Af lo 218 [.ptr (some (b,(0,0))),.ptr (some (b2,(i2+k,0))),.agg e.cs] h=some (.bool (Eh w k w.sess[k] e).isSome,h')/\Ik lo h' b ((Eh w k w.sess[k] e).getD w) F'/\Mv h (b ::(F1++(F2++(F3++F4)))) h' F':=by
 suffices hq:∃ h' F',_=some (V.bool (Eh w k w.sess[k] e).isSome,h')/\Ik lo h' b ((Eh w k w.sess[k] e).getD w) F'/\Mv h (b ::(F1++(F2++(F3++F4)))) h' F' from by obtain ⟨h',F',e1,hr⟩:=hq;exact ⟨h',F',ML e1,hr⟩
 have hso:=hg.ok.sess _ (zdf hk);obtain ⟨t1,t2,t3,t4,t5,t6⟩:=BD hso;have hp4:=BQ t2;have h80:=hg.ok.h80;obtain ⟨q,hpl⟩:∃ q:Nat,w.sess[k].place=(q:Int):=⟨w.sess[k].place.toNat,by omega⟩;have hq:q<w.places.length:=by have:=hg.ok.p3;omega
 obtain ⟨hpo,hme,hro⟩:=hg.at hq;have hn:=(D1 (Bd hpo) (by decide) (by decide) (by decide)).1;have hX:Eh w k w.sess[k] e=bif (A0 w.places[q] e.key e.text e.gone w.sess[k].past&&Db w 1) then some (setS (setP w q (En w.places[q] e.key e.text e.gone w.sess[k].past).1) k ⟨w.sess[k].place,w.sess[k].past,(En w.places[q] e.key e.text e.gone w.sess[k].past).2,e.key⟩ [⟨k,1,e.key,(En w.places[q] e.key e.text e.gone w.sess[k].past).2⟩]) else none:=by unfold Eh;rw[hpl,A7,DZ hq,hw0];rfl
 generalize hXX:Eh w k w.sess[k] e=X at hX;obtain ⟨b2',i2',rs2,v,x,y,G,ha2',hil2,hb2,es,hp,hv,hnd2,hF2,_⟩:=H.sess hk;injection ha2' with ha2';injection ha2' with z1 z2;subst z1;subst z2;obtain ⟨b1,i1,rs,x1,y1,x2,y2,x3,y3,G1,G2,G3,rfl,hil,hb1,g1,g2,g3,nd,hF,put⟩:=H.place hq;have lp:∀ hh:Heap,hh[b2]?=h[b2]?->ld hh b2 (i2+k) (0+0) 1=some [Iv (q:Nat)]:=λhh e=>by rw[hb2] at e;rw[Mt e hil2,<- hpl];rfl
 have lv:ld h b2 (i2+k) (0+1) 1=some [v]:=by rw[Mt hb2 hil2];rfl
 rw[LR H (by omega) ⟨by omega,by omega⟩,Ad,Ax];cases hr:Db w 1 with
 | false=>rw[Az];exact H.stay Mv.nil (by rw[hX,hr,zeD];rfl)
 | true =>
 rw[hr,zeA] at hX;obtain ⟨a5,c5,h5,F5,e5,r5,m5⟩:=DL (lo:=lo) hp H.hl (by omega);have H5:=(H.up0 m5.drop).1;have h5b2:h5[b2]?=h[b2]?:=m5.fr b2 (hF2 b2 (by simp)).2.1 (by simp);have hblt:=(hF b1 (by simp)).2.1;have m5a:=m5.drop.aside (G:=b1 ::(G1++(G2++G3))) nd (λy hy=>(hF y hy).2.1);obtain ⟨h6,row6,F6,e6,r6,b6,m6⟩:=Wb (lo:=lo) (h:=h5) hil (k:=e.key) (s:=e.text) (g:=e.gone) (l:=w.sess[k].past) (by rw[m5.fr b1 hblt (by simp)];exact hb1) (m5.keep0 rnodes_ok g1) (m5.keep0 rvers_ok g2) (m5.keep0 rvss_ok g3) r5
  (λy hy hm=>by have:=m5.new y hy;have:=(hF y (by simp only[zdm,zde] at hm ⊢;rcases hm with hm | hm;exact .inl hm;exact .inr (.inl hm))).2.1;omega) hpo hn ⟨by omega,hes⟩ nd (λy hy=>(hF y hy).1) (zdh H.hl m5.le)
 obtain ⟨F1',H6,M6⟩:=put h6 row6 _ F6 b6 r6 (m5a.trans m6);rw[Aq,H.cell.1,Ae,Aa,Ag,Ai,lp h rfl,Ae,Aa,Ag,Ab,Ac hq,Ae,lv,Ae,Aa,es,Ag,IW,DA,IW,DA,e5,Ad,AS,Aa,Ai,Ag,H5.cell.1,lp h5 h5b2,IW,DA,IW,DA,A7,e6,Ad,AS,Aa,Ab,Aa,Ab,Ag];cases hcw:A0 w.places[q] e.key e.text e.gone w.sess[k].past with
 | false =>
  rw[hcw] at hX;have hwr:En w.places[q] e.key e.text e.gone w.sess[k].past=(w.places[q],⟨0,0⟩):=by unfold En;rw[hpo,hcw];rfl
  rw[hwr] at H6 ⊢;rw[Tw hq] at H6;subst hX;exact ⟨h6,_,rfl,H6.at,M6⟩
 | true =>
 rw[hcw] at hX;have hz:(((En w.places[q] e.key e.text e.gone w.sess[k].past).2.time==(0:Int))&&(((En w.places[q] e.key e.text e.gone w.sess[k].past).2.place==(0:Int))&&true))=false:=by
  have hlt:E3 w.sess[k].past<AI w.places[q] w.sess[k].past/\w.places[q].clock<AI w.places[q] w.sess[k].past:=newer_lt_iff.1 (by unfold AI;omega);have hcl:=(AL hpo).2.1;have:((En w.places[q] e.key e.text e.gone w.sess[k].past).2.time==(0:Int))=false:=by rw[Tm hpo hcw,beq_eq_false_iff_ne];show AI w.places[q] w.sess[k].past≠0;omega
  rw[this];rfl
 generalize (En w.places[q] e.key e.text e.gone w.sess[k].past).1=P at hX H6 M6;generalize (En w.places[q] e.key e.text e.gone w.sess[k].past).2=T at hX hz ⊢;obtain ⟨b2',i2',rs6,v6,ha6,lob,hil6,hb6,put6⟩:=H6.sets (k:=k) hk;injection ha6 with ha6;injection ha6 with z1 z2;subst z1;subst z2;have hb6':h6[b2]?=some (.rows 5 (Fu false) false (rs6.set (i2+k) [Iv w.sess[k].place,v6,Iv w.sess[k].wait.time,Iv w.sess[k].wait.place,Iv w.sess[k].key])):=hb6;have s1:=On (lo:=lo) (j:=0+2) (cs := [Iv T.time,Iv T.place]) (row' := [Iv w.sess[k].place,v6,Iv T.time,Iv T.place,Iv w.sess[k].key]) hb6' hil6 lob rfl;have s2:=On (lo:=lo) (h:=h6.set b2 (.rows 5 (Fu false) false (rs6.set (i2+k) [Iv w.sess[k].place,v6,Iv T.time,Iv T.place,Iv w.sess[k].key]))) (b:=b2) (i:=i2+k) (rs:=rs6) (e:=Fu false) (R:=5) (j:=0+4) (cs := [Iv e.key]) (row := [Iv w.sess[k].place,v6,Iv T.time,Iv T.place,Iv w.sess[k].key]) (row' := [Iv w.sess[k].place,v6,Iv T.time,Iv T.place,Iv e.key]) (by rw[zdr (DY hb6').1]) hil6 lob rfl;rw[zd1] at s2;obtain ⟨F2',H7,M7⟩:=put6 ⟨w.sess[k].place,w.sess[k].past,T,e.key⟩ rfl;obtain ⟨a8,c8,h8,G8,e8,H8,M8⟩:=OI (d:=⟨e.at',1,e.key,T⟩) H7 (by show w.hist.length<=1000;omega);rw[hz,Az,s1,Ae,s2,Ae,e8,Ad,Kd,Ag];subst hX;rw[he] at H8;exact ⟨h8,_,rfl,H8.at,M6.trans (M7.trans M8)⟩
end


section
variable {lo:Nat}{h h':Heap}{F F':List Nat}{a a':Pq}{c c':Nq}
theorem T0 {x y:Tag}:Af lo 297 [.agg [Iv x.time,Iv x.place],.agg [Iv y.time,Iv y.place]] h=some (.agg [Iv (FI x y).time,Iv (FI x y).place],h):=by
 refine Tk (h':=h) ?_;rw[Ew,Ad,Ax];unfold FI DV;cases Hb x.time x.place y.time y.place with
 | true=>rw[Aq];rfl
 | false=>rw[Az];rfl
theorem Lo {l:List Tag}{k:Nat}{t:Tag} (hs:RTags false h [.sl 2 a l.length c] l F) (hk:k<l.length) (hl:lo<=h.length) (hn:l.length<=1048576) :
  ∃ a' c' h' F',Af lo 276 [.agg [.sl 2 a l.length c],Iv (k:Nat),.agg [Iv t.time,Iv t.place]] h=some (.agg [.sl 2 a' (ET l k t).length c'],h')/\RTags false h' [.sl 2 a' (ET l k t).length c'] (ET l k t) F'/\Mv h [] h' F':=by
 obtain ⟨a1,c1,h1,F1,e1,r1,m1⟩:=DL (lo:=lo) hs hl hn;obtain ⟨b,i,rs,row,G,ha,hbF,hbG,hb,hrow,⟨rfl,rfl⟩,hGF,hGn,_,put⟩:=r1.at (lo:=lo) DF hk m1.nd (λy hy=>m1.ge hl (by simp) y hy);have hld:ld h1 b (i+k) 0 2=some [Iv l[k].time,Iv l[k].place]:=by rw[CA hb hrow];rfl
 obtain ⟨h2,F2,e2,r2,m2,_⟩:=put h1 [] 0 (FI l[k] t).cs (FI l[k] t).cs (FI l[k] t) Mv.nil rfl ⟨rfl,rfl⟩;subst ha;have hwl:(ET l k t).length=l.length:=by rw[LI hk];simp
 rw[hwl];refine ⟨some (b,i),c1,h2,F2,Pd ?_,by rw[LI hk];exact r2,m1.trans m2⟩;simp only[Tag.cs] at e2;rw[e1,Ad,AS,Aa,Ai,Ag,Ac hk,Ae,A7,hld,Ae,Aa,Ab,Aa,Ab,Ag,T0,Ad,AS,Aa,Ab,Aa,Ab,Ag,Ac hk,Ae,e2,Ae]
theorem RC {p q:List Tag} (hs:RTags false h [.sl 2 a p.length c] p F) (hs':RTags false h [.sl 2 a' q.length c'] q F') (hp:p.length=4) (hq:q.length=4) (hl:lo<=h.length) :
  ∃ a5 c5 h' F5,Af lo 277 [.agg [.sl 2 a p.length c],.agg [.sl 2 a' q.length c']] h=some (.agg [.sl 2 a5 (DO p q).length c5],h')/\RTags false h' [.sl 2 a5 (DO p q).length c5] (DO p q) F5/\Mv h [] h' F5:=by
 obtain ⟨a1,c1,h1,F1,e1,r1,m1⟩:=DL (lo:=lo) hs hl (by omega);have hj:(DO p q).length=4:=by unfold DO;rw[zeV];omega
 have part:∀ i (hi:i<4),((DO p q).take i++p.drop i).length=4/\((DO p q).take i++p.drop i)[i]?=p[i]?/\((DO p q).take i++p.drop i).set i (FI (p[i]'(by omega)) (q[i]'(by omega)))=(DO p q).take (i+1)++p.drop (i+1):=λi hi=>by
  have e:((DO p q).take i).length=i:=by rw[zdD];omega
  refine ⟨by rw[zdy,zeh,e];omega,?_,?_⟩
  ·rw[zdC (by omega),e,zeH,zdG,zdY]
  ·rw[zeo _ _ (by omega),e,zeH,zdw (by omega:i<p.length),zeX,zex (by omega:i<(DO p q).length),zdv];have:(DO p q)[i]'(by omega)=FI (p[i]'(by omega)) (q[i]'(by omega)):=List.getElem_zipWith;rw[this];rfl
 have loop:∀ m i hh G,m+i=4->Mv h1 F1 hh G->RTags false hh [.sl 2 a1 4 c1] ((DO p q).take i++p.drop i) G->∃ h' F5,BV lo a' q.length c' (q.length:Nat) (i:Nat) 0 none 0 (some 0) a1 p.length c1 hh=some (.agg [.sl 2 a1 (DO p q).length c1],h')/\RTags false h' [.sl 2 a1 4 c1] (DO p q) F5/\Mv h1 F1 h' F5:=by
  intro m;induction m with
  | zero =>
   intro i hh G hi mm r;obtain rfl:i=4:=by omega
   rw[zdZ (by omega),zd0,zdP (by omega)] at r;refine ⟨hh,G,?_,r,mm⟩;rw[BV.e,Aj (by omega),hp,hj]
  | succ m ih =>
   intro i hh G hi mm r;obtain ⟨g1,g2,g3⟩:=part i (by omega);have hi4:i<((DO p q).take i++p.drop i).length:=by omega
   have hip:i<p.length:=by omega
   obtain ⟨o,rfl,ho⟩:=((m1.trans mm).drop.keep0 rtags_ok hs').get (show i<q.length by omega);obtain ⟨b,i1,rs,row,G1,ha,hbF,hbG,hb,hrow,⟨hrw,rfl⟩,hGF,hGn,_,put⟩:=r.at (lo:=lo) DF hi4 mm.nd (λy hy=>(m1.trans mm).ge hl (by simp) y hy);have hpi:((DO p q).take i++p.drop i)[i]'hi4=p[i]:=by have:=DZ hi4;rw[g2,DZ hip] at this;injection this with this;exact this.symm
   rw[hpi] at hrw;have hld:ld hh b (i1+i) 0 2=some [Iv p[i].time,Iv p[i].place]:=by rw[CA hb hrow,hrw];rfl
   obtain ⟨h2,F2,e2,r2,m2,_⟩:=put hh [] 0 (FI p[i] (q[i]'(by omega))).cs (FI p[i] (q[i]'(by omega))).cs (FI p[i] (q[i]'(by omega))) Mv.nil (by rw[hrw];rfl) ⟨rfl,rfl⟩;rw[g3] at r2;subst ha;obtain ⟨h',F5,q1,q2,q3⟩:=ih (i+1) h2 F2 (by omega) (mm.trans m2) r2;refine ⟨h',F5,?_,q2,q3⟩;simp only[Tag.cs] at e2;rw[<- q1,BV.e,Am (by omega),Ac (by omega),Ae,A7,ho,Ae,Aa,Ab,Aa,Ab,Ag,Ac hip,Ae,hld,Ae,Aa,Ab,Aa,Ab,Ag,T0,Ad,AS,Aa,Ab,Aa,Ab,Ag,Ac hip,Ae,e2,Ae,Au (by omega)]
 obtain ⟨h',F5,q1,q2,q3⟩:=loop 4 0 h1 F1 rfl (Mv.refl m1.nd) (by rw[List.take_zero,zdO,zeg,<- hp];exact r1);refine ⟨a1,c1,h',F5,Km ?_,by rw[hj];exact q2,m1.trans q3⟩;rw[e1,Ad,AS,Aa,Ai,Ag];exact q1
end


section
variable {lo b:Nat}{h h':Heap}{w:World}{a1 a2 a3 a4 a:Pq}{c1 c2 c3 c4 c:Nq}{F1 F2 F3 F4:List Nat}{k b2 i2:Nat}
theorem WN.row (H:WN lo h b w a1 c1 (some (b2,i2)) c2 a3 c3 a4 c4 F1 F2 F3 F4) (hk:k<w.sess.length):∃ v x y G,ld h b2 (i2+k) (0+0) 1=some [Iv w.sess[k].place]/\ld h b2 (i2+k) (0+1) 1=some [v]/\ld h b2 (i2+k) (0+2) 2=some [Iv w.sess[k].wait.time,Iv w.sess[k].wait.place]/\ld h b2 (i2+k) (0+4) 1=some [Iv w.sess[k].key] /\
  (∀ {R':Type} (K:Pq->Nat->Nq->Option R'),eS 2 v K=K x w.sess[k].past.length y)/\RTags false h [.sl 2 x w.sess[k].past.length y] w.sess[k].past G:=by
 obtain ⟨b2',i2',rs,v,x,y,G,ha,hil,hb2,es,hp,_⟩:=H.sess hk;injection ha with ha;injection ha with z1 z2;subst z1;subst z2;exact ⟨v,x,y,G,by rw[Mt hb2 hil];rfl,by rw[Mt hb2 hil];rfl,by rw[Mt hb2 hil];rfl,by rw[Mt hb2 hil];rfl,es,hp⟩
theorem WN.waits (H:WN lo h b w a1 c1 (some (b2,i2)) c2 a3 c3 a4 c4 F1 F2 F3 F4) (hk:k<w.sess.length) (t:Tag) (key:Int):∃ h1 h2 F2',st lo h b2 (i2+k) (0+2) [Iv t.time,Iv t.place]=some h1/\st lo h1 b2 (i2+k) (0+4) [Iv key]=some h2 /\
  WN lo h2 b ⟨w.places,w.sess.set k ⟨w.sess[k].place,w.sess[k].past,t,key⟩,w.net,w.hist⟩ a1 c1 (some (b2,i2)) c2 a3 c3 a4 c4 F1 F2' F3 F4/\Mv h (b ::(F1++(F2++(F3++F4)))) h2 (b ::(F1++(F2'++(F3++F4)))):=by
 obtain ⟨b2',i2',rs,v,ha,lob,hil,hb,put⟩:=H.sets hk;injection ha with ha;injection ha with z1 z2;subst z1;subst z2;have s1:=On (lo:=lo) (j:=0+2) (cs := [Iv t.time,Iv t.place]) (row' := [Iv w.sess[k].place,v,Iv t.time,Iv t.place,Iv w.sess[k].key]) hb hil lob rfl;have s2:=On (lo:=lo) (h:=h.set b2 (.rows 5 (Fu false) false (rs.set (i2+k) [Iv w.sess[k].place,v,Iv t.time,Iv t.place,Iv w.sess[k].key]))) (b:=b2) (i:=i2+k) (rs:=rs) (e:=Fu false) (R:=5) (j:=0+4) (cs := [Iv key]) (row := [Iv w.sess[k].place,v,Iv t.time,Iv t.place,Iv w.sess[k].key]) (row' := [Iv w.sess[k].place,v,Iv t.time,Iv t.place,Iv key]) (by rw[zdr (DY hb).1]) hil lob rfl;rw[zd1] at s2;obtain ⟨F2',H7,M7⟩:=put ⟨w.sess[k].place,w.sess[k].past,t,key⟩ rfl;exact ⟨_,_,F2',s1,s2,H7,M7⟩
theorem WN.pasts (H:WN lo h b w a1 c1 (some (b2,i2)) c2 a3 c3 a4 c4 F1 F2 F3 F4) (hk:k<w.sess.length) {l:List Tag}{G5:List Nat} (m:Mv h [] h' G5) (r:RTags false h' [.sl 2 a l.length c] l G5):∃ h1 F2',st lo h' b2 (i2+k) (0+1) [.sl 2 a l.length c]=some h1 /\
  WN lo h1 b ⟨w.places,w.sess.set k ⟨w.sess[k].place,l,w.sess[k].wait,w.sess[k].key⟩,w.net,w.hist⟩ a1 c1 (some (b2,i2)) c2 a3 c3 a4 c4 F1 F2' F3 F4/\Mv h (b ::(F1++(F2++(F3++F4)))) h1 (b ::(F1++(F2'++(F3++F4)))):=by
 obtain ⟨b2',i2',rs,v,ha,lob,hil,hb,put⟩:=H.setp hk m r;injection ha with ha;injection ha with z1 z2;subst z1;subst z2;have s1:=On (lo:=lo) (j:=0+1) (cs := [.sl 2 a l.length c]) (row' := [Iv w.sess[k].place,.sl 2 a l.length c,Iv w.sess[k].wait.time,Iv w.sess[k].wait.place,Iv w.sess[k].key]) hb hil lob rfl;obtain ⟨F2',H7,M7⟩:=put ⟨w.sess[k].place,l,w.sess[k].wait,w.sess[k].key⟩ rfl;exact ⟨_,F2',s1,H7,M7⟩
theorem Ry {e:Event} (H:WN lo h b w a1 c1 (some (b2,i2)) c2 a3 c3 a4 c4 F1 F2 F3 F4) (hg:Fits w) (hk:k<w.sess.length) (he:e.at'=(k:Int)) (hw:0<w.sess[k].wait.time) :
  ∃ h' F',Af lo 219 [.ptr (some (b,(0,0))),.ptr (some (b2,(i2+k,0))),.agg e.cs] h=some (.bool (Jn w k w.sess[k]).isSome,h')/\Ik lo h' b ((Jn w k w.sess[k]).getD w) F'/\Mv h (b ::(F1++(F2++(F3++F4)))) h' F':=by
 suffices hq:∃ h' F',_=some (V.bool (Jn w k w.sess[k]).isSome,h')/\Ik lo h' b ((Jn w k w.sess[k]).getD w) F'/\Mv h (b ::(F1++(F2++(F3++F4)))) h' F' from by obtain ⟨h',F',e1,hr⟩:=hq;exact ⟨h',F',Pb e1,hr⟩
 have hso:=hg.ok.sess _ (zdf hk);obtain ⟨t1,t2,t3,t4,t5,t6⟩:=BD hso;have hp4:=BQ t2;have h80:=hg.ok.h80;obtain ⟨q,hpl⟩:∃ q:Nat,w.sess[k].place=(q:Int):=⟨w.sess[k].place.toNat,by omega⟩;obtain ⟨m,hky⟩:∃ m:Nat,w.sess[k].key=(m:Int):=⟨w.sess[k].key.toNat,by omega⟩;have hq:q<w.places.length:=by have:=hg.ok.p3;omega
 obtain ⟨hpo,hme,hro⟩:=hg.at hq;have hn:=(D1 (Bd hpo) (by decide) (by decide) (by decide)).1;have hst:∀ x∈w.places[q].chain,Bv x.store=true:=λx hx=>(Bo ((DJ (AL hpo).2.2.2.1).2 x hx)).1
 have h0:=Dl hpo;have hhl:=NI hpo;have hmh:m<(Ey w.places[q].chain).length:=by omega
 obtain ⟨v,x,y,G,lp,lv,lw,lk,es,hp⟩:=H.row hk;obtain ⟨b1,i1,rs,x1,y1,x2,y2,x3,y3,G1,G2,G3,rfl,hil,hb1,g1,g2,g3,nd,hF,put⟩:=H.place hq;have hld:ld h b1 (i1+q) (2+0) 1=some [.sl 2 x1 w.places[q].chain.length y1]:=by rw[Dg hil hb1];rfl
 obtain ⟨u,a5,c5,h5,e5,hsh,m5⟩:=XA (lo:=lo) (k:=0) (key:=m) (b:=b1) (i:=i1+q) (j:=2) hld (λK=>Ai 2 _ _ _ K) g1 h0 hst (by omega) H.hl hn.1.1;obtain ⟨H5,M5⟩:=H.up0 m5;have hX:Jn w k w.sess[k]=bif DV u.tag w.sess[k].wait then (bif DV ((Ey w.places[q].chain)[m]'hmh).tag w.sess[k].wait then some (setS w k ⟨w.sess[k].place,w.sess[k].past,⟨0,0⟩,0⟩ []) else none)
   else (bif Db w 1 then some (setS w k ⟨w.sess[k].place,ET w.sess[k].past m w.sess[k].wait,⟨0,0⟩,0⟩ [⟨k,3,w.sess[k].key,w.sess[k].wait⟩]) else none):=by
  unfold Jn;rw[hpl,A7,DZ hq];simp only[hky,A7,hsh,DZ hmh,decide_eq_true hw,cond_true]
 generalize hXX:Jn w k w.sess[k]=X at hX;obtain ⟨v5,x5,y5,G5,lp5,lv5,lw5,lk5,es5,hp5⟩:=H5.row hk;have e5':Af lo 275 [.ptr (some (b1,(i1+q,2))),Iv 0,Iv (m:Nat)] h=some (.tup [.agg (Ver.cs u a5 c5),.bool true],h5):=e5;simp only[Ver.cs] at e5';have hz0:∀ s:Sess,setS w k s []=⟨w.places,w.sess.set k s,w.net,w.hist⟩:=λs=>by unfold setS;rw[zd0]
 rw[H.cell.1,Ae,Aa,Ag,Ai,lp,Ae,Aa,Ag,Ab,hpl,Ac hq,Ae,lk,Ae,Aa,Ag,Ab,A7,hky,e5',Ad,Kd,Aa,AS,Aa,Ab,Aa,Ab,Aa,Ab,Aa,Ai,Aa,BO,Aa,AK,Ag,Aa,Ax,Aq,Ag,lw5,Ae,Aa,Ab,Aa,Ab,Ag,Ew,Ad,Ax];cases hl:Hb u.tag.time u.tag.place w.sess[k].wait.time w.sess[k].wait.place with
 | true =>
  rw[show DV u.tag w.sess[k].wait=true from hl,cond_true] at hX;have hb5:h5[b1]?=some (CC rs (i1+q) (w.places[q].cs x1 y1 x2 y2 x3 y3)):=by rw[m5.fr b1 (hF b1 (by simp)).2.1 (by simp)];exact hb1
  have lc5:ld h5 b1 (i1+q) 2 1=some [.sl 2 x1 w.places[q].chain.length y1]:=by rw[Dg hil hb5];rfl
  obtain ⟨o,s1,s2,d1,f1,d2,f2,J1,J2,ha,_,ho1,_,es1,_,px,_⟩:=(m5.keep0 rnodes_ok g1).get h0;have hms:m<w.places[q].chain[0].store.length:=by rw[Hr h0] at hmh;exact hmh
  obtain ⟨o3,_,_,_,_,ha3,_,_,_,_,_,_,ho12,_⟩:=px.all hms;have hub:(Ey w.places[q].chain)[m]'hmh=w.places[q].chain[0].store[m]:=by simp only[Hr h0]
  rw[hub] at hX;rw[Aq,lc5,Ae,Aa,Ag,Ai,DE ⟨by omega,by omega⟩,ha,Ae,ho1,Ae,Aa,Ag,es1,lk5,Ae,Aa,Ag,Ab,hky,Ac hms,ha3,Ae,A7,ho12,Ae,Aa,Ab,Aa,Ab,Ag,lw5,Ae,Aa,Ab,Aa,Ab,Ag,Ew,Ad,Ax];cases hl2:Hb w.places[q].chain[0].store[m].tag.time w.places[q].chain[0].store[m].tag.place w.sess[k].wait.time w.sess[k].wait.place with
  | true =>rw[show DV w.places[q].chain[0].store[m].tag w.sess[k].wait=true from hl2,cond_true,hz0] at hX;obtain ⟨h6,h7,F6,s6,s7,H7,M7⟩:=H5.waits hk ⟨0,0⟩ 0;rw[Aq,s6,Ae,s7,Ae];subst hX;exact ⟨h7,_,rfl,H7.at,M5.trans M7⟩
  | false =>rw[show DV w.places[q].chain[0].store[m].tag w.sess[k].wait=false from hl2,cond_false] at hX;rw[Az];subst hX;exact ⟨h5,_,rfl,H5.at,M5⟩
 | false =>
  rw[show DV u.tag w.sess[k].wait=false from hl,cond_false] at hX;rw[Az,LR H5 (by omega) ⟨by omega,by omega⟩,Ad,Ax];cases hr:Db w 1 with
  | false =>rw[hr,cond_false] at hX;rw[Az];subst hX;exact ⟨h5,_,rfl,H5.at,M5⟩
  | true =>
  rw[hr,cond_true] at hX;obtain ⟨a6,c6,h6,F6,e6,r6,m6⟩:=Lo (lo:=lo) (k:=m) (t:=w.sess[k].wait) hp5 (by omega) H5.hl (by omega);obtain ⟨h7,F7,s7,H7,M7⟩:=H5.pasts hk m6 r6;have hk7:k<(w.sess.set k ⟨w.sess[k].place,ET w.sess[k].past m w.sess[k].wait,w.sess[k].wait,w.sess[k].key⟩).length:=by simpa using hk
  have hse:(w.sess.set k ⟨w.sess[k].place,ET w.sess[k].past m w.sess[k].wait,w.sess[k].wait,w.sess[k].key⟩)[k]'hk7=⟨w.sess[k].place,ET w.sess[k].past m w.sess[k].wait,w.sess[k].wait,w.sess[k].key⟩:=zev hk7;obtain ⟨v7,x7,y7,G7,lp7,lv7,lw7,lk7,_,_⟩:=H7.row hk7;simp only[hse] at lw7 lk7;obtain ⟨a8,c8,h8,G8,e8,H8,M8⟩:=OI (d:=⟨e.at',3,w.sess[k].key,w.sess[k].wait⟩) H7 (by show w.hist.length<=1000;omega);obtain ⟨h9,h10,F10,s9,s10,H10,M10⟩:=H8.waits hk7 ⟨0,0⟩ 0;have e8':Af lo 274 [.ptr (some (b,(0,0))),Iv e.at',Iv 3,Iv (m:Nat),.agg [Iv w.sess[k].wait.time,Iv w.sess[k].wait.place]] h7=some (.tup [],h8):=by rw[<- hky];exact e8
  rw[Aq,lv5,Ae,Aa,es5,Ag,lk5,Ae,Aa,Ag,Ab,hky,lw5,Ae,Aa,Ab,Aa,Ab,Ag,e6,Ad,AS,Aa,Ai,Ag,s7,Ae,lk7,Ae,Aa,Ag,Ab,hky,lw7,Ae,Aa,Ab,Aa,Ab,Ag,e8',Ad,Kd,Ag,s9,Ae,s10,Ae];subst hX;refine ⟨h10,_,rfl,?_,M5.trans (M7.trans (M8.trans M10))⟩;have:=H10.at;simp only[hse,zd1] at this;rw[he] at this;exact this
end


variable {l:List Node}{p:List Tag}
section
variable {lo:Nat}{h h':Heap}{F F':List Nat}{a a':Pq}{c c':Nq}
theorem We {k key b i j:Nat}{s0:V} (hld:ld h b i (j+0) 1=some [s0]) (es0:∀ {T:Type} (K:Pq->Nat->Nq->Option T),eS 2 s0 K=K a l.length c) (hs:RNodes false h [.sl 2 a l.length c] l F) (hk:k<l.length) (hst:∀ x∈l,Bv x.store=true) (hkey:key<4) (hl:lo<=h.length) (hn1:l.length<=1048576) :
  ∃ v a' c' h' G,Af lo 275 [.ptr (some (b,(i,j))),Iv (k:Nat),Iv (key:Nat)] h=some (.tup [.agg (Ver.cs v a' c'),.bool true],h')/\Gg l k key=some v/\RTags false h' [.sl 2 a' v.past.length c'] v.past G/\Mv h [] h' G:=by
 suffices hq:∃ v a' c' h' G,_=some (V.tup [.agg (Ver.cs v a' c'),.bool true],h')/\Gg l k key=some v/\RTags false h' [.sl 2 a' v.past.length c'] v.past G/\Mv h [] h' G from by obtain ⟨v,a',c',h',G,e,hr⟩:=hq;exact ⟨v,a',c',h',G,Gc e,hr⟩
 have hql:Bn l k<l.length:=by unfold Bn;split<;>omega
 obtain ⟨o,s1,s2,b1,d1,b2,d2,H1,H2,ha,_,ho1,_,q1,_,p1,_⟩:=hs.get hql;have hs4:=hst _ (zdf hql);have hkl:key<l[Bn l k].store.length:=by rw[Cd hs4];exact hkey
 obtain ⟨o2,t,b3,d3,G,ha2,ho2,es2,pv,_⟩:=p1.get hkl;obtain ⟨a5,c5,h5,F5,e5,r5,m5⟩:=Bu (lo:=lo) (v:=l[Bn l k].store[key]) pv hl ((Kp hs4).2 _ (zdf hkl)).1;have hsh:Gg l k key=some l[Bn l k].store[key]:=by unfold Gg;rw[Dd hql,DZ hkl]
 generalize l[Bn l k].store[key]=v at ho2 es2 pv e5 r5 hsh;generalize l[Bn l k].store.length=n1 at q1 hkl ha2;refine ⟨v,a5,c5,h5,F5,?_,hsh,r5,m5⟩;simp only[Ver.cs] at e5;have hw1:Ah ((k:Nat):Int) 0 ((l.length:Int) - 1)=true:=by simp only[Ah,DH,decide_eq_true_eq];omega
 have hw2:Ah ((key:Nat):Int) 0 3=true:=by simp only[Ah,DH,decide_eq_true_eq];omega
 rw[hld,Ae,Aa,Ag,es0,wr (n:=((l.length:Nat):Int) - 1) (by omega) (by omega),Bk,Ad,Ax,hw1,Aq,KE,Ad,Ax,hw2,Aq];by_cases hk0:k=0
 ·rw[show (((k:Nat):Int)==0)=true by rw[beq_iff_eq];omega,Aq,hld,Ae,Aa,Ag,es0,Ae,Aa,Ag,es0,wr (n:=((l.length:Nat):Int) - 1) (by omega) (by omega)];have hif:(if ((l.length:Nat):Int) - 1<1 then ((l.length:Nat):Int) - 1 else 1)=((Bn l k:Nat):Int):=by
   unfold Bn;by_cases h1:1<l.length
   ·rw[if_neg (by omega),if_pos ⟨hk0,h1⟩];rfl
   ·rw[if_pos (by omega),if_neg (by omega)];omega
  rw[hif,Ac hql,ha,Ae,A7,ho1,Ae,Aa,Ag,q1,Ac hkl,ha2,Ae,A7,ho2,Ae,Aa,Ab,Aa,Ab,Aa,Ab,Aa,es2,Aa,BO,Aa,AK,Ag,e5,Ad,AS,Aa,Ab,Aa,Ab,Aa,Ab,Aa,Ai,Aa,BO,Aa,AK,Ag]
 ·have hsa:Bn l k=k:=by unfold Bn;rw[if_neg (by omega)]
  rw[hsa] at ho1;rw[show (((k:Nat):Int)==0)=false by rw[beq_eq_false_iff_ne];omega,Az,hld,Ae,Aa,Ag,es0,Ac hk,ha,Ae,A7,ho1,Ae,Aa,Ag,q1,Ac hkl,ha2,Ae,A7,ho2,Ae,Aa,Ab,Aa,Ab,Aa,Ab,Aa,es2,Aa,BO,Aa,AK,Ag,e5,Ad,AS,Aa,Ab,Aa,Ab,Aa,Ab,Aa,Ai,Aa,BO,Aa,AK,Ag]
theorem SG {num key:Int}{b i j:Nat}{s0:V} (hld:ld h b i (j+0) 1=some [s0]) (es0:∀ {T:Type} (K:Pq->Nat->Nq->Option T),eS 2 s0 K=K a l.length c) (hn1:l.length<=1048576) (hno:(Ah key 0 3&&Ah num 0 ((l.length:Int) - 1))=false) :
  Af lo 275 [.ptr (some (b,(i,j))),Iv num,Iv key] h=some (.tup [.agg [Iv 0,Iv 0,Iv 0,.sl 0 none 0 (some 0),.str ⟨⟨[]⟩⟩,.bool false],.bool false],h):=by
 refine Gc ?_;rw[hld,Ae,Aa,Ag,es0,wr (n:=((l.length:Nat):Int) - 1) (by omega) (by omega),Bk,Ad,Ax];cases hw:Ah num 0 ((l.length:Int) - 1) with
 | false=>rw[Az]
 | true =>rw[hw,zeA] at hno;rw[Aq,KE,Ad,Ax,hno,Az]
theorem NH {q:List Tag} (hs:RTags false h [.sl 2 a p.length c] p F) (hs':RTags false h [.sl 2 a' q.length c'] q F') (hp:p.length=4) (hq:q.length=0) (hl:lo<=h.length) :
  ∃ a5 c5 h' F5,Af lo 277 [.agg [.sl 2 a p.length c],.agg [.sl 2 a' q.length c']] h=some (.agg [.sl 2 a5 p.length c5],h')/\RTags false h' [.sl 2 a5 p.length c5] p F5/\Mv h [] h' F5:=by
 obtain ⟨a1,c1,h1,F1,e1,r1,m1⟩:=DL (lo:=lo) hs hl (by omega);refine ⟨a1,c1,h1,F1,Km ?_,r1,m1⟩;rw[e1,Ad,AS,Aa,Ai,Ag,BV.e,Aj (by omega)]
theorem Ze {x:Tag} (hx:CY x.time x.place=true):FI x ⟨0,0⟩=x:=by have:=IU hx;unfold FI DV Hb;rw[show (decide (x.time<0) || (x.time==0&&decide (x.place<0)))=false by simp;omega];rfl
theorem WO {k:Nat} (hp:Ck p=true):ET p k ⟨0,0⟩=p:=by
 unfold ET;cases hx:p[k]? with
 | none=>rfl
 | some x =>obtain ⟨hi,rfl⟩:=DY hx;simp only;rw[Ze ((pastOk_iff.1 hp).2 _ (zdf hi)),zew]
end
section
variable {lo b:Nat}{h h':Heap}{w:World}{a1 a2 a3 a4 a:Pq}{c1 c2 c3 c4 c:Nq}{F1 F2 F3 F4:List Nat}{k b2 i2:Nat}
theorem PZ {e:Event} (H:WN lo h b w a1 c1 (some (b2,i2)) c2 a3 c3 a4 c4 F1 F2 F3 F4) (hg:Fits w) (hk:k<w.sess.length) (he:e.at'=(k:Int)) (hw0:w.sess[k].wait.time=0) :
  ∃ h' F',Af lo 220 [.ptr (some (b,(0,0))),.ptr (some (b2,(i2+k,0))),.agg e.cs] h=some (.bool (Gj w k w.sess[k] e).isSome,h')/\Ik lo h' b ((Gj w k w.sess[k] e).getD w) F'/\Mv h (b ::(F1++(F2++(F3++F4)))) h' F':=by
 suffices hq:∃ h' F',_=some (V.bool (Gj w k w.sess[k] e).isSome,h')/\Ik lo h' b ((Gj w k w.sess[k] e).getD w) F'/\Mv h (b ::(F1++(F2++(F3++F4)))) h' F' from by obtain ⟨h',F',e1,hr⟩:=hq;exact ⟨h',F',N3 e1,hr⟩
 have hso:=hg.ok.sess _ (zdf hk);obtain ⟨t1,t2,t3,t4,t5,t6⟩:=BD hso;have hp4:=BQ t2;have h80:=hg.ok.h80;obtain ⟨q,hpl⟩:∃ q:Nat,w.sess[k].place=(q:Int):=⟨w.sess[k].place.toNat,by omega⟩;have hq:q<w.places.length:=by have:=hg.ok.p3;omega
 obtain ⟨hpo,hme,hro⟩:=hg.at hq;have hn:=(D1 (Bd hpo) (by decide) (by decide) (by decide)).1;have hst:∀ x∈w.places[q].chain,Bv x.store=true:=λx hx=>(Bo ((DJ (AL hpo).2.2.2.1).2 x hx)).1
 obtain ⟨v,x,y,G,lp,lv,lw,lk,es,hp⟩:=H.row hk;obtain ⟨b1,i1,rs,x1,y1,x2,y2,x3,y3,G1,G2,G3,rfl,hil,hb1,g1,g2,g3,nd,hF,put⟩:=H.place hq;have hld:ld h b1 (i1+q) (2+0) 1=some [.sl 2 x1 w.places[q].chain.length y1]:=by rw[Dg hil hb1];rfl
 have hX:Gj w k w.sess[k] e=bif (Ah e.key 0 3&&Ah e.num 0 ((w.places[q].chain.length:Int) - 1))&&Db w 1 then
   (match Gg w.places[q].chain e.num.toNat e.key.toNat,w.sess[k].past[e.key.toNat]? with
   | some v,some t=>bif DV v.tag t then none else some (setS w k ⟨w.sess[k].place,Nk w.sess[k] v e.key.toNat,w.sess[k].wait,w.sess[k].key⟩ [⟨k,2,e.key,v.tag⟩])
   | _,_=>none) else none:=by
  unfold Gj;rw[hpl,A7,DZ hq,hw0,Bool.and_assoc];rfl
 generalize hXX:Gj w k w.sess[k] e=X at hX;rw[H.cell.1,Ae,Aa,Ag,Ai,lp,Ae,Aa,Ag,Ab,hpl,Ac hq,Ae,A7];cases hin:(Ah e.key 0 3&&Ah e.num 0 ((w.places[q].chain.length:Int) - 1)) with
 | false =>rw[hin,zer,cond_false] at hX;rw[SG hld (λK=>Ai 2 _ _ _ K) hn.1.1 hin,Ad,Kd,Aa,AS,Aa,Ab,Aa,Ab,Aa,Ab,Aa];have es0:∀ {R':Type} (K:Pq->Nat->Nq->Option R'),eS 2 (.sl 0 none 0 (some 0)) K=K none 0 (some 0):=λK=>rfl;rw[es0,Aa,BO,Aa,AK,Ag,Aa,Ax,Az,Ag];exact H.stay Mv.nil hX
 | true =>
 rw[hin,zdu] at hX;simp only[Ah,DH,decide_eq_true_eq] at hin;obtain ⟨m,hkm⟩:∃ m:Nat,e.key=(m:Int):=⟨e.key.toNat,by omega⟩;obtain ⟨n,hnm⟩:∃ n:Nat,e.num=(n:Int):=⟨e.num.toNat,by omega⟩;have hmp:m<w.sess[k].past.length:=by omega
 obtain ⟨u,a5,c5,h5,G5,e5,hsh,r5,m5⟩:=We (lo:=h.length) (k:=n) (key:=m) (b:=b1) (i:=i1+q) (j:=2) hld (λK=>Ai 2 _ _ _ K) g1 (by omega) hst (by omega) (zdj _) hn.1.1;obtain ⟨H5,M5⟩:=H.up0 m5.drop;simp only[Ver.cs] at e5;rw[hkm,hnm,A7,A7,hsh,DZ hmp] at hX;simp only[] at hX;rw[hkm,hnm,e5,Ad,Kd,Aa,AS,Aa,Ab,Aa,Ab,Aa,Ab,Aa,Ai,Aa,BO,Aa,AK,Ag,Aa,Ax,Aq,Ag,LR H5 (by omega) ⟨by omega,by omega⟩,Ad,Ax];cases hr:Db w 1 with
 | false =>rw[hr,cond_false] at hX;rw[Az];subst hX;exact ⟨h5,_,rfl,H5.at,M5⟩
 | true =>
 rw[hr,cond_true] at hX;obtain ⟨v5,x5,y5,G6,lp5,lv5,lw5,lk5,es5,hp5⟩:=H5.row hk;have lv5':ld h5 b2 (i2+k) (0+1+0) 1=some [v5]:=lv5;obtain ⟨o',ho',ho2⟩:=hp5.get hmp;rw[Aq,lv5',Ae,Aa,Ag,es5,Ac hmp,ho',Ae,A7,ho2,Ae,Aa,Ab,Aa,Ab,Ag,Ew,Ad,Ax];cases hA:Hb u.tag.time u.tag.place w.sess[k].past[m].time w.sess[k].past[m].place with
 | true =>rw[show DV u.tag w.sess[k].past[m]=true from hA,cond_true] at hX;rw[Aq];subst hX;exact ⟨h5,_,rfl,H5.at,M5⟩
 | false =>
 rw[show DV u.tag w.sess[k].past[m]=false from hA,cond_false] at hX;have hu:=VL (I2 hpo) hsh;have joined:∃ J a6 c6 h6 F6,Af lo 277 [.agg [.sl 2 x5 w.sess[k].past.length y5],.agg [.sl 2 a5 u.past.length c5]] h5=some (.agg [.sl 2 a6 J.length c6],h6)/\RTags false h6 [.sl 2 a6 J.length c6] J F6/\Mv h5 [] h6 F6/\J.length=4/\ET J m u.tag=Nk w.sess[k] u m:=by
  rcases D8 hu with g | g
  ·have ht:=Ge g;have hl0:u.past.length=0:=by rw[MW g];rfl
   obtain ⟨a6,c6,h6,F6,q1,q2,q3⟩:=NH (lo:=lo) hp5 r5 hp4 hl0 H5.hl;refine ⟨w.sess[k].past,a6,c6,h6,F6,q1,q2,q3,hp4,?_⟩;unfold Nk;rw[decide_eq_false (by omega),cond_false,show u.tag=⟨0,0⟩ from by cases hq:u.tag;rw[hq] at ht;simp only at ht;rw[ht.1,ht.2],WO t2]
  ·have hv:=Bx g.1;have htm:0<u.tag.time:=(latest_lt.1 hv.2.2.2.2.2).1;obtain ⟨a6,c6,h6,F6,q1,q2,q3⟩:=RC (lo:=lo) hp5 r5 hp4 (BQ hv.2.2.2.1) H5.hl;refine ⟨_,a6,c6,h6,F6,q1,q2,q3,by unfold DO;rw[zeV,hp4,BQ hv.2.2.2.1];rfl,?_⟩;unfold Nk;rw[decide_eq_true htm,cond_true]
 obtain ⟨J,a6,c6,h6,F6,e6,r6,m6,hJ4,hJW⟩:=joined;obtain ⟨a7,c7,h7,F7,e7,r7,m7⟩:=Lo (lo:=lo) (k:=m) (t:=u.tag) r6 (by omega) (zdh H5.hl m6.le) (by omega);rw[hJW] at e7 r7;obtain ⟨h8,F8,s8,H8,M8⟩:=H5.pasts hk (m6.drop.trans m7) r7;obtain ⟨a9,c9,h9,G9,e9,H9,M9⟩:=OI (d:=⟨e.at',2,(m:Nat),u.tag⟩) H8 (by show w.hist.length<=1000;omega);rw[Az,lv5,Ae,Aa,es5,Ag,e6,Ad,AS,Aa,Ai,Ag,e7,Ad,AS,Aa,Ai,Ag,s8,Ae,e9,Ad,Kd,Ag];subst hX;rw[he] at H9;exact ⟨h9,_,rfl,H9.at,M5.trans (M8.trans M9)⟩
end


theorem Z2 {lo:Nat}{h h2:Heap}{b i j:Nat}{cs:List V} (e:st lo h b i j cs=some h2):∀ y,y≠b->h2[y]?=h[y]?:=λy hy=>by
 unfold st at e;split at e
 ·split at e
  ·obtain ⟨row,_,e⟩:=zem.1 e;obtain ⟨row',_,e⟩:=zem.1 e;injection e with e;rw[<- e,zdi (Ne.symm hy)]
  ·cases e
 ·cases e
section
variable {lo b:Nat}{h h':Heap}{w:World}{a1 a2 a3 a4 a:Pq}{c1 c2 c3 c4 c:Nq}{F1 F2 F3 F4:List Nat}{k b2 i2:Nat}
theorem XD {d:Done} (H:WN lo h b w a1 c1 a2 c2 a3 c3 a4 c4 F1 F2 F3 F4) (h80:w.hist.length<=1000) :
  ∃ a5 c5 h' G,Af lo 274 [.ptr (some (b,(0,0))),Iv d.sess,Iv d.kind,Iv d.key,.agg [Iv d.tag.time,Iv d.tag.place]] h=some (.tup [],h') /\
   WN lo h' b ⟨w.places,w.sess,w.net,w.hist ++ [d]⟩ a1 c1 a2 c2 a3 c3 a5 c5 F1 F2 F3 G/\Mv h (b ::(F1++(F2++(F3++F4)))) h' (b ::(F1++(F2++(F3++G))))/\(∀ y,y<h.length->y≠b->y∉F4->h'[y]?=h[y]?)/\∀ y∈G,y∈F4\/h.length<=y:=by
 obtain ⟨⟨n1,n2,n3,n4⟩,_⟩:=PT H.ne.2;obtain ⟨a6,c6,h6,F6,e6,r6,m6⟩:=DN (lo:=lo) (bytes:=40) (e:=126) (El:=flat Done.cs) DF H.r4 (row:=d.cs) (x:=d) (G := []) (h1:=h ++ [.rows 5 126 false [d.cs]])
  ⟨rfl,rfl⟩ Mv.snoc n4 (λy hy=>H.ge y (by simp[hy])) H.hl (by decide) (by omega)
 have hnl:(w.hist ++ [d]).length=w.hist.length+1:=by simp
 rw[<- hnl] at r6 e6;obtain ⟨h2,es,W,M⟩:=H.up4 m6 r6;refine ⟨a6,c6,h2,F6,JH ?_,W,M,λy hy hb hF=>(Z2 es y hb).trans (m6.fr y hy hF),λy hy=>(m6.sub y hy).imp id λq=>q.1⟩;simp only[Done.cs] at e6;rw[H.cell.2.2.2,Ae,Aa,Ag,Ai,AX,e6,Ai,es,Ae]
theorem Uw {i:Nat}{l:List Tag}{j:Nat} (hj:j<l.length):BP i (l.take (j+1))=BP i (l.take j) ++ [⟨i,2,(j:Int),l[j]⟩]:=by unfold BP;rw[zex hj,List.zipIdx_append,List.map_append];congr 1;simp[zdD,Nat.min_eq_left (zd9 hj)]
theorem Rz {e:Event} (H:WN lo h b w a1 c1 (some (b2,i2)) c2 a3 c3 a4 c4 F1 F2 F3 F4) (hg:Fits w) (hk:k<w.sess.length) (he:e.at'=(k:Int)) (hw0:w.sess[k].wait.time=0) :
  ∃ h' F',Af lo 221 [.ptr (some (b,(0,0))),.ptr (some (b2,(i2+k,0))),.agg e.cs] h=some (.bool (JU w k w.sess[k]).isSome,h')/\Ik lo h' b ((JU w k w.sess[k]).getD w) F'/\Mv h (b ::(F1++(F2++(F3++F4)))) h' F':=by
 suffices hq:∃ h' F',_=some (V.bool (JU w k w.sess[k]).isSome,h')/\Ik lo h' b ((JU w k w.sess[k]).getD w) F'/\Mv h (b ::(F1++(F2++(F3++F4)))) h' F' from by obtain ⟨h',F',e1,hr⟩:=hq;exact ⟨h',F',Pc e1,hr⟩
 have hso:=hg.ok.sess _ (zdf hk);obtain ⟨t1,t2,t3,t4,t5,t6⟩:=BD hso;have hp4:=BQ t2;have h80:=hg.ok.h80;obtain ⟨q,hpl⟩:∃ q:Nat,w.sess[k].place=(q:Int):=⟨w.sess[k].place.toNat,by omega⟩;have hq:q<w.places.length:=by have:=hg.ok.p3;omega
 obtain ⟨hpo,hme,hro⟩:=hg.at hq;have hn:=(D1 (Bd hpo) (by decide) (by decide) (by decide)).1;have h0:=Dl hpo;have hst4:=Pl (I2 hpo);have hs4:=BQ hst4;obtain ⟨v,x,y,G,lp,lv,lw,lk,es,hp⟩:=H.row hk;obtain ⟨b1,i1,rs,x1,y1,x2,y2,x3,y3,G1,G2,G3,rfl,hil,hb1,g1,g2,g3,nd,hF,put⟩:=H.place hq;have hld:ld h b1 (i1+q) 2 1=some [.sl 2 x1 w.places[q].chain.length y1]:=by rw[Dg hil hb1];rfl
 obtain ⟨bt,dt,Ht,et,rt,_⟩:=J9 (lo:=h.length) hld g1 h0 hn.1.1;have hslen:(w.places[q].chain[w.places[q].chain.length - 1]'(by omega)).store.length=4:=((Bd hpo).node _ (zdf _)).1;obtain ⟨vt,h5,F5,e5,r5,m5⟩:=OE (lo:=h.length) rt (zdj _) hslen;obtain ⟨a6,c6,es6,r6⟩:=r5.form;rw[<- I9 h0] at es6 r6;obtain ⟨H5,M5⟩:=H.up0 m5.drop;have hX:JU w k w.sess[k]=bif (CD w.sess[k].past (Bs w.places[q].chain)&&Db w 4) then some (setS w k ⟨w.sess[k].place,Bs w.places[q].chain,w.sess[k].wait,w.sess[k].key⟩ (BP k (Bs w.places[q].chain))) else none:=by unfold JU;rw[hpl,A7,DZ hq,hw0];rfl
 generalize hXX:JU w k w.sess[k]=X at hX;generalize Bs w.places[q].chain=S at *
 obtain ⟨v5,x5,y5,G6,lp5,lv5,lw5,lk5,es5,hp5⟩:=H5.row hk;rw[H.cell.1,Ae,Aa,Ag,Ai,lp,Ae,Aa,Ag,Ab,hpl,Ac hq,Ae,A7,et,Ad,AS,Aa,Ai,Ag,e5,Ad,AS,Aa,es6,Ag,LR H5 (by omega) ⟨by omega,by omega⟩,Ad,Ax];cases hr:Db w 4 with
 | false =>rw[hr,zeD,cond_false] at hX;rw[Az];subst hX;exact ⟨h5,_,rfl,H5.at,M5⟩
 | true =>
 rw[hr,zeA] at hX;have hr4:w.hist.length+4<=80:=by unfold Db at hr;simp only[decide_eq_true_eq] at hr;omega
 rw[Aq,lv5,Ae,Aa,es5,Ag,Mz hp5 r6 (by omega) (by omega),Ad,Ax];cases hu:CD w.sess[k].past S with
 | false =>rw[hu,cond_false] at hX;rw[Az];subst hX;exact ⟨h5,_,rfl,H5.at,M5⟩
 | true =>
 rw[hu,cond_true] at hX;obtain ⟨h7,F7,s7,H7,M7⟩:=H.pasts hk m5 r6;have hF5:∀ y∈F5,h.length<=y/\y<h5.length:=λy hy=>by refine ⟨m5.new y hy,rtags_ok.bd _ _ _ _ r6 y hy⟩
 have hb2:b2<h.length:=by obtain ⟨b2',i2',_,_,_,_,_,ha,_,_,_,_,_,_,hF2,_⟩:=H.sess hk;injection ha with ha;injection ha with z1 z2;subst z1;exact (hF2 b2 (by simp)).2.1
 have r7:RTags false h7 [.sl 2 a6 S.length c6] S F5:=rtags_ok.fr _ _ _ _ _ r6 λy hy=>Z2 s7 y (by have:=hF5 y hy;omega);have h57:h5.length<=h7.length:=by
  have:=rtags_ok.bd _ _ _ _ r7;have e:=s7;unfold st at e;split at e
  ·split at e
   ·obtain ⟨row,_,e⟩:=zem.1 e;obtain ⟨row',_,e⟩:=zem.1 e;injection e with e;rw[<- e];simp
   ·cases e
  ·cases e
 have loop:∀ m j hh a4' c4' F4',m+j=4->WN lo hh b ⟨w.places,w.sess.set k ⟨w.sess[k].place,S,w.sess[k].wait,w.sess[k].key⟩,w.net,w.hist++BP k (S.take j)⟩ (some (b1,i1)) c1 (some (b2,i2)) c2 a3 c3 a4' c4' F1 F7 F3 F4' ->
   RTags false hh [.sl 2 a6 S.length c6] S F5->(∀ y∈F5,y<hh.length/\y∉F4')->∃ h' F',Cz lo b 0 0 a6 S.length c6 (S.length:Nat) (j:Nat) e.kind e.at' e.num e.key e.text e.gone hh=some (.bool true,h') /\
    Ik lo h' b ⟨w.places,w.sess.set k ⟨w.sess[k].place,S,w.sess[k].wait,w.sess[k].key⟩,w.net,w.hist++BP k S⟩ F'/\Mv hh (b ::(F1++(F7++(F3++F4')))) h' F':=by
  intro m;induction m with
  | zero =>intro j hh a4' c4' F4' hj W r hy;rw[zdP (by omega)] at W;rw[Cz.e,Aj (by omega)];exact ⟨hh,_,rfl,W.at,Mv.refl W.nd⟩
  | succ m ih =>
   intro j hh a4' c4' F4' hj W r hy;have hjS:j<S.length:=by omega
   obtain ⟨o,ho,ho2⟩:=r.get hjS;have hlen:(BP k (S.take j)).length=j:=by unfold BP;rw[zez,List.length_zipIdx,zdD];omega
   obtain ⟨a8,c8,h8,G8,e8,H8,M8,fr8,sub8⟩:=XD (d:=⟨e.at',2,(j:Nat),S[j]⟩) W (by show (w.hist++BP k (S.take j)).length<=1000;rw[zdy,hlen];omega);have hb:∀ y∈F5,y≠b:=λy hy2 e=>by have:=hF5 y hy2;have:=H.blt;omega
   have W8:=H8;simp only[zdv] at W8;rw[he,<- Uw hjS] at W8;obtain ⟨h',F',q1,q2,q3⟩:=ih (j+1) h8 a8 c8 G8 (by omega) W8 (rtags_ok.fr _ _ _ _ _ r λy hy2=>fr8 y (hy y hy2).1 (hb y hy2) (hy y hy2).2) (λy hy2=>⟨zdq (hy y hy2).1 M8.le,λhm=>by
    rcases sub8 y hm with g | g
    ·exact (hy y hy2).2 g
    ·have:=(hy y hy2).1;omega⟩)
   refine ⟨h',F',?_,q2,M8.trans q3⟩;rw[<- q1,Cz.e,Am (by omega),Ac hjS,ho,Ae,A7,ho2,Ae,Aa,Ab,Aa,Ab,Ag,e8,Ad,Kd,Ag,Au (by omega)]
 obtain ⟨h',F',q1,q2,q3⟩:=loop 4 0 h7 a4 c4 F4 rfl (by
  have:BP k (S.take 0) = []:=by rw[List.take_zero];rfl
  rw[this,zd0];exact H7) r7 (λy hy=>⟨zdq (hF5 y hy).2 h57,λhm=>by have:=H.lt.2.2.2 y hm;have:=hF5 y hy;omega⟩)
 rw[Aq,s7,Ae];subst hX;exact ⟨h',F',q1,q2,M7.trans q3⟩
end
end Go.Proofs.YtmgopagfoemomaaGreat
