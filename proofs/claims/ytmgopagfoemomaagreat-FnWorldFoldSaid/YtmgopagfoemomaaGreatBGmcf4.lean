/- Part 4 of what is shown for the law Gmcf, whatever the input; no condition of its own. -/
import Derived.Test.YtmgopagfoemomaaGreatBGmcf3
set_option linter.unusedVariables false
set_option linter.unusedSimpArgs false
set_option linter.unnecessarySimpa false
set_option maxRecDepth 100000
namespace Go.Proofs.YtmgopagfoemomaaGreat
open Go T


structure Sess where
 place:Int
 past:List Tag
 wait:Tag
 key:Int
structure Done where
 sess:Int
 kind:Int
 key:Int
 tag:Tag
structure World where
 places:List Place
 sess:List Sess
 net:List Frame
 hist:List Done
abbrev zaJ (ro:Bool):Nat:=bif ro then 197 else 29
abbrev IX (ro:Bool):Nat:=bif ro then 204 else 66
abbrev zaM (ro:Bool):Nat:=bif ro then 209 else 123
abbrev zcd (ro:Bool):Nat:=bif ro then 218 else 126
abbrev Sess.cs (s:Sess) (a:Pq) (c:Nq):List V := [Iv s.place,.sl 2 a s.past.length c,Iv s.wait.time,Iv s.wait.place,Iv s.key]
abbrev Done.cs (d:Done):List V := [Iv d.sess,Iv d.kind,Iv d.key,Iv d.tag.time,Iv d.tag.place]
abbrev World.cs (w:World) (a1:Pq) (c1:Nq) (a2:Pq) (c2:Nq) (a3:Pq) (c3:Nq) (a4:Pq) (c4:Nq):List V :=
 [.sl 6 a1 w.places.length c1,.sl 5 a2 w.sess.length c2,.sl 9 a3 w.net.length c3,.sl 5 a4 w.hist.length c4]
abbrev RPlaces (ro:Bool):Rel (List Place):=Sli ro 6 (zaJ ro) (RPlace ro)
def RSess (ro:Bool):Rel Sess:=λh cs s F=>∃ v,cs = [Iv s.place,v,Iv s.wait.time,Iv s.wait.place,Iv s.key]/\RTags ro h [v] s.past F
abbrev RSesss (ro:Bool):Rel (List Sess):=Sli ro 5 (IX ro) (RSess ro)
abbrev RFrames (ro:Bool):Rel (List Frame):=Sli ro 9 (zaM ro) (U6 ro)
abbrev RDones (ro:Bool):Rel (List Done):=Sli ro 5 (zcd ro) (flat Done.cs)
def X5 (ro:Bool):Rel World:=λh cs w F=>∃ s1 s2 s3 s4 F1 F2 F3 F4,cs = [s1,s2,s3,s4]/\F=F1++(F2++(F3++F4))/\RPlaces ro h [s1] w.places F1/\RSesss ro h [s2] w.sess F2/\RFrames ro h [s3] w.net F3/\RDones ro h [s4] w.hist F4
def Da (ro:Bool):Rel World:=λh cs w F=>∃ a1 c1 a2 c2 a3 c3 a4 c4 F1 F2 F3 F4,cs=w.cs a1 c1 a2 c2 a3 c3 a4 c4/\F=F1++(F2++(F3++F4))/\RPlaces ro h [.sl 6 a1 w.places.length c1] w.places F1/\RSesss ro h [.sl 5 a2 w.sess.length c2] w.sess F2/\RFrames ro h [.sl 9 a3 w.net.length c3] w.net F3/\RDones ro h [.sl 5 a4 w.hist.length c4] w.hist F4
theorem rplaces_ok {ro:Bool}:(RPlaces ro).Ok:=Sli.ok rplace_ok
theorem Kn {ro:Bool}:(RSess ro).Ok :=
 ⟨λh h' cs x F ⟨s,h1,h2⟩ hb=>⟨s,h1,rtags_ok.fr _ _ _ _ _ h2 hb⟩,λh cs x F ⟨s,_,h2⟩=>rtags_ok.bd _ _ _ _ h2⟩
theorem rsesss_ok {ro:Bool}:(RSesss ro).Ok:=Sli.ok Kn
theorem rframes_ok {ro:Bool}:(RFrames ro).Ok:=Sli.ok rframe_ok
theorem rdones_ok {ro:Bool}:(RDones ro).Ok:=Sli.ok DG
theorem Es {ro:Bool}:(Da ro).Ok:=by
 refine ⟨?_,?_⟩
 ·rintro h h' cs x F ⟨a1,c1,a2,c2,a3,c3,a4,c4,F1,F2,F3,F4,e,rfl,h1,h2,h3,h4⟩ hb
  exact ⟨a1,c1,a2,c2,a3,c3,a4,c4,F1,F2,F3,F4,e,rfl,rplaces_ok.fr _ _ _ _ _ h1 λb hm=>hb b (by simp[hm]),rsesss_ok.fr _ _ _ _ _ h2 λb hm=>hb b (by simp[hm]),rframes_ok.fr _ _ _ _ _ h3 λb hm=>hb b (by simp[hm]),rdones_ok.fr _ _ _ _ _ h4 λb hm=>hb b (by simp[hm])⟩
 ·rintro h cs x F ⟨a1,c1,a2,c2,a3,c3,a4,c4,F1,F2,F3,F4,e,rfl,h1,h2,h3,h4⟩ b hb
  simp only[zc9] at hb;rcases hb with hb | hb | hb | hb
  ·exact rplaces_ok.bd _ _ _ _ h1 b hb
  ·exact rsesss_ok.bd _ _ _ _ h2 b hb
  ·exact rframes_ok.bd _ _ _ _ h3 b hb
  ·exact rdones_ok.bd _ _ _ _ h4 b hb
section
variable {ro:Bool}{h:Heap}{F:List Nat}{a:Pq}{c:Nq}{n k:Nat}
theorem RPlaces.get {l:List Place} (hs:RPlaces ro h [.sl 6 a n c] l F) (hk:k<l.length):∃ o s1 s2 s3 a1 c1 a2 c2 a3 c3 F1 F2 F3,a=some o /\
  ld h o.1 (o.2+k) 0 6=some [Iv l[k].me,Iv l[k].clock,s1,s2,s3,.bool l[k].fell]/\ld h o.1 (o.2+k) 0 1=some [Iv l[k].me]/\ld h o.1 (o.2+k) 2 1=some [s1]/\ld h o.1 (o.2+k) 3 1=some [s2]/\ld h o.1 (o.2+k) 4 1=some [s3] /\
  (∀ {R':Type} (K:Pq->Nat->Nq->Option R'),eS 2 s1 K=K a1 l[k].chain.length c1)/\(∀ {R':Type} (K:Pq->Nat->Nq->Option R'),eS 6 s2 K=K a2 l[k].log.length c2) /\
  (∀ {R':Type} (K:Pq->Nat->Nq->Option R'),eS 1 s3 K=K a3 l[k].got.length c3) /\
  RNodes ro h [.sl 2 a1 l[k].chain.length c1] l[k].chain F1/\RVers ro h [.sl 6 a2 l[k].log.length c2] l[k].log F2/\RVss ro h [.sl 1 a3 l[k].got.length c3] l[k].got F3/\(∀ b,b∈F1\/b∈F2\/b∈F3->b∈F):=by
 obtain ⟨o,row,G,h1,h2,hv,hG,_⟩:=hs.read hk;obtain ⟨s1,s2,s3,a1,c1,a2,c2,a3,c3,F1,F2,F3,rfl,rfl,e1,e2,e3,g1,g2,g3⟩:=hv.form;exact ⟨o,s1,s2,s3,a1,c1,a2,c2,a3,c3,F1,F2,F3,h1,by rw[h2];rfl,by rw[h2];rfl,by rw[h2];rfl,by rw[h2];rfl,by rw[h2];rfl,e1,e2,e3,g1,g2,g3,λb hb=>hG b (by simpa using hb)⟩
theorem RSess.form {row:List V}{s:Sess} (hv:RSess ro h row s F):∃ v a c,row = [Iv s.place,v,Iv s.wait.time,Iv s.wait.place,Iv s.key] /\
  (∀ {R':Type} (K:Pq->Nat->Nq->Option R'),eS 2 v K=K a s.past.length c)/\RTags ro h [.sl 2 a s.past.length c] s.past F:=by
 obtain ⟨v,rfl,hp⟩:=hv;obtain ⟨a,c,es,hp2⟩:=hp.form;exact ⟨v,a,c,rfl,es,hp2⟩
theorem RSesss.get {l:List Sess} (hs:RSesss ro h [.sl 5 a n c] l F) (hk:k<l.length):∃ o v a' c' G,a=some o/\ld h o.1 (o.2+k) 0 5=some [Iv l[k].place,v,Iv l[k].wait.time,Iv l[k].wait.place,Iv l[k].key] /\
  ld h o.1 (o.2+k) 0 1=some [Iv l[k].place]/\ld h o.1 (o.2+k) 1 1=some [v] /\
  (∀ {R':Type} (K:Pq->Nat->Nq->Option R'),eS 2 v K=K a' l[k].past.length c')/\RTags ro h [.sl 2 a' l[k].past.length c'] l[k].past G/\(∀ b∈G,b∈F):=by
 obtain ⟨o,row,G,h1,h2,hv,hG,_⟩:=hs.read hk;obtain ⟨v,a',c',rfl,es,hp⟩:=hv.form;exact ⟨o,v,a',c',G,h1,by rw[h2];rfl,by rw[h2];rfl,by rw[h2];rfl,es,hp,hG⟩
theorem RFrames.get {l:List Frame} (hs:RFrames ro h [.sl 9 a n c] l F) (hk:k<l.length):∃ o s a' c' G,a=some o /\
  ld h o.1 (o.2+k) 0 9=some [Iv l[k].fro,Iv l[k].to,Iv l[k].at',Iv l[k].ver.key,Iv l[k].ver.tag.time,Iv l[k].ver.tag.place,s,.str l[k].ver.text,.bool l[k].ver.gone] /\
  (∀ {R':Type} (K:Pq->Nat->Nq->Option R'),eS 2 s K=K a' l[k].ver.past.length c')/\RTags ro h [.sl 2 a' l[k].ver.past.length c'] l[k].ver.past G/\(∀ b∈G,b∈F):=by
 obtain ⟨o,row,G,h1,h2,⟨vs,rfl,hv⟩,hG,_⟩:=hs.read hk;obtain ⟨s,a',c',rfl,es,hp⟩:=hv.form;exact ⟨o,s,a',c',G,h1,by rw[h2];rfl,es,hp,hG⟩
theorem RDones.get {l:List Done} (hs:RDones ro h [.sl 5 a n c] l F) (hk:k<l.length):∃ o,a=some o/\ld h o.1 (o.2+k) 0 5=some l[k].cs:=by obtain ⟨o,row,G,h1,h2,⟨rfl,_⟩,_⟩:=hs.read hk;exact ⟨o,h1,by rw[h2];rfl⟩
end
def I3 (w:World):Prop:=(w.places.length<=1048576/\∀ p∈w.places,Ii p)/\(w.sess.length<=1048576/\∀ s∈w.sess,s.past.length<=1048576)/\(w.net.length<=1048576/\∀ f∈w.net,f.ver.past.length<=1048576/\f.ver.text.size<=1048576)/\w.hist.length<=1048576
section
variable {lo:Nat}{ro ro':Bool}{h:Heap}{F F':List Nat}{a a':Pq}{c c':Nq}{left:Int}
end


def ZV (p:Place) (to at':Int):Bool:=Ay p&&Ai to 0 2 && !(p.me==to)&&Ai at' 0 (p.log.length - 1)
def told (p:Place) (to at':Int):Frame:=bif ZV p to at' then ⟨p.me,to,at',(p.log[at'.toNat]?).getD Vs⟩ else ⟨0,0,0,Vs⟩
section
variable {lo:Nat}{h:Heap}{F F':List Nat}{a a':Pq}{c c':Nq}
theorem RJ {x y:Int}:Af lo 226 [Iv x,Iv y] h=some (.bool (Ai x 0 2&&Ai y 0 2 && !(x==y)),h) :=
 Vn (h':=h) (by
  simp only[DF,Ac,At];cases Ai x 0 2<;>cases Ai y 0 2<;>cases (x==y)<;>rfl)
theorem WM {n:Nat} (hn:n<=1048576):Am ((n:Int) - 1)=(n:Int) - 1:=wr (by omega) (by omega)
end


variable {l:List Done}
def Dl (s:Sess):Bool:=Ai s.place 0 2&&BJ s.past&&B8 s.wait.time s.wait.place&&Ai s.key 0 3&&(decide (s.wait.time>0) || s.key==0)&&(s.wait.time==0 || s.wait.place==s.place)
def Gc (d:Done):Bool:=Ai d.sess 0 3&&Ai d.kind 1 3&&Ai d.key 0 3&&B8 d.tag.time d.tag.place&&(d.kind==2 || decide (d.tag.time>0))
def EV (l:List Place) (k:Nat):List Ver:=match l[k]? with
 | some p=>p.log
 | none => []
theorem Je {l:List Place}{k:Nat} (hk:k<l.length):EV l k=l[k].log:=by unfold EV;rw[Dj hk]
def GZ (l:List Place) (f:Frame):Bool:=Ai f.fro 0 2&&Ai f.to 0 2 && !(f.fro==f.to)&&Ai f.at' 0 (((EV l f.fro.toNat).length:Int) - 1)&&(match (EV l f.fro.toNat)[f.at'.toNat]? with | some v=>Ij v f.ver | none=>false)
def K6 (log head:List Ver):Bool:=decide (head.length<=log.length)&&FJ (log.take head.length) head
theorem zbl {s:Sess}:(Ai s.place 0 2&&(BJ s.past&&(B8 s.wait.time s.wait.place&&(bif ((s.wait.time==0)&&((s.wait.place==0)&&true)) then s.key==0 else (s.wait.place==s.place&&Ai s.key 0 3)))))=Dl s:=by
 unfold Dl;cases Ai s.place 0 2 with
 | false=>rfl
 | true =>
 cases BJ s.past with
 | false=>rfl
 | true =>
 cases ht:B8 s.wait.time s.wait.place with
 | false=>simp
 | true =>
  simp[B8,Ai] at ht;by_cases h0:s.wait.time=0
  ·have hp:s.wait.place=0:=by omega
   rw[zed];simp[h0,hp,Ai];omega
  ·have h1:0<s.wait.time:=by omega
   rw[zed];simp[h0,h1,Ai,and_comm]
section
variable {lo:Nat}{ro ro':Bool}{h:Heap}{F F':List Nat}{a a':Pq}{c c':Nq}
theorem OQ {l:List Sess}{g:Nat}{cl:List V}{p:Sess->Bool} (hs:RSesss ro h [.sl 5 a l.length c] l F) (hn:l.length<=1048576)
  (hp:∀ lo x a1 c1 G,x∈l->RTags ro h [.sl 2 a1 x.past.length c1] x.past G->Af lo g (CQ [.agg (x.cs a1 c1)] cl) h=some (.bool (p x),h)) :
  Af lo 159 [.sl 5 a l.length c,.fn g cl] h=some (.bool (l.any p),h):=by
 have loop:∀ m k x,m+k=l.length->AH (List.length h) a l.length c g cl x (l.length:Nat) (k:Nat) h=some (Iv (Bz p (l.drop k) k),h):=by
  intro m;induction m with
  | zero =>intro k x hk;rw[AH.e,Ak (by omega),show k=l.length by omega];simp[Bz]
  | succ m ih =>
   intro k x hk;have hlt:k<l.length:=by omega
   obtain ⟨o,v,b1,d1,G,rfl,ho,_,_,es,hpp,_⟩:=hs.get hlt;rw[AH.e,Al (by omega),Ae (by omega)];simp only[Ad,Bd,ho,Aa,Ab,Ah,es];rw[hp (List.length h) l[k] b1 d1 G (zc7 hlt) hpp,Ac,At,zdn hlt];simp only[Bz];cases p l[k]
   ·simp only[Ax,cond_false];rw[Ar (by omega)];exact ih (k+1) _ (by omega)
   ·simp
 exact EL (h':=h) (by rw[Fg (loop l.length 0 0 (by omega))];simp only[Ac,Ab,KZ];rw[Fa];simp)
theorem Nw {l:List Frame}{g:Nat}{cl:List V}{p:Frame->Bool} (hs:RFrames ro h [.sl 9 a l.length c] l F) (hn:l.length<=1048576)
  (hp:∀ lo x a1 c1 G,x∈l->RTags ro h [.sl 2 a1 x.ver.past.length c1] x.ver.past G->Af lo g (CQ [.agg (x.cs a1 c1)] cl) h=some (.bool (p x),h)) :
  Af lo 162 [.sl 9 a l.length c,.fn g cl] h=some (.bool (l.any p),h):=by
 have loop:∀ m k x,m+k=l.length->AE (List.length h) a l.length c g cl x (l.length:Nat) (k:Nat) h=some (Iv (Bz p (l.drop k) k),h):=by
  intro m;induction m with
  | zero =>intro k x hk;rw[AE.e,Ak (by omega),show k=l.length by omega];simp[Bz]
  | succ m ih =>
   intro k x hk;have hlt:k<l.length:=by omega
   obtain ⟨o,s,b1,d1,G,rfl,ho,es,hpp,_⟩:=hs.get hlt;rw[AE.e,Al (by omega),Ae (by omega)];simp only[Ad,Bd,ho,Aa,Ab,Ah,es,BG,AL];rw[hp (List.length h) l[k] b1 d1 G (zc7 hlt) hpp,Ac,At,zdn hlt];simp only[Bz];cases p l[k]
   ·simp only[Ax,cond_false];rw[Ar (by omega)];exact ih (k+1) _ (by omega)
   ·simp
 exact Ei (h':=h) (by rw[EU (loop l.length 0 0 (by omega))];simp only[Ac,Ab,KZ];rw[Fa];simp)
theorem OS {g:Nat}{cl:List V}{p:Done->Bool} (hs:RDones ro h [.sl 5 a l.length c] l F) (hn:l.length<=1048576)
  (hp:∀ lo x,x∈l->Af lo g (CQ [.agg (x.cs)] cl) h=some (.bool (p x),h)) :
  Af lo 232 [.sl 5 a l.length c,.fn g cl] h=some (.bool (l.any p),h):=by
 have loop:∀ m k x,m+k=l.length->AJ (List.length h) a l.length c g cl x (l.length:Nat) (k:Nat) h=some (Iv (Bz p (l.drop k) k),h):=by
  intro m;induction m with
  | zero =>intro k x hk;rw[AJ.e,Ak (by omega),show k=l.length by omega];simp[Bz]
  | succ m ih =>
   intro k x hk;have hlt:k<l.length:=by omega
   obtain ⟨o,rfl,ho⟩:=hs.get hlt;rw[AJ.e,Al (by omega),Ae (by omega)];simp only[Ad,Bd,ho,Aa,Ab,Ah];rw[hp (List.length h) l[k] (zc7 hlt),Ac,At,zdn hlt];simp only[Bz];cases p l[k]
   ·simp only[Ax,cond_false];rw[Ar (by omega)];exact ih (k+1) _ (by omega)
   ·simp
 exact EN (h':=h) (by rw[Fi (loop l.length 0 0 (by omega))];simp only[Ac,Ab,KZ];rw[Fa];simp)
theorem Wb {s:Sess} (hs:RTags ro h [.sl 2 a s.past.length c] s.past F) (hn:s.past.length<=1048576):Af lo 161 [.agg (s.cs a c)] h=some (.bool (Dl s),h):=by refine OE (h':=h) ?_;rw[DF,Ac,At,JV hs hn,Ac,At,KU,Ac,At,HM,Ac,At,<- zbl];cases Ai s.place 0 2<;>cases BJ s.past<;>cases B8 s.wait.time s.wait.place<;>cases Ai s.key 0 3<;>cases ((s.wait.time==0)&&((s.wait.place==0)&&true))<;>cases (s.key==0)<;>cases (s.wait.place==s.place)<;>rfl
theorem zbW {d:Done}:(Ai d.sess 0 3&&(Ai d.kind 1 3&&(Ai d.key 0 3&&(B8 d.tag.time d.tag.place&&(bif ((d.tag.time==0)&&((d.tag.place==0)&&true)) then d.kind==2 else true)))))=Gc d:=by
 unfold Gc;cases Ai d.sess 0 3 with
 | false=>rfl
 | true =>
 cases Ai d.kind 1 3 with
 | false=>rfl
 | true =>
 cases Ai d.key 0 3 with
 | false=>rfl
 | true =>
 cases ht:B8 d.tag.time d.tag.place with
 | false=>rfl
 | true =>
  simp[B8,Ai] at ht;by_cases h0:d.tag.time=0
  ·have hp:d.tag.place=0:=by omega
   rw[zed];simp[h0,hp]
  ·have h1:0<d.tag.time:=by omega
   rw[zed];simp[h0,h1]
theorem Wa (hs:RDones ro h [.sl 5 a l.length c] l F) (hn:l.length<=1048576):Af lo 157 [.sl 5 a l.length c] h=some (.bool (decide (l.length<=80)&&l.all Gc),h):=by
 refine Tj (h':=h) ?_;by_cases h8:l.length<=80
 ·rw[Al (by omega),decide_eq_true h8,OS hs hn (p:=λd => !Gc d) (λlo d _=>by
   rw[show ∀ x:List V,CQ x []=x from λx=>by simp[CQ]];refine QA (h':=h) ?_;rw[A8,Ac,At,A8,Ac,At,HM,Ac,At,KU,Ac,At,<- zbW];cases Ai d.sess 0 3<;>cases Ai d.kind 1 3<;>cases Ai d.key 0 3<;>cases B8 d.tag.time d.tag.place<;>cases ((d.tag.time==0)&&((d.tag.place==0)&&true))<;>cases (d.kind==2)<;>rfl),Ac,At]
  rw[zeK];simp only[Bool.not_not,zdk];cases l.all Gc<;>rfl
 ·rw[Ak (by omega),decide_eq_false h8];rfl
theorem Qk {l l':List Ver} (hs:RVers false h [.sl 6 a l.length c] l F) (hs':RVers false h [.sl 6 a' l'.length c'] l' F') (hn:DA l):Af lo 158 [.sl 6 a l.length c,.sl 6 a' l'.length c'] h=some (.bool (K6 l l'),h):=by
 refine Ox (h':=h) ?_;unfold K6;by_cases hl:l'.length<=l.length
 ·obtain ⟨G,hp⟩:=Sli.pre hs hl;have htl:(l.take l'.length).length=l'.length:=by rw[zdr];omega
  rw[Al (by omega),It hs hl,decide_eq_true hl];have hp':RVers false h [.sl 6 a (l.take l'.length).length c] (l.take l'.length) G:=by rw[htl];exact hp
  have hsm:DA (l.take l'.length):=⟨by rw[htl];have:=hn.1;omega,λv hv=>hn.2 v (zev hv)⟩;have e:=LH (lo:=List.length h) hp' hs' hsm;rw[htl] at e;rw[e,Ac,At,zdk];exact Jb
 ·rw[Ak (by omega),decide_eq_false hl];rfl
end


variable {w:World}
def Iw (l:List Place):Bool:=l.zipIdx.all λx=>x.1.me==(x.2:Int)&&Ay x.1
def Ma (l:List Place) (p:Place):Bool:=p.got.zipIdx.all λx=>K6 (EV l x.2) x.1
def KV (l:List Place):Bool:=l.all (Ma l)
def Eo (w:World):Bool:=decide (w.places.length=3)&&decide (w.sess.length<=4)&&decide (w.net.length<=12)&&decide (w.hist.length<=80)&&Iw w.places&&w.sess.all Dl&&w.net.all (GZ w.places)&&w.hist.all Gc&&KV w.places
theorem JP {l:List Place} (h:Iw l=true):∀ i (hi:i<l.length),l[i].me=(i:Int)/\Ay l[i]=true:=λi hi=>by have:=(D6 (p:=λ(i:Nat) (x:Place)=>x.me==(i:Int)&&Ay x) (l:=l)).1 h i hi;simpa using this
section
variable {lo:Nat}{ro ro':Bool}{h:Heap}{F F' F1:List Nat}{a a' a1 a2 a3 a4:Pq}{c c' c1 c2 c3 c4:Nq}
theorem UE {f:Frame}{b:Nat} (hb:h[b]?=some (.rows 4 60 false [w.cs a1 c1 a2 c2 a3 c3 a4 c4])) (r1:RPlaces false h [.sl 6 a1 w.places.length c1] w.places F1) (h3:w.places.length=3) (hok:Iw w.places=true) (hs:RTags ro h [.sl 2 a f.ver.past.length c] f.ver.past F) :
  Af lo 164 [.ptr (some (b,(0,0))),.agg (f.cs a c)] h=some (.bool (GZ w.places f),h):=by
 refine LZ (h':=h) ?_;unfold GZ;have l1:ld h b 0 (0+0) 1=some [.sl 6 a1 w.places.length c1]:=by rw[BA hb rfl];rfl
 rw[RJ,Ac,At];cases hw:Ai f.fro 0 2 with
 | false=>simp only[zdY];rw[Ax]
 | true =>
 cases hw2:Ai f.to 0 2 with
 | false=>simp only[zdk,zdY];rw[Ax]
 | true =>
 cases hft:(f.fro==f.to) with
 | true=>simp only[zdk,zdT,zdY];rw[Ax]
 | false =>
 simp only[zdk,zd3];simp only[Ai,CP,decide_eq_true_eq] at hw;have hk:f.fro.toNat<w.places.length:=by omega
 obtain ⟨o,s1,s2,s3,b1,d1,b2,d2,b3,d3,G1,G2,G3,ha,_,_,_,ho3,_,_,e2,_,_,g2,_,_⟩:=r1.get hk;have hll:w.places[f.fro.toNat].log.length<=60:=(Fo (AO (JP hok _ hk).2).2.2.2.2.2.1).1;have hlog:∀ i (hi:i<w.places[f.fro.toNat].log.length),Cl w.places[f.fro.toNat].log[i]=true:=λi hi=>((Fo (AO (JP hok _ hk).2).2.2.2.2.2.1).2 i hi).1
 rw[Je hk];generalize w.places[f.fro.toNat].log=lg at hlog hll g2 e2 ⊢;rw[Ao,l1,Ad,Aa,Ah,Ag,Cm ⟨by omega,by omega⟩,ha,Ad,ho3,Ad,Aa,Ah,e2,A8,Ac,At,wr (n:=((lg.length:Nat):Int) - 1) (by omega) (by omega)];cases hw3:Ai f.at' 0 ((lg.length:Int) - 1) with
 | false=>rw[Ax];rfl
 | true =>
 simp only[Ai,CP,decide_eq_true_eq] at hw3;have hk3:f.at'.toNat<lg.length:=by omega
 obtain ⟨o4,s4,b4,d4,G4,ha4,ho4,es4,hp4,_⟩:=g2.get hk3;have e:=T0 (lo:=List.length h) (h:=h) (v:=lg[f.at'.toNat]) (u:=f.ver) hp4 hs (by have:=CS (AZ (hlog _ hk3)).2.2.2.1;omega);simp only[Frame.cs,Ver.cs] at e;rw[Ao,l1,Ad,Aa,Ah,ha,Ag,Cm ⟨by omega,by omega⟩,Ad,ho3,Ad,Aa,Ah,e2,Cm ⟨by omega,by omega⟩,ha4,Ad,ho4,Ad,Aa,Ab,Aa,Ab,Aa,Ab,Aa,es4,Aa,BG,Aa,AL,Ah,e,Ac,At,Dj hk3];show br _ _ _=some (V.bool (Ij lg[f.at'.toNat] f.ver),h);exact Jb
theorem UC {cs:List V} (hs:Da false h cs w F) (hl:lo<=h.length) (hn:I3 w):∃ h',Af lo 82 [.agg cs] h=some (.bool (Eo w),h')/\Mv h [] h' []:=by
 obtain ⟨a1,c1,a2,c2,a3,c3,a4,c4,F1,F2,F3,F4,rfl,rfl,r1,r2,r3,r4⟩:=hs;obtain ⟨n1,n2,n3,n4⟩:=hn;have m0:Mv h [] (h ++ [.rows 4 60 false [w.cs a1 c1 a2 c2 a3 c3 a4 c4]]) []:=Mv.snoc;have hb:(h ++ [Blk.rows 4 60 false [w.cs a1 c1 a2 c2 a3 c3 a4 c4]])[h.length]?=some (.rows 4 60 false [w.cs a1 c1 a2 c2 a3 c3 a4 c4]):=by simp
 refine ⟨_,Ss ?_,m0⟩;have r1:=m0.keep0 rplaces_ok r1;have r2:=m0.keep0 rsesss_ok r2;have r3:=m0.keep0 rframes_ok r3;have r4:=m0.keep0 rdones_ok r4;have l0:ld (h ++ [Blk.rows 4 60 false [w.cs a1 c1 a2 c2 a3 c3 a4 c4]]) h.length 0 0 1=some [.sl 6 a1 w.places.length c1]:=by rw[BA hb rfl];rfl
 have l1:ld (h ++ [Blk.rows 4 60 false [w.cs a1 c1 a2 c2 a3 c3 a4 c4]]) h.length 0 1 1=some [.sl 5 a2 w.sess.length c2]:=by rw[BA hb rfl];rfl
 have l2:ld (h ++ [Blk.rows 4 60 false [w.cs a1 c1 a2 c2 a3 c3 a4 c4]]) h.length 0 2 1=some [.sl 9 a3 w.net.length c3]:=by rw[BA hb rfl];rfl
 have l3:ld (h ++ [Blk.rows 4 60 false [w.cs a1 c1 a2 c2 a3 c3 a4 c4]]) h.length 0 3 1=some [.sl 5 a4 w.hist.length c4]:=by rw[BA hb rfl];rfl
 have e4:=Wa (lo:=lo) r4 n4;simp only[World.cs] at hb r1 r2 r3 r4 l0 l1 l2 l3 e4 ⊢;generalize (h ++ [Blk.rows 4 60 false [[V.sl 6 a1 w.places.length c1,.sl 5 a2 w.sess.length c2,.sl 9 a3 w.net.length c3,.sl 5 a4 w.hist.length c4]]])=hh at hb r1 r2 r3 r4 l0 l1 l2 l3 e4 ⊢;generalize h.length=b at hb l0 l1 l2 l3 ⊢;have hwo:Eo w=(decide (w.places.length=3)&&(decide (w.sess.length<=4)&&(decide (w.net.length<=12)&&((decide (w.hist.length<=80)&&w.hist.all Gc)&&(Iw w.places&&(KV w.places&&(w.sess.all Dl&&w.net.all (GZ w.places)))))))):=by unfold Eo;cases decide (w.places.length=3)<;>cases decide (w.sess.length<=4)<;>cases decide (w.net.length<=12)<;>cases decide (w.hist.length<=80)<;>cases Iw w.places<;>cases KV w.places<;>cases w.sess.all Dl<;>cases w.net.all (GZ w.places)<;>cases w.hist.all Gc<;>rfl
 rw[hwo,l0,Ad,Aa,Ah,Ag];by_cases h3:w.places.length=3
 ·rw[show (((w.places.length:Nat):Int)==3)=true by rw[beq_iff_eq];omega,Ao,decide_eq_true h3,zdk,l1,Ad,Aa,Ah,Ag];by_cases hs4:w.sess.length<=4
  ·rw[Ak (by omega),decide_eq_true hs4,zdk,l2,Ad,Aa,Ah,Ag];by_cases hn12:w.net.length<=12
   ·rw[Ak (by omega),decide_eq_true hn12,zdk,l3,Ad,Aa,Ah,Ag,e4,Ac,At];cases (decide (w.hist.length<=80)&&w.hist.all Gc) with
    | false=>rw[Ax];rfl
    | true =>
     rw[Ao,zdk,l0,Ad,Aa,Ah,Ag];have e0:=Fd (p:=λx:Place×Nat=>x.1.me==(x.2:Int)&&Ay x.1) (l:=w.places.zipIdx) (λi=>C3 lo b 0 0 false a1 w.places.length c1 (w.places.length:Nat) (i:Nat) hh) (some (.bool false,hh)) (BM lo b 0 0 false a1 w.places.length c1 (w.places.length:Nat) 0 hh) (λi hi=>by
       rw[zeM] at hi;simp only[zeS,zdy];obtain ⟨o,s1,s2,s3,b1,d1,b2,d2,b3,d3,G1,G2,G3,ha,ho,ho0,_,_,_,e1,e2,e3,g1,g2,g3,_⟩:=r1.get hi;have e:=UH (lo:=lo) g1 g2 g3 (n1.2 _ (zc7 hi));simp only[Place.cs] at e;rw[C3.e,Al (by omega),Ae hi,ha,Ad,Bd,ho,Ad,Aa,Ab,Aa,Ab,Aa,e1,Aa,e2,Aa,e3,Aa,AL,Ah,e,Ac,At,Ar (by omega)];cases Ay w.places[i]<;>cases (w.places[i].me==((i:Nat):Int))<;>rfl) (by rw[zeM,C3.e,Ak (by omega),l0,Ad,Aa,Ah,Ag])
     refine e0.trans ?_;show (if Iw w.places=true then _ else _)=_;cases hok:Iw w.places with
     | false=>rfl
     | true =>
     rw[if_pos rfl,zdk];have e5:=Fd (p:=Ma w.places) (l:=w.places) (λi=>BM lo b 0 0 false a1 w.places.length c1 (w.places.length:Nat) (i:Nat) hh) (some (.bool false,hh)) (BM lo b 0 0 false a1 w.places.length c1 (w.places.length:Nat) (w.places.length:Nat) hh) (λi hi=>by
       have hpo:=(JP hok i hi).2;have hgl:w.places[i].got.length=3:=(AO hpo).2.2.1;obtain ⟨o,s1,s2,s3,b1,d1,b2,d2,b3,d3,G1,G2,G3,ha,ho,_,_,_,_,e1,e2,e3,g1,g2,g3,_⟩:=r1.get hi;rw[BM.e,Al (by omega),Ae hi,ha,Ad,Bd,ho,Ad,Aa,Ab,Aa,Ab,Aa,e1,Aa,e2,Aa,e3,Aa,AL,Ah];unfold Ma;refine (Fd (p:=λx:List Ver×Nat=>K6 (EV w.places x.2) x.1) (l:=w.places[i].got.zipIdx) (λk=>C2 lo b 0 0 false (some o) w.places.length c1 (w.places.length:Nat) (i:Nat) b3 w.places[i].got.length d3 (w.places[i].got.length:Nat) (k:Nat) hh) (some (.bool false,hh)) (BM lo b 0 0 false (some o) w.places.length c1 (w.places.length:Nat) ((i+1:Nat):Int) hh) (λk hk=>?_) ?_)
       ·rw[zeM] at hk;simp only[zeS,zdy];have hk3:k<w.places.length:=by omega
        obtain ⟨o',s1',s2',s3',b1',d1',b2',d2',b3',d3',G1',G2',G3',ha',_,_,_,ho3',_,_,e2',_,_,g2',_,_⟩:=r1.get hk3;obtain ⟨og,sg,bg,dg,Gg,hag,hog,eg,gg,_⟩:=g3.get hk;have hoo:o=o':=by rw[ha] at ha';injection ha'
        subst hoo;have e6:=Qk (lo:=lo) g2' gg (n1.2 _ (zc7 hk3)).2.1;rw[Je hk3,C2.e,Al (by omega),Ae hk,hag,Ad,Bd,hog,Ad,Aa,Ah,eg,zdP,l0,Ad,Aa,Ah,ha,Ag,Ae hk3,Ad,ho3',Ad,Aa,Ah,e2',e6,Ac,At,Ar (by omega)];cases K6 w.places[k].log w.places[i].got[k]<;>rfl
       ·rw[zeM,C2.e,Ak (by omega),Ar (by omega)]) rfl
     refine e5.trans ?_;unfold KV;cases w.places.all (Ma w.places) with
     | false=>rfl
     | true =>
     rw[if_pos rfl,zdk,BM.e,Ak (by omega),zdy,l1,Ad,Aa,Ah,Ag,OQ r2 n2.1 (p:=λs => !Dl s) (λlo x b1 d1 G hx hp=>PG (h':=hh) (by
      rw[Wb hp (n2.2 x hx),Ac,At];cases Dl x<;>rfl)),Ac,At,zeK]
     simp only[Bool.not_not];cases w.sess.all Dl with
     | false=>rfl
     | true =>
     rw[zdT,Ax,zdy,l2,Ad,Aa,Ah,Ag,Nw r3 n3.1 (p:=λf => !GZ w.places f) (λlo x b1 d1 G hx hp=>PF (h':=hh) (by
      rw[UE (w:=w) hb r1 h3 hok hp,Ac,At];cases GZ w.places x<;>rfl)),Ac,At,zeK]
     simp only[Bool.not_not];cases w.net.all (GZ w.places)<;>rfl
   ·rw[Al (by omega),decide_eq_false hn12];rfl
  ·rw[Al (by omega),decide_eq_false hs4];rfl
 ·rw[show (((w.places.length:Nat):Int)==3)=false by rw[beq_eq_false_iff_ne];omega,Ax,decide_eq_false h3];rfl
end

section
variable {lo:Nat}{h:Heap}{F:List Nat}
theorem UF {w:World}{cs:List V} (hs:Da false h cs w F) (hl:lo<=h.length) (hn:I3 w):∃ h',Af lo 82 [.agg cs] h=some (.bool (Eo w),h')/\Mv h [] h' []:=UC hs hl hn
end


theorem Sz {w:World} (h:Eo w=true):w.places.length=3/\w.sess.length<=4/\w.net.length<=12/\w.hist.length<=80/\Iw w.places=true/\w.sess.all Dl=true/\w.net.all (GZ w.places)=true/\w.hist.all Gc=true/\KV w.places=true:=by unfold Eo at h;simp only[CP,decide_eq_true_eq] at h;obtain ⟨⟨⟨⟨⟨⟨⟨⟨h1,h2⟩,h3⟩,h4⟩,h5⟩,h6⟩,h7⟩,h8⟩,h9⟩:=h;exact ⟨h1,h2,h3,h4,h5,h6,h7,h8,h9⟩
section
variable {lo:Nat}{ro ro':Bool}{h:Heap}{F F' F1:List Nat}{a a' a1 a2 a3 a4:Pq}{c c' c1 c2 c3 c4:Nq}
end


abbrev zcO (n:Int):List V := [Iv n]
abbrev RInts:Rel (List Int):=Sli false 1 3 (flat zcO)
section
variable {lo:Nat}{h:Heap}{F F' F1:List Nat}{a a' a1 a2 a3 a4:Pq}{c c' c1 c2 c3 c4:Nq}{k:Int}
theorem RInts.get {l:List Int}{n i:Nat} (hs:RInts h [.sl 1 a n c] l F) (hi:i<l.length):∃ o,a=some o/\ld h o.1 (o.2+i) 0 1=some [Iv l[i]]:=by obtain ⟨o,row,G,h1,h2,⟨rfl,_⟩,_⟩:=hs.read hi;exact ⟨o,h1,by rw[h2];rfl⟩
end


variable {l:List Node}
def BE (l:List Node) (k:Nat):Nat:=if k=0/\1<l.length then 1 else k
def Gz (l:List Node) (k key:Nat):Option Ver:=(GP l (BE l k))[key]?
section
variable {lo:Nat}{ro:Bool}{h:Heap}{F F' F1:List Nat}{a a' a1 a2 a3 a4:Pq}{c c' c1 c2 c3 c4:Nq}
theorem MA {k key:Nat} (hs:RNodes false h [.sl 2 a l.length c] l F) (hk:k<l.length) (hst:∀ x∈l,Bb x.store=true) (hkey:key<4) (hl:lo<=h.length) (hn1:l.length<=1048576) :
  ∃ v a' c' h' G,Af lo 288 [.agg [.sl 2 a l.length c],Iv (k:Nat),Iv (key:Nat)] h=some (.agg (Ver.cs v a' c'),h')/\Gz l k key=some v/\RTags false h' [.sl 2 a' v.past.length c'] v.past G/\Mv h [] h' G:=by
 suffices hq:∃ v a' c' h' G,_=some (V.agg (Ver.cs v a' c'),h')/\Gz l k key=some v/\RTags false h' [.sl 2 a' v.past.length c'] v.past G/\Mv h [] h' G from by obtain ⟨v,a',c',h',G,e,hr⟩:=hq;exact ⟨v,a',c',h',G,Sg e,hr⟩
 have hql:BE l k<l.length:=by unfold BE;split<;>omega
 obtain ⟨o,s1,s2,b1,d1,b2,d2,H1,H2,ha,_,ho1,_,q1,_,p1,_⟩:=hs.get hql;have hs4:=hst _ (zc7 hql);have hkl:key<l[BE l k].store.length:=by rw[Bi hs4];exact hkey
 obtain ⟨o2,t,b3,d3,G,ha2,ho2,es2,pv,_⟩:=p1.get hkl;obtain ⟨a5,c5,h5,F5,e5,r5,m5⟩:=Em (lo:=lo) (v:=l[BE l k].store[key]) pv hl ((HG hs4).2 _ (zc7 hkl)).1;have hsh:Gz l k key=some l[BE l k].store[key]:=by unfold Gz;rw[C6 hql,Dj hkl]
 generalize l[BE l k].store[key]=v at ho2 es2 pv e5 r5 hsh;generalize l[BE l k].store.length=n1 at q1 hkl ha2;refine ⟨v,a5,c5,h5,F5,?_,hsh,r5,m5⟩;simp only[Ver.cs] at e5;by_cases hk0:k=0
 ·rw[show (((k:Nat):Int)==0)=true by rw[beq_iff_eq];omega,Ao];by_cases h1:1<l.length
  ·have hsa:BE l k=1:=by unfold BE;rw[if_pos ⟨hk0,h1⟩]
   rw[hsa] at ho1;rw[Al (by omega),Cm ⟨by omega,by omega⟩,ha,Ad,ho1,Ad,Aa,Ah,q1,Ae hkl,ha2,Ad,Bd,ho2,Ad,Aa,Ab,Aa,Ab,Aa,Ab,Aa,es2,Aa,BG,Aa,AL,Ah,e5,Ac,AR,Aa,Ab,Aa,Ab,Aa,Ab,Aa,Ag,Aa,BG,Aa,AL,Ah]
  ·have hsa:BE l k=k:=by unfold BE;rw[if_neg (by omega)]
   rw[hsa] at ho1;rw[Ak (by omega),Ae hk,ha,Ad,Bd,ho1,Ad,Aa,Ah,q1,Ae hkl,ha2,Ad,Bd,ho2,Ad,Aa,Ab,Aa,Ab,Aa,Ab,Aa,es2,Aa,BG,Aa,AL,Ah,e5,Ac,AR,Aa,Ab,Aa,Ab,Aa,Ab,Aa,Ag,Aa,BG,Aa,AL,Ah]
 ·have hsa:BE l k=k:=by unfold BE;rw[if_neg (by omega)]
  rw[hsa] at ho1;rw[show (((k:Nat):Int)==0)=false by rw[beq_eq_false_iff_ne];omega,Ax,Ae hk,ha,Ad,Bd,ho1,Ad,Aa,Ah,q1,Ae hkl,ha2,Ad,Bd,ho2,Ad,Aa,Ab,Aa,Ab,Aa,Ab,Aa,es2,Aa,BG,Aa,AL,Ah,e5,Ac,AR,Aa,Ab,Aa,Ab,Aa,Ab,Aa,Ag,Aa,BG,Aa,AL,Ah]
theorem Xy {k key b i j:Nat}{s0:V} (hld:ld h b i (j+0) 1=some [s0]) (es0:∀ {T:Type} (K:Pq->Nat->Nq->Option T),eS 2 s0 K=K a l.length c) (hs:RNodes false h [.sl 2 a l.length c] l F) (hk:k<l.length) (hst:∀ x∈l,Bb x.store=true) (hkey:key<4) (hl:lo<=h.length) (hn1:l.length<=1048576) :
  ∃ v a' c' h',Af lo 275 [.ptr (some (b,(i,j))),Iv (k:Nat),Iv (key:Nat)] h=some (.tup [.agg (Ver.cs v a' c'),.bool true],h')/\Gz l k key=some v/\Mv h [] h' []:=by
 suffices hq:∃ v a' c' h',_=some (V.tup [.agg (Ver.cs v a' c'),.bool true],h')/\Gz l k key=some v/\Mv h [] h' [] from by obtain ⟨v,a',c',h',e,hr⟩:=hq;exact ⟨v,a',c',h',Gr e,hr⟩
 have hql:BE l k<l.length:=by unfold BE;split<;>omega
 obtain ⟨o,s1,s2,b1,d1,b2,d2,H1,H2,ha,_,ho1,_,q1,_,p1,_⟩:=hs.get hql;have hs4:=hst _ (zc7 hql);have hkl:key<l[BE l k].store.length:=by rw[Bi hs4];exact hkey
 obtain ⟨o2,t,b3,d3,G,ha2,ho2,es2,pv,_⟩:=p1.get hkl;obtain ⟨a5,c5,h5,F5,e5,r5,m5⟩:=BK (lo:=lo) (v:=l[BE l k].store[key]) pv hl ((HG hs4).2 _ (zc7 hkl)).1;have hsh:Gz l k key=some l[BE l k].store[key]:=by unfold Gz;rw[C6 hql,Dj hkl]
 generalize l[BE l k].store[key]=v at ho2 es2 pv e5 r5 hsh;generalize l[BE l k].store.length=n1 at q1 hkl ha2;refine ⟨v,a5,c5,h5,?_,hsh,m5.drop⟩;simp only[Ver.cs] at e5;have hw1:Ai ((k:Nat):Int) 0 ((l.length:Int) - 1)=true:=by simp only[Ai,CP,decide_eq_true_eq];omega
 have hw2:Ai ((key:Nat):Int) 0 3=true:=by simp only[Ai,CP,decide_eq_true_eq];omega
 rw[hld,Ad,Aa,Ah,es0,wr (n:=((l.length:Nat):Int) - 1) (by omega) (by omega),A8,Ac,At,hw1,Ao,HM,Ac,At,hw2,Ao];by_cases hk0:k=0
 ·rw[show (((k:Nat):Int)==0)=true by rw[beq_iff_eq];omega,Ao,hld,Ad,Aa,Ah,es0,Ad,Aa,Ah,es0,wr (n:=((l.length:Nat):Int) - 1) (by omega) (by omega)];have hif:(if ((l.length:Nat):Int) - 1<1 then ((l.length:Nat):Int) - 1 else 1)=((BE l k:Nat):Int):=by
   unfold BE;by_cases h1:1<l.length
   ·rw[if_neg (by omega),if_pos ⟨hk0,h1⟩];rfl
   ·rw[if_pos (by omega),if_neg (by omega)];omega
  rw[hif,Ae hql,ha,Ad,Bd,ho1,Ad,Aa,Ah,q1,Ae hkl,ha2,Ad,Bd,ho2,Ad,Aa,Ab,Aa,Ab,Aa,Ab,Aa,es2,Aa,BG,Aa,AL,Ah,e5,Ac,AR,Aa,Ab,Aa,Ab,Aa,Ab,Aa,Ag,Aa,BG,Aa,AL,Ah]
 ·have hsa:BE l k=k:=by unfold BE;rw[if_neg (by omega)]
  rw[hsa] at ho1;rw[show (((k:Nat):Int)==0)=false by rw[beq_eq_false_iff_ne];omega,Ax,hld,Ad,Aa,Ah,es0,Ae hk,ha,Ad,Bd,ho1,Ad,Aa,Ah,q1,Ae hkl,ha2,Ad,Bd,ho2,Ad,Aa,Ab,Aa,Ab,Aa,Ab,Aa,es2,Aa,BG,Aa,AL,Ah,e5,Ac,AR,Aa,Ab,Aa,Ab,Aa,Ab,Aa,Ag,Aa,BG,Aa,AL,Ah]
end


variable {l:List Place}{k:Int}
structure Roomy (p:Place):Prop where
 seen:∃ U:List Tag,U.length<=54/\(∀ v∈p.log,v.tag∈U)/\∀ v,inCh p.chain v->0<v.tag.time->v.tag.place=p.me->v.tag∈U
 told:∀ v∈Ew p.chain,0<v.tag.time->v.tag.place=p.me->Cq p.log v.tag=true
theorem TK {α:Type} [DecidableEq α]:∀ {a U:List α},a.Nodup->(∀ x∈a,x∈U)->a.length<=U.length
 | [],U,_,_=>zdA _
 | x :: a,U,hn,hs=>by
  rw[zdg] at hn;have h1:=hs x (by simp);have h2:=TK (a:=a) (U:=U.erase x) hn.2 λy hy=>(List.mem_erase_of_ne (λe=>hn.1 (by rw[<- e];exact hy))).2 (hs y (by simp[hy]))
  rw[List.length_erase_of_mem h1] at h2;have:=List.length_pos_of_mem h1;simp only[zea];omega
section
variable {p:Place}
theorem Zd {m:Int}{l:List Ver} (h:GD m l=true):(l.map λv=>v.tag).Nodup:=by
 obtain ⟨_,h2⟩:=Fo h;unfold List.Nodup;rw[List.pairwise_map,List.pairwise_iff_getElem];intro i j hi hj hij e;have h3:=(h2 j hj).2.2;have:Cq (l.take j) l[j].tag=true:=hasTag_mem.2 ⟨l[i],by
  rw[zdL];exact ⟨i,by simp;omega,by simp⟩,e⟩
 rw[h3] at this;cases this
theorem Roomy.len (h:Roomy p) (hp:Ay p=true):p.log.length<=54:=by
 obtain ⟨U,h1,h2,_⟩:=h.seen;have:=TK (U:=U) (Zd (AO hp).2.2.2.2.2.1) (λt ht=>by
  obtain ⟨v,hv,rfl⟩:=zeX.1 ht;exact h2 v hv)
 simp only[zer] at this;omega
theorem VT {m:Int}:∀ {vs l:List Ver},∀ v∈vs.foldl (noted m) l,v∈l\/(v∈vs/\0<v.tag.time/\v.tag.place=m)
 | [],l,v,hv => .inl hv
 | x :: vs,l,v,hv=>by
  rw[zd2] at hv;rcases VT v hv with g | ⟨g1,g2⟩
  ·unfold noted at g;cases hc:(decide (x.tag.time>0)&&(x.tag.place==m && !Cq l x.tag)) with
   | false=>rw[hc] at g;exact .inl g
   | true =>
    rw[hc,cond_true] at g;simp only[CP,decide_eq_true_eq,beq_iff_eq] at hc;rcases zc9.1 g with g | g
    ·exact .inl g
    ·rw[zdv] at g;subst g;exact .inr ⟨by simp,hc.1,hc.2.1⟩
  ·exact .inr ⟨by simp[g1],g2⟩
theorem KL (h:Ch p.chain) (hs:∃ U:List Tag,U.length<=54/\(∀ v∈p.log,v.tag∈U)/\∀ v,inCh p.chain v->0<v.tag.time->v.tag.place=p.me->v.tag∈U):Roomy (BW p):=by
 obtain ⟨U,h1,h2,h3⟩:=hs;refine ⟨⟨U,h1,λv hv=>?_,h3⟩,λv hv ht hp=>?_⟩
 ·rcases VT v hv with g | ⟨g1,g2,g3⟩
  ·exact h2 v g
  ·obtain ⟨z,hz,hi⟩:=h.tail;rw[Jg hz hi] at g1;exact h3 v (.of hz (.inl g1)) g2 g3
 ·exact (O4 (vs:=Ew p.chain) (l:=p.log)).1 v hv ht hp
theorem Xc (h:Roomy p) (hp:Ay p=true):Roomy (Lc p):=by
 have hc:=Iy hp;unfold Lc I0;cases Ec p.chain with
 | false=>exact h
 | true =>rw[cond_true];obtain ⟨U,h1,h2,h3⟩:=h.seen;exact ⟨⟨U,h1,h2,λv hv=>h3 v (TY hc.pos hv)⟩,λv hv=>h.told v (by rw[<- (TT hc).2.2.1];exact hv)⟩
theorem Xe (h:Roomy p) (hp:Ay p=true):Roomy (Dz p k):=by
 have hc:=Iy hp;unfold Dz;cases hf:CD p k with
 | false=>exact h
 | true =>unfold CD at hf;rw[CP] at hf;obtain ⟨f,rfl,g1,g2⟩:=RU hf.2;obtain ⟨U,h1,h2,h3⟩:=h.seen;rw[cond_true,Bd];exact KL (p:=MG p f) (hc.fall g1 g2) ⟨U,h1,h2,λv hv=>h3 v (TZ g1 hv)⟩
theorem Xb (h:Roomy p) (hp:Ay p=true):Roomy (Er p k):=by
 have hc:=Iy hp;unfold Er;cases hf:BL p.chain k with
 | false=>exact h
 | true =>obtain ⟨U,h1,h2,h3⟩:=h.seen;rw[cond_true];exact KL (p:=JQ p k.toNat) (hc.pass hf) ⟨U,h1,h2,λv hv=>h3 v (TX hf hv)⟩
theorem Xa (h:Roomy p) (hp:Ay p=true):Roomy (Dy p k):=by
 have hc:=Iy hp;unfold Dy;cases hk:Cn p k with
 | false=>exact h
 | true =>
  rw[cond_true];unfold Cn at hk;rw[CP] at hk;have hk:=hk.2;unfold Kk at hk;unfold Mx;cases hv:KS p k.toNat with
  | none=>exact h
  | some v =>
   rw[hv] at hk;simp only[CP] at hk;obtain ⟨v1,v2,v3,v4⟩:=V0 hp hv;obtain ⟨U,h1,h2,h3⟩:=h.seen;refine KL (p:=Fp p 0 (FL v.tag.time p.clock) v) (hc.add v1 hk.1) ⟨U,h1,h2,λw hw ht hm=>?_⟩;rcases NW hw with g | rfl
   ·exact h3 w g ht hm
   ·exact absurd (v2.symm.trans hm) v3
theorem Xd {f a:Int}{v:Ver} (h:Roomy p):Roomy (D9 p f a v):=by
 unfold D9;cases EC p f a v with
 | false=>exact h
 | true=>exact ⟨h.seen,h.told⟩
theorem NA {l:List Node}{v:Ver} (h:Ch l):∀ (d i:Nat) (x:Node),i+d+1=l.length->l[i]?=some x->v∈x.store->(∃ (j:Nat) (y:Node),l[j]?=some y/\j+1<l.length/\v∈y.wait)\/v∈Ew l
 | 0,i,x,hd,hx,hv=>by rw[Jg hx (by omega)];exact .inr hv
 | d+1,i,x,hd,hx,hv=>by
  have hy:=Dj (l:=l) (i:=i+1) (by omega);rcases T9 (h.link i x _ hx hy) v hv with g | g
  ·exact .inl ⟨i,x,hx,by omega,g⟩
  ·exact NA h d (i+1) _ (by omega) hy g
theorem To:∀ {l:List Node},(∀ x∈l,x.wait.length<=6)->(l.flatMap λx=>x.wait).length<=6*l.length
 | [],_=>by simp
 | x :: l,h=>by have h1:=h x (by simp);have h2:=To (l:=l) λy hy=>h y (by simp[hy]);simp only[List.flatMap_cons,zdt,zea];omega
theorem VK {s:ByteArray}{g:Bool}{l:List Tag} (h:Roomy p) (hp:Ay p=true):Roomy (Ej p k s g l).1:=by
 have hc:=Iy hp;rw[Nz hp];cases hw:Bg p k s g l with
 | false=>exact h
 | true =>
  obtain ⟨h1,h2,h3,h4,h5,h6,h7,h8⟩:=HR hw;have hv:=TM hp hw;refine KL (p:=Fp p 0 (AS p l) (DW p k s g l)) (hc.add hv h6) ⟨(p.log++(p.chain.dropLast.flatMap λx=>x.wait)).map (λv=>v.tag) ++ [⟨AS p l,p.me⟩],?_,λv hv=>?_,λv hv ht hm=>?_⟩
  ·have hd:∀ x∈p.chain.dropLast,x.wait.length<=6:=λx hx=>by obtain ⟨i,hi⟩:=zdu.1 ((List.dropLast_sublist _).mem hx);exact (AW (hc.node i x hi)).2.1
   have:=To hd;have h4:=hc.le;simp only[zdt,zer,List.length_dropLast,zd0] at this ⊢;omega
  ·refine zd5 _ (zeX.2 ⟨v,zd5 _ hv,rfl⟩)
  ·have old:inCh p.chain v->v.tag∈(p.log++(p.chain.dropLast.flatMap λx=>x.wait)).map (λv=>v.tag):=λhi=>by
    have fin:(∃ (j:Nat) (y:Node),p.chain[j]?=some y/\j+1<p.chain.length/\v∈y.wait)\/v∈Ew p.chain:=by
     obtain ⟨i,x,hx,q | q⟩:=hi.get
     ·have hlt:=(EA hx).1;exact NA hc (p.chain.length - 1 - i) i x (by omega) hx q
     ·have hlt:=(EA hx).1;by_cases he:i+1=p.chain.length
      ·rw[hc.last i x hx he] at q;simp at q
      ·exact .inl ⟨i,x,hx,by omega,q⟩
    rcases fin with ⟨j,y,hj,hjl,q⟩ | q
    ·refine zeX.2 ⟨v,zeC _ (List.mem_flatMap.2 ⟨y,?_,q⟩),rfl⟩;rw[zdu];exact ⟨j,by rw[List.getElem?_dropLast,if_pos (by omega)];exact hj⟩
    ·obtain ⟨u,hu,e⟩:=hasTag_mem.1 (h.told v q ht hm);exact zeX.2 ⟨u,zd5 _ hu,e⟩
   rcases NW hv with q | rfl
   ·exact zd5 _ (old q)
   ·exact zeC _ (by simp[DW])
end
def J5 (l:List Place) (f:Frame):Prop:=(0<=f.fro/\f.fro<=2)/\(0<=f.to/\f.to<=2)/\f.fro≠f.to/\0<=f.at'/\(EV l f.fro.toNat)[f.at'.toNat]?=some f.ver
theorem frame_iff {f:Frame}:GZ l f=true<->J5 l f:=by
 unfold GZ J5;simp only[Ai,CP,decide_eq_true_eq,zdR,beq_eq_false_iff_ne];constructor
 ·rintro ⟨⟨⟨⟨h1,h2⟩,h3⟩,h4⟩,h5⟩
  refine ⟨h1,h2,h3,by omega,?_⟩;cases hv:(EV l f.fro.toNat)[f.at'.toNat]? with
  | none=>rw[hv] at h5;cases h5
  | some v=>rw[hv] at h5;rw[same_iff.1 h5]
 ·rintro ⟨h1,h2,h3,h4,h5⟩
  have:=(EA h5).1;refine ⟨⟨⟨⟨h1,h2⟩,h3⟩,by omega⟩,?_⟩;rw[h5];exact same_iff.2 rfl
theorem begins_iff {L g:List Ver}:K6 L g=true<->∃ r,L=g++r:=by
 unfold K6;rw[CP,decide_eq_true_eq,sameVers_iff];constructor
 ·rintro ⟨h1,h2⟩
  exact ⟨L.drop g.length,by conv=>{ lhs;rw[<- zdG g.length L,h2] }⟩
 ·rintro ⟨r,rfl⟩
  simp
structure Wd (w:World):Prop where
 p3:w.places.length=3
 s4:w.sess.length<=4
 n12:w.net.length<=12
 h80:w.hist.length<=80
 place:∀ (i:Nat) (p:Place),w.places[i]?=some p->p.me=(i:Int)/\Ay p=true
 sess:∀ s∈w.sess,Dl s=true
 net:∀ f∈w.net,J5 w.places f
 hist:∀ d∈w.hist,Gc d=true
 heard:∀ (i:Nat) (p:Place) (k:Nat) (g:List Ver),w.places[i]?=some p->p.got[k]?=some g->∃ r,EV w.places k=g++r
theorem world_iff {w:World}:Eo w=true<->Wd w:=by
 constructor
 ·intro h;obtain ⟨h1,h2,h3,h4,h5,h6,h7,h8,h9⟩:=Sz h;rw[zdm] at h6 h7 h8;unfold KV at h9;rw[zdm] at h9;refine ⟨h1,h2,h3,h4,λi p hp=>?_,h6,λf hf=>frame_iff.1 (h7 f hf),h8,λi p k g hp hg=>?_⟩
  ·obtain ⟨hi,rfl⟩:=EA hp;exact JP h5 i hi
  ·have:=h9 p (zdp hp);unfold Ma at this;have:=(D6 (p:=λ(i:Nat) (x:List Ver)=>K6 (EV w.places i) x) (l:=p.got)).1 this;obtain ⟨hk,rfl⟩:=EA hg;exact begins_iff.1 (this k hk)
 ·rintro ⟨h1,h2,h3,h4,h5,h6,h7,h8,h9⟩
  unfold Eo;simp only[CP,decide_eq_true_eq];refine ⟨⟨⟨⟨⟨⟨⟨⟨h1,h2⟩,h3⟩,h4⟩,?_⟩,zdm.2 h6⟩,zdm.2 λf hf=>frame_iff.2 (h7 f hf)⟩,zdm.2 h8⟩,?_⟩
  ·refine (D6 (p:=λ(i:Nat) (x:Place)=>x.me==(i:Int)&&Ay x) (l:=w.places)).2 λi hi=>?_;obtain ⟨g1,g2⟩:=h5 i _ (Dj hi);rw[g2,g1,IB];rfl
  ·unfold KV;rw[zdm];intro p hp;obtain ⟨i,hi⟩:=zdu.1 hp;unfold Ma;exact (D6 (p:=λ(i:Nat) (x:List Ver)=>K6 (EV w.places i) x) (l:=p.got)).2 λk hk=>begins_iff.2 (h9 i p k _ hi (Dj hk))
theorem Yg {k:Nat}{p q:Place} (hp:l[k]?=some p) (hlog:∃ r,q.log=p.log++r) (j:Nat):∃ r,EV (l.set k q) j=EV l j++r:=by
 unfold EV;by_cases hj:k=j
 ·subst hj;rw[zdl (EA hp).1,hp];exact hlog
 ·rw[zdd hj];exact ⟨[],by simp⟩
section
variable {w:World}
theorem Wd.setP (h:Wd w) {k:Nat}{p q:Place} (hp:w.places[k]?=some p) (hq:Ay q=true) (hm:q.me=p.me) (hlog:∃ r,q.log=p.log++r)
  (hgot:∀ (i:Nat) (g:List Ver),q.got[i]?=some g->p.got[i]?=some g\/∃ r,EV w.places i=g++r):Wd ⟨w.places.set k q,w.sess,w.net,w.hist⟩:=by
 have hk:=(EA hp).1;refine ⟨by simpa using h.p3,h.s4,h.n12,h.h80,λi x hx=>?_,h.sess,λf hf=>?_,h.hist,λi x j g hx hg=>?_⟩
 ·by_cases hi:k=i
  ·subst hi;simp only[zdl hk,Option.some.injEq] at hx;subst hx;exact ⟨hm.trans (h.place k p hp).1,hq⟩
  ·simp only[zdd hi] at hx;exact h.place i x hx
 ·obtain ⟨h1,h2,h3,h4,h5⟩:=h.net f hf;obtain ⟨r,hr⟩:=Yg hp hlog f.fro.toNat;refine ⟨h1,h2,h3,h4,?_⟩;show (EV (w.places.set k q) f.fro.toNat)[f.at'.toNat]?=some f.ver;rw[hr,zde (EA h5).1];exact h5
 ·obtain ⟨r,hr⟩:=Yg hp hlog j;show ∃ r,EV (w.places.set k q) j=g++r;have old:(∃ r,EV w.places j=g++r)->∃ r,EV (w.places.set k q) j=g++r:=λ⟨r',hr'⟩=>⟨r'++r,by rw[hr,hr',zdq]⟩
  by_cases hi:k=i
  ·subst hi;simp only[zdl hk,Option.some.injEq] at hx;subst hx;rcases hgot j g hg with g1 | g1
   ·exact old (h.heard k p j g hp g1)
   ·exact old g1
  ·simp only[zdd hi] at hx;exact old (h.heard i x j g hx hg)
theorem Wd.putS (h:Wd w) {i:Nat}{s:Sess} (hs:Dl s=true):Wd ⟨w.places,w.sess.set i s,w.net,w.hist⟩ :=
 ⟨h.p3,by simpa using h.s4,h.n12,h.h80,h.place,λx hx=>(zdB hx).elim (h.sess x) λe=>e ▸ hs,h.net,h.hist,h.heard⟩
theorem Wd.addH (h:Wd w) {ds:List Done} (hd:∀ d∈ds,Gc d=true) (hl:w.hist.length+ds.length<=80):Wd ⟨w.places,w.sess,w.net,w.hist++ds⟩ :=
 ⟨h.p3,h.s4,h.n12,by simpa using hl,h.place,h.sess,h.net,λx hx=>(zc9.1 hx).elim (h.hist x) (hd x),h.heard⟩
theorem Wd.netN (h:Wd w) {l:List Frame} (hl:l.length<=12) (hf:∀ f∈l,J5 w.places f):Wd ⟨w.places,w.sess,l,w.hist⟩ :=
 ⟨h.p3,h.s4,hl,h.h80,h.place,h.sess,hf,h.hist,h.heard⟩
end


variable {p:Place}{k:Nat}{l:List Node}{v:Ver}{s:Sess}{i:Nat}
structure Event where
 kind:Int
 at':Int
 num:Int
 key:Int
 text:ByteArray
 gone:Bool
abbrev Event.cs (e:Event):List V := [Iv e.kind,Iv e.at',Iv e.num,Iv e.key,.str e.text,.bool e.gone]
def DI (a b:Tag):Bool:=FM a.time a.place b.time b.place
def E7 (a b:Tag):Tag:=bif DI a b then b else a
def Ek (p:List Tag) (k:Nat) (t:Tag):List Tag:=match p[k]? with
 | some x=>p.set k (E7 x t)
 | none=>p
def Di (p q:List Tag):List Tag:=List.zipWith E7 p q
def setS (w:World) (i:Nat) (s:Sess) (ds:List Done):World:=⟨w.places,w.sess.set i s,w.net,w.hist++ds⟩
def setP (w:World) (k:Nat) (p:Place):World:=⟨w.places.set k p,w.sess,w.net,w.hist⟩
def setN (w:World) (l:List Frame):World:=⟨w.places,w.sess,l,w.hist⟩
def CR (w:World) (n:Int):Bool:=decide ((w.hist.length:Int)+n<=80)
def D4 (w:World) (i:Nat) (s:Sess) (e:Event):Option World:=match w.places[s.place.toNat]? with
 | some p=>bif !decide (s.wait.time>0)&&(Bg p e.key e.text e.gone s.past&&CR w 1) then
   some (setS (setP w s.place.toNat (Ej p e.key e.text e.gone s.past).1) i ⟨s.place,s.past,(Ej p e.key e.text e.gone s.past).2,e.key⟩ [⟨i,1,e.key,(Ej p e.key e.text e.gone s.past).2⟩]) else none
 | none=>none
def JF (w:World) (i:Nat) (s:Sess):Option World:=match w.places[s.place.toNat]? with
 | some p=>match Gz p.chain 0 s.key.toNat,(Ez p.chain)[s.key.toNat]? with
  | some v,some u=>bif decide (s.wait.time>0) then
    (bif DI v.tag s.wait then (bif DI u.tag s.wait then some (setS w i ⟨s.place,s.past,⟨0,0⟩,0⟩ []) else none)
    else (bif CR w 1 then some (setS w i ⟨s.place,Ek s.past s.key.toNat s.wait,⟨0,0⟩,0⟩ [⟨i,3,s.key,s.wait⟩]) else none)) else none
  | _,_=>none
 | none=>none
def Lx (s:Sess) (v:Ver) (k:Nat):List Tag:=bif decide (v.tag.time>0) then Ek (Di s.past v.past) k v.tag else s.past
def Fv (w:World) (i:Nat) (s:Sess) (e:Event):Option World:=match w.places[s.place.toNat]? with
 | some p=>bif !decide (s.wait.time>0)&&(Ai e.key 0 3&&(Ai e.num 0 ((p.chain.length:Int) - 1)&&CR w 1)) then
   (match Gz p.chain e.num.toNat e.key.toNat,s.past[e.key.toNat]? with
   | some v,some t=>bif DI v.tag t then none else some (setS w i ⟨s.place,Lx s v e.key.toNat,s.wait,s.key⟩ [⟨i,2,e.key,v.tag⟩])
   | _,_=>none) else none
 | none=>none
def BY (i:Nat) (l:List Tag):List Done:=l.zipIdx.map λx=>⟨i,2,(x.2:Int),x.1⟩
def JL (w:World) (i:Nat) (s:Sess):Option World:=match w.places[s.place.toNat]? with
 | some p=>bif !decide (s.wait.time>0)&&(BP s.past (A3 p.chain)&&CR w 4) then some (setS w i ⟨s.place,A3 p.chain,s.wait,s.key⟩ (BY i (A3 p.chain))) else none
 | none=>none
def Rt (w:World) (i:Nat) (s:Sess) (e:Event):Option World:=bif !decide (s.wait.time>0)&&Ai e.num 0 2 then some (setS w i ⟨e.num,s.past,s.wait,s.key⟩ []) else none
def DV (w:World) (e:Event):Option World:=bif Ai e.at' 0 ((w.sess.length:Int) - 1) then
 (match w.sess[e.at'.toNat]? with
 | some s=>bif e.kind==1 then D4 w e.at'.toNat s e else bif e.kind==2 then JF w e.at'.toNat s else bif e.kind==3 then Fv w e.at'.toNat s e else bif e.kind==4 then JL w e.at'.toNat s else Rt w e.at'.toNat s e
 | none=>none) else none
def DH (p:Place) (e:Event):Option Place:=bif e.kind==6 then (bif BL p.chain e.num then some (Er p e.num) else none) else
 bif e.kind==7 then (bif CD p e.num then some (Dz p e.num) else none) else
 bif e.kind==8 then (bif Ec p.chain then some (Lc p) else none) else (bif Cn p e.num then some (Dy p e.num) else none)
def FY (w:World) (e:Event):Option World:=bif Ai e.at' 0 2 then
 (match w.places[e.at'.toNat]? with
 | some p=>(DH p e).map (setP w e.at'.toNat)
 | none=>none) else none
def NI (w:World) (e:Event):Option World:=bif Ai e.at' 0 2&&(Ai e.num 0 2&&(!(e.at'==e.num)&&(decide ((w.net.length:Int)<12)&&Ai e.key 0 (((EV w.places e.at'.toNat).length:Int) - 1)))) then
 (match (EV w.places e.at'.toNat)[e.key.toNat]? with
 | some v=>some (setN w (w.net ++ [⟨e.at',e.num,e.key,v⟩]))
 | none=>none) else none
def Kv (w:World) (f:Frame):World:=match w.places[f.to.toNat]? with
 | some p=>setP w f.to.toNat (D9 p f.fro f.at' f.ver)
 | none=>w
def IJ (w:World) (e:Event):Option World:=bif Ai e.at' 0 ((w.net.length:Int) - 1) then
 (match w.net[e.at'.toNat]? with
 | some f=>some (bif e.kind==12 then setN w (w.net.eraseIdx e.at'.toNat) else bif e.kind==13 then Kv w f else Kv (setN w (w.net.eraseIdx e.at'.toNat)) f)
 | none=>none) else none
def DZ (w:World) (e:Event):Option World:=bif Ai e.kind 1 5 then DV w e else bif Ai e.kind 6 9 then FY w e else bif e.kind==10 then NI w e else bif Ai e.kind 11 13 then IJ w e else none
def Mh (w:World) (e:Event):World:=(DZ w e).getD w
structure Good (w:World):Prop where
 ok:Wd w
 room:∀ p∈w.places,Roomy p
theorem pastOk_iff {p:List Tag}:BJ p=true<->p.length=4/\∀ t∈p,B8 t.time t.place=true:=by simp only[BJ,CP,decide_eq_true_eq,zdm]
theorem Yd {a b:Tag} (ha:B8 a.time a.place=true) (hb:B8 b.time b.place=true):B8 (E7 a b).time (E7 a b).place=true:=by
 unfold E7;cases DI a b
 ·exact ha
 ·exact hb
theorem Vu {p:List Tag}{t:Tag} (hp:BJ p=true) (ht:B8 t.time t.place=true):BJ (Ek p k t)=true:=by
 rw[pastOk_iff] at hp;unfold Ek;cases hx:p[k]? with
 | none=>exact pastOk_iff.2 hp
 | some x =>
  refine pastOk_iff.2 ⟨by simpa using hp.1,λy hy=>?_⟩;rcases zdB hy with hy | rfl
  ·exact hp.2 y hy
  ·exact Yd (hp.2 x (zdp hx)) ht
theorem zaq {p q:List Tag} (hp:BJ p=true) (hq:BJ q=true):BJ (Di p q)=true:=by rw[pastOk_iff] at hp hq;refine pastOk_iff.2 ⟨by unfold Di;rw[zeI];omega,λy hy=>?_⟩;unfold Di at hy;obtain ⟨i,hi,rfl⟩:=zdL.1 hy;rw[List.getElem_zipWith];exact Yd (hp.2 _ (zc7 _)) (hq.2 _ (zc7 _))
theorem Lt (h:Ch l):BJ (A3 l)=true:=by refine pastOk_iff.2 ⟨h.four.1,λt ht=>?_⟩;obtain ⟨z,hz,hi⟩:=h.tail;rw[Dg hz hi] at ht;unfold Br at ht;obtain ⟨v,hv,rfl⟩:=zeX.1 ht;obtain ⟨i,hi⟩:=zdu.1 hv;exact Pv (Jm (h.store hz).1 hi)
theorem Z2 {key:Nat} (h:Ch l) (hv:Gz l k key=some v):∃ (i:Nat) (x:Node),l[i]?=some x/\x.store[key]?=some v:=by
 unfold Gz GP at hv;cases hx:l[BE l k]? with
 | none=>rw[hx] at hv;simp at hv
 | some x=>rw[hx] at hv;exact ⟨_,x,hx,hv⟩
theorem Rj {key:Nat} (h:Ch l) (hv:Gz l k key=some v):JM key v=true:=by obtain ⟨i,x,hx,hv⟩:=Z2 h hv;exact Jm (h.store hx).1 hv
theorem Bv (h:Dl s=true):(0<=s.place/\s.place<=2)/\BJ s.past=true/\B8 s.wait.time s.wait.place=true/\(0<=s.key/\s.key<=3)/\(0<s.wait.time\/s.key=0)/\(s.wait.time=0\/s.wait.place=s.place):=by unfold Dl at h;simp only[CP,zdW,decide_eq_true_eq,beq_iff_eq,Ai] at h;obtain ⟨⟨⟨⟨⟨h1,h2⟩,h3⟩,h4⟩,h5⟩,h6⟩:=h;exact ⟨h1,h2,h3,h4,h5,h6⟩
theorem L5 (h1:0<=s.place/\s.place<=2) (h2:BJ s.past=true) (h3:B8 s.wait.time s.wait.place=true) (h4:0<=s.key/\s.key<=3) (h5:0<s.wait.time\/s.key=0) (h6:s.wait.time=0\/s.wait.place=s.place):Dl s=true:=by unfold Dl;simp only[CP,zdW,decide_eq_true_eq,beq_iff_eq,Ai];exact ⟨⟨⟨⟨⟨h1,h2⟩,h3⟩,h4⟩,h5⟩,h6⟩
theorem QR {d:Done} (h1:0<=d.sess/\d.sess<=3) (h2:1<=d.kind/\d.kind<=3) (h3:0<=d.key/\d.key<=3) (h4:B8 d.tag.time d.tag.place=true) (h5:d.kind=2\/0<d.tag.time):Gc d=true:=by unfold Gc;simp only[CP,zdW,decide_eq_true_eq,beq_iff_eq,Ai];exact ⟨⟨⟨⟨h1,h2⟩,h3⟩,h4⟩,h5⟩
theorem NO:∃ r,(BW p).log=p.log++r:=(O4 (vs:=Ew p.chain) (l:=p.log)).2
section
variable {w w':World}
theorem Good.setP (h:Good w) {k:Nat}{p q:Place} (hp:w.places[k]?=some p) (hq:Ay q=true) (hr:Roomy q) (hm:q.me=p.me) (hlog:∃ r,q.log=p.log++r)
  (hgot:∀ (i:Nat) (g:List Ver),q.got[i]?=some g->p.got[i]?=some g\/∃ r,EV w.places i=g++r):Good (Go.Proofs.YtmgopagfoemomaaGreat.setP w k q) :=
 ⟨h.ok.setP hp hq hm hlog hgot,λx hx=>(zdB hx).elim (h.room x) λe=>e ▸ hr⟩
theorem Good.setS (h:Good w) {i:Nat}{s:Sess}{ds:List Done} (hs:Dl s=true) (hd:∀ d∈ds,Gc d=true) (hl:(w.hist.length:Int)+ds.length<=80):Good (Go.Proofs.YtmgopagfoemomaaGreat.setS w i s ds) :=
 ⟨(h.ok.putS (i:=i) hs).addH hd (by show w.hist.length+ds.length<=80;omega),h.room⟩
theorem Good.setN (h:Good w) {l:List Frame} (hl:l.length<=12) (hf:∀ f∈l,J5 w.places f):Good (Go.Proofs.YtmgopagfoemomaaGreat.setN w l):=⟨h.ok.netN hl hf,h.room⟩
theorem Tm {k:Int}{s:ByteArray}{g:Bool}{l:List Tag} (hp:Ay p=true) (hc:Bg p k s g l=true):Ej p k s g l=(BW (Fp p 0 (AS p l) (DW p k s g l)),⟨AS p l,p.me⟩):=by rw[Nz hp,hc,cond_true]
theorem XF (h:Good w) {e:Event} (hi:i<w.sess.length) (hs:Dl s=true) (he:D4 w i s e=some w'):Good w':=by
 have h4:=h.ok.s4;unfold D4 at he;split at he
 ·rename_i p hp
  cases hc:(!decide (s.wait.time>0)&&(Bg p e.key e.text e.gone s.past&&CR w 1)) with
  | false=>rw[hc] at he;cases he
  | true =>
   rw[hc,cond_true] at he;injection he with he;simp only[CP,CR,decide_eq_true_eq] at hc;obtain ⟨_,hc,hh⟩:=hc;obtain ⟨hme,hpo⟩:=h.ok.place _ p hp;have hr:=h.room p (zdp hp);obtain ⟨s1,s2,s3,s4,s5,s6⟩:=Bv hs;obtain ⟨q1,q2,q3,q4,q5,q6,q7,q8⟩:=HR hc;have ht:=L1 hpo s2;have hw:=Tm hpo hc;have g1:Good (Go.Proofs.YtmgopagfoemomaaGreat.setP w s.place.toNat (Ej p e.key e.text e.gone s.past).1):=h.setP hp (zac hpo) (VK hr hpo) (by rw[hw];rfl) (by rw[hw];exact NO) (λj g hg=>by rw[hw] at hg;exact .inl hg);have ht1:B8 (AS p s.past) p.me=true:=by simp[B8,Ai];omega
   rw[<- he];refine g1.setS ?_ ?_ (by simp only[zd0];exact hh)
   ·rw[hw];exact L5 s1 s2 ht1 q1 (.inl (by show 0<AS p s.past;omega)) (.inr (by show p.me=s.place;omega))
   ·intro d hd;rw[zdv] at hd;subst hd;rw[hw];exact QR (by show (0:Int)<=(i:Int)/\(i:Int)<=3;omega) (by show (1:Int)<=1/\(1:Int)<=3;decide) q1 ht1 (.inr (by show 0<AS p s.past;omega))
 ·cases he
theorem zay (h:Good w) (hi:i<w.sess.length) (hs:Dl s=true) (he:JF w i s=some w'):Good w':=by
 have h4:=h.ok.s4;have h8:=h.ok.h80;obtain ⟨s1,s2,s3,s4,s5,s6⟩:=Bv hs;unfold JF at he;split at he
 ·rename_i p hp
  split at he
  ·rename_i v u hv hu
   cases hc:decide (s.wait.time>0) with
   | false=>rw[hc] at he;cases he
   | true =>
    rw[hc,cond_true] at he;cases hl:DI v.tag s.wait with
    | true =>
     rw[hl,cond_true] at he;cases hl2:DI u.tag s.wait with
     | false=>rw[hl2] at he;cases he
     | true =>rw[hl2,cond_true] at he;injection he with he;rw[<- he];exact h.setS (L5 s1 s2 rfl (by show (0:Int)<=0/\(0:Int)<=3;decide) (.inr rfl) (.inl rfl)) (by simp) (by simp only[zek];omega)
    | false =>
     rw[hl,cond_false] at he;cases hr:CR w 1 with
     | false=>rw[hr] at he;cases he
     | true =>rw[hr,cond_true] at he;injection he with he;rw[<- he];unfold CR at hr;refine h.setS (L5 s1 (Vu s2 s3) rfl (by show (0:Int)<=0/\(0:Int)<=3;decide) (.inr rfl) (.inl rfl)) (λd hd=>?_) (by simp only[zd0];exact of_decide_eq_true hr);rw[zdv] at hd;subst hd;exact QR (by show (0:Int)<=(i:Int)/\(i:Int)<=3;omega) (by show (1:Int)<=3/\(3:Int)<=3;decide) s4 s3 (.inr (of_decide_eq_true hc))
  ·cases he
 ·cases he
theorem Z7 (hs:BJ s.past=true) (hv:JM k v=true):BJ (Lx s v k)=true:=by
 unfold Lx;cases ht:decide (v.tag.time>0) with
 | false=>exact hs
 | true =>
  have ht:=of_decide_eq_true ht;rcases Cp hv with g | g
  ·have:=(DK g).1;omega
  ·have hp:=AZ g.1;exact Vu (zaq hs hp.2.2.2.1) hp.2.2.2.2.1
theorem Zt (h:Good w) {e:Event} (hi:i<w.sess.length) (hs:Dl s=true) (he:Fv w i s e=some w'):Good w':=by
 have h4:=h.ok.s4;obtain ⟨s1,s2,s3,s4,s5,s6⟩:=Bv hs;unfold Fv at he;split at he
 ·rename_i p hp
  cases hc:(!decide (s.wait.time>0)&&(Ai e.key 0 3&&(Ai e.num 0 ((p.chain.length:Int) - 1)&&CR w 1))) with
  | false=>rw[hc] at he;cases he
  | true =>
   rw[hc,cond_true] at he;simp only[CP,CR,Ai,decide_eq_true_eq] at hc;obtain ⟨_,hk,_,hr⟩:=hc;split at he
   ·rename_i v t hv ht
    cases hl:DI v.tag t with
    | true=>rw[hl] at he;cases he
    | false =>rw[hl,cond_false] at he;injection he with he;rw[<- he];have hc:=Iy (h.ok.place _ p hp).2;have hva:=Rj hc hv;refine h.setS (L5 s1 (Z7 s2 hva) s3 s4 s5 s6) (λd hd=>?_) (by simp only[zd0];exact hr);rw[zdv] at hd;subst hd;exact QR (by show (0:Int)<=(i:Int)/\(i:Int)<=3;omega) (by show (1:Int)<=2/\(2:Int)<=3;decide) hk (Pv hva) (.inl rfl)
   ·cases he
 ·cases he
theorem zaz (h:Good w) (hi:i<w.sess.length) (hs:Dl s=true) (he:JL w i s=some w'):Good w':=by
 have h4:=h.ok.s4;obtain ⟨s1,s2,s3,s4,s5,s6⟩:=Bv hs;unfold JL at he;split at he
 ·rename_i p hp
  cases hc:(!decide (s.wait.time>0)&&(BP s.past (A3 p.chain)&&CR w 4)) with
  | false=>rw[hc] at he;cases he
  | true =>rw[hc,cond_true] at he;injection he with he;rw[<- he];simp only[CP,CR,decide_eq_true_eq] at hc;have hch:=Iy (h.ok.place _ p hp).2;have hst:=Lt hch;refine h.setS (L5 s1 hst s3 s4 s5 s6) (λd hd=>?_) (by unfold BY;rw[zer,zeM,hch.four.1];exact hc.2.2);unfold BY at hd;obtain ⟨⟨t,k⟩,hx,rfl⟩:=zeX.1 hd;rw[zeg] at hx;have hk:=(EA hx).1;rw[hch.four.1] at hk;simp only at hk;exact QR (by show (0:Int)<=(i:Int)/\(i:Int)<=3;omega) (by show (1:Int)<=2/\(2:Int)<=3;decide) (by show (0:Int)<=(k:Int)/\(k:Int)<=3;omega) ((pastOk_iff.1 hst).2 t (zdp hx)) (.inl rfl)
 ·cases he
theorem Zu (h:Good w) {e:Event} (hs:Dl s=true) (he:Rt w i s e=some w'):Good w':=by
 obtain ⟨s1,s2,s3,s4,s5,s6⟩:=Bv hs;unfold Rt at he;cases hc:(!decide (s.wait.time>0)&&Ai e.num 0 2) with
 | false=>rw[hc] at he;cases he
 | true =>rw[hc,cond_true] at he;injection he with he;rw[<- he];simp only[CP,Ai,decide_eq_true_eq,zdR,decide_eq_false_iff_not] at hc;have:=Jl s3;exact h.setS (L5 hc.2 s2 s3 s4 s5 (.inl (by show s.wait.time=0;omega))) (by simp) (by simp only[zek];have:=h.ok.h80;omega)
theorem Wk (h:Good w) {e:Event} (he:DV w e=some w'):Good w':=by
 unfold DV at he;cases hc:Ai e.at' 0 ((w.sess.length:Int) - 1) with
 | false=>rw[hc] at he;cases he
 | true =>
  rw[hc,cond_true] at he;split at he
  ·rename_i s hs
   have hi:=(EA hs).1;have hso:=h.ok.sess s (zdp hs);cases h1:e.kind==1 with
   | true=>rw[h1,cond_true] at he;exact XF h hi hso he
   | false =>
    rw[h1,cond_false] at he;cases h2:e.kind==2 with
    | true=>rw[h2,cond_true] at he;exact zay h hi hso he
    | false =>
     rw[h2,cond_false] at he;cases h3:e.kind==3 with
     | true=>rw[h3,cond_true] at he;exact Zt h hi hso he
     | false =>
      rw[h3,cond_false] at he;cases h4:e.kind==4 with
      | true=>rw[h4,cond_true] at he;exact zaz h hi hso he
      | false=>rw[h4,cond_false] at he;exact Zu h hso he
  ·cases he
theorem ZZ {q:Place}{e:Event} (h:DH p e=some q):q.me=p.me/\q.got=p.got/\∃ r,q.log=p.log++r:=by
 unfold DH at h;have nil:∃ r,p.log=p.log++r:=⟨[],by simp⟩;cases h1:e.kind==6 with
 | true =>
  rw[h1,cond_true] at h;cases hc:BL p.chain e.num with
  | false=>rw[hc] at h;cases h
  | true =>rw[hc,cond_true] at h;injection h with h;rw[<- h];unfold Er;rw[hc,cond_true];exact ⟨rfl,rfl,NO⟩
 | false =>
  rw[h1,cond_false] at h;cases h2:e.kind==7 with
  | true =>
   rw[h2,cond_true] at h;cases hc:CD p e.num with
   | false=>rw[hc] at h;cases h
   | true =>rw[hc,cond_true] at h;injection h with h;rw[<- h];unfold Dz;rw[hc,cond_true];exact ⟨rfl,rfl,NO⟩
  | false =>
   rw[h2,cond_false] at h;cases h3:e.kind==8 with
   | true =>
    rw[h3,cond_true] at h;cases hc:Ec p.chain with
    | false=>rw[hc] at h;cases h
    | true =>rw[hc,cond_true] at h;injection h with h;rw[<- h];exact ⟨rfl,rfl,nil⟩
   | false =>
    rw[h3,cond_false] at h;cases hc:Cn p e.num with
    | false=>rw[hc] at h;cases h
    | true =>
     rw[hc,cond_true] at h;injection h with h;rw[<- h];unfold Dy;rw[hc,cond_true];unfold Mx;split
     ·exact ⟨rfl,rfl,NO⟩
     ·exact ⟨rfl,rfl,nil⟩
theorem zbh {q:Place}{e:Event} (hp:Ay p=true) (hl:p.log.length<=56) (h:DH p e=some q):Ay q=true/\(Roomy p->Roomy q):=by
 unfold DH at h;cases h1:e.kind==6 with
 | true =>
  rw[h1,cond_true] at h;cases hc:BL p.chain e.num with
  | false=>rw[hc] at h;cases h
  | true =>rw[hc,cond_true] at h;injection h with h;rw[<- h];exact ⟨zbs hp hl,λhr=>Xb hr hp⟩
 | false =>
  rw[h1,cond_false] at h;cases h2:e.kind==7 with
  | true =>
   rw[h2,cond_true] at h;cases hc:CD p e.num with
   | false=>rw[hc] at h;cases h
   | true =>rw[hc,cond_true] at h;injection h with h;rw[<- h];exact ⟨zbv hp hl,λhr=>Xe hr hp⟩
  | false =>
   rw[h2,cond_false] at h;cases h3:e.kind==8 with
   | true =>
    rw[h3,cond_true] at h;cases hc:Ec p.chain with
    | false=>rw[hc] at h;cases h
    | true =>rw[hc,cond_true] at h;injection h with h;rw[<- h];exact ⟨zbt hp,λhr=>Xc hr hp⟩
   | false =>
    rw[h3,cond_false] at h;cases hc:Cn p e.num with
    | false=>rw[hc] at h;cases h
    | true =>rw[hc,cond_true] at h;injection h with h;rw[<- h];exact ⟨zbr hp hl,λhr=>Xa hr hp⟩
theorem XG (h:Good w) {e:Event} (he:FY w e=some w'):Good w':=by
 unfold FY at he;cases hc:Ai e.at' 0 2 with
 | false=>rw[hc] at he;cases he
 | true =>
  rw[hc,cond_true] at he;split at he
  ·rename_i p hp
   rw[zdN] at he;obtain ⟨q,hq,rfl⟩:=he;have hpo:=(h.ok.place _ p hp).2;have hr:=h.room p (zdp hp);have hl:=hr.len hpo;obtain ⟨g1,g2⟩:=zbh hpo (by omega) hq;obtain ⟨g3,g4,g5⟩:=ZZ hq;exact h.setP hp g1 (g2 hr) g3 g5 λi g hg=>by rw[g4] at hg;exact .inl hg
  ·cases he
theorem Zs (h:Good w) {e:Event} (he:NI w e=some w'):Good w':=by
 unfold NI at he;cases hc:(Ai e.at' 0 2&&(Ai e.num 0 2&&(!(e.at'==e.num)&&(decide ((w.net.length:Int)<12)&&Ai e.key 0 (((EV w.places e.at'.toNat).length:Int) - 1))))) with
 | false=>rw[hc] at he;cases he
 | true =>
  rw[hc,cond_true] at he;simp only[CP,Ai,decide_eq_true_eq,zdR,beq_eq_false_iff_ne] at hc;obtain ⟨h1,h2,h3,h4,h5⟩:=hc;split at he
  ·rename_i v hv
   injection he with he;rw[<- he];refine h.setN (by simp;omega) λf hf=>?_;rcases zc9.1 hf with hf | hf
   ·exact h.ok.net f hf
   ·rw[zdv] at hf;subst hf;exact ⟨h1,h2,h3,h5.1,hv⟩
  ·cases he
theorem T6 (h:Good w) {f:Frame} (hf:J5 w.places f):Good (Kv w f):=by
 unfold Kv;split
 ·rename_i p hp
  have hpo:=(h.ok.place _ p hp).2;have hr:=h.room p (zdp hp);obtain ⟨h1,h2,h3,h4,h5⟩:=hf;refine h.setP hp (zbu hpo) (Xd hr) ?_ ?_ ?_
  ·unfold D9;cases EC p f.fro f.at' f.ver<;>rfl
  ·unfold D9;cases EC p f.fro f.at' f.ver<;>exact ⟨[],by simp[IA]⟩
  ·intro i g hg;unfold D9 at hg;cases hc:EC p f.fro f.at' f.ver with
   | false=>rw[hc] at hg;exact .inl hg
   | true =>
    rw[hc,cond_true] at hg;simp only[EC,IW,Ai,CP,decide_eq_true_eq,beq_iff_eq,zdR] at hc;obtain ⟨⟨_,_⟩,_,_,_,q,_,_⟩:=hc;have hg:(p.got.set f.fro.toNat (Lf p f.fro.toNat ++ [f.ver]))[i]?=some g:=hg;by_cases hi:f.fro.toNat=i
    ·subst hi;have hlt:f.fro.toNat<p.got.length:=by have:=(EA hg).1;simpa using this
     rw[zdl hlt] at hg;injection hg with hg;have hgo:p.got[f.fro.toNat]?=some (Lf p f.fro.toNat):=by rw[HO hlt];exact Dj hlt
     obtain ⟨r,hr⟩:=h.ok.heard _ p _ _ hp hgo;rw[hr,zdx (by omega),show f.at'.toNat - (Lf p f.fro.toNat).length=0 by omega] at h5;cases r with
     | nil=>simp at h5
     | cons v r =>simp only[List.getElem?_cons_zero,Option.some.injEq] at h5;subst h5;exact .inr ⟨r,by rw[hr,<- hg];simp⟩
    ·rw[zdd hi] at hg;exact .inl hg
 ·exact h
theorem XH (h:Good w) {e:Event} (he:IJ w e=some w'):Good w':=by
 unfold IJ at he;cases hc:Ai e.at' 0 ((w.net.length:Int) - 1) with
 | false=>rw[hc] at he;cases he
 | true =>
  rw[hc,cond_true] at he;split at he
  ·rename_i f hf
   injection he with he;rw[<- he];have hfi:=h.ok.net f (zdp hf);have hn:=h.ok.n12;have g1:Good (setN w (w.net.eraseIdx e.at'.toNat)):=h.setN (zc8 (zex _ _) hn) λx hx=>h.ok.net x (zd8 hx);cases e.kind==12 with
   | true=>exact g1
   | false =>
    rw[cond_false];cases e.kind==13 with
    | true=>exact T6 h hfi
    | false=>exact T6 g1 hfi
  ·cases he
theorem Zr (h:Good w) {e:Event} (he:DZ w e=some w'):Good w':=by
 unfold DZ at he;cases h1:Ai e.kind 1 5 with
 | true=>rw[h1,cond_true] at he;exact Wk h he
 | false =>
  rw[h1,cond_false] at he;cases h2:Ai e.kind 6 9 with
  | true=>rw[h2,cond_true] at he;exact XG h he
  | false =>
   rw[h2,cond_false] at he;cases h3:e.kind==10 with
   | true=>rw[h3,cond_true] at he;exact Zs h he
   | false =>
    rw[h3,cond_false] at he;cases h4:Ai e.kind 11 13 with
    | true=>rw[h4,cond_true] at he;exact XH h he
    | false=>rw[h4] at he;cases he
theorem I8 (h:Good w) {e:Event}:Good (Mh w e):=by
 unfold Mh;cases he:DZ w e with
 | none=>exact h
 | some w'=>exact Zr h he
end


theorem Mv.mid {h h':Heap}{A B A' F F':List Nat} (m:Mv h A h' A') (hp:F.Perm (A++B)) (hn:F.Nodup) (hB:∀ y∈B,y<h.length) (hp':F'.Perm (A'++B)):Mv h F h' F':=by have m1:=m.aside (hp.nodup_iff.1 hn) hB;exact (m1.wide λb hb=>hp.mem_iff.2 hb).lean (hp'.nodup_iff.2 m1.nd) λb hb=>hp'.mem_iff.1 hb
theorem P0 {A B C:List Nat}:(A++(B++C)).Perm (B++(A++C)):=List.perm_append_comm_assoc A B C
theorem TG {A B C D:List Nat}:(A++(B++(C++D))).Perm (C++(A++(B++D))):=(List.Perm.append_left A P0).trans P0
theorem Z9 {A B C:List Nat}:(A++(B++C)).Perm (C++(A++B)):=by rw[<- zdq A B C];exact zeO
theorem Ya {A B C D:List Nat}:(A++(B++(C++D))).Perm (D++(A++(B++C))):=by rw[<- zdq B C D,<- zdq A (B++C) D];exact zeO
structure WR (lo:Nat) (h:Heap) (w:World) (a1:Pq) (c1:Nq) (a2:Pq) (c2:Nq) (a3:Pq) (c3:Nq) (a4:Pq) (c4:Nq) (F1 F2 F3 F4:List Nat):Prop where
 r1:RPlaces false h [.sl 6 a1 w.places.length c1] w.places F1
 r2:RSesss false h [.sl 5 a2 w.sess.length c2] w.sess F2
 r3:RFrames false h [.sl 9 a3 w.net.length c3] w.net F3
 r4:RDones false h [.sl 5 a4 w.hist.length c4] w.hist F4
 nd:(F1++(F2++(F3++F4))).Nodup
 ge:∀ y∈F1++(F2++(F3++F4)),lo<=y
 hl:lo<=h.length
def Qn (lo:Nat) (h:Heap) (cs:List V) (w:World) (F:List Nat):Prop:=∃ a1 c1 a2 c2 a3 c3 a4 c4 F1 F2 F3 F4,cs=w.cs a1 c1 a2 c2 a3 c3 a4 c4/\F=F1++(F2++(F3++F4))/\WR lo h w a1 c1 a2 c2 a3 c3 a4 c4 F1 F2 F3 F4
section
variable {lo:Nat}{h h':Heap}{w:World}{a1 a2 a3 a4 a:Pq}{c1 c2 c3 c4 c:Nq}{F1 F2 F3 F4:List Nat}
theorem WR.at (H:WR lo h w a1 c1 a2 c2 a3 c3 a4 c4 F1 F2 F3 F4):Qn lo h (w.cs a1 c1 a2 c2 a3 c3 a4 c4) w (F1++(F2++(F3++F4))):=⟨a1,c1,a2,c2,a3,c3,a4,c4,F1,F2,F3,F4,rfl,rfl,H⟩
theorem WR.lt (H:WR lo h w a1 c1 a2 c2 a3 c3 a4 c4 F1 F2 F3 F4):(∀ y∈F1,y<h.length)/\(∀ y∈F2,y<h.length)/\(∀ y∈F3,y<h.length)/\∀ y∈F4,y<h.length :=
 ⟨rplaces_ok.bd _ _ _ _ H.r1,rsesss_ok.bd _ _ _ _ H.r2,rframes_ok.bd _ _ _ _ H.r3,rdones_ok.bd _ _ _ _ H.r4⟩
theorem WR.bd (H:WR lo h w a1 c1 a2 c2 a3 c3 a4 c4 F1 F2 F3 F4):∀ y∈F1++(F2++(F3++F4)),y<h.length:=λy hy=>by
 obtain ⟨g1,g2,g3,g4⟩:=H.lt;simp only[zc9] at hy;rcases hy with hy | hy | hy | hy
 ·exact g1 y hy
 ·exact g2 y hy
 ·exact g3 y hy
 ·exact g4 y hy
theorem Qg (h:(F1++(F2++(F3++F4))).Nodup):(F1.Nodup/\F2.Nodup/\F3.Nodup/\F4.Nodup)/\(∀ y∈F1,y∉F2)/\(∀ y∈F1,y∉F3)/\(∀ y∈F1,y∉F4)/\(∀ y∈F2,y∉F3)/\(∀ y∈F2,y∉F4)/\∀ y∈F3,y∉F4:=by simp only[zda,zc9] at h;obtain ⟨h1,⟨h2,⟨h3,h4,h5⟩,h6⟩,h7⟩:=h;exact ⟨⟨h1,h2,h3,h4⟩,λy hy hm=>h7 y hy y (.inl hm) rfl,λy hy hm=>h7 y hy y (.inr (.inl hm)) rfl,λy hy hm=>h7 y hy y (.inr (.inr hm)) rfl,λy hy hm=>h6 y hy y (.inl hm) rfl,λy hy hm=>h6 y hy y (.inr hm) rfl,λy hy hm=>h5 y hy y hm rfl⟩
theorem WR.up1 (H:WR lo h w a1 c1 a2 c2 a3 c3 a4 c4 F1 F2 F3 F4) {l:List Place}{G:List Nat} (m:Mv h F1 h' G) (r:RPlaces false h' [.sl 6 a l.length c] l G) :
  WR lo h' ⟨l,w.sess,w.net,w.hist⟩ a c a2 c2 a3 c3 a4 c4 G F2 F3 F4/\Mv h (F1++(F2++(F3++F4))) h' (G++(F2++(F3++F4))):=by
 obtain ⟨_,d12,d13,d14,d23,d24,d34⟩:=Qg H.nd;have m1:Mv h (F1++(F2++(F3++F4))) h' (G++(F2++(F3++F4))):=m.mid (.refl _) H.nd (λy hy=>H.bd y (by simp only[zc9] at hy ⊢;grind)) (.refl _);exact ⟨⟨r,m.keep rsesss_ok H.r2 (λb hb hm=>d12 b hm hb),m.keep rframes_ok H.r3 (λb hb hm=>d13 b hm hb),m.keep rdones_ok H.r4 (λb hb hm=>d14 b hm hb),m1.nd,m1.ge H.hl H.ge,zc8 H.hl m.le⟩,m1⟩
theorem WR.up2 (H:WR lo h w a1 c1 a2 c2 a3 c3 a4 c4 F1 F2 F3 F4) {l:List Sess}{G:List Nat} (m:Mv h F2 h' G) (r:RSesss false h' [.sl 5 a l.length c] l G) :
  WR lo h' ⟨w.places,l,w.net,w.hist⟩ a1 c1 a c a3 c3 a4 c4 F1 G F3 F4/\Mv h (F1++(F2++(F3++F4))) h' (F1++(G++(F3++F4))):=by
 obtain ⟨_,d12,d13,d14,d23,d24,d34⟩:=Qg H.nd;have m1:Mv h (F1++(F2++(F3++F4))) h' (F1++(G++(F3++F4))):=m.mid P0 H.nd (λy hy=>H.bd y (by simp only[zc9] at hy ⊢;grind)) P0;exact ⟨⟨m.keep rplaces_ok H.r1 (λb hb hm=>d12 b hb hm),r,m.keep rframes_ok H.r3 (λb hb hm=>d23 b hm hb),m.keep rdones_ok H.r4 (λb hb hm=>d24 b hm hb),m1.nd,m1.ge H.hl H.ge,zc8 H.hl m.le⟩,m1⟩
theorem WR.up3 (H:WR lo h w a1 c1 a2 c2 a3 c3 a4 c4 F1 F2 F3 F4) {l:List Frame}{G:List Nat} (m:Mv h F3 h' G) (r:RFrames false h' [.sl 9 a l.length c] l G) :
  WR lo h' ⟨w.places,w.sess,l,w.hist⟩ a1 c1 a2 c2 a c a4 c4 F1 F2 G F4/\Mv h (F1++(F2++(F3++F4))) h' (F1++(F2++(G++F4))):=by
 obtain ⟨_,d12,d13,d14,d23,d24,d34⟩:=Qg H.nd;have m1:Mv h (F1++(F2++(F3++F4))) h' (F1++(F2++(G++F4))):=m.mid TG H.nd (λy hy=>H.bd y (by simp only[zc9] at hy ⊢;grind)) TG;exact ⟨⟨m.keep rplaces_ok H.r1 (λb hb hm=>d13 b hb hm),m.keep rsesss_ok H.r2 (λb hb hm=>d23 b hb hm),r,m.keep rdones_ok H.r4 (λb hb hm=>d34 b hm hb),m1.nd,m1.ge H.hl H.ge,zc8 H.hl m.le⟩,m1⟩
theorem WR.up4 (H:WR lo h w a1 c1 a2 c2 a3 c3 a4 c4 F1 F2 F3 F4) {l:List Done}{G:List Nat} (m:Mv h F4 h' G) (r:RDones false h' [.sl 5 a l.length c] l G) :
  WR lo h' ⟨w.places,w.sess,w.net,l⟩ a1 c1 a2 c2 a3 c3 a c F1 F2 F3 G/\Mv h (F1++(F2++(F3++F4))) h' (F1++(F2++(F3++G))):=by
 obtain ⟨_,d12,d13,d14,d23,d24,d34⟩:=Qg H.nd;have m1:Mv h (F1++(F2++(F3++F4))) h' (F1++(F2++(F3++G))):=m.mid Ya H.nd (λy hy=>H.bd y (by simp only[zc9] at hy ⊢;grind)) Ya;exact ⟨⟨m.keep rplaces_ok H.r1 (λb hb hm=>d14 b hb hm),m.keep rsesss_ok H.r2 (λb hb hm=>d24 b hb hm),m.keep rframes_ok H.r3 (λb hb hm=>d34 b hb hm),r,m1.nd,m1.ge H.hl H.ge,zc8 H.hl m.le⟩,m1⟩
theorem WR.up0 (H:WR lo h w a1 c1 a2 c2 a3 c3 a4 c4 F1 F2 F3 F4) (m:Mv h [] h' []):WR lo h' w a1 c1 a2 c2 a3 c3 a4 c4 F1 F2 F3 F4/\Mv h (F1++(F2++(F3++F4))) h' (F1++(F2++(F3++F4))) :=
 ⟨⟨m.keep0 rplaces_ok H.r1,m.keep0 rsesss_ok H.r2,m.keep0 rframes_ok H.r3,m.keep0 rdones_ok H.r4,H.nd,H.ge,zc8 H.hl m.le⟩,m.aside (by simpa using H.nd) H.bd⟩
theorem WR.place (H:WR lo h w a1 c1 a2 c2 a3 c3 a4 c4 F1 F2 F3 F4) {k:Nat} (hk:k<w.places.length):∃ b i s1 s2 s3 b1 d1 b2 d2 b3 d3 G1 G2 G3,a1=some (b,i) /\
  ld h b (i+k) 0 6=some [Iv w.places[k].me,Iv w.places[k].clock,s1,s2,s3,.bool w.places[k].fell]/\ld h b (i+k) 2 1=some [s1]/\ld h b (i+k) 3 1=some [s2] /\
  (∀ {R':Type} (K:Pq->Nat->Nq->Option R'),eS 2 s1 K=K b1 w.places[k].chain.length d1)/\(∀ {R':Type} (K:Pq->Nat->Nq->Option R'),eS 6 s2 K=K b2 w.places[k].log.length d2) /\
  (∀ {R':Type} (K:Pq->Nat->Nq->Option R'),eS 1 s3 K=K b3 w.places[k].got.length d3) /\
  RNodes false h [.sl 2 b1 w.places[k].chain.length d1] w.places[k].chain G1/\RVers false h [.sl 6 b2 w.places[k].log.length d2] w.places[k].log G2/\RVss false h [.sl 1 b3 w.places[k].got.length d3] w.places[k].got G3 /\
  (G1++(G2++G3)).Nodup/\(∀ y∈G1++(G2++G3),lo<=y/\y<h.length/\y∈F1) /\
  ∀ h1 G p' cs',Mv h (G1++(G2++G3)) h1 G->RPlace false h1 cs' p' G->cs'.length=6 ->
   ∃ h2 F1',st lo h1 b (i+k) 0 cs'=some h2/\WR lo h2 (setP w k p') a1 c1 a2 c2 a3 c3 a4 c4 F1' F2 F3 F4/\Mv h (F1++(F2++(F3++F4))) h2 (F1'++(F2++(F3++F4))):=by
 obtain ⟨⟨n1,_⟩,_⟩:=Qg H.nd;obtain ⟨b,i,rs,row,G,ha,hbF,hbG,hb,hrow,hel,hGF,hGn,_,put⟩:=Sli.at (lo:=lo) rplace_ok H.r1 hk n1 (λy hy=>H.ge y (by simp[hy]));obtain ⟨s1,s2,s3,b1,d1,b2,d2,b3,d3,G1,G2,G3,rfl,rfl,e1,e2,e3,g1,g2,g3⟩:=hel.form;refine ⟨b,i,s1,s2,s3,b1,d1,b2,d2,b3,d3,G1,G2,G3,ha,by rw[BA hb hrow];exact Ja rfl,by rw[BA hb hrow];rfl,by rw[BA hb hrow];rfl,e1,e2,e3,g1,g2,g3,hGn,λy hy=>⟨H.ge y (by simp[hGF y hy]),H.lt.1 y (hGF y hy),hGF y hy⟩,λh1 G p' cs' m hx hc=>?_⟩;obtain ⟨h2,F',e,r,m2,_⟩:=put h1 G 0 cs' cs' p' m (GC (by rw[hc];rfl)) hx;have hlen:(w.places.set k p').length=w.places.length:=by simp
 rw[<- hlen] at r;obtain ⟨q1,q2⟩:=H.up1 m2 r;exact ⟨h2,F',e,q1,q2⟩
end
section
variable {lo:Nat}{h:Heap}{p:Place}{b1 b2 b3:Pq}{d1 d2 d3:Nq}{G1 G2 G3:List Nat}
theorem zaa {f:Nat} (g1:RNodes false h [.sl 2 b1 p.chain.length d1] p.chain G1) (g2:RVers false h [.sl 6 b2 p.log.length d2] p.log G2) (g3:RVss false h [.sl 1 b3 p.got.length d3] p.got G3) (hpo:Ay p=true) (hc:BL p.chain (f:Int)=true)
  (nd:(G1++(G2++G3)).Nodup) (hlo:∀ y∈G1++(G2++G3),lo<=y) (hl:lo<=h.length) :
  ∃ a6 c6 h5 h6 G,Af lo 254 [.agg [.sl 2 b1 p.chain.length d1],Iv (f:Nat)] h=some (.agg [.sl 2 b1 p.chain.length d1],h5) /\
   Af lo 130 [.agg [Iv p.me,Iv p.clock,.sl 2 b1 p.chain.length d1,.sl 6 b2 p.log.length d2,.sl 1 b3 p.got.length d3,.bool p.fell]] h5=some (.agg ((Er p f).cs b1 d1 a6 c6 b3 d3),h6) /\
   RPlace false h6 ((Er p f).cs b1 d1 a6 c6 b3 d3) (Er p f) G/\Mv h (G1++(G2++G3)) h6 G:=by
 have hn:=(Ea (By hpo) (by decide) (by decide) (by decide)).1;have hb:∀ y∈G1++(G2++G3),y<h.length:=λy hy=>by
  simp only[zc9] at hy;rcases hy with hy | hy | hy
  ·exact rnodes_ok.bd _ _ _ _ g1 y hy
  ·exact rvers_ok.bd _ _ _ _ g2 y hy
  ·exact rvss_ok.bd _ _ _ _ g3 y hy
 have hc':=hc;unfold BL at hc';rw[CP] at hc';obtain ⟨hw,hps⟩:=hc';simp only[Ai,CP,decide_eq_true_eq] at hw;rw[Bd] at hps;have hk':f<p.chain.length:=by omega
 rw[KM hk',CP,decide_eq_true_eq] at hps;have nd':=nd;rw[zda,zda] at nd';obtain ⟨nd1,⟨nd2,nd3,Qg⟩,nd5⟩:=nd';obtain ⟨h5,F5,e5,r5,m5⟩:=VB (lo:=lo) g1 (by omega) hps.1 nd1 (λy hy=>hlo y (by simp[hy])) hl hn.1 (Ux hpo);have g25:=m5.keep rvers_ok g2 λy hy hm=>nd5 y hm y (by simp[hy]) rfl;have ht:=QJ (Tp (k:=f) (By hpo)) (by decide) (by decide) (by decide);rw[<- Jc (k:=f)] at r5;have d1':=(Q0 m5 (Mv.refl nd2) nd hb).2.1;obtain ⟨a6,c6,h6,F6,e6,r6,m6⟩:=Q9 (lo:=lo) (p:=JQ p f) (a3:=b3) (c3:=d3) r5 g25 (by show 0<(FK _ _).length;rw[Jc];omega) ht d1' nd2 (λy hy=>hlo y (by simp[hy])) (zc8 hl m5.le);have hcs:(JQ p f).cs b1 d1 b2 d2 b3 d3 = [Iv p.me,Iv p.clock,.sl 2 b1 p.chain.length d1,.sl 6 b2 p.log.length d2,.sl 1 b3 p.got.length d3,.bool p.fell]:=by simp only[Place.cs,JQ,Jc]
 rw[hcs] at e6;obtain ⟨m7,x1,x2,x3⟩:=Q0 m5 m6 nd hb;have hx:Er p (f:Int)=BW (JQ p f):=by unfold Er;rw[hc,cond_true,Bd]
 rw[hx];exact ⟨a6,c6,h5,h6,F5++(F6++G3),e5,e6,⟨_,_,_,F5,F6,G3,rfl,rfl,m6.keep rnodes_ok r5 x1,r6,m6.keep rvss_ok (m5.keep rvss_ok g3 x2) x3⟩,m7⟩
theorem zaD {f:Nat} (g1:RNodes false h [.sl 2 b1 p.chain.length d1] p.chain G1) (g2:RVers false h [.sl 6 b2 p.log.length d2] p.log G2) (g3:RVss false h [.sl 1 b3 p.got.length d3] p.got G3) (hpo:Ay p=true) (hc:CD p (f:Int)=true)
  (nd:(G1++(G2++G3)).Nodup) (hlo:∀ y∈G1++(G2++G3),lo<=y) (hl:lo<=h.length) :
  ∃ a5 c5 a6 c6 h5 h6 G,Af lo 256 [.agg [.sl 2 b1 p.chain.length d1],Iv (f:Nat)] h=some (.agg [.sl 2 a5 (Ce p.chain f).length c5],h5) /\
   Af lo 130 [.agg [Iv p.me,Iv p.clock,.sl 2 a5 (Ce p.chain f).length c5,.sl 6 b2 p.log.length d2,.sl 1 b3 p.got.length d3,.bool true]] h5=some (.agg ((Dz p f).cs a5 c5 a6 c6 b3 d3),h6) /\
   RPlace false h6 ((Dz p f).cs a5 c5 a6 c6 b3 d3) (Dz p f) G/\Mv h (G1++(G2++G3)) h6 G:=by
 have hn:=(Ea (By hpo) (by decide) (by decide) (by decide)).1;have hb:∀ y∈G1++(G2++G3),y<h.length:=λy hy=>by
  simp only[zc9] at hy;rcases hy with hy | hy | hy
  ·exact rnodes_ok.bd _ _ _ _ g1 y hy
  ·exact rvers_ok.bd _ _ _ _ g2 y hy
  ·exact rvss_ok.bd _ _ _ _ g3 y hy
 have hc':=hc;unfold CD De at hc';simp only[CP,Ai,decide_eq_true_eq] at hc';obtain ⟨hfl,hw,hl1⟩:=hc';have hk':f<p.chain.length:=by omega
 have nd':=nd;rw[zda,zda] at nd';obtain ⟨nd1,⟨nd2,nd3,Qg⟩,nd5⟩:=nd';obtain ⟨a5,c5,h5,F5,e5,r5,m5⟩:=VE (lo:=lo) g1 hk' hl1 (Zg (AO hpo).2.2.2.1 (by omega)) nd1 (λy hy=>hlo y (by simp[hy])) hl hn.1.1 (λx hx=>(Ux hpo x hx).1);have g25:=m5.keep rvers_ok g2 λy hy hm=>nd5 y hm y (by simp[hy]) rfl;have ht:=QJ (Tq (k:=f) (By hpo)) (by decide) (by decide) (by decide);have d1':=(Q0 m5 (Mv.refl nd2) nd hb).2.1;obtain ⟨a6,c6,h6,F6,e6,r6,m6⟩:=Q9 (lo:=lo) (p:=MG p f) (a3:=b3) (c3:=d3) r5 g25 (by show 0<(Ce _ _).length;rw[Kx hk' hl1];omega) ht d1' nd2 (λy hy=>hlo y (by simp[hy])) (zc8 hl m5.le);have hcs:(MG p f).cs a5 c5 b2 d2 b3 d3 = [Iv p.me,Iv p.clock,.sl 2 a5 (Ce p.chain f).length c5,.sl 6 b2 p.log.length d2,.sl 1 b3 p.got.length d3,.bool true]:=rfl;rw[hcs] at e6;obtain ⟨m7,x1,x2,x3⟩:=Q0 m5 m6 nd hb;have hx:Dz p (f:Int)=BW (MG p f):=by unfold Dz;rw[hc,cond_true,Bd]
 rw[hx];exact ⟨a5,c5,a6,c6,h5,h6,F5++(F6++G3),e5,e6,⟨_,_,_,F5,F6,G3,rfl,rfl,m6.keep rnodes_ok r5 x1,r6,m6.keep rvss_ok (m5.keep rvss_ok g3 x2) x3⟩,m7⟩
theorem zap (g1:RNodes false h [.sl 2 b1 p.chain.length d1] p.chain G1) (g2:RVers false h [.sl 6 b2 p.log.length d2] p.log G2) (g3:RVss false h [.sl 1 b3 p.got.length d3] p.got G3) (hpo:Ay p=true) (hc:Ec p.chain=true)
  (nd:(G1++(G2++G3)).Nodup) (hlo:∀ y∈G1++(G2++G3),lo<=y) (hl:lo<=h.length) :
  ∃ a5 c5 h5 G,Af lo 257 [.agg [.sl 2 b1 p.chain.length d1]] h=some (.agg [.sl 2 a5 (I0 p.chain).length c5],h5) /\
   RPlace false h5 ((Lc p).cs a5 c5 b2 d2 b3 d3) (Lc p) G/\Mv h (G1++(G2++G3)) h5 G:=by
 have hn:=(Ea (By hpo) (by decide) (by decide) (by decide)).1;have hb:∀ y∈G1++(G2++G3),y<h.length:=λy hy=>by
  simp only[zc9] at hy;rcases hy with hy | hy | hy
  ·exact rnodes_ok.bd _ _ _ _ g1 y hy
  ·exact rvers_ok.bd _ _ _ _ g2 y hy
  ·exact rvss_ok.bd _ _ _ _ g3 y hy
 have h0:=Dk hpo;have nd':=nd;rw[zda,zda] at nd';obtain ⟨nd1,⟨nd2,nd3,Qg⟩,nd5⟩:=nd';obtain ⟨a5,c5,h5,F5,e5,r5,m5⟩:=VD (lo:=lo) g1 h0 hn.1 nd1 (λy hy=>hlo y (by simp[hy])) hl;have hj:I0 p.chain=JT p.chain:=by unfold I0;rw[hc];rfl
 have hjl:(JT p.chain).length=p.chain.length+1:=by rw[GF h0];simp
 obtain ⟨m7,x1,x2,x3⟩:=Q0 m5 (Mv.refl nd2) nd hb;rw[<- hjl,<- hj] at e5 r5;refine ⟨a5,c5,h5,F5++(G2++G3),e5,⟨_,_,_,F5,G2,G3,rfl,rfl,r5,m5.keep rvers_ok g2 λy hy hm=>nd5 y hm y (by simp[hy]) rfl,m5.keep rvss_ok g3 x2⟩,m7⟩
end


variable {p:Place}
structure Fits (w:World):Prop where
 ok:Wd w
theorem Good.fits {w:World} (hg:Good w):Fits w:=⟨hg.ok⟩
section
variable {lo:Nat}{h h':Heap}{w:World}{a1 a2 a3 a4 a:Pq}{c1 c2 c3 c4 c:Nq}{F1 F2 F3 F4:List Nat}
theorem X8 {k:Nat}:(setP w k p).cs a1 c1 a2 c2 a3 c3 a4 c4=w.cs a1 c1 a2 c2 a3 c3 a4 c4:=by simp only[World.cs,setP,zdK]
theorem Fits.at (hg:Fits w) {k:Nat} (hk:k<w.places.length):Ay w.places[k]=true/\w.places[k].me=(k:Int)/\True:=by have:=hg.ok.place k _ (Dj hk);exact ⟨this.2,this.1,trivial⟩
theorem ZW {f:Nat}{b1 b2 b3:Pq}{d1 d2 d3:Nq}{G1 G2 G3:List Nat} (g1:RNodes false h [.sl 2 b1 p.chain.length d1] p.chain G1) (g2:RVers false h [.sl 6 b2 p.log.length d2] p.log G2) (g3:RVss false h [.sl 1 b3 p.got.length d3] p.got G3) (hpo:Ay p=true) (hc:Cn p (f:Int)=true)
  (nd:(G1++(G2++G3)).Nodup) (hlo:∀ y∈G1++(G2++G3),lo<=y) (hl:lo<=h.length) :
  ∃ a1' c1' a2' c2' a3' c3' h' G,Af lo 259 [.agg (p.cs b1 d1 b2 d2 b3 d3),Iv (f:Nat)] h=some (.agg ((Dy p (f:Int)).cs a1' c1' a2' c2' a3' c3'),h')/\RPlace false h' ((Dy p (f:Int)).cs a1' c1' a2' c2' a3' c3') (Dy p (f:Int)) G/\Mv h (G1++(G2++G3)) h' G:=by
 have hn:=(Ea (By hpo) (by decide) (by decide) (by decide)).1;have hx:Dy p (f:Int)=Mx p f:=by unfold Dy;rw[hc,cond_true,Bd]
 unfold Cn at hc;rw[CP,Bd] at hc;obtain ⟨hw,ht⟩:=hc;simp only[Ai,CP,decide_eq_true_eq] at hw;have h3:=(AO hpo).2.2.1;obtain ⟨a2',c2',h',F',e,⟨_,_,_,_,_,_,ecs,r⟩,m⟩:=VA (lo:=lo) (f:=f) g1 g2 g3 hpo (by omega) hn ht nd hlo hl;rw[hx];exact ⟨_,_,_,_,_,_,h',F',e,r,m⟩
theorem Um {e:Event} (H:WR lo h w a1 c1 a2 c2 a3 c3 a4 c4 F1 F2 F3 F4) (hg:Fits w) :
  ∃ cs' h' F',Af lo 185 [.agg (w.cs a1 c1 a2 c2 a3 c3 a4 c4),.agg e.cs] h=some (.tup [.agg cs',.bool (FY w e).isSome],h')/\Qn lo h' cs' ((FY w e).getD w) F'/\Mv h (F1++(F2++(F3++F4))) h' F'/\((FY w e)=none->cs'=w.cs a1 c1 a2 c2 a3 c3 a4 c4):=by
 obtain ⟨kind,at',num,key,text,gone⟩:=e;suffices hk:∃ cs' h' F',_=some (V.tup [.agg cs',.bool (FY w ⟨kind,at',num,key,text,gone⟩).isSome],h')/\Qn lo h' cs' ((FY w ⟨kind,at',num,key,text,gone⟩).getD w) F'/\Mv h (F1++(F2++(F3++F4))) h' F'/\((FY w ⟨kind,at',num,key,text,gone⟩)=none->cs'=w.cs a1 c1 a2 c2 a3 c3 a4 c4) from by obtain ⟨cs',h',F',e,hr⟩:=hk;exact ⟨cs',h',F',Sd e,hr⟩
 rw[Ca,Ac,At];unfold FY;cases hat:Ai at' 0 2 with
 | false =>rw[Ax];exact ⟨_,h,_,rfl,H.at,Mv.refl H.nd,λ_=>rfl⟩
 | true =>
 simp only[Ai,CP,decide_eq_true_eq] at hat;obtain ⟨k,rfl⟩:∃ k:Nat,at'=(k:Int):=⟨at'.toNat,by omega⟩;have hk:k<w.places.length:=by have:=hg.ok.p3;omega
 obtain ⟨hpo,hme,hro⟩:=hg.at hk;have hn:=(Ea (By hpo) (by decide) (by decide) (by decide)).1;obtain ⟨b,i,s1,s2,s3,b1,d1,b2,d2,b3,d3,G1,G2,G3,rfl,hld,_,_,e1,e2,e3,g1,g2,g3,nd,hF,put⟩:=H.place hk;have hFlo:∀ y∈G1++(G2++G3),lo<=y:=λy hy=>(hF y hy).1
 rw[Ao,Ae hk,Ad,Bd,hld,Ad,Aa,Ab,Aa,Ab,Aa,e1,Aa,e2,Aa,e3,Aa,AL,Ah,cond_true,Dj hk];simp only[];generalize hp:w.places[k]=p at hpo hme hro hn hld e1 e2 e3 g1 g2 g3 put;have done:∀ (h1:Heap) (G:List Nat) (p':Place) (cs':List V),Mv h (G1++(G2++G3)) h1 G->RPlace false h1 cs' p' G->cs'.length=6 ->
   ∃ h2 F',st lo h1 b (i+k) 0 cs'=some h2/\Qn lo h2 (w.cs (some (b,i)) c1 a2 c2 a3 c3 a4 c4) (setP w k p') F'/\Mv h (F1++(F2++(F3++F4))) h2 F':=λh1 G p' cs' m r hc=>by
  obtain ⟨h2,F1',e,q,m2⟩:=put h1 G p' cs' m r hc;refine ⟨h2,_,e,?_,m2⟩;rw[<- X8 (k:=k) (p:=p')];exact q.at
 have hsame:setP w k p=w:=by unfold setP;rw[<- hp,zet]
 obtain ⟨h9,F9,e9,W9,m9⟩:=done h _ p (p.cs b1 d1 b2 d2 b3 d3) (Mv.refl nd) ⟨_,_,_,G1,G2,G3,rfl,rfl,g1,g2,g3⟩ rfl;rw[hsame] at W9;simp only[Place.cs] at e9;cases h6:kind==6 with
 | true =>
  rw[Ao,WX g1 hn.1.1,Ac,At];cases hc:BL p.chain num with
  | false =>
   have hs:DH p ⟨kind,(k:Nat),num,key,text,gone⟩=none:=by simp only[DH,h6,hc,cond_true,cond_false]
   rw[Ax,Ae hk,Ad,e9,Ad,hs];exact ⟨_,h9,F9,rfl,W9,m9,λ_=>rfl⟩
  | true =>
   obtain ⟨f,rfl⟩:∃ f:Nat,num=(f:Int):=by unfold BL at hc;simp only[Ai,CP,decide_eq_true_eq] at hc;exact ⟨num.toNat,by omega⟩
   have hs:DH p ⟨kind,(k:Nat),(f:Nat),key,text,gone⟩=some (Er p f):=by simp only[DH,h6,hc,cond_true]
   obtain ⟨a6,c6,h5,h6',G,e5,e6,r6,m6⟩:=zaa (lo:=lo) g1 g2 g3 hpo hc nd hFlo H.hl;obtain ⟨h8,F8,e8,W8,m8⟩:=done h6' G _ _ m6 r6 rfl;simp only[Place.cs] at e6 e8;rw[Ao,e5,Ac,AR,Aa,Ag,Ah,e6,Ac,AR,Aa,Ab,Aa,Ab,Aa,Ag,Aa,Ag,Aa,Ag,Aa,AL,Ah,Ae hk,Ad,e8,Ad,hs];exact ⟨_,h8,F8,rfl,W8,m8,λg=>by first | cases g | (simp at g)⟩
 | false =>
 rw[Ax];cases h7:kind==7 with
 | true =>
  have ec:=Rc (lo:=lo) (h:=h) (p:=p) (k:=num) (a1:=b1) (c1:=d1) (a2:=b2) (c2:=d2) (a3:=b3) (c3:=d3) hn.1.1;simp only[Place.cs] at ec;rw[Ao,ec,Ac,At];cases hc:CD p num with
  | false =>
   have hs:DH p ⟨kind,(k:Nat),num,key,text,gone⟩=none:=by simp only[DH,h6,h7,hc,cond_true,cond_false]
   rw[Ax,Ae hk,Ad,e9,Ad,hs];exact ⟨_,h9,F9,rfl,W9,m9,λ_=>rfl⟩
  | true =>
   obtain ⟨f,rfl⟩:∃ f:Nat,num=(f:Int):=by unfold CD De at hc;simp only[Ai,CP,decide_eq_true_eq] at hc;exact ⟨num.toNat,by omega⟩
   have hs:DH p ⟨kind,(k:Nat),(f:Nat),key,text,gone⟩=some (Dz p f):=by simp only[DH,h6,h7,hc,cond_true,cond_false]
   obtain ⟨a5,c5,a6,c6,h5,h6',G,e5,e6,r6,m6⟩:=zaD (lo:=lo) g1 g2 g3 hpo hc nd hFlo H.hl;obtain ⟨h8,F8,e8,W8,m8⟩:=done h6' G _ _ m6 r6 rfl;simp only[Place.cs] at e6 e8;rw[Ao,e5,Ac,AR,Aa,Ag,Ah,e6,Ac,AR,Aa,Ab,Aa,Ab,Aa,Ag,Aa,Ag,Aa,Ag,Aa,AL,Ah,Ae hk,Ad,e8,Ad,hs];exact ⟨_,h8,F8,rfl,W8,m8,λg=>by first | cases g | (simp at g)⟩
 | false =>
 rw[Ax];cases h8:kind==8 with
 | true =>
  rw[Ao];cases hc:Ec p.chain with
  | false =>
   have hs:DH p ⟨kind,(k:Nat),num,key,text,gone⟩=none:=by simp only[DH,h6,h7,h8,hc,cond_true,cond_false]
   unfold Ec at hc;rw[decide_eq_false_iff_not] at hc;rw[Ak hc,Ae hk,Ad,e9,Ad,hs];exact ⟨_,h9,F9,rfl,W9,m9,λ_=>rfl⟩
  | true =>
   have hs:DH p ⟨kind,(k:Nat),num,key,text,gone⟩=some (Lc p):=by simp only[DH,h6,h7,h8,hc,cond_true,cond_false]
   obtain ⟨a5,c5,h5,G,e5,r6,m6⟩:=zap (lo:=lo) g1 g2 g3 hpo hc nd hFlo H.hl;obtain ⟨h8',F8,e8,W8,m8⟩:=done h5 G _ _ m6 r6 rfl;unfold Ec at hc;rw[decide_eq_true_eq] at hc;simp only[Place.cs,Lc] at e8;rw[Al hc,e5,Ac,AR,Aa,Ag,Ah,Ae hk,Ad,e8,Ad,hs];exact ⟨_,h8',F8,rfl,W8,m8,λg=>by first | cases g | (simp at g)⟩
 | false =>
 rw[Ax,Ca,Ac,At];cases hw:Ai num 0 2 with
 | false =>
  have hs:DH p ⟨kind,(k:Nat),num,key,text,gone⟩=none:=by simp only[DH,h6,h7,h8,Cn,hw,zdY,cond_true,cond_false]
  rw[Ax,Ae hk,Ad,e9,Ad,hs];exact ⟨_,h9,F9,rfl,W9,m9,λ_=>rfl⟩
 | true =>
  have hw':=hw;simp only[Ai,CP,decide_eq_true_eq] at hw';obtain ⟨f,rfl⟩:∃ f:Nat,num=(f:Int):=⟨num.toNat,by omega⟩;have h3:=(AO hpo).2.2.1;have ec:=Rb (lo:=lo) (f:=f) (a2:=b2) (c2:=d2) g1 g3 hpo (by omega) hn;simp only[Place.cs] at ec;rw[Ao,ec,Ac,At];cases hc:Kk p f with
  | false =>
   have hs:DH p ⟨kind,(k:Nat),(f:Nat),key,text,gone⟩=none:=by simp only[DH,h6,h7,h8,Cn,hw,Bd,hc,zee,cond_true,cond_false]
   rw[Ax,Ae hk,Ad,e9,Ad,hs];exact ⟨_,h9,F9,rfl,W9,m9,λ_=>rfl⟩
  | true =>
   have hct:Cn p (f:Int)=true:=by unfold Cn;rw[hw,Bd,hc];rfl
   have hs:DH p ⟨kind,(k:Nat),(f:Nat),key,text,gone⟩=some (Dy p f):=by simp only[DH,h6,h7,h8,hct,cond_true,cond_false]
   obtain ⟨x1,y1,x2,y2,x3,y3,h5,G,e5,r6,m6⟩:=ZW (lo:=lo) g1 g2 g3 hpo hct nd hFlo H.hl;obtain ⟨h8',F8,e8,W8,m8⟩:=done h5 G _ _ m6 r6 rfl;simp only[Place.cs] at e5 e8;rw[Ao,e5,Ac,AR,Aa,Ab,Aa,Ab,Aa,Ag,Aa,Ag,Aa,Ag,Aa,AL,Ah,Ae hk,Ad,e8,Ad,hs];exact ⟨_,h8',F8,rfl,W8,m8,λg=>by first | cases g | (simp at g)⟩
end


variable {α:Type}{El:Rel α}{h:Heap}{a:Pq}{c:Nq}{F:List Nat}{l:List α}{xs:List (List V)}{Fs:List (List Nat)}
theorem ZC (ok:El.Ok) {lo R ee bytes:Nat}{k:Nat} (hs:Sli false R ee El h [.sl R a l.length c] l F) (hk:k<l.length) (hnd:F.Nodup) (hlo:∀ b∈F,lo<=b) (hl:lo<=h.length) (hby:0<bytes) (hn:l.length*bytes<=140737488355328) :
  ∃ a' c' h' F',(∀ {T:Type} (K:V->Heap->Option T),(AA a l.length c none (some (Iv (k:Nat))) none λa_0 n_1 c_2=>Av R (h ++ [.rows R ee false []]) (.sl R a_0 n_1 c_2) λx_3=>Df lo ee R bytes (.sl R (some ((List.length h),0)) 0 (some 0)) x_3 (h ++ [.rows R ee false []]) λv_4 h_5=>eS R (v_4) λa_6 n_7 c_8 =>
    AA a l.length c (some (Iv ((k+1:Nat):Int))) none none λa_9 n_10 c_11=>Av R h_5 (.sl R a_9 n_10 c_11) λx_12=>Df lo ee R bytes (.sl R a_6 n_7 c_8) x_12 h_5 K)=K (.sl R a' (l.eraseIdx k).length c') h') /\
   Sli false R ee El h' [.sl R a' (l.eraseIdx k).length c'] (l.eraseIdx k) F'/\Mv h F h' F':=by
 have hbd:=(Sli.ok ok).bd _ _ _ _ hs;obtain ⟨Fs,nF,sF,own,cuts⟩:=Sli.parts hs hnd;obtain ⟨rP,_,eP,_,kP,_⟩:=cuts k (by omega);obtain ⟨_,rQ,_,eQ,_,kQ⟩:=cuts (k+1) (by omega);obtain ⟨nP,_,dPQ⟩:=E1 (k:=k) nF;obtain ⟨_,nQ,_⟩:=E1 (k:=k+1) nF;have inP:∀ y∈(Fs.take k).flatten,y∈Fs.flatten:=λy hy=>by rw[<- zdG k Fs,zdJ];simp[hy]
 have inQ:∀ y∈(Fs.drop (k+1)).flatten,y∈(Fs.drop k).flatten:=λy hy=>by
  have:Fs.drop (k+1)=(Fs.drop k).drop 1:=by rw[zey]
  rw[this] at hy;rw[<- zdG 1 (Fs.drop k),zdJ];exact zc9.2 (.inr hy)
 have inQ':∀ y∈(Fs.drop (k+1)).flatten,y∈Fs.flatten:=λy hy=>by rw[<- zdG k Fs,zdJ];simp[inQ y hy]
 have hFl:∀ y∈Fs.flatten,y<h.length:=λy hy=>hbd y (sF y hy);have htl:(l.take k).length=k:=by rw[zdr];omega
 have hdl:(l.drop (k+1)).length=l.length - (k+1):=by rw[zeb]
 obtain ⟨a3,c3,h3,F3,e3,r3,l3,fr3,sub3,nd3⟩:=Na (lo:=lo) (R:=R) (e:=ee) (bytes:=bytes) ok eP nP (λy hy=>hFl y (inP y hy)) hby (by rw[htl];exact zc8 (zdF _ (by omega)) hn) hl;have hQ3:∀ y∈(Fs.drop (k+1)).flatten,y∉F3/\y<h3.length:=λy hy=>by
  have:=hFl y (inQ' y hy);refine ⟨λhm3=>?_,by omega⟩;rcases sub3 y hm3 with g | g
  ·exact dPQ y g y (inQ y hy) rfl
  ·omega
 have F3b:∀ y∈F3,y<h3.length:=(Sli.ok ok).bd _ _ _ _ r3;obtain ⟨a7,c7,h7,F7,e7,r7,l7,fr7,sub7,nd7⟩:=L7 (lo:=lo) (bytes:=bytes) ok.fr r3 (xs:=rQ) (ys:=l.drop (k+1)) (Gs:=Fs.drop (k+1)) (eQ.fr ok.fr λy hy=>fr3 y (hFl y (inQ' y hy))) hby (by rw[htl,hdl];exact zc8 (zdF _ (by omega)) hn) (λy hy=>by
   rcases sub3 y hy with g | g
   ·exact hlo y (sF y (inP y g))
   ·omega) (by omega) (by
   rw[zda];refine ⟨nd3,nQ,λx hx y hy e=>?_⟩;subst e;exact (hQ3 x hy).1 hx) (λy hy=>by
   rcases zc9.1 hy with hy | hy
   ·exact F3b y hy
   ·exact (hQ3 y hy).2)
 have hel:(l.take k).length+(l.drop (k+1)).length=(l.eraseIdx k).length:=by rw[zdM hk,htl,hdl];omega
 have her:l.take k++l.drop (k+1)=l.eraseIdx k:=(List.eraseIdx_eq_take_drop_succ l k).symm;rw[hel] at e7 r7;rw[her] at r7;have mm0:Mv h [] (h ++ [.rows R ee false []]) []:=Mv.snoc;refine ⟨a7,c7,h7,F7,λK=>?_,r7,⟨by omega,λy hy hyF=>?_,nd7,λy hy=>?_⟩⟩
 ·rw[kP _ (λb i e=>mm0.fr b (hbd b (own b i e).1) (by simp)),e3,Ag,kQ _ (λb i e=>fr3 b (hbd b (own b i e).1)),e7]
 ·have y3:y∉F3:=λhm3=>by
   rcases sub3 y hm3 with g | g
   ·exact hyF (sF y (inP y g))
   ·omega
  rw[fr7 y (by omega) y3,fr3 y hy]
 ·rcases sub7 y hy with g | g
  ·rcases zc9.1 g with g | g
   ·rcases sub3 y g with g | g
    ·exact .inl (sF y (inP y g))
    ·exact .inr (by omega)
   ·exact .inl (sF y (inQ' y g))
  ·exact .inr (by omega)
theorem Pp {h:Heap}:∀ {xs:List (List V)},EAll (flat id) h xs xs (xs.map λ_ => [])
 | []=>trivial
 | x :: xs=>⟨⟨rfl,rfl⟩,Pp⟩
theorem RZ {rows:List (List V)} (hx:EAll (flat id) h rows xs Fs):rows=xs/\Fs.flatten = []:=by have:=hx.of_flat;simpa using this
theorem Sli.bare {R e n:Nat} (hs:Sli false R e El h [.sl R a n c] l F) :
  ∃ xs Fs F0,Sli false R e (flat id) h [.sl R a n c] xs F0/\EAll El h xs l Fs/\F=F0++Fs.flatten:=by
 obtain ⟨R1,a1,c1,e1,g⟩:=hs;injection e1 with e1 _;injection e1 with e0 e2 e4 e3;subst e2;subst e3;subst e4;cases a with
 | none =>obtain ⟨rfl,rfl,rfl⟩:=g;exact ⟨[],[],[],⟨R1,none,some 0,by rw[e0];rfl,rfl,rfl,rfl⟩,trivial,rfl⟩
 | some p =>
  obtain ⟨b,i⟩:=p;obtain ⟨_,rs,Fs,g1,g2,g3,g4,g5,rfl⟩:=g;have hlen:((rs.drop i).take l.length).length=l.length:=by rw[zdr,zeb];omega
  refine ⟨(rs.drop i).take l.length,Fs,[b],⟨R,some (b,i),c,by rw[hlen],rfl,rs,_,g1,by rw[hlen];exact g2,by rw[hlen];exact g3,g4,?_,by rw[(RZ (Pp (h:=h) (xs:=(rs.drop i).take l.length))).2]⟩,g5,rfl⟩;rw[hlen];exact Pp
theorem Sli.cook {R e n:Nat}{F0:List Nat} (hs:Sli false R e (flat id) h [.sl R a n c] xs F0) (hx:EAll El h xs l Fs) :
  Sli false R e El h [.sl R a n c] l (F0++Fs.flatten):=by
 have hl:=hx.len;obtain ⟨R1,a1,c1,e1,g⟩:=hs;injection e1 with e1 _;injection e1 with e0 e2 e4 e3;subst e2;subst e3;subst e4;cases a with
 | none =>obtain ⟨rfl,rfl,rfl⟩:=g;have:l = []:=zdh hl.1.symm;subst this;have:Fs = []:=zdh hl.2;subst this;exact ⟨R1,none,some 0,by rw[e0];rfl,rfl,rfl,rfl⟩
 | some p =>obtain ⟨b,i⟩:=p;obtain ⟨_,rs,Gs,g1,g2,g3,g4,g5,rfl⟩:=g;obtain ⟨q1,q2⟩:=RZ g5;refine ⟨R,some (b,i),c,by rw[hl.1],rfl,rs,Fs,g1,by rw[<- hl.1];exact g2,by rw[<- hl.1];exact g3,g4,?_,by rw[q2];rfl⟩;rw[<- hl.1,q1];exact hx


variable {f:Frame}
section
variable {lo:Nat}{h h':Heap}{w:World}{a1 a2 a3 a4 a:Pq}{c1 c2 c3 c4 c:Nq}{F1 F2 F3 F4:List Nat}
theorem PX (hg:Fits w) (hf:J5 w.places f):thin f.ver/\Cl f.ver=true/\f.ver.tag.place=f.fro:=by
 obtain ⟨h1,h2,h3,h4,h5⟩:=hf;have hk:f.fro.toNat<w.places.length:=by have:=hg.ok.p3;omega
 obtain ⟨hpo,hme,_⟩:=hg.at hk;rw[Je hk] at h5;obtain ⟨hi,h5⟩:=EA h5;obtain ⟨_,hl⟩:=Fo (AO hpo).2.2.2.2.2.1;obtain ⟨g1,g2,_⟩:=hl _ hi;rw[h5] at g1 g2;exact ⟨L2 g1,g1,by rw[g2,hme];omega⟩
theorem Wf {b:Pq}{d:Nq}{G:List Nat} (H:WR lo h w a1 c1 a2 c2 a3 c3 a4 c4 F1 F2 F3 F4) (hg:Fits w) (hf:J5 w.places f) (hv:RTags false h [.sl 2 b f.ver.past.length d] f.ver.past G) :
  ∃ h' F',(Ap f.to w.places.length (eO a1 λw0=>eO (ld h w0.1 (w0.2+f.to.toNat) 0 6) λw0=>eC w0 λw0 p=>eI .i64 w0 λw0=>eC p λp q=>eI .i64 p λp=>eC q λq g=>eS 2 q λq i j=>eC g λg k=>eS 6 g λg m t=>eC k λk d0=>eS 1 k λk e f0=>eC d0 λd0 v0=>eBv d0 λd0=>eN v0 (Aj (Af lo 260 [.agg [Iv w0,Iv p,.sl 2 q i j,.sl 6 g m t,.sl 1 k e f0,.bool d0],Iv f.fro,Iv f.at',.agg [Iv f.ver.key,Iv f.ver.tag.time,Iv f.ver.tag.place,.sl 2 b f.ver.past.length d,.str f.ver.text,.bool f.ver.gone]] h) λw1 p=>eU w1 λw1=>eC w1 λw1 q=>eA w1 λw1=>eC w1 λw1 g=>eI .i64 w1 λw1=>eC g λg i=>eI .i64 g λg=>eC i λi j=>eS 2 i λi k m=>eC j λj t=>eS 6 j λj d e=>eC t λt f0=>eS 1 t λt v0 v1=>eC f0 λf0 v2=>eBv f0 λf0=>eN v2 (eC q λq v2=>eB q (eN v2 (Ap f.to w.places.length (eO a1 λq=>eO (st lo p q.1 (q.2+f.to.toNat) 0 [Iv w1,Iv g,.sl 2 i k m,.sl 6 j d e,.sl 1 t v0 v1,.bool f0]) λw1=>some (V.tup [.agg (w.cs a1 c1 a2 c2 a3 c3 a4 c4),.bool true],w1)))) (eN v2 (some (V.tup [.agg (w.cs a1 c1 a2 c2 a3 c3 a4 c4),.bool true],p)))))))=some (V.tup [.agg (w.cs a1 c1 a2 c2 a3 c3 a4 c4),.bool true],h') /\
   Qn lo h' (w.cs a1 c1 a2 c2 a3 c3 a4 c4) (Kv w f) F'/\Mv h (F1++(F2++(F3++F4))) h' F':=by
 obtain ⟨hth,hvo,hvt⟩:=PX hg hf;obtain ⟨⟨h1,h1'⟩,⟨h2,h2'⟩,h3,h4,h5⟩:=hf;obtain ⟨fro,to,at',ver⟩:=f;simp only at *
 obtain ⟨k,rfl⟩:∃ k:Nat,to=(k:Int):=⟨to.toNat,by omega⟩;obtain ⟨j,rfl⟩:∃ j:Nat,fro=(j:Int):=⟨fro.toNat,by omega⟩;have hk:k<w.places.length:=by have:=hg.ok.p3;omega
 obtain ⟨hpo,hme,hro⟩:=hg.at hk;obtain ⟨b0,i,s1,s2,s3,b1,d1,b2,d2,b3,d3,G1,G2,G3,rfl,hld,_,_,e1,e2,e3,g1,g2,g3,nd,hF,put⟩:=H.place hk;have hx:Kv w ⟨(j:Int),(k:Int),at',ver⟩=setP w k (D9 w.places[k] j at' ver):=by unfold Kv;simp only[Bd,Dj hk]
 rw[hx];rw[Ae hk,Ad,Bd,hld,Ad,Aa,Ab,Aa,Ab,Aa,e1,Aa,e2,Aa,e3,Aa,AL,Ah];generalize hp:w.places[k]=p at hpo hme hro hld e1 e2 e3 g1 g2 g3 put;have ht:=By hpo;have h3g:=(AO hpo).2.2.1;have nd':=nd;rw[zda,zda] at nd';obtain ⟨nd1,⟨nd2,nd3,Qg⟩,nd5⟩:=nd';have hj:j<p.got.length:=by omega
 obtain ⟨h5',F5,e5,r5,m5,x5⟩:=Un (lo:=lo) (at':=at') (a1:=b1) (c1:=d1) (a2:=b2) (c2:=d2) g3 hv hj (by have:=(ht.got.2 _ (zc7 hj)).1;omega) (by have:=hth.1;omega) nd3 (λy hy=>(hF y (by simp[hy])).1) H.hl;simp only[Place.cs,Ver.cs] at e5;have hc:EC p (j:Int) at' ver=IW p j at' ver:=by unfold EC;rw[hvo,hvt,IB,Bd];simp[Ai];omega
 have hsame:setP w k p=w:=by unfold setP;rw[<- hp,zet]
 rw[e5,Ac,HA,Aa,AR,Aa,Ab,Aa,Ab,Aa,Ag,Aa,Ag,Aa,Ag,Aa,AL,Ah,Aa,At];unfold D9;rw[hc];cases hh:IW p j at' ver with
 | false =>have:=x5 hh;subst this;rw[Ax,Ah,cond_false,hsame];exact ⟨_,_,rfl,H.at,Mv.refl H.nd⟩
 | true =>
  rw[hh,cond_true] at r5;have hb:∀ y∈G1++(G2++G3),y<h.length:=λy hy=>(hF y hy).2.1
  have mm:Mv h (G1++(G2++G3)) h5' (G1++(G2++F5)):=m5.mid Z9 nd (λy hy=>hb y (by simp only[zc9] at hy ⊢;grind)) Z9;have hcs:(IA p j ver).cs b1 d1 b2 d2 b3 d3=p.cs b1 d1 b2 d2 b3 d3:=Yl;have rr:RPlace false h5' (p.cs b1 d1 b2 d2 b3 d3) (IA p j ver) (G1++(G2++F5)):=by
   rw[<- hcs];refine ⟨_,_,_,G1,G2,F5,rfl,rfl,m5.keep rnodes_ok g1 (λy hy hm=>nd5 y hy y (by simp[hm]) rfl),m5.keep rvers_ok g2 (λy hy hm=>Qg y hy y hm rfl),?_⟩;have:(IA p j ver).got=p.got.set j (p.got[j] ++ [ver]):=by unfold IA;rw[HO hj]
   rw[this,zdK];exact r5
  obtain ⟨h6,F6,e6,q6,m6⟩:=put h5' _ _ _ mm rr rfl;simp only[Place.cs] at e6;rw[Ao,Ah,Ae hk,Ad,e6,Ad,cond_true,Bd];refine ⟨h6,_,rfl,?_,m6⟩;rw[<- X8 (k:=k) (p:=IA p j ver)];exact q6.at
def VU (w:World) (e:Event):Option World:=bif e.kind==10 then NI w e else IJ w e
theorem WS {e:Event} (H:WR lo h w a1 c1 a2 c2 a3 c3 a4 c4 F1 F2 F3 F4) (hg:Fits w) :
  ∃ cs' h' F',Af lo 186 [.agg (w.cs a1 c1 a2 c2 a3 c3 a4 c4),.agg e.cs] h=some (.tup [.agg cs',.bool (VU w e).isSome],h')/\Qn lo h' cs' ((VU w e).getD w) F'/\Mv h (F1++(F2++(F3++F4))) h' F'/\((VU w e)=none->cs'=w.cs a1 c1 a2 c2 a3 c3 a4 c4):=by
 obtain ⟨kind,at',num,key,text,gone⟩:=e;suffices hk:∃ cs' h' F',_=some (V.tup [.agg cs',.bool (VU w ⟨kind,at',num,key,text,gone⟩).isSome],h')/\Qn lo h' cs' ((VU w ⟨kind,at',num,key,text,gone⟩).getD w) F'/\Mv h (F1++(F2++(F3++F4))) h' F'/\((VU w ⟨kind,at',num,key,text,gone⟩)=none->cs'=w.cs a1 c1 a2 c2 a3 c3 a4 c4) from by obtain ⟨cs',h',F',e,hr⟩:=hk;exact ⟨cs',h',F',U8 e,hr⟩
 have hp3:=hg.ok.p3;have hn12:=hg.ok.n12;unfold VU;cases h10:kind==10 with
 | true =>
  rw[cond_true,Ao,Ca,Ac,At];unfold NI;cases x1:Ai at' 0 2 with
  | false =>rw[zdY,cond_false,Ax];exact ⟨_,h,_,rfl,H.at,Mv.refl H.nd,λ_=>rfl⟩
  | true =>
  rw[zdk,Ao,Ca,Ac,At];cases x2:Ai num 0 2 with
  | false =>rw[zdY,cond_false,Ax];exact ⟨_,h,_,rfl,H.at,Mv.refl H.nd,λ_=>rfl⟩
  | true =>
  rw[zdk,Ao];cases x3:at'==num with
  | true =>rw[zdT,zdY,cond_false,Ao];exact ⟨_,h,_,rfl,H.at,Mv.refl H.nd,λ_=>rfl⟩
  | false =>
  rw[zd3,zdk,Ax];by_cases x4:(w.net.length:Int)<12
  ·simp only[Ai,CP,decide_eq_true_eq] at x1;obtain ⟨k,rfl⟩:∃ k:Nat,at'=(k:Int):=⟨at'.toNat,by omega⟩;have hk:k<w.places.length:=by omega
   obtain ⟨hpo,hme,hro⟩:=hg.at hk;obtain ⟨b0,i,s1,s2,s3,b1,d1,b2,d2,b3,d3,G1,G2,G3,rfl,hld,hc2,hc3,e1,e2,e3,g1,g2,g3,nd,hF,put⟩:=H.place hk;have hll:=(By hpo).log.1;rw[decide_eq_true x4,zdk,Ak (by omega),Ae hk,Ad,Bd,hc3,Ad,Aa,Ah,e2,wr (by omega) (by omega),Ca,Ac,At,Je hk];generalize hp:w.places[k]=p at hpo hme hro hld e1 e2 e3 g1 g2 g3 put hll;cases x5:Ai key 0 ((p.log.length:Int) - 1) with
   | false =>rw[cond_false,Ax];exact ⟨_,h,_,rfl,H.at,Mv.refl H.nd,λ_=>rfl⟩
   | true =>
   simp only[Ai,CP,decide_eq_true_eq] at x5;obtain ⟨m,rfl⟩:∃ m:Nat,key=(m:Int):=⟨key.toNat,by omega⟩;have hm:m<p.log.length:=by omega
   obtain ⟨o,s,b,d,G,ha,ho,es,hpv,hGF⟩:=g2.get hm;have hth:=(By hpo).log.2 _ (zc7 hm);obtain ⟨a5,c5,h5,F5,e5,r5,m5⟩:=Em (lo:=lo) (v:=p.log[m]) hpv H.hl (by have:=hth.1;omega);have e5':=e5;simp only[Ver.cs] at e5';rw[cond_true,Ao,Ae hk,Ad,hc3,Ad,Aa,Ah,e2,Ae hm,ha,Ad,Bd,ho,Ad,Aa,Ab,Aa,Ab,Aa,Ab,Aa,es,Aa,BG,Aa,AL,Ah,e5',Ac,AR,Aa,Ab,Aa,Ab,Aa,Ab,Aa,Ag,Aa,BG,Aa,AL,Ah,A7,Dj hm];obtain ⟨⟨n1,n2,n3,n4⟩,_⟩:=Qg H.nd;obtain ⟨a6,c6,h6,F6,e6,r6,m6⟩:=Dv (lo:=lo) (bytes:=96) (e:=123) rframe_ok H.r3 (row := Iv (k:Nat) :: Iv num :: Iv (m:Nat) :: p.log[m].cs a5 c5) (x:=⟨(k:Nat),num,(m:Nat),p.log[m]⟩) (G:=F5) (h1:=h5 ++ [.rows 9 123 false [Iv (k:Nat) :: Iv num :: Iv (m:Nat) :: p.log[m].cs a5 c5]])
    ⟨_,rfl,_,rfl,Mv.snoc.keep0 rtags_ok r5⟩ (m5.trans (Mv.snoc' m5.nd)) n3 (λy hy=>H.ge y (by simp[hy])) H.hl (by decide) (by omega)
   simp only[Ver.cs] at e6;rw[e6,Ag];have hnl:(w.net ++ [(⟨(k:Nat),num,(m:Nat),p.log[m]⟩:Frame)]).length=w.net.length+1:=by simp
   rw[<- hnl] at r6;obtain ⟨q,mq⟩:=H.up3 m6 r6;refine ⟨_,h6,_,?_,q.at,mq,λg=>by first | cases g | (simp at g)⟩;rw[<- hnl];rfl
  ·rw[decide_eq_false x4,zdY,cond_false,Al (by omega)];exact ⟨_,h,_,rfl,H.at,Mv.refl H.nd,λ_=>rfl⟩
 | false =>
 rw[cond_false,Ax,wr (by omega) (by omega),Ca,Ac,At];unfold IJ;cases x1:Ai at' 0 ((w.net.length:Int) - 1) with
 | false =>rw[cond_false,Ax];exact ⟨_,h,_,rfl,H.at,Mv.refl H.nd,λ_=>rfl⟩
 | true =>
 simp only[Ai,CP,decide_eq_true_eq] at x1;obtain ⟨j,rfl⟩:∃ j:Nat,at'=(j:Int):=⟨at'.toNat,by omega⟩;have hj:j<w.net.length:=by omega
 obtain ⟨⟨n1,n2,n3,n4⟩,_⟩:=Qg H.nd;obtain ⟨xs,Fs,F0,hraw,hall,rfl⟩:=H.r3.bare;have hxl:w.net.length=xs.length:=hraw.val;obtain ⟨row,Fj,hr,hFj,⟨vs,rfl,hv⟩⟩:=hall.get (Dj hj);obtain ⟨s,b,d,rfl,es,hpv⟩:=hv.form;obtain ⟨o,row',_,ha,hld,⟨rfl,_⟩,_⟩:=hraw.read (show j<xs.length by omega);have hro:xs[j]'(by omega) = Iv w.net[j].fro :: Iv w.net[j].to :: Iv w.net[j].at' :: [Iv w.net[j].ver.key,Iv w.net[j].ver.tag.time,Iv w.net[j].ver.tag.place,s,.str w.net[j].ver.text,.bool w.net[j].ver.gone]:=by rw[Dj (by omega)] at hr;injection hr
 have hfi:=hg.ok.net _ (zc7 hj);have hld9:ld h o.1 (o.2+j) 0 9=some (Iv w.net[j].fro :: Iv w.net[j].to :: Iv w.net[j].at' :: [Iv w.net[j].ver.key,Iv w.net[j].ver.tag.time,Iv w.net[j].ver.tag.place,s,.str w.net[j].ver.text,.bool w.net[j].ver.gone]):=by rw[hld,id,hro];exact Ja rfl
 rw[Ao,Ae hj,ha,Ad,Bd,hld9,Ad,Aa,Ab,Aa,Ab,Aa,Ab,Aa,Ab,Aa,Ab,Aa,Ab,Aa,es,Aa,BG,Aa,AL,Ah,cond_true,Dj hj,<- ha];simp only[];cases h13:kind==13 with
 | true =>
  have h12:(kind==12)=false:=by rw[beq_iff_eq] at h13;subst h13;rfl
  rw[Ao,h12,Ax];obtain ⟨h',F',e,W,m⟩:=Wf H hg hfi hpv;refine ⟨_,h',F',e,?_,m,λg=>by first | cases g | (simp at g)⟩;simpa using W
 | false =>
  rw[zda] at n3;obtain ⟨n5,n6,n7⟩:=n3;rw[hxl] at hraw;obtain ⟨a6,c6,h6,F6,e6,r6,m6⟩:=ZC (k:=j) (lo:=lo) (bytes:=96) DG hraw (by omega) n5 (λy hy=>H.ge y (by simp[hy])) H.hl (by decide) (by omega);rw[<- hxl] at e6;have hbd:∀ y∈F0++Fs.flatten,y<h.length:=H.lt.2.2.1;have hel:(xs.eraseIdx j).length=(w.net.eraseIdx j).length:=by rw[zdM hj,zdM (by omega)];omega
  obtain ⟨k1,k2⟩:=Kd hFj n6;have all6:=(hall.fr rframe_ok.fr λy hy=>m6.fr y (hbd y (by simp[hy])) λhm=>n7 y hm y hy rfl).erase j;have r3':=r6.cook all6;rw[hel] at r3' e6;have mm:Mv h (F0++Fs.flatten) h6 (F6++Fs.flatten):=m6.mid (.refl _) (by rw[zda];exact ⟨n5,n6,n7⟩) (λy hy=>hbd y (by simp[hy])) (.refl _);have nd6:=mm.nd;rw[zda] at nd6;have mm':Mv h (F0++Fs.flatten) h6 (F6++(Fs.eraseIdx j).flatten):=mm.lean (by
   rw[zda];exact ⟨nd6.1,k1,λx hx y hy=>nd6.2.2 x hx y (k2 y hy).1⟩) λy hy=>by
    rcases zc9.1 hy with hy | hy
    ·simp[hy]
    ·simp[(k2 y hy).1]
  obtain ⟨q,mq⟩:=H.up3 mm' r3';have hpv6:=m6.keep rtags_ok hpv λy hy hm=>n7 y hm y (Ga hFj hy) rfl;rw[show zaM false=123 from rfl] at e6;rw[Ax,Ar (by omega),e6,Ag];cases h12:kind==12 with
  | true =>rw[Ao];exact ⟨_,h6,_,rfl,q.at,mq,λg=>by first | cases g | (simp at g)⟩
  | false =>rw[Ax];have hgn:Fits (setN w (w.net.eraseIdx j)):=⟨hg.ok.netN (zc8 (zex _ _) hn12) λx hx=>hg.ok.net x (zd8 hx)⟩;obtain ⟨h',F',e,W,m⟩:=Wf (w:=setN w (w.net.eraseIdx j)) q hgn hfi hpv6;refine ⟨_,h',F',e,?_,mq.trans m,λg=>by first | cases g | (simp at g)⟩;simpa using W
end


variable {t:Tag}{l:List Tag}
section
variable {lo:Nat}{h h':Heap}{F F':List Nat}{a a':Pq}{c c':Nq}
theorem Rg {s:Tag}:Af lo 307 [.agg [Iv s.time,Iv s.place],.agg [Iv t.time,Iv t.place]] h=some (.agg [Iv (E7 s t).time,Iv (E7 s t).place],h):=by unfold E7 DI;refine Vi (h':=h) ?_;rw[Ci,Ac,At];cases FM s.time s.place t.time t.place<;>rfl
theorem L0 {k:Nat} (hk:k<l.length):Ek l k t=l.set k (E7 l[k] t):=by unfold Ek;rw[Dj hk]
theorem YM {k:Nat}:(Ek l k t).length=l.length:=by unfold Ek;split<;>simp
theorem Lu {k:Nat} (hs:RTags false h [.sl 2 a l.length c] l F) (hk:k<l.length) (hl:lo<=h.length) (hn:l.length<=1048576) :
  ∃ a' c' h' F',Af lo 289 [.agg [.sl 2 a l.length c],Iv (k:Nat),.agg [Iv t.time,Iv t.place]] h=some (.agg [.sl 2 a' l.length c'],h')/\RTags false h' [.sl 2 a' l.length c'] (Ek l k t) F'/\Mv h [] h' F':=by
 obtain ⟨a1,c1,h1,F1,e1,r1,m1⟩:=Mi (lo:=lo) (h:=h) (l:=l) hl hn;obtain ⟨b,i,rs,row,G,ha,hbF,hbG,hb,hrow,⟨rfl,rfl⟩,hGF,hGn,_,put⟩:=r1.at (lo:=lo) DG hk m1.nd (λy hy=>m1.ge hl (by simp) y hy);have hld:ld h1 b (i+k) 0 2=some [Iv l[k].time,Iv l[k].place]:=by rw[BA hb hrow];rfl
 obtain ⟨h2,F2,e2,r2,m2,_⟩:=put h1 [] 0 (E7 l[k] t).cs (E7 l[k] t).cs (E7 l[k] t) Mv.nil rfl ⟨rfl,rfl⟩;subst ha;refine ⟨some (b,i),c1,h2,F2,S9 ?_,by rw[L0 hk];exact r2,m1.trans m2⟩;simp only[Tag.cs] at e2;rw[RTags.rows (Mv.snoc.keep0 rtags_ok hs),e1,Ag,Ae hk,Ad,Bd,hld,Ad,Aa,Ab,Aa,Ab,Ah,Rg,Ac,AR,Aa,Ab,Aa,Ab,Ah,Ae hk,Ad,e2,Ad]
theorem VG {p q:List Tag} (hs:RTags false h [.sl 2 a p.length c] p F) (hs':RTags false h [.sl 2 a' q.length c'] q F') (hp:p.length=4) (hq:q.length=4) (hl:lo<=h.length) :
  ∃ q5 a5 c5 h' F5,Af lo 290 [.agg [.sl 2 a p.length c],.agg [.sl 2 a' q.length c']] h=some (.agg [.sl q5 a5 (Di p q).length c5],h')/\RTags false h' [.sl q5 a5 (Di p q).length c5] (Di p q) F5/\Mv h [] h' F5:=by
 have hj:(Di p q).length=4:=by unfold Di;rw[zeI];omega
 obtain ⟨q5,a5,c5,h',F5,e,r,m⟩:=Jw (El:=flat Tag.cs) DG (h:=h) (l:=Di p q) (f:=id) (lo:=lo) (R:=2) (e:=36) (bytes:=16) hl (by decide) (by omega)
  (λi q5 a1 n1 c1 hh=>Dp lo (i:Nat) a p.length c a' q.length c' 0 none 0 (some 0) q5 a1 n1 c1 hh) (λi hi q5 a1 n1 c1 hh hm=>by
   obtain ⟨o,ha,ho⟩:=(hm.keep0 rtags_ok hs).get (show i<p.length by omega);obtain ⟨o',ha',ho'⟩:=(hm.keep0 rtags_ok hs').get (show i<q.length by omega);have hji:(Di p q)[i]=E7 p[i] q[i]:=List.getElem_zipWith;refine ⟨[Iv (E7 p[i] q[i]).time,Iv (E7 p[i] q[i]).place],[],hh ++ [.rows 2 36 false [[Iv (E7 p[i] q[i]).time,Iv (E7 p[i] q[i]).place]]],⟨by rw[id,hji];rfl,rfl⟩,Mv.snoc,?_⟩;rw[Dp.e,Al (by omega),Ae (show i<p.length by omega),ha,Ad,Bd,ho,Ad,Aa,Ab,Aa,Ab,Ah,Ae (show i<q.length by omega),ha',Ad,ho',Ad,Aa,Ab,Aa,Ab,Ah,Rg,Ac,AR,Aa,Ab,Aa,Ab,Ah,A7,Ar (by omega)])
 rw[List.map_id] at r;refine ⟨q5,a5,c5,h',F5,Tc ?_,r,m⟩;refine e.trans ?_;rw[Dp.e,Ak (by omega)]
end
section
variable {lo:Nat}{h h':Heap}{w:World}{a1 a2 a3 a4 a:Pq}{c1 c2 c3 c4 c:Nq}{F1 F2 F3 F4:List Nat}
theorem Gy {d:Done} (H:WR lo h w a1 c1 a2 c2 a3 c3 a4 c4 F1 F2 F3 F4) (h80:w.hist.length<=1000) :
  ∃ a5 c5 h' G,Af lo 287 [.agg (w.cs a1 c1 a2 c2 a3 c3 a4 c4),Iv d.sess,Iv d.kind,Iv d.key,.agg [Iv d.tag.time,Iv d.tag.place]] h=some (.agg ((World.mk w.places w.sess w.net (w.hist ++ [d])).cs a1 c1 a2 c2 a3 c3 a5 c5),h') /\
   WR lo h' ⟨w.places,w.sess,w.net,w.hist ++ [d]⟩ a1 c1 a2 c2 a3 c3 a5 c5 F1 F2 F3 G/\Mv h (F1++(F2++(F3++F4))) h' (F1++(F2++(F3++G)))/\∀ y∈F1,h'[y]?=h[y]?:=by
 obtain ⟨⟨n1,n2,n3,n4⟩,_,_,d14,_⟩:=Qg H.nd;obtain ⟨a6,c6,h6,F6,e6,r6,m6⟩:=Dv (lo:=lo) (bytes:=40) (e:=126) (El:=flat Done.cs) DG H.r4 (row:=d.cs) (x:=d) (G := []) (h1:=h ++ [.rows 5 126 false [d.cs]])
  ⟨rfl,rfl⟩ Mv.snoc n4 (λy hy=>H.ge y (by simp[hy])) H.hl (by decide) (by omega)
 have hnl:(w.hist ++ [d]).length=w.hist.length+1:=by simp
 rw[<- hnl] at r6 e6;obtain ⟨q,mq⟩:=H.up4 m6 r6;refine ⟨a6,c6,h6,F6,SX ?_,q,mq,λy hy=>m6.fr y (H.lt.1 y hy) (d14 y hy)⟩;simp only[Done.cs] at e6;rw[A7,e6,Ag]
theorem WR.sess (H:WR lo h w a1 c1 a2 c2 a3 c3 a4 c4 F1 F2 F3 F4) {k:Nat} (hk:k<w.sess.length):∃ b i v b1 d1 G,a2=some (b,i) /\
  ld h b (i+k) 0 5=some [Iv w.sess[k].place,v,Iv w.sess[k].wait.time,Iv w.sess[k].wait.place,Iv w.sess[k].key]/\ld h b (i+k) 1 1=some [v]/\ld h b (i+k) 2 1=some [Iv w.sess[k].wait.time] /\
  (∀ {R':Type} (K:Pq->Nat->Nq->Option R'),eS 2 v K=K b1 w.sess[k].past.length d1)/\RTags false h [.sl 2 b1 w.sess[k].past.length d1] w.sess[k].past G/\RTags false h [v] w.sess[k].past G/\G.Nodup /\
  ∀ h1 G1 j cs row' s',Mv h G h1 G1->paste [Iv w.sess[k].place,v,Iv w.sess[k].wait.time,Iv w.sess[k].wait.place,Iv w.sess[k].key] j cs=some row'->RSess false h1 row' s' G1 ->
   ∃ h2 F2',st lo h1 b (i+k) j cs=some h2/\WR lo h2 ⟨w.places,w.sess.set k s',w.net,w.hist⟩ a1 c1 a2 c2 a3 c3 a4 c4 F1 F2' F3 F4/\Mv h (F1++(F2++(F3++F4))) h2 (F1++(F2'++(F3++F4)))/\∀ y∈F1,h2[y]?=h[y]?:=by
 obtain ⟨⟨_,n2,_,_⟩,d12,_⟩:=Qg H.nd;obtain ⟨b,i,rs,row,G,ha,hbF,hbG,hb,hrow,hel,hGF,hGn,_,put⟩:=Sli.at (lo:=lo) Kn H.r2 hk n2 (λy hy=>H.ge y (by simp[hy]));obtain ⟨v,rfl,hv⟩:=hel;obtain ⟨b1,d1,es,hv'⟩:=hv.form;refine ⟨b,i,v,b1,d1,G,ha,by rw[BA hb hrow];exact Ja rfl,by rw[BA hb hrow];rfl,by rw[BA hb hrow];rfl,es,hv',hv,hGn,λh1 G1 j cs row' s' m hp hx=>?_⟩;obtain ⟨h2,F',e,r,m2,_⟩:=put h1 G1 j cs row' s' m hp hx;have hlen:(w.sess.set k s').length=w.sess.length:=by simp
 rw[<- hlen] at r;obtain ⟨q1,q2⟩:=H.up2 m2 r;exact ⟨h2,F',e,q1,q2,λy hy=>m2.fr y (H.lt.1 y hy) (d12 y hy)⟩
theorem WR.wait (H:WR lo h w a1 c1 a2 c2 a3 c3 a4 c4 F1 F2 F3 F4) {k:Nat} (hk:k<w.sess.length) (t:Tag) (key:Int) :
  ∃ h' F2',(∀ {T:Type} (K:Heap->Option T),(Ap (k:Nat) w.sess.length (eO a2 λv=>eO (st lo h v.1 (v.2+k) 2 [Iv t.time,Iv t.place]) λv=>Ap (k:Nat) w.sess.length (eO a2 λp=>eO (st lo v p.1 (p.2+k) 4 [Iv key]) K)))=K h') /\
   WR lo h' ⟨w.places,w.sess.set k ⟨w.sess[k].place,w.sess[k].past,t,key⟩,w.net,w.hist⟩ a1 c1 a2 c2 a3 c3 a4 c4 F1 F2' F3 F4/\Mv h (F1++(F2++(F3++F4))) h' (F1++(F2'++(F3++F4))):=by
 obtain ⟨b,i,v,b1,d1,G,ha,_,_,_,es,hv',hv,hGn,put⟩:=H.sess hk;obtain ⟨h2,F5,e2,q2,m2,_⟩:=put h G 2 [Iv t.time,Iv t.place] [Iv w.sess[k].place,v,Iv t.time,Iv t.place,Iv w.sess[k].key] ⟨w.sess[k].place,w.sess[k].past,t,w.sess[k].key⟩ (Mv.refl hGn) rfl ⟨v,rfl,hv⟩;have hk2:k<(w.sess.set k ⟨w.sess[k].place,w.sess[k].past,t,w.sess[k].key⟩).length:=by simpa using hk
 obtain ⟨b',i',v',b1',d1',G',ha',_,_,_,es2,hv2',hv2,hGn2,put2⟩:=q2.sess hk2;simp only[zel] at hv2 put2;obtain ⟨h3,F6,e3,q3,m3,_⟩:=put2 h2 G' 4 [Iv key] [Iv w.sess[k].place,v',Iv t.time,Iv t.place,Iv key] ⟨w.sess[k].place,w.sess[k].past,t,key⟩ (Mv.refl hGn2) rfl ⟨v',rfl,hv2⟩;rw[ha] at ha';injection ha' with ha';injection ha' with x1 x2;subst x1;subst x2;refine ⟨h3,F6,λK=>?_,by simpa using q3,m2.trans m3⟩;rw[Ae hk,ha,Ad,e2,Ad,Ae hk,Ad,e3,Ad]
theorem WR.past (H:WR lo h w a1 c1 a2 c2 a3 c3 a4 c4 F1 F2 F3 F4) {k:Nat} (hk:k<w.sess.length) {h1:Heap}{G1:List Nat} (m:Mv h [] h1 G1) {q n:Nat} (r:RTags false h1 [.sl q a n c] l G1) :
  ∃ h' F2',(∀ {T:Type} (K:Heap->Option T),(Ap (k:Nat) w.sess.length (eO a2 λv=>eO (st lo h1 v.1 (v.2+k) 1 [.sl q a n c]) K))=K h') /\
   WR lo h' ⟨w.places,w.sess.set k ⟨w.sess[k].place,l,w.sess[k].wait,w.sess[k].key⟩,w.net,w.hist⟩ a1 c1 a2 c2 a3 c3 a4 c4 F1 F2' F3 F4/\Mv h (F1++(F2++(F3++F4))) h' (F1++(F2'++(F3++F4)))/\∀ y∈F1,h'[y]?=h[y]?:=by
 obtain ⟨b,i,v,b1,d1,G,ha,_,_,_,es,hv',hv,hGn,put⟩:=H.sess hk;obtain ⟨h2,F5,e2,q2,m2,s2⟩:=put h1 G1 1 [.sl q a n c] [Iv w.sess[k].place,.sl q a n c,Iv w.sess[k].wait.time,Iv w.sess[k].wait.place,Iv w.sess[k].key] ⟨w.sess[k].place,l,w.sess[k].wait,w.sess[k].key⟩ (m.wide (by simp)) rfl ⟨_,rfl,r⟩;refine ⟨h2,F5,λK=>?_,q2,m2,s2⟩;rw[Ae hk,ha,Ad,e2,Ad]
end


section
variable {lo:Nat}{h h':Heap}{w:World}{a1 a2 a3 a4 a:Pq}{c1 c2 c3 c4 c:Nq}{F1 F2 F3 F4:List Nat}
theorem WR.stay (H:WR lo h w a1 c1 a2 c2 a3 c3 a4 c4 F1 F2 F3 F4) {X:Option World} (hX:X=none) :
  ∃ cs' h' F',some (V.tup [.agg (w.cs a1 c1 a2 c2 a3 c3 a4 c4),.bool false],h)=some (V.tup [.agg cs',.bool X.isSome],h')/\Qn lo h' cs' (X.getD w) F'/\Mv h (F1++(F2++(F3++F4))) h' F'/\((X)=none->cs'=w.cs a1 c1 a2 c2 a3 c3 a4 c4):=by
 subst hX;exact ⟨_,h,_,rfl,H.at,Mv.refl H.nd,λ_=>rfl⟩
theorem Ul {kind num key:Int}{text:ByteArray}{gone:Bool}{i:Nat} (H:WR lo h w a1 c1 a2 c2 a3 c3 a4 c4 F1 F2 F3 F4) (hg:Fits w) (ht:text.size<=1048576) (hi:i<w.sess.length) :
  ∃ cs' h' F',Af lo 249 [.agg (w.cs a1 c1 a2 c2 a3 c3 a4 c4),.agg [Iv kind,Iv (i:Nat),Iv num,Iv key,.str text,.bool gone]] h=some (.tup [.agg cs',.bool (D4 w i w.sess[i] ⟨kind,(i:Nat),num,key,text,gone⟩).isSome],h') /\
   Qn lo h' cs' ((D4 w i w.sess[i] ⟨kind,(i:Nat),num,key,text,gone⟩).getD w) F'/\Mv h (F1++(F2++(F3++F4))) h' F'/\((D4 w i w.sess[i] ⟨kind,(i:Nat),num,key,text,gone⟩)=none->cs'=w.cs a1 c1 a2 c2 a3 c3 a4 c4):=by
 suffices hk:∃ cs' h' F',_=some (V.tup [.agg cs',.bool (D4 w i w.sess[i] ⟨kind,(i:Nat),num,key,text,gone⟩).isSome],h')/\Qn lo h' cs' ((D4 w i w.sess[i] ⟨kind,(i:Nat),num,key,text,gone⟩).getD w) F'/\Mv h (F1++(F2++(F3++F4))) h' F'/\((D4 w i w.sess[i] ⟨kind,(i:Nat),num,key,text,gone⟩)=none->cs'=w.cs a1 c1 a2 c2 a3 c3 a4 c4) from by obtain ⟨cs',h',F',e,hr⟩:=hk;exact ⟨cs',h',F',Sc e,hr⟩
 have hso:=hg.ok.sess _ (zc7 hi);obtain ⟨t1,t2,t3,t4,t5,t6⟩:=Bv hso;have h80:=hg.ok.h80;obtain ⟨k,hpl⟩:∃ k:Nat,w.sess[i].place=(k:Int):=⟨w.sess[i].place.toNat,by omega⟩;have hk:k<w.places.length:=by have:=hg.ok.p3;omega
 obtain ⟨hpo,hme,hro⟩:=hg.at hk;have hn:=(Ea (By hpo) (by decide) (by decide) (by decide)).1;have hX:D4 w i w.sess[i] ⟨kind,(i:Nat),num,key,text,gone⟩=bif !decide (w.sess[i].wait.time>0)&&(Bg w.places[k] key text gone w.sess[i].past&&CR w 1) then
   some (setS (setP w k (Ej w.places[k] key text gone w.sess[i].past).1) i ⟨w.sess[i].place,w.sess[i].past,(Ej w.places[k] key text gone w.sess[i].past).2,key⟩ [⟨i,1,key,(Ej w.places[k] key text gone w.sess[i].past).2⟩]) else none:=by
  unfold D4;rw[hpl,Bd,Dj hk]
 obtain ⟨b',i',v,e1',d1',Gs,rfl,hld',_,_,es',hv',_,hGn,puts⟩:=H.sess hi;obtain ⟨b,j,s1,s2,s3,b1,d1,b2,d2,b3,d3,G1,G2,G3,rfl,hld,_,_,e1,e2,e3,g1,g2,g3,nd,hF,put⟩:=H.place hk;have hFlo:∀ y∈G1++(G2++G3),lo<=y:=λy hy=>(hF y hy).1
 generalize hXX:D4 w i w.sess[i] ⟨kind,(i:Nat),num,key,text,gone⟩=X at hX;rw[Ae hi,Ad,Bd,hld',Ad,Aa,Ab,Aa,es',Aa,Ab,Aa,Ab,Aa,Ab,Ah,hpl,Ae hk,Ad,Bd,hld,Ad,Aa,Ab,Aa,Ab,Aa,e1,Aa,e2,Aa,e3,Aa,AL,Ah];by_cases hw:w.sess[i].wait.time>0
 ·rw[Al hw];exact H.stay (by rw[hX,decide_eq_true hw];rfl)
 rw[Ak hw,Ca,Ac,At];rw[decide_eq_false hw,zd3,zdk] at hX;cases hwk:Ai key 0 3 with
 | false=>rw[Ax];exact H.stay (by rw[hX];unfold Bg;rw[hwk];rfl)
 | true =>
 rw[Ao,SG ht,Ac,At];cases hto:GO text with
 | false=>rw[Ax];exact H.stay (by rw[hX];unfold Bg;rw[hwk,hto];rfl)
 | true =>
 rw[Ao];have ec:=WW (lo:=lo) (a2:=b2) (c2:=d2) (a3:=b3) (c3:=d3) g1 hv' hpo t2 hn;simp only[Place.cs] at ec;have fin:Bg w.places[k] key text gone w.sess[i].past=true->CR w 1=true->X=some ⟨w.places.set k (BW (Fp w.places[k] 0 (AS w.places[k] w.sess[i].past) (DW w.places[k] key text gone w.sess[i].past))),w.sess.set i ⟨w.sess[i].place,w.sess[i].past,⟨AS w.places[k] w.sess[i].past,w.places[k].me⟩,key⟩,w.net,w.hist ++ [⟨i,1,key,⟨AS w.places[k] w.sess[i].past,w.places[k].me⟩⟩]⟩:=λq1 q2=>by rw[hX,q1,q2];unfold Ej;rw[hpo,q1];rfl
 cases gone with
 | false =>
  rw[Ax,ec,Ac,At];cases hm:Iz w.places[k] w.sess[i].past with
  | false=>rw[Ax];exact H.stay (by rw[hX];unfold Bg;rw[hm];simp)
  | true =>
  have hcw:Bg w.places[k] key text false w.sess[i].past=true:=by unfold Bg;rw[hwk,hto,t2,hm];simp
  rw[Ao];by_cases hh:(w.hist.length:Int)>=80
  ·rw[Al hh];exact H.stay (by rw[hX,show CR w 1=false from decide_eq_false (by omega),zee];rfl)
  have hX2:=fin hcw (decide_eq_true (by omega));obtain ⟨a6,c6,h5,F5,e5,⟨_,_,_,_,_,_,_,r5⟩,m5⟩:=NF (lo:=lo) g1 g2 g3 hv' hpo hcw nd hFlo H.hl;obtain ⟨h6,F6,e6,q6,m6⟩:=put h5 _ _ _ m5 r5 rfl;obtain ⟨h7,F7,e7,q7,m7⟩:=q6.wait hi ⟨AS w.places[k] w.sess[i].past,w.places[k].me⟩ key;obtain ⟨a8,c8,h8,F8,e8,q8,m8,_⟩:=Gy (d:=⟨i,1,key,⟨AS w.places[k] w.sess[i].past,w.places[k].me⟩⟩) q7 (by show w.hist.length<=1000;omega);have W:=q8.at;simp only[setP,World.cs,zdK] at e7 e8 W;simp only[Place.cs] at e5 e6;rw[Ak hh,e5,Ac,HA,Aa,AR,Aa,Ab,Aa,Ab,Aa,Ag,Aa,Ag,Aa,Ag,Aa,AL,Ah,Aa,AR,Aa,Ab,Aa,Ab,Ah,Ah,Ae hk,Ad,e6,Ad];rw[e7,e8,Ac,AR,Aa,Ag,Aa,Ag,Aa,Ag,Aa,Ag,Ah,hX2];exact ⟨_,h8,_,rfl,W,(m6.trans m7).trans m8,λg=>by first | cases g | (simp at g)⟩
 | true =>
  rw[Ao,MK];cases hnt:Ju text with
  | false=>rw[Ax];exact H.stay (by rw[hX];unfold Bg;rw[hwk,hto,hnt];rfl)
  | true =>
  rw[Ao,ec,Ac,At];cases hm:Iz w.places[k] w.sess[i].past with
  | false=>rw[Ax];exact H.stay (by rw[hX];unfold Bg;rw[hm];simp)
  | true =>
  have hcw:Bg w.places[k] key text true w.sess[i].past=true:=by unfold Bg;rw[hwk,hto,t2,hm,hnt];simp
  rw[Ao];by_cases hh:(w.hist.length:Int)>=80
  ·rw[Al hh];exact H.stay (by rw[hX,show CR w 1=false from decide_eq_false (by omega),zee];rfl)
  have hX2:=fin hcw (decide_eq_true (by omega));obtain ⟨a6,c6,h5,F5,e5,⟨_,_,_,_,_,_,_,r5⟩,m5⟩:=NF (lo:=lo) g1 g2 g3 hv' hpo hcw nd hFlo H.hl;obtain ⟨h6,F6,e6,q6,m6⟩:=put h5 _ _ _ m5 r5 rfl;obtain ⟨h7,F7,e7,q7,m7⟩:=q6.wait hi ⟨AS w.places[k] w.sess[i].past,w.places[k].me⟩ key;obtain ⟨a8,c8,h8,F8,e8,q8,m8,_⟩:=Gy (d:=⟨i,1,key,⟨AS w.places[k] w.sess[i].past,w.places[k].me⟩⟩) q7 (by show w.hist.length<=1000;omega);have W:=q8.at;simp only[setP,World.cs,zdK] at e7 e8 W;simp only[Place.cs] at e5 e6;rw[Ak hh,e5,Ac,HA,Aa,AR,Aa,Ab,Aa,Ab,Aa,Ag,Aa,Ag,Aa,Ag,Aa,AL,Ah,Aa,AR,Aa,Ab,Aa,Ab,Ah,Ah,Ae hk,Ad,e6,Ad];rw[e7,e8,Ac,AR,Aa,Ag,Aa,Ag,Aa,Ag,Aa,Ag,Ah,hX2];exact ⟨_,h8,_,rfl,W,(m6.trans m7).trans m8,λg=>by first | cases g | (simp at g)⟩
end


variable {l:List UInt8}{ro:Bool}{xs:List ByteArray}{cc:Nq}
def zcT (x:UInt8):List V := [.int .u8 (x.toNat:Int)]
abbrev RBytes:Rel (List UInt8):=Sli true 1 0 (flat zcT)
structure Rd (lo:Nat) (h:Heap) (b n:Nat):Prop where
 ge:lo<=b
 ex:∃ a code c p Fc,h[b]?=some (.rows 2 152 false [[.sl 1 a code.length c,Iv ((p:Nat):Int)]])/\RBytes h [.sl 1 a code.length c] code Fc/\(∀ y∈Fc,y<lo)/\p<=n/\code.length<=1048576
section
variable {lo:Nat}{h h':Heap}{F F':List Nat}{b n:Nat}
theorem Rd.lt (r:Rd lo h b n):b<h.length:=by obtain ⟨_,a,code,c,p,Fc,hb,_⟩:=r;exact (EA hb).1
theorem Rd.up {n':Nat} (r:Rd lo h b n) (hn:n<=n'):Rd lo h b n':=by obtain ⟨hge,a,code,c,p,Fc,hb,hc,hF,hp,hl⟩:=r;exact ⟨hge,a,code,c,p,Fc,hb,hc,hF,by omega,hl⟩
theorem Rd.keep (r:Rd lo h b n) (m:Mv h F h' F') (hb:b∉F) (hF:∀ y∈F,lo<=y):Rd lo h' b n:=by have hlt:=r.lt;obtain ⟨hge,a,code,c,p,Fc,e,hc,hFc,hp,hl⟩:=r;refine ⟨hge,a,code,c,p,Fc,by rw[m.fr b hlt hb];exact e,m.keep (Sli.ok DG) hc (λy hy hm=>?_),hFc,hp,hl⟩;have h1:=hFc y hy;have h2:=hF y hm;omega
theorem WL {v:Int} (h0:0<=v) (h1:v<4611686018427387904):0<=Am (((BitVec.ofInt IntKind.i64.bits v ^^^ BitVec.ofInt IntKind.i64.bits (Am (v.tdiv 64))).toNat:Nat):Int):=by
 obtain ⟨k,rfl⟩:∃ k:Nat,v=(k:Int):=⟨v.toNat,by omega⟩;have hd:((k:Nat):Int).tdiv 64=((k / 64:Nat):Int):=rfl;rw[hd,wr (n:=((k / 64:Nat):Int)) (by omega) (by omega)];have hb:IntKind.i64.bits=64:=rfl;have t:∀ q:Nat,q<4611686018427387904->(BitVec.ofInt IntKind.i64.bits ((q:Nat):Int)).toNat=q:=λq hq=>by rw[BitVec.toNat_ofInt,hb];omega
 have hx:(BitVec.ofInt IntKind.i64.bits ((k:Nat):Int) ^^^ BitVec.ofInt IntKind.i64.bits ((k / 64:Nat):Int)).toNat<2 ^ 62:=by rw[BitVec.toNat_xor,t k (by omega),t (k / 64) (by omega)];exact Nat.xor_lt_two_pow (by omega) (by omega)
 generalize (BitVec.ofInt IntKind.i64.bits ((k:Nat):Int) ^^^ BitVec.ofInt IntKind.i64.bits ((k / 64:Nat):Int)).toNat=w at hx;rw[wr (by omega) (by omega)];omega
theorem RBytes.get {a:Pq}{c:Nq}{m k:Nat} (hs:RBytes h [.sl 1 a m c] l F) (hk:k<l.length):∃ o,a=some o/\ld h o.1 (o.2+k) 0 1=some [.int .u8 (l[k].toNat:Int)]:=by obtain ⟨o,row,G,h1,h2,⟨rfl,_⟩,_⟩:=hs.read hk;exact ⟨o,h1,by rw[h2];rfl⟩
theorem pick (r:Rd lo h b n) (hn:n<=1000000) (m:Int):∃ (x:Int) (h':Heap),Af lo 44 [.ptr (some (b,(0,0))),Iv m] h=some (Iv x,h')/\0<=x/\(0<m->x<m)/\Rd lo h' b (n+1)/\Mv h [b] h' [b]:=by
 obtain ⟨hge,a,code,c,p,Fc,hb,hc,hFc,hp,hcl⟩:=r;have hblt:=(EA hb).1;have e1:ld h b 0 (0+1) 1=some [Iv ((p:Nat):Int)]:=by rw[BA hb rfl];rfl
 have e2:=DM hb hge (r:=0) (j:=0+1) (cs := [Iv ((p+1:Nat):Int)]) (row' := [.sl 1 a code.length c,Iv ((p+1:Nat):Int)]) rfl rfl;generalize hh1:h.set b (Blk.rows 2 152 false (List.set [[V.sl 1 a code.length c,Iv ((p:Nat):Int)]] 0 [V.sl 1 a code.length c,Iv ((p+1:Nat):Int)]))=h1 at e2;have hb1:h1[b]?=some (.rows 2 152 false [[.sl 1 a code.length c,Iv ((p+1:Nat):Int)]]):=by rw[<- hh1];simp[hblt]
 have m1:Mv h [b] h1 [b]:=⟨by rw[<- hh1];simp,λy hy hF=>by rw[<- hh1];exact zdd (λe=>hF (by simp[e])),by simp,λy hy => .inl hy⟩;have hc1:RBytes h1 [.sl 1 a code.length c] code Fc:=m1.keep (Sli.ok DG) hc (λy hy hm=>by
  rw[zdv] at hm;have:=hFc y hy;omega)
 suffices hk:∃ x:Int,_=some (Iv x,h1)/\0<=x/\(0<m->x<m) from by obtain ⟨x,e,g1,g2⟩:=hk;exact ⟨x,h1,Ou e,g1,g2,⟨hge,a,code,c,p+1,Fc,hb1,hc1,hFc,by omega,hcl⟩,m1⟩
 rw[e1,Ad,Aa,Ah,Ab,Ar (by omega),e2,Ad];by_cases hm:m<1
 ·rw[Al hm];exact ⟨0,rfl,Int.le_refl _,λh=>by omega⟩
 ·have l0:ld h1 b 0 (0+0) 1=some [.sl 1 a code.length c]:=by rw[BA hb1 rfl];rfl
  have l1:ld h1 b 0 (0+1) 1=some [Iv ((p+1:Nat):Int)]:=by rw[BA hb1 rfl];rfl
  have tm:∀ z:Int,0<=z->∃ x:Int,some (Iv (z.tmod m),h1)=some (Iv x,h1)/\0<=x/\(0<m->x<m):=λz hz=>⟨_,rfl,Int.tmod_nonneg m hz,λh=>by rw[Int.tmod_eq_emod_of_nonneg hz];exact Int.emod_lt_of_pos z h⟩
  have w1:Am (((p+1:Nat):Int) - 1)=((p:Nat):Int):=by rw[wr (by omega) (by omega)];omega
  rw[Ak hm,l0,Ad,Aa,Ah,Ag];by_cases h0:code.length=0
  ·rw[show (((code.length:Nat):Int)==0)=true by rw[beq_iff_eq];omega,Ao];exact ⟨0,rfl,Int.le_refl _,λh=>by omega⟩
  ·rw[show (((code.length:Nat):Int)==0)=false by rw[beq_eq_false_iff_ne];omega,Ax,l1,Ad,Aa,Ah,Ab,Ad,Aa,Ah,Ag,w1];by_cases hpc:p<code.length
   ·obtain ⟨o,ha,hld⟩:=hc1.get hpc;have hbt:code[p].toNat<256:=code[p].toNat_lt;rw[Al (by omega),Ad,Aa,Ah,Ag,Ae hpc,ha,Ad,Bd,hld,Ad,Aa,Ah,Ab,D0 (by omega),wr (by omega) (by omega)];exact tm _ (by omega)
   ·have hk1:p % code.length<code.length:=Nat.mod_lt _ (by omega);have hk2:(p*7+3) % code.length<code.length:=Nat.mod_lt _ (by omega);obtain ⟨o,ha,hld⟩:=hc1.get hk1;obtain ⟨o',ha',hld'⟩:=hc1.get hk2;have ho:o'=o:=by rw[ha] at ha';injection ha' with e;exact e.symm
    subst ho;have hb1:code[p % code.length].toNat<256:=UInt8.toNat_lt _;have hb2:code[(p*7+3) % code.length].toNat<256:=UInt8.toNat_lt _;have t1:((p:Nat):Int).tmod ((code.length:Nat):Int)=((p % code.length:Nat):Int):=rfl;have t2:Am (Am (((p:Nat):Int)*7)+3)=((p*7+3:Nat):Int):=by rw[wr (n:=((p:Nat):Int)*7) (by omega) (by omega),wr (by omega) (by omega)];omega
    have t3:((p*7+3:Nat):Int).tmod ((code.length:Nat):Int)=(((p*7+3) % code.length:Nat):Int):=rfl;have t4:((p:Nat):Int).tdiv ((code.length:Nat):Int)=((p / code.length:Nat):Int):=rfl;have hdv:p / code.length<=p:=Nat.div_le_self _ _;rw[Ak (by omega),Ad,Aa,Ah,Ag,Ad,Aa,Ah,Ag,D0 (by omega),t1,Ae hk1,ha,Ad,Bd,hld,Ad,Aa,Ah,Ab,Ad,Aa,Ah,Ag,Ad,Aa,Ah,Ag,D0 (by omega),t2,t3,Ae hk2,Ad,Bd,hld',Ad,Aa,Ah,Ab,Ad,Aa,Ah,Ag,D0 (by omega),D0 (by omega),t4];generalize code[p % code.length].toNat=B1 at hb1;generalize code[(p*7+3) % code.length].toNat=B2 at hb2;generalize p / code.length=D at hdv;rw[wr (n:=((B1:Nat):Int)) (by omega) (by omega),wr (n:=((B2:Nat):Int)) (by omega) (by omega),wr (n:=((B1:Nat):Int)*131) (by omega) (by omega),wr (n:=((B2:Nat):Int)*1117) (by omega) (by omega),wr (n:=((B1:Nat):Int)*131+((B2:Nat):Int)*1117) (by omega) (by omega),
     wr (n:=((p:Nat):Int)*29) (by omega) (by omega),wr (n:=((B1:Nat):Int)*131+((B2:Nat):Int)*1117+((p:Nat):Int)*29) (by omega) (by omega),wr (n:=((D:Nat):Int)) (by omega) (by omega),wr (n:=((D:Nat):Int)*53) (by omega) (by omega),wr (n:=((B1:Nat):Int)*131+((B2:Nat):Int)*1117+((p:Nat):Int)*29+((D:Nat):Int)*53) (by omega) (by omega)]
    exact tm _ (WL (by omega) (by omega))
theorem Jt {c e:Nat}{xs:List Int}{rows:List (List V)}{len:Nat} (r:Rd lo h b n) (hn:n<=1000000) (hc:h[c]?=some (.rows 1 e ro rows)) (hcb:c≠b) (hr:rows=xs.map λx => [Iv x]) (hl:len=xs.length) (h0:0<len) :
  ∃ (x:Int) (h':Heap),Af lo 49 [.ptr (some (b,(0,0))),.sl 1 (some (c,0)) len cc] h=some (Iv x,h')/\x∈xs/\Rd lo h' b (n+1)/\Mv h [b] h' [b]:=by
 obtain ⟨x,h1,e1,g1,g2,r1,m1⟩:=pick r hn ((len:Nat):Int);have hlt:=(EA hc).1;obtain ⟨k,rfl⟩:∃ k:Nat,x=(k:Int):=⟨x.toNat,by omega⟩;have hk:k<xs.length:=by have:=g2 (by omega);omega
 have hc1:h1[c]?=some (.rows 1 e ro rows):=by rw[m1.fr c hlt (by simpa using hcb)];exact hc
 refine ⟨xs[k],h1,Pz ?_,zc7 hk,r1,m1⟩;rw[e1,Ac,Ab,Ae (by omega),Ad,Bd,zdy,BA hc1 (i:=k) (row := [Iv xs[k]]) (by rw[hr,zeD,Dj hk];rfl)];rfl
theorem zbf {c e:Nat}{rows:List (List V)}{len:Nat} (r:Rd lo h b n) (hn:n<=1000000) (hc:h[c]?=some (.rows 1 e ro rows)) (hcb:c≠b) (hr:rows=xs.map λx => [.str x]) (hl:len=xs.length) (h0:0<len) :
  ∃ (x:ByteArray) (h':Heap),Af lo 48 [.ptr (some (b,(0,0))),.sl 1 (some (c,0)) len cc] h=some (.str x,h')/\x∈xs/\Rd lo h' b (n+1)/\Mv h [b] h' [b]:=by
 obtain ⟨x,h1,e1,g1,g2,r1,m1⟩:=pick r hn ((len:Nat):Int);have hlt:=(EA hc).1;obtain ⟨k,rfl⟩:∃ k:Nat,x=(k:Int):=⟨x.toNat,by omega⟩;have hk:k<xs.length:=by have:=g2 (by omega);omega
 have hc1:h1[c]?=some (.rows 1 e ro rows):=by rw[m1.fr c hlt (by simpa using hcb)];exact hc
 refine ⟨xs[k],h1,Qs ?_,zc7 hk,r1,m1⟩;rw[e1,Ac,Ab,Ae (by omega),Ad,Bd,zdy,BA hc1 (i:=k) (row := [.str xs[k]]) (by rw[hr,zeD,Dj hk];rfl)];rfl
theorem Ix {e:Nat} (xs:List Int) {rows:List (List V)}{len:Nat} (r:Rd lo h b n) (hn:n<=1000000) (hr:rows=xs.map λx => [Iv x]) (hl:len=xs.length) (h0:0<len) :
  ∃ (x:Int) (h':Heap),Af lo 49 [.ptr (some (b,(0,0))),.sl 1 (some (h.length,0)) len cc] (h ++ [.rows 1 e false rows])=some (Iv x,h')/\x∈xs/\Rd lo h' b (n+1)/\Mv h [b] h' [b]:=by
 have m0:Mv h [b] (h ++ [.rows 1 e false rows]) [b]:=Mv.snoc' (by simp);have hlt:=r.lt;obtain ⟨x,h',e1,g1,r1,m1⟩:=Jt (h:=h ++ [Blk.rows 1 e false rows]) (c:=h.length) (e:=e) (ro:=false) (xs:=xs) (cc:=cc) (r.keep (F := []) (F' := []) Mv.snoc (by simp) (by simp)) hn (by simp) (by omega) hr hl h0;exact ⟨x,h',e1,g1,r1,m0.trans m1⟩
theorem YS {e:Nat} (xs:List ByteArray) {rows:List (List V)}{len:Nat} (r:Rd lo h b n) (hn:n<=1000000) (hr:rows=xs.map λx => [.str x]) (hl:len=xs.length) (h0:0<len) :
  ∃ (x:ByteArray) (h':Heap),Af lo 48 [.ptr (some (b,(0,0))),.sl 1 (some (h.length,0)) len cc] (h ++ [.rows 1 e false rows])=some (.str x,h')/\x∈xs/\Rd lo h' b (n+1)/\Mv h [b] h' [b]:=by
 have m0:Mv h [b] (h ++ [.rows 1 e false rows]) [b]:=Mv.snoc' (by simp);have hlt:=r.lt;obtain ⟨x,h',e1,g1,r1,m1⟩:=zbf (h:=h ++ [Blk.rows 1 e false rows]) (c:=h.length) (e:=e) (ro:=false) (xs:=xs) (cc:=cc) (r.keep (F := []) (F' := []) Mv.snoc (by simp) (by simp)) hn (by simp) (by omega) hr hl h0;exact ⟨x,h',e1,g1,r1,m0.trans m1⟩
theorem Pl {α β:Type}:∀ (l:List α),(l.map λ_=>([]:List β)).flatten = []
 | []=>rfl
 | _ :: l=>by simp[Pl l]
theorem Y5 {a:Pq}{c:Nq} (hs:RBytes h [.sl 1 a l.length c] l F) (hF:∀ y∈F,y<lo) (hlo:lo<=h.length) (hl:l.length<=1048576) (hcap:∀ k,c=some k->l.length<=k) :
  ∃ (b:Nat) (h':Heap),Af lo 41 [.sl 1 a l.length c] h=some (.ptr (some (b,(0,0))),h')/\Rd lo h' b 0/\Mv h [] h' [b]:=by
 refine ⟨h.length,?_⟩;suffices hk:∃ h',_=some (V.ptr (some (h.length,(0,0))),h')/\Rd lo h' h.length 0/\Mv h [] h' [h.length] from by obtain ⟨h',e,g⟩:=hk;exact ⟨h',Sk e,g⟩
 by_cases h2:l.length>2000
 ·have hre:∀ {T:Type} (K:Pq->Nat->Nq->Option T),AA a l.length c none (some (Iv 2000)) none K=K a 2000 c:=λK=>by
   unfold AA FI JK Km;cases c with
   | none=>simp only[Ab];rw[CO ⟨by omega,by omega⟩];rfl
   | some k=>have:=hcap k rfl;simp only[Ab];rw[CO ⟨by omega,by omega⟩];rfl
  have ht:RBytes h [.sl 1 a (l.take 2000).length c] (l.take 2000) F:=by
   obtain ⟨R',a',c',e,hR,hh⟩:=hs;injection e with e _;injection e with e0 e1 e2 e3;subst e1;subst e3;refine ⟨1,a,c,rfl,rfl,?_⟩;rcases hh with ⟨g,_⟩ | ⟨b,i,rs,Fs,g0,g1,g2,g3,g4⟩
   ·rw[g] at h2;simp at h2
   ·have hfl:=EAll.of_flat g3;refine .inr ⟨b,i,rs,(l.take 2000).map λ_ => [],g0,g1,by simp;omega,?_,?_⟩
    ·have:(rs.drop i).take (l.take 2000).length=(l.take 2000).map zcT:=by rw[List.map_take,<- hfl.1,zeY];congr 1;simp
     rw[this];exact EAll.flat
    ·rw[g4,hfl.2,Pl]
  have hlen:(l.take 2000).length=2000:=by simp;omega
  rw[Al (by omega),hre];refine ⟨_,rfl,⟨hlo,a,l.take 2000,c,0,F,?_,(Mv.snoc (t := [_])).keep0 (Sli.ok DG) ht,hF,zdb _,by omega⟩,Mv.last⟩;rw[hlen];simp
 ·rw[Ak (by omega)];exact ⟨_,rfl,⟨hlo,a,l,c,0,F,by simp,(Mv.snoc (t := [_])).keep0 (Sli.ok DG) hs,hF,zdb _,hl⟩,Mv.last⟩
end


variable {α:Type}{l:List α}
theorem Mv.apart {h h1:Heap}{A F1:List Nat}{b:Nat} (m:Mv h A h1 (b :: F1)):∀ y∈F1,y ∉ [b]:=λy hy hm=>by have hn:=m.nd;rw[zdg] at hn;rw[zdv] at hm;exact hn.1 (hm ▸ hy)
section
variable {lo:Nat}{h h':Heap}{F F':List Nat}{b n:Nat}
theorem Nc (r:Rd lo h b n) (hn:n<=900000):∃ (s:ByteArray) (h':Heap),Af lo 269 [.ptr (some (b,(0,0)))] h=some (.str s,h')/\GO s=true/\Rd lo h' b (n+1)/\Mv h [b] h' [b]:=by
 obtain ⟨s,h1,e1,g1,r1,m1⟩:=YS (e:=9) [⟨⟨[]⟩⟩,⟨⟨[97]⟩⟩,⟨⟨[98]⟩⟩,⟨⟨[120,35,49]⟩⟩,⟨⟨[61]⟩⟩,⟨⟨[45]⟩⟩,⟨⟨[108,111,110,103,116,101,120,116]⟩⟩,⟨⟨[122,122]⟩⟩]
  (rows := [[.str ⟨⟨[]⟩⟩],[.str ⟨⟨[97]⟩⟩],[.str ⟨⟨[98]⟩⟩],[.str ⟨⟨[120,35,49]⟩⟩],[.str ⟨⟨[61]⟩⟩],[.str ⟨⟨[45]⟩⟩],[.str ⟨⟨[108,111,110,103,116,101,120,116]⟩⟩],[.str ⟨⟨[122,122]⟩⟩]]) (len:=8) (cc:=some 8) r (by omega) rfl rfl (by decide)
 refine ⟨s,h1,Si ?_,?_,r1,m1⟩
 ·rw[e1,Ac,BG]
 ·have:∀ x∈([⟨⟨[]⟩⟩,⟨⟨[97]⟩⟩,⟨⟨[98]⟩⟩,⟨⟨[120,35,49]⟩⟩,⟨⟨[61]⟩⟩,⟨⟨[45]⟩⟩,⟨⟨[108,111,110,103,116,101,120,116]⟩⟩,⟨⟨[122,122]⟩⟩]:List ByteArray),GO x=true:=zdm.1 (by decide);exact this s g1
theorem Sli.made {cs:α->List V}{R e:Nat}{rows:List (List V)} (hr:rows=l.map cs):Sli false R e (flat cs) (h ++ [.rows R e false rows]) [.sl R (some (h.length,0)) l.length (some l.length)] l [h.length]:=by subst hr;refine ⟨R,some (h.length,0),some l.length,rfl,rfl,l.map cs,l.map λ_ => [],by simp,by simp,λk hk=>by injection hk with hk;simp;omega,(λhc=>(by cases hc)),?_,by rw[Pl]⟩;rw[zdX,zdC (by simp)];exact EAll.flat
def TJ:List Tag := [⟨0,0⟩,⟨0,0⟩,⟨0,0⟩,⟨0,0⟩]
theorem VF:∃ h' q,Af lo 45 [] h=some (.agg [.sl 2 (some (q,0)) 4 (some 4)],h')/\RTags false h' [.sl 2 (some (q,0)) 4 (some 4)] TJ [q]/\Mv h [] h' [q] :=
 ⟨_,h.length,Ta rfl,Sli.made (l:=TJ) rfl,Mv.last⟩
theorem T8 {Fs:List (List Nat)}:(Fs.drop 1).flatten.Sublist Fs.flatten:=by
 cases Fs with
 | nil=>simp
 | cons F Fs=>simp only[List.drop_succ_cons,zdX,zdD];exact List.sublist_append_right _ _
theorem Sli.behind {El:Rel α}{R e q i k m:Nat} (hs:Sli false R e El h [.sl R (some (q,i)) m (some k)] l F) (h0:0<l.length) (hnd:F.Nodup) :
  (∀ {T:Type} (K:Pq->Nat->Nq->Option T),1<k->AA (some (q,i)) m (some k) (some (Iv 1)) none none K=K (some (q,i+1)) (l.drop 1).length (some (k - 1))) /\
   ∃ F',Sli false R e El h [.sl R (some (q,i+1)) (l.drop 1).length (some (k - 1))] (l.drop 1) F'/\F'.Nodup/\∀ y∈F',y∈F:=by
 have hm:=hs.val;subst hm;obtain ⟨b',i',rs,Fs,ha,g1,g2,g3,g4,g5,rfl⟩:=hs.data h0;injection ha with ha;injection ha with e1 e2;subst e1;subst e2;obtain ⟨k1,k2⟩:=g3 k rfl;refine ⟨λK hk=>?_,q ::(Fs.drop 1).flatten,⟨R,some (q,i+1),some (k - 1),rfl,rfl,rs,Fs.drop 1,g1,by simp;omega,λk' hk=>?_,(λhc=>(by cases hc)),?_,rfl⟩,?_,λy hy=>?_⟩
 ·unfold AA FI JK Km MO;simp only[Ab,zeo];rw[CO ⟨by omega,by omega⟩];have:Nat.beq k (Int.toNat 1)=false:=by
   cases hb:Nat.beq k (Int.toNat 1) with
   | false=>rfl
   | true =>have:=zdi hb;have e:Int.toNat 1=1:=rfl;omega
  rw[this,Ax,zeb];rfl
 ·injection hk with hk;subst hk;simp only[zeb];omega
 ·have hd:=g5.drop 1;have:((rs.drop i).take l.length).drop 1=(rs.drop (i+1)).take (l.drop 1).length:=by rw[List.drop_take,zey,zeb]
  rw[<- this];exact hd
 ·rw[zdg] at hnd ⊢;have hsub:(Fs.drop 1).flatten.Sublist Fs.flatten:=T8;exact ⟨λhm=>hnd.1 (hsub.mem hm),hnd.2.sublist hsub⟩
 ·have hsub:(Fs.drop 1).flatten.Sublist Fs.flatten:=T8;rw[zdf] at hy ⊢;exact hy.imp id λhy=>hsub.mem hy
end


section
variable {lo:Nat}{h h':Heap}{F F':List Nat}{b n:Nat}
theorem Mv.thin {A F1 F2:List Nat}{h1:Heap} (m:Mv h A h1 (b :: F1)) (hn:F2.Nodup) (hs:∀ y∈F2,y∈F1):Mv h A h1 (b :: F2):=by have hn1:=m.nd;rw[zdg] at hn1;refine m.lean (zdg.2 ⟨λhm=>hn1.1 (hs b hm),hn⟩) λy hy=>?_;rw[zdf] at hy ⊢;exact hy.imp id (hs y)
def KI:List Ver := [Vs,Vs,Vs,Vs]
theorem Is:RVer false h [Iv 0,Iv 0,Iv 0,.sl 0 none 0 (some 0),.str ⟨⟨[]⟩⟩,.bool false] Vs []:=⟨_,rfl,Sli.nil⟩
theorem WY:∃ h' q,Af lo 296 [] h=some (.agg [.sl 6 (some (q,0)) 4 (some 4)],h')/\RVers false h' [.sl 6 (some (q,0)) 4 (some 4)] KI [q]/\Mv h [] h' [q]:=by
 refine ⟨_,h.length,Vf rfl,⟨6,some (h.length,0),some 4,rfl,rfl,[[Iv 0,Iv 0,Iv 0,.sl 0 none 0 (some 0),.str ⟨⟨[]⟩⟩,.bool false],[Iv 0,Iv 0,Iv 0,.sl 0 none 0 (some 0),.str ⟨⟨[]⟩⟩,.bool false],[Iv 0,Iv 0,Iv 0,.sl 0 none 0 (some 0),.str ⟨⟨[]⟩⟩,.bool false],[Iv 0,Iv 0,Iv 0,.sl 0 none 0 (some 0),.str ⟨⟨[]⟩⟩,.bool false]],[[],[],[],[]],by simp,by decide,λk hk=>?_,(λhc=>(by cases hc)),?_,rfl⟩,Mv.last⟩
 ·injection hk with hk;subst hk;exact ⟨by decide,by decide⟩
 ·exact ⟨Is,Is,Is,Is,trivial⟩
end


section
variable {lo:Nat}{h h':Heap}{F F':List Nat}{b n:Nat}
theorem Sli.first {α:Type}{El:Rel α}{R e m i:Nat}{a:Pq}{c:Nq}{l:List α} (hs:Sli false R e El h [.sl R a m c] l F) (hi:i<=l.length) (hnd:F.Nodup):∃ F2,Sli false R e El h [.sl R a i c] (l.take i) F2/\F2.Nodup/\∀ y∈F2,y∈F:=by
 have hm:=hs.val;subst hm;by_cases h0:l.length=0
 ·have:l = []:=zdh h0;subst this;have:i=0:=by simpa using hi
  subst this;exact ⟨F,hs,hnd,λy hy=>hy⟩
 obtain ⟨b',i',rs,Fs,ha,g1,g2,g3,g4,g5,rfl⟩:=hs.data (k:=0) (by omega);have hs0:=hs;obtain ⟨R1,a1,c1,e1,_⟩:=hs;injection e1 with e1 _;injection e1 with e0 e2 _ e4;have hsub:(Fs.take i).flatten.Sublist Fs.flatten:=by
  conv=>{ rhs;rw[<- zdG i Fs,zdJ] }
  exact List.sublist_append_left _ _
 rw[zdg] at hnd;refine ⟨b' ::(Fs.take i).flatten,⟨R,a,c,by simp;omega,?_⟩,zdg.2 ⟨λhm=>hnd.1 (hsub.mem hm),hnd.2.sublist hsub⟩,λy hy=>?_⟩
 ·subst ha;refine ⟨rfl,rs,Fs.take i,g1,by simp;omega,λk hk=>?_,g4,?_,rfl⟩
  ·have:=g3 k hk;simp only[zdr];omega
  ·have hd:=g5.take i;rw[zeY] at hd;have:min i l.length=(l.take i).length:=by simp
   rw[<- this];exact hd
 ·rw[zdf] at hy ⊢;exact hy.imp id λhy=>hsub.mem hy
theorem SH {m:Nat} (h1:1<=m) (h4:m<=4) (hl:lo<=h.length):∃ v h' F',Af lo 271 [Iv (m:Nat)] h=some (.agg [v],h')/\RNodes false h' [v] (List.replicate m ⟨KI,[]⟩) F'/\Mv h [] h' F':=by
 obtain ⟨q,a',c',h',F',e,r,mm⟩:=Jw (El:=RNode false) rnode_ok (h:=h) (l:=List.replicate m ()) (f:=λ_=>(⟨KI,[]⟩:Node)) (lo:=lo) (R:=2) (e:=Qc false) (bytes:=48) hl (by decide) (by rw[zd1];omega)
  (λi q a n c hh=>CH lo ((m:Nat):Int) ((i:Nat):Int) 0 none 0 (some 0) q a n c hh) (λi hi q a n c hh hm=>by
   rw[zd1] at hi;obtain ⟨h3,q3,e3,t3,m3⟩:=WY (lo:=lo) (h:=hh);refine ⟨[.sl 6 (some (q3,0)) 4 (some 4),.sl 0 none 0 (some 0)],[q3],h3 ++ [.rows 2 (Qc false) false [[.sl 6 (some (q3,0)) 4 (some 4),.sl 0 none 0 (some 0)]]],⟨_,_,[q3],[],rfl,rfl,Mv.snoc.keep0 rvers_ok t3,Sli.nil⟩,m3.trans (Mv.snoc' m3.nd),?_⟩;rw[CH.e,Al (by omega),e3,Ac,AR,Aa,Ag,Ah,Ar (by omega)];exact A7)
 rw[List.map_replicate] at r;rw[zd1] at e;refine ⟨_,h',F',Qv ?_,r,mm⟩;have hw:Ai ((m:Nat):Int) 1 4=true:=by simp only[Ai,CP,decide_eq_true_eq];omega
 rw[Ca,Ac,At,hw,Ao];refine e.trans ?_;rw[CH.e,Ak (by omega),zd1]
end


variable {l:List Node}{p:List Tag}
section
variable {lo:Nat}{ro ro':Bool}{h:Heap}{F F':List Nat}{a a':Pq}{c c':Nq}
theorem zaZ {l:List Tag} (h1:RTags ro h [.sl 2 a l.length c] l F) (h2:RTags ro' h [.sl 2 a' l.length c'] l F') (hn:l.length<=1048576):Af lo 17 [.agg [.sl 2 a l.length c],.agg [.sl 2 a' l.length c']] h=some (.bool true,h):=by
 refine Te (h':=h) ?_;rw[IB,Ao];refine (FQ (n:=l.length) (λi=>Dr (List.length h) false (i:Nat) a l.length c a' l.length c' h) λi hi=>?_).trans ?_
 ·obtain ⟨o,rfl,ho⟩:=h1.get hi;obtain ⟨o',rfl,ho'⟩:=h2.get hi;rw[Dr.e,Al (by omega),Ae hi];simp only[Ad,Bd,ho,ho',Aa,Ab,Ah,Ae hi,IB,Ao,zeL,Ar (show i<9223372036854775807 by omega)]
 ·rw[Dr.e,Ak (by omega)]
theorem zaY {v:Ver} (h1:RTags ro h [.sl 2 a v.past.length c] v.past F) (h2:RTags ro' h [.sl 2 a' v.past.length c'] v.past F') (hn:v.past.length<=1048576):Af lo 73 [.agg (v.cs a c),.agg (v.cs a' c')] h=some (.bool true,h) :=
 Vj (h':=h) (by simp only[zaZ h1 h2 hn,Ac,At,Ao,IB,zcS,zc0,zeL])
theorem XT {l:List Ver} (h1:RVers ro h [.sl 6 a l.length c] l F) (h2:RVers ro' h [.sl 6 a' l.length c'] l F') (hn:DA l):Af lo 61 [.sl 6 a l.length c,.sl 6 a' l.length c'] h=some (.bool true,h):=by
 have hn1:=hn.1;refine Td (h':=h) ?_;rw[IB,Ao];refine (FQ (n:=l.length) (λi=>Dq (List.length h) a l.length c a' l.length c' false (i:Nat) h) λi hi=>?_).trans ?_
 ·obtain ⟨o,s,b1,c1,G1,rfl,ho,es,hp,_⟩:=h1.get hi;obtain ⟨o',s',b2,c2,G2,rfl,ho',es',hp',_⟩:=h2.get hi;rw[Dq.e,Al (by omega),Ae hi];simp only[Ad,Bd,ho,ho',Aa,Ab,es,es',BG,AL,Ah,Ae hi];rw[zaY hp hp' (hn.2 _ (zc7 hi)).1];simp only[Ac,At,Ao,Ar (show i<9223372036854775807 by omega)]
 ·rw[Dq.e,Ak (by omega)]
theorem zb3 {l:List Ver} (h1:RVers ro h [.sl 6 a l.length c] l F) (h2:RVers ro' h [.sl 6 a' l.length c'] l F') (hn:DA l):Af lo 131 [.agg [.sl 6 a l.length c],.agg [.sl 6 a' l.length c']] h=some (.bool true,h):=by
 have hn1:=hn.1;refine Sn (h':=h) ?_;rw[IB,Ao];refine (FQ (n:=l.length) (λi=>CZ (List.length h) false (i:Nat) a l.length c a' l.length c' h) λi hi=>?_).trans ?_
 ·obtain ⟨o,s,b1,c1,G1,rfl,ho,es,hp,_⟩:=h1.get hi;obtain ⟨o',s',b2,c2,G2,rfl,ho',es',hp',_⟩:=h2.get hi;rw[CZ.e,Al (by omega),Ae hi];simp only[Ad,Bd,ho,ho',Aa,Ab,es,es',BG,AL,Ah,Ae hi];rw[zaY hp hp' (hn.2 _ (zc7 hi)).1];simp only[Ac,At,Ao,Ar (show i<9223372036854775807 by omega)]
 ·rw[CZ.e,Ak (by omega)]
theorem zb5 (h1:RNodes ro h [.sl 2 a l.length c] l F) (h2:RNodes ro' h [.sl 2 a' l.length c'] l F') (hn:C7 l):Af lo 60 [.agg [.sl 2 a l.length c],.agg [.sl 2 a' l.length c']] h=some (.bool true,h):=by
 have hn1:=hn.1;refine Sp (h':=h) ?_;rw[IB,Ao];refine (FQ (n:=l.length) (λi=>C1 (List.length h) false (i:Nat) a l.length c a' l.length c' h) λi hi=>?_).trans ?_
 ·obtain ⟨o,s1,s2,a1,c1,a2,c2,G1,G2,rfl,ho,ho1,ho2,e1,e2,hp1,hp2,_⟩:=h1.get hi;obtain ⟨o',s1',s2',a1',c1',a2',c2',G1',G2',rfl,ho',ho1',ho2',e1',e2',hp1',hp2',_⟩:=h2.get hi;rw[C1.e,Al (by omega),Ae hi];simp only[Ad,Bd,ho1,ho1',Aa,e1,e1',Ah,Ae hi];rw[zb3 hp1 hp1' (hn.2 _ (zc7 hi)).1];simp only[Ac,At,Ao,Ad,ho2,ho2',Aa,Ah,e2,e2',Ae hi];rw[XT hp2 hp2' (hn.2 _ (zc7 hi)).2];simp only[Ac,At,Ao,Ar (show i<9223372036854775807 by omega)]
 ·rw[C1.e,Ak (by omega)]
theorem Bc (hp:BJ p=true):p.length=4:=by unfold BJ at hp;rw[CP,decide_eq_true_eq] at hp;exact hp.1
theorem Ld {q:List Tag} (hs:RTags ro h [.sl 2 a p.length c] p F) (hs':RTags ro' h [.sl 2 a' q.length c'] q F') (hp:BJ p=true) (hq:BJ q=true) :
  Af lo 18 [.agg [.sl 2 a p.length c],.agg [.sl 2 a' q.length c']] h=some (.bool (BP p q),h):=by
 have h1:=Bc hp;have h2:=Bc hq;refine OJ (h':=h) ?_;rw[JV hs (by omega),Ac,At,hp,Ao,JV hs' (by omega),Ac,At,hq,Ao,HK hs hs' (by omega) (by omega),Ac,At];cases BP p q<;>rfl
theorem Pi (hs:RNodes false h [.sl 2 a l.length c] l F) (hl:lo<=h.length) (hn:C7 l) (hc:Ch l) :
  ∃ a' c' h' F',Af lo 19 [.agg [.sl 2 a l.length c]] h=some (.agg [.sl 2 a' (A3 l).length c'],h')/\RTags false h' [.sl 2 a' (A3 l).length c'] (A3 l) F'/\Mv h [] h' F':=by
 have hpos:=hc.pos;have m0:Mv h [] (h ++ [.rows 1 25 false [[.sl 2 a l.length c]]]) []:=Mv.snoc;have hs0:=m0.keep0 rnodes_ok hs;have hld:ld (h ++ [.rows 1 25 false [[.sl 2 a l.length c]]]) h.length 0 0 1=some [.sl 2 a l.length c]:=by rw[BA (show (h ++ [Blk.rows 1 25 false [[.sl 2 a l.length c]]])[h.length]?=some (.rows 1 25 false [[.sl 2 a l.length c]]) by simp) rfl];exact Ja rfl
 obtain ⟨a1,c1,G1,e1,q1,_⟩:=HL (lo:=lo) hld hs0 (by omega) hn.1;obtain ⟨v,h2,F2,e2,r2,m2⟩:=Jh (lo:=lo) q1 (zc8 hl m0.le) (hc.store (Dj (by omega))).2;rw[<- GT (by omega)] at r2;obtain ⟨a2,c2,es,r2⟩:=r2.form;refine ⟨a2,c2,h2,F2,Nv ?_,r2,m0.trans m2⟩;rw[hld,Ad,Aa,Ag,Ah,N6 hs0 hn,chain_iff.2 hc,Ac,At,Ao,e1,Ac,AR,Aa,Ag,Ah,e2,Ac,AR,Aa,es,Ah]
end


section
variable {lo:Nat}{h h':Heap}{w:World}{a1 a2 a3 a4 a:Pq}{c1 c2 c3 c4 c:Nq}{F1 F2 F3 F4:List Nat}
theorem WT {kind num key:Int}{text:ByteArray}{gone:Bool}{i:Nat} (H:WR lo h w a1 c1 a2 c2 a3 c3 a4 c4 F1 F2 F3 F4) (hg:Fits w) (hi:i<w.sess.length) :
  ∃ cs' h' F',Af lo 250 [.agg (w.cs a1 c1 a2 c2 a3 c3 a4 c4),.agg [Iv kind,Iv (i:Nat),Iv num,Iv key,.str text,.bool gone]] h=some (.tup [.agg cs',.bool (JF w i w.sess[i]).isSome],h') /\
   Qn lo h' cs' ((JF w i w.sess[i]).getD w) F'/\Mv h (F1++(F2++(F3++F4))) h' F'/\((JF w i w.sess[i])=none->cs'=w.cs a1 c1 a2 c2 a3 c3 a4 c4):=by
 suffices hk:∃ cs' h' F',_=some (V.tup [.agg cs',.bool (JF w i w.sess[i]).isSome],h')/\Qn lo h' cs' ((JF w i w.sess[i]).getD w) F'/\Mv h (F1++(F2++(F3++F4))) h' F'/\((JF w i w.sess[i])=none->cs'=w.cs a1 c1 a2 c2 a3 c3 a4 c4) from by obtain ⟨cs',h',F',e,hr⟩:=hk;exact ⟨cs',h',F',U9 e,hr⟩
 have hso:=hg.ok.sess _ (zc7 hi);obtain ⟨t1,t2,t3,t4,t5,t6⟩:=Bv hso;have hp4:=Bc t2;have h80:=hg.ok.h80;obtain ⟨k,hpl⟩:∃ k:Nat,w.sess[i].place=(k:Int):=⟨w.sess[i].place.toNat,by omega⟩;obtain ⟨m,hkey⟩:∃ m:Nat,w.sess[i].key=(m:Int):=⟨w.sess[i].key.toNat,by omega⟩;have hk:k<w.places.length:=by have:=hg.ok.p3;omega
 obtain ⟨hpo,hme,hro⟩:=hg.at hk;have hn:=(Ea (By hpo) (by decide) (by decide) (by decide)).1;have hco:=(AO hpo).2.2.2.1;have hcl:=Dk hpo;have hst:∀ x∈w.places[k].chain,Bb x.store=true:=λx hx=>(AW ((CM hco).2 x hx)).1
 have h04:=Bi (hst _ (zc7 hcl));have hm0:m<w.places[k].chain[0].store.length:=by omega
 obtain ⟨b',i',v,e1',d1',Gs,rfl,hld',_,_,es',hv',_,hGn,puts⟩:=H.sess hi;obtain ⟨b,j,s1,s2,s3,b1,d1,b2,d2,b3,d3,G1,G2,G3,rfl,_,hc2,_,e1,e2,e3,g1,g2,g3,nd,hF,put⟩:=H.place hk;obtain ⟨u,x5,y5,h1,G5,e5,hsh,r5,m5⟩:=MA (lo:=lo) (k:=0) (key:=m) g1 hcl hst (by omega) H.hl hn.1.1;rw[show ((0:Nat):Int)=0 from rfl] at e5;obtain ⟨o,z1,z2,p1,q1,p2,q2,H1,H2,rfl,_,ho1,_,ez1,_,gg1,_,_⟩:=(m5.keep0 rnodes_ok g1).get hcl;obtain ⟨o',_,_,_,_,rfl,_,_,_,_,_,_,ho12,_⟩:=gg1.all hm0;have hX:JF w i w.sess[i]=bif decide (w.sess[i].wait.time>0) then
    (bif DI u.tag w.sess[i].wait then (bif DI w.places[k].chain[0].store[m].tag w.sess[i].wait then some (setS w i ⟨w.sess[i].place,w.sess[i].past,⟨0,0⟩,0⟩ []) else none)
    else (bif CR w 1 then some (setS w i ⟨w.sess[i].place,Ek w.sess[i].past m w.sess[i].wait,⟨0,0⟩,0⟩ [⟨i,3,w.sess[i].key,w.sess[i].wait⟩]) else none)) else none:=by
  have hhd:(Ez w.places[k].chain)[m]?=some w.places[k].chain[0].store[m]:=by unfold Ez;rw[Dj hcl];exact Dj hm0
  unfold JF;rw[hpl,hkey,Bd,Bd,Dj hk];simp only[hsh,hhd]
 generalize hXX:JF w i w.sess[i]=X at hX;obtain ⟨Hq,mq⟩:=H.up0 m5.drop;simp only[Ver.cs] at e5;rw[Ae hi,Ad,Bd,hld',Ad,Aa,Ab,Aa,es',Aa,Ab,Aa,Ab,Aa,Ab,Ah];by_cases hw:¬ w.sess[i].wait.time>0
 ·have:w.sess[i].wait.time=0:=by simp[B8,Ai] at t3;omega
  rw[this,IB,Ao];exact H.stay (by rw[hX,decide_eq_false hw];rfl)
 have hw:w.sess[i].wait.time>0:=by omega
 rw[decide_eq_true hw,cond_true] at hX;rw[show (w.sess[i].wait.time==0)=false by rw[beq_eq_false_iff_ne];omega,Ax,hpl,Ae hk,Ad,Bd,hc2,Ad,Aa,e1,Ah,hkey,e5,Ac,AR,Aa,Ab,Aa,Ab,Aa,Ab,Aa,Ag,Aa,BG,Aa,AL,Ah,Cm ⟨by omega,by omega⟩,Ad,ho1,Ad,Aa,Ah,ez1,Ae hm0,Ad,Bd,ho12,Ad,Aa,Ab,Aa,Ab,Ah,Ci,Ac,At];cases hA:FM u.tag.time u.tag.place w.sess[i].wait.time w.sess[i].wait.place with
 | true =>
  rw[show DI u.tag w.sess[i].wait=true from hA,cond_true] at hX;rw[Ao,Ci,Ac,At];cases hB:FM w.places[k].chain[0].store[m].tag.time w.places[k].chain[0].store[m].tag.place w.sess[i].wait.time w.sess[i].wait.place with
  | false =>rw[show DI w.places[k].chain[0].store[m].tag w.sess[i].wait=false from hB,cond_false] at hX;rw[Ax];obtain ⟨cs',h',F',e,W,M,N⟩:=Hq.stay hX;exact ⟨cs',h',F',e,W,mq.trans M,N⟩
  | true =>rw[show DI w.places[k].chain[0].store[m].tag w.sess[i].wait=true from hB,cond_true] at hX;obtain ⟨h7,F7,e7,q7,m7⟩:=Hq.wait hi ⟨0,0⟩ 0;rw[Ao,Ci,Ac,At,hA,Ao,Ci,Ac,At,hA,Ao];simp only[] at e7;rw[e7,hX];refine ⟨_,h7,_,rfl,?_,mq.trans m7,λg=>by first | cases g | (simp at g)⟩;have W:=q7.at;simp only[World.cs,zdK] at W;simpa only [setS,zep,zdS] using W
 | false =>
  rw[show DI u.tag w.sess[i].wait=false from hA,cond_false] at hX;rw[Ax,Ci,Ac,At,hA,Ax];by_cases hh:(w.hist.length:Int)>=80
  ·rw[Al hh];obtain ⟨cs',h',F',e,W,M,N⟩:=Hq.stay (X:=X) (by rw[hX,show CR w 1=false from decide_eq_false (by omega)];rfl);exact ⟨cs',h',F',e,W,mq.trans M,N⟩
  rw[show CR w 1=true from decide_eq_true (by omega),cond_true] at hX;obtain ⟨x6,y6,h6,F6,e6,r6,m6⟩:=Lu (lo:=lo) (k:=m) (t:=w.sess[i].wait) (m5.keep0 rtags_ok hv') (by omega) Hq.hl (by omega);obtain ⟨h7,F7,e7,q7,m7,_⟩:=Hq.past hi m6 r6;obtain ⟨a8,c8,h8,F8,e8,q8,m8,_⟩:=Gy (d:=⟨i,3,(m:Nat),w.sess[i].wait⟩) q7 (by show w.hist.length<=1000;omega);have hi8:i<(w.sess.set i ⟨w.sess[i].place,Ek w.sess[i].past m w.sess[i].wait,w.sess[i].wait,w.sess[i].key⟩).length:=by simpa using hi
  obtain ⟨h9,F9,e9,q9,m9⟩:=q8.wait hi8 ⟨0,0⟩ 0;have W:=q9.at;simp only[World.cs,zdK] at e8 e9;simp only[World.cs,zdK,zel,zem] at W;rw[Ak hh,Ci,Ac,At,hA,Ax,e6,Ac,AR,Aa,Ag,Ah,e7,e8,Ac,AR,Aa,Ag,Aa,Ag,Aa,Ag,Aa,Ag,Ah,e9,hX];refine ⟨_,h9,_,rfl,?_,mq.trans ((m7.trans m8).trans m9),λg=>by first | cases g | (simp at g)⟩;simpa only [setS,zep,hkey] using W
end


section
variable {lo:Nat}{h h':Heap}{w:World}{a1 a2 a3 a4 a:Pq}{c1 c2 c3 c4 c:Nq}{F1 F2 F3 F4:List Nat}
theorem Vy {kind num key:Int}{text:ByteArray}{gone:Bool}{i:Nat} (H:WR lo h w a1 c1 a2 c2 a3 c3 a4 c4 F1 F2 F3 F4) (hg:Fits w) (hi:i<w.sess.length) :
  ∃ cs' h' F',Af lo 251 [.agg (w.cs a1 c1 a2 c2 a3 c3 a4 c4),.agg [Iv kind,Iv (i:Nat),Iv num,Iv key,.str text,.bool gone]] h=some (.tup [.agg cs',.bool (Fv w i w.sess[i] ⟨kind,(i:Nat),num,key,text,gone⟩).isSome],h') /\
   Qn lo h' cs' ((Fv w i w.sess[i] ⟨kind,(i:Nat),num,key,text,gone⟩).getD w) F'/\Mv h (F1++(F2++(F3++F4))) h' F'/\((Fv w i w.sess[i] ⟨kind,(i:Nat),num,key,text,gone⟩)=none->cs'=w.cs a1 c1 a2 c2 a3 c3 a4 c4):=by
 suffices hk:∃ cs' h' F',_=some (V.tup [.agg cs',.bool (Fv w i w.sess[i] ⟨kind,(i:Nat),num,key,text,gone⟩).isSome],h')/\Qn lo h' cs' ((Fv w i w.sess[i] ⟨kind,(i:Nat),num,key,text,gone⟩).getD w) F'/\Mv h (F1++(F2++(F3++F4))) h' F'/\((Fv w i w.sess[i] ⟨kind,(i:Nat),num,key,text,gone⟩)=none->cs'=w.cs a1 c1 a2 c2 a3 c3 a4 c4) from by obtain ⟨cs',h',F',e,hr⟩:=hk;exact ⟨cs',h',F',SU e,hr⟩
 have hso:=hg.ok.sess _ (zc7 hi);obtain ⟨t1,t2,t3,t4,t5,t6⟩:=Bv hso;have hp4:=Bc t2;have h80:=hg.ok.h80;obtain ⟨k,hpl⟩:∃ k:Nat,w.sess[i].place=(k:Int):=⟨w.sess[i].place.toNat,by omega⟩;have hk:k<w.places.length:=by have:=hg.ok.p3;omega
 obtain ⟨hpo,hme,hro⟩:=hg.at hk;have hn:=(Ea (By hpo) (by decide) (by decide) (by decide)).1;have hn1:=hn.1.1;have hch:=chain_iff.1 (AO hpo).2.2.2.1;have hst:∀ x∈w.places[k].chain,Bb x.store=true:=λx hx=>(AW ((CM (AO hpo).2.2.2.1).2 x hx)).1
 obtain ⟨b',i',v,e1',d1',Gs,rfl,hld',_,_,es',hv',_,hGn,puts⟩:=H.sess hi;obtain ⟨b,j,s1,s2,s3,b1,d1,b2,d2,b3,d3,G1,G2,G3,rfl,_,hc2,_,e1,e2,e3,g1,g2,g3,nd,hF,put⟩:=H.place hk;have hX:Fv w i w.sess[i] ⟨kind,(i:Nat),num,key,text,gone⟩=bif !decide (w.sess[i].wait.time>0)&&(Ai key 0 3&&(Ai num 0 ((w.places[k].chain.length:Int) - 1)&&CR w 1)) then
   (match Gz w.places[k].chain num.toNat key.toNat,w.sess[i].past[key.toNat]? with
   | some v,some t=>bif DI v.tag t then none else some (setS w i ⟨w.sess[i].place,Lx w.sess[i] v key.toNat,w.sess[i].wait,w.sess[i].key⟩ [⟨i,2,key,v.tag⟩])
   | _,_=>none) else none:=by
  unfold Fv;rw[hpl,Bd,Dj hk]<;>rfl
 generalize hXX:Fv w i w.sess[i] ⟨kind,(i:Nat),num,key,text,gone⟩=X at hX;rw[Ae hi,Ad,Bd,hld',Ad,Aa,Ab,Aa,es',Aa,Ab,Aa,Ab,Aa,Ab,Ah,hpl,Ae hk,Ad,Bd,hc2,Ad,Aa,e1,Ah];by_cases hw:w.sess[i].wait.time>0
 ·rw[Al hw];exact H.stay (by rw[hX,decide_eq_true hw];rfl)
 rw[decide_eq_false hw,zd3,zdk] at hX;rw[Ak hw,Ca,Ac,At];cases hwk:Ai key 0 3 with
 | false=>rw[Ax];exact H.stay (by rw[hX,hwk];rfl)
 | true =>
 rw[hwk,zdk] at hX;rw[Ao,wr (by omega) (by omega),Ca,Ac,At];cases hwn:Ai num 0 ((w.places[k].chain.length:Int) - 1) with
 | false=>rw[Ax];exact H.stay (by rw[hX,hwn];rfl)
 | true =>
 rw[hwn,zdk] at hX;rw[Ao];by_cases hh:(w.hist.length:Int)>=80
 ·rw[Al hh];exact H.stay (by rw[hX,show CR w 1=false from decide_eq_false (by omega)];rfl)
 rw[show CR w 1=true from decide_eq_true (by omega),cond_true] at hX;simp only[Ai,CP,decide_eq_true_eq] at hwk hwn;obtain ⟨m,rfl⟩:∃ m:Nat,key=(m:Int):=⟨key.toNat,by omega⟩;obtain ⟨n,rfl⟩:∃ n:Nat,num=(n:Int):=⟨num.toNat,by omega⟩;have hmp:m<w.sess[i].past.length:=by omega
 obtain ⟨u,x5,y5,h1,G5,e5,hsh,r5,m5⟩:=MA (lo:=lo) (k:=n) (key:=m) g1 (by omega) hst (by omega) H.hl hn1;obtain ⟨Hq,mq⟩:=H.up0 m5.drop;rw[Bd,Bd,hsh,Dj hmp] at hX;simp only[] at hX;have hu4:BJ u.past=true\/u.tag.time=0:=by
  have hql:BE w.places[k].chain n<w.places[k].chain.length:=by unfold BE;split<;>omega
  unfold Gz at hsh;rw[C6 hql] at hsh;rcases Cp (Jm (hst _ (zc7 hql)) hsh) with g | g
  ·exact .inr (DK g).1
  ·exact .inl (AZ g.1).2.2.2.1
 obtain ⟨o',ho',ho2⟩:=(m5.keep0 rtags_ok hv').get hmp;subst ho';simp only[Ver.cs] at e5;rw[Ak hh,e5,Ac,AR,Aa,Ab,Aa,Ab,Aa,Ab,Aa,Ag,Aa,BG,Aa,AL,Ah,Ae hmp,Ad,Bd,ho2,Ad,Aa,Ab,Aa,Ab,Ah,Ci,Ac,At];cases hA:FM u.tag.time u.tag.place w.sess[i].past[m].time w.sess[i].past[m].place with
 | true =>rw[show DI u.tag w.sess[i].past[m]=true from hA,cond_true] at hX;rw[Ao];obtain ⟨cs',h',F',e,W,M,N⟩:=Hq.stay hX;exact ⟨cs',h',F',e,W,mq.trans M,N⟩
 | false =>
 rw[show DI u.tag w.sess[i].past[m]=false from hA,cond_false] at hX;rw[Ax];unfold Lx at hX;by_cases ht:u.tag.time>0
 ·rw[decide_eq_true ht,cond_true] at hX;have hu4':u.past.length=4:=Bc (hu4.resolve_right (by omega));obtain ⟨q6,x6,y6,h6,F6,e6,r6,m6⟩:=VG (lo:=lo) (m5.keep0 rtags_ok hv') r5 hp4 hu4' Hq.hl;obtain ⟨x7,y7,es7,r7⟩:=r6.form;have hj:(Di w.sess[i].past u.past).length=4:=by unfold Di;rw[zeI];omega
  obtain ⟨x8,y8,h8,F8,e8,r8,m8⟩:=Lu (lo:=lo) (k:=m) (t:=u.tag) r7 (by omega) (zc8 Hq.hl m6.le) (by omega);obtain ⟨h9,F9,e9,q9,m9,_⟩:=Hq.past hi (m6.drop.trans m8) r8;obtain ⟨x10,y10,h10,F10,e10,q10,m10,_⟩:=Gy (d:=⟨i,2,(m:Nat),u.tag⟩) q9 (by show w.hist.length<=1000;omega);have W:=q10.at;simp only[World.cs,zdK] at e10 W;rw[Al ht,e6,Ac,AR,Aa,es7,Ah,e8,Ac,AR,Aa,Ag,Ah,e9,e10,Ac,AR,Aa,Ag,Aa,Ag,Aa,Ag,Aa,Ag,Ah,hX];exact ⟨_,h10,_,rfl,W,mq.trans (m9.trans m10),λg=>by first | cases g | (simp at g)⟩
 ·rw[decide_eq_false ht,cond_false] at hX;obtain ⟨x10,y10,h10,F10,e10,q10,m10,_⟩:=Gy (d:=⟨i,2,(m:Nat),u.tag⟩) Hq (by omega);have W:=q10.at;simp only[World.cs] at e10 W;have hse:w.sess.set i ⟨w.sess[i].place,w.sess[i].past,w.sess[i].wait,w.sess[i].key⟩=w.sess:=zet hi;rw[Ak ht,e10,Ac,AR,Aa,Ag,Aa,Ag,Aa,Ag,Aa,Ag,Ah,hX];refine ⟨_,h10,_,rfl,?_,mq.trans m10,λg=>by first | cases g | (simp at g)⟩;simpa only [setS,zep,hse] using W
end


theorem zbg {a b:Tag} (h1:a.time=b.time) (h2:a.place=b.place):a=b:=by cases a;cases b;simp_all
theorem Zb {p q:List Tag}{m:Nat}{a b:Tag} (hu:BP p q=true) (ha:p[m]?=some a) (hb:q[m]?=some b):E7 a b=b:=by
 have:=under_iff.1 hu m a b ha hb;unfold E7 DI;rw[Eu] at this;cases hl:FM a.time a.place b.time b.place with
 | true=>rfl
 | false =>rw[Eu] at hl;show a=b;exact zbg (by omega) (by omega)
theorem SA {p q:List Tag}{m:Nat} (hm:m<p.length) (hq:p.length=q.length) (hu:BP p q=true):Ek (q.take m++p.drop m) m (q[m]'(by omega))=q.take (m+1)++p.drop (m+1):=by
 have h1:(q.take m).length=m:=by simp;omega
 have h2:m<(q.take m++p.drop m).length:=by simp;omega
 have h3:(q.take m++p.drop m)[m]=p[m]:=by rw[zeZ (by omega)];simp[h1]
 rw[L0 h2,h3,Zb hu (Dj hm) (Dj (by omega)),zes _ _ (by omega),h1,zeJ,zeu (by omega),zdq,zdn hm];rfl
theorem NK {i:Nat}{l:List Tag}{m:Nat} (hm:m<l.length):(BY i l).take (m+1)=(BY i l).take m ++ [⟨i,2,(m:Nat),l[m]⟩]:=by
 have hl:(BY i l).length=l.length:=by unfold BY;simp
 rw[zeu (by omega)];congr 2;unfold BY;rw[List.getElem_map,zeS];simp
section
variable {lo:Nat}{h h':Heap}{w:World}{a1 a2 a3 a4 a:Pq}{c1 c2 c3 c4 c:Nq}{F1 F2 F3 F4:List Nat}
theorem WU {kind num key:Int}{text:ByteArray}{gone:Bool}{i:Nat} (H:WR lo h w a1 c1 a2 c2 a3 c3 a4 c4 F1 F2 F3 F4) (hg:Fits w) (hi:i<w.sess.length) :
  ∃ cs' h' F',Af lo 252 [.agg (w.cs a1 c1 a2 c2 a3 c3 a4 c4),.agg [Iv kind,Iv (i:Nat),Iv num,Iv key,.str text,.bool gone]] h=some (.tup [.agg cs',.bool (JL w i w.sess[i]).isSome],h') /\
   Qn lo h' cs' ((JL w i w.sess[i]).getD w) F'/\Mv h (F1++(F2++(F3++F4))) h' F'/\((JL w i w.sess[i])=none->cs'=w.cs a1 c1 a2 c2 a3 c3 a4 c4):=by
 suffices hk:∃ cs' h' F',_=some (V.tup [.agg cs',.bool (JL w i w.sess[i]).isSome],h')/\Qn lo h' cs' ((JL w i w.sess[i]).getD w) F'/\Mv h (F1++(F2++(F3++F4))) h' F'/\((JL w i w.sess[i])=none->cs'=w.cs a1 c1 a2 c2 a3 c3 a4 c4) from by obtain ⟨cs',h',F',e,hr⟩:=hk;exact ⟨cs',h',F',Va e,hr⟩
 have hso:=hg.ok.sess _ (zc7 hi);obtain ⟨t1,t2,t3,t4,t5,t6⟩:=Bv hso;have hp4:=Bc t2;have h80:=hg.ok.h80;obtain ⟨k,hpl⟩:∃ k:Nat,w.sess[i].place=(k:Int):=⟨w.sess[i].place.toNat,by omega⟩;have hk:k<w.places.length:=by have:=hg.ok.p3;omega
 obtain ⟨hpo,hme,hro⟩:=hg.at hk;have hn:=(Ea (By hpo) (by decide) (by decide) (by decide)).1;have hn1:=hn.1.1;have hch:=chain_iff.1 (AO hpo).2.2.2.1;have hpos:=hch.pos;have hX:JL w i w.sess[i]=bif !decide (w.sess[i].wait.time>0)&&(BP w.sess[i].past (A3 w.places[k].chain)&&CR w 4) then some (setS w i ⟨w.sess[i].place,A3 w.places[k].chain,w.sess[i].wait,w.sess[i].key⟩ (BY i (A3 w.places[k].chain))) else none:=by unfold JL;rw[hpl,Bd,Dj hk]
 obtain ⟨b',i',v,e1',d1',Gs,rfl,hld',_,_,es',hv',_,hGn,puts⟩:=H.sess hi;obtain ⟨b,j,s1,s2,s3,b1,d1,b2,d2,b3,d3,G1,G2,G3,rfl,_,hc2,_,e1,e2,e3,g1,g2,g3,nd,hF,put⟩:=H.place hk;have hlast:=GT (l:=w.places[k].chain) (by omega);have hs4:=(hch.store (Dj (show w.places[k].chain.length - 1<w.places[k].chain.length by omega))).2;obtain ⟨o,z1,z2,p1,q1,p2,q2,H1,H2,rfl,_,ho1,_,ez1,_,gg1,_,hH1,_⟩:=g1.get (show w.places[k].chain.length - 1<w.places[k].chain.length by omega);generalize hst:(w.places[k].chain[w.places[k].chain.length - 1]'(by omega)).store=store at hlast hs4 ez1 gg1;obtain ⟨tv,h1,T1,e5,r5,m5⟩:=PV (lo:=h.length) gg1 (zdb _) (by omega);obtain ⟨x5,y5,es5,r5⟩:=r5.form;obtain ⟨Hq,mq⟩:=H.up0 m5.drop;rw[hlast] at hX;have htl:(Br store).length=4:=by unfold Br;rw[zer];exact hs4
 have loop:∀ (r m:Nat) (hh:Heap) (x1:Pq) (y1:Nq) (x2:Pq) (y2:Nq) (x3:Pq) (y3:Nq) (x4:Pq) (y4:Nq) (K1 K2 K3 K4:List Nat),m+r=4->BP w.sess[i].past (Br store)=true->w.hist.length<=76 ->
   WR lo hh (setS w i ⟨w.sess[i].place,(Br store).take m++w.sess[i].past.drop m,w.sess[i].wait,w.sess[i].key⟩ ((BY i (Br store)).take m)) x1 y1 x2 y2 x3 y3 x4 y4 K1 K2 K3 K4 ->
   RVers false hh [.sl 6 p1 store.length q1] store H1->(∀ y∈H1,y∈K1) ->
   ∃ cs' h' F',DR lo (m:Nat) x1 w.places.length y1 x2 w.sess.length y2 x3 w.net.length y3 x4 (w.hist++(BY i (Br store)).take m).length y4 kind (i:Nat) num key text gone 0 none 0 (some 0) 0 none 0 (some 0) 0 none 0 (some 0) 0 none 0 (some 0) p1 store.length q1 hh=some (V.tup [.agg cs',.bool true],h') /\
    Qn lo h' cs' (setS w i ⟨w.sess[i].place,Br store,w.sess[i].wait,w.sess[i].key⟩ (BY i (Br store))) F'/\Mv hh (K1++(K2++(K3++K4))) h' F':=by
  intro r;induction r with
  | zero =>
   intro m hh x1 y1 x2 y2 x3 y3 x4 y4 K1 K2 K3 K4 hm hu hl Hm hv hK;have:m=4:=by omega
   subst this;have hrl:(BY i (Br store)).length=4:=by unfold BY;simpa using htl
   have W:=Hm.at;rw[zdC (by omega),zdV (by omega),zdS,zdC (by omega)] at W;refine ⟨_,hh,_,?_,W,Mv.refl Hm.nd⟩;rw[DR.e,Ak (by omega),zdC (by omega)];simp only[World.cs,setS,zdK]
  | succ r ih =>
   intro m hh x1 y1 x2 y2 x3 y3 x4 y4 K1 K2 K3 K4 hm hu hl Hm hv hK;have him:i<(setS w i ⟨w.sess[i].place,(Br store).take m++w.sess[i].past.drop m,w.sess[i].wait,w.sess[i].key⟩ ((BY i (Br store)).take m)).sess.length:=by simpa [setS] using hi
   obtain ⟨b0,i0,v0,e0,d0,G0,rfl,_,hld1,_,es0,hv0,_,_,_⟩:=Hm.sess him;have hss:(setS w i ⟨w.sess[i].place,(Br store).take m++w.sess[i].past.drop m,w.sess[i].wait,w.sess[i].key⟩ ((BY i (Br store)).take m)).sess[i]=⟨w.sess[i].place,(Br store).take m++w.sess[i].past.drop m,w.sess[i].wait,w.sess[i].key⟩:=by simp[setS]
   have hpl4:((Br store).take m++w.sess[i].past.drop m).length=4:=by simp;omega
   have hms:m<store.length:=by omega
   obtain ⟨o',_,_,_,_,ho',_,_,_,_,_,_,ho12,_⟩:=hv.all hms;have htm:(Br store)[m]'(by omega)=store[m].tag:=by unfold Br;rw[List.getElem_map]
   rw[hss] at es0 hv0;have es0:∀ {R':Type} (K:Pq->Nat->Nq->Option R'),eS 2 v0 K=K e0 ((Br store).take m++w.sess[i].past.drop m).length d0:=es0;have hv0:RTags false hh [.sl 2 e0 ((Br store).take m++w.sess[i].past.drop m).length d0] ((Br store).take m++w.sess[i].past.drop m) G0:=hv0;obtain ⟨x8,y8,h8,F8,e8,r8,m8⟩:=Lu (lo:=lo) (k:=m) (t:=store[m].tag) hv0 (by omega) Hm.hl (by omega);rw[<- htm,SA (by omega) (by omega) hu] at r8;obtain ⟨h9,F9,e9,q9,m9,s9⟩:=Hm.past him m8 r8;have hv9:=rvers_ok.fr _ _ _ _ _ hv λy hy=>s9 y (hK y hy);obtain ⟨o9,_,_,_,_,ho9,_,_,_,_,_,_,ho129,_⟩:=hv9.all hms;have:o'=o9:=by rw[ho'] at ho9;injection ho9
   subst this;have hrt:((BY i (Br store)).take m).length<=4:=by rw[zdr];omega
   obtain ⟨x10,y10,h10,F10,e10,q10,m10,s10⟩:=Gy (d:=⟨i,2,(m:Nat),store[m].tag⟩) q9 (by show (w.hist++_).length<=1000;rw[zdt];omega);have hv10:=rvers_ok.fr _ _ _ _ _ hv9 λy hy=>s10 y (hK y hy);simp only[setS,zel,zem,zdq] at q10;rw[<- htm,<- NK (by omega)] at q10;obtain ⟨cs',h',F',e,W,M⟩:=ih (m+1) h10 _ _ _ _ _ _ _ _ _ _ _ _ (by omega) hu hl q10 hv10 hK;refine ⟨cs',h',F',?_,W,(m9.trans m10).trans M⟩;simp only[World.cs,setS,zdK] at e9 e10;rw[hpl4] at es0 e8 e9;have hw8:(Ek ((Br store).take m++w.sess[i].past.drop m) m store[m].tag).length=4:=by rw[YM];exact hpl4
   rw[DR.e,Al (by omega),Ae hi,Ad,Bd,hld1,Ad,Aa,es0,Ah,Ae hms,ho',Ad,Bd,ho12,Ad,Aa,Ab,Aa,Ab,Ah,e8,Ac,AR,Aa,Ag,Ah,e9,Ae hms,Ad,ho129,Ad,Aa,Ab,Aa,Ab,Ah,e10,Ac,AR,Aa,Ag,Aa,Ag,Aa,Ag,Aa,Ag,Ah,Ar (by omega),<- ho'];rw[zdq,<- htm,<- NK (by omega)];exact e
 rw[Ae hi,Ad,Bd,hld',Ad,Aa,Ab,Aa,es',Aa,Ab,Aa,Ab,Aa,Ab,Ah,hpl,Ae hk,Ad,Bd,hc2,Ad,Aa,e1,Ah,wr (by omega) (by omega),Cm ⟨by omega,by omega⟩,Ad,show ((w.places[k].chain.length:Int) - 1).toNat=w.places[k].chain.length - 1 by omega,ho1,Ad,Aa,ez1,Ah];by_cases hw:w.sess[i].wait.time>0
 ·rw[Al hw];exact H.stay (by rw[hX,decide_eq_true hw];rfl)
 rw[decide_eq_false hw,zd3,zdk] at hX;rw[Ak hw,e5,Ac,AR,Aa,es5,Ah,Kc (m5.keep0 rtags_ok hv') r5 hp4 htl,Ac,At];cases hu:BP w.sess[i].past (Br store) with
 | false =>rw[Ax];obtain ⟨cs',h',F',e,W,M,N⟩:=Hq.stay (X:=JL w i w.sess[i]) (by rw[hX,hu];rfl);exact ⟨cs',h',F',e,W,mq.trans M,N⟩
 | true =>
 rw[hu,zdk] at hX;rw[Ao,wr (by omega) (by omega)];by_cases hh:(w.hist.length:Int)+4>80
 ·rw[Al hh];obtain ⟨cs',h',F',e,W,M,N⟩:=Hq.stay (X:=JL w i w.sess[i]) (by rw[hX,show CR w 4=false from decide_eq_false (by omega)];rfl);exact ⟨cs',h',F',e,W,mq.trans M,N⟩
 rw[show CR w 4=true from decide_eq_true (by omega),cond_true] at hX;have h0:setS w i ⟨w.sess[i].place,(Br store).take 0++w.sess[i].past.drop 0,w.sess[i].wait,w.sess[i].key⟩ ((BY i (Br store)).take 0)=w:=by have hse:w.sess.set i ⟨w.sess[i].place,w.sess[i].past,w.sess[i].wait,w.sess[i].key⟩=w.sess:=zet hi;simp only[setS,List.take_zero,zdE,zdX,zdS,hse]
 have hH1:∀ y∈H1,y∈F1:=λy hy=>(hF y (zd5 _ (hH1 y hy))).2.2
 obtain ⟨cs',h',F',e,W,M⟩:=loop 4 0 h1 _ _ _ _ _ _ _ _ _ _ _ _ (by omega) hu (by omega) (by rw[h0];exact Hq) (m5.keep0 rvers_ok gg1) hH1;simp only[List.take_zero,zdS] at e;rw[Ak hh,hX];exact ⟨cs',h',F',e,W,mq.trans M,λg=>by first | cases g | (simp at g)⟩
theorem PM {F:List Nat}{cs:List V}{X:Option World}{t:Ov} (ht:∃ cs' h' F',t=some (.tup [.agg cs',.bool X.isSome],h')/\Qn lo h' cs' (X.getD w) F'/\Mv h F h' F'/\(X=none->cs'=cs)) :
  ∃ cs' h' F',(Aj t λv_2 h_3=>eU v_2 λc_4=>eC c_4 λv_5 l_6=>eA v_5 λc_7=>eC c_7 λv_8 l_9=>eS 6 (v_8) λa_10 n_11 c_12=>eC l_9 λv_13 l_14=>eS 5 (v_13) λa_15 n_16 c_17=>eC l_14 λv_18 l_19=>eS 9 (v_18) λa_20 n_21 c_22=>eC l_19 λv_23 l_24=>eS 5 (v_23) λa_25 n_26 c_27=>eN l_24 (eC l_6 λv_28 l_29=>eB v_28 (eN l_29 (some (V.tup [.agg [.sl 6 a_10 n_11 c_12,.sl 5 a_15 n_16 c_17,.sl 9 a_20 n_21 c_22,.sl 5 a_25 n_26 c_27],.bool true],h_3))) (eN l_29 (some (V.tup [.agg [.sl 6 a_10 n_11 c_12,.sl 5 a_15 n_16 c_17,.sl 9 a_20 n_21 c_22,.sl 5 a_25 n_26 c_27],.bool false],h_3)))))=some (.tup [.agg cs',.bool X.isSome],h')/\Qn lo h' cs' (X.getD w) F'/\Mv h F h' F'/\(X=none->cs'=cs):=by
 obtain ⟨cs',h',F',rfl,W,M,N⟩:=ht;refine ⟨cs',h',F',?_,W,M,N⟩;obtain ⟨x1,y1,x2,y2,x3,y3,x4,y4,K1,K2,K3,K4,rfl,_,_⟩:=W;rw[Ac,HA,Aa,AR,Aa,Ag,Aa,Ag,Aa,Ag,Aa,Ag,Ah,Aa,At];cases X.isSome
 ·rw[Ax,Ah]
 ·rw[Ao,Ah]
theorem SF {e:Event} (H:WR lo h w a1 c1 a2 c2 a3 c3 a4 c4 F1 F2 F3 F4) (hg:Fits w) (ht:e.text.size<=1048576) :
  ∃ cs' h' F',Af lo 184 [.agg (w.cs a1 c1 a2 c2 a3 c3 a4 c4),.agg e.cs] h=some (.tup [.agg cs',.bool (DV w e).isSome],h')/\Qn lo h' cs' ((DV w e).getD w) F'/\Mv h (F1++(F2++(F3++F4))) h' F'/\((DV w e)=none->cs'=w.cs a1 c1 a2 c2 a3 c3 a4 c4):=by
 obtain ⟨kind,at',num,key,text,gone⟩:=e;suffices hk:∃ cs' h' F',_=some (V.tup [.agg cs',.bool (DV w ⟨kind,at',num,key,text,gone⟩).isSome],h')/\Qn lo h' cs' ((DV w ⟨kind,at',num,key,text,gone⟩).getD w) F'/\Mv h (F1++(F2++(F3++F4))) h' F'/\((DV w ⟨kind,at',num,key,text,gone⟩)=none->cs'=w.cs a1 c1 a2 c2 a3 c3 a4 c4) from by obtain ⟨cs',h',F',e,hr⟩:=hk;exact ⟨cs',h',F',Qo e,hr⟩
 have hs4:=hg.ok.s4;unfold DV;rw[wr (by omega) (by omega),Ca,Ac,At];cases hat:Ai at' 0 ((w.sess.length:Int) - 1) with
 | false=>rw[Ax];exact H.stay rfl
 | true =>
 simp only[Ai,CP,decide_eq_true_eq] at hat;obtain ⟨i,rfl⟩:∃ i:Nat,at'=(i:Int):=⟨at'.toNat,by omega⟩;have hi:i<w.sess.length:=by omega
 rw[Ao,cond_true,Bd,Dj hi];simp only[];cases h1:kind==1 with
 | true=>rw[Ao,cond_true];exact PM (Ul H hg ht hi)
 | false =>
 rw[Ax,cond_false];cases h2:kind==2 with
 | true=>rw[Ao,cond_true];exact PM (WT H hg hi)
 | false =>
 rw[Ax,cond_false];cases h3:kind==3 with
 | true=>rw[Ao,cond_true];exact PM (Vy H hg hi)
 | false =>
 rw[Ax,cond_false];cases h4:kind==4 with
 | true=>rw[Ao,cond_true];exact PM (WU H hg hi)
 | false =>
 rw[Ax,cond_false];obtain ⟨b',i',v,e1',d1',Gs,rfl,_,_,hld2,es',hv',hv,hGn,puts⟩:=H.sess hi;rw[Ae hi,Ad,hld2,Ad,Aa,Ah,Ab];unfold Rt;by_cases hw:w.sess[i].wait.time>0
 ·rw[Al hw];exact H.stay (by rw[decide_eq_true hw];rfl)
 rw[Ak hw,decide_eq_false hw,zd3,zdk,Ca,Ac,At];cases hwn:Ai num 0 2 with
 | false=>rw[Ax];exact H.stay rfl
 | true =>
 obtain ⟨h2',F5,e2,q2,m2,_⟩:=puts h Gs 0 [Iv num] [Iv num,v,Iv w.sess[i].wait.time,Iv w.sess[i].wait.place,Iv w.sess[i].key] ⟨num,w.sess[i].past,w.sess[i].wait,w.sess[i].key⟩ (Mv.refl hGn) rfl ⟨v,rfl,hv⟩;have W:=q2.at;simp only[World.cs,zdK] at W;rw[Ao,Ae hi,Ad,e2,Ad,cond_true];refine ⟨_,h2',_,rfl,?_,m2,λg=>by first | cases g | (simp at g)⟩;simpa only [setS,zep,zdS] using W
theorem Tu {e:Event} (H:WR lo h w a1 c1 a2 c2 a3 c3 a4 c4 F1 F2 F3 F4) (hg:Fits w) (ht:e.text.size<=1048576) :
  ∃ cs' h' F',Af lo 102 [.agg (w.cs a1 c1 a2 c2 a3 c3 a4 c4),.agg e.cs] h=some (.tup [.agg cs',.bool (DZ w e).isSome],h')/\Qn lo h' cs' (Mh w e) F'/\Mv h (F1++(F2++(F3++F4))) h' F'/\((DZ w e)=none->cs'=w.cs a1 c1 a2 c2 a3 c3 a4 c4):=by
 have hc:=SF H hg ht;have hp:=Um (e:=e) H hg;have hn:=WS (e:=e) H hg;obtain ⟨kind,at',num,key,text,gone⟩:=e;unfold Mh;suffices hk:∃ cs' h' F',_=some (V.tup [.agg cs',.bool (DZ w ⟨kind,at',num,key,text,gone⟩).isSome],h')/\Qn lo h' cs' ((DZ w ⟨kind,at',num,key,text,gone⟩).getD w) F'/\Mv h (F1++(F2++(F3++F4))) h' F'/\((DZ w ⟨kind,at',num,key,text,gone⟩)=none->cs'=w.cs a1 c1 a2 c2 a3 c3 a4 c4) from by obtain ⟨cs',h',F',e,hr⟩:=hk;exact ⟨cs',h',F',WH e,hr⟩
 rw[Ca,Ac,At];unfold DZ;cases h1:Ai kind 1 5 with
 | true=>rw[Ao,cond_true];exact PM hc
 | false =>
 rw[Ax,cond_false,Ca,Ac,At];cases h2:Ai kind 6 9 with
 | true=>rw[Ao,cond_true];exact PM hp
 | false =>
 rw[Ax,cond_false,Ca,Ac,At];unfold VU at hn;cases h3:kind==10 with
 | true =>
  have h4:Ai kind 10 13=true:=by rw[beq_iff_eq] at h3;subst h3;rfl
  simp only[h3,cond_true] at hn;rw[h4,Ao,cond_true];exact PM hn
 | false =>
  simp only[h3,cond_false] at hn;rw[cond_false];cases h4:Ai kind 11 13 with
  | true =>
   have h5:Ai kind 10 13=true:=by simp[Ai] at h4 ⊢;omega
   rw[h5,Ao,cond_true];exact PM hn
  | false =>
   have h5:Ai kind 10 13=false:=by rw[beq_eq_false_iff_ne] at h3;simp[Ai] at h4 ⊢;omega
   rw[h5,Ax];exact H.stay rfl
end


def NP (m:Nat) (n:Nat):Place:=⟨(m:Int),0,List.replicate n ⟨KI,[]⟩,[],[[],[],[]],false⟩
def zbz (i:Nat):Sess:=⟨((i % 3:Nat):Int),TJ,⟨0,0⟩,0⟩
def Dw (n s:Nat):World:=⟨(List.range 3).map λi=>NP i n,(List.range s).map zbz,[],[]⟩
theorem zbA {m n:Nat} (h1:1<=n) (h4:n<=4) (hm:m<=2):Ay (NP m n)=true:=by
 have hc:∀ n:Fin 5,1<=n.val->∀ m:Fin 3,Ay (NP m.val n.val)=true:=by decide +kernel
 exact hc ⟨n,by omega⟩ h1 ⟨m,by omega⟩
theorem Za {m n:Nat} (h1:1<=n) (h4:n<=4) (hm:m<=2):Roomy (NP m n):=by
 have hz:∀ v,inCh (NP m n).chain v->v.tag.time=0:=λv ⟨x,hx,hv⟩=>by
  have hx:=(List.mem_replicate.1 hx).2;subst hx;rcases hv with hv | hv
  ·have:∀ v∈KI,v.tag.time=0:=by simp[KI,Vs]
   exact this v hv
  ·simp at hv
 refine ⟨⟨[],by simp,by simp[NP],λv hv ht=>by have:=hz v hv;omega⟩,λv hv ht=>?_⟩;have hpos:0<(NP m n).chain.length:=by show 0<(List.replicate _ _).length;rw[zd1];omega
 have hl:=E9 hpos;rw[hl] at hv;have:=hz v ⟨_,zc7 (by omega),.inl hv⟩;omega
theorem zby {i:Nat}:Dl (zbz i)=true:=by
 have hc:∀ m:Fin 3,Dl ⟨((m.val:Nat):Int),TJ,⟨0,0⟩,0⟩=true:=by decide +kernel
 exact hc ⟨i % 3,Nat.mod_lt _ (by decide)⟩
theorem Kq {n s:Nat} (h1:1<=n) (h4:n<=4) (hs:s<=4):Good (Dw n s):=by
 have hp:∀ (i:Nat) (p:Place),(Dw n s).places[i]?=some p->i<3/\p=NP i n:=λi p hp=>by simp only[Dw,zeD,zdN] at hp;obtain ⟨j,hj,rfl⟩:=hp;obtain ⟨hi,rfl⟩:=EA hj;rw[List.length_range] at hi;exact ⟨hi,by rw[List.getElem_range]⟩
 refine ⟨⟨by simp[Dw],by simp[Dw,hs],by simp[Dw],by simp[Dw],λi p h=>?_,λx hx=>?_,by simp[Dw],by simp[Dw],λi p k g h hg=>?_⟩,λp h=>?_⟩
 ·obtain ⟨hi,rfl⟩:=hp i p h;exact ⟨rfl,zbA h1 h4 (by omega)⟩
 ·simp only[Dw,zeX] at hx;obtain ⟨i,_,rfl⟩:=hx;exact zby
 ·obtain ⟨hi,rfl⟩:=hp i p h;refine ⟨EV (Dw n s).places k,?_⟩;have:g = []:=by
   have:(NP i n).got=List.replicate 3 []:=rfl;rw[this,List.getElem?_replicate] at hg;split at hg
   ·injection hg with hg;exact hg.symm
   ·cases hg
  rw[this];rfl
 ·obtain ⟨i,hi⟩:=zdu.1 h;obtain ⟨h3,rfl⟩:=hp i p hi;exact Za h1 h4 (by omega)
section
variable {lo:Nat}{h h':Heap}{w:World}{a1 a2 a3 a4 a:Pq}{c1 c2 c3 c4 c:Nq}{F F' F1 F2 F3 F4:List Nat}
theorem WR.of {cs:List V} (hw:X5 false h cs w F) (hnd:F.Nodup) (hge:∀ y∈F,lo<=y) (hl:lo<=h.length):∃ s1 s2 s3 s4 a1 c1 a2 c2 a3 c3 a4 c4 F1 F2 F3 F4,cs = [s1,s2,s3,s4]/\F=F1++(F2++(F3++F4)) /\
  (∀ {T:Type} (K:Pq->Nat->Nq->Option T),eS 6 s1 K=K a1 w.places.length c1)/\(∀ {T:Type} (K:Pq->Nat->Nq->Option T),eS 5 s2 K=K a2 w.sess.length c2) /\
  (∀ {T:Type} (K:Pq->Nat->Nq->Option T),eS 9 s3 K=K a3 w.net.length c3)/\(∀ {T:Type} (K:Pq->Nat->Nq->Option T),eS 5 s4 K=K a4 w.hist.length c4)/\WR lo h w a1 c1 a2 c2 a3 c3 a4 c4 F1 F2 F3 F4:=by
 obtain ⟨s1,s2,s3,s4,F1,F2,F3,F4,rfl,rfl,r1,r2,r3,r4⟩:=hw;obtain ⟨a1,c1,e1,r1⟩:=r1.form;obtain ⟨a2,c2,e2,r2⟩:=r2.form;obtain ⟨a3,c3,e3,r3⟩:=r3.form;obtain ⟨a4,c4,e4,r4⟩:=r4.form;exact ⟨s1,s2,s3,s4,a1,c1,a2,c2,a3,c3,a4,c4,F1,F2,F3,F4,rfl,rfl,e1,e2,e3,e4,r1,r2,r3,r4,hnd,hge,hl⟩
theorem WV {m n:Nat} (h1:1<=n) (h4:n<=4) :
  ∃ raw b1 d1 b3 d3 h' F',Af lo 216 [Iv (m:Nat),Iv (n:Nat)] h=some (.agg raw,h')/\raw = [Iv (m:Nat),Iv 0,.sl 2 b1 n d1,.sl 0 none 0 (some 0),.sl 1 b3 3 d3,.bool false] /\
   RPlace false h' [Iv (m:Nat),Iv 0,.sl 2 b1 n d1,.sl 6 none 0 (some 0),.sl 1 b3 3 d3,.bool false] (NP m n) F'/\Mv h [] h' F':=by
 obtain ⟨v,h2,F2,e2,r2,m2⟩:=SH (lo:=h.length) (h:=h) h1 h4 (zdb _);obtain ⟨b1,d1,es,r2⟩:=r2.form;rw[zd1] at es r2;have mx:Mv h2 [] (h2 ++ [.rows 1 26 false [[.sl 0 none 0 (some 0)],[.sl 0 none 0 (some 0)],[.sl 0 none 0 (some 0)]]]) [h2.length]:=Mv.last;have m3:=m2.join mx (rnodes_ok.bd _ _ _ _ r2);refine ⟨_,b1,d1,some (h2.length,0),some 3,_,F2 ++ [h2.length],Vb ?_,rfl,⟨_,_,_,F2,[],[h2.length],rfl,rfl,mx.keep0 rnodes_ok r2,Sli.nil,?_⟩,m3⟩
 ·rw[e2,Ac,AR,Aa,es,Ah]
 ·refine ⟨1,some (h2.length,0),some 3,rfl,rfl,[[.sl 0 none 0 (some 0)],[.sl 0 none 0 (some 0)],[.sl 0 none 0 (some 0)]],[[],[],[]],by simp,zdb 3,λk hk=>by injection hk with hk;subst hk;exact ⟨zdb 3,zdb 3⟩,(λhk=>by cases hk),?_,rfl⟩;exact ⟨Sli.nil,Sli.nil,Sli.nil,trivial⟩
end


section
variable {lo:Nat}{h h':Heap}{w:World}{a1 a2 a3 a4 a:Pq}{c1 c2 c3 c4 c:Nq}{F F' F1 F2 F3 F4:List Nat}
theorem Yz {T:Type} (K:Pq->Nat->Nq->Option T):eS 6 (.sl 0 none 0 (some 0)) K=K none 0 (some 0):=rfl
theorem Ra {n s:Nat} (h1:1<=n) (h4:n<=4) (hs:s<=1000) (hl:lo<=h.length):∃ cs h' F',Af lo 146 [Iv (n:Nat),Iv (s:Nat)] h=some (.agg cs,h')/\X5 false h' cs (Dw n s) F'/\Mv h [] h' F':=by
 obtain ⟨q1,x1,y1,h1',F1,e1,r1,m1⟩:=Jw (El:=RPlace false) rplace_ok (h:=h) (l:=List.range 3) (f:=λi=>NP i n) (lo:=lo) (R:=6) (e:=29) (bytes:=96) hl (by decide) (by decide)
  (λi q a n1 c hh=>DQ lo (n:Nat) (s:Nat) (i:Nat) 0 none 0 (some 0) 0 none 0 (some 0) 0 none 0 (some 0) 0 none 0 (some 0) q a n1 c 0 none 0 (some 0) 0 none 0 (some 0) 0 none 0 (some 0) hh) (λi hi q a n1 c hh hm=>by
   rw[List.length_range] at hi;obtain ⟨raw,b1,d1,b3,d3,h2,F2,e2,rfl,r2,m2⟩:=WV (lo:=lo) (h:=hh) (m:=i) h1 h4;refine ⟨[Iv (i:Nat),Iv 0,.sl 2 b1 n d1,.sl 6 none 0 (some 0),.sl 1 b3 3 d3,.bool false],F2,h2 ++ [.rows 6 29 false [[Iv (i:Nat),Iv 0,.sl 2 b1 n d1,.sl 6 none 0 (some 0),.sl 1 b3 3 d3,.bool false]]],by rw[List.getElem_range];exact Mv.snoc.keep0 rplace_ok r2,m2.trans (Mv.snoc' m2.nd),?_⟩;rw[DQ.e,Al (by omega),e2,Ac,AR,Aa,Ab,Aa,Ab,Aa,Ag,Aa,Yz,Aa,Ag,Aa,AL,Ah,A7,Ar (by omega)])
 obtain ⟨q2,x2,y2,h2',F2,e2,r2,m2⟩:=Jw (El:=RSess false) Kn (h:=h1') (l:=List.range s) (f:=zbz) (lo:=lo) (R:=5) (e:=66) (bytes:=56) (zc8 hl m1.le) (by decide) (by rw[List.length_range];omega)
  (λi q a n1 c hh=>DP lo (s:Nat) (i:Nat) 0 none 0 (some 0) 0 none 0 (some 0) 0 none 0 (some 0) 0 none 0 (some 0) q1 x1 3 y1 q a n1 c 0 none 0 (some 0) 0 none 0 (some 0) hh) (λi hi q a n1 c hh hm=>by
   rw[List.length_range] at hi;obtain ⟨h2,q3,e3,t3,m3⟩:=VF (lo:=lo) (h:=hh);have ht:((i:Int).tmod 3)=((i % 3:Nat):Int):=(Int.ofNat_tmod i 3).symm;refine ⟨[Iv ((i % 3:Nat):Int),.sl 2 (some (q3,0)) 4 (some 4),Iv 0,Iv 0,Iv 0],[q3],h2 ++ [.rows 5 66 false [[Iv ((i % 3:Nat):Int),.sl 2 (some (q3,0)) 4 (some 4),Iv 0,Iv 0,Iv 0]]],by rw[List.getElem_range];exact ⟨_,rfl,Mv.snoc.keep0 rtags_ok t3⟩,m3.trans (Mv.snoc' m3.nd),?_⟩;rw[DP.e,Al (by omega),e3,Ac,AR,Aa,Ag,Ah,ht,A7,Ar (by omega)])
 rw[List.length_range] at e1 r1 e2 r2;have m3:=m1.join m2 ((Sli.ok rplace_ok).bd _ _ _ _ r1);refine ⟨[.sl q1 x1 3 y1,.sl q2 x2 s y2,.sl 0 none 0 (some 0),.sl 0 none 0 (some 0)],h2',F1++(F2++([] ++ [])),U7 ?_,⟨_,_,_,_,F1,F2,[],[],rfl,rfl,m2.keep0 rplaces_ok r1,r2,Sli.nil,Sli.nil⟩,by simpa using m3⟩;refine e1.trans ?_;rw[DQ.e,Ak (by omega)];refine e2.trans ?_;rw[DP.e,Ak (by omega)]
end


section
variable {lo:Nat}{h h':Heap}{w:World}{a1 a2 a3 a4 a:Pq}{c1 c2 c3 c4 c:Nq}{F F' F1 F2 F3 F4:List Nat}{b n:Nat}
theorem XK {n2 n3 n4:Nat} (r:Rd lo h b n) (hn:n<=500000) (hp:RPlaces false h [.sl 6 a1 w.places.length c1] w.places F1) (hb:b∉F1) (h3:w.places.length=3) (hgot:∀ p∈w.places,p.got.length=3) :
  ∃ (e:Event) (h':Heap),Af lo 215 [.ptr (some (b,(0,0))),.agg [.sl 6 a1 w.places.length c1,.sl 5 a2 n2 c2,.sl 9 a3 n3 c3,.sl 5 a4 n4 c4]] h=some (.agg e.cs,h')/\e.text.size<=10/\Rd lo h' b (n+20)/\Mv h [b] h' [b]:=by
 suffices hk:∃ (e:Event) (h':Heap),_=some (V.agg e.cs,h')/\e.text.size<=10/\Rd lo h' b (n+20)/\Mv h [b] h' [b] from by obtain ⟨e,h',g,hr⟩:=hk;exact ⟨e,h',Qt g,hr⟩
 obtain ⟨at',h1,e1,g1,g1',r1,m1⟩:=pick r (by omega) 3;obtain ⟨x,h2,e2,g2,g2',r2,m2⟩:=pick r1 (by omega) 20;have m12:=m1.trans m2;have h03:=g1' (by omega);have told:∀ (y:Int) (k:Heap),Af lo 44 [.ptr (some (b,(0,0))),Iv 3] h2=some (Iv y,k)->0<=y->y<3->Rd lo k b (n+1+1+1)->Mv h2 [b] k [b] ->
   ∃ (e:Event) (h':Heap),(Aj (Af lo 44 [.ptr (some (b,(0,0))),Iv 3] h2) λv_0 h_1=>eI .i64 v_0 λn_2=>Ap n_2 w.places.length (eO a1 λo=>eO (ld h_1 o.1 (o.2+n_2.toNat) 4 1) λo=>eC o λo s=>eN s (eS 1 o λo s b=>Ap at' s (eO o λo=>eO (ld h_1 o.1 (o.2+at'.toNat) 0 1) λo=>eC o λo s=>eN s (eS 6 o λo o s=>some (V.agg [Iv 10,Iv at',Iv n_2,Iv ((o:Nat):Int),.str ⟨⟨[]⟩⟩,.bool false],h_1))))))=some (V.agg e.cs,h')/\e.text.size<=10/\Rd lo h' b (n+20)/\Mv h [b] h' [b]:=by
  intro y k f lo1 hi1 q u;obtain ⟨j,rfl⟩:∃ j:Nat,y=(j:Int):=⟨y.toNat,by omega⟩;obtain ⟨i,rfl⟩:∃ i:Nat,at'=(i:Int):=⟨at'.toNat,by omega⟩;have hj:j<w.places.length:=by omega
  have hg3:=hgot _ (zc7 hj);have m3:=m12.trans u;obtain ⟨o,s1,s2,s3,b1,d1,b2,d2,b3,d3,G1,G2,G3,ha,_,_,_,_,ho,_,_,es3,_,_,p3,_⟩:=(m3.keep rplaces_ok hp λy hy hm=>hb (by rw[zdv] at hm;exact hm ▸ hy)).get hj;obtain ⟨o',row,G,ha',ho',hel,_⟩:=p3.read (show i<w.places[j].got.length by omega);obtain ⟨v,rfl⟩:∃ v,row = [v]:=by obtain ⟨R',a',c',e,_⟩:=id hel;exact ⟨_,e⟩
  obtain ⟨b4,d4,es4,_⟩:=hel.form;have ld4:ld k o'.1 (o'.2+i) 0 1=some [v]:=by rw[ho'];rfl
  rw[f,Ac,Ab,Ae hj,ha,Ad,Bd,ho,Ad,Aa,Ah,es3,Ae (by omega),ha',Ad,Bd,ld4,Ad,Aa,Ah,es4];exact ⟨⟨10,(i:Nat),(j:Nat),((w.places[j].got[i]'(by omega)).length:Nat),⟨⟨[]⟩⟩,false⟩,k,rfl,zdA _,q.up (by omega),m3⟩
 rw[e1,Ac,Ab,e2,Ac,Ab];cases x==(0:Int) with
 | true =>rw[Ao];obtain ⟨y1,k1,f1,lo1,hi1,q1,u1⟩:=pick r2 (by omega) 4;obtain ⟨y2,k2,f2,lo2,hi2,q2,u2⟩:=pick q1 (by omega) 4;obtain ⟨y3,k3,f3,g3,q3,u3⟩:=Nc q2 (by omega);rw[f1,Ac,Ab,f2,Ac,Ab,f3,Ac,BG];exact ⟨⟨1,y1,0,y2,y3,false⟩,k3,rfl,zc8 (Gw g3) (by decide),q3.up (by omega),((((m1.trans m2).trans u1).trans u2).trans u3)⟩
 | false =>
 rw[Ax];cases x==(1:Int) with
 | true =>rw[Ao];obtain ⟨y1,k1,f1,lo1,hi1,q1,u1⟩:=pick r2 (by omega) 4;obtain ⟨y2,k2,f2,lo2,hi2,q2,u2⟩:=pick q1 (by omega) 4;obtain ⟨y3,k3,f3,g3,q3,u3⟩:=Nc q2 (by omega);rw[f1,Ac,Ab,f2,Ac,Ab,f3,Ac,BG];exact ⟨⟨1,y1,0,y2,y3,false⟩,k3,rfl,zc8 (Gw g3) (by decide),q3.up (by omega),((((m1.trans m2).trans u1).trans u2).trans u3)⟩
 | false =>
 rw[Ax];cases x==(2:Int) with
 | true =>rw[Ao];obtain ⟨y1,k1,f1,lo1,hi1,q1,u1⟩:=pick r2 (by omega) 4;obtain ⟨y2,k2,f2,lo2,hi2,q2,u2⟩:=pick q1 (by omega) 4;obtain ⟨y3,k3,f3,g3,q3,u3⟩:=Nc q2 (by omega);rw[f1,Ac,Ab,f2,Ac,Ab,f3,Ac,BG];exact ⟨⟨1,y1,0,y2,y3,false⟩,k3,rfl,zc8 (Gw g3) (by decide),q3.up (by omega),((((m1.trans m2).trans u1).trans u2).trans u3)⟩
 | false =>
 rw[Ax];cases x==(3:Int) with
 | true =>rw[Ao];obtain ⟨y1,k1,f1,lo1,hi1,q1,u1⟩:=pick r2 (by omega) 4;obtain ⟨y2,k2,f2,lo2,hi2,q2,u2⟩:=pick q1 (by omega) 4;rw[f1,Ac,Ab,f2,Ac,Ab];exact ⟨⟨1,y1,0,y2,⟨⟨[]⟩⟩,true⟩,k2,rfl,zdA _,q2.up (by omega),(((m1.trans m2).trans u1).trans u2)⟩
 | false =>
 rw[Ax];cases x==(4:Int) with
 | true =>rw[Ao];obtain ⟨y1,k1,f1,lo1,hi1,q1,u1⟩:=pick r2 (by omega) 4;rw[f1,Ac,Ab];exact ⟨⟨2,y1,0,0,⟨⟨[]⟩⟩,false⟩,k1,rfl,zdA _,q1.up (by omega),((m1.trans m2).trans u1)⟩
 | false =>
 rw[Ax];cases x==(5:Int) with
 | true =>rw[Ao];obtain ⟨y1,k1,f1,lo1,hi1,q1,u1⟩:=pick r2 (by omega) 4;rw[f1,Ac,Ab];exact ⟨⟨2,y1,0,0,⟨⟨[]⟩⟩,false⟩,k1,rfl,zdA _,q1.up (by omega),((m1.trans m2).trans u1)⟩
 | false =>
 rw[Ax];cases x==(6:Int) with
 | true =>rw[Ao];obtain ⟨y1,k1,f1,lo1,hi1,q1,u1⟩:=pick r2 (by omega) 4;rw[f1,Ac,Ab];exact ⟨⟨2,y1,0,0,⟨⟨[]⟩⟩,false⟩,k1,rfl,zdA _,q1.up (by omega),((m1.trans m2).trans u1)⟩
 | false =>
 rw[Ax];cases x==(7:Int) with
 | true =>rw[Ao];obtain ⟨y1,k1,f1,lo1,hi1,q1,u1⟩:=pick r2 (by omega) 4;obtain ⟨y2,k2,f2,lo2,hi2,q2,u2⟩:=pick q1 (by omega) 4;obtain ⟨y3,k3,f3,lo3,hi3,q3,u3⟩:=pick q2 (by omega) 4;rw[f1,Ac,Ab,f2,Ac,Ab,f3,Ac,Ab];exact ⟨⟨3,y1,y2,y3,⟨⟨[]⟩⟩,false⟩,k3,rfl,zdA _,q3.up (by omega),((((m1.trans m2).trans u1).trans u2).trans u3)⟩
 | false =>
 rw[Ax];cases x==(8:Int) with
 | true =>rw[Ao];obtain ⟨y1,k1,f1,lo1,hi1,q1,u1⟩:=pick r2 (by omega) 4;obtain ⟨y2,k2,f2,lo2,hi2,q2,u2⟩:=pick q1 (by omega) 4;obtain ⟨y3,k3,f3,lo3,hi3,q3,u3⟩:=pick q2 (by omega) 4;rw[f1,Ac,Ab,f2,Ac,Ab,f3,Ac,Ab];exact ⟨⟨3,y1,y2,y3,⟨⟨[]⟩⟩,false⟩,k3,rfl,zdA _,q3.up (by omega),((((m1.trans m2).trans u1).trans u2).trans u3)⟩
 | false =>
 rw[Ax];cases x==(9:Int) with
 | true =>rw[Ao];obtain ⟨y1,k1,f1,lo1,hi1,q1,u1⟩:=pick r2 (by omega) 4;obtain ⟨y2,k2,f2,lo2,hi2,q2,u2⟩:=pick q1 (by omega) 4;obtain ⟨y3,k3,f3,lo3,hi3,q3,u3⟩:=pick q2 (by omega) 4;rw[f1,Ac,Ab,f2,Ac,Ab,f3,Ac,Ab];exact ⟨⟨3,y1,y2,y3,⟨⟨[]⟩⟩,false⟩,k3,rfl,zdA _,q3.up (by omega),((((m1.trans m2).trans u1).trans u2).trans u3)⟩
 | false =>
 rw[Ax];cases x==(10:Int) with
 | true =>rw[Ao];obtain ⟨y1,k1,f1,g1,q1,u1⟩:=Ix (e:=3) [4,5] (rows := [[Iv 4],[Iv 5]]) (len:=2) (cc:=some 2) r2 (by omega) rfl rfl (by decide);obtain ⟨y2,k2,f2,lo2,hi2,q2,u2⟩:=pick q1 (by omega) 4;obtain ⟨y3,k3,f3,lo3,hi3,q3,u3⟩:=pick q2 (by omega) 3;rw[f1,Ac,Ab,f2,Ac,Ab,f3,Ac,Ab];exact ⟨⟨y1,y2,y3,0,⟨⟨[]⟩⟩,false⟩,k3,rfl,zdA _,q3.up (by omega),((((m1.trans m2).trans u1).trans u2).trans u3)⟩
 | false =>
 rw[Ax];cases x==(11:Int) with
 | true =>rw[Ao];obtain ⟨y1,k1,f1,g1,q1,u1⟩:=Ix (e:=3) [0,0,1,2] (rows := [[Iv 0],[Iv 0],[Iv 1],[Iv 2]]) (len:=4) (cc:=some 4) r2 (by omega) rfl rfl (by decide);rw[f1,Ac,Ab];exact ⟨⟨6,at',y1,0,⟨⟨[]⟩⟩,false⟩,k1,rfl,zdA _,q1.up (by omega),((m1.trans m2).trans u1)⟩
 | false =>
 rw[Ax];cases x==(12:Int) with
 | true =>rw[Ao];obtain ⟨y1,k1,f1,g1,q1,u1⟩:=Ix (e:=3) [0,0,1,2] (rows := [[Iv 0],[Iv 0],[Iv 1],[Iv 2]]) (len:=4) (cc:=some 4) r2 (by omega) rfl rfl (by decide);rw[f1,Ac,Ab];exact ⟨⟨6,at',y1,0,⟨⟨[]⟩⟩,false⟩,k1,rfl,zdA _,q1.up (by omega),((m1.trans m2).trans u1)⟩
 | false =>
 rw[Ax];cases x==(13:Int) with
 | true =>rw[Ao];obtain ⟨y1,k1,f1,g1,q1,u1⟩:=Ix (e:=3) [0,0,1,2] (rows := [[Iv 0],[Iv 0],[Iv 1],[Iv 2]]) (len:=4) (cc:=some 4) r2 (by omega) rfl rfl (by decide);rw[f1,Ac,Ab];exact ⟨⟨6,at',y1,0,⟨⟨[]⟩⟩,false⟩,k1,rfl,zdA _,q1.up (by omega),((m1.trans m2).trans u1)⟩
 | false =>
 rw[Ax];cases x==(14:Int) with
 | true =>rw[Ao];obtain ⟨y1,k1,f1,g1,q1,u1⟩:=Ix (e:=3) [7,8] (rows := [[Iv 7],[Iv 8]]) (len:=2) (cc:=some 2) r2 (by omega) rfl rfl (by decide);obtain ⟨y2,k2,f2,lo2,hi2,q2,u2⟩:=pick q1 (by omega) 4;rw[f1,Ac,Ab,f2,Ac,Ab];exact ⟨⟨y1,at',y2,0,⟨⟨[]⟩⟩,false⟩,k2,rfl,zdA _,q2.up (by omega),(((m1.trans m2).trans u1).trans u2)⟩
 | false =>
 rw[Ax];cases x==(15:Int) with
 | true =>rw[Ao];obtain ⟨y1,k1,f1,lo1,hi1,q1,u1⟩:=pick r2 (by omega) 3;rw[f1,Ac,Ab];exact ⟨⟨9,at',y1,0,⟨⟨[]⟩⟩,false⟩,k1,rfl,zdA _,q1.up (by omega),((m1.trans m2).trans u1)⟩
 | false =>
 rw[Ax];cases x==(16:Int) with
 | true =>rw[Ao];obtain ⟨y1,k1,f1,lo1,hi1,q1,u1⟩:=pick r2 (by omega) 3;rw[f1,Ac,Ab];exact ⟨⟨9,at',y1,0,⟨⟨[]⟩⟩,false⟩,k1,rfl,zdA _,q1.up (by omega),((m1.trans m2).trans u1)⟩
 | false =>
 rw[Ax];cases x==(17:Int) with
 | true =>rw[Ao];obtain ⟨y1,k1,f1,lo1,hi1,q1,u1⟩:=pick r2 (by omega) 3;exact told y1 k1 f1 lo1 (hi1 (by omega)) q1 u1
 | false =>
 rw[Ax];cases x==(18:Int) with
 | true =>rw[Ao];obtain ⟨y1,k1,f1,lo1,hi1,q1,u1⟩:=pick r2 (by omega) 3;exact told y1 k1 f1 lo1 (hi1 (by omega)) q1 u1
 | false =>
 rw[Ax];obtain ⟨y1,k1,f1,g1,q1,u1⟩:=Ix (e:=3) [11,11,11,12,13,0,14] (rows := [[Iv 11],[Iv 11],[Iv 11],[Iv 12],[Iv 13],[Iv 0],[Iv 14]]) (len:=7) (cc:=some 7) r2 (by omega) rfl rfl (by decide);obtain ⟨y2,k2,f2,lo2,hi2,q2,u2⟩:=pick q1 (by omega) 3;rw[f1,Ac,Ab,f2,Ac,Ab];exact ⟨⟨y1,y2,0,0,⟨⟨[]⟩⟩,false⟩,k2,rfl,zdA _,q2.up (by omega),(((m1.trans m2).trans u1).trans u2)⟩
end


abbrev REvents:Rel (List Event):=Sli false 6 74 (flat Event.cs)
theorem revents_ok:REvents.Ok:=Sli.ok DG
section
variable {lo:Nat}{h h':Heap}{w:World}{a1 a2 a3 a4 a:Pq}{c1 c2 c3 c4 c:Nq}{E F F' F1 F2 F3 F4:List Nat}{b n:Nat}
theorem nd3 {E F:List Nat} (hn:(b ::(E++F)).Nodup):b∉E/\b∉F/\E.Nodup/\F.Nodup/\∀ y∈E,y∉F:=by rw[zdg,zc9,zda] at hn;simp only[not_or] at hn;exact ⟨hn.1.1,hn.1.2,hn.2.1,hn.2.2.1,λy hy hm=>hn.2.2.2 y hy y hm rfl⟩
theorem zca {E F:List Nat}:(b ::(E++F)).Perm (E++(b :: F)):=List.perm_middle.symm
theorem zb9 {E F:List Nat}:(b ::(E++F)).Perm (F++(b :: E)):=by rw[show b ::(E++F)=(b :: E)++F from rfl];exact zeO
theorem XJ {e:Event} (h:e.text.size<=10):e.text.size<=1048576:=by omega
theorem Wo {most:Int} (hmost:most<=1000):∀ (r m:Nat) (hh:Heap) (w:World) (l:List Event) (a:Pq) (c:Nq) (E:List Nat) (x1:Pq) (y1:Nq) (x2:Pq) (y2:Nq) (x3:Pq) (y3:Nq) (x4:Pq) (y4:Nq) (K1 K2 K3 K4:List Nat) (n:Nat),
  (m:Int)+r=most->r<=120->n+21*r<=500000->Rd lo hh b n->REvents hh [.sl 6 a l.length c] l E->(∀ e∈l,e.text.size<=10)->l.length+r<=1000->WR lo hh w x1 y1 x2 y2 x3 y3 x4 y4 K1 K2 K3 K4->Good w->(b ::(E++(K1++(K2++(K3++K4))))).Nodup->(∀ y∈E,lo<=y) ->
  ∃ (l':List Event) (a':Pq) (c':Nq) (h':Heap) (E':List Nat),Bt lo b 0 0 most a l.length c (m:Nat) x1 w.places.length y1 x2 w.sess.length y2 x3 w.net.length y3 x4 w.hist.length y4 hh=some (.sl 6 a' l'.length c',h')/\REvents h' [.sl 6 a' l'.length c'] l' E'/\(∀ e∈l',e.text.size<=10)/\l'.length<=1000 /\
   Rd lo h' b (n+21*r)/\Mv hh (b ::(E++(K1++(K2++(K3++K4))))) h' (b :: E'):=by
 intro r;induction r with
 | zero =>
  intro m hh w l a c E x1 y1 x2 y2 x3 y3 x4 y4 K1 K2 K3 K4 n hm _ _ r0 re ht hl H hg hnd hE;refine ⟨l,a,c,hh,E,?_,re,ht,by omega,r0,(Mv.refl hnd).lean ?_ λy hy=>?_⟩
  ·rw[Bt.e,Ak (by omega)]
  ·obtain ⟨k1,k2,k3,k4,k5⟩:=nd3 hnd;exact zdg.2 ⟨k1,k3⟩
  ·rw[zdf] at hy ⊢;exact hy.imp id λg=>zd5 _ g
 | succ r ih =>
  intro m hh w l a c E x1 y1 x2 y2 x3 y3 x4 y4 K1 K2 K3 K4 n hm hr hn r0 re ht hl H hg hnd hE;obtain ⟨k1,k2,k3,k4,k5⟩:=nd3 hnd;have hEb:=revents_ok.bd _ _ _ _ re;have hFb:=H.bd;obtain ⟨e,h1,e1,et,r1,m1⟩:=XK (a2:=x2) (c2:=y2) (a3:=x3) (c3:=y3) (a4:=x4) (c4:=y4) (n2:=w.sess.length) (n3:=w.net.length) (n4:=w.hist.length) r0 (by omega) H.r1 (λhm=>k2 (by simp[hm])) hg.ok.p3 (λp hp=>by
   obtain ⟨i,hi⟩:=zdu.1 hp;exact (AO (hg.ok.place i p hi).2).2.2.1)
  have notb:∀ {G:List Nat},(∀ y∈G,y∈K1++(K2++(K3++K4)))->∀ y∈G,y ∉ [b]:=λhG y hy hm=>by rw[zdv] at hm;exact k2 (hm ▸ hG y hy)
  have H1:WR lo h1 w x1 y1 x2 y2 x3 y3 x4 y4 K1 K2 K3 K4:=⟨m1.keep rplaces_ok H.r1 (notb λy hy=>by simp[hy]),m1.keep rsesss_ok H.r2 (notb λy hy=>by simp[hy]),m1.keep rframes_ok H.r3 (notb λy hy=>by simp[hy]),m1.keep rdones_ok H.r4 (notb λy hy=>by simp[hy]),H.nd,H.ge,zc8 H.hl m1.le⟩;have re1:=m1.keep revents_ok re λy hy hm=>k1 (by rw[zdv] at hm;exact hm ▸ hy);have M1:Mv hh (b ::(E++(K1++(K2++(K3++K4))))) h1 (b ::(E++(K1++(K2++(K3++K4))))):=m1.mid (A := [b]) (B:=E++(K1++(K2++(K3++K4)))) (A' := [b]) (.refl _) hnd (λy hy=>(zc9.1 hy).elim (hEb y) (hFb y)) (.refl _);obtain ⟨cs2,h2,F2,e2,⟨z1,t1,z2,t2,z3,t3,z4,t4,Q1,Q2,Q3,Q4,rfl,rfl,H2⟩,m2,N2⟩:=Tu (e:=e) H1 hg.fits (XJ et);have hg2:Good (Mh w e):=I8 hg;have hEb1:=revents_ok.bd _ _ _ _ re1;have re2:=m2.keep revents_ok re1 k5;have r2:=r1.keep m2 k2 H.ge;have M2:Mv h1 (b ::(E++(K1++(K2++(K3++K4))))) h2 (b ::(E++(Q1++(Q2++(Q3++Q4))))):=m2.mid zb9 hnd (λy hy=>by
   rw[zdf] at hy;rcases hy with rfl | hy
   ·exact r1.lt
   ·exact hEb1 y hy) zb9
  have M12:=M1.trans M2;have hnd2:=M12.nd;obtain ⟨j1,j2,j3,j4,j5⟩:=nd3 hnd2;have more:∀ (h3:Heap) (n3:Nat),Rd lo h3 b n3->n3+21*r<=500000->REvents h3 [.sl 6 a l.length c] l E->WR lo h3 (Mh w e) z1 t1 z2 t2 z3 t3 z4 t4 Q1 Q2 Q3 Q4->n3<=n+21 ->
    ∃ (l':List Event) (a':Pq) (c':Nq) (h':Heap) (E':List Nat),(Av 6 (h3 ++ [.rows 6 74 false [e.cs]]) (.sl 6 (some (h3.length,0)) 1 (some 1)) λx=>Df lo 74 6 56 (.sl 6 a l.length c) x (h3 ++ [.rows 6 74 false [e.cs]]) λx d=>eS 6 x λx q f=>Bt lo b 0 0 most x q f ((m+1:Nat):Int) z1 (Mh w e).places.length t1 z2 (Mh w e).sess.length t2 z3 (Mh w e).net.length t3 z4 (Mh w e).hist.length t4 d)=some (.sl 6 a' l'.length c',h')/\REvents h' [.sl 6 a' l'.length c'] l' E'/\(∀ e∈l',e.text.size<=10)/\l'.length<=1000 /\
     Rd lo h' b (n+21*(r+1))/\Mv h3 (b ::(E++(Q1++(Q2++(Q3++Q4))))) h' (b :: E'):=by
   intro h3 n3 r3 hn3 re3 H3 hnn;have hEb3:=revents_ok.bd _ _ _ _ re3;obtain ⟨a6,c6,h6,E6,e6,r6,m6⟩:=Dv (lo:=lo) (bytes:=56) (e:=74) (El:=flat Event.cs) DG re3 (row:=e.cs) (x:=e) (G := []) (h1:=h3 ++ [.rows 6 74 false [e.cs]])
    ⟨rfl,rfl⟩ Mv.snoc j3 hE H3.hl (by decide) (by omega)
   have hll:(l ++ [e]).length=l.length+1:=by simp
   rw[<- hll] at r6 e6;have H6:WR lo h6 (Mh w e) z1 t1 z2 t2 z3 t3 z4 t4 Q1 Q2 Q3 Q4:=⟨m6.keep rplaces_ok H3.r1 (λy hy hm=>j5 y hm (by simp[hy])),m6.keep rsesss_ok H3.r2 (λy hy hm=>j5 y hm (by simp[hy])),m6.keep rframes_ok H3.r3 (λy hy hm=>j5 y hm (by simp[hy])),m6.keep rdones_ok H3.r4 (λy hy hm=>j5 y hm (by simp[hy])),H3.nd,H3.ge,zc8 H3.hl m6.le⟩;have M6:Mv h3 (b ::(E++(Q1++(Q2++(Q3++Q4))))) h6 (b ::(E6++(Q1++(Q2++(Q3++Q4))))):=m6.mid zca hnd2 (λy hy=>by
    rw[zdf] at hy;rcases hy with rfl | hy
    ·exact r3.lt
    ·exact H3.bd y hy) zca
   obtain ⟨l',a',c',h',E',f1,f2,f3,f4,f5,f6⟩:=ih (m+1) h6 (Mh w e) (l ++ [e]) a6 c6 E6 _ _ _ _ _ _ _ _ _ _ _ _ n3 (by omega) (by omega) (by omega) (r3.keep m6 j1 hE) r6 (λx hx=>by
    rcases zc9.1 hx with g | g
    ·exact ht x g
    ·rw[zdv] at g;subst g;exact et) (by omega) H6 hg2 M6.nd (m6.ge H3.hl hE)
   refine ⟨l',a',c',h',E',?_,f2,f3,f4,f5.up (by omega),M6.trans f6⟩;rw[A7,e6,Ag];exact f1
  simp only[Event.cs] at e1;have e2':=e2;simp only[Event.cs,World.cs] at e2';rw[Bt.e,Al (by omega),e1,Ac,AR,Aa,Ab,Aa,Ab,Aa,Ab,Aa,Ab,Aa,BG,Aa,AL,Ah,e2',Ac,HA,Aa,AR,Aa,Ag,Aa,Ag,Aa,Ag,Aa,Ag,Ah,Aa,At];cases hs:(DZ w e).isSome with
  | true =>obtain ⟨l',a',c',h',E',f1,f2,f3,f4,f5,f6⟩:=more h2 (n+20) r2 (by omega) re2 H2 (by omega);refine ⟨l',a',c',h',E',?_,f2,f3,f4,f5,M12.trans f6⟩;rw[Ao,Ah,Ar (by omega)];exact f1
  | false =>
   have hnone:DZ w e=none:=by
    cases hx:DZ w e with
    | none=>rfl
    | some y=>rw[hx] at hs;cases hs
   have hw:Mh w e=w:=by unfold Mh;rw[hnone];rfl
   obtain ⟨v,h3,e3,_,_,r3,m3⟩:=pick r2 (by omega) 6;have notb2:∀ {G:List Nat},(∀ y∈G,y∈Q1++(Q2++(Q3++Q4)))->∀ y∈G,y ∉ [b]:=λhG y hy hm=>by rw[zdv] at hm;exact j2 (hm ▸ hG y hy)
   have H3:WR lo h3 (Mh w e) z1 t1 z2 t2 z3 t3 z4 t4 Q1 Q2 Q3 Q4:=⟨m3.keep rplaces_ok H2.r1 (notb2 λy hy=>by simp[hy]),m3.keep rsesss_ok H2.r2 (notb2 λy hy=>by simp[hy]),m3.keep rframes_ok H2.r3 (notb2 λy hy=>by simp[hy]),m3.keep rdones_ok H2.r4 (notb2 λy hy=>by simp[hy]),H2.nd,H2.ge,zc8 H2.hl m3.le⟩;have re3:=m3.keep revents_ok re2 λy hy hm=>j1 (by rw[zdv] at hm;exact hm ▸ hy);have M3:Mv h2 (b ::(E++(Q1++(Q2++(Q3++Q4))))) h3 (b ::(E++(Q1++(Q2++(Q3++Q4))))):=m3.mid (A := [b]) (B:=E++(Q1++(Q2++(Q3++Q4)))) (A' := [b]) (.refl _) hnd2 (λy hy=>(zc9.1 hy).elim (revents_ok.bd _ _ _ _ re2 y) (H2.bd y)) (.refl _);have M123:=M12.trans M3;rw[Ax,Ah,e3,Ac,Ab];by_cases hv:v>0
   ·have eq:=N2 hnone;rw[hw] at eq H3;simp only[World.cs,List.cons.injEq,V.sl.injEq,true_and,and_true] at eq;obtain ⟨⟨rfl,rfl⟩,⟨rfl,rfl⟩,⟨rfl,rfl⟩,rfl,rfl⟩:=eq;obtain ⟨l',a',c',h',E',f1,f2,f3,f4,f5,f6⟩:=ih (m+1) h3 w l a c E _ _ _ _ _ _ _ _ _ _ _ _ (n+21) (by omega) (by omega) (by omega) r3 re3 ht (by omega) H3 hg M123.nd hE;refine ⟨l',a',c',h',E',?_,f2,f3,f4,f5.up (by omega),M123.trans f6⟩;rw[Al hv,Ar (by omega)];exact f1
   ·obtain ⟨l',a',c',h',E',f1,f2,f3,f4,f5,f6⟩:=more h3 (n+21) r3 (by omega) re3 H3 (by omega);refine ⟨l',a',c',h',E',?_,f2,f3,f4,f5,M123.trans f6⟩;rw[Ak hv,Ar (by omega)];exact f1
theorem Tn {cs:List V} (hw:X5 false h cs w F) (m:Mv h' [] h F) (hl':lo<=h'.length):∃ s1 s2 s3 s4 a1 c1 a2 c2 a3 c3 a4 c4 F1 F2 F3 F4,cs = [s1,s2,s3,s4]/\F=F1++(F2++(F3++F4)) /\
  (∀ {T:Type} (K:Pq->Nat->Nq->Option T),eS 6 s1 K=K a1 w.places.length c1)/\(∀ {T:Type} (K:Pq->Nat->Nq->Option T),eS 5 s2 K=K a2 w.sess.length c2) /\
  (∀ {T:Type} (K:Pq->Nat->Nq->Option T),eS 9 s3 K=K a3 w.net.length c3)/\(∀ {T:Type} (K:Pq->Nat->Nq->Option T),eS 5 s4 K=K a4 w.hist.length c4)/\WR lo h w a1 c1 a2 c2 a3 c3 a4 c4 F1 F2 F3 F4 :=
 WR.of hw m.nd (m.ge hl' (by simp)) (zc8 hl' m.le)
theorem Rf {n0 s0 most:Nat} (h1:1<=n0) (h4:n0<=4) (hs:s0<=4) (hmost:most<=120) (r:Rd lo h b n) (hn:n<=300000) (hl:lo<=h.length) :
  ∃ (l:List Event) (a:Pq) (c:Nq) (h':Heap) (E:List Nat),Af lo 145 [.ptr (some (b,(0,0))),Iv (n0:Nat),Iv (s0:Nat),Iv (most:Nat)] h=some (.sl 6 a l.length c,h')/\REvents h' [.sl 6 a l.length c] l E/\(∀ e∈l,e.text.size<=10)/\l.length<=1000 /\
   Rd lo h' b (n+3000)/\Mv h [b] h' (b :: E):=by
 obtain ⟨cs,h2,F2,e2,w2,m2⟩:=Ra (lo:=lo) (h:=h) h1 h4 (by omega:s0<=1000) hl;obtain ⟨s1,s2,s3,s4,a1,c1,a2,c2,a3,c3,a4,c4,K1,K2,K3,K4,rfl,rfl,es1,es2,es3,es4,H⟩:=Tn w2 m2 hl;have mx:Mv h2 [] (h2 ++ [.rows 6 74 false []]) [h2.length]:=Mv.last;have hb2:=H.bd;have H3:WR lo (h2 ++ [.rows 6 74 false []]) (Dw n0 s0) a1 c1 a2 c2 a3 c3 a4 c4 K1 K2 K3 K4:=⟨mx.keep0 rplaces_ok H.r1,mx.keep0 rsesss_ok H.r2,mx.keep0 rframes_ok H.r3,mx.keep0 rdones_ok H.r4,H.nd,H.ge,zc8 H.hl mx.le⟩;have hre:REvents (h2 ++ [.rows 6 74 false []]) [.sl 6 (some (h2.length,0)) 0 (some 0)] [] [h2.length]:=Sli.fresh (zdb _);have hblt:=r.lt;have hbF:b∉K1++(K2++(K3++K4)):=λhm=>by have:=m2.new b hm;omega
 have hnd:(b ::([h2.length]++(K1++(K2++(K3++K4))))).Nodup:=by have:=m2.le;rw[zdg,zdO,zdE,zdg,zdf];exact ⟨λhm=>hm.elim (λg=>by omega) hbF,λhm=>by have:=hb2 _ hm;omega,m2.nd⟩
 have r3:=(r.keep m2 (by simp) (by simp)).keep mx (by simp) (by simp);obtain ⟨l,a,c,h',E,f1,f2,f3,f4,f5,f6⟩:=Wo (most:=(most:Nat)) (by omega) most 0 _ (Dw n0 s0) [] _ _ _ _ _ _ _ _ _ _ _ _ _ _ _ n (by omega) (by omega) (by omega) r3 hre (by simp) (by simp;omega) H3 (Kq h1 h4 hs) hnd (by simp;exact zc8 hl m2.le);refine ⟨l,a,c,h',E,PA ?_,f2,f3,f4,f5.up (by omega),?_⟩
 ·rw[e2,Ac,AR,Aa,es1,Aa,es2,Aa,es3,Aa,es4,Ah];exact f1
 ·have M:Mv h [b] (h2 ++ [.rows 6 74 false []]) (b ::([h2.length]++(K1++(K2++(K3++K4))))):=by
   refine ⟨zc8 m2.le mx.le,λy hy hF=>?_,hnd,λy hy=>?_⟩
   ·rw[mx.fr y (zdj hy m2.le) (by simp),m2.fr y hy (by simp)]
   ·simp only[zdf,zdO,zdE] at hy;rcases hy with rfl | rfl | hy
    ·exact .inl (by simp)
    ·exact .inr ⟨m2.le,by simp⟩
    ·have:=hb2 y hy;exact .inr ⟨m2.new y hy,by rw[zdt];omega⟩
  exact M.trans f6
end


variable {l:List Event}
def Fy (w:World) (l:List Event):World:=l.foldl Mh w
theorem MP {w:World}{e:Event}:Fy w (e :: l)=Fy (Mh w e) l:=rfl
theorem Mc:∀ {l:List Event}{w:World},Good w->Good (Fy w l)
 | [],_,h=>h
 | _ :: l,_,h=>Mc (l:=l) (I8 h)
section
variable {lo:Nat}{h h':Heap}{w:World}{a1 a2 a3 a4 a:Pq}{c1 c2 c3 c4 c:Nq}{E F F' F1 F2 F3 F4:List Nat}{b n:Nat}
theorem Oc (hg:Good w):I3 w:=by
 have h1:=hg.ok.p3;have h2:=hg.ok.s4;have h3:=hg.ok.n12;have h4:=hg.ok.h80;refine ⟨⟨by omega,λp hp=>?_⟩,⟨by omega,λs hs=>?_⟩,⟨by omega,λf hf=>?_⟩,by omega⟩
 ·obtain ⟨i,hi⟩:=zdu.1 hp;exact (Ea (By (hg.ok.place i p hi).2) (by decide) (by decide) (by decide)).1
 ·have:=Bc (Bv (hg.ok.sess s hs)).2.1;omega
 ·have:=(PX hg.fits (hg.ok.net f hf)).1;have h1:=this.1;have h2:=this.2;omega
theorem Zp {f:Frame}:(Kv w f).sess=w.sess:=by unfold Kv;split<;>rfl
theorem Uo (r:Rd lo h b n) (hn:n<=290000) (hl:lo<=h.length) :
  ∃ (n0 s0:Nat) (l:List Event) (a:Pq) (c:Nq) (h':Heap) (E:List Nat),Af lo 72 [.ptr (some (b,(0,0)))] h=some (.tup [Iv (n0:Nat),Iv (s0:Nat),.sl 6 a l.length c],h')/\(1<=n0/\n0<=4)/\(1<=s0/\s0<=4)/\REvents h' [.sl 6 a l.length c] l E/\(∀ e∈l,e.text.size<=10)/\l.length<=1000 /\
   Rd lo h' b (n+3010)/\Mv h [b] h' (b :: E):=by
 obtain ⟨v,h1,e1,g1,g1',r1,m1⟩:=pick r (by omega) 4;obtain ⟨u,h2,e2,g2,g2',r2,m2⟩:=pick r1 (by omega) 4;obtain ⟨k,h3,e3,hk,r3,m3⟩:=Ix (e:=3) [0,20,60,120] (rows := [[Iv 0],[Iv 20],[Iv 60],[Iv 120]]) (len:=4) (cc:=some 4) r2 (by omega) rfl rfl (by decide);have hv:=g1' (by omega);have hu:=g2' (by omega);have hk':0<=k/\k<=120:=by simp at hk;omega
 obtain ⟨q,rfl⟩:∃ q:Nat,k=(q:Int):=⟨k.toNat,by omega⟩;obtain ⟨n0,hn0⟩:∃ n0:Nat,1+v=(n0:Int):=⟨(1+v).toNat,by omega⟩;obtain ⟨s0,hs0⟩:∃ s0:Nat,1+u=(s0:Int):=⟨(1+u).toNat,by omega⟩;have m13:=(m1.trans m2).trans m3;obtain ⟨l,a,c,h4,E,e4,f2,f3,f4,f5,f6⟩:=Rf (n0:=n0) (s0:=s0) (most:=q) (by omega) (by omega) (by omega) (by omega) r3 (by omega) (zc8 hl m13.le);refine ⟨n0,s0,l,a,c,h4,E,Sj ?_,⟨by omega,by omega⟩,⟨by omega,by omega⟩,f2,f3,f4,f5.up (by omega),m13.trans f6⟩;rw[e1,Ac,Ab,e2,Ac,Ab,e3,Ac,Ab,wr (by omega) (by omega),wr (by omega) (by omega),hn0,hs0,e4,Ac,Ag]
theorem Y3 (ht:∀ e∈l,e.text.size<=1048576) (hl6:l.length<=1048576):∀ (r m:Nat) (hh:Heap) (w:World) (E:List Nat) (x1:Pq) (y1:Nq) (x2:Pq) (y2:Nq) (x3:Pq) (y3:Nq) (x4:Pq) (y4:Nq) (K1 K2 K3 K4:List Nat),
  m+r=l.length->REvents hh [.sl 6 a l.length c] l E->WR lo hh w x1 y1 x2 y2 x3 y3 x4 y4 K1 K2 K3 K4->Good w->(∀ y∈E,y∉K1++(K2++(K3++K4))) ->
  ∃ cs' h' F',Co lo a l.length c (m:Nat) 0 none 0 (some 0) 0 none 0 (some 0) 0 none 0 (some 0) 0 none 0 (some 0) x1 w.places.length y1 x2 w.sess.length y2 x3 w.net.length y3 x4 w.hist.length y4 hh=some (.agg cs',h')/\Qn lo h' cs' (Fy w ((l.take 60).drop m)) F'/\Mv hh (K1++(K2++(K3++K4))) h' F':=by
 intro r;induction r with
 | zero =>intro m hh w E x1 y1 x2 y2 x3 y3 x4 y4 K1 K2 K3 K4 hm re H hg hd;exact ⟨_,hh,_,by rw[Co.e,Ak (by omega)],by rw[zez (by rw[zdr];omega)];exact H.at,Mv.refl H.nd⟩
 | succ r ih =>
  intro m hh w E x1 y1 x2 y2 x3 y3 x4 y4 K1 K2 K3 K4 hm re H hg hd;by_cases h60:(m:Int)<60
  ·have hml:m<l.length:=by omega
   obtain ⟨o,row,G,ha,hld,⟨rfl,_⟩,_⟩:=re.read hml;obtain ⟨cs2,h2,F2,e2,⟨z1,t1,z2,t2,z3,t3,z4,t4,Q1,Q2,Q3,Q4,rfl,rfl,H2⟩,m2,_⟩:=Tu (e:=l[m]) H hg.fits (ht _ (zc7 hml));have re2:=m2.keep revents_ok re hd;have hEb:=revents_ok.bd _ _ _ _ re;obtain ⟨cs',h',F',f1,f2,f4⟩:=ih (m+1) h2 (Mh w l[m]) E _ _ _ _ _ _ _ _ _ _ _ _ (by omega) re2 H2 (I8 hg) (λy hy hm=>by
    rcases m2.sub y hm with g | g
    ·exact hd y hy g
    ·have:=hEb y hy;omega)
   have hld6:ld hh o.1 (o.2+m) 0 6=some l[m].cs:=by rw[hld];exact Ja rfl
   simp only[Event.cs] at hld6;simp only[Event.cs,World.cs] at e2;have hdr:(l.take 60).drop m=l[m] ::(l.take 60).drop (m+1):=by rw[zdn (show m<(l.take 60).length by rw[zdr];omega),List.getElem_take]
   refine ⟨cs',h',F',?_,by rw[hdr,MP];exact f2,m2.trans f4⟩;rw[Co.e,Al (by omega),Al h60,Ae hml,ha,Ad,Bd,hld6,Ad,Aa,Ab,Aa,Ab,Aa,Ab,Aa,Ab,Aa,BG,Aa,AL,Ah,e2,Ac,HA,Aa,AR,Aa,Ag,Aa,Ag,Aa,Ag,Aa,Ag,Ah,Aa,At,Ah,Ar (by omega),<- ha];cases (DZ w l[m]).isSome
   ·rw[Ax];exact f1
   ·rw[Ao];exact f1
  ·exact ⟨_,hh,_,by rw[Co.e,Al (by omega),Ak h60],by rw[zez (by rw[zdr];omega)];exact H.at,Mv.refl H.nd⟩
theorem Vz {n0 s0:Nat} (h1:1<=n0) (h4:n0<=4) (hs:s0<=4) (re:REvents h [.sl 6 a l.length c] l E) (ht:∀ e∈l,e.text.size<=1048576) (hl6:l.length<=1048576) (hl:lo<=h.length) :
  ∃ cs' h' F',Af lo 74 [Iv (n0:Nat),Iv (s0:Nat),.sl 6 a l.length c] h=some (.agg cs',h')/\Qn lo h' cs' (Fy (Dw n0 s0) (l.take 60)) F'/\Mv h [] h' F':=by
 obtain ⟨cs,h2,F2,e2,w2,m2⟩:=Ra (lo:=lo) (h:=h) h1 h4 (by omega:s0<=1000) hl;obtain ⟨s1,s2,s3,s4,a1,c1,a2,c2,a3,c3,a4,c4,K1,K2,K3,K4,rfl,rfl,es1,es2,es3,es4,H⟩:=Tn w2 m2 hl;have hEb:=revents_ok.bd _ _ _ _ re;obtain ⟨cs',h',F',f1,f2,f4⟩:=Y3 ht hl6 l.length 0 h2 (Dw n0 s0) E _ _ _ _ _ _ _ _ _ _ _ _ (by omega) (m2.keep0 revents_ok re) H (Kq h1 h4 hs) (λy hy hm=>by have:=m2.new y hm;have:=hEb y hy;omega);refine ⟨cs',h',F',SW ?_,by rw[zdX] at f2;exact f2,m2.trans f4⟩;rw[e2,Ac,AR,Aa,es1,Aa,es2,Aa,es3,Aa,es4,Ah];exact f1
end


variable {w:World}{l:List Event}{P:World->World->Prop}{p:List Tag}{w':World}
theorem Uv {r:List Event}:Fy w (l++r)=Fy (Fy w l) r:=List.foldl_append ..
theorem Z8 {k n:Nat}:∃ r,Fy w (l.take n)=Fy (Fy w ((l.take k).take n)) r:=by
 refine ⟨(l.take n).drop ((l.take k).take n).length,?_⟩;rw[<- Uv];congr 1;have:(l.take k).take n=(l.take n).take ((l.take k).take n).length:=by
  rw[zeY,zeY,zdr];by_cases h:min n k<=l.length
  ·rw[zeT h,zeT (Nat.min_le_left _ _)]
  ·rw[Nat.min_eq_right (a:=min n k) (by omega),zdC (by omega),zdC (by omega)]
 conv=>lhs;rw[<- zdG ((l.take k).take n).length (l.take n)]
 rw[<- this]
theorem VO {P:World->World->Prop} (h0:∀ w,P w w) (h1:∀ u v w,Good u->Good v->Good w->P u v->P v w->P u w) (h2:∀ w e,Good w->P w (Mh w e)):∀ {l:List Event}{w:World},Good w->P w (Fy w l)
 | [],w,_=>h0 w
 | e :: l,w,h=>h1 _ _ _ h (I8 h) (Mc (l:=l) (I8 h)) (h2 w e h) (VO h0 h1 h2 (l:=l) (I8 h))
theorem Rw {a b:Tag}:FM (E7 a b).time (E7 a b).place a.time a.place=false:=by
 unfold E7 DI;cases hl:FM a.time a.place b.time b.place with
 | true =>have:=hl;rw[cond_true,Eu];unfold FM at this;simp only[zdW,decide_eq_true_eq,CP,beq_iff_eq] at this;omega
 | false=>rw[cond_false,Eu];omega
theorem PN {k:Nat}{t:Tag}:BP p (Ek p k t)=true:=under_iff.2 λi a b ha hb=>by
 unfold Ek at hb;cases hx:p[k]? with
 | none=>rw[hx] at hb;simp only[ha] at hb;injection hb with hb;subst hb;rw[Eu];omega
 | some x =>
  rw[hx] at hb;simp only[] at hb;by_cases hik:k=i
  ·subst hik;have hk:=(EA hx).1;rw[zdl hk] at hb;rw[hx] at ha;injection ha with ha;injection hb with hb;subst ha;subst hb;exact Rw
  ·rw[zdd hik,ha] at hb;injection hb with hb;subst hb;rw[Eu];omega
theorem V2 {q:List Tag}:BP p (Di p q)=true:=under_iff.2 λi a b ha hb=>by
 unfold Di at hb;rw[List.getElem?_zipWith] at hb;cases hq:q[i]? with
 | none=>rw[ha,hq] at hb;cases hb
 | some x=>rw[ha,hq] at hb;injection hb with hb;subst hb;exact Rw
structure More (w w':World):Prop where
 len:w'.sess.length=w.sess.length
 past:∀ (i:Nat) (s s':Sess),w.sess[i]?=some s->w'.sess[i]?=some s'->BP s.past s'.past=true
 hist:∃ r,w'.hist=w.hist++r
theorem More.refl:More w w:=⟨rfl,λi s s' h h'=>by rw[h] at h';injection h' with h';subst h';exact D5,[],by simp⟩
theorem More.trans {u v w:World} (hu:Good u) (hv:Good v) (h1:More u v) (h2:More v w):More u w:=by obtain ⟨r1,e1⟩:=h1.hist;obtain ⟨r2,e2⟩:=h2.hist;refine ⟨h2.len.trans h1.len,λi s s' h h'=>?_,r1++r2,by rw[e2,e1,zdq]⟩;have hi:=(EA h).1;have hv':=Dj (show i<v.sess.length by rw[h1.len];exact hi);have l1:=Bc (Bv (hu.ok.sess _ (zdp h))).2.1;have l2:=Bc (Bv (hv.ok.sess _ (zdp hv'))).2.1;exact Lm (by omega) (h1.past i _ _ h hv') (h2.past i _ _ hv' h')
theorem More.setS {w:World}{i:Nat}{s t:Sess}{ds:List Done} (hs:w.sess[i]?=some s) (hu:BP s.past t.past=true):More w (Go.Proofs.YtmgopagfoemomaaGreat.setS w i t ds):=by
 refine ⟨by simp[Go.Proofs.YtmgopagfoemomaaGreat.setS],λj x y hx hy=>?_,ds,rfl⟩;simp only[Go.Proofs.YtmgopagfoemomaaGreat.setS] at hy;by_cases hij:i=j
 ·subst hij;rw[zdl (EA hs).1] at hy;injection hy with hy;rw[hs] at hx;injection hx with hx;subst hx;subst hy;exact hu
 ·rw[zdd hij,hx] at hy;injection hy with hy;subst hy;exact D5
theorem More.same (h1:w'.sess=w.sess) (h2:w'.hist=w.hist):More w w':=⟨by rw[h1],λi s s' h h'=>by rw[h1,h] at h';injection h' with h';subst h';exact D5,[],by rw[h2];simp⟩
theorem More.of_same {v:World} (h1:v.sess=w.sess) (h2:v.hist=w.hist) (h:More v w'):More w w':=⟨by rw[h.len,h1],λi s s' hs=>h.past i s s' (by rw[h1];exact hs),by rw[<- h2];exact h.hist⟩
theorem Y1 {i:Nat}{s:Sess}{e:Event} (hg:Good w) (hs:w.sess[i]?=some s) (he:Fv w i s e=some w'):More w w':=by
 have s2:=(Bv (hg.ok.sess _ (zdp hs))).2.1;unfold Fv at he;split at he
 ·rename_i p hp
  cases hc:(!decide (s.wait.time>0)&&(Ai e.key 0 3&&(Ai e.num 0 ((p.chain.length:Int) - 1)&&CR w 1))) with
  | false=>rw[hc] at he;cases he
  | true =>
   rw[hc,cond_true] at he;split at he
   ·rename_i v t hv ht
    cases hl:DI v.tag t with
    | true=>rw[hl] at he;cases he
    | false =>
     rw[hl,cond_false] at he;injection he with he;rw[<- he];refine More.setS hs ?_;show BP s.past (Lx _ _ _)=true;unfold Lx;cases hd:decide (v.tag.time>0) with
     | false=>exact D5
     | true =>
      rw[cond_true];have hva:=Rj (Iy (hg.ok.place _ p hp).2) hv;have hd:=of_decide_eq_true hd;rcases Cp hva with g | g
      ·have:=(DK g).1;omega
      ·have l1:=Bc s2;have l2:=Bc (AZ g.1).2.2.2.1;exact Lm (by unfold Di;rw[zeI];omega) V2 PN
   ·cases he
 ·cases he
theorem WA {e:Event} (hg:Good w) (he:DV w e=some w'):More w w':=by
 unfold DV at he;cases hc:Ai e.at' 0 ((w.sess.length:Int) - 1) with
 | false=>rw[hc] at he;cases he
 | true =>
  rw[hc,cond_true] at he;cases hs:w.sess[e.at'.toNat]? with
  | none=>rw[hs] at he;cases he
  | some s =>
   rw[hs] at he;simp only[] at he;have up:BP s.past s.past=true:=D5;cases h3:e.kind==3 with
   | true =>
    have h3':e.kind=3:=by simpa using h3
    rw[h3'] at he;exact Y1 hg hs he
   | false =>
   rw[h3,cond_false] at he;unfold D4 JF JL Rt at he;simp only[cond_eq_ite] at he
   repeat' split at he
   all_goals first
    | (cases he;done)
    | (injection he with he;subst he;exact More.setS hs up)
    | (injection he with he;subst he;exact More.of_same (v:=Go.Proofs.YtmgopagfoemomaaGreat.setP w _ _) rfl rfl (More.setS hs up))
    | (injection he with he;subst he;exact More.setS hs PN)
    | (
      injection he with he;subst he;refine More.setS hs ?_;rename_i h0
      simp only[CP] at h0;exact h0.2.1)
theorem zb0 {e:Event} (hg:Good w):More w (Mh w e):=by
 unfold Mh;cases he:DZ w e with
 | none=>exact More.refl
 | some w' =>
  rw[zep];unfold DZ at he;cases h1:Ai e.kind 1 5 with
  | true=>rw[h1,cond_true] at he;exact WA hg he
  | false =>
  rw[h1,cond_false] at he;unfold FY NI IJ at he;simp only[cond_eq_ite] at he
  repeat' split at he
  all_goals first
   | (cases he;done)
   | (injection he with he;subst he;exact More.same rfl rfl)
   | (rw[zdN] at he;obtain ⟨q,_,rfl⟩:=he;exact More.same rfl rfl)
   | (injection he with he;subst he;exact More.same Zp (by unfold Kv;split<;>rfl))
theorem Y2 (hg:Good w):More w (Fy w l) :=
 VO (λ_=>More.refl) (λ_ _ _ hu hv _ h1 h2=>h1.trans hu hv h2) (λ_ _ h=>zb0 h) hg


variable {rs:List (List V)}{p:Place}
def Cz (rs:List (List V)) (i:Nat) (row:List V):Blk := .rows 6 29 false (rs.set i row)
theorem C9 {h:Heap}{b i j n:Nat}{row:List V} (hil:i<rs.length) (hb:h[b]?=some (Cz rs i row)):ld h b i j n=cut row j n :=
 BA (R:=6) (e:=29) (ro:=false) (rs:=rs.set i row) hb (by simp[hil])
theorem L3 {lo:Nat}{h:Heap}{b i j:Nat}{row row' cs:List V} (hb:h[b]?=some (Cz rs i row)) (hl:lo<=b) (hil:i<rs.length) (hp:paste row j cs=some row'):st lo h b i j cs=some (h.set b (Cz rs i row')):=by have e:=DM (lo:=lo) (R:=6) (e:=29) (rs:=rs.set i row) (r:=i) (row:=row) hb hl (by simp[hil]) hp;rw[e,zem];rfl
section
variable {lo:Nat}{ro:Bool}{h:Heap}{F F':List Nat}{a a':Pq}{c c':Nq}
theorem UD {b i0:Nat} (hrl:i0<rs.length) {a1 a2 a3:Pq}{c1 c2 c3:Nq}{F1 F2:List Nat} (hb:h[b]?=some (Cz rs i0 (p.cs a1 c1 a2 c2 a3 c3))) (hs1:RNodes false h [.sl 2 a1 p.chain.length c1] p.chain F1) (hs2:RVers false h [.sl 6 a2 p.log.length c2] p.log F2)
  (h0:0<p.chain.length) (h4:(Ew p.chain).length=4) (hd:∀ y∈F1,y∉b :: F2) (hnd:(b :: F2).Nodup) (hlo:∀ y∈b :: F2,lo<=y) (hl:lo<=h.length) (hcl:p.chain.length<=1048576) (hlog:p.log.length<=1000000) (hvn:∀ v∈Ew p.chain,v.past.length<=1048576)
  (htag:∀ v∈Ew p.chain,B8 v.tag.time v.tag.place=true) :
  ∃ a2' c2' h' F2',Af lo 120 [.ptr (some (b,(i0,0)))] h=some (.tup [],h')/\h'[b]?=some (Cz rs i0 ((BW p).cs a1 c1 a2' c2' a3 c3))/\RVers false h' [.sl 6 a2' (BW p).log.length c2'] (BW p).log F2'/\Mv h (b :: F2) h' (b :: F2'):=by
 have hblt:b<h.length:=(EA hb).1;have hlob:=hlo b (by simp);have hld2:ld h b i0 (0+2) 1=some [.sl 2 a1 p.chain.length c1]:=by rw[C9 hrl hb];rfl
 obtain ⟨b1,d1,G1,e1,q1,q3⟩:=HL (lo:=lo) hld2 hs1 h0 hcl;rw[E9 h0] at h4 hvn htag;have one:∀ m i,m+i=4->∀ hh ax cx (lg:List Ver) Fx,hh[b]?=some (Cz rs i0 [Iv p.me,Iv p.clock,.sl 2 a1 p.chain.length c1,.sl 6 ax lg.length cx,.sl 1 a3 p.got.length c3,.bool p.fell])->RVers false hh [.sl 6 ax lg.length cx] lg Fx->Mv h (b :: F2) hh (b :: Fx)->lg.length<=1000000+i->∃ a' c' h' F',
   AY lo b i0 0 b1 (p.chain[p.chain.length - 1]'(by omega)).store.length d1 ((p.chain[p.chain.length - 1]'(by omega)).store.length:Nat) (i:Nat) hh =
    AY lo b i0 0 b1 (p.chain[p.chain.length - 1]'(by omega)).store.length d1 ((p.chain[p.chain.length - 1]'(by omega)).store.length:Nat) (4:Nat) h' /\
   h'[b]?=some (Cz rs i0 [Iv p.me,Iv p.clock,.sl 2 a1 p.chain.length c1,.sl 6 a' (((p.chain[p.chain.length - 1]'(by omega)).store.drop i).foldl (noted p.me) lg).length c',.sl 1 a3 p.got.length c3,.bool p.fell]) /\
   RVers false h' [.sl 6 a' (((p.chain[p.chain.length - 1]'(by omega)).store.drop i).foldl (noted p.me) lg).length c'] (((p.chain[p.chain.length - 1]'(by omega)).store.drop i).foldl (noted p.me) lg) F'/\Mv h (b :: F2) h' (b :: F'):=by
  intro m;induction m with
  | zero =>intro i hi hh ax cx lg Fx hbb hr hm hlen;rw[zdV (by omega),show i=4 by omega];exact ⟨ax,cx,hh,Fx,rfl,hbb,hr,hm⟩
  | succ m ih =>
   intro i hi hh ax cx lg Fx hbb hr hm hlen;have hil:i<(p.chain[p.chain.length - 1]'(by omega)).store.length:=by omega
   have q1':=hm.keep rvers_ok q1 λy hy=>hd y (q3 y hy);obtain ⟨o',s',b',d',G',ha',_,_,_,_,_,_,_,ho',es',hp',_⟩:=RVers.all q1' hil;have hmem:=zc7 hil;have ht0:=Q5 (htag _ hmem);have stay:=ih (i+1) (by omega) hh ax cx lg Fx hbb hr hm (by omega);have hno:=@noted.eq_1 p.me lg ((p.chain[p.chain.length - 1]'(by omega)).store[i]'hil);have l0:ld hh b i0 (0+0) 1=some [Iv p.me]:=by rw[C9 hrl hbb];rfl
   have l3:ld hh b i0 (0+3) 1=some [.sl 6 ax lg.length cx]:=by rw[C9 hrl hbb];rfl
   rw[zdn hil,zd2];generalize hx:((p.chain[p.chain.length - 1]'(by omega)).store[i]'hil)=x at *
   rw[AY.e,Al (by omega),Ae hil];simp only[ha',Ad,Bd,ho',Aa,Ab,es',BG,AL,Ah,l0,l3,Ag];rw[<- ha',Ar (show i<9223372036854775807 by omega),LF hr (by omega),zec];simp only[Ac,At,l3,Ad,Aa,Ah,Ag];cases g1:decide (x.tag.time>0) with
   | false =>rw[g1,Bool.not_eq_false'] at ht0;rw[ht0,Ao,hno,g1];exact stay
   | true =>
   rw[g1,zdR] at ht0;rw[ht0,Ax];cases g2:(x.tag.place==p.me) with
   | false=>rw[Ax,hno,g1,g2];exact stay
   | true =>
   rw[Ao];cases g3:Cq lg x.tag with
   | true=>rw[Ao,hno,g1,g2,g3];exact stay
   | false =>
   rw[Ax,hno,g1,g2,g3];have hnx:=hm.nd;rw[zdg] at hnx;obtain ⟨a3',c3',h3,F3,e3,r3,m3⟩:=BK (lo:=hh.length) (v:=x) hp' (zdb _) (hvn _ hmem);obtain ⟨a5,c5,h5,F5,e5,r5,m5⟩:=Dv (lo:=lo) (bytes:=72) (e:=43) rver_ok hr (row:=x.cs a3' c3') (x:=x) (G:=F3) (h1:=h3 ++ [.rows 6 43 false [x.cs a3' c3']])
    ⟨_,rfl,Mv.snoc.keep0 rtags_ok r3⟩ (m3.trans (Mv.snoc' m3.nd)) hnx.2 (λy hy=>hm.ge hl hlo y (by simp[hy])) (zc8 hl hm.le) (by decide) (by omega)
   have hblth:b<hh.length:=zdj hblt hm.le;have hb5:h5[b]?=hh[b]?:=m5.fr b hblth hnx.1;rw[hbb] at hb5;have e6:=L3 (cs := [.sl 6 a5 (lg.length+1) c5]) (j:=0+3) (row := [Iv p.me,Iv p.clock,.sl 2 a1 p.chain.length c1,.sl 6 ax lg.length cx,.sl 1 a3 p.got.length c3,.bool p.fell]) hb5 hlob hrl (EQ (by simp));obtain ⟨m6,b6,k6,n6⟩:=m5.store hblth hnx.1 (Cz rs i0 [Iv p.me,Iv p.clock,.sl 2 a1 p.chain.length c1,.sl 6 a5 (lg.length+1) c5,.sl 1 a3 p.got.length c3,.bool p.fell]);rw[e3];simp only[Ac,AR,Aa,Ab,Ag,BG,AL,Ah,A7];rw[e5];simp only[Ag];rw[e6];simp only[Ad];have:=ih (i+1) (by omega) (h5.set b (Cz rs i0 [Iv p.me,Iv p.clock,.sl 2 a1 p.chain.length c1,.sl 6 a5 (lg.length+1) c5,.sl 1 a3 p.got.length c3,.bool p.fell])) a5 c5 (lg ++ [x]) F5 (by rw[zdt];exact b6) (by rw[zdt];exact rvers_ok.fr _ _ _ _ _ r5 λy hy=>k6 y λe=>n6 (e ▸ hy)) (hm.trans m6) (by simp;omega);exact this
 obtain ⟨a',c',h',F',el,hb',r,m⟩:=one 4 0 (by omega) h a2 c2 p.log F2 hb hs2 (Mv.refl hnd) (by omega);rw[zdX] at hb' r;generalize hres:(p.chain[p.chain.length - 1]'(by omega)).store.foldl (noted p.me) p.log=res at hb' r;have hnl:(BW p).log=res:=by simp only[BW,E9 h0,hres]
 have hblt':b<h'.length:=zdj hblt m.le;have hnx:=m.nd;rw[zdg] at hnx;have l3:ld h' b i0 (0+3) 1=some [.sl 6 a' res.length c']:=by rw[C9 hrl hb'];rfl
 have e6:=L3 (cs := [.sl 6 a' res.length (some res.length)]) (j:=0+3) (row := [Iv p.me,Iv p.clock,.sl 2 a1 p.chain.length c1,.sl 6 a' res.length c',.sl 1 a3 p.got.length c3,.bool p.fell]) hb' hlob hrl (EQ (by simp));obtain ⟨m6,b6,k6,n6⟩:=(Mv.refl (h:=h') hnx.2).store hblt' hnx.1 (Cz rs i0 [Iv p.me,Iv p.clock,.sl 2 a1 p.chain.length c1,.sl 6 a' res.length (some res.length),.sl 1 a3 p.got.length c3,.bool p.fell]);generalize hh6:h'.set b (Cz rs i0 [Iv p.me,Iv p.clock,.sl 2 a1 p.chain.length c1,.sl 6 a' res.length (some res.length),.sl 1 a3 p.got.length c3,.bool p.fell])=h6 at m6 b6 k6;have e6':st lo h' b i0 (0+3) [.sl 6 a' res.length (some res.length)]=some h6:=by rw[<- hh6];exact e6
 have r6:RVers false h6 [.sl 6 a' res.length (some res.length)] res F':=rvers_ok.fr _ _ _ _ _ r.clip λy hy=>k6 y λe=>hnx.1 (e ▸ hy);have l2:ld h6 b i0 (0+2+0) 1=some [.sl 2 a1 p.chain.length c1]:=by rw[C9 hrl b6];rfl
 have m7:=m.trans m6;have ec:=OR (lo:=lo) (g:=207) (cl := []) (p:=λx=>decide (x.wait.length>0)) (m7.keep rnodes_ok hs1 hd) hcl (λlo x a1 c1 a2 c2 _=>Lj (h':=h6) (by
  by_cases hw:x.wait.length>0
  ·rw[Al (by omega),decide_eq_true hw]
  ·rw[Ak (by omega),decide_eq_false hw]))
 rw[zaw] at ec;suffices hq:∃ a2' c2' h' F2',_=some (V.tup [],h')/\h'[b]?=some (Cz rs i0 ((BW p).cs a1 c1 a2' c2' a3 c3))/\RVers false h' [.sl 6 a2' (BW p).log.length c2'] (BW p).log F2'/\Mv h (b :: F2) h' (b :: F2') from hq.imp λ_ hq=>hq.imp λ_ hq=>hq.imp λ_ hq=>hq.imp λ_ hq=>⟨Ms hq.1,hq.2⟩
 rw[e1];simp only[Ac,AR,Aa,Ag,Ah];rw[show (0:Int)=((0:Nat):Int) from rfl,el,AY.e,Ak (by omega)];simp only[l3,Ad,Aa,Ag,Ah];rw[LQ r];simp only[Ac,Ag];rw[e6'];simp only[Ad,l2,Aa,Ag,Ah];rw[ec];simp only[Ac,At];have hcs:∀ f:Bool,f=(p.fell && !Zo p.chain)->([Iv p.me,Iv p.clock,.sl 2 a1 p.chain.length c1,.sl 6 a' res.length (some res.length),.sl 1 a3 p.got.length c3,.bool f]:List V)=(BW p).cs a1 c1 a' (some res.length) a3 c3:=by intro f hf;simp only[Place.cs,hnl];rw[hf];rfl
 cases hi:Zo p.chain with
 | false =>rw[hi] at hcs;rw[zd3,Ao];refine ⟨a',some res.length,h6,F',rfl,?_,by rw[hnl];exact r6,m7⟩;rw[b6,hcs p.fell (by simp)]
 | true =>rw[hi] at hcs;rw[zdT,Ax];have e8:=L3 (cs := [.bool false]) (j:=0+5) (row := [Iv p.me,Iv p.clock,.sl 2 a1 p.chain.length c1,.sl 6 a' res.length (some res.length),.sl 1 a3 p.got.length c3,.bool p.fell]) b6 hlob hrl (EQ (by simp));obtain ⟨m8,b8,k8,n8⟩:=(Mv.refl (h:=h6) hnx.2).store (zdj hblt m7.le) hnx.1 (Cz rs i0 [Iv p.me,Iv p.clock,.sl 2 a1 p.chain.length c1,.sl 6 a' res.length (some res.length),.sl 1 a3 p.got.length c3,.bool false]);rw[e8];simp only[Ad];refine ⟨a',some res.length,_,F',rfl,?_,by rw[hnl];exact rvers_ok.fr _ _ _ _ _ r6 λy hy=>k8 y λe=>hnx.1 (e ▸ hy),m7.trans m8⟩;rw[<- hcs false (by simp)];exact b8
theorem Ik {b i0:Nat} (hrl:i0<rs.length) {a1 a2 a3:Pq}{c1 c2 c3:Nq}{F1 F2:List Nat} (hb:h[b]?=some (Cz rs i0 (p.cs a1 c1 a2 c2 a3 c3))) (hs1:RNodes false h [.sl 2 a1 p.chain.length c1] p.chain F1) (hs2:RVers false h [.sl 6 a2 p.log.length c2] p.log F2)
  (h0:0<p.chain.length) (ht:Tidy 10 20 100 p) (hd:∀ y∈F1,y∉b :: F2) (hnd:(b :: F2).Nodup) (hlo:∀ y∈b :: F2,lo<=y) (hl:lo<=h.length) :
  ∃ a2' c2' h' F2',Af lo 120 [.ptr (some (b,(i0,0)))] h=some (.tup [],h')/\h'[b]?=some (Cz rs i0 ((BW p).cs a1 c1 a2' c2' a3 c3))/\RVers false h' [.sl 6 a2' (BW p).log.length c2'] (BW p).log F2'/\Mv h (b :: F2) h' (b :: F2'):=by
 obtain ⟨x,hx,hxe⟩:=MS h0;have hxn:=ht.node x hx;exact UD hrl hb hs1 hs2 h0 (by rw[hxe];exact hxn.1) hd hnd hlo hl (zc8 ht.len (by decide)) (zc8 ht.log.1 (by decide))
  (λv hv=>by rw[hxe] at hv;have:=(hxn.2.2.1 v hv).1;omega) (λv hv=>by rw[hxe] at hv;exact (hxn.2.2.1 v hv).2.2)
theorem SS {t:Int}{b i0:Nat} (hrl:i0<rs.length) {a1 a2 a3:Pq}{c1 c2 c3:Nq}{F1 F2:List Nat} (hb:h[b]?=some (Cz rs i0 (p.cs a1 c1 a2 c2 a3 c3))) (hs1:RNodes false h [.sl 2 a1 p.chain.length c1] p.chain F1) (hs2:RVers false h [.sl 6 a2 p.log.length c2] p.log F2)
  (h0:0<p.chain.length) (ht:Tidy 10 20 100 p) (hd:∀ y∈F1,y∉b :: F2) (hnd:(b :: F2).Nodup) (hlo:∀ y∈b :: F2,lo<=y) (hl:lo<=h.length) :
  ∃ h1 a2' c2' h' F2',st lo h b i0 (0+1) [Iv t]=some h1/\Af lo 120 [.ptr (some (b,(i0,0)))] h1=some (.tup [],h')/\h'[b]?=some (Cz rs i0 ((BW (ED p t)).cs a1 c1 a2' c2' a3 c3)) /\
   RVers false h' [.sl 6 a2' (BW (ED p t)).log.length c2'] (BW (ED p t)).log F2'/\Mv h (b :: F2) h' (b :: F2'):=by
 have hblt:b<h.length:=(EA hb).1;have e6:=L3 (cs := [Iv t]) (j:=0+1) (row:=p.cs a1 c1 a2 c2 a3 c3) hb (hlo b (by simp)) hrl (EQ (by simp[Place.cs]));have hnd':=hnd;rw[zdg] at hnd';obtain ⟨m6,b6,k6,n6⟩:=(Mv.refl (h:=h) hnd'.2).store hblt hnd'.1 (Cz rs i0 ((ED p t).cs a1 c1 a2 c2 a3 c3));have hs1':=m6.keep rnodes_ok hs1 hd;have hs2':RVers false (h.set b (Cz rs i0 ((ED p t).cs a1 c1 a2 c2 a3 c3))) [.sl 6 a2 p.log.length c2] p.log F2:=rvers_ok.fr _ _ _ _ _ hs2 λy hy=>k6 y λe=>n6 (e ▸ hy);obtain ⟨a2',c2',h',F2',e7,q7,r7,m7⟩:=Ik (lo:=lo) (p:=ED p t) hrl b6 hs1' hs2' h0 ⟨ht.len,ht.node,ht.log,ht.got⟩ hd hnd hlo (zc8 hl m6.le);exact ⟨_,a2',c2',h',F2',e6,e7,q7,r7,m6.trans m7⟩
end


variable {p:Place}{prs:List (List V)}
section
variable {lo:Nat}{ro:Bool}{h:Heap}{F F' G:List Nat}{a a' av:Pq}{c c' cv:Nq}
theorem Xx {b i0:Nat} (hrl:i0<prs.length) {k:Int}{a1 a2 a3:Pq}{c1 c2 c3:Nq}{G1 G2 G3:List Nat} (hb:h[b]?=some (Cz prs i0 (p.cs a1 c1 a2 c2 a3 c3))) (hs1:RNodes false h [.sl 2 a1 p.chain.length c1] p.chain G1) (hs2:RVers false h [.sl 6 a2 p.log.length c2] p.log G2) (hs3:RVss false h [.sl 1 a3 p.got.length c3] p.got G3)
  (hok:Ay p=true) (hn:Ii p) (hnd:(b ::(G1++(G2++G3))).Nodup) (hlo:∀ y∈b ::(G1++(G2++G3)),lo<=y) (hl:lo<=h.length) :
  ∃ h' row' F',Af lo 225 [.ptr (some (b,(i0,0))),Iv k] h=some (.bool (Cn p k),h')/\Cy false h' row' (Dy p k) F'/\h'[b]?=some (Cz prs i0 (row'))/\Mv h (b ::(G1++(G2++G3))) h' (b :: F'):=by
 suffices hq:∃ h' row' F',_=some (V.bool (Cn p k),h')/\Cy false h' row' (Dy p k) F'/\h'[b]?=some (Cz prs i0 (row'))/\Mv h (b ::(G1++(G2++G3))) h' (b :: F') from by obtain ⟨h',row',F',e,hr⟩:=hq;exact ⟨h',row',F',OF e,hr⟩
 have hblt:b<h.length:=(EA hb).1;have hbd:∀ y∈b ::(G1++(G2++G3)),y<h.length:=λy hy=>by
  simp only[zdf,zc9] at hy;rcases hy with rfl | hy | hy | hy
  ·exact hblt
  ·exact rnodes_ok.bd _ _ _ _ hs1 y hy
  ·exact rvers_ok.bd _ _ _ _ hs2 y hy
  ·exact rvss_ok.bd _ _ _ _ hs3 y hy
 have stay:∀ h',Mv h [] h' []->Cn p k=false->∃ h'' row' F',some (V.bool false,h')=some (V.bool (Cn p k),h'')/\Cy false h'' row' (Dy p k) F'/\h''[b]?=some (Cz prs i0 (row'))/\Mv h (b ::(G1++(G2++G3))) h'' (b :: F'):=λh' m hc=>by unfold Dy;rw[hc];exact ⟨h',_,G1++(G2++G3),rfl,⟨_,_,_,_,_,_,rfl,_,_,_,G1,G2,G3,rfl,rfl,m.keep0 rnodes_ok hs1,m.keep0 rvers_ok hs2,m.keep0 rvss_ok hs3⟩,by rw[m.fr b hblt (by simp)];exact hb,m.aside (G:=b ::(G1++(G2++G3))) hnd hbd⟩
 have h0:=Dk hok;have hhl:=N7 hok;have hg3:=(AO hok).2.2.1;have hti:=ML hok;rw[DF];simp only[Ac,At];cases hw:Ai k 0 2 with
 | false=>rw[Ax];exact stay h Mv.nil (by unfold Cn;rw[hw];rfl)
 | true =>
 obtain ⟨f,rfl,hf⟩:=QX hw;have hf':f<p.got.length:=by omega
 have hct:Cn p (f:Int)=Kk p f:=by unfold Cn;rw[hw,Bd];rfl
 have hky:∀ v∈p.got[f],0<=v.key/\v.key<(Ez p.chain).length:=λv hv=>by have:=(AZ (Mb hok hf' hv)).1;omega
 have hgn:p.got[f].length<=1048576:=(hn.2.2.2 _ (zc7 hf')).1;obtain ⟨o3,s3,b3,d3,H3,ha3,ho3,e3,q3,hH3⟩:=hs3.get hf';obtain ⟨o,s1,s2,b1,d1,b2,d2,H1,H2,ha,_,ho1,_,e1,_,q1,_⟩:=hs1.get h0;have l4:∀ hh:Heap,hh[b]?=some (Cz prs i0 (p.cs a1 c1 a2 c2 a3 c3))->ld hh b i0 (0+4) 1=some [.sl 1 a3 p.got.length c3]:=λhh hb=>by rw[C9 hrl hb];rfl
 have l2:ld h b i0 (0+2) 1=some [.sl 2 a1 p.chain.length c1]:=by rw[C9 hrl hb];rfl
 have hidx:=MH (lo:=lo) (g:=210) (cl := [.tup [.agg [.sl 6 b1 p.chain[0].store.length d1]]]) (p:=I6 (Ez p.chain)) q3 hgn (λlo v a c G hv ht=>by
  have:=hky v hv;rw[HN h0] at this ⊢;rw[P7 (by omega)];exact MW q1 this)
 rw[Ao,l4 h hb];simp only[Ad,Aa,Ag,Ah];rw[Ae hf'];simp only[ha3,Ad,Bd,ho3,Aa,e3,Ah,zdP,l2,Ag];rw[show (0:Int)=((0:Nat):Int) from rfl,Ae h0];have ho1':ld h o.fst o.snd 0 1=some [s1]:=ho1;simp only[ha,Ad,ho1',Aa,e1,Ah];rw[hidx];simp only[Ac,Ab];rcases MT hf' with ⟨i,hi,x1,x2⟩ | ⟨x1,x2⟩
 ·obtain ⟨o4,s4,b4,d4,H4,ha4,ho4,e4,q4,hH4⟩:=q3.get hi;have hv:=Mb hok hf' (zc7 hi);have hvp:=AZ hv;have hpl:=CS hvp.2.2.2.1;have htk:Kk p f=(DC p.chain 0&&BP p.got[f][i].past (A3 p.chain)):=by unfold Kk;rw[x2]
  rw[x1,Ak (by omega)];rw[l4 h hb,Ad,Aa,Ah,Ag,Ae hf',ha3,Ad,Bd,ho3,Ad,Aa,Ah,e3,Ae hi,ha4,Ad,ho4,Ad,Aa,Ab,Aa,Ab,Aa,Ab,Aa,e4,Aa,BG,Aa,AL,Ah];obtain ⟨bt,dt,Ht,et,rt,_⟩:=HL (lo:=lo) (b:=b) (i:=i0) (j:=0+2) l2 hs1 h0 hn.1.1;have hslen:(p.chain[p.chain.length - 1]'(by omega)).store.length=4:=(hti.node _ (zc7 _)).1;obtain ⟨vt,h5,F5,e5,r5,m5⟩:=Jh (lo:=lo) rt hl hslen;obtain ⟨a6,c6,e6,r6⟩:=r5.form;rw[et,Ac,AR,Aa,Ag,Ah,e5,Ac,AR,Aa,e6,Ah,HK (m5.keep0 rtags_ok q4) r6 (by omega) (by simp only[Br,zer];omega),Ac,At];rw[GT h0] at htk;cases hu:BP p.got[f][i].past (Br (p.chain[p.chain.length - 1]'(by omega)).store) with
  | false=>rw[Ax];exact stay h5 m5.drop (by rw[hct,htk,hu,zee])
  | true =>
  rw[hu,zec] at htk;have hb5:h5[b]?=some (Cz prs i0 (p.cs a1 c1 a2 c2 a3 c3)):=by rw[m5.fr b hblt (by simp)];exact hb
  have hnd':=hnd;rw[zdg,zda,zc9,zc9,zda] at hnd';obtain ⟨n1,n2,⟨n3,n4,n5⟩,n6⟩:=hnd';simp only[not_or] at n1;have hs15:=m5.keep0 rnodes_ok hs1;have hs25:=m5.keep0 rvers_ok hs2;have hs35:=m5.keep0 rvss_ok hs3;have q45:=m5.keep0 rtags_ok q4;have hkey0:p.got[f][i].key<p.chain[0].store.length:=by have:=hky _ (zc7 hi);rw[HN h0] at this;omega
  obtain ⟨h6,F6,e7,r7,m7⟩:=V9 (lo:=lo) (i:=i0) (j:=0+2) hb5 (zdl hrl) rfl hs15 n1.1 q45 (λy hy hm=>n6 y hm y (by rw[zc9];exact .inr (hH3 y (hH4 y hy))) rfl) n2 (λy hy=>hlo y (by simp[hy])) (zc8 hl m5.le) h0 ⟨hvp.1.1,hkey0⟩ hn.1 (by omega);simp only[Ver.cs] at e7;rw[Ao,e7,Ac,At];cases hr:DC p.chain 0 with
  | false =>
   rw[hr] at r7 htk;rw[Ax];rw[cond_false] at r7;have hb6:h6[b]?=some (Cz prs i0 (p.cs a1 c1 a2 c2 a3 c3)):=by rw[m7.fr b (zdj hblt m5.le) n1.1];exact hb5
   have hcf:Cn p (f:Int)=false:=by rw[hct,htk]
   have hbd5:∀ y∈b ::(G1++(G2++G3)),y<h5.length:=λy hy=>zdj (hbd y hy) m5.le;have nd2:(b :: G2).Nodup:=by rw[zdg];exact ⟨n1.2.1,n3⟩
   have hs26:RVers false h6 [.sl 6 a2 p.log.length c2] p.log G2:=m7.keep rvers_ok hs25 λy hy hm=>n6 y hm y (by simp[hy]) rfl;obtain ⟨r8,m8⟩:=Fl (q:=p) m7 (Mv.refl nd2) hnd hbd5 r7 hs26 hs35;unfold Dy;rw[hcf];exact ⟨h6,_,_,rfl,r8,hb6,(m5.drop.aside (G:=b ::(G1++(G2++G3))) hnd hbd).trans m8⟩
  | true =>
   rw[hr] at r7 htk;rw[cond_true] at r7;have hb6:h6[b]?=some (Cz prs i0 (p.cs a1 c1 a2 c2 a3 c3)):=by rw[m7.fr b (zdj hblt m5.le) n1.1];exact hb5
   have l1:ld h6 b i0 (0+1) 1=some [Iv p.clock]:=by rw[C9 hrl hb6];rfl
   have hct2:Cn p (f:Int)=true:=by rw[hct,htk]
   have hbd5:∀ y∈b ::(G1++(G2++G3)),y<h5.length:=λy hy=>zdj (hbd y hy) m5.le;have nd2:(b :: G2).Nodup:=by rw[zdg];exact ⟨n1.2.1,n3⟩
   have hs26:RVers false h6 [.sl 6 a2 p.log.length c2] p.log G2:=m7.keep rvers_ok hs25 λy hy hm=>n6 y hm y (by simp[hy]) rfl;have d1:=(Vw m7 (Mv.refl nd2) hnd hbd5).2.1;have ta:=NC (k:=0) (t:=p.clock) (By hok) (L2 hv);have ta':Tidy 10 20 100 (Fp p 0 p.clock p.got[f][i]):=⟨zc8 ta.len (by decide),λx hx=>by have:=ta.node x hx;exact ⟨this.1,zc8 this.2.1 (by decide),this.2.2⟩,⟨zc8 ta.log.1 (by decide),ta.log.2⟩,ta.got.1,λl hl=>⟨zc8 (ta.got.2 l hl).1 (by decide),(ta.got.2 l hl).2⟩⟩;have hcs:(Fp p 0 p.clock p.got[f][i]).cs a1 c1 a2 c2 a3 c3=p.cs a1 c1 a2 c2 a3 c3:=by simp only[Place.cs,Fp,Fe]
   rw[<- Fe (k:=0) (v:=p.got[f][i])] at r7;obtain ⟨h7,a8,c8,h8,F8,e8,e9,b9,r9,m9⟩:=SS (lo:=lo) (p:=Fp p 0 p.clock p.got[f][i]) (t:=FL p.got[f][i].tag.time p.clock) (a3:=a3) (c3:=c3) hrl (by rw[hcs];exact hb6) r7 hs26 (by show 0<(He _ _ _).length;rw[Fe];omega) ta' d1 nd2 (λy hy=>hlo y (by simp only[zdf,zc9] at hy ⊢;rcases hy with hy | hy;exact .inl hy;exact .inr (.inr (.inl hy)))) (by have:=m5.le;have:=m7.le;omega);obtain ⟨r10,m10⟩:=Fl (q:=BW (Fp p 0 (FL p.got[f][i].tag.time p.clock) p.got[f][i])) m7 m9 hnd hbd5 r7 r9 hs35;unfold FL at e8;rw[Ao,l1,Ad,Aa,Ah,Ab,e8,Ad,e9,Ac,HA,Ah];rw[hct2];unfold Dy;rw[hct2,cond_true,Bd];unfold Mx;rw[x2];exact ⟨h8,_,_,rfl,r10,b9,(m5.drop.aside (G:=b ::(G1++(G2++G3))) hnd hbd).trans m10⟩
 ·rw[x1,Al (by omega)];exact stay h Mv.nil (by rw[hct];unfold Kk;rw[x2])
theorem XA {b i0:Nat} (hrl:i0<prs.length) {f at':Int}{v:Ver}{a1 a2 a3:Pq}{c1 c2 c3:Nq}{G1 G2 G3:List Nat} (hb:h[b]?=some (Cz prs i0 (p.cs a1 c1 a2 c2 a3 c3))) (hs1:RNodes false h [.sl 2 a1 p.chain.length c1] p.chain G1) (hs2:RVers false h [.sl 6 a2 p.log.length c2] p.log G2) (hs3:RVss false h [.sl 1 a3 p.got.length c3] p.got G3)
  (hv:RTags false h [.sl 2 av v.past.length cv] v.past G) (hok:Ay p=true) (hvn:v.past.length<=1048576/\v.text.size<=1048576) (hnd:(b ::(G1++(G2++G3))).Nodup) (hlo:∀ y∈b ::(G1++(G2++G3)),lo<=y) (hl:lo<=h.length) :
  ∃ h' row' F',Af lo 228 [.ptr (some (b,(i0,0))),Iv f,Iv at',.agg (v.cs av cv)] h=some (.bool (EC p f at' v),h')/\Cy false h' row' (D9 p f at' v) F'/\h'[b]?=some (Cz prs i0 (row'))/\Mv h (b ::(G1++(G2++G3))) h' (b :: F'):=by
 suffices hq:∃ h' row' F',_=some (V.bool (EC p f at' v),h')/\Cy false h' row' (D9 p f at' v) F'/\h'[b]?=some (Cz prs i0 (row'))/\Mv h (b ::(G1++(G2++G3))) h' (b :: F') from by obtain ⟨h',row',F',e,hr⟩:=hq;exact ⟨h',row',F',OG e,hr⟩
 have hblt:b<h.length:=(EA hb).1;have hbd:∀ y∈b ::(G1++(G2++G3)),y<h.length:=λy hy=>by
  simp only[zdf,zc9] at hy;rcases hy with rfl | hy | hy | hy
  ·exact hblt
  ·exact rnodes_ok.bd _ _ _ _ hs1 y hy
  ·exact rvers_ok.bd _ _ _ _ hs2 y hy
  ·exact rvss_ok.bd _ _ _ _ hs3 y hy
 have stay:EC p f at' v=false->∃ h'' row' F',some (V.bool false,h)=some (V.bool (EC p f at' v),h'')/\Cy false h'' row' (D9 p f at' v) F'/\h''[b]?=some (Cz prs i0 (row'))/\Mv h (b ::(G1++(G2++G3))) h'' (b :: F'):=λhc=>by unfold D9;rw[hc];exact ⟨h,_,G1++(G2++G3),rfl,⟨_,_,_,_,_,_,rfl,_,_,_,G1,G2,G3,rfl,rfl,hs1,hs2,hs3⟩,hb,Mv.refl hnd⟩
 have hg3:=(AO hok).2.2.1;have hcd:EC p f at' v=(Ai f 0 2&&(Cl v&&((v.tag.place==f)&&IW p f.toNat at' v))):=rfl;have l0:ld h b i0 (0+0) 1=some [Iv p.me]:=by rw[C9 hrl hb];rfl
 have l4:∀ hh:Heap,hh[b]?=some (Cz prs i0 (p.cs a1 c1 a2 c2 a3 c3))->ld hh b i0 (0+4) 1=some [.sl 1 a3 p.got.length c3]:=λhh hb=>by rw[C9 hrl hb];rfl
 rw[DF,Ac,At];cases hw:Ai f 0 2 with
 | false=>rw[Ax];exact stay (by rw[hcd,hw];rfl)
 | true =>
 rw[hw,zdk] at hcd;obtain ⟨f,rfl,hf⟩:=QX hw;rw[Bd] at hcd;have hf':f<p.got.length:=by omega
 have hgl:p.got[f].length<=60:=(Fo (QQ hok hf')).1;have hh:IW p f at' v=(!((f:Int)==p.me)&&((at'==(p.got[f].length:Int))&&(decide ((p.got[f].length:Int)<60) && !Cq p.got[f] v.tag))):=by unfold IW;rw[HO hf']
 rw[hh] at hcd;rw[Ao,l0,Ad,Aa,Ah,Ab];cases x1:((f:Int)==p.me) with
 | true=>rw[Ao];exact stay (by rw[hcd,x1];simp)
 | false =>
 rw[x1,zd3,zdk] at hcd;have e2:=KT (lo:=lo) hv hvn;simp only[Ver.cs] at e2;rw[Ax,e2,Ac,At];cases hvo:Cl v with
 | false=>rw[Ax];exact stay (by rw[hcd,hvo];rfl)
 | true =>
 rw[hvo,zdk] at hcd;rw[Ao];cases hpl:(v.tag.place==(f:Int)) with
 | false=>rw[Ax];exact stay (by rw[hcd,hpl];rfl)
 | true =>
 rw[hpl,zdk] at hcd;have hnd':=hnd;rw[zdg,zda,zc9,zc9,zda] at hnd';obtain ⟨n1,n2,⟨n3,n4,n5⟩,n6⟩:=hnd';simp only[not_or] at n1;have hlo3:∀ y∈G3,lo<=y:=λy hy=>hlo y (by simp[hy]);obtain ⟨b0,i,rs,row,G0,ha,hbF,hbG,hb0,hrow,hel,hGF,hGn,_,put⟩:=hs3.at rvers_ok hf' n4 hlo3;have hrs:∃ s,row = [s]:=by obtain ⟨R',a',c',e,_⟩:=id hel;exact ⟨_,e⟩
 obtain ⟨s,rfl⟩:=hrs;obtain ⟨b3,d3,es,r3⟩:=hel.form;have hld:ld h b0 (i+f) 0 1=some [s]:=by rw[BA hb0 hrow];rfl
 rw[Ao,l4 h hb,Ad,Aa,Ah,Ag,Ae hf',ha,Ad,Bd,hld,Ad,Aa,Ah,es];cases x2:(at'==(p.got[f].length:Int)) with
 | false=>rw[Ax];exact stay (by rw[hcd,x2];rfl)
 | true =>
 rw[x2,zdk] at hcd;rw[Ao];cases x3:decide ((p.got[f].length:Int)<60) with
 | false =>
  have:(p.got[f].length:Int)>=60:=by have:=of_decide_eq_false x3;omega
  rw[Al (by omega)];exact stay (by rw[hcd,x3];rfl)
 | true =>
 rw[x3,zdk] at hcd;have:(p.got[f].length:Int)<60:=of_decide_eq_true x3;have hht:Cq p.got[f] ⟨v.tag.time,v.tag.place⟩=Cq p.got[f] v.tag:=rfl;rw[Ak (by omega),LF r3 (by omega),hht,Ac,At];cases x4:Cq p.got[f] v.tag with
 | true=>rw[Ao];exact stay (by rw[hcd,x4];rfl)
 | false =>
 rw[x4,zd3] at hcd;obtain ⟨a5,c5,h5,F5,e5,r5,m5⟩:=BK (lo:=lo) (v:=v) hv hl hvn.1;have m5':Mv h [] (h5 ++ [.rows 6 43 false [v.cs a5 c5]]) F5:=m5.trans (Mv.snoc' m5.nd);obtain ⟨a6,c6,h6,F6,e6,r6,m6⟩:=Dv (lo:=lo) (bytes:=72) (e:=43) rver_ok r3 (row:=v.cs a5 c5) (x:=v) (G:=F5) (h1:=h5 ++ [.rows 6 43 false [v.cs a5 c5]])
  ⟨_,rfl,Mv.snoc.keep0 rtags_ok r5⟩ m5' hGn (λy hy=>hlo3 y (hGF y hy)) hl (by decide) (by omega)
 have r6c:=r6.clip;rw[show p.got[f].length+1=(p.got[f] ++ [v]).length by simp] at r6c;obtain ⟨h7,F7,e7,r7,m7,_⟩:=put h6 F6 0 [.sl 6 a6 (p.got[f] ++ [v]).length (some (p.got[f] ++ [v]).length)] [.sl 6 a6 (p.got[f] ++ [v]).length (some (p.got[f] ++ [v]).length)] (p.got[f] ++ [v]) m6 rfl r6c;rw[show (p.got[f] ++ [v]).length=p.got[f].length+1 by simp] at e7;obtain ⟨m8,k1,k2,k3⟩:=Zq m7 hnd hbd;have hb5:h5[b]?=some (Cz prs i0 (p.cs a1 c1 a2 c2 a3 c3)):=by rw[m5.fr b hblt (by simp)];exact hb
 have hb5':(h5 ++ [.rows 6 43 false [v.cs a5 c5]])[b]?=some (Cz prs i0 (p.cs a1 c1 a2 c2 a3 c3)):=by rw[m5'.fr b hblt (by simp)];exact hb
 have hb6:h6[b]?=some (Cz prs i0 (p.cs a1 c1 a2 c2 a3 c3)):=by rw[m6.fr b hblt (λhm=>n1.2.2 (hGF b hm))];exact hb
 have hb7:h7[b]?=some (Cz prs i0 (p.cs a1 c1 a2 c2 a3 c3)):=by rw[m7.fr b hblt k1];exact hb
 simp only[Ver.cs] at e5 e6 hb5';have l4:∀ hh:Heap,hh[b]?=some (Cz prs i0 (p.cs a1 c1 a2 c2 a3 c3))->ld hh b i0 (0+4) 1=some [.sl 1 (some (b0,i)) p.got.length c3]:=λhh hb=>by rw[l4 hh hb,ha]
 rw[Ax,l4 h hb,Ad,Aa,Ah,Ag,e5,Ac,AR,Aa,Ab,Aa,Ab,Aa,Ab,Aa,Ag,Aa,BG,Aa,AL,Ah,l4 h5 hb5,KK,CT,l4 _ hb5',KK,CT,A7,e6,Ag,l4 h6 hb6,KK,CT,LQ r6,Ac,Ag,l4 h6 hb6,KK,CT,Ae hf',Ad,e7,Ad];have hcs:=Yl (p:=p) (f:=f) (v:=v) (a1:=a1) (c1:=c1) (a2:=a2) (c2:=c2) (a3:=a3) (c3:=c3);have hgot:(IA p f v).got=p.got.set f (p.got[f] ++ [v]):=by simp only[IA];rw[HO hf']
 have r7':RVss false h7 [.sl 1 a3 (IA p f v).got.length c3] (IA p f v).got F7:=by rw[hgot,zdK];exact r7
 unfold D9;rw[hcd];refine ⟨h7,(IA p f v).cs a1 c1 a2 c2 a3 c3,G1++(G2++F7),rfl,?_,by rw[hcs];exact hb7,m8⟩;exact ⟨a1,c1,a2,c2,a3,c3,rfl,_,_,_,G1,G2,F7,rfl,rfl,m7.keep rnodes_ok hs1 k2,m7.keep rvers_ok hs2 k3,r7'⟩
theorem V5 {b i0:Nat} (hrl:i0<prs.length) {k:Int}{s:ByteArray}{g:Bool}{l:List Tag}{a1 a2 a3:Pq}{c1 c2 c3:Nq}{G1 G2 G3:List Nat} (hb:h[b]?=some (Cz prs i0 (p.cs a1 c1 a2 c2 a3 c3))) (hs1:RNodes false h [.sl 2 a1 p.chain.length c1] p.chain G1) (hs2:RVers false h [.sl 6 a2 p.log.length c2] p.log G2) (hs3:RVss false h [.sl 1 a3 p.got.length c3] p.got G3)
  (hv:RTags false h [.sl 2 av l.length cv] l G) (hvd:∀ y∈G,y∉b :: G1) (hok:Ay p=true) (hn:Ii p) (hvn:l.length<=1048576/\s.size<=1048576) (hnd:(b ::(G1++(G2++G3))).Nodup) (hlo:∀ y∈b ::(G1++(G2++G3)),lo<=y) (hl:lo<=h.length) :
  ∃ h' row' F',Af lo 52 [.ptr (some (b,(i0,0))),.agg [Iv k,Iv 0,Iv 0,.sl 2 av l.length cv,.str s,.bool g]] h=some (.agg [Iv (Ej p k s g l).2.time,Iv (Ej p k s g l).2.place],h') /\
   Cy false h' row' (Ej p k s g l).1 F'/\h'[b]?=some (Cz prs i0 (row'))/\Mv h (b ::(G1++(G2++G3))) h' (b :: F'):=by
 rw[Nz hok];have hblt:b<h.length:=(EA hb).1;have hbd:∀ y∈b ::(G1++(G2++G3)),y<h.length:=λy hy=>by
  simp only[zdf,zc9] at hy;rcases hy with rfl | hy | hy | hy
  ·exact hblt
  ·exact rnodes_ok.bd _ _ _ _ hs1 y hy
  ·exact rvers_ok.bd _ _ _ _ hs2 y hy
  ·exact rvss_ok.bd _ _ _ _ hs3 y hy
 generalize hW:(bif Bg p k s g l then (BW (Fp p 0 (AS p l) (DW p k s g l)),(⟨AS p l,p.me⟩:Tag)) else (p,⟨0,0⟩))=W;suffices hq:∃ h' row' F',_=some (V.agg [Iv W.2.time,Iv W.2.place],h')/\Cy false h' row' W.1 F'/\h'[b]?=some (Cz prs i0 (row'))/\Mv h (b ::(G1++(G2++G3))) h' (b :: F') from by obtain ⟨h',row',F',e,hr⟩:=hq;exact ⟨h',row',F',Nr e,hr⟩
 have stay:∀ h',Mv h [] h' []->Bg p k s g l=false->∃ h'' row' F',some (V.agg [Iv 0,Iv 0],h')=some (V.agg [Iv W.2.time,Iv W.2.place],h'')/\Cy false h'' row' W.1 F'/\h''[b]?=some (Cz prs i0 (row'))/\Mv h (b ::(G1++(G2++G3))) h'' (b :: F'):=λh' m hc=>by rw[hc,cond_false] at hW;subst hW;exact ⟨h',_,G1++(G2++G3),rfl,⟨_,_,_,_,_,_,rfl,_,_,_,G1,G2,G3,rfl,rfl,m.keep0 rnodes_ok hs1,m.keep0 rvers_ok hs2,m.keep0 rvss_ok hs3⟩,by rw[m.fr b hblt (by simp)];exact hb,m.aside (G:=b ::(G1++(G2++G3))) hnd hbd⟩
 have h0:=Dk hok;have hti:=ML hok;have hcw:=LR (p:=p) (k:=k) (s:=s) (g:=g) (l:=l);have e1:=NY (lo:=lo) (v:=⟨k,⟨0,0⟩,l,s,g⟩) hv hvn;simp only[Ver.cs] at e1;rw[e1,Ac,At];cases hwr:Ig ⟨k,⟨0,0⟩,l,s,g⟩ with
 | false=>rw[Ax];exact stay h Mv.nil (by rw[hcw,hwr];rfl)
 | true =>
 rw[hwr,zdk] at hcw;have hpk:BJ l=true:=by unfold Ig at hwr;simp only[CP] at hwr;exact hwr.2
 have hl4:=CS hpk;have htb:=L1 hok hpk;have l2:ld h b i0 (0+2) 1=some [.sl 2 a1 p.chain.length c1]:=by rw[C9 hrl hb];rfl
 obtain ⟨bt,dt,Ht,et,rt,_⟩:=HL (lo:=h.length) (b:=b) (i:=i0) (j:=0+2) l2 hs1 h0 hn.1.1;have hslen:(p.chain[p.chain.length - 1]'(by omega)).store.length=4:=(hti.node _ (zc7 _)).1;obtain ⟨vt,h5,F5,e5,r5,m5⟩:=Jh (lo:=h.length) rt (zdb _) hslen;obtain ⟨a6,c6,e6,r6⟩:=r5.form;rw[Ao,et,Ac,AR,Aa,Ag,Ah,e5,Ac,AR,Aa,e6,Ah,HK (m5.keep0 rtags_ok hv) r6 hvn.1 (by simp only[Br,zer];omega),Ac,At];unfold Iz at hcw;rw[GT h0] at hcw;cases hu:BP l (Br (p.chain[p.chain.length - 1]'(by omega)).store) with
 | false=>rw[Ax];exact stay h5 m5.drop (by rw[hcw,hu];rfl)
 | true =>
 rw[hu,zdk] at hcw;have hb5:h5[b]?=some (Cz prs i0 (p.cs a1 c1 a2 c2 a3 c3)):=by rw[m5.fr b hblt (by simp)];exact hb
 have l25:ld h5 b i0 (0+2) 1=some [.sl 2 a1 p.chain.length c1]:=by rw[C9 hrl hb5];rfl
 have hs15:=m5.keep0 rnodes_ok hs1;have hs25:=m5.keep0 rvers_ok hs2;have hs35:=m5.keep0 rvss_ok hs3;have hv5:=m5.keep0 rtags_ok hv;have hfu:Af lo 117 [.ptr (some (b,(i0,0+2))),Iv 0] h5=some (.bool (!DC p.chain 0),h5):=Pe l25 hs15 h0;rw[Ao,hfu,Ac,At];cases hr:DC p.chain 0 with
 | false=>rw[zd3,Ao];exact stay h5 m5.drop (by rw[hcw,hr];rfl)
 | true =>
 rw[hr,zdk] at hcw;have l3:ld h5 b i0 (0+3) 1=some [.sl 6 a2 p.log.length c2]:=by rw[C9 hrl hb5];rfl
 rw[zdT,Ax,l3,Ad,Aa,Ah,Ag];cases hlg:decide ((p.log.length:Int)<36) with
 | false =>
  have:(p.log.length:Int)>=36:=by have:=of_decide_eq_false hlg;omega
  rw[Al (by omega)];exact stay h5 m5.drop (by rw[hcw,hlg];simp)
 | true =>
 have:(p.log.length:Int)<36:=of_decide_eq_true hlg;rw[hlg,zec] at hcw;have l1:ld h5 b i0 (0+1) 1=some [Iv p.clock]:=by rw[C9 hrl hb5];rfl
 have l0:ld h5 b i0 (0+0) 1=some [Iv p.me]:=by rw[C9 hrl hb5];rfl
 have hT:(if E8 l>p.clock then E8 l else p.clock)+1=AS p l:=rfl;rw[Ak (by omega),l1,Ad,Aa,Ah,Ab,P9 hv5 hvn.1,Ac,Ab,hT,wr (n:=AS p l) (by omega) (by omega)];cases hti9:decide (AS p l<=999) with
 | false =>
  have:AS p l>999:=by have:=of_decide_eq_false hti9;omega
  rw[Al (by omega)];exact stay h5 m5.drop (by rw[hcw,hti9])
 | true =>
 have:AS p l<=999:=of_decide_eq_true hti9;rw[hti9] at hcw;have hvt:=P2 hok hcw;rw[hcw,cond_true] at hW;obtain ⟨kp1,_⟩:=HR hcw;have hnd':=hnd;rw[zdg,zda,zc9,zc9,zda] at hnd';obtain ⟨n1,n2,⟨n3,n4,n5⟩,n6⟩:=hnd';simp only[not_or] at n1;have hb5lt:b<h5.length:=zdj hblt m5.le;have e8:=L3 (lo:=lo) (cs := [Iv (AS p l)]) (j:=0+1) (row:=p.cs a1 c1 a2 c2 a3 c3) (row':=(ED p (AS p l)).cs a1 c1 a2 c2 a3 c3) hb5 (hlo b (by simp)) hrl (EQ (by simp[Place.cs]));obtain ⟨m6,b6,k6,_⟩:=(Mv.refl (h:=h5) (F := []) (by simp)).store hb5lt (by simp) (Cz prs i0 ((ED p (AS p l)).cs a1 c1 a2 c2 a3 c3));generalize hh6:h5.set b (Cz prs i0 ((ED p (AS p l)).cs a1 c1 a2 c2 a3 c3))=h6 at m6 b6 k6;have e8':st lo h5 b i0 (0+1) [Iv (AS p l)]=some h6:=by rw[<- hh6];exact e8
 have hs16:=m6.keep rnodes_ok hs15 λy hy hm=>by rw[zdv] at hm;subst hm;exact n1.1 hy
 have hs26:=m6.keep rvers_ok hs25 λy hy hm=>by rw[zdv] at hm;subst hm;exact n1.2.1 hy
 have hs36:=m6.keep rvss_ok hs35 λy hy hm=>by rw[zdv] at hm;subst hm;exact n1.2.2 hy
 have hv6:=m6.keep rtags_ok hv5 λy hy hm=>by rw[zdv] at hm;subst hm;exact hvd y hy (by simp)
 have hkl:(DW p k s g l).key<p.chain[0].store.length:=by have:=(hti.node _ (zc7 h0)).1;show k<_;omega
 obtain ⟨h7,F7,e7,r7,m7⟩:=V9 (lo:=lo) (l:=p.chain) (v:=DW p k s g l) (i:=i0) (j:=0+2) b6 (zdl hrl) rfl hs16 n1.1 hv6 (λy hy hm=>hvd y hy (by simp[hm])) n2 (λy hy=>hlo y (by simp[hy])) (by have:=m5.le;have:=m6.le;omega) h0 ⟨kp1.1,hkl⟩ hn.1 hvn.1;rw[hr,cond_true] at r7;rw[hr] at e7;have hbd6:∀ y∈b ::(G1++(G2++G3)),y<h6.length:=λy hy=>zdj (hbd y hy) (zc8 m5.le m6.le);have nd2:(b :: G2).Nodup:=by rw[zdg];exact ⟨n1.2.1,n3⟩
 have d1:=(Vw m7 (Mv.refl nd2) hnd hbd6).2.1;have hb7:h7[b]?=some (Cz prs i0 ((ED p (AS p l)).cs a1 c1 a2 c2 a3 c3)):=by rw[m7.fr b (zdj hb5lt m6.le) n1.1];exact b6
 have hs27:RVers false h7 [.sl 6 a2 p.log.length c2] p.log G2:=m7.keep rvers_ok hs26 λy hy hm=>n6 y hm y (by simp[hy]) rfl;have ta:=NC (k:=0) (t:=AS p l) (By hok) hvt;have ta':Tidy 10 20 100 (Fp p 0 (AS p l) (DW p k s g l)):=⟨zc8 ta.len (by decide),λx hx=>by have:=ta.node x hx;exact ⟨this.1,zc8 this.2.1 (by decide),this.2.2⟩,⟨zc8 ta.log.1 (by decide),ta.log.2⟩,ta.got.1,λl hl=>⟨zc8 (ta.got.2 l hl).1 (by decide),(ta.got.2 l hl).2⟩⟩;have hcs:(Fp p 0 (AS p l) (DW p k s g l)).cs a1 c1 a2 c2 a3 c3=(ED p (AS p l)).cs a1 c1 a2 c2 a3 c3:=by simp only[Place.cs,Fp,ED,Fe]
 rw[<- Fe (k:=0) (v:=DW p k s g l)] at r7;obtain ⟨a8,c8,h8,F8,e9,b9,r9,m9⟩:=Ik (lo:=lo) (p:=Fp p 0 (AS p l) (DW p k s g l)) (a3:=a3) (c3:=c3) hrl (by rw[hcs];exact hb7) r7 hs27 (by show 0<(He _ _ _).length;rw[Fe];omega) ta' d1 nd2 (λy hy=>hlo y (by simp only[zdf,zc9] at hy ⊢;rcases hy with hy | hy;exact .inl hy;exact .inr (.inr (.inl hy)))) (by have:=m5.le;have:=m6.le;have:=m7.le;omega);obtain ⟨r10,m10⟩:=Fl (q:=BW (Fp p 0 (AS p l) (DW p k s g l))) m7 m9 hnd hbd6 r7 r9 hs36;have m56:Mv h (b ::(G1++(G2++G3))) h6 (b ::(G1++(G2++G3))):=(m5.drop.aside (G:=b ::(G1++(G2++G3))) hnd hbd).trans (m6.aside (G:=G1++(G2++G3)) hnd λy hy=>zdj (hbd y (by simp[hy])) m5.le);simp only[Ver.cs,DW] at e7;rw[Ak (by omega),l0,Ad,Aa,Ah,Ab,e8',Ad,e7,Ac,At,Ao,e9,Ac,HA,Ah];subst hW;exact ⟨h8,_,_,rfl,r10,b9,m56.trans m10⟩
end


variable {p:Place}{rs:List (List V)}
section
variable {lo:Nat}{ro:Bool}{hh:Heap}{F F' G:List Nat}{a a' av:Pq}{c c' cv:Nq}
theorem Pc {k:Int}{b i0:Nat} (hrl:i0<rs.length) {a1 a2 a3:Pq}{c1 c2 c3:Nq}{G1 G2 G3:List Nat} (hb:hh[b]?=some (Cz rs i0 (p.cs a1 c1 a2 c2 a3 c3)))
  (g1:RNodes false hh [.sl 2 a1 p.chain.length c1] p.chain G1) (g2:RVers false hh [.sl 6 a2 p.log.length c2] p.log G2) (g3:RVss false hh [.sl 1 a3 p.got.length c3] p.got G3) (hpo:Ay p=true)
  (hnd:(b ::(G1++(G2++G3))).Nodup) (hlo':∀ y∈b ::(G1++(G2++G3)),lo<=y) (hl:lo<=hh.length) :
  ∃ hh' row' F1',Af lo 223 [.ptr (some (b,(i0,0))),Iv k] hh=some (.bool (CD p k),hh')/\Cy false hh' row' (Dz p k) F1'/\hh'[b]?=some (Cz rs i0 row')/\Mv hh (b ::(G1++(G2++G3))) hh' (b :: F1'):=by
 have hblt:b<hh.length:=(EA hb).1;have hbd:∀ y∈b ::(G1++(G2++G3)),y<hh.length:=λy hy=>by
  simp only[zdf,zc9] at hy;rcases hy with rfl | hy | hy | hy
  ·exact hblt
  ·exact rnodes_ok.bd _ _ _ _ g1 y hy
  ·exact rvers_ok.bd _ _ _ _ g2 y hy
  ·exact rvss_ok.bd _ _ _ _ g3 y hy
 have hsmN:C7 p.chain:=Lo (By hpo) (by decide) (by decide);have l5:ld hh b i0 (0+5) 1=some [.bool p.fell]:=by rw[C9 hrl hb];rfl
 have stay:CD p k=false->∃ hh' row' F1',some (V.bool false,hh)=some (V.bool (CD p k),hh')/\Cy false hh' row' (Dz p k) F1'/\hh'[b]?=some (Cz rs i0 row')/\Mv hh (b ::(G1++(G2++G3))) hh' (b :: F1'):=λhc=>by unfold Dz;rw[hc];exact ⟨hh,_,G1++(G2++G3),rfl,⟨_,_,_,_,_,_,rfl,_,_,_,G1,G2,G3,rfl,rfl,g1,g2,g3⟩,hb,Mv.refl hnd⟩
 suffices hq:∃ hh' row' F1',_=some (V.bool (CD p k),hh')/\Cy false hh' row' (Dz p k) F1'/\hh'[b]?=some (Cz rs i0 row')/\Mv hh (b ::(G1++(G2++G3))) hh' (b :: F1') from by obtain ⟨hh',row',F1',e,hr⟩:=hq;exact ⟨hh',row',F1',OH e,hr⟩
 have hcd:CD p k=(!p.fell&&De p.chain k):=rfl;rw[l5,Ad,Aa,Ah,At];cases hf:p.fell with
 | true=>rw[Ao];exact stay (by rw[hcd,hf];rfl)
 | false =>
 rw[hf,zd3,zdk] at hcd;have nd:=hnd;rw[zdg,zda,zc9,zc9,zda] at nd;obtain ⟨n1,n2,⟨n3,n4,n5⟩,n6⟩:=nd;simp only[not_or] at n1;have nd2:(b :: G2).Nodup:=by rw[zdg];exact ⟨n1.2.1,n3⟩
 obtain ⟨a5,x5,c5,h5,F5,e5,b5,r5,m5⟩:=Zm (lo:=lo) (k:=k) (R:=6) (e:=29) (rs:=rs.set i0 (p.cs a1 c1 a2 c2 a3 c3)) (row:=p.cs a1 c1 a2 c2 a3 c3) (i:=i0) (j:=0+2) hb (zdl hrl) rfl g1 n1.1 n2 (hlo' b (by simp)) (λy hy=>hlo' y (by simp[hy])) hl hsmN (Dk hpo) (λx hx=>(AW ((CM (AO hpo).2.2.2.1).2 x hx)).1);rw[zem] at b5;have hx5:=r5.val;have mA:Mv hh (b ::(G1++(G2++G3))) h5 (b ::(F5++(G2++G3))):=m5.aside (G:=G2++G3) (by simpa using hnd) (λy hy=>hbd y (by simp only[zdf,zc9] at hy ⊢;exact .inr (.inr hy)));have d2:∀ y∈G2,y∉b :: G1:=λy hy hm=>by
  rcases zdf.1 hm with rfl | hm
  ·exact n1.2.1 hy
  ·exact n6 y hm y (by simp[hy]) rfl
 have d3:∀ y∈G3,y∉b :: G1:=λy hy hm=>by
  rcases zdf.1 hm with rfl | hm
  ·exact n1.2.2 hy
  ·exact n6 y hm y (by simp[hy]) rfl
 have g25:=m5.keep rvers_ok g2 d2;have g35:=m5.keep rvss_ok g3 d3;cases hc:De p.chain k with
 | false =>
  have hcf:CD p k=false:=by rw[hcd,hc]
  rw[hc] at e5 r5;rw[cond_false] at r5;rw[hc,cond_false] at hx5;subst hx5;rw[Ax,e5,Ac,At,Ax];unfold Dz;rw[hcf];exact ⟨h5,p.cs a5 c5 a2 c2 a3 c3,F5++(G2++G3),rfl,⟨_,_,_,_,_,_,rfl,_,_,_,F5,G2,G3,rfl,rfl,r5,g25,g35⟩,b5,mA⟩
 | true =>
  have hcf:CD p k=true:=by rw[hcd,hc]
  rw[hc] at e5 r5;rw[cond_true] at r5;rw[hc,cond_true] at hx5;subst hx5;have hc':=hc;unfold De at hc';simp only[CP,Ai,decide_eq_true_eq] at hc';obtain ⟨hw,hl1⟩:=hc';have hk':k.toNat<p.chain.length:=by omega
  have hb5lt:b<h5.length:=zdj hblt m5.le;have b5':h5[b]?=some (Cz rs i0 [Iv p.me,Iv p.clock,.sl 2 a5 (Ce p.chain k.toNat).length c5,.sl 6 a2 p.log.length c2,.sl 1 a3 p.got.length c3,.bool p.fell]):=b5;have e6:=L3 (lo:=lo) (cs := [.bool true]) (j:=0+5) b5' (hlo' b (by simp)) hrl (EQ (by simp));obtain ⟨m6,b6,k6,_⟩:=(Mv.refl (h:=h5) (F := []) (by simp)).store hb5lt (by simp) (Cz rs i0 ((MG p k.toNat).cs a5 c5 a2 c2 a3 c3));generalize hh6:h5.set b (Cz rs i0 ((MG p k.toNat).cs a5 c5 a2 c2 a3 c3))=h6 at m6 b6 k6;have e6':st lo h5 b i0 (0+5) [.bool true]=some h6:=by rw[<- hh6];exact e6
  have ndA:=mA.nd;have ndA':=ndA;rw[zdg,zda,zc9,zc9] at ndA';obtain ⟨q1,q2,_,q4⟩:=ndA';simp only[not_or] at q1;have bdA:∀ y∈b ::(F5++(G2++G3)),y<h5.length:=mA.lt hbd;have bdA6:∀ y∈b ::(F5++(G2++G3)),y<h6.length:=λy hy=>zdj (bdA y hy) m6.le;have r56:=m6.keep rnodes_ok r5 λy hy hm=>by rw[zdv] at hm;subst hm;exact q1.1 hy
  have g26:=m6.keep rvers_ok g25 λy hy hm=>by rw[zdv] at hm;subst hm;exact q1.2.1 hy
  have g36:=m6.keep rvss_ok g35 λy hy hm=>by rw[zdv] at hm;subst hm;exact q1.2.2 hy
  have ht:=QJ (Tq (k:=k.toNat) (By hpo)) (by decide) (by decide) (by decide);have d1':=(Vw (Mv.refl (h:=h6) q2) (Mv.refl nd2) ndA bdA6).2.1;obtain ⟨a8,c8,h8,F8,e9,b9,r9,m9⟩:=Ik (lo:=lo) (p:=MG p k.toNat) hrl (a3:=a3) (c3:=c3) b6 r56 g26 (by show 0<(Ce _ _).length;rw[Kx hk' hl1];omega) ht d1' nd2 (λy hy=>hlo' y (by simp only[zdf,zc9] at hy ⊢;rcases hy with hy | hy;exact .inl hy;exact .inr (.inr (.inl hy)))) (by have:=m5.le;have:=m6.le;omega);obtain ⟨r10,m10⟩:=Fl (q:=BW (MG p k.toNat)) (Mv.refl (h:=h6) q2) m9 ndA bdA6 r56 r9 g36;have mB:Mv h5 (b ::(F5++(G2++G3))) h6 (b ::(F5++(G2++G3))):=m6.aside (G:=F5++(G2++G3)) ndA λy hy=>bdA y (by simp[hy]);rw[Ax,e5,Ac,At,Ao,e6',Ad,e9,Ac,HA,Ah];unfold Dz;rw[hcf];exact ⟨h8,_,_,rfl,r10,b9,(mA.trans mB).trans m10⟩
theorem Pb {k:Int}{b i0:Nat} (hrl:i0<rs.length) {a1 a2 a3:Pq}{c1 c2 c3:Nq}{G1 G2 G3:List Nat} (hb:hh[b]?=some (Cz rs i0 (p.cs a1 c1 a2 c2 a3 c3)))
  (g1:RNodes false hh [.sl 2 a1 p.chain.length c1] p.chain G1) (g2:RVers false hh [.sl 6 a2 p.log.length c2] p.log G2) (g3:RVss false hh [.sl 1 a3 p.got.length c3] p.got G3) (hpo:Ay p=true)
  (hnd:(b ::(G1++(G2++G3))).Nodup) (hlo':∀ y∈b ::(G1++(G2++G3)),lo<=y) (hl:lo<=hh.length) :
  ∃ hh' row' F1',Af lo 222 [.ptr (some (b,(i0,0))),Iv k] hh=some (.bool (BL p.chain k),hh')/\Cy false hh' row' (Er p k) F1'/\hh'[b]?=some (Cz rs i0 row')/\Mv hh (b ::(G1++(G2++G3))) hh' (b :: F1'):=by
 have hblt:b<hh.length:=(EA hb).1;have hbd:∀ y∈b ::(G1++(G2++G3)),y<hh.length:=λy hy=>by
  simp only[zdf,zc9] at hy;rcases hy with rfl | hy | hy | hy
  ·exact hblt
  ·exact rnodes_ok.bd _ _ _ _ g1 y hy
  ·exact rvers_ok.bd _ _ _ _ g2 y hy
  ·exact rvss_ok.bd _ _ _ _ g3 y hy
 have hsmN:C7 p.chain:=Lo (By hpo) (by decide) (by decide);have nd:=hnd;rw[zdg,zda,zc9,zc9,zda] at nd;obtain ⟨n1,n2,⟨n3,n4,n5⟩,n6⟩:=nd;simp only[not_or] at n1;have nd2:(b :: G2).Nodup:=by rw[zdg];exact ⟨n1.2.1,n3⟩
 obtain ⟨h5,F5,e5,r5,m5⟩:=Zj (lo:=lo) (k:=k) (R:=6) (e:=29) (rs:=rs.set i0 (p.cs a1 c1 a2 c2 a3 c3)) (row:=p.cs a1 c1 a2 c2 a3 c3) (i:=i0) (j:=0+2) hb (zdl hrl) rfl g1 n1.1 n2 (λy hy=>hlo' y (by simp[hy])) hl hsmN (Ux hpo);have hb5:h5[b]?=some (Cz rs i0 (p.cs a1 c1 a2 c2 a3 c3)):=by rw[m5.fr b hblt n1.1];exact hb
 have g25:=m5.keep rvers_ok g2 λy hy hm=>n6 y hm y (by simp[hy]) rfl;have d1':=(Vw m5 (Mv.refl nd2) hnd hbd).2.1;unfold Er;cases hc:BL p.chain k with
 | false =>rw[hc,cond_false] at r5;rw[hc] at e5;obtain ⟨r8,m8⟩:=Fl (q:=p) m5 (Mv.refl nd2) hnd hbd r5 g25 g3;exact ⟨h5,_,_,J8 (r:=(.bool false,h5)) (by rw[e5,Ac,At,Ax]),r8,hb5,m8⟩
 | true =>
  rw[hc,cond_true] at r5;rw[hc] at e5;have ht:=QJ (Tp (k:=k.toNat) (By hpo)) (by decide) (by decide) (by decide);have h0:=Dk hpo;have hcs:(JQ p k.toNat).cs a1 c1 a2 c2 a3 c3=p.cs a1 c1 a2 c2 a3 c3:=by simp only[Place.cs,JQ,Jc]
  have r5':RNodes false h5 [.sl 2 a1 (JQ p k.toNat).chain.length c1] (JQ p k.toNat).chain F5:=by show RNodes false h5 [.sl 2 a1 (FK p.chain k.toNat).length c1] (FK p.chain k.toNat) F5;rw[Jc];exact r5
  obtain ⟨a8,c8,h8,F8,e9,b9,r9,m9⟩:=Ik (lo:=lo) (p:=JQ p k.toNat) hrl (a3:=a3) (c3:=c3) (by rw[hcs];exact hb5) r5' g25 (by show 0<(FK _ _).length;rw[Jc];omega) ht d1' nd2 (λy hy=>hlo' y (by simp only[zdf,zc9] at hy ⊢;rcases hy with hy | hy;exact .inl hy;exact .inr (.inr (.inl hy)))) (by have:=m5.le;omega);obtain ⟨r10,m10⟩:=Fl (q:=BW (JQ p k.toNat)) m5 m9 hnd hbd r5' r9 g3;exact ⟨h8,_,_,J8 (r:=(.bool true,h8)) (by rw[e5,Ac,At,Ao,e9,Ac,HA,Ah]),r10,b9,m10⟩
end


theorem Sli.atP {α:Type}{El:Rel α} (ok:El.Ok) {h:Heap}{R R' e n k:Nat}{a:Pq}{c:Nq}{l:List α}{F:List Nat} (hs:Sli false R e El h [.sl R' a n c] l F) (hk:k<l.length) (hnd:F.Nodup) :
  ∃ (b i:Nat) (rs:List (List V)) (row:List V) (G:List Nat),a=some (b,i)/\b∈F/\b∉G/\h[b]?=some (.rows R e false (rs.set (i+k) row))/\i+k<rs.length/\El h row l[k] G/\(∀ y∈G,y∈F)/\G.Nodup /\
   ∀ h' row' x' G',h'[b]?=some (.rows R e false (rs.set (i+k) row'))->El h' row' x' G'->Mv h (b :: G) h' (b :: G')->∃ F',Sli false R e El h' [.sl R' a n c] (l.set k x') F'/\Mv h F h' F':=by
 have hbd:=(Sli.ok ok).bd _ _ _ _ hs;obtain ⟨b,i,rs,row,G,ha,hbF,hbG,hb,hrow,hel,hGF,hGn,put⟩:=hs.put ok.fr hk hnd;refine ⟨b,i,rs,row,G,ha,hbF,hbG,by rw[set_same hrow];exact hb,(EA hrow).1,hel,hGF,hGn,λh' row' x' G' hb' hx m=>?_⟩;have hnd':=m.nd;rw[zdg] at hnd';have hsub:∀ y∈b :: G,y∈F:=λy hy=>by
  rcases zdf.1 hy with rfl | hy
  ·exact hbF
  ·exact hGF y hy
 obtain ⟨F',p1,p2,p3,_⟩:=put h' row' x' G' hb' (λy hy hyb hyG=>m.fr y (hbd y hy) (by simp[hyb,hyG])) hx hnd'.2 (λy hy hyF=>by
  rcases m.sub y (by simp[hy]) with g | g
  ·rcases zdf.1 g with rfl | g
   ·exact absurd hy hnd'.1
   ·exact g
  ·have:=hbd y hyF;omega)
 refine ⟨F',p1,m.le,λy hy hyF=>m.fr y hy λhg=>hyF (hsub y hg),p3,λy hy=>?_⟩;rcases p2 y hy with g | g
 ·exact .inl g.1
 ·rcases m.sub y (by simp[g]) with q | q
  ·exact .inl (hsub y q)
  ·exact .inr q
abbrev RPlacesN:Rel (List Place):=Sli false 6 (zaJ false) (Cy false)
theorem rplacesN_ok:RPlacesN.Ok:=Sli.ok Jp
structure WN (lo:Nat) (h:Heap) (b:Nat) (w:World) (a1:Pq) (c1:Nq) (a2:Pq) (c2:Nq) (a3:Pq) (c3:Nq) (a4:Pq) (c4:Nq) (F1 F2 F3 F4:List Nat):Prop where
 hb:h[b]?=some (.rows 4 60 false [w.cs a1 c1 a2 c2 a3 c3 a4 c4])
 r1:RPlacesN h [.sl 6 a1 w.places.length c1] w.places F1
 r2:RSesss false h [.sl 5 a2 w.sess.length c2] w.sess F2
 r3:RFrames false h [.sl 9 a3 w.net.length c3] w.net F3
 r4:RDones false h [.sl 5 a4 w.hist.length c4] w.hist F4
 nd:(b ::(F1++(F2++(F3++F4)))).Nodup
 ge:∀ y∈b ::(F1++(F2++(F3++F4))),lo<=y
 hl:lo<=h.length
def IC (lo:Nat) (h:Heap) (b:Nat) (w:World) (F:List Nat):Prop:=∃ a1 c1 a2 c2 a3 c3 a4 c4 F1 F2 F3 F4,F=b ::(F1++(F2++(F3++F4)))/\WN lo h b w a1 c1 a2 c2 a3 c3 a4 c4 F1 F2 F3 F4
section
variable {lo b:Nat}{h h':Heap}{w:World}{a1 a2 a3 a4 a:Pq}{c1 c2 c3 c4 c:Nq}{F1 F2 F3 F4:List Nat}
theorem WN.at (H:WN lo h b w a1 c1 a2 c2 a3 c3 a4 c4 F1 F2 F3 F4):IC lo h b w (b ::(F1++(F2++(F3++F4)))):=⟨a1,c1,a2,c2,a3,c3,a4,c4,F1,F2,F3,F4,rfl,H⟩
theorem WN.blt (H:WN lo h b w a1 c1 a2 c2 a3 c3 a4 c4 F1 F2 F3 F4):b<h.length:=(EA H.hb).1
theorem WN.lt (H:WN lo h b w a1 c1 a2 c2 a3 c3 a4 c4 F1 F2 F3 F4):(∀ y∈F1,y<h.length)/\(∀ y∈F2,y<h.length)/\(∀ y∈F3,y<h.length)/\∀ y∈F4,y<h.length :=
 ⟨rplacesN_ok.bd _ _ _ _ H.r1,rsesss_ok.bd _ _ _ _ H.r2,rframes_ok.bd _ _ _ _ H.r3,rdones_ok.bd _ _ _ _ H.r4⟩
theorem WN.bd (H:WN lo h b w a1 c1 a2 c2 a3 c3 a4 c4 F1 F2 F3 F4):∀ y∈F1++(F2++(F3++F4)),y<h.length:=λy hy=>by
 obtain ⟨g1,g2,g3,g4⟩:=H.lt;simp only[zc9] at hy;rcases hy with hy | hy | hy | hy
 ·exact g1 y hy
 ·exact g2 y hy
 ·exact g3 y hy
 ·exact g4 y hy
theorem WN.ne (H:WN lo h b w a1 c1 a2 c2 a3 c3 a4 c4 F1 F2 F3 F4):b∉F1++(F2++(F3++F4))/\(F1++(F2++(F3++F4))).Nodup:=zdg.1 H.nd
theorem WN.with (H:WN lo h b w a1 c1 a2 c2 a3 c3 a4 c4 F1 F2 F3 F4) {F':List Nat} (m:Mv h (F1++(F2++(F3++F4))) h' F'):h'[b]?=h[b]?/\Mv h (b ::(F1++(F2++(F3++F4)))) h' (b :: F'):=by
 have e:=m.fr b H.blt H.ne.1;refine ⟨e,⟨m.le,λy hy hF=>m.fr y hy λg=>hF (by simp[g]),?_,λy hy=>?_⟩⟩
 ·rw[zdg];refine ⟨λhm=>?_,m.nd⟩;rcases m.sub b hm with g | g
  ·exact H.ne.1 g
  ·have:=H.blt;omega
 ·rcases zdf.1 hy with rfl | hy
  ·exact .inl (by simp)
  ·rcases m.sub y hy with g | g
   ·exact .inl (by simp[g])
   ·exact .inr g
theorem WN.up1 (H:WN lo h b w a1 c1 a2 c2 a3 c3 a4 c4 F1 F2 F3 F4) {l:List Place}{G:List Nat} (hn:l.length=w.places.length) (m:Mv h F1 h' G) (r:RPlacesN h' [.sl 6 a1 w.places.length c1] l G) :
  WN lo h' b ⟨l,w.sess,w.net,w.hist⟩ a1 c1 a2 c2 a3 c3 a4 c4 G F2 F3 F4/\Mv h (b ::(F1++(F2++(F3++F4)))) h' (b ::(G++(F2++(F3++F4)))):=by
 obtain ⟨_,d12,d13,d14,d23,d24,d34⟩:=Qg H.ne.2;have m1:Mv h (F1++(F2++(F3++F4))) h' (G++(F2++(F3++F4))):=m.mid (.refl _) H.ne.2 (λy hy=>H.bd y (by simp only[zc9] at hy ⊢;grind)) (.refl _);obtain ⟨e,m2⟩:=H.with m1;refine ⟨⟨by rw[e,H.hb];simp only[World.cs,hn],by rw[<- hn] at r;exact r,m.keep rsesss_ok H.r2 (λb hb hm=>d12 b hm hb),m.keep rframes_ok H.r3 (λb hb hm=>d13 b hm hb),m.keep rdones_ok H.r4 (λb hb hm=>d14 b hm hb),m2.nd,m2.ge H.hl H.ge,zc8 H.hl m.le⟩,m2⟩
theorem WN.up2 (H:WN lo h b w a1 c1 a2 c2 a3 c3 a4 c4 F1 F2 F3 F4) {l:List Sess}{G:List Nat} (hn:l.length=w.sess.length) (m:Mv h F2 h' G) (r:RSesss false h' [.sl 5 a2 w.sess.length c2] l G) :
  WN lo h' b ⟨w.places,l,w.net,w.hist⟩ a1 c1 a2 c2 a3 c3 a4 c4 F1 G F3 F4/\Mv h (b ::(F1++(F2++(F3++F4)))) h' (b ::(F1++(G++(F3++F4)))):=by
 obtain ⟨_,d12,d13,d14,d23,d24,d34⟩:=Qg H.ne.2;have m1:Mv h (F1++(F2++(F3++F4))) h' (F1++(G++(F3++F4))):=m.mid P0 H.ne.2 (λy hy=>H.bd y (by simp only[zc9] at hy ⊢;grind)) P0;obtain ⟨e,m2⟩:=H.with m1;refine ⟨⟨by rw[e,H.hb];simp only[World.cs,hn],m.keep rplacesN_ok H.r1 (λb hb hm=>d12 b hb hm),by rw[<- hn] at r;exact r,m.keep rframes_ok H.r3 (λb hb hm=>d23 b hm hb),m.keep rdones_ok H.r4 (λb hb hm=>d24 b hm hb),m2.nd,m2.ge H.hl H.ge,zc8 H.hl m.le⟩,m2⟩
theorem WN.up0 (H:WN lo h b w a1 c1 a2 c2 a3 c3 a4 c4 F1 F2 F3 F4) (m:Mv h [] h' []):WN lo h' b w a1 c1 a2 c2 a3 c3 a4 c4 F1 F2 F3 F4/\Mv h (b ::(F1++(F2++(F3++F4)))) h' (b ::(F1++(F2++(F3++F4)))):=by have m1:Mv h (F1++(F2++(F3++F4))) h' (F1++(F2++(F3++F4))):=m.aside (by simpa using H.ne.2) H.bd;obtain ⟨e,m2⟩:=H.with m1;exact ⟨⟨by rw[e,H.hb],m.keep0 rplacesN_ok H.r1,m.keep0 rsesss_ok H.r2,m.keep0 rframes_ok H.r3,m.keep0 rdones_ok H.r4,H.nd,H.ge,zc8 H.hl m.le⟩,m2⟩
theorem WN.up3 (H:WN lo h b w a1 c1 a2 c2 a3 c3 a4 c4 F1 F2 F3 F4) {l:List Frame}{G:List Nat} (m:Mv h F3 h' G) (r:RFrames false h' [.sl 9 a l.length c] l G) :
  ∃ h2,st lo h' b 0 (0+2) [.sl 9 a l.length c]=some h2/\WN lo h2 b ⟨w.places,w.sess,l,w.hist⟩ a1 c1 a2 c2 a c a4 c4 F1 F2 G F4/\Mv h (b ::(F1++(F2++(F3++F4)))) h2 (b ::(F1++(F2++(G++F4)))):=by
 obtain ⟨_,d12,d13,d14,d23,d24,d34⟩:=Qg H.ne.2;have m1:Mv h (F1++(F2++(F3++F4))) h' (F1++(F2++(G++F4))):=m.mid TG H.ne.2 (λy hy=>H.bd y (by simp only[zc9] at hy ⊢;grind)) TG;obtain ⟨e,_⟩:=H.with m1;rw[H.hb] at e;obtain ⟨m6,b6,k6,n6⟩:=m1.store H.blt H.ne.1 (.rows 4 60 false [(World.mk w.places w.sess l w.hist).cs a1 c1 a2 c2 a c a4 c4]);have es:=DM (lo:=lo) (j:=0+2) (r:=0) (cs := [.sl 9 a l.length c]) (row':=(World.mk w.places w.sess l w.hist).cs a1 c1 a2 c2 a c a4 c4) e (H.ge b (by simp)) rfl (EQ (by simp[World.cs]));have ne:∀ {F:List Nat},(∀ y∈F,y∈F1++(F2++(G++F4)))->∀ y∈F,y≠b:=λhs y hy e=>n6 (e ▸ hs y hy);refine ⟨_,es,⟨b6,rplacesN_ok.fr _ _ _ _ _ (m.keep rplacesN_ok H.r1 (λb hb hm=>d13 b hb hm)) λy hy=>k6 y (ne (F:=F1) (λy hy=>by simp[hy]) y hy),rsesss_ok.fr _ _ _ _ _ (m.keep rsesss_ok H.r2 (λb hb hm=>d23 b hb hm)) λy hy=>k6 y (ne (F:=F2) (λy hy=>by simp[hy]) y hy),rframes_ok.fr _ _ _ _ _ r λy hy=>k6 y (ne (F:=G) (λy hy=>by simp[hy]) y hy),rdones_ok.fr _ _ _ _ _ (m.keep rdones_ok H.r4 (λb hb hm=>d34 b hm hb)) λy hy=>k6 y (ne (F:=F4) (λy hy=>by simp[hy]) y hy),m6.nd,m6.ge H.hl H.ge,zc8 H.hl m6.le⟩,m6⟩
theorem WN.up4 (H:WN lo h b w a1 c1 a2 c2 a3 c3 a4 c4 F1 F2 F3 F4) {l:List Done}{G:List Nat} (m:Mv h F4 h' G) (r:RDones false h' [.sl 5 a l.length c] l G) :
  ∃ h2,st lo h' b 0 (0+3) [.sl 5 a l.length c]=some h2/\WN lo h2 b ⟨w.places,w.sess,w.net,l⟩ a1 c1 a2 c2 a3 c3 a c F1 F2 F3 G/\Mv h (b ::(F1++(F2++(F3++F4)))) h2 (b ::(F1++(F2++(F3++G)))):=by
 obtain ⟨_,d12,d13,d14,d23,d24,d34⟩:=Qg H.ne.2;have m1:Mv h (F1++(F2++(F3++F4))) h' (F1++(F2++(F3++G))):=m.mid Ya H.ne.2 (λy hy=>H.bd y (by simp only[zc9] at hy ⊢;grind)) Ya;obtain ⟨e,_⟩:=H.with m1;rw[H.hb] at e;obtain ⟨m6,b6,k6,n6⟩:=m1.store H.blt H.ne.1 (.rows 4 60 false [(World.mk w.places w.sess w.net l).cs a1 c1 a2 c2 a3 c3 a c]);have es:=DM (lo:=lo) (j:=0+3) (r:=0) (cs := [.sl 5 a l.length c]) (row':=(World.mk w.places w.sess w.net l).cs a1 c1 a2 c2 a3 c3 a c) e (H.ge b (by simp)) rfl (EQ (by simp[World.cs]));have ne:∀ {F:List Nat},(∀ y∈F,y∈F1++(F2++(F3++G)))->∀ y∈F,y≠b:=λhs y hy e=>n6 (e ▸ hs y hy);refine ⟨_,es,⟨b6,rplacesN_ok.fr _ _ _ _ _ (m.keep rplacesN_ok H.r1 (λb hb hm=>d14 b hb hm)) λy hy=>k6 y (ne (F:=F1) (λy hy=>by simp[hy]) y hy),rsesss_ok.fr _ _ _ _ _ (m.keep rsesss_ok H.r2 (λb hb hm=>d24 b hb hm)) λy hy=>k6 y (ne (F:=F2) (λy hy=>by simp[hy]) y hy),rframes_ok.fr _ _ _ _ _ (m.keep rframes_ok H.r3 (λb hb hm=>d34 b hb hm)) λy hy=>k6 y (ne (F:=F3) (λy hy=>by simp[hy]) y hy),rdones_ok.fr _ _ _ _ _ r λy hy=>k6 y (ne (F:=G) (λy hy=>by simp[hy]) y hy),m6.nd,m6.ge H.hl H.ge,zc8 H.hl m6.le⟩,m6⟩
theorem WN.cell (H:WN lo h b w a1 c1 a2 c2 a3 c3 a4 c4 F1 F2 F3 F4):ld h b 0 (0+0) 1=some [.sl 6 a1 w.places.length c1]/\ld h b 0 (0+1) 1=some [.sl 5 a2 w.sess.length c2]/\ld h b 0 (0+2) 1=some [.sl 9 a3 w.net.length c3]/\ld h b 0 (0+3) 1=some [.sl 5 a4 w.hist.length c4]:=by refine ⟨?_,?_,?_,?_⟩<;>rw[BA H.hb rfl]<;>rfl
theorem WN.place (H:WN lo h b w a1 c1 a2 c2 a3 c3 a4 c4 F1 F2 F3 F4) {k:Nat} (hk:k<w.places.length):∃ b1 i1 rs x1 y1 x2 y2 x3 y3 G1 G2 G3,a1=some (b1,i1)/\i1+k<rs.length/\h[b1]?=some (Cz rs (i1+k) (w.places[k].cs x1 y1 x2 y2 x3 y3)) /\
  RNodes false h [.sl 2 x1 w.places[k].chain.length y1] w.places[k].chain G1/\RVers false h [.sl 6 x2 w.places[k].log.length y2] w.places[k].log G2/\RVss false h [.sl 1 x3 w.places[k].got.length y3] w.places[k].got G3 /\
  (b1 ::(G1++(G2++G3))).Nodup/\(∀ y∈b1 ::(G1++(G2++G3)),lo<=y/\y<h.length/\y∈F1) /\
  ∀ h' row' p' F',h'[b1]?=some (Cz rs (i1+k) row')->Cy false h' row' p' F'->Mv h (b1 ::(G1++(G2++G3))) h' (b1 :: F') ->
   ∃ F1',WN lo h' b (setP w k p') a1 c1 a2 c2 a3 c3 a4 c4 F1' F2 F3 F4/\Mv h (b ::(F1++(F2++(F3++F4)))) h' (b ::(F1'++(F2++(F3++F4)))):=by
 obtain ⟨⟨n1,_⟩,_⟩:=Qg H.ne.2;obtain ⟨b1,i1,rs,row,G,ha,hbF,hbG,hb,hil,hel,hGF,hGn,put⟩:=Sli.atP Jp H.r1 hk n1;obtain ⟨x1,y1,x2,y2,x3,y3,rfl,q⟩:=hel;obtain ⟨G1,G2,G3,rfl,g1,g2,g3⟩:=q.cells;refine ⟨b1,i1,rs,x1,y1,x2,y2,x3,y3,G1,G2,G3,ha,hil,hb,g1,g2,g3,by rw[zdg];exact ⟨hbG,hGn⟩,λy hy=>?_,λh' row' p' F' hb' hx m=>?_⟩
 ·have hyF:y∈F1:=by
   rcases zdf.1 hy with rfl | hy
   ·exact hbF
   ·exact hGF y hy
  exact ⟨H.ge y (by simp[hyF]),H.lt.1 y hyF,hyF⟩
 ·obtain ⟨F1',r,m'⟩:=put h' row' p' F' hb' hx m;exact ⟨F1',(H.up1 (by simp) m' r).1,(H.up1 (by simp) m' r).2⟩
end


variable {rs:List (List V)}
theorem MR {h:Heap}{b i j n R e:Nat}{ro:Bool}{row:List V} (hb:h[b]?=some (.rows R e ro (rs.set i row))) (hil:i<rs.length):ld h b i j n=cut row j n:=BA hb (by simp[hil])
theorem OZ {lo:Nat}{h:Heap}{b i j R e:Nat}{row row' cs:List V} (hb:h[b]?=some (.rows R e false (rs.set i row))) (hil:i<rs.length) (hl:lo<=b) (hp:paste row j cs=some row'):st lo h b i j cs=some (h.set b (.rows R e false (rs.set i row'))):=by rw[DM (r:=i) hb hl (by simp[hil]) hp,zem]
section
variable {lo l0 b:Nat}{h h':Heap}{w:World}{a1 a2 a3 a4 a:Pq}{c1 c2 c3 c4 c:Nq}{F1 F2 F3 F4:List Nat}
theorem L8 {n:Int} (H:WN l0 h b w a1 c1 a2 c2 a3 c3 a4 c4 F1 F2 F3 F4) (h80:w.hist.length<=1000) (hn:0<=n/\n<=4):Af lo 273 [.ptr (some (b,(0,0))),Iv n] h=some (.bool (CR w n),h):=by
 refine Oy (h':=h) ?_;rw[H.cell.2.2.2,Ad,Aa,Ah,Ag,wr (by omega) (by omega)];unfold CR;cases decide ((w.hist.length:Int)+n<=80) with
 | true=>rw[Ao]
 | false=>rw[Ax]
theorem Pf {d:Done} (H:WN lo h b w a1 c1 a2 c2 a3 c3 a4 c4 F1 F2 F3 F4) (h80:w.hist.length<=1000) :
  ∃ a5 c5 h' G,Af lo 274 [.ptr (some (b,(0,0))),Iv d.sess,Iv d.kind,Iv d.key,.agg [Iv d.tag.time,Iv d.tag.place]] h=some (.tup [],h') /\
   WN lo h' b ⟨w.places,w.sess,w.net,w.hist ++ [d]⟩ a1 c1 a2 c2 a3 c3 a5 c5 F1 F2 F3 G/\Mv h (b ::(F1++(F2++(F3++F4)))) h' (b ::(F1++(F2++(F3++G)))):=by
 obtain ⟨⟨n1,n2,n3,n4⟩,_⟩:=Qg H.ne.2;obtain ⟨a6,c6,h6,F6,e6,r6,m6⟩:=Dv (lo:=lo) (bytes:=40) (e:=126) (El:=flat Done.cs) DG H.r4 (row:=d.cs) (x:=d) (G := []) (h1:=h ++ [.rows 5 126 false [d.cs]])
  ⟨rfl,rfl⟩ Mv.snoc n4 (λy hy=>H.ge y (by simp[hy])) H.hl (by decide) (by omega)
 have hnl:(w.hist ++ [d]).length=w.hist.length+1:=by simp
 rw[<- hnl] at r6 e6;obtain ⟨h2,es,W,M⟩:=H.up4 m6 r6;refine ⟨a6,c6,h2,F6,J7 ?_,W,M⟩;simp only[Done.cs] at e6;rw[H.cell.2.2.2,Ad,Aa,Ah,Ag,A7,e6,Ag,es,Ad]
theorem WN.sess (H:WN lo h b w a1 c1 a2 c2 a3 c3 a4 c4 F1 F2 F3 F4) {k:Nat} (hk:k<w.sess.length):∃ (b2 i2:Nat) (rs:List (List V)) (v:V) (x:Pq) (y:Nq) (G:List Nat),a2=some (b2,i2)/\i2+k<rs.length /\
  h[b2]?=some (.rows 5 (IX false) false (rs.set (i2+k) [Iv w.sess[k].place,v,Iv w.sess[k].wait.time,Iv w.sess[k].wait.place,Iv w.sess[k].key])) /\
  (∀ {R':Type} (K:Pq->Nat->Nq->Option R'),eS 2 v K=K x w.sess[k].past.length y)/\RTags false h [.sl 2 x w.sess[k].past.length y] w.sess[k].past G/\RTags false h [v] w.sess[k].past G /\
  (b2 :: G).Nodup/\(∀ y∈b2 :: G,lo<=y/\y<h.length/\y∈F2) /\
  ∀ h' row' s' G',h'[b2]?=some (.rows 5 (IX false) false (rs.set (i2+k) row'))->RSess false h' row' s' G'->Mv h (b2 :: G) h' (b2 :: G') ->
   ∃ F2',WN lo h' b ⟨w.places,w.sess.set k s',w.net,w.hist⟩ a1 c1 a2 c2 a3 c3 a4 c4 F1 F2' F3 F4/\Mv h (b ::(F1++(F2++(F3++F4)))) h' (b ::(F1++(F2'++(F3++F4)))):=by
 obtain ⟨⟨_,n2,_⟩,_⟩:=Qg H.ne.2;obtain ⟨b2,i2,rs,row,G,ha,hbF,hbG,hb,hil,hel,hGF,hGn,put⟩:=Sli.atP Kn H.r2 hk n2;obtain ⟨v,rfl,hv⟩:=hel;obtain ⟨x,y,es,hp⟩:=hv.form;refine ⟨b2,i2,rs,v,x,y,G,ha,hil,hb,es,hp,hv,by rw[zdg];exact ⟨hbG,hGn⟩,λy hy=>?_,λh' row' s' G' hb' hx m=>?_⟩
 ·have hyF:y∈F2:=by
   rcases zdf.1 hy with rfl | hy
   ·exact hbF
   ·exact hGF y hy
  exact ⟨H.ge y (by simp[hyF]),H.lt.2.1 y hyF,hyF⟩
 ·obtain ⟨F2',r,m'⟩:=put h' row' s' G' hb' hx m;exact ⟨F2',(H.up2 (by simp) m' r).1,(H.up2 (by simp) m' r).2⟩
theorem WN.sets (H:WN lo h b w a1 c1 a2 c2 a3 c3 a4 c4 F1 F2 F3 F4) {k:Nat} (hk:k<w.sess.length):∃ (b2 i2:Nat) (rs:List (List V)) (v:V),a2=some (b2,i2)/\lo<=b2/\i2+k<rs.length /\
  h[b2]?=some (.rows 5 (IX false) false (rs.set (i2+k) [Iv w.sess[k].place,v,Iv w.sess[k].wait.time,Iv w.sess[k].wait.place,Iv w.sess[k].key])) /\
  ∀ s':Sess,s'.past=w.sess[k].past->∃ F2',WN lo (h.set b2 (.rows 5 (IX false) false (rs.set (i2+k) [Iv s'.place,v,Iv s'.wait.time,Iv s'.wait.place,Iv s'.key]))) b ⟨w.places,w.sess.set k s',w.net,w.hist⟩ a1 c1 a2 c2 a3 c3 a4 c4 F1 F2' F3 F4 /\
   Mv h (b ::(F1++(F2++(F3++F4)))) (h.set b2 (.rows 5 (IX false) false (rs.set (i2+k) [Iv s'.place,v,Iv s'.wait.time,Iv s'.wait.place,Iv s'.key]))) (b ::(F1++(F2'++(F3++F4)))):=by
 obtain ⟨b2,i2,rs,v,x,y,G,ha,hil,hb,es,hp,hv,hnd,hF,put⟩:=H.sess hk;refine ⟨b2,i2,rs,v,ha,(hF b2 (by simp)).1,hil,hb,λs' hs'=>?_⟩;obtain ⟨hbG,hGn⟩:=zdg.1 hnd;obtain ⟨m6,b6,k6,n6⟩:=(Mv.refl (h:=h) hGn).store (hF b2 (by simp)).2.1 hbG (.rows 5 (IX false) false (rs.set (i2+k) [Iv s'.place,v,Iv s'.wait.time,Iv s'.wait.place,Iv s'.key]));exact put _ _ s' G b6 ⟨v,rfl,by rw[hs'];exact rtags_ok.fr _ _ _ _ _ hv λy hy=>k6 y λe=>hbG (e ▸ hy)⟩ m6
theorem WN.setp (H:WN lo h b w a1 c1 a2 c2 a3 c3 a4 c4 F1 F2 F3 F4) {k:Nat} (hk:k<w.sess.length) {l:List Tag}{G5:List Nat} (m:Mv h [] h' G5) (r:RTags false h' [.sl 2 a l.length c] l G5):∃ (b2 i2:Nat) (rs:List (List V)) (v:V),a2=some (b2,i2)/\lo<=b2/\i2+k<rs.length /\
  h'[b2]?=some (.rows 5 (IX false) false (rs.set (i2+k) [Iv w.sess[k].place,v,Iv w.sess[k].wait.time,Iv w.sess[k].wait.place,Iv w.sess[k].key])) /\
  ∀ s':Sess,s'.past=l->∃ F2',WN lo (h'.set b2 (.rows 5 (IX false) false (rs.set (i2+k) [Iv s'.place,.sl 2 a l.length c,Iv s'.wait.time,Iv s'.wait.place,Iv s'.key]))) b ⟨w.places,w.sess.set k s',w.net,w.hist⟩ a1 c1 a2 c2 a3 c3 a4 c4 F1 F2' F3 F4 /\
   Mv h (b ::(F1++(F2++(F3++F4)))) (h'.set b2 (.rows 5 (IX false) false (rs.set (i2+k) [Iv s'.place,.sl 2 a l.length c,Iv s'.wait.time,Iv s'.wait.place,Iv s'.key]))) (b ::(F1++(F2'++(F3++F4)))):=by
 obtain ⟨b2,i2,rs,v,x,y,G,ha,hil,hb,es,hp,hv,hnd,hF,put⟩:=H.sess hk;obtain ⟨hbG,hGn⟩:=zdg.1 hnd;have hblt:=(hF b2 (by simp)).2.1;refine ⟨b2,i2,rs,v,ha,(hF b2 (by simp)).1,hil,by rw[m.fr b2 hblt (by simp)];exact hb,λs' hs'=>?_⟩;have mG:Mv h G h' G5:=m.wide (λb hb=>by simp at hb);obtain ⟨m6,b6,k6,n6⟩:=mG.store hblt hbG (.rows 5 (IX false) false (rs.set (i2+k) [Iv s'.place,.sl 2 a l.length c,Iv s'.wait.time,Iv s'.wait.place,Iv s'.key]));exact put _ _ s' G5 b6 ⟨_,rfl,by rw[hs'];exact rtags_ok.fr _ _ _ _ _ r λy hy=>k6 y λe=>n6 (e ▸ hy)⟩ m6
theorem WN.stay (H:WN lo h b w a1 c1 a2 c2 a3 c3 a4 c4 F1 F2 F3 F4) (m:Mv h [] h' []) {X:Option World} (hX:X=none):∃ h'' F',some (V.bool false,h')=some (V.bool X.isSome,h'')/\IC lo h'' b (X.getD w) F'/\Mv h (b ::(F1++(F2++(F3++F4)))) h'' F':=by subst hX;exact ⟨h',_,rfl,(H.up0 m).1.at,(H.up0 m).2⟩
end
end Go.Proofs.YtmgopagfoemomaaGreat
