/- Part 4 of what is shown for the law Gs, whatever the input; no condition of its own. -/
import Derived.Test.YtmdgiekbejjjgaaGreatBGs3
set_option linter.unusedVariables false
set_option linter.unusedSimpArgs false
set_option linter.unnecessarySimpa false
set_option maxRecDepth 100000
namespace Go.Proofs.YtmdgiekbejjjgaaGreat
open Go T


variable {c t:Int}{s:ByteArray}{i:Nat}{x:Node}{k m:Int}
theorem Eb {a b d:Int}:Fu a b c d=false<->¬ (a<c\/(a=c/\b<d)):=by rw[<- Bool.not_eq_true];simp[Fu]
theorem under_iff {p q:List Tag}:Bs p q=true<->∀ (i:Nat) (a b:Tag),p[i]?=some a->q[i]?=some b->Fu b.time b.place a.time a.place=false:=by
 unfold Bs;rw[zcK];constructor
 ·intro h i a b ha hb;have:=h (a,b) (zcT.2 ⟨i,zep.2 ⟨ha,hb⟩⟩);simpa using this
 ·rintro h ⟨a,b⟩ hm
  obtain ⟨i,hi⟩:=zcT.1 hm;rw[zep] at hi;simpa using h i a b hi.1 hi.2
theorem CU {p:List Tag}:Bs p p=true:=under_iff.2 λi a b ha hb=>by rw[ha] at hb;injection hb with hb;subst hb;rw[Eb];omega
theorem IP {p q r:List Tag} (hl:p.length<=q.length) (h1:Bs p q=true) (h2:Bs q r=true):Bs p r=true:=under_iff.2 λi a c ha hc=>by have hi:=(Ea ha).1;have hb:=Cz (l:=q) (i:=i) (by omega);have x1:=under_iff.1 h1 i a _ ha hb;have x2:=under_iff.1 h2 i _ c hb hc;rw[Eb] at x1 x2 ⊢;omega
theorem NS {t s:List Ver} (h:upS t s):Bs (Bg t) (Bg s)=true:=under_iff.2 λi a b ha hb=>by
 unfold Bg at ha hb;rw[zd0,zc2] at ha hb;obtain ⟨x,hx,rfl⟩:=ha;obtain ⟨y,hy,rfl⟩:=hb;rw[Eb];rcases h i x y hx hy with rfl | g
 ·omega
 ·rw[Ik] at g;omega
def inCh (l:List Node) (v:Ver):Prop:=∃ x∈l,v∈x.store\/v∈x.wait
section
variable {l:List Node}{v:Ver}
theorem inCh.get (h:inCh l v):∃ (i:Nat) (x:Node),l[i]?=some x/\(v∈x.store\/v∈x.wait):=by obtain ⟨x,hx,hv⟩:=h;obtain ⟨i,hi⟩:=zcT.1 hx;exact ⟨i,x,hi,hv⟩
theorem inCh.of (hx:l[i]?=some x) (hv:v∈x.store\/v∈x.wait):inCh l v:=⟨x,zcL hx,hv⟩
theorem Ch.ver (h:Ch l) (hv:inCh l v) (ht:0<v.tag.time):Ck v=true:=by
 obtain ⟨i,x,hx,g | g⟩:=hv.get
 ·obtain ⟨j,hj⟩:=zcT.1 g;rcases Cp (Ip (h.store hx).1 hj) with g2 | g2
  ·have:=(DP g2).1;omega
  ·exact g2.1
 ·exact (AY (h.node i x hx)).2.2 v g
theorem Dl (hx:l[i]?=some x) (hi:i+1=l.length):AR l=Bg x.store:=by
 rw[GC (show 0<l.length by omega)];obtain ⟨hj,rfl⟩:=Ea hx;have e:l.length - 1=i:=by omega
 simp only[e]
theorem Il (hx:l[i]?=some x) (hi:i+1=l.length):Eu l=x.store:=by
 rw[E5 (show 0<l.length by omega)];obtain ⟨hj,rfl⟩:=Ea hx;have e:l.length - 1=i:=by omega
 simp only[e]
theorem Ch.tail (h:Ch l):∃ z,l[l.length - 1]?=some z/\l.length - 1+1=l.length:=by have:=h.pos;exact ⟨_,Cz (by omega),by omega⟩
theorem Ch.four (h:Ch l):(AR l).length=4/\(Eu l).length=4:=by obtain ⟨z,hz,hi⟩:=h.tail;rw[Dl hz hi,Il hz hi];have:=(h.store hz).2;exact ⟨by simpa [Bg] using this,this⟩
theorem N8 (h:Ch l):(IW l).length=l.length+1/\AR (IW l)=AR l/\Eu (IW l)=Eu l/\(IW l)[0]?=l[0]?:=by
 have hp:=h.pos;obtain ⟨z,hz,hi⟩:=h.tail;obtain ⟨hj,e⟩:=Ea hz;have hn:(IW l)[l.length]?=some ⟨z.store,[]⟩:=by rw[Fm (by omega),zcU (zcz _),zd6,e];rfl
 have hl:(IW l).length=l.length+1:=by rw[Fm (by omega)];simp
 refine ⟨hl,?_,?_,?_⟩
 ·rw[Dl hn (by omega),Dl hz hi]
 ·rw[Il hn (by omega),Il hz hi]
 ·rw[Fm (by omega),zcC (by omega)]
theorem S4 (hp:1<=l.length) (hv:inCh (IW l) v):inCh l v:=by
 rw[Fm (by omega)] at hv;obtain ⟨x,hx,g⟩:=hv;rcases zcx.1 hx with hx | hx
 ·exact ⟨x,hx,g⟩
 ·rw[zcQ] at hx;subst hx;rcases g with g | g
  ·exact ⟨_,zcv (by omega),.inl g⟩
  ·exact absurd g (by simp)
theorem S5 {k:Nat} (hk:k<l.length) (hv:inCh (B6 l k) v):inCh l v:=by
 obtain ⟨i,x,hx,g⟩:=hv.get;rw[IH hk] at hx;split at hx
 ·rw[zc2] at hx;obtain ⟨z,hz,rfl⟩:=hx;rcases g with g | g
  ·exact .of hz (.inl g)
  ·simp only at g;split at g
   ·exact .of hz (.inl (N6 g))
   ·simp at g
 ·split at hx
  ·exact .of hx g
  ·exact .of hx g
theorem MU {j:Nat}{u:Ver} (hv:inCh (FI l j u) v):inCh l v\/v=u:=by
 unfold FI at hv;split at hv
 ·rename_i x hx
  split at hv
  ·rename_i w hw
   cases hl:A0 w u with
   | false=>rw[hl] at hv;exact .inl hv
   | true =>
    rw[hl,cond_true] at hv;obtain ⟨y,hy,g⟩:=hv;rcases zcZ hy with hy | rfl
    ·exact .inl ⟨y,hy,g⟩
    ·rcases g with g | g
     ·rcases zcZ g with g | rfl
      ·exact .inl (.of hx (.inl g))
      ·exact .inr rfl
     ·simp only at g;cases hd:decide (j+1<l.length) with
      | false=>rw[hd] at g;exact .inl (.of hx (.inr g))
      | true =>
       rw[hd,cond_true] at g;rcases zcx.1 g with g | g
       ·exact .inl (.of hx (.inr g))
       ·exact .inr (by simpa using g)
  ·exact .inl hv
 ·exact .inl hv
theorem S3 (hc:BJ l k=true) (hv:inCh (EU l k.toNat) v):inCh l v:=by
 obtain ⟨f,x,y,u,r,rfl,hx,hy,hw,hr⟩:=JN hc;rw[Bb,MI hx hw] at hv;rcases MU hv with ⟨z,hz,g⟩ | rfl
 ·rcases zcZ hz with hz | rfl
  ·exact ⟨z,hz,g⟩
  ·rcases g with g | g
   ·exact .of hx (.inl g)
   ·exact .of hx (.inr (by rw[hw];simp only at g;simp[g]))
 ·exact .of hx (.inr (by rw[hw];simp))
theorem Mb (h:Ch l):HD l=true<->∀ v,inCh l v->0<v.tag.time->Bs v.past (AR l)=true:=by
 unfold HD JP;rw[zcK];constructor
 ·rintro hc v ⟨x,hx,g⟩ ht
  have:=hc x hx;rw[CA,zcK,zcK] at this;rcases g with g | g
  ·have:=this.1 v g;rw[zdh,zdd,decide_eq_false_iff_not] at this;exact this.resolve_left λhn=>hn ht
  ·exact this.2 v g
 ·intro hc x hx;rw[CA,zcK,zcK];refine ⟨λv hv=>?_,λv hv=>?_⟩
  ·by_cases ht:v.tag.time>0
   ·rw[hc v ⟨x,hx,.inl hv⟩ ht,Bool.or_true]
   ·rw[decide_eq_false ht];rfl
  ·obtain ⟨i,hi⟩:=zcT.1 hx;exact hc v ⟨x,hx,.inr hv⟩ (LQ ((AY (h.node i x hi)).2.2 v hv))
theorem GH (hx:l[0]?=some x):Fv l c=true<->∀ v∈x.store,v.tag.time<=c:=by unfold Fv;rw[hx];simp
theorem Pg (h:Ch l) {k:Nat} (hk:k<l.length) (h2:1<l.length):Bs (AR l) (AR (B6 l k))=true:=by
 have hlen:=Jv hk h2;obtain ⟨z,hz,hi⟩:=h.tail;obtain ⟨z',hz',hi'⟩:=(h.fall hk h2).tail;rw[Dl hz hi,Dl hz' hi'];rw[IH hk] at hz';split at hz'
 ·rename_i e
  rw[zc2] at hz';obtain ⟨w,hw,rfl⟩:=hz';exact NS (h.up 1 _ w z hw (by rw[show (B6 l k).length - 1+1=l.length - 1 by omega];exact hz))
 ·rename_i e
  split at hz'
  ·omega
  ·rw[show (B6 l k).length - 1+1=l.length - 1 by omega,hz] at hz';injection hz' with hz';subst hz';exact CU
theorem Mf (h:Ch l) (hv:Ck v=true):Bs (AR l) (AR (FI l 0 v))=true:=by
 have hp:=h.pos;have hz:l[0]?=some (l[0]'(by omega)):=Cz (by omega);obtain ⟨u,hu⟩:=h.key hz hv;rw[JA hz hu];cases hl:A0 u v with
 | false=>exact CU
 | true =>
  rw[cond_true];by_cases h1:l.length=1
  ·rw[Dl hz (by omega),Dl (i:=0) (zcG (by omega)) (by simpa using h1.symm)];exact NS (upS.set hu hl)
  ·obtain ⟨z,hz',hi⟩:=h.tail;rw[Dl hz' hi,Dl (i:=l.length - 1) (by rw[zcA (by omega)];exact hz') (by simpa using hi)];exact CU
theorem O5 (h:Ch l) (hc:BJ l k=true):Bs (AR l) (AR (EU l k.toNat))=true:=by
 obtain ⟨f,x,y,v,r,rfl,hx,hy,hw,hr⟩:=JN hc;have hlk:=h.link f x y hx hy;rw[hw] at hlk;obtain ⟨u,hu,hl,_⟩:=fitsL_cons.1 hlk;have hf1:=(Ea hy).1;obtain ⟨z,hz,hi⟩:=h.tail;have hy':(l.set f ⟨x.store,r⟩)[f+1]?=some y:=by rw[zcA (by omega)];exact hy
 rw[Bb,MI hx hw,JA hy' hu,hl,cond_true,Dl hz hi];by_cases he:f+1=l.length - 1
 ·rw[he,hz] at hy;injection hy with hy;subst hy;rw[Dl (i:=f+1) (zcG (by simpa using hf1)) (by simp;omega)];exact NS (upS.set hu hl)
 ·rw[Dl (i:=l.length - 1) (x:=z) (by rw[zcA (by omega),zcA (by omega)];exact hz) (by simpa using hi)];exact CU
theorem Zc {t s:List Ver} (h:upS t s) (hl:t.length<=s.length) (hs:∀ v∈s,v.tag.time<=c):∀ v∈t,v.tag.time<=c:=λv hv=>by
 obtain ⟨i,hi⟩:=zcT.1 hv;have hlt:=(Ea hi).1;have hy:=Cz (l:=s) (i:=i) (by omega);have:=hs _ (zcv (show i<s.length by omega));rcases h i v _ hi hy with rfl | g
 ·exact this
 ·rw[Ik] at g;omega
theorem YQ (h:Ch l) {k:Nat} (hk:k<l.length) (h2:1<l.length) (hh:Fv l c=true):Fv (B6 l k) c=true:=by
 have hlen:=Jv hk h2;have h0:l[0]?=some (l[0]'(by omega)):=Cz (by omega);have h1:l[1]?=some (l[1]'(by omega)):=Cz (by omega);have hh0:=(GH h0).1 hh;have hx:(B6 l k)[0]?=some ((B6 l k)[0]'(by omega)):=Cz (by omega);rw[GH hx];rw[IH hk] at hx;split at hx
 ·rw[h0,zdP] at hx;injection hx with hx;rw[<- hx];exact hh0
 ·split at hx
  ·rw[h0] at hx;injection hx with hx;rw[<- hx];exact hh0
  ·rw[zcW,h1] at hx;injection hx with hx;rw[<- hx];exact Zc (h.up 1 0 _ _ h0 h1) (by rw[(h.store h0).2,(h.store h1).2];exact zcz _) hh0
theorem zar (h:Ch l) (hv:Ck v=true) (hh:Fv l c=true) (hc:c<=t) (hvt:v.tag.time<=t):Fv (FI l 0 v) t=true:=by
 have hp:=h.pos;have hz:l[0]?=some (l[0]'(by omega)):=Cz (by omega);obtain ⟨u,hu⟩:=h.key hz hv;have hh0:=(GH hz).1 hh;rw[JA hz hu];cases hl:A0 u v with
 | false=>rw[cond_false,GH hz];exact λw hw=>by have:=hh0 w hw;omega
 | true =>
  rw[cond_true,GH (zcG (by omega))];intro w hw;rcases zcZ hw with hw | rfl
  ·have:=hh0 w hw;omega
  ·exact hvt
theorem Yk (h:Ch l) (hc:BJ l k=true) (hh:Fv l c=true):Fv (EU l k.toNat) c=true:=by
 obtain ⟨f,x,y,v,r,rfl,hx,hy,hw,hr⟩:=JN hc;have hlk:=h.link f x y hx hy;rw[hw] at hlk;obtain ⟨u,hu,hl,_⟩:=fitsL_cons.1 hlk;have hf:=(Ea hx).1;have hy':(l.set f ⟨x.store,r⟩)[f+1]?=some y:=by rw[zcA (by omega)];exact hy
 rw[Bb,MI hx hw,JA hy' hu,hl,cond_true];by_cases h0:f=0
 ·subst h0;rw[GH (x:=⟨x.store,r⟩) (by rw[zcA (by omega),zcG hf])];exact (GH hx).1 hh
 ·have hz:l[0]?=some (l[0]'(by omega)):=Cz (by omega);rw[GH (x:=l[0]'(by omega)) (by rw[zcA (by omega),zcA (by omega)];exact hz)];exact (GH hz).1 hh
end
theorem Zv {p:Place} (h1:0<=p.me/\p.me<=2) (h2:0<=p.clock/\p.clock<=999) (h3:p.got.length=3) (h4:Ew p.chain=true) (h5:HD p.chain=true) (h6:Gi p.me p.log=true)
  (h7:∀ i (hi:i<p.got.length),KD p.me i p.got[i]=true) (h8:Fv p.chain p.clock=true):As p=true:=by
 unfold As;simp only[CA,Ed,decide_eq_true_eq,Ah];exact ⟨⟨⟨⟨⟨⟨⟨h1,h2⟩,h3⟩,h4⟩,h5⟩,h6⟩,h7⟩,h8⟩
theorem zbO {l:List Ver} (h1:l.length<=60) (h2:∀ i (hi:i<l.length),Ck l[i]=true/\l[i].tag.place=m/\Cq (l.take i) l[i].tag=false):Gi m l=true:=by unfold Gi;rw[CA,Ed,decide_eq_true_eq];refine ⟨λi hi=>?_,by omega⟩;obtain ⟨g1,g2,g3⟩:=h2 i hi;unfold SW;rw[g1,g2,g3];simp
theorem U8 {l:List Ver}{v:Ver} (h:Gi m l=true) (hv:Ck v=true) (hp:v.tag.place=m) (ht:Cq l v.tag=false) (hl:l.length<60):Gi m (l ++ [v])=true:=by
 obtain ⟨h1,h2⟩:=Fl h;refine zbO (by simp;omega) λi hi=>?_;by_cases hil:i<l.length
 ·rw[List.getElem_append_left hil,zed (by omega)];exact h2 i hil
 ·have e:i=l.length:=by simp at hi;omega
  subst e;rw[zeo (zcz _),zed (zcz _),List.take_length];simp only[zd6,List.getElem_cons_zero];exact ⟨hv,hp,ht⟩
theorem SU {m:Int}:∀ {vs l:List Ver},(∀ v∈vs,0<v.tag.time->Ck v=true)->Gi m l=true->l.length+vs.length<=60->Gi m (vs.foldl (noted m) l)=true
 | [],l,_,h,_=>h
 | v :: vs,l,hv,h,hl=>by
  rw[zdA] at hl;rw[zdr];have h3:=Yo (me:=m) (log:=l) (v:=v);refine SU (λw hw=>hv w (by simp[hw])) ?_ (by omega);unfold noted;cases hc:(decide (v.tag.time>0)&&(v.tag.place==m && !Cq l v.tag)) with
  | false=>exact h
  | true =>simp only[CA,decide_eq_true_eq,beq_iff_eq,zdd] at hc;exact U8 h (hv v (by simp) hc.1) hc.2.1 hc.2.2 (by omega)
theorem hasTag_mem {l:List Ver}{t:Tag}:Cq l t=true<->∃ v∈l,v.tag=t:=by
 unfold Cq;rw[List.any_eq_true];constructor
 ·rintro ⟨v,hv,g⟩
  rw[CA,beq_iff_eq,beq_iff_eq] at g;exact ⟨v,hv,by cases hv:v.tag;cases t;simp_all⟩
 ·rintro ⟨v,hv,rfl⟩
  exact ⟨v,hv,by simp⟩
theorem N0 {m:Int}:∀ {vs l:List Ver},(∀ v∈vs,0<v.tag.time->v.tag.place=m->Cq (vs.foldl (noted m) l) v.tag=true)/\∃ r,vs.foldl (noted m) l=l++r
 | [],l=>⟨by simp,[],by simp⟩
 | v :: vs,l=>by
  obtain ⟨h1,r,h2⟩:=N0 (m:=m) (vs:=vs) (l:=noted m l v);rw[zdr];have hr:∃ r',noted m l v=l++r':=by
   unfold noted;cases decide (v.tag.time>0)&&(v.tag.place==m && !Cq l v.tag)
   ·exact ⟨[],by simp⟩
   ·exact ⟨[v],rfl⟩
  obtain ⟨r',hr'⟩:=hr;refine ⟨λw hw ht hp=>?_,r'++r,by rw[h2,hr',zcO]⟩;rcases zcD.1 hw with rfl | hw
  ·have hx:Cq (noted m l w) w.tag=true:=by
    unfold noted;rw[decide_eq_true ht,hp,HE,zcJ,zcJ];cases hc:Cq l w.tag with
    | true=>exact hc
    | false=>exact hasTag_mem.2 ⟨w,by simp,rfl⟩
   obtain ⟨u,hu,e⟩:=hasTag_mem.1 hx;rw[h2];exact hasTag_mem.2 ⟨u,zdl _ hu,e⟩
  ·exact h1 w hw ht hp
section
variable {p:Place}
theorem D5 (h:As p=true):Ch p.chain:=chain_iff.1 (AI h).2.2.2.1
theorem ZD (h:Ch p.chain):∀ v∈Eu p.chain,0<v.tag.time->Ck v=true:=λv hv ht=>by obtain ⟨z,hz,hi⟩:=h.tail;rw[Il hz hi] at hv;exact h.ver (.of hz (.inl hv)) ht
theorem PT (h:As p=true) (hl:p.log.length<=56):As (BF p)=true:=by have hc:=D5 h;obtain ⟨h1,h2,h3,h4,h5,h6,h7,h8⟩:=AI h;exact Zv (p:=BF p) h1 h2 h3 h4 h5 (SU (ZD hc) h6 (by have:=hc.four.2;omega)) h7 h8
theorem MJ {l':List Node}{f:Bool} (h:As p=true) (hc:Ch l') (hv:∀ v,inCh l' v->0<v.tag.time->inCh p.chain v\/Bs v.past (AR p.chain)=true)
  (hs:Bs (AR p.chain) (AR l')=true) (ht:0<=t/\t<=999) (hh:Fv l' t=true):As ⟨p.me,t,l',p.log,p.got,f⟩=true:=by
 have hc0:=D5 h;obtain ⟨h1,h2,h3,h4,h5,h6,h7,h8⟩:=AI h;refine Zv (p:=⟨p.me,t,l',p.log,p.got,f⟩) h1 ht h3 (chain_iff.2 hc) ((Mb hc).2 λv hvc hvt=>?_) h6 h7 hh;have hpl:=CV (A3 (hc.ver hvc hvt)).2.2.2.1;refine IP (by rw[hpl,hc0.four.1];exact zcz _) ?_ hs;rcases hv v hvc hvt with g | g
 ·exact (Mb hc0).1 h5 v g hvt
 ·exact g
theorem zaL (h:As p=true):As (Jr p)=true:=by
 have hc:=D5 h;have hp:=hc.pos;unfold Jr Dj;cases hj:Ej p.chain with
 | false=>rw[cond_false];exact h
 | true =>
  have hl:p.chain.length<4:=by unfold Ej at hj;have:=of_decide_eq_true hj;omega
  obtain ⟨_,e1,e2,e3⟩:=N8 hc;have h8:=(AI h).2.2.2.2.2.2.2;rw[cond_true];refine MJ h (hc.join hl) (λv hv _ => .inl (S4 hp hv)) (by rw[e1];exact CU) (AI h).2.1 ?_;unfold Fv at h8 ⊢;rw[e3];exact h8
theorem JW {l:List Node} (h:Dh l k=true):∃ f:Nat,k=(f:Int)/\f<l.length/\1<l.length:=by simp only[Dh,Ah,CA,decide_eq_true_eq] at h;exact ⟨k.toNat,by omega,by omega,h.2⟩
theorem zaN (h:As p=true) (hl:p.log.length<=56):As (C9 p k)=true:=by
 have hc:=D5 h;unfold C9;cases hf:Cm p k with
 | false=>exact h
 | true =>unfold Cm at hf;rw[CA] at hf;obtain ⟨f,rfl,h1,h2⟩:=JW hf.2;rw[cond_true,Bb];refine PT ?_ hl;exact MJ h (hc.fall h1 h2) (λv hv _ => .inl (S5 h1 hv)) (Pg hc h1 h2) (AI h).2.1 (YQ hc h1 h2 (AI h).2.2.2.2.2.2.2)
theorem zaK (h:As p=true) (hl:p.log.length<=56):As (D3 p k)=true:=by
 have hc:=D5 h;unfold D3;cases hf:BJ p.chain k with
 | false=>exact h
 | true =>rw[cond_true];refine PT ?_ hl;exact MJ h (hc.pass hf) (λv hv _ => .inl (S3 hf hv)) (O5 hc hf) (AI h).2.1 (Yk hc hf (AI h).2.2.2.2.2.2.2)
theorem Zw {v:Ver} (h:As p=true) (hv:Ck v=true) (hr:DI p.chain 0=true) (hu:Bs v.past (AR p.chain)=true) (h1:p.clock<=t) (h2:v.tag.time<=t) (h3:t<=999):As (EW p 0 t v)=true:=by have hc:=D5 h;have hcl:=(AI h).2.1;exact MJ h (hc.add hv hr) (λw hw _=>(MU hw).imp id λe=>by rw[e];exact hu) (Mf hc hv) ⟨by omega,h3⟩ (zar hc hv (AI h).2.2.2.2.2.2.2 h1 h2)
theorem Qv:t<=Fq t c/\c<=Fq t c/\(Fq t c=t\/Fq t c=c):=by unfold Fq;split<;>omega
theorem MQ {f:Nat}{v:Ver} (h:As p=true) (hv:Jf p f=some v):Ck v=true/\v.tag.place=(f:Int)/\(f:Int)≠p.me/\f<3:=by
 unfold Jf at hv;have hm:=List.mem_of_find?_eq_some hv;unfold IZ at hm;have h3:=(AI h).2.2.1;cases hg:p.got[f]? with
 | none=>rw[hg] at hm;simp at hm
 | some l =>rw[hg] at hm;simp only at hm;obtain ⟨hf,rfl⟩:=Ea hg;have g:=(AI h).2.2.2.2.2.2.1 f hf;unfold KD at g;rw[CA] at g;obtain ⟨i,hi,rfl⟩:=zda.1 hm;obtain ⟨q1,q2,_⟩:=(Fl g.1).2 i hi;refine ⟨q1,q2,λe=>?_,by omega⟩;have:=g.2;rw[e,HE,zdi,zdI,decide_eq_true_eq] at this;omega
theorem zaJ (h:As p=true) (hl:p.log.length<=56):As (C8 p k)=true:=by
 unfold C8;cases hk:Ci p k with
 | false=>exact h
 | true =>
  rw[cond_true];unfold Ci at hk;rw[CA] at hk;have hk:=hk.2;unfold IQ at hk;unfold Kc;cases hv:Jf p k.toNat with
  | none=>exact h
  | some v =>rw[hv] at hk;simp only[CA] at hk;obtain ⟨v1,v2,v3,v4⟩:=MQ h hv;have:=GS (A3 v1).2.2.2.2.1;have hcl:=(AI h).2.1;have hn:=Qv (t:=v.tag.time) (c:=p.clock);exact PT (Zw h v1 hk.1 hk.2 hn.2.1 hn.1 (by omega)) hl
theorem Lc {g:Bool}{l:List Tag} (h:As p=true) (hc:A6 p k s g l=true):Ck (DU p k s g l)=true:=by
 rw[KM,CA] at hc;have hm:=hc.2;obtain ⟨h1,h2,h3,h4,h5,h6,h7,h8⟩:=Gl (by rw[KM,hc.1,hc.2];rfl:A6 p k s g l=true);have ht:=KZ h h4;have hme:=(AI h).1;unfold Ck;rw[CA,CA];refine ⟨⟨hc.1,?_⟩,?_⟩
 ·show B5 (AQ p l) p.me=true;simp[B5,Ah];omega
 ·show decide (ER l<AQ p l)=true;exact decide_eq_true (by omega)
theorem Zu {g:Bool}{l:List Tag} (h:As p=true):As (Ee p k s g l).1=true:=by
 rw[Mx h];cases hc:A6 p k s g l with
 | false=>exact h
 | true =>obtain ⟨h1,h2,h3,h4,h5,h6,h7,h8⟩:=Gl hc;have ht:=KZ h h4;exact PT (Zw h (Lc h hc) h6 h5 (by omega) (zea _) h7) (by show p.log.length<=56;omega)
theorem zaM {f a:Int}{v:Ver} (h:As p=true):As (Dk p f a v)=true:=by
 unfold Dk;cases hc:D8 p f a v with
 | false=>exact h
 | true =>
  simp only[D8,HV,Ah,CA,decide_eq_true_eq,beq_iff_eq,zdd] at hc;obtain ⟨⟨h1,h2⟩,h3,h4,h5,h6,h7,h8⟩:=hc;obtain ⟨q1,q2,q3,q4,q5,q6,q7,q8⟩:=AI h;have hf:f.toNat<p.got.length:=by omega
  have e:((f.toNat:Nat):Int)=f:=by omega
  rw[cond_true];refine Zv (p:=GG p f.toNat v) q1 q2 (by simpa [GG] using q3) q4 q5 q6 (λi hi=>?_) q8;have hi':i<p.got.length:=by simpa [GG] using hi
  show KD p.me i ((p.got.set f.toNat (IZ p f.toNat ++ [v]))[i]'(by simpa using hi'))=true;rw[List.getElem_set];split
  ·rename_i ei
   subst ei;rw[Hf hf] at h7 h8 ⊢;unfold KD;rw[U8 (PW h hf) h3 (by omega) h8 (by omega),zcJ];rw[beq_eq_false_iff_ne] at h5;rw[beq_eq_false_iff_ne.2 h5];rfl
  ·exact q7 i hi'
end


structure Sess where
 place:Int
 past:List Tag
 wait:Tag
 key:Int
structure Done where
 sess:Int
 kind:Int
 key:Int
 tag:Tag
structure World where
 places:List Place
 sess:List Sess
 net:List Frame
 hist:List Done
abbrev Z0 (ro:Bool):Nat:=bif ro then 0 else 60
abbrev HW (ro:Bool):Nat:=bif ro then 0 else 72
abbrev Z3 (ro:Bool):Nat:=bif ro then 0 else 91
abbrev zbA (ro:Bool):Nat:=bif ro then 0 else 32
abbrev Sess.cs (s:Sess) (a:Pq) (c:Nq):List V := [Iv s.place,.sl 2 a s.past.length c,Iv s.wait.time,Iv s.wait.place,Iv s.key]
abbrev Done.cs (d:Done):List V := [Iv d.sess,Iv d.kind,Iv d.key,Iv d.tag.time,Iv d.tag.place]
abbrev World.cs (w:World) (a1:Pq) (c1:Nq) (a2:Pq) (c2:Nq) (a3:Pq) (c3:Nq) (a4:Pq) (c4:Nq):List V :=
 [.sl 6 a1 w.places.length c1,.sl 5 a2 w.sess.length c2,.sl 9 a3 w.net.length c3,.sl 5 a4 w.hist.length c4]
abbrev RPlaces (ro:Bool):Rel (List Place):=Sli ro 6 (Z0 ro) (RPlace ro)
def RSess (ro:Bool):Rel Sess:=λh cs s F=>∃ v,cs = [Iv s.place,v,Iv s.wait.time,Iv s.wait.place,Iv s.key]/\RTags ro h [v] s.past F
abbrev RSesss (ro:Bool):Rel (List Sess):=Sli ro 5 (HW ro) (RSess ro)
abbrev RFrames (ro:Bool):Rel (List Frame):=Sli ro 9 (Z3 ro) (Ui ro)
abbrev RDones (ro:Bool):Rel (List Done):=Sli ro 5 (zbA ro) (flat Done.cs)
def Xh (ro:Bool):Rel World:=λh cs w F=>∃ s1 s2 s3 s4 F1 F2 F3 F4,cs = [s1,s2,s3,s4]/\F=F1++(F2++(F3++F4))/\RPlaces ro h [s1] w.places F1/\RSesss ro h [s2] w.sess F2/\RFrames ro h [s3] w.net F3/\RDones ro h [s4] w.hist F4
def RWorldN (ro:Bool):Rel World:=λh cs w F=>∃ a1 c1 a2 c2 a3 c3 a4 c4 F1 F2 F3 F4,cs=w.cs a1 c1 a2 c2 a3 c3 a4 c4/\F=F1++(F2++(F3++F4))/\RPlaces ro h [.sl 6 a1 w.places.length c1] w.places F1/\RSesss ro h [.sl 5 a2 w.sess.length c2] w.sess F2/\RFrames ro h [.sl 9 a3 w.net.length c3] w.net F3/\RDones ro h [.sl 5 a4 w.hist.length c4] w.hist F4
theorem rplaces_ok {ro:Bool}:(RPlaces ro).Ok:=Sli.ok rplace_ok
theorem Jm {ro:Bool}:(RSess ro).Ok :=
 ⟨λh h' cs x F ⟨s,h1,h2⟩ hb=>⟨s,h1,rtags_ok.fr _ _ _ _ _ h2 hb⟩,λh cs x F ⟨s,_,h2⟩=>rtags_ok.bd _ _ _ _ h2⟩
theorem rsesss_ok {ro:Bool}:(RSesss ro).Ok:=Sli.ok Jm
theorem rframes_ok {ro:Bool}:(RFrames ro).Ok:=Sli.ok rframe_ok
theorem rdones_ok {ro:Bool}:(RDones ro).Ok:=Sli.ok DN
theorem Dr {ro:Bool}:(RWorldN ro).Ok:=by
 refine ⟨?_,?_⟩
 ·rintro h h' cs x F ⟨a1,c1,a2,c2,a3,c3,a4,c4,F1,F2,F3,F4,e,rfl,h1,h2,h3,h4⟩ hb
  exact ⟨a1,c1,a2,c2,a3,c3,a4,c4,F1,F2,F3,F4,e,rfl,rplaces_ok.fr _ _ _ _ _ h1 λb hm=>hb b (by simp[hm]),rsesss_ok.fr _ _ _ _ _ h2 λb hm=>hb b (by simp[hm]),rframes_ok.fr _ _ _ _ _ h3 λb hm=>hb b (by simp[hm]),rdones_ok.fr _ _ _ _ _ h4 λb hm=>hb b (by simp[hm])⟩
 ·rintro h cs x F ⟨a1,c1,a2,c2,a3,c3,a4,c4,F1,F2,F3,F4,e,rfl,h1,h2,h3,h4⟩ b hb
  simp only[zcx] at hb;rcases hb with hb | hb | hb | hb
  ·exact rplaces_ok.bd _ _ _ _ h1 b hb
  ·exact rsesss_ok.bd _ _ _ _ h2 b hb
  ·exact rframes_ok.bd _ _ _ _ h3 b hb
  ·exact rdones_ok.bd _ _ _ _ h4 b hb
section
variable {ro:Bool}{h:Heap}{F:List Nat}{a:Pq}{c:Nq}{n k:Nat}
theorem RPlaces.get {l:List Place} (hs:RPlaces ro h [.sl 6 a n c] l F) (hk:k<l.length):∃ o s1 s2 s3 a1 c1 a2 c2 a3 c3 F1 F2 F3,a=some o /\
  ld h o.1 (o.2+k) 0 6=some [Iv l[k].me,Iv l[k].clock,s1,s2,s3,.bool l[k].fell]/\ld h o.1 (o.2+k) 0 1=some [Iv l[k].me]/\ld h o.1 (o.2+k) 2 1=some [s1]/\ld h o.1 (o.2+k) 3 1=some [s2]/\ld h o.1 (o.2+k) 4 1=some [s3] /\
  (∀ {R':Type} (K:Pq->Nat->Nq->Option R'),eS 2 s1 K=K a1 l[k].chain.length c1)/\(∀ {R':Type} (K:Pq->Nat->Nq->Option R'),eS 6 s2 K=K a2 l[k].log.length c2) /\
  (∀ {R':Type} (K:Pq->Nat->Nq->Option R'),eS 1 s3 K=K a3 l[k].got.length c3) /\
  RNodes ro h [.sl 2 a1 l[k].chain.length c1] l[k].chain F1/\RVers ro h [.sl 6 a2 l[k].log.length c2] l[k].log F2/\RVss ro h [.sl 1 a3 l[k].got.length c3] l[k].got F3/\(∀ b,b∈F1\/b∈F2\/b∈F3->b∈F):=by
 obtain ⟨o,row,G,h1,h2,hv,hG,_⟩:=hs.read hk;obtain ⟨s1,s2,s3,a1,c1,a2,c2,a3,c3,F1,F2,F3,rfl,rfl,e1,e2,e3,g1,g2,g3⟩:=hv.form;exact ⟨o,s1,s2,s3,a1,c1,a2,c2,a3,c3,F1,F2,F3,h1,by rw[h2];rfl,by rw[h2];rfl,by rw[h2];rfl,by rw[h2];rfl,by rw[h2];rfl,e1,e2,e3,g1,g2,g3,λb hb=>hG b (by simpa using hb)⟩
theorem RSess.form {row:List V}{s:Sess} (hv:RSess ro h row s F):∃ v a c,row = [Iv s.place,v,Iv s.wait.time,Iv s.wait.place,Iv s.key] /\
  (∀ {R':Type} (K:Pq->Nat->Nq->Option R'),eS 2 v K=K a s.past.length c)/\RTags ro h [.sl 2 a s.past.length c] s.past F:=by
 obtain ⟨v,rfl,hp⟩:=hv;obtain ⟨a,c,es,hp2⟩:=hp.form;exact ⟨v,a,c,rfl,es,hp2⟩
theorem RSesss.get {l:List Sess} (hs:RSesss ro h [.sl 5 a n c] l F) (hk:k<l.length):∃ o v a' c' G,a=some o/\ld h o.1 (o.2+k) 0 5=some [Iv l[k].place,v,Iv l[k].wait.time,Iv l[k].wait.place,Iv l[k].key] /\
  ld h o.1 (o.2+k) 0 1=some [Iv l[k].place]/\ld h o.1 (o.2+k) 1 1=some [v] /\
  (∀ {R':Type} (K:Pq->Nat->Nq->Option R'),eS 2 v K=K a' l[k].past.length c')/\RTags ro h [.sl 2 a' l[k].past.length c'] l[k].past G/\(∀ b∈G,b∈F):=by
 obtain ⟨o,row,G,h1,h2,hv,hG,_⟩:=hs.read hk;obtain ⟨v,a',c',rfl,es,hp⟩:=hv.form;exact ⟨o,v,a',c',G,h1,by rw[h2];rfl,by rw[h2];rfl,by rw[h2];rfl,es,hp,hG⟩
theorem RFrames.get {l:List Frame} (hs:RFrames ro h [.sl 9 a n c] l F) (hk:k<l.length):∃ o s a' c' G,a=some o /\
  ld h o.1 (o.2+k) 0 9=some [Iv l[k].fro,Iv l[k].to,Iv l[k].at',Iv l[k].ver.key,Iv l[k].ver.tag.time,Iv l[k].ver.tag.place,s,.str l[k].ver.text,.bool l[k].ver.gone] /\
  (∀ {R':Type} (K:Pq->Nat->Nq->Option R'),eS 2 s K=K a' l[k].ver.past.length c')/\RTags ro h [.sl 2 a' l[k].ver.past.length c'] l[k].ver.past G/\(∀ b∈G,b∈F):=by
 obtain ⟨o,row,G,h1,h2,⟨vs,rfl,hv⟩,hG,_⟩:=hs.read hk;obtain ⟨s,a',c',rfl,es,hp⟩:=hv.form;exact ⟨o,s,a',c',G,h1,by rw[h2];rfl,es,hp,hG⟩
theorem RDones.get {l:List Done} (hs:RDones ro h [.sl 5 a n c] l F) (hk:k<l.length):∃ o,a=some o/\ld h o.1 (o.2+k) 0 5=some l[k].cs:=by obtain ⟨o,row,G,h1,h2,⟨rfl,_⟩,_⟩:=hs.read hk;exact ⟨o,h1,by rw[h2];rfl⟩
end
def Ia (w:World):Prop:=(w.places.length<=1048576/\∀ p∈w.places,Hp p)/\(w.sess.length<=1048576/\∀ s∈w.sess,s.past.length<=1048576)/\(w.net.length<=1048576/\∀ f∈w.net,f.ver.past.length<=1048576/\f.ver.text.size<=1048576)/\w.hist.length<=1048576
section
variable {lo:Nat}{ro ro':Bool}{h:Heap}{F F':List Nat}{a a':Pq}{c c':Nq}{left:Int}
end


def Ze (p:Place) (to at':Int):Bool:=As p&&Ah to 0 2 && !(p.me==to)&&Ah at' 0 (p.log.length - 1)
def told (p:Place) (to at':Int):Frame:=bif Ze p to at' then ⟨p.me,to,at',(p.log[at'.toNat]?).getD UD⟩ else ⟨0,0,0,UD⟩
section
variable {lo:Nat}{h:Heap}{F F':List Nat}{a a':Pq}{c c':Nq}
theorem QO {x y:Int}:Ai lo 113 [Iv x,Iv y] h=some (.bool (Ah x 0 2&&Ah y 0 2 && !(x==y)),h) :=
 Uy (h':=h) (by
  simp only[DM,Ac,Ao];cases Ah x 0 2<;>cases Ah y 0 2<;>cases (x==y)<;>rfl)
theorem VS {n:Nat} (hn:n<=1048576):AL ((n:Int) - 1)=(n:Int) - 1:=wr (by omega) (by omega)
end


variable {l:List Done}
def DH (s:Sess):Bool:=Ah s.place 0 2&&BE s.past&&B5 s.wait.time s.wait.place&&Ah s.key 0 3&&(decide (s.wait.time>0) || s.key==0)&&(s.wait.time==0 || s.wait.place==s.place)
def Fy (d:Done):Bool:=Ah d.sess 0 3&&Ah d.kind 1 3&&Ah d.key 0 3&&B5 d.tag.time d.tag.place&&(d.kind==2 || decide (d.tag.time>0))
def EE (l:List Place) (k:Nat):List Ver:=match l[k]? with
 | some p=>p.log
 | none => []
theorem GY {l:List Place}{k:Nat} (hk:k<l.length):EE l k=l[k].log:=by unfold EE;rw[Cz hk]
def GJ (l:List Place) (f:Frame):Bool:=Ah f.fro 0 2&&Ah f.to 0 2 && !(f.fro==f.to)&&Ah f.at' 0 (((EE l f.fro.toNat).length:Int) - 1)&&(match (EE l f.fro.toNat)[f.at'.toNat]? with | some v=>Hr v f.ver | none=>false)
def J7 (log head:List Ver):Bool:=decide (head.length<=log.length)&&FH (log.take head.length) head
theorem zaC {s:Sess}:(Ah s.place 0 2&&(BE s.past&&(B5 s.wait.time s.wait.place&&(bif ((s.wait.time==0)&&((s.wait.place==0)&&true)) then s.key==0 else (s.wait.place==s.place&&Ah s.key 0 3)))))=DH s:=by
 unfold DH;cases Ah s.place 0 2 with
 | false=>rfl
 | true =>
 cases BE s.past with
 | false=>rfl
 | true =>
 cases ht:B5 s.wait.time s.wait.place with
 | false=>simp
 | true =>
  simp[B5,Ah] at ht;by_cases h0:s.wait.time=0
  ·have hp:s.wait.place=0:=by omega
   rw[zdC];simp[h0,hp,Ah];omega
  ·have h1:0<s.wait.time:=by omega
   rw[zdC];simp[h0,h1,Ah,and_comm]
section
variable {lo:Nat}{ro ro':Bool}{h:Heap}{F F':List Nat}{a a':Pq}{c c':Nq}
theorem NN {l:List Sess}{g:Nat}{cl:List V}{p:Sess->Bool} (hs:RSesss ro h [.sl 5 a l.length c] l F) (hn:l.length<=1048576)
  (hp:∀ lo x a1 c1 G,x∈l->RTags ro h [.sl 2 a1 x.past.length c1] x.past G->Ai lo g (CR [.agg (x.cs a1 c1)] cl) h=some (.bool (p x),h)) :
  Ai lo 87 [.sl 5 a l.length c,.fn g cl] h=some (.bool (l.any p),h):=by
 have loop:∀ m k x,m+k=l.length->AE (List.length h) a l.length c g cl x (l.length:Nat) (k:Nat) h=some (Iv (Bw p (l.drop k) k),h):=by
  intro m;induction m with
  | zero =>intro k x hk;rw[AE.e,Aj (by omega),show k=l.length by omega];simp[Bw]
  | succ m ih =>
   intro k x hk;have hlt:k<l.length:=by omega
   obtain ⟨o,v,b1,d1,G,rfl,ho,_,_,es,hpp,_⟩:=hs.get hlt;rw[AE.e,Ak (by omega),Ae (by omega)];simp only[Ad,Bb,ho,Aa,Ab,Ag,es];rw[hp (List.length h) l[k] b1 d1 G (zcv hlt) hpp,Ac,Ao,zcM hlt];simp only[Bw];cases p l[k]
   ·simp only[Av,cond_false];rw[Ar (by omega)];exact ih (k+1) _ (by omega)
   ·simp
 exact EI (h':=h) (by rw[Fd (loop l.length 0 0 (by omega))];simp only[Ac,Ab,J0];rw[E7];simp)
theorem Mt {l:List Frame}{g:Nat}{cl:List V}{p:Frame->Bool} (hs:RFrames ro h [.sl 9 a l.length c] l F) (hn:l.length<=1048576)
  (hp:∀ lo x a1 c1 G,x∈l->RTags ro h [.sl 2 a1 x.ver.past.length c1] x.ver.past G->Ai lo g (CR [.agg (x.cs a1 c1)] cl) h=some (.bool (p x),h)) :
  Ai lo 90 [.sl 9 a l.length c,.fn g cl] h=some (.bool (l.any p),h):=by
 have loop:∀ m k x,m+k=l.length->AA (List.length h) a l.length c g cl x (l.length:Nat) (k:Nat) h=some (Iv (Bw p (l.drop k) k),h):=by
  intro m;induction m with
  | zero =>intro k x hk;rw[AA.e,Aj (by omega),show k=l.length by omega];simp[Bw]
  | succ m ih =>
   intro k x hk;have hlt:k<l.length:=by omega
   obtain ⟨o,s,b1,d1,G,rfl,ho,es,hpp,_⟩:=hs.get hlt;rw[AA.e,Ak (by omega),Ae (by omega)];simp only[Ad,Bb,ho,Aa,Ab,Ag,es,BH,AM];rw[hp (List.length h) l[k] b1 d1 G (zcv hlt) hpp,Ac,Ao,zcM hlt];simp only[Bw];cases p l[k]
   ·simp only[Av,cond_false];rw[Ar (by omega)];exact ih (k+1) _ (by omega)
   ·simp
 exact En (h':=h) (by rw[ES (loop l.length 0 0 (by omega))];simp only[Ac,Ab,J0];rw[E7];simp)
theorem NP {g:Nat}{cl:List V}{p:Done->Bool} (hs:RDones ro h [.sl 5 a l.length c] l F) (hn:l.length<=1048576)
  (hp:∀ lo x,x∈l->Ai lo g (CR [.agg (x.cs)] cl) h=some (.bool (p x),h)) :
  Ai lo 54 [.sl 5 a l.length c,.fn g cl] h=some (.bool (l.any p),h):=by
 have loop:∀ m k x,m+k=l.length->AG (List.length h) a l.length c g cl x (l.length:Nat) (k:Nat) h=some (Iv (Bw p (l.drop k) k),h):=by
  intro m;induction m with
  | zero =>intro k x hk;rw[AG.e,Aj (by omega),show k=l.length by omega];simp[Bw]
  | succ m ih =>
   intro k x hk;have hlt:k<l.length:=by omega
   obtain ⟨o,rfl,ho⟩:=hs.get hlt;rw[AG.e,Ak (by omega),Ae (by omega)];simp only[Ad,Bb,ho,Aa,Ab,Ag];rw[hp (List.length h) l[k] (zcv hlt),Ac,Ao,zcM hlt];simp only[Bw];cases p l[k]
   ·simp only[Av,cond_false];rw[Ar (by omega)];exact ih (k+1) _ (by omega)
   ·simp
 exact EK (h':=h) (by rw[Ff (loop l.length 0 0 (by omega))];simp only[Ac,Ab,J0];rw[E7];simp)
theorem Vk {s:Sess} (hs:RTags ro h [.sl 2 a s.past.length c] s.past F) (hn:s.past.length<=1048576):Ai lo 89 [.agg (s.cs a c)] h=some (.bool (DH s),h):=by refine NB (h':=h) ?_;rw[DM,Ac,Ao,IY hs hn,Ac,Ao,JT,Ac,Ao,Hd,Ac,Ao,<- zaC];cases Ah s.place 0 2<;>cases BE s.past<;>cases B5 s.wait.time s.wait.place<;>cases Ah s.key 0 3<;>cases ((s.wait.time==0)&&((s.wait.place==0)&&true))<;>cases (s.key==0)<;>cases (s.wait.place==s.place)<;>rfl
theorem zbi {d:Done}:(Ah d.sess 0 3&&(Ah d.kind 1 3&&(Ah d.key 0 3&&(B5 d.tag.time d.tag.place&&(bif ((d.tag.time==0)&&((d.tag.place==0)&&true)) then d.kind==2 else true)))))=Fy d:=by
 unfold Fy;cases Ah d.sess 0 3 with
 | false=>rfl
 | true =>
 cases Ah d.kind 1 3 with
 | false=>rfl
 | true =>
 cases Ah d.key 0 3 with
 | false=>rfl
 | true =>
 cases ht:B5 d.tag.time d.tag.place with
 | false=>rfl
 | true =>
  simp[B5,Ah] at ht;by_cases h0:d.tag.time=0
  ·have hp:d.tag.place=0:=by omega
   rw[zdC];simp[h0,hp]
  ·have h1:0<d.tag.time:=by omega
   rw[zdC];simp[h0,h1]
theorem Vj (hs:RDones ro h [.sl 5 a l.length c] l F) (hn:l.length<=1048576):Ai lo 27 [.sl 5 a l.length c] h=some (.bool (decide (l.length<=80)&&l.all Fy),h):=by
 refine Ss (h':=h) ?_;by_cases h8:l.length<=80
 ·rw[Ak (by omega),decide_eq_true h8,NP hs hn (p:=λd => !Fy d) (λlo d _=>by
   rw[show ∀ x:List V,CR x []=x from λx=>by simp[CR]];refine PI (h':=h) ?_;rw[Ba,Ac,Ao,Ba,Ac,Ao,Hd,Ac,Ao,JT,Ac,Ao,<- zbi];cases Ah d.sess 0 3<;>cases Ah d.kind 1 3<;>cases Ah d.key 0 3<;>cases B5 d.tag.time d.tag.place<;>cases ((d.tag.time==0)&&((d.tag.place==0)&&true))<;>cases (d.kind==2)<;>rfl),Ac,Ao]
  rw[zd7];simp only[Bool.not_not,zcJ];cases l.all Fy<;>rfl
 ·rw[Aj (by omega),decide_eq_false h8];rfl
theorem Pt {l l':List Ver} (hs:RVers false h [.sl 6 a l.length c] l F) (hs':RVers false h [.sl 6 a' l'.length c'] l' F') (hn:Dq l):Ai lo 86 [.sl 6 a l.length c,.sl 6 a' l'.length c'] h=some (.bool (J7 l l'),h):=by
 refine Nu (h':=h) ?_;unfold J7;by_cases hl:l'.length<=l.length
 ·obtain ⟨G,hp⟩:=Sli.pre hs hl;have htl:(l.take l'.length).length=l'.length:=by rw[zcS];omega
  rw[Ak (by omega),E1 hs hl,decide_eq_true hl];have hp':RVers false h [.sl 6 a (l.take l'.length).length c] (l.take l'.length) G:=by rw[htl];exact hp
  have hsm:Dq (l.take l'.length):=⟨by rw[htl];have:=hn.1;omega,λv hv=>hn.2 v (zdO hv)⟩;have e:=KC (lo:=List.length h) hp' hs' hsm;rw[htl] at e;rw[e,Ac,Ao,zcJ];exact Ih
 ·rw[Aj (by omega),decide_eq_false hl];rfl
end


variable {w:World}
def Hz (l:List Place):Bool:=l.zipIdx.all λx=>x.1.me==(x.2:Int)&&As x.1
def Lg (l:List Place) (p:Place):Bool:=p.got.zipIdx.all λx=>J7 (EE l x.2) x.1
def JV (l:List Place):Bool:=l.all (Lg l)
def ET (w:World):Bool:=decide (w.places.length=3)&&decide (w.sess.length<=4)&&decide (w.net.length<=12)&&decide (w.hist.length<=80)&&Hz w.places&&w.sess.all DH&&w.net.all (GJ w.places)&&w.hist.all Fy&&JV w.places
theorem IT {l:List Place} (h:Hz l=true):∀ i (hi:i<l.length),l[i].me=(i:Int)/\As l[i]=true:=λi hi=>by have:=(Ed (p:=λ(i:Nat) (x:Place)=>x.me==(i:Int)&&As x) (l:=l)).1 h i hi;simpa using this
section
variable {lo:Nat}{ro ro':Bool}{h:Heap}{F F' F1:List Nat}{a a' a1 a2 a3 a4:Pq}{c c' c1 c2 c3 c4:Nq}
theorem TM {f:Frame}{b:Nat} (hb:h[b]?=some (.rows 4 41 false [w.cs a1 c1 a2 c2 a3 c3 a4 c4])) (r1:RPlaces false h [.sl 6 a1 w.places.length c1] w.places F1) (h3:w.places.length=3) (hok:Hz w.places=true) (hs:RTags ro h [.sl 2 a f.ver.past.length c] f.ver.past F) :
  Ai lo 92 [.ptr (some (b,(0,0))),.agg (f.cs a c)] h=some (.bool (GJ w.places f),h):=by
 refine KW (h':=h) ?_;unfold GJ;have l1:ld h b 0 (0+0) 1=some [.sl 6 a1 w.places.length c1]:=by rw[Bx hb rfl];rfl
 rw[QO,Ac,Ao];cases hw:Ah f.fro 0 2 with
 | false=>simp only[zdn];rw[Av]
 | true =>
 cases hw2:Ah f.to 0 2 with
 | false=>simp only[zcJ,zdn];rw[Av]
 | true =>
 cases hft:(f.fro==f.to) with
 | true=>simp only[zcJ,zdi,zdn];rw[Av]
 | false =>
 simp only[zcJ,zdm];simp only[Ah,CA,decide_eq_true_eq] at hw;have hk:f.fro.toNat<w.places.length:=by omega
 obtain ⟨o,s1,s2,s3,b1,d1,b2,d2,b3,d3,G1,G2,G3,ha,_,_,_,ho3,_,_,e2,_,_,g2,_,_⟩:=r1.get hk;have hll:w.places[f.fro.toNat].log.length<=60:=(Fl (AI (IT hok _ hk).2).2.2.2.2.2.1).1;have hlog:∀ i (hi:i<w.places[f.fro.toNat].log.length),Ck w.places[f.fro.toNat].log[i]=true:=λi hi=>((Fl (AI (IT hok _ hk).2).2.2.2.2.2.1).2 i hi).1
 rw[GY hk];generalize w.places[f.fro.toNat].log=lg at hlog hll g2 e2 ⊢;rw[Am,l1,Ad,Aa,Ag,Af,Cl ⟨by omega,by omega⟩,ha,Ad,ho3,Ad,Aa,Ag,e2,Ba,Ac,Ao,wr (n:=((lg.length:Nat):Int) - 1) (by omega) (by omega)];cases hw3:Ah f.at' 0 ((lg.length:Int) - 1) with
 | false=>rw[Av];rfl
 | true =>
 simp only[Ah,CA,decide_eq_true_eq] at hw3;have hk3:f.at'.toNat<lg.length:=by omega
 obtain ⟨o4,s4,b4,d4,G4,ha4,ho4,es4,hp4,_⟩:=g2.get hk3;have e:=S6 (lo:=List.length h) (h:=h) (v:=lg[f.at'.toNat]) (u:=f.ver) hp4 hs (by have:=CV (A3 (hlog _ hk3)).2.2.2.1;omega);simp only[Frame.cs,Ver.cs] at e;rw[Am,l1,Ad,Aa,Ag,ha,Af,Cl ⟨by omega,by omega⟩,Ad,ho3,Ad,Aa,Ag,e2,Cl ⟨by omega,by omega⟩,ha4,Ad,ho4,Ad,Aa,Ab,Aa,Ab,Aa,Ab,Aa,es4,Aa,BH,Aa,AM,Ag,e,Ac,Ao,Cz hk3];show br _ _ _=some (V.bool (Hr lg[f.at'.toNat] f.ver),h);exact Ih
theorem TK {cs:List V} (hs:RWorldN false h cs w F) (hl:lo<=h.length) (hn:Ia w):∃ h',Ai lo 49 [.agg cs] h=some (.bool (ET w),h')/\Mv h [] h' []:=by
 obtain ⟨a1,c1,a2,c2,a3,c3,a4,c4,F1,F2,F3,F4,rfl,rfl,r1,r2,r3,r4⟩:=hs;obtain ⟨n1,n2,n3,n4⟩:=hn;have m0:Mv h [] (h ++ [.rows 4 41 false [w.cs a1 c1 a2 c2 a3 c3 a4 c4]]) []:=Mv.snoc;have hb:(h ++ [Blk.rows 4 41 false [w.cs a1 c1 a2 c2 a3 c3 a4 c4]])[h.length]?=some (.rows 4 41 false [w.cs a1 c1 a2 c2 a3 c3 a4 c4]):=by simp
 refine ⟨_,Ry ?_,m0⟩;have r1:=m0.keep0 rplaces_ok r1;have r2:=m0.keep0 rsesss_ok r2;have r3:=m0.keep0 rframes_ok r3;have r4:=m0.keep0 rdones_ok r4;have l0:ld (h ++ [Blk.rows 4 41 false [w.cs a1 c1 a2 c2 a3 c3 a4 c4]]) h.length 0 0 1=some [.sl 6 a1 w.places.length c1]:=by rw[Bx hb rfl];rfl
 have l1:ld (h ++ [Blk.rows 4 41 false [w.cs a1 c1 a2 c2 a3 c3 a4 c4]]) h.length 0 1 1=some [.sl 5 a2 w.sess.length c2]:=by rw[Bx hb rfl];rfl
 have l2:ld (h ++ [Blk.rows 4 41 false [w.cs a1 c1 a2 c2 a3 c3 a4 c4]]) h.length 0 2 1=some [.sl 9 a3 w.net.length c3]:=by rw[Bx hb rfl];rfl
 have l3:ld (h ++ [Blk.rows 4 41 false [w.cs a1 c1 a2 c2 a3 c3 a4 c4]]) h.length 0 3 1=some [.sl 5 a4 w.hist.length c4]:=by rw[Bx hb rfl];rfl
 have e4:=Vj (lo:=lo) r4 n4;simp only[World.cs] at hb r1 r2 r3 r4 l0 l1 l2 l3 e4 ⊢;generalize (h ++ [Blk.rows 4 41 false [[V.sl 6 a1 w.places.length c1,.sl 5 a2 w.sess.length c2,.sl 9 a3 w.net.length c3,.sl 5 a4 w.hist.length c4]]])=hh at hb r1 r2 r3 r4 l0 l1 l2 l3 e4 ⊢;generalize h.length=b at hb l0 l1 l2 l3 ⊢;have hwo:ET w=(decide (w.places.length=3)&&(decide (w.sess.length<=4)&&(decide (w.net.length<=12)&&((decide (w.hist.length<=80)&&w.hist.all Fy)&&(Hz w.places&&(JV w.places&&(w.sess.all DH&&w.net.all (GJ w.places)))))))):=by unfold ET;cases decide (w.places.length=3)<;>cases decide (w.sess.length<=4)<;>cases decide (w.net.length<=12)<;>cases decide (w.hist.length<=80)<;>cases Hz w.places<;>cases JV w.places<;>cases w.sess.all DH<;>cases w.net.all (GJ w.places)<;>cases w.hist.all Fy<;>rfl
 rw[hwo,l0,Ad,Aa,Ag,Af];by_cases h3:w.places.length=3
 ·rw[show (((w.places.length:Nat):Int)==3)=true by rw[beq_iff_eq];omega,Am,decide_eq_true h3,zcJ,l1,Ad,Aa,Ag,Af];by_cases hs4:w.sess.length<=4
  ·rw[Aj (by omega),decide_eq_true hs4,zcJ,l2,Ad,Aa,Ag,Af];by_cases hn12:w.net.length<=12
   ·rw[Aj (by omega),decide_eq_true hn12,zcJ,l3,Ad,Aa,Ag,Af,e4,Ac,Ao];cases (decide (w.hist.length<=80)&&w.hist.all Fy) with
    | false=>rw[Av];rfl
    | true =>
     rw[Am,zcJ,l0,Ad,Aa,Ag,Af];have e0:=E9 (p:=λx:Place×Nat=>x.1.me==(x.2:Int)&&As x.1) (l:=w.places.zipIdx) (λi=>C5 lo b 0 0 false a1 w.places.length c1 (w.places.length:Nat) (i:Nat) hh) (some (.bool false,hh)) (BK lo b 0 0 false a1 w.places.length c1 (w.places.length:Nat) 0 hh) (λi hi=>by
       rw[zd8] at hi;simp only[zei,zcW];obtain ⟨o,s1,s2,s3,b1,d1,b2,d2,b3,d3,G1,G2,G3,ha,ho,ho0,_,_,_,e1,e2,e3,g1,g2,g3,_⟩:=r1.get hi;have e:=TP (lo:=lo) g1 g2 g3 (n1.2 _ (zcv hi));simp only[Place.cs] at e;rw[C5.e,Ak (by omega),Ae hi,ha,Ad,Bb,ho,Ad,Aa,Ab,Aa,Ab,Aa,e1,Aa,e2,Aa,e3,Aa,AM,Ag,e,Ac,Ao,Ar (by omega)];cases As w.places[i]<;>cases (w.places[i].me==((i:Nat):Int))<;>rfl) (by rw[zd8,C5.e,Aj (by omega),l0,Ad,Aa,Ag,Af])
     refine e0.trans ?_;show (if Hz w.places=true then _ else _)=_;cases hok:Hz w.places with
     | false=>rfl
     | true =>
     rw[if_pos rfl,zcJ];have e5:=E9 (p:=Lg w.places) (l:=w.places) (λi=>BK lo b 0 0 false a1 w.places.length c1 (w.places.length:Nat) (i:Nat) hh) (some (.bool false,hh)) (BK lo b 0 0 false a1 w.places.length c1 (w.places.length:Nat) (w.places.length:Nat) hh) (λi hi=>by
       have hpo:=(IT hok i hi).2;have hgl:w.places[i].got.length=3:=(AI hpo).2.2.1;obtain ⟨o,s1,s2,s3,b1,d1,b2,d2,b3,d3,G1,G2,G3,ha,ho,_,_,_,_,e1,e2,e3,g1,g2,g3,_⟩:=r1.get hi;rw[BK.e,Ak (by omega),Ae hi,ha,Ad,Bb,ho,Ad,Aa,Ab,Aa,Ab,Aa,e1,Aa,e2,Aa,e3,Aa,AM,Ag];unfold Lg;refine (E9 (p:=λx:List Ver×Nat=>J7 (EE w.places x.2) x.1) (l:=w.places[i].got.zipIdx) (λk=>C4 lo b 0 0 false (some o) w.places.length c1 (w.places.length:Nat) (i:Nat) b3 w.places[i].got.length d3 (w.places[i].got.length:Nat) (k:Nat) hh) (some (.bool false,hh)) (BK lo b 0 0 false (some o) w.places.length c1 (w.places.length:Nat) ((i+1:Nat):Int) hh) (λk hk=>?_) ?_)
       ·rw[zd8] at hk;simp only[zei,zcW];have hk3:k<w.places.length:=by omega
        obtain ⟨o',s1',s2',s3',b1',d1',b2',d2',b3',d3',G1',G2',G3',ha',_,_,_,ho3',_,_,e2',_,_,g2',_,_⟩:=r1.get hk3;obtain ⟨og,sg,bg,dg,Gg,hag,hog,eg,gg,_⟩:=g3.get hk;have hoo:o=o':=by rw[ha] at ha';injection ha'
        subst hoo;have e6:=Pt (lo:=lo) g2' gg (n1.2 _ (zcv hk3)).2.1;rw[GY hk3,C4.e,Ak (by omega),Ae hk,hag,Ad,Bb,hog,Ad,Aa,Ag,eg,zdf,l0,Ad,Aa,Ag,ha,Af,Ae hk3,Ad,ho3',Ad,Aa,Ag,e2',e6,Ac,Ao,Ar (by omega)];cases J7 w.places[k].log w.places[i].got[k]<;>rfl
       ·rw[zd8,C4.e,Aj (by omega),Ar (by omega)]) rfl
     refine e5.trans ?_;unfold JV;cases w.places.all (Lg w.places) with
     | false=>rfl
     | true =>
     rw[if_pos rfl,zcJ,BK.e,Aj (by omega),zcW,l1,Ad,Aa,Ag,Af,NN r2 n2.1 (p:=λs => !DH s) (λlo x b1 d1 G hx hp=>OH (h':=hh) (by
      rw[Vk hp (n2.2 x hx),Ac,Ao];cases DH x<;>rfl)),Ac,Ao,zd7]
     simp only[Bool.not_not];cases w.sess.all DH with
     | false=>rfl
     | true =>
     rw[zdi,Av,zcW,l2,Ad,Aa,Ag,Af,Mt r3 n3.1 (p:=λf => !GJ w.places f) (λlo x b1 d1 G hx hp=>OG (h':=hh) (by
      rw[TM (w:=w) hb r1 h3 hok hp,Ac,Ao];cases GJ w.places x<;>rfl)),Ac,Ao,zd7]
     simp only[Bool.not_not];cases w.net.all (GJ w.places)<;>rfl
   ·rw[Ak (by omega),decide_eq_false hn12];rfl
  ·rw[Ak (by omega),decide_eq_false hs4];rfl
 ·rw[show (((w.places.length:Nat):Int)==3)=false by rw[beq_eq_false_iff_ne];omega,Av,decide_eq_false h3];rfl
end

section
variable {lo:Nat}{h:Heap}{F:List Nat}
theorem TN {w:World}{cs:List V} (hs:RWorldN false h cs w F) (hl:lo<=h.length) (hn:Ia w):∃ h',Ai lo 49 [.agg cs] h=some (.bool (ET w),h')/\Mv h [] h' []:=TK hs hl hn
end


theorem RE {w:World} (h:ET w=true):w.places.length=3/\w.sess.length<=4/\w.net.length<=12/\w.hist.length<=80/\Hz w.places=true/\w.sess.all DH=true/\w.net.all (GJ w.places)=true/\w.hist.all Fy=true/\JV w.places=true:=by unfold ET at h;simp only[CA,decide_eq_true_eq] at h;obtain ⟨⟨⟨⟨⟨⟨⟨⟨h1,h2⟩,h3⟩,h4⟩,h5⟩,h6⟩,h7⟩,h8⟩,h9⟩:=h;exact ⟨h1,h2,h3,h4,h5,h6,h7,h8,h9⟩
section
variable {lo:Nat}{ro ro':Bool}{h:Heap}{F F' F1:List Nat}{a a' a1 a2 a3 a4:Pq}{c c' c1 c2 c3 c4:Nq}
end


abbrev zcb (n:Int):List V := [Iv n]
abbrev RInts:Rel (List Int):=Sli false 1 3 (flat zcb)
section
variable {lo:Nat}{h:Heap}{F F' F1:List Nat}{a a' a1 a2 a3 a4:Pq}{c c' c1 c2 c3 c4:Nq}{k:Int}
theorem RInts.get {l:List Int}{n i:Nat} (hs:RInts h [.sl 1 a n c] l F) (hi:i<l.length):∃ o,a=some o/\ld h o.1 (o.2+i) 0 1=some [Iv l[i]]:=by obtain ⟨o,row,G,h1,h2,⟨rfl,_⟩,_⟩:=hs.read hi;exact ⟨o,h1,by rw[h2];rfl⟩
end


variable {l:List Node}
def A5 (l:List Node) (k:Nat):Nat:=if k=0/\1<l.length then 1 else k
def Gd (l:List Node) (k key:Nat):Option Ver:=(AC l (A5 l k))[key]?
section
variable {lo:Nat}{ro:Bool}{h:Heap}{F F' F1:List Nat}{a a' a1 a2 a3 a4:Pq}{c c' c1 c2 c3 c4:Nq}
theorem LH {k key:Nat} (hs:RNodes false h [.sl 2 a l.length c] l F) (hk:k<l.length) (hst:∀ x∈l,Bc x.store=true) (hkey:key<4) (hl:lo<=h.length) (hn1:l.length<=1048576) :
  ∃ v a' c' h' G,Ai lo 187 [.agg [.sl 2 a l.length c],Iv (k:Nat),Iv (key:Nat)] h=some (.agg (Ver.cs v a' c'),h')/\Gd l k key=some v/\RTags false h' [.sl 2 a' v.past.length c'] v.past G/\Mv h [] h' G:=by
 suffices hq:∃ v a' c' h' G,_=some (V.agg (Ver.cs v a' c'),h')/\Gd l k key=some v/\RTags false h' [.sl 2 a' v.past.length c'] v.past G/\Mv h [] h' G from by obtain ⟨v,a',c',h',G,e,hr⟩:=hq;exact ⟨v,a',c',h',G,Ro e,hr⟩
 have hql:A5 l k<l.length:=by unfold A5;split<;>omega
 obtain ⟨o,s1,s2,b1,d1,b2,d2,H1,H2,ha,_,ho1,_,q1,_,p1,_⟩:=hs.get hql;have hs4:=hst _ (zcv hql);have hkl:key<l[A5 l k].store.length:=by rw[Bi hs4];exact hkey
 obtain ⟨o2,t,b3,d3,G,ha2,ho2,es2,pv,_⟩:=p1.get hkl;obtain ⟨a5,c5,h5,F5,e5,r5,m5⟩:=Ep (lo:=lo) (v:=l[A5 l k].store[key]) pv hl ((GU hs4).2 _ (zcv hkl)).1;have hsh:Gd l k key=some l[A5 l k].store[key]:=by unfold Gd;rw[Da hql,Cz hkl]
 generalize l[A5 l k].store[key]=v at ho2 es2 pv e5 r5 hsh;generalize l[A5 l k].store.length=n1 at q1 hkl ha2;refine ⟨v,a5,c5,h5,F5,?_,hsh,r5,m5⟩;simp only[Ver.cs] at e5;by_cases hk0:k=0
 ·rw[show (((k:Nat):Int)==0)=true by rw[beq_iff_eq];omega,Am];by_cases h1:1<l.length
  ·have hsa:A5 l k=1:=by unfold A5;rw[if_pos ⟨hk0,h1⟩]
   rw[hsa] at ho1;rw[Ak (by omega),Cl ⟨by omega,by omega⟩,ha,Ad,ho1,Ad,Aa,Ag,q1,Ae hkl,ha2,Ad,Bb,ho2,Ad,Aa,Ab,Aa,Ab,Aa,Ab,Aa,es2,Aa,BH,Aa,AM,Ag,e5,Ac,AO,Aa,Ab,Aa,Ab,Aa,Ab,Aa,Af,Aa,BH,Aa,AM,Ag]
  ·have hsa:A5 l k=k:=by unfold A5;rw[if_neg (by omega)]
   rw[hsa] at ho1;rw[Aj (by omega),Ae hk,ha,Ad,Bb,ho1,Ad,Aa,Ag,q1,Ae hkl,ha2,Ad,Bb,ho2,Ad,Aa,Ab,Aa,Ab,Aa,Ab,Aa,es2,Aa,BH,Aa,AM,Ag,e5,Ac,AO,Aa,Ab,Aa,Ab,Aa,Ab,Aa,Af,Aa,BH,Aa,AM,Ag]
 ·have hsa:A5 l k=k:=by unfold A5;rw[if_neg (by omega)]
  rw[hsa] at ho1;rw[show (((k:Nat):Int)==0)=false by rw[beq_eq_false_iff_ne];omega,Av,Ae hk,ha,Ad,Bb,ho1,Ad,Aa,Ag,q1,Ae hkl,ha2,Ad,Bb,ho2,Ad,Aa,Ab,Aa,Ab,Aa,Ab,Aa,es2,Aa,BH,Aa,AM,Ag,e5,Ac,AO,Aa,Ab,Aa,Ab,Aa,Ab,Aa,Af,Aa,BH,Aa,AM,Ag]
theorem WC {k key b i j:Nat}{s0:V} (hld:ld h b i (j+0) 1=some [s0]) (es0:∀ {T:Type} (K:Pq->Nat->Nq->Option T),eS 2 s0 K=K a l.length c) (hs:RNodes false h [.sl 2 a l.length c] l F) (hk:k<l.length) (hst:∀ x∈l,Bc x.store=true) (hkey:key<4) (hl:lo<=h.length) (hn1:l.length<=1048576) :
  ∃ v a' c' h',Ai lo 146 [.ptr (some (b,(i,j))),Iv (k:Nat),Iv (key:Nat)] h=some (.tup [.agg (Ver.cs v a' c'),.bool true],h')/\Gd l k key=some v/\Mv h [] h' []:=by
 suffices hq:∃ v a' c' h',_=some (V.tup [.agg (Ver.cs v a' c'),.bool true],h')/\Gd l k key=some v/\Mv h [] h' [] from by obtain ⟨v,a',c',h',e,hr⟩:=hq;exact ⟨v,a',c',h',FZ e,hr⟩
 have hql:A5 l k<l.length:=by unfold A5;split<;>omega
 obtain ⟨o,s1,s2,b1,d1,b2,d2,H1,H2,ha,_,ho1,_,q1,_,p1,_⟩:=hs.get hql;have hs4:=hst _ (zcv hql);have hkl:key<l[A5 l k].store.length:=by rw[Bi hs4];exact hkey
 obtain ⟨o2,t,b3,d3,G,ha2,ho2,es2,pv,_⟩:=p1.get hkl;obtain ⟨a5,c5,h5,F5,e5,r5,m5⟩:=BG (lo:=lo) (v:=l[A5 l k].store[key]) pv hl ((GU hs4).2 _ (zcv hkl)).1;have hsh:Gd l k key=some l[A5 l k].store[key]:=by unfold Gd;rw[Da hql,Cz hkl]
 generalize l[A5 l k].store[key]=v at ho2 es2 pv e5 r5 hsh;generalize l[A5 l k].store.length=n1 at q1 hkl ha2;refine ⟨v,a5,c5,h5,?_,hsh,m5.drop⟩;simp only[Ver.cs] at e5;have hw1:Ah ((k:Nat):Int) 0 ((l.length:Int) - 1)=true:=by simp only[Ah,CA,decide_eq_true_eq];omega
 have hw2:Ah ((key:Nat):Int) 0 3=true:=by simp only[Ah,CA,decide_eq_true_eq];omega
 rw[hld,Ad,Aa,Ag,es0,wr (n:=((l.length:Nat):Int) - 1) (by omega) (by omega),Ba,Ac,Ao,hw1,Am,Hd,Ac,Ao,hw2,Am];by_cases hk0:k=0
 ·rw[show (((k:Nat):Int)==0)=true by rw[beq_iff_eq];omega,Am,hld,Ad,Aa,Ag,es0,Ad,Aa,Ag,es0,wr (n:=((l.length:Nat):Int) - 1) (by omega) (by omega)];have hif:(if ((l.length:Nat):Int) - 1<1 then ((l.length:Nat):Int) - 1 else 1)=((A5 l k:Nat):Int):=by
   unfold A5;by_cases h1:1<l.length
   ·rw[if_neg (by omega),if_pos ⟨hk0,h1⟩];rfl
   ·rw[if_pos (by omega),if_neg (by omega)];omega
  rw[hif,Ae hql,ha,Ad,Bb,ho1,Ad,Aa,Ag,q1,Ae hkl,ha2,Ad,Bb,ho2,Ad,Aa,Ab,Aa,Ab,Aa,Ab,Aa,es2,Aa,BH,Aa,AM,Ag,e5,Ac,AO,Aa,Ab,Aa,Ab,Aa,Ab,Aa,Af,Aa,BH,Aa,AM,Ag]
 ·have hsa:A5 l k=k:=by unfold A5;rw[if_neg (by omega)]
  rw[hsa] at ho1;rw[show (((k:Nat):Int)==0)=false by rw[beq_eq_false_iff_ne];omega,Av,hld,Ad,Aa,Ag,es0,Ae hk,ha,Ad,Bb,ho1,Ad,Aa,Ag,q1,Ae hkl,ha2,Ad,Bb,ho2,Ad,Aa,Ab,Aa,Ab,Aa,Ab,Aa,es2,Aa,BH,Aa,AM,Ag,e5,Ac,AO,Aa,Ab,Aa,Ab,Aa,Ab,Aa,Af,Aa,BH,Aa,AM,Ag]
end


variable {l:List Place}{k:Int}
structure Roomy (p:Place):Prop where
 seen:∃ U:List Tag,U.length<=54/\(∀ v∈p.log,v.tag∈U)/\∀ v,inCh p.chain v->0<v.tag.time->v.tag.place=p.me->v.tag∈U
 told:∀ v∈Eu p.chain,0<v.tag.time->v.tag.place=p.me->Cq p.log v.tag=true
theorem SS {α:Type} [DecidableEq α]:∀ {a U:List α},a.Nodup->(∀ x∈a,x∈U)->a.length<=U.length
 | [],U,_,_=>zcY _
 | x :: a,U,hn,hs=>by
  rw[zcE] at hn;have h1:=hs x (by simp);have h2:=SS (a:=a) (U:=U.erase x) hn.2 λy hy=>(List.mem_erase_of_ne (λe=>hn.1 (by rw[<- e];exact hy))).2 (hs y (by simp[hy]))
  rw[List.length_erase_of_mem h1] at h2;have:=List.length_pos_of_mem h1;simp only[zdA];omega
section
variable {p:Place}
theorem Yt {m:Int}{l:List Ver} (h:Gi m l=true):(l.map λv=>v.tag).Nodup:=by
 obtain ⟨_,h2⟩:=Fl h;unfold List.Nodup;rw[List.pairwise_map,List.pairwise_iff_getElem];intro i j hi hj hij e;have h3:=(h2 j hj).2.2;have:Cq (l.take j) l[j].tag=true:=hasTag_mem.2 ⟨l[i],by
  rw[zda];exact ⟨i,by simp;omega,by simp⟩,e⟩
 rw[h3] at this;cases this
theorem Roomy.len (h:Roomy p) (hp:As p=true):p.log.length<=54:=by
 obtain ⟨U,h1,h2,_⟩:=h.seen;have:=SS (U:=U) (Yt (AI hp).2.2.2.2.2.1) (λt ht=>by
  obtain ⟨v,hv,rfl⟩:=zeb.1 ht;exact h2 v hv)
 simp only[zdQ] at this;omega
theorem U2 {m:Int}:∀ {vs l:List Ver},∀ v∈vs.foldl (noted m) l,v∈l\/(v∈vs/\0<v.tag.time/\v.tag.place=m)
 | [],l,v,hv => .inl hv
 | x :: vs,l,v,hv=>by
  rw[zdr] at hv;rcases U2 v hv with g | ⟨g1,g2⟩
  ·unfold noted at g;cases hc:(decide (x.tag.time>0)&&(x.tag.place==m && !Cq l x.tag)) with
   | false=>rw[hc] at g;exact .inl g
   | true =>
    rw[hc,cond_true] at g;simp only[CA,decide_eq_true_eq,beq_iff_eq] at hc;rcases zcx.1 g with g | g
    ·exact .inl g
    ·rw[zcQ] at g;subst g;exact .inr ⟨by simp,hc.1,hc.2.1⟩
  ·exact .inr ⟨by simp[g1],g2⟩
theorem JJ (h:Ch p.chain) (hs:∃ U:List Tag,U.length<=54/\(∀ v∈p.log,v.tag∈U)/\∀ v,inCh p.chain v->0<v.tag.time->v.tag.place=p.me->v.tag∈U):Roomy (BF p):=by
 obtain ⟨U,h1,h2,h3⟩:=hs;refine ⟨⟨U,h1,λv hv=>?_,h3⟩,λv hv ht hp=>?_⟩
 ·rcases U2 v hv with g | ⟨g1,g2,g3⟩
  ·exact h2 v g
  ·obtain ⟨z,hz,hi⟩:=h.tail;rw[Il hz hi] at g1;exact h3 v (.of hz (.inl g1)) g2 g3
 ·exact (N0 (vs:=Eu p.chain) (l:=p.log)).1 v hv ht hp
theorem Wb (h:Roomy p) (hp:As p=true):Roomy (Jr p):=by
 have hc:=D5 hp;unfold Jr Dj;cases Ej p.chain with
 | false=>exact h
 | true =>rw[cond_true];obtain ⟨U,h1,h2,h3⟩:=h.seen;exact ⟨⟨U,h1,h2,λv hv=>h3 v (S4 hc.pos hv)⟩,λv hv=>h.told v (by rw[<- (N8 hc).2.2.1];exact hv)⟩
theorem We (h:Roomy p) (hp:As p=true):Roomy (C9 p k):=by
 have hc:=D5 hp;unfold C9;cases hf:Cm p k with
 | false=>exact h
 | true =>unfold Cm at hf;rw[CA] at hf;obtain ⟨f,rfl,g1,g2⟩:=JW hf.2;obtain ⟨U,h1,h2,h3⟩:=h.seen;rw[cond_true,Bb];exact JJ (p:=LN p f) (hc.fall g1 g2) ⟨U,h1,h2,λv hv=>h3 v (S5 g1 hv)⟩
theorem Wa (h:Roomy p) (hp:As p=true):Roomy (D3 p k):=by
 have hc:=D5 hp;unfold D3;cases hf:BJ p.chain k with
 | false=>exact h
 | true =>obtain ⟨U,h1,h2,h3⟩:=h.seen;rw[cond_true];exact JJ (p:=Iu p k.toNat) (hc.pass hf) ⟨U,h1,h2,λv hv=>h3 v (S3 hf hv)⟩
theorem V9 (h:Roomy p) (hp:As p=true):Roomy (C8 p k):=by
 have hc:=D5 hp;unfold C8;cases hk:Ci p k with
 | false=>exact h
 | true =>
  rw[cond_true];unfold Ci at hk;rw[CA] at hk;have hk:=hk.2;unfold IQ at hk;unfold Kc;cases hv:Jf p k.toNat with
  | none=>exact h
  | some v =>
   rw[hv] at hk;simp only[CA] at hk;obtain ⟨v1,v2,v3,v4⟩:=MQ hp hv;obtain ⟨U,h1,h2,h3⟩:=h.seen;refine JJ (p:=EW p 0 (Fq v.tag.time p.clock) v) (hc.add v1 hk.1) ⟨U,h1,h2,λw hw ht hm=>?_⟩;rcases MU hw with g | rfl
   ·exact h3 w g ht hm
   ·exact absurd (v2.symm.trans hm) v3
theorem Wc {f a:Int}{v:Ver} (h:Roomy p):Roomy (Dk p f a v):=by
 unfold Dk;cases D8 p f a v with
 | false=>exact h
 | true=>exact ⟨h.seen,h.told⟩
theorem My {l:List Node}{v:Ver} (h:Ch l):∀ (d i:Nat) (x:Node),i+d+1=l.length->l[i]?=some x->v∈x.store->(∃ (j:Nat) (y:Node),l[j]?=some y/\j+1<l.length/\v∈y.wait)\/v∈Eu l
 | 0,i,x,hd,hx,hv=>by rw[Il hx (by omega)];exact .inr hv
 | d+1,i,x,hd,hx,hv=>by
  have hy:=Cz (l:=l) (i:=i+1) (by omega);rcases Te (h.link i x _ hx hy) v hv with g | g
  ·exact .inl ⟨i,x,hx,by omega,g⟩
  ·exact My h d (i+1) _ (by omega) hy g
theorem Sx:∀ {l:List Node},(∀ x∈l,x.wait.length<=6)->(l.flatMap λx=>x.wait).length<=6*l.length
 | [],_=>by simp
 | x :: l,h=>by have h1:=h x (by simp);have h2:=Sx (l:=l) λy hy=>h y (by simp[hy]);simp only[List.flatMap_cons,zcP,zdA];omega
theorem UV {s:ByteArray}{g:Bool}{l:List Tag} (h:Roomy p) (hp:As p=true):Roomy (Ee p k s g l).1:=by
 have hc:=D5 hp;rw[Mx hp];cases hw:A6 p k s g l with
 | false=>exact h
 | true =>
  obtain ⟨h1,h2,h3,h4,h5,h6,h7,h8⟩:=Gl hw;have hv:=Lc hp hw;refine JJ (p:=EW p 0 (AQ p l) (DU p k s g l)) (hc.add hv h6) ⟨(p.log++(p.chain.dropLast.flatMap λx=>x.wait)).map (λv=>v.tag) ++ [⟨AQ p l,p.me⟩],?_,λv hv=>?_,λv hv ht hm=>?_⟩
  ·have hd:∀ x∈p.chain.dropLast,x.wait.length<=6:=λx hx=>by obtain ⟨i,hi⟩:=zcT.1 ((List.dropLast_sublist _).mem hx);exact (AY (hc.node i x hi)).2.1
   have:=Sx hd;have h4:=hc.le;simp only[zcP,zdQ,List.length_dropLast,zdp] at this ⊢;omega
  ·refine zdl _ (zeb.2 ⟨v,zdl _ hv,rfl⟩)
  ·have old:inCh p.chain v->v.tag∈(p.log++(p.chain.dropLast.flatMap λx=>x.wait)).map (λv=>v.tag):=λhi=>by
    have fin:(∃ (j:Nat) (y:Node),p.chain[j]?=some y/\j+1<p.chain.length/\v∈y.wait)\/v∈Eu p.chain:=by
     obtain ⟨i,x,hx,q | q⟩:=hi.get
     ·have hlt:=(Ea hx).1;exact My hc (p.chain.length - 1 - i) i x (by omega) hx q
     ·have hlt:=(Ea hx).1;by_cases he:i+1=p.chain.length
      ·rw[hc.last i x hx he] at q;simp at q
      ·exact .inl ⟨i,x,hx,by omega,q⟩
    rcases fin with ⟨j,y,hj,hjl,q⟩ | q
    ·refine zeb.2 ⟨v,zdZ _ (List.mem_flatMap.2 ⟨y,?_,q⟩),rfl⟩;rw[zcT];exact ⟨j,by rw[List.getElem?_dropLast,if_pos (by omega)];exact hj⟩
    ·obtain ⟨u,hu,e⟩:=hasTag_mem.1 (h.told v q ht hm);exact zeb.2 ⟨u,zdl _ hu,e⟩
   rcases MU hv with q | rfl
   ·exact zdl _ (old q)
   ·exact zdZ _ (by simp[DU])
end
def I6 (l:List Place) (f:Frame):Prop:=(0<=f.fro/\f.fro<=2)/\(0<=f.to/\f.to<=2)/\f.fro≠f.to/\0<=f.at'/\(EE l f.fro.toNat)[f.at'.toNat]?=some f.ver
theorem frame_iff {f:Frame}:GJ l f=true<->I6 l f:=by
 unfold GJ I6;simp only[Ah,CA,decide_eq_true_eq,zdd,beq_eq_false_iff_ne];constructor
 ·rintro ⟨⟨⟨⟨h1,h2⟩,h3⟩,h4⟩,h5⟩
  refine ⟨h1,h2,h3,by omega,?_⟩;cases hv:(EE l f.fro.toNat)[f.at'.toNat]? with
  | none=>rw[hv] at h5;cases h5
  | some v=>rw[hv] at h5;rw[same_iff.1 h5]
 ·rintro ⟨h1,h2,h3,h4,h5⟩
  have:=(Ea h5).1;refine ⟨⟨⟨⟨h1,h2⟩,h3⟩,by omega⟩,?_⟩;rw[h5];exact same_iff.2 rfl
theorem begins_iff {L g:List Ver}:J7 L g=true<->∃ r,L=g++r:=by
 unfold J7;rw[CA,decide_eq_true_eq,sameVers_iff];constructor
 ·rintro ⟨h1,h2⟩
  exact ⟨L.drop g.length,by conv=>{ lhs;rw[<- zc5 g.length L,h2] }⟩
 ·rintro ⟨r,rfl⟩
  simp
structure Wd (w:World):Prop where
 p3:w.places.length=3
 s4:w.sess.length<=4
 n12:w.net.length<=12
 h80:w.hist.length<=80
 place:∀ (i:Nat) (p:Place),w.places[i]?=some p->p.me=(i:Int)/\As p=true
 sess:∀ s∈w.sess,DH s=true
 net:∀ f∈w.net,I6 w.places f
 hist:∀ d∈w.hist,Fy d=true
 heard:∀ (i:Nat) (p:Place) (k:Nat) (g:List Ver),w.places[i]?=some p->p.got[k]?=some g->∃ r,EE w.places k=g++r
theorem world_iff {w:World}:ET w=true<->Wd w:=by
 constructor
 ·intro h;obtain ⟨h1,h2,h3,h4,h5,h6,h7,h8,h9⟩:=RE h;rw[zcK] at h6 h7 h8;unfold JV at h9;rw[zcK] at h9;refine ⟨h1,h2,h3,h4,λi p hp=>?_,h6,λf hf=>frame_iff.1 (h7 f hf),h8,λi p k g hp hg=>?_⟩
  ·obtain ⟨hi,rfl⟩:=Ea hp;exact IT h5 i hi
  ·have:=h9 p (zcL hp);unfold Lg at this;have:=(Ed (p:=λ(i:Nat) (x:List Ver)=>J7 (EE w.places i) x) (l:=p.got)).1 this;obtain ⟨hk,rfl⟩:=Ea hg;exact begins_iff.1 (this k hk)
 ·rintro ⟨h1,h2,h3,h4,h5,h6,h7,h8,h9⟩
  unfold ET;simp only[CA,decide_eq_true_eq];refine ⟨⟨⟨⟨⟨⟨⟨⟨h1,h2⟩,h3⟩,h4⟩,?_⟩,zcK.2 h6⟩,zcK.2 λf hf=>frame_iff.2 (h7 f hf)⟩,zcK.2 h8⟩,?_⟩
  ·refine (Ed (p:=λ(i:Nat) (x:Place)=>x.me==(i:Int)&&As x) (l:=w.places)).2 λi hi=>?_;obtain ⟨g1,g2⟩:=h5 i _ (Cz hi);rw[g2,g1,HE];rfl
  ·unfold JV;rw[zcK];intro p hp;obtain ⟨i,hi⟩:=zcT.1 hp;unfold Lg;exact (Ed (p:=λ(i:Nat) (x:List Ver)=>J7 (EE w.places i) x) (l:=p.got)).2 λk hk=>begins_iff.2 (h9 i p k _ hi (Cz hk))
theorem Xs {k:Nat}{p q:Place} (hp:l[k]?=some p) (hlog:∃ r,q.log=p.log++r) (j:Nat):∃ r,EE (l.set k q) j=EE l j++r:=by
 unfold EE;by_cases hj:k=j
 ·subst hj;rw[zcG (Ea hp).1,hp];exact hlog
 ·rw[zcA hj];exact ⟨[],by simp⟩
section
variable {w:World}
theorem Wd.setP (h:Wd w) {k:Nat}{p q:Place} (hp:w.places[k]?=some p) (hq:As q=true) (hm:q.me=p.me) (hlog:∃ r,q.log=p.log++r)
  (hgot:∀ (i:Nat) (g:List Ver),q.got[i]?=some g->p.got[i]?=some g\/∃ r,EE w.places i=g++r):Wd ⟨w.places.set k q,w.sess,w.net,w.hist⟩:=by
 have hk:=(Ea hp).1;refine ⟨by simpa using h.p3,h.s4,h.n12,h.h80,λi x hx=>?_,h.sess,λf hf=>?_,h.hist,λi x j g hx hg=>?_⟩
 ·by_cases hi:k=i
  ·subst hi;simp only[zcG hk,Option.some.injEq] at hx;subst hx;exact ⟨hm.trans (h.place k p hp).1,hq⟩
  ·simp only[zcA hi] at hx;exact h.place i x hx
 ·obtain ⟨h1,h2,h3,h4,h5⟩:=h.net f hf;obtain ⟨r,hr⟩:=Xs hp hlog f.fro.toNat;refine ⟨h1,h2,h3,h4,?_⟩;show (EE (w.places.set k q) f.fro.toNat)[f.at'.toNat]?=some f.ver;rw[hr,zcC (Ea h5).1];exact h5
 ·obtain ⟨r,hr⟩:=Xs hp hlog j;show ∃ r,EE (w.places.set k q) j=g++r;have old:(∃ r,EE w.places j=g++r)->∃ r,EE (w.places.set k q) j=g++r:=λ⟨r',hr'⟩=>⟨r'++r,by rw[hr,hr',zcO]⟩
  by_cases hi:k=i
  ·subst hi;simp only[zcG hk,Option.some.injEq] at hx;subst hx;rcases hgot j g hg with g1 | g1
   ·exact old (h.heard k p j g hp g1)
   ·exact old g1
  ·simp only[zcA hi] at hx;exact old (h.heard i x j g hx hg)
theorem Wd.putS (h:Wd w) {i:Nat}{s:Sess} (hs:DH s=true):Wd ⟨w.places,w.sess.set i s,w.net,w.hist⟩ :=
 ⟨h.p3,by simpa using h.s4,h.n12,h.h80,h.place,λx hx=>(zcZ hx).elim (h.sess x) λe=>e ▸ hs,h.net,h.hist,h.heard⟩
theorem Wd.addH (h:Wd w) {ds:List Done} (hd:∀ d∈ds,Fy d=true) (hl:w.hist.length+ds.length<=80):Wd ⟨w.places,w.sess,w.net,w.hist++ds⟩ :=
 ⟨h.p3,h.s4,h.n12,by simpa using hl,h.place,h.sess,h.net,λx hx=>(zcx.1 hx).elim (h.hist x) (hd x),h.heard⟩
theorem Wd.netN (h:Wd w) {l:List Frame} (hl:l.length<=12) (hf:∀ f∈l,I6 w.places f):Wd ⟨w.places,w.sess,l,w.hist⟩ :=
 ⟨h.p3,h.s4,hl,h.h80,h.place,h.sess,hf,h.hist,h.heard⟩
end


variable {p:Place}{k:Nat}{l:List Node}{v:Ver}{s:Sess}{i:Nat}
structure Event where
 kind:Int
 at':Int
 num:Int
 key:Int
 text:ByteArray
 gone:Bool
abbrev Event.cs (e:Event):List V := [Iv e.kind,Iv e.at',Iv e.num,Iv e.key,.str e.text,.bool e.gone]
def CT (a b:Tag):Bool:=Fu a.time a.place b.time b.place
def E4 (a b:Tag):Tag:=bif CT a b then b else a
def Eo (p:List Tag) (k:Nat) (t:Tag):List Tag:=match p[k]? with
 | some x=>p.set k (E4 x t)
 | none=>p
def Do (p q:List Tag):List Tag:=List.zipWith E4 p q
def setS (w:World) (i:Nat) (s:Sess) (ds:List Done):World:=⟨w.places,w.sess.set i s,w.net,w.hist++ds⟩
def setP (w:World) (k:Nat) (p:Place):World:=⟨w.places.set k p,w.sess,w.net,w.hist⟩
def setN (w:World) (l:List Frame):World:=⟨w.places,w.sess,l,w.hist⟩
def Ct (w:World) (n:Int):Bool:=decide ((w.hist.length:Int)+n<=80)
def DF (w:World) (i:Nat) (s:Sess) (e:Event):Option World:=match w.places[s.place.toNat]? with
 | some p=>bif !decide (s.wait.time>0)&&(A6 p e.key e.text e.gone s.past&&Ct w 1) then
   some (setS (setP w s.place.toNat (Ee p e.key e.text e.gone s.past).1) i ⟨s.place,s.past,(Ee p e.key e.text e.gone s.past).2,e.key⟩ [⟨i,1,e.key,(Ee p e.key e.text e.gone s.past).2⟩]) else none
 | none=>none
def Hj (w:World) (i:Nat) (s:Sess):Option World:=match w.places[s.place.toNat]? with
 | some p=>match Gd p.chain 0 s.key.toNat,(Ev p.chain)[s.key.toNat]? with
  | some v,some u=>bif decide (s.wait.time>0) then
    (bif CT v.tag s.wait then (bif CT u.tag s.wait then some (setS w i ⟨s.place,s.past,⟨0,0⟩,0⟩ []) else none)
    else (bif Ct w 1 then some (setS w i ⟨s.place,Eo s.past s.key.toNat s.wait,⟨0,0⟩,0⟩ [⟨i,3,s.key,s.wait⟩]) else none)) else none
  | _,_=>none
 | none=>none
def Kr (s:Sess) (v:Ver) (k:Nat):List Tag:=bif decide (v.tag.time>0) then Eo (Do s.past v.past) k v.tag else s.past
def EB (w:World) (i:Nat) (s:Sess) (e:Event):Option World:=match w.places[s.place.toNat]? with
 | some p=>bif !decide (s.wait.time>0)&&(Ah e.key 0 3&&(Ah e.num 0 ((p.chain.length:Int) - 1)&&Ct w 1)) then
   (match Gd p.chain e.num.toNat e.key.toNat,s.past[e.key.toNat]? with
   | some v,some t=>bif CT v.tag t then none else some (setS w i ⟨s.place,Kr s v e.key.toNat,s.wait,s.key⟩ [⟨i,2,e.key,v.tag⟩])
   | _,_=>none) else none
 | none=>none
def BB (i:Nat) (l:List Tag):List Done:=l.zipIdx.map λx=>⟨i,2,(x.2:Int),x.1⟩
def HG (w:World) (i:Nat) (s:Sess):Option World:=match w.places[s.place.toNat]? with
 | some p=>bif !decide (s.wait.time>0)&&(Bs s.past (AR p.chain)&&Ct w 4) then some (setS w i ⟨s.place,AR p.chain,s.wait,s.key⟩ (BB i (AR p.chain))) else none
 | none=>none
def LI (w:World) (i:Nat) (s:Sess) (e:Event):Option World:=bif !decide (s.wait.time>0)&&Ah e.num 0 2 then some (setS w i ⟨e.num,s.past,s.wait,s.key⟩ []) else none
def CS (w:World) (e:Event):Option World:=bif Ah e.at' 0 ((w.sess.length:Int) - 1) then
 (match w.sess[e.at'.toNat]? with
 | some s=>bif e.kind==1 then DF w e.at'.toNat s e else bif e.kind==2 then Hj w e.at'.toNat s else bif e.kind==3 then EB w e.at'.toNat s e else bif e.kind==4 then HG w e.at'.toNat s else LI w e.at'.toNat s e
 | none=>none) else none
def C6 (p:Place) (e:Event):Option Place:=bif e.kind==6 then (bif BJ p.chain e.num then some (D3 p e.num) else none) else
 bif e.kind==7 then (bif Cm p e.num then some (C9 p e.num) else none) else
 bif e.kind==8 then (bif Ej p.chain then some (Jr p) else none) else (bif Ci p e.num then some (C8 p e.num) else none)
def EQ (w:World) (e:Event):Option World:=bif Ah e.at' 0 2 then
 (match w.places[e.at'.toNat]? with
 | some p=>(C6 p e).map (setP w e.at'.toNat)
 | none=>none) else none
def Kd (w:World) (e:Event):Option World:=bif Ah e.at' 0 2&&(Ah e.num 0 2&&(!(e.at'==e.num)&&(decide ((w.net.length:Int)<12)&&Ah e.key 0 (((EE w.places e.at'.toNat).length:Int) - 1)))) then
 (match (EE w.places e.at'.toNat)[e.key.toNat]? with
 | some v=>some (setN w (w.net ++ [⟨e.at',e.num,e.key,v⟩]))
 | none=>none) else none
def HC (w:World) (f:Frame):World:=match w.places[f.to.toNat]? with
 | some p=>setP w f.to.toNat (Dk p f.fro f.at' f.ver)
 | none=>w
def FT (w:World) (e:Event):Option World:=bif Ah e.at' 0 ((w.net.length:Int) - 1) then
 (match w.net[e.at'.toNat]? with
 | some f=>some (bif e.kind==12 then setN w (w.net.eraseIdx e.at'.toNat) else bif e.kind==13 then HC w f else HC (setN w (w.net.eraseIdx e.at'.toNat)) f)
 | none=>none) else none
def CN (w:World) (e:Event):Option World:=bif Ah e.kind 1 5 then CS w e else bif Ah e.kind 6 9 then EQ w e else bif e.kind==10 then Kd w e else bif Ah e.kind 11 13 then FT w e else none
def JX (w:World) (e:Event):World:=(CN w e).getD w
structure Good (w:World):Prop where
 ok:Wd w
 room:∀ p∈w.places,Roomy p
theorem pastOk_iff {p:List Tag}:BE p=true<->p.length=4/\∀ t∈p,B5 t.time t.place=true:=by simp only[BE,CA,decide_eq_true_eq,zcK]
theorem Xp {a b:Tag} (ha:B5 a.time a.place=true) (hb:B5 b.time b.place=true):B5 (E4 a b).time (E4 a b).place=true:=by
 unfold E4;cases CT a b
 ·exact ha
 ·exact hb
theorem UF {p:List Tag}{t:Tag} (hp:BE p=true) (ht:B5 t.time t.place=true):BE (Eo p k t)=true:=by
 rw[pastOk_iff] at hp;unfold Eo;cases hx:p[k]? with
 | none=>exact pastOk_iff.2 hp
 | some x =>
  refine pastOk_iff.2 ⟨by simpa using hp.1,λy hy=>?_⟩;rcases zcZ hy with hy | rfl
  ·exact hp.2 y hy
  ·exact Xp (hp.2 x (zcL hx)) ht
theorem ZH {p q:List Tag} (hp:BE p=true) (hq:BE q=true):BE (Do p q)=true:=by rw[pastOk_iff] at hp hq;refine pastOk_iff.2 ⟨by unfold Do;rw[zd5];omega,λy hy=>?_⟩;unfold Do at hy;obtain ⟨i,hi,rfl⟩:=zda.1 hy;rw[List.getElem_zipWith];exact Xp (hp.2 _ (zcv _)) (hq.2 _ (zcv _))
theorem Hx (h:Ch l):BE (AR l)=true:=by refine pastOk_iff.2 ⟨h.four.1,λt ht=>?_⟩;obtain ⟨z,hz,hi⟩:=h.tail;rw[Dl hz hi] at ht;unfold Bg at ht;obtain ⟨v,hv,rfl⟩:=zeb.1 ht;obtain ⟨i,hi⟩:=zcT.1 hv;exact Ow (Ip (h.store hz).1 hi)
theorem Zl {key:Nat} (h:Ch l) (hv:Gd l k key=some v):∃ (i:Nat) (x:Node),l[i]?=some x/\x.store[key]?=some v:=by
 unfold Gd AC at hv;cases hx:l[A5 l k]? with
 | none=>rw[hx] at hv;simp at hv
 | some x=>rw[hx] at hv;exact ⟨_,x,hx,hv⟩
theorem Qj {key:Nat} (h:Ch l) (hv:Gd l k key=some v):IO key v=true:=by obtain ⟨i,x,hx,hv⟩:=Zl h hv;exact Ip (h.store hx).1 hv
theorem Bp (h:DH s=true):(0<=s.place/\s.place<=2)/\BE s.past=true/\B5 s.wait.time s.wait.place=true/\(0<=s.key/\s.key<=3)/\(0<s.wait.time\/s.key=0)/\(s.wait.time=0\/s.wait.place=s.place):=by unfold DH at h;simp only[CA,zdh,decide_eq_true_eq,beq_iff_eq,Ah] at h;obtain ⟨⟨⟨⟨⟨h1,h2⟩,h3⟩,h4⟩,h5⟩,h6⟩:=h;exact ⟨h1,h2,h3,h4,h5,h6⟩
theorem K9 (h1:0<=s.place/\s.place<=2) (h2:BE s.past=true) (h3:B5 s.wait.time s.wait.place=true) (h4:0<=s.key/\s.key<=3) (h5:0<s.wait.time\/s.key=0) (h6:s.wait.time=0\/s.wait.place=s.place):DH s=true:=by unfold DH;simp only[CA,zdh,decide_eq_true_eq,beq_iff_eq,Ah];exact ⟨⟨⟨⟨⟨h1,h2⟩,h3⟩,h4⟩,h5⟩,h6⟩
theorem PX {d:Done} (h1:0<=d.sess/\d.sess<=3) (h2:1<=d.kind/\d.kind<=3) (h3:0<=d.key/\d.key<=3) (h4:B5 d.tag.time d.tag.place=true) (h5:d.kind=2\/0<d.tag.time):Fy d=true:=by unfold Fy;simp only[CA,zdh,decide_eq_true_eq,beq_iff_eq,Ah];exact ⟨⟨⟨⟨h1,h2⟩,h3⟩,h4⟩,h5⟩
theorem Kw:∃ r,(BF p).log=p.log++r:=(N0 (vs:=Eu p.chain) (l:=p.log)).2
section
variable {w w':World}
theorem Good.setP (h:Good w) {k:Nat}{p q:Place} (hp:w.places[k]?=some p) (hq:As q=true) (hr:Roomy q) (hm:q.me=p.me) (hlog:∃ r,q.log=p.log++r)
  (hgot:∀ (i:Nat) (g:List Ver),q.got[i]?=some g->p.got[i]?=some g\/∃ r,EE w.places i=g++r):Good (Go.Proofs.YtmdgiekbejjjgaaGreat.setP w k q) :=
 ⟨h.ok.setP hp hq hm hlog hgot,λx hx=>(zcZ hx).elim (h.room x) λe=>e ▸ hr⟩
theorem Good.setS (h:Good w) {i:Nat}{s:Sess}{ds:List Done} (hs:DH s=true) (hd:∀ d∈ds,Fy d=true) (hl:(w.hist.length:Int)+ds.length<=80):Good (Go.Proofs.YtmdgiekbejjjgaaGreat.setS w i s ds) :=
 ⟨(h.ok.putS (i:=i) hs).addH hd (by show w.hist.length+ds.length<=80;omega),h.room⟩
theorem Good.setN (h:Good w) {l:List Frame} (hl:l.length<=12) (hf:∀ f∈l,I6 w.places f):Good (Go.Proofs.YtmdgiekbejjjgaaGreat.setN w l):=⟨h.ok.netN hl hf,h.room⟩
theorem KX {k:Int}{s:ByteArray}{g:Bool}{l:List Tag} (hp:As p=true) (hc:A6 p k s g l=true):Ee p k s g l=(BF (EW p 0 (AQ p l) (DU p k s g l)),⟨AQ p l,p.me⟩):=by rw[Mx hp,hc,cond_true]
theorem WK (h:Good w) {e:Event} (hi:i<w.sess.length) (hs:DH s=true) (he:DF w i s e=some w'):Good w':=by
 have h4:=h.ok.s4;unfold DF at he;split at he
 ·rename_i p hp
  cases hc:(!decide (s.wait.time>0)&&(A6 p e.key e.text e.gone s.past&&Ct w 1)) with
  | false=>rw[hc] at he;cases he
  | true =>
   rw[hc,cond_true] at he;injection he with he;simp only[CA,Ct,decide_eq_true_eq] at hc;obtain ⟨_,hc,hh⟩:=hc;obtain ⟨hme,hpo⟩:=h.ok.place _ p hp;have hr:=h.room p (zcL hp);obtain ⟨s1,s2,s3,s4,s5,s6⟩:=Bp hs;obtain ⟨q1,q2,q3,q4,q5,q6,q7,q8⟩:=Gl hc;have ht:=KZ hpo s2;have hw:=KX hpo hc;have g1:Good (Go.Proofs.YtmdgiekbejjjgaaGreat.setP w s.place.toNat (Ee p e.key e.text e.gone s.past).1):=h.setP hp (Zu hpo) (UV hr hpo) (by rw[hw];rfl) (by rw[hw];exact Kw) (λj g hg=>by rw[hw] at hg;exact .inl hg);have ht1:B5 (AQ p s.past) p.me=true:=by simp[B5,Ah];omega
   rw[<- he];refine g1.setS ?_ ?_ (by simp only[zdp];exact hh)
   ·rw[hw];exact K9 s1 s2 ht1 q1 (.inl (by show 0<AQ p s.past;omega)) (.inr (by show p.me=s.place;omega))
   ·intro d hd;rw[zcQ] at hd;subst hd;rw[hw];exact PX (by show (0:Int)<=(i:Int)/\(i:Int)<=3;omega) (by show (1:Int)<=1/\(1:Int)<=3;decide) q1 ht1 (.inr (by show 0<AQ p s.past;omega))
 ·cases he
theorem ZP (h:Good w) (hi:i<w.sess.length) (hs:DH s=true) (he:Hj w i s=some w'):Good w':=by
 have h4:=h.ok.s4;have h8:=h.ok.h80;obtain ⟨s1,s2,s3,s4,s5,s6⟩:=Bp hs;unfold Hj at he;split at he
 ·rename_i p hp
  split at he
  ·rename_i v u hv hu
   cases hc:decide (s.wait.time>0) with
   | false=>rw[hc] at he;cases he
   | true =>
    rw[hc,cond_true] at he;cases hl:CT v.tag s.wait with
    | true =>
     rw[hl,cond_true] at he;cases hl2:CT u.tag s.wait with
     | false=>rw[hl2] at he;cases he
     | true =>rw[hl2,cond_true] at he;injection he with he;rw[<- he];exact h.setS (K9 s1 s2 rfl (by show (0:Int)<=0/\(0:Int)<=3;decide) (.inr rfl) (.inl rfl)) (by simp) (by simp only[zdJ];omega)
    | false =>
     rw[hl,cond_false] at he;cases hr:Ct w 1 with
     | false=>rw[hr] at he;cases he
     | true =>rw[hr,cond_true] at he;injection he with he;rw[<- he];unfold Ct at hr;refine h.setS (K9 s1 (UF s2 s3) rfl (by show (0:Int)<=0/\(0:Int)<=3;decide) (.inr rfl) (.inl rfl)) (λd hd=>?_) (by simp only[zdp];exact of_decide_eq_true hr);rw[zcQ] at hd;subst hd;exact PX (by show (0:Int)<=(i:Int)/\(i:Int)<=3;omega) (by show (1:Int)<=3/\(3:Int)<=3;decide) s4 s3 (.inr (of_decide_eq_true hc))
  ·cases he
 ·cases he
theorem Zp (hs:BE s.past=true) (hv:IO k v=true):BE (Kr s v k)=true:=by
 unfold Kr;cases ht:decide (v.tag.time>0) with
 | false=>exact hs
 | true =>
  have ht:=of_decide_eq_true ht;rcases Cp hv with g | g
  ·have:=(DP g).1;omega
  ·have hp:=A3 g.1;exact UF (ZH hs hp.2.2.2.1) hp.2.2.2.2.1
theorem YM (h:Good w) {e:Event} (hi:i<w.sess.length) (hs:DH s=true) (he:EB w i s e=some w'):Good w':=by
 have h4:=h.ok.s4;obtain ⟨s1,s2,s3,s4,s5,s6⟩:=Bp hs;unfold EB at he;split at he
 ·rename_i p hp
  cases hc:(!decide (s.wait.time>0)&&(Ah e.key 0 3&&(Ah e.num 0 ((p.chain.length:Int) - 1)&&Ct w 1))) with
  | false=>rw[hc] at he;cases he
  | true =>
   rw[hc,cond_true] at he;simp only[CA,Ct,Ah,decide_eq_true_eq] at hc;obtain ⟨_,hk,_,hr⟩:=hc;split at he
   ·rename_i v t hv ht
    cases hl:CT v.tag t with
    | true=>rw[hl] at he;cases he
    | false =>rw[hl,cond_false] at he;injection he with he;rw[<- he];have hc:=D5 (h.ok.place _ p hp).2;have hva:=Qj hc hv;refine h.setS (K9 s1 (Zp s2 hva) s3 s4 s5 s6) (λd hd=>?_) (by simp only[zdp];exact hr);rw[zcQ] at hd;subst hd;exact PX (by show (0:Int)<=(i:Int)/\(i:Int)<=3;omega) (by show (1:Int)<=2/\(2:Int)<=3;decide) hk (Ow hva) (.inl rfl)
   ·cases he
 ·cases he
theorem ZQ (h:Good w) (hi:i<w.sess.length) (hs:DH s=true) (he:HG w i s=some w'):Good w':=by
 have h4:=h.ok.s4;obtain ⟨s1,s2,s3,s4,s5,s6⟩:=Bp hs;unfold HG at he;split at he
 ·rename_i p hp
  cases hc:(!decide (s.wait.time>0)&&(Bs s.past (AR p.chain)&&Ct w 4)) with
  | false=>rw[hc] at he;cases he
  | true =>rw[hc,cond_true] at he;injection he with he;rw[<- he];simp only[CA,Ct,decide_eq_true_eq] at hc;have hch:=D5 (h.ok.place _ p hp).2;have hst:=Hx hch;refine h.setS (K9 s1 hst s3 s4 s5 s6) (λd hd=>?_) (by unfold BB;rw[zdQ,zd8,hch.four.1];exact hc.2.2);unfold BB at hd;obtain ⟨⟨t,k⟩,hx,rfl⟩:=zeb.1 hd;rw[zdF] at hx;have hk:=(Ea hx).1;rw[hch.four.1] at hk;simp only at hk;exact PX (by show (0:Int)<=(i:Int)/\(i:Int)<=3;omega) (by show (1:Int)<=2/\(2:Int)<=3;decide) (by show (0:Int)<=(k:Int)/\(k:Int)<=3;omega) ((pastOk_iff.1 hst).2 t (zcL hx)) (.inl rfl)
 ·cases he
theorem YN (h:Good w) {e:Event} (hs:DH s=true) (he:LI w i s e=some w'):Good w':=by
 obtain ⟨s1,s2,s3,s4,s5,s6⟩:=Bp hs;unfold LI at he;cases hc:(!decide (s.wait.time>0)&&Ah e.num 0 2) with
 | false=>rw[hc] at he;cases he
 | true =>rw[hc,cond_true] at he;injection he with he;rw[<- he];simp only[CA,Ah,decide_eq_true_eq,zdd,decide_eq_false_iff_not] at hc;have:=GS s3;exact h.setS (K9 hc.2 s2 s3 s4 s5 (.inl (by show s.wait.time=0;omega))) (by simp) (by simp only[zdJ];have:=h.ok.h80;omega)
theorem Vt (h:Good w) {e:Event} (he:CS w e=some w'):Good w':=by
 unfold CS at he;cases hc:Ah e.at' 0 ((w.sess.length:Int) - 1) with
 | false=>rw[hc] at he;cases he
 | true =>
  rw[hc,cond_true] at he;split at he
  ·rename_i s hs
   have hi:=(Ea hs).1;have hso:=h.ok.sess s (zcL hs);cases h1:e.kind==1 with
   | true=>rw[h1,cond_true] at he;exact WK h hi hso he
   | false =>
    rw[h1,cond_false] at he;cases h2:e.kind==2 with
    | true=>rw[h2,cond_true] at he;exact ZP h hi hso he
    | false =>
     rw[h2,cond_false] at he;cases h3:e.kind==3 with
     | true=>rw[h3,cond_true] at he;exact YM h hi hso he
     | false =>
      rw[h3,cond_false] at he;cases h4:e.kind==4 with
      | true=>rw[h4,cond_true] at he;exact ZQ h hi hso he
      | false=>rw[h4,cond_false] at he;exact YN h hso he
  ·cases he
theorem Zi {q:Place}{e:Event} (h:C6 p e=some q):q.me=p.me/\q.got=p.got/\∃ r,q.log=p.log++r:=by
 unfold C6 at h;have nil:∃ r,p.log=p.log++r:=⟨[],by simp⟩;cases h1:e.kind==6 with
 | true =>
  rw[h1,cond_true] at h;cases hc:BJ p.chain e.num with
  | false=>rw[hc] at h;cases h
  | true =>rw[hc,cond_true] at h;injection h with h;rw[<- h];unfold D3;rw[hc,cond_true];exact ⟨rfl,rfl,Kw⟩
 | false =>
  rw[h1,cond_false] at h;cases h2:e.kind==7 with
  | true =>
   rw[h2,cond_true] at h;cases hc:Cm p e.num with
   | false=>rw[hc] at h;cases h
   | true =>rw[hc,cond_true] at h;injection h with h;rw[<- h];unfold C9;rw[hc,cond_true];exact ⟨rfl,rfl,Kw⟩
  | false =>
   rw[h2,cond_false] at h;cases h3:e.kind==8 with
   | true =>
    rw[h3,cond_true] at h;cases hc:Ej p.chain with
    | false=>rw[hc] at h;cases h
    | true =>rw[hc,cond_true] at h;injection h with h;rw[<- h];exact ⟨rfl,rfl,nil⟩
   | false =>
    rw[h3,cond_false] at h;cases hc:Ci p e.num with
    | false=>rw[hc] at h;cases h
    | true =>
     rw[hc,cond_true] at h;injection h with h;rw[<- h];unfold C8;rw[hc,cond_true];unfold Kc;split
     ·exact ⟨rfl,rfl,Kw⟩
     ·exact ⟨rfl,rfl,nil⟩
theorem zay {q:Place}{e:Event} (hp:As p=true) (hl:p.log.length<=56) (h:C6 p e=some q):As q=true/\(Roomy p->Roomy q):=by
 unfold C6 at h;cases h1:e.kind==6 with
 | true =>
  rw[h1,cond_true] at h;cases hc:BJ p.chain e.num with
  | false=>rw[hc] at h;cases h
  | true =>rw[hc,cond_true] at h;injection h with h;rw[<- h];exact ⟨zaK hp hl,λhr=>Wa hr hp⟩
 | false =>
  rw[h1,cond_false] at h;cases h2:e.kind==7 with
  | true =>
   rw[h2,cond_true] at h;cases hc:Cm p e.num with
   | false=>rw[hc] at h;cases h
   | true =>rw[hc,cond_true] at h;injection h with h;rw[<- h];exact ⟨zaN hp hl,λhr=>We hr hp⟩
  | false =>
   rw[h2,cond_false] at h;cases h3:e.kind==8 with
   | true =>
    rw[h3,cond_true] at h;cases hc:Ej p.chain with
    | false=>rw[hc] at h;cases h
    | true =>rw[hc,cond_true] at h;injection h with h;rw[<- h];exact ⟨zaL hp,λhr=>Wb hr hp⟩
   | false =>
    rw[h3,cond_false] at h;cases hc:Ci p e.num with
    | false=>rw[hc] at h;cases h
    | true =>rw[hc,cond_true] at h;injection h with h;rw[<- h];exact ⟨zaJ hp hl,λhr=>V9 hr hp⟩
theorem WL (h:Good w) {e:Event} (he:EQ w e=some w'):Good w':=by
 unfold EQ at he;cases hc:Ah e.at' 0 2 with
 | false=>rw[hc] at he;cases he
 | true =>
  rw[hc,cond_true] at he;split at he
  ·rename_i p hp
   rw[zc2] at he;obtain ⟨q,hq,rfl⟩:=he;have hpo:=(h.ok.place _ p hp).2;have hr:=h.room p (zcL hp);have hl:=hr.len hpo;obtain ⟨g1,g2⟩:=zay hpo (by omega) hq;obtain ⟨g3,g4,g5⟩:=Zi hq;exact h.setP hp g1 (g2 hr) g3 g5 λi g hg=>by rw[g4] at hg;exact .inl hg
  ·cases he
theorem YL (h:Good w) {e:Event} (he:Kd w e=some w'):Good w':=by
 unfold Kd at he;cases hc:(Ah e.at' 0 2&&(Ah e.num 0 2&&(!(e.at'==e.num)&&(decide ((w.net.length:Int)<12)&&Ah e.key 0 (((EE w.places e.at'.toNat).length:Int) - 1))))) with
 | false=>rw[hc] at he;cases he
 | true =>
  rw[hc,cond_true] at he;simp only[CA,Ah,decide_eq_true_eq,zdd,beq_eq_false_iff_ne] at hc;obtain ⟨h1,h2,h3,h4,h5⟩:=hc;split at he
  ·rename_i v hv
   injection he with he;rw[<- he];refine h.setN (by simp;omega) λf hf=>?_;rcases zcx.1 hf with hf | hf
   ·exact h.ok.net f hf
   ·rw[zcQ] at hf;subst hf;exact ⟨h1,h2,h3,h5.1,hv⟩
  ·cases he
theorem Tb (h:Good w) {f:Frame} (hf:I6 w.places f):Good (HC w f):=by
 unfold HC;split
 ·rename_i p hp
  have hpo:=(h.ok.place _ p hp).2;have hr:=h.room p (zcL hp);obtain ⟨h1,h2,h3,h4,h5⟩:=hf;refine h.setP hp (zaM hpo) (Wc hr) ?_ ?_ ?_
  ·unfold Dk;cases D8 p f.fro f.at' f.ver<;>rfl
  ·unfold Dk;cases D8 p f.fro f.at' f.ver<;>exact ⟨[],by simp[GG]⟩
  ·intro i g hg;unfold Dk at hg;cases hc:D8 p f.fro f.at' f.ver with
   | false=>rw[hc] at hg;exact .inl hg
   | true =>
    rw[hc,cond_true] at hg;simp only[D8,HV,Ah,CA,decide_eq_true_eq,beq_iff_eq,zdd] at hc;obtain ⟨⟨_,_⟩,_,_,_,q,_,_⟩:=hc;have hg:(p.got.set f.fro.toNat (IZ p f.fro.toNat ++ [f.ver]))[i]?=some g:=hg;by_cases hi:f.fro.toNat=i
    ·subst hi;have hlt:f.fro.toNat<p.got.length:=by have:=(Ea hg).1;simpa using this
     rw[zcG hlt] at hg;injection hg with hg;have hgo:p.got[f.fro.toNat]?=some (IZ p f.fro.toNat):=by rw[Hf hlt];exact Cz hlt
     obtain ⟨r,hr⟩:=h.ok.heard _ p _ _ hp hgo;rw[hr,zcU (by omega),show f.at'.toNat - (IZ p f.fro.toNat).length=0 by omega] at h5;cases r with
     | nil=>simp at h5
     | cons v r =>simp only[List.getElem?_cons_zero,Option.some.injEq] at h5;subst h5;exact .inr ⟨r,by rw[hr,<- hg];simp⟩
    ·rw[zcA hi] at hg;exact .inl hg
 ·exact h
theorem WM (h:Good w) {e:Event} (he:FT w e=some w'):Good w':=by
 unfold FT at he;cases hc:Ah e.at' 0 ((w.net.length:Int) - 1) with
 | false=>rw[hc] at he;cases he
 | true =>
  rw[hc,cond_true] at he;split at he
  ·rename_i f hf
   injection he with he;rw[<- he];have hfi:=h.ok.net f (zcL hf);have hn:=h.ok.n12;have g1:Good (setN w (w.net.eraseIdx e.at'.toNat)):=h.setN (zcw (zdV _ _) hn) λx hx=>h.ok.net x (zdy hx);cases e.kind==12 with
   | true=>exact g1
   | false =>
    rw[cond_false];cases e.kind==13 with
    | true=>exact Tb h hfi
    | false=>exact Tb g1 hfi
  ·cases he
theorem YK (h:Good w) {e:Event} (he:CN w e=some w'):Good w':=by
 unfold CN at he;cases h1:Ah e.kind 1 5 with
 | true=>rw[h1,cond_true] at he;exact Vt h he
 | false =>
  rw[h1,cond_false] at he;cases h2:Ah e.kind 6 9 with
  | true=>rw[h2,cond_true] at he;exact WL h he
  | false =>
   rw[h2,cond_false] at he;cases h3:e.kind==10 with
   | true=>rw[h3,cond_true] at he;exact YL h he
   | false =>
    rw[h3,cond_false] at he;cases h4:Ah e.kind 11 13 with
    | true=>rw[h4,cond_true] at he;exact WM h he
    | false=>rw[h4] at he;cases he
theorem If (h:Good w) {e:Event}:Good (JX w e):=by
 unfold JX;cases he:CN w e with
 | none=>exact h
 | some w'=>exact YK h he
end


theorem Mv.mid {h h':Heap}{A B A' F F':List Nat} (m:Mv h A h' A') (hp:F.Perm (A++B)) (hn:F.Nodup) (hB:∀ y∈B,y<h.length) (hp':F'.Perm (A'++B)):Mv h F h' F':=by have m1:=m.aside (hp.nodup_iff.1 hn) hB;exact (m1.wide λb hb=>hp.mem_iff.2 hb).lean (hp'.nodup_iff.2 m1.nd) λb hb=>hp'.mem_iff.1 hb
theorem O3 {A B C:List Nat}:(A++(B++C)).Perm (B++(A++C)):=List.perm_append_comm_assoc A B C
theorem SP {A B C D:List Nat}:(A++(B++(C++D))).Perm (C++(A++(B++D))):=(List.Perm.append_left A O3).trans O3
theorem Zr {A B C:List Nat}:(A++(B++C)).Perm (C++(A++B)):=by rw[<- zcO A B C];exact zec
theorem Xm {A B C D:List Nat}:(A++(B++(C++D))).Perm (D++(A++(B++C))):=by rw[<- zcO B C D,<- zcO A (B++C) D];exact zec
structure WR (lo:Nat) (h:Heap) (w:World) (a1:Pq) (c1:Nq) (a2:Pq) (c2:Nq) (a3:Pq) (c3:Nq) (a4:Pq) (c4:Nq) (F1 F2 F3 F4:List Nat):Prop where
 r1:RPlaces false h [.sl 6 a1 w.places.length c1] w.places F1
 r2:RSesss false h [.sl 5 a2 w.sess.length c2] w.sess F2
 r3:RFrames false h [.sl 9 a3 w.net.length c3] w.net F3
 r4:RDones false h [.sl 5 a4 w.hist.length c4] w.hist F4
 nd:(F1++(F2++(F3++F4))).Nodup
 ge:∀ y∈F1++(F2++(F3++F4)),lo<=y
 hl:lo<=h.length
def Pw (lo:Nat) (h:Heap) (cs:List V) (w:World) (F:List Nat):Prop:=∃ a1 c1 a2 c2 a3 c3 a4 c4 F1 F2 F3 F4,cs=w.cs a1 c1 a2 c2 a3 c3 a4 c4/\F=F1++(F2++(F3++F4))/\WR lo h w a1 c1 a2 c2 a3 c3 a4 c4 F1 F2 F3 F4
section
variable {lo:Nat}{h h':Heap}{w:World}{a1 a2 a3 a4 a:Pq}{c1 c2 c3 c4 c:Nq}{F1 F2 F3 F4:List Nat}
theorem WR.at (H:WR lo h w a1 c1 a2 c2 a3 c3 a4 c4 F1 F2 F3 F4):Pw lo h (w.cs a1 c1 a2 c2 a3 c3 a4 c4) w (F1++(F2++(F3++F4))):=⟨a1,c1,a2,c2,a3,c3,a4,c4,F1,F2,F3,F4,rfl,rfl,H⟩
theorem WR.lt (H:WR lo h w a1 c1 a2 c2 a3 c3 a4 c4 F1 F2 F3 F4):(∀ y∈F1,y<h.length)/\(∀ y∈F2,y<h.length)/\(∀ y∈F3,y<h.length)/\∀ y∈F4,y<h.length :=
 ⟨rplaces_ok.bd _ _ _ _ H.r1,rsesss_ok.bd _ _ _ _ H.r2,rframes_ok.bd _ _ _ _ H.r3,rdones_ok.bd _ _ _ _ H.r4⟩
theorem WR.bd (H:WR lo h w a1 c1 a2 c2 a3 c3 a4 c4 F1 F2 F3 F4):∀ y∈F1++(F2++(F3++F4)),y<h.length:=λy hy=>by
 obtain ⟨g1,g2,g3,g4⟩:=H.lt;simp only[zcx] at hy;rcases hy with hy | hy | hy | hy
 ·exact g1 y hy
 ·exact g2 y hy
 ·exact g3 y hy
 ·exact g4 y hy
theorem Po (h:(F1++(F2++(F3++F4))).Nodup):(F1.Nodup/\F2.Nodup/\F3.Nodup/\F4.Nodup)/\(∀ y∈F1,y∉F2)/\(∀ y∈F1,y∉F3)/\(∀ y∈F1,y∉F4)/\(∀ y∈F2,y∉F3)/\(∀ y∈F2,y∉F4)/\∀ y∈F3,y∉F4:=by simp only[zcy,zcx] at h;obtain ⟨h1,⟨h2,⟨h3,h4,h5⟩,h6⟩,h7⟩:=h;exact ⟨⟨h1,h2,h3,h4⟩,λy hy hm=>h7 y hy y (.inl hm) rfl,λy hy hm=>h7 y hy y (.inr (.inl hm)) rfl,λy hy hm=>h7 y hy y (.inr (.inr hm)) rfl,λy hy hm=>h6 y hy y (.inl hm) rfl,λy hy hm=>h6 y hy y (.inr hm) rfl,λy hy hm=>h5 y hy y hm rfl⟩
theorem WR.up1 (H:WR lo h w a1 c1 a2 c2 a3 c3 a4 c4 F1 F2 F3 F4) {l:List Place}{G:List Nat} (m:Mv h F1 h' G) (r:RPlaces false h' [.sl 6 a l.length c] l G) :
  WR lo h' ⟨l,w.sess,w.net,w.hist⟩ a c a2 c2 a3 c3 a4 c4 G F2 F3 F4/\Mv h (F1++(F2++(F3++F4))) h' (G++(F2++(F3++F4))):=by
 obtain ⟨_,d12,d13,d14,d23,d24,d34⟩:=Po H.nd;have m1:Mv h (F1++(F2++(F3++F4))) h' (G++(F2++(F3++F4))):=m.mid (.refl _) H.nd (λy hy=>H.bd y (by simp only[zcx] at hy ⊢;grind)) (.refl _);exact ⟨⟨r,m.keep rsesss_ok H.r2 (λb hb hm=>d12 b hm hb),m.keep rframes_ok H.r3 (λb hb hm=>d13 b hm hb),m.keep rdones_ok H.r4 (λb hb hm=>d14 b hm hb),m1.nd,m1.ge H.hl H.ge,zcw H.hl m.le⟩,m1⟩
theorem WR.up2 (H:WR lo h w a1 c1 a2 c2 a3 c3 a4 c4 F1 F2 F3 F4) {l:List Sess}{G:List Nat} (m:Mv h F2 h' G) (r:RSesss false h' [.sl 5 a l.length c] l G) :
  WR lo h' ⟨w.places,l,w.net,w.hist⟩ a1 c1 a c a3 c3 a4 c4 F1 G F3 F4/\Mv h (F1++(F2++(F3++F4))) h' (F1++(G++(F3++F4))):=by
 obtain ⟨_,d12,d13,d14,d23,d24,d34⟩:=Po H.nd;have m1:Mv h (F1++(F2++(F3++F4))) h' (F1++(G++(F3++F4))):=m.mid O3 H.nd (λy hy=>H.bd y (by simp only[zcx] at hy ⊢;grind)) O3;exact ⟨⟨m.keep rplaces_ok H.r1 (λb hb hm=>d12 b hb hm),r,m.keep rframes_ok H.r3 (λb hb hm=>d23 b hm hb),m.keep rdones_ok H.r4 (λb hb hm=>d24 b hm hb),m1.nd,m1.ge H.hl H.ge,zcw H.hl m.le⟩,m1⟩
theorem WR.up3 (H:WR lo h w a1 c1 a2 c2 a3 c3 a4 c4 F1 F2 F3 F4) {l:List Frame}{G:List Nat} (m:Mv h F3 h' G) (r:RFrames false h' [.sl 9 a l.length c] l G) :
  WR lo h' ⟨w.places,w.sess,l,w.hist⟩ a1 c1 a2 c2 a c a4 c4 F1 F2 G F4/\Mv h (F1++(F2++(F3++F4))) h' (F1++(F2++(G++F4))):=by
 obtain ⟨_,d12,d13,d14,d23,d24,d34⟩:=Po H.nd;have m1:Mv h (F1++(F2++(F3++F4))) h' (F1++(F2++(G++F4))):=m.mid SP H.nd (λy hy=>H.bd y (by simp only[zcx] at hy ⊢;grind)) SP;exact ⟨⟨m.keep rplaces_ok H.r1 (λb hb hm=>d13 b hb hm),m.keep rsesss_ok H.r2 (λb hb hm=>d23 b hb hm),r,m.keep rdones_ok H.r4 (λb hb hm=>d34 b hm hb),m1.nd,m1.ge H.hl H.ge,zcw H.hl m.le⟩,m1⟩
theorem WR.up4 (H:WR lo h w a1 c1 a2 c2 a3 c3 a4 c4 F1 F2 F3 F4) {l:List Done}{G:List Nat} (m:Mv h F4 h' G) (r:RDones false h' [.sl 5 a l.length c] l G) :
  WR lo h' ⟨w.places,w.sess,w.net,l⟩ a1 c1 a2 c2 a3 c3 a c F1 F2 F3 G/\Mv h (F1++(F2++(F3++F4))) h' (F1++(F2++(F3++G))):=by
 obtain ⟨_,d12,d13,d14,d23,d24,d34⟩:=Po H.nd;have m1:Mv h (F1++(F2++(F3++F4))) h' (F1++(F2++(F3++G))):=m.mid Xm H.nd (λy hy=>H.bd y (by simp only[zcx] at hy ⊢;grind)) Xm;exact ⟨⟨m.keep rplaces_ok H.r1 (λb hb hm=>d14 b hb hm),m.keep rsesss_ok H.r2 (λb hb hm=>d24 b hb hm),m.keep rframes_ok H.r3 (λb hb hm=>d34 b hb hm),r,m1.nd,m1.ge H.hl H.ge,zcw H.hl m.le⟩,m1⟩
theorem WR.up0 (H:WR lo h w a1 c1 a2 c2 a3 c3 a4 c4 F1 F2 F3 F4) (m:Mv h [] h' []):WR lo h' w a1 c1 a2 c2 a3 c3 a4 c4 F1 F2 F3 F4/\Mv h (F1++(F2++(F3++F4))) h' (F1++(F2++(F3++F4))) :=
 ⟨⟨m.keep0 rplaces_ok H.r1,m.keep0 rsesss_ok H.r2,m.keep0 rframes_ok H.r3,m.keep0 rdones_ok H.r4,H.nd,H.ge,zcw H.hl m.le⟩,m.aside (by simpa using H.nd) H.bd⟩
theorem WR.place (H:WR lo h w a1 c1 a2 c2 a3 c3 a4 c4 F1 F2 F3 F4) {k:Nat} (hk:k<w.places.length):∃ b i s1 s2 s3 b1 d1 b2 d2 b3 d3 G1 G2 G3,a1=some (b,i) /\
  ld h b (i+k) 0 6=some [Iv w.places[k].me,Iv w.places[k].clock,s1,s2,s3,.bool w.places[k].fell]/\ld h b (i+k) 2 1=some [s1]/\ld h b (i+k) 3 1=some [s2] /\
  (∀ {R':Type} (K:Pq->Nat->Nq->Option R'),eS 2 s1 K=K b1 w.places[k].chain.length d1)/\(∀ {R':Type} (K:Pq->Nat->Nq->Option R'),eS 6 s2 K=K b2 w.places[k].log.length d2) /\
  (∀ {R':Type} (K:Pq->Nat->Nq->Option R'),eS 1 s3 K=K b3 w.places[k].got.length d3) /\
  RNodes false h [.sl 2 b1 w.places[k].chain.length d1] w.places[k].chain G1/\RVers false h [.sl 6 b2 w.places[k].log.length d2] w.places[k].log G2/\RVss false h [.sl 1 b3 w.places[k].got.length d3] w.places[k].got G3 /\
  (G1++(G2++G3)).Nodup/\(∀ y∈G1++(G2++G3),lo<=y/\y<h.length/\y∈F1) /\
  ∀ h1 G p' cs',Mv h (G1++(G2++G3)) h1 G->RPlace false h1 cs' p' G->cs'.length=6 ->
   ∃ h2 F1',st lo h1 b (i+k) 0 cs'=some h2/\WR lo h2 (setP w k p') a1 c1 a2 c2 a3 c3 a4 c4 F1' F2 F3 F4/\Mv h (F1++(F2++(F3++F4))) h2 (F1'++(F2++(F3++F4))):=by
 obtain ⟨⟨n1,_⟩,_⟩:=Po H.nd;obtain ⟨b,i,rs,row,G,ha,hbF,hbG,hb,hrow,hel,hGF,hGn,_,put⟩:=Sli.at (lo:=lo) rplace_ok H.r1 hk n1 (λy hy=>H.ge y (by simp[hy]));obtain ⟨s1,s2,s3,b1,d1,b2,d2,b3,d3,G1,G2,G3,rfl,rfl,e1,e2,e3,g1,g2,g3⟩:=hel.form;refine ⟨b,i,s1,s2,s3,b1,d1,b2,d2,b3,d3,G1,G2,G3,ha,by rw[Bx hb hrow];exact I3 rfl,by rw[Bx hb hrow];rfl,by rw[Bx hb hrow];rfl,e1,e2,e3,g1,g2,g3,hGn,λy hy=>⟨H.ge y (by simp[hGF y hy]),H.lt.1 y (hGF y hy),hGF y hy⟩,λh1 G p' cs' m hx hc=>?_⟩;obtain ⟨h2,F',e,r,m2,_⟩:=put h1 G 0 cs' cs' p' m (Gh (by rw[hc];rfl)) hx;have hlen:(w.places.set k p').length=w.places.length:=by simp
 rw[<- hlen] at r;obtain ⟨q1,q2⟩:=H.up1 m2 r;exact ⟨h2,F',e,q1,q2⟩
end
section
variable {lo:Nat}{h:Heap}{p:Place}{b1 b2 b3:Pq}{d1 d2 d3:Nq}{G1 G2 G3:List Nat}
theorem Zs {f:Nat} (g1:RNodes false h [.sl 2 b1 p.chain.length d1] p.chain G1) (g2:RVers false h [.sl 6 b2 p.log.length d2] p.log G2) (g3:RVss false h [.sl 1 b3 p.got.length d3] p.got G3) (hpo:As p=true) (hc:BJ p.chain (f:Int)=true)
  (nd:(G1++(G2++G3)).Nodup) (hlo:∀ y∈G1++(G2++G3),lo<=y) (hl:lo<=h.length) :
  ∃ a6 c6 h5 h6 G,Ai lo 160 [.agg [.sl 2 b1 p.chain.length d1],Iv (f:Nat)] h=some (.agg [.sl 2 b1 p.chain.length d1],h5) /\
   Ai lo 161 [.agg [Iv p.me,Iv p.clock,.sl 2 b1 p.chain.length d1,.sl 6 b2 p.log.length d2,.sl 1 b3 p.got.length d3,.bool p.fell]] h5=some (.agg ((D3 p f).cs b1 d1 a6 c6 b3 d3),h6) /\
   RPlace false h6 ((D3 p f).cs b1 d1 a6 c6 b3 d3) (D3 p f) G/\Mv h (G1++(G2++G3)) h6 G:=by
 have hn:=(Eh (Bv hpo) (by decide) (by decide) (by decide)).1;have hb:∀ y∈G1++(G2++G3),y<h.length:=λy hy=>by
  simp only[zcx] at hy;rcases hy with hy | hy | hy
  ·exact rnodes_ok.bd _ _ _ _ g1 y hy
  ·exact rvers_ok.bd _ _ _ _ g2 y hy
  ·exact rvss_ok.bd _ _ _ _ g3 y hy
 have hc':=hc;unfold BJ at hc';rw[CA] at hc';obtain ⟨hw,hps⟩:=hc';simp only[Ah,CA,decide_eq_true_eq] at hw;rw[Bb] at hps;have hk':f<p.chain.length:=by omega
 rw[JM hk',CA,decide_eq_true_eq] at hps;have nd':=nd;rw[zcy,zcy] at nd';obtain ⟨nd1,⟨nd2,nd3,Po⟩,nd5⟩:=nd';obtain ⟨h5,F5,e5,r5,m5⟩:=UM (lo:=lo) g1 (by omega) hps.1 nd1 (λy hy=>hlo y (by simp[hy])) hl hn.1 (TE hpo);have g25:=m5.keep rvers_ok g2 λy hy hm=>nd5 y hm y (by simp[hy]) rfl;have ht:=PQ (Sy (k:=f) (Bv hpo)) (by decide) (by decide) (by decide);rw[<- GW (k:=f)] at r5;have d1':=(P5 m5 (Mv.refl nd2) nd hb).2.1;obtain ⟨a6,c6,h6,F6,e6,r6,m6⟩:=Qa (lo:=lo) (p:=Iu p f) (a3:=b3) (c3:=d3) r5 g25 (by show 0<(EU _ _).length;rw[GW];omega) ht d1' nd2 (λy hy=>hlo y (by simp[hy])) (zcw hl m5.le);have hcs:(Iu p f).cs b1 d1 b2 d2 b3 d3 = [Iv p.me,Iv p.clock,.sl 2 b1 p.chain.length d1,.sl 6 b2 p.log.length d2,.sl 1 b3 p.got.length d3,.bool p.fell]:=by simp only[Place.cs,Iu,GW]
 rw[hcs] at e6;obtain ⟨m7,x1,x2,x3⟩:=P5 m5 m6 nd hb;have hx:D3 p (f:Int)=BF (Iu p f):=by unfold D3;rw[hc,cond_true,Bb]
 rw[hx];exact ⟨a6,c6,h5,h6,F5++(F6++G3),e5,e6,⟨_,_,_,F5,F6,G3,rfl,rfl,m6.keep rnodes_ok r5 x1,r6,m6.keep rvss_ok (m5.keep rvss_ok g3 x2) x3⟩,m7⟩
theorem ZU {f:Nat} (g1:RNodes false h [.sl 2 b1 p.chain.length d1] p.chain G1) (g2:RVers false h [.sl 6 b2 p.log.length d2] p.log G2) (g3:RVss false h [.sl 1 b3 p.got.length d3] p.got G3) (hpo:As p=true) (hc:Cm p (f:Int)=true)
  (nd:(G1++(G2++G3)).Nodup) (hlo:∀ y∈G1++(G2++G3),lo<=y) (hl:lo<=h.length) :
  ∃ a5 c5 a6 c6 h5 h6 G,Ai lo 163 [.agg [.sl 2 b1 p.chain.length d1],Iv (f:Nat)] h=some (.agg [.sl 2 a5 (B6 p.chain f).length c5],h5) /\
   Ai lo 161 [.agg [Iv p.me,Iv p.clock,.sl 2 a5 (B6 p.chain f).length c5,.sl 6 b2 p.log.length d2,.sl 1 b3 p.got.length d3,.bool true]] h5=some (.agg ((C9 p f).cs a5 c5 a6 c6 b3 d3),h6) /\
   RPlace false h6 ((C9 p f).cs a5 c5 a6 c6 b3 d3) (C9 p f) G/\Mv h (G1++(G2++G3)) h6 G:=by
 have hn:=(Eh (Bv hpo) (by decide) (by decide) (by decide)).1;have hb:∀ y∈G1++(G2++G3),y<h.length:=λy hy=>by
  simp only[zcx] at hy;rcases hy with hy | hy | hy
  ·exact rnodes_ok.bd _ _ _ _ g1 y hy
  ·exact rvers_ok.bd _ _ _ _ g2 y hy
  ·exact rvss_ok.bd _ _ _ _ g3 y hy
 have hc':=hc;unfold Cm Dh at hc';simp only[CA,Ah,decide_eq_true_eq] at hc';obtain ⟨hfl,hw,hl1⟩:=hc';have hk':f<p.chain.length:=by omega
 have nd':=nd;rw[zcy,zcy] at nd';obtain ⟨nd1,⟨nd2,nd3,Po⟩,nd5⟩:=nd';obtain ⟨a5,c5,h5,F5,e5,r5,m5⟩:=UP (lo:=lo) g1 hk' hl1 (Yw (AI hpo).2.2.2.1 (by omega)) nd1 (λy hy=>hlo y (by simp[hy])) hl hn.1.1 (λx hx=>(TE hpo x hx).1);have g25:=m5.keep rvers_ok g2 λy hy hm=>nd5 y hm y (by simp[hy]) rfl;have ht:=PQ (Sz (k:=f) (Bv hpo)) (by decide) (by decide) (by decide);have d1':=(P5 m5 (Mv.refl nd2) nd hb).2.1;obtain ⟨a6,c6,h6,F6,e6,r6,m6⟩:=Qa (lo:=lo) (p:=LN p f) (a3:=b3) (c3:=d3) r5 g25 (by show 0<(B6 _ _).length;rw[Jv hk' hl1];omega) ht d1' nd2 (λy hy=>hlo y (by simp[hy])) (zcw hl m5.le);have hcs:(LN p f).cs a5 c5 b2 d2 b3 d3 = [Iv p.me,Iv p.clock,.sl 2 a5 (B6 p.chain f).length c5,.sl 6 b2 p.log.length d2,.sl 1 b3 p.got.length d3,.bool true]:=rfl;rw[hcs] at e6;obtain ⟨m7,x1,x2,x3⟩:=P5 m5 m6 nd hb;have hx:C9 p (f:Int)=BF (LN p f):=by unfold C9;rw[hc,cond_true,Bb]
 rw[hx];exact ⟨a5,c5,a6,c6,h5,h6,F5++(F6++G3),e5,e6,⟨_,_,_,F5,F6,G3,rfl,rfl,m6.keep rnodes_ok r5 x1,r6,m6.keep rvss_ok (m5.keep rvss_ok g3 x2) x3⟩,m7⟩
theorem ZG (g1:RNodes false h [.sl 2 b1 p.chain.length d1] p.chain G1) (g2:RVers false h [.sl 6 b2 p.log.length d2] p.log G2) (g3:RVss false h [.sl 1 b3 p.got.length d3] p.got G3) (hpo:As p=true) (hc:Ej p.chain=true)
  (nd:(G1++(G2++G3)).Nodup) (hlo:∀ y∈G1++(G2++G3),lo<=y) (hl:lo<=h.length) :
  ∃ a5 c5 h5 G,Ai lo 164 [.agg [.sl 2 b1 p.chain.length d1]] h=some (.agg [.sl 2 a5 (Dj p.chain).length c5],h5) /\
   RPlace false h5 ((Jr p).cs a5 c5 b2 d2 b3 d3) (Jr p) G/\Mv h (G1++(G2++G3)) h5 G:=by
 have hn:=(Eh (Bv hpo) (by decide) (by decide) (by decide)).1;have hb:∀ y∈G1++(G2++G3),y<h.length:=λy hy=>by
  simp only[zcx] at hy;rcases hy with hy | hy | hy
  ·exact rnodes_ok.bd _ _ _ _ g1 y hy
  ·exact rvers_ok.bd _ _ _ _ g2 y hy
  ·exact rvss_ok.bd _ _ _ _ g3 y hy
 have h0:=Dp hpo;have nd':=nd;rw[zcy,zcy] at nd';obtain ⟨nd1,⟨nd2,nd3,Po⟩,nd5⟩:=nd';obtain ⟨a5,c5,h5,F5,e5,r5,m5⟩:=UO (lo:=lo) g1 h0 hn.1 nd1 (λy hy=>hlo y (by simp[hy])) hl;have hj:Dj p.chain=IW p.chain:=by unfold Dj;rw[hc];rfl
 have hjl:(IW p.chain).length=p.chain.length+1:=by rw[Fm h0];simp
 obtain ⟨m7,x1,x2,x3⟩:=P5 m5 (Mv.refl nd2) nd hb;rw[<- hjl,<- hj] at e5 r5;refine ⟨a5,c5,h5,F5++(G2++G3),e5,⟨_,_,_,F5,G2,G3,rfl,rfl,r5,m5.keep rvers_ok g2 λy hy hm=>nd5 y hm y (by simp[hy]) rfl,m5.keep rvss_ok g3 x2⟩,m7⟩
end


variable {p:Place}
structure Fits (w:World):Prop where
 ok:Wd w
theorem Good.fits {w:World} (hg:Good w):Fits w:=⟨hg.ok⟩
section
variable {lo:Nat}{h h':Heap}{w:World}{a1 a2 a3 a4 a:Pq}{c1 c2 c3 c4 c:Nq}{F1 F2 F3 F4:List Nat}
theorem Xk {k:Nat}:(setP w k p).cs a1 c1 a2 c2 a3 c3 a4 c4=w.cs a1 c1 a2 c2 a3 c3 a4 c4:=by simp only[World.cs,setP,zc6]
theorem Fits.at (hg:Fits w) {k:Nat} (hk:k<w.places.length):As w.places[k]=true/\w.places[k].me=(k:Int)/\True:=by have:=hg.ok.place k _ (Cz hk);exact ⟨this.2,this.1,trivial⟩
theorem Zf {f:Nat}{b1 b2 b3:Pq}{d1 d2 d3:Nq}{G1 G2 G3:List Nat} (g1:RNodes false h [.sl 2 b1 p.chain.length d1] p.chain G1) (g2:RVers false h [.sl 6 b2 p.log.length d2] p.log G2) (g3:RVss false h [.sl 1 b3 p.got.length d3] p.got G3) (hpo:As p=true) (hc:Ci p (f:Int)=true)
  (nd:(G1++(G2++G3)).Nodup) (hlo:∀ y∈G1++(G2++G3),lo<=y) (hl:lo<=h.length) :
  ∃ a1' c1' a2' c2' a3' c3' h' G,Ai lo 166 [.agg (p.cs b1 d1 b2 d2 b3 d3),Iv (f:Nat)] h=some (.agg ((C8 p (f:Int)).cs a1' c1' a2' c2' a3' c3'),h')/\RPlace false h' ((C8 p (f:Int)).cs a1' c1' a2' c2' a3' c3') (C8 p (f:Int)) G/\Mv h (G1++(G2++G3)) h' G:=by
 have hn:=(Eh (Bv hpo) (by decide) (by decide) (by decide)).1;have hx:C8 p (f:Int)=Kc p f:=by unfold C8;rw[hc,cond_true,Bb]
 unfold Ci at hc;rw[CA,Bb] at hc;obtain ⟨hw,ht⟩:=hc;simp only[Ah,CA,decide_eq_true_eq] at hw;have h3:=(AI hpo).2.2.1;obtain ⟨a2',c2',h',F',e,⟨_,_,_,_,_,_,ecs,r⟩,m⟩:=UL (lo:=lo) (f:=f) g1 g2 g3 hpo (by omega) hn ht nd hlo hl;rw[hx];exact ⟨_,_,_,_,_,_,h',F',e,r,m⟩
theorem Ts {e:Event} (H:WR lo h w a1 c1 a2 c2 a3 c3 a4 c4 F1 F2 F3 F4) (hg:Fits w) :
  ∃ cs' h' F',Ai lo 124 [.agg (w.cs a1 c1 a2 c2 a3 c3 a4 c4),.agg e.cs] h=some (.tup [.agg cs',.bool (EQ w e).isSome],h')/\Pw lo h' cs' ((EQ w e).getD w) F'/\Mv h (F1++(F2++(F3++F4))) h' F'/\((EQ w e)=none->cs'=w.cs a1 c1 a2 c2 a3 c3 a4 c4):=by
 obtain ⟨kind,at',num,key,text,gone⟩:=e;suffices hk:∃ cs' h' F',_=some (V.tup [.agg cs',.bool (EQ w ⟨kind,at',num,key,text,gone⟩).isSome],h')/\Pw lo h' cs' ((EQ w ⟨kind,at',num,key,text,gone⟩).getD w) F'/\Mv h (F1++(F2++(F3++F4))) h' F'/\((EQ w ⟨kind,at',num,key,text,gone⟩)=none->cs'=w.cs a1 c1 a2 c2 a3 c3 a4 c4) from by obtain ⟨cs',h',F',e,hr⟩:=hk;exact ⟨cs',h',F',Rl e,hr⟩
 rw[B8,Ac,Ao];unfold EQ;cases hat:Ah at' 0 2 with
 | false =>rw[Av];exact ⟨_,h,_,rfl,H.at,Mv.refl H.nd,λ_=>rfl⟩
 | true =>
 simp only[Ah,CA,decide_eq_true_eq] at hat;obtain ⟨k,rfl⟩:∃ k:Nat,at'=(k:Int):=⟨at'.toNat,by omega⟩;have hk:k<w.places.length:=by have:=hg.ok.p3;omega
 obtain ⟨hpo,hme,hro⟩:=hg.at hk;have hn:=(Eh (Bv hpo) (by decide) (by decide) (by decide)).1;obtain ⟨b,i,s1,s2,s3,b1,d1,b2,d2,b3,d3,G1,G2,G3,rfl,hld,_,_,e1,e2,e3,g1,g2,g3,nd,hF,put⟩:=H.place hk;have hFlo:∀ y∈G1++(G2++G3),lo<=y:=λy hy=>(hF y hy).1
 rw[Am,Ae hk,Ad,Bb,hld,Ad,Aa,Ab,Aa,Ab,Aa,e1,Aa,e2,Aa,e3,Aa,AM,Ag,cond_true,Cz hk];simp only[];generalize hp:w.places[k]=p at hpo hme hro hn hld e1 e2 e3 g1 g2 g3 put;have done:∀ (h1:Heap) (G:List Nat) (p':Place) (cs':List V),Mv h (G1++(G2++G3)) h1 G->RPlace false h1 cs' p' G->cs'.length=6 ->
   ∃ h2 F',st lo h1 b (i+k) 0 cs'=some h2/\Pw lo h2 (w.cs (some (b,i)) c1 a2 c2 a3 c3 a4 c4) (setP w k p') F'/\Mv h (F1++(F2++(F3++F4))) h2 F':=λh1 G p' cs' m r hc=>by
  obtain ⟨h2,F1',e,q,m2⟩:=put h1 G p' cs' m r hc;refine ⟨h2,_,e,?_,m2⟩;rw[<- Xk (k:=k) (p:=p')];exact q.at
 have hsame:setP w k p=w:=by unfold setP;rw[<- hp,zdS]
 obtain ⟨h9,F9,e9,W9,m9⟩:=done h _ p (p.cs b1 d1 b2 d2 b3 d3) (Mv.refl nd) ⟨_,_,_,G1,G2,G3,rfl,rfl,g1,g2,g3⟩ rfl;rw[hsame] at W9;simp only[Place.cs] at e9;cases h6:kind==6 with
 | true =>
  rw[Am,V1 g1 hn.1.1,Ac,Ao];cases hc:BJ p.chain num with
  | false =>
   have hs:C6 p ⟨kind,(k:Nat),num,key,text,gone⟩=none:=by simp only[C6,h6,hc,cond_true,cond_false]
   rw[Av,Ae hk,Ad,e9,Ad,hs];exact ⟨_,h9,F9,rfl,W9,m9,λ_=>rfl⟩
  | true =>
   obtain ⟨f,rfl⟩:∃ f:Nat,num=(f:Int):=by unfold BJ at hc;simp only[Ah,CA,decide_eq_true_eq] at hc;exact ⟨num.toNat,by omega⟩
   have hs:C6 p ⟨kind,(k:Nat),(f:Nat),key,text,gone⟩=some (D3 p f):=by simp only[C6,h6,hc,cond_true]
   obtain ⟨a6,c6,h5,h6',G,e5,e6,r6,m6⟩:=Zs (lo:=lo) g1 g2 g3 hpo hc nd hFlo H.hl;obtain ⟨h8,F8,e8,W8,m8⟩:=done h6' G _ _ m6 r6 rfl;simp only[Place.cs] at e6 e8;rw[Am,e5,Ac,AO,Aa,Af,Ag,e6,Ac,AO,Aa,Ab,Aa,Ab,Aa,Af,Aa,Af,Aa,Af,Aa,AM,Ag,Ae hk,Ad,e8,Ad,hs];exact ⟨_,h8,F8,rfl,W8,m8,λg=>by first | cases g | (simp at g)⟩
 | false =>
 rw[Av];cases h7:kind==7 with
 | true =>
  have ec:=Qd (lo:=lo) (h:=h) (p:=p) (k:=num) (a1:=b1) (c1:=d1) (a2:=b2) (c2:=d2) (a3:=b3) (c3:=d3) hn.1.1;simp only[Place.cs] at ec;rw[Am,ec,Ac,Ao];cases hc:Cm p num with
  | false =>
   have hs:C6 p ⟨kind,(k:Nat),num,key,text,gone⟩=none:=by simp only[C6,h6,h7,hc,cond_true,cond_false]
   rw[Av,Ae hk,Ad,e9,Ad,hs];exact ⟨_,h9,F9,rfl,W9,m9,λ_=>rfl⟩
  | true =>
   obtain ⟨f,rfl⟩:∃ f:Nat,num=(f:Int):=by unfold Cm Dh at hc;simp only[Ah,CA,decide_eq_true_eq] at hc;exact ⟨num.toNat,by omega⟩
   have hs:C6 p ⟨kind,(k:Nat),(f:Nat),key,text,gone⟩=some (C9 p f):=by simp only[C6,h6,h7,hc,cond_true,cond_false]
   obtain ⟨a5,c5,a6,c6,h5,h6',G,e5,e6,r6,m6⟩:=ZU (lo:=lo) g1 g2 g3 hpo hc nd hFlo H.hl;obtain ⟨h8,F8,e8,W8,m8⟩:=done h6' G _ _ m6 r6 rfl;simp only[Place.cs] at e6 e8;rw[Am,e5,Ac,AO,Aa,Af,Ag,e6,Ac,AO,Aa,Ab,Aa,Ab,Aa,Af,Aa,Af,Aa,Af,Aa,AM,Ag,Ae hk,Ad,e8,Ad,hs];exact ⟨_,h8,F8,rfl,W8,m8,λg=>by first | cases g | (simp at g)⟩
 | false =>
 rw[Av];cases h8:kind==8 with
 | true =>
  rw[Am];cases hc:Ej p.chain with
  | false =>
   have hs:C6 p ⟨kind,(k:Nat),num,key,text,gone⟩=none:=by simp only[C6,h6,h7,h8,hc,cond_true,cond_false]
   unfold Ej at hc;rw[decide_eq_false_iff_not] at hc;rw[Aj hc,Ae hk,Ad,e9,Ad,hs];exact ⟨_,h9,F9,rfl,W9,m9,λ_=>rfl⟩
  | true =>
   have hs:C6 p ⟨kind,(k:Nat),num,key,text,gone⟩=some (Jr p):=by simp only[C6,h6,h7,h8,hc,cond_true,cond_false]
   obtain ⟨a5,c5,h5,G,e5,r6,m6⟩:=ZG (lo:=lo) g1 g2 g3 hpo hc nd hFlo H.hl;obtain ⟨h8',F8,e8,W8,m8⟩:=done h5 G _ _ m6 r6 rfl;unfold Ej at hc;rw[decide_eq_true_eq] at hc;simp only[Place.cs,Jr] at e8;rw[Ak hc,e5,Ac,AO,Aa,Af,Ag,Ae hk,Ad,e8,Ad,hs];exact ⟨_,h8',F8,rfl,W8,m8,λg=>by first | cases g | (simp at g)⟩
 | false =>
 rw[Av,B8,Ac,Ao];cases hw:Ah num 0 2 with
 | false =>
  have hs:C6 p ⟨kind,(k:Nat),num,key,text,gone⟩=none:=by simp only[C6,h6,h7,h8,Ci,hw,zdn,cond_true,cond_false]
  rw[Av,Ae hk,Ad,e9,Ad,hs];exact ⟨_,h9,F9,rfl,W9,m9,λ_=>rfl⟩
 | true =>
  have hw':=hw;simp only[Ah,CA,decide_eq_true_eq] at hw';obtain ⟨f,rfl⟩:∃ f:Nat,num=(f:Int):=⟨num.toNat,by omega⟩;have h3:=(AI hpo).2.2.1;have ec:=Qc (lo:=lo) (f:=f) (a2:=b2) (c2:=d2) g1 g3 hpo (by omega) hn;simp only[Place.cs] at ec;rw[Am,ec,Ac,Ao];cases hc:IQ p f with
  | false =>
   have hs:C6 p ⟨kind,(k:Nat),(f:Nat),key,text,gone⟩=none:=by simp only[C6,h6,h7,h8,Ci,hw,Bb,hc,zdD,cond_true,cond_false]
   rw[Av,Ae hk,Ad,e9,Ad,hs];exact ⟨_,h9,F9,rfl,W9,m9,λ_=>rfl⟩
  | true =>
   have hct:Ci p (f:Int)=true:=by unfold Ci;rw[hw,Bb,hc];rfl
   have hs:C6 p ⟨kind,(k:Nat),(f:Nat),key,text,gone⟩=some (C8 p f):=by simp only[C6,h6,h7,h8,hct,cond_true,cond_false]
   obtain ⟨x1,y1,x2,y2,x3,y3,h5,G,e5,r6,m6⟩:=Zf (lo:=lo) g1 g2 g3 hpo hct nd hFlo H.hl;obtain ⟨h8',F8,e8,W8,m8⟩:=done h5 G _ _ m6 r6 rfl;simp only[Place.cs] at e5 e8;rw[Am,e5,Ac,AO,Aa,Ab,Aa,Ab,Aa,Af,Aa,Af,Aa,Af,Aa,AM,Ag,Ae hk,Ad,e8,Ad,hs];exact ⟨_,h8',F8,rfl,W8,m8,λg=>by first | cases g | (simp at g)⟩
end


variable {α:Type}{El:Rel α}{h:Heap}{a:Pq}{c:Nq}{F:List Nat}{l:List α}{xs:List (List V)}{Fs:List (List Nat)}
theorem YU (ok:El.Ok) {lo R ee bytes:Nat}{k:Nat} (hs:Sli false R ee El h [.sl R a l.length c] l F) (hk:k<l.length) (hnd:F.Nodup) (hlo:∀ b∈F,lo<=b) (hl:lo<=h.length) (hby:0<bytes) (hn:l.length*bytes<=140737488355328) :
  ∃ a' c' h' F',(∀ {T:Type} (K:V->Heap->Option T),(Aw a l.length c none (some (Iv (k:Nat))) none λa_0 n_1 c_2=>Au R (h ++ [.rows R ee false []]) (.sl R a_0 n_1 c_2) λx_3=>Dd lo ee R bytes (.sl R (some ((List.length h),0)) 0 (some 0)) x_3 (h ++ [.rows R ee false []]) λv_4 h_5=>eS R (v_4) λa_6 n_7 c_8 =>
    Aw a l.length c (some (Iv ((k+1:Nat):Int))) none none λa_9 n_10 c_11=>Au R h_5 (.sl R a_9 n_10 c_11) λx_12=>Dd lo ee R bytes (.sl R a_6 n_7 c_8) x_12 h_5 K)=K (.sl R a' (l.eraseIdx k).length c') h') /\
   Sli false R ee El h' [.sl R a' (l.eraseIdx k).length c'] (l.eraseIdx k) F'/\Mv h F h' F':=by
 have hbd:=(Sli.ok ok).bd _ _ _ _ hs;obtain ⟨Fs,nF,sF,own,cuts⟩:=Sli.parts hs hnd;obtain ⟨rP,_,eP,_,kP,_⟩:=cuts k (by omega);obtain ⟨_,rQ,_,eQ,_,kQ⟩:=cuts (k+1) (by omega);obtain ⟨nP,_,dPQ⟩:=EY (k:=k) nF;obtain ⟨_,nQ,_⟩:=EY (k:=k+1) nF;have inP:∀ y∈(Fs.take k).flatten,y∈Fs.flatten:=λy hy=>by rw[<- zc5 k Fs,zc9];simp[hy]
 have inQ:∀ y∈(Fs.drop (k+1)).flatten,y∈(Fs.drop k).flatten:=λy hy=>by
  have:Fs.drop (k+1)=(Fs.drop k).drop 1:=by rw[zdW]
  rw[this] at hy;rw[<- zc5 1 (Fs.drop k),zc9];exact zcx.2 (.inr hy)
 have inQ':∀ y∈(Fs.drop (k+1)).flatten,y∈Fs.flatten:=λy hy=>by rw[<- zc5 k Fs,zc9];simp[inQ y hy]
 have hFl:∀ y∈Fs.flatten,y<h.length:=λy hy=>hbd y (sF y hy);have htl:(l.take k).length=k:=by rw[zcS];omega
 have hdl:(l.drop (k+1)).length=l.length - (k+1):=by rw[zdB]
 obtain ⟨a3,c3,h3,F3,e3,r3,l3,fr3,sub3,nd3⟩:=L7 (lo:=lo) (R:=R) (e:=ee) (bytes:=bytes) ok eP nP (λy hy=>hFl y (inP y hy)) hby (by rw[htl];exact zcw (zc4 _ (by omega)) hn) hl;have hQ3:∀ y∈(Fs.drop (k+1)).flatten,y∉F3/\y<h3.length:=λy hy=>by
  have:=hFl y (inQ' y hy);refine ⟨λhm3=>?_,by omega⟩;rcases sub3 y hm3 with g | g
  ·exact dPQ y g y (inQ y hy) rfl
  ·omega
 have F3b:∀ y∈F3,y<h3.length:=(Sli.ok ok).bd _ _ _ _ r3;obtain ⟨a7,c7,h7,F7,e7,r7,l7,fr7,sub7,nd7⟩:=Lb (lo:=lo) (bytes:=bytes) ok.fr r3 (xs:=rQ) (ys:=l.drop (k+1)) (Gs:=Fs.drop (k+1)) (eQ.fr ok.fr λy hy=>fr3 y (hFl y (inQ' y hy))) hby (by rw[htl,hdl];exact zcw (zc4 _ (by omega)) hn) (λy hy=>by
   rcases sub3 y hy with g | g
   ·exact hlo y (sF y (inP y g))
   ·omega) (by omega) (by
   rw[zcy];refine ⟨nd3,nQ,λx hx y hy e=>?_⟩;subst e;exact (hQ3 x hy).1 hx) (λy hy=>by
   rcases zcx.1 hy with hy | hy
   ·exact F3b y hy
   ·exact (hQ3 y hy).2)
 have hel:(l.take k).length+(l.drop (k+1)).length=(l.eraseIdx k).length:=by rw[zdb hk,htl,hdl];omega
 have her:l.take k++l.drop (k+1)=l.eraseIdx k:=(List.eraseIdx_eq_take_drop_succ l k).symm;rw[hel] at e7 r7;rw[her] at r7;have mm0:Mv h [] (h ++ [.rows R ee false []]) []:=Mv.snoc;refine ⟨a7,c7,h7,F7,λK=>?_,r7,⟨by omega,λy hy hyF=>?_,nd7,λy hy=>?_⟩⟩
 ·rw[kP _ (λb i e=>mm0.fr b (hbd b (own b i e).1) (by simp)),e3,Af,kQ _ (λb i e=>fr3 b (hbd b (own b i e).1)),e7]
 ·have y3:y∉F3:=λhm3=>by
   rcases sub3 y hm3 with g | g
   ·exact hyF (sF y (inP y g))
   ·omega
  rw[fr7 y (by omega) y3,fr3 y hy]
 ·rcases sub7 y hy with g | g
  ·rcases zcx.1 g with g | g
   ·rcases sub3 y g with g | g
    ·exact .inl (sF y (inP y g))
    ·exact .inr (by omega)
   ·exact .inl (sF y (inQ' y g))
  ·exact .inr (by omega)
theorem Oo {h:Heap}:∀ {xs:List (List V)},EAll (flat id) h xs xs (xs.map λ_ => [])
 | []=>trivial
 | x :: xs=>⟨⟨rfl,rfl⟩,Oo⟩
theorem Q9 {rows:List (List V)} (hx:EAll (flat id) h rows xs Fs):rows=xs/\Fs.flatten = []:=by have:=hx.of_flat;simpa using this
theorem Sli.bare {R e n:Nat} (hs:Sli false R e El h [.sl R a n c] l F) :
  ∃ xs Fs F0,Sli false R e (flat id) h [.sl R a n c] xs F0/\EAll El h xs l Fs/\F=F0++Fs.flatten:=by
 obtain ⟨R1,a1,c1,e1,g⟩:=hs;injection e1 with e1 _;injection e1 with e0 e2 e4 e3;subst e2;subst e3;subst e4;cases a with
 | none =>obtain ⟨rfl,rfl,rfl⟩:=g;exact ⟨[],[],[],⟨R1,none,some 0,by rw[e0];rfl,rfl,rfl,rfl⟩,trivial,rfl⟩
 | some p =>
  obtain ⟨b,i⟩:=p;obtain ⟨_,rs,Fs,g1,g2,g3,g4,g5,rfl⟩:=g;have hlen:((rs.drop i).take l.length).length=l.length:=by rw[zcS,zdB];omega
  refine ⟨(rs.drop i).take l.length,Fs,[b],⟨R,some (b,i),c,by rw[hlen],rfl,rs,_,g1,by rw[hlen];exact g2,by rw[hlen];exact g3,g4,?_,by rw[(Q9 (Oo (h:=h) (xs:=(rs.drop i).take l.length))).2]⟩,g5,rfl⟩;rw[hlen];exact Oo
theorem Sli.cook {R e n:Nat}{F0:List Nat} (hs:Sli false R e (flat id) h [.sl R a n c] xs F0) (hx:EAll El h xs l Fs) :
  Sli false R e El h [.sl R a n c] l (F0++Fs.flatten):=by
 have hl:=hx.len;obtain ⟨R1,a1,c1,e1,g⟩:=hs;injection e1 with e1 _;injection e1 with e0 e2 e4 e3;subst e2;subst e3;subst e4;cases a with
 | none =>obtain ⟨rfl,rfl,rfl⟩:=g;have:l = []:=zcF hl.1.symm;subst this;have:Fs = []:=zcF hl.2;subst this;exact ⟨R1,none,some 0,by rw[e0];rfl,rfl,rfl,rfl⟩
 | some p =>obtain ⟨b,i⟩:=p;obtain ⟨_,rs,Gs,g1,g2,g3,g4,g5,rfl⟩:=g;obtain ⟨q1,q2⟩:=Q9 g5;refine ⟨R,some (b,i),c,by rw[hl.1],rfl,rs,Fs,g1,by rw[<- hl.1];exact g2,by rw[<- hl.1];exact g3,g4,?_,by rw[q2];rfl⟩;rw[<- hl.1,q1];exact hx


variable {f:Frame}
section
variable {lo:Nat}{h h':Heap}{w:World}{a1 a2 a3 a4 a:Pq}{c1 c2 c3 c4 c:Nq}{F1 F2 F3 F4:List Nat}
theorem O0 (hg:Fits w) (hf:I6 w.places f):thin f.ver/\Ck f.ver=true/\f.ver.tag.place=f.fro:=by
 obtain ⟨h1,h2,h3,h4,h5⟩:=hf;have hk:f.fro.toNat<w.places.length:=by have:=hg.ok.p3;omega
 obtain ⟨hpo,hme,_⟩:=hg.at hk;rw[GY hk] at h5;obtain ⟨hi,h5⟩:=Ea h5;obtain ⟨_,hl⟩:=Fl (AI hpo).2.2.2.2.2.1;obtain ⟨g1,g2,_⟩:=hl _ hi;rw[h5] at g1 g2;exact ⟨K0 g1,g1,by rw[g2,hme];omega⟩
theorem Vn {b:Pq}{d:Nq}{G:List Nat} (H:WR lo h w a1 c1 a2 c2 a3 c3 a4 c4 F1 F2 F3 F4) (hg:Fits w) (hf:I6 w.places f) (hv:RTags false h [.sl 2 b f.ver.past.length d] f.ver.past G) :
  ∃ h' F',(AB f.to w.places.length (eO a1 λw0=>eO (ld h w0.1 (w0.2+f.to.toNat) 0 6) λw0=>eC w0 λw0 p=>eI .i64 w0 λw0=>eC p λp q=>eI .i64 p λp=>eC q λq g=>eS 2 q λq i j=>eC g λg k=>eS 6 g λg m t=>eC k λk d0=>eS 1 k λk e f0=>eC d0 λd0 v0=>eBv d0 λd0=>eN v0 (Al (Ai lo 168 [.agg [Iv w0,Iv p,.sl 2 q i j,.sl 6 g m t,.sl 1 k e f0,.bool d0],Iv f.fro,Iv f.at',.agg [Iv f.ver.key,Iv f.ver.tag.time,Iv f.ver.tag.place,.sl 2 b f.ver.past.length d,.str f.ver.text,.bool f.ver.gone]] h) λw1 p=>eU w1 λw1=>eC w1 λw1 q=>eA w1 λw1=>eC w1 λw1 g=>eI .i64 w1 λw1=>eC g λg i=>eI .i64 g λg=>eC i λi j=>eS 2 i λi k m=>eC j λj t=>eS 6 j λj d e=>eC t λt f0=>eS 1 t λt v0 v1=>eC f0 λf0 v2=>eBv f0 λf0=>eN v2 (eC q λq v2=>eB q (eN v2 (AB f.to w.places.length (eO a1 λq=>eO (st lo p q.1 (q.2+f.to.toNat) 0 [Iv w1,Iv g,.sl 2 i k m,.sl 6 j d e,.sl 1 t v0 v1,.bool f0]) λw1=>some (V.tup [.agg (w.cs a1 c1 a2 c2 a3 c3 a4 c4),.bool true],w1)))) (eN v2 (some (V.tup [.agg (w.cs a1 c1 a2 c2 a3 c3 a4 c4),.bool true],p)))))))=some (V.tup [.agg (w.cs a1 c1 a2 c2 a3 c3 a4 c4),.bool true],h') /\
   Pw lo h' (w.cs a1 c1 a2 c2 a3 c3 a4 c4) (HC w f) F'/\Mv h (F1++(F2++(F3++F4))) h' F':=by
 obtain ⟨hth,hvo,hvt⟩:=O0 hg hf;obtain ⟨⟨h1,h1'⟩,⟨h2,h2'⟩,h3,h4,h5⟩:=hf;obtain ⟨fro,to,at',ver⟩:=f;simp only at *
 obtain ⟨k,rfl⟩:∃ k:Nat,to=(k:Int):=⟨to.toNat,by omega⟩;obtain ⟨j,rfl⟩:∃ j:Nat,fro=(j:Int):=⟨fro.toNat,by omega⟩;have hk:k<w.places.length:=by have:=hg.ok.p3;omega
 obtain ⟨hpo,hme,hro⟩:=hg.at hk;obtain ⟨b0,i,s1,s2,s3,b1,d1,b2,d2,b3,d3,G1,G2,G3,rfl,hld,_,_,e1,e2,e3,g1,g2,g3,nd,hF,put⟩:=H.place hk;have hx:HC w ⟨(j:Int),(k:Int),at',ver⟩=setP w k (Dk w.places[k] j at' ver):=by unfold HC;simp only[Bb,Cz hk]
 rw[hx];rw[Ae hk,Ad,Bb,hld,Ad,Aa,Ab,Aa,Ab,Aa,e1,Aa,e2,Aa,e3,Aa,AM,Ag];generalize hp:w.places[k]=p at hpo hme hro hld e1 e2 e3 g1 g2 g3 put;have ht:=Bv hpo;have h3g:=(AI hpo).2.2.1;have nd':=nd;rw[zcy,zcy] at nd';obtain ⟨nd1,⟨nd2,nd3,Po⟩,nd5⟩:=nd';have hj:j<p.got.length:=by omega
 obtain ⟨h5',F5,e5,r5,m5,x5⟩:=Tt (lo:=lo) (at':=at') (a1:=b1) (c1:=d1) (a2:=b2) (c2:=d2) g3 hv hj (by have:=(ht.got.2 _ (zcv hj)).1;omega) (by have:=hth.1;omega) nd3 (λy hy=>(hF y (by simp[hy])).1) H.hl;simp only[Place.cs,Ver.cs] at e5;have hc:D8 p (j:Int) at' ver=HV p j at' ver:=by unfold D8;rw[hvo,hvt,HE,Bb];simp[Ah];omega
 have hsame:setP w k p=w:=by unfold setP;rw[<- hp,zdS]
 rw[e5,Ac,Gn,Aa,AO,Aa,Ab,Aa,Ab,Aa,Af,Aa,Af,Aa,Af,Aa,AM,Ag,Aa,Ao];unfold Dk;rw[hc];cases hh:HV p j at' ver with
 | false =>have:=x5 hh;subst this;rw[Av,Ag,cond_false,hsame];exact ⟨_,_,rfl,H.at,Mv.refl H.nd⟩
 | true =>
  rw[hh,cond_true] at r5;have hb:∀ y∈G1++(G2++G3),y<h.length:=λy hy=>(hF y hy).2.1
  have mm:Mv h (G1++(G2++G3)) h5' (G1++(G2++F5)):=m5.mid Zr nd (λy hy=>hb y (by simp only[zcx] at hy ⊢;grind)) Zr;have hcs:(GG p j ver).cs b1 d1 b2 d2 b3 d3=p.cs b1 d1 b2 d2 b3 d3:=Xx;have rr:RPlace false h5' (p.cs b1 d1 b2 d2 b3 d3) (GG p j ver) (G1++(G2++F5)):=by
   rw[<- hcs];refine ⟨_,_,_,G1,G2,F5,rfl,rfl,m5.keep rnodes_ok g1 (λy hy hm=>nd5 y hy y (by simp[hm]) rfl),m5.keep rvers_ok g2 (λy hy hm=>Po y hy y hm rfl),?_⟩;have:(GG p j ver).got=p.got.set j (p.got[j] ++ [ver]):=by unfold GG;rw[Hf hj]
   rw[this,zc6];exact r5
  obtain ⟨h6,F6,e6,q6,m6⟩:=put h5' _ _ _ mm rr rfl;simp only[Place.cs] at e6;rw[Am,Ag,Ae hk,Ad,e6,Ad,cond_true,Bb];refine ⟨h6,_,rfl,?_,m6⟩;rw[<- Xk (k:=k) (p:=GG p j ver)];exact q6.at
def U3 (w:World) (e:Event):Option World:=bif e.kind==10 then Kd w e else FT w e
theorem VW {e:Event} (H:WR lo h w a1 c1 a2 c2 a3 c3 a4 c4 F1 F2 F3 F4) (hg:Fits w) :
  ∃ cs' h' F',Ai lo 125 [.agg (w.cs a1 c1 a2 c2 a3 c3 a4 c4),.agg e.cs] h=some (.tup [.agg cs',.bool (U3 w e).isSome],h')/\Pw lo h' cs' ((U3 w e).getD w) F'/\Mv h (F1++(F2++(F3++F4))) h' F'/\((U3 w e)=none->cs'=w.cs a1 c1 a2 c2 a3 c3 a4 c4):=by
 obtain ⟨kind,at',num,key,text,gone⟩:=e;suffices hk:∃ cs' h' F',_=some (V.tup [.agg cs',.bool (U3 w ⟨kind,at',num,key,text,gone⟩).isSome],h')/\Pw lo h' cs' ((U3 w ⟨kind,at',num,key,text,gone⟩).getD w) F'/\Mv h (F1++(F2++(F3++F4))) h' F'/\((U3 w ⟨kind,at',num,key,text,gone⟩)=none->cs'=w.cs a1 c1 a2 c2 a3 c3 a4 c4) from by obtain ⟨cs',h',F',e,hr⟩:=hk;exact ⟨cs',h',F',Uk e,hr⟩
 have hp3:=hg.ok.p3;have hn12:=hg.ok.n12;unfold U3;cases h10:kind==10 with
 | true =>
  rw[cond_true,Am,B8,Ac,Ao];unfold Kd;cases x1:Ah at' 0 2 with
  | false =>rw[zdn,cond_false,Av];exact ⟨_,h,_,rfl,H.at,Mv.refl H.nd,λ_=>rfl⟩
  | true =>
  rw[zcJ,Am,B8,Ac,Ao];cases x2:Ah num 0 2 with
  | false =>rw[zdn,cond_false,Av];exact ⟨_,h,_,rfl,H.at,Mv.refl H.nd,λ_=>rfl⟩
  | true =>
  rw[zcJ,Am];cases x3:at'==num with
  | true =>rw[zdi,zdn,cond_false,Am];exact ⟨_,h,_,rfl,H.at,Mv.refl H.nd,λ_=>rfl⟩
  | false =>
  rw[zdm,zcJ,Av];by_cases x4:(w.net.length:Int)<12
  ·simp only[Ah,CA,decide_eq_true_eq] at x1;obtain ⟨k,rfl⟩:∃ k:Nat,at'=(k:Int):=⟨at'.toNat,by omega⟩;have hk:k<w.places.length:=by omega
   obtain ⟨hpo,hme,hro⟩:=hg.at hk;obtain ⟨b0,i,s1,s2,s3,b1,d1,b2,d2,b3,d3,G1,G2,G3,rfl,hld,hc2,hc3,e1,e2,e3,g1,g2,g3,nd,hF,put⟩:=H.place hk;have hll:=(Bv hpo).log.1;rw[decide_eq_true x4,zcJ,Aj (by omega),Ae hk,Ad,Bb,hc3,Ad,Aa,Ag,e2,wr (by omega) (by omega),B8,Ac,Ao,GY hk];generalize hp:w.places[k]=p at hpo hme hro hld e1 e2 e3 g1 g2 g3 put hll;cases x5:Ah key 0 ((p.log.length:Int) - 1) with
   | false =>rw[cond_false,Av];exact ⟨_,h,_,rfl,H.at,Mv.refl H.nd,λ_=>rfl⟩
   | true =>
   simp only[Ah,CA,decide_eq_true_eq] at x5;obtain ⟨m,rfl⟩:∃ m:Nat,key=(m:Int):=⟨key.toNat,by omega⟩;have hm:m<p.log.length:=by omega
   obtain ⟨o,s,b,d,G,ha,ho,es,hpv,hGF⟩:=g2.get hm;have hth:=(Bv hpo).log.2 _ (zcv hm);obtain ⟨a5,c5,h5,F5,e5,r5,m5⟩:=Ep (lo:=lo) (v:=p.log[m]) hpv H.hl (by have:=hth.1;omega);have e5':=e5;simp only[Ver.cs] at e5';rw[cond_true,Am,Ae hk,Ad,hc3,Ad,Aa,Ag,e2,Ae hm,ha,Ad,Bb,ho,Ad,Aa,Ab,Aa,Ab,Aa,Ab,Aa,es,Aa,BH,Aa,AM,Ag,e5',Ac,AO,Aa,Ab,Aa,Ab,Aa,Ab,Aa,Af,Aa,BH,Aa,AM,Ag,A9,Cz hm];obtain ⟨⟨n1,n2,n3,n4⟩,_⟩:=Po H.nd;obtain ⟨a6,c6,h6,F6,e6,r6,m6⟩:=DC (lo:=lo) (bytes:=96) (e:=91) rframe_ok H.r3 (row := Iv (k:Nat) :: Iv num :: Iv (m:Nat) :: p.log[m].cs a5 c5) (x:=⟨(k:Nat),num,(m:Nat),p.log[m]⟩) (G:=F5) (h1:=h5 ++ [.rows 9 91 false [Iv (k:Nat) :: Iv num :: Iv (m:Nat) :: p.log[m].cs a5 c5]])
    ⟨_,rfl,_,rfl,Mv.snoc.keep0 rtags_ok r5⟩ (m5.trans (Mv.snoc' m5.nd)) n3 (λy hy=>H.ge y (by simp[hy])) H.hl (by decide) (by omega)
   simp only[Ver.cs] at e6;rw[e6,Af];have hnl:(w.net ++ [(⟨(k:Nat),num,(m:Nat),p.log[m]⟩:Frame)]).length=w.net.length+1:=by simp
   rw[<- hnl] at r6;obtain ⟨q,mq⟩:=H.up3 m6 r6;refine ⟨_,h6,_,?_,q.at,mq,λg=>by first | cases g | (simp at g)⟩;rw[<- hnl];rfl
  ·rw[decide_eq_false x4,zdn,cond_false,Ak (by omega)];exact ⟨_,h,_,rfl,H.at,Mv.refl H.nd,λ_=>rfl⟩
 | false =>
 rw[cond_false,Av,wr (by omega) (by omega),B8,Ac,Ao];unfold FT;cases x1:Ah at' 0 ((w.net.length:Int) - 1) with
 | false =>rw[cond_false,Av];exact ⟨_,h,_,rfl,H.at,Mv.refl H.nd,λ_=>rfl⟩
 | true =>
 simp only[Ah,CA,decide_eq_true_eq] at x1;obtain ⟨j,rfl⟩:∃ j:Nat,at'=(j:Int):=⟨at'.toNat,by omega⟩;have hj:j<w.net.length:=by omega
 obtain ⟨⟨n1,n2,n3,n4⟩,_⟩:=Po H.nd;obtain ⟨xs,Fs,F0,hraw,hall,rfl⟩:=H.r3.bare;have hxl:w.net.length=xs.length:=hraw.val;obtain ⟨row,Fj,hr,hFj,⟨vs,rfl,hv⟩⟩:=hall.get (Cz hj);obtain ⟨s,b,d,rfl,es,hpv⟩:=hv.form;obtain ⟨o,row',_,ha,hld,⟨rfl,_⟩,_⟩:=hraw.read (show j<xs.length by omega);have hro:xs[j]'(by omega) = Iv w.net[j].fro :: Iv w.net[j].to :: Iv w.net[j].at' :: [Iv w.net[j].ver.key,Iv w.net[j].ver.tag.time,Iv w.net[j].ver.tag.place,s,.str w.net[j].ver.text,.bool w.net[j].ver.gone]:=by rw[Cz (by omega)] at hr;injection hr
 have hfi:=hg.ok.net _ (zcv hj);have hld9:ld h o.1 (o.2+j) 0 9=some (Iv w.net[j].fro :: Iv w.net[j].to :: Iv w.net[j].at' :: [Iv w.net[j].ver.key,Iv w.net[j].ver.tag.time,Iv w.net[j].ver.tag.place,s,.str w.net[j].ver.text,.bool w.net[j].ver.gone]):=by rw[hld,id,hro];exact I3 rfl
 rw[Am,Ae hj,ha,Ad,Bb,hld9,Ad,Aa,Ab,Aa,Ab,Aa,Ab,Aa,Ab,Aa,Ab,Aa,Ab,Aa,es,Aa,BH,Aa,AM,Ag,cond_true,Cz hj,<- ha];simp only[];cases h13:kind==13 with
 | true =>
  have h12:(kind==12)=false:=by rw[beq_iff_eq] at h13;subst h13;rfl
  rw[Am,h12,Av];obtain ⟨h',F',e,W,m⟩:=Vn H hg hfi hpv;refine ⟨_,h',F',e,?_,m,λg=>by first | cases g | (simp at g)⟩;simpa using W
 | false =>
  rw[zcy] at n3;obtain ⟨n5,n6,n7⟩:=n3;rw[hxl] at hraw;obtain ⟨a6,c6,h6,F6,e6,r6,m6⟩:=YU (k:=j) (lo:=lo) (bytes:=96) DN hraw (by omega) n5 (λy hy=>H.ge y (by simp[hy])) H.hl (by decide) (by omega);rw[<- hxl] at e6;have hbd:∀ y∈F0++Fs.flatten,y<h.length:=H.lt.2.2.1;have hel:(xs.eraseIdx j).length=(w.net.eraseIdx j).length:=by rw[zdb hj,zdb (by omega)];omega
  obtain ⟨k1,k2⟩:=Jg hFj n6;have all6:=(hall.fr rframe_ok.fr λy hy=>m6.fr y (hbd y (by simp[hy])) λhm=>n7 y hm y hy rfl).erase j;have r3':=r6.cook all6;rw[hel] at r3' e6;have mm:Mv h (F0++Fs.flatten) h6 (F6++Fs.flatten):=m6.mid (.refl _) (by rw[zcy];exact ⟨n5,n6,n7⟩) (λy hy=>hbd y (by simp[hy])) (.refl _);have nd6:=mm.nd;rw[zcy] at nd6;have mm':Mv h (F0++Fs.flatten) h6 (F6++(Fs.eraseIdx j).flatten):=mm.lean (by
   rw[zcy];exact ⟨nd6.1,k1,λx hx y hy=>nd6.2.2 x hx y (k2 y hy).1⟩) λy hy=>by
    rcases zcx.1 hy with hy | hy
    ·simp[hy]
    ·simp[(k2 y hy).1]
  obtain ⟨q,mq⟩:=H.up3 mm' r3';have hpv6:=m6.keep rtags_ok hpv λy hy hm=>n7 y hm y (FS hFj hy) rfl;rw[show Z3 false=91 from rfl] at e6;rw[Av,Ar (by omega),e6,Af];cases h12:kind==12 with
  | true =>rw[Am];exact ⟨_,h6,_,rfl,q.at,mq,λg=>by first | cases g | (simp at g)⟩
  | false =>rw[Av];have hgn:Fits (setN w (w.net.eraseIdx j)):=⟨hg.ok.netN (zcw (zdV _ _) hn12) λx hx=>hg.ok.net x (zdy hx)⟩;obtain ⟨h',F',e,W,m⟩:=Vn (w:=setN w (w.net.eraseIdx j)) q hgn hfi hpv6;refine ⟨_,h',F',e,?_,mq.trans m,λg=>by first | cases g | (simp at g)⟩;simpa using W
end


variable {t:Tag}{l:List Tag}
section
variable {lo:Nat}{h h':Heap}{F F':List Nat}{a a':Pq}{c c':Nq}
theorem Qg {s:Tag}:Ai lo 206 [.agg [Iv s.time,Iv s.place],.agg [Iv t.time,Iv t.place]] h=some (.agg [Iv (E4 s t).time,Iv (E4 s t).place],h):=by unfold E4 CT;refine Ut (h':=h) ?_;rw[Cf,Ac,Ao];cases Fu s.time s.place t.time t.place<;>rfl
theorem KY {k:Nat} (hk:k<l.length):Eo l k t=l.set k (E4 l[k] t):=by unfold Eo;rw[Cz hk]
theorem XZ {k:Nat}:(Eo l k t).length=l.length:=by unfold Eo;split<;>simp
theorem Ko {k:Nat} (hs:RTags false h [.sl 2 a l.length c] l F) (hk:k<l.length) (hl:lo<=h.length) (hn:l.length<=1048576) :
  ∃ a' c' h' F',Ai lo 189 [.agg [.sl 2 a l.length c],Iv (k:Nat),.agg [Iv t.time,Iv t.place]] h=some (.agg [.sl 2 a' l.length c'],h')/\RTags false h' [.sl 2 a' l.length c'] (Eo l k t) F'/\Mv h [] h' F':=by
 obtain ⟨a1,c1,h1,F1,e1,r1,m1⟩:=Lo (lo:=lo) (h:=h) (l:=l) hl hn;obtain ⟨b,i,rs,row,G,ha,hbF,hbG,hb,hrow,⟨rfl,rfl⟩,hGF,hGn,_,put⟩:=r1.at (lo:=lo) DN hk m1.nd (λy hy=>m1.ge hl (by simp) y hy);have hld:ld h1 b (i+k) 0 2=some [Iv l[k].time,Iv l[k].place]:=by rw[Bx hb hrow];rfl
 obtain ⟨h2,F2,e2,r2,m2,_⟩:=put h1 [] 0 (E4 l[k] t).cs (E4 l[k] t).cs (E4 l[k] t) Mv.nil rfl ⟨rfl,rfl⟩;subst ha;refine ⟨some (b,i),c1,h2,F2,Sg ?_,by rw[KY hk];exact r2,m1.trans m2⟩;simp only[Tag.cs] at e2;rw[RTags.rows (Mv.snoc.keep0 rtags_ok hs),e1,Af,Ae hk,Ad,Bb,hld,Ad,Aa,Ab,Aa,Ab,Ag,Qg,Ac,AO,Aa,Ab,Aa,Ab,Ag,Ae hk,Ad,e2,Ad]
theorem UR {p q:List Tag} (hs:RTags false h [.sl 2 a p.length c] p F) (hs':RTags false h [.sl 2 a' q.length c'] q F') (hp:p.length=4) (hq:q.length=4) (hl:lo<=h.length) :
  ∃ q5 a5 c5 h' F5,Ai lo 190 [.agg [.sl 2 a p.length c],.agg [.sl 2 a' q.length c']] h=some (.agg [.sl q5 a5 (Do p q).length c5],h')/\RTags false h' [.sl q5 a5 (Do p q).length c5] (Do p q) F5/\Mv h [] h' F5:=by
 have hj:(Do p q).length=4:=by unfold Do;rw[zd5];omega
 obtain ⟨q5,a5,c5,h',F5,e,r,m⟩:=IB (El:=flat Tag.cs) DN (h:=h) (l:=Do p q) (f:=id) (lo:=lo) (R:=2) (e:=30) (bytes:=16) hl (by decide) (by omega)
  (λi q5 a1 n1 c1 hh=>Dw lo (i:Nat) a p.length c a' q.length c' 0 none 0 (some 0) q5 a1 n1 c1 hh) (λi hi q5 a1 n1 c1 hh hm=>by
   obtain ⟨o,ha,ho⟩:=(hm.keep0 rtags_ok hs).get (show i<p.length by omega);obtain ⟨o',ha',ho'⟩:=(hm.keep0 rtags_ok hs').get (show i<q.length by omega);have hji:(Do p q)[i]=E4 p[i] q[i]:=List.getElem_zipWith;refine ⟨[Iv (E4 p[i] q[i]).time,Iv (E4 p[i] q[i]).place],[],hh ++ [.rows 2 30 false [[Iv (E4 p[i] q[i]).time,Iv (E4 p[i] q[i]).place]]],⟨by rw[id,hji];rfl,rfl⟩,Mv.snoc,?_⟩;rw[Dw.e,Ak (by omega),Ae (show i<p.length by omega),ha,Ad,Bb,ho,Ad,Aa,Ab,Aa,Ab,Ag,Ae (show i<q.length by omega),ha',Ad,ho',Ad,Aa,Ab,Aa,Ab,Ag,Qg,Ac,AO,Aa,Ab,Aa,Ab,Ag,A9,Ar (by omega)])
 rw[List.map_id] at r;refine ⟨q5,a5,c5,h',F5,Sk ?_,r,m⟩;refine e.trans ?_;rw[Dw.e,Aj (by omega)]
end
section
variable {lo:Nat}{h h':Heap}{w:World}{a1 a2 a3 a4 a:Pq}{c1 c2 c3 c4 c:Nq}{F1 F2 F3 F4:List Nat}
theorem Gc {d:Done} (H:WR lo h w a1 c1 a2 c2 a3 c3 a4 c4 F1 F2 F3 F4) (h80:w.hist.length<=1000) :
  ∃ a5 c5 h' G,Ai lo 186 [.agg (w.cs a1 c1 a2 c2 a3 c3 a4 c4),Iv d.sess,Iv d.kind,Iv d.key,.agg [Iv d.tag.time,Iv d.tag.place]] h=some (.agg ((World.mk w.places w.sess w.net (w.hist ++ [d])).cs a1 c1 a2 c2 a3 c3 a5 c5),h') /\
   WR lo h' ⟨w.places,w.sess,w.net,w.hist ++ [d]⟩ a1 c1 a2 c2 a3 c3 a5 c5 F1 F2 F3 G/\Mv h (F1++(F2++(F3++F4))) h' (F1++(F2++(F3++G)))/\∀ y∈F1,h'[y]?=h[y]?:=by
 obtain ⟨⟨n1,n2,n3,n4⟩,_,_,d14,_⟩:=Po H.nd;obtain ⟨a6,c6,h6,F6,e6,r6,m6⟩:=DC (lo:=lo) (bytes:=40) (e:=32) (El:=flat Done.cs) DN H.r4 (row:=d.cs) (x:=d) (G := []) (h1:=h ++ [.rows 5 32 false [d.cs]])
  ⟨rfl,rfl⟩ Mv.snoc n4 (λy hy=>H.ge y (by simp[hy])) H.hl (by decide) (by omega)
 have hnl:(w.hist ++ [d]).length=w.hist.length+1:=by simp
 rw[<- hnl] at r6 e6;obtain ⟨q,mq⟩:=H.up4 m6 r6;refine ⟨a6,c6,h6,F6,R4 ?_,q,mq,λy hy=>m6.fr y (H.lt.1 y hy) (d14 y hy)⟩;simp only[Done.cs] at e6;rw[A9,e6,Af]
theorem WR.sess (H:WR lo h w a1 c1 a2 c2 a3 c3 a4 c4 F1 F2 F3 F4) {k:Nat} (hk:k<w.sess.length):∃ b i v b1 d1 G,a2=some (b,i) /\
  ld h b (i+k) 0 5=some [Iv w.sess[k].place,v,Iv w.sess[k].wait.time,Iv w.sess[k].wait.place,Iv w.sess[k].key]/\ld h b (i+k) 1 1=some [v]/\ld h b (i+k) 2 1=some [Iv w.sess[k].wait.time] /\
  (∀ {R':Type} (K:Pq->Nat->Nq->Option R'),eS 2 v K=K b1 w.sess[k].past.length d1)/\RTags false h [.sl 2 b1 w.sess[k].past.length d1] w.sess[k].past G/\RTags false h [v] w.sess[k].past G/\G.Nodup /\
  ∀ h1 G1 j cs row' s',Mv h G h1 G1->paste [Iv w.sess[k].place,v,Iv w.sess[k].wait.time,Iv w.sess[k].wait.place,Iv w.sess[k].key] j cs=some row'->RSess false h1 row' s' G1 ->
   ∃ h2 F2',st lo h1 b (i+k) j cs=some h2/\WR lo h2 ⟨w.places,w.sess.set k s',w.net,w.hist⟩ a1 c1 a2 c2 a3 c3 a4 c4 F1 F2' F3 F4/\Mv h (F1++(F2++(F3++F4))) h2 (F1++(F2'++(F3++F4)))/\∀ y∈F1,h2[y]?=h[y]?:=by
 obtain ⟨⟨_,n2,_,_⟩,d12,_⟩:=Po H.nd;obtain ⟨b,i,rs,row,G,ha,hbF,hbG,hb,hrow,hel,hGF,hGn,_,put⟩:=Sli.at (lo:=lo) Jm H.r2 hk n2 (λy hy=>H.ge y (by simp[hy]));obtain ⟨v,rfl,hv⟩:=hel;obtain ⟨b1,d1,es,hv'⟩:=hv.form;refine ⟨b,i,v,b1,d1,G,ha,by rw[Bx hb hrow];exact I3 rfl,by rw[Bx hb hrow];rfl,by rw[Bx hb hrow];rfl,es,hv',hv,hGn,λh1 G1 j cs row' s' m hp hx=>?_⟩;obtain ⟨h2,F',e,r,m2,_⟩:=put h1 G1 j cs row' s' m hp hx;have hlen:(w.sess.set k s').length=w.sess.length:=by simp
 rw[<- hlen] at r;obtain ⟨q1,q2⟩:=H.up2 m2 r;exact ⟨h2,F',e,q1,q2,λy hy=>m2.fr y (H.lt.1 y hy) (d12 y hy)⟩
theorem WR.wait (H:WR lo h w a1 c1 a2 c2 a3 c3 a4 c4 F1 F2 F3 F4) {k:Nat} (hk:k<w.sess.length) (t:Tag) (key:Int) :
  ∃ h' F2',(∀ {T:Type} (K:Heap->Option T),(AB (k:Nat) w.sess.length (eO a2 λv=>eO (st lo h v.1 (v.2+k) 2 [Iv t.time,Iv t.place]) λv=>AB (k:Nat) w.sess.length (eO a2 λp=>eO (st lo v p.1 (p.2+k) 4 [Iv key]) K)))=K h') /\
   WR lo h' ⟨w.places,w.sess.set k ⟨w.sess[k].place,w.sess[k].past,t,key⟩,w.net,w.hist⟩ a1 c1 a2 c2 a3 c3 a4 c4 F1 F2' F3 F4/\Mv h (F1++(F2++(F3++F4))) h' (F1++(F2'++(F3++F4))):=by
 obtain ⟨b,i,v,b1,d1,G,ha,_,_,_,es,hv',hv,hGn,put⟩:=H.sess hk;obtain ⟨h2,F5,e2,q2,m2,_⟩:=put h G 2 [Iv t.time,Iv t.place] [Iv w.sess[k].place,v,Iv t.time,Iv t.place,Iv w.sess[k].key] ⟨w.sess[k].place,w.sess[k].past,t,w.sess[k].key⟩ (Mv.refl hGn) rfl ⟨v,rfl,hv⟩;have hk2:k<(w.sess.set k ⟨w.sess[k].place,w.sess[k].past,t,w.sess[k].key⟩).length:=by simpa using hk
 obtain ⟨b',i',v',b1',d1',G',ha',_,_,_,es2,hv2',hv2,hGn2,put2⟩:=q2.sess hk2;simp only[zdK] at hv2 put2;obtain ⟨h3,F6,e3,q3,m3,_⟩:=put2 h2 G' 4 [Iv key] [Iv w.sess[k].place,v',Iv t.time,Iv t.place,Iv key] ⟨w.sess[k].place,w.sess[k].past,t,key⟩ (Mv.refl hGn2) rfl ⟨v',rfl,hv2⟩;rw[ha] at ha';injection ha' with ha';injection ha' with x1 x2;subst x1;subst x2;refine ⟨h3,F6,λK=>?_,by simpa using q3,m2.trans m3⟩;rw[Ae hk,ha,Ad,e2,Ad,Ae hk,Ad,e3,Ad]
theorem WR.past (H:WR lo h w a1 c1 a2 c2 a3 c3 a4 c4 F1 F2 F3 F4) {k:Nat} (hk:k<w.sess.length) {h1:Heap}{G1:List Nat} (m:Mv h [] h1 G1) {q n:Nat} (r:RTags false h1 [.sl q a n c] l G1) :
  ∃ h' F2',(∀ {T:Type} (K:Heap->Option T),(AB (k:Nat) w.sess.length (eO a2 λv=>eO (st lo h1 v.1 (v.2+k) 1 [.sl q a n c]) K))=K h') /\
   WR lo h' ⟨w.places,w.sess.set k ⟨w.sess[k].place,l,w.sess[k].wait,w.sess[k].key⟩,w.net,w.hist⟩ a1 c1 a2 c2 a3 c3 a4 c4 F1 F2' F3 F4/\Mv h (F1++(F2++(F3++F4))) h' (F1++(F2'++(F3++F4)))/\∀ y∈F1,h'[y]?=h[y]?:=by
 obtain ⟨b,i,v,b1,d1,G,ha,_,_,_,es,hv',hv,hGn,put⟩:=H.sess hk;obtain ⟨h2,F5,e2,q2,m2,s2⟩:=put h1 G1 1 [.sl q a n c] [Iv w.sess[k].place,.sl q a n c,Iv w.sess[k].wait.time,Iv w.sess[k].wait.place,Iv w.sess[k].key] ⟨w.sess[k].place,l,w.sess[k].wait,w.sess[k].key⟩ (m.wide (by simp)) rfl ⟨_,rfl,r⟩;refine ⟨h2,F5,λK=>?_,q2,m2,s2⟩;rw[Ae hk,ha,Ad,e2,Ad]
end


section
variable {lo:Nat}{h h':Heap}{w:World}{a1 a2 a3 a4 a:Pq}{c1 c2 c3 c4 c:Nq}{F1 F2 F3 F4:List Nat}
theorem WR.stay (H:WR lo h w a1 c1 a2 c2 a3 c3 a4 c4 F1 F2 F3 F4) {X:Option World} (hX:X=none) :
  ∃ cs' h' F',some (V.tup [.agg (w.cs a1 c1 a2 c2 a3 c3 a4 c4),.bool false],h)=some (V.tup [.agg cs',.bool X.isSome],h')/\Pw lo h' cs' (X.getD w) F'/\Mv h (F1++(F2++(F3++F4))) h' F'/\((X)=none->cs'=w.cs a1 c1 a2 c2 a3 c3 a4 c4):=by
 subst hX;exact ⟨_,h,_,rfl,H.at,Mv.refl H.nd,λ_=>rfl⟩
theorem Tr {kind num key:Int}{text:ByteArray}{gone:Bool}{i:Nat} (H:WR lo h w a1 c1 a2 c2 a3 c3 a4 c4 F1 F2 F3 F4) (hg:Fits w) (ht:text.size<=1048576) (hi:i<w.sess.length) :
  ∃ cs' h' F',Ai lo 155 [.agg (w.cs a1 c1 a2 c2 a3 c3 a4 c4),.agg [Iv kind,Iv (i:Nat),Iv num,Iv key,.str text,.bool gone]] h=some (.tup [.agg cs',.bool (DF w i w.sess[i] ⟨kind,(i:Nat),num,key,text,gone⟩).isSome],h') /\
   Pw lo h' cs' ((DF w i w.sess[i] ⟨kind,(i:Nat),num,key,text,gone⟩).getD w) F'/\Mv h (F1++(F2++(F3++F4))) h' F'/\((DF w i w.sess[i] ⟨kind,(i:Nat),num,key,text,gone⟩)=none->cs'=w.cs a1 c1 a2 c2 a3 c3 a4 c4):=by
 suffices hk:∃ cs' h' F',_=some (V.tup [.agg cs',.bool (DF w i w.sess[i] ⟨kind,(i:Nat),num,key,text,gone⟩).isSome],h')/\Pw lo h' cs' ((DF w i w.sess[i] ⟨kind,(i:Nat),num,key,text,gone⟩).getD w) F'/\Mv h (F1++(F2++(F3++F4))) h' F'/\((DF w i w.sess[i] ⟨kind,(i:Nat),num,key,text,gone⟩)=none->cs'=w.cs a1 c1 a2 c2 a3 c3 a4 c4) from by obtain ⟨cs',h',F',e,hr⟩:=hk;exact ⟨cs',h',F',Rk e,hr⟩
 have hso:=hg.ok.sess _ (zcv hi);obtain ⟨t1,t2,t3,t4,t5,t6⟩:=Bp hso;have h80:=hg.ok.h80;obtain ⟨k,hpl⟩:∃ k:Nat,w.sess[i].place=(k:Int):=⟨w.sess[i].place.toNat,by omega⟩;have hk:k<w.places.length:=by have:=hg.ok.p3;omega
 obtain ⟨hpo,hme,hro⟩:=hg.at hk;have hn:=(Eh (Bv hpo) (by decide) (by decide) (by decide)).1;have hX:DF w i w.sess[i] ⟨kind,(i:Nat),num,key,text,gone⟩=bif !decide (w.sess[i].wait.time>0)&&(A6 w.places[k] key text gone w.sess[i].past&&Ct w 1) then
   some (setS (setP w k (Ee w.places[k] key text gone w.sess[i].past).1) i ⟨w.sess[i].place,w.sess[i].past,(Ee w.places[k] key text gone w.sess[i].past).2,key⟩ [⟨i,1,key,(Ee w.places[k] key text gone w.sess[i].past).2⟩]) else none:=by
  unfold DF;rw[hpl,Bb,Cz hk]
 obtain ⟨b',i',v,e1',d1',Gs,rfl,hld',_,_,es',hv',_,hGn,puts⟩:=H.sess hi;obtain ⟨b,j,s1,s2,s3,b1,d1,b2,d2,b3,d3,G1,G2,G3,rfl,hld,_,_,e1,e2,e3,g1,g2,g3,nd,hF,put⟩:=H.place hk;have hFlo:∀ y∈G1++(G2++G3),lo<=y:=λy hy=>(hF y hy).1
 generalize hXX:DF w i w.sess[i] ⟨kind,(i:Nat),num,key,text,gone⟩=X at hX;rw[Ae hi,Ad,Bb,hld',Ad,Aa,Ab,Aa,es',Aa,Ab,Aa,Ab,Aa,Ab,Ag,hpl,Ae hk,Ad,Bb,hld,Ad,Aa,Ab,Aa,Ab,Aa,e1,Aa,e2,Aa,e3,Aa,AM,Ag];by_cases hw:w.sess[i].wait.time>0
 ·rw[Ak hw];exact H.stay (by rw[hX,decide_eq_true hw];rfl)
 rw[Aj hw,B8,Ac,Ao];rw[decide_eq_false hw,zdm,zcJ] at hX;cases hwk:Ah key 0 3 with
 | false=>rw[Av];exact H.stay (by rw[hX];unfold A6;rw[hwk];rfl)
 | true =>
 rw[Am,RK ht,Ac,Ao];cases hto:Gy text with
 | false=>rw[Av];exact H.stay (by rw[hX];unfold A6;rw[hwk,hto];rfl)
 | true =>
 rw[Am];have ec:=V0 (lo:=lo) (a2:=b2) (c2:=d2) (a3:=b3) (c3:=d3) g1 hv' hpo t2 hn;simp only[Place.cs] at ec;have fin:A6 w.places[k] key text gone w.sess[i].past=true->Ct w 1=true->X=some ⟨w.places.set k (BF (EW w.places[k] 0 (AQ w.places[k] w.sess[i].past) (DU w.places[k] key text gone w.sess[i].past))),w.sess.set i ⟨w.sess[i].place,w.sess[i].past,⟨AQ w.places[k] w.sess[i].past,w.places[k].me⟩,key⟩,w.net,w.hist ++ [⟨i,1,key,⟨AQ w.places[k] w.sess[i].past,w.places[k].me⟩⟩]⟩:=λq1 q2=>by rw[hX,q1,q2];unfold Ee;rw[hpo,q1];rfl
 cases gone with
 | false =>
  rw[Av,ec,Ac,Ao];cases hm:HB w.places[k] w.sess[i].past with
  | false=>rw[Av];exact H.stay (by rw[hX];unfold A6;rw[hm];simp)
  | true =>
  have hcw:A6 w.places[k] key text false w.sess[i].past=true:=by unfold A6;rw[hwk,hto,t2,hm];simp
  rw[Am];by_cases hh:(w.hist.length:Int)>=80
  ·rw[Ak hh];exact H.stay (by rw[hX,show Ct w 1=false from decide_eq_false (by omega),zdD];rfl)
  have hX2:=fin hcw (decide_eq_true (by omega));obtain ⟨a6,c6,h5,F5,e5,⟨_,_,_,_,_,_,_,r5⟩,m5⟩:=MD (lo:=lo) g1 g2 g3 hv' hpo hcw nd hFlo H.hl;obtain ⟨h6,F6,e6,q6,m6⟩:=put h5 _ _ _ m5 r5 rfl;obtain ⟨h7,F7,e7,q7,m7⟩:=q6.wait hi ⟨AQ w.places[k] w.sess[i].past,w.places[k].me⟩ key;obtain ⟨a8,c8,h8,F8,e8,q8,m8,_⟩:=Gc (d:=⟨i,1,key,⟨AQ w.places[k] w.sess[i].past,w.places[k].me⟩⟩) q7 (by show w.hist.length<=1000;omega);have W:=q8.at;simp only[setP,World.cs,zc6] at e7 e8 W;simp only[Place.cs] at e5 e6;rw[Aj hh,e5,Ac,Gn,Aa,AO,Aa,Ab,Aa,Ab,Aa,Af,Aa,Af,Aa,Af,Aa,AM,Ag,Aa,AO,Aa,Ab,Aa,Ab,Ag,Ag,Ae hk,Ad,e6,Ad];rw[e7,e8,Ac,AO,Aa,Af,Aa,Af,Aa,Af,Aa,Af,Ag,hX2];exact ⟨_,h8,_,rfl,W,(m6.trans m7).trans m8,λg=>by first | cases g | (simp at g)⟩
 | true =>
  rw[Am,LR];cases hnt:Iz text with
  | false=>rw[Av];exact H.stay (by rw[hX];unfold A6;rw[hwk,hto,hnt];rfl)
  | true =>
  rw[Am,ec,Ac,Ao];cases hm:HB w.places[k] w.sess[i].past with
  | false=>rw[Av];exact H.stay (by rw[hX];unfold A6;rw[hm];simp)
  | true =>
  have hcw:A6 w.places[k] key text true w.sess[i].past=true:=by unfold A6;rw[hwk,hto,t2,hm,hnt];simp
  rw[Am];by_cases hh:(w.hist.length:Int)>=80
  ·rw[Ak hh];exact H.stay (by rw[hX,show Ct w 1=false from decide_eq_false (by omega),zdD];rfl)
  have hX2:=fin hcw (decide_eq_true (by omega));obtain ⟨a6,c6,h5,F5,e5,⟨_,_,_,_,_,_,_,r5⟩,m5⟩:=MD (lo:=lo) g1 g2 g3 hv' hpo hcw nd hFlo H.hl;obtain ⟨h6,F6,e6,q6,m6⟩:=put h5 _ _ _ m5 r5 rfl;obtain ⟨h7,F7,e7,q7,m7⟩:=q6.wait hi ⟨AQ w.places[k] w.sess[i].past,w.places[k].me⟩ key;obtain ⟨a8,c8,h8,F8,e8,q8,m8,_⟩:=Gc (d:=⟨i,1,key,⟨AQ w.places[k] w.sess[i].past,w.places[k].me⟩⟩) q7 (by show w.hist.length<=1000;omega);have W:=q8.at;simp only[setP,World.cs,zc6] at e7 e8 W;simp only[Place.cs] at e5 e6;rw[Aj hh,e5,Ac,Gn,Aa,AO,Aa,Ab,Aa,Ab,Aa,Af,Aa,Af,Aa,Af,Aa,AM,Ag,Aa,AO,Aa,Ab,Aa,Ab,Ag,Ag,Ae hk,Ad,e6,Ad];rw[e7,e8,Ac,AO,Aa,Af,Aa,Af,Aa,Af,Aa,Af,Ag,hX2];exact ⟨_,h8,_,rfl,W,(m6.trans m7).trans m8,λg=>by first | cases g | (simp at g)⟩
end


variable {l:List UInt8}{ro:Bool}{xs:List ByteArray}{cc:Nq}
def zcg (x:UInt8):List V := [.int .u8 (x.toNat:Int)]
abbrev RBytes:Rel (List UInt8):=Sli true 1 0 (flat zcg)
structure Rd (lo:Nat) (h:Heap) (b n:Nat):Prop where
 ge:lo<=b
 ex:∃ a code c p Fc,h[b]?=some (.rows 2 109 false [[.sl 1 a code.length c,Iv ((p:Nat):Int)]])/\RBytes h [.sl 1 a code.length c] code Fc/\(∀ y∈Fc,y<lo)/\p<=n/\code.length<=1048576
section
variable {lo:Nat}{h h':Heap}{F F':List Nat}{b n:Nat}
theorem Rd.lt (r:Rd lo h b n):b<h.length:=by obtain ⟨_,a,code,c,p,Fc,hb,_⟩:=r;exact (Ea hb).1
theorem Rd.up {n':Nat} (r:Rd lo h b n) (hn:n<=n'):Rd lo h b n':=by obtain ⟨hge,a,code,c,p,Fc,hb,hc,hF,hp,hl⟩:=r;exact ⟨hge,a,code,c,p,Fc,hb,hc,hF,by omega,hl⟩
theorem Rd.keep (r:Rd lo h b n) (m:Mv h F h' F') (hb:b∉F) (hF:∀ y∈F,lo<=y):Rd lo h' b n:=by have hlt:=r.lt;obtain ⟨hge,a,code,c,p,Fc,e,hc,hFc,hp,hl⟩:=r;refine ⟨hge,a,code,c,p,Fc,by rw[m.fr b hlt hb];exact e,m.keep (Sli.ok DN) hc (λy hy hm=>?_),hFc,hp,hl⟩;have h1:=hFc y hy;have h2:=hF y hm;omega
theorem VQ {v:Int} (h0:0<=v) (h1:v<4611686018427387904):0<=AL (((BitVec.ofInt IntKind.i64.bits v ^^^ BitVec.ofInt IntKind.i64.bits (AL (v.tdiv 64))).toNat:Nat):Int):=by
 obtain ⟨k,rfl⟩:∃ k:Nat,v=(k:Int):=⟨v.toNat,by omega⟩;have hd:((k:Nat):Int).tdiv 64=((k / 64:Nat):Int):=rfl;rw[hd,wr (n:=((k / 64:Nat):Int)) (by omega) (by omega)];have hb:IntKind.i64.bits=64:=rfl;have t:∀ q:Nat,q<4611686018427387904->(BitVec.ofInt IntKind.i64.bits ((q:Nat):Int)).toNat=q:=λq hq=>by rw[BitVec.toNat_ofInt,hb];omega
 have hx:(BitVec.ofInt IntKind.i64.bits ((k:Nat):Int) ^^^ BitVec.ofInt IntKind.i64.bits ((k / 64:Nat):Int)).toNat<2 ^ 62:=by rw[BitVec.toNat_xor,t k (by omega),t (k / 64) (by omega)];exact Nat.xor_lt_two_pow (by omega) (by omega)
 generalize (BitVec.ofInt IntKind.i64.bits ((k:Nat):Int) ^^^ BitVec.ofInt IntKind.i64.bits ((k / 64:Nat):Int)).toNat=w at hx;rw[wr (by omega) (by omega)];omega
theorem RBytes.get {a:Pq}{c:Nq}{m k:Nat} (hs:RBytes h [.sl 1 a m c] l F) (hk:k<l.length):∃ o,a=some o/\ld h o.1 (o.2+k) 0 1=some [.int .u8 (l[k].toNat:Int)]:=by obtain ⟨o,row,G,h1,h2,⟨rfl,_⟩,_⟩:=hs.read hk;exact ⟨o,h1,by rw[h2];rfl⟩
theorem pick (r:Rd lo h b n) (hn:n<=1000000) (m:Int):∃ (x:Int) (h':Heap),Ai lo 33 [.ptr (some (b,(0,0))),Iv m] h=some (Iv x,h')/\0<=x/\(0<m->x<m)/\Rd lo h' b (n+1)/\Mv h [b] h' [b]:=by
 obtain ⟨hge,a,code,c,p,Fc,hb,hc,hFc,hp,hcl⟩:=r;have hblt:=(Ea hb).1;have e1:ld h b 0 (0+1) 1=some [Iv ((p:Nat):Int)]:=by rw[Bx hb rfl];rfl
 have e2:=DR hb hge (r:=0) (j:=0+1) (cs := [Iv ((p+1:Nat):Int)]) (row' := [.sl 1 a code.length c,Iv ((p+1:Nat):Int)]) rfl rfl;generalize hh1:h.set b (Blk.rows 2 109 false (List.set [[V.sl 1 a code.length c,Iv ((p:Nat):Int)]] 0 [V.sl 1 a code.length c,Iv ((p+1:Nat):Int)]))=h1 at e2;have hb1:h1[b]?=some (.rows 2 109 false [[.sl 1 a code.length c,Iv ((p+1:Nat):Int)]]):=by rw[<- hh1];simp[hblt]
 have m1:Mv h [b] h1 [b]:=⟨by rw[<- hh1];simp,λy hy hF=>by rw[<- hh1];exact zcA (λe=>hF (by simp[e])),by simp,λy hy => .inl hy⟩;have hc1:RBytes h1 [.sl 1 a code.length c] code Fc:=m1.keep (Sli.ok DN) hc (λy hy hm=>by
  rw[zcQ] at hm;have:=hFc y hy;omega)
 suffices hk:∃ x:Int,_=some (Iv x,h1)/\0<=x/\(0<m->x<m) from by obtain ⟨x,e,g1,g2⟩:=hk;exact ⟨x,h1,Nr e,g1,g2,⟨hge,a,code,c,p+1,Fc,hb1,hc1,hFc,by omega,hcl⟩,m1⟩
 rw[e1,Ad,Aa,Ag,Ab,Ar (by omega),e2,Ad];by_cases hm:m<1
 ·rw[Ak hm];exact ⟨0,rfl,zea _,λh=>by omega⟩
 ·have l0:ld h1 b 0 (0+0) 1=some [.sl 1 a code.length c]:=by rw[Bx hb1 rfl];rfl
  have l1:ld h1 b 0 (0+1) 1=some [Iv ((p+1:Nat):Int)]:=by rw[Bx hb1 rfl];rfl
  have tm:∀ z:Int,0<=z->∃ x:Int,some (Iv (z.tmod m),h1)=some (Iv x,h1)/\0<=x/\(0<m->x<m):=λz hz=>⟨_,rfl,Int.tmod_nonneg m hz,λh=>by rw[Int.tmod_eq_emod_of_nonneg hz];exact Int.emod_lt_of_pos z h⟩
  have w1:AL (((p+1:Nat):Int) - 1)=((p:Nat):Int):=by rw[wr (by omega) (by omega)];omega
  rw[Aj hm,l0,Ad,Aa,Ag,Af];by_cases h0:code.length=0
  ·rw[show (((code.length:Nat):Int)==0)=true by rw[beq_iff_eq];omega,Am];exact ⟨0,rfl,zea _,λh=>by omega⟩
  ·rw[show (((code.length:Nat):Int)==0)=false by rw[beq_eq_false_iff_ne];omega,Av,l1,Ad,Aa,Ag,Ab,Ad,Aa,Ag,Af,w1];by_cases hpc:p<code.length
   ·obtain ⟨o,ha,hld⟩:=hc1.get hpc;have hbt:code[p].toNat<256:=code[p].toNat_lt;rw[Ak (by omega),Ad,Aa,Ag,Af,Ae hpc,ha,Ad,Bb,hld,Ad,Aa,Ag,Ab,DJ (by omega),wr (by omega) (by omega)];exact tm _ (by omega)
   ·have hk1:p % code.length<code.length:=zeh _ (by omega);have hk2:(p*7+3) % code.length<code.length:=zeh _ (by omega);obtain ⟨o,ha,hld⟩:=hc1.get hk1;obtain ⟨o',ha',hld'⟩:=hc1.get hk2;have ho:o'=o:=by rw[ha] at ha';injection ha' with e;exact e.symm
    subst ho;have hb1:code[p % code.length].toNat<256:=UInt8.toNat_lt _;have hb2:code[(p*7+3) % code.length].toNat<256:=UInt8.toNat_lt _;have t1:((p:Nat):Int).tmod ((code.length:Nat):Int)=((p % code.length:Nat):Int):=rfl;have t2:AL (AL (((p:Nat):Int)*7)+3)=((p*7+3:Nat):Int):=by rw[wr (n:=((p:Nat):Int)*7) (by omega) (by omega),wr (by omega) (by omega)];omega
    have t3:((p*7+3:Nat):Int).tmod ((code.length:Nat):Int)=(((p*7+3) % code.length:Nat):Int):=rfl;have t4:((p:Nat):Int).tdiv ((code.length:Nat):Int)=((p / code.length:Nat):Int):=rfl;have hdv:p / code.length<=p:=Nat.div_le_self _ _;rw[Aj (by omega),Ad,Aa,Ag,Af,Ad,Aa,Ag,Af,DJ (by omega),t1,Ae hk1,ha,Ad,Bb,hld,Ad,Aa,Ag,Ab,Ad,Aa,Ag,Af,Ad,Aa,Ag,Af,DJ (by omega),t2,t3,Ae hk2,Ad,Bb,hld',Ad,Aa,Ag,Ab,Ad,Aa,Ag,Af,DJ (by omega),DJ (by omega),t4];generalize code[p % code.length].toNat=B1 at hb1;generalize code[(p*7+3) % code.length].toNat=B2 at hb2;generalize p / code.length=D at hdv;rw[wr (n:=((B1:Nat):Int)) (by omega) (by omega),wr (n:=((B2:Nat):Int)) (by omega) (by omega),wr (n:=((B1:Nat):Int)*131) (by omega) (by omega),wr (n:=((B2:Nat):Int)*1117) (by omega) (by omega),wr (n:=((B1:Nat):Int)*131+((B2:Nat):Int)*1117) (by omega) (by omega),
     wr (n:=((p:Nat):Int)*29) (by omega) (by omega),wr (n:=((B1:Nat):Int)*131+((B2:Nat):Int)*1117+((p:Nat):Int)*29) (by omega) (by omega),wr (n:=((D:Nat):Int)) (by omega) (by omega),wr (n:=((D:Nat):Int)*53) (by omega) (by omega),wr (n:=((B1:Nat):Int)*131+((B2:Nat):Int)*1117+((p:Nat):Int)*29+((D:Nat):Int)*53) (by omega) (by omega)]
    exact tm _ (VQ (by omega) (by omega))
theorem Iy {c e:Nat}{xs:List Int}{rows:List (List V)}{len:Nat} (r:Rd lo h b n) (hn:n<=1000000) (hc:h[c]?=some (.rows 1 e ro rows)) (hcb:c≠b) (hr:rows=xs.map λx => [Iv x]) (hl:len=xs.length) (h0:0<len) :
  ∃ (x:Int) (h':Heap),Ai lo 34 [.ptr (some (b,(0,0))),.sl 1 (some (c,0)) len cc] h=some (Iv x,h')/\x∈xs/\Rd lo h' b (n+1)/\Mv h [b] h' [b]:=by
 obtain ⟨x,h1,e1,g1,g2,r1,m1⟩:=pick r hn ((len:Nat):Int);have hlt:=(Ea hc).1;obtain ⟨k,rfl⟩:∃ k:Nat,x=(k:Int):=⟨x.toNat,by omega⟩;have hk:k<xs.length:=by have:=g2 (by omega);omega
 have hc1:h1[c]?=some (.rows 1 e ro rows):=by rw[m1.fr c hlt (by simpa using hcb)];exact hc
 refine ⟨xs[k],h1,OA ?_,zcv hk,r1,m1⟩;rw[e1,Ac,Ab,Ae (by omega),Ad,Bb,zcW,Bx hc1 (i:=k) (row := [Iv xs[k]]) (by rw[hr,zd0,Cz hk];rfl)];rfl
theorem zaw {c e:Nat}{rows:List (List V)}{len:Nat} (r:Rd lo h b n) (hn:n<=1000000) (hc:h[c]?=some (.rows 1 e ro rows)) (hcb:c≠b) (hr:rows=xs.map λx => [.str x]) (hl:len=xs.length) (h0:0<len) :
  ∃ (x:ByteArray) (h':Heap),Ai lo 172 [.ptr (some (b,(0,0))),.sl 1 (some (c,0)) len cc] h=some (.str x,h')/\x∈xs/\Rd lo h' b (n+1)/\Mv h [b] h' [b]:=by
 obtain ⟨x,h1,e1,g1,g2,r1,m1⟩:=pick r hn ((len:Nat):Int);have hlt:=(Ea hc).1;obtain ⟨k,rfl⟩:∃ k:Nat,x=(k:Int):=⟨x.toNat,by omega⟩;have hk:k<xs.length:=by have:=g2 (by omega);omega
 have hc1:h1[c]?=some (.rows 1 e ro rows):=by rw[m1.fr c hlt (by simpa using hcb)];exact hc
 refine ⟨xs[k],h1,PB ?_,zcv hk,r1,m1⟩;rw[e1,Ac,Ab,Ae (by omega),Ad,Bb,zcW,Bx hc1 (i:=k) (row := [.str xs[k]]) (by rw[hr,zd0,Cz hk];rfl)];rfl
theorem HA {e:Nat} (xs:List Int) {rows:List (List V)}{len:Nat} (r:Rd lo h b n) (hn:n<=1000000) (hr:rows=xs.map λx => [Iv x]) (hl:len=xs.length) (h0:0<len) :
  ∃ (x:Int) (h':Heap),Ai lo 34 [.ptr (some (b,(0,0))),.sl 1 (some (h.length,0)) len cc] (h ++ [.rows 1 e false rows])=some (Iv x,h')/\x∈xs/\Rd lo h' b (n+1)/\Mv h [b] h' [b]:=by
 have m0:Mv h [b] (h ++ [.rows 1 e false rows]) [b]:=Mv.snoc' (by simp);have hlt:=r.lt;obtain ⟨x,h',e1,g1,r1,m1⟩:=Iy (h:=h ++ [Blk.rows 1 e false rows]) (c:=h.length) (e:=e) (ro:=false) (xs:=xs) (cc:=cc) (r.keep (F := []) (F' := []) Mv.snoc (by simp) (by simp)) hn (by simp) (by omega) hr hl h0;exact ⟨x,h',e1,g1,r1,m0.trans m1⟩
theorem X5 {e:Nat} (xs:List ByteArray) {rows:List (List V)}{len:Nat} (r:Rd lo h b n) (hn:n<=1000000) (hr:rows=xs.map λx => [.str x]) (hl:len=xs.length) (h0:0<len) :
  ∃ (x:ByteArray) (h':Heap),Ai lo 172 [.ptr (some (b,(0,0))),.sl 1 (some (h.length,0)) len cc] (h ++ [.rows 1 e false rows])=some (.str x,h')/\x∈xs/\Rd lo h' b (n+1)/\Mv h [b] h' [b]:=by
 have m0:Mv h [b] (h ++ [.rows 1 e false rows]) [b]:=Mv.snoc' (by simp);have hlt:=r.lt;obtain ⟨x,h',e1,g1,r1,m1⟩:=zaw (h:=h ++ [Blk.rows 1 e false rows]) (c:=h.length) (e:=e) (ro:=false) (xs:=xs) (cc:=cc) (r.keep (F := []) (F' := []) Mv.snoc (by simp) (by simp)) hn (by simp) (by omega) hr hl h0;exact ⟨x,h',e1,g1,r1,m0.trans m1⟩
theorem Oj {α β:Type}:∀ (l:List α),(l.map λ_=>([]:List β)).flatten = []
 | []=>rfl
 | _ :: l=>by simp[Oj l]
theorem Yl {a:Pq}{c:Nq} (hs:RBytes h [.sl 1 a l.length c] l F) (hF:∀ y∈F,y<lo) (hlo:lo<=h.length) (hl:l.length<=1048576) (hcap:∀ k,c=some k->l.length<=k) :
  ∃ (b:Nat) (h':Heap),Ai lo 31 [.sl 1 a l.length c] h=some (.ptr (some (b,(0,0))),h')/\Rd lo h' b 0/\Mv h [] h' [b]:=by
 refine ⟨h.length,?_⟩;suffices hk:∃ h',_=some (V.ptr (some (h.length,(0,0))),h')/\Rd lo h' h.length 0/\Mv h [] h' [h.length] from by obtain ⟨h',e,g⟩:=hk;exact ⟨h',Rr e,g⟩
 by_cases h2:l.length>2000
 ·have hre:∀ {T:Type} (K:Pq->Nat->Nq->Option T),Aw a l.length c none (some (Iv 2000)) none K=K a 2000 c:=λK=>by
   unfold Aw FG IN Jl;cases c with
   | none=>simp only[Ab];rw[CQ ⟨by omega,by omega⟩];rfl
   | some k=>have:=hcap k rfl;simp only[Ab];rw[CQ ⟨by omega,by omega⟩];rfl
  have ht:RBytes h [.sl 1 a (l.take 2000).length c] (l.take 2000) F:=by
   obtain ⟨R',a',c',e,hR,hh⟩:=hs;injection e with e _;injection e with e0 e1 e2 e3;subst e1;subst e3;refine ⟨1,a,c,rfl,rfl,?_⟩;rcases hh with ⟨g,_⟩ | ⟨b,i,rs,Fs,g0,g1,g2,g3,g4⟩
   ·rw[g] at h2;simp at h2
   ·have hfl:=EAll.of_flat g3;refine .inr ⟨b,i,rs,(l.take 2000).map λ_ => [],g0,g1,by simp;omega,?_,?_⟩
    ·have:(rs.drop i).take (l.take 2000).length=(l.take 2000).map zcg:=by rw[List.map_take,<- hfl.1,zen];congr 1;simp
     rw[this];exact EAll.flat
    ·rw[g4,hfl.2,Oj]
  have hlen:(l.take 2000).length=2000:=by simp;omega
  rw[Ak (by omega),hre];refine ⟨_,rfl,⟨hlo,a,l.take 2000,c,0,F,?_,(Mv.snoc (t := [_])).keep0 (Sli.ok DN) ht,hF,zcz _,by omega⟩,Mv.last⟩;rw[hlen];simp
 ·rw[Aj (by omega)];exact ⟨_,rfl,⟨hlo,a,l,c,0,F,by simp,(Mv.snoc (t := [_])).keep0 (Sli.ok DN) hs,hF,zcz _,hl⟩,Mv.last⟩
end


variable {α:Type}{l:List α}
theorem Mv.apart {h h1:Heap}{A F1:List Nat}{b:Nat} (m:Mv h A h1 (b :: F1)):∀ y∈F1,y ∉ [b]:=λy hy hm=>by have hn:=m.nd;rw[zcE] at hn;rw[zcQ] at hm;exact hn.1 (hm ▸ hy)
section
variable {lo:Nat}{h h':Heap}{F F':List Nat}{b n:Nat}
theorem L9 (r:Rd lo h b n) (hn:n<=900000):∃ (s:ByteArray) (h':Heap),Ai lo 141 [.ptr (some (b,(0,0)))] h=some (.str s,h')/\Gy s=true/\Rd lo h' b (n+1)/\Mv h [b] h' [b]:=by
 obtain ⟨s,h1,e1,g1,r1,m1⟩:=X5 (e:=9) [⟨⟨[]⟩⟩,⟨⟨[97]⟩⟩,⟨⟨[98]⟩⟩,⟨⟨[120,35,49]⟩⟩,⟨⟨[61]⟩⟩,⟨⟨[45]⟩⟩,⟨⟨[108,111,110,103,116,101,120,116]⟩⟩,⟨⟨[122,122]⟩⟩]
  (rows := [[.str ⟨⟨[]⟩⟩],[.str ⟨⟨[97]⟩⟩],[.str ⟨⟨[98]⟩⟩],[.str ⟨⟨[120,35,49]⟩⟩],[.str ⟨⟨[61]⟩⟩],[.str ⟨⟨[45]⟩⟩],[.str ⟨⟨[108,111,110,103,116,101,120,116]⟩⟩],[.str ⟨⟨[122,122]⟩⟩]]) (len:=8) (cc:=some 8) r (by omega) rfl rfl (by decide)
 refine ⟨s,h1,Rp ?_,?_,r1,m1⟩
 ·rw[e1,Ac,BH]
 ·have:∀ x∈([⟨⟨[]⟩⟩,⟨⟨[97]⟩⟩,⟨⟨[98]⟩⟩,⟨⟨[120,35,49]⟩⟩,⟨⟨[61]⟩⟩,⟨⟨[45]⟩⟩,⟨⟨[108,111,110,103,116,101,120,116]⟩⟩,⟨⟨[122,122]⟩⟩]:List ByteArray),Gy x=true:=zcK.1 (by decide);exact this s g1
theorem Sli.made {cs:α->List V}{R e:Nat}{rows:List (List V)} (hr:rows=l.map cs):Sli false R e (flat cs) (h ++ [.rows R e false rows]) [.sl R (some (h.length,0)) l.length (some l.length)] l [h.length]:=by subst hr;refine ⟨R,some (h.length,0),some l.length,rfl,rfl,l.map cs,l.map λ_ => [],by simp,by simp,λk hk=>by injection hk with hk;simp;omega,(λhc=>(by cases hc)),?_,by rw[Oj]⟩;rw[zdt,zc0 (by simp)];exact EAll.flat
def SR:List Tag := [⟨0,0⟩,⟨0,0⟩,⟨0,0⟩,⟨0,0⟩]
theorem UQ:∃ h' q,Ai lo 122 [] h=some (.agg [.sl 2 (some (q,0)) 4 (some 4)],h')/\RTags false h' [.sl 2 (some (q,0)) 4 (some 4)] SR [q]/\Mv h [] h' [q] :=
 ⟨_,h.length,Si rfl,Sli.made (l:=SR) rfl,Mv.last⟩
theorem Td {Fs:List (List Nat)}:(Fs.drop 1).flatten.Sublist Fs.flatten:=by
 cases Fs with
 | nil=>simp
 | cons F Fs=>simp only[List.drop_succ_cons,zdt,zc1];exact List.sublist_append_right _ _
theorem Sli.behind {El:Rel α}{R e q i k m:Nat} (hs:Sli false R e El h [.sl R (some (q,i)) m (some k)] l F) (h0:0<l.length) (hnd:F.Nodup) :
  (∀ {T:Type} (K:Pq->Nat->Nq->Option T),1<k->Aw (some (q,i)) m (some k) (some (Iv 1)) none none K=K (some (q,i+1)) (l.drop 1).length (some (k - 1))) /\
   ∃ F',Sli false R e El h [.sl R (some (q,i+1)) (l.drop 1).length (some (k - 1))] (l.drop 1) F'/\F'.Nodup/\∀ y∈F',y∈F:=by
 have hm:=hs.val;subst hm;obtain ⟨b',i',rs,Fs,ha,g1,g2,g3,g4,g5,rfl⟩:=hs.data h0;injection ha with ha;injection ha with e1 e2;subst e1;subst e2;obtain ⟨k1,k2⟩:=g3 k rfl;refine ⟨λK hk=>?_,q ::(Fs.drop 1).flatten,⟨R,some (q,i+1),some (k - 1),rfl,rfl,rs,Fs.drop 1,g1,by simp;omega,λk' hk=>?_,(λhc=>(by cases hc)),?_,rfl⟩,?_,λy hy=>?_⟩
 ·unfold Aw FG IN Jl LV;simp only[Ab,zdN];rw[CQ ⟨by omega,by omega⟩];have:Nat.beq k (Int.toNat 1)=false:=by
   cases hb:Nat.beq k (Int.toNat 1) with
   | false=>rfl
   | true =>have:=zcH hb;have e:Int.toNat 1=1:=rfl;omega
  rw[this,Av,zdB];rfl
 ·injection hk with hk;subst hk;simp only[zdB];omega
 ·have hd:=g5.drop 1;have:((rs.drop i).take l.length).drop 1=(rs.drop (i+1)).take (l.drop 1).length:=by rw[List.drop_take,zdW,zdB]
  rw[<- this];exact hd
 ·rw[zcE] at hnd ⊢;have hsub:(Fs.drop 1).flatten.Sublist Fs.flatten:=Td;exact ⟨λhm=>hnd.1 (hsub.mem hm),hnd.2.sublist hsub⟩
 ·have hsub:(Fs.drop 1).flatten.Sublist Fs.flatten:=Td;rw[zcD] at hy ⊢;exact hy.imp id λhy=>hsub.mem hy
end


section
variable {lo:Nat}{h h':Heap}{F F':List Nat}{b n:Nat}
theorem Mv.thin {A F1 F2:List Nat}{h1:Heap} (m:Mv h A h1 (b :: F1)) (hn:F2.Nodup) (hs:∀ y∈F2,y∈F1):Mv h A h1 (b :: F2):=by have hn1:=m.nd;rw[zcE] at hn1;refine m.lean (zcE.2 ⟨λhm=>hn1.1 (hs b hm),hn⟩) λy hy=>?_;rw[zcD] at hy ⊢;exact hy.imp id (hs y)
def JG:List Ver := [UD,UD,UD,UD]
theorem Hw:RVer false h [Iv 0,Iv 0,Iv 0,.sl 0 none 0 (some 0),.str ⟨⟨[]⟩⟩,.bool false] UD []:=⟨_,rfl,Sli.nil⟩
theorem V2:∃ h' q,Ai lo 182 [] h=some (.agg [.sl 6 (some (q,0)) 4 (some 4)],h')/\RVers false h' [.sl 6 (some (q,0)) 4 (some 4)] JG [q]/\Mv h [] h' [q]:=by
 refine ⟨_,h.length,Ur rfl,⟨6,some (h.length,0),some 4,rfl,rfl,[[Iv 0,Iv 0,Iv 0,.sl 0 none 0 (some 0),.str ⟨⟨[]⟩⟩,.bool false],[Iv 0,Iv 0,Iv 0,.sl 0 none 0 (some 0),.str ⟨⟨[]⟩⟩,.bool false],[Iv 0,Iv 0,Iv 0,.sl 0 none 0 (some 0),.str ⟨⟨[]⟩⟩,.bool false],[Iv 0,Iv 0,Iv 0,.sl 0 none 0 (some 0),.str ⟨⟨[]⟩⟩,.bool false]],[[],[],[],[]],by simp,by decide,λk hk=>?_,(λhc=>(by cases hc)),?_,rfl⟩,Mv.last⟩
 ·injection hk with hk;subst hk;exact ⟨by decide,by decide⟩
 ·exact ⟨Hw,Hw,Hw,Hw,trivial⟩
end


section
variable {lo:Nat}{h h':Heap}{F F':List Nat}{b n:Nat}
theorem Sli.first {α:Type}{El:Rel α}{R e m i:Nat}{a:Pq}{c:Nq}{l:List α} (hs:Sli false R e El h [.sl R a m c] l F) (hi:i<=l.length) (hnd:F.Nodup):∃ F2,Sli false R e El h [.sl R a i c] (l.take i) F2/\F2.Nodup/\∀ y∈F2,y∈F:=by
 have hm:=hs.val;subst hm;by_cases h0:l.length=0
 ·have:l = []:=zcF h0;subst this;have:i=0:=by simpa using hi
  subst this;exact ⟨F,hs,hnd,λy hy=>hy⟩
 obtain ⟨b',i',rs,Fs,ha,g1,g2,g3,g4,g5,rfl⟩:=hs.data (k:=0) (by omega);have hs0:=hs;obtain ⟨R1,a1,c1,e1,_⟩:=hs;injection e1 with e1 _;injection e1 with e0 e2 _ e4;have hsub:(Fs.take i).flatten.Sublist Fs.flatten:=by
  conv=>{ rhs;rw[<- zc5 i Fs,zc9] }
  exact List.sublist_append_left _ _
 rw[zcE] at hnd;refine ⟨b' ::(Fs.take i).flatten,⟨R,a,c,by simp;omega,?_⟩,zcE.2 ⟨λhm=>hnd.1 (hsub.mem hm),hnd.2.sublist hsub⟩,λy hy=>?_⟩
 ·subst ha;refine ⟨rfl,rs,Fs.take i,g1,by simp;omega,λk hk=>?_,g4,?_,rfl⟩
  ·have:=g3 k hk;simp only[zcS];omega
  ·have hd:=g5.take i;rw[zen] at hd;have:min i l.length=(l.take i).length:=by simp
   rw[<- this];exact hd
 ·rw[zcD] at hy ⊢;exact hy.imp id λhy=>hsub.mem hy
theorem RL {m:Nat} (h1:1<=m) (h4:m<=4) (hl:lo<=h.length):∃ v h' F',Ai lo 154 [Iv (m:Nat)] h=some (.agg [v],h')/\RNodes false h' [v] (List.replicate m ⟨JG,[]⟩) F'/\Mv h [] h' F':=by
 obtain ⟨q,a',c',h',F',e,r,mm⟩:=IB (El:=RNode false) rnode_ok (h:=h) (l:=List.replicate m ()) (f:=λ_=>(⟨JG,[]⟩:Node)) (lo:=lo) (R:=2) (e:=Ph false) (bytes:=48) hl (by decide) (by rw[zdq];omega)
  (λi q a n c hh=>CJ lo ((m:Nat):Int) ((i:Nat):Int) 0 none 0 (some 0) q a n c hh) (λi hi q a n c hh hm=>by
   rw[zdq] at hi;obtain ⟨h3,q3,e3,t3,m3⟩:=V2 (lo:=lo) (h:=hh);refine ⟨[.sl 6 (some (q3,0)) 4 (some 4),.sl 0 none 0 (some 0)],[q3],h3 ++ [.rows 2 (Ph false) false [[.sl 6 (some (q3,0)) 4 (some 4),.sl 0 none 0 (some 0)]]],⟨_,_,[q3],[],rfl,rfl,Mv.snoc.keep0 rvers_ok t3,Sli.nil⟩,m3.trans (Mv.snoc' m3.nd),?_⟩;rw[CJ.e,Ak (by omega),e3,Ac,AO,Aa,Af,Ag,Ar (by omega)];exact A9)
 rw[List.map_replicate] at r;rw[zdq] at e;refine ⟨_,h',F',PE ?_,r,mm⟩;have hw:Ah ((m:Nat):Int) 1 4=true:=by simp only[Ah,CA,decide_eq_true_eq];omega
 rw[B8,Ac,Ao,hw,Am];refine e.trans ?_;rw[CJ.e,Aj (by omega),zdq]
end


variable {l:List Node}{p:List Tag}
section
variable {lo:Nat}{ro ro':Bool}{h:Heap}{F F':List Nat}{a a':Pq}{c c':Nq}
theorem W0 {l:List Tag} (h1:RTags ro h [.sl 2 a l.length c] l F) (h2:RTags ro' h [.sl 2 a' l.length c'] l F') (hn:l.length<=1048576):Ai lo 23 [.agg [.sl 2 a l.length c],.agg [.sl 2 a' l.length c']] h=some (.bool true,h):=by
 refine Sn (h':=h) ?_;rw[HE,Am];refine (FM (n:=l.length) (λi=>Dy (List.length h) false (i:Nat) a l.length c a' l.length c' h) λi hi=>?_).trans ?_
 ·obtain ⟨o,rfl,ho⟩:=h1.get hi;obtain ⟨o',rfl,ho'⟩:=h2.get hi;rw[Dy.e,Ak (by omega),Ae hi];simp only[Ad,Bb,ho,ho',Aa,Ab,Ag,Ae hi,HE,Am,zeg,Ar (show i<9223372036854775807 by omega)]
 ·rw[Dy.e,Aj (by omega)]
theorem zah {v:Ver} (h1:RTags ro h [.sl 2 a v.past.length c] v.past F) (h2:RTags ro' h [.sl 2 a' v.past.length c'] v.past F') (hn:v.past.length<=1048576):Ai lo 40 [.agg (v.cs a c),.agg (v.cs a' c')] h=some (.bool true,h) :=
 Uu (h':=h) (by simp only[W0 h1 h2 hn,Ac,Ao,Am,HE,zcf,zco,zeg])
theorem Rh {l:List Ver} (h1:RVers ro h [.sl 6 a l.length c] l F) (h2:RVers ro' h [.sl 6 a' l.length c'] l F') (hn:Dq l):Ai lo 19 [.sl 6 a l.length c,.sl 6 a' l.length c'] h=some (.bool true,h):=by
 have hn1:=hn.1;refine Sm (h':=h) ?_;rw[HE,Am];refine (FM (n:=l.length) (λi=>Dx (List.length h) a l.length c a' l.length c' false (i:Nat) h) λi hi=>?_).trans ?_
 ·obtain ⟨o,s,b1,c1,G1,rfl,ho,es,hp,_⟩:=h1.get hi;obtain ⟨o',s',b2,c2,G2,rfl,ho',es',hp',_⟩:=h2.get hi;rw[Dx.e,Ak (by omega),Ae hi];simp only[Ad,Bb,ho,ho',Aa,Ab,es,es',BH,AM,Ag,Ae hi];rw[zah hp hp' (hn.2 _ (zcv hi)).1];simp only[Ac,Ao,Am,Ar (show i<9223372036854775807 by omega)]
 ·rw[Dx.e,Aj (by omega)]
theorem zbq {l:List Ver} (h1:RVers ro h [.sl 6 a l.length c] l F) (h2:RVers ro' h [.sl 6 a' l.length c'] l F') (hn:Dq l):Ai lo 120 [.agg [.sl 6 a l.length c],.agg [.sl 6 a' l.length c']] h=some (.bool true,h):=by
 have hn1:=hn.1;refine Rt (h':=h) ?_;rw[HE,Am];refine (FM (n:=l.length) (λi=>C1 (List.length h) false (i:Nat) a l.length c a' l.length c' h) λi hi=>?_).trans ?_
 ·obtain ⟨o,s,b1,c1,G1,rfl,ho,es,hp,_⟩:=h1.get hi;obtain ⟨o',s',b2,c2,G2,rfl,ho',es',hp',_⟩:=h2.get hi;rw[C1.e,Ak (by omega),Ae hi];simp only[Ad,Bb,ho,ho',Aa,Ab,es,es',BH,AM,Ag,Ae hi];rw[zah hp hp' (hn.2 _ (zcv hi)).1];simp only[Ac,Ao,Am,Ar (show i<9223372036854775807 by omega)]
 ·rw[C1.e,Aj (by omega)]
theorem zbs (h1:RNodes ro h [.sl 2 a l.length c] l F) (h2:RNodes ro' h [.sl 2 a' l.length c'] l F') (hn:Dm l):Ai lo 74 [.agg [.sl 2 a l.length c],.agg [.sl 2 a' l.length c']] h=some (.bool true,h):=by
 have hn1:=hn.1;refine Rv (h':=h) ?_;rw[HE,Am];refine (FM (n:=l.length) (λi=>C3 (List.length h) false (i:Nat) a l.length c a' l.length c' h) λi hi=>?_).trans ?_
 ·obtain ⟨o,s1,s2,a1,c1,a2,c2,G1,G2,rfl,ho,ho1,ho2,e1,e2,hp1,hp2,_⟩:=h1.get hi;obtain ⟨o',s1',s2',a1',c1',a2',c2',G1',G2',rfl,ho',ho1',ho2',e1',e2',hp1',hp2',_⟩:=h2.get hi;rw[C3.e,Ak (by omega),Ae hi];simp only[Ad,Bb,ho1,ho1',Aa,e1,e1',Ag,Ae hi];rw[zbq hp1 hp1' (hn.2 _ (zcv hi)).1];simp only[Ac,Ao,Am,Ad,ho2,ho2',Aa,Ag,e2,e2',Ae hi];rw[Rh hp2 hp2' (hn.2 _ (zcv hi)).2];simp only[Ac,Ao,Am,Ar (show i<9223372036854775807 by omega)]
 ·rw[C3.e,Aj (by omega)]
theorem Be (hp:BE p=true):p.length=4:=by unfold BE at hp;rw[CA,decide_eq_true_eq] at hp;exact hp.1
theorem Kf {q:List Tag} (hs:RTags ro h [.sl 2 a p.length c] p F) (hs':RTags ro' h [.sl 2 a' q.length c'] q F') (hp:BE p=true) (hq:BE q=true) :
  Ai lo 20 [.agg [.sl 2 a p.length c],.agg [.sl 2 a' q.length c']] h=some (.bool (Bs p q),h):=by
 have h1:=Be hp;have h2:=Be hq;refine NG (h':=h) ?_;rw[IY hs (by omega),Ac,Ao,hp,Am,IY hs' (by omega),Ac,Ao,hq,Am,Ha hs hs' (by omega) (by omega),Ac,Ao];cases Bs p q<;>rfl
theorem Ju (hs:RNodes false h [.sl 2 a l.length c] l F) (hl:lo<=h.length) (hn:Dm l) (hc:Ch l) :
  ∃ a' c' h' F',Ai lo 21 [.agg [.sl 2 a l.length c]] h=some (.agg [.sl 2 a' (AR l).length c'],h')/\RTags false h' [.sl 2 a' (AR l).length c'] (AR l) F'/\Mv h [] h' F':=by
 have hpos:=hc.pos;have m0:Mv h [] (h ++ [.rows 1 57 false [[.sl 2 a l.length c]]]) []:=Mv.snoc;have hs0:=m0.keep0 rnodes_ok hs;have hld:ld (h ++ [.rows 1 57 false [[.sl 2 a l.length c]]]) h.length 0 0 1=some [.sl 2 a l.length c]:=by rw[Bx (show (h ++ [Blk.rows 1 57 false [[.sl 2 a l.length c]]])[h.length]?=some (.rows 1 57 false [[.sl 2 a l.length c]]) by simp) rfl];exact I3 rfl
 obtain ⟨a1,c1,G1,e1,q1,_⟩:=Hb (lo:=lo) hld hs0 (by omega) hn.1;obtain ⟨v,h2,F2,e2,r2,m2⟩:=Hc (lo:=lo) q1 (zcw hl m0.le) (hc.store (Cz (by omega))).2;rw[<- GC (by omega)] at r2;obtain ⟨a2,c2,es,r2⟩:=r2.form;refine ⟨a2,c2,h2,F2,Ms ?_,r2,m0.trans m2⟩;rw[hld,Ad,Aa,Af,Ag,Nc hs0 hn,chain_iff.2 hc,Ac,Ao,Am,e1,Ac,AO,Aa,Af,Ag,e2,Ac,AO,Aa,es,Ag]
end


section
variable {lo:Nat}{h h':Heap}{w:World}{a1 a2 a3 a4 a:Pq}{c1 c2 c3 c4 c:Nq}{F1 F2 F3 F4:List Nat}
theorem VX {kind num key:Int}{text:ByteArray}{gone:Bool}{i:Nat} (H:WR lo h w a1 c1 a2 c2 a3 c3 a4 c4 F1 F2 F3 F4) (hg:Fits w) (hi:i<w.sess.length) :
  ∃ cs' h' F',Ai lo 156 [.agg (w.cs a1 c1 a2 c2 a3 c3 a4 c4),.agg [Iv kind,Iv (i:Nat),Iv num,Iv key,.str text,.bool gone]] h=some (.tup [.agg cs',.bool (Hj w i w.sess[i]).isSome],h') /\
   Pw lo h' cs' ((Hj w i w.sess[i]).getD w) F'/\Mv h (F1++(F2++(F3++F4))) h' F'/\((Hj w i w.sess[i])=none->cs'=w.cs a1 c1 a2 c2 a3 c3 a4 c4):=by
 suffices hk:∃ cs' h' F',_=some (V.tup [.agg cs',.bool (Hj w i w.sess[i]).isSome],h')/\Pw lo h' cs' ((Hj w i w.sess[i]).getD w) F'/\Mv h (F1++(F2++(F3++F4))) h' F'/\((Hj w i w.sess[i])=none->cs'=w.cs a1 c1 a2 c2 a3 c3 a4 c4) from by obtain ⟨cs',h',F',e,hr⟩:=hk;exact ⟨cs',h',F',Ul e,hr⟩
 have hso:=hg.ok.sess _ (zcv hi);obtain ⟨t1,t2,t3,t4,t5,t6⟩:=Bp hso;have hp4:=Be t2;have h80:=hg.ok.h80;obtain ⟨k,hpl⟩:∃ k:Nat,w.sess[i].place=(k:Int):=⟨w.sess[i].place.toNat,by omega⟩;obtain ⟨m,hkey⟩:∃ m:Nat,w.sess[i].key=(m:Int):=⟨w.sess[i].key.toNat,by omega⟩;have hk:k<w.places.length:=by have:=hg.ok.p3;omega
 obtain ⟨hpo,hme,hro⟩:=hg.at hk;have hn:=(Eh (Bv hpo) (by decide) (by decide) (by decide)).1;have hco:=(AI hpo).2.2.2.1;have hcl:=Dp hpo;have hst:∀ x∈w.places[k].chain,Bc x.store=true:=λx hx=>(AY ((CO hco).2 x hx)).1
 have h04:=Bi (hst _ (zcv hcl));have hm0:m<w.places[k].chain[0].store.length:=by omega
 obtain ⟨b',i',v,e1',d1',Gs,rfl,hld',_,_,es',hv',_,hGn,puts⟩:=H.sess hi;obtain ⟨b,j,s1,s2,s3,b1,d1,b2,d2,b3,d3,G1,G2,G3,rfl,_,hc2,_,e1,e2,e3,g1,g2,g3,nd,hF,put⟩:=H.place hk;obtain ⟨u,x5,y5,h1,G5,e5,hsh,r5,m5⟩:=LH (lo:=lo) (k:=0) (key:=m) g1 hcl hst (by omega) H.hl hn.1.1;rw[show ((0:Nat):Int)=0 from rfl] at e5;obtain ⟨o,z1,z2,p1,q1,p2,q2,H1,H2,rfl,_,ho1,_,ez1,_,gg1,_,_⟩:=(m5.keep0 rnodes_ok g1).get hcl;obtain ⟨o',_,_,_,_,rfl,_,_,_,_,_,_,ho12,_⟩:=gg1.all hm0;have hX:Hj w i w.sess[i]=bif decide (w.sess[i].wait.time>0) then
    (bif CT u.tag w.sess[i].wait then (bif CT w.places[k].chain[0].store[m].tag w.sess[i].wait then some (setS w i ⟨w.sess[i].place,w.sess[i].past,⟨0,0⟩,0⟩ []) else none)
    else (bif Ct w 1 then some (setS w i ⟨w.sess[i].place,Eo w.sess[i].past m w.sess[i].wait,⟨0,0⟩,0⟩ [⟨i,3,w.sess[i].key,w.sess[i].wait⟩]) else none)) else none:=by
  have hhd:(Ev w.places[k].chain)[m]?=some w.places[k].chain[0].store[m]:=by unfold Ev;rw[Cz hcl];exact Cz hm0
  unfold Hj;rw[hpl,hkey,Bb,Bb,Cz hk];simp only[hsh,hhd]
 generalize hXX:Hj w i w.sess[i]=X at hX;obtain ⟨Hq,mq⟩:=H.up0 m5.drop;simp only[Ver.cs] at e5;rw[Ae hi,Ad,Bb,hld',Ad,Aa,Ab,Aa,es',Aa,Ab,Aa,Ab,Aa,Ab,Ag];by_cases hw:¬ w.sess[i].wait.time>0
 ·have:w.sess[i].wait.time=0:=by simp[B5,Ah] at t3;omega
  rw[this,HE,Am];exact H.stay (by rw[hX,decide_eq_false hw];rfl)
 have hw:w.sess[i].wait.time>0:=by omega
 rw[decide_eq_true hw,cond_true] at hX;rw[show (w.sess[i].wait.time==0)=false by rw[beq_eq_false_iff_ne];omega,Av,hpl,Ae hk,Ad,Bb,hc2,Ad,Aa,e1,Ag,hkey,e5,Ac,AO,Aa,Ab,Aa,Ab,Aa,Ab,Aa,Af,Aa,BH,Aa,AM,Ag,Cl ⟨by omega,by omega⟩,Ad,ho1,Ad,Aa,Ag,ez1,Ae hm0,Ad,Bb,ho12,Ad,Aa,Ab,Aa,Ab,Ag,Cf,Ac,Ao];cases hA:Fu u.tag.time u.tag.place w.sess[i].wait.time w.sess[i].wait.place with
 | true =>
  rw[show CT u.tag w.sess[i].wait=true from hA,cond_true] at hX;rw[Am,Cf,Ac,Ao];cases hB:Fu w.places[k].chain[0].store[m].tag.time w.places[k].chain[0].store[m].tag.place w.sess[i].wait.time w.sess[i].wait.place with
  | false =>rw[show CT w.places[k].chain[0].store[m].tag w.sess[i].wait=false from hB,cond_false] at hX;rw[Av];obtain ⟨cs',h',F',e,W,M,N⟩:=Hq.stay hX;exact ⟨cs',h',F',e,W,mq.trans M,N⟩
  | true =>rw[show CT w.places[k].chain[0].store[m].tag w.sess[i].wait=true from hB,cond_true] at hX;obtain ⟨h7,F7,e7,q7,m7⟩:=Hq.wait hi ⟨0,0⟩ 0;rw[Am,Cf,Ac,Ao,hA,Am,Cf,Ac,Ao,hA,Am];simp only[] at e7;rw[e7,hX];refine ⟨_,h7,_,rfl,?_,mq.trans m7,λg=>by first | cases g | (simp at g)⟩;have W:=q7.at;simp only[World.cs,zc6] at W;simpa only [setS,zds,zdc] using W
 | false =>
  rw[show CT u.tag w.sess[i].wait=false from hA,cond_false] at hX;rw[Av,Cf,Ac,Ao,hA,Av];by_cases hh:(w.hist.length:Int)>=80
  ·rw[Ak hh];obtain ⟨cs',h',F',e,W,M,N⟩:=Hq.stay (X:=X) (by rw[hX,show Ct w 1=false from decide_eq_false (by omega)];rfl);exact ⟨cs',h',F',e,W,mq.trans M,N⟩
  rw[show Ct w 1=true from decide_eq_true (by omega),cond_true] at hX;obtain ⟨x6,y6,h6,F6,e6,r6,m6⟩:=Ko (lo:=lo) (k:=m) (t:=w.sess[i].wait) (m5.keep0 rtags_ok hv') (by omega) Hq.hl (by omega);obtain ⟨h7,F7,e7,q7,m7,_⟩:=Hq.past hi m6 r6;obtain ⟨a8,c8,h8,F8,e8,q8,m8,_⟩:=Gc (d:=⟨i,3,(m:Nat),w.sess[i].wait⟩) q7 (by show w.hist.length<=1000;omega);have hi8:i<(w.sess.set i ⟨w.sess[i].place,Eo w.sess[i].past m w.sess[i].wait,w.sess[i].wait,w.sess[i].key⟩).length:=by simpa using hi
  obtain ⟨h9,F9,e9,q9,m9⟩:=q8.wait hi8 ⟨0,0⟩ 0;have W:=q9.at;simp only[World.cs,zc6] at e8 e9;simp only[World.cs,zc6,zdK,zdL] at W;rw[Aj hh,Cf,Ac,Ao,hA,Av,e6,Ac,AO,Aa,Af,Ag,e7,e8,Ac,AO,Aa,Af,Aa,Af,Aa,Af,Aa,Af,Ag,e9,hX];refine ⟨_,h9,_,rfl,?_,mq.trans ((m7.trans m8).trans m9),λg=>by first | cases g | (simp at g)⟩;simpa only [setS,zds,hkey] using W
end


section
variable {lo:Nat}{h h':Heap}{w:World}{a1 a2 a3 a4 a:Pq}{c1 c2 c3 c4 c:Nq}{F1 F2 F3 F4:List Nat}
theorem UJ {kind num key:Int}{text:ByteArray}{gone:Bool}{i:Nat} (H:WR lo h w a1 c1 a2 c2 a3 c3 a4 c4 F1 F2 F3 F4) (hg:Fits w) (hi:i<w.sess.length) :
  ∃ cs' h' F',Ai lo 157 [.agg (w.cs a1 c1 a2 c2 a3 c3 a4 c4),.agg [Iv kind,Iv (i:Nat),Iv num,Iv key,.str text,.bool gone]] h=some (.tup [.agg cs',.bool (EB w i w.sess[i] ⟨kind,(i:Nat),num,key,text,gone⟩).isSome],h') /\
   Pw lo h' cs' ((EB w i w.sess[i] ⟨kind,(i:Nat),num,key,text,gone⟩).getD w) F'/\Mv h (F1++(F2++(F3++F4))) h' F'/\((EB w i w.sess[i] ⟨kind,(i:Nat),num,key,text,gone⟩)=none->cs'=w.cs a1 c1 a2 c2 a3 c3 a4 c4):=by
 suffices hk:∃ cs' h' F',_=some (V.tup [.agg cs',.bool (EB w i w.sess[i] ⟨kind,(i:Nat),num,key,text,gone⟩).isSome],h')/\Pw lo h' cs' ((EB w i w.sess[i] ⟨kind,(i:Nat),num,key,text,gone⟩).getD w) F'/\Mv h (F1++(F2++(F3++F4))) h' F'/\((EB w i w.sess[i] ⟨kind,(i:Nat),num,key,text,gone⟩)=none->cs'=w.cs a1 c1 a2 c2 a3 c3 a4 c4) from by obtain ⟨cs',h',F',e,hr⟩:=hk;exact ⟨cs',h',F',RZ e,hr⟩
 have hso:=hg.ok.sess _ (zcv hi);obtain ⟨t1,t2,t3,t4,t5,t6⟩:=Bp hso;have hp4:=Be t2;have h80:=hg.ok.h80;obtain ⟨k,hpl⟩:∃ k:Nat,w.sess[i].place=(k:Int):=⟨w.sess[i].place.toNat,by omega⟩;have hk:k<w.places.length:=by have:=hg.ok.p3;omega
 obtain ⟨hpo,hme,hro⟩:=hg.at hk;have hn:=(Eh (Bv hpo) (by decide) (by decide) (by decide)).1;have hn1:=hn.1.1;have hch:=chain_iff.1 (AI hpo).2.2.2.1;have hst:∀ x∈w.places[k].chain,Bc x.store=true:=λx hx=>(AY ((CO (AI hpo).2.2.2.1).2 x hx)).1
 obtain ⟨b',i',v,e1',d1',Gs,rfl,hld',_,_,es',hv',_,hGn,puts⟩:=H.sess hi;obtain ⟨b,j,s1,s2,s3,b1,d1,b2,d2,b3,d3,G1,G2,G3,rfl,_,hc2,_,e1,e2,e3,g1,g2,g3,nd,hF,put⟩:=H.place hk;have hX:EB w i w.sess[i] ⟨kind,(i:Nat),num,key,text,gone⟩=bif !decide (w.sess[i].wait.time>0)&&(Ah key 0 3&&(Ah num 0 ((w.places[k].chain.length:Int) - 1)&&Ct w 1)) then
   (match Gd w.places[k].chain num.toNat key.toNat,w.sess[i].past[key.toNat]? with
   | some v,some t=>bif CT v.tag t then none else some (setS w i ⟨w.sess[i].place,Kr w.sess[i] v key.toNat,w.sess[i].wait,w.sess[i].key⟩ [⟨i,2,key,v.tag⟩])
   | _,_=>none) else none:=by
  unfold EB;rw[hpl,Bb,Cz hk]<;>rfl
 generalize hXX:EB w i w.sess[i] ⟨kind,(i:Nat),num,key,text,gone⟩=X at hX;rw[Ae hi,Ad,Bb,hld',Ad,Aa,Ab,Aa,es',Aa,Ab,Aa,Ab,Aa,Ab,Ag,hpl,Ae hk,Ad,Bb,hc2,Ad,Aa,e1,Ag];by_cases hw:w.sess[i].wait.time>0
 ·rw[Ak hw];exact H.stay (by rw[hX,decide_eq_true hw];rfl)
 rw[decide_eq_false hw,zdm,zcJ] at hX;rw[Aj hw,B8,Ac,Ao];cases hwk:Ah key 0 3 with
 | false=>rw[Av];exact H.stay (by rw[hX,hwk];rfl)
 | true =>
 rw[hwk,zcJ] at hX;rw[Am,wr (by omega) (by omega),B8,Ac,Ao];cases hwn:Ah num 0 ((w.places[k].chain.length:Int) - 1) with
 | false=>rw[Av];exact H.stay (by rw[hX,hwn];rfl)
 | true =>
 rw[hwn,zcJ] at hX;rw[Am];by_cases hh:(w.hist.length:Int)>=80
 ·rw[Ak hh];exact H.stay (by rw[hX,show Ct w 1=false from decide_eq_false (by omega)];rfl)
 rw[show Ct w 1=true from decide_eq_true (by omega),cond_true] at hX;simp only[Ah,CA,decide_eq_true_eq] at hwk hwn;obtain ⟨m,rfl⟩:∃ m:Nat,key=(m:Int):=⟨key.toNat,by omega⟩;obtain ⟨n,rfl⟩:∃ n:Nat,num=(n:Int):=⟨num.toNat,by omega⟩;have hmp:m<w.sess[i].past.length:=by omega
 obtain ⟨u,x5,y5,h1,G5,e5,hsh,r5,m5⟩:=LH (lo:=lo) (k:=n) (key:=m) g1 (by omega) hst (by omega) H.hl hn1;obtain ⟨Hq,mq⟩:=H.up0 m5.drop;rw[Bb,Bb,hsh,Cz hmp] at hX;simp only[] at hX;have hu4:BE u.past=true\/u.tag.time=0:=by
  have hql:A5 w.places[k].chain n<w.places[k].chain.length:=by unfold A5;split<;>omega
  unfold Gd at hsh;rw[Da hql] at hsh;rcases Cp (Ip (hst _ (zcv hql)) hsh) with g | g
  ·exact .inr (DP g).1
  ·exact .inl (A3 g.1).2.2.2.1
 obtain ⟨o',ho',ho2⟩:=(m5.keep0 rtags_ok hv').get hmp;subst ho';simp only[Ver.cs] at e5;rw[Aj hh,e5,Ac,AO,Aa,Ab,Aa,Ab,Aa,Ab,Aa,Af,Aa,BH,Aa,AM,Ag,Ae hmp,Ad,Bb,ho2,Ad,Aa,Ab,Aa,Ab,Ag,Cf,Ac,Ao];cases hA:Fu u.tag.time u.tag.place w.sess[i].past[m].time w.sess[i].past[m].place with
 | true =>rw[show CT u.tag w.sess[i].past[m]=true from hA,cond_true] at hX;rw[Am];obtain ⟨cs',h',F',e,W,M,N⟩:=Hq.stay hX;exact ⟨cs',h',F',e,W,mq.trans M,N⟩
 | false =>
 rw[show CT u.tag w.sess[i].past[m]=false from hA,cond_false] at hX;rw[Av];unfold Kr at hX;by_cases ht:u.tag.time>0
 ·rw[decide_eq_true ht,cond_true] at hX;have hu4':u.past.length=4:=Be (hu4.resolve_right (by omega));obtain ⟨q6,x6,y6,h6,F6,e6,r6,m6⟩:=UR (lo:=lo) (m5.keep0 rtags_ok hv') r5 hp4 hu4' Hq.hl;obtain ⟨x7,y7,es7,r7⟩:=r6.form;have hj:(Do w.sess[i].past u.past).length=4:=by unfold Do;rw[zd5];omega
  obtain ⟨x8,y8,h8,F8,e8,r8,m8⟩:=Ko (lo:=lo) (k:=m) (t:=u.tag) r7 (by omega) (zcw Hq.hl m6.le) (by omega);obtain ⟨h9,F9,e9,q9,m9,_⟩:=Hq.past hi (m6.drop.trans m8) r8;obtain ⟨x10,y10,h10,F10,e10,q10,m10,_⟩:=Gc (d:=⟨i,2,(m:Nat),u.tag⟩) q9 (by show w.hist.length<=1000;omega);have W:=q10.at;simp only[World.cs,zc6] at e10 W;rw[Ak ht,e6,Ac,AO,Aa,es7,Ag,e8,Ac,AO,Aa,Af,Ag,e9,e10,Ac,AO,Aa,Af,Aa,Af,Aa,Af,Aa,Af,Ag,hX];exact ⟨_,h10,_,rfl,W,mq.trans (m9.trans m10),λg=>by first | cases g | (simp at g)⟩
 ·rw[decide_eq_false ht,cond_false] at hX;obtain ⟨x10,y10,h10,F10,e10,q10,m10,_⟩:=Gc (d:=⟨i,2,(m:Nat),u.tag⟩) Hq (by omega);have W:=q10.at;simp only[World.cs] at e10 W;have hse:w.sess.set i ⟨w.sess[i].place,w.sess[i].past,w.sess[i].wait,w.sess[i].key⟩=w.sess:=zdS hi;rw[Aj ht,e10,Ac,AO,Aa,Af,Aa,Af,Aa,Af,Aa,Af,Ag,hX];refine ⟨_,h10,_,rfl,?_,mq.trans m10,λg=>by first | cases g | (simp at g)⟩;simpa only [setS,zds,hse] using W
end


theorem zax {a b:Tag} (h1:a.time=b.time) (h2:a.place=b.place):a=b:=by cases a;cases b;simp_all
theorem Yr {p q:List Tag}{m:Nat}{a b:Tag} (hu:Bs p q=true) (ha:p[m]?=some a) (hb:q[m]?=some b):E4 a b=b:=by
 have:=under_iff.1 hu m a b ha hb;unfold E4 CT;rw[Eb] at this;cases hl:Fu a.time a.place b.time b.place with
 | true=>rfl
 | false =>rw[Eb] at hl;show a=b;exact zax (by omega) (by omega)
theorem RF {p q:List Tag}{m:Nat} (hm:m<p.length) (hq:p.length=q.length) (hu:Bs p q=true):Eo (q.take m++p.drop m) m (q[m]'(by omega))=q.take (m+1)++p.drop (m+1):=by
 have h1:(q.take m).length=m:=by simp;omega
 have h2:m<(q.take m++p.drop m).length:=by simp;omega
 have h3:(q.take m++p.drop m)[m]=p[m]:=by rw[zeo (by omega)];simp[h1]
 rw[KY h2,h3,Yr hu (Cz hm) (Cz (by omega)),zdR _ _ (by omega),h1,zd6,zdT (by omega),zcO,zcM hm];rfl
theorem MH {i:Nat}{l:List Tag}{m:Nat} (hm:m<l.length):(BB i l).take (m+1)=(BB i l).take m ++ [⟨i,2,(m:Nat),l[m]⟩]:=by
 have hl:(BB i l).length=l.length:=by unfold BB;simp
 rw[zdT (by omega)];congr 2;unfold BB;rw[List.getElem_map,zei];simp
section
variable {lo:Nat}{h h':Heap}{w:World}{a1 a2 a3 a4 a:Pq}{c1 c2 c3 c4 c:Nq}{F1 F2 F3 F4:List Nat}
theorem VY {kind num key:Int}{text:ByteArray}{gone:Bool}{i:Nat} (H:WR lo h w a1 c1 a2 c2 a3 c3 a4 c4 F1 F2 F3 F4) (hg:Fits w) (hi:i<w.sess.length) :
  ∃ cs' h' F',Ai lo 158 [.agg (w.cs a1 c1 a2 c2 a3 c3 a4 c4),.agg [Iv kind,Iv (i:Nat),Iv num,Iv key,.str text,.bool gone]] h=some (.tup [.agg cs',.bool (HG w i w.sess[i]).isSome],h') /\
   Pw lo h' cs' ((HG w i w.sess[i]).getD w) F'/\Mv h (F1++(F2++(F3++F4))) h' F'/\((HG w i w.sess[i])=none->cs'=w.cs a1 c1 a2 c2 a3 c3 a4 c4):=by
 suffices hk:∃ cs' h' F',_=some (V.tup [.agg cs',.bool (HG w i w.sess[i]).isSome],h')/\Pw lo h' cs' ((HG w i w.sess[i]).getD w) F'/\Mv h (F1++(F2++(F3++F4))) h' F'/\((HG w i w.sess[i])=none->cs'=w.cs a1 c1 a2 c2 a3 c3 a4 c4) from by obtain ⟨cs',h',F',e,hr⟩:=hk;exact ⟨cs',h',F',Um e,hr⟩
 have hso:=hg.ok.sess _ (zcv hi);obtain ⟨t1,t2,t3,t4,t5,t6⟩:=Bp hso;have hp4:=Be t2;have h80:=hg.ok.h80;obtain ⟨k,hpl⟩:∃ k:Nat,w.sess[i].place=(k:Int):=⟨w.sess[i].place.toNat,by omega⟩;have hk:k<w.places.length:=by have:=hg.ok.p3;omega
 obtain ⟨hpo,hme,hro⟩:=hg.at hk;have hn:=(Eh (Bv hpo) (by decide) (by decide) (by decide)).1;have hn1:=hn.1.1;have hch:=chain_iff.1 (AI hpo).2.2.2.1;have hpos:=hch.pos;have hX:HG w i w.sess[i]=bif !decide (w.sess[i].wait.time>0)&&(Bs w.sess[i].past (AR w.places[k].chain)&&Ct w 4) then some (setS w i ⟨w.sess[i].place,AR w.places[k].chain,w.sess[i].wait,w.sess[i].key⟩ (BB i (AR w.places[k].chain))) else none:=by unfold HG;rw[hpl,Bb,Cz hk]
 obtain ⟨b',i',v,e1',d1',Gs,rfl,hld',_,_,es',hv',_,hGn,puts⟩:=H.sess hi;obtain ⟨b,j,s1,s2,s3,b1,d1,b2,d2,b3,d3,G1,G2,G3,rfl,_,hc2,_,e1,e2,e3,g1,g2,g3,nd,hF,put⟩:=H.place hk;have hlast:=GC (l:=w.places[k].chain) (by omega);have hs4:=(hch.store (Cz (show w.places[k].chain.length - 1<w.places[k].chain.length by omega))).2;obtain ⟨o,z1,z2,p1,q1,p2,q2,H1,H2,rfl,_,ho1,_,ez1,_,gg1,_,hH1,_⟩:=g1.get (show w.places[k].chain.length - 1<w.places[k].chain.length by omega);generalize hst:(w.places[k].chain[w.places[k].chain.length - 1]'(by omega)).store=store at hlast hs4 ez1 gg1;obtain ⟨tv,h1,T1,e5,r5,m5⟩:=OY (lo:=h.length) gg1 (zcz _) (by omega);obtain ⟨x5,y5,es5,r5⟩:=r5.form;obtain ⟨Hq,mq⟩:=H.up0 m5.drop;rw[hlast] at hX;have htl:(Bg store).length=4:=by unfold Bg;rw[zdQ];exact hs4
 have loop:∀ (r m:Nat) (hh:Heap) (x1:Pq) (y1:Nq) (x2:Pq) (y2:Nq) (x3:Pq) (y3:Nq) (x4:Pq) (y4:Nq) (K1 K2 K3 K4:List Nat),m+r=4->Bs w.sess[i].past (Bg store)=true->w.hist.length<=76 ->
   WR lo hh (setS w i ⟨w.sess[i].place,(Bg store).take m++w.sess[i].past.drop m,w.sess[i].wait,w.sess[i].key⟩ ((BB i (Bg store)).take m)) x1 y1 x2 y2 x3 y3 x4 y4 K1 K2 K3 K4 ->
   RVers false hh [.sl 6 p1 store.length q1] store H1->(∀ y∈H1,y∈K1) ->
   ∃ cs' h' F',DX lo (m:Nat) x1 w.places.length y1 x2 w.sess.length y2 x3 w.net.length y3 x4 (w.hist++(BB i (Bg store)).take m).length y4 kind (i:Nat) num key text gone 0 none 0 (some 0) 0 none 0 (some 0) 0 none 0 (some 0) 0 none 0 (some 0) p1 store.length q1 hh=some (V.tup [.agg cs',.bool true],h') /\
    Pw lo h' cs' (setS w i ⟨w.sess[i].place,Bg store,w.sess[i].wait,w.sess[i].key⟩ (BB i (Bg store))) F'/\Mv hh (K1++(K2++(K3++K4))) h' F':=by
  intro r;induction r with
  | zero =>
   intro m hh x1 y1 x2 y2 x3 y3 x4 y4 K1 K2 K3 K4 hm hu hl Hm hv hK;have:m=4:=by omega
   subst this;have hrl:(BB i (Bg store)).length=4:=by unfold BB;simpa using htl
   have W:=Hm.at;rw[zc0 (by omega),zdk (by omega),zdc,zc0 (by omega)] at W;refine ⟨_,hh,_,?_,W,Mv.refl Hm.nd⟩;rw[DX.e,Aj (by omega),zc0 (by omega)];simp only[World.cs,setS,zc6]
  | succ r ih =>
   intro m hh x1 y1 x2 y2 x3 y3 x4 y4 K1 K2 K3 K4 hm hu hl Hm hv hK;have him:i<(setS w i ⟨w.sess[i].place,(Bg store).take m++w.sess[i].past.drop m,w.sess[i].wait,w.sess[i].key⟩ ((BB i (Bg store)).take m)).sess.length:=by simpa [setS] using hi
   obtain ⟨b0,i0,v0,e0,d0,G0,rfl,_,hld1,_,es0,hv0,_,_,_⟩:=Hm.sess him;have hss:(setS w i ⟨w.sess[i].place,(Bg store).take m++w.sess[i].past.drop m,w.sess[i].wait,w.sess[i].key⟩ ((BB i (Bg store)).take m)).sess[i]=⟨w.sess[i].place,(Bg store).take m++w.sess[i].past.drop m,w.sess[i].wait,w.sess[i].key⟩:=by simp[setS]
   have hpl4:((Bg store).take m++w.sess[i].past.drop m).length=4:=by simp;omega
   have hms:m<store.length:=by omega
   obtain ⟨o',_,_,_,_,ho',_,_,_,_,_,_,ho12,_⟩:=hv.all hms;have htm:(Bg store)[m]'(by omega)=store[m].tag:=by unfold Bg;rw[List.getElem_map]
   rw[hss] at es0 hv0;have es0:∀ {R':Type} (K:Pq->Nat->Nq->Option R'),eS 2 v0 K=K e0 ((Bg store).take m++w.sess[i].past.drop m).length d0:=es0;have hv0:RTags false hh [.sl 2 e0 ((Bg store).take m++w.sess[i].past.drop m).length d0] ((Bg store).take m++w.sess[i].past.drop m) G0:=hv0;obtain ⟨x8,y8,h8,F8,e8,r8,m8⟩:=Ko (lo:=lo) (k:=m) (t:=store[m].tag) hv0 (by omega) Hm.hl (by omega);rw[<- htm,RF (by omega) (by omega) hu] at r8;obtain ⟨h9,F9,e9,q9,m9,s9⟩:=Hm.past him m8 r8;have hv9:=rvers_ok.fr _ _ _ _ _ hv λy hy=>s9 y (hK y hy);obtain ⟨o9,_,_,_,_,ho9,_,_,_,_,_,_,ho129,_⟩:=hv9.all hms;have:o'=o9:=by rw[ho'] at ho9;injection ho9
   subst this;have hrt:((BB i (Bg store)).take m).length<=4:=by rw[zcS];omega
   obtain ⟨x10,y10,h10,F10,e10,q10,m10,s10⟩:=Gc (d:=⟨i,2,(m:Nat),store[m].tag⟩) q9 (by show (w.hist++_).length<=1000;rw[zcP];omega);have hv10:=rvers_ok.fr _ _ _ _ _ hv9 λy hy=>s10 y (hK y hy);simp only[setS,zdK,zdL,zcO] at q10;rw[<- htm,<- MH (by omega)] at q10;obtain ⟨cs',h',F',e,W,M⟩:=ih (m+1) h10 _ _ _ _ _ _ _ _ _ _ _ _ (by omega) hu hl q10 hv10 hK;refine ⟨cs',h',F',?_,W,(m9.trans m10).trans M⟩;simp only[World.cs,setS,zc6] at e9 e10;rw[hpl4] at es0 e8 e9;have hw8:(Eo ((Bg store).take m++w.sess[i].past.drop m) m store[m].tag).length=4:=by rw[XZ];exact hpl4
   rw[DX.e,Ak (by omega),Ae hi,Ad,Bb,hld1,Ad,Aa,es0,Ag,Ae hms,ho',Ad,Bb,ho12,Ad,Aa,Ab,Aa,Ab,Ag,e8,Ac,AO,Aa,Af,Ag,e9,Ae hms,Ad,ho129,Ad,Aa,Ab,Aa,Ab,Ag,e10,Ac,AO,Aa,Af,Aa,Af,Aa,Af,Aa,Af,Ag,Ar (by omega),<- ho'];rw[zcO,<- htm,<- MH (by omega)];exact e
 rw[Ae hi,Ad,Bb,hld',Ad,Aa,Ab,Aa,es',Aa,Ab,Aa,Ab,Aa,Ab,Ag,hpl,Ae hk,Ad,Bb,hc2,Ad,Aa,e1,Ag,wr (by omega) (by omega),Cl ⟨by omega,by omega⟩,Ad,show ((w.places[k].chain.length:Int) - 1).toNat=w.places[k].chain.length - 1 by omega,ho1,Ad,Aa,ez1,Ag];by_cases hw:w.sess[i].wait.time>0
 ·rw[Ak hw];exact H.stay (by rw[hX,decide_eq_true hw];rfl)
 rw[decide_eq_false hw,zdm,zcJ] at hX;rw[Aj hw,e5,Ac,AO,Aa,es5,Ag,Jd (m5.keep0 rtags_ok hv') r5 hp4 htl,Ac,Ao];cases hu:Bs w.sess[i].past (Bg store) with
 | false =>rw[Av];obtain ⟨cs',h',F',e,W,M,N⟩:=Hq.stay (X:=HG w i w.sess[i]) (by rw[hX,hu];rfl);exact ⟨cs',h',F',e,W,mq.trans M,N⟩
 | true =>
 rw[hu,zcJ] at hX;rw[Am,wr (by omega) (by omega)];by_cases hh:(w.hist.length:Int)+4>80
 ·rw[Ak hh];obtain ⟨cs',h',F',e,W,M,N⟩:=Hq.stay (X:=HG w i w.sess[i]) (by rw[hX,show Ct w 4=false from decide_eq_false (by omega)];rfl);exact ⟨cs',h',F',e,W,mq.trans M,N⟩
 rw[show Ct w 4=true from decide_eq_true (by omega),cond_true] at hX;have h0:setS w i ⟨w.sess[i].place,(Bg store).take 0++w.sess[i].past.drop 0,w.sess[i].wait,w.sess[i].key⟩ ((BB i (Bg store)).take 0)=w:=by have hse:w.sess.set i ⟨w.sess[i].place,w.sess[i].past,w.sess[i].wait,w.sess[i].key⟩=w.sess:=zdS hi;simp only[setS,List.take_zero,zc3,zdt,zdc,hse]
 have hH1:∀ y∈H1,y∈F1:=λy hy=>(hF y (zdl _ (hH1 y hy))).2.2
 obtain ⟨cs',h',F',e,W,M⟩:=loop 4 0 h1 _ _ _ _ _ _ _ _ _ _ _ _ (by omega) hu (by omega) (by rw[h0];exact Hq) (m5.keep0 rvers_ok gg1) hH1;simp only[List.take_zero,zdc] at e;rw[Aj hh,hX];exact ⟨cs',h',F',e,W,mq.trans M,λg=>by first | cases g | (simp at g)⟩
theorem OO {F:List Nat}{cs:List V}{X:Option World}{t:Ov} (ht:∃ cs' h' F',t=some (.tup [.agg cs',.bool X.isSome],h')/\Pw lo h' cs' (X.getD w) F'/\Mv h F h' F'/\(X=none->cs'=cs)) :
  ∃ cs' h' F',(Al t λv_2 h_3=>eU v_2 λc_4=>eC c_4 λv_5 l_6=>eA v_5 λc_7=>eC c_7 λv_8 l_9=>eS 6 (v_8) λa_10 n_11 c_12=>eC l_9 λv_13 l_14=>eS 5 (v_13) λa_15 n_16 c_17=>eC l_14 λv_18 l_19=>eS 9 (v_18) λa_20 n_21 c_22=>eC l_19 λv_23 l_24=>eS 5 (v_23) λa_25 n_26 c_27=>eN l_24 (eC l_6 λv_28 l_29=>eB v_28 (eN l_29 (some (V.tup [.agg [.sl 6 a_10 n_11 c_12,.sl 5 a_15 n_16 c_17,.sl 9 a_20 n_21 c_22,.sl 5 a_25 n_26 c_27],.bool true],h_3))) (eN l_29 (some (V.tup [.agg [.sl 6 a_10 n_11 c_12,.sl 5 a_15 n_16 c_17,.sl 9 a_20 n_21 c_22,.sl 5 a_25 n_26 c_27],.bool false],h_3)))))=some (.tup [.agg cs',.bool X.isSome],h')/\Pw lo h' cs' (X.getD w) F'/\Mv h F h' F'/\(X=none->cs'=cs):=by
 obtain ⟨cs',h',F',rfl,W,M,N⟩:=ht;refine ⟨cs',h',F',?_,W,M,N⟩;obtain ⟨x1,y1,x2,y2,x3,y3,x4,y4,K1,K2,K3,K4,rfl,_,_⟩:=W;rw[Ac,Gn,Aa,AO,Aa,Af,Aa,Af,Aa,Af,Aa,Af,Ag,Aa,Ao];cases X.isSome
 ·rw[Av,Ag]
 ·rw[Am,Ag]
theorem RJ {e:Event} (H:WR lo h w a1 c1 a2 c2 a3 c3 a4 c4 F1 F2 F3 F4) (hg:Fits w) (ht:e.text.size<=1048576) :
  ∃ cs' h' F',Ai lo 123 [.agg (w.cs a1 c1 a2 c2 a3 c3 a4 c4),.agg e.cs] h=some (.tup [.agg cs',.bool (CS w e).isSome],h')/\Pw lo h' cs' ((CS w e).getD w) F'/\Mv h (F1++(F2++(F3++F4))) h' F'/\((CS w e)=none->cs'=w.cs a1 c1 a2 c2 a3 c3 a4 c4):=by
 obtain ⟨kind,at',num,key,text,gone⟩:=e;suffices hk:∃ cs' h' F',_=some (V.tup [.agg cs',.bool (CS w ⟨kind,at',num,key,text,gone⟩).isSome],h')/\Pw lo h' cs' ((CS w ⟨kind,at',num,key,text,gone⟩).getD w) F'/\Mv h (F1++(F2++(F3++F4))) h' F'/\((CS w ⟨kind,at',num,key,text,gone⟩)=none->cs'=w.cs a1 c1 a2 c2 a3 c3 a4 c4) from by obtain ⟨cs',h',F',e,hr⟩:=hk;exact ⟨cs',h',F',Px e,hr⟩
 have hs4:=hg.ok.s4;unfold CS;rw[wr (by omega) (by omega),B8,Ac,Ao];cases hat:Ah at' 0 ((w.sess.length:Int) - 1) with
 | false=>rw[Av];exact H.stay rfl
 | true =>
 simp only[Ah,CA,decide_eq_true_eq] at hat;obtain ⟨i,rfl⟩:∃ i:Nat,at'=(i:Int):=⟨at'.toNat,by omega⟩;have hi:i<w.sess.length:=by omega
 rw[Am,cond_true,Bb,Cz hi];simp only[];cases h1:kind==1 with
 | true=>rw[Am,cond_true];exact OO (Tr H hg ht hi)
 | false =>
 rw[Av,cond_false];cases h2:kind==2 with
 | true=>rw[Am,cond_true];exact OO (VX H hg hi)
 | false =>
 rw[Av,cond_false];cases h3:kind==3 with
 | true=>rw[Am,cond_true];exact OO (UJ H hg hi)
 | false =>
 rw[Av,cond_false];cases h4:kind==4 with
 | true=>rw[Am,cond_true];exact OO (VY H hg hi)
 | false =>
 rw[Av,cond_false];obtain ⟨b',i',v,e1',d1',Gs,rfl,_,_,hld2,es',hv',hv,hGn,puts⟩:=H.sess hi;rw[Ae hi,Ad,hld2,Ad,Aa,Ag,Ab];unfold LI;by_cases hw:w.sess[i].wait.time>0
 ·rw[Ak hw];exact H.stay (by rw[decide_eq_true hw];rfl)
 rw[Aj hw,decide_eq_false hw,zdm,zcJ,B8,Ac,Ao];cases hwn:Ah num 0 2 with
 | false=>rw[Av];exact H.stay rfl
 | true =>
 obtain ⟨h2',F5,e2,q2,m2,_⟩:=puts h Gs 0 [Iv num] [Iv num,v,Iv w.sess[i].wait.time,Iv w.sess[i].wait.place,Iv w.sess[i].key] ⟨num,w.sess[i].past,w.sess[i].wait,w.sess[i].key⟩ (Mv.refl hGn) rfl ⟨v,rfl,hv⟩;have W:=q2.at;simp only[World.cs,zc6] at W;rw[Am,Ae hi,Ad,e2,Ad,cond_true];refine ⟨_,h2',_,rfl,?_,m2,λg=>by first | cases g | (simp at g)⟩;simpa only [setS,zds,zdc] using W
theorem SE {e:Event} (H:WR lo h w a1 c1 a2 c2 a3 c3 a4 c4 F1 F2 F3 F4) (hg:Fits w) (ht:e.text.size<=1048576) :
  ∃ cs' h' F',Ai lo 76 [.agg (w.cs a1 c1 a2 c2 a3 c3 a4 c4),.agg e.cs] h=some (.tup [.agg cs',.bool (CN w e).isSome],h')/\Pw lo h' cs' (JX w e) F'/\Mv h (F1++(F2++(F3++F4))) h' F'/\((CN w e)=none->cs'=w.cs a1 c1 a2 c2 a3 c3 a4 c4):=by
 have hc:=RJ H hg ht;have hp:=Ts (e:=e) H hg;have hn:=VW (e:=e) H hg;obtain ⟨kind,at',num,key,text,gone⟩:=e;unfold JX;suffices hk:∃ cs' h' F',_=some (V.tup [.agg cs',.bool (CN w ⟨kind,at',num,key,text,gone⟩).isSome],h')/\Pw lo h' cs' ((CN w ⟨kind,at',num,key,text,gone⟩).getD w) F'/\Mv h (F1++(F2++(F3++F4))) h' F'/\((CN w ⟨kind,at',num,key,text,gone⟩)=none->cs'=w.cs a1 c1 a2 c2 a3 c3 a4 c4) from by obtain ⟨cs',h',F',e,hr⟩:=hk;exact ⟨cs',h',F',VN e,hr⟩
 rw[B8,Ac,Ao];unfold CN;cases h1:Ah kind 1 5 with
 | true=>rw[Am,cond_true];exact OO hc
 | false =>
 rw[Av,cond_false,B8,Ac,Ao];cases h2:Ah kind 6 9 with
 | true=>rw[Am,cond_true];exact OO hp
 | false =>
 rw[Av,cond_false,B8,Ac,Ao];unfold U3 at hn;cases h3:kind==10 with
 | true =>
  have h4:Ah kind 10 13=true:=by rw[beq_iff_eq] at h3;subst h3;rfl
  simp only[h3,cond_true] at hn;rw[h4,Am,cond_true];exact OO hn
 | false =>
  simp only[h3,cond_false] at hn;rw[cond_false];cases h4:Ah kind 11 13 with
  | true =>
   have h5:Ah kind 10 13=true:=by simp[Ah] at h4 ⊢;omega
   rw[h5,Am,cond_true];exact OO hn
  | false =>
   have h5:Ah kind 10 13=false:=by rw[beq_eq_false_iff_ne] at h3;simp[Ah] at h4 ⊢;omega
   rw[h5,Av];exact H.stay rfl
end


def ML (m:Nat) (n:Nat):Place:=⟨(m:Int),0,List.replicate n ⟨JG,[]⟩,[],[[],[],[]],false⟩
def zaR (i:Nat):Sess:=⟨((i % 3:Nat):Int),SR,⟨0,0⟩,0⟩
def D6 (n s:Nat):World:=⟨(List.range 3).map λi=>ML i n,(List.range s).map zaR,[],[]⟩
theorem zaS {m n:Nat} (h1:1<=n) (h4:n<=4) (hm:m<=2):As (ML m n)=true:=by
 have hc:∀ n:Fin 5,1<=n.val->∀ m:Fin 3,As (ML m.val n.val)=true:=by decide +kernel
 exact hc ⟨n,by omega⟩ h1 ⟨m,by omega⟩
theorem Yq {m n:Nat} (h1:1<=n) (h4:n<=4) (hm:m<=2):Roomy (ML m n):=by
 have hz:∀ v,inCh (ML m n).chain v->v.tag.time=0:=λv ⟨x,hx,hv⟩=>by
  have hx:=(List.mem_replicate.1 hx).2;subst hx;rcases hv with hv | hv
  ·have:∀ v∈JG,v.tag.time=0:=by simp[JG,UD]
   exact this v hv
  ·simp at hv
 refine ⟨⟨[],by simp,by simp[ML],λv hv ht=>by have:=hz v hv;omega⟩,λv hv ht=>?_⟩;have hpos:0<(ML m n).chain.length:=by show 0<(List.replicate _ _).length;rw[zdq];omega
 have hl:=E5 hpos;rw[hl] at hv;have:=hz v ⟨_,zcv (by omega),.inl hv⟩;omega
theorem zaQ {i:Nat}:DH (zaR i)=true:=by
 have hc:∀ m:Fin 3,DH ⟨((m.val:Nat):Int),SR,⟨0,0⟩,0⟩=true:=by decide +kernel
 exact hc ⟨i % 3,zeh _ (by decide)⟩
theorem Jo {n s:Nat} (h1:1<=n) (h4:n<=4) (hs:s<=4):Good (D6 n s):=by
 have hp:∀ (i:Nat) (p:Place),(D6 n s).places[i]?=some p->i<3/\p=ML i n:=λi p hp=>by simp only[D6,zd0,zc2] at hp;obtain ⟨j,hj,rfl⟩:=hp;obtain ⟨hi,rfl⟩:=Ea hj;rw[List.length_range] at hi;exact ⟨hi,by rw[List.getElem_range]⟩
 refine ⟨⟨by simp[D6],by simp[D6,hs],by simp[D6],by simp[D6],λi p h=>?_,λx hx=>?_,by simp[D6],by simp[D6],λi p k g h hg=>?_⟩,λp h=>?_⟩
 ·obtain ⟨hi,rfl⟩:=hp i p h;exact ⟨rfl,zaS h1 h4 (by omega)⟩
 ·simp only[D6,zeb] at hx;obtain ⟨i,_,rfl⟩:=hx;exact zaQ
 ·obtain ⟨hi,rfl⟩:=hp i p h;refine ⟨EE (D6 n s).places k,?_⟩;have:g = []:=by
   have:(ML i n).got=List.replicate 3 []:=rfl;rw[this,List.getElem?_replicate] at hg;split at hg
   ·injection hg with hg;exact hg.symm
   ·cases hg
  rw[this];rfl
 ·obtain ⟨i,hi⟩:=zcT.1 h;obtain ⟨h3,rfl⟩:=hp i p hi;exact Yq h1 h4 (by omega)
section
variable {lo:Nat}{h h':Heap}{w:World}{a1 a2 a3 a4 a:Pq}{c1 c2 c3 c4 c:Nq}{F F' F1 F2 F3 F4:List Nat}
theorem WR.of {cs:List V} (hw:Xh false h cs w F) (hnd:F.Nodup) (hge:∀ y∈F,lo<=y) (hl:lo<=h.length):∃ s1 s2 s3 s4 a1 c1 a2 c2 a3 c3 a4 c4 F1 F2 F3 F4,cs = [s1,s2,s3,s4]/\F=F1++(F2++(F3++F4)) /\
  (∀ {T:Type} (K:Pq->Nat->Nq->Option T),eS 6 s1 K=K a1 w.places.length c1)/\(∀ {T:Type} (K:Pq->Nat->Nq->Option T),eS 5 s2 K=K a2 w.sess.length c2) /\
  (∀ {T:Type} (K:Pq->Nat->Nq->Option T),eS 9 s3 K=K a3 w.net.length c3)/\(∀ {T:Type} (K:Pq->Nat->Nq->Option T),eS 5 s4 K=K a4 w.hist.length c4)/\WR lo h w a1 c1 a2 c2 a3 c3 a4 c4 F1 F2 F3 F4:=by
 obtain ⟨s1,s2,s3,s4,F1,F2,F3,F4,rfl,rfl,r1,r2,r3,r4⟩:=hw;obtain ⟨a1,c1,e1,r1⟩:=r1.form;obtain ⟨a2,c2,e2,r2⟩:=r2.form;obtain ⟨a3,c3,e3,r3⟩:=r3.form;obtain ⟨a4,c4,e4,r4⟩:=r4.form;exact ⟨s1,s2,s3,s4,a1,c1,a2,c2,a3,c3,a4,c4,F1,F2,F3,F4,rfl,rfl,e1,e2,e3,e4,r1,r2,r3,r4,hnd,hge,hl⟩
theorem VZ {m n:Nat} (h1:1<=n) (h4:n<=4) :
  ∃ raw b1 d1 b3 d3 h' F',Ai lo 121 [Iv (m:Nat),Iv (n:Nat)] h=some (.agg raw,h')/\raw = [Iv (m:Nat),Iv 0,.sl 2 b1 n d1,.sl 0 none 0 (some 0),.sl 1 b3 3 d3,.bool false] /\
   RPlace false h' [Iv (m:Nat),Iv 0,.sl 2 b1 n d1,.sl 6 none 0 (some 0),.sl 1 b3 3 d3,.bool false] (ML m n) F'/\Mv h [] h' F':=by
 obtain ⟨v,h2,F2,e2,r2,m2⟩:=RL (lo:=h.length) (h:=h) h1 h4 (zcz _);obtain ⟨b1,d1,es,r2⟩:=r2.form;rw[zdq] at es r2;have mx:Mv h2 [] (h2 ++ [.rows 1 50 false [[.sl 0 none 0 (some 0)],[.sl 0 none 0 (some 0)],[.sl 0 none 0 (some 0)]]]) [h2.length]:=Mv.last;have m3:=m2.join mx (rnodes_ok.bd _ _ _ _ r2);refine ⟨_,b1,d1,some (h2.length,0),some 3,_,F2 ++ [h2.length],Un ?_,rfl,⟨_,_,_,F2,[],[h2.length],rfl,rfl,mx.keep0 rnodes_ok r2,Sli.nil,?_⟩,m3⟩
 ·rw[e2,Ac,AO,Aa,es,Ag]
 ·refine ⟨1,some (h2.length,0),some 3,rfl,rfl,[[.sl 0 none 0 (some 0)],[.sl 0 none 0 (some 0)],[.sl 0 none 0 (some 0)]],[[],[],[]],by simp,zcz 3,λk hk=>by injection hk with hk;subst hk;exact ⟨zcz 3,zcz 3⟩,(λhk=>by cases hk),?_,rfl⟩;exact ⟨Sli.nil,Sli.nil,Sli.nil,trivial⟩
end


section
variable {lo:Nat}{h h':Heap}{w:World}{a1 a2 a3 a4 a:Pq}{c1 c2 c3 c4 c:Nq}{F F' F1 F2 F3 F4:List Nat}
theorem XN {T:Type} (K:Pq->Nat->Nq->Option T):eS 6 (.sl 0 none 0 (some 0)) K=K none 0 (some 0):=rfl
theorem Qb {n s:Nat} (h1:1<=n) (h4:n<=4) (hs:s<=1000) (hl:lo<=h.length):∃ cs h' F',Ai lo 75 [Iv (n:Nat),Iv (s:Nat)] h=some (.agg cs,h')/\Xh false h' cs (D6 n s) F'/\Mv h [] h' F':=by
 obtain ⟨q1,x1,y1,h1',F1,e1,r1,m1⟩:=IB (El:=RPlace false) rplace_ok (h:=h) (l:=List.range 3) (f:=λi=>ML i n) (lo:=lo) (R:=6) (e:=60) (bytes:=96) hl (by decide) (by decide)
  (λi q a n1 c hh=>DW lo (n:Nat) (s:Nat) (i:Nat) 0 none 0 (some 0) 0 none 0 (some 0) 0 none 0 (some 0) 0 none 0 (some 0) q a n1 c 0 none 0 (some 0) 0 none 0 (some 0) 0 none 0 (some 0) hh) (λi hi q a n1 c hh hm=>by
   rw[List.length_range] at hi;obtain ⟨raw,b1,d1,b3,d3,h2,F2,e2,rfl,r2,m2⟩:=VZ (lo:=lo) (h:=hh) (m:=i) h1 h4;refine ⟨[Iv (i:Nat),Iv 0,.sl 2 b1 n d1,.sl 6 none 0 (some 0),.sl 1 b3 3 d3,.bool false],F2,h2 ++ [.rows 6 60 false [[Iv (i:Nat),Iv 0,.sl 2 b1 n d1,.sl 6 none 0 (some 0),.sl 1 b3 3 d3,.bool false]]],by rw[List.getElem_range];exact Mv.snoc.keep0 rplace_ok r2,m2.trans (Mv.snoc' m2.nd),?_⟩;rw[DW.e,Ak (by omega),e2,Ac,AO,Aa,Ab,Aa,Ab,Aa,Af,Aa,XN,Aa,Af,Aa,AM,Ag,A9,Ar (by omega)])
 obtain ⟨q2,x2,y2,h2',F2,e2,r2,m2⟩:=IB (El:=RSess false) Jm (h:=h1') (l:=List.range s) (f:=zaR) (lo:=lo) (R:=5) (e:=72) (bytes:=56) (zcw hl m1.le) (by decide) (by rw[List.length_range];omega)
  (λi q a n1 c hh=>DV lo (s:Nat) (i:Nat) 0 none 0 (some 0) 0 none 0 (some 0) 0 none 0 (some 0) 0 none 0 (some 0) q1 x1 3 y1 q a n1 c 0 none 0 (some 0) 0 none 0 (some 0) hh) (λi hi q a n1 c hh hm=>by
   rw[List.length_range] at hi;obtain ⟨h2,q3,e3,t3,m3⟩:=UQ (lo:=lo) (h:=hh);have ht:((i:Int).tmod 3)=((i % 3:Nat):Int):=(Int.ofNat_tmod i 3).symm;refine ⟨[Iv ((i % 3:Nat):Int),.sl 2 (some (q3,0)) 4 (some 4),Iv 0,Iv 0,Iv 0],[q3],h2 ++ [.rows 5 72 false [[Iv ((i % 3:Nat):Int),.sl 2 (some (q3,0)) 4 (some 4),Iv 0,Iv 0,Iv 0]]],by rw[List.getElem_range];exact ⟨_,rfl,Mv.snoc.keep0 rtags_ok t3⟩,m3.trans (Mv.snoc' m3.nd),?_⟩;rw[DV.e,Ak (by omega),e3,Ac,AO,Aa,Af,Ag,ht,A9,Ar (by omega)])
 rw[List.length_range] at e1 r1 e2 r2;have m3:=m1.join m2 ((Sli.ok rplace_ok).bd _ _ _ _ r1);refine ⟨[.sl q1 x1 3 y1,.sl q2 x2 s y2,.sl 0 none 0 (some 0),.sl 0 none 0 (some 0)],h2',F1++(F2++([] ++ [])),Uj ?_,⟨_,_,_,_,F1,F2,[],[],rfl,rfl,m2.keep0 rplaces_ok r1,r2,Sli.nil,Sli.nil⟩,by simpa using m3⟩;refine e1.trans ?_;rw[DW.e,Aj (by omega)];refine e2.trans ?_;rw[DV.e,Aj (by omega)]
end


section
variable {lo:Nat}{h h':Heap}{w:World}{a1 a2 a3 a4 a:Pq}{c1 c2 c3 c4 c:Nq}{F F' F1 F2 F3 F4:List Nat}{b n:Nat}
theorem WQ {n2 n3 n4:Nat} (r:Rd lo h b n) (hn:n<=500000) (hp:RPlaces false h [.sl 6 a1 w.places.length c1] w.places F1) (hb:b∉F1) (h3:w.places.length=3) (hgot:∀ p∈w.places,p.got.length=3) :
  ∃ (e:Event) (h':Heap),Ai lo 103 [.ptr (some (b,(0,0))),.agg [.sl 6 a1 w.places.length c1,.sl 5 a2 n2 c2,.sl 9 a3 n3 c3,.sl 5 a4 n4 c4]] h=some (.agg e.cs,h')/\e.text.size<=10/\Rd lo h' b (n+20)/\Mv h [b] h' [b]:=by
 suffices hk:∃ (e:Event) (h':Heap),_=some (V.agg e.cs,h')/\e.text.size<=10/\Rd lo h' b (n+20)/\Mv h [b] h' [b] from by obtain ⟨e,h',g,hr⟩:=hk;exact ⟨e,h',PC g,hr⟩
 obtain ⟨at',h1,e1,g1,g1',r1,m1⟩:=pick r (by omega) 3;obtain ⟨x,h2,e2,g2,g2',r2,m2⟩:=pick r1 (by omega) 20;have m12:=m1.trans m2;have h03:=g1' (by omega);have told:∀ (y:Int) (k:Heap),Ai lo 33 [.ptr (some (b,(0,0))),Iv 3] h2=some (Iv y,k)->0<=y->y<3->Rd lo k b (n+1+1+1)->Mv h2 [b] k [b] ->
   ∃ (e:Event) (h':Heap),(Al (Ai lo 33 [.ptr (some (b,(0,0))),Iv 3] h2) λv_0 h_1=>eI .i64 v_0 λn_2=>AB n_2 w.places.length (eO a1 λo=>eO (ld h_1 o.1 (o.2+n_2.toNat) 4 1) λo=>eC o λo s=>eN s (eS 1 o λo s b=>AB at' s (eO o λo=>eO (ld h_1 o.1 (o.2+at'.toNat) 0 1) λo=>eC o λo s=>eN s (eS 6 o λo o s=>some (V.agg [Iv 10,Iv at',Iv n_2,Iv ((o:Nat):Int),.str ⟨⟨[]⟩⟩,.bool false],h_1))))))=some (V.agg e.cs,h')/\e.text.size<=10/\Rd lo h' b (n+20)/\Mv h [b] h' [b]:=by
  intro y k f lo1 hi1 q u;obtain ⟨j,rfl⟩:∃ j:Nat,y=(j:Int):=⟨y.toNat,by omega⟩;obtain ⟨i,rfl⟩:∃ i:Nat,at'=(i:Int):=⟨at'.toNat,by omega⟩;have hj:j<w.places.length:=by omega
  have hg3:=hgot _ (zcv hj);have m3:=m12.trans u;obtain ⟨o,s1,s2,s3,b1,d1,b2,d2,b3,d3,G1,G2,G3,ha,_,_,_,_,ho,_,_,es3,_,_,p3,_⟩:=(m3.keep rplaces_ok hp λy hy hm=>hb (by rw[zcQ] at hm;exact hm ▸ hy)).get hj;obtain ⟨o',row,G,ha',ho',hel,_⟩:=p3.read (show i<w.places[j].got.length by omega);obtain ⟨v,rfl⟩:∃ v,row = [v]:=by obtain ⟨R',a',c',e,_⟩:=id hel;exact ⟨_,e⟩
  obtain ⟨b4,d4,es4,_⟩:=hel.form;have ld4:ld k o'.1 (o'.2+i) 0 1=some [v]:=by rw[ho'];rfl
  rw[f,Ac,Ab,Ae hj,ha,Ad,Bb,ho,Ad,Aa,Ag,es3,Ae (by omega),ha',Ad,Bb,ld4,Ad,Aa,Ag,es4];exact ⟨⟨10,(i:Nat),(j:Nat),((w.places[j].got[i]'(by omega)).length:Nat),⟨⟨[]⟩⟩,false⟩,k,rfl,zcY _,q.up (by omega),m3⟩
 rw[e1,Ac,Ab,e2,Ac,Ab];cases x==(0:Int) with
 | true =>rw[Am];obtain ⟨y1,k1,f1,lo1,hi1,q1,u1⟩:=pick r2 (by omega) 4;obtain ⟨y2,k2,f2,lo2,hi2,q2,u2⟩:=pick q1 (by omega) 4;obtain ⟨y3,k3,f3,g3,q3,u3⟩:=L9 q2 (by omega);rw[f1,Ac,Ab,f2,Ac,Ab,f3,Ac,BH];exact ⟨⟨1,y1,0,y2,y3,false⟩,k3,rfl,zcw (Gb g3) (by decide),q3.up (by omega),((((m1.trans m2).trans u1).trans u2).trans u3)⟩
 | false =>
 rw[Av];cases x==(1:Int) with
 | true =>rw[Am];obtain ⟨y1,k1,f1,lo1,hi1,q1,u1⟩:=pick r2 (by omega) 4;obtain ⟨y2,k2,f2,lo2,hi2,q2,u2⟩:=pick q1 (by omega) 4;obtain ⟨y3,k3,f3,g3,q3,u3⟩:=L9 q2 (by omega);rw[f1,Ac,Ab,f2,Ac,Ab,f3,Ac,BH];exact ⟨⟨1,y1,0,y2,y3,false⟩,k3,rfl,zcw (Gb g3) (by decide),q3.up (by omega),((((m1.trans m2).trans u1).trans u2).trans u3)⟩
 | false =>
 rw[Av];cases x==(2:Int) with
 | true =>rw[Am];obtain ⟨y1,k1,f1,lo1,hi1,q1,u1⟩:=pick r2 (by omega) 4;obtain ⟨y2,k2,f2,lo2,hi2,q2,u2⟩:=pick q1 (by omega) 4;obtain ⟨y3,k3,f3,g3,q3,u3⟩:=L9 q2 (by omega);rw[f1,Ac,Ab,f2,Ac,Ab,f3,Ac,BH];exact ⟨⟨1,y1,0,y2,y3,false⟩,k3,rfl,zcw (Gb g3) (by decide),q3.up (by omega),((((m1.trans m2).trans u1).trans u2).trans u3)⟩
 | false =>
 rw[Av];cases x==(3:Int) with
 | true =>rw[Am];obtain ⟨y1,k1,f1,lo1,hi1,q1,u1⟩:=pick r2 (by omega) 4;obtain ⟨y2,k2,f2,lo2,hi2,q2,u2⟩:=pick q1 (by omega) 4;rw[f1,Ac,Ab,f2,Ac,Ab];exact ⟨⟨1,y1,0,y2,⟨⟨[]⟩⟩,true⟩,k2,rfl,zcY _,q2.up (by omega),(((m1.trans m2).trans u1).trans u2)⟩
 | false =>
 rw[Av];cases x==(4:Int) with
 | true =>rw[Am];obtain ⟨y1,k1,f1,lo1,hi1,q1,u1⟩:=pick r2 (by omega) 4;rw[f1,Ac,Ab];exact ⟨⟨2,y1,0,0,⟨⟨[]⟩⟩,false⟩,k1,rfl,zcY _,q1.up (by omega),((m1.trans m2).trans u1)⟩
 | false =>
 rw[Av];cases x==(5:Int) with
 | true =>rw[Am];obtain ⟨y1,k1,f1,lo1,hi1,q1,u1⟩:=pick r2 (by omega) 4;rw[f1,Ac,Ab];exact ⟨⟨2,y1,0,0,⟨⟨[]⟩⟩,false⟩,k1,rfl,zcY _,q1.up (by omega),((m1.trans m2).trans u1)⟩
 | false =>
 rw[Av];cases x==(6:Int) with
 | true =>rw[Am];obtain ⟨y1,k1,f1,lo1,hi1,q1,u1⟩:=pick r2 (by omega) 4;rw[f1,Ac,Ab];exact ⟨⟨2,y1,0,0,⟨⟨[]⟩⟩,false⟩,k1,rfl,zcY _,q1.up (by omega),((m1.trans m2).trans u1)⟩
 | false =>
 rw[Av];cases x==(7:Int) with
 | true =>rw[Am];obtain ⟨y1,k1,f1,lo1,hi1,q1,u1⟩:=pick r2 (by omega) 4;obtain ⟨y2,k2,f2,lo2,hi2,q2,u2⟩:=pick q1 (by omega) 4;obtain ⟨y3,k3,f3,lo3,hi3,q3,u3⟩:=pick q2 (by omega) 4;rw[f1,Ac,Ab,f2,Ac,Ab,f3,Ac,Ab];exact ⟨⟨3,y1,y2,y3,⟨⟨[]⟩⟩,false⟩,k3,rfl,zcY _,q3.up (by omega),((((m1.trans m2).trans u1).trans u2).trans u3)⟩
 | false =>
 rw[Av];cases x==(8:Int) with
 | true =>rw[Am];obtain ⟨y1,k1,f1,lo1,hi1,q1,u1⟩:=pick r2 (by omega) 4;obtain ⟨y2,k2,f2,lo2,hi2,q2,u2⟩:=pick q1 (by omega) 4;obtain ⟨y3,k3,f3,lo3,hi3,q3,u3⟩:=pick q2 (by omega) 4;rw[f1,Ac,Ab,f2,Ac,Ab,f3,Ac,Ab];exact ⟨⟨3,y1,y2,y3,⟨⟨[]⟩⟩,false⟩,k3,rfl,zcY _,q3.up (by omega),((((m1.trans m2).trans u1).trans u2).trans u3)⟩
 | false =>
 rw[Av];cases x==(9:Int) with
 | true =>rw[Am];obtain ⟨y1,k1,f1,lo1,hi1,q1,u1⟩:=pick r2 (by omega) 4;obtain ⟨y2,k2,f2,lo2,hi2,q2,u2⟩:=pick q1 (by omega) 4;obtain ⟨y3,k3,f3,lo3,hi3,q3,u3⟩:=pick q2 (by omega) 4;rw[f1,Ac,Ab,f2,Ac,Ab,f3,Ac,Ab];exact ⟨⟨3,y1,y2,y3,⟨⟨[]⟩⟩,false⟩,k3,rfl,zcY _,q3.up (by omega),((((m1.trans m2).trans u1).trans u2).trans u3)⟩
 | false =>
 rw[Av];cases x==(10:Int) with
 | true =>rw[Am];obtain ⟨y1,k1,f1,g1,q1,u1⟩:=HA (e:=3) [4,5] (rows := [[Iv 4],[Iv 5]]) (len:=2) (cc:=some 2) r2 (by omega) rfl rfl (by decide);obtain ⟨y2,k2,f2,lo2,hi2,q2,u2⟩:=pick q1 (by omega) 4;obtain ⟨y3,k3,f3,lo3,hi3,q3,u3⟩:=pick q2 (by omega) 3;rw[f1,Ac,Ab,f2,Ac,Ab,f3,Ac,Ab];exact ⟨⟨y1,y2,y3,0,⟨⟨[]⟩⟩,false⟩,k3,rfl,zcY _,q3.up (by omega),((((m1.trans m2).trans u1).trans u2).trans u3)⟩
 | false =>
 rw[Av];cases x==(11:Int) with
 | true =>rw[Am];obtain ⟨y1,k1,f1,g1,q1,u1⟩:=HA (e:=3) [0,0,1,2] (rows := [[Iv 0],[Iv 0],[Iv 1],[Iv 2]]) (len:=4) (cc:=some 4) r2 (by omega) rfl rfl (by decide);rw[f1,Ac,Ab];exact ⟨⟨6,at',y1,0,⟨⟨[]⟩⟩,false⟩,k1,rfl,zcY _,q1.up (by omega),((m1.trans m2).trans u1)⟩
 | false =>
 rw[Av];cases x==(12:Int) with
 | true =>rw[Am];obtain ⟨y1,k1,f1,g1,q1,u1⟩:=HA (e:=3) [0,0,1,2] (rows := [[Iv 0],[Iv 0],[Iv 1],[Iv 2]]) (len:=4) (cc:=some 4) r2 (by omega) rfl rfl (by decide);rw[f1,Ac,Ab];exact ⟨⟨6,at',y1,0,⟨⟨[]⟩⟩,false⟩,k1,rfl,zcY _,q1.up (by omega),((m1.trans m2).trans u1)⟩
 | false =>
 rw[Av];cases x==(13:Int) with
 | true =>rw[Am];obtain ⟨y1,k1,f1,g1,q1,u1⟩:=HA (e:=3) [0,0,1,2] (rows := [[Iv 0],[Iv 0],[Iv 1],[Iv 2]]) (len:=4) (cc:=some 4) r2 (by omega) rfl rfl (by decide);rw[f1,Ac,Ab];exact ⟨⟨6,at',y1,0,⟨⟨[]⟩⟩,false⟩,k1,rfl,zcY _,q1.up (by omega),((m1.trans m2).trans u1)⟩
 | false =>
 rw[Av];cases x==(14:Int) with
 | true =>rw[Am];obtain ⟨y1,k1,f1,g1,q1,u1⟩:=HA (e:=3) [7,8] (rows := [[Iv 7],[Iv 8]]) (len:=2) (cc:=some 2) r2 (by omega) rfl rfl (by decide);obtain ⟨y2,k2,f2,lo2,hi2,q2,u2⟩:=pick q1 (by omega) 4;rw[f1,Ac,Ab,f2,Ac,Ab];exact ⟨⟨y1,at',y2,0,⟨⟨[]⟩⟩,false⟩,k2,rfl,zcY _,q2.up (by omega),(((m1.trans m2).trans u1).trans u2)⟩
 | false =>
 rw[Av];cases x==(15:Int) with
 | true =>rw[Am];obtain ⟨y1,k1,f1,lo1,hi1,q1,u1⟩:=pick r2 (by omega) 3;rw[f1,Ac,Ab];exact ⟨⟨9,at',y1,0,⟨⟨[]⟩⟩,false⟩,k1,rfl,zcY _,q1.up (by omega),((m1.trans m2).trans u1)⟩
 | false =>
 rw[Av];cases x==(16:Int) with
 | true =>rw[Am];obtain ⟨y1,k1,f1,lo1,hi1,q1,u1⟩:=pick r2 (by omega) 3;rw[f1,Ac,Ab];exact ⟨⟨9,at',y1,0,⟨⟨[]⟩⟩,false⟩,k1,rfl,zcY _,q1.up (by omega),((m1.trans m2).trans u1)⟩
 | false =>
 rw[Av];cases x==(17:Int) with
 | true =>rw[Am];obtain ⟨y1,k1,f1,lo1,hi1,q1,u1⟩:=pick r2 (by omega) 3;exact told y1 k1 f1 lo1 (hi1 (by omega)) q1 u1
 | false =>
 rw[Av];cases x==(18:Int) with
 | true =>rw[Am];obtain ⟨y1,k1,f1,lo1,hi1,q1,u1⟩:=pick r2 (by omega) 3;exact told y1 k1 f1 lo1 (hi1 (by omega)) q1 u1
 | false =>
 rw[Av];obtain ⟨y1,k1,f1,g1,q1,u1⟩:=HA (e:=3) [11,11,11,12,13,0,14] (rows := [[Iv 11],[Iv 11],[Iv 11],[Iv 12],[Iv 13],[Iv 0],[Iv 14]]) (len:=7) (cc:=some 7) r2 (by omega) rfl rfl (by decide);obtain ⟨y2,k2,f2,lo2,hi2,q2,u2⟩:=pick q1 (by omega) 3;rw[f1,Ac,Ab,f2,Ac,Ab];exact ⟨⟨y1,y2,0,0,⟨⟨[]⟩⟩,false⟩,k2,rfl,zcY _,q2.up (by omega),(((m1.trans m2).trans u1).trans u2)⟩
end


abbrev REvents:Rel (List Event):=Sli false 6 70 (flat Event.cs)
theorem revents_ok:REvents.Ok:=Sli.ok DN
section
variable {lo:Nat}{h h':Heap}{w:World}{a1 a2 a3 a4 a:Pq}{c1 c2 c3 c4 c:Nq}{E F F' F1 F2 F3 F4:List Nat}{b n:Nat}
theorem nd3 {E F:List Nat} (hn:(b ::(E++F)).Nodup):b∉E/\b∉F/\E.Nodup/\F.Nodup/\∀ y∈E,y∉F:=by rw[zcE,zcx,zcy] at hn;simp only[not_or] at hn;exact ⟨hn.1.1,hn.1.2,hn.2.1,hn.2.2.1,λy hy hm=>hn.2.2.2 y hy y hm rfl⟩
theorem zbx {E F:List Nat}:(b ::(E++F)).Perm (E++(b :: F)):=List.perm_middle.symm
theorem zbw {E F:List Nat}:(b ::(E++F)).Perm (F++(b :: E)):=by rw[show b ::(E++F)=(b :: E)++F from rfl];exact zec
theorem WP {e:Event} (h:e.text.size<=10):e.text.size<=1048576:=by omega
theorem Vw {most:Int} (hmost:most<=1000):∀ (r m:Nat) (hh:Heap) (w:World) (l:List Event) (a:Pq) (c:Nq) (E:List Nat) (x1:Pq) (y1:Nq) (x2:Pq) (y2:Nq) (x3:Pq) (y3:Nq) (x4:Pq) (y4:Nq) (K1 K2 K3 K4:List Nat) (n:Nat),
  (m:Int)+r=most->r<=120->n+21*r<=500000->Rd lo hh b n->REvents hh [.sl 6 a l.length c] l E->(∀ e∈l,e.text.size<=10)->l.length+r<=1000->WR lo hh w x1 y1 x2 y2 x3 y3 x4 y4 K1 K2 K3 K4->Good w->(b ::(E++(K1++(K2++(K3++K4))))).Nodup->(∀ y∈E,lo<=y) ->
  ∃ (l':List Event) (a':Pq) (c':Nq) (h':Heap) (E':List Nat),Br lo b 0 0 most a l.length c (m:Nat) x1 w.places.length y1 x2 w.sess.length y2 x3 w.net.length y3 x4 w.hist.length y4 hh=some (.sl 6 a' l'.length c',h')/\REvents h' [.sl 6 a' l'.length c'] l' E'/\(∀ e∈l',e.text.size<=10)/\l'.length<=1000 /\
   Rd lo h' b (n+21*r)/\Mv hh (b ::(E++(K1++(K2++(K3++K4))))) h' (b :: E'):=by
 intro r;induction r with
 | zero =>
  intro m hh w l a c E x1 y1 x2 y2 x3 y3 x4 y4 K1 K2 K3 K4 n hm _ _ r0 re ht hl H hg hnd hE;refine ⟨l,a,c,hh,E,?_,re,ht,by omega,r0,(Mv.refl hnd).lean ?_ λy hy=>?_⟩
  ·rw[Br.e,Aj (by omega)]
  ·obtain ⟨k1,k2,k3,k4,k5⟩:=nd3 hnd;exact zcE.2 ⟨k1,k3⟩
  ·rw[zcD] at hy ⊢;exact hy.imp id λg=>zdl _ g
 | succ r ih =>
  intro m hh w l a c E x1 y1 x2 y2 x3 y3 x4 y4 K1 K2 K3 K4 n hm hr hn r0 re ht hl H hg hnd hE;obtain ⟨k1,k2,k3,k4,k5⟩:=nd3 hnd;have hEb:=revents_ok.bd _ _ _ _ re;have hFb:=H.bd;obtain ⟨e,h1,e1,et,r1,m1⟩:=WQ (a2:=x2) (c2:=y2) (a3:=x3) (c3:=y3) (a4:=x4) (c4:=y4) (n2:=w.sess.length) (n3:=w.net.length) (n4:=w.hist.length) r0 (by omega) H.r1 (λhm=>k2 (by simp[hm])) hg.ok.p3 (λp hp=>by
   obtain ⟨i,hi⟩:=zcT.1 hp;exact (AI (hg.ok.place i p hi).2).2.2.1)
  have notb:∀ {G:List Nat},(∀ y∈G,y∈K1++(K2++(K3++K4)))->∀ y∈G,y ∉ [b]:=λhG y hy hm=>by rw[zcQ] at hm;exact k2 (hm ▸ hG y hy)
  have H1:WR lo h1 w x1 y1 x2 y2 x3 y3 x4 y4 K1 K2 K3 K4:=⟨m1.keep rplaces_ok H.r1 (notb λy hy=>by simp[hy]),m1.keep rsesss_ok H.r2 (notb λy hy=>by simp[hy]),m1.keep rframes_ok H.r3 (notb λy hy=>by simp[hy]),m1.keep rdones_ok H.r4 (notb λy hy=>by simp[hy]),H.nd,H.ge,zcw H.hl m1.le⟩;have re1:=m1.keep revents_ok re λy hy hm=>k1 (by rw[zcQ] at hm;exact hm ▸ hy);have M1:Mv hh (b ::(E++(K1++(K2++(K3++K4))))) h1 (b ::(E++(K1++(K2++(K3++K4))))):=m1.mid (A := [b]) (B:=E++(K1++(K2++(K3++K4)))) (A' := [b]) (.refl _) hnd (λy hy=>(zcx.1 hy).elim (hEb y) (hFb y)) (.refl _);obtain ⟨cs2,h2,F2,e2,⟨z1,t1,z2,t2,z3,t3,z4,t4,Q1,Q2,Q3,Q4,rfl,rfl,H2⟩,m2,N2⟩:=SE (e:=e) H1 hg.fits (WP et);have hg2:Good (JX w e):=If hg;have hEb1:=revents_ok.bd _ _ _ _ re1;have re2:=m2.keep revents_ok re1 k5;have r2:=r1.keep m2 k2 H.ge;have M2:Mv h1 (b ::(E++(K1++(K2++(K3++K4))))) h2 (b ::(E++(Q1++(Q2++(Q3++Q4))))):=m2.mid zbw hnd (λy hy=>by
   rw[zcD] at hy;rcases hy with rfl | hy
   ·exact r1.lt
   ·exact hEb1 y hy) zbw
  have M12:=M1.trans M2;have hnd2:=M12.nd;obtain ⟨j1,j2,j3,j4,j5⟩:=nd3 hnd2;have more:∀ (h3:Heap) (n3:Nat),Rd lo h3 b n3->n3+21*r<=500000->REvents h3 [.sl 6 a l.length c] l E->WR lo h3 (JX w e) z1 t1 z2 t2 z3 t3 z4 t4 Q1 Q2 Q3 Q4->n3<=n+21 ->
    ∃ (l':List Event) (a':Pq) (c':Nq) (h':Heap) (E':List Nat),(Au 6 (h3 ++ [.rows 6 70 false [e.cs]]) (.sl 6 (some (h3.length,0)) 1 (some 1)) λx=>Dd lo 70 6 56 (.sl 6 a l.length c) x (h3 ++ [.rows 6 70 false [e.cs]]) λx d=>eS 6 x λx q f=>Br lo b 0 0 most x q f ((m+1:Nat):Int) z1 (JX w e).places.length t1 z2 (JX w e).sess.length t2 z3 (JX w e).net.length t3 z4 (JX w e).hist.length t4 d)=some (.sl 6 a' l'.length c',h')/\REvents h' [.sl 6 a' l'.length c'] l' E'/\(∀ e∈l',e.text.size<=10)/\l'.length<=1000 /\
     Rd lo h' b (n+21*(r+1))/\Mv h3 (b ::(E++(Q1++(Q2++(Q3++Q4))))) h' (b :: E'):=by
   intro h3 n3 r3 hn3 re3 H3 hnn;have hEb3:=revents_ok.bd _ _ _ _ re3;obtain ⟨a6,c6,h6,E6,e6,r6,m6⟩:=DC (lo:=lo) (bytes:=56) (e:=70) (El:=flat Event.cs) DN re3 (row:=e.cs) (x:=e) (G := []) (h1:=h3 ++ [.rows 6 70 false [e.cs]])
    ⟨rfl,rfl⟩ Mv.snoc j3 hE H3.hl (by decide) (by omega)
   have hll:(l ++ [e]).length=l.length+1:=by simp
   rw[<- hll] at r6 e6;have H6:WR lo h6 (JX w e) z1 t1 z2 t2 z3 t3 z4 t4 Q1 Q2 Q3 Q4:=⟨m6.keep rplaces_ok H3.r1 (λy hy hm=>j5 y hm (by simp[hy])),m6.keep rsesss_ok H3.r2 (λy hy hm=>j5 y hm (by simp[hy])),m6.keep rframes_ok H3.r3 (λy hy hm=>j5 y hm (by simp[hy])),m6.keep rdones_ok H3.r4 (λy hy hm=>j5 y hm (by simp[hy])),H3.nd,H3.ge,zcw H3.hl m6.le⟩;have M6:Mv h3 (b ::(E++(Q1++(Q2++(Q3++Q4))))) h6 (b ::(E6++(Q1++(Q2++(Q3++Q4))))):=m6.mid zbx hnd2 (λy hy=>by
    rw[zcD] at hy;rcases hy with rfl | hy
    ·exact r3.lt
    ·exact H3.bd y hy) zbx
   obtain ⟨l',a',c',h',E',f1,f2,f3,f4,f5,f6⟩:=ih (m+1) h6 (JX w e) (l ++ [e]) a6 c6 E6 _ _ _ _ _ _ _ _ _ _ _ _ n3 (by omega) (by omega) (by omega) (r3.keep m6 j1 hE) r6 (λx hx=>by
    rcases zcx.1 hx with g | g
    ·exact ht x g
    ·rw[zcQ] at g;subst g;exact et) (by omega) H6 hg2 M6.nd (m6.ge H3.hl hE)
   refine ⟨l',a',c',h',E',?_,f2,f3,f4,f5.up (by omega),M6.trans f6⟩;rw[A9,e6,Af];exact f1
  simp only[Event.cs] at e1;have e2':=e2;simp only[Event.cs,World.cs] at e2';rw[Br.e,Ak (by omega),e1,Ac,AO,Aa,Ab,Aa,Ab,Aa,Ab,Aa,Ab,Aa,BH,Aa,AM,Ag,e2',Ac,Gn,Aa,AO,Aa,Af,Aa,Af,Aa,Af,Aa,Af,Ag,Aa,Ao];cases hs:(CN w e).isSome with
  | true =>obtain ⟨l',a',c',h',E',f1,f2,f3,f4,f5,f6⟩:=more h2 (n+20) r2 (by omega) re2 H2 (by omega);refine ⟨l',a',c',h',E',?_,f2,f3,f4,f5,M12.trans f6⟩;rw[Am,Ag,Ar (by omega)];exact f1
  | false =>
   have hnone:CN w e=none:=by
    cases hx:CN w e with
    | none=>rfl
    | some y=>rw[hx] at hs;cases hs
   have hw:JX w e=w:=by unfold JX;rw[hnone];rfl
   obtain ⟨v,h3,e3,_,_,r3,m3⟩:=pick r2 (by omega) 6;have notb2:∀ {G:List Nat},(∀ y∈G,y∈Q1++(Q2++(Q3++Q4)))->∀ y∈G,y ∉ [b]:=λhG y hy hm=>by rw[zcQ] at hm;exact j2 (hm ▸ hG y hy)
   have H3:WR lo h3 (JX w e) z1 t1 z2 t2 z3 t3 z4 t4 Q1 Q2 Q3 Q4:=⟨m3.keep rplaces_ok H2.r1 (notb2 λy hy=>by simp[hy]),m3.keep rsesss_ok H2.r2 (notb2 λy hy=>by simp[hy]),m3.keep rframes_ok H2.r3 (notb2 λy hy=>by simp[hy]),m3.keep rdones_ok H2.r4 (notb2 λy hy=>by simp[hy]),H2.nd,H2.ge,zcw H2.hl m3.le⟩;have re3:=m3.keep revents_ok re2 λy hy hm=>j1 (by rw[zcQ] at hm;exact hm ▸ hy);have M3:Mv h2 (b ::(E++(Q1++(Q2++(Q3++Q4))))) h3 (b ::(E++(Q1++(Q2++(Q3++Q4))))):=m3.mid (A := [b]) (B:=E++(Q1++(Q2++(Q3++Q4)))) (A' := [b]) (.refl _) hnd2 (λy hy=>(zcx.1 hy).elim (revents_ok.bd _ _ _ _ re2 y) (H2.bd y)) (.refl _);have M123:=M12.trans M3;rw[Av,Ag,e3,Ac,Ab];by_cases hv:v>0
   ·have eq:=N2 hnone;rw[hw] at eq H3;simp only[World.cs,List.cons.injEq,V.sl.injEq,true_and,and_true] at eq;obtain ⟨⟨rfl,rfl⟩,⟨rfl,rfl⟩,⟨rfl,rfl⟩,rfl,rfl⟩:=eq;obtain ⟨l',a',c',h',E',f1,f2,f3,f4,f5,f6⟩:=ih (m+1) h3 w l a c E _ _ _ _ _ _ _ _ _ _ _ _ (n+21) (by omega) (by omega) (by omega) r3 re3 ht (by omega) H3 hg M123.nd hE;refine ⟨l',a',c',h',E',?_,f2,f3,f4,f5.up (by omega),M123.trans f6⟩;rw[Ak hv,Ar (by omega)];exact f1
   ·obtain ⟨l',a',c',h',E',f1,f2,f3,f4,f5,f6⟩:=more h3 (n+21) r3 (by omega) re3 H3 (by omega);refine ⟨l',a',c',h',E',?_,f2,f3,f4,f5,M123.trans f6⟩;rw[Aj hv,Ar (by omega)];exact f1
theorem Sw {cs:List V} (hw:Xh false h cs w F) (m:Mv h' [] h F) (hl':lo<=h'.length):∃ s1 s2 s3 s4 a1 c1 a2 c2 a3 c3 a4 c4 F1 F2 F3 F4,cs = [s1,s2,s3,s4]/\F=F1++(F2++(F3++F4)) /\
  (∀ {T:Type} (K:Pq->Nat->Nq->Option T),eS 6 s1 K=K a1 w.places.length c1)/\(∀ {T:Type} (K:Pq->Nat->Nq->Option T),eS 5 s2 K=K a2 w.sess.length c2) /\
  (∀ {T:Type} (K:Pq->Nat->Nq->Option T),eS 9 s3 K=K a3 w.net.length c3)/\(∀ {T:Type} (K:Pq->Nat->Nq->Option T),eS 5 s4 K=K a4 w.hist.length c4)/\WR lo h w a1 c1 a2 c2 a3 c3 a4 c4 F1 F2 F3 F4 :=
 WR.of hw m.nd (m.ge hl' (by simp)) (zcw hl' m.le)
theorem Qf {n0 s0 most:Nat} (h1:1<=n0) (h4:n0<=4) (hs:s0<=4) (hmost:most<=120) (r:Rd lo h b n) (hn:n<=300000) (hl:lo<=h.length) :
  ∃ (l:List Event) (a:Pq) (c:Nq) (h':Heap) (E:List Nat),Ai lo 62 [.ptr (some (b,(0,0))),Iv (n0:Nat),Iv (s0:Nat),Iv (most:Nat)] h=some (.sl 6 a l.length c,h')/\REvents h' [.sl 6 a l.length c] l E/\(∀ e∈l,e.text.size<=10)/\l.length<=1000 /\
   Rd lo h' b (n+3000)/\Mv h [b] h' (b :: E):=by
 obtain ⟨cs,h2,F2,e2,w2,m2⟩:=Qb (lo:=lo) (h:=h) h1 h4 (by omega:s0<=1000) hl;obtain ⟨s1,s2,s3,s4,a1,c1,a2,c2,a3,c3,a4,c4,K1,K2,K3,K4,rfl,rfl,es1,es2,es3,es4,H⟩:=Sw w2 m2 hl;have mx:Mv h2 [] (h2 ++ [.rows 6 70 false []]) [h2.length]:=Mv.last;have hb2:=H.bd;have H3:WR lo (h2 ++ [.rows 6 70 false []]) (D6 n0 s0) a1 c1 a2 c2 a3 c3 a4 c4 K1 K2 K3 K4:=⟨mx.keep0 rplaces_ok H.r1,mx.keep0 rsesss_ok H.r2,mx.keep0 rframes_ok H.r3,mx.keep0 rdones_ok H.r4,H.nd,H.ge,zcw H.hl mx.le⟩;have hre:REvents (h2 ++ [.rows 6 70 false []]) [.sl 6 (some (h2.length,0)) 0 (some 0)] [] [h2.length]:=Sli.fresh (zcz _);have hblt:=r.lt;have hbF:b∉K1++(K2++(K3++K4)):=λhm=>by have:=m2.new b hm;omega
 have hnd:(b ::([h2.length]++(K1++(K2++(K3++K4))))).Nodup:=by have:=m2.le;rw[zcE,zde,zc3,zcE,zcD];exact ⟨λhm=>hm.elim (λg=>by omega) hbF,λhm=>by have:=hb2 _ hm;omega,m2.nd⟩
 have r3:=(r.keep m2 (by simp) (by simp)).keep mx (by simp) (by simp);obtain ⟨l,a,c,h',E,f1,f2,f3,f4,f5,f6⟩:=Vw (most:=(most:Nat)) (by omega) most 0 _ (D6 n0 s0) [] _ _ _ _ _ _ _ _ _ _ _ _ _ _ _ n (by omega) (by omega) (by omega) r3 hre (by simp) (by simp;omega) H3 (Jo h1 h4 hs) hnd (by simp;exact zcw hl m2.le);refine ⟨l,a,c,h',E,OB ?_,f2,f3,f4,f5.up (by omega),?_⟩
 ·rw[e2,Ac,AO,Aa,es1,Aa,es2,Aa,es3,Aa,es4,Ag];exact f1
 ·have M:Mv h [b] (h2 ++ [.rows 6 70 false []]) (b ::([h2.length]++(K1++(K2++(K3++K4))))):=by
   refine ⟨zcw m2.le mx.le,λy hy hF=>?_,hnd,λy hy=>?_⟩
   ·rw[mx.fr y (zcI hy m2.le) (by simp),m2.fr y hy (by simp)]
   ·simp only[zcD,zde,zc3] at hy;rcases hy with rfl | rfl | hy
    ·exact .inl (by simp)
    ·exact .inr ⟨m2.le,by simp⟩
    ·have:=hb2 y hy;exact .inr ⟨m2.new y hy,by rw[zcP];omega⟩
  exact M.trans f6
end


variable {l:List Event}
def E2 (w:World) (l:List Event):World:=l.foldl JX w
theorem LW {w:World}{e:Event}:E2 w (e :: l)=E2 (JX w e) l:=rfl
theorem Li:∀ {l:List Event}{w:World},Good w->Good (E2 w l)
 | [],_,h=>h
 | _ :: l,_,h=>Li (l:=l) (If h)
section
variable {lo:Nat}{h h':Heap}{w:World}{a1 a2 a3 a4 a:Pq}{c1 c2 c3 c4 c:Nq}{E F F' F1 F2 F3 F4:List Nat}{b n:Nat}
theorem TT (hg:Good w):Ia w:=by
 have h1:=hg.ok.p3;have h2:=hg.ok.s4;have h3:=hg.ok.n12;have h4:=hg.ok.h80;refine ⟨⟨by omega,λp hp=>?_⟩,⟨by omega,λs hs=>?_⟩,⟨by omega,λf hf=>?_⟩,by omega⟩
 ·obtain ⟨i,hi⟩:=zcT.1 hp;exact (Eh (Bv (hg.ok.place i p hi).2) (by decide) (by decide) (by decide)).1
 ·have:=Be (Bp (hg.ok.sess s hs)).2.1;omega
 ·have:=(O0 hg.fits (hg.ok.net f hf)).1;have h1:=this.1;have h2:=this.2;omega
theorem S8 {f:Frame}:(HC w f).sess=w.sess:=by unfold HC;split<;>rfl
theorem X8 {w':World}{e:Event} (he:CN w e=some w'):w'.sess.length=w.sess.length:=by
 unfold CN CS DF Hj EB HG LI EQ Kd FT at he;simp only[cond_eq_ite] at he
 repeat' split at he
 all_goals first
  | (cases he;done)
  | (injection he with he;subst he;simp[setS,setP,setN,S8];done)
  | (rw[zc2] at he;obtain ⟨q,_,rfl⟩:=he;rfl)
theorem zbk {e:Event}:(JX w e).sess.length=w.sess.length:=by
 unfold JX;cases he:CN w e with
 | none=>rfl
 | some w'=>exact X8 he
theorem Tu (r:Rd lo h b n) (hn:n<=290000) (hl:lo<=h.length) :
  ∃ (n0 s0:Nat) (l:List Event) (a:Pq) (c:Nq) (h':Heap) (E:List Nat),Ai lo 32 [.ptr (some (b,(0,0)))] h=some (.tup [Iv (n0:Nat),Iv (s0:Nat),.sl 6 a l.length c],h')/\(1<=n0/\n0<=4)/\(1<=s0/\s0<=4)/\REvents h' [.sl 6 a l.length c] l E/\(∀ e∈l,e.text.size<=10)/\l.length<=1000 /\
   Rd lo h' b (n+3010)/\Mv h [b] h' (b :: E):=by
 obtain ⟨v,h1,e1,g1,g1',r1,m1⟩:=pick r (by omega) 4;obtain ⟨u,h2,e2,g2,g2',r2,m2⟩:=pick r1 (by omega) 4;obtain ⟨k,h3,e3,hk,r3,m3⟩:=HA (e:=3) [0,20,60,120] (rows := [[Iv 0],[Iv 20],[Iv 60],[Iv 120]]) (len:=4) (cc:=some 4) r2 (by omega) rfl rfl (by decide);have hv:=g1' (by omega);have hu:=g2' (by omega);have hk':0<=k/\k<=120:=by simp at hk;omega
 obtain ⟨q,rfl⟩:∃ q:Nat,k=(q:Int):=⟨k.toNat,by omega⟩;obtain ⟨n0,hn0⟩:∃ n0:Nat,1+v=(n0:Int):=⟨(1+v).toNat,by omega⟩;obtain ⟨s0,hs0⟩:∃ s0:Nat,1+u=(s0:Int):=⟨(1+u).toNat,by omega⟩;have m13:=(m1.trans m2).trans m3;obtain ⟨l,a,c,h4,E,e4,f2,f3,f4,f5,f6⟩:=Qf (n0:=n0) (s0:=s0) (most:=q) (by omega) (by omega) (by omega) (by omega) r3 (by omega) (zcw hl m13.le);refine ⟨n0,s0,l,a,c,h4,E,Rq ?_,⟨by omega,by omega⟩,⟨by omega,by omega⟩,f2,f3,f4,f5.up (by omega),m13.trans f6⟩;rw[e1,Ac,Ab,e2,Ac,Ab,e3,Ac,Ab,wr (by omega) (by omega),wr (by omega) (by omega),hn0,hs0,e4,Ac,Af]
theorem SO:∀ {l:List Event}{w:World},(E2 w l).sess.length=w.sess.length
 | [],_=>rfl
 | e :: l,w=>by rw[LW,SO,zbk]
theorem Yj (ht:∀ e∈l,e.text.size<=1048576) (hl6:l.length<=1048576):∀ (r m:Nat) (hh:Heap) (w:World) (E:List Nat) (x1:Pq) (y1:Nq) (x2:Pq) (y2:Nq) (x3:Pq) (y3:Nq) (x4:Pq) (y4:Nq) (K1 K2 K3 K4:List Nat),
  m+r=l.length->REvents hh [.sl 6 a l.length c] l E->WR lo hh w x1 y1 x2 y2 x3 y3 x4 y4 K1 K2 K3 K4->Good w->(∀ y∈E,y∉K1++(K2++(K3++K4))) ->
  ∃ cs' h' F',Cn lo a l.length c (m:Nat) 0 none 0 (some 0) 0 none 0 (some 0) 0 none 0 (some 0) 0 none 0 (some 0) x1 w.places.length y1 x2 w.sess.length y2 x3 w.net.length y3 x4 w.hist.length y4 hh=some (.agg cs',h')/\Pw lo h' cs' (E2 w ((l.take 60).drop m)) F'/\Mv hh (K1++(K2++(K3++K4))) h' F':=by
 intro r;induction r with
 | zero =>intro m hh w E x1 y1 x2 y2 x3 y3 x4 y4 K1 K2 K3 K4 hm re H hg hd;exact ⟨_,hh,_,by rw[Cn.e,Aj (by omega)],by rw[List.drop_of_length_le (by rw[zcS];omega)];exact H.at,Mv.refl H.nd⟩
 | succ r ih =>
  intro m hh w E x1 y1 x2 y2 x3 y3 x4 y4 K1 K2 K3 K4 hm re H hg hd;by_cases h60:(m:Int)<60
  ·have hml:m<l.length:=by omega
   obtain ⟨o,row,G,ha,hld,⟨rfl,_⟩,_⟩:=re.read hml;obtain ⟨cs2,h2,F2,e2,⟨z1,t1,z2,t2,z3,t3,z4,t4,Q1,Q2,Q3,Q4,rfl,rfl,H2⟩,m2,_⟩:=SE (e:=l[m]) H hg.fits (ht _ (zcv hml));have re2:=m2.keep revents_ok re hd;have hEb:=revents_ok.bd _ _ _ _ re;obtain ⟨cs',h',F',f1,f2,f4⟩:=ih (m+1) h2 (JX w l[m]) E _ _ _ _ _ _ _ _ _ _ _ _ (by omega) re2 H2 (If hg) (λy hy hm=>by
    rcases m2.sub y hm with g | g
    ·exact hd y hy g
    ·have:=hEb y hy;omega)
   have hld6:ld hh o.1 (o.2+m) 0 6=some l[m].cs:=by rw[hld];exact I3 rfl
   simp only[Event.cs] at hld6;simp only[Event.cs,World.cs] at e2;have hdr:(l.take 60).drop m=l[m] ::(l.take 60).drop (m+1):=by rw[zcM (show m<(l.take 60).length by rw[zcS];omega),List.getElem_take]
   refine ⟨cs',h',F',?_,by rw[hdr,LW];exact f2,m2.trans f4⟩;rw[Cn.e,Ak (by omega),Ak h60,Ae hml,ha,Ad,Bb,hld6,Ad,Aa,Ab,Aa,Ab,Aa,Ab,Aa,Ab,Aa,BH,Aa,AM,Ag,e2,Ac,Gn,Aa,AO,Aa,Af,Aa,Af,Aa,Af,Aa,Af,Ag,Aa,Ao,Ag,Ar (by omega),<- ha];cases (CN w l[m]).isSome
   ·rw[Av];exact f1
   ·rw[Am];exact f1
  ·exact ⟨_,hh,_,by rw[Cn.e,Ak (by omega),Aj h60],by rw[List.drop_of_length_le (by rw[zcS];omega)];exact H.at,Mv.refl H.nd⟩
theorem UK {n0 s0:Nat} (h1:1<=n0) (h4:n0<=4) (hs:s0<=4) (re:REvents h [.sl 6 a l.length c] l E) (ht:∀ e∈l,e.text.size<=1048576) (hl6:l.length<=1048576) (hl:lo<=h.length) :
  ∃ cs' h' F',Ai lo 42 [Iv (n0:Nat),Iv (s0:Nat),.sl 6 a l.length c] h=some (.agg cs',h')/\Pw lo h' cs' (E2 (D6 n0 s0) (l.take 60)) F'/\Mv h [] h' F':=by
 obtain ⟨cs,h2,F2,e2,w2,m2⟩:=Qb (lo:=lo) (h:=h) h1 h4 (by omega:s0<=1000) hl;obtain ⟨s1,s2,s3,s4,a1,c1,a2,c2,a3,c3,a4,c4,K1,K2,K3,K4,rfl,rfl,es1,es2,es3,es4,H⟩:=Sw w2 m2 hl;have hEb:=revents_ok.bd _ _ _ _ re;obtain ⟨cs',h',F',f1,f2,f4⟩:=Yj ht hl6 l.length 0 h2 (D6 n0 s0) E _ _ _ _ _ _ _ _ _ _ _ _ (by omega) (m2.keep0 revents_ok re) H (Jo h1 h4 hs) (λy hy hm=>by have:=m2.new y hm;have:=hEb y hy;omega);refine ⟨cs',h',F',R3 ?_,by rw[zdt] at f2;exact f2,m2.trans f4⟩;rw[e2,Ac,AO,Aa,es1,Aa,es2,Aa,es3,Aa,es4,Ag];exact f1
end


variable {w:World}{l:List Event}{P:World->World->Prop}{p:List Tag}{w':World}
theorem TC {r:List Event}:E2 w (l++r)=E2 (E2 w l) r:=List.foldl_append ..
theorem Zq {k n:Nat}:∃ r,E2 w (l.take n)=E2 (E2 w ((l.take k).take n)) r:=by
 refine ⟨(l.take n).drop ((l.take k).take n).length,?_⟩;rw[<- TC];congr 1;have:(l.take k).take n=(l.take n).take ((l.take k).take n).length:=by
  rw[zen,zen,zcS];by_cases h:min n k<=l.length
  ·rw[zej h,zej (Nat.min_le_left _ _)]
  ·rw[Nat.min_eq_right (a:=min n k) (by omega),zc0 (by omega),zc0 (by omega)]
 conv=>lhs;rw[<- zc5 ((l.take k).take n).length (l.take n)]
 rw[<- this]
theorem Qs {P:World->World->Prop} (h0:∀ w,P w w) (h1:∀ u v w,Good u->Good v->Good w->P u v->P v w->P u w) (h2:∀ w e,Good w->P w (JX w e)):∀ {l:List Event}{w:World},Good w->P w (E2 w l)
 | [],w,_=>h0 w
 | e :: l,w,h=>h1 _ _ _ h (If h) (Li (l:=l) (If h)) (h2 w e h) (Qs h0 h1 h2 (l:=l) (If h))
theorem Qz {a b:Tag}:Fu (E4 a b).time (E4 a b).place a.time a.place=false:=by
 unfold E4 CT;cases hl:Fu a.time a.place b.time b.place with
 | true =>have:=hl;rw[cond_true,Eb];unfold Fu at this;simp only[zdh,decide_eq_true_eq,CA,beq_iff_eq] at this;omega
 | false=>rw[cond_false,Eb];omega
theorem OP {k:Nat}{t:Tag}:Bs p (Eo p k t)=true:=under_iff.2 λi a b ha hb=>by
 unfold Eo at hb;cases hx:p[k]? with
 | none=>rw[hx] at hb;simp only[ha] at hb;injection hb with hb;subst hb;rw[Eb];omega
 | some x =>
  rw[hx] at hb;simp only[] at hb;by_cases hik:k=i
  ·subst hik;have hk:=(Ea hx).1;rw[zcG hk] at hb;rw[hx] at ha;injection ha with ha;injection hb with hb;subst ha;subst hb;exact Qz
  ·rw[zcA hik,ha] at hb;injection hb with hb;subst hb;rw[Eb];omega
theorem Va {q:List Tag}:Bs p (Do p q)=true:=under_iff.2 λi a b ha hb=>by
 unfold Do at hb;rw[List.getElem?_zipWith] at hb;cases hq:q[i]? with
 | none=>rw[ha,hq] at hb;cases hb
 | some x=>rw[ha,hq] at hb;injection hb with hb;subst hb;exact Qz
structure More (w w':World):Prop where
 len:w'.sess.length=w.sess.length
 past:∀ (i:Nat) (s s':Sess),w.sess[i]?=some s->w'.sess[i]?=some s'->Bs s.past s'.past=true
 hist:∃ r,w'.hist=w.hist++r
theorem More.refl:More w w:=⟨rfl,λi s s' h h'=>by rw[h] at h';injection h' with h';subst h';exact CU,[],by simp⟩
theorem More.trans {u v w:World} (hu:Good u) (hv:Good v) (h1:More u v) (h2:More v w):More u w:=by obtain ⟨r1,e1⟩:=h1.hist;obtain ⟨r2,e2⟩:=h2.hist;refine ⟨h2.len.trans h1.len,λi s s' h h'=>?_,r1++r2,by rw[e2,e1,zcO]⟩;have hi:=(Ea h).1;have hv':=Cz (show i<v.sess.length by rw[h1.len];exact hi);have l1:=Be (Bp (hu.ok.sess _ (zcL h))).2.1;have l2:=Be (Bp (hv.ok.sess _ (zcL hv'))).2.1;exact IP (by omega) (h1.past i _ _ h hv') (h2.past i _ _ hv' h')
theorem More.setS {w:World}{i:Nat}{s t:Sess}{ds:List Done} (hs:w.sess[i]?=some s) (hu:Bs s.past t.past=true):More w (Go.Proofs.YtmdgiekbejjjgaaGreat.setS w i t ds):=by
 refine ⟨by simp[Go.Proofs.YtmdgiekbejjjgaaGreat.setS],λj x y hx hy=>?_,ds,rfl⟩;simp only[Go.Proofs.YtmdgiekbejjjgaaGreat.setS] at hy;by_cases hij:i=j
 ·subst hij;rw[zcG (Ea hs).1] at hy;injection hy with hy;rw[hs] at hx;injection hx with hx;subst hx;subst hy;exact hu
 ·rw[zcA hij,hx] at hy;injection hy with hy;subst hy;exact CU
theorem More.same (h1:w'.sess=w.sess) (h2:w'.hist=w.hist):More w w':=⟨by rw[h1],λi s s' h h'=>by rw[h1,h] at h';injection h' with h';subst h';exact CU,[],by rw[h2];simp⟩
theorem More.of_same {v:World} (h1:v.sess=w.sess) (h2:v.hist=w.hist) (h:More v w'):More w w':=⟨by rw[h.len,h1],λi s s' hs=>h.past i s s' (by rw[h1];exact hs),by rw[<- h2];exact h.hist⟩
theorem Yh {i:Nat}{s:Sess}{e:Event} (hg:Good w) (hs:w.sess[i]?=some s) (he:EB w i s e=some w'):More w w':=by
 have s2:=(Bp (hg.ok.sess _ (zcL hs))).2.1;unfold EB at he;split at he
 ·rename_i p hp
  cases hc:(!decide (s.wait.time>0)&&(Ah e.key 0 3&&(Ah e.num 0 ((p.chain.length:Int) - 1)&&Ct w 1))) with
  | false=>rw[hc] at he;cases he
  | true =>
   rw[hc,cond_true] at he;split at he
   ·rename_i v t hv ht
    cases hl:CT v.tag t with
    | true=>rw[hl] at he;cases he
    | false =>
     rw[hl,cond_false] at he;injection he with he;rw[<- he];refine More.setS hs ?_;show Bs s.past (Kr _ _ _)=true;unfold Kr;cases hd:decide (v.tag.time>0) with
     | false=>exact CU
     | true =>
      rw[cond_true];have hva:=Qj (D5 (hg.ok.place _ p hp).2) hv;have hd:=of_decide_eq_true hd;rcases Cp hva with g | g
      ·have:=(DP g).1;omega
      ·have l1:=Be s2;have l2:=Be (A3 g.1).2.2.2.1;exact IP (by unfold Do;rw[zd5];omega) Va OP
   ·cases he
 ·cases he
theorem VG {e:Event} (hg:Good w) (he:CS w e=some w'):More w w':=by
 unfold CS at he;cases hc:Ah e.at' 0 ((w.sess.length:Int) - 1) with
 | false=>rw[hc] at he;cases he
 | true =>
  rw[hc,cond_true] at he;cases hs:w.sess[e.at'.toNat]? with
  | none=>rw[hs] at he;cases he
  | some s =>
   rw[hs] at he;simp only[] at he;have up:Bs s.past s.past=true:=CU;cases h3:e.kind==3 with
   | true =>
    have h3':e.kind=3:=by simpa using h3
    rw[h3'] at he;exact Yh hg hs he
   | false =>
   rw[h3,cond_false] at he;unfold DF Hj HG LI at he;simp only[cond_eq_ite] at he
   repeat' split at he
   all_goals first
    | (cases he;done)
    | (injection he with he;subst he;exact More.setS hs up)
    | (injection he with he;subst he;exact More.of_same (v:=Go.Proofs.YtmdgiekbejjjgaaGreat.setP w _ _) rfl rfl (More.setS hs up))
    | (injection he with he;subst he;exact More.setS hs OP)
    | (
      injection he with he;subst he;refine More.setS hs ?_;rename_i h0
      simp only[CA] at h0;exact h0.2.1)
theorem zbn {e:Event} (hg:Good w):More w (JX w e):=by
 unfold JX;cases he:CN w e with
 | none=>exact More.refl
 | some w' =>
  rw[zds];unfold CN at he;cases h1:Ah e.kind 1 5 with
  | true=>rw[h1,cond_true] at he;exact VG hg he
  | false =>
  rw[h1,cond_false] at he;unfold EQ Kd FT at he;simp only[cond_eq_ite] at he
  repeat' split at he
  all_goals first
   | (cases he;done)
   | (injection he with he;subst he;exact More.same rfl rfl)
   | (rw[zc2] at he;obtain ⟨q,_,rfl⟩:=he;exact More.same rfl rfl)
   | (injection he with he;subst he;exact More.same S8 (by unfold HC;split<;>rfl))
theorem Yi (hg:Good w):More w (E2 w l) :=
 Qs (λ_=>More.refl) (λ_ _ _ hu hv _ h1 h2=>h1.trans hu hv h2) (λ_ _ h=>zbn h) hg


variable {rs:List (List V)}{p:Place}
def CB (rs:List (List V)) (i:Nat) (row:List V):Blk := .rows 6 60 false (rs.set i row)
theorem Dc {h:Heap}{b i j n:Nat}{row:List V} (hil:i<rs.length) (hb:h[b]?=some (CB rs i row)):ld h b i j n=cut row j n :=
 Bx (R:=6) (e:=60) (ro:=false) (rs:=rs.set i row) hb (by simp[hil])
theorem K8 {lo:Nat}{h:Heap}{b i j:Nat}{row row' cs:List V} (hb:h[b]?=some (CB rs i row)) (hl:lo<=b) (hil:i<rs.length) (hp:paste row j cs=some row'):st lo h b i j cs=some (h.set b (CB rs i row')):=by have e:=DR (lo:=lo) (R:=6) (e:=60) (rs:=rs.set i row) (r:=i) (row:=row) hb hl (by simp[hil]) hp;rw[e,zdL];rfl
section
variable {lo:Nat}{ro:Bool}{h:Heap}{F F':List Nat}{a a':Pq}{c c':Nq}
theorem TL {b i0:Nat} (hrl:i0<rs.length) {a1 a2 a3:Pq}{c1 c2 c3:Nq}{F1 F2:List Nat} (hb:h[b]?=some (CB rs i0 (p.cs a1 c1 a2 c2 a3 c3))) (hs1:RNodes false h [.sl 2 a1 p.chain.length c1] p.chain F1) (hs2:RVers false h [.sl 6 a2 p.log.length c2] p.log F2)
  (h0:0<p.chain.length) (h4:(Eu p.chain).length=4) (hd:∀ y∈F1,y∉b :: F2) (hnd:(b :: F2).Nodup) (hlo:∀ y∈b :: F2,lo<=y) (hl:lo<=h.length) (hcl:p.chain.length<=1048576) (hlog:p.log.length<=1000000) (hvn:∀ v∈Eu p.chain,v.past.length<=1048576)
  (htag:∀ v∈Eu p.chain,B5 v.tag.time v.tag.place=true) :
  ∃ a2' c2' h' F2',Ai lo 148 [.ptr (some (b,(i0,0)))] h=some (.tup [],h')/\h'[b]?=some (CB rs i0 ((BF p).cs a1 c1 a2' c2' a3 c3))/\RVers false h' [.sl 6 a2' (BF p).log.length c2'] (BF p).log F2'/\Mv h (b :: F2) h' (b :: F2'):=by
 have hblt:b<h.length:=(Ea hb).1;have hlob:=hlo b (by simp);have hld2:ld h b i0 (0+2) 1=some [.sl 2 a1 p.chain.length c1]:=by rw[Dc hrl hb];rfl
 obtain ⟨b1,d1,G1,e1,q1,q3⟩:=Hb (lo:=lo) hld2 hs1 h0 hcl;rw[E5 h0] at h4 hvn htag;have one:∀ m i,m+i=4->∀ hh ax cx (lg:List Ver) Fx,hh[b]?=some (CB rs i0 [Iv p.me,Iv p.clock,.sl 2 a1 p.chain.length c1,.sl 6 ax lg.length cx,.sl 1 a3 p.got.length c3,.bool p.fell])->RVers false hh [.sl 6 ax lg.length cx] lg Fx->Mv h (b :: F2) hh (b :: Fx)->lg.length<=1000000+i->∃ a' c' h' F',
   A1 lo b i0 0 b1 (p.chain[p.chain.length - 1]'(by omega)).store.length d1 ((p.chain[p.chain.length - 1]'(by omega)).store.length:Nat) (i:Nat) hh =
    A1 lo b i0 0 b1 (p.chain[p.chain.length - 1]'(by omega)).store.length d1 ((p.chain[p.chain.length - 1]'(by omega)).store.length:Nat) (4:Nat) h' /\
   h'[b]?=some (CB rs i0 [Iv p.me,Iv p.clock,.sl 2 a1 p.chain.length c1,.sl 6 a' (((p.chain[p.chain.length - 1]'(by omega)).store.drop i).foldl (noted p.me) lg).length c',.sl 1 a3 p.got.length c3,.bool p.fell]) /\
   RVers false h' [.sl 6 a' (((p.chain[p.chain.length - 1]'(by omega)).store.drop i).foldl (noted p.me) lg).length c'] (((p.chain[p.chain.length - 1]'(by omega)).store.drop i).foldl (noted p.me) lg) F'/\Mv h (b :: F2) h' (b :: F'):=by
  intro m;induction m with
  | zero =>intro i hi hh ax cx lg Fx hbb hr hm hlen;rw[zdk (by omega),show i=4 by omega];exact ⟨ax,cx,hh,Fx,rfl,hbb,hr,hm⟩
  | succ m ih =>
   intro i hi hh ax cx lg Fx hbb hr hm hlen;have hil:i<(p.chain[p.chain.length - 1]'(by omega)).store.length:=by omega
   have q1':=hm.keep rvers_ok q1 λy hy=>hd y (q3 y hy);obtain ⟨o',s',b',d',G',ha',_,_,_,_,_,_,_,ho',es',hp',_⟩:=RVers.all q1' hil;have hmem:=zcv hil;have ht0:=P6 (htag _ hmem);have stay:=ih (i+1) (by omega) hh ax cx lg Fx hbb hr hm (by omega);have hno:=@noted.eq_1 p.me lg ((p.chain[p.chain.length - 1]'(by omega)).store[i]'hil);have l0:ld hh b i0 (0+0) 1=some [Iv p.me]:=by rw[Dc hrl hbb];rfl
   have l3:ld hh b i0 (0+3) 1=some [.sl 6 ax lg.length cx]:=by rw[Dc hrl hbb];rfl
   rw[zcM hil,zdr];generalize hx:((p.chain[p.chain.length - 1]'(by omega)).store[i]'hil)=x at *
   rw[A1.e,Ak (by omega),Ae hil];simp only[ha',Ad,Bb,ho',Aa,Ab,es',BH,AM,Ag,l0,l3,Af];rw[<- ha',Ar (show i<9223372036854775807 by omega),KA hr (by omega),zdw];simp only[Ac,Ao,l3,Ad,Aa,Ag,Af];cases g1:decide (x.tag.time>0) with
   | false =>rw[g1,Bool.not_eq_false'] at ht0;rw[ht0,Am,hno,g1];exact stay
   | true =>
   rw[g1,zdd] at ht0;rw[ht0,Av];cases g2:(x.tag.place==p.me) with
   | false=>rw[Av,hno,g1,g2];exact stay
   | true =>
   rw[Am];cases g3:Cq lg x.tag with
   | true=>rw[Am,hno,g1,g2,g3];exact stay
   | false =>
   rw[Av,hno,g1,g2,g3];have hnx:=hm.nd;rw[zcE] at hnx;obtain ⟨a3',c3',h3,F3,e3,r3,m3⟩:=BG (lo:=hh.length) (v:=x) hp' (zcz _) (hvn _ hmem);obtain ⟨a5,c5,h5,F5,e5,r5,m5⟩:=DC (lo:=lo) (bytes:=72) (e:=49) rver_ok hr (row:=x.cs a3' c3') (x:=x) (G:=F3) (h1:=h3 ++ [.rows 6 49 false [x.cs a3' c3']])
    ⟨_,rfl,Mv.snoc.keep0 rtags_ok r3⟩ (m3.trans (Mv.snoc' m3.nd)) hnx.2 (λy hy=>hm.ge hl hlo y (by simp[hy])) (zcw hl hm.le) (by decide) (by omega)
   have hblth:b<hh.length:=zcI hblt hm.le;have hb5:h5[b]?=hh[b]?:=m5.fr b hblth hnx.1;rw[hbb] at hb5;have e6:=K8 (cs := [.sl 6 a5 (lg.length+1) c5]) (j:=0+3) (row := [Iv p.me,Iv p.clock,.sl 2 a1 p.chain.length c1,.sl 6 ax lg.length cx,.sl 1 a3 p.got.length c3,.bool p.fell]) hb5 hlob hrl (EN (by simp));obtain ⟨m6,b6,k6,n6⟩:=m5.store hblth hnx.1 (CB rs i0 [Iv p.me,Iv p.clock,.sl 2 a1 p.chain.length c1,.sl 6 a5 (lg.length+1) c5,.sl 1 a3 p.got.length c3,.bool p.fell]);rw[e3];simp only[Ac,AO,Aa,Ab,Af,BH,AM,Ag,A9];rw[e5];simp only[Af];rw[e6];simp only[Ad];have:=ih (i+1) (by omega) (h5.set b (CB rs i0 [Iv p.me,Iv p.clock,.sl 2 a1 p.chain.length c1,.sl 6 a5 (lg.length+1) c5,.sl 1 a3 p.got.length c3,.bool p.fell])) a5 c5 (lg ++ [x]) F5 (by rw[zcP];exact b6) (by rw[zcP];exact rvers_ok.fr _ _ _ _ _ r5 λy hy=>k6 y λe=>n6 (e ▸ hy)) (hm.trans m6) (by simp;omega);exact this
 obtain ⟨a',c',h',F',el,hb',r,m⟩:=one 4 0 (by omega) h a2 c2 p.log F2 hb hs2 (Mv.refl hnd) (by omega);rw[zdt] at hb' r;generalize hres:(p.chain[p.chain.length - 1]'(by omega)).store.foldl (noted p.me) p.log=res at hb' r;have hnl:(BF p).log=res:=by simp only[BF,E5 h0,hres]
 have hblt':b<h'.length:=zcI hblt m.le;have hnx:=m.nd;rw[zcE] at hnx;have l3:ld h' b i0 (0+3) 1=some [.sl 6 a' res.length c']:=by rw[Dc hrl hb'];rfl
 have e6:=K8 (cs := [.sl 6 a' res.length (some res.length)]) (j:=0+3) (row := [Iv p.me,Iv p.clock,.sl 2 a1 p.chain.length c1,.sl 6 a' res.length c',.sl 1 a3 p.got.length c3,.bool p.fell]) hb' hlob hrl (EN (by simp));obtain ⟨m6,b6,k6,n6⟩:=(Mv.refl (h:=h') hnx.2).store hblt' hnx.1 (CB rs i0 [Iv p.me,Iv p.clock,.sl 2 a1 p.chain.length c1,.sl 6 a' res.length (some res.length),.sl 1 a3 p.got.length c3,.bool p.fell]);generalize hh6:h'.set b (CB rs i0 [Iv p.me,Iv p.clock,.sl 2 a1 p.chain.length c1,.sl 6 a' res.length (some res.length),.sl 1 a3 p.got.length c3,.bool p.fell])=h6 at m6 b6 k6;have e6':st lo h' b i0 (0+3) [.sl 6 a' res.length (some res.length)]=some h6:=by rw[<- hh6];exact e6
 have r6:RVers false h6 [.sl 6 a' res.length (some res.length)] res F':=rvers_ok.fr _ _ _ _ _ r.clip λy hy=>k6 y λe=>hnx.1 (e ▸ hy);have l2:ld h6 b i0 (0+2+0) 1=some [.sl 2 a1 p.chain.length c1]:=by rw[Dc hrl b6];rfl
 have m7:=m.trans m6;have ec:=NO (lo:=lo) (g:=177) (cl := []) (p:=λx=>decide (x.wait.length>0)) (m7.keep rnodes_ok hs1 hd) hcl (λlo x a1 c1 a2 c2 _=>Ki (h':=h6) (by
  by_cases hw:x.wait.length>0
  ·rw[Ak (by omega),decide_eq_true hw]
  ·rw[Aj (by omega),decide_eq_false hw]))
 rw[ZN] at ec;suffices hq:∃ a2' c2' h' F2',_=some (V.tup [],h')/\h'[b]?=some (CB rs i0 ((BF p).cs a1 c1 a2' c2' a3 c3))/\RVers false h' [.sl 6 a2' (BF p).log.length c2'] (BF p).log F2'/\Mv h (b :: F2) h' (b :: F2') from hq.imp λ_ hq=>hq.imp λ_ hq=>hq.imp λ_ hq=>hq.imp λ_ hq=>⟨LB hq.1,hq.2⟩
 rw[e1];simp only[Ac,AO,Aa,Af,Ag];rw[show (0:Int)=((0:Nat):Int) from rfl,el,A1.e,Aj (by omega)];simp only[l3,Ad,Aa,Af,Ag];rw[KL r];simp only[Ac,Af];rw[e6'];simp only[Ad,l2,Aa,Af,Ag];rw[ec];simp only[Ac,Ao];have hcs:∀ f:Bool,f=(p.fell && !RT p.chain)->([Iv p.me,Iv p.clock,.sl 2 a1 p.chain.length c1,.sl 6 a' res.length (some res.length),.sl 1 a3 p.got.length c3,.bool f]:List V)=(BF p).cs a1 c1 a' (some res.length) a3 c3:=by intro f hf;simp only[Place.cs,hnl];rw[hf];rfl
 cases hi:RT p.chain with
 | false =>rw[hi] at hcs;rw[zdm,Am];refine ⟨a',some res.length,h6,F',rfl,?_,by rw[hnl];exact r6,m7⟩;rw[b6,hcs p.fell (by simp)]
 | true =>rw[hi] at hcs;rw[zdi,Av];have e8:=K8 (cs := [.bool false]) (j:=0+5) (row := [Iv p.me,Iv p.clock,.sl 2 a1 p.chain.length c1,.sl 6 a' res.length (some res.length),.sl 1 a3 p.got.length c3,.bool p.fell]) b6 hlob hrl (EN (by simp));obtain ⟨m8,b8,k8,n8⟩:=(Mv.refl (h:=h6) hnx.2).store (zcI hblt m7.le) hnx.1 (CB rs i0 [Iv p.me,Iv p.clock,.sl 2 a1 p.chain.length c1,.sl 6 a' res.length (some res.length),.sl 1 a3 p.got.length c3,.bool false]);rw[e8];simp only[Ad];refine ⟨a',some res.length,_,F',rfl,?_,by rw[hnl];exact rvers_ok.fr _ _ _ _ _ r6 λy hy=>k8 y λe=>hnx.1 (e ▸ hy),m7.trans m8⟩;rw[<- hcs false (by simp)];exact b8
theorem Hu {b i0:Nat} (hrl:i0<rs.length) {a1 a2 a3:Pq}{c1 c2 c3:Nq}{F1 F2:List Nat} (hb:h[b]?=some (CB rs i0 (p.cs a1 c1 a2 c2 a3 c3))) (hs1:RNodes false h [.sl 2 a1 p.chain.length c1] p.chain F1) (hs2:RVers false h [.sl 6 a2 p.log.length c2] p.log F2)
  (h0:0<p.chain.length) (ht:Tidy 10 20 100 p) (hd:∀ y∈F1,y∉b :: F2) (hnd:(b :: F2).Nodup) (hlo:∀ y∈b :: F2,lo<=y) (hl:lo<=h.length) :
  ∃ a2' c2' h' F2',Ai lo 148 [.ptr (some (b,(i0,0)))] h=some (.tup [],h')/\h'[b]?=some (CB rs i0 ((BF p).cs a1 c1 a2' c2' a3 c3))/\RVers false h' [.sl 6 a2' (BF p).log.length c2'] (BF p).log F2'/\Mv h (b :: F2) h' (b :: F2'):=by
 obtain ⟨x,hx,hxe⟩:=LZ h0;have hxn:=ht.node x hx;exact TL hrl hb hs1 hs2 h0 (by rw[hxe];exact hxn.1) hd hnd hlo hl (zcw ht.len (by decide)) (zcw ht.log.1 (by decide))
  (λv hv=>by rw[hxe] at hv;have:=(hxn.2.2.1 v hv).1;omega) (λv hv=>by rw[hxe] at hv;exact (hxn.2.2.1 v hv).2.2)
theorem RX {t:Int}{b i0:Nat} (hrl:i0<rs.length) {a1 a2 a3:Pq}{c1 c2 c3:Nq}{F1 F2:List Nat} (hb:h[b]?=some (CB rs i0 (p.cs a1 c1 a2 c2 a3 c3))) (hs1:RNodes false h [.sl 2 a1 p.chain.length c1] p.chain F1) (hs2:RVers false h [.sl 6 a2 p.log.length c2] p.log F2)
  (h0:0<p.chain.length) (ht:Tidy 10 20 100 p) (hd:∀ y∈F1,y∉b :: F2) (hnd:(b :: F2).Nodup) (hlo:∀ y∈b :: F2,lo<=y) (hl:lo<=h.length) :
  ∃ h1 a2' c2' h' F2',st lo h b i0 (0+1) [Iv t]=some h1/\Ai lo 148 [.ptr (some (b,(i0,0)))] h1=some (.tup [],h')/\h'[b]?=some (CB rs i0 ((BF (Ez p t)).cs a1 c1 a2' c2' a3 c3)) /\
   RVers false h' [.sl 6 a2' (BF (Ez p t)).log.length c2'] (BF (Ez p t)).log F2'/\Mv h (b :: F2) h' (b :: F2'):=by
 have hblt:b<h.length:=(Ea hb).1;have e6:=K8 (cs := [Iv t]) (j:=0+1) (row:=p.cs a1 c1 a2 c2 a3 c3) hb (hlo b (by simp)) hrl (EN (by simp[Place.cs]));have hnd':=hnd;rw[zcE] at hnd';obtain ⟨m6,b6,k6,n6⟩:=(Mv.refl (h:=h) hnd'.2).store hblt hnd'.1 (CB rs i0 ((Ez p t).cs a1 c1 a2 c2 a3 c3));have hs1':=m6.keep rnodes_ok hs1 hd;have hs2':RVers false (h.set b (CB rs i0 ((Ez p t).cs a1 c1 a2 c2 a3 c3))) [.sl 6 a2 p.log.length c2] p.log F2:=rvers_ok.fr _ _ _ _ _ hs2 λy hy=>k6 y λe=>n6 (e ▸ hy);obtain ⟨a2',c2',h',F2',e7,q7,r7,m7⟩:=Hu (lo:=lo) (p:=Ez p t) hrl b6 hs1' hs2' h0 ⟨ht.len,ht.node,ht.log,ht.got⟩ hd hnd hlo (zcw hl m6.le);exact ⟨_,a2',c2',h',F2',e6,e7,q7,r7,m6.trans m7⟩
end


variable {p:Place}{prs:List (List V)}
section
variable {lo:Nat}{ro:Bool}{h:Heap}{F F' G:List Nat}{a a' av:Pq}{c c' cv:Nq}
theorem WB {b i0:Nat} (hrl:i0<prs.length) {k:Int}{a1 a2 a3:Pq}{c1 c2 c3:Nq}{G1 G2 G3:List Nat} (hb:h[b]?=some (CB prs i0 (p.cs a1 c1 a2 c2 a3 c3))) (hs1:RNodes false h [.sl 2 a1 p.chain.length c1] p.chain G1) (hs2:RVers false h [.sl 6 a2 p.log.length c2] p.log G2) (hs3:RVss false h [.sl 1 a3 p.got.length c3] p.got G3)
  (hok:As p=true) (hn:Hp p) (hnd:(b ::(G1++(G2++G3))).Nodup) (hlo:∀ y∈b ::(G1++(G2++G3)),lo<=y) (hl:lo<=h.length) :
  ∃ h' row' F',Ai lo 112 [.ptr (some (b,(i0,0))),Iv k] h=some (.bool (Ci p k),h')/\Cy false h' row' (C8 p k) F'/\h'[b]?=some (CB prs i0 (row'))/\Mv h (b ::(G1++(G2++G3))) h' (b :: F'):=by
 suffices hq:∃ h' row' F',_=some (V.bool (Ci p k),h')/\Cy false h' row' (C8 p k) F'/\h'[b]?=some (CB prs i0 (row'))/\Mv h (b ::(G1++(G2++G3))) h' (b :: F') from by obtain ⟨h',row',F',e,hr⟩:=hq;exact ⟨h',row',F',NC e,hr⟩
 have hblt:b<h.length:=(Ea hb).1;have hbd:∀ y∈b ::(G1++(G2++G3)),y<h.length:=λy hy=>by
  simp only[zcD,zcx] at hy;rcases hy with rfl | hy | hy | hy
  ·exact hblt
  ·exact rnodes_ok.bd _ _ _ _ hs1 y hy
  ·exact rvers_ok.bd _ _ _ _ hs2 y hy
  ·exact rvss_ok.bd _ _ _ _ hs3 y hy
 have stay:∀ h',Mv h [] h' []->Ci p k=false->∃ h'' row' F',some (V.bool false,h')=some (V.bool (Ci p k),h'')/\Cy false h'' row' (C8 p k) F'/\h''[b]?=some (CB prs i0 (row'))/\Mv h (b ::(G1++(G2++G3))) h'' (b :: F'):=λh' m hc=>by unfold C8;rw[hc];exact ⟨h',_,G1++(G2++G3),rfl,⟨_,_,_,_,_,_,rfl,_,_,_,G1,G2,G3,rfl,rfl,m.keep0 rnodes_ok hs1,m.keep0 rvers_ok hs2,m.keep0 rvss_ok hs3⟩,by rw[m.fr b hblt (by simp)];exact hb,m.aside (G:=b ::(G1++(G2++G3))) hnd hbd⟩
 have h0:=Dp hok;have hhl:=Nd hok;have hg3:=(AI hok).2.2.1;have hti:=LS hok;rw[DM];simp only[Ac,Ao];cases hw:Ah k 0 2 with
 | false=>rw[Av];exact stay h Mv.nil (by unfold Ci;rw[hw];rfl)
 | true =>
 obtain ⟨f,rfl,hf⟩:=P2 hw;have hf':f<p.got.length:=by omega
 have hct:Ci p (f:Int)=IQ p f:=by unfold Ci;rw[hw,Bb];rfl
 have hky:∀ v∈p.got[f],0<=v.key/\v.key<(Ev p.chain).length:=λv hv=>by have:=(A3 (Lh hok hf' hv)).1;omega
 have hgn:p.got[f].length<=1048576:=(hn.2.2.2 _ (zcv hf')).1;obtain ⟨o3,s3,b3,d3,H3,ha3,ho3,e3,q3,hH3⟩:=hs3.get hf';obtain ⟨o,s1,s2,b1,d1,b2,d2,H1,H2,ha,_,ho1,_,e1,_,q1,_⟩:=hs1.get h0;have l4:∀ hh:Heap,hh[b]?=some (CB prs i0 (p.cs a1 c1 a2 c2 a3 c3))->ld hh b i0 (0+4) 1=some [.sl 1 a3 p.got.length c3]:=λhh hb=>by rw[Dc hrl hb];rfl
 have l2:ld h b i0 (0+2) 1=some [.sl 2 a1 p.chain.length c1]:=by rw[Dc hrl hb];rfl
 have hidx:=LO (lo:=lo) (g:=130) (cl := [.tup [.agg [.sl 6 b1 p.chain[0].store.length d1]]]) (p:=Id (Ev p.chain)) q3 hgn (λlo v a c G hv ht=>by
  have:=hky v hv;rw[He h0] at this ⊢;rw[Pb (by omega)];exact L3 q1 this)
 rw[Am,l4 h hb];simp only[Ad,Aa,Af,Ag];rw[Ae hf'];simp only[ha3,Ad,Bb,ho3,Aa,e3,Ag,zdf,l2,Af];rw[show (0:Int)=((0:Nat):Int) from rfl,Ae h0];have ho1':ld h o.fst o.snd 0 1=some [s1]:=ho1;simp only[ha,Ad,ho1',Aa,e1,Ag];rw[hidx];simp only[Ac,Ab];rcases L0 hf' with ⟨i,hi,x1,x2⟩ | ⟨x1,x2⟩
 ·obtain ⟨o4,s4,b4,d4,H4,ha4,ho4,e4,q4,hH4⟩:=q3.get hi;have hv:=Lh hok hf' (zcv hi);have hvp:=A3 hv;have hpl:=CV hvp.2.2.2.1;have htk:IQ p f=(DI p.chain 0&&Bs p.got[f][i].past (AR p.chain)):=by unfold IQ;rw[x2]
  rw[x1,Aj (by omega)];rw[l4 h hb,Ad,Aa,Ag,Af,Ae hf',ha3,Ad,Bb,ho3,Ad,Aa,Ag,e3,Ae hi,ha4,Ad,ho4,Ad,Aa,Ab,Aa,Ab,Aa,Ab,Aa,e4,Aa,BH,Aa,AM,Ag];obtain ⟨bt,dt,Ht,et,rt,_⟩:=Hb (lo:=lo) (b:=b) (i:=i0) (j:=0+2) l2 hs1 h0 hn.1.1;have hslen:(p.chain[p.chain.length - 1]'(by omega)).store.length=4:=(hti.node _ (zcv _)).1;obtain ⟨vt,h5,F5,e5,r5,m5⟩:=Hc (lo:=lo) rt hl hslen;obtain ⟨a6,c6,e6,r6⟩:=r5.form;rw[et,Ac,AO,Aa,Af,Ag,e5,Ac,AO,Aa,e6,Ag,Ha (m5.keep0 rtags_ok q4) r6 (by omega) (by simp only[Bg,zdQ];omega),Ac,Ao];rw[GC h0] at htk;cases hu:Bs p.got[f][i].past (Bg (p.chain[p.chain.length - 1]'(by omega)).store) with
  | false=>rw[Av];exact stay h5 m5.drop (by rw[hct,htk,hu,zdD])
  | true =>
  rw[hu,zdw] at htk;have hb5:h5[b]?=some (CB prs i0 (p.cs a1 c1 a2 c2 a3 c3)):=by rw[m5.fr b hblt (by simp)];exact hb
  have hnd':=hnd;rw[zcE,zcy,zcx,zcx,zcy] at hnd';obtain ⟨n1,n2,⟨n3,n4,n5⟩,n6⟩:=hnd';simp only[not_or] at n1;have hs15:=m5.keep0 rnodes_ok hs1;have hs25:=m5.keep0 rvers_ok hs2;have hs35:=m5.keep0 rvss_ok hs3;have q45:=m5.keep0 rtags_ok q4;have hkey0:p.got[f][i].key<p.chain[0].store.length:=by have:=hky _ (zcv hi);rw[He h0] at this;omega
  obtain ⟨h6,F6,e7,r7,m7⟩:=Vi (lo:=lo) (i:=i0) (j:=0+2) hb5 (zcG hrl) rfl hs15 n1.1 q45 (λy hy hm=>n6 y hm y (by rw[zcx];exact .inr (hH3 y (hH4 y hy))) rfl) n2 (λy hy=>hlo y (by simp[hy])) (zcw hl m5.le) h0 ⟨hvp.1.1,hkey0⟩ hn.1 (by omega);simp only[Ver.cs] at e7;rw[Am,e7,Ac,Ao];cases hr:DI p.chain 0 with
  | false =>
   rw[hr] at r7 htk;rw[Av];rw[cond_false] at r7;have hb6:h6[b]?=some (CB prs i0 (p.cs a1 c1 a2 c2 a3 c3)):=by rw[m7.fr b (zcI hblt m5.le) n1.1];exact hb5
   have hcf:Ci p (f:Int)=false:=by rw[hct,htk]
   have hbd5:∀ y∈b ::(G1++(G2++G3)),y<h5.length:=λy hy=>zcI (hbd y hy) m5.le;have nd2:(b :: G2).Nodup:=by rw[zcE];exact ⟨n1.2.1,n3⟩
   have hs26:RVers false h6 [.sl 6 a2 p.log.length c2] p.log G2:=m7.keep rvers_ok hs25 λy hy hm=>n6 y hm y (by simp[hy]) rfl;obtain ⟨r8,m8⟩:=Fg (q:=p) m7 (Mv.refl nd2) hnd hbd5 r7 hs26 hs35;unfold C8;rw[hcf];exact ⟨h6,_,_,rfl,r8,hb6,(m5.drop.aside (G:=b ::(G1++(G2++G3))) hnd hbd).trans m8⟩
  | true =>
   rw[hr] at r7 htk;rw[cond_true] at r7;have hb6:h6[b]?=some (CB prs i0 (p.cs a1 c1 a2 c2 a3 c3)):=by rw[m7.fr b (zcI hblt m5.le) n1.1];exact hb5
   have l1:ld h6 b i0 (0+1) 1=some [Iv p.clock]:=by rw[Dc hrl hb6];rfl
   have hct2:Ci p (f:Int)=true:=by rw[hct,htk]
   have hbd5:∀ y∈b ::(G1++(G2++G3)),y<h5.length:=λy hy=>zcI (hbd y hy) m5.le;have nd2:(b :: G2).Nodup:=by rw[zcE];exact ⟨n1.2.1,n3⟩
   have hs26:RVers false h6 [.sl 6 a2 p.log.length c2] p.log G2:=m7.keep rvers_ok hs25 λy hy hm=>n6 y hm y (by simp[hy]) rfl;have d1:=(UH m7 (Mv.refl nd2) hnd hbd5).2.1;have ta:=MA (k:=0) (t:=p.clock) (Bv hok) (K0 hv);have ta':Tidy 10 20 100 (EW p 0 p.clock p.got[f][i]):=⟨zcw ta.len (by decide),λx hx=>by have:=ta.node x hx;exact ⟨this.1,zcw this.2.1 (by decide),this.2.2⟩,⟨zcw ta.log.1 (by decide),ta.log.2⟩,ta.got.1,λl hl=>⟨zcw (ta.got.2 l hl).1 (by decide),(ta.got.2 l hl).2⟩⟩;have hcs:(EW p 0 p.clock p.got[f][i]).cs a1 c1 a2 c2 a3 c3=p.cs a1 c1 a2 c2 a3 c3:=by simp only[Place.cs,EW,Em]
   rw[<- Em (k:=0) (v:=p.got[f][i])] at r7;obtain ⟨h7,a8,c8,h8,F8,e8,e9,b9,r9,m9⟩:=RX (lo:=lo) (p:=EW p 0 p.clock p.got[f][i]) (t:=Fq p.got[f][i].tag.time p.clock) (a3:=a3) (c3:=c3) hrl (by rw[hcs];exact hb6) r7 hs26 (by show 0<(FI _ _ _).length;rw[Em];omega) ta' d1 nd2 (λy hy=>hlo y (by simp only[zcD,zcx] at hy ⊢;rcases hy with hy | hy;exact .inl hy;exact .inr (.inr (.inl hy)))) (by have:=m5.le;have:=m7.le;omega);obtain ⟨r10,m10⟩:=Fg (q:=BF (EW p 0 (Fq p.got[f][i].tag.time p.clock) p.got[f][i])) m7 m9 hnd hbd5 r7 r9 hs35;unfold Fq at e8;rw[Am,l1,Ad,Aa,Ag,Ab,e8,Ad,e9,Ac,Gn,Ag];rw[hct2];unfold C8;rw[hct2,cond_true,Bb];unfold Kc;rw[x2];exact ⟨h8,_,_,rfl,r10,b9,(m5.drop.aside (G:=b ::(G1++(G2++G3))) hnd hbd).trans m10⟩
 ·rw[x1,Ak (by omega)];exact stay h Mv.nil (by rw[hct];unfold IQ;rw[x2])
theorem WE {b i0:Nat} (hrl:i0<prs.length) {f at':Int}{v:Ver}{a1 a2 a3:Pq}{c1 c2 c3:Nq}{G1 G2 G3:List Nat} (hb:h[b]?=some (CB prs i0 (p.cs a1 c1 a2 c2 a3 c3))) (hs1:RNodes false h [.sl 2 a1 p.chain.length c1] p.chain G1) (hs2:RVers false h [.sl 6 a2 p.log.length c2] p.log G2) (hs3:RVss false h [.sl 1 a3 p.got.length c3] p.got G3)
  (hv:RTags false h [.sl 2 av v.past.length cv] v.past G) (hok:As p=true) (hvn:v.past.length<=1048576/\v.text.size<=1048576) (hnd:(b ::(G1++(G2++G3))).Nodup) (hlo:∀ y∈b ::(G1++(G2++G3)),lo<=y) (hl:lo<=h.length) :
  ∃ h' row' F',Ai lo 115 [.ptr (some (b,(i0,0))),Iv f,Iv at',.agg (v.cs av cv)] h=some (.bool (D8 p f at' v),h')/\Cy false h' row' (Dk p f at' v) F'/\h'[b]?=some (CB prs i0 (row'))/\Mv h (b ::(G1++(G2++G3))) h' (b :: F'):=by
 suffices hq:∃ h' row' F',_=some (V.bool (D8 p f at' v),h')/\Cy false h' row' (Dk p f at' v) F'/\h'[b]?=some (CB prs i0 (row'))/\Mv h (b ::(G1++(G2++G3))) h' (b :: F') from by obtain ⟨h',row',F',e,hr⟩:=hq;exact ⟨h',row',F',ND e,hr⟩
 have hblt:b<h.length:=(Ea hb).1;have hbd:∀ y∈b ::(G1++(G2++G3)),y<h.length:=λy hy=>by
  simp only[zcD,zcx] at hy;rcases hy with rfl | hy | hy | hy
  ·exact hblt
  ·exact rnodes_ok.bd _ _ _ _ hs1 y hy
  ·exact rvers_ok.bd _ _ _ _ hs2 y hy
  ·exact rvss_ok.bd _ _ _ _ hs3 y hy
 have stay:D8 p f at' v=false->∃ h'' row' F',some (V.bool false,h)=some (V.bool (D8 p f at' v),h'')/\Cy false h'' row' (Dk p f at' v) F'/\h''[b]?=some (CB prs i0 (row'))/\Mv h (b ::(G1++(G2++G3))) h'' (b :: F'):=λhc=>by unfold Dk;rw[hc];exact ⟨h,_,G1++(G2++G3),rfl,⟨_,_,_,_,_,_,rfl,_,_,_,G1,G2,G3,rfl,rfl,hs1,hs2,hs3⟩,hb,Mv.refl hnd⟩
 have hg3:=(AI hok).2.2.1;have hcd:D8 p f at' v=(Ah f 0 2&&(Ck v&&((v.tag.place==f)&&HV p f.toNat at' v))):=rfl;have l0:ld h b i0 (0+0) 1=some [Iv p.me]:=by rw[Dc hrl hb];rfl
 have l4:∀ hh:Heap,hh[b]?=some (CB prs i0 (p.cs a1 c1 a2 c2 a3 c3))->ld hh b i0 (0+4) 1=some [.sl 1 a3 p.got.length c3]:=λhh hb=>by rw[Dc hrl hb];rfl
 rw[DM,Ac,Ao];cases hw:Ah f 0 2 with
 | false=>rw[Av];exact stay (by rw[hcd,hw];rfl)
 | true =>
 rw[hw,zcJ] at hcd;obtain ⟨f,rfl,hf⟩:=P2 hw;rw[Bb] at hcd;have hf':f<p.got.length:=by omega
 have hgl:p.got[f].length<=60:=(Fl (PW hok hf')).1;have hh:HV p f at' v=(!((f:Int)==p.me)&&((at'==(p.got[f].length:Int))&&(decide ((p.got[f].length:Int)<60) && !Cq p.got[f] v.tag))):=by unfold HV;rw[Hf hf']
 rw[hh] at hcd;rw[Am,l0,Ad,Aa,Ag,Ab];cases x1:((f:Int)==p.me) with
 | true=>rw[Am];exact stay (by rw[hcd,x1];simp)
 | false =>
 rw[x1,zdm,zcJ] at hcd;have e2:=JS (lo:=lo) hv hvn;simp only[Ver.cs] at e2;rw[Av,e2,Ac,Ao];cases hvo:Ck v with
 | false=>rw[Av];exact stay (by rw[hcd,hvo];rfl)
 | true =>
 rw[hvo,zcJ] at hcd;rw[Am];cases hpl:(v.tag.place==(f:Int)) with
 | false=>rw[Av];exact stay (by rw[hcd,hpl];rfl)
 | true =>
 rw[hpl,zcJ] at hcd;have hnd':=hnd;rw[zcE,zcy,zcx,zcx,zcy] at hnd';obtain ⟨n1,n2,⟨n3,n4,n5⟩,n6⟩:=hnd';simp only[not_or] at n1;have hlo3:∀ y∈G3,lo<=y:=λy hy=>hlo y (by simp[hy]);obtain ⟨b0,i,rs,row,G0,ha,hbF,hbG,hb0,hrow,hel,hGF,hGn,_,put⟩:=hs3.at rvers_ok hf' n4 hlo3;have hrs:∃ s,row = [s]:=by obtain ⟨R',a',c',e,_⟩:=id hel;exact ⟨_,e⟩
 obtain ⟨s,rfl⟩:=hrs;obtain ⟨b3,d3,es,r3⟩:=hel.form;have hld:ld h b0 (i+f) 0 1=some [s]:=by rw[Bx hb0 hrow];rfl
 rw[Am,l4 h hb,Ad,Aa,Ag,Af,Ae hf',ha,Ad,Bb,hld,Ad,Aa,Ag,es];cases x2:(at'==(p.got[f].length:Int)) with
 | false=>rw[Av];exact stay (by rw[hcd,x2];rfl)
 | true =>
 rw[x2,zcJ] at hcd;rw[Am];cases x3:decide ((p.got[f].length:Int)<60) with
 | false =>
  have:(p.got[f].length:Int)>=60:=by have:=of_decide_eq_false x3;omega
  rw[Ak (by omega)];exact stay (by rw[hcd,x3];rfl)
 | true =>
 rw[x3,zcJ] at hcd;have:(p.got[f].length:Int)<60:=of_decide_eq_true x3;have hht:Cq p.got[f] ⟨v.tag.time,v.tag.place⟩=Cq p.got[f] v.tag:=rfl;rw[Aj (by omega),KA r3 (by omega),hht,Ac,Ao];cases x4:Cq p.got[f] v.tag with
 | true=>rw[Am];exact stay (by rw[hcd,x4];rfl)
 | false =>
 rw[x4,zdm] at hcd;obtain ⟨a5,c5,h5,F5,e5,r5,m5⟩:=BG (lo:=lo) (v:=v) hv hl hvn.1;have m5':Mv h [] (h5 ++ [.rows 6 49 false [v.cs a5 c5]]) F5:=m5.trans (Mv.snoc' m5.nd);obtain ⟨a6,c6,h6,F6,e6,r6,m6⟩:=DC (lo:=lo) (bytes:=72) (e:=49) rver_ok r3 (row:=v.cs a5 c5) (x:=v) (G:=F5) (h1:=h5 ++ [.rows 6 49 false [v.cs a5 c5]])
  ⟨_,rfl,Mv.snoc.keep0 rtags_ok r5⟩ m5' hGn (λy hy=>hlo3 y (hGF y hy)) hl (by decide) (by omega)
 have r6c:=r6.clip;rw[show p.got[f].length+1=(p.got[f] ++ [v]).length by simp] at r6c;obtain ⟨h7,F7,e7,r7,m7,_⟩:=put h6 F6 0 [.sl 6 a6 (p.got[f] ++ [v]).length (some (p.got[f] ++ [v]).length)] [.sl 6 a6 (p.got[f] ++ [v]).length (some (p.got[f] ++ [v]).length)] (p.got[f] ++ [v]) m6 rfl r6c;rw[show (p.got[f] ++ [v]).length=p.got[f].length+1 by simp] at e7;obtain ⟨m8,k1,k2,k3⟩:=YJ m7 hnd hbd;have hb5:h5[b]?=some (CB prs i0 (p.cs a1 c1 a2 c2 a3 c3)):=by rw[m5.fr b hblt (by simp)];exact hb
 have hb5':(h5 ++ [.rows 6 49 false [v.cs a5 c5]])[b]?=some (CB prs i0 (p.cs a1 c1 a2 c2 a3 c3)):=by rw[m5'.fr b hblt (by simp)];exact hb
 have hb6:h6[b]?=some (CB prs i0 (p.cs a1 c1 a2 c2 a3 c3)):=by rw[m6.fr b hblt (λhm=>n1.2.2 (hGF b hm))];exact hb
 have hb7:h7[b]?=some (CB prs i0 (p.cs a1 c1 a2 c2 a3 c3)):=by rw[m7.fr b hblt k1];exact hb
 simp only[Ver.cs] at e5 e6 hb5';have l4:∀ hh:Heap,hh[b]?=some (CB prs i0 (p.cs a1 c1 a2 c2 a3 c3))->ld hh b i0 (0+4) 1=some [.sl 1 (some (b0,i)) p.got.length c3]:=λhh hb=>by rw[l4 hh hb,ha]
 rw[Av,l4 h hb,Ad,Aa,Ag,Af,e5,Ac,AO,Aa,Ab,Aa,Ab,Aa,Ab,Aa,Af,Aa,BH,Aa,AM,Ag,l4 h5 hb5,JI,CW,l4 _ hb5',JI,CW,A9,e6,Af,l4 h6 hb6,JI,CW,KL r6,Ac,Af,l4 h6 hb6,JI,CW,Ae hf',Ad,e7,Ad];have hcs:=Xx (p:=p) (f:=f) (v:=v) (a1:=a1) (c1:=c1) (a2:=a2) (c2:=c2) (a3:=a3) (c3:=c3);have hgot:(GG p f v).got=p.got.set f (p.got[f] ++ [v]):=by simp only[GG];rw[Hf hf']
 have r7':RVss false h7 [.sl 1 a3 (GG p f v).got.length c3] (GG p f v).got F7:=by rw[hgot,zc6];exact r7
 unfold Dk;rw[hcd];refine ⟨h7,(GG p f v).cs a1 c1 a2 c2 a3 c3,G1++(G2++F7),rfl,?_,by rw[hcs];exact hb7,m8⟩;exact ⟨a1,c1,a2,c2,a3,c3,rfl,_,_,_,G1,G2,F7,rfl,rfl,m7.keep rnodes_ok hs1 k2,m7.keep rvers_ok hs2 k3,r7'⟩
theorem Vd {b i0:Nat} (hrl:i0<prs.length) {k:Int}{s:ByteArray}{g:Bool}{l:List Tag}{a1 a2 a3:Pq}{c1 c2 c3:Nq}{G1 G2 G3:List Nat} (hb:h[b]?=some (CB prs i0 (p.cs a1 c1 a2 c2 a3 c3))) (hs1:RNodes false h [.sl 2 a1 p.chain.length c1] p.chain G1) (hs2:RVers false h [.sl 6 a2 p.log.length c2] p.log G2) (hs3:RVss false h [.sl 1 a3 p.got.length c3] p.got G3)
  (hv:RTags false h [.sl 2 av l.length cv] l G) (hvd:∀ y∈G,y∉b :: G1) (hok:As p=true) (hn:Hp p) (hvn:l.length<=1048576/\s.size<=1048576) (hnd:(b ::(G1++(G2++G3))).Nodup) (hlo:∀ y∈b ::(G1++(G2++G3)),lo<=y) (hl:lo<=h.length) :
  ∃ h' row' F',Ai lo 144 [.ptr (some (b,(i0,0))),.agg [Iv k,Iv 0,Iv 0,.sl 2 av l.length cv,.str s,.bool g]] h=some (.agg [Iv (Ee p k s g l).2.time,Iv (Ee p k s g l).2.place],h') /\
   Cy false h' row' (Ee p k s g l).1 F'/\h'[b]?=some (CB prs i0 (row'))/\Mv h (b ::(G1++(G2++G3))) h' (b :: F'):=by
 rw[Mx hok];have hblt:b<h.length:=(Ea hb).1;have hbd:∀ y∈b ::(G1++(G2++G3)),y<h.length:=λy hy=>by
  simp only[zcD,zcx] at hy;rcases hy with rfl | hy | hy | hy
  ·exact hblt
  ·exact rnodes_ok.bd _ _ _ _ hs1 y hy
  ·exact rvers_ok.bd _ _ _ _ hs2 y hy
  ·exact rvss_ok.bd _ _ _ _ hs3 y hy
 generalize hW:(bif A6 p k s g l then (BF (EW p 0 (AQ p l) (DU p k s g l)),(⟨AQ p l,p.me⟩:Tag)) else (p,⟨0,0⟩))=W;suffices hq:∃ h' row' F',_=some (V.agg [Iv W.2.time,Iv W.2.place],h')/\Cy false h' row' W.1 F'/\h'[b]?=some (CB prs i0 (row'))/\Mv h (b ::(G1++(G2++G3))) h' (b :: F') from by obtain ⟨h',row',F',e,hr⟩:=hq;exact ⟨h',row',F',Mo e,hr⟩
 have stay:∀ h',Mv h [] h' []->A6 p k s g l=false->∃ h'' row' F',some (V.agg [Iv 0,Iv 0],h')=some (V.agg [Iv W.2.time,Iv W.2.place],h'')/\Cy false h'' row' W.1 F'/\h''[b]?=some (CB prs i0 (row'))/\Mv h (b ::(G1++(G2++G3))) h'' (b :: F'):=λh' m hc=>by rw[hc,cond_false] at hW;subst hW;exact ⟨h',_,G1++(G2++G3),rfl,⟨_,_,_,_,_,_,rfl,_,_,_,G1,G2,G3,rfl,rfl,m.keep0 rnodes_ok hs1,m.keep0 rvers_ok hs2,m.keep0 rvss_ok hs3⟩,by rw[m.fr b hblt (by simp)];exact hb,m.aside (G:=b ::(G1++(G2++G3))) hnd hbd⟩
 have h0:=Dp hok;have hti:=LS hok;have hcw:=KM (p:=p) (k:=k) (s:=s) (g:=g) (l:=l);have e1:=MW (lo:=lo) (v:=⟨k,⟨0,0⟩,l,s,g⟩) hv hvn;simp only[Ver.cs] at e1;rw[e1,Ac,Ao];cases hwr:Hn ⟨k,⟨0,0⟩,l,s,g⟩ with
 | false=>rw[Av];exact stay h Mv.nil (by rw[hcw,hwr];rfl)
 | true =>
 rw[hwr,zcJ] at hcw;have hpk:BE l=true:=by unfold Hn at hwr;simp only[CA] at hwr;exact hwr.2
 have hl4:=CV hpk;have htb:=KZ hok hpk;have l2:ld h b i0 (0+2) 1=some [.sl 2 a1 p.chain.length c1]:=by rw[Dc hrl hb];rfl
 obtain ⟨bt,dt,Ht,et,rt,_⟩:=Hb (lo:=h.length) (b:=b) (i:=i0) (j:=0+2) l2 hs1 h0 hn.1.1;have hslen:(p.chain[p.chain.length - 1]'(by omega)).store.length=4:=(hti.node _ (zcv _)).1;obtain ⟨vt,h5,F5,e5,r5,m5⟩:=Hc (lo:=h.length) rt (zcz _) hslen;obtain ⟨a6,c6,e6,r6⟩:=r5.form;rw[Am,et,Ac,AO,Aa,Af,Ag,e5,Ac,AO,Aa,e6,Ag,Ha (m5.keep0 rtags_ok hv) r6 hvn.1 (by simp only[Bg,zdQ];omega),Ac,Ao];unfold HB at hcw;rw[GC h0] at hcw;cases hu:Bs l (Bg (p.chain[p.chain.length - 1]'(by omega)).store) with
 | false=>rw[Av];exact stay h5 m5.drop (by rw[hcw,hu];rfl)
 | true =>
 rw[hu,zcJ] at hcw;have hb5:h5[b]?=some (CB prs i0 (p.cs a1 c1 a2 c2 a3 c3)):=by rw[m5.fr b hblt (by simp)];exact hb
 have l25:ld h5 b i0 (0+2) 1=some [.sl 2 a1 p.chain.length c1]:=by rw[Dc hrl hb5];rfl
 have hs15:=m5.keep0 rnodes_ok hs1;have hs25:=m5.keep0 rvers_ok hs2;have hs35:=m5.keep0 rvss_ok hs3;have hv5:=m5.keep0 rtags_ok hv;have hfu:Ai lo 173 [.ptr (some (b,(i0,0+2))),Iv 0] h5=some (.bool (!DI p.chain 0),h5):=Od l25 hs15 h0;rw[Am,hfu,Ac,Ao];cases hr:DI p.chain 0 with
 | false=>rw[zdm,Am];exact stay h5 m5.drop (by rw[hcw,hr];rfl)
 | true =>
 rw[hr,zcJ] at hcw;have l3:ld h5 b i0 (0+3) 1=some [.sl 6 a2 p.log.length c2]:=by rw[Dc hrl hb5];rfl
 rw[zdi,Av,l3,Ad,Aa,Ag,Af];cases hlg:decide ((p.log.length:Int)<36) with
 | false =>
  have:(p.log.length:Int)>=36:=by have:=of_decide_eq_false hlg;omega
  rw[Ak (by omega)];exact stay h5 m5.drop (by rw[hcw,hlg];simp)
 | true =>
 have:(p.log.length:Int)<36:=of_decide_eq_true hlg;rw[hlg,zdw] at hcw;have l1:ld h5 b i0 (0+1) 1=some [Iv p.clock]:=by rw[Dc hrl hb5];rfl
 have l0:ld h5 b i0 (0+0) 1=some [Iv p.me]:=by rw[Dc hrl hb5];rfl
 have hT:(if ER l>p.clock then ER l else p.clock)+1=AQ p l:=rfl;rw[Aj (by omega),l1,Ad,Aa,Ag,Ab,Pd hv5 hvn.1,Ac,Ab,hT,wr (n:=AQ p l) (by omega) (by omega)];cases hti9:decide (AQ p l<=999) with
 | false =>
  have:AQ p l>999:=by have:=of_decide_eq_false hti9;omega
  rw[Ak (by omega)];exact stay h5 m5.drop (by rw[hcw,hti9])
 | true =>
 have:AQ p l<=999:=of_decide_eq_true hti9;rw[hti9] at hcw;have hvt:=O6 hok hcw;rw[hcw,cond_true] at hW;obtain ⟨kp1,_⟩:=Gl hcw;have hnd':=hnd;rw[zcE,zcy,zcx,zcx,zcy] at hnd';obtain ⟨n1,n2,⟨n3,n4,n5⟩,n6⟩:=hnd';simp only[not_or] at n1;have hb5lt:b<h5.length:=zcI hblt m5.le;have e8:=K8 (lo:=lo) (cs := [Iv (AQ p l)]) (j:=0+1) (row:=p.cs a1 c1 a2 c2 a3 c3) (row':=(Ez p (AQ p l)).cs a1 c1 a2 c2 a3 c3) hb5 (hlo b (by simp)) hrl (EN (by simp[Place.cs]));obtain ⟨m6,b6,k6,_⟩:=(Mv.refl (h:=h5) (F := []) (by simp)).store hb5lt (by simp) (CB prs i0 ((Ez p (AQ p l)).cs a1 c1 a2 c2 a3 c3));generalize hh6:h5.set b (CB prs i0 ((Ez p (AQ p l)).cs a1 c1 a2 c2 a3 c3))=h6 at m6 b6 k6;have e8':st lo h5 b i0 (0+1) [Iv (AQ p l)]=some h6:=by rw[<- hh6];exact e8
 have hs16:=m6.keep rnodes_ok hs15 λy hy hm=>by rw[zcQ] at hm;subst hm;exact n1.1 hy
 have hs26:=m6.keep rvers_ok hs25 λy hy hm=>by rw[zcQ] at hm;subst hm;exact n1.2.1 hy
 have hs36:=m6.keep rvss_ok hs35 λy hy hm=>by rw[zcQ] at hm;subst hm;exact n1.2.2 hy
 have hv6:=m6.keep rtags_ok hv5 λy hy hm=>by rw[zcQ] at hm;subst hm;exact hvd y hy (by simp)
 have hkl:(DU p k s g l).key<p.chain[0].store.length:=by have:=(hti.node _ (zcv h0)).1;show k<_;omega
 obtain ⟨h7,F7,e7,r7,m7⟩:=Vi (lo:=lo) (l:=p.chain) (v:=DU p k s g l) (i:=i0) (j:=0+2) b6 (zcG hrl) rfl hs16 n1.1 hv6 (λy hy hm=>hvd y hy (by simp[hm])) n2 (λy hy=>hlo y (by simp[hy])) (by have:=m5.le;have:=m6.le;omega) h0 ⟨kp1.1,hkl⟩ hn.1 hvn.1;rw[hr,cond_true] at r7;rw[hr] at e7;have hbd6:∀ y∈b ::(G1++(G2++G3)),y<h6.length:=λy hy=>zcI (hbd y hy) (zcw m5.le m6.le);have nd2:(b :: G2).Nodup:=by rw[zcE];exact ⟨n1.2.1,n3⟩
 have d1:=(UH m7 (Mv.refl nd2) hnd hbd6).2.1;have hb7:h7[b]?=some (CB prs i0 ((Ez p (AQ p l)).cs a1 c1 a2 c2 a3 c3)):=by rw[m7.fr b (zcI hb5lt m6.le) n1.1];exact b6
 have hs27:RVers false h7 [.sl 6 a2 p.log.length c2] p.log G2:=m7.keep rvers_ok hs26 λy hy hm=>n6 y hm y (by simp[hy]) rfl;have ta:=MA (k:=0) (t:=AQ p l) (Bv hok) hvt;have ta':Tidy 10 20 100 (EW p 0 (AQ p l) (DU p k s g l)):=⟨zcw ta.len (by decide),λx hx=>by have:=ta.node x hx;exact ⟨this.1,zcw this.2.1 (by decide),this.2.2⟩,⟨zcw ta.log.1 (by decide),ta.log.2⟩,ta.got.1,λl hl=>⟨zcw (ta.got.2 l hl).1 (by decide),(ta.got.2 l hl).2⟩⟩;have hcs:(EW p 0 (AQ p l) (DU p k s g l)).cs a1 c1 a2 c2 a3 c3=(Ez p (AQ p l)).cs a1 c1 a2 c2 a3 c3:=by simp only[Place.cs,EW,Ez,Em]
 rw[<- Em (k:=0) (v:=DU p k s g l)] at r7;obtain ⟨a8,c8,h8,F8,e9,b9,r9,m9⟩:=Hu (lo:=lo) (p:=EW p 0 (AQ p l) (DU p k s g l)) (a3:=a3) (c3:=c3) hrl (by rw[hcs];exact hb7) r7 hs27 (by show 0<(FI _ _ _).length;rw[Em];omega) ta' d1 nd2 (λy hy=>hlo y (by simp only[zcD,zcx] at hy ⊢;rcases hy with hy | hy;exact .inl hy;exact .inr (.inr (.inl hy)))) (by have:=m5.le;have:=m6.le;have:=m7.le;omega);obtain ⟨r10,m10⟩:=Fg (q:=BF (EW p 0 (AQ p l) (DU p k s g l))) m7 m9 hnd hbd6 r7 r9 hs36;have m56:Mv h (b ::(G1++(G2++G3))) h6 (b ::(G1++(G2++G3))):=(m5.drop.aside (G:=b ::(G1++(G2++G3))) hnd hbd).trans (m6.aside (G:=G1++(G2++G3)) hnd λy hy=>zcI (hbd y (by simp[hy])) m5.le);simp only[Ver.cs,DU] at e7;rw[Aj (by omega),l0,Ad,Aa,Ag,Ab,e8',Ad,e7,Ac,Ao,Am,e9,Ac,Gn,Ag];subst hW;exact ⟨h8,_,_,rfl,r10,b9,m56.trans m10⟩
end
end Go.Proofs.YtmdgiekbejjjgaaGreat
