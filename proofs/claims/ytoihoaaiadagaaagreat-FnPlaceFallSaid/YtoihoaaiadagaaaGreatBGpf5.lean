/- Part 5 of what is shown for the law Gpf, whatever the input; no condition of its own. -/
import Derived.Test.YtoihoaaiadagaaaGreatBGpf4
set_option linter.unusedVariables false
set_option linter.unusedSimpArgs false
set_option linter.unnecessarySimpa false
set_option maxRecDepth 100000
namespace Go.Proofs.YtoihoaaiadagaaaGreat
open Go T


variable {c t:Int}{s:ByteArray}{i:Nat}{x:Node}{k m:Int}
theorem GS {a b d:Int}:HF a b c d=false↔¬ (a<c∨(a=c∧b<d)):=by rw[← Bool.not_eq_true];simp[HF]
theorem under_iff {p q:List Tag}:Ca p q=true↔∀ (i:Nat) (a b:Tag),p[i]?=some a→q[i]?=some b→HF b.time b.place a.time a.place=false:=by
 unfold Ca;rw[zb2];constructor
 ·intro h i a b ha hb;have:=h (a,b) (zb5.2 ⟨i,zdE.2 ⟨ha,hb⟩⟩);simpa using this
 ·rintro h ⟨a,b⟩ hm
  obtain ⟨i,hi⟩:=zb5.1 hm;rw[zdE] at hi;simpa using h i a b hi.1 hi.2
theorem Ic {p:List Tag}:Ca p p=true:=under_iff.2 fun i a b ha hb=>by rw[ha] at hb;injection hb with hb;subst hb;rw[GS];omega
theorem Uc {p q r:List Tag} (hl:p.length≤q.length) (h1:Ca p q=true) (h2:Ca q r=true):Ca p r=true:=under_iff.2 fun i a c ha hc=>by have hi:=(Fh ha).1;have hb:=Dd (l:=q) (i:=i) (by omega);have x1:=under_iff.1 h1 i a _ ha hb;have x2:=under_iff.1 h2 i _ c hb hc;rw[GS] at x1 x2 ⊢;omega
theorem Nk {t s:List Ver} (h:upS t s):Ca (BH t) (BH s)=true:=under_iff.2 fun i a b ha hb=>by
 unfold BH at ha hb;rw[zdh,zcv] at ha hb;obtain ⟨x,hx,rfl⟩:=ha;obtain ⟨y,hy,rfl⟩:=hb;rw[GS];rcases h i x y hx hy with rfl | g
 ·omega
 ·rw[GT] at g;omega
def inCh (l:List Node) (v:Ver):Prop:=∃ x∈l,v∈x.store∨v∈x.wait
section
variable {l:List Node}{v:Ver}
theorem inCh.get (h:inCh l v):∃ (i:Nat) (x:Node),l[i]?=some x∧(v∈x.store∨v∈x.wait):=by obtain ⟨x,hx,hv⟩:=h;obtain ⟨i,hi⟩:=zb5.1 hx;exact ⟨i,x,hi,hv⟩
theorem inCh.of (hx:l[i]?=some x) (hv:v∈x.store∨v∈x.wait):inCh l v:=⟨x,zcc hx,hv⟩
theorem Ch.ver (h:Ch l) (hv:inCh l v) (ht:0<v.tag.time):A3 v=true:=by
 obtain ⟨i,x,hx,g | g⟩:=hv.get
 ·obtain ⟨j,hj⟩:=zb5.1 g;rcases CB (Hx (h.store hx).1 hj) with g2 | g2
  ·have:=(DS g2).1;omega
  ·exact g2.1
 ·exact (Ay (h.node i x hx)).2.2 v g
theorem Dk (hx:l[i]?=some x) (hi:i+1=l.length):AS l=BH x.store:=by
 rw[Jj (show 0<l.length by omega)];obtain ⟨hj,rfl⟩:=Fh hx;have e:l.length - 1=i:=by omega
 simp only[e]
theorem HZ (hx:l[i]?=some x) (hi:i+1=l.length):DI l=x.store:=by
 rw[D2 (show 0<l.length by omega)];obtain ⟨hj,rfl⟩:=Fh hx;have e:l.length - 1=i:=by omega
 simp only[e]
theorem Ch.tail (h:Ch l):∃ z,l[l.length - 1]?=some z∧l.length - 1+1=l.length:=by have:=h.pos;exact ⟨_,Dd (by omega),by omega⟩
theorem Ch.four (h:Ch l):(AS l).length=4∧(DI l).length=4:=by obtain ⟨z,hz,hi⟩:=h.tail;rw[Dk hz hi,HZ hz hi];have:=(h.store hz).2;exact ⟨by simpa [BH] using this,this⟩
theorem NA (h:Ch l):(Ir l).length=l.length+1∧AS (Ir l)=AS l∧DI (Ir l)=DI l∧(Ir l)[0]?=l[0]?:=by
 have hp:=h.pos;obtain ⟨z,hz,hi⟩:=h.tail;obtain ⟨hj,e⟩:=Fh hz;have hn:(Ir l)[l.length]?=some ⟨z.store,[]⟩:=by rw[GU (by omega),zcg (zbR _),zdz,e];rfl
 have hl:(Ir l).length=l.length+1:=by rw[GU (by omega)];simp
 refine ⟨hl,?_,?_,?_⟩
 ·rw[Dk hn (by omega),Dk hz hi]
 ·rw[HZ hn (by omega),HZ hz hi]
 ·rw[GU (by omega),zbS (by omega)]
theorem SB (hp:1≤l.length) (hv:inCh (Ir l) v):inCh l v:=by
 rw[GU (by omega)] at hv;obtain ⟨x,hx,g⟩:=hv;rcases zbP.1 hx with hx | hx
 ·exact ⟨x,hx,g⟩
 ·rw[zbW] at hx;subst hx;rcases g with g | g
  ·exact ⟨_,zbO (by omega),.inl g⟩
  ·exact absurd g (by simp)
theorem SD {k:Nat} (hk:k<l.length) (hv:inCh (Bq l k) v):inCh l v:=by
 obtain ⟨i,x,hx,g⟩:=hv.get;rw[Iw hk] at hx;split at hx
 ·rw[zcv] at hx;obtain ⟨z,hz,rfl⟩:=hx;rcases g with g | g
  ·exact .of hz (.inl g)
  ·simp only at g;split at g
   ·exact .of hz (.inl (Ny g))
   ·simp at g
 ·split at hx
  ·exact .of hx g
  ·exact .of hx g
theorem Mu {j:Nat}{u:Ver} (hv:inCh (HC l j u) v):inCh l v∨v=u:=by
 unfold HC at hv;split at hv
 ·rename_i x hx
  split at hv
  ·rename_i w hw
   cases hl:AT w u with
   | false=>rw[hl] at hv;exact .inl hv
   | true =>
    rw[hl,cond_true] at hv;obtain ⟨y,hy,g⟩:=hv;rcases zcb hy with hy | rfl
    ·exact .inl ⟨y,hy,g⟩
    ·rcases g with g | g
     ·rcases zcb g with g | rfl
      ·exact .inl (.of hx (.inl g))
      ·exact .inr rfl
     ·simp only at g;cases hd:decide (j+1<l.length) with
      | false=>rw[hd] at g;exact .inl (.of hx (.inr g))
      | true =>
       rw[hd,cond_true] at g;rcases zbP.1 g with g | g
       ·exact .inl (.of hx (.inr g))
       ·exact .inr (by simpa using g)
  ·exact .inl hv
 ·exact .inl hv
theorem SA (hc:A4 l k=true) (hv:inCh (EF l k.toNat) v):inCh l v:=by
 obtain ⟨f,x,y,u,r,rfl,hx,hy,hw,hr⟩:=Ij hc;rw[A7,Mi hx hw] at hv;rcases Mu hv with ⟨z,hz,g⟩ | rfl
 ·rcases zcb hz with hz | rfl
  ·exact ⟨z,hz,g⟩
  ·rcases g with g | g
   ·exact .of hx (.inl g)
   ·exact .of hx (.inr (by rw[hw];simp only at g;simp[g]))
 ·exact .of hx (.inr (by rw[hw];simp))
theorem LF (h:Ch l):Ed l=true↔∀ v,inCh l v→0<v.tag.time→Ca v.past (AS l)=true:=by
 unfold Ed Fm;rw[zb2];constructor
 ·rintro hc v ⟨x,hx,g⟩ ht
  have:=hc x hx;rw[Dm,zb2,zb2] at this;rcases g with g | g
  ·have:=this.1 v g;rw[zcH,zcy,decide_eq_false_iff_not] at this;exact this.resolve_left fun hn=>hn ht
  ·exact this.2 v g
 ·intro hc x hx;rw[Dm,zb2,zb2];refine ⟨fun v hv=>?_,fun v hv=>?_⟩
  ·by_cases ht:v.tag.time>0
   ·rw[hc v ⟨x,hx,.inl hv⟩ ht,Bool.or_true]
   ·rw[decide_eq_false ht];rfl
  ·obtain ⟨i,hi⟩:=zb5.1 hx;exact hc v ⟨x,hx,.inr hv⟩ (GL ((Ay (h.node i x hi)).2.2 v hv))
theorem Gb (hx:l[0]?=some x):D3 l c=true↔∀ v∈x.store,v.tag.time≤c:=by unfold D3;rw[hx];simp
theorem U5 (h:Ch l) {k:Nat} (hk:k<l.length) (h2:1<l.length):Ca (AS l) (AS (Bq l k))=true:=by
 have hlen:=H0 hk h2;obtain ⟨z,hz,hi⟩:=h.tail;obtain ⟨z',hz',hi'⟩:=(h.fall hk h2).tail;rw[Dk hz hi,Dk hz' hi'];rw[Iw hk] at hz';split at hz'
 ·rename_i e
  rw[zcv] at hz';obtain ⟨w,hw,rfl⟩:=hz';exact Nk (h.up 1 _ w z hw (by rw[show (Bq l k).length - 1+1=l.length - 1 by omega];exact hz))
 ·rename_i e
  split at hz'
  ·omega
  ·rw[show (Bq l k).length - 1+1=l.length - 1 by omega,hz] at hz';injection hz' with hz';subst hz';exact Ic
theorem WI (h:Ch l) (hv:A3 v=true):Ca (AS l) (AS (HC l 0 v))=true:=by
 have hp:=h.pos;have hz:l[0]?=some (l[0]'(by omega)):=Dd (by omega);obtain ⟨u,hu⟩:=h.key hz hv;rw[Jv hz hu];cases hl:AT u v with
 | false=>exact Ic
 | true =>
  rw[cond_true];by_cases h1:l.length=1
  ·rw[Dk hz (by omega),Dk (i:=0) (zb9 (by omega)) (by simpa using h1.symm)];exact Nk (upS.set hu hl)
  ·obtain ⟨z,hz',hi⟩:=h.tail;rw[Dk hz' hi,Dk (i:=l.length - 1) (by rw[zbU (by omega)];exact hz') (by simpa using hi)];exact Ic
theorem UB (h:Ch l) (hc:A4 l k=true):Ca (AS l) (AS (EF l k.toNat))=true:=by
 obtain ⟨f,x,y,v,r,rfl,hx,hy,hw,hr⟩:=Ij hc;have hlk:=h.link f x y hx hy;rw[hw] at hlk;obtain ⟨u,hu,hl,_⟩:=fitsL_cons.1 hlk;have hf1:=(Fh hy).1;obtain ⟨z,hz,hi⟩:=h.tail;have hy':(l.set f ⟨x.store,r⟩)[f+1]?=some y:=by rw[zbU (by omega)];exact hy
 rw[A7,Mi hx hw,Jv hy' hu,hl,cond_true,Dk hz hi];by_cases he:f+1=l.length - 1
 ·rw[he,hz] at hy;injection hy with hy;subst hy;rw[Dk (i:=f+1) (zb9 (by simpa using hf1)) (by simp;omega)];exact Nk (upS.set hu hl)
 ·rw[Dk (i:=l.length - 1) (x:=z) (by rw[zbU (by omega),zbU (by omega)];exact hz) (by simpa using hi)];exact Ic
theorem YA {t s:List Ver} (h:upS t s) (hl:t.length≤s.length) (hs:∀ v∈s,v.tag.time≤c):∀ v∈t,v.tag.time≤c:=fun v hv=>by
 obtain ⟨i,hi⟩:=zb5.1 hv;have hlt:=(Fh hi).1;have hy:=Dd (l:=s) (i:=i) (by omega);have:=hs _ (zbO (show i<s.length by omega));rcases h i v _ hi hy with rfl | g
 ·exact this
 ·rw[GT] at g;omega
theorem Yf (h:Ch l) {k:Nat} (hk:k<l.length) (h2:1<l.length) (hh:D3 l c=true):D3 (Bq l k) c=true:=by
 have hlen:=H0 hk h2;have h0:l[0]?=some (l[0]'(by omega)):=Dd (by omega);have h1:l[1]?=some (l[1]'(by omega)):=Dd (by omega);have hh0:=(Gb h0).1 hh;have hx:(Bq l k)[0]?=some ((Bq l k)[0]'(by omega)):=Dd (by omega);rw[Gb hx];rw[Iw hk] at hx;split at hx
 ·rw[h0,zc1] at hx;injection hx with hx;rw[← hx];exact hh0
 ·split at hx
  ·rw[h0] at hx;injection hx with hx;rw[← hx];exact hh0
  ·rw[zcl,h1] at hx;injection hx with hx;rw[← hx];exact YA (h.up 1 0 _ _ h0 h1) (by rw[(h.store h0).2,(h.store h1).2];exact zbR _) hh0
theorem ZO (h:Ch l) (hv:A3 v=true) (hh:D3 l c=true) (hc:c≤t) (hvt:v.tag.time≤t):D3 (HC l 0 v) t=true:=by
 have hp:=h.pos;have hz:l[0]?=some (l[0]'(by omega)):=Dd (by omega);obtain ⟨u,hu⟩:=h.key hz hv;have hh0:=(Gb hz).1 hh;rw[Jv hz hu];cases hl:AT u v with
 | false=>rw[cond_false,Gb hz];exact fun w hw=>by have:=hh0 w hw;omega
 | true =>
  rw[cond_true,Gb (zb9 (by omega))];intro w hw;rcases zcb hw with hw | rfl
  ·have:=hh0 w hw;omega
  ·exact hvt
theorem XO (h:Ch l) (hc:A4 l k=true) (hh:D3 l c=true):D3 (EF l k.toNat) c=true:=by
 obtain ⟨f,x,y,v,r,rfl,hx,hy,hw,hr⟩:=Ij hc;have hlk:=h.link f x y hx hy;rw[hw] at hlk;obtain ⟨u,hu,hl,_⟩:=fitsL_cons.1 hlk;have hf:=(Fh hx).1;have hy':(l.set f ⟨x.store,r⟩)[f+1]?=some y:=by rw[zbU (by omega)];exact hy
 rw[A7,Mi hx hw,Jv hy' hu,hl,cond_true];by_cases h0:f=0
 ·subst h0;rw[Gb (x:=⟨x.store,r⟩) (by rw[zbU (by omega),zb9 hf])];exact (Gb hx).1 hh
 ·have hz:l[0]?=some (l[0]'(by omega)):=Dd (by omega);rw[Gb (x:=l[0]'(by omega)) (by rw[zbU (by omega),zbU (by omega)];exact hz)];exact (Gb hz).1 hh
end
theorem YU {p:Place} (h1:0≤p.me∧p.me≤2) (h2:0≤p.clock∧p.clock≤999) (h3:p.got.length=3) (h4:Cz p.chain=true) (h5:Ed p.chain=true) (h6:Ea p.me p.log=true)
  (h7:∀ i (hi:i<p.got.length),IR p.me i p.got[i]=true) (h8:D3 p.chain p.clock=true):Ao p=true:=by
 unfold Ao;simp only[Dm,EJ,decide_eq_true_eq,Al];exact ⟨⟨⟨⟨⟨⟨⟨h1,h2⟩,h3⟩,h4⟩,h5⟩,h6⟩,h7⟩,h8⟩
theorem za6 {l:List Ver} (h1:l.length≤60) (h2:∀ i (hi:i<l.length),A3 l[i]=true∧l[i].tag.place=m∧Bw (l.take i) l[i].tag=false):Ea m l=true:=by unfold Ea;rw[Dm,EJ,decide_eq_true_eq];refine ⟨fun i hi=>?_,by omega⟩;obtain ⟨g1,g2,g3⟩:=h2 i hi;unfold Mp;rw[g1,g2,g3];simp
theorem UM {l:List Ver}{v:Ver} (h:Ea m l=true) (hv:A3 v=true) (hp:v.tag.place=m) (ht:Bw l v.tag=false) (hl:l.length<60):Ea m (l ++ [v])=true:=by
 obtain ⟨h1,h2⟩:=HY h;refine za6 (by simp;omega) fun i hi=>?_;by_cases hil:i<l.length
 ·rw[List.getElem_append_left hil,zds (by omega)];exact h2 i hil
 ·have e:i=l.length:=by simp at hi;omega
  subst e;rw[zdD (zbR _),zds (zbR _),zdn];simp only[zdz,List.getElem_cons_zero];exact ⟨hv,hp,ht⟩
theorem Sr {m:Int}:∀ {vs l:List Ver},(∀ v∈vs,0<v.tag.time→A3 v=true)→Ea m l=true→l.length+vs.length≤60→Ea m (vs.foldl (noted m) l)=true
 | [],l,_,h,_=>h
 | v :: vs,l,hv,h,hl=>by
  rw[zcF] at hl;rw[zcA];have h3:=XR (me:=m) (log:=l) (v:=v);refine Sr (fun w hw=>hv w (by simp[hw])) ?_ (by omega);unfold noted;cases hc:(decide (v.tag.time>0)&&(v.tag.place==m && !Bw l v.tag)) with
  | false=>exact h
  | true =>simp only[Dm,decide_eq_true_eq,beq_iff_eq,zcy] at hc;exact UM h (hv v (by simp) hc.1) hc.2.1 hc.2.2 (by omega)
theorem hasTag_mem {l:List Ver}{t:Tag}:Bw l t=true↔∃ v∈l,v.tag=t:=by
 unfold Bw;rw[List.any_eq_true];constructor
 ·rintro ⟨v,hv,g⟩
  rw[Dm,beq_iff_eq,beq_iff_eq] at g;exact ⟨v,hv,by cases hv:v.tag;cases t;simp_all⟩
 ·rintro ⟨v,hv,rfl⟩
  exact ⟨v,hv,by simp⟩
theorem noted_has {m:Int}:∀ {vs l:List Ver},(∀ v∈vs,0<v.tag.time→v.tag.place=m→Bw (vs.foldl (noted m) l) v.tag=true)∧∃ r,vs.foldl (noted m) l=l++r
 | [],l=>⟨by simp,[],by simp⟩
 | v :: vs,l=>by
  obtain ⟨h1,r,h2⟩:=noted_has (m:=m) (vs:=vs) (l:=noted m l v);rw[zcA];have hr:∃ r',noted m l v=l++r':=by
   unfold noted;cases decide (v.tag.time>0)&&(v.tag.place==m && !Bw l v.tag)
   ·exact ⟨[],by simp⟩
   ·exact ⟨[v],rfl⟩
  obtain ⟨r',hr'⟩:=hr;refine ⟨fun w hw ht hp=>?_,r'++r,by rw[h2,hr',zb4]⟩;rcases zb0.1 hw with rfl | hw
  ·have hx:Bw (noted m l w) w.tag=true:=by
    unfold noted;rw[decide_eq_true ht,hp,MO,zb8,zb8];cases hc:Bw l w.tag with
    | true=>exact hc
    | false=>exact hasTag_mem.2 ⟨w,by simp,rfl⟩
   obtain ⟨u,hu,e⟩:=hasTag_mem.1 hx;rw[h2];exact hasTag_mem.2 ⟨u,zcf _ hu,e⟩
  ·exact h1 w hw ht hp
section
variable {p:Place}
theorem HA (h:Ao p=true):Ch p.chain:=chain_iff.1 (AK h).2.2.2.1
theorem Y3 (h:Ch p.chain):∀ v∈DI p.chain,0<v.tag.time→A3 v=true:=fun v hv ht=>by obtain ⟨z,hz,hi⟩:=h.tail;rw[HZ hz hi] at hv;exact h.ver (.of hz (.inl hv)) ht
theorem Pf (h:Ao p=true) (hl:p.log.length≤56):Ao (BL p)=true:=by have hc:=HA h;obtain ⟨h1,h2,h3,h4,h5,h6,h7,h8⟩:=AK h;exact YU (p:=BL p) h1 h2 h3 h4 h5 (Sr (Y3 hc) h6 (by have:=hc.four.2;omega)) h7 h8
theorem Mj {l':List Node}{f:Bool} (h:Ao p=true) (hc:Ch l') (hv:∀ v,inCh l' v→0<v.tag.time→inCh p.chain v∨Ca v.past (AS p.chain)=true)
  (hs:Ca (AS p.chain) (AS l')=true) (ht:0≤t∧t≤999) (hh:D3 l' t=true):Ao ⟨p.me,t,l',p.log,p.got,f⟩=true:=by
 have hc0:=HA h;obtain ⟨h1,h2,h3,h4,h5,h6,h7,h8⟩:=AK h;refine YU (p:=⟨p.me,t,l',p.log,p.got,f⟩) h1 ht h3 (chain_iff.2 hc) ((LF hc).2 fun v hvc hvt=>?_) h6 h7 hh;have hpl:=BK (AN (hc.ver hvc hvt)).2.2.2.1;refine Uc (by rw[hpl,hc0.four.1];exact zbR _) ?_ hs;rcases hv v hvc hvt with g | g
 ·exact (LF hc0).1 h5 v g hvt
 ·exact g
theorem Z7 (h:Ao p=true):Ao (Ms p)=true:=by
 have hc:=HA h;have hp:=hc.pos;unfold Ms KH;cases hj:Gi p.chain with
 | false=>rw[cond_false];exact h
 | true =>
  have hl:p.chain.length<4:=by unfold Gi at hj;have:=of_decide_eq_true hj;omega
  obtain ⟨_,e1,e2,e3⟩:=NA hc;have h8:=(AK h).2.2.2.2.2.2.2;rw[cond_true];refine Mj h (hc.join hl) (fun v hv _ => .inl (SB hp hv)) (by rw[e1];exact Ic) (AK h).2.1 ?_;unfold D3 at h8 ⊢;rw[e3];exact h8
theorem LC {l:List Node} (h:CA l k=true):∃ f:Nat,k=(f:Int)∧f<l.length∧1<l.length:=by simp only[CA,Al,Dm,decide_eq_true_eq] at h;exact ⟨k.toNat,by omega,by omega,h.2⟩
theorem WS (h:Ao p=true) (hl:p.log.length≤56):Ao (A6 p k)=true:=by
 have hc:=HA h;unfold A6;cases hf:Bk p k with
 | false=>exact h
 | true =>unfold Bk at hf;rw[Dm] at hf;obtain ⟨f,rfl,h1,h2⟩:=LC hf.2;rw[cond_true,A7];refine Pf ?_ hl;exact Mj h (hc.fall h1 h2) (fun v hv _ => .inl (SD h1 hv)) (U5 hc h1 h2) (AK h).2.1 (Yf hc h1 h2 (AK h).2.2.2.2.2.2.2)
theorem WQ (h:Ao p=true) (hl:p.log.length≤56):Ao (Bo p k)=true:=by
 have hc:=HA h;unfold Bo;cases hf:A4 p.chain k with
 | false=>exact h
 | true =>rw[cond_true];refine Pf ?_ hl;exact Mj h (hc.pass hf) (fun v hv _ => .inl (SA hf hv)) (UB hc hf) (AK h).2.1 (XO hc hf (AK h).2.2.2.2.2.2.2)
theorem YV {v:Ver} (h:Ao p=true) (hv:A3 v=true) (hr:EW p.chain 0=true) (hu:Ca v.past (AS p.chain)=true) (h1:p.clock≤t) (h2:v.tag.time≤t) (h3:t≤999):Ao (IC p 0 t v)=true:=by have hc:=HA h;have hcl:=(AK h).2.1;exact Mj h (hc.add hv hr) (fun w hw _=>(Mu hw).imp id fun e=>by rw[e];exact hu) (WI hc hv) ⟨by omega,h3⟩ (ZO hc hv (AK h).2.2.2.2.2.2.2 h1 h2)
theorem YX:t≤GH t c∧c≤GH t c∧(GH t c=t∨GH t c=c):=by unfold GH;split<;>omega
theorem UO {f:Nat}{v:Ver} (h:Ao p=true) (hv:JL p f=some v):A3 v=true∧v.tag.place=(f:Int)∧(f:Int)≠p.me∧f<3:=by
 unfold JL at hv;have hm:=List.mem_of_find?_eq_some hv;unfold J3 at hm;have h3:=(AK h).2.2.1;cases hg:p.got[f]? with
 | none=>rw[hg] at hm;simp at hm
 | some l =>rw[hg] at hm;simp only at hm;obtain ⟨hf,rfl⟩:=Fh hg;have g:=(AK h).2.2.2.2.2.2.1 f hf;unfold IR at g;rw[Dm] at g;obtain ⟨i,hi,rfl⟩:=zcu.1 hm;obtain ⟨q1,q2,_⟩:=(HY g.1).2 i hi;refine ⟨q1,q2,fun e=>?_,by omega⟩;have:=g.2;rw[e,MO,zcE,zcL,decide_eq_true_eq] at this;omega
theorem Z6 (h:Ao p=true) (hl:p.log.length≤56):Ao (Fd p k)=true:=by
 unfold Fd;cases hk:Eo p k with
 | false=>exact h
 | true =>
  rw[cond_true];unfold Eo at hk;rw[Dm] at hk;have hk:=hk.2;unfold L7 at hk;unfold L8;cases hv:JL p k.toNat with
  | none=>exact h
  | some v =>rw[hv] at hk;simp only[Dm] at hk;obtain ⟨v1,v2,v3,v4⟩:=UO h hv;have:=DF (AN v1).2.2.2.2.1;have hcl:=(AK h).2.1;have hn:=YX (t:=v.tag.time) (c:=p.clock);exact Pf (YV h v1 hk.1 hk.2 hn.2.1 hn.1 (by omega)) hl
theorem Sp {g:Bool}{l:List Tag} (h:Ao p=true) (hc:Br p k s g l=true):A3 (GQ p k s g l)=true:=by
 rw[OJ,Dm] at hc;have hm:=hc.2;obtain ⟨h1,h2,h3,h4,h5,h6,h7,h8⟩:=Ia (by rw[OJ,hc.1,hc.2];rfl:Br p k s g l=true);have ht:=L6 h h4;have hme:=(AK h).1;unfold A3;rw[Dm,Dm];refine ⟨⟨hc.1,?_⟩,?_⟩
 ·show A2 (Bp p l) p.me=true;simp[A2,Al];omega
 ·show decide (EI l<Bp p l)=true;exact decide_eq_true (by omega)
theorem YT {g:Bool}{l:List Tag} (h:Ao p=true):Ao (I9 p k s g l).1=true:=by
 rw[Pu h];cases hc:Br p k s g l with
 | false=>exact h
 | true =>obtain ⟨h1,h2,h3,h4,h5,h6,h7,h8⟩:=Ia hc;have ht:=L6 h h4;exact Pf (YV h (Sp h hc) h6 h5 (by omega) (zdw _) h7) (by show p.log.length≤56;omega)
theorem Z8 {f a:Int}{v:Ver} (h:Ao p=true):Ao (Hn p f a v)=true:=by
 unfold Hn;cases hc:Hr p f a v with
 | false=>exact h
 | true =>
  simp only[Hr,Jm,Al,Dm,decide_eq_true_eq,beq_iff_eq,zcy] at hc;obtain ⟨⟨h1,h2⟩,h3,h4,h5,h6,h7,h8⟩:=hc;obtain ⟨q1,q2,q3,q4,q5,q6,q7,q8⟩:=AK h;have hf:f.toNat<p.got.length:=by omega
  have e:((f.toNat:Nat):Int)=f:=by omega
  rw[cond_true];refine YU (p:=J2 p f.toNat v) q1 q2 (by simpa [J2] using q3) q4 q5 q6 (fun i hi=>?_) q8;have hi':i<p.got.length:=by simpa [J2] using hi
  show IR p.me i ((p.got.set f.toNat (J3 p f.toNat ++ [v]))[i]'(by simpa using hi'))=true;rw[List.getElem_set];split
  ·rename_i ei
   subst ei;rw[Jn hf] at h7 h8 ⊢;unfold IR;rw[UM (Ti h hf) h3 (by omega) h8 (by omega),zb8];rw[beq_eq_false_iff_ne] at h5;rw[beq_eq_false_iff_ne.2 h5];rfl
  ·exact q7 i hi'
end


structure Sess where
 place:Int
 past:List Tag
 wait:Tag
 key:Int
structure Done where
 sess:Int
 kind:Int
 key:Int
 tag:Tag
structure World where
 places:List Place
 sess:List Sess
 net:List Frame
 hist:List Done
abbrev zba (ro:Bool):Nat:=bif ro then 214 else 49
abbrev zbv (ro:Bool):Nat:=bif ro then 221 else 105
abbrev Zs (ro:Bool):Nat:=bif ro then 226 else 172
abbrev zbx (ro:Bool):Nat:=bif ro then 235 else 174
abbrev Sess.cs (s:Sess) (a:Pq) (c:Nq):List V := [Iv s.place,.sl 2 a s.past.length c,Iv s.wait.time,Iv s.wait.place,Iv s.key]
abbrev Done.cs (d:Done):List V := [Iv d.sess,Iv d.kind,Iv d.key,Iv d.tag.time,Iv d.tag.place]
abbrev World.cs (w:World) (a1:Pq) (c1:Nq) (a2:Pq) (c2:Nq) (a3:Pq) (c3:Nq) (a4:Pq) (c4:Nq):List V :=
 [.sl 6 a1 w.places.length c1,.sl 5 a2 w.sess.length c2,.sl 9 a3 w.net.length c3,.sl 5 a4 w.hist.length c4]
abbrev RPlaces (ro:Bool):Rel (List Place):=Sli ro 6 (zba ro) (RPlace ro)
def RSess (ro:Bool):Rel Sess:=fun h cs s F=>∃ v,cs = [Iv s.place,v,Iv s.wait.time,Iv s.wait.place,Iv s.key]∧RTags ro h [v] s.past F
abbrev RSesss (ro:Bool):Rel (List Sess):=Sli ro 5 (zbv ro) (RSess ro)
abbrev RFrames (ro:Bool):Rel (List Frame):=Sli ro 9 (Zs ro) (WJ ro)
abbrev RDones (ro:Bool):Rel (List Done):=Sli ro 5 (zbx ro) (flat Done.cs)
def TH (ro:Bool):Rel World:=fun h cs w F=>∃ s1 s2 s3 s4 F1 F2 F3 F4,cs = [s1,s2,s3,s4]∧F=F1++(F2++(F3++F4))∧RPlaces ro h [s1] w.places F1∧RSesss ro h [s2] w.sess F2∧RFrames ro h [s3] w.net F3∧RDones ro h [s4] w.hist F4
theorem rplaces_ok {ro:Bool}:(RPlaces ro).Ok:=Sli.ok rplace_ok
theorem Jd {ro:Bool}:(RSess ro).Ok :=
 ⟨fun h h' cs x F ⟨s,h1,h2⟩ hb=>⟨s,h1,rtags_ok.fr _ _ _ _ _ h2 hb⟩,fun h cs x F ⟨s,_,h2⟩=>rtags_ok.bd _ _ _ _ h2⟩
theorem rsesss_ok {ro:Bool}:(RSesss ro).Ok:=Sli.ok Jd
theorem rframes_ok {ro:Bool}:(RFrames ro).Ok:=Sli.ok rframe_ok
theorem rdones_ok {ro:Bool}:(RDones ro).Ok:=Sli.ok CK
section
variable {ro:Bool}{h:Heap}{F:List Nat}{a:Pq}{c:Nq}{n k:Nat}
theorem RPlaces.get {l:List Place} (hs:RPlaces ro h [.sl 6 a n c] l F) (hk:k<l.length):∃ o s1 s2 s3 a1 c1 a2 c2 a3 c3 F1 F2 F3,a=some o ∧
  ld h o.1 (o.2+k) 0 6=some [Iv l[k].me,Iv l[k].clock,s1,s2,s3,.bool l[k].fell]∧ld h o.1 (o.2+k) 0 1=some [Iv l[k].me]∧ld h o.1 (o.2+k) 2 1=some [s1]∧ld h o.1 (o.2+k) 3 1=some [s2]∧ld h o.1 (o.2+k) 4 1=some [s3] ∧
  (∀ {R':Type} (K:Pq→Nat→Nq→Option R'),eS 2 s1 K=K a1 l[k].chain.length c1)∧(∀ {R':Type} (K:Pq→Nat→Nq→Option R'),eS 6 s2 K=K a2 l[k].log.length c2) ∧
  (∀ {R':Type} (K:Pq→Nat→Nq→Option R'),eS 1 s3 K=K a3 l[k].got.length c3) ∧
  RNodes ro h [.sl 2 a1 l[k].chain.length c1] l[k].chain F1∧RVers ro h [.sl 6 a2 l[k].log.length c2] l[k].log F2∧RVss ro h [.sl 1 a3 l[k].got.length c3] l[k].got F3∧(∀ b,b∈F1∨b∈F2∨b∈F3→b∈F):=by
 obtain ⟨o,row,G,h1,h2,hv,hG,_⟩:=hs.read hk;obtain ⟨s1,s2,s3,a1,c1,a2,c2,a3,c3,F1,F2,F3,rfl,rfl,e1,e2,e3,g1,g2,g3⟩:=hv.form;exact ⟨o,s1,s2,s3,a1,c1,a2,c2,a3,c3,F1,F2,F3,h1,by rw[h2];rfl,by rw[h2];rfl,by rw[h2];rfl,by rw[h2];rfl,by rw[h2];rfl,e1,e2,e3,g1,g2,g3,fun b hb=>hG b (by simpa using hb)⟩
theorem RSess.form {row:List V}{s:Sess} (hv:RSess ro h row s F):∃ v a c,row = [Iv s.place,v,Iv s.wait.time,Iv s.wait.place,Iv s.key] ∧
  (∀ {R':Type} (K:Pq→Nat→Nq→Option R'),eS 2 v K=K a s.past.length c)∧RTags ro h [.sl 2 a s.past.length c] s.past F:=by
 obtain ⟨v,rfl,hp⟩:=hv;obtain ⟨a,c,es,hp2⟩:=hp.form;exact ⟨v,a,c,rfl,es,hp2⟩
theorem RSesss.get {l:List Sess} (hs:RSesss ro h [.sl 5 a n c] l F) (hk:k<l.length):∃ o v a' c' G,a=some o∧ld h o.1 (o.2+k) 0 5=some [Iv l[k].place,v,Iv l[k].wait.time,Iv l[k].wait.place,Iv l[k].key] ∧
  ld h o.1 (o.2+k) 0 1=some [Iv l[k].place]∧ld h o.1 (o.2+k) 1 1=some [v] ∧
  (∀ {R':Type} (K:Pq→Nat→Nq→Option R'),eS 2 v K=K a' l[k].past.length c')∧RTags ro h [.sl 2 a' l[k].past.length c'] l[k].past G∧(∀ b∈G,b∈F):=by
 obtain ⟨o,row,G,h1,h2,hv,hG,_⟩:=hs.read hk;obtain ⟨v,a',c',rfl,es,hp⟩:=hv.form;exact ⟨o,v,a',c',G,h1,by rw[h2];rfl,by rw[h2];rfl,by rw[h2];rfl,es,hp,hG⟩
theorem RFrames.get {l:List Frame} (hs:RFrames ro h [.sl 9 a n c] l F) (hk:k<l.length):∃ o s a' c' G,a=some o ∧
  ld h o.1 (o.2+k) 0 9=some [Iv l[k].fro,Iv l[k].to,Iv l[k].at',Iv l[k].ver.key,Iv l[k].ver.tag.time,Iv l[k].ver.tag.place,s,.str l[k].ver.text,.bool l[k].ver.gone] ∧
  (∀ {R':Type} (K:Pq→Nat→Nq→Option R'),eS 2 s K=K a' l[k].ver.past.length c')∧RTags ro h [.sl 2 a' l[k].ver.past.length c'] l[k].ver.past G∧(∀ b∈G,b∈F):=by
 obtain ⟨o,row,G,h1,h2,⟨vs,rfl,hv⟩,hG,_⟩:=hs.read hk;obtain ⟨s,a',c',rfl,es,hp⟩:=hv.form;exact ⟨o,s,a',c',G,h1,by rw[h2];rfl,es,hp,hG⟩
theorem RDones.get {l:List Done} (hs:RDones ro h [.sl 5 a n c] l F) (hk:k<l.length):∃ o,a=some o∧ld h o.1 (o.2+k) 0 5=some l[k].cs:=by obtain ⟨o,row,G,h1,h2,⟨rfl,_⟩,_⟩:=hs.read hk;exact ⟨o,h1,by rw[h2];rfl⟩
end
def WM (w:World):Prop:=(w.places.length≤1048576∧∀ p∈w.places,CT p)∧(w.sess.length≤1048576∧∀ s∈w.sess,s.past.length≤1048576)∧(w.net.length≤1048576∧∀ f∈w.net,f.ver.past.length≤1048576∧f.ver.text.size≤1048576)∧w.hist.length≤1048576
section
variable {lo:Nat}{ro ro':Bool}{h:Heap}{F F':List Nat}{a a':Pq}{c c':Nq}{left:Int}
end


def YC (p:Place) (to at':Int):Bool:=Ao p&&Al to 0 2 && !(p.me==to)&&Al at' 0 (p.log.length - 1)
def told (p:Place) (to at':Int):Frame:=bif YC p to at' then ⟨p.me,to,at',(p.log[at'.toNat]?).getD T8⟩ else ⟨0,0,0,T8⟩
section
variable {lo:Nat}{h:Heap}{F F':List Nat}{a a':Pq}{c c':Nq}
end


def FS (s:Sess):Bool:=Al s.place 0 2&&Bg s.past&&A2 s.wait.time s.wait.place&&Al s.key 0 3&&(decide (s.wait.time>0) || s.key==0)&&(s.wait.time==0 || s.wait.place==s.place)
def QC (d:Done):Bool:=Al d.sess 0 3&&Al d.kind 1 3&&Al d.key 0 3&&A2 d.tag.time d.tag.place&&(d.kind==2 || decide (d.tag.time>0))
def HB (l:List Place) (k:Nat):List Ver:=match l[k]? with
 | some p=>p.log
 | none => []
theorem Ss {l:List Place}{k:Nat} (hk:k<l.length):HB l k=l[k].log:=by unfold HB;rw[Dd hk]
section
variable {lo:Nat}{ro ro':Bool}{h:Heap}{F F':List Nat}{a a':Pq}{c c':Nq}
end


abbrev zbt (n:Int):List V := [Iv n]
abbrev RInts:Rel (List Int):=Sli false 1 3 (flat zbt)
section
variable {lo:Nat}{h:Heap}{F F' F1:List Nat}{a a' a1 a2 a3 a4:Pq}{c c' c1 c2 c3 c4:Nq}{k:Int}
theorem RInts.get {l:List Int}{n i:Nat} (hs:RInts h [.sl 1 a n c] l F) (hi:i<l.length):∃ o,a=some o∧ld h o.1 (o.2+i) 0 1=some [Iv l[i]]:=by obtain ⟨o,row,G,h1,h2,⟨rfl,_⟩,_⟩:=hs.read hi;exact ⟨o,h1,by rw[h2];rfl⟩
end


variable {l:List Node}
def BJ (l:List Node) (k:Nat):Nat:=if k=0∧1<l.length then 1 else k
def GG (l:List Node) (k key:Nat):Option Ver:=(FR l (BJ l k))[key]?
section
variable {lo:Nat}{ro:Bool}{h:Heap}{F F' F1:List Nat}{a a' a1 a2 a3 a4:Pq}{c c' c1 c2 c3 c4:Nq}
theorem Ld {k key:Nat} (hs:RNodes false h [.sl 2 a l.length c] l F) (hk:k<l.length) (hst:∀ x∈l,AH x.store=true) (hkey:key<4) (hl:lo≤h.length) (hn1:l.length≤1048576) :
  ∃ v a' c' h' G,Ae lo 72 [.agg [.sl 2 a l.length c],Iv (k:Nat),Iv (key:Nat)] h=some (.agg (Ver.cs v a' c'),h')∧GG l k key=some v∧RTags false h' [.sl 2 a' v.past.length c'] v.past G∧Mv h [] h' G:=by
 suffices hq:∃ v a' c' h' G,_=some (V.agg (Ver.cs v a' c'),h')∧GG l k key=some v∧RTags false h' [.sl 2 a' v.past.length c'] v.past G∧Mv h [] h' G from by obtain ⟨v,a',c',h',G,e,hr⟩:=hq;exact ⟨v,a',c',h',G,QO e,hr⟩
 have hql:BJ l k<l.length:=by unfold BJ;split<;>omega
 obtain ⟨o,s1,s2,b1,d1,b2,d2,H1,H2,ha,_,ho1,_,q1,_,p1,_⟩:=hs.get hql;have hs4:=hst _ (zbO hql);have hkl:key<l[BJ l k].store.length:=by rw[AQ hs4];exact hkey
 obtain ⟨o2,t,b3,d3,G,ha2,ho2,es2,pv,_⟩:=p1.get hkl;obtain ⟨a5,c5,h5,F5,e5,r5,m5⟩:=CO (lo:=lo) (v:=l[BJ l k].store[key]) pv hl ((GN hs4).2 _ (zbO hkl)).1;have hsh:GG l k key=some l[BJ l k].store[key]:=by unfold GG;rw[CI hql,Dd hkl]
 generalize l[BJ l k].store[key]=v at ho2 es2 pv e5 r5 hsh;generalize l[BJ l k].store.length=n1 at q1 hkl ha2;refine ⟨v,a5,c5,h5,F5,?_,hsh,r5,m5⟩;simp only[Ver.cs] at e5;by_cases hk0:k=0
 ·rw[show (((k:Nat):Int)==0)=true by rw[beq_iff_eq];omega,An];by_cases h1:1<l.length
  ·have hsa:BJ l k=1:=by unfold BJ;rw[if_pos ⟨hk0,h1⟩]
   rw[hsa] at ho1;rw[Ak (by omega),Cl ⟨by omega,by omega⟩,ha,Af,ho1,Af,Ab,Ag,q1,Ad hkl,ha2,Af,A7,ho2,Af,Ab,Aa,Ab,Aa,Ab,Aa,Ab,es2,Ab,A8,Ab,Aw,Ag,e5,Ac,AC,Ab,Aa,Ab,Aa,Ab,Aa,Ab,Ah,Ab,A8,Ab,Aw,Ag]
  ·have hsa:BJ l k=k:=by unfold BJ;rw[if_neg (by omega)]
   rw[hsa] at ho1;rw[Ai (by omega),Ad hk,ha,Af,A7,ho1,Af,Ab,Ag,q1,Ad hkl,ha2,Af,A7,ho2,Af,Ab,Aa,Ab,Aa,Ab,Aa,Ab,es2,Ab,A8,Ab,Aw,Ag,e5,Ac,AC,Ab,Aa,Ab,Aa,Ab,Aa,Ab,Ah,Ab,A8,Ab,Aw,Ag]
 ·have hsa:BJ l k=k:=by unfold BJ;rw[if_neg (by omega)]
  rw[hsa] at ho1;rw[show (((k:Nat):Int)==0)=false by rw[beq_eq_false_iff_ne];omega,Au,Ad hk,ha,Af,A7,ho1,Af,Ab,Ag,q1,Ad hkl,ha2,Af,A7,ho2,Af,Ab,Aa,Ab,Aa,Ab,Aa,Ab,es2,Ab,A8,Ab,Aw,Ag,e5,Ac,AC,Ab,Aa,Ab,Aa,Ab,Aa,Ab,Ah,Ab,A8,Ab,Aw,Ag]
theorem Wc {k key b i j:Nat}{s0:V} (hld:ld h b i (j+0) 1=some [s0]) (es0:∀ {T:Type} (K:Pq→Nat→Nq→Option T),eS 2 s0 K=K a l.length c) (hs:RNodes false h [.sl 2 a l.length c] l F) (hk:k<l.length) (hst:∀ x∈l,AH x.store=true) (hkey:key<4) (hl:lo≤h.length) (hn1:l.length≤1048576) :
  ∃ v a' c' h',Ae lo 69 [.ptr (some (b,(i,j))),Iv (k:Nat),Iv (key:Nat)] h=some (.tup [.agg (Ver.cs v a' c'),.bool true],h')∧GG l k key=some v∧Mv h [] h' []:=by
 suffices hq:∃ v a' c' h',_=some (V.tup [.agg (Ver.cs v a' c'),.bool true],h')∧GG l k key=some v∧Mv h [] h' [] from by obtain ⟨v,a',c',h',e,hr⟩:=hq;exact ⟨v,a',c',h',LY e,hr⟩
 have hql:BJ l k<l.length:=by unfold BJ;split<;>omega
 obtain ⟨o,s1,s2,b1,d1,b2,d2,H1,H2,ha,_,ho1,_,q1,_,p1,_⟩:=hs.get hql;have hs4:=hst _ (zbO hql);have hkl:key<l[BJ l k].store.length:=by rw[AQ hs4];exact hkey
 obtain ⟨o2,t,b3,d3,G,ha2,ho2,es2,pv,_⟩:=p1.get hkl;obtain ⟨a5,c5,h5,F5,e5,r5,m5⟩:=CV (lo:=lo) (v:=l[BJ l k].store[key]) pv hl ((GN hs4).2 _ (zbO hkl)).1;have hsh:GG l k key=some l[BJ l k].store[key]:=by unfold GG;rw[CI hql,Dd hkl]
 generalize l[BJ l k].store[key]=v at ho2 es2 pv e5 r5 hsh;generalize l[BJ l k].store.length=n1 at q1 hkl ha2;refine ⟨v,a5,c5,h5,?_,hsh,m5.drop⟩;simp only[Ver.cs] at e5;have hw1:Al ((k:Nat):Int) 0 ((l.length:Int) - 1)=true:=by simp only[Al,Dm,decide_eq_true_eq];omega
 have hw2:Al ((key:Nat):Int) 0 3=true:=by simp only[Al,Dm,decide_eq_true_eq];omega
 rw[hld,Af,Ab,Ag,es0,wr (n:=((l.length:Nat):Int) - 1) (by omega) (by omega),DB,Ac,Av,hw1,An,Qh,Ac,Av,hw2,An];by_cases hk0:k=0
 ·rw[show (((k:Nat):Int)==0)=true by rw[beq_iff_eq];omega,An,hld,Af,Ab,Ag,es0,Af,Ab,Ag,es0,wr (n:=((l.length:Nat):Int) - 1) (by omega) (by omega)];have hif:(if ((l.length:Nat):Int) - 1<1 then ((l.length:Nat):Int) - 1 else 1)=((BJ l k:Nat):Int):=by
   unfold BJ;by_cases h1:1<l.length
   ·rw[if_neg (by omega),if_pos ⟨hk0,h1⟩];rfl
   ·rw[if_pos (by omega),if_neg (by omega)];omega
  rw[hif,Ad hql,ha,Af,A7,ho1,Af,Ab,Ag,q1,Ad hkl,ha2,Af,A7,ho2,Af,Ab,Aa,Ab,Aa,Ab,Aa,Ab,es2,Ab,A8,Ab,Aw,Ag,e5,Ac,AC,Ab,Aa,Ab,Aa,Ab,Aa,Ab,Ah,Ab,A8,Ab,Aw,Ag]
 ·have hsa:BJ l k=k:=by unfold BJ;rw[if_neg (by omega)]
  rw[hsa] at ho1;rw[show (((k:Nat):Int)==0)=false by rw[beq_eq_false_iff_ne];omega,Au,hld,Af,Ab,Ag,es0,Ad hk,ha,Af,A7,ho1,Af,Ab,Ag,q1,Ad hkl,ha2,Af,A7,ho2,Af,Ab,Aa,Ab,Aa,Ab,Aa,Ab,es2,Ab,A8,Ab,Aw,Ag,e5,Ac,AC,Ab,Aa,Ab,Aa,Ab,Aa,Ab,Ah,Ab,A8,Ab,Aw,Ag]
end


variable {k:Int}
structure Roomy (p:Place):Prop where
 seen:∃ U:List Tag,U.length≤54∧(∀ v∈p.log,v.tag∈U)∧∀ v,inCh p.chain v→0<v.tag.time→v.tag.place=p.me→v.tag∈U
 told:∀ v∈DI p.chain,0<v.tag.time→v.tag.place=p.me→Bw p.log v.tag=true
theorem Sn {α:Type} [DecidableEq α]:∀ {a U:List α},a.Nodup→(∀ x∈a,x∈U)→a.length≤U.length
 | [],U,_,_=>zch _
 | x :: a,U,hn,hs=>by
  rw[zbV] at hn;have h1:=hs x (by simp);have h2:=Sn (a:=a) (U:=U.erase x) hn.2 fun y hy=>(List.mem_erase_of_ne (fun e=>hn.1 (by rw[← e];exact hy))).2 (hs y (by simp[hy]))
  rw[List.length_erase_of_mem h1] at h2;have:=List.length_pos_of_mem h1;simp only[zcF];omega
section
variable {p:Place}
theorem XV {m:Int}{l:List Ver} (h:Ea m l=true):(l.map fun v=>v.tag).Nodup:=by
 obtain ⟨_,h2⟩:=HY h;unfold List.Nodup;rw[List.pairwise_map,List.pairwise_iff_getElem];intro i j hi hj hij e;have h3:=(h2 j hj).2.2;have:Bw (l.take j) l[j].tag=true:=hasTag_mem.2 ⟨l[i],by
  rw[zcu];exact ⟨i,by simp;omega,by simp⟩,e⟩
 rw[h3] at this;cases this
theorem Roomy.len (h:Roomy p) (hp:Ao p=true):p.log.length≤54:=by
 obtain ⟨U,h1,h2,_⟩:=h.seen;have:=Sn (U:=U) (XV (AK hp).2.2.2.2.2.1) (fun t ht=>by
  obtain ⟨v,hv,rfl⟩:=zdC.1 ht;exact h2 v hv)
 simp only[zdv] at this;omega
theorem UE {m:Int}:∀ {vs l:List Ver},∀ v∈vs.foldl (noted m) l,v∈l∨(v∈vs∧0<v.tag.time∧v.tag.place=m)
 | [],l,v,hv => .inl hv
 | x :: vs,l,v,hv=>by
  rw[zcA] at hv;rcases UE v hv with g | ⟨g1,g2⟩
  ·unfold noted at g;cases hc:(decide (x.tag.time>0)&&(x.tag.place==m && !Bw l x.tag)) with
   | false=>rw[hc] at g;exact .inl g
   | true =>
    rw[hc,cond_true] at g;simp only[Dm,decide_eq_true_eq,beq_iff_eq] at hc;rcases zbP.1 g with g | g
    ·exact .inl g
    ·rw[zbW] at g;subst g;exact .inr ⟨by simp,hc.1,hc.2.1⟩
  ·exact .inr ⟨by simp[g1],g2⟩
theorem JE (h:Ch p.chain) (hs:∃ U:List Tag,U.length≤54∧(∀ v∈p.log,v.tag∈U)∧∀ v,inCh p.chain v→0<v.tag.time→v.tag.place=p.me→v.tag∈U):Roomy (BL p):=by
 obtain ⟨U,h1,h2,h3⟩:=hs;refine ⟨⟨U,h1,fun v hv=>?_,h3⟩,fun v hv ht hp=>?_⟩
 ·rcases UE v hv with g | ⟨g1,g2,g3⟩
  ·exact h2 v g
  ·obtain ⟨z,hz,hi⟩:=h.tail;rw[HZ hz hi] at g1;exact h3 v (.of hz (.inl g1)) g2 g3
 ·exact (noted_has (vs:=DI p.chain) (l:=p.log)).1 v hv ht hp
theorem VS (h:Roomy p) (hp:Ao p=true):Roomy (Ms p):=by
 have hc:=HA hp;unfold Ms KH;cases Gi p.chain with
 | false=>exact h
 | true =>rw[cond_true];obtain ⟨U,h1,h2,h3⟩:=h.seen;exact ⟨⟨U,h1,h2,fun v hv=>h3 v (SB hc.pos hv)⟩,fun v hv=>h.told v (by rw[← (NA hc).2.2.1];exact hv)⟩
theorem VU (h:Roomy p) (hp:Ao p=true):Roomy (A6 p k):=by
 have hc:=HA hp;unfold A6;cases hf:Bk p k with
 | false=>exact h
 | true =>unfold Bk at hf;rw[Dm] at hf;obtain ⟨f,rfl,g1,g2⟩:=LC hf.2;obtain ⟨U,h1,h2,h3⟩:=h.seen;rw[cond_true,A7];exact JE (p:=IV p f) (hc.fall g1 g2) ⟨U,h1,h2,fun v hv=>h3 v (SD g1 hv)⟩
theorem VQ (h:Roomy p) (hp:Ao p=true):Roomy (Bo p k):=by
 have hc:=HA hp;unfold Bo;cases hf:A4 p.chain k with
 | false=>exact h
 | true =>obtain ⟨U,h1,h2,h3⟩:=h.seen;rw[cond_true];exact JE (p:=FV p k.toNat) (hc.pass hf) ⟨U,h1,h2,fun v hv=>h3 v (SA hf hv)⟩
theorem VP (h:Roomy p) (hp:Ao p=true):Roomy (Fd p k):=by
 have hc:=HA hp;unfold Fd;cases hk:Eo p k with
 | false=>exact h
 | true =>
  rw[cond_true];unfold Eo at hk;rw[Dm] at hk;have hk:=hk.2;unfold L7 at hk;unfold L8;cases hv:JL p k.toNat with
  | none=>exact h
  | some v =>
   rw[hv] at hk;simp only[Dm] at hk;obtain ⟨v1,v2,v3,v4⟩:=UO hp hv;obtain ⟨U,h1,h2,h3⟩:=h.seen;refine JE (p:=IC p 0 (GH v.tag.time p.clock) v) (hc.add v1 hk.1) ⟨U,h1,h2,fun w hw ht hm=>?_⟩;rcases Mu hw with g | rfl
   ·exact h3 w g ht hm
   ·exact absurd (v2.symm.trans hm) v3
theorem VT {f a:Int}{v:Ver} (h:Roomy p):Roomy (Hn p f a v):=by
 unfold Hn;cases Hr p f a v with
 | false=>exact h
 | true=>exact ⟨h.seen,h.told⟩
theorem L3 {l:List Node}{v:Ver} (h:Ch l):∀ (d i:Nat) (x:Node),i+d+1=l.length→l[i]?=some x→v∈x.store→(∃ (j:Nat) (y:Node),l[j]?=some y∧j+1<l.length∧v∈y.wait)∨v∈DI l
 | 0,i,x,hd,hx,hv=>by rw[HZ hx (by omega)];exact .inr hv
 | d+1,i,x,hd,hx,hv=>by
  have hy:=Dd (l:=l) (i:=i+1) (by omega);rcases SJ (h.link i x _ hx hy) v hv with g | g
  ·exact .inl ⟨i,x,hx,by omega,g⟩
  ·exact L3 h d (i+1) _ (by omega) hy g
theorem RZ:∀ {l:List Node},(∀ x∈l,x.wait.length≤6)→(l.flatMap fun x=>x.wait).length≤6*l.length
 | [],_=>by simp
 | x :: l,h=>by have h1:=h x (by simp);have h2:=RZ (l:=l) fun y hy=>h y (by simp[hy]);simp only[zc7,zbX,zcF];omega
theorem Uv {s:ByteArray}{g:Bool}{l:List Tag} (h:Roomy p) (hp:Ao p=true):Roomy (I9 p k s g l).1:=by
 have hc:=HA hp;rw[Pu hp];cases hw:Br p k s g l with
 | false=>exact h
 | true =>
  obtain ⟨h1,h2,h3,h4,h5,h6,h7,h8⟩:=Ia hw;have hv:=Sp hp hw;refine JE (p:=IC p 0 (Bp p l) (GQ p k s g l)) (hc.add hv h6) ⟨(p.log++(p.chain.dropLast.flatMap fun x=>x.wait)).map (fun v=>v.tag) ++ [⟨Bp p l,p.me⟩],?_,fun v hv=>?_,fun v hv ht hm=>?_⟩
  ·have hd:∀ x∈p.chain.dropLast,x.wait.length≤6:=fun x hx=>by obtain ⟨i,hi⟩:=zb5.1 ((List.dropLast_sublist _).mem hx);exact (Ay (hc.node i x hi)).2.1
   have:=RZ hd;have h4:=hc.le;simp only[zbX,zdv,List.length_dropLast,zb6] at this ⊢;omega
  ·refine zcf _ (zdC.2 ⟨v,zcf _ hv,rfl⟩)
  ·have old:inCh p.chain v→v.tag∈(p.log++(p.chain.dropLast.flatMap fun x=>x.wait)).map (fun v=>v.tag):=fun hi=>by
    have fin:(∃ (j:Nat) (y:Node),p.chain[j]?=some y∧j+1<p.chain.length∧v∈y.wait)∨v∈DI p.chain:=by
     obtain ⟨i,x,hx,q | q⟩:=hi.get
     ·have hlt:=(Fh hx).1;exact L3 hc (p.chain.length - 1 - i) i x (by omega) hx q
     ·have hlt:=(Fh hx).1;by_cases he:i+1=p.chain.length
      ·rw[hc.last i x hx he] at q;simp at q
      ·exact .inl ⟨i,x,hx,by omega,q⟩
    rcases fin with ⟨j,y,hj,hjl,q⟩ | q
    ·refine zdC.2 ⟨v,zci _ (List.mem_flatMap.2 ⟨y,?_,q⟩),rfl⟩;rw[zb5];exact ⟨j,by rw[List.getElem?_dropLast,if_pos (by omega)];exact hj⟩
    ·obtain ⟨u,hu,e⟩:=hasTag_mem.1 (h.told v q ht hm);exact zdC.2 ⟨u,zcf _ hu,e⟩
   rcases Mu hv with q | rfl
   ·exact zcf _ (old q)
   ·exact zci _ (by simp[GQ])
end
def KW (l:List Place) (f:Frame):Prop:=(0≤f.fro∧f.fro≤2)∧(0≤f.to∧f.to≤2)∧f.fro≠f.to∧0≤f.at'∧(HB l f.fro.toNat)[f.at'.toNat]?=some f.ver
structure Wd (w:World):Prop where
 p3:w.places.length=3
 s4:w.sess.length≤4
 n12:w.net.length≤12
 h80:w.hist.length≤80
 place:∀ (i:Nat) (p:Place),w.places[i]?=some p→p.me=(i:Int)∧Ao p=true
 sess:∀ s∈w.sess,FS s=true
 net:∀ f∈w.net,KW w.places f
 hist:∀ d∈w.hist,QC d=true
 heard:∀ (i:Nat) (p:Place) (k:Nat) (g:List Ver),w.places[i]?=some p→p.got[k]?=some g→∃ r,HB w.places k=g++r
theorem WY {l:List Place}{k:Nat}{p q:Place} (hp:l[k]?=some p) (hlog:∃ r,q.log=p.log++r) (j:Nat):∃ r,HB (l.set k q) j=HB l j++r:=by
 unfold HB;by_cases hj:k=j
 ·subst hj;rw[zb9 (Fh hp).1,hp];exact hlog
 ·rw[zbU hj];exact ⟨[],by simp⟩
section
variable {w:World}
theorem Wd.setP (h:Wd w) {k:Nat}{p q:Place} (hp:w.places[k]?=some p) (hq:Ao q=true) (hm:q.me=p.me) (hlog:∃ r,q.log=p.log++r)
  (hgot:∀ (i:Nat) (g:List Ver),q.got[i]?=some g→p.got[i]?=some g∨∃ r,HB w.places i=g++r):Wd ⟨w.places.set k q,w.sess,w.net,w.hist⟩:=by
 have hk:=(Fh hp).1;refine ⟨by simpa using h.p3,h.s4,h.n12,h.h80,fun i x hx=>?_,h.sess,fun f hf=>?_,h.hist,fun i x j g hx hg=>?_⟩
 ·by_cases hi:k=i
  ·subst hi;simp only[zb9 hk,Option.some.injEq] at hx;subst hx;exact ⟨hm.trans (h.place k p hp).1,hq⟩
  ·simp only[zbU hi] at hx;exact h.place i x hx
 ·obtain ⟨h1,h2,h3,h4,h5⟩:=h.net f hf;obtain ⟨r,hr⟩:=WY hp hlog f.fro.toNat;refine ⟨h1,h2,h3,h4,?_⟩;show (HB (w.places.set k q) f.fro.toNat)[f.at'.toNat]?=some f.ver;rw[hr,zbS (Fh h5).1];exact h5
 ·obtain ⟨r,hr⟩:=WY hp hlog j;show ∃ r,HB (w.places.set k q) j=g++r;have old:(∃ r,HB w.places j=g++r)→∃ r,HB (w.places.set k q) j=g++r:=fun ⟨r',hr'⟩=>⟨r'++r,by rw[hr,hr',zb4]⟩
  by_cases hi:k=i
  ·subst hi;simp only[zb9 hk,Option.some.injEq] at hx;subst hx;rcases hgot j g hg with g1 | g1
   ·exact old (h.heard k p j g hp g1)
   ·exact old g1
  ·simp only[zbU hi] at hx;exact old (h.heard i x j g hx hg)
theorem Wd.putS (h:Wd w) {i:Nat}{s:Sess} (hs:FS s=true):Wd ⟨w.places,w.sess.set i s,w.net,w.hist⟩ :=
 ⟨h.p3,by simpa using h.s4,h.n12,h.h80,h.place,fun x hx=>(zcb hx).elim (h.sess x) fun e=>e ▸ hs,h.net,h.hist,h.heard⟩
theorem Wd.addH (h:Wd w) {ds:List Done} (hd:∀ d∈ds,QC d=true) (hl:w.hist.length+ds.length≤80):Wd ⟨w.places,w.sess,w.net,w.hist++ds⟩ :=
 ⟨h.p3,h.s4,h.n12,by simpa using hl,h.place,h.sess,h.net,fun x hx=>(zbP.1 hx).elim (h.hist x) (hd x),h.heard⟩
theorem Wd.netN (h:Wd w) {l:List Frame} (hl:l.length≤12) (hf:∀ f∈l,KW w.places f):Wd ⟨w.places,w.sess,l,w.hist⟩ :=
 ⟨h.p3,h.s4,hl,h.h80,h.place,h.sess,hf,h.hist,h.heard⟩
end


variable {p:Place}{k:Nat}{l:List Node}{v:Ver}{s:Sess}{i:Nat}
structure Event where
 kind:Int
 at':Int
 num:Int
 key:Int
 text:ByteArray
 gone:Bool
abbrev Event.cs (e:Event):List V := [Iv e.kind,Iv e.at',Iv e.num,Iv e.key,.str e.text,.bool e.gone]
def FY (a b:Tag):Bool:=HF a.time a.place b.time b.place
def JK (a b:Tag):Tag:=bif FY a b then b else a
def Ja (p:List Tag) (k:Nat) (t:Tag):List Tag:=match p[k]? with
 | some x=>p.set k (JK x t)
 | none=>p
def Jk (p q:List Tag):List Tag:=List.zipWith JK p q
def setS (w:World) (i:Nat) (s:Sess) (ds:List Done):World:=⟨w.places,w.sess.set i s,w.net,w.hist++ds⟩
def setP (w:World) (k:Nat) (p:Place):World:=⟨w.places.set k p,w.sess,w.net,w.hist⟩
def setN (w:World) (l:List Frame):World:=⟨w.places,w.sess,l,w.hist⟩
def D6 (w:World) (n:Int):Bool:=decide ((w.hist.length:Int)+n≤80)
def GK (w:World) (i:Nat) (s:Sess) (e:Event):Option World:=match w.places[s.place.toNat]? with
 | some p=>bif !decide (s.wait.time>0)&&(Br p e.key e.text e.gone s.past&&D6 w 1) then
   some (setS (setP w s.place.toNat (I9 p e.key e.text e.gone s.past).1) i ⟨s.place,s.past,(I9 p e.key e.text e.gone s.past).2,e.key⟩ [⟨i,1,e.key,(I9 p e.key e.text e.gone s.past).2⟩]) else none
 | none=>none
def NS (w:World) (i:Nat) (s:Sess):Option World:=match w.places[s.place.toNat]? with
 | some p=>match GG p.chain 0 s.key.toNat,(Gc p.chain)[s.key.toNat]? with
  | some v,some u=>bif decide (s.wait.time>0) then
    (bif FY v.tag s.wait then (bif FY u.tag s.wait then some (setS w i ⟨s.place,s.past,⟨0,0⟩,0⟩ []) else none)
    else (bif D6 w 1 then some (setS w i ⟨s.place,Ja s.past s.key.toNat s.wait,⟨0,0⟩,0⟩ [⟨i,3,s.key,s.wait⟩]) else none)) else none
  | _,_=>none
 | none=>none
def Uz (s:Sess) (v:Ver) (k:Nat):List Tag:=bif decide (v.tag.time>0) then Ja (Jk s.past v.past) k v.tag else s.past
def Je (w:World) (i:Nat) (s:Sess) (e:Event):Option World:=match w.places[s.place.toNat]? with
 | some p=>bif !decide (s.wait.time>0)&&(Al e.key 0 3&&(Al e.num 0 ((p.chain.length:Int) - 1)&&D6 w 1)) then
   (match GG p.chain e.num.toNat e.key.toNat,s.past[e.key.toNat]? with
   | some v,some t=>bif FY v.tag t then none else some (setS w i ⟨s.place,Uz s v e.key.toNat,s.wait,s.key⟩ [⟨i,2,e.key,v.tag⟩])
   | _,_=>none) else none
 | none=>none
def Dv (i:Nat) (l:List Tag):List Done:=l.zipIdx.map fun x=>⟨i,2,(x.2:Int),x.1⟩
def MP (w:World) (i:Nat) (s:Sess):Option World:=match w.places[s.place.toNat]? with
 | some p=>bif !decide (s.wait.time>0)&&(Ca s.past (AS p.chain)&&D6 w 4) then some (setS w i ⟨s.place,AS p.chain,s.wait,s.key⟩ (Dv i (AS p.chain))) else none
 | none=>none
def UH (w:World) (i:Nat) (s:Sess) (e:Event):Option World:=bif !decide (s.wait.time>0)&&Al e.num 0 2 then some (setS w i ⟨e.num,s.past,s.wait,s.key⟩ []) else none
def Gh (w:World) (e:Event):Option World:=bif Al e.at' 0 ((w.sess.length:Int) - 1) then
 (match w.sess[e.at'.toNat]? with
 | some s=>bif e.kind==1 then GK w e.at'.toNat s e else bif e.kind==2 then NS w e.at'.toNat s else bif e.kind==3 then Je w e.at'.toNat s e else bif e.kind==4 then MP w e.at'.toNat s else UH w e.at'.toNat s e
 | none=>none) else none
def Ey (p:Place) (e:Event):Option Place:=bif e.kind==6 then (bif A4 p.chain e.num then some (Bo p e.num) else none) else
 bif e.kind==7 then (bif Bk p e.num then some (A6 p e.num) else none) else
 bif e.kind==8 then (bif Gi p.chain then some (Ms p) else none) else (bif Eo p e.num then some (Fd p e.num) else none)
def Ih (w:World) (e:Event):Option World:=bif Al e.at' 0 2 then
 (match w.places[e.at'.toNat]? with
 | some p=>(Ey p e).map (setP w e.at'.toNat)
 | none=>none) else none
def Sd (w:World) (e:Event):Option World:=bif Al e.at' 0 2&&(Al e.num 0 2&&(!(e.at'==e.num)&&(decide ((w.net.length:Int)<12)&&Al e.key 0 (((HB w.places e.at'.toNat).length:Int) - 1)))) then
 (match (HB w.places e.at'.toNat)[e.key.toNat]? with
 | some v=>some (setN w (w.net ++ [⟨e.at',e.num,e.key,v⟩]))
 | none=>none) else none
def MA (w:World) (f:Frame):World:=match w.places[f.to.toNat]? with
 | some p=>setP w f.to.toNat (Hn p f.fro f.at' f.ver)
 | none=>w
def NH (w:World) (e:Event):Option World:=bif Al e.at' 0 ((w.net.length:Int) - 1) then
 (match w.net[e.at'.toNat]? with
 | some f=>some (bif e.kind==12 then setN w (w.net.eraseIdx e.at'.toNat) else bif e.kind==13 then MA w f else MA (setN w (w.net.eraseIdx e.at'.toNat)) f)
 | none=>none) else none
def Hy (w:World) (e:Event):Option World:=bif Al e.kind 1 5 then Gh w e else bif Al e.kind 6 9 then Ih w e else bif e.kind==10 then Sd w e else bif Al e.kind 11 13 then NH w e else none
def T7 (w:World) (e:Event):World:=(Hy w e).getD w
structure Good (w:World):Prop where
 ok:Wd w
 room:∀ p∈w.places,Roomy p
theorem pastOk_iff {p:List Tag}:Bg p=true↔p.length=4∧∀ t∈p,A2 t.time t.place=true:=by simp only[Bg,Dm,decide_eq_true_eq,zb2]
theorem WV {a b:Tag} (ha:A2 a.time a.place=true) (hb:A2 b.time b.place=true):A2 (JK a b).time (JK a b).place=true:=by
 unfold JK;cases FY a b
 ·exact ha
 ·exact hb
theorem Ua {p:List Tag}{t:Tag} (hp:Bg p=true) (ht:A2 t.time t.place=true):Bg (Ja p k t)=true:=by
 rw[pastOk_iff] at hp;unfold Ja;cases hx:p[k]? with
 | none=>exact pastOk_iff.2 hp
 | some x =>
  refine pastOk_iff.2 ⟨by simpa using hp.1,fun y hy=>?_⟩;rcases zcb hy with hy | rfl
  ·exact hp.2 y hy
  ·exact WV (hp.2 x (zcc hx)) ht
theorem Y7 {p q:List Tag} (hp:Bg p=true) (hq:Bg q=true):Bg (Jk p q)=true:=by rw[pastOk_iff] at hp hq;refine pastOk_iff.2 ⟨by unfold Jk;rw[List.length_zipWith];omega,fun y hy=>?_⟩;unfold Jk at hy;obtain ⟨i,hi,rfl⟩:=zcu.1 hy;rw[List.getElem_zipWith];exact WV (hp.2 _ (zbO _)) (hq.2 _ (zbO _))
theorem Od (h:Ch l):Bg (AS l)=true:=by refine pastOk_iff.2 ⟨h.four.1,fun t ht=>?_⟩;obtain ⟨z,hz,hi⟩:=h.tail;rw[Dk hz hi] at ht;unfold BH at ht;obtain ⟨v,hv,rfl⟩:=zdC.1 ht;obtain ⟨i,hi⟩:=zb5.1 hv;exact LJ (Hx (h.store hz).1 hi)
theorem YJ {key:Nat} (h:Ch l) (hv:GG l k key=some v):∃ (i:Nat) (x:Node),l[i]?=some x∧x.store[key]?=some v:=by
 unfold GG FR at hv;cases hx:l[BJ l k]? with
 | none=>rw[hx] at hv;simp at hv
 | some x=>rw[hx] at hv;exact ⟨_,x,hx,hv⟩
theorem YK {key:Nat} (h:Ch l) (hv:GG l k key=some v):Hw key v=true:=by obtain ⟨i,x,hx,hv⟩:=YJ h hv;exact Hx (h.store hx).1 hv
theorem DG (h:FS s=true):(0≤s.place∧s.place≤2)∧Bg s.past=true∧A2 s.wait.time s.wait.place=true∧(0≤s.key∧s.key≤3)∧(0<s.wait.time∨s.key=0)∧(s.wait.time=0∨s.wait.place=s.place):=by unfold FS at h;simp only[Dm,zcH,decide_eq_true_eq,beq_iff_eq,Al] at h;obtain ⟨⟨⟨⟨⟨h1,h2⟩,h3⟩,h4⟩,h5⟩,h6⟩:=h;exact ⟨h1,h2,h3,h4,h5,h6⟩
theorem KJ (h1:0≤s.place∧s.place≤2) (h2:Bg s.past=true) (h3:A2 s.wait.time s.wait.place=true) (h4:0≤s.key∧s.key≤3) (h5:0<s.wait.time∨s.key=0) (h6:s.wait.time=0∨s.wait.place=s.place):FS s=true:=by unfold FS;simp only[Dm,zcH,decide_eq_true_eq,beq_iff_eq,Al];exact ⟨⟨⟨⟨⟨h1,h2⟩,h3⟩,h4⟩,h5⟩,h6⟩
theorem Pk {d:Done} (h1:0≤d.sess∧d.sess≤3) (h2:1≤d.kind∧d.kind≤3) (h3:0≤d.key∧d.key≤3) (h4:A2 d.tag.time d.tag.place=true) (h5:d.kind=2∨0<d.tag.time):QC d=true:=by unfold QC;simp only[Dm,zcH,decide_eq_true_eq,beq_iff_eq,Al];exact ⟨⟨⟨⟨h1,h2⟩,h3⟩,h4⟩,h5⟩
theorem Ml:∃ r,(BL p).log=p.log++r:=(noted_has (vs:=DI p.chain) (l:=p.log)).2
section
variable {w w':World}
theorem Good.setP (h:Good w) {k:Nat}{p q:Place} (hp:w.places[k]?=some p) (hq:Ao q=true) (hr:Roomy q) (hm:q.me=p.me) (hlog:∃ r,q.log=p.log++r)
  (hgot:∀ (i:Nat) (g:List Ver),q.got[i]?=some g→p.got[i]?=some g∨∃ r,HB w.places i=g++r):Good (Go.Proofs.YtoihoaaiadagaaaGreat.setP w k q) :=
 ⟨h.ok.setP hp hq hm hlog hgot,fun x hx=>(zcb hx).elim (h.room x) fun e=>e ▸ hr⟩
theorem Good.setS (h:Good w) {i:Nat}{s:Sess}{ds:List Done} (hs:FS s=true) (hd:∀ d∈ds,QC d=true) (hl:(w.hist.length:Int)+ds.length≤80):Good (Go.Proofs.YtoihoaaiadagaaaGreat.setS w i s ds) :=
 ⟨(h.ok.putS (i:=i) hs).addH hd (by show w.hist.length+ds.length≤80;omega),h.room⟩
theorem Good.setN (h:Good w) {l:List Frame} (hl:l.length≤12) (hf:∀ f∈l,KW w.places f):Good (Go.Proofs.YtoihoaaiadagaaaGreat.setN w l):=⟨h.ok.netN hl hf,h.room⟩
theorem Xu {k:Int}{s:ByteArray}{g:Bool}{l:List Tag} (hp:Ao p=true) (hc:Br p k s g l=true):I9 p k s g l=(BL (IC p 0 (Bp p l) (GQ p k s g l)),⟨Bp p l,p.me⟩):=by rw[Pu hp,hc,cond_true]
theorem Wi (h:Good w) {e:Event} (hi:i<w.sess.length) (hs:FS s=true) (he:GK w i s e=some w'):Good w':=by
 have h4:=h.ok.s4;unfold GK at he;split at he
 ·rename_i p hp
  cases hc:(!decide (s.wait.time>0)&&(Br p e.key e.text e.gone s.past&&D6 w 1)) with
  | false=>rw[hc] at he;cases he
  | true =>
   rw[hc,cond_true] at he;injection he with he;simp only[Dm,D6,decide_eq_true_eq] at hc;obtain ⟨_,hc,hh⟩:=hc;obtain ⟨hme,hpo⟩:=h.ok.place _ p hp;have hr:=h.room p (zcc hp);obtain ⟨s1,s2,s3,s4,s5,s6⟩:=DG hs;obtain ⟨q1,q2,q3,q4,q5,q6,q7,q8⟩:=Ia hc;have ht:=L6 hpo s2;have hw:=Xu hpo hc;have g1:Good (Go.Proofs.YtoihoaaiadagaaaGreat.setP w s.place.toNat (I9 p e.key e.text e.gone s.past).1):=h.setP hp (YT hpo) (Uv hr hpo) (by rw[hw];rfl) (by rw[hw];exact Ml) (fun j g hg=>by rw[hw] at hg;exact .inl hg);have ht1:A2 (Bp p s.past) p.me=true:=by simp[A2,Al];omega
   rw[← he];refine g1.setS ?_ ?_ (by simp only[zb6];exact hh)
   ·rw[hw];exact KJ s1 s2 ht1 q1 (.inl (by show 0<Bp p s.past;omega)) (.inr (by show p.me=s.place;omega))
   ·intro d hd;rw[zbW] at hd;subst hd;rw[hw];exact Pk (by show (0:Int)≤(i:Int)∧(i:Int)≤3;omega) (by show (1:Int)≤1∧(1:Int)≤3;decide) q1 ht1 (.inr (by show 0<Bp p s.past;omega))
 ·cases he
theorem Zf (h:Good w) (hi:i<w.sess.length) (hs:FS s=true) (he:NS w i s=some w'):Good w':=by
 have h4:=h.ok.s4;have h8:=h.ok.h80;obtain ⟨s1,s2,s3,s4,s5,s6⟩:=DG hs;unfold NS at he;split at he
 ·rename_i p hp
  split at he
  ·rename_i v u hv hu
   cases hc:decide (s.wait.time>0) with
   | false=>rw[hc] at he;cases he
   | true =>
    rw[hc,cond_true] at he;cases hl:FY v.tag s.wait with
    | true =>
     rw[hl,cond_true] at he;cases hl2:FY u.tag s.wait with
     | false=>rw[hl2] at he;cases he
     | true =>rw[hl2,cond_true] at he;injection he with he;rw[← he];exact h.setS (KJ s1 s2 rfl (by show (0:Int)≤0∧(0:Int)≤3;decide) (.inr rfl) (.inl rfl)) (by simp) (by simp only[zc2];omega)
    | false =>
     rw[hl,cond_false] at he;cases hr:D6 w 1 with
     | false=>rw[hr] at he;cases he
     | true =>rw[hr,cond_true] at he;injection he with he;rw[← he];unfold D6 at hr;refine h.setS (KJ s1 (Ua s2 s3) rfl (by show (0:Int)≤0∧(0:Int)≤3;decide) (.inr rfl) (.inl rfl)) (fun d hd=>?_) (by simp only[zb6];exact of_decide_eq_true hr);rw[zbW] at hd;subst hd;exact Pk (by show (0:Int)≤(i:Int)∧(i:Int)≤3;omega) (by show (1:Int)≤3∧(3:Int)≤3;decide) s4 s3 (.inr (of_decide_eq_true hc))
  ·cases he
 ·cases he
theorem YO (hs:Bg s.past=true) (hv:Hw k v=true):Bg (Uz s v k)=true:=by
 unfold Uz;cases ht:decide (v.tag.time>0) with
 | false=>exact hs
 | true =>
  have ht:=of_decide_eq_true ht;rcases CB hv with g | g
  ·have:=(DS g).1;omega
  ·have hp:=AN g.1;exact Ua (Y7 hs hp.2.2.2.1) hp.2.2.2.2.1
theorem Ya (h:Good w) {e:Event} (hi:i<w.sess.length) (hs:FS s=true) (he:Je w i s e=some w'):Good w':=by
 have h4:=h.ok.s4;obtain ⟨s1,s2,s3,s4,s5,s6⟩:=DG hs;unfold Je at he;split at he
 ·rename_i p hp
  cases hc:(!decide (s.wait.time>0)&&(Al e.key 0 3&&(Al e.num 0 ((p.chain.length:Int) - 1)&&D6 w 1))) with
  | false=>rw[hc] at he;cases he
  | true =>
   rw[hc,cond_true] at he;simp only[Dm,D6,Al,decide_eq_true_eq] at hc;obtain ⟨_,hk,_,hr⟩:=hc;split at he
   ·rename_i v t hv ht
    cases hl:FY v.tag t with
    | true=>rw[hl] at he;cases he
    | false =>rw[hl,cond_false] at he;injection he with he;rw[← he];have hc:=HA (h.ok.place _ p hp).2;have hva:=YK hc hv;refine h.setS (KJ s1 (YO s2 hva) s3 s4 s5 s6) (fun d hd=>?_) (by simp only[zb6];exact hr);rw[zbW] at hd;subst hd;exact Pk (by show (0:Int)≤(i:Int)∧(i:Int)≤3;omega) (by show (1:Int)≤2∧(2:Int)≤3;decide) hk (LJ hva) (.inl rfl)
   ·cases he
 ·cases he
theorem Zg (h:Good w) (hi:i<w.sess.length) (hs:FS s=true) (he:MP w i s=some w'):Good w':=by
 have h4:=h.ok.s4;obtain ⟨s1,s2,s3,s4,s5,s6⟩:=DG hs;unfold MP at he;split at he
 ·rename_i p hp
  cases hc:(!decide (s.wait.time>0)&&(Ca s.past (AS p.chain)&&D6 w 4)) with
  | false=>rw[hc] at he;cases he
  | true =>rw[hc,cond_true] at he;injection he with he;rw[← he];simp only[Dm,D6,decide_eq_true_eq] at hc;have hch:=HA (h.ok.place _ p hp).2;have hst:=Od hch;refine h.setS (KJ s1 hst s3 s4 s5 s6) (fun d hd=>?_) (by unfold Dv;rw[zdv,List.length_zipIdx,hch.four.1];exact hc.2.2);unfold Dv at hd;obtain ⟨⟨t,k⟩,hx,rfl⟩:=zdC.1 hd;rw[zcV] at hx;have hk:=(Fh hx).1;rw[hch.four.1] at hk;simp only at hk;exact Pk (by show (0:Int)≤(i:Int)∧(i:Int)≤3;omega) (by show (1:Int)≤2∧(2:Int)≤3;decide) (by show (0:Int)≤(k:Int)∧(k:Int)≤3;omega) ((pastOk_iff.1 hst).2 t (zcc hx)) (.inl rfl)
 ·cases he
theorem Yb (h:Good w) {e:Event} (hs:FS s=true) (he:UH w i s e=some w'):Good w':=by
 obtain ⟨s1,s2,s3,s4,s5,s6⟩:=DG hs;unfold UH at he;cases hc:(!decide (s.wait.time>0)&&Al e.num 0 2) with
 | false=>rw[hc] at he;cases he
 | true =>rw[hc,cond_true] at he;injection he with he;rw[← he];simp only[Dm,Al,decide_eq_true_eq,zcy,decide_eq_false_iff_not] at hc;have:=DF s3;exact h.setS (KJ hc.2 s2 s3 s4 s5 (.inl (by show s.wait.time=0;omega))) (by simp) (by simp only[zc2];have:=h.ok.h80;omega)
theorem U2 (h:Good w) {e:Event} (he:Gh w e=some w'):Good w':=by
 unfold Gh at he;cases hc:Al e.at' 0 ((w.sess.length:Int) - 1) with
 | false=>rw[hc] at he;cases he
 | true =>
  rw[hc,cond_true] at he;split at he
  ·rename_i s hs
   have hi:=(Fh hs).1;have hso:=h.ok.sess s (zcc hs);cases h1:e.kind==1 with
   | true=>rw[h1,cond_true] at he;exact Wi h hi hso he
   | false =>
    rw[h1,cond_false] at he;cases h2:e.kind==2 with
    | true=>rw[h2,cond_true] at he;exact Zf h hi hso he
    | false =>
     rw[h2,cond_false] at he;cases h3:e.kind==3 with
     | true=>rw[h3,cond_true] at he;exact Ya h hi hso he
     | false =>
      rw[h3,cond_false] at he;cases h4:e.kind==4 with
      | true=>rw[h4,cond_true] at he;exact Zg h hi hso he
      | false=>rw[h4,cond_false] at he;exact Yb h hso he
  ·cases he
theorem YG {q:Place}{e:Event} (h:Ey p e=some q):q.me=p.me∧q.got=p.got∧∃ r,q.log=p.log++r:=by
 unfold Ey at h;have nil:∃ r,p.log=p.log++r:=⟨[],by simp⟩;cases h1:e.kind==6 with
 | true =>
  rw[h1,cond_true] at h;cases hc:A4 p.chain e.num with
  | false=>rw[hc] at h;cases h
  | true =>rw[hc,cond_true] at h;injection h with h;rw[← h];unfold Bo;rw[hc,cond_true];exact ⟨rfl,rfl,Ml⟩
 | false =>
  rw[h1,cond_false] at h;cases h2:e.kind==7 with
  | true =>
   rw[h2,cond_true] at h;cases hc:Bk p e.num with
   | false=>rw[hc] at h;cases h
   | true =>rw[hc,cond_true] at h;injection h with h;rw[← h];unfold A6;rw[hc,cond_true];exact ⟨rfl,rfl,Ml⟩
  | false =>
   rw[h2,cond_false] at h;cases h3:e.kind==8 with
   | true =>
    rw[h3,cond_true] at h;cases hc:Gi p.chain with
    | false=>rw[hc] at h;cases h
    | true =>rw[hc,cond_true] at h;injection h with h;rw[← h];exact ⟨rfl,rfl,nil⟩
   | false =>
    rw[h3,cond_false] at h;cases hc:Eo p e.num with
    | false=>rw[hc] at h;cases h
    | true =>
     rw[hc,cond_true] at h;injection h with h;rw[← h];unfold Fd;rw[hc,cond_true];unfold L8;split
     ·exact ⟨rfl,rfl,Ml⟩
     ·exact ⟨rfl,rfl,nil⟩
theorem ZV {q:Place}{e:Event} (hp:Ao p=true) (hl:p.log.length≤56) (h:Ey p e=some q):Ao q=true∧(Roomy p→Roomy q):=by
 unfold Ey at h;cases h1:e.kind==6 with
 | true =>
  rw[h1,cond_true] at h;cases hc:A4 p.chain e.num with
  | false=>rw[hc] at h;cases h
  | true =>rw[hc,cond_true] at h;injection h with h;rw[← h];exact ⟨WQ hp hl,fun hr=>VQ hr hp⟩
 | false =>
  rw[h1,cond_false] at h;cases h2:e.kind==7 with
  | true =>
   rw[h2,cond_true] at h;cases hc:Bk p e.num with
   | false=>rw[hc] at h;cases h
   | true =>rw[hc,cond_true] at h;injection h with h;rw[← h];exact ⟨WS hp hl,fun hr=>VU hr hp⟩
  | false =>
   rw[h2,cond_false] at h;cases h3:e.kind==8 with
   | true =>
    rw[h3,cond_true] at h;cases hc:Gi p.chain with
    | false=>rw[hc] at h;cases h
    | true =>rw[hc,cond_true] at h;injection h with h;rw[← h];exact ⟨Z7 hp,fun hr=>VS hr hp⟩
   | false =>
    rw[h3,cond_false] at h;cases hc:Eo p e.num with
    | false=>rw[hc] at h;cases h
    | true =>rw[hc,cond_true] at h;injection h with h;rw[← h];exact ⟨Z6 hp hl,fun hr=>VP hr hp⟩
theorem Wj (h:Good w) {e:Event} (he:Ih w e=some w'):Good w':=by
 unfold Ih at he;cases hc:Al e.at' 0 2 with
 | false=>rw[hc] at he;cases he
 | true =>
  rw[hc,cond_true] at he;split at he
  ·rename_i p hp
   rw[zcv] at he;obtain ⟨q,hq,rfl⟩:=he;have hpo:=(h.ok.place _ p hp).2;have hr:=h.room p (zcc hp);have hl:=hr.len hpo;obtain ⟨g1,g2⟩:=ZV hpo (by omega) hq;obtain ⟨g3,g4,g5⟩:=YG hq;exact h.setP hp g1 (g2 hr) g3 g5 fun i g hg=>by rw[g4] at hg;exact .inl hg
  ·cases he
theorem X9 (h:Good w) {e:Event} (he:Sd w e=some w'):Good w':=by
 unfold Sd at he;cases hc:(Al e.at' 0 2&&(Al e.num 0 2&&(!(e.at'==e.num)&&(decide ((w.net.length:Int)<12)&&Al e.key 0 (((HB w.places e.at'.toNat).length:Int) - 1))))) with
 | false=>rw[hc] at he;cases he
 | true =>
  rw[hc,cond_true] at he;simp only[Dm,Al,decide_eq_true_eq,zcy,beq_eq_false_iff_ne] at hc;obtain ⟨h1,h2,h3,h4,h5⟩:=hc;split at he
  ·rename_i v hv
   injection he with he;rw[← he];refine h.setN (by simp;omega) fun f hf=>?_;rcases zbP.1 hf with hf | hf
   ·exact h.ok.net f hf
   ·rw[zbW] at hf;subst hf;exact ⟨h1,h2,h3,h5.1,hv⟩
  ·cases he
theorem SH (h:Good w) {f:Frame} (hf:KW w.places f):Good (MA w f):=by
 unfold MA;split
 ·rename_i p hp
  have hpo:=(h.ok.place _ p hp).2;have hr:=h.room p (zcc hp);obtain ⟨h1,h2,h3,h4,h5⟩:=hf;refine h.setP hp (Z8 hpo) (VT hr) ?_ ?_ ?_
  ·unfold Hn;cases Hr p f.fro f.at' f.ver<;>rfl
  ·unfold Hn;cases Hr p f.fro f.at' f.ver<;>exact ⟨[],by simp[J2]⟩
  ·intro i g hg;unfold Hn at hg;cases hc:Hr p f.fro f.at' f.ver with
   | false=>rw[hc] at hg;exact .inl hg
   | true =>
    rw[hc,cond_true] at hg;simp only[Hr,Jm,Al,Dm,decide_eq_true_eq,beq_iff_eq,zcy] at hc;obtain ⟨⟨_,_⟩,_,_,_,q,_,_⟩:=hc;have hg:(p.got.set f.fro.toNat (J3 p f.fro.toNat ++ [f.ver]))[i]?=some g:=hg;by_cases hi:f.fro.toNat=i
    ·subst hi;have hlt:f.fro.toNat<p.got.length:=by have:=(Fh hg).1;simpa using this
     rw[zb9 hlt] at hg;injection hg with hg;have hgo:p.got[f.fro.toNat]?=some (J3 p f.fro.toNat):=by rw[Jn hlt];exact Dd hlt
     obtain ⟨r,hr⟩:=h.ok.heard _ p _ _ hp hgo;rw[hr,zcg (by omega),show f.at'.toNat - (J3 p f.fro.toNat).length=0 by omega] at h5;cases r with
     | nil=>simp at h5
     | cons v r =>simp only[List.getElem?_cons_zero,Option.some.injEq] at h5;subst h5;exact .inr ⟨r,by rw[hr,← hg];simp⟩
    ·rw[zbU hi] at hg;exact .inl hg
 ·exact h
theorem Wk (h:Good w) {e:Event} (he:NH w e=some w'):Good w':=by
 unfold NH at he;cases hc:Al e.at' 0 ((w.net.length:Int) - 1) with
 | false=>rw[hc] at he;cases he
 | true =>
  rw[hc,cond_true] at he;split at he
  ·rename_i f hf
   injection he with he;rw[← he];have hfi:=h.ok.net f (zcc hf);have hn:=h.ok.n12;have g1:Good (setN w (w.net.eraseIdx e.at'.toNat)):=h.setN (zbN (zda _ _) hn) fun x hx=>h.ok.net x (zcN hx);cases e.kind==12 with
   | true=>exact g1
   | false =>
    rw[cond_false];cases e.kind==13 with
    | true=>exact SH h hfi
    | false=>exact SH g1 hfi
  ·cases he
theorem X8 (h:Good w) {e:Event} (he:Hy w e=some w'):Good w':=by
 unfold Hy at he;cases h1:Al e.kind 1 5 with
 | true=>rw[h1,cond_true] at he;exact U2 h he
 | false =>
  rw[h1,cond_false] at he;cases h2:Al e.kind 6 9 with
  | true=>rw[h2,cond_true] at he;exact Wj h he
  | false =>
   rw[h2,cond_false] at he;cases h3:e.kind==10 with
   | true=>rw[h3,cond_true] at he;exact X9 h he
   | false =>
    rw[h3,cond_false] at he;cases h4:Al e.kind 11 13 with
    | true=>rw[h4,cond_true] at he;exact Wk h he
    | false=>rw[h4] at he;cases he
theorem W5 (h:Good w) {e:Event}:Good (T7 w e):=by
 unfold T7;cases he:Hy w e with
 | none=>exact h
 | some w'=>exact X8 h he
end


theorem Mv.mid {h h':Heap}{A B A' F F':List Nat} (m:Mv h A h' A') (hp:F.Perm (A++B)) (hn:F.Nodup) (hB:∀ y∈B,y<h.length) (hp':F'.Perm (A'++B)):Mv h F h' F':=by have m1:=m.aside (hp.nodup_iff.1 hn) hB;exact (m1.wide fun b hb=>hp.mem_iff.2 hb).lean (hp'.nodup_iff.2 m1.nd) fun b hb=>hp'.mem_iff.1 hb
theorem WP {A B C:List Nat}:(A++(B++C)).Perm (B++(A++C)):=List.perm_append_comm_assoc A B C
theorem zaM {A B C D:List Nat}:(A++(B++(C++D))).Perm (C++(A++(B++D))):=(List.Perm.append_left A WP).trans WP
theorem YQ {A B C:List Nat}:(A++(B++C)).Perm (C++(A++B)):=by rw[← zb4 A B C];exact zcP
theorem YP {A B C D:List Nat}:(A++(B++(C++D))).Perm (D++(A++(B++C))):=by rw[← zb4 B C D,← zb4 A (B++C) D];exact zcP
structure WR (lo:Nat) (h:Heap) (w:World) (a1:Pq) (c1:Nq) (a2:Pq) (c2:Nq) (a3:Pq) (c3:Nq) (a4:Pq) (c4:Nq) (F1 F2 F3 F4:List Nat):Prop where
 r1:RPlaces false h [.sl 6 a1 w.places.length c1] w.places F1
 r2:RSesss false h [.sl 5 a2 w.sess.length c2] w.sess F2
 r3:RFrames false h [.sl 9 a3 w.net.length c3] w.net F3
 r4:RDones false h [.sl 5 a4 w.hist.length c4] w.hist F4
 nd:(F1++(F2++(F3++F4))).Nodup
 ge:∀ y∈F1++(F2++(F3++F4)),lo≤y
 hl:lo≤h.length
def OQ (lo:Nat) (h:Heap) (cs:List V) (w:World) (F:List Nat):Prop:=∃ a1 c1 a2 c2 a3 c3 a4 c4 F1 F2 F3 F4,cs=w.cs a1 c1 a2 c2 a3 c3 a4 c4∧F=F1++(F2++(F3++F4))∧WR lo h w a1 c1 a2 c2 a3 c3 a4 c4 F1 F2 F3 F4
section
variable {lo:Nat}{h h':Heap}{w:World}{a1 a2 a3 a4 a:Pq}{c1 c2 c3 c4 c:Nq}{F1 F2 F3 F4:List Nat}
theorem WR.at (H:WR lo h w a1 c1 a2 c2 a3 c3 a4 c4 F1 F2 F3 F4):OQ lo h (w.cs a1 c1 a2 c2 a3 c3 a4 c4) w (F1++(F2++(F3++F4))):=⟨a1,c1,a2,c2,a3,c3,a4,c4,F1,F2,F3,F4,rfl,rfl,H⟩
theorem WR.lt (H:WR lo h w a1 c1 a2 c2 a3 c3 a4 c4 F1 F2 F3 F4):(∀ y∈F1,y<h.length)∧(∀ y∈F2,y<h.length)∧(∀ y∈F3,y<h.length)∧∀ y∈F4,y<h.length :=
 ⟨rplaces_ok.bd _ _ _ _ H.r1,rsesss_ok.bd _ _ _ _ H.r2,rframes_ok.bd _ _ _ _ H.r3,rdones_ok.bd _ _ _ _ H.r4⟩
theorem WR.bd (H:WR lo h w a1 c1 a2 c2 a3 c3 a4 c4 F1 F2 F3 F4):∀ y∈F1++(F2++(F3++F4)),y<h.length:=fun y hy=>by
 obtain ⟨g1,g2,g3,g4⟩:=H.lt;simp only[zbP] at hy;rcases hy with hy | hy | hy | hy
 ·exact g1 y hy
 ·exact g2 y hy
 ·exact g3 y hy
 ·exact g4 y hy
theorem Sq (h:(F1++(F2++(F3++F4))).Nodup):(F1.Nodup∧F2.Nodup∧F3.Nodup∧F4.Nodup)∧(∀ y∈F1,y∉F2)∧(∀ y∈F1,y∉F3)∧(∀ y∈F1,y∉F4)∧(∀ y∈F2,y∉F3)∧(∀ y∈F2,y∉F4)∧∀ y∈F3,y∉F4:=by simp only[zbQ,zbP] at h;obtain ⟨h1,⟨h2,⟨h3,h4,h5⟩,h6⟩,h7⟩:=h;exact ⟨⟨h1,h2,h3,h4⟩,fun y hy hm=>h7 y hy y (.inl hm) rfl,fun y hy hm=>h7 y hy y (.inr (.inl hm)) rfl,fun y hy hm=>h7 y hy y (.inr (.inr hm)) rfl,fun y hy hm=>h6 y hy y (.inl hm) rfl,fun y hy hm=>h6 y hy y (.inr hm) rfl,fun y hy hm=>h5 y hy y hm rfl⟩
theorem WR.up1 (H:WR lo h w a1 c1 a2 c2 a3 c3 a4 c4 F1 F2 F3 F4) {l:List Place}{G:List Nat} (m:Mv h F1 h' G) (r:RPlaces false h' [.sl 6 a l.length c] l G) :
  WR lo h' ⟨l,w.sess,w.net,w.hist⟩ a c a2 c2 a3 c3 a4 c4 G F2 F3 F4∧Mv h (F1++(F2++(F3++F4))) h' (G++(F2++(F3++F4))):=by
 obtain ⟨_,d12,d13,d14,d23,d24,d34⟩:=Sq H.nd;have m1:Mv h (F1++(F2++(F3++F4))) h' (G++(F2++(F3++F4))):=m.mid (.refl _) H.nd (fun y hy=>H.bd y (by simp only[zbP] at hy ⊢;grind)) (.refl _);exact ⟨⟨r,m.keep rsesss_ok H.r2 (fun b hb hm=>d12 b hm hb),m.keep rframes_ok H.r3 (fun b hb hm=>d13 b hm hb),m.keep rdones_ok H.r4 (fun b hb hm=>d14 b hm hb),m1.nd,m1.ge H.hl H.ge,zbN H.hl m.le⟩,m1⟩
theorem WR.up2 (H:WR lo h w a1 c1 a2 c2 a3 c3 a4 c4 F1 F2 F3 F4) {l:List Sess}{G:List Nat} (m:Mv h F2 h' G) (r:RSesss false h' [.sl 5 a l.length c] l G) :
  WR lo h' ⟨w.places,l,w.net,w.hist⟩ a1 c1 a c a3 c3 a4 c4 F1 G F3 F4∧Mv h (F1++(F2++(F3++F4))) h' (F1++(G++(F3++F4))):=by
 obtain ⟨_,d12,d13,d14,d23,d24,d34⟩:=Sq H.nd;have m1:Mv h (F1++(F2++(F3++F4))) h' (F1++(G++(F3++F4))):=m.mid WP H.nd (fun y hy=>H.bd y (by simp only[zbP] at hy ⊢;grind)) WP;exact ⟨⟨m.keep rplaces_ok H.r1 (fun b hb hm=>d12 b hb hm),r,m.keep rframes_ok H.r3 (fun b hb hm=>d23 b hm hb),m.keep rdones_ok H.r4 (fun b hb hm=>d24 b hm hb),m1.nd,m1.ge H.hl H.ge,zbN H.hl m.le⟩,m1⟩
theorem WR.up3 (H:WR lo h w a1 c1 a2 c2 a3 c3 a4 c4 F1 F2 F3 F4) {l:List Frame}{G:List Nat} (m:Mv h F3 h' G) (r:RFrames false h' [.sl 9 a l.length c] l G) :
  WR lo h' ⟨w.places,w.sess,l,w.hist⟩ a1 c1 a2 c2 a c a4 c4 F1 F2 G F4∧Mv h (F1++(F2++(F3++F4))) h' (F1++(F2++(G++F4))):=by
 obtain ⟨_,d12,d13,d14,d23,d24,d34⟩:=Sq H.nd;have m1:Mv h (F1++(F2++(F3++F4))) h' (F1++(F2++(G++F4))):=m.mid zaM H.nd (fun y hy=>H.bd y (by simp only[zbP] at hy ⊢;grind)) zaM;exact ⟨⟨m.keep rplaces_ok H.r1 (fun b hb hm=>d13 b hb hm),m.keep rsesss_ok H.r2 (fun b hb hm=>d23 b hb hm),r,m.keep rdones_ok H.r4 (fun b hb hm=>d34 b hm hb),m1.nd,m1.ge H.hl H.ge,zbN H.hl m.le⟩,m1⟩
theorem WR.up4 (H:WR lo h w a1 c1 a2 c2 a3 c3 a4 c4 F1 F2 F3 F4) {l:List Done}{G:List Nat} (m:Mv h F4 h' G) (r:RDones false h' [.sl 5 a l.length c] l G) :
  WR lo h' ⟨w.places,w.sess,w.net,l⟩ a1 c1 a2 c2 a3 c3 a c F1 F2 F3 G∧Mv h (F1++(F2++(F3++F4))) h' (F1++(F2++(F3++G))):=by
 obtain ⟨_,d12,d13,d14,d23,d24,d34⟩:=Sq H.nd;have m1:Mv h (F1++(F2++(F3++F4))) h' (F1++(F2++(F3++G))):=m.mid YP H.nd (fun y hy=>H.bd y (by simp only[zbP] at hy ⊢;grind)) YP;exact ⟨⟨m.keep rplaces_ok H.r1 (fun b hb hm=>d14 b hb hm),m.keep rsesss_ok H.r2 (fun b hb hm=>d24 b hb hm),m.keep rframes_ok H.r3 (fun b hb hm=>d34 b hb hm),r,m1.nd,m1.ge H.hl H.ge,zbN H.hl m.le⟩,m1⟩
theorem WR.up0 (H:WR lo h w a1 c1 a2 c2 a3 c3 a4 c4 F1 F2 F3 F4) (m:Mv h [] h' []):WR lo h' w a1 c1 a2 c2 a3 c3 a4 c4 F1 F2 F3 F4∧Mv h (F1++(F2++(F3++F4))) h' (F1++(F2++(F3++F4))) :=
 ⟨⟨m.keep0 rplaces_ok H.r1,m.keep0 rsesss_ok H.r2,m.keep0 rframes_ok H.r3,m.keep0 rdones_ok H.r4,H.nd,H.ge,zbN H.hl m.le⟩,m.aside (by simpa using H.nd) H.bd⟩
theorem WR.place (H:WR lo h w a1 c1 a2 c2 a3 c3 a4 c4 F1 F2 F3 F4) {k:Nat} (hk:k<w.places.length):∃ b i s1 s2 s3 b1 d1 b2 d2 b3 d3 G1 G2 G3,a1=some (b,i) ∧
  ld h b (i+k) 0 6=some [Iv w.places[k].me,Iv w.places[k].clock,s1,s2,s3,.bool w.places[k].fell]∧ld h b (i+k) 2 1=some [s1]∧ld h b (i+k) 3 1=some [s2] ∧
  (∀ {R':Type} (K:Pq→Nat→Nq→Option R'),eS 2 s1 K=K b1 w.places[k].chain.length d1)∧(∀ {R':Type} (K:Pq→Nat→Nq→Option R'),eS 6 s2 K=K b2 w.places[k].log.length d2) ∧
  (∀ {R':Type} (K:Pq→Nat→Nq→Option R'),eS 1 s3 K=K b3 w.places[k].got.length d3) ∧
  RNodes false h [.sl 2 b1 w.places[k].chain.length d1] w.places[k].chain G1∧RVers false h [.sl 6 b2 w.places[k].log.length d2] w.places[k].log G2∧RVss false h [.sl 1 b3 w.places[k].got.length d3] w.places[k].got G3 ∧
  (G1++(G2++G3)).Nodup∧(∀ y∈G1++(G2++G3),lo≤y∧y<h.length∧y∈F1) ∧
  ∀ h1 G p' cs',Mv h (G1++(G2++G3)) h1 G→RPlace false h1 cs' p' G→cs'.length=6 →
   ∃ h2 F1',st lo h1 b (i+k) 0 cs'=some h2∧WR lo h2 (setP w k p') a1 c1 a2 c2 a3 c3 a4 c4 F1' F2 F3 F4∧Mv h (F1++(F2++(F3++F4))) h2 (F1'++(F2++(F3++F4))):=by
 obtain ⟨⟨n1,_⟩,_⟩:=Sq H.nd;obtain ⟨b,i,rs,row,G,ha,hbF,hbG,hb,hrow,hel,hGF,hGn,_,put⟩:=Sli.at (lo:=lo) rplace_ok H.r1 hk n1 (fun y hy=>H.ge y (by simp[hy]));obtain ⟨s1,s2,s3,b1,d1,b2,d2,b3,d3,G1,G2,G3,rfl,rfl,e1,e2,e3,g1,g2,g3⟩:=hel.form;refine ⟨b,i,s1,s2,s3,b1,d1,b2,d2,b3,d3,G1,G2,G3,ha,by rw[BB hb hrow];exact HW rfl,by rw[BB hb hrow];rfl,by rw[BB hb hrow];rfl,e1,e2,e3,g1,g2,g3,hGn,fun y hy=>⟨H.ge y (by simp[hGF y hy]),H.lt.1 y (hGF y hy),hGF y hy⟩,fun h1 G p' cs' m hx hc=>?_⟩;obtain ⟨h2,F',e,r,m2,_⟩:=put h1 G 0 cs' cs' p' m (Dl (by rw[hc];rfl)) hx;have hlen:(w.places.set k p').length=w.places.length:=by simp
 rw[← hlen] at r;obtain ⟨q1,q2⟩:=H.up1 m2 r;exact ⟨h2,F',e,q1,q2⟩
end
section
variable {lo:Nat}{h:Heap}{p:Place}{b1 b2 b3:Pq}{d1 d2 d3:Nq}{G1 G2 G3:List Nat}
theorem YR {f:Nat} (g1:RNodes false h [.sl 2 b1 p.chain.length d1] p.chain G1) (g2:RVers false h [.sl 6 b2 p.log.length d2] p.log G2) (g3:RVss false h [.sl 1 b3 p.got.length d3] p.got G3) (hpo:Ao p=true) (hc:A4 p.chain (f:Int)=true)
  (nd:(G1++(G2++G3)).Nodup) (hlo:∀ y∈G1++(G2++G3),lo≤y) (hl:lo≤h.length) :
  ∃ a6 c6 h5 h6 G,Ae lo 103 [.agg [.sl 2 b1 p.chain.length d1],Iv (f:Nat)] h=some (.agg [.sl 2 b1 p.chain.length d1],h5) ∧
   Ae lo 104 [.agg [Iv p.me,Iv p.clock,.sl 2 b1 p.chain.length d1,.sl 6 b2 p.log.length d2,.sl 1 b3 p.got.length d3,.bool p.fell]] h5=some (.agg ((Bo p f).cs b1 d1 a6 c6 b3 d3),h6) ∧
   RPlace false h6 ((Bo p f).cs b1 d1 a6 c6 b3 d3) (Bo p f) G∧Mv h (G1++(G2++G3)) h6 G:=by
 have hn:=(Fe (Cg hpo) (by decide) (by decide) (by decide)).1;have hb:∀ y∈G1++(G2++G3),y<h.length:=fun y hy=>by
  simp only[zbP] at hy;rcases hy with hy | hy | hy
  ·exact rnodes_ok.bd _ _ _ _ g1 y hy
  ·exact rvers_ok.bd _ _ _ _ g2 y hy
  ·exact rvss_ok.bd _ _ _ _ g3 y hy
 have hc':=hc;unfold A4 at hc';rw[Dm] at hc';obtain ⟨hw,hps⟩:=hc';simp only[Al,Dm,decide_eq_true_eq] at hw;rw[A7] at hps;have hk':f<p.chain.length:=by omega
 rw[Ii hk',Dm,decide_eq_true_eq] at hps;have nd':=nd;rw[zbQ,zbQ] at nd';obtain ⟨nd1,⟨nd2,nd3,Sq⟩,nd5⟩:=nd';obtain ⟨h5,F5,e5,r5,m5⟩:=Kd (lo:=lo) g1 (by omega) hps.1 nd1 (fun y hy=>hlo y (by simp[hy])) hl hn.1 (Mh hpo);have g25:=m5.keep rvers_ok g2 fun y hy hm=>nd5 y hm y (by simp[hy]) rfl;have ht:=KI (Nl (k:=f) (Cg hpo)) (by decide) (by decide) (by decide);rw[← passN_len (k:=f)] at r5;have d1':=(Jy m5 (Mv.refl nd2) nd hb).2.1;obtain ⟨a6,c6,h6,F6,e6,r6,m6⟩:=JA (lo:=lo) (p:=FV p f) (a3:=b3) (c3:=d3) r5 g25 (by show 0<(EF _ _).length;rw[passN_len];omega) ht d1' nd2 (fun y hy=>hlo y (by simp[hy])) (zbN hl m5.le);have hcs:(FV p f).cs b1 d1 b2 d2 b3 d3 = [Iv p.me,Iv p.clock,.sl 2 b1 p.chain.length d1,.sl 6 b2 p.log.length d2,.sl 1 b3 p.got.length d3,.bool p.fell]:=by simp only[Place.cs,FV,passN_len]
 rw[hcs] at e6;obtain ⟨m7,x1,x2,x3⟩:=Jy m5 m6 nd hb;have hx:Bo p (f:Int)=BL (FV p f):=by unfold Bo;rw[hc,cond_true,A7]
 rw[hx];exact ⟨a6,c6,h5,h6,F5++(F6++G3),e5,e6,⟨_,_,_,F5,F6,G3,rfl,rfl,m6.keep rnodes_ok r5 x1,r6,m6.keep rvss_ok (m5.keep rvss_ok g3 x2) x3⟩,m7⟩
theorem Zk {f:Nat} (g1:RNodes false h [.sl 2 b1 p.chain.length d1] p.chain G1) (g2:RVers false h [.sl 6 b2 p.log.length d2] p.log G2) (g3:RVss false h [.sl 1 b3 p.got.length d3] p.got G3) (hpo:Ao p=true) (hc:Bk p (f:Int)=true)
  (nd:(G1++(G2++G3)).Nodup) (hlo:∀ y∈G1++(G2++G3),lo≤y) (hl:lo≤h.length) :
  ∃ a5 c5 a6 c6 h5 h6 G,Ae lo 118 [.agg [.sl 2 b1 p.chain.length d1],Iv (f:Nat)] h=some (.agg [.sl 2 a5 (Bq p.chain f).length c5],h5) ∧
   Ae lo 104 [.agg [Iv p.me,Iv p.clock,.sl 2 a5 (Bq p.chain f).length c5,.sl 6 b2 p.log.length d2,.sl 1 b3 p.got.length d3,.bool true]] h5=some (.agg ((A6 p f).cs a5 c5 a6 c6 b3 d3),h6) ∧
   RPlace false h6 ((A6 p f).cs a5 c5 a6 c6 b3 d3) (A6 p f) G∧Mv h (G1++(G2++G3)) h6 G:=by
 have hn:=(Fe (Cg hpo) (by decide) (by decide) (by decide)).1;have hb:∀ y∈G1++(G2++G3),y<h.length:=fun y hy=>by
  simp only[zbP] at hy;rcases hy with hy | hy | hy
  ·exact rnodes_ok.bd _ _ _ _ g1 y hy
  ·exact rvers_ok.bd _ _ _ _ g2 y hy
  ·exact rvss_ok.bd _ _ _ _ g3 y hy
 have hc':=hc;unfold Bk CA at hc';simp only[Dm,Al,decide_eq_true_eq] at hc';obtain ⟨hfl,hw,hl1⟩:=hc';have hk':f<p.chain.length:=by omega
 have nd':=nd;rw[zbQ,zbQ] at nd';obtain ⟨nd1,⟨nd2,nd3,Sq⟩,nd5⟩:=nd';obtain ⟨a5,c5,h5,F5,e5,r5,m5⟩:=Ke (lo:=lo) g1 hk' hl1 (Nx (AK hpo).2.2.2.1 (by omega)) nd1 (fun y hy=>hlo y (by simp[hy])) hl hn.1.1 (fun x hx=>(Mh hpo x hx).1);have g25:=m5.keep rvers_ok g2 fun y hy hm=>nd5 y hm y (by simp[hy]) rfl;have ht:=KI (Nm (k:=f) (Cg hpo)) (by decide) (by decide) (by decide);have d1':=(Jy m5 (Mv.refl nd2) nd hb).2.1;obtain ⟨a6,c6,h6,F6,e6,r6,m6⟩:=JA (lo:=lo) (p:=IV p f) (a3:=b3) (c3:=d3) r5 g25 (by show 0<(Bq _ _).length;rw[H0 hk' hl1];omega) ht d1' nd2 (fun y hy=>hlo y (by simp[hy])) (zbN hl m5.le);have hcs:(IV p f).cs a5 c5 b2 d2 b3 d3 = [Iv p.me,Iv p.clock,.sl 2 a5 (Bq p.chain f).length c5,.sl 6 b2 p.log.length d2,.sl 1 b3 p.got.length d3,.bool true]:=rfl;rw[hcs] at e6;obtain ⟨m7,x1,x2,x3⟩:=Jy m5 m6 nd hb;have hx:A6 p (f:Int)=BL (IV p f):=by unfold A6;rw[hc,cond_true,A7]
 rw[hx];exact ⟨a5,c5,a6,c6,h5,h6,F5++(F6++G3),e5,e6,⟨_,_,_,F5,F6,G3,rfl,rfl,m6.keep rnodes_ok r5 x1,r6,m6.keep rvss_ok (m5.keep rvss_ok g3 x2) x3⟩,m7⟩
theorem Y6 (g1:RNodes false h [.sl 2 b1 p.chain.length d1] p.chain G1) (g2:RVers false h [.sl 6 b2 p.log.length d2] p.log G2) (g3:RVss false h [.sl 1 b3 p.got.length d3] p.got G3) (hpo:Ao p=true) (hc:Gi p.chain=true)
  (nd:(G1++(G2++G3)).Nodup) (hlo:∀ y∈G1++(G2++G3),lo≤y) (hl:lo≤h.length) :
  ∃ a5 c5 h5 G,Ae lo 249 [.agg [.sl 2 b1 p.chain.length d1]] h=some (.agg [.sl 2 a5 (KH p.chain).length c5],h5) ∧
   RPlace false h5 ((Ms p).cs a5 c5 b2 d2 b3 d3) (Ms p) G∧Mv h (G1++(G2++G3)) h5 G:=by
 have hn:=(Fe (Cg hpo) (by decide) (by decide) (by decide)).1;have hb:∀ y∈G1++(G2++G3),y<h.length:=fun y hy=>by
  simp only[zbP] at hy;rcases hy with hy | hy | hy
  ·exact rnodes_ok.bd _ _ _ _ g1 y hy
  ·exact rvers_ok.bd _ _ _ _ g2 y hy
  ·exact rvss_ok.bd _ _ _ _ g3 y hy
 have h0:=EN hpo;have nd':=nd;rw[zbQ,zbQ] at nd';obtain ⟨nd1,⟨nd2,nd3,Sq⟩,nd5⟩:=nd';obtain ⟨a5,c5,h5,F5,e5,r5,m5⟩:=Oi (lo:=lo) g1 h0 hn.1 nd1 (fun y hy=>hlo y (by simp[hy])) hl;have hj:KH p.chain=Ir p.chain:=by unfold KH;rw[hc];rfl
 have hjl:(Ir p.chain).length=p.chain.length+1:=by rw[GU h0];simp
 obtain ⟨m7,x1,x2,x3⟩:=Jy m5 (Mv.refl nd2) nd hb;rw[← hjl,← hj] at e5 r5;refine ⟨a5,c5,h5,F5++(G2++G3),e5,⟨_,_,_,F5,G2,G3,rfl,rfl,r5,m5.keep rvers_ok g2 fun y hy hm=>nd5 y hm y (by simp[hy]) rfl,m5.keep rvss_ok g3 x2⟩,m7⟩
end


variable {p:Place}
section
variable {lo:Nat}{h h':Heap}{w:World}{a1 a2 a3 a4 a:Pq}{c1 c2 c3 c4 c:Nq}{F1 F2 F3 F4:List Nat}
theorem WN {k:Nat}:(setP w k p).cs a1 c1 a2 c2 a3 c3 a4 c4=w.cs a1 c1 a2 c2 a3 c3 a4 c4:=by simp only[World.cs,setP,zcd]
theorem Good.at (hg:Good w) {k:Nat} (hk:k<w.places.length):Ao w.places[k]=true∧w.places[k].me=(k:Int)∧Roomy w.places[k]:=by have:=hg.ok.place k _ (Dd hk);exact ⟨this.2,this.1,hg.room _ (zbO hk)⟩
theorem YD {f:Nat}{b1 b2 b3:Pq}{d1 d2 d3:Nq}{G1 G2 G3:List Nat} (g1:RNodes false h [.sl 2 b1 p.chain.length d1] p.chain G1) (g2:RVers false h [.sl 6 b2 p.log.length d2] p.log G2) (g3:RVss false h [.sl 1 b3 p.got.length d3] p.got G3) (hpo:Ao p=true) (hc:Eo p (f:Int)=true)
  (nd:(G1++(G2++G3)).Nodup) (hlo:∀ y∈G1++(G2++G3),lo≤y) (hl:lo≤h.length) :
  ∃ a1' c1' a2' c2' a3' c3' h' G,Ae lo 98 [.agg (p.cs b1 d1 b2 d2 b3 d3),Iv (f:Nat)] h=some (.agg ((Fd p (f:Int)).cs a1' c1' a2' c2' a3' c3'),h')∧RPlace false h' ((Fd p (f:Int)).cs a1' c1' a2' c2' a3' c3') (Fd p (f:Int)) G∧Mv h (G1++(G2++G3)) h' G:=by
 have hn:=(Fe (Cg hpo) (by decide) (by decide) (by decide)).1;have hx:Fd p (f:Int)=L8 p f:=by unfold Fd;rw[hc,cond_true,A7]
 unfold Eo at hc;rw[Dm,A7] at hc;obtain ⟨hw,ht⟩:=hc;simp only[Al,Dm,decide_eq_true_eq] at hw;have h3:=(AK hpo).2.2.1;obtain ⟨a2',c2',h',F',e,⟨_,_,_,_,_,_,ecs,r⟩,m⟩:=Ul (lo:=lo) (f:=f) g1 g2 g3 hpo (by omega) hn ht nd hlo hl;rw[hx];exact ⟨_,_,_,_,_,_,h',F',e,r,m⟩
theorem SY {e:Event} (H:WR lo h w a1 c1 a2 c2 a3 c3 a4 c4 F1 F2 F3 F4) (hg:Good w) :
  ∃ cs' h' F',Ae lo 213 [.agg (w.cs a1 c1 a2 c2 a3 c3 a4 c4),.agg e.cs] h=some (.tup [.agg cs',.bool (Ih w e).isSome],h')∧OQ lo h' cs' ((Ih w e).getD w) F'∧Mv h (F1++(F2++(F3++F4))) h' F'∧((Ih w e)=none→cs'=w.cs a1 c1 a2 c2 a3 c3 a4 c4):=by
 obtain ⟨kind,at',num,key,text,gone⟩:=e;suffices hk:∃ cs' h' F',_=some (V.tup [.agg cs',.bool (Ih w ⟨kind,at',num,key,text,gone⟩).isSome],h')∧OQ lo h' cs' ((Ih w ⟨kind,at',num,key,text,gone⟩).getD w) F'∧Mv h (F1++(F2++(F3++F4))) h' F'∧((Ih w ⟨kind,at',num,key,text,gone⟩)=none→cs'=w.cs a1 c1 a2 c2 a3 c3 a4 c4) from by obtain ⟨cs',h',F',e,hr⟩:=hk;exact ⟨cs',h',F',QL e,hr⟩
 rw[By,Ac,Av];unfold Ih;cases hat:Al at' 0 2 with
 | false =>rw[Au];exact ⟨_,h,_,rfl,H.at,Mv.refl H.nd,fun _=>rfl⟩
 | true =>
 simp only[Al,Dm,decide_eq_true_eq] at hat;obtain ⟨k,rfl⟩:∃ k:Nat,at'=(k:Int):=⟨at'.toNat,by omega⟩;have hk:k<w.places.length:=by have:=hg.ok.p3;omega
 obtain ⟨hpo,hme,hro⟩:=hg.at hk;have hn:=(Fe (Cg hpo) (by decide) (by decide) (by decide)).1;obtain ⟨b,i,s1,s2,s3,b1,d1,b2,d2,b3,d3,G1,G2,G3,rfl,hld,_,_,e1,e2,e3,g1,g2,g3,nd,hF,put⟩:=H.place hk;have hFlo:∀ y∈G1++(G2++G3),lo≤y:=fun y hy=>(hF y hy).1
 rw[An,Ad hk,Af,A7,hld,Af,Ab,Aa,Ab,Aa,Ab,e1,Ab,e2,Ab,e3,Ab,Aw,Ag,cond_true,Dd hk];simp only[];generalize hp:w.places[k]=p at hpo hme hro hn hld e1 e2 e3 g1 g2 g3 put;have done:∀ (h1:Heap) (G:List Nat) (p':Place) (cs':List V),Mv h (G1++(G2++G3)) h1 G→RPlace false h1 cs' p' G→cs'.length=6 →
   ∃ h2 F',st lo h1 b (i+k) 0 cs'=some h2∧OQ lo h2 (w.cs (some (b,i)) c1 a2 c2 a3 c3 a4 c4) (setP w k p') F'∧Mv h (F1++(F2++(F3++F4))) h2 F':=fun h1 G p' cs' m r hc=>by
  obtain ⟨h2,F1',e,q,m2⟩:=put h1 G p' cs' m r hc;refine ⟨h2,_,e,?_,m2⟩;rw[← WN (k:=k) (p:=p')];exact q.at
 have hsame:setP w k p=w:=by unfold setP;rw[← hp,zdr]
 obtain ⟨h9,F9,e9,W9,m9⟩:=done h _ p (p.cs b1 d1 b2 d2 b3 d3) (Mv.refl nd) ⟨_,_,_,G1,G2,G3,rfl,rfl,g1,g2,g3⟩ rfl;rw[hsame] at W9;simp only[Place.cs] at e9;cases h6:kind==6 with
 | true =>
  rw[An,Lm g1 hn.1.1,Ac,Av];cases hc:A4 p.chain num with
  | false =>
   have hs:Ey p ⟨kind,(k:Nat),num,key,text,gone⟩=none:=by simp only[Ey,h6,hc,cond_true,cond_false]
   rw[Au,Ad hk,Af,e9,Af,hs];exact ⟨_,h9,F9,rfl,W9,m9,fun _=>rfl⟩
  | true =>
   obtain ⟨f,rfl⟩:∃ f:Nat,num=(f:Int):=by unfold A4 at hc;simp only[Al,Dm,decide_eq_true_eq] at hc;exact ⟨num.toNat,by omega⟩
   have hs:Ey p ⟨kind,(k:Nat),(f:Nat),key,text,gone⟩=some (Bo p f):=by simp only[Ey,h6,hc,cond_true]
   obtain ⟨a6,c6,h5,h6',G,e5,e6,r6,m6⟩:=YR (lo:=lo) g1 g2 g3 hpo hc nd hFlo H.hl;obtain ⟨h8,F8,e8,W8,m8⟩:=done h6' G _ _ m6 r6 rfl;simp only[Place.cs] at e6 e8;rw[An,e5,Ac,AC,Ab,Ah,Ag,e6,Ac,AC,Ab,Aa,Ab,Aa,Ab,Ah,Ab,Ah,Ab,Ah,Ab,Aw,Ag,Ad hk,Af,e8,Af,hs];exact ⟨_,h8,F8,rfl,W8,m8,fun g=>by first | cases g | (simp at g)⟩
 | false =>
 rw[Au];cases h7:kind==7 with
 | true =>
  have ec:=Kb (lo:=lo) (h:=h) (p:=p) (k:=num) (a1:=b1) (c1:=d1) (a2:=b2) (c2:=d2) (a3:=b3) (c3:=d3) hn.1.1;simp only[Place.cs] at ec;rw[An,ec,Ac,Av];cases hc:Bk p num with
  | false =>
   have hs:Ey p ⟨kind,(k:Nat),num,key,text,gone⟩=none:=by simp only[Ey,h6,h7,hc,cond_true,cond_false]
   rw[Au,Ad hk,Af,e9,Af,hs];exact ⟨_,h9,F9,rfl,W9,m9,fun _=>rfl⟩
  | true =>
   obtain ⟨f,rfl⟩:∃ f:Nat,num=(f:Int):=by unfold Bk CA at hc;simp only[Al,Dm,decide_eq_true_eq] at hc;exact ⟨num.toNat,by omega⟩
   have hs:Ey p ⟨kind,(k:Nat),(f:Nat),key,text,gone⟩=some (A6 p f):=by simp only[Ey,h6,h7,hc,cond_true,cond_false]
   obtain ⟨a5,c5,a6,c6,h5,h6',G,e5,e6,r6,m6⟩:=Zk (lo:=lo) g1 g2 g3 hpo hc nd hFlo H.hl;obtain ⟨h8,F8,e8,W8,m8⟩:=done h6' G _ _ m6 r6 rfl;simp only[Place.cs] at e6 e8;rw[An,e5,Ac,AC,Ab,Ah,Ag,e6,Ac,AC,Ab,Aa,Ab,Aa,Ab,Ah,Ab,Ah,Ab,Ah,Ab,Aw,Ag,Ad hk,Af,e8,Af,hs];exact ⟨_,h8,F8,rfl,W8,m8,fun g=>by first | cases g | (simp at g)⟩
 | false =>
 rw[Au];cases h8:kind==8 with
 | true =>
  rw[An];cases hc:Gi p.chain with
  | false =>
   have hs:Ey p ⟨kind,(k:Nat),num,key,text,gone⟩=none:=by simp only[Ey,h6,h7,h8,hc,cond_true,cond_false]
   unfold Gi at hc;rw[decide_eq_false_iff_not] at hc;rw[Ai hc,Ad hk,Af,e9,Af,hs];exact ⟨_,h9,F9,rfl,W9,m9,fun _=>rfl⟩
  | true =>
   have hs:Ey p ⟨kind,(k:Nat),num,key,text,gone⟩=some (Ms p):=by simp only[Ey,h6,h7,h8,hc,cond_true,cond_false]
   obtain ⟨a5,c5,h5,G,e5,r6,m6⟩:=Y6 (lo:=lo) g1 g2 g3 hpo hc nd hFlo H.hl;obtain ⟨h8',F8,e8,W8,m8⟩:=done h5 G _ _ m6 r6 rfl;unfold Gi at hc;rw[decide_eq_true_eq] at hc;simp only[Place.cs,Ms] at e8;rw[Ak hc,e5,Ac,AC,Ab,Ah,Ag,Ad hk,Af,e8,Af,hs];exact ⟨_,h8',F8,rfl,W8,m8,fun g=>by first | cases g | (simp at g)⟩
 | false =>
 rw[Au,By,Ac,Av];cases hw:Al num 0 2 with
 | false =>
  have hs:Ey p ⟨kind,(k:Nat),num,key,text,gone⟩=none:=by simp only[Ey,h6,h7,h8,Eo,hw,zcZ,cond_true,cond_false]
  rw[Au,Ad hk,Af,e9,Af,hs];exact ⟨_,h9,F9,rfl,W9,m9,fun _=>rfl⟩
 | true =>
  have hw':=hw;simp only[Al,Dm,decide_eq_true_eq] at hw';obtain ⟨f,rfl⟩:∃ f:Nat,num=(f:Int):=⟨num.toNat,by omega⟩;have h3:=(AK hpo).2.2.1;have ec:=PE (lo:=lo) (f:=f) (a2:=b2) (c2:=d2) g1 g3 hpo (by omega) hn;simp only[Place.cs] at ec;rw[An,ec,Ac,Av];cases hc:L7 p f with
  | false =>
   have hs:Ey p ⟨kind,(k:Nat),(f:Nat),key,text,gone⟩=none:=by simp only[Ey,h6,h7,h8,Eo,hw,A7,hc,zdc,cond_true,cond_false]
   rw[Au,Ad hk,Af,e9,Af,hs];exact ⟨_,h9,F9,rfl,W9,m9,fun _=>rfl⟩
  | true =>
   have hct:Eo p (f:Int)=true:=by unfold Eo;rw[hw,A7,hc];rfl
   have hs:Ey p ⟨kind,(k:Nat),(f:Nat),key,text,gone⟩=some (Fd p f):=by simp only[Ey,h6,h7,h8,hct,cond_true,cond_false]
   obtain ⟨x1,y1,x2,y2,x3,y3,h5,G,e5,r6,m6⟩:=YD (lo:=lo) g1 g2 g3 hpo hct nd hFlo H.hl;obtain ⟨h8',F8,e8,W8,m8⟩:=done h5 G _ _ m6 r6 rfl;simp only[Place.cs] at e5 e8;rw[An,e5,Ac,AC,Ab,Aa,Ab,Aa,Ab,Ah,Ab,Ah,Ab,Ah,Ab,Aw,Ag,Ad hk,Af,e8,Af,hs];exact ⟨_,h8',F8,rfl,W8,m8,fun g=>by first | cases g | (simp at g)⟩
end


variable {α:Type}{El:Rel α}{h:Heap}{a:Pq}{c:Nq}{F:List Nat}{l:List α}{xs:List (List V)}{Fs:List (List Nat)}
theorem Yj (ok:El.Ok) {lo R ee bytes:Nat}{k:Nat} (hs:Sli false R ee El h [.sl R a l.length c] l F) (hk:k<l.length) (hnd:F.Nodup) (hlo:∀ b∈F,lo≤b) (hl:lo≤h.length) (hby:0<bytes) (hn:l.length*bytes≤140737488355328) :
  ∃ a' c' h' F',(∀ {T:Type} (K:V→Heap→Option T),(As a l.length c none (some (Iv (k:Nat))) none fun a_0 n_1 c_2=>At R (h ++ [.rows R ee false []]) (.sl R a_0 n_1 c_2) fun x_3=>CS lo ee R bytes (.sl R (some ((List.length h),0)) 0 (some 0)) x_3 (h ++ [.rows R ee false []]) fun v_4 h_5=>eS R (v_4) fun a_6 n_7 c_8 =>
    As a l.length c (some (Iv ((k+1:Nat):Int))) none none fun a_9 n_10 c_11=>At R h_5 (.sl R a_9 n_10 c_11) fun x_12=>CS lo ee R bytes (.sl R a_6 n_7 c_8) x_12 h_5 K)=K (.sl R a' (l.eraseIdx k).length c') h') ∧
   Sli false R ee El h' [.sl R a' (l.eraseIdx k).length c'] (l.eraseIdx k) F'∧Mv h F h' F':=by
 have hbd:=(Sli.ok ok).bd _ _ _ _ hs;obtain ⟨Fs,nF,sF,own,cuts⟩:=Sli.parts hs hnd;obtain ⟨rP,_,eP,_,kP,_⟩:=cuts k (by omega);obtain ⟨_,rQ,_,eQ,_,kQ⟩:=cuts (k+1) (by omega);obtain ⟨nP,_,dPQ⟩:=Ew (k:=k) nF;obtain ⟨_,nQ,_⟩:=Ew (k:=k+1) nF;have inP:∀ y∈(Fs.take k).flatten,y∈Fs.flatten:=fun y hy=>by rw[← zcw k Fs,zct];simp[hy]
 have inQ:∀ y∈(Fs.drop (k+1)).flatten,y∈(Fs.drop k).flatten:=fun y hy=>by
  have:Fs.drop (k+1)=(Fs.drop k).drop 1:=by rw[zc4]
  rw[this] at hy;rw[← zcw 1 (Fs.drop k),zct];exact zbP.2 (.inr hy)
 have inQ':∀ y∈(Fs.drop (k+1)).flatten,y∈Fs.flatten:=fun y hy=>by rw[← zcw k Fs,zct];simp[inQ y hy]
 have hFl:∀ y∈Fs.flatten,y<h.length:=fun y hy=>hbd y (sF y hy);have htl:(l.take k).length=k:=by rw[zcp];omega
 have hdl:(l.drop (k+1)).length=l.length - (k+1):=by rw[zcS]
 obtain ⟨a3,c3,h3,F3,e3,r3,l3,fr3,sub3,nd3⟩:=JN (lo:=lo) (R:=R) (e:=ee) (bytes:=bytes) ok eP nP (fun y hy=>hFl y (inP y hy)) hby (by rw[htl];exact zbN (zcq _ (by omega)) hn) hl;have hQ3:∀ y∈(Fs.drop (k+1)).flatten,y∉F3∧y<h3.length:=fun y hy=>by
  have:=hFl y (inQ' y hy);refine ⟨fun hm3=>?_,by omega⟩;rcases sub3 y hm3 with g | g
  ·exact dPQ y g y (inQ y hy) rfl
  ·omega
 have F3b:∀ y∈F3,y<h3.length:=(Sli.ok ok).bd _ _ _ _ r3;obtain ⟨a7,c7,h7,F7,e7,r7,l7,fr7,sub7,nd7⟩:=KM (lo:=lo) (bytes:=bytes) ok.fr r3 (xs:=rQ) (ys:=l.drop (k+1)) (Gs:=Fs.drop (k+1)) (eQ.fr ok.fr fun y hy=>fr3 y (hFl y (inQ' y hy))) hby (by rw[htl,hdl];exact zbN (zcq _ (by omega)) hn) (fun y hy=>by
   rcases sub3 y hy with g | g
   ·exact hlo y (sF y (inP y g))
   ·omega) (by omega) (by
   rw[zbQ];refine ⟨nd3,nQ,fun x hx y hy e=>?_⟩;subst e;exact (hQ3 x hy).1 hx) (fun y hy=>by
   rcases zbP.1 hy with hy | hy
   ·exact F3b y hy
   ·exact (hQ3 y hy).2)
 have hel:(l.take k).length+(l.drop (k+1)).length=(l.eraseIdx k).length:=by rw[zcx hk,htl,hdl];omega
 have her:l.take k++l.drop (k+1)=l.eraseIdx k:=(List.eraseIdx_eq_take_drop_succ l k).symm;rw[hel] at e7 r7;rw[her] at r7;have mm0:Mv h [] (h ++ [.rows R ee false []]) []:=Mv.snoc;refine ⟨a7,c7,h7,F7,fun K=>?_,r7,⟨by omega,fun y hy hyF=>?_,nd7,fun y hy=>?_⟩⟩
 ·rw[kP _ (fun b i e=>mm0.fr b (hbd b (own b i e).1) (by simp)),e3,Ah,kQ _ (fun b i e=>fr3 b (hbd b (own b i e).1)),e7]
 ·have y3:y∉F3:=fun hm3=>by
   rcases sub3 y hm3 with g | g
   ·exact hyF (sF y (inP y g))
   ·omega
  rw[fr7 y (by omega) y3,fr3 y hy]
 ·rcases sub7 y hy with g | g
  ·rcases zbP.1 g with g | g
   ·rcases sub3 y g with g | g
    ·exact .inl (sF y (inP y g))
    ·exact .inr (by omega)
   ·exact .inl (sF y (inQ' y g))
  ·exact .inr (by omega)
theorem NM {h:Heap}:∀ {xs:List (List V)},EAll (flat id) h xs xs (xs.map fun _ => [])
 | []=>trivial
 | x :: xs=>⟨⟨rfl,rfl⟩,NM⟩
theorem Qz {rows:List (List V)} (hx:EAll (flat id) h rows xs Fs):rows=xs∧Fs.flatten = []:=by have:=hx.of_flat;simpa using this
theorem Sli.bare {R e n:Nat} (hs:Sli false R e El h [.sl R a n c] l F) :
  ∃ xs Fs F0,Sli false R e (flat id) h [.sl R a n c] xs F0∧EAll El h xs l Fs∧F=F0++Fs.flatten:=by
 obtain ⟨R1,a1,c1,e1,g⟩:=hs;injection e1 with e1 _;injection e1 with e0 e2 e4 e3;subst e2;subst e3;subst e4;cases a with
 | none =>obtain ⟨rfl,rfl,rfl⟩:=g;exact ⟨[],[],[],⟨R1,none,some 0,by rw[e0];rfl,rfl,rfl,rfl⟩,trivial,rfl⟩
 | some p =>
  obtain ⟨b,i⟩:=p;obtain ⟨_,rs,Fs,g1,g2,g3,g4,g5,rfl⟩:=g;have hlen:((rs.drop i).take l.length).length=l.length:=by rw[zcp,zcS];omega
  refine ⟨(rs.drop i).take l.length,Fs,[b],⟨R,some (b,i),c,by rw[hlen],rfl,rs,_,g1,by rw[hlen];exact g2,by rw[hlen];exact g3,g4,?_,by rw[(Qz (NM (h:=h) (xs:=(rs.drop i).take l.length))).2]⟩,g5,rfl⟩;rw[hlen];exact NM
theorem Sli.cook {R e n:Nat}{F0:List Nat} (hs:Sli false R e (flat id) h [.sl R a n c] xs F0) (hx:EAll El h xs l Fs) :
  Sli false R e El h [.sl R a n c] l (F0++Fs.flatten):=by
 have hl:=hx.len;obtain ⟨R1,a1,c1,e1,g⟩:=hs;injection e1 with e1 _;injection e1 with e0 e2 e4 e3;subst e2;subst e3;subst e4;cases a with
 | none =>obtain ⟨rfl,rfl,rfl⟩:=g;have:l = []:=zbY hl.1.symm;subst this;have:Fs = []:=zbY hl.2;subst this;exact ⟨R1,none,some 0,by rw[e0];rfl,rfl,rfl,rfl⟩
 | some p =>obtain ⟨b,i⟩:=p;obtain ⟨_,rs,Gs,g1,g2,g3,g4,g5,rfl⟩:=g;obtain ⟨q1,q2⟩:=Qz g5;refine ⟨R,some (b,i),c,by rw[hl.1],rfl,rs,Fs,g1,by rw[← hl.1];exact g2,by rw[← hl.1];exact g3,g4,?_,by rw[q2];rfl⟩;rw[← hl.1,q1];exact hx


variable {f:Frame}
section
variable {lo:Nat}{h h':Heap}{w:World}{a1 a2 a3 a4 a:Pq}{c1 c2 c3 c4 c:Nq}{F1 F2 F3 F4:List Nat}
theorem On (hg:Good w) (hf:KW w.places f):thin f.ver∧A3 f.ver=true∧f.ver.tag.place=f.fro:=by
 obtain ⟨h1,h2,h3,h4,h5⟩:=hf;have hk:f.fro.toNat<w.places.length:=by have:=hg.ok.p3;omega
 obtain ⟨hpo,hme,_⟩:=hg.at hk;rw[Ss hk] at h5;obtain ⟨hi,h5⟩:=Fh h5;obtain ⟨_,hl⟩:=HY (AK hpo).2.2.2.2.2.1;obtain ⟨g1,g2,_⟩:=hl _ hi;rw[h5] at g1 g2;exact ⟨II g1,g1,by rw[g2,hme];omega⟩
theorem UW {b:Pq}{d:Nq}{G:List Nat} (H:WR lo h w a1 c1 a2 c2 a3 c3 a4 c4 F1 F2 F3 F4) (hg:Good w) (hf:KW w.places f) (hv:RTags false h [.sl 2 b f.ver.past.length d] f.ver.past G) :
  ∃ h' F',(Ap f.to w.places.length (eO a1 fun w0=>eO (ld h w0.1 (w0.2+f.to.toNat) 0 6) fun w0=>eC w0 fun w0 p=>eI .i64 w0 fun w0=>eC p fun p q=>eI .i64 p fun p=>eC q fun q g=>eS 2 q fun q i j=>eC g fun g k=>eS 6 g fun g m t=>eC k fun k d0=>eS 1 k fun k e f0=>eC d0 fun d0 v0=>eBv d0 fun d0=>eN v0 (Aj (Ae lo 85 [.agg [Iv w0,Iv p,.sl 2 q i j,.sl 6 g m t,.sl 1 k e f0,.bool d0],Iv f.fro,Iv f.at',.agg [Iv f.ver.key,Iv f.ver.tag.time,Iv f.ver.tag.place,.sl 2 b f.ver.past.length d,.str f.ver.text,.bool f.ver.gone]] h) fun w1 p=>eU w1 fun w1=>eC w1 fun w1 q=>eA w1 fun w1=>eC w1 fun w1 g=>eI .i64 w1 fun w1=>eC g fun g i=>eI .i64 g fun g=>eC i fun i j=>eS 2 i fun i k m=>eC j fun j t=>eS 6 j fun j d e=>eC t fun t f0=>eS 1 t fun t v0 v1=>eC f0 fun f0 v2=>eBv f0 fun f0=>eN v2 (eC q fun q v2=>eB q (eN v2 (Ap f.to w.places.length (eO a1 fun q=>eO (st lo p q.1 (q.2+f.to.toNat) 0 [Iv w1,Iv g,.sl 2 i k m,.sl 6 j d e,.sl 1 t v0 v1,.bool f0]) fun w1=>some (V.tup [.agg (w.cs a1 c1 a2 c2 a3 c3 a4 c4),.bool true],w1)))) (eN v2 (some (V.tup [.agg (w.cs a1 c1 a2 c2 a3 c3 a4 c4),.bool true],p)))))))=some (V.tup [.agg (w.cs a1 c1 a2 c2 a3 c3 a4 c4),.bool true],h') ∧
   OQ lo h' (w.cs a1 c1 a2 c2 a3 c3 a4 c4) (MA w f) F'∧Mv h (F1++(F2++(F3++F4))) h' F':=by
 obtain ⟨hth,hvo,hvt⟩:=On hg hf;obtain ⟨⟨h1,h1'⟩,⟨h2,h2'⟩,h3,h4,h5⟩:=hf;obtain ⟨fro,to,at',ver⟩:=f;simp only at *
 obtain ⟨k,rfl⟩:∃ k:Nat,to=(k:Int):=⟨to.toNat,by omega⟩;obtain ⟨j,rfl⟩:∃ j:Nat,fro=(j:Int):=⟨fro.toNat,by omega⟩;have hk:k<w.places.length:=by have:=hg.ok.p3;omega
 obtain ⟨hpo,hme,hro⟩:=hg.at hk;obtain ⟨b0,i,s1,s2,s3,b1,d1,b2,d2,b3,d3,G1,G2,G3,rfl,hld,_,_,e1,e2,e3,g1,g2,g3,nd,hF,put⟩:=H.place hk;have hx:MA w ⟨(j:Int),(k:Int),at',ver⟩=setP w k (Hn w.places[k] j at' ver):=by unfold MA;simp only[A7,Dd hk]
 rw[hx];rw[Ad hk,Af,A7,hld,Af,Ab,Aa,Ab,Aa,Ab,e1,Ab,e2,Ab,e3,Ab,Aw,Ag];generalize hp:w.places[k]=p at hpo hme hro hld e1 e2 e3 g1 g2 g3 put;have ht:=Cg hpo;have h3g:=(AK hpo).2.2.1;have nd':=nd;rw[zbQ,zbQ] at nd';obtain ⟨nd1,⟨nd2,nd3,Sq⟩,nd5⟩:=nd';have hj:j<p.got.length:=by omega
 obtain ⟨h5',F5,e5,r5,m5,x5⟩:=SZ (lo:=lo) (at':=at') (a1:=b1) (c1:=d1) (a2:=b2) (c2:=d2) g3 hv hj (by have:=(ht.got.2 _ (zbO hj)).1;omega) (by have:=hth.1;omega) nd3 (fun y hy=>(hF y (by simp[hy])).1) H.hl;simp only[Place.cs,Ver.cs] at e5;have hc:Hr p (j:Int) at' ver=Jm p j at' ver:=by unfold Hr;rw[hvo,hvt,MO,A7];simp[Al];omega
 have hsame:setP w k p=w:=by unfold setP;rw[← hp,zdr]
 rw[e5,Ac,Ge,Ab,AC,Ab,Aa,Ab,Aa,Ab,Ah,Ab,Ah,Ab,Ah,Ab,Aw,Ag,Ab,Av];unfold Hn;rw[hc];cases hh:Jm p j at' ver with
 | false =>have:=x5 hh;subst this;rw[Au,Ag,cond_false,hsame];exact ⟨_,_,rfl,H.at,Mv.refl H.nd⟩
 | true =>
  rw[hh,cond_true] at r5;have hb:∀ y∈G1++(G2++G3),y<h.length:=fun y hy=>(hF y hy).2.1
  have mm:Mv h (G1++(G2++G3)) h5' (G1++(G2++F5)):=m5.mid YQ nd (fun y hy=>hb y (by simp only[zbP] at hy ⊢;grind)) YQ;have hcs:(J2 p j ver).cs b1 d1 b2 d2 b3 d3=p.cs b1 d1 b2 d2 b3 d3:=zaf;have rr:RPlace false h5' (p.cs b1 d1 b2 d2 b3 d3) (J2 p j ver) (G1++(G2++F5)):=by
   rw[← hcs];refine ⟨_,_,_,G1,G2,F5,rfl,rfl,m5.keep rnodes_ok g1 (fun y hy hm=>nd5 y hy y (by simp[hm]) rfl),m5.keep rvers_ok g2 (fun y hy hm=>Sq y hy y hm rfl),?_⟩;have:(J2 p j ver).got=p.got.set j (p.got[j] ++ [ver]):=by unfold J2;rw[Jn hj]
   rw[this,zcd];exact r5
  obtain ⟨h6,F6,e6,q6,m6⟩:=put h5' _ _ _ mm rr rfl;simp only[Place.cs] at e6;rw[An,Ag,Ad hk,Af,e6,Af,cond_true,A7];refine ⟨h6,_,rfl,?_,m6⟩;rw[← WN (k:=k) (p:=J2 p j ver)];exact q6.at
def UG (w:World) (e:Event):Option World:=bif e.kind==10 then Sd w e else NH w e
theorem VE {e:Event} (H:WR lo h w a1 c1 a2 c2 a3 c3 a4 c4 F1 F2 F3 F4) (hg:Good w) :
  ∃ cs' h' F',Ae lo 214 [.agg (w.cs a1 c1 a2 c2 a3 c3 a4 c4),.agg e.cs] h=some (.tup [.agg cs',.bool (UG w e).isSome],h')∧OQ lo h' cs' ((UG w e).getD w) F'∧Mv h (F1++(F2++(F3++F4))) h' F'∧((UG w e)=none→cs'=w.cs a1 c1 a2 c2 a3 c3 a4 c4):=by
 obtain ⟨kind,at',num,key,text,gone⟩:=e;suffices hk:∃ cs' h' F',_=some (V.tup [.agg cs',.bool (UG w ⟨kind,at',num,key,text,gone⟩).isSome],h')∧OQ lo h' cs' ((UG w ⟨kind,at',num,key,text,gone⟩).getD w) F'∧Mv h (F1++(F2++(F3++F4))) h' F'∧((UG w ⟨kind,at',num,key,text,gone⟩)=none→cs'=w.cs a1 c1 a2 c2 a3 c3 a4 c4) from by obtain ⟨cs',h',F',e,hr⟩:=hk;exact ⟨cs',h',F',TK e,hr⟩
 have hp3:=hg.ok.p3;have hn12:=hg.ok.n12;unfold UG;cases h10:kind==10 with
 | true =>
  rw[cond_true,An,By,Ac,Av];unfold Sd;cases x1:Al at' 0 2 with
  | false =>rw[zcZ,cond_false,Au];exact ⟨_,h,_,rfl,H.at,Mv.refl H.nd,fun _=>rfl⟩
  | true =>
  rw[zb8,An,By,Ac,Av];cases x2:Al num 0 2 with
  | false =>rw[zcZ,cond_false,Au];exact ⟨_,h,_,rfl,H.at,Mv.refl H.nd,fun _=>rfl⟩
  | true =>
  rw[zb8,An];cases x3:at'==num with
  | true =>rw[zcE,zcZ,cond_false,An];exact ⟨_,h,_,rfl,H.at,Mv.refl H.nd,fun _=>rfl⟩
  | false =>
  rw[zcR,zb8,Au];by_cases x4:(w.net.length:Int)<12
  ·simp only[Al,Dm,decide_eq_true_eq] at x1;obtain ⟨k,rfl⟩:∃ k:Nat,at'=(k:Int):=⟨at'.toNat,by omega⟩;have hk:k<w.places.length:=by omega
   obtain ⟨hpo,hme,hro⟩:=hg.at hk;obtain ⟨b0,i,s1,s2,s3,b1,d1,b2,d2,b3,d3,G1,G2,G3,rfl,hld,hc2,hc3,e1,e2,e3,g1,g2,g3,nd,hF,put⟩:=H.place hk;have hll:=(Cg hpo).log.1;rw[decide_eq_true x4,zb8,Ai (by omega),Ad hk,Af,A7,hc3,Af,Ab,Ag,e2,wr (by omega) (by omega),By,Ac,Av,Ss hk];generalize hp:w.places[k]=p at hpo hme hro hld e1 e2 e3 g1 g2 g3 put hll;cases x5:Al key 0 ((p.log.length:Int) - 1) with
   | false =>rw[cond_false,Au];exact ⟨_,h,_,rfl,H.at,Mv.refl H.nd,fun _=>rfl⟩
   | true =>
   simp only[Al,Dm,decide_eq_true_eq] at x5;obtain ⟨m,rfl⟩:∃ m:Nat,key=(m:Int):=⟨key.toNat,by omega⟩;have hm:m<p.log.length:=by omega
   obtain ⟨o,s,b,d,G,ha,ho,es,hpv,hGF⟩:=g2.get hm;have hth:=(Cg hpo).log.2 _ (zbO hm);obtain ⟨a5,c5,h5,F5,e5,r5,m5⟩:=CO (lo:=lo) (v:=p.log[m]) hpv H.hl (by have:=hth.1;omega);have e5':=e5;simp only[Ver.cs] at e5';rw[cond_true,An,Ad hk,Af,hc3,Af,Ab,Ag,e2,Ad hm,ha,Af,A7,ho,Af,Ab,Aa,Ab,Aa,Ab,Aa,Ab,es,Ab,A8,Ab,Aw,Ag,e5',Ac,AC,Ab,Aa,Ab,Aa,Ab,Aa,Ab,Ah,Ab,A8,Ab,Aw,Ag,AZ,Dd hm];obtain ⟨⟨n1,n2,n3,n4⟩,_⟩:=Sq H.nd;obtain ⟨a6,c6,h6,F6,e6,r6,m6⟩:=D9 (lo:=lo) (bytes:=96) (e:=172) rframe_ok H.r3 (row := Iv (k:Nat) :: Iv num :: Iv (m:Nat) :: p.log[m].cs a5 c5) (x:=⟨(k:Nat),num,(m:Nat),p.log[m]⟩) (G:=F5) (h1:=h5 ++ [.rows 9 172 false [Iv (k:Nat) :: Iv num :: Iv (m:Nat) :: p.log[m].cs a5 c5]])
    ⟨_,rfl,_,rfl,Mv.snoc.keep0 rtags_ok r5⟩ (m5.trans (Mv.snoc' m5.nd)) n3 (fun y hy=>H.ge y (by simp[hy])) H.hl (by decide) (by omega)
   simp only[Ver.cs] at e6;rw[e6,Ah];have hnl:(w.net ++ [(⟨(k:Nat),num,(m:Nat),p.log[m]⟩:Frame)]).length=w.net.length+1:=by simp
   rw[← hnl] at r6;obtain ⟨q,mq⟩:=H.up3 m6 r6;refine ⟨_,h6,_,?_,q.at,mq,fun g=>by first | cases g | (simp at g)⟩;rw[← hnl];rfl
  ·rw[decide_eq_false x4,zcZ,cond_false,Ak (by omega)];exact ⟨_,h,_,rfl,H.at,Mv.refl H.nd,fun _=>rfl⟩
 | false =>
 rw[cond_false,Au,wr (by omega) (by omega),By,Ac,Av];unfold NH;cases x1:Al at' 0 ((w.net.length:Int) - 1) with
 | false =>rw[cond_false,Au];exact ⟨_,h,_,rfl,H.at,Mv.refl H.nd,fun _=>rfl⟩
 | true =>
 simp only[Al,Dm,decide_eq_true_eq] at x1;obtain ⟨j,rfl⟩:∃ j:Nat,at'=(j:Int):=⟨at'.toNat,by omega⟩;have hj:j<w.net.length:=by omega
 obtain ⟨⟨n1,n2,n3,n4⟩,_⟩:=Sq H.nd;obtain ⟨xs,Fs,F0,hraw,hall,rfl⟩:=H.r3.bare;have hxl:w.net.length=xs.length:=hraw.val;obtain ⟨row,Fj,hr,hFj,⟨vs,rfl,hv⟩⟩:=hall.get (Dd hj);obtain ⟨s,b,d,rfl,es,hpv⟩:=hv.form;obtain ⟨o,row',_,ha,hld,⟨rfl,_⟩,_⟩:=hraw.read (show j<xs.length by omega);have hro:xs[j]'(by omega) = Iv w.net[j].fro :: Iv w.net[j].to :: Iv w.net[j].at' :: [Iv w.net[j].ver.key,Iv w.net[j].ver.tag.time,Iv w.net[j].ver.tag.place,s,.str w.net[j].ver.text,.bool w.net[j].ver.gone]:=by rw[Dd (by omega)] at hr;injection hr
 have hfi:=hg.ok.net _ (zbO hj);have hld9:ld h o.1 (o.2+j) 0 9=some (Iv w.net[j].fro :: Iv w.net[j].to :: Iv w.net[j].at' :: [Iv w.net[j].ver.key,Iv w.net[j].ver.tag.time,Iv w.net[j].ver.tag.place,s,.str w.net[j].ver.text,.bool w.net[j].ver.gone]):=by rw[hld,id,hro];exact HW rfl
 rw[An,Ad hj,ha,Af,A7,hld9,Af,Ab,Aa,Ab,Aa,Ab,Aa,Ab,Aa,Ab,Aa,Ab,Aa,Ab,es,Ab,A8,Ab,Aw,Ag,cond_true,Dd hj,← ha];simp only[];cases h13:kind==13 with
 | true =>
  have h12:(kind==12)=false:=by rw[beq_iff_eq] at h13;subst h13;rfl
  rw[An,h12,Au];obtain ⟨h',F',e,W,m⟩:=UW H hg hfi hpv;refine ⟨_,h',F',e,?_,m,fun g=>by first | cases g | (simp at g)⟩;simpa using W
 | false =>
  rw[zbQ] at n3;obtain ⟨n5,n6,n7⟩:=n3;rw[hxl] at hraw;obtain ⟨a6,c6,h6,F6,e6,r6,m6⟩:=Yj (k:=j) (lo:=lo) (bytes:=96) CK hraw (by omega) n5 (fun y hy=>H.ge y (by simp[hy])) H.hl (by decide) (by omega);rw[← hxl] at e6;have hbd:∀ y∈F0++Fs.flatten,y<h.length:=H.lt.2.2.1;have hel:(xs.eraseIdx j).length=(w.net.eraseIdx j).length:=by rw[zcx hj,zcx (by omega)];omega
  obtain ⟨k1,k2⟩:=I5 hFj n6;have all6:=(hall.fr rframe_ok.fr fun y hy=>m6.fr y (hbd y (by simp[hy])) fun hm=>n7 y hm y hy rfl).erase j;have r3':=r6.cook all6;rw[hel] at r3' e6;have mm:Mv h (F0++Fs.flatten) h6 (F6++Fs.flatten):=m6.mid (.refl _) (by rw[zbQ];exact ⟨n5,n6,n7⟩) (fun y hy=>hbd y (by simp[hy])) (.refl _);have nd6:=mm.nd;rw[zbQ] at nd6;have mm':Mv h (F0++Fs.flatten) h6 (F6++(Fs.eraseIdx j).flatten):=mm.lean (by
   rw[zbQ];exact ⟨nd6.1,k1,fun x hx y hy=>nd6.2.2 x hx y (k2 y hy).1⟩) fun y hy=>by
    rcases zbP.1 hy with hy | hy
    ·simp[hy]
    ·simp[(k2 y hy).1]
  obtain ⟨q,mq⟩:=H.up3 mm' r3';have hpv6:=m6.keep rtags_ok hpv fun y hy hm=>n7 y hm y (Fo hFj hy) rfl;rw[show Zs false=172 from rfl] at e6;rw[Au,Am (by omega),e6,Ah];cases h12:kind==12 with
  | true =>rw[An];exact ⟨_,h6,_,rfl,q.at,mq,fun g=>by first | cases g | (simp at g)⟩
  | false =>rw[Au];have hgn:Good (setN w (w.net.eraseIdx j)):=hg.setN (zbN (zda _ _) hn12) fun x hx=>hg.ok.net x (zcN hx);obtain ⟨h',F',e,W,m⟩:=UW (w:=setN w (w.net.eraseIdx j)) q hgn hfi hpv6;refine ⟨_,h',F',e,?_,mq.trans m,fun g=>by first | cases g | (simp at g)⟩;simpa using W
end


variable {t:Tag}{l:List Tag}
section
variable {lo:Nat}{h h':Heap}{F F':List Nat}{a a':Pq}{c c':Nq}
theorem PJ {s:Tag}:Ae lo 347 [.agg [Iv s.time,Iv s.place],.agg [Iv t.time,Iv t.place]] h=some (.agg [Iv (JK s t).time,Iv (JK s t).place],h):=by unfold JK FY;refine TX (h':=h) ?_;rw[BI,Ac,Av];cases HF s.time s.place t.time t.place<;>rfl
theorem RY {k:Nat} (hk:k<l.length):Ja l k t=l.set k (JK l[k] t):=by unfold Ja;rw[Dd hk]
theorem Xv {k:Nat}:(Ja l k t).length=l.length:=by unfold Ja;split<;>simp
theorem Kg {k:Nat} (hs:RTags false h [.sl 2 a l.length c] l F) (hk:k<l.length) (hl:lo≤h.length) (hn:l.length≤1048576) :
  ∃ a' c' h' F',Ae lo 326 [.agg [.sl 2 a l.length c],Iv (k:Nat),.agg [Iv t.time,Iv t.place]] h=some (.agg [.sl 2 a' l.length c'],h')∧RTags false h' [.sl 2 a' l.length c'] (Ja l k t) F'∧Mv h [] h' F':=by
 obtain ⟨a1,c1,h1,F1,e1,r1,m1⟩:=Jq (lo:=lo) (h:=h) (l:=l) hl hn;obtain ⟨b,i,rs,row,G,ha,hbF,hbG,hb,hrow,⟨rfl,rfl⟩,hGF,hGn,_,put⟩:=r1.at (lo:=lo) CK hk m1.nd (fun y hy=>m1.ge hl (by simp) y hy);have hld:ld h1 b (i+k) 0 2=some [Iv l[k].time,Iv l[k].place]:=by rw[BB hb hrow];rfl
 obtain ⟨h2,F2,e2,r2,m2,_⟩:=put h1 [] 0 (JK l[k] t).cs (JK l[k] t).cs (JK l[k] t) Mv.nil rfl ⟨rfl,rfl⟩;subst ha;refine ⟨some (b,i),c1,h2,F2,RL ?_,by rw[RY hk];exact r2,m1.trans m2⟩;simp only[Tag.cs] at e2;rw[RTags.rows (Mv.snoc.keep0 rtags_ok hs),e1,Ah,Ad hk,Af,A7,hld,Af,Ab,Aa,Ab,Aa,Ag,PJ,Ac,AC,Ab,Aa,Ab,Aa,Ag,Ad hk,Af,e2,Af]
theorem Ur {p q:List Tag} (hs:RTags false h [.sl 2 a p.length c] p F) (hs':RTags false h [.sl 2 a' q.length c'] q F') (hp:p.length=4) (hq:q.length=4) (hl:lo≤h.length) :
  ∃ q5 a5 c5 h' F5,Ae lo 327 [.agg [.sl 2 a p.length c],.agg [.sl 2 a' q.length c']] h=some (.agg [.sl q5 a5 (Jk p q).length c5],h')∧RTags false h' [.sl q5 a5 (Jk p q).length c5] (Jk p q) F5∧Mv h [] h' F5:=by
 have hj:(Jk p q).length=4:=by unfold Jk;rw[List.length_zipWith];omega
 obtain ⟨q5,a5,c5,h',F5,e,r,m⟩:=Dp (El:=flat Tag.cs) CK (h:=h) (l:=Jk p q) (f:=id) (lo:=lo) (R:=2) (e:=29) (bytes:=16) hl (by decide) (by omega)
  (fun i q5 a1 n1 c1 hh=>C8 lo (i:Nat) a p.length c a' q.length c' 0 none 0 (some 0) q5 a1 n1 c1 hh) (fun i hi q5 a1 n1 c1 hh hm=>by
   obtain ⟨o,ha,ho⟩:=(hm.keep0 rtags_ok hs).get (show i<p.length by omega);obtain ⟨o',ha',ho'⟩:=(hm.keep0 rtags_ok hs').get (show i<q.length by omega);have hji:(Jk p q)[i]=JK p[i] q[i]:=List.getElem_zipWith;refine ⟨[Iv (JK p[i] q[i]).time,Iv (JK p[i] q[i]).place],[],hh ++ [.rows 2 29 false [[Iv (JK p[i] q[i]).time,Iv (JK p[i] q[i]).place]]],⟨by rw[id,hji];rfl,rfl⟩,Mv.snoc,?_⟩;rw[C8.e,Ak (by omega),Ad (show i<p.length by omega),ha,Af,A7,ho,Af,Ab,Aa,Ab,Aa,Ag,Ad (show i<q.length by omega),ha',Af,ho',Af,Ab,Aa,Ab,Aa,Ag,PJ,Ac,AC,Ab,Aa,Ab,Aa,Ag,AZ,Am (by omega)])
 rw[List.map_id] at r;refine ⟨q5,a5,c5,h',F5,RO ?_,r,m⟩;refine e.trans ?_;rw[C8.e,Ai (by omega)]
end
section
variable {lo:Nat}{h h':Heap}{w:World}{a1 a2 a3 a4 a:Pq}{c1 c2 c3 c4 c:Nq}{F1 F2 F3 F4:List Nat}
theorem EA {d:Done} (H:WR lo h w a1 c1 a2 c2 a3 c3 a4 c4 F1 F2 F3 F4) (h80:w.hist.length≤1000) :
  ∃ a5 c5 h' G,Ae lo 325 [.agg (w.cs a1 c1 a2 c2 a3 c3 a4 c4),Iv d.sess,Iv d.kind,Iv d.key,.agg [Iv d.tag.time,Iv d.tag.place]] h=some (.agg ((World.mk w.places w.sess w.net (w.hist ++ [d])).cs a1 c1 a2 c2 a3 c3 a5 c5),h') ∧
   WR lo h' ⟨w.places,w.sess,w.net,w.hist ++ [d]⟩ a1 c1 a2 c2 a3 c3 a5 c5 F1 F2 F3 G∧Mv h (F1++(F2++(F3++F4))) h' (F1++(F2++(F3++G)))∧∀ y∈F1,h'[y]?=h[y]?:=by
 obtain ⟨⟨n1,n2,n3,n4⟩,_,_,d14,_⟩:=Sq H.nd;obtain ⟨a6,c6,h6,F6,e6,r6,m6⟩:=D9 (lo:=lo) (bytes:=40) (e:=174) (El:=flat Done.cs) CK H.r4 (row:=d.cs) (x:=d) (G := []) (h1:=h ++ [.rows 5 174 false [d.cs]])
  ⟨rfl,rfl⟩ Mv.snoc n4 (fun y hy=>H.ge y (by simp[hy])) H.hl (by decide) (by omega)
 have hnl:(w.hist ++ [d]).length=w.hist.length+1:=by simp
 rw[← hnl] at r6 e6;obtain ⟨q,mq⟩:=H.up4 m6 r6;refine ⟨a6,c6,h6,F6,Rq ?_,q,mq,fun y hy=>m6.fr y (H.lt.1 y hy) (d14 y hy)⟩;simp only[Done.cs] at e6;rw[AZ,e6,Ah]
theorem WR.sess (H:WR lo h w a1 c1 a2 c2 a3 c3 a4 c4 F1 F2 F3 F4) {k:Nat} (hk:k<w.sess.length):∃ b i v b1 d1 G,a2=some (b,i) ∧
  ld h b (i+k) 0 5=some [Iv w.sess[k].place,v,Iv w.sess[k].wait.time,Iv w.sess[k].wait.place,Iv w.sess[k].key]∧ld h b (i+k) 1 1=some [v]∧ld h b (i+k) 2 1=some [Iv w.sess[k].wait.time] ∧
  (∀ {R':Type} (K:Pq→Nat→Nq→Option R'),eS 2 v K=K b1 w.sess[k].past.length d1)∧RTags false h [.sl 2 b1 w.sess[k].past.length d1] w.sess[k].past G∧RTags false h [v] w.sess[k].past G∧G.Nodup ∧
  ∀ h1 G1 j cs row' s',Mv h G h1 G1→paste [Iv w.sess[k].place,v,Iv w.sess[k].wait.time,Iv w.sess[k].wait.place,Iv w.sess[k].key] j cs=some row'→RSess false h1 row' s' G1 →
   ∃ h2 F2',st lo h1 b (i+k) j cs=some h2∧WR lo h2 ⟨w.places,w.sess.set k s',w.net,w.hist⟩ a1 c1 a2 c2 a3 c3 a4 c4 F1 F2' F3 F4∧Mv h (F1++(F2++(F3++F4))) h2 (F1++(F2'++(F3++F4)))∧∀ y∈F1,h2[y]?=h[y]?:=by
 obtain ⟨⟨_,n2,_,_⟩,d12,_⟩:=Sq H.nd;obtain ⟨b,i,rs,row,G,ha,hbF,hbG,hb,hrow,hel,hGF,hGn,_,put⟩:=Sli.at (lo:=lo) Jd H.r2 hk n2 (fun y hy=>H.ge y (by simp[hy]));obtain ⟨v,rfl,hv⟩:=hel;obtain ⟨b1,d1,es,hv'⟩:=hv.form;refine ⟨b,i,v,b1,d1,G,ha,by rw[BB hb hrow];exact HW rfl,by rw[BB hb hrow];rfl,by rw[BB hb hrow];rfl,es,hv',hv,hGn,fun h1 G1 j cs row' s' m hp hx=>?_⟩;obtain ⟨h2,F',e,r,m2,_⟩:=put h1 G1 j cs row' s' m hp hx;have hlen:(w.sess.set k s').length=w.sess.length:=by simp
 rw[← hlen] at r;obtain ⟨q1,q2⟩:=H.up2 m2 r;exact ⟨h2,F',e,q1,q2,fun y hy=>m2.fr y (H.lt.1 y hy) (d12 y hy)⟩
theorem WR.wait (H:WR lo h w a1 c1 a2 c2 a3 c3 a4 c4 F1 F2 F3 F4) {k:Nat} (hk:k<w.sess.length) (t:Tag) (key:Int) :
  ∃ h' F2',(∀ {T:Type} (K:Heap→Option T),(Ap (k:Nat) w.sess.length (eO a2 fun v=>eO (st lo h v.1 (v.2+k) 2 [Iv t.time,Iv t.place]) fun v=>Ap (k:Nat) w.sess.length (eO a2 fun p=>eO (st lo v p.1 (p.2+k) 4 [Iv key]) K)))=K h') ∧
   WR lo h' ⟨w.places,w.sess.set k ⟨w.sess[k].place,w.sess[k].past,t,key⟩,w.net,w.hist⟩ a1 c1 a2 c2 a3 c3 a4 c4 F1 F2' F3 F4∧Mv h (F1++(F2++(F3++F4))) h' (F1++(F2'++(F3++F4))):=by
 obtain ⟨b,i,v,b1,d1,G,ha,_,_,_,es,hv',hv,hGn,put⟩:=H.sess hk;obtain ⟨h2,F5,e2,q2,m2,_⟩:=put h G 2 [Iv t.time,Iv t.place] [Iv w.sess[k].place,v,Iv t.time,Iv t.place,Iv w.sess[k].key] ⟨w.sess[k].place,w.sess[k].past,t,w.sess[k].key⟩ (Mv.refl hGn) rfl ⟨v,rfl,hv⟩;have hk2:k<(w.sess.set k ⟨w.sess[k].place,w.sess[k].past,t,w.sess[k].key⟩).length:=by simpa using hk
 obtain ⟨b',i',v',b1',d1',G',ha',_,_,_,es2,hv2',hv2,hGn2,put2⟩:=q2.sess hk2;simp only[zc3] at hv2 put2;obtain ⟨h3,F6,e3,q3,m3,_⟩:=put2 h2 G' 4 [Iv key] [Iv w.sess[k].place,v',Iv t.time,Iv t.place,Iv key] ⟨w.sess[k].place,w.sess[k].past,t,key⟩ (Mv.refl hGn2) rfl ⟨v',rfl,hv2⟩;rw[ha] at ha';injection ha' with ha';injection ha' with x1 x2;subst x1;subst x2;refine ⟨h3,F6,fun K=>?_,by simpa using q3,m2.trans m3⟩;rw[Ad hk,ha,Af,e2,Af,Ad hk,Af,e3,Af]
theorem WR.past (H:WR lo h w a1 c1 a2 c2 a3 c3 a4 c4 F1 F2 F3 F4) {k:Nat} (hk:k<w.sess.length) {h1:Heap}{G1:List Nat} (m:Mv h [] h1 G1) {q n:Nat} (r:RTags false h1 [.sl q a n c] l G1) :
  ∃ h' F2',(∀ {T:Type} (K:Heap→Option T),(Ap (k:Nat) w.sess.length (eO a2 fun v=>eO (st lo h1 v.1 (v.2+k) 1 [.sl q a n c]) K))=K h') ∧
   WR lo h' ⟨w.places,w.sess.set k ⟨w.sess[k].place,l,w.sess[k].wait,w.sess[k].key⟩,w.net,w.hist⟩ a1 c1 a2 c2 a3 c3 a4 c4 F1 F2' F3 F4∧Mv h (F1++(F2++(F3++F4))) h' (F1++(F2'++(F3++F4)))∧∀ y∈F1,h'[y]?=h[y]?:=by
 obtain ⟨b,i,v,b1,d1,G,ha,_,_,_,es,hv',hv,hGn,put⟩:=H.sess hk;obtain ⟨h2,F5,e2,q2,m2,s2⟩:=put h1 G1 1 [.sl q a n c] [Iv w.sess[k].place,.sl q a n c,Iv w.sess[k].wait.time,Iv w.sess[k].wait.place,Iv w.sess[k].key] ⟨w.sess[k].place,l,w.sess[k].wait,w.sess[k].key⟩ (m.wide (by simp)) rfl ⟨_,rfl,r⟩;refine ⟨h2,F5,fun K=>?_,q2,m2,s2⟩;rw[Ad hk,ha,Af,e2,Af]
end


section
variable {lo:Nat}{h h':Heap}{w:World}{a1 a2 a3 a4 a:Pq}{c1 c2 c3 c4 c:Nq}{F1 F2 F3 F4:List Nat}
theorem WR.stay (H:WR lo h w a1 c1 a2 c2 a3 c3 a4 c4 F1 F2 F3 F4) {X:Option World} (hX:X=none) :
  ∃ cs' h' F',some (V.tup [.agg (w.cs a1 c1 a2 c2 a3 c3 a4 c4),.bool false],h)=some (V.tup [.agg cs',.bool X.isSome],h')∧OQ lo h' cs' (X.getD w) F'∧Mv h (F1++(F2++(F3++F4))) h' F'∧((X)=none→cs'=w.cs a1 c1 a2 c2 a3 c3 a4 c4):=by
 subst hX;exact ⟨_,h,_,rfl,H.at,Mv.refl H.nd,fun _=>rfl⟩
theorem SX {kind num key:Int}{text:ByteArray}{gone:Bool}{i:Nat} (H:WR lo h w a1 c1 a2 c2 a3 c3 a4 c4 F1 F2 F3 F4) (hg:Good w) (ht:text.size≤1048576) (hi:i<w.sess.length) :
  ∃ cs' h' F',Ae lo 276 [.agg (w.cs a1 c1 a2 c2 a3 c3 a4 c4),.agg [Iv kind,Iv (i:Nat),Iv num,Iv key,.str text,.bool gone]] h=some (.tup [.agg cs',.bool (GK w i w.sess[i] ⟨kind,(i:Nat),num,key,text,gone⟩).isSome],h') ∧
   OQ lo h' cs' ((GK w i w.sess[i] ⟨kind,(i:Nat),num,key,text,gone⟩).getD w) F'∧Mv h (F1++(F2++(F3++F4))) h' F'∧((GK w i w.sess[i] ⟨kind,(i:Nat),num,key,text,gone⟩)=none→cs'=w.cs a1 c1 a2 c2 a3 c3 a4 c4):=by
 suffices hk:∃ cs' h' F',_=some (V.tup [.agg cs',.bool (GK w i w.sess[i] ⟨kind,(i:Nat),num,key,text,gone⟩).isSome],h')∧OQ lo h' cs' ((GK w i w.sess[i] ⟨kind,(i:Nat),num,key,text,gone⟩).getD w) F'∧Mv h (F1++(F2++(F3++F4))) h' F'∧((GK w i w.sess[i] ⟨kind,(i:Nat),num,key,text,gone⟩)=none→cs'=w.cs a1 c1 a2 c2 a3 c3 a4 c4) from by obtain ⟨cs',h',F',e,hr⟩:=hk;exact ⟨cs',h',F',QK e,hr⟩
 have hso:=hg.ok.sess _ (zbO hi);obtain ⟨t1,t2,t3,t4,t5,t6⟩:=DG hso;have h80:=hg.ok.h80;obtain ⟨k,hpl⟩:∃ k:Nat,w.sess[i].place=(k:Int):=⟨w.sess[i].place.toNat,by omega⟩;have hk:k<w.places.length:=by have:=hg.ok.p3;omega
 obtain ⟨hpo,hme,hro⟩:=hg.at hk;have hn:=(Fe (Cg hpo) (by decide) (by decide) (by decide)).1;have hX:GK w i w.sess[i] ⟨kind,(i:Nat),num,key,text,gone⟩=bif !decide (w.sess[i].wait.time>0)&&(Br w.places[k] key text gone w.sess[i].past&&D6 w 1) then
   some (setS (setP w k (I9 w.places[k] key text gone w.sess[i].past).1) i ⟨w.sess[i].place,w.sess[i].past,(I9 w.places[k] key text gone w.sess[i].past).2,key⟩ [⟨i,1,key,(I9 w.places[k] key text gone w.sess[i].past).2⟩]) else none:=by
  unfold GK;rw[hpl,A7,Dd hk]
 obtain ⟨b',i',v,e1',d1',Gs,rfl,hld',_,_,es',hv',_,hGn,puts⟩:=H.sess hi;obtain ⟨b,j,s1,s2,s3,b1,d1,b2,d2,b3,d3,G1,G2,G3,rfl,hld,_,_,e1,e2,e3,g1,g2,g3,nd,hF,put⟩:=H.place hk;have hFlo:∀ y∈G1++(G2++G3),lo≤y:=fun y hy=>(hF y hy).1
 generalize hXX:GK w i w.sess[i] ⟨kind,(i:Nat),num,key,text,gone⟩=X at hX;rw[Ad hi,Af,A7,hld',Af,Ab,Aa,Ab,es',Ab,Aa,Ab,Aa,Ab,Aa,Ag,hpl,Ad hk,Af,A7,hld,Af,Ab,Aa,Ab,Aa,Ab,e1,Ab,e2,Ab,e3,Ab,Aw,Ag];by_cases hw:w.sess[i].wait.time>0
 ·rw[Ak hw];exact H.stay (by rw[hX,decide_eq_true hw];rfl)
 rw[Ai hw,By,Ac,Av];rw[decide_eq_false hw,zcR,zb8] at hX;cases hwk:Al key 0 3 with
 | false=>rw[Au];exact H.stay (by rw[hX];unfold Br;rw[hwk];rfl)
 | true =>
 rw[An,Lf ht,Ac,Av];cases hto:DY text with
 | false=>rw[Au];exact H.stay (by rw[hX];unfold Br;rw[hwk,hto];rfl)
 | true =>
 rw[An];have ec:=VI (lo:=lo) (a2:=b2) (c2:=d2) (a3:=b3) (c3:=d3) g1 hv' hpo t2 hn;simp only[Place.cs] at ec;have fin:Br w.places[k] key text gone w.sess[i].past=true→D6 w 1=true→X=some ⟨w.places.set k (BL (IC w.places[k] 0 (Bp w.places[k] w.sess[i].past) (GQ w.places[k] key text gone w.sess[i].past))),w.sess.set i ⟨w.sess[i].place,w.sess[i].past,⟨Bp w.places[k] w.sess[i].past,w.places[k].me⟩,key⟩,w.net,w.hist ++ [⟨i,1,key,⟨Bp w.places[k] w.sess[i].past,w.places[k].me⟩⟩]⟩:=fun q1 q2=>by rw[hX,q1,q2];unfold I9;rw[hpo,q1];rfl
 cases gone with
 | false =>
  rw[Au,ec,Ac,Av];cases hm:Io w.places[k] w.sess[i].past with
  | false=>rw[Au];exact H.stay (by rw[hX];unfold Br;rw[hm];simp)
  | true =>
  have hcw:Br w.places[k] key text false w.sess[i].past=true:=by unfold Br;rw[hwk,hto,t2,hm];simp
  rw[An];by_cases hh:(w.hist.length:Int)≥80
  ·rw[Ak hh];exact H.stay (by rw[hX,show D6 w 1=false from decide_eq_false (by omega),zdc];rfl)
  have hX2:=fin hcw (decide_eq_true (by omega));obtain ⟨a6,c6,h5,F5,e5,⟨_,_,_,_,_,_,_,r5⟩,m5⟩:=Mb (lo:=lo) g1 g2 g3 hv' hpo hcw nd hFlo H.hl;obtain ⟨h6,F6,e6,q6,m6⟩:=put h5 _ _ _ m5 r5 rfl;obtain ⟨h7,F7,e7,q7,m7⟩:=q6.wait hi ⟨Bp w.places[k] w.sess[i].past,w.places[k].me⟩ key;obtain ⟨a8,c8,h8,F8,e8,q8,m8,_⟩:=EA (d:=⟨i,1,key,⟨Bp w.places[k] w.sess[i].past,w.places[k].me⟩⟩) q7 (by show w.hist.length≤1000;omega);have W:=q8.at;simp only[setP,World.cs,zcd] at e7 e8 W;simp only[Place.cs] at e5 e6;rw[Ai hh,e5,Ac,Ge,Ab,AC,Ab,Aa,Ab,Aa,Ab,Ah,Ab,Ah,Ab,Ah,Ab,Aw,Ag,Ab,AC,Ab,Aa,Ab,Aa,Ag,Ag,Ad hk,Af,e6,Af];rw[e7,e8,Ac,AC,Ab,Ah,Ab,Ah,Ab,Ah,Ab,Ah,Ag,hX2];exact ⟨_,h8,_,rfl,W,(m6.trans m7).trans m8,fun g=>by first | cases g | (simp at g)⟩
 | true =>
  rw[An,Ie];cases hnt:Ej text with
  | false=>rw[Au];exact H.stay (by rw[hX];unfold Br;rw[hwk,hto,hnt];rfl)
  | true =>
  rw[An,ec,Ac,Av];cases hm:Io w.places[k] w.sess[i].past with
  | false=>rw[Au];exact H.stay (by rw[hX];unfold Br;rw[hm];simp)
  | true =>
  have hcw:Br w.places[k] key text true w.sess[i].past=true:=by unfold Br;rw[hwk,hto,t2,hm,hnt];simp
  rw[An];by_cases hh:(w.hist.length:Int)≥80
  ·rw[Ak hh];exact H.stay (by rw[hX,show D6 w 1=false from decide_eq_false (by omega),zdc];rfl)
  have hX2:=fin hcw (decide_eq_true (by omega));obtain ⟨a6,c6,h5,F5,e5,⟨_,_,_,_,_,_,_,r5⟩,m5⟩:=Mb (lo:=lo) g1 g2 g3 hv' hpo hcw nd hFlo H.hl;obtain ⟨h6,F6,e6,q6,m6⟩:=put h5 _ _ _ m5 r5 rfl;obtain ⟨h7,F7,e7,q7,m7⟩:=q6.wait hi ⟨Bp w.places[k] w.sess[i].past,w.places[k].me⟩ key;obtain ⟨a8,c8,h8,F8,e8,q8,m8,_⟩:=EA (d:=⟨i,1,key,⟨Bp w.places[k] w.sess[i].past,w.places[k].me⟩⟩) q7 (by show w.hist.length≤1000;omega);have W:=q8.at;simp only[setP,World.cs,zcd] at e7 e8 W;simp only[Place.cs] at e5 e6;rw[Ai hh,e5,Ac,Ge,Ab,AC,Ab,Aa,Ab,Aa,Ab,Ah,Ab,Ah,Ab,Ah,Ab,Aw,Ag,Ab,AC,Ab,Aa,Ab,Aa,Ag,Ag,Ad hk,Af,e6,Af];rw[e7,e8,Ac,AC,Ab,Ah,Ab,Ah,Ab,Ah,Ab,Ah,Ag,hX2];exact ⟨_,h8,_,rfl,W,(m6.trans m7).trans m8,fun g=>by first | cases g | (simp at g)⟩
end


variable {l:List UInt8}{ro:Bool}{xs:List ByteArray}{cc:Nq}
def zbz (x:UInt8):List V := [.int .u8 (x.toNat:Int)]
abbrev RBytes:Rel (List UInt8):=Sli true 1 0 (flat zbz)
structure Rd (lo:Nat) (h:Heap) (b n:Nat):Prop where
 ge:lo≤b
 ex:∃ a code c p Fc,h[b]?=some (.rows 2 176 false [[.sl 1 a code.length c,Iv ((p:Nat):Int)]])∧RBytes h [.sl 1 a code.length c] code Fc∧(∀ y∈Fc,y<lo)∧p≤n∧code.length≤1048576
section
variable {lo:Nat}{h h':Heap}{F F':List Nat}{b n:Nat}
theorem Rd.lt (r:Rd lo h b n):b<h.length:=by obtain ⟨_,a,code,c,p,Fc,hb,_⟩:=r;exact (Fh hb).1
theorem Rd.up {n':Nat} (r:Rd lo h b n) (hn:n≤n'):Rd lo h b n':=by obtain ⟨hge,a,code,c,p,Fc,hb,hc,hF,hp,hl⟩:=r;exact ⟨hge,a,code,c,p,Fc,hb,hc,hF,by omega,hl⟩
theorem Rd.keep (r:Rd lo h b n) (m:Mv h F h' F') (hb:b∉F) (hF:∀ y∈F,lo≤y):Rd lo h' b n:=by have hlt:=r.lt;obtain ⟨hge,a,code,c,p,Fc,e,hc,hFc,hp,hl⟩:=r;refine ⟨hge,a,code,c,p,Fc,by rw[m.fr b hlt hb];exact e,m.keep (Sli.ok CK) hc (fun y hy hm=>?_),hFc,hp,hl⟩;have h1:=hFc y hy;have h2:=hF y hm;omega
theorem Vx {v:Int} (h0:0≤v) (h1:v<4611686018427387904):0≤IntKind.i64.wrap (((BitVec.ofInt IntKind.i64.bits v ^^^ BitVec.ofInt IntKind.i64.bits (IntKind.i64.wrap (v.tdiv 64))).toNat:Nat):Int):=by
 obtain ⟨k,rfl⟩:∃ k:Nat,v=(k:Int):=⟨v.toNat,by omega⟩;have hd:((k:Nat):Int).tdiv 64=((k / 64:Nat):Int):=rfl;rw[hd,wr (n:=((k / 64:Nat):Int)) (by omega) (by omega)];have hb:IntKind.i64.bits=64:=rfl;have t:∀ q:Nat,q<4611686018427387904→(BitVec.ofInt IntKind.i64.bits ((q:Nat):Int)).toNat=q:=fun q hq=>by rw[BitVec.toNat_ofInt,hb];omega
 have hx:(BitVec.ofInt IntKind.i64.bits ((k:Nat):Int) ^^^ BitVec.ofInt IntKind.i64.bits ((k / 64:Nat):Int)).toNat<2 ^ 62:=by rw[BitVec.toNat_xor,t k (by omega),t (k / 64) (by omega)];exact Nat.xor_lt_two_pow (by omega) (by omega)
 generalize (BitVec.ofInt IntKind.i64.bits ((k:Nat):Int) ^^^ BitVec.ofInt IntKind.i64.bits ((k / 64:Nat):Int)).toNat=w at hx;rw[wr (by omega) (by omega)];omega
theorem RBytes.get {a:Pq}{c:Nq}{m k:Nat} (hs:RBytes h [.sl 1 a m c] l F) (hk:k<l.length):∃ o,a=some o∧ld h o.1 (o.2+k) 0 1=some [.int .u8 (l[k].toNat:Int)]:=by obtain ⟨o,row,G,h1,h2,⟨rfl,_⟩,_⟩:=hs.read hk;exact ⟨o,h1,by rw[h2];rfl⟩
theorem pick (r:Rd lo h b n) (hn:n≤1000000) (m:Int):∃ (x:Int) (h':Heap),Ae lo 66 [.ptr (some (b,(0,0))),Iv m] h=some (Iv x,h')∧0≤x∧(0<m→x<m)∧Rd lo h' b (n+1)∧Mv h [b] h' [b]:=by
 obtain ⟨hge,a,code,c,p,Fc,hb,hc,hFc,hp,hcl⟩:=r;have hblt:=(Fh hb).1;have e1:ld h b 0 (0+1) 1=some [Iv ((p:Nat):Int)]:=by rw[BB hb rfl];rfl
 have e2:=DA hb hge (r:=0) (j:=0+1) (cs := [Iv ((p+1:Nat):Int)]) (row' := [.sl 1 a code.length c,Iv ((p+1:Nat):Int)]) rfl rfl;generalize hh1:h.set b (Blk.rows 2 176 false (List.set [[V.sl 1 a code.length c,Iv ((p:Nat):Int)]] 0 [V.sl 1 a code.length c,Iv ((p+1:Nat):Int)]))=h1 at e2;have hb1:h1[b]?=some (.rows 2 176 false [[.sl 1 a code.length c,Iv ((p+1:Nat):Int)]]):=by rw[← hh1];simp[hblt]
 have m1:Mv h [b] h1 [b]:=⟨by rw[← hh1];simp,fun y hy hF=>by rw[← hh1];exact zbU (fun e=>hF (by simp[e])),by simp,fun y hy => .inl hy⟩;have hc1:RBytes h1 [.sl 1 a code.length c] code Fc:=m1.keep (Sli.ok CK) hc (fun y hy hm=>by
  rw[zbW] at hm;have:=hFc y hy;omega)
 suffices hk:∃ x:Int,_=some (Iv x,h1)∧0≤x∧(0<m→x<m) from by obtain ⟨x,e,g1,g2⟩:=hk;exact ⟨x,h1,MR e,g1,g2,⟨hge,a,code,c,p+1,Fc,hb1,hc1,hFc,by omega,hcl⟩,m1⟩
 rw[e1,Af,Ab,Ag,Aa,Am (by omega),e2,Af];by_cases hm:m<1
 ·rw[Ak hm];exact ⟨0,rfl,zdw _,fun h=>by omega⟩
 ·have l0:ld h1 b 0 (0+0) 1=some [.sl 1 a code.length c]:=by rw[BB hb1 rfl];rfl
  have l1:ld h1 b 0 (0+1) 1=some [Iv ((p+1:Nat):Int)]:=by rw[BB hb1 rfl];rfl
  have tm:∀ z:Int,0≤z→∃ x:Int,some (Iv (z.tmod m),h1)=some (Iv x,h1)∧0≤x∧(0<m→x<m):=fun z hz=>⟨_,rfl,Int.tmod_nonneg m hz,fun h=>by rw[Int.tmod_eq_emod_of_nonneg hz];exact Int.emod_lt_of_pos z h⟩
  have w1:IntKind.i64.wrap (((p+1:Nat):Int) - 1)=((p:Nat):Int):=by rw[wr (by omega) (by omega)];omega
  rw[Ai hm,l0,Af,Ab,Ag,Ah];by_cases h0:code.length=0
  ·rw[show (((code.length:Nat):Int)==0)=true by rw[beq_iff_eq];omega,An];exact ⟨0,rfl,zdw _,fun h=>by omega⟩
  ·rw[show (((code.length:Nat):Int)==0)=false by rw[beq_eq_false_iff_ne];omega,Au,l1,Af,Ab,Ag,Aa,Af,Ab,Ag,Ah,w1];by_cases hpc:p<code.length
   ·obtain ⟨o,ha,hld⟩:=hc1.get hpc;have hbt:code[p].toNat<256:=code[p].toNat_lt;rw[Ak (by omega),Af,Ab,Ag,Ah,Ad hpc,ha,Af,A7,hld,Af,Ab,Ag,Aa,Ff (by omega),wr (by omega) (by omega)];exact tm _ (by omega)
   ·have hk1:p % code.length<code.length:=Nat.mod_lt _ (by omega);have hk2:(p*7+3) % code.length<code.length:=Nat.mod_lt _ (by omega);obtain ⟨o,ha,hld⟩:=hc1.get hk1;obtain ⟨o',ha',hld'⟩:=hc1.get hk2;have ho:o'=o:=by rw[ha] at ha';injection ha' with e;exact e.symm
    subst ho;have hb1:code[p % code.length].toNat<256:=UInt8.toNat_lt _;have hb2:code[(p*7+3) % code.length].toNat<256:=UInt8.toNat_lt _;have t1:((p:Nat):Int).tmod ((code.length:Nat):Int)=((p % code.length:Nat):Int):=rfl;have t2:IntKind.i64.wrap (IntKind.i64.wrap (((p:Nat):Int)*7)+3)=((p*7+3:Nat):Int):=by rw[wr (n:=((p:Nat):Int)*7) (by omega) (by omega),wr (by omega) (by omega)];omega
    have t3:((p*7+3:Nat):Int).tmod ((code.length:Nat):Int)=(((p*7+3) % code.length:Nat):Int):=rfl;have t4:((p:Nat):Int).tdiv ((code.length:Nat):Int)=((p / code.length:Nat):Int):=rfl;have hdv:p / code.length≤p:=Nat.div_le_self _ _;rw[Ai (by omega),Af,Ab,Ag,Ah,Af,Ab,Ag,Ah,Ff (by omega),t1,Ad hk1,ha,Af,A7,hld,Af,Ab,Ag,Aa,Af,Ab,Ag,Ah,Af,Ab,Ag,Ah,Ff (by omega),t2,t3,Ad hk2,Af,A7,hld',Af,Ab,Ag,Aa,Af,Ab,Ag,Ah,Ff (by omega),Ff (by omega),t4];generalize code[p % code.length].toNat=B1 at hb1;generalize code[(p*7+3) % code.length].toNat=B2 at hb2;generalize p / code.length=D at hdv;rw[wr (n:=((B1:Nat):Int)) (by omega) (by omega),wr (n:=((B2:Nat):Int)) (by omega) (by omega),wr (n:=((B1:Nat):Int)*131) (by omega) (by omega),wr (n:=((B2:Nat):Int)*1117) (by omega) (by omega),wr (n:=((B1:Nat):Int)*131+((B2:Nat):Int)*1117) (by omega) (by omega),
     wr (n:=((p:Nat):Int)*29) (by omega) (by omega),wr (n:=((B1:Nat):Int)*131+((B2:Nat):Int)*1117+((p:Nat):Int)*29) (by omega) (by omega),wr (n:=((D:Nat):Int)) (by omega) (by omega),wr (n:=((D:Nat):Int)*53) (by omega) (by omega),wr (n:=((B1:Nat):Int)*131+((B2:Nat):Int)*1117+((p:Nat):Int)*29+((D:Nat):Int)*53) (by omega) (by omega)]
    exact tm _ (Vx (by omega) (by omega))
theorem Im {c e:Nat}{xs:List Int}{rows:List (List V)}{len:Nat} (r:Rd lo h b n) (hn:n≤1000000) (hc:h[c]?=some (.rows 1 e ro rows)) (hcb:c≠b) (hr:rows=xs.map fun x => [Iv x]) (hl:len=xs.length) (h0:0<len) :
  ∃ (x:Int) (h':Heap),Ae lo 67 [.ptr (some (b,(0,0))),.sl 1 (some (c,0)) len cc] h=some (Iv x,h')∧x∈xs∧Rd lo h' b (n+1)∧Mv h [b] h' [b]:=by
 obtain ⟨x,h1,e1,g1,g2,r1,m1⟩:=pick r hn ((len:Nat):Int);have hlt:=(Fh hc).1;obtain ⟨k,rfl⟩:∃ k:Nat,x=(k:Int):=⟨x.toNat,by omega⟩;have hk:k<xs.length:=by have:=g2 (by omega);omega
 have hc1:h1[c]?=some (.rows 1 e ro rows):=by rw[m1.fr c hlt (by simpa using hcb)];exact hc
 refine ⟨xs[k],h1,NX ?_,zbO hk,r1,m1⟩;rw[e1,Ac,Aa,Ad (by omega),Af,A7,zcl,BB hc1 (i:=k) (row := [Iv xs[k]]) (by rw[hr,zdh,Dd hk];rfl)];rfl
theorem ZT {c e:Nat}{rows:List (List V)}{len:Nat} (r:Rd lo h b n) (hn:n≤1000000) (hc:h[c]?=some (.rows 1 e ro rows)) (hcb:c≠b) (hr:rows=xs.map fun x => [.str x]) (hl:len=xs.length) (h0:0<len) :
  ∃ (x:ByteArray) (h':Heap),Ae lo 108 [.ptr (some (b,(0,0))),.sl 1 (some (c,0)) len cc] h=some (.str x,h')∧x∈xs∧Rd lo h' b (n+1)∧Mv h [b] h' [b]:=by
 obtain ⟨x,h1,e1,g1,g2,r1,m1⟩:=pick r hn ((len:Nat):Int);have hlt:=(Fh hc).1;obtain ⟨k,rfl⟩:∃ k:Nat,x=(k:Int):=⟨x.toNat,by omega⟩;have hk:k<xs.length:=by have:=g2 (by omega);omega
 have hc1:h1[c]?=some (.rows 1 e ro rows):=by rw[m1.fr c hlt (by simpa using hcb)];exact hc
 refine ⟨xs[k],h1,OZ ?_,zbO hk,r1,m1⟩;rw[e1,Ac,Aa,Ad (by omega),Af,A7,zcl,BB hc1 (i:=k) (row := [.str xs[k]]) (by rw[hr,zdh,Dd hk];rfl)];rfl
theorem DV {e:Nat} (xs:List Int) {rows:List (List V)}{len:Nat} (r:Rd lo h b n) (hn:n≤1000000) (hr:rows=xs.map fun x => [Iv x]) (hl:len=xs.length) (h0:0<len) :
  ∃ (x:Int) (h':Heap),Ae lo 67 [.ptr (some (b,(0,0))),.sl 1 (some (h.length,0)) len cc] (h ++ [.rows 1 e false rows])=some (Iv x,h')∧x∈xs∧Rd lo h' b (n+1)∧Mv h [b] h' [b]:=by
 have m0:Mv h [b] (h ++ [.rows 1 e false rows]) [b]:=Mv.snoc' (by simp);have hlt:=r.lt;obtain ⟨x,h',e1,g1,r1,m1⟩:=Im (h:=h ++ [Blk.rows 1 e false rows]) (c:=h.length) (e:=e) (ro:=false) (xs:=xs) (cc:=cc) (r.keep (F := []) (F' := []) Mv.snoc (by simp) (by simp)) hn (by simp) (by omega) hr hl h0;exact ⟨x,h',e1,g1,r1,m0.trans m1⟩
theorem R4 {e:Nat} (xs:List ByteArray) {rows:List (List V)}{len:Nat} (r:Rd lo h b n) (hn:n≤1000000) (hr:rows=xs.map fun x => [.str x]) (hl:len=xs.length) (h0:0<len) :
  ∃ (x:ByteArray) (h':Heap),Ae lo 108 [.ptr (some (b,(0,0))),.sl 1 (some (h.length,0)) len cc] (h ++ [.rows 1 e false rows])=some (.str x,h')∧x∈xs∧Rd lo h' b (n+1)∧Mv h [b] h' [b]:=by
 have m0:Mv h [b] (h ++ [.rows 1 e false rows]) [b]:=Mv.snoc' (by simp);have hlt:=r.lt;obtain ⟨x,h',e1,g1,r1,m1⟩:=ZT (h:=h ++ [Blk.rows 1 e false rows]) (c:=h.length) (e:=e) (ro:=false) (xs:=xs) (cc:=cc) (r.keep (F := []) (F' := []) Mv.snoc (by simp) (by simp)) hn (by simp) (by omega) hr hl h0;exact ⟨x,h',e1,g1,r1,m0.trans m1⟩
theorem NI {α β:Type}:∀ (l:List α),(l.map fun _=>([]:List β)).flatten = []
 | []=>rfl
 | _ :: l=>by simp[NI l]
theorem Sm {a:Pq}{c:Nq} (hs:RBytes h [.sl 1 a l.length c] l F) (hF:∀ y∈F,y<lo) (hlo:lo≤h.length) (hl:l.length≤1048576) (hcap:∀ k,c=some k→l.length≤k) :
  ∃ (b:Nat) (h':Heap),Ae lo 64 [.sl 1 a l.length c] h=some (.ptr (some (b,(0,0))),h')∧Rd lo h' b 0∧Mv h [] h' [b]:=by
 refine ⟨h.length,?_⟩;suffices hk:∃ h',_=some (V.ptr (some (h.length,(0,0))),h')∧Rd lo h' h.length 0∧Mv h [] h' [h.length] from by obtain ⟨h',e,g⟩:=hk;exact ⟨h',QS e,g⟩
 by_cases h2:l.length>2000
 ·have hre:∀ {T:Type} (K:Pq→Nat→Nq→Option T),As a l.length c none (some (Iv 2000)) none K=K a 2000 c:=fun K=>by
   unfold As EC HT IG;cases c with
   | none=>simp only[Aa];rw[Cj ⟨by omega,by omega⟩];rfl
   | some k=>have:=hcap k rfl;simp only[Aa];rw[Cj ⟨by omega,by omega⟩];rfl
  have ht:RBytes h [.sl 1 a (l.take 2000).length c] (l.take 2000) F:=by
   obtain ⟨R',a',c',e,hR,hh⟩:=hs;injection e with e _;injection e with e0 e1 e2 e3;subst e1;subst e3;refine ⟨1,a,c,rfl,rfl,?_⟩;rcases hh with ⟨g,_⟩ | ⟨b,i,rs,Fs,g0,g1,g2,g3,g4⟩
   ·rw[g] at h2;simp at h2
   ·have hfl:=EAll.of_flat g3;refine .inr ⟨b,i,rs,(l.take 2000).map fun _ => [],g0,g1,by simp;omega,?_,?_⟩
    ·have:(rs.drop i).take (l.take 2000).length=(l.take 2000).map zbz:=by rw[List.map_take,← hfl.1,List.take_take];congr 1;simp
     rw[this];exact EAll.flat
    ·rw[g4,hfl.2,NI]
  have hlen:(l.take 2000).length=2000:=by simp;omega
  rw[Ak (by omega),hre];refine ⟨_,rfl,⟨hlo,a,l.take 2000,c,0,F,?_,(Mv.snoc (t := [_])).keep0 (Sli.ok CK) ht,hF,zbR _,by omega⟩,Mv.last⟩;rw[hlen];simp
 ·rw[Ai (by omega)];exact ⟨_,rfl,⟨hlo,a,l,c,0,F,by simp,(Mv.snoc (t := [_])).keep0 (Sli.ok CK) hs,hF,zbR _,hl⟩,Mv.last⟩
end


variable {h1 h2:Heap}{α:Type}{l:List α}{El:Rel α}
theorem Mv.draw {h:Heap}{A F1 F2:List Nat}{b:Nat} (m1:Mv h A h1 (b :: F1)) (m2:Mv h1 [b] h2 (b :: F2)) (hb:∀ y∈F1,y<h1.length):Mv h A h2 (b ::(F2++F1)) :=
 m1.trans (m2.aside (G:=F1) m1.nd hb)
theorem Mv.draw0 {h:Heap}{A F1:List Nat}{b:Nat} (m1:Mv h A h1 (b :: F1)) (m2:Mv h1 [b] h2 [b]) (hb:∀ y∈F1,y<h1.length):Mv h A h2 (b :: F1):=m1.draw m2 hb
theorem Mv.draw1 {h:Heap}{A F1 F2:List Nat}{b:Nat} (m1:Mv h A h1 (b :: F1)) (m2:Mv h1 F1 h2 F2) (hb:b<h1.length):Mv h A h2 (b :: F2):=by have hn:=m1.nd;rw[zbV] at hn;exact m1.trans (m2.cons hb hn.1 hn.2)
theorem Mv.apart {h:Heap}{A F1:List Nat}{b:Nat} (m:Mv h A h1 (b :: F1)):∀ y∈F1,y ∉ [b]:=fun y hy hm=>by have hn:=m.nd;rw[zbV] at hn;rw[zbW] at hm;exact hn.1 (hm ▸ hy)
section
variable {lo:Nat}{h h':Heap}{F F':List Nat}{b n:Nat}
theorem Rd.keepF {A F1 F2:List Nat} (r:Rd lo h1 b n) (m:Mv h A h1 (b :: F1)) (m2:Mv h1 F1 h2 F2) (hF:∀ y∈F1,lo≤y):Rd lo h2 b n:=by have hn:=m.nd;rw[zbV] at hn;exact r.keep m2 hn.1 hF
theorem Px (r:Rd lo h b n) (hn:n≤900000):∃ (t:Tag) (h':Heap),Ae lo 198 [.ptr (some (b,(0,0)))] h=some (.agg t.cs,h')∧(A2 t.time t.place=true∧t.time≤9)∧Rd lo h' b (n+3)∧Mv h [b] h' [b]:=by
 obtain ⟨x,h1,e1,g1,g1',r1,m1⟩:=pick r (by omega) 3;suffices hk:∃ (t:Tag) (h':Heap),_=some (V.agg t.cs,h')∧(A2 t.time t.place=true∧t.time≤9)∧Rd lo h' b (n+3)∧Mv h [b] h' [b] from by obtain ⟨t,h',e,g⟩:=hk;exact ⟨t,h',RK e,g⟩
 rw[e1,Ac,Aa];cases hx:(x==(0:Int)) with
 | true =>rw[An];exact ⟨⟨0,0⟩,h1,rfl,⟨rfl,by show (0:Int)≤9;decide⟩,r1.up (by omega),m1⟩
 | false =>obtain ⟨y,h2,e2,g2,g2',r2,m2⟩:=pick r1 (by omega) 9;obtain ⟨z,h3,e3,g3,g3',r3,m3⟩:=pick r2 (by omega) 3;have hy:=g2' (by omega);have hz:=g3' (by omega);rw[Au,e2,Ac,Aa,e3,Ac,Aa,wr (by omega) (by omega)];exact ⟨⟨1+y,z⟩,h3,rfl,⟨by simp[A2,Al];omega,by show 1+y≤9;omega⟩,r3,(m1.trans m2).trans m3⟩
theorem KA (r:Rd lo h b n) (hn:n≤890000):∃ (t:Tag) (h':Heap),Ae lo 174 [.ptr (some (b,(0,0)))] h=some (.agg t.cs,h')∧Rd lo h' b (n+4)∧Mv h [b] h' [b]:=by
 obtain ⟨x,h1,e1,g1,g1',r1,m1⟩:=pick r (by omega) 8;suffices hk:∃ (t:Tag) (h':Heap),_=some (V.agg t.cs,h')∧Rd lo h' b (n+4)∧Mv h [b] h' [b] from by obtain ⟨t,h',e,g⟩:=hk;exact ⟨t,h',N0 e,g⟩
 rw[e1,Ac,Aa];cases hx:(x==(0:Int)) with
 | true =>obtain ⟨y,h2,e2,_,r2,m2⟩:=DV (e:=3) [0,-1,1000,999] (rows := [[Iv 0],[Iv (-1)],[Iv 1000],[Iv 999]]) (len:=4) (cc:=some 4) r1 (by omega) rfl rfl (by decide);obtain ⟨z,h3,e3,_,r3,m3⟩:=DV (e:=3) [0,1,3,-1] (rows := [[Iv 0],[Iv 1],[Iv 3],[Iv (-1)]]) (len:=4) (cc:=some 4) r2 (by omega) rfl rfl (by decide);rw[An,e2,Ac,Aa,e3,Ac,Aa];exact ⟨⟨y,z⟩,h3,rfl,r3.up (by omega),(m1.trans m2).trans m3⟩
 | false =>obtain ⟨t,h2,e2,_,r2,m2⟩:=Px r1 (by omega);simp only[Tag.cs] at e2;rw[Au,e2,Ac,AC,Ab,Aa,Ab,Aa,Ag];exact ⟨t,h2,rfl,r2,m1.trans m2⟩
theorem JO (r:Rd lo h b n) (hn:n≤900000):∃ (s:ByteArray) (h':Heap),Ae lo 262 [.ptr (some (b,(0,0)))] h=some (.str s,h')∧DY s=true∧Rd lo h' b (n+1)∧Mv h [b] h' [b]:=by
 obtain ⟨s,h1,e1,g1,r1,m1⟩:=R4 (e:=9) [⟨⟨[]⟩⟩,⟨⟨[97]⟩⟩,⟨⟨[98]⟩⟩,⟨⟨[120,35,49]⟩⟩,⟨⟨[61]⟩⟩,⟨⟨[45]⟩⟩,⟨⟨[108,111,110,103,116,101,120,116]⟩⟩,⟨⟨[122,122]⟩⟩]
  (rows := [[.str ⟨⟨[]⟩⟩],[.str ⟨⟨[97]⟩⟩],[.str ⟨⟨[98]⟩⟩],[.str ⟨⟨[120,35,49]⟩⟩],[.str ⟨⟨[61]⟩⟩],[.str ⟨⟨[45]⟩⟩],[.str ⟨⟨[108,111,110,103,116,101,120,116]⟩⟩],[.str ⟨⟨[122,122]⟩⟩]]) (len:=8) (cc:=some 8) r (by omega) rfl rfl (by decide)
 refine ⟨s,h1,QP ?_,?_,r1,m1⟩
 ·rw[e1,Ac,A8]
 ·have:∀ x∈([⟨⟨[]⟩⟩,⟨⟨[97]⟩⟩,⟨⟨[98]⟩⟩,⟨⟨[120,35,49]⟩⟩,⟨⟨[61]⟩⟩,⟨⟨[45]⟩⟩,⟨⟨[108,111,110,103,116,101,120,116]⟩⟩,⟨⟨[122,122]⟩⟩]:List ByteArray),DY x=true:=zb2.1 (by decide);exact this s g1
theorem Sli.made {cs:α→List V}{R e:Nat}{rows:List (List V)} (hr:rows=l.map cs):Sli false R e (flat cs) (h ++ [.rows R e false rows]) [.sl R (some (h.length,0)) l.length (some l.length)] l [h.length]:=by subst hr;refine ⟨R,some (h.length,0),some l.length,rfl,rfl,l.map cs,l.map fun _ => [],by simp,by simp,fun k hk=>by injection hk with hk;simp;omega,(fun hc=>(by cases hc)),?_,by rw[NI]⟩;rw[zcW,zcD (by simp)];exact EAll.flat
def Ow:List Tag := [⟨0,0⟩,⟨0,0⟩,⟨0,0⟩,⟨0,0⟩]
theorem Kh:∃ h' q,Ae lo 106 [] h=some (.agg [.sl 2 (some (q,0)) 4 (some 4)],h')∧RTags false h' [.sl 2 (some (q,0)) 4 (some 4)] Ow [q]∧Mv h [] h' [q] :=
 ⟨_,h.length,RM rfl,Sli.made (l:=Ow) rfl,Mv.last⟩
theorem Yy {v:Ver} (h1:0≤v.key∧v.key≤3) (h2:DY v.text=true) (h3:v.gone=true→Ej v.text=true) (h4:Bg v.past=true) (h5:A2 v.tag.time v.tag.place=true) (h6:∀ t∈v.past,t.time<v.tag.time) (h7:0<v.tag.time):A3 v=true:=by
 unfold A3 Hl;rw[h2,h4,h5,decide_eq_true (latest_lt.2 ⟨h7,h6⟩)];have:Al v.key 0 3=true:=by simp[Al];omega
 rw[this];cases hg:v.gone with
 | false=>rfl
 | true=>rw[h3 hg];rfl
theorem flat_drop {Fs:List (List Nat)}:(Fs.drop 1).flatten.Sublist Fs.flatten:=by
 cases Fs with
 | nil=>simp
 | cons F Fs=>simp only[List.drop_succ_cons,zcW,zck];exact List.sublist_append_right _ _
theorem Sli.behind {R e q i k m:Nat} (hs:Sli false R e El h [.sl R (some (q,i)) m (some k)] l F) (h0:0<l.length) (hnd:F.Nodup) :
  (∀ {T:Type} (K:Pq→Nat→Nq→Option T),1<k→As (some (q,i)) m (some k) (some (Iv 1)) none none K=K (some (q,i+1)) (l.drop 1).length (some (k - 1))) ∧
   ∃ F',Sli false R e El h [.sl R (some (q,i+1)) (l.drop 1).length (some (k - 1))] (l.drop 1) F'∧F'.Nodup∧∀ y∈F',y∈F:=by
 have hm:=hs.val;subst hm;obtain ⟨b',i',rs,Fs,ha,g1,g2,g3,g4,g5,rfl⟩:=hs.data h0;injection ha with ha;injection ha with e1 e2;subst e1;subst e2;obtain ⟨k1,k2⟩:=g3 k rfl;refine ⟨fun K hk=>?_,q ::(Fs.drop 1).flatten,⟨R,some (q,i+1),some (k - 1),rfl,rfl,rs,Fs.drop 1,g1,by simp;omega,fun k' hk=>?_,(fun hc=>(by cases hc)),?_,rfl⟩,?_,fun y hy=>?_⟩
 ·unfold As EC HT IG KX;simp only[Aa,zcQ];rw[Cj ⟨by omega,by omega⟩];have:Nat.beq k (Int.toNat 1)=false:=by
   cases hb:Nat.beq k (Int.toNat 1) with
   | false=>rfl
   | true =>have:=zbZ hb;have e:Int.toNat 1=1:=rfl;omega
  rw[this,Au,zcS];rfl
 ·injection hk with hk;subst hk;simp only[zcS];omega
 ·have hd:=g5.drop 1;have:((rs.drop i).take l.length).drop 1=(rs.drop (i+1)).take (l.drop 1).length:=by rw[List.drop_take,zc4,zcS]
  rw[← this];exact hd
 ·rw[zbV] at hnd ⊢;have hsub:(Fs.drop 1).flatten.Sublist Fs.flatten:=flat_drop;exact ⟨fun hm=>hnd.1 (hsub.mem hm),hnd.2.sublist hsub⟩
 ·have hsub:(Fs.drop 1).flatten.Sublist Fs.flatten:=flat_drop;rw[zb0] at hy ⊢;exact hy.imp id fun hy=>hsub.mem hy
theorem Sli.fresh_put (ok:El.Ok) {R e m k:Nat}{a:Pq}{c:Nq}{E:List Nat} (hs:Sli false R e El h [.sl R a m c] l F) (hk:k<l.length) (hnd:(F++E).Nodup) (hlo:∀ y∈F,lo≤y) :
  ∃ b i row G,a=some (b,i)∧(∃ rs,h[b]?=some (.rows R e false rs)∧rs[i+k]?=some row)∧El h row l[k] G∧(∀ y∈G,y∈F) ∧
   ∀ j cs row' x' G',paste row j cs=some row'→El h row' x' G'→G'.Nodup→(∀ y∈G',y∈G∨y∈E) →
    ∃ h2 F2,st lo h b (i+k) j cs=some h2∧Sli false R e El h2 [.sl R a m c] (l.set k x') F2∧Mv h (F++E) h2 F2:=by
 have hnd0:=hnd;rw[zbQ] at hnd0;obtain ⟨hn1,hn2,hn3⟩:=hnd0;have hbd:=(Sli.ok ok).bd _ _ _ _ hs;obtain ⟨b',i',rs,row,G,ha,hbF,hbG,hb,hrow,hel,hGF,hGn,put⟩:=hs.put ok.fr hk hn1;have hblt:=hbd b' hbF;refine ⟨b',i',row,G,ha,⟨rs,hb,hrow⟩,hel,hGF,fun j cs row' x' G' hp hx hGn' hG'=>?_⟩;have e2:=DA hb (hlo b' hbF) hrow hp;have hbG':b'∉G':=fun hm=>by
  rcases hG' b' hm with g | g
  ·exact hbG g
  ·exact hn3 b' hbF b' g rfl
 have fr2:∀ y,y≠b'→(h.set b' (.rows R e false (rs.set (i'+k) row')))[y]?=h[y]?:=fun y hy=>zbU (Ne.symm hy);obtain ⟨F2,p1,p2,p3,_⟩:=put (h.set b' (.rows R e false (rs.set (i'+k) row'))) row' x' G' (by simp[hblt]) (fun y hy hyb _=>fr2 y hyb) (ok.fr _ _ _ _ _ hx fun y hy=>fr2 y fun e=>hbG' (e ▸ hy)) hGn' (fun y hy hyF=>by
  rcases hG' y hy with g | g
  ·exact g
  ·exact absurd rfl (hn3 y hyF y g))
 refine ⟨_,F2,e2,p1,by simp,fun y hy hyF=>fr2 y fun e=>hyF (e ▸ zcf _ hbF),p3,fun y hy => .inl ?_⟩;rcases p2 y hy with g | g
 ·exact zcf _ g.1
 ·rcases hG' y g with g | g
  ·exact zcf _ (hGF y g)
  ·exact zci _ g
theorem L4 (r:Rd lo h b n) (hn:n≤800000) (hl:lo≤h.length):∃ (v:Ver) (q:Nat) (h':Heap) (F':List Nat),Ae lo 173 [.ptr (some (b,(0,0)))] h=some (.agg (v.cs (some (q,0)) (some 4)),h')∧RTags false h' [.sl 2 (some (q,0)) v.past.length (some 4)] v.past F'∧A3 v=true∧Rd lo h' b (n+20)∧Mv h [b] h' (b :: F'):=by
 obtain ⟨key,h1,e1,g1,g1',r1,m1⟩:=pick r (by omega) 4;obtain ⟨h2,q,e2,t2,m2⟩:=Kh (lo:=lo) (h:=h1);have r2:=r1.keep m2 (by simp) (by simp);obtain ⟨s,h3,e3,gs,r3,m3⟩:=JO r2 (by omega);have hb1:=r1.lt;have hbq:b≠q:=by have:=m2.new q (by simp);omega
 have m12:Mv h [b] h2 (b :: [q]):=m1.draw1 (F1 := []) m2 hb1;have t3:RTags false h3 [.sl 2 (some (q,0)) 4 (some 4)] Ow [q]:=m3.keep rtags_ok t2 (by simpa using fun e=>hbq e.symm);have hq2:∀ y ∈ [q],y<h2.length:=rtags_ok.bd _ _ _ _ t2;have m13:Mv h [b] h3 (b :: [q]):=m12.draw0 m3 hq2;have hkey:=g1' (by omega);suffices hk:∃ (v:Ver) (h':Heap) (F':List Nat),_=some (V.agg (v.cs (some (q,0)) (some 4)),h')∧RTags false h' [.sl 2 (some (q,0)) v.past.length (some 4)] v.past F'∧A3 v=true∧Rd lo h' b (n+20)∧Mv h [b] h' (b :: F') from by obtain ⟨v,h',F',e,g⟩:=hk;exact ⟨v,q,h',F',RJ e,g⟩
 rw[e1,Ac,Aa,e2,Ac,AC,Ab,Ah,Ag,e3,Ac,A8];have loop:∀ (m i:Nat) (x4:Int) (l:List Tag) (hh:Heap) (F:List Nat),m+i=4→0≤x4→x4≤9→l.length=4→(∀ t∈l,A2 t.time t.place=true∧t.time≤x4)→RTags false hh [.sl 2 (some (q,0)) 4 (some 4)] l F→Rd lo hh b (n+2+3*i)→Mv h [b] hh (b :: F) →
   ∃ (v:Ver) (h':Heap) (F':List Nat),Cx lo b 0 0 x4 ((i:Nat):Int) 0 0 0 0 none 0 (some 0) ⟨⟨[]⟩⟩ false key 0 0 (some (q,0)) 4 (some 4) s false hh=some (V.agg (v.cs (some (q,0)) (some 4)),h')∧RTags false h' [.sl 2 (some (q,0)) v.past.length (some 4)] v.past F'∧A3 v=true∧Rd lo h' b (n+20)∧Mv h [b] h' (b :: F'):=by
  intro m;induction m with
  | zero =>
   intro i x4 l hh F hi h0 h9 h4 hall ht rr mm;have hi4:i=4:=by omega
   subst hi4;obtain ⟨k1,p1,f1,u1,v1,s1,n1⟩:=pick rr (by omega) 3;obtain ⟨k2,p2,f2,u2,v2,s2,n2⟩:=pick s1 (by omega) 3;obtain ⟨k3,p3,f3,u3,v3,s3,n3⟩:=pick s2 (by omega) 6;have hFb:=rtags_ok.bd _ _ _ _ ht;have nn:=(n1.trans n2).trans n3;have t':RTags false p3 [.sl 2 (some (q,0)) 4 (some 4)] l F:=nn.keep rtags_ok ht mm.apart;have mm':=mm.draw0 nn hFb;have w1:=v1 (by omega);have w2:=v2 (by omega);have hpo:Bg l=true:=by simp only[Bg,Dm,decide_eq_true_eq,zb2];exact ⟨h4,fun t ht=>(hall t ht).1⟩
   have htg:A2 (x4+1+k1) k2=true:=by simp[A2,Al];omega
   rw[Cx.e,Ai (by omega),f1,Ac,Aa,f2,Ac,Aa,f3,Ac,Aa,wr (n:=x4+1) (by omega) (by omega),wr (n:=x4+1+k1) (by omega) (by omega)];cases k3==(0:Int) with
   | true =>rw[An];refine ⟨⟨key,⟨x4+1+k1,k2⟩,l,⟨⟨[]⟩⟩,true⟩,p3,F,by simp only[Ver.cs,h4],by simp only[h4];exact t',Yy ⟨g1,by show key≤3;omega⟩ rfl (fun _=>rfl) hpo htg (fun t ht=>?_) (by show 0<x4+1+k1;omega),s3.up (by omega),mm'⟩;have:=(hall t ht).2;show t.time<x4+1+k1;omega
   | false =>rw[Au];refine ⟨⟨key,⟨x4+1+k1,k2⟩,l,s,false⟩,p3,F,by simp only[Ver.cs,h4],by simp only[h4];exact t',Yy ⟨g1,by show key≤3;omega⟩ gs (fun hc=>by cases hc) hpo htg (fun t ht=>?_) (by show 0<x4+1+k1;omega),s3.up (by omega),mm'⟩;have:=(hall t ht).2;show t.time<x4+1+k1;omega
  | succ m ih =>
   intro i x4 l hh F hi h0 h9 h4 hall ht rr mm;have hil:i<l.length:=by omega
   obtain ⟨t,p1,f1,⟨u1,u2⟩,s1,n1⟩:=Px rr (by omega);have hFb:=rtags_ok.bd _ _ _ _ ht;have t1:RTags false p1 [.sl 2 (some (q,0)) 4 (some 4)] l F:=n1.keep rtags_ok ht mm.apart;have mm1:=mm.draw0 n1 hFb;have hnd1:=mm1.nd;rw[zbV] at hnd1;have hlo1:∀ y∈b :: F,lo≤y:=fun y hy=>mm1.ge hl (fun z hz=>by rw[zbW] at hz;subst hz;exact r.ge) y hy;have hloF:∀ y∈F,lo≤y:=fun y hy=>hlo1 y (by simp[hy]);obtain ⟨b',i',rs,row,G,ha,hbF,hbG,hbb,hrow,⟨hr1,hG⟩,hGF,hGn,_,put⟩:=Sli.at (lo:=lo) CK t1 hil hnd1.2 hloF;injection ha with ha;injection ha with z1 z2;subst z1;subst z2;subst hG;obtain ⟨h5,F5,e5,t5,m5,hb5,_,_⟩:=put p1 [] 0 [Iv t.time,Iv t.place] t.cs t Mv.nil (by rw[hr1];exact Dl rfl) ⟨rfl,rfl⟩;have l5:ld h5 q (0+i) 0 1=some [Iv t.time]:=by rw[BB hb5 (row:=t.cs) (zb9 (Fh hrow).1)];rfl
   have s5:=s1.keepF mm1 m5 hloF;have mm5:=mm1.draw1 m5 s1.lt;have hall5:∀ x,x4≤x→t.time≤x→∀ u∈l.set i t,A2 u.time u.place=true∧u.time≤x:=fun x hx1 hx2 u hu=>by
    rcases zcb hu with hu | rfl
    ·have:=hall u hu;exact ⟨this.1,by omega⟩
    ·exact ⟨u1,hx2⟩
   simp only[Tag.cs] at f1;have ht0:=(DF u1).1;rw[Cx.e,Ak (by omega),f1,Ac,AC,Ab,Aa,Ab,Aa,Ag,Ad (by omega),Af,A7,e5,Af,Ad (by omega),Af,l5,Af,Ab,Ag,Aa,Am (by omega)];by_cases hc:t.time>x4
   ·rw[Ak hc,Ad (by omega),Af,l5,Af,Ab,Ag,Aa];exact ih (i+1) t.time (l.set i t) h5 F5 (by omega) ht0 u2 (by simpa using h4) (hall5 _ (by omega) (zdw _)) t5 (s5.up (by omega)) mm5
   ·rw[Ai hc];exact ih (i+1) x4 (l.set i t) h5 F5 (by omega) h0 h9 (by simpa using h4) (hall5 _ (zdw _) (by omega)) t5 (s5.up (by omega)) mm5
 exact loop 4 0 0 Ow h3 [q] rfl (zdw _) (by decide) rfl (by intro t ht;simp[Ow] at ht;subst ht;exact ⟨rfl,zdw _⟩) t3 (r3.up (by omega)) m13
end


variable {l:List Ver}
section
variable {lo:Nat}{h h':Heap}{F F':List Nat}{b n:Nat}
theorem Mv.thin {A F1 F2:List Nat}{h1:Heap} (m:Mv h A h1 (b :: F1)) (hn:F2.Nodup) (hs:∀ y∈F2,y∈F1):Mv h A h1 (b :: F2):=by have hn1:=m.nd;rw[zbV] at hn1;refine m.lean (zbV.2 ⟨fun hm=>hn1.1 (hs b hm),hn⟩) fun y hy=>?_;rw[zb0] at hy ⊢;exact hy.imp id (hs y)
theorem Kz (r:Rd lo h b n) (hn:n≤700000) (hl:lo≤h.length):∃ (v:Ver) (a:Pq) (c:Nq) (h':Heap) (F':List Nat),Ae lo 78 [.ptr (some (b,(0,0)))] h=some (.agg (v.cs a c),h')∧RTags false h' [.sl 2 a v.past.length c] v.past F'∧(v.past.length≤4∧v.text.size≤10)∧Rd lo h' b (n+40)∧Mv h [b] h' (b :: F'):=by
 obtain ⟨v,q,h1,F1,e1,t1,hv,r1,m1⟩:=L4 r (by omega) hl;obtain ⟨x,h2,e2,g,g',r2,m2⟩:=pick r1 (by omega) 10;have hF1:=rtags_ok.bd _ _ _ _ t1;have t2:=m2.keep rtags_ok t1 m1.apart;have m12:=m1.draw0 m2 hF1;have hF2:=rtags_ok.bd _ _ _ _ t2;have hth:=II hv;have h4:v.past.length=4:=BK (AN hv).2.2.2.1;have hsz:v.past.length≤4∧v.text.size≤10:=⟨by omega,by have:=hth.2.1;omega⟩;have hlo2:∀ y∈F1,lo≤y:=fun y hy=>m12.ge hl (fun z hz=>by rw[zbW] at hz;subst hz;exact r.ge) y (by simp[hy]);have hnd2:=m12.nd;rw[zbV] at hnd2;suffices hk:∃ (v:Ver) (a:Pq) (c:Nq) (h':Heap) (F':List Nat),_=some (V.agg (v.cs a c),h')∧RTags false h' [.sl 2 a v.past.length c] v.past F'∧(v.past.length≤4∧v.text.size≤10)∧Rd lo h' b (n+40)∧Mv h [b] h' (b :: F') from by obtain ⟨v,a,c,h',F',e,gg⟩:=hk;exact ⟨v,a,c,h',F',NZ e,gg⟩
 simp only[Ver.cs] at e1;rw[e1,Ac,AC,Ab,Aa,Ab,Aa,Ab,Aa,Ab,Ah,Ab,A8,Ab,Aw,Ag,e2,Ac,Aa];cases x==(0:Int) with
 | true =>obtain ⟨k,h3,e3,_,r3,m3⟩:=DV (e:=3) [-1,4] (rows := [[Iv (-1)],[Iv 4]]) (len:=2) (cc:=some 2) r2 (by omega) rfl rfl (by decide);rw[An,e3,Ac,Aa];exact ⟨⟨k,v.tag,v.past,v.text,v.gone⟩,_,_,h3,F1,rfl,m3.keep rtags_ok t2 m12.apart,hsz,r3.up (by omega),m12.draw0 m3 hF2⟩
 | false =>
 rw[Au];cases x==(1:Int) with
 | true =>
  obtain ⟨s,h3,e3,hs,r3,m3⟩:=R4 (e:=9) [⟨⟨[97,32,98]⟩⟩,⟨⟨[116,111,111,108,111,110,103,101,114]⟩⟩,⟨⟨[10]⟩⟩] (rows := [[.str ⟨⟨[97,32,98]⟩⟩],[.str ⟨⟨[116,111,111,108,111,110,103,101,114]⟩⟩],[.str ⟨⟨[10]⟩⟩]]) (len:=3) (cc:=some 3) r2 (by omega) rfl rfl (by decide);have hs10:s.size≤10:=by have:∀ x∈([⟨⟨[97,32,98]⟩⟩,⟨⟨[116,111,111,108,111,110,103,101,114]⟩⟩,⟨⟨[10]⟩⟩]:List ByteArray),decide (x.size≤10)=true:=zb2.1 (by decide);exact of_decide_eq_true (this s hs)
  rw[An,e3,Ac,A8];exact ⟨⟨v.key,v.tag,v.past,s,v.gone⟩,_,_,h3,F1,rfl,m3.keep rtags_ok t2 m12.apart,⟨hsz.1,hs10⟩,r3.up (by omega),m12.draw0 m3 hF2⟩
 | false =>
 rw[Au];cases x==(2:Int) with
 | true =>obtain ⟨er,F3,t3,n3,s3⟩:=t2.behind (by omega) hnd2.2;rw[An,er _ (by decide)];exact ⟨⟨v.key,v.tag,v.past.drop 1,v.text,v.gone⟩,_,_,h2,F3,rfl,t3,⟨by simp;omega,hsz.2⟩,r2.up (by omega),m12.thin n3 s3⟩
 | false =>
 rw[Au];cases x==(3:Int) with
 | true =>
  obtain ⟨k,h3,e3,k1,k2,r3,m3⟩:=pick r2 (by omega) 4;have t3:=m3.keep rtags_ok t2 m12.apart;have m13:=m12.draw0 m3 hF2;have k3:=k2 (by omega);obtain ⟨f,rfl⟩:∃ f:Nat,k=(f:Int):=⟨k.toNat,by omega⟩;obtain ⟨b',i',rs,row,G,ha,hbF,hbG,hbb,hrow,⟨hr1,hG⟩,hGF,hGn,_,put⟩:=Sli.at (lo:=lo) CK t3 (show f<v.past.length by omega) hnd2.2 hlo2;injection ha with ha;injection ha with z1 z2;subst z1;subst z2;subst hG;obtain ⟨h5,F5,e5,t5,m5,hb5,_,_⟩:=put h3 [] 0 [Iv 50,Iv 1] (Tag.cs ⟨50,1⟩) ⟨50,1⟩ Mv.nil (by rw[hr1];exact Dl rfl) ⟨rfl,rfl⟩;rw[An,e3,Ac,Aa,Ad (by omega),Af,A7,e5,Af];have t5':RTags false h5 [.sl 2 (some (q,0)) (v.past.set f ⟨50,1⟩).length (some 4)] (v.past.set f ⟨50,1⟩) F5:=by rw[zcd];exact t5
  exact ⟨⟨v.key,v.tag,v.past.set f ⟨50,1⟩,v.text,v.gone⟩,some (q,0),some 4,h5,F5,by simp only[Ver.cs,zcd],t5',⟨by simp;omega,hsz.2⟩,(r3.keepF m13 m5 hlo2).up (by omega),m13.draw1 m5 r3.lt⟩
 | false =>
 rw[Au];cases x==(4:Int) with
 | true =>obtain ⟨t,h3,e3,r3,m3⟩:=KA r2 (by omega);simp only[Tag.cs] at e3;rw[An,e3,Ac,AC,Ab,Aa,Ab,Aa,Ag];exact ⟨⟨v.key,t,v.past,v.text,v.gone⟩,_,_,h3,F1,rfl,m3.keep rtags_ok t2 m12.apart,hsz,r3.up (by omega),m12.draw0 m3 hF2⟩
 | false =>
 rw[Au];cases x==(5:Int) with
 | true=>exact ⟨⟨v.key,v.tag,v.past,v.text,true⟩,_,_,h2,F1,rfl,t2,hsz,r2.up (by omega),m12⟩
 | false=>exact ⟨v,_,_,h2,F1,rfl,t2,hsz,r2.up (by omega),m12⟩
def Ib:List Ver := [T8,T8,T8,T8]
theorem RX:AH Ib=true:=by decide
theorem L1:RVer false h [Iv 0,Iv 0,Iv 0,.sl 0 none 0 (some 0),.str ⟨⟨[]⟩⟩,.bool false] T8 []:=⟨_,rfl,Sli.nil⟩
theorem PG:∃ h' q,Ae lo 309 [] h=some (.agg [.sl 6 (some (q,0)) 4 (some 4)],h')∧RVers false h' [.sl 6 (some (q,0)) 4 (some 4)] Ib [q]∧Mv h [] h' [q]:=by
 refine ⟨_,h.length,TT rfl,⟨6,some (h.length,0),some 4,rfl,rfl,[[Iv 0,Iv 0,Iv 0,.sl 0 none 0 (some 0),.str ⟨⟨[]⟩⟩,.bool false],[Iv 0,Iv 0,Iv 0,.sl 0 none 0 (some 0),.str ⟨⟨[]⟩⟩,.bool false],[Iv 0,Iv 0,Iv 0,.sl 0 none 0 (some 0),.str ⟨⟨[]⟩⟩,.bool false],[Iv 0,Iv 0,Iv 0,.sl 0 none 0 (some 0),.str ⟨⟨[]⟩⟩,.bool false]],[[],[],[],[]],by simp,by decide,fun k hk=>?_,(fun hc=>(by cases hc)),?_,rfl⟩,Mv.last⟩
 ·injection hk with hk;subst hk;exact ⟨by decide,by decide⟩
 ·exact ⟨L1,L1,L1,L1,trivial⟩
theorem VD (r:Rd lo h b n) (hn:n≤600000) (hl:lo≤h.length):∃ (l:List Ver) (q:Nat) (h':Heap) (F':List Nat),Ae lo 250 [.ptr (some (b,(0,0)))] h=some (.agg [.sl 6 (some (q,0)) l.length (some 4)],h')∧RVers false h' [.sl 6 (some (q,0)) l.length (some 4)] l F'∧AH l=true∧Rd lo h' b (n+200)∧Mv h [b] h' (b :: F'):=by
 obtain ⟨h1,q,e1,t1,m1⟩:=PG (lo:=lo) (h:=h);have r1:=r.keep m1 (by simp) (by simp);obtain ⟨x,h2,e2,g,g',r2,m2⟩:=pick r1 (by omega) 7;have m01:Mv h [b] h1 (b :: [q]):=(Mv.refl (F := [b]) (by simp)).draw1 (F1 := []) m1 r.lt;have hF1:=rvers_ok.bd _ _ _ _ t1;have t2:=m2.keep rvers_ok t1 m01.apart;have m12:=m01.draw0 m2 hF1;suffices hk:∃ (l:List Ver) (h':Heap) (F':List Nat),_=some (V.agg [.sl 6 (some (q,0)) l.length (some 4)],h')∧RVers false h' [.sl 6 (some (q,0)) l.length (some 4)] l F'∧AH l=true∧Rd lo h' b (n+200)∧Mv h [b] h' (b :: F') from by obtain ⟨l,h',F',e,gg⟩:=hk;exact ⟨l,q,h',F',OY e,gg⟩
 rw[e1,Ac,AC,Ab,Ah,Ag,e2,Ac,Aa];have loop:∀ (m:Nat) (l:List Ver) (n3:Nat) (hh:Heap) (F:List Nat),m≤6→n3=l.length→AH l=true→RVers false hh [.sl 6 (some (q,0)) n3 (some 4)] l F→Rd lo hh b (n+1+21*(6 - m))→Mv h [b] hh (b :: F) →
   ∃ (l:List Ver) (h':Heap) (F':List Nat),Cr lo b 0 0 ((m:Nat):Int) 0 none 0 (some 0) (some (q,0)) n3 (some 4) hh=some (V.agg [.sl 6 (some (q,0)) l.length (some 4)],h')∧RVers false h' [.sl 6 (some (q,0)) l.length (some 4)] l F'∧AH l=true∧Rd lo h' b (n+200)∧Mv h [b] h' (b :: F'):=by
  intro m;induction m with
  | zero =>intro l n3 hh F hm hn3 hok ht rr mm;subst hn3;rw[Cr.e,Ai (by omega)];exact ⟨l,hh,F,rfl,ht,hok,rr.up (by omega),mm⟩
  | succ m ih =>intro l n3 hh F hm hn3 hok ht rr mm;subst hn3;have hlh:lo≤hh.length:=zbN hl mm.le;obtain ⟨v,qv,h5,F5,e5,t5,hv,r5,m5⟩:=L4 rr (by omega) hlh;have hFb:=rvers_ok.bd _ _ _ _ ht;have mm5:=mm.draw m5 hFb;have hnd5:=mm5.nd;rw[zbV,zbQ] at hnd5;have ht5:RVers false h5 [.sl 6 (some (q,0)) l.length (some 4)] l F:=m5.keep rvers_ok ht mm.apart;have hlo5:∀ y∈F5++F,lo≤y:=fun y hy=>mm5.ge hl (fun z hz=>by rw[zbW] at hz;subst hz;exact r.ge) y (zcz _ hy);have h4:=AQ hok;have hkey:=(AN hv).1;obtain ⟨h6,F6,e6,t6,m6⟩:=Lq (lo:=lo) (av:=some (qv,0)) (cv:=some 4) ht5 t5 hnd5.2.2.1 (fun y hy=>hlo5 y (zci _ hy)) (zbN hlh m5.le) ⟨hkey.1,by omega⟩ (by have:=(II hv).1;omega);have hFb5:=rvers_ok.bd _ _ _ _ ht5;have hT5:=rtags_ok.bd _ _ _ _ t5;have m5F:Mv h [b] h5 (b :: F):=mm5.thin hnd5.2.2.1 fun y hy=>zci _ hy;have mm6:=m5F.draw1 m6 r5.lt;have r6:=r5.keepF m5F m6 (fun y hy=>hlo5 y (zci _ hy));simp only[Ver.cs] at e5 e6;rw[Cr.e,Ak (by omega),e5,Ac,AC,Ab,Aa,Ab,Aa,Ab,Aa,Ab,Ah,Ab,A8,Ab,Aw,Ag,e6,Ac,AC,Ab,Ah,Ag,show IntKind.wrap .i64 (((m+1:Nat):Int) - 1)=((m:Nat):Int) from by rw[wr (by omega) (by omega)];omega];exact ih (Ek l v) l.length h6 F6 (by omega) addVer_len.symm (Uh hok hv) t6 (r6.up (by omega)) mm6
 have hx:=g' (by omega);obtain ⟨k,rfl⟩:∃ k:Nat,x=(k:Int):=⟨x.toNat,by omega⟩;exact loop k Ib 4 h2 [q] (by omega) rfl RX t2 (r2.up (by omega)) m12
theorem zaW (hl:l.length≤4) (h:∀ v∈l,v.past.length≤4∧v.text.size≤10):Cy l:=⟨by omega,fun v hv=>by have:=h v hv;omega⟩
theorem Ug (h:AH l=true):l.length≤4∧∀ v∈l,v.past.length≤4∧v.text.size≤10:=by refine ⟨by rw[AQ h];exact zbR _,fun v hv=>?_⟩;obtain ⟨i,hi⟩:=zb5.1 hv;have:=SW (Hx h hi);exact ⟨this.1,by have:=this.2.1;omega⟩
theorem Rk (r:Rd lo h b n) (hn:n≤600000) (hl:lo≤h.length):∃ (l:List Ver) (a:Pq) (c:Nq) (h':Heap) (F':List Nat),Ae lo 152 [.ptr (some (b,(0,0)))] h=some (.agg [.sl 6 a l.length c],h')∧RVers false h' [.sl 6 a l.length c] l F'∧(l.length≤4∧∀ v∈l,v.past.length≤4∧v.text.size≤10)∧Rd lo h' b (n+300)∧Mv h [b] h' (b :: F'):=by
 obtain ⟨l,q,h1,F1,e1,t1,hok,r1,m1⟩:=VD r hn hl;obtain ⟨x,h2,e2,g,g',r2,m2⟩:=pick r1 (by omega) 10;have hF1:=rvers_ok.bd _ _ _ _ t1;have t2:=m2.keep rvers_ok t1 m1.apart;have m12:=m1.draw0 m2 hF1;have hF2:=rvers_ok.bd _ _ _ _ t2;have hsm:=Ug hok;have h4:=AQ hok;have hlo2:∀ y∈F1,lo≤y:=fun y hy=>m12.ge hl (fun z hz=>by rw[zbW] at hz;subst hz;exact r.ge) y (by simp[hy]);have hnd2:=m12.nd;rw[zbV] at hnd2;suffices hk:∃ (l:List Ver) (a:Pq) (c:Nq) (h':Heap) (F':List Nat),_=some (V.agg [.sl 6 a l.length c],h')∧RVers false h' [.sl 6 a l.length c] l F'∧(l.length≤4∧∀ v∈l,v.past.length≤4∧v.text.size≤10)∧Rd lo h' b (n+300)∧Mv h [b] h' (b :: F') from by obtain ⟨l,a,c,h',F',e,gg⟩:=hk;exact ⟨l,a,c,h',F',LO e,gg⟩
 rw[e1,Ac,AC,Ab,Ah,Ag,e2,Ac,Aa];cases x==(0:Int) with
 | true =>obtain ⟨er,F3,t3,n3,s3⟩:=t2.behind (by omega) hnd2.2;rw[An,er _ (by decide)];exact ⟨l.drop 1,_,_,h2,F3,rfl,t3,⟨by simp;omega,fun v hv=>hsm.2 v (zdj hv)⟩,r2.up (by omega),m12.thin n3 s3⟩
 | false =>
 rw[Au];cases x==(1:Int) with
 | true =>
  obtain ⟨k,h3,e3,k1,k2,r3,m3⟩:=pick r2 (by omega) 4;have m13:=m12.draw0 m3 hF2;have t3:=m3.keep rvers_ok t2 m12.apart;have hF3:=rvers_ok.bd _ _ _ _ t3;have k3:=k2 (by omega);obtain ⟨f,rfl⟩:∃ f:Nat,k=(f:Int):=⟨k.toNat,by omega⟩;obtain ⟨v,av,cv,h5,F5,e5,t5,hv,r5,m5⟩:=Kz r3 (by omega) (zbN hl m13.le);have m15:=m13.draw m5 hF3;have t4:=m5.keep rvers_ok t3 m13.apart;have hnd5:=m15.nd;rw[zbV] at hnd5;have hnd6:(F1++F5).Nodup:=(zcP.nodup_iff).1 hnd5.2;have m15':Mv h [b] h5 (b ::(F1++F5)):=m15.lean (zbV.2 ⟨fun hm=>hnd5.1 (by simpa [or_comm] using hm),hnd6⟩) fun y hy=>by simpa [or_comm,or_left_comm] using hy
  obtain ⟨b',i',row,G,ha,⟨rs,hb1,hb2⟩,hel,hGF,put⟩:=Sli.fresh_put (lo:=lo) (E:=F5) rver_ok t4 (show f<l.length by omega) hnd6 hlo2;injection ha with ha;injection ha with z1 z2;subst z1;subst z2;obtain ⟨sv,hrow,_⟩:=hel;obtain ⟨h6,F6,e6,t6,m6⟩:=put 0 (v.cs av cv) (v.cs av cv) v F5 (by rw[hrow];exact Dl rfl) ⟨_,rfl,t5⟩ ((zbQ.1 hnd6).2.1) (fun y hy => .inr hy);simp only[Ver.cs] at e5 e6;rw[An,e3,Ac,Aa,e5,Ac,AC,Ab,Aa,Ab,Aa,Ab,Aa,Ab,Ah,Ab,A8,Ab,Aw,Ag,Ad (by omega),Af,A7,e6,Af];have hlo5:∀ y∈F1++F5,lo≤y:=fun y hy=>m15'.ge hl (fun z hz=>by rw[zbW] at hz;subst hz;exact r.ge) y (zcz _ hy);have t6':RVers false h6 [.sl 6 (some (q,0)) (l.set f v).length (some 4)] (l.set f v) F6:=by rw[zcd];exact t6
  refine ⟨l.set f v,some (q,0),some 4,h6,F6,by rw[zcd],t6',⟨by simp;omega,fun u hu=>?_⟩,(r5.keepF m15' m6 hlo5).up (by omega),m15'.draw1 m6 r5.lt⟩;rcases zcb hu with hu | rfl
  ·exact hsm.2 u hu
  ·exact hv
 | false =>
 rw[Au];cases x==(2:Int) with
 | true =>
  obtain ⟨k,h3,e3,k1,k2,r3,m3⟩:=pick r2 (by omega) 4;have m13:=m12.draw0 m3 hF2;have t3:=m3.keep rvers_ok t2 m12.apart;have k3:=k2 (by omega);obtain ⟨f,rfl⟩:∃ f:Nat,k=(f:Int):=⟨k.toNat,by omega⟩;obtain ⟨b',i',row,G,ha,⟨rs,hb1,hb2⟩,hel,hGF,put⟩:=Sli.fresh_put (lo:=lo) (E := []) rver_ok t3 (show f<l.length by omega) (by rw[zcB];exact hnd2.2) hlo2;injection ha with ha;injection ha with z1 z2;subst z1;subst z2;obtain ⟨sv,hrow,_⟩:=hel;obtain ⟨h6,F6,e6,t6,m6⟩:=put 0 [Iv 0,Iv 0,Iv 0,.sl 0 none 0 (some 0),.str ⟨⟨[120]⟩⟩,.bool false] [Iv 0,Iv 0,Iv 0,.sl 0 none 0 (some 0),.str ⟨⟨[120]⟩⟩,.bool false] ⟨0,⟨0,0⟩,[],⟨⟨[120]⟩⟩,false⟩ [] (by rw[hrow];exact Dl rfl) ⟨_,rfl,Sli.nil⟩ (by simp) (by simp);rw[zcB] at m6;rw[An,e3,Ac,Aa,Ad (by omega),Af,A7,e6,Af];have t6':RVers false h6 [.sl 6 (some (q,0)) (l.set f ⟨0,⟨0,0⟩,[],⟨⟨[120]⟩⟩,false⟩).length (some 4)] (l.set f ⟨0,⟨0,0⟩,[],⟨⟨[120]⟩⟩,false⟩) F6:=by rw[zcd];exact t6
  refine ⟨l.set f ⟨0,⟨0,0⟩,[],⟨⟨[120]⟩⟩,false⟩,some (q,0),some 4,h6,F6,by rw[zcd],t6',⟨by simp;omega,fun u hu=>?_⟩,(r3.keepF m13 m6 hlo2).up (by omega),m13.draw1 m6 r3.lt⟩;rcases zcb hu with hu | rfl
  ·exact hsm.2 u hu
  ·exact ⟨by decide,by decide⟩
 | false=>exact ⟨l,_,_,h2,F1,rfl,t2,hsm,r2.up (by omega),m12⟩
end


variable {α:Type}{El:Rel α}{l:List α}
section
variable {lo:Nat}{h h':Heap}{F F':List Nat}{b n:Nat}
theorem Sli.at_aside (ok:El.Ok) {R e m k:Nat}{a:Pq}{c:Nq}{E:List Nat} (hs:Sli false R e El h [.sl R a m c] l F) (hk:k<l.length) (hnd:(F++E).Nodup) (hlo:∀ y∈F,lo≤y) (hE:∀ y∈E,y<h.length) :
  ∃ b i rs row G,a=some (b,i)∧b∈F∧b∉G∧h[b]?=some (.rows R e false rs)∧rs[i+k]?=some row∧El h row l[k] G∧(∀ y∈G,y∈F)∧G.Nodup ∧
   ∀ h1 G1 j cs row' x',Mv h (G++E) h1 G1→paste row j cs=some row'→El h1 row' x' G1 →
    ∃ h2 F2,st lo h1 b (i+k) j cs=some h2∧Sli false R e El h2 [.sl R a m c] (l.set k x') F2∧Mv h (F++E) h2 F2:=by
 have hnd0:=hnd;rw[zbQ] at hnd0;obtain ⟨hn1,hn2,hn3⟩:=hnd0;have hbd:=(Sli.ok ok).bd _ _ _ _ hs;obtain ⟨b',i',rs,row,G,ha,hbF,hbG,hb,hrow,hel,hGF,hGn,put⟩:=hs.put ok.fr hk hn1;have hblt:=hbd b' hbF;refine ⟨b',i',rs,row,G,ha,hbF,hbG,hb,hrow,hel,hGF,hGn,fun h1 G1 j cs row' x' m hp hx=>?_⟩;have hbE:b'∉E:=fun hm=>hn3 b' hbF b' hm rfl;have hbGE:b'∉G++E:=fun hm=>(zbP.1 hm).elim hbG hbE;have hbG1:b'∉G1:=fun hm=>by
  rcases m.sub b' hm with g | g
  ·exact hbGE g
  ·omega
 have hb1:h1[b']?=some (.rows R e false rs):=by rw[m.fr b' hblt hbGE];exact hb
 have hb1lt:b'<h1.length:=zb1 hblt m.le;have e2:=DA hb1 (hlo b' hbF) hrow hp;have fr2:∀ y,y≠b'→(h1.set b' (.rows R e false (rs.set (i'+k) row')))[y]?=h1[y]?:=fun y hy=>zbU (Ne.symm hy);obtain ⟨F2,p1,p2,p3,_⟩:=put (h1.set b' (.rows R e false (rs.set (i'+k) row'))) row' x' G1 (by simp[hb1lt]) (fun y hy hyb hyG=>by
   rw[fr2 y hyb];exact m.fr y (hbd y hy) fun hm=>(zbP.1 hm).elim hyG fun g=>hn3 y hy y g rfl)
  (ok.fr _ _ _ _ _ hx fun y hy=>fr2 y fun e=>hbG1 (e ▸ hy)) m.nd (fun y hy hyF=>by
   rcases m.sub y hy with g | g
   ·rcases zbP.1 g with g | g
    ·exact g
    ·exact absurd rfl (hn3 y hyF y g)
   ·have:=hbd y hyF;omega)
 refine ⟨_,F2,e2,p1,by simpa using m.le,fun y hy hyF=>?_,p3,fun y hy=>?_⟩
 ·rw[fr2 y fun e=>hyF (e ▸ zcf _ hbF)];exact m.fr y hy fun hm=>hyF ((zbP.1 hm).elim (fun g=>zcf _ (hGF y g)) fun g=>zci _ g)
 ·rcases p2 y hy with g | g
  ·exact .inl (zcf _ g.1)
  ·rcases m.sub y g with g | g
   ·exact .inl ((zbP.1 g).elim (fun g=>zcf _ (hGF y g)) fun g=>zci _ g)
   ·exact .inr (by simpa using g)
theorem Sli.first {R e m i:Nat}{a:Pq}{c:Nq} (hs:Sli false R e El h [.sl R a m c] l F) (hi:i≤l.length) (hnd:F.Nodup):∃ F2,Sli false R e El h [.sl R a i c] (l.take i) F2∧F2.Nodup∧∀ y∈F2,y∈F:=by
 have hm:=hs.val;subst hm;by_cases h0:l.length=0
 ·have:l = []:=zbY h0;subst this;have:i=0:=by simpa using hi
  subst this;exact ⟨F,hs,hnd,fun y hy=>hy⟩
 obtain ⟨b',i',rs,Fs,ha,g1,g2,g3,g4,g5,rfl⟩:=hs.data (k:=0) (by omega);have hs0:=hs;obtain ⟨R1,a1,c1,e1,_⟩:=hs;injection e1 with e1 _;injection e1 with e0 e2 _ e4;have hsub:(Fs.take i).flatten.Sublist Fs.flatten:=by
  conv=>{ rhs;rw[← zcw i Fs,zct] }
  exact List.sublist_append_left _ _
 rw[zbV] at hnd;refine ⟨b' ::(Fs.take i).flatten,⟨R,a,c,by simp;omega,?_⟩,zbV.2 ⟨fun hm=>hnd.1 (hsub.mem hm),hnd.2.sublist hsub⟩,fun y hy=>?_⟩
 ·subst ha;refine ⟨rfl,rs,Fs.take i,g1,by simp;omega,fun k hk=>?_,g4,?_,rfl⟩
  ·have:=g3 k hk;simp only[zcp];omega
  ·have hd:=g5.take i;rw[List.take_take] at hd;have:min i l.length=(l.take i).length:=by simp
   rw[← this];exact hd
 ·rw[zb0] at hy ⊢;exact hy.imp id fun hy=>hsub.mem hy
theorem zaZ {m:Nat} (h1:1≤m) (h4:m≤4):Ch (List.replicate m ⟨Ib,[]⟩):=by
 have get:∀ (i:Nat) (x:Node),(List.replicate m (⟨Ib,[]⟩:Node))[i]?=some x→x=⟨Ib,[]⟩:=fun i x hx=>by
  rw[List.getElem?_replicate] at hx;split at hx
  ·injection hx with hx;exact hx.symm
  ·cases hx
 refine ⟨by simpa using h1,by simpa using h4,fun i x hx=>?_,fun i x y hx hy=>?_,fun i x hx _=>?_⟩
 ·rw[get i x hx];unfold B6;simp only;rw[RX];rfl
 ·rw[get i x hx,get _ y hy];rfl
 ·rw[get i x hx]
theorem Lg {m:Nat} (h1:1≤m) (h4:m≤4) (hl:lo≤h.length):∃ v h' F',Ae lo 248 [Iv (m:Nat)] h=some (.agg [v],h')∧RNodes false h' [v] (List.replicate m ⟨Ib,[]⟩) F'∧Mv h [] h' F':=by
 obtain ⟨q,a',c',h',F',e,r,mm⟩:=Dp (El:=RNode false) rnode_ok (h:=h) (l:=List.replicate m ()) (f:=fun _=>(⟨Ib,[]⟩:Node)) (lo:=lo) (R:=2) (e:=OF false) (bytes:=48) hl (by decide) (by rw[zdg];omega)
  (fun i q a n c hh=>Cu lo ((m:Nat):Int) ((i:Nat):Int) 0 none 0 (some 0) q a n c hh) (fun i hi q a n c hh hm=>by
   rw[zdg] at hi;obtain ⟨h3,q3,e3,t3,m3⟩:=PG (lo:=lo) (h:=hh);refine ⟨[.sl 6 (some (q3,0)) 4 (some 4),.sl 0 none 0 (some 0)],[q3],h3 ++ [.rows 2 (OF false) false [[.sl 6 (some (q3,0)) 4 (some 4),.sl 0 none 0 (some 0)]]],⟨_,_,[q3],[],rfl,rfl,Mv.snoc.keep0 rvers_ok t3,Sli.nil⟩,m3.trans (Mv.snoc' m3.nd),?_⟩;rw[Cu.e,Ak (by omega),e3,Ac,AC,Ab,Ah,Ag,Am (by omega)];exact AZ)
 rw[List.map_replicate] at r;rw[zdg] at e;refine ⟨_,h',F',O5 ?_,r,mm⟩;have hw:Al ((m:Nat):Int) 1 4=true:=by simp only[Al,Dm,decide_eq_true_eq];omega
 rw[By,Ac,Av,hw,An];refine e.trans ?_;rw[Cu.e,Ai (by omega),zdg]
theorem Wz (r:Rd lo h b n) (hn:n≤500000) (hl:lo≤h.length):∃ (l:List Node) (a:Pq) (c:Nq) (h':Heap) (F':List Nat),Ae lo 151 [.ptr (some (b,(0,0)))] h=some (.agg [.sl 2 a l.length c],h')∧RNodes false h' [.sl 2 a l.length c] l F'∧Ch l∧Rd lo h' b (n+400)∧Mv h [b] h' (b :: F'):=by
 obtain ⟨x,h1,e1,g,g',r1,m1⟩:=pick r (by omega) 4;have hx:=g' (by omega);obtain ⟨k,rfl⟩:∃ k:Nat,x=(k:Int):=⟨x.toNat,by omega⟩;obtain ⟨v,h2,F2,e2,t2,m2⟩:=Lg (lo:=lo) (m:=k+1) (h:=h1) (by omega) (by omega) (zbN hl m1.le);obtain ⟨a2,c2,es2,t2⟩:=t2.form;have r2:=r1.keep m2 (by simp) (by simp);obtain ⟨y,h3,e3,g3,g3',r3,m3⟩:=pick r2 (by omega) 12;have m12:Mv h [b] h2 (b :: F2):=m1.draw1 (F1 := []) m2 r1.lt;have hF2:=rnodes_ok.bd _ _ _ _ t2;have t3:=m3.keep rnodes_ok t2 m12.apart;have m13:=m12.draw0 m3 hF2;suffices hk:∃ (l:List Node) (a:Pq) (c:Nq) (h':Heap) (F':List Nat),_=some (V.agg [.sl 2 a l.length c],h')∧RNodes false h' [.sl 2 a l.length c] l F'∧Ch l∧Rd lo h' b (n+400)∧Mv h [b] h' (b :: F') from by obtain ⟨l,a,c,h',F',e,gg⟩:=hk;exact ⟨l,a,c,h',F',O2 e,gg⟩
 rw[e1,Ac,Aa,show IntKind.wrap .i64 (1+((k:Nat):Int))=((k+1:Nat):Int) from by rw[wr (by omega) (by omega)];omega,e2,Ac,AC,Ab,es2,Ag,e3,Ac,Aa];have loop:∀ (m:Nat) (l:List Node) (a:Pq) (n3:Nat) (c:Nq) (hh:Heap) (F:List Nat),m≤11→n3=l.length→Ch l→RNodes false hh [.sl 2 a n3 c] l F→Rd lo hh b (n+2+30*(11 - m))→Mv h [b] hh (b :: F) →
   ∃ (l:List Node) (a':Pq) (c':Nq) (h':Heap) (F':List Nat),AF lo b 0 0 ((m:Nat):Int) 0 none 0 (some 0) a n3 c hh=some (V.agg [.sl 2 a' l.length c'],h')∧RNodes false h' [.sl 2 a' l.length c'] l F'∧Ch l∧Rd lo h' b (n+400)∧Mv h [b] h' (b :: F'):=by
  intro m;induction m with
  | zero =>intro l a n3 c hh F hm hn3 hch ht rr mm;subst hn3;have hsm:=JS (chain_iff.2 hch);obtain ⟨v,h5,F5,e5,t5,m5⟩:=Oj (lo:=lo) ht (zbN hl mm.le) hsm;obtain ⟨a5,c5,es5,t5⟩:=t5.form;have mm5:Mv h [b] h5 (b :: F5):=(mm.thin (F2 := []) (by simp) (by simp)).draw1 m5 rr.lt;rw[AF.e,Ai (by omega),e5,Ac,AC,Ab,es5,Ag];exact ⟨l,a5,c5,h5,F5,rfl,t5,hch,(rr.keep m5 (by simp) (by simp)).up (by omega),mm5⟩
  | succ m ih =>
   intro l a n3 c hh F hm hn3 hch ht rr mm;subst hn3;have hsm:=JS (chain_iff.2 hch);have hpos:=hch.pos;have hle:=hch.le;have hlh:lo≤hh.length:=zbN hl mm.le;obtain ⟨z,h4,e4,g4,g4',r4,m4⟩:=pick rr (by omega) 6;have hFb:=rnodes_ok.bd _ _ _ _ ht;have t4:=m4.keep rnodes_ok ht mm.apart;have mm4:=mm.draw0 m4 hFb;have hF4:=rnodes_ok.bd _ _ _ _ t4;have hl4:lo≤h4.length:=zbN hl mm4.le;have hnd4:=mm4.nd;rw[zbV] at hnd4;have hloA:∀ {hh:Heap}{F:List Nat},Mv h [b] hh (b :: F)→∀ y∈F,lo≤y:=fun mm y hy=>mm.ge hl (fun z hz=>by rw[zbW] at hz;subst hz;exact r.ge) y (by simp[hy]);have hlo4:=hloA mm4;have hw:IntKind.wrap .i64 (((m+1:Nat):Int) - 1)=((m:Nat):Int):=by rw[wr (by omega) (by omega)];omega
   have add:∃ (l':List Node) (a':Pq) (c':Nq) (h':Heap) (F':List Nat),(Aj (Ae lo 191 [.agg [.sl 2 a l.length c]] h4) fun v_17 h_18=>eB v_17 (Aj (Ae lo 173 [.ptr (some (b,(0,0)))] h_18) fun v_19 h_20=>eA v_19 fun c_21=>eC c_21 fun v_22 l_23=>eI .i64 v_22 fun n_24=>eC l_23 fun v_25 l_26=>eI .i64 v_25 fun n_27=>eC l_26 fun v_28 l_29=>eI .i64 v_28 fun n_30=>eC l_29 fun v_31 l_32=>eS 2 (v_31) fun a_33 n_34 c_35=>eC l_32 fun v_36 l_37=>eT v_36 fun s_38=>eC l_37 fun v_39 l_40=>eBv v_39 fun b_41=>eN l_40 (Aj (Ae lo 193 [.agg [.sl 2 a l.length c],Iv 0,.agg [Iv (n_24),Iv (n_27),Iv (n_30),.sl 2 a_33 n_34 c_35,.str (s_38),.bool (b_41)]] h_20) fun v_42 h_43=>eA v_42 fun c_44=>eC c_44 fun v_45 l_46=>eS 2 (v_45) fun a_47 n_48 c_49=>eN l_46 (AF lo b 0 0 (IntKind.wrap .i64 (((m+1:Nat):Int) - 1)) 0 none 0 (some 0) a_47 n_48 c_49 h_43))) (AF lo b 0 0 (IntKind.wrap .i64 (((m+1:Nat):Int) - 1)) 0 none 0 (some 0) a l.length c h_18))=some (V.agg [.sl 2 a' l'.length c'],h')∧RNodes false h' [.sl 2 a' l'.length c'] l' F'∧Ch l'∧Rd lo h' b (n+400)∧Mv h [b] h' (b :: F'):=by
    rw[Kc t4 (by omega),Ac,Av,hw];cases hroom:EW l 0 with
    | false =>rw[Au];exact ih l a _ c h4 F (by omega) rfl hch t4 (r4.up (by omega)) mm4
    | true =>obtain ⟨v,qv,h5,F5,e5,t5,hv,r5,m5⟩:=L4 r4 (by omega) hl4;have mm5:=mm4.draw m5 hF4;have ht5:=m5.keep rnodes_ok t4 mm4.apart;have hnd5:=mm5.nd;rw[zbV,zbQ] at hnd5;have hlo5:=hloA mm5;have m5F:Mv h [b] h5 (b :: F):=mm5.thin hnd5.2.2.1 fun y hy=>zci _ hy;have hst:=hch.store (Dd (show 0<l.length by omega));have hkey:=(AN hv).1;obtain ⟨h6,F6,e6,t6,m6⟩:=Lo (lo:=lo) (k:=0) (av:=some (qv,0)) (cv:=some 4) ht5 t5 (fun y hy hm=>hnd5.2.2.2 y hy y hm rfl) hnd5.2.2.1 (fun y hy=>hlo5 y (zci _ hy)) (zbN hl4 m5.le) (by omega) ⟨hkey.1,by rw[hst.2];omega⟩ hsm (by have:=(II hv).1;omega);have mm6:=m5F.draw1 m6 r5.lt;have r6:=r5.keepF m5F m6 (fun y hy=>hlo5 y (zci _ hy));rw[show (((0:Nat):Nat):Int)=(0:Int) from rfl] at e6;simp only[Ver.cs] at e5 e6;rw[An,e5,Ac,AC,Ab,Aa,Ab,Aa,Ab,Aa,Ab,Ah,Ab,A8,Ab,Aw,Ag,e6,Ac,AC,Ab,Ah,Ag];exact ih (HC l 0 v) a l.length c h6 F6 (by omega) addN_len.symm (hch.add hv hroom) t6 (r6.up (by omega)) mm6
   rw[AF.e,Ak (by omega),e4,Ac,Aa];cases z==(0:Int) with
   | true=>rw[An];exact add
   | false =>
   rw[Au];cases z==(1:Int) with
   | true=>rw[An];exact add
   | false =>
   rw[Au,hw];cases z==(2:Int) with
   | true =>
    rw[An];by_cases h2:1<l.length
    ·obtain ⟨kf,h5,e5,g5,g5',r5,m5⟩:=pick r4 (by omega) ((l.length:Nat):Int);have hkf:=g5' (by omega);obtain ⟨f,rfl⟩:∃ f:Nat,kf=(f:Int):=⟨kf.toNat,by omega⟩;have t5:=m5.keep rnodes_ok t4 mm4.apart;have mm5:=mm4.draw0 m5 hF4;obtain ⟨a6,c6,h6,F6,e6,t6,m6⟩:=Ke (lo:=lo) (k:=f) t5 (by omega) h2 (Nx (chain_iff.2 hch) (by omega)) hnd4.2 hlo4 (zbN hl4 m5.le) hsm.1 (fun x hx=>by
      obtain ⟨i,hi⟩:=zb5.1 hx;have:=KN (hch.node i x hi);exact ⟨this.1,by have:=this.2.1;omega,this.2.2⟩)
     rw[Ak (by omega),e5,Ac,Aa,e6,Ac,AC,Ab,Ah,Ag];exact ih (Bq l f) a6 _ c6 h6 F6 (by omega) rfl (hch.fall (by omega) h2) t6 ((r5.keepF mm5 m6 hlo4).up (by omega)) (mm5.draw1 m6 r5.lt)
    ·rw[Ai (by omega)];exact ih l a _ c h4 F (by omega) rfl hch t4 (r4.up (by omega)) mm4
   | false =>
   rw[Au];cases z==(3:Int) with
   | true =>
    rw[An];by_cases h4':l.length<4
    ·obtain ⟨a6,c6,h6,F6,e6,t6,m6⟩:=Oi (lo:=lo) t4 (by omega) hsm hnd4.2 hlo4 hl4;rw[Ak (by omega),e6,Ac,AC,Ab,Ah,Ag];exact ih (Ir l) a6 (l.length+1) c6 h6 F6 (by omega) (NA hch).1.symm (hch.join h4') t6 ((r4.keepF mm4 m6 hlo4).up (by omega)) (mm4.draw1 m6 r4.lt)
    ·rw[Ai (by omega)];exact ih l a _ c h4 F (by omega) rfl hch t4 (r4.up (by omega)) mm4
   | false =>
   rw[Au];obtain ⟨kf,h5,e5,g5,g5',r5,m5⟩:=pick r4 (by omega) 4;have t5:=m5.keep rnodes_ok t4 mm4.apart;have mm5:=mm4.draw0 m5 hF4;rw[e5,Ac,Aa,Lm t5 hsm.1,Ac,Av];cases hcan:A4 l kf with
   | false =>rw[Au];exact ih l a _ c h5 F (by omega) rfl hch t5 (r5.up (by omega)) mm5
   | true =>
    have hchp:=hch.pass hcan;obtain ⟨f,x,y,v,ws,rfl,hx,hy,hw',hr'⟩:=Ij hcan;rw[A7] at hchp;obtain ⟨hf,rfl⟩:=Fh hx;have hf1:=(Fh hy).1;obtain ⟨h6,F6,e6,t6,m6⟩:=Kd (lo:=lo) (k:=f) t5 hf1 (by rw[hw'];simp) hnd4.2 hlo4 (zbN hl4 m5.le) hsm (fun x hx=>by
     obtain ⟨i,hi⟩:=zb5.1 hx;have hno:=hch.node i x hi;have:=KN hno;exact ⟨⟨this.1,by have:=this.2.1;omega,this.2.2⟩,fun v hv=>(AN ((Ay hno).2.2 v hv)).1⟩)
    rw[An,e6,Ac,AC,Ab,Ah,Ag];exact ih (EF l f) a l.length c h6 F6 (by omega) passN_len.symm hchp t6 ((r5.keepF mm5 m6 hlo4).up (by omega)) (mm5.draw1 m6 r5.lt)
 have hy:=g3' (by omega);obtain ⟨k2,rfl⟩:∃ k:Nat,y=(k:Int):=⟨y.toNat,by omega⟩;exact loop k2 _ a2 _ c2 h3 F2 (by omega) rfl (zaZ (by omega) (by omega)) t3 (r3.up (by omega)) m13
end


section
variable {lo:Nat}{h h':Heap}{F F':List Nat}{b n:Nat}
theorem Ph {h h':Heap}{q i j m:Nat} (hq:h'[q]?=h[q]?):ld h' q i j m=ld h q i j m:=by unfold ld Heap.rows?;rw[hq]
theorem YI {l:List Node}{k:Nat}{x:Node} (h:Ci l) (hx:Cy x.store∧Cy x.wait):Ci (l.set k x):=⟨by rw[zcd];exact h.1,fun y hy=>by
 rcases zcb hy with hy | rfl
 ·exact h.2 y hy
 ·exact hx⟩
theorem Rl (r:Rd lo h b n) (hn:n≤400000) (hl:lo≤h.length):∃ (l:List Node) (a:Pq) (c:Nq) (h':Heap) (F':List Nat),Ae lo 65 [.ptr (some (b,(0,0)))] h=some (.agg [.sl 2 a l.length c],h')∧RNodes false h' [.sl 2 a l.length c] l F'∧Ci l∧Rd lo h' b (n+1000)∧Mv h [b] h' (b :: F'):=by
 obtain ⟨l,a,c,h1,F1,e1,t1,hch,r1,m1⟩:=Wz r (by omega) hl;have hsm:=JS (chain_iff.2 hch);have hpos:=hch.pos;have hle:=hch.le;obtain ⟨k,h2,e2,g2,g2',r2,m2⟩:=pick r1 (by omega) ((l.length:Nat):Int);obtain ⟨x,h3,e3,g3,g3',r3,m3⟩:=pick r2 (by omega) 10;have hk:=g2' (by omega);obtain ⟨f,rfl⟩:∃ f:Nat,k=(f:Int):=⟨k.toNat,by omega⟩;have hf:f<l.length:=by omega
 have m23:=m2.trans m3;have hF1:=rnodes_ok.bd _ _ _ _ t1;have t3:=m23.keep rnodes_ok t1 m1.apart;have m13:=m1.draw0 m23 hF1;have hF3:=rnodes_ok.bd _ _ _ _ t3;have hl3:lo≤h3.length:=zbN hl m13.le;have hloA:∀ {hh:Heap}{F:List Nat},Mv h [b] hh (b :: F)→∀ y∈F,lo≤y:=fun mm y hy=>mm.ge hl (fun z hz=>by rw[zbW] at hz;subst hz;exact r.ge) y (by simp[hy]);suffices hk:∃ (l:List Node) (a:Pq) (c:Nq) (h':Heap) (F':List Nat),_=some (V.agg [.sl 2 a l.length c],h')∧RNodes false h' [.sl 2 a l.length c] l F'∧Ci l∧Rd lo h' b (n+1000)∧Mv h [b] h' (b :: F') from by obtain ⟨l,a,c,h',F',e,gg⟩:=hk;exact ⟨l,a,c,h',F',LP e,gg⟩
 rw[e1,Ac,AC,Ab,Ah,Ag,e2,Ac,Aa,e3,Ac,Aa];cases x==(0:Int) with
 | true =>
  obtain ⟨s,ast,cs,h5,F5,e5,t5,hs5,r5,m5⟩:=Rk r3 (by omega) hl3;have m15:=m13.draw m5 hF3;have t4:=m5.keep rnodes_ok t3 m13.apart;have hnd5:=m15.nd;rw[zbV] at hnd5;have hnd6:(F1++F5).Nodup:=(zcP.nodup_iff).1 hnd5.2;have m15':Mv h [b] h5 (b ::(F1++F5)):=m15.lean (zbV.2 ⟨fun hm=>hnd5.1 (by simpa [or_comm] using hm),hnd6⟩) fun y hy=>by simpa [or_comm,or_left_comm] using hy
  have hlo5:=hloA m15';have hF5:=rvers_ok.bd _ _ _ _ t5;obtain ⟨b',i',rs,row,G,ha,hbF,hbG,hb1,hb2,hel,hGF,hGn,put⟩:=Sli.at_aside (lo:=lo) (E:=F5) rnode_ok t4 hf hnd6 (fun y hy=>hlo5 y (zcf _ hy)) hF5;obtain ⟨s1,s2,H1,H2,rfl,rfl,q1,q2⟩:=hel;have hnd7:=hnd6;rw[zbQ] at hnd7;have hGn':=hGn;rw[zbQ] at hGn';have hd:(F5++H2).Nodup:=by rw[zbQ];exact ⟨hnd7.2.1,hGn'.2.1,fun y hy z hz e=>hnd7.2.2 z (hGF z (zci _ hz)) y hy e.symm⟩
  have hd2:((H1++H2)++F5).Nodup:=by rw[zbQ];exact ⟨hGn,hnd7.2.1,fun y hy z hz=>hnd7.2.2 y (hGF y hy) z hz⟩
  obtain ⟨h6,F6,e6,t6,m6⟩:=put h5 (F5++H2) 0 [.sl 6 ast s.length cs] [.sl 6 ast s.length cs,s2] ⟨s,l[f].wait⟩ ((Mv.refl hd2).lean hd fun y hy=>by
   rw[zbP] at hy ⊢;rw[zbP];exact hy.elim .inr fun g => .inl (.inr g)) rfl ⟨_,_,F5,H2,rfl,rfl,t5,q2⟩
  rw[An,e5,Ac,AC,Ab,Ah,Ag,Ad hf,ha,Af,A7,e6,Af];have t6':RNodes false h6 [.sl 2 a (l.set f ⟨s,l[f].wait⟩).length c] (l.set f ⟨s,l[f].wait⟩) F6:=by rw[zcd];exact t6
  rw[← ha];exact ⟨l.set f ⟨s,l[f].wait⟩,a,c,h6,F6,by rw[zcd],t6',YI hsm ⟨zaW hs5.1 hs5.2,(hsm.2 _ (zbO hf)).2⟩,(r5.keepF m15' m6 hlo5).up (by omega),m15'.draw1 m6 r5.lt⟩
 | false =>
 rw[Au];cases x==(1:Int) with
 | true =>
  obtain ⟨v,av,cv,h5,F5,e5,t5,hv5,r5,m5⟩:=Kz r3 (by omega) hl3;have m15:=m13.draw m5 hF3;have t4:=m5.keep rnodes_ok t3 m13.apart;have hnd5:=m15.nd;rw[zbV] at hnd5;have hnd6:(F1++F5).Nodup:=(zcP.nodup_iff).1 hnd5.2;have m15':Mv h [b] h5 (b ::(F1++F5)):=m15.lean (zbV.2 ⟨fun hm=>hnd5.1 (by simpa [or_comm] using hm),hnd6⟩) fun y hy=>by simpa [or_comm,or_left_comm] using hy
  have hlo5:=hloA m15';have hF5:=rtags_ok.bd _ _ _ _ t5;have hF4:=rnodes_ok.bd _ _ _ _ t4;obtain ⟨b',i',rs,row,G,ha,hbF,hbG,hb1,hb2,hel,hGF,hGn,put⟩:=Sli.at_aside (lo:=lo) (E:=F5) rnode_ok t4 hf hnd6 (fun y hy=>hlo5 y (zcf _ hy)) hF5;obtain ⟨s1,s2,H1,H2,rfl,rfl,q1,q2⟩:=hel;obtain ⟨aw,cw,esw,q2⟩:=q2.form;have hnd7:=hnd6;rw[zbQ] at hnd7;have hGn':=hGn;rw[zbQ] at hGn';have hH1:=rvers_ok.bd _ _ _ _ q1;have hH2:=rvers_ok.bd _ _ _ _ q2;have hw6:l[f].wait.length≤6:=(Ay (hch.node f _ (Dd hf))).2.1;have mx:Mv h5 [] (h5 ++ [.rows 6 34 false [v.cs av cv]]) []:=Mv.snoc;have q2x:=mx.keep0 rvers_ok q2;have t5x:=mx.keep0 rtags_ok t5;obtain ⟨a6,c6,h6,F6,p1,p2,p3,p4,p5,p6⟩:=Sli.push (lo:=lo) (bytes:=72) (e:=34) rver_ok.fr q2x (xs := [v.cs av cv]) (ys := [v]) (Gs := [F5]) ⟨⟨_,rfl,t5x⟩,trivial⟩ (by decide) (by simp;omega) (fun y hy=>hlo5 y (zcf _ (hGF y (zci _ hy)))) (by simp;have:=m15'.le;omega)
   (by
    rw[zbQ];refine ⟨hGn'.2.1,by simpa using hnd7.2.1,fun y hy z hz=>hnd7.2.2 y (hGF y (zci _ hy)) z (by simpa using hz)⟩)
   (fun y hy=>by
    rw[zbP] at hy;rw[zbX];rcases hy with hy | hy
    ·have:=hH2 y hy;omega
    ·have:=hF5 y (by simpa using hy);omega) (by simp)
  simp only[zb6] at p1 p2;have hfin:∀ y∈F6,y∈H2∨y∈F5∨(h5.length≤y∧y<h6.length):=fun y hy=>by
   rcases p5 y hy with g | g
   ·rw[zbP] at g;rcases g with g | g
    ·exact .inl g
    ·exact .inr (.inl (by simpa using g))
   ·rw[zbX] at g;exact .inr (.inr (by omega))
  have hlen:h5.length≤h6.length:=by rw[zbX] at p3;omega
  have fr:∀ y,y<h5.length→y∉H2→h6[y]?=h5[y]?:=fun y hy hn=>by rw[p4 y (by rw[zbX];omega) hn,zbS hy]
  have hmv:Mv h5 ((H1++H2)++F5) h6 (H1++F6):=by
   refine ⟨hlen,fun y hy hn=>fr y hy fun hm=>hn (by simp[hm]),?_,fun y hy=>?_⟩
   ·rw[zbQ];refine ⟨hGn'.1,p6,fun y hy z hz e=>?_⟩;subst e;rcases hfin y hz with g | g | g
    ·exact hGn'.2.2 y hy y g rfl
    ·exact hnd7.2.2 y (hGF y (zcf _ hy)) y g rfl
    ·have:=hH1 y hy;omega
   ·rw[zbP] at hy;rcases hy with hy | hy
    ·exact .inl (by simp[hy])
    ·rcases hfin y hy with g | g | g
     ·exact .inl (by simp[g])
     ·exact .inl (by simp[g])
     ·exact .inr g
  have q1x:RVers false h6 [s1] l[f].store H1:=rvers_ok.fr _ _ _ _ _ q1 fun y hy=>fr y (hH1 y hy) fun hm=>hGn'.2.2 y hy y hm rfl;have p2':RVers false h6 [.sl 6 a6 (l[f].wait.length+1) c6] (l[f].wait ++ [v]) F6:=p2;obtain ⟨h7,F7,e7,t7,m7⟩:=put h6 (H1++F6) 1 [.sl 6 a6 (l[f].wait.length+1) c6] [s1,.sl 6 a6 (l[f].wait.length+1) c6] ⟨l[f].store,l[f].wait ++ [v]⟩ hmv rfl ⟨_,_,H1,F6,rfl,rfl,q1x,p2'⟩;have hb3:h3[b']?=h5[b']?:=by rw[m5.fr b' (hF3 b' hbF) (m13.apart b' hbF)]
  have l5:ld h5 b' (i'+f) 1 1=some [s2]:=by rw[BB hb1 hb2];rfl
  have l3:ld h3 b' (i'+f) 1 1=some [s2]:=by rw[Ph hb3];exact l5
  have l6:ld (h5 ++ [.rows 6 34 false [v.cs av cv]]) b' (i'+f) 1 1=some [s2]:=by rw[Ph (zbS (hF4 b' hbF))];exact l5
  simp only[Ver.cs] at e5 p1 l6;rw[An,Ad hf,ha,Af,A7,l3,Af,Ab,Ag,esw,e5,Ac,AC,Ab,Aa,Ab,Aa,Ab,Aa,Ab,Ah,Ab,A8,Ab,Aw,Ag,l5,l6,PR,Do,Do,AZ,p1,Ah,Ad hf,Af,e7,Af];have t7':RNodes false h7 [.sl 2 a (l.set f ⟨l[f].store,l[f].wait ++ [v]⟩).length c] (l.set f ⟨l[f].store,l[f].wait ++ [v]⟩) F7:=by rw[zcd];exact t7
  rw[← ha];refine ⟨l.set f ⟨l[f].store,l[f].wait ++ [v]⟩,a,c,h7,F7,by rw[zcd],t7',YI hsm ⟨(hsm.2 _ (zbO hf)).1,by simp;omega,fun u hu=>?_⟩,(r5.keepF m15' m7 hlo5).up (by omega),m15'.draw1 m7 r5.lt⟩;rcases zbP.1 hu with hu | hu
  ·exact (hsm.2 _ (zbO hf)).2.2 u hu
  ·rw[zbW] at hu;subst hu;exact ⟨by omega,by omega⟩
 | false =>
 rw[Au];cases x==(2:Int) with
 | true =>
  have hnd3:=m13.nd;rw[zbV] at hnd3;obtain ⟨F5,t5,n5,s5⟩:=t3.first (i:=f) (by omega) hnd3.2;have hlen:(l.take f).length=f:=by simp;omega
  rw[An,ED t3 (by omega)];exact ⟨l.take f,a,c,h3,F5,by rw[hlen],by rw[hlen];exact t5,⟨by rw[hlen];omega,fun x hx=>hsm.2 x (zdk hx)⟩,r3.up (by omega),m13.thin n5 s5⟩
 | false =>rw[Au];exact ⟨l,a,c,h3,F1,rfl,t3,hsm,r3.up (by omega),m13⟩
end


variable {l:List Node}{p:List Tag}
section
variable {lo:Nat}{ro ro':Bool}{h:Heap}{F F':List Nat}{a a':Pq}{c c':Nq}
theorem zbe {l:List Tag} (h1:RTags ro h [.sl 2 a l.length c] l F) (h2:RTags ro' h [.sl 2 a' l.length c'] l F') (hn:l.length≤1048576):Ae lo 41 [.agg [.sl 2 a l.length c],.agg [.sl 2 a' l.length c']] h=some (.bool true,h):=by
 refine RQ (h':=h) ?_;rw[MO,An];refine (Hp (n:=l.length) (fun i=>Da (List.length h) false (i:Nat) a l.length c a' l.length c' h) fun i hi=>?_).trans ?_
 ·obtain ⟨o,rfl,ho⟩:=h1.get hi;obtain ⟨o',rfl,ho'⟩:=h2.get hi;rw[Da.e,Ak (by omega),Ad hi];simp only[Af,A7,ho,ho',Ab,Aa,Ag,Ad hi,MO,An,Bool.and_self,Am (show i<9223372036854775807 by omega)]
 ·rw[Da.e,Ai (by omega)]
theorem zaP {v:Ver} (h1:RTags ro h [.sl 2 a v.past.length c] v.past F) (h2:RTags ro' h [.sl 2 a' v.past.length c'] v.past F') (hn:v.past.length≤1048576):Ae lo 18 [.agg (v.cs a c),.agg (v.cs a' c')] h=some (.bool true,h) :=
 TY (h':=h) (by simp only[zbe h1 h2 hn,Ac,Av,An,MO,zby,zbG,Bool.and_self])
theorem QI {l:List Ver} (h1:RVers ro h [.sl 6 a l.length c] l F) (h2:RVers ro' h [.sl 6 a' l.length c'] l F') (hn:Cy l):Ae lo 36 [.sl 6 a l.length c,.sl 6 a' l.length c'] h=some (.bool true,h):=by
 have hn1:=hn.1;refine RP (h':=h) ?_;rw[MO,An];refine (Hp (n:=l.length) (fun i=>C9 (List.length h) a l.length c a' l.length c' false (i:Nat) h) fun i hi=>?_).trans ?_
 ·obtain ⟨o,s,b1,c1,G1,rfl,ho,es,hp,_⟩:=h1.get hi;obtain ⟨o',s',b2,c2,G2,rfl,ho',es',hp',_⟩:=h2.get hi;rw[C9.e,Ak (by omega),Ad hi];simp only[Af,A7,ho,ho',Ab,Aa,es,es',A8,Aw,Ag,Ad hi];rw[zaP hp hp' (hn.2 _ (zbO hi)).1];simp only[Ac,Av,An,Am (show i<9223372036854775807 by omega)]
 ·rw[C9.e,Ai (by omega)]
theorem zaF {l:List Ver} (h1:RVers ro h [.sl 6 a l.length c] l F) (h2:RVers ro' h [.sl 6 a' l.length c'] l F') (hn:Cy l):Ae lo 93 [.agg [.sl 6 a l.length c],.agg [.sl 6 a' l.length c']] h=some (.bool true,h):=by
 have hn1:=hn.1;refine QU (h':=h) ?_;rw[MO,An];refine (Hp (n:=l.length) (fun i=>CE (List.length h) false (i:Nat) a l.length c a' l.length c' h) fun i hi=>?_).trans ?_
 ·obtain ⟨o,s,b1,c1,G1,rfl,ho,es,hp,_⟩:=h1.get hi;obtain ⟨o',s',b2,c2,G2,rfl,ho',es',hp',_⟩:=h2.get hi;rw[CE.e,Ak (by omega),Ad hi];simp only[Af,A7,ho,ho',Ab,Aa,es,es',A8,Aw,Ag,Ad hi];rw[zaP hp hp' (hn.2 _ (zbO hi)).1];simp only[Ac,Av,An,Am (show i<9223372036854775807 by omega)]
 ·rw[CE.e,Ai (by omega)]
theorem zaG (h1:RNodes ro h [.sl 2 a l.length c] l F) (h2:RNodes ro' h [.sl 2 a' l.length c'] l F') (hn:Ci l):Ae lo 26 [.agg [.sl 2 a l.length c],.agg [.sl 2 a' l.length c']] h=some (.bool true,h):=by
 have hn1:=hn.1;refine QW (h':=h) ?_;rw[MO,An];refine (Hp (n:=l.length) (fun i=>CG (List.length h) false (i:Nat) a l.length c a' l.length c' h) fun i hi=>?_).trans ?_
 ·obtain ⟨o,s1,s2,a1,c1,a2,c2,G1,G2,rfl,ho,ho1,ho2,e1,e2,hp1,hp2,_⟩:=h1.get hi;obtain ⟨o',s1',s2',a1',c1',a2',c2',G1',G2',rfl,ho',ho1',ho2',e1',e2',hp1',hp2',_⟩:=h2.get hi;rw[CG.e,Ak (by omega),Ad hi];simp only[Af,A7,ho1,ho1',Ab,e1,e1',Ag,Ad hi];rw[zaF hp1 hp1' (hn.2 _ (zbO hi)).1];simp only[Ac,Av,An,Af,ho2,ho2',Ab,Ag,e2,e2',Ad hi];rw[QI hp2 hp2' (hn.2 _ (zbO hi)).2];simp only[Ac,Av,An,Am (show i<9223372036854775807 by omega)]
 ·rw[CG.e,Ai (by omega)]
theorem EE (hp:Bg p=true):p.length=4:=by unfold Bg at hp;rw[Dm,decide_eq_true_eq] at hp;exact hp.1
theorem OO {q:List Tag} (hs:RTags ro h [.sl 2 a p.length c] p F) (hs':RTags ro' h [.sl 2 a' q.length c'] q F') (hp:Bg p=true) (hq:Bg q=true) :
  Ae lo 30 [.agg [.sl 2 a p.length c],.agg [.sl 2 a' q.length c']] h=some (.bool (Ca p q),h):=by
 have h1:=EE hp;have h2:=EE hq;refine M7 (h':=h) ?_;rw[Kr hs (by omega),Ac,Av,hp,An,Kr hs' (by omega),Ac,Av,hq,An,Qe hs hs' (by omega) (by omega),Ac,Av];cases Ca p q<;>rfl
theorem NF (hs:RNodes false h [.sl 2 a l.length c] l F) (hl:lo≤h.length) (hn:Ci l) (hc:Ch l) :
  ∃ a' c' h' F',Ae lo 31 [.agg [.sl 2 a l.length c]] h=some (.agg [.sl 2 a' (AS l).length c'],h')∧RTags false h' [.sl 2 a' (AS l).length c'] (AS l) F'∧Mv h [] h' F':=by
 have hpos:=hc.pos;have m0:Mv h [] (h ++ [.rows 1 25 false [[.sl 2 a l.length c]]]) []:=Mv.snoc;have hs0:=m0.keep0 rnodes_ok hs;have hld:ld (h ++ [.rows 1 25 false [[.sl 2 a l.length c]]]) h.length 0 0 1=some [.sl 2 a l.length c]:=by rw[BB (show (h ++ [Blk.rows 1 25 false [[.sl 2 a l.length c]]])[h.length]?=some (.rows 1 25 false [[.sl 2 a l.length c]]) by simp) rfl];exact HW rfl
 obtain ⟨a1,c1,G1,e1,q1,_⟩:=NC (lo:=lo) hld hs0 (by omega) hn.1;obtain ⟨v,h2,F2,e2,r2,m2⟩:=SE (lo:=lo) q1 (zbN hl m0.le) (hc.store (Dd (by omega))).2;rw[← Jj (by omega)] at r2;obtain ⟨a2,c2,es,r2⟩:=r2.form;refine ⟨a2,c2,h2,F2,L0 ?_,r2,m0.trans m2⟩;rw[hld,Af,Ab,Ah,Ag,JM hs0 hn,chain_iff.2 hc,Ac,Av,An,e1,Ac,AC,Ab,Ah,Ag,e2,Ac,AC,Ab,es,Ag]
end


section
variable {lo:Nat}{h h':Heap}{w:World}{a1 a2 a3 a4 a:Pq}{c1 c2 c3 c4 c:Nq}{F1 F2 F3 F4:List Nat}
theorem VF {kind num key:Int}{text:ByteArray}{gone:Bool}{i:Nat} (H:WR lo h w a1 c1 a2 c2 a3 c3 a4 c4 F1 F2 F3 F4) (hg:Good w) (hi:i<w.sess.length) :
  ∃ cs' h' F',Ae lo 277 [.agg (w.cs a1 c1 a2 c2 a3 c3 a4 c4),.agg [Iv kind,Iv (i:Nat),Iv num,Iv key,.str text,.bool gone]] h=some (.tup [.agg cs',.bool (NS w i w.sess[i]).isSome],h') ∧
   OQ lo h' cs' ((NS w i w.sess[i]).getD w) F'∧Mv h (F1++(F2++(F3++F4))) h' F'∧((NS w i w.sess[i])=none→cs'=w.cs a1 c1 a2 c2 a3 c3 a4 c4):=by
 suffices hk:∃ cs' h' F',_=some (V.tup [.agg cs',.bool (NS w i w.sess[i]).isSome],h')∧OQ lo h' cs' ((NS w i w.sess[i]).getD w) F'∧Mv h (F1++(F2++(F3++F4))) h' F'∧((NS w i w.sess[i])=none→cs'=w.cs a1 c1 a2 c2 a3 c3 a4 c4) from by obtain ⟨cs',h',F',e,hr⟩:=hk;exact ⟨cs',h',F',TL e,hr⟩
 have hso:=hg.ok.sess _ (zbO hi);obtain ⟨t1,t2,t3,t4,t5,t6⟩:=DG hso;have hp4:=EE t2;have h80:=hg.ok.h80;obtain ⟨k,hpl⟩:∃ k:Nat,w.sess[i].place=(k:Int):=⟨w.sess[i].place.toNat,by omega⟩;obtain ⟨m,hkey⟩:∃ m:Nat,w.sess[i].key=(m:Int):=⟨w.sess[i].key.toNat,by omega⟩;have hk:k<w.places.length:=by have:=hg.ok.p3;omega
 obtain ⟨hpo,hme,hro⟩:=hg.at hk;have hn:=(Fe (Cg hpo) (by decide) (by decide) (by decide)).1;have hco:=(AK hpo).2.2.2.1;have hcl:=EN hpo;have hst:∀ x∈w.places[k].chain,AH x.store=true:=fun x hx=>(Ay ((BY hco).2 x hx)).1
 have h04:=AQ (hst _ (zbO hcl));have hm0:m<w.places[k].chain[0].store.length:=by omega
 obtain ⟨b',i',v,e1',d1',Gs,rfl,hld',_,_,es',hv',_,hGn,puts⟩:=H.sess hi;obtain ⟨b,j,s1,s2,s3,b1,d1,b2,d2,b3,d3,G1,G2,G3,rfl,_,hc2,_,e1,e2,e3,g1,g2,g3,nd,hF,put⟩:=H.place hk;obtain ⟨u,x5,y5,h1,G5,e5,hsh,r5,m5⟩:=Ld (lo:=lo) (k:=0) (key:=m) g1 hcl hst (by omega) H.hl hn.1.1;rw[show ((0:Nat):Int)=0 from rfl] at e5;obtain ⟨o,z1,z2,p1,q1,p2,q2,H1,H2,rfl,_,ho1,_,ez1,_,gg1,_,_⟩:=(m5.keep0 rnodes_ok g1).get hcl;obtain ⟨o',_,_,_,_,rfl,_,_,_,_,_,_,ho12,_⟩:=gg1.all hm0;have hX:NS w i w.sess[i]=bif decide (w.sess[i].wait.time>0) then
    (bif FY u.tag w.sess[i].wait then (bif FY w.places[k].chain[0].store[m].tag w.sess[i].wait then some (setS w i ⟨w.sess[i].place,w.sess[i].past,⟨0,0⟩,0⟩ []) else none)
    else (bif D6 w 1 then some (setS w i ⟨w.sess[i].place,Ja w.sess[i].past m w.sess[i].wait,⟨0,0⟩,0⟩ [⟨i,3,w.sess[i].key,w.sess[i].wait⟩]) else none)) else none:=by
  have hhd:(Gc w.places[k].chain)[m]?=some w.places[k].chain[0].store[m]:=by unfold Gc;rw[Dd hcl];exact Dd hm0
  unfold NS;rw[hpl,hkey,A7,A7,Dd hk];simp only[hsh,hhd]
 generalize hXX:NS w i w.sess[i]=X at hX;obtain ⟨Hq,mq⟩:=H.up0 m5.drop;simp only[Ver.cs] at e5;rw[Ad hi,Af,A7,hld',Af,Ab,Aa,Ab,es',Ab,Aa,Ab,Aa,Ab,Aa,Ag];by_cases hw:¬ w.sess[i].wait.time>0
 ·have:w.sess[i].wait.time=0:=by simp[A2,Al] at t3;omega
  rw[this,MO,An];exact H.stay (by rw[hX,decide_eq_false hw];rfl)
 have hw:w.sess[i].wait.time>0:=by omega
 rw[decide_eq_true hw,cond_true] at hX;rw[show (w.sess[i].wait.time==0)=false by rw[beq_eq_false_iff_ne];omega,Au,hpl,Ad hk,Af,A7,hc2,Af,Ab,e1,Ag,hkey,e5,Ac,AC,Ab,Aa,Ab,Aa,Ab,Aa,Ab,Ah,Ab,A8,Ab,Aw,Ag,Cl ⟨by omega,by omega⟩,Af,ho1,Af,Ab,Ag,ez1,Ad hm0,Af,A7,ho12,Af,Ab,Aa,Ab,Aa,Ag,BI,Ac,Av];cases hA:HF u.tag.time u.tag.place w.sess[i].wait.time w.sess[i].wait.place with
 | true =>
  rw[show FY u.tag w.sess[i].wait=true from hA,cond_true] at hX;rw[An,BI,Ac,Av];cases hB:HF w.places[k].chain[0].store[m].tag.time w.places[k].chain[0].store[m].tag.place w.sess[i].wait.time w.sess[i].wait.place with
  | false =>rw[show FY w.places[k].chain[0].store[m].tag w.sess[i].wait=false from hB,cond_false] at hX;rw[Au];obtain ⟨cs',h',F',e,W,M,N⟩:=Hq.stay hX;exact ⟨cs',h',F',e,W,mq.trans M,N⟩
  | true =>rw[show FY w.places[k].chain[0].store[m].tag w.sess[i].wait=true from hB,cond_true] at hX;obtain ⟨h7,F7,e7,q7,m7⟩:=Hq.wait hi ⟨0,0⟩ 0;rw[An,BI,Ac,Av,hA,An,BI,Ac,Av,hA,An];simp only[] at e7;rw[e7,hX];refine ⟨_,h7,_,rfl,?_,mq.trans m7,fun g=>by first | cases g | (simp at g)⟩;have W:=q7.at;simp only[World.cs,zcd] at W;simpa only [setS,zdb,zcB] using W
 | false =>
  rw[show FY u.tag w.sess[i].wait=false from hA,cond_false] at hX;rw[Au,BI,Ac,Av,hA,Au];by_cases hh:(w.hist.length:Int)≥80
  ·rw[Ak hh];obtain ⟨cs',h',F',e,W,M,N⟩:=Hq.stay (X:=X) (by rw[hX,show D6 w 1=false from decide_eq_false (by omega)];rfl);exact ⟨cs',h',F',e,W,mq.trans M,N⟩
  rw[show D6 w 1=true from decide_eq_true (by omega),cond_true] at hX;obtain ⟨x6,y6,h6,F6,e6,r6,m6⟩:=Kg (lo:=lo) (k:=m) (t:=w.sess[i].wait) (m5.keep0 rtags_ok hv') (by omega) Hq.hl (by omega);obtain ⟨h7,F7,e7,q7,m7,_⟩:=Hq.past hi m6 r6;obtain ⟨a8,c8,h8,F8,e8,q8,m8,_⟩:=EA (d:=⟨i,3,(m:Nat),w.sess[i].wait⟩) q7 (by show w.hist.length≤1000;omega);have hi8:i<(w.sess.set i ⟨w.sess[i].place,Ja w.sess[i].past m w.sess[i].wait,w.sess[i].wait,w.sess[i].key⟩).length:=by simpa using hi
  obtain ⟨h9,F9,e9,q9,m9⟩:=q8.wait hi8 ⟨0,0⟩ 0;have W:=q9.at;simp only[World.cs,zcd] at e8 e9;simp only[World.cs,zcd,zc3,zdA] at W;rw[Ai hh,BI,Ac,Av,hA,Au,e6,Ac,AC,Ab,Ah,Ag,e7,e8,Ac,AC,Ab,Ah,Ab,Ah,Ab,Ah,Ab,Ah,Ag,e9,hX];refine ⟨_,h9,_,rfl,?_,mq.trans ((m7.trans m8).trans m9),fun g=>by first | cases g | (simp at g)⟩;simpa only [setS,zdb,hkey] using W
end


section
variable {lo:Nat}{h h':Heap}{w:World}{a1 a2 a3 a4 a:Pq}{c1 c2 c3 c4 c:Nq}{F1 F2 F3 F4:List Nat}
theorem Ui {kind num key:Int}{text:ByteArray}{gone:Bool}{i:Nat} (H:WR lo h w a1 c1 a2 c2 a3 c3 a4 c4 F1 F2 F3 F4) (hg:Good w) (hi:i<w.sess.length) :
  ∃ cs' h' F',Ae lo 278 [.agg (w.cs a1 c1 a2 c2 a3 c3 a4 c4),.agg [Iv kind,Iv (i:Nat),Iv num,Iv key,.str text,.bool gone]] h=some (.tup [.agg cs',.bool (Je w i w.sess[i] ⟨kind,(i:Nat),num,key,text,gone⟩).isSome],h') ∧
   OQ lo h' cs' ((Je w i w.sess[i] ⟨kind,(i:Nat),num,key,text,gone⟩).getD w) F'∧Mv h (F1++(F2++(F3++F4))) h' F'∧((Je w i w.sess[i] ⟨kind,(i:Nat),num,key,text,gone⟩)=none→cs'=w.cs a1 c1 a2 c2 a3 c3 a4 c4):=by
 suffices hk:∃ cs' h' F',_=some (V.tup [.agg cs',.bool (Je w i w.sess[i] ⟨kind,(i:Nat),num,key,text,gone⟩).isSome],h')∧OQ lo h' cs' ((Je w i w.sess[i] ⟨kind,(i:Nat),num,key,text,gone⟩).getD w) F'∧Mv h (F1++(F2++(F3++F4))) h' F'∧((Je w i w.sess[i] ⟨kind,(i:Nat),num,key,text,gone⟩)=none→cs'=w.cs a1 c1 a2 c2 a3 c3 a4 c4) from by obtain ⟨cs',h',F',e,hr⟩:=hk;exact ⟨cs',h',F',Ro e,hr⟩
 have hso:=hg.ok.sess _ (zbO hi);obtain ⟨t1,t2,t3,t4,t5,t6⟩:=DG hso;have hp4:=EE t2;have h80:=hg.ok.h80;obtain ⟨k,hpl⟩:∃ k:Nat,w.sess[i].place=(k:Int):=⟨w.sess[i].place.toNat,by omega⟩;have hk:k<w.places.length:=by have:=hg.ok.p3;omega
 obtain ⟨hpo,hme,hro⟩:=hg.at hk;have hn:=(Fe (Cg hpo) (by decide) (by decide) (by decide)).1;have hn1:=hn.1.1;have hch:=chain_iff.1 (AK hpo).2.2.2.1;have hst:∀ x∈w.places[k].chain,AH x.store=true:=fun x hx=>(Ay ((BY (AK hpo).2.2.2.1).2 x hx)).1
 obtain ⟨b',i',v,e1',d1',Gs,rfl,hld',_,_,es',hv',_,hGn,puts⟩:=H.sess hi;obtain ⟨b,j,s1,s2,s3,b1,d1,b2,d2,b3,d3,G1,G2,G3,rfl,_,hc2,_,e1,e2,e3,g1,g2,g3,nd,hF,put⟩:=H.place hk;have hX:Je w i w.sess[i] ⟨kind,(i:Nat),num,key,text,gone⟩=bif !decide (w.sess[i].wait.time>0)&&(Al key 0 3&&(Al num 0 ((w.places[k].chain.length:Int) - 1)&&D6 w 1)) then
   (match GG w.places[k].chain num.toNat key.toNat,w.sess[i].past[key.toNat]? with
   | some v,some t=>bif FY v.tag t then none else some (setS w i ⟨w.sess[i].place,Uz w.sess[i] v key.toNat,w.sess[i].wait,w.sess[i].key⟩ [⟨i,2,key,v.tag⟩])
   | _,_=>none) else none:=by
  unfold Je;rw[hpl,A7,Dd hk]<;>rfl
 generalize hXX:Je w i w.sess[i] ⟨kind,(i:Nat),num,key,text,gone⟩=X at hX;rw[Ad hi,Af,A7,hld',Af,Ab,Aa,Ab,es',Ab,Aa,Ab,Aa,Ab,Aa,Ag,hpl,Ad hk,Af,A7,hc2,Af,Ab,e1,Ag];by_cases hw:w.sess[i].wait.time>0
 ·rw[Ak hw];exact H.stay (by rw[hX,decide_eq_true hw];rfl)
 rw[decide_eq_false hw,zcR,zb8] at hX;rw[Ai hw,By,Ac,Av];cases hwk:Al key 0 3 with
 | false=>rw[Au];exact H.stay (by rw[hX,hwk];rfl)
 | true =>
 rw[hwk,zb8] at hX;rw[An,wr (by omega) (by omega),By,Ac,Av];cases hwn:Al num 0 ((w.places[k].chain.length:Int) - 1) with
 | false=>rw[Au];exact H.stay (by rw[hX,hwn];rfl)
 | true =>
 rw[hwn,zb8] at hX;rw[An];by_cases hh:(w.hist.length:Int)≥80
 ·rw[Ak hh];exact H.stay (by rw[hX,show D6 w 1=false from decide_eq_false (by omega)];rfl)
 rw[show D6 w 1=true from decide_eq_true (by omega),cond_true] at hX;simp only[Al,Dm,decide_eq_true_eq] at hwk hwn;obtain ⟨m,rfl⟩:∃ m:Nat,key=(m:Int):=⟨key.toNat,by omega⟩;obtain ⟨n,rfl⟩:∃ n:Nat,num=(n:Int):=⟨num.toNat,by omega⟩;have hmp:m<w.sess[i].past.length:=by omega
 obtain ⟨u,x5,y5,h1,G5,e5,hsh,r5,m5⟩:=Ld (lo:=lo) (k:=n) (key:=m) g1 (by omega) hst (by omega) H.hl hn1;obtain ⟨Hq,mq⟩:=H.up0 m5.drop;rw[A7,A7,hsh,Dd hmp] at hX;simp only[] at hX;have hu4:Bg u.past=true∨u.tag.time=0:=by
  have hql:BJ w.places[k].chain n<w.places[k].chain.length:=by unfold BJ;split<;>omega
  unfold GG at hsh;rw[CI hql] at hsh;rcases CB (Hx (hst _ (zbO hql)) hsh) with g | g
  ·exact .inr (DS g).1
  ·exact .inl (AN g.1).2.2.2.1
 obtain ⟨o',ho',ho2⟩:=(m5.keep0 rtags_ok hv').get hmp;subst ho';simp only[Ver.cs] at e5;rw[Ai hh,e5,Ac,AC,Ab,Aa,Ab,Aa,Ab,Aa,Ab,Ah,Ab,A8,Ab,Aw,Ag,Ad hmp,Af,A7,ho2,Af,Ab,Aa,Ab,Aa,Ag,BI,Ac,Av];cases hA:HF u.tag.time u.tag.place w.sess[i].past[m].time w.sess[i].past[m].place with
 | true =>rw[show FY u.tag w.sess[i].past[m]=true from hA,cond_true] at hX;rw[An];obtain ⟨cs',h',F',e,W,M,N⟩:=Hq.stay hX;exact ⟨cs',h',F',e,W,mq.trans M,N⟩
 | false =>
 rw[show FY u.tag w.sess[i].past[m]=false from hA,cond_false] at hX;rw[Au];unfold Uz at hX;by_cases ht:u.tag.time>0
 ·rw[decide_eq_true ht,cond_true] at hX;have hu4':u.past.length=4:=EE (hu4.resolve_right (by omega));obtain ⟨q6,x6,y6,h6,F6,e6,r6,m6⟩:=Ur (lo:=lo) (m5.keep0 rtags_ok hv') r5 hp4 hu4' Hq.hl;obtain ⟨x7,y7,es7,r7⟩:=r6.form;have hj:(Jk w.sess[i].past u.past).length=4:=by unfold Jk;rw[List.length_zipWith];omega
  obtain ⟨x8,y8,h8,F8,e8,r8,m8⟩:=Kg (lo:=lo) (k:=m) (t:=u.tag) r7 (by omega) (zbN Hq.hl m6.le) (by omega);obtain ⟨h9,F9,e9,q9,m9,_⟩:=Hq.past hi (m6.drop.trans m8) r8;obtain ⟨x10,y10,h10,F10,e10,q10,m10,_⟩:=EA (d:=⟨i,2,(m:Nat),u.tag⟩) q9 (by show w.hist.length≤1000;omega);have W:=q10.at;simp only[World.cs,zcd] at e10 W;rw[Ak ht,e6,Ac,AC,Ab,es7,Ag,e8,Ac,AC,Ab,Ah,Ag,e9,e10,Ac,AC,Ab,Ah,Ab,Ah,Ab,Ah,Ab,Ah,Ag,hX];exact ⟨_,h10,_,rfl,W,mq.trans (m9.trans m10),fun g=>by first | cases g | (simp at g)⟩
 ·rw[decide_eq_false ht,cond_false] at hX;obtain ⟨x10,y10,h10,F10,e10,q10,m10,_⟩:=EA (d:=⟨i,2,(m:Nat),u.tag⟩) Hq (by omega);have W:=q10.at;simp only[World.cs] at e10 W;have hse:w.sess.set i ⟨w.sess[i].place,w.sess[i].past,w.sess[i].wait,w.sess[i].key⟩=w.sess:=zdr hi;rw[Ai ht,e10,Ac,AC,Ab,Ah,Ab,Ah,Ab,Ah,Ab,Ah,Ag,hX];refine ⟨_,h10,_,rfl,?_,mq.trans m10,fun g=>by first | cases g | (simp at g)⟩;simpa only [setS,zdb,hse] using W
end


theorem ZU {a b:Tag} (h1:a.time=b.time) (h2:a.place=b.place):a=b:=by cases a;cases b;simp_all
theorem XU {p q:List Tag}{m:Nat}{a b:Tag} (hu:Ca p q=true) (ha:p[m]?=some a) (hb:q[m]?=some b):JK a b=b:=by
 have:=under_iff.1 hu m a b ha hb;unfold JK FY;rw[GS] at this;cases hl:HF a.time a.place b.time b.place with
 | true=>rfl
 | false =>rw[GS] at hl;show a=b;exact ZU (by omega) (by omega)
theorem Q7 {p q:List Tag}{m:Nat} (hm:m<p.length) (hq:p.length=q.length) (hu:Ca p q=true):Ja (q.take m++p.drop m) m (q[m]'(by omega))=q.take (m+1)++p.drop (m+1):=by
 have h1:(q.take m).length=m:=by simp;omega
 have h2:m<(q.take m++p.drop m).length:=by simp;omega
 have h3:(q.take m++p.drop m)[m]=p[m]:=by rw[zdD (by omega)];simp[h1]
 rw[RY h2,h3,XU hu (Dd hm) (Dd (by omega)),zdf _ _ (by omega),h1,zdz,zc6 (by omega),zb4,zca hm];rfl
theorem Mg {i:Nat}{l:List Tag}{m:Nat} (hm:m<l.length):(Dv i l).take (m+1)=(Dv i l).take m ++ [⟨i,2,(m:Nat),l[m]⟩]:=by
 have hl:(Dv i l).length=l.length:=by unfold Dv;simp
 rw[zc6 (by omega)];congr 2;unfold Dv;rw[List.getElem_map,List.getElem_zipIdx];simp
section
variable {lo:Nat}{h h':Heap}{w:World}{a1 a2 a3 a4 a:Pq}{c1 c2 c3 c4 c:Nq}{F1 F2 F3 F4:List Nat}
theorem VG {kind num key:Int}{text:ByteArray}{gone:Bool}{i:Nat} (H:WR lo h w a1 c1 a2 c2 a3 c3 a4 c4 F1 F2 F3 F4) (hg:Good w) (hi:i<w.sess.length) :
  ∃ cs' h' F',Ae lo 279 [.agg (w.cs a1 c1 a2 c2 a3 c3 a4 c4),.agg [Iv kind,Iv (i:Nat),Iv num,Iv key,.str text,.bool gone]] h=some (.tup [.agg cs',.bool (MP w i w.sess[i]).isSome],h') ∧
   OQ lo h' cs' ((MP w i w.sess[i]).getD w) F'∧Mv h (F1++(F2++(F3++F4))) h' F'∧((MP w i w.sess[i])=none→cs'=w.cs a1 c1 a2 c2 a3 c3 a4 c4):=by
 suffices hk:∃ cs' h' F',_=some (V.tup [.agg cs',.bool (MP w i w.sess[i]).isSome],h')∧OQ lo h' cs' ((MP w i w.sess[i]).getD w) F'∧Mv h (F1++(F2++(F3++F4))) h' F'∧((MP w i w.sess[i])=none→cs'=w.cs a1 c1 a2 c2 a3 c3 a4 c4) from by obtain ⟨cs',h',F',e,hr⟩:=hk;exact ⟨cs',h',F',TM e,hr⟩
 have hso:=hg.ok.sess _ (zbO hi);obtain ⟨t1,t2,t3,t4,t5,t6⟩:=DG hso;have hp4:=EE t2;have h80:=hg.ok.h80;obtain ⟨k,hpl⟩:∃ k:Nat,w.sess[i].place=(k:Int):=⟨w.sess[i].place.toNat,by omega⟩;have hk:k<w.places.length:=by have:=hg.ok.p3;omega
 obtain ⟨hpo,hme,hro⟩:=hg.at hk;have hn:=(Fe (Cg hpo) (by decide) (by decide) (by decide)).1;have hn1:=hn.1.1;have hch:=chain_iff.1 (AK hpo).2.2.2.1;have hpos:=hch.pos;have hX:MP w i w.sess[i]=bif !decide (w.sess[i].wait.time>0)&&(Ca w.sess[i].past (AS w.places[k].chain)&&D6 w 4) then some (setS w i ⟨w.sess[i].place,AS w.places[k].chain,w.sess[i].wait,w.sess[i].key⟩ (Dv i (AS w.places[k].chain))) else none:=by unfold MP;rw[hpl,A7,Dd hk]
 obtain ⟨b',i',v,e1',d1',Gs,rfl,hld',_,_,es',hv',_,hGn,puts⟩:=H.sess hi;obtain ⟨b,j,s1,s2,s3,b1,d1,b2,d2,b3,d3,G1,G2,G3,rfl,_,hc2,_,e1,e2,e3,g1,g2,g3,nd,hF,put⟩:=H.place hk;have hlast:=Jj (l:=w.places[k].chain) (by omega);have hs4:=(hch.store (Dd (show w.places[k].chain.length - 1<w.places[k].chain.length by omega))).2;obtain ⟨o,z1,z2,p1,q1,p2,q2,H1,H2,rfl,_,ho1,_,ez1,_,gg1,_,hH1,_⟩:=g1.get (show w.places[k].chain.length - 1<w.places[k].chain.length by omega);generalize hst:(w.places[k].chain[w.places[k].chain.length - 1]'(by omega)).store=store at hlast hs4 ez1 gg1;obtain ⟨tv,h1,T1,e5,r5,m5⟩:=Ol (lo:=h.length) gg1 (zbR _) (by omega);obtain ⟨x5,y5,es5,r5⟩:=r5.form;obtain ⟨Hq,mq⟩:=H.up0 m5.drop;rw[hlast] at hX;have htl:(BH store).length=4:=by unfold BH;rw[zdv];exact hs4
 have loop:∀ (r m:Nat) (hh:Heap) (x1:Pq) (y1:Nq) (x2:Pq) (y2:Nq) (x3:Pq) (y3:Nq) (x4:Pq) (y4:Nq) (K1 K2 K3 K4:List Nat),m+r=4→Ca w.sess[i].past (BH store)=true→w.hist.length≤76 →
   WR lo hh (setS w i ⟨w.sess[i].place,(BH store).take m++w.sess[i].past.drop m,w.sess[i].wait,w.sess[i].key⟩ ((Dv i (BH store)).take m)) x1 y1 x2 y2 x3 y3 x4 y4 K1 K2 K3 K4 →
   RVers false hh [.sl 6 p1 store.length q1] store H1→(∀ y∈H1,y∈K1) →
   ∃ cs' h' F',Ds lo (m:Nat) x1 w.places.length y1 x2 w.sess.length y2 x3 w.net.length y3 x4 (w.hist++(Dv i (BH store)).take m).length y4 kind (i:Nat) num key text gone 0 none 0 (some 0) 0 none 0 (some 0) 0 none 0 (some 0) 0 none 0 (some 0) p1 store.length q1 hh=some (V.tup [.agg cs',.bool true],h') ∧
    OQ lo h' cs' (setS w i ⟨w.sess[i].place,BH store,w.sess[i].wait,w.sess[i].key⟩ (Dv i (BH store))) F'∧Mv hh (K1++(K2++(K3++K4))) h' F':=by
  intro r;induction r with
  | zero =>
   intro m hh x1 y1 x2 y2 x3 y3 x4 y4 K1 K2 K3 K4 hm hu hl Hm hv hK;have:m=4:=by omega
   subst this;have hrl:(Dv i (BH store)).length=4:=by unfold Dv;simpa using htl
   have W:=Hm.at;rw[zcD (by omega),zcK (by omega),zcB,zcD (by omega)] at W;refine ⟨_,hh,_,?_,W,Mv.refl Hm.nd⟩;rw[Ds.e,Ai (by omega),zcD (by omega)];simp only[World.cs,setS,zcd]
  | succ r ih =>
   intro m hh x1 y1 x2 y2 x3 y3 x4 y4 K1 K2 K3 K4 hm hu hl Hm hv hK;have him:i<(setS w i ⟨w.sess[i].place,(BH store).take m++w.sess[i].past.drop m,w.sess[i].wait,w.sess[i].key⟩ ((Dv i (BH store)).take m)).sess.length:=by simpa [setS] using hi
   obtain ⟨b0,i0,v0,e0,d0,G0,rfl,_,hld1,_,es0,hv0,_,_,_⟩:=Hm.sess him;have hss:(setS w i ⟨w.sess[i].place,(BH store).take m++w.sess[i].past.drop m,w.sess[i].wait,w.sess[i].key⟩ ((Dv i (BH store)).take m)).sess[i]=⟨w.sess[i].place,(BH store).take m++w.sess[i].past.drop m,w.sess[i].wait,w.sess[i].key⟩:=by simp[setS]
   have hpl4:((BH store).take m++w.sess[i].past.drop m).length=4:=by simp;omega
   have hms:m<store.length:=by omega
   obtain ⟨o',_,_,_,_,ho',_,_,_,_,_,_,ho12,_⟩:=hv.all hms;have htm:(BH store)[m]'(by omega)=store[m].tag:=by unfold BH;rw[List.getElem_map]
   rw[hss] at es0 hv0;have es0:∀ {R':Type} (K:Pq→Nat→Nq→Option R'),eS 2 v0 K=K e0 ((BH store).take m++w.sess[i].past.drop m).length d0:=es0;have hv0:RTags false hh [.sl 2 e0 ((BH store).take m++w.sess[i].past.drop m).length d0] ((BH store).take m++w.sess[i].past.drop m) G0:=hv0;obtain ⟨x8,y8,h8,F8,e8,r8,m8⟩:=Kg (lo:=lo) (k:=m) (t:=store[m].tag) hv0 (by omega) Hm.hl (by omega);rw[← htm,Q7 (by omega) (by omega) hu] at r8;obtain ⟨h9,F9,e9,q9,m9,s9⟩:=Hm.past him m8 r8;have hv9:=rvers_ok.fr _ _ _ _ _ hv fun y hy=>s9 y (hK y hy);obtain ⟨o9,_,_,_,_,ho9,_,_,_,_,_,_,ho129,_⟩:=hv9.all hms;have:o'=o9:=by rw[ho'] at ho9;injection ho9
   subst this;have hrt:((Dv i (BH store)).take m).length≤4:=by rw[zcp];omega
   obtain ⟨x10,y10,h10,F10,e10,q10,m10,s10⟩:=EA (d:=⟨i,2,(m:Nat),store[m].tag⟩) q9 (by show (w.hist++_).length≤1000;rw[zbX];omega);have hv10:=rvers_ok.fr _ _ _ _ _ hv9 fun y hy=>s10 y (hK y hy);simp only[setS,zc3,zdA,zb4] at q10;rw[← htm,← Mg (by omega)] at q10;obtain ⟨cs',h',F',e,W,M⟩:=ih (m+1) h10 _ _ _ _ _ _ _ _ _ _ _ _ (by omega) hu hl q10 hv10 hK;refine ⟨cs',h',F',?_,W,(m9.trans m10).trans M⟩;simp only[World.cs,setS,zcd] at e9 e10;rw[hpl4] at es0 e8 e9;have hw8:(Ja ((BH store).take m++w.sess[i].past.drop m) m store[m].tag).length=4:=by rw[Xv];exact hpl4
   rw[Ds.e,Ak (by omega),Ad hi,Af,A7,hld1,Af,Ab,es0,Ag,Ad hms,ho',Af,A7,ho12,Af,Ab,Aa,Ab,Aa,Ag,e8,Ac,AC,Ab,Ah,Ag,e9,Ad hms,Af,ho129,Af,Ab,Aa,Ab,Aa,Ag,e10,Ac,AC,Ab,Ah,Ab,Ah,Ab,Ah,Ab,Ah,Ag,Am (by omega),← ho'];rw[zb4,← htm,← Mg (by omega)];exact e
 rw[Ad hi,Af,A7,hld',Af,Ab,Aa,Ab,es',Ab,Aa,Ab,Aa,Ab,Aa,Ag,hpl,Ad hk,Af,A7,hc2,Af,Ab,e1,Ag,wr (by omega) (by omega),Cl ⟨by omega,by omega⟩,Af,show ((w.places[k].chain.length:Int) - 1).toNat=w.places[k].chain.length - 1 by omega,ho1,Af,Ab,ez1,Ag];by_cases hw:w.sess[i].wait.time>0
 ·rw[Ak hw];exact H.stay (by rw[hX,decide_eq_true hw];rfl)
 rw[decide_eq_false hw,zcR,zb8] at hX;rw[Ai hw,e5,Ac,AC,Ab,es5,Ag,E5 (m5.keep0 rtags_ok hv') r5 hp4 htl,Ac,Av];cases hu:Ca w.sess[i].past (BH store) with
 | false =>rw[Au];obtain ⟨cs',h',F',e,W,M,N⟩:=Hq.stay (X:=MP w i w.sess[i]) (by rw[hX,hu];rfl);exact ⟨cs',h',F',e,W,mq.trans M,N⟩
 | true =>
 rw[hu,zb8] at hX;rw[An,wr (by omega) (by omega)];by_cases hh:(w.hist.length:Int)+4>80
 ·rw[Ak hh];obtain ⟨cs',h',F',e,W,M,N⟩:=Hq.stay (X:=MP w i w.sess[i]) (by rw[hX,show D6 w 4=false from decide_eq_false (by omega)];rfl);exact ⟨cs',h',F',e,W,mq.trans M,N⟩
 rw[show D6 w 4=true from decide_eq_true (by omega),cond_true] at hX;have h0:setS w i ⟨w.sess[i].place,(BH store).take 0++w.sess[i].past.drop 0,w.sess[i].wait,w.sess[i].key⟩ ((Dv i (BH store)).take 0)=w:=by have hse:w.sess.set i ⟨w.sess[i].place,w.sess[i].past,w.sess[i].wait,w.sess[i].key⟩=w.sess:=zdr hi;simp only[setS,List.take_zero,zco,zcW,zcB,hse]
 have hH1:∀ y∈H1,y∈F1:=fun y hy=>(hF y (zcf _ (hH1 y hy))).2.2
 obtain ⟨cs',h',F',e,W,M⟩:=loop 4 0 h1 _ _ _ _ _ _ _ _ _ _ _ _ (by omega) hu (by omega) (by rw[h0];exact Hq) (m5.keep0 rvers_ok gg1) hH1;simp only[List.take_zero,zcB] at e;rw[Ai hh,hX];exact ⟨cs',h',F',e,W,mq.trans M,fun g=>by first | cases g | (simp at g)⟩
theorem Oa {F:List Nat}{cs:List V}{X:Option World}{t:Ov} (ht:∃ cs' h' F',t=some (.tup [.agg cs',.bool X.isSome],h')∧OQ lo h' cs' (X.getD w) F'∧Mv h F h' F'∧(X=none→cs'=cs)) :
  ∃ cs' h' F',(Aj t fun v_2 h_3=>eU v_2 fun c_4=>eC c_4 fun v_5 l_6=>eA v_5 fun c_7=>eC c_7 fun v_8 l_9=>eS 6 (v_8) fun a_10 n_11 c_12=>eC l_9 fun v_13 l_14=>eS 5 (v_13) fun a_15 n_16 c_17=>eC l_14 fun v_18 l_19=>eS 9 (v_18) fun a_20 n_21 c_22=>eC l_19 fun v_23 l_24=>eS 5 (v_23) fun a_25 n_26 c_27=>eN l_24 (eC l_6 fun v_28 l_29=>eB v_28 (eN l_29 (some (V.tup [.agg [.sl 6 a_10 n_11 c_12,.sl 5 a_15 n_16 c_17,.sl 9 a_20 n_21 c_22,.sl 5 a_25 n_26 c_27],.bool true],h_3))) (eN l_29 (some (V.tup [.agg [.sl 6 a_10 n_11 c_12,.sl 5 a_15 n_16 c_17,.sl 9 a_20 n_21 c_22,.sl 5 a_25 n_26 c_27],.bool false],h_3)))))=some (.tup [.agg cs',.bool X.isSome],h')∧OQ lo h' cs' (X.getD w) F'∧Mv h F h' F'∧(X=none→cs'=cs):=by
 obtain ⟨cs',h',F',rfl,W,M,N⟩:=ht;refine ⟨cs',h',F',?_,W,M,N⟩;obtain ⟨x1,y1,x2,y2,x3,y3,x4,y4,K1,K2,K3,K4,rfl,_,_⟩:=W;rw[Ac,Ge,Ab,AC,Ab,Ah,Ab,Ah,Ab,Ah,Ab,Ah,Ag,Ab,Av];cases X.isSome
 ·rw[Au,Ag]
 ·rw[An,Ag]
theorem Rb {e:Event} (H:WR lo h w a1 c1 a2 c2 a3 c3 a4 c4 F1 F2 F3 F4) (hg:Good w) (ht:e.text.size≤1048576) :
  ∃ cs' h' F',Ae lo 212 [.agg (w.cs a1 c1 a2 c2 a3 c3 a4 c4),.agg e.cs] h=some (.tup [.agg cs',.bool (Gh w e).isSome],h')∧OQ lo h' cs' ((Gh w e).getD w) F'∧Mv h (F1++(F2++(F3++F4))) h' F'∧((Gh w e)=none→cs'=w.cs a1 c1 a2 c2 a3 c3 a4 c4):=by
 obtain ⟨kind,at',num,key,text,gone⟩:=e;suffices hk:∃ cs' h' F',_=some (V.tup [.agg cs',.bool (Gh w ⟨kind,at',num,key,text,gone⟩).isSome],h')∧OQ lo h' cs' ((Gh w ⟨kind,at',num,key,text,gone⟩).getD w) F'∧Mv h (F1++(F2++(F3++F4))) h' F'∧((Gh w ⟨kind,at',num,key,text,gone⟩)=none→cs'=w.cs a1 c1 a2 c2 a3 c3 a4 c4) from by obtain ⟨cs',h',F',e,hr⟩:=hk;exact ⟨cs',h',F',OR e,hr⟩
 have hs4:=hg.ok.s4;unfold Gh;rw[wr (by omega) (by omega),By,Ac,Av];cases hat:Al at' 0 ((w.sess.length:Int) - 1) with
 | false=>rw[Au];exact H.stay rfl
 | true =>
 simp only[Al,Dm,decide_eq_true_eq] at hat;obtain ⟨i,rfl⟩:∃ i:Nat,at'=(i:Int):=⟨at'.toNat,by omega⟩;have hi:i<w.sess.length:=by omega
 rw[An,cond_true,A7,Dd hi];simp only[];cases h1:kind==1 with
 | true=>rw[An,cond_true];exact Oa (SX H hg ht hi)
 | false =>
 rw[Au,cond_false];cases h2:kind==2 with
 | true=>rw[An,cond_true];exact Oa (VF H hg hi)
 | false =>
 rw[Au,cond_false];cases h3:kind==3 with
 | true=>rw[An,cond_true];exact Oa (Ui H hg hi)
 | false =>
 rw[Au,cond_false];cases h4:kind==4 with
 | true=>rw[An,cond_true];exact Oa (VG H hg hi)
 | false =>
 rw[Au,cond_false];obtain ⟨b',i',v,e1',d1',Gs,rfl,_,_,hld2,es',hv',hv,hGn,puts⟩:=H.sess hi;rw[Ad hi,Af,hld2,Af,Ab,Ag,Aa];unfold UH;by_cases hw:w.sess[i].wait.time>0
 ·rw[Ak hw];exact H.stay (by rw[decide_eq_true hw];rfl)
 rw[Ai hw,decide_eq_false hw,zcR,zb8,By,Ac,Av];cases hwn:Al num 0 2 with
 | false=>rw[Au];exact H.stay rfl
 | true =>
 obtain ⟨h2',F5,e2,q2,m2,_⟩:=puts h Gs 0 [Iv num] [Iv num,v,Iv w.sess[i].wait.time,Iv w.sess[i].wait.place,Iv w.sess[i].key] ⟨num,w.sess[i].past,w.sess[i].wait,w.sess[i].key⟩ (Mv.refl hGn) rfl ⟨v,rfl,hv⟩;have W:=q2.at;simp only[World.cs,zcd] at W;rw[An,Ad hi,Af,e2,Af,cond_true];refine ⟨_,h2',_,rfl,?_,m2,fun g=>by first | cases g | (simp at g)⟩;simpa only [setS,zdb,zcB] using W
theorem R8 {e:Event} (H:WR lo h w a1 c1 a2 c2 a3 c3 a4 c4 F1 F2 F3 F4) (hg:Good w) (ht:e.text.size≤1048576) :
  ∃ cs' h' F',Ae lo 124 [.agg (w.cs a1 c1 a2 c2 a3 c3 a4 c4),.agg e.cs] h=some (.tup [.agg cs',.bool (Hy w e).isSome],h')∧OQ lo h' cs' (T7 w e) F'∧Mv h (F1++(F2++(F3++F4))) h' F'∧((Hy w e)=none→cs'=w.cs a1 c1 a2 c2 a3 c3 a4 c4):=by
 have hc:=Rb H hg ht;have hp:=SY (e:=e) H hg;have hn:=VE (e:=e) H hg;obtain ⟨kind,at',num,key,text,gone⟩:=e;unfold T7;suffices hk:∃ cs' h' F',_=some (V.tup [.agg cs',.bool (Hy w ⟨kind,at',num,key,text,gone⟩).isSome],h')∧OQ lo h' cs' ((Hy w ⟨kind,at',num,key,text,gone⟩).getD w) F'∧Mv h (F1++(F2++(F3++F4))) h' F'∧((Hy w ⟨kind,at',num,key,text,gone⟩)=none→cs'=w.cs a1 c1 a2 c2 a3 c3 a4 c4) from by obtain ⟨cs',h',F',e,hr⟩:=hk;exact ⟨cs',h',F',Vr e,hr⟩
 rw[By,Ac,Av];unfold Hy;cases h1:Al kind 1 5 with
 | true=>rw[An,cond_true];exact Oa hc
 | false =>
 rw[Au,cond_false,By,Ac,Av];cases h2:Al kind 6 9 with
 | true=>rw[An,cond_true];exact Oa hp
 | false =>
 rw[Au,cond_false,By,Ac,Av];unfold UG at hn;cases h3:kind==10 with
 | true =>
  have h4:Al kind 10 13=true:=by rw[beq_iff_eq] at h3;subst h3;rfl
  simp only[h3,cond_true] at hn;rw[h4,An,cond_true];exact Oa hn
 | false =>
  simp only[h3,cond_false] at hn;rw[cond_false];cases h4:Al kind 11 13 with
  | true =>
   have h5:Al kind 10 13=true:=by simp[Al] at h4 ⊢;omega
   rw[h5,An,cond_true];exact Oa hn
  | false =>
   have h5:Al kind 10 13=false:=by rw[beq_eq_false_iff_ne] at h3;simp[Al] at h4 ⊢;omega
   rw[h5,Au];exact H.stay rfl
end


def P0 (m:Nat) (n:Nat):Place:=⟨(m:Int),0,List.replicate n ⟨Ib,[]⟩,[],[[],[],[]],false⟩
def za0 (i:Nat):Sess:=⟨((i % 3:Nat):Int),Ow,⟨0,0⟩,0⟩
def KZ (n s:Nat):World:=⟨(List.range 3).map fun i=>P0 i n,(List.range s).map za0,[],[]⟩
theorem zac {m n:Nat} (h1:1≤n) (h4:n≤4) (hm:m≤2):Ao (P0 m n)=true:=by
 have hc:∀ n:Fin 5,1≤n.val→∀ m:Fin 3,Ao (P0 m.val n.val)=true:=by decide +kernel
 exact hc ⟨n,by omega⟩ h1 ⟨m,by omega⟩
theorem XT {m n:Nat} (h1:1≤n) (h4:n≤4) (hm:m≤2):Roomy (P0 m n):=by
 have hz:∀ v,inCh (P0 m n).chain v→v.tag.time=0:=fun v ⟨x,hx,hv⟩=>by
  have hx:=(List.mem_replicate.1 hx).2;subst hx;rcases hv with hv | hv
  ·have:∀ v∈Ib,v.tag.time=0:=by simp[Ib,T8]
   exact this v hv
  ·simp at hv
 refine ⟨⟨[],by simp,by simp[P0],fun v hv ht=>by have:=hz v hv;omega⟩,fun v hv ht=>?_⟩;have hpos:0<(P0 m n).chain.length:=by show 0<(List.replicate _ _).length;rw[zdg];omega
 have hl:=D2 hpos;rw[hl] at hv;have:=hz v ⟨_,zbO (by omega),.inl hv⟩;omega
theorem zab {i:Nat}:FS (za0 i)=true:=by
 have hc:∀ m:Fin 3,FS ⟨((m.val:Nat):Int),Ow,⟨0,0⟩,0⟩=true:=by decide +kernel
 exact hc ⟨i % 3,Nat.mod_lt _ (by decide)⟩
theorem So {n s:Nat} (h1:1≤n) (h4:n≤4) (hs:s≤4):Good (KZ n s):=by
 have hp:∀ (i:Nat) (p:Place),(KZ n s).places[i]?=some p→i<3∧p=P0 i n:=fun i p hp=>by simp only[KZ,zdh,zcv] at hp;obtain ⟨j,hj,rfl⟩:=hp;obtain ⟨hi,rfl⟩:=Fh hj;rw[List.length_range] at hi;exact ⟨hi,by rw[List.getElem_range]⟩
 refine ⟨⟨by simp[KZ],by simp[KZ,hs],by simp[KZ],by simp[KZ],fun i p h=>?_,fun x hx=>?_,by simp[KZ],by simp[KZ],fun i p k g h hg=>?_⟩,fun p h=>?_⟩
 ·obtain ⟨hi,rfl⟩:=hp i p h;exact ⟨rfl,zac h1 h4 (by omega)⟩
 ·simp only[KZ,zdC] at hx;obtain ⟨i,_,rfl⟩:=hx;exact zab
 ·obtain ⟨hi,rfl⟩:=hp i p h;refine ⟨HB (KZ n s).places k,?_⟩;have:g = []:=by
   have:(P0 i n).got=List.replicate 3 []:=rfl;rw[this,List.getElem?_replicate] at hg;split at hg
   ·injection hg with hg;exact hg.symm
   ·cases hg
  rw[this];rfl
 ·obtain ⟨i,hi⟩:=zb5.1 h;obtain ⟨h3,rfl⟩:=hp i p hi;exact XT h1 h4 (by omega)
section
variable {lo:Nat}{h h':Heap}{w:World}{a1 a2 a3 a4 a:Pq}{c1 c2 c3 c4 c:Nq}{F F' F1 F2 F3 F4:List Nat}
theorem WR.of {cs:List V} (hw:TH false h cs w F) (hnd:F.Nodup) (hge:∀ y∈F,lo≤y) (hl:lo≤h.length):∃ s1 s2 s3 s4 a1 c1 a2 c2 a3 c3 a4 c4 F1 F2 F3 F4,cs = [s1,s2,s3,s4]∧F=F1++(F2++(F3++F4)) ∧
  (∀ {T:Type} (K:Pq→Nat→Nq→Option T),eS 6 s1 K=K a1 w.places.length c1)∧(∀ {T:Type} (K:Pq→Nat→Nq→Option T),eS 5 s2 K=K a2 w.sess.length c2) ∧
  (∀ {T:Type} (K:Pq→Nat→Nq→Option T),eS 9 s3 K=K a3 w.net.length c3)∧(∀ {T:Type} (K:Pq→Nat→Nq→Option T),eS 5 s4 K=K a4 w.hist.length c4)∧WR lo h w a1 c1 a2 c2 a3 c3 a4 c4 F1 F2 F3 F4:=by
 obtain ⟨s1,s2,s3,s4,F1,F2,F3,F4,rfl,rfl,r1,r2,r3,r4⟩:=hw;obtain ⟨a1,c1,e1,r1⟩:=r1.form;obtain ⟨a2,c2,e2,r2⟩:=r2.form;obtain ⟨a3,c3,e3,r3⟩:=r3.form;obtain ⟨a4,c4,e4,r4⟩:=r4.form;exact ⟨s1,s2,s3,s4,a1,c1,a2,c2,a3,c3,a4,c4,F1,F2,F3,F4,rfl,rfl,e1,e2,e3,e4,r1,r2,r3,r4,hnd,hge,hl⟩
theorem VH {m n:Nat} (h1:1≤n) (h4:n≤4) :
  ∃ raw b1 d1 b3 d3 h' F',Ae lo 306 [Iv (m:Nat),Iv (n:Nat)] h=some (.agg raw,h')∧raw = [Iv (m:Nat),Iv 0,.sl 2 b1 n d1,.sl 0 none 0 (some 0),.sl 1 b3 3 d3,.bool false] ∧
   RPlace false h' [Iv (m:Nat),Iv 0,.sl 2 b1 n d1,.sl 6 none 0 (some 0),.sl 1 b3 3 d3,.bool false] (P0 m n) F'∧Mv h [] h' F':=by
 obtain ⟨v,h2,F2,e2,r2,m2⟩:=Lg (lo:=h.length) (h:=h) h1 h4 (zbR _);obtain ⟨b1,d1,es,r2⟩:=r2.form;rw[zdg] at es r2;have mx:Mv h2 [] (h2 ++ [.rows 1 41 false [[.sl 0 none 0 (some 0)],[.sl 0 none 0 (some 0)],[.sl 0 none 0 (some 0)]]]) [h2.length]:=Mv.last;have m3:=m2.join mx (rnodes_ok.bd _ _ _ _ r2);refine ⟨_,b1,d1,some (h2.length,0),some 3,_,F2 ++ [h2.length],TN ?_,rfl,⟨_,_,_,F2,[],[h2.length],rfl,rfl,mx.keep0 rnodes_ok r2,Sli.nil,?_⟩,m3⟩
 ·rw[e2,Ac,AC,Ab,es,Ag]
 ·refine ⟨1,some (h2.length,0),some 3,rfl,rfl,[[.sl 0 none 0 (some 0)],[.sl 0 none 0 (some 0)],[.sl 0 none 0 (some 0)]],[[],[],[]],by simp,zbR 3,fun k hk=>by injection hk with hk;subst hk;exact ⟨zbR 3,zbR 3⟩,(fun hk=>by cases hk),?_,rfl⟩;exact ⟨Sli.nil,Sli.nil,Sli.nil,trivial⟩
end


section
variable {lo:Nat}{h h':Heap}{w:World}{a1 a2 a3 a4 a:Pq}{c1 c2 c3 c4 c:Nq}{F F' F1 F2 F3 F4:List Nat}
theorem zam {T:Type} (K:Pq→Nat→Nq→Option T):eS 6 (.sl 0 none 0 (some 0)) K=K none 0 (some 0):=rfl
theorem PC {n s:Nat} (h1:1≤n) (h4:n≤4) (hs:s≤1000) (hl:lo≤h.length):∃ cs h' F',Ae lo 245 [Iv (n:Nat),Iv (s:Nat)] h=some (.agg cs,h')∧TH false h' cs (KZ n s) F'∧Mv h [] h' F':=by
 obtain ⟨q1,x1,y1,h1',F1,e1,r1,m1⟩:=Dp (El:=RPlace false) rplace_ok (h:=h) (l:=List.range 3) (f:=fun i=>P0 i n) (lo:=lo) (R:=6) (e:=49) (bytes:=96) hl (by decide) (by decide)
  (fun i q a n1 c hh=>Dr lo (n:Nat) (s:Nat) (i:Nat) 0 none 0 (some 0) 0 none 0 (some 0) 0 none 0 (some 0) 0 none 0 (some 0) q a n1 c 0 none 0 (some 0) 0 none 0 (some 0) 0 none 0 (some 0) hh) (fun i hi q a n1 c hh hm=>by
   rw[List.length_range] at hi;obtain ⟨raw,b1,d1,b3,d3,h2,F2,e2,rfl,r2,m2⟩:=VH (lo:=lo) (h:=hh) (m:=i) h1 h4;refine ⟨[Iv (i:Nat),Iv 0,.sl 2 b1 n d1,.sl 6 none 0 (some 0),.sl 1 b3 3 d3,.bool false],F2,h2 ++ [.rows 6 49 false [[Iv (i:Nat),Iv 0,.sl 2 b1 n d1,.sl 6 none 0 (some 0),.sl 1 b3 3 d3,.bool false]]],by rw[List.getElem_range];exact Mv.snoc.keep0 rplace_ok r2,m2.trans (Mv.snoc' m2.nd),?_⟩;rw[Dr.e,Ak (by omega),e2,Ac,AC,Ab,Aa,Ab,Aa,Ab,Ah,Ab,zam,Ab,Ah,Ab,Aw,Ag,AZ,Am (by omega)])
 obtain ⟨q2,x2,y2,h2',F2,e2,r2,m2⟩:=Dp (El:=RSess false) Jd (h:=h1') (l:=List.range s) (f:=za0) (lo:=lo) (R:=5) (e:=105) (bytes:=56) (zbN hl m1.le) (by decide) (by rw[List.length_range];omega)
  (fun i q a n1 c hh=>Dq lo (s:Nat) (i:Nat) 0 none 0 (some 0) 0 none 0 (some 0) 0 none 0 (some 0) 0 none 0 (some 0) q1 x1 3 y1 q a n1 c 0 none 0 (some 0) 0 none 0 (some 0) hh) (fun i hi q a n1 c hh hm=>by
   rw[List.length_range] at hi;obtain ⟨h2,q3,e3,t3,m3⟩:=Kh (lo:=lo) (h:=hh);have ht:((i:Int).tmod 3)=((i % 3:Nat):Int):=(Int.ofNat_tmod i 3).symm;refine ⟨[Iv ((i % 3:Nat):Int),.sl 2 (some (q3,0)) 4 (some 4),Iv 0,Iv 0,Iv 0],[q3],h2 ++ [.rows 5 105 false [[Iv ((i % 3:Nat):Int),.sl 2 (some (q3,0)) 4 (some 4),Iv 0,Iv 0,Iv 0]]],by rw[List.getElem_range];exact ⟨_,rfl,Mv.snoc.keep0 rtags_ok t3⟩,m3.trans (Mv.snoc' m3.nd),?_⟩;rw[Dq.e,Ak (by omega),e3,Ac,AC,Ab,Ah,Ag,ht,AZ,Am (by omega)])
 rw[List.length_range] at e1 r1 e2 r2;have m3:=m1.join m2 ((Sli.ok rplace_ok).bd _ _ _ _ r1);refine ⟨[.sl q1 x1 3 y1,.sl q2 x2 s y2,.sl 0 none 0 (some 0),.sl 0 none 0 (some 0)],h2',F1++(F2++([] ++ [])),TJ ?_,⟨_,_,_,_,F1,F2,[],[],rfl,rfl,m2.keep0 rplaces_ok r1,r2,Sli.nil,Sli.nil⟩,by simpa using m3⟩;refine e1.trans ?_;rw[Dr.e,Ai (by omega)];refine e2.trans ?_;rw[Dq.e,Ai (by omega)]
theorem Wx {l:List Done} (hl:lo≤h.length) (hn:l.length≤1048576):∃ a' c' h' F',(∀ {T:Type} (K:V→Heap→Option T),CS lo 174 5 40 (.sl 5 (some (h.length,0)) 0 (some 0)) (l.map Done.cs) (h ++ [.rows 5 174 false []]) K=K (.sl 5 a' l.length c') h') ∧
  RDones false h' [.sl 5 a' l.length c'] l F'∧Mv h [] h' F':=by
 have hfl:(l.map fun _=>([]:List Nat)).flatten = []:=by simp
 obtain ⟨a',c',h',F',e,r,l1,fr,sub,nd⟩:=JN (h:=h) (lo:=lo) (El:=flat Done.cs) (R:=5) (e:=174) (bytes:=40) CK (rows:=l.map Done.cs) (l:=l) (Fs:=l.map fun _ => []) EAll.flat (by rw[hfl];simp) (by rw[hfl];simp) (by decide) (by omega) hl;refine ⟨a',c',h',F',e,r,by omega,fun y hy _=>fr y hy,nd,fun y hy=>?_⟩;rcases sub y hy with g | g
 ·rw[hfl] at g;simp at g
 ·exact .inr g
theorem Uk (r1:RPlaces false h [.sl 6 a1 w.places.length c1] w.places F1) (r2:RSesss false h [.sl 5 a2 w.sess.length c2] w.sess F2) (r3:RFrames false h [.sl 9 a3 w.net.length c3] w.net F3) (r4:RDones false h [.sl 5 a4 w.hist.length c4] w.hist F4) (hn:WM w) (hl:lo≤h.length) :
  ∃ cs h' F',Ae lo 125 [.agg (w.cs a1 c1 a2 c2 a3 c3 a4 c4)] h=some (.agg cs,h')∧TH false h' cs w F'∧Mv h [] h' F':=by
 obtain ⟨⟨n1,n1'⟩,⟨n2,n2'⟩,⟨n3,n3'⟩,n4⟩:=hn;obtain ⟨x4,y4,h4,K4,e4,t4,m4⟩:=Wx (lo:=lo) (h:=h) (l:=w.hist) hl n4;obtain ⟨q1,x1,y1,h5,K1,e1,t1,m1⟩:=Dp (El:=RPlace false) rplace_ok (h:=h4) (l:=w.places) (f:=id) (lo:=lo) (R:=6) (e:=49) (bytes:=96) (zbN hl m4.le) (by decide) (by omega)
  (fun i q a n c hh=>CZ lo (i:Nat) a1 w.places.length c1 a2 w.sess.length c2 a3 w.net.length c3 a4 w.hist.length c4 0 none 0 (some 0) 0 none 0 (some 0) 0 none 0 (some 0) 0 none 0 (some 0) q a n c 0 none 0 (some 0) 0 none 0 (some 0) x4 w.hist.length y4 hh) (fun i hi q a n c hh hm=>by
   obtain ⟨o,s1,s2,s3,b1,d1,b2,d2,b3,d3,H1,H2,H3,ha,ho,_,_,_,_,es1,es2,es3,p1,p2,p3,_⟩:=((m4.drop.trans hm).keep0 rplaces_ok r1).get hi;obtain ⟨raw,z1,t1,z2,t2,z3,t3,h6,K6,e6,n6,r6,m6⟩:=JB (lo:=lo) p1 p2 p3 (zbN (zbN hl m4.le) hm.le) (n1' _ (zbO hi));obtain ⟨v1,v2,v3,_,_,_,_,_,_,rfl,k1,k2,k3,eq⟩:=n6;obtain ⟨rfl,rfl,rfl,rfl,rfl,rfl⟩:=Ww eq;refine ⟨w.places[i].cs z1 t1 z2 t2 z3 t3,K6,h6 ++ [.rows 6 49 false [w.places[i].cs z1 t1 z2 t2 z3 t3]],Mv.snoc.keep0 rplace_ok r6,m6.trans (Mv.snoc' m6.nd),?_⟩;simp only[Place.cs] at e6;rw[CZ.e,Ak (by omega),Ad hi,ha,Af,A7,ho,Af,Ab,Aa,Ab,Aa,Ab,es1,Ab,es2,Ab,es3,Ab,Aw,Ag,e6,Ac,AC,Ab,Aa,Ab,Aa,Ab,k1,Ab,k2,Ab,k3,Ab,Aw,Ag,AZ,Am (by omega),← ha])
 have l5:=zbN (zbN hl m4.le) m1.le;have m41:=m4.drop.trans m1.drop;obtain ⟨q2,x2,y2,h6,K2,e2,t2,m2⟩:=Dp (El:=RSess false) Jd (h:=h5) (l:=w.sess) (f:=id) (lo:=lo) (R:=5) (e:=105) (bytes:=56) l5 (by decide) (by omega)
  (fun i q a n c hh=>CY lo (i:Nat) a1 w.places.length c1 a2 w.sess.length c2 a3 w.net.length c3 a4 w.hist.length c4 0 none 0 (some 0) 0 none 0 (some 0) 0 none 0 (some 0) 0 none 0 (some 0) q1 x1 w.places.length y1 q a n c 0 none 0 (some 0) x4 w.hist.length y4 hh) (fun i hi q a n c hh hm=>by
   obtain ⟨o,v,b1,d1,G,ha,ho,_,_,es,hp,_⟩:=((m41.trans hm).keep0 rsesss_ok r2).get hi;obtain ⟨z1,t1,h7,K7,e7,r7,m7⟩:=Jq (lo:=lo) (h:=hh) (l:=w.sess[i].past) (zbN l5 hm.le) (n2' _ (zbO hi));refine ⟨w.sess[i].cs z1 t1,K7,h7 ++ [.rows 5 105 false [w.sess[i].cs z1 t1]],⟨_,rfl,Mv.snoc.keep0 rtags_ok r7⟩,m7.trans (Mv.snoc' m7.nd),?_⟩;rw[CY.e,Ak (by omega),Ad hi,ha,Af,A7,ho,Af,Ab,Aa,Ab,es,Ab,Aa,Ab,Aa,Ab,Aa,Ag,RTags.rows (Mv.snoc.keep0 rtags_ok hp),e7,Ah,AZ,Am (by omega),← ha])
 have l6:=zbN l5 m2.le;have m42:=m41.trans m2.drop;obtain ⟨q3,x3,y3,h7,K3,e3,t3,m3⟩:=Dp (El:=WJ false) rframe_ok (h:=h6) (l:=w.net) (f:=id) (lo:=lo) (R:=9) (e:=172) (bytes:=96) l6 (by decide) (by omega)
  (fun i q a n c hh=>CX lo (i:Nat) a1 w.places.length c1 a2 w.sess.length c2 a3 w.net.length c3 a4 w.hist.length c4 0 none 0 (some 0) 0 none 0 (some 0) 0 none 0 (some 0) 0 none 0 (some 0) q1 x1 w.places.length y1 q2 x2 w.sess.length y2 q a n c x4 w.hist.length y4 hh) (fun i hi q a n c hh hm=>by
   obtain ⟨o,s,b1,d1,G,ha,ho,es,hp,_⟩:=((m42.trans hm).keep0 rframes_ok r3).get hi;obtain ⟨z1,t1,h7,K7,e7,r7,m7⟩:=CO (lo:=lo) (v:=w.net[i].ver) hp (zbN l6 hm.le) (n3' _ (zbO hi)).1;refine ⟨w.net[i].cs z1 t1,K7,h7 ++ [.rows 9 172 false [w.net[i].cs z1 t1]],⟨_,rfl,_,rfl,Mv.snoc.keep0 rtags_ok r7⟩,m7.trans (Mv.snoc' m7.nd),?_⟩;simp only[Ver.cs] at e7;rw[CX.e,Ak (by omega),Ad hi,ha,Af,A7,ho,Af,Ab,Aa,Ab,Aa,Ab,Aa,Ab,Aa,Ab,Aa,Ab,Aa,Ab,es,Ab,A8,Ab,Aw,Ag,e7,Ac,AC,Ab,Aa,Ab,Aa,Ab,Aa,Ab,Ah,Ab,A8,Ab,Aw,Ag,AZ,Am (by omega),← ha])
 rw[List.map_id] at t1 t2 t3;have bd1:=(Sli.ok rplace_ok).bd _ _ _ _ t1;have bd2:=(Sli.ok Jd).bd _ _ _ _ t2;have bd4:=rdones_ok.bd _ _ _ _ t4;have j1:=m4.join m1 bd4;have j2:=j1.join m2 (fun y hy=>by
  rcases zbP.1 hy with g | g
  ·exact zb1 (bd4 y g) m1.le
  ·exact bd1 y g)
 have j3:=j2.join m3 (fun y hy=>by
  rcases zbP.1 hy with g | g
  ·rcases zbP.1 g with g | g
   ·exact zb1 (bd4 y g) (zbN m1.le m2.le)
   ·exact zb1 (bd1 y g) m2.le
  ·exact bd2 y g)
 have hperm:(K1++(K2++(K3++K4))).Perm (((K4++K1)++K2)++K3):=by rw[zb4,zb4];exact YP
 refine ⟨_,h7,K1++(K2++(K3++K4)),Rr ?_,⟨_,_,_,_,K1,K2,K3,K4,rfl,rfl,(m2.drop.trans m3.drop).keep0 rplaces_ok t1,m3.keep0 rsesss_ok t2,t3,(m1.drop.trans (m2.drop.trans m3.drop)).keep0 rdones_ok t4⟩,j3.lean (hperm.nodup_iff.2 j3.nd) fun y hy=>hperm.mem_iff.1 hy⟩;obtain ⟨rows,Fs,k1,k2,_⟩:=(Mv.snoc (t := [.rows 5 174 false []])).keep0 rdones_ok r4 |>.rows;rw[k1,k2.of_flat.1,e4,Ah];refine e1.trans ?_;rw[CZ.e,Ai (by omega)];refine e2.trans ?_;rw[CY.e,Ai (by omega)];refine e3.trans ?_;rw[CX.e,Ai (by omega)]
end


section
variable {lo:Nat}{h h':Heap}{w:World}{a1 a2 a3 a4 a:Pq}{c1 c2 c3 c4 c:Nq}{F F' F1 F2 F3 F4:List Nat}{b n:Nat}
theorem Wn {n2 n3 n4:Nat} (r:Rd lo h b n) (hn:n≤500000) (hp:RPlaces false h [.sl 6 a1 w.places.length c1] w.places F1) (hb:b∉F1) (h3:w.places.length=3) (hgot:∀ p∈w.places,p.got.length=3) :
  ∃ (e:Event) (h':Heap),Ae lo 308 [.ptr (some (b,(0,0))),.agg [.sl 6 a1 w.places.length c1,.sl 5 a2 n2 c2,.sl 9 a3 n3 c3,.sl 5 a4 n4 c4]] h=some (.agg e.cs,h')∧e.text.size≤10∧Rd lo h' b (n+20)∧Mv h [b] h' [b]:=by
 suffices hk:∃ (e:Event) (h':Heap),_=some (V.agg e.cs,h')∧e.text.size≤10∧Rd lo h' b (n+20)∧Mv h [b] h' [b] from by obtain ⟨e,h',g,hr⟩:=hk;exact ⟨e,h',O1 g,hr⟩
 obtain ⟨at',h1,e1,g1,g1',r1,m1⟩:=pick r (by omega) 3;obtain ⟨x,h2,e2,g2,g2',r2,m2⟩:=pick r1 (by omega) 20;have m12:=m1.trans m2;have h03:=g1' (by omega);have told:∀ (y:Int) (k:Heap),Ae lo 66 [.ptr (some (b,(0,0))),Iv 3] h2=some (Iv y,k)→0≤y→y<3→Rd lo k b (n+1+1+1)→Mv h2 [b] k [b] →
   ∃ (e:Event) (h':Heap),(Aj (Ae lo 66 [.ptr (some (b,(0,0))),Iv 3] h2) fun v_0 h_1=>eI .i64 v_0 fun n_2=>Ap n_2 w.places.length (eO a1 fun o=>eO (ld h_1 o.1 (o.2+n_2.toNat) 4 1) fun o=>eC o fun o s=>eN s (eS 1 o fun o s b=>Ap at' s (eO o fun o=>eO (ld h_1 o.1 (o.2+at'.toNat) 0 1) fun o=>eC o fun o s=>eN s (eS 6 o fun o o s=>some (V.agg [Iv 10,Iv at',Iv n_2,Iv ((o:Nat):Int),.str ⟨⟨[]⟩⟩,.bool false],h_1))))))=some (V.agg e.cs,h')∧e.text.size≤10∧Rd lo h' b (n+20)∧Mv h [b] h' [b]:=by
  intro y k f lo1 hi1 q u;obtain ⟨j,rfl⟩:∃ j:Nat,y=(j:Int):=⟨y.toNat,by omega⟩;obtain ⟨i,rfl⟩:∃ i:Nat,at'=(i:Int):=⟨at'.toNat,by omega⟩;have hj:j<w.places.length:=by omega
  have hg3:=hgot _ (zbO hj);have m3:=m12.trans u;obtain ⟨o,s1,s2,s3,b1,d1,b2,d2,b3,d3,G1,G2,G3,ha,_,_,_,_,ho,_,_,es3,_,_,p3,_⟩:=(m3.keep rplaces_ok hp fun y hy hm=>hb (by rw[zbW] at hm;exact hm ▸ hy)).get hj;obtain ⟨o',row,G,ha',ho',hel,_⟩:=p3.read (show i<w.places[j].got.length by omega);obtain ⟨v,rfl⟩:∃ v,row = [v]:=by obtain ⟨R',a',c',e,_⟩:=id hel;exact ⟨_,e⟩
  obtain ⟨b4,d4,es4,_⟩:=hel.form;have ld4:ld k o'.1 (o'.2+i) 0 1=some [v]:=by rw[ho'];rfl
  rw[f,Ac,Aa,Ad hj,ha,Af,A7,ho,Af,Ab,Ag,es3,Ad (by omega),ha',Af,A7,ld4,Af,Ab,Ag,es4];exact ⟨⟨10,(i:Nat),(j:Nat),((w.places[j].got[i]'(by omega)).length:Nat),⟨⟨[]⟩⟩,false⟩,k,rfl,zch _,q.up (by omega),m3⟩
 rw[e1,Ac,Aa,e2,Ac,Aa];cases x==(0:Int) with
 | true =>rw[An];obtain ⟨y1,k1,f1,lo1,hi1,q1,u1⟩:=pick r2 (by omega) 4;obtain ⟨y2,k2,f2,lo2,hi2,q2,u2⟩:=pick q1 (by omega) 4;obtain ⟨y3,k3,f3,g3,q3,u3⟩:=JO q2 (by omega);rw[f1,Ac,Aa,f2,Ac,Aa,f3,Ac,A8];exact ⟨⟨1,y1,0,y2,y3,false⟩,k3,rfl,zbN (DW g3) (by decide),q3.up (by omega),((((m1.trans m2).trans u1).trans u2).trans u3)⟩
 | false =>
 rw[Au];cases x==(1:Int) with
 | true =>rw[An];obtain ⟨y1,k1,f1,lo1,hi1,q1,u1⟩:=pick r2 (by omega) 4;obtain ⟨y2,k2,f2,lo2,hi2,q2,u2⟩:=pick q1 (by omega) 4;obtain ⟨y3,k3,f3,g3,q3,u3⟩:=JO q2 (by omega);rw[f1,Ac,Aa,f2,Ac,Aa,f3,Ac,A8];exact ⟨⟨1,y1,0,y2,y3,false⟩,k3,rfl,zbN (DW g3) (by decide),q3.up (by omega),((((m1.trans m2).trans u1).trans u2).trans u3)⟩
 | false =>
 rw[Au];cases x==(2:Int) with
 | true =>rw[An];obtain ⟨y1,k1,f1,lo1,hi1,q1,u1⟩:=pick r2 (by omega) 4;obtain ⟨y2,k2,f2,lo2,hi2,q2,u2⟩:=pick q1 (by omega) 4;obtain ⟨y3,k3,f3,g3,q3,u3⟩:=JO q2 (by omega);rw[f1,Ac,Aa,f2,Ac,Aa,f3,Ac,A8];exact ⟨⟨1,y1,0,y2,y3,false⟩,k3,rfl,zbN (DW g3) (by decide),q3.up (by omega),((((m1.trans m2).trans u1).trans u2).trans u3)⟩
 | false =>
 rw[Au];cases x==(3:Int) with
 | true =>rw[An];obtain ⟨y1,k1,f1,lo1,hi1,q1,u1⟩:=pick r2 (by omega) 4;obtain ⟨y2,k2,f2,lo2,hi2,q2,u2⟩:=pick q1 (by omega) 4;rw[f1,Ac,Aa,f2,Ac,Aa];exact ⟨⟨1,y1,0,y2,⟨⟨[]⟩⟩,true⟩,k2,rfl,zch _,q2.up (by omega),(((m1.trans m2).trans u1).trans u2)⟩
 | false =>
 rw[Au];cases x==(4:Int) with
 | true =>rw[An];obtain ⟨y1,k1,f1,lo1,hi1,q1,u1⟩:=pick r2 (by omega) 4;rw[f1,Ac,Aa];exact ⟨⟨2,y1,0,0,⟨⟨[]⟩⟩,false⟩,k1,rfl,zch _,q1.up (by omega),((m1.trans m2).trans u1)⟩
 | false =>
 rw[Au];cases x==(5:Int) with
 | true =>rw[An];obtain ⟨y1,k1,f1,lo1,hi1,q1,u1⟩:=pick r2 (by omega) 4;rw[f1,Ac,Aa];exact ⟨⟨2,y1,0,0,⟨⟨[]⟩⟩,false⟩,k1,rfl,zch _,q1.up (by omega),((m1.trans m2).trans u1)⟩
 | false =>
 rw[Au];cases x==(6:Int) with
 | true =>rw[An];obtain ⟨y1,k1,f1,lo1,hi1,q1,u1⟩:=pick r2 (by omega) 4;rw[f1,Ac,Aa];exact ⟨⟨2,y1,0,0,⟨⟨[]⟩⟩,false⟩,k1,rfl,zch _,q1.up (by omega),((m1.trans m2).trans u1)⟩
 | false =>
 rw[Au];cases x==(7:Int) with
 | true =>rw[An];obtain ⟨y1,k1,f1,lo1,hi1,q1,u1⟩:=pick r2 (by omega) 4;obtain ⟨y2,k2,f2,lo2,hi2,q2,u2⟩:=pick q1 (by omega) 4;obtain ⟨y3,k3,f3,lo3,hi3,q3,u3⟩:=pick q2 (by omega) 4;rw[f1,Ac,Aa,f2,Ac,Aa,f3,Ac,Aa];exact ⟨⟨3,y1,y2,y3,⟨⟨[]⟩⟩,false⟩,k3,rfl,zch _,q3.up (by omega),((((m1.trans m2).trans u1).trans u2).trans u3)⟩
 | false =>
 rw[Au];cases x==(8:Int) with
 | true =>rw[An];obtain ⟨y1,k1,f1,lo1,hi1,q1,u1⟩:=pick r2 (by omega) 4;obtain ⟨y2,k2,f2,lo2,hi2,q2,u2⟩:=pick q1 (by omega) 4;obtain ⟨y3,k3,f3,lo3,hi3,q3,u3⟩:=pick q2 (by omega) 4;rw[f1,Ac,Aa,f2,Ac,Aa,f3,Ac,Aa];exact ⟨⟨3,y1,y2,y3,⟨⟨[]⟩⟩,false⟩,k3,rfl,zch _,q3.up (by omega),((((m1.trans m2).trans u1).trans u2).trans u3)⟩
 | false =>
 rw[Au];cases x==(9:Int) with
 | true =>rw[An];obtain ⟨y1,k1,f1,lo1,hi1,q1,u1⟩:=pick r2 (by omega) 4;obtain ⟨y2,k2,f2,lo2,hi2,q2,u2⟩:=pick q1 (by omega) 4;obtain ⟨y3,k3,f3,lo3,hi3,q3,u3⟩:=pick q2 (by omega) 4;rw[f1,Ac,Aa,f2,Ac,Aa,f3,Ac,Aa];exact ⟨⟨3,y1,y2,y3,⟨⟨[]⟩⟩,false⟩,k3,rfl,zch _,q3.up (by omega),((((m1.trans m2).trans u1).trans u2).trans u3)⟩
 | false =>
 rw[Au];cases x==(10:Int) with
 | true =>rw[An];obtain ⟨y1,k1,f1,g1,q1,u1⟩:=DV (e:=3) [4,5] (rows := [[Iv 4],[Iv 5]]) (len:=2) (cc:=some 2) r2 (by omega) rfl rfl (by decide);obtain ⟨y2,k2,f2,lo2,hi2,q2,u2⟩:=pick q1 (by omega) 4;obtain ⟨y3,k3,f3,lo3,hi3,q3,u3⟩:=pick q2 (by omega) 3;rw[f1,Ac,Aa,f2,Ac,Aa,f3,Ac,Aa];exact ⟨⟨y1,y2,y3,0,⟨⟨[]⟩⟩,false⟩,k3,rfl,zch _,q3.up (by omega),((((m1.trans m2).trans u1).trans u2).trans u3)⟩
 | false =>
 rw[Au];cases x==(11:Int) with
 | true =>rw[An];obtain ⟨y1,k1,f1,g1,q1,u1⟩:=DV (e:=3) [0,0,1,2] (rows := [[Iv 0],[Iv 0],[Iv 1],[Iv 2]]) (len:=4) (cc:=some 4) r2 (by omega) rfl rfl (by decide);rw[f1,Ac,Aa];exact ⟨⟨6,at',y1,0,⟨⟨[]⟩⟩,false⟩,k1,rfl,zch _,q1.up (by omega),((m1.trans m2).trans u1)⟩
 | false =>
 rw[Au];cases x==(12:Int) with
 | true =>rw[An];obtain ⟨y1,k1,f1,g1,q1,u1⟩:=DV (e:=3) [0,0,1,2] (rows := [[Iv 0],[Iv 0],[Iv 1],[Iv 2]]) (len:=4) (cc:=some 4) r2 (by omega) rfl rfl (by decide);rw[f1,Ac,Aa];exact ⟨⟨6,at',y1,0,⟨⟨[]⟩⟩,false⟩,k1,rfl,zch _,q1.up (by omega),((m1.trans m2).trans u1)⟩
 | false =>
 rw[Au];cases x==(13:Int) with
 | true =>rw[An];obtain ⟨y1,k1,f1,g1,q1,u1⟩:=DV (e:=3) [0,0,1,2] (rows := [[Iv 0],[Iv 0],[Iv 1],[Iv 2]]) (len:=4) (cc:=some 4) r2 (by omega) rfl rfl (by decide);rw[f1,Ac,Aa];exact ⟨⟨6,at',y1,0,⟨⟨[]⟩⟩,false⟩,k1,rfl,zch _,q1.up (by omega),((m1.trans m2).trans u1)⟩
 | false =>
 rw[Au];cases x==(14:Int) with
 | true =>rw[An];obtain ⟨y1,k1,f1,g1,q1,u1⟩:=DV (e:=3) [7,8] (rows := [[Iv 7],[Iv 8]]) (len:=2) (cc:=some 2) r2 (by omega) rfl rfl (by decide);obtain ⟨y2,k2,f2,lo2,hi2,q2,u2⟩:=pick q1 (by omega) 4;rw[f1,Ac,Aa,f2,Ac,Aa];exact ⟨⟨y1,at',y2,0,⟨⟨[]⟩⟩,false⟩,k2,rfl,zch _,q2.up (by omega),(((m1.trans m2).trans u1).trans u2)⟩
 | false =>
 rw[Au];cases x==(15:Int) with
 | true =>rw[An];obtain ⟨y1,k1,f1,lo1,hi1,q1,u1⟩:=pick r2 (by omega) 3;rw[f1,Ac,Aa];exact ⟨⟨9,at',y1,0,⟨⟨[]⟩⟩,false⟩,k1,rfl,zch _,q1.up (by omega),((m1.trans m2).trans u1)⟩
 | false =>
 rw[Au];cases x==(16:Int) with
 | true =>rw[An];obtain ⟨y1,k1,f1,lo1,hi1,q1,u1⟩:=pick r2 (by omega) 3;rw[f1,Ac,Aa];exact ⟨⟨9,at',y1,0,⟨⟨[]⟩⟩,false⟩,k1,rfl,zch _,q1.up (by omega),((m1.trans m2).trans u1)⟩
 | false =>
 rw[Au];cases x==(17:Int) with
 | true =>rw[An];obtain ⟨y1,k1,f1,lo1,hi1,q1,u1⟩:=pick r2 (by omega) 3;exact told y1 k1 f1 lo1 (hi1 (by omega)) q1 u1
 | false =>
 rw[Au];cases x==(18:Int) with
 | true =>rw[An];obtain ⟨y1,k1,f1,lo1,hi1,q1,u1⟩:=pick r2 (by omega) 3;exact told y1 k1 f1 lo1 (hi1 (by omega)) q1 u1
 | false =>
 rw[Au];obtain ⟨y1,k1,f1,g1,q1,u1⟩:=DV (e:=3) [11,11,11,12,13,0,14] (rows := [[Iv 11],[Iv 11],[Iv 11],[Iv 12],[Iv 13],[Iv 0],[Iv 14]]) (len:=7) (cc:=some 7) r2 (by omega) rfl rfl (by decide);obtain ⟨y2,k2,f2,lo2,hi2,q2,u2⟩:=pick q1 (by omega) 3;rw[f1,Ac,Aa,f2,Ac,Aa];exact ⟨⟨y1,y2,0,0,⟨⟨[]⟩⟩,false⟩,k2,rfl,zch _,q2.up (by omega),(((m1.trans m2).trans u1).trans u2)⟩
end


abbrev REvents:Rel (List Event):=Sli false 6 87 (flat Event.cs)
theorem revents_ok:REvents.Ok:=Sli.ok CK
section
variable {lo:Nat}{h h':Heap}{w:World}{a1 a2 a3 a4 a:Pq}{c1 c2 c3 c4 c:Nq}{E F F' F1 F2 F3 F4:List Nat}{b n:Nat}
theorem nd3 {E F:List Nat} (hn:(b ::(E++F)).Nodup):b∉E∧b∉F∧E.Nodup∧F.Nodup∧∀ y∈E,y∉F:=by rw[zbV,zbP,zbQ] at hn;simp only[not_or] at hn;exact ⟨hn.1.1,hn.1.2,hn.2.1,hn.2.2.1,fun y hy hm=>hn.2.2.2 y hy y hm rfl⟩
theorem zaL {E F:List Nat}:(b ::(E++F)).Perm (E++(b :: F)):=List.perm_middle.symm
theorem zaK {E F:List Nat}:(b ::(E++F)).Perm (F++(b :: E)):=by rw[show b ::(E++F)=(b :: E)++F from rfl];exact zcP
theorem Qu {e:Event} (h:e.text.size≤10):e.text.size≤1048576:=by omega
theorem U6 {most:Int} (hmost:most≤1000):∀ (r m:Nat) (hh:Heap) (w:World) (l:List Event) (a:Pq) (c:Nq) (E:List Nat) (x1:Pq) (y1:Nq) (x2:Pq) (y2:Nq) (x3:Pq) (y3:Nq) (x4:Pq) (y4:Nq) (K1 K2 K3 K4:List Nat) (n:Nat),
  (m:Int)+r=most→r≤120→n+21*r≤500000→Rd lo hh b n→REvents hh [.sl 6 a l.length c] l E→(∀ e∈l,e.text.size≤10)→l.length+r≤1000→WR lo hh w x1 y1 x2 y2 x3 y3 x4 y4 K1 K2 K3 K4→Good w→(b ::(E++(K1++(K2++(K3++K4))))).Nodup→(∀ y∈E,lo≤y) →
  ∃ (l':List Event) (a':Pq) (c':Nq) (h':Heap) (E':List Nat),Bj lo b 0 0 most a l.length c (m:Nat) x1 w.places.length y1 x2 w.sess.length y2 x3 w.net.length y3 x4 w.hist.length y4 hh=some (.sl 6 a' l'.length c',h')∧REvents h' [.sl 6 a' l'.length c'] l' E'∧(∀ e∈l',e.text.size≤10)∧l'.length≤1000 ∧
   Rd lo h' b (n+21*r)∧Mv hh (b ::(E++(K1++(K2++(K3++K4))))) h' (b :: E'):=by
 intro r;induction r with
 | zero =>
  intro m hh w l a c E x1 y1 x2 y2 x3 y3 x4 y4 K1 K2 K3 K4 n hm _ _ r0 re ht hl H hg hnd hE;refine ⟨l,a,c,hh,E,?_,re,ht,by omega,r0,(Mv.refl hnd).lean ?_ fun y hy=>?_⟩
  ·rw[Bj.e,Ai (by omega)]
  ·obtain ⟨k1,k2,k3,k4,k5⟩:=nd3 hnd;exact zbV.2 ⟨k1,k3⟩
  ·rw[zb0] at hy ⊢;exact hy.imp id fun g=>zcf _ g
 | succ r ih =>
  intro m hh w l a c E x1 y1 x2 y2 x3 y3 x4 y4 K1 K2 K3 K4 n hm hr hn r0 re ht hl H hg hnd hE;obtain ⟨k1,k2,k3,k4,k5⟩:=nd3 hnd;have hEb:=revents_ok.bd _ _ _ _ re;have hFb:=H.bd;obtain ⟨e,h1,e1,et,r1,m1⟩:=Wn (a2:=x2) (c2:=y2) (a3:=x3) (c3:=y3) (a4:=x4) (c4:=y4) (n2:=w.sess.length) (n3:=w.net.length) (n4:=w.hist.length) r0 (by omega) H.r1 (fun hm=>k2 (by simp[hm])) hg.ok.p3 (fun p hp=>by
   obtain ⟨i,hi⟩:=zb5.1 hp;exact (AK (hg.ok.place i p hi).2).2.2.1)
  have notb:∀ {G:List Nat},(∀ y∈G,y∈K1++(K2++(K3++K4)))→∀ y∈G,y ∉ [b]:=fun hG y hy hm=>by rw[zbW] at hm;exact k2 (hm ▸ hG y hy)
  have H1:WR lo h1 w x1 y1 x2 y2 x3 y3 x4 y4 K1 K2 K3 K4:=⟨m1.keep rplaces_ok H.r1 (notb fun y hy=>by simp[hy]),m1.keep rsesss_ok H.r2 (notb fun y hy=>by simp[hy]),m1.keep rframes_ok H.r3 (notb fun y hy=>by simp[hy]),m1.keep rdones_ok H.r4 (notb fun y hy=>by simp[hy]),H.nd,H.ge,zbN H.hl m1.le⟩;have re1:=m1.keep revents_ok re fun y hy hm=>k1 (by rw[zbW] at hm;exact hm ▸ hy);have M1:Mv hh (b ::(E++(K1++(K2++(K3++K4))))) h1 (b ::(E++(K1++(K2++(K3++K4))))):=m1.mid (A := [b]) (B:=E++(K1++(K2++(K3++K4)))) (A' := [b]) (.refl _) hnd (fun y hy=>(zbP.1 hy).elim (hEb y) (hFb y)) (.refl _);obtain ⟨cs2,h2,F2,e2,⟨z1,t1,z2,t2,z3,t3,z4,t4,Q1,Q2,Q3,Q4,rfl,rfl,H2⟩,m2,N2⟩:=R8 (e:=e) H1 hg (Qu et);have hg2:Good (T7 w e):=W5 hg;have hEb1:=revents_ok.bd _ _ _ _ re1;have re2:=m2.keep revents_ok re1 k5;have r2:=r1.keep m2 k2 H.ge;have M2:Mv h1 (b ::(E++(K1++(K2++(K3++K4))))) h2 (b ::(E++(Q1++(Q2++(Q3++Q4))))):=m2.mid zaK hnd (fun y hy=>by
   rw[zb0] at hy;rcases hy with rfl | hy
   ·exact r1.lt
   ·exact hEb1 y hy) zaK
  have M12:=M1.trans M2;have hnd2:=M12.nd;obtain ⟨j1,j2,j3,j4,j5⟩:=nd3 hnd2;have more:∀ (h3:Heap) (n3:Nat),Rd lo h3 b n3→n3+21*r≤500000→REvents h3 [.sl 6 a l.length c] l E→WR lo h3 (T7 w e) z1 t1 z2 t2 z3 t3 z4 t4 Q1 Q2 Q3 Q4→n3≤n+21 →
    ∃ (l':List Event) (a':Pq) (c':Nq) (h':Heap) (E':List Nat),(At 6 (h3 ++ [.rows 6 87 false [e.cs]]) (.sl 6 (some (h3.length,0)) 1 (some 1)) fun x=>CS lo 87 6 56 (.sl 6 a l.length c) x (h3 ++ [.rows 6 87 false [e.cs]]) fun x d=>eS 6 x fun x q f=>Bj lo b 0 0 most x q f ((m+1:Nat):Int) z1 (T7 w e).places.length t1 z2 (T7 w e).sess.length t2 z3 (T7 w e).net.length t3 z4 (T7 w e).hist.length t4 d)=some (.sl 6 a' l'.length c',h')∧REvents h' [.sl 6 a' l'.length c'] l' E'∧(∀ e∈l',e.text.size≤10)∧l'.length≤1000 ∧
     Rd lo h' b (n+21*(r+1))∧Mv h3 (b ::(E++(Q1++(Q2++(Q3++Q4))))) h' (b :: E'):=by
   intro h3 n3 r3 hn3 re3 H3 hnn;have hEb3:=revents_ok.bd _ _ _ _ re3;obtain ⟨a6,c6,h6,E6,e6,r6,m6⟩:=D9 (lo:=lo) (bytes:=56) (e:=87) (El:=flat Event.cs) CK re3 (row:=e.cs) (x:=e) (G := []) (h1:=h3 ++ [.rows 6 87 false [e.cs]])
    ⟨rfl,rfl⟩ Mv.snoc j3 hE H3.hl (by decide) (by omega)
   have hll:(l ++ [e]).length=l.length+1:=by simp
   rw[← hll] at r6 e6;have H6:WR lo h6 (T7 w e) z1 t1 z2 t2 z3 t3 z4 t4 Q1 Q2 Q3 Q4:=⟨m6.keep rplaces_ok H3.r1 (fun y hy hm=>j5 y hm (by simp[hy])),m6.keep rsesss_ok H3.r2 (fun y hy hm=>j5 y hm (by simp[hy])),m6.keep rframes_ok H3.r3 (fun y hy hm=>j5 y hm (by simp[hy])),m6.keep rdones_ok H3.r4 (fun y hy hm=>j5 y hm (by simp[hy])),H3.nd,H3.ge,zbN H3.hl m6.le⟩;have M6:Mv h3 (b ::(E++(Q1++(Q2++(Q3++Q4))))) h6 (b ::(E6++(Q1++(Q2++(Q3++Q4))))):=m6.mid zaL hnd2 (fun y hy=>by
    rw[zb0] at hy;rcases hy with rfl | hy
    ·exact r3.lt
    ·exact H3.bd y hy) zaL
   obtain ⟨l',a',c',h',E',f1,f2,f3,f4,f5,f6⟩:=ih (m+1) h6 (T7 w e) (l ++ [e]) a6 c6 E6 _ _ _ _ _ _ _ _ _ _ _ _ n3 (by omega) (by omega) (by omega) (r3.keep m6 j1 hE) r6 (fun x hx=>by
    rcases zbP.1 hx with g | g
    ·exact ht x g
    ·rw[zbW] at g;subst g;exact et) (by omega) H6 hg2 M6.nd (m6.ge H3.hl hE)
   refine ⟨l',a',c',h',E',?_,f2,f3,f4,f5.up (by omega),M6.trans f6⟩;rw[AZ,e6,Ah];exact f1
  simp only[Event.cs] at e1;have e2':=e2;simp only[Event.cs,World.cs] at e2';rw[Bj.e,Ak (by omega),e1,Ac,AC,Ab,Aa,Ab,Aa,Ab,Aa,Ab,Aa,Ab,A8,Ab,Aw,Ag,e2',Ac,Ge,Ab,AC,Ab,Ah,Ab,Ah,Ab,Ah,Ab,Ah,Ag,Ab,Av];cases hs:(Hy w e).isSome with
  | true =>obtain ⟨l',a',c',h',E',f1,f2,f3,f4,f5,f6⟩:=more h2 (n+20) r2 (by omega) re2 H2 (by omega);refine ⟨l',a',c',h',E',?_,f2,f3,f4,f5,M12.trans f6⟩;rw[An,Ag,Am (by omega)];exact f1
  | false =>
   have hnone:Hy w e=none:=by
    cases hx:Hy w e with
    | none=>rfl
    | some y=>rw[hx] at hs;cases hs
   have hw:T7 w e=w:=by unfold T7;rw[hnone];rfl
   obtain ⟨v,h3,e3,_,_,r3,m3⟩:=pick r2 (by omega) 6;have notb2:∀ {G:List Nat},(∀ y∈G,y∈Q1++(Q2++(Q3++Q4)))→∀ y∈G,y ∉ [b]:=fun hG y hy hm=>by rw[zbW] at hm;exact j2 (hm ▸ hG y hy)
   have H3:WR lo h3 (T7 w e) z1 t1 z2 t2 z3 t3 z4 t4 Q1 Q2 Q3 Q4:=⟨m3.keep rplaces_ok H2.r1 (notb2 fun y hy=>by simp[hy]),m3.keep rsesss_ok H2.r2 (notb2 fun y hy=>by simp[hy]),m3.keep rframes_ok H2.r3 (notb2 fun y hy=>by simp[hy]),m3.keep rdones_ok H2.r4 (notb2 fun y hy=>by simp[hy]),H2.nd,H2.ge,zbN H2.hl m3.le⟩;have re3:=m3.keep revents_ok re2 fun y hy hm=>j1 (by rw[zbW] at hm;exact hm ▸ hy);have M3:Mv h2 (b ::(E++(Q1++(Q2++(Q3++Q4))))) h3 (b ::(E++(Q1++(Q2++(Q3++Q4))))):=m3.mid (A := [b]) (B:=E++(Q1++(Q2++(Q3++Q4)))) (A' := [b]) (.refl _) hnd2 (fun y hy=>(zbP.1 hy).elim (revents_ok.bd _ _ _ _ re2 y) (H2.bd y)) (.refl _);have M123:=M12.trans M3;rw[Au,Ag,e3,Ac,Aa];by_cases hv:v>0
   ·have eq:=N2 hnone;rw[hw] at eq H3;simp only[World.cs,List.cons.injEq,V.sl.injEq,true_and,and_true] at eq;obtain ⟨⟨rfl,rfl⟩,⟨rfl,rfl⟩,⟨rfl,rfl⟩,rfl,rfl⟩:=eq;obtain ⟨l',a',c',h',E',f1,f2,f3,f4,f5,f6⟩:=ih (m+1) h3 w l a c E _ _ _ _ _ _ _ _ _ _ _ _ (n+21) (by omega) (by omega) (by omega) r3 re3 ht (by omega) H3 hg M123.nd hE;refine ⟨l',a',c',h',E',?_,f2,f3,f4,f5.up (by omega),M123.trans f6⟩;rw[Ak hv,Am (by omega)];exact f1
   ·obtain ⟨l',a',c',h',E',f1,f2,f3,f4,f5,f6⟩:=more h3 (n+21) r3 (by omega) re3 H3 (by omega);refine ⟨l',a',c',h',E',?_,f2,f3,f4,f5,M123.trans f6⟩;rw[Ai hv,Am (by omega)];exact f1
theorem Ni {cs:List V} (hw:TH false h cs w F) (m:Mv h' [] h F) (hl':lo≤h'.length):∃ s1 s2 s3 s4 a1 c1 a2 c2 a3 c3 a4 c4 F1 F2 F3 F4,cs = [s1,s2,s3,s4]∧F=F1++(F2++(F3++F4)) ∧
  (∀ {T:Type} (K:Pq→Nat→Nq→Option T),eS 6 s1 K=K a1 w.places.length c1)∧(∀ {T:Type} (K:Pq→Nat→Nq→Option T),eS 5 s2 K=K a2 w.sess.length c2) ∧
  (∀ {T:Type} (K:Pq→Nat→Nq→Option T),eS 9 s3 K=K a3 w.net.length c3)∧(∀ {T:Type} (K:Pq→Nat→Nq→Option T),eS 5 s4 K=K a4 w.hist.length c4)∧WR lo h w a1 c1 a2 c2 a3 c3 a4 c4 F1 F2 F3 F4 :=
 WR.of hw m.nd (m.ge hl' (by simp)) (zbN hl' m.le)
theorem PH {n0 s0 most:Nat} (h1:1≤n0) (h4:n0≤4) (hs:s0≤4) (hmost:most≤120) (r:Rd lo h b n) (hn:n≤300000) (hl:lo≤h.length) :
  ∃ (l:List Event) (a:Pq) (c:Nq) (h':Heap) (E:List Nat),Ae lo 247 [.ptr (some (b,(0,0))),Iv (n0:Nat),Iv (s0:Nat),Iv (most:Nat)] h=some (.sl 6 a l.length c,h')∧REvents h' [.sl 6 a l.length c] l E∧(∀ e∈l,e.text.size≤10)∧l.length≤1000 ∧
   Rd lo h' b (n+3000)∧Mv h [b] h' (b :: E):=by
 obtain ⟨cs,h2,F2,e2,w2,m2⟩:=PC (lo:=lo) (h:=h) h1 h4 (by omega:s0≤1000) hl;obtain ⟨s1,s2,s3,s4,a1,c1,a2,c2,a3,c3,a4,c4,K1,K2,K3,K4,rfl,rfl,es1,es2,es3,es4,H⟩:=Ni w2 m2 hl;have mx:Mv h2 [] (h2 ++ [.rows 6 87 false []]) [h2.length]:=Mv.last;have hb2:=H.bd;have H3:WR lo (h2 ++ [.rows 6 87 false []]) (KZ n0 s0) a1 c1 a2 c2 a3 c3 a4 c4 K1 K2 K3 K4:=⟨mx.keep0 rplaces_ok H.r1,mx.keep0 rsesss_ok H.r2,mx.keep0 rframes_ok H.r3,mx.keep0 rdones_ok H.r4,H.nd,H.ge,zbN H.hl mx.le⟩;have hre:REvents (h2 ++ [.rows 6 87 false []]) [.sl 6 (some (h2.length,0)) 0 (some 0)] [] [h2.length]:=Sli.fresh (zbR _);have hblt:=r.lt;have hbF:b∉K1++(K2++(K3++K4)):=fun hm=>by have:=m2.new b hm;omega
 have hnd:(b ::([h2.length]++(K1++(K2++(K3++K4))))).Nodup:=by have:=m2.le;rw[zbV,zcm,zco,zbV,zb0];exact ⟨fun hm=>hm.elim (fun g=>by omega) hbF,fun hm=>by have:=hb2 _ hm;omega,m2.nd⟩
 have r3:=(r.keep m2 (by simp) (by simp)).keep mx (by simp) (by simp);obtain ⟨l,a,c,h',E,f1,f2,f3,f4,f5,f6⟩:=U6 (most:=(most:Nat)) (by omega) most 0 _ (KZ n0 s0) [] _ _ _ _ _ _ _ _ _ _ _ _ _ _ _ n (by omega) (by omega) (by omega) r3 hre (by simp) (by simp;omega) H3 (So h1 h4 hs) hnd (by simp;exact zbN hl m2.le);refine ⟨l,a,c,h',E,NY ?_,f2,f3,f4,f5.up (by omega),?_⟩
 ·rw[e2,Ac,AC,Ab,es1,Ab,es2,Ab,es3,Ab,es4,Ag];exact f1
 ·have M:Mv h [b] (h2 ++ [.rows 6 87 false []]) (b ::([h2.length]++(K1++(K2++(K3++K4))))):=by
   refine ⟨zbN m2.le mx.le,fun y hy hF=>?_,hnd,fun y hy=>?_⟩
   ·rw[mx.fr y (zb1 hy m2.le) (by simp),m2.fr y hy (by simp)]
   ·simp only[zb0,zcm,zco] at hy;rcases hy with rfl | rfl | hy
    ·exact .inl (by simp)
    ·exact .inr ⟨m2.le,by simp⟩
    ·have:=hb2 y hy;exact .inr ⟨m2.new y hy,by rw[zbX];omega⟩
  exact M.trans f6
end


variable {l:List Event}
section
variable {lo:Nat}{h h':Heap}{w:World}{a1 a2 a3 a4 a:Pq}{c1 c2 c3 c4 c:Nq}{E F F' F1 F2 F3 F4:List Nat}{b n:Nat}
theorem W4 (hg:Good w):WM w:=by
 have h1:=hg.ok.p3;have h2:=hg.ok.s4;have h3:=hg.ok.n12;have h4:=hg.ok.h80;refine ⟨⟨by omega,fun p hp=>?_⟩,⟨by omega,fun s hs=>?_⟩,⟨by omega,fun f hf=>?_⟩,by omega⟩
 ·obtain ⟨i,hi⟩:=zb5.1 hp;exact (Fe (Cg (hg.ok.place i p hi).2) (by decide) (by decide) (by decide)).1
 ·have:=EE (DG (hg.ok.sess s hs)).2.1;omega
 ·have:=(On hg (hg.ok.net f hf)).1;have h1:=this.1;have h2:=this.2;omega
theorem X7 {f:Frame}:(MA w f).sess=w.sess:=by unfold MA;split<;>rfl
theorem XC {w':World}{e:Event} (he:Hy w e=some w'):w'.sess.length=w.sess.length:=by
 unfold Hy Gh GK NS Je MP UH Ih Sd NH at he;simp only[cond_eq_ite] at he
 repeat' split at he
 all_goals first
  | (cases he;done)
  | (injection he with he;subst he;simp[setS,setP,setN,X7];done)
  | (rw[zcv] at he;obtain ⟨q,_,rfl⟩:=he;rfl)
theorem zaA {e:Event}:(T7 w e).sess.length=w.sess.length:=by
 unfold T7;cases he:Hy w e with
 | none=>rfl
 | some w'=>exact XC he
theorem S0 (r:Rd lo h b n) (hn:n≤290000) (hl:lo≤h.length) :
  ∃ (n0 s0:Nat) (l:List Event) (a:Pq) (c:Nq) (h':Heap) (E:List Nat),Ae lo 150 [.ptr (some (b,(0,0)))] h=some (.tup [Iv (n0:Nat),Iv (s0:Nat),.sl 6 a l.length c],h')∧(1≤n0∧n0≤4)∧(1≤s0∧s0≤4)∧REvents h' [.sl 6 a l.length c] l E∧(∀ e∈l,e.text.size≤10)∧l.length≤1000 ∧
   Rd lo h' b (n+3010)∧Mv h [b] h' (b :: E):=by
 obtain ⟨v,h1,e1,g1,g1',r1,m1⟩:=pick r (by omega) 4;obtain ⟨u,h2,e2,g2,g2',r2,m2⟩:=pick r1 (by omega) 4;obtain ⟨k,h3,e3,hk,r3,m3⟩:=DV (e:=3) [0,20,60,120] (rows := [[Iv 0],[Iv 20],[Iv 60],[Iv 120]]) (len:=4) (cc:=some 4) r2 (by omega) rfl rfl (by decide);have hv:=g1' (by omega);have hu:=g2' (by omega);have hk':0≤k∧k≤120:=by simp at hk;omega
 obtain ⟨q,rfl⟩:∃ q:Nat,k=(q:Int):=⟨k.toNat,by omega⟩;obtain ⟨n0,hn0⟩:∃ n0:Nat,1+v=(n0:Int):=⟨(1+v).toNat,by omega⟩;obtain ⟨s0,hs0⟩:∃ s0:Nat,1+u=(s0:Int):=⟨(1+u).toNat,by omega⟩;have m13:=(m1.trans m2).trans m3;obtain ⟨l,a,c,h4,E,e4,f2,f3,f4,f5,f6⟩:=PH (n0:=n0) (s0:=s0) (most:=q) (by omega) (by omega) (by omega) (by omega) r3 (by omega) (zbN hl m13.le);refine ⟨n0,s0,l,a,c,h4,E,QQ ?_,⟨by omega,by omega⟩,⟨by omega,by omega⟩,f2,f3,f4,f5.up (by omega),m13.trans f6⟩;rw[e1,Ac,Aa,e2,Ac,Aa,e3,Ac,Aa,wr (by omega) (by omega),wr (by omega) (by omega),hn0,hs0,e4,Ac,Ah]
theorem XK (ht:∀ e∈l,e.text.size≤10) (hl6:l.length≤1000):∀ (r m:Nat) (hh:Heap) (w:World) (E:List Nat) (x1:Pq) (y1:Nq) (x2:Pq) (y2:Nq) (x3:Pq) (y3:Nq) (x4:Pq) (y4:Nq) (K1 K2 K3 K4:List Nat),
  m+r=l.length→REvents hh [.sl 6 a l.length c] l E→WR lo hh w x1 y1 x2 y2 x3 y3 x4 y4 K1 K2 K3 K4→Good w→(∀ y∈E,y∉K1++(K2++(K3++K4))) →
  ∃ cs' w' h' F',B8 lo a l.length c (m:Nat) 0 none 0 (some 0) 0 none 0 (some 0) 0 none 0 (some 0) 0 none 0 (some 0) x1 w.places.length y1 x2 w.sess.length y2 x3 w.net.length y3 x4 w.hist.length y4 hh=some (.agg cs',h')∧OQ lo h' cs' w' F'∧(Good w'∧w'.sess.length=w.sess.length)∧Mv hh (K1++(K2++(K3++K4))) h' F':=by
 intro r;induction r with
 | zero =>intro m hh w E x1 y1 x2 y2 x3 y3 x4 y4 K1 K2 K3 K4 hm re H hg hd;exact ⟨_,w,hh,_,by rw[B8.e,Ai (by omega)],H.at,⟨hg,rfl⟩,Mv.refl H.nd⟩
 | succ r ih =>
  intro m hh w E x1 y1 x2 y2 x3 y3 x4 y4 K1 K2 K3 K4 hm re H hg hd;by_cases h60:(m:Int)<60
  ·have hml:m<l.length:=by omega
   obtain ⟨o,row,G,ha,hld,⟨rfl,_⟩,_⟩:=re.read hml;obtain ⟨cs2,h2,F2,e2,⟨z1,t1,z2,t2,z3,t3,z4,t4,Q1,Q2,Q3,Q4,rfl,rfl,H2⟩,m2,_⟩:=R8 (e:=l[m]) H hg (Qu (ht _ (zbO hml)));have re2:=m2.keep revents_ok re hd;have hEb:=revents_ok.bd _ _ _ _ re;obtain ⟨cs',w',h',F',f1,f2,f3,f4⟩:=ih (m+1) h2 (T7 w l[m]) E _ _ _ _ _ _ _ _ _ _ _ _ (by omega) re2 H2 (W5 hg) (fun y hy hm=>by
    rcases m2.sub y hm with g | g
    ·exact hd y hy g
    ·have:=hEb y hy;omega)
   have hld6:ld hh o.1 (o.2+m) 0 6=some l[m].cs:=by rw[hld];exact HW rfl
   simp only[Event.cs] at hld6;simp only[Event.cs,World.cs] at e2;refine ⟨cs',w',h',F',?_,f2,⟨f3.1,by rw[f3.2,zaA]⟩,m2.trans f4⟩;rw[B8.e,Ak (by omega),Ak h60,Ad hml,ha,Af,A7,hld6,Af,Ab,Aa,Ab,Aa,Ab,Aa,Ab,Aa,Ab,A8,Ab,Aw,Ag,e2,Ac,Ge,Ab,AC,Ab,Ah,Ab,Ah,Ab,Ah,Ab,Ah,Ag,Ab,Av,Ag,Am (by omega),← ha];cases (Hy w l[m]).isSome
   ·rw[Au];exact f1
   ·rw[An];exact f1
  ·exact ⟨_,w,hh,_,by rw[B8.e,Ak (by omega),Ai h60],H.at,⟨hg,rfl⟩,Mv.refl H.nd⟩
theorem Uj {n0 s0:Nat} (h1:1≤n0) (h4:n0≤4) (hs:s0≤4) (re:REvents h [.sl 6 a l.length c] l E) (ht:∀ e∈l,e.text.size≤10) (hl6:l.length≤1000) (hl:lo≤h.length) :
  ∃ cs' w' h' F',Ae lo 145 [Iv (n0:Nat),Iv (s0:Nat),.sl 6 a l.length c] h=some (.agg cs',h')∧OQ lo h' cs' w' F'∧(Good w'∧w'.sess.length=s0)∧Mv h [] h' F':=by
 obtain ⟨cs,h2,F2,e2,w2,m2⟩:=PC (lo:=lo) (h:=h) h1 h4 (by omega:s0≤1000) hl;obtain ⟨s1,s2,s3,s4,a1,c1,a2,c2,a3,c3,a4,c4,K1,K2,K3,K4,rfl,rfl,es1,es2,es3,es4,H⟩:=Ni w2 m2 hl;have hEb:=revents_ok.bd _ _ _ _ re;obtain ⟨cs',w',h',F',f1,f2,f3,f4⟩:=XK ht hl6 l.length 0 h2 (KZ n0 s0) E _ _ _ _ _ _ _ _ _ _ _ _ (by omega) (m2.keep0 revents_ok re) H (So h1 h4 hs) (fun y hy hm=>by have:=m2.new y hm;have:=hEb y hy;omega);refine ⟨cs',w',h',F',Rp ?_,f2,⟨f3.1,by rw[f3.2];simp[KZ]⟩,m2.trans f4⟩;rw[e2,Ac,AC,Ab,es1,Ab,es2,Ab,es3,Ab,es4,Ag];exact f1
theorem Vy (r:Rd lo h b n) (hn:n≤290000) (hl:lo≤h.length) :
  ∃ (w:World) (a1:Pq) (c1:Nq) (a2:Pq) (c2:Nq) (a3:Pq) (c3:Nq) (a4:Pq) (c4:Nq) (h':Heap) (F1 F2 F3 F4:List Nat),Ae lo 77 [.ptr (some (b,(0,0)))] h=some (.agg (w.cs a1 c1 a2 c2 a3 c3 a4 c4),h')∧WR lo h' w a1 c1 a2 c2 a3 c3 a4 c4 F1 F2 F3 F4∧Good w∧1≤w.sess.length∧Rd lo h' b (n+3010)∧Mv h [b] h' (b ::(F1++(F2++(F3++F4)))):=by
 obtain ⟨n0,s0,l,a,c,h1,E,e1,hn0,hs0,re,ht,hl6,r1,m1⟩:=S0 r hn hl;have l1:=zbN hl m1.le;obtain ⟨cs2,w,h2,F2,e2,⟨z1,t1,z2,t2,z3,t3,z4,t4,Q1,Q2,Q3,Q4,rfl,rfl,H2⟩,⟨hg,hsl⟩,m2⟩:=Uj hn0.1 hn0.2 hs0.2 re ht hl6 l1;obtain ⟨cs,h3,K,e3,w3,m3⟩:=Uk (lo:=lo) H2.r1 H2.r2 H2.r3 H2.r4 (W4 hg) H2.hl;obtain ⟨s1,s2,s3,s4,a1,c1,a2,c2,a3,c3,a4,c4,K1,K2,K3,K4,rfl,rfl,es1,es2,es3,es4,H⟩:=Ni w3 m3 H2.hl;have m12:Mv h [b] h2 [b]:=(m1.lean (F'' := [b]) (by simp) (by simp)).trans (m2.drop.aside (F := []) (F' := []) (G := [b]) (by simp) (by simp;exact r1.lt));have m13:Mv h [b] h3 (b ::(K1++(K2++(K3++K4)))):=by have:=m12.join m3 (by simp;exact zb1 r1.lt m2.le);simpa using this
 refine ⟨w,a1,c1,a2,c2,a3,c3,a4,c4,h3,K1,K2,K3,K4,OX ?_,H,hg,?_,(r1.keep m2 (by simp) (by simp)).keep m3 (by simp) (by simp),m13⟩
 ·simp only[World.cs] at e2 e3;rw[e1,Ac,Ge,Ab,Aa,Ab,Aa,Ab,Ah,Ag,e2,Ac,AC,Ab,Ah,Ab,Ah,Ab,Ah,Ab,Ah,Ag,e3,Ac,AC,Ab,es1,Ab,es2,Ab,es3,Ab,es4,Ag]
 ·omega
end


variable {α:Type}{El:Rel α}{l:List α}
section
variable {lo:Nat}{h h':Heap}{w:World}{a1 a2 a3 a4 a:Pq}{c1 c2 c3 c4 c:Nq}{E F F' F1 F2 F3 F4:List Nat}{b n:Nat}
theorem Sli.toRo {R e e':Nat}{m:Nat} (hs:Sli false R e El h [.sl R a m c] l F):Sli true R e' El h [.sl R a m c] l F:=by
 obtain ⟨R1,a1,c1,e1,g⟩:=hs;injection e1 with e1 _;injection e1 with e0 e2 e4 e3;subst e2;subst e3;subst e4;cases a with
 | none =>obtain ⟨rfl,_,rfl⟩:=g;exact ⟨R,none,c,rfl,rfl,.inl ⟨rfl,rfl⟩⟩
 | some p =>obtain ⟨b,i⟩:=p;obtain ⟨_,rs,Fs,g1,g2,_,_,g5,rfl⟩:=g;exact ⟨R,some (b,i),c,rfl,rfl,.inr ⟨b,i,rs,Fs,rfl,by simp[Heap.rows?,g1],g2,g5,rfl⟩⟩
theorem Sli.one_on {R e e':Nat} (hs:Sli false R e El h [.sl R a l.length c] l F) (h2:2≤l.length) :
  ∃ a' c' F',(∀ {T:Type} (K:Pq→Nat→Nq→Option T),As a l.length c (some (Iv 1)) none none K=K a' (l.drop 1).length c')∧Sli true R e' El h [.sl R a' (l.drop 1).length c'] (l.drop 1) F'∧∀ y∈F',y∈F:=by
 obtain ⟨R1,a1,c1,e1,g⟩:=hs;injection e1 with e1 _;injection e1 with e0 e2 e4 e3;subst e2;subst e3;cases a with
 | none=>obtain ⟨hl,_⟩:=g;rw[hl] at h2;simp at h2
 | some p =>
  obtain ⟨b,i⟩:=p;obtain ⟨_,rs,Fs,g1,g2,g3,_,g5,rfl⟩:=g;have hdl:(l.drop 1).length=l.length - 1:=by simp
  have hsub:∀ y∈(Fs.drop 1).flatten,y∈Fs.flatten:=fun y hy=>flat_drop.subset hy;have hrel:Sli true R e' El h [.sl R (some (b,i+1)) (l.drop 1).length (match c with | some k=>some (k - 1) | none=>none)] (l.drop 1) (b ::(Fs.drop 1).flatten):=by refine ⟨R,some (b,i+1),_,rfl,rfl,.inr ⟨b,i+1,rs,Fs.drop 1,rfl,by simp[Heap.rows?,g1],by omega,?_,rfl⟩⟩;have:=g5.drop 1;rw[List.drop_take,zc4] at this;rw[hdl];exact this
  cases c with
  | none =>
   refine ⟨some (b,i+1),none,b ::(Fs.drop 1).flatten,fun K=>?_,hrel,fun y hy=>?_⟩
   ·simp only[As,EC,HT,IG,zcQ,Aa];rw[Cj ⟨by omega,by omega⟩];rw[hdl];rfl
   ·rw[zb0] at hy ⊢;exact hy.imp id (hsub y)
  | some k =>
   have hk:=g3 k rfl;refine ⟨some (b,i+1),some (k - 1),b ::(Fs.drop 1).flatten,fun K=>?_,hrel,fun y hy=>?_⟩
   ·simp only[As,EC,HT,IG,zcQ,Aa,KX];rw[Cj ⟨by omega,by omega⟩,show Nat.beq k (1:Int).toNat=false by cases hb:Nat.beq k (1:Int).toNat with | false=>rfl | true=>(have:=zbZ hb;simp at this;omega),Au,hdl];rfl
   ·rw[zb0] at hy ⊢;exact hy.imp id (hsub y)
theorem XL:∀ (r m:Nat) (hh:Heap) (l:List Tag) (q:Nat) (K:List Nat) (n:Nat),m+r=4→l.length=4→n+3*r≤700000→Rd lo hh b n→lo≤hh.length→RTags false hh [.sl 2 (some (q,0)) 4 (some 4)] l K→(b :: K).Nodup→(∀ y∈K,lo≤y) →
  ∃ (l':List Tag) (a':Pq) (c':Nq) (h':Heap) (K':List Nat),CD lo b 0 0 (m:Nat) 0 none 0 (some 0) (some (q,0)) 4 (some 4) hh=some (.agg [.sl 2 a' l'.length c'],h')∧RTags false h' [.sl 2 a' l'.length c'] l' K'∧l'.length≤4∧Rd lo h' b (n+3*r+10)∧Mv hh (b :: K) h' (b :: K'):=by
 intro r;induction r with
 | zero =>
  intro m hh l q K n hm hl hn r0 hlo rt hnd hK;have hm4:m=4:=by omega
  subst hm4;obtain ⟨k1,k2⟩:=zbV.1 hnd;have hKb:=rtags_ok.bd _ _ _ _ rt;obtain ⟨v,h1,e1,g1,g1',r1,m1⟩:=pick r0 (by omega) 10;have rt1:=m1.keep rtags_ok rt fun y hy hm=>k1 (by rw[zbW] at hm;exact hm ▸ hy);have M1:Mv hh (b :: K) h1 (b :: K):=m1.mid (A := [b]) (B:=K) (A' := [b]) (.refl _) hnd hKb (.refl _);rw[CD.e,Ai (by omega),e1,Ac,Aa];cases v==(0:Int) with
  | true =>
   obtain ⟨x1,F2,x2,x3,x4⟩:=rt1.behind (by omega) k2;refine ⟨l.drop 1,some (q,0+1),some 3,h1,F2,?_,x2,by simp;omega,r1.up (by omega),M1.lean (zbV.2 ⟨fun hm=>k1 (x4 b hm),x3⟩) fun y hy=>?_⟩
   ·rw[An,x1 _ (by decide)]
   ·rw[zb0] at hy ⊢;exact hy.imp id (x4 y)
  | false =>
  rw[Au];cases v==(1:Int) with
  | true =>
   obtain ⟨u,h2,e2,g2,g2',r2,m2⟩:=pick r1 (by omega) 4;obtain ⟨t,h3,e3,r3,m3⟩:=KA r2 (by omega);have m23:=m2.trans m3;have rt3:=m23.keep rtags_ok rt1 fun y hy hm=>k1 (by rw[zbW] at hm;exact hm ▸ hy);have M3:Mv h1 (b :: K) h3 (b :: K):=m23.mid (A := [b]) (B:=K) (A' := [b]) (.refl _) hnd (fun y hy=>zb1 (hKb y hy) m1.le) (.refl _);have hu:=g2' (by omega);obtain ⟨j,rfl⟩:∃ j:Nat,u=(j:Int):=⟨u.toNat,by omega⟩;have rt3':RTags false h3 [.sl 2 (some (q,0)) l.length (some 4)] l K:=by rw[hl];exact rt3
   obtain ⟨b0,i0,rs,row,G,ha,_,_,hb,hrow,⟨rfl,rfl⟩,_,_,_,put⟩:=rt3'.at (lo:=lo) (k:=j) CK (by omega) k2 hK;obtain ⟨h4,F4,e4,r4,m4,_⟩:=put h3 [] 0 t.cs t.cs t Mv.nil rfl ⟨rfl,rfl⟩;injection ha with ha;injection ha with ha1 ha2;subst ha1;subst ha2;have M4:Mv h3 (b :: K) h4 (b :: F4):=m4.mid (B := [b]) (zcP (l₁ := [b])) hnd (fun y hy=>by rw[zbW] at hy;subst hy;exact r3.lt) (zcP (l₁ := [b]));have hsl:(l.set j t).length=l.length:=by simp
   simp only[Tag.cs] at e3 e4;refine ⟨l.set j t,some (q,0),some 4,h4,F4,?_,by rw[hsl];exact r4,by omega,(r3.keep m4 k1 hK).up (by omega),(M1.trans M3).trans M4⟩;rw[An,e2,Ac,Aa,e3,Ac,AC,Ab,Aa,Ab,Aa,Ag,Ad (by omega),Af,A7,e4,Af,hsl,hl]
  | false =>rw[Au];exact ⟨l,some (q,0),some 4,h1,K,by rw[hl],by rw[hl];exact rt1,by omega,r1.up (by omega),M1⟩
 | succ r ih =>
  intro m hh l q K n hm hl hn r0 hlo rt hnd hK;obtain ⟨k1,k2⟩:=zbV.1 hnd;have hKb:=rtags_ok.bd _ _ _ _ rt;obtain ⟨t,h1,e1,_,r1,m1⟩:=Px r0 (by omega);have rt1:=m1.keep rtags_ok rt fun y hy hm=>k1 (by rw[zbW] at hm;exact hm ▸ hy);have M1:Mv hh (b :: K) h1 (b :: K):=m1.mid (A := [b]) (B:=K) (A' := [b]) (.refl _) hnd hKb (.refl _);have rt1':RTags false h1 [.sl 2 (some (q,0)) l.length (some 4)] l K:=by rw[hl];exact rt1
  obtain ⟨b0,i0,rs,row,G,ha,_,_,hb,hrow,⟨rfl,rfl⟩,_,_,_,put⟩:=rt1'.at (lo:=lo) (k:=m) CK (by omega) k2 hK;obtain ⟨h4,F4,e4,r4,m4,_⟩:=put h1 [] 0 t.cs t.cs t Mv.nil rfl ⟨rfl,rfl⟩;injection ha with ha;injection ha with ha1 ha2;subst ha1;subst ha2;have M4:Mv h1 (b :: K) h4 (b :: F4):=m4.mid (B := [b]) (zcP (l₁ := [b])) hnd (fun y hy=>by rw[zbW] at hy;subst hy;exact r1.lt) (zcP (l₁ := [b]));have hsl:(l.set m t).length=4:=by simp;exact hl
  rw[hl] at r4;obtain ⟨l',a',c',h',K',f1,f2,f3,f4,f5⟩:=ih (m+1) h4 (l.set m t) q F4 (n+3) (by omega) hsl (by omega) (r1.keep m4 k1 hK) (zbN hlo (zbN m1.le m4.le)) r4 M4.nd (m4.ge (zbN hlo m1.le) hK);simp only[Tag.cs] at e1 e4;refine ⟨l',a',c',h',K',?_,f2,f3,f4.up (by omega),(M1.trans M4).trans f5⟩;rw[CD.e,Ak (by omega),e1,Ac,AC,Ab,Aa,Ab,Aa,Ag,Ad (by omega),Af,A7,e4,Af,Am (by omega)];exact f1
theorem XM (r:Rd lo h b n) (hn:n≤600000) (hl:lo≤h.length):∃ (l:List Tag) (a:Pq) (c:Nq) (h':Heap) (F':List Nat),Ae lo 105 [.ptr (some (b,(0,0)))] h=some (.agg [.sl 2 a l.length c],h')∧RTags false h' [.sl 2 a l.length c] l F'∧l.length≤4∧Rd lo h' b (n+30)∧Mv h [b] h' (b :: F'):=by
 obtain ⟨h1,q,e1,t1,m1⟩:=Kh (lo:=lo) (h:=h);have hq:=m1.new q (by simp);have hblt:=r.lt;have M:Mv h [b] h1 (b :: [q]):=by have:=(m1.aside (F := []) (G := [b]) (by simp) (by simp;exact hblt));simpa using Mv.swap (A := []) (B := [b]) (A' := [q]) (B' := [b]) this
 obtain ⟨l',a',c',h',K',f1,f2,f3,f4,f5⟩:=XL 4 0 h1 Ow q [q] n rfl rfl (by omega) (r.keep m1 (by simp) (by simp)) (zbN hl m1.le) t1 M.nd (by simp;omega);refine ⟨l',a',c',h',K',QR ?_,f2,f3,f4.up (by omega),M.trans f5⟩;rw[e1,Ac,AC,Ab,Ah,Ag];exact f1
end
end Go.Proofs.YtoihoaaiadagaaaGreat
