/- Part 3 of what is shown for the law Gs, whatever the input; no condition of its own. -/
import Derived.Test.YtmdgiekbejjjgaaGreatBGs2
set_option linter.unusedVariables false
set_option linter.unusedSimpArgs false
set_option linter.unnecessarySimpa false
set_option maxRecDepth 100000
namespace Go.Proofs.YtmdgiekbejjjgaaGreat
open Go T


variable {l:List Ver}{v:Ver}
def Hr (v u:Ver):Bool:=v.key==u.key&&(v.tag.time==u.tag.time&&v.tag.place==u.tag.place)&&decide (v.past=u.past)&&(v.text.toList==u.text.toList)&&(v.gone==u.gone)
def HY (v:Ver):Bool:=v.key==0&&(v.tag.time==0&&v.tag.place==0)&&decide (v.past.length=0)&&Iz v.text && !v.gone
def IO (i:Nat) (v:Ver):Bool:=HY v || (Ck v&&v.key==i)
def Bc (l:List Ver):Bool:=(l.zipIdx.all λx=>IO x.2 x.1)&&decide (l.length=4)
theorem Bi (h:Bc l=true):l.length=4:=by simp only[Bc,CA,decide_eq_true_eq] at h;exact h.2
theorem De (h:Bc l=true) {i:Nat} (hi:i<l.length):IO i l[i]=true:=by simp only[Bc,CA,zcK] at h;have:=h.1 (l[i],i) (by rw[zdF];simp[hi]);exact this
theorem LQ (h:Ck v=true):0<v.tag.time:=by simp only[Ck,CA,decide_eq_true_eq] at h;exact (latest_lt.1 h.2).1
section
variable {lo:Nat}{ro ro':Bool}{h:Heap}{F F':List Nat}{a a':Pq}{c c':Nq}
theorem PZ {α T:Type}{p:Nat->α->Bool}{l:List α} (L:Nat->Option T) (no yes:Option T)
  (step:∀ i (hi:i<l.length),L i=if p i l[i]=true then L (i+1) else no) (done:L l.length=yes):L 0=if (l.zipIdx.all λx=>p x.2 x.1)=true then yes else no:=by
 have hz:l.zipIdx.length=l.length:=by simp
 refine E9 (l:=l.zipIdx) (p:=λx=>p x.2 x.1) L no yes (λi hi=>?_) (by rw[hz];exact done);rw[step i (by omega)];simp only[zei,zcW]
theorem WG {p q:List Tag} (hs:RTags ro h [.sl 2 a p.length c] p F) (hs':RTags ro' h [.sl 2 a' q.length c'] q F') (hn:p.length<=1048576) :
  Ai lo 137 [.sl 2 a p.length c,.sl 2 a' q.length c'] h=some (.bool (decide (p=q)),h):=by
 refine GN (h':=h) ?_;by_cases hl:p.length=q.length
 ·rw[show ((p.length:Int)==(q.length:Int))=true by simp;omega,Am];refine (E9 (p:=λx:Tag×Tag=>decide (x.1=x.2)) (l:=p.zip q) (λi=>AV (List.length h) a p.length c a' q.length c' false (p.length:Nat) (i:Nat) h) (some (.bool false,h)) (some (.bool true,h)) (λi hi=>?_) ?_).trans ?_
  ·have hip:i<p.length:=by simp at hi;omega
   have hiq:i<q.length:=by omega
   obtain ⟨o,rfl,ho⟩:=hs.get hip;obtain ⟨o',rfl,ho'⟩:=hs'.get hiq;rw[AV.e,Ak (by omega),Ae hip];simp only[Ad,Bb,ho,ho',Aa,Ab,Ag,Ae hiq,zef,Ar (show i<9223372036854775807 by omega),zdw];have e:(p[i].time==q[i].time&&p[i].place==q[i].place)=decide (p[i]=q[i]):=by rw[zdC];cases hx:p[i];cases hy:q[i];simp
   rw[e];cases decide (p[i]=q[i])<;>simp
  ·have hz:(p.zip q).length=p.length:=by simp;omega
   rw[hz,AV.e,Aj (by omega)]
  ·have e:((p.zip q).all λx=>decide (x.1=x.2))=decide (p=q):=by
    rw[zdC,zcK,decide_eq_true_eq];constructor
    ·intro hx;apply List.ext_getElem hl;intro i h1 h2;have:=hx (p[i],q[i]) (by rw[zda];exact ⟨i,by simp;omega,by simp⟩);simpa using this
    ·rintro rfl x hx
     obtain ⟨i,hi,rfl⟩:=zda.1 hx;simp
   rw[e];cases decide (p=q)<;>simp
 ·rw[show ((p.length:Int)==(q.length:Int))=false by simp;omega,Av,decide_eq_false (λe=>hl (by rw[e]))]
theorem S6 {u:Ver} (hs:RTags ro h [.sl 2 a v.past.length c] v.past F) (hs':RTags ro' h [.sl 2 a' u.past.length c'] u.past F') (hn:v.past.length<=1048576) :
  Ai lo 93 [.agg (v.cs a c),.agg (u.cs a' c')] h=some (.bool (Hr v u),h):=by
 refine PK (h':=h) ?_;simp only[WG hs hs' hn,Ac,Ao,zdw];unfold Hr;cases (v.key==u.key)<;>cases (v.tag.time==u.tag.time&&v.tag.place==u.tag.place)<;>cases (decide (v.past=u.past))<;>cases (v.text.toList==u.text.toList)<;>cases (v.gone==u.gone)<;>rfl
theorem Vg (hs:RTags ro h [.sl 2 a v.past.length c] v.past F) (hn:v.past.length<=1048576) :
  Ai lo 93 [.agg (v.cs a c),.agg [Iv 0,Iv 0,Iv 0,.sl 0 none 0 (some 0),.str ⟨⟨[]⟩⟩,.bool false]] h=some (.bool (HY v),h):=by
 refine Nx (h':=h) ?_;have e:Ai (List.length h) 137 [.sl 2 a v.past.length c,.sl 0 none 0 (some 0)] h=some (.bool (decide (v.past.length=0)),h):=by
  refine FY (h':=h) ?_;by_cases h0:v.past.length=0
  ·rw[h0,HE,Am,A8.e,Aj (by simp)];rfl
  ·rw[show ((v.past.length:Int)==((0:Nat):Int))=false by rw[beq_eq_false_iff_ne];omega,Av,decide_eq_false h0]
 simp only[e,Ac,Ao,zdw,LR];unfold HY;cases (v.key==0)<;>cases (v.tag.time==0&&v.tag.place==0)<;>cases (decide (v.past.length=0))<;>cases Iz v.text<;>cases v.gone<;>rfl
theorem JU (hs:RVers ro h [.sl 6 a l.length c] l F) (hn:Dq l):Ai lo 50 [.agg [.sl 6 a l.length c]] h=some (.bool (Bc l),h):=by
 have hn1:=hn.1;refine RB (h':=h) ?_;refine (PZ (p:=IO) (l:=l) (λi=>Cu (List.length h) false a l.length c (l.length:Nat) (i:Nat) a l.length c h) (some (.bool false,h)) (some (.bool (decide (l.length=4)),h)) (λi hi=>?_) ?_).trans ?_
 ·obtain ⟨o,s,b,d,G,rfl,ho,es,hp,_⟩:=hs.get hi;have hm:=hn.2 _ (zcv hi);rw[Cu.e,Ak (by omega),Ae hi];simp only[Ad,Bb,ho,Aa,Ab,es,BH,AM,Ag];rw[Vg hp hm.1];simp only[Ac,Ao,JS hp hm,Ar (show i<9223372036854775807 by omega)];unfold IO;cases HY l[i]<;>cases Ck l[i]<;>cases (l[i].key==i)<;>simp
 ·rw[Cu.e,Aj (by omega)];by_cases h3:l.length=4
  ·rw[h3];rfl
  ·rw[show ((l.length:Int)==4)=false by simp;omega,Av,decide_eq_false h3]
 ·unfold Bc;cases (l.zipIdx.all λx=>IO x.2 x.1)<;>simp
theorem RVers.all {n:Nat}{i:Nat} (hs:RVers ro h [.sl 6 a n c] l F) (hi:i<l.length):∃ o s a' c' G,a=some o/\ld h o.1 (o.2+i) 0 1=some [Iv l[i].key]/\ld h o.1 (o.2+i) 1 1=some [Iv l[i].tag.time] /\
  ld h o.1 (o.2+i) 2 1=some [Iv l[i].tag.place]/\ld h o.1 (o.2+i) 3 1=some [s]/\ld h o.1 (o.2+i) 4 1=some [.str l[i].text]/\ld h o.1 (o.2+i) 5 1=some [.bool l[i].gone]/\ld h o.1 (o.2+i) 1 2=some [Iv l[i].tag.time,Iv l[i].tag.place] /\
  ld h o.1 (o.2+i) 0 6=some [Iv l[i].key,Iv l[i].tag.time,Iv l[i].tag.place,s,.str l[i].text,.bool l[i].gone] /\
  (∀ {R':Type} (K:Pq->Nat->Nq->Option R'),eS 2 s K=K a' l[i].past.length c')/\RTags ro h [.sl 2 a' l[i].past.length c'] l[i].past G/\(∀ b∈G,b∈F):=by
 obtain ⟨o,row,G,h1,h2,hv,hG,_⟩:=hs.read hi;obtain ⟨s,a',c',rfl,es,hp⟩:=hv.form;exact ⟨o,s,a',c',G,h1,by rw[h2];rfl,by rw[h2];rfl,by rw[h2];rfl,by rw[h2];rfl,by rw[h2];rfl,by rw[h2];rfl,by rw[h2];rfl,by rw[h2];rfl,es,hp,hG⟩
end


variable {l:List Ver}{α:Type}{El:Rel α}
def Cq (l:List Ver) (t:Tag):Bool:=l.any λv=>v.tag.time==t.time&&v.tag.place==t.place
section
variable {lo:Nat}{ro ro':Bool}{h:Heap}{F F':List Nat}{a a':Pq}{c c':Nq}
theorem LO {g:Nat}{cl:List V}{p:Ver->Bool} (hs:RVers ro h [.sl 6 a l.length c] l F) (hn:l.length<=1048576)
  (hp:∀ lo v a c G,v∈l->RTags ro h [.sl 2 a v.past.length c] v.past G->Ai lo g (CR [.agg (v.cs a c)] cl) h=some (.bool (p v),h)) :
  Ai lo 94 [.sl 6 a l.length c,.fn g cl] h=some (Iv (Bw p l 0),h):=by
 have loop:∀ m k x,m+k=l.length->Ax (List.length h) a l.length c g cl x (l.length:Nat) (k:Nat) h=some (Iv (Bw p (l.drop k) k),h):=by
  intro m;induction m with
  | zero =>intro k x hk;rw[Ax.e,Aj (by omega),show k=l.length by omega];simp[Bw]
  | succ m ih =>
   intro k x hk;have hlt:k<l.length:=by omega
   obtain ⟨o,s,b,d,G,rfl,ho,es,hv,_⟩:=hs.get hlt;rw[Ax.e,Ak (by omega),Ae (by omega)];simp only[Ad,Bb,ho,Aa,Ab,es,BH,AM,Ag];rw[hp (List.length h) l[k] b d G (zcv hlt) hv,Ac,Ao,zcM hlt];simp only[Bw];cases p l[k]
   ·simp only[Av,cond_false];rw[Ar (by omega)];exact ih (k+1) _ (by omega)
   ·simp
 refine DE (h':=h) ?_;exact loop l.length 0 0 (by omega)
theorem JE {g:Nat}{cl:List V}{p:Ver->Bool} (hs:RVers ro h [.sl 6 a l.length c] l F) (hn:l.length<=1048576)
  (hp:∀ lo v a c G,v∈l->RTags ro h [.sl 2 a v.past.length c] v.past G->Ai lo g (CR [.agg (v.cs a c)] cl) h=some (.bool (p v),h)) :
  Ai lo 51 [.sl 6 a l.length c,.fn g cl] h=some (.bool (l.any p),h) :=
 C7 (h':=h) (by rw[LO hs hn hp];simp only[Ac,Ab,J0];rw[E7];simp)
theorem KA {t p:Int} (hs:RVers ro h [.sl 6 a l.length c] l F) (hn:l.length<=1048576) :
  Ai lo 152 [.sl 6 a l.length c,.agg [Iv t,Iv p]] h=some (.bool (Cq l ⟨t,p⟩),h):=by
 refine Sr (h':=h ++ [.rows 2 30 false [[Iv t,Iv p]]]) ?_;rw[JE (p:=λv=>v.tag.time==t&&v.tag.place==p) (Mv.snoc.keep0 rvers_ok hs) hn (λlo v a c G _ _=>by
  refine PH (h':=h ++ [.rows 2 30 false [[Iv t,Iv p]]]) ?_;have:ld (h ++ [.rows 2 30 false [[Iv t,Iv p]]]) h.length 0 0 2=some [Iv t,Iv p]:=by rw[TG (row := [Iv t,Iv p]) (by rfl)];rfl
  simp only[this,Ad,Aa,Ab,Ag,zdw];cases (v.tag.time==t&&v.tag.place==p)<;>rfl)]
 simp only[Ac,Ao];unfold Cq;cases (l.any λv=>v.tag.time==t&&v.tag.place==p)<;>rfl
theorem Sli.pre {R R' e n i:Nat}{l:List α} (hs:Sli false R e El h [.sl R' a n c] l F) (hi:i<=l.length):∃ F',Sli false R e El h [.sl R' a i c] (l.take i) F':=by
 have hn:=hs.val;subst hn;obtain ⟨R1,a1,c1,e1,g⟩:=hs;injection e1 with e1 _;injection e1 with e0 e2 _ e3;subst e0;subst e2;subst e3;have hl:(l.take i).length=i:=by simp;omega
 cases a with
 | none =>obtain ⟨rfl,h2,_⟩:=g;exact ⟨[],R',none,c,by rw[hl],by simp,h2,rfl⟩
 | some p =>
  obtain ⟨b,j⟩:=p;obtain ⟨hR,rs,Fs,g1,g2,g3,g4,g5,rfl⟩:=g;refine ⟨b ::(Fs.take i).flatten,R',some (b,j),c,by rw[hl],hR,rs,Fs.take i,g1,by rw[hl];omega,λk hk=>?_,g4,?_,rfl⟩
  ·have:=g3 k hk;rw[hl];omega
  ·rw[hl];have:=g5.take i;rw[zen,zej hi] at this;exact this
theorem E1 {R R' e n i:Nat}{l:List α} (hs:Sli false R e El h [.sl R' a n c] l F) (hi:i<=l.length) {T:Type}{K:Pq->Nat->Nq->Option T} :
  Aw a n c none (some (Iv (i:Nat))) none K=K a i c:=by
 have hn:=hs.val;subst hn;obtain ⟨R1,a',c',h1,h2⟩:=hs;injection h1 with h1 _;injection h1 with e0 e1 e2 e3;subst e0;subst e1;subst e3;have hc:∀ k,c=some k->l.length<=k:=λk hk=>by
  cases a with
  | none=>obtain ⟨rfl,_⟩:=h2;simp
  | some p=>obtain ⟨b,i⟩:=p;obtain ⟨_,_,_,_,_,g3,_⟩:=h2;exact (g3 k hk).1
 unfold Aw FG IN Jl;cases c with
 | none=>simp only[Ab,Bb];rw[CQ ⟨by omega,by omega⟩]
 | some k=>have:=hc k rfl;simp only[Ab,Bb];rw[CQ ⟨by omega,by omega⟩]
def SW (place:Int) (l:List Ver) (i:Nat) (v:Ver):Bool:=Ck v&&(v.tag.place==place) && !Cq (l.take i) v.tag
def Gi (place:Int) (l:List Ver):Bool:=(l.zipIdx.all λx=>SW place l x.2 x.1)&&decide ((l.length:Int)<=60)
theorem QL {m:Int} (hs:RVers false h [.sl 6 a l.length c] l F) (hn:Dq l):Ai lo 132 [.sl 6 a l.length c,Iv m] h=some (.bool (Gi m l),h):=by
 have hn1:=hn.1;refine Uw (h':=h) ?_;refine (PZ (p:=SW m l) (l:=l) (λi=>DY (List.length h) a l.length c m false a l.length c (l.length:Nat) (i:Nat) h) (some (.bool false,h)) (some (.bool (decide ((l.length:Int)<=60)),h)) (λi hi=>?_) ?_).trans ?_
 ·obtain ⟨F2,hpre⟩:=Sli.pre hs (show i<=l.length by omega);have hres:=λ{T:Type} (K:Pq->Nat->Nq->Option T)=>E1 hs (show i<=l.length by omega) (K:=K);obtain ⟨o,s,b,d,G,ha,ho,es,hp,_⟩:=hs.get hi;have hm:=hn.2 _ (zcv hi);have hil:(l.take i).length=i:=by simp;omega
  have hpre':RVers false h [.sl 6 a (l.take i).length c] (l.take i) F2:=by rw[hil];exact hpre
  have hht:=λlo=>KA (lo:=lo) (t:=l[i].tag.time) (p:=l[i].tag.place) hpre' (by omega);rw[hil] at hht;rw[DY.e,Ak (by omega),Ae hi];simp only[ha,Ad,Bb,ho,Aa,Ab,es,BH,AM,Ag];rw[JS hp hm];simp only[<- ha,Ac,Ao,hres,hht,Ar (show i<9223372036854775807 by omega)];unfold SW;cases Ck l[i]<;>cases (l[i].tag.place==m)<;>cases Cq (l.take i) l[i].tag<;>simp
 ·rw[DY.e,Aj (by omega)];by_cases h3:(l.length:Int)<=60
  ·rw[Ak h3,decide_eq_true h3]
  ·rw[Aj h3,decide_eq_false h3]
 ·unfold Gi;cases (l.zipIdx.all λx=>SW m l x.2 x.1)<;>simp
end


variable {l:List Node}
def Bg (l:List Ver):List Tag:=l.map λv=>v.tag
section
variable {lo:Nat}{ro ro':Bool}{h:Heap}{F F':List Nat}{a a':Pq}{c c':Nq}
theorem OY {l:List Ver} (hs:RVers ro h [.sl 6 a l.length c] l F) (hl:lo<=h.length) (hn:l.length<=1048576) :
  ∃ v h' F',Ai lo 192 [.agg [.sl 6 a l.length c]] h=some (.agg [v],h')/\RTags false h' [v] (Bg l) F'/\Mv h [] h' F':=by
 obtain ⟨q,a',c',h',F',e,r,m⟩:=IB (El:=flat Tag.cs) DN (h:=h) (l:=l) (f:=λv=>v.tag) (lo:=lo) (R:=2) (e:=30) (bytes:=16) hl (by decide) (by omega)
  (λi q a1 n1 c1 hh=>Dv lo (i:Nat) a l.length c 0 none 0 (some 0) q a1 n1 c1 hh) (λi hi q a1 n1 c1 hh hm=>by
   obtain ⟨o,s,b,d,G,ha,_,_,_,_,_,_,ho12,_⟩:=(hm.keep0 rvers_ok hs).all hi;refine ⟨[Iv l[i].tag.time,Iv l[i].tag.place],[],hh ++ [.rows 2 30 false [[Iv l[i].tag.time,Iv l[i].tag.place]]],⟨rfl,rfl⟩,Mv.snoc,?_⟩;rw[Dv.e,Ak (by omega),Ae hi];simp only[ha,Ad,Bb,ho12,Aa,Ab,Ag,A9,Ar (show i<9223372036854775807 by omega)])
 refine ⟨_,h',F',Se ?_,r,m⟩;refine e.trans ?_;rw[Dv.e,Aj (by omega)]
theorem Hc {l:List Ver} (hs:RVers ro h [.sl 6 a l.length c] l F) (hl:lo<=h.length) (h4:l.length=4) :
  ∃ v h' F',Ai lo 48 [.agg [.sl 6 a l.length c]] h=some (.agg [v],h')/\RTags false h' [v] (Bg l) F'/\Mv h [] h' F':=by
 obtain ⟨h',F',e,r,m⟩:=YO (El:=flat Tag.cs) DN (h0:=h) (l:=l) (f:=λv=>v.tag) (lo:=lo) (R:=2) (e:=30) (z := [Iv 0,Iv 0]) rfl hl
  (λi hh=>Cd lo a l.length c (l.length:Nat) (i:Nat) 0 none 0 (some 0) (some (h.length,0)) 4 (some 4) hh) (λi hi hh hm=>by
   obtain ⟨o,s,b,d,G,rfl,ho,es,_,_⟩:=(hm.keep0 rvers_ok hs).get hi;refine ⟨[Iv l[i].tag.time,Iv l[i].tag.place],[],hh,⟨rfl,rfl⟩,Mv.nil,rfl,?_⟩;rw[Cd.e,Ak (by omega),Ae hi];simp only[Ad,Bb,ho,Aa,Ab,es,BH,AM,Ag,Ae (show i<4 by omega),zcW,Ar (show i<9223372036854775807 by omega)])
 rw[h4] at r;refine ⟨_,h',F',Nz ?_,r,m⟩;rw[Kh (r:=(.agg [.sl 2 (some (h.length,0)) 4 (some 4)],h ++ [.rows 2 30 false (List.replicate l.length [Iv 0,Iv 0])])) (by rw[h4];rfl)];simp only[Ac,AO,Aa,Af,Ag];refine e.trans ?_;rw[Cd.e,Aj (by omega)]
def AR (l:List Node):List Tag:=match l.getLast? with | some x=>Bg x.store | none => []
theorem GC (h0:0<l.length):AR l=Bg (l[l.length - 1]'(by omega)).store:=by unfold AR;rw[List.getLast?_eq_getElem?,Cz (by omega)]
theorem LG (hs:RNodes ro h [.sl 2 a l.length c] l F) (hl:lo<=h.length) (hn:Dm l) (h0:0<l.length) :
  ∃ v h' F',Ai lo 199 [.agg [.sl 2 a l.length c]] h=some (.agg [v],h')/\RTags false h' [v] (AR l) F'/\Mv h [] h' F':=by
 have hn1:=hn.1;obtain ⟨o,s1,s2,a1,c1,a2,c2,F1,F2,ha,_,ho1,_,e1,_,p1,_⟩:=hs.get (show l.length - 1<l.length by omega);obtain ⟨v,h',F',e,r,m⟩:=OY (lo:=lo) p1 hl (hn.2 _ (zcv _)).1.1;obtain ⟨a',c',es,r'⟩:=r.form;rw[GC h0];refine ⟨_,h',F',Pz ?_,r',m⟩;rw[wr (by omega) (by omega),Cl ⟨by omega,by omega⟩,ha,Ad,show ((l.length:Int) - 1).toNat=l.length - 1 by omega,ho1];simp only[Ad,Aa,Ag,e1];rw[e];simp only[Ac,AO,Aa,es,Ag]
end


variable {s:ByteArray}
abbrev tx (l:List UInt8):ByteArray:=⟨⟨l⟩⟩
theorem Zd (s:ByteArray):tx s.data.toList=s:=rfl
theorem A3 {v:Ver} (h:Ck v=true):(0<=v.key/\v.key<=3)/\Gy v.text=true/\(v.gone=true->v.text.size=0)/\BE v.past=true/\B5 v.tag.time v.tag.place=true/\ER v.past<v.tag.time:=by
 simp only[Ck,Hn,Ah,CA,decide_eq_true_eq,zdh,zdd,Iz] at h;obtain ⟨⟨⟨⟨⟨⟨h1,h2⟩,h3⟩,h4⟩,h5⟩,h6⟩,h7⟩:=h;refine ⟨⟨h1,h2⟩,h3,λhg=>?_,h5,h6,h7⟩;rcases h4 with h4 | h4
 ·rw[hg] at h4;cases h4
 ·exact h4
theorem Tp {t:ByteArray} (h:s.data.toList=t.data.toList):s=t:=by rw[<- Zd s,<- Zd t,h]
theorem Y2 (h:s.size=0):s.data.toList = []:=zcF (by simpa using h)
theorem same_iff {v u:Ver}:Hr v u=true<->v=u:=by
 cases v with | mk k1 t1 p1 s1 g1=>cases u with | mk k2 t2 p2 s2 g2 =>
 cases t1;cases t2;simp only[Hr,CA,beq_iff_eq,decide_eq_true_eq,Ver.mk.injEq,Tag.mk.injEq];constructor
 ·rintro ⟨⟨⟨⟨h1,h2⟩,h3⟩,h4⟩,h5⟩
  exact ⟨h1,h2,h3,Tp (by rwa [zd4,zd4] at h4),h5⟩
 ·rintro ⟨h1,h2,h3,h4,h5⟩
  exact ⟨⟨⟨⟨h1,h2⟩,h3⟩,by rw[h4]⟩,h5⟩
section
variable {lo:Nat}{ro ro':Bool}{h:Heap}{F F':List Nat}{a a':Pq}{c c':Nq}
theorem Gb (h:Gy s=true):s.size<=8:=by simp only[Gy,CA,decide_eq_true_eq] at h;omega
end


variable {l:List Ver}{v:Ver}{ro:Bool}
theorem Sli.at {α:Type}{El:Rel α} (ok:El.Ok) {h:Heap}{R R' e n k lo:Nat}{a:Pq}{c:Nq}{l:List α}{F:List Nat} (hs:Sli false R e El h [.sl R' a n c] l F) (hk:k<l.length) (hnd:F.Nodup) (hlo:∀ b∈F,lo<=b) :
  ∃ b i rs row G,a=some (b,i)/\b∈F/\b∉G/\h[b]?=some (.rows R e false rs)/\rs[i+k]?=some row/\El h row l[k] G/\(∀ y∈G,y∈F)/\G.Nodup /\
   (∀ h' x' G',Mv h G h' G'->El h' row x' G'->∃ F',Sli false R e El h' [.sl R' a n c] (l.set k x') F'/\Mv h F h' F') /\
   (∀ h1 G1 j cs row' x',Mv h G h1 G1->paste row j cs=some row'->El h1 row' x' G1 ->
    ∃ h2 F',st lo h1 b (i+k) j cs=some h2/\Sli false R e El h2 [.sl R' a n c] (l.set k x') F'/\Mv h F h2 F'/\h2[b]?=some (.rows R e false (rs.set (i+k) row'))/\(∀ y,y≠b->h2[y]?=h1[y]?)/\h2.length=h1.length):=by
 have hbd:=(Sli.ok ok).bd _ _ _ _ hs;obtain ⟨b,i,rs,row,G,ha,hbF,hbG,hb,hrow,hel,hGF,hGn,put⟩:=hs.put ok.fr hk hnd;have hblt:b<h.length:=hbd b hbF;refine ⟨b,i,rs,row,G,ha,hbF,hbG,hb,hrow,hel,hGF,hGn,λh' x' G' m hx=>?_,λh1 G1 j cs row' x' m hp hx=>?_⟩
 ·obtain ⟨F',p1,p2,p3,_⟩:=put h' row x' G' (by rw[set_same hrow,m.fr b hblt hbG];exact hb) (λy hy _ hyG=>m.fr y (hbd y hy) hyG) hx m.nd (λy hy hyF=>by
   rcases m.sub y hy with h1 | h1
   ·exact h1
   ·have:=hbd y hyF;omega)
  refine ⟨F',p1,m.le,λy hy hyF=>m.fr y hy λhg=>hyF (hGF y hg),p3,λy hy=>?_⟩;rcases p2 y hy with h1 | h1
  ·exact .inl h1.1
  ·exact (m.sub y h1).imp (hGF y) id
 ·have hbG1:b∉G1:=λhm=>by
   rcases m.sub b hm with h1 | h1
   ·exact hbG h1
   ·omega
  have hb1:h1[b]?=some (.rows R e false rs):=by rw[m.fr b hblt hbG];exact hb
  have hb1lt:b<h1.length:=zcI hblt m.le;have e2:=DR hb1 (hlo b hbF) hrow hp;have fr2:∀ y,y≠b->(h1.set b (.rows R e false (rs.set (i+k) row')))[y]?=h1[y]?:=λy hy=>zcA (Ne.symm hy);obtain ⟨F',p1,p2,p3,_⟩:=put (h1.set b (.rows R e false (rs.set (i+k) row'))) row' x' G1 (by simp[hb1lt]) (λy hy hyb hyG=>by rw[fr2 y hyb];exact m.fr y (hbd y hy) hyG)
   (ok.fr _ _ _ _ _ hx λy hy=>fr2 y λe=>hbG1 (e ▸ hy)) m.nd (λy hy hyF=>by
   rcases m.sub y hy with h1 | h1
   ·exact h1
   ·have:=hbd y hyF;omega)
  refine ⟨_,F',e2,p1,⟨by simpa using m.le,λy hy hyF=>?_,p3,λy hy=>?_⟩,by simp[hb1lt],fr2,by simp⟩
  ·rw[fr2 y λe=>hyF (e ▸ hbF)];exact m.fr y hy λhg=>hyF (hGF y hg)
  ·rcases p2 y hy with h1 | h1
   ·exact .inl h1.1
   ·refine (m.sub y h1).imp (hGF y) λh=>by simpa using h
def A0 (v u:Ver):Bool:=Fu v.tag.time v.tag.place u.tag.time u.tag.place
def FH (s t:List Ver):Bool:=decide (s.length=t.length)&&(s.zip t).all λx=>Hr x.1 x.2
theorem sameVers_iff {s t:List Ver}:FH s t=true<->s=t:=by
 unfold FH;rw[CA,decide_eq_true_eq,zcK];constructor
 ·rintro ⟨hl,hx⟩
  apply List.ext_getElem hl;intro i h1 h2;have:=hx (s[i],t[i]) (by rw[zda];exact ⟨i,by simp;omega,by simp⟩);exact same_iff.1 this
 ·rintro rfl
  refine ⟨rfl,λx hx=>?_⟩;obtain ⟨i,hi,rfl⟩:=zda.1 hx;simp[same_iff]
def GM (l:List Ver) (v:Ver):List Ver:=match l[v.key.toNat]? with
 | some x=>bif A0 x v then l.set v.key.toNat v else l
 | none=>l
theorem Rj (h:v.key.toNat<l.length):GM l v=bif A0 l[v.key.toNat] v then l.set v.key.toNat v else l:=by unfold GM;rw[Cz h]
theorem Xg:(GM l v).length=l.length:=by
 unfold GM;split
 ·cases A0 _ v<;>simp
 ·rfl
theorem Zb (h:Ck v=true):IO v.key.toNat v=true:=by have:=(A3 h).1;unfold IO;rw[h,show (v.key==((v.key.toNat:Nat):Int))=true by rw[beq_iff_eq];omega];simp
theorem OS (hl:Bc l=true) (hv:Ck v=true):Bc (l.set v.key.toNat v)=true:=by
 have h4:=Bi hl;unfold Bc;rw[CA,zcK,decide_eq_true_eq];refine ⟨λx hx=>?_,by simpa using h4⟩;rw[zdF] at hx;have hi:=(Ea hx).1;rw[List.getElem?_set] at hx;split at hx
 ·rename_i he
  split at hx
  ·injection hx with hx;rw[<- hx,<- he];exact Zb hv
  ·cases hx
 ·rw[Cz (by simpa using hi)] at hx;injection hx with hx;rw[<- hx];exact De hl _
def Ek:List Ver->List Ver->Option (List Ver)
 | s,[]=>some s
 | s,v :: r=>match s[v.key.toNat]? with
  | some x=>bif A0 x v then Ek (s.set v.key.toNat v) r else none
  | none=>none
def fits (x:Node) (next:List Ver):Bool:=match Ek next x.wait with
 | some s=>FH s x.store
 | none=>false
def DT (x:Node):Bool:=Bc x.store&&decide ((x.wait.length:Int)<=6)&&x.wait.all Ck
def HL (l:List Node) (k:Nat) (x:Node):Bool:=match l[k+1]? with
 | some y=>fits x y.store
 | none=>decide (x.wait.length=0)
def Ew (l:List Node):Bool:=Ah l.length 1 4&&l.all DT&&l.zipIdx.all λx=>HL l x.2 x.1
theorem AY {x:Node} (h:DT x=true):Bc x.store=true/\x.wait.length<=6/\∀ v∈x.wait,Ck v=true:=by simp only[DT,CA,decide_eq_true_eq,zcK] at h;exact ⟨h.1.1,by have:=h.1.2;omega,h.2⟩
section
variable {lo:Nat}{h:Heap}{F F':List Nat}{a a':Pq}{c c':Nq}
theorem L3 {ca:Pq}{cc:Nq}{n:Nat} (hs:RVers ro h [.sl 6 a l.length c] l F) (hk:0<=v.key/\v.key<l.length) :
  Ai lo 130 [.agg [.sl 6 a l.length c],.agg [Iv v.key,Iv v.tag.time,Iv v.tag.place,.sl 2 ca n cc,.str v.text,.bool v.gone]] h=some (.bool (A0 (l[v.key.toNat]'(by omega)) v),h):=by
 refine Mm (h':=h) ?_;obtain ⟨o,s,b,d,G,ha,_,_,_,_,_,_,ho12,_⟩:=hs.all (show v.key.toNat<l.length by omega);rw[Cl ⟨by omega,by omega⟩,ha];simp only[Ad,ho12,Aa,Ab,Ag,D7,Ac,Ao];unfold A0;cases Fu _ _ _ _<;>rfl
theorem KC {l':List Ver}{ro':Bool} (hs:RVers ro h [.sl 6 a l.length c] l F) (hs':RVers ro' h [.sl 6 a' l'.length c'] l' F') (hn:Dq l) :
  Ai lo 134 [.sl 6 a l.length c,.sl 6 a' l'.length c',.fn 93 []] h=some (.bool (FH l l'),h):=by
 have hn1:=hn.1;refine DB (h':=h) ?_;unfold FH;by_cases hl:l.length=l'.length
 ·rw[show ((l.length:Int)==(l'.length:Int))=true by simp;omega,Am,decide_eq_true hl];have hz:(l.zip l').length=l.length:=by simp;omega
  refine (E9 (p:=λx:Ver×Ver=>Hr x.1 x.2) (l:=l.zip l') (λi=>Aq (List.length h) a' l'.length c' 93 [] false a l.length c (l.length:Nat) (i:Nat) h) (some (.bool false,h)) (some (.bool true,h)) (λi hi=>?_) ?_).trans ?_
  ·have hil:i<l.length:=by omega
   have hil':i<l'.length:=by omega
   obtain ⟨o,s,b,d,G,ha,ho,es,hp,_⟩:=hs.get hil;obtain ⟨o',s',b',d',G',ha',ho',es',hp',_⟩:=hs'.get hil';rw[Aq.e,Ak (by omega),Ae hil];simp only[ha,ha',Ad,Bb,ho,ho',Aa,Ab,es,es',BH,AM,Ag,Ae hil',CR,zdc];rw[S6 hp hp' (hn.2 _ (zcv hil)).1];simp only[Ac,Ao,zef,Ar (show i<9223372036854775807 by omega)];cases Hr l[i] l'[i]<;>simp
  ·rw[hz,Aq.e,Aj (by omega)]
  ·cases (l.zip l').all λx=>Hr x.1 x.2<;>rfl
 ·rw[show ((l.length:Int)==(l'.length:Int))=false by simp;omega,Av,decide_eq_false hl];rfl
theorem Pv {l':List Ver}{ro':Bool} (hs:RVers ro h [.sl 6 a l.length c] l F) (hs':RVers ro' h [.sl 6 a' l'.length c'] l' F') (hn:Dq l) :
  Ai lo 131 [.agg [.sl 6 a l.length c],.agg [.sl 6 a' l'.length c']] h=some (.bool (FH l l'),h):=by
 refine NA (h':=h) ?_;rw[KC hs hs' hn];simp only[Ac,Ao];cases FH l l'<;>rfl
theorem V3 {av:Pq}{cv:Nq}{G:List Nat} (hs:RVers false h [.sl 6 a l.length c] l F) (hv:RTags false h [.sl 2 av v.past.length cv] v.past G)
  (hnd:F.Nodup) (hlo:∀ b∈F,lo<=b) (hl:lo<=h.length) (hk:0<=v.key/\v.key<l.length) (hn:v.past.length<=1048576) :
  ∃ h' F',Ai lo 207 [.agg [.sl 6 a l.length c],.agg (v.cs av cv)] h=some (.agg [.sl 6 a l.length c],h')/\RVers false h' [.sl 6 a l.length c] (GM l v) F'/\Mv h F h' F':=by
 have hkl:v.key.toNat<l.length:=by omega
 obtain ⟨o,s,b,d,G1,ha,_,_,_,_,_,_,ho12,_⟩:=hs.all hkl;suffices hk:∃ h' F',_=some (V.agg [.sl 6 a l.length c],h')/\RVers false h' [.sl 6 a l.length c] (GM l v) F'/\Mv h F h' F' from hk.imp λh' hk=>hk.imp λF' hk=>⟨Us hk.1,hk.2⟩
 rw[Cl ⟨by omega,by omega⟩];simp only[ha,Ad,ho12,Aa,Ab,Ag,Cf,Ac,Ao];rw[Rj hkl];show ∃ h' F',br (A0 l[v.key.toNat] v) _ _=_/\_;cases hle:A0 l[v.key.toNat] v with
 | false=>exact ⟨h,F,rfl,by rw[<- ha];exact hs,Mv.refl hnd⟩
 | true =>
  obtain ⟨b2,i2,rs,row,G2,ha2,hb2,hbG2,hbb,hrow,hel,hGF,hGn,_,wr⟩:=hs.at rver_ok hkl hnd hlo;obtain ⟨a3,c3,h3,F3,e3,r3,m3⟩:=Ep (lo:=lo) (v:=v) hv hl hn;have hab:o=(b2,i2):=by rw[ha] at ha2;injection ha2
  subst hab;obtain ⟨h4,F4,e4,r4,m4,_⟩:=wr h3 F3 0 (v.cs a3 c3) (v.cs a3 c3) v (m3.wide (by simp)) (Gh (by obtain ⟨s,rfl,_⟩:=hel;rfl)) ⟨_,rfl,r3⟩;rw[Am,e3];simp only[Ac,AO,Aa,Ab,Af,BH,AM,Ag];rw[Cl ⟨by omega,by omega⟩,e4];exact ⟨h4,F4,rfl,by rw[<- ha];exact r4,m4⟩
end


variable {l:List Ver}{v:Ver}
theorem zce {T:Type}{b:Bool}{x y:Option T}:br b x y=if b=true then x else y:=by cases b<;>rfl
theorem Sli.row {α:Type}{El:Rel α} (hfr:El.Fr) {R R' e n k lo b i:Nat} (hln:El.Ln R) {h:Heap}{c:Nq}{l:List α}{G Gx:List Nat}{row:List V}{x:α} (hs:Sli false R e El h [.sl R' (some (b,i)) n c] l (b :: G)) (hb:b∉G) (hk:k<l.length) (hlo:lo<=b)
  (hx:El h row x Gx) (hbx:b∉Gx):∃ h' G',st lo h b (i+k) 0 row=some h'/\Sli false R e El h' [.sl R' (some (b,i)) n c] (l.set k x) (b :: G')/\b∉G'/\h'.length=h.length/\∀ y,y≠b->h'[y]?=h[y]?:=by
 have hn:=hs.val;subst hn;obtain ⟨R1,a1,c1,e1,e2⟩:=hs;injection e1 with e1 _;injection e1 with e0 e3 _ e4;subst e0;subst e3;subst e4;obtain ⟨hR,rs,Fs,g1,g2,g3,g4,g5,g6⟩:=e2;injection g6 with _ g6;subst g6;obtain ⟨row0,G0,k1,k2,k3⟩:=g5.get (Cz hk);have hblt:b<h.length:=(Ea g1).1;have hrow:rs[i+k]?=some row0:=by rw[zdU hk,zcX] at k1;exact k1
 have hp:paste row0 0 row=some row:=Gh (by rw[hln _ _ _ _ k3,hln _ _ _ _ hx]);have fr2:∀ y,y≠b->(h.set b (.rows R e false (rs.set (i+k) row)))[y]?=h[y]?:=λy hy=>zcA (Ne.symm hy);have hl1:((rs.set (i+k) row).drop i).take l.length=((rs.drop i).take l.length).set k row:=by rw[List.drop_set,if_neg (by omega),show i+k - i=k by omega,List.take_set]
 refine ⟨_,(Fs.set k Gx).flatten,DR g1 hlo hrow hp,⟨R',some (b,i),c,by simp,hR,rs.set (i+k) row,Fs.set k Gx,by simp[hblt],by simpa using g2,λq hq=>by simpa using g3 q hq,g4,?_,rfl⟩,λhm=>?_,by simp,fr2⟩
 ·rw[zc6,hl1];exact EAll.set (g5.fr hfr λy hy=>fr2 y λe=>hb (e ▸ hy)) (hfr _ _ _ _ _ hx λy hy=>fr2 y λe=>hbx (e ▸ hy))
 ·rcases EG hm with h6 | h6
  ·exact hb h6
  ·exact hbx h6
theorem zaE {ro:Bool}:(RVer ro).Ln 6:=by rintro h cs x F ⟨s,rfl,_⟩;rfl
theorem Mw (h:HY v=true):v=⟨0,⟨0,0⟩,[],⟨⟨[]⟩⟩,false⟩:=by obtain ⟨k,⟨t1,t2⟩,p,s,g⟩:=v;simp only[HY,Iz,CA,beq_iff_eq,decide_eq_true_eq,zdd] at h;obtain ⟨⟨⟨⟨h1,h2,h3⟩,h4⟩,h5⟩,h6⟩:=h;simp only[Ver.mk.injEq,Tag.mk.injEq];exact ⟨h1,⟨h2,h3⟩,zcF h4,Tp (by rw[Y2 h5]),h6⟩
theorem Cp {i:Nat} (h:IO i v=true):HY v=true\/(Ck v=true/\v.key=i):=by simp only[IO,zdh,CA,beq_iff_eq] at h;exact h
theorem DP (h:HY v=true):v.tag.time=0/\v.tag.place=0:=by rw[Mw h];exact ⟨rfl,rfl⟩
theorem Qi {l':List Ver} (h:Dq l) (hl:l'.length<=1048576) (hs:∀ v∈l',v∈l):Dq l':=⟨hl,λv hv=>h.2 v (hs v hv)⟩
theorem GU (h:Bc l=true):Dq l:=by
 refine ⟨by have:=Bi h;omega,λv hv=>?_⟩;obtain ⟨i,hi,rfl⟩:=zda.1 hv;rcases Cp (De h hi) with h1 | ⟨h1,_⟩
 ·rw[Mw h1];exact ⟨by simp,by show 0<=_;omega⟩
 ·obtain ⟨_,h2,_,h3,_⟩:=A3 h1;have:=Gb h2;have:=CV h3;omega
section
variable {lo:Nat}{h:Heap}{F F':List Nat}{a a':Pq}{c c':Nq}
theorem Ie {n:Int}:Ai lo 63 [Iv n] h=some (.bool (Ah n 1 4),h):=Rx (h':=h) (by simp[Ba])
theorem Oc {n k:Nat} (hn:n<=1048576):Ai lo 83 [.agg [.sl 2 a n c],Iv (k:Nat)] h=some (.bool (decide (k+1=n)),h):=by
 refine NJ (h':=h) ?_;rw[wr (by omega) (by omega)];by_cases hk:k+1=n
 ·rw[show ((k:Int)==(n:Int) - 1)=true by rw[beq_iff_eq];omega,decide_eq_true hk];rfl
 ·rw[show ((k:Int)==(n:Int) - 1)=false by rw[beq_eq_false_iff_ne];omega,decide_eq_false hk];rfl
theorem YD {x:Node}{next:List Ver}{a1 a2 a3:Pq}{c1 c2 c3:Nq}{F1 F2 F3:List Nat} (hs1:RVers false h [.sl 6 a1 x.store.length c1] x.store F1) (hs2:RVers false h [.sl 6 a2 x.wait.length c2] x.wait F2)
  (hs3:RVers false h [.sl 6 a3 next.length c3] next F3) (hx:DT x=true) (hnx:Bc next=true) :
  Ai lo 84 [.agg [.sl 6 a1 x.store.length c1,.sl 6 a2 x.wait.length c2],.agg [.sl 6 a3 next.length c3]] h=some (.bool (fits x next),h):=by
 obtain ⟨hx1,hx2,hx3⟩:=AY hx;obtain ⟨a5,c5,h5,F5,e5,r5,m5⟩:=GF (lo:=h.length) hs3 (zcz _) (GU hnx);have h4:=Bi hnx;suffices hk:∃ h',_=some (V.bool (fits x next),h') from hk.elim λh' hk=>OK hk;rw[e5];simp only[Ac,AO,Aa,Af,Ag];have loop:∀ m i s hh b j G,m+i=x.wait.length->Bc s=true->RVers false hh [.sl 6 (some (b,j)) s.length c5] s (b :: G)->b∉G->h.length<=b->Mv h [] hh [] ->
   ∃ h',Cs (List.length h) false a2 x.wait.length c2 (x.wait.length:Nat) (i:Nat) a1 x.store.length c1 a2 x.wait.length c2 (some (b,j)) s.length c5 hh=some (V.bool (match Ek s (x.wait.drop i) with | some s=>FH s x.store | none=>false),h'):=by
  intro m;induction m with
  | zero =>intro i s hh b j G hi hso hs hb hbl hm;rw[Cs.e,Aj (by omega),Pv hs (hm.keep0 rvers_ok hs1) (GU hso),show i=x.wait.length by omega,List.drop_length];simp only[Ac,Ao,Ek];exact ⟨hh,by cases FH s x.store<;>rfl⟩
  | succ m ih =>
   intro i s hh b j G hi hso hs hb hbl hm;have hlt:i<x.wait.length:=by omega
   have hvo:=hx3 _ (zcv hlt);have hk:=(A3 hvo).1;have hs4:=Bi hso;have hkl:x.wait[i].key.toNat<s.length:=by omega
   obtain ⟨o,sv,b',d',G',ha,ho,es,hp,hG'⟩:=(hm.keep0 rvers_ok hs2).get hlt;have hbl2:=rvers_ok.bd _ _ _ _ hs2;rw[Cs.e,Ak (by omega),Ae hlt];simp only[ha,Ad,Bb,ho,Aa,Ab,es,BH,AM,Ag];rw[L3 (v:=x.wait[i]) hs ⟨by omega,by omega⟩];simp only[Ac,Ao];rw[zcM hlt];simp only[Ek,Cz hkl];cases hle:A0 s[x.wait[i].key.toNat] x.wait[i] with
   | false=>exact ⟨hh,rfl⟩
   | true =>obtain ⟨h6,G6,e6,r6,n6,l6,f6⟩:=Sli.row rver_ok.fr zaE hs hb hkl hbl (row:=x.wait[i].cs b' d') (x:=x.wait[i]) ⟨_,rfl,hp⟩ (λhm'=>by have:=hbl2 _ (hG' _ hm');omega);rw[Am,Cl ⟨by omega,by omega⟩,e6,cond_true];simp only[Ad];rw[<- ha,Ar (by omega)];have m6:Mv h [] h6 []:=⟨by rw[l6];exact hm.le,λy hy hF=>by rw[f6 y (by omega)];exact hm.fr y hy hF,by simp,by simp⟩;have:=ih (i+1) (s.set x.wait[i].key.toNat x.wait[i]) h6 b j G6 (by omega) (OS hso hvo) (by rw[zc6];exact r6) n6 hbl m6;rw[zc6] at this;exact this
 have:∃ b j G,a5=some (b,j)/\F5=b :: G/\b∉G/\h.length<=b:=by obtain ⟨b,i,rs,Fs,h1,h2,_,_,_,_,rfl⟩:=r5.data (k:=0) (by omega);exact ⟨b,i,_,h1,rfl,(zcE.1 m5.nd).1,m5.new b (by simp)⟩
 obtain ⟨b,j,G,rfl,rfl,hb,hbl⟩:=this;have:=loop x.wait.length 0 next h5 b j G (by omega) hnx r5 hb hbl m5.drop
 exact this
theorem Nc {l:List Node} (hs:RNodes false h [.sl 2 a l.length c] l F) (hn:Dm l):Ai lo 46 [.agg [.sl 2 a l.length c]] h=some (.bool (Ew l),h):=by
 have hn1:=hn.1;refine RD (h':=h) ?_;rw[Ie];simp only[Ac,Ao];unfold Ew;cases hw:Ah (l.length:Int) 1 4 with
 | false=>rfl
 | true =>
  have hl4:1<=l.length/\l.length<=4:=by simp[Ah] at hw;omega
  rw[Am];refine (E9 (p:=DT) (l:=l) (λi=>Cx (List.length h) false a l.length c (l.length:Nat) (i:Nat) a l.length c h) (some (.bool false,h)) (Cx (List.length h) false a l.length c (l.length:Nat) (l.length:Nat) a l.length c h) (λi hi=>?_) rfl).trans ?_
  ·obtain ⟨o,s1,s2,a1,c1,a2,c2,F1,F2,ha,ho,_,_,e1,e2,p1,p2,_⟩:=hs.get hi;have hm:=hn.2 _ (zcv hi);rw[Cx.e,Ak (by omega),Ae hi];simp only[ha,Ad,Bb,ho,Aa,e1,e2,Ag];rw[JU p1 hm.1];simp only[Ac,Ao];rw[JE (p:=λv => !Ck v) p2 hm.2.1 (λlo v av cv Gv hv hvp=>OM (h':=h) (by rw[JS hvp (hm.2.2 v hv)];simp only[Ac,Ao];cases Ck v<;>rfl))];simp only[Ac,Ao,Ar (show i<9223372036854775807 by omega),<- ha];unfold DT;rw[zd7];simp only[Bool.not_not];by_cases h6:(l[i].wait.length:Int)<=6
   ·rw[Aj (by omega),decide_eq_true h6];cases Bc l[i].store<;>cases l[i].wait.all Ck<;>simp
   ·rw[Ak (by omega),decide_eq_false h6];cases Bc l[i].store<;>simp
  ·cases hall:l.all DT with
   | false=>rfl
   | true =>
    rw[if_pos rfl,Cx.e,Aj (by omega)];have hno:=zcK.1 hall;refine (PZ (p:=HL l) (l:=l) (λi=>BM (List.length h) false a l.length c (l.length:Nat) (i:Nat) a l.length c h) (some (.bool false,h)) (some (.bool true,h)) (λi hi=>?_) ?_).trans ?_
    ·obtain ⟨o,s1,s2,a1,c1,a2,c2,F1,F2,ha,ho,_,_,e1,e2,p1,p2,_⟩:=hs.get hi;have hm:=hn.2 _ (zcv hi);rw[BM.e,Ak (by omega),Ae hi];simp only[ha,Ad,Bb,ho,Aa,e1,e2,Ag,Oc hn1,Ac,Ao];by_cases hk:i+1=l.length
     ·rw[decide_eq_true hk,Am,Am];unfold HL;rw[zdg (by omega)];simp only[Ar (show i<9223372036854775807 by omega)];by_cases h0:l[i].wait.length=0
      ·rw[Aj (by omega),decide_eq_true h0];rfl
      ·rw[Ak (by omega),decide_eq_false h0];rfl
     ·have hi1:i+1<l.length:=by omega
      obtain ⟨o',s1',s2',a1',c1',a2',c2',F1',F2',ha',_,ho1',_,e1',_,p1',_⟩:=hs.get hi1;have hoo:o'=o:=by rw[ha] at ha';injection ha' with ha';exact ha'.symm
      subst hoo;rw[decide_eq_false hk,Av];unfold HL;rw[Cz hi1];simp only[Av,Ar (show i<9223372036854775807 by omega)];rw[Ae hi1];simp only[Bb,ho1',Ad,Aa,e1',Ag];rw[YD p1 p2 p1' (hno _ (zcv hi)) (AY (hno _ (zcv hi1))).1];simp only[Ac,Ao];exact zce
    ·rw[BM.e,Aj (by omega)]
    ·cases (l.zipIdx.all λx=>HL l x.2 x.1)<;>simp
end


variable {l:List Node}
theorem CO (h:Ew l=true):(1<=l.length/\l.length<=4)/\∀ x∈l,DT x=true:=by simp only[Ew,Ah,CA,decide_eq_true_eq,zcK] at h;exact ⟨⟨by omega,by omega⟩,h.1.2⟩
theorem Nn (h:Ew l=true) {i:Nat} (hi:i<l.length):HL l i l[i]=true:=by simp only[Ew,CA,zcK] at h;exact h.2 (l[i],i) (by rw[zdF];simp[hi])
theorem Ed {α:Type}{p:Nat->α->Bool}{l:List α}:(l.zipIdx.all λx=>p x.2 x.1)=true<->∀ i (hi:i<l.length),p i l[i]=true:=by
 rw[zcK];constructor
 ·intro h i hi;exact h (l[i],i) (by rw[zdF];simp[hi])
 ·rintro h ⟨x,i⟩ hx
  rw[zdF] at hx;obtain ⟨hi,hx⟩:=Ea hx;have:=h i hi;simp only at hx;rw[hx] at this;exact this
theorem XU {α:Type}{p:α->Bool}{l:List α}:l.all p=true<->∀ i (hi:i<l.length),p l[i]=true:=by rw[zcK];exact ⟨λh i hi=>h _ (zcv hi),λh x hx=>by obtain ⟨i,hi,rfl⟩:=zda.1 hx;exact h i hi⟩
section
variable {lo:Nat}{h:Heap}{F F':List Nat}{a a':Pq}{c c':Nq}
end


def JP (st:List Tag) (x:Node):Bool:=(x.store.all λv => !decide (v.tag.time>0) || Bs v.past st)&&x.wait.all λv=>Bs v.past st
def HD (l:List Node):Bool:=l.all (JP (AR l))
def Fv (l:List Node) (clock:Int):Bool:=match l[0]? with
 | some x=>x.store.all λv=>decide (v.tag.time<=clock)
 | none=>false
def KD (me:Int) (i:Nat) (l:List Ver):Bool:=Gi i l&&(!((i:Int)==me) || decide (l.length=0))
def As (p:Place):Bool:=Ah p.me 0 2&&Ah p.clock 0 999&&decide (p.got.length=3)&&Ew p.chain&&HD p.chain&&Gi p.me p.log&&(p.got.zipIdx.all λx=>KD p.me x.2 x.1)&&Fv p.chain p.clock
theorem zaW {b:Bool}{h:Heap}:(if b=true then some (V.bool true,h) else some (V.bool false,h))=some (V.bool b,h):=by cases b<;>rfl
theorem LU {l:List Node} (h:Ew l=true):(AR l).length=4:=by obtain ⟨h1,h2⟩:=CO h;rw[GC (by omega)];simp only[Bg,zdQ];exact Bi (AY (h2 _ (zcv _))).1
theorem Bx {h:Heap}{b i j n R e:Nat}{ro:Bool}{rs:List (List V)}{row:List V} (hb:h[b]?=some (.rows R e ro rs)) (hi:rs[i]?=some row):ld h b i j n=cut row j n:=by simp[ld,Heap.rows?,hb,hi]
theorem VV {x:Node} (h:DT x=true) {i:Nat} (hi:i<x.store.length) (ht:x.store[i].tag.time>0):x.store[i].past.length=4:=by
 rcases Cp (De (AY h).1 hi) with g | g
 ·have:=DP g;omega
 ·exact CV (A3 g.1).2.2.2.1
theorem X0 {x:Node} (h:DT x=true) {i:Nat} (hi:i<x.wait.length):x.wait[i].past.length=4:=CV (A3 ((AY h).2.2 _ (zcv hi))).2.2.2.1
section
variable {lo:Nat}{h:Heap}{F F':List Nat}{a a':Pq}{c c':Nq}
end


variable {l:List Node}{v:Ver}{T:Type}{K:V->Heap->Option T}
theorem zbX {α:Type}{p:Nat->α->Bool}{l:List α}{h0:Heap} (L:Nat->Heap->Ov) (res:Bool)
  (step:∀ i (hi:i<l.length) hh,Mv h0 [] hh []->∃ h2,Mv hh [] h2 []/\L i hh=if p i l[i]=true then L (i+1) h2 else some (.bool false,h2))
  (done:∀ hh,Mv h0 [] hh []->∃ h2,L l.length hh=some (.bool res,h2)):∃ h',L 0 h0=some (.bool ((l.zipIdx.all λx=>p x.2 x.1)&&res),h'):=by
 have loop:∀ m i hh,m+i=l.length->Mv h0 [] hh []->∃ h',L i hh=some (.bool (((l.zipIdx.drop i).all λx=>p x.2 x.1)&&res),h'):=by
  intro m;induction m with
  | zero =>
   intro i hh hi hm;have:i=l.length:=by omega
   subst this;obtain ⟨h2,e⟩:=done hh hm;exact ⟨h2,by rw[e,List.drop_of_length_le (by simp)];rfl⟩
  | succ m ih =>
   intro i hh hi hm;have hlt:i<l.length:=by omega
   obtain ⟨h2,m2,e⟩:=step i hlt hh hm;rw[e,zcM (show i<l.zipIdx.length by simpa using hlt),List.all_cons];simp only[zei,zcW];cases hp:p i l[i] with
   | false=>exact ⟨h2,by rw[if_neg Bool.false_ne_true];rfl⟩
   | true =>obtain ⟨h',e'⟩:=ih (i+1) h2 (by omega) (hm.trans m2);exact ⟨h',by rw[if_pos rfl,e'];rfl⟩
 exact loop l.length 0 h0 (by omega) Mv.nil
theorem Qn {α:Type}{El:Rel α}{R e:Nat}{h:Heap}{a:Pq}{c:Nq}{l:List α}{F:List Nat} (hs:Sli false R e El h [.sl R a l.length c] l F) :
  ∃ rows Fs,(∀ {T:Type} (K:List (List V)->Option T),Au R h (.sl R a l.length c) K=K rows)/\EAll El h rows l Fs/\(∀ b∈Fs.flatten,b∈F)/\(F.Nodup->Fs.flatten.Nodup):=by
 obtain ⟨R',a',c',e1,e2⟩:=hs;injection e1 with e1 _;injection e1 with e0 e3 _ e4;subst e0;subst e3;subst e4;cases a with
 | none =>obtain ⟨rfl,_,_⟩:=e2;exact ⟨[],[],λK=>rfl,trivial,by simp,by simp⟩
 | some q =>
  obtain ⟨b,i⟩:=q;obtain ⟨hR,rs,Fs,g1,g2,g3,g4,g5,rfl⟩:=e2;refine ⟨_,Fs,λK=>?_,g5,λb hb=>by simp only[zcD];exact .inr hb,λhn=>(zcE.1 hn).2⟩;simp only[Au,IJ,CW];cases hl:l.length with
  | zero=>simp
  | succ n=>simp only[Et,Heap.rows?,g1,zc7,D2 (show i+(n+1)<=rs.length by omega),Ad]
def Hl (v:Ver):Bool:=v.tag.time==0&&v.tag.place==0
def Jh (st:List Tag) (clock:Int) (k:Nat) (v:Ver):Bool:=(Hl v || Bs v.past st)&&(!decide (k=0) || decide (v.tag.time<=clock))
theorem Ww {u:Ver} (h:A0 v u=true):v.tag.time<=u.tag.time:=by simp[A0,Fu] at h;omega
theorem QY:∀ {w s t:List Ver},Ek s w=some t->s.length=t.length/\(∀ k (h1:k<s.length) (h2:k<t.length),s[k].tag.time<=t[k].tag.time)/\∀ v∈w,∃ h2:v.key.toNat<t.length,v.tag.time<=t[v.key.toNat].tag.time
 | [],s,t,h=>by injection h with h;subst h;exact ⟨rfl,λk _ _=>zea _,by simp⟩
 | v :: w,s,t,h=>by
  simp only[Ek] at h;by_cases hk:v.key.toNat<s.length
  ·rw[Cz hk] at h;cases hl:A0 s[v.key.toNat] v with
   | false=>simp[hl] at h
   | true =>
    simp only[hl,cond_true] at h;obtain ⟨i1,i2,i3⟩:=QY h;rw[zc6] at i1;have ht:=Ww hl;refine ⟨i1,λk h1 h2=>?_,λu hu=>?_⟩
    ·have:=i2 k (by simpa using h1) h2;rw[List.getElem_set] at this;split at this
     ·rename_i he;subst he;omega
     ·exact this
    ·rcases zcD.1 hu with rfl | hu
     ·have:=i2 u.key.toNat (by simpa using hk) (by omega);rw[zdK] at this;exact ⟨by omega,this⟩
     ·exact i3 u hu
  ·rw[zdg (by omega)] at h;cases h
theorem Kj {x:Node} (h:DT x=true) (hv:v∈x.store):Hl v = !decide (v.tag.time>0):=by
 obtain ⟨i,hi,rfl⟩:=zda.1 hv;rcases Cp (De (AY h).1 hi) with g | g
 ·have:=DP g;unfold Hl;rw[this.1,this.2];rfl
 ·have:=LQ g.1;unfold Hl;rw[decide_eq_true this,show (x.store[i].tag.time==0)=false by rw[beq_eq_false_iff_ne];omega];rfl
theorem VP (h:Ck v=true):Hl v=false:=by have:=LQ h;unfold Hl;rw[show (v.tag.time==0)=false by rw[beq_eq_false_iff_ne];omega];rfl
theorem W5 {clock:Int} (hc:Ew l=true):(l.zipIdx.all λx=>(x.1.store++x.1.wait).all (Jh (AR l) clock x.2))=(HD l&&Fv l clock):=by
 obtain ⟨hl4,hno⟩:=CO hc;rw[zdC,CA];rw[Ed (p:=λi (x:Node)=>(x.store++x.wait).all (Jh (AR l) clock i))];unfold HD Fv;rw[Cz (show 0<l.length by omega),XU];simp only[List.all_append,CA,zcK];constructor
 ·intro hx;refine ⟨λi hi=>?_,λv hv=>?_⟩
  ·have hi':=hno _ (zcv hi);unfold JP;simp only[CA,zcK];refine ⟨λv hv=>?_,λv hv=>?_⟩
   ·have:=(hx i hi).1 v hv;simp only[Jh,CA] at this;rw[<- Kj hi' hv];exact this.1
   ·have:=(hx i hi).2 v hv;simp only[Jh,CA,VP ((AY hi').2.2 v hv),zdI] at this;exact this.1
  ·have:=(hx 0 (by omega)).1 v hv;simp only[Jh,CA] at this;simpa using this.2
 ·rintro ⟨h1,h2⟩ i hi
  have hi':=hno _ (zcv hi);have h3:=h1 i hi;unfold JP at h3;simp only[CA,zcK] at h3;refine ⟨λv hv=>?_,λv hv=>?_⟩
  ·unfold Jh;rw[Kj hi' hv,h3.1 v hv,zcJ];by_cases h0:i=0
   ·subst h0;simpa using h2 v hv
   ·simp[h0]
  ·unfold Jh;rw[h3.2 v hv,Bool.or_true,zcJ];by_cases h0:i=0
   ·subst h0;have hlk:=Nn hc hi;unfold HL at hlk;by_cases h10:0+1<l.length
    ·rw[Cz h10] at hlk;simp only[fits] at hlk;cases hf:Ek l[0+1].store l[0].wait with
     | none=>simp[hf] at hlk
     | some t =>simp only[hf] at hlk;have e:=sameVers_iff.1 hlk;obtain ⟨_,_,g3⟩:=QY hf;obtain ⟨g4,g5⟩:=g3 v hv;have:=h2 (l[0].store[v.key.toNat]'(by rw[<- e];exact g4)) (zcv _);simp only[decide_eq_true_eq] at this;simp only[<- e] at this;simp only[decide_true,zdi,zdI,decide_eq_true_eq];omega
    ·rw[zdg (by omega)] at hlk;simp only[decide_eq_true_eq] at hlk;have:l[0].wait = []:=zcF hlk;rw[this] at hv;simp at hv
   ·simp[h0]
section
variable {lo:Nat}{h:Heap}{F F':List Nat}{a a':Pq}{c c':Nq}
theorem Hb {b i j:Nat} (hld:ld h b i j 1=some [.sl 2 a l.length c]) (hs:RNodes false h [.sl 2 a l.length c] l F) (h0:0<l.length) (hn:l.length<=1048576) :
  ∃ a' c' G,Ai lo 47 [.ptr (some (b,i,j))] h=some (.agg [.sl 6 a' (l[l.length - 1]'(by omega)).store.length c'],h)/\RVers false h [.sl 6 a' (l[l.length - 1]'(by omega)).store.length c'] (l[l.length - 1]'(by omega)).store G/\∀ y∈G,y∈F:=by
 obtain ⟨o,s1,s2,b1,d1,b2,d2,G1,G2,ha,ho,ho1,ho2,e1,e2,q1,q2,q3,_⟩:=hs.get (show l.length - 1<l.length by omega);refine ⟨b1,d1,G1,NH ?_,q1,q3⟩;simp only[zdf,hld,Ad,Aa,Af,Ag];rw[wr (by omega) (by omega),Cl ⟨by omega,by omega⟩,show ((l.length:Int) - 1).toNat=l.length - 1 by omega];simp only[ha,Ad,ho1,Aa,e1,Ag]
theorem zap {e R bytes b i len:Nat}{rs xs:List (List V)} (hb:h[b]?=some (.rows R e false rs)) (hl:lo<=b) (hf:i+len+xs.length<=rs.length) (h0:0<bytes) (hsz:(len+xs.length)*bytes<=140737488355328) :
  Dd lo e R bytes (.sl R (some (b,i)) len none) xs h K=K (.sl R (some (b,i)) (len+xs.length) none) (h.set b (.rows R e false (rs.take (i+len)++xs++rs.drop (i+len+xs.length)))):=by
 cases xs with
 | nil =>simp only[Dd,zdJ,zdf,zdc,zc5];rw[set_same hb]
 | cons x xs =>
  have hbl:Nat.blt 0 bytes=true:=by simpa [zd1] using h0
  have hsz':decide ((len+(x :: xs).length)*bytes<=Jp)=true:=decide_eq_true hsz;have hown:Heap.own? lo e h b=some rs:=by simp only[Heap.own?,hb,D2 hl,IJ]
  have hst:EZ lo h b (i+len) (x :: xs)=some (h.set b (.rows R e false (rs.take (i+len)++(x :: xs)++rs.drop (i+len+(x :: xs).length)))):=by simp only[EZ,hb,D2 hl,D2 hf]
  simp only[Dd,hbl,hsz',CW,IJ,hown,Ad,D2 hf,hst]
theorem Vl {l1 l2:List Ver}{a1 a2:Pq}{c1 c2:Nq}{F1 F2:List Nat} (hs1:RVers false h [.sl 6 a1 l1.length c1] l1 F1) (hs2:RVers false h [.sl 6 a2 l2.length c2] l2 F2) (hl1:l1.length=4) (hl2:l2.length<=6) (hlo:lo<=h.length) :
  ∃ a' F' h',Ai lo 133 [.sl 1 (some (h.length,0)) 2 (some 2)] (h ++ [.rows 1 50 false [[.sl 6 a1 l1.length c1],[.sl 6 a2 l2.length c2]]])=some (.sl 6 a' (l1++l2).length none,h') /\
   RVers false h' [.sl 6 a' (l1++l2).length none] (l1++l2) F'/\Mv h [] h' []:=by
 have m0:Mv h [] (h ++ [.rows 1 50 false [[.sl 6 a1 l1.length c1],[.sl 6 a2 l2.length c2]]]) []:=Mv.snoc;have hbB:(h ++ [Blk.rows 1 50 false [[.sl 6 a1 l1.length c1],[.sl 6 a2 l2.length c2]]])[h.length]?=some (.rows 1 50 false [[.sl 6 a1 l1.length c1],[.sl 6 a2 l2.length c2]]):=by simp
 have hBl:h.length<(h ++ [Blk.rows 1 50 false [[.sl 6 a1 l1.length c1],[.sl 6 a2 l2.length c2]]]).length:=by simp
 generalize hB:h ++ [Blk.rows 1 50 false [[.sl 6 a1 l1.length c1],[.sl 6 a2 l2.length c2]]]=B at *
 have r1:=m0.keep0 rvers_ok hs1;have r2:=m0.keep0 rvers_ok hs2;obtain ⟨n,hn⟩:∃ n,l1.length+l2.length=n+1:=⟨l1.length+l2.length - 1,by omega⟩;have m1:Mv B [] (B ++ [.rows 6 49 false (List.replicate (n+1) [Iv 0,Iv 0,Iv 0,.sl 0 none 0 (some 0),.str ⟨⟨[]⟩⟩,.bool false])]) []:=Mv.snoc;have hC0:(B ++ [Blk.rows 6 49 false (List.replicate (n+1) [Iv 0,Iv 0,Iv 0,.sl 0 none 0 (some 0),.str ⟨⟨[]⟩⟩,.bool false])])[B.length]?=some (.rows 6 49 false (List.replicate (n+1) [Iv 0,Iv 0,Iv 0,.sl 0 none 0 (some 0),.str ⟨⟨[]⟩⟩,.bool false])):=by simp
 have Eg:Ai lo 170 [.sl 0 none 0 (some 0),Iv ((n+1:Nat):Int)] B=some (.sl 6 (some (B.length,0)) 0 none,B ++ [.rows 6 49 false (List.replicate (n+1) [Iv 0,Iv 0,Iv 0,.sl 0 none 0 (some 0),.str ⟨⟨[]⟩⟩,.bool false])]):=by
  refine Gp ?_;have e1:AL (((0:Nat):Int) - ((0:Nat):Int))=0:=by decide
  have e2:AL (((n+1:Nat):Int) - 0)=((n+1:Nat):Int):=by rw[wr (by omega) (by omega)];omega
  rw[Aj (by omega)];simp only[Ad,e1,e2];rw[Ak (by omega)];have e3:∀ {T:Type} (K:Pq->Nat->Nq->Option T),Aw none 0 (some 0) none (some (Iv 0)) none K=K none 0 (some 0):=by intro T K;unfold Aw FG IN Jl;simp only[Ab];rw[CQ ⟨by decide,by decide⟩];rfl
  rw[e3,DJ ⟨by omega,by omega⟩,Bb,List.replicate_succ];simp only[Dd,show Nat.blt 0 72=true from rfl,CW];rw[DJ (by simp[Jp];omega)];simp only[Af];unfold Aw FG IN Jl;simp only[Ab];rw[CQ ⟨by omega,by omega⟩];simp[List.replicate_succ]
 have hBle:B.length<(B ++ [Blk.rows 6 49 false (List.replicate (n+1) [Iv 0,Iv 0,Iv 0,.sl 0 none 0 (some 0),.str ⟨⟨[]⟩⟩,.bool false])]).length:=by simp
 generalize hC:B ++ [Blk.rows 6 49 false (List.replicate (n+1) [Iv 0,Iv 0,Iv 0,.sl 0 none 0 (some 0),.str ⟨⟨[]⟩⟩,.bool false])]=C at *
 generalize hz : [Iv 0,Iv 0,Iv 0,.sl 0 none 0 (some 0),.str ⟨⟨[]⟩⟩,.bool false]=z at hC0;obtain ⟨rows1,Fs1,er1,ea1,sub1,_⟩:=Qn (m1.keep0 rvers_ok r1);have len1:=ea1.len.1;have bd1:=λy hy=>rvers_ok.bd _ _ _ _ r1 y (sub1 y hy);have frD:∀ y,y≠B.length->(C.set B.length (.rows 6 49 false ((List.replicate (n+1) z).take (0+0)++rows1++(List.replicate (n+1) z).drop (0+0+rows1.length))))[y]?=C[y]?:=λy hy=>zcA (Ne.symm hy);have hD0:(C.set B.length (.rows 6 49 false ((List.replicate (n+1) z).take (0+0)++rows1++(List.replicate (n+1) z).drop (0+0+rows1.length))))[B.length]?=some (.rows 6 49 false (rows1++List.replicate l2.length z)):=by rw[zcG hBle];simp only[zdf,List.take_zero,zc3,zcW,List.drop_replicate];rw[show n+1 - rows1.length=l2.length by omega]
 have hDl:(C.set B.length (.rows 6 49 false ((List.replicate (n+1) z).take (0+0)++rows1++(List.replicate (n+1) z).drop (0+0+rows1.length)))).length=C.length:=by simp
 have e5:=λ{T:Type} (K:V->Heap->Option T)=>zap (lo:=lo) (e:=49) (bytes:=72) (i:=0) (len:=0) (xs:=rows1) (K:=K) hC0 (by omega) (by simp;omega) (by decide) (by omega);generalize hD:C.set B.length (.rows 6 49 false ((List.replicate (n+1) z).take (0+0)++rows1++(List.replicate (n+1) z).drop (0+0+rows1.length)))=D at *
 have mD:Mv B [] D []:=⟨by omega,λy hy _=>by rw[frD y (by omega)];exact m1.fr y hy (by simp),by simp,by simp⟩;obtain ⟨rows2,Fs2,er2,ea2,sub2,_⟩:=Qn (mD.keep0 rvers_ok r2);have len2:=ea2.len.1;have bd2:=λy hy=>rvers_ok.bd _ _ _ _ r2 y (sub2 y hy);have e6:=λ{T:Type} (K:V->Heap->Option T)=>zap (lo:=lo) (e:=49) (bytes:=72) (i:=0) (len:=4) (xs:=rows2) (K:=K) hD0 (by omega) (by simp;omega) (by decide) (by omega);have hDle:B.length<D.length:=by omega
 have hE0:(D.set B.length (.rows 6 49 false ((rows1++List.replicate l2.length z).take (0+4)++rows2++(rows1++List.replicate l2.length z).drop (0+4+rows2.length))))[B.length]?=some (.rows 6 49 false (rows1++rows2)):=by rw[zcG hDle];rw[zed (by omega),zc0 (by omega),List.drop_of_length_le (by simp;omega),zdc]
 have frE:∀ y,y≠B.length->(D.set B.length (.rows 6 49 false ((rows1++List.replicate l2.length z).take (0+4)++rows2++(rows1++List.replicate l2.length z).drop (0+4+rows2.length))))[y]?=D[y]?:=λy hy=>zcA (Ne.symm hy);have hEl:(D.set B.length (.rows 6 49 false ((rows1++List.replicate l2.length z).take (0+4)++rows2++(rows1++List.replicate l2.length z).drop (0+4+rows2.length)))).length=D.length:=by simp
 generalize hE:D.set B.length (.rows 6 49 false ((rows1++List.replicate l2.length z).take (0+4)++rows2++(rows1++List.replicate l2.length z).drop (0+4+rows2.length)))=E at *
 have ldB:∀ {X:Heap} (k:Nat) {v:V},X[h.length]?=some (.rows 1 50 false [[.sl 6 a1 l1.length c1],[.sl 6 a2 l2.length c2]])->([[V.sl 6 a1 l1.length c1],[.sl 6 a2 l2.length c2]]:List (List V))[k]?=some [v]->ld X h.length k 0 1=some [v]:=λk v hb hk=>by rw[Bx hb hk];rfl
 refine ⟨some (B.length,0),B.length ::(Fs1++Fs2).flatten,E,Gr ?_,⟨6,some (B.length,0),none,by simp,rfl,rows1++rows2,Fs1++Fs2,hE0,by simp;omega,λk hk=>(by cases hk),λ_=>rfl,?_,rfl⟩,⟨by omega,λy hy _=>by rw[frE y (by omega),frD y (by omega),m1.fr y (by omega) (by simp)];exact m0.fr y hy (by simp),by simp,by simp⟩⟩
 ·have hBC:C[h.length]?=some (.rows 1 50 false [[.sl 6 a1 l1.length c1],[.sl 6 a2 l2.length c2]]):=by rw[m1.fr _ hBl (by simp)];exact hbB
  have hBD:D[h.length]?=some (.rows 1 50 false [[.sl 6 a1 l1.length c1],[.sl 6 a2 l2.length c2]]):=by rw[frD _ (by omega)];exact hBC
  have w1:AL (0+(l1.length:Int))=(l1.length:Int):=by rw[wr (by omega) (by omega)];omega
  have w2:AL ((l1.length:Int)+(l2.length:Int))=((n+1:Nat):Int):=by rw[wr (by omega) (by omega)];omega
  have w3:AL (0+1)=1:=by decide
  have w4:AL (1+1)=2:=by decide
  rw[AT.e,Ak (by decide),Cl ⟨by decide,by decide⟩];simp only[Ad,zcW,show Int.toNat 0=0 from rfl];rw[ldB 0 hbB rfl];simp only[Ad,Aa,Ag,Af,w1,w3];rw[Aj (by omega),AT.e,Ak (by decide),Cl ⟨by decide,by decide⟩];simp only[Ad,zcW,show Int.toNat 1=1 from rfl];rw[ldB 1 hbB rfl];simp only[Ad,Aa,Ag,Af,w2,w4];rw[Aj (by omega),AT.e,Aj (by decide),Eg];simp only[Ac,Af];rw[AS.e,Ak (by decide),Cl ⟨by decide,by decide⟩];simp only[Ad,zcW,show Int.toNat 0=0 from rfl];rw[ldB 0 hBC rfl];simp only[Ad,Aa,Ag,Af,w3];rw[er1,e5];simp only[Af];rw[AS.e,Ak (by decide),Cl ⟨by decide,by decide⟩];simp only[Ad,zcW,show Int.toNat 1=1 from rfl];rw[ldB 1 hBD rfl];simp only[Ad,Aa,Ag,Af,w4];rw[er2,show rows1.length=4 by omega,e6];simp only[Af];rw[AS.e,Aj (by decide)];rw[show 4+rows2.length=(l1++l2).length by simp;omega]
 ·rw[zdt,zc0 (by simp;omega)];refine EAll.append (ea1.fr rver_ok.fr λy hy=>?_) (ea2.fr rver_ok.fr λy hy=>frE y ?_)
  ·have:=bd1 y hy;rw[frE y (by omega),frD y (by omega)]
  ·have:=bd2 y hy;omega
end


section
variable {lo:Nat}{h:Heap}{F F':List Nat}{a a':Pq}{c c':Nq}
theorem TP {p:Place}{a1 a2 a3:Pq}{c1 c2 c3:Nq}{F1 F2 F3:List Nat} (hs1:RNodes false h [.sl 2 a1 p.chain.length c1] p.chain F1) (hs2:RVers false h [.sl 6 a2 p.log.length c2] p.log F2)
  (hs3:RVss false h [.sl 1 a3 p.got.length c3] p.got F3) (hn:Hp p):Ai lo 85 [.agg (p.cs a1 c1 a2 c2 a3 c3)] h=some (.bool (As p),h):=by
 suffices hk:∃ h',_=some (V.bool (As p),h') from hk.elim λh' hk=>RC hk;have m0:Mv h [] (h ++ [.rows 6 60 false [p.cs a1 c1 a2 c2 a3 c3]]) []:=Mv.snoc;have hB0:(h ++ [Blk.rows 6 60 false [p.cs a1 c1 a2 c2 a3 c3]])[h.length]?=some (.rows 6 60 false [p.cs a1 c1 a2 c2 a3 c3]):=by simp
 have hBl:h.length<(h ++ [Blk.rows 6 60 false [p.cs a1 c1 a2 c2 a3 c3]]).length:=by simp
 generalize hB:h ++ [Blk.rows 6 60 false [p.cs a1 c1 a2 c2 a3 c3]]=B at *
 have r1:=m0.keep0 rnodes_ok hs1;have r2:=m0.keep0 rvers_ok hs2;have r3:=m0.keep0 rvss_ok hs3;have ld1:∀ {X:Heap} (j:Nat) {v:V},X[h.length]?=some (.rows 6 60 false [p.cs a1 c1 a2 c2 a3 c3])->(p.cs a1 c1 a2 c2 a3 c3)[j]?=some v->ld X h.length 0 j 1=some [v]:=λj v hb hv=>by rw[Bx hb rfl];exact Ig hv
 rw[ld1 0 hB0 rfl];simp only[Ad,Aa,Ag,Ab];rw[DM];simp only[Ac,Ao];unfold As;cases Ah p.me 0 2 with
 | false=>exact ⟨_,rfl⟩
 | true =>
 rw[Am,ld1 1 hB0 rfl];simp only[Ad,Aa,Ag,Ab];rw[Ba];simp only[Ac,Ao];cases Ah p.clock 0 999 with
 | false=>exact ⟨_,rfl⟩
 | true =>
 rw[Am,ld1 2 hB0 rfl];simp only[Ad,Aa,Ag,Af];rw[Nc r1 hn.1];simp only[Ac,Ao];cases hc:Ew p.chain with
 | false=>exact ⟨_,by rw[zdD];rfl⟩
 | true =>
 rw[Am,ld1 3 hB0 rfl];simp only[Ad,Aa,Ag,Af];rw[ld1 0 hB0 rfl];simp only[Ad,Aa,Ag,Ab];rw[QL r2 hn.2.1];simp only[Ac,Ao];cases Gi p.me p.log with
 | false=>exact ⟨_,by rw[zdD];rfl⟩
 | true =>
 rw[Am,ld1 4 hB0 rfl];simp only[Ad,Aa,Ag,Af];by_cases hg:¬ p.got.length=3
 ·rw[show ((p.got.length:Int)==3)=false by rw[beq_eq_false_iff_ne];omega,decide_eq_false hg];exact ⟨_,by rw[zdD];rfl⟩
 have hg:p.got.length=3:=by omega
 rw[show ((p.got.length:Int)==3)=true by rw[beq_iff_eq];omega,decide_eq_true hg,Am];obtain ⟨hl4,hno⟩:=CO hc;obtain ⟨at',ct,Gt,et,rt,_⟩:=Hb (lo:=h.length) (ld1 2 hB0 rfl) r1 (by omega) (by omega);rw[et];simp only[Ac,AO,Aa,Af,Ag];have hsl:=Bi (AY (hno _ (zcv (show p.chain.length - 1<p.chain.length by omega)))).1;obtain ⟨vg,hg1,Gg,eg,rg,mg⟩:=Hc (lo:=h.length) rt m0.le hsl;obtain ⟨ag,cg,esg,rg⟩:=rg.form;rw[<- GC (by omega)] at rg esg;have hst:=LU hc;rw[eg];simp only[Ac,AO,Aa,esg,Ag];have hG0:hg1[h.length]?=some (.rows 6 60 false [p.cs a1 c1 a2 c2 a3 c3]):=by rw[mg.fr _ hBl (by simp)];exact hB0
 rw[ld1 2 hG0 rfl];simp only[Ad,Aa,Ag,Af];have r1':=mg.keep0 rnodes_ok r1;have r3':=mg.keep0 rvss_ok r3;have key:=zbX (p:=λi (x:Node)=>(x.store++x.wait).all (Jh (AR p.chain) p.clock i)) (l:=p.chain) (h0:=hg1) (λi hh=>Cw (List.length h) (List.length h) 0 0 false a1 p.chain.length c1 (p.chain.length:Nat) (i:Nat) ag (AR p.chain).length cg hh)
  (p.got.zipIdx.all λx=>KD p.me x.2 x.1) (λi hi hh hm=>by
   have hni:=hno _ (zcv hi);obtain ⟨g1,g2,g3⟩:=AY hni;obtain ⟨o,s1,s2,b1,d1,b2,d2,G1,G2,ha,ho,_,_,e1,e2,q1,q2,_⟩:=(hm.keep0 rnodes_ok r1').get hi;obtain ⟨a5,F5,h5,e5,r5,m5⟩:=Vl (lo:=h.length) q1 q2 (Bi g1) g2 (zcw (zdo hBl) (zcw mg.le hm.le));have hmh:Mv hg1 [] h5 []:=hm.trans m5;have hH0:h5[h.length]?=some (.rows 6 60 false [p.cs a1 c1 a2 c2 a3 c3]):=by rw[hmh.fr _ (zcI hBl mg.le) (by simp)];exact hG0
   have rgs:=hmh.keep0 rtags_ok rg;refine ⟨h5,m5,?_⟩;rw[Cw.e,Ak (by omega),Ae hi];simp only[ha,Ad,Bb,ho,Aa,e1,e2,Ag];rw[e5];simp only[Ac,Af];rw[<- ha];have hlen:(p.chain[i].store++p.chain[i].wait).length<=10:=by rw[zcP,Bi g1];omega
   refine (E9 (p:=Jh (AR p.chain) p.clock i) (l:=p.chain[i].store++p.chain[i].wait) (λk=>BL (List.length h) (List.length h) 0 0 false (i:Nat) a1 p.chain.length c1 (p.chain.length:Nat) (i:Nat) a5 (p.chain[i].store++p.chain[i].wait).length none ((p.chain[i].store++p.chain[i].wait).length:Nat) (k:Nat) ag (AR p.chain).length cg h5) (some (.bool false,h5)) (Cw (List.length h) (List.length h) 0 0 false a1 p.chain.length c1 (p.chain.length:Nat) ((i+1:Nat):Int) ag (AR p.chain).length cg h5) (λk hk=>?_) ?_).trans ?_
   ·obtain ⟨o',s,b,d,G,ha',ho',es,hp,_⟩:=r5.get hk;rw[BL.e,Ak (by omega),Ae hk];simp only[ha',Ad,Bb,ho',Aa,Ab,es,BH,AM,Ag,zdw,Ar (show k<9223372036854775807 by omega),zcW];rw[ld1 1 hH0 rfl];simp only[Ad,Aa,Ag,Ab];have hk0:((i:Int)==0)=decide (i=0):=by rw[zdC,beq_iff_eq,decide_eq_true_eq];omega
    rw[hk0];have elem:Jh (AR p.chain) p.clock i (p.chain[i].store++p.chain[i].wait)[k]=((Hl (p.chain[i].store++p.chain[i].wait)[k] || Bs (p.chain[i].store++p.chain[i].wait)[k].past (AR p.chain))&&(!decide (i=0) || decide ((p.chain[i].store++p.chain[i].wait)[k].tag.time<=p.clock))):=rfl;have past4:Hl (p.chain[i].store++p.chain[i].wait)[k]=false->(p.chain[i].store++p.chain[i].wait)[k].past.length=4:=by
     intro hz;have hmem:(p.chain[i].store++p.chain[i].wait)[k]∈p.chain[i].store++p.chain[i].wait:=zcv hk;rw[zcx] at hmem;rcases hmem with hmem | hmem
     ·obtain ⟨j,hj,ej⟩:=zda.1 hmem;rw[<- ej] at hz ⊢;exact VV hni hj (by have:=Kj hni (zcv hj);rw[hz] at this;simpa using this)
     ·obtain ⟨j,hj,ej⟩:=zda.1 hmem;rw[<- ej];exact X0 hni hj
    rw[elem];generalize (p.chain[i].store++p.chain[i].wait)[k]=u at *
    have htm:∀ {T:Type} (x y:Option T),br (decide (u.tag.time>p.clock)) x y=br (!decide (u.tag.time<=p.clock)) x y:=by
     intro T x y;by_cases ht:u.tag.time<=p.clock
     ·rw[Aj (by omega),decide_eq_true ht];rfl
     ·rw[Ak (by omega),decide_eq_false ht];rfl
    simp only[htm];show br (Hl u) _ _=_;cases hz:Hl u with
    | true =>cases decide (i=0)<;>cases decide (u.tag.time<=p.clock)<;>simp only[Am,Av,zdi,zdm,zcJ,zdn,zdw,zdD,Bool.true_or,zdI,Bool.or_true,Bool.or_false,cond_true,cond_false,if_true,if_false,zdM]
    | false =>have hu4:=past4 hz;rw[Av,Ha hp rgs (by omega) (by omega)];simp only[Ac,Ao];rw[ld1 1 hH0 rfl];simp only[Ad,Aa,Ag,Ab,htm];cases Bs u.past (AR p.chain)<;>cases decide (i=0)<;>cases decide (u.tag.time<=p.clock)<;>simp only[Am,Av,zdi,zdm,zcJ,zdn,zdw,zdD,Bool.true_or,zdI,Bool.or_true,Bool.or_false,cond_true,cond_false,if_true,if_false,zdM]
   ·rw[BL.e,Aj (by omega),Ar (by omega)]
   ·rfl) (λhh hm=>by
   have hH0:hh[h.length]?=some (.rows 6 60 false [p.cs a1 c1 a2 c2 a3 c3]):=by rw[hm.fr _ (zcI hBl mg.le) (by simp)];exact hG0
   have r3s:=hm.keep0 rvss_ok r3';refine ⟨hh,?_⟩;rw[Cw.e,Aj (by omega)];simp only[zcW];rw[ld1 4 hH0 rfl];simp only[Ad,Aa,Ag,Af];refine (PZ (p:=KD p.me) (l:=p.got) (λi=>Cv (List.length h) (List.length h) 0 0 false a3 p.got.length c3 (p.got.length:Nat) (i:Nat) hh) (some (.bool false,hh)) (some (.bool true,hh)) (λi hi=>?_) ?_).trans zaW
   ·obtain ⟨o,s,b,d,G,ha,ho,es,hp,_⟩:=r3s.get hi;rw[Cv.e,Ak (by omega),Ae hi];simp only[ha,Ad,Bb,ho,Aa,es,Ag,zdf];rw[QL hp (hn.2.2.2 _ (zcv hi)),];simp only[Ac,Ao];rw[ld1 0 hH0 rfl];simp only[Ad,Aa,Ag,Ab,Ar (show i<9223372036854775807 by omega)];unfold KD;by_cases h0:p.got[i].length=0
    ·rw[Aj (by omega),decide_eq_true h0];cases Gi i p.got[i]<;>cases ((i:Int)==p.me)<;>rfl
    ·rw[Ak (by omega),decide_eq_false h0];cases Gi i p.got[i]<;>cases ((i:Int)==p.me)<;>rfl
   ·rw[Cv.e,Aj (by omega)])
 rw[W5 hc] at key;obtain ⟨h',e⟩:=key;refine ⟨h',e.trans ?_⟩;cases HD p.chain<;>cases Fv p.chain p.clock<;>cases (p.got.zipIdx.all λx=>KD p.me x.2 x.1)<;>rfl
end


section
variable {h:Heap}
theorem zbE {α:Type}{El:Rel α}{bd:α->Prop}{n t e ee R:Nat}{xs:List V} (hu:Tryz.prog.underlying t=some (.slice e)) (hR:Tryz.prog.cellsOf e=R) (hel:∀ row,TV Tryz.prog h n e row->∃ x F,El h row x F/\bd x) (hx:TV Tryz.prog h (n+1) t xs) :
  ∃ l F,Sli true R ee El h xs l F/\l.length<=maxLen/\∀ x∈l,bd x:=by
 simp only[TV,hu] at hx;obtain ⟨a,c,rs,rfl,⟨h2,_⟩,h3,h4⟩:=hx;have all:∀ rs:List (List V),(∀ row∈rs,TV Tryz.prog h n e row)->∃ l Fs,EAll El h rs l Fs/\l.length=rs.length/\∀ x∈l,bd x:=by
  intro rs;induction rs with
  | nil=>intro _;exact ⟨[],[],trivial,rfl,by simp⟩
  | cons r rs ih =>
   intro hr;obtain ⟨l,Fs,g1,g2,g3⟩:=ih λrow hrow=>hr row (by simp[hrow]);obtain ⟨x,F,g4,g5⟩:=hel r (hr r (by simp));exact ⟨x :: l,F :: Fs,⟨g4,g1⟩,by simp[g2],λy hy=>by
    rcases zcD.1 hy with rfl | hy
    ·exact g5
    ·exact g3 y hy⟩
 obtain ⟨l,Fs,g1,g2,g3⟩:=all rs λrow hr=>(h3 row hr).2
 rcases h4 with rfl | ⟨b,rfl,hb⟩
 ·have:l = []:=zcF (by simpa using g2);subst this;exact ⟨[],[],⟨R,a,c,by rw[hR];rfl,rfl,.inl ⟨rfl,rfl⟩⟩,zcY _,by simp⟩
 ·refine ⟨l,b :: Fs.flatten,⟨R,some (b,0),c,by rw[hR,g2],rfl,.inr ⟨b,0,rs,Fs,rfl,hb,by omega,?_,rfl⟩⟩,by omega,g3⟩;rw[zdt,zc0 (by omega)];exact g1
end


def Cy (ro:Bool):Rel Place:=λh cs p F=>∃ a1 c1 a2 c2 a3 c3,cs=p.cs a1 c1 a2 c2 a3 c3/\RPlace ro h cs p F
theorem Is {ro:Bool}:(Cy ro).Ok :=
 ⟨λh h' cs p F ⟨a1,c1,a2,c2,a3,c3,e,hp⟩ hb=>⟨a1,c1,a2,c2,a3,c3,e,rplace_ok.fr _ _ _ _ _ hp hb⟩,λh cs p F ⟨_,_,_,_,_,_,_,hp⟩=>rplace_ok.bd _ _ _ _ hp⟩
theorem Xo:∀ {l:List Tag},ZA zav l=2*l.length
 | []=>rfl
 | t :: l=>by
  have h1:=Xo (l:=l);have h2:ZA zav (t :: l)=2+ZA zav l:=by simp only[ZA,List.map_cons,List.sum_cons]
  rw[h2,h1,zdA];omega
abbrev UD:Ver:=⟨0,⟨0,0⟩,[],⟨⟨[]⟩⟩,false⟩
abbrev zbC:Place:=⟨0,0,[],[],[],false⟩
section
variable {lo:Nat}{h:Heap}{F F':List Nat}{a a':Pq}{c c':Nq}
end


variable {l:List Node}
theorem Mv.swap {h h':Heap}{A B A' B':List Nat} (m:Mv h (A++B) h' (A'++B')):Mv h (B++A) h' (B'++A'):=by
 refine ⟨m.le,λb hb hn=>m.fr b hb λhm=>hn ?_,?_,λb hb=>?_⟩
 ·rw[zcx] at hm ⊢;exact hm.symm
 ·have:=m.nd;rw[zcy] at this ⊢;exact ⟨this.2.1,this.1,λx hx y hy e=>this.2.2 y hy x hx e.symm⟩
 ·rw[zcx] at hb;refine (m.sub b (by rw[zcx];exact hb.symm)).imp (λh=>?_) id;rw[zcx] at h ⊢;exact h.symm
theorem DC {α:Type}{El:Rel α} (ok:El.Ok) {h0 h1:Heap}{lo R e n bytes:Nat}{a:Pq}{c:Nq}{l:List α}{F:List Nat}{row:List V}{x:α}{G:List Nat} (hs:Sli false R e El h0 [.sl R a n c] l F) (hx:El h1 row x G) (m:Mv h0 [] h1 G)
  (hnd:F.Nodup) (hlo:∀ b∈F,lo<=b) (hl:lo<=h0.length) (hb:0<bytes) (hsz:(l.length+1)*bytes<=140737488355328) :
  ∃ a' c' h2 F',(∀ {T:Type} (K:V->Heap->Option T),Dd lo e R bytes (.sl R a n c) [row] h1 K=K (.sl R a' (l.length+1) c') h2)/\Sli false R e El h2 [.sl R a' (l.length+1) c'] (l ++ [x]) F'/\Mv h0 F h2 F':=by
 have hbd:=(Sli.ok ok).bd _ _ _ _ hs;have hs1:=m.keep0 (Sli.ok ok) hs;have hGb:=m.lt (by simp);obtain ⟨a',c',h2,F',p1,p2,p3,p4,p5,p6⟩:=Sli.push (lo:=lo) (bytes:=bytes) ok.fr hs1 (xs := [row]) (ys := [x]) (Gs := [G]) ⟨hx,trivial⟩ hb hsz hlo (zcw hl m.le)
  (by
   rw[zcy];refine ⟨hnd,by simpa using m.nd,λy hy z hz=>?_⟩
   rintro rfl
   have g1:=hbd y hy;have g2:=m.new y (by simpa using hz);omega)
  (λb hb'=>by
   have g1:=m.le;rw[zcx] at hb';rcases hb' with hb' | hb'
   ·have:=hbd b hb';omega
   ·exact hGb b (by simpa using hb')) (by simp)
 refine ⟨a',c',h2,F',p1,p2,zcw m.le p3,λb hb' hF=>?_,p6,λb hb'=>?_⟩
 ·rw[p4 b (zcI hb' m.le) hF,m.fr b hb' (by simp)]
 ·have g1:=m.le;rcases p5 b hb' with g | g
  ·rw[zcx] at g;rcases g with g | g
   ·exact .inl g
   ·have g2:=m.new b (by simpa using g);have g3:=hGb b (by simpa using g);exact .inr (by omega)
  ·exact .inr (by omega)
def IW (l:List Node):List Node:=match l.getLast? with
 | some x=>l ++ [⟨x.store,[]⟩]
 | none=>l
def Ej (l:List Node):Bool:=decide ((l.length:Int)<4)
def Dj (l:List Node):List Node:=bif Ej l then IW l else l
theorem Fm (h0:0<l.length):IW l=l ++ [⟨(l[l.length - 1]'(by omega)).store,[]⟩]:=by unfold IW;rw[List.getLast?_eq_getElem?,Cz (by omega)]
section
variable {lo:Nat}{h:Heap}{F F':List Nat}{a a':Pq}{c c':Nq}
theorem KL {l:List Ver}{n:Nat} (hs:RVers false h [.sl 6 a n c] l F):Ai lo 153 [.sl 6 a n c] h=some (.sl 6 a n (some n),h):=GO (by rw[Ic hs])
theorem Tm {n:Nat} (hs:RNodes false h [.sl 2 a n c] l F):Ai lo 150 [.sl 2 a n c] h=some (.sl 2 a n (some n),h):=Gu (by rw[Ic hs])
theorem UO (hs:RNodes false h [.sl 2 a l.length c] l F) (h0:0<l.length) (hn:Dm l) (hnd:F.Nodup) (hlo:∀ b∈F,lo<=b) (hl:lo<=h.length) :
  ∃ a' c' h' F',Ai lo 164 [.agg [.sl 2 a l.length c]] h=some (.agg [.sl 2 a' (l.length+1) c'],h')/\RNodes false h' [.sl 2 a' (l.length+1) c'] (IW l) F'/\Mv h F h' F':=by
 have hn1:=hn.1;obtain ⟨o,s1,s2,b1,d1,b2,d2,G1,G2,ha,ho,ho1,ho2,e1,e2,q1,q2,_⟩:=hs.get (show l.length - 1<l.length by omega);obtain ⟨v3,h3,F3,e3,r3,m3⟩:=NW (lo:=lo) q1 hl (hn.2 _ (zcv _)).1;obtain ⟨a4,c4,es4,r4⟩:=r3.form;obtain ⟨a5,c5,h5,F5,e5,r5,m5⟩:=DC (lo:=lo) (bytes:=48) (e:=54) rnode_ok hs (row := [.sl 6 a4 (l[l.length - 1]'(by omega)).store.length c4,.sl 0 none 0 (some 0)]) (x:=⟨(l[l.length - 1]'(by omega)).store,[]⟩) (G:=F3) (h1:=h3 ++ [.rows 2 54 false [[.sl 6 a4 (l[l.length - 1]'(by omega)).store.length c4,.sl 0 none 0 (some 0)]]])
  ⟨_,_,F3,[],rfl,by simp,Mv.snoc.keep0 rvers_ok r4,Sli.nil⟩ (m3.trans (Mv.snoc' m3.nd)) hnd hlo hl (by decide) (by omega)
 refine ⟨a5,c5,h5,F5,Sc ?_,by rw[Fm h0];exact r5,m5⟩;rw[wr (by omega) (by omega),Cl ⟨by omega,by omega⟩,show ((l.length:Int) - 1).toNat=l.length - 1 by omega];simp only[ha,Ad,ho1,Aa,e1,Ag];rw[e3];simp only[Ac,AO,Aa,es4,Ag,A9];rw[<- ha,e5];simp only[Af]
theorem YC {b i j R e:Nat}{rs:List (List V)}{row:List V} (hb:h[b]?=some (.rows R e false rs)) (hrow:rs[i]?=some row) (hcell:row[j]?=some (.sl 2 a l.length c)) (hs:RNodes false h [.sl 2 a l.length c] l F) (h0:0<l.length) (hn:Dm l)
  (hnd:(b :: F).Nodup) (hlo:∀ y∈b :: F,lo<=y) (hl:lo<=h.length) :
  ∃ a' n' c' h' F',Ai lo 111 [.ptr (some (b,i,j))] h=some (.bool (Ej l),h')/\h'[b]?=some (.rows R e false (rs.set i (row.set j (.sl 2 a' n' c'))))/\RNodes false h' [.sl 2 a' n' c'] (Dj l) F'/\Mv h (b :: F) h' (b :: F'):=by
 have hn1:=hn.1;have hblt:b<h.length:=(Ea hb).1;have hld:ld h b i j 1=some [.sl 2 a l.length c]:=by rw[Bx hb hrow];exact Ig hcell
 unfold Dj Ej;by_cases h4:(l.length:Int)<4
 ·obtain ⟨at',ct,Gt,et,rt,_⟩:=Hb (lo:=h.length) hld hs h0 hn1;obtain ⟨a3,c3,h3,F3,e3,r3,m3⟩:=GF (lo:=h.length) rt (zcz _) (hn.2 _ (zcv _)).1;rw[zcE] at hnd;obtain ⟨a5,c5,h5,F5,e5,r5,m5⟩:=DC (lo:=lo) (bytes:=48) (e:=54) rnode_ok hs (row := [.sl 6 a3 (l[l.length - 1]'(by omega)).store.length c3,.sl 0 none 0 (some 0)]) (x:=⟨(l[l.length - 1]'(by omega)).store,[]⟩) (G:=F3) (h1:=h3 ++ [.rows 2 54 false [[.sl 6 a3 (l[l.length - 1]'(by omega)).store.length c3,.sl 0 none 0 (some 0)]]])
   ⟨_,_,F3,[],rfl,by simp,Mv.snoc.keep0 rvers_ok r3,Sli.nil⟩ (m3.trans (Mv.snoc' m3.nd)) hnd.2 (λy hy=>hlo y (by simp[hy])) hl (by decide) (by omega)
  have hb5:h5[b]?=some (.rows R e false rs):=by rw[m5.fr b hblt hnd.1];exact hb
  have hbF5:b∉F5:=λhm=>by
   rcases m5.sub b hm with g | g
   ·exact hnd.1 g
   ·omega
  have hb5lt:b<h5.length:=zcI hblt m5.le;have hjl:j<row.length:=(Ea hcell).1;have e6:=DR hb5 (hlo b (by simp)) hrow (EN (v := .sl 2 a5 (l.length+1) (some (l.length+1))) hjl);refine ⟨a5,l.length+1,some (l.length+1),h5.set b (.rows R e false (rs.set i (row.set j (.sl 2 a5 (l.length+1) (some (l.length+1)))))),F5,Ja ?_,by simp[hb5lt],?_,?_⟩
  ·simp only[zdf,hld,Ad,Aa,Ag,Af];rw[Aj (by omega),et];simp only[Ac,AO,Aa,Af,Ag];rw[e3];simp only[Ac,AO,Aa,Af,Ag,A9];rw[e5];simp only[Af];rw[Tm r5];simp only[Ac,Af];rw[e6];simp only[Ad,decide_eq_true h4]
  ·rw[decide_eq_true h4,cond_true,Fm h0];exact rnodes_ok.fr _ _ _ _ _ r5.clip λy hy=>zcA (show b≠y from λe=>hbF5 (by rw[e];exact hy))
  ·refine ⟨by simpa using m5.le,λy hy hF=>?_,by rw[zcE];exact ⟨hbF5,m5.nd⟩,λy hy=>?_⟩
   ·rw[zcD,not_or] at hF;rw[zcA (Ne.symm hF.1)];exact m5.fr y hy hF.2
   ·rw[zcD] at hy;rcases hy with rfl | hy
    ·exact .inl (by simp)
    ·refine (m5.sub y hy).imp (λg=>by simp[g]) λg=>by simpa using g
 ·refine ⟨a,l.length,c,h,F,Ja ?_,?_,?_,Mv.refl hnd⟩
  ·simp only[zdf,hld,Ad,Aa,Ag,Af];rw[Ak (by omega),decide_eq_false h4]
  ·rw[set_same hcell,set_same hrow];exact hb
  ·rw[decide_eq_false h4];exact hs
end


theorem I3:∀ {row:List V}{n:Nat},row.length=n->cut row 0 n=some row
 | [],0,_=>rfl
 | v :: r,n+1,h=>by have h1:=I3 (row:=r) (n:=n) (by simpa using h);show (match cut r 0 n with | some l=>some (v :: l) | none=>none)=_;rw[h1]
def Jr (p:Place):Place:=⟨p.me,p.clock,Dj p.chain,p.log,p.got,p.fell⟩
theorem Dp {p:Place} (h:As p=true):0<p.chain.length:=by unfold As at h;simp only[CA] at h;have:=(CO h.1.1.1.1.2).1;omega
theorem Ih {b:Bool}{h:Heap}:br b (some (V.bool true,h)) (some (V.bool false,h))=some (V.bool b,h):=by cases b<;>rfl
section
variable {lo:Nat}{h:Heap}{F F':List Nat}{a a':Pq}{c c':Nq}
end


def FI (l:List Node) (k:Nat) (v:Ver):List Node:=match l[k]? with
 | some x=>match x.store[v.key.toNat]? with
  | some u=>bif A0 u v then l.set k ⟨x.store.set v.key.toNat v,bif decide (k+1<l.length) then x.wait ++ [v] else x.wait⟩ else l
  | none=>l
 | none=>l
theorem VM {l:List Node}{k:Nat}{v:Ver} (hk:k<l.length) (hv:v.key.toNat<l[k].store.length) :
  FI l k v=bif A0 l[k].store[v.key.toNat] v then l.set k ⟨l[k].store.set v.key.toNat v,bif decide (k+1<l.length) then l[k].wait ++ [v] else l[k].wait⟩ else l:=by
 unfold FI;rw[Cz hk];simp only;rw[Cz hv]
section
variable {lo:Nat}{h h3:Heap}{F F' G:List Nat}{a a' av:Pq}{c c' cv:Nq}{n k:Nat}{l:List Node}{v:Ver}
theorem SN (hs:RNodes false h [.sl 2 a n c] l F) (hk:k<l.length) (hnd:F.Nodup) (hlo:∀ b∈F,lo<=b) (hl:lo<=h.length) (hw:l[k].wait.length<=1048576) (hv:RTags false h3 [.sl 2 av v.past.length cv] v.past G) (m3:Mv h [] h3 G) :
  ∃ b i t2 a2 c2 a5 c5 h5,a=some (b,i)/\ld h b (i+k) 1 1=some [t2]/\(∀ {T:Type} (K:Pq->Nat->Nq->Option T),eS 6 t2 K=K a2 l[k].wait.length c2) /\
   (∀ {T:Type} (K:V->Heap->Option T),Dd lo 49 6 72 (.sl 6 a2 l[k].wait.length c2) [v.cs av cv] (h3 ++ [.rows 6 49 false [v.cs av cv]]) K=K (.sl 6 a5 (l[k].wait.length+1) c5) h5) /\
   (∃ F5,RVers false h5 [.sl 6 a5 (l[k].wait.length+1) c5] (l[k].wait ++ [v]) F5) /\
   ∀ c6,(c6=c5\/c6=some (l[k].wait.length+1))->∃ h6 F6,st lo h5 b (i+k) 1 [.sl 6 a5 (l[k].wait.length+1) c6]=some h6/\RNodes false h6 [.sl 2 a n c] (l.set k ⟨l[k].store,l[k].wait ++ [v]⟩) F6/\Mv h F h6 F6:=by
 obtain ⟨b,i,rs,row,G0,ha,hbF,hbG,hb,hrow,hel,hGF,hGn,_,put⟩:=hs.at rnode_ok hk hnd hlo;obtain ⟨t1,t2,F1,F2,rfl,rfl,r1,r2⟩:=hel;obtain ⟨a2,c2,e2,r2'⟩:=r2.form;rw[zcy] at hGn;obtain ⟨a5,c5,h5,F5,e5,r5,m5⟩:=DC (lo:=lo) (bytes:=72) (e:=49) rver_ok r2' (row:=v.cs av cv) (x:=v) (G:=G) (h1:=h3 ++ [.rows 6 49 false [v.cs av cv]])
  ⟨_,rfl,Mv.snoc.keep0 rtags_ok hv⟩ (m3.trans (Mv.snoc' m3.nd)) hGn.2.1 (λy hy=>hlo y (hGF y (by simp[hy]))) hl (by decide) (by omega)
 have b1:∀ y∈F1,y<h.length:=rvers_ok.bd _ _ _ _ r1;have m6:=(m5.aside (G:=F1) (by rw[zcy];exact ⟨hGn.2.1,hGn.1,λx hx y hy e=>hGn.2.2 y hy x hx e.symm⟩) b1).swap;have r1':=m5.keep rvers_ok r1 λy hy hm=>hGn.2.2 y hy y hm rfl;refine ⟨b,i,t2,a2,c2,a5,c5,h5,ha,by rw[Bx hb hrow];rfl,λK=>e2 K,λK=>e5 K,⟨F5,r5⟩,λc6 hc=>?_⟩;have r5':RVers false h5 [.sl 6 a5 (l[k].wait.length+1) c6] (l[k].wait ++ [v]) F5:=by
  rcases hc with rfl | rfl
  ·exact r5
  ·exact r5.clip
 obtain ⟨h6,F6,e6,r6,m7,_⟩:=put h5 (F1++F5) 1 [.sl 6 a5 (l[k].wait.length+1) c6] [t1,.sl 6 a5 (l[k].wait.length+1) c6] ⟨l[k].store,l[k].wait ++ [v]⟩ m6 rfl ⟨_,_,F1,F5,rfl,rfl,r1',r5'⟩;exact ⟨h6,F6,e6,r6,m7⟩
theorem Yb (hs:RNodes false h [.sl 2 a n c] l F) (hk:k<l.length) (hnd:F.Nodup) (hlo:∀ b∈F,lo<=b) (hq:v.key.toNat<l[k].store.length) (hv:RTags false h3 [.sl 2 av v.past.length cv] v.past G) (m3:Mv h [] h3 G) :
  ∃ b i t1 o c1,a=some (b,i)/\ld h b (i+k) 0 1=some [t1]/\(∀ {T:Type} (K:Pq->Nat->Nq->Option T),eS 6 t1 K=K (some o) l[k].store.length c1)/\(∃ F1,RVers false h [.sl 6 (some o) l[k].store.length c1] l[k].store F1) /\
   ∃ h4 F4,st lo h3 o.1 (o.2+v.key.toNat) 0 (v.cs av cv)=some h4/\RNodes false h4 [.sl 2 a n c] (l.set k ⟨l[k].store.set v.key.toNat v,l[k].wait⟩) F4/\Mv h F h4 F4:=by
 obtain ⟨b,i,rs,row,G0,ha,hbF,hbG,hb,hrow,hel,hGF,hGn,keep,_⟩:=hs.at rnode_ok hk hnd hlo;obtain ⟨t1,t2,F1,F2,rfl,rfl,r1,r2⟩:=hel;have hGn0:=hGn;rw[zcy] at hGn;obtain ⟨R',a1,c1,e1,g⟩:=id r1;injection e1 with e1 _;subst e1;cases a1 with
 | none =>have:=g.1;rw[this] at hq;exact absurd hq (Nat.not_lt_zero _)
 | some o =>
 obtain ⟨hR,_⟩:=g;subst hR;obtain ⟨b2,i2,rs2,row2,G2,e2,hb2,hbG2,hbb,hrow2,hel2,hGF2,hGn2,_,wr⟩:=r1.at rver_ok hq hGn.1 (λy hy=>hlo y (hGF y (by simp[hy])));injection e2 with e2;subst e2;obtain ⟨h4,F4,e4,r4,m4,_⟩:=wr h3 G 0 (v.cs av cv) (v.cs av cv) v (m3.wide (by simp)) (Gh (by obtain ⟨s,rfl,_⟩:=hel2;rfl)) ⟨_,rfl,hv⟩;have b2':∀ y∈F2,y<h.length:=rvers_ok.bd _ _ _ _ r2;have m5:=m4.aside (G:=F2) hGn0 b2';have r2':=m4.keep rvers_ok r2 λy hy hm=>hGn.2.2 y hm y hy rfl;obtain ⟨F5,r5,m6⟩:=keep h4 ⟨l[k].store.set v.key.toNat v,l[k].wait⟩ (F4++F2) m5 ⟨_,_,F4,F2,rfl,rfl,r4,r2'⟩;exact ⟨b,i,_,(b2,i2),c1,ha,by rw[Bx hb hrow];rfl,λK=>Af _ _ _ _ _,⟨F1,r1⟩,h4,F5,e4,r5,m6⟩
theorem Qe (hs:RNodes false h [.sl 2 a l.length c] l F) (hv:RTags false h [.sl 2 av v.past.length cv] v.past G) (hd:∀ b∈G,b∉F) (hnd:F.Nodup) (hlo:∀ b∈F,lo<=b) (hl:lo<=h.length) (hk:k<l.length)
  (hkey:0<=v.key/\v.key<l[k].store.length) (hn:Dm l) (hvn:v.past.length<=1048576) :
  ∃ h' F',Ai lo 193 [.agg [.sl 2 a l.length c],Iv k,.agg (v.cs av cv)] h=some (.agg [.sl 2 a l.length c],h')/\RNodes false h' [.sl 2 a l.length c] (FI l k v) F'/\Mv h F h' F':=by
 have hn1:=hn.1;have hkl:v.key.toNat<l[k].store.length:=by omega
 have hsm:=hn.2 _ (zcv hk);suffices hq:∃ h' F',_=some (V.agg [.sl 2 a l.length c],h')/\RNodes false h' [.sl 2 a l.length c] (FI l k v) F'/\Mv h F h' F' from hq.imp λh' hq=>hq.imp λF' hq=>⟨Uq hq.1,hq.2⟩
 obtain ⟨b,i,rs,row,G0,ha,hbF,hbG,hb,hrow,hel,hGF,hGn,_,put⟩:=hs.at rnode_ok hk hnd hlo;obtain ⟨t1,t2,F1,F2,rfl,rfl,r1,r2⟩:=hel;obtain ⟨a1,c1,e1,r1'⟩:=r1.form;obtain ⟨o,s,_,_,_,ha1,_,_,_,_,_,_,ho12,_⟩:=RVers.all r1' hkl;have ld0:ld h b (i+k) 0 1=some [t1]:=by rw[Bx hb hrow];rfl
 rw[VM hk hkl];rw[Ae hk];simp only[ha,Ad,Bb,ld0,Aa,Ag,e1];rw[Cl ⟨by omega,by omega⟩];simp only[ha1,Ad,ho12,Aa,Ab,Ag,Cf,Ac,Ao];show ∃ h' F',br (A0 l[k].store[v.key.toNat] v) _ _=_/\_;cases hle:A0 l[k].store[v.key.toNat] v with
 | false=>exact ⟨h,F,rfl,by rw[<- ha];exact hs,Mv.refl hnd⟩
 | true =>
  have hGn0:=hGn;rw[zcy] at hGn;have hGlt:∀ b∈G,b<h.length:=rtags_ok.bd _ _ _ _ hv;obtain ⟨h2,F3,e2,r3,m2⟩:=V3 (lo:=lo) r1' hv hGn.1 (λy hy=>hlo y (hGF y (by simp[hy]))) hl hkey hvn;have b2':∀ y∈F2,y<h.length:=rvers_ok.bd _ _ _ _ r2;have m3:=m2.aside (G:=F2) hGn0 b2';have r2':=m2.keep rvers_ok r2 λy hy hm=>hGn.2.2 y hm y hy rfl;have hadd:GM l[k].store v=l[k].store.set v.key.toNat v:=by rw[Rj hkl,hle,cond_true]
  have hlen:(GM l[k].store v).length=l[k].store.length:=Xg;rw[<- hlen] at r3;obtain ⟨h4,F4,e4,r4,m4,b4,fr4,l4⟩:=put h2 (F3++F2) 0 [.sl 6 a1 (GM l[k].store v).length c1] [.sl 6 a1 (GM l[k].store v).length c1,t2] ⟨GM l[k].store v,l[k].wait⟩ m3 rfl ⟨_,_,F3,F2,rfl,rfl,r3,r2'⟩;rw[hlen] at e4;have hv4:RTags false h4 [.sl 2 av v.past.length cv] v.past G:=m4.keep rtags_ok hv hd;have hk4:k<(l.set k ⟨GM l[k].store v,l[k].wait⟩).length:=by simpa using hk
  rw[Am,Ae hk];simp only[Ad,ld0,Aa,e1,Ag];rw[e2];simp only[Ac,AO,Aa,Af,Ag];rw[Ae hk,e4];simp only[Ad];rw[wr (by omega) (by omega),cond_true];by_cases hlast:k+1<l.length
  ·rw[Ak (by omega),Ae hk,decide_eq_true hlast,cond_true];obtain ⟨a6,c6,h6,F6,e6,r6,m6⟩:=Ep (lo:=h4.length) (v:=v) hv4 (zcz _) hvn;have hself:(l.set k ⟨GM l[k].store v,l[k].wait⟩)[k]=⟨GM l[k].store v,l[k].wait⟩:=zdK hk4;obtain ⟨b7,i7,u2,a7,c7,a8,c8,h8,ha7,ld7,e7,app7,_,st7⟩:=SN (lo:=lo) r4 hk4 m4.nd (λy hy=>m4.ge hl hlo y hy) (zcw hl m4.le) (by rw[hself];exact hsm.2.1) r6 m6;simp only[hself] at e7 app7 st7;obtain ⟨h9,F9,e9,r9,m9⟩:=st7 _ (.inl rfl);rw[ha] at ha7;injection ha7 with ha7;injection ha7 with hb7 hi7;subst hb7;subst hi7;simp only[ld7,Ad,Aa,Ag,e7];rw[e6];simp only[Ac,AO,Aa,Ab,Af,BH,AM,Ag,A9];rw[app7];simp only[Af];rw[Ae hk,e9];rw[zdL,hadd] at r9;exact ⟨h9,F9,rfl,by rw[<- ha];exact r9,m4.trans m9⟩
  ·rw[Aj (by omega),decide_eq_false hlast,cond_false];rw[hadd] at r4;exact ⟨h4,F4,rfl,by rw[<- ha];exact r4,m4⟩
theorem QN {b i j R e:Nat}{rs:List (List V)}{row:List V} (hb:h[b]?=some (.rows R e false rs)) (hrow:rs[i]?=some row) (hcell:row[j]?=some (.sl 2 a l.length c)) (hs:RNodes false h [.sl 2 a l.length c] l F) (hbF:b∉F)
  (hv:RTags false h [.sl 2 av v.past.length cv] v.past G) (hd:∀ b∈G,b∉F) (hnd:F.Nodup) (hlo:∀ b∈F,lo<=b) (hl:lo<=h.length) (hk:k<l.length)
  (hkey:0<=v.key/\v.key<l[k].store.length) (hn:Dm l) (hvn:v.past.length<=1048576) :
  ∃ h' F',Ai lo 175 [.ptr (some (b,(i,j))),Iv k,.agg (v.cs av cv)] h=some (.tup [],h')/\RNodes false h' [.sl 2 a l.length c] (FI l k v) F'/\Mv h F h' F':=by
 have hn1:=hn.1;have hkl:v.key.toNat<l[k].store.length:=by omega
 have hsm:=hn.2 _ (zcv hk);have hblt:b<h.length:=(Ea hb).1;have hld:ld h b i j 1=some [.sl 2 a l.length c]:=by rw[Bx hb hrow];exact Ig hcell
 suffices hq:∃ h' F',_=some (V.tup [],h')/\RNodes false h' [.sl 2 a l.length c] (FI l k v) F'/\Mv h F h' F' from hq.imp λh' hq=>hq.imp λF' hq=>⟨Mr hq.1,hq.2⟩
 obtain ⟨a3,c3,h3,F3,e3,r3,m3⟩:=BG (lo:=h.length) (v:=v) hv (zcz _) hvn;obtain ⟨b1,i1,t1,o,c1,ha,ld0,e1,⟨F1,r1⟩,h4,F4,e4,r4,m4⟩:=Yb (lo:=lo) hs hk hnd hlo hkl r3 m3;have hlat:=L3 (lo:=lo) (v:=v) (ca:=av) (cc:=cv) (n:=v.past.length) r1 (by omega);rw[VM hk hkl];simp only[zdf,hld,Ad,Aa,Ag,Af];rw[Ae hk];simp only[ha,Ad,Bb,ld0,Aa,Ag,e1];rw[hlat];simp only[Ac,Ao];cases hle:A0 l[k].store[v.key.toNat] v with
 | false=>exact ⟨h,F,rfl,by rw[<- ha];exact hs,Mv.refl hnd⟩
 | true =>
  have hb4:h4[b]?=some (.rows R e false rs):=by rw[m4.fr b hblt hbF];exact hb
  have hld4:ld h4 b i j 1=some [.sl 2 a l.length c]:=by rw[Bx hb4 hrow];exact Ig hcell
  have hv4:RTags false h4 [.sl 2 av v.past.length cv] v.past G:=m4.keep rtags_ok hv hd;have hk4:k<(l.set k ⟨l[k].store.set v.key.toNat v,l[k].wait⟩).length:=by simpa using hk
  rw[Am,e3];simp only[Ac,AO,Aa,Ab,Af,BH,AM,Ag,Ad,ld0,e1];rw[Cl ⟨by omega,by omega⟩,e4];simp only[Ad,hld4,Aa,Af,Ag];rw[Oc hn1];simp only[Ac,Ao,cond_true];by_cases hlast:k+1=l.length
  ·rw[decide_eq_true hlast,decide_eq_false (by omega),cond_false,Am];exact ⟨h4,F4,rfl,by rw[<- ha];exact r4,m4⟩
  ·rw[decide_eq_false hlast,decide_eq_true (by omega),cond_true,Av];obtain ⟨a6,c6,h6,F6,e6,r6,m6⟩:=BG (lo:=h4.length) (v:=v) hv4 (zcz _) hvn;have hself:(l.set k ⟨l[k].store.set v.key.toNat v,l[k].wait⟩)[k]=⟨l[k].store.set v.key.toNat v,l[k].wait⟩:=zdK hk4;obtain ⟨b7,i7,u2,a7,c7,a8,c8,h8,ha7,ld7,e7,app7,⟨F8,r8⟩,st7⟩:=SN (lo:=lo) r4 hk4 m4.nd (λy hy=>m4.ge hl hlo y hy) (zcw hl m4.le) (by rw[hself];exact hsm.2.1) r6 m6;simp only[hself] at e7 app7 st7 r8;obtain ⟨h9,F9,e9,r9,m9⟩:=st7 _ (.inr rfl);rw[ha] at ha7;injection ha7 with ha7;injection ha7 with hb7 hi7;subst hb7;subst hi7;simp only[ld7,Ad,Aa,Ag,e7];rw[e6];simp only[Ac,AO,Aa,Ab,Af,BH,AM,Ag,A9];rw[app7];simp only[Af];rw[KL r8];simp only[Ac,Af];rw[e9];rw[zdL] at r9;exact ⟨h9,F9,rfl,by rw[<- ha];exact r9,m4.trans m9⟩
end


def noted (me:Int) (log:List Ver) (v:Ver):List Ver:=bif decide (v.tag.time>0)&&(v.tag.place==me && !Cq log v.tag) then log ++ [v] else log
def Eu (l:List Node):List Ver:=match l.getLast? with
 | some x=>x.store
 | none => []
def RT (l:List Node):Bool:=l.all λx=>decide (x.wait.length=0)
def BF (p:Place):Place:=⟨p.me,p.clock,p.chain,(Eu p.chain).foldl (noted p.me) p.log,p.got,p.fell && !RT p.chain⟩
theorem E5 {l:List Node} (h0:0<l.length):Eu l=(l[l.length - 1]'(by omega)).store:=by unfold Eu;rw[List.getLast?_eq_getElem?,Cz (by omega)]
theorem Yo {me:Int}{log:List Ver}{v:Ver}:(noted me log v).length<=log.length+1:=by unfold noted;cases decide (v.tag.time>0)&&(v.tag.place==me && !Cq log v.tag)<;>simp
section
variable {lo:Nat}{h:Heap}{F F':List Nat}{a a':Pq}{c c':Nq}
theorem LF {l:List Ver}{t p:Int}{ro:Bool} (hs:RVers ro h [.sl 6 a l.length c] l F) (hn:l.length<=1048576) :
  Ai lo 194 [.sl 6 a l.length c,.agg [Iv t,Iv p]] h=some (.bool (Cq l ⟨t,p⟩),h):=by
 refine Py (h':=h) ?_;have loop:∀ m i,m+i=l.length->CG h.length a l.length c false (i:Nat) t p h=some (.bool ((l.drop i).any λv=>v.tag.time==t&&v.tag.place==p),h):=by
  intro m;induction m with
  | zero =>intro i hi;rw[CG.e,Aj (by omega),zdk (by omega)];rfl
  | succ m ih =>
   intro i hi;have hil:i<l.length:=by omega
   obtain ⟨o,s,_,_,_,ha,_,_,_,_,_,_,ho,_⟩:=RVers.all hs hil;rw[CG.e,Ak (by omega),Ae hil];simp only[ha,Ad,Bb,ho,Aa,Ab,Ag,zdw];rw[Ar (show i<9223372036854775807 by omega),<- ha,ih (i+1) (by omega),zcM hil,List.any_cons];cases (l[i].tag.time==t&&l[i].tag.place==p)<;>rfl
 exact loop l.length 0 (by omega)
theorem OU {p:Place}{a1 a2 a3:Pq}{c1 c2 c3:Nq}{F1 F2:List Nat} (hs1:RNodes false h [.sl 2 a1 p.chain.length c1] p.chain F1) (hs2:RVers false h [.sl 6 a2 p.log.length c2] p.log F2)
  (h0:0<p.chain.length) (h4:(Eu p.chain).length=4) (hd:∀ b∈F1,b∉F2) (hnd:F2.Nodup) (hlo:∀ b∈F2,lo<=b) (hl:lo<=h.length) (hcl:p.chain.length<=1048576) (hlog:p.log.length<=1000000) (hvn:∀ v∈Eu p.chain,v.past.length<=1048576) :
  ∃ a2' c2' h' F2',Ai lo 161 [.agg (p.cs a1 c1 a2 c2 a3 c3)] h=some (.agg ((BF p).cs a1 c1 a2' c2' a3 c3),h')/\RVers false h' [.sl 6 a2' (BF p).log.length c2'] (BF p).log F2'/\Mv h F2 h' F2':=by
 obtain ⟨o,s1,s2,b1,d1,b2,d2,G1,G2,ha,_,ho1,_,e1,_,q1,_,q3,_⟩:=hs1.get (show p.chain.length - 1<p.chain.length by omega);rw[E5 h0] at h4 hvn;have two:∀ (hh:Heap) (F':List Nat) (ax:Pq) (nx:Nat) (cx:Nq),Mv h F2 hh F'->∀ m i (b:Bool),m+i=p.chain.length ->
   B0 lo b (i:Nat) p.me p.clock a1 p.chain.length c1 ax nx cx a3 p.got.length c3 p.fell 0 0 0 none 0 (some 0) 0 none 0 (some 0) 0 none 0 (some 0) false hh=some (.agg [Iv p.me,Iv p.clock,.sl 2 a1 p.chain.length c1,.sl 6 ax nx cx,.sl 1 a3 p.got.length c3,.bool (p.fell && !(b&&(p.chain.drop i).all λx=>decide (x.wait.length=0)))],hh):=by
  intro hh F' ax nx cx hm m;induction m with
  | zero =>intro i b hi;rw[B0.e,Aj (by omega),zdk (by omega)];cases p.fell<;>cases b<;>rfl
  | succ m ih =>
   intro i b hi;have hil:i<p.chain.length:=by omega
   obtain ⟨o',_,_,_,_,_,_,_,_,ha',_,_,ho2',_,e2',_⟩:=(hm.keep rnodes_ok hs1 hd).get hil;rw[B0.e,Ak (by omega),Ar (show i<9223372036854775807 by omega)];cases b with
   | false=>rw[Av,ih (i+1) false (by omega)];rfl
   | true =>rw[Am,Ae hil];simp only[ha',Ad,Bb,ho2',Aa,Ag,e2'];rw[<- ha',ih (i+1) true (by omega),ih (i+1) false (by omega),zcM hil,List.all_cons,show (((p.chain[i].wait.length:Nat):Int)==0)=decide (p.chain[i].wait.length=0) by rw[zdC,beq_iff_eq,decide_eq_true_eq];omega];cases decide (p.chain[i].wait.length=0)<;>rfl
 have one:∀ m i,m+i=4->∀ hh ax cx (lg:List Ver) Fx,RVers false hh [.sl 6 ax lg.length cx] lg Fx->Mv h F2 hh Fx->lg.length<=1000000+i->∃ a' c' h' F',
   B3 lo (i:Nat) p.me p.clock a1 p.chain.length c1 ax lg.length cx a3 p.got.length c3 p.fell 0 0 0 none 0 (some 0) 0 none 0 (some 0) 0 none 0 (some 0) false b1 (p.chain[p.chain.length - 1]'(by omega)).store.length d1 hh =
    B0 lo true 0 p.me p.clock a1 p.chain.length c1 a' (((p.chain[p.chain.length - 1]'(by omega)).store.drop i).foldl (noted p.me) lg).length c' a3 p.got.length c3 p.fell 0 0 0 none 0 (some 0) 0 none 0 (some 0) 0 none 0 (some 0) false h' /\
   RVers false h' [.sl 6 a' (((p.chain[p.chain.length - 1]'(by omega)).store.drop i).foldl (noted p.me) lg).length c'] (((p.chain[p.chain.length - 1]'(by omega)).store.drop i).foldl (noted p.me) lg) F'/\Mv h F2 h' F':=by
  intro m;induction m with
  | zero =>intro i hi hh ax cx lg Fx hr hm hlen;rw[B3.e,Aj (by omega),zdk (by omega)];exact ⟨ax,cx,hh,Fx,rfl,hr,hm⟩
  | succ m ih =>
   intro i hi hh ax cx lg Fx hr hm hlen;have hil:i<(p.chain[p.chain.length - 1]'(by omega)).store.length:=by omega
   have q1':=hm.keep rvers_ok q1 λy hy=>hd y (q3 y hy);obtain ⟨o',s',b',d',G',ha',_,_,_,_,_,_,_,ho',es',hp',_⟩:=RVers.all q1' hil;rw[zcM hil,zdr];rw[B3.e,Ak (by omega),Ae hil];simp only[ha',Ad,Bb,ho',Aa,Ab,es',BH,AM,Ag];rw[<- ha',Ar (show i<9223372036854775807 by omega),LF hr (by omega)];simp only[Ac,Ao];have stay:=ih (i+1) (by omega) hh ax cx lg Fx hr hm (by omega);have hno:=@noted.eq_1 p.me lg ((p.chain[p.chain.length - 1]'(by omega)).store[i]'hil);cases g1:decide (((p.chain[p.chain.length - 1]'(by omega)).store[i]'hil).tag.time>0) with
   | false=>rw[Av,hno,g1];exact stay
   | true =>
   rw[Am];cases g2:(((p.chain[p.chain.length - 1]'(by omega)).store[i]'hil).tag.place==p.me) with
   | false=>rw[Av,hno,g1,g2];exact stay
   | true =>
   rw[Am];cases g3:Cq lg ((p.chain[p.chain.length - 1]'(by omega)).store[i]'hil).tag with
   | true=>rw[Am,hno,g1,g2,g3];exact stay
   | false =>
   rw[Av,hno,g1,g2,g3];obtain ⟨a3',c3',h3,F3,e3,r3,m3⟩:=Ep (lo:=lo) (v:=((p.chain[p.chain.length - 1]'(by omega)).store[i]'hil)) hp' (zcw hl hm.le) (hvn _ (zcv hil));obtain ⟨a5,c5,h5,F5,e5,r5,m5⟩:=DC (lo:=lo) (bytes:=72) (e:=49) rver_ok hr (row:=((p.chain[p.chain.length - 1]'(by omega)).store[i]'hil).cs a3' c3') (x:=((p.chain[p.chain.length - 1]'(by omega)).store[i]'hil)) (G:=F3) (h1:=h3 ++ [.rows 6 49 false [((p.chain[p.chain.length - 1]'(by omega)).store[i]'hil).cs a3' c3']])
    ⟨_,rfl,Mv.snoc.keep0 rtags_ok r3⟩ (m3.trans (Mv.snoc' m3.nd)) hm.nd (λy hy=>hm.ge hl hlo y hy) (zcw hl hm.le) (by decide) (by omega)
   rw[e3];simp only[Ac,AO,Aa,Ab,Af,BH,AM,Ag,A9];rw[e5];simp only[Af];have:=ih (i+1) (by omega) h5 a5 c5 (lg ++ [((p.chain[p.chain.length - 1]'(by omega)).store[i]'hil)]) F5 (by rw[zcP];exact r5) (hm.trans m5) (by simp;omega);rw[zcP] at this;exact this
 obtain ⟨a',c',h',F',el,r,m⟩:=one 4 0 (by omega) h a2 c2 p.log F2 hs2 (Mv.refl hnd) (by omega);refine ⟨a',c',h',F',R6 ?_,?_,m⟩
 ·rw[Cl ⟨by rw[wr (by omega) (by omega)];omega,by rw[wr (by omega) (by omega)];omega⟩,wr (by omega) (by omega),show ((p.chain.length:Int) - 1).toNat=p.chain.length - 1 by omega];simp only[ha,Ad,ho1,Aa,e1,Ag];rw[<- ha];refine el.trans ?_;have:=two h' F' a' (((p.chain[p.chain.length - 1]'(by omega)).store.drop 0).foldl (noted p.me) p.log).length c' m p.chain.length 0 true (by omega);refine this.trans ?_;simp only[BF,Place.cs,E5 h0,zdt,zcJ,RT]
 ·simp only[BF,E5 h0];rw[zdt] at r;exact r
end


variable {l:List Node}
theorem Mv.store {h h':Heap}{F F':List Nat}{b:Nat} (m:Mv h F h' F') (hb:b<h.length) (hbF:b∉F) (X:Blk) :
  Mv h (b :: F) (h'.set b X) (b :: F')/\(h'.set b X)[b]?=some X/\(∀ y,y≠b->(h'.set b X)[y]?=h'[y]?)/\b∉F':=by
 have hbF':b∉F':=λhm=>by
  rcases m.sub b hm with g | g
  ·exact hbF g
  ·omega
 have hb':b<h'.length:=zcI hb m.le;refine ⟨⟨by simpa using m.le,λy hy hF=>?_,by rw[zcE];exact ⟨hbF',m.nd⟩,λy hy=>?_⟩,by simp[hb'],λy hy=>zcA (Ne.symm hy),hbF'⟩
 ·rw[zcD,not_or] at hF;rw[zcA (Ne.symm hF.1)];exact m.fr y hy hF.2
 ·rw[zcD] at hy;rcases hy with rfl | hy
  ·exact .inl (by simp)
  ·refine (m.sub y hy).imp (λg=>by simp[g]) λg=>by simpa using g
section
variable {lo:Nat}{ro:Bool}{h:Heap}{F F':List Nat}{a a':Pq}{c c':Nq}
theorem NO {g:Nat}{cl:List V}{p:Node->Bool} (hs:RNodes ro h [.sl 2 a l.length c] l F) (hn:l.length<=1048576)
  (hp:∀ lo x a1 c1 a2 c2,x∈l->Ai lo g (CR [.agg [.sl 6 a1 x.store.length c1,.sl 6 a2 x.wait.length c2]] cl) h=some (.bool (p x),h)) :
  Ai lo 176 [.sl 2 a l.length c,.fn g cl] h=some (.bool (l.any p),h):=by
 have loop:∀ m k x,m+k=l.length->AF (List.length h) a l.length c g cl x (l.length:Nat) (k:Nat) h=some (Iv (Bw p (l.drop k) k),h):=by
  intro m;induction m with
  | zero =>intro k x hk;rw[AF.e,Aj (by omega),show k=l.length by omega];simp[Bw]
  | succ m ih =>
   intro k x hk;have hlt:k<l.length:=by omega
   obtain ⟨o,s1,s2,b1,d1,b2,d2,G1,G2,rfl,ho,_,_,e1,e2,_⟩:=hs.get hlt;rw[AF.e,Ak (by omega),Ae (by omega)];simp only[Ad,Bb,ho,Aa,e1,e2,Ag];rw[hp (List.length h) l[k] b1 d1 b2 d2 (zcv hlt),Ac,Ao,zcM hlt];simp only[Bw];cases p l[k]
   ·simp only[Av,cond_false];rw[Ar (by omega)];exact ih (k+1) _ (by omega)
   ·simp
 exact EJ (h':=h) (by rw[Fe (loop l.length 0 0 (by omega))];simp only[Ac,Ab,J0];rw[E7];simp)
theorem ZN:(l.any λx=>decide (x.wait.length>0)) = !RT l:=by
 unfold RT;induction l with
 | nil=>rfl
 | cons x l ih =>rw[List.any_cons,List.all_cons,ih,Bool.not_and];congr 1;rw[zdC,zdd,decide_eq_true_eq,decide_eq_false_iff_not];omega
end


variable {v:Ver}{l:List Ver}{x:Node}{p:Place}{nw:Nat}
def thin (v:Ver):Prop:=v.past.length<=4/\v.text.size<=8/\B5 v.tag.time v.tag.place=true
def GA (nw:Nat) (x:Node):Prop:=x.store.length=4/\x.wait.length<=nw/\(∀ v∈x.store,thin v)/\∀ v∈x.wait,thin v
structure Tidy (nc nw nl:Nat) (p:Place):Prop where
 len:p.chain.length<=nc
 node:∀ x∈p.chain,GA nw x
 log:p.log.length<=nl/\∀ v∈p.log,thin v
 got:p.got.length<=3/\∀ l∈p.got,l.length<=nl/\∀ v∈l,thin v
theorem K0 (h:Ck v=true):thin v:=by obtain ⟨_,h2,_,h3,h4,_⟩:=A3 h;have:=Gb h2;have:=CV h3;exact ⟨by omega,by omega,h4⟩
theorem X4 (h:HY v=true):thin v:=by rw[Mw h];exact ⟨by simp,by show 0<=8;omega,rfl⟩
theorem Xj {i:Nat} (h:IO i v=true):thin v:=(Cp h).elim X4 λh=>K0 h.1
theorem Fl {m:Int} (h:Gi m l=true):l.length<=60/\∀ i (hi:i<l.length),Ck l[i]=true/\l[i].tag.place=m/\Cq (l.take i) l[i].tag=false:=by unfold Gi at h;rw[CA,Ed,decide_eq_true_eq] at h;refine ⟨by omega,λi hi=>?_⟩;have:=h.1 i hi;simp only[SW,CA,beq_iff_eq,zdd] at this;exact ⟨this.1.1,this.1.2,this.2⟩
theorem U7 {m:Int} (h:Gi m l=true):l.length<=60/\∀ v∈l,thin v:=by obtain ⟨h1,h2⟩:=Fl h;refine ⟨h1,λv hv=>?_⟩;obtain ⟨i,hi,rfl⟩:=zda.1 hv;exact K0 (h2 i hi).1
theorem ST (h:DT x=true):GA 6 x:=by obtain ⟨h1,h2,h3⟩:=AY h;refine ⟨Bi h1,h2,λv hv=>?_,λv hv=>K0 (h3 v hv)⟩;obtain ⟨i,hi,rfl⟩:=zda.1 hv;exact Xj (De h1 hi)
theorem AI (h:As p=true):(0<=p.me/\p.me<=2)/\(0<=p.clock/\p.clock<=999)/\p.got.length=3/\Ew p.chain=true/\HD p.chain=true/\Gi p.me p.log=true /\
  (∀ i (hi:i<p.got.length),KD p.me i p.got[i]=true)/\Fv p.chain p.clock=true:=by
 unfold As at h;simp only[CA,Ed,decide_eq_true_eq,Ah] at h;obtain ⟨⟨⟨⟨⟨⟨⟨h1,h2⟩,h3⟩,h4⟩,h5⟩,h6⟩,h7⟩,h8⟩:=h;exact ⟨h1,h2,h3,h4,h5,h6,h7,h8⟩
theorem PW (h:As p=true) {i:Nat} (hi:i<p.got.length):Gi i p.got[i]=true:=by have:=(AI h).2.2.2.2.2.2.1 i hi;unfold KD at this;rw[CA] at this;exact this.1
theorem Bv (h:As p=true):Tidy 4 6 60 p:=by obtain ⟨_,_,h3,h4,_,h6,h7,_⟩:=AI h;obtain ⟨g1,g2⟩:=CO h4;refine ⟨g1.2,λx hx=>ST (g2 x hx),U7 h6,by omega,λl hl=>?_⟩;obtain ⟨i,hi,rfl⟩:=zda.1 hl;exact U7 (PW h hi)
theorem PU {α:Type}{w:α->Nat}{c:Nat}:∀ {l:List α},(∀ v∈l,w v<=c)->ZA w l<=c*l.length
 | [],_=>by simp[ZA]
 | x :: l,h=>by have h1:=PU (w:=w) (l:=l) λv hv=>h v (by simp[hv]);have h2:=h x (by simp);simp only[ZA,List.map_cons,List.sum_cons,zdA,Nat.mul_add,Nat.mul_one] at h1 ⊢;omega
theorem zbF (h:thin v):zbD v<=13:=by have:=h.1;unfold zbD;rw[Xo];omega
theorem PS (hl:l.length<=1048576) (h:∀ v∈l,thin v):Dq l:=⟨hl,λv hv=>by have:=h v hv;exact ⟨by have:=this.1;omega,by have:=this.2.1;omega⟩⟩
theorem PR (h:∀ v∈l,thin v):UG l<=13*l.length:=PU λv hv=>zbF (h v hv)
theorem zaP (h:GA nw x) (hw:nw<=100):Dq x.store/\Dq x.wait:=by obtain ⟨h1,h2,h3,h4⟩:=h;exact ⟨PS (by omega) h3,PS (by omega) h4⟩
theorem zbI (h:GA nw x) (hw:nw<=100):Za x<=1352:=by obtain ⟨h1,h2,h3,h4⟩:=h;have:=PR h3;have:=PR h4;unfold Za;omega
theorem Kk {nc nl:Nat} (h:Tidy nc nw nl p) (h1:nc<=100) (h2:nw<=100):Dm p.chain:=⟨by have:=h.len;omega,λx hx=>zaP (h.node x hx) h2⟩
theorem Eh {nc nl:Nat} (h:Tidy nc nw nl p) (h1:nc<=100) (h2:nw<=100) (h3:nl<=1000):Hp p/\(1:Int)+Y8 p<=zcs:=by
 have g1:=h.len;have g2:=h.log.1;have g3:=h.got.1;refine ⟨⟨Kk h h1 h2,PS (by omega) h.log.2,by omega,λl hl=>PS (by have:=(h.got.2 l hl).1;omega) (h.got.2 l hl).2⟩,?_⟩;have e1:Y9 p.chain<=1352*p.chain.length:=PU λx hx=>zbI (h.node x hx) h2;have e2:=PR h.log.2;have e3:zb3 p.got<=13000*p.got.length:=PU λl hl=>by have:=PR (h.got.2 l hl).2;have:=(h.got.2 l hl).1;omega
 simp only[Y8,zcs];omega
theorem MA {nc nl k:Nat}{t:Int} (h:Tidy nc nw nl p) (hv:thin v):Tidy nc (nw+1) nl ⟨p.me,t,FI p.chain k v,p.log,p.got,p.fell⟩:=by
 have hx:∀ x,x∈p.chain->GA (nw+1) x:=λx hx=>by obtain ⟨g1,g2,g3⟩:=h.node x hx;exact ⟨g1,by omega,g3⟩
 have key:(FI p.chain k v).length<=nc/\∀ x∈FI p.chain k v,GA (nw+1) x:=by
  unfold FI;split
  ·rename_i x hk
   split
   ·rename_i u hu
    cases A0 u v with
    | false=>exact ⟨h.len,hx⟩
    | true =>
     rw[cond_true];refine ⟨by simpa using h.len,λy hy=>?_⟩;rcases zcZ hy with hy | rfl
     ·exact hx y hy
     ·obtain ⟨g1,g2,g3,g4⟩:=h.node x (zcL hk);refine ⟨by simpa using g1,?_,λw hw=>?_,?_⟩
      ·cases decide (k+1<p.chain.length)
       ·show x.wait.length<=nw+1;omega
       ·show (x.wait ++ [v]).length<=nw+1;simp;omega
      ·rcases zcZ hw with hw | rfl
       ·exact g3 w hw
       ·exact hv
      ·cases decide (k+1<p.chain.length)
       ·exact g4
       ·intro w hw;rcases zcx.1 hw with hw | hw
        ·exact g4 w hw
        ·rw[zcQ] at hw;subst hw;exact hv
   ·exact ⟨h.len,hx⟩
  ·exact ⟨h.len,hx⟩
 exact ⟨key.1,key.2,h.log,h.got⟩
theorem LZ {l:List Node} (h0:0<l.length):∃ x∈l,Eu l=x.store:=⟨_,zcv (show l.length - 1<l.length by omega),E5 h0⟩


variable {l:List Node}{p:Place}{v:Ver}
def Id (s:List Ver) (v:Ver):Bool:=match s[v.key.toNat]? with
 | some u=>A0 u v
 | none=>false
def Ev (l:List Node):List Ver:=match l[0]? with
 | some x=>x.store
 | none => []
def DI (l:List Node) (k:Nat):Bool:=match l[k]? with
 | some x=>decide (x.wait.length<6)
 | none=>false
def IZ (p:Place) (f:Nat):List Ver:=match p.got[f]? with
 | some l=>l
 | none => []
def Jf (p:Place) (f:Nat):Option Ver:=(IZ p f).find? (Id (Ev p.chain))
def EW (p:Place) (k:Nat) (t:Int) (v:Ver):Place:=⟨p.me,t,FI p.chain k v,p.log,p.got,p.fell⟩
theorem He (h0:0<l.length):Ev l=l[0].store:=by unfold Ev;rw[Cz h0]
theorem It {k:Nat} (hk:k<l.length):DI l k=decide (l[k].wait.length<6):=by unfold DI;rw[Cz hk]
theorem Hf {f:Nat} (hf:f<p.got.length):IZ p f=p.got[f]:=by unfold IZ;rw[Cz hf]
theorem Pb {s:List Ver} (h:v.key.toNat<s.length):Id s v=A0 s[v.key.toNat] v:=by unfold Id;rw[Cz h]
theorem Nh {α:Type}{p:α->Bool}:∀ {l:List α}{k:Nat},(∃ i,∃ hi:i<l.length,Bw p l k=((k+i:Nat):Int)/\l.find? p=some l[i])\/(Bw p l k = -1/\l.find? p=none)
 | [],k => .inr ⟨rfl,rfl⟩
 | x :: l,k=>by
  simp only[Bw,List.find?_cons];cases hp:p x with
  | true=>exact .inl ⟨0,by simp,by simp,by simp⟩
  | false =>
   rw[cond_false];rcases Nh (p:=p) (l:=l) (k:=k+1) with ⟨i,hi,h1,h2⟩ | h
   ·exact .inl ⟨i+1,by simpa using hi,by rw[h1];congr 1;omega,by simpa using h2⟩
   ·exact .inr h
theorem Em {k:Nat}:(FI l k v).length=l.length:=by
 unfold FI;split
 ·split
  ·cases A0 _ v<;>simp
  ·rfl
 ·rfl
section
variable {lo:Nat}{ro:Bool}{h:Heap}{F F':List Nat}{a a':Pq}{c c':Nq}
theorem OX (hs:RNodes ro h [.sl 2 a l.length c] l F) (h0:0<l.length):Ai lo 198 [.agg [.sl 2 a l.length c]] h=some (.bool (DI l 0),h):=by
 refine R9 (h':=h) ?_;obtain ⟨o,s1,s2,b1,d1,b2,d2,G1,G2,ha,_,_,ho2,_,e2,_⟩:=hs.get h0;rw[It h0,show (0:Int)=((0:Nat):Int) from rfl,Ae h0];simp only[ha,Ad,Bb,ho2,Aa,e2,Ag];by_cases hw:l[0].wait.length<6
 ·rw[Ak (by omega),decide_eq_true hw]
 ·rw[Aj (by omega),decide_eq_false hw]
theorem Od {b i j k:Nat} (hld:ld h b i j 1=some [.sl 2 a l.length c]) (hs:RNodes ro h [.sl 2 a l.length c] l F) (hk:k<l.length):Ai lo 173 [.ptr (some (b,(i,j))),Iv (k:Nat)] h=some (.bool (!DI l k),h):=by
 refine NK (h':=h) ?_;obtain ⟨o,s1,s2,b1,d1,b2,d2,G1,G2,ha,_,_,ho2,_,e2,_⟩:=hs.get hk;rw[zdf,hld];simp only[Ad,Aa,Ag,Af];rw[It hk,Ae hk];simp only[ha,Ad,Bb,ho2,Aa,e2,Ag];by_cases hw:l[k].wait.length<6
 ·rw[Aj (by omega),decide_eq_true hw];rfl
 ·rw[Ak (by omega),decide_eq_false hw];rfl
theorem ME {f:Nat}{a1 a2 a3:Pq}{c1 c2 c3:Nq}{F1 F3:List Nat} (hs1:RNodes ro h [.sl 2 a1 p.chain.length c1] p.chain F1) (hs3:RVss ro h [.sl 1 a3 p.got.length c3] p.got F3)
  (h0:0<p.chain.length) (hf:f<p.got.length) (hk:∀ v∈p.got[f],0<=v.key/\v.key<(Ev p.chain).length) (hn:p.got[f].length<=1048576) :
  Ai lo 197 [.agg (p.cs a1 c1 a2 c2 a3 c3),Iv (f:Nat)] h=some (Iv (Bw (Id (Ev p.chain)) p.got[f] 0),h):=by
 refine Rn (h':=h) ?_;obtain ⟨o,s1,s2,b1,d1,b2,d2,G1,G2,ha,_,ho1,_,e1,_,q1,_⟩:=hs1.get h0;obtain ⟨o3,s3,b3,d3,G3,ha3,ho3,e3,q3,_⟩:=hs3.get hf;rw[He h0] at *
 rw[show (0:Int)=((0:Nat):Int) from rfl,Ae h0];simp only[ha,Ad,Bb,ho1,Aa,e1,Ag];have loop:∀ m i,m+i=p.got[f].length->CX (List.length h) (f:Nat) ((0:Nat):Int) (i:Nat) p.me p.clock a1 p.chain.length c1 a2 p.log.length c2 a3 p.got.length c3 p.fell b1 p.chain[0].store.length d1 h=some (Iv (Bw (Id p.chain[0].store) (p.got[f].drop i) i),h):=by
  intro m;induction m with
  | zero =>intro i hi;rw[CX.e,Ae hf];simp only[ha3,Ad,Bb,ho3,Aa,e3,Ag];rw[Aj (by omega),zdk (by omega)];rfl
  | succ m ih =>
   intro i hi;have hil:i<p.got[f].length:=by omega
   have hky:=hk _ (zcv hil);have hkl:p.got[f][i].key.toNat<p.chain[0].store.length:=by omega
   obtain ⟨o4,s4,b4,d4,G4,ha4,ho4,e4,q4,_⟩:=q3.get hil;obtain ⟨o5,s5,b5,d5,G5,ha5,_,_,_,_,_,_,ho512,_⟩:=RVers.all q1 hkl;rw[CX.e,Ae hf];simp only[ha3,Ad,Bb,ho3,Aa,e3,Ag];rw[Ak (by omega),Ae hf,Ae hil];simp only[ha4,Ad,Bb,ho4,Aa,Ab,e4,BH,AM,Ag];rw[Cl ⟨by omega,by omega⟩];simp only[ha5,Ad,ho512,Aa,Ab,Ag,Cf,Ac,Ao];rw[<- ha3,<- ha5,Ar (show i<9223372036854775807 by omega),ih (i+1) (by omega),zcM hil];simp only[Bw];rw[Pb hkl];unfold A0;cases Fu _ _ _ _<;>rfl
 have:=loop _ 0 rfl;rw[zdt] at this;rw[<- ha];exact this
theorem MF {k:Nat}{t:Int}{a1 a2 a3 av:Pq}{c1 c2 c3 cv:Nq}{F1 F2 G:List Nat} (hs1:RNodes false h [.sl 2 a1 p.chain.length c1] p.chain F1) (hs2:RVers false h [.sl 6 a2 p.log.length c2] p.log F2)
  (hv:RTags false h [.sl 2 av v.past.length cv] v.past G) (hvd:∀ b∈G,b∉F1) (hnd:(F1++F2).Nodup) (hlo:∀ b∈F1++F2,lo<=b) (hl:lo<=h.length) (hk:k<p.chain.length) (hkey:0<=v.key/\v.key<=3)
  (ht:Tidy 10 20 100 p) (hvt:thin v) :
  ∃ h2 a2' c2' h3 F1' F2',Ai lo 193 [.agg [.sl 2 a1 p.chain.length c1],Iv k,.agg (v.cs av cv)] h=some (.agg [.sl 2 a1 p.chain.length c1],h2) /\
   Ai lo 161 [.agg ((EW p k t v).cs a1 c1 a2 c2 a3 c3)] h2=some (.agg ((BF (EW p k t v)).cs a1 c1 a2' c2' a3 c3),h3) /\
   RNodes false h3 [.sl 2 a1 (BF (EW p k t v)).chain.length c1] (BF (EW p k t v)).chain F1'/\RVers false h3 [.sl 6 a2' (BF (EW p k t v)).log.length c2'] (BF (EW p k t v)).log F2'/\Mv h (F1++F2) h3 (F1'++F2'):=by
 have ta:=MA (k:=k) (t:=t) ht hvt;have hn:=Kk ht (by decide) (by decide);have hsto:=(ht.node _ (zcv hk)).1;have hnd':=hnd;rw[zcy] at hnd';obtain ⟨h2,F1',e2,r2,m2⟩:=Qe (lo:=lo) hs1 hv hvd hnd'.1 (λb hb=>hlo b (by simp[hb])) hl hk ⟨hkey.1,by omega⟩ hn (by have:=hvt.1;omega);rw[<- Em (k:=k) (v:=v)] at r2;have b2:∀ y∈F2,y<h.length:=rvers_ok.bd _ _ _ _ hs2;have m3:=m2.aside (G:=F2) hnd b2;have hs2':=m2.keep rvers_ok hs2 λy hy hm=>hnd'.2.2 y hm y hy rfl;have nd3:=m3.nd;rw[zcy] at nd3;have h0:0<(EW p k t v).chain.length:=by show 0<(FI p.chain k v).length;rw[Em];omega
 obtain ⟨x,hx,hxe⟩:=LZ h0;have hxn:=ta.node x hx;have hl2:=m2.le;obtain ⟨a2',c2',h3,F2',e3,r3,m4⟩:=OU (lo:=lo) (p:=EW p k t v) (a3:=a3) (c3:=c3) r2 hs2' h0 (by rw[hxe];exact hxn.1) (λy hy hy2=>nd3.2.2 y hy y hy2 rfl) hnd'.2.1 (λb hb=>hlo b (by simp[hb])) (by omega) (zcw ta.len (by decide)) (zcw ta.log.1 (by decide))
  (λw hw=>by rw[hxe] at hw;have:=(hxn.2.2.1 w hw).1;omega)
 have r2':=m4.keep rnodes_ok r2 λy hy hy2=>nd3.2.2 y hy y hy2 rfl;have b1:∀ y∈F1',y<h2.length:=rnodes_ok.bd _ _ _ _ r2;have m5:=(m4.aside (G:=F1') (by rw[zcy];exact ⟨nd3.2.1,nd3.1,λx hx y hy e=>nd3.2.2 y hy x hx e.symm⟩) b1).swap;exact ⟨h2,a2',c2',h3,F1',F2',e2,e3,r2',r3,m3.trans m5⟩
end


def Ez (p:Place) (t:Int):Place:=⟨p.me,t,p.chain,p.log,p.got,p.fell⟩
def Fq (t c:Int):Int:=if t>c then t else c
theorem UH {h h1 h2:Heap}{b:Nat}{G1 G1' G2 G2' G3:List Nat} (m1:Mv h G1 h1 G1') (m2:Mv h1 (b :: G2) h2 (b :: G2')) (hnd:(b ::(G1++(G2++G3))).Nodup) (hb:∀ y∈b ::(G1++(G2++G3)),y<h.length) :
  Mv h (b ::(G1++(G2++G3))) h2 (b ::(G1'++(G2'++G3)))/\(∀ y∈G1',y∉b :: G2)/\(∀ y∈G3,y∉G1)/\∀ y∈G3,y∉b :: G2:=by
 rw[zcE,zcy,zcx,zcx,zcy] at hnd;obtain ⟨n1,n2,⟨n3,n4,n5⟩,n6⟩:=hnd;simp only[not_or] at n1;have hbb:=hb b (by simp);have hb1:∀ y∈G1,y<h.length:=λy hy=>hb y (by simp[hy]);have hb2:∀ y∈G2,y<h.length:=λy hy=>hb y (by simp[hy]);have hb3:∀ y∈G3,y<h.length:=λy hy=>hb y (by simp[hy]);have l1:=m1.le;have l2:=m2.le;have d1:∀ y∈G1',y∉b :: G2:=λy hy hm=>by
  rcases m1.sub y hy with g | g
  ·rcases zcD.1 hm with rfl | hm
   ·exact n1.1 g
   ·exact n6 y g y (by simp[hm]) rfl
  ·rcases zcD.1 hm with rfl | hm
   ·omega
   ·have:=hb2 y hm;omega
 have d2:∀ y∈G3,y∉G1:=λy hy hm=>n6 y hm y (by simp[hy]) rfl;have d3:∀ y∈G3,y∉b :: G2:=λy hy hm=>by
  rcases zcD.1 hm with rfl | hm
  ·exact n1.2.2 hy
  ·exact n5 y hm y hy rfl
 have nd2:=m2.nd;rw[zcE] at nd2;have s1:∀ y∈G1',y<h1.length:=m1.lt hb1;refine ⟨⟨by omega,λy hy hF=>?_,?_,λy hy=>?_⟩,d1,d2,d3⟩
 ·simp only[zcD,zcx,not_or] at hF;rw[m2.fr y (by omega) (by simp only[zcD,not_or];exact ⟨hF.1,hF.2.2.1⟩),m1.fr y hy hF.2.1]
 ·rw[zcE,zcy,zcx,zcx,zcy];refine ⟨?_,m1.nd,⟨nd2.2,n4,λx hx y hy e=>?_⟩,λx hx y hy e=>?_⟩
  ·simp only[not_or];exact ⟨λg=>d1 b g (by simp),nd2.1,n1.2.2⟩
  ·subst e;rcases m2.sub x (by simp[hx]) with g | g
   ·exact d3 x hy g
   ·have:=hb3 x hy;omega
  ·subst e;rcases zcx.1 hy with hy | hy
   ·rcases m2.sub x (by simp[hy]) with g | g
    ·exact d1 x hx g
    ·have:=s1 x hx;omega
   ·rcases m1.sub x hx with g | g
    ·exact d2 x hy g
    ·have:=hb3 x hy;omega
 ·simp only[zcD,zcx] at hy ⊢;rcases hy with hy | hy | hy | hy
  ·exact .inl (.inl hy)
  ·rcases m1.sub y hy with g | g
   ·exact .inl (.inr (.inl g))
   ·exact .inr ⟨g.1,by omega⟩
  ·rcases m2.sub y (by simp[hy]) with g | g
   ·rcases zcD.1 g with g | g
    ·exact .inl (.inl g)
    ·exact .inl (.inr (.inr (.inl g)))
   ·exact .inr ⟨by omega,g.2⟩
  ·exact .inl (.inr (.inr (.inr hy)))
section
variable {lo:Nat}{ro:Bool}{h:Heap}{F F':List Nat}{a a':Pq}{c c':Nq}
theorem Fg {h1 h2:Heap}{b:Nat}{q:Place}{a1 a2 a3:Pq}{c1 c2 c3:Nq}{G1 G1' G2 G2' G3:List Nat} (m1:Mv h G1 h1 G1') (m2:Mv h1 (b :: G2) h2 (b :: G2')) (hnd:(b ::(G1++(G2++G3))).Nodup) (hb:∀ y∈b ::(G1++(G2++G3)),y<h.length)
  (r1:RNodes false h1 [.sl 2 a1 q.chain.length c1] q.chain G1') (r2:RVers false h2 [.sl 6 a2 q.log.length c2] q.log G2') (r3:RVss false h [.sl 1 a3 q.got.length c3] q.got G3) :
  Cy false h2 (q.cs a1 c1 a2 c2 a3 c3) q (G1'++(G2'++G3))/\Mv h (b ::(G1++(G2++G3))) h2 (b ::(G1'++(G2'++G3))):=by
 obtain ⟨m,d1,d2,d3⟩:=UH m1 m2 hnd hb;exact ⟨⟨_,_,_,_,_,_,rfl,_,_,_,G1',G2',G3,rfl,rfl,m2.keep rnodes_ok r1 d1,r2,m2.keep rvss_ok (m1.keep rvss_ok r3 d2) d3⟩,m⟩
theorem Vi {b i j R e:Nat}{rs:List (List V)}{row:List V}{l:List Node}{v:Ver}{av:Pq}{cv:Nq}{G:List Nat} (hb:h[b]?=some (.rows R e false rs)) (hrow:rs[i]?=some row) (hcell:row[j]?=some (.sl 2 a l.length c)) (hs:RNodes false h [.sl 2 a l.length c] l F) (hbF:b∉F)
  (hv:RTags false h [.sl 2 av v.past.length cv] v.past G) (hd:∀ b∈G,b∉F) (hnd:F.Nodup) (hlo:∀ b∈F,lo<=b) (hl:lo<=h.length) (h0:0<l.length)
  (hkey:0<=v.key/\v.key<l[0].store.length) (hn:Dm l) (hvn:v.past.length<=1048576) :
  ∃ h' F',Ai lo 151 [.ptr (some (b,(i,j))),.agg (v.cs av cv)] h=some (.bool (DI l 0),h')/\RNodes false h' [.sl 2 a l.length c] (bif DI l 0 then FI l 0 v else l) F'/\Mv h F h' F':=by
 have hld:ld h b i j 1=some [.sl 2 a l.length c]:=by rw[Bx hb hrow];exact Ig hcell
 suffices hq:∃ h' F',_=some (V.bool (DI l 0),h')/\RNodes false h' [.sl 2 a l.length c] (bif DI l 0 then FI l 0 v else l) F'/\Mv h F h' F' from hq.imp λh' hq=>hq.imp λF' hq=>⟨OL hq.1,hq.2⟩
 rw[show (0:Int)=((0:Nat):Int) from rfl,Od hld hs h0];simp only[Ac,Ao];cases hr:DI l 0 with
 | false=>exact ⟨h,F,rfl,hs,Mv.refl hnd⟩
 | true =>rw[zdi,Av];obtain ⟨h',F',e1,r1,m1⟩:=QN (lo:=lo) hb hrow hcell hs hbF hv hd hnd hlo hl h0 hkey hn hvn;have e1':Ai lo 175 [.ptr (some (b,(i,j))),Iv ((0:Nat):Int),.agg (v.cs av cv)] h=some (.tup [],h'):=e1;refine ⟨h',F',?_,r1,m1⟩;show Al (Ai lo 175 [.ptr (some (b,(i,j))),Iv ((0:Nat):Int),.agg (v.cs av cv)] h) _=_;rw[e1'];simp only[Ac,Gn,Ag]
end


variable {p:Place}
def IQ (p:Place) (f:Nat):Bool:=match Jf p f with
 | some v=>DI p.chain 0&&Bs v.past (AR p.chain)
 | none=>false
def Ci (p:Place) (f:Int):Bool:=Ah f 0 2&&IQ p f.toNat
def Kc (p:Place) (f:Nat):Place:=match Jf p f with
 | some v=>BF (EW p 0 (Fq v.tag.time p.clock) v)
 | none=>p
def C8 (p:Place) (f:Int):Place:=bif Ci p f then Kc p f.toNat else p
theorem Lh (h:As p=true) {f:Nat} (hf:f<p.got.length) {v:Ver} (hv:v∈p.got[f]):Ck v=true:=by obtain ⟨_,h2⟩:=Fl (PW h hf);obtain ⟨i,hi,rfl⟩:=zda.1 hv;exact (h2 i hi).1
theorem Nd (h:As p=true):(Ev p.chain).length=4:=by have h0:=Dp h;rw[He h0];exact Bi (AY ((CO (AI h).2.2.2.1).2 _ (zcv h0))).1
theorem L0 {f:Nat} (hf:f<p.got.length):(∃ i,∃ hi:i<p.got[f].length,Bw (Id (Ev p.chain)) p.got[f] 0=(i:Int)/\Jf p f=some p.got[f][i])\/(Bw (Id (Ev p.chain)) p.got[f] 0 = -1/\Jf p f=none):=by
 unfold Jf;rw[Hf hf];rcases Nh (p:=Id (Ev p.chain)) (l:=p.got[f]) (k:=0) with ⟨i,hi,h1,h2⟩ | h
 ·exact .inl ⟨i,hi,by rw[h1,zcW],h2⟩
 ·exact .inr h
theorem Zx {t c:Int} (h:decide (t>c)=true):Fq t c=t:=by unfold Fq;rw[if_pos (of_decide_eq_true h)]
theorem Zy {t c:Int} (h:decide (t>c)=false):Fq t c=c:=by unfold Fq;rw[if_neg (of_decide_eq_false h)]
section
variable {lo:Nat}{h:Heap}{F F':List Nat}{a a':Pq}{c c':Nq}
theorem Qc {f:Nat}{a1 a2 a3:Pq}{c1 c2 c3:Nq}{F1 F3:List Nat} (hs1:RNodes false h [.sl 2 a1 p.chain.length c1] p.chain F1) (hs3:RVss false h [.sl 1 a3 p.got.length c3] p.got F3)
  (hok:As p=true) (hf:f<p.got.length) (hn:Hp p):Ai lo 165 [.agg (p.cs a1 c1 a2 c2 a3 c3),Iv (f:Nat)] h=some (.bool (IQ p f),h):=by
 have h0:=Dp hok;have hchain:=(AI hok).2.2.2.1;have hhl:=Nd hok;have hky:∀ v∈p.got[f],0<=v.key/\v.key<(Ev p.chain).length:=λv hv=>by have:=(A3 (Lh hok hf hv)).1;omega
 have hgn:p.got[f].length<=1048576:=(hn.2.2.2 _ (zcv hf)).1;suffices hq:∃ h',_=some (V.bool (IQ p f),h') from by obtain ⟨h',e⟩:=hq;exact Oy e
 rw[ME hs1 hs3 h0 hf hky hgn];simp only[Ac,Ab];unfold IQ;rcases L0 hf with ⟨i,hi,e1,e2⟩ | ⟨e1,e2⟩
 ·rw[e1,e2,Ak (by omega),OX hs1 h0];simp only[Ac,Ao];cases hr:DI p.chain 0 with
  | false=>exact ⟨h,rfl⟩
  | true =>
   obtain ⟨o3,s3,b3,d3,G3,ha3,ho3,e3,q3,_⟩:=hs3.get hf;obtain ⟨o4,s4,b4,d4,G4,ha4,_,_,_,ho43,_,_,_,_,e4,q4,_⟩:=q3.all hi;obtain ⟨v5,h5,F5,e5,r5,m5⟩:=LG (lo:=h.length) hs1 (zcz _) hn.1 h0;obtain ⟨a6,c6,e6,r6⟩:=r5.form;rw[Am,Ae hf];simp only[ha3,Ad,Bb,ho3,Aa,e3,Ag];rw[Ae hi];simp only[ha4,Ad,Bb,ho43,Aa,e4,Ag];rw[e5];simp only[Ac,AO,Aa,e6,Ag];rw[Jd (m5.keep0 rtags_ok q4) r6 (CV (A3 (Lh hok hf (zcv hi))).2.2.2.1) (LU hchain)];simp only[Ac,Ao];cases Bs p.got[f][i].past (AR p.chain)
   ·exact ⟨h5,rfl⟩
   ·exact ⟨h5,rfl⟩
 ·rw[e1,e2,Aj (by omega)];exact ⟨h,rfl⟩
theorem UL {f:Nat}{a1 a2 a3:Pq}{c1 c2 c3:Nq}{F1 F2 F3:List Nat} (hs1:RNodes false h [.sl 2 a1 p.chain.length c1] p.chain F1) (hs2:RVers false h [.sl 6 a2 p.log.length c2] p.log F2) (hs3:RVss false h [.sl 1 a3 p.got.length c3] p.got F3)
  (hok:As p=true) (hf:f<p.got.length) (hn:Hp p) (ht:IQ p f=true) (hnd:(F1++(F2++F3)).Nodup) (hlo:∀ b∈F1++(F2++F3),lo<=b) (hl:lo<=h.length) :
  ∃ a2' c2' h' F',Ai lo 166 [.agg (p.cs a1 c1 a2 c2 a3 c3),Iv (f:Nat)] h=some (.agg ((Kc p f).cs a1 c1 a2' c2' a3 c3),h')/\Cy false h' ((Kc p f).cs a1 c1 a2' c2' a3 c3) (Kc p f) F'/\Mv h (F1++(F2++F3)) h' F':=by
 have h0:=Dp hok;have hhl:=Nd hok;have hky:∀ v∈p.got[f],0<=v.key/\v.key<(Ev p.chain).length:=λv hv=>by have:=(A3 (Lh hok hf hv)).1;omega
 have hgn:p.got[f].length<=1048576:=(hn.2.2.2 _ (zcv hf)).1;have hti:=Bv hok;have hti':Tidy 10 20 100 p:=⟨zcw hti.len (by decide),λx hx=>by have:=hti.node x hx;exact ⟨this.1,zcw this.2.1 (by decide),this.2.2⟩,⟨zcw hti.log.1 (by decide),hti.log.2⟩,hti.got.1,λl hl=>⟨zcw (hti.got.2 l hl).1 (by decide),(hti.got.2 l hl).2⟩⟩;unfold IQ at ht;unfold Kc;rcases L0 hf with ⟨i,hi,e1,e2⟩ | ⟨e1,e2⟩
 ·rw[e2];simp only;have hv:=Lh hok hf (zcv hi);obtain ⟨o3,s3,b3,d3,G3,ha3,ho3,e3,q3,hG3⟩:=hs3.get hf;obtain ⟨o4,s4,b4,d4,G4,ha4,ho4,e4,q4,hG4⟩:=q3.get hi;rw[<- zcO] at hnd hlo;have hnd':=hnd;rw[zcy] at hnd';have hdis:∀ y∈F3,y∉F1++F2:=λy hy hm=>hnd'.2.2 y hm y hy rfl;obtain ⟨h2,a2',c2',h3,F1',F2',e5,e6,r1,r2,m⟩:=MF (lo:=lo) (v:=p.got[f][i]) (k:=0) (t:=Fq p.got[f][i].tag.time p.clock) (a3:=a3) (c3:=c3) hs1 hs2 q4 (λy hy hm=>hdis y (hG3 y (hG4 y hy)) (by simp[hm])) hnd'.1 (λy hy=>hlo y (by rw[zcx];exact .inl hy)) hl h0 ((A3 hv).1) hti' (K0 hv);have b3':∀ y∈F3,y<h.length:=rvss_ok.bd _ _ _ _ hs3;have m':=m.aside (G:=F3) hnd b3';have hs3':=m.keep rvss_ok hs3 hdis;have hcs:∀ t,(EW p 0 t p.got[f][i]).cs a1 c1 a2 c2 a3 c3 = [Iv p.me,Iv t,.sl 2 a1 p.chain.length c1,.sl 6 a2 p.log.length c2,.sl 1 a3 p.got.length c3,.bool p.fell]:=λt=>by simp only[Place.cs,EW,Em]
  rw[hcs] at e6;rw[<- zcO];refine ⟨a2',c2',h3,F1'++F2'++F3,R5 ?_,⟨_,_,_,_,_,_,rfl,_,_,_,F1',F2',F3,rfl,by rw[zcO],r1,r2,hs3'⟩,m'⟩;rw[Ae hf];simp only[ha3,Ad,Bb,ho3,Aa,e3,Ag];rw[<- ha3];have:=ME (lo:=h.length) (a2:=a2) (c2:=c2) hs1 hs3 h0 hf hky hgn;simp only[Place.cs] at this;rw[this,e1];simp only[Ac,Ab];rw[Ae hi];simp only[ha4,Ad,Bb,ho4,Aa,Ab,e4,BH,AM,Ag];cases hd:decide (p.got[f][i].tag.time>p.clock)
  ·rw[Zy hd] at e6 ⊢;rw[Av];rw[show (0:Int)=((0:Nat):Int) from rfl] at *
   simp only[Ver.cs] at e5;rw[e5];simp only[Ac,AO,Aa,Af,Ag];rw[e6];simp only[Ac,Place.cs,AO,Aa,Ab,Af,AM,Ag]
  ·rw[Zx hd] at e6 ⊢;rw[Am];rw[show (0:Int)=((0:Nat):Int) from rfl] at *
   simp only[Ver.cs] at e5;rw[e5];simp only[Ac,AO,Aa,Af,Ag];rw[e6];simp only[Ac,Place.cs,AO,Aa,Ab,Af,AM,Ag]
 ·rw[e2] at ht;cases ht
end


theorem LS {p:Place} (h:As p=true):Tidy 10 20 100 p:=by have hti:=Bv h;exact ⟨zcw hti.len (by decide),λx hx=>by have:=hti.node x hx;exact ⟨this.1,zcw this.2.1 (by decide),this.2.2⟩,⟨zcw hti.log.1 (by decide),hti.log.2⟩,hti.got.1,λl hl=>⟨zcw (hti.got.2 l hl).1 (by decide),(hti.got.2 l hl).2⟩⟩
theorem P2 {k:Int} (h:Ah k 0 2=true):∃ f:Nat,k=(f:Int)/\f<3:=by simp only[Ah,CA,decide_eq_true_eq] at h;exact ⟨k.toNat,by omega,by omega⟩
section
variable {lo:Nat}{h:Heap}{F F':List Nat}{a a':Pq}{c c':Nq}
end


variable {α:Type}{l:List Node}
theorem zbu {lo e R bytes n N b i:Nat}{row:List V}{h h2:Heap}{a':Pq}{c':Nq}{m:Nat} (hap:∀ {T:Type} (K:V->Heap->Option T),Dd lo e R bytes (.sl R (some (b,i)) n (some N)) [row] h K=K (.sl R a' m c') h2) (hN:n+1<=N):a'=some (b,i)/\c'=some N:=by have h1:=hap λv _=>some v;simp only[Dd] at h1;obtain ⟨_,h1⟩:=Az h1;obtain ⟨_,h1⟩:=Az h1;obtain ⟨_,h1⟩:=Az h1;rw[show Nat.ble (n + [row].length) N=true from D2 hN] at h1;obtain ⟨_,_,h1⟩:=AX h1;injection h1 with h1;injection h1 with _ h2 _ h3;exact ⟨h2.symm,h3.symm⟩
theorem Gm {T:Type}{El:Rel α} (ok:El.Ok) {h0:Heap}{l:List α}{lo R e bytes N:Nat}{p0:Nat×Nat}{F0:List Nat} (hlo:lo<=h0.length) (hF:∀ b∈F0,lo<=b) (hnd:F0.Nodup) (hb:0<bytes) (hsz:l.length*bytes<=140737488355328) (hN:l.length<=N)
  (L:Nat->Pq->Nat->Nq->Heap->Option T)
  (step:∀ i (hi:i<l.length) hh F,Mv h0 F0 hh F->∃ row G h2,El h2 row l[i] G/\Mv hh [] h2 G/\L i (some p0) i (some N) hh=Dd lo e R bytes (.sl R (some p0) i (some N)) [row] h2 λv h=>eS R v λa n c=>L (i+1) a n c h)
  (hs:Sli false R e El h0 [.sl R (some p0) 0 (some N)] [] F0) :
  ∃ h' F',L 0 (some p0) 0 (some N) h0=L l.length (some p0) l.length (some N) h'/\Sli false R e El h' [.sl R (some p0) l.length (some N)] l F'/\Mv h0 F0 h' F':=by
 have loop:∀ m i hh F,m+i=l.length->Mv h0 F0 hh F->Sli false R e El hh [.sl R (some p0) i (some N)] (l.take i) F ->
   ∃ h' F',L i (some p0) i (some N) hh=L l.length (some p0) l.length (some N) h'/\Sli false R e El h' [.sl R (some p0) l.length (some N)] l F'/\Mv h0 F0 h' F':=by
  intro m;induction m with
  | zero =>
   intro i hh F hi hm hr;have:i=l.length:=by omega
   subst this;rw[List.take_length] at hr;exact ⟨hh,F,rfl,hr,hm⟩
  | succ m ih =>
   intro i hh F hi hm hr;have hlt:i<l.length:=by omega
   obtain ⟨row,G,h2,hy,m2,e2⟩:=step i hlt hh F hm;have hlen:(l.take i).length=i:=by rw[zcS];omega
   have hml:(i+1)*bytes<=l.length*bytes:=zc4 _ hlt;obtain ⟨a5,c5,h5,F5,e5,r5,m5⟩:=DC (lo:=lo) (bytes:=bytes) ok hr (row:=row) (x:=l[i]) (G:=G) (h1:=h2) hy m2 hm.nd (λy hy=>hm.ge hlo hF y hy) (zcw hlo hm.le) hb (by rw[hlen];omega);obtain ⟨b0,i0⟩:=p0;obtain ⟨rfl,rfl⟩:=zbu e5 (by omega);rw[hlen] at e5 r5;rw[List.take_append_getElem hlt] at r5;obtain ⟨h',F',e6,r6,m6⟩:=ih (i+1) h5 F5 (by omega) (hm.trans m5) r5;refine ⟨h',F',?_,r6,m6⟩;rw[e2,e5,Af,e6]
 exact loop l.length 0 h0 F0 (by omega) (Mv.refl hnd) hs
theorem EAll.mono {α:Type}{A B:Rel α}{h:Heap} (hAB:∀ row x F,A h row x F->B h row x F):∀ {rows:List (List V)}{l:List α}{Fs:List (List Nat)},EAll A h rows l Fs->EAll B h rows l Fs
 | [],[],[],_=>trivial
 | _ :: _,_ :: _,_ :: _,⟨h1,h2⟩=>⟨hAB _ _ _ h1,EAll.mono hAB h2⟩
 | [],[],_ :: _,h=>h.elim
 | [],_ :: _,_,h=>h.elim
 | _ :: _,[],_,h=>h.elim
 | _ :: _,_ :: _,[],h=>h.elim
theorem Sli.mono {α:Type}{A B:Rel α}{h:Heap}{R e:Nat}{cs:List V}{l:List α}{F:List Nat} (hAB:∀ row x F,A h row x F->B h row x F) (hs:Sli false R e A h cs l F):Sli false R e B h cs l F:=by
 obtain ⟨R',a,c,e1,g⟩:=hs;refine ⟨R',a,c,e1,?_⟩;cases a with
 | none=>exact g
 | some p =>obtain ⟨b,i⟩:=p;obtain ⟨g0,rs,Fs,g1,g2,g3,g4,g5,g6⟩:=g;exact ⟨g0,rs,Fs,g1,g2,g3,g4,g5.mono hAB,g6⟩
def RNodeC:Rel Node:=λh row x F=>RNode false h row x F/\∃ s a n k,row = [s,.sl 6 a n (some k)]
theorem SK:RNodeC.Ok:=⟨λh h' cs x F ⟨h1,h2⟩ hb=>⟨rnode_ok.fr _ _ _ _ _ h1 hb,h2⟩,λh cs x F ⟨h1,_⟩=>rnode_ok.bd _ _ _ _ h1⟩
abbrev RNodesC:Rel (List Node):=Sli false 2 (Ph false) RNodeC
theorem rnodesC_ok:RNodesC.Ok:=Sli.ok SK
theorem RNodesC.up {h:Heap}{cs:List V}{F:List Nat} (hs:RNodesC h cs l F):RNodes false h cs l F:=Sli.mono (λ_ _ _ h=>h.1) hs
section
variable {lo:Nat}{h:Heap}{F F' G:List Nat}{a a' av:Pq}{c c' cv:Nq}
theorem N9 {l:List Ver} (hs:RVers false h [.sl 6 a l.length c] l F) (hl:lo<=h.length) (hn:Dq l) :
  ∃ a' h' F',Ai lo 117 [.sl 6 a l.length c] h=some (.sl 6 a' l.length (some l.length),h')/\RVers false h' [.sl 6 a' l.length (some l.length)] l F'/\Mv h [] h' F':=by
 have hn1:=hn.1;have m0:Mv h [] (h ++ [.rows 6 (Oq false) false (List.replicate l.length [Iv 0,Iv 0,Iv 0,.sl 0 none 0 (some 0),.str ⟨⟨[]⟩⟩,.bool false])]) [h.length]:=Mv.last;obtain ⟨h',F',e,r,m⟩:=Gm (El:=RVer false) rver_ok (l:=l) (lo:=lo) (R:=6) (e:=Oq false) (bytes:=72) (N:=l.length) (p0:=(h.length,0)) (F0 := [h.length]) (zcw hl m0.le) (m0.ge hl (by simp)) m0.nd (by decide) (by omega) (zcz _)
  (λi a1 n1 c1 hh=>Bf lo a1 n1 c1 a l.length c (l.length:Nat) (i:Nat) hh) (λi hi hh F1 hm=>by
   have hm':Mv h [] hh []:=(m0.trans hm).drop;obtain ⟨o,s,a2,c2,G,ho,hld,es,hp,_⟩:=(hm'.keep0 rvers_ok hs).get hi;obtain ⟨a3,c3,h3,F3,e3,r3,m3⟩:=BG (lo:=lo) (v:=l[i]) hp (zcw hl hm'.le) (hn.2 _ (zcv hi)).1;refine ⟨l[i].cs a3 c3,F3,h3 ++ [.rows 6 49 false [l[i].cs a3 c3]],⟨_,rfl,Mv.snoc.keep0 rtags_ok r3⟩,m3.trans (Mv.snoc' m3.nd),?_⟩;rw[Bf.e,Ak (by omega),Ae hi,ho];simp only[Ad,Bb,hld,Aa,Ab,es,BH,AM,Ag];rw[e3];simp only[Ac,AO,Aa,Ab,Af,BH,AM,Ag,A9,Ar (show i<9223372036854775807 by omega)];rfl) (Sli.fresh (by simp))
 refine ⟨some (h.length,0),h',F',I7 ?_,r,m0.trans m⟩;rw[DJ (by omega)];refine e.trans ?_;rw[Bf.e,Aj (by omega)]
theorem L6 (hs:RNodes false h [.sl 2 a l.length c] l F) (hl:lo<=h.length) (hn:Dm l) :
  ∃ a' h' F',Ai lo 116 [.agg [.sl 2 a l.length c]] h=some (.agg [.sl 2 a' l.length (some l.length)],h')/\RNodesC h' [.sl 2 a' l.length (some l.length)] l F'/\Mv h [] h' F':=by
 have hn1:=hn.1;have m0:Mv h [] (h ++ [.rows 2 (Ph false) false (List.replicate l.length [.sl 0 none 0 (some 0),.sl 0 none 0 (some 0)])]) [h.length]:=Mv.last;obtain ⟨h',F',e,r,m⟩:=Gm (El:=RNodeC) SK (l:=l) (lo:=lo) (R:=2) (e:=54) (bytes:=48) (N:=l.length) (p0:=(h.length,0)) (F0 := [h.length])
  (zcw hl m0.le) (m0.ge hl (by simp)) m0.nd (by decide) (by omega) (zcz _) (λi a1 n1 c1 hh=>BS lo a l.length c (l.length:Nat) (i:Nat) 0 none 0 (some 0) a1 n1 c1 hh) (λi hi hh F1 hm=>by
   have hm':Mv h [] hh []:=(m0.trans hm).drop;obtain ⟨o,s1,s2,b1,d1,b2,d2,G1,G2,ha,ho,_,_,e1,e2,p1,p2,_⟩:=(hm'.keep0 rnodes_ok hs).get hi;have hsm:=hn.2 _ (zcv hi);obtain ⟨a3,c3,h3,F3,e3,r3,m3⟩:=GF (lo:=lo) p1 (zcw hl hm'.le) hsm.1;obtain ⟨a4,h4,F4,e4,r4,m4⟩:=N9 (lo:=lo) (m3.keep0 rvers_ok p2) (zcw hl (zcw hm'.le m3.le)) hsm.2;have m34:=m3.join m4 (rvers_ok.bd _ _ _ _ r3);refine ⟨[.sl 6 a3 l[i].store.length c3,.sl 6 a4 l[i].wait.length (some l[i].wait.length)],F3++F4,h4 ++ [.rows 2 54 false [[.sl 6 a3 l[i].store.length c3,.sl 6 a4 l[i].wait.length (some l[i].wait.length)]]],
    ⟨⟨_,_,F3,F4,rfl,rfl,Mv.snoc.keep0 rvers_ok (m4.keep0 rvers_ok r3),Mv.snoc.keep0 rvers_ok r4⟩,_,_,_,_,rfl⟩,m34.trans (Mv.snoc' m34.nd),?_⟩
   rw[BS.e,Ak (by omega),Ae hi,ha];simp only[Ad,Bb,ho,Aa,e1,e2,Ag];rw[e3];simp only[Ac,AO,Aa,Af,Ag];rw[e4];simp only[Ac,Af,A9,Ar (show i<9223372036854775807 by omega)]) (Sli.fresh (by simp))
 refine ⟨some (h.length,0),h',F',LE ?_,r,m0.trans m⟩;rw[DJ (by omega)];refine e.trans ?_;rw[BS.e,Aj (by omega)]
theorem L5 {p:Place}{a1 a2 a3:Pq}{c1 c2 c3:Nq}{F1 F2 F3:List Nat} (hs1:RNodes false h [.sl 2 a1 p.chain.length c1] p.chain F1) (hs2:RVers false h [.sl 6 a2 p.log.length c2] p.log F2)
  (hs3:RVss false h [.sl 1 a3 p.got.length c3] p.got F3) (hl:lo<=h.length) (hn:Hp p) :
  ∃ a1' a2' c2' a3' c3' h' G1 G2 G3,Ai lo 71 [.agg (p.cs a1 c1 a2 c2 a3 c3)] h=some (.agg (p.cs a1' (some p.chain.length) a2' c2' a3' c3'),h')/\RNodesC h' [.sl 2 a1' p.chain.length (some p.chain.length)] p.chain G1 /\
   RVers false h' [.sl 6 a2' p.log.length c2'] p.log G2/\RVss false h' [.sl 1 a3' p.got.length c3'] p.got G3/\Mv h [] h' (G1++(G2++G3)):=by
 have hn1:=hn.2.2.1;obtain ⟨b1,h1,G1,e1,r1,m1⟩:=L6 (lo:=h.length) hs1 (zcz _) hn.1;obtain ⟨b2,d2,h2,G2,e2,r2,m2⟩:=HM (lo:=h1.length) (m1.keep0 rvers_ok hs2) (zcz _) hn.2.1;have m12:=m1.join m2 (rnodesC_ok.bd _ _ _ _ r1);have r1':=m2.keep0 rnodesC_ok r1;have hs3':=m2.keep0 rvss_ok (m1.keep0 rvss_ok hs3);have m0:Mv h2 [] (h2 ++ [.rows 1 (ZZ false) false (List.replicate p.got.length [.sl 0 none 0 (some 0)])]) [h2.length]:=Mv.last;obtain ⟨b3,d3,h',F',e,r,m⟩:=Md (El:=RVers false) rvers_ok (h0:=h2 ++ [.rows 1 (ZZ false) false (List.replicate p.got.length [.sl 0 none 0 (some 0)])]) (l:=p.got) (g:=λ_ v=>some (id v)) (lo:=lo) (R:=1) (e:=50) (bytes:=24) (b0 := []) (F0 := [h2.length]) (a0:=some (h2.length,0)) (c0:=some p.got.length)
  (zcw hl (zcw m12.le m0.le)) (m0.ge (zcw hl m12.le) (by simp)) m0.nd (by decide) (by simp;omega) (λi a n c hh=>BQ lo a3 p.got.length c3 (p.got.length:Nat) (i:Nat) 0 0 0 none 0 (some 0) 0 none 0 (some 0) 0 none 0 (some 0) false p.me p.clock b1 p.chain.length (some p.chain.length) b2 p.log.length d2 a n c p.fell hh) (λi hi q1 q2 hh F1 acc hz hacc hm hr=>by
   have hm':Mv h2 [] hh []:=(m0.trans hm).drop;obtain ⟨o,s,b,d,G,rfl,ho,es,hp,_⟩:=(hm'.keep0 rvss_ok hs3').get hi;obtain ⟨a5,c5,h5,F5,e5,r5,m5⟩:=HM (lo:=lo) hp (zcw hl (zcw m12.le (zcw m0.le hm.le))) (hn.2.2.2 _ (zcv hi));refine .inr ⟨p.got[i],[.sl 6 a5 p.got[i].length c5],F5,h5 ++ [.rows 1 50 false [[.sl 6 a5 p.got[i].length c5]]],rfl,Mv.snoc.keep0 rvers_ok r5,m5.trans (Mv.snoc' m5.nd),?_⟩;rw[BQ.e,Ak (by omega),Ae hi];simp only[Ad,Bb,ho,Aa,es,Ag];rw[e5];simp only[Ac,Af,A9,Ar (show i<9223372036854775807 by omega)]) (Sli.fresh (by simp))
 rw[Ng,List.map_id,zc3] at e r;have m3:=m12.join (m0.trans m) (λb hb=>by
   rw[zcx] at hb;exact hb.elim (rnodesC_ok.bd _ _ _ _ r1' b) (rvers_ok.bd _ _ _ _ r2 b))
 rw[zcO] at m3;refine ⟨b1,b2,d2,b3,d3,h',G1,G2,F',LC ?_,(m0.trans m).keep0 rnodesC_ok r1',(m0.trans m).keep0 rvers_ok r2,r,m3⟩;rw[e1];simp only[Ac,AO,Aa,Af,Ag];rw[e2];simp only[Ac,Af];rw[DJ (by omega)];refine e.trans ?_;rw[BQ.e,Aj (by omega)]
end


variable {h:Heap}{Fs:List (List Nat)}{rs:List (List V)}{z:List V}{α:Type}{El:Rel α}
theorem EAll.erase {α:Type}{El:Rel α}{h:Heap}:∀ {rows:List (List V)}{l:List α}{Fs:List (List Nat)},EAll El h rows l Fs->∀ (k:Nat),EAll El h (rows.eraseIdx k) (l.eraseIdx k) (Fs.eraseIdx k)
 | [],[],[],_,k=>by simp[EAll]
 | _ :: _,_ :: _,_ :: _,⟨_,h2⟩,0=>h2
 | _ :: _,_ :: _,_ :: _,⟨h1,h2⟩,k+1=>⟨h1,h2.erase k⟩
 | [],[],_ :: _,h,_=>h.elim
 | [],_ :: _,_,h,_=>h.elim
 | _ :: _,[],_,h,_=>h.elim
 | _ :: _,_ :: _,[],h,_=>h.elim
theorem Jg {k:Nat}{Fk:List Nat} (hk:Fs[k]?=some Fk) (hnd:Fs.flatten.Nodup):(Fs.eraseIdx k).flatten.Nodup/\(∀ y∈(Fs.eraseIdx k).flatten,y∈Fs.flatten/\y∉Fk):=by
 induction Fs generalizing k with
 | nil=>simp at hk
 | cons F Fs ih =>
  rw[zc1,zcy] at hnd;obtain ⟨n1,n2,n3⟩:=hnd;cases k with
  | zero =>simp at hk;subst hk;rw[List.eraseIdx_cons_zero];exact ⟨n2,λy hy=>⟨by simp only[zc1,zcx];exact .inr hy,λhm=>n3 y hm y hy rfl⟩⟩
  | succ k =>
   obtain ⟨g1,g2⟩:=ih (k:=k) (by simpa using hk) n2;rw[List.eraseIdx_cons_succ,zc1,zcy];refine ⟨⟨n1,g1,λx hx y hy=>n3 x hx y (g2 y hy).1⟩,λy hy=>?_⟩;rcases zcx.1 hy with hy | hy
   ·refine ⟨by simp only[zc1,zcx];exact .inl hy,λhm=>?_⟩;exact n3 y hy y (FS (by simpa using hk) hm) rfl
   ·exact ⟨by simp only[zc1,zcx];exact .inr (g2 y hy).1,(g2 y hy).2⟩
theorem WT {rs:List (List V)}{i n k:Nat}{z:List V} (hi:i+n<=rs.length) (hk:k<n) :
  let rs1:=rs.take (i+k)++((rs.drop (i+(k+1))).take (n - (k+1)))++rs.drop (i+k+((rs.drop (i+(k+1))).take (n - (k+1))).length)
  ((rs1.take (i+(n - 1)) ++ [z]++rs1.drop (i+(n - 1)+1)).drop i).take (n - 1)=(((rs.drop i).take n)).eraseIdx k/\(rs1.take (i+(n - 1)) ++ [z]++rs1.drop (i+(n - 1)+1)).length=rs.length/\rs1.length=rs.length:=by
 intro rs1;have e0:((rs.drop (i+(k+1))).take (n - (k+1))).length=n - (k+1):=by rw[zcS,zdB];omega
 have e1:rs1.length=rs.length:=by show (rs.take (i+k)++((rs.drop (i+(k+1))).take (n - (k+1)))++rs.drop (i+k+((rs.drop (i+(k+1))).take (n - (k+1))).length)).length=rs.length;rw[zcP,zcP,zcS,zdB,e0];omega
 refine ⟨?_,?_,e1⟩
 ·apply List.ext_getElem?;intro j;have hget:∀ q,q<i+(n - 1)->rs1[q]?=if q<i+k then rs[q]? else rs[q+1]?:=by
   intro q hq;show (rs.take (i+k)++((rs.drop (i+(k+1))).take (n - (k+1)))++rs.drop (i+k+((rs.drop (i+(k+1))).take (n - (k+1))).length))[q]?=_;by_cases h1:q<i+k
   ·rw[if_pos h1,zcC (by rw[zcP,zcS];omega),zcC (by rw[zcS];omega),zc8,if_pos h1]
   ·rw[if_neg h1,zcC (by rw[zcP,zcS,e0];omega),zcU (by rw[zcS];omega),zcS,zc8,if_pos (by omega),zcX];congr 1;omega
  rw[zc8,zcX,List.getElem?_eraseIdx];by_cases hj:j<n - 1
  ·rw[if_pos hj,zcC (by rw[zcP,zcS];omega),zcC (by rw[zcS];omega),zc8,if_pos (by omega),hget _ (by omega)];by_cases hjk:j<k
   ·rw[if_pos (by omega),if_pos hjk,zc8,if_pos (by omega),zcX]
   ·rw[if_neg (by omega),if_neg hjk,zc8,if_pos (by omega),zcX];congr 1
  ·rw[if_neg hj];by_cases hjk:j<k
   ·omega
   ·rw[if_neg hjk,zc8,if_neg (by omega)]
 ·rw[zcP,zcP,zcS,zdB,e1];simp only[zdp];omega
theorem SD {lo:Nat}{b i R e:Nat}{xs:List (List V)} (hb:h[b]?=some (.rows R e false rs)) (hlo:lo<=b) (hi:i+xs.length<=rs.length):EZ lo h b i xs=some (h.set b (.rows R e false (rs.take i++xs++rs.drop (i+xs.length)))):=by simp only[EZ,hb,D2 hlo,D2 hi]
theorem Sli.del {T:Type} (ok:El.Ok) {lo R e n k bytes:Nat}{a:Pq}{c:Nq}{l:List α}{F:List Nat}{x1 x2:Int} (hs:Sli false R e El h [.sl R a n c] l F) (hk:k<l.length) (hnd:F.Nodup) (hlo:∀ b∈F,lo<=b)
  (h1:x1=(k:Nat)) (h2:x2=(k:Nat)+1) (hb:0<bytes) (hsz:l.length*bytes<=140737488355328) (X:Option T) (K:V->Heap->Option T) :
  ∃ h' F' Fk b i row,a=some (b,i)/\ld h b (i+k) 0 row.length=some row/\El h row (l[k]'hk) Fk/\(∀ y∈Fk,y∈F/\y∉F'/\y≠b) /\
   (Aw a (EP h a n c) c (some (Iv x1)) (some (Iv x2)) (some (Iv (n:Nat))) λ_ _ _=>br (x1==x2) X (Aw a n c none (some (Iv x1)) none λa3 n4 c5=>Aw a n c (some (Iv x2)) none none λa6 n7 c8=>Au R h (.sl R a6 n7 c8) λx9 =>
    Dd lo e R bytes (.sl R a3 n4 c5) x9 h λv10 h11=>eS R v10 λa12 n13 c14=>Aw a12 (EP h11 a12 n13 c14) c14 (some (Iv (n13:Nat))) (some (Iv (n:Nat))) none λa15 n16 c17=>Y7 lo R R true z h11 a15 n16 λh18=>K (.sl R a12 n13 c14) h18))=K (.sl R a (l.length - 1) c) h' /\
   Sli false R e El h' [.sl R a (l.length - 1) c] (l.eraseIdx k) F'/\Mv h F h' F'/\(∀ y,y≠b->h'[y]?=h[y]?):=by
 have hn:=hs.val;subst hn;obtain ⟨R1,a1,c1,e1,g⟩:=hs;injection e1 with e1 _;injection e1 with e0 e2 _ e3;subst e2;subst e3;cases a with
 | none=>obtain ⟨rfl,_⟩:=g;simp at hk
 | some p =>
 obtain ⟨b,i⟩:=p;obtain ⟨_,rs,Fs,g1,g2,g3,g4,g5,rfl⟩:=g;obtain ⟨row,Fk,hrow,hFk,hel⟩:=g5.get (Cz hk);have hlob:=hlo b (by simp);rw[zcE] at hnd;obtain ⟨f1,f2⟩:=Jg hFk hnd.2;have hblt:b<h.length:=(Ea g1).1;have hri:rs[i+k]?=some row:=by rw[zc8,if_pos hk,zcX] at hrow;exact hrow
 have e0:((rs.drop (i+(k+1))).take (l.length - (k+1))).length=l.length - (k+1):=by rw[zcS,zdB];omega
 obtain ⟨r1,r2,r3⟩:=WT (z:=z) g2 hk;generalize hxs:(rs.drop (i+(k+1))).take (l.length - (k+1))=xs at e0 r1 r2 r3;generalize hrs1:rs.take (i+k)++xs++rs.drop (i+k+xs.length)=rs1 at r1 r2 r3;have fr:∀ (X:Blk) y,y≠b->(h.set b X)[y]?=h[y]?:=λX y hy=>zcA (Ne.symm hy);have hbFs:∀ y∈Fs.flatten,y≠b:=λy hy e=>hnd.1 (e ▸ hy);have m:∀ X:Blk,Mv h (b :: Fs.flatten) (h.set b X) (b ::(Fs.eraseIdx k).flatten):=λX=>⟨by simp,λy hy hF=>by
  rw[zcD,not_or] at hF;exact fr X y hF.1,by rw[zcE];exact ⟨λhm=>hnd.1 (f2 b hm).1,f1⟩,λy hy=>by
  rcases zcD.1 hy with rfl | hy
  ·exact .inl (by simp)
  ·exact .inl (by simp[(f2 y hy).1])⟩
 have fin:∀ rsX:List (List V),(rsX.drop i).take (l.length - 1)=((rs.drop i).take l.length).eraseIdx k->rsX.length=rs.length->Sli false R e El (h.set b (.rows R e false rsX)) [.sl R (some (b,i)) (l.length - 1) c] (l.eraseIdx k) (b ::(Fs.eraseIdx k).flatten):=λrsX hX hXl=>by have hle:(l.eraseIdx k).length=l.length - 1:=zdb hk;refine ⟨R,some (b,i),c,by rw[hle],rfl,rsX,Fs.eraseIdx k,by simp[hblt],by rw[hle,hXl];omega,λq hq=>by have:=g3 q hq;rw[hle,hXl];omega,g4,?_,rfl⟩;rw[hle,hX];exact (g5.erase k).fr ok.fr λy hy=>fr _ y (hbFs y (f2 y hy).1)
 have hmul:(k+xs.length)*bytes<=140737488355328:=zcw (zc4 _ (by omega)) hsz;refine ⟨h.set b (.rows R e false (rs1.take (i+(l.length - 1)) ++ [z]++rs1.drop (i+(l.length - 1)+1))),b ::(Fs.eraseIdx k).flatten,Fk,b,i,row,rfl,by rw[Bx g1 hri];exact I3 rfl,hel,λy hy=>?_,?_,fin _ r1 r2,m _,λy hy=>fr _ y hy⟩
 ·have hyF:=FS hFk hy;exact ⟨by simp[hyF],λhm=>by
   rcases zcD.1 hm with rfl | hm
   ·exact hbFs y hyF rfl
   ·exact (f2 y hm).2 hy,hbFs y hyF⟩
 have hx12:(x1==x2)=false:=by rw[beq_eq_false_iff_ne,h1,h2];omega
 have hRR:Nat.beq R R=true:=IJ;have hroom:∀ (hh:Heap) (rs':List (List V)) (q:Nat),hh[b]?=some (.rows R e false rs')->q<=EP hh (some (b,i)) q c/\(c=none->rs'.length - i<=EP hh (some (b,i)) q c):=λhh rs' q hq=>by
  unfold EP;cases c with
  | some _=>exact ⟨zcz _,λe=>by cases e⟩
  | none =>simp only[Heap.rows?,hq];exact ⟨Nat.le_max_left _ _,λ_=>Nat.le_max_right _ _⟩
 have hr0:=(hroom h rs l.length g1).1;generalize EP h (some (b,i)) l.length c=M0 at hr0;have s1:∀ (Y:Option T),(Aw (some (b,i)) M0 c (some (Iv x1)) (some (Iv x2)) (some (Iv (l.length:Nat))) λ_ _ _=>Y)=Y:=λY=>by
  unfold Aw FG IN Jl;simp only[Ab,Bb,Option.isNone_some];have q0:WA x2 l.length (WA x1 x2.toNat (LV (some (b,i)) x2.toNat (some l.length) x1.toNat λ_ _ _=>Y))=Y:=by rw[CQ ⟨by rw[h2];omega,by rw[h2];omega⟩,CQ ⟨by rw[h1];omega,by rw[h1,h2];omega⟩];unfold LV;simp only;cases Nat.beq l.length x1.toNat<;>rfl
  cases c with
  | some N=>have:=g3 N rfl;simp only;rw[CQ ⟨by omega,by omega⟩];exact q0
  | none=>simp only;rw[CQ ⟨by omega,by omega⟩];exact q0
 have s2:∀ (K:Pq->Nat->Nq->Option T),Aw (some (b,i)) l.length c none (some (Iv x1)) none K=K (some (b,i)) k c:=λK=>by
  unfold Aw FG IN Jl;simp only[Ab,zdN];cases c with
  | some N =>have:=g3 N rfl;simp only;rw[CQ ⟨by rw[h1];omega,by rw[h1];omega⟩,h1,Bb]
  | none =>simp only;rw[CQ ⟨by rw[h1];omega,by rw[h1];omega⟩,h1,Bb]
 have s3:∀ (K:List (List V)->Option T),(Aw (some (b,i)) l.length c (some (Iv x2)) none none λa6 n7 c8=>Au R h (.sl R a6 n7 c8) K)=K xs:=λK=>by
  unfold Aw FG IN Jl;simp only[Ab,zdN];have ht:x2.toNat=k+1:=by rw[h2];omega
  rw[CQ ⟨by rw[h2];omega,by rw[h2];omega⟩,ht];unfold LV;simp only;have rows:∀ cc:Nq,Au R h (.sl R (some (b,i+(k+1))) (l.length - (k+1)) cc) K=K xs:=λcc=>by
   cases hm:l.length - (k+1) with
   | zero =>have hx0:xs = []:=zcF (by omega);rw[hx0];simp[Au,hRR,Bd]
   | succ m =>
    simp only[Au,hRR,CW];rw[show Et h b (i+(k+1)) (m+1)=some xs by
     simp only[Et,Heap.rows?,g1,zc7];rw[D2 (by omega),<- hm,hxs]]
    rfl
  cases c with
  | none=>exact rows none
  | some N =>
   have:=g3 N rfl;simp only;cases hb:Nat.beq N (k+1) with
   | false=>rw[Av];exact rows _
   | true =>
    have hN:=zcH hb;have hm:l.length - (k+1)=0:=by omega
    have hx0:xs = []:=zcF (by omega);rw[Am,hx0,hm];simp[Au,hRR,Bd]
 have s4:∀ (K:V->Heap->Option T),∃ h11,h11[b]?=some (.rows R e false rs1)/\(∀ X:Blk,h11.set b X=h.set b X)/\Dd lo e R bytes (.sl R (some (b,i)) k c) xs h K=K (.sl R (some (b,i)) (l.length - 1) c) h11:=λK=>by
  cases hx:xs with
  | nil =>
   rw[hx] at e0 hrs1;simp only[zdJ] at e0;have hk1:k=l.length - 1:=by omega
   refine ⟨h,?_,λX=>rfl,?_⟩
   ·rw[g1,<- hrs1];simp
   ·simp only[Dd];rw[<- hk1]
  | cons x0 xr =>
   have hl1:k+(x0 :: xr).length=l.length - 1:=by rw[<- hx,e0];omega
   refine ⟨h.set b (.rows R e false rs1),by simp[hblt],λX=>by rw[zdL],?_⟩;have hst:EZ lo h b (i+k) (x0 :: xr)=some (h.set b (.rows R e false rs1)):=by rw[SD g1 hlob (by rw[Nat.add_assoc,hl1];omega),<- hx,hrs1]
   have hmul':decide ((k+(x0 :: xr).length)*bytes<=Jp)=true:=decide_eq_true (by rw[<- hx];exact hmul);have hbb:Nat.blt 0 bytes=true:=by simpa [zd1] using hb
   simp only[Dd];rw[hbb,CW,hmul',CW,hRR,CW];cases c with
   | some N =>have:=g3 N rfl;have hle:Nat.ble (k+(x0 :: xr).length) N=true:=D2 (by omega);simp only;rw[hle,hst];rw[hl1];rfl
   | none =>
    have how:Heap.own? lo e h b=some rs:=by simp only[Heap.own?,g1,D2 hlob,IJ]
    have hle:Nat.ble (i+k+(x0 :: xr).length) rs.length=true:=D2 (by rw[Nat.add_assoc,hl1];omega);simp only;rw[how,Ad,hle,hst];rw[hl1];rfl
 rw[s1,hx12,Av,s2,s3];obtain ⟨h11,q1,q2,q3⟩:=s4 λv10 h11=>eS R v10 λa12 n13 c14=>Aw a12 (EP h11 a12 n13 c14) c14 (some (Iv (n13:Nat))) (some (Iv (l.length:Nat))) none λa15 n16 c17=>Y7 lo R R true z h11 a15 n16 λh18=>K (.sl R a12 n13 c14) h18;rw[q3,Af];have hlen:(l.length - (l.length - 1))=1:=by omega
 have hst:EZ lo h11 b (i+(l.length - 1)) (List.replicate 1 z)=some (h.set b (.rows R e false (rs1.take (i+(l.length - 1)) ++ [z]++rs1.drop (i+(l.length - 1)+1)))):=by rw[SD q1 hlob (by simp;omega),q2];rfl
 obtain ⟨_,hr11⟩:=hroom h11 rs1 (l.length - 1) q1;generalize EP h11 (some (b,i)) (l.length - 1) c=M1 at hr11;unfold Aw FG IN Jl;simp only[Ab,Bb,zdN];cases c with
 | some N =>
  have:=g3 N rfl;have hne:Nat.beq N (l.length - 1)=false:=by
   cases hb:Nat.beq N (l.length - 1) with
   | false=>rfl
   | true=>have:=zcH hb;omega
  simp only;rw[CQ ⟨by omega,by omega⟩,CQ ⟨by omega,by omega⟩];unfold LV;simp only;rw[hne,Av,hlen];simp only[Y7,hRR,zeg,CW,hst,Ad]
 | none =>have:=hr11 rfl;simp only;rw[CQ ⟨by omega,by omega⟩,CQ ⟨by omega,by omega⟩];unfold LV;simp only;rw[hlen];simp only[Y7,hRR,zeg,CW,hst,Ad]


variable {l:List Node}
def E8 (l:List Node) (k:Nat):List Node:=match l[k]? with
 | some x=>l.set k ⟨x.store,x.wait.eraseIdx 0⟩
 | none=>l
def TD (l:List Node) (k:Nat):Bool:=match l[k]? with
 | some x=>decide (0<x.wait.length)&&DI l (k+1)
 | none=>false
def BJ (l:List Node) (k:Int):Bool:=Ah k 0 ((l.length:Int) - 2)&&TD l k.toNat
def EU (l:List Node) (k:Nat):List Node:=match l[k]? with
 | some x=>match x.wait[0]? with
  | some v=>FI (E8 l k) (k+1) v
  | none=>l
 | none=>l
theorem Io {k:Nat} (hk:k<l.length):E8 l k=l.set k ⟨l[k].store,l[k].wait.eraseIdx 0⟩:=by unfold E8;rw[Cz hk]
theorem Lm {k:Nat}:(E8 l k).length=l.length:=by unfold E8;split<;>simp
theorem JM {k:Nat} (hk:k<l.length):TD l k=(decide (0<l[k].wait.length)&&DI l (k+1)):=by unfold TD;rw[Cz hk]
theorem SQ {k:Nat} (hk:k<l.length) (h0:0<l[k].wait.length):EU l k=FI (E8 l k) (k+1) (l[k].wait[0]'h0):=by unfold EU;rw[Cz hk];simp only;rw[Cz h0]
theorem Sli.at2 {α:Type}{El:Rel α} (ok:El.Ok) {h:Heap}{R R' e n k lo:Nat}{a:Pq}{c:Nq}{l:List α}{F:List Nat} (hs:Sli false R e El h [.sl R' a n c] l F) (hk:k<l.length) (hnd:F.Nodup) (hlo:∀ b∈F,lo<=b) :
  ∃ b i rs row G,a=some (b,i)/\b∈F/\b∉G/\h[b]?=some (.rows R e false rs)/\rs[i+k]?=some row/\El h row l[k] G/\(∀ y∈G,y∈F)/\G.Nodup /\
   (∀ h1 G1 j cs row' x',Mv h G h1 G1->paste row j cs=some row'->El h1 row' x' G1 ->
    ∃ h2 F',st lo h1 b (i+k) j cs=some h2/\Sli false R e El h2 [.sl R' a n c] (l.set k x') F'/\Mv h F h2 F'/\(∀ y,y≠b->h2[y]?=h1[y]?)/\∀ y∈F',(y∈F/\y∉G)\/y∈G1):=by
 have hbd:=(Sli.ok ok).bd _ _ _ _ hs;obtain ⟨b,i,rs,row,G,ha,hbF,hbG,hb,hrow,hel,hGF,hGn,put⟩:=hs.put ok.fr hk hnd;have hblt:b<h.length:=hbd b hbF;refine ⟨b,i,rs,row,G,ha,hbF,hbG,hb,hrow,hel,hGF,hGn,λh1 G1 j cs row' x' m hp hx=>?_⟩;have hbG1:b∉G1:=λhm=>by
  rcases m.sub b hm with h1 | h1
  ·exact hbG h1
  ·omega
 have hb1:h1[b]?=some (.rows R e false rs):=by rw[m.fr b hblt hbG];exact hb
 have hb1lt:b<h1.length:=zcI hblt m.le;have e2:=DR hb1 (hlo b hbF) hrow hp;have fr2:∀ y,y≠b->(h1.set b (.rows R e false (rs.set (i+k) row')))[y]?=h1[y]?:=λy hy=>zcA (Ne.symm hy);obtain ⟨F',p1,p2,p3,_⟩:=put (h1.set b (.rows R e false (rs.set (i+k) row'))) row' x' G1 (by simp[hb1lt]) (λy hy hyb hyG=>by rw[fr2 y hyb];exact m.fr y (hbd y hy) hyG)
  (ok.fr _ _ _ _ _ hx λy hy=>fr2 y λe=>hbG1 (e ▸ hy)) m.nd (λy hy hyF=>by
  rcases m.sub y hy with h1 | h1
  ·exact h1
  ·have:=hbd y hyF;omega)
 refine ⟨_,F',e2,p1,⟨by simpa using m.le,λy hy hyF=>?_,p3,λy hy=>?_⟩,fr2,p2⟩
 ·rw[fr2 y λe=>hyF (e ▸ hbF)];exact m.fr y hy λhg=>hyF (hGF y hg)
 ·rcases p2 y hy with h1 | h1
  ·exact .inl h1.1
  ·refine (m.sub y h1).imp (hGF y) λh=>by simpa using h
section
variable {lo:Nat}{ro:Bool}{h:Heap}{F F' G:List Nat}{a a' av:Pq}{c c' cv:Nq}
theorem Zg {l:List Ver} (hs:RVers false h [.sl 6 a l.length c] l F) (h0:0<l.length) (hnd:F.Nodup) (hl:lo<=h.length) (hn:l.length<=1048576) :
  ∃ o s av cv Gv,a=some o/\ld h o.1 (o.2+0) 0 6=some [Iv l[0].key,Iv l[0].tag.time,Iv l[0].tag.place,s,.str l[0].text,.bool l[0].gone]/\(∀ {T:Type} (K:Pq->Nat->Nq->Option T),eS 2 s K=K av l[0].past.length cv)/\RTags false h [.sl 2 av l[0].past.length cv] l[0].past Gv /\
   ∃ a' c' h' F',(∀ {T:Type} (K:V->Heap->Option T),(Aw a l.length c (some (Iv 1)) none none λa n c=>Au 6 (h ++ [.rows 6 49 false []]) (.sl 6 a n c) λxs=>Dd lo 49 6 72 (.sl 6 (some (h.length,0)) 0 (some 0)) xs (h ++ [.rows 6 49 false []]) K)=K (.sl 6 a' (l.eraseIdx 0).length c') h') /\
    RVers false h' [.sl 6 a' (l.eraseIdx 0).length c'] (l.eraseIdx 0) F'/\Mv h F h' F'/\(∀ y∈Gv,y∉F'/\y∈F)/\∀ y,y<h.length->h'[y]?=h[y]?:=by
 have hbd:=rvers_ok.bd _ _ _ _ hs;obtain ⟨R1,a1,c1,e1,g⟩:=hs;injection e1 with e1 _;injection e1 with e0 e2 _ e3;subst e2;subst e3;cases a with
 | none=>obtain ⟨rfl,_⟩:=g;simp at h0
 | some p =>
 obtain ⟨b,i⟩:=p;obtain ⟨_,rs,Fs,g1,g2,g3,_,g5,rfl⟩:=g;obtain ⟨row,Fk,hrow,hFk,hel⟩:=g5.get (Cz h0);rw[zcE] at hnd;obtain ⟨f1,f2⟩:=Jg hFk hnd.2;have hri:rs[i]?=some row:=by rw[zc8,if_pos h0,zcX] at hrow;exact hrow
 obtain ⟨s,av,cv,rfl,es,hp⟩:=hel.form;have hil:i<rs.length:=by omega
 have hcut:((rs.drop i).take l.length).eraseIdx 0=(rs.drop (i+1)).take (l.length - 1):=by rw[zcM hil,show l.length=(l.length - 1)+1 by omega,List.take_succ_cons,List.eraseIdx_cons_zero];simp
 have g6:=g5.erase 0;rw[hcut] at g6;have hlen:=zdb h0;generalize hxs:(rs.drop (i+1)).take (l.length - 1)=xs at g6;have hxl:xs.length=l.length - 1:=by rw[<- hlen];exact g6.len.1
 have m0:Mv h [] (h ++ [.rows 6 49 false []]) [h.length]:=Mv.last;have hb1:(h ++ [.rows 6 49 false []])[b]?=some (.rows 6 (Oq false) false rs):=by rw[m0.fr b (hbd b (by simp)) (by simp)];exact g1
 have s3:∀ {T:Type} (K:List (List V)->Option T),(Aw (some (b,i)) l.length c (some (Iv 1)) none none λa6 n7 c8=>Au 6 (h ++ [.rows 6 49 false []]) (.sl 6 a6 n7 c8) K)=K xs:=λK=>by
  unfold Aw FG IN Jl;simp only[Ab,zdN];rw[CQ ⟨by omega,by omega⟩,show ((1:Int)).toNat=1 from rfl];have key:∀ c8:Nq,Au 6 (h ++ [.rows 6 49 false []]) (.sl 6 (some (b,i+1)) (l.length - 1) c8) K=K xs:=λc8=>by
   simp only[Au,IJ,CW];cases hm:l.length - 1 with
   | zero =>have hx0:xs = []:=zcF (by omega);rw[hx0]
   | succ m =>
    simp only;rw[show Et (h ++ [.rows 6 49 false []]) b (i+1) (m+1)=some xs by
     simp only[Et,Heap.rows?,hb1,zc7];rw[D2 (by omega),<- hm,hxs]]
    rfl
  cases c with
  | none=>exact key none
  | some N =>
   obtain ⟨hN,_⟩:=g3 N rfl;unfold LV;simp only;cases hb:Nat.beq N 1 with
   | false=>rw[Av];exact key _
   | true =>have:=zcH hb;have hx0:xs = []:=zcF (by omega);rw[Am,show l.length - 1=0 by omega,hx0];simp[Au,Bd]
 have hfl:∀ y∈(Fs.eraseIdx 0).flatten,y<h.length:=λy hy=>hbd y (by simp[(f2 y hy).1]);refine ⟨(b,i),s,av,cv,Fk,rfl,by rw[Bx g1 (by rw[zdf];exact hri)];rfl,es,hp,?_⟩;have hFkb:∀ y∈Fk,y∈Fs.flatten:=λy hy=>FS hFk hy;by_cases he:l.eraseIdx 0 = []
 ·have hx0:xs = []:=zcF (by rw[hxl,<- hlen,he];rfl);refine ⟨some (h.length,0),some 0,_,[h.length],λK=>by rw[s3,hx0];simp only[Dd];rw[he];rfl,by rw[he];exact Sli.fresh (zcz _),?_,λy hy=>?_,λy hy=>m0.fr y hy (by simp)⟩
  ·exact m0.wide (by simp)
  ·have:=hbd y (by simp[hFkb y hy]);exact ⟨by simp;omega,by simp[hFkb y hy]⟩
 ·have hfresh:RVers false (h ++ [.rows 6 (Oq false) false []]) [.sl 6 (some (h.length,0)) 0 (some 0)] [] [h.length]:=Sli.fresh (zcz _);obtain ⟨a',c',h',F',p1,p2,p3,p4,p5,p6⟩:=Sli.push (lo:=lo) (bytes:=72) rver_ok.fr hfresh (xs:=xs) (ys:=l.eraseIdx 0) (Gs:=Fs.eraseIdx 0) (g6.fr rver_ok.fr λy hy=>m0.fr y (hfl y hy) (by simp)) (by decide) (by rw[hlen];simp;omega) (by simp;omega) (by simp;omega)
   (by rw[zde,zc3,zcE];exact ⟨λhm=>by have:=hfl _ hm;omega,f1⟩) (λy hy=>by
    rw[zde,zc3,zcD] at hy;rcases hy with rfl | hy
    ·simp
    ·have:=hfl y hy;simp;omega) he
  simp only[zdJ,zcW,zc3] at p1 p2;have hfr:∀ y,y<h.length->h'[y]?=h[y]?:=λy hy=>by rw[p4 y (by simp;omega) (by simp;omega)];exact m0.fr y hy (by simp)
  refine ⟨a',c',h',F',λK=>by rw[s3];exact p1 K,p2,⟨by simp at p3;omega,λy hy _=>hfr y hy,p6,λy hy=>?_⟩,λy hy=>⟨λhm=>?_,by simp[hFkb y hy]⟩,hfr⟩
  ·simp at p3;rcases p5 y hy with g | g
   ·rw[zde,zc3,zcD] at g;rcases g with rfl | g
    ·exact .inr (by omega)
    ·exact .inl (by simp[(f2 y g).1])
   ·simp at g;exact .inr (by omega)
  ·have hyl:=hbd y (by simp[hFkb y hy]);rcases p5 y hm with g | g
   ·rw[zde,zc3,zcD] at g;rcases g with rfl | g
    ·omega
    ·exact (f2 y g).2 hy
   ·simp at g;omega
theorem V1 {k:Int} (hs:RNodes ro h [.sl 2 a l.length c] l F) (hn:l.length<=1048576):Ai lo 159 [.agg [.sl 2 a l.length c],Iv k] h=some (.bool (BJ l k),h):=by
 refine Up (h':=h) ?_;rw[wr (by omega) (by omega),B8,Ac,Ao];unfold BJ;cases hw:Ah k 0 ((l.length:Int) - 2) with
 | false=>rw[Av];rfl
 | true =>
 simp only[Ah,CA,decide_eq_true_eq] at hw;obtain ⟨f,rfl⟩:∃ f:Nat,k=(f:Int):=⟨k.toNat,by omega⟩;have hk:f<l.length:=by omega
 have hk1:f+1<l.length:=by omega
 obtain ⟨o,s1,s2,b1,d1,b2,d2,G1,G2,ha,_,_,ho2,_,e2,_⟩:=hs.get hk;obtain ⟨o',s1',s2',b1',d1',b2',d2',G1',G2',ha',_,_,ho2',_,e2',_⟩:=hs.get hk1;have:o=o':=by rw[ha] at ha';injection ha'
 subst this;rw[Bb,JM hk,It hk1,Am,Ae hk,ha,Ad,ho2,Ad,Aa,Ag,e2];by_cases h0:0<l[f].wait.length
 ·rw[Ak (by omega),Ar (by omega),Ae hk1,Ad,Bb,ho2',Ad,Aa,Ag,e2',decide_eq_true h0];by_cases h6:l[f+1].wait.length<6
  ·rw[Ak (by omega),decide_eq_true h6];rfl
  ·rw[Aj (by omega),decide_eq_false h6];rfl
 ·rw[Aj (by omega),decide_eq_false h0];rfl
def Wo (x:Node):Prop:=GA 20 x/\∀ v∈x.wait,0<=v.key/\v.key<=3
theorem UM {k:Nat} (hs:RNodes false h [.sl 2 a l.length c] l F) (hk:k+1<l.length) (h0:0<(l[k]'(by omega)).wait.length) (hnd:F.Nodup) (hlo:∀ b∈F,lo<=b) (hl:lo<=h.length) (hn:Dm l) (hx:∀ x∈l,Wo x) :
  ∃ h' F',Ai lo 160 [.agg [.sl 2 a l.length c],Iv (k:Nat)] h=some (.agg [.sl 2 a l.length c],h')/\RNodes false h' [.sl 2 a l.length c] (EU l k) F'/\Mv h F h' F':=by
 have hk':k<l.length:=by omega
 have hn1:=hn.1;suffices hq:∃ h' F',_=some (V.agg [.sl 2 a l.length c],h')/\RNodes false h' [.sl 2 a l.length c] (EU l k) F'/\Mv h F h' F' from hq.imp λh' hq=>hq.imp λF' hq=>⟨Sa hq.1,hq.2⟩
 obtain ⟨b,i,rs,row,G0,ha,hbF,hbG,hb,hrow,hel,hGF,hGn,put⟩:=hs.at2 rnode_ok hk' hnd hlo;obtain ⟨t1,t2,F1,F2,rfl,rfl,r1,r2⟩:=hel;obtain ⟨a2,c2,e2,r2'⟩:=r2.form;have hGn0:=hGn;rw[zcy] at hGn;obtain ⟨o,s,av,cv,Gv,ho,hld,es,hp,a3,c3,h3,F3,e3,r3,m3,hGv,fr3⟩:=Zg (lo:=lo) r2' h0 hGn.2.1 hl (hn.2 _ (zcv hk')).2.1;have b1:∀ y∈F1,y<h.length:=rvers_ok.bd _ _ _ _ r1;have m4:=(m3.aside (G:=F1) (by rw[zcy];exact ⟨hGn.2.1,hGn.1,λx hx y hy e=>hGn.2.2 y hy x hx e.symm⟩) b1).swap;have r1':RVers false h3 [t1] l[k].store F1:=rvers_ok.fr _ _ _ _ _ r1 λy hy=>fr3 y (b1 y hy);obtain ⟨h4,F4,e4,r4,m5,fr4,sub4⟩:=put h3 (F1++F3) 1 [.sl 6 a3 (l[k].wait.eraseIdx 0).length c3] [t1,.sl 6 a3 (l[k].wait.eraseIdx 0).length c3] ⟨l[k].store,l[k].wait.eraseIdx 0⟩ m4 rfl ⟨_,_,F1,F3,rfl,rfl,r1',r3⟩;rw[<- Io hk'] at r4;have hln:=Lm (l:=l) (k:=k);have hGvG:∀ y∈Gv,y∈F1++F2:=λy hy=>by simp[(hGv y hy).2]
 have hGvl:∀ y∈Gv,y<h.length:=rtags_ok.bd _ _ _ _ hp;have hd:∀ y∈Gv,y∉F4:=λy hy hm=>by
  rcases sub4 y hm with g | g
  ·exact g.2 (hGvG y hy)
  ·rcases zcx.1 g with g | g
   ·exact hGn.2.2 y g y (hGv y hy).2 rfl
   ·exact (hGv y hy).1 g
 have hp4:RTags false h4 [.sl 2 av (l[k].wait[0]'h0).past.length cv] (l[k].wait[0]'h0).past Gv:=rtags_ok.fr _ _ _ _ _ hp λy hy=>by rw[fr4 y λe=>hbG (by rw[<- e];exact hGvG y hy),fr3 y (hGvl y hy)]
 have hpx:=hx _ (zcv hk');have hky:=hpx.2 _ (zcv h0);have hth:=hpx.1.2.2.2 _ (zcv h0);have hk1:k+1<(E8 l k).length:=by rw[hln];exact hk
 have hst1:(E8 l k)[k+1].store.length=4:=by
  have:(E8 l k)[k+1]=l[k+1]:=by have e:=Io hk';rw[zem e,List.getElem_set_ne (by omega)]
  rw[this];exact (hx _ (zcv hk)).1.1
 have hnd5:Dm (E8 l k):=by
  refine ⟨by rw[hln];exact hn1,λx hx'=>?_⟩;rw[Io hk'] at hx';rcases zcZ hx' with hx' | rfl
  ·exact hn.2 x hx'
  ·have:=hn.2 _ (zcv hk');exact ⟨this.1,Qi this.2 (zcw (zdV _ _) this.2.1) λv hv=>zdy hv⟩
 rw[<- hln] at r4;obtain ⟨h5,F5,e5,r5,m6⟩:=Qe (lo:=lo) (k:=k+1) (v:=l[k].wait[0]'h0) r4 hp4 hd m5.nd (λy hy=>m5.ge hl hlo y hy) (zcw hl m5.le) hk1 ⟨hky.1,by omega⟩ hnd5 (by have:=hth.1;omega);rw[hln] at e5 r5;rw[<- SQ hk' h0] at r5;have hblt:b<h.length:=(Ea hb).1;have ld1:ld h b (i+k) 1 1=some [t2]:=by rw[Bx hb hrow];rfl
 have ld2:ld (h ++ [.rows 6 49 false []]) b (i+k) 1 1=some [t2]:=by rw[Bx (by rw[zcC hblt];exact hb) hrow];rfl
 simp only[Ver.cs] at e5;have e5':Ai lo 193 [.agg [.sl 2 a l.length c],Iv ((k:Nat)+1:Int),.agg [Iv (l[k].wait[0]'h0).key,Iv (l[k].wait[0]'h0).tag.time,Iv (l[k].wait[0]'h0).tag.place,.sl 2 av (l[k].wait[0]'h0).past.length cv,.str (l[k].wait[0]'h0).text,.bool (l[k].wait[0]'h0).gone]] h4=some (.agg [.sl 2 a l.length c],h5):=by rw[show ((k:Nat)+1:Int)=((k+1:Nat):Int) by omega];exact e5
 rw[Ae hk',ha,Ad,Bb,ld1,Ad,Aa,Ag,e2,Cl ⟨by omega,by omega⟩,ho,Ad,hld,Ad,Aa,Ab,Aa,Ab,Aa,Ab,Aa,es,Aa,BH,Aa,AM,Ag,Ae hk',Ad,ld2,Ad,Aa,Ag,e2,e3,Af,Ae hk',Ad,e4,Ad,wr (n:=((k:Nat):Int)+1) (by omega) (by omega),<- ha,e5',Ac,AO,Aa,Af,Ag];exact ⟨h5,F5,rfl,r5,m5.trans m6⟩
end


theorem Ir {a:Option (List V)}:Gf a a=true:=by unfold Gf;exact (@decide_eq_true_iff _ (_)).2 rfl
section
variable {lo:Nat}{ro:Bool}{h:Heap}{F F' G:List Nat}{a a' av:Pq}{c c' cv:Nq}
theorem TS {l:List Ver} (hs:RVers false h [.sl 6 a l.length c] l F) (h0:0<l.length) (hnd:F.Nodup) (hlo:∀ b∈F,lo<=b) (hn:l.length<=1048576) :
  ∃ o s av cv Gv,a=some o/\ld h o.1 (o.2+0) 0 6=some [Iv l[0].key,Iv l[0].tag.time,Iv l[0].tag.place,s,.str l[0].text,.bool l[0].gone]/\(∀ {T:Type} (K:Pq->Nat->Nq->Option T),eS 2 s K=K av l[0].past.length cv)/\RTags false h [.sl 2 av l[0].past.length cv] l[0].past Gv /\
   ∃ h' F',Ai lo 174 [.sl 6 a l.length c,Iv 0,Iv 1] h=some (.sl 6 a (l.length - 1) c,h')/\RVers false h' [.sl 6 a (l.length - 1) c] (l.eraseIdx 0) F'/\Mv h F h' F'/\(∀ y∈Gv,y∉F'/\y∈F)/\∀ y,y≠o.1->h'[y]?=h[y]?:=by
 obtain ⟨h',F',Gv,b,i,row,ha,hld,hel,hG,e,r,m,fr⟩:=Sli.del (lo:=lo) (bytes:=72) (e:=49) (z := [Iv 0,Iv 0,Iv 0,.sl 0 none 0 (some 0),.str ⟨⟨[]⟩⟩,.bool false]) (x1:=0) (x2:=1) (T:=V×Heap) rver_ok hs h0 hnd hlo rfl rfl (by decide) (by omega) (some (.sl 6 a l.length c,h)) (λv h=>some (v,h));obtain ⟨s,av,cv,rfl,es,hp⟩:=hel.form;exact ⟨(b,i),s,av,cv,Gv,ha,hld,es,hp,h',F',Gq e,r,m,λy hy=>⟨(hG y hy).2.1,(hG y hy).1⟩,fr⟩
theorem YB {b i j R e:Nat}{rs:List (List V)}{row:List V}{l:List Node}{k:Int} (hb:h[b]?=some (.rows R e false rs)) (hrow:rs[i]?=some row) (hcell:row[j]?=some (.sl 2 a l.length c)) (hs:RNodes false h [.sl 2 a l.length c] l F) (hbF:b∉F)
  (hnd:F.Nodup) (hlo:∀ b∈F,lo<=b) (hl:lo<=h.length) (hn:Dm l) (hx:∀ x∈l,Wo x) :
  ∃ h' F',Ai lo 147 [.ptr (some (b,(i,j))),Iv k] h=some (.bool (BJ l k),h')/\RNodes false h' [.sl 2 a l.length c] (bif BJ l k then EU l k.toNat else l) F'/\Mv h F h' F':=by
 have hn1:=hn.1;suffices hq:∃ h' F',_=some (V.bool (BJ l k),h')/\RNodes false h' [.sl 2 a l.length c] (bif BJ l k then EU l k.toNat else l) F'/\Mv h F h' F' from hq.imp λh' hq=>hq.imp λF' hq=>⟨NI hq.1,hq.2⟩
 have hld:∀ hh:Heap,hh[b]?=some (.rows R e false rs)->ld hh b i (j+0) 1=some [.sl 2 a l.length c]:=λhh hb=>by rw[Bx hb hrow];exact Ig hcell
 have hblt:b<h.length:=(Ea hb).1;have stay:BJ l k=false->∃ h' F',some (V.bool false,h)=some (V.bool (BJ l k),h')/\RNodes false h' [.sl 2 a l.length c] (bif BJ l k then EU l k.toNat else l) F'/\Mv h F h' F':=λhc=>by rw[hc];exact ⟨h,F,rfl,hs,Mv.refl hnd⟩
 have hcd:BJ l k=(Ah k 0 ((l.length:Int) - 2)&&TD l k.toNat):=rfl;rw[hld h hb,Ad,Aa,Ag,Af,wr (by omega) (by omega),Ba,Ac,Ao];cases hw:Ah k 0 ((l.length:Int) - 2) with
 | false=>rw[Av];exact stay (by rw[hcd,hw];rfl)
 | true =>
 rw[hw,zcJ] at hcd;simp only[Ah,CA,decide_eq_true_eq] at hw;obtain ⟨f,rfl⟩:∃ f:Nat,k=(f:Int):=⟨k.toNat,by omega⟩;have hk:f+1<l.length:=by omega
 have hk':f<l.length:=by omega
 rw[Bb,JM hk'] at hcd;rw[Bb] at stay ⊢;obtain ⟨b0,i0,rs0,row0,G0,ha,hbF0,hbG,hb0,hrow0,hel,hGF,hGn,put⟩:=hs.at2 rnode_ok hk' hnd hlo;obtain ⟨t1,t2,F1,F2,rfl,rfl,r1,r2⟩:=hel;obtain ⟨aw,cw,es2,r2⟩:=r2.form;have ld1:∀ hh:Heap,hh[b0]?=some (.rows 2 (Ph false) false rs0)->ld hh b0 (i0+f) 1 1=some [t2]:=λhh hb0=>by rw[Bx hb0 hrow0];rfl
 rw[Am,hld h hb,Ad,Aa,Ag,Af,Ae hk',ha,Ad,ld1 h hb0,Ad,Aa,Ag,es2];by_cases h0:0<l[f].wait.length
 ·rw[decide_eq_true h0,zcJ] at hcd;rw[show ((l[f].wait.length:Int)==0)=false by rw[beq_eq_false_iff_ne];omega,Av,Ar (by omega)];have hfu:Ai lo 173 [.ptr (some (b,(i,j))),Iv ((f+1:Nat):Int)] h=some (.bool (!DI l (f+1)),h):=Od (hld h hb) hs hk;rw[hfu,Ac,Ao];cases hr:DI l (f+1) with
  | false=>rw[zdm,Am,<- ha];exact stay (by rw[hcd,hr])
  | true =>
  rw[hr] at hcd;have hGn0:=hGn;rw[zcy] at hGn;obtain ⟨o,s,av,cv,Gv,ho,hldv,es,hp,h3,F3,e3,r3,m3,hGv,fr3⟩:=TS (lo:=lo) r2 h0 hGn.2.1 (λy hy=>hlo y (hGF y (by simp[hy]))) (hn.2 _ (zcv hk')).2.1;have b1:∀ y∈F1,y<h.length:=rvers_ok.bd _ _ _ _ r1;have m4:=(m3.aside (G:=F1) (by rw[zcy];exact ⟨hGn.2.1,hGn.1,λx hx y hy e=>hGn.2.2 y hy x hx e.symm⟩) b1).swap;have r1':RVers false h3 [t1] l[f].store F1:=m3.keep rvers_ok r1 λy hy hm=>hGn.2.2 y hy y hm rfl;have hlen:=zdb h0;have r3c:=r3.clip;rw[<- hlen] at r3c;obtain ⟨h4,F4,e4,r4,m5,fr4,sub4⟩:=put h3 (F1++F3) 1 [.sl 6 aw (l[f].wait.eraseIdx 0).length (some (l[f].wait.eraseIdx 0).length)] [t1,.sl 6 aw (l[f].wait.eraseIdx 0).length (some (l[f].wait.eraseIdx 0).length)] ⟨l[f].store,l[f].wait.eraseIdx 0⟩ m4 rfl ⟨_,_,F1,F3,rfl,rfl,r1',r3c⟩;rw[<- Io hk'] at r4;have hln:=Lm (l:=l) (k:=f);have hGvG:∀ y∈Gv,y∈F1++F2:=λy hy=>by simp[(hGv y hy).2]
  have hd:∀ y∈Gv,y∉F4:=λy hy hm=>by
   rcases sub4 y hm with g | g
   ·exact g.2 (hGvG y hy)
   ·rcases zcx.1 g with g | g
    ·exact hGn.2.2 y g y (hGv y hy).2 rfl
    ·exact (hGv y hy).1 g
  have hoG:o.1∉Gv:=λhm=>(hGv o.1 hm).1 (by
   obtain ⟨R1,a1,c1,q1,q2⟩:=r3;injection q1 with q1 _;injection q1 with _ q1 _ _;subst q1;subst ho;obtain ⟨_,_,_,_,_,_,_,_,q⟩:=q2;rw[q];simp)
  have hp4:RTags false h4 [.sl 2 av (l[f].wait[0]'h0).past.length cv] (l[f].wait[0]'h0).past Gv:=rtags_ok.fr _ _ _ _ _ hp λy hy=>by rw[fr4 y λe=>hbG (by rw[<- e];exact hGvG y hy),fr3 y λe=>hoG (by rw[<- e];exact hy)]
  have hpx:=hx _ (zcv hk');have hky:=hpx.2 _ (zcv h0);have hth:=hpx.1.2.2.2 _ (zcv h0);have hk1:f+1<(E8 l f).length:=by rw[hln];exact hk
  have hst1:(E8 l f)[f+1].store.length=4:=by
   have:(E8 l f)[f+1]=l[f+1]:=by have e:=Io hk';rw[zem e,List.getElem_set_ne (by omega)]
   rw[this];exact (hx _ (zcv hk)).1.1
  have hnd5:Dm (E8 l f):=by
   refine ⟨by rw[hln];exact hn1,λx hx'=>?_⟩;rw[Io hk'] at hx';rcases zcZ hx' with hx' | rfl
   ·exact hn.2 x hx'
   ·have:=hn.2 _ (zcv hk');exact ⟨this.1,Qi this.2 (zcw (zdV _ _) this.2.1) λv hv=>zdy hv⟩
  have hb3:h3[b]?=some (.rows R e false rs):=by rw[m3.fr b hblt λhm=>hbF (hGF b (by simp[hm]))];exact hb
  have hb4:h4[b]?=some (.rows R e false rs):=by rw[fr4 b λe=>hbF (by rw[e];exact hbF0)];exact hb3
  have hbF4:b∉F4:=λhm=>by
   rcases m5.sub b hm with g | g
   ·exact hbF g
   ·omega
  have hcell4:row[j]?=some (.sl 2 a (E8 l f).length c):=by rw[hln];exact hcell
  rw[<- hln] at r4;obtain ⟨h5,F5,e5,r5,m6⟩:=QN (lo:=lo) (k:=f+1) (v:=l[f].wait[0]'h0) hb4 hrow hcell4 r4 hbF4 hp4 hd m5.nd (λy hy=>m5.ge hl hlo y hy) (zcw hl m5.le) hk1 ⟨hky.1,by omega⟩ hnd5 (by have:=hth.1;omega);rw[hln,<- SQ hk' h0] at r5;simp only[Ver.cs] at e5;have hclip:Ai lo 153 [.sl 6 aw (l[f].wait.length - 1) cw] h3=some (.sl 6 aw (l[f].wait.length - 1) (some (l[f].wait.length - 1)),h3):=KL r3;rw[hlen] at e4;have hb3':h3[b0]?=h3[b0]?:=rfl;rw[zdi,Av,hld h hb,Ad,Aa,Ag,Af,ha,Ae hk',Ad,ld1 h hb0,Ad,Aa,Ag,es2,Cl ⟨by omega,by omega⟩,ho,Ad,hldv,Ad,Aa,Ab,Aa,Ab,Aa,Ab,Aa,es,Aa,BH,Aa,AM,Ag,
   Ad,Aa,Ag,Af,Ad,Aa,Ag,Af,Ir,CW,Ae hk',Ad,ld1 h hb0,Ad,Aa,Ag,es2,CW,e3,Ac,Af,hld h3 hb3,<- ha,Ir,CW,hclip,Ac,Af,hld h3 hb3,Ir,CW,Ae hk',ha,Ad,e4,Ad,e5,Ac,Gn,Ag,<- ha]
  rw[hcd,cond_true];exact ⟨h5,F5,rfl,r5,m5.trans m6⟩
 ·rw[decide_eq_false h0,zdn] at hcd;rw[show ((l[f].wait.length:Int)==0)=true by rw[beq_iff_eq];omega,Am,<- ha];exact stay hcd
end


variable {p:Place}
def Iu (p:Place) (k:Nat):Place:=⟨p.me,p.clock,EU p.chain k,p.log,p.got,p.fell⟩
def D3 (p:Place) (k:Int):Place:=bif BJ p.chain k then BF (Iu p k.toNat) else p
theorem GW {l:List Node}{k:Nat}:(EU l k).length=l.length:=by
 unfold EU;split
 ·split
  ·rw[Em,Lm]
  ·rfl
 ·rfl
theorem Sy {nc nw nl k:Nat} (h:Tidy nc nw nl p):Tidy nc (nw+1) nl (Iu p k):=by
 have h0:Tidy nc (nw+1) nl p:=⟨h.len,λx hx=>by have:=h.node x hx;exact ⟨this.1,Nat.le_succ_of_le this.2.1,this.2.2⟩,h.log,h.got⟩;unfold Iu EU;split
 ·rename_i x hk
  split
  ·rename_i v hv
   have hxm:=zcL hk;have hd:Tidy nc nw nl ⟨p.me,p.clock,E8 p.chain k,p.log,p.got,p.fell⟩:=by
    refine ⟨by show (E8 p.chain k).length<=nc;rw[Lm];exact h.len,λy hy=>?_,h.log,h.got⟩;have hy:y∈E8 p.chain k:=hy;unfold E8 at hy;rw[hk] at hy;rcases zcZ hy with hy | rfl
    ·exact h.node y hy
    ·obtain ⟨g1,g2,g3,g4⟩:=h.node x hxm;exact ⟨g1,zcw (zdV _ _) g2,g3,λv hv=>g4 v (zdy hv)⟩
   exact MA hd ((h.node x hxm).2.2.2 v (zcL hv))
  ·exact h0
 ·exact h0
theorem TE (h:As p=true):∀ x∈p.chain,Wo x:=λx hx=>by have hno:=(CO (AI h).2.2.2.1).2 x hx;have ht:=ST hno;exact ⟨⟨ht.1,zcw ht.2.1 (by decide),ht.2.2⟩,λv hv=>(A3 ((AY hno).2.2 v hv)).1⟩
theorem PQ {nc nw nl:Nat} (h:Tidy nc nw nl p) (h1:nc<=10) (h2:nw<=20) (h3:nl<=100):Tidy 10 20 100 p :=
 ⟨zcw h.len h1,λx hx=>by have:=h.node x hx;exact ⟨this.1,zcw this.2.1 h2,this.2.2⟩,⟨zcw h.log.1 h3,h.log.2⟩,h.got.1,λl hl=>⟨zcw (h.got.2 l hl).1 h3,(h.got.2 l hl).2⟩⟩
theorem P5 {h h1 h2:Heap}{G1 G1' G2 G2' G3:List Nat} (m1:Mv h G1 h1 G1') (m2:Mv h1 G2 h2 G2') (hnd:(G1++(G2++G3)).Nodup) (hb:∀ y∈G1++(G2++G3),y<h.length) :
  Mv h (G1++(G2++G3)) h2 (G1'++(G2'++G3))/\(∀ y∈G1',y∉G2)/\(∀ y∈G3,y∉G1)/\∀ y∈G3,y∉G2:=by
 rw[zcy,zcy] at hnd;obtain ⟨n2,⟨n3,n4,n5⟩,n6⟩:=hnd;have hb1:∀ y∈G1,y<h.length:=λy hy=>hb y (by simp[hy]);have hb2:∀ y∈G2,y<h.length:=λy hy=>hb y (by simp[hy]);have hb3:∀ y∈G3,y<h.length:=λy hy=>hb y (by simp[hy]);have l1:=m1.le;have l2:=m2.le;have d1:∀ y∈G1',y∉G2:=λy hy hm=>by
  rcases m1.sub y hy with g | g
  ·exact n6 y g y (by simp[hm]) rfl
  ·have:=hb2 y hm;omega
 have d2:∀ y∈G3,y∉G1:=λy hy hm=>n6 y hm y (by simp[hy]) rfl;have d3:∀ y∈G3,y∉G2:=λy hy hm=>n5 y hm y hy rfl;have s1:∀ y∈G1',y<h1.length:=m1.lt hb1;refine ⟨⟨by omega,λy hy hF=>?_,?_,λy hy=>?_⟩,d1,d2,d3⟩
 ·simp only[zcx,not_or] at hF;rw[m2.fr y (by omega) hF.2.1,m1.fr y hy hF.1]
 ·rw[zcy,zcy];refine ⟨m1.nd,⟨m2.nd,n4,λx hx y hy e=>?_⟩,λx hx y hy e=>?_⟩
  ·subst e;rcases m2.sub x hx with g | g
   ·exact d3 x hy g
   ·have:=hb3 x hy;omega
  ·subst e;rcases zcx.1 hy with hy | hy
   ·rcases m2.sub x hy with g | g
    ·exact d1 x hx g
    ·have:=s1 x hx;omega
   ·rcases m1.sub x hx with g | g
    ·exact d2 x hy g
    ·have:=hb3 x hy;omega
 ·simp only[zcx] at hy ⊢;rcases hy with hy | hy | hy
  ·rcases m1.sub y hy with g | g
   ·exact .inl (.inl g)
   ·exact .inr ⟨g.1,by omega⟩
  ·rcases m2.sub y hy with g | g
   ·exact .inl (.inr (.inl g))
   ·exact .inr ⟨by omega,g.2⟩
  ·exact .inl (.inr (.inr hy))
section
variable {lo:Nat}{h:Heap}{F F':List Nat}{a a':Pq}{c c':Nq}
theorem Qa {a1 a2 a3:Pq}{c1 c2 c3:Nq}{F1 F2:List Nat} (hs1:RNodes false h [.sl 2 a1 p.chain.length c1] p.chain F1) (hs2:RVers false h [.sl 6 a2 p.log.length c2] p.log F2)
  (h0:0<p.chain.length) (ht:Tidy 10 20 100 p) (hd:∀ b∈F1,b∉F2) (hnd:F2.Nodup) (hlo:∀ b∈F2,lo<=b) (hl:lo<=h.length) :
  ∃ a2' c2' h' F2',Ai lo 161 [.agg (p.cs a1 c1 a2 c2 a3 c3)] h=some (.agg ((BF p).cs a1 c1 a2' c2' a3 c3),h')/\RVers false h' [.sl 6 a2' (BF p).log.length c2'] (BF p).log F2'/\Mv h F2 h' F2':=by
 obtain ⟨x,hx,hxe⟩:=LZ h0;have hxn:=ht.node x hx;exact OU hs1 hs2 h0 (by rw[hxe];exact hxn.1) hd hnd hlo hl (zcw ht.len (by decide)) (zcw ht.log.1 (by decide)) (λw hw=>by rw[hxe] at hw;have:=(hxn.2.2.1 w hw).1;omega)
end


variable {u v:Ver}{l:List Ver}
theorem Ik:A0 u v=true<->u.tag.time<v.tag.time\/(u.tag.time=v.tag.time/\u.tag.place<v.tag.place):=by simp[A0,Fu]
theorem Jq:A0 u v=false<->¬ (u.tag.time<v.tag.time\/(u.tag.time=v.tag.time/\u.tag.place<v.tag.place)):=by rw[<- Ik,Bool.not_eq_true]
def EV (v:Ver):List Ver->List Ver
 | [] => [v]
 | u :: r=>bif A0 u v then u :: EV v r else v :: u :: r
def H0 (l:List Ver):Prop:=l.Pairwise λp u=>A0 u p=false
theorem Ky {v:Ver}:∀ {l:List Ver},(EV v l).length=l.length+1
 | []=>rfl
 | u :: r=>by
  simp only[EV];cases A0 u v with
  | true=>simp[Ky (l:=r)]
  | false=>simp
theorem insF_mem {v x:Ver}:∀ {l:List Ver},x∈EV v l<->x=v\/x∈l
 | []=>by simp[EV]
 | u :: r=>by
  simp only[EV];cases A0 u v with
  | true =>
   rw[cond_true,zcD,insF_mem (l:=r),zcD];constructor
   ·rintro (h | h | h)
    ·exact .inr (.inl h)
    ·exact .inl h
    ·exact .inr (.inr h)
   ·rintro (h | h | h)
    ·exact .inr (.inl h)
    ·exact .inl h
    ·exact .inr (.inr h)
  | false=>simp
theorem L2 {v:Ver}:∀ {P Q:List Ver},(∀ p∈P,A0 p v=true)->(∀ q∈Q,A0 q v=false)->EV v (P++Q)=P++v :: Q
 | [],[],_,_=>rfl
 | [],q :: Q,_,hq=>by simp only[zc3,EV];rw[hq q (by simp),cond_false]
 | p :: P,Q,hp,hq=>by simp only[zde,EV];rw[hp p (by simp),cond_true,L2 (λx hx=>hp x (by simp[hx])) hq]
theorem Pc {v:Ver}:∀ {l:List Ver},H0 l->H0 (EV v l)
 | [],_=>by simp[EV,H0]
 | u :: r,h=>by
  unfold H0 at h ⊢;rw[zdX] at h;simp only[EV];cases hl:A0 u v with
  | true =>
   rw[cond_true,zdX];refine ⟨λx hx=>?_,Pc (l:=r) h.2⟩;rcases insF_mem.1 hx with rfl | hx
   ·rw[Ik] at hl;rw[Jq];omega
   ·exact h.1 x hx
  | false =>
   rw[cond_false,zdX,zdX];refine ⟨λx hx=>?_,h⟩;rcases zcD.1 hx with rfl | hx
   ·exact hl
   ·have:=h.1 x hx;rw[Jq] at this hl ⊢;omega
def zbT (u v:Ver):Int:=if (if Hh u.tag.time v.tag.time=0 then Hh u.tag.place v.tag.place else Hh u.tag.time v.tag.time)=0 then Hh v.key u.key else (if Hh u.tag.time v.tag.time=0 then Hh u.tag.place v.tag.place else Hh u.tag.time v.tag.time)
theorem Ma {a b:Int}:(Hh a b<0<->a<b)/\(Hh a b=0<->a=b):=by
 unfold Hh;constructor
 ·constructor
  ·intro h;split at h
   ·assumption
   ·split at h<;>omega
  ·intro h;rw[if_pos h];decide
 ·constructor
  ·intro h;split at h
   ·omega
   ·split at h<;>omega
  ·intro h;subst h;simp
theorem VE (hk:u.key<v.key):decide (zbT v u<0) = !A0 u v:=by
 rw[zdC,decide_eq_true_eq,zdd,Jq];unfold zbT;obtain ⟨t1,t2⟩:=Ma (a:=v.tag.time) (b:=u.tag.time);obtain ⟨p1,p2⟩:=Ma (a:=v.tag.place) (b:=u.tag.place);obtain ⟨k1,k2⟩:=Ma (a:=u.key) (b:=v.key);by_cases ht:Hh v.tag.time u.tag.time=0
 ·rw[if_pos ht];by_cases hp:Hh v.tag.place u.tag.place=0
  ·rw[if_pos hp];have:=t2.1 ht;have:=p2.1 hp;have:=k1.2 hk;omega
  ·rw[if_neg hp,p1];have:=t2.1 ht;have:¬ v.tag.place=u.tag.place:=λh=>hp (p2.2 h);omega
 ·rw[if_neg ht,if_neg ht,t1];have:¬ v.tag.time=u.tag.time:=λh=>ht (t2.2 h);omega
section
variable {lo:Nat}{h:Heap}{F F' G:List Nat}{a a' av:Pq}{c c' cv:Nq}
theorem ZM:Ai lo 180 [.agg (u.cs a c),.agg (v.cs a' c')] h=some (Iv (zbT u v),h) :=
 LD (h':=h ++ [.rows 1 3 false [[Iv (if Hh u.tag.time v.tag.time=0 then Hh u.tag.place v.tag.place else Hh u.tag.time v.tag.time)],[Iv (Hh v.key u.key)]]]) (by
  simp only[MX,Ac,Ab,Pn,Re];rfl)
theorem X6 {n j:Nat} (hs:RVers false h [.sl 6 a n c] l F) (hj:j+1<l.length) (hnd:F.Nodup) (hlo:∀ b∈F,lo<=b) :
  ∃ o s1 a1 c1 s2 a2 c2,a=some o/\ld h o.1 (o.2+(j+1)) 0 6=some [Iv l[j+1].key,Iv l[j+1].tag.time,Iv l[j+1].tag.place,s2,.str l[j+1].text,.bool l[j+1].gone]/\(∀ {T:Type} (K:Pq->Nat->Nq->Option T),eS 2 s2 K=K a2 l[j+1].past.length c2) /\
   ld h o.1 (o.2+j) 0 6=some [Iv l[j].key,Iv l[j].tag.time,Iv l[j].tag.place,s1,.str l[j].text,.bool l[j].gone]/\(∀ {T:Type} (K:Pq->Nat->Nq->Option T),eS 2 s1 K=K a1 l[j].past.length c1) /\
   ∃ h1 h2 F',st lo h o.1 (o.2+(j+1)) 0 (l[j].cs a1 c1)=some h1/\st lo h1 o.1 (o.2+j) 0 (l[j+1].cs a2 c2)=some h2/\RVers false h2 [.sl 6 a n c] ((l.set (j+1) l[j]).set j l[j+1]) F'/\Mv h F h2 F':=by
 have hn:=hs.val;subst hn;obtain ⟨R1,x1,y1,e1,g⟩:=hs;injection e1 with e1 _;injection e1 with e0 e2 _ e3;subst e0;subst e2;subst e3;cases a with
 | none=>obtain ⟨rfl,_⟩:=g;simp at hj
 | some p =>
 obtain ⟨b,i⟩:=p;obtain ⟨_,rs,Fs,g1,g2,g3,g4,g5,rfl⟩:=g;have hjl:j<l.length:=by omega
 obtain ⟨row1,F1,r1,f1,el1⟩:=g5.get (Cz hjl);obtain ⟨row2,F2,r2,f2,el2⟩:=g5.get (Cz hj);rw[zdU hjl,zcX] at r1;rw[zdU hj,zcX] at r2;obtain ⟨s1,a1,c1,rfl,es1,hp1⟩:=el1.form;obtain ⟨s2,a2,c2,rfl,es2,hp2⟩:=el2.form;have hlob:=hlo b (by simp);have hblt:b<h.length:=(Ea g1).1;rw[zcE] at hnd;have e4:=DR (lo:=lo) (cs:=l[j].cs a1 c1) (j:=0) g1 hlob r2 (Gh rfl);refine ⟨(b,i),s1,a1,c1,s2,a2,c2,rfl,by rw[Bx g1 r2];rfl,es2,by rw[Bx g1 r1];rfl,es1,h.set b (.rows 6 (Oq false) false (rs.set (i+(j+1)) (l[j].cs a1 c1))),h.set b (.rows 6 (Oq false) false ((rs.set (i+(j+1)) (l[j].cs a1 c1)).set (i+j) (l[j+1].cs a2 c2))),b ::((Fs.set (j+1) F1).set j F2).flatten,e4,?_,?_,?_⟩
 ·have hb1:(h.set b (.rows 6 (Oq false) false (rs.set (i+(j+1)) (l[j].cs a1 c1))))[b]?=some (.rows 6 (Oq false) false (rs.set (i+(j+1)) (l[j].cs a1 c1))):=by simp[hblt]
  have hr1:(rs.set (i+(j+1)) (l[j].cs a1 c1))[i+j]?=some [Iv l[j].key,Iv l[j].tag.time,Iv l[j].tag.place,s1,.str l[j].text,.bool l[j].gone]:=by rw[zcA (by omega)];exact r1
  rw[DR (lo:=lo) (cs:=l[j+1].cs a2 c2) (j:=0) hb1 hlob hr1 (Gh rfl),zdL]
 ·have hl1:∀ (rs:List (List V)) k (hk:k<l.length) row',((rs.set (i+k) row').drop i).take l.length=((rs.drop i).take l.length).set k row':=λrs k hk row'=>by rw[List.drop_set,if_neg (by omega),show i+k - i=k by omega,List.take_set]
  refine ⟨6,some (b,i),c,by simp,rfl,(rs.set (i+(j+1)) (l[j].cs a1 c1)).set (i+j) (l[j+1].cs a2 c2),(Fs.set (j+1) F1).set j F2,by simp[hblt],by simpa using g2,λq hq=>by simpa using g3 q hq,g4,?_,rfl⟩;rw[zc6,zc6,hl1 _ j hjl,hl1 _ (j+1) hj];have he:EAll (RVer false) h ((((rs.drop i).take l.length).set (j+1) (l[j].cs a1 c1)).set j (l[j+1].cs a2 c2)) ((l.set (j+1) l[j]).set j l[j+1]) ((Fs.set (j+1) F1).set j F2):=(g5.set (k:=j+1) ⟨_,rfl,hp1⟩).set (k:=j) ⟨_,rfl,hp2⟩;refine he.fr rver_ok.fr λy hy=>zcA λe=>?_;rcases EG hy with q | q
  ·rcases EG q with q | q
   ·exact hnd.1 (e ▸ q)
   ·exact hnd.1 (e ▸ FS f1 q)
  ·exact hnd.1 (e ▸ FS f2 q)
 ·have hperm:((Fs.set (j+1) F1).set j F2).Perm Fs:=by
   obtain ⟨hj1,e1⟩:=Ea f1;obtain ⟨hj2,e2⟩:=Ea f2;have hd:Fs=Fs.take j++F1 :: F2 :: Fs.drop (j+2):=by conv=>lhs;rw[<- zc5 j Fs,zcM hj1,e1,zcM hj2,e2]
   have hl:(Fs.take j).length=j:=by rw[zcS];omega
   have hsw:(Fs.set (j+1) F1).set j F2=Fs.take j++F2 :: F1 :: Fs.drop (j+2):=by
    conv=>lhs;rw[hd]
    rw[zdR _ _ (by omega),hl,show j+1 - j=1 by omega,zdR _ _ (by omega),hl,zd6];rfl
   rw[hsw];conv=>rhs;rw[hd]
   exact List.Perm.append_left _ (List.Perm.swap _ _ _)
  have hpf:=hperm.flatten;refine ⟨by simp,λy hy hF=>?_,?_,λy hy=>?_⟩
  ·rw[zcD,not_or] at hF;exact zcA (Ne.symm hF.1)
  ·rw[zcE];exact ⟨λhm=>hnd.1 (hpf.mem_iff.1 hm),hpf.nodup_iff.2 hnd.2⟩
  ·rcases zcD.1 hy with rfl | hy
   ·exact .inl (by simp)
   ·exact .inl (by simp[hpf.mem_iff.1 hy])
theorem V4 {n x2:Nat}{x8:Int}:∀ (m:Nat) (P Q R:List Ver) (hh:Heap) (F:List Nat),P.length=m->(∀ u∈P,u.key<v.key)->H0 P->(∀ q∈Q,A0 q v=false)->RVers false hh [.sl 6 a n c] (P++v ::(Q++R)) F->F.Nodup->(∀ b∈F,lo<=b)->lo<=hh.length->n<=1048576 ->
  ∃ h' F',AD lo a n c 0 x2 180 [] x8 (m:Nat) hh=An lo a n c 0 x2 180 [] (AL (x8+1)) h'/\RVers false h' [.sl 6 a n c] (EV v (P++Q)++R) F'/\Mv hh F h' F':=by
 intro m;induction m with
 | zero =>intro P Q R hh F hP hkey hso hQ hs hnd hlo hl0 hn;have:P = []:=zcF hP;subst this;rw[AD.e,Aj (by omega)];have e:=L2 (v:=v) (P := []) (Q:=Q) (by simp) hQ;rw[e];exact ⟨hh,F,rfl,by simpa using hs,Mv.refl hnd⟩
 | succ m ih =>
  intro P Q R hh F hP hkey hso hQ hs hnd hlo hl0 hn;have hne:P ≠ []:=λh0=>by rw[h0] at hP;simp at hP
  obtain ⟨P',u,rfl⟩:∃ P' u,P=P' ++ [u]:=⟨P.dropLast,P.getLast hne,(List.dropLast_concat_getLast hne).symm⟩;have hP':P'.length=m:=by simpa using hP
  have hval:=hs.val;have hlen:(P' ++ [u]++v ::(Q++R)).length=m+2+(Q++R).length:=by simp;omega
  obtain ⟨o,s1,a1,c1,s2,a2,c2,ha,hld2,es2,hld1,es1,h1,h2,F2,e4,e5,r6,m6⟩:=X6 (lo:=lo) (j:=m) hs (by rw[hlen];omega) hnd hlo;have hu:(P' ++ [u]++v ::(Q++R))[m]'(by rw[hlen];omega)=u:=by rw[List.getElem_append_left (by simp;omega),zeo (by omega)];simp
  have hv:(P' ++ [u]++v ::(Q++R))[m+1]'(by rw[hlen];omega)=v:=by rw[zeo (by simp;omega)];simp[hP']
  rw[hu] at hld1 es1 e4 r6;rw[hv] at hld2 es2 e5 r6;have hsw:((P' ++ [u]++v ::(Q++R)).set (m+1) u).set m v=P'++v ::((u :: Q)++R):=by rw[zcO,zdR _ _ (by omega),hP',show m+1 - m=1 by omega,zdR _ _ (by omega),hP',zd6];rfl
  rw[hsw] at r6;have hcmp:=ZM (lo:=lo) (h:=hh) (u:=v) (v:=u) (a:=a2) (c:=c2) (a':=a1) (c':=c1);simp only[Ver.cs] at hcmp e4 e5;have hkuv:=hkey u (by simp);have hmn:m+1<n:=by rw[hval,hlen];omega
  rw[AD.e,Ak (by omega),Ae hmn,ha,Ad,Bb,hld2,Ad,Aa,Ab,Aa,Ab,Aa,Ab,Aa,es2,Aa,BH,Aa,AM,Ag,
   show AL (((m+1:Nat):Int) - 1)=((m:Nat):Int) by rw[wr (by omega) (by omega)];omega,Ae (show m<n by omega),Ad,Bb,hld1,Ad,Aa,Ab,Aa,Ab,Aa,Ab,Aa,es1,Aa,BH,Aa,AM,Ag,show ∀ x:List V,CR x []=x from λx=>by simp[CR],hcmp,Ac,Ab]
  cases hl:A0 u v with
  | true =>
   have hc:=VE hkuv;rw[hl] at hc;rw[Aj (of_decide_eq_false hc)];have hso':∀ p∈P' ++ [u],A0 p v=true:=λp hp=>by
    rcases zcx.1 hp with hp | hp
    ·unfold H0 at hso;rw[List.pairwise_append] at hso;have:=hso.2.2 p hp u (by simp);rw[Jq] at this;rw[Ik] at hl ⊢;omega
    ·rw[zcQ] at hp;subst hp;exact hl
   rw[L2 hso' hQ];exact ⟨hh,F,by rw[<- ha],by rw[<- ha];simpa using hs,Mv.refl hnd⟩
  | false =>
   have hc:=VE hkuv;rw[hl] at hc;obtain ⟨h3,F3,e7,r7,m7⟩:=ih P' (u :: Q) R h2 F2 hP' (λx hx=>hkey x (by simp[hx])) (by unfold H0 at hso ⊢;rw[List.pairwise_append] at hso;exact hso.1) (λq hq=>by
    rcases zcD.1 hq with rfl | hq
    ·exact hl
    ·exact hQ q hq) r6 m6.nd (λb hb=>m6.ge hl0 hlo b hb) (zcw hl0 m6.le) hn
   rw[Ak (of_decide_eq_true hc),Ae (show m<n by omega),Ad,hld1,Ad,Aa,Ab,Aa,Ab,Aa,Ab,Aa,es1,Aa,BH,Aa,AM,Ag,Ae hmn,Ad,hld2,Ad,Aa,Ab,Aa,Ab,Aa,Ab,Aa,es2,Aa,BH,Aa,AM,Ag,
    Ae hmn,Ad,e4,Ad,Ae (show m<n by omega),Ad,e5,Ad,<- ha,e7]
   refine ⟨h3,F3,rfl,?_,m6.trans m7⟩;rw[zcO P' [u] Q];exact r7
theorem Qh {n:Nat}:∀ (R S:List Ver) (hh:Heap) (F:List Nat),H0 S->(∀ u∈S,∀ w∈R,u.key<w.key)->R.Pairwise (λp u=>p.key<u.key)->RVers false hh [.sl 6 a n c] (S++R) F->F.Nodup->(∀ b∈F,lo<=b)->lo<=hh.length->n<=1048576 ->
  ∃ h' F',An lo a n c 0 (n:Nat) 180 [] (S.length:Nat) hh=some (.tup [],h')/\RVers false h' [.sl 6 a n c] (R.foldl (λacc v=>EV v acc) S) F'/\Mv hh F h' F'
 | [],S,hh,F,_,_,_,hs,hnd,_,_,_=>by have hval:=hs.val;rw[zdc] at hval hs;rw[An.e,Aj (by omega)];exact ⟨hh,F,rfl,hs,Mv.refl hnd⟩
 | v :: R,S,hh,F,hso,hk,hp,hs,hnd,hlo,hl,hn=>by
  have hval:=hs.val;rw[zcP,zdA] at hval;rw[zdX] at hp;obtain ⟨h1,F1,e1,r1,m1⟩:=V4 (lo:=lo) (v:=v) (n:=n) (x2:=n) (x8:=(S.length:Nat)) S.length S [] R hh F rfl (λu hu=>hk u hu v (by simp)) hso (by simp) hs hnd hlo hl hn;rw[zdc] at r1;obtain ⟨h2,F2,e2,r2,m2⟩:=Qh R (EV v S) h1 F1 (Pc hso) (λu hu w hw=>by
   rcases insF_mem.1 hu with rfl | hu
   ·exact hp.1 w hw
   ·exact hk u hu w (by simp[hw])) hp.2 r1 m1.nd (λb hb=>m1.ge hl hlo b hb) (zcw hl m1.le) hn
  rw[An.e,Ak (by omega),e1,Ar (by omega)];rw[Ky] at e2;exact ⟨h2,F2,e2,r2,m1.trans m2⟩
def Kp (l:List Ver):List Ver:=l.foldl (λacc v=>EV v acc) []
theorem QM (hs:RVers false h [.sl 6 a l.length c] l F) (hk:l.Pairwise λp u=>p.key<u.key) (hnd:F.Nodup) (hlo:∀ b∈F,lo<=b) (hl:lo<=h.length) (hn:l.length<=1048576) :
  ∃ h' F',Ai lo 208 [.sl 6 a l.length c,Iv 0,Iv (l.length:Nat),.fn 180 []] h=some (.tup [],h')/\RVers false h' [.sl 6 a l.length c] (Kp l) F'/\Mv h F h' F':=by
 suffices hq:∃ h' F',An lo a l.length c 0 (l.length:Nat) 180 [] (AL (0+1)) h=some (V.tup [],h')/\RVers false h' [.sl 6 a l.length c] (Kp l) F'/\Mv h F h' F' from hq.imp λh' hq=>hq.imp λF' hq=>⟨Fb hq.1,hq.2⟩
 rw[show AL (0+1)=((1:Nat):Int) from Ar (k:=0) (by decide)];cases hl0:l with
 | nil =>rw[hl0] at hs;rw[An.e,Aj (by simp)];exact ⟨h,F,rfl,hs,Mv.refl hnd⟩
 | cons x r =>rw[hl0] at hs hk hn;rw[zdX] at hk;exact Qh (n:=(x :: r).length) r [x] h F (by simp[H0]) (λu hu w hw=>by rw[zcQ] at hu;subst hu;exact hk.1 w hw) hk.2 hs hnd hlo hl hn
end


variable {α:Type}{El:Rel α}{l:List α}
theorem Lb {h:Heap}{lo R e n bytes:Nat}{a:Pq}{c:Nq}{ys:List α}{F:List Nat}{xs:List (List V)}{Gs:List (List Nat)} (hfr:El.Fr)
  (hs:Sli false R e El h [.sl R a n c] l F) (hx:EAll El h xs ys Gs) (hb:0<bytes) (hsz:(l.length+ys.length)*bytes<=140737488355328) (hlo:∀ b∈F,lo<=b) (hl:lo<=h.length)
  (hnd:(F++Gs.flatten).Nodup) (hF:∀ b∈F++Gs.flatten,b<h.length) :
  ∃ a' c' h' F',(∀ {R':Type} (K:V->Heap->Option R'),Dd lo e R bytes (.sl R a n c) xs h K=K (.sl R a' (l.length+ys.length) c') h')/\Sli false R e El h' [.sl R a' (l.length+ys.length) c'] (l++ys) F'/\h.length<=h'.length /\
   (∀ b,b<h.length->b∉F->h'[b]?=h[b]?)/\(∀ b∈F',b∈F++Gs.flatten\/(h.length<=b/\b<h'.length))/\F'.Nodup:=by
 cases ys with
 | nil =>have hx0:xs = []:=zcF hx.len.1;have hn:=hs.val;subst hx0;subst hn;rw[zcy] at hnd;exact ⟨a,c,h,F,λK=>rfl,by rw[zdc];exact hs,zcz _,λ_ _ _=>rfl,λb hb => .inl (by simp[hb]),hnd.1⟩
 | cons y ys=>exact Sli.push hfr hs hx hb hsz hlo hl hnd hF (by simp)
theorem Sli.parts {R e:Nat}{h:Heap}{a:Pq}{c:Nq}{F:List Nat} (hs:Sli false R e El h [.sl R a l.length c] l F) (hnd:F.Nodup) :
  ∃ Fs:List (List Nat),Fs.flatten.Nodup/\(∀ y∈Fs.flatten,y∈F)/\(∀ b i,a=some (b,i)->b∈F/\b∉Fs.flatten)/\∀ k,k<=l.length->∃ rP rQ,EAll El h rP (l.take k) (Fs.take k)/\EAll El h rQ (l.drop k) (Fs.drop k) /\
   (∀ {T:Type} (h':Heap),(∀ b i,a=some (b,i)->h'[b]?=h[b]?)->∀ K:List (List V)->Option T,(Aw a l.length c none (some (Iv (k:Nat))) none λa n c=>Au R h' (.sl R a n c) K)=K rP) /\
   (∀ {T:Type} (h':Heap),(∀ b i,a=some (b,i)->h'[b]?=h[b]?)->∀ K:List (List V)->Option T,(Aw a l.length c (some (Iv (k:Nat))) none none λa n c=>Au R h' (.sl R a n c) K)=K rQ):=by
 obtain ⟨R1,a1,c1,e1,g⟩:=hs;injection e1 with e1 _;injection e1 with e0 e2 _ e3;subst e2;subst e3;cases a with
 | none =>
  obtain ⟨rfl,rfl,rfl⟩:=g;refine ⟨[],by simp,by simp,λb i h=>by simp at h,λk hk=>?_⟩;have hk0:k=0:=by simpa using hk
  subst hk0;refine ⟨[],[],trivial,trivial,λh' _ K=>?_,λh' _ K=>?_⟩
  ·unfold Aw FG IN Jl;simp only[Ab,zdN];rw[CQ ⟨by simp,by simp⟩];simp[Au]
  ·unfold Aw FG IN Jl;simp only[Ab,zdN];rw[CQ ⟨by simp,by simp⟩];simp[Au,LV]
 | some p =>
  obtain ⟨b,i⟩:=p;obtain ⟨_,rs,Fs,g1,g2,g3,_,g5,rfl⟩:=g;rw[zcE] at hnd;have key:∀ {T:Type} (h':Heap),h'[b]?=h[b]?->∀ (K:List (List V)->Option T) (j m:Nat) (c8:Nq),j+m<=rs.length->Au R h' (.sl R (some (b,j)) m c8) K=K ((rs.drop j).take m):=λh' hb' K j m c8 hj=>by
   simp only[Au,IJ,CW];cases m with
   | zero=>simp
   | succ m =>
    simp only;rw[show Et h' b j (m+1)=some ((rs.drop j).take (m+1)) by
     simp only[Et,Heap.rows?,hb',g1,zc7];rw[D2 hj]]
    rfl
  refine ⟨Fs,hnd.2,λy hy=>zdu _ hy,λb' i' e=>by injection e with e;injection e with e1 e2;subst e1;exact ⟨by simp,hnd.1⟩,λk hk=>?_⟩;have hrP:((rs.drop i).take l.length).take k=(rs.drop i).take k:=by rw[zen,zej hk]
  have hrQ:((rs.drop i).take l.length).drop k=(rs.drop (i+k)).take (l.length - k):=by rw[List.drop_take,zdW]
  refine ⟨(rs.drop i).take k,(rs.drop (i+k)).take (l.length - k),by rw[<- hrP];exact g5.take k,by rw[<- hrQ];exact g5.drop k,λh' hh K=>?_,λh' hh K=>?_⟩
  ·unfold Aw FG IN Jl;simp only[Ab,zdN,Bb];have:=key h' (hh b i rfl) K i k c (by omega);cases c with
   | none=>simp only;rw[CQ ⟨by omega,by omega⟩];exact this
   | some N=>simp only;rw[CQ ⟨by omega,by have:=(g3 N rfl).1;omega⟩];exact this
  ·unfold Aw FG IN Jl;simp only[Ab,zdN,Bb];rw[CQ ⟨by omega,by omega⟩];cases c with
   | none=>exact key h' (hh b i rfl) K (i+k) (l.length - k) none (by omega)
   | some N =>
    have hN:=(g3 N rfl).1;unfold LV;simp only;cases hb:Nat.beq N k with
    | false=>rw[Av];exact key h' (hh b i rfl) K (i+k) (l.length - k) _ (by omega)
    | true =>have:=zcH hb;rw[Am,show l.length - k=0 by omega];simp[Au,Bd]
def GD (out:List Ver) (x:Ver×Ver):List Ver:=bif A0 x.2 x.1 then EV x.1 out else out
def Ef (s t:List Ver):List Ver:=(s.zip t).foldl GD []
theorem TJ {v:Ver}:∀ {l:List Ver}{k:Nat},k<=l.length->(∀ i (hi:i<l.length),i<k->A0 l[i] v=true)->(∀ hk:k<l.length,A0 l[k] v=false)->EV v l=l.take k++v :: l.drop k
 | [],k,hk,_,_=>by simp[EV]
 | u :: r,0,hk,_,h2=>by have:=h2 (by simp);simp only[List.getElem_cons_zero] at this;simp[EV,this]
 | u :: r,k+1,hk,h1,h2=>by have h0:=h1 0 (by simp) (by omega);simp only[List.getElem_cons_zero] at h0;simp only[EV,h0,cond_true,List.take_succ_cons,List.drop_succ_cons,zde];rw[TJ (l:=r) (k:=k) (by simpa using hk) (λi hi hik=>by have:=h1 (i+1) (by simpa using hi) (by omega);simpa using this) (λhkr=>by have:=h2 (by simpa using hkr);simpa using this)]
section
variable {lo:Nat}{h:Heap}{F F' G:List Nat}{a a' av:Pq}{c c' cv:Nq}
theorem L7 (ok:El.Ok) {R e bytes:Nat}{rows:List (List V)}{Fs:List (List Nat)} (hx:EAll El h rows l Fs) (hnd:Fs.flatten.Nodup) (hF:∀ y∈Fs.flatten,y<h.length) (hb:0<bytes) (hsz:l.length*bytes<=140737488355328) (hl:lo<=h.length) :
  ∃ a' c' h' F',(∀ {T:Type} (K:V->Heap->Option T),Dd lo e R bytes (.sl R (some (h.length,0)) 0 (some 0)) rows (h ++ [.rows R e false []]) K=K (.sl R a' l.length c') h')/\Sli false R e El h' [.sl R a' l.length c'] l F'/\h.length<h'.length/\(∀ y,y<h.length->h'[y]?=h[y]?) /\
   (∀ y∈F',y∈Fs.flatten\/(h.length<=y/\y<h'.length))/\F'.Nodup:=by
 have m0:Mv h [] (h ++ [.rows R e false []]) [h.length]:=Mv.last;have hfresh:Sli false R e El (h ++ [.rows R e false []]) [.sl R (some (h.length,0)) 0 (some 0)] [] [h.length]:=Sli.fresh (zcz _);obtain ⟨a',c',h',F',p1,p2,p3,p4,p5,p6⟩:=Lb (lo:=lo) (bytes:=bytes) ok.fr hfresh (xs:=rows) (ys:=l) (Gs:=Fs) (hx.fr ok.fr λy hy=>m0.fr y (hF y hy) (by simp)) hb (by simpa using hsz) (by simp;omega) (by simp;omega)
  (by rw[zde,zc3,zcE];exact ⟨λhm=>by have:=hF _ hm;omega,hnd⟩) (λy hy=>by
   rw[zde,zc3,zcD] at hy;rcases hy with rfl | hy
   ·simp
   ·have:=hF y hy;simp;omega)
 simp only[zdJ,zcW,zc3] at p1 p2;refine ⟨a',c',h',F',p1,p2,by simp at p3;omega,λy hy=>?_,λy hy=>?_,p6⟩
 ·rw[p4 y (by simp;omega) (by simp;omega)];exact m0.fr y hy (by simp)
 ·simp at p3;rcases p5 y hy with g | g
  ·rw[zde,zc3,zcD] at g;rcases g with rfl | g
   ·exact .inr (by omega)
   ·exact .inl g
  ·simp at g;exact .inr (by omega)
theorem EY {Fs:List (List Nat)}{k:Nat} (hnd:Fs.flatten.Nodup):(Fs.take k).flatten.Nodup/\(Fs.drop k).flatten.Nodup/\∀ x∈(Fs.take k).flatten,∀ y∈(Fs.drop k).flatten,x≠y:=by rw[<- zc5 k Fs,zc9,zcy] at hnd;exact hnd
theorem UN {s t:List Ver}{a1 a2:Pq}{c1 c2:Nq}{F1 F2:List Nat} (hs:RVers false h [.sl 6 a1 s.length c1] s F1) (ht:RVers false h [.sl 6 a2 t.length c2] t F2) (h4:s.length=4) (h4':t.length=4) (hpn:∀ v∈s,v.past.length<=1048576) (hl:lo<=h.length) :
  ∃ a' c' h' F',Ai lo 195 [.agg [.sl 6 a1 s.length c1],.agg [.sl 6 a2 t.length c2]] h=some (.sl 6 a' (Ef s t).length c',h')/\RVers false h' [.sl 6 a' (Ef s t).length c'] (Ef s t) F'/\Mv h [] h' F':=by
 suffices hq:∃ a' c' h' F',_=some (V.sl 6 a' (Ef s t).length c',h')/\RVers false h' [.sl 6 a' (Ef s t).length c'] (Ef s t) F'/\Mv h [] h' F' from by obtain ⟨a',c',h',F',e,hr⟩:=hq;exact ⟨a',c',h',F',Sb e,hr⟩
 have hzl:(s.zip t).length=4:=by rw[zek];omega
 have one:∀ m i,m+i=4->∀ hh ax cx (out:List Ver) Fx,RVers false hh [.sl 6 ax out.length cx] out Fx->Mv h [] hh Fx->out.length<=i->∃ a' c' h' F',
   B4 lo ax out.length cx (i:Nat) a1 s.length c1 a2 t.length c2 hh=some (.sl 6 a' (((s.zip t).drop i).foldl GD out).length c',h')/\RVers false h' [.sl 6 a' (((s.zip t).drop i).foldl GD out).length c'] (((s.zip t).drop i).foldl GD out) F'/\Mv h [] h' F':=by
  intro m;induction m with
  | zero =>intro i hi hh ax cx out Fx hr hm hlen;rw[B4.e,Aj (by omega),zdk (by omega)];exact ⟨ax,cx,hh,Fx,rfl,hr,hm⟩
  | succ m ih =>
   intro i hi hh ax cx out Fx hr hm hlen;have his:i<s.length:=by omega
   have hit:i<t.length:=by omega
   have hs':=hm.keep0 rvers_ok hs;have ht':=hm.keep0 rvers_ok ht;obtain ⟨o1,s1,b1,d1,H1,ha1,_,_,_,_,_,_,hl1,hl1',es1,hp1,_⟩:=RVers.all hs' his;obtain ⟨o2,s2,b2,d2,H2,ha2,_,_,_,_,_,_,hl2,_,_,_,_⟩:=RVers.all ht' hit;have hzi:i<(s.zip t).length:=by omega
   rw[zcM hzi,zdr,zef];have hlf:GD out (s[i],t[i])=bif A0 t[i] s[i] then EV s[i] out else out:=rfl;rw[hlf,B4.e,Ak (by omega),Ae hit,ha2,Ad,Bb,hl2,Ad,Aa,Ab,Aa,Ab,Ag,Ae his,ha1,Ad,hl1,Ad,Aa,Ab,Aa,Ab,Ag,Cf,Ac,Ao,<- ha1,<- ha2];show ∃ a' c' h' F',br (A0 t[i] s[i]) _ _=_/\_;cases hless:A0 t[i] s[i] with
   | false =>rw[Av,cond_false,Ar (by omega)];exact ih (i+1) (by omega) hh ax cx out Fx hr hm (by omega)
   | true =>
   rw[Am,cond_true];have put:∀ k,k<=out.length->EV s[i] out=out.take k++s[i] :: out.drop k->∃ a' c' h' F',(Aw ax out.length cx none (some (Iv (k:Nat))) none λa_36 n_37 c_38=>Au 6 (hh ++ [.rows 6 49 false []]) (.sl 6 a_36 n_37 c_38) λx_39=>Dd lo 49 6 72 (.sl 6 (some ((List.length hh),0)) 0 (some 0)) x_39 (hh ++ [.rows 6 49 false []]) λv_40 h_41=>eS 6 (v_40) λa_42 n_43 c_44=>AB ((i:Nat):Int) s.length (eO a1 λo_45=>eO (ld h_41 (o_45.1) ((o_45.2)+(((i:Nat):Int).toNat)) 0 6) λo_46=>eC o_46 λv_47 l_48=>eI .i64 v_47 λn_49=>eC l_48 λv_50 l_51=>eI .i64 v_50 λn_52=>eC l_51 λv_53 l_54=>eI .i64 v_53 λn_55=>eC l_54 λv_56 l_57=>eS 2 (v_56) λa_58 n_59 c_60=>eC l_57 λv_61 l_62=>eT v_61 λs_63=>eC l_62 λv_64 l_65=>eBv v_64 λb_66=>eN l_65 (Al (Ai lo 167 [.agg [Iv (n_49),Iv (n_52),Iv (n_55),.sl 2 a_58 n_59 c_60,.str (s_63),.bool (b_66)]] h_41) λv_67 h_68=>eA v_67 λc_69=>eC c_69 λv_70 l_71=>eI .i64 v_70 λn_72=>eC l_71 λv_73 l_74=>eI .i64 v_73 λn_75=>eC l_74 λv_76 l_77=>eI .i64 v_76 λn_78=>eC l_77 λv_79 l_80=>eS 2 (v_79) λa_81 n_82 c_83=>eC l_80 λv_84 l_85=>eT v_84 λs_86=>eC l_85 λv_87 l_88=>eBv v_87 λb_89=>eN l_88 (Au 6 (h_68 ++ [.rows 6 49 false [[Iv (n_72),Iv (n_75),Iv (n_78),.sl 2 a_81 n_82 c_83,.str (s_86),.bool (b_89)]]]) (.sl 6 (some ((List.length h_68),0)) 1 (some 1)) λx_90=>Dd lo 49 6 72 (.sl 6 a_42 n_43 c_44) x_90 (h_68 ++ [.rows 6 49 false [[Iv (n_72),Iv (n_75),Iv (n_78),.sl 2 a_81 n_82 c_83,.str (s_86),.bool (b_89)]]]) λv_91 h_92=>eS 6 (v_91) λa_93 n_94 c_95=>Aw ax out.length cx (some (Iv (k:Nat))) none none λa_96 n_97 c_98=>Au 6 h_92 (.sl 6 a_96 n_97 c_98) λx_99=>Dd lo 49 6 72 (.sl 6 a_93 n_94 c_95) x_99 h_92 λv_100 h_101=>eS 6 (v_100) λa_102 n_103 c_104=>B4 lo a_102 n_103 c_104 (AL (((i:Nat):Int)+1)) a1 s.length c1 a2 t.length c2 h_101))))=some (V.sl 6 a' (((s.zip t).drop (i+1)).foldl GD (EV s[i] out)).length c',h') /\
     RVers false h' [.sl 6 a' (((s.zip t).drop (i+1)).foldl GD (EV s[i] out)).length c'] (((s.zip t).drop (i+1)).foldl GD (EV s[i] out)) F'/\Mv h [] h' F':=by
    intro k hk hins;have hbx:=rvers_ok.bd _ _ _ _ hr;obtain ⟨Fs,nF,sF,own,cuts⟩:=hr.parts hm.nd;obtain ⟨rP,rQ,eP,eQ,kP,kQ⟩:=cuts k hk;obtain ⟨nP,nQ,dPQ⟩:=EY (k:=k) nF;have inP:∀ y∈(Fs.take k).flatten,y∈Fs.flatten:=λy hy=>by rw[<- zc5 k Fs,zc9];simp[hy]
    have inQ:∀ y∈(Fs.drop k).flatten,y∈Fs.flatten:=λy hy=>by rw[<- zc5 k Fs,zc9];simp[hy]
    have hFl:∀ y∈Fs.flatten,y<hh.length:=λy hy=>hbx y (sF y hy);have hlh:lo<=hh.length:=zcw hl hm.le;have htl:(out.take k).length=k:=by rw[zcS];omega
    have hdl:(out.drop k).length=out.length - k:=by rw[zdB]
    obtain ⟨a3,c3,h3,F3,e3,r3,l3,fr3,sub3,nd3⟩:=L7 (lo:=lo) (R:=6) (e:=Oq false) (bytes:=72) rver_ok eP nP (λy hy=>hFl y (inP y hy)) (by decide) (by omega) hlh;have m3:Mv hh [] h3 []:=⟨by omega,λy hy _=>fr3 y hy,by simp,by simp⟩;have hs3:=m3.keep0 rvers_ok hs';obtain ⟨o4,s4,b4,d4,H4,ha4,ho4,es4,hp4,_⟩:=hs3.get his;obtain ⟨a5,c5,h5,F5,e5,r5,m5⟩:=Ep (lo:=lo) (v:=s[i]) hp4 (by omega) (hpn _ (zcv his));obtain ⟨a6,c6,h6,F6,e6,r6,m6⟩:=DC (lo:=lo) (bytes:=72) (e:=49) rver_ok r3 (row:=s[i].cs a5 c5) (x:=s[i]) (G:=F5) (h1:=h5 ++ [.rows 6 49 false [s[i].cs a5 c5]])
     ⟨_,rfl,Mv.snoc.keep0 rtags_ok r5⟩ (m5.trans (Mv.snoc' m5.nd)) nd3 (λy hy=>by
      rcases sub3 y hy with g | g
      ·exact hm.ge hl (by simp) y (sF y (inP y g))
      ·omega) (by omega) (by decide) (by omega)
    have hQ3:∀ y∈(Fs.drop k).flatten,y∉F3/\y<h3.length:=λy hy=>by
     have:=hFl y (inQ y hy);refine ⟨λhm3=>?_,by omega⟩;rcases sub3 y hm3 with g | g
     ·exact dPQ y g y hy rfl
     ·omega
    have hQ6:∀ y∈(Fs.drop k).flatten,h6[y]?=hh[y]?:=λy hy=>by rw[m6.fr y (hQ3 y hy).2 (hQ3 y hy).1];exact fr3 y (hFl y (inQ y hy))
    have l6:=m6.le;have F6b:∀ y∈F6,y<h6.length:=rvers_ok.bd _ _ _ _ r6;obtain ⟨a7,c7,h7,F7,e7,r7,l7,fr7,sub7,nd7⟩:=Lb (lo:=lo) (bytes:=72) rver_ok.fr r6 (xs:=rQ) (ys:=out.drop k) (Gs:=Fs.drop k) (eQ.fr rver_ok.fr hQ6) (by decide) (by simp only[zcP,htl,hdl,zdp];omega) (λy hy=>m6.ge (by omega) (λy hy=>by
      rcases sub3 y hy with g | g
      ·exact hm.ge hl (by simp) y (sF y (inP y g))
      ·omega) y hy) (by omega) (by
      rw[zcy];refine ⟨m6.nd,nQ,λx hx y hy e=>?_⟩;subst e;rcases m6.sub x hx with g | g
      ·exact (hQ3 x hy).1 g
      ·have:=(hQ3 x hy).2;omega) (λy hy=>by
      rcases zcx.1 hy with hy | hy
      ·exact F6b y hy
      ·have:=(hQ3 y hy).2;omega)
    have hfin:out.take k ++ [s[i]]++out.drop k=EV s[i] out:=by rw[hins,zcO];rfl
    have hflen:(out.take k).length+1+(out.drop k).length=(EV s[i] out).length:=by rw[Ky,htl,hdl];omega
    rw[zcP,zdp,hflen] at e7 r7;rw[hfin] at r7;have m7:Mv h [] h7 F7:=by
     refine ⟨by have:=hm.le;omega,λy hy _=>?_,nd7,λy hy=>?_⟩
     ·have y1:y<hh.length:=zcI hy hm.le;have yF:y∉Fx:=λhmx=>by have:=hm.new y hmx;omega
      have y3:y∉F3:=λhm3=>by
       rcases sub3 y hm3 with g | g
       ·exact yF (sF y (inP y g))
       ·omega
      have y6:y∉F6:=λhm6=>by
       rcases m6.sub y hm6 with g | g
       ·exact y3 g
       ·omega
      rw[fr7 y (by omega) y6,m6.fr y (by omega) y3,fr3 y y1,hm.fr y hy (by simp)]
     ·refine .inr ?_;have hh':=hm.le;rcases sub7 y hy with g | g
      ·rcases zcx.1 g with g | g
       ·rcases m6.sub y g with g | g
        ·rcases sub3 y g with g | g
         ·have:=hm.new y (sF y (inP y g));have:=hFl y (inP y g);omega
         ·omega
        ·omega
       ·have:=hm.new y (sF y (inQ y g));have:=hFl y (inQ y g);omega
      ·omega
    obtain ⟨a8,c8,h8,F8,e8,r8,m8⟩:=ih (i+1) (by omega) h7 a7 c7 (EV s[i] out) F7 r7 m7 (by rw[Ky];omega);refine ⟨a8,c8,h8,F8,?_,r8,m8⟩;have mm0:Mv hh [] (hh ++ [.rows 6 49 false []]) []:=Mv.snoc;have h6x:∀ b i,ax=some (b,i)->h6[b]?=hh[b]?:=λb i e=>by
     obtain ⟨q1,q2⟩:=own b i e;have:=hbx b q1;rw[m6.fr b (by omega) λhm3=>?_,fr3 b this];rcases sub3 b hm3 with g | g
     ·exact q2 (inP b g)
     ·omega
    simp only[Ver.cs] at e6;rw[show Oq false=49 from rfl] at e3;rw[kP _ (λb i e=>mm0.fr b (hbx b (own b i e).1) (by simp)),e3,Af,Ae his,ha4,Ad,Bb,ho4,Ad,Aa,Ab,Aa,Ab,Aa,Ab,Aa,es4,Aa,BH,Aa,AM,Ag];rw[show (V.agg [Iv s[i].key,Iv s[i].tag.time,Iv s[i].tag.place,.sl 2 b4 s[i].past.length d4,.str s[i].text,.bool s[i].gone]) = .agg (s[i].cs b4 d4) from rfl,e5,Ac,AO,Aa,Ab,Aa,Ab,Aa,Ab,Aa,Af,Aa,BH,Aa,AM,Ag,A9,e6,Af,kQ _ h6x,e7,Af,Ar (by omega),<- ha4];exact e8
   have two:∀ m k,m+k=out.length->(∀ j (hj:j<out.length),j<k->A0 out[j] s[i]=true)->∃ a' c' h' F',Du lo ax out.length cx (i:Nat) (k:Nat) a1 s.length c1 a2 t.length c2 hh=some (V.sl 6 a' (((s.zip t).drop (i+1)).foldl GD (EV s[i] out)).length c',h') /\
     RVers false h' [.sl 6 a' (((s.zip t).drop (i+1)).foldl GD (EV s[i] out)).length c'] (((s.zip t).drop (i+1)).foldl GD (EV s[i] out)) F'/\Mv h [] h' F':=by
    intro m;induction m with
    | zero =>intro k hk hall;rw[Du.e,Aj (by omega)];exact put k (by omega) (TJ (by omega) hall (λh=>by omega))
    | succ m ih2 =>
     intro k hk hall;have hkl:k<out.length:=by omega
     obtain ⟨o3,s3,b3,d3,H3,ha3,_,_,_,_,_,_,hl3,_,_,_,_⟩:=RVers.all hr hkl;rw[Du.e,Ak (by omega),Ae hkl,ha3,Ad,Bb,hl3,Ad,Aa,Ab,Aa,Ab,Ag,Ae his,ha1,Ad,Bb,hl1,Ad,Aa,Ab,Aa,Ab,Ag,Cf,Ac,Ao,<- ha1,<- ha3];show ∃ a' c' h' F',br (A0 out[k] s[i]) _ _=_/\_;cases hlk:A0 out[k] s[i] with
     | true =>
      rw[Am,Ar (by omega)];exact ih2 (k+1) (by omega) (λj hj hjk=>by
       by_cases e:j=k
       ·subst e;exact hlk
       ·exact hall j hj (by omega))
     | false =>rw[Av];exact put k (by omega) (TJ (by omega) hall (λ_=>hlk))
   exact two out.length 0 (by omega) (λj _ hj=>by omega)
 have m0:Mv h [] (h ++ [.rows 6 49 false []]) [h.length]:=Mv.last;obtain ⟨a',c',h',F',e,r,m⟩:=one 4 0 (by omega) (h ++ [.rows 6 49 false []]) (some (h.length,0)) (some 0) [] [h.length] (Sli.fresh (zcz _)) m0 (by simp);rw[zdt] at e r;exact ⟨a',c',h',F',e,r,m⟩
end


variable {l:List Node}{w:List Ver}
def B7 (l:List Node) (k:Nat) (w:List Ver):List Node:=match l[k]? with
 | some x=>l.set k ⟨x.store,w⟩
 | none=>l
def AC (l:List Node) (k:Nat):List Ver:=match l[k]? with
 | some x=>x.store
 | none => []
def B6 (l:List Node) (k:Nat):List Node :=
 bif decide (0<k) then (bif decide (k<(l.eraseIdx k).length) then B7 (l.eraseIdx k) (k - 1) (Ef (AC (l.eraseIdx k) (k - 1)) (AC (l.eraseIdx k) k)) else B7 (l.eraseIdx k) (k - 1) []) else l.eraseIdx k
theorem Er {k:Nat} (hk:k<l.length):B7 l k w=l.set k ⟨l[k].store,w⟩:=by unfold B7;rw[Cz hk]
theorem Da {k:Nat} (hk:k<l.length):AC l k=l[k].store:=by unfold AC;rw[Cz hk]
theorem CD {k:Nat}:(B7 l k w).length=l.length:=by unfold B7;split<;>simp
theorem OQ {k:Nat} (hk:k<l.length) (hw:l[k].wait = []):B7 l k []=l:=by
 rw[Er hk];have:(⟨l[k].store,[]⟩:Node)=l[k]:=by
  cases hx:l[k] with
  | mk s w=>rw[hx] at hw;simp only at hw;rw[hw]
 rw[this];exact zdS hk
section
variable {lo:Nat}{h:Heap}{F F' G:List Nat}{a a' av:Pq}{c c' cv:Nq}
theorem Ql {n k:Nat}{ws:List Ver}{w:V}{h1:Heap}{Fw:List Nat} (hs:RNodes false h [.sl 2 a n c] l F) (hk:k<l.length) (hnd:F.Nodup) (hlo:∀ b∈F,lo<=b) (hw:RVers false h1 [w] ws Fw) (m:Mv h [] h1 Fw) :
  ∃ b i h2 F',a=some (b,i)/\b∈F/\st lo h1 b (i+k) 1 [w]=some h2/\RNodes false h2 [.sl 2 a n c] (B7 l k ws) F'/\Mv h F h2 F'/\(∀ y,y≠b->h2[y]?=h1[y]?):=by
 obtain ⟨b,i,rs,row,G0,ha,hbF,hbG,hb,hrow,hel,hGF,hGn,put⟩:=hs.at2 rnode_ok hk hnd hlo;obtain ⟨t1,t2,F1,F2,rfl,rfl,r1,r2⟩:=hel;rw[zcy] at hGn;have b1:∀ y∈F1,y<h.length:=rvers_ok.bd _ _ _ _ r1;have m1:Mv h (F1++F2) h1 (F1++Fw):=by
  refine ⟨m.le,λy hy _=>m.fr y hy (by simp),?_,λy hy=>?_⟩
  ·rw[zcy];refine ⟨hGn.1,m.nd,λx hx y hy e=>?_⟩;subst e;have:=b1 x hx;have:=m.new x hy;omega
  ·rcases zcx.1 hy with hy | hy
   ·exact .inl (by simp[hy])
   ·exact (m.sub y hy).imp (λg=>by simp at g) id
 obtain ⟨h2,F',e2,r,m2,fr,_⟩:=put h1 (F1++Fw) 1 [w] [t1,w] ⟨l[k].store,ws⟩ m1 rfl ⟨_,_,F1,Fw,rfl,rfl,m.keep0 rvers_ok r1,hw⟩;rw[<- Er hk] at r;exact ⟨b,i,h2,F',ha,hbF,e2,r,m2,fr⟩
theorem YT {k:Nat} (hs:RNodes false h [.sl 2 a l.length c] l F) (hk:k<l.length) (hnd:F.Nodup) (hlo:∀ b∈F,lo<=b) (hl:lo<=h.length) (hn:l.length<=1048576) :
  ∃ a' c' h' F',(∀ {T:Type} (K:V->Heap->Option T),(Aw a l.length c none (some (Iv (k:Nat))) none λa_0 n_1 c_2=>Au 2 (h ++ [.rows 2 54 false []]) (.sl 2 a_0 n_1 c_2) λx_3=>Dd lo 54 2 48 (.sl 2 (some ((List.length h),0)) 0 (some 0)) x_3 (h ++ [.rows 2 54 false []]) λv_4 h_5=>eS 2 (v_4) λa_6 n_7 c_8 =>
    Aw a l.length c (some (Iv ((k+1:Nat):Int))) none none λa_9 n_10 c_11=>Au 2 h_5 (.sl 2 a_9 n_10 c_11) λx_12=>Dd lo 54 2 48 (.sl 2 a_6 n_7 c_8) x_12 h_5 K)=K (.sl 2 a' (l.eraseIdx k).length c') h') /\
   RNodes false h' [.sl 2 a' (l.eraseIdx k).length c'] (l.eraseIdx k) F'/\Mv h F h' F':=by
 have hbd:=rnodes_ok.bd _ _ _ _ hs;obtain ⟨Fs,nF,sF,own,cuts⟩:=Sli.parts hs hnd;obtain ⟨rP,_,eP,_,kP,_⟩:=cuts k (by omega);obtain ⟨_,rQ,_,eQ,_,kQ⟩:=cuts (k+1) (by omega);obtain ⟨nP,_,dPQ⟩:=EY (k:=k) nF;obtain ⟨_,nQ,_⟩:=EY (k:=k+1) nF;have inP:∀ y∈(Fs.take k).flatten,y∈Fs.flatten:=λy hy=>by rw[<- zc5 k Fs,zc9];simp[hy]
 have inQ:∀ y∈(Fs.drop (k+1)).flatten,y∈(Fs.drop k).flatten:=λy hy=>by
  have:Fs.drop (k+1)=(Fs.drop k).drop 1:=by rw[zdW]
  rw[this] at hy;rw[<- zc5 1 (Fs.drop k),zc9];exact zcx.2 (.inr hy)
 have inQ':∀ y∈(Fs.drop (k+1)).flatten,y∈Fs.flatten:=λy hy=>by rw[<- zc5 k Fs,zc9];simp[inQ y hy]
 have hFl:∀ y∈Fs.flatten,y<h.length:=λy hy=>hbd y (sF y hy);have htl:(l.take k).length=k:=by rw[zcS];omega
 have hdl:(l.drop (k+1)).length=l.length - (k+1):=by rw[zdB]
 obtain ⟨a3,c3,h3,F3,e3,r3,l3,fr3,sub3,nd3⟩:=L7 (lo:=lo) (R:=2) (e:=Ph false) (bytes:=48) rnode_ok eP nP (λy hy=>hFl y (inP y hy)) (by decide) (by omega) hl;have hQ3:∀ y∈(Fs.drop (k+1)).flatten,y∉F3/\y<h3.length:=λy hy=>by
  have:=hFl y (inQ' y hy);refine ⟨λhm3=>?_,by omega⟩;rcases sub3 y hm3 with g | g
  ·exact dPQ y g y (inQ y hy) rfl
  ·omega
 have F3b:∀ y∈F3,y<h3.length:=rnodes_ok.bd _ _ _ _ r3;obtain ⟨a7,c7,h7,F7,e7,r7,l7,fr7,sub7,nd7⟩:=Lb (lo:=lo) (bytes:=48) rnode_ok.fr r3 (xs:=rQ) (ys:=l.drop (k+1)) (Gs:=Fs.drop (k+1)) (eQ.fr rnode_ok.fr λy hy=>fr3 y (hFl y (inQ' y hy))) (by decide) (by rw[htl,hdl];omega) (λy hy=>by
   rcases sub3 y hy with g | g
   ·exact hlo y (sF y (inP y g))
   ·omega) (by omega) (by
   rw[zcy];refine ⟨nd3,nQ,λx hx y hy e=>?_⟩;subst e;exact (hQ3 x hy).1 hx) (λy hy=>by
   rcases zcx.1 hy with hy | hy
   ·exact F3b y hy
   ·exact (hQ3 y hy).2)
 have hel:(l.take k).length+(l.drop (k+1)).length=(l.eraseIdx k).length:=by rw[zdb hk,htl,hdl];omega
 have her:l.take k++l.drop (k+1)=l.eraseIdx k:=(List.eraseIdx_eq_take_drop_succ l k).symm;rw[hel] at e7 r7;rw[her] at r7;have mm0:Mv h [] (h ++ [.rows 2 54 false []]) []:=Mv.snoc;rw[show Ph false=54 from rfl] at e3 e7;refine ⟨a7,c7,h7,F7,λK=>?_,r7,⟨by omega,λy hy hyF=>?_,nd7,λy hy=>?_⟩⟩
 ·rw[kP _ (λb i e=>mm0.fr b (hbd b (own b i e).1) (by simp)),e3,Af,kQ _ (λb i e=>fr3 b (hbd b (own b i e).1)),e7]
 ·have y3:y∉F3:=λhm3=>by
   rcases sub3 y hm3 with g | g
   ·exact hyF (sF y (inP y g))
   ·omega
  rw[fr7 y (by omega) y3,fr3 y hy]
 ·rcases sub7 y hy with g | g
  ·rcases zcx.1 g with g | g
   ·rcases sub3 y g with g | g
    ·exact .inl (sF y (inP y g))
    ·exact .inr (by omega)
   ·exact .inl (sF y (inQ' y g))
  ·exact .inr (by omega)
theorem UP {k:Nat} (hs:RNodes false h [.sl 2 a l.length c] l F) (hk:k<l.length) (h2:1<l.length) (hlast:(l[l.length - 1]'(by omega)).wait = []) (hnd:F.Nodup) (hlo:∀ b∈F,lo<=b) (hl:lo<=h.length) (hn:l.length<=1048576) (hx:∀ x∈l,GA 20 x) :
  ∃ a' c' h' F',Ai lo 163 [.agg [.sl 2 a l.length c],Iv (k:Nat)] h=some (.agg [.sl 2 a' (B6 l k).length c'],h')/\RNodes false h' [.sl 2 a' (B6 l k).length c'] (B6 l k) F'/\Mv h F h' F':=by
 suffices hq:∃ a' c' h' F',_=some (V.agg [.sl 2 a' (B6 l k).length c'],h')/\RNodes false h' [.sl 2 a' (B6 l k).length c'] (B6 l k) F'/\Mv h F h' F' from by obtain ⟨a',c',h',F',e,hr⟩:=hq;exact ⟨a',c',h',F',Sd e,hr⟩
 have hel:=zdb hk;obtain ⟨a1,c1,h1,F1,e1,r1,m1⟩:=YT (lo:=lo) hs hk hnd hlo hl hn;have hflen:(B6 l k).length=l.length - 1:=by
  unfold B6;cases decide (0<k)
  ·exact hel
  ·cases decide (k<(l.eraseIdx k).length)
   ·rw[cond_true,cond_false,CD];exact hel
   ·rw[cond_true,cond_true,CD];exact hel
 rw[Ar (by omega),e1,Af];have hl1:lo<=h1.length:=zcw hl m1.le;have hlo1:∀ b∈F1,lo<=b:=λb hb=>m1.ge hl hlo b hb;have hn1:((l.eraseIdx k).length:Int) - 1=(((l.eraseIdx k).length - 1:Nat):Int):=by omega
 have tail:∀ (l':List Node) (hh:Heap) (F':List Nat),l'.length=(l.eraseIdx k).length->RNodes false hh [.sl 2 a1 (l.eraseIdx k).length c1] l' F'->F'.Nodup->(∀ b∈F',lo<=b)->∃ h' F'',(AB (AL ((((l.eraseIdx k).length:Nat):Int) - 1)) (l.eraseIdx k).length (eO a1 λo_41=>eO (st lo hh (o_41.1) ((o_41.2)+((AL ((((l.eraseIdx k).length:Nat):Int) - (1:Int))).toNat)) 1 [.sl 0 none 0 (some 0)]) λo_42=>some (V.agg [.sl 2 a1 (l.eraseIdx k).length c1],o_42)))=some (.agg [.sl 2 a1 (l.eraseIdx k).length c1],h') /\
   RNodes false h' [.sl 2 a1 (l.eraseIdx k).length c1] (B7 l' ((l.eraseIdx k).length - 1) []) F''/\Mv hh F' h' F'':=by
  intro l' hh F' hll hr hnd' hlo';obtain ⟨b,i,h3,F3,ha,_,e3,r3,m3,_⟩:=Ql (lo:=lo) (k:=(l.eraseIdx k).length - 1) (w := .sl 0 none 0 (some 0)) (ws := []) hr (by omega) hnd' hlo' Sli.nil Mv.nil;rw[wr (n:=(((l.eraseIdx k).length:Nat):Int) - 1) (by omega) (by omega),hn1,Ae (by omega),ha,Ad,Bb,e3,Ad,<- ha];exact ⟨h3,F3,rfl,r3,m3⟩
 have hlast':∀ hj:(l.eraseIdx k).length - 1<(l.eraseIdx k).length,k<(l.eraseIdx k).length->((l.eraseIdx k)[(l.eraseIdx k).length - 1]).wait = []:=λhj hkl=>by
  have:(l.eraseIdx k)[(l.eraseIdx k).length - 1]=l[l.length - 1]:=by rw[List.getElem_eraseIdx];rw[dif_neg (by omega)];congr 1;omega
  rw[this];exact hlast
 by_cases h0:0<k
 ·rw[Ak (by omega)];by_cases hkl:k<(l.eraseIdx k).length
  ·-- in between
   have hf:B6 l k=B7 (l.eraseIdx k) (k - 1) (Ef (AC (l.eraseIdx k) (k - 1)) (AC (l.eraseIdx k) k)):=by unfold B6;rw[decide_eq_true h0,cond_true,decide_eq_true hkl,cond_true]
   have hk1:k - 1<(l.eraseIdx k).length:=by omega
   have hxm:∀ x∈l.eraseIdx k,GA 20 x:=λx hx'=>hx x (zdy hx');obtain ⟨o,s1,s2,b1,d1,b2,d2,H1,H2,ha,_,ho1,_,q1,_,p1,_⟩:=r1.get hk1;obtain ⟨o',s1',s2',b1',d1',b2',d2',H1',H2',ha',_,ho1',_,q1',_,p1',_⟩:=r1.get hkl;have ho:o=o':=by rw[ha] at ha';injection ha'
   subst ho;have n1:=hxm _ (zcv hk1);have n2:=hxm _ (zcv hkl);obtain ⟨a4,c4,h4,F4,e4,r4,m4⟩:=UN (lo:=lo) p1 p1' n1.1 n2.1 (λv hv=>by have:=(n1.2.2.1 v hv).1;omega) hl1;obtain ⟨b,i,h5,F5,hb,_,e5,r5,m5,_⟩:=Ql (lo:=lo) (k:=k - 1) (w := .sl 6 a4 (Ef (l.eraseIdx k)[k - 1].store (l.eraseIdx k)[k].store).length c4) r1 hk1 m1.nd hlo1 r4 m4;obtain ⟨h6,F6,e6,r6,m6⟩:=tail _ h5 F5 CD r5 m5.nd (λb hb=>m5.ge hl1 hlo1 b hb);have hkk:((k:Nat):Int) - 1=((k - 1:Nat):Int):=by omega
   have hoe:o=(b,i):=by rw[ha] at hb;injection hb
   subst hoe;rw[Ak (by omega),wr (n:=((k:Nat):Int) - 1) (by omega) (by omega),hkk,Ae hk1,ha,Ad,Bb,ho1,Ad,Aa,q1,Ag,Ae hkl,Ad,Bb,ho1',Ad,Aa,q1',Ag,e4,Ac,Af,Ae hk1,Ad,e5,Ad,<- ha,e6];have hsame:B7 (B7 (l.eraseIdx k) (k - 1) (Ef (l.eraseIdx k)[k - 1].store (l.eraseIdx k)[k].store)) ((l.eraseIdx k).length - 1) []=B6 l k:=by
    rw[hf,Da hk1,Da hkl];have hj:(l.eraseIdx k).length - 1<(B7 (l.eraseIdx k) (k - 1) (Ef (l.eraseIdx k)[k - 1].store (l.eraseIdx k)[k].store)).length:=by rw[CD];omega
    refine OQ hj ?_;have hg:=Er (w:=Ef (l.eraseIdx k)[k - 1].store (l.eraseIdx k)[k].store) hk1;rw[zem hg,List.getElem_set_ne (by omega)];exact hlast' (by omega) hkl
   rw[hsame] at r6;refine ⟨a1,c1,h6,F6,by rw[hflen,hel],by rw[hflen,<- hel];exact r6,(m1.trans m5).trans m6⟩
  ·-- the tail fell
   have hf:B6 l k=B7 (l.eraseIdx k) (k - 1) []:=by unfold B6;rw[decide_eq_true h0,cond_true,decide_eq_false hkl,cond_false]
   have hkk:(l.eraseIdx k).length - 1=k - 1:=by omega
   obtain ⟨h6,F6,e6,r6,m6⟩:=tail _ h1 F1 rfl r1 m1.nd hlo1;rw[Aj (by omega),e6];rw[hkk,<- hf] at r6;exact ⟨a1,c1,h6,F6,by rw[hflen,hel],by rw[hflen,<- hel];exact r6,m1.trans m6⟩
 ·have hf:B6 l k=l.eraseIdx k:=by unfold B6;rw[decide_eq_false h0,cond_false]
  obtain ⟨h6,F6,e6,r6,m6⟩:=tail _ h1 F1 rfl r1 m1.nd hlo1;rw[Aj (by omega),e6];rw[OQ (by omega) (hlast' (by omega) (by omega)),<- hf] at r6;exact ⟨a1,c1,h6,F6,by rw[hflen,hel],r6,m1.trans m6⟩
end


variable {s t:List Ver}{v:Ver}{l:List Node}{w:List Ver}{rs:List (List V)}
def Bj (x:Ver×Ver):Option Ver:=bif A0 x.2 x.1 then some x.1 else none
theorem lack_sort:∀ {z:List (Ver×Ver)}{acc:List Ver},z.foldl GD acc=(z.filterMap Bj).foldl (λacc v=>EV v acc) acc
 | [],acc=>rfl
 | x :: z,acc=>by
  rw[zdr,lack_sort (z:=z)];unfold GD;cases hx:A0 x.2 x.1 with
  | true =>
   have:Bj x=some x.1:=by unfold Bj;rw[hx];rfl
   rw[List.filterMap_cons,this];rfl
  | false =>
   have:Bj x=none:=by unfold Bj;rw[hx];rfl
   rw[List.filterMap_cons,this];rfl
def MR (s t:List Ver):List Ver:=(s.zip t).filterMap Bj
theorem QF:Kp (MR s t)=Ef s t:=lack_sort.symm
theorem Ho {u:Ver} (hu:B5 u.tag.time u.tag.place=true) (hv:v.tag.time=0/\v.tag.place=0):A0 u v=false:=by rw[Jq];simp[B5,Ah] at hu;omega
theorem Ow {i:Nat} (h:IO i v=true):B5 v.tag.time v.tag.place=true:=(Xj h).2.2
theorem QE (hs:Bc s=true) (ht:Bc t=true):(MR s t).Pairwise λp u=>p.key<u.key:=by
 unfold MR;rw[List.pairwise_filterMap,List.pairwise_iff_getElem];intro i j hi hj hij b hb b' hb';have hi':i<s.length/\i<t.length:=by rw[zek] at hi;omega
 have hj':j<s.length/\j<t.length:=by rw[zek] at hj;omega
 rw[zef] at hb hb';have key:∀ q (hq:q<s.length) (hq':q<t.length) x,Bj (s[q],t[q])=some x->x.key=(q:Int):=λq hq hq' x hx=>by
  unfold Bj at hx;simp only at hx;cases hl:A0 t[q] s[q] with
  | false=>rw[hl] at hx;cases hx
  | true =>
   rw[hl] at hx;injection hx with hx;subst hx;rcases Cp (De hs hq) with g | g
   ·have:=Ho (Ow (De ht hq')) (DP g);rw[hl] at this;cases this
   ·exact g.2
 have e1:=key i hi'.1 hi'.2 b (by simpa using hb);have e2:=key j hj'.1 hj'.2 b' (by simpa using hb');omega
theorem Yy (hs:s.length=4):(MR s t).length<=4:=by unfold MR;have:=List.length_filterMap_le Bj (s.zip t);rw[zek] at this;omega
section
variable {lo:Nat}{h:Heap}{F F' G:List Nat}{a a' av:Pq}{c c' cv:Nq}
theorem Xc {n:Nat} (hn:n<=4):∃ x,Ai lo 204 [.int .u64 (IntKind.wrap .u64 ((n:Nat):Int))] h=some (Iv x,h):=by
 have key:∀ m:Nat,m<=4->∃ x,Ai (List.length h) 217 [.int .u64 (IntKind.wrap .u64 ((m:Nat):Int))] h=some (Iv x,h):=by
  intro m hm;have:m=0\/m=1\/m=2\/m=3\/m=4:=by omega
  rcases this with rfl | rfl | rfl | rfl | rfl;all_goals exact ⟨_,Ns (h':=h) (by
   rw[Aj (by decide),Aj (by decide),Aj (by decide)];rfl)⟩
 obtain ⟨x,hx⟩:=key n hn;exact ⟨x,PF (h':=h) (by rw[hx,Ac,Ab])⟩
theorem YF {l:List Ver} (hs:RVers false h [.sl 6 a l.length c] l F) (h4:l.length<=4) (hk:l.Pairwise λp u=>p.key<u.key) (hnd:F.Nodup) (hlo:∀ b∈F,lo<=b) (hl:lo<=h.length) :
  ∃ h' F',Ai lo 179 [.sl 6 a l.length c,.fn 180 []] h=some (.tup [],h')/\RVers false h' [.sl 6 a l.length c] (Kp l) F'/\Mv h F h' F':=by
 obtain ⟨x,hx⟩:=Xc (lo:=lo) (h:=h) h4;obtain ⟨h',F',e,r,m⟩:=QM (lo:=lo) hs hk hnd hlo hl (by omega);refine ⟨h',F',FJ ?_,r,m⟩;rw[hx,Ac,Ab];have:Ai lo 203 [.sl 6 a l.length c,Iv 0,Iv ((l.length:Nat):Int),Iv x,.fn 180 []] h=some (.tup [],h'):=by
  have hc:l.length=0\/l.length=1\/l.length=2\/l.length=3\/l.length=4:=by omega
  rcases hc with q | q | q | q | q
  ·rw[q] at e ⊢;exact FD (by rw[Bo.e];exact (congrArg (λo=>Al o _) e).trans rfl)
  ·rw[q] at e ⊢;exact FC (by rw[Bn.e];exact (congrArg (λo=>Al o _) e).trans rfl)
  ·rw[q] at e ⊢;exact FB (by rw[Bm.e];exact (congrArg (λo=>Al o _) e).trans rfl)
  ·rw[q] at e ⊢;exact FA (by rw[Bl.e];exact (congrArg (λo=>Al o _) e).trans rfl)
  ·rw[q] at e ⊢;exact Fz (by rw[Bk.e];exact (congrArg (λo=>Al o _) e).trans rfl)
 rw[this,Ac,Gn,Ag]
theorem TQ {k:Nat} (hs:RNodes false h [.sl 2 a l.length c] l F) (hk:k<l.length) (hnd:F.Nodup) (hlo:∀ b∈F,lo<=b) (hn:l.length<=1048576) :
  ∃ h' F',Ai lo 178 [.sl 2 a l.length c,Iv (k:Nat),Iv ((k+1:Nat):Int)] h=some (.sl 2 a (l.length - 1) c,h')/\RNodes false h' [.sl 2 a (l.length - 1) c] (l.eraseIdx k) F'/\Mv h F h' F':=by
 obtain ⟨h',F',Gv,b,i,row,ha,hld,hel,hG,e,r,m,fr⟩:=Sli.del (lo:=lo) (bytes:=48) (e:=54) (z := [.sl 0 none 0 (some 0),.sl 0 none 0 (some 0)]) (x1:=(k:Nat)) (x2:=((k+1:Nat):Int)) (T:=V×Heap) rnode_ok hs hk hnd hlo rfl (by omega) (by decide) (by omega) (some (.sl 2 a l.length c,h)) (λv h=>some (v,h));exact ⟨h',F',FK e,r,m⟩
theorem Wk {h3:Heap}{n k:Nat}{s1:V}{b0 i0:Nat} (hs:RNodes false h [.sl 2 a n c] l F) (ha:a=some (b0,i0)) (hk:k<l.length) (hst:ld h b0 (i0+k) 0 1=some [s1]) (hnd:F.Nodup) (hlo:∀ b∈F,lo<=b) (hl:lo<=h.length) (hw:l[k].wait.length<=1048576) (hv:RTags false h3 [.sl 2 av v.past.length cv] v.past G) (m3:Mv h [] h3 G) :
  ∃ t2 a2 c2 a5 c5 h5 h6 F6,ld h b0 (i0+k) 1 1=some [t2]/\(∀ {T:Type} (K:Pq->Nat->Nq->Option T),eS 6 t2 K=K a2 l[k].wait.length c2) /\
   (∀ {T:Type} (K:V->Heap->Option T),Dd lo 49 6 72 (.sl 6 a2 l[k].wait.length c2) [v.cs av cv] (h3 ++ [.rows 6 49 false [v.cs av cv]]) K=K (.sl 6 a5 (l[k].wait.length+1) c5) h5) /\
   st lo h5 b0 (i0+k) 1 [.sl 6 a5 (l[k].wait.length+1) c5]=some h6/\RNodes false h6 [.sl 2 a n c] (l.set k ⟨l[k].store,l[k].wait ++ [v]⟩) F6/\Mv h F h6 F6/\ld h6 b0 (i0+k) 0 1=some [s1]:=by
 obtain ⟨b,i,rs,row,G0,ha',hbF,hbG,hb,hrow,hel,hGF,hGn,_,put⟩:=hs.at rnode_ok hk hnd hlo;have:(b0,i0)=(b,i):=by rw[ha] at ha';injection ha'
 injection this with e1 e2;subst e1;subst e2;obtain ⟨t1,t2,F1,F2,rfl,rfl,r1,r2⟩:=hel;have hs1:s1=t1:=by rw[Bx hb hrow] at hst;injection hst with hst;injection hst with hst _;exact hst.symm
 subst hs1;obtain ⟨a2,c2,e2,r2'⟩:=r2.form;rw[zcy] at hGn;obtain ⟨a5,c5,h5,F5,e5,r5,m5⟩:=DC (lo:=lo) (bytes:=72) (e:=49) rver_ok r2' (row:=v.cs av cv) (x:=v) (G:=G) (h1:=h3 ++ [.rows 6 49 false [v.cs av cv]])
  ⟨_,rfl,Mv.snoc.keep0 rtags_ok hv⟩ (m3.trans (Mv.snoc' m3.nd)) hGn.2.1 (λy hy=>hlo y (hGF y (by simp[hy]))) hl (by decide) (by omega)
 have b1:∀ y∈F1,y<h.length:=rvers_ok.bd _ _ _ _ r1;have m6:=(m5.aside (G:=F1) (by rw[zcy];exact ⟨hGn.2.1,hGn.1,λx hx y hy e=>hGn.2.2 y hy x hx e.symm⟩) b1).swap;have r1':=m5.keep rvers_ok r1 λy hy hm=>hGn.2.2 y hy y hm rfl;obtain ⟨h6,F6,e6,r6,m7,hb6,_,_⟩:=put h5 (F1++F5) 1 [.sl 6 a5 (l[k].wait.length+1) c5] [s1,.sl 6 a5 (l[k].wait.length+1) c5] ⟨l[k].store,l[k].wait ++ [v]⟩ m6 rfl ⟨_,_,F1,F5,rfl,rfl,r1',r5⟩;have hrl:i0+k<rs.length:=(Ea hrow).1;have hr6:(rs.set (i0+k) [s1,.sl 6 a5 (l[k].wait.length+1) c5])[i0+k]?=some [s1,.sl 6 a5 (l[k].wait.length+1) c5]:=by simp[hrl]
 exact ⟨t2,a2,c2,a5,c5,h5,h6,F6,by rw[Bx hb hrow];rfl,λK=>e2 K,λK=>e5 K,e6,r6,m7,by rw[Bx hb6 hr6];rfl⟩
theorem P3 {k:Nat}{w':List Ver} (hk:k<l.length):(B7 l k w).set k ⟨l[k].store,w'⟩=B7 l k w':=by rw[Er hk,Er hk,zdL]
theorem Jj {k:Nat} (hk:k<l.length):(B7 l k w)[k]'(by rw[CD];exact hk)=⟨l[k].store,w⟩:=by rw[zem (Er hk),zdK]
theorem X1 {k q:Nat} (hk:k<l.length) (hq:q<l.length) (hne:k≠q):(B7 l k w)[q]'(by rw[CD];exact hq)=l[q]:=by rw[zem (Er hk),List.getElem_set_ne hne]
theorem YP {b i j R e:Nat}{row:List V}{k1 b5 i5:Nat}{as':Pq}{cs':Nq}
  (hkl:k1+1<l.length) (hb:h[b]?=some (.rows R e false rs)) (hrow:rs[i]?=some row) (hcell:row[j]?=some (.sl 2 a l.length c)) (hbF:b∉F)
  (hs:RNodes false h [.sl 2 a l.length c] (B7 l k1 []) F) (ha:a=some (b5,i5)) (hnd:F.Nodup) (hlo:∀ b∈F,lo<=b) (hl:lo<=h.length) (hn:l.length<=1048576) (h1:Bc (l[k1]'(by omega)).store=true) (h2:Bc l[k1+1].store=true) {x0:V} (hst:ld h b5 (i5+k1) 0 1=some [x0]) (hex:∀ {T:Type} (K:Pq->Nat->Nq->Option T),eS 6 x0 K=K as' (l[k1]'(by omega)).store.length cs') :
  ∃ h' F',Bt lo b i j ((k1+1:Nat):Int) b5 (i5+k1) 0 as' (l[k1]'(by omega)).store.length cs' (((l[k1]'(by omega)).store.length:Nat):Int) 0 h=some (.bool true,h') /\
   RNodes false h' [.sl 2 a l.length c] (B7 l k1 (Ef (l[k1]'(by omega)).store l[k1+1].store)) F'/\Mv h F h' F':=by
 have hk1:k1<l.length:=by omega
 have hblt:b<h.length:=(Ea hb).1;have hex':=λ{T:Type} (K:Pq->Nat->Nq->Option T)=>hex K;generalize hsd:(l[k1]'(by omega)).store=s at h1 hex' ⊢;generalize htd:l[k1+1].store=t at h2 ⊢;have hs4:=Bi h1;have ht4:=Bi h2;have hzl:(s.zip t).length=4:=by rw[zek];omega
 have hsm1:=GU h1;have hbm:∀ hh F',Mv h F hh F'->hh[b]?=some (.rows R e false rs):=λhh F' m=>by rw[m.fr b hblt hbF];exact hb
 have one:∀ m q,m+q=4->∀ hh F',RNodes false hh [.sl 2 a l.length c] (B7 l k1 (((s.zip t).take q).filterMap Bj)) F'->Mv h F hh F'->ld hh b5 (i5+k1) 0 1=some [x0] ->
   ∃ h' F'',Bt lo b i j ((k1+1:Nat):Int) b5 (i5+k1) 0 as' s.length cs' ((s.length:Nat):Int) (q:Nat) hh=some (.bool true,h')/\RNodes false h' [.sl 2 a l.length c] (B7 l k1 (Ef s t)) F''/\Mv h F h' F'':=by
  intro m;induction m with
  | zero =>
   intro q hq hh F' hr hm hld;have hq4:q=4:=by omega
   subst hq4;rw[zc0 (by omega)] at hr;have hwl:k1<(B7 l k1 ((s.zip t).filterMap Bj)).length:=by rw[CD];exact hk1
   obtain ⟨b',i',rs',row',G0,ha',hbF',hbG,hb',hrow',hel,hGF,hGn,put⟩:=hr.at2 rnode_ok hwl hm.nd (λy hy=>hm.ge hl hlo y hy);have:(b5,i5)=(b',i'):=by rw[ha] at ha';injection ha'
   injection this with x1 x2;subst x1;subst x2;rw[Jj hk1] at hel;obtain ⟨t1,t2,F1,F2,rfl,rfl,r1,r2⟩:=hel;simp only at r1 r2;obtain ⟨a2,c2,e2,r2'⟩:=r2.form;rw[zcy] at hGn;have hlh:lo<=hh.length:=zcw hl hm.le;obtain ⟨h3,F3,e3,r3,m3⟩:=YF (lo:=lo) r2' (Yy hs4) (QE h1 h2) hGn.2.1 (λy hy=>hm.ge hl hlo y (hGF y (by simp[hy]))) hlh;have b1:∀ y∈F1,y<hh.length:=rvers_ok.bd _ _ _ _ r1;have m4:=(m3.aside (G:=F1) (by rw[zcy];exact ⟨hGn.2.1,hGn.1,λx hx y hy e=>hGn.2.2 y hy x hx e.symm⟩) b1).swap;have r1':=m3.keep rvers_ok r1 λy hy hm=>hGn.2.2 y hy y hm rfl;have hsl:(Kp ((s.zip t).filterMap Bj)).length=((s.zip t).filterMap Bj).length:=(r3.val).symm;have r3c:=r3.clip;rw[<- hsl] at r3c;obtain ⟨h4,F4,e4,r4,m5,_,_⟩:=put h3 (F1++F3) 1 [.sl 6 a2 (Kp ((s.zip t).filterMap Bj)).length (some (Kp ((s.zip t).filterMap Bj)).length)] [t1,.sl 6 a2 (Kp ((s.zip t).filterMap Bj)).length (some (Kp ((s.zip t).filterMap Bj)).length)] ⟨l[k1].store,Kp ((s.zip t).filterMap Bj)⟩ m4 rfl ⟨_,_,F1,F3,rfl,rfl,by rw[hsd];rw[hsd] at r1';exact r1',r3c⟩;rw[hsl] at e4;rw[P3 hk1] at r4;have hfin:Kp ((s.zip t).filterMap Bj)=Ef s t:=QF;rw[hfin] at r4;have l1:ld hh b5 (i5+k1) (0+1) 1=some [t2]:=by rw[Bx hb' hrow'];rfl
   have hb5:h3[b5]?=hh[b5]?:=m3.fr b5 (Ea hb').1 λhm2=>hbG (by simp[hm2]);have l3:ld h3 b5 (i5+k1) (0+1) 1=some [t2]:=by rw[Bx (by rw[hb5];exact hb') hrow'];rfl
   rw[Bt.e,Aj (by omega),l1,Ad,Aa,Ag,e2,e3,Ac,Gn,Ag,l3,Ad,Aa,Ag,e2,KL r3,Ac,Af,e4,Ad];exact ⟨h4,F4,rfl,r4,hm.trans m5⟩
  | succ m ih =>
   intro q hq hh F' hr hm hld;have hqs:q<s.length:=by omega
   have hqt:q<t.length:=by omega
   have hlh:lo<=hh.length:=zcw hl hm.le;have hwl:k1<(B7 l k1 (((s.zip t).take q).filterMap Bj)).length:=by rw[CD];exact hk1
   have hwl2:k1+1<(B7 l k1 (((s.zip t).take q).filterMap Bj)).length:=by rw[CD];exact hkl
   obtain ⟨o,x1,_,b1,d1,_,_,H1,_,ho,_,ho1,_,ex1,_,p1,_⟩:=hr.get hwl;obtain ⟨o2,x2,_,b2,d2,_,_,H2,_,ho2,_,ho21,_,ex2,_,p2,_⟩:=hr.get hwl2;have hoe:o=(b5,i5):=by rw[ha] at ho;injection ho with ho;exact ho.symm
   have hoe2:o2=(b5,i5):=by rw[ha] at ho2;injection ho2 with ho2;exact ho2.symm
   subst hoe;subst hoe2;rw[hld] at ho1;injection ho1 with ho1;injection ho1 with ho1 _;subst ho1;have hcap:=ex1 λa n c=>some (a,c);rw[hex'] at hcap;injection hcap with hcap;injection hcap with hc1 hc2;subst hc1;subst hc2;have es1:(B7 l k1 (((s.zip t).take q).filterMap Bj))[k1].store=s:=by rw[Jj hk1];exact hsd
   have es2:(B7 l k1 (((s.zip t).take q).filterMap Bj))[k1+1].store=t:=by rw[X1 hk1 hkl (by omega)];exact htd
   rw[es1] at p1;rw[es2] at ex2 p2;have hv:=De h1 hqs;have hkr:0<=s[q].key/\s[q].key<4:=by
    rcases Cp hv with g | g
    ·rw[Mw g];decide
    ·rw[g.2];omega
   have hkt:s[q].key.toNat<t.length:=by omega
   have hless:A0 (t[s[q].key.toNat]'hkt) s[q]=A0 t[q] s[q]:=by
    rcases Cp hv with g | g
    ·rw[Ho (Ow (De h2 hkt)) (DP g),Ho (Ow (De h2 hqt)) (DP g)]
    ·have:s[q].key.toNat=q:=by rw[g.2];omega
     simp only[this]
   obtain ⟨ov,xs,bs,ds,Hs,hov,hlv,exs,hps,_⟩:=p1.get hqs;obtain ⟨ot,_,_,_,_,hot,_,_,_,_,_,_,hlt,_,_,_,_⟩:=RVers.all p2 hkt;have lc:ld hh b i (j+0) 1=some [.sl 2 a l.length c]:=by rw[Bx (hbm hh F' hm) hrow];exact Ig hcell
   have htake:((s.zip t).take (q+1)).filterMap Bj=((s.zip t).take q).filterMap Bj++(match Bj (s[q],t[q]) with | some v => [v] | none => []):=by rw[zdT (by omega),List.filterMap_append,zef];congr 1;cases hx:Bj (s[q],t[q])<;>simp[List.filterMap_cons,hx]
   have htl:=D7 (lo:=lo) (h:=hh) (a:=(t[s[q].key.toNat]'hkt).tag.time) (b:=(t[s[q].key.toNat]'hkt).tag.place) (c:=s[q].tag.time) (d:=s[q].tag.place);rw[Bt.e,Ak (by omega),Ae hqs,hov,Ad,Bb,hlv,Ad,Aa,Ab,Aa,Ab,Aa,Ab,Aa,exs,Aa,BH,Aa,AM,Ag,lc,Ad,Aa,Ag,Af,Ae hkl,ha,Ad,Bb,ho21,Ad,Aa,Ag,ex2,Cl ⟨by omega,by omega⟩,hot,Ad,hlt,Ad,Aa,Ab,Aa,Ab,Ag,htl,Ac,Ao,<- hov,Ar (by omega)];show ∃ h' F'',br (A0 (t[s[q].key.toNat]'hkt) s[q]) _ _=_/\_;rw[hless];cases hlq:A0 t[q] s[q] with
   | false =>
    have:Bj (s[q],t[q])=none:=by unfold Bj;rw[hlq];rfl
    rw[this] at htake;simp only[zdc] at htake;rw[Av,<- ha];exact ih (q+1) (by omega) hh F' (by rw[htake];exact hr) hm hld
   | true =>
    have:Bj (s[q],t[q])=some s[q]:=by unfold Bj;rw[hlq];rfl
    rw[this] at htake;simp only at htake;obtain ⟨a3,c3,h3,F3,e3,r3,m3⟩:=BG (lo:=hh.length) (v:=s[q]) hps (zcz _) (hsm1.2 _ (zcv hqs)).1;have hwlen:(((s.zip t).take q).filterMap Bj).length<=4:=by have:=List.length_filterMap_le Bj ((s.zip t).take q);rw[zcS] at this;omega
    obtain ⟨t2,a4,c4,a5,c5,h5,h6,F6,l2,e2,e5,e6,r6,m6,l6⟩:=Wk (lo:=lo) (v:=s[q]) hr ha hwl hld hm.nd (λy hy=>hm.ge hl hlo y hy) hlh (by rw[Jj hk1];exact zcw hwlen (by decide)) r3 m3;rw[Jj hk1] at e2 e5 e6 r6;simp only at e2 e5 e6 r6;rw[P3 hk1,<- htake] at r6;simp only[Ver.cs] at e3 e5;rw[Am,l2,Ad,Aa,Ag,e2,e3,Ac,AO,Aa,Ab,Aa,Ab,Aa,Ab,Aa,Af,Aa,BH,Aa,AM,Ag,A9,e5,Af,e6,Ad];rw[<- ha];exact ih (q+1) (by omega) h6 F6 r6 (hm.trans m6) l6
 exact one 4 0 (by omega) h F (by simpa using hs) (Mv.refl hnd) hst
theorem Mv.cons {h h':Heap}{F F':List Nat}{b:Nat} (m:Mv h F h' F') (hb:b<h.length) (hbF:b∉F) (hnd:F.Nodup):Mv h (b :: F) h' (b :: F') :=
 (m.aside (G := [b]) (by rw[zcy];exact ⟨hnd,by simp,λx hx y hy e=>by rw[zcQ] at hy;subst hy;subst e;exact hbF hx⟩) (by simpa using hb)).swap
def Dh (l:List Node) (k:Int):Bool:=Ah k 0 ((l.length:Int) - 1)&&decide (1<l.length)
theorem YE {b i j R e:Nat}{row:List V}{k:Int} (hb:h[b]?=some (.rows R e false rs)) (hrow:rs[i]?=some row) (hcell:row[j]?=some (.sl 2 a l.length c)) (hs:RNodes false h [.sl 2 a l.length c] l F) (hbF:b∉F)
  (hnd:F.Nodup) (hlob:lo<=b) (hlo:∀ b∈F,lo<=b) (hl:lo<=h.length) (hn:Dm l) (h0:0<l.length) (hst:∀ x∈l,Bc x.store=true) :
  ∃ a' n' c' h' F',Ai lo 149 [.ptr (some (b,(i,j))),Iv k] h=some (.bool (Dh l k),h')/\h'[b]?=some (.rows R e false (rs.set i (row.set j (.sl 2 a' n' c'))))/\RNodes false h' [.sl 2 a' n' c'] (bif Dh l k then B6 l k.toNat else l) F'/\Mv h (b :: F) h' (b :: F'):=by
 have hn1:=hn.1;suffices hq:∃ a' n' c' h' F',_=some (V.bool (Dh l k),h')/\h'[b]?=some (.rows R e false (rs.set i (row.set j (.sl 2 a' n' c'))))/\RNodes false h' [.sl 2 a' n' c'] (bif Dh l k then B6 l k.toNat else l) F'/\Mv h (b :: F) h' (b :: F') from by obtain ⟨a',n',c',h',F',e,hr⟩:=hq;exact ⟨a',n',c',h',F',NL e,hr⟩
 have hblt:b<h.length:=(Ea hb).1;have hil:i<rs.length:=(Ea hrow).1;have hjl:j<row.length:=(Ea hcell).1;have hndb:(b :: F).Nodup:=by rw[zcE];exact ⟨hbF,hnd⟩
 have hld:ld h b i (j+0) 1=some [.sl 2 a l.length c]:=by rw[Bx hb hrow];exact Ig hcell
 have stay:Dh l k=false->∃ a' n' c' h' F',some (V.bool false,h)=some (V.bool (Dh l k),h')/\h'[b]?=some (.rows R e false (rs.set i (row.set j (.sl 2 a' n' c'))))/\RNodes false h' [.sl 2 a' n' c'] (bif Dh l k then B6 l k.toNat else l) F'/\Mv h (b :: F) h' (b :: F'):=λhc=>by rw[hc];exact ⟨a,l.length,c,h,F,rfl,by rw[set_same hcell,set_same hrow];exact hb,hs,Mv.refl hndb⟩
 have hcd:Dh l k=(Ah k 0 ((l.length:Int) - 1)&&decide (1<l.length)):=rfl;rw[hld,Ad,Aa,Ag,Af,wr (by omega) (by omega),Ba,Ac,Ao];cases hw:Ah k 0 ((l.length:Int) - 1) with
 | false=>rw[Av];exact stay (by rw[hcd,hw];rfl)
 | true =>
 rw[hw,zcJ] at hcd;simp only[Ah,CA,decide_eq_true_eq] at hw;obtain ⟨f,rfl⟩:∃ f:Nat,k=(f:Int):=⟨k.toNat,by omega⟩;have hk:f<l.length:=by omega
 rw[Am,hld,Ad,Aa,Ag,Af];by_cases h1:1<l.length
 ·rw[decide_eq_true h1] at hcd;have hel:=zdb hk;obtain ⟨h2,F2,e2,r2,m2⟩:=TQ (lo:=lo) hs hk hnd hlo hn1;have hb2:h2[b]?=some (.rows R e false rs):=by rw[m2.fr b hblt hbF];exact hb
  have hclip:Ai lo 150 [.sl 2 a (l.length - 1) c] h2=some (.sl 2 a (l.length - 1) (some (l.length - 1)),h2):=Tm r2;have e3:=DR (lo:=lo) (cs := [.sl 2 a (l.length - 1) (some (l.length - 1))]) (j:=j+0) hb2 hlob hrow (EN hjl);obtain ⟨m3,b3,k3,n3⟩:=m2.store hblt hbF (.rows R e false (rs.set i (row.set (j+0) (.sl 2 a (l.length - 1) (some (l.length - 1))))));generalize hh3:h2.set b (.rows R e false (rs.set i (row.set (j+0) (.sl 2 a (l.length - 1) (some (l.length - 1))))))=h3 at m3 b3 k3;have e3':st lo h2 b i (j+0) [.sl 2 a (l.length - 1) (some (l.length - 1))]=some h3:=by rw[<- hh3];exact e3
  have r3:RNodes false h3 [.sl 2 a (l.length - 1) (some (l.length - 1))] (l.eraseIdx f) F2:=rnodes_ok.fr _ _ _ _ _ r2.clip λy hy=>k3 y λe=>n3 (by rw[<- e];exact hy);rw[show (((l.length:Nat):Int)==1)=false by rw[beq_eq_false_iff_ne];omega,Av,Ar (by omega),Ad,Aa,Ag,Af,e2,Ac,Af,hclip,Ac,Af,e3',Ad];rw[hcd,cond_true,Bb];by_cases hf0:f=0
  ·subst hf0;have hff:B6 l 0=l.eraseIdx 0:=rfl;rw[show (((0:Nat):Int)==0)=true from rfl,Am,hff];exact ⟨a,l.length - 1,some (l.length - 1),h3,F2,rfl,b3,r3,m3⟩
  ·obtain ⟨f1,rfl⟩:∃ f1,f=f1+1:=⟨f - 1,by omega⟩;have hk1:f1<(l.eraseIdx (f1+1)).length:=by omega
   have hrow3:(rs.set i (row.set (j+0) (.sl 2 a (l.length - 1) (some (l.length - 1)))))[i]?=some (row.set j (.sl 2 a (l.length - 1) (some (l.length - 1)))):=by simp[hil]
   have hcell3:(row.set j (.sl 2 a (l.length - 1) (some (l.length - 1))))[j]?=some (.sl 2 a (l.length - 1) (some (l.length - 1))):=by simp[hjl]
   have ld3:∀ hh:Heap,hh[b]?=h3[b]?->ld hh b i j 1=some [.sl 2 a (l.length - 1) (some (l.length - 1))]:=λhh hbb=>by rw[Bx (by rw[hbb];exact b3) hrow3];exact Ig hcell3
   obtain ⟨b5,i5,h4,F4,ha,hb5,e4,r4,m4,k4⟩:=Ql (lo:=lo) (k:=f1) (w := .sl 0 none 0 (some 0)) (ws := []) r3 hk1 (zcE.1 m3.nd).2 (λy hy=>m2.ge hl hlo y hy) Sli.nil Mv.nil;have hbb5:b≠b5:=λe=>n3 (by rw[e];exact hb5);have hb4:h4[b]?=h3[b]?:=k4 b hbb5;have hbF4:b∉F4:=λhm=>by
    rcases m4.sub b hm with g | g
    ·exact n3 g
    ·have:=m3.le;omega
   have m34:=m3.trans (m4.cons (by have:=m3.le;omega) n3 (zcE.1 m3.nd).2);have hlast:=Oc (lo:=lo) (h:=h4) (a:=a) (c:=some (l.length - 1)) (n:=l.length - 1) (k:=f1) (by omega);have hfm:(((f1+1:Nat):Int)==0)=false:=by rw[beq_eq_false_iff_ne];omega
   rw[hfm,Av,zdf,ld3 h3 rfl,Ad,Aa,Ag,Af,show AL (((f1+1:Nat):Int) - 1)=((f1:Nat):Int) by rw[wr (by omega) (by omega)];omega,Ae (show f1<l.length - 1 by omega),ha,Ad,Bb,e4,Ad,ld3 h4 hb4,Ad,Aa,Af,Ag,hlast,Ac,Ao];have hgt:decide (0<f1+1)=true:=decide_eq_true (by omega);by_cases hla:f1+1=l.length - 1
   ·have hff:B6 l (f1+1)=B7 (l.eraseIdx (f1+1)) f1 []:=by unfold B6;rw[hgt,cond_true,decide_eq_false (by omega),cond_false];rfl
    rw[decide_eq_true hla,Am,hff];exact ⟨a,l.length - 1,some (l.length - 1),h4,F4,rfl,by rw[hb4];exact b3,r4,m34⟩
   ·have hkl:f1+1<(l.eraseIdx (f1+1)).length:=by omega
    have hff:B6 l (f1+1)=B7 (l.eraseIdx (f1+1)) f1 (Ef (l.eraseIdx (f1+1))[f1].store (l.eraseIdx (f1+1))[f1+1].store):=by unfold B6;rw[hgt,cond_true,decide_eq_true hkl,cond_true,Da hkl,Nat.add_sub_cancel,Da hk1]
    have hwl:f1<(B7 (l.eraseIdx (f1+1)) f1 []).length:=by rw[CD];exact hk1
    obtain ⟨o,x1,_,b1,d1,_,_,H1,_,ho,_,ho1,_,ex1,_,p1,_⟩:=r4.get hwl;have hoe:o=(b5,i5):=by rw[ha] at ho;injection ho with ho;exact ho.symm
    subst hoe;rw[Jj hk1] at ex1 p1;simp only at ex1 p1;rw[<- hel] at r4;obtain ⟨h7,F7,e7,r7,m7⟩:=YP (lo:=lo) (k1:=f1) (l:=l.eraseIdx (f1+1)) hkl (by rw[hb4];exact b3) hrow3 (by rw[hel];exact hcell3) hbF4 r4 ha m4.nd (λy hy=>m4.ge (by have:=m3.le;omega) (λy hy=>m2.ge hl hlo y hy) y hy) (by have:=m34.le;omega) (by omega) (hst _ (zdy (zcv hk1))) (hst _ (zdy (zcv hkl))) ho1 ex1;rw[decide_eq_false hla,Av,ho1,Ad,Aa,Ag,ex1,e7,hff];have hb7:h7[b]?=h4[b]?:=m7.fr b (by have:=m34.le;omega) hbF4;exact ⟨a,(l.eraseIdx (f1+1)).length,some (l.eraseIdx (f1+1)).length,h7,F7,rfl,by rw[hel,hb7,hb4];exact b3,r7,m34.trans (m7.cons (by have:=m34.le;omega) hbF4 m4.nd)⟩
 ·rw[decide_eq_false h1] at hcd;rw[show (((l.length:Nat):Int)==1)=true by rw[beq_iff_eq];omega,Am];exact stay hcd
end


variable {l:List Node}{p:Place}
def LN (p:Place) (k:Nat):Place:=⟨p.me,p.clock,B6 p.chain k,p.log,p.got,true⟩
def Cm (p:Place) (k:Int):Bool := !p.fell&&Dh p.chain k
def C9 (p:Place) (k:Int):Place:=bif Cm p k then BF (LN p k.toNat) else p
theorem N6 {s t:List Ver}{v:Ver} (h:v∈Ef s t):v∈s:=by
 have key:∀ (z:List (Ver×Ver)) (acc:List Ver),v∈z.foldl GD acc->v∈acc\/∃ x∈z,x.1=v:=by
  intro z;induction z with
  | nil=>intro acc h;exact .inl h
  | cons x z ih =>
   intro acc h;rw[zdr] at h;rcases ih _ h with g | ⟨y,hy,e⟩
   ·unfold GD at g;cases hl:A0 x.2 x.1 with
    | false=>rw[hl] at g;exact .inl g
    | true =>
     rw[hl,cond_true] at g;rcases insF_mem.1 g with rfl | g
     ·exact .inr ⟨x,by simp,rfl⟩
     ·exact .inl g
   ·exact .inr ⟨y,by simp[hy],e⟩
 rcases key _ _ h with g | ⟨x,hx,rfl⟩
 ·simp at g
 ·exact (List.of_mem_zip hx).1
theorem SY {s t:List Ver} (hs:s.length=4):(Ef s t).length<=4:=by
 have key:∀ (z:List (Ver×Ver)) (acc:List Ver),(z.foldl GD acc).length<=acc.length+z.length:=by
  intro z;induction z with
  | nil=>intro acc;simp
  | cons x z ih =>
   intro acc;rw[zdr];have:=ih (GD acc x);have h2:(GD acc x).length<=acc.length+1:=by
    unfold GD;cases A0 x.2 x.1
    ·simp
    ·rw[cond_true,Ky];exact zcz _
   rw[zdA];omega
 have:=key (s.zip t) [];rw[zek] at this;simp only[zdJ] at this;unfold Ef;omega
theorem NR {nw k:Nat}{w:List Ver} (h:∀ x∈l,GA nw x) (hw:w.length<=nw) (hv:∀ v∈w,thin v):∀ x∈B7 l k w,GA nw x:=λx hx=>by
 unfold B7 at hx;split at hx
 ·rename_i y hy
  rcases zcZ hx with hx | rfl
  ·exact h x hx
  ·obtain ⟨g1,_,g3,_⟩:=h y (zcL hy);exact ⟨g1,hw,g3,hv⟩
 ·exact h x hx
theorem ZV {nw k:Nat} (h:∀ x∈l,GA nw x) (hnw:4<=nw):(B6 l k).length<=l.length/\∀ x∈B6 l k,GA nw x:=by
 have h':∀ x∈l.eraseIdx k,GA nw x:=λx hx=>h x (zdy hx);have hle:(l.eraseIdx k).length<=l.length:=zdV _ _;unfold B6;cases decide (0<k) with
 | false=>exact ⟨hle,h'⟩
 | true =>
  rw[cond_true];cases decide (k<(l.eraseIdx k).length) with
  | false=>exact ⟨by rw[cond_false,CD];exact hle,NR h' (zcY _) (by simp)⟩
  | true =>
   rw[cond_true,CD];refine ⟨hle,?_⟩;unfold AC;split
   ·rename_i y hy
    have hyn:=h' y (zcL hy);exact NR h' (zcw (SY hyn.1) hnw) (λv hv=>hyn.2.2.1 v (N6 hv))
   ·refine NR h' ?_ (λv hv=>?_)
    ·rw[show ∀ t,Ef [] t = [] from λt=>by simp[Ef]];exact zcY _
    ·have:=N6 hv;simp at this
theorem Sz {nc nl k:Nat} (h:Tidy nc 6 nl p):Tidy nc 6 nl (LN p k):=by obtain ⟨h1,h2⟩:=ZV (k:=k) h.node (by decide);exact ⟨zcw h1 h.len,h2,h.log,h.got⟩
theorem Jv {k:Nat} (hk:k<l.length) (h1:1<l.length):(B6 l k).length=l.length - 1:=by
 have hel:=zdb hk;unfold B6;cases decide (0<k)
 ·exact hel
 ·cases decide (k<(l.eraseIdx k).length)
  ·rw[cond_true,cond_false,CD];exact hel
  ·rw[cond_true,cond_true,CD];exact hel
theorem Yw (h:Ew l=true) (h0:0<l.length):(l[l.length - 1]'(by omega)).wait = []:=by have:=Nn h (show l.length - 1<l.length by omega);unfold HL at this;rw[zdg (by omega)] at this;simp only[decide_eq_true_eq] at this;exact zcF this
section
variable {lo:Nat}{ro:Bool}{h:Heap}{F F':List Nat}{a a':Pq}{c c':Nq}
theorem Qd {k:Int}{a1 a2 a3:Pq}{c1 c2 c3:Nq} (hn:p.chain.length<=1048576):Ai lo 162 [.agg (p.cs a1 c1 a2 c2 a3 c3),Iv k] h=some (.bool (Cm p k),h):=by
 refine Oz (h':=h) ?_;unfold Cm Dh;cases p.fell with
 | true=>simp only[zdi,Av,zdn]
 | false =>
  simp only[zdm,Am,zcJ];by_cases h1:1<p.chain.length
  ·rw[Ak (by omega),wr (by omega) (by omega),B8,Ac,Ao,decide_eq_true h1,zdw];exact Ih
  ·rw[Aj (by omega),decide_eq_false h1,zdD]
end


variable {u v:Ver}{t r s:List Ver}{k i:Nat}{x z:Node}
theorem O9 {w:Ver} (h1:A0 u v=true) (h2:A0 v w=true):A0 u w=true:=by rw[Ik] at *;omega
def upS (t s:List Ver):Prop:=∀ (i:Nat) (x y:Ver),t[i]?=some x->s[i]?=some y->x=y\/A0 x y=true
theorem upS.refl:upS t t:=λi x y hx hy => .inl (by rw[hx] at hy;injection hy)
theorem upS.trans (h1:upS r s) (h2:upS s t) (hl:t.length<=s.length):upS r t:=λi x z hx hz=>by
 have hi:=(Ea hz).1;have hy:=Cz (l:=s) (i:=i) (by omega);rcases h1 i x _ hx hy with rfl | h3
 ·exact h2 i _ z hy hz
 ·rcases h2 i _ z hy hz with h4 | h4
  ·exact .inr (h4 ▸ h3)
  ·exact .inr (O9 h3 h4)
theorem upS.set {t:List Ver}{k:Nat}{u v:Ver} (hu:t[k]?=some u) (hl:A0 u v=true):upS t (t.set k v):=λi x y hx hy=>by
 rw[List.getElem?_set] at hy;by_cases hi:k=i
 ·subst hi;rw[if_pos rfl,if_pos (Ea hu).1] at hy;injection hy with hy;rw[hu] at hx;injection hx with hx;exact .inr (by rw[<- hx,<- hy];exact hl)
 ·rw[if_neg hi,hx] at hy;injection hy with hy;exact .inl hy
theorem fitsL_cons:Ek t (v :: r)=some s<->∃ x,t[v.key.toNat]?=some x/\A0 x v=true/\Ek (t.set v.key.toNat v) r=some s:=by
 simp only[Ek];cases hx:t[v.key.toNat]? with
 | none=>simp
 | some x=>cases hl:A0 x v<;>simp[hl]
theorem QZ:∀ {ws t s:List Ver}{v x:Ver},Ek t ws=some s->s[v.key.toNat]?=some x->A0 x v=true->Ek t (ws ++ [v])=some (s.set v.key.toNat v)
 | [],t,s,v,x,h,hx,hl=>by simp only[Ek,Option.some.injEq] at h;subst h;exact fitsL_cons.2 ⟨x,hx,hl,rfl⟩
 | w :: r,t,s,v,x,h,hx,hl=>by obtain ⟨y,h1,h2,h3⟩:=fitsL_cons.1 h;exact fitsL_cons.2 ⟨y,h1,h2,QZ h3 hx hl⟩
theorem Vu:∀ {ws t s:List Ver},Ek t ws=some s->upS t s
 | [],t,s,h=>by simp only[Ek,Option.some.injEq] at h;subst h;exact upS.refl
 | v :: r,t,s,h=>by
  obtain ⟨y,h1,h2,h3⟩:=fitsL_cons.1 h;have h4:=Vu h3;refine λi x z hx hz=>?_;by_cases hi:v.key.toNat=i
  ·subst hi;rw[h1] at hx;injection hx with hx;subst hx;have hlt:=(Ea h1).1;rcases h4 _ v z (by simp[hlt]) hz with rfl | h5
   ·exact .inr h2
   ·exact .inr (O9 h2 h5)
  ·exact h4 i x z (by rw[zcA hi];exact hx) hz
theorem Te:∀ {ws t s:List Ver},Ek t ws=some s->∀ v∈s,v∈ws\/v∈t
 | [],t,s,h=>by simp only[Ek,Option.some.injEq] at h;subst h;exact λv hv => .inr hv
 | w :: r,t,s,h=>λv hv=>by
  obtain ⟨y,h1,h2,h3⟩:=fitsL_cons.1 h;rcases Te h3 v hv with g | g
  ·exact .inl (by simp[g])
  ·rcases zcZ g with g | rfl
   ·exact .inr g
   ·exact .inl (by simp)
theorem Vv:∀ {ws t s:List Ver},s.length=t.length->ws.Pairwise (λp u=>p.key≠u.key)->(∀ v∈ws,0<=v.key/\s[v.key.toNat]?=some v/\∃ x,t[v.key.toNat]?=some x/\A0 x v=true) ->
  (∀ (i:Nat) (x y:Ver),t[i]?=some x->s[i]?=some y->x=y\/(y∈ws/\y.key.toNat=i))->Ek t ws=some s
 | [],t,s,hl,_,_,h=>by
  simp only[Ek,Option.some.injEq];apply List.ext_getElem?;intro i;by_cases hi:i<t.length
  ·have h1:=Cz hi;have h2:=Cz (l:=s) (i:=i) (by omega);rcases h i _ _ h1 h2 with g | g
   ·rw[h1,h2,g]
   ·exact absurd g.1 (by simp)
  ·rw[zdg (by omega),zdg (by omega)]
 | v :: r,t,s,hl,hp,hw,h=>by
  rw[zdX] at hp;obtain ⟨h0,h1,x,h2,h3⟩:=hw v (by simp);refine fitsL_cons.2 ⟨x,h2,h3,Vv (by simpa using hl) hp.2 (λu hu=>?_) (λi a b ha hb=>?_)⟩
  ·obtain ⟨g0,g1,y,g2,g3⟩:=hw u (by simp[hu]);have:=hp.1 u hu;exact ⟨g0,g1,y,by rw[zcA (by omega)];exact g2,g3⟩
  ·by_cases hi:v.key.toNat=i
   ·subst hi;have hlt:=(Ea h2).1;rw[zcG hlt] at ha;injection ha with ha;rw[h1] at hb;injection hb with hb;exact .inl (ha.symm.trans hb)
   ·rw[zcA hi] at ha;rcases h i a b ha hb with g | ⟨g1,g2⟩
    ·exact .inl g
    ·rcases zcD.1 g1 with rfl | g1
     ·exact absurd g2 hi
     ·exact .inr ⟨g1,g2⟩
theorem S2 {v:Ver}:∀ {l:List Ver},(EV v l).Perm (v :: l)
 | [] => .refl _
 | u :: r=>by
  simp only[EV];cases A0 u v with
  | false=>exact .refl _
  | true=>exact (List.Perm.cons u S2).trans (List.Perm.swap v u r)
theorem SF:∀ {l acc:List Ver},(l.foldl (λacc v=>EV v acc) acc).Perm (l++acc)
 | [],acc => .refl _
 | v :: l,acc=>by rw[zdr];exact ((SF (l:=l)).trans (List.Perm.append_left l S2)).trans List.perm_middle
theorem lackU_mem:v∈MR s t<->∃ (i:Nat) (u:Ver),s[i]?=some v/\t[i]?=some u/\A0 u v=true:=by
 unfold MR;rw[List.mem_filterMap];constructor
 ·rintro ⟨⟨x,y⟩,hm,hx⟩
  obtain ⟨i,hi⟩:=zcT.1 hm;rw[zep] at hi;unfold Bj at hx;simp only at hx;cases hl:A0 y x with
  | false=>rw[hl] at hx;cases hx
  | true =>rw[hl] at hx;injection hx with hx;subst hx;exact ⟨i,y,hi.1,hi.2,hl⟩
 ·rintro ⟨i,u,h1,h2,h3⟩
  refine ⟨(v,u),zcT.2 ⟨i,zep.2 ⟨h1,h2⟩⟩,?_⟩;unfold Bj;simp only[h3,cond_true]
theorem Ip (hs:Bc s=true) {x:Ver} (hx:s[i]?=some x):IO i x=true:=by obtain ⟨hi,rfl⟩:=Ea hx;exact De hs hi
theorem Kl (hs:Bc s=true) (ht:Bc t=true) {x:Ver} (hx:s[i]?=some x) (hu:t[i]?=some u) (hl:A0 u x=true):Ck x=true/\x.key=(i:Int):=by
 rcases Cp (Ip hs hx) with g | g
 ·have:=Ho (Ow (Ip ht hu)) (DP g);rw[hl] at this;cases this
 ·exact g
theorem lackL_perm:(Ef s t).Perm (MR s t):=by rw[<- QF];have h:=SF (l:=MR s t) (acc := []);rw[zdc] at h;exact h
theorem ZE (hs:Bc s=true) (ht:Bc t=true):∀ v∈Ef s t,Ck v=true:=λv hv=>by obtain ⟨i,u,h1,h2,h3⟩:=lackU_mem.1 (lackL_perm.mem_iff.1 hv);exact (Kl hs ht h1 h2 h3).1
theorem Yx (hs:Bc s=true) (ht:Bc t=true) (hu:upS t s):Ek t (Ef s t)=some s:=by
 refine Vv (by rw[Bi hs,Bi ht]) ?_ (λv hv=>?_) (λi x y hx hy=>?_)
 ·exact (lackL_perm.pairwise_iff λh=>h.symm).2 ((QE hs ht).imp λh=>by omega)
 ·obtain ⟨i,u,h1,h2,h3⟩:=lackU_mem.1 (lackL_perm.mem_iff.1 hv);have hk:=(Kl hs ht h1 h2 h3).2;have e:v.key.toNat=i:=by omega
  rw[e];exact ⟨by omega,h1,u,h2,h3⟩
 ·rcases hu i x y hx hy with h | h
  ·exact .inl h
  ·exact .inr ⟨lackL_perm.mem_iff.2 (lackU_mem.2 ⟨i,x,hy,hx,h⟩),by have:=(Kl hs ht hy hx h).2;omega⟩
structure Ch (l:List Node):Prop where
 pos:1<=l.length
 le:l.length<=4
 node:∀ (i:Nat) (x:Node),l[i]?=some x->DT x=true
 link:∀ (i:Nat) (x y:Node),l[i]?=some x->l[i+1]?=some y->Ek y.store x.wait=some x.store
 last:∀ (i:Nat) (x:Node),l[i]?=some x->i+1=l.length->x.wait = []
theorem fits_iff:fits x s=true<->Ek s x.wait=some x.store:=by
 unfold fits;cases h:Ek s x.wait with
 | none=>simp
 | some r=>simp[sameVers_iff]
theorem chain_iff {l:List Node}:Ew l=true<->Ch l:=by
 unfold Ew;simp only[CA];rw[Ed (p:=HL l),XU (p:=DT)];constructor
 ·rintro ⟨⟨h1,h2⟩,h3⟩
  simp only[Ah,CA,decide_eq_true_eq] at h1;refine ⟨by omega,by omega,λi x hx=>?_,λi x y hx hy=>?_,λi x hx hi=>?_⟩
  ·obtain ⟨hi,rfl⟩:=Ea hx;exact h2 i hi
  ·obtain ⟨hi,rfl⟩:=Ea hx;have:=h3 i hi;unfold HL at this;rw[hy] at this;exact fits_iff.1 this
  ·obtain ⟨hj,rfl⟩:=Ea hx;have:=h3 i hj;unfold HL at this;rw[zdg (by omega)] at this;exact zcF (by simpa using this)
 ·rintro ⟨h1,h2,h3,h4,h5⟩
  refine ⟨⟨by simp[Ah];omega,λi hi=>h3 i _ (Cz hi)⟩,λi hi=>?_⟩;unfold HL;cases hy:l[i+1]? with
  | some y=>exact fits_iff.2 (h4 i _ y (Cz hi) hy)
  | none =>have:=List.getElem?_eq_none_iff.1 hy;simp[h5 i _ (Cz hi) (by omega)]
section
variable {l:List Node}
theorem Ch.store (h:Ch l) {i:Nat}{x:Node} (hx:l[i]?=some x):Bc x.store=true/\x.store.length=4:=by have:=(AY (h.node i x hx)).1;exact ⟨this,Bi this⟩
theorem Ch.up (h:Ch l):∀ (d i:Nat) (x y:Node),l[i]?=some x->l[i+d]?=some y->upS y.store x.store
 | 0,i,x,y,hx,hy=>by rw[zdf,hx] at hy;injection hy with hy;subst hy;exact upS.refl
 | d+1,i,x,y,hx,hy=>by have hlt:=(Ea hy).1;have hz:=Cz (l:=l) (i:=i+d) (by omega);have h1:=h.up d i x _ hx hz;have h2:=Vu (h.link (i+d) _ y hz hy);exact h2.trans h1 (by rw[(h.store hx).2,(h.store hz).2];exact zcz _)
theorem Ch.join (h:Ch l) (hl:l.length<4):Ch (IW l):=by
 have hp:=h.pos;rw[Fm (by omega)];have hz:l[l.length - 1]?=some (l[l.length - 1]'(by omega)):=Cz (by omega);have hns:=(h.store hz).1;have hn:DT ⟨(l[l.length - 1]'(by omega)).store,[]⟩=true:=by unfold DT;rw[hns];rfl
 have get:∀ i x,(l ++ [(⟨(l[l.length - 1]'(by omega)).store,[]⟩:Node)])[i]?=some x->(i<l.length/\l[i]?=some x)\/(i=l.length/\x=⟨(l[l.length - 1]'(by omega)).store,[]⟩):=λi x hx=>by
  by_cases hi:i<l.length
  ·rw[zcC hi] at hx;exact .inl ⟨hi,hx⟩
  ·rw[zcU (by omega)] at hx;have:=(Ea hx).1;simp only[zdp] at this;have e:i=l.length:=by omega
   subst e;rw[zd6] at hx;injection hx with hx;exact .inr ⟨rfl,hx.symm⟩
 refine ⟨by simp,by simp;omega,λi x hx=>?_,λi x y hx hy=>?_,λi x hx hi=>?_⟩
 ·rcases get i x hx with ⟨_,g⟩ | ⟨_,rfl⟩
  ·exact h.node i x g
  ·exact hn
 ·rcases get (i+1) y hy with ⟨g1,g2⟩ | ⟨g1,rfl⟩
  ·rcases get i x hx with ⟨_,g⟩ | ⟨g,_⟩
   ·exact h.link i x y g g2
   ·omega
  ·rcases get i x hx with ⟨_,g⟩ | ⟨g,_⟩
   ·have e:i=l.length - 1:=by omega
    rw[h.last i x g g1];subst e;rw[hz] at g;injection g with g;subst g;rfl
   ·omega
 ·simp only[zcP,zdp] at hi;rcases get i x hx with ⟨g,_⟩ | ⟨_,rfl⟩
  ·omega
  ·rfl
theorem IH (hk:k<l.length) (i:Nat):(B6 l k)[i]?=if i+1=k then (l[i]?).map (λx=>(⟨x.store,match l[k+1]? with | some y=>Ef x.store y.store | none => []⟩:Node)) else if i<k then l[i]? else l[i+1]?:=by
 have hel:=zdb hk;unfold B6;by_cases h0:0<k
 ·rw[decide_eq_true h0,cond_true];have hk1:k - 1<(l.eraseIdx k).length:=by omega
  have e1:(l.eraseIdx k)[k - 1]=l[k - 1]:=by rw[List.getElem_eraseIdx,dif_pos (by omega)]
  have out:∀ w,i+1≠k->(B7 (l.eraseIdx k) (k - 1) w)[i]?=if i+1=k then (l[i]?).map (λx=>(⟨x.store,match l[k+1]? with | some y=>Ef x.store y.store | none => []⟩:Node)) else if i<k then l[i]? else l[i+1]?:=λw hi=>by rw[Er hk1,zcA (by omega),List.getElem?_eraseIdx,if_neg hi]
  have at1:∀ w,i+1=k->(B7 (l.eraseIdx k) (k - 1) w)[i]?=some ⟨l[k - 1].store,w⟩:=λw hi=>by
   have e:k - 1=i:=by omega
   rw[Er hk1,e1,<- e,zcG hk1]
  have hl1:l[k - 1]?=some l[k - 1]:=Cz (by omega);by_cases hkl:k<(l.eraseIdx k).length
  ·rw[decide_eq_true hkl,cond_true];by_cases hi:i+1=k
   ·have e:i=k - 1:=by omega
    have hy:l[k+1]?=some (l[k+1]'(by omega)):=Cz (by omega);have e2:(l.eraseIdx k)[k]=l[k+1]'(by omega):=by rw[List.getElem_eraseIdx,dif_neg (by omega)]
    rw[at1 _ hi,if_pos hi,e,hl1,hy,Da hk1,Da hkl,e1,e2];rfl
   ·exact out _ hi
  ·rw[decide_eq_false hkl,cond_false];by_cases hi:i+1=k
   ·have e:i=k - 1:=by omega
    have hy:l[k+1]?=none:=zdg (by omega);rw[at1 _ hi,if_pos hi,e,hl1,hy];rfl
   ·exact out _ hi
 ·rw[decide_eq_false h0,cond_false,if_neg (by omega),List.getElem?_eraseIdx]
theorem Ch.fall (h:Ch l) (hk:k<l.length) (h2:1<l.length):Ch (B6 l k):=by
 have hle:=h.le;have hlen:=Jv hk h2;have hnw:∀ i x,l[i]?=some x->i+1=k->DT ⟨x.store,match l[k+1]? with | some y=>Ef x.store y.store | none => []⟩=true:=λi x hx hi=>by
  have hs:=h.store hx;cases hy:l[k+1]? with
  | none=>unfold DT;rw[hs.1];rfl
  | some y =>have ht:=h.store hy;have h4:=SY (s:=x.store) (t:=y.store) hs.2;unfold DT;simp only;rw[hs.1,decide_eq_true (by omega),zcJ,zcJ,zcK];exact ZE hs.1 ht.1
 refine ⟨by omega,by omega,λi x hx=>?_,λi x y hx hy=>?_,λi x hx hi=>?_⟩
 ·rw[IH hk] at hx;split at hx
  ·rename_i hi
   rw[zc2] at hx;obtain ⟨z,hz,rfl⟩:=hx;exact hnw i z hz hi
  ·split at hx
   ·exact h.node i x hx
   ·exact h.node (i+1) x hx
 ·rw[IH hk] at hx hy;by_cases hi:i+1=k
  ·rw[if_pos hi,zc2] at hx;obtain ⟨z,hz,rfl⟩:=hx;rw[if_neg (by omega),if_neg (by omega)] at hy;have e:i+1+1=k+1:=by omega
   rw[e] at hy;simp only[hy];have hup:=h.up 2 i z y hz (by rw[show i+2=k+1 by omega];exact hy);exact Yx (h.store hz).1 (h.store hy).1 hup
  ·rw[if_neg hi] at hx;by_cases hik:i<k
   ·rw[if_pos hik] at hx;by_cases hi2:i+1+1=k
    ·rw[if_pos hi2,zc2] at hy;obtain ⟨z,hz,rfl⟩:=hy;exact h.link i x z hx hz
    ·rw[if_neg hi2,if_pos (by omega)] at hy;exact h.link i x y hx hy
   ·rw[if_neg hik] at hx;rw[if_neg (by omega),if_neg (by omega)] at hy;exact h.link (i+1) x y hx hy
 ·rw[hlen] at hi;rw[IH hk] at hx;split at hx
  ·rename_i hi2
   rw[zc2] at hx;obtain ⟨z,hz,rfl⟩:=hx;rw[zdg (by omega)]
  ·split at hx
   ·omega
   ·exact h.last (i+1) x hx (by omega)
theorem Ch.key (h:Ch l) (hz:l[i]?=some z) (hv:Ck v=true):∃ u,z.store[v.key.toNat]?=some u:=by have:=(A3 hv).1;have h4:=(h.store hz).2;exact ⟨_,Cz (by omega)⟩
theorem JA {j:Nat} (hz:l[j]?=some z) (hu:z.store[v.key.toNat]?=some u):FI l j v=bif A0 u v then l.set j ⟨z.store.set v.key.toNat v,bif decide (j+1<l.length) then z.wait ++ [v] else z.wait⟩ else l:=by unfold FI;rw[hz];simp only[hu]
theorem zas {j:Nat} (hp:1<=l.length) (hle:l.length<=4) (hno:∀ (i:Nat) (x:Node),l[i]?=some x->DT x=true)
  (hli:∀ (i:Nat) (x y:Node),l[i]?=some x->l[i+1]?=some y->i+1≠j->Ek y.store x.wait=some x.store) (hla:∀ (i:Nat) (x:Node),l[i]?=some x->i+1=l.length->x.wait = [])
  (hz:l[j]?=some z) (hv:Ck v=true) (hr:z.wait.length<6) (hu:z.store[v.key.toNat]?=some u) (hl:A0 u v=true)
  (hpr:∀ (i:Nat) (x:Node),l[i]?=some x->i+1=j->Ek (z.store.set v.key.toNat v) x.wait=some x.store):Ch (FI l j v):=by
 have hj:=(Ea hz).1;obtain ⟨n1,n2,n3⟩:=AY (hno j z hz);rw[JA hz hu,hl,cond_true];have hnz:DT ⟨z.store.set v.key.toNat v,bif decide (j+1<l.length) then z.wait ++ [v] else z.wait⟩=true:=by
  unfold DT;simp only;rw[OS n1 hv];cases decide (j+1<l.length) with
  | false =>rw[cond_false,decide_eq_true (by omega),zcJ,zcJ,zcK];exact n3
  | true =>
   rw[cond_true,decide_eq_true (by simp;omega),zcJ,zcJ,zcK];intro w hw;rcases zcx.1 hw with g | g
   ·exact n3 w g
   ·rw[zcQ] at g;subst g;exact hv
 refine ⟨by simpa using hp,by simpa using hle,λi x hx=>?_,λi x y hx hy=>?_,λi x hx hi=>?_⟩
 ·by_cases hij:j=i
  ·subst hij;rw[zcG hj] at hx;injection hx with hx;subst hx;exact hnz
  ·rw[zcA hij] at hx;exact hno i x hx
 ·by_cases hij:j=i
  ·subst hij;rw[zcG hj] at hx;rw[zcA (by omega)] at hy;have hlt:=(Ea hy).1;injection hx with hx;subst hx;simp only[decide_eq_true hlt,cond_true];exact QZ (hli j z y hz hy (by omega)) hu hl
  ·rw[zcA hij] at hx;by_cases hij2:j=i+1
   ·subst hij2;rw[zcG hj] at hy;injection hy with hy;subst hy;exact hpr i x hx rfl
   ·rw[zcA hij2] at hy;exact hli i x y hx hy (λe=>hij2 e.symm)
 ·rw[zc6] at hi;by_cases hij:j=i
  ·subst hij;rw[zcG hj] at hx;injection hx with hx;subst hx;rw[decide_eq_false (by omega),cond_false];exact hla j z hz hi
  ·rw[zcA hij] at hx;exact hla i x hx hi
theorem Ch.add (h:Ch l) (hv:Ck v=true) (hr:DI l 0=true):Ch (FI l 0 v):=by
 have hp:=h.pos;have hz:l[0]?=some (l[0]'(by omega)):=Cz (by omega);rw[It (by omega),decide_eq_true_eq] at hr;obtain ⟨u,hu⟩:=h.key hz hv;cases hl:A0 u v with
 | false=>rw[JA hz hu,hl,cond_false];exact h
 | true=>exact zas hp h.le h.node (λi x y hx hy _=>h.link i x y hx hy) h.last hz hv hr hu hl (λi x _ e=>by omega)
theorem JN {k:Int} (hc:BJ l k=true):∃ (f:Nat) (x y:Node) (v:Ver) (r:List Ver),k=(f:Int)/\l[f]?=some x/\l[f+1]?=some y/\x.wait=v :: r/\y.wait.length<6:=by
 simp only[BJ,Ah,CA,decide_eq_true_eq] at hc;obtain ⟨⟨h1,h2⟩,h3⟩:=hc;have hf:k.toNat+1<l.length:=by omega
 rw[JM (by omega),CA,decide_eq_true_eq,It hf,decide_eq_true_eq] at h3;refine ⟨k.toNat,l[k.toNat],l[k.toNat+1],?_⟩;cases hw:l[k.toNat].wait with
 | nil=>rw[hw] at h3;simp at h3
 | cons v r=>exact ⟨v,r,by omega,Cz (by omega),Cz hf,rfl,h3.2⟩
theorem MI {f:Nat} (hx:l[f]?=some x) (hw:x.wait=v :: r):EU l f=FI (l.set f ⟨x.store,r⟩) (f+1) v:=by unfold EU E8;rw[hx];simp only[hw,List.getElem?_cons_zero,List.eraseIdx_cons_zero]
theorem Ch.pass (h:Ch l) {k:Int} (hc:BJ l k=true):Ch (EU l k.toNat):=by
 obtain ⟨f,x,y,v,r,rfl,hx,hy,hw,hr⟩:=JN hc;have hf:=(Ea hx).1;have hf1:=(Ea hy).1;obtain ⟨n1,n2,n3⟩:=AY (h.node f x hx);have hlk:=h.link f x y hx hy;rw[hw] at hlk n2 n3;obtain ⟨u,hu,hl,hlk⟩:=fitsL_cons.1 hlk;rw[Bb,MI hx hw];have hv:=n3 v (by simp);have get:∀ (i:Nat) (z:Node),(l.set f ⟨x.store,r⟩)[i]?=some z->(i=f/\z=⟨x.store,r⟩)\/(i≠f/\l[i]?=some z):=λi z hz=>by
  by_cases hi:f=i
  ·subst hi;rw[zcG hf] at hz;injection hz with hz;exact .inl ⟨rfl,hz.symm⟩
  ·rw[zcA hi] at hz;exact .inr ⟨λe=>hi e.symm,hz⟩
 refine zas (z:=y) (u:=u) (by simpa using h.pos) (by simpa using h.le) (λi z hz=>?_) (λi z w hz hw' hne=>?_) (λi z hz hi=>?_) (by rw[zcA (by omega)];exact hy) hv hr hu hl (λi z hz hi=>?_)
 ·rcases get i z hz with ⟨_,rfl⟩ | ⟨_,g⟩
  ·unfold DT;simp only;simp only[zdA] at n2;rw[n1,decide_eq_true (by omega),zcJ,zcJ,zcK];exact λw hw=>n3 w (by simp[hw])
  ·exact h.node i z g
 ·rcases get i z hz with ⟨rfl,_⟩ | ⟨_,g⟩
  ·exact absurd rfl hne
  ·rcases get (i+1) w hw' with ⟨e,rfl⟩ | ⟨_,g2⟩
   ·rw[e] at hw';exact h.link i z x g (by rw[e];exact hx)
   ·exact h.link i z w g g2
 ·rw[zc6] at hi;rcases get i z hz with ⟨rfl,_⟩ | ⟨_,g⟩
  ·omega
  ·exact h.last i z g hi
 ·rcases get i z hz with ⟨_,rfl⟩ | ⟨g,_⟩
  ·exact hlk
  ·omega
end


variable {l:List Tag}{p:Place}{k:Int}{s:ByteArray}{T:Type}{K:V->Heap->Option T}
def AQ (p:Place) (l:List Tag):Int:=Fq (ER l) p.clock+1
def DU (p:Place) (k:Int) (s:ByteArray) (g:Bool) (l:List Tag):Ver:=⟨k,⟨AQ p l,p.me⟩,l,s,g⟩
def HB (p:Place) (l:List Tag):Bool:=Bs l (AR p.chain)&&(DI p.chain 0&&(decide (AQ p l<=999)&&decide ((p.log.length:Int)<36)))
def A6 (p:Place) (k:Int) (s:ByteArray) (g:Bool) (l:List Tag):Bool:=Ah k 0 3&&(Gy s&&((!g || Iz s)&&(BE l&&HB p l)))
def Ee (p:Place) (k:Int) (s:ByteArray) (g:Bool) (l:List Tag):Place×Tag:=bif As p then (bif A6 p k s g l then (BF (EW p 0 (AQ p l) (DU p k s g l)),⟨AQ p l,p.me⟩) else (p,⟨0,0⟩)) else (zbC,⟨0,0⟩)
theorem newer_lt_iff {a c x:Int}:Fq a c<x<->a<x/\c<x:=by unfold Fq;split<;>omega
theorem zaV {A B:Int} (h:∀ x,A<x<->B<x):A=B:=by have h1:=(h (A+1)).1 (by omega);have h2:=(h (B+1)).2 (by omega);omega
theorem Yp {c:Int} (hc:0<=c):l.foldl (λm t=>if t.time>m then t.time else m) c=Fq (ER l) c:=by
 refine zaV λx=>?_;rw[newer_lt_iff,latest_lt,QV];constructor
 ·rintro ⟨h1,h2⟩;exact ⟨⟨by omega,h2⟩,h1⟩
 ·rintro ⟨⟨_,h2⟩,h1⟩;exact ⟨h1,h2⟩
theorem Yv (h:BE l=true):0<=ER l/\ER l<=999:=by
 have h1:ER l<1000:=latest_lt.2 ⟨by omega,λt ht=>by
  simp only[BE,CA,zcK] at h;have:=GS (h.2 t ht);omega⟩
 have h2:¬ ER l<0:=λh=>by have:=(latest_lt.1 h).1;omega
 omega
theorem KZ (hp:As p=true) (h:BE l=true):1<=AQ p l/\AQ p l<=1000/\ER l<AQ p l/\p.clock<AQ p l:=by have h1:=Yv h;have h2:=(AI hp).2.1;unfold AQ Fq;split<;>omega
theorem Gl {g:Bool} (h:A6 p k s g l=true):(0<=k/\k<=3)/\Gy s=true/\(g=true->Iz s=true)/\BE l=true/\Bs l (AR p.chain)=true/\DI p.chain 0=true/\AQ p l<=999/\p.log.length<36:=by unfold A6 HB at h;simp only[CA,zdh,decide_eq_true_eq,Ah,zdd] at h;obtain ⟨h1,h2,h3,h4,h5,h6,h7,h8⟩:=h;exact ⟨h1,h2,λhg=>h3.resolve_left (by rw[hg];simp),h4,h5,h6,h7,by omega⟩
theorem O6 {g:Bool} (hp:As p=true) (h:A6 p k s g l=true):thin (DU p k s g l):=by obtain ⟨h1,h2,h3,h4,h5,h6,h7,h8⟩:=Gl h;have g1:=CV h4;have g2:=Gb h2;have g3:=KZ hp h4;have g4:=(AI hp).1;refine ⟨by show l.length<=4;omega,by show s.size<=8;omega,?_⟩;show B5 (AQ p l) p.me=true;unfold B5 Ah;rw[decide_eq_true g3.1,decide_eq_true h7,decide_eq_true g4.1,decide_eq_true g4.2];simp
theorem zao {lo lo' e R bytes q:Nat}{a:Pq}{xs:List (List V)}{h:Heap}:Dd lo e R bytes (.sl q a 0 (some 0)) xs h K=Dd lo' e R bytes (.sl q a 0 (some 0)) xs h K:=by
 cases xs with
 | nil=>rfl
 | cons x xs =>
  cases a with
  | none=>rfl
  | some p =>
   obtain ⟨b,i⟩:=p;simp only[Dd];have:Nat.ble (0+(x :: xs).length) 0=false:=by rw[zdA,zcW];rfl
   rw[this]
section
variable {lo:Nat}{ro:Bool}{h:Heap}{F F' G:List Nat}{a a' av:Pq}{c c' cv:Nq}
theorem OW {a1 a2 a3:Pq}{c1 c2 c3:Nq} (hv:RTags ro h [.sl 2 av l.length cv] l G) (hok:As p=true) (hl:BE l=true) :
  Ai lo 205 [.agg (p.cs a1 c1 a2 c2 a3 c3),.agg [.sl 2 av l.length cv]] h=some (Iv (AQ p l),h):=by
 have h4:=CV hl;have hc:=(AI hok).2.1;refine R7 (h':=h) ?_;have loop:∀ m i x,m+i=4->(∀ y:Int,(l.drop i).foldl (λm t=>if t.time>m then t.time else m) x=y -> -9223372036854775808<=y+1/\y+1<=9223372036854775807)->CP (List.length h) x (i:Nat) av l.length cv h=some (Iv ((l.drop i).foldl (λm t=>if t.time>m then t.time else m) x+1),h):=by
  intro m;induction m with
  | zero =>intro i x hi hb;rw[zdk (by omega)] at hb ⊢;have:=hb x rfl;rw[CP.e,Aj (by omega),wr (by omega) (by omega)];rfl
  | succ m ih =>
   intro i x hi hb;have hil:i<l.length:=by omega
   obtain ⟨o,ha,ho⟩:=hv.get hil;have ho1:ld h o.1 (o.2+i) 0 1=some [Iv l[i].time]:=by obtain ⟨o',row,G',h1,h2,⟨rfl,_⟩,_⟩:=hv.read hil;rw[ha] at h1;injection h1 with h1;subst h1;rw[h2];rfl
   rw[zcM hil,zdr] at hb ⊢;rw[CP.e,Ak (by omega),Ae hil,ha,Ad,Bb,ho1,Ad,Aa,Ag,Ab,Ae hil,Ad,ho1,Ad,Aa,Ag,Ab,Ar (show i<9223372036854775807 by omega),<- ha];by_cases ht:l[i].time>x
   ·rw[if_pos ht] at hb ⊢;rw[Ak ht];exact ih (i+1) _ (by omega) hb
   ·rw[if_neg ht] at hb ⊢;rw[Aj ht];exact ih (i+1) _ (by omega) hb
 have hnf:∀ y,(l.drop 0).foldl (λm t=>if t.time>m then t.time else m) p.clock=y->y=Fq (ER l) p.clock:=λy hy=>by rw[<- hy,zdt,Yp hc.1]
 have hb:=KZ hok hl;have:=loop 4 0 p.clock rfl (λy hy=>by rw[hnf y hy];unfold AQ at hb;omega);rw[hnf _ rfl] at this;exact this
theorem V0 {a1 a2 a3:Pq}{c1 c2 c3:Nq}{F1:List Nat} (hs1:RNodes ro h [.sl 2 a1 p.chain.length c1] p.chain F1) (hv:RTags ro h [.sl 2 av l.length cv] l G) (hok:As p=true) (hl:BE l=true) (hn:Hp p) :
  Ai lo 184 [.agg (p.cs a1 c1 a2 c2 a3 c3),.agg [.sl 2 av l.length cv]] h=some (.bool (HB p l),h):=by
 have h0:=Dp hok;have hchain:=(AI hok).2.2.2.1;obtain ⟨v5,h5,F5,e5,r5,m5⟩:=LG (lo:=h.length) hs1 (zcz _) hn.1 h0;obtain ⟨a6,c6,e6,r6⟩:=r5.form;refine Uo (h':=h5) ?_;have en:=OW (lo:=h.length) (a1:=a1) (c1:=c1) (a2:=a2) (c2:=c2) (a3:=a3) (c3:=c3) (m5.keep0 rtags_ok hv) hok hl;simp only[Place.cs] at en;unfold HB;rw[e5,Ac,AO,Aa,e6,Ag,Jd (m5.keep0 rtags_ok hv) r6 (CV hl) (LU hchain),Ac,Ao];cases Bs l (AR p.chain) with
 | false=>rw[Av];rfl
 | true =>
 rw[Am,OX (m5.keep0 rnodes_ok hs1) h0,Ac,Ao];cases DI p.chain 0 with
 | false=>rw[Av];rfl
 | true =>
 rw[Am,en,Ac,Ab];cases decide (AQ p l<=999) with
 | false=>rw[Av];rfl
 | true =>
 rw[Am];cases decide ((p.log.length:Int)<36) with
 | false=>rw[Av];rfl
 | true=>rw[Am];rfl
theorem MD {g:Bool}{a1 a2 a3:Pq}{c1 c2 c3:Nq}{F1 F2 F3:List Nat} (hs1:RNodes false h [.sl 2 a1 p.chain.length c1] p.chain F1) (hs2:RVers false h [.sl 6 a2 p.log.length c2] p.log F2) (hs3:RVss false h [.sl 1 a3 p.got.length c3] p.got F3)
  (hv:RTags false h [.sl 2 av l.length cv] l G) (hok:As p=true) (hc:A6 p k s g l=true) (hnd:(F1++(F2++F3)).Nodup) (hlo:∀ b∈F1++(F2++F3),lo<=b) (hl:lo<=h.length) :
  ∃ a2' c2' h' F',Ai lo 185 [.agg (p.cs a1 c1 a2 c2 a3 c3),Iv k,.str s,.bool g,.agg [.sl 2 av l.length cv]] h=some (.tup [.agg ((BF (EW p 0 (AQ p l) (DU p k s g l))).cs a1 c1 a2' c2' a3 c3),.agg [Iv (AQ p l),Iv p.me]],h') /\
   Cy false h' ((BF (EW p 0 (AQ p l) (DU p k s g l))).cs a1 c1 a2' c2' a3 c3) (BF (EW p 0 (AQ p l) (DU p k s g l))) F'/\Mv h (F1++(F2++F3)) h' F':=by
 obtain ⟨g1,g2,g3,g4,g5,g6,g7,g8⟩:=Gl hc;have h0:=Dp hok;have hl4:=CV g4;have hti:=LS hok;obtain ⟨a5,c5,h5,F5,e5,r5,m5⟩:=Lo (lo:=h.length) (h:=h) (l:=l) (zcz _) (by omega);rw[<- zcO] at hnd hlo ⊢;have hnd':=hnd;rw[zcy] at hnd';have hdis:∀ y∈F3,y∉F1++F2:=λy hy hm=>hnd'.2.2 y hm y hy rfl;have hb12:∀ y∈F1++F2,y<h.length:=λy hy=>by rw[zcx] at hy;exact hy.elim (rnodes_ok.bd _ _ _ _ hs1 y) (rvers_ok.bd _ _ _ _ hs2 y)
 obtain ⟨h6,a6,c6,h7,F6,F7,e6,e7,r6,r7,m7⟩:=MF (lo:=lo) (v:=DU p k s g l) (k:=0) (t:=AQ p l) (a3:=a3) (c3:=c3) (m5.keep0 rnodes_ok hs1) (m5.keep0 rvers_ok hs2) r5 (λy hy hm=>by
  have:=m5.new y hy;have:=hb12 y (by simp[hm]);omega) hnd'.1 (λy hy=>hlo y (by rw[zcx];exact .inl hy)) (zcw hl m5.le) h0 g1 hti (O6 hok hc)
 have hcs:(EW p 0 (AQ p l) (DU p k s g l)).cs a1 c1 a2 c2 a3 c3 = [Iv p.me,Iv (AQ p l),.sl 2 a1 p.chain.length c1,.sl 6 a2 p.log.length c2,.sl 1 a3 p.got.length c3,.bool p.fell]:=by simp only[Place.cs,EW,Em]
 rw[hcs] at e7;have m5':Mv h (F1++F2) h5 (F1++F2):=(m5.drop.aside (G:=F1++F2) hnd'.1 hb12);have m8:=m5'.trans m7;have b3':∀ y∈F3,y<h.length:=rvss_ok.bd _ _ _ _ hs3;have m9:=m8.aside (G:=F3) hnd b3';have hs3':=m8.keep rvss_ok hs3 hdis;refine ⟨a6,c6,h7,F6++F7++F3,Rm ?_,⟨_,_,_,_,_,_,rfl,_,_,_,F6,F7,F3,rfl,by rw[zcO],r6,r7,hs3'⟩,m9⟩;have en:=OW (lo:=h.length) (a1:=a1) (c1:=c1) (a2:=a2) (c2:=c2) (a3:=a3) (c3:=c3) hv hok g4;simp only[Place.cs] at en;have e6':Ai lo 193 [.agg [.sl 2 a1 p.chain.length c1],Iv 0,.agg [Iv k,Iv (AQ p l),Iv p.me,.sl 2 a5 l.length c5,.str s,.bool g]] h5=some (.agg [.sl 2 a1 p.chain.length c1],h6):=e6;rw[en,Ac,Ab,RTags.rows (Mv.snoc.keep0 rtags_ok hv),zao (lo':=h.length),e5,Af,e6',Ac,AO,Aa,Af,Ag,e7,Ac,AO];simp only[Place.cs];rw[Aa,Ab,Aa,Ab,Aa,Af,Aa,Af,Aa,Af,Aa,AM,Ag]
end


variable {p:Place}{s:ByteArray}{l:List Tag}
theorem KM {k:Int}{g:Bool}:A6 p k s g l=(Hn ⟨k,⟨0,0⟩,l,s,g⟩&&HB p l):=by unfold A6 Hn;simp only[Bool.and_assoc]
theorem Mx {k:Int}{g:Bool} (h:As p=true):Ee p k s g l=bif A6 p k s g l then (BF (EW p 0 (AQ p l) (DU p k s g l)),⟨AQ p l,p.me⟩) else (p,⟨0,0⟩):=by unfold Ee;rw[h,cond_true]
section
variable {lo:Nat}{h:Heap}{F F' G:List Nat}{a a' av:Pq}{c c' cv:Nq}
end


variable {p:Place}
def HV (p:Place) (f:Nat) (at':Int) (v:Ver):Bool := !((f:Int)==p.me)&&((at'==((IZ p f).length:Int))&&(decide (((IZ p f).length:Int)<60) && !Cq (IZ p f) v.tag))
def D8 (p:Place) (f at':Int) (v:Ver):Bool:=Ah f 0 2&&(Ck v&&((v.tag.place==f)&&HV p f.toNat at' v))
def GG (p:Place) (f:Nat) (v:Ver):Place:=⟨p.me,p.clock,p.chain,p.log,p.got.set f (IZ p f ++ [v]),p.fell⟩
def Dk (p:Place) (f at':Int) (v:Ver):Place:=bif D8 p f at' v then GG p f.toNat v else p
theorem JI {a:Option (List V)}:Gf a a=true:=by unfold Gf;exact (@decide_eq_true_iff _ (_)).2 rfl
theorem Xx {f:Nat}{v:Ver}{a1 a2 a3:Pq}{c1 c2 c3:Nq}:(GG p f v).cs a1 c1 a2 c2 a3 c3=p.cs a1 c1 a2 c2 a3 c3:=by simp only[Place.cs,GG,zc6]
theorem YJ {h h':Heap}{b:Nat}{G1 G2 G3 G3':List Nat} (m:Mv h G3 h' G3') (hnd:(b ::(G1++(G2++G3))).Nodup) (hb:∀ y∈b ::(G1++(G2++G3)),y<h.length) :
  Mv h (b ::(G1++(G2++G3))) h' (b ::(G1++(G2++G3')))/\b∉G3/\(∀ y∈G1,y∉G3)/\∀ y∈G2,y∉G3:=by
 have hnd':=hnd;rw[zcE,zcy,zcx,zcx,zcy] at hnd';obtain ⟨n1,n2,⟨n3,n4,n5⟩,n6⟩:=hnd';simp only[not_or] at n1;have e:b ::(G1++(G2++G3))=(b ::(G1++G2))++G3:=by simp
 have e':b ::(G1++(G2++G3'))=(b ::(G1++G2))++G3':=by simp
 refine ⟨?_,n1.2.2,λy hy hm=>n6 y hy y (by simp[hm]) rfl,λy hy hm=>n5 y hy y hm rfl⟩;rw[e] at hnd hb ⊢;rw[e'];rw[zcy] at hnd;exact (m.aside (G:=b ::(G1++G2)) (by rw[zcy];exact ⟨hnd.2.1,hnd.1,λx hx y hy e=>hnd.2.2 y hy x hx e.symm⟩) λy hy=>hb y (by rw[zcx];exact .inl hy)).swap
section
variable {lo:Nat}{h:Heap}{F F' G:List Nat}{a a' av:Pq}{c c' cv:Nq}
theorem Tt {f:Nat}{at':Int}{v:Ver}{a1 a2 a3:Pq}{c1 c2 c3:Nq}{F3:List Nat} (hs3:RVss false h [.sl 1 a3 p.got.length c3] p.got F3) (hv:RTags false h [.sl 2 av v.past.length cv] v.past G)
  (hf:f<p.got.length) (hgn:p.got[f].length<=1000000) (hvn:v.past.length<=1048576) (hnd:F3.Nodup) (hlo:∀ b∈F3,lo<=b) (hl:lo<=h.length) :
  ∃ h' F3',Ai lo 168 [.agg (p.cs a1 c1 a2 c2 a3 c3),Iv (f:Nat),Iv at',.agg (v.cs av cv)] h=some (.tup [.agg (p.cs a1 c1 a2 c2 a3 c3),.bool (HV p f at' v)],h') /\
   RVss false h' [.sl 1 a3 p.got.length c3] (bif HV p f at' v then p.got.set f (p.got[f] ++ [v]) else p.got) F3'/\Mv h F3 h' F3'/\(HV p f at' v=false->h'=h):=by
 suffices hq:∃ h' F3',_=some (V.tup [.agg (p.cs a1 c1 a2 c2 a3 c3),.bool (HV p f at' v)],h')/\RVss false h' [.sl 1 a3 p.got.length c3] (bif HV p f at' v then p.got.set f (p.got[f] ++ [v]) else p.got) F3'/\Mv h F3 h' F3'/\(HV p f at' v=false->h'=h) from hq.imp λh' hq=>hq.imp λF' hq=>⟨R8 hq.1,hq.2⟩
 have hh:HV p f at' v=(!((f:Int)==p.me)&&((at'==(p.got[f].length:Int))&&(decide ((p.got[f].length:Int)<60) && !Cq p.got[f] v.tag))):=by unfold HV;rw[Hf hf]
 rw[hh];cases x1:((f:Int)==p.me) with
 | true=>rw[Am];exact ⟨h,F3,rfl,hs3,Mv.refl hnd,λ_=>rfl⟩
 | false =>
 obtain ⟨b,i,rs,row,G0,ha,hbF,hbG,hb,hrow,hel,hGF,hGn,_,put⟩:=hs3.at rvers_ok hf hnd hlo;have hrs:∃ s,row = [s]:=by obtain ⟨R',a',c',e,_⟩:=id hel;exact ⟨_,e⟩
 obtain ⟨s,rfl⟩:=hrs;obtain ⟨b3,d3,es,r3⟩:=hel.form;have hld:ld h b (i+f) 0 1=some [s]:=by rw[Bx hb hrow];rfl
 rw[Av,Ae hf,ha,Ad,Bb,hld,Ad,Aa,Ag,es];cases x2:(at'==(p.got[f].length:Int)) with
 | false=>rw[Av];exact ⟨h,F3,rfl,by rw[<- ha];exact hs3,Mv.refl hnd,λ_=>rfl⟩
 | true =>
 have hat:at'=(p.got[f].length:Int):=by rwa [beq_iff_eq] at x2
 rw[Am];cases x3:decide ((p.got[f].length:Int)<60) with
 | false =>
  have:(p.got[f].length:Int)>=60:=by have:=of_decide_eq_false x3;omega
  rw[Ak (by omega)];exact ⟨h,F3,rfl,by rw[<- ha];exact hs3,Mv.refl hnd,λ_=>rfl⟩
 | true =>
 have:(p.got[f].length:Int)<60:=of_decide_eq_true x3;rw[Aj (by omega),Ae hf,Ad,hld,Ad,Aa,Ag,es,LF r3 (by omega),Ac,Ao];have hht:Cq p.got[f] ⟨v.tag.time,v.tag.place⟩=Cq p.got[f] v.tag:=rfl;rw[hht];cases x4:Cq p.got[f] v.tag with
 | true=>rw[Am];exact ⟨h,F3,rfl,by rw[<- ha];exact hs3,Mv.refl hnd,λ_=>rfl⟩
 | false =>
 obtain ⟨a5,c5,h5,F5,e5,r5,m5⟩:=Ep (lo:=h.length) (v:=v) hv (zcz _) hvn;obtain ⟨a6,c6,h6,F6,e6,r6,m6⟩:=DC (lo:=lo) (bytes:=72) (e:=49) rver_ok r3 (row:=v.cs a5 c5) (x:=v) (G:=F5) (h1:=h5 ++ [.rows 6 49 false [v.cs a5 c5]])
  ⟨_,rfl,Mv.snoc.keep0 rtags_ok r5⟩ (m5.trans (Mv.snoc' m5.nd)) hGn (λy hy=>hlo y (hGF y hy)) hl (by decide) (by omega)
 rw[show p.got[f].length+1=(p.got[f] ++ [v]).length by simp] at r6;obtain ⟨h7,F7,e7,r7,m7,_⟩:=put h6 F6 0 [.sl 6 a6 (p.got[f] ++ [v]).length c6] [.sl 6 a6 (p.got[f] ++ [v]).length c6] (p.got[f] ++ [v]) m6 rfl r6;rw[show (p.got[f] ++ [v]).length=p.got[f].length+1 by simp] at e7;rw[Av,Ae hf,Ad,hld,Ad,Aa,Ag,es,e5,Ac,AO,Aa,Ab,Aa,Ab,Aa,Ab,Aa,Af,Aa,BH,Aa,AM,Ag,A9];simp only[Ver.cs] at e6;rw[e6,Af,Ae hf,Ad,e7,Ad];exact ⟨h7,F7,rfl,by rw[<- ha];exact r7,m7,λg=>by cases g⟩
end
end Go.Proofs.YtmdgiekbejjjgaaGreat
