/- Part 3 of what is shown for the law Gp, whatever the input; no condition of its own. -/
import Derived.Test.YtmgopagfoemomaaGreatBGp2
set_option linter.unusedVariables false
set_option linter.unusedSimpArgs false
set_option linter.unnecessarySimpa false
set_option maxRecDepth 100000
namespace Go.Proofs.YtmgopagfoemomaaGreat
open Go T


variable {l:List Tag}{α:Type}{El:Rel α}
section
variable {lo:Nat}{ro ro':Bool}{h:Heap}{F F':List Nat}{a a':Pq}{c c':Nq}
theorem Sli.rows {α:Type}{El:Rel α}{R e:Nat}{l:List α} (hs:Sli false R e El h [.sl R a l.length c] l F) :
  ∃ rows Fs,(∀ {T:Type} (K:List (List V)->Option T),As R h (.sl R a l.length c) K=K rows)/\EAll El h rows l Fs/\∀ b∈Fs.flatten,b∈F:=by
 obtain ⟨R1,a1,c1,e1,g⟩:=hs;injection e1 with e1 _;injection e1 with e0 e2 _ e3;subst e2;subst e3;cases a with
 | none =>obtain ⟨rfl,_,_⟩:=g;exact ⟨[],[],λK=>rfl,trivial,by simp⟩
 | some p =>
  obtain ⟨b,i⟩:=p;obtain ⟨_,rs,Fs,g1,g2,g3,g4,g5,rfl⟩:=g;refine ⟨_,Fs,λK=>?_,g5,λb hb=>zd8 _ hb⟩;simp only[As,LC,DA];cases hl:l.length with
  | zero=>simp
  | succ n =>rw[hl] at g2;simp only[EQ,Heap.rows?,g1,zdF,ER g2,Ae]
theorem RTags.rows {l:List Tag} (hs:RTags false h [.sl 2 a l.length c] l F) {T:Type} (K:List (List V)->Option T):As 2 h (.sl 2 a l.length c) K=K (l.map Tag.cs):=by obtain ⟨rows,Fs,h1,h2,_⟩:=Sli.rows hs;rw[h1,h2.of_flat.1]
theorem Sli.fresh {R e n:Nat}{rs:List (List V)} (hn:n<=rs.length):Sli false R e El (h ++ [.rows R e false rs]) [.sl R (some (h.length,0)) 0 (some n)] [] [h.length] :=
 ⟨R,some (h.length,0),some n,rfl,rfl,rs,[],by simp,by simp,λk hk=>by injection hk with hk;subst hk;simpa using hn,λh=>(by cases h),by simp[EAll],by simp⟩
theorem RH:(l.map λ_=>([]:List Nat)).flatten = []:=by induction l<;>simp_all
theorem LX (hl:lo<=h.length) (hn:l.length<=1048576):∃ a' c' h' F',(∀ {T:Type} (K:V->Heap->Option T),Dv lo 36 2 16 (.sl 2 (some (h.length,0)) 0 (some 0)) (l.map Tag.cs) (h ++ [.rows 2 36 false []]) K=K (.sl 2 a' l.length c') h') /\
  RTags false h' [.sl 2 a' l.length c'] l F'/\Mv h [] h' F':=by
 have h0:RTags false (h ++ [.rows 2 (zcK false) false []]) [.sl 2 (some (h.length,0)) 0 (some 0)] [] [h.length]:=Sli.fresh (zdj _);by_cases he:l = []
 ·subst he;exact ⟨some (h.length,0),some 0,_,_,λK=>rfl,h0,Mv.last⟩
 ·obtain ⟨a',c',h',F',p1,p2,p3,p4,p5,p6⟩:=Sli.push (lo:=lo) (bytes:=16) UM h0 (xs:=l.map Tag.cs) (ys:=l) (Gs:=l.map λ_ => []) EAll.flat (by decide) (by simp;omega) (by simp;omega) (by simp;omega) (by rw[RH];simp) (by rw[RH];simp) he;simp only[zet,zdR,zdO] at p1 p2;refine ⟨a',c',h',F',p1,p2,by simp at p3;omega,λb hb _=>?_,p6,λb hb=>?_⟩
  ·rw[p4 b (by simp;omega) (by simp;omega),zdl hb]
  ·simp at p3;rcases p5 b hb with h1 | h1
   ·rw[RH] at h1;simp at h1;exact .inr (by omega)
   ·simp at h1;exact .inr (by omega)
theorem Eo {v:Ver} (hs:RTags false h [.sl 2 a v.past.length c] v.past F) (hl:lo<=h.length) (hn:v.past.length<=1048576) :
  ∃ a' c' h' F',Af lo 187 [.agg (v.cs a c)] h=some (.agg (v.cs a' c'),h')/\RTags false h' [.sl 2 a' v.past.length c'] v.past F'/\Mv h [] h' F':=by
 obtain ⟨a',c',h',F',e,r⟩:=LX (l:=v.past) hl hn;refine ⟨a',c',h',F',S6 ?_,r⟩;rw[RTags.rows (Mv.snoc.keep0 rtags_ok hs),e,Ai]
theorem XG (hs:RTags false h [.sl 2 a l.length c] l F) (hl:lo<=h.length) (hn:l.length<=1048576) :
  ∃ v h' F',Af lo 230 [.sl 2 a l.length c] h=some (v,h')/\RTags false h' [v] l F'/\Mv h [] h' F':=by
 cases a with
 | none =>obtain ⟨R1,a1,c1,e1,g⟩:=hs;injection e1 with e1 _;injection e1 with e0 e2 _ e3;subst e2;subst e3;obtain ⟨rfl,_,_⟩:=g;exact ⟨_,h,[],D7 (by rw[show (none:Pq).isNone=true from rfl,Aq]),Sli.nil,Mv.nil⟩
 | some p =>obtain ⟨a',c',h',F',e,r⟩:=LX (l:=l) hl hn;refine ⟨_,h',F',D7 ?_,r⟩;rw[show (some p).isNone=false from rfl,Az,RTags.rows (Mv.snoc.keep0 rtags_ok hs),e,Ai]
theorem DL (hs:RTags false h [.sl 2 a l.length c] l F) (hl:lo<=h.length) (hn:l.length<=1048576) :
  ∃ a' c' h' F',Af lo 153 [.agg [.sl 2 a l.length c]] h=some (.agg [.sl 2 a' l.length c'],h')/\RTags false h' [.sl 2 a' l.length c'] l F'/\Mv h [] h' F':=by
 obtain ⟨v,h',F',e,r,m⟩:=XG hs hl hn;obtain ⟨a',c',es,r2⟩:=r.form;refine ⟨a',_,h',F',MS ?_,r2.clip,m⟩;rw[e];simp only[Ad,es];rw[Hd (r:=(.sl 2 a' l.length (some l.length),h')) (by rw[IK r2])];simp only[Ad,Ai]
theorem Bu {v:Ver} (hs:RTags false h [.sl 2 a v.past.length c] v.past F) (hl:lo<=h.length) (hn:v.past.length<=1048576) :
  ∃ a' c' h' F',Af lo 154 [.agg (v.cs a c)] h=some (.agg (v.cs a' c'),h')/\RTags false h' [.sl 2 a' v.past.length c'] v.past F'/\Mv h [] h' F':=by
 obtain ⟨a',c',h',F',e,r⟩:=DL hs hl hn;refine ⟨a',c',h',F',N4 ?_,r⟩;rw[e];simp only[Ad,AS,Aa,Ai,Ag]
theorem Ug {l:List Ver}{e0:Pq}{h0:Heap}{n0:Nq}{F0:List Nat}{T:Type} (L:Nat->Pq->Nat->Nq->Heap->Option T) (hs:RVers false h [.sl 6 a l.length c] l F) (hl:lo<=h.length) (hn:Es l)
  (m0:Mv h [] h0 F0) (h1:RVers false h0 [.sl 6 e0 0 n0] [] F0)
  (step:∀ i (hi:i<l.length) s a2 c2 a1 n1 c1 hh,(i=0->a1=e0/\c1=n0)->(∀ o,a=some o->ld hh o.1 (o.2+i) 0 6=some [Iv l[i].key,Iv l[i].tag.time,Iv l[i].tag.place,s,.str l[i].text,.bool l[i].gone])->(∃ o,a=some o) ->
   (∀ {R':Type} (K:Pq->Nat->Nq->Option R'),eS 2 s K=K a2 l[i].past.length c2)->(∃ G,RTags false hh [.sl 2 a2 l[i].past.length c2] l[i].past G)->lo<=hh.length ->
   ∃ a3 c3 h3 F3,RTags false h3 [.sl 2 a3 l[i].past.length c3] l[i].past F3/\Mv hh [] h3 F3 /\
    L i a1 n1 c1 hh=Dv lo 43 6 72 (.sl 6 a1 n1 c1) [l[i].cs a3 c3] (h3 ++ [.rows 6 43 false [l[i].cs a3 c3]]) λv h=>eS 6 v λa n c=>L (i+1) a n c h) :
  ∃ a' c' h' F',L 0 e0 0 n0 h0=L l.length a' l.length c' h'/\RVers false h' [.sl 6 a' l.length c'] l F'/\Mv h [] h' F':=by
 have hn1:=hn.1;obtain ⟨a',c',h',F',e,r,m⟩:=MH (El:=RVer false) rver_ok (h0:=h0) (l:=l) (g:=λ_ v=>some (id v)) (lo:=lo) (R:=6) (e:=Kc false) (bytes:=72) (b0 := []) (F0:=F0) (a0:=e0) (c0:=n0)
  (zdh hl m0.le) (m0.ge hl (by simp)) m0.nd (by decide) (by simp;omega) L (λi hi a1 c1 hh F1 acc hz hacc hm hr=>by
   have hm':Mv h [] hh []:=(m0.trans hm).drop;obtain ⟨o,s,a2,c2,G,ho,hld,es,hp,_⟩:=(hm'.keep0 rvers_ok hs).get hi;obtain ⟨a3,c3,h3,F3,r3,m3,e3⟩:=step i hi s a2 c2 a1 acc.length c1 hh hz (λo' ho'=>by rw[ho] at ho';injection ho' with ho';subst ho';exact hld) ⟨o,ho⟩ es ⟨G,hp⟩ (zdh hl hm'.le);exact .inr ⟨l[i],l[i].cs a3 c3,F3,_,rfl,⟨_,rfl,Mv.snoc.keep0 rtags_ok r3⟩,m3.trans (Mv.snoc' m3.nd),e3⟩) h1
 rw[NK,List.map_id,zdO] at e r;exact ⟨a',c',h',F',e,r,m0.trans m⟩
theorem Io {l:List Ver} (hs:RVers false h [.sl 6 a l.length c] l F) (hl:lo<=h.length) (hn:Es l) :
  ∃ a' c' h' F',Af lo 201 [.sl 6 a l.length c] h=some (.sl 6 a' l.length c',h')/\RVers false h' [.sl 6 a' l.length c'] l F'/\Mv h [] h' F':=by
 have hn1:=hn.1;obtain ⟨a',c',h',F',e,r,m⟩:=Ug (e0:=some (h.length,0)) (n0:=some l.length) (h0:=h ++ [.rows 6 (Kc false) false (List.replicate l.length [Iv 0,Iv 0,Iv 0,.sl 0 none 0 (some 0),.str ⟨⟨[]⟩⟩,.bool false])])
  (λi a1 n1 c1 hh=>AZ lo a1 n1 c1 a l.length c (l.length:Nat) (i:Nat) hh) hs hl hn Mv.last (Sli.fresh (by simp)) (λi hi s a2 c2 a1 n1 c1 hh hz hld ho es hp hlo=>by
   obtain ⟨o,rfl⟩:=ho;obtain ⟨G,hp⟩:=hp;obtain ⟨a3,c3,h3,F3,e3,r3,m3⟩:=Bu (lo:=lo) (v:=l[i]) hp hlo (hn.2 _ (zdf hi)).1;refine ⟨a3,c3,h3,F3,r3,m3,?_⟩;rw[AZ.e,Am (by omega),Ac hi];simp only[Ae,A7,hld o rfl,Aa,Ab,es,BO,AK,Ag];rw[e3];simp only[Ad,AS,Aa,Ab,Ai,BO,AK,Ag,AX,Au (show i<9223372036854775807 by omega)])
 refine ⟨a',c',h',F',JG ?_,r,m⟩;rw[GG (by omega)];refine e.trans ?_;rw[AZ.e,Aj (by omega)]
theorem Jy {l:List Ver} (hs:RVers false h [.sl 6 a l.length c] l F) (hl:lo<=h.length) (hn:Es l) :
  ∃ a' c' h' F',Af lo 209 [.agg [.sl 6 a l.length c]] h=some (.agg [.sl 6 a' l.length c'],h')/\RVers false h' [.sl 6 a' l.length c'] l F'/\Mv h [] h' F':=by
 obtain ⟨a',c',h',F',e,r⟩:=Io hs hl hn;refine ⟨a',c',h',F',L8 ?_,r⟩;rw[e];simp only[Ad,Ai]
theorem Oo {l:List Ver} (hs:RVers false h [.sl 6 a l.length c] l F) (hl:lo<=h.length) (hn:Es l) :
  ∃ v h' F',Af lo 196 [.agg [.sl 6 a l.length c]] h=some (.agg [v],h')/\RVers false h' [v] l F'/\Mv h [] h' F':=by
 have hn1:=hn.1;by_cases he:l = []
 ·subst he;exact ⟨_,h,[],Jm (by rw[Bl.e,Aj (by simp)]),Sli.nil,Mv.nil⟩
 have hpos:0<l.length:=List.length_pos_iff.2 he;obtain ⟨a',c',h',F',e,r,m⟩:=Ug (e0:=none) (n0:=some 0) (h0:=h)
  (λi a1 n1 c1 hh=>Bl lo (i:Nat) a l.length c 0 none 0 (some 0) (if i=0 then 0 else 6) a1 n1 c1 hh) hs hl hn Mv.nil Sli.nil (λi hi s a2 c2 a1 n1 c1 hh hz hld ho es hp hlo=>by
   obtain ⟨o,rfl⟩:=ho;obtain ⟨G,hp⟩:=hp;obtain ⟨a3,c3,h3,F3,e3,r3,m3⟩:=Eo (lo:=lo) (v:=l[i]) hp hlo (hn.2 _ (zdf hi)).1;refine ⟨a3,c3,h3,F3,r3,m3,?_⟩;rw[Bl.e,Am (by omega),Ac hi];simp only[Ae,A7,hld o rfl,Aa,Ab,es,BO,AK,Ag];rw[e3];simp only[Ad,AS,Aa,Ab,Ai,BO,AK,Ag,AX,Au (show i<9223372036854775807 by omega),if_neg (Nat.succ_ne_zero i)];by_cases h0:i=0
   ·obtain ⟨rfl,rfl⟩:=hz h0;rw[zcp]
   ·rw[if_neg h0])
 refine ⟨_,h',F',Jm ?_,r,m⟩;refine e.trans ?_;rw[if_neg (by omega),Bl.e,Aj (by omega)]
end


variable {l:List Ver}
def Us (v u:Ver):Bool:=v.key==u.key&&(v.tag.time==u.tag.time&&v.tag.place==u.tag.place)&&decide (v.past=u.past)&&(v.text.toList==u.text.toList)&&(v.gone==u.gone)
def LH (v:Ver):Bool:=v.key==0&&(v.tag.time==0&&v.tag.place==0)&&decide (v.past.length=0)&&JO v.text && !v.gone
def KY (i:Nat) (v:Ver):Bool:=LH v || (Da v&&v.key==i)
def Bv (l:List Ver):Bool:=(l.zipIdx.all λx=>KY x.2 x.1)&&decide (l.length=4)
theorem Cd (h:Bv l=true):l.length=4:=by simp only[Bv,DH,decide_eq_true_eq] at h;exact h.2
theorem D2 (h:Bv l=true) {i:Nat} (hi:i<l.length):KY i l[i]=true:=by simp only[Bv,DH,zdz] at h;have:=h.1 (l[i],i) (by rw[zek];simp[hi]);exact this
theorem WP {v:Ver} (h:Da v=true):0<v.tag.time:=by simp only[Da,DH,decide_eq_true_eq] at h;exact (latest_lt.1 h.2).1
section
variable {lo:Nat}{ro ro':Bool}{h:Heap}{F F':List Nat}{a a':Pq}{c c':Nq}
theorem RVers.all {n:Nat}{i:Nat} (hs:RVers ro h [.sl 6 a n c] l F) (hi:i<l.length):∃ o s a' c' G,a=some o/\ld h o.1 (o.2+i) 0 1=some [Iv l[i].key]/\ld h o.1 (o.2+i) 1 1=some [Iv l[i].tag.time] /\
  ld h o.1 (o.2+i) 2 1=some [Iv l[i].tag.place]/\ld h o.1 (o.2+i) 3 1=some [s]/\ld h o.1 (o.2+i) 4 1=some [.str l[i].text]/\ld h o.1 (o.2+i) 5 1=some [.bool l[i].gone]/\ld h o.1 (o.2+i) 1 2=some [Iv l[i].tag.time,Iv l[i].tag.place] /\
  ld h o.1 (o.2+i) 0 6=some [Iv l[i].key,Iv l[i].tag.time,Iv l[i].tag.place,s,.str l[i].text,.bool l[i].gone] /\
  (∀ {R':Type} (K:Pq->Nat->Nq->Option R'),eS 2 s K=K a' l[i].past.length c')/\RTags ro h [.sl 2 a' l[i].past.length c'] l[i].past G/\(∀ b∈G,b∈F):=by
 obtain ⟨o,row,G,h1,h2,hv,hG,_⟩:=hs.read hi;obtain ⟨s,a',c',rfl,es,hp⟩:=hv.form;exact ⟨o,s,a',c',G,h1,by rw[h2];rfl,by rw[h2];rfl,by rw[h2];rfl,by rw[h2];rfl,by rw[h2];rfl,by rw[h2];rfl,by rw[h2];rfl,by rw[h2];rfl,es,hp,hG⟩
end


variable {l:List Ver}{α:Type}{El:Rel α}
def CB (l:List Ver) (t:Tag):Bool:=l.any λv=>v.tag.time==t.time&&v.tag.place==t.place
section
variable {lo:Nat}{ro ro':Bool}{h:Heap}{F F':List Nat}{a a':Pq}{c c':Nq}
theorem Mm {g:Nat}{cl:List V}{p:Ver->Bool} (hs:RVers ro h [.sl 6 a l.length c] l F) (hn:l.length<=1048576)
  (hp:∀ lo v a c G,v∈l->RTags ro h [.sl 2 a v.past.length c] v.past G->Af lo g (Ea [.agg (v.cs a c)] cl) h=some (.bool (p v),h)) :
  Af lo 156 [.sl 6 a l.length c,.fn g cl] h=some (Iv (CG p l 0),h):=by
 have loop:∀ m k x,m+k=l.length->AF (List.length h) a l.length c g cl x (l.length:Nat) (k:Nat) h=some (Iv (CG p (l.drop k) k),h):=by
  intro m;induction m with
  | zero =>intro k x hk;rw[AF.e,Aj (by omega),show k=l.length by omega];simp[CG]
  | succ m ih =>
   intro k x hk;have hlt:k<l.length:=by omega
   obtain ⟨o,s,b,d,G,rfl,ho,es,hv,_⟩:=hs.get hlt;rw[AF.e,Am (by omega),Ac (by omega)];simp only[Ae,A7,ho,Aa,Ab,es,BO,AK,Ag];rw[hp (List.length h) l[k] b d G (zdf hlt) hv,Ad,Ax,zdw hlt];simp only[CG];cases p l[k]
   ·simp only[Az,cond_false];rw[Au (by omega)];exact ih (k+1) _ (by omega)
   ·simp
 refine FD (h':=h) ?_;exact loop l.length 0 0 (by omega)
theorem Pf {g:Nat}{cl:List V}{p:Ver->Bool} (hs:RVers ro h [.sl 6 a l.length c] l F) (hn:l.length<=1048576)
  (hp:∀ lo v a c G,v∈l->RTags ro h [.sl 2 a v.past.length c] v.past G->Af lo g (Ea [.agg (v.cs a c)] cl) h=some (.bool (p v),h)) :
  Af lo 80 [.sl 6 a l.length c,.fn g cl] h=some (.bool (l.any p),h) :=
 EW (h':=h) (by rw[Mm hs hn hp];simp only[Ad,Ab,Qw];rw[JB];simp)
theorem PK {t p:Int} (hs:RVers ro h [.sl 6 a l.length c] l F) (hn:l.length<=1048576) :
  Af lo 137 [.sl 6 a l.length c,.agg [Iv t,Iv p]] h=some (.bool (CB l ⟨t,p⟩),h):=by
 refine Tj (h':=h ++ [.rows 2 36 false [[Iv t,Iv p]]]) ?_;rw[Pf (p:=λv=>v.tag.time==t&&v.tag.place==p) (Mv.snoc.keep0 rvers_ok hs) hn (λlo v a c G _ _=>by
  refine Qi (h':=h ++ [.rows 2 36 false [[Iv t,Iv p]]]) ?_;have:ld (h ++ [.rows 2 36 false [[Iv t,Iv p]]]) h.length 0 0 2=some [Iv t,Iv p]:=by rw[UD (row := [Iv t,Iv p]) (by rfl)];rfl
  simp only[this,Ae,Aa,Ab,Ag,zeA];cases (v.tag.time==t&&v.tag.place==p)<;>rfl)]
 simp only[Ad,Ax];unfold CB;cases (l.any λv=>v.tag.time==t&&v.tag.place==p)<;>rfl
theorem Sli.pre {R R' e n i:Nat}{l:List α} (hs:Sli false R e El h [.sl R' a n c] l F) (hi:i<=l.length):∃ F',Sli false R e El h [.sl R' a i c] (l.take i) F':=by
 have hn:=hs.val;subst hn;obtain ⟨R1,a1,c1,e1,g⟩:=hs;injection e1 with e1 _;injection e1 with e0 e2 _ e3;subst e0;subst e2;subst e3;have hl:(l.take i).length=i:=by simp;omega
 cases a with
 | none =>obtain ⟨rfl,h2,_⟩:=g;exact ⟨[],R',none,c,by rw[hl],by simp,h2,rfl⟩
 | some p =>
  obtain ⟨b,j⟩:=p;obtain ⟨hR,rs,Fs,g1,g2,g3,g4,g5,rfl⟩:=g;refine ⟨b ::(Fs.take i).flatten,R',some (b,j),c,by rw[hl],hR,rs,Fs.take i,g1,by rw[hl];omega,λk hk=>?_,g4,?_,rfl⟩
  ·have:=g3 k hk;rw[hl];omega
  ·rw[hl];have:=g5.take i;rw[List.take_take,Nat.min_eq_left hi] at this;exact this
theorem VT {R R' e n i:Nat}{l:List α} (hs:Sli false R e El h [.sl R' a n c] l F) (hi:i<=l.length) {T:Type}{K:Pq->Nat->Nq->Option T} :
  Aw a n c none (some (Iv (i:Nat))) none K=K a i c:=by
 have hn:=hs.val;subst hn;obtain ⟨R1,a',c',h1,h2⟩:=hs;injection h1 with h1 _;injection h1 with e0 e1 e2 e3;subst e0;subst e1;subst e3;have hc:∀ k,c=some k->l.length<=k:=λk hk=>by
  cases a with
  | none=>obtain ⟨rfl,_⟩:=h2;simp
  | some p=>obtain ⟨b,i⟩:=p;obtain ⟨_,_,_,_,_,g3,_⟩:=h2;exact (g3 k hk).1
 unfold Aw Hf Kq La;cases c with
 | none=>simp only[Ab,A7];rw[DD ⟨by omega,by omega⟩]
 | some k=>have:=hc k rfl;simp only[Ab,A7];rw[DD ⟨by omega,by omega⟩]
def zan (place:Int) (l:List Ver) (i:Nat) (v:Ver):Bool:=Da v&&(v.tag.place==place) && !CB (l.take i) v.tag
def I7 (place:Int) (l:List Ver):Bool:=(l.zipIdx.all λx=>zan place l x.2 x.1)&&decide ((l.length:Int)<=60)
end


variable {l:List Node}
def Bi (l:List Ver):List Tag:=l.map λv=>v.tag
section
variable {lo:Nat}{ro ro':Bool}{h:Heap}{F F':List Nat}{a a':Pq}{c c':Nq}
theorem Pr {l:List Ver} (hs:RVers ro h [.sl 6 a l.length c] l F) (hl:lo<=h.length) (hn:l.length<=1048576) :
  ∃ v h' F',Af lo 114 [.agg [.sl 6 a l.length c]] h=some (.agg [v],h')/\RTags false h' [v] (Bi l) F'/\Mv h [] h' F':=by
 obtain ⟨q,a',c',h',F',e,r,m⟩:=I5 (El:=flat Tag.cs) DF (h:=h) (l:=l) (f:=λv=>v.tag) (lo:=lo) (R:=2) (e:=36) (bytes:=16) hl (by decide) (by omega)
  (λi q a1 n1 c1 hh=>Do lo (i:Nat) a l.length c 0 none 0 (some 0) q a1 n1 c1 hh) (λi hi q a1 n1 c1 hh hm=>by
   obtain ⟨o,s,b,d,G,ha,_,_,_,_,_,_,ho12,_⟩:=(hm.keep0 rvers_ok hs).all hi;refine ⟨[Iv l[i].tag.time,Iv l[i].tag.place],[],hh ++ [.rows 2 36 false [[Iv l[i].tag.time,Iv l[i].tag.place]]],⟨rfl,rfl⟩,Mv.snoc,?_⟩;rw[Do.e,Am (by omega),Ac hi];simp only[ha,Ae,A7,ho12,Aa,Ab,Ag,AX,Au (show i<9223372036854775807 by omega)])
 refine ⟨_,h',F',S5 ?_,r,m⟩;refine e.trans ?_;rw[Do.e,Aj (by omega)]
theorem OE {l:List Ver} (hs:RVers ro h [.sl 6 a l.length c] l F) (hl:lo<=h.length) (h4:l.length=4) :
  ∃ v h' F',Af lo 67 [.agg [.sl 6 a l.length c]] h=some (.agg [v],h')/\RTags false h' [v] (Bi l) F'/\Mv h [] h' F':=by
 obtain ⟨h',F',e,r,m⟩:=Ub (El:=flat Tag.cs) DF (h0:=h) (l:=l) (f:=λv=>v.tag) (lo:=lo) (R:=2) (e:=36) (z := [Iv 0,Iv 0]) rfl hl
  (λi hh=>Cb lo a l.length c (l.length:Nat) (i:Nat) 0 none 0 (some 0) (some (h.length,0)) 4 (some 4) hh) (λi hi hh hm=>by
   obtain ⟨o,s,b,d,G,rfl,ho,es,_,_⟩:=(hm.keep0 rvers_ok hs).get hi;refine ⟨[Iv l[i].tag.time,Iv l[i].tag.place],[],hh,⟨rfl,rfl⟩,Mv.nil,rfl,?_⟩;rw[Cb.e,Am (by omega),Ac hi];simp only[Ae,A7,ho,Aa,Ab,es,BO,AK,Ag,Ac (show i<4 by omega),zdR,Au (show i<9223372036854775807 by omega)])
 rw[h4] at r;refine ⟨_,h',F',N5 ?_,r,m⟩;rw[KW (r:=(.agg [.sl 2 (some (h.length,0)) 4 (some 4)],h ++ [.rows 2 36 false (List.replicate l.length [Iv 0,Iv 0])])) (by rw[h4];rfl)];simp only[Ad,AS,Aa,Ai,Ag];refine e.trans ?_;rw[Cb.e,Aj (by omega)]
def Bs (l:List Node):List Tag:=match l.getLast? with | some x=>Bi x.store | none => []
theorem I9 (h0:0<l.length):Bs l=Bi (l[l.length - 1]'(by omega)).store:=by unfold Bs;rw[List.getLast?_eq_getElem?,DZ (by omega)]
theorem Mf (hs:RNodes ro h [.sl 2 a l.length c] l F) (hl:lo<=h.length) (hn:De l) (h0:0<l.length) :
  ∃ v h' F',Af lo 47 [.agg [.sl 2 a l.length c]] h=some (.agg [v],h')/\RTags false h' [v] (Bs l) F'/\Mv h [] h' F':=by
 have hn1:=hn.1;obtain ⟨o,s1,s2,a1,c1,a2,c2,F1,F2,ha,_,ho1,_,e1,_,p1,_⟩:=hs.get (show l.length - 1<l.length by omega);obtain ⟨v,h',F',e,r,m⟩:=Pr (lo:=lo) p1 hl (hn.2 _ (zdf _)).1.1;obtain ⟨a',c',es,r'⟩:=r.form;rw[I9 h0];refine ⟨_,h',F',P3 ?_,r',m⟩;rw[wr (by omega) (by omega),DE ⟨by omega,by omega⟩,ha,Ae,show ((l.length:Int) - 1).toNat=l.length - 1 by omega,ho1];simp only[Ae,Aa,Ag,e1];rw[e];simp only[Ad,AS,Aa,es,Ag]
end


variable {s:ByteArray}
abbrev tx (l:List UInt8):ByteArray:=⟨⟨l⟩⟩
theorem ZR (s:ByteArray):tx s.data.toList=s:=rfl
theorem Bx {v:Ver} (h:Da v=true):(0<=v.key/\v.key<=3)/\In v.text=true/\(v.gone=true->v.text.size=0)/\Ck v.past=true/\CY v.tag.time v.tag.place=true/\E3 v.past<v.tag.time:=by
 simp only[Da,HR,Ah,DH,decide_eq_true_eq,zd5,zdV,JO] at h;obtain ⟨⟨⟨⟨⟨⟨h1,h2⟩,h3⟩,h4⟩,h5⟩,h6⟩,h7⟩:=h;refine ⟨⟨h1,h2⟩,h3,λhg=>?_,h5,h6,h7⟩;rcases h4 with h4 | h4
 ·rw[hg] at h4;cases h4
 ·exact h4
theorem Uk {t:ByteArray} (h:s.data.toList=t.data.toList):s=t:=by rw[<- ZR s,<- ZR t,h]
theorem ZJ (h:s.size=0):s.data.toList = []:=zdp (by simpa using h)
theorem same_iff {v u:Ver}:Us v u=true<->v=u:=by
 cases v with | mk k1 t1 p1 s1 g1=>cases u with | mk k2 t2 p2 s2 g2 =>
 cases t1;cases t2;simp only[Us,DH,beq_iff_eq,decide_eq_true_eq,Ver.mk.injEq,Tag.mk.injEq];constructor
 ·rintro ⟨⟨⟨⟨h1,h2⟩,h3⟩,h4⟩,h5⟩
  exact ⟨h1,h2,h3,Uk (by rwa [zeM,zeM] at h4),h5⟩
 ·rintro ⟨h1,h2,h3,h4,h5⟩
  exact ⟨⟨⟨⟨h1,h2⟩,h3⟩,by rw[h4]⟩,h5⟩
section
variable {lo:Nat}{ro ro':Bool}{h:Heap}{F F':List Nat}{a a':Pq}{c c':Nq}
theorem K0 (h:In s=true):s.size<=8:=by simp only[In,DH,decide_eq_true_eq] at h;omega
end


variable {l:List Ver}{v:Ver}
theorem Sli.at {α:Type}{El:Rel α} (ok:El.Ok) {h:Heap}{R R' e n k lo:Nat}{a:Pq}{c:Nq}{l:List α}{F:List Nat} (hs:Sli false R e El h [.sl R' a n c] l F) (hk:k<l.length) (hnd:F.Nodup) (hlo:∀ b∈F,lo<=b) :
  ∃ b i rs row G,a=some (b,i)/\b∈F/\b∉G/\h[b]?=some (.rows R e false rs)/\rs[i+k]?=some row/\El h row l[k] G/\(∀ y∈G,y∈F)/\G.Nodup /\
   (∀ h' x' G',Mv h G h' G'->El h' row x' G'->∃ F',Sli false R e El h' [.sl R' a n c] (l.set k x') F'/\Mv h F h' F') /\
   (∀ h1 G1 j cs row' x',Mv h G h1 G1->paste row j cs=some row'->El h1 row' x' G1 ->
    ∃ h2 F',st lo h1 b (i+k) j cs=some h2/\Sli false R e El h2 [.sl R' a n c] (l.set k x') F'/\Mv h F h2 F'/\h2[b]?=some (.rows R e false (rs.set (i+k) row'))/\(∀ y,y≠b->h2[y]?=h1[y]?)/\h2.length=h1.length):=by
 have hbd:=(Sli.ok ok).bd _ _ _ _ hs;obtain ⟨b,i,rs,row,G,ha,hbF,hbG,hb,hrow,hel,hGF,hGn,put⟩:=hs.put ok.fr hk hnd;have hblt:b<h.length:=hbd b hbF;refine ⟨b,i,rs,row,G,ha,hbF,hbG,hb,hrow,hel,hGF,hGn,λh' x' G' m hx=>?_,λh1 G1 j cs row' x' m hp hx=>?_⟩
 ·obtain ⟨F',p1,p2,p3,_⟩:=put h' row x' G' (by rw[set_same hrow,m.fr b hblt hbG];exact hb) (λy hy _ hyG=>m.fr y (hbd y hy) hyG) hx m.nd (λy hy hyF=>by
   rcases m.sub y hy with h1 | h1
   ·exact h1
   ·have:=hbd y hyF;omega)
  refine ⟨F',p1,m.le,λy hy hyF=>m.fr y hy λhg=>hyF (hGF y hg),p3,λy hy=>?_⟩;rcases p2 y hy with h1 | h1
  ·exact .inl h1.1
  ·exact (m.sub y h1).imp (hGF y) id
 ·have hbG1:b∉G1:=λhm=>by
   rcases m.sub b hm with h1 | h1
   ·exact hbG h1
   ·omega
  have hb1:h1[b]?=some (.rows R e false rs):=by rw[m.fr b hblt hbG];exact hb
  have hb1lt:b<h1.length:=zdq hblt m.le;have e2:=Bt hb1 (hlo b hbF) hrow hp;have fr2:∀ y,y≠b->(h1.set b (.rows R e false (rs.set (i+k) row')))[y]?=h1[y]?:=λy hy=>zdi (Ne.symm hy);obtain ⟨F',p1,p2,p3,_⟩:=put (h1.set b (.rows R e false (rs.set (i+k) row'))) row' x' G1 (by simp[hb1lt]) (λy hy hyb hyG=>by rw[fr2 y hyb];exact m.fr y (hbd y hy) hyG)
   (ok.fr _ _ _ _ _ hx λy hy=>fr2 y λe=>hbG1 (e ▸ hy)) m.nd (λy hy hyF=>by
   rcases m.sub y hy with h1 | h1
   ·exact h1
   ·have:=hbd y hyF;omega)
  refine ⟨_,F',e2,p1,⟨by simpa using m.le,λy hy hyF=>?_,p3,λy hy=>?_⟩,by simp[hb1lt],fr2,by simp⟩
  ·rw[fr2 y λe=>hyF (e ▸ hbF)];exact m.fr y hy λhg=>hyF (hGF y hg)
  ·rcases p2 y hy with h1 | h1
   ·exact .inl h1.1
   ·refine (m.sub y h1).imp (hGF y) λh=>by simpa using h
def AU (v u:Ver):Bool:=Hb v.tag.time v.tag.place u.tag.time u.tag.place
def QV (s t:List Ver):Bool:=decide (s.length=t.length)&&(s.zip t).all λx=>Us x.1 x.2
theorem Ur {s t:List Ver}:QV s t=true<->s=t:=by
 unfold QV;rw[DH,decide_eq_true_eq,zdz];constructor
 ·rintro ⟨hl,hx⟩
  apply List.ext_getElem hl;intro i h1 h2;have:=hx (s[i],t[i]) (by rw[zea];exact ⟨i,by simp;omega,by simp⟩);exact same_iff.1 this
 ·rintro rfl
  refine ⟨rfl,λx hx=>?_⟩;obtain ⟨i,hi,rfl⟩:=zea.1 hx;simp[same_iff]
def GQ (l:List Ver) (v:Ver):List Ver:=match l[v.key.toNat]? with
 | some x=>bif AU x v then l.set v.key.toNat v else l
 | none=>l
theorem R6 (h:v.key.toNat<l.length):GQ l v=bif AU l[v.key.toNat] v then l.set v.key.toNat v else l:=by unfold GQ;rw[DZ h]
theorem X6:(GQ l v).length=l.length:=by
 unfold GQ;split
 ·cases AU _ v<;>simp
 ·rfl
theorem ZP (h:Da v=true):KY v.key.toNat v=true:=by have:=(Bx h).1;unfold KY;rw[h,show (v.key==((v.key.toNat:Nat):Int))=true by rw[beq_iff_eq];omega];simp
theorem VB (hl:Bv l=true) (hv:Da v=true):Bv (l.set v.key.toNat v)=true:=by
 have h4:=Cd hl;unfold Bv;rw[DH,zdz,decide_eq_true_eq];refine ⟨λx hx=>?_,by simpa using h4⟩;rw[zek] at hx;have hi:=(DY hx).1;rw[List.getElem?_set] at hx;split at hx
 ·rename_i he
  split at hx
  ·injection hx with hx;rw[<- hx,<- he];exact ZP hv
  ·cases hx
 ·rw[DZ (by simpa using hi)] at hx;injection hx with hx;rw[<- hx];exact D2 hl _
def Gp:List Ver->List Ver->Option (List Ver)
 | s,[]=>some s
 | s,v :: r=>match s[v.key.toNat]? with
  | some x=>bif AU x v then Gp (s.set v.key.toNat v) r else none
  | none=>none
def fits (x:Node) (next:List Ver):Bool:=match Gp next x.wait with
 | some s=>QV s x.store
 | none=>false
def Fv (x:Node):Bool:=Bv x.store&&decide ((x.wait.length:Int)<=6)&&x.wait.all Da
def Ms (l:List Node) (k:Nat) (x:Node):Bool:=match l[k+1]? with
 | some y=>fits x y.store
 | none=>decide (x.wait.length=0)
def GO (l:List Node):Bool:=Ah l.length 1 4&&l.all Fv&&l.zipIdx.all λx=>Ms l x.2 x.1
theorem Bo {x:Node} (h:Fv x=true):Bv x.store=true/\x.wait.length<=6/\∀ v∈x.wait,Da v=true:=by simp only[Fv,DH,decide_eq_true_eq,zdz] at h;exact ⟨h.1.1,by have:=h.1.2;omega,h.2⟩
section
variable {lo:Nat}{h:Heap}{F F':List Nat}{a a':Pq}{c c':Nq}
theorem Ru {ro:Bool}{ca:Pq}{cc:Nq}{n:Nat} (hs:RVers ro h [.sl 6 a l.length c] l F) (hk:0<=v.key/\v.key<l.length) :
  Af lo 210 [.agg [.sl 6 a l.length c],.agg [Iv v.key,Iv v.tag.time,Iv v.tag.place,.sl 2 ca n cc,.str v.text,.bool v.gone]] h=some (.bool (AU (l[v.key.toNat]'(by omega)) v),h):=by
 refine MO (h':=h) ?_;obtain ⟨o,s,b,d,G,ha,_,_,_,_,_,_,ho12,_⟩:=hs.all (show v.key.toNat<l.length by omega);rw[DE ⟨by omega,by omega⟩,ha];simp only[Ae,ho12,Aa,Ab,Ag,Ew,Ad,Ax];unfold AU;cases Hb _ _ _ _<;>rfl
theorem W0 {av:Pq}{cv:Nq}{G:List Nat} (hs:RVers false h [.sl 6 a l.length c] l F) (hv:RTags false h [.sl 2 av v.past.length cv] v.past G)
  (hnd:F.Nodup) (hlo:∀ b∈F,lo<=b) (hl:lo<=h.length) (hk:0<=v.key/\v.key<l.length) (hn:v.past.length<=1048576) :
  ∃ h' F',Af lo 198 [.agg [.sl 6 a l.length c],.agg (v.cs av cv)] h=some (.agg [.sl 6 a l.length c],h')/\RVers false h' [.sl 6 a l.length c] (GQ l v) F'/\Mv h F h' F':=by
 have hkl:v.key.toNat<l.length:=by omega
 obtain ⟨o,s,b,d,G1,ha,_,_,_,_,_,_,ho12,_⟩:=hs.all hkl;suffices hk:∃ h' F',_=some (V.agg [.sl 6 a l.length c],h')/\RVers false h' [.sl 6 a l.length c] (GQ l v) F'/\Mv h F h' F' from hk.imp λh' hk=>hk.imp λF' hk=>⟨Vj hk.1,hk.2⟩
 rw[DE ⟨by omega,by omega⟩];simp only[ha,Ae,ho12,Aa,Ab,Ag,Ce,Ad,Ax];rw[R6 hkl];show ∃ h' F',br (AU l[v.key.toNat] v) _ _=_/\_;cases hle:AU l[v.key.toNat] v with
 | false=>exact ⟨h,F,rfl,by rw[<- ha];exact hs,Mv.refl hnd⟩
 | true =>
  obtain ⟨b2,i2,rs,row,G2,ha2,hb2,hbG2,hbb,hrow,hel,hGF,hGn,_,wr⟩:=hs.at rver_ok hkl hnd hlo;obtain ⟨a3,c3,h3,F3,e3,r3,m3⟩:=Eo (lo:=lo) (v:=v) hv hl hn;have hab:o=(b2,i2):=by rw[ha] at ha2;injection ha2
  subst hab;obtain ⟨h4,F4,e4,r4,m4,_⟩:=wr h3 F3 0 (v.cs a3 c3) (v.cs a3 c3) v (m3.wide (by simp)) (Gk (by obtain ⟨s,rfl,_⟩:=hel;rfl)) ⟨_,rfl,r3⟩;rw[Aq,e3];simp only[Ad,AS,Aa,Ab,Ai,BO,AK,Ag];rw[DE ⟨by omega,by omega⟩,e4];exact ⟨h4,F4,rfl,by rw[<- ha];exact r4,m4⟩
end


variable {l:List Ver}{v:Ver}
theorem Sli.row {α:Type}{El:Rel α} (hfr:El.Fr) {R R' e n k lo b i:Nat} (hln:El.Ln R) {h:Heap}{c:Nq}{l:List α}{G Gx:List Nat}{row:List V}{x:α} (hs:Sli false R e El h [.sl R' (some (b,i)) n c] l (b :: G)) (hb:b∉G) (hk:k<l.length) (hlo:lo<=b)
  (hx:El h row x Gx) (hbx:b∉Gx):∃ h' G',st lo h b (i+k) 0 row=some h'/\Sli false R e El h' [.sl R' (some (b,i)) n c] (l.set k x) (b :: G')/\b∉G'/\h'.length=h.length/\∀ y,y≠b->h'[y]?=h[y]?:=by
 have hn:=hs.val;subst hn;obtain ⟨R1,a1,c1,e1,e2⟩:=hs;injection e1 with e1 _;injection e1 with e0 e3 _ e4;subst e0;subst e3;subst e4;obtain ⟨hR,rs,Fs,g1,g2,g3,g4,g5,g6⟩:=e2;injection g6 with _ g6;subst g6;obtain ⟨row0,G0,k1,k2,k3⟩:=g5.get (DZ hk);have hblt:b<h.length:=(DY g1).1;have hrow:rs[i+k]?=some row0:=by rw[zey hk,zdG] at k1;exact k1
 have hp:paste row0 0 row=some row:=Gk (by rw[hln _ _ _ _ k3,hln _ _ _ _ hx]);have fr2:∀ y,y≠b->(h.set b (.rows R e false (rs.set (i+k) row)))[y]?=h[y]?:=λy hy=>zdi (Ne.symm hy);have hl1:((rs.set (i+k) row).drop i).take l.length=((rs.drop i).take l.length).set k row:=by rw[List.drop_set,if_neg (by omega),show i+k - i=k by omega,List.take_set]
 refine ⟨_,(Fs.set k Gx).flatten,Bt g1 hlo hrow hp,⟨R',some (b,i),c,by simp,hR,rs.set (i+k) row,Fs.set k Gx,by simp[hblt],by simpa using g2,λq hq=>by simpa using g3 q hq,g4,?_,rfl⟩,λhm=>?_,by simp,fr2⟩
 ·rw[zdM,hl1];exact EAll.set (g5.fr hfr λy hy=>fr2 y λe=>hb (e ▸ hy)) (hfr _ _ _ _ _ hx λy hy=>fr2 y λe=>hbx (e ▸ hy))
 ·rcases EG hm with h6 | h6
  ·exact hb h6
  ·exact hbx h6
theorem MW (h:LH v=true):v=⟨0,⟨0,0⟩,[],⟨⟨[]⟩⟩,false⟩:=by obtain ⟨k,⟨t1,t2⟩,p,s,g⟩:=v;simp only[LH,JO,DH,beq_iff_eq,decide_eq_true_eq,zdV] at h;obtain ⟨⟨⟨⟨h1,h2,h3⟩,h4⟩,h5⟩,h6⟩:=h;simp only[Ver.mk.injEq,Tag.mk.injEq];exact ⟨h1,⟨h2,h3⟩,zdp h4,Uk (by rw[ZJ h5]),h6⟩
theorem D8 {i:Nat} (h:KY i v=true):LH v=true\/(Da v=true/\v.key=i):=by simp only[KY,zd5,DH,beq_iff_eq] at h;exact h
theorem Ge (h:LH v=true):v.tag.time=0/\v.tag.place=0:=by rw[MW h];exact ⟨rfl,rfl⟩
theorem QR {l':List Ver} (h:Es l) (hl:l'.length<=1048576) (hs:∀ v∈l',v∈l):Es l':=⟨hl,λv hv=>h.2 v (hs v hv)⟩
theorem Kp (h:Bv l=true):Es l:=by
 refine ⟨by have:=Cd h;omega,λv hv=>?_⟩;obtain ⟨i,hi,rfl⟩:=zea.1 hv;rcases D8 (D2 h hi) with h1 | ⟨h1,_⟩
 ·rw[MW h1];exact ⟨by simp,by show 0<=_;omega⟩
 ·obtain ⟨_,h2,_,h3,_⟩:=Bx h1;have:=K0 h2;have:=D9 h3;omega
section
variable {lo:Nat}{h:Heap}{F F':List Nat}{a a':Pq}{c c':Nq}
theorem KD {n:Int}:Af lo 132 [Iv n] h=some (.bool (Ah n 1 4),h):=Ss (h':=h) (by simp[Bk])
theorem T2 {n k:Nat} (hn:n<=1048576):Af lo 135 [.agg [.sl 2 a n c],Iv (k:Nat)] h=some (.bool (decide (k+1=n)),h):=by
 refine Oc (h':=h) ?_;rw[wr (by omega) (by omega)];by_cases hk:k+1=n
 ·rw[show ((k:Int)==(n:Int) - 1)=true by rw[beq_iff_eq];omega,decide_eq_true hk];rfl
 ·rw[show ((k:Int)==(n:Int) - 1)=false by rw[beq_eq_false_iff_ne];omega,decide_eq_false hk];rfl
end


variable {l:List Node}
theorem DJ (h:GO l=true):(1<=l.length/\l.length<=4)/\∀ x∈l,Fv x=true:=by simp only[GO,Ah,DH,decide_eq_true_eq,zdz] at h;exact ⟨⟨by omega,by omega⟩,h.1.2⟩
theorem U3 (h:GO l=true) {i:Nat} (hi:i<l.length):Ms l i l[i]=true:=by simp only[GO,DH,zdz] at h;exact h.2 (l[i],i) (by rw[zek];simp[hi])
theorem Ji {α:Type}{p:Nat->α->Bool}{l:List α}:(l.zipIdx.all λx=>p x.2 x.1)=true<->∀ i (hi:i<l.length),p i l[i]=true:=by
 rw[zdz];constructor
 ·intro h i hi;exact h (l[i],i) (by rw[zek];simp[hi])
 ·rintro h ⟨x,i⟩ hx
  rw[zek] at hx;obtain ⟨hi,hx⟩:=DY hx;have:=h i hi;simp only at hx;rw[hx] at this;exact this
theorem zcj {α:Type}{p:α->Bool}{l:List α}:l.all p=true<->∀ i (hi:i<l.length),p l[i]=true:=by rw[zdz];exact ⟨λh i hi=>h _ (zdf hi),λh x hx=>by obtain ⟨i,hi,rfl⟩:=zea.1 hx;exact h i hi⟩
section
variable {lo:Nat}{h:Heap}{F F':List Nat}{a a':Pq}{c c':Nq}
end


def Q5 (st:List Tag) (x:Node):Bool:=(x.store.all λv => !decide (v.tag.time>0) || CD v.past st)&&x.wait.all λv=>CD v.past st
def Ly (l:List Node):Bool:=l.all (Q5 (Bs l))
def Hp (l:List Node) (clock:Int):Bool:=match l[0]? with
 | some x=>x.store.all λv=>decide (v.tag.time<=clock)
 | none=>false
def RF (me:Int) (i:Nat) (l:List Ver):Bool:=I7 i l&&(!((i:Int)==me) || decide (l.length=0))
def Av (p:Place):Bool:=Ah p.me 0 2&&Ah p.clock 0 999&&decide (p.got.length=3)&&GO p.chain&&Ly p.chain&&I7 p.me p.log&&(p.got.zipIdx.all λx=>RF p.me x.2 x.1)&&Hp p.chain p.clock
theorem QJ {l:List Node} (h:GO l=true):(Bs l).length=4:=by obtain ⟨h1,h2⟩:=DJ h;rw[I9 (by omega)];simp only[Bi,zez];exact Cd (Bo (h2 _ (zdf _))).1
theorem CA {h:Heap}{b i j n R e:Nat}{ro:Bool}{rs:List (List V)}{row:List V} (hb:h[b]?=some (.rows R e ro rs)) (hi:rs[i]?=some row):ld h b i j n=cut row j n:=by simp[ld,Heap.rows?,hb,hi]
section
variable {lo:Nat}{h:Heap}{F F':List Nat}{a a':Pq}{c c':Nq}
end


section
variable {lo:Nat}{h:Heap}{F F':List Nat}{a a':Pq}{c c':Nq}
theorem J9 {b i j:Nat}{l:List Node} (hld:ld h b i j 1=some [.sl 2 a l.length c]) (hs:RNodes false h [.sl 2 a l.length c] l F) (h0:0<l.length) (hn:l.length<=1048576) :
  ∃ a' c' G,Af lo 66 [.ptr (some (b,i,j))] h=some (.agg [.sl 6 a' (l[l.length - 1]'(by omega)).store.length c'],h)/\RVers false h [.sl 6 a' (l[l.length - 1]'(by omega)).store.length c'] (l[l.length - 1]'(by omega)).store G/\∀ y∈G,y∈F:=by
 obtain ⟨o,s1,s2,b1,d1,b2,d2,G1,G2,ha,ho,ho1,ho2,e1,e2,q1,q2,q3,_⟩:=hs.get (show l.length - 1<l.length by omega);refine ⟨b1,d1,G1,Oa ?_,q1,q3⟩;simp only[zdY,hld,Ae,Aa,Ai,Ag];rw[wr (by omega) (by omega),DE ⟨by omega,by omega⟩,show ((l.length:Int) - 1).toNat=l.length - 1 by omega];simp only[ha,Ae,ho1,Aa,e1,Ag]
end


variable {α:Type}{El:Rel α}
section
variable {h h' h'':Heap}{F F' F'' G:List Nat}
theorem Mv.keepB {cs:List V}{x:α} (a:Mv h F h' F') (ok:El.Ok) (he:El h cs x G) {m:Nat} (hG:∀ b∈G,b<m) (hF:∀ b∈F,m<=b):El h' cs x G :=
 a.keep ok he λb hb hm=>by have:=hG b hb;have:=hF b hm;omega
theorem Mv.keepA {cs:List V}{x:α} (a:Mv h F h' F') (ok:El.Ok) (he:El h cs x G) {m:Nat} (hG:∀ b∈G,m<=b) (hF:∀ b∈F,b<m):El h' cs x G :=
 a.keep ok he λb hb hm=>by have:=hG b hb;have:=hF b hm;omega
theorem Mv.inv (a:Mv h [] h' F'):∀ b∈F',h.length<=b/\b<h'.length:=λb hb=>by
 rcases a.sub b hb with h1 | h1
 ·simp at h1
 ·exact h1
end
theorem Ws {β:Type}{Ra Rx:Rel α}{Rr:Rel β} (okA:Ra.Ok) (okX:Rx.Ok) (okR:Rr.Ok) {h:Heap}{a0:List V}{x:α}{y y':β}{F0:List Nat} (ha:Ra h a0 x F0) {TO TO':Heap->List V->Heap->Prop}{SP IM:List V->Heap->List V->Heap->Prop}{MX MR:List V->Heap->Heap->Prop}
  (hto:∀ hh F,h.length<=hh.length->Ra hh a0 x F->∃ cs h' F',TO hh cs h'/\Rx h' cs x F'/\Mv hh [] h' F')
  (hto':∀ hh F,h.length<=hh.length->Ra hh a0 x F->∃ cs h' F',TO' hh cs h'/\Rx h' cs x F'/\Mv hh [] h' F')
  (hsp:∀ cs hh F,h.length<=hh.length->Rx hh cs x F->F.Nodup->(∀ b∈F,h.length<=b)->∃ r h' F',SP cs hh r h'/\Rr h' r y F'/\Mv hh [] h' F')
  (him:∀ cs hh F,h.length<=hh.length->Rx hh cs x F->F.Nodup->(∀ b∈F,h.length<=b)->∃ r h' F',IM cs hh r h'/\Rr h' r y F'/\Mv hh [] h' F')
  (hmx:∀ cs hh F,Rx hh cs x F->F.Nodup->(∀ b∈F,h.length<=b)->∃ h',MX cs hh h'/\Mv hh F h' F)
  (hmr:∀ cs hh F,Rr hh cs y F->F.Nodup->(∀ b∈F,h.length<=b)->∃ h',MR cs hh h'/\Rr h' cs y' F/\Mv hh F h' F) :
  ∃ c1 h1 w h2 c3 h3 g h4 c5 h5 h6 h7 c8 h8 g9 h9,TO h c1 h1/\SP c1 h1 w h2/\TO h2 c3 h3/\IM c3 h3 g h4/\TO' h4 c5 h5/\MX c3 h5 h6/\MR g h6 h7/\TO h7 c8 h8/\IM c8 h8 g9 h9 /\
   ((∃ F,Rx h1 c1 x F)/\(∃ F,Rx h3 c3 x F)/\(∃ F,Rx h8 c8 x F))/\((∃ F,Rr h2 w y F)/\(∃ F,Rr h4 g y F)/\(∃ F,Rr h4 w y F))/\((∀ hm,Mv h4 [] hm []->∃ F,Rx hm c3 x F)/\(∃ F,Rx h5 c3 x F)/\(∃ F,Rx h5 c5 x F))/\((∃ F,Rr h6 g y F)/\(∃ F,Rr h6 w y F)) /\
   (∃ F,Rr h7 g y' F)/\((∃ F,Rr h9 g9 y F)/\(∃ F,Rr h9 w y F))/\(∃ F,Rr h9 g y' F):=by
 obtain ⟨c1,h1,X1,t1,x1,m1⟩:=hto h F0 (zdj _) ha;have b1:=m1.inv;obtain ⟨w,h2,W,s2,w2,m2⟩:=hsp c1 h1 X1 m1.le x1 m1.nd (λb hb=>(b1 b hb).1);have b2:=m2.inv;have l1:=m1.le;have l2:=m2.le;have a2:=m2.keep0 okA (m1.keep0 okA ha);obtain ⟨c3,h3,X3,t3,x3,m3⟩:=hto h2 F0 (by omega) a2;have b3:=m3.inv;have l3:=m3.le;obtain ⟨g,h4,G,i4,g4,m4⟩:=him c3 h3 X3 (by omega) x3 m3.nd (λb hb=>by have:=b3 b hb;omega);have b4:=m4.inv;have l4:=m4.le;have w4:=m4.keep0 okR (m3.keep0 okR w2);have x4:=m4.keep0 okX x3;have a4:=m4.keep0 okA (m3.keep0 okA a2);obtain ⟨c5,h5,X5,t5,x5,m5⟩:=hto' h4 F0 (by omega) a4;have l5:=m5.le;have w5:=m5.keep0 okR w4;have g5:=m5.keep0 okR g4;have x35:=m5.keep0 okX x4;have a5:=m5.keep0 okA a4;have bA:=okA.bd _ _ _ _ ha;obtain ⟨h6,p6,m6⟩:=hmx c3 h5 X3 x35 m3.nd (λb hb=>by have:=b3 b hb;omega);have w6:=m6.keepB okR w5 (m:=h2.length) (λb hb=>(b2 b hb).2) (λb hb=>(b3 b hb).1);have g6:=m6.keepA okR g5 (m:=h3.length) (λb hb=>(b4 b hb).1) (λb hb=>(b3 b hb).2);have a6:=m6.keepB okA a5 (m:=h.length) bA (λb hb=>by have:=b3 b hb;omega);obtain ⟨h7,p7,g7,m7⟩:=hmr g h6 G g6 m4.nd (λb hb=>by have:=b4 b hb;omega);have w7:=m7.keepB okR w6 (m:=h2.length) (λb hb=>(b2 b hb).2) (λb hb=>by have:=b4 b hb;omega);have a7:=m7.keepB okA a6 (m:=h.length) bA (λb hb=>by have:=b4 b hb;omega);have l6:=m6.le;have l7:=m7.le;obtain ⟨c8,h8,X8,t8,x8,m8⟩:=hto h7 F0 (by omega) a7;have b8:=m8.inv;have l8:=m8.le;obtain ⟨g9,h9,G9,i9,r9,m9⟩:=him c8 h8 X8 (by omega) x8 m8.nd (λb hb=>by have:=b8 b hb;omega);exact ⟨c1,h1,w,h2,c3,h3,g,h4,c5,h5,h6,h7,c8,h8,g9,h9,t1,s2,t3,i4,t5,p6,p7,t8,i9,⟨⟨_,x1⟩,⟨_,x3⟩,⟨_,x8⟩⟩,⟨⟨_,w2⟩,⟨_,g4⟩,⟨_,w4⟩⟩,⟨λhm mm=>⟨_,mm.keep0 okX x4⟩,⟨_,x35⟩,⟨_,x5⟩⟩,⟨⟨_,g6⟩,⟨_,w6⟩⟩,⟨_,g7⟩,
  ⟨⟨_,r9⟩,⟨_,m9.keep0 okR (m8.keep0 okR w7)⟩⟩,⟨_,m9.keep0 okR (m8.keep0 okR g7)⟩⟩


variable {n t:Nat}{xs:List V}
section
variable {h:Heap}
theorem YT {fs:Array Field} (hu:Tryz.prog.underlying t=some (.struct fs)) (hx:TV Tryz.prog h (n+1) t xs):TVs Tryz.prog (TV Tryz.prog h n) fs.toList xs:=by simp only[TV,hu] at hx;exact hx
theorem QD (hu:Tryz.prog.underlying t=some (.int .i64)) (hx:TV Tryz.prog h (n+1) t xs):∃ i:Int,xs = [Iv i] /\ -9223372036854775808<=i/\i<=9223372036854775807:=by
 simp only[TV,hu] at hx;obtain ⟨i,h1,h2⟩:=hx;refine ⟨i,h1,?_⟩;have e1:IntKind.i64.min = -9223372036854775808:=by decide
 have e2:IntKind.i64.max=9223372036854775807:=by decide
 simp only[Lit.wf,DH,decide_eq_true_eq] at h2;omega
theorem zcr (hu:Tryz.prog.underlying t=some .string) (hx:TV Tryz.prog h (n+1) t xs):∃ s:ByteArray,xs = [.str s]/\s.size<=maxLen:=by simp only[TV,hu] at hx;exact hx
theorem zbj (hu:Tryz.prog.underlying t=some .bool) (hx:TV Tryz.prog h (n+1) t xs):∃ b:Bool,xs = [.bool b]:=by simp only[TV,hu] at hx;exact hx
theorem zcs {α:Type}{El:Rel α}{bd:α->Prop}{e ee R:Nat} (hu:Tryz.prog.underlying t=some (.slice e)) (hR:Tryz.prog.cellsOf e=R) (hel:∀ row,TV Tryz.prog h n e row->∃ x F,El h row x F/\bd x) (hx:TV Tryz.prog h (n+1) t xs) :
  ∃ l F,Sli true R ee El h xs l F/\l.length<=maxLen/\∀ x∈l,bd x:=by
 simp only[TV,hu] at hx;obtain ⟨a,c,rs,rfl,⟨h2,_⟩,h3,h4⟩:=hx;have all:∀ rs:List (List V),(∀ row∈rs,TV Tryz.prog h n e row)->∃ l Fs,EAll El h rs l Fs/\l.length=rs.length/\∀ x∈l,bd x:=by
  intro rs;induction rs with
  | nil=>intro _;exact ⟨[],[],trivial,rfl,by simp⟩
  | cons r rs ih =>
   intro hr;obtain ⟨l,Fs,g1,g2,g3⟩:=ih λrow hrow=>hr row (by simp[hrow]);obtain ⟨x,F,g4,g5⟩:=hel r (hr r (by simp));exact ⟨x :: l,F :: Fs,⟨g4,g1⟩,by simp[g2],λy hy=>by
    rcases zdm.1 hy with rfl | hy
    ·exact g5
    ·exact g3 y hy⟩
 obtain ⟨l,Fs,g1,g2,g3⟩:=all rs λrow hr=>(h3 row hr).2
 rcases h4 with rfl | ⟨b,rfl,hb⟩
 ·have:l = []:=zdp (by simpa using g2);subst this;exact ⟨[],[],⟨R,a,c,by rw[hR];rfl,rfl,.inl ⟨rfl,rfl⟩⟩,zd4 _,by simp⟩
 ·refine ⟨l,b :: Fs.flatten,⟨R,some (b,0),c,by rw[hR,g2],rfl,.inr ⟨b,0,rs,Fs,rfl,hb,by omega,?_,rfl⟩⟩,by omega,g3⟩;rw[zeg,zdP (by omega)];exact g1
theorem zbb {x:V} (hx:ArgV Tryz.prog h (n+1) 3 x):∃ i:Int,x = Iv i /\ -9223372036854775808<=i/\i<=9223372036854775807:=by obtain ⟨i,hi,hb⟩:=QD Tryz.underlying3 (by unfold ArgV at hx;rw[Tryz.underlying3] at hx;exact hx);injection hi with hi _;exact ⟨i,hi,hb⟩
end


def B7 (ro:Bool):Rel Place:=λh cs p F=>∃ a1 c1 a2 c2 a3 c3,cs=p.cs a1 c1 a2 c2 a3 c3/\RPlace ro h cs p F
theorem IY {ro:Bool}:(B7 ro).Ok :=
 ⟨λh h' cs p F ⟨a1,c1,a2,c2,a3,c3,e,hp⟩ hb=>⟨a1,c1,a2,c2,a3,c3,e,rplace_ok.fr _ _ _ _ _ hp hb⟩,λh cs p F ⟨_,_,_,_,_,_,_,hp⟩=>rplace_ok.bd _ _ _ _ hp⟩
theorem Z4 {α:Type}{El:Rel α}{R e:Nat}{h:Heap}{v:V}{l:List α}{F:List Nat} (hs:Sli true R e El h [v] l F):∃ a c,v = .sl R a l.length c:=by obtain ⟨R',a,c,e1,rfl,_⟩:=hs;injection e1 with e1 _;exact ⟨a,c,e1⟩
theorem UC:∀ {l:List Tag},Bj C0 l=2*l.length
 | []=>rfl
 | t :: l=>by
  have h1:=UC (l:=l);have h2:Bj C0 (t :: l)=2+Bj C0 l:=by simp only[Bj,zeq,zeO]
  rw[h2,h1,zd7];omega
theorem YW {s:Nat} (h:¬ MU 1048576 s<0):s<=1048576:=by unfold MU at h;split at h<;>omega
abbrev Vt:Ver:=⟨0,⟨0,0⟩,[],⟨⟨[]⟩⟩,false⟩
abbrev zcq:Place:=⟨0,0,[],[],[],false⟩
section
variable {lo:Nat}{h:Heap}{F F':List Nat}{a a':Pq}{c c':Nq}
end


variable {l:List Node}
theorem Mv.swap {h h':Heap}{A B A' B':List Nat} (m:Mv h (A++B) h' (A'++B')):Mv h (B++A) h' (B'++A'):=by
 refine ⟨m.le,λb hb hn=>m.fr b hb λhm=>hn ?_,?_,λb hb=>?_⟩
 ·rw[zde] at hm ⊢;exact hm.symm
 ·have:=m.nd;rw[zdg] at this ⊢;exact ⟨this.2.1,this.1,λx hx y hy e=>this.2.2 y hy x hx e.symm⟩
 ·rw[zde] at hb;refine (m.sub b (by rw[zde];exact hb.symm)).imp (λh=>?_) id;rw[zde] at h ⊢;exact h.symm
theorem DN {α:Type}{El:Rel α} (ok:El.Ok) {h0 h1:Heap}{lo R e n bytes:Nat}{a:Pq}{c:Nq}{l:List α}{F:List Nat}{row:List V}{x:α}{G:List Nat} (hs:Sli false R e El h0 [.sl R a n c] l F) (hx:El h1 row x G) (m:Mv h0 [] h1 G)
  (hnd:F.Nodup) (hlo:∀ b∈F,lo<=b) (hl:lo<=h0.length) (hb:0<bytes) (hsz:(l.length+1)*bytes<=140737488355328) :
  ∃ a' c' h2 F',(∀ {T:Type} (K:V->Heap->Option T),Dv lo e R bytes (.sl R a n c) [row] h1 K=K (.sl R a' (l.length+1) c') h2)/\Sli false R e El h2 [.sl R a' (l.length+1) c'] (l ++ [x]) F'/\Mv h0 F h2 F':=by
 have hbd:=(Sli.ok ok).bd _ _ _ _ hs;have hs1:=m.keep0 (Sli.ok ok) hs;have hGb:=m.lt (by simp);obtain ⟨a',c',h2,F',p1,p2,p3,p4,p5,p6⟩:=Sli.push (lo:=lo) (bytes:=bytes) ok.fr hs1 (xs := [row]) (ys := [x]) (Gs := [G]) ⟨hx,trivial⟩ hb hsz hlo (zdh hl m.le)
  (by
   rw[zdg];refine ⟨hnd,by simpa using m.nd,λy hy z hz=>?_⟩
   rintro rfl
   have g1:=hbd y hy;have g2:=m.new y (by simpa using hz);omega)
  (λb hb'=>by
   have g1:=m.le;rw[zde] at hb';rcases hb' with hb' | hb'
   ·have:=hbd b hb';omega
   ·exact hGb b (by simpa using hb')) (by simp)
 refine ⟨a',c',h2,F',p1,p2,zdh m.le p3,λb hb' hF=>?_,p6,λb hb'=>?_⟩
 ·rw[p4 b (zdq hb' m.le) hF,m.fr b hb' (by simp)]
 ·have g1:=m.le;rcases p5 b hb' with g | g
  ·rw[zde] at g;rcases g with g | g
   ·exact .inl g
   ·have g2:=m.new b (by simpa using g);have g3:=hGb b (by simpa using g);exact .inr (by omega)
  ·exact .inr (by omega)
def Jw (l:List Node):List Node:=match l.getLast? with
 | some x=>l ++ [⟨x.store,[]⟩]
 | none=>l
def Eg (l:List Node):Bool:=decide ((l.length:Int)<4)
def IG (l:List Node):List Node:=bif Eg l then Jw l else l
theorem Gm (h0:0<l.length):Jw l=l ++ [⟨(l[l.length - 1]'(by omega)).store,[]⟩]:=by unfold Jw;rw[List.getLast?_eq_getElem?,DZ (by omega)]
section
variable {lo:Nat}{h:Heap}{F F':List Nat}{a a':Pq}{c c':Nq}
theorem Lx {l:List Ver}{n:Nat} (hs:RVers false h [.sl 6 a n c] l F):Af lo 205 [.sl 6 a n c] h=some (.sl 6 a n (some n),h):=Hc (by rw[IK hs])
theorem Uh {n:Nat} (hs:RNodes false h [.sl 2 a n c] l F):Af lo 280 [.sl 2 a n c] h=some (.sl 2 a n (some n),h):=Gy (by rw[IK hs])
theorem VH (hs:RNodes false h [.sl 2 a l.length c] l F) (h0:0<l.length) (hn:De l) (hnd:F.Nodup) (hlo:∀ b∈F,lo<=b) (hl:lo<=h.length) :
  ∃ a' c' h' F',Af lo 257 [.agg [.sl 2 a l.length c]] h=some (.agg [.sl 2 a' (l.length+1) c'],h')/\RNodes false h' [.sl 2 a' (l.length+1) c'] (Jw l) F'/\Mv h F h' F':=by
 have hn1:=hn.1;obtain ⟨o,s1,s2,b1,d1,b2,d2,G1,G2,ha,ho,ho1,ho2,e1,e2,q1,q2,_⟩:=hs.get (show l.length - 1<l.length by omega);obtain ⟨v3,h3,F3,e3,r3,m3⟩:=Oo (lo:=lo) q1 hl (hn.2 _ (zdf _)).1;obtain ⟨a4,c4,es4,r4⟩:=r3.form;obtain ⟨a5,c5,h5,F5,e5,r5,m5⟩:=DN (lo:=lo) (bytes:=48) (e:=47) rnode_ok hs (row := [.sl 6 a4 (l[l.length - 1]'(by omega)).store.length c4,.sl 0 none 0 (some 0)]) (x:=⟨(l[l.length - 1]'(by omega)).store,[]⟩) (G:=F3) (h1:=h3 ++ [.rows 2 47 false [[.sl 6 a4 (l[l.length - 1]'(by omega)).store.length c4,.sl 0 none 0 (some 0)]]])
  ⟨_,_,F3,[],rfl,by simp,Mv.snoc.keep0 rvers_ok r4,Sli.nil⟩ (m3.trans (Mv.snoc' m3.nd)) hnd hlo hl (by decide) (by omega)
 refine ⟨a5,c5,h5,F5,S3 ?_,by rw[Gm h0];exact r5,m5⟩;rw[wr (by omega) (by omega),DE ⟨by omega,by omega⟩,show ((l.length:Int) - 1).toNat=l.length - 1 by omega];simp only[ha,Ae,ho1,Aa,e1,Ag];rw[e3];simp only[Ad,AS,Aa,es4,Ag,AX];rw[<- ha,e5];simp only[Ai]
theorem Zm {b i j R e:Nat}{rs:List (List V)}{row:List V} (hb:h[b]?=some (.rows R e false rs)) (hrow:rs[i]?=some row) (hcell:row[j]?=some (.sl 2 a l.length c)) (hs:RNodes false h [.sl 2 a l.length c] l F) (h0:0<l.length) (hn:De l)
  (hnd:(b :: F).Nodup) (hlo:∀ y∈b :: F,lo<=y) (hl:lo<=h.length) :
  ∃ a' n' c' h' F',Af lo 224 [.ptr (some (b,i,j))] h=some (.bool (Eg l),h')/\h'[b]?=some (.rows R e false (rs.set i (row.set j (.sl 2 a' n' c'))))/\RNodes false h' [.sl 2 a' n' c'] (IG l) F'/\Mv h (b :: F) h' (b :: F'):=by
 have hn1:=hn.1;have hblt:b<h.length:=(DY hb).1;have hld:ld h b i j 1=some [.sl 2 a l.length c]:=by rw[CA hb hrow];exact JD hcell
 unfold IG Eg;by_cases h4:(l.length:Int)<4
 ·obtain ⟨at',ct,Gt,et,rt,_⟩:=J9 (lo:=h.length) hld hs h0 hn1;obtain ⟨a3,c3,h3,F3,e3,r3,m3⟩:=Jy (lo:=h.length) rt (zdj _) (hn.2 _ (zdf _)).1;rw[zdn] at hnd;obtain ⟨a5,c5,h5,F5,e5,r5,m5⟩:=DN (lo:=lo) (bytes:=48) (e:=47) rnode_ok hs (row := [.sl 6 a3 (l[l.length - 1]'(by omega)).store.length c3,.sl 0 none 0 (some 0)]) (x:=⟨(l[l.length - 1]'(by omega)).store,[]⟩) (G:=F3) (h1:=h3 ++ [.rows 2 47 false [[.sl 6 a3 (l[l.length - 1]'(by omega)).store.length c3,.sl 0 none 0 (some 0)]]])
   ⟨_,_,F3,[],rfl,by simp,Mv.snoc.keep0 rvers_ok r3,Sli.nil⟩ (m3.trans (Mv.snoc' m3.nd)) hnd.2 (λy hy=>hlo y (by simp[hy])) hl (by decide) (by omega)
  have hb5:h5[b]?=some (.rows R e false rs):=by rw[m5.fr b hblt hnd.1];exact hb
  have hbF5:b∉F5:=λhm=>by
   rcases m5.sub b hm with g | g
   ·exact hnd.1 g
   ·omega
  have hb5lt:b<h5.length:=zdq hblt m5.le;have hjl:j<row.length:=(DY hcell).1;have e6:=Bt hb5 (hlo b (by simp)) hrow (EM (v := .sl 2 a5 (l.length+1) (some (l.length+1))) hjl);refine ⟨a5,l.length+1,some (l.length+1),h5.set b (.rows R e false (rs.set i (row.set j (.sl 2 a5 (l.length+1) (some (l.length+1)))))),F5,JJ ?_,by simp[hb5lt],?_,?_⟩
  ·simp only[zdY,hld,Ae,Aa,Ag,Ai];rw[Aj (by omega),et];simp only[Ad,AS,Aa,Ai,Ag];rw[e3];simp only[Ad,AS,Aa,Ai,Ag,AX];rw[e5];simp only[Ai];rw[Uh r5];simp only[Ad,Ai];rw[e6];simp only[Ae,decide_eq_true h4]
  ·rw[decide_eq_true h4,cond_true,Gm h0];exact rnodes_ok.fr _ _ _ _ _ r5.clip λy hy=>zdi (show b≠y from λe=>hbF5 (by rw[e];exact hy))
  ·refine ⟨by simpa using m5.le,λy hy hF=>?_,by rw[zdn];exact ⟨hbF5,m5.nd⟩,λy hy=>?_⟩
   ·rw[zdm,not_or] at hF;rw[zdi (Ne.symm hF.1)];exact m5.fr y hy hF.2
   ·rw[zdm] at hy;rcases hy with rfl | hy
    ·exact .inl (by simp)
    ·refine (m5.sub y hy).imp (λg=>by simp[g]) λg=>by simpa using g
 ·refine ⟨a,l.length,c,h,F,JJ ?_,?_,?_,Mv.refl hnd⟩
  ·simp only[zdY,hld,Ae,Aa,Ag,Ai];rw[Am (by omega),decide_eq_false h4]
  ·rw[set_same hcell,set_same hrow];exact hb
  ·rw[decide_eq_false h4];exact hs
end


theorem GN:∀ {row:List V}{n:Nat},row.length=n->cut row 0 n=some row
 | [],0,_=>rfl
 | v :: r,n+1,h=>by have h1:=GN (row:=r) (n:=n) (by simpa using h);show (match cut r 0 n with | some l=>some (v :: l) | none=>none)=_;rw[h1]
def KR (p:Place):Place:=⟨p.me,p.clock,IG p.chain,p.log,p.got,p.fell⟩
theorem Dl {p:Place} (h:Av p=true):0<p.chain.length:=by unfold Av at h;simp only[DH] at h;have:=(DJ h.1.1.1.1.2).1;omega
theorem KI {b:Bool}{h:Heap}:br b (some (V.bool true,h)) (some (V.bool false,h))=some (V.bool b,h):=by cases b<;>rfl
section
variable {lo:Nat}{h:Heap}{F F':List Nat}{a a':Pq}{c c':Nq}
end


def GR (l:List Node) (k:Nat) (v:Ver):List Node:=match l[k]? with
 | some x=>match x.store[v.key.toNat]? with
  | some u=>bif AU u v then l.set k ⟨x.store.set v.key.toNat v,bif decide (k+1<l.length) then x.wait ++ [v] else x.wait⟩ else l
  | none=>l
 | none=>l
theorem WI {l:List Node}{k:Nat}{v:Ver} (hk:k<l.length) (hv:v.key.toNat<l[k].store.length) :
  GR l k v=bif AU l[k].store[v.key.toNat] v then l.set k ⟨l[k].store.set v.key.toNat v,bif decide (k+1<l.length) then l[k].wait ++ [v] else l[k].wait⟩ else l:=by
 unfold GR;rw[DZ hk];simp only;rw[DZ hv]
section
variable {lo:Nat}{h h3:Heap}{F F' G:List Nat}{a a' av:Pq}{c c' cv:Nq}{n k:Nat}{l:List Node}{v:Ver}
theorem TD (hs:RNodes false h [.sl 2 a n c] l F) (hk:k<l.length) (hnd:F.Nodup) (hlo:∀ b∈F,lo<=b) (hl:lo<=h.length) (hw:l[k].wait.length<=1048576) (hv:RTags false h3 [.sl 2 av v.past.length cv] v.past G) (m3:Mv h [] h3 G) :
  ∃ b i t2 a2 c2 a5 c5 h5,a=some (b,i)/\ld h b (i+k) 1 1=some [t2]/\(∀ {T:Type} (K:Pq->Nat->Nq->Option T),eS 6 t2 K=K a2 l[k].wait.length c2) /\
   (∀ {T:Type} (K:V->Heap->Option T),Dv lo 43 6 72 (.sl 6 a2 l[k].wait.length c2) [v.cs av cv] (h3 ++ [.rows 6 43 false [v.cs av cv]]) K=K (.sl 6 a5 (l[k].wait.length+1) c5) h5) /\
   (∃ F5,RVers false h5 [.sl 6 a5 (l[k].wait.length+1) c5] (l[k].wait ++ [v]) F5) /\
   ∀ c6,(c6=c5\/c6=some (l[k].wait.length+1))->∃ h6 F6,st lo h5 b (i+k) 1 [.sl 6 a5 (l[k].wait.length+1) c6]=some h6/\RNodes false h6 [.sl 2 a n c] (l.set k ⟨l[k].store,l[k].wait ++ [v]⟩) F6/\Mv h F h6 F6:=by
 obtain ⟨b,i,rs,row,G0,ha,hbF,hbG,hb,hrow,hel,hGF,hGn,_,put⟩:=hs.at rnode_ok hk hnd hlo;obtain ⟨t1,t2,F1,F2,rfl,rfl,r1,r2⟩:=hel;obtain ⟨a2,c2,e2,r2'⟩:=r2.form;rw[zdg] at hGn;obtain ⟨a5,c5,h5,F5,e5,r5,m5⟩:=DN (lo:=lo) (bytes:=72) (e:=43) rver_ok r2' (row:=v.cs av cv) (x:=v) (G:=G) (h1:=h3 ++ [.rows 6 43 false [v.cs av cv]])
  ⟨_,rfl,Mv.snoc.keep0 rtags_ok hv⟩ (m3.trans (Mv.snoc' m3.nd)) hGn.2.1 (λy hy=>hlo y (hGF y (by simp[hy]))) hl (by decide) (by omega)
 have b1:∀ y∈F1,y<h.length:=rvers_ok.bd _ _ _ _ r1;have m6:=(m5.aside (G:=F1) (by rw[zdg];exact ⟨hGn.2.1,hGn.1,λx hx y hy e=>hGn.2.2 y hy x hx e.symm⟩) b1).swap;have r1':=m5.keep rvers_ok r1 λy hy hm=>hGn.2.2 y hy y hm rfl;refine ⟨b,i,t2,a2,c2,a5,c5,h5,ha,by rw[CA hb hrow];rfl,λK=>e2 K,λK=>e5 K,⟨F5,r5⟩,λc6 hc=>?_⟩;have r5':RVers false h5 [.sl 6 a5 (l[k].wait.length+1) c6] (l[k].wait ++ [v]) F5:=by
  rcases hc with rfl | rfl
  ·exact r5
  ·exact r5.clip
 obtain ⟨h6,F6,e6,r6,m7,_⟩:=put h5 (F1++F5) 1 [.sl 6 a5 (l[k].wait.length+1) c6] [t1,.sl 6 a5 (l[k].wait.length+1) c6] ⟨l[k].store,l[k].wait ++ [v]⟩ m6 rfl ⟨_,_,F1,F5,rfl,rfl,r1',r5'⟩;exact ⟨h6,F6,e6,r6,m7⟩
theorem Y2 (hs:RNodes false h [.sl 2 a n c] l F) (hk:k<l.length) (hnd:F.Nodup) (hlo:∀ b∈F,lo<=b) (hq:v.key.toNat<l[k].store.length) (hv:RTags false h3 [.sl 2 av v.past.length cv] v.past G) (m3:Mv h [] h3 G) :
  ∃ b i t1 o c1,a=some (b,i)/\ld h b (i+k) 0 1=some [t1]/\(∀ {T:Type} (K:Pq->Nat->Nq->Option T),eS 6 t1 K=K (some o) l[k].store.length c1)/\(∃ F1,RVers false h [.sl 6 (some o) l[k].store.length c1] l[k].store F1) /\
   ∃ h4 F4,st lo h3 o.1 (o.2+v.key.toNat) 0 (v.cs av cv)=some h4/\RNodes false h4 [.sl 2 a n c] (l.set k ⟨l[k].store.set v.key.toNat v,l[k].wait⟩) F4/\Mv h F h4 F4:=by
 obtain ⟨b,i,rs,row,G0,ha,hbF,hbG,hb,hrow,hel,hGF,hGn,keep,_⟩:=hs.at rnode_ok hk hnd hlo;obtain ⟨t1,t2,F1,F2,rfl,rfl,r1,r2⟩:=hel;have hGn0:=hGn;rw[zdg] at hGn;obtain ⟨R',a1,c1,e1,g⟩:=id r1;injection e1 with e1 _;subst e1;cases a1 with
 | none =>have:=g.1;rw[this] at hq;exact absurd hq (Nat.not_lt_zero _)
 | some o =>
 obtain ⟨hR,_⟩:=g;subst hR;obtain ⟨b2,i2,rs2,row2,G2,e2,hb2,hbG2,hbb,hrow2,hel2,hGF2,hGn2,_,wr⟩:=r1.at rver_ok hq hGn.1 (λy hy=>hlo y (hGF y (by simp[hy])));injection e2 with e2;subst e2;obtain ⟨h4,F4,e4,r4,m4,_⟩:=wr h3 G 0 (v.cs av cv) (v.cs av cv) v (m3.wide (by simp)) (Gk (by obtain ⟨s,rfl,_⟩:=hel2;rfl)) ⟨_,rfl,hv⟩;have b2':∀ y∈F2,y<h.length:=rvers_ok.bd _ _ _ _ r2;have m5:=m4.aside (G:=F2) hGn0 b2';have r2':=m4.keep rvers_ok r2 λy hy hm=>hGn.2.2 y hm y hy rfl;obtain ⟨F5,r5,m6⟩:=keep h4 ⟨l[k].store.set v.key.toNat v,l[k].wait⟩ (F4++F2) m5 ⟨_,_,F4,F2,rfl,rfl,r4,r2'⟩;exact ⟨b,i,_,(b2,i2),c1,ha,by rw[CA hb hrow];rfl,λK=>Ai _ _ _ _ _,⟨F1,r1⟩,h4,F5,e4,r5,m6⟩
theorem QO (hs:RNodes false h [.sl 2 a l.length c] l F) (hv:RTags false h [.sl 2 av v.past.length cv] v.past G) (hd:∀ b∈G,b∉F) (hnd:F.Nodup) (hlo:∀ b∈F,lo<=b) (hl:lo<=h.length) (hk:k<l.length)
  (hkey:0<=v.key/\v.key<l[k].store.length) (hn:De l) (hvn:v.past.length<=1048576) :
  ∃ h' F',Af lo 129 [.agg [.sl 2 a l.length c],Iv k,.agg (v.cs av cv)] h=some (.agg [.sl 2 a l.length c],h')/\RNodes false h' [.sl 2 a l.length c] (GR l k v) F'/\Mv h F h' F':=by
 have hn1:=hn.1;have hkl:v.key.toNat<l[k].store.length:=by omega
 have hsm:=hn.2 _ (zdf hk);suffices hq:∃ h' F',_=some (V.agg [.sl 2 a l.length c],h')/\RNodes false h' [.sl 2 a l.length c] (GR l k v) F'/\Mv h F h' F' from hq.imp λh' hq=>hq.imp λF' hq=>⟨Vg hq.1,hq.2⟩
 obtain ⟨b,i,rs,row,G0,ha,hbF,hbG,hb,hrow,hel,hGF,hGn,_,put⟩:=hs.at rnode_ok hk hnd hlo;obtain ⟨t1,t2,F1,F2,rfl,rfl,r1,r2⟩:=hel;obtain ⟨a1,c1,e1,r1'⟩:=r1.form;obtain ⟨o,s,_,_,_,ha1,_,_,_,_,_,_,ho12,_⟩:=RVers.all r1' hkl;have ld0:ld h b (i+k) 0 1=some [t1]:=by rw[CA hb hrow];rfl
 rw[WI hk hkl];rw[Ac hk];simp only[ha,Ae,A7,ld0,Aa,Ag,e1];rw[DE ⟨by omega,by omega⟩];simp only[ha1,Ae,ho12,Aa,Ab,Ag,Ce,Ad,Ax];show ∃ h' F',br (AU l[k].store[v.key.toNat] v) _ _=_/\_;cases hle:AU l[k].store[v.key.toNat] v with
 | false=>exact ⟨h,F,rfl,by rw[<- ha];exact hs,Mv.refl hnd⟩
 | true =>
  have hGn0:=hGn;rw[zdg] at hGn;have hGlt:∀ b∈G,b<h.length:=rtags_ok.bd _ _ _ _ hv;obtain ⟨h2,F3,e2,r3,m2⟩:=W0 (lo:=lo) r1' hv hGn.1 (λy hy=>hlo y (hGF y (by simp[hy]))) hl hkey hvn;have b2':∀ y∈F2,y<h.length:=rvers_ok.bd _ _ _ _ r2;have m3:=m2.aside (G:=F2) hGn0 b2';have r2':=m2.keep rvers_ok r2 λy hy hm=>hGn.2.2 y hm y hy rfl;have hadd:GQ l[k].store v=l[k].store.set v.key.toNat v:=by rw[R6 hkl,hle,cond_true]
  have hlen:(GQ l[k].store v).length=l[k].store.length:=X6;rw[<- hlen] at r3;obtain ⟨h4,F4,e4,r4,m4,b4,fr4,l4⟩:=put h2 (F3++F2) 0 [.sl 6 a1 (GQ l[k].store v).length c1] [.sl 6 a1 (GQ l[k].store v).length c1,t2] ⟨GQ l[k].store v,l[k].wait⟩ m3 rfl ⟨_,_,F3,F2,rfl,rfl,r3,r2'⟩;rw[hlen] at e4;have hv4:RTags false h4 [.sl 2 av v.past.length cv] v.past G:=m4.keep rtags_ok hv hd;have hk4:k<(l.set k ⟨GQ l[k].store v,l[k].wait⟩).length:=by simpa using hk
  rw[Aq,Ac hk];simp only[Ae,ld0,Aa,e1,Ag];rw[e2];simp only[Ad,AS,Aa,Ai,Ag];rw[Ac hk,e4];simp only[Ae];rw[wr (by omega) (by omega),cond_true];by_cases hlast:k+1<l.length
  ·rw[Am (by omega),Ac hk,decide_eq_true hlast,cond_true];obtain ⟨a6,c6,h6,F6,e6,r6,m6⟩:=Eo (lo:=h4.length) (v:=v) hv4 (zdj _) hvn;have hself:(l.set k ⟨GQ l[k].store v,l[k].wait⟩)[k]=⟨GQ l[k].store v,l[k].wait⟩:=zev hk4;obtain ⟨b7,i7,u2,a7,c7,a8,c8,h8,ha7,ld7,e7,app7,_,st7⟩:=TD (lo:=lo) r4 hk4 m4.nd (λy hy=>m4.ge hl hlo y hy) (zdh hl m4.le) (by rw[hself];exact hsm.2.1) r6 m6;simp only[hself] at e7 app7 st7;obtain ⟨h9,F9,e9,r9,m9⟩:=st7 _ (.inl rfl);rw[ha] at ha7;injection ha7 with ha7;injection ha7 with hb7 hi7;subst hb7;subst hi7;simp only[ld7,Ae,Aa,Ag,e7];rw[e6];simp only[Ad,AS,Aa,Ab,Ai,BO,AK,Ag,AX];rw[app7];simp only[Ai];rw[Ac hk,e9];rw[zd1,hadd] at r9;exact ⟨h9,F9,rfl,by rw[<- ha];exact r9,m4.trans m9⟩
  ·rw[Aj (by omega),decide_eq_false hlast,cond_false];rw[hadd] at r4;exact ⟨h4,F4,rfl,by rw[<- ha];exact r4,m4⟩
theorem Rw {b i j R e:Nat}{rs:List (List V)}{row:List V} (hb:h[b]?=some (.rows R e false rs)) (hrow:rs[i]?=some row) (hcell:row[j]?=some (.sl 2 a l.length c)) (hs:RNodes false h [.sl 2 a l.length c] l F) (hbF:b∉F)
  (hv:RTags false h [.sl 2 av v.past.length cv] v.past G) (hd:∀ b∈G,b∉F) (hnd:F.Nodup) (hlo:∀ b∈F,lo<=b) (hl:lo<=h.length) (hk:k<l.length)
  (hkey:0<=v.key/\v.key<l[k].store.length) (hn:De l) (hvn:v.past.length<=1048576) :
  ∃ h' F',Af lo 204 [.ptr (some (b,(i,j))),Iv k,.agg (v.cs av cv)] h=some (.tup [],h')/\RNodes false h' [.sl 2 a l.length c] (GR l k v) F'/\Mv h F h' F':=by
 have hn1:=hn.1;have hkl:v.key.toNat<l[k].store.length:=by omega
 have hsm:=hn.2 _ (zdf hk);have hblt:b<h.length:=(DY hb).1;have hld:ld h b i j 1=some [.sl 2 a l.length c]:=by rw[CA hb hrow];exact JD hcell
 suffices hq:∃ h' F',_=some (V.tup [],h')/\RNodes false h' [.sl 2 a l.length c] (GR l k v) F'/\Mv h F h' F' from hq.imp λh' hq=>hq.imp λF' hq=>⟨MT hq.1,hq.2⟩
 obtain ⟨a3,c3,h3,F3,e3,r3,m3⟩:=Bu (lo:=h.length) (v:=v) hv (zdj _) hvn;obtain ⟨b1,i1,t1,o,c1,ha,ld0,e1,⟨F1,r1⟩,h4,F4,e4,r4,m4⟩:=Y2 (lo:=lo) hs hk hnd hlo hkl r3 m3;have hlat:=Ru (lo:=lo) (v:=v) (ca:=av) (cc:=cv) (n:=v.past.length) r1 (by omega);rw[WI hk hkl];simp only[zdY,hld,Ae,Aa,Ag,Ai];rw[Ac hk];simp only[ha,Ae,A7,ld0,Aa,Ag,e1];rw[hlat];simp only[Ad,Ax];cases hle:AU l[k].store[v.key.toNat] v with
 | false=>exact ⟨h,F,rfl,by rw[<- ha];exact hs,Mv.refl hnd⟩
 | true =>
  have hb4:h4[b]?=some (.rows R e false rs):=by rw[m4.fr b hblt hbF];exact hb
  have hld4:ld h4 b i j 1=some [.sl 2 a l.length c]:=by rw[CA hb4 hrow];exact JD hcell
  have hv4:RTags false h4 [.sl 2 av v.past.length cv] v.past G:=m4.keep rtags_ok hv hd;have hk4:k<(l.set k ⟨l[k].store.set v.key.toNat v,l[k].wait⟩).length:=by simpa using hk
  rw[Aq,e3];simp only[Ad,AS,Aa,Ab,Ai,BO,AK,Ag,Ae,ld0,e1];rw[DE ⟨by omega,by omega⟩,e4];simp only[Ae,hld4,Aa,Ai,Ag];rw[T2 hn1];simp only[Ad,Ax,cond_true];by_cases hlast:k+1=l.length
  ·rw[decide_eq_true hlast,decide_eq_false (by omega),cond_false,Aq];exact ⟨h4,F4,rfl,by rw[<- ha];exact r4,m4⟩
  ·rw[decide_eq_false hlast,decide_eq_true (by omega),cond_true,Az];obtain ⟨a6,c6,h6,F6,e6,r6,m6⟩:=Bu (lo:=h4.length) (v:=v) hv4 (zdj _) hvn;have hself:(l.set k ⟨l[k].store.set v.key.toNat v,l[k].wait⟩)[k]=⟨l[k].store.set v.key.toNat v,l[k].wait⟩:=zev hk4;obtain ⟨b7,i7,u2,a7,c7,a8,c8,h8,ha7,ld7,e7,app7,⟨F8,r8⟩,st7⟩:=TD (lo:=lo) r4 hk4 m4.nd (λy hy=>m4.ge hl hlo y hy) (zdh hl m4.le) (by rw[hself];exact hsm.2.1) r6 m6;simp only[hself] at e7 app7 st7 r8;obtain ⟨h9,F9,e9,r9,m9⟩:=st7 _ (.inr rfl);rw[ha] at ha7;injection ha7 with ha7;injection ha7 with hb7 hi7;subst hb7;subst hi7;simp only[ld7,Ae,Aa,Ag,e7];rw[e6];simp only[Ad,AS,Aa,Ab,Ai,BO,AK,Ag,AX];rw[app7];simp only[Ai];rw[Lx r8];simp only[Ad,Ai];rw[e9];rw[zd1] at r9;exact ⟨h9,F9,rfl,by rw[<- ha];exact r9,m4.trans m9⟩
end


def noted (me:Int) (log:List Ver) (v:Ver):List Ver:=bif decide (v.tag.time>0)&&(v.tag.place==me && !CB log v.tag) then log ++ [v] else log
def Eu (l:List Node):List Ver:=match l.getLast? with
 | some x=>x.store
 | none => []
def Zq (l:List Node):Bool:=l.all λx=>decide (x.wait.length=0)
def BL (p:Place):Place:=⟨p.me,p.clock,p.chain,(Eu p.chain).foldl (noted p.me) p.log,p.got,p.fell && !Zq p.chain⟩
theorem E4 {l:List Node} (h0:0<l.length):Eu l=(l[l.length - 1]'(by omega)).store:=by unfold Eu;rw[List.getLast?_eq_getElem?,DZ (by omega)]
theorem Za {me:Int}{log:List Ver}{v:Ver}:(noted me log v).length<=log.length+1:=by unfold noted;cases decide (v.tag.time>0)&&(v.tag.place==me && !CB log v.tag)<;>simp
section
variable {lo:Nat}{h:Heap}{F F':List Nat}{a a':Pq}{c c':Nq}
theorem Me {l:List Ver}{t p:Int}{ro:Bool} (hs:RVers ro h [.sl 6 a l.length c] l F) (hn:l.length<=1048576) :
  Af lo 208 [.sl 6 a l.length c,.agg [Iv t,Iv p]] h=some (.bool (CB l ⟨t,p⟩),h):=by
 refine P2 (h':=h) ?_;have loop:∀ m i,m+i=l.length->CJ h.length a l.length c false (i:Nat) t p h=some (.bool ((l.drop i).any λv=>v.tag.time==t&&v.tag.place==p),h):=by
  intro m;induction m with
  | zero =>intro i hi;rw[CJ.e,Aj (by omega),zdZ (by omega)];rfl
  | succ m ih =>
   intro i hi;have hil:i<l.length:=by omega
   obtain ⟨o,s,_,_,_,ha,_,_,_,_,_,_,ho,_⟩:=RVers.all hs hil;rw[CJ.e,Am (by omega),Ac hil];simp only[ha,Ae,A7,ho,Aa,Ab,Ag,zeA];rw[Au (show i<9223372036854775807 by omega),<- ha,ih (i+1) (by omega),zdw hil,List.any_cons];cases (l[i].tag.time==t&&l[i].tag.place==p)<;>rfl
 exact loop l.length 0 (by omega)
theorem Pn {p:Place}{a1 a2 a3:Pq}{c1 c2 c3:Nq}{F1 F2:List Nat} (hs1:RNodes false h [.sl 2 a1 p.chain.length c1] p.chain F1) (hs2:RVers false h [.sl 6 a2 p.log.length c2] p.log F2)
  (h0:0<p.chain.length) (h4:(Eu p.chain).length=4) (hd:∀ b∈F1,b∉F2) (hnd:F2.Nodup) (hlo:∀ b∈F2,lo<=b) (hl:lo<=h.length) (hcl:p.chain.length<=1048576) (hlog:p.log.length<=1000000) (hvn:∀ v∈Eu p.chain,v.past.length<=1048576) :
  ∃ a2' c2' h' F2',Af lo 130 [.agg (p.cs a1 c1 a2 c2 a3 c3)] h=some (.agg ((BL p).cs a1 c1 a2' c2' a3 c3),h')/\RVers false h' [.sl 6 a2' (BL p).log.length c2'] (BL p).log F2'/\Mv h F2 h' F2':=by
 obtain ⟨o,s1,s2,b1,d1,b2,d2,G1,G2,ha,_,ho1,_,e1,_,q1,_,q3,_⟩:=hs1.get (show p.chain.length - 1<p.chain.length by omega);rw[E4 h0] at h4 hvn;have two:∀ (hh:Heap) (F':List Nat) (ax:Pq) (nx:Nat) (cx:Nq),Mv h F2 hh F'->∀ m i (b:Bool),m+i=p.chain.length ->
   BW lo b (i:Nat) p.me p.clock a1 p.chain.length c1 ax nx cx a3 p.got.length c3 p.fell 0 0 0 none 0 (some 0) 0 none 0 (some 0) 0 none 0 (some 0) false hh=some (.agg [Iv p.me,Iv p.clock,.sl 2 a1 p.chain.length c1,.sl 6 ax nx cx,.sl 1 a3 p.got.length c3,.bool (p.fell && !(b&&(p.chain.drop i).all λx=>decide (x.wait.length=0)))],hh):=by
  intro hh F' ax nx cx hm m;induction m with
  | zero =>intro i b hi;rw[BW.e,Aj (by omega),zdZ (by omega)];cases p.fell<;>cases b<;>rfl
  | succ m ih =>
   intro i b hi;have hil:i<p.chain.length:=by omega
   obtain ⟨o',_,_,_,_,_,_,_,_,ha',_,_,ho2',_,e2',_⟩:=(hm.keep rnodes_ok hs1 hd).get hil;rw[BW.e,Am (by omega),Au (show i<9223372036854775807 by omega)];cases b with
   | false=>rw[Az,ih (i+1) false (by omega)];rfl
   | true =>rw[Aq,Ac hil];simp only[ha',Ae,A7,ho2',Aa,Ag,e2'];rw[<- ha',ih (i+1) true (by omega),ih (i+1) false (by omega),zdw hil,List.all_cons,show (((p.chain[i].wait.length:Nat):Int)==0)=decide (p.chain[i].wait.length=0) by rw[Bool.eq_iff_iff,beq_iff_eq,decide_eq_true_eq];omega];cases decide (p.chain[i].wait.length=0)<;>rfl
 have one:∀ m i,m+i=4->∀ hh ax cx (lg:List Ver) Fx,RVers false hh [.sl 6 ax lg.length cx] lg Fx->Mv h F2 hh Fx->lg.length<=1000000+i->∃ a' c' h' F',
   BX lo (i:Nat) p.me p.clock a1 p.chain.length c1 ax lg.length cx a3 p.got.length c3 p.fell 0 0 0 none 0 (some 0) 0 none 0 (some 0) 0 none 0 (some 0) false b1 (p.chain[p.chain.length - 1]'(by omega)).store.length d1 hh =
    BW lo true 0 p.me p.clock a1 p.chain.length c1 a' (((p.chain[p.chain.length - 1]'(by omega)).store.drop i).foldl (noted p.me) lg).length c' a3 p.got.length c3 p.fell 0 0 0 none 0 (some 0) 0 none 0 (some 0) 0 none 0 (some 0) false h' /\
   RVers false h' [.sl 6 a' (((p.chain[p.chain.length - 1]'(by omega)).store.drop i).foldl (noted p.me) lg).length c'] (((p.chain[p.chain.length - 1]'(by omega)).store.drop i).foldl (noted p.me) lg) F'/\Mv h F2 h' F':=by
  intro m;induction m with
  | zero =>intro i hi hh ax cx lg Fx hr hm hlen;rw[BX.e,Aj (by omega),zdZ (by omega)];exact ⟨ax,cx,hh,Fx,rfl,hr,hm⟩
  | succ m ih =>
   intro i hi hh ax cx lg Fx hr hm hlen;have hil:i<(p.chain[p.chain.length - 1]'(by omega)).store.length:=by omega
   have q1':=hm.keep rvers_ok q1 λy hy=>hd y (q3 y hy);obtain ⟨o',s',b',d',G',ha',_,_,_,_,_,_,_,ho',es',hp',_⟩:=RVers.all q1' hil;rw[zdw hil,zd6];rw[BX.e,Am (by omega),Ac hil];simp only[ha',Ae,A7,ho',Aa,Ab,es',BO,AK,Ag];rw[<- ha',Au (show i<9223372036854775807 by omega),Me hr (by omega)];simp only[Ad,Ax];have stay:=ih (i+1) (by omega) hh ax cx lg Fx hr hm (by omega);have hno:=@noted.eq_1 p.me lg ((p.chain[p.chain.length - 1]'(by omega)).store[i]'hil);cases g1:decide (((p.chain[p.chain.length - 1]'(by omega)).store[i]'hil).tag.time>0) with
   | false=>rw[Az,hno,g1];exact stay
   | true =>
   rw[Aq];cases g2:(((p.chain[p.chain.length - 1]'(by omega)).store[i]'hil).tag.place==p.me) with
   | false=>rw[Az,hno,g1,g2];exact stay
   | true =>
   rw[Aq];cases g3:CB lg ((p.chain[p.chain.length - 1]'(by omega)).store[i]'hil).tag with
   | true=>rw[Aq,hno,g1,g2,g3];exact stay
   | false =>
   rw[Az,hno,g1,g2,g3];obtain ⟨a3',c3',h3,F3,e3,r3,m3⟩:=Eo (lo:=lo) (v:=((p.chain[p.chain.length - 1]'(by omega)).store[i]'hil)) hp' (zdh hl hm.le) (hvn _ (zdf hil));obtain ⟨a5,c5,h5,F5,e5,r5,m5⟩:=DN (lo:=lo) (bytes:=72) (e:=43) rver_ok hr (row:=((p.chain[p.chain.length - 1]'(by omega)).store[i]'hil).cs a3' c3') (x:=((p.chain[p.chain.length - 1]'(by omega)).store[i]'hil)) (G:=F3) (h1:=h3 ++ [.rows 6 43 false [((p.chain[p.chain.length - 1]'(by omega)).store[i]'hil).cs a3' c3']])
    ⟨_,rfl,Mv.snoc.keep0 rtags_ok r3⟩ (m3.trans (Mv.snoc' m3.nd)) hm.nd (λy hy=>hm.ge hl hlo y hy) (zdh hl hm.le) (by decide) (by omega)
   rw[e3];simp only[Ad,AS,Aa,Ab,Ai,BO,AK,Ag,AX];rw[e5];simp only[Ai];have:=ih (i+1) (by omega) h5 a5 c5 (lg ++ [((p.chain[p.chain.length - 1]'(by omega)).store[i]'hil)]) F5 (by rw[zdy];exact r5) (hm.trans m5) (by simp;omega);rw[zdy] at this;exact this
 obtain ⟨a',c',h',F',el,r,m⟩:=one 4 0 (by omega) h a2 c2 p.log F2 hs2 (Mv.refl hnd) (by omega);refine ⟨a',c',h',F',SX ?_,?_,m⟩
 ·rw[DE ⟨by rw[wr (by omega) (by omega)];omega,by rw[wr (by omega) (by omega)];omega⟩,wr (by omega) (by omega),show ((p.chain.length:Int) - 1).toNat=p.chain.length - 1 by omega];simp only[ha,Ae,ho1,Aa,e1,Ag];rw[<- ha];refine el.trans ?_;have:=two h' F' a' (((p.chain[p.chain.length - 1]'(by omega)).store.drop 0).foldl (noted p.me) p.log).length c' m p.chain.length 0 true (by omega);refine this.trans ?_;simp only[BL,Place.cs,E4 h0,zeg,zdu,Zq]
 ·simp only[BL,E4 h0];rw[zeg] at r;exact r
end


variable {l:List Node}
theorem Mv.store {h h':Heap}{F F':List Nat}{b:Nat} (m:Mv h F h' F') (hb:b<h.length) (hbF:b∉F) (X:Blk) :
  Mv h (b :: F) (h'.set b X) (b :: F')/\(h'.set b X)[b]?=some X/\(∀ y,y≠b->(h'.set b X)[y]?=h'[y]?)/\b∉F':=by
 have hbF':b∉F':=λhm=>by
  rcases m.sub b hm with g | g
  ·exact hbF g
  ·omega
 have hb':b<h'.length:=zdq hb m.le;refine ⟨⟨by simpa using m.le,λy hy hF=>?_,by rw[zdn];exact ⟨hbF',m.nd⟩,λy hy=>?_⟩,by simp[hb'],λy hy=>zdi (Ne.symm hy),hbF'⟩
 ·rw[zdm,not_or] at hF;rw[zdi (Ne.symm hF.1)];exact m.fr y hy hF.2
 ·rw[zdm] at hy;rcases hy with rfl | hy
  ·exact .inl (by simp)
  ·refine (m.sub y hy).imp (λg=>by simp[g]) λg=>by simpa using g
section
variable {lo:Nat}{ro:Bool}{h:Heap}{F F':List Nat}{a a':Pq}{c c':Nq}
theorem Og {g:Nat}{cl:List V}{p:Node->Bool} (hs:RNodes ro h [.sl 2 a l.length c] l F) (hn:l.length<=1048576)
  (hp:∀ lo x a1 c1 a2 c2,x∈l->Af lo g (Ea [.agg [.sl 6 a1 x.store.length c1,.sl 6 a2 x.wait.length c2]] cl) h=some (.bool (p x),h)) :
  Af lo 206 [.sl 2 a l.length c,.fn g cl] h=some (.bool (l.any p),h):=by
 have loop:∀ m k x,m+k=l.length->AB (List.length h) a l.length c g cl x (l.length:Nat) (k:Nat) h=some (Iv (CG p (l.drop k) k),h):=by
  intro m;induction m with
  | zero =>intro k x hk;rw[AB.e,Aj (by omega),show k=l.length by omega];simp[CG]
  | succ m ih =>
   intro k x hk;have hlt:k<l.length:=by omega
   obtain ⟨o,s1,s2,b1,d1,b2,d2,G1,G2,rfl,ho,_,_,e1,e2,_⟩:=hs.get hlt;rw[AB.e,Am (by omega),Ac (by omega)];simp only[Ae,A7,ho,Aa,e1,e2,Ag];rw[hp (List.length h) l[k] b1 d1 b2 d2 (zdf hlt),Ad,Ax,zdw hlt];simp only[CG];cases p l[k]
   ·simp only[Az,cond_false];rw[Au (by omega)];exact ih (k+1) _ (by omega)
   ·simp
 exact EJ (h':=h) (by rw[E8 (loop l.length 0 0 (by omega))];simp only[Ad,Ab,Qw];rw[JB];simp)
theorem zaA:(l.any λx=>decide (x.wait.length>0)) = !Zq l:=by
 unfold Zq;induction l with
 | nil=>rfl
 | cons x l ih =>rw[List.any_cons,List.all_cons,ih,Bool.not_and];congr 1;rw[Bool.eq_iff_iff,zdV,decide_eq_true_eq,decide_eq_false_iff_not];omega
end


variable {v:Ver}{l:List Ver}{x:Node}{p:Place}{nw:Nat}
def thin (v:Ver):Prop:=v.past.length<=4/\v.text.size<=8/\CY v.tag.time v.tag.place=true
def GE (nw:Nat) (x:Node):Prop:=x.store.length=4/\x.wait.length<=nw/\(∀ v∈x.store,thin v)/\∀ v∈x.wait,thin v
structure Tidy (nc nw nl:Nat) (p:Place):Prop where
 len:p.chain.length<=nc
 node:∀ x∈p.chain,GE nw x
 log:p.log.length<=nl/\∀ v∈p.log,thin v
 got:p.got.length<=3/\∀ l∈p.got,l.length<=nl/\∀ v∈l,thin v
theorem LL (h:Da v=true):thin v:=by obtain ⟨_,h2,_,h3,h4,_⟩:=Bx h;have:=K0 h2;have:=D9 h3;exact ⟨by omega,by omega,h4⟩
theorem YV (h:LH v=true):thin v:=by rw[MW h];exact ⟨by simp,by show 0<=8;omega,rfl⟩
theorem Ya {i:Nat} (h:KY i v=true):thin v:=(D8 h).elim YV λh=>LL h.1
theorem Hn {m:Int} (h:I7 m l=true):l.length<=60/\∀ i (hi:i<l.length),Da l[i]=true/\l[i].tag.place=m/\CB (l.take i) l[i].tag=false:=by unfold I7 at h;rw[DH,Ji,decide_eq_true_eq] at h;refine ⟨by omega,λi hi=>?_⟩;have:=h.1 i hi;simp only[zan,DH,beq_iff_eq,zdV] at this;exact ⟨this.1.1,this.1.2,this.2⟩
theorem V5 {m:Int} (h:I7 m l=true):l.length<=60/\∀ v∈l,thin v:=by obtain ⟨h1,h2⟩:=Hn h;refine ⟨h1,λv hv=>?_⟩;obtain ⟨i,hi,rfl⟩:=zea.1 hv;exact LL (h2 i hi).1
theorem TK (h:Fv x=true):GE 6 x:=by obtain ⟨h1,h2,h3⟩:=Bo h;refine ⟨Cd h1,h2,λv hv=>?_,λv hv=>LL (h3 v hv)⟩;obtain ⟨i,hi,rfl⟩:=zea.1 hv;exact Ya (D2 h1 hi)
theorem AL (h:Av p=true):(0<=p.me/\p.me<=2)/\(0<=p.clock/\p.clock<=999)/\p.got.length=3/\GO p.chain=true/\Ly p.chain=true/\I7 p.me p.log=true /\
  (∀ i (hi:i<p.got.length),RF p.me i p.got[i]=true)/\Hp p.chain p.clock=true:=by
 unfold Av at h;simp only[DH,Ji,decide_eq_true_eq,Ah] at h;obtain ⟨⟨⟨⟨⟨⟨⟨h1,h2⟩,h3⟩,h4⟩,h5⟩,h6⟩,h7⟩,h8⟩:=h;exact ⟨h1,h2,h3,h4,h5,h6,h7,h8⟩
theorem Qu (h:Av p=true) {i:Nat} (hi:i<p.got.length):I7 i p.got[i]=true:=by have:=(AL h).2.2.2.2.2.2.1 i hi;unfold RF at this;rw[DH] at this;exact this.1
theorem Bd (h:Av p=true):Tidy 4 6 60 p:=by obtain ⟨_,_,h3,h4,_,h6,h7,_⟩:=AL h;obtain ⟨g1,g2⟩:=DJ h4;refine ⟨g1.2,λx hx=>TK (g2 x hx),V5 h6,by omega,λl hl=>?_⟩;obtain ⟨i,hi,rfl⟩:=zea.1 hl;exact V5 (Qu h hi)
theorem HU {α:Type}{w:α->Nat}{c:Nat}:∀ {l:List α},(∀ v∈l,w v<=c)->Bj w l<=c*l.length
 | [],_=>by simp[Bj]
 | x :: l,h=>by have h1:=HU (w:=w) (l:=l) λv hv=>h v (by simp[hv]);have h2:=h x (by simp);simp only[Bj,zeq,zeO,zd7,Nat.mul_add,Nat.mul_one] at h1 ⊢;omega
theorem ZT (h:thin v):Na v<=13:=by have:=h.1;unfold Na;rw[UC];omega
theorem Qq (hl:l.length<=1048576) (h:∀ v∈l,thin v):Es l:=⟨hl,λv hv=>by have:=h v hv;exact ⟨by have:=this.1;omega,by have:=this.2.1;omega⟩⟩
theorem LK (h:∀ v∈l,thin v):CX l<=13*l.length:=HU λv hv=>ZT (h v hv)
theorem zbC (h:GE nw x) (hw:nw<=100):Es x.store/\Es x.wait:=by obtain ⟨h1,h2,h3,h4⟩:=h;exact ⟨Qq (by omega) h3,Qq (by omega) h4⟩
theorem zag (h:GE nw x) (hw:nw<=100):KP x<=1352:=by obtain ⟨h1,h2,h3,h4⟩:=h;have:=LK h3;have:=LK h4;unfold KP;omega
theorem KZ {nc nl:Nat} (h:Tidy nc nw nl p) (h1:nc<=100) (h2:nw<=100):De p.chain:=⟨by have:=h.len;omega,λx hx=>zbC (h.node x hx) h2⟩
theorem D1 {nc nl:Nat} (h:Tidy nc nw nl p) (h1:nc<=100) (h2:nw<=100) (h3:nl<=1000):FM p/\(1:Int)+Un p<=EN:=by
 have g1:=h.len;have g2:=h.log.1;have g3:=h.got.1;refine ⟨⟨KZ h h1 h2,Qq (by omega) h.log.2,by omega,λl hl=>Qq (by have:=(h.got.2 l hl).1;omega) (h.got.2 l hl).2⟩,?_⟩;have e1:Ei p.chain<=1352*p.chain.length:=HU λx hx=>zag (h.node x hx) h2;have e2:=LK h.log.2;have e3:M4 p.got<=13000*p.got.length:=HU λl hl=>by have:=LK (h.got.2 l hl).2;have:=(h.got.2 l hl).1;omega
 simp only[Un,EN];omega
theorem Nc {nc nl k:Nat}{t:Int} (h:Tidy nc nw nl p) (hv:thin v):Tidy nc (nw+1) nl ⟨p.me,t,GR p.chain k v,p.log,p.got,p.fell⟩:=by
 have hx:∀ x,x∈p.chain->GE (nw+1) x:=λx hx=>by obtain ⟨g1,g2,g3⟩:=h.node x hx;exact ⟨g1,by omega,g3⟩
 have key:(GR p.chain k v).length<=nc/\∀ x∈GR p.chain k v,GE (nw+1) x:=by
  unfold GR;split
  ·rename_i x hk
   split
   ·rename_i u hu
    cases AU u v with
    | false=>exact ⟨h.len,hx⟩
    | true =>
     rw[cond_true];refine ⟨by simpa using h.len,λy hy=>?_⟩;rcases zdE hy with hy | rfl
     ·exact hx y hy
     ·obtain ⟨g1,g2,g3,g4⟩:=h.node x (zdt hk);refine ⟨by simpa using g1,?_,λw hw=>?_,?_⟩
      ·cases decide (k+1<p.chain.length)
       ·show x.wait.length<=nw+1;omega
       ·show (x.wait ++ [v]).length<=nw+1;simp;omega
      ·rcases zdE hw with hw | rfl
       ·exact g3 w hw
       ·exact hv
      ·cases decide (k+1<p.chain.length)
       ·exact g4
       ·intro w hw;rcases zde.1 hw with hw | hw
        ·exact g4 w hw
        ·rw[zdJ] at hw;subst hw;exact hv
   ·exact ⟨h.len,hx⟩
  ·exact ⟨h.len,hx⟩
 exact ⟨key.1,key.2,h.log,h.got⟩
theorem Mu {l:List Node} (h0:0<l.length):∃ x∈l,Eu l=x.store:=⟨_,zdf (show l.length - 1<l.length by omega),E4 h0⟩


variable {l:List Node}{p:Place}{v:Ver}
def IL (s:List Ver) (v:Ver):Bool:=match s[v.key.toNat]? with
 | some u=>AU u v
 | none=>false
def Ey (l:List Node):List Ver:=match l[0]? with
 | some x=>x.store
 | none => []
def Dz (l:List Node) (k:Nat):Bool:=match l[k]? with
 | some x=>decide (x.wait.length<6)
 | none=>false
def KT (p:Place) (f:Nat):List Ver:=match p.got[f]? with
 | some l=>l
 | none => []
def KC (p:Place) (f:Nat):Option Ver:=(KT p f).find? (IL (Ey p.chain))
def Fe (p:Place) (k:Nat) (t:Int) (v:Ver):Place:=⟨p.me,t,GR p.chain k v,p.log,p.got,p.fell⟩
theorem Hr (h0:0<l.length):Ey l=l[0].store:=by unfold Ey;rw[DZ h0]
theorem IZ {k:Nat} (hk:k<l.length):Dz l k=decide (l[k].wait.length<6):=by unfold Dz;rw[DZ hk]
theorem Hu {f:Nat} (hf:f<p.got.length):KT p f=p.got[f]:=by unfold KT;rw[DZ hf]
theorem PH {s:List Ver} (h:v.key.toNat<s.length):IL s v=AU s[v.key.toNat] v:=by unfold IL;rw[DZ h]
theorem NL {α:Type}{p:α->Bool}:∀ {l:List α}{k:Nat},(∃ i,∃ hi:i<l.length,CG p l k=((k+i:Nat):Int)/\l.find? p=some l[i])\/(CG p l k = -1/\l.find? p=none)
 | [],k => .inr ⟨rfl,rfl⟩
 | x :: l,k=>by
  simp only[CG,List.find?_cons];cases hp:p x with
  | true=>exact .inl ⟨0,by simp,by simp,by simp⟩
  | false =>
   rw[cond_false];rcases NL (p:=p) (l:=l) (k:=k+1) with ⟨i,hi,h1,h2⟩ | h
   ·exact .inl ⟨i+1,by simpa using hi,by rw[h1];congr 1;omega,by simpa using h2⟩
   ·exact .inr h
theorem E5 {k:Nat}:(GR l k v).length=l.length:=by
 unfold GR;split
 ·split
  ·cases AU _ v<;>simp
  ·rfl
 ·rfl
section
variable {lo:Nat}{ro:Bool}{h:Heap}{F F':List Nat}{a a':Pq}{c c':Nq}
theorem Pp (hs:RNodes ro h [.sl 2 a l.length c] l F) (h0:0<l.length):Af lo 125 [.agg [.sl 2 a l.length c]] h=some (.bool (Dz l 0),h):=by
 refine S0 (h':=h) ?_;obtain ⟨o,s1,s2,b1,d1,b2,d2,G1,G2,ha,_,_,ho2,_,e2,_⟩:=hs.get h0;rw[IZ h0,show (0:Int)=((0:Nat):Int) from rfl,Ac h0];simp only[ha,Ae,A7,ho2,Aa,e2,Ag];by_cases hw:l[0].wait.length<6
 ·rw[Am (by omega),decide_eq_true hw]
 ·rw[Aj (by omega),decide_eq_false hw]
theorem OH {b i j k:Nat} (hld:ld h b i j 1=some [.sl 2 a l.length c]) (hs:RNodes ro h [.sl 2 a l.length c] l F) (hk:k<l.length):Af lo 117 [.ptr (some (b,(i,j))),Iv (k:Nat)] h=some (.bool (!Dz l k),h):=by
 refine Od (h':=h) ?_;obtain ⟨o,s1,s2,b1,d1,b2,d2,G1,G2,ha,_,_,ho2,_,e2,_⟩:=hs.get hk;rw[zdY,hld];simp only[Ae,Aa,Ag,Ai];rw[IZ hk,Ac hk];simp only[ha,Ae,A7,ho2,Aa,e2,Ag];by_cases hw:l[k].wait.length<6
 ·rw[Aj (by omega),decide_eq_true hw];rfl
 ·rw[Am (by omega),decide_eq_false hw];rfl
theorem Nh {f:Nat}{a1 a2 a3:Pq}{c1 c2 c3:Nq}{F1 F3:List Nat} (hs1:RNodes ro h [.sl 2 a1 p.chain.length c1] p.chain F1) (hs3:RVss ro h [.sl 1 a3 p.got.length c3] p.got F3)
  (h0:0<p.chain.length) (hf:f<p.got.length) (hk:∀ v∈p.got[f],0<=v.key/\v.key<(Ey p.chain).length) (hn:p.got[f].length<=1048576) :
  Af lo 292 [.agg (p.cs a1 c1 a2 c2 a3 c3),Iv (f:Nat)] h=some (Iv (CG (IL (Ey p.chain)) p.got[f] 0),h):=by
 refine Sb (h':=h) ?_;obtain ⟨o,s1,s2,b1,d1,b2,d2,G1,G2,ha,_,ho1,_,e1,_,q1,_⟩:=hs1.get h0;obtain ⟨o3,s3,b3,d3,G3,ha3,ho3,e3,q3,_⟩:=hs3.get hf;rw[Hr h0] at *
 rw[show (0:Int)=((0:Nat):Int) from rfl,Ac h0];simp only[ha,Ae,A7,ho1,Aa,e1,Ag];have loop:∀ m i,m+i=p.got[f].length->C2 (List.length h) (f:Nat) ((0:Nat):Int) (i:Nat) p.me p.clock a1 p.chain.length c1 a2 p.log.length c2 a3 p.got.length c3 p.fell b1 p.chain[0].store.length d1 h=some (Iv (CG (IL p.chain[0].store) (p.got[f].drop i) i),h):=by
  intro m;induction m with
  | zero =>intro i hi;rw[C2.e,Ac hf];simp only[ha3,Ae,A7,ho3,Aa,e3,Ag];rw[Aj (by omega),zdZ (by omega)];rfl
  | succ m ih =>
   intro i hi;have hil:i<p.got[f].length:=by omega
   have hky:=hk _ (zdf hil);have hkl:p.got[f][i].key.toNat<p.chain[0].store.length:=by omega
   obtain ⟨o4,s4,b4,d4,G4,ha4,ho4,e4,q4,_⟩:=q3.get hil;obtain ⟨o5,s5,b5,d5,G5,ha5,_,_,_,_,_,_,ho512,_⟩:=RVers.all q1 hkl;rw[C2.e,Ac hf];simp only[ha3,Ae,A7,ho3,Aa,e3,Ag];rw[Am (by omega),Ac hf,Ac hil];simp only[ha4,Ae,A7,ho4,Aa,Ab,e4,BO,AK,Ag];rw[DE ⟨by omega,by omega⟩];simp only[ha5,Ae,ho512,Aa,Ab,Ag,Ce,Ad,Ax];rw[<- ha3,<- ha5,Au (show i<9223372036854775807 by omega),ih (i+1) (by omega),zdw hil];simp only[CG];rw[PH hkl];unfold AU;cases Hb _ _ _ _<;>rfl
 have:=loop _ 0 rfl;rw[zeg] at this;rw[<- ha];exact this
theorem Ni {k:Nat}{t:Int}{a1 a2 a3 av:Pq}{c1 c2 c3 cv:Nq}{F1 F2 G:List Nat} (hs1:RNodes false h [.sl 2 a1 p.chain.length c1] p.chain F1) (hs2:RVers false h [.sl 6 a2 p.log.length c2] p.log F2)
  (hv:RTags false h [.sl 2 av v.past.length cv] v.past G) (hvd:∀ b∈G,b∉F1) (hnd:(F1++F2).Nodup) (hlo:∀ b∈F1++F2,lo<=b) (hl:lo<=h.length) (hk:k<p.chain.length) (hkey:0<=v.key/\v.key<=3)
  (ht:Tidy 10 20 100 p) (hvt:thin v) :
  ∃ h2 a2' c2' h3 F1' F2',Af lo 129 [.agg [.sl 2 a1 p.chain.length c1],Iv k,.agg (v.cs av cv)] h=some (.agg [.sl 2 a1 p.chain.length c1],h2) /\
   Af lo 130 [.agg ((Fe p k t v).cs a1 c1 a2 c2 a3 c3)] h2=some (.agg ((BL (Fe p k t v)).cs a1 c1 a2' c2' a3 c3),h3) /\
   RNodes false h3 [.sl 2 a1 (BL (Fe p k t v)).chain.length c1] (BL (Fe p k t v)).chain F1'/\RVers false h3 [.sl 6 a2' (BL (Fe p k t v)).log.length c2'] (BL (Fe p k t v)).log F2'/\Mv h (F1++F2) h3 (F1'++F2'):=by
 have ta:=Nc (k:=k) (t:=t) ht hvt;have hn:=KZ ht (by decide) (by decide);have hsto:=(ht.node _ (zdf hk)).1;have hnd':=hnd;rw[zdg] at hnd';obtain ⟨h2,F1',e2,r2,m2⟩:=QO (lo:=lo) hs1 hv hvd hnd'.1 (λb hb=>hlo b (by simp[hb])) hl hk ⟨hkey.1,by omega⟩ hn (by have:=hvt.1;omega);rw[<- E5 (k:=k) (v:=v)] at r2;have b2:∀ y∈F2,y<h.length:=rvers_ok.bd _ _ _ _ hs2;have m3:=m2.aside (G:=F2) hnd b2;have hs2':=m2.keep rvers_ok hs2 λy hy hm=>hnd'.2.2 y hm y hy rfl;have nd3:=m3.nd;rw[zdg] at nd3;have h0:0<(Fe p k t v).chain.length:=by show 0<(GR p.chain k v).length;rw[E5];omega
 obtain ⟨x,hx,hxe⟩:=Mu h0;have hxn:=ta.node x hx;have hl2:=m2.le;obtain ⟨a2',c2',h3,F2',e3,r3,m4⟩:=Pn (lo:=lo) (p:=Fe p k t v) (a3:=a3) (c3:=c3) r2 hs2' h0 (by rw[hxe];exact hxn.1) (λy hy hy2=>nd3.2.2 y hy y hy2 rfl) hnd'.2.1 (λb hb=>hlo b (by simp[hb])) (by omega) (zdh ta.len (by decide)) (zdh ta.log.1 (by decide))
  (λw hw=>by rw[hxe] at hw;have:=(hxn.2.2.1 w hw).1;omega)
 have r2':=m4.keep rnodes_ok r2 λy hy hy2=>nd3.2.2 y hy y hy2 rfl;have b1:∀ y∈F1',y<h2.length:=rnodes_ok.bd _ _ _ _ r2;have m5:=(m4.aside (G:=F1') (by rw[zdg];exact ⟨nd3.2.1,nd3.1,λx hx y hy e=>nd3.2.2 y hy x hx e.symm⟩) b1).swap;exact ⟨h2,a2',c2',h3,F1',F2',e2,e3,r2',r3,m3.trans m5⟩
end


def EB (p:Place) (t:Int):Place:=⟨p.me,t,p.chain,p.log,p.got,p.fell⟩
def FH (t c:Int):Int:=if t>c then t else c
theorem Vx {h h1 h2:Heap}{b:Nat}{G1 G1' G2 G2' G3:List Nat} (m1:Mv h G1 h1 G1') (m2:Mv h1 (b :: G2) h2 (b :: G2')) (hnd:(b ::(G1++(G2++G3))).Nodup) (hb:∀ y∈b ::(G1++(G2++G3)),y<h.length) :
  Mv h (b ::(G1++(G2++G3))) h2 (b ::(G1'++(G2'++G3)))/\(∀ y∈G1',y∉b :: G2)/\(∀ y∈G3,y∉G1)/\∀ y∈G3,y∉b :: G2:=by
 rw[zdn,zdg,zde,zde,zdg] at hnd;obtain ⟨n1,n2,⟨n3,n4,n5⟩,n6⟩:=hnd;simp only[not_or] at n1;have hbb:=hb b (by simp);have hb1:∀ y∈G1,y<h.length:=λy hy=>hb y (by simp[hy]);have hb2:∀ y∈G2,y<h.length:=λy hy=>hb y (by simp[hy]);have hb3:∀ y∈G3,y<h.length:=λy hy=>hb y (by simp[hy]);have l1:=m1.le;have l2:=m2.le;have d1:∀ y∈G1',y∉b :: G2:=λy hy hm=>by
  rcases m1.sub y hy with g | g
  ·rcases zdm.1 hm with rfl | hm
   ·exact n1.1 g
   ·exact n6 y g y (by simp[hm]) rfl
  ·rcases zdm.1 hm with rfl | hm
   ·omega
   ·have:=hb2 y hm;omega
 have d2:∀ y∈G3,y∉G1:=λy hy hm=>n6 y hm y (by simp[hy]) rfl;have d3:∀ y∈G3,y∉b :: G2:=λy hy hm=>by
  rcases zdm.1 hm with rfl | hm
  ·exact n1.2.2 hy
  ·exact n5 y hm y hy rfl
 have nd2:=m2.nd;rw[zdn] at nd2;have s1:∀ y∈G1',y<h1.length:=m1.lt hb1;refine ⟨⟨by omega,λy hy hF=>?_,?_,λy hy=>?_⟩,d1,d2,d3⟩
 ·simp only[zdm,zde,not_or] at hF;rw[m2.fr y (by omega) (by simp only[zdm,not_or];exact ⟨hF.1,hF.2.2.1⟩),m1.fr y hy hF.2.1]
 ·rw[zdn,zdg,zde,zde,zdg];refine ⟨?_,m1.nd,⟨nd2.2,n4,λx hx y hy e=>?_⟩,λx hx y hy e=>?_⟩
  ·simp only[not_or];exact ⟨λg=>d1 b g (by simp),nd2.1,n1.2.2⟩
  ·subst e;rcases m2.sub x (by simp[hx]) with g | g
   ·exact d3 x hy g
   ·have:=hb3 x hy;omega
  ·subst e;rcases zde.1 hy with hy | hy
   ·rcases m2.sub x (by simp[hy]) with g | g
    ·exact d1 x hx g
    ·have:=s1 x hx;omega
   ·rcases m1.sub x hx with g | g
    ·exact d2 x hy g
    ·have:=hb3 x hy;omega
 ·simp only[zdm,zde] at hy ⊢;rcases hy with hy | hy | hy | hy
  ·exact .inl (.inl hy)
  ·rcases m1.sub y hy with g | g
   ·exact .inl (.inr (.inl g))
   ·exact .inr ⟨g.1,by omega⟩
  ·rcases m2.sub y (by simp[hy]) with g | g
   ·rcases zdm.1 g with g | g
    ·exact .inl (.inl g)
    ·exact .inl (.inr (.inr (.inl g)))
   ·exact .inr ⟨by omega,g.2⟩
  ·exact .inl (.inr (.inr (.inr hy)))
section
variable {lo:Nat}{ro:Bool}{h:Heap}{F F':List Nat}{a a':Pq}{c c':Nq}
theorem E9 {h1 h2:Heap}{b:Nat}{q:Place}{a1 a2 a3:Pq}{c1 c2 c3:Nq}{G1 G1' G2 G2' G3:List Nat} (m1:Mv h G1 h1 G1') (m2:Mv h1 (b :: G2) h2 (b :: G2')) (hnd:(b ::(G1++(G2++G3))).Nodup) (hb:∀ y∈b ::(G1++(G2++G3)),y<h.length)
  (r1:RNodes false h1 [.sl 2 a1 q.chain.length c1] q.chain G1') (r2:RVers false h2 [.sl 6 a2 q.log.length c2] q.log G2') (r3:RVss false h [.sl 1 a3 q.got.length c3] q.got G3) :
  B7 false h2 (q.cs a1 c1 a2 c2 a3 c3) q (G1'++(G2'++G3))/\Mv h (b ::(G1++(G2++G3))) h2 (b ::(G1'++(G2'++G3))):=by
 obtain ⟨m,d1,d2,d3⟩:=Vx m1 m2 hnd hb;exact ⟨⟨_,_,_,_,_,_,rfl,_,_,_,G1',G2',G3,rfl,rfl,m2.keep rnodes_ok r1 d1,r2,m2.keep rvss_ok (m1.keep rvss_ok r3 d2) d3⟩,m⟩
theorem Wf {b i j R e:Nat}{rs:List (List V)}{row:List V}{l:List Node}{v:Ver}{av:Pq}{cv:Nq}{G:List Nat} (hb:h[b]?=some (.rows R e false rs)) (hrow:rs[i]?=some row) (hcell:row[j]?=some (.sl 2 a l.length c)) (hs:RNodes false h [.sl 2 a l.length c] l F) (hbF:b∉F)
  (hv:RTags false h [.sl 2 av v.past.length cv] v.past G) (hd:∀ b∈G,b∉F) (hnd:F.Nodup) (hlo:∀ b∈F,lo<=b) (hl:lo<=h.length) (h0:0<l.length)
  (hkey:0<=v.key/\v.key<l[0].store.length) (hn:De l) (hvn:v.past.length<=1048576) :
  ∃ h' F',Af lo 119 [.ptr (some (b,(i,j))),.agg (v.cs av cv)] h=some (.bool (Dz l 0),h')/\RNodes false h' [.sl 2 a l.length c] (bif Dz l 0 then GR l 0 v else l) F'/\Mv h F h' F':=by
 have hld:ld h b i j 1=some [.sl 2 a l.length c]:=by rw[CA hb hrow];exact JD hcell
 suffices hq:∃ h' F',_=some (V.bool (Dz l 0),h')/\RNodes false h' [.sl 2 a l.length c] (bif Dz l 0 then GR l 0 v else l) F'/\Mv h F h' F' from hq.imp λh' hq=>hq.imp λF' hq=>⟨Pe hq.1,hq.2⟩
 rw[show (0:Int)=((0:Nat):Int) from rfl,OH hld hs h0];simp only[Ad,Ax];cases hr:Dz l 0 with
 | false=>exact ⟨h,F,rfl,hs,Mv.refl hnd⟩
 | true =>rw[zei,Az];obtain ⟨h',F',e1,r1,m1⟩:=Rw (lo:=lo) hb hrow hcell hs hbF hv hd hnd hlo hl h0 hkey hn hvn;have e1':Af lo 204 [.ptr (some (b,(i,j))),Iv ((0:Nat):Int),.agg (v.cs av cv)] h=some (.tup [],h'):=e1;refine ⟨h',F',?_,r1,m1⟩;show Ak (Af lo 204 [.ptr (some (b,(i,j))),Iv ((0:Nat):Int),.agg (v.cs av cv)] h) _=_;rw[e1'];simp only[Ad,Kd,Ag]
end


variable {p:Place}
def JY (p:Place) (f:Nat):Bool:=match KC p f with
 | some v=>Dz p.chain 0&&CD v.past (Bs p.chain)
 | none=>false
def Co (p:Place) (f:Int):Bool:=Ah f 0 2&&JY p f.toNat
def Md (p:Place) (f:Nat):Place:=match KC p f with
 | some v=>BL (Fe p 0 (FH v.tag.time p.clock) v)
 | none=>p
def Dw (p:Place) (f:Int):Place:=bif Co p f then Md p f.toNat else p
theorem LS (h:Av p=true) {f:Nat} (hf:f<p.got.length) {v:Ver} (hv:v∈p.got[f]):Da v=true:=by obtain ⟨_,h2⟩:=Hn (Qu h hf);obtain ⟨i,hi,rfl⟩:=zea.1 hv;exact (h2 i hi).1
theorem NI (h:Av p=true):(Ey p.chain).length=4:=by have h0:=Dl h;rw[Hr h0];exact Cd (Bo ((DJ (AL h).2.2.2.1).2 _ (zdf h0))).1
theorem Mw {f:Nat} (hf:f<p.got.length):(∃ i,∃ hi:i<p.got[f].length,CG (IL (Ey p.chain)) p.got[f] 0=(i:Int)/\KC p f=some p.got[f][i])\/(CG (IL (Ey p.chain)) p.got[f] 0 = -1/\KC p f=none):=by
 unfold KC;rw[Hu hf];rcases NL (p:=IL (Ey p.chain)) (l:=p.got[f]) (k:=0) with ⟨i,hi,h1,h2⟩ | h
 ·exact .inl ⟨i,hi,by rw[h1,zdR],h2⟩
 ·exact .inr h
theorem zah {t c:Int} (h:decide (t>c)=true):FH t c=t:=by unfold FH;rw[if_pos (of_decide_eq_true h)]
theorem zaj {t c:Int} (h:decide (t>c)=false):FH t c=c:=by unfold FH;rw[if_neg (of_decide_eq_false h)]
section
variable {lo:Nat}{h:Heap}{F F':List Nat}{a a':Pq}{c c':Nq}
theorem QM {f:Nat}{a1 a2 a3:Pq}{c1 c2 c3:Nq}{F1 F3:List Nat} (hs1:RNodes false h [.sl 2 a1 p.chain.length c1] p.chain F1) (hs3:RVss false h [.sl 1 a3 p.got.length c3] p.got F3)
  (hok:Av p=true) (hf:f<p.got.length) (hn:FM p):Af lo 258 [.agg (p.cs a1 c1 a2 c2 a3 c3),Iv (f:Nat)] h=some (.bool (JY p f),h):=by
 have h0:=Dl hok;have hchain:=(AL hok).2.2.2.1;have hhl:=NI hok;have hky:∀ v∈p.got[f],0<=v.key/\v.key<(Ey p.chain).length:=λv hv=>by have:=(Bx (LS hok hf hv)).1;omega
 have hgn:p.got[f].length<=1048576:=(hn.2.2.2 _ (zdf hf)).1;suffices hq:∃ h',_=some (V.bool (JY p f),h') from by obtain ⟨h',e⟩:=hq;exact OX e
 rw[Nh hs1 hs3 h0 hf hky hgn];simp only[Ad,Ab];unfold JY;rcases Mw hf with ⟨i,hi,e1,e2⟩ | ⟨e1,e2⟩
 ·rw[e1,e2,Am (by omega),Pp hs1 h0];simp only[Ad,Ax];cases hr:Dz p.chain 0 with
  | false=>exact ⟨h,rfl⟩
  | true =>
   obtain ⟨o3,s3,b3,d3,G3,ha3,ho3,e3,q3,_⟩:=hs3.get hf;obtain ⟨o4,s4,b4,d4,G4,ha4,_,_,_,ho43,_,_,_,_,e4,q4,_⟩:=q3.all hi;obtain ⟨v5,h5,F5,e5,r5,m5⟩:=Mf (lo:=h.length) hs1 (zdj _) hn.1 h0;obtain ⟨a6,c6,e6,r6⟩:=r5.form;rw[Aq,Ac hf];simp only[ha3,Ae,A7,ho3,Aa,e3,Ag];rw[Ac hi];simp only[ha4,Ae,A7,ho43,Aa,e4,Ag];rw[e5];simp only[Ad,AS,Aa,e6,Ag];rw[JN (m5.keep0 rtags_ok q4) r6 (D9 (Bx (LS hok hf (zdf hi))).2.2.2.1) (QJ hchain)];simp only[Ad,Ax];cases CD p.got[f][i].past (Bs p.chain)
   ·exact ⟨h5,rfl⟩
   ·exact ⟨h5,rfl⟩
 ·rw[e1,e2,Aj (by omega)];exact ⟨h,rfl⟩
theorem VE {f:Nat}{a1 a2 a3:Pq}{c1 c2 c3:Nq}{F1 F2 F3:List Nat} (hs1:RNodes false h [.sl 2 a1 p.chain.length c1] p.chain F1) (hs2:RVers false h [.sl 6 a2 p.log.length c2] p.log F2) (hs3:RVss false h [.sl 1 a3 p.got.length c3] p.got F3)
  (hok:Av p=true) (hf:f<p.got.length) (hn:FM p) (ht:JY p f=true) (hnd:(F1++(F2++F3)).Nodup) (hlo:∀ b∈F1++(F2++F3),lo<=b) (hl:lo<=h.length) :
  ∃ a2' c2' h' F',Af lo 259 [.agg (p.cs a1 c1 a2 c2 a3 c3),Iv (f:Nat)] h=some (.agg ((Md p f).cs a1 c1 a2' c2' a3 c3),h')/\B7 false h' ((Md p f).cs a1 c1 a2' c2' a3 c3) (Md p f) F'/\Mv h (F1++(F2++F3)) h' F':=by
 have h0:=Dl hok;have hhl:=NI hok;have hky:∀ v∈p.got[f],0<=v.key/\v.key<(Ey p.chain).length:=λv hv=>by have:=(Bx (LS hok hf hv)).1;omega
 have hgn:p.got[f].length<=1048576:=(hn.2.2.2 _ (zdf hf)).1;have hti:=Bd hok;have hti':Tidy 10 20 100 p:=⟨zdh hti.len (by decide),λx hx=>by have:=hti.node x hx;exact ⟨this.1,zdh this.2.1 (by decide),this.2.2⟩,⟨zdh hti.log.1 (by decide),hti.log.2⟩,hti.got.1,λl hl=>⟨zdh (hti.got.2 l hl).1 (by decide),(hti.got.2 l hl).2⟩⟩;unfold JY at ht;unfold Md;rcases Mw hf with ⟨i,hi,e1,e2⟩ | ⟨e1,e2⟩
 ·rw[e2];simp only;have hv:=LS hok hf (zdf hi);obtain ⟨o3,s3,b3,d3,G3,ha3,ho3,e3,q3,hG3⟩:=hs3.get hf;obtain ⟨o4,s4,b4,d4,G4,ha4,ho4,e4,q4,hG4⟩:=q3.get hi;rw[<- zdv] at hnd hlo;have hnd':=hnd;rw[zdg] at hnd';have hdis:∀ y∈F3,y∉F1++F2:=λy hy hm=>hnd'.2.2 y hm y hy rfl;obtain ⟨h2,a2',c2',h3,F1',F2',e5,e6,r1,r2,m⟩:=Ni (lo:=lo) (v:=p.got[f][i]) (k:=0) (t:=FH p.got[f][i].tag.time p.clock) (a3:=a3) (c3:=c3) hs1 hs2 q4 (λy hy hm=>hdis y (hG3 y (hG4 y hy)) (by simp[hm])) hnd'.1 (λy hy=>hlo y (by rw[zde];exact .inl hy)) hl h0 ((Bx hv).1) hti' (LL hv);have b3':∀ y∈F3,y<h.length:=rvss_ok.bd _ _ _ _ hs3;have m':=m.aside (G:=F3) hnd b3';have hs3':=m.keep rvss_ok hs3 hdis;have hcs:∀ t,(Fe p 0 t p.got[f][i]).cs a1 c1 a2 c2 a3 c3 = [Iv p.me,Iv t,.sl 2 a1 p.chain.length c1,.sl 6 a2 p.log.length c2,.sl 1 a3 p.got.length c3,.bool p.fell]:=λt=>by simp only[Place.cs,Fe,E5]
  rw[hcs] at e6;rw[<- zdv];refine ⟨a2',c2',h3,F1'++F2'++F3,SW ?_,⟨_,_,_,_,_,_,rfl,_,_,_,F1',F2',F3,rfl,by rw[zdv],r1,r2,hs3'⟩,m'⟩;rw[Ac hf];simp only[ha3,Ae,A7,ho3,Aa,e3,Ag];rw[<- ha3];have:=Nh (lo:=h.length) (a2:=a2) (c2:=c2) hs1 hs3 h0 hf hky hgn;simp only[Place.cs] at this;rw[this,e1];simp only[Ad,Ab];rw[Ac hi];simp only[ha4,Ae,A7,ho4,Aa,Ab,e4,BO,AK,Ag];cases hd:decide (p.got[f][i].tag.time>p.clock)
  ·rw[zaj hd] at e6 ⊢;rw[Az];rw[show (0:Int)=((0:Nat):Int) from rfl] at *
   simp only[Ver.cs] at e5;rw[e5];simp only[Ad,AS,Aa,Ai,Ag];rw[e6];simp only[Ad,Place.cs,AS,Aa,Ab,Ai,AK,Ag]
  ·rw[zah hd] at e6 ⊢;rw[Aq];rw[show (0:Int)=((0:Nat):Int) from rfl] at *
   simp only[Ver.cs] at e5;rw[e5];simp only[Ad,AS,Aa,Ai,Ag];rw[e6];simp only[Ad,Place.cs,AS,Aa,Ab,Ai,AK,Ag]
 ·rw[e2] at ht;cases ht
end


theorem Ko {p:Place} (h:Av p=true):Tidy 10 20 100 p:=by have hti:=Bd h;exact ⟨zdh hti.len (by decide),λx hx=>by have:=hti.node x hx;exact ⟨this.1,zdh this.2.1 (by decide),this.2.2⟩,⟨zdh hti.log.1 (by decide),hti.log.2⟩,hti.got.1,λl hl=>⟨zdh (hti.got.2 l hl).1 (by decide),(hti.got.2 l hl).2⟩⟩
theorem QA {k:Int} (h:Ah k 0 2=true):∃ f:Nat,k=(f:Int)/\f<3:=by simp only[Ah,DH,decide_eq_true_eq] at h;exact ⟨k.toNat,by omega,by omega⟩
section
variable {lo:Nat}{h:Heap}{F F':List Nat}{a a':Pq}{c c':Nq}
end


variable {α:Type}{l:List Node}
theorem zci {lo e R bytes n N b i:Nat}{row:List V}{h h2:Heap}{a':Pq}{c':Nq}{m:Nat} (hap:∀ {T:Type} (K:V->Heap->Option T),Dv lo e R bytes (.sl R (some (b,i)) n (some N)) [row] h K=K (.sl R a' m c') h2) (hN:n+1<=N):a'=some (b,i)/\c'=some N:=by have h1:=hap λv _=>some v;simp only[Dv] at h1;obtain ⟨_,h1⟩:=Ay h1;obtain ⟨_,h1⟩:=Ay h1;obtain ⟨_,h1⟩:=Ay h1;rw[show Nat.ble (n + [row].length) N=true from ER hN] at h1;obtain ⟨_,_,h1⟩:=AM h1;injection h1 with h1;injection h1 with _ h2 _ h3;exact ⟨h2.symm,h3.symm⟩
theorem Gu {T:Type}{El:Rel α} (ok:El.Ok) {h0:Heap}{l:List α}{lo R e bytes N:Nat}{p0:Nat×Nat}{F0:List Nat} (hlo:lo<=h0.length) (hF:∀ b∈F0,lo<=b) (hnd:F0.Nodup) (hb:0<bytes) (hsz:l.length*bytes<=140737488355328) (hN:l.length<=N)
  (L:Nat->Pq->Nat->Nq->Heap->Option T)
  (step:∀ i (hi:i<l.length) hh F,Mv h0 F0 hh F->∃ row G h2,El h2 row l[i] G/\Mv hh [] h2 G/\L i (some p0) i (some N) hh=Dv lo e R bytes (.sl R (some p0) i (some N)) [row] h2 λv h=>eS R v λa n c=>L (i+1) a n c h)
  (hs:Sli false R e El h0 [.sl R (some p0) 0 (some N)] [] F0) :
  ∃ h' F',L 0 (some p0) 0 (some N) h0=L l.length (some p0) l.length (some N) h'/\Sli false R e El h' [.sl R (some p0) l.length (some N)] l F'/\Mv h0 F0 h' F':=by
 have loop:∀ m i hh F,m+i=l.length->Mv h0 F0 hh F->Sli false R e El hh [.sl R (some p0) i (some N)] (l.take i) F ->
   ∃ h' F',L i (some p0) i (some N) hh=L l.length (some p0) l.length (some N) h'/\Sli false R e El h' [.sl R (some p0) l.length (some N)] l F'/\Mv h0 F0 h' F':=by
  intro m;induction m with
  | zero =>
   intro i hh F hi hm hr;have:i=l.length:=by omega
   subst this;rw[zeQ] at hr;exact ⟨hh,F,rfl,hr,hm⟩
  | succ m ih =>
   intro i hh F hi hm hr;have hlt:i<l.length:=by omega
   obtain ⟨row,G,h2,hy,m2,e2⟩:=step i hlt hh F hm;have hlen:(l.take i).length=i:=by rw[zdD];omega
   have hml:(i+1)*bytes<=l.length*bytes:=zdI _ hlt;obtain ⟨a5,c5,h5,F5,e5,r5,m5⟩:=DN (lo:=lo) (bytes:=bytes) ok hr (row:=row) (x:=l[i]) (G:=G) (h1:=h2) hy m2 hm.nd (λy hy=>hm.ge hlo hF y hy) (zdh hlo hm.le) hb (by rw[hlen];omega);obtain ⟨b0,i0⟩:=p0;obtain ⟨rfl,rfl⟩:=zci e5 (by omega);rw[hlen] at e5 r5;rw[List.take_append_getElem hlt] at r5;obtain ⟨h',F',e6,r6,m6⟩:=ih (i+1) h5 F5 (by omega) (hm.trans m5) r5;refine ⟨h',F',?_,r6,m6⟩;rw[e2,e5,Ai,e6]
 exact loop l.length 0 h0 F0 (by omega) (Mv.refl hnd) hs
theorem EAll.mono {α:Type}{A B:Rel α}{h:Heap} (hAB:∀ row x F,A h row x F->B h row x F):∀ {rows:List (List V)}{l:List α}{Fs:List (List Nat)},EAll A h rows l Fs->EAll B h rows l Fs
 | [],[],[],_=>trivial
 | _ :: _,_ :: _,_ :: _,⟨h1,h2⟩=>⟨hAB _ _ _ h1,EAll.mono hAB h2⟩
 | [],[],_ :: _,h=>h.elim
 | [],_ :: _,_,h=>h.elim
 | _ :: _,[],_,h=>h.elim
 | _ :: _,_ :: _,[],h=>h.elim
theorem Sli.mono {α:Type}{A B:Rel α}{h:Heap}{R e:Nat}{cs:List V}{l:List α}{F:List Nat} (hAB:∀ row x F,A h row x F->B h row x F) (hs:Sli false R e A h cs l F):Sli false R e B h cs l F:=by
 obtain ⟨R',a,c,e1,g⟩:=hs;refine ⟨R',a,c,e1,?_⟩;cases a with
 | none=>exact g
 | some p =>obtain ⟨b,i⟩:=p;obtain ⟨g0,rs,Fs,g1,g2,g3,g4,g5,g6⟩:=g;exact ⟨g0,rs,Fs,g1,g2,g3,g4,g5.mono hAB,g6⟩
def RNodeC:Rel Node:=λh row x F=>RNode false h row x F/\∃ s a n k,row = [s,.sl 6 a n (some k)]
theorem Tz:RNodeC.Ok:=⟨λh h' cs x F ⟨h1,h2⟩ hb=>⟨rnode_ok.fr _ _ _ _ _ h1 hb,h2⟩,λh cs x F ⟨h1,_⟩=>rnode_ok.bd _ _ _ _ h1⟩
abbrev RNodesC:Rel (List Node):=Sli false 2 (NO false) RNodeC
theorem rnodesC_ok:RNodesC.Ok:=Sli.ok Tz
theorem RNodesC.up {h:Heap}{cs:List V}{F:List Nat} (hs:RNodesC h cs l F):RNodes false h cs l F:=Sli.mono (λ_ _ _ h=>h.1) hs
section
variable {lo:Nat}{h:Heap}{F F' G:List Nat}{a a' av:Pq}{c c' cv:Nq}
theorem OD {l:List Ver} (hs:RVers false h [.sl 6 a l.length c] l F) (hl:lo<=h.length) (hn:Es l) :
  ∃ a' h' F',Af lo 201 [.sl 6 a l.length c] h=some (.sl 6 a' l.length (some l.length),h')/\RVers false h' [.sl 6 a' l.length (some l.length)] l F'/\Mv h [] h' F':=by
 have hn1:=hn.1;have m0:Mv h [] (h ++ [.rows 6 (Kc false) false (List.replicate l.length [Iv 0,Iv 0,Iv 0,.sl 0 none 0 (some 0),.str ⟨⟨[]⟩⟩,.bool false])]) [h.length]:=Mv.last;obtain ⟨h',F',e,r,m⟩:=Gu (El:=RVer false) rver_ok (l:=l) (lo:=lo) (R:=6) (e:=Kc false) (bytes:=72) (N:=l.length) (p0:=(h.length,0)) (F0 := [h.length]) (zdh hl m0.le) (m0.ge hl (by simp)) m0.nd (by decide) (by omega) (zdj _)
  (λi a1 n1 c1 hh=>AZ lo a1 n1 c1 a l.length c (l.length:Nat) (i:Nat) hh) (λi hi hh F1 hm=>by
   have hm':Mv h [] hh []:=(m0.trans hm).drop;obtain ⟨o,s,a2,c2,G,ho,hld,es,hp,_⟩:=(hm'.keep0 rvers_ok hs).get hi;obtain ⟨a3,c3,h3,F3,e3,r3,m3⟩:=Bu (lo:=lo) (v:=l[i]) hp (zdh hl hm'.le) (hn.2 _ (zdf hi)).1;refine ⟨l[i].cs a3 c3,F3,h3 ++ [.rows 6 43 false [l[i].cs a3 c3]],⟨_,rfl,Mv.snoc.keep0 rtags_ok r3⟩,m3.trans (Mv.snoc' m3.nd),?_⟩;rw[AZ.e,Am (by omega),Ac hi,ho];simp only[Ae,A7,hld,Aa,Ab,es,BO,AK,Ag];rw[e3];simp only[Ad,AS,Aa,Ab,Ai,BO,AK,Ag,AX,Au (show i<9223372036854775807 by omega)];rfl) (Sli.fresh (by simp))
 refine ⟨some (h.length,0),h',F',JG ?_,r,m0.trans m⟩;rw[GG (by omega)];refine e.trans ?_;rw[AZ.e,Aj (by omega)]
theorem MC (hs:RNodes false h [.sl 2 a l.length c] l F) (hl:lo<=h.length) (hn:De l) :
  ∃ a' h' F',Af lo 200 [.agg [.sl 2 a l.length c]] h=some (.agg [.sl 2 a' l.length (some l.length)],h')/\RNodesC h' [.sl 2 a' l.length (some l.length)] l F'/\Mv h [] h' F':=by
 have hn1:=hn.1;have m0:Mv h [] (h ++ [.rows 2 (NO false) false (List.replicate l.length [.sl 0 none 0 (some 0),.sl 0 none 0 (some 0)])]) [h.length]:=Mv.last;obtain ⟨h',F',e,r,m⟩:=Gu (El:=RNodeC) Tz (l:=l) (lo:=lo) (R:=2) (e:=47) (bytes:=48) (N:=l.length) (p0:=(h.length,0)) (F0 := [h.length])
  (zdh hl m0.le) (m0.ge hl (by simp)) m0.nd (by decide) (by omega) (zdj _) (λi a1 n1 c1 hh=>BK lo a l.length c (l.length:Nat) (i:Nat) 0 none 0 (some 0) a1 n1 c1 hh) (λi hi hh F1 hm=>by
   have hm':Mv h [] hh []:=(m0.trans hm).drop;obtain ⟨o,s1,s2,b1,d1,b2,d2,G1,G2,ha,ho,_,_,e1,e2,p1,p2,_⟩:=(hm'.keep0 rnodes_ok hs).get hi;have hsm:=hn.2 _ (zdf hi);obtain ⟨a3,c3,h3,F3,e3,r3,m3⟩:=Jy (lo:=lo) p1 (zdh hl hm'.le) hsm.1;obtain ⟨a4,h4,F4,e4,r4,m4⟩:=OD (lo:=lo) (m3.keep0 rvers_ok p2) (zdh hl (zdh hm'.le m3.le)) hsm.2;have m34:=m3.join m4 (rvers_ok.bd _ _ _ _ r3);refine ⟨[.sl 6 a3 l[i].store.length c3,.sl 6 a4 l[i].wait.length (some l[i].wait.length)],F3++F4,h4 ++ [.rows 2 47 false [[.sl 6 a3 l[i].store.length c3,.sl 6 a4 l[i].wait.length (some l[i].wait.length)]]],
    ⟨⟨_,_,F3,F4,rfl,rfl,Mv.snoc.keep0 rvers_ok (m4.keep0 rvers_ok r3),Mv.snoc.keep0 rvers_ok r4⟩,_,_,_,_,rfl⟩,m34.trans (Mv.snoc' m34.nd),?_⟩
   rw[BK.e,Am (by omega),Ac hi,ha];simp only[Ae,A7,ho,Aa,e1,e2,Ag];rw[e3];simp only[Ad,AS,Aa,Ai,Ag];rw[e4];simp only[Ad,Ai,AX,Au (show i<9223372036854775807 by omega)]) (Sli.fresh (by simp))
 refine ⟨some (h.length,0),h',F',Mc ?_,r,m0.trans m⟩;rw[GG (by omega)];refine e.trans ?_;rw[BK.e,Aj (by omega)]
theorem MB {p:Place}{a1 a2 a3:Pq}{c1 c2 c3:Nq}{F1 F2 F3:List Nat} (hs1:RNodes false h [.sl 2 a1 p.chain.length c1] p.chain F1) (hs2:RVers false h [.sl 6 a2 p.log.length c2] p.log F2)
  (hs3:RVss false h [.sl 1 a3 p.got.length c3] p.got F3) (hl:lo<=h.length) (hn:FM p) :
  ∃ a1' a2' c2' a3' c3' h' G1 G2 G3,Af lo 115 [.agg (p.cs a1 c1 a2 c2 a3 c3)] h=some (.agg (p.cs a1' (some p.chain.length) a2' c2' a3' c3'),h')/\RNodesC h' [.sl 2 a1' p.chain.length (some p.chain.length)] p.chain G1 /\
   RVers false h' [.sl 6 a2' p.log.length c2'] p.log G2/\RVss false h' [.sl 1 a3' p.got.length c3'] p.got G3/\Mv h [] h' (G1++(G2++G3)):=by
 have hn1:=hn.2.2.1;obtain ⟨b1,h1,G1,e1,r1,m1⟩:=MC (lo:=h.length) hs1 (zdj _) hn.1;obtain ⟨b2,d2,h2,G2,e2,r2,m2⟩:=Io (lo:=h1.length) (m1.keep0 rvers_ok hs2) (zdj _) hn.2.1;have m12:=m1.join m2 (rnodesC_ok.bd _ _ _ _ r1);have r1':=m2.keep0 rnodesC_ok r1;have hs3':=m2.keep0 rvss_ok (m1.keep0 rvss_ok hs3);have m0:Mv h2 [] (h2 ++ [.rows 1 (zaQ false) false (List.replicate p.got.length [.sl 0 none 0 (some 0)])]) [h2.length]:=Mv.last;obtain ⟨b3,d3,h',F',e,r,m⟩:=MH (El:=RVers false) rvers_ok (h0:=h2 ++ [.rows 1 (zaQ false) false (List.replicate p.got.length [.sl 0 none 0 (some 0)])]) (l:=p.got) (g:=λ_ v=>some (id v)) (lo:=lo) (R:=1) (e:=26) (bytes:=24) (b0 := []) (F0 := [h2.length]) (a0:=some (h2.length,0)) (c0:=some p.got.length)
  (zdh hl (zdh m12.le m0.le)) (m0.ge (zdh hl m12.le) (by simp)) m0.nd (by decide) (by simp;omega) (λi a n c hh=>BJ lo a3 p.got.length c3 (p.got.length:Nat) (i:Nat) 0 0 0 none 0 (some 0) 0 none 0 (some 0) 0 none 0 (some 0) false p.me p.clock b1 p.chain.length (some p.chain.length) b2 p.log.length d2 a n c p.fell hh) (λi hi q1 q2 hh F1 acc hz hacc hm hr=>by
   have hm':Mv h2 [] hh []:=(m0.trans hm).drop;obtain ⟨o,s,b,d,G,rfl,ho,es,hp,_⟩:=(hm'.keep0 rvss_ok hs3').get hi;obtain ⟨a5,c5,h5,F5,e5,r5,m5⟩:=Io (lo:=lo) hp (zdh hl (zdh m12.le (zdh m0.le hm.le))) (hn.2.2.2 _ (zdf hi));refine .inr ⟨p.got[i],[.sl 6 a5 p.got[i].length c5],F5,h5 ++ [.rows 1 26 false [[.sl 6 a5 p.got[i].length c5]]],rfl,Mv.snoc.keep0 rvers_ok r5,m5.trans (Mv.snoc' m5.nd),?_⟩;rw[BJ.e,Am (by omega),Ac hi];simp only[Ae,A7,ho,Aa,es,Ag];rw[e5];simp only[Ad,Ai,AX,Au (show i<9223372036854775807 by omega)]) (Sli.fresh (by simp))
 rw[NK,List.map_id,zdO] at e r;have m3:=m12.join (m0.trans m) (λb hb=>by
   rw[zde] at hb;exact hb.elim (rnodesC_ok.bd _ _ _ _ r1' b) (rvers_ok.bd _ _ _ _ r2 b))
 rw[zdv] at m3;refine ⟨b1,b2,d2,b3,d3,h',G1,G2,F',Ma ?_,(m0.trans m).keep0 rnodesC_ok r1',(m0.trans m).keep0 rvers_ok r2,r,m3⟩;rw[e1];simp only[Ad,AS,Aa,Ai,Ag];rw[e2];simp only[Ad,Ai];rw[GG (by omega)];refine e.trans ?_;rw[BJ.e,Aj (by omega)]
end


variable {h:Heap}{Fs:List (List Nat)}{rs:List (List V)}{z:List V}{α:Type}{El:Rel α}
theorem EAll.erase {α:Type}{El:Rel α}{h:Heap}:∀ {rows:List (List V)}{l:List α}{Fs:List (List Nat)},EAll El h rows l Fs->∀ (k:Nat),EAll El h (rows.eraseIdx k) (l.eraseIdx k) (Fs.eraseIdx k)
 | [],[],[],_,k=>by simp[EAll]
 | _ :: _,_ :: _,_ :: _,⟨_,h2⟩,0=>h2
 | _ :: _,_ :: _,_ :: _,⟨h1,h2⟩,k+1=>⟨h1,h2.erase k⟩
 | [],[],_ :: _,h,_=>h.elim
 | [],_ :: _,_,h,_=>h.elim
 | _ :: _,[],_,h,_=>h.elim
 | _ :: _,_ :: _,[],h,_=>h.elim
theorem JS {k:Nat}{Fk:List Nat} (hk:Fs[k]?=some Fk) (hnd:Fs.flatten.Nodup):(Fs.eraseIdx k).flatten.Nodup/\(∀ y∈(Fs.eraseIdx k).flatten,y∈Fs.flatten/\y∉Fk):=by
 induction Fs generalizing k with
 | nil=>simp at hk
 | cons F Fs ih =>
  rw[zdH,zdg] at hnd;obtain ⟨n1,n2,n3⟩:=hnd;cases k with
  | zero =>simp at hk;subst hk;rw[List.eraseIdx_cons_zero];exact ⟨n2,λy hy=>⟨by simp only[zdH,zde];exact .inr hy,λhm=>n3 y hm y hy rfl⟩⟩
  | succ k =>
   obtain ⟨g1,g2⟩:=ih (k:=k) (by simpa using hk) n2;rw[List.eraseIdx_cons_succ,zdH,zdg];refine ⟨⟨n1,g1,λx hx y hy=>n3 x hx y (g2 y hy).1⟩,λy hy=>?_⟩;rcases zde.1 hy with hy | hy
   ·refine ⟨by simp only[zdH,zde];exact .inl hy,λhm=>?_⟩;exact n3 y hy y (FW (by simpa using hk) hm) rfl
   ·exact ⟨by simp only[zdH,zde];exact .inr (g2 y hy).1,(g2 y hy).2⟩
theorem XN {rs:List (List V)}{i n k:Nat}{z:List V} (hi:i+n<=rs.length) (hk:k<n) :
  let rs1:=rs.take (i+k)++((rs.drop (i+(k+1))).take (n - (k+1)))++rs.drop (i+k+((rs.drop (i+(k+1))).take (n - (k+1))).length)
  ((rs1.take (i+(n - 1)) ++ [z]++rs1.drop (i+(n - 1)+1)).drop i).take (n - 1)=(((rs.drop i).take n)).eraseIdx k/\(rs1.take (i+(n - 1)) ++ [z]++rs1.drop (i+(n - 1)+1)).length=rs.length/\rs1.length=rs.length:=by
 intro rs1;have e0:((rs.drop (i+(k+1))).take (n - (k+1))).length=n - (k+1):=by rw[zdD,zeh];omega
 have e1:rs1.length=rs.length:=by show (rs.take (i+k)++((rs.drop (i+(k+1))).take (n - (k+1)))++rs.drop (i+k+((rs.drop (i+(k+1))).take (n - (k+1))).length)).length=rs.length;rw[zdy,zdy,zdD,zeh,e0];omega
 refine ⟨?_,?_,e1⟩
 ·apply List.ext_getElem?;intro j;have hget:∀ q,q<i+(n - 1)->rs1[q]?=if q<i+k then rs[q]? else rs[q+1]?:=by
   intro q hq;show (rs.take (i+k)++((rs.drop (i+(k+1))).take (n - (k+1)))++rs.drop (i+k+((rs.drop (i+(k+1))).take (n - (k+1))).length))[q]?=_;by_cases h1:q<i+k
   ·rw[if_pos h1,zdl (by rw[zdy,zdD];omega),zdl (by rw[zdD];omega),zdK,if_pos h1]
   ·rw[if_neg h1,zdl (by rw[zdy,zdD,e0];omega),zdC (by rw[zdD];omega),zdD,zdK,if_pos (by omega),zdG];congr 1;omega
  rw[zdK,zdG,List.getElem?_eraseIdx];by_cases hj:j<n - 1
  ·rw[if_pos hj,zdl (by rw[zdy,zdD];omega),zdl (by rw[zdD];omega),zdK,if_pos (by omega),hget _ (by omega)];by_cases hjk:j<k
   ·rw[if_pos (by omega),if_pos hjk,zdK,if_pos (by omega),zdG]
   ·rw[if_neg (by omega),if_neg hjk,zdK,if_pos (by omega),zdG];congr 1
  ·rw[if_neg hj];by_cases hjk:j<k
   ·omega
   ·rw[if_neg hjk,zdK,if_neg (by omega)]
 ·rw[zdy,zdy,zdD,zeh,e1];simp only[zd2];omega
theorem Ts {lo:Nat}{b i R e:Nat}{xs:List (List V)} (hb:h[b]?=some (.rows R e false rs)) (hlo:lo<=b) (hi:i+xs.length<=rs.length):FU lo h b i xs=some (h.set b (.rows R e false (rs.take i++xs++rs.drop (i+xs.length)))):=by simp only[FU,hb,ER hlo,ER hi]
theorem Sli.del {T:Type} (ok:El.Ok) {lo R e n k bytes:Nat}{a:Pq}{c:Nq}{l:List α}{F:List Nat}{x1 x2:Int} (hs:Sli false R e El h [.sl R a n c] l F) (hk:k<l.length) (hnd:F.Nodup) (hlo:∀ b∈F,lo<=b)
  (h1:x1=(k:Nat)) (h2:x2=(k:Nat)+1) (hb:0<bytes) (hsz:l.length*bytes<=140737488355328) (X:Option T) (K:V->Heap->Option T) :
  ∃ h' F' Fk b i row,a=some (b,i)/\ld h b (i+k) 0 row.length=some row/\El h row (l[k]'hk) Fk/\(∀ y∈Fk,y∈F/\y∉F'/\y≠b) /\
   (Aw a (EP h a n c) c (some (Iv x1)) (some (Iv x2)) (some (Iv (n:Nat))) λ_ _ _=>br (x1==x2) X (Aw a n c none (some (Iv x1)) none λa3 n4 c5=>Aw a n c (some (Iv x2)) none none λa6 n7 c8=>As R h (.sl R a6 n7 c8) λx9 =>
    Dv lo e R bytes (.sl R a3 n4 c5) x9 h λv10 h11=>eS R v10 λa12 n13 c14=>Aw a12 (EP h11 a12 n13 c14) c14 (some (Iv (n13:Nat))) (some (Iv (n:Nat))) none λa15 n16 c17=>ZO lo R R true z h11 a15 n16 λh18=>K (.sl R a12 n13 c14) h18))=K (.sl R a (l.length - 1) c) h' /\
   Sli false R e El h' [.sl R a (l.length - 1) c] (l.eraseIdx k) F'/\Mv h F h' F'/\(∀ y,y≠b->h'[y]?=h[y]?):=by
 have hn:=hs.val;subst hn;obtain ⟨R1,a1,c1,e1,g⟩:=hs;injection e1 with e1 _;injection e1 with e0 e2 _ e3;subst e2;subst e3;cases a with
 | none=>obtain ⟨rfl,_⟩:=g;simp at hk
 | some p =>
 obtain ⟨b,i⟩:=p;obtain ⟨_,rs,Fs,g1,g2,g3,g4,g5,rfl⟩:=g;obtain ⟨row,Fk,hrow,hFk,hel⟩:=g5.get (DZ hk);have hlob:=hlo b (by simp);rw[zdn] at hnd;obtain ⟨f1,f2⟩:=JS hFk hnd.2;have hblt:b<h.length:=(DY g1).1;have hri:rs[i+k]?=some row:=by rw[zdK,if_pos hk,zdG] at hrow;exact hrow
 have e0:((rs.drop (i+(k+1))).take (l.length - (k+1))).length=l.length - (k+1):=by rw[zdD,zeh];omega
 obtain ⟨r1,r2,r3⟩:=XN (z:=z) g2 hk;generalize hxs:(rs.drop (i+(k+1))).take (l.length - (k+1))=xs at e0 r1 r2 r3;generalize hrs1:rs.take (i+k)++xs++rs.drop (i+k+xs.length)=rs1 at r1 r2 r3;have fr:∀ (X:Blk) y,y≠b->(h.set b X)[y]?=h[y]?:=λX y hy=>zdi (Ne.symm hy);have hbFs:∀ y∈Fs.flatten,y≠b:=λy hy e=>hnd.1 (e ▸ hy);have m:∀ X:Blk,Mv h (b :: Fs.flatten) (h.set b X) (b ::(Fs.eraseIdx k).flatten):=λX=>⟨by simp,λy hy hF=>by
  rw[zdm,not_or] at hF;exact fr X y hF.1,by rw[zdn];exact ⟨λhm=>hnd.1 (f2 b hm).1,f1⟩,λy hy=>by
  rcases zdm.1 hy with rfl | hy
  ·exact .inl (by simp)
  ·exact .inl (by simp[(f2 y hy).1])⟩
 have fin:∀ rsX:List (List V),(rsX.drop i).take (l.length - 1)=((rs.drop i).take l.length).eraseIdx k->rsX.length=rs.length->Sli false R e El (h.set b (.rows R e false rsX)) [.sl R (some (b,i)) (l.length - 1) c] (l.eraseIdx k) (b ::(Fs.eraseIdx k).flatten):=λrsX hX hXl=>by have hle:(l.eraseIdx k).length=l.length - 1:=zdN hk;refine ⟨R,some (b,i),c,by rw[hle],rfl,rsX,Fs.eraseIdx k,by simp[hblt],by rw[hle,hXl];omega,λq hq=>by have:=g3 q hq;rw[hle,hXl];omega,g4,?_,rfl⟩;rw[hle,hX];exact (g5.erase k).fr ok.fr λy hy=>fr _ y (hbFs y (f2 y hy).1)
 have hmul:(k+xs.length)*bytes<=140737488355328:=zdh (zdI _ (by omega)) hsz;refine ⟨h.set b (.rows R e false (rs1.take (i+(l.length - 1)) ++ [z]++rs1.drop (i+(l.length - 1)+1))),b ::(Fs.eraseIdx k).flatten,Fk,b,i,row,rfl,by rw[CA g1 hri];exact GN rfl,hel,λy hy=>?_,?_,fin _ r1 r2,m _,λy hy=>fr _ y hy⟩
 ·have hyF:=FW hFk hy;exact ⟨by simp[hyF],λhm=>by
   rcases zdm.1 hm with rfl | hm
   ·exact hbFs y hyF rfl
   ·exact (f2 y hm).2 hy,hbFs y hyF⟩
 have hx12:(x1==x2)=false:=by rw[beq_eq_false_iff_ne,h1,h2];omega
 have hRR:Nat.beq R R=true:=LC;have hroom:∀ (hh:Heap) (rs':List (List V)) (q:Nat),hh[b]?=some (.rows R e false rs')->q<=EP hh (some (b,i)) q c/\(c=none->rs'.length - i<=EP hh (some (b,i)) q c):=λhh rs' q hq=>by
  unfold EP;cases c with
  | some _=>exact ⟨zdj _,λe=>by cases e⟩
  | none =>simp only[Heap.rows?,hq];exact ⟨Nat.le_max_left _ _,λ_=>Nat.le_max_right _ _⟩
 have hr0:=(hroom h rs l.length g1).1;generalize EP h (some (b,i)) l.length c=M0 at hr0;have s1:∀ (Y:Option T),(Aw (some (b,i)) M0 c (some (Iv x1)) (some (Iv x2)) (some (Iv (l.length:Nat))) λ_ _ _=>Y)=Y:=λY=>by
  unfold Aw Hf Kq La;simp only[Ab,A7,Option.isNone_some];have q0:Xy x2 l.length (Xy x1 x2.toNat (Mp (some (b,i)) x2.toNat (some l.length) x1.toNat λ_ _ _=>Y))=Y:=by rw[DD ⟨by rw[h2];omega,by rw[h2];omega⟩,DD ⟨by rw[h1];omega,by rw[h1,h2];omega⟩];unfold Mp;simp only;cases Nat.beq l.length x1.toNat<;>rfl
  cases c with
  | some N=>have:=g3 N rfl;simp only;rw[DD ⟨by omega,by omega⟩];exact q0
  | none=>simp only;rw[DD ⟨by omega,by omega⟩];exact q0
 have s2:∀ (K:Pq->Nat->Nq->Option T),Aw (some (b,i)) l.length c none (some (Iv x1)) none K=K (some (b,i)) k c:=λK=>by
  unfold Aw Hf Kq La;simp only[Ab,zep];cases c with
  | some N =>have:=g3 N rfl;simp only;rw[DD ⟨by rw[h1];omega,by rw[h1];omega⟩,h1,A7]
  | none =>simp only;rw[DD ⟨by rw[h1];omega,by rw[h1];omega⟩,h1,A7]
 have s3:∀ (K:List (List V)->Option T),(Aw (some (b,i)) l.length c (some (Iv x2)) none none λa6 n7 c8=>As R h (.sl R a6 n7 c8) K)=K xs:=λK=>by
  unfold Aw Hf Kq La;simp only[Ab,zep];have ht:x2.toNat=k+1:=by rw[h2];omega
  rw[DD ⟨by rw[h2];omega,by rw[h2];omega⟩,ht];unfold Mp;simp only;have rows:∀ cc:Nq,As R h (.sl R (some (b,i+(k+1))) (l.length - (k+1)) cc) K=K xs:=λcc=>by
   cases hm:l.length - (k+1) with
   | zero =>have hx0:xs = []:=zdp (by omega);rw[hx0];simp[As,hRR,A8]
   | succ m =>
    simp only[As,hRR,DA];rw[show EQ h b (i+(k+1)) (m+1)=some xs by
     simp only[EQ,Heap.rows?,g1,zdF];rw[ER (by omega),<- hm,hxs]]
    rfl
  cases c with
  | none=>exact rows none
  | some N =>
   have:=g3 N rfl;simp only;cases hb:Nat.beq N (k+1) with
   | false=>rw[Az];exact rows _
   | true =>
    have hN:=zdo hb;have hm:l.length - (k+1)=0:=by omega
    have hx0:xs = []:=zdp (by omega);rw[Aq,hx0,hm];simp[As,hRR,A8]
 have s4:∀ (K:V->Heap->Option T),∃ h11,h11[b]?=some (.rows R e false rs1)/\(∀ X:Blk,h11.set b X=h.set b X)/\Dv lo e R bytes (.sl R (some (b,i)) k c) xs h K=K (.sl R (some (b,i)) (l.length - 1) c) h11:=λK=>by
  cases hx:xs with
  | nil =>
   rw[hx] at e0 hrs1;simp only[zet] at e0;have hk1:k=l.length - 1:=by omega
   refine ⟨h,?_,λX=>rfl,?_⟩
   ·rw[g1,<- hrs1];simp
   ·simp only[Dv];rw[<- hk1]
  | cons x0 xr =>
   have hl1:k+(x0 :: xr).length=l.length - 1:=by rw[<- hx,e0];omega
   refine ⟨h.set b (.rows R e false rs1),by simp[hblt],λX=>by rw[zd1],?_⟩;have hst:FU lo h b (i+k) (x0 :: xr)=some (h.set b (.rows R e false rs1)):=by rw[Ts g1 hlob (by rw[Nat.add_assoc,hl1];omega),<- hx,hrs1]
   have hmul':decide ((k+(x0 :: xr).length)*bytes<=Nt)=true:=decide_eq_true (by rw[<- hx];exact hmul);have hbb:Nat.blt 0 bytes=true:=by simpa [zeN] using hb
   simp only[Dv];rw[hbb,DA,hmul',DA,hRR,DA];cases c with
   | some N =>have:=g3 N rfl;have hle:Nat.ble (k+(x0 :: xr).length) N=true:=ER (by omega);simp only;rw[hle,hst];rw[hl1];rfl
   | none =>
    have how:Heap.own? lo e h b=some rs:=by simp only[Heap.own?,g1,ER hlob,LC]
    have hle:Nat.ble (i+k+(x0 :: xr).length) rs.length=true:=ER (by rw[Nat.add_assoc,hl1];omega);simp only;rw[how,Ae,hle,hst];rw[hl1];rfl
 rw[s1,hx12,Az,s2,s3];obtain ⟨h11,q1,q2,q3⟩:=s4 λv10 h11=>eS R v10 λa12 n13 c14=>Aw a12 (EP h11 a12 n13 c14) c14 (some (Iv (n13:Nat))) (some (Iv (l.length:Nat))) none λa15 n16 c17=>ZO lo R R true z h11 a15 n16 λh18=>K (.sl R a12 n13 c14) h18;rw[q3,Ai];have hlen:(l.length - (l.length - 1))=1:=by omega
 have hst:FU lo h11 b (i+(l.length - 1)) (List.replicate 1 z)=some (h.set b (.rows R e false (rs1.take (i+(l.length - 1)) ++ [z]++rs1.drop (i+(l.length - 1)+1)))):=by rw[Ts q1 hlob (by simp;omega),q2];rfl
 obtain ⟨_,hr11⟩:=hroom h11 rs1 (l.length - 1) q1;generalize EP h11 (some (b,i)) (l.length - 1) c=M1 at hr11;unfold Aw Hf Kq La;simp only[Ab,A7,zep];cases c with
 | some N =>
  have:=g3 N rfl;have hne:Nat.beq N (l.length - 1)=false:=by
   cases hb:Nat.beq N (l.length - 1) with
   | false=>rfl
   | true=>have:=zdo hb;omega
  simp only;rw[DD ⟨by omega,by omega⟩,DD ⟨by omega,by omega⟩];unfold Mp;simp only;rw[hne,Az,hlen];simp only[ZO,hRR,zeT,DA,hst,Ae]
 | none =>have:=hr11 rfl;simp only;rw[DD ⟨by omega,by omega⟩,DD ⟨by omega,by omega⟩];unfold Mp;simp only;rw[hlen];simp only[ZO,hRR,zeT,DA,hst,Ae]


variable {l:List Node}
def Gq (l:List Node) (k:Nat):List Node:=match l[k]? with
 | some x=>l.set k ⟨x.store,x.wait.eraseIdx 0⟩
 | none=>l
def Uz (l:List Node) (k:Nat):Bool:=match l[k]? with
 | some x=>decide (0<x.wait.length)&&Dz l (k+1)
 | none=>false
def Bw (l:List Node) (k:Int):Bool:=Ah k 0 ((l.length:Int) - 2)&&Uz l k.toNat
def FG (l:List Node) (k:Nat):List Node:=match l[k]? with
 | some x=>match x.wait[0]? with
  | some v=>GR (Gq l k) (k+1) v
  | none=>l
 | none=>l
theorem IT {k:Nat} (hk:k<l.length):Gq l k=l.set k ⟨l[k].store,l[k].wait.eraseIdx 0⟩:=by unfold Gq;rw[DZ hk]
theorem LW {k:Nat}:(Gq l k).length=l.length:=by unfold Gq;split<;>simp
theorem Ku {k:Nat} (hk:k<l.length):Uz l k=(decide (0<l[k].wait.length)&&Dz l (k+1)):=by unfold Uz;rw[DZ hk]
theorem TF {k:Nat} (hk:k<l.length) (h0:0<l[k].wait.length):FG l k=GR (Gq l k) (k+1) (l[k].wait[0]'h0):=by unfold FG;rw[DZ hk];simp only;rw[DZ h0]
theorem Sli.at2 {α:Type}{El:Rel α} (ok:El.Ok) {h:Heap}{R R' e n k lo:Nat}{a:Pq}{c:Nq}{l:List α}{F:List Nat} (hs:Sli false R e El h [.sl R' a n c] l F) (hk:k<l.length) (hnd:F.Nodup) (hlo:∀ b∈F,lo<=b) :
  ∃ b i rs row G,a=some (b,i)/\b∈F/\b∉G/\h[b]?=some (.rows R e false rs)/\rs[i+k]?=some row/\El h row l[k] G/\(∀ y∈G,y∈F)/\G.Nodup /\
   (∀ h1 G1 j cs row' x',Mv h G h1 G1->paste row j cs=some row'->El h1 row' x' G1 ->
    ∃ h2 F',st lo h1 b (i+k) j cs=some h2/\Sli false R e El h2 [.sl R' a n c] (l.set k x') F'/\Mv h F h2 F'/\(∀ y,y≠b->h2[y]?=h1[y]?)/\∀ y∈F',(y∈F/\y∉G)\/y∈G1):=by
 have hbd:=(Sli.ok ok).bd _ _ _ _ hs;obtain ⟨b,i,rs,row,G,ha,hbF,hbG,hb,hrow,hel,hGF,hGn,put⟩:=hs.put ok.fr hk hnd;have hblt:b<h.length:=hbd b hbF;refine ⟨b,i,rs,row,G,ha,hbF,hbG,hb,hrow,hel,hGF,hGn,λh1 G1 j cs row' x' m hp hx=>?_⟩;have hbG1:b∉G1:=λhm=>by
  rcases m.sub b hm with h1 | h1
  ·exact hbG h1
  ·omega
 have hb1:h1[b]?=some (.rows R e false rs):=by rw[m.fr b hblt hbG];exact hb
 have hb1lt:b<h1.length:=zdq hblt m.le;have e2:=Bt hb1 (hlo b hbF) hrow hp;have fr2:∀ y,y≠b->(h1.set b (.rows R e false (rs.set (i+k) row')))[y]?=h1[y]?:=λy hy=>zdi (Ne.symm hy);obtain ⟨F',p1,p2,p3,_⟩:=put (h1.set b (.rows R e false (rs.set (i+k) row'))) row' x' G1 (by simp[hb1lt]) (λy hy hyb hyG=>by rw[fr2 y hyb];exact m.fr y (hbd y hy) hyG)
  (ok.fr _ _ _ _ _ hx λy hy=>fr2 y λe=>hbG1 (e ▸ hy)) m.nd (λy hy hyF=>by
  rcases m.sub y hy with h1 | h1
  ·exact h1
  ·have:=hbd y hyF;omega)
 refine ⟨_,F',e2,p1,⟨by simpa using m.le,λy hy hyF=>?_,p3,λy hy=>?_⟩,fr2,p2⟩
 ·rw[fr2 y λe=>hyF (e ▸ hbF)];exact m.fr y hy λhg=>hyF (hGF y hg)
 ·rcases p2 y hy with h1 | h1
  ·exact .inl h1.1
  ·refine (m.sub y h1).imp (hGF y) λh=>by simpa using h
section
variable {lo:Nat}{ro:Bool}{h:Heap}{F F' G:List Nat}{a a' av:Pq}{c c' cv:Nq}
theorem ZW {l:List Ver} (hs:RVers false h [.sl 6 a l.length c] l F) (h0:0<l.length) (hnd:F.Nodup) (hl:lo<=h.length) (hn:l.length<=1048576) :
  ∃ o s av cv Gv,a=some o/\ld h o.1 (o.2+0) 0 6=some [Iv l[0].key,Iv l[0].tag.time,Iv l[0].tag.place,s,.str l[0].text,.bool l[0].gone]/\(∀ {T:Type} (K:Pq->Nat->Nq->Option T),eS 2 s K=K av l[0].past.length cv)/\RTags false h [.sl 2 av l[0].past.length cv] l[0].past Gv /\
   ∃ a' c' h' F',(∀ {T:Type} (K:V->Heap->Option T),(Aw a l.length c (some (Iv 1)) none none λa n c=>As 6 (h ++ [.rows 6 43 false []]) (.sl 6 a n c) λxs=>Dv lo 43 6 72 (.sl 6 (some (h.length,0)) 0 (some 0)) xs (h ++ [.rows 6 43 false []]) K)=K (.sl 6 a' (l.eraseIdx 0).length c') h') /\
    RVers false h' [.sl 6 a' (l.eraseIdx 0).length c'] (l.eraseIdx 0) F'/\Mv h F h' F'/\(∀ y∈Gv,y∉F'/\y∈F)/\∀ y,y<h.length->h'[y]?=h[y]?:=by
 have hbd:=rvers_ok.bd _ _ _ _ hs;obtain ⟨R1,a1,c1,e1,g⟩:=hs;injection e1 with e1 _;injection e1 with e0 e2 _ e3;subst e2;subst e3;cases a with
 | none=>obtain ⟨rfl,_⟩:=g;simp at h0
 | some p =>
 obtain ⟨b,i⟩:=p;obtain ⟨_,rs,Fs,g1,g2,g3,_,g5,rfl⟩:=g;obtain ⟨row,Fk,hrow,hFk,hel⟩:=g5.get (DZ h0);rw[zdn] at hnd;obtain ⟨f1,f2⟩:=JS hFk hnd.2;have hri:rs[i]?=some row:=by rw[zdK,if_pos h0,zdG] at hrow;exact hrow
 obtain ⟨s,av,cv,rfl,es,hp⟩:=hel.form;have hil:i<rs.length:=by omega
 have hcut:((rs.drop i).take l.length).eraseIdx 0=(rs.drop (i+1)).take (l.length - 1):=by rw[zdw hil,show l.length=(l.length - 1)+1 by omega,List.take_succ_cons,List.eraseIdx_cons_zero];simp
 have g6:=g5.erase 0;rw[hcut] at g6;have hlen:=zdN h0;generalize hxs:(rs.drop (i+1)).take (l.length - 1)=xs at g6;have hxl:xs.length=l.length - 1:=by rw[<- hlen];exact g6.len.1
 have m0:Mv h [] (h ++ [.rows 6 43 false []]) [h.length]:=Mv.last;have hb1:(h ++ [.rows 6 43 false []])[b]?=some (.rows 6 (Kc false) false rs):=by rw[m0.fr b (hbd b (by simp)) (by simp)];exact g1
 have s3:∀ {T:Type} (K:List (List V)->Option T),(Aw (some (b,i)) l.length c (some (Iv 1)) none none λa6 n7 c8=>As 6 (h ++ [.rows 6 43 false []]) (.sl 6 a6 n7 c8) K)=K xs:=λK=>by
  unfold Aw Hf Kq La;simp only[Ab,zep];rw[DD ⟨by omega,by omega⟩,show ((1:Int)).toNat=1 from rfl];have key:∀ c8:Nq,As 6 (h ++ [.rows 6 43 false []]) (.sl 6 (some (b,i+1)) (l.length - 1) c8) K=K xs:=λc8=>by
   simp only[As,LC,DA];cases hm:l.length - 1 with
   | zero =>have hx0:xs = []:=zdp (by omega);rw[hx0]
   | succ m =>
    simp only;rw[show EQ (h ++ [.rows 6 43 false []]) b (i+1) (m+1)=some xs by
     simp only[EQ,Heap.rows?,hb1,zdF];rw[ER (by omega),<- hm,hxs]]
    rfl
  cases c with
  | none=>exact key none
  | some N =>
   obtain ⟨hN,_⟩:=g3 N rfl;unfold Mp;simp only;cases hb:Nat.beq N 1 with
   | false=>rw[Az];exact key _
   | true =>have:=zdo hb;have hx0:xs = []:=zdp (by omega);rw[Aq,show l.length - 1=0 by omega,hx0];simp[As,A8]
 have hfl:∀ y∈(Fs.eraseIdx 0).flatten,y<h.length:=λy hy=>hbd y (by simp[(f2 y hy).1]);refine ⟨(b,i),s,av,cv,Fk,rfl,by rw[CA g1 (by rw[zdY];exact hri)];rfl,es,hp,?_⟩;have hFkb:∀ y∈Fk,y∈Fs.flatten:=λy hy=>FW hFk hy;by_cases he:l.eraseIdx 0 = []
 ·have hx0:xs = []:=zdp (by rw[hxl,<- hlen,he];rfl);refine ⟨some (h.length,0),some 0,_,[h.length],λK=>by rw[s3,hx0];simp only[Dv];rw[he];rfl,by rw[he];exact Sli.fresh (zdj _),?_,λy hy=>?_,λy hy=>m0.fr y hy (by simp)⟩
  ·exact m0.wide (by simp)
  ·have:=hbd y (by simp[hFkb y hy]);exact ⟨by simp;omega,by simp[hFkb y hy]⟩
 ·have hfresh:RVers false (h ++ [.rows 6 (Kc false) false []]) [.sl 6 (some (h.length,0)) 0 (some 0)] [] [h.length]:=Sli.fresh (zdj _);obtain ⟨a',c',h',F',p1,p2,p3,p4,p5,p6⟩:=Sli.push (lo:=lo) (bytes:=72) rver_ok.fr hfresh (xs:=xs) (ys:=l.eraseIdx 0) (Gs:=Fs.eraseIdx 0) (g6.fr rver_ok.fr λy hy=>m0.fr y (hfl y hy) (by simp)) (by decide) (by rw[hlen];simp;omega) (by simp;omega) (by simp;omega)
   (by rw[zdT,zdO,zdn];exact ⟨λhm=>by have:=hfl _ hm;omega,f1⟩) (λy hy=>by
    rw[zdT,zdO,zdm] at hy;rcases hy with rfl | hy
    ·simp
    ·have:=hfl y hy;simp;omega) he
  simp only[zet,zdR,zdO] at p1 p2;have hfr:∀ y,y<h.length->h'[y]?=h[y]?:=λy hy=>by rw[p4 y (by simp;omega) (by simp;omega)];exact m0.fr y hy (by simp)
  refine ⟨a',c',h',F',λK=>by rw[s3];exact p1 K,p2,⟨by simp at p3;omega,λy hy _=>hfr y hy,p6,λy hy=>?_⟩,λy hy=>⟨λhm=>?_,by simp[hFkb y hy]⟩,hfr⟩
  ·simp at p3;rcases p5 y hy with g | g
   ·rw[zdT,zdO,zdm] at g;rcases g with rfl | g
    ·exact .inr (by omega)
    ·exact .inl (by simp[(f2 y g).1])
   ·simp at g;exact .inr (by omega)
  ·have hyl:=hbd y (by simp[hFkb y hy]);rcases p5 y hm with g | g
   ·rw[zdT,zdO,zdm] at g;rcases g with rfl | g
    ·omega
    ·exact (f2 y g).2 hy
   ·simp at g;omega
theorem WY {k:Int} (hs:RNodes ro h [.sl 2 a l.length c] l F) (hn:l.length<=1048576):Af lo 253 [.agg [.sl 2 a l.length c],Iv k] h=some (.bool (Bw l k),h):=by
 refine Vf (h':=h) ?_;rw[wr (by omega) (by omega),B0,Ad,Ax];unfold Bw;cases hw:Ah k 0 ((l.length:Int) - 2) with
 | false=>rw[Az];rfl
 | true =>
 simp only[Ah,DH,decide_eq_true_eq] at hw;obtain ⟨f,rfl⟩:∃ f:Nat,k=(f:Int):=⟨k.toNat,by omega⟩;have hk:f<l.length:=by omega
 have hk1:f+1<l.length:=by omega
 obtain ⟨o,s1,s2,b1,d1,b2,d2,G1,G2,ha,_,_,ho2,_,e2,_⟩:=hs.get hk;obtain ⟨o',s1',s2',b1',d1',b2',d2',G1',G2',ha',_,_,ho2',_,e2',_⟩:=hs.get hk1;have:o=o':=by rw[ha] at ha';injection ha'
 subst this;rw[A7,Ku hk,IZ hk1,Aq,Ac hk,ha,Ae,ho2,Ae,Aa,Ag,e2];by_cases h0:0<l[f].wait.length
 ·rw[Am (by omega),Au (by omega),Ac hk1,Ae,A7,ho2',Ae,Aa,Ag,e2',decide_eq_true h0];by_cases h6:l[f+1].wait.length<6
  ·rw[Am (by omega),decide_eq_true h6];rfl
  ·rw[Aj (by omega),decide_eq_false h6];rfl
 ·rw[Aj (by omega),decide_eq_false h0];rfl
def Xn (x:Node):Prop:=GE 20 x/\∀ v∈x.wait,0<=v.key/\v.key<=3
theorem VF {k:Nat} (hs:RNodes false h [.sl 2 a l.length c] l F) (hk:k+1<l.length) (h0:0<(l[k]'(by omega)).wait.length) (hnd:F.Nodup) (hlo:∀ b∈F,lo<=b) (hl:lo<=h.length) (hn:De l) (hx:∀ x∈l,Xn x) :
  ∃ h' F',Af lo 254 [.agg [.sl 2 a l.length c],Iv (k:Nat)] h=some (.agg [.sl 2 a l.length c],h')/\RNodes false h' [.sl 2 a l.length c] (FG l k) F'/\Mv h F h' F':=by
 have hk':k<l.length:=by omega
 have hn1:=hn.1;suffices hq:∃ h' F',_=some (V.agg [.sl 2 a l.length c],h')/\RNodes false h' [.sl 2 a l.length c] (FG l k) F'/\Mv h F h' F' from hq.imp λh' hq=>hq.imp λF' hq=>⟨S1 hq.1,hq.2⟩
 obtain ⟨b,i,rs,row,G0,ha,hbF,hbG,hb,hrow,hel,hGF,hGn,put⟩:=hs.at2 rnode_ok hk' hnd hlo;obtain ⟨t1,t2,F1,F2,rfl,rfl,r1,r2⟩:=hel;obtain ⟨a2,c2,e2,r2'⟩:=r2.form;have hGn0:=hGn;rw[zdg] at hGn;obtain ⟨o,s,av,cv,Gv,ho,hld,es,hp,a3,c3,h3,F3,e3,r3,m3,hGv,fr3⟩:=ZW (lo:=lo) r2' h0 hGn.2.1 hl (hn.2 _ (zdf hk')).2.1;have b1:∀ y∈F1,y<h.length:=rvers_ok.bd _ _ _ _ r1;have m4:=(m3.aside (G:=F1) (by rw[zdg];exact ⟨hGn.2.1,hGn.1,λx hx y hy e=>hGn.2.2 y hy x hx e.symm⟩) b1).swap;have r1':RVers false h3 [t1] l[k].store F1:=rvers_ok.fr _ _ _ _ _ r1 λy hy=>fr3 y (b1 y hy);obtain ⟨h4,F4,e4,r4,m5,fr4,sub4⟩:=put h3 (F1++F3) 1 [.sl 6 a3 (l[k].wait.eraseIdx 0).length c3] [t1,.sl 6 a3 (l[k].wait.eraseIdx 0).length c3] ⟨l[k].store,l[k].wait.eraseIdx 0⟩ m4 rfl ⟨_,_,F1,F3,rfl,rfl,r1',r3⟩;rw[<- IT hk'] at r4;have hln:=LW (l:=l) (k:=k);have hGvG:∀ y∈Gv,y∈F1++F2:=λy hy=>by simp[(hGv y hy).2]
 have hGvl:∀ y∈Gv,y<h.length:=rtags_ok.bd _ _ _ _ hp;have hd:∀ y∈Gv,y∉F4:=λy hy hm=>by
  rcases sub4 y hm with g | g
  ·exact g.2 (hGvG y hy)
  ·rcases zde.1 g with g | g
   ·exact hGn.2.2 y g y (hGv y hy).2 rfl
   ·exact (hGv y hy).1 g
 have hp4:RTags false h4 [.sl 2 av (l[k].wait[0]'h0).past.length cv] (l[k].wait[0]'h0).past Gv:=rtags_ok.fr _ _ _ _ _ hp λy hy=>by rw[fr4 y λe=>hbG (by rw[<- e];exact hGvG y hy),fr3 y (hGvl y hy)]
 have hpx:=hx _ (zdf hk');have hky:=hpx.2 _ (zdf h0);have hth:=hpx.1.2.2.2 _ (zdf h0);have hk1:k+1<(Gq l k).length:=by rw[hln];exact hk
 have hst1:(Gq l k)[k+1].store.length=4:=by
  have:(Gq l k)[k+1]=l[k+1]:=by have e:=IT hk';rw[zeY e,List.getElem_set_ne (by omega)]
  rw[this];exact (hx _ (zdf hk)).1.1
 have hnd5:De (Gq l k):=by
  refine ⟨by rw[hln];exact hn1,λx hx'=>?_⟩;rw[IT hk'] at hx';rcases zdE hx' with hx' | rfl
  ·exact hn.2 x hx'
  ·have:=hn.2 _ (zdf hk');exact ⟨this.1,QR this.2 (zdh (zeB _ _) this.2.1) λv hv=>zed hv⟩
 rw[<- hln] at r4;obtain ⟨h5,F5,e5,r5,m6⟩:=QO (lo:=lo) (k:=k+1) (v:=l[k].wait[0]'h0) r4 hp4 hd m5.nd (λy hy=>m5.ge hl hlo y hy) (zdh hl m5.le) hk1 ⟨hky.1,by omega⟩ hnd5 (by have:=hth.1;omega);rw[hln] at e5 r5;rw[<- TF hk' h0] at r5;have hblt:b<h.length:=(DY hb).1;have ld1:ld h b (i+k) 1 1=some [t2]:=by rw[CA hb hrow];rfl
 have ld2:ld (h ++ [.rows 6 43 false []]) b (i+k) 1 1=some [t2]:=by rw[CA (by rw[zdl hblt];exact hb) hrow];rfl
 simp only[Ver.cs] at e5;have e5':Af lo 129 [.agg [.sl 2 a l.length c],Iv ((k:Nat)+1:Int),.agg [Iv (l[k].wait[0]'h0).key,Iv (l[k].wait[0]'h0).tag.time,Iv (l[k].wait[0]'h0).tag.place,.sl 2 av (l[k].wait[0]'h0).past.length cv,.str (l[k].wait[0]'h0).text,.bool (l[k].wait[0]'h0).gone]] h4=some (.agg [.sl 2 a l.length c],h5):=by rw[show ((k:Nat)+1:Int)=((k+1:Nat):Int) by omega];exact e5
 rw[Ac hk',ha,Ae,A7,ld1,Ae,Aa,Ag,e2,DE ⟨by omega,by omega⟩,ho,Ae,hld,Ae,Aa,Ab,Aa,Ab,Aa,Ab,Aa,es,Aa,BO,Aa,AK,Ag,Ac hk',Ae,ld2,Ae,Aa,Ag,e2,e3,Ai,Ac hk',Ae,e4,Ae,wr (n:=((k:Nat):Int)+1) (by omega) (by omega),<- ha,e5',Ad,AS,Aa,Ai,Ag];exact ⟨h5,F5,rfl,r5,m5.trans m6⟩
end


theorem IW {a:Option (List V)}:Gi a a=true:=by unfold Gi;exact (@decide_eq_true_iff _ (_)).2 rfl
section
variable {lo:Nat}{ro:Bool}{h:Heap}{F F' G:List Nat}{a a' av:Pq}{c c' cv:Nq}
theorem UJ {l:List Ver} (hs:RVers false h [.sl 6 a l.length c] l F) (h0:0<l.length) (hnd:F.Nodup) (hlo:∀ b∈F,lo<=b) (hn:l.length<=1048576) :
  ∃ o s av cv Gv,a=some o/\ld h o.1 (o.2+0) 0 6=some [Iv l[0].key,Iv l[0].tag.time,Iv l[0].tag.place,s,.str l[0].text,.bool l[0].gone]/\(∀ {T:Type} (K:Pq->Nat->Nq->Option T),eS 2 s K=K av l[0].past.length cv)/\RTags false h [.sl 2 av l[0].past.length cv] l[0].past Gv /\
   ∃ h' F',Af lo 298 [.sl 6 a l.length c,Iv 0,Iv 1] h=some (.sl 6 a (l.length - 1) c,h')/\RVers false h' [.sl 6 a (l.length - 1) c] (l.eraseIdx 0) F'/\Mv h F h' F'/\(∀ y∈Gv,y∉F'/\y∈F)/\∀ y,y≠o.1->h'[y]?=h[y]?:=by
 obtain ⟨h',F',Gv,b,i,row,ha,hld,hel,hG,e,r,m,fr⟩:=Sli.del (lo:=lo) (bytes:=72) (e:=43) (z := [Iv 0,Iv 0,Iv 0,.sl 0 none 0 (some 0),.str ⟨⟨[]⟩⟩,.bool false]) (x1:=0) (x2:=1) (T:=V×Heap) rver_ok hs h0 hnd hlo rfl rfl (by decide) (by omega) (some (.sl 6 a l.length c,h)) (λv h=>some (v,h));obtain ⟨s,av,cv,rfl,es,hp⟩:=hel.form;exact ⟨(b,i),s,av,cv,Gv,ha,hld,es,hp,h',F',Gw e,r,m,λy hy=>⟨(hG y hy).2.1,(hG y hy).1⟩,fr⟩
theorem Zl {b i j R e:Nat}{rs:List (List V)}{row:List V}{l:List Node}{k:Int} (hb:h[b]?=some (.rows R e false rs)) (hrow:rs[i]?=some row) (hcell:row[j]?=some (.sl 2 a l.length c)) (hs:RNodes false h [.sl 2 a l.length c] l F) (hbF:b∉F)
  (hnd:F.Nodup) (hlo:∀ b∈F,lo<=b) (hl:lo<=h.length) (hn:De l) (hx:∀ x∈l,Xn x) :
  ∃ h' F',Af lo 278 [.ptr (some (b,(i,j))),Iv k] h=some (.bool (Bw l k),h')/\RNodes false h' [.sl 2 a l.length c] (bif Bw l k then FG l k.toNat else l) F'/\Mv h F h' F':=by
 have hn1:=hn.1;suffices hq:∃ h' F',_=some (V.bool (Bw l k),h')/\RNodes false h' [.sl 2 a l.length c] (bif Bw l k then FG l k.toNat else l) F'/\Mv h F h' F' from hq.imp λh' hq=>hq.imp λF' hq=>⟨Ob hq.1,hq.2⟩
 have hld:∀ hh:Heap,hh[b]?=some (.rows R e false rs)->ld hh b i (j+0) 1=some [.sl 2 a l.length c]:=λhh hb=>by rw[CA hb hrow];exact JD hcell
 have hblt:b<h.length:=(DY hb).1;have stay:Bw l k=false->∃ h' F',some (V.bool false,h)=some (V.bool (Bw l k),h')/\RNodes false h' [.sl 2 a l.length c] (bif Bw l k then FG l k.toNat else l) F'/\Mv h F h' F':=λhc=>by rw[hc];exact ⟨h,F,rfl,hs,Mv.refl hnd⟩
 have hcd:Bw l k=(Ah k 0 ((l.length:Int) - 2)&&Uz l k.toNat):=rfl;rw[hld h hb,Ae,Aa,Ag,Ai,wr (by omega) (by omega),Bk,Ad,Ax];cases hw:Ah k 0 ((l.length:Int) - 2) with
 | false=>rw[Az];exact stay (by rw[hcd,hw];rfl)
 | true =>
 rw[hw,zdu] at hcd;simp only[Ah,DH,decide_eq_true_eq] at hw;obtain ⟨f,rfl⟩:∃ f:Nat,k=(f:Int):=⟨k.toNat,by omega⟩;have hk:f+1<l.length:=by omega
 have hk':f<l.length:=by omega
 rw[A7,Ku hk'] at hcd;rw[A7] at stay ⊢;obtain ⟨b0,i0,rs0,row0,G0,ha,hbF0,hbG,hb0,hrow0,hel,hGF,hGn,put⟩:=hs.at2 rnode_ok hk' hnd hlo;obtain ⟨t1,t2,F1,F2,rfl,rfl,r1,r2⟩:=hel;obtain ⟨aw,cw,es2,r2⟩:=r2.form;have ld1:∀ hh:Heap,hh[b0]?=some (.rows 2 (NO false) false rs0)->ld hh b0 (i0+f) 1 1=some [t2]:=λhh hb0=>by rw[CA hb0 hrow0];rfl
 rw[Aq,hld h hb,Ae,Aa,Ag,Ai,Ac hk',ha,Ae,ld1 h hb0,Ae,Aa,Ag,es2];by_cases h0:0<l[f].wait.length
 ·rw[decide_eq_true h0,zdu] at hcd;rw[show ((l[f].wait.length:Int)==0)=false by rw[beq_eq_false_iff_ne];omega,Az,Au (by omega)];have hfu:Af lo 117 [.ptr (some (b,(i,j))),Iv ((f+1:Nat):Int)] h=some (.bool (!Dz l (f+1)),h):=OH (hld h hb) hs hk;rw[hfu,Ad,Ax];cases hr:Dz l (f+1) with
  | false=>rw[zel,Aq,<- ha];exact stay (by rw[hcd,hr])
  | true =>
  rw[hr] at hcd;have hGn0:=hGn;rw[zdg] at hGn;obtain ⟨o,s,av,cv,Gv,ho,hldv,es,hp,h3,F3,e3,r3,m3,hGv,fr3⟩:=UJ (lo:=lo) r2 h0 hGn.2.1 (λy hy=>hlo y (hGF y (by simp[hy]))) (hn.2 _ (zdf hk')).2.1;have b1:∀ y∈F1,y<h.length:=rvers_ok.bd _ _ _ _ r1;have m4:=(m3.aside (G:=F1) (by rw[zdg];exact ⟨hGn.2.1,hGn.1,λx hx y hy e=>hGn.2.2 y hy x hx e.symm⟩) b1).swap;have r1':RVers false h3 [t1] l[f].store F1:=m3.keep rvers_ok r1 λy hy hm=>hGn.2.2 y hy y hm rfl;have hlen:=zdN h0;have r3c:=r3.clip;rw[<- hlen] at r3c;obtain ⟨h4,F4,e4,r4,m5,fr4,sub4⟩:=put h3 (F1++F3) 1 [.sl 6 aw (l[f].wait.eraseIdx 0).length (some (l[f].wait.eraseIdx 0).length)] [t1,.sl 6 aw (l[f].wait.eraseIdx 0).length (some (l[f].wait.eraseIdx 0).length)] ⟨l[f].store,l[f].wait.eraseIdx 0⟩ m4 rfl ⟨_,_,F1,F3,rfl,rfl,r1',r3c⟩;rw[<- IT hk'] at r4;have hln:=LW (l:=l) (k:=f);have hGvG:∀ y∈Gv,y∈F1++F2:=λy hy=>by simp[(hGv y hy).2]
  have hd:∀ y∈Gv,y∉F4:=λy hy hm=>by
   rcases sub4 y hm with g | g
   ·exact g.2 (hGvG y hy)
   ·rcases zde.1 g with g | g
    ·exact hGn.2.2 y g y (hGv y hy).2 rfl
    ·exact (hGv y hy).1 g
  have hoG:o.1∉Gv:=λhm=>(hGv o.1 hm).1 (by
   obtain ⟨R1,a1,c1,q1,q2⟩:=r3;injection q1 with q1 _;injection q1 with _ q1 _ _;subst q1;subst ho;obtain ⟨_,_,_,_,_,_,_,_,q⟩:=q2;rw[q];simp)
  have hp4:RTags false h4 [.sl 2 av (l[f].wait[0]'h0).past.length cv] (l[f].wait[0]'h0).past Gv:=rtags_ok.fr _ _ _ _ _ hp λy hy=>by rw[fr4 y λe=>hbG (by rw[<- e];exact hGvG y hy),fr3 y λe=>hoG (by rw[<- e];exact hy)]
  have hpx:=hx _ (zdf hk');have hky:=hpx.2 _ (zdf h0);have hth:=hpx.1.2.2.2 _ (zdf h0);have hk1:f+1<(Gq l f).length:=by rw[hln];exact hk
  have hst1:(Gq l f)[f+1].store.length=4:=by
   have:(Gq l f)[f+1]=l[f+1]:=by have e:=IT hk';rw[zeY e,List.getElem_set_ne (by omega)]
   rw[this];exact (hx _ (zdf hk)).1.1
  have hnd5:De (Gq l f):=by
   refine ⟨by rw[hln];exact hn1,λx hx'=>?_⟩;rw[IT hk'] at hx';rcases zdE hx' with hx' | rfl
   ·exact hn.2 x hx'
   ·have:=hn.2 _ (zdf hk');exact ⟨this.1,QR this.2 (zdh (zeB _ _) this.2.1) λv hv=>zed hv⟩
  have hb3:h3[b]?=some (.rows R e false rs):=by rw[m3.fr b hblt λhm=>hbF (hGF b (by simp[hm]))];exact hb
  have hb4:h4[b]?=some (.rows R e false rs):=by rw[fr4 b λe=>hbF (by rw[e];exact hbF0)];exact hb3
  have hbF4:b∉F4:=λhm=>by
   rcases m5.sub b hm with g | g
   ·exact hbF g
   ·omega
  have hcell4:row[j]?=some (.sl 2 a (Gq l f).length c):=by rw[hln];exact hcell
  rw[<- hln] at r4;obtain ⟨h5,F5,e5,r5,m6⟩:=Rw (lo:=lo) (k:=f+1) (v:=l[f].wait[0]'h0) hb4 hrow hcell4 r4 hbF4 hp4 hd m5.nd (λy hy=>m5.ge hl hlo y hy) (zdh hl m5.le) hk1 ⟨hky.1,by omega⟩ hnd5 (by have:=hth.1;omega);rw[hln,<- TF hk' h0] at r5;simp only[Ver.cs] at e5;have hclip:Af lo 205 [.sl 6 aw (l[f].wait.length - 1) cw] h3=some (.sl 6 aw (l[f].wait.length - 1) (some (l[f].wait.length - 1)),h3):=Lx r3;rw[hlen] at e4;have hb3':h3[b0]?=h3[b0]?:=rfl;rw[zei,Az,hld h hb,Ae,Aa,Ag,Ai,ha,Ac hk',Ae,ld1 h hb0,Ae,Aa,Ag,es2,DE ⟨by omega,by omega⟩,ho,Ae,hldv,Ae,Aa,Ab,Aa,Ab,Aa,Ab,Aa,es,Aa,BO,Aa,AK,Ag,
   Ae,Aa,Ag,Ai,Ae,Aa,Ag,Ai,IW,DA,Ac hk',Ae,ld1 h hb0,Ae,Aa,Ag,es2,DA,e3,Ad,Ai,hld h3 hb3,<- ha,IW,DA,hclip,Ad,Ai,hld h3 hb3,IW,DA,Ac hk',ha,Ae,e4,Ae,e5,Ad,Kd,Ag,<- ha]
  rw[hcd,cond_true];exact ⟨h5,F5,rfl,r5,m5.trans m6⟩
 ·rw[decide_eq_false h0,zer] at hcd;rw[show ((l[f].wait.length:Int)==0)=true by rw[beq_iff_eq];omega,Aq,<- ha];exact stay hcd
end


variable {p:Place}
def Jr (p:Place) (k:Nat):Place:=⟨p.me,p.clock,FG p.chain k,p.log,p.got,p.fell⟩
def Er (p:Place) (k:Int):Place:=bif Bw p.chain k then BL (Jr p k.toNat) else p
theorem IN {l:List Node}{k:Nat}:(FG l k).length=l.length:=by
 unfold FG;split
 ·split
  ·rw[E5,LW]
  ·rfl
 ·rfl
theorem To {nc nw nl k:Nat} (h:Tidy nc nw nl p):Tidy nc (nw+1) nl (Jr p k):=by
 have h0:Tidy nc (nw+1) nl p:=⟨h.len,λx hx=>by have:=h.node x hx;exact ⟨this.1,Nat.le_succ_of_le this.2.1,this.2.2⟩,h.log,h.got⟩;unfold Jr FG;split
 ·rename_i x hk
  split
  ·rename_i v hv
   have hxm:=zdt hk;have hd:Tidy nc nw nl ⟨p.me,p.clock,Gq p.chain k,p.log,p.got,p.fell⟩:=by
    refine ⟨by show (Gq p.chain k).length<=nc;rw[LW];exact h.len,λy hy=>?_,h.log,h.got⟩;have hy:y∈Gq p.chain k:=hy;unfold Gq at hy;rw[hk] at hy;rcases zdE hy with hy | rfl
    ·exact h.node y hy
    ·obtain ⟨g1,g2,g3,g4⟩:=h.node x hxm;exact ⟨g1,zdh (zeB _ _) g2,g3,λv hv=>g4 v (zed hv)⟩
   exact Nc hd ((h.node x hxm).2.2.2 v (zdt hv))
  ·exact h0
 ·exact h0
theorem UA (h:Av p=true):∀ x∈p.chain,Xn x:=λx hx=>by have hno:=(DJ (AL h).2.2.2.1).2 x hx;have ht:=TK hno;exact ⟨⟨ht.1,zdh ht.2.1 (by decide),ht.2.2⟩,λv hv=>(Bx ((Bo hno).2.2 v hv)).1⟩
theorem Qp {nc nw nl:Nat} (h:Tidy nc nw nl p) (h1:nc<=10) (h2:nw<=20) (h3:nl<=100):Tidy 10 20 100 p :=
 ⟨zdh h.len h1,λx hx=>by have:=h.node x hx;exact ⟨this.1,zdh this.2.1 h2,this.2.2⟩,⟨zdh h.log.1 h3,h.log.2⟩,h.got.1,λl hl=>⟨zdh (h.got.2 l hl).1 h3,(h.got.2 l hl).2⟩⟩
theorem QF {h h1 h2:Heap}{G1 G1' G2 G2' G3:List Nat} (m1:Mv h G1 h1 G1') (m2:Mv h1 G2 h2 G2') (hnd:(G1++(G2++G3)).Nodup) (hb:∀ y∈G1++(G2++G3),y<h.length) :
  Mv h (G1++(G2++G3)) h2 (G1'++(G2'++G3))/\(∀ y∈G1',y∉G2)/\(∀ y∈G3,y∉G1)/\∀ y∈G3,y∉G2:=by
 rw[zdg,zdg] at hnd;obtain ⟨n2,⟨n3,n4,n5⟩,n6⟩:=hnd;have hb1:∀ y∈G1,y<h.length:=λy hy=>hb y (by simp[hy]);have hb2:∀ y∈G2,y<h.length:=λy hy=>hb y (by simp[hy]);have hb3:∀ y∈G3,y<h.length:=λy hy=>hb y (by simp[hy]);have l1:=m1.le;have l2:=m2.le;have d1:∀ y∈G1',y∉G2:=λy hy hm=>by
  rcases m1.sub y hy with g | g
  ·exact n6 y g y (by simp[hm]) rfl
  ·have:=hb2 y hm;omega
 have d2:∀ y∈G3,y∉G1:=λy hy hm=>n6 y hm y (by simp[hy]) rfl;have d3:∀ y∈G3,y∉G2:=λy hy hm=>n5 y hm y hy rfl;have s1:∀ y∈G1',y<h1.length:=m1.lt hb1;refine ⟨⟨by omega,λy hy hF=>?_,?_,λy hy=>?_⟩,d1,d2,d3⟩
 ·simp only[zde,not_or] at hF;rw[m2.fr y (by omega) hF.2.1,m1.fr y hy hF.1]
 ·rw[zdg,zdg];refine ⟨m1.nd,⟨m2.nd,n4,λx hx y hy e=>?_⟩,λx hx y hy e=>?_⟩
  ·subst e;rcases m2.sub x hx with g | g
   ·exact d3 x hy g
   ·have:=hb3 x hy;omega
  ·subst e;rcases zde.1 hy with hy | hy
   ·rcases m2.sub x hy with g | g
    ·exact d1 x hx g
    ·have:=s1 x hx;omega
   ·rcases m1.sub x hx with g | g
    ·exact d2 x hy g
    ·have:=hb3 x hy;omega
 ·simp only[zde] at hy ⊢;rcases hy with hy | hy | hy
  ·rcases m1.sub y hy with g | g
   ·exact .inl (.inl g)
   ·exact .inr ⟨g.1,by omega⟩
  ·rcases m2.sub y hy with g | g
   ·exact .inl (.inr (.inl g))
   ·exact .inr ⟨by omega,g.2⟩
  ·exact .inl (.inr (.inr hy))
section
variable {lo:Nat}{h:Heap}{F F':List Nat}{a a':Pq}{c c':Nq}
theorem QL {a1 a2 a3:Pq}{c1 c2 c3:Nq}{F1 F2:List Nat} (hs1:RNodes false h [.sl 2 a1 p.chain.length c1] p.chain F1) (hs2:RVers false h [.sl 6 a2 p.log.length c2] p.log F2)
  (h0:0<p.chain.length) (ht:Tidy 10 20 100 p) (hd:∀ b∈F1,b∉F2) (hnd:F2.Nodup) (hlo:∀ b∈F2,lo<=b) (hl:lo<=h.length) :
  ∃ a2' c2' h' F2',Af lo 130 [.agg (p.cs a1 c1 a2 c2 a3 c3)] h=some (.agg ((BL p).cs a1 c1 a2' c2' a3 c3),h')/\RVers false h' [.sl 6 a2' (BL p).log.length c2'] (BL p).log F2'/\Mv h F2 h' F2':=by
 obtain ⟨x,hx,hxe⟩:=Mu h0;have hxn:=ht.node x hx;exact Pn hs1 hs2 h0 (by rw[hxe];exact hxn.1) hd hnd hlo hl (zdh ht.len (by decide)) (zdh ht.log.1 (by decide)) (λw hw=>by rw[hxe] at hw;have:=(hxn.2.2.1 w hw).1;omega)
end


variable {u v:Ver}{l:List Ver}
theorem IP:AU u v=true<->u.tag.time<v.tag.time\/(u.tag.time=v.tag.time/\u.tag.place<v.tag.place):=by simp[AU,Hb]
theorem J6:AU u v=false<->¬ (u.tag.time<v.tag.time\/(u.tag.time=v.tag.time/\u.tag.place<v.tag.place)):=by rw[<- IP,Bool.not_eq_true]
def EV (v:Ver):List Ver->List Ver
 | [] => [v]
 | u :: r=>bif AU u v then u :: EV v r else v :: u :: r
def II (l:List Ver):Prop:=l.Pairwise λp u=>AU u p=false
theorem Ll {v:Ver}:∀ {l:List Ver},(EV v l).length=l.length+1
 | []=>rfl
 | u :: r=>by
  simp only[EV];cases AU u v with
  | true=>simp[Ll (l:=r)]
  | false=>simp
theorem insF_mem {v x:Ver}:∀ {l:List Ver},x∈EV v l<->x=v\/x∈l
 | []=>by simp[EV]
 | u :: r=>by
  simp only[EV];cases AU u v with
  | true =>
   rw[cond_true,zdm,insF_mem (l:=r),zdm];constructor
   ·rintro (h | h | h)
    ·exact .inr (.inl h)
    ·exact .inl h
    ·exact .inr (.inr h)
   ·rintro (h | h | h)
    ·exact .inr (.inl h)
    ·exact .inl h
    ·exact .inr (.inr h)
  | false=>simp
theorem My {v:Ver}:∀ {P Q:List Ver},(∀ p∈P,AU p v=true)->(∀ q∈Q,AU q v=false)->EV v (P++Q)=P++v :: Q
 | [],[],_,_=>rfl
 | [],q :: Q,_,hq=>by simp only[zdO,EV];rw[hq q (by simp),cond_false]
 | p :: P,Q,hp,hq=>by simp only[zdT,EV];rw[hp p (by simp),cond_true,My (λx hx=>hp x (by simp[hx])) hq]
theorem PI {v:Ver}:∀ {l:List Ver},II l->II (EV v l)
 | [],_=>by simp[EV,II]
 | u :: r,h=>by
  unfold II at h ⊢;rw[zeF] at h;simp only[EV];cases hl:AU u v with
  | true =>
   rw[cond_true,zeF];refine ⟨λx hx=>?_,PI (l:=r) h.2⟩;rcases insF_mem.1 hx with rfl | hx
   ·rw[IP] at hl;rw[J6];omega
   ·exact h.1 x hx
  | false =>
   rw[cond_false,zeF,zeF];refine ⟨λx hx=>?_,h⟩;rcases zdm.1 hx with rfl | hx
   ·exact hl
   ·have:=h.1 x hx;rw[J6] at this hl ⊢;omega
def zcN (u v:Ver):Int:=if (if Hx u.tag.time v.tag.time=0 then Hx u.tag.place v.tag.place else Hx u.tag.time v.tag.time)=0 then Hx v.key u.key else (if Hx u.tag.time v.tag.time=0 then Hx u.tag.place v.tag.place else Hx u.tag.time v.tag.time)
theorem MF {a b:Int}:(Hx a b<0<->a<b)/\(Hx a b=0<->a=b):=by
 unfold Hx;constructor
 ·constructor
  ·intro h;split at h
   ·assumption
   ·split at h<;>omega
  ·intro h;rw[if_pos h];decide
 ·constructor
  ·intro h;split at h
   ·omega
   ·split at h<;>omega
  ·intro h;subst h;simp
theorem WB (hk:u.key<v.key):decide (zcN v u<0) = !AU u v:=by
 rw[Bool.eq_iff_iff,decide_eq_true_eq,zdV,J6];unfold zcN;obtain ⟨t1,t2⟩:=MF (a:=v.tag.time) (b:=u.tag.time);obtain ⟨p1,p2⟩:=MF (a:=v.tag.place) (b:=u.tag.place);obtain ⟨k1,k2⟩:=MF (a:=u.key) (b:=v.key);by_cases ht:Hx v.tag.time u.tag.time=0
 ·rw[if_pos ht];by_cases hp:Hx v.tag.place u.tag.place=0
  ·rw[if_pos hp];have:=t2.1 ht;have:=p2.1 hp;have:=k1.2 hk;omega
  ·rw[if_neg hp,p1];have:=t2.1 ht;have:¬ v.tag.place=u.tag.place:=λh=>hp (p2.2 h);omega
 ·rw[if_neg ht,if_neg ht,t1];have:¬ v.tag.time=u.tag.time:=λh=>ht (t2.2 h);omega
section
variable {lo:Nat}{h:Heap}{F F' G:List Nat}{a a' av:Pq}{c c' cv:Nq}
theorem zaz:Af lo 301 [.agg (u.cs a c),.agg (v.cs a' c')] h=some (Iv (zcN u v),h) :=
 Mb (h':=h ++ [.rows 1 3 false [[Iv (if Hx u.tag.time v.tag.time=0 then Hx u.tag.place v.tag.place else Hx u.tag.time v.tag.time)],[Iv (Hx v.key u.key)]]]) (by
  simp only[NC,Ad,Ab,PS,RW];rfl)
theorem YX {n j:Nat} (hs:RVers false h [.sl 6 a n c] l F) (hj:j+1<l.length) (hnd:F.Nodup) (hlo:∀ b∈F,lo<=b) :
  ∃ o s1 a1 c1 s2 a2 c2,a=some o/\ld h o.1 (o.2+(j+1)) 0 6=some [Iv l[j+1].key,Iv l[j+1].tag.time,Iv l[j+1].tag.place,s2,.str l[j+1].text,.bool l[j+1].gone]/\(∀ {T:Type} (K:Pq->Nat->Nq->Option T),eS 2 s2 K=K a2 l[j+1].past.length c2) /\
   ld h o.1 (o.2+j) 0 6=some [Iv l[j].key,Iv l[j].tag.time,Iv l[j].tag.place,s1,.str l[j].text,.bool l[j].gone]/\(∀ {T:Type} (K:Pq->Nat->Nq->Option T),eS 2 s1 K=K a1 l[j].past.length c1) /\
   ∃ h1 h2 F',st lo h o.1 (o.2+(j+1)) 0 (l[j].cs a1 c1)=some h1/\st lo h1 o.1 (o.2+j) 0 (l[j+1].cs a2 c2)=some h2/\RVers false h2 [.sl 6 a n c] ((l.set (j+1) l[j]).set j l[j+1]) F'/\Mv h F h2 F':=by
 have hn:=hs.val;subst hn;obtain ⟨R1,x1,y1,e1,g⟩:=hs;injection e1 with e1 _;injection e1 with e0 e2 _ e3;subst e0;subst e2;subst e3;cases a with
 | none=>obtain ⟨rfl,_⟩:=g;simp at hj
 | some p =>
 obtain ⟨b,i⟩:=p;obtain ⟨_,rs,Fs,g1,g2,g3,g4,g5,rfl⟩:=g;have hjl:j<l.length:=by omega
 obtain ⟨row1,F1,r1,f1,el1⟩:=g5.get (DZ hjl);obtain ⟨row2,F2,r2,f2,el2⟩:=g5.get (DZ hj);rw[zey hjl,zdG] at r1;rw[zey hj,zdG] at r2;obtain ⟨s1,a1,c1,rfl,es1,hp1⟩:=el1.form;obtain ⟨s2,a2,c2,rfl,es2,hp2⟩:=el2.form;have hlob:=hlo b (by simp);have hblt:b<h.length:=(DY g1).1;rw[zdn] at hnd;have e4:=Bt (lo:=lo) (cs:=l[j].cs a1 c1) (j:=0) g1 hlob r2 (Gk rfl);refine ⟨(b,i),s1,a1,c1,s2,a2,c2,rfl,by rw[CA g1 r2];rfl,es2,by rw[CA g1 r1];rfl,es1,h.set b (.rows 6 (Kc false) false (rs.set (i+(j+1)) (l[j].cs a1 c1))),h.set b (.rows 6 (Kc false) false ((rs.set (i+(j+1)) (l[j].cs a1 c1)).set (i+j) (l[j+1].cs a2 c2))),b ::((Fs.set (j+1) F1).set j F2).flatten,e4,?_,?_,?_⟩
 ·have hb1:(h.set b (.rows 6 (Kc false) false (rs.set (i+(j+1)) (l[j].cs a1 c1))))[b]?=some (.rows 6 (Kc false) false (rs.set (i+(j+1)) (l[j].cs a1 c1))):=by simp[hblt]
  have hr1:(rs.set (i+(j+1)) (l[j].cs a1 c1))[i+j]?=some [Iv l[j].key,Iv l[j].tag.time,Iv l[j].tag.place,s1,.str l[j].text,.bool l[j].gone]:=by rw[zdi (by omega)];exact r1
  rw[Bt (lo:=lo) (cs:=l[j+1].cs a2 c2) (j:=0) hb1 hlob hr1 (Gk rfl),zd1]
 ·have hl1:∀ (rs:List (List V)) k (hk:k<l.length) row',((rs.set (i+k) row').drop i).take l.length=((rs.drop i).take l.length).set k row':=λrs k hk row'=>by rw[List.drop_set,if_neg (by omega),show i+k - i=k by omega,List.take_set]
  refine ⟨6,some (b,i),c,by simp,rfl,(rs.set (i+(j+1)) (l[j].cs a1 c1)).set (i+j) (l[j+1].cs a2 c2),(Fs.set (j+1) F1).set j F2,by simp[hblt],by simpa using g2,λq hq=>by simpa using g3 q hq,g4,?_,rfl⟩;rw[zdM,zdM,hl1 _ j hjl,hl1 _ (j+1) hj];have he:EAll (RVer false) h ((((rs.drop i).take l.length).set (j+1) (l[j].cs a1 c1)).set j (l[j+1].cs a2 c2)) ((l.set (j+1) l[j]).set j l[j+1]) ((Fs.set (j+1) F1).set j F2):=(g5.set (k:=j+1) ⟨_,rfl,hp1⟩).set (k:=j) ⟨_,rfl,hp2⟩;refine he.fr rver_ok.fr λy hy=>zdi λe=>?_;rcases EG hy with q | q
  ·rcases EG q with q | q
   ·exact hnd.1 (e ▸ q)
   ·exact hnd.1 (e ▸ FW f1 q)
  ·exact hnd.1 (e ▸ FW f2 q)
 ·have hperm:((Fs.set (j+1) F1).set j F2).Perm Fs:=by
   obtain ⟨hj1,e1⟩:=DY f1;obtain ⟨hj2,e2⟩:=DY f2;have hd:Fs=Fs.take j++F1 :: F2 :: Fs.drop (j+2):=by conv=>lhs;rw[<- zdS j Fs,zdw hj1,e1,zdw hj2,e2]
   have hl:(Fs.take j).length=j:=by rw[zdD];omega
   have hsw:(Fs.set (j+1) F1).set j F2=Fs.take j++F2 :: F1 :: Fs.drop (j+2):=by
    conv=>lhs;rw[hd]
    rw[zeo _ _ (by omega),hl,show j+1 - j=1 by omega,zeo _ _ (by omega),hl,zeH];rfl
   rw[hsw];conv=>rhs;rw[hd]
   exact List.Perm.append_left _ (List.Perm.swap _ _ _)
  have hpf:=hperm.flatten;refine ⟨by simp,λy hy hF=>?_,?_,λy hy=>?_⟩
  ·rw[zdm,not_or] at hF;exact zdi (Ne.symm hF.1)
  ·rw[zdn];exact ⟨λhm=>hnd.1 (hpf.mem_iff.1 hm),hpf.nodup_iff.2 hnd.2⟩
  ·rcases zdm.1 hy with rfl | hy
   ·exact .inl (by simp)
   ·exact .inl (by simp[hpf.mem_iff.1 hy])
theorem W1 {n x2:Nat}{x8:Int}:∀ (m:Nat) (P Q R:List Ver) (hh:Heap) (F:List Nat),P.length=m->(∀ u∈P,u.key<v.key)->II P->(∀ q∈Q,AU q v=false)->RVers false hh [.sl 6 a n c] (P++v ::(Q++R)) F->F.Nodup->(∀ b∈F,lo<=b)->lo<=hh.length->n<=1048576 ->
  ∃ h' F',AA lo a n c 0 x2 301 [] x8 (m:Nat) hh=Ao lo a n c 0 x2 301 [] (Al (x8+1)) h'/\RVers false h' [.sl 6 a n c] (EV v (P++Q)++R) F'/\Mv hh F h' F':=by
 intro m;induction m with
 | zero =>intro P Q R hh F hP hkey hso hQ hs hnd hlo hl0 hn;have:P = []:=zdp hP;subst this;rw[AA.e,Aj (by omega)];have e:=My (v:=v) (P := []) (Q:=Q) (by simp) hQ;rw[e];exact ⟨hh,F,rfl,by simpa using hs,Mv.refl hnd⟩
 | succ m ih =>
  intro P Q R hh F hP hkey hso hQ hs hnd hlo hl0 hn;have hne:P ≠ []:=λh0=>by rw[h0] at hP;simp at hP
  obtain ⟨P',u,rfl⟩:∃ P' u,P=P' ++ [u]:=⟨P.dropLast,P.getLast hne,(List.dropLast_concat_getLast hne).symm⟩;have hP':P'.length=m:=by simpa using hP
  have hval:=hs.val;have hlen:(P' ++ [u]++v ::(Q++R)).length=m+2+(Q++R).length:=by simp;omega
  obtain ⟨o,s1,a1,c1,s2,a2,c2,ha,hld2,es2,hld1,es1,h1,h2,F2,e4,e5,r6,m6⟩:=YX (lo:=lo) (j:=m) hs (by rw[hlen];omega) hnd hlo;have hu:(P' ++ [u]++v ::(Q++R))[m]'(by rw[hlen];omega)=u:=by rw[List.getElem_append_left (by simp;omega),zeJ (by omega)];simp
  have hv:(P' ++ [u]++v ::(Q++R))[m+1]'(by rw[hlen];omega)=v:=by rw[zeJ (by simp;omega)];simp[hP']
  rw[hu] at hld1 es1 e4 r6;rw[hv] at hld2 es2 e5 r6;have hsw:((P' ++ [u]++v ::(Q++R)).set (m+1) u).set m v=P'++v ::((u :: Q)++R):=by rw[zdv,zeo _ _ (by omega),hP',show m+1 - m=1 by omega,zeo _ _ (by omega),hP',zeH];rfl
  rw[hsw] at r6;have hcmp:=zaz (lo:=lo) (h:=hh) (u:=v) (v:=u) (a:=a2) (c:=c2) (a':=a1) (c':=c1);simp only[Ver.cs] at hcmp e4 e5;have hkuv:=hkey u (by simp);have hmn:m+1<n:=by rw[hval,hlen];omega
  rw[AA.e,Am (by omega),Ac hmn,ha,Ae,A7,hld2,Ae,Aa,Ab,Aa,Ab,Aa,Ab,Aa,es2,Aa,BO,Aa,AK,Ag,
   show Al (((m+1:Nat):Int) - 1)=((m:Nat):Int) by rw[wr (by omega) (by omega)];omega,Ac (show m<n by omega),Ae,A7,hld1,Ae,Aa,Ab,Aa,Ab,Aa,Ab,Aa,es1,Aa,BO,Aa,AK,Ag,show ∀ x:List V,Ea x []=x from λx=>by simp[Ea],hcmp,Ad,Ab]
  cases hl:AU u v with
  | true =>
   have hc:=WB hkuv;rw[hl] at hc;rw[Aj (of_decide_eq_false hc)];have hso':∀ p∈P' ++ [u],AU p v=true:=λp hp=>by
    rcases zde.1 hp with hp | hp
    ·unfold II at hso;rw[List.pairwise_append] at hso;have:=hso.2.2 p hp u (by simp);rw[J6] at this;rw[IP] at hl ⊢;omega
    ·rw[zdJ] at hp;subst hp;exact hl
   rw[My hso' hQ];exact ⟨hh,F,by rw[<- ha],by rw[<- ha];simpa using hs,Mv.refl hnd⟩
  | false =>
   have hc:=WB hkuv;rw[hl] at hc;obtain ⟨h3,F3,e7,r7,m7⟩:=ih P' (u :: Q) R h2 F2 hP' (λx hx=>hkey x (by simp[hx])) (by unfold II at hso ⊢;rw[List.pairwise_append] at hso;exact hso.1) (λq hq=>by
    rcases zdm.1 hq with rfl | hq
    ·exact hl
    ·exact hQ q hq) r6 m6.nd (λb hb=>m6.ge hl0 hlo b hb) (zdh hl0 m6.le) hn
   rw[Am (of_decide_eq_true hc),Ac (show m<n by omega),Ae,hld1,Ae,Aa,Ab,Aa,Ab,Aa,Ab,Aa,es1,Aa,BO,Aa,AK,Ag,Ac hmn,Ae,hld2,Ae,Aa,Ab,Aa,Ab,Aa,Ab,Aa,es2,Aa,BO,Aa,AK,Ag,
    Ac hmn,Ae,e4,Ae,Ac (show m<n by omega),Ae,e5,Ae,<- ha,e7]
   refine ⟨h3,F3,rfl,?_,m6.trans m7⟩;rw[zdv P' [u] Q];exact r7
theorem QQ {n:Nat}:∀ (R S:List Ver) (hh:Heap) (F:List Nat),II S->(∀ u∈S,∀ w∈R,u.key<w.key)->R.Pairwise (λp u=>p.key<u.key)->RVers false hh [.sl 6 a n c] (S++R) F->F.Nodup->(∀ b∈F,lo<=b)->lo<=hh.length->n<=1048576 ->
  ∃ h' F',Ao lo a n c 0 (n:Nat) 301 [] (S.length:Nat) hh=some (.tup [],h')/\RVers false h' [.sl 6 a n c] (R.foldl (λacc v=>EV v acc) S) F'/\Mv hh F h' F'
 | [],S,hh,F,_,_,_,hs,hnd,_,_,_=>by have hval:=hs.val;rw[zd0] at hval hs;rw[Ao.e,Aj (by omega)];exact ⟨hh,F,rfl,hs,Mv.refl hnd⟩
 | v :: R,S,hh,F,hso,hk,hp,hs,hnd,hlo,hl,hn=>by
  have hval:=hs.val;rw[zdy,zd7] at hval;rw[zeF] at hp;obtain ⟨h1,F1,e1,r1,m1⟩:=W1 (lo:=lo) (v:=v) (n:=n) (x2:=n) (x8:=(S.length:Nat)) S.length S [] R hh F rfl (λu hu=>hk u hu v (by simp)) hso (by simp) hs hnd hlo hl hn;rw[zd0] at r1;obtain ⟨h2,F2,e2,r2,m2⟩:=QQ R (EV v S) h1 F1 (PI hso) (λu hu w hw=>by
   rcases insF_mem.1 hu with rfl | hu
   ·exact hp.1 w hw
   ·exact hk u hu w (by simp[hw])) hp.2 r1 m1.nd (λb hb=>m1.ge hl hlo b hb) (zdh hl m1.le) hn
  rw[Ao.e,Am (by omega),e1,Au (by omega)];rw[Ll] at e2;exact ⟨h2,F2,e2,r2,m1.trans m2⟩
def K9 (l:List Ver):List Ver:=l.foldl (λacc v=>EV v acc) []
theorem Rv (hs:RVers false h [.sl 6 a l.length c] l F) (hk:l.Pairwise λp u=>p.key<u.key) (hnd:F.Nodup) (hlo:∀ b∈F,lo<=b) (hl:lo<=h.length) (hn:l.length<=1048576) :
  ∃ h' F',Af lo 314 [.sl 6 a l.length c,Iv 0,Iv (l.length:Nat),.fn 301 []] h=some (.tup [],h')/\RVers false h' [.sl 6 a l.length c] (K9 l) F'/\Mv h F h' F':=by
 suffices hq:∃ h' F',Ao lo a l.length c 0 (l.length:Nat) 301 [] (Al (0+1)) h=some (V.tup [],h')/\RVers false h' [.sl 6 a l.length c] (K9 l) F'/\Mv h F h' F' from hq.imp λh' hq=>hq.imp λF' hq=>⟨E7 hq.1,hq.2⟩
 rw[show Al (0+1)=((1:Nat):Int) from Au (k:=0) (by decide)];cases hl0:l with
 | nil =>rw[hl0] at hs;rw[Ao.e,Aj (by simp)];exact ⟨h,F,rfl,hs,Mv.refl hnd⟩
 | cons x r =>rw[hl0] at hs hk hn;rw[zeF] at hk;exact QQ (n:=(x :: r).length) r [x] h F (by simp[II]) (λu hu w hw=>by rw[zdJ] at hu;subst hu;exact hk.1 w hw) hk.2 hs hnd hlo hl hn
end


variable {α:Type}{El:Rel α}{l:List α}
theorem LP {h:Heap}{lo R e n bytes:Nat}{a:Pq}{c:Nq}{ys:List α}{F:List Nat}{xs:List (List V)}{Gs:List (List Nat)} (hfr:El.Fr)
  (hs:Sli false R e El h [.sl R a n c] l F) (hx:EAll El h xs ys Gs) (hb:0<bytes) (hsz:(l.length+ys.length)*bytes<=140737488355328) (hlo:∀ b∈F,lo<=b) (hl:lo<=h.length)
  (hnd:(F++Gs.flatten).Nodup) (hF:∀ b∈F++Gs.flatten,b<h.length) :
  ∃ a' c' h' F',(∀ {R':Type} (K:V->Heap->Option R'),Dv lo e R bytes (.sl R a n c) xs h K=K (.sl R a' (l.length+ys.length) c') h')/\Sli false R e El h' [.sl R a' (l.length+ys.length) c'] (l++ys) F'/\h.length<=h'.length /\
   (∀ b,b<h.length->b∉F->h'[b]?=h[b]?)/\(∀ b∈F',b∈F++Gs.flatten\/(h.length<=b/\b<h'.length))/\F'.Nodup:=by
 cases ys with
 | nil =>have hx0:xs = []:=zdp hx.len.1;have hn:=hs.val;subst hx0;subst hn;rw[zdg] at hnd;exact ⟨a,c,h,F,λK=>rfl,by rw[zd0];exact hs,zdj _,λ_ _ _=>rfl,λb hb => .inl (by simp[hb]),hnd.1⟩
 | cons y ys=>exact Sli.push hfr hs hx hb hsz hlo hl hnd hF (by simp)
theorem Sli.parts {R e:Nat}{h:Heap}{a:Pq}{c:Nq}{F:List Nat} (hs:Sli false R e El h [.sl R a l.length c] l F) (hnd:F.Nodup) :
  ∃ Fs:List (List Nat),Fs.flatten.Nodup/\(∀ y∈Fs.flatten,y∈F)/\(∀ b i,a=some (b,i)->b∈F/\b∉Fs.flatten)/\∀ k,k<=l.length->∃ rP rQ,EAll El h rP (l.take k) (Fs.take k)/\EAll El h rQ (l.drop k) (Fs.drop k) /\
   (∀ {T:Type} (h':Heap),(∀ b i,a=some (b,i)->h'[b]?=h[b]?)->∀ K:List (List V)->Option T,(Aw a l.length c none (some (Iv (k:Nat))) none λa n c=>As R h' (.sl R a n c) K)=K rP) /\
   (∀ {T:Type} (h':Heap),(∀ b i,a=some (b,i)->h'[b]?=h[b]?)->∀ K:List (List V)->Option T,(Aw a l.length c (some (Iv (k:Nat))) none none λa n c=>As R h' (.sl R a n c) K)=K rQ):=by
 obtain ⟨R1,a1,c1,e1,g⟩:=hs;injection e1 with e1 _;injection e1 with e0 e2 _ e3;subst e2;subst e3;cases a with
 | none =>
  obtain ⟨rfl,rfl,rfl⟩:=g;refine ⟨[],by simp,by simp,λb i h=>by simp at h,λk hk=>?_⟩;have hk0:k=0:=by simpa using hk
  subst hk0;refine ⟨[],[],trivial,trivial,λh' _ K=>?_,λh' _ K=>?_⟩
  ·unfold Aw Hf Kq La;simp only[Ab,zep];rw[DD ⟨by simp,by simp⟩];simp[As]
  ·unfold Aw Hf Kq La;simp only[Ab,zep];rw[DD ⟨by simp,by simp⟩];simp[As,Mp]
 | some p =>
  obtain ⟨b,i⟩:=p;obtain ⟨_,rs,Fs,g1,g2,g3,_,g5,rfl⟩:=g;rw[zdn] at hnd;have key:∀ {T:Type} (h':Heap),h'[b]?=h[b]?->∀ (K:List (List V)->Option T) (j m:Nat) (c8:Nq),j+m<=rs.length->As R h' (.sl R (some (b,j)) m c8) K=K ((rs.drop j).take m):=λh' hb' K j m c8 hj=>by
   simp only[As,LC,DA];cases m with
   | zero=>simp
   | succ m =>
    simp only;rw[show EQ h' b j (m+1)=some ((rs.drop j).take (m+1)) by
     simp only[EQ,Heap.rows?,hb',g1,zdF];rw[ER hj]]
    rfl
  refine ⟨Fs,hnd.2,λy hy=>zd8 _ hy,λb' i' e=>by injection e with e;injection e with e1 e2;subst e1;exact ⟨by simp,hnd.1⟩,λk hk=>?_⟩;have hrP:((rs.drop i).take l.length).take k=(rs.drop i).take k:=by rw[List.take_take,Nat.min_eq_left hk]
  have hrQ:((rs.drop i).take l.length).drop k=(rs.drop (i+k)).take (l.length - k):=by rw[List.drop_take,zeC]
  refine ⟨(rs.drop i).take k,(rs.drop (i+k)).take (l.length - k),by rw[<- hrP];exact g5.take k,by rw[<- hrQ];exact g5.drop k,λh' hh K=>?_,λh' hh K=>?_⟩
  ·unfold Aw Hf Kq La;simp only[Ab,zep,A7];have:=key h' (hh b i rfl) K i k c (by omega);cases c with
   | none=>simp only;rw[DD ⟨by omega,by omega⟩];exact this
   | some N=>simp only;rw[DD ⟨by omega,by have:=(g3 N rfl).1;omega⟩];exact this
  ·unfold Aw Hf Kq La;simp only[Ab,zep,A7];rw[DD ⟨by omega,by omega⟩];cases c with
   | none=>exact key h' (hh b i rfl) K (i+k) (l.length - k) none (by omega)
   | some N =>
    have hN:=(g3 N rfl).1;unfold Mp;simp only;cases hb:Nat.beq N k with
    | false=>rw[Az];exact key h' (hh b i rfl) K (i+k) (l.length - k) _ (by omega)
    | true =>have:=zdo hb;rw[Aq,show l.length - k=0 by omega];simp[As,A8]
def GJ (out:List Ver) (x:Ver×Ver):List Ver:=bif AU x.2 x.1 then EV x.1 out else out
def Ec (s t:List Ver):List Ver:=(s.zip t).foldl GJ []
theorem UF {v:Ver}:∀ {l:List Ver}{k:Nat},k<=l.length->(∀ i (hi:i<l.length),i<k->AU l[i] v=true)->(∀ hk:k<l.length,AU l[k] v=false)->EV v l=l.take k++v :: l.drop k
 | [],k,hk,_,_=>by simp[EV]
 | u :: r,0,hk,_,h2=>by have:=h2 (by simp);simp only[List.getElem_cons_zero] at this;simp[EV,this]
 | u :: r,k+1,hk,h1,h2=>by have h0:=h1 0 (by simp) (by omega);simp only[List.getElem_cons_zero] at h0;simp only[EV,h0,cond_true,List.take_succ_cons,List.drop_succ_cons,zdT];rw[UF (l:=r) (k:=k) (by simpa using hk) (λi hi hik=>by have:=h1 (i+1) (by simpa using hi) (by omega);simpa using this) (λhkr=>by have:=h2 (by simpa using hkr);simpa using this)]
section
variable {lo:Nat}{h:Heap}{F F' G:List Nat}{a a' av:Pq}{c c' cv:Nq}
theorem MD (ok:El.Ok) {R e bytes:Nat}{rows:List (List V)}{Fs:List (List Nat)} (hx:EAll El h rows l Fs) (hnd:Fs.flatten.Nodup) (hF:∀ y∈Fs.flatten,y<h.length) (hb:0<bytes) (hsz:l.length*bytes<=140737488355328) (hl:lo<=h.length) :
  ∃ a' c' h' F',(∀ {T:Type} (K:V->Heap->Option T),Dv lo e R bytes (.sl R (some (h.length,0)) 0 (some 0)) rows (h ++ [.rows R e false []]) K=K (.sl R a' l.length c') h')/\Sli false R e El h' [.sl R a' l.length c'] l F'/\h.length<h'.length/\(∀ y,y<h.length->h'[y]?=h[y]?) /\
   (∀ y∈F',y∈Fs.flatten\/(h.length<=y/\y<h'.length))/\F'.Nodup:=by
 have m0:Mv h [] (h ++ [.rows R e false []]) [h.length]:=Mv.last;have hfresh:Sli false R e El (h ++ [.rows R e false []]) [.sl R (some (h.length,0)) 0 (some 0)] [] [h.length]:=Sli.fresh (zdj _);obtain ⟨a',c',h',F',p1,p2,p3,p4,p5,p6⟩:=LP (lo:=lo) (bytes:=bytes) ok.fr hfresh (xs:=rows) (ys:=l) (Gs:=Fs) (hx.fr ok.fr λy hy=>m0.fr y (hF y hy) (by simp)) hb (by simpa using hsz) (by simp;omega) (by simp;omega)
  (by rw[zdT,zdO,zdn];exact ⟨λhm=>by have:=hF _ hm;omega,hnd⟩) (λy hy=>by
   rw[zdT,zdO,zdm] at hy;rcases hy with rfl | hy
   ·simp
   ·have:=hF y hy;simp;omega)
 simp only[zet,zdR,zdO] at p1 p2;refine ⟨a',c',h',F',p1,p2,by simp at p3;omega,λy hy=>?_,λy hy=>?_,p6⟩
 ·rw[p4 y (by simp;omega) (by simp;omega)];exact m0.fr y hy (by simp)
 ·simp at p3;rcases p5 y hy with g | g
  ·rw[zdT,zdO,zdm] at g;rcases g with rfl | g
   ·exact .inr (by omega)
   ·exact .inl g
  ·simp at g;exact .inr (by omega)
theorem EZ {Fs:List (List Nat)}{k:Nat} (hnd:Fs.flatten.Nodup):(Fs.take k).flatten.Nodup/\(Fs.drop k).flatten.Nodup/\∀ x∈(Fs.take k).flatten,∀ y∈(Fs.drop k).flatten,x≠y:=by rw[<- zdS k Fs,zdL,zdg] at hnd;exact hnd
theorem VG {s t:List Ver}{a1 a2:Pq}{c1 c2:Nq}{F1 F2:List Nat} (hs:RVers false h [.sl 6 a1 s.length c1] s F1) (ht:RVers false h [.sl 6 a2 t.length c2] t F2) (h4:s.length=4) (h4':t.length=4) (hpn:∀ v∈s,v.past.length<=1048576) (hl:lo<=h.length) :
  ∃ a' c' h' F',Af lo 291 [.agg [.sl 6 a1 s.length c1],.agg [.sl 6 a2 t.length c2]] h=some (.sl 6 a' (Ec s t).length c',h')/\RVers false h' [.sl 6 a' (Ec s t).length c'] (Ec s t) F'/\Mv h [] h' F':=by
 suffices hq:∃ a' c' h' F',_=some (V.sl 6 a' (Ec s t).length c',h')/\RVers false h' [.sl 6 a' (Ec s t).length c'] (Ec s t) F'/\Mv h [] h' F' from by obtain ⟨a',c',h',F',e,hr⟩:=hq;exact ⟨a',c',h',F',S2 e,hr⟩
 have hzl:(s.zip t).length=4:=by rw[zeU];omega
 have one:∀ m i,m+i=4->∀ hh ax cx (out:List Ver) Fx,RVers false hh [.sl 6 ax out.length cx] out Fx->Mv h [] hh Fx->out.length<=i->∃ a' c' h' F',
   BY lo ax out.length cx (i:Nat) a1 s.length c1 a2 t.length c2 hh=some (.sl 6 a' (((s.zip t).drop i).foldl GJ out).length c',h')/\RVers false h' [.sl 6 a' (((s.zip t).drop i).foldl GJ out).length c'] (((s.zip t).drop i).foldl GJ out) F'/\Mv h [] h' F':=by
  intro m;induction m with
  | zero =>intro i hi hh ax cx out Fx hr hm hlen;rw[BY.e,Aj (by omega),zdZ (by omega)];exact ⟨ax,cx,hh,Fx,rfl,hr,hm⟩
  | succ m ih =>
   intro i hi hh ax cx out Fx hr hm hlen;have his:i<s.length:=by omega
   have hit:i<t.length:=by omega
   have hs':=hm.keep0 rvers_ok hs;have ht':=hm.keep0 rvers_ok ht;obtain ⟨o1,s1,b1,d1,H1,ha1,_,_,_,_,_,_,hl1,hl1',es1,hp1,_⟩:=RVers.all hs' his;obtain ⟨o2,s2,b2,d2,H2,ha2,_,_,_,_,_,_,hl2,_,_,_,_⟩:=RVers.all ht' hit;have hzi:i<(s.zip t).length:=by omega
   rw[zdw hzi,zd6,List.getElem_zip];have hlf:GJ out (s[i],t[i])=bif AU t[i] s[i] then EV s[i] out else out:=rfl;rw[hlf,BY.e,Am (by omega),Ac hit,ha2,Ae,A7,hl2,Ae,Aa,Ab,Aa,Ab,Ag,Ac his,ha1,Ae,hl1,Ae,Aa,Ab,Aa,Ab,Ag,Ce,Ad,Ax,<- ha1,<- ha2];show ∃ a' c' h' F',br (AU t[i] s[i]) _ _=_/\_;cases hless:AU t[i] s[i] with
   | false =>rw[Az,cond_false,Au (by omega)];exact ih (i+1) (by omega) hh ax cx out Fx hr hm (by omega)
   | true =>
   rw[Aq,cond_true];have put:∀ k,k<=out.length->EV s[i] out=out.take k++s[i] :: out.drop k->∃ a' c' h' F',(Aw ax out.length cx none (some (Iv (k:Nat))) none λa_36 n_37 c_38=>As 6 (hh ++ [.rows 6 43 false []]) (.sl 6 a_36 n_37 c_38) λx_39=>Dv lo 43 6 72 (.sl 6 (some ((List.length hh),0)) 0 (some 0)) x_39 (hh ++ [.rows 6 43 false []]) λv_40 h_41=>eS 6 (v_40) λa_42 n_43 c_44=>An ((i:Nat):Int) s.length (eO a1 λo_45=>eO (ld h_41 (o_45.1) ((o_45.2)+(((i:Nat):Int).toNat)) 0 6) λo_46=>eC o_46 λv_47 l_48=>eI .i64 v_47 λn_49=>eC l_48 λv_50 l_51=>eI .i64 v_50 λn_52=>eC l_51 λv_53 l_54=>eI .i64 v_53 λn_55=>eC l_54 λv_56 l_57=>eS 2 (v_56) λa_58 n_59 c_60=>eC l_57 λv_61 l_62=>eT v_61 λs_63=>eC l_62 λv_64 l_65=>eBv v_64 λb_66=>eN l_65 (Ak (Af lo 187 [.agg [Iv (n_49),Iv (n_52),Iv (n_55),.sl 2 a_58 n_59 c_60,.str (s_63),.bool (b_66)]] h_41) λv_67 h_68=>eA v_67 λc_69=>eC c_69 λv_70 l_71=>eI .i64 v_70 λn_72=>eC l_71 λv_73 l_74=>eI .i64 v_73 λn_75=>eC l_74 λv_76 l_77=>eI .i64 v_76 λn_78=>eC l_77 λv_79 l_80=>eS 2 (v_79) λa_81 n_82 c_83=>eC l_80 λv_84 l_85=>eT v_84 λs_86=>eC l_85 λv_87 l_88=>eBv v_87 λb_89=>eN l_88 (As 6 (h_68 ++ [.rows 6 43 false [[Iv (n_72),Iv (n_75),Iv (n_78),.sl 2 a_81 n_82 c_83,.str (s_86),.bool (b_89)]]]) (.sl 6 (some ((List.length h_68),0)) 1 (some 1)) λx_90=>Dv lo 43 6 72 (.sl 6 a_42 n_43 c_44) x_90 (h_68 ++ [.rows 6 43 false [[Iv (n_72),Iv (n_75),Iv (n_78),.sl 2 a_81 n_82 c_83,.str (s_86),.bool (b_89)]]]) λv_91 h_92=>eS 6 (v_91) λa_93 n_94 c_95=>Aw ax out.length cx (some (Iv (k:Nat))) none none λa_96 n_97 c_98=>As 6 h_92 (.sl 6 a_96 n_97 c_98) λx_99=>Dv lo 43 6 72 (.sl 6 a_93 n_94 c_95) x_99 h_92 λv_100 h_101=>eS 6 (v_100) λa_102 n_103 c_104=>BY lo a_102 n_103 c_104 (Al (((i:Nat):Int)+1)) a1 s.length c1 a2 t.length c2 h_101))))=some (V.sl 6 a' (((s.zip t).drop (i+1)).foldl GJ (EV s[i] out)).length c',h') /\
     RVers false h' [.sl 6 a' (((s.zip t).drop (i+1)).foldl GJ (EV s[i] out)).length c'] (((s.zip t).drop (i+1)).foldl GJ (EV s[i] out)) F'/\Mv h [] h' F':=by
    intro k hk hins;have hbx:=rvers_ok.bd _ _ _ _ hr;obtain ⟨Fs,nF,sF,own,cuts⟩:=hr.parts hm.nd;obtain ⟨rP,rQ,eP,eQ,kP,kQ⟩:=cuts k hk;obtain ⟨nP,nQ,dPQ⟩:=EZ (k:=k) nF;have inP:∀ y∈(Fs.take k).flatten,y∈Fs.flatten:=λy hy=>by rw[<- zdS k Fs,zdL];simp[hy]
    have inQ:∀ y∈(Fs.drop k).flatten,y∈Fs.flatten:=λy hy=>by rw[<- zdS k Fs,zdL];simp[hy]
    have hFl:∀ y∈Fs.flatten,y<hh.length:=λy hy=>hbx y (sF y hy);have hlh:lo<=hh.length:=zdh hl hm.le;have htl:(out.take k).length=k:=by rw[zdD];omega
    have hdl:(out.drop k).length=out.length - k:=by rw[zeh]
    obtain ⟨a3,c3,h3,F3,e3,r3,l3,fr3,sub3,nd3⟩:=MD (lo:=lo) (R:=6) (e:=Kc false) (bytes:=72) rver_ok eP nP (λy hy=>hFl y (inP y hy)) (by decide) (by omega) hlh;have m3:Mv hh [] h3 []:=⟨by omega,λy hy _=>fr3 y hy,by simp,by simp⟩;have hs3:=m3.keep0 rvers_ok hs';obtain ⟨o4,s4,b4,d4,H4,ha4,ho4,es4,hp4,_⟩:=hs3.get his;obtain ⟨a5,c5,h5,F5,e5,r5,m5⟩:=Eo (lo:=lo) (v:=s[i]) hp4 (by omega) (hpn _ (zdf his));obtain ⟨a6,c6,h6,F6,e6,r6,m6⟩:=DN (lo:=lo) (bytes:=72) (e:=43) rver_ok r3 (row:=s[i].cs a5 c5) (x:=s[i]) (G:=F5) (h1:=h5 ++ [.rows 6 43 false [s[i].cs a5 c5]])
     ⟨_,rfl,Mv.snoc.keep0 rtags_ok r5⟩ (m5.trans (Mv.snoc' m5.nd)) nd3 (λy hy=>by
      rcases sub3 y hy with g | g
      ·exact hm.ge hl (by simp) y (sF y (inP y g))
      ·omega) (by omega) (by decide) (by omega)
    have hQ3:∀ y∈(Fs.drop k).flatten,y∉F3/\y<h3.length:=λy hy=>by
     have:=hFl y (inQ y hy);refine ⟨λhm3=>?_,by omega⟩;rcases sub3 y hm3 with g | g
     ·exact dPQ y g y hy rfl
     ·omega
    have hQ6:∀ y∈(Fs.drop k).flatten,h6[y]?=hh[y]?:=λy hy=>by rw[m6.fr y (hQ3 y hy).2 (hQ3 y hy).1];exact fr3 y (hFl y (inQ y hy))
    have l6:=m6.le;have F6b:∀ y∈F6,y<h6.length:=rvers_ok.bd _ _ _ _ r6;obtain ⟨a7,c7,h7,F7,e7,r7,l7,fr7,sub7,nd7⟩:=LP (lo:=lo) (bytes:=72) rver_ok.fr r6 (xs:=rQ) (ys:=out.drop k) (Gs:=Fs.drop k) (eQ.fr rver_ok.fr hQ6) (by decide) (by simp only[zdy,htl,hdl,zd2];omega) (λy hy=>m6.ge (by omega) (λy hy=>by
      rcases sub3 y hy with g | g
      ·exact hm.ge hl (by simp) y (sF y (inP y g))
      ·omega) y hy) (by omega) (by
      rw[zdg];refine ⟨m6.nd,nQ,λx hx y hy e=>?_⟩;subst e;rcases m6.sub x hx with g | g
      ·exact (hQ3 x hy).1 g
      ·have:=(hQ3 x hy).2;omega) (λy hy=>by
      rcases zde.1 hy with hy | hy
      ·exact F6b y hy
      ·have:=(hQ3 y hy).2;omega)
    have hfin:out.take k ++ [s[i]]++out.drop k=EV s[i] out:=by rw[hins,zdv];rfl
    have hflen:(out.take k).length+1+(out.drop k).length=(EV s[i] out).length:=by rw[Ll,htl,hdl];omega
    rw[zdy,zd2,hflen] at e7 r7;rw[hfin] at r7;have m7:Mv h [] h7 F7:=by
     refine ⟨by have:=hm.le;omega,λy hy _=>?_,nd7,λy hy=>?_⟩
     ·have y1:y<hh.length:=zdq hy hm.le;have yF:y∉Fx:=λhmx=>by have:=hm.new y hmx;omega
      have y3:y∉F3:=λhm3=>by
       rcases sub3 y hm3 with g | g
       ·exact yF (sF y (inP y g))
       ·omega
      have y6:y∉F6:=λhm6=>by
       rcases m6.sub y hm6 with g | g
       ·exact y3 g
       ·omega
      rw[fr7 y (by omega) y6,m6.fr y (by omega) y3,fr3 y y1,hm.fr y hy (by simp)]
     ·refine .inr ?_;have hh':=hm.le;rcases sub7 y hy with g | g
      ·rcases zde.1 g with g | g
       ·rcases m6.sub y g with g | g
        ·rcases sub3 y g with g | g
         ·have:=hm.new y (sF y (inP y g));have:=hFl y (inP y g);omega
         ·omega
        ·omega
       ·have:=hm.new y (sF y (inQ y g));have:=hFl y (inQ y g);omega
      ·omega
    obtain ⟨a8,c8,h8,F8,e8,r8,m8⟩:=ih (i+1) (by omega) h7 a7 c7 (EV s[i] out) F7 r7 m7 (by rw[Ll];omega);refine ⟨a8,c8,h8,F8,?_,r8,m8⟩;have mm0:Mv hh [] (hh ++ [.rows 6 43 false []]) []:=Mv.snoc;have h6x:∀ b i,ax=some (b,i)->h6[b]?=hh[b]?:=λb i e=>by
     obtain ⟨q1,q2⟩:=own b i e;have:=hbx b q1;rw[m6.fr b (by omega) λhm3=>?_,fr3 b this];rcases sub3 b hm3 with g | g
     ·exact q2 (inP b g)
     ·omega
    simp only[Ver.cs] at e6;rw[show Kc false=43 from rfl] at e3;rw[kP _ (λb i e=>mm0.fr b (hbx b (own b i e).1) (by simp)),e3,Ai,Ac his,ha4,Ae,A7,ho4,Ae,Aa,Ab,Aa,Ab,Aa,Ab,Aa,es4,Aa,BO,Aa,AK,Ag];rw[show (V.agg [Iv s[i].key,Iv s[i].tag.time,Iv s[i].tag.place,.sl 2 b4 s[i].past.length d4,.str s[i].text,.bool s[i].gone]) = .agg (s[i].cs b4 d4) from rfl,e5,Ad,AS,Aa,Ab,Aa,Ab,Aa,Ab,Aa,Ai,Aa,BO,Aa,AK,Ag,AX,e6,Ai,kQ _ h6x,e7,Ai,Au (by omega),<- ha4];exact e8
   have two:∀ m k,m+k=out.length->(∀ j (hj:j<out.length),j<k->AU out[j] s[i]=true)->∃ a' c' h' F',Dn lo ax out.length cx (i:Nat) (k:Nat) a1 s.length c1 a2 t.length c2 hh=some (V.sl 6 a' (((s.zip t).drop (i+1)).foldl GJ (EV s[i] out)).length c',h') /\
     RVers false h' [.sl 6 a' (((s.zip t).drop (i+1)).foldl GJ (EV s[i] out)).length c'] (((s.zip t).drop (i+1)).foldl GJ (EV s[i] out)) F'/\Mv h [] h' F':=by
    intro m;induction m with
    | zero =>intro k hk hall;rw[Dn.e,Aj (by omega)];exact put k (by omega) (UF (by omega) hall (λh=>by omega))
    | succ m ih2 =>
     intro k hk hall;have hkl:k<out.length:=by omega
     obtain ⟨o3,s3,b3,d3,H3,ha3,_,_,_,_,_,_,hl3,_,_,_,_⟩:=RVers.all hr hkl;rw[Dn.e,Am (by omega),Ac hkl,ha3,Ae,A7,hl3,Ae,Aa,Ab,Aa,Ab,Ag,Ac his,ha1,Ae,A7,hl1,Ae,Aa,Ab,Aa,Ab,Ag,Ce,Ad,Ax,<- ha1,<- ha3];show ∃ a' c' h' F',br (AU out[k] s[i]) _ _=_/\_;cases hlk:AU out[k] s[i] with
     | true =>
      rw[Aq,Au (by omega)];exact ih2 (k+1) (by omega) (λj hj hjk=>by
       by_cases e:j=k
       ·subst e;exact hlk
       ·exact hall j hj (by omega))
     | false =>rw[Az];exact put k (by omega) (UF (by omega) hall (λ_=>hlk))
   exact two out.length 0 (by omega) (λj _ hj=>by omega)
 have m0:Mv h [] (h ++ [.rows 6 43 false []]) [h.length]:=Mv.last;obtain ⟨a',c',h',F',e,r,m⟩:=one 4 0 (by omega) (h ++ [.rows 6 43 false []]) (some (h.length,0)) (some 0) [] [h.length] (Sli.fresh (zdj _)) m0 (by simp);rw[zeg] at e r;exact ⟨a',c',h',F',e,r,m⟩
end


variable {l:List Node}{w:List Ver}
def BZ (l:List Node) (k:Nat) (w:List Ver):List Node:=match l[k]? with
 | some x=>l.set k ⟨x.store,w⟩
 | none=>l
def GA (l:List Node) (k:Nat):List Ver:=match l[k]? with
 | some x=>x.store
 | none => []
def B9 (l:List Node) (k:Nat):List Node :=
 bif decide (0<k) then (bif decide (k<(l.eraseIdx k).length) then BZ (l.eraseIdx k) (k - 1) (Ec (GA (l.eraseIdx k) (k - 1)) (GA (l.eraseIdx k) k)) else BZ (l.eraseIdx k) (k - 1) []) else l.eraseIdx k
theorem Ep {k:Nat} (hk:k<l.length):BZ l k w=l.set k ⟨l[k].store,w⟩:=by unfold BZ;rw[DZ hk]
theorem Dd {k:Nat} (hk:k<l.length):GA l k=l[k].store:=by unfold GA;rw[DZ hk]
theorem CE {k:Nat}:(BZ l k w).length=l.length:=by unfold BZ;split<;>simp
theorem Pi {k:Nat} (hk:k<l.length) (hw:l[k].wait = []):BZ l k []=l:=by
 rw[Ep hk];have:(⟨l[k].store,[]⟩:Node)=l[k]:=by
  cases hx:l[k] with
  | mk s w=>rw[hx] at hw;simp only at hw;rw[hw]
 rw[this];exact zew hk
section
variable {lo:Nat}{h:Heap}{F F' G:List Nat}{a a' av:Pq}{c c' cv:Nq}
theorem QT {n k:Nat}{ws:List Ver}{w:V}{h1:Heap}{Fw:List Nat} (hs:RNodes false h [.sl 2 a n c] l F) (hk:k<l.length) (hnd:F.Nodup) (hlo:∀ b∈F,lo<=b) (hw:RVers false h1 [w] ws Fw) (m:Mv h [] h1 Fw) :
  ∃ b i h2 F',a=some (b,i)/\b∈F/\st lo h1 b (i+k) 1 [w]=some h2/\RNodes false h2 [.sl 2 a n c] (BZ l k ws) F'/\Mv h F h2 F'/\(∀ y,y≠b->h2[y]?=h1[y]?):=by
 obtain ⟨b,i,rs,row,G0,ha,hbF,hbG,hb,hrow,hel,hGF,hGn,put⟩:=hs.at2 rnode_ok hk hnd hlo;obtain ⟨t1,t2,F1,F2,rfl,rfl,r1,r2⟩:=hel;rw[zdg] at hGn;have b1:∀ y∈F1,y<h.length:=rvers_ok.bd _ _ _ _ r1;have m1:Mv h (F1++F2) h1 (F1++Fw):=by
  refine ⟨m.le,λy hy _=>m.fr y hy (by simp),?_,λy hy=>?_⟩
  ·rw[zdg];refine ⟨hGn.1,m.nd,λx hx y hy e=>?_⟩;subst e;have:=b1 x hx;have:=m.new x hy;omega
  ·rcases zde.1 hy with hy | hy
   ·exact .inl (by simp[hy])
   ·exact (m.sub y hy).imp (λg=>by simp at g) id
 obtain ⟨h2,F',e2,r,m2,fr,_⟩:=put h1 (F1++Fw) 1 [w] [t1,w] ⟨l[k].store,ws⟩ m1 rfl ⟨_,_,F1,Fw,rfl,rfl,m.keep0 rvers_ok r1,hw⟩;rw[<- Ep hk] at r;exact ⟨b,i,h2,F',ha,hbF,e2,r,m2,fr⟩
theorem ZA {k:Nat} (hs:RNodes false h [.sl 2 a l.length c] l F) (hk:k<l.length) (hnd:F.Nodup) (hlo:∀ b∈F,lo<=b) (hl:lo<=h.length) (hn:l.length<=1048576) :
  ∃ a' c' h' F',(∀ {T:Type} (K:V->Heap->Option T),(Aw a l.length c none (some (Iv (k:Nat))) none λa_0 n_1 c_2=>As 2 (h ++ [.rows 2 47 false []]) (.sl 2 a_0 n_1 c_2) λx_3=>Dv lo 47 2 48 (.sl 2 (some ((List.length h),0)) 0 (some 0)) x_3 (h ++ [.rows 2 47 false []]) λv_4 h_5=>eS 2 (v_4) λa_6 n_7 c_8 =>
    Aw a l.length c (some (Iv ((k+1:Nat):Int))) none none λa_9 n_10 c_11=>As 2 h_5 (.sl 2 a_9 n_10 c_11) λx_12=>Dv lo 47 2 48 (.sl 2 a_6 n_7 c_8) x_12 h_5 K)=K (.sl 2 a' (l.eraseIdx k).length c') h') /\
   RNodes false h' [.sl 2 a' (l.eraseIdx k).length c'] (l.eraseIdx k) F'/\Mv h F h' F':=by
 have hbd:=rnodes_ok.bd _ _ _ _ hs;obtain ⟨Fs,nF,sF,own,cuts⟩:=Sli.parts hs hnd;obtain ⟨rP,_,eP,_,kP,_⟩:=cuts k (by omega);obtain ⟨_,rQ,_,eQ,_,kQ⟩:=cuts (k+1) (by omega);obtain ⟨nP,_,dPQ⟩:=EZ (k:=k) nF;obtain ⟨_,nQ,_⟩:=EZ (k:=k+1) nF;have inP:∀ y∈(Fs.take k).flatten,y∈Fs.flatten:=λy hy=>by rw[<- zdS k Fs,zdL];simp[hy]
 have inQ:∀ y∈(Fs.drop (k+1)).flatten,y∈(Fs.drop k).flatten:=λy hy=>by
  have:Fs.drop (k+1)=(Fs.drop k).drop 1:=by rw[zeC]
  rw[this] at hy;rw[<- zdS 1 (Fs.drop k),zdL];exact zde.2 (.inr hy)
 have inQ':∀ y∈(Fs.drop (k+1)).flatten,y∈Fs.flatten:=λy hy=>by rw[<- zdS k Fs,zdL];simp[inQ y hy]
 have hFl:∀ y∈Fs.flatten,y<h.length:=λy hy=>hbd y (sF y hy);have htl:(l.take k).length=k:=by rw[zdD];omega
 have hdl:(l.drop (k+1)).length=l.length - (k+1):=by rw[zeh]
 obtain ⟨a3,c3,h3,F3,e3,r3,l3,fr3,sub3,nd3⟩:=MD (lo:=lo) (R:=2) (e:=NO false) (bytes:=48) rnode_ok eP nP (λy hy=>hFl y (inP y hy)) (by decide) (by omega) hl;have hQ3:∀ y∈(Fs.drop (k+1)).flatten,y∉F3/\y<h3.length:=λy hy=>by
  have:=hFl y (inQ' y hy);refine ⟨λhm3=>?_,by omega⟩;rcases sub3 y hm3 with g | g
  ·exact dPQ y g y (inQ y hy) rfl
  ·omega
 have F3b:∀ y∈F3,y<h3.length:=rnodes_ok.bd _ _ _ _ r3;obtain ⟨a7,c7,h7,F7,e7,r7,l7,fr7,sub7,nd7⟩:=LP (lo:=lo) (bytes:=48) rnode_ok.fr r3 (xs:=rQ) (ys:=l.drop (k+1)) (Gs:=Fs.drop (k+1)) (eQ.fr rnode_ok.fr λy hy=>fr3 y (hFl y (inQ' y hy))) (by decide) (by rw[htl,hdl];omega) (λy hy=>by
   rcases sub3 y hy with g | g
   ·exact hlo y (sF y (inP y g))
   ·omega) (by omega) (by
   rw[zdg];refine ⟨nd3,nQ,λx hx y hy e=>?_⟩;subst e;exact (hQ3 x hy).1 hx) (λy hy=>by
   rcases zde.1 hy with hy | hy
   ·exact F3b y hy
   ·exact (hQ3 y hy).2)
 have hel:(l.take k).length+(l.drop (k+1)).length=(l.eraseIdx k).length:=by rw[zdN hk,htl,hdl];omega
 have her:l.take k++l.drop (k+1)=l.eraseIdx k:=(List.eraseIdx_eq_take_drop_succ l k).symm;rw[hel] at e7 r7;rw[her] at r7;have mm0:Mv h [] (h ++ [.rows 2 47 false []]) []:=Mv.snoc;rw[show NO false=47 from rfl] at e3 e7;refine ⟨a7,c7,h7,F7,λK=>?_,r7,⟨by omega,λy hy hyF=>?_,nd7,λy hy=>?_⟩⟩
 ·rw[kP _ (λb i e=>mm0.fr b (hbd b (own b i e).1) (by simp)),e3,Ai,kQ _ (λb i e=>fr3 b (hbd b (own b i e).1)),e7]
 ·have y3:y∉F3:=λhm3=>by
   rcases sub3 y hm3 with g | g
   ·exact hyF (sF y (inP y g))
   ·omega
  rw[fr7 y (by omega) y3,fr3 y hy]
 ·rcases sub7 y hy with g | g
  ·rcases zde.1 g with g | g
   ·rcases sub3 y g with g | g
    ·exact .inl (sF y (inP y g))
    ·exact .inr (by omega)
   ·exact .inl (sF y (inQ' y g))
  ·exact .inr (by omega)
theorem VI {k:Nat} (hs:RNodes false h [.sl 2 a l.length c] l F) (hk:k<l.length) (h2:1<l.length) (hlast:(l[l.length - 1]'(by omega)).wait = []) (hnd:F.Nodup) (hlo:∀ b∈F,lo<=b) (hl:lo<=h.length) (hn:l.length<=1048576) (hx:∀ x∈l,GE 20 x) :
  ∃ a' c' h' F',Af lo 256 [.agg [.sl 2 a l.length c],Iv (k:Nat)] h=some (.agg [.sl 2 a' (B9 l k).length c'],h')/\RNodes false h' [.sl 2 a' (B9 l k).length c'] (B9 l k) F'/\Mv h F h' F':=by
 suffices hq:∃ a' c' h' F',_=some (V.agg [.sl 2 a' (B9 l k).length c'],h')/\RNodes false h' [.sl 2 a' (B9 l k).length c'] (B9 l k) F'/\Mv h F h' F' from by obtain ⟨a',c',h',F',e,hr⟩:=hq;exact ⟨a',c',h',F',S4 e,hr⟩
 have hel:=zdN hk;obtain ⟨a1,c1,h1,F1,e1,r1,m1⟩:=ZA (lo:=lo) hs hk hnd hlo hl hn;have hflen:(B9 l k).length=l.length - 1:=by
  unfold B9;cases decide (0<k)
  ·exact hel
  ·cases decide (k<(l.eraseIdx k).length)
   ·rw[cond_true,cond_false,CE];exact hel
   ·rw[cond_true,cond_true,CE];exact hel
 rw[Au (by omega),e1,Ai];have hl1:lo<=h1.length:=zdh hl m1.le;have hlo1:∀ b∈F1,lo<=b:=λb hb=>m1.ge hl hlo b hb;have hn1:((l.eraseIdx k).length:Int) - 1=(((l.eraseIdx k).length - 1:Nat):Int):=by omega
 have tail:∀ (l':List Node) (hh:Heap) (F':List Nat),l'.length=(l.eraseIdx k).length->RNodes false hh [.sl 2 a1 (l.eraseIdx k).length c1] l' F'->F'.Nodup->(∀ b∈F',lo<=b)->∃ h' F'',(An (Al ((((l.eraseIdx k).length:Nat):Int) - 1)) (l.eraseIdx k).length (eO a1 λo_41=>eO (st lo hh (o_41.1) ((o_41.2)+((Al ((((l.eraseIdx k).length:Nat):Int) - (1:Int))).toNat)) 1 [.sl 0 none 0 (some 0)]) λo_42=>some (V.agg [.sl 2 a1 (l.eraseIdx k).length c1],o_42)))=some (.agg [.sl 2 a1 (l.eraseIdx k).length c1],h') /\
   RNodes false h' [.sl 2 a1 (l.eraseIdx k).length c1] (BZ l' ((l.eraseIdx k).length - 1) []) F''/\Mv hh F' h' F'':=by
  intro l' hh F' hll hr hnd' hlo';obtain ⟨b,i,h3,F3,ha,_,e3,r3,m3,_⟩:=QT (lo:=lo) (k:=(l.eraseIdx k).length - 1) (w := .sl 0 none 0 (some 0)) (ws := []) hr (by omega) hnd' hlo' Sli.nil Mv.nil;rw[wr (n:=(((l.eraseIdx k).length:Nat):Int) - 1) (by omega) (by omega),hn1,Ac (by omega),ha,Ae,A7,e3,Ae,<- ha];exact ⟨h3,F3,rfl,r3,m3⟩
 have hlast':∀ hj:(l.eraseIdx k).length - 1<(l.eraseIdx k).length,k<(l.eraseIdx k).length->((l.eraseIdx k)[(l.eraseIdx k).length - 1]).wait = []:=λhj hkl=>by
  have:(l.eraseIdx k)[(l.eraseIdx k).length - 1]=l[l.length - 1]:=by rw[List.getElem_eraseIdx];rw[dif_neg (by omega)];congr 1;omega
  rw[this];exact hlast
 by_cases h0:0<k
 ·rw[Am (by omega)];by_cases hkl:k<(l.eraseIdx k).length
  ·-- in between
   have hf:B9 l k=BZ (l.eraseIdx k) (k - 1) (Ec (GA (l.eraseIdx k) (k - 1)) (GA (l.eraseIdx k) k)):=by unfold B9;rw[decide_eq_true h0,cond_true,decide_eq_true hkl,cond_true]
   have hk1:k - 1<(l.eraseIdx k).length:=by omega
   have hxm:∀ x∈l.eraseIdx k,GE 20 x:=λx hx'=>hx x (zed hx');obtain ⟨o,s1,s2,b1,d1,b2,d2,H1,H2,ha,_,ho1,_,q1,_,p1,_⟩:=r1.get hk1;obtain ⟨o',s1',s2',b1',d1',b2',d2',H1',H2',ha',_,ho1',_,q1',_,p1',_⟩:=r1.get hkl;have ho:o=o':=by rw[ha] at ha';injection ha'
   subst ho;have n1:=hxm _ (zdf hk1);have n2:=hxm _ (zdf hkl);obtain ⟨a4,c4,h4,F4,e4,r4,m4⟩:=VG (lo:=lo) p1 p1' n1.1 n2.1 (λv hv=>by have:=(n1.2.2.1 v hv).1;omega) hl1;obtain ⟨b,i,h5,F5,hb,_,e5,r5,m5,_⟩:=QT (lo:=lo) (k:=k - 1) (w := .sl 6 a4 (Ec (l.eraseIdx k)[k - 1].store (l.eraseIdx k)[k].store).length c4) r1 hk1 m1.nd hlo1 r4 m4;obtain ⟨h6,F6,e6,r6,m6⟩:=tail _ h5 F5 CE r5 m5.nd (λb hb=>m5.ge hl1 hlo1 b hb);have hkk:((k:Nat):Int) - 1=((k - 1:Nat):Int):=by omega
   have hoe:o=(b,i):=by rw[ha] at hb;injection hb
   subst hoe;rw[Am (by omega),wr (n:=((k:Nat):Int) - 1) (by omega) (by omega),hkk,Ac hk1,ha,Ae,A7,ho1,Ae,Aa,q1,Ag,Ac hkl,Ae,A7,ho1',Ae,Aa,q1',Ag,e4,Ad,Ai,Ac hk1,Ae,e5,Ae,<- ha,e6];have hsame:BZ (BZ (l.eraseIdx k) (k - 1) (Ec (l.eraseIdx k)[k - 1].store (l.eraseIdx k)[k].store)) ((l.eraseIdx k).length - 1) []=B9 l k:=by
    rw[hf,Dd hk1,Dd hkl];have hj:(l.eraseIdx k).length - 1<(BZ (l.eraseIdx k) (k - 1) (Ec (l.eraseIdx k)[k - 1].store (l.eraseIdx k)[k].store)).length:=by rw[CE];omega
    refine Pi hj ?_;have hg:=Ep (w:=Ec (l.eraseIdx k)[k - 1].store (l.eraseIdx k)[k].store) hk1;rw[zeY hg,List.getElem_set_ne (by omega)];exact hlast' (by omega) hkl
   rw[hsame] at r6;refine ⟨a1,c1,h6,F6,by rw[hflen,hel],by rw[hflen,<- hel];exact r6,(m1.trans m5).trans m6⟩
  ·-- the tail fell
   have hf:B9 l k=BZ (l.eraseIdx k) (k - 1) []:=by unfold B9;rw[decide_eq_true h0,cond_true,decide_eq_false hkl,cond_false]
   have hkk:(l.eraseIdx k).length - 1=k - 1:=by omega
   obtain ⟨h6,F6,e6,r6,m6⟩:=tail _ h1 F1 rfl r1 m1.nd hlo1;rw[Aj (by omega),e6];rw[hkk,<- hf] at r6;exact ⟨a1,c1,h6,F6,by rw[hflen,hel],by rw[hflen,<- hel];exact r6,m1.trans m6⟩
 ·have hf:B9 l k=l.eraseIdx k:=by unfold B9;rw[decide_eq_false h0,cond_false]
  obtain ⟨h6,F6,e6,r6,m6⟩:=tail _ h1 F1 rfl r1 m1.nd hlo1;rw[Aj (by omega),e6];rw[Pi (by omega) (hlast' (by omega) (by omega)),<- hf] at r6;exact ⟨a1,c1,h6,F6,by rw[hflen,hel],r6,m1.trans m6⟩
end


variable {s t:List Ver}{v:Ver}{l:List Node}{w:List Ver}{rs:List (List V)}
def A1 (x:Ver×Ver):Option Ver:=bif AU x.2 x.1 then some x.1 else none
theorem lack_sort:∀ {z:List (Ver×Ver)}{acc:List Ver},z.foldl GJ acc=(z.filterMap A1).foldl (λacc v=>EV v acc) acc
 | [],acc=>rfl
 | x :: z,acc=>by
  rw[zd6,lack_sort (z:=z)];unfold GJ;cases hx:AU x.2 x.1 with
  | true =>
   have:A1 x=some x.1:=by unfold A1;rw[hx];rfl
   rw[List.filterMap_cons,this];rfl
  | false =>
   have:A1 x=none:=by unfold A1;rw[hx];rfl
   rw[List.filterMap_cons,this];rfl
def Nx (s t:List Ver):List Ver:=(s.zip t).filterMap A1
theorem Rn:K9 (Nx s t)=Ec s t:=lack_sort.symm
theorem HS {u:Ver} (hu:CY u.tag.time u.tag.place=true) (hv:v.tag.time=0/\v.tag.place=0):AU u v=false:=by rw[J6];simp[CY,Ah] at hu;omega
theorem OU {i:Nat} (h:KY i v=true):CY v.tag.time v.tag.place=true:=(Ya h).2.2
theorem Rm (hs:Bv s=true) (ht:Bv t=true):(Nx s t).Pairwise λp u=>p.key<u.key:=by
 unfold Nx;rw[List.pairwise_filterMap,List.pairwise_iff_getElem];intro i j hi hj hij b hb b' hb';have hi':i<s.length/\i<t.length:=by rw[zeU] at hi;omega
 have hj':j<s.length/\j<t.length:=by rw[zeU] at hj;omega
 rw[List.getElem_zip] at hb hb';have key:∀ q (hq:q<s.length) (hq':q<t.length) x,A1 (s[q],t[q])=some x->x.key=(q:Int):=λq hq hq' x hx=>by
  unfold A1 at hx;simp only at hx;cases hl:AU t[q] s[q] with
  | false=>rw[hl] at hx;cases hx
  | true =>
   rw[hl] at hx;injection hx with hx;subst hx;rcases D8 (D2 hs hq) with g | g
   ·have:=HS (OU (D2 ht hq')) (Ge g);rw[hl] at this;cases this
   ·exact g.2
 have e1:=key i hi'.1 hi'.2 b (by simpa using hb);have e2:=key j hj'.1 hj'.2 b' (by simpa using hb');omega
theorem Zk (hs:s.length=4):(Nx s t).length<=4:=by unfold Nx;have:=List.length_filterMap_le A1 (s.zip t);rw[zeU] at this;omega
section
variable {lo:Nat}{h:Heap}{F F' G:List Nat}{a a' av:Pq}{c c' cv:Nq}
theorem XZ {n:Nat} (hn:n<=4):∃ x,Af lo 310 [.int .u64 (IntKind.wrap .u64 ((n:Nat):Int))] h=some (Iv x,h):=by
 have key:∀ m:Nat,m<=4->∃ x,Af (List.length h) 323 [.int .u64 (IntKind.wrap .u64 ((m:Nat):Int))] h=some (Iv x,h):=by
  intro m hm;have:m=0\/m=1\/m=2\/m=3\/m=4:=by omega
  rcases this with rfl | rfl | rfl | rfl | rfl;all_goals exact ⟨_,NW (h':=h) (by
   rw[Aj (by decide),Aj (by decide),Aj (by decide)];rfl)⟩
 obtain ⟨x,hx⟩:=key n hn;exact ⟨x,P7 (h':=h) (by rw[hx,Ad,Ab])⟩
theorem Zo {l:List Ver} (hs:RVers false h [.sl 6 a l.length c] l F) (h4:l.length<=4) (hk:l.Pairwise λp u=>p.key<u.key) (hnd:F.Nodup) (hlo:∀ b∈F,lo<=b) (hl:lo<=h.length) :
  ∃ h' F',Af lo 300 [.sl 6 a l.length c,.fn 301 []] h=some (.tup [],h')/\RVers false h' [.sl 6 a l.length c] (K9 l) F'/\Mv h F h' F':=by
 obtain ⟨x,hx⟩:=XZ (lo:=lo) (h:=h) h4;obtain ⟨h',F',e,r,m⟩:=Rv (lo:=lo) hs hk hnd hlo hl (by omega);refine ⟨h',F',FK ?_,r,m⟩;rw[hx,Ad,Ab];have:Af lo 309 [.sl 6 a l.length c,Iv 0,Iv ((l.length:Nat):Int),Iv x,.fn 301 []] h=some (.tup [],h'):=by
  have hc:l.length=0\/l.length=1\/l.length=2\/l.length=3\/l.length=4:=by omega
  rcases hc with q | q | q | q | q
  ·rw[q] at e ⊢;exact FC (by rw[A6.e];exact (congrArg (λo=>Ak o _) e).trans rfl)
  ·rw[q] at e ⊢;exact FB (by rw[A5.e];exact (congrArg (λo=>Ak o _) e).trans rfl)
  ·rw[q] at e ⊢;exact FA (by rw[A4.e];exact (congrArg (λo=>Ak o _) e).trans rfl)
  ·rw[q] at e ⊢;exact Fz (by rw[A3.e];exact (congrArg (λo=>Ak o _) e).trans rfl)
  ·rw[q] at e ⊢;exact Fy (by rw[A2.e];exact (congrArg (λo=>Ak o _) e).trans rfl)
 rw[this,Ad,Kd,Ag]
theorem UH {k:Nat} (hs:RNodes false h [.sl 2 a l.length c] l F) (hk:k<l.length) (hnd:F.Nodup) (hlo:∀ b∈F,lo<=b) (hn:l.length<=1048576) :
  ∃ h' F',Af lo 299 [.sl 2 a l.length c,Iv (k:Nat),Iv ((k+1:Nat):Int)] h=some (.sl 2 a (l.length - 1) c,h')/\RNodes false h' [.sl 2 a (l.length - 1) c] (l.eraseIdx k) F'/\Mv h F h' F':=by
 obtain ⟨h',F',Gv,b,i,row,ha,hld,hel,hG,e,r,m,fr⟩:=Sli.del (lo:=lo) (bytes:=48) (e:=47) (z := [.sl 0 none 0 (some 0),.sl 0 none 0 (some 0)]) (x1:=(k:Nat)) (x2:=((k+1:Nat):Int)) (T:=V×Heap) rnode_ok hs hk hnd hlo rfl (by omega) (by decide) (by omega) (some (.sl 2 a l.length c,h)) (λv h=>some (v,h));exact ⟨h',F',FL e,r,m⟩
theorem Xk {h3:Heap}{n k:Nat}{s1:V}{b0 i0:Nat} (hs:RNodes false h [.sl 2 a n c] l F) (ha:a=some (b0,i0)) (hk:k<l.length) (hst:ld h b0 (i0+k) 0 1=some [s1]) (hnd:F.Nodup) (hlo:∀ b∈F,lo<=b) (hl:lo<=h.length) (hw:l[k].wait.length<=1048576) (hv:RTags false h3 [.sl 2 av v.past.length cv] v.past G) (m3:Mv h [] h3 G) :
  ∃ t2 a2 c2 a5 c5 h5 h6 F6,ld h b0 (i0+k) 1 1=some [t2]/\(∀ {T:Type} (K:Pq->Nat->Nq->Option T),eS 6 t2 K=K a2 l[k].wait.length c2) /\
   (∀ {T:Type} (K:V->Heap->Option T),Dv lo 43 6 72 (.sl 6 a2 l[k].wait.length c2) [v.cs av cv] (h3 ++ [.rows 6 43 false [v.cs av cv]]) K=K (.sl 6 a5 (l[k].wait.length+1) c5) h5) /\
   st lo h5 b0 (i0+k) 1 [.sl 6 a5 (l[k].wait.length+1) c5]=some h6/\RNodes false h6 [.sl 2 a n c] (l.set k ⟨l[k].store,l[k].wait ++ [v]⟩) F6/\Mv h F h6 F6/\ld h6 b0 (i0+k) 0 1=some [s1]:=by
 obtain ⟨b,i,rs,row,G0,ha',hbF,hbG,hb,hrow,hel,hGF,hGn,_,put⟩:=hs.at rnode_ok hk hnd hlo;have:(b0,i0)=(b,i):=by rw[ha] at ha';injection ha'
 injection this with e1 e2;subst e1;subst e2;obtain ⟨t1,t2,F1,F2,rfl,rfl,r1,r2⟩:=hel;have hs1:s1=t1:=by rw[CA hb hrow] at hst;injection hst with hst;injection hst with hst _;exact hst.symm
 subst hs1;obtain ⟨a2,c2,e2,r2'⟩:=r2.form;rw[zdg] at hGn;obtain ⟨a5,c5,h5,F5,e5,r5,m5⟩:=DN (lo:=lo) (bytes:=72) (e:=43) rver_ok r2' (row:=v.cs av cv) (x:=v) (G:=G) (h1:=h3 ++ [.rows 6 43 false [v.cs av cv]])
  ⟨_,rfl,Mv.snoc.keep0 rtags_ok hv⟩ (m3.trans (Mv.snoc' m3.nd)) hGn.2.1 (λy hy=>hlo y (hGF y (by simp[hy]))) hl (by decide) (by omega)
 have b1:∀ y∈F1,y<h.length:=rvers_ok.bd _ _ _ _ r1;have m6:=(m5.aside (G:=F1) (by rw[zdg];exact ⟨hGn.2.1,hGn.1,λx hx y hy e=>hGn.2.2 y hy x hx e.symm⟩) b1).swap;have r1':=m5.keep rvers_ok r1 λy hy hm=>hGn.2.2 y hy y hm rfl;obtain ⟨h6,F6,e6,r6,m7,hb6,_,_⟩:=put h5 (F1++F5) 1 [.sl 6 a5 (l[k].wait.length+1) c5] [s1,.sl 6 a5 (l[k].wait.length+1) c5] ⟨l[k].store,l[k].wait ++ [v]⟩ m6 rfl ⟨_,_,F1,F5,rfl,rfl,r1',r5⟩;have hrl:i0+k<rs.length:=(DY hrow).1;have hr6:(rs.set (i0+k) [s1,.sl 6 a5 (l[k].wait.length+1) c5])[i0+k]?=some [s1,.sl 6 a5 (l[k].wait.length+1) c5]:=by simp[hrl]
 exact ⟨t2,a2,c2,a5,c5,h5,h6,F6,by rw[CA hb hrow];rfl,λK=>e2 K,λK=>e5 K,e6,r6,m7,by rw[CA hb6 hr6];rfl⟩
theorem QB {k:Nat}{w':List Ver} (hk:k<l.length):(BZ l k w).set k ⟨l[k].store,w'⟩=BZ l k w':=by rw[Ep hk,Ep hk,zd1]
theorem JX {k:Nat} (hk:k<l.length):(BZ l k w)[k]'(by rw[CE];exact hk)=⟨l[k].store,w⟩:=by rw[zeY (Ep hk),zev]
theorem YR {k q:Nat} (hk:k<l.length) (hq:q<l.length) (hne:k≠q):(BZ l k w)[q]'(by rw[CE];exact hq)=l[q]:=by rw[zeY (Ep hk),List.getElem_set_ne hne]
theorem Zw {b i j R e:Nat}{row:List V}{k1 b5 i5:Nat}{as':Pq}{cs':Nq}
  (hkl:k1+1<l.length) (hb:h[b]?=some (.rows R e false rs)) (hrow:rs[i]?=some row) (hcell:row[j]?=some (.sl 2 a l.length c)) (hbF:b∉F)
  (hs:RNodes false h [.sl 2 a l.length c] (BZ l k1 []) F) (ha:a=some (b5,i5)) (hnd:F.Nodup) (hlo:∀ b∈F,lo<=b) (hl:lo<=h.length) (hn:l.length<=1048576) (h1:Bv (l[k1]'(by omega)).store=true) (h2:Bv l[k1+1].store=true) {x0:V} (hst:ld h b5 (i5+k1) 0 1=some [x0]) (hex:∀ {T:Type} (K:Pq->Nat->Nq->Option T),eS 6 x0 K=K as' (l[k1]'(by omega)).store.length cs') :
  ∃ h' F',Be lo b i j ((k1+1:Nat):Int) b5 (i5+k1) 0 as' (l[k1]'(by omega)).store.length cs' (((l[k1]'(by omega)).store.length:Nat):Int) 0 h=some (.bool true,h') /\
   RNodes false h' [.sl 2 a l.length c] (BZ l k1 (Ec (l[k1]'(by omega)).store l[k1+1].store)) F'/\Mv h F h' F':=by
 have hk1:k1<l.length:=by omega
 have hblt:b<h.length:=(DY hb).1;have hex':=λ{T:Type} (K:Pq->Nat->Nq->Option T)=>hex K;generalize hsd:(l[k1]'(by omega)).store=s at h1 hex' ⊢;generalize htd:l[k1+1].store=t at h2 ⊢;have hs4:=Cd h1;have ht4:=Cd h2;have hzl:(s.zip t).length=4:=by rw[zeU];omega
 have hsm1:=Kp h1;have hbm:∀ hh F',Mv h F hh F'->hh[b]?=some (.rows R e false rs):=λhh F' m=>by rw[m.fr b hblt hbF];exact hb
 have one:∀ m q,m+q=4->∀ hh F',RNodes false hh [.sl 2 a l.length c] (BZ l k1 (((s.zip t).take q).filterMap A1)) F'->Mv h F hh F'->ld hh b5 (i5+k1) 0 1=some [x0] ->
   ∃ h' F'',Be lo b i j ((k1+1:Nat):Int) b5 (i5+k1) 0 as' s.length cs' ((s.length:Nat):Int) (q:Nat) hh=some (.bool true,h')/\RNodes false h' [.sl 2 a l.length c] (BZ l k1 (Ec s t)) F''/\Mv h F h' F'':=by
  intro m;induction m with
  | zero =>
   intro q hq hh F' hr hm hld;have hq4:q=4:=by omega
   subst hq4;rw[zdP (by omega)] at hr;have hwl:k1<(BZ l k1 ((s.zip t).filterMap A1)).length:=by rw[CE];exact hk1
   obtain ⟨b',i',rs',row',G0,ha',hbF',hbG,hb',hrow',hel,hGF,hGn,put⟩:=hr.at2 rnode_ok hwl hm.nd (λy hy=>hm.ge hl hlo y hy);have:(b5,i5)=(b',i'):=by rw[ha] at ha';injection ha'
   injection this with x1 x2;subst x1;subst x2;rw[JX hk1] at hel;obtain ⟨t1,t2,F1,F2,rfl,rfl,r1,r2⟩:=hel;simp only at r1 r2;obtain ⟨a2,c2,e2,r2'⟩:=r2.form;rw[zdg] at hGn;have hlh:lo<=hh.length:=zdh hl hm.le;obtain ⟨h3,F3,e3,r3,m3⟩:=Zo (lo:=lo) r2' (Zk hs4) (Rm h1 h2) hGn.2.1 (λy hy=>hm.ge hl hlo y (hGF y (by simp[hy]))) hlh;have b1:∀ y∈F1,y<hh.length:=rvers_ok.bd _ _ _ _ r1;have m4:=(m3.aside (G:=F1) (by rw[zdg];exact ⟨hGn.2.1,hGn.1,λx hx y hy e=>hGn.2.2 y hy x hx e.symm⟩) b1).swap;have r1':=m3.keep rvers_ok r1 λy hy hm=>hGn.2.2 y hy y hm rfl;have hsl:(K9 ((s.zip t).filterMap A1)).length=((s.zip t).filterMap A1).length:=(r3.val).symm;have r3c:=r3.clip;rw[<- hsl] at r3c;obtain ⟨h4,F4,e4,r4,m5,_,_⟩:=put h3 (F1++F3) 1 [.sl 6 a2 (K9 ((s.zip t).filterMap A1)).length (some (K9 ((s.zip t).filterMap A1)).length)] [t1,.sl 6 a2 (K9 ((s.zip t).filterMap A1)).length (some (K9 ((s.zip t).filterMap A1)).length)] ⟨l[k1].store,K9 ((s.zip t).filterMap A1)⟩ m4 rfl ⟨_,_,F1,F3,rfl,rfl,by rw[hsd];rw[hsd] at r1';exact r1',r3c⟩;rw[hsl] at e4;rw[QB hk1] at r4;have hfin:K9 ((s.zip t).filterMap A1)=Ec s t:=Rn;rw[hfin] at r4;have l1:ld hh b5 (i5+k1) (0+1) 1=some [t2]:=by rw[CA hb' hrow'];rfl
   have hb5:h3[b5]?=hh[b5]?:=m3.fr b5 (DY hb').1 λhm2=>hbG (by simp[hm2]);have l3:ld h3 b5 (i5+k1) (0+1) 1=some [t2]:=by rw[CA (by rw[hb5];exact hb') hrow'];rfl
   rw[Be.e,Aj (by omega),l1,Ae,Aa,Ag,e2,e3,Ad,Kd,Ag,l3,Ae,Aa,Ag,e2,Lx r3,Ad,Ai,e4,Ae];exact ⟨h4,F4,rfl,r4,hm.trans m5⟩
  | succ m ih =>
   intro q hq hh F' hr hm hld;have hqs:q<s.length:=by omega
   have hqt:q<t.length:=by omega
   have hlh:lo<=hh.length:=zdh hl hm.le;have hwl:k1<(BZ l k1 (((s.zip t).take q).filterMap A1)).length:=by rw[CE];exact hk1
   have hwl2:k1+1<(BZ l k1 (((s.zip t).take q).filterMap A1)).length:=by rw[CE];exact hkl
   obtain ⟨o,x1,_,b1,d1,_,_,H1,_,ho,_,ho1,_,ex1,_,p1,_⟩:=hr.get hwl;obtain ⟨o2,x2,_,b2,d2,_,_,H2,_,ho2,_,ho21,_,ex2,_,p2,_⟩:=hr.get hwl2;have hoe:o=(b5,i5):=by rw[ha] at ho;injection ho with ho;exact ho.symm
   have hoe2:o2=(b5,i5):=by rw[ha] at ho2;injection ho2 with ho2;exact ho2.symm
   subst hoe;subst hoe2;rw[hld] at ho1;injection ho1 with ho1;injection ho1 with ho1 _;subst ho1;have hcap:=ex1 λa n c=>some (a,c);rw[hex'] at hcap;injection hcap with hcap;injection hcap with hc1 hc2;subst hc1;subst hc2;have es1:(BZ l k1 (((s.zip t).take q).filterMap A1))[k1].store=s:=by rw[JX hk1];exact hsd
   have es2:(BZ l k1 (((s.zip t).take q).filterMap A1))[k1+1].store=t:=by rw[YR hk1 hkl (by omega)];exact htd
   rw[es1] at p1;rw[es2] at ex2 p2;have hv:=D2 h1 hqs;have hkr:0<=s[q].key/\s[q].key<4:=by
    rcases D8 hv with g | g
    ·rw[MW g];decide
    ·rw[g.2];omega
   have hkt:s[q].key.toNat<t.length:=by omega
   have hless:AU (t[s[q].key.toNat]'hkt) s[q]=AU t[q] s[q]:=by
    rcases D8 hv with g | g
    ·rw[HS (OU (D2 h2 hkt)) (Ge g),HS (OU (D2 h2 hqt)) (Ge g)]
    ·have:s[q].key.toNat=q:=by rw[g.2];omega
     simp only[this]
   obtain ⟨ov,xs,bs,ds,Hs,hov,hlv,exs,hps,_⟩:=p1.get hqs;obtain ⟨ot,_,_,_,_,hot,_,_,_,_,_,_,hlt,_,_,_,_⟩:=RVers.all p2 hkt;have lc:ld hh b i (j+0) 1=some [.sl 2 a l.length c]:=by rw[CA (hbm hh F' hm) hrow];exact JD hcell
   have htake:((s.zip t).take (q+1)).filterMap A1=((s.zip t).take q).filterMap A1++(match A1 (s[q],t[q]) with | some v => [v] | none => []):=by rw[zex (by omega),List.filterMap_append,List.getElem_zip];congr 1;cases hx:A1 (s[q],t[q])<;>simp[List.filterMap_cons,hx]
   have htl:=Ew (lo:=lo) (h:=hh) (a:=(t[s[q].key.toNat]'hkt).tag.time) (b:=(t[s[q].key.toNat]'hkt).tag.place) (c:=s[q].tag.time) (d:=s[q].tag.place);rw[Be.e,Am (by omega),Ac hqs,hov,Ae,A7,hlv,Ae,Aa,Ab,Aa,Ab,Aa,Ab,Aa,exs,Aa,BO,Aa,AK,Ag,lc,Ae,Aa,Ag,Ai,Ac hkl,ha,Ae,A7,ho21,Ae,Aa,Ag,ex2,DE ⟨by omega,by omega⟩,hot,Ae,hlt,Ae,Aa,Ab,Aa,Ab,Ag,htl,Ad,Ax,<- hov,Au (by omega)];show ∃ h' F'',br (AU (t[s[q].key.toNat]'hkt) s[q]) _ _=_/\_;rw[hless];cases hlq:AU t[q] s[q] with
   | false =>
    have:A1 (s[q],t[q])=none:=by unfold A1;rw[hlq];rfl
    rw[this] at htake;simp only[zd0] at htake;rw[Az,<- ha];exact ih (q+1) (by omega) hh F' (by rw[htake];exact hr) hm hld
   | true =>
    have:A1 (s[q],t[q])=some s[q]:=by unfold A1;rw[hlq];rfl
    rw[this] at htake;simp only at htake;obtain ⟨a3,c3,h3,F3,e3,r3,m3⟩:=Bu (lo:=hh.length) (v:=s[q]) hps (zdj _) (hsm1.2 _ (zdf hqs)).1;have hwlen:(((s.zip t).take q).filterMap A1).length<=4:=by have:=List.length_filterMap_le A1 ((s.zip t).take q);rw[zdD] at this;omega
    obtain ⟨t2,a4,c4,a5,c5,h5,h6,F6,l2,e2,e5,e6,r6,m6,l6⟩:=Xk (lo:=lo) (v:=s[q]) hr ha hwl hld hm.nd (λy hy=>hm.ge hl hlo y hy) hlh (by rw[JX hk1];exact zdh hwlen (by decide)) r3 m3;rw[JX hk1] at e2 e5 e6 r6;simp only at e2 e5 e6 r6;rw[QB hk1,<- htake] at r6;simp only[Ver.cs] at e3 e5;rw[Aq,l2,Ae,Aa,Ag,e2,e3,Ad,AS,Aa,Ab,Aa,Ab,Aa,Ab,Aa,Ai,Aa,BO,Aa,AK,Ag,AX,e5,Ai,e6,Ae];rw[<- ha];exact ih (q+1) (by omega) h6 F6 r6 (hm.trans m6) l6
 exact one 4 0 (by omega) h F (by simpa using hs) (Mv.refl hnd) hst
theorem Mv.cons {h h':Heap}{F F':List Nat}{b:Nat} (m:Mv h F h' F') (hb:b<h.length) (hbF:b∉F) (hnd:F.Nodup):Mv h (b :: F) h' (b :: F') :=
 (m.aside (G := [b]) (by rw[zdg];exact ⟨hnd,by simp,λx hx y hy e=>by rw[zdJ] at hy;subst hy;subst e;exact hbF hx⟩) (by simpa using hb)).swap
def Dj (l:List Node) (k:Int):Bool:=Ah k 0 ((l.length:Int) - 1)&&decide (1<l.length)
theorem Zn {b i j R e:Nat}{row:List V}{k:Int} (hb:h[b]?=some (.rows R e false rs)) (hrow:rs[i]?=some row) (hcell:row[j]?=some (.sl 2 a l.length c)) (hs:RNodes false h [.sl 2 a l.length c] l F) (hbF:b∉F)
  (hnd:F.Nodup) (hlob:lo<=b) (hlo:∀ b∈F,lo<=b) (hl:lo<=h.length) (hn:De l) (h0:0<l.length) (hst:∀ x∈l,Bv x.store=true) :
  ∃ a' n' c' h' F',Af lo 279 [.ptr (some (b,(i,j))),Iv k] h=some (.bool (Dj l k),h')/\h'[b]?=some (.rows R e false (rs.set i (row.set j (.sl 2 a' n' c'))))/\RNodes false h' [.sl 2 a' n' c'] (bif Dj l k then B9 l k.toNat else l) F'/\Mv h (b :: F) h' (b :: F'):=by
 have hn1:=hn.1;suffices hq:∃ a' n' c' h' F',_=some (V.bool (Dj l k),h')/\h'[b]?=some (.rows R e false (rs.set i (row.set j (.sl 2 a' n' c'))))/\RNodes false h' [.sl 2 a' n' c'] (bif Dj l k then B9 l k.toNat else l) F'/\Mv h (b :: F) h' (b :: F') from by obtain ⟨a',n',c',h',F',e,hr⟩:=hq;exact ⟨a',n',c',h',F',Oe e,hr⟩
 have hblt:b<h.length:=(DY hb).1;have hil:i<rs.length:=(DY hrow).1;have hjl:j<row.length:=(DY hcell).1;have hndb:(b :: F).Nodup:=by rw[zdn];exact ⟨hbF,hnd⟩
 have hld:ld h b i (j+0) 1=some [.sl 2 a l.length c]:=by rw[CA hb hrow];exact JD hcell
 have stay:Dj l k=false->∃ a' n' c' h' F',some (V.bool false,h)=some (V.bool (Dj l k),h')/\h'[b]?=some (.rows R e false (rs.set i (row.set j (.sl 2 a' n' c'))))/\RNodes false h' [.sl 2 a' n' c'] (bif Dj l k then B9 l k.toNat else l) F'/\Mv h (b :: F) h' (b :: F'):=λhc=>by rw[hc];exact ⟨a,l.length,c,h,F,rfl,by rw[set_same hcell,set_same hrow];exact hb,hs,Mv.refl hndb⟩
 have hcd:Dj l k=(Ah k 0 ((l.length:Int) - 1)&&decide (1<l.length)):=rfl;rw[hld,Ae,Aa,Ag,Ai,wr (by omega) (by omega),Bk,Ad,Ax];cases hw:Ah k 0 ((l.length:Int) - 1) with
 | false=>rw[Az];exact stay (by rw[hcd,hw];rfl)
 | true =>
 rw[hw,zdu] at hcd;simp only[Ah,DH,decide_eq_true_eq] at hw;obtain ⟨f,rfl⟩:∃ f:Nat,k=(f:Int):=⟨k.toNat,by omega⟩;have hk:f<l.length:=by omega
 rw[Aq,hld,Ae,Aa,Ag,Ai];by_cases h1:1<l.length
 ·rw[decide_eq_true h1] at hcd;have hel:=zdN hk;obtain ⟨h2,F2,e2,r2,m2⟩:=UH (lo:=lo) hs hk hnd hlo hn1;have hb2:h2[b]?=some (.rows R e false rs):=by rw[m2.fr b hblt hbF];exact hb
  have hclip:Af lo 280 [.sl 2 a (l.length - 1) c] h2=some (.sl 2 a (l.length - 1) (some (l.length - 1)),h2):=Uh r2;have e3:=Bt (lo:=lo) (cs := [.sl 2 a (l.length - 1) (some (l.length - 1))]) (j:=j+0) hb2 hlob hrow (EM hjl);obtain ⟨m3,b3,k3,n3⟩:=m2.store hblt hbF (.rows R e false (rs.set i (row.set (j+0) (.sl 2 a (l.length - 1) (some (l.length - 1))))));generalize hh3:h2.set b (.rows R e false (rs.set i (row.set (j+0) (.sl 2 a (l.length - 1) (some (l.length - 1))))))=h3 at m3 b3 k3;have e3':st lo h2 b i (j+0) [.sl 2 a (l.length - 1) (some (l.length - 1))]=some h3:=by rw[<- hh3];exact e3
  have r3:RNodes false h3 [.sl 2 a (l.length - 1) (some (l.length - 1))] (l.eraseIdx f) F2:=rnodes_ok.fr _ _ _ _ _ r2.clip λy hy=>k3 y λe=>n3 (by rw[<- e];exact hy);rw[show (((l.length:Nat):Int)==1)=false by rw[beq_eq_false_iff_ne];omega,Az,Au (by omega),Ae,Aa,Ag,Ai,e2,Ad,Ai,hclip,Ad,Ai,e3',Ae];rw[hcd,cond_true,A7];by_cases hf0:f=0
  ·subst hf0;have hff:B9 l 0=l.eraseIdx 0:=rfl;rw[show (((0:Nat):Int)==0)=true from rfl,Aq,hff];exact ⟨a,l.length - 1,some (l.length - 1),h3,F2,rfl,b3,r3,m3⟩
  ·obtain ⟨f1,rfl⟩:∃ f1,f=f1+1:=⟨f - 1,by omega⟩;have hk1:f1<(l.eraseIdx (f1+1)).length:=by omega
   have hrow3:(rs.set i (row.set (j+0) (.sl 2 a (l.length - 1) (some (l.length - 1)))))[i]?=some (row.set j (.sl 2 a (l.length - 1) (some (l.length - 1)))):=by simp[hil]
   have hcell3:(row.set j (.sl 2 a (l.length - 1) (some (l.length - 1))))[j]?=some (.sl 2 a (l.length - 1) (some (l.length - 1))):=by simp[hjl]
   have ld3:∀ hh:Heap,hh[b]?=h3[b]?->ld hh b i j 1=some [.sl 2 a (l.length - 1) (some (l.length - 1))]:=λhh hbb=>by rw[CA (by rw[hbb];exact b3) hrow3];exact JD hcell3
   obtain ⟨b5,i5,h4,F4,ha,hb5,e4,r4,m4,k4⟩:=QT (lo:=lo) (k:=f1) (w := .sl 0 none 0 (some 0)) (ws := []) r3 hk1 (zdn.1 m3.nd).2 (λy hy=>m2.ge hl hlo y hy) Sli.nil Mv.nil;have hbb5:b≠b5:=λe=>n3 (by rw[e];exact hb5);have hb4:h4[b]?=h3[b]?:=k4 b hbb5;have hbF4:b∉F4:=λhm=>by
    rcases m4.sub b hm with g | g
    ·exact n3 g
    ·have:=m3.le;omega
   have m34:=m3.trans (m4.cons (by have:=m3.le;omega) n3 (zdn.1 m3.nd).2);have hlast:=T2 (lo:=lo) (h:=h4) (a:=a) (c:=some (l.length - 1)) (n:=l.length - 1) (k:=f1) (by omega);have hfm:(((f1+1:Nat):Int)==0)=false:=by rw[beq_eq_false_iff_ne];omega
   rw[hfm,Az,zdY,ld3 h3 rfl,Ae,Aa,Ag,Ai,show Al (((f1+1:Nat):Int) - 1)=((f1:Nat):Int) by rw[wr (by omega) (by omega)];omega,Ac (show f1<l.length - 1 by omega),ha,Ae,A7,e4,Ae,ld3 h4 hb4,Ae,Aa,Ai,Ag,hlast,Ad,Ax];have hgt:decide (0<f1+1)=true:=decide_eq_true (by omega);by_cases hla:f1+1=l.length - 1
   ·have hff:B9 l (f1+1)=BZ (l.eraseIdx (f1+1)) f1 []:=by unfold B9;rw[hgt,cond_true,decide_eq_false (by omega),cond_false];rfl
    rw[decide_eq_true hla,Aq,hff];exact ⟨a,l.length - 1,some (l.length - 1),h4,F4,rfl,by rw[hb4];exact b3,r4,m34⟩
   ·have hkl:f1+1<(l.eraseIdx (f1+1)).length:=by omega
    have hff:B9 l (f1+1)=BZ (l.eraseIdx (f1+1)) f1 (Ec (l.eraseIdx (f1+1))[f1].store (l.eraseIdx (f1+1))[f1+1].store):=by unfold B9;rw[hgt,cond_true,decide_eq_true hkl,cond_true,Dd hkl,Nat.add_sub_cancel,Dd hk1]
    have hwl:f1<(BZ (l.eraseIdx (f1+1)) f1 []).length:=by rw[CE];exact hk1
    obtain ⟨o,x1,_,b1,d1,_,_,H1,_,ho,_,ho1,_,ex1,_,p1,_⟩:=r4.get hwl;have hoe:o=(b5,i5):=by rw[ha] at ho;injection ho with ho;exact ho.symm
    subst hoe;rw[JX hk1] at ex1 p1;simp only at ex1 p1;rw[<- hel] at r4;obtain ⟨h7,F7,e7,r7,m7⟩:=Zw (lo:=lo) (k1:=f1) (l:=l.eraseIdx (f1+1)) hkl (by rw[hb4];exact b3) hrow3 (by rw[hel];exact hcell3) hbF4 r4 ha m4.nd (λy hy=>m4.ge (by have:=m3.le;omega) (λy hy=>m2.ge hl hlo y hy) y hy) (by have:=m34.le;omega) (by omega) (hst _ (zed (zdf hk1))) (hst _ (zed (zdf hkl))) ho1 ex1;rw[decide_eq_false hla,Az,ho1,Ae,Aa,Ag,ex1,e7,hff];have hb7:h7[b]?=h4[b]?:=m7.fr b (by have:=m34.le;omega) hbF4;exact ⟨a,(l.eraseIdx (f1+1)).length,some (l.eraseIdx (f1+1)).length,h7,F7,rfl,by rw[hel,hb7,hb4];exact b3,r7,m34.trans (m7.cons (by have:=m34.le;omega) hbF4 m4.nd)⟩
 ·rw[decide_eq_false h1] at hcd;rw[show (((l.length:Nat):Int)==1)=true by rw[beq_iff_eq];omega,Aq];exact stay hcd
end


variable {l:List Node}{p:Place}
def Ml (p:Place) (k:Nat):Place:=⟨p.me,p.clock,B9 p.chain k,p.log,p.got,true⟩
def CI (p:Place) (k:Int):Bool := !p.fell&&Dj p.chain k
def Dx (p:Place) (k:Int):Place:=bif CI p k then BL (Ml p k.toNat) else p
theorem OB {s t:List Ver}{v:Ver} (h:v∈Ec s t):v∈s:=by
 have key:∀ (z:List (Ver×Ver)) (acc:List Ver),v∈z.foldl GJ acc->v∈acc\/∃ x∈z,x.1=v:=by
  intro z;induction z with
  | nil=>intro acc h;exact .inl h
  | cons x z ih =>
   intro acc h;rw[zd6] at h;rcases ih _ h with g | ⟨y,hy,e⟩
   ·unfold GJ at g;cases hl:AU x.2 x.1 with
    | false=>rw[hl] at g;exact .inl g
    | true =>
     rw[hl,cond_true] at g;rcases insF_mem.1 g with rfl | g
     ·exact .inr ⟨x,by simp,rfl⟩
     ·exact .inl g
   ·exact .inr ⟨y,by simp[hy],e⟩
 rcases key _ _ h with g | ⟨x,hx,rfl⟩
 ·simp at g
 ·exact (List.of_mem_zip hx).1
theorem TQ {s t:List Ver} (hs:s.length=4):(Ec s t).length<=4:=by
 have key:∀ (z:List (Ver×Ver)) (acc:List Ver),(z.foldl GJ acc).length<=acc.length+z.length:=by
  intro z;induction z with
  | nil=>intro acc;simp
  | cons x z ih =>
   intro acc;rw[zd6];have:=ih (GJ acc x);have h2:(GJ acc x).length<=acc.length+1:=by
    unfold GJ;cases AU x.2 x.1
    ·simp
    ·rw[cond_true,Ll];exact zdj _
   rw[zd7];omega
 have:=key (s.zip t) [];rw[zeU] at this;simp only[zet] at this;unfold Ec;omega
theorem Oi {nw k:Nat}{w:List Ver} (h:∀ x∈l,GE nw x) (hw:w.length<=nw) (hv:∀ v∈w,thin v):∀ x∈BZ l k w,GE nw x:=λx hx=>by
 unfold BZ at hx;split at hx
 ·rename_i y hy
  rcases zdE hx with hx | rfl
  ·exact h x hx
  ·obtain ⟨g1,_,g3,_⟩:=h y (zdt hy);exact ⟨g1,hw,g3,hv⟩
 ·exact h x hx
theorem zaI {nw k:Nat} (h:∀ x∈l,GE nw x) (hnw:4<=nw):(B9 l k).length<=l.length/\∀ x∈B9 l k,GE nw x:=by
 have h':∀ x∈l.eraseIdx k,GE nw x:=λx hx=>h x (zed hx);have hle:(l.eraseIdx k).length<=l.length:=zeB _ _;unfold B9;cases decide (0<k) with
 | false=>exact ⟨hle,h'⟩
 | true =>
  rw[cond_true];cases decide (k<(l.eraseIdx k).length) with
  | false=>exact ⟨by rw[cond_false,CE];exact hle,Oi h' (zd4 _) (by simp)⟩
  | true =>
   rw[cond_true,CE];refine ⟨hle,?_⟩;unfold GA;split
   ·rename_i y hy
    have hyn:=h' y (zdt hy);exact Oi h' (zdh (TQ hyn.1) hnw) (λv hv=>hyn.2.2.1 v (OB hv))
   ·refine Oi h' ?_ (λv hv=>?_)
    ·rw[show ∀ t,Ec [] t = [] from λt=>by simp[Ec]];exact zd4 _
    ·have:=OB hv;simp at this
theorem Tp {nc nl k:Nat} (h:Tidy nc 6 nl p):Tidy nc 6 nl (Ml p k):=by obtain ⟨h1,h2⟩:=zaI (k:=k) h.node (by decide);exact ⟨zdh h1 h.len,h2,h.log,h.got⟩
theorem Kb {k:Nat} (hk:k<l.length) (h1:1<l.length):(B9 l k).length=l.length - 1:=by
 have hel:=zdN hk;unfold B9;cases decide (0<k)
 ·exact hel
 ·cases decide (k<(l.eraseIdx k).length)
  ·rw[cond_true,cond_false,CE];exact hel
  ·rw[cond_true,cond_true,CE];exact hel
theorem Zi (h:GO l=true) (h0:0<l.length):(l[l.length - 1]'(by omega)).wait = []:=by have:=U3 h (show l.length - 1<l.length by omega);unfold Ms at this;rw[zdW (by omega)] at this;simp only[decide_eq_true_eq] at this;exact zdp this
section
variable {lo:Nat}{ro:Bool}{h:Heap}{F F':List Nat}{a a':Pq}{c c':Nq}
theorem QN {k:Int}{a1 a2 a3:Pq}{c1 c2 c3:Nq} (hn:p.chain.length<=1048576):Af lo 255 [.agg (p.cs a1 c1 a2 c2 a3 c3),Iv k] h=some (.bool (CI p k),h):=by
 refine OY (h':=h) ?_;unfold CI Dj;cases p.fell with
 | true=>simp only[zei,Az,zer]
 | false =>
  simp only[zel,Aq,zdu];by_cases h1:1<p.chain.length
  ·rw[Am (by omega),wr (by omega) (by omega),B0,Ad,Ax,decide_eq_true h1,zeA];exact KI
  ·rw[Aj (by omega),decide_eq_false h1,zeD]
end


variable {u v:Ver}{t r s:List Ver}{k i:Nat}{x z:Node}
theorem PF {w:Ver} (h1:AU u v=true) (h2:AU v w=true):AU u w=true:=by rw[IP] at *;omega
def upS (t s:List Ver):Prop:=∀ (i:Nat) (x y:Ver),t[i]?=some x->s[i]?=some y->x=y\/AU x y=true
theorem upS.refl:upS t t:=λi x y hx hy => .inl (by rw[hx] at hy;injection hy)
theorem upS.trans (h1:upS r s) (h2:upS s t) (hl:t.length<=s.length):upS r t:=λi x z hx hz=>by
 have hi:=(DY hz).1;have hy:=DZ (l:=s) (i:=i) (by omega);rcases h1 i x _ hx hy with rfl | h3
 ·exact h2 i _ z hy hz
 ·rcases h2 i _ z hy hz with h4 | h4
  ·exact .inr (h4 ▸ h3)
  ·exact .inr (PF h3 h4)
theorem upS.set {t:List Ver}{k:Nat}{u v:Ver} (hu:t[k]?=some u) (hl:AU u v=true):upS t (t.set k v):=λi x y hx hy=>by
 rw[List.getElem?_set] at hy;by_cases hi:k=i
 ·subst hi;rw[if_pos rfl,if_pos (DY hu).1] at hy;injection hy with hy;rw[hu] at hx;injection hx with hx;exact .inr (by rw[<- hx,<- hy];exact hl)
 ·rw[if_neg hi,hx] at hy;injection hy with hy;exact .inl hy
theorem fitsL_cons:Gp t (v :: r)=some s<->∃ x,t[v.key.toNat]?=some x/\AU x v=true/\Gp (t.set v.key.toNat v) r=some s:=by
 simp only[Gp];cases hx:t[v.key.toNat]? with
 | none=>simp
 | some x=>cases hl:AU x v<;>simp[hl]
theorem RJ:∀ {ws t s:List Ver}{v x:Ver},Gp t ws=some s->s[v.key.toNat]?=some x->AU x v=true->Gp t (ws ++ [v])=some (s.set v.key.toNat v)
 | [],t,s,v,x,h,hx,hl=>by simp only[Gp,Option.some.injEq] at h;subst h;exact fitsL_cons.2 ⟨x,hx,hl,rfl⟩
 | w :: r,t,s,v,x,h,hx,hl=>by obtain ⟨y,h1,h2,h3⟩:=fitsL_cons.1 h;exact fitsL_cons.2 ⟨y,h1,h2,RJ h3 hx hl⟩
theorem Wo:∀ {ws t s:List Ver},Gp t ws=some s->upS t s
 | [],t,s,h=>by simp only[Gp,Option.some.injEq] at h;subst h;exact upS.refl
 | v :: r,t,s,h=>by
  obtain ⟨y,h1,h2,h3⟩:=fitsL_cons.1 h;have h4:=Wo h3;refine λi x z hx hz=>?_;by_cases hi:v.key.toNat=i
  ·subst hi;rw[h1] at hx;injection hx with hx;subst hx;have hlt:=(DY h1).1;rcases h4 _ v z (by simp[hlt]) hz with rfl | h5
   ·exact .inr h2
   ·exact .inr (PF h2 h5)
  ·exact h4 i x z (by rw[zdi hi];exact hx) hz
theorem T9:∀ {ws t s:List Ver},Gp t ws=some s->∀ v∈s,v∈ws\/v∈t
 | [],t,s,h=>by simp only[Gp,Option.some.injEq] at h;subst h;exact λv hv => .inr hv
 | w :: r,t,s,h=>λv hv=>by
  obtain ⟨y,h1,h2,h3⟩:=fitsL_cons.1 h;rcases T9 h3 v hv with g | g
  ·exact .inl (by simp[g])
  ·rcases zdE g with g | rfl
   ·exact .inr g
   ·exact .inl (by simp)
theorem Wp:∀ {ws t s:List Ver},s.length=t.length->ws.Pairwise (λp u=>p.key≠u.key)->(∀ v∈ws,0<=v.key/\s[v.key.toNat]?=some v/\∃ x,t[v.key.toNat]?=some x/\AU x v=true) ->
  (∀ (i:Nat) (x y:Ver),t[i]?=some x->s[i]?=some y->x=y\/(y∈ws/\y.key.toNat=i))->Gp t ws=some s
 | [],t,s,hl,_,_,h=>by
  simp only[Gp,Option.some.injEq];apply List.ext_getElem?;intro i;by_cases hi:i<t.length
  ·have h1:=DZ hi;have h2:=DZ (l:=s) (i:=i) (by omega);rcases h i _ _ h1 h2 with g | g
   ·rw[h1,h2,g]
   ·exact absurd g.1 (by simp)
  ·rw[zdW (by omega),zdW (by omega)]
 | v :: r,t,s,hl,hp,hw,h=>by
  rw[zeF] at hp;obtain ⟨h0,h1,x,h2,h3⟩:=hw v (by simp);refine fitsL_cons.2 ⟨x,h2,h3,Wp (by simpa using hl) hp.2 (λu hu=>?_) (λi a b ha hb=>?_)⟩
  ·obtain ⟨g0,g1,y,g2,g3⟩:=hw u (by simp[hu]);have:=hp.1 u hu;exact ⟨g0,g1,y,by rw[zdi (by omega)];exact g2,g3⟩
  ·by_cases hi:v.key.toNat=i
   ·subst hi;have hlt:=(DY h2).1;rw[zdr hlt] at ha;injection ha with ha;rw[h1] at hb;injection hb with hb;exact .inl (ha.symm.trans hb)
   ·rw[zdi hi] at ha;rcases h i a b ha hb with g | ⟨g1,g2⟩
    ·exact .inl g
    ·rcases zdm.1 g1 with rfl | g1
     ·exact absurd g2 hi
     ·exact .inr ⟨g1,g2⟩
theorem TW {v:Ver}:∀ {l:List Ver},(EV v l).Perm (v :: l)
 | [] => .refl _
 | u :: r=>by
  simp only[EV];cases AU u v with
  | false=>exact .refl _
  | true=>exact (List.Perm.cons u TW).trans (List.Perm.swap v u r)
theorem Tt:∀ {l acc:List Ver},(l.foldl (λacc v=>EV v acc) acc).Perm (l++acc)
 | [],acc => .refl _
 | v :: l,acc=>by rw[zd6];exact ((Tt (l:=l)).trans (List.Perm.append_left l TW)).trans List.perm_middle
theorem lackU_mem:v∈Nx s t<->∃ (i:Nat) (u:Ver),s[i]?=some v/\t[i]?=some u/\AU u v=true:=by
 unfold Nx;rw[List.mem_filterMap];constructor
 ·rintro ⟨⟨x,y⟩,hm,hx⟩
  obtain ⟨i,hi⟩:=zdA.1 hm;rw[ze0] at hi;unfold A1 at hx;simp only at hx;cases hl:AU y x with
  | false=>rw[hl] at hx;cases hx
  | true =>rw[hl] at hx;injection hx with hx;subst hx;exact ⟨i,y,hi.1,hi.2,hl⟩
 ·rintro ⟨i,u,h1,h2,h3⟩
  refine ⟨(v,u),zdA.2 ⟨i,ze0.2 ⟨h1,h2⟩⟩,?_⟩;unfold A1;simp only[h3,cond_true]
theorem J0 (hs:Bv s=true) {x:Ver} (hx:s[i]?=some x):KY i x=true:=by obtain ⟨hi,rfl⟩:=DY hx;exact D2 hs hi
theorem K5 (hs:Bv s=true) (ht:Bv t=true) {x:Ver} (hx:s[i]?=some x) (hu:t[i]?=some u) (hl:AU u x=true):Da x=true/\x.key=(i:Int):=by
 rcases D8 (J0 hs hx) with g | g
 ·have:=HS (OU (J0 ht hu)) (Ge g);rw[hl] at this;cases this
 ·exact g
theorem lackL_perm:(Ec s t).Perm (Nx s t):=by rw[<- Rn];have h:=Tt (l:=Nx s t) (acc := []);rw[zd0] at h;exact h
theorem zar (hs:Bv s=true) (ht:Bv t=true):∀ v∈Ec s t,Da v=true:=λv hv=>by obtain ⟨i,u,h1,h2,h3⟩:=lackU_mem.1 (lackL_perm.mem_iff.1 hv);exact (K5 hs ht h1 h2 h3).1
theorem Zj (hs:Bv s=true) (ht:Bv t=true) (hu:upS t s):Gp t (Ec s t)=some s:=by
 refine Wp (by rw[Cd hs,Cd ht]) ?_ (λv hv=>?_) (λi x y hx hy=>?_)
 ·exact (lackL_perm.pairwise_iff λh=>h.symm).2 ((Rm hs ht).imp λh=>by omega)
 ·obtain ⟨i,u,h1,h2,h3⟩:=lackU_mem.1 (lackL_perm.mem_iff.1 hv);have hk:=(K5 hs ht h1 h2 h3).2;have e:v.key.toNat=i:=by omega
  rw[e];exact ⟨by omega,h1,u,h2,h3⟩
 ·rcases hu i x y hx hy with h | h
  ·exact .inl h
  ·exact .inr ⟨lackL_perm.mem_iff.2 (lackU_mem.2 ⟨i,x,hy,hx,h⟩),by have:=(K5 hs ht hy hx h).2;omega⟩
structure Ch (l:List Node):Prop where
 pos:1<=l.length
 le:l.length<=4
 node:∀ (i:Nat) (x:Node),l[i]?=some x->Fv x=true
 link:∀ (i:Nat) (x y:Node),l[i]?=some x->l[i+1]?=some y->Gp y.store x.wait=some x.store
 last:∀ (i:Nat) (x:Node),l[i]?=some x->i+1=l.length->x.wait = []
theorem fits_iff:fits x s=true<->Gp s x.wait=some x.store:=by
 unfold fits;cases h:Gp s x.wait with
 | none=>simp
 | some r=>simp[Ur]
theorem chain_iff {l:List Node}:GO l=true<->Ch l:=by
 unfold GO;simp only[DH];rw[Ji (p:=Ms l),zcj (p:=Fv)];constructor
 ·rintro ⟨⟨h1,h2⟩,h3⟩
  simp only[Ah,DH,decide_eq_true_eq] at h1;refine ⟨by omega,by omega,λi x hx=>?_,λi x y hx hy=>?_,λi x hx hi=>?_⟩
  ·obtain ⟨hi,rfl⟩:=DY hx;exact h2 i hi
  ·obtain ⟨hi,rfl⟩:=DY hx;have:=h3 i hi;unfold Ms at this;rw[hy] at this;exact fits_iff.1 this
  ·obtain ⟨hj,rfl⟩:=DY hx;have:=h3 i hj;unfold Ms at this;rw[zdW (by omega)] at this;exact zdp (by simpa using this)
 ·rintro ⟨h1,h2,h3,h4,h5⟩
  refine ⟨⟨by simp[Ah];omega,λi hi=>h3 i _ (DZ hi)⟩,λi hi=>?_⟩;unfold Ms;cases hy:l[i+1]? with
  | some y=>exact fits_iff.2 (h4 i _ y (DZ hi) hy)
  | none =>have:=List.getElem?_eq_none_iff.1 hy;simp[h5 i _ (DZ hi) (by omega)]
section
variable {l:List Node}
theorem Ch.store (h:Ch l) {i:Nat}{x:Node} (hx:l[i]?=some x):Bv x.store=true/\x.store.length=4:=by have:=(Bo (h.node i x hx)).1;exact ⟨this,Cd this⟩
theorem Ch.up (h:Ch l):∀ (d i:Nat) (x y:Node),l[i]?=some x->l[i+d]?=some y->upS y.store x.store
 | 0,i,x,y,hx,hy=>by rw[zdY,hx] at hy;injection hy with hy;subst hy;exact upS.refl
 | d+1,i,x,y,hx,hy=>by have hlt:=(DY hy).1;have hz:=DZ (l:=l) (i:=i+d) (by omega);have h1:=h.up d i x _ hx hz;have h2:=Wo (h.link (i+d) _ y hz hy);exact h2.trans h1 (by rw[(h.store hx).2,(h.store hz).2];exact zdj _)
theorem Ch.join (h:Ch l) (hl:l.length<4):Ch (Jw l):=by
 have hp:=h.pos;rw[Gm (by omega)];have hz:l[l.length - 1]?=some (l[l.length - 1]'(by omega)):=DZ (by omega);have hns:=(h.store hz).1;have hn:Fv ⟨(l[l.length - 1]'(by omega)).store,[]⟩=true:=by unfold Fv;rw[hns];rfl
 have get:∀ i x,(l ++ [(⟨(l[l.length - 1]'(by omega)).store,[]⟩:Node)])[i]?=some x->(i<l.length/\l[i]?=some x)\/(i=l.length/\x=⟨(l[l.length - 1]'(by omega)).store,[]⟩):=λi x hx=>by
  by_cases hi:i<l.length
  ·rw[zdl hi] at hx;exact .inl ⟨hi,hx⟩
  ·rw[zdC (by omega)] at hx;have:=(DY hx).1;simp only[zd2] at this;have e:i=l.length:=by omega
   subst e;rw[zeH] at hx;injection hx with hx;exact .inr ⟨rfl,hx.symm⟩
 refine ⟨by simp,by simp;omega,λi x hx=>?_,λi x y hx hy=>?_,λi x hx hi=>?_⟩
 ·rcases get i x hx with ⟨_,g⟩ | ⟨_,rfl⟩
  ·exact h.node i x g
  ·exact hn
 ·rcases get (i+1) y hy with ⟨g1,g2⟩ | ⟨g1,rfl⟩
  ·rcases get i x hx with ⟨_,g⟩ | ⟨g,_⟩
   ·exact h.link i x y g g2
   ·omega
  ·rcases get i x hx with ⟨_,g⟩ | ⟨g,_⟩
   ·have e:i=l.length - 1:=by omega
    rw[h.last i x g g1];subst e;rw[hz] at g;injection g with g;subst g;rfl
   ·omega
 ·simp only[zdy,zd2] at hi;rcases get i x hx with ⟨g,_⟩ | ⟨_,rfl⟩
  ·omega
  ·rfl
theorem Ka (hk:k<l.length) (i:Nat):(B9 l k)[i]?=if i+1=k then (l[i]?).map (λx=>(⟨x.store,match l[k+1]? with | some y=>Ec x.store y.store | none => []⟩:Node)) else if i<k then l[i]? else l[i+1]?:=by
 have hel:=zdN hk;unfold B9;by_cases h0:0<k
 ·rw[decide_eq_true h0,cond_true];have hk1:k - 1<(l.eraseIdx k).length:=by omega
  have e1:(l.eraseIdx k)[k - 1]=l[k - 1]:=by rw[List.getElem_eraseIdx,dif_pos (by omega)]
  have out:∀ w,i+1≠k->(BZ (l.eraseIdx k) (k - 1) w)[i]?=if i+1=k then (l[i]?).map (λx=>(⟨x.store,match l[k+1]? with | some y=>Ec x.store y.store | none => []⟩:Node)) else if i<k then l[i]? else l[i+1]?:=λw hi=>by rw[Ep hk1,zdi (by omega),List.getElem?_eraseIdx,if_neg hi]
  have at1:∀ w,i+1=k->(BZ (l.eraseIdx k) (k - 1) w)[i]?=some ⟨l[k - 1].store,w⟩:=λw hi=>by
   have e:k - 1=i:=by omega
   rw[Ep hk1,e1,<- e,zdr hk1]
  have hl1:l[k - 1]?=some l[k - 1]:=DZ (by omega);by_cases hkl:k<(l.eraseIdx k).length
  ·rw[decide_eq_true hkl,cond_true];by_cases hi:i+1=k
   ·have e:i=k - 1:=by omega
    have hy:l[k+1]?=some (l[k+1]'(by omega)):=DZ (by omega);have e2:(l.eraseIdx k)[k]=l[k+1]'(by omega):=by rw[List.getElem_eraseIdx,dif_neg (by omega)]
    rw[at1 _ hi,if_pos hi,e,hl1,hy,Dd hk1,Dd hkl,e1,e2];rfl
   ·exact out _ hi
  ·rw[decide_eq_false hkl,cond_false];by_cases hi:i+1=k
   ·have e:i=k - 1:=by omega
    have hy:l[k+1]?=none:=zdW (by omega);rw[at1 _ hi,if_pos hi,e,hl1,hy];rfl
   ·exact out _ hi
 ·rw[decide_eq_false h0,cond_false,if_neg (by omega),List.getElem?_eraseIdx]
theorem Ch.fall (h:Ch l) (hk:k<l.length) (h2:1<l.length):Ch (B9 l k):=by
 have hle:=h.le;have hlen:=Kb hk h2;have hnw:∀ i x,l[i]?=some x->i+1=k->Fv ⟨x.store,match l[k+1]? with | some y=>Ec x.store y.store | none => []⟩=true:=λi x hx hi=>by
  have hs:=h.store hx;cases hy:l[k+1]? with
  | none=>unfold Fv;rw[hs.1];rfl
  | some y =>have ht:=h.store hy;have h4:=TQ (s:=x.store) (t:=y.store) hs.2;unfold Fv;simp only;rw[hs.1,decide_eq_true (by omega),zdu,zdu,zdz];exact zar hs.1 ht.1
 refine ⟨by omega,by omega,λi x hx=>?_,λi x y hx hy=>?_,λi x hx hi=>?_⟩
 ·rw[Ka hk] at hx;split at hx
  ·rename_i hi
   rw[zdU] at hx;obtain ⟨z,hz,rfl⟩:=hx;exact hnw i z hz hi
  ·split at hx
   ·exact h.node i x hx
   ·exact h.node (i+1) x hx
 ·rw[Ka hk] at hx hy;by_cases hi:i+1=k
  ·rw[if_pos hi,zdU] at hx;obtain ⟨z,hz,rfl⟩:=hx;rw[if_neg (by omega),if_neg (by omega)] at hy;have e:i+1+1=k+1:=by omega
   rw[e] at hy;simp only[hy];have hup:=h.up 2 i z y hz (by rw[show i+2=k+1 by omega];exact hy);exact Zj (h.store hz).1 (h.store hy).1 hup
  ·rw[if_neg hi] at hx;by_cases hik:i<k
   ·rw[if_pos hik] at hx;by_cases hi2:i+1+1=k
    ·rw[if_pos hi2,zdU] at hy;obtain ⟨z,hz,rfl⟩:=hy;exact h.link i x z hx hz
    ·rw[if_neg hi2,if_pos (by omega)] at hy;exact h.link i x y hx hy
   ·rw[if_neg hik] at hx;rw[if_neg (by omega),if_neg (by omega)] at hy;exact h.link (i+1) x y hx hy
 ·rw[hlen] at hi;rw[Ka hk] at hx;split at hx
  ·rename_i hi2
   rw[zdU] at hx;obtain ⟨z,hz,rfl⟩:=hx;rw[zdW (by omega)]
  ·split at hx
   ·omega
   ·exact h.last (i+1) x hx (by omega)
theorem Ch.key (h:Ch l) (hz:l[i]?=some z) (hv:Da v=true):∃ u,z.store[v.key.toNat]?=some u:=by have:=(Bx hv).1;have h4:=(h.store hz).2;exact ⟨_,DZ (by omega)⟩
theorem Ki {j:Nat} (hz:l[j]?=some z) (hu:z.store[v.key.toNat]?=some u):GR l j v=bif AU u v then l.set j ⟨z.store.set v.key.toNat v,bif decide (j+1<l.length) then z.wait ++ [v] else z.wait⟩ else l:=by unfold GR;rw[hz];simp only[hu]
theorem zbe {j:Nat} (hp:1<=l.length) (hle:l.length<=4) (hno:∀ (i:Nat) (x:Node),l[i]?=some x->Fv x=true)
  (hli:∀ (i:Nat) (x y:Node),l[i]?=some x->l[i+1]?=some y->i+1≠j->Gp y.store x.wait=some x.store) (hla:∀ (i:Nat) (x:Node),l[i]?=some x->i+1=l.length->x.wait = [])
  (hz:l[j]?=some z) (hv:Da v=true) (hr:z.wait.length<6) (hu:z.store[v.key.toNat]?=some u) (hl:AU u v=true)
  (hpr:∀ (i:Nat) (x:Node),l[i]?=some x->i+1=j->Gp (z.store.set v.key.toNat v) x.wait=some x.store):Ch (GR l j v):=by
 have hj:=(DY hz).1;obtain ⟨n1,n2,n3⟩:=Bo (hno j z hz);rw[Ki hz hu,hl,cond_true];have hnz:Fv ⟨z.store.set v.key.toNat v,bif decide (j+1<l.length) then z.wait ++ [v] else z.wait⟩=true:=by
  unfold Fv;simp only;rw[VB n1 hv];cases decide (j+1<l.length) with
  | false =>rw[cond_false,decide_eq_true (by omega),zdu,zdu,zdz];exact n3
  | true =>
   rw[cond_true,decide_eq_true (by simp;omega),zdu,zdu,zdz];intro w hw;rcases zde.1 hw with g | g
   ·exact n3 w g
   ·rw[zdJ] at g;subst g;exact hv
 refine ⟨by simpa using hp,by simpa using hle,λi x hx=>?_,λi x y hx hy=>?_,λi x hx hi=>?_⟩
 ·by_cases hij:j=i
  ·subst hij;rw[zdr hj] at hx;injection hx with hx;subst hx;exact hnz
  ·rw[zdi hij] at hx;exact hno i x hx
 ·by_cases hij:j=i
  ·subst hij;rw[zdr hj] at hx;rw[zdi (by omega)] at hy;have hlt:=(DY hy).1;injection hx with hx;subst hx;simp only[decide_eq_true hlt,cond_true];exact RJ (hli j z y hz hy (by omega)) hu hl
  ·rw[zdi hij] at hx;by_cases hij2:j=i+1
   ·subst hij2;rw[zdr hj] at hy;injection hy with hy;subst hy;exact hpr i x hx rfl
   ·rw[zdi hij2] at hy;exact hli i x y hx hy (λe=>hij2 e.symm)
 ·rw[zdM] at hi;by_cases hij:j=i
  ·subst hij;rw[zdr hj] at hx;injection hx with hx;subst hx;rw[decide_eq_false (by omega),cond_false];exact hla j z hz hi
  ·rw[zdi hij] at hx;exact hla i x hx hi
theorem Ch.add (h:Ch l) (hv:Da v=true) (hr:Dz l 0=true):Ch (GR l 0 v):=by
 have hp:=h.pos;have hz:l[0]?=some (l[0]'(by omega)):=DZ (by omega);rw[IZ (by omega),decide_eq_true_eq] at hr;obtain ⟨u,hu⟩:=h.key hz hv;cases hl:AU u v with
 | false=>rw[Ki hz hu,hl,cond_false];exact h
 | true=>exact zbe hp h.le h.node (λi x y hx hy _=>h.link i x y hx hy) h.last hz hv hr hu hl (λi x _ e=>by omega)
theorem Kv {k:Int} (hc:Bw l k=true):∃ (f:Nat) (x y:Node) (v:Ver) (r:List Ver),k=(f:Int)/\l[f]?=some x/\l[f+1]?=some y/\x.wait=v :: r/\y.wait.length<6:=by
 simp only[Bw,Ah,DH,decide_eq_true_eq] at hc;obtain ⟨⟨h1,h2⟩,h3⟩:=hc;have hf:k.toNat+1<l.length:=by omega
 rw[Ku (by omega),DH,decide_eq_true_eq,IZ hf,decide_eq_true_eq] at h3;refine ⟨k.toNat,l[k.toNat],l[k.toNat+1],?_⟩;cases hw:l[k.toNat].wait with
 | nil=>rw[hw] at h3;simp at h3
 | cons v r=>exact ⟨v,r,by omega,DZ (by omega),DZ hf,rfl,h3.2⟩
theorem Nm {f:Nat} (hx:l[f]?=some x) (hw:x.wait=v :: r):FG l f=GR (l.set f ⟨x.store,r⟩) (f+1) v:=by unfold FG Gq;rw[hx];simp only[hw,List.getElem?_cons_zero,List.eraseIdx_cons_zero]
theorem Ch.pass (h:Ch l) {k:Int} (hc:Bw l k=true):Ch (FG l k.toNat):=by
 obtain ⟨f,x,y,v,r,rfl,hx,hy,hw,hr⟩:=Kv hc;have hf:=(DY hx).1;have hf1:=(DY hy).1;obtain ⟨n1,n2,n3⟩:=Bo (h.node f x hx);have hlk:=h.link f x y hx hy;rw[hw] at hlk n2 n3;obtain ⟨u,hu,hl,hlk⟩:=fitsL_cons.1 hlk;rw[A7,Nm hx hw];have hv:=n3 v (by simp);have get:∀ (i:Nat) (z:Node),(l.set f ⟨x.store,r⟩)[i]?=some z->(i=f/\z=⟨x.store,r⟩)\/(i≠f/\l[i]?=some z):=λi z hz=>by
  by_cases hi:f=i
  ·subst hi;rw[zdr hf] at hz;injection hz with hz;exact .inl ⟨rfl,hz.symm⟩
  ·rw[zdi hi] at hz;exact .inr ⟨λe=>hi e.symm,hz⟩
 refine zbe (z:=y) (u:=u) (by simpa using h.pos) (by simpa using h.le) (λi z hz=>?_) (λi z w hz hw' hne=>?_) (λi z hz hi=>?_) (by rw[zdi (by omega)];exact hy) hv hr hu hl (λi z hz hi=>?_)
 ·rcases get i z hz with ⟨_,rfl⟩ | ⟨_,g⟩
  ·unfold Fv;simp only;simp only[zd7] at n2;rw[n1,decide_eq_true (by omega),zdu,zdu,zdz];exact λw hw=>n3 w (by simp[hw])
  ·exact h.node i z g
 ·rcases get i z hz with ⟨rfl,_⟩ | ⟨_,g⟩
  ·exact absurd rfl hne
  ·rcases get (i+1) w hw' with ⟨e,rfl⟩ | ⟨_,g2⟩
   ·rw[e] at hw';exact h.link i z x g (by rw[e];exact hx)
   ·exact h.link i z w g g2
 ·rw[zdM] at hi;rcases get i z hz with ⟨rfl,_⟩ | ⟨_,g⟩
  ·omega
  ·exact h.last i z g hi
 ·rcases get i z hz with ⟨_,rfl⟩ | ⟨g,_⟩
  ·exact hlk
  ·omega
end


variable {l:List Tag}{p:Place}{k:Int}{s:ByteArray}{T:Type}{K:V->Heap->Option T}
def AI (p:Place) (l:List Tag):Int:=FH (E3 l) p.clock+1
def DX (p:Place) (k:Int) (s:ByteArray) (g:Bool) (l:List Tag):Ver:=⟨k,⟨AI p l,p.me⟩,l,s,g⟩
def Ih (p:Place) (l:List Tag):Bool:=CD l (Bs p.chain)&&(Dz p.chain 0&&(decide (AI p l<=999)&&decide ((p.log.length:Int)<36)))
def A0 (p:Place) (k:Int) (s:ByteArray) (g:Bool) (l:List Tag):Bool:=Ah k 0 3&&(In s&&((!g || JO s)&&(Ck l&&Ih p l)))
def En (p:Place) (k:Int) (s:ByteArray) (g:Bool) (l:List Tag):Place×Tag:=bif Av p then (bif A0 p k s g l then (BL (Fe p 0 (AI p l) (DX p k s g l)),⟨AI p l,p.me⟩) else (p,⟨0,0⟩)) else (zcq,⟨0,0⟩)
theorem newer_lt_iff {a c x:Int}:FH a c<x<->a<x/\c<x:=by unfold FH;split<;>omega
theorem zbH {A B:Int} (h:∀ x,A<x<->B<x):A=B:=by have h1:=(h (A+1)).1 (by omega);have h2:=(h (B+1)).2 (by omega);omega
theorem Zb {c:Int} (hc:0<=c):l.foldl (λm t=>if t.time>m then t.time else m) c=FH (E3 l) c:=by
 refine zbH λx=>?_;rw[newer_lt_iff,latest_lt,RG];constructor
 ·rintro ⟨h1,h2⟩;exact ⟨⟨by omega,h2⟩,h1⟩
 ·rintro ⟨⟨_,h2⟩,h1⟩;exact ⟨h1,h2⟩
theorem Zh (h:Ck l=true):0<=E3 l/\E3 l<=999:=by
 have h1:E3 l<1000:=latest_lt.2 ⟨by omega,λt ht=>by
  simp only[Ck,DH,zdz] at h;have:=IU (h.2 t ht);omega⟩
 have h2:¬ E3 l<0:=λh=>by have:=(latest_lt.1 h).1;omega
 omega
theorem LJ (hp:Av p=true) (h:Ck l=true):1<=AI p l/\AI p l<=1000/\E3 l<AI p l/\p.clock<AI p l:=by have h1:=Zh h;have h2:=(AL hp).2.1;unfold AI FH;split<;>omega
theorem Hy {g:Bool} (h:A0 p k s g l=true):(0<=k/\k<=3)/\In s=true/\(g=true->JO s=true)/\Ck l=true/\CD l (Bs p.chain)=true/\Dz p.chain 0=true/\AI p l<=999/\p.log.length<36:=by unfold A0 Ih at h;simp only[DH,zd5,decide_eq_true_eq,Ah,zdV] at h;obtain ⟨h1,h2,h3,h4,h5,h6,h7,h8⟩:=h;exact ⟨h1,h2,λhg=>h3.resolve_left (by rw[hg];simp),h4,h5,h6,h7,by omega⟩
theorem PB {g:Bool} (hp:Av p=true) (h:A0 p k s g l=true):thin (DX p k s g l):=by obtain ⟨h1,h2,h3,h4,h5,h6,h7,h8⟩:=Hy h;have g1:=D9 h4;have g2:=K0 h2;have g3:=LJ hp h4;have g4:=(AL hp).1;refine ⟨by show l.length<=4;omega,by show s.size<=8;omega,?_⟩;show CY (AI p l) p.me=true;unfold CY Ah;rw[decide_eq_true g3.1,decide_eq_true h7,decide_eq_true g4.1,decide_eq_true g4.2];simp
theorem zbc {lo lo' e R bytes q:Nat}{a:Pq}{xs:List (List V)}{h:Heap}:Dv lo e R bytes (.sl q a 0 (some 0)) xs h K=Dv lo' e R bytes (.sl q a 0 (some 0)) xs h K:=by
 cases xs with
 | nil=>rfl
 | cons x xs =>
  cases a with
  | none=>rfl
  | some p =>
   obtain ⟨b,i⟩:=p;simp only[Dv];have:Nat.ble (0+(x :: xs).length) 0=false:=by rw[zd7,zdR];rfl
   rw[this]
section
variable {lo:Nat}{ro:Bool}{h:Heap}{F F' G:List Nat}{a a' av:Pq}{c c' cv:Nq}
theorem Po {a1 a2 a3:Pq}{c1 c2 c3:Nq} (hv:RTags ro h [.sl 2 av l.length cv] l G) (hok:Av p=true) (hl:Ck l=true) :
  Af lo 126 [.agg (p.cs a1 c1 a2 c2 a3 c3),.agg [.sl 2 av l.length cv]] h=some (Iv (AI p l),h):=by
 have h4:=D9 hl;have hc:=(AL hok).2.1;refine SY (h':=h) ?_;have loop:∀ m i x,m+i=4->(∀ y:Int,(l.drop i).foldl (λm t=>if t.time>m then t.time else m) x=y -> -9223372036854775808<=y+1/\y+1<=9223372036854775807)->CZ (List.length h) x (i:Nat) av l.length cv h=some (Iv ((l.drop i).foldl (λm t=>if t.time>m then t.time else m) x+1),h):=by
  intro m;induction m with
  | zero =>intro i x hi hb;rw[zdZ (by omega)] at hb ⊢;have:=hb x rfl;rw[CZ.e,Aj (by omega),wr (by omega) (by omega)];rfl
  | succ m ih =>
   intro i x hi hb;have hil:i<l.length:=by omega
   obtain ⟨o,ha,ho⟩:=hv.get hil;have ho1:ld h o.1 (o.2+i) 0 1=some [Iv l[i].time]:=by obtain ⟨o',row,G',h1,h2,⟨rfl,_⟩,_⟩:=hv.read hil;rw[ha] at h1;injection h1 with h1;subst h1;rw[h2];rfl
   rw[zdw hil,zd6] at hb ⊢;rw[CZ.e,Am (by omega),Ac hil,ha,Ae,A7,ho1,Ae,Aa,Ag,Ab,Ac hil,Ae,ho1,Ae,Aa,Ag,Ab,Au (show i<9223372036854775807 by omega),<- ha];by_cases ht:l[i].time>x
   ·rw[if_pos ht] at hb ⊢;rw[Am ht];exact ih (i+1) _ (by omega) hb
   ·rw[if_neg ht] at hb ⊢;rw[Aj ht];exact ih (i+1) _ (by omega) hb
 have hnf:∀ y,(l.drop 0).foldl (λm t=>if t.time>m then t.time else m) p.clock=y->y=FH (E3 l) p.clock:=λy hy=>by rw[<- hy,zeg,Zb hc.1]
 have hb:=LJ hok hl;have:=loop 4 0 p.clock rfl (λy hy=>by rw[hnf y hy];unfold AI at hb;omega);rw[hnf _ rfl] at this;exact this
theorem WX {a1 a2 a3:Pq}{c1 c2 c3:Nq}{F1:List Nat} (hs1:RNodes ro h [.sl 2 a1 p.chain.length c1] p.chain F1) (hv:RTags ro h [.sl 2 av l.length cv] l G) (hok:Av p=true) (hl:Ck l=true) (hn:FM p) :
  Af lo 57 [.agg (p.cs a1 c1 a2 c2 a3 c3),.agg [.sl 2 av l.length cv]] h=some (.bool (Ih p l),h):=by
 have h0:=Dl hok;have hchain:=(AL hok).2.2.2.1;obtain ⟨v5,h5,F5,e5,r5,m5⟩:=Mf (lo:=h.length) hs1 (zdj _) hn.1 h0;obtain ⟨a6,c6,e6,r6⟩:=r5.form;refine Ve (h':=h5) ?_;have en:=Po (lo:=h.length) (a1:=a1) (c1:=c1) (a2:=a2) (c2:=c2) (a3:=a3) (c3:=c3) (m5.keep0 rtags_ok hv) hok hl;simp only[Place.cs] at en;unfold Ih;rw[e5,Ad,AS,Aa,e6,Ag,JN (m5.keep0 rtags_ok hv) r6 (D9 hl) (QJ hchain),Ad,Ax];cases CD l (Bs p.chain) with
 | false=>rw[Az];rfl
 | true =>
 rw[Aq,Pp (m5.keep0 rnodes_ok hs1) h0,Ad,Ax];cases Dz p.chain 0 with
 | false=>rw[Az];rfl
 | true =>
 rw[Aq,en,Ad,Ab];cases decide (AI p l<=999) with
 | false=>rw[Az];rfl
 | true =>
 rw[Aq];cases decide ((p.log.length:Int)<36) with
 | false=>rw[Az];rfl
 | true=>rw[Aq];rfl
theorem Ng {g:Bool}{a1 a2 a3:Pq}{c1 c2 c3:Nq}{F1 F2 F3:List Nat} (hs1:RNodes false h [.sl 2 a1 p.chain.length c1] p.chain F1) (hs2:RVers false h [.sl 6 a2 p.log.length c2] p.log F2) (hs3:RVss false h [.sl 1 a3 p.got.length c3] p.got F3)
  (hv:RTags false h [.sl 2 av l.length cv] l G) (hok:Av p=true) (hc:A0 p k s g l=true) (hnd:(F1++(F2++F3)).Nodup) (hlo:∀ b∈F1++(F2++F3),lo<=b) (hl:lo<=h.length) :
  ∃ a2' c2' h' F',Af lo 59 [.agg (p.cs a1 c1 a2 c2 a3 c3),Iv k,.str s,.bool g,.agg [.sl 2 av l.length cv]] h=some (.tup [.agg ((BL (Fe p 0 (AI p l) (DX p k s g l))).cs a1 c1 a2' c2' a3 c3),.agg [Iv (AI p l),Iv p.me]],h') /\
   B7 false h' ((BL (Fe p 0 (AI p l) (DX p k s g l))).cs a1 c1 a2' c2' a3 c3) (BL (Fe p 0 (AI p l) (DX p k s g l))) F'/\Mv h (F1++(F2++F3)) h' F':=by
 obtain ⟨g1,g2,g3,g4,g5,g6,g7,g8⟩:=Hy hc;have h0:=Dl hok;have hl4:=D9 g4;have hti:=Ko hok;obtain ⟨a5,c5,h5,F5,e5,r5,m5⟩:=LX (lo:=h.length) (h:=h) (l:=l) (zdj _) (by omega);rw[<- zdv] at hnd hlo ⊢;have hnd':=hnd;rw[zdg] at hnd';have hdis:∀ y∈F3,y∉F1++F2:=λy hy hm=>hnd'.2.2 y hm y hy rfl;have hb12:∀ y∈F1++F2,y<h.length:=λy hy=>by rw[zde] at hy;exact hy.elim (rnodes_ok.bd _ _ _ _ hs1 y) (rvers_ok.bd _ _ _ _ hs2 y)
 obtain ⟨h6,a6,c6,h7,F6,F7,e6,e7,r6,r7,m7⟩:=Ni (lo:=lo) (v:=DX p k s g l) (k:=0) (t:=AI p l) (a3:=a3) (c3:=c3) (m5.keep0 rnodes_ok hs1) (m5.keep0 rvers_ok hs2) r5 (λy hy hm=>by
  have:=m5.new y hy;have:=hb12 y (by simp[hm]);omega) hnd'.1 (λy hy=>hlo y (by rw[zde];exact .inl hy)) (zdh hl m5.le) h0 g1 hti (PB hok hc)
 have hcs:(Fe p 0 (AI p l) (DX p k s g l)).cs a1 c1 a2 c2 a3 c3 = [Iv p.me,Iv (AI p l),.sl 2 a1 p.chain.length c1,.sl 6 a2 p.log.length c2,.sl 1 a3 p.got.length c3,.bool p.fell]:=by simp only[Place.cs,Fe,E5]
 rw[hcs] at e7;have m5':Mv h (F1++F2) h5 (F1++F2):=(m5.drop.aside (G:=F1++F2) hnd'.1 hb12);have m8:=m5'.trans m7;have b3':∀ y∈F3,y<h.length:=rvss_ok.bd _ _ _ _ hs3;have m9:=m8.aside (G:=F3) hnd b3';have hs3':=m8.keep rvss_ok hs3 hdis;refine ⟨a6,c6,h7,F6++F7++F3,Sa ?_,⟨_,_,_,_,_,_,rfl,_,_,_,F6,F7,F3,rfl,by rw[zdv],r6,r7,hs3'⟩,m9⟩;have en:=Po (lo:=h.length) (a1:=a1) (c1:=c1) (a2:=a2) (c2:=c2) (a3:=a3) (c3:=c3) hv hok g4;simp only[Place.cs] at en;have e6':Af lo 129 [.agg [.sl 2 a1 p.chain.length c1],Iv 0,.agg [Iv k,Iv (AI p l),Iv p.me,.sl 2 a5 l.length c5,.str s,.bool g]] h5=some (.agg [.sl 2 a1 p.chain.length c1],h6):=e6;rw[en,Ad,Ab,RTags.rows (Mv.snoc.keep0 rtags_ok hv),zbc (lo':=h.length),e5,Ai,e6',Ad,AS,Aa,Ai,Ag,e7,Ad,AS];simp only[Place.cs];rw[Aa,Ab,Aa,Ab,Aa,Ai,Aa,Ai,Aa,Ai,Aa,AK,Ag]
end


variable {p:Place}{s:ByteArray}{l:List Tag}
theorem Lz {k:Int}{g:Bool}:A0 p k s g l=(HR ⟨k,⟨0,0⟩,l,s,g⟩&&Ih p l):=by unfold A0 HR;simp only[Bool.and_assoc]
theorem MY {k:Int}{g:Bool} (h:Av p=true):En p k s g l=bif A0 p k s g l then (BL (Fe p 0 (AI p l) (DX p k s g l)),⟨AI p l,p.me⟩) else (p,⟨0,0⟩):=by unfold En;rw[h,cond_true]
section
variable {lo:Nat}{h:Heap}{F F' G:List Nat}{a a' av:Pq}{c c' cv:Nq}
end


variable {p:Place}
def IE (p:Place) (f:Nat) (at':Int) (v:Ver):Bool := !((f:Int)==p.me)&&((at'==((KT p f).length:Int))&&(decide (((KT p f).length:Int)<60) && !CB (KT p f) v.tag))
def Ez (p:Place) (f at':Int) (v:Ver):Bool:=Ah f 0 2&&(Da v&&((v.tag.place==f)&&IE p f.toNat at' v))
def Ii (p:Place) (f:Nat) (v:Ver):Place:=⟨p.me,p.clock,p.chain,p.log,p.got.set f (KT p f ++ [v]),p.fell⟩
def Ed (p:Place) (f at':Int) (v:Ver):Place:=bif Ez p f at' v then Ii p f.toNat v else p
theorem Ks {a:Option (List V)}:Gi a a=true:=by unfold Gi;exact (@decide_eq_true_iff _ (_)).2 rfl
theorem Yp {f:Nat}{v:Ver}{a1 a2 a3:Pq}{c1 c2 c3:Nq}:(Ii p f v).cs a1 c1 a2 c2 a3 c3=p.cs a1 c1 a2 c2 a3 c3:=by simp only[Place.cs,Ii,zdM]
theorem Zr {h h':Heap}{b:Nat}{G1 G2 G3 G3':List Nat} (m:Mv h G3 h' G3') (hnd:(b ::(G1++(G2++G3))).Nodup) (hb:∀ y∈b ::(G1++(G2++G3)),y<h.length) :
  Mv h (b ::(G1++(G2++G3))) h' (b ::(G1++(G2++G3')))/\b∉G3/\(∀ y∈G1,y∉G3)/\∀ y∈G2,y∉G3:=by
 have hnd':=hnd;rw[zdn,zdg,zde,zde,zdg] at hnd';obtain ⟨n1,n2,⟨n3,n4,n5⟩,n6⟩:=hnd';simp only[not_or] at n1;have e:b ::(G1++(G2++G3))=(b ::(G1++G2))++G3:=by simp
 have e':b ::(G1++(G2++G3'))=(b ::(G1++G2))++G3':=by simp
 refine ⟨?_,n1.2.2,λy hy hm=>n6 y hy y (by simp[hm]) rfl,λy hy hm=>n5 y hy y hm rfl⟩;rw[e] at hnd hb ⊢;rw[e'];rw[zdg] at hnd;exact (m.aside (G:=b ::(G1++G2)) (by rw[zdg];exact ⟨hnd.2.1,hnd.1,λx hx y hy e=>hnd.2.2 y hy x hx e.symm⟩) λy hy=>hb y (by rw[zde];exact .inl hy)).swap
section
variable {lo:Nat}{h:Heap}{F F' G:List Nat}{a a' av:Pq}{c c' cv:Nq}
theorem Uq {f:Nat}{at':Int}{v:Ver}{a1 a2 a3:Pq}{c1 c2 c3:Nq}{F3:List Nat} (hs3:RVss false h [.sl 1 a3 p.got.length c3] p.got F3) (hv:RTags false h [.sl 2 av v.past.length cv] v.past G)
  (hf:f<p.got.length) (hgn:p.got[f].length<=1000000) (hvn:v.past.length<=1048576) (hnd:F3.Nodup) (hlo:∀ b∈F3,lo<=b) (hl:lo<=h.length) :
  ∃ h' F3',Af lo 260 [.agg (p.cs a1 c1 a2 c2 a3 c3),Iv (f:Nat),Iv at',.agg (v.cs av cv)] h=some (.tup [.agg (p.cs a1 c1 a2 c2 a3 c3),.bool (IE p f at' v)],h') /\
   RVss false h' [.sl 1 a3 p.got.length c3] (bif IE p f at' v then p.got.set f (p.got[f] ++ [v]) else p.got) F3'/\Mv h F3 h' F3'/\(IE p f at' v=false->h'=h):=by
 suffices hq:∃ h' F3',_=some (V.tup [.agg (p.cs a1 c1 a2 c2 a3 c3),.bool (IE p f at' v)],h')/\RVss false h' [.sl 1 a3 p.got.length c3] (bif IE p f at' v then p.got.set f (p.got[f] ++ [v]) else p.got) F3'/\Mv h F3 h' F3'/\(IE p f at' v=false->h'=h) from hq.imp λh' hq=>hq.imp λF' hq=>⟨SZ hq.1,hq.2⟩
 have hh:IE p f at' v=(!((f:Int)==p.me)&&((at'==(p.got[f].length:Int))&&(decide ((p.got[f].length:Int)<60) && !CB p.got[f] v.tag))):=by unfold IE;rw[Hu hf]
 rw[hh];cases x1:((f:Int)==p.me) with
 | true=>rw[Aq];exact ⟨h,F3,rfl,hs3,Mv.refl hnd,λ_=>rfl⟩
 | false =>
 obtain ⟨b,i,rs,row,G0,ha,hbF,hbG,hb,hrow,hel,hGF,hGn,_,put⟩:=hs3.at rvers_ok hf hnd hlo;have hrs:∃ s,row = [s]:=by obtain ⟨R',a',c',e,_⟩:=id hel;exact ⟨_,e⟩
 obtain ⟨s,rfl⟩:=hrs;obtain ⟨b3,d3,es,r3⟩:=hel.form;have hld:ld h b (i+f) 0 1=some [s]:=by rw[CA hb hrow];rfl
 rw[Az,Ac hf,ha,Ae,A7,hld,Ae,Aa,Ag,es];cases x2:(at'==(p.got[f].length:Int)) with
 | false=>rw[Az];exact ⟨h,F3,rfl,by rw[<- ha];exact hs3,Mv.refl hnd,λ_=>rfl⟩
 | true =>
 have hat:at'=(p.got[f].length:Int):=by rwa [beq_iff_eq] at x2
 rw[Aq];cases x3:decide ((p.got[f].length:Int)<60) with
 | false =>
  have:(p.got[f].length:Int)>=60:=by have:=of_decide_eq_false x3;omega
  rw[Am (by omega)];exact ⟨h,F3,rfl,by rw[<- ha];exact hs3,Mv.refl hnd,λ_=>rfl⟩
 | true =>
 have:(p.got[f].length:Int)<60:=of_decide_eq_true x3;rw[Aj (by omega),Ac hf,Ae,hld,Ae,Aa,Ag,es,Me r3 (by omega),Ad,Ax];have hht:CB p.got[f] ⟨v.tag.time,v.tag.place⟩=CB p.got[f] v.tag:=rfl;rw[hht];cases x4:CB p.got[f] v.tag with
 | true=>rw[Aq];exact ⟨h,F3,rfl,by rw[<- ha];exact hs3,Mv.refl hnd,λ_=>rfl⟩
 | false =>
 obtain ⟨a5,c5,h5,F5,e5,r5,m5⟩:=Eo (lo:=h.length) (v:=v) hv (zdj _) hvn;obtain ⟨a6,c6,h6,F6,e6,r6,m6⟩:=DN (lo:=lo) (bytes:=72) (e:=43) rver_ok r3 (row:=v.cs a5 c5) (x:=v) (G:=F5) (h1:=h5 ++ [.rows 6 43 false [v.cs a5 c5]])
  ⟨_,rfl,Mv.snoc.keep0 rtags_ok r5⟩ (m5.trans (Mv.snoc' m5.nd)) hGn (λy hy=>hlo y (hGF y hy)) hl (by decide) (by omega)
 rw[show p.got[f].length+1=(p.got[f] ++ [v]).length by simp] at r6;obtain ⟨h7,F7,e7,r7,m7,_⟩:=put h6 F6 0 [.sl 6 a6 (p.got[f] ++ [v]).length c6] [.sl 6 a6 (p.got[f] ++ [v]).length c6] (p.got[f] ++ [v]) m6 rfl r6;rw[show (p.got[f] ++ [v]).length=p.got[f].length+1 by simp] at e7;rw[Az,Ac hf,Ae,hld,Ae,Aa,Ag,es,e5,Ad,AS,Aa,Ab,Aa,Ab,Aa,Ab,Aa,Ai,Aa,BO,Aa,AK,Ag,AX];simp only[Ver.cs] at e6;rw[e6,Ai,Ac hf,Ae,e7,Ae];exact ⟨h7,F7,rfl,by rw[<- ha];exact r7,m7,λg=>by cases g⟩
end


variable {c t:Int}{s:ByteArray}{i:Nat}{x:Node}{k m:Int}
theorem I8 {a b d:Int}:Hb a b c d=false<->¬ (a<c\/(a=c/\b<d)):=by rw[<- Bool.not_eq_true];simp[Hb]
theorem under_iff {p q:List Tag}:CD p q=true<->∀ (i:Nat) (a b:Tag),p[i]?=some a->q[i]?=some b->Hb b.time b.place a.time a.place=false:=by
 unfold CD;rw[zdz];constructor
 ·intro h i a b ha hb;have:=h (a,b) (zdA.2 ⟨i,ze0.2 ⟨ha,hb⟩⟩);simpa using this
 ·rintro h ⟨a,b⟩ hm
  obtain ⟨i,hi⟩:=zdA.1 hm;rw[ze0] at hi;simpa using h i a b hi.1 hi.2
theorem EY {p:List Tag}:CD p p=true:=under_iff.2 λi a b ha hb=>by rw[ha] at hb;injection hb with hb;subst hb;rw[I8];omega
theorem Pj {p q r:List Tag} (hl:p.length<=q.length) (h1:CD p q=true) (h2:CD q r=true):CD p r=true:=under_iff.2 λi a c ha hc=>by have hi:=(DY ha).1;have hb:=DZ (l:=q) (i:=i) (by omega);have x1:=under_iff.1 h1 i a _ ha hb;have x2:=under_iff.1 h2 i _ c hb hc;rw[I8] at x1 x2 ⊢;omega
theorem Oj {t s:List Ver} (h:upS t s):CD (Bi t) (Bi s)=true:=under_iff.2 λi a b ha hb=>by
 unfold Bi at ha hb;rw[List.getElem?_map,zdU] at ha hb;obtain ⟨x,hx,rfl⟩:=ha;obtain ⟨y,hy,rfl⟩:=hb;rw[I8];rcases h i x y hx hy with rfl | g
 ·omega
 ·rw[IP] at g;omega
def inCh (l:List Node) (v:Ver):Prop:=∃ x∈l,v∈x.store\/v∈x.wait
section
variable {l:List Node}{v:Ver}
theorem inCh.get (h:inCh l v):∃ (i:Nat) (x:Node),l[i]?=some x/\(v∈x.store\/v∈x.wait):=by obtain ⟨x,hx,hv⟩:=h;obtain ⟨i,hi⟩:=zdA.1 hx;exact ⟨i,x,hi,hv⟩
theorem inCh.of (hx:l[i]?=some x) (hv:v∈x.store\/v∈x.wait):inCh l v:=⟨x,zdt hx,hv⟩
theorem Ch.ver (h:Ch l) (hv:inCh l v) (ht:0<v.tag.time):Da v=true:=by
 obtain ⟨i,x,hx,g | g⟩:=hv.get
 ·obtain ⟨j,hj⟩:=zdA.1 g;rcases D8 (J0 (h.store hx).1 hj) with g2 | g2
  ·have:=(Ge g2).1;omega
  ·exact g2.1
 ·exact (Bo (h.node i x hx)).2.2 v g
theorem DK (hx:l[i]?=some x) (hi:i+1=l.length):Bs l=Bi x.store:=by
 rw[I9 (show 0<l.length by omega)];obtain ⟨hj,rfl⟩:=DY hx;have e:l.length - 1=i:=by omega
 simp only[e]
theorem IQ (hx:l[i]?=some x) (hi:i+1=l.length):Eu l=x.store:=by
 rw[E4 (show 0<l.length by omega)];obtain ⟨hj,rfl⟩:=DY hx;have e:l.length - 1=i:=by omega
 simp only[e]
theorem Ch.tail (h:Ch l):∃ z,l[l.length - 1]?=some z/\l.length - 1+1=l.length:=by have:=h.pos;exact ⟨_,DZ (by omega),by omega⟩
theorem Ch.four (h:Ch l):(Bs l).length=4/\(Eu l).length=4:=by obtain ⟨z,hz,hi⟩:=h.tail;rw[DK hz hi,IQ hz hi];have:=(h.store hz).2;exact ⟨by simpa [Bi] using this,this⟩
theorem TT (h:Ch l):(Jw l).length=l.length+1/\Bs (Jw l)=Bs l/\Eu (Jw l)=Eu l/\(Jw l)[0]?=l[0]?:=by
 have hp:=h.pos;obtain ⟨z,hz,hi⟩:=h.tail;obtain ⟨hj,e⟩:=DY hz;have hn:(Jw l)[l.length]?=some ⟨z.store,[]⟩:=by rw[Gm (by omega),zdC (zdj _),zeH,e];rfl
 have hl:(Jw l).length=l.length+1:=by rw[Gm (by omega)];simp
 refine ⟨hl,?_,?_,?_⟩
 ·rw[DK hn (by omega),DK hz hi]
 ·rw[IQ hn (by omega),IQ hz hi]
 ·rw[Gm (by omega),zdl (by omega)]
theorem TY (hp:1<=l.length) (hv:inCh (Jw l) v):inCh l v:=by
 rw[Gm (by omega)] at hv;obtain ⟨x,hx,g⟩:=hv;rcases zde.1 hx with hx | hx
 ·exact ⟨x,hx,g⟩
 ·rw[zdJ] at hx;subst hx;rcases g with g | g
  ·exact ⟨_,zdf (by omega),.inl g⟩
  ·exact absurd g (by simp)
theorem TZ {k:Nat} (hk:k<l.length) (hv:inCh (B9 l k) v):inCh l v:=by
 obtain ⟨i,x,hx,g⟩:=hv.get;rw[Ka hk] at hx;split at hx
 ·rw[zdU] at hx;obtain ⟨z,hz,rfl⟩:=hx;rcases g with g | g
  ·exact .of hz (.inl g)
  ·simp only at g;split at g
   ·exact .of hz (.inl (OB g))
   ·simp at g
 ·split at hx
  ·exact .of hx g
  ·exact .of hx g
theorem Nz {j:Nat}{u:Ver} (hv:inCh (GR l j u) v):inCh l v\/v=u:=by
 unfold GR at hv;split at hv
 ·rename_i x hx
  split at hv
  ·rename_i w hw
   cases hl:AU w u with
   | false=>rw[hl] at hv;exact .inl hv
   | true =>
    rw[hl,cond_true] at hv;obtain ⟨y,hy,g⟩:=hv;rcases zdE hy with hy | rfl
    ·exact .inl ⟨y,hy,g⟩
    ·rcases g with g | g
     ·rcases zdE g with g | rfl
      ·exact .inl (.of hx (.inl g))
      ·exact .inr rfl
     ·simp only at g;cases hd:decide (j+1<l.length) with
      | false=>rw[hd] at g;exact .inl (.of hx (.inr g))
      | true =>
       rw[hd,cond_true] at g;rcases zde.1 g with g | g
       ·exact .inl (.of hx (.inr g))
       ·exact .inr (by simpa using g)
  ·exact .inl hv
 ·exact .inl hv
theorem TX (hc:Bw l k=true) (hv:inCh (FG l k.toNat) v):inCh l v:=by
 obtain ⟨f,x,y,u,r,rfl,hx,hy,hw,hr⟩:=Kv hc;rw[A7,Nm hx hw] at hv;rcases Nz hv with ⟨z,hz,g⟩ | rfl
 ·rcases zdE hz with hz | rfl
  ·exact ⟨z,hz,g⟩
  ·rcases g with g | g
   ·exact .of hx (.inl g)
   ·exact .of hx (.inr (by rw[hw];simp only at g;simp[g]))
 ·exact .of hx (.inr (by rw[hw];simp))
theorem R3 (h:Ch l):Ly l=true<->∀ v,inCh l v->0<v.tag.time->CD v.past (Bs l)=true:=by
 unfold Ly Q5;rw[zdz];constructor
 ·rintro hc v ⟨x,hx,g⟩ ht
  have:=hc x hx;rw[DH,zdz,zdz] at this;rcases g with g | g
  ·have:=this.1 v g;rw[zd5,zdV,decide_eq_false_iff_not] at this;exact this.resolve_left λhn=>hn ht
  ·exact this.2 v g
 ·intro hc x hx;rw[DH,zdz,zdz];refine ⟨λv hv=>?_,λv hv=>?_⟩
  ·by_cases ht:v.tag.time>0
   ·rw[hc v ⟨x,hx,.inl hv⟩ ht,Bool.or_true]
   ·rw[decide_eq_false ht];rfl
  ·obtain ⟨i,hi⟩:=zdA.1 hx;exact hc v ⟨x,hx,.inr hv⟩ (WP ((Bo (h.node i x hi)).2.2 v hv))
theorem GK (hx:l[0]?=some x):Hp l c=true<->∀ v∈x.store,v.tag.time<=c:=by unfold Hp;rw[hx];simp
theorem Wq (h:Ch l) {k:Nat} (hk:k<l.length) (h2:1<l.length):CD (Bs l) (Bs (B9 l k))=true:=by
 have hlen:=Kb hk h2;obtain ⟨z,hz,hi⟩:=h.tail;obtain ⟨z',hz',hi'⟩:=(h.fall hk h2).tail;rw[DK hz hi,DK hz' hi'];rw[Ka hk] at hz';split at hz'
 ·rename_i e
  rw[zdU] at hz';obtain ⟨w,hw,rfl⟩:=hz';exact Oj (h.up 1 _ w z hw (by rw[show (B9 l k).length - 1+1=l.length - 1 by omega];exact hz))
 ·rename_i e
  split at hz'
  ·omega
  ·rw[show (B9 l k).length - 1+1=l.length - 1 by omega,hz] at hz';injection hz' with hz';subst hz';exact EY
theorem X4 (h:Ch l) (hv:Da v=true):CD (Bs l) (Bs (GR l 0 v))=true:=by
 have hp:=h.pos;have hz:l[0]?=some (l[0]'(by omega)):=DZ (by omega);obtain ⟨u,hu⟩:=h.key hz hv;rw[Ki hz hu];cases hl:AU u v with
 | false=>exact EY
 | true =>
  rw[cond_true];by_cases h1:l.length=1
  ·rw[DK hz (by omega),DK (i:=0) (zdr (by omega)) (by simpa using h1.symm)];exact Oj (upS.set hu hl)
  ·obtain ⟨z,hz',hi⟩:=h.tail;rw[DK hz' hi,DK (i:=l.length - 1) (by rw[zdi (by omega)];exact hz') (by simpa using hi)];exact EY
theorem VW (h:Ch l) (hc:Bw l k=true):CD (Bs l) (Bs (FG l k.toNat))=true:=by
 obtain ⟨f,x,y,v,r,rfl,hx,hy,hw,hr⟩:=Kv hc;have hlk:=h.link f x y hx hy;rw[hw] at hlk;obtain ⟨u,hu,hl,_⟩:=fitsL_cons.1 hlk;have hf1:=(DY hy).1;obtain ⟨z,hz,hi⟩:=h.tail;have hy':(l.set f ⟨x.store,r⟩)[f+1]?=some y:=by rw[zdi (by omega)];exact hy
 rw[A7,Nm hx hw,Ki hy' hu,hl,cond_true,DK hz hi];by_cases he:f+1=l.length - 1
 ·rw[he,hz] at hy;injection hy with hy;subst hy;rw[DK (i:=f+1) (zdr (by simpa using hf1)) (by simp;omega)];exact Oj (upS.set hu hl)
 ·rw[DK (i:=l.length - 1) (x:=z) (by rw[zdi (by omega),zdi (by omega)];exact hz) (by simpa using hi)];exact EY
theorem ZQ {t s:List Ver} (h:upS t s) (hl:t.length<=s.length) (hs:∀ v∈s,v.tag.time<=c):∀ v∈t,v.tag.time<=c:=λv hv=>by
 obtain ⟨i,hi⟩:=zdA.1 hv;have hlt:=(DY hi).1;have hy:=DZ (l:=s) (i:=i) (by omega);have:=hs _ (zdf (show i<s.length by omega));rcases h i v _ hi hy with rfl | g
 ·exact this
 ·rw[IP] at g;omega
theorem Zx (h:Ch l) {k:Nat} (hk:k<l.length) (h2:1<l.length) (hh:Hp l c=true):Hp (B9 l k) c=true:=by
 have hlen:=Kb hk h2;have h0:l[0]?=some (l[0]'(by omega)):=DZ (by omega);have h1:l[1]?=some (l[1]'(by omega)):=DZ (by omega);have hh0:=(GK h0).1 hh;have hx:(B9 l k)[0]?=some ((B9 l k)[0]'(by omega)):=DZ (by omega);rw[GK hx];rw[Ka hk] at hx;split at hx
 ·rw[h0,zes] at hx;injection hx with hx;rw[<- hx];exact hh0
 ·split at hx
  ·rw[h0] at hx;injection hx with hx;rw[<- hx];exact hh0
  ·rw[zdR,h1] at hx;injection hx with hx;rw[<- hx];exact ZQ (h.up 1 0 _ _ h0 h1) (by rw[(h.store h0).2,(h.store h1).2];exact zdj _) hh0
theorem zbd (h:Ch l) (hv:Da v=true) (hh:Hp l c=true) (hc:c<=t) (hvt:v.tag.time<=t):Hp (GR l 0 v) t=true:=by
 have hp:=h.pos;have hz:l[0]?=some (l[0]'(by omega)):=DZ (by omega);obtain ⟨u,hu⟩:=h.key hz hv;have hh0:=(GK hz).1 hh;rw[Ki hz hu];cases hl:AU u v with
 | false=>rw[cond_false,GK hz];exact λw hw=>by have:=hh0 w hw;omega
 | true =>
  rw[cond_true,GK (zdr (by omega))];intro w hw;rcases zdE hw with hw | rfl
  ·have:=hh0 w hw;omega
  ·exact hvt
theorem Y7 (h:Ch l) (hc:Bw l k=true) (hh:Hp l c=true):Hp (FG l k.toNat) c=true:=by
 obtain ⟨f,x,y,v,r,rfl,hx,hy,hw,hr⟩:=Kv hc;have hlk:=h.link f x y hx hy;rw[hw] at hlk;obtain ⟨u,hu,hl,_⟩:=fitsL_cons.1 hlk;have hf:=(DY hx).1;have hy':(l.set f ⟨x.store,r⟩)[f+1]?=some y:=by rw[zdi (by omega)];exact hy
 rw[A7,Nm hx hw,Ki hy' hu,hl,cond_true];by_cases h0:f=0
 ·subst h0;rw[GK (x:=⟨x.store,r⟩) (by rw[zdi (by omega),zdr hf])];exact (GK hx).1 hh
 ·have hz:l[0]?=some (l[0]'(by omega)):=DZ (by omega);rw[GK (x:=l[0]'(by omega)) (by rw[zdi (by omega),zdi (by omega)];exact hz)];exact (GK hz).1 hh
end
theorem zae {p:Place} (h1:0<=p.me/\p.me<=2) (h2:0<=p.clock/\p.clock<=999) (h3:p.got.length=3) (h4:GO p.chain=true) (h5:Ly p.chain=true) (h6:I7 p.me p.log=true)
  (h7:∀ i (hi:i<p.got.length),RF p.me i p.got[i]=true) (h8:Hp p.chain p.clock=true):Av p=true:=by
 unfold Av;simp only[DH,Ji,decide_eq_true_eq,Ah];exact ⟨⟨⟨⟨⟨⟨⟨h1,h2⟩,h3⟩,h4⟩,h5⟩,h6⟩,h7⟩,h8⟩
theorem zcE {l:List Ver} (h1:l.length<=60) (h2:∀ i (hi:i<l.length),Da l[i]=true/\l[i].tag.place=m/\CB (l.take i) l[i].tag=false):I7 m l=true:=by unfold I7;rw[DH,Ji,decide_eq_true_eq];refine ⟨λi hi=>?_,by omega⟩;obtain ⟨g1,g2,g3⟩:=h2 i hi;unfold zan;rw[g1,g2,g3];simp
theorem V6 {l:List Ver}{v:Ver} (h:I7 m l=true) (hv:Da v=true) (hp:v.tag.place=m) (ht:CB l v.tag=false) (hl:l.length<60):I7 m (l ++ [v])=true:=by
 obtain ⟨h1,h2⟩:=Hn h;refine zcE (by simp;omega) λi hi=>?_;by_cases hil:i<l.length
 ·rw[List.getElem_append_left hil,List.take_append_of_le_length (by omega)];exact h2 i hil
 ·have e:i=l.length:=by simp at hi;omega
  subst e;rw[zeJ (zdj _),List.take_append_of_le_length (zdj _),zeQ];simp only[zeH,List.getElem_cons_zero];exact ⟨hv,hp,ht⟩
theorem TN {m:Int}:∀ {vs l:List Ver},(∀ v∈vs,0<v.tag.time->Da v=true)->I7 m l=true->l.length+vs.length<=60->I7 m (vs.foldl (noted m) l)=true
 | [],l,_,h,_=>h
 | v :: vs,l,hv,h,hl=>by
  rw[zd7] at hl;rw[zd6];have h3:=Za (me:=m) (log:=l) (v:=v);refine TN (λw hw=>hv w (by simp[hw])) ?_ (by omega);unfold noted;cases hc:(decide (v.tag.time>0)&&(v.tag.place==m && !CB l v.tag)) with
  | false=>exact h
  | true =>simp only[DH,decide_eq_true_eq,beq_iff_eq,zdV] at hc;exact V6 h (hv v (by simp) hc.1) hc.2.1 hc.2.2 (by omega)
theorem hasTag_mem {l:List Ver}{t:Tag}:CB l t=true<->∃ v∈l,v.tag=t:=by
 unfold CB;rw[List.any_eq_true];constructor
 ·rintro ⟨v,hv,g⟩
  rw[DH,beq_iff_eq,beq_iff_eq] at g;exact ⟨v,hv,by cases hv:v.tag;cases t;simp_all⟩
 ·rintro ⟨v,hv,rfl⟩
  exact ⟨v,hv,by simp⟩
theorem Ot {m:Int}:∀ {vs l:List Ver},(∀ v∈vs,0<v.tag.time->v.tag.place=m->CB (vs.foldl (noted m) l) v.tag=true)/\∃ r,vs.foldl (noted m) l=l++r
 | [],l=>⟨by simp,[],by simp⟩
 | v :: vs,l=>by
  obtain ⟨h1,r,h2⟩:=Ot (m:=m) (vs:=vs) (l:=noted m l v);rw[zd6];have hr:∃ r',noted m l v=l++r':=by
   unfold noted;cases decide (v.tag.time>0)&&(v.tag.place==m && !CB l v.tag)
   ·exact ⟨[],by simp⟩
   ·exact ⟨[v],rfl⟩
  obtain ⟨r',hr'⟩:=hr;refine ⟨λw hw ht hp=>?_,r'++r,by rw[h2,hr',zdv]⟩;rcases zdm.1 hw with rfl | hw
  ·have hx:CB (noted m l w) w.tag=true:=by
    unfold noted;rw[decide_eq_true ht,hp,EI,zdu,zdu];cases hc:CB l w.tag with
    | true=>exact hc
    | false=>exact hasTag_mem.2 ⟨w,by simp,rfl⟩
   obtain ⟨u,hu,e⟩:=hasTag_mem.1 hx;rw[h2];exact hasTag_mem.2 ⟨u,zdQ _ hu,e⟩
  ·exact h1 w hw ht hp
section
variable {p:Place}
theorem I2 (h:Av p=true):Ch p.chain:=chain_iff.1 (AL h).2.2.2.1
theorem zaq (h:Ch p.chain):∀ v∈Eu p.chain,0<v.tag.time->Da v=true:=λv hv ht=>by obtain ⟨z,hz,hi⟩:=h.tail;rw[IQ hz hi] at hv;exact h.ver (.of hz (.inl hv)) ht
theorem Qr (h:Av p=true) (hl:p.log.length<=56):Av (BL p)=true:=by have hc:=I2 h;obtain ⟨h1,h2,h3,h4,h5,h6,h7,h8⟩:=AL h;exact zae (p:=BL p) h1 h2 h3 h4 h5 (TN (zaq hc) h6 (by have:=hc.four.2;omega)) h7 h8
theorem Nn {l':List Node}{f:Bool} (h:Av p=true) (hc:Ch l') (hv:∀ v,inCh l' v->0<v.tag.time->inCh p.chain v\/CD v.past (Bs p.chain)=true)
  (hs:CD (Bs p.chain) (Bs l')=true) (ht:0<=t/\t<=999) (hh:Hp l' t=true):Av ⟨p.me,t,l',p.log,p.got,f⟩=true:=by
 have hc0:=I2 h;obtain ⟨h1,h2,h3,h4,h5,h6,h7,h8⟩:=AL h;refine zae (p:=⟨p.me,t,l',p.log,p.got,f⟩) h1 ht h3 (chain_iff.2 hc) ((R3 hc).2 λv hvc hvt=>?_) h6 h7 hh;have hpl:=D9 (Bx (hc.ver hvc hvt)).2.2.2.1;refine Pj (by rw[hpl,hc0.four.1];exact zdj _) ?_ hs;rcases hv v hvc hvt with g | g
 ·exact (R3 hc0).1 h5 v g hvt
 ·exact g
theorem zby (h:Av p=true):Av (KR p)=true:=by
 have hc:=I2 h;have hp:=hc.pos;unfold KR IG;cases hj:Eg p.chain with
 | false=>rw[cond_false];exact h
 | true =>
  have hl:p.chain.length<4:=by unfold Eg at hj;have:=of_decide_eq_true hj;omega
  obtain ⟨_,e1,e2,e3⟩:=TT hc;have h8:=(AL h).2.2.2.2.2.2.2;rw[cond_true];refine Nn h (hc.join hl) (λv hv _ => .inl (TY hp hv)) (by rw[e1];exact EY) (AL h).2.1 ?_;unfold Hp at h8 ⊢;rw[e3];exact h8
theorem RL {l:List Node} (h:Dj l k=true):∃ f:Nat,k=(f:Int)/\f<l.length/\1<l.length:=by simp only[Dj,Ah,DH,decide_eq_true_eq] at h;exact ⟨k.toNat,by omega,by omega,h.2⟩
theorem zbA (h:Av p=true) (hl:p.log.length<=56):Av (Dx p k)=true:=by
 have hc:=I2 h;unfold Dx;cases hf:CI p k with
 | false=>exact h
 | true =>unfold CI at hf;rw[DH] at hf;obtain ⟨f,rfl,h1,h2⟩:=RL hf.2;rw[cond_true,A7];refine Qr ?_ hl;exact Nn h (hc.fall h1 h2) (λv hv _ => .inl (TZ h1 hv)) (Wq hc h1 h2) (AL h).2.1 (Zx hc h1 h2 (AL h).2.2.2.2.2.2.2)
theorem zbx (h:Av p=true) (hl:p.log.length<=56):Av (Er p k)=true:=by
 have hc:=I2 h;unfold Er;cases hf:Bw p.chain k with
 | false=>exact h
 | true =>rw[cond_true];refine Qr ?_ hl;exact Nn h (hc.pass hf) (λv hv _ => .inl (TX hf hv)) (VW hc hf) (AL h).2.1 (Y7 hc hf (AL h).2.2.2.2.2.2.2)
theorem zaf {v:Ver} (h:Av p=true) (hv:Da v=true) (hr:Dz p.chain 0=true) (hu:CD v.past (Bs p.chain)=true) (h1:p.clock<=t) (h2:v.tag.time<=t) (h3:t<=999):Av (Fe p 0 t v)=true:=by have hc:=I2 h;have hcl:=(AL h).2.1;exact Nn h (hc.add hv hr) (λw hw _=>(Nz hw).imp id λe=>by rw[e];exact hu) (X4 hc hv) ⟨by omega,h3⟩ (zbd hc hv (AL h).2.2.2.2.2.2.2 h1 h2)
theorem zai:t<=FH t c/\c<=FH t c/\(FH t c=t\/FH t c=c):=by unfold FH;split<;>omega
theorem V7 {f:Nat}{v:Ver} (h:Av p=true) (hv:KC p f=some v):Da v=true/\v.tag.place=(f:Int)/\(f:Int)≠p.me/\f<3:=by
 unfold KC at hv;have hm:=List.mem_of_find?_eq_some hv;unfold KT at hm;have h3:=(AL h).2.2.1;cases hg:p.got[f]? with
 | none=>rw[hg] at hm;simp at hm
 | some l =>rw[hg] at hm;simp only at hm;obtain ⟨hf,rfl⟩:=DY hg;have g:=(AL h).2.2.2.2.2.2.1 f hf;unfold RF at g;rw[DH] at g;obtain ⟨i,hi,rfl⟩:=zea.1 hm;obtain ⟨q1,q2,_⟩:=(Hn g.1).2 i hi;refine ⟨q1,q2,λe=>?_,by omega⟩;have:=g.2;rw[e,EI,zei,zeI,decide_eq_true_eq] at this;omega
theorem zbw (h:Av p=true) (hl:p.log.length<=56):Av (Dw p k)=true:=by
 unfold Dw;cases hk:Co p k with
 | false=>exact h
 | true =>
  rw[cond_true];unfold Co at hk;rw[DH] at hk;have hk:=hk.2;unfold JY at hk;unfold Md;cases hv:KC p k.toNat with
  | none=>exact h
  | some v =>rw[hv] at hk;simp only[DH] at hk;obtain ⟨v1,v2,v3,v4⟩:=V7 h hv;have:=IU (Bx v1).2.2.2.2.1;have hcl:=(AL h).2.1;have hn:=zai (t:=v.tag.time) (c:=p.clock);exact Qr (zaf h v1 hk.1 hk.2 hn.2.1 hn.1 (by omega)) hl
theorem TL {g:Bool}{l:List Tag} (h:Av p=true) (hc:A0 p k s g l=true):Da (DX p k s g l)=true:=by
 rw[Lz,DH] at hc;have hm:=hc.2;obtain ⟨h1,h2,h3,h4,h5,h6,h7,h8⟩:=Hy (by rw[Lz,hc.1,hc.2];rfl:A0 p k s g l=true);have ht:=LJ h h4;have hme:=(AL h).1;unfold Da;rw[DH,DH];refine ⟨⟨hc.1,?_⟩,?_⟩
 ·show CY (AI p l) p.me=true;simp[CY,Ah];omega
 ·show decide (E3 l<AI p l)=true;exact decide_eq_true (by omega)
theorem zad {g:Bool}{l:List Tag} (h:Av p=true):Av (En p k s g l).1=true:=by
 rw[MY h];cases hc:A0 p k s g l with
 | false=>exact h
 | true =>obtain ⟨h1,h2,h3,h4,h5,h6,h7,h8⟩:=Hy hc;have ht:=LJ h h4;exact Qr (zaf h (TL h hc) h6 h5 (by omega) (Int.le_refl _) h7) (by show p.log.length<=56;omega)
theorem zbz {f a:Int}{v:Ver} (h:Av p=true):Av (Ed p f a v)=true:=by
 unfold Ed;cases hc:Ez p f a v with
 | false=>exact h
 | true =>
  simp only[Ez,IE,Ah,DH,decide_eq_true_eq,beq_iff_eq,zdV] at hc;obtain ⟨⟨h1,h2⟩,h3,h4,h5,h6,h7,h8⟩:=hc;obtain ⟨q1,q2,q3,q4,q5,q6,q7,q8⟩:=AL h;have hf:f.toNat<p.got.length:=by omega
  have e:((f.toNat:Nat):Int)=f:=by omega
  rw[cond_true];refine zae (p:=Ii p f.toNat v) q1 q2 (by simpa [Ii] using q3) q4 q5 q6 (λi hi=>?_) q8;have hi':i<p.got.length:=by simpa [Ii] using hi
  show RF p.me i ((p.got.set f.toNat (KT p f.toNat ++ [v]))[i]'(by simpa using hi'))=true;rw[List.getElem_set];split
  ·rename_i ei
   subst ei;rw[Hu hf] at h7 h8 ⊢;unfold RF;rw[V6 (Qu h hf) h3 (by omega) h8 (by omega),zdu];rw[beq_eq_false_iff_ne] at h5;rw[beq_eq_false_iff_ne.2 h5];rfl
  ·exact q7 i hi'
end
end Go.Proofs.YtmgopagfoemomaaGreat
