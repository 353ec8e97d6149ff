/- Part 3 of what is shown for the law Gd, whatever the input; no condition of its own. -/
import Derived.Test.YtmgopagfoemomaaGreatBGd2
set_option linter.unusedVariables false
set_option linter.unusedSimpArgs false
set_option linter.unnecessarySimpa false
set_option maxRecDepth 100000
namespace Go.Proofs.YtmgopagfoemomaaGreat
open Go T


variable {α:Type}{f:Int->α->α}{k:Int}{l:List α}
theorem Jz {T:Type}{n:Nat} (L:Nat->Option T) (step:∀ i,i<n->L i=L (i+1)):L 0=L n:=by
 have loop:∀ i,i<=n->L 0=L i:=by
  intro i;induction i with
  | zero=>intro _;rfl
  | succ i ih=>intro hi;rw[ih (by omega),step i (by omega)]
 exact loop n (zfH n)
section
variable {lo:Nat}{ro ro':Bool}{h:Heap}{F F':List Nat}{a a':Pq}{c c':Nq}
theorem FS (x:Int):(x==x)=true:=by simp
theorem zfp (x:Bool):(x==x)=true:=by simp
theorem zfa (x:List UInt8):(x==x)=true:=by simp
theorem ze1 {l:List Tag} (h1:RTags ro h [.sl 2 a l.length c] l F) (h2:RTags ro' h [.sl 2 a' l.length c'] l F') (hn:l.length<=1048576):Af lo 283 [.sl 2 a l.length c,.sl 2 a' l.length c'] h=some (.bool true,h):=by
 refine Vk (h':=h) ?_;rw[FS,Aq];refine (Jz (n:=l.length) (λi=>Eb (List.length h) a l.length c a' l.length c' false (i:Nat) h) λi hi=>?_).trans ?_
 ·obtain ⟨o,rfl,ho⟩:=h1.get hi;obtain ⟨o',rfl,ho'⟩:=h2.get hi;rw[Eb.e,Ak (by omega),Ac hi];simp only[Ae,AW,ho,ho',Ab,Aa,Ag,Ac hi,LI,FS,Ad,Ar,Aq,zho,Am (show i<9223372036854775807 by omega)]
 ·rw[Eb.e,Ai (by omega)]
theorem zdj {l:List Tag} (h1:RTags ro h [.sl 2 a l.length c] l F) (h2:RTags ro' h [.sl 2 a' l.length c'] l F') (hn:l.length<=1048576):Af lo 240 [.agg [.sl 2 a l.length c],.agg [.sl 2 a' l.length c']] h=some (.bool true,h) :=
 Vm (h':=h) (by rw[ze1 h1 h2 hn];simp only[Ad,Ar,Aq])
theorem zeM {v:Ver} (h1:RTags ro h [.sl 2 a v.past.length c] v.past F) (h2:RTags ro' h [.sl 2 a' v.past.length c'] v.past F') (hn:v.past.length<=1048576):Af lo 242 [.agg (v.cs a c),.agg (v.cs a' c')] h=some (.bool true,h) :=
 XX (h':=h) (by simp only[zdj h1 h2 hn,Ad,Ar,Aq,FS,zfp,zfa,LI,zho])
theorem Xn {l:List Ver} (h1:RVers ro h [.sl 6 a l.length c] l F) (h2:RVers ro' h [.sl 6 a' l.length c'] l F') (hn:Ci l):Af lo 238 [.sl 6 a l.length c,.sl 6 a' l.length c'] h=some (.bool true,h):=by
 have hn1:=hn.1;refine Vj (h':=h) ?_;rw[FS,Aq];refine (Jz (n:=l.length) (λi=>Ea (List.length h) a l.length c a' l.length c' false (i:Nat) h) λi hi=>?_).trans ?_
 ·obtain ⟨o,s,b1,c1,G1,rfl,ho,es,hp,_⟩:=h1.get hi;obtain ⟨o',s',b2,c2,G2,rfl,ho',es',hp',_⟩:=h2.get hi;rw[Ea.e,Ak (by omega),Ac hi];simp only[Ae,AW,ho,ho',Ab,Aa,es,es',A4,AB,Ag,Ac hi];rw[zeM hp hp' (hn.2 _ (zfD hi)).1];simp only[Ad,Ar,Aq,Am (show i<9223372036854775807 by omega)]
 ·rw[Ea.e,Ai (by omega)]
theorem zed {l:List (List Ver)} (h1:RVss ro h [.sl 1 a l.length c] l F) (h2:RVss ro' h [.sl 1 a' l.length c'] l F') (hn:VE l):Af lo 239 [.sl 1 a l.length c,.sl 1 a' l.length c'] h=some (.bool true,h):=by
 have hn1:=hn.1;refine T8 (h':=h) ?_;rw[FS,Aq];refine (Jz (n:=l.length) (λi=>Dw (List.length h) a l.length c a' l.length c' false (i:Nat) h) λi hi=>?_).trans ?_
 ·obtain ⟨o,s,b1,c1,G1,rfl,ho,es,hp,_⟩:=h1.get hi;obtain ⟨o',s',b2,c2,G2,rfl,ho',es',hp',_⟩:=h2.get hi;rw[Dw.e,Ak (by omega),Ac hi];simp only[Ae,AW,ho,ho',Ab,es,es',Ag,Ac hi];rw[Xn hp hp' (hn.2 _ (zfD hi))];simp only[Ad,Ar,Aq,Am (show i<9223372036854775807 by omega)]
 ·rw[Dw.e,Ai (by omega)]
theorem zee {l:List Ver} (h1:RVers ro h [.sl 6 a l.length c] l F) (h2:RVers ro' h [.sl 6 a' l.length c'] l F') (hn:Ci l):Af lo 311 [.agg [.sl 6 a l.length c],.agg [.sl 6 a' l.length c']] h=some (.bool true,h) :=
 T9 (h':=h) (by rw[Xn h1 h2 hn];simp only[Ad,Ar,Aq])
theorem zei {l:List Node} (h1:RNodes ro h [.sl 2 a l.length c] l F) (h2:RNodes ro' h [.sl 2 a' l.length c'] l F') (hn:B8 l):Af lo 282 [.sl 2 a l.length c,.sl 2 a' l.length c'] h=some (.bool true,h):=by
 have hn1:=hn.1;refine Uc (h':=h) ?_;rw[FS,Aq];refine (Jz (n:=l.length) (λi=>Dy (List.length h) a l.length c a' l.length c' false (i:Nat) h) λi hi=>?_).trans ?_
 ·obtain ⟨o,s1,s2,a1,c1,a2,c2,G1,G2,rfl,ho,_,_,e1,e2,hp1,hp2,_⟩:=h1.get hi;obtain ⟨o',s1',s2',a1',c1',a2',c2',G1',G2',rfl,ho',_,_,e1',e2',hp1',hp2',_⟩:=h2.get hi;rw[Dy.e,Ak (by omega),Ac hi];simp only[Ae,AW,ho,ho',Ab,e1,e2,e1',e2',Ag,Ac hi];rw[Vn (h':=h) (v := .bool true) (by
   rw[zee hp1 hp1' (hn.2 _ (zfD hi)).1];simp only[Ad,Ar,Aq];rw[Xn hp2 hp2' (hn.2 _ (zfD hi)).2];simp only[Ad,Ar,Aq])]
  simp only[Ad,Ar,Aq,Am (show i<9223372036854775807 by omega)]
 ·rw[Dy.e,Ai (by omega)]
theorem zel {l:List Node} (h1:RNodes ro h [.sl 2 a l.length c] l F) (h2:RNodes ro' h [.sl 2 a' l.length c'] l F') (hn:B8 l):Af lo 237 [.agg [.sl 2 a l.length c],.agg [.sl 2 a' l.length c']] h=some (.bool true,h) :=
 Uf (h':=h) (by rw[zei h1 h2 hn];simp only[Ad,Ar,Aq])
theorem zeg {p:Place}{a1 a2 a3 a1' a2' a3':Pq}{c1 c2 c3 c1' c2' c3':Nq} (h1:RPlace ro h (p.cs a1 c1 a2 c2 a3 c3) p F) (h2:RPlace ro' h (p.cs a1' c1' a2' c2' a3' c3') p F') (hn:Ef p) :
  Af lo 165 [.agg (p.cs a1 c1 a2 c2 a3 c3),.agg (p.cs a1' c1' a2' c2' a3' c3')] h=some (.bool true,h):=by
 obtain ⟨_,_,_,_,_,_,e1,_,r1,r2,r3⟩:=h1;obtain ⟨_,_,_,_,_,_,e2,_,q1,q2,q3⟩:=h2;injection e1 with _ e1;injection e1 with _ e1;injection e1 with x1 e1;injection e1 with x2 e1;injection e1 with x3 e1;injection e2 with _ e2;injection e2 with _ e2;injection e2 with y1 e2;injection e2 with y2 e2;injection e2 with y3 e2;subst x1;subst x2;subst x3;subst y1;subst y2;subst y3;refine Ub (h':=h) ?_;rw[zel r1 q1 hn.1];simp only[Ad,Ar,Aq,FS];rw[Xn r2 q2 hn.2.1];simp only[Ad,Ar,Aq];rw[zed r3 q3 hn.2.2];simp only[Ad,Ar,Aq,zfp]
abbrev Frame.cs (f:Frame) (a:Pq) (c:Nq):List V := Iv f.fro :: Iv f.to :: Iv f.at' :: f.ver.cs a c
theorem zej {f:Frame} (h1:RTags ro h [.sl 2 a f.ver.past.length c] f.ver.past F) (h2:RTags ro' h [.sl 2 a' f.ver.past.length c'] f.ver.past F') (hn:f.ver.past.length<=1048576):Af lo 167 [.agg (f.cs a c),.agg (f.cs a' c')] h=some (.bool true,h) :=
 Ud (h':=h) (by rw[zeM h1 h2 hn];simp only[Ad,Ar,Aq,FS])
end
def B6 {α:Type} (f:Int->α->α) (w:α->Nat):List α->Int->List α
 | [],_ => []
 | x :: r,k=>f k x :: B6 f w r (k+w x)
def BD {α:Type} (w:α->Nat) (l:List α):Nat:=(l.map w).sum
theorem Bw {α:Type}{f:Int->α->α}{w:α->Nat}:∀ {l:List α}{k:Int},(B6 f w l k).length=l.length
 | [],k=>rfl
 | x :: l,k=>by simp[B6,Bw]
theorem SM {α:Type}{f:Int->α->α}{w:α->Nat}:∀ {l:List α}{k:Int}{x:α},B6 f w (l ++ [x]) k=B6 f w l k ++ [f (k+BD w l) x]
 | [],k,x=>by simp[B6,BD]
 | y :: l,k,x=>by simp only[zf9,B6];rw[SM];simp only[BD,zgV,zhh];rw[show k+(w y:Int)+((l.map w).sum:Nat)=k+((w y+(l.map w).sum:Nat):Int) by omega]
theorem zcX {w:α->Nat}{x:α}:BD w (l ++ [x])=BD w l+w x:=by simp[BD]
theorem Gn {w:α->Nat}{i:Nat} (hi:i<l.length):BD w (l.take (i+1))=BD w (l.take i)+w l[i]:=by rw[List.take_add_one,EM hi];exact zcX
theorem KJ {α:Type}{w:α->Nat}:∀ {l:List α}{i:Nat},BD w (l.take i)<=BD w l
 | [],i=>by simp
 | x :: l,0=>by simp[BD]
 | x :: l,i+1=>by have:=KJ (w:=w) (l:=l) (i:=i);simp only[BD,List.take_succ_cons,zgV,zhh] at this ⊢;omega
theorem Z7 {w:α->Nat}{i:Nat} (hi:i<l.length):B6 f w (l.take (i+1)) k=B6 f w (l.take i) k ++ [f (k+BD w (l.take i)) l[i]]:=by rw[List.take_add_one,EM hi];exact SM
theorem GE {α:Type}{f:Int->α->α}{w:α->Nat}:∀ {l:List α}{k:Int}{i:Nat} (hi:i<l.length) (hi':i<(B6 f w l k).length),(B6 f w l k)[i]=f (k+BD w (l.take i)) l[i]
 | x :: l,k,0,_,_=>by simp[B6,BD]
 | x :: l,k,i+1,hi,hi'=>by simp only[B6,List.getElem_cons_succ,List.take_succ_cons];rw[GE (by simpa using hi) (by simpa [B6] using hi')];simp only[BD,zgV,zhh];rw[show k+(w x:Int)+(((l.take i).map w).sum:Nat)=k+((w x+((l.take i).map w).sum:Nat):Int) by omega]
theorem HI {El:Rel α} (ok:El.Ok) {w:α->Nat}{R R' e n:Nat}{a:Pq}{c:Nq}{F:List Nat}{h:Heap}{B:Int} (L:Int->Nat->Heap->Ov)
  (step:∀ i k hh x b j rs row G,a=some (b,j)->b∈F->b∉G->G.Nodup->(∀ y∈G,y∈F)->hh[b]?=some (.rows R e false rs)->rs[j+i]?=some row->El hh row x G->x∈l->i<n->0<=k->k+w x<=B ->
   ∃ h2 row',L k i hh=L (k+w x) (i+1) h2/\h2[b]?=some (.rows R e false (rs.set (j+i) row'))/\El h2 row' (f k x) G/\(∀ y,y≠b->y∉G->h2[y]?=hh[y]?)/\h2.length=hh.length)
  (done:∀ k hh,L k n hh=some (Iv k,hh)) (hs:Sli false R e El h [.sl R' a n c] l F) (hnd:F.Nodup) (h0:0<=k) (hB:k+BD w l<=B) :
  ∃ h',L k 0 h=some (Iv (k+BD w l),h')/\Sli false R e El h' [.sl R' a n c] (B6 f w l k) F/\h'.length=h.length/\Mv h F h' F:=by
 have hlen:=hs.val;have loop:∀ m i hh,m+i=l.length->Sli false R e El hh [.sl R' a n c] (B6 f w (l.take i) k++l.drop i) F->hh.length=h.length->(∀ y,y∉F->hh[y]?=h[y]?) ->
   ∃ h',L (k+BD w (l.take i)) i hh=some (Iv (k+BD w l),h')/\Sli false R e El h' [.sl R' a n c] (B6 f w l k) F/\h'.length=h.length/\Mv h F h' F:=by
  intro m;induction m with
  | zero =>
   intro i hh hi hr h1 h2;have:i=l.length:=by omega
   subst this;rw[zhm,List.drop_length,zgc] at hr;rw[zhm,<- hlen,done];exact ⟨hh,rfl,hr,h1,Nat.le_of_eq h1.symm,λb _ hb=>h2 b hb,hnd,λb hb => .inl hb⟩
  | succ m ih =>
   intro i hh hi hr h1 h2;have hlt:i<l.length:=by omega
   have hml:(B6 f w (l.take i) k).length=i:=by rw[Bw];simp;omega
   have hcur:(B6 f w (l.take i) k++l.drop i)[i]'(by rw[zfR,hml];simp;omega)=l[i]:=by rw[zht (by omega)];simp[hml]
   obtain ⟨b,j,rs,row,G,rfl,hbF,hbG,hb,hrow,hel,hGF,hGn,hput⟩:=Sli.put ok.fr hr (show i<_ by rw[zfR,hml];simp;omega) hnd;rw[hcur] at hel;have hle:=KJ (w:=w) (l:=l) (i:=i+1);rw[Gn hlt] at hle;obtain ⟨h3,row',e3,b3,r3,f3,l3⟩:=step i (k+BD w (l.take i)) hh l[i] b j rs row G rfl hbF hbG hGn hGF hb hrow hel (zfD hlt) (by omega) (by omega) (by omega);obtain ⟨F',q1,_,_,q4⟩:=hput h3 row' _ G b3 (λy _ hyb hyG=>f3 y hyb hyG) r3 hGn (λy hy _=>hy);rw[q4 rfl] at q1;rw[e3,show k+(BD w (l.take i):Int)+(w l[i]:Int)=k+((BD w (l.take (i+1)):Nat):Int) by rw[Gn hlt];omega];refine ih (i+1) h3 (by omega) ?_ (by omega) λy hy=>?_
   ·have e:(B6 f w (l.take i) k++l.drop i).set i (f (k+BD w (l.take i)) l[i])=B6 f w (l.take (i+1)) k++l.drop (i+1):=by rw[zgQ _ _ (by omega),hml,zhl,zfT hlt,zhr,Z7 hlt,zfS,List.singleton_append]
    rw[<- e];exact q1
   ·rw[f3 y (λe=>hy (e ▸ hbF)) (λhm=>hy (hGF y hm))];exact h2 y hy
 have:=loop l.length 0 h (by omega) (by simpa [B6] using hs) rfl (λ_ _=>rfl);simpa [BD] using this
theorem HL {T:Type}{w:α->Nat} (L:Int->Nat->Option T)
  (step:∀ i (hi:i<l.length),L (k+BD w (l.take i)) i=L (k+BD w (l.take i)+w l[i]) (i+1)):L k 0=L (k+BD w l) l.length:=by
 have:=Jz (n:=l.length) (λi=>L (k+BD w (l.take i)) i) λi hi=>by rw[step i hi,Gn hi,show k+(BD w (l.take i):Int)+(w l[i]:Int)=k+((BD w (l.take i)+w l[i]:Nat):Int) by omega]
 simpa [BD] using this


variable {l:List Ver}
abbrev Gd:Int:=1099511627776
def zdN (k:Int) (s:ByteArray):Prop:=∀ (lo:Nat) (h:Heap),Af lo 88 [Iv k] h=some (.str s,h)
theorem Uw:∀ (n:Nat) (k:Int) (s:ByteArray),0<=k->k<=n->k<=Gd->s.size+k<=2*Gd->∃ t,∀ (lo:Nat) (h:Heap),∃ h',Cv lo k s h=some (.str t,h'):=by
 intro n;induction n with
 | zero =>
  intro k s h0 h1 h2 h3;have:k=0:=by omega
  subst this;have hm:IntKind.i64.max=9223372036854775807:=by decide
  refine ⟨⟨⟨[109]⟩⟩++s,λlo h=>⟨h,?_⟩⟩;rw[Cv.e,Ai (by omega),Ij (by have h9:(ByteArray.mk ⟨[109]⟩).size=1:=rfl;simp only[Gd] at h3;omega)]
 | succ n ih =>
  intro k s h0 h1 h2 h3;have hm:IntKind.i64.max=9223372036854775807:=by decide
  by_cases hk:k=0
  ·subst hk;refine ⟨⟨⟨[109]⟩⟩++s,λlo h=>⟨h,?_⟩⟩;rw[Cv.e,Ai (by omega),Ij (by have h9:(ByteArray.mk ⟨[109]⟩).size=1:=rfl;simp only[Gd] at h3;omega)]
  ·have hd:k.tdiv 10=k / 10:=Int.tdiv_eq_ediv_of_nonneg h0;have hsz:(I8 [IntKind.wrap .u8 (Ap (48+(k.tmod (10:Int))))]).size=1:=rfl;have hsz2:(I8 [IntKind.wrap .u8 (Ap (48+(k.tmod (10:Int))))]++s).size=1+s.size:=by rw[ByteArray.size_append,hsz]
   obtain ⟨t,ht⟩:=ih (k / 10) (I8 [IntKind.wrap .u8 (Ap (48+(k.tmod (10:Int))))]++s) (by omega) (by omega) (by omega) (by rw[hsz2];push_cast;omega);refine ⟨t,λlo h=>?_⟩;obtain ⟨h',e⟩:=ht lo (h ++ [.rows 1 5 false [[.int .u8 (IntKind.wrap .u8 (Ap (48+(k.tmod (10:Int)))))]]]);refine ⟨h',?_⟩;rw[Cv.e,Ak (by omega)];simp only[A2,Gr,Ae];rw[Ij (by rw[hsz];simp only[Gd] at h3;omega),hd,wr (by simp only[Gd] at h2;omega) (by simp only[Gd] at h2;omega)];exact e
theorem zeR {k:Int} (h0:0<=k) (h1:k<=Gd):∃ s,zdN k s:=by
 by_cases hk:k<=0
 ·exact ⟨_,λlo h=>L3 (h':=h) (by rw[Ak hk])⟩
 ·obtain ⟨t,ht⟩:=Uw k.toNat k ⟨⟨[]⟩⟩ h0 (by omega) h1 (by simp only[Gd] at h1 ⊢;show ((0:Nat):Int)+k<=_;omega);refine ⟨t,λlo h=>?_⟩;obtain ⟨h',e⟩:=ht (List.length h) h;exact L3 (h':=h') (by rw[Ai hk];exact e)
open Classical in
noncomputable def JQ (k:Int):ByteArray:=if h:∃ s,zdN k s then h.choose else ⟨⟨[]⟩⟩
theorem I4 {lo:Nat}{h:Heap}{k:Int} (h0:0<=k) (h1:k<=Gd):Af lo 88 [Iv k] h=some (.str (JQ k),h):=by have hx:=zeR h0 h1;unfold JQ;rw[dif_pos hx];exact hx.choose_spec lo h
def OJ (k:Int) (_:Tag):Tag:=⟨k,k+1⟩
abbrev Dg (_:Tag):Nat:=2
noncomputable def Mn (k:Int) (v:Ver):Ver:=⟨k,⟨k+1,k+2⟩,B6 OJ Dg v.past (k+3),JQ (k+3+BD Dg v.past),(k+3+BD Dg v.past+1).tmod 3==0⟩
def Nm (v:Ver):Nat:=5+BD Dg v.past
noncomputable def IJ (k:Int) (l:List Ver):List Ver:=B6 Mn Nm l k
def CU (l:List Ver):Nat:=BD Nm l
noncomputable def PW (k:Int) (x:Node):Node:=⟨IJ k x.store,IJ (k+CU x.store) x.wait⟩
def KT (x:Node):Nat:=CU x.store+CU x.wait
section
variable {lo:Nat}{h:Heap}{F:List Nat}{a:Pq}{c:Nq}{k:Int}
theorem KK {l:List Tag} (hs:RTags false h [.sl 2 a l.length c] l F) (hlo:∀ b∈F,lo<=b) (hnd:F.Nodup) (h0:0<=k) (hB:k+BD Dg l<=Gd) (hn:l.length<=1048576) :
  ∃ h',Af lo 172 [.sl 2 a l.length c,Iv k] h=some (Iv (k+BD Dg l),h')/\RTags false h' [.sl 2 a l.length c] (B6 OJ Dg l k) F/\h'.length=h.length/\Mv h F h' F:=by
 obtain ⟨h',e,r⟩:=HI (El:=flat Tag.cs) EG (f:=OJ) (w:=Dg) (B:=Gd) (λk i hh=>C7 lo a l.length c k (i:Nat) hh) (λi k hh x b j rs row G ha hbF hbG hGn hGF hb hrow hel hx hi h0 hB=>by
  obtain ⟨rfl,rfl⟩:=hel;subst ha;have hrl:j+i<rs.length:=(Ga hrow).1;have hbl:b<hh.length:=(Ga hb).1;have hlob:=hlo b hbF;refine ⟨hh.set b (.rows 2 (zdm false) false (rs.set (j+i) [Iv k,Iv (k+1)])),[Iv k,Iv (k+1)],?_,by simp[hbl],⟨rfl,rfl⟩,λy hy _=>zfJ (Ne.symm hy),by simp⟩;simp only[Gd] at hB;rw[C7.e,Ak (by omega),Ac hi];simp only[Ae,AW];rw[B4 hb hlob hrow (row' := [Iv k,Iv x.place]) (by rfl),Ae,Ac hi,wr (n:=k+1) (by omega) (by omega)];rw[Ee hbl hlob hrl (row' := [Iv k,Iv (k+1)]) (by rfl),Ae,wr (n:=k+1+1) (by omega) (by omega),Am (by omega),show k+1+1=k+((2:Nat):Int) by omega]) (λk hh=>by
  rw[C7.e,Ai (by omega)]) hs hnd h0 hB
 exact ⟨h',RL e,r⟩
theorem KL {l:List Tag} (hs:RTags false h [.sl 2 a l.length c] (B6 OJ Dg l k) F) (h0:0<=k) (hB:k+BD Dg l<=Gd) (hn:l.length<=1048576) :
  Af lo 176 [.sl 2 a l.length c,Iv k] h=some (Iv (k+BD Dg l),h):=by
 refine RN (h':=h) ?_;refine (HL (w:=Dg) (l:=l) (k:=k) (λk i=>C8 (List.length h) a l.length c k 0 (i:Nat) h) λi hi=>?_).trans ?_
 ·have hi':i<(B6 OJ Dg l k).length:=by rw[Bw];exact hi
  obtain ⟨o,row,G,rfl,ho,⟨rfl,_⟩,_⟩:=hs.read hi';have hle:=KJ (w:=Dg) (l:=l) (i:=i+1);rw[Gn hi] at hle;rw[GE hi] at ho;generalize hk':k+(BD Dg (l.take i):Int)=k' at ho ⊢;simp only[Gd] at hB;have hw:Dg l[i]=2:=rfl;rw[hw] at hle ⊢;rw[C8.e,Ak (by omega),Ac hi,wr (n:=k'+1) (by omega) (by omega),wr (n:=k'+1+1) (by omega) (by omega),Am (by omega)];simp only[Ae,AW,ho,Tag.cs,OJ,cut,Ab,Aa,Ag,FS,Aq,Ac hi];rw[show k'+1+1=k'+((2:Nat):Int) by omega]
 ·rw[C8.e,Ai (by omega)]
theorem I3 (hs:RVers false h [.sl 6 a l.length c] l F) (hlo:∀ b∈F,lo<=b) (hnd:F.Nodup) (h0:0<=k) (hB:k+CU l<=Gd) (hn:Ci l) :
  ∃ h',Af lo 170 [.sl 6 a l.length c,Iv k] h=some (Iv (k+CU l),h')/\RVers false h' [.sl 6 a l.length c] (IJ k l) F/\h'.length=h.length/\Mv h F h' F:=by
 have hn1:=hn.1;obtain ⟨h',e,r⟩:=HI (El:=RVer false) rver_ok (f:=Mn) (w:=Nm) (B:=Gd) (λk i hh=>Cu lo a l.length c k (i:Nat) hh) (λi k hh x b j rs row G ha hbF hbG hGn hGF hb hrow hel hx hi h0 hB=>by
  obtain ⟨s,rfl,hp0⟩:=hel;obtain ⟨a2,c2,es,hp⟩:=hp0.form;subst ha;have hrl:j+i<rs.length:=(Ga hrow).1;have hbl:b<hh.length:=(Ga hb).1;have hlob:=hlo b hbF;have hw:Nm x=5+BD Dg x.past:=rfl;rw[hw] at hB;simp only[Gd] at hB;have hb3:(hh.set b (.rows 6 (J0 false) false (rs.set (j+i) [Iv k,Iv (k+1),Iv (k+1+1),s,.str x.text,.bool x.gone])))[b]?=some (.rows 6 (J0 false) false (rs.set (j+i) [Iv k,Iv (k+1),Iv (k+1+1),s,.str x.text,.bool x.gone])):=by simp[hbl]
  have hp3:RTags false (hh.set b (.rows 6 (J0 false) false (rs.set (j+i) [Iv k,Iv (k+1),Iv (k+1+1),s,.str x.text,.bool x.gone]))) [.sl 2 a2 x.past.length c2] x.past G:=rtags_ok.fr _ _ _ _ _ hp (λy hy=>zfJ (by rintro rfl;exact hbG hy));obtain ⟨h4,e4,r4,l4,m4⟩:=KK (lo:=lo) (k:=k+3) hp3 (λy hy=>hlo y (hGF y hy)) hGn (by omega) (by simp only[Gd];omega) (hn.2 x hx).1;have hb4:h4[b]?=some (.rows 6 (J0 false) false (rs.set (j+i) [Iv k,Iv (k+1),Iv (k+1+1),s,.str x.text,.bool x.gone])):=by rw[m4.fr b (by simpa using hbl) hbG];exact hb3
  have hbl4:b<h4.length:=(Ga hb4).1;have hrow4:(rs.set (j+i) [Iv k,Iv (k+1),Iv (k+1+1),s,.str x.text,.bool x.gone])[j+i]?=some [Iv k,Iv (k+1),Iv (k+1+1),s,.str x.text,.bool x.gone]:=by simp[hrl]
  refine ⟨h4.set b (.rows 6 (J0 false) false (rs.set (j+i) [Iv k,Iv (k+1),Iv (k+1+1),s,.str (JQ (k+3+BD Dg x.past)),.bool ((k+3+BD Dg x.past+1).tmod 3==0)])),
   [Iv k,Iv (k+1),Iv (k+1+1),s,.str (JQ (k+3+BD Dg x.past)),.bool ((k+3+BD Dg x.past+1).tmod 3==0)],?_,by simp[hbl4],?_,λy hy hyG=>?_,by simpa using l4⟩
  ·rw[Cu.e,Ak (by omega),Ac hi];simp only[Ae,AW];rw[B4 hb hlob hrow (row' := [Iv k,Iv x.tag.time,Iv x.tag.place,s,.str x.text,.bool x.gone]) (by rfl),Ae,Ac hi,wr (n:=k+1) (by omega) (by omega)];rw[Ee hbl hlob hrl (row' := [Iv k,Iv (k+1),Iv x.tag.place,s,.str x.text,.bool x.gone]) (by rfl),Ae,Ac hi,wr (n:=k+1+1) (by omega) (by omega)];rw[Ee hbl hlob hrl (row' := [Iv k,Iv (k+1),Iv (k+1+1),s,.str x.text,.bool x.gone]) (by rfl),Ae,Ac hi];have hld:ld (hh.set b (.rows 6 (J0 false) false (rs.set (j+i) [Iv k,Iv (k+1),Iv (k+1+1),s,.str x.text,.bool x.gone]))) b (j+i) 3 1=some [s]:=by simp only[ld,Heap.rows?,hb3,zf1,hrow4];rfl
   rw[hld,wr (n:=k+1+1+1) (by omega) (by omega),show k+1+1+1=k+3 by omega];simp only[Ae,Ab,Ag,es];rw[e4];simp only[Ad,Aa];rw[I4 (by omega) (by simp only[Gd];omega)];simp only[Ad,A4];rw[Ac hi,B4 hb4 hlob hrow4 (row' := [Iv k,Iv (k+1),Iv (k+1+1),s,.str (JQ (k+3+BD Dg x.past)),.bool x.gone]) (by rfl),Ae,zgv];rw[wr (n:=k+3+BD Dg x.past+1) (by omega) (by omega),wr (n:=k+3+BD Dg x.past+1+1) (by omega) (by omega),Am (by omega),Ac hi];rw[show k+((Nm x:Nat):Int)=k+3+BD Dg x.past+1+1 by rw[hw];omega];cases hg:((k+3+BD Dg x.past+1).tmod 3==0)
   ·rw[Ay,Ac hi,Ee hbl4 hlob hrl (row' := [Iv k,Iv (k+1),Iv (k+1+1),s,.str (JQ (k+3+BD Dg x.past)),.bool false]) (by rfl),Ae]
   ·rw[Aq,Ee hbl4 hlob hrl (row' := [Iv k,Iv (k+1),Iv (k+1+1),s,.str (JQ (k+3+BD Dg x.past)),.bool true]) (by rfl),Ae]
  ·refine ⟨s,by simp only[Mn];rw[show k+1+1=k+2 by omega],?_⟩;have hr5:RTags false (h4.set b (.rows 6 (J0 false) false (rs.set (j+i) [Iv k,Iv (k+1),Iv (k+1+1),s,.str (JQ (k+3+BD Dg x.past)),.bool ((k+3+BD Dg x.past+1).tmod 3==0)]))) [.sl 2 a2 x.past.length c2] (B6 OJ Dg x.past (k+3)) G:=rtags_ok.fr _ _ _ _ _ r4 (λy hy=>zfJ (by rintro rfl;exact hbG hy));exact Sli.same hp0 es hr5
  ·rw[zfJ (Ne.symm hy),m4.fr' l4 y hyG,zfJ (Ne.symm hy)]) (λk hh=>by
  rw[Cu.e,Ai (by omega)]) hs hnd h0 hB
 exact ⟨h',RK e,r⟩
theorem RVers.get1 {n:Nat}{i:Nat}{ro:Bool} (hs:RVers ro h [.sl 6 a n c] l F) (hi:i<l.length):∃ o s a' c' G,a=some o/\ld h o.1 (o.2+i) 0 1=some [Iv l[i].key]/\ld h o.1 (o.2+i) 1 1=some [Iv l[i].tag.time] /\
  ld h o.1 (o.2+i) 2 1=some [Iv l[i].tag.place]/\ld h o.1 (o.2+i) 3 1=some [s]/\ld h o.1 (o.2+i) 4 1=some [.str l[i].text]/\ld h o.1 (o.2+i) 5 1=some [.bool l[i].gone]/\ld h o.1 (o.2+i) 1 2=some [Iv l[i].tag.time,Iv l[i].tag.place] /\
  (∀ {R':Type} (K:Pq->Nat->Nq->Option R'),eS 2 s K=K a' l[i].past.length c')/\RTags ro h [.sl 2 a' l[i].past.length c'] l[i].past G/\(∀ b∈G,b∈F):=by
 obtain ⟨o,row,G,h1,h2,hv,hG,_⟩:=hs.read hi;obtain ⟨s,a',c',rfl,es,hp⟩:=hv.form;exact ⟨o,s,a',c',G,h1,by rw[h2];rfl,by rw[h2];rfl,by rw[h2];rfl,by rw[h2];rfl,by rw[h2];rfl,by rw[h2];rfl,by rw[h2];rfl,es,hp,hG⟩
theorem I5 (hs:RVers false h [.sl 6 a l.length c] (IJ k l) F) (h0:0<=k) (hB:k+CU l<=Gd) (hn:Ci l) :
  Af lo 174 [.sl 6 a l.length c,Iv k] h=some (Iv (k+CU l),h):=by
 have hn1:=hn.1;refine RM (h':=h) ?_;refine (HL (w:=Nm) (l:=l) (k:=k) (λk i=>Cw (List.length h) a l.length c k 0 (i:Nat) h) λi hi=>?_).trans ?_
 ·have hi':i<(IJ k l).length:=by unfold IJ;rw[Bw];exact hi
  obtain ⟨o,s,a2,c2,G,rfl,ho0,ho1,ho2,ho3,ho4,ho5,_,es,hp,_⟩:=hs.get1 hi';have hle:=KJ (w:=Nm) (l:=l) (i:=i+1);rw[Gn hi] at hle;have hel:(IJ k l)[i]=Mn (k+BD Nm (l.take i)) l[i]:=by unfold IJ;exact GE hi _
  have hpl:=(hn.2 _ (zfD hi)).1;rw[hel] at ho0 ho1 ho2 ho4 ho5;have hp':RTags false h [.sl 2 a2 l[i].past.length c2] (B6 OJ Dg l[i].past (k+BD Nm (l.take i)+3)) G:=by rw[hel] at hp;simp only[Mn,Bw] at hp;exact hp
  have es':∀ {R':Type} (K:Pq->Nat->Nq->Option R'),eS 2 s K=K a2 l[i].past.length c2:=by intro R' K;rw[es K,hel];simp only[Mn,Bw]
  unfold CU at hB;generalize hk':k+(BD Nm (l.take i):Int)=k' at *
  simp only[Gd] at hB;have hw:Nm l[i]=5+BD Dg l[i].past:=rfl;rw[hw] at hle ⊢;rw[Cw.e,Ak (by omega),Ac hi];simp only[Mn] at ho0 ho1 ho2 ho4 ho5;simp only[Ae,AW,ho0,ho1,ho2,ho3,Ab,Aa,Ag,es',FS,Aq,Ac hi];rw[wr (n:=k'+1) (by omega) (by omega),FS,Aq,wr (n:=k'+1+1) (by omega) (by omega),show k'+1+1=k'+2 by omega,FS,Aq,wr (n:=k'+2+1) (by omega) (by omega),show k'+2+1=k'+3 by omega];rw[KL hp' (by omega) (by simp only[Gd];omega) hpl];simp only[Ad,Aa];rw[Ai (by omega),I4 (by omega) (by simp only[Gd];omega)];simp only[Ae,AW,ho4,ho5,Ab,Ag,Ad,A4,zfa,Aq,Ar];rw[wr (n:=k'+3+BD Dg l[i].past+1) (by omega) (by omega),wr (n:=k'+3+BD Dg l[i].past+1+1) (by omega) (by omega),Am (by omega)];rw[show k'+((5+BD Dg l[i].past:Nat):Int)=k'+3+BD Dg l[i].past+1+1 by omega];cases ((k'+3+BD Dg l[i].past+1).tmod 3==0)<;>simp only[Aq,Ay]
 ·rw[Cw.e,Ai (by omega)];rfl
noncomputable def Q2 (k:Int) (l:List (List Ver)):List (List Ver):=B6 IJ CU l k
def NK (l:List (List Ver)):Nat:=BD CU l
noncomputable def Ki (k:Int) (l:List Node):List Node:=B6 PW KT l k
def EW (l:List Node):Nat:=BD KT l
theorem CW {k:Int}:(IJ k l).length=l.length:=Bw
theorem ST {l:List (List Ver)} (hs:RVss false h [.sl 1 a l.length c] l F) (hlo:∀ b∈F,lo<=b) (hnd:F.Nodup) (h0:0<=k) (hB:k+NK l<=Gd) (hn:VE l) :
  ∃ h',Af lo 171 [.sl 1 a l.length c,Iv k] h=some (Iv (k+NK l),h')/\RVss false h' [.sl 1 a l.length c] (Q2 k l) F/\h'.length=h.length/\Mv h F h' F:=by
 have hn1:=hn.1;obtain ⟨h',e,r⟩:=HI (El:=RVers false) rvers_ok (f:=IJ) (w:=CU) (B:=Gd) (λk i hh=>CA lo a l.length c k (i:Nat) hh) (λi k hh x b j rs row G ha hbF hbG hGn hGF hb hrow hel hx hi h0 hB=>by
  have:∃ s,row = [s]:=by obtain ⟨R',a',c',e,_⟩:=hel;exact ⟨_,e⟩
  obtain ⟨s,rfl⟩:=this;obtain ⟨a2,c2,es,hp⟩:=hel.form;subst ha;obtain ⟨h4,e4,r4,l4,m4⟩:=I3 (lo:=lo) hp (λy hy=>hlo y (hGF y hy)) hGn h0 hB (hn.2 x hx);have hld:ld hh b (j+i) 0 1=some [s]:=by simp only[ld,Heap.rows?,hb,zf1,hrow];rfl
  rw[<- CW (k:=k)] at r4;refine ⟨h4,[s],?_,by rw[set_same hrow,m4.fr' l4 b hbG];exact hb,Sli.same hel (by rw[CW];exact es) r4,λy _ hyG=>m4.fr' l4 y hyG,l4⟩;rw[CA.e,Ak (by omega),Ac hi];simp only[Ae,AW,hld,Ab,Ag,es];rw[e4];simp only[Ad,Aa,Am (show i<9223372036854775807 by omega)]) (λk hh=>by
  rw[CA.e,Ai (by omega)]) hs hnd h0 hB
 exact ⟨h',Qp e,r⟩
theorem SY {l:List (List Ver)} (hs:RVss false h [.sl 1 a l.length c] (Q2 k l) F) (h0:0<=k) (hB:k+NK l<=Gd) (hn:VE l) :
  Af lo 175 [.sl 1 a l.length c,Iv k] h=some (Iv (k+NK l),h):=by
 have hn1:=hn.1;refine Qu (h':=h) ?_;refine (HL (w:=CU) (l:=l) (k:=k) (λk i=>CE (List.length h) a l.length c k 0 (i:Nat) h) λi hi=>?_).trans ?_
 ·have hi':i<(Q2 k l).length:=by unfold Q2;rw[Bw];exact hi
  obtain ⟨o,s,a2,c2,G,rfl,ho,es,hp,_⟩:=hs.get hi';have hle:=KJ (w:=CU) (l:=l) (i:=i+1);rw[Gn hi] at hle;have hel:(Q2 k l)[i]=IJ (k+BD CU (l.take i)) l[i]:=by unfold Q2;exact GE hi _
  rw[hel,CW] at hp;have es':∀ {R':Type} (K:Pq->Nat->Nq->Option R'),eS 6 s K=K a2 l[i].length c2:=by intro R' K;rw[es K,hel,CW]
  unfold NK at hB;generalize hk':k+(BD CU (l.take i):Int)=k' at *
  rw[CE.e,Ak (by omega),Ac hi];simp only[Ae,AW,ho,Ab,Ag,es'];rw[I5 hp (by omega) (by omega) (hn.2 _ (zfD hi))];simp only[Ad,Aa,Am (show i<9223372036854775807 by omega)];rw[Ai (by omega)]
 ·rw[CE.e,Ai (by omega)];rfl
end


variable {l:List Node}
section
variable {lo:Nat}{h:Heap}{F:List Nat}{a:Pq}{c:Nq}{k:Int}
theorem SW (hs:RNodes false h [.sl 2 a l.length c] l F) (hlo:∀ b∈F,lo<=b) (hnd:F.Nodup) (h0:0<=k) (hB:k+EW l<=Gd) (hn:B8 l) :
  ∃ h',Af lo 169 [.sl 2 a l.length c,Iv k] h=some (Iv (k+EW l),h')/\RNodes false h' [.sl 2 a l.length c] (Ki k l) F/\h'.length=h.length/\Mv h F h' F:=by
 have hn1:=hn.1;obtain ⟨h',e,r⟩:=HI (El:=RNode false) rnode_ok (f:=PW) (w:=KT) (B:=Gd) (λk i hh=>CC lo a l.length c k (i:Nat) hh) (λi k hh x b j rs row G ha hbF hbG hGn hGF hb hrow hel hx hi h0 hB=>by
  obtain ⟨s1,s2,F1,F2,rfl,rfl,p1,p2⟩:=hel;obtain ⟨a1,c1,e1,q1⟩:=p1.form;obtain ⟨a2,c2,e2,q2⟩:=p2.form;subst ha;have hsm:=hn.2 x hx;have hw:KT x=CU x.store+CU x.wait:=rfl;rw[hw] at hB;rw[zfG] at hGn;have d12:∀ y∈F2,y∉F1:=λy h2 h1=>hGn.2.2 y h1 y h2 rfl;have d21:∀ y∈F1,y∉F2:=λy h1 h2=>hGn.2.2 y h1 y h2 rfl;have hbG1:b∉F1:=λhm=>hbG (zgN _ hm);have hbG2:b∉F2:=λhm=>hbG (zgP _ hm);obtain ⟨h4,e4,r4,l4,m4⟩:=I3 (lo:=lo) q1 (λy hy=>hlo y (hGF y (zgN _ hy))) hGn.1 h0 (by omega) hsm.1;have q2':=m4.keep rvers_ok q2 d12;obtain ⟨h5,e5,r5,l5,m5⟩:=I3 (lo:=lo) (k:=k+CU x.store) q2' (λy hy=>hlo y (hGF y (zgP _ hy))) hGn.2.1 (by omega) (by omega) hsm.2;have hld:ld hh b (j+i) 0 1=some [s1]:=by simp only[ld,Heap.rows?,hb,zf1,hrow];rfl
  have hb4:h4[b]?=some (.rows 2 (O5 false) false rs):=by rw[m4.fr' l4 b hbG1];exact hb
  have hld4:ld h4 b (j+i) 1 1=some [s2]:=by simp only[ld,Heap.rows?,hb4,zf1,hrow];rfl
  have r4':=m5.keep rvers_ok r4 d21;rw[<- CW (k:=k)] at r4';rw[<- CW (k:=k+CU x.store)] at r5;refine ⟨h5,[s1,s2],?_,by rw[set_same hrow,m5.fr' l5 b hbG2];exact hb4,⟨s1,s2,F1,F2,rfl,rfl,Sli.same p1 (by rw[CW];exact e1) r4',Sli.same p2 (by rw[CW];exact e2) r5⟩,
   λy _ hyG=>?_,by omega⟩
  ·rw[CC.e,Ak (by omega),Ac hi];simp only[Ae,AW,hld,Ab,Ag,e1];rw[e4];simp only[Ad,Aa];rw[Ac hi,hld4];simp only[Ae,Ab,Ag,e2];rw[e5];simp only[Ad,Aa,Am (show i<9223372036854775807 by omega)];rw[show k+(CU x.store:Int)+(CU x.wait:Int)=k+((KT x:Nat):Int) by rw[hw];omega]
  ·rw[m5.fr' l5 y λhm=>hyG (zgP _ hm),m4.fr' l4 y λhm=>hyG (zgN _ hm)]) (λk hh=>by
  rw[CC.e,Ai (by omega)]) hs hnd h0 hB
 exact ⟨h',Qr e,r⟩
theorem S0 (hs:RNodes false h [.sl 2 a l.length c] (Ki k l) F) (h0:0<=k) (hB:k+EW l<=Gd) (hn:B8 l) :
  Af lo 173 [.sl 2 a l.length c,Iv k] h=some (Iv (k+EW l),h):=by
 have hn1:=hn.1;refine Qw (h':=h) ?_;refine (HL (w:=KT) (l:=l) (k:=k) (λk i=>CG (List.length h) a l.length c k 0 (i:Nat) h) λi hi=>?_).trans ?_
 ·have hi':i<(Ki k l).length:=by unfold Ki;rw[Bw];exact hi
  obtain ⟨o,s1,s2,a1,c1,a2,c2,G1,G2,rfl,_,ho1,ho2,e1,e2,p1,p2,_⟩:=hs.get hi';have hle:=KJ (w:=KT) (l:=l) (i:=i+1);rw[Gn hi] at hle;have hel:(Ki k l)[i]=PW (k+BD KT (l.take i)) l[i]:=by unfold Ki;exact GE hi _
  have hsm:=hn.2 _ (zfD hi);rw[hel] at p1 p2;simp only[PW,CW] at p1 p2;have e1':∀ {R':Type} (K:Pq->Nat->Nq->Option R'),eS 6 s1 K=K a1 l[i].store.length c1:=by intro R' K;rw[e1 K,hel];simp only[PW,CW]
  have e2':∀ {R':Type} (K:Pq->Nat->Nq->Option R'),eS 6 s2 K=K a2 l[i].wait.length c2:=by intro R' K;rw[e2 K,hel];simp only[PW,CW]
  have hw:KT l[i]=CU l[i].store+CU l[i].wait:=rfl;unfold EW at hB;generalize hk':k+(BD KT (l.take i):Int)=k' at *
  rw[hw] at hle ⊢;rw[CG.e,Ak (by omega),Ac hi];simp only[Ae,AW,ho1,ho2,Ab,Ag,e1',e2',Ac hi];rw[I5 p1 (by omega) (by omega) hsm.1];simp only[Ad,Aa];rw[Ai (by omega),ho2];simp only[Ae,Ab,Ag,e2'];rw[I5 p2 (by omega) (by omega) hsm.2];simp only[Ad,Aa,Am (show i<9223372036854775807 by omega)];rw[Ai (by omega),show k'+((CU l[i].store+CU l[i].wait:Nat):Int)=k'+(CU l[i].store:Int)+(CU l[i].wait:Int) by omega]
 ·rw[CG.e,Ai (by omega)];rfl
theorem Mo {k:Int}:(Ki k l).length=l.length:=Bw
theorem PV {k:Int}{l:List (List Ver)}:(Q2 k l).length=l.length:=Bw
def PL (p:Place):Nat:=EW p.chain+CU p.log+NK p.got
theorem RPlace.cells {ro:Bool}{p:Place}{a1 a2 a3:Pq}{c1 c2 c3:Nq} (h1:RPlace ro h (p.cs a1 c1 a2 c2 a3 c3) p F) :
  ∃ F1 F2 F3,F=F1++(F2++F3)/\RNodes ro h [.sl 2 a1 p.chain.length c1] p.chain F1/\RVers ro h [.sl 6 a2 p.log.length c2] p.log F2/\RVss ro h [.sl 1 a3 p.got.length c3] p.got F3:=by
 obtain ⟨_,_,_,F1,F2,F3,e1,rfl,r1,r2,r3⟩:=h1;injection e1 with _ e1;injection e1 with _ e1;injection e1 with x1 e1;injection e1 with x2 e1;injection e1 with x3 e1;subst x1;subst x2;subst x3;exact ⟨F1,F2,F3,rfl,r1,r2,r3⟩
end


variable {s:ByteArray}{l:List Tag}{v:Ver}{p q:List Tag}
def Oa (b:UInt8):Bool:=Aj b.toNat 33 126
def GM (s:ByteArray):Bool:=s.data.toList.all Oa&&decide ((s.size:Int)<=8)
def Bt (p:List Tag):Bool:=decide (p.length=4)&&p.all λt=>Bd t.time t.place
def Et (p q:List Tag):Bool:=(p.zip q).all λx => !Ic x.2.time x.2.place x.1.time x.1.place
def Fm (p:List Tag):Int:=p.foldl (λm t=>if t.time>m then t.time else m) 0
def Gm (s:ByteArray):Bool:=decide (s.size=0)
def HS (v:Ver):Bool:=Aj v.key 0 3&&GM v.text&&(!v.gone || Gm v.text)&&Bt v.past
def BO (v:Ver):Bool:=HS v&&Bd v.tag.time v.tag.place&&decide (Fm v.past<v.tag.time)
section
variable {lo:Nat}{ro ro':Bool}{h:Heap}{F F':List Nat}{a a':Pq}{c c':Nq}
theorem Vz {i:Nat} (hi:i<s.data.toList.length):QK s (i:Nat)=some (s.data.toList[i]):=by
 unfold QK;have:i<s.size:=by simpa using hi
 simp[this];rfl
theorem NA (hn:s.size<=1048576):Af lo 55 [.str s] h=some (.bool (GM s),h):=by
 refine RC (h':=h) ?_;have hl:s.data.toList.length=s.size:=by simp
 refine (BB (p:=Oa) (l:=s.data.toList) (λi=>C0 (List.length h) s false (i:Nat) h) (some (.bool false,h)) (some (.bool (decide ((s.size:Int)<=8)),h)) (λi hi=>?_) ?_).trans ?_
 ·rw[C0.e,Ak (by omega)];simp only[Vz hi,Ae,Am (show i<9223372036854775807 by omega)];unfold Oa Aj;generalize s.data.toList[i]=b;by_cases h1:(b.toNat:Int)<33
  ·rw[Ak h1,if_neg (by simp;omega)]
  ·rw[Ai h1];by_cases h2:(b.toNat:Int)>126
   ·rw[Ak h2,if_neg (by simp;omega)]
   ·rw[Ai h2,if_pos (by simp;omega)]
 ·rw[C0.e,Ai (by omega)];by_cases h3:(s.size:Int)<=8
  ·rw[Ak h3,decide_eq_true h3]
  ·rw[Ai h3,decide_eq_false h3]
 ·unfold GM;cases s.data.toList.all Oa<;>simp
theorem YX (hn:s.size<=1048576):Af lo 203 [.str s] h=some (.bool (GM s),h):=by
 refine Vq (h':=h) ?_;have hl:s.data.toList.length=s.size:=by simp
 refine (BB (p:=Oa) (l:=s.data.toList) (λi=>Ec (List.length h) s false (s.size:Nat) (i:Nat) h) (some (.bool false,h)) (some (.bool (decide ((s.size:Int)<=8)),h)) (λi hi=>?_) ?_).trans ?_
 ·have hb:s.data.toList[i].toNat<256:=s.data.toList[i].toNat_lt;rw[Ec.e,Ak (by omega)];simp only[Vz hi,Ae,Am (show i<9223372036854775807 by omega),Be,Ad,Ar];rw[wr (by omega) (by omega)];unfold Oa;cases Aj (s.data.toList[i].toNat:Int) 33 126<;>simp
 ·rw[Ec.e,Ai (by omega)];by_cases h3:(s.size:Int)<=8
  ·rw[Ak h3,decide_eq_true h3]
  ·rw[Ai h3,decide_eq_false h3]
 ·unfold GM;cases s.data.toList.all Oa<;>simp
theorem NB (hs:RTags ro h [.sl 2 a l.length c] l F) (hn:l.length<=1048576):Af lo 56 [.agg [.sl 2 a l.length c]] h=some (.bool (Bt l),h):=by
 refine RE (h':=h) ?_;refine (BB (p:=λt:Tag=>Bd t.time t.place) (l:=l) (λi=>C2 (List.length h) false (i:Nat) a l.length c h) (some (.bool false,h)) (some (.bool (decide (l.length=4)),h)) (λi hi=>?_) ?_).trans ?_
 ·obtain ⟨o,rfl,ho⟩:=hs.get hi;rw[C2.e,Ak (by omega),Ac hi];simp only[Ae,AW,ho,Ab,Aa,Ag,Jt,Ad,Ar,Am (show i<9223372036854775807 by omega)];cases Bd l[i].time l[i].place<;>simp
 ·rw[C2.e,Ai (by omega)];by_cases h3:l.length=4
  ·rw[h3];rfl
  ·rw[show ((l.length:Int)==4)=false by simp;omega,Ay,decide_eq_false h3]
 ·unfold Bt;cases l.all (λt:Tag=>Bd t.time t.place)<;>simp
theorem UI {g:Nat}{cl:List V}{p:Tag->Bool} (hs:RTags ro h [.sl 2 a l.length c] l F) (hn:l.length<=1048576)
  (hp:∀ lo d,d∈l->Af lo g (Dl [.agg [Iv d.time,Iv d.place]] cl) h=some (.bool (p d),h)) :
  Af lo 214 [.sl 2 a l.length c,.fn g cl] h=some (Iv (BC p l 0),h):=by
 have loop:∀ m k x,m+k=l.length->AK (List.length h) a l.length c g cl x (l.length:Nat) (k:Nat) h=some (Iv (BC p (l.drop k) k),h):=by
  intro m;induction m with
  | zero =>intro k x hk;rw[AK.e,Ai (by omega),show k=l.length by omega];simp[BC]
  | succ m ih =>
   intro k x hk;have hlt:k<l.length:=by omega
   obtain ⟨o,rfl,ho⟩:=hs.get hlt;rw[AK.e,Ak (by omega),Ac (by omega)];simp only[Ae,AW,ho,Ab,Aa,Ag];rw[hp (List.length h) l[k] (by simp),Ad,Ar,zfT hlt];simp only[BC];cases p l[k]
   ·simp only[Ay,cond_false];rw[Am (by omega)];exact ih (k+1) _ (by omega)
   ·simp
 refine GV (h':=h) ?_;simpa using loop l.length 0 0 (by omega)
theorem Rg (hs:RTags ro h [.sl 2 a l.length c] l F) (hn:l.length<=1048576):Af lo 71 [.agg [.sl 2 a l.length c]] h=some (.bool (Bt l),h):=by
 refine Vu (h':=h) ?_;rw[Gc (h':=h) (v := .bool (l.any λt => !Bd t.time t.place)) (by
  rw[UI hs hn (p:=λt => !Bd t.time t.place) (λlo d _=>RU (h':=h) (by rw[LM];simp only[Ad,Ar];cases Bd d.time d.place<;>rfl))];simp only[Ad,Aa,LQ];rw[Gq];simp)]
 unfold Bt;by_cases h3:l.length=4
 ·rw[show ((l.length:Int)==4)=true by simp;omega,Aq,decide_eq_true h3];simp only[Ad,Ar];rw[zg5];simp only[Bool.not_not,zfQ];cases l.all (λt:Tag=>Bd t.time t.place)<;>rfl
 ·rw[show ((l.length:Int)==4)=false by simp;omega,Ay,decide_eq_false h3];rfl
theorem Rf (hs:RTags ro h [.sl 2 a l.length c] l F) (hn:l.length<=1048576):Af lo 118 [.agg [.sl 2 a l.length c]] h=some (Iv (Fm l),h):=by
 have loop:∀ m k x,m+k=l.length->Cb (List.length h) x a l.length c (l.length:Nat) (k:Nat) h=some (Iv ((l.drop k).foldl (λm t=>if t.time>m then t.time else m) x),h):=by
  intro m;induction m with
  | zero =>intro k x hk;rw[Cb.e,Ai (by omega),show k=l.length by omega];simp
  | succ m ih =>
   intro k x hk;have hlt:k<l.length:=by omega
   obtain ⟨o,rfl,ho⟩:=hs.get hlt;rw[Cb.e,Ak (by omega),Ac (by omega)];simp only[Ae,AW,ho,Ab,Aa,Ag,Am (show k<9223372036854775807 by omega)];rw[ih (k+1) _ (by omega),zfT hlt,zgD]
 refine Om (h':=h) ?_;exact loop l.length 0 0 (by omega)
theorem JK:(s.toList==(ByteArray.mk #[]).toList)=Gm s:=by
 unfold Gm;rw[zgn];rw[zg4,zg4];simp only[beq_iff_eq,decide_eq_true_eq];constructor
 ·intro h;have:=congrArg List.length h;simpa using this
 ·intro h;exact zfM (by simpa using h)
theorem OR (hs:RTags ro h [.sl 2 a v.past.length c] v.past F) (hn:v.past.length<=1048576/\v.text.size<=1048576):Af lo 116 [.agg (v.cs a c)] h=some (.bool (HS v),h):=by refine Oh (h':=h) ?_;simp only[IO,YX hn.2,Rg hs hn.1,JK,Ad,Ar];unfold HS;cases Aj v.key 0 3<;>cases GM v.text<;>cases v.gone<;>cases Gm v.text<;>cases Bt v.past<;>rfl
theorem LL (hs:RTags ro h [.sl 2 a v.past.length c] v.past F) (hn:v.past.length<=1048576/\v.text.size<=1048576):Af lo 134 [.agg (v.cs a c)] h=some (.bool (BO v),h):=by
 refine X4 (h':=h) ?_;simp only[OR hs hn,LM,Rf hs hn.1,Ad,Ar,Aa];unfold BO;by_cases hl:Fm v.past<v.tag.time
 ·rw[Ak hl,decide_eq_true hl];cases HS v<;>cases Bd v.tag.time v.tag.place<;>rfl
 ·rw[Ai hl,decide_eq_false hl];cases HS v<;>cases Bd v.tag.time v.tag.place<;>rfl
theorem Tf {x:Int}:∀ {l:List Tag}{m:Int},l.foldl (λm t=>if t.time>m then t.time else m) m<x<->m<x/\∀ t∈l,t.time<x
 | [],m=>by simp
 | t :: l,m=>by
  rw[zgD,Tf];simp only[zfL,forall_eq_or_imp];constructor
  ·rintro ⟨h1,h2⟩
   refine ⟨?_,?_,h2⟩<;>(split at h1<;>omega)
  ·rintro ⟨h1,h2,h3⟩
   refine ⟨?_,h3⟩;split<;>omega
theorem latest_lt {x:Int}:Fm p<x<->0<x/\∀ t∈p,t.time<x:=Tf
theorem Gi {t p:Int} (h:Bd t p=true):0<=t/\t<=999/\0<=p/\p<=2:=by simp[Bd,Aj] at h;omega
theorem BX (h:Bt p=true):p.length=4:=by simp only[Bt,E1,decide_eq_true_eq] at h;exact h.1
theorem MT (hs:RTags ro h [.sl 2 a v.past.length c] v.past F) (hn:v.past.length<=1048576/\v.text.size<=1048576):Af lo 112 [.agg (v.cs a c)] h=some (.bool (BO v),h):=by
 refine Zz (h':=h) ?_;have loop:∀ x b,Bt v.past=true->DI (List.length h) x 0 v.key v.tag.time v.tag.place a v.past.length c v.text b h=some (.bool (v.past.all λt=>decide (t.time<v.tag.time)),h):=by
  intro x b hp;have h4:=BX hp;refine (BB (p:=λt:Tag=>decide (t.time<v.tag.time)) (l:=v.past) (λi=>DI (List.length h) x (i:Nat) v.key v.tag.time v.tag.place a v.past.length c v.text b h) (some (.bool false,h)) (some (.bool true,h)) (λi hi=>?_) ?_).trans ?_
  ·obtain ⟨o,row,G,rfl,ho,⟨rfl,_⟩,_⟩:=hs.read hi;rw[DI.e,Ak (by omega),Ac hi];simp only[Ae,AW,ho,Tag.cs,cut,Ab,Aa,Ag,Am (show i<9223372036854775807 by omega)];by_cases ht:v.past[i].time<v.tag.time
   ·rw[Ai (by omega),if_pos (by simpa using ht)]
   ·rw[Ak (by omega),if_neg (by simpa using ht)]
  ·rw[DI.e,Ai (by omega)]
  ·cases v.past.all λt:Tag=>decide (t.time<v.tag.time)<;>rfl
 have key:∀ x:Bool,(Bd v.tag.time v.tag.place&&x&&decide (Fm v.past<v.tag.time))=(Bd v.tag.time v.tag.place && !(v.tag.time==0)&&x&&(v.past.all λt=>decide (t.time<v.tag.time))):=by
  intro x;cases ht:Bd v.tag.time v.tag.place with
  | false=>simp
  | true =>
   have:=Gi ht;have e:decide (Fm v.past<v.tag.time)=(!(v.tag.time==0)&&(v.past.all λt=>decide (t.time<v.tag.time))):=by
    rw[zgn];simp only[decide_eq_true_eq,latest_lt,E1,zfW,zgG,beq_eq_false_iff_ne];constructor
    ·rintro ⟨h1,h2⟩;exact ⟨by omega,h2⟩
    ·rintro ⟨h1,h2⟩;exact ⟨by omega,h2⟩
   rw[e];cases x<;>cases (v.tag.time==0)<;>simp
 have e2:BO v=(Aj v.key 0 3&&GM v.text&&(!v.gone || Gm v.text)&&(Bd v.tag.time v.tag.place&&Bt v.past&&decide (Fm v.past<v.tag.time))):=by unfold BO HS;cases Aj v.key 0 3<;>cases GM v.text<;>cases v.gone<;>cases Gm v.text<;>cases Bt v.past<;>cases Bd v.tag.time v.tag.place<;>simp
 rw[e2,key];simp only[A9,NA hn.2,Jt,NB hs hn.1,JK,Ad,Ar];cases hp:Bt v.past with
 | true =>simp only[loop _ _ hp];cases Aj v.key 0 3<;>cases GM v.text<;>cases v.gone<;>cases Gm v.text<;>cases Bd v.tag.time v.tag.place<;>cases (v.tag.time==0)<;>rfl
 | false =>cases Aj v.key 0 3<;>cases GM v.text<;>cases v.gone<;>cases Gm v.text<;>cases Bd v.tag.time v.tag.place<;>cases (v.tag.time==0)<;>rfl
theorem Sd {T:Type} (L:Nat->Option T) (no yes:Option T) (hl:p.length<=q.length)
  (step:∀ i (hi:i<p.length),L i=if Ic q[i].time q[i].place p[i].time p[i].place=true then no else L (i+1)) (done:L p.length=yes):L 0=if Et p q=true then yes else no:=by
 have hz:(p.zip q).length=p.length:=by simp;omega
 refine BB (l:=p.zip q) L no yes (λi hi=>?_) (by rw[hz];exact done);rw[step i (by omega)];simp only[zg8];cases Ic q[i].time q[i].place p[i].time p[i].place<;>simp
theorem LK (hs:RTags ro h [.sl 2 a p.length c] p F) (hs':RTags ro' h [.sl 2 a' q.length c'] q F') (hn:p.length<=1048576) (hl:p.length<=q.length) :
  Af lo 69 [.agg [.sl 2 a p.length c],.agg [.sl 2 a' q.length c']] h=some (.bool (Et p q),h):=by
 refine Pz (h':=h) ?_;refine (Sd (p:=p) (q:=q) (λi=>Co (List.length h) false a p.length c (p.length:Nat) (i:Nat) a' q.length c' h) (some (.bool false,h)) (some (.bool true,h)) hl (λi hi=>?_) ?_).trans ?_
 ·obtain ⟨o,rfl,ho⟩:=hs.get hi;obtain ⟨o',rfl,ho'⟩:=hs'.get (show i<q.length by omega);rw[Co.e,Ak (by omega),Ac hi];simp only[Ae,AW,ho,ho',Ab,Aa,Ag,Ac (show i<q.length by omega),Fo,Ad,Ar,Am (show i<9223372036854775807 by omega)];cases Ic q[i].time q[i].place p[i].time p[i].place<;>simp
 ·rw[Co.e,Ai (by omega)]
 ·cases Et p q<;>rfl
theorem GX (hs:RTags ro h [.sl 2 a p.length c] p F) (hs':RTags ro' h [.sl 2 a' q.length c'] q F') (hp:p.length=4) (hq:q.length=4) :
  Af lo 124 [.agg [.sl 2 a p.length c],.agg [.sl 2 a' q.length c']] h=some (.bool (Et p q),h):=by
 refine RD (h':=h) ?_;refine (Sd (p:=p) (q:=q) (λi=>C1 (List.length h) false (i:Nat) a p.length c a' q.length c' h) (some (.bool false,h)) (some (.bool true,h)) (by omega) (λi hi=>?_) ?_).trans ?_
 ·obtain ⟨o,rfl,ho⟩:=hs.get hi;obtain ⟨o',rfl,ho'⟩:=hs'.get (show i<q.length by omega);rw[C1.e,Ak (by omega),Ac (show i<q.length by omega)];simp only[Ae,AW,ho,ho',Ab,Aa,Ag,Ac hi,B9,Ad,Ar,Am (show i<9223372036854775807 by omega)];cases Ic q[i].time q[i].place p[i].time p[i].place<;>simp
 ·rw[C1.e,Ai (by omega)]
 ·cases Et p q<;>rfl
end


variable {l:List Tag}{α:Type}{El:Rel α}
section
variable {lo:Nat}{ro ro':Bool}{h:Heap}{F F':List Nat}{a a':Pq}{c c':Nq}
theorem Sli.rows {α:Type}{El:Rel α}{R e:Nat}{l:List α} (hs:Sli false R e El h [.sl R a l.length c] l F) :
  ∃ rows Fs,(∀ {T:Type} (K:List (List V)->Option T),Aw R h (.sl R a l.length c) K=K rows)/\EAll El h rows l Fs/\∀ b∈Fs.flatten,b∈F:=by
 obtain ⟨R1,a1,c1,e1,g⟩:=hs;injection e1 with e1 _;injection e1 with e0 e2 _ e3;subst e2;subst e3;cases a with
 | none =>obtain ⟨rfl,_,_⟩:=g;exact ⟨[],[],λK=>rfl,trivial,by simp⟩
 | some p =>
  obtain ⟨b,i⟩:=p;obtain ⟨_,rs,Fs,g1,g2,g3,g4,g5,rfl⟩:=g;refine ⟨_,Fs,λK=>?_,g5,λb hb=>zgy _ hb⟩;simp only[Aw,J7,Dj];cases hl:l.length with
  | zero=>simp
  | succ n =>rw[hl] at g2;simp only[Fl,Heap.rows?,g1,zf1,Ez g2,Ae]
theorem RTags.rows {l:List Tag} (hs:RTags false h [.sl 2 a l.length c] l F) {T:Type} (K:List (List V)->Option T):Aw 2 h (.sl 2 a l.length c) K=K (l.map Tag.cs):=by obtain ⟨rows,Fs,h1,h2,_⟩:=Sli.rows hs;rw[h1,h2.of_flat.1]
theorem Sli.fresh {R e n:Nat}{rs:List (List V)} (hn:n<=rs.length):Sli false R e El (h ++ [.rows R e false rs]) [.sl R (some (h.length,0)) 0 (some n)] [] [h.length] :=
 ⟨R,some (h.length,0),some n,rfl,rfl,rs,[],by simp,by simp,λk hk=>by injection hk with hk;subst hk;simpa using hn,λh=>(by cases h),by simp[EAll],by simp⟩
theorem Tg:(l.map λ_=>([]:List Nat)).flatten = []:=by induction l<;>simp_all
theorem Lf (hl:lo<=h.length) (hn:l.length<=1048576):∃ a' c' h' F',(∀ {T:Type} (K:V->Heap->Option T),DJ lo 36 2 16 (.sl 2 (some (h.length,0)) 0 (some 0)) (l.map Tag.cs) (h ++ [.rows 2 36 false []]) K=K (.sl 2 a' l.length c') h') /\
  RTags false h' [.sl 2 a' l.length c'] l F'/\Mv h [] h' F':=by
 have h0:RTags false (h ++ [.rows 2 (zdm false) false []]) [.sl 2 (some (h.length,0)) 0 (some 0)] [] [h.length]:=Sli.fresh (zfH _);by_cases he:l = []
 ·subst he;exact ⟨some (h.length,0),some 0,_,_,λK=>rfl,h0,Mv.last⟩
 ·obtain ⟨a',c',h',F',p1,p2,p3,p4,p5,p6⟩:=Sli.push (lo:=lo) (bytes:=16) Xi h0 (xs:=l.map Tag.cs) (ys:=l) (Gs:=l.map λ_ => []) EAll.flat (by decide) (by simp;omega) (by simp;omega) (by simp;omega) (by rw[Tg];simp) (by rw[Tg];simp) he;simp only[zg2,zfY,zf8] at p1 p2;refine ⟨a',c',h',F',p1,p2,by simp at p3;omega,λb hb _=>?_,p6,λb hb=>?_⟩
  ·rw[p4 b (by simp;omega) (by simp;omega),zfK hb]
  ·simp at p3;rcases p5 b hb with h1 | h1
   ·rw[Tg] at h1;simp at h1;exact .inr (by omega)
   ·simp at h1;exact .inr (by omega)
theorem DK {v:Ver} (hs:RTags false h [.sl 2 a v.past.length c] v.past F) (hl:lo<=h.length) (hn:v.past.length<=1048576) :
  ∃ a' c' h' F',Af lo 187 [.agg (v.cs a c)] h=some (.agg (v.cs a' c'),h')/\RTags false h' [.sl 2 a' v.past.length c'] v.past F'/\Mv h [] h' F':=by
 obtain ⟨a',c',h',F',e,r⟩:=Lf (l:=v.past) hl hn;refine ⟨a',c',h',F',U3 ?_,r⟩;rw[RTags.rows (Mv.snoc.keep0 rtags_ok hs),e,Ah]
theorem zam (hs:RTags false h [.sl 2 a l.length c] l F) (hl:lo<=h.length) (hn:l.length<=1048576) :
  ∃ v h' F',Af lo 230 [.sl 2 a l.length c] h=some (v,h')/\RTags false h' [v] l F'/\Mv h [] h' F':=by
 cases a with
 | none =>obtain ⟨R1,a1,c1,e1,g⟩:=hs;injection e1 with e1 _;injection e1 with e0 e2 _ e3;subst e2;subst e3;obtain ⟨rfl,_,_⟩:=g;exact ⟨_,h,[],EV (by rw[show (none:Pq).isNone=true from rfl,Aq]),Sli.nil,Mv.nil⟩
 | some p =>obtain ⟨a',c',h',F',e,r⟩:=Lf (l:=l) hl hn;refine ⟨_,h',F',EV ?_,r⟩;rw[show (some p).isNone=false from rfl,Ay,RTags.rows (Mv.snoc.keep0 rtags_ok hs),e,Ah]
theorem Es (hs:RTags false h [.sl 2 a l.length c] l F) (hl:lo<=h.length) (hn:l.length<=1048576) :
  ∃ a' c' h' F',Af lo 153 [.agg [.sl 2 a l.length c]] h=some (.agg [.sl 2 a' l.length c'],h')/\RTags false h' [.sl 2 a' l.length c'] l F'/\Mv h [] h' F':=by
 obtain ⟨v,h',F',e,r,m⟩:=zam hs hl hn;obtain ⟨a',c',es,r2⟩:=r.form;refine ⟨a',_,h',F',On ?_,r2.clip,m⟩;rw[e];simp only[Ad,es];rw[Iy (r:=(.sl 2 a' l.length (some l.length),h')) (by rw[Jw r2])];simp only[Ad,Ah]
theorem BJ {v:Ver} (hs:RTags false h [.sl 2 a v.past.length c] v.past F) (hl:lo<=h.length) (hn:v.past.length<=1048576) :
  ∃ a' c' h' F',Af lo 154 [.agg (v.cs a c)] h=some (.agg (v.cs a' c'),h')/\RTags false h' [.sl 2 a' v.past.length c'] v.past F'/\Mv h [] h' F':=by
 obtain ⟨a',c',h',F',e,r⟩:=Es hs hl hn;refine ⟨a',c',h',F',Ps ?_,r⟩;rw[e];simp only[Ad,AN,Ab,Ah,Ag]
theorem Qf {l:List Ver}{e0:Pq}{h0:Heap}{n0:Nq}{F0:List Nat}{T:Type} (L:Nat->Pq->Nat->Nq->Heap->Option T) (hs:RVers false h [.sl 6 a l.length c] l F) (hl:lo<=h.length) (hn:Ci l)
  (m0:Mv h [] h0 F0) (h1:RVers false h0 [.sl 6 e0 0 n0] [] F0)
  (step:∀ i (hi:i<l.length) s a2 c2 a1 n1 c1 hh,(i=0->a1=e0/\c1=n0)->(∀ o,a=some o->ld hh o.1 (o.2+i) 0 6=some [Iv l[i].key,Iv l[i].tag.time,Iv l[i].tag.place,s,.str l[i].text,.bool l[i].gone])->(∃ o,a=some o) ->
   (∀ {R':Type} (K:Pq->Nat->Nq->Option R'),eS 2 s K=K a2 l[i].past.length c2)->(∃ G,RTags false hh [.sl 2 a2 l[i].past.length c2] l[i].past G)->lo<=hh.length ->
   ∃ a3 c3 h3 F3,RTags false h3 [.sl 2 a3 l[i].past.length c3] l[i].past F3/\Mv hh [] h3 F3 /\
    L i a1 n1 c1 hh=DJ lo 43 6 72 (.sl 6 a1 n1 c1) [l[i].cs a3 c3] (h3 ++ [.rows 6 43 false [l[i].cs a3 c3]]) λv h=>eS 6 v λa n c=>L (i+1) a n c h) :
  ∃ a' c' h' F',L 0 e0 0 n0 h0=L l.length a' l.length c' h'/\RVers false h' [.sl 6 a' l.length c'] l F'/\Mv h [] h' F':=by
 have hn1:=hn.1;obtain ⟨a',c',h',F',e,r,m⟩:=Ob (El:=RVer false) rver_ok (h0:=h0) (l:=l) (g:=λ_ v=>some (id v)) (lo:=lo) (R:=6) (e:=J0 false) (bytes:=72) (b0 := []) (F0:=F0) (a0:=e0) (c0:=n0)
  (zfE hl m0.le) (m0.ge hl (by simp)) m0.nd (by decide) (by simp;omega) L (λi hi a1 c1 hh F1 acc hz hacc hm hr=>by
   have hm':Mv h [] hh []:=(m0.trans hm).drop;obtain ⟨o,s,a2,c2,G,ho,hld,es,hp,_⟩:=(hm'.keep0 rvers_ok hs).get hi;obtain ⟨a3,c3,h3,F3,r3,m3,e3⟩:=step i hi s a2 c2 a1 acc.length c1 hh hz (λo' ho'=>by rw[ho] at ho';injection ho' with ho';subst ho';exact hld) ⟨o,ho⟩ es ⟨G,hp⟩ (zfE hl hm'.le);exact .inr ⟨l[i],l[i].cs a3 c3,F3,_,rfl,⟨_,rfl,Mv.snoc.keep0 rtags_ok r3⟩,m3.trans (Mv.snoc' m3.nd),e3⟩) h1
 rw[OZ,zgU,zf8] at e r;exact ⟨a',c',h',F',e,r,m0.trans m⟩
theorem Ji {l:List Ver} (hs:RVers false h [.sl 6 a l.length c] l F) (hl:lo<=h.length) (hn:Ci l) :
  ∃ a' c' h' F',Af lo 201 [.sl 6 a l.length c] h=some (.sl 6 a' l.length c',h')/\RVers false h' [.sl 6 a' l.length c'] l F'/\Mv h [] h' F':=by
 have hn1:=hn.1;obtain ⟨a',c',h',F',e,r,m⟩:=Qf (e0:=some (h.length,0)) (n0:=some l.length) (h0:=h ++ [.rows 6 (J0 false) false (List.replicate l.length [Iv 0,Iv 0,Iv 0,.sl 0 none 0 (some 0),.str ⟨⟨[]⟩⟩,.bool false])])
  (λi a1 n1 c1 hh=>Bg lo a1 n1 c1 a l.length c (l.length:Nat) (i:Nat) hh) hs hl hn Mv.last (Sli.fresh (by simp)) (λi hi s a2 c2 a1 n1 c1 hh hz hld ho es hp hlo=>by
   obtain ⟨o,rfl⟩:=ho;obtain ⟨G,hp⟩:=hp;obtain ⟨a3,c3,h3,F3,e3,r3,m3⟩:=BJ (lo:=lo) (v:=l[i]) hp hlo (hn.2 _ (zfD hi)).1;refine ⟨a3,c3,h3,F3,r3,m3,?_⟩;rw[Bg.e,Ak (by omega),Ac hi];simp only[Ae,AW,hld o rfl,Ab,Aa,es,A4,AB,Ag];rw[e3];simp only[Ad,AN,Ab,Aa,Ah,A4,AB,Ag,A2,Am (show i<9223372036854775807 by omega)])
 refine ⟨a',c',h',F',Ky ?_,r,m⟩;rw[EF (by omega)];refine e.trans ?_;rw[Bg.e,Ai (by omega)]
theorem QO {l:List Ver} (hs:RVers false h [.sl 6 a l.length c] l F) (hl:lo<=h.length) (hn:Ci l) :
  ∃ a' c' h' F',Af lo 128 [.sl 6 a l.length c] h=some (.sl 6 a' l.length c',h')/\RVers false h' [.sl 6 a' l.length c'] l F'/\Mv h [] h' F':=by
 have hn1:=hn.1;obtain ⟨a',c',h',F',e,r,m⟩:=Qf (e0:=some (h.length,0)) (n0:=some 0) (h0:=h ++ [.rows 6 (J0 false) false []])
  (λi a1 n1 c1 hh=>DY lo a l.length c a1 n1 c1 (i:Nat) hh) hs hl hn Mv.last (Sli.fresh (by simp)) (λi hi s a2 c2 a1 n1 c1 hh hz hld ho es hp hlo=>by
   obtain ⟨o,rfl⟩:=ho;obtain ⟨G,hp⟩:=hp;obtain ⟨a3,c3,h3,F3,e3,r3,m3⟩:=DK (lo:=lo) (v:=l[i]) hp hlo (hn.2 _ (zfD hi)).1;refine ⟨a3,c3,h3,F3,r3,m3,?_⟩;rw[DY.e,Ak (by omega),Ac hi];simp only[Ae,AW,hld o rfl,Ab,Aa,es,A4,AB,Ag];rw[e3];simp only[Ad,AN,Ab,Aa,Ah,A4,AB,Ag,A2,Am (show i<9223372036854775807 by omega)])
 refine ⟨a',c',h',F',UN ?_,r,m⟩;refine e.trans ?_;rw[DY.e,Ai (by omega)]
theorem Ie {l:List Ver} (hs:RVers false h [.sl 6 a l.length c] l F) (hl:lo<=h.length) (hn:Ci l) :
  ∃ a' c' h' F',Af lo 209 [.agg [.sl 6 a l.length c]] h=some (.agg [.sl 6 a' l.length c'],h')/\RVers false h' [.sl 6 a' l.length c'] l F'/\Mv h [] h' F':=by
 obtain ⟨a',c',h',F',e,r⟩:=Ji hs hl hn;refine ⟨a',c',h',F',Nt ?_,r⟩;rw[e];simp only[Ad,Ah]
theorem IF {l:List Ver} (hs:RVers false h [.sl 6 a l.length c] l F) (hl:lo<=h.length) (hn:Ci l) :
  ∃ v h' F',Af lo 196 [.agg [.sl 6 a l.length c]] h=some (.agg [v],h')/\RVers false h' [v] l F'/\Mv h [] h' F':=by
 have hn1:=hn.1;by_cases he:l = []
 ·subst he;exact ⟨_,h,[],Ke (by rw[BG.e,Ai (by simp)]),Sli.nil,Mv.nil⟩
 have hpos:0<l.length:=List.length_pos_iff.2 he;obtain ⟨a',c',h',F',e,r,m⟩:=Qf (e0:=none) (n0:=some 0) (h0:=h)
  (λi a1 n1 c1 hh=>BG lo (i:Nat) a l.length c 0 none 0 (some 0) (if i=0 then 0 else 6) a1 n1 c1 hh) hs hl hn Mv.nil Sli.nil (λi hi s a2 c2 a1 n1 c1 hh hz hld ho es hp hlo=>by
   obtain ⟨o,rfl⟩:=ho;obtain ⟨G,hp⟩:=hp;obtain ⟨a3,c3,h3,F3,e3,r3,m3⟩:=DK (lo:=lo) (v:=l[i]) hp hlo (hn.2 _ (zfD hi)).1;refine ⟨a3,c3,h3,F3,r3,m3,?_⟩;rw[BG.e,Ak (by omega),Ac hi];simp only[Ae,AW,hld o rfl,Ab,Aa,es,A4,AB,Ag];rw[e3];simp only[Ad,AN,Ab,Aa,Ah,A4,AB,Ag,A2,Am (show i<9223372036854775807 by omega),if_neg (Nat.succ_ne_zero i)];by_cases h0:i=0
   ·obtain ⟨rfl,rfl⟩:=hz h0;rw[zeN]
   ·rw[if_neg h0])
 refine ⟨_,h',F',Ke ?_,r,m⟩;refine e.trans ?_;rw[if_neg (by omega),BG.e,Ai (by omega)]
theorem Yo {l:List Node} (hs:RNodes false h [.sl 2 a l.length c] l F) (hl:lo<=h.length) (hn:B8 l) :
  ∃ v h' F',Af lo 127 [.agg [.sl 2 a l.length c]] h=some (.agg [v],h')/\RNodes false h' [v] l F'/\Mv h [] h' F':=by
 have hn1:=hn.1;obtain ⟨q,a',c',h',F',e,r,m⟩:=Gp (El:=RNode false) rnode_ok (h:=h) (l:=l) (f:=id) (lo:=lo) (R:=2) (e:=47) (bytes:=48) hl (by decide) (by omega)
  (λi q a1 n1 c1 hh=>D3 lo (i:Nat) a l.length c 0 none 0 (some 0) q a1 n1 c1 hh) (λi hi q a1 n1 c1 hh hm=>by
   obtain ⟨o,s1,s2,b1,d1,b2,d2,G1,G2,ha,_,ho1,ho2,e1,e2,p1,p2,_⟩:=(hm.keep0 rnodes_ok hs).get hi;have hsm:=hn.2 _ (zfD hi);have hw1:=hsm.2.1;obtain ⟨v3,h3,F3,e3,r3,m3⟩:=IF (lo:=lo) p1 (zfE hl hm.le) hsm.1;obtain ⟨a3,c3,es3,r3'⟩:=r3.form;have p2':=m3.keep0 rvers_ok p2;obtain ⟨q4,a4,c4,h4,F4,e4,r4,m4⟩:=Gp (El:=RVer false) rver_ok (h:=h3) (l:=l[i].wait) (f:=id) (lo:=lo) (R:=6) (e:=43) (bytes:=72) (zfE hl (zfE hm.le m3.le)) (by decide) (by omega)
    (λj q5 a5 n5 c5 hh=>D2 lo (i:Nat) (j:Nat) a l.length c 0 none 0 (some 0) q a1 n1 c1 a3 l[i].store.length c3 q5 a5 n5 c5 hh) (λj hj q5 a5 n5 c5 hh2 hm2=>by
     obtain ⟨o',s1',s2',b1',d1',b2',d2',G1',G2',ha',_,_,ho2',_,e2',_,p2',_⟩:=(hm2.keep0 rnodes_ok (m3.keep0 rnodes_ok (hm.keep0 rnodes_ok hs))).get hi;obtain ⟨o'',s,b,d,G,hb,hld,es,hp,_⟩:=p2'.get hj;obtain ⟨a6,c6,h6,F6,e6,r6,m6⟩:=DK (lo:=lo) (v:=l[i].wait[j]) hp (zfE hl (zfE hm.le (zfE m3.le hm2.le))) (hsm.2.2 _ (zfD hj)).1;refine ⟨l[i].wait[j].cs a6 c6,F6,h6 ++ [.rows 6 43 false [l[i].wait[j].cs a6 c6]],⟨_,rfl,Mv.snoc.keep0 rtags_ok r6⟩,m6.trans (Mv.snoc' m6.nd),?_⟩;rw[D2.e,Ac hi,ha',Ae];simp only[AW,ho2',Ae,Ab,Ag,e2'];rw[Ak (by omega),Ac hi];simp only[hb,Ac hj,Ae,AW,hld,Ab,Aa,es,A4,AB,Ag];rw[e6];simp only[Ad,AN,Ab,Aa,Ah,A4,AB,Ag,A2,Am (show j<9223372036854775807 by omega)])
   rw[zgU] at r4;have m34:=m3.join m4 (rvers_ok.bd _ _ _ _ r3');obtain ⟨o',s1',s2',b1',d1',b2',d2',G1',G2',ha',_,_,ho2',_,e2',_,_,_⟩:=(m4.keep0 rnodes_ok (m3.keep0 rnodes_ok (hm.keep0 rnodes_ok hs))).get hi;refine ⟨[.sl 6 a3 l[i].store.length c3,.sl q4 a4 l[i].wait.length c4],F3++F4,h4 ++ [.rows 2 47 false [[.sl 6 a3 l[i].store.length c3,.sl q4 a4 l[i].wait.length c4]]],
    ⟨_,_,F3,F4,rfl,rfl,Mv.snoc.keep0 rvers_ok (m4.keep0 rvers_ok r3'),Mv.snoc.keep0 rvers_ok r4⟩,m34.trans (Mv.snoc' m34.nd),?_⟩
   rw[D3.e,Ak (by omega),Ac hi,ha,Ae];simp only[AW,ho1,Ae,Ab,Ag,e1];rw[e3];simp only[Ad,AN,Ab,Ag,es3];rw[<- ha];refine e4.trans ?_;rw[D2.e,Ac hi,ha',Ae];simp only[AW,ho2',Ae,Ab,Ag,e2'];rw[Ai (by omega)];simp only[A2,Am (show i<9223372036854775807 by omega)])
 rw[zgU] at r;refine ⟨_,h',F',UZ ?_,r,m⟩;refine e.trans ?_;rw[D3.e,Ai (by omega)]
theorem Yi {p:Place}{a1 a2 a3:Pq}{c1 c2 c3:Nq}{F1 F2 F3:List Nat} (hs1:RNodes false h [.sl 2 a1 p.chain.length c1] p.chain F1) (hs2:RVers false h [.sl 6 a2 p.log.length c2] p.log F2)
  (hs3:RVss false h [.sl 1 a3 p.got.length c3] p.got F3) (hl:lo<=h.length) (hn:Ef p) :
  ∃ vs h' F',Af lo 58 [.agg (p.cs a1 c1 a2 c2 a3 c3)] h=some (.agg vs,h')/\RPlace false h' vs p F'/\Mv h [] h' F':=by
 have hn1:=hn.2.2.1;obtain ⟨v1,h1,G1,e1,r1,m1⟩:=Yo (lo:=h.length) hs1 (zfH _) hn.1;obtain ⟨b1,d1,es1,r1⟩:=r1.form;obtain ⟨b2,d2,h2,G2,e2,r2,m2⟩:=QO (lo:=h1.length) (m1.keep0 rvers_ok hs2) (zfH _) hn.2.1;have m12:=m1.join m2 (rnodes_ok.bd _ _ _ _ r1);have r1':=m2.keep0 rnodes_ok r1;have hs3':=m2.keep0 rvss_ok (m1.keep0 rvss_ok hs3);obtain ⟨q,b3,d3,h',F',e,r,m⟩:=Gp (El:=RVers false) rvers_ok (h:=h2) (l:=p.got) (f:=id) (lo:=lo) (R:=1) (e:=26) (bytes:=24) (zfE hl m12.le) (by decide) (by omega)
  (λi q a n c hh=>DZ lo (i:Nat) p.me p.clock a1 p.chain.length c1 a2 p.log.length c2 a3 p.got.length c3 p.fell 0 0 0 none 0 (some 0) 0 none 0 (some 0) 0 none 0 (some 0) false p.me p.clock b1 p.chain.length d1 b2 p.log.length d2 q a n c p.fell hh) (λi hi q x n y hh hm=>by
   obtain ⟨o,s,b,d,G,ha,ho,es,hp,_⟩:=(hm.keep0 rvss_ok hs3').get hi;obtain ⟨a5,c5,h5,F5,e5,r5,m5⟩:=QO (lo:=lo) hp (zfE hl (zfE m12.le hm.le)) (hn.2.2.2 _ (zfD hi));refine ⟨[.sl 6 a5 p.got[i].length c5],F5,h5 ++ [.rows 1 26 false [[.sl 6 a5 p.got[i].length c5]]],Mv.snoc.keep0 rvers_ok r5,m5.trans (Mv.snoc' m5.nd),?_⟩;rw[DZ.e,Ak (by omega),Ac hi];simp only[ha,Ae,AW,ho,Ab,es,Ag];rw[e5];simp only[Ad,Ah,A2,Am (show i<9223372036854775807 by omega)])
 rw[zgU] at r;have m3:=m12.join m (λb hb=>by
   rw[zfF] at hb;exact hb.elim (rnodes_ok.bd _ _ _ _ r1' b) (rvers_ok.bd _ _ _ _ r2 b))
 rw[zfS] at m3;refine ⟨_,h',G1++(G2++F'),US ?_,⟨_,_,_,G1,G2,F',rfl,rfl,m.keep0 rnodes_ok r1',m.keep0 rvers_ok r2,r⟩,m3⟩;rw[e1];simp only[Ad,AN,Ab,es1,Ag];rw[e2];simp only[Ad,Ah];refine e.trans ?_;rw[DZ.e,Ai (by omega)]
end


variable {l:List Ver}{v:Ver}
def CR (v u:Ver):Bool:=v.key==u.key&&(v.tag.time==u.tag.time&&v.tag.place==u.tag.place)&&decide (v.past=u.past)&&(v.text.toList==u.text.toList)&&(v.gone==u.gone)
def Hc (v:Ver):Bool:=v.key==0&&(v.tag.time==0&&v.tag.place==0)&&decide (v.past.length=0)&&Gm v.text && !v.gone
def I9 (i:Nat) (v:Ver):Bool:=Hc v || (BO v&&v.key==i)
def A5 (l:List Ver):Bool:=(l.zipIdx.all λx=>I9 x.2 x.1)&&decide (l.length=4)
theorem A6 (h:A5 l=true):l.length=4:=by simp only[A5,E1,decide_eq_true_eq] at h;exact h.2
theorem CK (h:A5 l=true) {i:Nat} (hi:i<l.length):I9 i l[i]=true:=by simp only[A5,E1,zfW] at h;have:=h.1 (l[i],i) (by rw[zgW];simp[hi]);exact this
theorem JI (h:BO v=true):0<v.tag.time:=by simp only[BO,E1,decide_eq_true_eq] at h;exact (latest_lt.1 h.2).1
section
variable {lo:Nat}{ro ro':Bool}{h:Heap}{F F':List Nat}{a a':Pq}{c c':Nq}
theorem Kw {α T:Type}{p:Nat->α->Bool}{l:List α} (L:Nat->Option T) (no yes:Option T)
  (step:∀ i (hi:i<l.length),L i=if p i l[i]=true then L (i+1) else no) (done:L l.length=yes):L 0=if (l.zipIdx.all λx=>p x.2 x.1)=true then yes else no:=by
 have hz:l.zipIdx.length=l.length:=by simp
 refine BB (l:=l.zipIdx) (p:=λx=>p x.2 x.1) L no yes (λi hi=>?_) (by rw[hz];exact done);rw[step i (by omega)];simp only[zg6,zfY]
theorem zal {p q:List Tag} (hs:RTags ro h [.sl 2 a p.length c] p F) (hs':RTags ro' h [.sl 2 a' q.length c'] q F') (hn:p.length<=1048576) :
  Af lo 231 [.sl 2 a p.length c,.sl 2 a' q.length c'] h=some (.bool (decide (p=q)),h):=by
 refine Iw (h':=h) ?_;by_cases hl:p.length=q.length
 ·rw[show ((p.length:Int)==(q.length:Int))=true by simp;omega,Aq];refine (BB (p:=λx:Tag×Tag=>decide (x.1=x.2)) (l:=p.zip q) (λi=>AT (List.length h) a p.length c a' q.length c' false (p.length:Nat) (i:Nat) h) (some (.bool false,h)) (some (.bool true,h)) (λi hi=>?_) ?_).trans ?_
  ·have hip:i<p.length:=by simp at hi;omega
   have hiq:i<q.length:=by omega
   obtain ⟨o,rfl,ho⟩:=hs.get hip;obtain ⟨o',rfl,ho'⟩:=hs'.get hiq;rw[AT.e,Ak (by omega),Ac hip];simp only[Ae,AW,ho,ho',Ab,Aa,Ag,Ac hiq,zg8,Am (show i<9223372036854775807 by omega),zgp];have e:(p[i].time==q[i].time&&p[i].place==q[i].place)=decide (p[i]=q[i]):=by rw[zgn];cases hx:p[i];cases hy:q[i];simp
   rw[e];cases decide (p[i]=q[i])<;>simp
  ·have hz:(p.zip q).length=p.length:=by simp;omega
   rw[hz,AT.e,Ai (by omega)]
  ·have e:((p.zip q).all λx=>decide (x.1=x.2))=decide (p=q):=by
    rw[zgn,zfW,decide_eq_true_eq];constructor
    ·intro hx;apply List.ext_getElem hl;intro i h1 h2;have:=hx (p[i],q[i]) (by rw[zgh];exact ⟨i,by simp;omega,by simp⟩);simpa using this
    ·rintro rfl x hx
     obtain ⟨i,hi,rfl⟩:=zgh.1 hx;simp
   rw[e];cases decide (p=q)<;>simp
 ·rw[show ((p.length:Int)==(q.length:Int))=false by simp;omega,Ay,decide_eq_false (λe=>hl (by rw[e]))]
theorem VZ {u:Ver} (hs:RTags ro h [.sl 2 a v.past.length c] v.past F) (hs':RTags ro' h [.sl 2 a' u.past.length c'] u.past F') (hn:v.past.length<=1048576) :
  Af lo 155 [.agg (v.cs a c),.agg (u.cs a' c')] h=some (.bool (CR v u),h):=by
 refine RT (h':=h) ?_;simp only[zal hs hs' hn,Ad,Ar,zgp];unfold CR;cases (v.key==u.key)<;>cases (v.tag.time==u.tag.time&&v.tag.place==u.tag.place)<;>cases (decide (v.past=u.past))<;>cases (v.text.toList==u.text.toList)<;>cases (v.gone==u.gone)<;>rfl
theorem YZ (hs:RTags ro h [.sl 2 a v.past.length c] v.past F) (hn:v.past.length<=1048576) :
  Af lo 155 [.agg (v.cs a c),.agg [Iv 0,Iv 0,Iv 0,.sl 0 none 0 (some 0),.str ⟨⟨[]⟩⟩,.bool false]] h=some (.bool (Hc v),h):=by
 refine Pr (h':=h) ?_;have e:Af (List.length h) 231 [.sl 2 a v.past.length c,.sl 0 none 0 (some 0)] h=some (.bool (decide (v.past.length=0)),h):=by
  refine Hz (h':=h) ?_;by_cases h0:v.past.length=0
  ·rw[h0,FS,Aq,A8.e,Ai (by simp)];rfl
  ·rw[show ((v.past.length:Int)==((0:Nat):Int))=false by rw[beq_eq_false_iff_ne];omega,Ay,decide_eq_false h0]
 simp only[e,Ad,Ar,zgp,JK];unfold Hc;cases (v.key==0)<;>cases (v.tag.time==0&&v.tag.place==0)<;>cases (decide (v.past.length=0))<;>cases Gm v.text<;>cases v.gone<;>rfl
theorem Xb (hs:RVers ro h [.sl 6 a l.length c] l F) (hn:Ci l):Af lo 79 [.agg [.sl 6 a l.length c]] h=some (.bool (A5 l),h):=by
 have hn1:=hn.1;refine Ul (h':=h) ?_;refine (Kw (p:=I9) (l:=l) (λi=>CN (List.length h) false a l.length c (l.length:Nat) (i:Nat) a l.length c h) (some (.bool false,h)) (some (.bool (decide (l.length=4)),h)) (λi hi=>?_) ?_).trans ?_
 ·obtain ⟨o,s,b,d,G,rfl,ho,es,hp,_⟩:=hs.get hi;have hm:=hn.2 _ (zfD hi);rw[CN.e,Ak (by omega),Ac hi];simp only[Ae,AW,ho,Ab,Aa,es,A4,AB,Ag];rw[YZ hp hm.1];simp only[Ad,Ar,LL hp hm,Am (show i<9223372036854775807 by omega)];unfold I9;cases Hc l[i]<;>cases BO l[i]<;>cases (l[i].key==i)<;>simp
 ·rw[CN.e,Ai (by omega)];by_cases h3:l.length=4
  ·rw[h3];rfl
  ·rw[show ((l.length:Int)==4)=false by simp;omega,Ay,decide_eq_false h3]
 ·unfold A5;cases (l.zipIdx.all λx=>I9 x.2 x.1)<;>simp
theorem RVers.all {n:Nat}{i:Nat} (hs:RVers ro h [.sl 6 a n c] l F) (hi:i<l.length):∃ o s a' c' G,a=some o/\ld h o.1 (o.2+i) 0 1=some [Iv l[i].key]/\ld h o.1 (o.2+i) 1 1=some [Iv l[i].tag.time] /\
  ld h o.1 (o.2+i) 2 1=some [Iv l[i].tag.place]/\ld h o.1 (o.2+i) 3 1=some [s]/\ld h o.1 (o.2+i) 4 1=some [.str l[i].text]/\ld h o.1 (o.2+i) 5 1=some [.bool l[i].gone]/\ld h o.1 (o.2+i) 1 2=some [Iv l[i].tag.time,Iv l[i].tag.place] /\
  ld h o.1 (o.2+i) 0 6=some [Iv l[i].key,Iv l[i].tag.time,Iv l[i].tag.place,s,.str l[i].text,.bool l[i].gone] /\
  (∀ {R':Type} (K:Pq->Nat->Nq->Option R'),eS 2 s K=K a' l[i].past.length c')/\RTags ro h [.sl 2 a' l[i].past.length c'] l[i].past G/\(∀ b∈G,b∈F):=by
 obtain ⟨o,row,G,h1,h2,hv,hG,_⟩:=hs.read hi;obtain ⟨s,a',c',rfl,es,hp⟩:=hv.form;exact ⟨o,s,a',c',G,h1,by rw[h2];rfl,by rw[h2];rfl,by rw[h2];rfl,by rw[h2];rfl,by rw[h2];rfl,by rw[h2];rfl,by rw[h2];rfl,by rw[h2];rfl,es,hp,hG⟩
theorem Me (hs:RVers ro h [.sl 6 a l.length c] l F) (hn:Ci l):Af lo 111 [.agg [.sl 6 a l.length c]] h=some (.bool (A5 l),h):=by
 have hn1:=hn.1;refine Qn (h':=h) ?_;refine (Kw (p:=I9) (l:=l) (λi=>Bv (List.length h) false (i:Nat) a l.length c h) (some (.bool false,h)) (some (.bool (decide (l.length=4)),h)) (λi hi=>?_) ?_).trans ?_
 ·obtain ⟨o,s,b,d,G,rfl,ho0,_,_,ho3,ho4,ho5,ho12,ho,es,hp,_⟩:=hs.all hi;have hm:=hn.2 _ (zfD hi);rw[Bv.e,Ak (by omega),Ac hi];simp only[Ae,AW,ho0,ho3,ho4,ho5,ho12,ho,Ab,Aa,es,A4,AB,Ag,Ac hi,zgp,JK,MT hp hm,Ad,Ar,Am (show i<9223372036854775807 by omega)];have hpl:∀ {T:Type} (x y:Option T),br (decide ((l[i].past.length:Int)>0)) x y=br (!decide (l[i].past.length=0)) x y:=by
   intro T x y;by_cases h0:l[i].past.length=0
   ·rw[Ai (by omega),decide_eq_true h0];rfl
   ·rw[Ak (by omega),decide_eq_false h0];rfl
  simp only[hpl];unfold I9 Hc;cases hz:(l[i].tag.time==0&&l[i].tag.place==0) with
  | true =>
   have:BO l[i]=false:=by
    cases hv:BO l[i] with
    | false=>rfl
    | true=>have:=JI hv;simp at hz;omega
   rw[this];cases (l[i].key==0)<;>cases Gm l[i].text<;>cases l[i].gone<;>cases (decide (l[i].past.length=0))<;>rfl
  | false =>cases (l[i].key==0)<;>cases Gm l[i].text<;>cases l[i].gone<;>cases (decide (l[i].past.length=0))<;>cases BO l[i]<;>cases (l[i].key==i)<;>rfl
 ·rw[Bv.e,Ai (by omega)];by_cases h3:l.length=4
  ·rw[h3];rfl
  ·rw[show ((l.length:Int)==4)=false by simp;omega,Ay,decide_eq_false h3]
 ·unfold A5;cases (l.zipIdx.all λx=>I9 x.2 x.1)<;>simp
end


variable {l:List Ver}{α:Type}{El:Rel α}
def Dk (l:List Ver) (t:Tag):Bool:=l.any λv=>v.tag.time==t.time&&v.tag.place==t.place
section
variable {lo:Nat}{ro ro':Bool}{h:Heap}{F F':List Nat}{a a':Pq}{c c':Nq}
theorem NI {g:Nat}{cl:List V}{p:Ver->Bool} (hs:RVers ro h [.sl 6 a l.length c] l F) (hn:l.length<=1048576)
  (hp:∀ lo v a c G,v∈l->RTags ro h [.sl 2 a v.past.length c] v.past G->Af lo g (Dl [.agg (v.cs a c)] cl) h=some (.bool (p v),h)) :
  Af lo 156 [.sl 6 a l.length c,.fn g cl] h=some (Iv (BC p l 0),h):=by
 have loop:∀ m k x,m+k=l.length->AJ (List.length h) a l.length c g cl x (l.length:Nat) (k:Nat) h=some (Iv (BC p (l.drop k) k),h):=by
  intro m;induction m with
  | zero =>intro k x hk;rw[AJ.e,Ai (by omega),show k=l.length by omega];simp[BC]
  | succ m ih =>
   intro k x hk;have hlt:k<l.length:=by omega
   obtain ⟨o,s,b,d,G,rfl,ho,es,hv,_⟩:=hs.get hlt;rw[AJ.e,Ak (by omega),Ac (by omega)];simp only[Ae,AW,ho,Ab,Aa,es,A4,AB,Ag];rw[hp (List.length h) l[k] b d G (zfD hlt) hv,Ad,Ar,zfT hlt];simp only[BC];cases p l[k]
   ·simp only[Ay,cond_false];rw[Am (by omega)];exact ih (k+1) _ (by omega)
   ·simp
 refine GU (h':=h) ?_;exact loop l.length 0 0 (by omega)
theorem Lr {g:Nat}{cl:List V}{p:Ver->Bool} (hs:RVers ro h [.sl 6 a l.length c] l F) (hn:l.length<=1048576)
  (hp:∀ lo v a c G,v∈l->RTags ro h [.sl 2 a v.past.length c] v.past G->Af lo g (Dl [.agg (v.cs a c)] cl) h=some (.bool (p v),h)) :
  Af lo 80 [.sl 6 a l.length c,.fn g cl] h=some (.bool (l.any p),h) :=
 Gb (h':=h) (by rw[NI hs hn hp];simp only[Ad,Aa,LQ];rw[Gq];simp)
theorem Ms {t p:Int} (hs:RVers ro h [.sl 6 a l.length c] l F) (hn:l.length<=1048576) :
  Af lo 137 [.sl 6 a l.length c,.agg [Iv t,Iv p]] h=some (.bool (Dk l ⟨t,p⟩),h):=by
 refine Vr (h':=h ++ [.rows 2 36 false [[Iv t,Iv p]]]) ?_;rw[Lr (p:=λv=>v.tag.time==t&&v.tag.place==p) (Mv.snoc.keep0 rvers_ok hs) hn (λlo v a c G _ _=>by
  refine RQ (h':=h ++ [.rows 2 36 false [[Iv t,Iv p]]]) ?_;have:ld (h ++ [.rows 2 36 false [[Iv t,Iv p]]]) h.length 0 0 2=some [Iv t,Iv p]:=by rw[WF (row := [Iv t,Iv p]) (by rfl)];rfl
  simp only[this,Ae,Ab,Aa,Ag,zgp];cases (v.tag.time==t&&v.tag.place==p)<;>rfl)]
 simp only[Ad,Ar];unfold Dk;cases (l.any λv=>v.tag.time==t&&v.tag.place==p)<;>rfl
theorem Sli.pre {R R' e n i:Nat}{l:List α} (hs:Sli false R e El h [.sl R' a n c] l F) (hi:i<=l.length):∃ F',Sli false R e El h [.sl R' a i c] (l.take i) F':=by
 have hn:=hs.val;subst hn;obtain ⟨R1,a1,c1,e1,g⟩:=hs;injection e1 with e1 _;injection e1 with e0 e2 _ e3;subst e0;subst e2;subst e3;have hl:(l.take i).length=i:=by simp;omega
 cases a with
 | none =>obtain ⟨rfl,h2,_⟩:=g;exact ⟨[],R',none,c,by rw[hl],by simp,h2,rfl⟩
 | some p =>
  obtain ⟨b,j⟩:=p;obtain ⟨hR,rs,Fs,g1,g2,g3,g4,g5,rfl⟩:=g;refine ⟨b ::(Fs.take i).flatten,R',some (b,j),c,by rw[hl],hR,rs,Fs.take i,g1,by rw[hl];omega,λk hk=>?_,g4,?_,rfl⟩
  ·have:=g3 k hk;rw[hl];omega
  ·rw[hl];have:=g5.take i;rw[List.take_take,Nat.min_eq_left hi] at this;exact this
theorem QU {R R' e n i:Nat}{l:List α} (hs:Sli false R e El h [.sl R' a n c] l F) (hi:i<=l.length) {T:Type}{K:Pq->Nat->Nq->Option T} :
  Az a n c none (some (Iv (i:Nat))) none K=K a i c:=by
 have hn:=hs.val;subst hn;obtain ⟨R1,a',c',h1,h2⟩:=hs;injection h1 with h1 _;injection h1 with e0 e1 e2 e3;subst e0;subst e1;subst e3;have hc:∀ k,c=some k->l.length<=k:=λk hk=>by
  cases a with
  | none=>obtain ⟨rfl,_⟩:=h2;simp
  | some p=>obtain ⟨b,i⟩:=p;obtain ⟨_,_,_,_,_,g3,_⟩:=h2;exact (g3 k hk).1
 unfold Az HD KI Lw;cases c with
 | none=>simp only[Aa,AW];rw[DL ⟨by omega,by omega⟩]
 | some k=>have:=hc k rfl;simp only[Aa,AW];rw[DL ⟨by omega,by omega⟩]
def Q6 (place:Int) (l:List Ver) (i:Nat) (v:Ver):Bool:=BO v&&(v.tag.place==place) && !Dk (l.take i) v.tag
def Iz (place:Int) (l:List Ver):Bool:=(l.zipIdx.all λx=>Q6 place l x.2 x.1)&&decide ((l.length:Int)<=60)
theorem S7 {m:Int} (hs:RVers false h [.sl 6 a l.length c] l F) (hn:Ci l):Af lo 65 [.sl 6 a l.length c,Iv m] h=some (.bool (Iz m l),h):=by
 have hn1:=hn.1;refine XZ (h':=h) ?_;refine (Kw (p:=Q6 m l) (l:=l) (λi=>EC (List.length h) a l.length c m false a l.length c (l.length:Nat) (i:Nat) h) (some (.bool false,h)) (some (.bool (decide ((l.length:Int)<=60)),h)) (λi hi=>?_) ?_).trans ?_
 ·obtain ⟨F2,hpre⟩:=Sli.pre hs (show i<=l.length by omega);have hres:=λ{T:Type} (K:Pq->Nat->Nq->Option T)=>QU hs (show i<=l.length by omega) (K:=K);obtain ⟨o,s,b,d,G,ha,ho,es,hp,_⟩:=hs.get hi;have hm:=hn.2 _ (zfD hi);have hil:(l.take i).length=i:=by simp;omega
  have hpre':RVers false h [.sl 6 a (l.take i).length c] (l.take i) F2:=by rw[hil];exact hpre
  have hht:=λlo=>Ms (lo:=lo) (t:=l[i].tag.time) (p:=l[i].tag.place) hpre' (by omega);rw[hil] at hht;rw[EC.e,Ak (by omega),Ac hi];simp only[ha,Ae,AW,ho,Ab,Aa,es,A4,AB,Ag];rw[LL hp hm];simp only[<- ha,Ad,Ar,hres,hht,Am (show i<9223372036854775807 by omega)];unfold Q6;cases BO l[i]<;>cases (l[i].tag.place==m)<;>cases Dk (l.take i) l[i].tag<;>simp
 ·rw[EC.e,Ai (by omega)];by_cases h3:(l.length:Int)<=60
  ·rw[Ak h3,decide_eq_true h3]
  ·rw[Ai h3,decide_eq_false h3]
 ·unfold Iz;cases (l.zipIdx.all λx=>Q6 m l x.2 x.1)<;>simp
theorem Sn {m:Int} (hs:RVers ro h [.sl 6 a l.length c] l F) (hn:Ci l):Af lo 122 [.sl 6 a l.length c,Iv m] h=some (.bool (Iz m l),h):=by
 have hn1:=hn.1;refine XM (h':=h) ?_;have inner:∀ i (hi:i<l.length),DP (List.length h) a l.length c m false (i:Nat) 0 h=if Dk (l.take i) l[i].tag=true then some (.bool false,h) else CZ (List.length h) a l.length c m false ((i+1:Nat):Int) h:=by
  intro i hi;obtain ⟨o,s,b,d,G,ha,_,_,_,_,_,_,ho12,_⟩:=hs.all hi;have hil:(l.take i).length=i:=by simp;omega
  refine (BB (p:=λv:Ver => !(v.tag.time==l[i].tag.time&&v.tag.place==l[i].tag.place)) (l:=l.take i) (λk=>DP (List.length h) a l.length c m false (i:Nat) (k:Nat) h) (some (.bool false,h)) (CZ (List.length h) a l.length c m false ((i+1:Nat):Int) h) (λk hk=>?_) ?_).trans ?_
  ·have hkl:k<l.length:=by omega
   obtain ⟨o',s',b',d',G',ha',_,_,_,_,_,_,ho12',_⟩:=hs.all hkl;have hoo:o'=o:=by rw[ha] at ha';injection ha' with ha';exact ha'.symm
   subst hoo;rw[DP.e,Ak (by omega),Ac hkl];simp only[ha,Ae,AW,ho12,ho12',Ab,Aa,Ag,Ac hi,zgp,List.getElem_take,Am (show k<9223372036854775807 by omega)];cases (l[k].tag.time==l[i].tag.time&&l[k].tag.place==l[i].tag.place)<;>simp
  ·rw[hil,DP.e,Ai (by omega),Am (by omega)]
  ·unfold Dk;rw[zg5];cases ((l.take i).all λv:Ver => !(v.tag.time==l[i].tag.time&&v.tag.place==l[i].tag.place))<;>simp
 refine (Kw (p:=Q6 m l) (l:=l) (λi=>CZ (List.length h) a l.length c m false (i:Nat) h) (some (.bool false,h)) (some (.bool (decide ((l.length:Int)<=60)),h)) (λi hi=>?_) ?_).trans ?_
 ·have hin:=inner i hi;obtain ⟨o,s,b,d,G,ha,_,_,ho2,_,_,_,_,ho,es,hp,_⟩:=hs.all hi;have hm:=hn.2 _ (zfD hi);rw[CZ.e,Ak (by omega),Ac hi];simp only[ha,Ae,AW,ho,Ab,Aa,es,A4,AB,Ag];rw[MT hp hm];simp only[Ad,Ar,Ac hi,ho2,Ae,Ab,Ag,Aa];rw[<- ha,hin];unfold Q6;cases BO l[i]<;>cases (l[i].tag.place==m)<;>cases Dk (l.take i) l[i].tag<;>simp
 ·rw[CZ.e,Ai (by omega)];by_cases h3:(l.length:Int)<=60
  ·rw[Ak h3,decide_eq_true h3]
  ·rw[Ai h3,decide_eq_false h3]
 ·unfold Iz;cases (l.zipIdx.all λx=>Q6 m l x.2 x.1)<;>simp
end


variable {l:List Node}
def BW (l:List Ver):List Tag:=l.map λv=>v.tag
section
variable {lo:Nat}{ro ro':Bool}{h:Heap}{F F':List Nat}{a a':Pq}{c c':Nq}
theorem QS {l:List Ver} (hs:RVers ro h [.sl 6 a l.length c] l F) (hl:lo<=h.length) (hn:l.length<=1048576) :
  ∃ v h' F',Af lo 114 [.agg [.sl 6 a l.length c]] h=some (.agg [v],h')/\RTags false h' [v] (BW l) F'/\Mv h [] h' F':=by
 obtain ⟨q,a',c',h',F',e,r,m⟩:=Gp (El:=flat Tag.cs) EG (h:=h) (l:=l) (f:=λv=>v.tag) (lo:=lo) (R:=2) (e:=36) (bytes:=16) hl (by decide) (by omega)
  (λi q a1 n1 c1 hh=>D4 lo (i:Nat) a l.length c 0 none 0 (some 0) q a1 n1 c1 hh) (λi hi q a1 n1 c1 hh hm=>by
   obtain ⟨o,s,b,d,G,ha,_,_,_,_,_,_,ho12,_⟩:=(hm.keep0 rvers_ok hs).all hi;refine ⟨[Iv l[i].tag.time,Iv l[i].tag.place],[],hh ++ [.rows 2 36 false [[Iv l[i].tag.time,Iv l[i].tag.place]]],⟨rfl,rfl⟩,Mv.snoc,?_⟩;rw[D4.e,Ak (by omega),Ac hi];simp only[ha,Ae,AW,ho12,Ab,Aa,Ag,A2,Am (show i<9223372036854775807 by omega)])
 refine ⟨_,h',F',U0 ?_,r,m⟩;refine e.trans ?_;rw[D4.e,Ai (by omega)]
theorem MZ {l:List Ver} (hs:RVers ro h [.sl 6 a l.length c] l F) (hl:lo<=h.length) (h4:l.length=4) :
  ∃ v h' F',Af lo 67 [.agg [.sl 6 a l.length c]] h=some (.agg [v],h')/\RTags false h' [v] (BW l) F'/\Mv h [] h' F':=by
 obtain ⟨h',F',e,r,m⟩:=GF (El:=flat Tag.cs) EG (h0:=h) (l:=l) (f:=λv=>v.tag) (lo:=lo) (R:=2) (e:=36) (z := [Iv 0,Iv 0]) rfl hl
  (λi hh=>Cn lo a l.length c (l.length:Nat) (i:Nat) 0 none 0 (some 0) (some (h.length,0)) 4 (some 4) hh) (λi hi hh hm=>by
   obtain ⟨o,s,b,d,G,rfl,ho,es,_,_⟩:=(hm.keep0 rvers_ok hs).get hi;refine ⟨[Iv l[i].tag.time,Iv l[i].tag.place],[],hh,⟨rfl,rfl⟩,Mv.nil,rfl,?_⟩;rw[Cn.e,Ak (by omega),Ac hi];simp only[Ae,AW,ho,Ab,Aa,es,A4,AB,Ag,Ac (show i<4 by omega),zfY,Am (show i<9223372036854775807 by omega)])
 rw[h4] at r;refine ⟨_,h',F',Pt ?_,r,m⟩;rw[RV (r:=(.agg [.sl 2 (some (h.length,0)) 4 (some 4)],h ++ [.rows 2 36 false (List.replicate l.length [Iv 0,Iv 0])])) (by rw[h4];rfl)];simp only[Ad,AN,Ab,Ah,Ag];refine e.trans ?_;rw[Cn.e,Ai (by omega)]
def Bl (l:List Node):List Tag:=match l.getLast? with | some x=>BW x.store | none => []
theorem Je (h0:0<l.length):Bl l=BW (l[l.length - 1]'(by omega)).store:=by unfold Bl;rw[zgZ,EM (by omega)]
theorem KH (hs:RNodes ro h [.sl 2 a l.length c] l F) (hl:lo<=h.length) (hn:B8 l) (h0:0<l.length) :
  ∃ v h' F',Af lo 47 [.agg [.sl 2 a l.length c]] h=some (.agg [v],h')/\RTags false h' [v] (Bl l) F'/\Mv h [] h' F':=by
 have hn1:=hn.1;obtain ⟨o,s1,s2,a1,c1,a2,c2,F1,F2,ha,_,ho1,_,e1,_,p1,_⟩:=hs.get (show l.length - 1<l.length by omega);obtain ⟨v,h',F',e,r,m⟩:=QS (lo:=lo) p1 hl (hn.2 _ (zfD _)).1.1;obtain ⟨a',c',es,r'⟩:=r.form;rw[Je h0];refine ⟨_,h',F',RB ?_,r',m⟩;rw[wr (by omega) (by omega),BY ⟨by omega,by omega⟩,ha,Ae,show ((l.length:Int) - 1).toNat=l.length - 1 by omega,ho1];simp only[Ae,Ab,Ag,e1];rw[e];simp only[Ad,AN,Ab,es,Ag]
end


variable {t:Tag}{u v:Ver}{s:ByteArray}{l:List Tag}
abbrev tx (l:List UInt8):ByteArray:=⟨⟨l⟩⟩
theorem JJ {a b:List UInt8}:tx a++tx b=tx (a++b):=by apply ByteArray.ext;simp[tx]
theorem DD {a:List UInt8}:(tx a).size=a.length:=rfl
theorem zbr {a:List UInt8}:(tx a).toList=a:=by rw[zg4]
theorem ZF (s:ByteArray):tx s.data.toList=s:=rfl
def L4 (n:Nat):List UInt8:=if n<10 then [UInt8.ofNat (48+n)] else L4 (n / 10) ++ [UInt8.ofNat (48+n % 10)]
termination_by n
decreasing_by omega
theorem Ld (n:Nat):(L4 n).length<=n+1:=by
 induction n using Nat.strongRecOn with
 | ind n ih =>
  unfold L4;split
  ·simp
  ·have:=ih (n / 10) (by omega);simp only[zfR,zf0];omega
def zeP (l:List UInt8):Nat:=l.foldl (λa c=>a*10+(c.toNat - 48)) 0
theorem R5 {k:Nat} (h:k<10):(UInt8.ofNat (48+k)).toNat=48+k:=by rw[UInt8.toNat_ofNat'];omega
theorem Zj (n:Nat):zeP (L4 n)=n:=by
 induction n using Nat.strongRecOn with
 | ind n ih =>
  unfold L4;split
  ·rename_i h;simp only[zeP,zgD,List.foldl_nil,R5 h];omega
  ·have:=ih (n / 10) (by omega);simp only[zeP,List.foldl_append,zgD,List.foldl_nil] at this ⊢;rw[this,R5 (Nat.mod_lt _ (by decide))];omega
theorem Ts {n m:Nat} (h:L4 n=L4 m):n=m:=by rw[<- Zj n,<- Zj m,h]
theorem zdz (n:Nat):∀ c∈L4 n,48<=c.toNat/\c.toNat<=57:=by
 induction n using Nat.strongRecOn with
 | ind n ih =>
  unfold L4;split
  ·rename_i h
   intro c hc;simp only[zgg] at hc;subst hc;rw[R5 h];omega
  ·intro c hc;rw[zfF] at hc;rcases hc with hc | hc
   ·exact ih (n / 10) (by omega) c hc
   ·simp only[zgg] at hc;subst hc;rw[R5 (Nat.mod_lt _ (by decide))];omega
theorem Lc {n:Nat}{c:UInt8} (hc:c.toNat<48):c∉L4 n:=λh=>by have:=zdz n c h;omega
def HZ (t:Tag):List UInt8:=L4 t.time.toNat++46 :: L4 t.place.toNat
def Cy (l:List Tag):List UInt8:=l.flatMap λt=>32 :: HZ t
def MU (v:Ver):List UInt8:=bif v.gone then [45] else 61 :: v.text.data.toList
def NT (v:Ver):List UInt8:=L4 v.key.toNat++32 ::(HZ v.tag++Cy v.past++32 :: MU v)
theorem R6 {x:UInt8}:∀ {a a' b b':List UInt8},a++x :: b=a'++x :: b'->x∉a->x∉a'->a=a'/\b=b'
 | [],[],b,b',h,_,_=>⟨rfl,by simpa using h⟩
 | [],y :: a',b,b',h,_,h'=>by simp only[zf8,zf9,List.cons.injEq] at h;exact absurd (by simp[h.1]) h'
 | y :: a,[],b,b',h,h',_=>by simp only[zf8,zf9,List.cons.injEq] at h;exact absurd (by simp[h.1]) h'
 | y :: a,z :: a',b,b',h,h1,h2=>by simp only[zf9,List.cons.injEq] at h;simp only[zfL,not_or] at h1 h2;obtain ⟨e1,e2⟩:=R6 h.2 h1.2 h2.2;exact ⟨by rw[h.1,e1],e2⟩
theorem SF:(32:UInt8)∉HZ t:=by unfold HZ;simp only[zfF,zfL,not_or];exact ⟨Lc (by decide),by decide,Lc (by decide)⟩
theorem ZY {u:Tag} (ht:Bd t.time t.place=true) (hu:Bd u.time u.place=true) (h:HZ t=HZ u):t=u:=by
 have h1:=Gi ht;have h2:=Gi hu;obtain ⟨e1,e2⟩:=R6 h (Lc (by decide)) (Lc (by decide));have e1:=Ts e1;have e2:=Ts e2;cases t;cases u;simp only[Tag.mk.injEq] at *
 omega
theorem QX:∀ {p q:List Tag}{r s:List UInt8},p.length=q.length->(∀ t∈p,Bd t.time t.place=true)->(∀ t∈q,Bd t.time t.place=true) ->
  Cy p++32 :: r=Cy q++32 :: s->p=q/\r=s
 | [],[],r,s,_,_,_,h=>⟨rfl,by simpa [Cy] using h⟩
 | [],_ :: _,_,_,h,_,_,_=>by simp at h
 | _ :: _,[],_,_,h,_,_,_=>by simp at h
 | t :: p,u :: q,r,s,hl,hp,hq,h=>by
  have e:∀ (x:List Tag) (z:List UInt8),∃ w,Cy x++32 :: z=32 :: w:=by
   intro x z;cases x with
   | nil=>exact ⟨z,rfl⟩
   | cons a x=>exact ⟨_,by simp only[Cy,zhd,zf9];rfl⟩
  obtain ⟨w1,hw1⟩:=e p r;obtain ⟨w2,hw2⟩:=e q s;have h0:HZ t++(Cy p++32 :: r)=HZ u++(Cy q++32 :: s):=by simpa [Cy,zhd] using h
  rw[hw1,hw2] at h0;obtain ⟨e1,e2⟩:=R6 h0 SF SF;have et:=ZY (hp t (by simp)) (hq u (by simp)) e1;obtain ⟨e3,e4⟩:=QX (by simpa using hl) (λx hx=>hp x (by simp[hx])) (λx hx=>hq x (by simp[hx])) (show Cy p++32 :: r=Cy q++32 :: s by rw[hw1,hw2,e2]);exact ⟨by rw[et,e3],e4⟩
theorem LB {p:List Tag} (h:Bt p=true):∀ t∈p,Bd t.time t.place=true:=by simp only[Bt,E1,zfW] at h;exact h.2
theorem AZ (h:BO v=true):(0<=v.key/\v.key<=3)/\GM v.text=true/\(v.gone=true->v.text.size=0)/\Bt v.past=true/\Bd v.tag.time v.tag.place=true/\Fm v.past<v.tag.time:=by
 simp only[BO,HS,Aj,E1,decide_eq_true_eq,zgJ,zgG,Gm] at h;obtain ⟨⟨⟨⟨⟨⟨h1,h2⟩,h3⟩,h4⟩,h5⟩,h6⟩,h7⟩:=h;refine ⟨⟨h1,h2⟩,h3,λhg=>?_,h5,h6,h7⟩;rcases h4 with h4 | h4
 ·rw[hg] at h4;cases h4
 ·exact h4
theorem Nj {t:ByteArray} (h:s.data.toList=t.data.toList):s=t:=by rw[<- ZF s,<- ZF t,h]
theorem Qi (h:s.size=0):s.data.toList = []:=zfM (by simpa using h)
theorem ZX (hv:BO v=true) (hu:BO u=true) (h:NT v=NT u):v=u:=by
 obtain ⟨⟨k1,k2⟩,_,g1,p1,t1,_⟩:=AZ hv;obtain ⟨⟨k3,k4⟩,_,g2,p2,t2,_⟩:=AZ hu;obtain ⟨e1,e2⟩:=R6 h (Lc (by decide)) (Lc (by decide));have e1:=Ts e1;have l1:=BX p1;have l2:=BX p2;have e3:Cy (v.tag :: v.past)++32 :: MU v=Cy (u.tag :: u.past)++32 :: MU u:=by simp only[Cy,zhd,zf9,zfS] at e2 ⊢;rw[e2]
 obtain ⟨e4,e5⟩:=QX (by simp[l1,l2]) (λt ht=>by
  rcases zfL.1 ht with rfl | ht
  ·exact t1
  ·exact LB p1 t ht) (λt ht=>by
  rcases zfL.1 ht with rfl | ht
  ·exact t2
  ·exact LB p2 t ht) e3
 injection e4 with e6 e7;have e8:v.gone=u.gone/\v.text=u.text:=by
  unfold MU at e5;cases hg:v.gone<;>cases hg2:u.gone<;>simp only[hg,hg2,cond_true,cond_false,List.cons.injEq] at e5
  ·exact ⟨rfl,Nj e5.2⟩
  ·exact absurd e5.1 (by decide)
  ·exact absurd e5.1 (by decide)
  ·exact ⟨rfl,Nj (by rw[Qi (g1 hg),Qi (g2 hg2)])⟩
 cases v;cases u;simp only[Ver.mk.injEq] at *
 exact ⟨by omega,e6,e7,e8.2,e8.1⟩
theorem same_iff:CR v u=true<->v=u:=by
 cases v with | mk k1 t1 p1 s1 g1=>cases u with | mk k2 t2 p2 s2 g2 =>
 cases t1;cases t2;simp only[CR,E1,beq_iff_eq,decide_eq_true_eq,Ver.mk.injEq,Tag.mk.injEq];constructor
 ·rintro ⟨⟨⟨⟨h1,h2⟩,h3⟩,h4⟩,h5⟩
  exact ⟨h1,h2,h3,Nj (by rwa [zg4,zg4] at h4),h5⟩
 ·rintro ⟨h1,h2,h3,h4,h5⟩
  exact ⟨⟨⟨⟨h1,h2⟩,h3⟩,by rw[h4]⟩,h5⟩
theorem YC (hv:BO v=true) (hu:BO u=true):(NT v==NT u)=CR v u:=by rw[zgn,beq_iff_eq,same_iff];exact ⟨ZX hv hu,λh=>by rw[h]⟩
section
variable {lo:Nat}{ro ro':Bool}{h:Heap}{F F':List Nat}{a a':Pq}{c c':Nq}
theorem Wc {n:Int} (h0:0<=n) (h1:n<10):I8 [IntKind.wrap .u8 (Ap (48+n))]=tx [UInt8.ofNat (48+n.toNat)]:=by
 have e:IntKind.wrap .u8 (Ap (48+n))=((48+n.toNat:Nat):Int):=by
  rw[wr (by omega) (by omega)];obtain ⟨k,rfl⟩:=Int.eq_ofNat_of_zero_le h0;have:k<10:=by omega
  rcases k with _ | _ | _ | _ | _ | _ | _ | _ | _ | _ | k<;>first | rfl | omega
 rw[e];rfl
theorem NO:∀ {n:Int},0<=n->n<=1000000000->∀ {lo:Nat}{h:Heap},Af lo 304 [Iv n] h=some (.str (tx (L4 n.toNat)),h):=by
 suffices ∀ (m:Nat) (n:Int),n.toNat=m->0<=n->n<=1000000000->∀ {lo:Nat}{h:Heap},Af lo 304 [Iv n] h=some (.str (tx (L4 n.toNat)),h) from λ{n} h0 h1 {lo}{h}=>this n.toNat n rfl h0 h1;intro m;induction m using Nat.strongRecOn with
 | ind m ih =>
  intro n hm h0 h1 lo h;by_cases h10:n<10
  ·refine Ph (h':=h ++ [.rows 1 5 false [[.int .u8 (IntKind.wrap .u8 (Ap (48+n)))]]]) ?_;rw[Ai (by omega),Ai (by omega),Ak h10];simp only[A2,Gr,Ae];rw[Wc h0 h10];unfold L4;rw[if_pos (by omega)]
  ·have e1:n.tdiv 10=n / 10:=Int.tdiv_eq_ediv_of_nonneg h0;have e2:n.tmod 10=n % 10:=Int.tmod_eq_emod_of_nonneg h0;refine Ph (h':=h ++ [.rows 1 5 false [[.int .u8 (IntKind.wrap .u8 (Ap (48+n.tmod 10)))]]]) ?_;have hl:=Ld (n / 10).toNat;rw[Ai (by omega),Ai (by omega),Ai h10,e1,wr (by omega) (by omega),ih (n / 10).toNat (by omega) (n / 10) rfl (by omega) (by omega)];simp only[Ad,A4,A2,Gr,Ae];rw[e2,Wc (by omega) (by omega),Ij (by rw[DD,DD];simp only[zf0];omega),JJ];conv=>rhs;unfold L4
   rw[if_neg (by omega),show (n / 10).toNat=n.toNat / 10 by omega,show (n % 10).toNat=n.toNat % 10 by omega]
theorem NU (h:Bd t.time t.place=true):(HZ t).length<=1010:=by have h1:=Gi h;have h2:=Ld t.time.toNat;have h3:=Ld t.place.toNat;simp only[HZ,zfR,zgw];omega
theorem Su (ht:Bd t.time t.place=true):Af lo 305 [.agg [Iv t.time,Iv t.place]] h=some (.str (tx (HZ t)),h):=by have h1:=Gi ht;have h2:=Ld t.time.toNat;have h3:=Ld t.place.toNat;refine XS (h':=h) ?_;rw[NO (by omega) (by omega)];simp only[Ad,A4];rw[Ij (by rw[DD,DD];simp only[zf0];omega),JJ,NO (by omega) (by omega)];simp only[Ad,A4];rw[Ij (by rw[DD,DD];simp only[zfR,zf0];omega),JJ];simp[HZ]
theorem QW (h:∀ t∈l,Bd t.time t.place=true):(Cy l).length<=1011*l.length:=by
 induction l with
 | nil=>simp[Cy]
 | cons t l ih =>have h1:=ih λx hx=>h x (by simp[hx]);have h2:=NU (h t (by simp));simp only[Cy,zhd,zfR,zgw] at h1 ⊢;omega
theorem Yp (hs:RTags ro h [.sl 2 a l.length c] l F) (hp:∀ t∈l,Bd t.time t.place=true) (hn:l.length<=1048576):Af lo 306 [.agg [.sl 2 a l.length c]] h=some (.str (tx (Cy l)),h):=by
 refine U2 (h':=h) ?_;have loop:∀ m i,m+i=l.length->D5 (List.length h) (tx (Cy (l.take i))) (i:Nat) a l.length c h=some (.str (tx (Cy l)),h):=by
  intro m;induction m with
  | zero =>
   intro i hi;have:i=l.length:=by omega
   subst this;rw[D5.e,Ai (by omega),zhm]
  | succ m ih =>
   intro i hi;have hlt:i<l.length:=by omega
   obtain ⟨o,ha,ho⟩:=hs.get hlt;have hl:=QW (l:=l.take i) λt ht=>hp t (zhe ht);have hl2:=NU (hp _ (zfD hlt));simp only[zf2] at hl;rw[D5.e,Ak (by omega),Ij (by rw[DD,DD];simp only[zf0];omega),Ac hlt];simp only[ha,Ae,AW,ho,Ab,Aa,Ag];rw[Su (hp _ (zfD hlt))];simp only[Ad,A4];rw[JJ,Ij (by rw[DD,DD];simp only[zfR,zf0];omega),JJ,Am (by omega),<- ha];have e9:Cy (l.take (i+1))=Cy (l.take i) ++ [32]++HZ l[i]:=by rw[List.take_add_one,EM hlt];simp only[Cy,Option.toList,List.flatMap_append,zhd,List.flatMap_nil,zgc,zfS,List.singleton_append]
   have:=ih (i+1) (by omega);rw[e9] at this;exact this
 simpa [Cy] using loop l.length 0 (by omega)
theorem Ja (h:GM s=true):s.size<=8:=by simp only[GM,E1,decide_eq_true_eq] at h;omega
theorem Sr (hs:RTags ro h [.sl 2 a v.past.length c] v.past F) (hv:BO v=true):Af lo 286 [.agg (v.cs a c)] h=some (.str (tx (NT v)),h):=by
 obtain ⟨⟨k1,k2⟩,ht,_,hp,htg,_⟩:=AZ hv;have h0:=Ja ht;have h4:=BX hp;have h1:=Ld v.key.toNat;have h2:=NU htg;have h3:=QW (LB hp);rw[h4] at h3;have e:=λlo=>Yp (lo:=lo) hs (LB hp) (by omega);have hts:(⟨⟨[61]⟩⟩:ByteArray)++v.text=tx (61 :: v.text.data.toList):=by rw[<- ZF v.text];exact JJ
 have key:∀ (r:List UInt8) {T:Type} (K:ByteArray->Heap->Option T),r.length<=9->(Al (Af (List.length h) 304 [Iv v.key] h) λv_1 h_2=>eT v_1 λs_3=>Pd s_3 ⟨⟨[32]⟩⟩ λs_4=>Al (Af (List.length h) 305 [.agg [Iv v.tag.time,Iv v.tag.place]] h_2) λv_5 h_6=>eT v_5 λs_7=>Pd s_4 s_7 λs_8 =>
   Al (Af (List.length h) 306 [.agg [.sl 2 a v.past.length c]] h_6) λv_9 h_10=>eT v_9 λs_11=>Pd s_8 s_11 λs_12=>Pd s_12 ⟨⟨[32]⟩⟩ λs_13=>Pd s_13 (tx r) λs_14=>K s_14 h_10)=K (tx (L4 v.key.toNat++32 ::(HZ v.tag++Cy v.past++32 :: r))) h:=by
  intro r T K hr;rw[NO (by omega) (by omega)];simp only[Ad,A4];rw[Ij (by rw[DD,DD];simp only[zf0];omega)];rw[Su htg];simp only[Ad,A4];rw[JJ,Ij (by rw[DD,DD];simp only[zfR,zf0];omega)];rw[e];simp only[Ad,A4];rw[JJ,Ij (by rw[DD,DD];simp only[zfR,zf0];omega)];rw[JJ,Ij (by rw[DD,DD];simp only[zfR,zf0];omega)];rw[JJ,Ij (by rw[DD,DD];simp only[zfR,zf0];omega)];rw[JJ];simp
 refine XQ (h':=h) ?_;rw[Ij (by rw[DD];simp only[zf0];omega),hts];cases hg:v.gone
 ·rw[Ay];refine (key (61 :: v.text.data.toList) (T:=V×Heap) (λs h=>some (V.str s,h)) (by simp;omega)).trans ?_;simp[NT,MU,hg]
 ·rw[Aq];refine (key [45] (T:=V×Heap) (λs h=>some (V.str s,h)) (by simp)).trans ?_;simp[NT,MU,hg]
theorem Mf (hs:RTags ro h [.sl 2 a v.past.length c] v.past F) (hs':RTags ro' h [.sl 2 a' u.past.length c'] u.past F') (hv:BO v=true) (hu:BO u=true) :
  Af lo 248 [.agg (v.cs a c),.agg (u.cs a' c')] h=some (.bool (CR v u),h):=by
 refine U1 (h':=h) ?_;rw[Sr hs hv];simp only[Ad,A4];rw[Sr hs' hu];simp only[Ad,A4,zbr];rw[YC hv hu];cases CR v u<;>rfl
end


variable {l:List Ver}{v:Ver}{ro:Bool}
theorem Sli.at {α:Type}{El:Rel α} (ok:El.Ok) {h:Heap}{R R' e n k lo:Nat}{a:Pq}{c:Nq}{l:List α}{F:List Nat} (hs:Sli false R e El h [.sl R' a n c] l F) (hk:k<l.length) (hnd:F.Nodup) (hlo:∀ b∈F,lo<=b) :
  ∃ b i rs row G,a=some (b,i)/\b∈F/\b∉G/\h[b]?=some (.rows R e false rs)/\rs[i+k]?=some row/\El h row l[k] G/\(∀ y∈G,y∈F)/\G.Nodup /\
   (∀ h' x' G',Mv h G h' G'->El h' row x' G'->∃ F',Sli false R e El h' [.sl R' a n c] (l.set k x') F'/\Mv h F h' F') /\
   (∀ h1 G1 j cs row' x',Mv h G h1 G1->paste row j cs=some row'->El h1 row' x' G1 ->
    ∃ h2 F',st lo h1 b (i+k) j cs=some h2/\Sli false R e El h2 [.sl R' a n c] (l.set k x') F'/\Mv h F h2 F'/\h2[b]?=some (.rows R e false (rs.set (i+k) row'))/\(∀ y,y≠b->h2[y]?=h1[y]?)/\h2.length=h1.length):=by
 have hbd:=(Sli.ok ok).bd _ _ _ _ hs;obtain ⟨b,i,rs,row,G,ha,hbF,hbG,hb,hrow,hel,hGF,hGn,put⟩:=hs.put ok.fr hk hnd;have hblt:b<h.length:=hbd b hbF;refine ⟨b,i,rs,row,G,ha,hbF,hbG,hb,hrow,hel,hGF,hGn,λh' x' G' m hx=>?_,λh1 G1 j cs row' x' m hp hx=>?_⟩
 ·obtain ⟨F',p1,p2,p3,_⟩:=put h' row x' G' (by rw[set_same hrow,m.fr b hblt hbG];exact hb) (λy hy _ hyG=>m.fr y (hbd y hy) hyG) hx m.nd (λy hy hyF=>by
   rcases m.sub y hy with h1 | h1
   ·exact h1
   ·have:=hbd y hyF;omega)
  refine ⟨F',p1,m.le,λy hy hyF=>m.fr y hy λhg=>hyF (hGF y hg),p3,λy hy=>?_⟩;rcases p2 y hy with h1 | h1
  ·exact .inl h1.1
  ·exact (m.sub y h1).imp (hGF y) id
 ·have hbG1:b∉G1:=λhm=>by
   rcases m.sub b hm with h1 | h1
   ·exact hbG h1
   ·omega
  have hb1:h1[b]?=some (.rows R e false rs):=by rw[m.fr b hblt hbG];exact hb
  have hb1lt:b<h1.length:=zfO hblt m.le;have e2:=B4 hb1 (hlo b hbF) hrow hp;have fr2:∀ y,y≠b->(h1.set b (.rows R e false (rs.set (i+k) row')))[y]?=h1[y]?:=λy hy=>zfJ (Ne.symm hy);obtain ⟨F',p1,p2,p3,_⟩:=put (h1.set b (.rows R e false (rs.set (i+k) row'))) row' x' G1 (by simp[hb1lt]) (λy hy hyb hyG=>by rw[fr2 y hyb];exact m.fr y (hbd y hy) hyG)
   (ok.fr _ _ _ _ _ hx λy hy=>fr2 y λe=>hbG1 (e ▸ hy)) m.nd (λy hy hyF=>by
   rcases m.sub y hy with h1 | h1
   ·exact h1
   ·have:=hbd y hyF;omega)
  refine ⟨_,F',e2,p1,⟨by simpa using m.le,λy hy hyF=>?_,p3,λy hy=>?_⟩,by simp[hb1lt],fr2,by simp⟩
  ·rw[fr2 y λe=>hyF (e ▸ hbF)];exact m.fr y hy λhg=>hyF (hGF y hg)
  ·rcases p2 y hy with h1 | h1
   ·exact .inl h1.1
   ·refine (m.sub y h1).imp (hGF y) λh=>by simpa using h
def Bb (v u:Ver):Bool:=Ic v.tag.time v.tag.place u.tag.time u.tag.place
def Dh (s t:List Ver):Bool:=decide (s.length=t.length)&&(s.zip t).all λx=>CR x.1 x.2
theorem sameVers_iff {s t:List Ver}:Dh s t=true<->s=t:=by
 unfold Dh;rw[E1,decide_eq_true_eq,zfW];constructor
 ·rintro ⟨hl,hx⟩
  apply List.ext_getElem hl;intro i h1 h2;have:=hx (s[i],t[i]) (by rw[zgh];exact ⟨i,by simp;omega,by simp⟩);exact same_iff.1 this
 ·rintro rfl
  refine ⟨rfl,λx hx=>?_⟩;obtain ⟨i,hi,rfl⟩:=zgh.1 hx;simp[same_iff]
def Hx (l:List Ver) (v:Ver):List Ver:=match l[v.key.toNat]? with
 | some x=>bif Bb x v then l.set v.key.toNat v else l
 | none=>l
theorem Od (h:v.key.toNat<l.length):Hx l v=bif Bb l[v.key.toNat] v then l.set v.key.toNat v else l:=by unfold Hx;rw[EM h]
theorem zaH:(Hx l v).length=l.length:=by
 unfold Hx;split
 ·cases Bb _ v<;>simp
 ·rfl
theorem zcm (h:BO v=true):I9 v.key.toNat v=true:=by have:=(AZ h).1;unfold I9;rw[h,show (v.key==((v.key.toNat:Nat):Int))=true by rw[beq_iff_eq];omega];simp
theorem QL (hl:A5 l=true) (hv:BO v=true):A5 (l.set v.key.toNat v)=true:=by
 have h4:=A6 hl;unfold A5;rw[E1,zfW,decide_eq_true_eq];refine ⟨λx hx=>?_,by simpa using h4⟩;rw[zgW] at hx;have hi:=(Ga hx).1;rw[List.getElem?_set] at hx;split at hx
 ·rename_i he
  split at hx
  ·injection hx with hx;rw[<- hx,<- he];exact zcm hv
  ·cases hx
 ·rw[EM (by simpa using hi)] at hx;injection hx with hx;rw[<- hx];exact CK hl _
def Ig:List Ver->List Ver->Option (List Ver)
 | s,[]=>some s
 | s,v :: r=>match s[v.key.toNat]? with
  | some x=>bif Bb x v then Ig (s.set v.key.toNat v) r else none
  | none=>none
def fits (x:Node) (next:List Ver):Bool:=match Ig next x.wait with
 | some s=>Dh s x.store
 | none=>false
def Eh (x:Node):Bool:=A5 x.store&&decide ((x.wait.length:Int)<=6)&&x.wait.all BO
def GN (l:List Node) (k:Nat) (x:Node):Bool:=match l[k+1]? with
 | some y=>fits x y.store
 | none=>decide (x.wait.length=0)
def DS (l:List Node):Bool:=Aj l.length 1 4&&l.all Eh&&l.zipIdx.all λx=>GN l x.2 x.1
theorem AQ {x:Node} (h:Eh x=true):A5 x.store=true/\x.wait.length<=6/\∀ v∈x.wait,BO v=true:=by simp only[Eh,E1,decide_eq_true_eq,zfW] at h;exact ⟨h.1.1,by have:=h.1.2;omega,h.2⟩
section
variable {lo:Nat}{h:Heap}{F F':List Nat}{a a':Pq}{c c':Nq}
theorem N4 {ca:Pq}{cc:Nq}{n:Nat} (hs:RVers ro h [.sl 6 a l.length c] l F) (hk:0<=v.key/\v.key<l.length) :
  Af lo 210 [.agg [.sl 6 a l.length c],.agg [Iv v.key,Iv v.tag.time,Iv v.tag.place,.sl 2 ca n cc,.str v.text,.bool v.gone]] h=some (.bool (Bb (l[v.key.toNat]'(by omega)) v),h):=by
 refine Oj (h':=h) ?_;obtain ⟨o,s,b,d,G,ha,_,_,_,_,_,_,ho12,_⟩:=hs.all (show v.key.toNat<l.length by omega);rw[BY ⟨by omega,by omega⟩,ha];simp only[Ae,ho12,Ab,Aa,Ag,Fo,Ad,Ar];unfold Bb;cases Ic _ _ _ _<;>rfl
theorem Mu {l':List Ver}{ro':Bool} (hs:RVers ro h [.sl 6 a l.length c] l F) (hs':RVers ro' h [.sl 6 a' l'.length c'] l' F') (hn:Ci l) :
  Af lo 234 [.sl 6 a l.length c,.sl 6 a' l'.length c',.fn 155 []] h=some (.bool (Dh l l'),h):=by
 have hn1:=hn.1;refine Ed (h':=h) ?_;unfold Dh;by_cases hl:l.length=l'.length
 ·rw[show ((l.length:Int)==(l'.length:Int))=true by simp;omega,Aq,decide_eq_true hl];have hz:(l.zip l').length=l.length:=by simp;omega
  refine (BB (p:=λx:Ver×Ver=>CR x.1 x.2) (l:=l.zip l') (λi=>Av (List.length h) a' l'.length c' 155 [] false a l.length c (l.length:Nat) (i:Nat) h) (some (.bool false,h)) (some (.bool true,h)) (λi hi=>?_) ?_).trans ?_
  ·have hil:i<l.length:=by omega
   have hil':i<l'.length:=by omega
   obtain ⟨o,s,b,d,G,ha,ho,es,hp,_⟩:=hs.get hil;obtain ⟨o',s',b',d',G',ha',ho',es',hp',_⟩:=hs'.get hil';rw[Av.e,Ak (by omega),Ac hil];simp only[ha,ha',Ae,AW,ho,ho',Ab,Aa,es,es',A4,AB,Ag,Ac hil',Dl,zgc];rw[VZ hp hp' (hn.2 _ (zfD hil)).1];simp only[Ad,Ar,zg8,Am (show i<9223372036854775807 by omega)];cases CR l[i] l'[i]<;>simp
  ·rw[hz,Av.e,Ai (by omega)]
  ·cases (l.zip l').all λx=>CR x.1 x.2<;>rfl
 ·rw[show ((l.length:Int)==(l'.length:Int))=false by simp;omega,Ay,decide_eq_false hl];rfl
theorem Rv {l':List Ver}{ro':Bool} (hs:RVers ro h [.sl 6 a l.length c] l F) (hs':RVers ro' h [.sl 6 a' l'.length c'] l' F') (hn:Ci l) :
  Af lo 211 [.agg [.sl 6 a l.length c],.agg [.sl 6 a' l'.length c']] h=some (.bool (Dh l l'),h):=by
 refine Pu (h':=h) ?_;rw[Mu hs hs' hn];simp only[Ad,Ar];cases Dh l l'<;>rfl
theorem Ss {av:Pq}{cv:Nq}{G:List Nat} (hs:RVers false h [.sl 6 a l.length c] l F) (hv:RTags false h [.sl 2 av v.past.length cv] v.past G)
  (hnd:F.Nodup) (hlo:∀ b∈F,lo<=b) (hl:lo<=h.length) (hk:0<=v.key/\v.key<l.length) (hn:v.past.length<=1048576) :
  ∃ h' F',Af lo 198 [.agg [.sl 6 a l.length c],.agg (v.cs av cv)] h=some (.agg [.sl 6 a l.length c],h')/\RVers false h' [.sl 6 a l.length c] (Hx l v) F'/\Mv h F h' F':=by
 have hkl:v.key.toNat<l.length:=by omega
 obtain ⟨o,s,b,d,G1,ha,_,_,_,_,_,_,ho12,_⟩:=hs.all hkl;suffices hk:∃ h' F',_=some (V.agg [.sl 6 a l.length c],h')/\RVers false h' [.sl 6 a l.length c] (Hx l v) F'/\Mv h F h' F' from hk.imp λh' hk=>hk.imp λF' hk=>⟨XR hk.1,hk.2⟩
 rw[BY ⟨by omega,by omega⟩];simp only[ha,Ae,ho12,Ab,Aa,Ag,B9,Ad,Ar];rw[Od hkl];show ∃ h' F',br (Bb l[v.key.toNat] v) _ _=_/\_;cases hle:Bb l[v.key.toNat] v with
 | false=>exact ⟨h,F,rfl,by rw[<- ha];exact hs,Mv.refl hnd⟩
 | true =>
  obtain ⟨b2,i2,rs,row,G2,ha2,hb2,hbG2,hbb,hrow,hel,hGF,hGn,_,wr⟩:=hs.at rver_ok hkl hnd hlo;obtain ⟨a3,c3,h3,F3,e3,r3,m3⟩:=DK (lo:=lo) (v:=v) hv hl hn;have hab:o=(b2,i2):=by rw[ha] at ha2;injection ha2
  subst hab;obtain ⟨h4,F4,e4,r4,m4,_⟩:=wr h3 F3 0 (v.cs a3 c3) (v.cs a3 c3) v (m3.wide (by simp)) (HH (by obtain ⟨s,rfl,_⟩:=hel;rfl)) ⟨_,rfl,r3⟩;rw[Aq,e3];simp only[Ad,AN,Ab,Aa,Ah,A4,AB,Ag];rw[BY ⟨by omega,by omega⟩,e4];exact ⟨h4,F4,rfl,by rw[<- ha];exact r4,m4⟩
end


variable {l:List Ver}{v:Ver}
theorem Wi {T:Type}{b:Bool}{x y:Option T}:br b x y=if b=true then x else y:=by cases b<;>rfl
theorem Sli.row {α:Type}{El:Rel α} (hfr:El.Fr) {R R' e n k lo b i:Nat} (hln:El.Ln R) {h:Heap}{c:Nq}{l:List α}{G Gx:List Nat}{row:List V}{x:α} (hs:Sli false R e El h [.sl R' (some (b,i)) n c] l (b :: G)) (hb:b∉G) (hk:k<l.length) (hlo:lo<=b)
  (hx:El h row x Gx) (hbx:b∉Gx):∃ h' G',st lo h b (i+k) 0 row=some h'/\Sli false R e El h' [.sl R' (some (b,i)) n c] (l.set k x) (b :: G')/\b∉G'/\h'.length=h.length/\∀ y,y≠b->h'[y]?=h[y]?:=by
 have hn:=hs.val;subst hn;obtain ⟨R1,a1,c1,e1,e2⟩:=hs;injection e1 with e1 _;injection e1 with e0 e3 _ e4;subst e0;subst e3;subst e4;obtain ⟨hR,rs,Fs,g1,g2,g3,g4,g5,g6⟩:=e2;injection g6 with _ g6;subst g6;obtain ⟨row0,G0,k1,k2,k3⟩:=g5.get (EM hk);have hblt:b<h.length:=(Ga g1).1;have hrow:rs[i+k]?=some row0:=by rw[zg3 hk,zf4] at k1;exact k1
 have hp:paste row0 0 row=some row:=HH (by rw[hln _ _ _ _ k3,hln _ _ _ _ hx]);have fr2:∀ y,y≠b->(h.set b (.rows R e false (rs.set (i+k) row)))[y]?=h[y]?:=λy hy=>zfJ (Ne.symm hy);have hl1:((rs.set (i+k) row).drop i).take l.length=((rs.drop i).take l.length).set k row:=by rw[List.drop_set,if_neg (by omega),show i+k - i=k by omega,List.take_set]
 refine ⟨_,(Fs.set k Gx).flatten,B4 g1 hlo hrow hp,⟨R',some (b,i),c,by simp,hR,rs.set (i+k) row,Fs.set k Gx,by simp[hblt],by simpa using g2,λq hq=>by simpa using g3 q hq,g4,?_,rfl⟩,λhm=>?_,by simp,fr2⟩
 ·rw[zf6,hl1];exact EAll.set (g5.fr hfr λy hy=>fr2 y λe=>hb (e ▸ hy)) (hfr _ _ _ _ _ hx λy hy=>fr2 y λe=>hbx (e ▸ hy))
 ·rcases FE hm with h6 | h6
  ·exact hb h6
  ·exact hbx h6
theorem zd3 {ro:Bool}:(RVer ro).Ln 6:=by rintro h cs x F ⟨s,rfl,_⟩;rfl
theorem Ls (h:Hc v=true):v=⟨0,⟨0,0⟩,[],⟨⟨[]⟩⟩,false⟩:=by obtain ⟨k,⟨t1,t2⟩,p,s,g⟩:=v;simp only[Hc,Gm,E1,beq_iff_eq,decide_eq_true_eq,zgG] at h;obtain ⟨⟨⟨⟨h1,h2,h3⟩,h4⟩,h5⟩,h6⟩:=h;simp only[Ver.mk.injEq,Tag.mk.injEq];exact ⟨h1,⟨h2,h3⟩,zfM h4,Nj (by rw[Qi h5]),h6⟩
theorem Di {i:Nat} (h:I9 i v=true):Hc v=true\/(BO v=true/\v.key=i):=by simp only[I9,zgJ,E1,beq_iff_eq] at h;exact h
theorem E8 (h:Hc v=true):v.tag.time=0/\v.tag.place=0:=by rw[Ls h];exact ⟨rfl,rfl⟩
theorem Sx {l':List Ver} (h:Ci l) (hl:l'.length<=1048576) (hs:∀ v∈l',v∈l):Ci l':=⟨hl,λv hv=>h.2 v (hs v hv)⟩
theorem Hk (h:A5 l=true):Ci l:=by
 refine ⟨by have:=A6 h;omega,λv hv=>?_⟩;obtain ⟨i,hi,rfl⟩:=zgh.1 hv;rcases Di (CK h hi) with h1 | ⟨h1,_⟩
 ·rw[Ls h1];exact ⟨by simp,by show 0<=_;omega⟩
 ·obtain ⟨_,h2,_,h3,_⟩:=AZ h1;have:=Ja h2;have:=BX h3;omega
section
variable {lo:Nat}{h:Heap}{F F':List Nat}{a a':Pq}{c c':Nq}
theorem W3 {n:Int}:Af lo 132 [Iv n] h=some (.bool (Aj n 1 4),h):=Uh (h':=h) (by simp[Be])
theorem P3 {n k:Nat} (hn:n<=1048576):Af lo 135 [.agg [.sl 2 a n c],Iv (k:Nat)] h=some (.bool (decide (k+1=n)),h):=by
 refine PC (h':=h) ?_;rw[wr (by omega) (by omega)];by_cases hk:k+1=n
 ·rw[show ((k:Int)==(n:Int) - 1)=true by rw[beq_iff_eq];omega,decide_eq_true hk];rfl
 ·rw[show ((k:Int)==(n:Int) - 1)=false by rw[beq_eq_false_iff_ne];omega,decide_eq_false hk];rfl
theorem zb0 {x:Node}{next:List Ver}{a1 a2 a3:Pq}{c1 c2 c3:Nq}{F1 F2 F3:List Nat} (hs1:RVers false h [.sl 6 a1 x.store.length c1] x.store F1) (hs2:RVers false h [.sl 6 a2 x.wait.length c2] x.wait F2)
  (hs3:RVers false h [.sl 6 a3 next.length c3] next F3) (hx:Eh x=true) (hnx:A5 next=true) :
  Af lo 136 [.agg [.sl 6 a1 x.store.length c1,.sl 6 a2 x.wait.length c2],.agg [.sl 6 a3 next.length c3]] h=some (.bool (fits x next),h):=by
 obtain ⟨hx1,hx2,hx3⟩:=AQ hx;obtain ⟨a5,c5,h5,F5,e5,r5,m5⟩:=Ie (lo:=h.length) hs3 (zfH _) (Hk hnx);have h4:=A6 hnx;suffices hk:∃ h',_=some (V.bool (fits x next),h') from hk.elim λh' hk=>QD hk;rw[e5];simp only[Ad,AN,Ab,Ah,Ag];have loop:∀ m i s hh b j G,m+i=x.wait.length->A5 s=true->RVers false hh [.sl 6 (some (b,j)) s.length c5] s (b :: G)->b∉G->h.length<=b->Mv h [] hh [] ->
   ∃ h',CJ (List.length h) false a2 x.wait.length c2 (x.wait.length:Nat) (i:Nat) a1 x.store.length c1 a2 x.wait.length c2 (some (b,j)) s.length c5 hh=some (V.bool (match Ig s (x.wait.drop i) with | some s=>Dh s x.store | none=>false),h'):=by
  intro m;induction m with
  | zero =>intro i s hh b j G hi hso hs hb hbl hm;rw[CJ.e,Ai (by omega),Rv hs (hm.keep0 rvers_ok hs1) (Hk hso),show i=x.wait.length by omega,List.drop_length];simp only[Ad,Ar,Ig];exact ⟨hh,by cases Dh s x.store<;>rfl⟩
  | succ m ih =>
   intro i s hh b j G hi hso hs hb hbl hm;have hlt:i<x.wait.length:=by omega
   have hvo:=hx3 _ (zfD hlt);have hk:=(AZ hvo).1;have hs4:=A6 hso;have hkl:x.wait[i].key.toNat<s.length:=by omega
   obtain ⟨o,sv,b',d',G',ha,ho,es,hp,hG'⟩:=(hm.keep0 rvers_ok hs2).get hlt;have hbl2:=rvers_ok.bd _ _ _ _ hs2;rw[CJ.e,Ak (by omega),Ac hlt];simp only[ha,Ae,AW,ho,Ab,Aa,es,A4,AB,Ag];rw[N4 (v:=x.wait[i]) hs ⟨by omega,by omega⟩];simp only[Ad,Ar];rw[zfT hlt];simp only[Ig,EM hkl];cases hle:Bb s[x.wait[i].key.toNat] x.wait[i] with
   | false=>exact ⟨hh,rfl⟩
   | true =>obtain ⟨h6,G6,e6,r6,n6,l6,f6⟩:=Sli.row rver_ok.fr zd3 hs hb hkl hbl (row:=x.wait[i].cs b' d') (x:=x.wait[i]) ⟨_,rfl,hp⟩ (λhm'=>by have:=hbl2 _ (hG' _ hm');omega);rw[Aq,BY ⟨by omega,by omega⟩,e6,cond_true];simp only[Ae];rw[<- ha,Am (by omega)];have m6:Mv h [] h6 []:=⟨by rw[l6];exact hm.le,λy hy hF=>by rw[f6 y (by omega)];exact hm.fr y hy hF,by simp,by simp⟩;have:=ih (i+1) (s.set x.wait[i].key.toNat x.wait[i]) h6 b j G6 (by omega) (QL hso hvo) (by rw[zf6];exact r6) n6 hbl m6;rw[zf6] at this;exact this
 have:∃ b j G,a5=some (b,j)/\F5=b :: G/\b∉G/\h.length<=b:=by obtain ⟨b,i,rs,Fs,h1,h2,_,_,_,_,rfl⟩:=r5.data (k:=0) (by omega);exact ⟨b,i,_,h1,rfl,(zfN.1 m5.nd).1,m5.new b (by simp)⟩
 obtain ⟨b,j,G,rfl,rfl,hb,hbl⟩:=this;have:=loop x.wait.length 0 next h5 b j G (by omega) hnx r5 hb hbl m5.drop
 exact this
theorem Xg {l:List Node} (hs:RNodes false h [.sl 2 a l.length c] l F) (hn:B8 l):Af lo 64 [.agg [.sl 2 a l.length c]] h=some (.bool (DS l),h):=by
 have hn1:=hn.1;refine Un (h':=h) ?_;rw[W3];simp only[Ad,Ar];unfold DS;cases hw:Aj (l.length:Int) 1 4 with
 | false=>rfl
 | true =>
  have hl4:1<=l.length/\l.length<=4:=by simp[Aj] at hw;omega
  rw[Aq];refine (BB (p:=Eh) (l:=l) (λi=>CQ (List.length h) false a l.length c (l.length:Nat) (i:Nat) a l.length c h) (some (.bool false,h)) (CQ (List.length h) false a l.length c (l.length:Nat) (l.length:Nat) a l.length c h) (λi hi=>?_) rfl).trans ?_
  ·obtain ⟨o,s1,s2,a1,c1,a2,c2,F1,F2,ha,ho,_,_,e1,e2,p1,p2,_⟩:=hs.get hi;have hm:=hn.2 _ (zfD hi);rw[CQ.e,Ak (by omega),Ac hi];simp only[ha,Ae,AW,ho,Ab,e1,e2,Ag];rw[Xb p1 hm.1];simp only[Ad,Ar];rw[Lr (p:=λv => !BO v) p2 hm.2.1 (λlo v av cv Gv hv hvp=>QF (h':=h) (by rw[LL hvp (hm.2.2 v hv)];simp only[Ad,Ar];cases BO v<;>rfl))];simp only[Ad,Ar,Am (show i<9223372036854775807 by omega),<- ha];unfold Eh;rw[zg5];simp only[Bool.not_not];by_cases h6:(l[i].wait.length:Int)<=6
   ·rw[Ai (by omega),decide_eq_true h6];cases A5 l[i].store<;>cases l[i].wait.all BO<;>simp
   ·rw[Ak (by omega),decide_eq_false h6];cases A5 l[i].store<;>simp
  ·cases hall:l.all Eh with
   | false=>rfl
   | true =>
    rw[if_pos rfl,CQ.e,Ai (by omega)];have hno:=zfW.1 hall;refine (Kw (p:=GN l) (l:=l) (λi=>BN (List.length h) false a l.length c (l.length:Nat) (i:Nat) a l.length c h) (some (.bool false,h)) (some (.bool true,h)) (λi hi=>?_) ?_).trans ?_
    ·obtain ⟨o,s1,s2,a1,c1,a2,c2,F1,F2,ha,ho,_,_,e1,e2,p1,p2,_⟩:=hs.get hi;have hm:=hn.2 _ (zfD hi);rw[BN.e,Ak (by omega),Ac hi];simp only[ha,Ae,AW,ho,Ab,e1,e2,Ag,P3 hn1,Ad,Ar];by_cases hk:i+1=l.length
     ·rw[decide_eq_true hk,Aq,Aq];unfold GN;rw[zgj (by omega)];simp only[Am (show i<9223372036854775807 by omega)];by_cases h0:l[i].wait.length=0
      ·rw[Ai (by omega),decide_eq_true h0];rfl
      ·rw[Ak (by omega),decide_eq_false h0];rfl
     ·have hi1:i+1<l.length:=by omega
      obtain ⟨o',s1',s2',a1',c1',a2',c2',F1',F2',ha',_,ho1',_,e1',_,p1',_⟩:=hs.get hi1;have hoo:o'=o:=by rw[ha] at ha';injection ha' with ha';exact ha'.symm
      subst hoo;rw[decide_eq_false hk,Ay];unfold GN;rw[EM hi1];simp only[Ay,Am (show i<9223372036854775807 by omega)];rw[Ac hi1];simp only[AW,ho1',Ae,Ab,e1',Ag];rw[zb0 p1 p2 p1' (hno _ (zfD hi)) (AQ (hno _ (zfD hi1))).1];simp only[Ad,Ar];exact Wi
    ·rw[BN.e,Ai (by omega)]
    ·cases (l.zipIdx.all λx=>GN l x.2 x.1)<;>simp
end


variable {l:List Node}
theorem Ca (h:DS l=true):(1<=l.length/\l.length<=4)/\∀ x∈l,Eh x=true:=by simp only[DS,Aj,E1,decide_eq_true_eq,zfW] at h;exact ⟨⟨by omega,by omega⟩,h.1.2⟩
theorem Pc (h:DS l=true) {i:Nat} (hi:i<l.length):GN l i l[i]=true:=by simp only[DS,E1,zfW] at h;exact h.2 (l[i],i) (by rw[zgW];simp[hi])
theorem EX {α:Type}{p:Nat->α->Bool}{l:List α}:(l.zipIdx.all λx=>p x.2 x.1)=true<->∀ i (hi:i<l.length),p i l[i]=true:=by
 rw[zfW];constructor
 ·intro h i hi;exact h (l[i],i) (by rw[zgW];simp[hi])
 ·rintro h ⟨x,i⟩ hx
  rw[zgW] at hx;obtain ⟨hi,hx⟩:=Ga hx;have:=h i hi;simp only at hx;rw[hx] at this;exact this
theorem XH {α:Type}{p:α->Bool}{l:List α}:l.all p=true<->∀ i (hi:i<l.length),p l[i]=true:=by rw[zfW];exact ⟨λh i hi=>h _ (zfD hi),λh x hx=>by obtain ⟨i,hi,rfl⟩:=zgh.1 hx;exact h i hi⟩
def Jh (l:List Node) (k:Nat) (x:Node):Bool:=Eh x&&match l[k+1]? with
 | some y=>A5 y.store&&fits x y.store
 | none=>true
theorem Zo:DS l=((l.zipIdx.all λx=>Jh l x.2 x.1)&&(Aj l.length 1 4&&match l.getLast? with | some x=>decide (x.wait.length=0) | none=>false)):=by
 rw[zgn];unfold DS;simp only[E1];rw[EX (p:=GN l),EX (p:=Jh l),XH (l:=l)];constructor
 ·rintro ⟨⟨h1,h2⟩,h3⟩
  have hl:1<=l.length:=by simp[Aj] at h1;omega
  refine ⟨λi hi=>?_,h1,?_⟩
  ·have:=h3 i hi;unfold GN at this;unfold Jh;rw[h2 i hi];by_cases hi1:i+1<l.length
   ·rw[EM hi1] at this ⊢;simp only at this;simp only[this,(AQ (h2 _ hi1)).1,zho]
   ·rw[zgj (by omega)];rfl
  ·have:=h3 (l.length - 1) (by omega);unfold GN at this;rw[zgj (by omega)] at this;rw[zgZ,EM (by omega)];exact this
 ·rintro ⟨h1,h2,h3⟩
  have hno:∀ i (hi:i<l.length),Eh l[i]=true:=λi hi=>by have:=h1 i hi;simp only[Jh,E1] at this;exact this.1
  refine ⟨⟨h2,hno⟩,λi hi=>?_⟩;have:=h1 i hi;unfold Jh at this;unfold GN;by_cases hi1:i+1<l.length
  ·rw[EM hi1] at this ⊢;simp only[E1] at this;exact this.2.2
  ·rw[zgj (by omega)];rw[zgZ,EM (by omega)] at h3;have e:l.length - 1=i:=by omega
   simp only[e] at h3;exact h3
section
variable {lo:Nat}{h:Heap}{F F':List Nat}{a a':Pq}{c c':Nq}
theorem PR {s t:List Ver} (hs:RVers false h [.sl 6 a s.length c] s F) (hs':RVers false h [.sl 6 a' t.length c'] t F') (h1:A5 s=true) (h2:A5 t=true) :
  Af lo 199 [.agg [.sl 6 a s.length c],.agg [.sl 6 a' t.length c']] h=some (.bool (Dh s t),h):=by
 have l1:=A6 h1;have l2:=A6 h2;have hz:(s.zip t).length=4:=by simp;omega
 refine Of (h':=h) ?_;refine (BB (p:=λx:Ver×Ver=>CR x.1 x.2) (l:=s.zip t) (λi=>BF (List.length h) false (i:Nat) a s.length c a' t.length c' h) (some (.bool false,h)) (some (.bool true,h)) (λi hi=>?_) ?_).trans ?_
 ·have hi1:i<s.length:=by omega
  have hi2:i<t.length:=by omega
  obtain ⟨o,sv,b,d,G,ha,_,ho1,_,_,_,_,ho12,ho,es,hp,_⟩:=hs.all hi1;obtain ⟨o',sv',b',d',G',ha',_,_,_,_,_,_,ho12',ho',es',hp',_⟩:=hs'.all hi2;rw[BF.e,Ak (by omega),Ac hi1];simp only[ha,ha',Ae,AW,ho12,ho12',ho1,ho,ho',Ab,Aa,es,es',A4,AB,Ag,Ac hi1,Ac hi2,zgp,zg8,Am (show i<9223372036854775807 by omega)];have g1:=Di (CK h1 hi1);have g2:=Di (CK h2 hi2);cases htag:(s[i].tag.time==t[i].tag.time&&s[i].tag.place==t[i].tag.place) with
  | false =>
   have:CR s[i] t[i]=false:=by unfold CR;rw[htag];simp
   rw[this,Ay];rfl
  | true =>
   rw[Aq];by_cases htm:s[i].tag.time>0
   ·rw[Ak htm];have o1:BO s[i]=true:=by
     rcases g1 with g | g
     ·have:=E8 g;omega
     ·exact g.1
    have o2:BO t[i]=true:=by
     rcases g2 with g | g
     ·have:=E8 g;simp at htag;omega
     ·exact g.1
    rw[Mf hp hp' o1 o2];simp only[Ad,Ar];exact Wi
   ·rw[Ai htm];have o1:Hc s[i]=true:=by
     rcases g1 with g | g
     ·exact g
     ·have:=JI g.1;omega
    have o2:Hc t[i]=true:=by
     rcases g2 with g | g
     ·exact g
     ·have:=JI g.1;simp at htag;omega
    rw[if_pos (same_iff.2 (by rw[Ls o1,Ls o2]))]
 ·rw[hz,BF.e,Ai (by omega)]
 ·unfold Dh;rw[decide_eq_true (by omega)];cases (s.zip t).all λx=>CR x.1 x.2<;>rfl
theorem Yk {x y:Node}{a1 a2 a3 a4:Pq}{c1 c2 c3 c4:Nq}{F1 F2 F3:List Nat} (hs1:RVers false h [.sl 6 a1 x.store.length c1] x.store F1) (hs2:RVers false h [.sl 6 a2 x.wait.length c2] x.wait F2)
  (hs3:RVers false h [.sl 6 a3 y.store.length c3] y.store F3) (hx:Eh x=true) (hy:Ci y.store) {n4:Nat} :
  Af lo 113 [.agg [.sl 6 a1 x.store.length c1,.sl 6 a2 x.wait.length c2],.agg [.sl 6 a3 y.store.length c3,.sl 6 a4 n4 c4]] h=some (.bool (A5 y.store&&fits x y.store),h):=by
 obtain ⟨hx1,hx2,hx3⟩:=AQ hx;suffices hk:∃ h',_=some (V.bool (A5 y.store&&fits x y.store),h') from hk.elim λh' hk=>UV hk;rw[Me hs3 hy];simp only[Ad,Ar];cases hyo:A5 y.store with
 | false=>exact ⟨h,rfl⟩
 | true =>
  obtain ⟨v5,h5,F5,e5,r5,m5⟩:=IF (lo:=h.length) hs3 (zfH _) hy;obtain ⟨a5,c5,es5,r5⟩:=r5.form;rw[Aq,e5];simp only[Ad,AN,Ab,es5,Ag];have loop:∀ m i s hh G,m+i=x.wait.length->A5 s=true->RVers false hh [.sl 6 a5 s.length c5] s G->Mv h [] hh G ->
    ∃ h',D0 (List.length h) false (i:Nat) a1 x.store.length c1 a2 x.wait.length c2 a5 s.length c5 hh=some (V.bool (match Ig s (x.wait.drop i) with | some s=>Dh s x.store | none=>false),h'):=by
   intro m;induction m with
   | zero =>intro i s hh G hi hso hs hm;rw[D0.e,Ai (by omega),PR hs (hm.keep0 rvers_ok hs1) hso hx1,show i=x.wait.length by omega,List.drop_length];simp only[Ad,Ar,Ig];exact ⟨hh,by cases Dh s x.store<;>rfl⟩
   | succ m ih =>
    intro i s hh G hi hso hs hm;have hlt:i<x.wait.length:=by omega
    have hvo:=hx3 _ (zfD hlt);have hk:=(AZ hvo).1;have hs4:=A6 hso;have hkl:x.wait[i].key.toNat<s.length:=by omega
    obtain ⟨o,sv,b',d',G',ha,ho0,_,_,_,_,_,ho12,ho,es,hp,hG'⟩:=(hm.keep0 rvers_ok hs2).all hlt;obtain ⟨o2,sv2,b2,d2,G2,ha2,_,_,_,_,_,_,ho122,_⟩:=hs.all hkl;rw[D0.e,Ak (by omega),Ac hlt];simp only[ha,Ae,AW,ho0,Ab,Aa,Ag];rw[BY ⟨by omega,by omega⟩];simp only[ha2,Ae,ho122,Ab,Aa,Ag,Ac hlt,ho12,B9,Ad,Ar];rw[zfT hlt];simp only[Ig,EM hkl];show ∃ h',br (Bb s[x.wait[i].key.toNat] x.wait[i]) _ _=_;cases hle:Bb s[x.wait[i].key.toNat] x.wait[i] with
    | false=>exact ⟨hh,rfl⟩
    | true =>
     obtain ⟨h6,F6,e6,r6,m6⟩:=Ss (lo:=h.length) (v:=x.wait[i]) hs hp hm.nd (hm.ge (zfH _) (by simp)) hm.le ⟨by omega,by omega⟩ (by have:=BX (AZ hvo).2.2.2.1;omega);rw[Aq,cond_true];simp only[ho,Ae,Ab,Aa,es,A4,AB,Ag];rw[<- ha2,e6];simp only[Ad,AN,Ab,Ah,Ag];rw[<- ha,Am (by omega)];have hadd:Hx s x.wait[i]=s.set x.wait[i].key.toNat x.wait[i]:=by rw[Od hkl,hle];rfl
     rw[hadd] at r6;have:=ih (i+1) (s.set x.wait[i].key.toNat x.wait[i]) h6 F6 (by omega) (QL hso hvo) (by rw[zf6];exact r6) (hm.trans m6);rw[zf6] at this;exact this
  obtain ⟨h',e⟩:=loop x.wait.length 0 y.store h5 F5 (by omega) hyo r5 m5;exact ⟨h',e⟩
theorem zbC (hs:RNodes false h [.sl 2 a l.length c] l F) (hn:B8 l):Af lo 46 [.agg [.sl 2 a l.length c]] h=some (.bool (DS l),h):=by
 have hn1:=hn.1;refine Zy (h':=h) ?_;rw[Zo];have inner:∀ i (hi:i<l.length),A5 l[i].store=true->(l[i].wait.length:Int)<=6->DG (List.length h) false (i:Nat) 0 a l.length c h=if Jh l i l[i]=true then DH (List.length h) false ((i+1:Nat):Int) a l.length c h else some (.bool false,h):=by
  intro i hi hst h6;obtain ⟨o,s1,s2,a1,c1,a2,c2,F1,F2,ha,ho,ho1,ho2,e1,e2,p1,p2,_⟩:=hs.get hi;have hm:=hn.2 _ (zfD hi);refine (BB (p:=BO) (l:=l[i].wait) (λk=>DG (List.length h) false (i:Nat) (k:Nat) a l.length c h) (some (.bool false,h)) (DG (List.length h) false (i:Nat) (l[i].wait.length:Nat) a l.length c h) (λk hk=>?_) rfl).trans ?_
  ·obtain ⟨o',s,b,d,G,ha',ho',es,hp,_⟩:=p2.get hk;rw[DG.e,Ac hi];simp only[ha,Ae,AW,ho2,Ab,e2,Ag];rw[Ak (by omega),Ac hi];simp only[e2,Ac hk,ha',Ae,ho',Ab,Aa,es,A4,AB,Ag];rw[MT hp (hm.2.2 _ (zfD hk))];simp only[Ad,Ar,Am (show k<9223372036854775807 by have:=hm.2.1;omega),<- ha];exact Wi
  ·by_cases hall:l[i].wait.all BO=true
   ·rw[if_pos hall,DG.e,Ac hi];simp only[ha,Ae,AW,ho2,Ab,e2,Ag];rw[Ai (by omega)];have hno:Eh l[i]=true:=by unfold Eh;rw[hst,decide_eq_true h6,hall];rfl
    rw[Am (by omega)];unfold Jh;rw[hno];by_cases hi1:i+1<l.length
    ·obtain ⟨o',s1',s2',a1',c1',a2',c2',F1',F2',ha',ho',_,_,e1',e2',p1',p2',_⟩:=hs.get hi1;have hoo:o'=o:=by rw[ha] at ha';injection ha' with ha';exact ha'.symm
     subst hoo;rw[Ak (by omega),Ac hi];simp only[ho,Ae,Ab,e1,e2,Ag,Ac hi1,AW,ho',e1',e2'];rw[Yk p1 p2 p1' hno (hn.2 _ (zfD hi1)).1,EM hi1];simp only[Ad,Ar,zfQ];exact Wi
    ·rw[Ai (by omega),zgj (by omega)];rfl
   ·rw[if_neg hall,if_neg];unfold Jh Eh;simp[hall]
 refine (Kw (p:=Jh l) (l:=l) (λi=>DH (List.length h) false (i:Nat) a l.length c h) (some (.bool false,h)) (some (.bool (Aj l.length 1 4&&match l.getLast? with | some x=>decide (x.wait.length=0) | none=>false),h)) (λi hi=>?_) ?_).trans ?_
 ·obtain ⟨o,s1,s2,a1,c1,a2,c2,F1,F2,ha,ho,ho1,ho2,e1,e2,p1,p2,_⟩:=hs.get hi;have hm:=hn.2 _ (zfD hi);rw[DH.e,Ak (by omega),Ac hi];simp only[ha,Ae,AW,ho1,Ab,e1,Ag];rw[Me p1 hm.1];simp only[Ad,Ar];cases hst:A5 l[i].store with
  | false =>rw[if_neg (by unfold Jh Eh;simp[hst])];rfl
  | true =>
   rw[Aq,Ac hi];simp only[ho2,Ae,Ab,e2,Ag];by_cases h6:(l[i].wait.length:Int)<=6
   ·rw[Ai (by omega),<- ha];exact inner i hi hst h6
   ·rw[Ak (by omega),if_neg];unfold Jh Eh;rw[decide_eq_false h6];simp
 ·rw[DH.e,Ai (by omega),A9];simp only[Ad,Ar];cases hw:Aj (l.length:Int) 1 4 with
  | false=>rfl
  | true =>
   have hl:1<=l.length:=by simp[Aj] at hw;omega
   obtain ⟨o,s1,s2,a1,c1,a2,c2,F1,F2,ha,ho,ho1,ho2,e1,e2,p1,p2,_⟩:=hs.get (show l.length - 1<l.length by omega);rw[Aq,wr (by omega) (by omega),BY ⟨by omega,by omega⟩,show ((l.length:Int) - 1).toNat=l.length - 1 by omega];simp only[ha,Ae,ho2,Ab,e2,Ag];rw[zgZ,EM (by omega)];simp only[zfQ];by_cases h0:l[l.length - 1].wait.length=0
   ·rw[h0];rfl
   ·rw[show ((l[l.length - 1].wait.length:Int)==0)=false by rw[beq_eq_false_iff_ne];omega,decide_eq_false h0];rfl
 ·cases (l.zipIdx.all λx=>Jh l x.2 x.1)<;>simp
end


variable {l:List Node}
def II (st:List Tag) (x:Node):Bool:=(x.store.all λv => !decide (v.tag.time>0) || Et v.past st)&&x.wait.all λv=>Et v.past st
def Jf (l:List Node):Bool:=l.all (II (Bl l))
def Mw (l:List Node) (clock:Int):Bool:=match l[0]? with
 | some x=>x.store.all λv=>decide (v.tag.time<=clock)
 | none=>false
def My (me:Int) (i:Nat) (l:List Ver):Bool:=Iz i l&&(!((i:Int)==me) || decide (l.length=0))
def AM (p:Place):Bool:=Aj p.me 0 2&&Aj p.clock 0 999&&decide (p.got.length=3)&&DS p.chain&&Jf p.chain&&Iz p.me p.log&&(p.got.zipIdx.all λx=>My p.me x.2 x.1)&&Mw p.chain p.clock
theorem zaY {b:Bool}{h:Heap}:(if b=true then some (V.bool true,h) else some (V.bool false,h))=some (V.bool b,h):=by cases b<;>rfl
theorem zay (h:DS l=true):B8 l:=by obtain ⟨h1,h2⟩:=Ca h;refine ⟨by omega,λx hx=>?_⟩;obtain ⟨g1,g2,g3⟩:=AQ (h2 x hx);refine ⟨Hk g1,by omega,λv hv=>?_⟩;obtain ⟨_,h2,_,h3,_⟩:=AZ (g3 v hv);have:=Ja h2;have:=BX h3;omega
theorem Lv (h:DS l=true):(Bl l).length=4:=by obtain ⟨h1,h2⟩:=Ca h;rw[Je (by omega)];simp only[BW,zhb];exact A6 (AQ (h2 _ (zfD _))).1
theorem B7 {h:Heap}{b i j n R e:Nat}{ro:Bool}{rs:List (List V)}{row:List V} (hb:h[b]?=some (.rows R e ro rs)) (hi:rs[i]?=some row):ld h b i j n=cut row j n:=by simp[ld,Heap.rows?,hb,hi]
theorem Sg {x:Node} (h:Eh x=true) {i:Nat} (hi:i<x.store.length) (ht:x.store[i].tag.time>0):x.store[i].past.length=4:=by
 rcases Di (CK (AQ h).1 hi) with g | g
 ·have:=E8 g;omega
 ·exact BX (AZ g.1).2.2.2.1
theorem Vx {x:Node} (h:Eh x=true) {i:Nat} (hi:i<x.wait.length):x.wait[i].past.length=4:=BX (AZ ((AQ h).2.2 _ (zfD hi))).2.2.2.1
section
variable {lo:Nat}{h:Heap}{F F':List Nat}{a a':Pq}{c c':Nq}
theorem Uu (hs:RNodes false h [.sl 2 a l.length c] l F) (hc:DS l=true):Af lo 121 [.agg [.sl 2 a l.length c]] h=some (.bool (Jf l),h):=by
 obtain ⟨hl4,hno⟩:=Ca hc;have hst:=Lv hc;obtain ⟨v1,h1,F1,e1,r1,m1⟩:=KH (lo:=h.length) hs (zfH _) (zay hc) (by omega);obtain ⟨a3,c3,es3,r1⟩:=r1.form;refine RA (h':=h1) ?_;rw[e1];simp only[Ad,AN,Ab,es3,Ag];have hs1:=m1.keep0 rnodes_ok hs;refine (BB (p:=II (Bl l)) (l:=l) (λi=>Ct (List.length h) false (i:Nat) a l.length c a3 (Bl l).length c3 h1) (some (.bool false,h1)) (some (.bool true,h1)) (λi hi=>?_) ?_).trans ?_
 ·have hno:=hno _ (zfD hi);have hsl:=A6 (AQ hno).1;have hwl:=(AQ hno).2.1;obtain ⟨o,s1,s2,b1,d1,b2,d2,G1,G2,ha,ho,ho1,ho2,e1,e2,p1,p2,_⟩:=hs1.get hi;rw[Ct.e,Ak (by omega)];refine (BB (p:=λv:Ver => !decide (v.tag.time>0) || Et v.past (Bl l)) (l:=l[i].store) (λk=>Cs (List.length h) false (i:Nat) (k:Nat) a l.length c a3 (Bl l).length c3 h1) (some (.bool false,h1)) (Cr (List.length h) false (i:Nat) 0 a l.length c a3 (Bl l).length c3 h1) (λk hk=>?_) ?_).trans ?_
  ·obtain ⟨o',s,b,d,G,ha',ho',es,hp,_⟩:=p1.get hk;rw[Cs.e,Ak (by omega),Ac hi];simp only[ha,Ae,AW,ho1,Ab,e1,Ag,Ac hk,ha',ho',Aa,es,A4,AB,Am (show k<9223372036854775807 by omega)];by_cases ht:l[i].store[k].tag.time>0
   ·rw[Ak ht,GX hp r1 (Sg hno hk ht) hst];simp only[Ad,Ar,decide_eq_true ht,zgo,zgL,<- ha];exact Wi
   ·rw[Ai ht,decide_eq_false ht,<- ha];rfl
  ·rw[Cs.e,Ai (by omega)]
  ·unfold II;cases hall:l[i].store.all λv:Ver => !decide (v.tag.time>0) || Et v.past (Bl l) with
   | false=>rw[if_neg Bool.false_ne_true,zgs,if_neg Bool.false_ne_true]
   | true =>
    rw[if_pos rfl,zfQ];refine BB (p:=λv:Ver=>Et v.past (Bl l)) (l:=l[i].wait) (λk=>Cr (List.length h) false (i:Nat) (k:Nat) a l.length c a3 (Bl l).length c3 h1) (some (.bool false,h1)) (Ct (List.length h) false ((i+1:Nat):Int) a l.length c a3 (Bl l).length c3 h1) (λk hk=>?_) ?_
    ·obtain ⟨o',s,b,d,G,ha',_,_,_,ho3,_,_,_,_,es,hp,_⟩:=p2.all hk;rw[Cr.e,Ac hi];simp only[ha,Ae,AW,ho2,Ab,e2,Ag];rw[Ak (by omega),Ac hi];simp only[e2,Ac hk,ha',Ae,ho3,Ab,es,Ag];rw[GX hp r1 (Vx hno hk) hst];simp only[Ad,Ar,Am (show k<9223372036854775807 by omega),<- ha];exact Wi
    ·rw[Cr.e,Ac hi];simp only[ha,Ae,AW,ho2,Ab,e2,Ag];rw[Ai (by omega),Am (by omega)]
 ·rw[Ct.e,Ai (by omega)]
 ·unfold Jf;cases l.all (II (Bl l))<;>rfl
theorem zbB {p:Place}{a1 a2 a3:Pq}{c1 c2 c3:Nq}{F1 F2 F3:List Nat} (hs1:RNodes false h [.sl 2 a1 p.chain.length c1] p.chain F1) (hs2:RVers false h [.sl 6 a2 p.log.length c2] p.log F2)
  (hs3:RVss false h [.sl 1 a3 p.got.length c3] p.got F3) (hn:Ef p):Af lo 53 [.agg (p.cs a1 c1 a2 c2 a3 c3)] h=some (.bool (AM p),h):=by
 refine Zx (h':=h) ?_;simp only[A9,Ad,Ar];unfold AM;cases Aj p.me 0 2 with
 | false=>rfl
 | true =>
 cases Aj p.clock 0 999 with
 | false=>rfl
 | true =>
 by_cases hg:¬ p.got.length=3
 ·rw[show ((p.got.length:Int)==3)=false by rw[beq_eq_false_iff_ne];omega,decide_eq_false hg];rfl
 have hg:p.got.length=3:=by omega
 rw[show ((p.got.length:Int)==3)=true by rw[beq_iff_eq];omega,decide_eq_true hg];simp only[Aq];rw[zbC hs1 hn.1];simp only[Ad,Ar];cases hc:DS p.chain with
 | false=>rfl
 | true =>
 rw[Aq,Uu hs1 hc];simp only[Ad,Ar];cases Jf p.chain with
 | false=>rfl
 | true =>
 rw[Aq,Sn hs2 hn.2.1];simp only[Ad,Ar];cases Iz p.me p.log with
 | false=>rfl
 | true =>
 obtain ⟨hl4,hno⟩:=Ca hc;simp only[Aq,zfQ,zgp];refine (Kw (p:=My p.me) (l:=p.got) (λi=>Er (List.length h) false (i:Nat) p.me p.clock a1 p.chain.length c1 a2 p.log.length c2 a3 p.got.length c3 p.fell h) (some (.bool false,h)) (some (.bool (Mw p.chain p.clock),h)) (λi hi=>?_) ?_).trans ?_
 ·obtain ⟨o,s,b,d,G,ha,ho,es,hp,_⟩:=hs3.get hi;rw[Er.e,Ak (by omega),Ac hi];simp only[ha,Ae,AW,ho,Ab,es,Ag];rw[Sn hp (hn.2.2.2 _ (zfD hi))];simp only[Ad,Ar,Ac hi,ho,Ae,Ab,es,Ag,Am (show i<9223372036854775807 by omega),<- ha];unfold My;by_cases h0:p.got[i].length=0
  ·rw[Ai (by omega),decide_eq_true h0];cases Iz i p.got[i]<;>cases ((i:Int)==p.me)<;>rfl
  ·rw[Ak (by omega),decide_eq_false h0];cases Iz i p.got[i]<;>cases ((i:Int)==p.me)<;>rfl
 ·obtain ⟨o,s1,s2,b1,d1,b2,d2,G1,G2,ha,ho,ho1,ho2,e1,e2,q1,q2,_⟩:=hs1.get (show 0<p.chain.length by omega);have hsl:=A6 (AQ (hno _ (zfD (show 0<p.chain.length by omega)))).1;rw[Er.e,Ai (by omega),show (0:Int)=((0:Nat):Int) from rfl,Ac (by omega)];simp only[ha,Ae,ho1,Ab,e1,Ag];unfold Mw;rw[EM (show 0<p.chain.length by omega)];refine (BB (p:=λv:Ver=>decide (v.tag.time<=p.clock)) (l:=p.chain[0].store) (λk=>EZ (List.length h) false (k:Nat) p.me p.clock (some o) p.chain.length c1 a2 p.log.length c2 a3 p.got.length c3 p.fell b1 p.chain[0].store.length d1 h) (some (.bool false,h)) (some (.bool true,h)) (λk hk=>?_) ?_).trans ?_
  ·obtain ⟨o',s,b,d,G,ha',_,ho1',_⟩:=q1.all hk;rw[EZ.e,Ak (by omega),Ac hk];simp only[ha',Ae,AW,ho1',Ab,Aa,Ag,Am (show k<9223372036854775807 by omega)];by_cases ht:p.chain[0].store[k].tag.time<=p.clock
   ·rw[Ai (by omega),decide_eq_true ht];rfl
   ·rw[Ak (by omega),decide_eq_false ht];rfl
  ·rw[EZ.e,Ai (by omega)]
  ·exact zaY
 ·cases (p.got.zipIdx.all λx=>My p.me x.2 x.1)<;>cases Mw p.chain p.clock<;>rfl
end


variable {l:List Node}{v:Ver}{T:Type}{K:V->Heap->Option T}
theorem zfc {α:Type}{p:Nat->α->Bool}{l:List α}{h0:Heap} (L:Nat->Heap->Ov) (res:Bool)
  (step:∀ i (hi:i<l.length) hh,Mv h0 [] hh []->∃ h2,Mv hh [] h2 []/\L i hh=if p i l[i]=true then L (i+1) h2 else some (.bool false,h2))
  (done:∀ hh,Mv h0 [] hh []->∃ h2,L l.length hh=some (.bool res,h2)):∃ h',L 0 h0=some (.bool ((l.zipIdx.all λx=>p x.2 x.1)&&res),h'):=by
 have loop:∀ m i hh,m+i=l.length->Mv h0 [] hh []->∃ h',L i hh=some (.bool (((l.zipIdx.drop i).all λx=>p x.2 x.1)&&res),h'):=by
  intro m;induction m with
  | zero =>
   intro i hh hi hm;have:i=l.length:=by omega
   subst this;obtain ⟨h2,e⟩:=done hh hm;exact ⟨h2,by rw[e,List.drop_of_length_le (by simp)];rfl⟩
  | succ m ih =>
   intro i hh hi hm;have hlt:i<l.length:=by omega
   obtain ⟨h2,m2,e⟩:=step i hlt hh hm;rw[e,zfT (show i<l.zipIdx.length by simpa using hlt),List.all_cons];simp only[zg6,zfY];cases hp:p i l[i] with
   | false=>exact ⟨h2,by rw[if_neg Bool.false_ne_true];rfl⟩
   | true =>obtain ⟨h',e'⟩:=ih (i+1) h2 (by omega) (hm.trans m2);exact ⟨h',by rw[if_pos rfl,e'];rfl⟩
 exact loop l.length 0 h0 (by omega) Mv.nil
theorem SD {α:Type}{El:Rel α}{R e:Nat}{h:Heap}{a:Pq}{c:Nq}{l:List α}{F:List Nat} (hs:Sli false R e El h [.sl R a l.length c] l F) :
  ∃ rows Fs,(∀ {T:Type} (K:List (List V)->Option T),Aw R h (.sl R a l.length c) K=K rows)/\EAll El h rows l Fs/\(∀ b∈Fs.flatten,b∈F)/\(F.Nodup->Fs.flatten.Nodup):=by
 obtain ⟨R',a',c',e1,e2⟩:=hs;injection e1 with e1 _;injection e1 with e0 e3 _ e4;subst e0;subst e3;subst e4;cases a with
 | none =>obtain ⟨rfl,_,_⟩:=e2;exact ⟨[],[],λK=>rfl,trivial,by simp,by simp⟩
 | some q =>
  obtain ⟨b,i⟩:=q;obtain ⟨hR,rs,Fs,g1,g2,g3,g4,g5,rfl⟩:=e2;refine ⟨_,Fs,λK=>?_,g5,λb hb=>by simp only[zfL];exact .inr hb,λhn=>(zfN.1 hn).2⟩;simp only[Aw,J7,Dj];cases hl:l.length with
  | zero=>simp
  | succ n=>simp only[Fl,Heap.rows?,g1,zf1,Ez (show i+(n+1)<=rs.length by omega),Ae]
def IY (v:Ver):Bool:=v.tag.time==0&&v.tag.place==0
def KO (st:List Tag) (clock:Int) (k:Nat) (v:Ver):Bool:=(IY v || Et v.past st)&&(!decide (k=0) || decide (v.tag.time<=clock))
theorem zaa {u:Ver} (h:Bb v u=true):v.tag.time<=u.tag.time:=by simp[Bb,Ic] at h;omega
theorem Ti:∀ {w s t:List Ver},Ig s w=some t->s.length=t.length/\(∀ k (h1:k<s.length) (h2:k<t.length),s[k].tag.time<=t[k].tag.time)/\∀ v∈w,∃ h2:v.key.toNat<t.length,v.tag.time<=t[v.key.toNat].tag.time
 | [],s,t,h=>by injection h with h;subst h;exact ⟨rfl,λk _ _=>Int.le_refl _,by simp⟩
 | v :: w,s,t,h=>by
  simp only[Ig] at h;by_cases hk:v.key.toNat<s.length
  ·rw[EM hk] at h;cases hl:Bb s[v.key.toNat] v with
   | false=>simp[hl] at h
   | true =>
    simp only[hl,cond_true] at h;obtain ⟨i1,i2,i3⟩:=Ti h;rw[zf6] at i1;have ht:=zaa hl;refine ⟨i1,λk h1 h2=>?_,λu hu=>?_⟩
    ·have:=i2 k (by simpa using h1) h2;rw[List.getElem_set] at this;split at this
     ·rename_i he;subst he;omega
     ·exact this
    ·rcases zfL.1 hu with rfl | hu
     ·have:=i2 u.key.toNat (by simpa using hk) (by omega);rw[zgR] at this;exact ⟨by omega,this⟩
     ·exact i3 u hu
  ·rw[zgj (by omega)] at h;cases h
theorem L7 {x:Node} (h:Eh x=true) (hv:v∈x.store):IY v = !decide (v.tag.time>0):=by
 obtain ⟨i,hi,rfl⟩:=zgh.1 hv;rcases Di (CK (AQ h).1 hi) with g | g
 ·have:=E8 g;unfold IY;rw[this.1,this.2];rfl
 ·have:=JI g.1;unfold IY;rw[decide_eq_true this,show (x.store[i].tag.time==0)=false by rw[beq_eq_false_iff_ne];omega];rfl
theorem ZC (h:BO v=true):IY v=false:=by have:=JI h;unfold IY;rw[show (v.tag.time==0)=false by rw[beq_eq_false_iff_ne];omega];rfl
theorem zaA {clock:Int} (hc:DS l=true):(l.zipIdx.all λx=>(x.1.store++x.1.wait).all (KO (Bl l) clock x.2))=(Jf l&&Mw l clock):=by
 obtain ⟨hl4,hno⟩:=Ca hc;rw[zgn,E1];rw[EX (p:=λi (x:Node)=>(x.store++x.wait).all (KO (Bl l) clock i))];unfold Jf Mw;rw[EM (show 0<l.length by omega),XH];simp only[List.all_append,E1,zfW];constructor
 ·intro hx;refine ⟨λi hi=>?_,λv hv=>?_⟩
  ·have hi':=hno _ (zfD hi);unfold II;simp only[E1,zfW];refine ⟨λv hv=>?_,λv hv=>?_⟩
   ·have:=(hx i hi).1 v hv;simp only[KO,E1] at this;rw[<- L7 hi' hv];exact this.1
   ·have:=(hx i hi).2 v hv;simp only[KO,E1,ZC ((AQ hi').2.2 v hv),zgL] at this;exact this.1
  ·have:=(hx 0 (by omega)).1 v hv;simp only[KO,E1] at this;simpa using this.2
 ·rintro ⟨h1,h2⟩ i hi
  have hi':=hno _ (zfD hi);have h3:=h1 i hi;unfold II at h3;simp only[E1,zfW] at h3;refine ⟨λv hv=>?_,λv hv=>?_⟩
  ·unfold KO;rw[L7 hi' hv,h3.1 v hv,zfQ];by_cases h0:i=0
   ·subst h0;simpa using h2 v hv
   ·simp[h0]
  ·unfold KO;rw[h3.2 v hv,Bool.or_true,zfQ];by_cases h0:i=0
   ·subst h0;have hlk:=Pc hc hi;unfold GN at hlk;by_cases h10:0+1<l.length
    ·rw[EM h10] at hlk;simp only[fits] at hlk;cases hf:Ig l[0+1].store l[0].wait with
     | none=>simp[hf] at hlk
     | some t =>simp only[hf] at hlk;have e:=sameVers_iff.1 hlk;obtain ⟨_,_,g3⟩:=Ti hf;obtain ⟨g4,g5⟩:=g3 v hv;have:=h2 (l[0].store[v.key.toNat]'(by rw[<- e];exact g4)) (zfD _);simp only[decide_eq_true_eq] at this;simp only[<- e] at this;simp only[decide_true,zgo,zgL,decide_eq_true_eq];omega
    ·rw[zgj (by omega)] at hlk;simp only[decide_eq_true_eq] at hlk;have:l[0].wait = []:=zfM hlk;rw[this] at hv;simp at hv
   ·simp[h0]
section
variable {lo:Nat}{h:Heap}{F F':List Nat}{a a':Pq}{c c':Nq}
theorem JE {b i j:Nat} (hld:ld h b i j 1=some [.sl 2 a l.length c]) (hs:RNodes false h [.sl 2 a l.length c] l F) (h0:0<l.length) (hn:l.length<=1048576) :
  ∃ a' c' G,Af lo 66 [.ptr (some (b,i,j))] h=some (.agg [.sl 6 a' (l[l.length - 1]'(by omega)).store.length c'],h)/\RVers false h [.sl 6 a' (l[l.length - 1]'(by omega)).store.length c'] (l[l.length - 1]'(by omega)).store G/\∀ y∈G,y∈F:=by
 obtain ⟨o,s1,s2,b1,d1,b2,d2,G1,G2,ha,ho,ho1,ho2,e1,e2,q1,q2,q3,_⟩:=hs.get (show l.length - 1<l.length by omega);refine ⟨b1,d1,G1,PA ?_,q1,q3⟩;simp only[zgl,hld,Ae,Ab,Ah,Ag];rw[wr (by omega) (by omega),BY ⟨by omega,by omega⟩,show ((l.length:Int) - 1).toNat=l.length - 1 by omega];simp only[ha,Ae,ho1,Ab,e1,Ag]
theorem zdM {e R bytes b i len:Nat}{rs xs:List (List V)} (hb:h[b]?=some (.rows R e false rs)) (hl:lo<=b) (hf:i+len+xs.length<=rs.length) (h0:0<bytes) (hsz:(len+xs.length)*bytes<=140737488355328) :
  DJ lo e R bytes (.sl R (some (b,i)) len none) xs h K=K (.sl R (some (b,i)) (len+xs.length) none) (h.set b (.rows R e false (rs.take (i+len)++xs++rs.drop (i+len+xs.length)))):=by
 cases xs with
 | nil =>simp only[DJ,zg2,zgl,zgc,zgi];rw[set_same hb]
 | cons x xs =>
  have hbl:Nat.blt 0 bytes=true:=by simpa [zhc] using h0
  have hsz':decide ((len+(x :: xs).length)*bytes<=K0)=true:=decide_eq_true hsz;have hown:Heap.own? lo e h b=some rs:=by simp only[Heap.own?,hb,Ez hl,J7]
  have hst:Gj lo h b (i+len) (x :: xs)=some (h.set b (.rows R e false (rs.take (i+len)++(x :: xs)++rs.drop (i+len+(x :: xs).length)))):=by simp only[Gj,hb,Ez hl,Ez hf]
  simp only[DJ,hbl,hsz',Dj,J7,hown,Ae,Ez hf,hst]
theorem Y3 {l1 l2:List Ver}{a1 a2:Pq}{c1 c2:Nq}{F1 F2:List Nat} (hs1:RVers false h [.sl 6 a1 l1.length c1] l1 F1) (hs2:RVers false h [.sl 6 a2 l2.length c2] l2 F2) (hl1:l1.length=4) (hl2:l2.length<=6) (hlo:lo<=h.length) :
  ∃ a' F' h',Af lo 68 [.sl 1 (some (h.length,0)) 2 (some 2)] (h ++ [.rows 1 26 false [[.sl 6 a1 l1.length c1],[.sl 6 a2 l2.length c2]]])=some (.sl 6 a' (l1++l2).length none,h') /\
   RVers false h' [.sl 6 a' (l1++l2).length none] (l1++l2) F'/\Mv h [] h' []:=by
 have m0:Mv h [] (h ++ [.rows 1 26 false [[.sl 6 a1 l1.length c1],[.sl 6 a2 l2.length c2]]]) []:=Mv.snoc;have hbB:(h ++ [Blk.rows 1 26 false [[.sl 6 a1 l1.length c1],[.sl 6 a2 l2.length c2]]])[h.length]?=some (.rows 1 26 false [[.sl 6 a1 l1.length c1],[.sl 6 a2 l2.length c2]]):=by simp
 have hBl:h.length<(h ++ [Blk.rows 1 26 false [[.sl 6 a1 l1.length c1],[.sl 6 a2 l2.length c2]]]).length:=by simp
 generalize hB:h ++ [Blk.rows 1 26 false [[.sl 6 a1 l1.length c1],[.sl 6 a2 l2.length c2]]]=B at *
 have r1:=m0.keep0 rvers_ok hs1;have r2:=m0.keep0 rvers_ok hs2;obtain ⟨n,hn⟩:∃ n,l1.length+l2.length=n+1:=⟨l1.length+l2.length - 1,by omega⟩;have m1:Mv B [] (B ++ [.rows 6 43 false (List.replicate (n+1) [Iv 0,Iv 0,Iv 0,.sl 0 none 0 (some 0),.str ⟨⟨[]⟩⟩,.bool false])]) []:=Mv.snoc;have hC0:(B ++ [Blk.rows 6 43 false (List.replicate (n+1) [Iv 0,Iv 0,Iv 0,.sl 0 none 0 (some 0),.str ⟨⟨[]⟩⟩,.bool false])])[B.length]?=some (.rows 6 43 false (List.replicate (n+1) [Iv 0,Iv 0,Iv 0,.sl 0 none 0 (some 0),.str ⟨⟨[]⟩⟩,.bool false])):=by simp
 have E2:Af lo 139 [.sl 0 none 0 (some 0),Iv ((n+1:Nat):Int)] B=some (.sl 6 (some (B.length,0)) 0 none,B ++ [.rows 6 43 false (List.replicate (n+1) [Iv 0,Iv 0,Iv 0,.sl 0 none 0 (some 0),.str ⟨⟨[]⟩⟩,.bool false])]):=by
  refine HN ?_;have e1:Ap (((0:Nat):Int) - ((0:Nat):Int))=0:=by decide
  have e2:Ap (((n+1:Nat):Int) - 0)=((n+1:Nat):Int):=by rw[wr (by omega) (by omega)];omega
  rw[Ai (by omega)];simp only[Ae,e1,e2];rw[Ak (by omega)];have e3:∀ {T:Type} (K:Pq->Nat->Nq->Option T),Az none 0 (some 0) none (some (Iv 0)) none K=K none 0 (some 0):=by intro T K;unfold Az HD KI Lw;simp only[Aa];rw[DL ⟨by decide,by decide⟩];rfl
  rw[e3,EF ⟨by omega,by omega⟩,AW,List.replicate_succ];simp only[DJ,show Nat.blt 0 72=true from rfl,Dj];rw[EF (by simp[K0];omega)];simp only[Ah];unfold Az HD KI Lw;simp only[Aa];rw[DL ⟨by omega,by omega⟩];simp[List.replicate_succ]
 have hBle:B.length<(B ++ [Blk.rows 6 43 false (List.replicate (n+1) [Iv 0,Iv 0,Iv 0,.sl 0 none 0 (some 0),.str ⟨⟨[]⟩⟩,.bool false])]).length:=by simp
 generalize hC:B ++ [Blk.rows 6 43 false (List.replicate (n+1) [Iv 0,Iv 0,Iv 0,.sl 0 none 0 (some 0),.str ⟨⟨[]⟩⟩,.bool false])]=C at *
 generalize hz : [Iv 0,Iv 0,Iv 0,.sl 0 none 0 (some 0),.str ⟨⟨[]⟩⟩,.bool false]=z at hC0;obtain ⟨rows1,Fs1,er1,ea1,sub1,_⟩:=SD (m1.keep0 rvers_ok r1);have len1:=ea1.len.1;have bd1:=λy hy=>rvers_ok.bd _ _ _ _ r1 y (sub1 y hy);have frD:∀ y,y≠B.length->(C.set B.length (.rows 6 43 false ((List.replicate (n+1) z).take (0+0)++rows1++(List.replicate (n+1) z).drop (0+0+rows1.length))))[y]?=C[y]?:=λy hy=>zfJ (Ne.symm hy);have hD0:(C.set B.length (.rows 6 43 false ((List.replicate (n+1) z).take (0+0)++rows1++(List.replicate (n+1) z).drop (0+0+rows1.length))))[B.length]?=some (.rows 6 43 false (rows1++List.replicate l2.length z)):=by rw[zf3 hBle];simp only[zgl,List.take_zero,zf8,zfY,List.drop_replicate];rw[show n+1 - rows1.length=l2.length by omega]
 have hDl:(C.set B.length (.rows 6 43 false ((List.replicate (n+1) z).take (0+0)++rows1++(List.replicate (n+1) z).drop (0+0+rows1.length)))).length=C.length:=by simp
 have e5:=λ{T:Type} (K:V->Heap->Option T)=>zdM (lo:=lo) (e:=43) (bytes:=72) (i:=0) (len:=0) (xs:=rows1) (K:=K) hC0 (by omega) (by simp;omega) (by decide) (by omega);generalize hD:C.set B.length (.rows 6 43 false ((List.replicate (n+1) z).take (0+0)++rows1++(List.replicate (n+1) z).drop (0+0+rows1.length)))=D at *
 have mD:Mv B [] D []:=⟨by omega,λy hy _=>by rw[frD y (by omega)];exact m1.fr y hy (by simp),by simp,by simp⟩;obtain ⟨rows2,Fs2,er2,ea2,sub2,_⟩:=SD (mD.keep0 rvers_ok r2);have len2:=ea2.len.1;have bd2:=λy hy=>rvers_ok.bd _ _ _ _ r2 y (sub2 y hy);have e6:=λ{T:Type} (K:V->Heap->Option T)=>zdM (lo:=lo) (e:=43) (bytes:=72) (i:=0) (len:=4) (xs:=rows2) (K:=K) hD0 (by omega) (by simp;omega) (by decide) (by omega);have hDle:B.length<D.length:=by omega
 have hE0:(D.set B.length (.rows 6 43 false ((rows1++List.replicate l2.length z).take (0+4)++rows2++(rows1++List.replicate l2.length z).drop (0+4+rows2.length))))[B.length]?=some (.rows 6 43 false (rows1++rows2)):=by rw[zf3 hDle];rw[List.take_append_of_le_length (by omega),zgk (by omega),List.drop_of_length_le (by simp;omega),zgc]
 have frE:∀ y,y≠B.length->(D.set B.length (.rows 6 43 false ((rows1++List.replicate l2.length z).take (0+4)++rows2++(rows1++List.replicate l2.length z).drop (0+4+rows2.length))))[y]?=D[y]?:=λy hy=>zfJ (Ne.symm hy);have hEl:(D.set B.length (.rows 6 43 false ((rows1++List.replicate l2.length z).take (0+4)++rows2++(rows1++List.replicate l2.length z).drop (0+4+rows2.length)))).length=D.length:=by simp
 generalize hE:D.set B.length (.rows 6 43 false ((rows1++List.replicate l2.length z).take (0+4)++rows2++(rows1++List.replicate l2.length z).drop (0+4+rows2.length)))=E at *
 have ldB:∀ {X:Heap} (k:Nat) {v:V},X[h.length]?=some (.rows 1 26 false [[.sl 6 a1 l1.length c1],[.sl 6 a2 l2.length c2]])->([[V.sl 6 a1 l1.length c1],[.sl 6 a2 l2.length c2]]:List (List V))[k]?=some [v]->ld X h.length k 0 1=some [v]:=λk v hb hk=>by rw[B7 hb hk];rfl
 refine ⟨some (B.length,0),B.length ::(Fs1++Fs2).flatten,E,HP ?_,⟨6,some (B.length,0),none,by simp,rfl,rows1++rows2,Fs1++Fs2,hE0,by simp;omega,λk hk=>(by cases hk),λ_=>rfl,?_,rfl⟩,⟨by omega,λy hy _=>by rw[frE y (by omega),frD y (by omega),m1.fr y (by omega) (by simp)];exact m0.fr y hy (by simp),by simp,by simp⟩⟩
 ·have hBC:C[h.length]?=some (.rows 1 26 false [[.sl 6 a1 l1.length c1],[.sl 6 a2 l2.length c2]]):=by rw[m1.fr _ hBl (by simp)];exact hbB
  have hBD:D[h.length]?=some (.rows 1 26 false [[.sl 6 a1 l1.length c1],[.sl 6 a2 l2.length c2]]):=by rw[frD _ (by omega)];exact hBC
  have w1:Ap (0+(l1.length:Int))=(l1.length:Int):=by rw[wr (by omega) (by omega)];omega
  have w2:Ap ((l1.length:Int)+(l2.length:Int))=((n+1:Nat):Int):=by rw[wr (by omega) (by omega)];omega
  have w3:Ap (0+1)=1:=by decide
  have w4:Ap (1+1)=2:=by decide
  rw[AP.e,Ak (by decide),BY ⟨by decide,by decide⟩];simp only[Ae,zfY,show Int.toNat 0=0 from rfl];rw[ldB 0 hbB rfl];simp only[Ae,Ab,Ag,Ah,w1,w3];rw[Ai (by omega),AP.e,Ak (by decide),BY ⟨by decide,by decide⟩];simp only[Ae,zfY,show Int.toNat 1=1 from rfl];rw[ldB 1 hbB rfl];simp only[Ae,Ab,Ag,Ah,w2,w4];rw[Ai (by omega),AP.e,Ai (by decide),E2];simp only[Ad,Ah];rw[AO.e,Ak (by decide),BY ⟨by decide,by decide⟩];simp only[Ae,zfY,show Int.toNat 0=0 from rfl];rw[ldB 0 hBC rfl];simp only[Ae,Ab,Ag,Ah,w3];rw[er1,e5];simp only[Ah];rw[AO.e,Ak (by decide),BY ⟨by decide,by decide⟩];simp only[Ae,zfY,show Int.toNat 1=1 from rfl];rw[ldB 1 hBD rfl];simp only[Ae,Ab,Ag,Ah,w4];rw[er2,show rows1.length=4 by omega,e6];simp only[Ah];rw[AO.e,Ai (by decide)];rw[show 4+rows2.length=(l1++l2).length by simp;omega]
 ·rw[zgF,zgk (by simp;omega)];refine EAll.append (ea1.fr rver_ok.fr λy hy=>?_) (ea2.fr rver_ok.fr λy hy=>frE y ?_)
  ·have:=bd1 y hy;rw[frE y (by omega),frD y (by omega)]
  ·have:=bd2 y hy;omega
end


section
variable {lo:Nat}{h:Heap}{F F':List Nat}{a a':Pq}{c c':Nq}
theorem Xc {p:Place}{a1 a2 a3:Pq}{c1 c2 c3:Nq}{F1 F2 F3:List Nat} (hs1:RNodes false h [.sl 2 a1 p.chain.length c1] p.chain F1) (hs2:RVers false h [.sl 6 a2 p.log.length c2] p.log F2)
  (hs3:RVss false h [.sl 1 a3 p.got.length c3] p.got F3) (hn:Ef p):Af lo 13 [.agg (p.cs a1 c1 a2 c2 a3 c3)] h=some (.bool (AM p),h):=by
 suffices hk:∃ h',_=some (V.bool (AM p),h') from hk.elim λh' hk=>Um hk;have m0:Mv h [] (h ++ [.rows 6 29 false [p.cs a1 c1 a2 c2 a3 c3]]) []:=Mv.snoc;have hB0:(h ++ [Blk.rows 6 29 false [p.cs a1 c1 a2 c2 a3 c3]])[h.length]?=some (.rows 6 29 false [p.cs a1 c1 a2 c2 a3 c3]):=by simp
 have hBl:h.length<(h ++ [Blk.rows 6 29 false [p.cs a1 c1 a2 c2 a3 c3]]).length:=by simp
 generalize hB:h ++ [Blk.rows 6 29 false [p.cs a1 c1 a2 c2 a3 c3]]=B at *
 have r1:=m0.keep0 rnodes_ok hs1;have r2:=m0.keep0 rvers_ok hs2;have r3:=m0.keep0 rvss_ok hs3;have ld1:∀ {X:Heap} (j:Nat) {v:V},X[h.length]?=some (.rows 6 29 false [p.cs a1 c1 a2 c2 a3 c3])->(p.cs a1 c1 a2 c2 a3 c3)[j]?=some v->ld X h.length 0 j 1=some [v]:=λj v hb hv=>by rw[B7 hb rfl];exact JA hv
 rw[ld1 0 hB0 rfl];simp only[Ae,Ab,Ag,Aa];rw[ER];simp only[Ad,Ar];unfold AM;cases Aj p.me 0 2 with
 | false=>exact ⟨_,rfl⟩
 | true =>
 rw[Aq,ld1 1 hB0 rfl];simp only[Ae,Ab,Ag,Aa];rw[Be];simp only[Ad,Ar];cases Aj p.clock 0 999 with
 | false=>exact ⟨_,rfl⟩
 | true =>
 rw[Aq,ld1 2 hB0 rfl];simp only[Ae,Ab,Ag,Ah];rw[Xg r1 hn.1];simp only[Ad,Ar];cases hc:DS p.chain with
 | false=>exact ⟨_,by rw[zgI];rfl⟩
 | true =>
 rw[Aq,ld1 3 hB0 rfl];simp only[Ae,Ab,Ag,Ah];rw[ld1 0 hB0 rfl];simp only[Ae,Ab,Ag,Aa];rw[S7 r2 hn.2.1];simp only[Ad,Ar];cases Iz p.me p.log with
 | false=>exact ⟨_,by rw[zgI];rfl⟩
 | true =>
 rw[Aq,ld1 4 hB0 rfl];simp only[Ae,Ab,Ag,Ah];by_cases hg:¬ p.got.length=3
 ·rw[show ((p.got.length:Int)==3)=false by rw[beq_eq_false_iff_ne];omega,decide_eq_false hg];exact ⟨_,by rw[zgI];rfl⟩
 have hg:p.got.length=3:=by omega
 rw[show ((p.got.length:Int)==3)=true by rw[beq_iff_eq];omega,decide_eq_true hg,Aq];obtain ⟨hl4,hno⟩:=Ca hc;obtain ⟨at',ct,Gt,et,rt,_⟩:=JE (lo:=h.length) (ld1 2 hB0 rfl) r1 (by omega) (by omega);rw[et];simp only[Ad,AN,Ab,Ah,Ag];have hsl:=A6 (AQ (hno _ (zfD (show p.chain.length - 1<p.chain.length by omega)))).1;obtain ⟨vg,hg1,Gg,eg,rg,mg⟩:=MZ (lo:=h.length) rt m0.le hsl;obtain ⟨ag,cg,esg,rg⟩:=rg.form;rw[<- Je (by omega)] at rg esg;have hst:=Lv hc;rw[eg];simp only[Ad,AN,Ab,esg,Ag];have hG0:hg1[h.length]?=some (.rows 6 29 false [p.cs a1 c1 a2 c2 a3 c3]):=by rw[mg.fr _ hBl (by simp)];exact hB0
 rw[ld1 2 hG0 rfl];simp only[Ae,Ab,Ag,Ah];have r1':=mg.keep0 rnodes_ok r1;have r3':=mg.keep0 rvss_ok r3;have key:=zfc (p:=λi (x:Node)=>(x.store++x.wait).all (KO (Bl p.chain) p.clock i)) (l:=p.chain) (h0:=hg1) (λi hh=>CP (List.length h) (List.length h) 0 0 false a1 p.chain.length c1 (p.chain.length:Nat) (i:Nat) ag (Bl p.chain).length cg hh)
  (p.got.zipIdx.all λx=>My p.me x.2 x.1) (λi hi hh hm=>by
   have hni:=hno _ (zfD hi);obtain ⟨g1,g2,g3⟩:=AQ hni;obtain ⟨o,s1,s2,b1,d1,b2,d2,G1,G2,ha,ho,_,_,e1,e2,q1,q2,_⟩:=(hm.keep0 rnodes_ok r1').get hi;obtain ⟨a5,F5,h5,e5,r5,m5⟩:=Y3 (lo:=h.length) q1 q2 (A6 g1) g2 (zfE (zgu hBl) (zfE mg.le hm.le));have hmh:Mv hg1 [] h5 []:=hm.trans m5;have hH0:h5[h.length]?=some (.rows 6 29 false [p.cs a1 c1 a2 c2 a3 c3]):=by rw[hmh.fr _ (zfO hBl mg.le) (by simp)];exact hG0
   have rgs:=hmh.keep0 rtags_ok rg;refine ⟨h5,m5,?_⟩;rw[CP.e,Ak (by omega),Ac hi];simp only[ha,Ae,AW,ho,Ab,e1,e2,Ag];rw[e5];simp only[Ad,Ah];rw[<- ha];have hlen:(p.chain[i].store++p.chain[i].wait).length<=10:=by rw[zfR,A6 g1];omega
   refine (BB (p:=KO (Bl p.chain) p.clock i) (l:=p.chain[i].store++p.chain[i].wait) (λk=>BM (List.length h) (List.length h) 0 0 false (i:Nat) a1 p.chain.length c1 (p.chain.length:Nat) (i:Nat) a5 (p.chain[i].store++p.chain[i].wait).length none ((p.chain[i].store++p.chain[i].wait).length:Nat) (k:Nat) ag (Bl p.chain).length cg h5) (some (.bool false,h5)) (CP (List.length h) (List.length h) 0 0 false a1 p.chain.length c1 (p.chain.length:Nat) ((i+1:Nat):Int) ag (Bl p.chain).length cg h5) (λk hk=>?_) ?_).trans ?_
   ·obtain ⟨o',s,b,d,G,ha',ho',es,hp,_⟩:=r5.get hk;rw[BM.e,Ak (by omega),Ac hk];simp only[ha',Ae,AW,ho',Ab,Aa,es,A4,AB,Ag,zgp,Am (show k<9223372036854775807 by omega),zfY];rw[ld1 1 hH0 rfl];simp only[Ae,Ab,Ag,Aa];have hk0:((i:Int)==0)=decide (i=0):=by rw[zgn,beq_iff_eq,decide_eq_true_eq];omega
    rw[hk0];have elem:KO (Bl p.chain) p.clock i (p.chain[i].store++p.chain[i].wait)[k]=((IY (p.chain[i].store++p.chain[i].wait)[k] || Et (p.chain[i].store++p.chain[i].wait)[k].past (Bl p.chain))&&(!decide (i=0) || decide ((p.chain[i].store++p.chain[i].wait)[k].tag.time<=p.clock))):=rfl;have past4:IY (p.chain[i].store++p.chain[i].wait)[k]=false->(p.chain[i].store++p.chain[i].wait)[k].past.length=4:=by
     intro hz;have hmem:(p.chain[i].store++p.chain[i].wait)[k]∈p.chain[i].store++p.chain[i].wait:=zfD hk;rw[zfF] at hmem;rcases hmem with hmem | hmem
     ·obtain ⟨j,hj,ej⟩:=zgh.1 hmem;rw[<- ej] at hz ⊢;exact Sg hni hj (by have:=L7 hni (zfD hj);rw[hz] at this;simpa using this)
     ·obtain ⟨j,hj,ej⟩:=zgh.1 hmem;rw[<- ej];exact Vx hni hj
    rw[elem];generalize (p.chain[i].store++p.chain[i].wait)[k]=u at *
    have htm:∀ {T:Type} (x y:Option T),br (decide (u.tag.time>p.clock)) x y=br (!decide (u.tag.time<=p.clock)) x y:=by
     intro T x y;by_cases ht:u.tag.time<=p.clock
     ·rw[Ai (by omega),decide_eq_true ht];rfl
     ·rw[Ak (by omega),decide_eq_false ht];rfl
    simp only[htm];show br (IY u) _ _=_;cases hz:IY u with
    | true =>cases decide (i=0)<;>cases decide (u.tag.time<=p.clock)<;>simp only[Aq,Ay,zgo,zgx,zfQ,zgs,zgp,zgI,Bool.true_or,zgL,Bool.or_true,Bool.or_false,cond_true,cond_false,if_true,if_false,zgS]
    | false =>have hu4:=past4 hz;rw[Ay,LK hp rgs (by omega) (by omega)];simp only[Ad,Ar];rw[ld1 1 hH0 rfl];simp only[Ae,Ab,Ag,Aa,htm];cases Et u.past (Bl p.chain)<;>cases decide (i=0)<;>cases decide (u.tag.time<=p.clock)<;>simp only[Aq,Ay,zgo,zgx,zfQ,zgs,zgp,zgI,Bool.true_or,zgL,Bool.or_true,Bool.or_false,cond_true,cond_false,if_true,if_false,zgS]
   ·rw[BM.e,Ai (by omega),Am (by omega)]
   ·rfl) (λhh hm=>by
   have hH0:hh[h.length]?=some (.rows 6 29 false [p.cs a1 c1 a2 c2 a3 c3]):=by rw[hm.fr _ (zfO hBl mg.le) (by simp)];exact hG0
   have r3s:=hm.keep0 rvss_ok r3';refine ⟨hh,?_⟩;rw[CP.e,Ai (by omega)];simp only[zfY];rw[ld1 4 hH0 rfl];simp only[Ae,Ab,Ag,Ah];refine (Kw (p:=My p.me) (l:=p.got) (λi=>CO (List.length h) (List.length h) 0 0 false a3 p.got.length c3 (p.got.length:Nat) (i:Nat) hh) (some (.bool false,hh)) (some (.bool true,hh)) (λi hi=>?_) ?_).trans zaY
   ·obtain ⟨o,s,b,d,G,ha,ho,es,hp,_⟩:=r3s.get hi;rw[CO.e,Ak (by omega),Ac hi];simp only[ha,Ae,AW,ho,Ab,es,Ag,zgl];rw[S7 hp (hn.2.2.2 _ (zfD hi)),];simp only[Ad,Ar];rw[ld1 0 hH0 rfl];simp only[Ae,Ab,Ag,Aa,Am (show i<9223372036854775807 by omega)];unfold My;by_cases h0:p.got[i].length=0
    ·rw[Ai (by omega),decide_eq_true h0];cases Iz i p.got[i]<;>cases ((i:Int)==p.me)<;>rfl
    ·rw[Ak (by omega),decide_eq_false h0];cases Iz i p.got[i]<;>cases ((i:Int)==p.me)<;>rfl
   ·rw[CO.e,Ai (by omega)])
 rw[zaA hc] at key;obtain ⟨h',e⟩:=key;refine ⟨h',e.trans ?_⟩;cases Jf p.chain<;>cases Mw p.chain p.clock<;>cases (p.got.zipIdx.all λx=>My p.me x.2 x.1)<;>rfl
end


variable {α:Type}{El:Rel α}
section
variable {h h' h'':Heap}{F F' F'' G:List Nat}
theorem Mv.keepB {cs:List V}{x:α} (a:Mv h F h' F') (ok:El.Ok) (he:El h cs x G) {m:Nat} (hG:∀ b∈G,b<m) (hF:∀ b∈F,m<=b):El h' cs x G :=
 a.keep ok he λb hb hm=>by have:=hG b hb;have:=hF b hm;omega
theorem Mv.keepA {cs:List V}{x:α} (a:Mv h F h' F') (ok:El.Ok) (he:El h cs x G) {m:Nat} (hG:∀ b∈G,m<=b) (hF:∀ b∈F,b<m):El h' cs x G :=
 a.keep ok he λb hb hm=>by have:=hG b hb;have:=hF b hm;omega
theorem Mv.inv (a:Mv h [] h' F'):∀ b∈F',h.length<=b/\b<h'.length:=λb hb=>by
 rcases a.sub b hb with h1 | h1
 ·simp at h1
 ·exact h1
end


variable {n t:Nat}{fs:Array Field}{xs:List V}{α:Type}{El:Rel α}
section
variable {h:Heap}
theorem EK (hu:Tryz.prog.underlying t=some (.struct fs)) (hx:TV Tryz.prog h (n+1) t xs):TVs Tryz.prog (TV Tryz.prog h n) fs.toList xs:=by simp only[TV,hu] at hx;exact hx
theorem Gf (hu:Tryz.prog.underlying t=some (.int .i64)) (hx:TV Tryz.prog h (n+1) t xs):∃ i:Int,xs = [Iv i] /\ -9223372036854775808<=i/\i<=9223372036854775807:=by
 simp only[TV,hu] at hx;obtain ⟨i,h1,h2⟩:=hx;refine ⟨i,h1,?_⟩;have e1:IntKind.i64.min = -9223372036854775808:=by decide
 have e2:IntKind.i64.max=9223372036854775807:=by decide
 simp only[Lit.wf,E1,decide_eq_true_eq] at h2;omega
theorem zcn (hu:Tryz.prog.underlying t=some .string) (hx:TV Tryz.prog h (n+1) t xs):∃ s:ByteArray,xs = [.str s]/\s.size<=maxLen:=by simp only[TV,hu] at hx;exact hx
theorem Wk (hu:Tryz.prog.underlying t=some .bool) (hx:TV Tryz.prog h (n+1) t xs):∃ b:Bool,xs = [.bool b]:=by simp only[TV,hu] at hx;exact hx
theorem L8 {bd:α->Prop}{e ee R:Nat} (hu:Tryz.prog.underlying t=some (.slice e)) (hR:Tryz.prog.cellsOf e=R) (hel:∀ row,TV Tryz.prog h n e row->∃ x F,El h row x F/\bd x) (hx:TV Tryz.prog h (n+1) t xs) :
  ∃ l F,Sli true R ee El h xs l F/\l.length<=maxLen/\∀ x∈l,bd x:=by
 simp only[TV,hu] at hx;obtain ⟨a,c,rs,rfl,⟨h2,_⟩,h3,h4⟩:=hx;have all:∀ rs:List (List V),(∀ row∈rs,TV Tryz.prog h n e row)->∃ l Fs,EAll El h rs l Fs/\l.length=rs.length/\∀ x∈l,bd x:=by
  intro rs;induction rs with
  | nil=>intro _;exact ⟨[],[],trivial,rfl,by simp⟩
  | cons r rs ih =>
   intro hr;obtain ⟨l,Fs,g1,g2,g3⟩:=ih λrow hrow=>hr row (by simp[hrow]);obtain ⟨x,F,g4,g5⟩:=hel r (hr r (by simp));exact ⟨x :: l,F :: Fs,⟨g4,g1⟩,by simp[g2],λy hy=>by
    rcases zfL.1 hy with rfl | hy
    ·exact g5
    ·exact g3 y hy⟩
 obtain ⟨l,Fs,g1,g2,g3⟩:=all rs λrow hr=>(h3 row hr).2
 rcases h4 with rfl | ⟨b,rfl,hb⟩
 ·have:l = []:=zfM (by simpa using g2);subst this;exact ⟨[],[],⟨R,a,c,by rw[hR];rfl,rfl,.inl ⟨rfl,rfl⟩⟩,zgr _,by simp⟩
 ·refine ⟨l,b :: Fs.flatten,⟨R,some (b,0),c,by rw[hR,g2],rfl,.inr ⟨b,0,rs,Fs,rfl,hb,by omega,?_,rfl⟩⟩,by omega,g3⟩;rw[zgF,zgk (by omega)];exact g1
theorem zdI {x:V} (hu:Tryz.prog.underlying t=some (.struct fs)) (hx:ArgV Tryz.prog h n t x):∃ xs,x = .agg xs/\TV Tryz.prog h n t xs:=by unfold ArgV at hx;rw[hu] at hx;exact hx
theorem Wl (hx:TV Tryz.prog h (n+2) 202 xs):∃ t:Tag,xs=t.cs:=by obtain ⟨y1,z1,rfl,_,g1,y2,z2,rfl,_,g2,rfl⟩:=EK Tryz.underlying202 hx;obtain ⟨i,rfl,_⟩:=Gf Tryz.underlying3 g1;obtain ⟨j,rfl,_⟩:=Gf Tryz.underlying3 g2;exact ⟨⟨i,j⟩,rfl⟩
theorem zdR (hx:TV Tryz.prog h (n+3) 199 xs):∃ l F,RTags true h xs l F/\l.length<=maxLen:=by obtain ⟨l,F,h1,h2,_⟩:=L8 (El:=flat Tag.cs) (bd:=λ_=>True) (ee:=zdm true) (R:=2) Tryz.underlying199 (by kernel_rfl) (λrow hr=>by obtain ⟨t,rfl⟩:=Wl (n:=n) hr;exact ⟨t,[],⟨rfl,rfl⟩,trivial⟩) hx;exact ⟨l,F,h1,h2⟩
theorem zaK (hx:TV Tryz.prog h (n+4) 201 xs):∃ l F,RTags true h xs l F/\l.length<=maxLen:=by obtain ⟨y1,z1,rfl,_,g1,rfl⟩:=EK Tryz.underlying201 hx;rw[zgc];exact zdR g1
theorem zcq (hx:TV Tryz.prog h (n+5) 207 xs):∃ v F,RVer true h xs v F/\NH v:=by
 obtain ⟨y1,z1,rfl,_,g1,y2,z2,rfl,_,g2,y3,z3,rfl,_,g3,y4,z4,rfl,_,g4,y5,z5,rfl,_,g5,rfl⟩:=EK Tryz.underlying207 hx;obtain ⟨i,rfl,_⟩:=Gf Tryz.underlying3 g1;obtain ⟨t,rfl⟩:=Wl g2;obtain ⟨l,F,g3,g3'⟩:=zaK (n:=n) g3;obtain ⟨s,rfl,g4'⟩:=zcn Tryz.underlying9 g4;obtain ⟨b,rfl⟩:=Wk Tryz.underlying4 g5;have:∃ v,y3 = [v]:=by obtain ⟨R',a,c,e,_⟩:=g3;exact ⟨_,e⟩
 obtain ⟨v,rfl⟩:=this;exact ⟨⟨i,t,l,s,b⟩,F,⟨v,rfl,g3⟩,g3',g4'⟩
theorem RX (hx:TV Tryz.prog h (n+6) 194 xs):∃ l F,RVers true h xs l F/\LT l :=
 L8 (El:=RVer true) (bd:=NH) (ee:=J0 true) (R:=6) Tryz.underlying194 (by kernel_rfl) (λrow hr=>zcq (n:=n) hr) hx
theorem zcp (hx:TV Tryz.prog h (n+7) 195 xs):∃ l F,RVss true h xs l F/\zdH l :=
 L8 (El:=RVers true) (bd:=LT) (ee:=Zd true) (R:=1) Tryz.underlying195 (by kernel_rfl) (λrow hr=>RX (n:=n) hr) hx
theorem zcr (hx:TV Tryz.prog h (n+7) 287 xs):∃ l F,RVers true h xs l F/\LT l:=by obtain ⟨y1,z1,rfl,_,g1,rfl⟩:=EK Tryz.underlying287 hx;rw[zgc];exact RX (n:=n) g1
theorem I1 {ro:Bool}{R e:Nat}{l:List α}{F:List Nat} (hs:Sli ro R e El h xs l F):∃ v,xs = [v]:=by obtain ⟨R',a,c,e,_⟩:=hs;exact ⟨_,e⟩
theorem zdT (hx:TV Tryz.prog h (n+8) 289 xs):∃ x F,RNode true h xs x F/\XE x:=by obtain ⟨y1,z1,rfl,_,g1,y2,z2,rfl,_,g2,rfl⟩:=EK Tryz.underlying289 hx;obtain ⟨l1,F1,r1,b1⟩:=zcr (n:=n) g1;obtain ⟨l2,F2,r2,b2⟩:=RX (n:=n+1) g2;obtain ⟨v1,rfl⟩:=I1 r1;obtain ⟨v2,rfl⟩:=I1 r2;exact ⟨⟨l1,l2⟩,F1++F2,⟨v1,v2,F1,F2,rfl,rfl,r1,r2⟩,b1,b2⟩
theorem zcu (hx:TV Tryz.prog h (n+9) 191 xs):∃ l F,RNodes true h xs l F/\Pf l :=
 L8 (El:=RNode true) (bd:=XE) (ee:=O5 true) (R:=2) Tryz.underlying191 (by kernel_rfl) (λrow hr=>zdT (n:=n) hr) hx
theorem zcx (hx:TV Tryz.prog h (n+10) 193 xs):∃ l F,RNodes true h xs l F/\Pf l:=by obtain ⟨y1,z1,rfl,_,g1,rfl⟩:=EK Tryz.underlying193 hx;rw[zgc];exact zcu (n:=n) g1
theorem zct (hx:TV Tryz.prog h (n+11) 197 xs):∃ p F,RPlace true h xs p F/\Nl p:=by obtain ⟨y1,z1,rfl,_,g1,y2,z2,rfl,_,g2,y3,z3,rfl,_,g3,y4,z4,rfl,_,g4,y5,z5,rfl,_,g5,y6,z6,rfl,_,g6,rfl⟩:=EK Tryz.underlying197 hx;obtain ⟨i,rfl,_⟩:=Gf Tryz.underlying3 g1;obtain ⟨j,rfl,_⟩:=Gf Tryz.underlying3 g2;obtain ⟨l1,F1,r1,b1⟩:=zcx (n:=n) g3;obtain ⟨l2,F2,r2,b2⟩:=RX (n:=n+4) g4;obtain ⟨l3,F3,r3,b3⟩:=zcp (n:=n+3) g5;obtain ⟨b,rfl⟩:=Wk Tryz.underlying4 g6;obtain ⟨v1,rfl⟩:=I1 r1;obtain ⟨v2,rfl⟩:=I1 r2;obtain ⟨v3,rfl⟩:=I1 r3;exact ⟨⟨i,j,l1,l2,l3,b⟩,F1++(F2++F3),⟨v1,v2,v3,F1,F2,F3,rfl,rfl,r1,r2,r3⟩,b1,b2,b3⟩
end


variable {l:List (List Ver)}
def Cz (ro:Bool):Rel Place:=λh cs p F=>∃ a1 c1 a2 c2 a3 c3,cs=p.cs a1 c1 a2 c2 a3 c3/\RPlace ro h cs p F
theorem NQ {ro:Bool}:(Cz ro).Ok :=
 ⟨λh h' cs p F ⟨a1,c1,a2,c2,a3,c3,e,hp⟩ hb=>⟨a1,c1,a2,c2,a3,c3,e,rplace_ok.fr _ _ _ _ _ hp hb⟩,λh cs p F ⟨_,_,_,_,_,_,_,hp⟩=>rplace_ok.bd _ _ _ _ hp⟩
theorem OE {α:Type}{El:Rel α}{R e:Nat}{h:Heap}{v:V}{l:List α}{F:List Nat} (hs:Sli true R e El h [v] l F):∃ a c,v = .sl R a l.length c:=by obtain ⟨R',a,c,e1,rfl,_⟩:=hs;injection e1 with e1 _;exact ⟨a,c,e1⟩
theorem IK {α:Type}{w sz:α->Nat}{c:Nat}:∀ {l:List α},(∀ x∈l,w x<=c*(1+sz x))->BD w l<=c*(l.length+(l.map sz).sum)
 | [],_=>by simp[BD]
 | x :: l,h=>by have h1:=IK (l:=l) λy hy=>h y (by simp[hy]);have h2:=h x (by simp);simp only[BD,zgV,zhh,zgw] at h1 ⊢;rw[Nat.mul_add] at h1 h2 ⊢;rw[Nat.mul_add,Nat.mul_add];omega
theorem OK:∀ {l:List Tag},BD Dg l=2*l.length
 | []=>rfl
 | t :: l=>by
  have h1:=OK (l:=l);have h2:BD Dg (t :: l)=2+BD Dg l:=by simp only[BD,zgV,zhh]
  rw[h2,h1,zgw];omega
theorem zaJ {v:Ver}:Nm v<=5*(1+Ox v):=by have:=OK (l:=v.past);simp only[Nm,Ox,this];omega
theorem Ot {l:List Ver}:CU l<=5*FN l:=IK λv _=>zaJ
theorem zdQ:NK l<=5*Vy l:=IK λv _=>by have:=Ot (l:=v);omega
theorem zbp {l:List Node}:EW l<=5*HU l:=IK λx _=>by have h1:=Ot (l:=x.store);have h2:=Ot (l:=x.wait);simp only[KT,NM];omega
theorem zbo {p:Place}:PL p<=5*I0 p:=by have h1:=zbp (l:=p.chain);have h2:=Ot (l:=p.log);have h3:=zdQ (l:=p.got);simp only[PL,I0];omega
theorem zby {s:Nat} (h:¬ E4 1048576 s<0):s<=1048576:=by unfold E4 at h;split at h<;>omega
abbrev zfi:Ver:=⟨0,⟨0,0⟩,[],⟨⟨[]⟩⟩,false⟩
abbrev zeO:Place:=⟨0,0,[],[],[],false⟩
section
variable {lo:Nat}{h:Heap}{F F':List Nat}{a a':Pq}{c c':Nq}
end


variable {l:List Node}
theorem Mv.swap {h h':Heap}{A B A' B':List Nat} (m:Mv h (A++B) h' (A'++B')):Mv h (B++A) h' (B'++A'):=by
 refine ⟨m.le,λb hb hn=>m.fr b hb λhm=>hn ?_,?_,λb hb=>?_⟩
 ·rw[zfF] at hm ⊢;exact hm.symm
 ·have:=m.nd;rw[zfG] at this ⊢;exact ⟨this.2.1,this.1,λx hx y hy e=>this.2.2 y hy x hx e.symm⟩
 ·rw[zfF] at hb;refine (m.sub b (by rw[zfF];exact hb.symm)).imp (λh=>?_) id;rw[zfF] at h ⊢;exact h.symm
theorem Ev {α:Type}{El:Rel α} (ok:El.Ok) {h0 h1:Heap}{lo R e n bytes:Nat}{a:Pq}{c:Nq}{l:List α}{F:List Nat}{row:List V}{x:α}{G:List Nat} (hs:Sli false R e El h0 [.sl R a n c] l F) (hx:El h1 row x G) (m:Mv h0 [] h1 G)
  (hnd:F.Nodup) (hlo:∀ b∈F,lo<=b) (hl:lo<=h0.length) (hb:0<bytes) (hsz:(l.length+1)*bytes<=140737488355328) :
  ∃ a' c' h2 F',(∀ {T:Type} (K:V->Heap->Option T),DJ lo e R bytes (.sl R a n c) [row] h1 K=K (.sl R a' (l.length+1) c') h2)/\Sli false R e El h2 [.sl R a' (l.length+1) c'] (l ++ [x]) F'/\Mv h0 F h2 F':=by
 have hbd:=(Sli.ok ok).bd _ _ _ _ hs;have hs1:=m.keep0 (Sli.ok ok) hs;have hGb:=m.lt (by simp);obtain ⟨a',c',h2,F',p1,p2,p3,p4,p5,p6⟩:=Sli.push (lo:=lo) (bytes:=bytes) ok.fr hs1 (xs := [row]) (ys := [x]) (Gs := [G]) ⟨hx,trivial⟩ hb hsz hlo (zfE hl m.le)
  (by
   rw[zfG];refine ⟨hnd,by simpa using m.nd,λy hy z hz=>?_⟩
   rintro rfl
   have g1:=hbd y hy;have g2:=m.new y (by simpa using hz);omega)
  (λb hb'=>by
   have g1:=m.le;rw[zfF] at hb';rcases hb' with hb' | hb'
   ·have:=hbd b hb';omega
   ·exact hGb b (by simpa using hb')) (by simp)
 refine ⟨a',c',h2,F',p1,p2,zfE m.le p3,λb hb' hF=>?_,p6,λb hb'=>?_⟩
 ·rw[p4 b (zfO hb' m.le) hF,m.fr b hb' (by simp)]
 ·have g1:=m.le;rcases p5 b hb' with g | g
  ·rw[zfF] at g;rcases g with g | g
   ·exact .inl g
   ·have g2:=m.new b (by simpa using g);have g3:=hGb b (by simpa using g);exact .inr (by omega)
  ·exact .inr (by omega)
def OO (l:List Node):List Node:=match l.getLast? with
 | some x=>l ++ [⟨x.store,[]⟩]
 | none=>l
def Hg (l:List Node):Bool:=decide ((l.length:Int)<4)
def Kf (l:List Node):List Node:=bif Hg l then OO l else l
theorem K9 (h0:0<l.length):OO l=l ++ [⟨(l[l.length - 1]'(by omega)).store,[]⟩]:=by unfold OO;rw[zgZ,EM (by omega)]
def zfe (raw:List V) (p:Place) (r:List V):Prop:=∃ s1 s2 s3 a1 c1 a2 c2 a3 c3,raw = [Iv p.me,Iv p.clock,s1,s2,s3,.bool p.fell] /\
 (∀ {T:Type} (K:Pq->Nat->Nq->Option T),eS 2 s1 K=K a1 p.chain.length c1)/\(∀ {T:Type} (K:Pq->Nat->Nq->Option T),eS 6 s2 K=K a2 p.log.length c2) /\
 (∀ {T:Type} (K:Pq->Nat->Nq->Option T),eS 1 s3 K=K a3 p.got.length c3)/\r=p.cs a1 c1 a2 c2 a3 c3
section
variable {lo:Nat}{h:Heap}{F F':List Nat}{a a':Pq}{c c':Nq}
theorem MF {l:List Ver}{n:Nat} (hs:RVers false h [.sl 6 a n c] l F):Af lo 205 [.sl 6 a n c] h=some (.sl 6 a n (some n),h):=Ix (by rw[Jw hs])
theorem Wf {n:Nat} (hs:RNodes false h [.sl 2 a n c] l F):Af lo 280 [.sl 2 a n c] h=some (.sl 2 a n (some n),h):=HQ (by rw[Jw hs])
theorem Ym (hs:RNodes false h [.sl 2 a l.length c] l F) (h0:0<l.length) (hn:B8 l) (hnd:F.Nodup) (hlo:∀ b∈F,lo<=b) (hl:lo<=h.length) :
  ∃ a' c' h' F',Af lo 257 [.agg [.sl 2 a l.length c]] h=some (.agg [.sl 2 a' (l.length+1) c'],h')/\RNodes false h' [.sl 2 a' (l.length+1) c'] (OO l) F'/\Mv h F h' F':=by
 have hn1:=hn.1;obtain ⟨o,s1,s2,b1,d1,b2,d2,G1,G2,ha,ho,ho1,ho2,e1,e2,q1,q2,_⟩:=hs.get (show l.length - 1<l.length by omega);obtain ⟨v3,h3,F3,e3,r3,m3⟩:=IF (lo:=lo) q1 hl (hn.2 _ (zfD _)).1;obtain ⟨a4,c4,es4,r4⟩:=r3.form;obtain ⟨a5,c5,h5,F5,e5,r5,m5⟩:=Ev (lo:=lo) (bytes:=48) (e:=47) rnode_ok hs (row := [.sl 6 a4 (l[l.length - 1]'(by omega)).store.length c4,.sl 0 none 0 (some 0)]) (x:=⟨(l[l.length - 1]'(by omega)).store,[]⟩) (G:=F3) (h1:=h3 ++ [.rows 2 47 false [[.sl 6 a4 (l[l.length - 1]'(by omega)).store.length c4,.sl 0 none 0 (some 0)]]])
  ⟨_,_,F3,[],rfl,by simp,Mv.snoc.keep0 rvers_ok r4,Sli.nil⟩ (m3.trans (Mv.snoc' m3.nd)) hnd hlo hl (by decide) (by omega)
 refine ⟨a5,c5,h5,F5,UX ?_,by rw[K9 h0];exact r5,m5⟩;rw[wr (by omega) (by omega),BY ⟨by omega,by omega⟩,show ((l.length:Int) - 1).toNat=l.length - 1 by omega];simp only[ha,Ae,ho1,Ab,e1,Ag];rw[e3];simp only[Ad,AN,Ab,es4,Ag,A2];rw[<- ha,e5];simp only[Ah]
theorem zbZ {b i j R e:Nat}{rs:List (List V)}{row:List V} (hb:h[b]?=some (.rows R e false rs)) (hrow:rs[i]?=some row) (hcell:row[j]?=some (.sl 2 a l.length c)) (hs:RNodes false h [.sl 2 a l.length c] l F) (h0:0<l.length) (hn:B8 l)
  (hnd:(b :: F).Nodup) (hlo:∀ y∈b :: F,lo<=y) (hl:lo<=h.length) :
  ∃ a' n' c' h' F',Af lo 224 [.ptr (some (b,i,j))] h=some (.bool (Hg l),h')/\h'[b]?=some (.rows R e false (rs.set i (row.set j (.sl 2 a' n' c'))))/\RNodes false h' [.sl 2 a' n' c'] (Kf l) F'/\Mv h (b :: F) h' (b :: F'):=by
 have hn1:=hn.1;have hblt:b<h.length:=(Ga hb).1;have hld:ld h b i j 1=some [.sl 2 a l.length c]:=by rw[B7 hb hrow];exact JA hcell
 unfold Kf Hg;by_cases h4:(l.length:Int)<4
 ·obtain ⟨at',ct,Gt,et,rt,_⟩:=JE (lo:=h.length) hld hs h0 hn1;obtain ⟨a3,c3,h3,F3,e3,r3,m3⟩:=Ie (lo:=h.length) rt (zfH _) (hn.2 _ (zfD _)).1;rw[zfN] at hnd;obtain ⟨a5,c5,h5,F5,e5,r5,m5⟩:=Ev (lo:=lo) (bytes:=48) (e:=47) rnode_ok hs (row := [.sl 6 a3 (l[l.length - 1]'(by omega)).store.length c3,.sl 0 none 0 (some 0)]) (x:=⟨(l[l.length - 1]'(by omega)).store,[]⟩) (G:=F3) (h1:=h3 ++ [.rows 2 47 false [[.sl 6 a3 (l[l.length - 1]'(by omega)).store.length c3,.sl 0 none 0 (some 0)]]])
   ⟨_,_,F3,[],rfl,by simp,Mv.snoc.keep0 rvers_ok r3,Sli.nil⟩ (m3.trans (Mv.snoc' m3.nd)) hnd.2 (λy hy=>hlo y (by simp[hy])) hl (by decide) (by omega)
  have hb5:h5[b]?=some (.rows R e false rs):=by rw[m5.fr b hblt hnd.1];exact hb
  have hbF5:b∉F5:=λhm=>by
   rcases m5.sub b hm with g | g
   ·exact hnd.1 g
   ·omega
  have hb5lt:b<h5.length:=zfO hblt m5.le;have hjl:j<row.length:=(Ga hcell).1;have e6:=B4 hb5 (hlo b (by simp)) hrow (FL (v := .sl 2 a5 (l.length+1) (some (l.length+1))) hjl);refine ⟨a5,l.length+1,some (l.length+1),h5.set b (.rows R e false (rs.set i (row.set j (.sl 2 a5 (l.length+1) (some (l.length+1)))))),F5,KB ?_,by simp[hb5lt],?_,?_⟩
  ·simp only[zgl,hld,Ae,Ab,Ag,Ah];rw[Ai (by omega),et];simp only[Ad,AN,Ab,Ah,Ag];rw[e3];simp only[Ad,AN,Ab,Ah,Ag,A2];rw[e5];simp only[Ah];rw[Wf r5];simp only[Ad,Ah];rw[e6];simp only[Ae,decide_eq_true h4]
  ·rw[decide_eq_true h4,cond_true,K9 h0];exact rnodes_ok.fr _ _ _ _ _ r5.clip λy hy=>zfJ (show b≠y from λe=>hbF5 (by rw[e];exact hy))
  ·refine ⟨by simpa using m5.le,λy hy hF=>?_,by rw[zfN];exact ⟨hbF5,m5.nd⟩,λy hy=>?_⟩
   ·rw[zfL,not_or] at hF;rw[zfJ (Ne.symm hF.1)];exact m5.fr y hy hF.2
   ·rw[zfL] at hy;rcases hy with rfl | hy
    ·exact .inl (by simp)
    ·refine (m5.sub y hy).imp (λg=>by simp[g]) λg=>by simpa using g
 ·refine ⟨a,l.length,c,h,F,KB ?_,?_,?_,Mv.refl hnd⟩
  ·simp only[zgl,hld,Ae,Ab,Ag,Ah];rw[Ak (by omega),decide_eq_false h4]
  ·rw[set_same hcell,set_same hrow];exact hb
  ·rw[decide_eq_false h4];exact hs
end


variable {p:Place}
theorem Pa:∀ {row:List V}{n:Nat},row.length=n->cut row 0 n=some row
 | [],0,_=>rfl
 | v :: r,n+1,h=>by have h1:=Pa (row:=r) (n:=n) (by simpa using h);show (match cut r 0 n with | some l=>some (v :: l) | none=>none)=_;rw[h1]
theorem ze7 {a1 a2 a3 b1 b2 b3:Pq}{c1 c2 c3 d1 d2 d3:Nq} (h:p.cs a1 c1 a2 c2 a3 c3=p.cs b1 d1 b2 d2 b3 d3):a1=b1/\c1=d1/\a2=b2/\c2=d2/\a3=b3/\c3=d3:=by simp only[Place.cs,List.cons.injEq,V.sl.injEq,true_and,and_true] at h;obtain ⟨⟨h1,h2⟩,⟨h3,h4⟩,h5,h6⟩:=h;exact ⟨h1,h2,h3,h4,h5,h6⟩
def NF (p:Place):Place:=⟨p.me,p.clock,Kf p.chain,p.log,p.got,p.fell⟩
theorem Dm (h:AM p=true):0<p.chain.length:=by unfold AM at h;simp only[E1] at h;have:=(Ca h.1.1.1.1.2).1;omega
theorem Ik {b:Bool}{h:Heap}:br b (some (V.bool true,h)) (some (V.bool false,h))=some (V.bool b,h):=by cases b<;>rfl
section
variable {lo:Nat}{h:Heap}{F F':List Nat}{a a':Pq}{c c':Nq}
theorem Ws {a1 a2 a3:Pq}{c1 c2 c3:Nq}{F1 F2 F3:List Nat} (hs1:RNodes false h [.sl 2 a1 p.chain.length c1] p.chain F1) (hs2:RVers false h [.sl 6 a2 p.log.length c2] p.log F2)
  (hs3:RVss false h [.sl 1 a3 p.got.length c3] p.got F3) (hl:lo<=h.length) (hn:Ef p) :
  ∃ raw a1' c1' a2' c2' a3' c3' h' F',Af lo 58 [.agg (p.cs a1 c1 a2 c2 a3 c3)] h=some (.agg raw,h')/\zfe raw p (p.cs a1' c1' a2' c2' a3' c3')/\RPlace false h' (p.cs a1' c1' a2' c2' a3' c3') p F'/\Mv h [] h' F':=by
 obtain ⟨vs,h',F',e,r,m⟩:=Yi (lo:=lo) hs1 hs2 hs3 hl hn;obtain ⟨s1,s2,s3,G1,G2,G3,rfl,rfl,g1,g2,g3⟩:=r;obtain ⟨x1,y1,es1,g1⟩:=g1.form;obtain ⟨x2,y2,es2,g2⟩:=g2.form;obtain ⟨x3,y3,es3,g3⟩:=g3.form;exact ⟨_,x1,y1,x2,y2,x3,y3,h',_,e,⟨s1,s2,s3,x1,y1,x2,y2,x3,y3,rfl,λK=>es1 K,λK=>es2 K,λK=>es3 K,rfl⟩,⟨_,_,_,G1,G2,G3,rfl,rfl,g1,g2,g3⟩,m⟩
end


def Lm (l:List Node) (k:Nat) (v:Ver):List Node:=match l[k]? with
 | some x=>match x.store[v.key.toNat]? with
  | some u=>bif Bb u v then l.set k ⟨x.store.set v.key.toNat v,bif decide (k+1<l.length) then x.wait ++ [v] else x.wait⟩ else l
  | none=>l
 | none=>l
theorem Zu {l:List Node}{k:Nat}{v:Ver} (hk:k<l.length) (hv:v.key.toNat<l[k].store.length) :
  Lm l k v=bif Bb l[k].store[v.key.toNat] v then l.set k ⟨l[k].store.set v.key.toNat v,bif decide (k+1<l.length) then l[k].wait ++ [v] else l[k].wait⟩ else l:=by
 unfold Lm;rw[EM hk];simp only;rw[EM hv]
section
variable {lo:Nat}{h h3:Heap}{F F' G:List Nat}{a a' av:Pq}{c c' cv:Nq}{n k:Nat}{l:List Node}{v:Ver}
theorem VM (hs:RNodes false h [.sl 2 a n c] l F) (hk:k<l.length) (hnd:F.Nodup) (hlo:∀ b∈F,lo<=b) (hl:lo<=h.length) (hw:l[k].wait.length<=1048576) (hv:RTags false h3 [.sl 2 av v.past.length cv] v.past G) (m3:Mv h [] h3 G) :
  ∃ b i t2 a2 c2 a5 c5 h5,a=some (b,i)/\ld h b (i+k) 1 1=some [t2]/\(∀ {T:Type} (K:Pq->Nat->Nq->Option T),eS 6 t2 K=K a2 l[k].wait.length c2) /\
   (∀ {T:Type} (K:V->Heap->Option T),DJ lo 43 6 72 (.sl 6 a2 l[k].wait.length c2) [v.cs av cv] (h3 ++ [.rows 6 43 false [v.cs av cv]]) K=K (.sl 6 a5 (l[k].wait.length+1) c5) h5) /\
   (∃ F5,RVers false h5 [.sl 6 a5 (l[k].wait.length+1) c5] (l[k].wait ++ [v]) F5) /\
   ∀ c6,(c6=c5\/c6=some (l[k].wait.length+1))->∃ h6 F6,st lo h5 b (i+k) 1 [.sl 6 a5 (l[k].wait.length+1) c6]=some h6/\RNodes false h6 [.sl 2 a n c] (l.set k ⟨l[k].store,l[k].wait ++ [v]⟩) F6/\Mv h F h6 F6:=by
 obtain ⟨b,i,rs,row,G0,ha,hbF,hbG,hb,hrow,hel,hGF,hGn,_,put⟩:=hs.at rnode_ok hk hnd hlo;obtain ⟨t1,t2,F1,F2,rfl,rfl,r1,r2⟩:=hel;obtain ⟨a2,c2,e2,r2'⟩:=r2.form;rw[zfG] at hGn;obtain ⟨a5,c5,h5,F5,e5,r5,m5⟩:=Ev (lo:=lo) (bytes:=72) (e:=43) rver_ok r2' (row:=v.cs av cv) (x:=v) (G:=G) (h1:=h3 ++ [.rows 6 43 false [v.cs av cv]])
  ⟨_,rfl,Mv.snoc.keep0 rtags_ok hv⟩ (m3.trans (Mv.snoc' m3.nd)) hGn.2.1 (λy hy=>hlo y (hGF y (by simp[hy]))) hl (by decide) (by omega)
 have b1:∀ y∈F1,y<h.length:=rvers_ok.bd _ _ _ _ r1;have m6:=(m5.aside (G:=F1) (by rw[zfG];exact ⟨hGn.2.1,hGn.1,λx hx y hy e=>hGn.2.2 y hy x hx e.symm⟩) b1).swap;have r1':=m5.keep rvers_ok r1 λy hy hm=>hGn.2.2 y hy y hm rfl;refine ⟨b,i,t2,a2,c2,a5,c5,h5,ha,by rw[B7 hb hrow];rfl,λK=>e2 K,λK=>e5 K,⟨F5,r5⟩,λc6 hc=>?_⟩;have r5':RVers false h5 [.sl 6 a5 (l[k].wait.length+1) c6] (l[k].wait ++ [v]) F5:=by
  rcases hc with rfl | rfl
  ·exact r5
  ·exact r5.clip
 obtain ⟨h6,F6,e6,r6,m7,_⟩:=put h5 (F1++F5) 1 [.sl 6 a5 (l[k].wait.length+1) c6] [t1,.sl 6 a5 (l[k].wait.length+1) c6] ⟨l[k].store,l[k].wait ++ [v]⟩ m6 rfl ⟨_,_,F1,F5,rfl,rfl,r1',r5'⟩;exact ⟨h6,F6,e6,r6,m7⟩
theorem zbH (hs:RNodes false h [.sl 2 a n c] l F) (hk:k<l.length) (hnd:F.Nodup) (hlo:∀ b∈F,lo<=b) (hq:v.key.toNat<l[k].store.length) (hv:RTags false h3 [.sl 2 av v.past.length cv] v.past G) (m3:Mv h [] h3 G) :
  ∃ b i t1 o c1,a=some (b,i)/\ld h b (i+k) 0 1=some [t1]/\(∀ {T:Type} (K:Pq->Nat->Nq->Option T),eS 6 t1 K=K (some o) l[k].store.length c1)/\(∃ F1,RVers false h [.sl 6 (some o) l[k].store.length c1] l[k].store F1) /\
   ∃ h4 F4,st lo h3 o.1 (o.2+v.key.toNat) 0 (v.cs av cv)=some h4/\RNodes false h4 [.sl 2 a n c] (l.set k ⟨l[k].store.set v.key.toNat v,l[k].wait⟩) F4/\Mv h F h4 F4:=by
 obtain ⟨b,i,rs,row,G0,ha,hbF,hbG,hb,hrow,hel,hGF,hGn,keep,_⟩:=hs.at rnode_ok hk hnd hlo;obtain ⟨t1,t2,F1,F2,rfl,rfl,r1,r2⟩:=hel;have hGn0:=hGn;rw[zfG] at hGn;obtain ⟨R',a1,c1,e1,g⟩:=id r1;injection e1 with e1 _;subst e1;cases a1 with
 | none =>have:=g.1;rw[this] at hq;exact absurd hq (Nat.not_lt_zero _)
 | some o =>
 obtain ⟨hR,_⟩:=g;subst hR;obtain ⟨b2,i2,rs2,row2,G2,e2,hb2,hbG2,hbb,hrow2,hel2,hGF2,hGn2,_,wr⟩:=r1.at rver_ok hq hGn.1 (λy hy=>hlo y (hGF y (by simp[hy])));injection e2 with e2;subst e2;obtain ⟨h4,F4,e4,r4,m4,_⟩:=wr h3 G 0 (v.cs av cv) (v.cs av cv) v (m3.wide (by simp)) (HH (by obtain ⟨s,rfl,_⟩:=hel2;rfl)) ⟨_,rfl,hv⟩;have b2':∀ y∈F2,y<h.length:=rvers_ok.bd _ _ _ _ r2;have m5:=m4.aside (G:=F2) hGn0 b2';have r2':=m4.keep rvers_ok r2 λy hy hm=>hGn.2.2 y hm y hy rfl;obtain ⟨F5,r5,m6⟩:=keep h4 ⟨l[k].store.set v.key.toNat v,l[k].wait⟩ (F4++F2) m5 ⟨_,_,F4,F2,rfl,rfl,r4,r2'⟩;exact ⟨b,i,_,(b2,i2),c1,ha,by rw[B7 hb hrow];rfl,λK=>Ah _ _ _ _ _,⟨F1,r1⟩,h4,F5,e4,r5,m6⟩
theorem Sq (hs:RNodes false h [.sl 2 a l.length c] l F) (hv:RTags false h [.sl 2 av v.past.length cv] v.past G) (hd:∀ b∈G,b∉F) (hnd:F.Nodup) (hlo:∀ b∈F,lo<=b) (hl:lo<=h.length) (hk:k<l.length)
  (hkey:0<=v.key/\v.key<l[k].store.length) (hn:B8 l) (hvn:v.past.length<=1048576) :
  ∃ h' F',Af lo 129 [.agg [.sl 2 a l.length c],Iv k,.agg (v.cs av cv)] h=some (.agg [.sl 2 a l.length c],h')/\RNodes false h' [.sl 2 a l.length c] (Lm l k v) F'/\Mv h F h' F':=by
 have hn1:=hn.1;have hkl:v.key.toNat<l[k].store.length:=by omega
 have hsm:=hn.2 _ (zfD hk);suffices hq:∃ h' F',_=some (V.agg [.sl 2 a l.length c],h')/\RNodes false h' [.sl 2 a l.length c] (Lm l k v) F'/\Mv h F h' F' from hq.imp λh' hq=>hq.imp λF' hq=>⟨XP hq.1,hq.2⟩
 obtain ⟨b,i,rs,row,G0,ha,hbF,hbG,hb,hrow,hel,hGF,hGn,_,put⟩:=hs.at rnode_ok hk hnd hlo;obtain ⟨t1,t2,F1,F2,rfl,rfl,r1,r2⟩:=hel;obtain ⟨a1,c1,e1,r1'⟩:=r1.form;obtain ⟨o,s,_,_,_,ha1,_,_,_,_,_,_,ho12,_⟩:=RVers.all r1' hkl;have ld0:ld h b (i+k) 0 1=some [t1]:=by rw[B7 hb hrow];rfl
 rw[Zu hk hkl];rw[Ac hk];simp only[ha,Ae,AW,ld0,Ab,Ag,e1];rw[BY ⟨by omega,by omega⟩];simp only[ha1,Ae,ho12,Ab,Aa,Ag,B9,Ad,Ar];show ∃ h' F',br (Bb l[k].store[v.key.toNat] v) _ _=_/\_;cases hle:Bb l[k].store[v.key.toNat] v with
 | false=>exact ⟨h,F,rfl,by rw[<- ha];exact hs,Mv.refl hnd⟩
 | true =>
  have hGn0:=hGn;rw[zfG] at hGn;have hGlt:∀ b∈G,b<h.length:=rtags_ok.bd _ _ _ _ hv;obtain ⟨h2,F3,e2,r3,m2⟩:=Ss (lo:=lo) r1' hv hGn.1 (λy hy=>hlo y (hGF y (by simp[hy]))) hl hkey hvn;have b2':∀ y∈F2,y<h.length:=rvers_ok.bd _ _ _ _ r2;have m3:=m2.aside (G:=F2) hGn0 b2';have r2':=m2.keep rvers_ok r2 λy hy hm=>hGn.2.2 y hm y hy rfl;have hadd:Hx l[k].store v=l[k].store.set v.key.toNat v:=by rw[Od hkl,hle,cond_true]
  have hlen:(Hx l[k].store v).length=l[k].store.length:=zaH;rw[<- hlen] at r3;obtain ⟨h4,F4,e4,r4,m4,b4,fr4,l4⟩:=put h2 (F3++F2) 0 [.sl 6 a1 (Hx l[k].store v).length c1] [.sl 6 a1 (Hx l[k].store v).length c1,t2] ⟨Hx l[k].store v,l[k].wait⟩ m3 rfl ⟨_,_,F3,F2,rfl,rfl,r3,r2'⟩;rw[hlen] at e4;have hv4:RTags false h4 [.sl 2 av v.past.length cv] v.past G:=m4.keep rtags_ok hv hd;have hk4:k<(l.set k ⟨Hx l[k].store v,l[k].wait⟩).length:=by simpa using hk
  rw[Aq,Ac hk];simp only[Ae,ld0,Ab,e1,Ag];rw[e2];simp only[Ad,AN,Ab,Ah,Ag];rw[Ac hk,e4];simp only[Ae];rw[wr (by omega) (by omega),cond_true];by_cases hlast:k+1<l.length
  ·rw[Ak (by omega),Ac hk,decide_eq_true hlast,cond_true];obtain ⟨a6,c6,h6,F6,e6,r6,m6⟩:=DK (lo:=h4.length) (v:=v) hv4 (zfH _) hvn;have hself:(l.set k ⟨Hx l[k].store v,l[k].wait⟩)[k]=⟨Hx l[k].store v,l[k].wait⟩:=zgR hk4;obtain ⟨b7,i7,u2,a7,c7,a8,c8,h8,ha7,ld7,e7,app7,_,st7⟩:=VM (lo:=lo) r4 hk4 m4.nd (λy hy=>m4.ge hl hlo y hy) (zfE hl m4.le) (by rw[hself];exact hsm.2.1) r6 m6;simp only[hself] at e7 app7 st7;obtain ⟨h9,F9,e9,r9,m9⟩:=st7 _ (.inl rfl);rw[ha] at ha7;injection ha7 with ha7;injection ha7 with hb7 hi7;subst hb7;subst hi7;simp only[ld7,Ae,Ab,Ag,e7];rw[e6];simp only[Ad,AN,Ab,Aa,Ah,A4,AB,Ag,A2];rw[app7];simp only[Ah];rw[Ac hk,e9];rw[zgv,hadd] at r9;exact ⟨h9,F9,rfl,by rw[<- ha];exact r9,m4.trans m9⟩
  ·rw[Ai (by omega),decide_eq_false hlast,cond_false];rw[hadd] at r4;exact ⟨h4,F4,rfl,by rw[<- ha];exact r4,m4⟩
theorem S9 {b i j R e:Nat}{rs:List (List V)}{row:List V} (hb:h[b]?=some (.rows R e false rs)) (hrow:rs[i]?=some row) (hcell:row[j]?=some (.sl 2 a l.length c)) (hs:RNodes false h [.sl 2 a l.length c] l F) (hbF:b∉F)
  (hv:RTags false h [.sl 2 av v.past.length cv] v.past G) (hd:∀ b∈G,b∉F) (hnd:F.Nodup) (hlo:∀ b∈F,lo<=b) (hl:lo<=h.length) (hk:k<l.length)
  (hkey:0<=v.key/\v.key<l[k].store.length) (hn:B8 l) (hvn:v.past.length<=1048576) :
  ∃ h' F',Af lo 204 [.ptr (some (b,(i,j))),Iv k,.agg (v.cs av cv)] h=some (.tup [],h')/\RNodes false h' [.sl 2 a l.length c] (Lm l k v) F'/\Mv h F h' F':=by
 have hn1:=hn.1;have hkl:v.key.toNat<l[k].store.length:=by omega
 have hsm:=hn.2 _ (zfD hk);have hblt:b<h.length:=(Ga hb).1;have hld:ld h b i j 1=some [.sl 2 a l.length c]:=by rw[B7 hb hrow];exact JA hcell
 suffices hq:∃ h' F',_=some (V.tup [],h')/\RNodes false h' [.sl 2 a l.length c] (Lm l k v) F'/\Mv h F h' F' from hq.imp λh' hq=>hq.imp λF' hq=>⟨Oo hq.1,hq.2⟩
 obtain ⟨a3,c3,h3,F3,e3,r3,m3⟩:=BJ (lo:=h.length) (v:=v) hv (zfH _) hvn;obtain ⟨b1,i1,t1,o,c1,ha,ld0,e1,⟨F1,r1⟩,h4,F4,e4,r4,m4⟩:=zbH (lo:=lo) hs hk hnd hlo hkl r3 m3;have hlat:=N4 (lo:=lo) (v:=v) (ca:=av) (cc:=cv) (n:=v.past.length) r1 (by omega);rw[Zu hk hkl];simp only[zgl,hld,Ae,Ab,Ag,Ah];rw[Ac hk];simp only[ha,Ae,AW,ld0,Ab,Ag,e1];rw[hlat];simp only[Ad,Ar];cases hle:Bb l[k].store[v.key.toNat] v with
 | false=>exact ⟨h,F,rfl,by rw[<- ha];exact hs,Mv.refl hnd⟩
 | true =>
  have hb4:h4[b]?=some (.rows R e false rs):=by rw[m4.fr b hblt hbF];exact hb
  have hld4:ld h4 b i j 1=some [.sl 2 a l.length c]:=by rw[B7 hb4 hrow];exact JA hcell
  have hv4:RTags false h4 [.sl 2 av v.past.length cv] v.past G:=m4.keep rtags_ok hv hd;have hk4:k<(l.set k ⟨l[k].store.set v.key.toNat v,l[k].wait⟩).length:=by simpa using hk
  rw[Aq,e3];simp only[Ad,AN,Ab,Aa,Ah,A4,AB,Ag,Ae,ld0,e1];rw[BY ⟨by omega,by omega⟩,e4];simp only[Ae,hld4,Ab,Ah,Ag];rw[P3 hn1];simp only[Ad,Ar,cond_true];by_cases hlast:k+1=l.length
  ·rw[decide_eq_true hlast,decide_eq_false (by omega),cond_false,Aq];exact ⟨h4,F4,rfl,by rw[<- ha];exact r4,m4⟩
  ·rw[decide_eq_false hlast,decide_eq_true (by omega),cond_true,Ay];obtain ⟨a6,c6,h6,F6,e6,r6,m6⟩:=BJ (lo:=h4.length) (v:=v) hv4 (zfH _) hvn;have hself:(l.set k ⟨l[k].store.set v.key.toNat v,l[k].wait⟩)[k]=⟨l[k].store.set v.key.toNat v,l[k].wait⟩:=zgR hk4;obtain ⟨b7,i7,u2,a7,c7,a8,c8,h8,ha7,ld7,e7,app7,⟨F8,r8⟩,st7⟩:=VM (lo:=lo) r4 hk4 m4.nd (λy hy=>m4.ge hl hlo y hy) (zfE hl m4.le) (by rw[hself];exact hsm.2.1) r6 m6;simp only[hself] at e7 app7 st7 r8;obtain ⟨h9,F9,e9,r9,m9⟩:=st7 _ (.inr rfl);rw[ha] at ha7;injection ha7 with ha7;injection ha7 with hb7 hi7;subst hb7;subst hi7;simp only[ld7,Ae,Ab,Ag,e7];rw[e6];simp only[Ad,AN,Ab,Aa,Ah,A4,AB,Ag,A2];rw[app7];simp only[Ah];rw[MF r8];simp only[Ad,Ah];rw[e9];rw[zgv] at r9;exact ⟨h9,F9,rfl,by rw[<- ha];exact r9,m4.trans m9⟩
end


def noted (me:Int) (log:List Ver) (v:Ver):List Ver:=bif decide (v.tag.time>0)&&(v.tag.place==me && !Dk log v.tag) then log ++ [v] else log
def FQ (l:List Node):List Ver:=match l.getLast? with
 | some x=>x.store
 | none => []
def zb3 (l:List Node):Bool:=l.all λx=>decide (x.wait.length=0)
def Cg (p:Place):Place:=⟨p.me,p.clock,p.chain,(FQ p.chain).foldl (noted p.me) p.log,p.got,p.fell && !zb3 p.chain⟩
theorem Ho {l:List Node} (h0:0<l.length):FQ l=(l[l.length - 1]'(by omega)).store:=by unfold FQ;rw[zgZ,EM (by omega)]
theorem zbN {me:Int}{log:List Ver}{v:Ver}:(noted me log v).length<=log.length+1:=by unfold noted;cases decide (v.tag.time>0)&&(v.tag.place==me && !Dk log v.tag)<;>simp
section
variable {lo:Nat}{h:Heap}{F F':List Nat}{a a':Pq}{c c':Nq}
theorem Ny {l:List Ver}{t p:Int}{ro:Bool} (hs:RVers ro h [.sl 6 a l.length c] l F) (hn:l.length<=1048576) :
  Af lo 208 [.sl 6 a l.length c,.agg [Iv t,Iv p]] h=some (.bool (Dk l ⟨t,p⟩),h):=by
 refine Rz (h':=h) ?_;have loop:∀ m i,m+i=l.length->CY h.length a l.length c false (i:Nat) t p h=some (.bool ((l.drop i).any λv=>v.tag.time==t&&v.tag.place==p),h):=by
  intro m;induction m with
  | zero =>intro i hi;rw[CY.e,Ai (by omega),zgt (by omega)];rfl
  | succ m ih =>
   intro i hi;have hil:i<l.length:=by omega
   obtain ⟨o,s,_,_,_,ha,_,_,_,_,_,_,ho,_⟩:=RVers.all hs hil;rw[CY.e,Ak (by omega),Ac hil];simp only[ha,Ae,AW,ho,Ab,Aa,Ag,zgp];rw[Am (show i<9223372036854775807 by omega),<- ha,ih (i+1) (by omega),zfT hil,List.any_cons];cases (l[i].tag.time==t&&l[i].tag.place==p)<;>rfl
 exact loop l.length 0 (by omega)
theorem QP {p:Place}{a1 a2 a3:Pq}{c1 c2 c3:Nq}{F1 F2:List Nat} (hs1:RNodes false h [.sl 2 a1 p.chain.length c1] p.chain F1) (hs2:RVers false h [.sl 6 a2 p.log.length c2] p.log F2)
  (h0:0<p.chain.length) (h4:(FQ p.chain).length=4) (hd:∀ b∈F1,b∉F2) (hnd:F2.Nodup) (hlo:∀ b∈F2,lo<=b) (hl:lo<=h.length) (hcl:p.chain.length<=1048576) (hlog:p.log.length<=1000000) (hvn:∀ v∈FQ p.chain,v.past.length<=1048576) :
  ∃ a2' c2' h' F2',Af lo 130 [.agg (p.cs a1 c1 a2 c2 a3 c3)] h=some (.agg ((Cg p).cs a1 c1 a2' c2' a3 c3),h')/\RVers false h' [.sl 6 a2' (Cg p).log.length c2'] (Cg p).log F2'/\Mv h F2 h' F2':=by
 obtain ⟨o,s1,s2,b1,d1,b2,d2,G1,G2,ha,_,ho1,_,e1,_,q1,_,q3,_⟩:=hs1.get (show p.chain.length - 1<p.chain.length by omega);rw[Ho h0] at h4 hvn;have two:∀ (hh:Heap) (F':List Nat) (ax:Pq) (nx:Nat) (cx:Nq),Mv h F2 hh F'->∀ m i (b:Bool),m+i=p.chain.length ->
   Cd lo b (i:Nat) p.me p.clock a1 p.chain.length c1 ax nx cx a3 p.got.length c3 p.fell 0 0 0 none 0 (some 0) 0 none 0 (some 0) 0 none 0 (some 0) false hh=some (.agg [Iv p.me,Iv p.clock,.sl 2 a1 p.chain.length c1,.sl 6 ax nx cx,.sl 1 a3 p.got.length c3,.bool (p.fell && !(b&&(p.chain.drop i).all λx=>decide (x.wait.length=0)))],hh):=by
  intro hh F' ax nx cx hm m;induction m with
  | zero =>intro i b hi;rw[Cd.e,Ai (by omega),zgt (by omega)];cases p.fell<;>cases b<;>rfl
  | succ m ih =>
   intro i b hi;have hil:i<p.chain.length:=by omega
   obtain ⟨o',_,_,_,_,_,_,_,_,ha',_,_,ho2',_,e2',_⟩:=(hm.keep rnodes_ok hs1 hd).get hil;rw[Cd.e,Ak (by omega),Am (show i<9223372036854775807 by omega)];cases b with
   | false=>rw[Ay,ih (i+1) false (by omega)];rfl
   | true =>rw[Aq,Ac hil];simp only[ha',Ae,AW,ho2',Ab,Ag,e2'];rw[<- ha',ih (i+1) true (by omega),ih (i+1) false (by omega),zfT hil,List.all_cons,show (((p.chain[i].wait.length:Nat):Int)==0)=decide (p.chain[i].wait.length=0) by rw[zgn,beq_iff_eq,decide_eq_true_eq];omega];cases decide (p.chain[i].wait.length=0)<;>rfl
 have one:∀ m i,m+i=4->∀ hh ax cx (lg:List Ver) Fx,RVers false hh [.sl 6 ax lg.length cx] lg Fx->Mv h F2 hh Fx->lg.length<=1000000+i->∃ a' c' h' F',
   Ce lo (i:Nat) p.me p.clock a1 p.chain.length c1 ax lg.length cx a3 p.got.length c3 p.fell 0 0 0 none 0 (some 0) 0 none 0 (some 0) 0 none 0 (some 0) false b1 (p.chain[p.chain.length - 1]'(by omega)).store.length d1 hh =
    Cd lo true 0 p.me p.clock a1 p.chain.length c1 a' (((p.chain[p.chain.length - 1]'(by omega)).store.drop i).foldl (noted p.me) lg).length c' a3 p.got.length c3 p.fell 0 0 0 none 0 (some 0) 0 none 0 (some 0) 0 none 0 (some 0) false h' /\
   RVers false h' [.sl 6 a' (((p.chain[p.chain.length - 1]'(by omega)).store.drop i).foldl (noted p.me) lg).length c'] (((p.chain[p.chain.length - 1]'(by omega)).store.drop i).foldl (noted p.me) lg) F'/\Mv h F2 h' F':=by
  intro m;induction m with
  | zero =>intro i hi hh ax cx lg Fx hr hm hlen;rw[Ce.e,Ai (by omega),zgt (by omega)];exact ⟨ax,cx,hh,Fx,rfl,hr,hm⟩
  | succ m ih =>
   intro i hi hh ax cx lg Fx hr hm hlen;have hil:i<(p.chain[p.chain.length - 1]'(by omega)).store.length:=by omega
   have q1':=hm.keep rvers_ok q1 λy hy=>hd y (q3 y hy);obtain ⟨o',s',b',d',G',ha',_,_,_,_,_,_,_,ho',es',hp',_⟩:=RVers.all q1' hil;rw[zfT hil,zgD];rw[Ce.e,Ak (by omega),Ac hil];simp only[ha',Ae,AW,ho',Ab,Aa,es',A4,AB,Ag];rw[<- ha',Am (show i<9223372036854775807 by omega),Ny hr (by omega)];simp only[Ad,Ar];have stay:=ih (i+1) (by omega) hh ax cx lg Fx hr hm (by omega);have hno:=@noted.eq_1 p.me lg ((p.chain[p.chain.length - 1]'(by omega)).store[i]'hil);cases g1:decide (((p.chain[p.chain.length - 1]'(by omega)).store[i]'hil).tag.time>0) with
   | false=>rw[Ay,hno,g1];exact stay
   | true =>
   rw[Aq];cases g2:(((p.chain[p.chain.length - 1]'(by omega)).store[i]'hil).tag.place==p.me) with
   | false=>rw[Ay,hno,g1,g2];exact stay
   | true =>
   rw[Aq];cases g3:Dk lg ((p.chain[p.chain.length - 1]'(by omega)).store[i]'hil).tag with
   | true=>rw[Aq,hno,g1,g2,g3];exact stay
   | false =>
   rw[Ay,hno,g1,g2,g3];obtain ⟨a3',c3',h3,F3,e3,r3,m3⟩:=DK (lo:=lo) (v:=((p.chain[p.chain.length - 1]'(by omega)).store[i]'hil)) hp' (zfE hl hm.le) (hvn _ (zfD hil));obtain ⟨a5,c5,h5,F5,e5,r5,m5⟩:=Ev (lo:=lo) (bytes:=72) (e:=43) rver_ok hr (row:=((p.chain[p.chain.length - 1]'(by omega)).store[i]'hil).cs a3' c3') (x:=((p.chain[p.chain.length - 1]'(by omega)).store[i]'hil)) (G:=F3) (h1:=h3 ++ [.rows 6 43 false [((p.chain[p.chain.length - 1]'(by omega)).store[i]'hil).cs a3' c3']])
    ⟨_,rfl,Mv.snoc.keep0 rtags_ok r3⟩ (m3.trans (Mv.snoc' m3.nd)) hm.nd (λy hy=>hm.ge hl hlo y hy) (zfE hl hm.le) (by decide) (by omega)
   rw[e3];simp only[Ad,AN,Ab,Aa,Ah,A4,AB,Ag,A2];rw[e5];simp only[Ah];have:=ih (i+1) (by omega) h5 a5 c5 (lg ++ [((p.chain[p.chain.length - 1]'(by omega)).store[i]'hil)]) F5 (by rw[zfR];exact r5) (hm.trans m5) (by simp;omega);rw[zfR] at this;exact this
 obtain ⟨a',c',h',F',el,r,m⟩:=one 4 0 (by omega) h a2 c2 p.log F2 hs2 (Mv.refl hnd) (by omega);refine ⟨a',c',h',F',UP ?_,?_,m⟩
 ·rw[BY ⟨by rw[wr (by omega) (by omega)];omega,by rw[wr (by omega) (by omega)];omega⟩,wr (by omega) (by omega),show ((p.chain.length:Int) - 1).toNat=p.chain.length - 1 by omega];simp only[ha,Ae,ho1,Ab,e1,Ag];rw[<- ha];refine el.trans ?_;have:=two h' F' a' (((p.chain[p.chain.length - 1]'(by omega)).store.drop 0).foldl (noted p.me) p.log).length c' m p.chain.length 0 true (by omega);refine this.trans ?_;simp only[Cg,Place.cs,Ho h0,zgF,zfQ,zb3]
 ·simp only[Cg,Ho h0];rw[zgF] at r;exact r
end


variable {l:List Node}
theorem Mv.store {h h':Heap}{F F':List Nat}{b:Nat} (m:Mv h F h' F') (hb:b<h.length) (hbF:b∉F) (X:Blk) :
  Mv h (b :: F) (h'.set b X) (b :: F')/\(h'.set b X)[b]?=some X/\(∀ y,y≠b->(h'.set b X)[y]?=h'[y]?)/\b∉F':=by
 have hbF':b∉F':=λhm=>by
  rcases m.sub b hm with g | g
  ·exact hbF g
  ·omega
 have hb':b<h'.length:=zfO hb m.le;refine ⟨⟨by simpa using m.le,λy hy hF=>?_,by rw[zfN];exact ⟨hbF',m.nd⟩,λy hy=>?_⟩,by simp[hb'],λy hy=>zfJ (Ne.symm hy),hbF'⟩
 ·rw[zfL,not_or] at hF;rw[zfJ (Ne.symm hF.1)];exact m.fr y hy hF.2
 ·rw[zfL] at hy;rcases hy with rfl | hy
  ·exact .inl (by simp)
  ·refine (m.sub y hy).imp (λg=>by simp[g]) λg=>by simpa using g
section
variable {lo:Nat}{ro:Bool}{h:Heap}{F F':List Nat}{a a':Pq}{c c':Nq}
theorem PH {g:Nat}{cl:List V}{p:Node->Bool} (hs:RNodes ro h [.sl 2 a l.length c] l F) (hn:l.length<=1048576)
  (hp:∀ lo x a1 c1 a2 c2,x∈l->Af lo g (Dl [.agg [.sl 6 a1 x.store.length c1,.sl 6 a2 x.wait.length c2]] cl) h=some (.bool (p x),h)) :
  Af lo 206 [.sl 2 a l.length c,.fn g cl] h=some (.bool (l.any p),h):=by
 have loop:∀ m k x,m+k=l.length->AG (List.length h) a l.length c g cl x (l.length:Nat) (k:Nat) h=some (Iv (BC p (l.drop k) k),h):=by
  intro m;induction m with
  | zero =>intro k x hk;rw[AG.e,Ai (by omega),show k=l.length by omega];simp[BC]
  | succ m ih =>
   intro k x hk;have hlt:k<l.length:=by omega
   obtain ⟨o,s1,s2,b1,d1,b2,d2,G1,G2,rfl,ho,_,_,e1,e2,_⟩:=hs.get hlt;rw[AG.e,Ak (by omega),Ac (by omega)];simp only[Ae,AW,ho,Ab,e1,e2,Ag];rw[hp (List.length h) l[k] b1 d1 b2 d2 (zfD hlt),Ad,Ar,zfT hlt];simp only[BC];cases p l[k]
   ·simp only[Ay,cond_false];rw[Am (by omega)];exact ih (k+1) _ (by omega)
   ·simp
 exact FH (h':=h) (by rw[GA (loop l.length 0 0 (by omega))];simp only[Ad,Aa,LQ];rw[Gq];simp)
theorem zc9:(l.any λx=>decide (x.wait.length>0)) = !zb3 l:=by
 unfold zb3;induction l with
 | nil=>rfl
 | cons x l ih =>rw[List.any_cons,List.all_cons,ih,Bool.not_and];congr 1;rw[zgn,zgG,decide_eq_true_eq,decide_eq_false_iff_not];omega
end


variable {v:Ver}{l:List Ver}{x:Node}{p:Place}{nw:Nat}
def thin (v:Ver):Prop:=v.past.length<=4/\v.text.size<=8/\Bd v.tag.time v.tag.place=true
def H0 (nw:Nat) (x:Node):Prop:=x.store.length=4/\x.wait.length<=nw/\(∀ v∈x.store,thin v)/\∀ v∈x.wait,thin v
structure Tidy (nc nw nl:Nat) (p:Place):Prop where
 len:p.chain.length<=nc
 node:∀ x∈p.chain,H0 nw x
 log:p.log.length<=nl/\∀ v∈p.log,thin v
 got:p.got.length<=3/\∀ l∈p.got,l.length<=nl/\∀ v∈l,thin v
theorem Lt (h:BO v=true):thin v:=by obtain ⟨_,h2,_,h3,h4,_⟩:=AZ h;have:=Ja h2;have:=BX h3;exact ⟨by omega,by omega,h4⟩
theorem zbx (h:Hc v=true):thin v:=by rw[Ls h];exact ⟨by simp,by show 0<=8;omega,rfl⟩
theorem zaL {i:Nat} (h:I9 i v=true):thin v:=(Di h).elim zbx λh=>Lt h.1
theorem EL {m:Int} (h:Iz m l=true):l.length<=60/\∀ i (hi:i<l.length),BO l[i]=true/\l[i].tag.place=m/\Dk (l.take i) l[i].tag=false:=by unfold Iz at h;rw[E1,EX,decide_eq_true_eq] at h;refine ⟨by omega,λi hi=>?_⟩;have:=h.1 i hi;simp only[Q6,E1,beq_iff_eq,zgG] at this;exact ⟨this.1.1,this.1.2,this.2⟩
theorem YL {m:Int} (h:Iz m l=true):l.length<=60/\∀ v∈l,thin v:=by obtain ⟨h1,h2⟩:=EL h;refine ⟨h1,λv hv=>?_⟩;obtain ⟨i,hi,rfl⟩:=zgh.1 hv;exact Lt (h2 i hi).1
theorem VT (h:Eh x=true):H0 6 x:=by obtain ⟨h1,h2,h3⟩:=AQ h;refine ⟨A6 h1,h2,λv hv=>?_,λv hv=>Lt (h3 v hv)⟩;obtain ⟨i,hi,rfl⟩:=zgh.1 hv;exact zaL (CK h1 hi)
theorem A3 (h:AM p=true):(0<=p.me/\p.me<=2)/\(0<=p.clock/\p.clock<=999)/\p.got.length=3/\DS p.chain=true/\Jf p.chain=true/\Iz p.me p.log=true /\
  (∀ i (hi:i<p.got.length),My p.me i p.got[i]=true)/\Mw p.chain p.clock=true:=by
 unfold AM at h;simp only[E1,EX,decide_eq_true_eq,Aj] at h;obtain ⟨⟨⟨⟨⟨⟨⟨h1,h2⟩,h3⟩,h4⟩,h5⟩,h6⟩,h7⟩,h8⟩:=h;exact ⟨h1,h2,h3,h4,h5,h6,h7,h8⟩
theorem R4 (h:AM p=true) {i:Nat} (hi:i<p.got.length):Iz i p.got[i]=true:=by have:=(A3 h).2.2.2.2.2.2.1 i hi;unfold My at this;rw[E1] at this;exact this.1
theorem Bj (h:AM p=true):Tidy 4 6 60 p:=by obtain ⟨_,_,h3,h4,_,h6,h7,_⟩:=A3 h;obtain ⟨g1,g2⟩:=Ca h4;refine ⟨g1.2,λx hx=>VT (g2 x hx),YL h6,by omega,λl hl=>?_⟩;obtain ⟨i,hi,rfl⟩:=zgh.1 hl;exact YL (R4 h hi)
theorem Ib {α:Type}{w:α->Nat}{c:Nat}:∀ {l:List α},(∀ v∈l,w v<=c)->BD w l<=c*l.length
 | [],_=>by simp[BD]
 | x :: l,h=>by have h1:=Ib (w:=w) (l:=l) λv hv=>h v (by simp[hv]);have h2:=h x (by simp);simp only[BD,zgV,zhh,zgw,Nat.mul_add,Nat.mul_one] at h1 ⊢;omega
theorem zcz (h:thin v):Nm v<=13:=by have:=h.1;unfold Nm;rw[OK];omega
theorem RY (hl:l.length<=1048576) (h:∀ v∈l,thin v):Ci l:=⟨hl,λv hv=>by have:=h v hv;exact ⟨by have:=this.1;omega,by have:=this.2.1;omega⟩⟩
theorem MO (h:∀ v∈l,thin v):CU l<=13*l.length:=Ib λv hv=>zcz (h v hv)
theorem zd8 (h:H0 nw x) (hw:nw<=100):Ci x.store/\Ci x.wait:=by obtain ⟨h1,h2,h3,h4⟩:=h;exact ⟨RY (by omega) h3,RY (by omega) h4⟩
theorem zcT (h:H0 nw x) (hw:nw<=100):KT x<=1352:=by obtain ⟨h1,h2,h3,h4⟩:=h;have:=MO h3;have:=MO h4;unfold KT;omega
theorem L9 {nc nl:Nat} (h:Tidy nc nw nl p) (h1:nc<=100) (h2:nw<=100):B8 p.chain:=⟨by have:=h.len;omega,λx hx=>zd8 (h.node x hx) h2⟩
theorem E3 {nc nl:Nat} (h:Tidy nc nw nl p) (h1:nc<=100) (h2:nw<=100) (h3:nl<=1000):Ef p/\(1:Int)+PL p<=Gd:=by
 have g1:=h.len;have g2:=h.log.1;have g3:=h.got.1;refine ⟨⟨L9 h h1 h2,RY (by omega) h.log.2,by omega,λl hl=>RY (by have:=(h.got.2 l hl).1;omega) (h.got.2 l hl).2⟩,?_⟩;have e1:EW p.chain<=1352*p.chain.length:=Ib λx hx=>zcT (h.node x hx) h2;have e2:=MO h.log.2;have e3:NK p.got<=13000*p.got.length:=Ib λl hl=>by have:=MO (h.got.2 l hl).2;have:=(h.got.2 l hl).1;omega
 simp only[PL,Gd];omega
theorem KU {nc nl k:Nat}{t:Int} (h:Tidy nc nw nl p) (hv:thin v):Tidy nc (nw+1) nl ⟨p.me,t,Lm p.chain k v,p.log,p.got,p.fell⟩:=by
 have hx:∀ x,x∈p.chain->H0 (nw+1) x:=λx hx=>by obtain ⟨g1,g2,g3⟩:=h.node x hx;exact ⟨g1,by omega,g3⟩
 have key:(Lm p.chain k v).length<=nc/\∀ x∈Lm p.chain k v,H0 (nw+1) x:=by
  unfold Lm;split
  ·rename_i x hk
   split
   ·rename_i u hu
    cases Bb u v with
    | false=>exact ⟨h.len,hx⟩
    | true =>
     rw[cond_true];refine ⟨by simpa using h.len,λy hy=>?_⟩;rcases zgd hy with hy | rfl
     ·exact hx y hy
     ·obtain ⟨g1,g2,g3,g4⟩:=h.node x (zfV hk);refine ⟨by simpa using g1,?_,λw hw=>?_,?_⟩
      ·cases decide (k+1<p.chain.length)
       ·show x.wait.length<=nw+1;omega
       ·show (x.wait ++ [v]).length<=nw+1;simp;omega
      ·rcases zgd hw with hw | rfl
       ·exact g3 w hw
       ·exact hv
      ·cases decide (k+1<p.chain.length)
       ·exact g4
       ·intro w hw;rcases zfF.1 hw with hw | hw
        ·exact g4 w hw
        ·rw[zgg] at hw;subst hw;exact hv
   ·exact ⟨h.len,hx⟩
  ·exact ⟨h.len,hx⟩
 exact ⟨key.1,key.2,h.log,h.got⟩
theorem VQ {me:Int}:∀ {l log:List Ver},(l.foldl (noted me) log).length<=log.length+l.length/\∀ v∈l.foldl (noted me) log,v∈log\/v∈l
 | [],log=>⟨by simp,λv hv => .inl hv⟩
 | x :: l,log=>by
  obtain ⟨h1,h2⟩:=VQ (me:=me) (l:=l) (log:=noted me log x);have h3:=zbN (me:=me) (log:=log) (v:=x);rw[zgD];refine ⟨by rw[zgw];omega,λv hv=>?_⟩;rcases h2 v hv with g | g
  ·unfold noted at g;cases hb:(decide (x.tag.time>0)&&(x.tag.place==me && !Dk log x.tag)) with
   | true =>
    rw[hb,cond_true] at g;rcases zfF.1 g with g | g
    ·exact .inl g
    ·rw[zgg] at g;exact .inr (by simp[g])
   | false =>rw[hb,cond_false] at g;exact .inl g
  ·exact .inr (by simp[g])
theorem LJ {l:List Node} (h0:0<l.length):∃ x∈l,FQ l=x.store:=⟨_,zfD (show l.length - 1<l.length by omega),Ho h0⟩
theorem MN {nc nl:Nat} (h:Tidy nc nw nl p):Tidy nc nw (nl+4) (Cg p):=by
 obtain ⟨h1,h2⟩:=VQ (me:=p.me) (l:=FQ p.chain) (log:=p.log);have hlast:(FQ p.chain).length<=4/\∀ v∈FQ p.chain,thin v:=by
  by_cases h0:0<p.chain.length
  ·obtain ⟨x,hx,e⟩:=LJ h0;obtain ⟨g1,_,g3,_⟩:=h.node x hx;rw[e];exact ⟨by omega,g3⟩
  ·have:p.chain = []:=zfM (by omega);rw[this];exact ⟨by simp[FQ],λv hv=>by simp[FQ] at hv⟩
 refine ⟨h.len,h.node,⟨?_,λv hv=>?_⟩,h.got.1,λl hl=>⟨by have:=(h.got.2 l hl).1;omega,(h.got.2 l hl).2⟩⟩
 ·have:=h.log.1;show ((FQ p.chain).foldl (noted p.me) p.log).length<=nl+4;omega
 ·rcases h2 v hv with g | g
  ·exact h.log.2 v g
  ·exact hlast.2 v g


variable {l:List Node}{p:Place}{v:Ver}
def Jx (s:List Ver) (v:Ver):Bool:=match s[v.key.toNat]? with
 | some u=>Bb u v
 | none=>false
def Fp (l:List Node):List Ver:=match l[0]? with
 | some x=>x.store
 | none => []
def EJ (l:List Node) (k:Nat):Bool:=match l[k]? with
 | some x=>decide (x.wait.length<6)
 | none=>false
def L1 (p:Place) (f:Nat):List Ver:=match p.got[f]? with
 | some l=>l
 | none => []
def Mq (p:Place) (f:Nat):Option Ver:=(L1 p f).find? (Jx (Fp p.chain))
def Hy (p:Place) (k:Nat) (t:Int) (v:Ver):Place:=⟨p.me,t,Lm p.chain k v,p.log,p.got,p.fell⟩
theorem IP (h0:0<l.length):Fp l=l[0].store:=by unfold Fp;rw[EM h0]
theorem NR {k:Nat} (hk:k<l.length):EJ l k=decide (l[k].wait.length<6):=by unfold EJ;rw[EM hk]
theorem Lb {f:Nat} (hf:f<p.got.length):L1 p f=p.got[f]:=by unfold L1;rw[EM hf]
theorem Rc {s:List Ver} (h:v.key.toNat<s.length):Jx s v=Bb s[v.key.toNat] v:=by unfold Jx;rw[EM h]
theorem O0 {α:Type}{p:α->Bool}:∀ {l:List α}{k:Nat},(∃ i,∃ hi:i<l.length,BC p l k=((k+i:Nat):Int)/\l.find? p=some l[i])\/(BC p l k = -1/\l.find? p=none)
 | [],k => .inr ⟨rfl,rfl⟩
 | x :: l,k=>by
  simp only[BC,List.find?_cons];cases hp:p x with
  | true=>exact .inl ⟨0,by simp,by simp,by simp⟩
  | false =>
   rw[cond_false];rcases O0 (p:=p) (l:=l) (k:=k+1) with ⟨i,hi,h1,h2⟩ | h
   ·exact .inl ⟨i+1,by simpa using hi,by rw[h1];congr 1;omega,by simpa using h2⟩
   ·exact .inr h
theorem Gu {k:Nat}:(Lm l k v).length=l.length:=by
 unfold Lm;split
 ·split
  ·cases Bb _ v<;>simp
  ·rfl
 ·rfl
section
variable {lo:Nat}{ro:Bool}{h:Heap}{F F':List Nat}{a a':Pq}{c c':Nq}
theorem QR (hs:RNodes ro h [.sl 2 a l.length c] l F) (h0:0<l.length):Af lo 125 [.agg [.sl 2 a l.length c]] h=some (.bool (EJ l 0),h):=by
 refine UT (h':=h) ?_;obtain ⟨o,s1,s2,b1,d1,b2,d2,G1,G2,ha,_,_,ho2,_,e2,_⟩:=hs.get h0;rw[NR h0,show (0:Int)=((0:Nat):Int) from rfl,Ac h0];simp only[ha,Ae,AW,ho2,Ab,e2,Ag];by_cases hw:l[0].wait.length<6
 ·rw[Ak (by omega),decide_eq_true hw]
 ·rw[Ai (by omega),decide_eq_false hw]
theorem P4 {b i j k:Nat} (hld:ld h b i j 1=some [.sl 2 a l.length c]) (hs:RNodes ro h [.sl 2 a l.length c] l F) (hk:k<l.length):Af lo 117 [.ptr (some (b,(i,j))),Iv (k:Nat)] h=some (.bool (!EJ l k),h):=by
 refine PD (h':=h) ?_;obtain ⟨o,s1,s2,b1,d1,b2,d2,G1,G2,ha,_,_,ho2,_,e2,_⟩:=hs.get hk;rw[zgl,hld];simp only[Ae,Ab,Ag,Ah];rw[NR hk,Ac hk];simp only[ha,Ae,AW,ho2,Ab,e2,Ag];by_cases hw:l[k].wait.length<6
 ·rw[Ai (by omega),decide_eq_true hw];rfl
 ·rw[Ak (by omega),decide_eq_false hw];rfl
theorem OC {f:Nat}{a1 a2 a3:Pq}{c1 c2 c3:Nq}{F1 F3:List Nat} (hs1:RNodes ro h [.sl 2 a1 p.chain.length c1] p.chain F1) (hs3:RVss ro h [.sl 1 a3 p.got.length c3] p.got F3)
  (h0:0<p.chain.length) (hf:f<p.got.length) (hk:∀ v∈p.got[f],0<=v.key/\v.key<(Fp p.chain).length) (hn:p.got[f].length<=1048576) :
  Af lo 292 [.agg (p.cs a1 c1 a2 c2 a3 c3),Iv (f:Nat)] h=some (Iv (BC (Jx (Fp p.chain)) p.got[f] 0),h):=by
 refine TF (h':=h) ?_;obtain ⟨o,s1,s2,b1,d1,b2,d2,G1,G2,ha,_,ho1,_,e1,_,q1,_⟩:=hs1.get h0;obtain ⟨o3,s3,b3,d3,G3,ha3,ho3,e3,q3,_⟩:=hs3.get hf;rw[IP h0] at *
 rw[show (0:Int)=((0:Nat):Int) from rfl,Ac h0];simp only[ha,Ae,AW,ho1,Ab,e1,Ag];have loop:∀ m i,m+i=p.got[f].length->Do (List.length h) (f:Nat) ((0:Nat):Int) (i:Nat) p.me p.clock a1 p.chain.length c1 a2 p.log.length c2 a3 p.got.length c3 p.fell b1 p.chain[0].store.length d1 h=some (Iv (BC (Jx p.chain[0].store) (p.got[f].drop i) i),h):=by
  intro m;induction m with
  | zero =>intro i hi;rw[Do.e,Ac hf];simp only[ha3,Ae,AW,ho3,Ab,e3,Ag];rw[Ai (by omega),zgt (by omega)];rfl
  | succ m ih =>
   intro i hi;have hil:i<p.got[f].length:=by omega
   have hky:=hk _ (zfD hil);have hkl:p.got[f][i].key.toNat<p.chain[0].store.length:=by omega
   obtain ⟨o4,s4,b4,d4,G4,ha4,ho4,e4,q4,_⟩:=q3.get hil;obtain ⟨o5,s5,b5,d5,G5,ha5,_,_,_,_,_,_,ho512,_⟩:=RVers.all q1 hkl;rw[Do.e,Ac hf];simp only[ha3,Ae,AW,ho3,Ab,e3,Ag];rw[Ak (by omega),Ac hf,Ac hil];simp only[ha4,Ae,AW,ho4,Ab,Aa,e4,A4,AB,Ag];rw[BY ⟨by omega,by omega⟩];simp only[ha5,Ae,ho512,Ab,Aa,Ag,B9,Ad,Ar];rw[<- ha3,<- ha5,Am (show i<9223372036854775807 by omega),ih (i+1) (by omega),zfT hil];simp only[BC];rw[Rc hkl];unfold Bb;cases Ic _ _ _ _<;>rfl
 have:=loop _ 0 rfl;rw[zgF] at this;rw[<- ha];exact this
theorem OD {k:Nat}{t:Int}{a1 a2 a3 av:Pq}{c1 c2 c3 cv:Nq}{F1 F2 G:List Nat} (hs1:RNodes false h [.sl 2 a1 p.chain.length c1] p.chain F1) (hs2:RVers false h [.sl 6 a2 p.log.length c2] p.log F2)
  (hv:RTags false h [.sl 2 av v.past.length cv] v.past G) (hvd:∀ b∈G,b∉F1) (hnd:(F1++F2).Nodup) (hlo:∀ b∈F1++F2,lo<=b) (hl:lo<=h.length) (hk:k<p.chain.length) (hkey:0<=v.key/\v.key<=3)
  (ht:Tidy 10 20 100 p) (hvt:thin v) :
  ∃ h2 a2' c2' h3 F1' F2',Af lo 129 [.agg [.sl 2 a1 p.chain.length c1],Iv k,.agg (v.cs av cv)] h=some (.agg [.sl 2 a1 p.chain.length c1],h2) /\
   Af lo 130 [.agg ((Hy p k t v).cs a1 c1 a2 c2 a3 c3)] h2=some (.agg ((Cg (Hy p k t v)).cs a1 c1 a2' c2' a3 c3),h3) /\
   RNodes false h3 [.sl 2 a1 (Cg (Hy p k t v)).chain.length c1] (Cg (Hy p k t v)).chain F1'/\RVers false h3 [.sl 6 a2' (Cg (Hy p k t v)).log.length c2'] (Cg (Hy p k t v)).log F2'/\Mv h (F1++F2) h3 (F1'++F2'):=by
 have ta:=KU (k:=k) (t:=t) ht hvt;have hn:=L9 ht (by decide) (by decide);have hsto:=(ht.node _ (zfD hk)).1;have hnd':=hnd;rw[zfG] at hnd';obtain ⟨h2,F1',e2,r2,m2⟩:=Sq (lo:=lo) hs1 hv hvd hnd'.1 (λb hb=>hlo b (by simp[hb])) hl hk ⟨hkey.1,by omega⟩ hn (by have:=hvt.1;omega);rw[<- Gu (k:=k) (v:=v)] at r2;have b2:∀ y∈F2,y<h.length:=rvers_ok.bd _ _ _ _ hs2;have m3:=m2.aside (G:=F2) hnd b2;have hs2':=m2.keep rvers_ok hs2 λy hy hm=>hnd'.2.2 y hm y hy rfl;have nd3:=m3.nd;rw[zfG] at nd3;have h0:0<(Hy p k t v).chain.length:=by show 0<(Lm p.chain k v).length;rw[Gu];omega
 obtain ⟨x,hx,hxe⟩:=LJ h0;have hxn:=ta.node x hx;have hl2:=m2.le;obtain ⟨a2',c2',h3,F2',e3,r3,m4⟩:=QP (lo:=lo) (p:=Hy p k t v) (a3:=a3) (c3:=c3) r2 hs2' h0 (by rw[hxe];exact hxn.1) (λy hy hy2=>nd3.2.2 y hy y hy2 rfl) hnd'.2.1 (λb hb=>hlo b (by simp[hb])) (by omega) (zfE ta.len (by decide)) (zfE ta.log.1 (by decide))
  (λw hw=>by rw[hxe] at hw;have:=(hxn.2.2.1 w hw).1;omega)
 have r2':=m4.keep rnodes_ok r2 λy hy hy2=>nd3.2.2 y hy y hy2 rfl;have b1:∀ y∈F1',y<h2.length:=rnodes_ok.bd _ _ _ _ r2;have m5:=(m4.aside (G:=F1') (by rw[zfG];exact ⟨nd3.2.1,nd3.1,λx hx y hy e=>nd3.2.2 y hy x hx e.symm⟩) b1).swap;exact ⟨h2,a2',c2',h3,F1',F2',e2,e3,r2',r3,m3.trans m5⟩
end


def Fv (p:Place) (t:Int):Place:=⟨p.me,t,p.chain,p.log,p.got,p.fell⟩
def Jo (t c:Int):Int:=if t>c then t else c
theorem Yd {h h1 h2:Heap}{b:Nat}{G1 G1' G2 G2' G3:List Nat} (m1:Mv h G1 h1 G1') (m2:Mv h1 (b :: G2) h2 (b :: G2')) (hnd:(b ::(G1++(G2++G3))).Nodup) (hb:∀ y∈b ::(G1++(G2++G3)),y<h.length) :
  Mv h (b ::(G1++(G2++G3))) h2 (b ::(G1'++(G2'++G3)))/\(∀ y∈G1',y∉b :: G2)/\(∀ y∈G3,y∉G1)/\∀ y∈G3,y∉b :: G2:=by
 rw[zfN,zfG,zfF,zfF,zfG] at hnd;obtain ⟨n1,n2,⟨n3,n4,n5⟩,n6⟩:=hnd;simp only[not_or] at n1;have hbb:=hb b (by simp);have hb1:∀ y∈G1,y<h.length:=λy hy=>hb y (by simp[hy]);have hb2:∀ y∈G2,y<h.length:=λy hy=>hb y (by simp[hy]);have hb3:∀ y∈G3,y<h.length:=λy hy=>hb y (by simp[hy]);have l1:=m1.le;have l2:=m2.le;have d1:∀ y∈G1',y∉b :: G2:=λy hy hm=>by
  rcases m1.sub y hy with g | g
  ·rcases zfL.1 hm with rfl | hm
   ·exact n1.1 g
   ·exact n6 y g y (by simp[hm]) rfl
  ·rcases zfL.1 hm with rfl | hm
   ·omega
   ·have:=hb2 y hm;omega
 have d2:∀ y∈G3,y∉G1:=λy hy hm=>n6 y hm y (by simp[hy]) rfl;have d3:∀ y∈G3,y∉b :: G2:=λy hy hm=>by
  rcases zfL.1 hm with rfl | hm
  ·exact n1.2.2 hy
  ·exact n5 y hm y hy rfl
 have nd2:=m2.nd;rw[zfN] at nd2;have s1:∀ y∈G1',y<h1.length:=m1.lt hb1;refine ⟨⟨by omega,λy hy hF=>?_,?_,λy hy=>?_⟩,d1,d2,d3⟩
 ·simp only[zfL,zfF,not_or] at hF;rw[m2.fr y (by omega) (by simp only[zfL,not_or];exact ⟨hF.1,hF.2.2.1⟩),m1.fr y hy hF.2.1]
 ·rw[zfN,zfG,zfF,zfF,zfG];refine ⟨?_,m1.nd,⟨nd2.2,n4,λx hx y hy e=>?_⟩,λx hx y hy e=>?_⟩
  ·simp only[not_or];exact ⟨λg=>d1 b g (by simp),nd2.1,n1.2.2⟩
  ·subst e;rcases m2.sub x (by simp[hx]) with g | g
   ·exact d3 x hy g
   ·have:=hb3 x hy;omega
  ·subst e;rcases zfF.1 hy with hy | hy
   ·rcases m2.sub x (by simp[hy]) with g | g
    ·exact d1 x hx g
    ·have:=s1 x hx;omega
   ·rcases m1.sub x hx with g | g
    ·exact d2 x hy g
    ·have:=hb3 x hy;omega
 ·simp only[zfL,zfF] at hy ⊢;rcases hy with hy | hy | hy | hy
  ·exact .inl (.inl hy)
  ·rcases m1.sub y hy with g | g
   ·exact .inl (.inr (.inl g))
   ·exact .inr ⟨g.1,by omega⟩
  ·rcases m2.sub y (by simp[hy]) with g | g
   ·rcases zfL.1 g with g | g
    ·exact .inl (.inl g)
    ·exact .inl (.inr (.inr (.inl g)))
   ·exact .inr ⟨by omega,g.2⟩
  ·exact .inl (.inr (.inr (.inr hy)))
section
variable {lo:Nat}{ro:Bool}{h:Heap}{F F':List Nat}{a a':Pq}{c c':Nq}
theorem GC {h1 h2:Heap}{b:Nat}{q:Place}{a1 a2 a3:Pq}{c1 c2 c3:Nq}{G1 G1' G2 G2' G3:List Nat} (m1:Mv h G1 h1 G1') (m2:Mv h1 (b :: G2) h2 (b :: G2')) (hnd:(b ::(G1++(G2++G3))).Nodup) (hb:∀ y∈b ::(G1++(G2++G3)),y<h.length)
  (r1:RNodes false h1 [.sl 2 a1 q.chain.length c1] q.chain G1') (r2:RVers false h2 [.sl 6 a2 q.log.length c2] q.log G2') (r3:RVss false h [.sl 1 a3 q.got.length c3] q.got G3) :
  Cz false h2 (q.cs a1 c1 a2 c2 a3 c3) q (G1'++(G2'++G3))/\Mv h (b ::(G1++(G2++G3))) h2 (b ::(G1'++(G2'++G3))):=by
 obtain ⟨m,d1,d2,d3⟩:=Yd m1 m2 hnd hb;exact ⟨⟨_,_,_,_,_,_,rfl,_,_,_,G1',G2',G3,rfl,rfl,m2.keep rnodes_ok r1 d1,r2,m2.keep rvss_ok (m1.keep rvss_ok r3 d2) d3⟩,m⟩
theorem Y0 {b i j R e:Nat}{rs:List (List V)}{row:List V}{l:List Node}{v:Ver}{av:Pq}{cv:Nq}{G:List Nat} (hb:h[b]?=some (.rows R e false rs)) (hrow:rs[i]?=some row) (hcell:row[j]?=some (.sl 2 a l.length c)) (hs:RNodes false h [.sl 2 a l.length c] l F) (hbF:b∉F)
  (hv:RTags false h [.sl 2 av v.past.length cv] v.past G) (hd:∀ b∈G,b∉F) (hnd:F.Nodup) (hlo:∀ b∈F,lo<=b) (hl:lo<=h.length) (h0:0<l.length)
  (hkey:0<=v.key/\v.key<l[0].store.length) (hn:B8 l) (hvn:v.past.length<=1048576) :
  ∃ h' F',Af lo 119 [.ptr (some (b,(i,j))),.agg (v.cs av cv)] h=some (.bool (EJ l 0),h')/\RNodes false h' [.sl 2 a l.length c] (bif EJ l 0 then Lm l 0 v else l) F'/\Mv h F h' F':=by
 have hld:ld h b i j 1=some [.sl 2 a l.length c]:=by rw[B7 hb hrow];exact JA hcell
 suffices hq:∃ h' F',_=some (V.bool (EJ l 0),h')/\RNodes false h' [.sl 2 a l.length c] (bif EJ l 0 then Lm l 0 v else l) F'/\Mv h F h' F' from hq.imp λh' hq=>hq.imp λF' hq=>⟨QE hq.1,hq.2⟩
 rw[show (0:Int)=((0:Nat):Int) from rfl,P4 hld hs h0];simp only[Ad,Ar];cases hr:EJ l 0 with
 | false=>exact ⟨h,F,rfl,hs,Mv.refl hnd⟩
 | true =>rw[zgo,Ay];obtain ⟨h',F',e1,r1,m1⟩:=S9 (lo:=lo) hb hrow hcell hs hbF hv hd hnd hlo hl h0 hkey hn hvn;have e1':Af lo 204 [.ptr (some (b,(i,j))),Iv ((0:Nat):Int),.agg (v.cs av cv)] h=some (.tup [],h'):=e1;refine ⟨h',F',?_,r1,m1⟩;show Al (Af lo 204 [.ptr (some (b,(i,j))),Iv ((0:Nat):Int),.agg (v.cs av cv)] h) _=_;rw[e1'];simp only[Ad,J5,Ag]
end


variable {p:Place}
def Ma (p:Place) (f:Nat):Bool:=match Mq p f with
 | some v=>EJ p.chain 0&&Et v.past (Bl p.chain)
 | none=>false
def Ek (p:Place) (f:Int):Bool:=Aj f 0 2&&Ma p f.toNat
def QJ (p:Place) (f:Nat):Place:=match Mq p f with
 | some v=>Cg (Hy p 0 (Jo v.tag.time p.clock) v)
 | none=>p
def Ff (p:Place) (f:Int):Place:=bif Ek p f then QJ p f.toNat else p
theorem Nb (h:AM p=true) {f:Nat} (hf:f<p.got.length) {v:Ver} (hv:v∈p.got[f]):BO v=true:=by obtain ⟨_,h2⟩:=EL (R4 h hf);obtain ⟨i,hi,rfl⟩:=zgh.1 hv;exact (h2 i hi).1
theorem OX (h:AM p=true):(Fp p.chain).length=4:=by have h0:=Dm h;rw[IP h0];exact A6 (AQ ((Ca (A3 h).2.2.2.1).2 _ (zfD h0))).1
theorem N1 {f:Nat} (hf:f<p.got.length):(∃ i,∃ hi:i<p.got[f].length,BC (Jx (Fp p.chain)) p.got[f] 0=(i:Int)/\Mq p f=some p.got[f][i])\/(BC (Jx (Fp p.chain)) p.got[f] 0 = -1/\Mq p f=none):=by
 unfold Mq;rw[Lb hf];rcases O0 (p:=Jx (Fp p.chain)) (l:=p.got[f]) (k:=0) with ⟨i,hi,h1,h2⟩ | h
 ·exact .inl ⟨i,hi,by rw[h1,zfY],h2⟩
 ·exact .inr h
theorem zcU {t c:Int} (h:decide (t>c)=true):Jo t c=t:=by unfold Jo;rw[if_pos (of_decide_eq_true h)]
theorem zcV {t c:Int} (h:decide (t>c)=false):Jo t c=c:=by unfold Jo;rw[if_neg (of_decide_eq_false h)]
section
variable {lo:Nat}{h:Heap}{F F':List Nat}{a a':Pq}{c c':Nq}
theorem So {f:Nat}{a1 a2 a3:Pq}{c1 c2 c3:Nq}{F1 F3:List Nat} (hs1:RNodes false h [.sl 2 a1 p.chain.length c1] p.chain F1) (hs3:RVss false h [.sl 1 a3 p.got.length c3] p.got F3)
  (hok:AM p=true) (hf:f<p.got.length) (hn:Ef p):Af lo 258 [.agg (p.cs a1 c1 a2 c2 a3 c3),Iv (f:Nat)] h=some (.bool (Ma p f),h):=by
 have h0:=Dm hok;have hchain:=(A3 hok).2.2.2.1;have hhl:=OX hok;have hky:∀ v∈p.got[f],0<=v.key/\v.key<(Fp p.chain).length:=λv hv=>by have:=(AZ (Nb hok hf hv)).1;omega
 have hgn:p.got[f].length<=1048576:=(hn.2.2.2 _ (zfD hf)).1;suffices hq:∃ h',_=some (V.bool (Ma p f),h') from by obtain ⟨h',e⟩:=hq;exact Ql e
 rw[OC hs1 hs3 h0 hf hky hgn];simp only[Ad,Aa];unfold Ma;rcases N1 hf with ⟨i,hi,e1,e2⟩ | ⟨e1,e2⟩
 ·rw[e1,e2,Ak (by omega),QR hs1 h0];simp only[Ad,Ar];cases hr:EJ p.chain 0 with
  | false=>exact ⟨h,rfl⟩
  | true =>
   obtain ⟨o3,s3,b3,d3,G3,ha3,ho3,e3,q3,_⟩:=hs3.get hf;obtain ⟨o4,s4,b4,d4,G4,ha4,_,_,_,ho43,_,_,_,_,e4,q4,_⟩:=q3.all hi;obtain ⟨v5,h5,F5,e5,r5,m5⟩:=KH (lo:=h.length) hs1 (zfH _) hn.1 h0;obtain ⟨a6,c6,e6,r6⟩:=r5.form;rw[Aq,Ac hf];simp only[ha3,Ae,AW,ho3,Ab,e3,Ag];rw[Ac hi];simp only[ha4,Ae,AW,ho43,Ab,e4,Ag];rw[e5];simp only[Ad,AN,Ab,e6,Ag];rw[GX (m5.keep0 rtags_ok q4) r6 (BX (AZ (Nb hok hf (zfD hi))).2.2.2.1) (Lv hchain)];simp only[Ad,Ar];cases Et p.got[f][i].past (Bl p.chain)
   ·exact ⟨h5,rfl⟩
   ·exact ⟨h5,rfl⟩
 ·rw[e1,e2,Ai (by omega)];exact ⟨h,rfl⟩
theorem Yh {f:Nat}{a1 a2 a3:Pq}{c1 c2 c3:Nq}{F1 F2 F3:List Nat} (hs1:RNodes false h [.sl 2 a1 p.chain.length c1] p.chain F1) (hs2:RVers false h [.sl 6 a2 p.log.length c2] p.log F2) (hs3:RVss false h [.sl 1 a3 p.got.length c3] p.got F3)
  (hok:AM p=true) (hf:f<p.got.length) (hn:Ef p) (ht:Ma p f=true) (hnd:(F1++(F2++F3)).Nodup) (hlo:∀ b∈F1++(F2++F3),lo<=b) (hl:lo<=h.length) :
  ∃ a2' c2' h' F',Af lo 259 [.agg (p.cs a1 c1 a2 c2 a3 c3),Iv (f:Nat)] h=some (.agg ((QJ p f).cs a1 c1 a2' c2' a3 c3),h')/\Cz false h' ((QJ p f).cs a1 c1 a2' c2' a3 c3) (QJ p f) F'/\Mv h (F1++(F2++F3)) h' F':=by
 have h0:=Dm hok;have hhl:=OX hok;have hky:∀ v∈p.got[f],0<=v.key/\v.key<(Fp p.chain).length:=λv hv=>by have:=(AZ (Nb hok hf hv)).1;omega
 have hgn:p.got[f].length<=1048576:=(hn.2.2.2 _ (zfD hf)).1;have hti:=Bj hok;have hti':Tidy 10 20 100 p:=⟨zfE hti.len (by decide),λx hx=>by have:=hti.node x hx;exact ⟨this.1,zfE this.2.1 (by decide),this.2.2⟩,⟨zfE hti.log.1 (by decide),hti.log.2⟩,hti.got.1,λl hl=>⟨zfE (hti.got.2 l hl).1 (by decide),(hti.got.2 l hl).2⟩⟩;unfold Ma at ht;unfold QJ;rcases N1 hf with ⟨i,hi,e1,e2⟩ | ⟨e1,e2⟩
 ·rw[e2];simp only;have hv:=Nb hok hf (zfD hi);obtain ⟨o3,s3,b3,d3,G3,ha3,ho3,e3,q3,hG3⟩:=hs3.get hf;obtain ⟨o4,s4,b4,d4,G4,ha4,ho4,e4,q4,hG4⟩:=q3.get hi;rw[<- zfS] at hnd hlo;have hnd':=hnd;rw[zfG] at hnd';have hdis:∀ y∈F3,y∉F1++F2:=λy hy hm=>hnd'.2.2 y hm y hy rfl;obtain ⟨h2,a2',c2',h3,F1',F2',e5,e6,r1,r2,m⟩:=OD (lo:=lo) (v:=p.got[f][i]) (k:=0) (t:=Jo p.got[f][i].tag.time p.clock) (a3:=a3) (c3:=c3) hs1 hs2 q4 (λy hy hm=>hdis y (hG3 y (hG4 y hy)) (by simp[hm])) hnd'.1 (λy hy=>hlo y (by rw[zfF];exact .inl hy)) hl h0 ((AZ hv).1) hti' (Lt hv);have b3':∀ y∈F3,y<h.length:=rvss_ok.bd _ _ _ _ hs3;have m':=m.aside (G:=F3) hnd b3';have hs3':=m.keep rvss_ok hs3 hdis;have hcs:∀ t,(Hy p 0 t p.got[f][i]).cs a1 c1 a2 c2 a3 c3 = [Iv p.me,Iv t,.sl 2 a1 p.chain.length c1,.sl 6 a2 p.log.length c2,.sl 1 a3 p.got.length c3,.bool p.fell]:=λt=>by simp only[Place.cs,Hy,Gu]
  rw[hcs] at e6;rw[<- zfS];refine ⟨a2',c2',h3,F1'++F2'++F3,UO ?_,⟨_,_,_,_,_,_,rfl,_,_,_,F1',F2',F3,rfl,by rw[zfS],r1,r2,hs3'⟩,m'⟩;rw[Ac hf];simp only[ha3,Ae,AW,ho3,Ab,e3,Ag];rw[<- ha3];have:=OC (lo:=h.length) (a2:=a2) (c2:=c2) hs1 hs3 h0 hf hky hgn;simp only[Place.cs] at this;rw[this,e1];simp only[Ad,Aa];rw[Ac hi];simp only[ha4,Ae,AW,ho4,Ab,Aa,e4,A4,AB,Ag];cases hd:decide (p.got[f][i].tag.time>p.clock)
  ·rw[zcV hd] at e6 ⊢;rw[Ay];rw[show (0:Int)=((0:Nat):Int) from rfl] at *
   simp only[Ver.cs] at e5;rw[e5];simp only[Ad,AN,Ab,Ah,Ag];rw[e6];simp only[Ad,Place.cs,AN,Ab,Aa,Ah,AB,Ag]
  ·rw[zcU hd] at e6 ⊢;rw[Aq];rw[show (0:Int)=((0:Nat):Int) from rfl] at *
   simp only[Ver.cs] at e5;rw[e5];simp only[Ad,AN,Ab,Ah,Ag];rw[e6];simp only[Ad,Place.cs,AN,Ab,Aa,Ah,AB,Ag]
 ·rw[e2] at ht;cases ht
end


theorem ID {p:Place} (h:AM p=true):Tidy 10 20 100 p:=by have hti:=Bj h;exact ⟨zfE hti.len (by decide),λx hx=>by have:=hti.node x hx;exact ⟨this.1,zfE this.2.1 (by decide),this.2.2⟩,⟨zfE hti.log.1 (by decide),hti.log.2⟩,hti.got.1,λl hl=>⟨zfE (hti.got.2 l hl).1 (by decide),(hti.got.2 l hl).2⟩⟩
theorem Sb {k:Int} (h:Aj k 0 2=true):∃ f:Nat,k=(f:Int)/\f<3:=by simp only[Aj,E1,decide_eq_true_eq] at h;exact ⟨k.toNat,by omega,by omega⟩
section
variable {lo:Nat}{h:Heap}{F F':List Nat}{a a':Pq}{c c':Nq}
end


variable {α:Type}{l:List Node}
theorem zeI {lo e R bytes n N b i:Nat}{row:List V}{h h2:Heap}{a':Pq}{c':Nq}{m:Nat} (hap:∀ {T:Type} (K:V->Heap->Option T),DJ lo e R bytes (.sl R (some (b,i)) n (some N)) [row] h K=K (.sl R a' m c') h2) (hN:n+1<=N):a'=some (b,i)/\c'=some N:=by have h1:=hap λv _=>some v;simp only[DJ] at h1;obtain ⟨_,h1⟩:=AC h1;obtain ⟨_,h1⟩:=AC h1;obtain ⟨_,h1⟩:=AC h1;rw[show Nat.ble (n + [row].length) N=true from Ez hN] at h1;obtain ⟨_,_,h1⟩:=AU h1;injection h1 with h1;injection h1 with _ h2 _ h3;exact ⟨h2.symm,h3.symm⟩
theorem Lh {T:Type}{El:Rel α} (ok:El.Ok) {h0:Heap}{l:List α}{lo R e bytes N:Nat}{p0:Nat×Nat}{F0:List Nat} (hlo:lo<=h0.length) (hF:∀ b∈F0,lo<=b) (hnd:F0.Nodup) (hb:0<bytes) (hsz:l.length*bytes<=140737488355328) (hN:l.length<=N)
  (L:Nat->Pq->Nat->Nq->Heap->Option T)
  (step:∀ i (hi:i<l.length) hh F,Mv h0 F0 hh F->∃ row G h2,El h2 row l[i] G/\Mv hh [] h2 G/\L i (some p0) i (some N) hh=DJ lo e R bytes (.sl R (some p0) i (some N)) [row] h2 λv h=>eS R v λa n c=>L (i+1) a n c h)
  (hs:Sli false R e El h0 [.sl R (some p0) 0 (some N)] [] F0) :
  ∃ h' F',L 0 (some p0) 0 (some N) h0=L l.length (some p0) l.length (some N) h'/\Sli false R e El h' [.sl R (some p0) l.length (some N)] l F'/\Mv h0 F0 h' F':=by
 have loop:∀ m i hh F,m+i=l.length->Mv h0 F0 hh F->Sli false R e El hh [.sl R (some p0) i (some N)] (l.take i) F ->
   ∃ h' F',L i (some p0) i (some N) hh=L l.length (some p0) l.length (some N) h'/\Sli false R e El h' [.sl R (some p0) l.length (some N)] l F'/\Mv h0 F0 h' F':=by
  intro m;induction m with
  | zero =>
   intro i hh F hi hm hr;have:i=l.length:=by omega
   subst this;rw[zhm] at hr;exact ⟨hh,F,rfl,hr,hm⟩
  | succ m ih =>
   intro i hh F hi hm hr;have hlt:i<l.length:=by omega
   obtain ⟨row,G,h2,hy,m2,e2⟩:=step i hlt hh F hm;have hlen:(l.take i).length=i:=by rw[zf2];omega
   have hml:(i+1)*bytes<=l.length*bytes:=zga _ hlt;obtain ⟨a5,c5,h5,F5,e5,r5,m5⟩:=Ev (lo:=lo) (bytes:=bytes) ok hr (row:=row) (x:=l[i]) (G:=G) (h1:=h2) hy m2 hm.nd (λy hy=>hm.ge hlo hF y hy) (zfE hlo hm.le) hb (by rw[hlen];omega);obtain ⟨b0,i0⟩:=p0;obtain ⟨rfl,rfl⟩:=zeI e5 (by omega);rw[hlen] at e5 r5;rw[List.take_append_getElem hlt] at r5;obtain ⟨h',F',e6,r6,m6⟩:=ih (i+1) h5 F5 (by omega) (hm.trans m5) r5;refine ⟨h',F',?_,r6,m6⟩;rw[e2,e5,Ah,e6]
 exact loop l.length 0 h0 F0 (by omega) (Mv.refl hnd) hs
theorem EAll.mono {α:Type}{A B:Rel α}{h:Heap} (hAB:∀ row x F,A h row x F->B h row x F):∀ {rows:List (List V)}{l:List α}{Fs:List (List Nat)},EAll A h rows l Fs->EAll B h rows l Fs
 | [],[],[],_=>trivial
 | _ :: _,_ :: _,_ :: _,⟨h1,h2⟩=>⟨hAB _ _ _ h1,EAll.mono hAB h2⟩
 | [],[],_ :: _,h=>h.elim
 | [],_ :: _,_,h=>h.elim
 | _ :: _,[],_,h=>h.elim
 | _ :: _,_ :: _,[],h=>h.elim
theorem Sli.mono {α:Type}{A B:Rel α}{h:Heap}{R e:Nat}{cs:List V}{l:List α}{F:List Nat} (hAB:∀ row x F,A h row x F->B h row x F) (hs:Sli false R e A h cs l F):Sli false R e B h cs l F:=by
 obtain ⟨R',a,c,e1,g⟩:=hs;refine ⟨R',a,c,e1,?_⟩;cases a with
 | none=>exact g
 | some p =>obtain ⟨b,i⟩:=p;obtain ⟨g0,rs,Fs,g1,g2,g3,g4,g5,g6⟩:=g;exact ⟨g0,rs,Fs,g1,g2,g3,g4,g5.mono hAB,g6⟩
def RNodeC:Rel Node:=λh row x F=>RNode false h row x F/\∃ s a n k,row = [s,.sl 6 a n (some k)]
theorem VJ:RNodeC.Ok:=⟨λh h' cs x F ⟨h1,h2⟩ hb=>⟨rnode_ok.fr _ _ _ _ _ h1 hb,h2⟩,λh cs x F ⟨h1,_⟩=>rnode_ok.bd _ _ _ _ h1⟩
abbrev RNodesC:Rel (List Node):=Sli false 2 (O5 false) RNodeC
theorem rnodesC_ok:RNodesC.Ok:=Sli.ok VJ
theorem RNodesC.up {h:Heap}{cs:List V}{F:List Nat} (hs:RNodesC h cs l F):RNodes false h cs l F:=Sli.mono (λ_ _ _ h=>h.1) hs
section
variable {lo:Nat}{h:Heap}{F F' G:List Nat}{a a' av:Pq}{c c' cv:Nq}
theorem P0 {l:List Ver} (hs:RVers false h [.sl 6 a l.length c] l F) (hl:lo<=h.length) (hn:Ci l) :
  ∃ a' h' F',Af lo 201 [.sl 6 a l.length c] h=some (.sl 6 a' l.length (some l.length),h')/\RVers false h' [.sl 6 a' l.length (some l.length)] l F'/\Mv h [] h' F':=by
 have hn1:=hn.1;have m0:Mv h [] (h ++ [.rows 6 (J0 false) false (List.replicate l.length [Iv 0,Iv 0,Iv 0,.sl 0 none 0 (some 0),.str ⟨⟨[]⟩⟩,.bool false])]) [h.length]:=Mv.last;obtain ⟨h',F',e,r,m⟩:=Lh (El:=RVer false) rver_ok (l:=l) (lo:=lo) (R:=6) (e:=J0 false) (bytes:=72) (N:=l.length) (p0:=(h.length,0)) (F0 := [h.length]) (zfE hl m0.le) (m0.ge hl (by simp)) m0.nd (by decide) (by omega) (zfH _)
  (λi a1 n1 c1 hh=>Bg lo a1 n1 c1 a l.length c (l.length:Nat) (i:Nat) hh) (λi hi hh F1 hm=>by
   have hm':Mv h [] hh []:=(m0.trans hm).drop;obtain ⟨o,s,a2,c2,G,ho,hld,es,hp,_⟩:=(hm'.keep0 rvers_ok hs).get hi;obtain ⟨a3,c3,h3,F3,e3,r3,m3⟩:=BJ (lo:=lo) (v:=l[i]) hp (zfE hl hm'.le) (hn.2 _ (zfD hi)).1;refine ⟨l[i].cs a3 c3,F3,h3 ++ [.rows 6 43 false [l[i].cs a3 c3]],⟨_,rfl,Mv.snoc.keep0 rtags_ok r3⟩,m3.trans (Mv.snoc' m3.nd),?_⟩;rw[Bg.e,Ak (by omega),Ac hi,ho];simp only[Ae,AW,hld,Ab,Aa,es,A4,AB,Ag];rw[e3];simp only[Ad,AN,Ab,Aa,Ah,A4,AB,Ag,A2,Am (show i<9223372036854775807 by omega)];rfl) (Sli.fresh (by simp))
 refine ⟨some (h.length,0),h',F',Ky ?_,r,m0.trans m⟩;rw[EF (by omega)];refine e.trans ?_;rw[Bg.e,Ai (by omega)]
theorem N7 (hs:RNodes false h [.sl 2 a l.length c] l F) (hl:lo<=h.length) (hn:B8 l) :
  ∃ a' h' F',Af lo 200 [.agg [.sl 2 a l.length c]] h=some (.agg [.sl 2 a' l.length (some l.length)],h')/\RNodesC h' [.sl 2 a' l.length (some l.length)] l F'/\Mv h [] h' F':=by
 have hn1:=hn.1;have m0:Mv h [] (h ++ [.rows 2 (O5 false) false (List.replicate l.length [.sl 0 none 0 (some 0),.sl 0 none 0 (some 0)])]) [h.length]:=Mv.last;obtain ⟨h',F',e,r,m⟩:=Lh (El:=RNodeC) VJ (l:=l) (lo:=lo) (R:=2) (e:=47) (bytes:=48) (N:=l.length) (p0:=(h.length,0)) (F0 := [h.length])
  (zfE hl m0.le) (m0.ge hl (by simp)) m0.nd (by decide) (by omega) (zfH _) (λi a1 n1 c1 hh=>B3 lo a l.length c (l.length:Nat) (i:Nat) 0 none 0 (some 0) a1 n1 c1 hh) (λi hi hh F1 hm=>by
   have hm':Mv h [] hh []:=(m0.trans hm).drop;obtain ⟨o,s1,s2,b1,d1,b2,d2,G1,G2,ha,ho,_,_,e1,e2,p1,p2,_⟩:=(hm'.keep0 rnodes_ok hs).get hi;have hsm:=hn.2 _ (zfD hi);obtain ⟨a3,c3,h3,F3,e3,r3,m3⟩:=Ie (lo:=lo) p1 (zfE hl hm'.le) hsm.1;obtain ⟨a4,h4,F4,e4,r4,m4⟩:=P0 (lo:=lo) (m3.keep0 rvers_ok p2) (zfE hl (zfE hm'.le m3.le)) hsm.2;have m34:=m3.join m4 (rvers_ok.bd _ _ _ _ r3);refine ⟨[.sl 6 a3 l[i].store.length c3,.sl 6 a4 l[i].wait.length (some l[i].wait.length)],F3++F4,h4 ++ [.rows 2 47 false [[.sl 6 a3 l[i].store.length c3,.sl 6 a4 l[i].wait.length (some l[i].wait.length)]]],
    ⟨⟨_,_,F3,F4,rfl,rfl,Mv.snoc.keep0 rvers_ok (m4.keep0 rvers_ok r3),Mv.snoc.keep0 rvers_ok r4⟩,_,_,_,_,rfl⟩,m34.trans (Mv.snoc' m34.nd),?_⟩
   rw[B3.e,Ak (by omega),Ac hi,ha];simp only[Ae,AW,ho,Ab,e1,e2,Ag];rw[e3];simp only[Ad,AN,Ab,Ah,Ag];rw[e4];simp only[Ad,Ah,A2,Am (show i<9223372036854775807 by omega)]) (Sli.fresh (by simp))
 refine ⟨some (h.length,0),h',F',Nx ?_,r,m0.trans m⟩;rw[EF (by omega)];refine e.trans ?_;rw[B3.e,Ai (by omega)]
theorem N6 {p:Place}{a1 a2 a3:Pq}{c1 c2 c3:Nq}{F1 F2 F3:List Nat} (hs1:RNodes false h [.sl 2 a1 p.chain.length c1] p.chain F1) (hs2:RVers false h [.sl 6 a2 p.log.length c2] p.log F2)
  (hs3:RVss false h [.sl 1 a3 p.got.length c3] p.got F3) (hl:lo<=h.length) (hn:Ef p) :
  ∃ a1' a2' c2' a3' c3' h' G1 G2 G3,Af lo 115 [.agg (p.cs a1 c1 a2 c2 a3 c3)] h=some (.agg (p.cs a1' (some p.chain.length) a2' c2' a3' c3'),h')/\RNodesC h' [.sl 2 a1' p.chain.length (some p.chain.length)] p.chain G1 /\
   RVers false h' [.sl 6 a2' p.log.length c2'] p.log G2/\RVss false h' [.sl 1 a3' p.got.length c3'] p.got G3/\Mv h [] h' (G1++(G2++G3)):=by
 have hn1:=hn.2.2.1;obtain ⟨b1,h1,G1,e1,r1,m1⟩:=N7 (lo:=h.length) hs1 (zfH _) hn.1;obtain ⟨b2,d2,h2,G2,e2,r2,m2⟩:=Ji (lo:=h1.length) (m1.keep0 rvers_ok hs2) (zfH _) hn.2.1;have m12:=m1.join m2 (rnodesC_ok.bd _ _ _ _ r1);have r1':=m2.keep0 rnodesC_ok r1;have hs3':=m2.keep0 rvss_ok (m1.keep0 rvss_ok hs3);have m0:Mv h2 [] (h2 ++ [.rows 1 (Zd false) false (List.replicate p.got.length [.sl 0 none 0 (some 0)])]) [h2.length]:=Mv.last;obtain ⟨b3,d3,h',F',e,r,m⟩:=Ob (El:=RVers false) rvers_ok (h0:=h2 ++ [.rows 1 (Zd false) false (List.replicate p.got.length [.sl 0 none 0 (some 0)])]) (l:=p.got) (g:=λ_ v=>some (id v)) (lo:=lo) (R:=1) (e:=26) (bytes:=24) (b0 := []) (F0 := [h2.length]) (a0:=some (h2.length,0)) (c0:=some p.got.length)
  (zfE hl (zfE m12.le m0.le)) (m0.ge (zfE hl m12.le) (by simp)) m0.nd (by decide) (by simp;omega) (λi a n c hh=>B2 lo a3 p.got.length c3 (p.got.length:Nat) (i:Nat) 0 0 0 none 0 (some 0) 0 none 0 (some 0) 0 none 0 (some 0) false p.me p.clock b1 p.chain.length (some p.chain.length) b2 p.log.length d2 a n c p.fell hh) (λi hi q1 q2 hh F1 acc hz hacc hm hr=>by
   have hm':Mv h2 [] hh []:=(m0.trans hm).drop;obtain ⟨o,s,b,d,G,rfl,ho,es,hp,_⟩:=(hm'.keep0 rvss_ok hs3').get hi;obtain ⟨a5,c5,h5,F5,e5,r5,m5⟩:=Ji (lo:=lo) hp (zfE hl (zfE m12.le (zfE m0.le hm.le))) (hn.2.2.2 _ (zfD hi));refine .inr ⟨p.got[i],[.sl 6 a5 p.got[i].length c5],F5,h5 ++ [.rows 1 26 false [[.sl 6 a5 p.got[i].length c5]]],rfl,Mv.snoc.keep0 rvers_ok r5,m5.trans (Mv.snoc' m5.nd),?_⟩;rw[B2.e,Ak (by omega),Ac hi];simp only[Ae,AW,ho,Ab,es,Ag];rw[e5];simp only[Ad,Ah,A2,Am (show i<9223372036854775807 by omega)]) (Sli.fresh (by simp))
 rw[OZ,zgU,zf8] at e r;have m3:=m12.join (m0.trans m) (λb hb=>by
   rw[zfF] at hb;exact hb.elim (rnodesC_ok.bd _ _ _ _ r1' b) (rvers_ok.bd _ _ _ _ r2 b))
 rw[zfS] at m3;refine ⟨b1,b2,d2,b3,d3,h',G1,G2,F',Nv ?_,(m0.trans m).keep0 rnodesC_ok r1',(m0.trans m).keep0 rvers_ok r2,r,m3⟩;rw[e1];simp only[Ad,AN,Ab,Ah,Ag];rw[e2];simp only[Ad,Ah];rw[EF (by omega)];refine e.trans ?_;rw[B2.e,Ai (by omega)]
end


variable {h:Heap}{Fs:List (List Nat)}{rs:List (List V)}{z:List V}{α:Type}{El:Rel α}
theorem EAll.erase {α:Type}{El:Rel α}{h:Heap}:∀ {rows:List (List V)}{l:List α}{Fs:List (List Nat)},EAll El h rows l Fs->∀ (k:Nat),EAll El h (rows.eraseIdx k) (l.eraseIdx k) (Fs.eraseIdx k)
 | [],[],[],_,k=>by simp[EAll]
 | _ :: _,_ :: _,_ :: _,⟨_,h2⟩,0=>h2
 | _ :: _,_ :: _,_ :: _,⟨h1,h2⟩,k+1=>⟨h1,h2.erase k⟩
 | [],[],_ :: _,h,_=>h.elim
 | [],_ :: _,_,h,_=>h.elim
 | _ :: _,[],_,h,_=>h.elim
 | _ :: _,_ :: _,[],h,_=>h.elim
theorem KN {k:Nat}{Fk:List Nat} (hk:Fs[k]?=some Fk) (hnd:Fs.flatten.Nodup):(Fs.eraseIdx k).flatten.Nodup/\(∀ y∈(Fs.eraseIdx k).flatten,y∈Fs.flatten/\y∉Fk):=by
 induction Fs generalizing k with
 | nil=>simp at hk
 | cons F Fs ih =>
  rw[zf7,zfG] at hnd;obtain ⟨n1,n2,n3⟩:=hnd;cases k with
  | zero =>simp at hk;subst hk;rw[List.eraseIdx_cons_zero];exact ⟨n2,λy hy=>⟨by simp only[zf7,zfF];exact .inr hy,λhm=>n3 y hm y hy rfl⟩⟩
  | succ k =>
   obtain ⟨g1,g2⟩:=ih (k:=k) (by simpa using hk) n2;rw[List.eraseIdx_cons_succ,zf7,zfG];refine ⟨⟨n1,g1,λx hx y hy=>n3 x hx y (g2 y hy).1⟩,λy hy=>?_⟩;rcases zfF.1 hy with hy | hy
   ·refine ⟨by simp only[zf7,zfF];exact .inl hy,λhm=>?_⟩;exact n3 y hy y (Hn (by simpa using hk) hm) rfl
   ·exact ⟨by simp only[zf7,zfF];exact .inr (g2 y hy).1,(g2 y hy).2⟩
theorem zaq {rs:List (List V)}{i n k:Nat}{z:List V} (hi:i+n<=rs.length) (hk:k<n) :
  let rs1:=rs.take (i+k)++((rs.drop (i+(k+1))).take (n - (k+1)))++rs.drop (i+k+((rs.drop (i+(k+1))).take (n - (k+1))).length)
  ((rs1.take (i+(n - 1)) ++ [z]++rs1.drop (i+(n - 1)+1)).drop i).take (n - 1)=(((rs.drop i).take n)).eraseIdx k/\(rs1.take (i+(n - 1)) ++ [z]++rs1.drop (i+(n - 1)+1)).length=rs.length/\rs1.length=rs.length:=by
 intro rs1;have e0:((rs.drop (i+(k+1))).take (n - (k+1))).length=n - (k+1):=by rw[zf2,zgE];omega
 have e1:rs1.length=rs.length:=by show (rs.take (i+k)++((rs.drop (i+(k+1))).take (n - (k+1)))++rs.drop (i+k+((rs.drop (i+(k+1))).take (n - (k+1))).length)).length=rs.length;rw[zfR,zfR,zf2,zgE,e0];omega
 refine ⟨?_,?_,e1⟩
 ·apply List.ext_getElem?;intro j;have hget:∀ q,q<i+(n - 1)->rs1[q]?=if q<i+k then rs[q]? else rs[q+1]?:=by
   intro q hq;show (rs.take (i+k)++((rs.drop (i+(k+1))).take (n - (k+1)))++rs.drop (i+k+((rs.drop (i+(k+1))).take (n - (k+1))).length))[q]?=_;by_cases h1:q<i+k
   ·rw[if_pos h1,zfK (by rw[zfR,zf2];omega),zfK (by rw[zf2];omega),zge,if_pos h1]
   ·rw[if_neg h1,zfK (by rw[zfR,zf2,e0];omega),zf5 (by rw[zf2];omega),zf2,zge,if_pos (by omega),zf4];congr 1;omega
  rw[zge,zf4,List.getElem?_eraseIdx];by_cases hj:j<n - 1
  ·rw[if_pos hj,zfK (by rw[zfR,zf2];omega),zfK (by rw[zf2];omega),zge,if_pos (by omega),hget _ (by omega)];by_cases hjk:j<k
   ·rw[if_pos (by omega),if_pos hjk,zge,if_pos (by omega),zf4]
   ·rw[if_neg (by omega),if_neg hjk,zge,if_pos (by omega),zf4];congr 1
  ·rw[if_neg hj];by_cases hjk:j<k
   ·omega
   ·rw[if_neg hjk,zge,if_neg (by omega)]
 ·rw[zfR,zfR,zf2,zgE,e1];simp only[zf0];omega
theorem VC {lo:Nat}{b i R e:Nat}{xs:List (List V)} (hb:h[b]?=some (.rows R e false rs)) (hlo:lo<=b) (hi:i+xs.length<=rs.length):Gj lo h b i xs=some (h.set b (.rows R e false (rs.take i++xs++rs.drop (i+xs.length)))):=by simp only[Gj,hb,Ez hlo,Ez hi]
theorem Sli.del {T:Type} (ok:El.Ok) {lo R e n k bytes:Nat}{a:Pq}{c:Nq}{l:List α}{F:List Nat}{x1 x2:Int} (hs:Sli false R e El h [.sl R a n c] l F) (hk:k<l.length) (hnd:F.Nodup) (hlo:∀ b∈F,lo<=b)
  (h1:x1=(k:Nat)) (h2:x2=(k:Nat)+1) (hb:0<bytes) (hsz:l.length*bytes<=140737488355328) (X:Option T) (K:V->Heap->Option T) :
  ∃ h' F' Fk b i row,a=some (b,i)/\ld h b (i+k) 0 row.length=some row/\El h row (l[k]'hk) Fk/\(∀ y∈Fk,y∈F/\y∉F'/\y≠b) /\
   (Az a (FP h a n c) c (some (Iv x1)) (some (Iv x2)) (some (Iv (n:Nat))) λ_ _ _=>br (x1==x2) X (Az a n c none (some (Iv x1)) none λa3 n4 c5=>Az a n c (some (Iv x2)) none none λa6 n7 c8=>Aw R h (.sl R a6 n7 c8) λx9 =>
    DJ lo e R bytes (.sl R a3 n4 c5) x9 h λv10 h11=>eS R v10 λa12 n13 c14=>Az a12 (FP h11 a12 n13 c14) c14 (some (Iv (n13:Nat))) (some (Iv (n:Nat))) none λa15 n16 c17=>zck lo R R true z h11 a15 n16 λh18=>K (.sl R a12 n13 c14) h18))=K (.sl R a (l.length - 1) c) h' /\
   Sli false R e El h' [.sl R a (l.length - 1) c] (l.eraseIdx k) F'/\Mv h F h' F'/\(∀ y,y≠b->h'[y]?=h[y]?):=by
 have hn:=hs.val;subst hn;obtain ⟨R1,a1,c1,e1,g⟩:=hs;injection e1 with e1 _;injection e1 with e0 e2 _ e3;subst e2;subst e3;cases a with
 | none=>obtain ⟨rfl,_⟩:=g;simp at hk
 | some p =>
 obtain ⟨b,i⟩:=p;obtain ⟨_,rs,Fs,g1,g2,g3,g4,g5,rfl⟩:=g;obtain ⟨row,Fk,hrow,hFk,hel⟩:=g5.get (EM hk);have hlob:=hlo b (by simp);rw[zfN] at hnd;obtain ⟨f1,f2⟩:=KN hFk hnd.2;have hblt:b<h.length:=(Ga g1).1;have hri:rs[i+k]?=some row:=by rw[zge,if_pos hk,zf4] at hrow;exact hrow
 have e0:((rs.drop (i+(k+1))).take (l.length - (k+1))).length=l.length - (k+1):=by rw[zf2,zgE];omega
 obtain ⟨r1,r2,r3⟩:=zaq (z:=z) g2 hk;generalize hxs:(rs.drop (i+(k+1))).take (l.length - (k+1))=xs at e0 r1 r2 r3;generalize hrs1:rs.take (i+k)++xs++rs.drop (i+k+xs.length)=rs1 at r1 r2 r3;have fr:∀ (X:Blk) y,y≠b->(h.set b X)[y]?=h[y]?:=λX y hy=>zfJ (Ne.symm hy);have hbFs:∀ y∈Fs.flatten,y≠b:=λy hy e=>hnd.1 (e ▸ hy);have m:∀ X:Blk,Mv h (b :: Fs.flatten) (h.set b X) (b ::(Fs.eraseIdx k).flatten):=λX=>⟨by simp,λy hy hF=>by
  rw[zfL,not_or] at hF;exact fr X y hF.1,by rw[zfN];exact ⟨λhm=>hnd.1 (f2 b hm).1,f1⟩,λy hy=>by
  rcases zfL.1 hy with rfl | hy
  ·exact .inl (by simp)
  ·exact .inl (by simp[(f2 y hy).1])⟩
 have fin:∀ rsX:List (List V),(rsX.drop i).take (l.length - 1)=((rs.drop i).take l.length).eraseIdx k->rsX.length=rs.length->Sli false R e El (h.set b (.rows R e false rsX)) [.sl R (some (b,i)) (l.length - 1) c] (l.eraseIdx k) (b ::(Fs.eraseIdx k).flatten):=λrsX hX hXl=>by have hle:(l.eraseIdx k).length=l.length - 1:=zgm hk;refine ⟨R,some (b,i),c,by rw[hle],rfl,rsX,Fs.eraseIdx k,by simp[hblt],by rw[hle,hXl];omega,λq hq=>by have:=g3 q hq;rw[hle,hXl];omega,g4,?_,rfl⟩;rw[hle,hX];exact (g5.erase k).fr ok.fr λy hy=>fr _ y (hbFs y (f2 y hy).1)
 have hmul:(k+xs.length)*bytes<=140737488355328:=zfE (zga _ (by omega)) hsz;refine ⟨h.set b (.rows R e false (rs1.take (i+(l.length - 1)) ++ [z]++rs1.drop (i+(l.length - 1)+1))),b ::(Fs.eraseIdx k).flatten,Fk,b,i,row,rfl,by rw[B7 g1 hri];exact Pa rfl,hel,λy hy=>?_,?_,fin _ r1 r2,m _,λy hy=>fr _ y hy⟩
 ·have hyF:=Hn hFk hy;exact ⟨by simp[hyF],λhm=>by
   rcases zfL.1 hm with rfl | hm
   ·exact hbFs y hyF rfl
   ·exact (f2 y hm).2 hy,hbFs y hyF⟩
 have hx12:(x1==x2)=false:=by rw[beq_eq_false_iff_ne,h1,h2];omega
 have hRR:Nat.beq R R=true:=J7;have hroom:∀ (hh:Heap) (rs':List (List V)) (q:Nat),hh[b]?=some (.rows R e false rs')->q<=FP hh (some (b,i)) q c/\(c=none->rs'.length - i<=FP hh (some (b,i)) q c):=λhh rs' q hq=>by
  unfold FP;cases c with
  | some _=>exact ⟨zfH _,λe=>by cases e⟩
  | none =>simp only[Heap.rows?,hq];exact ⟨Nat.le_max_left _ _,λ_=>Nat.le_max_right _ _⟩
 have hr0:=(hroom h rs l.length g1).1;generalize FP h (some (b,i)) l.length c=M0 at hr0;have s1:∀ (Y:Option T),(Az (some (b,i)) M0 c (some (Iv x1)) (some (Iv x2)) (some (Iv (l.length:Nat))) λ_ _ _=>Y)=Y:=λY=>by
  unfold Az HD KI Lw;simp only[Aa,AW,Option.isNone_some];have q0:zaf x2 l.length (zaf x1 x2.toNat (NP (some (b,i)) x2.toNat (some l.length) x1.toNat λ_ _ _=>Y))=Y:=by rw[DL ⟨by rw[h2];omega,by rw[h2];omega⟩,DL ⟨by rw[h1];omega,by rw[h1,h2];omega⟩];unfold NP;simp only;cases Nat.beq l.length x1.toNat<;>rfl
  cases c with
  | some N=>have:=g3 N rfl;simp only;rw[DL ⟨by omega,by omega⟩];exact q0
  | none=>simp only;rw[DL ⟨by omega,by omega⟩];exact q0
 have s2:∀ (K:Pq->Nat->Nq->Option T),Az (some (b,i)) l.length c none (some (Iv x1)) none K=K (some (b,i)) k c:=λK=>by
  unfold Az HD KI Lw;simp only[Aa,zgT];cases c with
  | some N =>have:=g3 N rfl;simp only;rw[DL ⟨by rw[h1];omega,by rw[h1];omega⟩,h1,AW]
  | none =>simp only;rw[DL ⟨by rw[h1];omega,by rw[h1];omega⟩,h1,AW]
 have s3:∀ (K:List (List V)->Option T),(Az (some (b,i)) l.length c (some (Iv x2)) none none λa6 n7 c8=>Aw R h (.sl R a6 n7 c8) K)=K xs:=λK=>by
  unfold Az HD KI Lw;simp only[Aa,zgT];have ht:x2.toNat=k+1:=by rw[h2];omega
  rw[DL ⟨by rw[h2];omega,by rw[h2];omega⟩,ht];unfold NP;simp only;have rows:∀ cc:Nq,Aw R h (.sl R (some (b,i+(k+1))) (l.length - (k+1)) cc) K=K xs:=λcc=>by
   cases hm:l.length - (k+1) with
   | zero =>have hx0:xs = []:=zfM (by omega);rw[hx0];simp[Aw,hRR,Bf]
   | succ m =>
    simp only[Aw,hRR,Dj];rw[show Fl h b (i+(k+1)) (m+1)=some xs by
     simp only[Fl,Heap.rows?,g1,zf1];rw[Ez (by omega),<- hm,hxs]]
    rfl
  cases c with
  | none=>exact rows none
  | some N =>
   have:=g3 N rfl;simp only;cases hb:Nat.beq N (k+1) with
   | false=>rw[Ay];exact rows _
   | true =>
    have hN:=zfP hb;have hm:l.length - (k+1)=0:=by omega
    have hx0:xs = []:=zfM (by omega);rw[Aq,hx0,hm];simp[Aw,hRR,Bf]
 have s4:∀ (K:V->Heap->Option T),∃ h11,h11[b]?=some (.rows R e false rs1)/\(∀ X:Blk,h11.set b X=h.set b X)/\DJ lo e R bytes (.sl R (some (b,i)) k c) xs h K=K (.sl R (some (b,i)) (l.length - 1) c) h11:=λK=>by
  cases hx:xs with
  | nil =>
   rw[hx] at e0 hrs1;simp only[zg2] at e0;have hk1:k=l.length - 1:=by omega
   refine ⟨h,?_,λX=>rfl,?_⟩
   ·rw[g1,<- hrs1];simp
   ·simp only[DJ];rw[<- hk1]
  | cons x0 xr =>
   have hl1:k+(x0 :: xr).length=l.length - 1:=by rw[<- hx,e0];omega
   refine ⟨h.set b (.rows R e false rs1),by simp[hblt],λX=>by rw[zgv],?_⟩;have hst:Gj lo h b (i+k) (x0 :: xr)=some (h.set b (.rows R e false rs1)):=by rw[VC g1 hlob (by rw[Nat.add_assoc,hl1];omega),<- hx,hrs1]
   have hmul':decide ((k+(x0 :: xr).length)*bytes<=K0)=true:=decide_eq_true (by rw[<- hx];exact hmul);have hbb:Nat.blt 0 bytes=true:=by simpa [zhc] using hb
   simp only[DJ];rw[hbb,Dj,hmul',Dj,hRR,Dj];cases c with
   | some N =>have:=g3 N rfl;have hle:Nat.ble (k+(x0 :: xr).length) N=true:=Ez (by omega);simp only;rw[hle,hst];rw[hl1];rfl
   | none =>
    have how:Heap.own? lo e h b=some rs:=by simp only[Heap.own?,g1,Ez hlob,J7]
    have hle:Nat.ble (i+k+(x0 :: xr).length) rs.length=true:=Ez (by rw[Nat.add_assoc,hl1];omega);simp only;rw[how,Ae,hle,hst];rw[hl1];rfl
 rw[s1,hx12,Ay,s2,s3];obtain ⟨h11,q1,q2,q3⟩:=s4 λv10 h11=>eS R v10 λa12 n13 c14=>Az a12 (FP h11 a12 n13 c14) c14 (some (Iv (n13:Nat))) (some (Iv (l.length:Nat))) none λa15 n16 c17=>zck lo R R true z h11 a15 n16 λh18=>K (.sl R a12 n13 c14) h18;rw[q3,Ah];have hlen:(l.length - (l.length - 1))=1:=by omega
 have hst:Gj lo h11 b (i+(l.length - 1)) (List.replicate 1 z)=some (h.set b (.rows R e false (rs1.take (i+(l.length - 1)) ++ [z]++rs1.drop (i+(l.length - 1)+1)))):=by rw[VC q1 hlob (by simp;omega),q2];rfl
 obtain ⟨_,hr11⟩:=hroom h11 rs1 (l.length - 1) q1;generalize FP h11 (some (b,i)) (l.length - 1) c=M1 at hr11;unfold Az HD KI Lw;simp only[Aa,AW,zgT];cases c with
 | some N =>
  have:=g3 N rfl;have hne:Nat.beq N (l.length - 1)=false:=by
   cases hb:Nat.beq N (l.length - 1) with
   | false=>rfl
   | true=>have:=zfP hb;omega
  simp only;rw[DL ⟨by omega,by omega⟩,DL ⟨by omega,by omega⟩];unfold NP;simp only;rw[hne,Ay,hlen];simp only[zck,hRR,zho,Dj,hst,Ae]
 | none =>have:=hr11 rfl;simp only;rw[DL ⟨by omega,by omega⟩,DL ⟨by omega,by omega⟩];unfold NP;simp only;rw[hlen];simp only[zck,hRR,zho,Dj,hst,Ae]


variable {l:List Node}
def Ii (l:List Node) (k:Nat):List Node:=match l[k]? with
 | some x=>l.set k ⟨x.store,x.wait.eraseIdx 0⟩
 | none=>l
def WC (l:List Node) (k:Nat):Bool:=match l[k]? with
 | some x=>decide (0<x.wait.length)&&EJ l (k+1)
 | none=>false
def DT (l:List Node) (k:Int):Bool:=Aj k 0 ((l.length:Int) - 2)&&WC l k.toNat
def JN (l:List Node) (k:Nat):List Node:=match l[k]? with
 | some x=>match x.wait[0]? with
  | some v=>Lm (Ii l k) (k+1) v
  | none=>l
 | none=>l
theorem JH {k:Nat} (hk:k<l.length):Ii l k=l.set k ⟨l[k].store,l[k].wait.eraseIdx 0⟩:=by unfold Ii;rw[EM hk]
theorem Ng {k:Nat}:(Ii l k).length=l.length:=by unfold Ii;split<;>simp
theorem NV {k:Nat} (hk:k<l.length):WC l k=(decide (0<l[k].wait.length)&&EJ l (k+1)):=by unfold WC;rw[EM hk]
theorem VO {k:Nat} (hk:k<l.length) (h0:0<l[k].wait.length):JN l k=Lm (Ii l k) (k+1) (l[k].wait[0]'h0):=by unfold JN;rw[EM hk];simp only;rw[EM h0]
theorem Sli.at2 {α:Type}{El:Rel α} (ok:El.Ok) {h:Heap}{R R' e n k lo:Nat}{a:Pq}{c:Nq}{l:List α}{F:List Nat} (hs:Sli false R e El h [.sl R' a n c] l F) (hk:k<l.length) (hnd:F.Nodup) (hlo:∀ b∈F,lo<=b) :
  ∃ b i rs row G,a=some (b,i)/\b∈F/\b∉G/\h[b]?=some (.rows R e false rs)/\rs[i+k]?=some row/\El h row l[k] G/\(∀ y∈G,y∈F)/\G.Nodup /\
   (∀ h1 G1 j cs row' x',Mv h G h1 G1->paste row j cs=some row'->El h1 row' x' G1 ->
    ∃ h2 F',st lo h1 b (i+k) j cs=some h2/\Sli false R e El h2 [.sl R' a n c] (l.set k x') F'/\Mv h F h2 F'/\(∀ y,y≠b->h2[y]?=h1[y]?)/\∀ y∈F',(y∈F/\y∉G)\/y∈G1):=by
 have hbd:=(Sli.ok ok).bd _ _ _ _ hs;obtain ⟨b,i,rs,row,G,ha,hbF,hbG,hb,hrow,hel,hGF,hGn,put⟩:=hs.put ok.fr hk hnd;have hblt:b<h.length:=hbd b hbF;refine ⟨b,i,rs,row,G,ha,hbF,hbG,hb,hrow,hel,hGF,hGn,λh1 G1 j cs row' x' m hp hx=>?_⟩;have hbG1:b∉G1:=λhm=>by
  rcases m.sub b hm with h1 | h1
  ·exact hbG h1
  ·omega
 have hb1:h1[b]?=some (.rows R e false rs):=by rw[m.fr b hblt hbG];exact hb
 have hb1lt:b<h1.length:=zfO hblt m.le;have e2:=B4 hb1 (hlo b hbF) hrow hp;have fr2:∀ y,y≠b->(h1.set b (.rows R e false (rs.set (i+k) row')))[y]?=h1[y]?:=λy hy=>zfJ (Ne.symm hy);obtain ⟨F',p1,p2,p3,_⟩:=put (h1.set b (.rows R e false (rs.set (i+k) row'))) row' x' G1 (by simp[hb1lt]) (λy hy hyb hyG=>by rw[fr2 y hyb];exact m.fr y (hbd y hy) hyG)
  (ok.fr _ _ _ _ _ hx λy hy=>fr2 y λe=>hbG1 (e ▸ hy)) m.nd (λy hy hyF=>by
  rcases m.sub y hy with h1 | h1
  ·exact h1
  ·have:=hbd y hyF;omega)
 refine ⟨_,F',e2,p1,⟨by simpa using m.le,λy hy hyF=>?_,p3,λy hy=>?_⟩,fr2,p2⟩
 ·rw[fr2 y λe=>hyF (e ▸ hbF)];exact m.fr y hy λhg=>hyF (hGF y hg)
 ·rcases p2 y hy with h1 | h1
  ·exact .inl h1.1
  ·refine (m.sub y h1).imp (hGF y) λh=>by simpa using h
section
variable {lo:Nat}{ro:Bool}{h:Heap}{F F' G:List Nat}{a a' av:Pq}{c c' cv:Nq}
theorem zcC {l:List Ver} (hs:RVers false h [.sl 6 a l.length c] l F) (h0:0<l.length) (hnd:F.Nodup) (hl:lo<=h.length) (hn:l.length<=1048576) :
  ∃ o s av cv Gv,a=some o/\ld h o.1 (o.2+0) 0 6=some [Iv l[0].key,Iv l[0].tag.time,Iv l[0].tag.place,s,.str l[0].text,.bool l[0].gone]/\(∀ {T:Type} (K:Pq->Nat->Nq->Option T),eS 2 s K=K av l[0].past.length cv)/\RTags false h [.sl 2 av l[0].past.length cv] l[0].past Gv /\
   ∃ a' c' h' F',(∀ {T:Type} (K:V->Heap->Option T),(Az a l.length c (some (Iv 1)) none none λa n c=>Aw 6 (h ++ [.rows 6 43 false []]) (.sl 6 a n c) λxs=>DJ lo 43 6 72 (.sl 6 (some (h.length,0)) 0 (some 0)) xs (h ++ [.rows 6 43 false []]) K)=K (.sl 6 a' (l.eraseIdx 0).length c') h') /\
    RVers false h' [.sl 6 a' (l.eraseIdx 0).length c'] (l.eraseIdx 0) F'/\Mv h F h' F'/\(∀ y∈Gv,y∉F'/\y∈F)/\∀ y,y<h.length->h'[y]?=h[y]?:=by
 have hbd:=rvers_ok.bd _ _ _ _ hs;obtain ⟨R1,a1,c1,e1,g⟩:=hs;injection e1 with e1 _;injection e1 with e0 e2 _ e3;subst e2;subst e3;cases a with
 | none=>obtain ⟨rfl,_⟩:=g;simp at h0
 | some p =>
 obtain ⟨b,i⟩:=p;obtain ⟨_,rs,Fs,g1,g2,g3,_,g5,rfl⟩:=g;obtain ⟨row,Fk,hrow,hFk,hel⟩:=g5.get (EM h0);rw[zfN] at hnd;obtain ⟨f1,f2⟩:=KN hFk hnd.2;have hri:rs[i]?=some row:=by rw[zge,if_pos h0,zf4] at hrow;exact hrow
 obtain ⟨s,av,cv,rfl,es,hp⟩:=hel.form;have hil:i<rs.length:=by omega
 have hcut:((rs.drop i).take l.length).eraseIdx 0=(rs.drop (i+1)).take (l.length - 1):=by rw[zfT hil,show l.length=(l.length - 1)+1 by omega,List.take_succ_cons,List.eraseIdx_cons_zero];simp
 have g6:=g5.erase 0;rw[hcut] at g6;have hlen:=zgm h0;generalize hxs:(rs.drop (i+1)).take (l.length - 1)=xs at g6;have hxl:xs.length=l.length - 1:=by rw[<- hlen];exact g6.len.1
 have m0:Mv h [] (h ++ [.rows 6 43 false []]) [h.length]:=Mv.last;have hb1:(h ++ [.rows 6 43 false []])[b]?=some (.rows 6 (J0 false) false rs):=by rw[m0.fr b (hbd b (by simp)) (by simp)];exact g1
 have s3:∀ {T:Type} (K:List (List V)->Option T),(Az (some (b,i)) l.length c (some (Iv 1)) none none λa6 n7 c8=>Aw 6 (h ++ [.rows 6 43 false []]) (.sl 6 a6 n7 c8) K)=K xs:=λK=>by
  unfold Az HD KI Lw;simp only[Aa,zgT];rw[DL ⟨by omega,by omega⟩,show ((1:Int)).toNat=1 from rfl];have key:∀ c8:Nq,Aw 6 (h ++ [.rows 6 43 false []]) (.sl 6 (some (b,i+1)) (l.length - 1) c8) K=K xs:=λc8=>by
   simp only[Aw,J7,Dj];cases hm:l.length - 1 with
   | zero =>have hx0:xs = []:=zfM (by omega);rw[hx0]
   | succ m =>
    simp only;rw[show Fl (h ++ [.rows 6 43 false []]) b (i+1) (m+1)=some xs by
     simp only[Fl,Heap.rows?,hb1,zf1];rw[Ez (by omega),<- hm,hxs]]
    rfl
  cases c with
  | none=>exact key none
  | some N =>
   obtain ⟨hN,_⟩:=g3 N rfl;unfold NP;simp only;cases hb:Nat.beq N 1 with
   | false=>rw[Ay];exact key _
   | true =>have:=zfP hb;have hx0:xs = []:=zfM (by omega);rw[Aq,show l.length - 1=0 by omega,hx0];simp[Aw,Bf]
 have hfl:∀ y∈(Fs.eraseIdx 0).flatten,y<h.length:=λy hy=>hbd y (by simp[(f2 y hy).1]);refine ⟨(b,i),s,av,cv,Fk,rfl,by rw[B7 g1 (by rw[zgl];exact hri)];rfl,es,hp,?_⟩;have hFkb:∀ y∈Fk,y∈Fs.flatten:=λy hy=>Hn hFk hy;by_cases he:l.eraseIdx 0 = []
 ·have hx0:xs = []:=zfM (by rw[hxl,<- hlen,he];rfl);refine ⟨some (h.length,0),some 0,_,[h.length],λK=>by rw[s3,hx0];simp only[DJ];rw[he];rfl,by rw[he];exact Sli.fresh (zfH _),?_,λy hy=>?_,λy hy=>m0.fr y hy (by simp)⟩
  ·exact m0.wide (by simp)
  ·have:=hbd y (by simp[hFkb y hy]);exact ⟨by simp;omega,by simp[hFkb y hy]⟩
 ·have hfresh:RVers false (h ++ [.rows 6 (J0 false) false []]) [.sl 6 (some (h.length,0)) 0 (some 0)] [] [h.length]:=Sli.fresh (zfH _);obtain ⟨a',c',h',F',p1,p2,p3,p4,p5,p6⟩:=Sli.push (lo:=lo) (bytes:=72) rver_ok.fr hfresh (xs:=xs) (ys:=l.eraseIdx 0) (Gs:=Fs.eraseIdx 0) (g6.fr rver_ok.fr λy hy=>m0.fr y (hfl y hy) (by simp)) (by decide) (by rw[hlen];simp;omega) (by simp;omega) (by simp;omega)
   (by rw[zf9,zf8,zfN];exact ⟨λhm=>by have:=hfl _ hm;omega,f1⟩) (λy hy=>by
    rw[zf9,zf8,zfL] at hy;rcases hy with rfl | hy
    ·simp
    ·have:=hfl y hy;simp;omega) he
  simp only[zg2,zfY,zf8] at p1 p2;have hfr:∀ y,y<h.length->h'[y]?=h[y]?:=λy hy=>by rw[p4 y (by simp;omega) (by simp;omega)];exact m0.fr y hy (by simp)
  refine ⟨a',c',h',F',λK=>by rw[s3];exact p1 K,p2,⟨by simp at p3;omega,λy hy _=>hfr y hy,p6,λy hy=>?_⟩,λy hy=>⟨λhm=>?_,by simp[hFkb y hy]⟩,hfr⟩
  ·simp at p3;rcases p5 y hy with g | g
   ·rw[zf9,zf8,zfL] at g;rcases g with rfl | g
    ·exact .inr (by omega)
    ·exact .inl (by simp[(f2 y g).1])
   ·simp at g;exact .inr (by omega)
  ·have hyl:=hbd y (by simp[hFkb y hy]);rcases p5 y hm with g | g
   ·rw[zf9,zf8,zfL] at g;rcases g with rfl | g
    ·omega
    ·exact (f2 y g).2 hy
   ·simp at g;omega
theorem ZN {k:Int} (hs:RNodes ro h [.sl 2 a l.length c] l F) (hn:l.length<=1048576):Af lo 253 [.agg [.sl 2 a l.length c],Iv k] h=some (.bool (DT l k),h):=by
 refine XO (h':=h) ?_;rw[wr (by omega) (by omega),A9,Ad,Ar];unfold DT;cases hw:Aj k 0 ((l.length:Int) - 2) with
 | false=>rw[Ay];rfl
 | true =>
 simp only[Aj,E1,decide_eq_true_eq] at hw;obtain ⟨f,rfl⟩:∃ f:Nat,k=(f:Int):=⟨k.toNat,by omega⟩;have hk:f<l.length:=by omega
 have hk1:f+1<l.length:=by omega
 obtain ⟨o,s1,s2,b1,d1,b2,d2,G1,G2,ha,_,_,ho2,_,e2,_⟩:=hs.get hk;obtain ⟨o',s1',s2',b1',d1',b2',d2',G1',G2',ha',_,_,ho2',_,e2',_⟩:=hs.get hk1;have:o=o':=by rw[ha] at ha';injection ha'
 subst this;rw[AW,NV hk,NR hk1,Aq,Ac hk,ha,Ae,ho2,Ae,Ab,Ag,e2];by_cases h0:0<l[f].wait.length
 ·rw[Ak (by omega),Am (by omega),Ac hk1,Ae,AW,ho2',Ae,Ab,Ag,e2',decide_eq_true h0];by_cases h6:l[f+1].wait.length<6
  ·rw[Ak (by omega),decide_eq_true h6];rfl
  ·rw[Ai (by omega),decide_eq_false h6];rfl
 ·rw[Ai (by omega),decide_eq_false h0];rfl
def Z2 (x:Node):Prop:=H0 20 x/\∀ v∈x.wait,0<=v.key/\v.key<=3
theorem Yj {k:Nat} (hs:RNodes false h [.sl 2 a l.length c] l F) (hk:k+1<l.length) (h0:0<(l[k]'(by omega)).wait.length) (hnd:F.Nodup) (hlo:∀ b∈F,lo<=b) (hl:lo<=h.length) (hn:B8 l) (hx:∀ x∈l,Z2 x) :
  ∃ h' F',Af lo 254 [.agg [.sl 2 a l.length c],Iv (k:Nat)] h=some (.agg [.sl 2 a l.length c],h')/\RNodes false h' [.sl 2 a l.length c] (JN l k) F'/\Mv h F h' F':=by
 have hk':k<l.length:=by omega
 have hn1:=hn.1;suffices hq:∃ h' F',_=some (V.agg [.sl 2 a l.length c],h')/\RNodes false h' [.sl 2 a l.length c] (JN l k) F'/\Mv h F h' F' from hq.imp λh' hq=>hq.imp λF' hq=>⟨UU hq.1,hq.2⟩
 obtain ⟨b,i,rs,row,G0,ha,hbF,hbG,hb,hrow,hel,hGF,hGn,put⟩:=hs.at2 rnode_ok hk' hnd hlo;obtain ⟨t1,t2,F1,F2,rfl,rfl,r1,r2⟩:=hel;obtain ⟨a2,c2,e2,r2'⟩:=r2.form;have hGn0:=hGn;rw[zfG] at hGn;obtain ⟨o,s,av,cv,Gv,ho,hld,es,hp,a3,c3,h3,F3,e3,r3,m3,hGv,fr3⟩:=zcC (lo:=lo) r2' h0 hGn.2.1 hl (hn.2 _ (zfD hk')).2.1;have b1:∀ y∈F1,y<h.length:=rvers_ok.bd _ _ _ _ r1;have m4:=(m3.aside (G:=F1) (by rw[zfG];exact ⟨hGn.2.1,hGn.1,λx hx y hy e=>hGn.2.2 y hy x hx e.symm⟩) b1).swap;have r1':RVers false h3 [t1] l[k].store F1:=rvers_ok.fr _ _ _ _ _ r1 λy hy=>fr3 y (b1 y hy);obtain ⟨h4,F4,e4,r4,m5,fr4,sub4⟩:=put h3 (F1++F3) 1 [.sl 6 a3 (l[k].wait.eraseIdx 0).length c3] [t1,.sl 6 a3 (l[k].wait.eraseIdx 0).length c3] ⟨l[k].store,l[k].wait.eraseIdx 0⟩ m4 rfl ⟨_,_,F1,F3,rfl,rfl,r1',r3⟩;rw[<- JH hk'] at r4;have hln:=Ng (l:=l) (k:=k);have hGvG:∀ y∈Gv,y∈F1++F2:=λy hy=>by simp[(hGv y hy).2]
 have hGvl:∀ y∈Gv,y<h.length:=rtags_ok.bd _ _ _ _ hp;have hd:∀ y∈Gv,y∉F4:=λy hy hm=>by
  rcases sub4 y hm with g | g
  ·exact g.2 (hGvG y hy)
  ·rcases zfF.1 g with g | g
   ·exact hGn.2.2 y g y (hGv y hy).2 rfl
   ·exact (hGv y hy).1 g
 have hp4:RTags false h4 [.sl 2 av (l[k].wait[0]'h0).past.length cv] (l[k].wait[0]'h0).past Gv:=rtags_ok.fr _ _ _ _ _ hp λy hy=>by rw[fr4 y λe=>hbG (by rw[<- e];exact hGvG y hy),fr3 y (hGvl y hy)]
 have hpx:=hx _ (zfD hk');have hky:=hpx.2 _ (zfD h0);have hth:=hpx.1.2.2.2 _ (zfD h0);have hk1:k+1<(Ii l k).length:=by rw[hln];exact hk
 have hst1:(Ii l k)[k+1].store.length=4:=by
  have:(Ii l k)[k+1]=l[k+1]:=by have e:=JH hk';rw[zhs e,List.getElem_set_ne (by omega)]
  rw[this];exact (hx _ (zfD hk)).1.1
 have hnd5:B8 (Ii l k):=by
  refine ⟨by rw[hln];exact hn1,λx hx'=>?_⟩;rw[JH hk'] at hx';rcases zgd hx' with hx' | rfl
  ·exact hn.2 x hx'
  ·have:=hn.2 _ (zfD hk');exact ⟨this.1,Sx this.2 (zfE (zg7 _ _) this.2.1) λv hv=>zgB hv⟩
 rw[<- hln] at r4;obtain ⟨h5,F5,e5,r5,m6⟩:=Sq (lo:=lo) (k:=k+1) (v:=l[k].wait[0]'h0) r4 hp4 hd m5.nd (λy hy=>m5.ge hl hlo y hy) (zfE hl m5.le) hk1 ⟨hky.1,by omega⟩ hnd5 (by have:=hth.1;omega);rw[hln] at e5 r5;rw[<- VO hk' h0] at r5;have hblt:b<h.length:=(Ga hb).1;have ld1:ld h b (i+k) 1 1=some [t2]:=by rw[B7 hb hrow];rfl
 have ld2:ld (h ++ [.rows 6 43 false []]) b (i+k) 1 1=some [t2]:=by rw[B7 (by rw[zfK hblt];exact hb) hrow];rfl
 simp only[Ver.cs] at e5;have e5':Af lo 129 [.agg [.sl 2 a l.length c],Iv ((k:Nat)+1:Int),.agg [Iv (l[k].wait[0]'h0).key,Iv (l[k].wait[0]'h0).tag.time,Iv (l[k].wait[0]'h0).tag.place,.sl 2 av (l[k].wait[0]'h0).past.length cv,.str (l[k].wait[0]'h0).text,.bool (l[k].wait[0]'h0).gone]] h4=some (.agg [.sl 2 a l.length c],h5):=by rw[show ((k:Nat)+1:Int)=((k+1:Nat):Int) by omega];exact e5
 rw[Ac hk',ha,Ae,AW,ld1,Ae,Ab,Ag,e2,BY ⟨by omega,by omega⟩,ho,Ae,hld,Ae,Ab,Aa,Ab,Aa,Ab,Aa,Ab,es,Ab,A4,Ab,AB,Ag,Ac hk',Ae,ld2,Ae,Ab,Ag,e2,e3,Ah,Ac hk',Ae,e4,Ae,wr (n:=((k:Nat):Int)+1) (by omega) (by omega),<- ha,e5',Ad,AN,Ab,Ah,Ag];exact ⟨h5,F5,rfl,r5,m5.trans m6⟩
end


theorem JM {a:Option (List V)}:HG a a=true:=by unfold HG;exact (@decide_eq_true_iff _ (_)).2 rfl
section
variable {lo:Nat}{ro:Bool}{h:Heap}{F F' G:List Nat}{a a' av:Pq}{c c' cv:Nq}
theorem Xf {l:List Ver} (hs:RVers false h [.sl 6 a l.length c] l F) (h0:0<l.length) (hnd:F.Nodup) (hlo:∀ b∈F,lo<=b) (hn:l.length<=1048576) :
  ∃ o s av cv Gv,a=some o/\ld h o.1 (o.2+0) 0 6=some [Iv l[0].key,Iv l[0].tag.time,Iv l[0].tag.place,s,.str l[0].text,.bool l[0].gone]/\(∀ {T:Type} (K:Pq->Nat->Nq->Option T),eS 2 s K=K av l[0].past.length cv)/\RTags false h [.sl 2 av l[0].past.length cv] l[0].past Gv /\
   ∃ h' F',Af lo 298 [.sl 6 a l.length c,Iv 0,Iv 1] h=some (.sl 6 a (l.length - 1) c,h')/\RVers false h' [.sl 6 a (l.length - 1) c] (l.eraseIdx 0) F'/\Mv h F h' F'/\(∀ y∈Gv,y∉F'/\y∈F)/\∀ y,y≠o.1->h'[y]?=h[y]?:=by
 obtain ⟨h',F',Gv,b,i,row,ha,hld,hel,hG,e,r,m,fr⟩:=Sli.del (lo:=lo) (bytes:=72) (e:=43) (z := [Iv 0,Iv 0,Iv 0,.sl 0 none 0 (some 0),.str ⟨⟨[]⟩⟩,.bool false]) (x1:=0) (x2:=1) (T:=V×Heap) rver_ok hs h0 hnd hlo rfl rfl (by decide) (by omega) (some (.sl 6 a l.length c,h)) (λv h=>some (v,h));obtain ⟨s,av,cv,rfl,es,hp⟩:=hel.form;exact ⟨(b,i),s,av,cv,Gv,ha,hld,es,hp,h',F',HO e,r,m,λy hy=>⟨(hG y hy).2.1,(hG y hy).1⟩,fr⟩
theorem zbY {b i j R e:Nat}{rs:List (List V)}{row:List V}{l:List Node}{k:Int} (hb:h[b]?=some (.rows R e false rs)) (hrow:rs[i]?=some row) (hcell:row[j]?=some (.sl 2 a l.length c)) (hs:RNodes false h [.sl 2 a l.length c] l F) (hbF:b∉F)
  (hnd:F.Nodup) (hlo:∀ b∈F,lo<=b) (hl:lo<=h.length) (hn:B8 l) (hx:∀ x∈l,Z2 x) :
  ∃ h' F',Af lo 278 [.ptr (some (b,(i,j))),Iv k] h=some (.bool (DT l k),h')/\RNodes false h' [.sl 2 a l.length c] (bif DT l k then JN l k.toNat else l) F'/\Mv h F h' F':=by
 have hn1:=hn.1;suffices hq:∃ h' F',_=some (V.bool (DT l k),h')/\RNodes false h' [.sl 2 a l.length c] (bif DT l k then JN l k.toNat else l) F'/\Mv h F h' F' from hq.imp λh' hq=>hq.imp λF' hq=>⟨PB hq.1,hq.2⟩
 have hld:∀ hh:Heap,hh[b]?=some (.rows R e false rs)->ld hh b i (j+0) 1=some [.sl 2 a l.length c]:=λhh hb=>by rw[B7 hb hrow];exact JA hcell
 have hblt:b<h.length:=(Ga hb).1;have stay:DT l k=false->∃ h' F',some (V.bool false,h)=some (V.bool (DT l k),h')/\RNodes false h' [.sl 2 a l.length c] (bif DT l k then JN l k.toNat else l) F'/\Mv h F h' F':=λhc=>by rw[hc];exact ⟨h,F,rfl,hs,Mv.refl hnd⟩
 have hcd:DT l k=(Aj k 0 ((l.length:Int) - 2)&&WC l k.toNat):=rfl;rw[hld h hb,Ae,Ab,Ag,Ah,wr (by omega) (by omega),Be,Ad,Ar];cases hw:Aj k 0 ((l.length:Int) - 2) with
 | false=>rw[Ay];exact stay (by rw[hcd,hw];rfl)
 | true =>
 rw[hw,zfQ] at hcd;simp only[Aj,E1,decide_eq_true_eq] at hw;obtain ⟨f,rfl⟩:∃ f:Nat,k=(f:Int):=⟨k.toNat,by omega⟩;have hk:f+1<l.length:=by omega
 have hk':f<l.length:=by omega
 rw[AW,NV hk'] at hcd;rw[AW] at stay ⊢;obtain ⟨b0,i0,rs0,row0,G0,ha,hbF0,hbG,hb0,hrow0,hel,hGF,hGn,put⟩:=hs.at2 rnode_ok hk' hnd hlo;obtain ⟨t1,t2,F1,F2,rfl,rfl,r1,r2⟩:=hel;obtain ⟨aw,cw,es2,r2⟩:=r2.form;have ld1:∀ hh:Heap,hh[b0]?=some (.rows 2 (O5 false) false rs0)->ld hh b0 (i0+f) 1 1=some [t2]:=λhh hb0=>by rw[B7 hb0 hrow0];rfl
 rw[Aq,hld h hb,Ae,Ab,Ag,Ah,Ac hk',ha,Ae,ld1 h hb0,Ae,Ab,Ag,es2];by_cases h0:0<l[f].wait.length
 ·rw[decide_eq_true h0,zfQ] at hcd;rw[show ((l[f].wait.length:Int)==0)=false by rw[beq_eq_false_iff_ne];omega,Ay,Am (by omega)];have hfu:Af lo 117 [.ptr (some (b,(i,j))),Iv ((f+1:Nat):Int)] h=some (.bool (!EJ l (f+1)),h):=P4 (hld h hb) hs hk;rw[hfu,Ad,Ar];cases hr:EJ l (f+1) with
  | false=>rw[zgx,Aq,<- ha];exact stay (by rw[hcd,hr])
  | true =>
  rw[hr] at hcd;have hGn0:=hGn;rw[zfG] at hGn;obtain ⟨o,s,av,cv,Gv,ho,hldv,es,hp,h3,F3,e3,r3,m3,hGv,fr3⟩:=Xf (lo:=lo) r2 h0 hGn.2.1 (λy hy=>hlo y (hGF y (by simp[hy]))) (hn.2 _ (zfD hk')).2.1;have b1:∀ y∈F1,y<h.length:=rvers_ok.bd _ _ _ _ r1;have m4:=(m3.aside (G:=F1) (by rw[zfG];exact ⟨hGn.2.1,hGn.1,λx hx y hy e=>hGn.2.2 y hy x hx e.symm⟩) b1).swap;have r1':RVers false h3 [t1] l[f].store F1:=m3.keep rvers_ok r1 λy hy hm=>hGn.2.2 y hy y hm rfl;have hlen:=zgm h0;have r3c:=r3.clip;rw[<- hlen] at r3c;obtain ⟨h4,F4,e4,r4,m5,fr4,sub4⟩:=put h3 (F1++F3) 1 [.sl 6 aw (l[f].wait.eraseIdx 0).length (some (l[f].wait.eraseIdx 0).length)] [t1,.sl 6 aw (l[f].wait.eraseIdx 0).length (some (l[f].wait.eraseIdx 0).length)] ⟨l[f].store,l[f].wait.eraseIdx 0⟩ m4 rfl ⟨_,_,F1,F3,rfl,rfl,r1',r3c⟩;rw[<- JH hk'] at r4;have hln:=Ng (l:=l) (k:=f);have hGvG:∀ y∈Gv,y∈F1++F2:=λy hy=>by simp[(hGv y hy).2]
  have hd:∀ y∈Gv,y∉F4:=λy hy hm=>by
   rcases sub4 y hm with g | g
   ·exact g.2 (hGvG y hy)
   ·rcases zfF.1 g with g | g
    ·exact hGn.2.2 y g y (hGv y hy).2 rfl
    ·exact (hGv y hy).1 g
  have hoG:o.1∉Gv:=λhm=>(hGv o.1 hm).1 (by
   obtain ⟨R1,a1,c1,q1,q2⟩:=r3;injection q1 with q1 _;injection q1 with _ q1 _ _;subst q1;subst ho;obtain ⟨_,_,_,_,_,_,_,_,q⟩:=q2;rw[q];simp)
  have hp4:RTags false h4 [.sl 2 av (l[f].wait[0]'h0).past.length cv] (l[f].wait[0]'h0).past Gv:=rtags_ok.fr _ _ _ _ _ hp λy hy=>by rw[fr4 y λe=>hbG (by rw[<- e];exact hGvG y hy),fr3 y λe=>hoG (by rw[<- e];exact hy)]
  have hpx:=hx _ (zfD hk');have hky:=hpx.2 _ (zfD h0);have hth:=hpx.1.2.2.2 _ (zfD h0);have hk1:f+1<(Ii l f).length:=by rw[hln];exact hk
  have hst1:(Ii l f)[f+1].store.length=4:=by
   have:(Ii l f)[f+1]=l[f+1]:=by have e:=JH hk';rw[zhs e,List.getElem_set_ne (by omega)]
   rw[this];exact (hx _ (zfD hk)).1.1
  have hnd5:B8 (Ii l f):=by
   refine ⟨by rw[hln];exact hn1,λx hx'=>?_⟩;rw[JH hk'] at hx';rcases zgd hx' with hx' | rfl
   ·exact hn.2 x hx'
   ·have:=hn.2 _ (zfD hk');exact ⟨this.1,Sx this.2 (zfE (zg7 _ _) this.2.1) λv hv=>zgB hv⟩
  have hb3:h3[b]?=some (.rows R e false rs):=by rw[m3.fr b hblt λhm=>hbF (hGF b (by simp[hm]))];exact hb
  have hb4:h4[b]?=some (.rows R e false rs):=by rw[fr4 b λe=>hbF (by rw[e];exact hbF0)];exact hb3
  have hbF4:b∉F4:=λhm=>by
   rcases m5.sub b hm with g | g
   ·exact hbF g
   ·omega
  have hcell4:row[j]?=some (.sl 2 a (Ii l f).length c):=by rw[hln];exact hcell
  rw[<- hln] at r4;obtain ⟨h5,F5,e5,r5,m6⟩:=S9 (lo:=lo) (k:=f+1) (v:=l[f].wait[0]'h0) hb4 hrow hcell4 r4 hbF4 hp4 hd m5.nd (λy hy=>m5.ge hl hlo y hy) (zfE hl m5.le) hk1 ⟨hky.1,by omega⟩ hnd5 (by have:=hth.1;omega);rw[hln,<- VO hk' h0] at r5;simp only[Ver.cs] at e5;have hclip:Af lo 205 [.sl 6 aw (l[f].wait.length - 1) cw] h3=some (.sl 6 aw (l[f].wait.length - 1) (some (l[f].wait.length - 1)),h3):=MF r3;rw[hlen] at e4;have hb3':h3[b0]?=h3[b0]?:=rfl;rw[zgo,Ay,hld h hb,Ae,Ab,Ag,Ah,ha,Ac hk',Ae,ld1 h hb0,Ae,Ab,Ag,es2,BY ⟨by omega,by omega⟩,ho,Ae,hldv,Ae,Ab,Aa,Ab,Aa,Ab,Aa,Ab,es,Ab,A4,Ab,AB,Ag,
   Ae,Ab,Ag,Ah,Ae,Ab,Ag,Ah,JM,Dj,Ac hk',Ae,ld1 h hb0,Ae,Ab,Ag,es2,Dj,e3,Ad,Ah,hld h3 hb3,<- ha,JM,Dj,hclip,Ad,Ah,hld h3 hb3,JM,Dj,Ac hk',ha,Ae,e4,Ae,e5,Ad,J5,Ag,<- ha]
  rw[hcd,cond_true];exact ⟨h5,F5,rfl,r5,m5.trans m6⟩
 ·rw[decide_eq_false h0,zgs] at hcd;rw[show ((l[f].wait.length:Int)==0)=true by rw[beq_iff_eq];omega,Aq,<- ha];exact stay hcd
end


variable {p:Place}
def KY (p:Place) (k:Nat):Place:=⟨p.me,p.clock,JN p.chain k,p.log,p.got,p.fell⟩
def HT (p:Place) (k:Int):Place:=bif DT p.chain k then Cg (KY p k.toNat) else p
theorem JC {l:List Node}{k:Nat}:(JN l k).length=l.length:=by
 unfold JN;split
 ·split
  ·rw[Gu,Ng]
  ·rfl
 ·rfl
theorem PM {nc nw nl k:Nat} (h:Tidy nc nw nl p):Tidy nc (nw+1) nl (KY p k):=by
 have h0:Tidy nc (nw+1) nl p:=⟨h.len,λx hx=>by have:=h.node x hx;exact ⟨this.1,Nat.le_succ_of_le this.2.1,this.2.2⟩,h.log,h.got⟩;unfold KY JN;split
 ·rename_i x hk
  split
  ·rename_i v hv
   have hxm:=zfV hk;have hd:Tidy nc nw nl ⟨p.me,p.clock,Ii p.chain k,p.log,p.got,p.fell⟩:=by
    refine ⟨by show (Ii p.chain k).length<=nc;rw[Ng];exact h.len,λy hy=>?_,h.log,h.got⟩;have hy:y∈Ii p.chain k:=hy;unfold Ii at hy;rw[hk] at hy;rcases zgd hy with hy | rfl
    ·exact h.node y hy
    ·obtain ⟨g1,g2,g3,g4⟩:=h.node x hxm;exact ⟨g1,zfE (zg7 _ _) g2,g3,λv hv=>g4 v (zgB hv)⟩
   exact KU hd ((h.node x hxm).2.2.2 v (zfV hv))
  ·exact h0
 ·exact h0
theorem WD (h:AM p=true):∀ x∈p.chain,Z2 x:=λx hx=>by have hno:=(Ca (A3 h).2.2.2.1).2 x hx;have ht:=VT hno;exact ⟨⟨ht.1,zfE ht.2.1 (by decide),ht.2.2⟩,λv hv=>(AZ ((AQ hno).2.2 v hv)).1⟩
theorem Jr {nc nw nl:Nat} (h:Tidy nc nw nl p) (h1:nc<=10) (h2:nw<=20) (h3:nl<=100):Tidy 10 20 100 p :=
 ⟨zfE h.len h1,λx hx=>by have:=h.node x hx;exact ⟨this.1,zfE this.2.1 h2,this.2.2⟩,⟨zfE h.log.1 h3,h.log.2⟩,h.got.1,λl hl=>⟨zfE (h.got.2 l hl).1 h3,(h.got.2 l hl).2⟩⟩
theorem Se {h h1 h2:Heap}{G1 G1' G2 G2' G3:List Nat} (m1:Mv h G1 h1 G1') (m2:Mv h1 G2 h2 G2') (hnd:(G1++(G2++G3)).Nodup) (hb:∀ y∈G1++(G2++G3),y<h.length) :
  Mv h (G1++(G2++G3)) h2 (G1'++(G2'++G3))/\(∀ y∈G1',y∉G2)/\(∀ y∈G3,y∉G1)/\∀ y∈G3,y∉G2:=by
 rw[zfG,zfG] at hnd;obtain ⟨n2,⟨n3,n4,n5⟩,n6⟩:=hnd;have hb1:∀ y∈G1,y<h.length:=λy hy=>hb y (by simp[hy]);have hb2:∀ y∈G2,y<h.length:=λy hy=>hb y (by simp[hy]);have hb3:∀ y∈G3,y<h.length:=λy hy=>hb y (by simp[hy]);have l1:=m1.le;have l2:=m2.le;have d1:∀ y∈G1',y∉G2:=λy hy hm=>by
  rcases m1.sub y hy with g | g
  ·exact n6 y g y (by simp[hm]) rfl
  ·have:=hb2 y hm;omega
 have d2:∀ y∈G3,y∉G1:=λy hy hm=>n6 y hm y (by simp[hy]) rfl;have d3:∀ y∈G3,y∉G2:=λy hy hm=>n5 y hm y hy rfl;have s1:∀ y∈G1',y<h1.length:=m1.lt hb1;refine ⟨⟨by omega,λy hy hF=>?_,?_,λy hy=>?_⟩,d1,d2,d3⟩
 ·simp only[zfF,not_or] at hF;rw[m2.fr y (by omega) hF.2.1,m1.fr y hy hF.1]
 ·rw[zfG,zfG];refine ⟨m1.nd,⟨m2.nd,n4,λx hx y hy e=>?_⟩,λx hx y hy e=>?_⟩
  ·subst e;rcases m2.sub x hx with g | g
   ·exact d3 x hy g
   ·have:=hb3 x hy;omega
  ·subst e;rcases zfF.1 hy with hy | hy
   ·rcases m2.sub x hy with g | g
    ·exact d1 x hx g
    ·have:=s1 x hx;omega
   ·rcases m1.sub x hx with g | g
    ·exact d2 x hy g
    ·have:=hb3 x hy;omega
 ·simp only[zfF] at hy ⊢;rcases hy with hy | hy | hy
  ·rcases m1.sub y hy with g | g
   ·exact .inl (.inl g)
   ·exact .inr ⟨g.1,by omega⟩
  ·rcases m2.sub y hy with g | g
   ·exact .inl (.inr (.inl g))
   ·exact .inr ⟨by omega,g.2⟩
  ·exact .inl (.inr (.inr hy))
section
variable {lo:Nat}{h:Heap}{F F':List Nat}{a a':Pq}{c c':Nq}
theorem Sm {a1 a2 a3:Pq}{c1 c2 c3:Nq}{F1 F2:List Nat} (hs1:RNodes false h [.sl 2 a1 p.chain.length c1] p.chain F1) (hs2:RVers false h [.sl 6 a2 p.log.length c2] p.log F2)
  (h0:0<p.chain.length) (ht:Tidy 10 20 100 p) (hd:∀ b∈F1,b∉F2) (hnd:F2.Nodup) (hlo:∀ b∈F2,lo<=b) (hl:lo<=h.length) :
  ∃ a2' c2' h' F2',Af lo 130 [.agg (p.cs a1 c1 a2 c2 a3 c3)] h=some (.agg ((Cg p).cs a1 c1 a2' c2' a3 c3),h')/\RVers false h' [.sl 6 a2' (Cg p).log.length c2'] (Cg p).log F2'/\Mv h F2 h' F2':=by
 obtain ⟨x,hx,hxe⟩:=LJ h0;have hxn:=ht.node x hx;exact QP hs1 hs2 h0 (by rw[hxe];exact hxn.1) hd hnd hlo hl (zfE ht.len (by decide)) (zfE ht.log.1 (by decide)) (λw hw=>by rw[hxe] at hw;have:=(hxn.2.2.1 w hw).1;omega)
end
end Go.Proofs.YtmgopagfoemomaaGreat
