/- Part 3 of what is shown for the law Gmcf, whatever the input; no condition of its own. -/
import Derived.Test.YtmgopagfoemomaaGreatBGmcf2
set_option linter.unusedVariables false
set_option linter.unusedSimpArgs false
set_option linter.unnecessarySimpa false
set_option maxRecDepth 100000
namespace Go.Proofs.YtmgopagfoemomaaGreat
open Go T


variable {l:List Ver}{v:Ver}{ro:Bool}
theorem Sli.at {α:Type}{El:Rel α} (ok:El.Ok) {h:Heap}{R R' e n k lo:Nat}{a:Pq}{c:Nq}{l:List α}{F:List Nat} (hs:Sli false R e El h [.sl R' a n c] l F) (hk:k<l.length) (hnd:F.Nodup) (hlo:∀ b∈F,lo<=b) :
  ∃ b i rs row G,a=some (b,i)/\b∈F/\b∉G/\h[b]?=some (.rows R e false rs)/\rs[i+k]?=some row/\El h row l[k] G/\(∀ y∈G,y∈F)/\G.Nodup /\
   (∀ h' x' G',Mv h G h' G'->El h' row x' G'->∃ F',Sli false R e El h' [.sl R' a n c] (l.set k x') F'/\Mv h F h' F') /\
   (∀ h1 G1 j cs row' x',Mv h G h1 G1->paste row j cs=some row'->El h1 row' x' G1 ->
    ∃ h2 F',st lo h1 b (i+k) j cs=some h2/\Sli false R e El h2 [.sl R' a n c] (l.set k x') F'/\Mv h F h2 F'/\h2[b]?=some (.rows R e false (rs.set (i+k) row'))/\(∀ y,y≠b->h2[y]?=h1[y]?)/\h2.length=h1.length):=by
 have hbd:=(Sli.ok ok).bd _ _ _ _ hs;obtain ⟨b,i,rs,row,G,ha,hbF,hbG,hb,hrow,hel,hGF,hGn,put⟩:=hs.put ok.fr hk hnd;have hblt:b<h.length:=hbd b hbF;refine ⟨b,i,rs,row,G,ha,hbF,hbG,hb,hrow,hel,hGF,hGn,λh' x' G' m hx=>?_,λh1 G1 j cs row' x' m hp hx=>?_⟩
 ·obtain ⟨F',p1,p2,p3,_⟩:=put h' row x' G' (by rw[set_same hrow,m.fr b hblt hbG];exact hb) (λy hy _ hyG=>m.fr y (hbd y hy) hyG) hx m.nd (λy hy hyF=>by
   rcases m.sub y hy with h1 | h1
   ·exact h1
   ·have:=hbd y hyF;omega)
  refine ⟨F',p1,m.le,λy hy hyF=>m.fr y hy λhg=>hyF (hGF y hg),p3,λy hy=>?_⟩;rcases p2 y hy with h1 | h1
  ·exact .inl h1.1
  ·exact (m.sub y h1).imp (hGF y) id
 ·have hbG1:b∉G1:=λhm=>by
   rcases m.sub b hm with h1 | h1
   ·exact hbG h1
   ·omega
  have hb1:h1[b]?=some (.rows R e false rs):=by rw[m.fr b hblt hbG];exact hb
  have hb1lt:b<h1.length:=zdj hblt m.le;have e2:=DM hb1 (hlo b hbF) hrow hp;have fr2:∀ y,y≠b->(h1.set b (.rows R e false (rs.set (i+k) row')))[y]?=h1[y]?:=λy hy=>zdd (Ne.symm hy);obtain ⟨F',p1,p2,p3,_⟩:=put (h1.set b (.rows R e false (rs.set (i+k) row'))) row' x' G1 (by simp[hb1lt]) (λy hy hyb hyG=>by rw[fr2 y hyb];exact m.fr y (hbd y hy) hyG)
   (ok.fr _ _ _ _ _ hx λy hy=>fr2 y λe=>hbG1 (e ▸ hy)) m.nd (λy hy hyF=>by
   rcases m.sub y hy with h1 | h1
   ·exact h1
   ·have:=hbd y hyF;omega)
  refine ⟨_,F',e2,p1,⟨by simpa using m.le,λy hy hyF=>?_,p3,λy hy=>?_⟩,by simp[hb1lt],fr2,by simp⟩
  ·rw[fr2 y λe=>hyF (e ▸ hbF)];exact m.fr y hy λhg=>hyF (hGF y hg)
  ·rcases p2 y hy with h1 | h1
   ·exact .inl h1.1
   ·refine (m.sub y h1).imp (hGF y) λh=>by simpa using h
def A0 (v u:Ver):Bool:=FM v.tag.time v.tag.place u.tag.time u.tag.place
def FJ (s t:List Ver):Bool:=decide (s.length=t.length)&&(s.zip t).all λx=>Ij x.1 x.2
theorem sameVers_iff {s t:List Ver}:FJ s t=true<->s=t:=by
 unfold FJ;rw[CP,decide_eq_true_eq,zdm];constructor
 ·rintro ⟨hl,hx⟩
  apply List.ext_getElem hl;intro i h1 h2;have:=hx (s[i],t[i]) (by rw[zdL];exact ⟨i,by simp;omega,by simp⟩);exact same_iff.1 this
 ·rintro rfl
  refine ⟨rfl,λx hx=>?_⟩;obtain ⟨i,hi,rfl⟩:=zdL.1 hx;simp[same_iff]
def Hd (l:List Ver) (v:Ver):List Ver:=match l[v.key.toNat]? with
 | some x=>bif A0 x v then l.set v.key.toNat v else l
 | none=>l
theorem Sb (h:v.key.toNat<l.length):Hd l v=bif A0 l[v.key.toNat] v then l.set v.key.toNat v else l:=by unfold Hd;rw[Dj h]
theorem X4:(Hd l v).length=l.length:=by
 unfold Hd;split
 ·cases A0 _ v<;>simp
 ·rfl
theorem ZS (h:Cl v=true):JM v.key.toNat v=true:=by have:=(AZ h).1;unfold JM;rw[h,show (v.key==((v.key.toNat:Nat):Int))=true by rw[beq_iff_eq];omega];simp
theorem PQ (hl:Bb l=true) (hv:Cl v=true):Bb (l.set v.key.toNat v)=true:=by
 have h4:=Bi hl;unfold Bb;rw[CP,zdm,decide_eq_true_eq];refine ⟨λx hx=>?_,by simpa using h4⟩;rw[zeg] at hx;have hi:=(EA hx).1;rw[List.getElem?_set] at hx;split at hx
 ·rename_i he
  split at hx
  ·injection hx with hx;rw[<- hx,<- he];exact ZS hv
  ·cases hx
 ·rw[Dj (by simpa using hi)] at hx;injection hx with hx;rw[<- hx];exact Db hl _
def En:List Ver->List Ver->Option (List Ver)
 | s,[]=>some s
 | s,v :: r=>match s[v.key.toNat]? with
  | some x=>bif A0 x v then En (s.set v.key.toNat v) r else none
  | none=>none
def fits (x:Node) (next:List Ver):Bool:=match En next x.wait with
 | some s=>FJ s x.store
 | none=>false
def DO (x:Node):Bool:=Bb x.store&&decide ((x.wait.length:Int)<=6)&&x.wait.all Cl
def IG (l:List Node) (k:Nat) (x:Node):Bool:=match l[k+1]? with
 | some y=>fits x y.store
 | none=>decide (x.wait.length=0)
def EB (l:List Node):Bool:=Ai l.length 1 4&&l.all DO&&l.zipIdx.all λx=>IG l x.2 x.1
theorem AW {x:Node} (h:DO x=true):Bb x.store=true/\x.wait.length<=6/\∀ v∈x.wait,Cl v=true:=by simp only[DO,CP,decide_eq_true_eq,zdm] at h;exact ⟨h.1.1,by have:=h.1.2;omega,h.2⟩
section
variable {lo:Nat}{h:Heap}{F F':List Nat}{a a':Pq}{c c':Nq}
theorem MW {ca:Pq}{cc:Nq}{n:Nat} (hs:RVers ro h [.sl 6 a l.length c] l F) (hk:0<=v.key/\v.key<l.length) :
  Af lo 210 [.agg [.sl 6 a l.length c],.agg [Iv v.key,Iv v.tag.time,Iv v.tag.place,.sl 2 ca n cc,.str v.text,.bool v.gone]] h=some (.bool (A0 (l[v.key.toNat]'(by omega)) v),h):=by
 refine No (h':=h) ?_;obtain ⟨o,s,b,d,G,ha,_,_,_,_,_,_,ho12,_⟩:=hs.all (show v.key.toNat<l.length by omega);rw[Cm ⟨by omega,by omega⟩,ha];simp only[Ad,ho12,Aa,Ab,Ah,Ey,Ac,At];unfold A0;cases FM _ _ _ _<;>rfl
theorem LH {l':List Ver}{ro':Bool} (hs:RVers ro h [.sl 6 a l.length c] l F) (hs':RVers ro' h [.sl 6 a' l'.length c'] l' F') (hn:DA l) :
  Af lo 234 [.sl 6 a l.length c,.sl 6 a' l'.length c',.fn 155 []] h=some (.bool (FJ l l'),h):=by
 have hn1:=hn.1;refine Du (h':=h) ?_;unfold FJ;by_cases hl:l.length=l'.length
 ·rw[show ((l.length:Int)==(l'.length:Int))=true by simp;omega,Ao,decide_eq_true hl];have hz:(l.zip l').length=l.length:=by simp;omega
  refine (Fd (p:=λx:Ver×Ver=>Ij x.1 x.2) (l:=l.zip l') (λi=>As (List.length h) a' l'.length c' 155 [] false a l.length c (l.length:Nat) (i:Nat) h) (some (.bool false,h)) (some (.bool true,h)) (λi hi=>?_) ?_).trans ?_
  ·have hil:i<l.length:=by omega
   have hil':i<l'.length:=by omega
   obtain ⟨o,s,b,d,G,ha,ho,es,hp,_⟩:=hs.get hil;obtain ⟨o',s',b',d',G',ha',ho',es',hp',_⟩:=hs'.get hil';rw[As.e,Al (by omega),Ae hil];simp only[ha,ha',Ad,Bd,ho,ho',Aa,Ab,es,es',BG,AL,Ah,Ae hil',CQ,zdS];rw[T0 hp hp' (hn.2 _ (zc7 hil)).1];simp only[Ac,At,zeR,Ar (show i<9223372036854775807 by omega)];cases Ij l[i] l'[i]<;>simp
  ·rw[hz,As.e,Ak (by omega)]
  ·cases (l.zip l').all λx=>Ij x.1 x.2<;>rfl
 ·rw[show ((l.length:Int)==(l'.length:Int))=false by simp;omega,Ax,decide_eq_false hl];rfl
theorem Qm {l':List Ver}{ro':Bool} (hs:RVers ro h [.sl 6 a l.length c] l F) (hs':RVers ro' h [.sl 6 a' l'.length c'] l' F') (hn:DA l) :
  Af lo 211 [.agg [.sl 6 a l.length c],.agg [.sl 6 a' l'.length c']] h=some (.bool (FJ l l'),h):=by
 refine OD (h':=h) ?_;rw[LH hs hs' hn];simp only[Ac,At];cases FJ l l'<;>rfl
theorem WZ {av:Pq}{cv:Nq}{G:List Nat} (hs:RVers false h [.sl 6 a l.length c] l F) (hv:RTags false h [.sl 2 av v.past.length cv] v.past G)
  (hnd:F.Nodup) (hlo:∀ b∈F,lo<=b) (hl:lo<=h.length) (hk:0<=v.key/\v.key<l.length) (hn:v.past.length<=1048576) :
  ∃ h' F',Af lo 198 [.agg [.sl 6 a l.length c],.agg (v.cs av cv)] h=some (.agg [.sl 6 a l.length c],h')/\RVers false h' [.sl 6 a l.length c] (Hd l v) F'/\Mv h F h' F':=by
 have hkl:v.key.toNat<l.length:=by omega
 obtain ⟨o,s,b,d,G1,ha,_,_,_,_,_,_,ho12,_⟩:=hs.all hkl;suffices hk:∃ h' F',_=some (V.agg [.sl 6 a l.length c],h')/\RVers false h' [.sl 6 a l.length c] (Hd l v) F'/\Mv h F h' F' from hk.imp λh' hk=>hk.imp λF' hk=>⟨Vg hk.1,hk.2⟩
 rw[Cm ⟨by omega,by omega⟩];simp only[ha,Ad,ho12,Aa,Ab,Ah,Ci,Ac,At];rw[Sb hkl];show ∃ h' F',br (A0 l[v.key.toNat] v) _ _=_/\_;cases hle:A0 l[v.key.toNat] v with
 | false=>exact ⟨h,F,rfl,by rw[<- ha];exact hs,Mv.refl hnd⟩
 | true =>
  obtain ⟨b2,i2,rs,row,G2,ha2,hb2,hbG2,hbb,hrow,hel,hGF,hGn,_,wr⟩:=hs.at rver_ok hkl hnd hlo;obtain ⟨a3,c3,h3,F3,e3,r3,m3⟩:=Em (lo:=lo) (v:=v) hv hl hn;have hab:o=(b2,i2):=by rw[ha] at ha2;injection ha2
  subst hab;obtain ⟨h4,F4,e4,r4,m4,_⟩:=wr h3 F3 0 (v.cs a3 c3) (v.cs a3 c3) v (m3.wide (by simp)) (GC (by obtain ⟨s,rfl,_⟩:=hel;rfl)) ⟨_,rfl,r3⟩;rw[Ao,e3];simp only[Ac,AR,Aa,Ab,Ag,BG,AL,Ah];rw[Cm ⟨by omega,by omega⟩,e4];exact ⟨h4,F4,rfl,by rw[<- ha];exact r4,m4⟩
end


variable {l:List Ver}{v:Ver}
theorem zcR {T:Type}{b:Bool}{x y:Option T}:br b x y=if b=true then x else y:=by cases b<;>rfl
theorem Sli.row {α:Type}{El:Rel α} (hfr:El.Fr) {R R' e n k lo b i:Nat} (hln:El.Ln R) {h:Heap}{c:Nq}{l:List α}{G Gx:List Nat}{row:List V}{x:α} (hs:Sli false R e El h [.sl R' (some (b,i)) n c] l (b :: G)) (hb:b∉G) (hk:k<l.length) (hlo:lo<=b)
  (hx:El h row x Gx) (hbx:b∉Gx):∃ h' G',st lo h b (i+k) 0 row=some h'/\Sli false R e El h' [.sl R' (some (b,i)) n c] (l.set k x) (b :: G')/\b∉G'/\h'.length=h.length/\∀ y,y≠b->h'[y]?=h[y]?:=by
 have hn:=hs.val;subst hn;obtain ⟨R1,a1,c1,e1,e2⟩:=hs;injection e1 with e1 _;injection e1 with e0 e3 _ e4;subst e0;subst e3;subst e4;obtain ⟨hR,rs,Fs,g1,g2,g3,g4,g5,g6⟩:=e2;injection g6 with _ g6;subst g6;obtain ⟨row0,G0,k1,k2,k3⟩:=g5.get (Dj hk);have hblt:b<h.length:=(EA g1).1;have hrow:rs[i+k]?=some row0:=by rw[zew hk,zdz] at k1;exact k1
 have hp:paste row0 0 row=some row:=GC (by rw[hln _ _ _ _ k3,hln _ _ _ _ hx]);have fr2:∀ y,y≠b->(h.set b (.rows R e false (rs.set (i+k) row)))[y]?=h[y]?:=λy hy=>zdd (Ne.symm hy);have hl1:((rs.set (i+k) row).drop i).take l.length=((rs.drop i).take l.length).set k row:=by rw[List.drop_set,if_neg (by omega),show i+k - i=k by omega,List.take_set]
 refine ⟨_,(Fs.set k Gx).flatten,DM g1 hlo hrow hp,⟨R',some (b,i),c,by simp,hR,rs.set (i+k) row,Fs.set k Gx,by simp[hblt],by simpa using g2,λq hq=>by simpa using g3 q hq,g4,?_,rfl⟩,λhm=>?_,by simp,fr2⟩
 ·rw[zdK,hl1];exact EAll.set (g5.fr hfr λy hy=>fr2 y λe=>hb (e ▸ hy)) (hfr _ _ _ _ _ hx λy hy=>fr2 y λe=>hbx (e ▸ hy))
 ·rcases EJ hm with h6 | h6
  ·exact hb h6
  ·exact hbx h6
theorem zbn {ro:Bool}:(RVer ro).Ln 6:=by rintro h cs x F ⟨s,rfl,_⟩;rfl
theorem Ny (h:IZ v=true):v=⟨0,⟨0,0⟩,[],⟨⟨[]⟩⟩,false⟩:=by obtain ⟨k,⟨t1,t2⟩,p,s,g⟩:=v;simp only[IZ,Ju,CP,beq_iff_eq,decide_eq_true_eq,zdR] at h;obtain ⟨⟨⟨⟨h1,h2,h3⟩,h4⟩,h5⟩,h6⟩:=h;simp only[Ver.mk.injEq,Tag.mk.injEq];exact ⟨h1,⟨h2,h3⟩,zdh h4,Uj (by rw[ZK h5]),h6⟩
theorem Cp {i:Nat} (h:JM i v=true):IZ v=true\/(Cl v=true/\v.key=i):=by simp only[JM,zdW,CP,beq_iff_eq] at h;exact h
theorem DK (h:IZ v=true):v.tag.time=0/\v.tag.place=0:=by rw[Ny h];exact ⟨rfl,rfl⟩
theorem Ri {l':List Ver} (h:DA l) (hl:l'.length<=1048576) (hs:∀ v∈l',v∈l):DA l':=⟨hl,λv hv=>h.2 v (hs v hv)⟩
theorem HG (h:Bb l=true):DA l:=by
 refine ⟨by have:=Bi h;omega,λv hv=>?_⟩;obtain ⟨i,hi,rfl⟩:=zdL.1 hv;rcases Cp (Db h hi) with h1 | ⟨h1,_⟩
 ·rw[Ny h1];exact ⟨by simp,by show 0<=_;omega⟩
 ·obtain ⟨_,h2,_,h3,_⟩:=AZ h1;have:=Gw h2;have:=CS h3;omega
section
variable {lo:Nat}{h:Heap}{F F':List Nat}{a a':Pq}{c c':Nq}
theorem I7 {n:Int}:Af lo 132 [Iv n] h=some (.bool (Ai n 1 4),h):=Sr (h':=h) (by simp[A8])
theorem Pd {n k:Nat} (hn:n<=1048576):Af lo 135 [.agg [.sl 2 a n c],Iv (k:Nat)] h=some (.bool (decide (k+1=n)),h):=by
 refine OM (h':=h) ?_;rw[wr (by omega) (by omega)];by_cases hk:k+1=n
 ·rw[show ((k:Int)==(n:Int) - 1)=true by rw[beq_iff_eq];omega,decide_eq_true hk];rfl
 ·rw[show ((k:Int)==(n:Int) - 1)=false by rw[beq_eq_false_iff_ne];omega,decide_eq_false hk];rfl
theorem Zl {x:Node}{next:List Ver}{a1 a2 a3:Pq}{c1 c2 c3:Nq}{F1 F2 F3:List Nat} (hs1:RVers false h [.sl 6 a1 x.store.length c1] x.store F1) (hs2:RVers false h [.sl 6 a2 x.wait.length c2] x.wait F2)
  (hs3:RVers false h [.sl 6 a3 next.length c3] next F3) (hx:DO x=true) (hnx:Bb next=true) :
  Af lo 136 [.agg [.sl 6 a1 x.store.length c1,.sl 6 a2 x.wait.length c2],.agg [.sl 6 a3 next.length c3]] h=some (.bool (fits x next),h):=by
 obtain ⟨hx1,hx2,hx3⟩:=AW hx;obtain ⟨a5,c5,h5,F5,e5,r5,m5⟩:=GW (lo:=h.length) hs3 (zdb _) (HG hnx);have h4:=Bi hnx;suffices hk:∃ h',_=some (V.bool (fits x next),h') from hk.elim λh' hk=>PI hk;rw[e5];simp only[Ac,AR,Aa,Ag,Ah];have loop:∀ m i s hh b j G,m+i=x.wait.length->Bb s=true->RVers false hh [.sl 6 (some (b,j)) s.length c5] s (b :: G)->b∉G->h.length<=b->Mv h [] hh [] ->
   ∃ h',Cs (List.length h) false a2 x.wait.length c2 (x.wait.length:Nat) (i:Nat) a1 x.store.length c1 a2 x.wait.length c2 (some (b,j)) s.length c5 hh=some (V.bool (match En s (x.wait.drop i) with | some s=>FJ s x.store | none=>false),h'):=by
  intro m;induction m with
  | zero =>intro i s hh b j G hi hso hs hb hbl hm;rw[Cs.e,Ak (by omega),Qm hs (hm.keep0 rvers_ok hs1) (HG hso),show i=x.wait.length by omega,List.drop_length];simp only[Ac,At,En];exact ⟨hh,by cases FJ s x.store<;>rfl⟩
  | succ m ih =>
   intro i s hh b j G hi hso hs hb hbl hm;have hlt:i<x.wait.length:=by omega
   have hvo:=hx3 _ (zc7 hlt);have hk:=(AZ hvo).1;have hs4:=Bi hso;have hkl:x.wait[i].key.toNat<s.length:=by omega
   obtain ⟨o,sv,b',d',G',ha,ho,es,hp,hG'⟩:=(hm.keep0 rvers_ok hs2).get hlt;have hbl2:=rvers_ok.bd _ _ _ _ hs2;rw[Cs.e,Al (by omega),Ae hlt];simp only[ha,Ad,Bd,ho,Aa,Ab,es,BG,AL,Ah];rw[MW (v:=x.wait[i]) hs ⟨by omega,by omega⟩];simp only[Ac,At];rw[zdn hlt];simp only[En,Dj hkl];cases hle:A0 s[x.wait[i].key.toNat] x.wait[i] with
   | false=>exact ⟨hh,rfl⟩
   | true =>obtain ⟨h6,G6,e6,r6,n6,l6,f6⟩:=Sli.row rver_ok.fr zbn hs hb hkl hbl (row:=x.wait[i].cs b' d') (x:=x.wait[i]) ⟨_,rfl,hp⟩ (λhm'=>by have:=hbl2 _ (hG' _ hm');omega);rw[Ao,Cm ⟨by omega,by omega⟩,e6,cond_true];simp only[Ad];rw[<- ha,Ar (by omega)];have m6:Mv h [] h6 []:=⟨by rw[l6];exact hm.le,λy hy hF=>by rw[f6 y (by omega)];exact hm.fr y hy hF,by simp,by simp⟩;have:=ih (i+1) (s.set x.wait[i].key.toNat x.wait[i]) h6 b j G6 (by omega) (PQ hso hvo) (by rw[zdK];exact r6) n6 hbl m6;rw[zdK] at this;exact this
 have:∃ b j G,a5=some (b,j)/\F5=b :: G/\b∉G/\h.length<=b:=by obtain ⟨b,i,rs,Fs,h1,h2,_,_,_,_,rfl⟩:=r5.data (k:=0) (by omega);exact ⟨b,i,_,h1,rfl,(zdg.1 m5.nd).1,m5.new b (by simp)⟩
 obtain ⟨b,j,G,rfl,rfl,hb,hbl⟩:=this;have:=loop x.wait.length 0 next h5 b j G (by omega) hnx r5 hb hbl m5.drop
 exact this
theorem N6 {l:List Node} (hs:RNodes false h [.sl 2 a l.length c] l F) (hn:C7 l):Af lo 64 [.agg [.sl 2 a l.length c]] h=some (.bool (EB l),h):=by
 have hn1:=hn.1;refine Sy (h':=h) ?_;rw[I7];simp only[Ac,At];unfold EB;cases hw:Ai (l.length:Int) 1 4 with
 | false=>rfl
 | true =>
  have hl4:1<=l.length/\l.length<=4:=by simp[Ai] at hw;omega
  rw[Ao];refine (Fd (p:=DO) (l:=l) (λi=>Cx (List.length h) false a l.length c (l.length:Nat) (i:Nat) a l.length c h) (some (.bool false,h)) (Cx (List.length h) false a l.length c (l.length:Nat) (l.length:Nat) a l.length c h) (λi hi=>?_) rfl).trans ?_
  ·obtain ⟨o,s1,s2,a1,c1,a2,c2,F1,F2,ha,ho,_,_,e1,e2,p1,p2,_⟩:=hs.get hi;have hm:=hn.2 _ (zc7 hi);rw[Cx.e,Al (by omega),Ae hi];simp only[ha,Ad,Bd,ho,Aa,e1,e2,Ah];rw[N4 p1 hm.1];simp only[Ac,At];rw[KH (p:=λv => !Cl v) p2 hm.2.1 (λlo v av cv Gv hv hvp=>PK (h':=h) (by rw[KT hvp (hm.2.2 v hv)];simp only[Ac,At];cases Cl v<;>rfl))];simp only[Ac,At,Ar (show i<9223372036854775807 by omega),<- ha];unfold DO;rw[zeK];simp only[Bool.not_not];by_cases h6:(l[i].wait.length:Int)<=6
   ·rw[Ak (by omega),decide_eq_true h6];cases Bb l[i].store<;>cases l[i].wait.all Cl<;>simp
   ·rw[Al (by omega),decide_eq_false h6];cases Bb l[i].store<;>simp
  ·cases hall:l.all DO with
   | false=>rfl
   | true =>
    rw[if_pos rfl,Cx.e,Ak (by omega)];have hno:=zdm.1 hall;refine (QU (p:=IG l) (l:=l) (λi=>BO (List.length h) false a l.length c (l.length:Nat) (i:Nat) a l.length c h) (some (.bool false,h)) (some (.bool true,h)) (λi hi=>?_) ?_).trans ?_
    ·obtain ⟨o,s1,s2,a1,c1,a2,c2,F1,F2,ha,ho,_,_,e1,e2,p1,p2,_⟩:=hs.get hi;have hm:=hn.2 _ (zc7 hi);rw[BO.e,Al (by omega),Ae hi];simp only[ha,Ad,Bd,ho,Aa,e1,e2,Ah,Pd hn1,Ac,At];by_cases hk:i+1=l.length
     ·rw[decide_eq_true hk,Ao,Ao];unfold IG;rw[zdQ (by omega)];simp only[Ar (show i<9223372036854775807 by omega)];by_cases h0:l[i].wait.length=0
      ·rw[Ak (by omega),decide_eq_true h0];rfl
      ·rw[Al (by omega),decide_eq_false h0];rfl
     ·have hi1:i+1<l.length:=by omega
      obtain ⟨o',s1',s2',a1',c1',a2',c2',F1',F2',ha',_,ho1',_,e1',_,p1',_⟩:=hs.get hi1;have hoo:o'=o:=by rw[ha] at ha';injection ha' with ha';exact ha'.symm
      subst hoo;rw[decide_eq_false hk,Ax];unfold IG;rw[Dj hi1];simp only[Ax,Ar (show i<9223372036854775807 by omega)];rw[Ae hi1];simp only[Bd,ho1',Ad,Aa,e1',Ah];rw[Zl p1 p2 p1' (hno _ (zc7 hi)) (AW (hno _ (zc7 hi1))).1];simp only[Ac,At];exact zcR
    ·rw[BO.e,Ak (by omega)]
    ·cases (l.zipIdx.all λx=>IG l x.2 x.1)<;>simp
end


variable {l:List Node}
theorem CM (h:EB l=true):(1<=l.length/\l.length<=4)/\∀ x∈l,DO x=true:=by simp only[EB,Ai,CP,decide_eq_true_eq,zdm] at h;exact ⟨⟨by omega,by omega⟩,h.1.2⟩
theorem Om (h:EB l=true) {i:Nat} (hi:i<l.length):IG l i l[i]=true:=by simp only[EB,CP,zdm] at h;exact h.2 (l[i],i) (by rw[zeg];simp[hi])
theorem D6 {α:Type}{p:Nat->α->Bool}{l:List α}:(l.zipIdx.all λx=>p x.2 x.1)=true<->∀ i (hi:i<l.length),p i l[i]=true:=by
 rw[zdm];constructor
 ·intro h i hi;exact h (l[i],i) (by rw[zeg];simp[hi])
 ·rintro h ⟨x,i⟩ hx
  rw[zeg] at hx;obtain ⟨hi,hx⟩:=EA hx;have:=h i hi;simp only at hx;rw[hx] at this;exact this
theorem YH {α:Type}{p:α->Bool}{l:List α}:l.all p=true<->∀ i (hi:i<l.length),p l[i]=true:=by rw[zdm];exact ⟨λh i hi=>h _ (zc7 hi),λh x hx=>by obtain ⟨i,hi,rfl⟩:=zdL.1 hx;exact h i hi⟩
section
variable {lo:Nat}{h:Heap}{F F':List Nat}{a a':Pq}{c c':Nq}
end


def KP (st:List Tag) (x:Node):Bool:=(x.store.all λv => !decide (v.tag.time>0) || BP v.past st)&&x.wait.all λv=>BP v.past st
def Hb (l:List Node):Bool:=l.all (KP (A3 l))
def FA (l:List Node) (clock:Int):Bool:=match l[0]? with
 | some x=>x.store.all λv=>decide (v.tag.time<=clock)
 | none=>false
def LJ (me:Int) (i:Nat) (l:List Ver):Bool:=GD i l&&(!((i:Int)==me) || decide (l.length=0))
def Ay (p:Place):Bool:=Ai p.me 0 2&&Ai p.clock 0 999&&decide (p.got.length=3)&&EB p.chain&&Hb p.chain&&GD p.me p.log&&(p.got.zipIdx.all λx=>LJ p.me x.2 x.1)&&FA p.chain p.clock
theorem zbD {b:Bool}{h:Heap}:(if b=true then some (V.bool true,h) else some (V.bool false,h))=some (V.bool b,h):=by cases b<;>rfl
theorem MN {l:List Node} (h:EB l=true):(A3 l).length=4:=by obtain ⟨h1,h2⟩:=CM h;rw[GT (by omega)];simp only[Br,zer];exact Bi (AW (h2 _ (zc7 _))).1
theorem BA {h:Heap}{b i j n R e:Nat}{ro:Bool}{rs:List (List V)}{row:List V} (hb:h[b]?=some (.rows R e ro rs)) (hi:rs[i]?=some row):ld h b i j n=cut row j n:=by simp[ld,Heap.rows?,hb,hi]
theorem WQ {x:Node} (h:DO x=true) {i:Nat} (hi:i<x.store.length) (ht:x.store[i].tag.time>0):x.store[i].past.length=4:=by
 rcases Cp (Db (AW h).1 hi) with g | g
 ·have:=DK g;omega
 ·exact CS (AZ g.1).2.2.2.1
theorem YN {x:Node} (h:DO x=true) {i:Nat} (hi:i<x.wait.length):x.wait[i].past.length=4:=CS (AZ ((AW h).2.2 _ (zc7 hi))).2.2.2.1
section
variable {lo:Nat}{h:Heap}{F F':List Nat}{a a':Pq}{c c':Nq}
end


variable {l:List Node}{v:Ver}{T:Type}{K:V->Heap->Option T}
theorem zcA {α:Type}{p:Nat->α->Bool}{l:List α}{h0:Heap} (L:Nat->Heap->Ov) (res:Bool)
  (step:∀ i (hi:i<l.length) hh,Mv h0 [] hh []->∃ h2,Mv hh [] h2 []/\L i hh=if p i l[i]=true then L (i+1) h2 else some (.bool false,h2))
  (done:∀ hh,Mv h0 [] hh []->∃ h2,L l.length hh=some (.bool res,h2)):∃ h',L 0 h0=some (.bool ((l.zipIdx.all λx=>p x.2 x.1)&&res),h'):=by
 have loop:∀ m i hh,m+i=l.length->Mv h0 [] hh []->∃ h',L i hh=some (.bool (((l.zipIdx.drop i).all λx=>p x.2 x.1)&&res),h'):=by
  intro m;induction m with
  | zero =>
   intro i hh hi hm;have:i=l.length:=by omega
   subst this;obtain ⟨h2,e⟩:=done hh hm;exact ⟨h2,by rw[e,zez (by simp)];rfl⟩
  | succ m ih =>
   intro i hh hi hm;have hlt:i<l.length:=by omega
   obtain ⟨h2,m2,e⟩:=step i hlt hh hm;rw[e,zdn (show i<l.zipIdx.length by simpa using hlt),List.all_cons];simp only[zeS,zdy];cases hp:p i l[i] with
   | false=>exact ⟨h2,by rw[if_neg Bool.false_ne_true];rfl⟩
   | true =>obtain ⟨h',e'⟩:=ih (i+1) h2 (by omega) (hm.trans m2);exact ⟨h',by rw[if_pos rfl,e'];rfl⟩
 exact loop l.length 0 h0 (by omega) Mv.nil
theorem Rn {α:Type}{El:Rel α}{R e:Nat}{h:Heap}{a:Pq}{c:Nq}{l:List α}{F:List Nat} (hs:Sli false R e El h [.sl R a l.length c] l F) :
  ∃ rows Fs,(∀ {T:Type} (K:List (List V)->Option T),Av R h (.sl R a l.length c) K=K rows)/\EAll El h rows l Fs/\(∀ b∈Fs.flatten,b∈F)/\(F.Nodup->Fs.flatten.Nodup):=by
 obtain ⟨R',a',c',e1,e2⟩:=hs;injection e1 with e1 _;injection e1 with e0 e3 _ e4;subst e0;subst e3;subst e4;cases a with
 | none =>obtain ⟨rfl,_,_⟩:=e2;exact ⟨[],[],λK=>rfl,trivial,by simp,by simp⟩
 | some q =>
  obtain ⟨b,i⟩:=q;obtain ⟨hR,rs,Fs,g1,g2,g3,g4,g5,rfl⟩:=e2;refine ⟨_,Fs,λK=>?_,g5,λb hb=>by simp only[zdf];exact .inr hb,λhn=>(zdg.1 hn).2⟩;simp only[Av,JE,CT];cases hl:l.length with
  | zero=>simp
  | succ n=>simp only[Ev,Heap.rows?,g1,zdH,DX (show i+(n+1)<=rs.length by omega),Ad]
def If (v:Ver):Bool:=v.tag.time==0&&v.tag.place==0
def Ke (st:List Tag) (clock:Int) (k:Nat) (v:Ver):Bool:=(If v || BP v.past st)&&(!decide (k=0) || decide (v.tag.time<=clock))
theorem Xs {u:Ver} (h:A0 v u=true):v.tag.time<=u.tag.time:=by simp[A0,FM] at h;omega
theorem RR:∀ {w s t:List Ver},En s w=some t->s.length=t.length/\(∀ k (h1:k<s.length) (h2:k<t.length),s[k].tag.time<=t[k].tag.time)/\∀ v∈w,∃ h2:v.key.toNat<t.length,v.tag.time<=t[v.key.toNat].tag.time
 | [],s,t,h=>by injection h with h;subst h;exact ⟨rfl,λk _ _=>Int.le_refl _,by simp⟩
 | v :: w,s,t,h=>by
  simp only[En] at h;by_cases hk:v.key.toNat<s.length
  ·rw[Dj hk] at h;cases hl:A0 s[v.key.toNat] v with
   | false=>simp[hl] at h
   | true =>
    simp only[hl,cond_true] at h;obtain ⟨i1,i2,i3⟩:=RR h;rw[zdK] at i1;have ht:=Xs hl;refine ⟨i1,λk h1 h2=>?_,λu hu=>?_⟩
    ·have:=i2 k (by simpa using h1) h2;rw[List.getElem_set] at this;split at this
     ·rename_i he;subst he;omega
     ·exact this
    ·rcases zdf.1 hu with rfl | hu
     ·have:=i2 u.key.toNat (by simpa using hk) (by omega);rw[zel] at this;exact ⟨by omega,this⟩
     ·exact i3 u hu
  ·rw[zdQ (by omega)] at h;cases h
theorem Lk {x:Node} (h:DO x=true) (hv:v∈x.store):If v = !decide (v.tag.time>0):=by
 obtain ⟨i,hi,rfl⟩:=zdL.1 hv;rcases Cp (Db (AW h).1 hi) with g | g
 ·have:=DK g;unfold If;rw[this.1,this.2];rfl
 ·have:=MJ g.1;unfold If;rw[decide_eq_true this,show (x.store[i].tag.time==0)=false by rw[beq_eq_false_iff_ne];omega];rfl
theorem WK (h:Cl v=true):If v=false:=by have:=MJ h;unfold If;rw[show (v.tag.time==0)=false by rw[beq_eq_false_iff_ne];omega];rfl
theorem XV {clock:Int} (hc:EB l=true):(l.zipIdx.all λx=>(x.1.store++x.1.wait).all (Ke (A3 l) clock x.2))=(Hb l&&FA l clock):=by
 obtain ⟨hl4,hno⟩:=CM hc;rw[zed,CP];rw[D6 (p:=λi (x:Node)=>(x.store++x.wait).all (Ke (A3 l) clock i))];unfold Hb FA;rw[Dj (show 0<l.length by omega),YH];simp only[List.all_append,CP,zdm];constructor
 ·intro hx;refine ⟨λi hi=>?_,λv hv=>?_⟩
  ·have hi':=hno _ (zc7 hi);unfold KP;simp only[CP,zdm];refine ⟨λv hv=>?_,λv hv=>?_⟩
   ·have:=(hx i hi).1 v hv;simp only[Ke,CP] at this;rw[<- Lk hi' hv];exact this.1
   ·have:=(hx i hi).2 v hv;simp only[Ke,CP,WK ((AW hi').2.2 v hv),zej] at this;exact this.1
  ·have:=(hx 0 (by omega)).1 v hv;simp only[Ke,CP] at this;simpa using this.2
 ·rintro ⟨h1,h2⟩ i hi
  have hi':=hno _ (zc7 hi);have h3:=h1 i hi;unfold KP at h3;simp only[CP,zdm] at h3;refine ⟨λv hv=>?_,λv hv=>?_⟩
  ·unfold Ke;rw[Lk hi' hv,h3.1 v hv,zdk];by_cases h0:i=0
   ·subst h0;simpa using h2 v hv
   ·simp[h0]
  ·unfold Ke;rw[h3.2 v hv,Bool.or_true,zdk];by_cases h0:i=0
   ·subst h0;have hlk:=Om hc hi;unfold IG at hlk;by_cases h10:0+1<l.length
    ·rw[Dj h10] at hlk;simp only[fits] at hlk;cases hf:En l[0+1].store l[0].wait with
     | none=>simp[hf] at hlk
     | some t =>simp only[hf] at hlk;have e:=sameVers_iff.1 hlk;obtain ⟨_,_,g3⟩:=RR hf;obtain ⟨g4,g5⟩:=g3 v hv;have:=h2 (l[0].store[v.key.toNat]'(by rw[<- e];exact g4)) (zc7 _);simp only[decide_eq_true_eq] at this;simp only[<- e] at this;simp only[decide_true,zdT,zej,decide_eq_true_eq];omega
    ·rw[zdQ (by omega)] at hlk;simp only[decide_eq_true_eq] at hlk;have:l[0].wait = []:=zdh hlk;rw[this] at hv;simp at hv
   ·simp[h0]
section
variable {lo:Nat}{h:Heap}{F F':List Nat}{a a':Pq}{c c':Nq}
theorem HL {b i j:Nat} (hld:ld h b i j 1=some [.sl 2 a l.length c]) (hs:RNodes false h [.sl 2 a l.length c] l F) (h0:0<l.length) (hn:l.length<=1048576) :
  ∃ a' c' G,Af lo 66 [.ptr (some (b,i,j))] h=some (.agg [.sl 6 a' (l[l.length - 1]'(by omega)).store.length c'],h)/\RVers false h [.sl 6 a' (l[l.length - 1]'(by omega)).store.length c'] (l[l.length - 1]'(by omega)).store G/\∀ y∈G,y∈F:=by
 obtain ⟨o,s1,s2,b1,d1,b2,d2,G1,G2,ha,ho,ho1,ho2,e1,e2,q1,q2,q3,_⟩:=hs.get (show l.length - 1<l.length by omega);refine ⟨b1,d1,G1,OK ?_,q1,q3⟩;simp only[zdP,hld,Ad,Aa,Ag,Ah];rw[wr (by omega) (by omega),Cm ⟨by omega,by omega⟩,show ((l.length:Int) - 1).toNat=l.length - 1 by omega];simp only[ha,Ad,ho1,Aa,e1,Ah]
theorem za9 {e R bytes b i len:Nat}{rs xs:List (List V)} (hb:h[b]?=some (.rows R e false rs)) (hl:lo<=b) (hf:i+len+xs.length<=rs.length) (h0:0<bytes) (hsz:(len+xs.length)*bytes<=140737488355328) :
  Df lo e R bytes (.sl R (some (b,i)) len none) xs h K=K (.sl R (some (b,i)) (len+xs.length) none) (h.set b (.rows R e false (rs.take (i+len)++xs++rs.drop (i+len+xs.length)))):=by
 cases xs with
 | nil =>simp only[Df,zek,zdP,zdS,zdG];rw[set_same hb]
 | cons x xs =>
  have hbl:Nat.blt 0 bytes=true:=by simpa [zeE] using h0
  have hsz':decide ((len+(x :: xs).length)*bytes<=Kr)=true:=decide_eq_true hsz;have hown:Heap.own? lo e h b=some rs:=by simp only[Heap.own?,hb,DX hl,JE]
  have hst:E2 lo h b (i+len) (x :: xs)=some (h.set b (.rows R e false (rs.take (i+len)++(x :: xs)++rs.drop (i+len+(x :: xs).length)))):=by simp only[E2,hb,DX hl,DX hf]
  simp only[Df,hbl,hsz',CT,JE,hown,Ad,DX hf,hst]
theorem Wc {l1 l2:List Ver}{a1 a2:Pq}{c1 c2:Nq}{F1 F2:List Nat} (hs1:RVers false h [.sl 6 a1 l1.length c1] l1 F1) (hs2:RVers false h [.sl 6 a2 l2.length c2] l2 F2) (hl1:l1.length=4) (hl2:l2.length<=6) (hlo:lo<=h.length) :
  ∃ a' F' h',Af lo 68 [.sl 1 (some (h.length,0)) 2 (some 2)] (h ++ [.rows 1 26 false [[.sl 6 a1 l1.length c1],[.sl 6 a2 l2.length c2]]])=some (.sl 6 a' (l1++l2).length none,h') /\
   RVers false h' [.sl 6 a' (l1++l2).length none] (l1++l2) F'/\Mv h [] h' []:=by
 have m0:Mv h [] (h ++ [.rows 1 26 false [[.sl 6 a1 l1.length c1],[.sl 6 a2 l2.length c2]]]) []:=Mv.snoc;have hbB:(h ++ [Blk.rows 1 26 false [[.sl 6 a1 l1.length c1],[.sl 6 a2 l2.length c2]]])[h.length]?=some (.rows 1 26 false [[.sl 6 a1 l1.length c1],[.sl 6 a2 l2.length c2]]):=by simp
 have hBl:h.length<(h ++ [Blk.rows 1 26 false [[.sl 6 a1 l1.length c1],[.sl 6 a2 l2.length c2]]]).length:=by simp
 generalize hB:h ++ [Blk.rows 1 26 false [[.sl 6 a1 l1.length c1],[.sl 6 a2 l2.length c2]]]=B at *
 have r1:=m0.keep0 rvers_ok hs1;have r2:=m0.keep0 rvers_ok hs2;obtain ⟨n,hn⟩:∃ n,l1.length+l2.length=n+1:=⟨l1.length+l2.length - 1,by omega⟩;have m1:Mv B [] (B ++ [.rows 6 43 false (List.replicate (n+1) [Iv 0,Iv 0,Iv 0,.sl 0 none 0 (some 0),.str ⟨⟨[]⟩⟩,.bool false])]) []:=Mv.snoc;have hC0:(B ++ [Blk.rows 6 43 false (List.replicate (n+1) [Iv 0,Iv 0,Iv 0,.sl 0 none 0 (some 0),.str ⟨⟨[]⟩⟩,.bool false])])[B.length]?=some (.rows 6 43 false (List.replicate (n+1) [Iv 0,Iv 0,Iv 0,.sl 0 none 0 (some 0),.str ⟨⟨[]⟩⟩,.bool false])):=by simp
 have D8:Af lo 139 [.sl 0 none 0 (some 0),Iv ((n+1:Nat):Int)] B=some (.sl 6 (some (B.length,0)) 0 none,B ++ [.rows 6 43 false (List.replicate (n+1) [Iv 0,Iv 0,Iv 0,.sl 0 none 0 (some 0),.str ⟨⟨[]⟩⟩,.bool false])]):=by
  refine GJ ?_;have e1:Am (((0:Nat):Int) - ((0:Nat):Int))=0:=by decide
  have e2:Am (((n+1:Nat):Int) - 0)=((n+1:Nat):Int):=by rw[wr (by omega) (by omega)];omega
  rw[Ak (by omega)];simp only[Ad,e1,e2];rw[Al (by omega)];have e3:∀ {T:Type} (K:Pq->Nat->Nq->Option T),AA none 0 (some 0) none (some (Iv 0)) none K=K none 0 (some 0):=by intro T K;unfold AA FI JK Km;simp only[Ab];rw[CO ⟨by decide,by decide⟩];rfl
  rw[e3,D0 ⟨by omega,by omega⟩,Bd,List.replicate_succ];simp only[Df,show Nat.blt 0 72=true from rfl,CT];rw[D0 (by simp[Kr];omega)];simp only[Ag];unfold AA FI JK Km;simp only[Ab];rw[CO ⟨by omega,by omega⟩];simp[List.replicate_succ]
 have hBle:B.length<(B ++ [Blk.rows 6 43 false (List.replicate (n+1) [Iv 0,Iv 0,Iv 0,.sl 0 none 0 (some 0),.str ⟨⟨[]⟩⟩,.bool false])]).length:=by simp
 generalize hC:B ++ [Blk.rows 6 43 false (List.replicate (n+1) [Iv 0,Iv 0,Iv 0,.sl 0 none 0 (some 0),.str ⟨⟨[]⟩⟩,.bool false])]=C at *
 generalize hz : [Iv 0,Iv 0,Iv 0,.sl 0 none 0 (some 0),.str ⟨⟨[]⟩⟩,.bool false]=z at hC0;obtain ⟨rows1,Fs1,er1,ea1,sub1,_⟩:=Rn (m1.keep0 rvers_ok r1);have len1:=ea1.len.1;have bd1:=λy hy=>rvers_ok.bd _ _ _ _ r1 y (sub1 y hy);have frD:∀ y,y≠B.length->(C.set B.length (.rows 6 43 false ((List.replicate (n+1) z).take (0+0)++rows1++(List.replicate (n+1) z).drop (0+0+rows1.length))))[y]?=C[y]?:=λy hy=>zdd (Ne.symm hy);have hD0:(C.set B.length (.rows 6 43 false ((List.replicate (n+1) z).take (0+0)++rows1++(List.replicate (n+1) z).drop (0+0+rows1.length))))[B.length]?=some (.rows 6 43 false (rows1++List.replicate l2.length z)):=by rw[zdl hBle];simp only[zdP,List.take_zero,zdE,zdy,List.drop_replicate];rw[show n+1 - rows1.length=l2.length by omega]
 have hDl:(C.set B.length (.rows 6 43 false ((List.replicate (n+1) z).take (0+0)++rows1++(List.replicate (n+1) z).drop (0+0+rows1.length)))).length=C.length:=by simp
 have e5:=λ{T:Type} (K:V->Heap->Option T)=>za9 (lo:=lo) (e:=43) (bytes:=72) (i:=0) (len:=0) (xs:=rows1) (K:=K) hC0 (by omega) (by simp;omega) (by decide) (by omega);generalize hD:C.set B.length (.rows 6 43 false ((List.replicate (n+1) z).take (0+0)++rows1++(List.replicate (n+1) z).drop (0+0+rows1.length)))=D at *
 have mD:Mv B [] D []:=⟨by omega,λy hy _=>by rw[frD y (by omega)];exact m1.fr y hy (by simp),by simp,by simp⟩;obtain ⟨rows2,Fs2,er2,ea2,sub2,_⟩:=Rn (mD.keep0 rvers_ok r2);have len2:=ea2.len.1;have bd2:=λy hy=>rvers_ok.bd _ _ _ _ r2 y (sub2 y hy);have e6:=λ{T:Type} (K:V->Heap->Option T)=>za9 (lo:=lo) (e:=43) (bytes:=72) (i:=0) (len:=4) (xs:=rows2) (K:=K) hD0 (by omega) (by simp;omega) (by decide) (by omega);have hDle:B.length<D.length:=by omega
 have hE0:(D.set B.length (.rows 6 43 false ((rows1++List.replicate l2.length z).take (0+4)++rows2++(rows1++List.replicate l2.length z).drop (0+4+rows2.length))))[B.length]?=some (.rows 6 43 false (rows1++rows2)):=by rw[zdl hDle];rw[zeP (by omega),zdC (by omega),zez (by simp;omega),zdS]
 have frE:∀ y,y≠B.length->(D.set B.length (.rows 6 43 false ((rows1++List.replicate l2.length z).take (0+4)++rows2++(rows1++List.replicate l2.length z).drop (0+4+rows2.length))))[y]?=D[y]?:=λy hy=>zdd (Ne.symm hy);have hEl:(D.set B.length (.rows 6 43 false ((rows1++List.replicate l2.length z).take (0+4)++rows2++(rows1++List.replicate l2.length z).drop (0+4+rows2.length)))).length=D.length:=by simp
 generalize hE:D.set B.length (.rows 6 43 false ((rows1++List.replicate l2.length z).take (0+4)++rows2++(rows1++List.replicate l2.length z).drop (0+4+rows2.length)))=E at *
 have ldB:∀ {X:Heap} (k:Nat) {v:V},X[h.length]?=some (.rows 1 26 false [[.sl 6 a1 l1.length c1],[.sl 6 a2 l2.length c2]])->([[V.sl 6 a1 l1.length c1],[.sl 6 a2 l2.length c2]]:List (List V))[k]?=some [v]->ld X h.length k 0 1=some [v]:=λk v hb hk=>by rw[BA hb hk];rfl
 refine ⟨some (B.length,0),B.length ::(Fs1++Fs2).flatten,E,GL ?_,⟨6,some (B.length,0),none,by simp,rfl,rows1++rows2,Fs1++Fs2,hE0,by simp;omega,λk hk=>(by cases hk),λ_=>rfl,?_,rfl⟩,⟨by omega,λy hy _=>by rw[frE y (by omega),frD y (by omega),m1.fr y (by omega) (by simp)];exact m0.fr y hy (by simp),by simp,by simp⟩⟩
 ·have hBC:C[h.length]?=some (.rows 1 26 false [[.sl 6 a1 l1.length c1],[.sl 6 a2 l2.length c2]]):=by rw[m1.fr _ hBl (by simp)];exact hbB
  have hBD:D[h.length]?=some (.rows 1 26 false [[.sl 6 a1 l1.length c1],[.sl 6 a2 l2.length c2]]):=by rw[frD _ (by omega)];exact hBC
  have w1:Am (0+(l1.length:Int))=(l1.length:Int):=by rw[wr (by omega) (by omega)];omega
  have w2:Am ((l1.length:Int)+(l2.length:Int))=((n+1:Nat):Int):=by rw[wr (by omega) (by omega)];omega
  have w3:Am (0+1)=1:=by decide
  have w4:Am (1+1)=2:=by decide
  rw[AQ.e,Al (by decide),Cm ⟨by decide,by decide⟩];simp only[Ad,zdy,show Int.toNat 0=0 from rfl];rw[ldB 0 hbB rfl];simp only[Ad,Aa,Ah,Ag,w1,w3];rw[Ak (by omega),AQ.e,Al (by decide),Cm ⟨by decide,by decide⟩];simp only[Ad,zdy,show Int.toNat 1=1 from rfl];rw[ldB 1 hbB rfl];simp only[Ad,Aa,Ah,Ag,w2,w4];rw[Ak (by omega),AQ.e,Ak (by decide),D8];simp only[Ac,Ag];rw[AP.e,Al (by decide),Cm ⟨by decide,by decide⟩];simp only[Ad,zdy,show Int.toNat 0=0 from rfl];rw[ldB 0 hBC rfl];simp only[Ad,Aa,Ah,Ag,w3];rw[er1,e5];simp only[Ag];rw[AP.e,Al (by decide),Cm ⟨by decide,by decide⟩];simp only[Ad,zdy,show Int.toNat 1=1 from rfl];rw[ldB 1 hBD rfl];simp only[Ad,Aa,Ah,Ag,w4];rw[er2,show rows1.length=4 by omega,e6];simp only[Ag];rw[AP.e,Ak (by decide)];rw[show 4+rows2.length=(l1++l2).length by simp;omega]
 ·rw[zdX,zdC (by simp;omega)];refine EAll.append (ea1.fr rver_ok.fr λy hy=>?_) (ea2.fr rver_ok.fr λy hy=>frE y ?_)
  ·have:=bd1 y hy;rw[frE y (by omega),frD y (by omega)]
  ·have:=bd2 y hy;omega
end


section
variable {lo:Nat}{h:Heap}{F F':List Nat}{a a':Pq}{c c':Nq}
theorem UH {p:Place}{a1 a2 a3:Pq}{c1 c2 c3:Nq}{F1 F2 F3:List Nat} (hs1:RNodes false h [.sl 2 a1 p.chain.length c1] p.chain F1) (hs2:RVers false h [.sl 6 a2 p.log.length c2] p.log F2)
  (hs3:RVss false h [.sl 1 a3 p.got.length c3] p.got F3) (hn:Ii p):Af lo 13 [.agg (p.cs a1 c1 a2 c2 a3 c3)] h=some (.bool (Ay p),h):=by
 suffices hk:∃ h',_=some (V.bool (Ay p),h') from hk.elim λh' hk=>Sx hk;have m0:Mv h [] (h ++ [.rows 6 29 false [p.cs a1 c1 a2 c2 a3 c3]]) []:=Mv.snoc;have hB0:(h ++ [Blk.rows 6 29 false [p.cs a1 c1 a2 c2 a3 c3]])[h.length]?=some (.rows 6 29 false [p.cs a1 c1 a2 c2 a3 c3]):=by simp
 have hBl:h.length<(h ++ [Blk.rows 6 29 false [p.cs a1 c1 a2 c2 a3 c3]]).length:=by simp
 generalize hB:h ++ [Blk.rows 6 29 false [p.cs a1 c1 a2 c2 a3 c3]]=B at *
 have r1:=m0.keep0 rnodes_ok hs1;have r2:=m0.keep0 rvers_ok hs2;have r3:=m0.keep0 rvss_ok hs3;have ld1:∀ {X:Heap} (j:Nat) {v:V},X[h.length]?=some (.rows 6 29 false [p.cs a1 c1 a2 c2 a3 c3])->(p.cs a1 c1 a2 c2 a3 c3)[j]?=some v->ld X h.length 0 j 1=some [v]:=λj v hb hv=>by rw[BA hb rfl];exact I9 hv
 rw[ld1 0 hB0 rfl];simp only[Ad,Aa,Ah,Ab];rw[DF];simp only[Ac,At];unfold Ay;cases Ai p.me 0 2 with
 | false=>exact ⟨_,rfl⟩
 | true =>
 rw[Ao,ld1 1 hB0 rfl];simp only[Ad,Aa,Ah,Ab];rw[A8];simp only[Ac,At];cases Ai p.clock 0 999 with
 | false=>exact ⟨_,rfl⟩
 | true =>
 rw[Ao,ld1 2 hB0 rfl];simp only[Ad,Aa,Ah,Ag];rw[N6 r1 hn.1];simp only[Ac,At];cases hc:EB p.chain with
 | false=>exact ⟨_,by rw[zee];rfl⟩
 | true =>
 rw[Ao,ld1 3 hB0 rfl];simp only[Ad,Aa,Ah,Ag];rw[ld1 0 hB0 rfl];simp only[Ad,Aa,Ah,Ab];rw[RG r2 hn.2.1];simp only[Ac,At];cases GD p.me p.log with
 | false=>exact ⟨_,by rw[zee];rfl⟩
 | true =>
 rw[Ao,ld1 4 hB0 rfl];simp only[Ad,Aa,Ah,Ag];by_cases hg:¬ p.got.length=3
 ·rw[show ((p.got.length:Int)==3)=false by rw[beq_eq_false_iff_ne];omega,decide_eq_false hg];exact ⟨_,by rw[zee];rfl⟩
 have hg:p.got.length=3:=by omega
 rw[show ((p.got.length:Int)==3)=true by rw[beq_iff_eq];omega,decide_eq_true hg,Ao];obtain ⟨hl4,hno⟩:=CM hc;obtain ⟨at',ct,Gt,et,rt,_⟩:=HL (lo:=h.length) (ld1 2 hB0 rfl) r1 (by omega) (by omega);rw[et];simp only[Ac,AR,Aa,Ag,Ah];have hsl:=Bi (AW (hno _ (zc7 (show p.chain.length - 1<p.chain.length by omega)))).1;obtain ⟨vg,hg1,Gg,eg,rg,mg⟩:=Jh (lo:=h.length) rt m0.le hsl;obtain ⟨ag,cg,esg,rg⟩:=rg.form;rw[<- GT (by omega)] at rg esg;have hst:=MN hc;rw[eg];simp only[Ac,AR,Aa,esg,Ah];have hG0:hg1[h.length]?=some (.rows 6 29 false [p.cs a1 c1 a2 c2 a3 c3]):=by rw[mg.fr _ hBl (by simp)];exact hB0
 rw[ld1 2 hG0 rfl];simp only[Ad,Aa,Ah,Ag];have r1':=mg.keep0 rnodes_ok r1;have r3':=mg.keep0 rvss_ok r3;have key:=zcA (p:=λi (x:Node)=>(x.store++x.wait).all (Ke (A3 p.chain) p.clock i)) (l:=p.chain) (h0:=hg1) (λi hh=>Cw (List.length h) (List.length h) 0 0 false a1 p.chain.length c1 (p.chain.length:Nat) (i:Nat) ag (A3 p.chain).length cg hh)
  (p.got.zipIdx.all λx=>LJ p.me x.2 x.1) (λi hi hh hm=>by
   have hni:=hno _ (zc7 hi);obtain ⟨g1,g2,g3⟩:=AW hni;obtain ⟨o,s1,s2,b1,d1,b2,d2,G1,G2,ha,ho,_,_,e1,e2,q1,q2,_⟩:=(hm.keep0 rnodes_ok r1').get hi;obtain ⟨a5,F5,h5,e5,r5,m5⟩:=Wc (lo:=h.length) q1 q2 (Bi g1) g2 (zc8 (zdZ hBl) (zc8 mg.le hm.le));have hmh:Mv hg1 [] h5 []:=hm.trans m5;have hH0:h5[h.length]?=some (.rows 6 29 false [p.cs a1 c1 a2 c2 a3 c3]):=by rw[hmh.fr _ (zdj hBl mg.le) (by simp)];exact hG0
   have rgs:=hmh.keep0 rtags_ok rg;refine ⟨h5,m5,?_⟩;rw[Cw.e,Al (by omega),Ae hi];simp only[ha,Ad,Bd,ho,Aa,e1,e2,Ah];rw[e5];simp only[Ac,Ag];rw[<- ha];have hlen:(p.chain[i].store++p.chain[i].wait).length<=10:=by rw[zdt,Bi g1];omega
   refine (Fd (p:=Ke (A3 p.chain) p.clock i) (l:=p.chain[i].store++p.chain[i].wait) (λk=>BN (List.length h) (List.length h) 0 0 false (i:Nat) a1 p.chain.length c1 (p.chain.length:Nat) (i:Nat) a5 (p.chain[i].store++p.chain[i].wait).length none ((p.chain[i].store++p.chain[i].wait).length:Nat) (k:Nat) ag (A3 p.chain).length cg h5) (some (.bool false,h5)) (Cw (List.length h) (List.length h) 0 0 false a1 p.chain.length c1 (p.chain.length:Nat) ((i+1:Nat):Int) ag (A3 p.chain).length cg h5) (λk hk=>?_) ?_).trans ?_
   ·obtain ⟨o',s,b,d,G,ha',ho',es,hp,_⟩:=r5.get hk;rw[BN.e,Al (by omega),Ae hk];simp only[ha',Ad,Bd,ho',Aa,Ab,es,BG,AL,Ah,zec,Ar (show k<9223372036854775807 by omega),zdy];rw[ld1 1 hH0 rfl];simp only[Ad,Aa,Ah,Ab];have hk0:((i:Int)==0)=decide (i=0):=by rw[zed,beq_iff_eq,decide_eq_true_eq];omega
    rw[hk0];have elem:Ke (A3 p.chain) p.clock i (p.chain[i].store++p.chain[i].wait)[k]=((If (p.chain[i].store++p.chain[i].wait)[k] || BP (p.chain[i].store++p.chain[i].wait)[k].past (A3 p.chain))&&(!decide (i=0) || decide ((p.chain[i].store++p.chain[i].wait)[k].tag.time<=p.clock))):=rfl;have past4:If (p.chain[i].store++p.chain[i].wait)[k]=false->(p.chain[i].store++p.chain[i].wait)[k].past.length=4:=by
     intro hz;have hmem:(p.chain[i].store++p.chain[i].wait)[k]∈p.chain[i].store++p.chain[i].wait:=zc7 hk;rw[zc9] at hmem;rcases hmem with hmem | hmem
     ·obtain ⟨j,hj,ej⟩:=zdL.1 hmem;rw[<- ej] at hz ⊢;exact WQ hni hj (by have:=Lk hni (zc7 hj);rw[hz] at this;simpa using this)
     ·obtain ⟨j,hj,ej⟩:=zdL.1 hmem;rw[<- ej];exact YN hni hj
    rw[elem];generalize (p.chain[i].store++p.chain[i].wait)[k]=u at *
    have htm:∀ {T:Type} (x y:Option T),br (decide (u.tag.time>p.clock)) x y=br (!decide (u.tag.time<=p.clock)) x y:=by
     intro T x y;by_cases ht:u.tag.time<=p.clock
     ·rw[Ak (by omega),decide_eq_true ht];rfl
     ·rw[Al (by omega),decide_eq_false ht];rfl
    simp only[htm];show br (If u) _ _=_;cases hz:If u with
    | true =>cases decide (i=0)<;>cases decide (u.tag.time<=p.clock)<;>simp only[Ao,Ax,zdT,zd3,zdk,zdY,zec,zee,Bool.true_or,zej,Bool.or_true,Bool.or_false,cond_true,cond_false,if_true,if_false,zen]
    | false =>have hu4:=past4 hz;rw[Ax,HK hp rgs (by omega) (by omega)];simp only[Ac,At];rw[ld1 1 hH0 rfl];simp only[Ad,Aa,Ah,Ab,htm];cases BP u.past (A3 p.chain)<;>cases decide (i=0)<;>cases decide (u.tag.time<=p.clock)<;>simp only[Ao,Ax,zdT,zd3,zdk,zdY,zec,zee,Bool.true_or,zej,Bool.or_true,Bool.or_false,cond_true,cond_false,if_true,if_false,zen]
   ·rw[BN.e,Ak (by omega),Ar (by omega)]
   ·rfl) (λhh hm=>by
   have hH0:hh[h.length]?=some (.rows 6 29 false [p.cs a1 c1 a2 c2 a3 c3]):=by rw[hm.fr _ (zdj hBl mg.le) (by simp)];exact hG0
   have r3s:=hm.keep0 rvss_ok r3';refine ⟨hh,?_⟩;rw[Cw.e,Ak (by omega)];simp only[zdy];rw[ld1 4 hH0 rfl];simp only[Ad,Aa,Ah,Ag];refine (QU (p:=LJ p.me) (l:=p.got) (λi=>Cv (List.length h) (List.length h) 0 0 false a3 p.got.length c3 (p.got.length:Nat) (i:Nat) hh) (some (.bool false,hh)) (some (.bool true,hh)) (λi hi=>?_) ?_).trans zbD
   ·obtain ⟨o,s,b,d,G,ha,ho,es,hp,_⟩:=r3s.get hi;rw[Cv.e,Al (by omega),Ae hi];simp only[ha,Ad,Bd,ho,Aa,es,Ah,zdP];rw[RG hp (hn.2.2.2 _ (zc7 hi)),];simp only[Ac,At];rw[ld1 0 hH0 rfl];simp only[Ad,Aa,Ah,Ab,Ar (show i<9223372036854775807 by omega)];unfold LJ;by_cases h0:p.got[i].length=0
    ·rw[Ak (by omega),decide_eq_true h0];cases GD i p.got[i]<;>cases ((i:Int)==p.me)<;>rfl
    ·rw[Al (by omega),decide_eq_false h0];cases GD i p.got[i]<;>cases ((i:Int)==p.me)<;>rfl
   ·rw[Cv.e,Ak (by omega)])
 rw[XV hc] at key;obtain ⟨h',e⟩:=key;refine ⟨h',e.trans ?_⟩;cases Hb p.chain<;>cases FA p.chain p.clock<;>cases (p.got.zipIdx.all λx=>LJ p.me x.2 x.1)<;>rfl
end


section
variable {h:Heap}
theorem zci {α:Type}{El:Rel α}{bd:α->Prop}{n t e ee R:Nat}{xs:List V} (hu:Tryz.prog.underlying t=some (.slice e)) (hR:Tryz.prog.cellsOf e=R) (hel:∀ row,TV Tryz.prog h n e row->∃ x F,El h row x F/\bd x) (hx:TV Tryz.prog h (n+1) t xs) :
  ∃ l F,Sli true R ee El h xs l F/\l.length<=maxLen/\∀ x∈l,bd x:=by
 simp only[TV,hu] at hx;obtain ⟨a,c,rs,rfl,⟨h2,_⟩,h3,h4⟩:=hx;have all:∀ rs:List (List V),(∀ row∈rs,TV Tryz.prog h n e row)->∃ l Fs,EAll El h rs l Fs/\l.length=rs.length/\∀ x∈l,bd x:=by
  intro rs;induction rs with
  | nil=>intro _;exact ⟨[],[],trivial,rfl,by simp⟩
  | cons r rs ih =>
   intro hr;obtain ⟨l,Fs,g1,g2,g3⟩:=ih λrow hrow=>hr row (by simp[hrow]);obtain ⟨x,F,g4,g5⟩:=hel r (hr r (by simp));exact ⟨x :: l,F :: Fs,⟨g4,g1⟩,by simp[g2],λy hy=>by
    rcases zdf.1 hy with rfl | hy
    ·exact g5
    ·exact g3 y hy⟩
 obtain ⟨l,Fs,g1,g2,g3⟩:=all rs λrow hr=>(h3 row hr).2
 rcases h4 with rfl | ⟨b,rfl,hb⟩
 ·have:l = []:=zdh (by simpa using g2);subst this;exact ⟨[],[],⟨R,a,c,by rw[hR];rfl,rfl,.inl ⟨rfl,rfl⟩⟩,zdA _,by simp⟩
 ·refine ⟨l,b :: Fs.flatten,⟨R,some (b,0),c,by rw[hR,g2],rfl,.inr ⟨b,0,rs,Fs,rfl,hb,by omega,?_,rfl⟩⟩,by omega,g3⟩;rw[zdX,zdC (by omega)];exact g1
end


def Cy (ro:Bool):Rel Place:=λh cs p F=>∃ a1 c1 a2 c2 a3 c3,cs=p.cs a1 c1 a2 c2 a3 c3/\RPlace ro h cs p F
theorem Jp {ro:Bool}:(Cy ro).Ok :=
 ⟨λh h' cs p F ⟨a1,c1,a2,c2,a3,c3,e,hp⟩ hb=>⟨a1,c1,a2,c2,a3,c3,e,rplace_ok.fr _ _ _ _ _ hp hb⟩,λh cs p F ⟨_,_,_,_,_,_,_,hp⟩=>rplace_ok.bd _ _ _ _ hp⟩
theorem Yc:∀ {l:List Tag},zaj zbe l=2*l.length
 | []=>rfl
 | t :: l=>by
  have h1:=Yc (l:=l);have h2:zaj zbe (t :: l)=2+zaj zbe l:=by simp only[zaj,List.map_cons,List.sum_cons]
  rw[h2,h1,zea];omega
abbrev Vs:Ver:=⟨0,⟨0,0⟩,[],⟨⟨[]⟩⟩,false⟩
abbrev zcg:Place:=⟨0,0,[],[],[],false⟩
section
variable {lo:Nat}{h:Heap}{F F':List Nat}{a a':Pq}{c c':Nq}
end


variable {l:List Node}
theorem Mv.swap {h h':Heap}{A B A' B':List Nat} (m:Mv h (A++B) h' (A'++B')):Mv h (B++A) h' (B'++A'):=by
 refine ⟨m.le,λb hb hn=>m.fr b hb λhm=>hn ?_,?_,λb hb=>?_⟩
 ·rw[zc9] at hm ⊢;exact hm.symm
 ·have:=m.nd;rw[zda] at this ⊢;exact ⟨this.2.1,this.1,λx hx y hy e=>this.2.2 y hy x hx e.symm⟩
 ·rw[zc9] at hb;refine (m.sub b (by rw[zc9];exact hb.symm)).imp (λh=>?_) id;rw[zc9] at h ⊢;exact h.symm
theorem Dv {α:Type}{El:Rel α} (ok:El.Ok) {h0 h1:Heap}{lo R e n bytes:Nat}{a:Pq}{c:Nq}{l:List α}{F:List Nat}{row:List V}{x:α}{G:List Nat} (hs:Sli false R e El h0 [.sl R a n c] l F) (hx:El h1 row x G) (m:Mv h0 [] h1 G)
  (hnd:F.Nodup) (hlo:∀ b∈F,lo<=b) (hl:lo<=h0.length) (hb:0<bytes) (hsz:(l.length+1)*bytes<=140737488355328) :
  ∃ a' c' h2 F',(∀ {T:Type} (K:V->Heap->Option T),Df lo e R bytes (.sl R a n c) [row] h1 K=K (.sl R a' (l.length+1) c') h2)/\Sli false R e El h2 [.sl R a' (l.length+1) c'] (l ++ [x]) F'/\Mv h0 F h2 F':=by
 have hbd:=(Sli.ok ok).bd _ _ _ _ hs;have hs1:=m.keep0 (Sli.ok ok) hs;have hGb:=m.lt (by simp);obtain ⟨a',c',h2,F',p1,p2,p3,p4,p5,p6⟩:=Sli.push (lo:=lo) (bytes:=bytes) ok.fr hs1 (xs := [row]) (ys := [x]) (Gs := [G]) ⟨hx,trivial⟩ hb hsz hlo (zc8 hl m.le)
  (by
   rw[zda];refine ⟨hnd,by simpa using m.nd,λy hy z hz=>?_⟩
   rintro rfl
   have g1:=hbd y hy;have g2:=m.new y (by simpa using hz);omega)
  (λb hb'=>by
   have g1:=m.le;rw[zc9] at hb';rcases hb' with hb' | hb'
   ·have:=hbd b hb';omega
   ·exact hGb b (by simpa using hb')) (by simp)
 refine ⟨a',c',h2,F',p1,p2,zc8 m.le p3,λb hb' hF=>?_,p6,λb hb'=>?_⟩
 ·rw[p4 b (zdj hb' m.le) hF,m.fr b hb' (by simp)]
 ·have g1:=m.le;rcases p5 b hb' with g | g
  ·rw[zc9] at g;rcases g with g | g
   ·exact .inl g
   ·have g2:=m.new b (by simpa using g);have g3:=hGb b (by simpa using g);exact .inr (by omega)
  ·exact .inr (by omega)
def JT (l:List Node):List Node:=match l.getLast? with
 | some x=>l ++ [⟨x.store,[]⟩]
 | none=>l
def Ec (l:List Node):Bool:=decide ((l.length:Int)<4)
def I0 (l:List Node):List Node:=bif Ec l then JT l else l
theorem GF (h0:0<l.length):JT l=l ++ [⟨(l[l.length - 1]'(by omega)).store,[]⟩]:=by unfold JT;rw[List.getLast?_eq_getElem?,Dj (by omega)]
section
variable {lo:Nat}{h:Heap}{F F':List Nat}{a a':Pq}{c c':Nq}
theorem LQ {l:List Ver}{n:Nat} (hs:RVers false h [.sl 6 a n c] l F):Af lo 205 [.sl 6 a n c] h=some (.sl 6 a n (some n),h):=HB (by rw[I5 hs])
theorem Ug {n:Nat} (hs:RNodes false h [.sl 2 a n c] l F):Af lo 280 [.sl 2 a n c] h=some (.sl 2 a n (some n),h):=GM (by rw[I5 hs])
theorem VD (hs:RNodes false h [.sl 2 a l.length c] l F) (h0:0<l.length) (hn:C7 l) (hnd:F.Nodup) (hlo:∀ b∈F,lo<=b) (hl:lo<=h.length) :
  ∃ a' c' h' F',Af lo 257 [.agg [.sl 2 a l.length c]] h=some (.agg [.sl 2 a' (l.length+1) c'],h')/\RNodes false h' [.sl 2 a' (l.length+1) c'] (JT l) F'/\Mv h F h' F':=by
 have hn1:=hn.1;obtain ⟨o,s1,s2,b1,d1,b2,d2,G1,G2,ha,ho,ho1,ho2,e1,e2,q1,q2,_⟩:=hs.get (show l.length - 1<l.length by omega);obtain ⟨v3,h3,F3,e3,r3,m3⟩:=O0 (lo:=lo) q1 hl (hn.2 _ (zc7 _)).1;obtain ⟨a4,c4,es4,r4⟩:=r3.form;obtain ⟨a5,c5,h5,F5,e5,r5,m5⟩:=Dv (lo:=lo) (bytes:=48) (e:=47) rnode_ok hs (row := [.sl 6 a4 (l[l.length - 1]'(by omega)).store.length c4,.sl 0 none 0 (some 0)]) (x:=⟨(l[l.length - 1]'(by omega)).store,[]⟩) (G:=F3) (h1:=h3 ++ [.rows 2 47 false [[.sl 6 a4 (l[l.length - 1]'(by omega)).store.length c4,.sl 0 none 0 (some 0)]]])
  ⟨_,_,F3,[],rfl,by simp,Mv.snoc.keep0 rvers_ok r4,Sli.nil⟩ (m3.trans (Mv.snoc' m3.nd)) hnd hlo hl (by decide) (by omega)
 refine ⟨a5,c5,h5,F5,S5 ?_,by rw[GF h0];exact r5,m5⟩;rw[wr (by omega) (by omega),Cm ⟨by omega,by omega⟩,show ((l.length:Int) - 1).toNat=l.length - 1 by omega];simp only[ha,Ad,ho1,Aa,e1,Ah];rw[e3];simp only[Ac,AR,Aa,es4,Ah,A7];rw[<- ha,e5];simp only[Ag]
theorem Zk {b i j R e:Nat}{rs:List (List V)}{row:List V} (hb:h[b]?=some (.rows R e false rs)) (hrow:rs[i]?=some row) (hcell:row[j]?=some (.sl 2 a l.length c)) (hs:RNodes false h [.sl 2 a l.length c] l F) (h0:0<l.length) (hn:C7 l)
  (hnd:(b :: F).Nodup) (hlo:∀ y∈b :: F,lo<=y) (hl:lo<=h.length) :
  ∃ a' n' c' h' F',Af lo 224 [.ptr (some (b,i,j))] h=some (.bool (Ec l),h')/\h'[b]?=some (.rows R e false (rs.set i (row.set j (.sl 2 a' n' c'))))/\RNodes false h' [.sl 2 a' n' c'] (I0 l) F'/\Mv h (b :: F) h' (b :: F'):=by
 have hn1:=hn.1;have hblt:b<h.length:=(EA hb).1;have hld:ld h b i j 1=some [.sl 2 a l.length c]:=by rw[BA hb hrow];exact I9 hcell
 unfold I0 Ec;by_cases h4:(l.length:Int)<4
 ·obtain ⟨at',ct,Gt,et,rt,_⟩:=HL (lo:=h.length) hld hs h0 hn1;obtain ⟨a3,c3,h3,F3,e3,r3,m3⟩:=GW (lo:=h.length) rt (zdb _) (hn.2 _ (zc7 _)).1;rw[zdg] at hnd;obtain ⟨a5,c5,h5,F5,e5,r5,m5⟩:=Dv (lo:=lo) (bytes:=48) (e:=47) rnode_ok hs (row := [.sl 6 a3 (l[l.length - 1]'(by omega)).store.length c3,.sl 0 none 0 (some 0)]) (x:=⟨(l[l.length - 1]'(by omega)).store,[]⟩) (G:=F3) (h1:=h3 ++ [.rows 2 47 false [[.sl 6 a3 (l[l.length - 1]'(by omega)).store.length c3,.sl 0 none 0 (some 0)]]])
   ⟨_,_,F3,[],rfl,by simp,Mv.snoc.keep0 rvers_ok r3,Sli.nil⟩ (m3.trans (Mv.snoc' m3.nd)) hnd.2 (λy hy=>hlo y (by simp[hy])) hl (by decide) (by omega)
  have hb5:h5[b]?=some (.rows R e false rs):=by rw[m5.fr b hblt hnd.1];exact hb
  have hbF5:b∉F5:=λhm=>by
   rcases m5.sub b hm with g | g
   ·exact hnd.1 g
   ·omega
  have hb5lt:b<h5.length:=zdj hblt m5.le;have hjl:j<row.length:=(EA hcell).1;have e6:=DM hb5 (hlo b (by simp)) hrow (EQ (v := .sl 2 a5 (l.length+1) (some (l.length+1))) hjl);refine ⟨a5,l.length+1,some (l.length+1),h5.set b (.rows R e false (rs.set i (row.set j (.sl 2 a5 (l.length+1) (some (l.length+1)))))),F5,J9 ?_,by simp[hb5lt],?_,?_⟩
  ·simp only[zdP,hld,Ad,Aa,Ah,Ag];rw[Ak (by omega),et];simp only[Ac,AR,Aa,Ag,Ah];rw[e3];simp only[Ac,AR,Aa,Ag,Ah,A7];rw[e5];simp only[Ag];rw[Ug r5];simp only[Ac,Ag];rw[e6];simp only[Ad,decide_eq_true h4]
  ·rw[decide_eq_true h4,cond_true,GF h0];exact rnodes_ok.fr _ _ _ _ _ r5.clip λy hy=>zdd (show b≠y from λe=>hbF5 (by rw[e];exact hy))
  ·refine ⟨by simpa using m5.le,λy hy hF=>?_,by rw[zdg];exact ⟨hbF5,m5.nd⟩,λy hy=>?_⟩
   ·rw[zdf,not_or] at hF;rw[zdd (Ne.symm hF.1)];exact m5.fr y hy hF.2
   ·rw[zdf] at hy;rcases hy with rfl | hy
    ·exact .inl (by simp)
    ·refine (m5.sub y hy).imp (λg=>by simp[g]) λg=>by simpa using g
 ·refine ⟨a,l.length,c,h,F,J9 ?_,?_,?_,Mv.refl hnd⟩
  ·simp only[zdP,hld,Ad,Aa,Ah,Ag];rw[Al (by omega),decide_eq_false h4]
  ·rw[set_same hcell,set_same hrow];exact hb
  ·rw[decide_eq_false h4];exact hs
end


theorem Ja:∀ {row:List V}{n:Nat},row.length=n->cut row 0 n=some row
 | [],0,_=>rfl
 | v :: r,n+1,h=>by have h1:=Ja (row:=r) (n:=n) (by simpa using h);show (match cut r 0 n with | some l=>some (v :: l) | none=>none)=_;rw[h1]
def Lc (p:Place):Place:=⟨p.me,p.clock,I0 p.chain,p.log,p.got,p.fell⟩
theorem Dk {p:Place} (h:Ay p=true):0<p.chain.length:=by unfold Ay at h;simp only[CP] at h;have:=(CM h.1.1.1.1.2).1;omega
theorem Jb {b:Bool}{h:Heap}:br b (some (V.bool true,h)) (some (V.bool false,h))=some (V.bool b,h):=by cases b<;>rfl
section
variable {lo:Nat}{h:Heap}{F F':List Nat}{a a':Pq}{c c':Nq}
end


def He (l:List Node) (k:Nat) (v:Ver):List Node:=match l[k]? with
 | some x=>match x.store[v.key.toNat]? with
  | some u=>bif A0 u v then l.set k ⟨x.store.set v.key.toNat v,bif decide (k+1<l.length) then x.wait ++ [v] else x.wait⟩ else l
  | none=>l
 | none=>l
theorem WG {l:List Node}{k:Nat}{v:Ver} (hk:k<l.length) (hv:v.key.toNat<l[k].store.length) :
  He l k v=bif A0 l[k].store[v.key.toNat] v then l.set k ⟨l[k].store.set v.key.toNat v,bif decide (k+1<l.length) then l[k].wait ++ [v] else l[k].wait⟩ else l:=by
 unfold He;rw[Dj hk];simp only;rw[Dj hv]
section
variable {lo:Nat}{h h3:Heap}{F F' G:List Nat}{a a' av:Pq}{c c' cv:Nq}{n k:Nat}{l:List Node}{v:Ver}
theorem TF (hs:RNodes false h [.sl 2 a n c] l F) (hk:k<l.length) (hnd:F.Nodup) (hlo:∀ b∈F,lo<=b) (hl:lo<=h.length) (hw:l[k].wait.length<=1048576) (hv:RTags false h3 [.sl 2 av v.past.length cv] v.past G) (m3:Mv h [] h3 G) :
  ∃ b i t2 a2 c2 a5 c5 h5,a=some (b,i)/\ld h b (i+k) 1 1=some [t2]/\(∀ {T:Type} (K:Pq->Nat->Nq->Option T),eS 6 t2 K=K a2 l[k].wait.length c2) /\
   (∀ {T:Type} (K:V->Heap->Option T),Df lo 43 6 72 (.sl 6 a2 l[k].wait.length c2) [v.cs av cv] (h3 ++ [.rows 6 43 false [v.cs av cv]]) K=K (.sl 6 a5 (l[k].wait.length+1) c5) h5) /\
   (∃ F5,RVers false h5 [.sl 6 a5 (l[k].wait.length+1) c5] (l[k].wait ++ [v]) F5) /\
   ∀ c6,(c6=c5\/c6=some (l[k].wait.length+1))->∃ h6 F6,st lo h5 b (i+k) 1 [.sl 6 a5 (l[k].wait.length+1) c6]=some h6/\RNodes false h6 [.sl 2 a n c] (l.set k ⟨l[k].store,l[k].wait ++ [v]⟩) F6/\Mv h F h6 F6:=by
 obtain ⟨b,i,rs,row,G0,ha,hbF,hbG,hb,hrow,hel,hGF,hGn,_,put⟩:=hs.at rnode_ok hk hnd hlo;obtain ⟨t1,t2,F1,F2,rfl,rfl,r1,r2⟩:=hel;obtain ⟨a2,c2,e2,r2'⟩:=r2.form;rw[zda] at hGn;obtain ⟨a5,c5,h5,F5,e5,r5,m5⟩:=Dv (lo:=lo) (bytes:=72) (e:=43) rver_ok r2' (row:=v.cs av cv) (x:=v) (G:=G) (h1:=h3 ++ [.rows 6 43 false [v.cs av cv]])
  ⟨_,rfl,Mv.snoc.keep0 rtags_ok hv⟩ (m3.trans (Mv.snoc' m3.nd)) hGn.2.1 (λy hy=>hlo y (hGF y (by simp[hy]))) hl (by decide) (by omega)
 have b1:∀ y∈F1,y<h.length:=rvers_ok.bd _ _ _ _ r1;have m6:=(m5.aside (G:=F1) (by rw[zda];exact ⟨hGn.2.1,hGn.1,λx hx y hy e=>hGn.2.2 y hy x hx e.symm⟩) b1).swap;have r1':=m5.keep rvers_ok r1 λy hy hm=>hGn.2.2 y hy y hm rfl;refine ⟨b,i,t2,a2,c2,a5,c5,h5,ha,by rw[BA hb hrow];rfl,λK=>e2 K,λK=>e5 K,⟨F5,r5⟩,λc6 hc=>?_⟩;have r5':RVers false h5 [.sl 6 a5 (l[k].wait.length+1) c6] (l[k].wait ++ [v]) F5:=by
  rcases hc with rfl | rfl
  ·exact r5
  ·exact r5.clip
 obtain ⟨h6,F6,e6,r6,m7,_⟩:=put h5 (F1++F5) 1 [.sl 6 a5 (l[k].wait.length+1) c6] [t1,.sl 6 a5 (l[k].wait.length+1) c6] ⟨l[k].store,l[k].wait ++ [v]⟩ m6 rfl ⟨_,_,F1,F5,rfl,rfl,r1',r5'⟩;exact ⟨h6,F6,e6,r6,m7⟩
theorem YW (hs:RNodes false h [.sl 2 a n c] l F) (hk:k<l.length) (hnd:F.Nodup) (hlo:∀ b∈F,lo<=b) (hq:v.key.toNat<l[k].store.length) (hv:RTags false h3 [.sl 2 av v.past.length cv] v.past G) (m3:Mv h [] h3 G) :
  ∃ b i t1 o c1,a=some (b,i)/\ld h b (i+k) 0 1=some [t1]/\(∀ {T:Type} (K:Pq->Nat->Nq->Option T),eS 6 t1 K=K (some o) l[k].store.length c1)/\(∃ F1,RVers false h [.sl 6 (some o) l[k].store.length c1] l[k].store F1) /\
   ∃ h4 F4,st lo h3 o.1 (o.2+v.key.toNat) 0 (v.cs av cv)=some h4/\RNodes false h4 [.sl 2 a n c] (l.set k ⟨l[k].store.set v.key.toNat v,l[k].wait⟩) F4/\Mv h F h4 F4:=by
 obtain ⟨b,i,rs,row,G0,ha,hbF,hbG,hb,hrow,hel,hGF,hGn,keep,_⟩:=hs.at rnode_ok hk hnd hlo;obtain ⟨t1,t2,F1,F2,rfl,rfl,r1,r2⟩:=hel;have hGn0:=hGn;rw[zda] at hGn;obtain ⟨R',a1,c1,e1,g⟩:=id r1;injection e1 with e1 _;subst e1;cases a1 with
 | none =>have:=g.1;rw[this] at hq;exact absurd hq (Nat.not_lt_zero _)
 | some o =>
 obtain ⟨hR,_⟩:=g;subst hR;obtain ⟨b2,i2,rs2,row2,G2,e2,hb2,hbG2,hbb,hrow2,hel2,hGF2,hGn2,_,wr⟩:=r1.at rver_ok hq hGn.1 (λy hy=>hlo y (hGF y (by simp[hy])));injection e2 with e2;subst e2;obtain ⟨h4,F4,e4,r4,m4,_⟩:=wr h3 G 0 (v.cs av cv) (v.cs av cv) v (m3.wide (by simp)) (GC (by obtain ⟨s,rfl,_⟩:=hel2;rfl)) ⟨_,rfl,hv⟩;have b2':∀ y∈F2,y<h.length:=rvers_ok.bd _ _ _ _ r2;have m5:=m4.aside (G:=F2) hGn0 b2';have r2':=m4.keep rvers_ok r2 λy hy hm=>hGn.2.2 y hm y hy rfl;obtain ⟨F5,r5,m6⟩:=keep h4 ⟨l[k].store.set v.key.toNat v,l[k].wait⟩ (F4++F2) m5 ⟨_,_,F4,F2,rfl,rfl,r4,r2'⟩;exact ⟨b,i,_,(b2,i2),c1,ha,by rw[BA hb hrow];rfl,λK=>Ag _ _ _ _ _,⟨F1,r1⟩,h4,F5,e4,r5,m6⟩
theorem Re (hs:RNodes false h [.sl 2 a l.length c] l F) (hv:RTags false h [.sl 2 av v.past.length cv] v.past G) (hd:∀ b∈G,b∉F) (hnd:F.Nodup) (hlo:∀ b∈F,lo<=b) (hl:lo<=h.length) (hk:k<l.length)
  (hkey:0<=v.key/\v.key<l[k].store.length) (hn:C7 l) (hvn:v.past.length<=1048576) :
  ∃ h' F',Af lo 129 [.agg [.sl 2 a l.length c],Iv k,.agg (v.cs av cv)] h=some (.agg [.sl 2 a l.length c],h')/\RNodes false h' [.sl 2 a l.length c] (He l k v) F'/\Mv h F h' F':=by
 have hn1:=hn.1;have hkl:v.key.toNat<l[k].store.length:=by omega
 have hsm:=hn.2 _ (zc7 hk);suffices hq:∃ h' F',_=some (V.agg [.sl 2 a l.length c],h')/\RNodes false h' [.sl 2 a l.length c] (He l k v) F'/\Mv h F h' F' from hq.imp λh' hq=>hq.imp λF' hq=>⟨Ve hq.1,hq.2⟩
 obtain ⟨b,i,rs,row,G0,ha,hbF,hbG,hb,hrow,hel,hGF,hGn,_,put⟩:=hs.at rnode_ok hk hnd hlo;obtain ⟨t1,t2,F1,F2,rfl,rfl,r1,r2⟩:=hel;obtain ⟨a1,c1,e1,r1'⟩:=r1.form;obtain ⟨o,s,_,_,_,ha1,_,_,_,_,_,_,ho12,_⟩:=RVers.all r1' hkl;have ld0:ld h b (i+k) 0 1=some [t1]:=by rw[BA hb hrow];rfl
 rw[WG hk hkl];rw[Ae hk];simp only[ha,Ad,Bd,ld0,Aa,Ah,e1];rw[Cm ⟨by omega,by omega⟩];simp only[ha1,Ad,ho12,Aa,Ab,Ah,Ci,Ac,At];show ∃ h' F',br (A0 l[k].store[v.key.toNat] v) _ _=_/\_;cases hle:A0 l[k].store[v.key.toNat] v with
 | false=>exact ⟨h,F,rfl,by rw[<- ha];exact hs,Mv.refl hnd⟩
 | true =>
  have hGn0:=hGn;rw[zda] at hGn;have hGlt:∀ b∈G,b<h.length:=rtags_ok.bd _ _ _ _ hv;obtain ⟨h2,F3,e2,r3,m2⟩:=WZ (lo:=lo) r1' hv hGn.1 (λy hy=>hlo y (hGF y (by simp[hy]))) hl hkey hvn;have b2':∀ y∈F2,y<h.length:=rvers_ok.bd _ _ _ _ r2;have m3:=m2.aside (G:=F2) hGn0 b2';have r2':=m2.keep rvers_ok r2 λy hy hm=>hGn.2.2 y hm y hy rfl;have hadd:Hd l[k].store v=l[k].store.set v.key.toNat v:=by rw[Sb hkl,hle,cond_true]
  have hlen:(Hd l[k].store v).length=l[k].store.length:=X4;rw[<- hlen] at r3;obtain ⟨h4,F4,e4,r4,m4,b4,fr4,l4⟩:=put h2 (F3++F2) 0 [.sl 6 a1 (Hd l[k].store v).length c1] [.sl 6 a1 (Hd l[k].store v).length c1,t2] ⟨Hd l[k].store v,l[k].wait⟩ m3 rfl ⟨_,_,F3,F2,rfl,rfl,r3,r2'⟩;rw[hlen] at e4;have hv4:RTags false h4 [.sl 2 av v.past.length cv] v.past G:=m4.keep rtags_ok hv hd;have hk4:k<(l.set k ⟨Hd l[k].store v,l[k].wait⟩).length:=by simpa using hk
  rw[Ao,Ae hk];simp only[Ad,ld0,Aa,e1,Ah];rw[e2];simp only[Ac,AR,Aa,Ag,Ah];rw[Ae hk,e4];simp only[Ad];rw[wr (by omega) (by omega),cond_true];by_cases hlast:k+1<l.length
  ·rw[Al (by omega),Ae hk,decide_eq_true hlast,cond_true];obtain ⟨a6,c6,h6,F6,e6,r6,m6⟩:=Em (lo:=h4.length) (v:=v) hv4 (zdb _) hvn;have hself:(l.set k ⟨Hd l[k].store v,l[k].wait⟩)[k]=⟨Hd l[k].store v,l[k].wait⟩:=zel hk4;obtain ⟨b7,i7,u2,a7,c7,a8,c8,h8,ha7,ld7,e7,app7,_,st7⟩:=TF (lo:=lo) r4 hk4 m4.nd (λy hy=>m4.ge hl hlo y hy) (zc8 hl m4.le) (by rw[hself];exact hsm.2.1) r6 m6;simp only[hself] at e7 app7 st7;obtain ⟨h9,F9,e9,r9,m9⟩:=st7 _ (.inl rfl);rw[ha] at ha7;injection ha7 with ha7;injection ha7 with hb7 hi7;subst hb7;subst hi7;simp only[ld7,Ad,Aa,Ah,e7];rw[e6];simp only[Ac,AR,Aa,Ab,Ag,BG,AL,Ah,A7];rw[app7];simp only[Ag];rw[Ae hk,e9];rw[zem,hadd] at r9;exact ⟨h9,F9,rfl,by rw[<- ha];exact r9,m4.trans m9⟩
  ·rw[Ak (by omega),decide_eq_false hlast,cond_false];rw[hadd] at r4;exact ⟨h4,F4,rfl,by rw[<- ha];exact r4,m4⟩
theorem RI {b i j R e:Nat}{rs:List (List V)}{row:List V} (hb:h[b]?=some (.rows R e false rs)) (hrow:rs[i]?=some row) (hcell:row[j]?=some (.sl 2 a l.length c)) (hs:RNodes false h [.sl 2 a l.length c] l F) (hbF:b∉F)
  (hv:RTags false h [.sl 2 av v.past.length cv] v.past G) (hd:∀ b∈G,b∉F) (hnd:F.Nodup) (hlo:∀ b∈F,lo<=b) (hl:lo<=h.length) (hk:k<l.length)
  (hkey:0<=v.key/\v.key<l[k].store.length) (hn:C7 l) (hvn:v.past.length<=1048576) :
  ∃ h' F',Af lo 204 [.ptr (some (b,(i,j))),Iv k,.agg (v.cs av cv)] h=some (.tup [],h')/\RNodes false h' [.sl 2 a l.length c] (He l k v) F'/\Mv h F h' F':=by
 have hn1:=hn.1;have hkl:v.key.toNat<l[k].store.length:=by omega
 have hsm:=hn.2 _ (zc7 hk);have hblt:b<h.length:=(EA hb).1;have hld:ld h b i j 1=some [.sl 2 a l.length c]:=by rw[BA hb hrow];exact I9 hcell
 suffices hq:∃ h' F',_=some (V.tup [],h')/\RNodes false h' [.sl 2 a l.length c] (He l k v) F'/\Mv h F h' F' from hq.imp λh' hq=>hq.imp λF' hq=>⟨Nu hq.1,hq.2⟩
 obtain ⟨a3,c3,h3,F3,e3,r3,m3⟩:=BK (lo:=h.length) (v:=v) hv (zdb _) hvn;obtain ⟨b1,i1,t1,o,c1,ha,ld0,e1,⟨F1,r1⟩,h4,F4,e4,r4,m4⟩:=YW (lo:=lo) hs hk hnd hlo hkl r3 m3;have hlat:=MW (lo:=lo) (v:=v) (ca:=av) (cc:=cv) (n:=v.past.length) r1 (by omega);rw[WG hk hkl];simp only[zdP,hld,Ad,Aa,Ah,Ag];rw[Ae hk];simp only[ha,Ad,Bd,ld0,Aa,Ah,e1];rw[hlat];simp only[Ac,At];cases hle:A0 l[k].store[v.key.toNat] v with
 | false=>exact ⟨h,F,rfl,by rw[<- ha];exact hs,Mv.refl hnd⟩
 | true =>
  have hb4:h4[b]?=some (.rows R e false rs):=by rw[m4.fr b hblt hbF];exact hb
  have hld4:ld h4 b i j 1=some [.sl 2 a l.length c]:=by rw[BA hb4 hrow];exact I9 hcell
  have hv4:RTags false h4 [.sl 2 av v.past.length cv] v.past G:=m4.keep rtags_ok hv hd;have hk4:k<(l.set k ⟨l[k].store.set v.key.toNat v,l[k].wait⟩).length:=by simpa using hk
  rw[Ao,e3];simp only[Ac,AR,Aa,Ab,Ag,BG,AL,Ah,Ad,ld0,e1];rw[Cm ⟨by omega,by omega⟩,e4];simp only[Ad,hld4,Aa,Ag,Ah];rw[Pd hn1];simp only[Ac,At,cond_true];by_cases hlast:k+1=l.length
  ·rw[decide_eq_true hlast,decide_eq_false (by omega),cond_false,Ao];exact ⟨h4,F4,rfl,by rw[<- ha];exact r4,m4⟩
  ·rw[decide_eq_false hlast,decide_eq_true (by omega),cond_true,Ax];obtain ⟨a6,c6,h6,F6,e6,r6,m6⟩:=BK (lo:=h4.length) (v:=v) hv4 (zdb _) hvn;have hself:(l.set k ⟨l[k].store.set v.key.toNat v,l[k].wait⟩)[k]=⟨l[k].store.set v.key.toNat v,l[k].wait⟩:=zel hk4;obtain ⟨b7,i7,u2,a7,c7,a8,c8,h8,ha7,ld7,e7,app7,⟨F8,r8⟩,st7⟩:=TF (lo:=lo) r4 hk4 m4.nd (λy hy=>m4.ge hl hlo y hy) (zc8 hl m4.le) (by rw[hself];exact hsm.2.1) r6 m6;simp only[hself] at e7 app7 st7 r8;obtain ⟨h9,F9,e9,r9,m9⟩:=st7 _ (.inr rfl);rw[ha] at ha7;injection ha7 with ha7;injection ha7 with hb7 hi7;subst hb7;subst hi7;simp only[ld7,Ad,Aa,Ah,e7];rw[e6];simp only[Ac,AR,Aa,Ab,Ag,BG,AL,Ah,A7];rw[app7];simp only[Ag];rw[LQ r8];simp only[Ac,Ag];rw[e9];rw[zem] at r9;exact ⟨h9,F9,rfl,by rw[<- ha];exact r9,m4.trans m9⟩
end


def noted (me:Int) (log:List Ver) (v:Ver):List Ver:=bif decide (v.tag.time>0)&&(v.tag.place==me && !Cq log v.tag) then log ++ [v] else log
def Ew (l:List Node):List Ver:=match l.getLast? with
 | some x=>x.store
 | none => []
def Zo (l:List Node):Bool:=l.all λx=>decide (x.wait.length=0)
def BW (p:Place):Place:=⟨p.me,p.clock,p.chain,(Ew p.chain).foldl (noted p.me) p.log,p.got,p.fell && !Zo p.chain⟩
theorem E9 {l:List Node} (h0:0<l.length):Ew l=(l[l.length - 1]'(by omega)).store:=by unfold Ew;rw[List.getLast?_eq_getElem?,Dj (by omega)]
theorem Y8 {me:Int}{log:List Ver}{v:Ver}:(noted me log v).length<=log.length+1:=by unfold noted;cases decide (v.tag.time>0)&&(v.tag.place==me && !Cq log v.tag)<;>simp
section
variable {lo:Nat}{h:Heap}{F F':List Nat}{a a':Pq}{c c':Nq}
theorem My {l:List Ver}{t p:Int}{ro:Bool} (hs:RVers ro h [.sl 6 a l.length c] l F) (hn:l.length<=1048576) :
  Af lo 208 [.sl 6 a l.length c,.agg [Iv t,Iv p]] h=some (.bool (Cq l ⟨t,p⟩),h):=by
 refine Qp (h':=h) ?_;have loop:∀ m i,m+i=l.length->CE h.length a l.length c false (i:Nat) t p h=some (.bool ((l.drop i).any λv=>v.tag.time==t&&v.tag.place==p),h):=by
  intro m;induction m with
  | zero =>intro i hi;rw[CE.e,Ak (by omega),zdV (by omega)];rfl
  | succ m ih =>
   intro i hi;have hil:i<l.length:=by omega
   obtain ⟨o,s,_,_,_,ha,_,_,_,_,_,_,ho,_⟩:=RVers.all hs hil;rw[CE.e,Al (by omega),Ae hil];simp only[ha,Ad,Bd,ho,Aa,Ab,Ah,zec];rw[Ar (show i<9223372036854775807 by omega),<- ha,ih (i+1) (by omega),zdn hil,List.any_cons];cases (l[i].tag.time==t&&l[i].tag.place==p)<;>rfl
 exact loop l.length 0 (by omega)
theorem PS {p:Place}{a1 a2 a3:Pq}{c1 c2 c3:Nq}{F1 F2:List Nat} (hs1:RNodes false h [.sl 2 a1 p.chain.length c1] p.chain F1) (hs2:RVers false h [.sl 6 a2 p.log.length c2] p.log F2)
  (h0:0<p.chain.length) (h4:(Ew p.chain).length=4) (hd:∀ b∈F1,b∉F2) (hnd:F2.Nodup) (hlo:∀ b∈F2,lo<=b) (hl:lo<=h.length) (hcl:p.chain.length<=1048576) (hlog:p.log.length<=1000000) (hvn:∀ v∈Ew p.chain,v.past.length<=1048576) :
  ∃ a2' c2' h' F2',Af lo 130 [.agg (p.cs a1 c1 a2 c2 a3 c3)] h=some (.agg ((BW p).cs a1 c1 a2' c2' a3 c3),h')/\RVers false h' [.sl 6 a2' (BW p).log.length c2'] (BW p).log F2'/\Mv h F2 h' F2':=by
 obtain ⟨o,s1,s2,b1,d1,b2,d2,G1,G2,ha,_,ho1,_,e1,_,q1,_,q3,_⟩:=hs1.get (show p.chain.length - 1<p.chain.length by omega);rw[E9 h0] at h4 hvn;have two:∀ (hh:Heap) (F':List Nat) (ax:Pq) (nx:Nat) (cx:Nq),Mv h F2 hh F'->∀ m i (b:Bool),m+i=p.chain.length ->
   B5 lo b (i:Nat) p.me p.clock a1 p.chain.length c1 ax nx cx a3 p.got.length c3 p.fell 0 0 0 none 0 (some 0) 0 none 0 (some 0) 0 none 0 (some 0) false hh=some (.agg [Iv p.me,Iv p.clock,.sl 2 a1 p.chain.length c1,.sl 6 ax nx cx,.sl 1 a3 p.got.length c3,.bool (p.fell && !(b&&(p.chain.drop i).all λx=>decide (x.wait.length=0)))],hh):=by
  intro hh F' ax nx cx hm m;induction m with
  | zero =>intro i b hi;rw[B5.e,Ak (by omega),zdV (by omega)];cases p.fell<;>cases b<;>rfl
  | succ m ih =>
   intro i b hi;have hil:i<p.chain.length:=by omega
   obtain ⟨o',_,_,_,_,_,_,_,_,ha',_,_,ho2',_,e2',_⟩:=(hm.keep rnodes_ok hs1 hd).get hil;rw[B5.e,Al (by omega),Ar (show i<9223372036854775807 by omega)];cases b with
   | false=>rw[Ax,ih (i+1) false (by omega)];rfl
   | true =>rw[Ao,Ae hil];simp only[ha',Ad,Bd,ho2',Aa,Ah,e2'];rw[<- ha',ih (i+1) true (by omega),ih (i+1) false (by omega),zdn hil,List.all_cons,show (((p.chain[i].wait.length:Nat):Int)==0)=decide (p.chain[i].wait.length=0) by rw[zed,beq_iff_eq,decide_eq_true_eq];omega];cases decide (p.chain[i].wait.length=0)<;>rfl
 have one:∀ m i,m+i=4->∀ hh ax cx (lg:List Ver) Fx,RVers false hh [.sl 6 ax lg.length cx] lg Fx->Mv h F2 hh Fx->lg.length<=1000000+i->∃ a' c' h' F',
   B6 lo (i:Nat) p.me p.clock a1 p.chain.length c1 ax lg.length cx a3 p.got.length c3 p.fell 0 0 0 none 0 (some 0) 0 none 0 (some 0) 0 none 0 (some 0) false b1 (p.chain[p.chain.length - 1]'(by omega)).store.length d1 hh =
    B5 lo true 0 p.me p.clock a1 p.chain.length c1 a' (((p.chain[p.chain.length - 1]'(by omega)).store.drop i).foldl (noted p.me) lg).length c' a3 p.got.length c3 p.fell 0 0 0 none 0 (some 0) 0 none 0 (some 0) 0 none 0 (some 0) false h' /\
   RVers false h' [.sl 6 a' (((p.chain[p.chain.length - 1]'(by omega)).store.drop i).foldl (noted p.me) lg).length c'] (((p.chain[p.chain.length - 1]'(by omega)).store.drop i).foldl (noted p.me) lg) F'/\Mv h F2 h' F':=by
  intro m;induction m with
  | zero =>intro i hi hh ax cx lg Fx hr hm hlen;rw[B6.e,Ak (by omega),zdV (by omega)];exact ⟨ax,cx,hh,Fx,rfl,hr,hm⟩
  | succ m ih =>
   intro i hi hh ax cx lg Fx hr hm hlen;have hil:i<(p.chain[p.chain.length - 1]'(by omega)).store.length:=by omega
   have q1':=hm.keep rvers_ok q1 λy hy=>hd y (q3 y hy);obtain ⟨o',s',b',d',G',ha',_,_,_,_,_,_,_,ho',es',hp',_⟩:=RVers.all q1' hil;rw[zdn hil,zd2];rw[B6.e,Al (by omega),Ae hil];simp only[ha',Ad,Bd,ho',Aa,Ab,es',BG,AL,Ah];rw[<- ha',Ar (show i<9223372036854775807 by omega),My hr (by omega)];simp only[Ac,At];have stay:=ih (i+1) (by omega) hh ax cx lg Fx hr hm (by omega);have hno:=@noted.eq_1 p.me lg ((p.chain[p.chain.length - 1]'(by omega)).store[i]'hil);cases g1:decide (((p.chain[p.chain.length - 1]'(by omega)).store[i]'hil).tag.time>0) with
   | false=>rw[Ax,hno,g1];exact stay
   | true =>
   rw[Ao];cases g2:(((p.chain[p.chain.length - 1]'(by omega)).store[i]'hil).tag.place==p.me) with
   | false=>rw[Ax,hno,g1,g2];exact stay
   | true =>
   rw[Ao];cases g3:Cq lg ((p.chain[p.chain.length - 1]'(by omega)).store[i]'hil).tag with
   | true=>rw[Ao,hno,g1,g2,g3];exact stay
   | false =>
   rw[Ax,hno,g1,g2,g3];obtain ⟨a3',c3',h3,F3,e3,r3,m3⟩:=Em (lo:=lo) (v:=((p.chain[p.chain.length - 1]'(by omega)).store[i]'hil)) hp' (zc8 hl hm.le) (hvn _ (zc7 hil));obtain ⟨a5,c5,h5,F5,e5,r5,m5⟩:=Dv (lo:=lo) (bytes:=72) (e:=43) rver_ok hr (row:=((p.chain[p.chain.length - 1]'(by omega)).store[i]'hil).cs a3' c3') (x:=((p.chain[p.chain.length - 1]'(by omega)).store[i]'hil)) (G:=F3) (h1:=h3 ++ [.rows 6 43 false [((p.chain[p.chain.length - 1]'(by omega)).store[i]'hil).cs a3' c3']])
    ⟨_,rfl,Mv.snoc.keep0 rtags_ok r3⟩ (m3.trans (Mv.snoc' m3.nd)) hm.nd (λy hy=>hm.ge hl hlo y hy) (zc8 hl hm.le) (by decide) (by omega)
   rw[e3];simp only[Ac,AR,Aa,Ab,Ag,BG,AL,Ah,A7];rw[e5];simp only[Ag];have:=ih (i+1) (by omega) h5 a5 c5 (lg ++ [((p.chain[p.chain.length - 1]'(by omega)).store[i]'hil)]) F5 (by rw[zdt];exact r5) (hm.trans m5) (by simp;omega);rw[zdt] at this;exact this
 obtain ⟨a',c',h',F',el,r,m⟩:=one 4 0 (by omega) h a2 c2 p.log F2 hs2 (Mv.refl hnd) (by omega);refine ⟨a',c',h',F',SZ ?_,?_,m⟩
 ·rw[Cm ⟨by rw[wr (by omega) (by omega)];omega,by rw[wr (by omega) (by omega)];omega⟩,wr (by omega) (by omega),show ((p.chain.length:Int) - 1).toNat=p.chain.length - 1 by omega];simp only[ha,Ad,ho1,Aa,e1,Ah];rw[<- ha];refine el.trans ?_;have:=two h' F' a' (((p.chain[p.chain.length - 1]'(by omega)).store.drop 0).foldl (noted p.me) p.log).length c' m p.chain.length 0 true (by omega);refine this.trans ?_;simp only[BW,Place.cs,E9 h0,zdX,zdk,Zo]
 ·simp only[BW,E9 h0];rw[zdX] at r;exact r
end


variable {l:List Node}
theorem Mv.store {h h':Heap}{F F':List Nat}{b:Nat} (m:Mv h F h' F') (hb:b<h.length) (hbF:b∉F) (X:Blk) :
  Mv h (b :: F) (h'.set b X) (b :: F')/\(h'.set b X)[b]?=some X/\(∀ y,y≠b->(h'.set b X)[y]?=h'[y]?)/\b∉F':=by
 have hbF':b∉F':=λhm=>by
  rcases m.sub b hm with g | g
  ·exact hbF g
  ·omega
 have hb':b<h'.length:=zdj hb m.le;refine ⟨⟨by simpa using m.le,λy hy hF=>?_,by rw[zdg];exact ⟨hbF',m.nd⟩,λy hy=>?_⟩,by simp[hb'],λy hy=>zdd (Ne.symm hy),hbF'⟩
 ·rw[zdf,not_or] at hF;rw[zdd (Ne.symm hF.1)];exact m.fr y hy hF.2
 ·rw[zdf] at hy;rcases hy with rfl | hy
  ·exact .inl (by simp)
  ·refine (m.sub y hy).imp (λg=>by simp[g]) λg=>by simpa using g
section
variable {lo:Nat}{ro:Bool}{h:Heap}{F F':List Nat}{a a':Pq}{c c':Nq}
theorem OR {g:Nat}{cl:List V}{p:Node->Bool} (hs:RNodes ro h [.sl 2 a l.length c] l F) (hn:l.length<=1048576)
  (hp:∀ lo x a1 c1 a2 c2,x∈l->Af lo g (CQ [.agg [.sl 6 a1 x.store.length c1,.sl 6 a2 x.wait.length c2]] cl) h=some (.bool (p x),h)) :
  Af lo 206 [.sl 2 a l.length c,.fn g cl] h=some (.bool (l.any p),h):=by
 have loop:∀ m k x,m+k=l.length->AI (List.length h) a l.length c g cl x (l.length:Nat) (k:Nat) h=some (Iv (Bz p (l.drop k) k),h):=by
  intro m;induction m with
  | zero =>intro k x hk;rw[AI.e,Ak (by omega),show k=l.length by omega];simp[Bz]
  | succ m ih =>
   intro k x hk;have hlt:k<l.length:=by omega
   obtain ⟨o,s1,s2,b1,d1,b2,d2,G1,G2,rfl,ho,_,_,e1,e2,_⟩:=hs.get hlt;rw[AI.e,Al (by omega),Ae (by omega)];simp only[Ad,Bd,ho,Aa,e1,e2,Ah];rw[hp (List.length h) l[k] b1 d1 b2 d2 (zc7 hlt),Ac,At,zdn hlt];simp only[Bz];cases p l[k]
   ·simp only[Ax,cond_false];rw[Ar (by omega)];exact ih (k+1) _ (by omega)
   ·simp
 exact EM (h':=h) (by rw[Fh (loop l.length 0 0 (by omega))];simp only[Ac,Ab,KZ];rw[Fa];simp)
theorem zaw:(l.any λx=>decide (x.wait.length>0)) = !Zo l:=by
 unfold Zo;induction l with
 | nil=>rfl
 | cons x l ih =>rw[List.any_cons,List.all_cons,ih,Bool.not_and];congr 1;rw[zed,zdR,decide_eq_true_eq,decide_eq_false_iff_not];omega
end


variable {v:Ver}{l:List Ver}{x:Node}{p:Place}{nw:Nat}
def thin (v:Ver):Prop:=v.past.length<=4/\v.text.size<=8/\B8 v.tag.time v.tag.place=true
def GR (nw:Nat) (x:Node):Prop:=x.store.length=4/\x.wait.length<=nw/\(∀ v∈x.store,thin v)/\∀ v∈x.wait,thin v
structure Tidy (nc nw nl:Nat) (p:Place):Prop where
 len:p.chain.length<=nc
 node:∀ x∈p.chain,GR nw x
 log:p.log.length<=nl/\∀ v∈p.log,thin v
 got:p.got.length<=3/\∀ l∈p.got,l.length<=nl/\∀ v∈l,thin v
theorem L2 (h:Cl v=true):thin v:=by obtain ⟨_,h2,_,h3,h4,_⟩:=AZ h;have:=Gw h2;have:=CS h3;exact ⟨by omega,by omega,h4⟩
theorem YR (h:IZ v=true):thin v:=by rw[Ny h];exact ⟨by simp,by show 0<=8;omega,rfl⟩
theorem X7 {i:Nat} (h:JM i v=true):thin v:=(Cp h).elim YR λh=>L2 h.1
theorem Fo {m:Int} (h:GD m l=true):l.length<=60/\∀ i (hi:i<l.length),Cl l[i]=true/\l[i].tag.place=m/\Cq (l.take i) l[i].tag=false:=by unfold GD at h;rw[CP,D6,decide_eq_true_eq] at h;refine ⟨by omega,λi hi=>?_⟩;have:=h.1 i hi;simp only[TO,CP,beq_iff_eq,zdR] at this;exact ⟨this.1.1,this.1.2,this.2⟩
theorem VY {m:Int} (h:GD m l=true):l.length<=60/\∀ v∈l,thin v:=by obtain ⟨h1,h2⟩:=Fo h;refine ⟨h1,λv hv=>?_⟩;obtain ⟨i,hi,rfl⟩:=zdL.1 hv;exact L2 (h2 i hi).1
theorem TL (h:DO x=true):GR 6 x:=by obtain ⟨h1,h2,h3⟩:=AW h;refine ⟨Bi h1,h2,λv hv=>?_,λv hv=>L2 (h3 v hv)⟩;obtain ⟨i,hi,rfl⟩:=zdL.1 hv;exact X7 (Db h1 hi)
theorem AO (h:Ay p=true):(0<=p.me/\p.me<=2)/\(0<=p.clock/\p.clock<=999)/\p.got.length=3/\EB p.chain=true/\Hb p.chain=true/\GD p.me p.log=true /\
  (∀ i (hi:i<p.got.length),LJ p.me i p.got[i]=true)/\FA p.chain p.clock=true:=by
 unfold Ay at h;simp only[CP,D6,decide_eq_true_eq,Ai] at h;obtain ⟨⟨⟨⟨⟨⟨⟨h1,h2⟩,h3⟩,h4⟩,h5⟩,h6⟩,h7⟩,h8⟩:=h;exact ⟨h1,h2,h3,h4,h5,h6,h7,h8⟩
theorem QQ (h:Ay p=true) {i:Nat} (hi:i<p.got.length):GD i p.got[i]=true:=by have:=(AO h).2.2.2.2.2.2.1 i hi;unfold LJ at this;rw[CP] at this;exact this.1
theorem By (h:Ay p=true):Tidy 4 6 60 p:=by obtain ⟨_,_,h3,h4,_,h6,h7,_⟩:=AO h;obtain ⟨g1,g2⟩:=CM h4;refine ⟨g1.2,λx hx=>TL (g2 x hx),VY h6,by omega,λl hl=>?_⟩;obtain ⟨i,hi,rfl⟩:=zdL.1 hl;exact VY (QQ h hi)
theorem QO {α:Type}{w:α->Nat}{c:Nat}:∀ {l:List α},(∀ v∈l,w v<=c)->zaj w l<=c*l.length
 | [],_=>by simp[zaj]
 | x :: l,h=>by have h1:=QO (w:=w) (l:=l) λv hv=>h v (by simp[hv]);have h2:=h x (by simp);simp only[zaj,List.map_cons,List.sum_cons,zea,Nat.mul_add,Nat.mul_one] at h1 ⊢;omega
theorem zcj (h:thin v):zch v<=13:=by have:=h.1;unfold zch;rw[Yc];omega
theorem QL (hl:l.length<=1048576) (h:∀ v∈l,thin v):DA l:=⟨hl,λv hv=>by have:=h v hv;exact ⟨by have:=this.1;omega,by have:=this.2.1;omega⟩⟩
theorem QK (h:∀ v∈l,thin v):Vv l<=13*l.length:=QO λv hv=>zcj (h v hv)
theorem zbx (h:GR nw x) (hw:nw<=100):DA x.store/\DA x.wait:=by obtain ⟨h1,h2,h3,h4⟩:=h;exact ⟨QL (by omega) h3,QL (by omega) h4⟩
theorem zcm (h:GR nw x) (hw:nw<=100):ZR x<=1352:=by obtain ⟨h1,h2,h3,h4⟩:=h;have:=QK h3;have:=QK h4;unfold ZR;omega
theorem Lo {nc nl:Nat} (h:Tidy nc nw nl p) (h1:nc<=100) (h2:nw<=100):C7 p.chain:=⟨by have:=h.len;omega,λx hx=>zbx (h.node x hx) h2⟩
theorem Ea {nc nl:Nat} (h:Tidy nc nw nl p) (h1:nc<=100) (h2:nw<=100) (h3:nl<=1000):Ii p/\(1:Int)+ZP p<=zc4:=by
 have g1:=h.len;have g2:=h.log.1;have g3:=h.got.1;refine ⟨⟨Lo h h1 h2,QL (by omega) h.log.2,by omega,λl hl=>QL (by have:=(h.got.2 l hl).1;omega) (h.got.2 l hl).2⟩,?_⟩;have e1:ZQ p.chain<=1352*p.chain.length:=QO λx hx=>zcm (h.node x hx) h2;have e2:=QK h.log.2;have e3:zcG p.got<=13000*p.got.length:=QO λl hl=>by have:=QK (h.got.2 l hl).2;have:=(h.got.2 l hl).1;omega
 simp only[ZP,zc4];omega
theorem NC {nc nl k:Nat}{t:Int} (h:Tidy nc nw nl p) (hv:thin v):Tidy nc (nw+1) nl ⟨p.me,t,He p.chain k v,p.log,p.got,p.fell⟩:=by
 have hx:∀ x,x∈p.chain->GR (nw+1) x:=λx hx=>by obtain ⟨g1,g2,g3⟩:=h.node x hx;exact ⟨g1,by omega,g3⟩
 have key:(He p.chain k v).length<=nc/\∀ x∈He p.chain k v,GR (nw+1) x:=by
  unfold He;split
  ·rename_i x hk
   split
   ·rename_i u hu
    cases A0 u v with
    | false=>exact ⟨h.len,hx⟩
    | true =>
     rw[cond_true];refine ⟨by simpa using h.len,λy hy=>?_⟩;rcases zdB hy with hy | rfl
     ·exact hx y hy
     ·obtain ⟨g1,g2,g3,g4⟩:=h.node x (zdp hk);refine ⟨by simpa using g1,?_,λw hw=>?_,?_⟩
      ·cases decide (k+1<p.chain.length)
       ·show x.wait.length<=nw+1;omega
       ·show (x.wait ++ [v]).length<=nw+1;simp;omega
      ·rcases zdB hw with hw | rfl
       ·exact g3 w hw
       ·exact hv
      ·cases decide (k+1<p.chain.length)
       ·exact g4
       ·intro w hw;rcases zc9.1 hw with hw | hw
        ·exact g4 w hw
        ·rw[zdv] at hw;subst hw;exact hv
   ·exact ⟨h.len,hx⟩
  ·exact ⟨h.len,hx⟩
 exact ⟨key.1,key.2,h.log,h.got⟩
theorem MS {l:List Node} (h0:0<l.length):∃ x∈l,Ew l=x.store:=⟨_,zc7 (show l.length - 1<l.length by omega),E9 h0⟩


variable {l:List Node}{p:Place}{v:Ver}
def I6 (s:List Ver) (v:Ver):Bool:=match s[v.key.toNat]? with
 | some u=>A0 u v
 | none=>false
def Ez (l:List Node):List Ver:=match l[0]? with
 | some x=>x.store
 | none => []
def DC (l:List Node) (k:Nat):Bool:=match l[k]? with
 | some x=>decide (x.wait.length<6)
 | none=>false
def Lf (p:Place) (f:Nat):List Ver:=match p.got[f]? with
 | some l=>l
 | none => []
def KS (p:Place) (f:Nat):Option Ver:=(Lf p f).find? (I6 (Ez p.chain))
def Fp (p:Place) (k:Nat) (t:Int) (v:Ver):Place:=⟨p.me,t,He p.chain k v,p.log,p.got,p.fell⟩
theorem HN (h0:0<l.length):Ez l=l[0].store:=by unfold Ez;rw[Dj h0]
theorem Jq {k:Nat} (hk:k<l.length):DC l k=decide (l[k].wait.length<6):=by unfold DC;rw[Dj hk]
theorem HO {f:Nat} (hf:f<p.got.length):Lf p f=p.got[f]:=by unfold Lf;rw[Dj hf]
theorem P7 {s:List Ver} (h:v.key.toNat<s.length):I6 s v=A0 s[v.key.toNat] v:=by unfold I6;rw[Dj h]
theorem Od {α:Type}{p:α->Bool}:∀ {l:List α}{k:Nat},(∃ i,∃ hi:i<l.length,Bz p l k=((k+i:Nat):Int)/\l.find? p=some l[i])\/(Bz p l k = -1/\l.find? p=none)
 | [],k => .inr ⟨rfl,rfl⟩
 | x :: l,k=>by
  simp only[Bz,List.find?_cons];cases hp:p x with
  | true=>exact .inl ⟨0,by simp,by simp,by simp⟩
  | false =>
   rw[cond_false];rcases Od (p:=p) (l:=l) (k:=k+1) with ⟨i,hi,h1,h2⟩ | h
   ·exact .inl ⟨i+1,by simpa using hi,by rw[h1];congr 1;omega,by simpa using h2⟩
   ·exact .inr h
theorem Fe {k:Nat}:(He l k v).length=l.length:=by
 unfold He;split
 ·split
  ·cases A0 _ v<;>simp
  ·rfl
 ·rfl
section
variable {lo:Nat}{ro:Bool}{h:Heap}{F F':List Nat}{a a':Pq}{c c':Nq}
theorem PU (hs:RNodes ro h [.sl 2 a l.length c] l F) (h0:0<l.length):Af lo 125 [.agg [.sl 2 a l.length c]] h=some (.bool (DC l 0),h):=by
 refine S2 (h':=h) ?_;obtain ⟨o,s1,s2,b1,d1,b2,d2,G1,G2,ha,_,_,ho2,_,e2,_⟩:=hs.get h0;rw[Jq h0,show (0:Int)=((0:Nat):Int) from rfl,Ae h0];simp only[ha,Ad,Bd,ho2,Aa,e2,Ah];by_cases hw:l[0].wait.length<6
 ·rw[Al (by omega),decide_eq_true hw]
 ·rw[Ak (by omega),decide_eq_false hw]
theorem Pe {b i j k:Nat} (hld:ld h b i j 1=some [.sl 2 a l.length c]) (hs:RNodes ro h [.sl 2 a l.length c] l F) (hk:k<l.length):Af lo 117 [.ptr (some (b,(i,j))),Iv (k:Nat)] h=some (.bool (!DC l k),h):=by
 refine ON (h':=h) ?_;obtain ⟨o,s1,s2,b1,d1,b2,d2,G1,G2,ha,_,_,ho2,_,e2,_⟩:=hs.get hk;rw[zdP,hld];simp only[Ad,Aa,Ah,Ag];rw[Jq hk,Ae hk];simp only[ha,Ad,Bd,ho2,Aa,e2,Ah];by_cases hw:l[k].wait.length<6
 ·rw[Ak (by omega),decide_eq_true hw];rfl
 ·rw[Al (by omega),decide_eq_false hw];rfl
theorem NG {f:Nat}{a1 a2 a3:Pq}{c1 c2 c3:Nq}{F1 F3:List Nat} (hs1:RNodes ro h [.sl 2 a1 p.chain.length c1] p.chain F1) (hs3:RVss ro h [.sl 1 a3 p.got.length c3] p.got F3)
  (h0:0<p.chain.length) (hf:f<p.got.length) (hk:∀ v∈p.got[f],0<=v.key/\v.key<(Ez p.chain).length) (hn:p.got[f].length<=1048576) :
  Af lo 292 [.agg (p.cs a1 c1 a2 c2 a3 c3),Iv (f:Nat)] h=some (Iv (Bz (I6 (Ez p.chain)) p.got[f] 0),h):=by
 refine Sf (h':=h) ?_;obtain ⟨o,s1,s2,b1,d1,b2,d2,G1,G2,ha,_,ho1,_,e1,_,q1,_⟩:=hs1.get h0;obtain ⟨o3,s3,b3,d3,G3,ha3,ho3,e3,q3,_⟩:=hs3.get hf;rw[HN h0] at *
 rw[show (0:Int)=((0:Nat):Int) from rfl,Ae h0];simp only[ha,Ad,Bd,ho1,Aa,e1,Ah];have loop:∀ m i,m+i=p.got[f].length->CU (List.length h) (f:Nat) ((0:Nat):Int) (i:Nat) p.me p.clock a1 p.chain.length c1 a2 p.log.length c2 a3 p.got.length c3 p.fell b1 p.chain[0].store.length d1 h=some (Iv (Bz (I6 p.chain[0].store) (p.got[f].drop i) i),h):=by
  intro m;induction m with
  | zero =>intro i hi;rw[CU.e,Ae hf];simp only[ha3,Ad,Bd,ho3,Aa,e3,Ah];rw[Ak (by omega),zdV (by omega)];rfl
  | succ m ih =>
   intro i hi;have hil:i<p.got[f].length:=by omega
   have hky:=hk _ (zc7 hil);have hkl:p.got[f][i].key.toNat<p.chain[0].store.length:=by omega
   obtain ⟨o4,s4,b4,d4,G4,ha4,ho4,e4,q4,_⟩:=q3.get hil;obtain ⟨o5,s5,b5,d5,G5,ha5,_,_,_,_,_,_,ho512,_⟩:=RVers.all q1 hkl;rw[CU.e,Ae hf];simp only[ha3,Ad,Bd,ho3,Aa,e3,Ah];rw[Al (by omega),Ae hf,Ae hil];simp only[ha4,Ad,Bd,ho4,Aa,Ab,e4,BG,AL,Ah];rw[Cm ⟨by omega,by omega⟩];simp only[ha5,Ad,ho512,Aa,Ab,Ah,Ci,Ac,At];rw[<- ha3,<- ha5,Ar (show i<9223372036854775807 by omega),ih (i+1) (by omega),zdn hil];simp only[Bz];rw[P7 hkl];unfold A0;cases FM _ _ _ _<;>rfl
 have:=loop _ 0 rfl;rw[zdX] at this;rw[<- ha];exact this
theorem NH {k:Nat}{t:Int}{a1 a2 a3 av:Pq}{c1 c2 c3 cv:Nq}{F1 F2 G:List Nat} (hs1:RNodes false h [.sl 2 a1 p.chain.length c1] p.chain F1) (hs2:RVers false h [.sl 6 a2 p.log.length c2] p.log F2)
  (hv:RTags false h [.sl 2 av v.past.length cv] v.past G) (hvd:∀ b∈G,b∉F1) (hnd:(F1++F2).Nodup) (hlo:∀ b∈F1++F2,lo<=b) (hl:lo<=h.length) (hk:k<p.chain.length) (hkey:0<=v.key/\v.key<=3)
  (ht:Tidy 10 20 100 p) (hvt:thin v) :
  ∃ h2 a2' c2' h3 F1' F2',Af lo 129 [.agg [.sl 2 a1 p.chain.length c1],Iv k,.agg (v.cs av cv)] h=some (.agg [.sl 2 a1 p.chain.length c1],h2) /\
   Af lo 130 [.agg ((Fp p k t v).cs a1 c1 a2 c2 a3 c3)] h2=some (.agg ((BW (Fp p k t v)).cs a1 c1 a2' c2' a3 c3),h3) /\
   RNodes false h3 [.sl 2 a1 (BW (Fp p k t v)).chain.length c1] (BW (Fp p k t v)).chain F1'/\RVers false h3 [.sl 6 a2' (BW (Fp p k t v)).log.length c2'] (BW (Fp p k t v)).log F2'/\Mv h (F1++F2) h3 (F1'++F2'):=by
 have ta:=NC (k:=k) (t:=t) ht hvt;have hn:=Lo ht (by decide) (by decide);have hsto:=(ht.node _ (zc7 hk)).1;have hnd':=hnd;rw[zda] at hnd';obtain ⟨h2,F1',e2,r2,m2⟩:=Re (lo:=lo) hs1 hv hvd hnd'.1 (λb hb=>hlo b (by simp[hb])) hl hk ⟨hkey.1,by omega⟩ hn (by have:=hvt.1;omega);rw[<- Fe (k:=k) (v:=v)] at r2;have b2:∀ y∈F2,y<h.length:=rvers_ok.bd _ _ _ _ hs2;have m3:=m2.aside (G:=F2) hnd b2;have hs2':=m2.keep rvers_ok hs2 λy hy hm=>hnd'.2.2 y hm y hy rfl;have nd3:=m3.nd;rw[zda] at nd3;have h0:0<(Fp p k t v).chain.length:=by show 0<(He p.chain k v).length;rw[Fe];omega
 obtain ⟨x,hx,hxe⟩:=MS h0;have hxn:=ta.node x hx;have hl2:=m2.le;obtain ⟨a2',c2',h3,F2',e3,r3,m4⟩:=PS (lo:=lo) (p:=Fp p k t v) (a3:=a3) (c3:=c3) r2 hs2' h0 (by rw[hxe];exact hxn.1) (λy hy hy2=>nd3.2.2 y hy y hy2 rfl) hnd'.2.1 (λb hb=>hlo b (by simp[hb])) (by omega) (zc8 ta.len (by decide)) (zc8 ta.log.1 (by decide))
  (λw hw=>by rw[hxe] at hw;have:=(hxn.2.2.1 w hw).1;omega)
 have r2':=m4.keep rnodes_ok r2 λy hy hy2=>nd3.2.2 y hy y hy2 rfl;have b1:∀ y∈F1',y<h2.length:=rnodes_ok.bd _ _ _ _ r2;have m5:=(m4.aside (G:=F1') (by rw[zda];exact ⟨nd3.2.1,nd3.1,λx hx y hy e=>nd3.2.2 y hy x hx e.symm⟩) b1).swap;exact ⟨h2,a2',c2',h3,F1',F2',e2,e3,r2',r3,m3.trans m5⟩
end


def ED (p:Place) (t:Int):Place:=⟨p.me,t,p.chain,p.log,p.got,p.fell⟩
def FL (t c:Int):Int:=if t>c then t else c
theorem Vw {h h1 h2:Heap}{b:Nat}{G1 G1' G2 G2' G3:List Nat} (m1:Mv h G1 h1 G1') (m2:Mv h1 (b :: G2) h2 (b :: G2')) (hnd:(b ::(G1++(G2++G3))).Nodup) (hb:∀ y∈b ::(G1++(G2++G3)),y<h.length) :
  Mv h (b ::(G1++(G2++G3))) h2 (b ::(G1'++(G2'++G3)))/\(∀ y∈G1',y∉b :: G2)/\(∀ y∈G3,y∉G1)/\∀ y∈G3,y∉b :: G2:=by
 rw[zdg,zda,zc9,zc9,zda] at hnd;obtain ⟨n1,n2,⟨n3,n4,n5⟩,n6⟩:=hnd;simp only[not_or] at n1;have hbb:=hb b (by simp);have hb1:∀ y∈G1,y<h.length:=λy hy=>hb y (by simp[hy]);have hb2:∀ y∈G2,y<h.length:=λy hy=>hb y (by simp[hy]);have hb3:∀ y∈G3,y<h.length:=λy hy=>hb y (by simp[hy]);have l1:=m1.le;have l2:=m2.le;have d1:∀ y∈G1',y∉b :: G2:=λy hy hm=>by
  rcases m1.sub y hy with g | g
  ·rcases zdf.1 hm with rfl | hm
   ·exact n1.1 g
   ·exact n6 y g y (by simp[hm]) rfl
  ·rcases zdf.1 hm with rfl | hm
   ·omega
   ·have:=hb2 y hm;omega
 have d2:∀ y∈G3,y∉G1:=λy hy hm=>n6 y hm y (by simp[hy]) rfl;have d3:∀ y∈G3,y∉b :: G2:=λy hy hm=>by
  rcases zdf.1 hm with rfl | hm
  ·exact n1.2.2 hy
  ·exact n5 y hm y hy rfl
 have nd2:=m2.nd;rw[zdg] at nd2;have s1:∀ y∈G1',y<h1.length:=m1.lt hb1;refine ⟨⟨by omega,λy hy hF=>?_,?_,λy hy=>?_⟩,d1,d2,d3⟩
 ·simp only[zdf,zc9,not_or] at hF;rw[m2.fr y (by omega) (by simp only[zdf,not_or];exact ⟨hF.1,hF.2.2.1⟩),m1.fr y hy hF.2.1]
 ·rw[zdg,zda,zc9,zc9,zda];refine ⟨?_,m1.nd,⟨nd2.2,n4,λx hx y hy e=>?_⟩,λx hx y hy e=>?_⟩
  ·simp only[not_or];exact ⟨λg=>d1 b g (by simp),nd2.1,n1.2.2⟩
  ·subst e;rcases m2.sub x (by simp[hx]) with g | g
   ·exact d3 x hy g
   ·have:=hb3 x hy;omega
  ·subst e;rcases zc9.1 hy with hy | hy
   ·rcases m2.sub x (by simp[hy]) with g | g
    ·exact d1 x hx g
    ·have:=s1 x hx;omega
   ·rcases m1.sub x hx with g | g
    ·exact d2 x hy g
    ·have:=hb3 x hy;omega
 ·simp only[zdf,zc9] at hy ⊢;rcases hy with hy | hy | hy | hy
  ·exact .inl (.inl hy)
  ·rcases m1.sub y hy with g | g
   ·exact .inl (.inr (.inl g))
   ·exact .inr ⟨g.1,by omega⟩
  ·rcases m2.sub y (by simp[hy]) with g | g
   ·rcases zdf.1 g with g | g
    ·exact .inl (.inl g)
    ·exact .inl (.inr (.inr (.inl g)))
   ·exact .inr ⟨by omega,g.2⟩
  ·exact .inl (.inr (.inr (.inr hy)))
section
variable {lo:Nat}{ro:Bool}{h:Heap}{F F':List Nat}{a a':Pq}{c c':Nq}
theorem Fl {h1 h2:Heap}{b:Nat}{q:Place}{a1 a2 a3:Pq}{c1 c2 c3:Nq}{G1 G1' G2 G2' G3:List Nat} (m1:Mv h G1 h1 G1') (m2:Mv h1 (b :: G2) h2 (b :: G2')) (hnd:(b ::(G1++(G2++G3))).Nodup) (hb:∀ y∈b ::(G1++(G2++G3)),y<h.length)
  (r1:RNodes false h1 [.sl 2 a1 q.chain.length c1] q.chain G1') (r2:RVers false h2 [.sl 6 a2 q.log.length c2] q.log G2') (r3:RVss false h [.sl 1 a3 q.got.length c3] q.got G3) :
  Cy false h2 (q.cs a1 c1 a2 c2 a3 c3) q (G1'++(G2'++G3))/\Mv h (b ::(G1++(G2++G3))) h2 (b ::(G1'++(G2'++G3))):=by
 obtain ⟨m,d1,d2,d3⟩:=Vw m1 m2 hnd hb;exact ⟨⟨_,_,_,_,_,_,rfl,_,_,_,G1',G2',G3,rfl,rfl,m2.keep rnodes_ok r1 d1,r2,m2.keep rvss_ok (m1.keep rvss_ok r3 d2) d3⟩,m⟩
theorem V9 {b i j R e:Nat}{rs:List (List V)}{row:List V}{l:List Node}{v:Ver}{av:Pq}{cv:Nq}{G:List Nat} (hb:h[b]?=some (.rows R e false rs)) (hrow:rs[i]?=some row) (hcell:row[j]?=some (.sl 2 a l.length c)) (hs:RNodes false h [.sl 2 a l.length c] l F) (hbF:b∉F)
  (hv:RTags false h [.sl 2 av v.past.length cv] v.past G) (hd:∀ b∈G,b∉F) (hnd:F.Nodup) (hlo:∀ b∈F,lo<=b) (hl:lo<=h.length) (h0:0<l.length)
  (hkey:0<=v.key/\v.key<l[0].store.length) (hn:C7 l) (hvn:v.past.length<=1048576) :
  ∃ h' F',Af lo 119 [.ptr (some (b,(i,j))),.agg (v.cs av cv)] h=some (.bool (DC l 0),h')/\RNodes false h' [.sl 2 a l.length c] (bif DC l 0 then He l 0 v else l) F'/\Mv h F h' F':=by
 have hld:ld h b i j 1=some [.sl 2 a l.length c]:=by rw[BA hb hrow];exact I9 hcell
 suffices hq:∃ h' F',_=some (V.bool (DC l 0),h')/\RNodes false h' [.sl 2 a l.length c] (bif DC l 0 then He l 0 v else l) F'/\Mv h F h' F' from hq.imp λh' hq=>hq.imp λF' hq=>⟨PJ hq.1,hq.2⟩
 rw[show (0:Int)=((0:Nat):Int) from rfl,Pe hld hs h0];simp only[Ac,At];cases hr:DC l 0 with
 | false=>exact ⟨h,F,rfl,hs,Mv.refl hnd⟩
 | true =>rw[zdT,Ax];obtain ⟨h',F',e1,r1,m1⟩:=RI (lo:=lo) hb hrow hcell hs hbF hv hd hnd hlo hl h0 hkey hn hvn;have e1':Af lo 204 [.ptr (some (b,(i,j))),Iv ((0:Nat):Int),.agg (v.cs av cv)] h=some (.tup [],h'):=e1;refine ⟨h',F',?_,r1,m1⟩;show Aj (Af lo 204 [.ptr (some (b,(i,j))),Iv ((0:Nat):Int),.agg (v.cs av cv)] h) _=_;rw[e1'];simp only[Ac,HA,Ah]
end


variable {p:Place}
def Kk (p:Place) (f:Nat):Bool:=match KS p f with
 | some v=>DC p.chain 0&&BP v.past (A3 p.chain)
 | none=>false
def Cn (p:Place) (f:Int):Bool:=Ai f 0 2&&Kk p f.toNat
def Mx (p:Place) (f:Nat):Place:=match KS p f with
 | some v=>BW (Fp p 0 (FL v.tag.time p.clock) v)
 | none=>p
def Dy (p:Place) (f:Int):Place:=bif Cn p f then Mx p f.toNat else p
theorem Mb (h:Ay p=true) {f:Nat} (hf:f<p.got.length) {v:Ver} (hv:v∈p.got[f]):Cl v=true:=by obtain ⟨_,h2⟩:=Fo (QQ h hf);obtain ⟨i,hi,rfl⟩:=zdL.1 hv;exact (h2 i hi).1
theorem N7 (h:Ay p=true):(Ez p.chain).length=4:=by have h0:=Dk h;rw[HN h0];exact Bi (AW ((CM (AO h).2.2.2.1).2 _ (zc7 h0))).1
theorem MT {f:Nat} (hf:f<p.got.length):(∃ i,∃ hi:i<p.got[f].length,Bz (I6 (Ez p.chain)) p.got[f] 0=(i:Int)/\KS p f=some p.got[f][i])\/(Bz (I6 (Ez p.chain)) p.got[f] 0 = -1/\KS p f=none):=by
 unfold KS;rw[HO hf];rcases Od (p:=I6 (Ez p.chain)) (l:=p.got[f]) (k:=0) with ⟨i,hi,h1,h2⟩ | h
 ·exact .inl ⟨i,hi,by rw[h1,zdy],h2⟩
 ·exact .inr h
theorem zaf {t c:Int} (h:decide (t>c)=true):FL t c=t:=by unfold FL;rw[if_pos (of_decide_eq_true h)]
theorem zah {t c:Int} (h:decide (t>c)=false):FL t c=c:=by unfold FL;rw[if_neg (of_decide_eq_false h)]
section
variable {lo:Nat}{h:Heap}{F F':List Nat}{a a':Pq}{c c':Nq}
theorem Rb {f:Nat}{a1 a2 a3:Pq}{c1 c2 c3:Nq}{F1 F3:List Nat} (hs1:RNodes false h [.sl 2 a1 p.chain.length c1] p.chain F1) (hs3:RVss false h [.sl 1 a3 p.got.length c3] p.got F3)
  (hok:Ay p=true) (hf:f<p.got.length) (hn:Ii p):Af lo 258 [.agg (p.cs a1 c1 a2 c2 a3 c3),Iv (f:Nat)] h=some (.bool (Kk p f),h):=by
 have h0:=Dk hok;have hchain:=(AO hok).2.2.2.1;have hhl:=N7 hok;have hky:∀ v∈p.got[f],0<=v.key/\v.key<(Ez p.chain).length:=λv hv=>by have:=(AZ (Mb hok hf hv)).1;omega
 have hgn:p.got[f].length<=1048576:=(hn.2.2.2 _ (zc7 hf)).1;suffices hq:∃ h',_=some (V.bool (Kk p f),h') from by obtain ⟨h',e⟩:=hq;exact Px e
 rw[NG hs1 hs3 h0 hf hky hgn];simp only[Ac,Ab];unfold Kk;rcases MT hf with ⟨i,hi,e1,e2⟩ | ⟨e1,e2⟩
 ·rw[e1,e2,Al (by omega),PU hs1 h0];simp only[Ac,At];cases hr:DC p.chain 0 with
  | false=>exact ⟨h,rfl⟩
  | true =>
   obtain ⟨o3,s3,b3,d3,G3,ha3,ho3,e3,q3,_⟩:=hs3.get hf;obtain ⟨o4,s4,b4,d4,G4,ha4,_,_,_,ho43,_,_,_,_,e4,q4,_⟩:=q3.all hi;obtain ⟨v5,h5,F5,e5,r5,m5⟩:=Mz (lo:=h.length) hs1 (zdb _) hn.1 h0;obtain ⟨a6,c6,e6,r6⟩:=r5.form;rw[Ao,Ae hf];simp only[ha3,Ad,Bd,ho3,Aa,e3,Ah];rw[Ae hi];simp only[ha4,Ad,Bd,ho43,Aa,e4,Ah];rw[e5];simp only[Ac,AR,Aa,e6,Ah];rw[Kc (m5.keep0 rtags_ok q4) r6 (CS (AZ (Mb hok hf (zc7 hi))).2.2.2.1) (MN hchain)];simp only[Ac,At];cases BP p.got[f][i].past (A3 p.chain)
   ·exact ⟨h5,rfl⟩
   ·exact ⟨h5,rfl⟩
 ·rw[e1,e2,Ak (by omega)];exact ⟨h,rfl⟩
theorem VA {f:Nat}{a1 a2 a3:Pq}{c1 c2 c3:Nq}{F1 F2 F3:List Nat} (hs1:RNodes false h [.sl 2 a1 p.chain.length c1] p.chain F1) (hs2:RVers false h [.sl 6 a2 p.log.length c2] p.log F2) (hs3:RVss false h [.sl 1 a3 p.got.length c3] p.got F3)
  (hok:Ay p=true) (hf:f<p.got.length) (hn:Ii p) (ht:Kk p f=true) (hnd:(F1++(F2++F3)).Nodup) (hlo:∀ b∈F1++(F2++F3),lo<=b) (hl:lo<=h.length) :
  ∃ a2' c2' h' F',Af lo 259 [.agg (p.cs a1 c1 a2 c2 a3 c3),Iv (f:Nat)] h=some (.agg ((Mx p f).cs a1 c1 a2' c2' a3 c3),h')/\Cy false h' ((Mx p f).cs a1 c1 a2' c2' a3 c3) (Mx p f) F'/\Mv h (F1++(F2++F3)) h' F':=by
 have h0:=Dk hok;have hhl:=N7 hok;have hky:∀ v∈p.got[f],0<=v.key/\v.key<(Ez p.chain).length:=λv hv=>by have:=(AZ (Mb hok hf hv)).1;omega
 have hgn:p.got[f].length<=1048576:=(hn.2.2.2 _ (zc7 hf)).1;have hti:=By hok;have hti':Tidy 10 20 100 p:=⟨zc8 hti.len (by decide),λx hx=>by have:=hti.node x hx;exact ⟨this.1,zc8 this.2.1 (by decide),this.2.2⟩,⟨zc8 hti.log.1 (by decide),hti.log.2⟩,hti.got.1,λl hl=>⟨zc8 (hti.got.2 l hl).1 (by decide),(hti.got.2 l hl).2⟩⟩;unfold Kk at ht;unfold Mx;rcases MT hf with ⟨i,hi,e1,e2⟩ | ⟨e1,e2⟩
 ·rw[e2];simp only;have hv:=Mb hok hf (zc7 hi);obtain ⟨o3,s3,b3,d3,G3,ha3,ho3,e3,q3,hG3⟩:=hs3.get hf;obtain ⟨o4,s4,b4,d4,G4,ha4,ho4,e4,q4,hG4⟩:=q3.get hi;rw[<- zdq] at hnd hlo;have hnd':=hnd;rw[zda] at hnd';have hdis:∀ y∈F3,y∉F1++F2:=λy hy hm=>hnd'.2.2 y hm y hy rfl;obtain ⟨h2,a2',c2',h3,F1',F2',e5,e6,r1,r2,m⟩:=NH (lo:=lo) (v:=p.got[f][i]) (k:=0) (t:=FL p.got[f][i].tag.time p.clock) (a3:=a3) (c3:=c3) hs1 hs2 q4 (λy hy hm=>hdis y (hG3 y (hG4 y hy)) (by simp[hm])) hnd'.1 (λy hy=>hlo y (by rw[zc9];exact .inl hy)) hl h0 ((AZ hv).1) hti' (L2 hv);have b3':∀ y∈F3,y<h.length:=rvss_ok.bd _ _ _ _ hs3;have m':=m.aside (G:=F3) hnd b3';have hs3':=m.keep rvss_ok hs3 hdis;have hcs:∀ t,(Fp p 0 t p.got[f][i]).cs a1 c1 a2 c2 a3 c3 = [Iv p.me,Iv t,.sl 2 a1 p.chain.length c1,.sl 6 a2 p.log.length c2,.sl 1 a3 p.got.length c3,.bool p.fell]:=λt=>by simp only[Place.cs,Fp,Fe]
  rw[hcs] at e6;rw[<- zdq];refine ⟨a2',c2',h3,F1'++F2'++F3,SY ?_,⟨_,_,_,_,_,_,rfl,_,_,_,F1',F2',F3,rfl,by rw[zdq],r1,r2,hs3'⟩,m'⟩;rw[Ae hf];simp only[ha3,Ad,Bd,ho3,Aa,e3,Ah];rw[<- ha3];have:=NG (lo:=h.length) (a2:=a2) (c2:=c2) hs1 hs3 h0 hf hky hgn;simp only[Place.cs] at this;rw[this,e1];simp only[Ac,Ab];rw[Ae hi];simp only[ha4,Ad,Bd,ho4,Aa,Ab,e4,BG,AL,Ah];cases hd:decide (p.got[f][i].tag.time>p.clock)
  ·rw[zah hd] at e6 ⊢;rw[Ax];rw[show (0:Int)=((0:Nat):Int) from rfl] at *
   simp only[Ver.cs] at e5;rw[e5];simp only[Ac,AR,Aa,Ag,Ah];rw[e6];simp only[Ac,Place.cs,AR,Aa,Ab,Ag,AL,Ah]
  ·rw[zaf hd] at e6 ⊢;rw[Ao];rw[show (0:Int)=((0:Nat):Int) from rfl] at *
   simp only[Ver.cs] at e5;rw[e5];simp only[Ac,AR,Aa,Ag,Ah];rw[e6];simp only[Ac,Place.cs,AR,Aa,Ab,Ag,AL,Ah]
 ·rw[e2] at ht;cases ht
end


theorem ML {p:Place} (h:Ay p=true):Tidy 10 20 100 p:=by have hti:=By h;exact ⟨zc8 hti.len (by decide),λx hx=>by have:=hti.node x hx;exact ⟨this.1,zc8 this.2.1 (by decide),this.2.2⟩,⟨zc8 hti.log.1 (by decide),hti.log.2⟩,hti.got.1,λl hl=>⟨zc8 (hti.got.2 l hl).1 (by decide),(hti.got.2 l hl).2⟩⟩
theorem QX {k:Int} (h:Ai k 0 2=true):∃ f:Nat,k=(f:Int)/\f<3:=by simp only[Ai,CP,decide_eq_true_eq] at h;exact ⟨k.toNat,by omega,by omega⟩
section
variable {lo:Nat}{h:Heap}{F F':List Nat}{a a':Pq}{c c':Nq}
end


variable {α:Type}{l:List Node}
theorem zb7 {lo e R bytes n N b i:Nat}{row:List V}{h h2:Heap}{a':Pq}{c':Nq}{m:Nat} (hap:∀ {T:Type} (K:V->Heap->Option T),Df lo e R bytes (.sl R (some (b,i)) n (some N)) [row] h K=K (.sl R a' m c') h2) (hN:n+1<=N):a'=some (b,i)/\c'=some N:=by have h1:=hap λv _=>some v;simp only[Df] at h1;obtain ⟨_,h1⟩:=AC h1;obtain ⟨_,h1⟩:=AC h1;obtain ⟨_,h1⟩:=AC h1;rw[show Nat.ble (n + [row].length) N=true from DX hN] at h1;obtain ⟨_,_,h1⟩:=AV h1;injection h1 with h1;injection h1 with _ h2 _ h3;exact ⟨h2.symm,h3.symm⟩
theorem GI {T:Type}{El:Rel α} (ok:El.Ok) {h0:Heap}{l:List α}{lo R e bytes N:Nat}{p0:Nat×Nat}{F0:List Nat} (hlo:lo<=h0.length) (hF:∀ b∈F0,lo<=b) (hnd:F0.Nodup) (hb:0<bytes) (hsz:l.length*bytes<=140737488355328) (hN:l.length<=N)
  (L:Nat->Pq->Nat->Nq->Heap->Option T)
  (step:∀ i (hi:i<l.length) hh F,Mv h0 F0 hh F->∃ row G h2,El h2 row l[i] G/\Mv hh [] h2 G/\L i (some p0) i (some N) hh=Df lo e R bytes (.sl R (some p0) i (some N)) [row] h2 λv h=>eS R v λa n c=>L (i+1) a n c h)
  (hs:Sli false R e El h0 [.sl R (some p0) 0 (some N)] [] F0) :
  ∃ h' F',L 0 (some p0) 0 (some N) h0=L l.length (some p0) l.length (some N) h'/\Sli false R e El h' [.sl R (some p0) l.length (some N)] l F'/\Mv h0 F0 h' F':=by
 have loop:∀ m i hh F,m+i=l.length->Mv h0 F0 hh F->Sli false R e El hh [.sl R (some p0) i (some N)] (l.take i) F ->
   ∃ h' F',L i (some p0) i (some N) hh=L l.length (some p0) l.length (some N) h'/\Sli false R e El h' [.sl R (some p0) l.length (some N)] l F'/\Mv h0 F0 h' F':=by
  intro m;induction m with
  | zero =>
   intro i hh F hi hm hr;have:i=l.length:=by omega
   subst this;rw[List.take_length] at hr;exact ⟨hh,F,rfl,hr,hm⟩
  | succ m ih =>
   intro i hh F hi hm hr;have hlt:i<l.length:=by omega
   obtain ⟨row,G,h2,hy,m2,e2⟩:=step i hlt hh F hm;have hlen:(l.take i).length=i:=by rw[zdr];omega
   have hml:(i+1)*bytes<=l.length*bytes:=zdF _ hlt;obtain ⟨a5,c5,h5,F5,e5,r5,m5⟩:=Dv (lo:=lo) (bytes:=bytes) ok hr (row:=row) (x:=l[i]) (G:=G) (h1:=h2) hy m2 hm.nd (λy hy=>hm.ge hlo hF y hy) (zc8 hlo hm.le) hb (by rw[hlen];omega);obtain ⟨b0,i0⟩:=p0;obtain ⟨rfl,rfl⟩:=zb7 e5 (by omega);rw[hlen] at e5 r5;rw[List.take_append_getElem hlt] at r5;obtain ⟨h',F',e6,r6,m6⟩:=ih (i+1) h5 F5 (by omega) (hm.trans m5) r5;refine ⟨h',F',?_,r6,m6⟩;rw[e2,e5,Ag,e6]
 exact loop l.length 0 h0 F0 (by omega) (Mv.refl hnd) hs
theorem EAll.mono {α:Type}{A B:Rel α}{h:Heap} (hAB:∀ row x F,A h row x F->B h row x F):∀ {rows:List (List V)}{l:List α}{Fs:List (List Nat)},EAll A h rows l Fs->EAll B h rows l Fs
 | [],[],[],_=>trivial
 | _ :: _,_ :: _,_ :: _,⟨h1,h2⟩=>⟨hAB _ _ _ h1,EAll.mono hAB h2⟩
 | [],[],_ :: _,h=>h.elim
 | [],_ :: _,_,h=>h.elim
 | _ :: _,[],_,h=>h.elim
 | _ :: _,_ :: _,[],h=>h.elim
theorem Sli.mono {α:Type}{A B:Rel α}{h:Heap}{R e:Nat}{cs:List V}{l:List α}{F:List Nat} (hAB:∀ row x F,A h row x F->B h row x F) (hs:Sli false R e A h cs l F):Sli false R e B h cs l F:=by
 obtain ⟨R',a,c,e1,g⟩:=hs;refine ⟨R',a,c,e1,?_⟩;cases a with
 | none=>exact g
 | some p =>obtain ⟨b,i⟩:=p;obtain ⟨g0,rs,Fs,g1,g2,g3,g4,g5,g6⟩:=g;exact ⟨g0,rs,Fs,g1,g2,g3,g4,g5.mono hAB,g6⟩
def RNodeC:Rel Node:=λh row x F=>RNode false h row x F/\∃ s a n k,row = [s,.sl 6 a n (some k)]
theorem TB:RNodeC.Ok:=⟨λh h' cs x F ⟨h1,h2⟩ hb=>⟨rnode_ok.fr _ _ _ _ _ h1 hb,h2⟩,λh cs x F ⟨h1,_⟩=>rnode_ok.bd _ _ _ _ h1⟩
abbrev RNodesC:Rel (List Node):=Sli false 2 (Qc false) RNodeC
theorem rnodesC_ok:RNodesC.Ok:=Sli.ok TB
theorem RNodesC.up {h:Heap}{cs:List V}{F:List Nat} (hs:RNodesC h cs l F):RNodes false h cs l F:=Sli.mono (λ_ _ _ h=>h.1) hs
section
variable {lo:Nat}{h:Heap}{F F' G:List Nat}{a a' av:Pq}{c c' cv:Nq}
theorem Pa {l:List Ver} (hs:RVers false h [.sl 6 a l.length c] l F) (hl:lo<=h.length) (hn:DA l) :
  ∃ a' h' F',Af lo 201 [.sl 6 a l.length c] h=some (.sl 6 a' l.length (some l.length),h')/\RVers false h' [.sl 6 a' l.length (some l.length)] l F'/\Mv h [] h' F':=by
 have hn1:=hn.1;have m0:Mv h [] (h ++ [.rows 6 (Pr false) false (List.replicate l.length [Iv 0,Iv 0,Iv 0,.sl 0 none 0 (some 0),.str ⟨⟨[]⟩⟩,.bool false])]) [h.length]:=Mv.last;obtain ⟨h',F',e,r,m⟩:=GI (El:=RVer false) rver_ok (l:=l) (lo:=lo) (R:=6) (e:=Pr false) (bytes:=72) (N:=l.length) (p0:=(h.length,0)) (F0 := [h.length]) (zc8 hl m0.le) (m0.ge hl (by simp)) m0.nd (by decide) (by omega) (zdb _)
  (λi a1 n1 c1 hh=>Bf lo a1 n1 c1 a l.length c (l.length:Nat) (i:Nat) hh) (λi hi hh F1 hm=>by
   have hm':Mv h [] hh []:=(m0.trans hm).drop;obtain ⟨o,s,a2,c2,G,ho,hld,es,hp,_⟩:=(hm'.keep0 rvers_ok hs).get hi;obtain ⟨a3,c3,h3,F3,e3,r3,m3⟩:=BK (lo:=lo) (v:=l[i]) hp (zc8 hl hm'.le) (hn.2 _ (zc7 hi)).1;refine ⟨l[i].cs a3 c3,F3,h3 ++ [.rows 6 43 false [l[i].cs a3 c3]],⟨_,rfl,Mv.snoc.keep0 rtags_ok r3⟩,m3.trans (Mv.snoc' m3.nd),?_⟩;rw[Bf.e,Al (by omega),Ae hi,ho];simp only[Ad,Bd,hld,Aa,Ab,es,BG,AL,Ah];rw[e3];simp only[Ac,AR,Aa,Ab,Ag,BG,AL,Ah,A7,Ar (show i<9223372036854775807 by omega)];rfl) (Sli.fresh (by simp))
 refine ⟨some (h.length,0),h',F',J6 ?_,r,m0.trans m⟩;rw[D0 (by omega)];refine e.trans ?_;rw[Bf.e,Ak (by omega)]
theorem MZ (hs:RNodes false h [.sl 2 a l.length c] l F) (hl:lo<=h.length) (hn:C7 l) :
  ∃ a' h' F',Af lo 200 [.agg [.sl 2 a l.length c]] h=some (.agg [.sl 2 a' l.length (some l.length)],h')/\RNodesC h' [.sl 2 a' l.length (some l.length)] l F'/\Mv h [] h' F':=by
 have hn1:=hn.1;have m0:Mv h [] (h ++ [.rows 2 (Qc false) false (List.replicate l.length [.sl 0 none 0 (some 0),.sl 0 none 0 (some 0)])]) [h.length]:=Mv.last;obtain ⟨h',F',e,r,m⟩:=GI (El:=RNodeC) TB (l:=l) (lo:=lo) (R:=2) (e:=47) (bytes:=48) (N:=l.length) (p0:=(h.length,0)) (F0 := [h.length])
  (zc8 hl m0.le) (m0.ge hl (by simp)) m0.nd (by decide) (by omega) (zdb _) (λi a1 n1 c1 hh=>BV lo a l.length c (l.length:Nat) (i:Nat) 0 none 0 (some 0) a1 n1 c1 hh) (λi hi hh F1 hm=>by
   have hm':Mv h [] hh []:=(m0.trans hm).drop;obtain ⟨o,s1,s2,b1,d1,b2,d2,G1,G2,ha,ho,_,_,e1,e2,p1,p2,_⟩:=(hm'.keep0 rnodes_ok hs).get hi;have hsm:=hn.2 _ (zc7 hi);obtain ⟨a3,c3,h3,F3,e3,r3,m3⟩:=GW (lo:=lo) p1 (zc8 hl hm'.le) hsm.1;obtain ⟨a4,h4,F4,e4,r4,m4⟩:=Pa (lo:=lo) (m3.keep0 rvers_ok p2) (zc8 hl (zc8 hm'.le m3.le)) hsm.2;have m34:=m3.join m4 (rvers_ok.bd _ _ _ _ r3);refine ⟨[.sl 6 a3 l[i].store.length c3,.sl 6 a4 l[i].wait.length (some l[i].wait.length)],F3++F4,h4 ++ [.rows 2 47 false [[.sl 6 a3 l[i].store.length c3,.sl 6 a4 l[i].wait.length (some l[i].wait.length)]]],
    ⟨⟨_,_,F3,F4,rfl,rfl,Mv.snoc.keep0 rvers_ok (m4.keep0 rvers_ok r3),Mv.snoc.keep0 rvers_ok r4⟩,_,_,_,_,rfl⟩,m34.trans (Mv.snoc' m34.nd),?_⟩
   rw[BV.e,Al (by omega),Ae hi,ha];simp only[Ad,Bd,ho,Aa,e1,e2,Ah];rw[e3];simp only[Ac,AR,Aa,Ag,Ah];rw[e4];simp only[Ac,Ag,A7,Ar (show i<9223372036854775807 by omega)]) (Sli.fresh (by simp))
 refine ⟨some (h.length,0),h',F',Mw ?_,r,m0.trans m⟩;rw[D0 (by omega)];refine e.trans ?_;rw[BV.e,Ak (by omega)]
theorem MY {p:Place}{a1 a2 a3:Pq}{c1 c2 c3:Nq}{F1 F2 F3:List Nat} (hs1:RNodes false h [.sl 2 a1 p.chain.length c1] p.chain F1) (hs2:RVers false h [.sl 6 a2 p.log.length c2] p.log F2)
  (hs3:RVss false h [.sl 1 a3 p.got.length c3] p.got F3) (hl:lo<=h.length) (hn:Ii p) :
  ∃ a1' a2' c2' a3' c3' h' G1 G2 G3,Af lo 115 [.agg (p.cs a1 c1 a2 c2 a3 c3)] h=some (.agg (p.cs a1' (some p.chain.length) a2' c2' a3' c3'),h')/\RNodesC h' [.sl 2 a1' p.chain.length (some p.chain.length)] p.chain G1 /\
   RVers false h' [.sl 6 a2' p.log.length c2'] p.log G2/\RVss false h' [.sl 1 a3' p.got.length c3'] p.got G3/\Mv h [] h' (G1++(G2++G3)):=by
 have hn1:=hn.2.2.1;obtain ⟨b1,h1,G1,e1,r1,m1⟩:=MZ (lo:=h.length) hs1 (zdb _) hn.1;obtain ⟨b2,d2,h2,G2,e2,r2,m2⟩:=IH (lo:=h1.length) (m1.keep0 rvers_ok hs2) (zdb _) hn.2.1;have m12:=m1.join m2 (rnodesC_ok.bd _ _ _ _ r1);have r1':=m2.keep0 rnodesC_ok r1;have hs3':=m2.keep0 rvss_ok (m1.keep0 rvss_ok hs3);have m0:Mv h2 [] (h2 ++ [.rows 1 (zaI false) false (List.replicate p.got.length [.sl 0 none 0 (some 0)])]) [h2.length]:=Mv.last;obtain ⟨b3,d3,h',F',e,r,m⟩:=Ng (El:=RVers false) rvers_ok (h0:=h2 ++ [.rows 1 (zaI false) false (List.replicate p.got.length [.sl 0 none 0 (some 0)])]) (l:=p.got) (g:=λ_ v=>some (id v)) (lo:=lo) (R:=1) (e:=26) (bytes:=24) (b0 := []) (F0 := [h2.length]) (a0:=some (h2.length,0)) (c0:=some p.got.length)
  (zc8 hl (zc8 m12.le m0.le)) (m0.ge (zc8 hl m12.le) (by simp)) m0.nd (by decide) (by simp;omega) (λi a n c hh=>BU lo a3 p.got.length c3 (p.got.length:Nat) (i:Nat) 0 0 0 none 0 (some 0) 0 none 0 (some 0) 0 none 0 (some 0) false p.me p.clock b1 p.chain.length (some p.chain.length) b2 p.log.length d2 a n c p.fell hh) (λi hi q1 q2 hh F1 acc hz hacc hm hr=>by
   have hm':Mv h2 [] hh []:=(m0.trans hm).drop;obtain ⟨o,s,b,d,G,rfl,ho,es,hp,_⟩:=(hm'.keep0 rvss_ok hs3').get hi;obtain ⟨a5,c5,h5,F5,e5,r5,m5⟩:=IH (lo:=lo) hp (zc8 hl (zc8 m12.le (zc8 m0.le hm.le))) (hn.2.2.2 _ (zc7 hi));refine .inr ⟨p.got[i],[.sl 6 a5 p.got[i].length c5],F5,h5 ++ [.rows 1 26 false [[.sl 6 a5 p.got[i].length c5]]],rfl,Mv.snoc.keep0 rvers_ok r5,m5.trans (Mv.snoc' m5.nd),?_⟩;rw[BU.e,Al (by omega),Ae hi];simp only[Ad,Bd,ho,Aa,es,Ah];rw[e5];simp only[Ac,Ag,A7,Ar (show i<9223372036854775807 by omega)]) (Sli.fresh (by simp))
 rw[Ob,List.map_id,zdE] at e r;have m3:=m12.join (m0.trans m) (λb hb=>by
   rw[zc9] at hb;exact hb.elim (rnodesC_ok.bd _ _ _ _ r1' b) (rvers_ok.bd _ _ _ _ r2 b))
 rw[zdq] at m3;refine ⟨b1,b2,d2,b3,d3,h',G1,G2,F',Mt ?_,(m0.trans m).keep0 rnodesC_ok r1',(m0.trans m).keep0 rvers_ok r2,r,m3⟩;rw[e1];simp only[Ac,AR,Aa,Ag,Ah];rw[e2];simp only[Ac,Ag];rw[D0 (by omega)];refine e.trans ?_;rw[BU.e,Ak (by omega)]
end


variable {h:Heap}{Fs:List (List Nat)}{rs:List (List V)}{z:List V}{α:Type}{El:Rel α}
theorem EAll.erase {α:Type}{El:Rel α}{h:Heap}:∀ {rows:List (List V)}{l:List α}{Fs:List (List Nat)},EAll El h rows l Fs->∀ (k:Nat),EAll El h (rows.eraseIdx k) (l.eraseIdx k) (Fs.eraseIdx k)
 | [],[],[],_,k=>by simp[EAll]
 | _ :: _,_ :: _,_ :: _,⟨_,h2⟩,0=>h2
 | _ :: _,_ :: _,_ :: _,⟨h1,h2⟩,k+1=>⟨h1,h2.erase k⟩
 | [],[],_ :: _,h,_=>h.elim
 | [],_ :: _,_,h,_=>h.elim
 | _ :: _,[],_,h,_=>h.elim
 | _ :: _,_ :: _,[],h,_=>h.elim
theorem Kd {k:Nat}{Fk:List Nat} (hk:Fs[k]?=some Fk) (hnd:Fs.flatten.Nodup):(Fs.eraseIdx k).flatten.Nodup/\(∀ y∈(Fs.eraseIdx k).flatten,y∈Fs.flatten/\y∉Fk):=by
 induction Fs generalizing k with
 | nil=>simp at hk
 | cons F Fs ih =>
  rw[zdD,zda] at hnd;obtain ⟨n1,n2,n3⟩:=hnd;cases k with
  | zero =>simp at hk;subst hk;rw[List.eraseIdx_cons_zero];exact ⟨n2,λy hy=>⟨by simp only[zdD,zc9];exact .inr hy,λhm=>n3 y hm y hy rfl⟩⟩
  | succ k =>
   obtain ⟨g1,g2⟩:=ih (k:=k) (by simpa using hk) n2;rw[List.eraseIdx_cons_succ,zdD,zda];refine ⟨⟨n1,g1,λx hx y hy=>n3 x hx y (g2 y hy).1⟩,λy hy=>?_⟩;rcases zc9.1 hy with hy | hy
   ·refine ⟨by simp only[zdD,zc9];exact .inl hy,λhm=>?_⟩;exact n3 y hy y (Ga (by simpa using hk) hm) rfl
   ·exact ⟨by simp only[zdD,zc9];exact .inr (g2 y hy).1,(g2 y hy).2⟩
theorem XM {rs:List (List V)}{i n k:Nat}{z:List V} (hi:i+n<=rs.length) (hk:k<n) :
  let rs1:=rs.take (i+k)++((rs.drop (i+(k+1))).take (n - (k+1)))++rs.drop (i+k+((rs.drop (i+(k+1))).take (n - (k+1))).length)
  ((rs1.take (i+(n - 1)) ++ [z]++rs1.drop (i+(n - 1)+1)).drop i).take (n - 1)=(((rs.drop i).take n)).eraseIdx k/\(rs1.take (i+(n - 1)) ++ [z]++rs1.drop (i+(n - 1)+1)).length=rs.length/\rs1.length=rs.length:=by
 intro rs1;have e0:((rs.drop (i+(k+1))).take (n - (k+1))).length=n - (k+1):=by rw[zdr,zeb];omega
 have e1:rs1.length=rs.length:=by show (rs.take (i+k)++((rs.drop (i+(k+1))).take (n - (k+1)))++rs.drop (i+k+((rs.drop (i+(k+1))).take (n - (k+1))).length)).length=rs.length;rw[zdt,zdt,zdr,zeb,e0];omega
 refine ⟨?_,?_,e1⟩
 ·apply List.ext_getElem?;intro j;have hget:∀ q,q<i+(n - 1)->rs1[q]?=if q<i+k then rs[q]? else rs[q+1]?:=by
   intro q hq;show (rs.take (i+k)++((rs.drop (i+(k+1))).take (n - (k+1)))++rs.drop (i+k+((rs.drop (i+(k+1))).take (n - (k+1))).length))[q]?=_;by_cases h1:q<i+k
   ·rw[if_pos h1,zde (by rw[zdt,zdr];omega),zde (by rw[zdr];omega),zdI,if_pos h1]
   ·rw[if_neg h1,zde (by rw[zdt,zdr,e0];omega),zdx (by rw[zdr];omega),zdr,zdI,if_pos (by omega),zdz];congr 1;omega
  rw[zdI,zdz,List.getElem?_eraseIdx];by_cases hj:j<n - 1
  ·rw[if_pos hj,zde (by rw[zdt,zdr];omega),zde (by rw[zdr];omega),zdI,if_pos (by omega),hget _ (by omega)];by_cases hjk:j<k
   ·rw[if_pos (by omega),if_pos hjk,zdI,if_pos (by omega),zdz]
   ·rw[if_neg (by omega),if_neg hjk,zdI,if_pos (by omega),zdz];congr 1
  ·rw[if_neg hj];by_cases hjk:j<k
   ·omega
   ·rw[if_neg hjk,zdI,if_neg (by omega)]
 ·rw[zdt,zdt,zdr,zeb,e1];simp only[zd0];omega
theorem Tt {lo:Nat}{b i R e:Nat}{xs:List (List V)} (hb:h[b]?=some (.rows R e false rs)) (hlo:lo<=b) (hi:i+xs.length<=rs.length):E2 lo h b i xs=some (h.set b (.rows R e false (rs.take i++xs++rs.drop (i+xs.length)))):=by simp only[E2,hb,DX hlo,DX hi]
theorem Sli.del {T:Type} (ok:El.Ok) {lo R e n k bytes:Nat}{a:Pq}{c:Nq}{l:List α}{F:List Nat}{x1 x2:Int} (hs:Sli false R e El h [.sl R a n c] l F) (hk:k<l.length) (hnd:F.Nodup) (hlo:∀ b∈F,lo<=b)
  (h1:x1=(k:Nat)) (h2:x2=(k:Nat)+1) (hb:0<bytes) (hsz:l.length*bytes<=140737488355328) (X:Option T) (K:V->Heap->Option T) :
  ∃ h' F' Fk b i row,a=some (b,i)/\ld h b (i+k) 0 row.length=some row/\El h row (l[k]'hk) Fk/\(∀ y∈Fk,y∈F/\y∉F'/\y≠b) /\
   (AA a (ES h a n c) c (some (Iv x1)) (some (Iv x2)) (some (Iv (n:Nat))) λ_ _ _=>br (x1==x2) X (AA a n c none (some (Iv x1)) none λa3 n4 c5=>AA a n c (some (Iv x2)) none none λa6 n7 c8=>Av R h (.sl R a6 n7 c8) λx9 =>
    Df lo e R bytes (.sl R a3 n4 c5) x9 h λv10 h11=>eS R v10 λa12 n13 c14=>AA a12 (ES h11 a12 n13 c14) c14 (some (Iv (n13:Nat))) (some (Iv (n:Nat))) none λa15 n16 c17=>ZO lo R R true z h11 a15 n16 λh18=>K (.sl R a12 n13 c14) h18))=K (.sl R a (l.length - 1) c) h' /\
   Sli false R e El h' [.sl R a (l.length - 1) c] (l.eraseIdx k) F'/\Mv h F h' F'/\(∀ y,y≠b->h'[y]?=h[y]?):=by
 have hn:=hs.val;subst hn;obtain ⟨R1,a1,c1,e1,g⟩:=hs;injection e1 with e1 _;injection e1 with e0 e2 _ e3;subst e2;subst e3;cases a with
 | none=>obtain ⟨rfl,_⟩:=g;simp at hk
 | some p =>
 obtain ⟨b,i⟩:=p;obtain ⟨_,rs,Fs,g1,g2,g3,g4,g5,rfl⟩:=g;obtain ⟨row,Fk,hrow,hFk,hel⟩:=g5.get (Dj hk);have hlob:=hlo b (by simp);rw[zdg] at hnd;obtain ⟨f1,f2⟩:=Kd hFk hnd.2;have hblt:b<h.length:=(EA g1).1;have hri:rs[i+k]?=some row:=by rw[zdI,if_pos hk,zdz] at hrow;exact hrow
 have e0:((rs.drop (i+(k+1))).take (l.length - (k+1))).length=l.length - (k+1):=by rw[zdr,zeb];omega
 obtain ⟨r1,r2,r3⟩:=XM (z:=z) g2 hk;generalize hxs:(rs.drop (i+(k+1))).take (l.length - (k+1))=xs at e0 r1 r2 r3;generalize hrs1:rs.take (i+k)++xs++rs.drop (i+k+xs.length)=rs1 at r1 r2 r3;have fr:∀ (X:Blk) y,y≠b->(h.set b X)[y]?=h[y]?:=λX y hy=>zdd (Ne.symm hy);have hbFs:∀ y∈Fs.flatten,y≠b:=λy hy e=>hnd.1 (e ▸ hy);have m:∀ X:Blk,Mv h (b :: Fs.flatten) (h.set b X) (b ::(Fs.eraseIdx k).flatten):=λX=>⟨by simp,λy hy hF=>by
  rw[zdf,not_or] at hF;exact fr X y hF.1,by rw[zdg];exact ⟨λhm=>hnd.1 (f2 b hm).1,f1⟩,λy hy=>by
  rcases zdf.1 hy with rfl | hy
  ·exact .inl (by simp)
  ·exact .inl (by simp[(f2 y hy).1])⟩
 have fin:∀ rsX:List (List V),(rsX.drop i).take (l.length - 1)=((rs.drop i).take l.length).eraseIdx k->rsX.length=rs.length->Sli false R e El (h.set b (.rows R e false rsX)) [.sl R (some (b,i)) (l.length - 1) c] (l.eraseIdx k) (b ::(Fs.eraseIdx k).flatten):=λrsX hX hXl=>by have hle:(l.eraseIdx k).length=l.length - 1:=zdM hk;refine ⟨R,some (b,i),c,by rw[hle],rfl,rsX,Fs.eraseIdx k,by simp[hblt],by rw[hle,hXl];omega,λq hq=>by have:=g3 q hq;rw[hle,hXl];omega,g4,?_,rfl⟩;rw[hle,hX];exact (g5.erase k).fr ok.fr λy hy=>fr _ y (hbFs y (f2 y hy).1)
 have hmul:(k+xs.length)*bytes<=140737488355328:=zc8 (zdF _ (by omega)) hsz;refine ⟨h.set b (.rows R e false (rs1.take (i+(l.length - 1)) ++ [z]++rs1.drop (i+(l.length - 1)+1))),b ::(Fs.eraseIdx k).flatten,Fk,b,i,row,rfl,by rw[BA g1 hri];exact Ja rfl,hel,λy hy=>?_,?_,fin _ r1 r2,m _,λy hy=>fr _ y hy⟩
 ·have hyF:=Ga hFk hy;exact ⟨by simp[hyF],λhm=>by
   rcases zdf.1 hm with rfl | hm
   ·exact hbFs y hyF rfl
   ·exact (f2 y hm).2 hy,hbFs y hyF⟩
 have hx12:(x1==x2)=false:=by rw[beq_eq_false_iff_ne,h1,h2];omega
 have hRR:Nat.beq R R=true:=JE;have hroom:∀ (hh:Heap) (rs':List (List V)) (q:Nat),hh[b]?=some (.rows R e false rs')->q<=ES hh (some (b,i)) q c/\(c=none->rs'.length - i<=ES hh (some (b,i)) q c):=λhh rs' q hq=>by
  unfold ES;cases c with
  | some _=>exact ⟨zdb _,λe=>by cases e⟩
  | none =>simp only[Heap.rows?,hq];exact ⟨Nat.le_max_left _ _,λ_=>Nat.le_max_right _ _⟩
 have hr0:=(hroom h rs l.length g1).1;generalize ES h (some (b,i)) l.length c=M0 at hr0;have s1:∀ (Y:Option T),(AA (some (b,i)) M0 c (some (Iv x1)) (some (Iv x2)) (some (Iv (l.length:Nat))) λ_ _ _=>Y)=Y:=λY=>by
  unfold AA FI JK Km;simp only[Ab,Bd,Option.isNone_some];have q0:Xw x2 l.length (Xw x1 x2.toNat (MO (some (b,i)) x2.toNat (some l.length) x1.toNat λ_ _ _=>Y))=Y:=by rw[CO ⟨by rw[h2];omega,by rw[h2];omega⟩,CO ⟨by rw[h1];omega,by rw[h1,h2];omega⟩];unfold MO;simp only;cases Nat.beq l.length x1.toNat<;>rfl
  cases c with
  | some N=>have:=g3 N rfl;simp only;rw[CO ⟨by omega,by omega⟩];exact q0
  | none=>simp only;rw[CO ⟨by omega,by omega⟩];exact q0
 have s2:∀ (K:Pq->Nat->Nq->Option T),AA (some (b,i)) l.length c none (some (Iv x1)) none K=K (some (b,i)) k c:=λK=>by
  unfold AA FI JK Km;simp only[Ab,zeo];cases c with
  | some N =>have:=g3 N rfl;simp only;rw[CO ⟨by rw[h1];omega,by rw[h1];omega⟩,h1,Bd]
  | none =>simp only;rw[CO ⟨by rw[h1];omega,by rw[h1];omega⟩,h1,Bd]
 have s3:∀ (K:List (List V)->Option T),(AA (some (b,i)) l.length c (some (Iv x2)) none none λa6 n7 c8=>Av R h (.sl R a6 n7 c8) K)=K xs:=λK=>by
  unfold AA FI JK Km;simp only[Ab,zeo];have ht:x2.toNat=k+1:=by rw[h2];omega
  rw[CO ⟨by rw[h2];omega,by rw[h2];omega⟩,ht];unfold MO;simp only;have rows:∀ cc:Nq,Av R h (.sl R (some (b,i+(k+1))) (l.length - (k+1)) cc) K=K xs:=λcc=>by
   cases hm:l.length - (k+1) with
   | zero =>have hx0:xs = []:=zdh (by omega);rw[hx0];simp[Av,hRR,Be]
   | succ m =>
    simp only[Av,hRR,CT];rw[show Ev h b (i+(k+1)) (m+1)=some xs by
     simp only[Ev,Heap.rows?,g1,zdH];rw[DX (by omega),<- hm,hxs]]
    rfl
  cases c with
  | none=>exact rows none
  | some N =>
   have:=g3 N rfl;simp only;cases hb:Nat.beq N (k+1) with
   | false=>rw[Ax];exact rows _
   | true =>
    have hN:=zdi hb;have hm:l.length - (k+1)=0:=by omega
    have hx0:xs = []:=zdh (by omega);rw[Ao,hx0,hm];simp[Av,hRR,Be]
 have s4:∀ (K:V->Heap->Option T),∃ h11,h11[b]?=some (.rows R e false rs1)/\(∀ X:Blk,h11.set b X=h.set b X)/\Df lo e R bytes (.sl R (some (b,i)) k c) xs h K=K (.sl R (some (b,i)) (l.length - 1) c) h11:=λK=>by
  cases hx:xs with
  | nil =>
   rw[hx] at e0 hrs1;simp only[zek] at e0;have hk1:k=l.length - 1:=by omega
   refine ⟨h,?_,λX=>rfl,?_⟩
   ·rw[g1,<- hrs1];simp
   ·simp only[Df];rw[<- hk1]
  | cons x0 xr =>
   have hl1:k+(x0 :: xr).length=l.length - 1:=by rw[<- hx,e0];omega
   refine ⟨h.set b (.rows R e false rs1),by simp[hblt],λX=>by rw[zem],?_⟩;have hst:E2 lo h b (i+k) (x0 :: xr)=some (h.set b (.rows R e false rs1)):=by rw[Tt g1 hlob (by rw[Nat.add_assoc,hl1];omega),<- hx,hrs1]
   have hmul':decide ((k+(x0 :: xr).length)*bytes<=Kr)=true:=decide_eq_true (by rw[<- hx];exact hmul);have hbb:Nat.blt 0 bytes=true:=by simpa [zeE] using hb
   simp only[Df];rw[hbb,CT,hmul',CT,hRR,CT];cases c with
   | some N =>have:=g3 N rfl;have hle:Nat.ble (k+(x0 :: xr).length) N=true:=DX (by omega);simp only;rw[hle,hst];rw[hl1];rfl
   | none =>
    have how:Heap.own? lo e h b=some rs:=by simp only[Heap.own?,g1,DX hlob,JE]
    have hle:Nat.ble (i+k+(x0 :: xr).length) rs.length=true:=DX (by rw[Nat.add_assoc,hl1];omega);simp only;rw[how,Ad,hle,hst];rw[hl1];rfl
 rw[s1,hx12,Ax,s2,s3];obtain ⟨h11,q1,q2,q3⟩:=s4 λv10 h11=>eS R v10 λa12 n13 c14=>AA a12 (ES h11 a12 n13 c14) c14 (some (Iv (n13:Nat))) (some (Iv (l.length:Nat))) none λa15 n16 c17=>ZO lo R R true z h11 a15 n16 λh18=>K (.sl R a12 n13 c14) h18;rw[q3,Ag];have hlen:(l.length - (l.length - 1))=1:=by omega
 have hst:E2 lo h11 b (i+(l.length - 1)) (List.replicate 1 z)=some (h.set b (.rows R e false (rs1.take (i+(l.length - 1)) ++ [z]++rs1.drop (i+(l.length - 1)+1)))):=by rw[Tt q1 hlob (by simp;omega),q2];rfl
 obtain ⟨_,hr11⟩:=hroom h11 rs1 (l.length - 1) q1;generalize ES h11 (some (b,i)) (l.length - 1) c=M1 at hr11;unfold AA FI JK Km;simp only[Ab,Bd,zeo];cases c with
 | some N =>
  have:=g3 N rfl;have hne:Nat.beq N (l.length - 1)=false:=by
   cases hb:Nat.beq N (l.length - 1) with
   | false=>rfl
   | true=>have:=zdi hb;omega
  simp only;rw[CO ⟨by omega,by omega⟩,CO ⟨by omega,by omega⟩];unfold MO;simp only;rw[hne,Ax,hlen];simp only[ZO,hRR,zeL,CT,hst,Ad]
 | none =>have:=hr11 rfl;simp only;rw[CO ⟨by omega,by omega⟩,CO ⟨by omega,by omega⟩];unfold MO;simp only;rw[hlen];simp only[ZO,hRR,zeL,CT,hst,Ad]


variable {l:List Node}
def GG (l:List Node) (k:Nat):List Node:=match l[k]? with
 | some x=>l.set k ⟨x.store,x.wait.eraseIdx 0⟩
 | none=>l
def Uw (l:List Node) (k:Nat):Bool:=match l[k]? with
 | some x=>decide (0<x.wait.length)&&DC l (k+1)
 | none=>false
def BL (l:List Node) (k:Int):Bool:=Ai k 0 ((l.length:Int) - 2)&&Uw l k.toNat
def FK (l:List Node) (k:Nat):List Node:=match l[k]? with
 | some x=>match x.wait[0]? with
  | some v=>He (GG l k) (k+1) v
  | none=>l
 | none=>l
theorem Jk {k:Nat} (hk:k<l.length):GG l k=l.set k ⟨l[k].store,l[k].wait.eraseIdx 0⟩:=by unfold GG;rw[Dj hk]
theorem Mg {k:Nat}:(GG l k).length=l.length:=by unfold GG;split<;>simp
theorem KM {k:Nat} (hk:k<l.length):Uw l k=(decide (0<l[k].wait.length)&&DC l (k+1)):=by unfold Uw;rw[Dj hk]
theorem TH {k:Nat} (hk:k<l.length) (h0:0<l[k].wait.length):FK l k=He (GG l k) (k+1) (l[k].wait[0]'h0):=by unfold FK;rw[Dj hk];simp only;rw[Dj h0]
theorem Sli.at2 {α:Type}{El:Rel α} (ok:El.Ok) {h:Heap}{R R' e n k lo:Nat}{a:Pq}{c:Nq}{l:List α}{F:List Nat} (hs:Sli false R e El h [.sl R' a n c] l F) (hk:k<l.length) (hnd:F.Nodup) (hlo:∀ b∈F,lo<=b) :
  ∃ b i rs row G,a=some (b,i)/\b∈F/\b∉G/\h[b]?=some (.rows R e false rs)/\rs[i+k]?=some row/\El h row l[k] G/\(∀ y∈G,y∈F)/\G.Nodup /\
   (∀ h1 G1 j cs row' x',Mv h G h1 G1->paste row j cs=some row'->El h1 row' x' G1 ->
    ∃ h2 F',st lo h1 b (i+k) j cs=some h2/\Sli false R e El h2 [.sl R' a n c] (l.set k x') F'/\Mv h F h2 F'/\(∀ y,y≠b->h2[y]?=h1[y]?)/\∀ y∈F',(y∈F/\y∉G)\/y∈G1):=by
 have hbd:=(Sli.ok ok).bd _ _ _ _ hs;obtain ⟨b,i,rs,row,G,ha,hbF,hbG,hb,hrow,hel,hGF,hGn,put⟩:=hs.put ok.fr hk hnd;have hblt:b<h.length:=hbd b hbF;refine ⟨b,i,rs,row,G,ha,hbF,hbG,hb,hrow,hel,hGF,hGn,λh1 G1 j cs row' x' m hp hx=>?_⟩;have hbG1:b∉G1:=λhm=>by
  rcases m.sub b hm with h1 | h1
  ·exact hbG h1
  ·omega
 have hb1:h1[b]?=some (.rows R e false rs):=by rw[m.fr b hblt hbG];exact hb
 have hb1lt:b<h1.length:=zdj hblt m.le;have e2:=DM hb1 (hlo b hbF) hrow hp;have fr2:∀ y,y≠b->(h1.set b (.rows R e false (rs.set (i+k) row')))[y]?=h1[y]?:=λy hy=>zdd (Ne.symm hy);obtain ⟨F',p1,p2,p3,_⟩:=put (h1.set b (.rows R e false (rs.set (i+k) row'))) row' x' G1 (by simp[hb1lt]) (λy hy hyb hyG=>by rw[fr2 y hyb];exact m.fr y (hbd y hy) hyG)
  (ok.fr _ _ _ _ _ hx λy hy=>fr2 y λe=>hbG1 (e ▸ hy)) m.nd (λy hy hyF=>by
  rcases m.sub y hy with h1 | h1
  ·exact h1
  ·have:=hbd y hyF;omega)
 refine ⟨_,F',e2,p1,⟨by simpa using m.le,λy hy hyF=>?_,p3,λy hy=>?_⟩,fr2,p2⟩
 ·rw[fr2 y λe=>hyF (e ▸ hbF)];exact m.fr y hy λhg=>hyF (hGF y hg)
 ·rcases p2 y hy with h1 | h1
  ·exact .inl h1.1
  ·refine (m.sub y h1).imp (hGF y) λh=>by simpa using h
section
variable {lo:Nat}{ro:Bool}{h:Heap}{F F' G:List Nat}{a a' av:Pq}{c c' cv:Nq}
theorem ZX {l:List Ver} (hs:RVers false h [.sl 6 a l.length c] l F) (h0:0<l.length) (hnd:F.Nodup) (hl:lo<=h.length) (hn:l.length<=1048576) :
  ∃ o s av cv Gv,a=some o/\ld h o.1 (o.2+0) 0 6=some [Iv l[0].key,Iv l[0].tag.time,Iv l[0].tag.place,s,.str l[0].text,.bool l[0].gone]/\(∀ {T:Type} (K:Pq->Nat->Nq->Option T),eS 2 s K=K av l[0].past.length cv)/\RTags false h [.sl 2 av l[0].past.length cv] l[0].past Gv /\
   ∃ a' c' h' F',(∀ {T:Type} (K:V->Heap->Option T),(AA a l.length c (some (Iv 1)) none none λa n c=>Av 6 (h ++ [.rows 6 43 false []]) (.sl 6 a n c) λxs=>Df lo 43 6 72 (.sl 6 (some (h.length,0)) 0 (some 0)) xs (h ++ [.rows 6 43 false []]) K)=K (.sl 6 a' (l.eraseIdx 0).length c') h') /\
    RVers false h' [.sl 6 a' (l.eraseIdx 0).length c'] (l.eraseIdx 0) F'/\Mv h F h' F'/\(∀ y∈Gv,y∉F'/\y∈F)/\∀ y,y<h.length->h'[y]?=h[y]?:=by
 have hbd:=rvers_ok.bd _ _ _ _ hs;obtain ⟨R1,a1,c1,e1,g⟩:=hs;injection e1 with e1 _;injection e1 with e0 e2 _ e3;subst e2;subst e3;cases a with
 | none=>obtain ⟨rfl,_⟩:=g;simp at h0
 | some p =>
 obtain ⟨b,i⟩:=p;obtain ⟨_,rs,Fs,g1,g2,g3,_,g5,rfl⟩:=g;obtain ⟨row,Fk,hrow,hFk,hel⟩:=g5.get (Dj h0);rw[zdg] at hnd;obtain ⟨f1,f2⟩:=Kd hFk hnd.2;have hri:rs[i]?=some row:=by rw[zdI,if_pos h0,zdz] at hrow;exact hrow
 obtain ⟨s,av,cv,rfl,es,hp⟩:=hel.form;have hil:i<rs.length:=by omega
 have hcut:((rs.drop i).take l.length).eraseIdx 0=(rs.drop (i+1)).take (l.length - 1):=by rw[zdn hil,show l.length=(l.length - 1)+1 by omega,List.take_succ_cons,List.eraseIdx_cons_zero];simp
 have g6:=g5.erase 0;rw[hcut] at g6;have hlen:=zdM h0;generalize hxs:(rs.drop (i+1)).take (l.length - 1)=xs at g6;have hxl:xs.length=l.length - 1:=by rw[<- hlen];exact g6.len.1
 have m0:Mv h [] (h ++ [.rows 6 43 false []]) [h.length]:=Mv.last;have hb1:(h ++ [.rows 6 43 false []])[b]?=some (.rows 6 (Pr false) false rs):=by rw[m0.fr b (hbd b (by simp)) (by simp)];exact g1
 have s3:∀ {T:Type} (K:List (List V)->Option T),(AA (some (b,i)) l.length c (some (Iv 1)) none none λa6 n7 c8=>Av 6 (h ++ [.rows 6 43 false []]) (.sl 6 a6 n7 c8) K)=K xs:=λK=>by
  unfold AA FI JK Km;simp only[Ab,zeo];rw[CO ⟨by omega,by omega⟩,show ((1:Int)).toNat=1 from rfl];have key:∀ c8:Nq,Av 6 (h ++ [.rows 6 43 false []]) (.sl 6 (some (b,i+1)) (l.length - 1) c8) K=K xs:=λc8=>by
   simp only[Av,JE,CT];cases hm:l.length - 1 with
   | zero =>have hx0:xs = []:=zdh (by omega);rw[hx0]
   | succ m =>
    simp only;rw[show Ev (h ++ [.rows 6 43 false []]) b (i+1) (m+1)=some xs by
     simp only[Ev,Heap.rows?,hb1,zdH];rw[DX (by omega),<- hm,hxs]]
    rfl
  cases c with
  | none=>exact key none
  | some N =>
   obtain ⟨hN,_⟩:=g3 N rfl;unfold MO;simp only;cases hb:Nat.beq N 1 with
   | false=>rw[Ax];exact key _
   | true =>have:=zdi hb;have hx0:xs = []:=zdh (by omega);rw[Ao,show l.length - 1=0 by omega,hx0];simp[Av,Be]
 have hfl:∀ y∈(Fs.eraseIdx 0).flatten,y<h.length:=λy hy=>hbd y (by simp[(f2 y hy).1]);refine ⟨(b,i),s,av,cv,Fk,rfl,by rw[BA g1 (by rw[zdP];exact hri)];rfl,es,hp,?_⟩;have hFkb:∀ y∈Fk,y∈Fs.flatten:=λy hy=>Ga hFk hy;by_cases he:l.eraseIdx 0 = []
 ·have hx0:xs = []:=zdh (by rw[hxl,<- hlen,he];rfl);refine ⟨some (h.length,0),some 0,_,[h.length],λK=>by rw[s3,hx0];simp only[Df];rw[he];rfl,by rw[he];exact Sli.fresh (zdb _),?_,λy hy=>?_,λy hy=>m0.fr y hy (by simp)⟩
  ·exact m0.wide (by simp)
  ·have:=hbd y (by simp[hFkb y hy]);exact ⟨by simp;omega,by simp[hFkb y hy]⟩
 ·have hfresh:RVers false (h ++ [.rows 6 (Pr false) false []]) [.sl 6 (some (h.length,0)) 0 (some 0)] [] [h.length]:=Sli.fresh (zdb _);obtain ⟨a',c',h',F',p1,p2,p3,p4,p5,p6⟩:=Sli.push (lo:=lo) (bytes:=72) rver_ok.fr hfresh (xs:=xs) (ys:=l.eraseIdx 0) (Gs:=Fs.eraseIdx 0) (g6.fr rver_ok.fr λy hy=>m0.fr y (hfl y hy) (by simp)) (by decide) (by rw[hlen];simp;omega) (by simp;omega) (by simp;omega)
   (by rw[zdO,zdE,zdg];exact ⟨λhm=>by have:=hfl _ hm;omega,f1⟩) (λy hy=>by
    rw[zdO,zdE,zdf] at hy;rcases hy with rfl | hy
    ·simp
    ·have:=hfl y hy;simp;omega) he
  simp only[zek,zdy,zdE] at p1 p2;have hfr:∀ y,y<h.length->h'[y]?=h[y]?:=λy hy=>by rw[p4 y (by simp;omega) (by simp;omega)];exact m0.fr y hy (by simp)
  refine ⟨a',c',h',F',λK=>by rw[s3];exact p1 K,p2,⟨by simp at p3;omega,λy hy _=>hfr y hy,p6,λy hy=>?_⟩,λy hy=>⟨λhm=>?_,by simp[hFkb y hy]⟩,hfr⟩
  ·simp at p3;rcases p5 y hy with g | g
   ·rw[zdO,zdE,zdf] at g;rcases g with rfl | g
    ·exact .inr (by omega)
    ·exact .inl (by simp[(f2 y g).1])
   ·simp at g;exact .inr (by omega)
  ·have hyl:=hbd y (by simp[hFkb y hy]);rcases p5 y hm with g | g
   ·rw[zdO,zdE,zdf] at g;rcases g with rfl | g
    ·omega
    ·exact (f2 y g).2 hy
   ·simp at g;omega
theorem WX {k:Int} (hs:RNodes ro h [.sl 2 a l.length c] l F) (hn:l.length<=1048576):Af lo 253 [.agg [.sl 2 a l.length c],Iv k] h=some (.bool (BL l k),h):=by
 refine Vd (h':=h) ?_;rw[wr (by omega) (by omega),Ca,Ac,At];unfold BL;cases hw:Ai k 0 ((l.length:Int) - 2) with
 | false=>rw[Ax];rfl
 | true =>
 simp only[Ai,CP,decide_eq_true_eq] at hw;obtain ⟨f,rfl⟩:∃ f:Nat,k=(f:Int):=⟨k.toNat,by omega⟩;have hk:f<l.length:=by omega
 have hk1:f+1<l.length:=by omega
 obtain ⟨o,s1,s2,b1,d1,b2,d2,G1,G2,ha,_,_,ho2,_,e2,_⟩:=hs.get hk;obtain ⟨o',s1',s2',b1',d1',b2',d2',G1',G2',ha',_,_,ho2',_,e2',_⟩:=hs.get hk1;have:o=o':=by rw[ha] at ha';injection ha'
 subst this;rw[Bd,KM hk,Jq hk1,Ao,Ae hk,ha,Ad,ho2,Ad,Aa,Ah,e2];by_cases h0:0<l[f].wait.length
 ·rw[Al (by omega),Ar (by omega),Ae hk1,Ad,Bd,ho2',Ad,Aa,Ah,e2',decide_eq_true h0];by_cases h6:l[f+1].wait.length<6
  ·rw[Al (by omega),decide_eq_true h6];rfl
  ·rw[Ak (by omega),decide_eq_false h6];rfl
 ·rw[Ak (by omega),decide_eq_false h0];rfl
def Xl (x:Node):Prop:=GR 20 x/\∀ v∈x.wait,0<=v.key/\v.key<=3
theorem VB {k:Nat} (hs:RNodes false h [.sl 2 a l.length c] l F) (hk:k+1<l.length) (h0:0<(l[k]'(by omega)).wait.length) (hnd:F.Nodup) (hlo:∀ b∈F,lo<=b) (hl:lo<=h.length) (hn:C7 l) (hx:∀ x∈l,Xl x) :
  ∃ h' F',Af lo 254 [.agg [.sl 2 a l.length c],Iv (k:Nat)] h=some (.agg [.sl 2 a l.length c],h')/\RNodes false h' [.sl 2 a l.length c] (FK l k) F'/\Mv h F h' F':=by
 have hk':k<l.length:=by omega
 have hn1:=hn.1;suffices hq:∃ h' F',_=some (V.agg [.sl 2 a l.length c],h')/\RNodes false h' [.sl 2 a l.length c] (FK l k) F'/\Mv h F h' F' from hq.imp λh' hq=>hq.imp λF' hq=>⟨S3 hq.1,hq.2⟩
 obtain ⟨b,i,rs,row,G0,ha,hbF,hbG,hb,hrow,hel,hGF,hGn,put⟩:=hs.at2 rnode_ok hk' hnd hlo;obtain ⟨t1,t2,F1,F2,rfl,rfl,r1,r2⟩:=hel;obtain ⟨a2,c2,e2,r2'⟩:=r2.form;have hGn0:=hGn;rw[zda] at hGn;obtain ⟨o,s,av,cv,Gv,ho,hld,es,hp,a3,c3,h3,F3,e3,r3,m3,hGv,fr3⟩:=ZX (lo:=lo) r2' h0 hGn.2.1 hl (hn.2 _ (zc7 hk')).2.1;have b1:∀ y∈F1,y<h.length:=rvers_ok.bd _ _ _ _ r1;have m4:=(m3.aside (G:=F1) (by rw[zda];exact ⟨hGn.2.1,hGn.1,λx hx y hy e=>hGn.2.2 y hy x hx e.symm⟩) b1).swap;have r1':RVers false h3 [t1] l[k].store F1:=rvers_ok.fr _ _ _ _ _ r1 λy hy=>fr3 y (b1 y hy);obtain ⟨h4,F4,e4,r4,m5,fr4,sub4⟩:=put h3 (F1++F3) 1 [.sl 6 a3 (l[k].wait.eraseIdx 0).length c3] [t1,.sl 6 a3 (l[k].wait.eraseIdx 0).length c3] ⟨l[k].store,l[k].wait.eraseIdx 0⟩ m4 rfl ⟨_,_,F1,F3,rfl,rfl,r1',r3⟩;rw[<- Jk hk'] at r4;have hln:=Mg (l:=l) (k:=k);have hGvG:∀ y∈Gv,y∈F1++F2:=λy hy=>by simp[(hGv y hy).2]
 have hGvl:∀ y∈Gv,y<h.length:=rtags_ok.bd _ _ _ _ hp;have hd:∀ y∈Gv,y∉F4:=λy hy hm=>by
  rcases sub4 y hm with g | g
  ·exact g.2 (hGvG y hy)
  ·rcases zc9.1 g with g | g
   ·exact hGn.2.2 y g y (hGv y hy).2 rfl
   ·exact (hGv y hy).1 g
 have hp4:RTags false h4 [.sl 2 av (l[k].wait[0]'h0).past.length cv] (l[k].wait[0]'h0).past Gv:=rtags_ok.fr _ _ _ _ _ hp λy hy=>by rw[fr4 y λe=>hbG (by rw[<- e];exact hGvG y hy),fr3 y (hGvl y hy)]
 have hpx:=hx _ (zc7 hk');have hky:=hpx.2 _ (zc7 h0);have hth:=hpx.1.2.2.2 _ (zc7 h0);have hk1:k+1<(GG l k).length:=by rw[hln];exact hk
 have hst1:(GG l k)[k+1].store.length=4:=by
  have:(GG l k)[k+1]=l[k+1]:=by have e:=Jk hk';rw[zeW e,List.getElem_set_ne (by omega)]
  rw[this];exact (hx _ (zc7 hk)).1.1
 have hnd5:C7 (GG l k):=by
  refine ⟨by rw[hln];exact hn1,λx hx'=>?_⟩;rw[Jk hk'] at hx';rcases zdB hx' with hx' | rfl
  ·exact hn.2 x hx'
  ·have:=hn.2 _ (zc7 hk');exact ⟨this.1,Ri this.2 (zc8 (zex _ _) this.2.1) λv hv=>zd8 hv⟩
 rw[<- hln] at r4;obtain ⟨h5,F5,e5,r5,m6⟩:=Re (lo:=lo) (k:=k+1) (v:=l[k].wait[0]'h0) r4 hp4 hd m5.nd (λy hy=>m5.ge hl hlo y hy) (zc8 hl m5.le) hk1 ⟨hky.1,by omega⟩ hnd5 (by have:=hth.1;omega);rw[hln] at e5 r5;rw[<- TH hk' h0] at r5;have hblt:b<h.length:=(EA hb).1;have ld1:ld h b (i+k) 1 1=some [t2]:=by rw[BA hb hrow];rfl
 have ld2:ld (h ++ [.rows 6 43 false []]) b (i+k) 1 1=some [t2]:=by rw[BA (by rw[zde hblt];exact hb) hrow];rfl
 simp only[Ver.cs] at e5;have e5':Af lo 129 [.agg [.sl 2 a l.length c],Iv ((k:Nat)+1:Int),.agg [Iv (l[k].wait[0]'h0).key,Iv (l[k].wait[0]'h0).tag.time,Iv (l[k].wait[0]'h0).tag.place,.sl 2 av (l[k].wait[0]'h0).past.length cv,.str (l[k].wait[0]'h0).text,.bool (l[k].wait[0]'h0).gone]] h4=some (.agg [.sl 2 a l.length c],h5):=by rw[show ((k:Nat)+1:Int)=((k+1:Nat):Int) by omega];exact e5
 rw[Ae hk',ha,Ad,Bd,ld1,Ad,Aa,Ah,e2,Cm ⟨by omega,by omega⟩,ho,Ad,hld,Ad,Aa,Ab,Aa,Ab,Aa,Ab,Aa,es,Aa,BG,Aa,AL,Ah,Ae hk',Ad,ld2,Ad,Aa,Ah,e2,e3,Ag,Ae hk',Ad,e4,Ad,wr (n:=((k:Nat):Int)+1) (by omega) (by omega),<- ha,e5',Ac,AR,Aa,Ag,Ah];exact ⟨h5,F5,rfl,r5,m5.trans m6⟩
end


theorem Jo {a:Option (List V)}:GB a a=true:=by unfold GB;exact (@decide_eq_true_iff _ (_)).2 rfl
section
variable {lo:Nat}{ro:Bool}{h:Heap}{F F' G:List Nat}{a a' av:Pq}{c c' cv:Nq}
theorem UK {l:List Ver} (hs:RVers false h [.sl 6 a l.length c] l F) (h0:0<l.length) (hnd:F.Nodup) (hlo:∀ b∈F,lo<=b) (hn:l.length<=1048576) :
  ∃ o s av cv Gv,a=some o/\ld h o.1 (o.2+0) 0 6=some [Iv l[0].key,Iv l[0].tag.time,Iv l[0].tag.place,s,.str l[0].text,.bool l[0].gone]/\(∀ {T:Type} (K:Pq->Nat->Nq->Option T),eS 2 s K=K av l[0].past.length cv)/\RTags false h [.sl 2 av l[0].past.length cv] l[0].past Gv /\
   ∃ h' F',Af lo 298 [.sl 6 a l.length c,Iv 0,Iv 1] h=some (.sl 6 a (l.length - 1) c,h')/\RVers false h' [.sl 6 a (l.length - 1) c] (l.eraseIdx 0) F'/\Mv h F h' F'/\(∀ y∈Gv,y∉F'/\y∈F)/\∀ y,y≠o.1->h'[y]?=h[y]?:=by
 obtain ⟨h',F',Gv,b,i,row,ha,hld,hel,hG,e,r,m,fr⟩:=Sli.del (lo:=lo) (bytes:=72) (e:=43) (z := [Iv 0,Iv 0,Iv 0,.sl 0 none 0 (some 0),.str ⟨⟨[]⟩⟩,.bool false]) (x1:=0) (x2:=1) (T:=V×Heap) rver_ok hs h0 hnd hlo rfl rfl (by decide) (by omega) (some (.sl 6 a l.length c,h)) (λv h=>some (v,h));obtain ⟨s,av,cv,rfl,es,hp⟩:=hel.form;exact ⟨(b,i),s,av,cv,Gv,ha,hld,es,hp,h',F',GK e,r,m,λy hy=>⟨(hG y hy).2.1,(hG y hy).1⟩,fr⟩
theorem Zj {b i j R e:Nat}{rs:List (List V)}{row:List V}{l:List Node}{k:Int} (hb:h[b]?=some (.rows R e false rs)) (hrow:rs[i]?=some row) (hcell:row[j]?=some (.sl 2 a l.length c)) (hs:RNodes false h [.sl 2 a l.length c] l F) (hbF:b∉F)
  (hnd:F.Nodup) (hlo:∀ b∈F,lo<=b) (hl:lo<=h.length) (hn:C7 l) (hx:∀ x∈l,Xl x) :
  ∃ h' F',Af lo 278 [.ptr (some (b,(i,j))),Iv k] h=some (.bool (BL l k),h')/\RNodes false h' [.sl 2 a l.length c] (bif BL l k then FK l k.toNat else l) F'/\Mv h F h' F':=by
 have hn1:=hn.1;suffices hq:∃ h' F',_=some (V.bool (BL l k),h')/\RNodes false h' [.sl 2 a l.length c] (bif BL l k then FK l k.toNat else l) F'/\Mv h F h' F' from hq.imp λh' hq=>hq.imp λF' hq=>⟨OL hq.1,hq.2⟩
 have hld:∀ hh:Heap,hh[b]?=some (.rows R e false rs)->ld hh b i (j+0) 1=some [.sl 2 a l.length c]:=λhh hb=>by rw[BA hb hrow];exact I9 hcell
 have hblt:b<h.length:=(EA hb).1;have stay:BL l k=false->∃ h' F',some (V.bool false,h)=some (V.bool (BL l k),h')/\RNodes false h' [.sl 2 a l.length c] (bif BL l k then FK l k.toNat else l) F'/\Mv h F h' F':=λhc=>by rw[hc];exact ⟨h,F,rfl,hs,Mv.refl hnd⟩
 have hcd:BL l k=(Ai k 0 ((l.length:Int) - 2)&&Uw l k.toNat):=rfl;rw[hld h hb,Ad,Aa,Ah,Ag,wr (by omega) (by omega),A8,Ac,At];cases hw:Ai k 0 ((l.length:Int) - 2) with
 | false=>rw[Ax];exact stay (by rw[hcd,hw];rfl)
 | true =>
 rw[hw,zdk] at hcd;simp only[Ai,CP,decide_eq_true_eq] at hw;obtain ⟨f,rfl⟩:∃ f:Nat,k=(f:Int):=⟨k.toNat,by omega⟩;have hk:f+1<l.length:=by omega
 have hk':f<l.length:=by omega
 rw[Bd,KM hk'] at hcd;rw[Bd] at stay ⊢;obtain ⟨b0,i0,rs0,row0,G0,ha,hbF0,hbG,hb0,hrow0,hel,hGF,hGn,put⟩:=hs.at2 rnode_ok hk' hnd hlo;obtain ⟨t1,t2,F1,F2,rfl,rfl,r1,r2⟩:=hel;obtain ⟨aw,cw,es2,r2⟩:=r2.form;have ld1:∀ hh:Heap,hh[b0]?=some (.rows 2 (Qc false) false rs0)->ld hh b0 (i0+f) 1 1=some [t2]:=λhh hb0=>by rw[BA hb0 hrow0];rfl
 rw[Ao,hld h hb,Ad,Aa,Ah,Ag,Ae hk',ha,Ad,ld1 h hb0,Ad,Aa,Ah,es2];by_cases h0:0<l[f].wait.length
 ·rw[decide_eq_true h0,zdk] at hcd;rw[show ((l[f].wait.length:Int)==0)=false by rw[beq_eq_false_iff_ne];omega,Ax,Ar (by omega)];have hfu:Af lo 117 [.ptr (some (b,(i,j))),Iv ((f+1:Nat):Int)] h=some (.bool (!DC l (f+1)),h):=Pe (hld h hb) hs hk;rw[hfu,Ac,At];cases hr:DC l (f+1) with
  | false=>rw[zd3,Ao,<- ha];exact stay (by rw[hcd,hr])
  | true =>
  rw[hr] at hcd;have hGn0:=hGn;rw[zda] at hGn;obtain ⟨o,s,av,cv,Gv,ho,hldv,es,hp,h3,F3,e3,r3,m3,hGv,fr3⟩:=UK (lo:=lo) r2 h0 hGn.2.1 (λy hy=>hlo y (hGF y (by simp[hy]))) (hn.2 _ (zc7 hk')).2.1;have b1:∀ y∈F1,y<h.length:=rvers_ok.bd _ _ _ _ r1;have m4:=(m3.aside (G:=F1) (by rw[zda];exact ⟨hGn.2.1,hGn.1,λx hx y hy e=>hGn.2.2 y hy x hx e.symm⟩) b1).swap;have r1':RVers false h3 [t1] l[f].store F1:=m3.keep rvers_ok r1 λy hy hm=>hGn.2.2 y hy y hm rfl;have hlen:=zdM h0;have r3c:=r3.clip;rw[<- hlen] at r3c;obtain ⟨h4,F4,e4,r4,m5,fr4,sub4⟩:=put h3 (F1++F3) 1 [.sl 6 aw (l[f].wait.eraseIdx 0).length (some (l[f].wait.eraseIdx 0).length)] [t1,.sl 6 aw (l[f].wait.eraseIdx 0).length (some (l[f].wait.eraseIdx 0).length)] ⟨l[f].store,l[f].wait.eraseIdx 0⟩ m4 rfl ⟨_,_,F1,F3,rfl,rfl,r1',r3c⟩;rw[<- Jk hk'] at r4;have hln:=Mg (l:=l) (k:=f);have hGvG:∀ y∈Gv,y∈F1++F2:=λy hy=>by simp[(hGv y hy).2]
  have hd:∀ y∈Gv,y∉F4:=λy hy hm=>by
   rcases sub4 y hm with g | g
   ·exact g.2 (hGvG y hy)
   ·rcases zc9.1 g with g | g
    ·exact hGn.2.2 y g y (hGv y hy).2 rfl
    ·exact (hGv y hy).1 g
  have hoG:o.1∉Gv:=λhm=>(hGv o.1 hm).1 (by
   obtain ⟨R1,a1,c1,q1,q2⟩:=r3;injection q1 with q1 _;injection q1 with _ q1 _ _;subst q1;subst ho;obtain ⟨_,_,_,_,_,_,_,_,q⟩:=q2;rw[q];simp)
  have hp4:RTags false h4 [.sl 2 av (l[f].wait[0]'h0).past.length cv] (l[f].wait[0]'h0).past Gv:=rtags_ok.fr _ _ _ _ _ hp λy hy=>by rw[fr4 y λe=>hbG (by rw[<- e];exact hGvG y hy),fr3 y λe=>hoG (by rw[<- e];exact hy)]
  have hpx:=hx _ (zc7 hk');have hky:=hpx.2 _ (zc7 h0);have hth:=hpx.1.2.2.2 _ (zc7 h0);have hk1:f+1<(GG l f).length:=by rw[hln];exact hk
  have hst1:(GG l f)[f+1].store.length=4:=by
   have:(GG l f)[f+1]=l[f+1]:=by have e:=Jk hk';rw[zeW e,List.getElem_set_ne (by omega)]
   rw[this];exact (hx _ (zc7 hk)).1.1
  have hnd5:C7 (GG l f):=by
   refine ⟨by rw[hln];exact hn1,λx hx'=>?_⟩;rw[Jk hk'] at hx';rcases zdB hx' with hx' | rfl
   ·exact hn.2 x hx'
   ·have:=hn.2 _ (zc7 hk');exact ⟨this.1,Ri this.2 (zc8 (zex _ _) this.2.1) λv hv=>zd8 hv⟩
  have hb3:h3[b]?=some (.rows R e false rs):=by rw[m3.fr b hblt λhm=>hbF (hGF b (by simp[hm]))];exact hb
  have hb4:h4[b]?=some (.rows R e false rs):=by rw[fr4 b λe=>hbF (by rw[e];exact hbF0)];exact hb3
  have hbF4:b∉F4:=λhm=>by
   rcases m5.sub b hm with g | g
   ·exact hbF g
   ·omega
  have hcell4:row[j]?=some (.sl 2 a (GG l f).length c):=by rw[hln];exact hcell
  rw[<- hln] at r4;obtain ⟨h5,F5,e5,r5,m6⟩:=RI (lo:=lo) (k:=f+1) (v:=l[f].wait[0]'h0) hb4 hrow hcell4 r4 hbF4 hp4 hd m5.nd (λy hy=>m5.ge hl hlo y hy) (zc8 hl m5.le) hk1 ⟨hky.1,by omega⟩ hnd5 (by have:=hth.1;omega);rw[hln,<- TH hk' h0] at r5;simp only[Ver.cs] at e5;have hclip:Af lo 205 [.sl 6 aw (l[f].wait.length - 1) cw] h3=some (.sl 6 aw (l[f].wait.length - 1) (some (l[f].wait.length - 1)),h3):=LQ r3;rw[hlen] at e4;have hb3':h3[b0]?=h3[b0]?:=rfl;rw[zdT,Ax,hld h hb,Ad,Aa,Ah,Ag,ha,Ae hk',Ad,ld1 h hb0,Ad,Aa,Ah,es2,Cm ⟨by omega,by omega⟩,ho,Ad,hldv,Ad,Aa,Ab,Aa,Ab,Aa,Ab,Aa,es,Aa,BG,Aa,AL,Ah,
   Ad,Aa,Ah,Ag,Ad,Aa,Ah,Ag,Jo,CT,Ae hk',Ad,ld1 h hb0,Ad,Aa,Ah,es2,CT,e3,Ac,Ag,hld h3 hb3,<- ha,Jo,CT,hclip,Ac,Ag,hld h3 hb3,Jo,CT,Ae hk',ha,Ad,e4,Ad,e5,Ac,HA,Ah,<- ha]
  rw[hcd,cond_true];exact ⟨h5,F5,rfl,r5,m5.trans m6⟩
 ·rw[decide_eq_false h0,zdY] at hcd;rw[show ((l[f].wait.length:Int)==0)=true by rw[beq_iff_eq];omega,Ao,<- ha];exact stay hcd
end


variable {p:Place}
def JQ (p:Place) (k:Nat):Place:=⟨p.me,p.clock,FK p.chain k,p.log,p.got,p.fell⟩
def Er (p:Place) (k:Int):Place:=bif BL p.chain k then BW (JQ p k.toNat) else p
theorem Jc {l:List Node}{k:Nat}:(FK l k).length=l.length:=by
 unfold FK;split
 ·split
  ·rw[Fe,Mg]
  ·rfl
 ·rfl
theorem Tp {nc nw nl k:Nat} (h:Tidy nc nw nl p):Tidy nc (nw+1) nl (JQ p k):=by
 have h0:Tidy nc (nw+1) nl p:=⟨h.len,λx hx=>by have:=h.node x hx;exact ⟨this.1,Nat.le_succ_of_le this.2.1,this.2.2⟩,h.log,h.got⟩;unfold JQ FK;split
 ·rename_i x hk
  split
  ·rename_i v hv
   have hxm:=zdp hk;have hd:Tidy nc nw nl ⟨p.me,p.clock,GG p.chain k,p.log,p.got,p.fell⟩:=by
    refine ⟨by show (GG p.chain k).length<=nc;rw[Mg];exact h.len,λy hy=>?_,h.log,h.got⟩;have hy:y∈GG p.chain k:=hy;unfold GG at hy;rw[hk] at hy;rcases zdB hy with hy | rfl
    ·exact h.node y hy
    ·obtain ⟨g1,g2,g3,g4⟩:=h.node x hxm;exact ⟨g1,zc8 (zex _ _) g2,g3,λv hv=>g4 v (zd8 hv)⟩
   exact NC hd ((h.node x hxm).2.2.2 v (zdp hv))
  ·exact h0
 ·exact h0
theorem Ux (h:Ay p=true):∀ x∈p.chain,Xl x:=λx hx=>by have hno:=(CM (AO h).2.2.2.1).2 x hx;have ht:=TL hno;exact ⟨⟨ht.1,zc8 ht.2.1 (by decide),ht.2.2⟩,λv hv=>(AZ ((AW hno).2.2 v hv)).1⟩
theorem QJ {nc nw nl:Nat} (h:Tidy nc nw nl p) (h1:nc<=10) (h2:nw<=20) (h3:nl<=100):Tidy 10 20 100 p :=
 ⟨zc8 h.len h1,λx hx=>by have:=h.node x hx;exact ⟨this.1,zc8 this.2.1 h2,this.2.2⟩,⟨zc8 h.log.1 h3,h.log.2⟩,h.got.1,λl hl=>⟨zc8 (h.got.2 l hl).1 h3,(h.got.2 l hl).2⟩⟩
theorem Q0 {h h1 h2:Heap}{G1 G1' G2 G2' G3:List Nat} (m1:Mv h G1 h1 G1') (m2:Mv h1 G2 h2 G2') (hnd:(G1++(G2++G3)).Nodup) (hb:∀ y∈G1++(G2++G3),y<h.length) :
  Mv h (G1++(G2++G3)) h2 (G1'++(G2'++G3))/\(∀ y∈G1',y∉G2)/\(∀ y∈G3,y∉G1)/\∀ y∈G3,y∉G2:=by
 rw[zda,zda] at hnd;obtain ⟨n2,⟨n3,n4,n5⟩,n6⟩:=hnd;have hb1:∀ y∈G1,y<h.length:=λy hy=>hb y (by simp[hy]);have hb2:∀ y∈G2,y<h.length:=λy hy=>hb y (by simp[hy]);have hb3:∀ y∈G3,y<h.length:=λy hy=>hb y (by simp[hy]);have l1:=m1.le;have l2:=m2.le;have d1:∀ y∈G1',y∉G2:=λy hy hm=>by
  rcases m1.sub y hy with g | g
  ·exact n6 y g y (by simp[hm]) rfl
  ·have:=hb2 y hm;omega
 have d2:∀ y∈G3,y∉G1:=λy hy hm=>n6 y hm y (by simp[hy]) rfl;have d3:∀ y∈G3,y∉G2:=λy hy hm=>n5 y hm y hy rfl;have s1:∀ y∈G1',y<h1.length:=m1.lt hb1;refine ⟨⟨by omega,λy hy hF=>?_,?_,λy hy=>?_⟩,d1,d2,d3⟩
 ·simp only[zc9,not_or] at hF;rw[m2.fr y (by omega) hF.2.1,m1.fr y hy hF.1]
 ·rw[zda,zda];refine ⟨m1.nd,⟨m2.nd,n4,λx hx y hy e=>?_⟩,λx hx y hy e=>?_⟩
  ·subst e;rcases m2.sub x hx with g | g
   ·exact d3 x hy g
   ·have:=hb3 x hy;omega
  ·subst e;rcases zc9.1 hy with hy | hy
   ·rcases m2.sub x hy with g | g
    ·exact d1 x hx g
    ·have:=s1 x hx;omega
   ·rcases m1.sub x hx with g | g
    ·exact d2 x hy g
    ·have:=hb3 x hy;omega
 ·simp only[zc9] at hy ⊢;rcases hy with hy | hy | hy
  ·rcases m1.sub y hy with g | g
   ·exact .inl (.inl g)
   ·exact .inr ⟨g.1,by omega⟩
  ·rcases m2.sub y hy with g | g
   ·exact .inl (.inr (.inl g))
   ·exact .inr ⟨by omega,g.2⟩
  ·exact .inl (.inr (.inr hy))
section
variable {lo:Nat}{h:Heap}{F F':List Nat}{a a':Pq}{c c':Nq}
theorem Q9 {a1 a2 a3:Pq}{c1 c2 c3:Nq}{F1 F2:List Nat} (hs1:RNodes false h [.sl 2 a1 p.chain.length c1] p.chain F1) (hs2:RVers false h [.sl 6 a2 p.log.length c2] p.log F2)
  (h0:0<p.chain.length) (ht:Tidy 10 20 100 p) (hd:∀ b∈F1,b∉F2) (hnd:F2.Nodup) (hlo:∀ b∈F2,lo<=b) (hl:lo<=h.length) :
  ∃ a2' c2' h' F2',Af lo 130 [.agg (p.cs a1 c1 a2 c2 a3 c3)] h=some (.agg ((BW p).cs a1 c1 a2' c2' a3 c3),h')/\RVers false h' [.sl 6 a2' (BW p).log.length c2'] (BW p).log F2'/\Mv h F2 h' F2':=by
 obtain ⟨x,hx,hxe⟩:=MS h0;have hxn:=ht.node x hx;exact PS hs1 hs2 h0 (by rw[hxe];exact hxn.1) hd hnd hlo hl (zc8 ht.len (by decide)) (zc8 ht.log.1 (by decide)) (λw hw=>by rw[hxe] at hw;have:=(hxn.2.2.1 w hw).1;omega)
end


variable {u v:Ver}{l:List Ver}
theorem Jf:A0 u v=true<->u.tag.time<v.tag.time\/(u.tag.time=v.tag.time/\u.tag.place<v.tag.place):=by simp[A0,FM]
theorem Ks:A0 u v=false<->¬ (u.tag.time<v.tag.time\/(u.tag.time=v.tag.time/\u.tag.place<v.tag.place)):=by rw[<- Jf,Bool.not_eq_true]
def EZ (v:Ver):List Ver->List Ver
 | [] => [v]
 | u :: r=>bif A0 u v then u :: EZ v r else v :: u :: r
def I2 (l:List Ver):Prop:=l.Pairwise λp u=>A0 u p=false
theorem LE {v:Ver}:∀ {l:List Ver},(EZ v l).length=l.length+1
 | []=>rfl
 | u :: r=>by
  simp only[EZ];cases A0 u v with
  | true=>simp[LE (l:=r)]
  | false=>simp
theorem insF_mem {v x:Ver}:∀ {l:List Ver},x∈EZ v l<->x=v\/x∈l
 | []=>by simp[EZ]
 | u :: r=>by
  simp only[EZ];cases A0 u v with
  | true =>
   rw[cond_true,zdf,insF_mem (l:=r),zdf];constructor
   ·rintro (h | h | h)
    ·exact .inr (.inl h)
    ·exact .inl h
    ·exact .inr (.inr h)
   ·rintro (h | h | h)
    ·exact .inr (.inl h)
    ·exact .inl h
    ·exact .inr (.inr h)
  | false=>simp
theorem MV {v:Ver}:∀ {P Q:List Ver},(∀ p∈P,A0 p v=true)->(∀ q∈Q,A0 q v=false)->EZ v (P++Q)=P++v :: Q
 | [],[],_,_=>rfl
 | [],q :: Q,_,hq=>by simp only[zdE,EZ];rw[hq q (by simp),cond_false]
 | p :: P,Q,hp,hq=>by simp only[zdO,EZ];rw[hp p (by simp),cond_true,MV (λx hx=>hp x (by simp[hx])) hq]
theorem P8 {v:Ver}:∀ {l:List Ver},I2 l->I2 (EZ v l)
 | [],_=>by simp[EZ,I2]
 | u :: r,h=>by
  unfold I2 at h ⊢;rw[zeA] at h;simp only[EZ];cases hl:A0 u v with
  | true =>
   rw[cond_true,zeA];refine ⟨λx hx=>?_,P8 (l:=r) h.2⟩;rcases insF_mem.1 hx with rfl | hx
   ·rw[Jf] at hl;rw[Ks];omega
   ·exact h.1 x hx
  | false =>
   rw[cond_false,zeA,zeA];refine ⟨λx hx=>?_,h⟩;rcases zdf.1 hx with rfl | hx
   ·exact hl
   ·have:=h.1 x hx;rw[Ks] at this hl ⊢;omega
def zcx (u v:Ver):Int:=if (if HQ u.tag.time v.tag.time=0 then HQ u.tag.place v.tag.place else HQ u.tag.time v.tag.time)=0 then HQ v.key u.key else (if HQ u.tag.time v.tag.time=0 then HQ u.tag.place v.tag.place else HQ u.tag.time v.tag.time)
theorem Nd {a b:Int}:(HQ a b<0<->a<b)/\(HQ a b=0<->a=b):=by
 unfold HQ;constructor
 ·constructor
  ·intro h;split at h
   ·assumption
   ·split at h<;>omega
  ·intro h;rw[if_pos h];decide
 ·constructor
  ·intro h;split at h
   ·omega
   ·split at h<;>omega
  ·intro h;subst h;simp
theorem Wy (hk:u.key<v.key):decide (zcx v u<0) = !A0 u v:=by
 rw[zed,decide_eq_true_eq,zdR,Ks];unfold zcx;obtain ⟨t1,t2⟩:=Nd (a:=v.tag.time) (b:=u.tag.time);obtain ⟨p1,p2⟩:=Nd (a:=v.tag.place) (b:=u.tag.place);obtain ⟨k1,k2⟩:=Nd (a:=u.key) (b:=v.key);by_cases ht:HQ v.tag.time u.tag.time=0
 ·rw[if_pos ht];by_cases hp:HQ v.tag.place u.tag.place=0
  ·rw[if_pos hp];have:=t2.1 ht;have:=p2.1 hp;have:=k1.2 hk;omega
  ·rw[if_neg hp,p1];have:=t2.1 ht;have:¬ v.tag.place=u.tag.place:=λh=>hp (p2.2 h);omega
 ·rw[if_neg ht,if_neg ht,t1];have:¬ v.tag.time=u.tag.time:=λh=>ht (t2.2 h);omega
section
variable {lo:Nat}{h:Heap}{F F' G:List Nat}{a a' av:Pq}{c c' cv:Nq}
theorem zav:Af lo 301 [.agg (u.cs a c),.agg (v.cs a' c')] h=some (Iv (zcx u v),h) :=
 Mu (h':=h ++ [.rows 1 3 false [[Iv (if HQ u.tag.time v.tag.time=0 then HQ u.tag.place v.tag.place else HQ u.tag.time v.tag.time)],[Iv (HQ v.key u.key)]]]) (by
  simp only[NZ,Ac,Ab,Qf,R7];rfl)
theorem YT {n j:Nat} (hs:RVers false h [.sl 6 a n c] l F) (hj:j+1<l.length) (hnd:F.Nodup) (hlo:∀ b∈F,lo<=b) :
  ∃ o s1 a1 c1 s2 a2 c2,a=some o/\ld h o.1 (o.2+(j+1)) 0 6=some [Iv l[j+1].key,Iv l[j+1].tag.time,Iv l[j+1].tag.place,s2,.str l[j+1].text,.bool l[j+1].gone]/\(∀ {T:Type} (K:Pq->Nat->Nq->Option T),eS 2 s2 K=K a2 l[j+1].past.length c2) /\
   ld h o.1 (o.2+j) 0 6=some [Iv l[j].key,Iv l[j].tag.time,Iv l[j].tag.place,s1,.str l[j].text,.bool l[j].gone]/\(∀ {T:Type} (K:Pq->Nat->Nq->Option T),eS 2 s1 K=K a1 l[j].past.length c1) /\
   ∃ h1 h2 F',st lo h o.1 (o.2+(j+1)) 0 (l[j].cs a1 c1)=some h1/\st lo h1 o.1 (o.2+j) 0 (l[j+1].cs a2 c2)=some h2/\RVers false h2 [.sl 6 a n c] ((l.set (j+1) l[j]).set j l[j+1]) F'/\Mv h F h2 F':=by
 have hn:=hs.val;subst hn;obtain ⟨R1,x1,y1,e1,g⟩:=hs;injection e1 with e1 _;injection e1 with e0 e2 _ e3;subst e0;subst e2;subst e3;cases a with
 | none=>obtain ⟨rfl,_⟩:=g;simp at hj
 | some p =>
 obtain ⟨b,i⟩:=p;obtain ⟨_,rs,Fs,g1,g2,g3,g4,g5,rfl⟩:=g;have hjl:j<l.length:=by omega
 obtain ⟨row1,F1,r1,f1,el1⟩:=g5.get (Dj hjl);obtain ⟨row2,F2,r2,f2,el2⟩:=g5.get (Dj hj);rw[zew hjl,zdz] at r1;rw[zew hj,zdz] at r2;obtain ⟨s1,a1,c1,rfl,es1,hp1⟩:=el1.form;obtain ⟨s2,a2,c2,rfl,es2,hp2⟩:=el2.form;have hlob:=hlo b (by simp);have hblt:b<h.length:=(EA g1).1;rw[zdg] at hnd;have e4:=DM (lo:=lo) (cs:=l[j].cs a1 c1) (j:=0) g1 hlob r2 (GC rfl);refine ⟨(b,i),s1,a1,c1,s2,a2,c2,rfl,by rw[BA g1 r2];rfl,es2,by rw[BA g1 r1];rfl,es1,h.set b (.rows 6 (Pr false) false (rs.set (i+(j+1)) (l[j].cs a1 c1))),h.set b (.rows 6 (Pr false) false ((rs.set (i+(j+1)) (l[j].cs a1 c1)).set (i+j) (l[j+1].cs a2 c2))),b ::((Fs.set (j+1) F1).set j F2).flatten,e4,?_,?_,?_⟩
 ·have hb1:(h.set b (.rows 6 (Pr false) false (rs.set (i+(j+1)) (l[j].cs a1 c1))))[b]?=some (.rows 6 (Pr false) false (rs.set (i+(j+1)) (l[j].cs a1 c1))):=by simp[hblt]
  have hr1:(rs.set (i+(j+1)) (l[j].cs a1 c1))[i+j]?=some [Iv l[j].key,Iv l[j].tag.time,Iv l[j].tag.place,s1,.str l[j].text,.bool l[j].gone]:=by rw[zdd (by omega)];exact r1
  rw[DM (lo:=lo) (cs:=l[j+1].cs a2 c2) (j:=0) hb1 hlob hr1 (GC rfl),zem]
 ·have hl1:∀ (rs:List (List V)) k (hk:k<l.length) row',((rs.set (i+k) row').drop i).take l.length=((rs.drop i).take l.length).set k row':=λrs k hk row'=>by rw[List.drop_set,if_neg (by omega),show i+k - i=k by omega,List.take_set]
  refine ⟨6,some (b,i),c,by simp,rfl,(rs.set (i+(j+1)) (l[j].cs a1 c1)).set (i+j) (l[j+1].cs a2 c2),(Fs.set (j+1) F1).set j F2,by simp[hblt],by simpa using g2,λq hq=>by simpa using g3 q hq,g4,?_,rfl⟩;rw[zdK,zdK,hl1 _ j hjl,hl1 _ (j+1) hj];have he:EAll (RVer false) h ((((rs.drop i).take l.length).set (j+1) (l[j].cs a1 c1)).set j (l[j+1].cs a2 c2)) ((l.set (j+1) l[j]).set j l[j+1]) ((Fs.set (j+1) F1).set j F2):=(g5.set (k:=j+1) ⟨_,rfl,hp1⟩).set (k:=j) ⟨_,rfl,hp2⟩;refine he.fr rver_ok.fr λy hy=>zdd λe=>?_;rcases EJ hy with q | q
  ·rcases EJ q with q | q
   ·exact hnd.1 (e ▸ q)
   ·exact hnd.1 (e ▸ Ga f1 q)
  ·exact hnd.1 (e ▸ Ga f2 q)
 ·have hperm:((Fs.set (j+1) F1).set j F2).Perm Fs:=by
   obtain ⟨hj1,e1⟩:=EA f1;obtain ⟨hj2,e2⟩:=EA f2;have hd:Fs=Fs.take j++F1 :: F2 :: Fs.drop (j+2):=by conv=>lhs;rw[<- zdG j Fs,zdn hj1,e1,zdn hj2,e2]
   have hl:(Fs.take j).length=j:=by rw[zdr];omega
   have hsw:(Fs.set (j+1) F1).set j F2=Fs.take j++F2 :: F1 :: Fs.drop (j+2):=by
    conv=>lhs;rw[hd]
    rw[zes _ _ (by omega),hl,show j+1 - j=1 by omega,zes _ _ (by omega),hl,zeJ];rfl
   rw[hsw];conv=>rhs;rw[hd]
   exact List.Perm.append_left _ (List.Perm.swap _ _ _)
  have hpf:=hperm.flatten;refine ⟨by simp,λy hy hF=>?_,?_,λy hy=>?_⟩
  ·rw[zdf,not_or] at hF;exact zdd (Ne.symm hF.1)
  ·rw[zdg];exact ⟨λhm=>hnd.1 (hpf.mem_iff.1 hm),hpf.nodup_iff.2 hnd.2⟩
  ·rcases zdf.1 hy with rfl | hy
   ·exact .inl (by simp)
   ·exact .inl (by simp[hpf.mem_iff.1 hy])
theorem W0 {n x2:Nat}{x8:Int}:∀ (m:Nat) (P Q R:List Ver) (hh:Heap) (F:List Nat),P.length=m->(∀ u∈P,u.key<v.key)->I2 P->(∀ q∈Q,A0 q v=false)->RVers false hh [.sl 6 a n c] (P++v ::(Q++R)) F->F.Nodup->(∀ b∈F,lo<=b)->lo<=hh.length->n<=1048576 ->
  ∃ h' F',AG lo a n c 0 x2 301 [] x8 (m:Nat) hh=Aq lo a n c 0 x2 301 [] (Am (x8+1)) h'/\RVers false h' [.sl 6 a n c] (EZ v (P++Q)++R) F'/\Mv hh F h' F':=by
 intro m;induction m with
 | zero =>intro P Q R hh F hP hkey hso hQ hs hnd hlo hl0 hn;have:P = []:=zdh hP;subst this;rw[AG.e,Ak (by omega)];have e:=MV (v:=v) (P := []) (Q:=Q) (by simp) hQ;rw[e];exact ⟨hh,F,rfl,by simpa using hs,Mv.refl hnd⟩
 | succ m ih =>
  intro P Q R hh F hP hkey hso hQ hs hnd hlo hl0 hn;have hne:P ≠ []:=λh0=>by rw[h0] at hP;simp at hP
  obtain ⟨P',u,rfl⟩:∃ P' u,P=P' ++ [u]:=⟨P.dropLast,P.getLast hne,(List.dropLast_concat_getLast hne).symm⟩;have hP':P'.length=m:=by simpa using hP
  have hval:=hs.val;have hlen:(P' ++ [u]++v ::(Q++R)).length=m+2+(Q++R).length:=by simp;omega
  obtain ⟨o,s1,a1,c1,s2,a2,c2,ha,hld2,es2,hld1,es1,h1,h2,F2,e4,e5,r6,m6⟩:=YT (lo:=lo) (j:=m) hs (by rw[hlen];omega) hnd hlo;have hu:(P' ++ [u]++v ::(Q++R))[m]'(by rw[hlen];omega)=u:=by rw[List.getElem_append_left (by simp;omega),zeZ (by omega)];simp
  have hv:(P' ++ [u]++v ::(Q++R))[m+1]'(by rw[hlen];omega)=v:=by rw[zeZ (by simp;omega)];simp[hP']
  rw[hu] at hld1 es1 e4 r6;rw[hv] at hld2 es2 e5 r6;have hsw:((P' ++ [u]++v ::(Q++R)).set (m+1) u).set m v=P'++v ::((u :: Q)++R):=by rw[zdq,zes _ _ (by omega),hP',show m+1 - m=1 by omega,zes _ _ (by omega),hP',zeJ];rfl
  rw[hsw] at r6;have hcmp:=zav (lo:=lo) (h:=hh) (u:=v) (v:=u) (a:=a2) (c:=c2) (a':=a1) (c':=c1);simp only[Ver.cs] at hcmp e4 e5;have hkuv:=hkey u (by simp);have hmn:m+1<n:=by rw[hval,hlen];omega
  rw[AG.e,Al (by omega),Ae hmn,ha,Ad,Bd,hld2,Ad,Aa,Ab,Aa,Ab,Aa,Ab,Aa,es2,Aa,BG,Aa,AL,Ah,
   show Am (((m+1:Nat):Int) - 1)=((m:Nat):Int) by rw[wr (by omega) (by omega)];omega,Ae (show m<n by omega),Ad,Bd,hld1,Ad,Aa,Ab,Aa,Ab,Aa,Ab,Aa,es1,Aa,BG,Aa,AL,Ah,show ∀ x:List V,CQ x []=x from λx=>by simp[CQ],hcmp,Ac,Ab]
  cases hl:A0 u v with
  | true =>
   have hc:=Wy hkuv;rw[hl] at hc;rw[Ak (of_decide_eq_false hc)];have hso':∀ p∈P' ++ [u],A0 p v=true:=λp hp=>by
    rcases zc9.1 hp with hp | hp
    ·unfold I2 at hso;rw[List.pairwise_append] at hso;have:=hso.2.2 p hp u (by simp);rw[Ks] at this;rw[Jf] at hl ⊢;omega
    ·rw[zdv] at hp;subst hp;exact hl
   rw[MV hso' hQ];exact ⟨hh,F,by rw[<- ha],by rw[<- ha];simpa using hs,Mv.refl hnd⟩
  | false =>
   have hc:=Wy hkuv;rw[hl] at hc;obtain ⟨h3,F3,e7,r7,m7⟩:=ih P' (u :: Q) R h2 F2 hP' (λx hx=>hkey x (by simp[hx])) (by unfold I2 at hso ⊢;rw[List.pairwise_append] at hso;exact hso.1) (λq hq=>by
    rcases zdf.1 hq with rfl | hq
    ·exact hl
    ·exact hQ q hq) r6 m6.nd (λb hb=>m6.ge hl0 hlo b hb) (zc8 hl0 m6.le) hn
   rw[Al (of_decide_eq_true hc),Ae (show m<n by omega),Ad,hld1,Ad,Aa,Ab,Aa,Ab,Aa,Ab,Aa,es1,Aa,BG,Aa,AL,Ah,Ae hmn,Ad,hld2,Ad,Aa,Ab,Aa,Ab,Aa,Ab,Aa,es2,Aa,BG,Aa,AL,Ah,
    Ae hmn,Ad,e4,Ad,Ae (show m<n by omega),Ad,e5,Ad,<- ha,e7]
   refine ⟨h3,F3,rfl,?_,m6.trans m7⟩;rw[zdq P' [u] Q];exact r7
theorem Rh {n:Nat}:∀ (R S:List Ver) (hh:Heap) (F:List Nat),I2 S->(∀ u∈S,∀ w∈R,u.key<w.key)->R.Pairwise (λp u=>p.key<u.key)->RVers false hh [.sl 6 a n c] (S++R) F->F.Nodup->(∀ b∈F,lo<=b)->lo<=hh.length->n<=1048576 ->
  ∃ h' F',Aq lo a n c 0 (n:Nat) 301 [] (S.length:Nat) hh=some (.tup [],h')/\RVers false h' [.sl 6 a n c] (R.foldl (λacc v=>EZ v acc) S) F'/\Mv hh F h' F'
 | [],S,hh,F,_,_,_,hs,hnd,_,_,_=>by have hval:=hs.val;rw[zdS] at hval hs;rw[Aq.e,Ak (by omega)];exact ⟨hh,F,rfl,hs,Mv.refl hnd⟩
 | v :: R,S,hh,F,hso,hk,hp,hs,hnd,hlo,hl,hn=>by
  have hval:=hs.val;rw[zdt,zea] at hval;rw[zeA] at hp;obtain ⟨h1,F1,e1,r1,m1⟩:=W0 (lo:=lo) (v:=v) (n:=n) (x2:=n) (x8:=(S.length:Nat)) S.length S [] R hh F rfl (λu hu=>hk u hu v (by simp)) hso (by simp) hs hnd hlo hl hn;rw[zdS] at r1;obtain ⟨h2,F2,e2,r2,m2⟩:=Rh R (EZ v S) h1 F1 (P8 hso) (λu hu w hw=>by
   rcases insF_mem.1 hu with rfl | hu
   ·exact hp.1 w hw
   ·exact hk u hu w (by simp[hw])) hp.2 r1 m1.nd (λb hb=>m1.ge hl hlo b hb) (zc8 hl m1.le) hn
  rw[Aq.e,Al (by omega),e1,Ar (by omega)];rw[LE] at e2;exact ⟨h2,F2,e2,r2,m1.trans m2⟩
def Lv (l:List Ver):List Ver:=l.foldl (λacc v=>EZ v acc) []
theorem RH (hs:RVers false h [.sl 6 a l.length c] l F) (hk:l.Pairwise λp u=>p.key<u.key) (hnd:F.Nodup) (hlo:∀ b∈F,lo<=b) (hl:lo<=h.length) (hn:l.length<=1048576) :
  ∃ h' F',Af lo 314 [.sl 6 a l.length c,Iv 0,Iv (l.length:Nat),.fn 301 []] h=some (.tup [],h')/\RVers false h' [.sl 6 a l.length c] (Lv l) F'/\Mv h F h' F':=by
 suffices hq:∃ h' F',Aq lo a l.length c 0 (l.length:Nat) 301 [] (Am (0+1)) h=some (V.tup [],h')/\RVers false h' [.sl 6 a l.length c] (Lv l) F'/\Mv h F h' F' from hq.imp λh' hq=>hq.imp λF' hq=>⟨Ff hq.1,hq.2⟩
 rw[show Am (0+1)=((1:Nat):Int) from Ar (k:=0) (by decide)];cases hl0:l with
 | nil =>rw[hl0] at hs;rw[Aq.e,Ak (by simp)];exact ⟨h,F,rfl,hs,Mv.refl hnd⟩
 | cons x r =>rw[hl0] at hs hk hn;rw[zeA] at hk;exact Rh (n:=(x :: r).length) r [x] h F (by simp[I2]) (λu hu w hw=>by rw[zdv] at hu;subst hu;exact hk.1 w hw) hk.2 hs hnd hlo hl hn
end


variable {α:Type}{El:Rel α}{l:List α}
theorem L7 {h:Heap}{lo R e n bytes:Nat}{a:Pq}{c:Nq}{ys:List α}{F:List Nat}{xs:List (List V)}{Gs:List (List Nat)} (hfr:El.Fr)
  (hs:Sli false R e El h [.sl R a n c] l F) (hx:EAll El h xs ys Gs) (hb:0<bytes) (hsz:(l.length+ys.length)*bytes<=140737488355328) (hlo:∀ b∈F,lo<=b) (hl:lo<=h.length)
  (hnd:(F++Gs.flatten).Nodup) (hF:∀ b∈F++Gs.flatten,b<h.length) :
  ∃ a' c' h' F',(∀ {R':Type} (K:V->Heap->Option R'),Df lo e R bytes (.sl R a n c) xs h K=K (.sl R a' (l.length+ys.length) c') h')/\Sli false R e El h' [.sl R a' (l.length+ys.length) c'] (l++ys) F'/\h.length<=h'.length /\
   (∀ b,b<h.length->b∉F->h'[b]?=h[b]?)/\(∀ b∈F',b∈F++Gs.flatten\/(h.length<=b/\b<h'.length))/\F'.Nodup:=by
 cases ys with
 | nil =>have hx0:xs = []:=zdh hx.len.1;have hn:=hs.val;subst hx0;subst hn;rw[zda] at hnd;exact ⟨a,c,h,F,λK=>rfl,by rw[zdS];exact hs,zdb _,λ_ _ _=>rfl,λb hb => .inl (by simp[hb]),hnd.1⟩
 | cons y ys=>exact Sli.push hfr hs hx hb hsz hlo hl hnd hF (by simp)
theorem Sli.parts {R e:Nat}{h:Heap}{a:Pq}{c:Nq}{F:List Nat} (hs:Sli false R e El h [.sl R a l.length c] l F) (hnd:F.Nodup) :
  ∃ Fs:List (List Nat),Fs.flatten.Nodup/\(∀ y∈Fs.flatten,y∈F)/\(∀ b i,a=some (b,i)->b∈F/\b∉Fs.flatten)/\∀ k,k<=l.length->∃ rP rQ,EAll El h rP (l.take k) (Fs.take k)/\EAll El h rQ (l.drop k) (Fs.drop k) /\
   (∀ {T:Type} (h':Heap),(∀ b i,a=some (b,i)->h'[b]?=h[b]?)->∀ K:List (List V)->Option T,(AA a l.length c none (some (Iv (k:Nat))) none λa n c=>Av R h' (.sl R a n c) K)=K rP) /\
   (∀ {T:Type} (h':Heap),(∀ b i,a=some (b,i)->h'[b]?=h[b]?)->∀ K:List (List V)->Option T,(AA a l.length c (some (Iv (k:Nat))) none none λa n c=>Av R h' (.sl R a n c) K)=K rQ):=by
 obtain ⟨R1,a1,c1,e1,g⟩:=hs;injection e1 with e1 _;injection e1 with e0 e2 _ e3;subst e2;subst e3;cases a with
 | none =>
  obtain ⟨rfl,rfl,rfl⟩:=g;refine ⟨[],by simp,by simp,λb i h=>by simp at h,λk hk=>?_⟩;have hk0:k=0:=by simpa using hk
  subst hk0;refine ⟨[],[],trivial,trivial,λh' _ K=>?_,λh' _ K=>?_⟩
  ·unfold AA FI JK Km;simp only[Ab,zeo];rw[CO ⟨by simp,by simp⟩];simp[Av]
  ·unfold AA FI JK Km;simp only[Ab,zeo];rw[CO ⟨by simp,by simp⟩];simp[Av,MO]
 | some p =>
  obtain ⟨b,i⟩:=p;obtain ⟨_,rs,Fs,g1,g2,g3,_,g5,rfl⟩:=g;rw[zdg] at hnd;have key:∀ {T:Type} (h':Heap),h'[b]?=h[b]?->∀ (K:List (List V)->Option T) (j m:Nat) (c8:Nq),j+m<=rs.length->Av R h' (.sl R (some (b,j)) m c8) K=K ((rs.drop j).take m):=λh' hb' K j m c8 hj=>by
   simp only[Av,JE,CT];cases m with
   | zero=>simp
   | succ m =>
    simp only;rw[show Ev h' b j (m+1)=some ((rs.drop j).take (m+1)) by
     simp only[Ev,Heap.rows?,hb',g1,zdH];rw[DX hj]]
    rfl
  refine ⟨Fs,hnd.2,λy hy=>zd4 _ hy,λb' i' e=>by injection e with e;injection e with e1 e2;subst e1;exact ⟨by simp,hnd.1⟩,λk hk=>?_⟩;have hrP:((rs.drop i).take l.length).take k=(rs.drop i).take k:=by rw[zeY,zeT hk]
  have hrQ:((rs.drop i).take l.length).drop k=(rs.drop (i+k)).take (l.length - k):=by rw[List.drop_take,zey]
  refine ⟨(rs.drop i).take k,(rs.drop (i+k)).take (l.length - k),by rw[<- hrP];exact g5.take k,by rw[<- hrQ];exact g5.drop k,λh' hh K=>?_,λh' hh K=>?_⟩
  ·unfold AA FI JK Km;simp only[Ab,zeo,Bd];have:=key h' (hh b i rfl) K i k c (by omega);cases c with
   | none=>simp only;rw[CO ⟨by omega,by omega⟩];exact this
   | some N=>simp only;rw[CO ⟨by omega,by have:=(g3 N rfl).1;omega⟩];exact this
  ·unfold AA FI JK Km;simp only[Ab,zeo,Bd];rw[CO ⟨by omega,by omega⟩];cases c with
   | none=>exact key h' (hh b i rfl) K (i+k) (l.length - k) none (by omega)
   | some N =>
    have hN:=(g3 N rfl).1;unfold MO;simp only;cases hb:Nat.beq N k with
    | false=>rw[Ax];exact key h' (hh b i rfl) K (i+k) (l.length - k) _ (by omega)
    | true =>have:=zdi hb;rw[Ao,show l.length - k=0 by omega];simp[Av,Be]
def GU (out:List Ver) (x:Ver×Ver):List Ver:=bif A0 x.2 x.1 then EZ x.1 out else out
def D7 (s t:List Ver):List Ver:=(s.zip t).foldl GU []
theorem UB {v:Ver}:∀ {l:List Ver}{k:Nat},k<=l.length->(∀ i (hi:i<l.length),i<k->A0 l[i] v=true)->(∀ hk:k<l.length,A0 l[k] v=false)->EZ v l=l.take k++v :: l.drop k
 | [],k,hk,_,_=>by simp[EZ]
 | u :: r,0,hk,_,h2=>by have:=h2 (by simp);simp only[List.getElem_cons_zero] at this;simp[EZ,this]
 | u :: r,k+1,hk,h1,h2=>by have h0:=h1 0 (by simp) (by omega);simp only[List.getElem_cons_zero] at h0;simp only[EZ,h0,cond_true,List.take_succ_cons,List.drop_succ_cons,zdO];rw[UB (l:=r) (k:=k) (by simpa using hk) (λi hi hik=>by have:=h1 (i+1) (by simpa using hi) (by omega);simpa using this) (λhkr=>by have:=h2 (by simpa using hkr);simpa using this)]
section
variable {lo:Nat}{h:Heap}{F F' G:List Nat}{a a' av:Pq}{c c' cv:Nq}
theorem Na (ok:El.Ok) {R e bytes:Nat}{rows:List (List V)}{Fs:List (List Nat)} (hx:EAll El h rows l Fs) (hnd:Fs.flatten.Nodup) (hF:∀ y∈Fs.flatten,y<h.length) (hb:0<bytes) (hsz:l.length*bytes<=140737488355328) (hl:lo<=h.length) :
  ∃ a' c' h' F',(∀ {T:Type} (K:V->Heap->Option T),Df lo e R bytes (.sl R (some (h.length,0)) 0 (some 0)) rows (h ++ [.rows R e false []]) K=K (.sl R a' l.length c') h')/\Sli false R e El h' [.sl R a' l.length c'] l F'/\h.length<h'.length/\(∀ y,y<h.length->h'[y]?=h[y]?) /\
   (∀ y∈F',y∈Fs.flatten\/(h.length<=y/\y<h'.length))/\F'.Nodup:=by
 have m0:Mv h [] (h ++ [.rows R e false []]) [h.length]:=Mv.last;have hfresh:Sli false R e El (h ++ [.rows R e false []]) [.sl R (some (h.length,0)) 0 (some 0)] [] [h.length]:=Sli.fresh (zdb _);obtain ⟨a',c',h',F',p1,p2,p3,p4,p5,p6⟩:=L7 (lo:=lo) (bytes:=bytes) ok.fr hfresh (xs:=rows) (ys:=l) (Gs:=Fs) (hx.fr ok.fr λy hy=>m0.fr y (hF y hy) (by simp)) hb (by simpa using hsz) (by simp;omega) (by simp;omega)
  (by rw[zdO,zdE,zdg];exact ⟨λhm=>by have:=hF _ hm;omega,hnd⟩) (λy hy=>by
   rw[zdO,zdE,zdf] at hy;rcases hy with rfl | hy
   ·simp
   ·have:=hF y hy;simp;omega)
 simp only[zek,zdy,zdE] at p1 p2;refine ⟨a',c',h',F',p1,p2,by simp at p3;omega,λy hy=>?_,λy hy=>?_,p6⟩
 ·rw[p4 y (by simp;omega) (by simp;omega)];exact m0.fr y hy (by simp)
 ·simp at p3;rcases p5 y hy with g | g
  ·rw[zdO,zdE,zdf] at g;rcases g with rfl | g
   ·exact .inr (by omega)
   ·exact .inl g
  ·simp at g;exact .inr (by omega)
theorem E1 {Fs:List (List Nat)}{k:Nat} (hnd:Fs.flatten.Nodup):(Fs.take k).flatten.Nodup/\(Fs.drop k).flatten.Nodup/\∀ x∈(Fs.take k).flatten,∀ y∈(Fs.drop k).flatten,x≠y:=by rw[<- zdG k Fs,zdJ,zda] at hnd;exact hnd
theorem VC {s t:List Ver}{a1 a2:Pq}{c1 c2:Nq}{F1 F2:List Nat} (hs:RVers false h [.sl 6 a1 s.length c1] s F1) (ht:RVers false h [.sl 6 a2 t.length c2] t F2) (h4:s.length=4) (h4':t.length=4) (hpn:∀ v∈s,v.past.length<=1048576) (hl:lo<=h.length) :
  ∃ a' c' h' F',Af lo 291 [.agg [.sl 6 a1 s.length c1],.agg [.sl 6 a2 t.length c2]] h=some (.sl 6 a' (D7 s t).length c',h')/\RVers false h' [.sl 6 a' (D7 s t).length c'] (D7 s t) F'/\Mv h [] h' F':=by
 suffices hq:∃ a' c' h' F',_=some (V.sl 6 a' (D7 s t).length c',h')/\RVers false h' [.sl 6 a' (D7 s t).length c'] (D7 s t) F'/\Mv h [] h' F' from by obtain ⟨a',c',h',F',e,hr⟩:=hq;exact ⟨a',c',h',F',S4 e,hr⟩
 have hzl:(s.zip t).length=4:=by rw[zeU];omega
 have one:∀ m i,m+i=4->∀ hh ax cx (out:List Ver) Fx,RVers false hh [.sl 6 ax out.length cx] out Fx->Mv h [] hh Fx->out.length<=i->∃ a' c' h' F',
   B7 lo ax out.length cx (i:Nat) a1 s.length c1 a2 t.length c2 hh=some (.sl 6 a' (((s.zip t).drop i).foldl GU out).length c',h')/\RVers false h' [.sl 6 a' (((s.zip t).drop i).foldl GU out).length c'] (((s.zip t).drop i).foldl GU out) F'/\Mv h [] h' F':=by
  intro m;induction m with
  | zero =>intro i hi hh ax cx out Fx hr hm hlen;rw[B7.e,Ak (by omega),zdV (by omega)];exact ⟨ax,cx,hh,Fx,rfl,hr,hm⟩
  | succ m ih =>
   intro i hi hh ax cx out Fx hr hm hlen;have his:i<s.length:=by omega
   have hit:i<t.length:=by omega
   have hs':=hm.keep0 rvers_ok hs;have ht':=hm.keep0 rvers_ok ht;obtain ⟨o1,s1,b1,d1,H1,ha1,_,_,_,_,_,_,hl1,hl1',es1,hp1,_⟩:=RVers.all hs' his;obtain ⟨o2,s2,b2,d2,H2,ha2,_,_,_,_,_,_,hl2,_,_,_,_⟩:=RVers.all ht' hit;have hzi:i<(s.zip t).length:=by omega
   rw[zdn hzi,zd2,zeR];have hlf:GU out (s[i],t[i])=bif A0 t[i] s[i] then EZ s[i] out else out:=rfl;rw[hlf,B7.e,Al (by omega),Ae hit,ha2,Ad,Bd,hl2,Ad,Aa,Ab,Aa,Ab,Ah,Ae his,ha1,Ad,hl1,Ad,Aa,Ab,Aa,Ab,Ah,Ci,Ac,At,<- ha1,<- ha2];show ∃ a' c' h' F',br (A0 t[i] s[i]) _ _=_/\_;cases hless:A0 t[i] s[i] with
   | false =>rw[Ax,cond_false,Ar (by omega)];exact ih (i+1) (by omega) hh ax cx out Fx hr hm (by omega)
   | true =>
   rw[Ao,cond_true];have put:∀ k,k<=out.length->EZ s[i] out=out.take k++s[i] :: out.drop k->∃ a' c' h' F',(AA ax out.length cx none (some (Iv (k:Nat))) none λa_36 n_37 c_38=>Av 6 (hh ++ [.rows 6 43 false []]) (.sl 6 a_36 n_37 c_38) λx_39=>Df lo 43 6 72 (.sl 6 (some ((List.length hh),0)) 0 (some 0)) x_39 (hh ++ [.rows 6 43 false []]) λv_40 h_41=>eS 6 (v_40) λa_42 n_43 c_44=>Ap ((i:Nat):Int) s.length (eO a1 λo_45=>eO (ld h_41 (o_45.1) ((o_45.2)+(((i:Nat):Int).toNat)) 0 6) λo_46=>eC o_46 λv_47 l_48=>eI .i64 v_47 λn_49=>eC l_48 λv_50 l_51=>eI .i64 v_50 λn_52=>eC l_51 λv_53 l_54=>eI .i64 v_53 λn_55=>eC l_54 λv_56 l_57=>eS 2 (v_56) λa_58 n_59 c_60=>eC l_57 λv_61 l_62=>eT v_61 λs_63=>eC l_62 λv_64 l_65=>eBv v_64 λb_66=>eN l_65 (Aj (Af lo 187 [.agg [Iv (n_49),Iv (n_52),Iv (n_55),.sl 2 a_58 n_59 c_60,.str (s_63),.bool (b_66)]] h_41) λv_67 h_68=>eA v_67 λc_69=>eC c_69 λv_70 l_71=>eI .i64 v_70 λn_72=>eC l_71 λv_73 l_74=>eI .i64 v_73 λn_75=>eC l_74 λv_76 l_77=>eI .i64 v_76 λn_78=>eC l_77 λv_79 l_80=>eS 2 (v_79) λa_81 n_82 c_83=>eC l_80 λv_84 l_85=>eT v_84 λs_86=>eC l_85 λv_87 l_88=>eBv v_87 λb_89=>eN l_88 (Av 6 (h_68 ++ [.rows 6 43 false [[Iv (n_72),Iv (n_75),Iv (n_78),.sl 2 a_81 n_82 c_83,.str (s_86),.bool (b_89)]]]) (.sl 6 (some ((List.length h_68),0)) 1 (some 1)) λx_90=>Df lo 43 6 72 (.sl 6 a_42 n_43 c_44) x_90 (h_68 ++ [.rows 6 43 false [[Iv (n_72),Iv (n_75),Iv (n_78),.sl 2 a_81 n_82 c_83,.str (s_86),.bool (b_89)]]]) λv_91 h_92=>eS 6 (v_91) λa_93 n_94 c_95=>AA ax out.length cx (some (Iv (k:Nat))) none none λa_96 n_97 c_98=>Av 6 h_92 (.sl 6 a_96 n_97 c_98) λx_99=>Df lo 43 6 72 (.sl 6 a_93 n_94 c_95) x_99 h_92 λv_100 h_101=>eS 6 (v_100) λa_102 n_103 c_104=>B7 lo a_102 n_103 c_104 (Am (((i:Nat):Int)+1)) a1 s.length c1 a2 t.length c2 h_101))))=some (V.sl 6 a' (((s.zip t).drop (i+1)).foldl GU (EZ s[i] out)).length c',h') /\
     RVers false h' [.sl 6 a' (((s.zip t).drop (i+1)).foldl GU (EZ s[i] out)).length c'] (((s.zip t).drop (i+1)).foldl GU (EZ s[i] out)) F'/\Mv h [] h' F':=by
    intro k hk hins;have hbx:=rvers_ok.bd _ _ _ _ hr;obtain ⟨Fs,nF,sF,own,cuts⟩:=hr.parts hm.nd;obtain ⟨rP,rQ,eP,eQ,kP,kQ⟩:=cuts k hk;obtain ⟨nP,nQ,dPQ⟩:=E1 (k:=k) nF;have inP:∀ y∈(Fs.take k).flatten,y∈Fs.flatten:=λy hy=>by rw[<- zdG k Fs,zdJ];simp[hy]
    have inQ:∀ y∈(Fs.drop k).flatten,y∈Fs.flatten:=λy hy=>by rw[<- zdG k Fs,zdJ];simp[hy]
    have hFl:∀ y∈Fs.flatten,y<hh.length:=λy hy=>hbx y (sF y hy);have hlh:lo<=hh.length:=zc8 hl hm.le;have htl:(out.take k).length=k:=by rw[zdr];omega
    have hdl:(out.drop k).length=out.length - k:=by rw[zeb]
    obtain ⟨a3,c3,h3,F3,e3,r3,l3,fr3,sub3,nd3⟩:=Na (lo:=lo) (R:=6) (e:=Pr false) (bytes:=72) rver_ok eP nP (λy hy=>hFl y (inP y hy)) (by decide) (by omega) hlh;have m3:Mv hh [] h3 []:=⟨by omega,λy hy _=>fr3 y hy,by simp,by simp⟩;have hs3:=m3.keep0 rvers_ok hs';obtain ⟨o4,s4,b4,d4,H4,ha4,ho4,es4,hp4,_⟩:=hs3.get his;obtain ⟨a5,c5,h5,F5,e5,r5,m5⟩:=Em (lo:=lo) (v:=s[i]) hp4 (by omega) (hpn _ (zc7 his));obtain ⟨a6,c6,h6,F6,e6,r6,m6⟩:=Dv (lo:=lo) (bytes:=72) (e:=43) rver_ok r3 (row:=s[i].cs a5 c5) (x:=s[i]) (G:=F5) (h1:=h5 ++ [.rows 6 43 false [s[i].cs a5 c5]])
     ⟨_,rfl,Mv.snoc.keep0 rtags_ok r5⟩ (m5.trans (Mv.snoc' m5.nd)) nd3 (λy hy=>by
      rcases sub3 y hy with g | g
      ·exact hm.ge hl (by simp) y (sF y (inP y g))
      ·omega) (by omega) (by decide) (by omega)
    have hQ3:∀ y∈(Fs.drop k).flatten,y∉F3/\y<h3.length:=λy hy=>by
     have:=hFl y (inQ y hy);refine ⟨λhm3=>?_,by omega⟩;rcases sub3 y hm3 with g | g
     ·exact dPQ y g y hy rfl
     ·omega
    have hQ6:∀ y∈(Fs.drop k).flatten,h6[y]?=hh[y]?:=λy hy=>by rw[m6.fr y (hQ3 y hy).2 (hQ3 y hy).1];exact fr3 y (hFl y (inQ y hy))
    have l6:=m6.le;have F6b:∀ y∈F6,y<h6.length:=rvers_ok.bd _ _ _ _ r6;obtain ⟨a7,c7,h7,F7,e7,r7,l7,fr7,sub7,nd7⟩:=L7 (lo:=lo) (bytes:=72) rver_ok.fr r6 (xs:=rQ) (ys:=out.drop k) (Gs:=Fs.drop k) (eQ.fr rver_ok.fr hQ6) (by decide) (by simp only[zdt,htl,hdl,zd0];omega) (λy hy=>m6.ge (by omega) (λy hy=>by
      rcases sub3 y hy with g | g
      ·exact hm.ge hl (by simp) y (sF y (inP y g))
      ·omega) y hy) (by omega) (by
      rw[zda];refine ⟨m6.nd,nQ,λx hx y hy e=>?_⟩;subst e;rcases m6.sub x hx with g | g
      ·exact (hQ3 x hy).1 g
      ·have:=(hQ3 x hy).2;omega) (λy hy=>by
      rcases zc9.1 hy with hy | hy
      ·exact F6b y hy
      ·have:=(hQ3 y hy).2;omega)
    have hfin:out.take k ++ [s[i]]++out.drop k=EZ s[i] out:=by rw[hins,zdq];rfl
    have hflen:(out.take k).length+1+(out.drop k).length=(EZ s[i] out).length:=by rw[LE,htl,hdl];omega
    rw[zdt,zd0,hflen] at e7 r7;rw[hfin] at r7;have m7:Mv h [] h7 F7:=by
     refine ⟨by have:=hm.le;omega,λy hy _=>?_,nd7,λy hy=>?_⟩
     ·have y1:y<hh.length:=zdj hy hm.le;have yF:y∉Fx:=λhmx=>by have:=hm.new y hmx;omega
      have y3:y∉F3:=λhm3=>by
       rcases sub3 y hm3 with g | g
       ·exact yF (sF y (inP y g))
       ·omega
      have y6:y∉F6:=λhm6=>by
       rcases m6.sub y hm6 with g | g
       ·exact y3 g
       ·omega
      rw[fr7 y (by omega) y6,m6.fr y (by omega) y3,fr3 y y1,hm.fr y hy (by simp)]
     ·refine .inr ?_;have hh':=hm.le;rcases sub7 y hy with g | g
      ·rcases zc9.1 g with g | g
       ·rcases m6.sub y g with g | g
        ·rcases sub3 y g with g | g
         ·have:=hm.new y (sF y (inP y g));have:=hFl y (inP y g);omega
         ·omega
        ·omega
       ·have:=hm.new y (sF y (inQ y g));have:=hFl y (inQ y g);omega
      ·omega
    obtain ⟨a8,c8,h8,F8,e8,r8,m8⟩:=ih (i+1) (by omega) h7 a7 c7 (EZ s[i] out) F7 r7 m7 (by rw[LE];omega);refine ⟨a8,c8,h8,F8,?_,r8,m8⟩;have mm0:Mv hh [] (hh ++ [.rows 6 43 false []]) []:=Mv.snoc;have h6x:∀ b i,ax=some (b,i)->h6[b]?=hh[b]?:=λb i e=>by
     obtain ⟨q1,q2⟩:=own b i e;have:=hbx b q1;rw[m6.fr b (by omega) λhm3=>?_,fr3 b this];rcases sub3 b hm3 with g | g
     ·exact q2 (inP b g)
     ·omega
    simp only[Ver.cs] at e6;rw[show Pr false=43 from rfl] at e3;rw[kP _ (λb i e=>mm0.fr b (hbx b (own b i e).1) (by simp)),e3,Ag,Ae his,ha4,Ad,Bd,ho4,Ad,Aa,Ab,Aa,Ab,Aa,Ab,Aa,es4,Aa,BG,Aa,AL,Ah];rw[show (V.agg [Iv s[i].key,Iv s[i].tag.time,Iv s[i].tag.place,.sl 2 b4 s[i].past.length d4,.str s[i].text,.bool s[i].gone]) = .agg (s[i].cs b4 d4) from rfl,e5,Ac,AR,Aa,Ab,Aa,Ab,Aa,Ab,Aa,Ag,Aa,BG,Aa,AL,Ah,A7,e6,Ag,kQ _ h6x,e7,Ag,Ar (by omega),<- ha4];exact e8
   have two:∀ m k,m+k=out.length->(∀ j (hj:j<out.length),j<k->A0 out[j] s[i]=true)->∃ a' c' h' F',Dn lo ax out.length cx (i:Nat) (k:Nat) a1 s.length c1 a2 t.length c2 hh=some (V.sl 6 a' (((s.zip t).drop (i+1)).foldl GU (EZ s[i] out)).length c',h') /\
     RVers false h' [.sl 6 a' (((s.zip t).drop (i+1)).foldl GU (EZ s[i] out)).length c'] (((s.zip t).drop (i+1)).foldl GU (EZ s[i] out)) F'/\Mv h [] h' F':=by
    intro m;induction m with
    | zero =>intro k hk hall;rw[Dn.e,Ak (by omega)];exact put k (by omega) (UB (by omega) hall (λh=>by omega))
    | succ m ih2 =>
     intro k hk hall;have hkl:k<out.length:=by omega
     obtain ⟨o3,s3,b3,d3,H3,ha3,_,_,_,_,_,_,hl3,_,_,_,_⟩:=RVers.all hr hkl;rw[Dn.e,Al (by omega),Ae hkl,ha3,Ad,Bd,hl3,Ad,Aa,Ab,Aa,Ab,Ah,Ae his,ha1,Ad,Bd,hl1,Ad,Aa,Ab,Aa,Ab,Ah,Ci,Ac,At,<- ha1,<- ha3];show ∃ a' c' h' F',br (A0 out[k] s[i]) _ _=_/\_;cases hlk:A0 out[k] s[i] with
     | true =>
      rw[Ao,Ar (by omega)];exact ih2 (k+1) (by omega) (λj hj hjk=>by
       by_cases e:j=k
       ·subst e;exact hlk
       ·exact hall j hj (by omega))
     | false =>rw[Ax];exact put k (by omega) (UB (by omega) hall (λ_=>hlk))
   exact two out.length 0 (by omega) (λj _ hj=>by omega)
 have m0:Mv h [] (h ++ [.rows 6 43 false []]) [h.length]:=Mv.last;obtain ⟨a',c',h',F',e,r,m⟩:=one 4 0 (by omega) (h ++ [.rows 6 43 false []]) (some (h.length,0)) (some 0) [] [h.length] (Sli.fresh (zdb _)) m0 (by simp);rw[zdX] at e r;exact ⟨a',c',h',F',e,r,m⟩
end


variable {l:List Node}{w:List Ver}
def B9 (l:List Node) (k:Nat) (w:List Ver):List Node:=match l[k]? with
 | some x=>l.set k ⟨x.store,w⟩
 | none=>l
def GP (l:List Node) (k:Nat):List Ver:=match l[k]? with
 | some x=>x.store
 | none => []
def Ce (l:List Node) (k:Nat):List Node :=
 bif decide (0<k) then (bif decide (k<(l.eraseIdx k).length) then B9 (l.eraseIdx k) (k - 1) (D7 (GP (l.eraseIdx k) (k - 1)) (GP (l.eraseIdx k) k)) else B9 (l.eraseIdx k) (k - 1) []) else l.eraseIdx k
theorem Ep {k:Nat} (hk:k<l.length):B9 l k w=l.set k ⟨l[k].store,w⟩:=by unfold B9;rw[Dj hk]
theorem C6 {k:Nat} (hk:k<l.length):GP l k=l[k].store:=by unfold GP;rw[Dj hk]
theorem CA {k:Nat}:(B9 l k w).length=l.length:=by unfold B9;split<;>simp
theorem PO {k:Nat} (hk:k<l.length) (hw:l[k].wait = []):B9 l k []=l:=by
 rw[Ep hk];have:(⟨l[k].store,[]⟩:Node)=l[k]:=by
  cases hx:l[k] with
  | mk s w=>rw[hx] at hw;simp only at hw;rw[hw]
 rw[this];exact zet hk
section
variable {lo:Nat}{h:Heap}{F F' G:List Nat}{a a' av:Pq}{c c' cv:Nq}
theorem Rl {n k:Nat}{ws:List Ver}{w:V}{h1:Heap}{Fw:List Nat} (hs:RNodes false h [.sl 2 a n c] l F) (hk:k<l.length) (hnd:F.Nodup) (hlo:∀ b∈F,lo<=b) (hw:RVers false h1 [w] ws Fw) (m:Mv h [] h1 Fw) :
  ∃ b i h2 F',a=some (b,i)/\b∈F/\st lo h1 b (i+k) 1 [w]=some h2/\RNodes false h2 [.sl 2 a n c] (B9 l k ws) F'/\Mv h F h2 F'/\(∀ y,y≠b->h2[y]?=h1[y]?):=by
 obtain ⟨b,i,rs,row,G0,ha,hbF,hbG,hb,hrow,hel,hGF,hGn,put⟩:=hs.at2 rnode_ok hk hnd hlo;obtain ⟨t1,t2,F1,F2,rfl,rfl,r1,r2⟩:=hel;rw[zda] at hGn;have b1:∀ y∈F1,y<h.length:=rvers_ok.bd _ _ _ _ r1;have m1:Mv h (F1++F2) h1 (F1++Fw):=by
  refine ⟨m.le,λy hy _=>m.fr y hy (by simp),?_,λy hy=>?_⟩
  ·rw[zda];refine ⟨hGn.1,m.nd,λx hx y hy e=>?_⟩;subst e;have:=b1 x hx;have:=m.new x hy;omega
  ·rcases zc9.1 hy with hy | hy
   ·exact .inl (by simp[hy])
   ·exact (m.sub y hy).imp (λg=>by simp at g) id
 obtain ⟨h2,F',e2,r,m2,fr,_⟩:=put h1 (F1++Fw) 1 [w] [t1,w] ⟨l[k].store,ws⟩ m1 rfl ⟨_,_,F1,Fw,rfl,rfl,m.keep0 rvers_ok r1,hw⟩;rw[<- Ep hk] at r;exact ⟨b,i,h2,F',ha,hbF,e2,r,m2,fr⟩
theorem ZB {k:Nat} (hs:RNodes false h [.sl 2 a l.length c] l F) (hk:k<l.length) (hnd:F.Nodup) (hlo:∀ b∈F,lo<=b) (hl:lo<=h.length) (hn:l.length<=1048576) :
  ∃ a' c' h' F',(∀ {T:Type} (K:V->Heap->Option T),(AA a l.length c none (some (Iv (k:Nat))) none λa_0 n_1 c_2=>Av 2 (h ++ [.rows 2 47 false []]) (.sl 2 a_0 n_1 c_2) λx_3=>Df lo 47 2 48 (.sl 2 (some ((List.length h),0)) 0 (some 0)) x_3 (h ++ [.rows 2 47 false []]) λv_4 h_5=>eS 2 (v_4) λa_6 n_7 c_8 =>
    AA a l.length c (some (Iv ((k+1:Nat):Int))) none none λa_9 n_10 c_11=>Av 2 h_5 (.sl 2 a_9 n_10 c_11) λx_12=>Df lo 47 2 48 (.sl 2 a_6 n_7 c_8) x_12 h_5 K)=K (.sl 2 a' (l.eraseIdx k).length c') h') /\
   RNodes false h' [.sl 2 a' (l.eraseIdx k).length c'] (l.eraseIdx k) F'/\Mv h F h' F':=by
 have hbd:=rnodes_ok.bd _ _ _ _ hs;obtain ⟨Fs,nF,sF,own,cuts⟩:=Sli.parts hs hnd;obtain ⟨rP,_,eP,_,kP,_⟩:=cuts k (by omega);obtain ⟨_,rQ,_,eQ,_,kQ⟩:=cuts (k+1) (by omega);obtain ⟨nP,_,dPQ⟩:=E1 (k:=k) nF;obtain ⟨_,nQ,_⟩:=E1 (k:=k+1) nF;have inP:∀ y∈(Fs.take k).flatten,y∈Fs.flatten:=λy hy=>by rw[<- zdG k Fs,zdJ];simp[hy]
 have inQ:∀ y∈(Fs.drop (k+1)).flatten,y∈(Fs.drop k).flatten:=λy hy=>by
  have:Fs.drop (k+1)=(Fs.drop k).drop 1:=by rw[zey]
  rw[this] at hy;rw[<- zdG 1 (Fs.drop k),zdJ];exact zc9.2 (.inr hy)
 have inQ':∀ y∈(Fs.drop (k+1)).flatten,y∈Fs.flatten:=λy hy=>by rw[<- zdG k Fs,zdJ];simp[inQ y hy]
 have hFl:∀ y∈Fs.flatten,y<h.length:=λy hy=>hbd y (sF y hy);have htl:(l.take k).length=k:=by rw[zdr];omega
 have hdl:(l.drop (k+1)).length=l.length - (k+1):=by rw[zeb]
 obtain ⟨a3,c3,h3,F3,e3,r3,l3,fr3,sub3,nd3⟩:=Na (lo:=lo) (R:=2) (e:=Qc false) (bytes:=48) rnode_ok eP nP (λy hy=>hFl y (inP y hy)) (by decide) (by omega) hl;have hQ3:∀ y∈(Fs.drop (k+1)).flatten,y∉F3/\y<h3.length:=λy hy=>by
  have:=hFl y (inQ' y hy);refine ⟨λhm3=>?_,by omega⟩;rcases sub3 y hm3 with g | g
  ·exact dPQ y g y (inQ y hy) rfl
  ·omega
 have F3b:∀ y∈F3,y<h3.length:=rnodes_ok.bd _ _ _ _ r3;obtain ⟨a7,c7,h7,F7,e7,r7,l7,fr7,sub7,nd7⟩:=L7 (lo:=lo) (bytes:=48) rnode_ok.fr r3 (xs:=rQ) (ys:=l.drop (k+1)) (Gs:=Fs.drop (k+1)) (eQ.fr rnode_ok.fr λy hy=>fr3 y (hFl y (inQ' y hy))) (by decide) (by rw[htl,hdl];omega) (λy hy=>by
   rcases sub3 y hy with g | g
   ·exact hlo y (sF y (inP y g))
   ·omega) (by omega) (by
   rw[zda];refine ⟨nd3,nQ,λx hx y hy e=>?_⟩;subst e;exact (hQ3 x hy).1 hx) (λy hy=>by
   rcases zc9.1 hy with hy | hy
   ·exact F3b y hy
   ·exact (hQ3 y hy).2)
 have hel:(l.take k).length+(l.drop (k+1)).length=(l.eraseIdx k).length:=by rw[zdM hk,htl,hdl];omega
 have her:l.take k++l.drop (k+1)=l.eraseIdx k:=(List.eraseIdx_eq_take_drop_succ l k).symm;rw[hel] at e7 r7;rw[her] at r7;have mm0:Mv h [] (h ++ [.rows 2 47 false []]) []:=Mv.snoc;rw[show Qc false=47 from rfl] at e3 e7;refine ⟨a7,c7,h7,F7,λK=>?_,r7,⟨by omega,λy hy hyF=>?_,nd7,λy hy=>?_⟩⟩
 ·rw[kP _ (λb i e=>mm0.fr b (hbd b (own b i e).1) (by simp)),e3,Ag,kQ _ (λb i e=>fr3 b (hbd b (own b i e).1)),e7]
 ·have y3:y∉F3:=λhm3=>by
   rcases sub3 y hm3 with g | g
   ·exact hyF (sF y (inP y g))
   ·omega
  rw[fr7 y (by omega) y3,fr3 y hy]
 ·rcases sub7 y hy with g | g
  ·rcases zc9.1 g with g | g
   ·rcases sub3 y g with g | g
    ·exact .inl (sF y (inP y g))
    ·exact .inr (by omega)
   ·exact .inl (sF y (inQ' y g))
  ·exact .inr (by omega)
theorem VE {k:Nat} (hs:RNodes false h [.sl 2 a l.length c] l F) (hk:k<l.length) (h2:1<l.length) (hlast:(l[l.length - 1]'(by omega)).wait = []) (hnd:F.Nodup) (hlo:∀ b∈F,lo<=b) (hl:lo<=h.length) (hn:l.length<=1048576) (hx:∀ x∈l,GR 20 x) :
  ∃ a' c' h' F',Af lo 256 [.agg [.sl 2 a l.length c],Iv (k:Nat)] h=some (.agg [.sl 2 a' (Ce l k).length c'],h')/\RNodes false h' [.sl 2 a' (Ce l k).length c'] (Ce l k) F'/\Mv h F h' F':=by
 suffices hq:∃ a' c' h' F',_=some (V.agg [.sl 2 a' (Ce l k).length c'],h')/\RNodes false h' [.sl 2 a' (Ce l k).length c'] (Ce l k) F'/\Mv h F h' F' from by obtain ⟨a',c',h',F',e,hr⟩:=hq;exact ⟨a',c',h',F',S6 e,hr⟩
 have hel:=zdM hk;obtain ⟨a1,c1,h1,F1,e1,r1,m1⟩:=ZB (lo:=lo) hs hk hnd hlo hl hn;have hflen:(Ce l k).length=l.length - 1:=by
  unfold Ce;cases decide (0<k)
  ·exact hel
  ·cases decide (k<(l.eraseIdx k).length)
   ·rw[cond_true,cond_false,CA];exact hel
   ·rw[cond_true,cond_true,CA];exact hel
 rw[Ar (by omega),e1,Ag];have hl1:lo<=h1.length:=zc8 hl m1.le;have hlo1:∀ b∈F1,lo<=b:=λb hb=>m1.ge hl hlo b hb;have hn1:((l.eraseIdx k).length:Int) - 1=(((l.eraseIdx k).length - 1:Nat):Int):=by omega
 have tail:∀ (l':List Node) (hh:Heap) (F':List Nat),l'.length=(l.eraseIdx k).length->RNodes false hh [.sl 2 a1 (l.eraseIdx k).length c1] l' F'->F'.Nodup->(∀ b∈F',lo<=b)->∃ h' F'',(Ap (Am ((((l.eraseIdx k).length:Nat):Int) - 1)) (l.eraseIdx k).length (eO a1 λo_41=>eO (st lo hh (o_41.1) ((o_41.2)+((Am ((((l.eraseIdx k).length:Nat):Int) - (1:Int))).toNat)) 1 [.sl 0 none 0 (some 0)]) λo_42=>some (V.agg [.sl 2 a1 (l.eraseIdx k).length c1],o_42)))=some (.agg [.sl 2 a1 (l.eraseIdx k).length c1],h') /\
   RNodes false h' [.sl 2 a1 (l.eraseIdx k).length c1] (B9 l' ((l.eraseIdx k).length - 1) []) F''/\Mv hh F' h' F'':=by
  intro l' hh F' hll hr hnd' hlo';obtain ⟨b,i,h3,F3,ha,_,e3,r3,m3,_⟩:=Rl (lo:=lo) (k:=(l.eraseIdx k).length - 1) (w := .sl 0 none 0 (some 0)) (ws := []) hr (by omega) hnd' hlo' Sli.nil Mv.nil;rw[wr (n:=(((l.eraseIdx k).length:Nat):Int) - 1) (by omega) (by omega),hn1,Ae (by omega),ha,Ad,Bd,e3,Ad,<- ha];exact ⟨h3,F3,rfl,r3,m3⟩
 have hlast':∀ hj:(l.eraseIdx k).length - 1<(l.eraseIdx k).length,k<(l.eraseIdx k).length->((l.eraseIdx k)[(l.eraseIdx k).length - 1]).wait = []:=λhj hkl=>by
  have:(l.eraseIdx k)[(l.eraseIdx k).length - 1]=l[l.length - 1]:=by rw[List.getElem_eraseIdx];rw[dif_neg (by omega)];congr 1;omega
  rw[this];exact hlast
 by_cases h0:0<k
 ·rw[Al (by omega)];by_cases hkl:k<(l.eraseIdx k).length
  ·-- in between
   have hf:Ce l k=B9 (l.eraseIdx k) (k - 1) (D7 (GP (l.eraseIdx k) (k - 1)) (GP (l.eraseIdx k) k)):=by unfold Ce;rw[decide_eq_true h0,cond_true,decide_eq_true hkl,cond_true]
   have hk1:k - 1<(l.eraseIdx k).length:=by omega
   have hxm:∀ x∈l.eraseIdx k,GR 20 x:=λx hx'=>hx x (zd8 hx');obtain ⟨o,s1,s2,b1,d1,b2,d2,H1,H2,ha,_,ho1,_,q1,_,p1,_⟩:=r1.get hk1;obtain ⟨o',s1',s2',b1',d1',b2',d2',H1',H2',ha',_,ho1',_,q1',_,p1',_⟩:=r1.get hkl;have ho:o=o':=by rw[ha] at ha';injection ha'
   subst ho;have n1:=hxm _ (zc7 hk1);have n2:=hxm _ (zc7 hkl);obtain ⟨a4,c4,h4,F4,e4,r4,m4⟩:=VC (lo:=lo) p1 p1' n1.1 n2.1 (λv hv=>by have:=(n1.2.2.1 v hv).1;omega) hl1;obtain ⟨b,i,h5,F5,hb,_,e5,r5,m5,_⟩:=Rl (lo:=lo) (k:=k - 1) (w := .sl 6 a4 (D7 (l.eraseIdx k)[k - 1].store (l.eraseIdx k)[k].store).length c4) r1 hk1 m1.nd hlo1 r4 m4;obtain ⟨h6,F6,e6,r6,m6⟩:=tail _ h5 F5 CA r5 m5.nd (λb hb=>m5.ge hl1 hlo1 b hb);have hkk:((k:Nat):Int) - 1=((k - 1:Nat):Int):=by omega
   have hoe:o=(b,i):=by rw[ha] at hb;injection hb
   subst hoe;rw[Al (by omega),wr (n:=((k:Nat):Int) - 1) (by omega) (by omega),hkk,Ae hk1,ha,Ad,Bd,ho1,Ad,Aa,q1,Ah,Ae hkl,Ad,Bd,ho1',Ad,Aa,q1',Ah,e4,Ac,Ag,Ae hk1,Ad,e5,Ad,<- ha,e6];have hsame:B9 (B9 (l.eraseIdx k) (k - 1) (D7 (l.eraseIdx k)[k - 1].store (l.eraseIdx k)[k].store)) ((l.eraseIdx k).length - 1) []=Ce l k:=by
    rw[hf,C6 hk1,C6 hkl];have hj:(l.eraseIdx k).length - 1<(B9 (l.eraseIdx k) (k - 1) (D7 (l.eraseIdx k)[k - 1].store (l.eraseIdx k)[k].store)).length:=by rw[CA];omega
    refine PO hj ?_;have hg:=Ep (w:=D7 (l.eraseIdx k)[k - 1].store (l.eraseIdx k)[k].store) hk1;rw[zeW hg,List.getElem_set_ne (by omega)];exact hlast' (by omega) hkl
   rw[hsame] at r6;refine ⟨a1,c1,h6,F6,by rw[hflen,hel],by rw[hflen,<- hel];exact r6,(m1.trans m5).trans m6⟩
  ·-- the tail fell
   have hf:Ce l k=B9 (l.eraseIdx k) (k - 1) []:=by unfold Ce;rw[decide_eq_true h0,cond_true,decide_eq_false hkl,cond_false]
   have hkk:(l.eraseIdx k).length - 1=k - 1:=by omega
   obtain ⟨h6,F6,e6,r6,m6⟩:=tail _ h1 F1 rfl r1 m1.nd hlo1;rw[Ak (by omega),e6];rw[hkk,<- hf] at r6;exact ⟨a1,c1,h6,F6,by rw[hflen,hel],by rw[hflen,<- hel];exact r6,m1.trans m6⟩
 ·have hf:Ce l k=l.eraseIdx k:=by unfold Ce;rw[decide_eq_false h0,cond_false]
  obtain ⟨h6,F6,e6,r6,m6⟩:=tail _ h1 F1 rfl r1 m1.nd hlo1;rw[Ak (by omega),e6];rw[PO (by omega) (hlast' (by omega) (by omega)),<- hf] at r6;exact ⟨a1,c1,h6,F6,by rw[hflen,hel],r6,m1.trans m6⟩
end


variable {s t:List Ver}{v:Ver}{l:List Node}{w:List Ver}{rs:List (List V)}
def Bj (x:Ver×Ver):Option Ver:=bif A0 x.2 x.1 then some x.1 else none
theorem lack_sort:∀ {z:List (Ver×Ver)}{acc:List Ver},z.foldl GU acc=(z.filterMap Bj).foldl (λacc v=>EZ v acc) acc
 | [],acc=>rfl
 | x :: z,acc=>by
  rw[zd2,lack_sort (z:=z)];unfold GU;cases hx:A0 x.2 x.1 with
  | true =>
   have:Bj x=some x.1:=by unfold Bj;rw[hx];rfl
   rw[List.filterMap_cons,this];rfl
  | false =>
   have:Bj x=none:=by unfold Bj;rw[hx];rfl
   rw[List.filterMap_cons,this];rfl
def NU (s t:List Ver):List Ver:=(s.zip t).filterMap Bj
theorem RA:Lv (NU s t)=D7 s t:=lack_sort.symm
theorem Ih {u:Ver} (hu:B8 u.tag.time u.tag.place=true) (hv:v.tag.time=0/\v.tag.place=0):A0 u v=false:=by rw[Ks];simp[B8,Ai] at hu;omega
theorem Pv {i:Nat} (h:JM i v=true):B8 v.tag.time v.tag.place=true:=(X7 h).2.2
theorem Rz (hs:Bb s=true) (ht:Bb t=true):(NU s t).Pairwise λp u=>p.key<u.key:=by
 unfold NU;rw[List.pairwise_filterMap,List.pairwise_iff_getElem];intro i j hi hj hij b hb b' hb';have hi':i<s.length/\i<t.length:=by rw[zeU] at hi;omega
 have hj':j<s.length/\j<t.length:=by rw[zeU] at hj;omega
 rw[zeR] at hb hb';have key:∀ q (hq:q<s.length) (hq':q<t.length) x,Bj (s[q],t[q])=some x->x.key=(q:Int):=λq hq hq' x hx=>by
  unfold Bj at hx;simp only at hx;cases hl:A0 t[q] s[q] with
  | false=>rw[hl] at hx;cases hx
  | true =>
   rw[hl] at hx;injection hx with hx;subst hx;rcases Cp (Db hs hq) with g | g
   ·have:=Ih (Pv (Db ht hq')) (DK g);rw[hl] at this;cases this
   ·exact g.2
 have e1:=key i hi'.1 hi'.2 b (by simpa using hb);have e2:=key j hj'.1 hj'.2 b' (by simpa using hb');omega
theorem Zi (hs:s.length=4):(NU s t).length<=4:=by unfold NU;have:=List.length_filterMap_le Bj (s.zip t);rw[zeU] at this;omega
section
variable {lo:Nat}{h:Heap}{F F' G:List Nat}{a a' av:Pq}{c c' cv:Nq}
theorem X0 {n:Nat} (hn:n<=4):∃ x,Af lo 310 [.int .u64 (IntKind.wrap .u64 ((n:Nat):Int))] h=some (Iv x,h):=by
 have key:∀ m:Nat,m<=4->∃ x,Af (List.length h) 323 [.int .u64 (IntKind.wrap .u64 ((m:Nat):Int))] h=some (Iv x,h):=by
  intro m hm;have:m=0\/m=1\/m=2\/m=3\/m=4:=by omega
  rcases this with rfl | rfl | rfl | rfl | rfl;all_goals exact ⟨_,Ow (h':=h) (by
   rw[Ak (by decide),Ak (by decide),Ak (by decide)];rfl)⟩
 obtain ⟨x,hx⟩:=key n hn;exact ⟨x,Qw (h':=h) (by rw[hx,Ac,Ab])⟩
theorem Zn {l:List Ver} (hs:RVers false h [.sl 6 a l.length c] l F) (h4:l.length<=4) (hk:l.Pairwise λp u=>p.key<u.key) (hnd:F.Nodup) (hlo:∀ b∈F,lo<=b) (hl:lo<=h.length) :
  ∃ h' F',Af lo 300 [.sl 6 a l.length c,.fn 301 []] h=some (.tup [],h')/\RVers false h' [.sl 6 a l.length c] (Lv l) F'/\Mv h F h' F':=by
 obtain ⟨x,hx⟩:=X0 (lo:=lo) (h:=h) h4;obtain ⟨h',F',e,r,m⟩:=RH (lo:=lo) hs hk hnd hlo hl (by omega);refine ⟨h',F',FN ?_,r,m⟩;rw[hx,Ac,Ab];have:Af lo 309 [.sl 6 a l.length c,Iv 0,Iv ((l.length:Nat):Int),Iv x,.fn 301 []] h=some (.tup [],h'):=by
  have hc:l.length=0\/l.length=1\/l.length=2\/l.length=3\/l.length=4:=by omega
  rcases hc with q | q | q | q | q
  ·rw[q] at e ⊢;exact FF (by rw[Bo.e];exact (congrArg (λo=>Aj o _) e).trans rfl)
  ·rw[q] at e ⊢;exact FE (by rw[Bn.e];exact (congrArg (λo=>Aj o _) e).trans rfl)
  ·rw[q] at e ⊢;exact FD (by rw[Bm.e];exact (congrArg (λo=>Aj o _) e).trans rfl)
  ·rw[q] at e ⊢;exact FC (by rw[Bl.e];exact (congrArg (λo=>Aj o _) e).trans rfl)
  ·rw[q] at e ⊢;exact FB (by rw[Bk.e];exact (congrArg (λo=>Aj o _) e).trans rfl)
 rw[this,Ac,HA,Ah]
theorem UI {k:Nat} (hs:RNodes false h [.sl 2 a l.length c] l F) (hk:k<l.length) (hnd:F.Nodup) (hlo:∀ b∈F,lo<=b) (hn:l.length<=1048576) :
  ∃ h' F',Af lo 299 [.sl 2 a l.length c,Iv (k:Nat),Iv ((k+1:Nat):Int)] h=some (.sl 2 a (l.length - 1) c,h')/\RNodes false h' [.sl 2 a (l.length - 1) c] (l.eraseIdx k) F'/\Mv h F h' F':=by
 obtain ⟨h',F',Gv,b,i,row,ha,hld,hel,hG,e,r,m,fr⟩:=Sli.del (lo:=lo) (bytes:=48) (e:=47) (z := [.sl 0 none 0 (some 0),.sl 0 none 0 (some 0)]) (x1:=(k:Nat)) (x2:=((k+1:Nat):Int)) (T:=V×Heap) rnode_ok hs hk hnd hlo rfl (by omega) (by decide) (by omega) (some (.sl 2 a l.length c,h)) (λv h=>some (v,h));exact ⟨h',F',FO e,r,m⟩
theorem Xi {h3:Heap}{n k:Nat}{s1:V}{b0 i0:Nat} (hs:RNodes false h [.sl 2 a n c] l F) (ha:a=some (b0,i0)) (hk:k<l.length) (hst:ld h b0 (i0+k) 0 1=some [s1]) (hnd:F.Nodup) (hlo:∀ b∈F,lo<=b) (hl:lo<=h.length) (hw:l[k].wait.length<=1048576) (hv:RTags false h3 [.sl 2 av v.past.length cv] v.past G) (m3:Mv h [] h3 G) :
  ∃ t2 a2 c2 a5 c5 h5 h6 F6,ld h b0 (i0+k) 1 1=some [t2]/\(∀ {T:Type} (K:Pq->Nat->Nq->Option T),eS 6 t2 K=K a2 l[k].wait.length c2) /\
   (∀ {T:Type} (K:V->Heap->Option T),Df lo 43 6 72 (.sl 6 a2 l[k].wait.length c2) [v.cs av cv] (h3 ++ [.rows 6 43 false [v.cs av cv]]) K=K (.sl 6 a5 (l[k].wait.length+1) c5) h5) /\
   st lo h5 b0 (i0+k) 1 [.sl 6 a5 (l[k].wait.length+1) c5]=some h6/\RNodes false h6 [.sl 2 a n c] (l.set k ⟨l[k].store,l[k].wait ++ [v]⟩) F6/\Mv h F h6 F6/\ld h6 b0 (i0+k) 0 1=some [s1]:=by
 obtain ⟨b,i,rs,row,G0,ha',hbF,hbG,hb,hrow,hel,hGF,hGn,_,put⟩:=hs.at rnode_ok hk hnd hlo;have:(b0,i0)=(b,i):=by rw[ha] at ha';injection ha'
 injection this with e1 e2;subst e1;subst e2;obtain ⟨t1,t2,F1,F2,rfl,rfl,r1,r2⟩:=hel;have hs1:s1=t1:=by rw[BA hb hrow] at hst;injection hst with hst;injection hst with hst _;exact hst.symm
 subst hs1;obtain ⟨a2,c2,e2,r2'⟩:=r2.form;rw[zda] at hGn;obtain ⟨a5,c5,h5,F5,e5,r5,m5⟩:=Dv (lo:=lo) (bytes:=72) (e:=43) rver_ok r2' (row:=v.cs av cv) (x:=v) (G:=G) (h1:=h3 ++ [.rows 6 43 false [v.cs av cv]])
  ⟨_,rfl,Mv.snoc.keep0 rtags_ok hv⟩ (m3.trans (Mv.snoc' m3.nd)) hGn.2.1 (λy hy=>hlo y (hGF y (by simp[hy]))) hl (by decide) (by omega)
 have b1:∀ y∈F1,y<h.length:=rvers_ok.bd _ _ _ _ r1;have m6:=(m5.aside (G:=F1) (by rw[zda];exact ⟨hGn.2.1,hGn.1,λx hx y hy e=>hGn.2.2 y hy x hx e.symm⟩) b1).swap;have r1':=m5.keep rvers_ok r1 λy hy hm=>hGn.2.2 y hy y hm rfl;obtain ⟨h6,F6,e6,r6,m7,hb6,_,_⟩:=put h5 (F1++F5) 1 [.sl 6 a5 (l[k].wait.length+1) c5] [s1,.sl 6 a5 (l[k].wait.length+1) c5] ⟨l[k].store,l[k].wait ++ [v]⟩ m6 rfl ⟨_,_,F1,F5,rfl,rfl,r1',r5⟩;have hrl:i0+k<rs.length:=(EA hrow).1;have hr6:(rs.set (i0+k) [s1,.sl 6 a5 (l[k].wait.length+1) c5])[i0+k]?=some [s1,.sl 6 a5 (l[k].wait.length+1) c5]:=by simp[hrl]
 exact ⟨t2,a2,c2,a5,c5,h5,h6,F6,by rw[BA hb hrow];rfl,λK=>e2 K,λK=>e5 K,e6,r6,m7,by rw[BA hb6 hr6];rfl⟩
theorem QY {k:Nat}{w':List Ver} (hk:k<l.length):(B9 l k w).set k ⟨l[k].store,w'⟩=B9 l k w':=by rw[Ep hk,Ep hk,zem]
theorem Kj {k:Nat} (hk:k<l.length):(B9 l k w)[k]'(by rw[CA];exact hk)=⟨l[k].store,w⟩:=by rw[zeW (Ep hk),zel]
theorem YO {k q:Nat} (hk:k<l.length) (hq:q<l.length) (hne:k≠q):(B9 l k w)[q]'(by rw[CA];exact hq)=l[q]:=by rw[zeW (Ep hk),List.getElem_set_ne hne]
theorem Zx {b i j R e:Nat}{row:List V}{k1 b5 i5:Nat}{as':Pq}{cs':Nq}
  (hkl:k1+1<l.length) (hb:h[b]?=some (.rows R e false rs)) (hrow:rs[i]?=some row) (hcell:row[j]?=some (.sl 2 a l.length c)) (hbF:b∉F)
  (hs:RNodes false h [.sl 2 a l.length c] (B9 l k1 []) F) (ha:a=some (b5,i5)) (hnd:F.Nodup) (hlo:∀ b∈F,lo<=b) (hl:lo<=h.length) (hn:l.length<=1048576) (h1:Bb (l[k1]'(by omega)).store=true) (h2:Bb l[k1+1].store=true) {x0:V} (hst:ld h b5 (i5+k1) 0 1=some [x0]) (hex:∀ {T:Type} (K:Pq->Nat->Nq->Option T),eS 6 x0 K=K as' (l[k1]'(by omega)).store.length cs') :
  ∃ h' F',Bu lo b i j ((k1+1:Nat):Int) b5 (i5+k1) 0 as' (l[k1]'(by omega)).store.length cs' (((l[k1]'(by omega)).store.length:Nat):Int) 0 h=some (.bool true,h') /\
   RNodes false h' [.sl 2 a l.length c] (B9 l k1 (D7 (l[k1]'(by omega)).store l[k1+1].store)) F'/\Mv h F h' F':=by
 have hk1:k1<l.length:=by omega
 have hblt:b<h.length:=(EA hb).1;have hex':=λ{T:Type} (K:Pq->Nat->Nq->Option T)=>hex K;generalize hsd:(l[k1]'(by omega)).store=s at h1 hex' ⊢;generalize htd:l[k1+1].store=t at h2 ⊢;have hs4:=Bi h1;have ht4:=Bi h2;have hzl:(s.zip t).length=4:=by rw[zeU];omega
 have hsm1:=HG h1;have hbm:∀ hh F',Mv h F hh F'->hh[b]?=some (.rows R e false rs):=λhh F' m=>by rw[m.fr b hblt hbF];exact hb
 have one:∀ m q,m+q=4->∀ hh F',RNodes false hh [.sl 2 a l.length c] (B9 l k1 (((s.zip t).take q).filterMap Bj)) F'->Mv h F hh F'->ld hh b5 (i5+k1) 0 1=some [x0] ->
   ∃ h' F'',Bu lo b i j ((k1+1:Nat):Int) b5 (i5+k1) 0 as' s.length cs' ((s.length:Nat):Int) (q:Nat) hh=some (.bool true,h')/\RNodes false h' [.sl 2 a l.length c] (B9 l k1 (D7 s t)) F''/\Mv h F h' F'':=by
  intro m;induction m with
  | zero =>
   intro q hq hh F' hr hm hld;have hq4:q=4:=by omega
   subst hq4;rw[zdC (by omega)] at hr;have hwl:k1<(B9 l k1 ((s.zip t).filterMap Bj)).length:=by rw[CA];exact hk1
   obtain ⟨b',i',rs',row',G0,ha',hbF',hbG,hb',hrow',hel,hGF,hGn,put⟩:=hr.at2 rnode_ok hwl hm.nd (λy hy=>hm.ge hl hlo y hy);have:(b5,i5)=(b',i'):=by rw[ha] at ha';injection ha'
   injection this with x1 x2;subst x1;subst x2;rw[Kj hk1] at hel;obtain ⟨t1,t2,F1,F2,rfl,rfl,r1,r2⟩:=hel;simp only at r1 r2;obtain ⟨a2,c2,e2,r2'⟩:=r2.form;rw[zda] at hGn;have hlh:lo<=hh.length:=zc8 hl hm.le;obtain ⟨h3,F3,e3,r3,m3⟩:=Zn (lo:=lo) r2' (Zi hs4) (Rz h1 h2) hGn.2.1 (λy hy=>hm.ge hl hlo y (hGF y (by simp[hy]))) hlh;have b1:∀ y∈F1,y<hh.length:=rvers_ok.bd _ _ _ _ r1;have m4:=(m3.aside (G:=F1) (by rw[zda];exact ⟨hGn.2.1,hGn.1,λx hx y hy e=>hGn.2.2 y hy x hx e.symm⟩) b1).swap;have r1':=m3.keep rvers_ok r1 λy hy hm=>hGn.2.2 y hy y hm rfl;have hsl:(Lv ((s.zip t).filterMap Bj)).length=((s.zip t).filterMap Bj).length:=(r3.val).symm;have r3c:=r3.clip;rw[<- hsl] at r3c;obtain ⟨h4,F4,e4,r4,m5,_,_⟩:=put h3 (F1++F3) 1 [.sl 6 a2 (Lv ((s.zip t).filterMap Bj)).length (some (Lv ((s.zip t).filterMap Bj)).length)] [t1,.sl 6 a2 (Lv ((s.zip t).filterMap Bj)).length (some (Lv ((s.zip t).filterMap Bj)).length)] ⟨l[k1].store,Lv ((s.zip t).filterMap Bj)⟩ m4 rfl ⟨_,_,F1,F3,rfl,rfl,by rw[hsd];rw[hsd] at r1';exact r1',r3c⟩;rw[hsl] at e4;rw[QY hk1] at r4;have hfin:Lv ((s.zip t).filterMap Bj)=D7 s t:=RA;rw[hfin] at r4;have l1:ld hh b5 (i5+k1) (0+1) 1=some [t2]:=by rw[BA hb' hrow'];rfl
   have hb5:h3[b5]?=hh[b5]?:=m3.fr b5 (EA hb').1 λhm2=>hbG (by simp[hm2]);have l3:ld h3 b5 (i5+k1) (0+1) 1=some [t2]:=by rw[BA (by rw[hb5];exact hb') hrow'];rfl
   rw[Bu.e,Ak (by omega),l1,Ad,Aa,Ah,e2,e3,Ac,HA,Ah,l3,Ad,Aa,Ah,e2,LQ r3,Ac,Ag,e4,Ad];exact ⟨h4,F4,rfl,r4,hm.trans m5⟩
  | succ m ih =>
   intro q hq hh F' hr hm hld;have hqs:q<s.length:=by omega
   have hqt:q<t.length:=by omega
   have hlh:lo<=hh.length:=zc8 hl hm.le;have hwl:k1<(B9 l k1 (((s.zip t).take q).filterMap Bj)).length:=by rw[CA];exact hk1
   have hwl2:k1+1<(B9 l k1 (((s.zip t).take q).filterMap Bj)).length:=by rw[CA];exact hkl
   obtain ⟨o,x1,_,b1,d1,_,_,H1,_,ho,_,ho1,_,ex1,_,p1,_⟩:=hr.get hwl;obtain ⟨o2,x2,_,b2,d2,_,_,H2,_,ho2,_,ho21,_,ex2,_,p2,_⟩:=hr.get hwl2;have hoe:o=(b5,i5):=by rw[ha] at ho;injection ho with ho;exact ho.symm
   have hoe2:o2=(b5,i5):=by rw[ha] at ho2;injection ho2 with ho2;exact ho2.symm
   subst hoe;subst hoe2;rw[hld] at ho1;injection ho1 with ho1;injection ho1 with ho1 _;subst ho1;have hcap:=ex1 λa n c=>some (a,c);rw[hex'] at hcap;injection hcap with hcap;injection hcap with hc1 hc2;subst hc1;subst hc2;have es1:(B9 l k1 (((s.zip t).take q).filterMap Bj))[k1].store=s:=by rw[Kj hk1];exact hsd
   have es2:(B9 l k1 (((s.zip t).take q).filterMap Bj))[k1+1].store=t:=by rw[YO hk1 hkl (by omega)];exact htd
   rw[es1] at p1;rw[es2] at ex2 p2;have hv:=Db h1 hqs;have hkr:0<=s[q].key/\s[q].key<4:=by
    rcases Cp hv with g | g
    ·rw[Ny g];decide
    ·rw[g.2];omega
   have hkt:s[q].key.toNat<t.length:=by omega
   have hless:A0 (t[s[q].key.toNat]'hkt) s[q]=A0 t[q] s[q]:=by
    rcases Cp hv with g | g
    ·rw[Ih (Pv (Db h2 hkt)) (DK g),Ih (Pv (Db h2 hqt)) (DK g)]
    ·have:s[q].key.toNat=q:=by rw[g.2];omega
     simp only[this]
   obtain ⟨ov,xs,bs,ds,Hs,hov,hlv,exs,hps,_⟩:=p1.get hqs;obtain ⟨ot,_,_,_,_,hot,_,_,_,_,_,_,hlt,_,_,_,_⟩:=RVers.all p2 hkt;have lc:ld hh b i (j+0) 1=some [.sl 2 a l.length c]:=by rw[BA (hbm hh F' hm) hrow];exact I9 hcell
   have htake:((s.zip t).take (q+1)).filterMap Bj=((s.zip t).take q).filterMap Bj++(match Bj (s[q],t[q]) with | some v => [v] | none => []):=by rw[zeu (by omega),List.filterMap_append,zeR];congr 1;cases hx:Bj (s[q],t[q])<;>simp[List.filterMap_cons,hx]
   have htl:=Ey (lo:=lo) (h:=hh) (a:=(t[s[q].key.toNat]'hkt).tag.time) (b:=(t[s[q].key.toNat]'hkt).tag.place) (c:=s[q].tag.time) (d:=s[q].tag.place);rw[Bu.e,Al (by omega),Ae hqs,hov,Ad,Bd,hlv,Ad,Aa,Ab,Aa,Ab,Aa,Ab,Aa,exs,Aa,BG,Aa,AL,Ah,lc,Ad,Aa,Ah,Ag,Ae hkl,ha,Ad,Bd,ho21,Ad,Aa,Ah,ex2,Cm ⟨by omega,by omega⟩,hot,Ad,hlt,Ad,Aa,Ab,Aa,Ab,Ah,htl,Ac,At,<- hov,Ar (by omega)];show ∃ h' F'',br (A0 (t[s[q].key.toNat]'hkt) s[q]) _ _=_/\_;rw[hless];cases hlq:A0 t[q] s[q] with
   | false =>
    have:Bj (s[q],t[q])=none:=by unfold Bj;rw[hlq];rfl
    rw[this] at htake;simp only[zdS] at htake;rw[Ax,<- ha];exact ih (q+1) (by omega) hh F' (by rw[htake];exact hr) hm hld
   | true =>
    have:Bj (s[q],t[q])=some s[q]:=by unfold Bj;rw[hlq];rfl
    rw[this] at htake;simp only at htake;obtain ⟨a3,c3,h3,F3,e3,r3,m3⟩:=BK (lo:=hh.length) (v:=s[q]) hps (zdb _) (hsm1.2 _ (zc7 hqs)).1;have hwlen:(((s.zip t).take q).filterMap Bj).length<=4:=by have:=List.length_filterMap_le Bj ((s.zip t).take q);rw[zdr] at this;omega
    obtain ⟨t2,a4,c4,a5,c5,h5,h6,F6,l2,e2,e5,e6,r6,m6,l6⟩:=Xi (lo:=lo) (v:=s[q]) hr ha hwl hld hm.nd (λy hy=>hm.ge hl hlo y hy) hlh (by rw[Kj hk1];exact zc8 hwlen (by decide)) r3 m3;rw[Kj hk1] at e2 e5 e6 r6;simp only at e2 e5 e6 r6;rw[QY hk1,<- htake] at r6;simp only[Ver.cs] at e3 e5;rw[Ao,l2,Ad,Aa,Ah,e2,e3,Ac,AR,Aa,Ab,Aa,Ab,Aa,Ab,Aa,Ag,Aa,BG,Aa,AL,Ah,A7,e5,Ag,e6,Ad];rw[<- ha];exact ih (q+1) (by omega) h6 F6 r6 (hm.trans m6) l6
 exact one 4 0 (by omega) h F (by simpa using hs) (Mv.refl hnd) hst
theorem Mv.cons {h h':Heap}{F F':List Nat}{b:Nat} (m:Mv h F h' F') (hb:b<h.length) (hbF:b∉F) (hnd:F.Nodup):Mv h (b :: F) h' (b :: F') :=
 (m.aside (G := [b]) (by rw[zda];exact ⟨hnd,by simp,λx hx y hy e=>by rw[zdv] at hy;subst hy;subst e;exact hbF hx⟩) (by simpa using hb)).swap
def De (l:List Node) (k:Int):Bool:=Ai k 0 ((l.length:Int) - 1)&&decide (1<l.length)
theorem Zm {b i j R e:Nat}{row:List V}{k:Int} (hb:h[b]?=some (.rows R e false rs)) (hrow:rs[i]?=some row) (hcell:row[j]?=some (.sl 2 a l.length c)) (hs:RNodes false h [.sl 2 a l.length c] l F) (hbF:b∉F)
  (hnd:F.Nodup) (hlob:lo<=b) (hlo:∀ b∈F,lo<=b) (hl:lo<=h.length) (hn:C7 l) (h0:0<l.length) (hst:∀ x∈l,Bb x.store=true) :
  ∃ a' n' c' h' F',Af lo 279 [.ptr (some (b,(i,j))),Iv k] h=some (.bool (De l k),h')/\h'[b]?=some (.rows R e false (rs.set i (row.set j (.sl 2 a' n' c'))))/\RNodes false h' [.sl 2 a' n' c'] (bif De l k then Ce l k.toNat else l) F'/\Mv h (b :: F) h' (b :: F'):=by
 have hn1:=hn.1;suffices hq:∃ a' n' c' h' F',_=some (V.bool (De l k),h')/\h'[b]?=some (.rows R e false (rs.set i (row.set j (.sl 2 a' n' c'))))/\RNodes false h' [.sl 2 a' n' c'] (bif De l k then Ce l k.toNat else l) F'/\Mv h (b :: F) h' (b :: F') from by obtain ⟨a',n',c',h',F',e,hr⟩:=hq;exact ⟨a',n',c',h',F',OO e,hr⟩
 have hblt:b<h.length:=(EA hb).1;have hil:i<rs.length:=(EA hrow).1;have hjl:j<row.length:=(EA hcell).1;have hndb:(b :: F).Nodup:=by rw[zdg];exact ⟨hbF,hnd⟩
 have hld:ld h b i (j+0) 1=some [.sl 2 a l.length c]:=by rw[BA hb hrow];exact I9 hcell
 have stay:De l k=false->∃ a' n' c' h' F',some (V.bool false,h)=some (V.bool (De l k),h')/\h'[b]?=some (.rows R e false (rs.set i (row.set j (.sl 2 a' n' c'))))/\RNodes false h' [.sl 2 a' n' c'] (bif De l k then Ce l k.toNat else l) F'/\Mv h (b :: F) h' (b :: F'):=λhc=>by rw[hc];exact ⟨a,l.length,c,h,F,rfl,by rw[set_same hcell,set_same hrow];exact hb,hs,Mv.refl hndb⟩
 have hcd:De l k=(Ai k 0 ((l.length:Int) - 1)&&decide (1<l.length)):=rfl;rw[hld,Ad,Aa,Ah,Ag,wr (by omega) (by omega),A8,Ac,At];cases hw:Ai k 0 ((l.length:Int) - 1) with
 | false=>rw[Ax];exact stay (by rw[hcd,hw];rfl)
 | true =>
 rw[hw,zdk] at hcd;simp only[Ai,CP,decide_eq_true_eq] at hw;obtain ⟨f,rfl⟩:∃ f:Nat,k=(f:Int):=⟨k.toNat,by omega⟩;have hk:f<l.length:=by omega
 rw[Ao,hld,Ad,Aa,Ah,Ag];by_cases h1:1<l.length
 ·rw[decide_eq_true h1] at hcd;have hel:=zdM hk;obtain ⟨h2,F2,e2,r2,m2⟩:=UI (lo:=lo) hs hk hnd hlo hn1;have hb2:h2[b]?=some (.rows R e false rs):=by rw[m2.fr b hblt hbF];exact hb
  have hclip:Af lo 280 [.sl 2 a (l.length - 1) c] h2=some (.sl 2 a (l.length - 1) (some (l.length - 1)),h2):=Ug r2;have e3:=DM (lo:=lo) (cs := [.sl 2 a (l.length - 1) (some (l.length - 1))]) (j:=j+0) hb2 hlob hrow (EQ hjl);obtain ⟨m3,b3,k3,n3⟩:=m2.store hblt hbF (.rows R e false (rs.set i (row.set (j+0) (.sl 2 a (l.length - 1) (some (l.length - 1))))));generalize hh3:h2.set b (.rows R e false (rs.set i (row.set (j+0) (.sl 2 a (l.length - 1) (some (l.length - 1))))))=h3 at m3 b3 k3;have e3':st lo h2 b i (j+0) [.sl 2 a (l.length - 1) (some (l.length - 1))]=some h3:=by rw[<- hh3];exact e3
  have r3:RNodes false h3 [.sl 2 a (l.length - 1) (some (l.length - 1))] (l.eraseIdx f) F2:=rnodes_ok.fr _ _ _ _ _ r2.clip λy hy=>k3 y λe=>n3 (by rw[<- e];exact hy);rw[show (((l.length:Nat):Int)==1)=false by rw[beq_eq_false_iff_ne];omega,Ax,Ar (by omega),Ad,Aa,Ah,Ag,e2,Ac,Ag,hclip,Ac,Ag,e3',Ad];rw[hcd,cond_true,Bd];by_cases hf0:f=0
  ·subst hf0;have hff:Ce l 0=l.eraseIdx 0:=rfl;rw[show (((0:Nat):Int)==0)=true from rfl,Ao,hff];exact ⟨a,l.length - 1,some (l.length - 1),h3,F2,rfl,b3,r3,m3⟩
  ·obtain ⟨f1,rfl⟩:∃ f1,f=f1+1:=⟨f - 1,by omega⟩;have hk1:f1<(l.eraseIdx (f1+1)).length:=by omega
   have hrow3:(rs.set i (row.set (j+0) (.sl 2 a (l.length - 1) (some (l.length - 1)))))[i]?=some (row.set j (.sl 2 a (l.length - 1) (some (l.length - 1)))):=by simp[hil]
   have hcell3:(row.set j (.sl 2 a (l.length - 1) (some (l.length - 1))))[j]?=some (.sl 2 a (l.length - 1) (some (l.length - 1))):=by simp[hjl]
   have ld3:∀ hh:Heap,hh[b]?=h3[b]?->ld hh b i j 1=some [.sl 2 a (l.length - 1) (some (l.length - 1))]:=λhh hbb=>by rw[BA (by rw[hbb];exact b3) hrow3];exact I9 hcell3
   obtain ⟨b5,i5,h4,F4,ha,hb5,e4,r4,m4,k4⟩:=Rl (lo:=lo) (k:=f1) (w := .sl 0 none 0 (some 0)) (ws := []) r3 hk1 (zdg.1 m3.nd).2 (λy hy=>m2.ge hl hlo y hy) Sli.nil Mv.nil;have hbb5:b≠b5:=λe=>n3 (by rw[e];exact hb5);have hb4:h4[b]?=h3[b]?:=k4 b hbb5;have hbF4:b∉F4:=λhm=>by
    rcases m4.sub b hm with g | g
    ·exact n3 g
    ·have:=m3.le;omega
   have m34:=m3.trans (m4.cons (by have:=m3.le;omega) n3 (zdg.1 m3.nd).2);have hlast:=Pd (lo:=lo) (h:=h4) (a:=a) (c:=some (l.length - 1)) (n:=l.length - 1) (k:=f1) (by omega);have hfm:(((f1+1:Nat):Int)==0)=false:=by rw[beq_eq_false_iff_ne];omega
   rw[hfm,Ax,zdP,ld3 h3 rfl,Ad,Aa,Ah,Ag,show Am (((f1+1:Nat):Int) - 1)=((f1:Nat):Int) by rw[wr (by omega) (by omega)];omega,Ae (show f1<l.length - 1 by omega),ha,Ad,Bd,e4,Ad,ld3 h4 hb4,Ad,Aa,Ag,Ah,hlast,Ac,At];have hgt:decide (0<f1+1)=true:=decide_eq_true (by omega);by_cases hla:f1+1=l.length - 1
   ·have hff:Ce l (f1+1)=B9 (l.eraseIdx (f1+1)) f1 []:=by unfold Ce;rw[hgt,cond_true,decide_eq_false (by omega),cond_false];rfl
    rw[decide_eq_true hla,Ao,hff];exact ⟨a,l.length - 1,some (l.length - 1),h4,F4,rfl,by rw[hb4];exact b3,r4,m34⟩
   ·have hkl:f1+1<(l.eraseIdx (f1+1)).length:=by omega
    have hff:Ce l (f1+1)=B9 (l.eraseIdx (f1+1)) f1 (D7 (l.eraseIdx (f1+1))[f1].store (l.eraseIdx (f1+1))[f1+1].store):=by unfold Ce;rw[hgt,cond_true,decide_eq_true hkl,cond_true,C6 hkl,Nat.add_sub_cancel,C6 hk1]
    have hwl:f1<(B9 (l.eraseIdx (f1+1)) f1 []).length:=by rw[CA];exact hk1
    obtain ⟨o,x1,_,b1,d1,_,_,H1,_,ho,_,ho1,_,ex1,_,p1,_⟩:=r4.get hwl;have hoe:o=(b5,i5):=by rw[ha] at ho;injection ho with ho;exact ho.symm
    subst hoe;rw[Kj hk1] at ex1 p1;simp only at ex1 p1;rw[<- hel] at r4;obtain ⟨h7,F7,e7,r7,m7⟩:=Zx (lo:=lo) (k1:=f1) (l:=l.eraseIdx (f1+1)) hkl (by rw[hb4];exact b3) hrow3 (by rw[hel];exact hcell3) hbF4 r4 ha m4.nd (λy hy=>m4.ge (by have:=m3.le;omega) (λy hy=>m2.ge hl hlo y hy) y hy) (by have:=m34.le;omega) (by omega) (hst _ (zd8 (zc7 hk1))) (hst _ (zd8 (zc7 hkl))) ho1 ex1;rw[decide_eq_false hla,Ax,ho1,Ad,Aa,Ah,ex1,e7,hff];have hb7:h7[b]?=h4[b]?:=m7.fr b (by have:=m34.le;omega) hbF4;exact ⟨a,(l.eraseIdx (f1+1)).length,some (l.eraseIdx (f1+1)).length,h7,F7,rfl,by rw[hel,hb7,hb4];exact b3,r7,m34.trans (m7.cons (by have:=m34.le;omega) hbF4 m4.nd)⟩
 ·rw[decide_eq_false h1] at hcd;rw[show (((l.length:Nat):Int)==1)=true by rw[beq_iff_eq];omega,Ao];exact stay hcd
end


variable {l:List Node}{p:Place}
def MG (p:Place) (k:Nat):Place:=⟨p.me,p.clock,Ce p.chain k,p.log,p.got,true⟩
def CD (p:Place) (k:Int):Bool := !p.fell&&De p.chain k
def Dz (p:Place) (k:Int):Place:=bif CD p k then BW (MG p k.toNat) else p
theorem O8 {s t:List Ver}{v:Ver} (h:v∈D7 s t):v∈s:=by
 have key:∀ (z:List (Ver×Ver)) (acc:List Ver),v∈z.foldl GU acc->v∈acc\/∃ x∈z,x.1=v:=by
  intro z;induction z with
  | nil=>intro acc h;exact .inl h
  | cons x z ih =>
   intro acc h;rw[zd2] at h;rcases ih _ h with g | ⟨y,hy,e⟩
   ·unfold GU at g;cases hl:A0 x.2 x.1 with
    | false=>rw[hl] at g;exact .inl g
    | true =>
     rw[hl,cond_true] at g;rcases insF_mem.1 g with rfl | g
     ·exact .inr ⟨x,by simp,rfl⟩
     ·exact .inl g
   ·exact .inr ⟨y,by simp[hy],e⟩
 rcases key _ _ h with g | ⟨x,hx,rfl⟩
 ·simp at g
 ·exact (List.of_mem_zip hx).1
theorem TQ {s t:List Ver} (hs:s.length=4):(D7 s t).length<=4:=by
 have key:∀ (z:List (Ver×Ver)) (acc:List Ver),(z.foldl GU acc).length<=acc.length+z.length:=by
  intro z;induction z with
  | nil=>intro acc;simp
  | cons x z ih =>
   intro acc;rw[zd2];have:=ih (GU acc x);have h2:(GU acc x).length<=acc.length+1:=by
    unfold GU;cases A0 x.2 x.1
    ·simp
    ·rw[cond_true,LE];exact zdb _
   rw[zea];omega
 have:=key (s.zip t) [];rw[zeU] at this;simp only[zek] at this;unfold D7;omega
theorem OU {nw k:Nat}{w:List Ver} (h:∀ x∈l,GR nw x) (hw:w.length<=nw) (hv:∀ v∈w,thin v):∀ x∈B9 l k w,GR nw x:=λx hx=>by
 unfold B9 at hx;split at hx
 ·rename_i y hy
  rcases zdB hx with hx | rfl
  ·exact h x hx
  ·obtain ⟨g1,_,g3,_⟩:=h y (zdp hy);exact ⟨g1,hw,g3,hv⟩
 ·exact h x hx
theorem zaE {nw k:Nat} (h:∀ x∈l,GR nw x) (hnw:4<=nw):(Ce l k).length<=l.length/\∀ x∈Ce l k,GR nw x:=by
 have h':∀ x∈l.eraseIdx k,GR nw x:=λx hx=>h x (zd8 hx);have hle:(l.eraseIdx k).length<=l.length:=zex _ _;unfold Ce;cases decide (0<k) with
 | false=>exact ⟨hle,h'⟩
 | true =>
  rw[cond_true];cases decide (k<(l.eraseIdx k).length) with
  | false=>exact ⟨by rw[cond_false,CA];exact hle,OU h' (zdA _) (by simp)⟩
  | true =>
   rw[cond_true,CA];refine ⟨hle,?_⟩;unfold GP;split
   ·rename_i y hy
    have hyn:=h' y (zdp hy);exact OU h' (zc8 (TQ hyn.1) hnw) (λv hv=>hyn.2.2.1 v (O8 hv))
   ·refine OU h' ?_ (λv hv=>?_)
    ·rw[show ∀ t,D7 [] t = [] from λt=>by simp[D7]];exact zdA _
    ·have:=O8 hv;simp at this
theorem Tq {nc nl k:Nat} (h:Tidy nc 6 nl p):Tidy nc 6 nl (MG p k):=by obtain ⟨h1,h2⟩:=zaE (k:=k) h.node (by decide);exact ⟨zc8 h1 h.len,h2,h.log,h.got⟩
theorem Kx {k:Nat} (hk:k<l.length) (h1:1<l.length):(Ce l k).length=l.length - 1:=by
 have hel:=zdM hk;unfold Ce;cases decide (0<k)
 ·exact hel
 ·cases decide (k<(l.eraseIdx k).length)
  ·rw[cond_true,cond_false,CA];exact hel
  ·rw[cond_true,cond_true,CA];exact hel
theorem Zg (h:EB l=true) (h0:0<l.length):(l[l.length - 1]'(by omega)).wait = []:=by have:=Om h (show l.length - 1<l.length by omega);unfold IG at this;rw[zdQ (by omega)] at this;simp only[decide_eq_true_eq] at this;exact zdh this
section
variable {lo:Nat}{ro:Bool}{h:Heap}{F F':List Nat}{a a':Pq}{c c':Nq}
theorem Rc {k:Int}{a1 a2 a3:Pq}{c1 c2 c3:Nq} (hn:p.chain.length<=1048576):Af lo 255 [.agg (p.cs a1 c1 a2 c2 a3 c3),Iv k] h=some (.bool (CD p k),h):=by
 refine Py (h':=h) ?_;unfold CD De;cases p.fell with
 | true=>simp only[zdT,Ax,zdY]
 | false =>
  simp only[zd3,Ao,zdk];by_cases h1:1<p.chain.length
  ·rw[Al (by omega),wr (by omega) (by omega),Ca,Ac,At,decide_eq_true h1,zec];exact Jb
  ·rw[Ak (by omega),decide_eq_false h1,zee]
end


variable {u v:Ver}{t r s:List Ver}{k i:Nat}{x z:Node}
theorem P5 {w:Ver} (h1:A0 u v=true) (h2:A0 v w=true):A0 u w=true:=by rw[Jf] at *;omega
def upS (t s:List Ver):Prop:=∀ (i:Nat) (x y:Ver),t[i]?=some x->s[i]?=some y->x=y\/A0 x y=true
theorem upS.refl:upS t t:=λi x y hx hy => .inl (by rw[hx] at hy;injection hy)
theorem upS.trans (h1:upS r s) (h2:upS s t) (hl:t.length<=s.length):upS r t:=λi x z hx hz=>by
 have hi:=(EA hz).1;have hy:=Dj (l:=s) (i:=i) (by omega);rcases h1 i x _ hx hy with rfl | h3
 ·exact h2 i _ z hy hz
 ·rcases h2 i _ z hy hz with h4 | h4
  ·exact .inr (h4 ▸ h3)
  ·exact .inr (P5 h3 h4)
theorem upS.set {t:List Ver}{k:Nat}{u v:Ver} (hu:t[k]?=some u) (hl:A0 u v=true):upS t (t.set k v):=λi x y hx hy=>by
 rw[List.getElem?_set] at hy;by_cases hi:k=i
 ·subst hi;rw[if_pos rfl,if_pos (EA hu).1] at hy;injection hy with hy;rw[hu] at hx;injection hx with hx;exact .inr (by rw[<- hx,<- hy];exact hl)
 ·rw[if_neg hi,hx] at hy;injection hy with hy;exact .inl hy
theorem fitsL_cons:En t (v :: r)=some s<->∃ x,t[v.key.toNat]?=some x/\A0 x v=true/\En (t.set v.key.toNat v) r=some s:=by
 simp only[En];cases hx:t[v.key.toNat]? with
 | none=>simp
 | some x=>cases hl:A0 x v<;>simp[hl]
theorem RS:∀ {ws t s:List Ver}{v x:Ver},En t ws=some s->s[v.key.toNat]?=some x->A0 x v=true->En t (ws ++ [v])=some (s.set v.key.toNat v)
 | [],t,s,v,x,h,hx,hl=>by simp only[En,Option.some.injEq] at h;subst h;exact fitsL_cons.2 ⟨x,hx,hl,rfl⟩
 | w :: r,t,s,v,x,h,hx,hl=>by obtain ⟨y,h1,h2,h3⟩:=fitsL_cons.1 h;exact fitsL_cons.2 ⟨y,h1,h2,RS h3 hx hl⟩
theorem Wl:∀ {ws t s:List Ver},En t ws=some s->upS t s
 | [],t,s,h=>by simp only[En,Option.some.injEq] at h;subst h;exact upS.refl
 | v :: r,t,s,h=>by
  obtain ⟨y,h1,h2,h3⟩:=fitsL_cons.1 h;have h4:=Wl h3;refine λi x z hx hz=>?_;by_cases hi:v.key.toNat=i
  ·subst hi;rw[h1] at hx;injection hx with hx;subst hx;have hlt:=(EA h1).1;rcases h4 _ v z (by simp[hlt]) hz with rfl | h5
   ·exact .inr h2
   ·exact .inr (P5 h2 h5)
  ·exact h4 i x z (by rw[zdd hi];exact hx) hz
theorem T9:∀ {ws t s:List Ver},En t ws=some s->∀ v∈s,v∈ws\/v∈t
 | [],t,s,h=>by simp only[En,Option.some.injEq] at h;subst h;exact λv hv => .inr hv
 | w :: r,t,s,h=>λv hv=>by
  obtain ⟨y,h1,h2,h3⟩:=fitsL_cons.1 h;rcases T9 h3 v hv with g | g
  ·exact .inl (by simp[g])
  ·rcases zdB g with g | rfl
   ·exact .inr g
   ·exact .inl (by simp)
theorem Wm:∀ {ws t s:List Ver},s.length=t.length->ws.Pairwise (λp u=>p.key≠u.key)->(∀ v∈ws,0<=v.key/\s[v.key.toNat]?=some v/\∃ x,t[v.key.toNat]?=some x/\A0 x v=true) ->
  (∀ (i:Nat) (x y:Ver),t[i]?=some x->s[i]?=some y->x=y\/(y∈ws/\y.key.toNat=i))->En t ws=some s
 | [],t,s,hl,_,_,h=>by
  simp only[En,Option.some.injEq];apply List.ext_getElem?;intro i;by_cases hi:i<t.length
  ·have h1:=Dj hi;have h2:=Dj (l:=s) (i:=i) (by omega);rcases h i _ _ h1 h2 with g | g
   ·rw[h1,h2,g]
   ·exact absurd g.1 (by simp)
  ·rw[zdQ (by omega),zdQ (by omega)]
 | v :: r,t,s,hl,hp,hw,h=>by
  rw[zeA] at hp;obtain ⟨h0,h1,x,h2,h3⟩:=hw v (by simp);refine fitsL_cons.2 ⟨x,h2,h3,Wm (by simpa using hl) hp.2 (λu hu=>?_) (λi a b ha hb=>?_)⟩
  ·obtain ⟨g0,g1,y,g2,g3⟩:=hw u (by simp[hu]);have:=hp.1 u hu;exact ⟨g0,g1,y,by rw[zdd (by omega)];exact g2,g3⟩
  ·by_cases hi:v.key.toNat=i
   ·subst hi;have hlt:=(EA h2).1;rw[zdl hlt] at ha;injection ha with ha;rw[h1] at hb;injection hb with hb;exact .inl (ha.symm.trans hb)
   ·rw[zdd hi] at ha;rcases h i a b ha hb with g | ⟨g1,g2⟩
    ·exact .inl g
    ·rcases zdf.1 g1 with rfl | g1
     ·exact absurd g2 hi
     ·exact .inr ⟨g1,g2⟩
theorem TW {v:Ver}:∀ {l:List Ver},(EZ v l).Perm (v :: l)
 | [] => .refl _
 | u :: r=>by
  simp only[EZ];cases A0 u v with
  | false=>exact .refl _
  | true=>exact (List.Perm.cons u TW).trans (List.Perm.swap v u r)
theorem Tv:∀ {l acc:List Ver},(l.foldl (λacc v=>EZ v acc) acc).Perm (l++acc)
 | [],acc => .refl _
 | v :: l,acc=>by rw[zd2];exact ((Tv (l:=l)).trans (List.Perm.append_left l TW)).trans List.perm_middle
theorem lackU_mem:v∈NU s t<->∃ (i:Nat) (u:Ver),s[i]?=some v/\t[i]?=some u/\A0 u v=true:=by
 unfold NU;rw[List.mem_filterMap];constructor
 ·rintro ⟨⟨x,y⟩,hm,hx⟩
  obtain ⟨i,hi⟩:=zdu.1 hm;rw[ze0] at hi;unfold Bj at hx;simp only at hx;cases hl:A0 y x with
  | false=>rw[hl] at hx;cases hx
  | true =>rw[hl] at hx;injection hx with hx;subst hx;exact ⟨i,y,hi.1,hi.2,hl⟩
 ·rintro ⟨i,u,h1,h2,h3⟩
  refine ⟨(v,u),zdu.2 ⟨i,ze0.2 ⟨h1,h2⟩⟩,?_⟩;unfold Bj;simp only[h3,cond_true]
theorem Jm (hs:Bb s=true) {x:Ver} (hx:s[i]?=some x):JM i x=true:=by obtain ⟨hi,rfl⟩:=EA hx;exact Db hs hi
theorem Lq (hs:Bb s=true) (ht:Bb t=true) {x:Ver} (hx:s[i]?=some x) (hu:t[i]?=some u) (hl:A0 u x=true):Cl x=true/\x.key=(i:Int):=by
 rcases Cp (Jm hs hx) with g | g
 ·have:=Ih (Pv (Jm ht hu)) (DK g);rw[hl] at this;cases this
 ·exact g
theorem lackL_perm:(D7 s t).Perm (NU s t):=by rw[<- RA];have h:=Tv (l:=NU s t) (acc := []);rw[zdS] at h;exact h
theorem zan (hs:Bb s=true) (ht:Bb t=true):∀ v∈D7 s t,Cl v=true:=λv hv=>by obtain ⟨i,u,h1,h2,h3⟩:=lackU_mem.1 (lackL_perm.mem_iff.1 hv);exact (Lq hs ht h1 h2 h3).1
theorem Zh (hs:Bb s=true) (ht:Bb t=true) (hu:upS t s):En t (D7 s t)=some s:=by
 refine Wm (by rw[Bi hs,Bi ht]) ?_ (λv hv=>?_) (λi x y hx hy=>?_)
 ·exact (lackL_perm.pairwise_iff λh=>h.symm).2 ((Rz hs ht).imp λh=>by omega)
 ·obtain ⟨i,u,h1,h2,h3⟩:=lackU_mem.1 (lackL_perm.mem_iff.1 hv);have hk:=(Lq hs ht h1 h2 h3).2;have e:v.key.toNat=i:=by omega
  rw[e];exact ⟨by omega,h1,u,h2,h3⟩
 ·rcases hu i x y hx hy with h | h
  ·exact .inl h
  ·exact .inr ⟨lackL_perm.mem_iff.2 (lackU_mem.2 ⟨i,x,hy,hx,h⟩),by have:=(Lq hs ht hy hx h).2;omega⟩
structure Ch (l:List Node):Prop where
 pos:1<=l.length
 le:l.length<=4
 node:∀ (i:Nat) (x:Node),l[i]?=some x->DO x=true
 link:∀ (i:Nat) (x y:Node),l[i]?=some x->l[i+1]?=some y->En y.store x.wait=some x.store
 last:∀ (i:Nat) (x:Node),l[i]?=some x->i+1=l.length->x.wait = []
theorem fits_iff:fits x s=true<->En s x.wait=some x.store:=by
 unfold fits;cases h:En s x.wait with
 | none=>simp
 | some r=>simp[sameVers_iff]
theorem chain_iff {l:List Node}:EB l=true<->Ch l:=by
 unfold EB;simp only[CP];rw[D6 (p:=IG l),YH (p:=DO)];constructor
 ·rintro ⟨⟨h1,h2⟩,h3⟩
  simp only[Ai,CP,decide_eq_true_eq] at h1;refine ⟨by omega,by omega,λi x hx=>?_,λi x y hx hy=>?_,λi x hx hi=>?_⟩
  ·obtain ⟨hi,rfl⟩:=EA hx;exact h2 i hi
  ·obtain ⟨hi,rfl⟩:=EA hx;have:=h3 i hi;unfold IG at this;rw[hy] at this;exact fits_iff.1 this
  ·obtain ⟨hj,rfl⟩:=EA hx;have:=h3 i hj;unfold IG at this;rw[zdQ (by omega)] at this;exact zdh (by simpa using this)
 ·rintro ⟨h1,h2,h3,h4,h5⟩
  refine ⟨⟨by simp[Ai];omega,λi hi=>h3 i _ (Dj hi)⟩,λi hi=>?_⟩;unfold IG;cases hy:l[i+1]? with
  | some y=>exact fits_iff.2 (h4 i _ y (Dj hi) hy)
  | none =>have:=List.getElem?_eq_none_iff.1 hy;simp[h5 i _ (Dj hi) (by omega)]
section
variable {l:List Node}
theorem Ch.store (h:Ch l) {i:Nat}{x:Node} (hx:l[i]?=some x):Bb x.store=true/\x.store.length=4:=by have:=(AW (h.node i x hx)).1;exact ⟨this,Bi this⟩
theorem Ch.up (h:Ch l):∀ (d i:Nat) (x y:Node),l[i]?=some x->l[i+d]?=some y->upS y.store x.store
 | 0,i,x,y,hx,hy=>by rw[zdP,hx] at hy;injection hy with hy;subst hy;exact upS.refl
 | d+1,i,x,y,hx,hy=>by have hlt:=(EA hy).1;have hz:=Dj (l:=l) (i:=i+d) (by omega);have h1:=h.up d i x _ hx hz;have h2:=Wl (h.link (i+d) _ y hz hy);exact h2.trans h1 (by rw[(h.store hx).2,(h.store hz).2];exact zdb _)
theorem Ch.join (h:Ch l) (hl:l.length<4):Ch (JT l):=by
 have hp:=h.pos;rw[GF (by omega)];have hz:l[l.length - 1]?=some (l[l.length - 1]'(by omega)):=Dj (by omega);have hns:=(h.store hz).1;have hn:DO ⟨(l[l.length - 1]'(by omega)).store,[]⟩=true:=by unfold DO;rw[hns];rfl
 have get:∀ i x,(l ++ [(⟨(l[l.length - 1]'(by omega)).store,[]⟩:Node)])[i]?=some x->(i<l.length/\l[i]?=some x)\/(i=l.length/\x=⟨(l[l.length - 1]'(by omega)).store,[]⟩):=λi x hx=>by
  by_cases hi:i<l.length
  ·rw[zde hi] at hx;exact .inl ⟨hi,hx⟩
  ·rw[zdx (by omega)] at hx;have:=(EA hx).1;simp only[zd0] at this;have e:i=l.length:=by omega
   subst e;rw[zeJ] at hx;injection hx with hx;exact .inr ⟨rfl,hx.symm⟩
 refine ⟨by simp,by simp;omega,λi x hx=>?_,λi x y hx hy=>?_,λi x hx hi=>?_⟩
 ·rcases get i x hx with ⟨_,g⟩ | ⟨_,rfl⟩
  ·exact h.node i x g
  ·exact hn
 ·rcases get (i+1) y hy with ⟨g1,g2⟩ | ⟨g1,rfl⟩
  ·rcases get i x hx with ⟨_,g⟩ | ⟨g,_⟩
   ·exact h.link i x y g g2
   ·omega
  ·rcases get i x hx with ⟨_,g⟩ | ⟨g,_⟩
   ·have e:i=l.length - 1:=by omega
    rw[h.last i x g g1];subst e;rw[hz] at g;injection g with g;subst g;rfl
   ·omega
 ·simp only[zdt,zd0] at hi;rcases get i x hx with ⟨g,_⟩ | ⟨_,rfl⟩
  ·omega
  ·rfl
theorem Kw (hk:k<l.length) (i:Nat):(Ce l k)[i]?=if i+1=k then (l[i]?).map (λx=>(⟨x.store,match l[k+1]? with | some y=>D7 x.store y.store | none => []⟩:Node)) else if i<k then l[i]? else l[i+1]?:=by
 have hel:=zdM hk;unfold Ce;by_cases h0:0<k
 ·rw[decide_eq_true h0,cond_true];have hk1:k - 1<(l.eraseIdx k).length:=by omega
  have e1:(l.eraseIdx k)[k - 1]=l[k - 1]:=by rw[List.getElem_eraseIdx,dif_pos (by omega)]
  have out:∀ w,i+1≠k->(B9 (l.eraseIdx k) (k - 1) w)[i]?=if i+1=k then (l[i]?).map (λx=>(⟨x.store,match l[k+1]? with | some y=>D7 x.store y.store | none => []⟩:Node)) else if i<k then l[i]? else l[i+1]?:=λw hi=>by rw[Ep hk1,zdd (by omega),List.getElem?_eraseIdx,if_neg hi]
  have at1:∀ w,i+1=k->(B9 (l.eraseIdx k) (k - 1) w)[i]?=some ⟨l[k - 1].store,w⟩:=λw hi=>by
   have e:k - 1=i:=by omega
   rw[Ep hk1,e1,<- e,zdl hk1]
  have hl1:l[k - 1]?=some l[k - 1]:=Dj (by omega);by_cases hkl:k<(l.eraseIdx k).length
  ·rw[decide_eq_true hkl,cond_true];by_cases hi:i+1=k
   ·have e:i=k - 1:=by omega
    have hy:l[k+1]?=some (l[k+1]'(by omega)):=Dj (by omega);have e2:(l.eraseIdx k)[k]=l[k+1]'(by omega):=by rw[List.getElem_eraseIdx,dif_neg (by omega)]
    rw[at1 _ hi,if_pos hi,e,hl1,hy,C6 hk1,C6 hkl,e1,e2];rfl
   ·exact out _ hi
  ·rw[decide_eq_false hkl,cond_false];by_cases hi:i+1=k
   ·have e:i=k - 1:=by omega
    have hy:l[k+1]?=none:=zdQ (by omega);rw[at1 _ hi,if_pos hi,e,hl1,hy];rfl
   ·exact out _ hi
 ·rw[decide_eq_false h0,cond_false,if_neg (by omega),List.getElem?_eraseIdx]
theorem Ch.fall (h:Ch l) (hk:k<l.length) (h2:1<l.length):Ch (Ce l k):=by
 have hle:=h.le;have hlen:=Kx hk h2;have hnw:∀ i x,l[i]?=some x->i+1=k->DO ⟨x.store,match l[k+1]? with | some y=>D7 x.store y.store | none => []⟩=true:=λi x hx hi=>by
  have hs:=h.store hx;cases hy:l[k+1]? with
  | none=>unfold DO;rw[hs.1];rfl
  | some y =>have ht:=h.store hy;have h4:=TQ (s:=x.store) (t:=y.store) hs.2;unfold DO;simp only;rw[hs.1,decide_eq_true (by omega),zdk,zdk,zdm];exact zan hs.1 ht.1
 refine ⟨by omega,by omega,λi x hx=>?_,λi x y hx hy=>?_,λi x hx hi=>?_⟩
 ·rw[Kw hk] at hx;split at hx
  ·rename_i hi
   rw[zdN] at hx;obtain ⟨z,hz,rfl⟩:=hx;exact hnw i z hz hi
  ·split at hx
   ·exact h.node i x hx
   ·exact h.node (i+1) x hx
 ·rw[Kw hk] at hx hy;by_cases hi:i+1=k
  ·rw[if_pos hi,zdN] at hx;obtain ⟨z,hz,rfl⟩:=hx;rw[if_neg (by omega),if_neg (by omega)] at hy;have e:i+1+1=k+1:=by omega
   rw[e] at hy;simp only[hy];have hup:=h.up 2 i z y hz (by rw[show i+2=k+1 by omega];exact hy);exact Zh (h.store hz).1 (h.store hy).1 hup
  ·rw[if_neg hi] at hx;by_cases hik:i<k
   ·rw[if_pos hik] at hx;by_cases hi2:i+1+1=k
    ·rw[if_pos hi2,zdN] at hy;obtain ⟨z,hz,rfl⟩:=hy;exact h.link i x z hx hz
    ·rw[if_neg hi2,if_pos (by omega)] at hy;exact h.link i x y hx hy
   ·rw[if_neg hik] at hx;rw[if_neg (by omega),if_neg (by omega)] at hy;exact h.link (i+1) x y hx hy
 ·rw[hlen] at hi;rw[Kw hk] at hx;split at hx
  ·rename_i hi2
   rw[zdN] at hx;obtain ⟨z,hz,rfl⟩:=hx;rw[zdQ (by omega)]
  ·split at hx
   ·omega
   ·exact h.last (i+1) x hx (by omega)
theorem Ch.key (h:Ch l) (hz:l[i]?=some z) (hv:Cl v=true):∃ u,z.store[v.key.toNat]?=some u:=by have:=(AZ hv).1;have h4:=(h.store hz).2;exact ⟨_,Dj (by omega)⟩
theorem KD {j:Nat} (hz:l[j]?=some z) (hu:z.store[v.key.toNat]?=some u):He l j v=bif A0 u v then l.set j ⟨z.store.set v.key.toNat v,bif decide (j+1<l.length) then z.wait ++ [v] else z.wait⟩ else l:=by unfold He;rw[hz];simp only[hu]
theorem zbb {j:Nat} (hp:1<=l.length) (hle:l.length<=4) (hno:∀ (i:Nat) (x:Node),l[i]?=some x->DO x=true)
  (hli:∀ (i:Nat) (x y:Node),l[i]?=some x->l[i+1]?=some y->i+1≠j->En y.store x.wait=some x.store) (hla:∀ (i:Nat) (x:Node),l[i]?=some x->i+1=l.length->x.wait = [])
  (hz:l[j]?=some z) (hv:Cl v=true) (hr:z.wait.length<6) (hu:z.store[v.key.toNat]?=some u) (hl:A0 u v=true)
  (hpr:∀ (i:Nat) (x:Node),l[i]?=some x->i+1=j->En (z.store.set v.key.toNat v) x.wait=some x.store):Ch (He l j v):=by
 have hj:=(EA hz).1;obtain ⟨n1,n2,n3⟩:=AW (hno j z hz);rw[KD hz hu,hl,cond_true];have hnz:DO ⟨z.store.set v.key.toNat v,bif decide (j+1<l.length) then z.wait ++ [v] else z.wait⟩=true:=by
  unfold DO;simp only;rw[PQ n1 hv];cases decide (j+1<l.length) with
  | false =>rw[cond_false,decide_eq_true (by omega),zdk,zdk,zdm];exact n3
  | true =>
   rw[cond_true,decide_eq_true (by simp;omega),zdk,zdk,zdm];intro w hw;rcases zc9.1 hw with g | g
   ·exact n3 w g
   ·rw[zdv] at g;subst g;exact hv
 refine ⟨by simpa using hp,by simpa using hle,λi x hx=>?_,λi x y hx hy=>?_,λi x hx hi=>?_⟩
 ·by_cases hij:j=i
  ·subst hij;rw[zdl hj] at hx;injection hx with hx;subst hx;exact hnz
  ·rw[zdd hij] at hx;exact hno i x hx
 ·by_cases hij:j=i
  ·subst hij;rw[zdl hj] at hx;rw[zdd (by omega)] at hy;have hlt:=(EA hy).1;injection hx with hx;subst hx;simp only[decide_eq_true hlt,cond_true];exact RS (hli j z y hz hy (by omega)) hu hl
  ·rw[zdd hij] at hx;by_cases hij2:j=i+1
   ·subst hij2;rw[zdl hj] at hy;injection hy with hy;subst hy;exact hpr i x hx rfl
   ·rw[zdd hij2] at hy;exact hli i x y hx hy (λe=>hij2 e.symm)
 ·rw[zdK] at hi;by_cases hij:j=i
  ·subst hij;rw[zdl hj] at hx;injection hx with hx;subst hx;rw[decide_eq_false (by omega),cond_false];exact hla j z hz hi
  ·rw[zdd hij] at hx;exact hla i x hx hi
theorem Ch.add (h:Ch l) (hv:Cl v=true) (hr:DC l 0=true):Ch (He l 0 v):=by
 have hp:=h.pos;have hz:l[0]?=some (l[0]'(by omega)):=Dj (by omega);rw[Jq (by omega),decide_eq_true_eq] at hr;obtain ⟨u,hu⟩:=h.key hz hv;cases hl:A0 u v with
 | false=>rw[KD hz hu,hl,cond_false];exact h
 | true=>exact zbb hp h.le h.node (λi x y hx hy _=>h.link i x y hx hy) h.last hz hv hr hu hl (λi x _ e=>by omega)
theorem KN {k:Int} (hc:BL l k=true):∃ (f:Nat) (x y:Node) (v:Ver) (r:List Ver),k=(f:Int)/\l[f]?=some x/\l[f+1]?=some y/\x.wait=v :: r/\y.wait.length<6:=by
 simp only[BL,Ai,CP,decide_eq_true_eq] at hc;obtain ⟨⟨h1,h2⟩,h3⟩:=hc;have hf:k.toNat+1<l.length:=by omega
 rw[KM (by omega),CP,decide_eq_true_eq,Jq hf,decide_eq_true_eq] at h3;refine ⟨k.toNat,l[k.toNat],l[k.toNat+1],?_⟩;cases hw:l[k.toNat].wait with
 | nil=>rw[hw] at h3;simp at h3
 | cons v r=>exact ⟨v,r,by omega,Dj (by omega),Dj hf,rfl,h3.2⟩
theorem NL {f:Nat} (hx:l[f]?=some x) (hw:x.wait=v :: r):FK l f=He (l.set f ⟨x.store,r⟩) (f+1) v:=by unfold FK GG;rw[hx];simp only[hw,List.getElem?_cons_zero,List.eraseIdx_cons_zero]
theorem Ch.pass (h:Ch l) {k:Int} (hc:BL l k=true):Ch (FK l k.toNat):=by
 obtain ⟨f,x,y,v,r,rfl,hx,hy,hw,hr⟩:=KN hc;have hf:=(EA hx).1;have hf1:=(EA hy).1;obtain ⟨n1,n2,n3⟩:=AW (h.node f x hx);have hlk:=h.link f x y hx hy;rw[hw] at hlk n2 n3;obtain ⟨u,hu,hl,hlk⟩:=fitsL_cons.1 hlk;rw[Bd,NL hx hw];have hv:=n3 v (by simp);have get:∀ (i:Nat) (z:Node),(l.set f ⟨x.store,r⟩)[i]?=some z->(i=f/\z=⟨x.store,r⟩)\/(i≠f/\l[i]?=some z):=λi z hz=>by
  by_cases hi:f=i
  ·subst hi;rw[zdl hf] at hz;injection hz with hz;exact .inl ⟨rfl,hz.symm⟩
  ·rw[zdd hi] at hz;exact .inr ⟨λe=>hi e.symm,hz⟩
 refine zbb (z:=y) (u:=u) (by simpa using h.pos) (by simpa using h.le) (λi z hz=>?_) (λi z w hz hw' hne=>?_) (λi z hz hi=>?_) (by rw[zdd (by omega)];exact hy) hv hr hu hl (λi z hz hi=>?_)
 ·rcases get i z hz with ⟨_,rfl⟩ | ⟨_,g⟩
  ·unfold DO;simp only;simp only[zea] at n2;rw[n1,decide_eq_true (by omega),zdk,zdk,zdm];exact λw hw=>n3 w (by simp[hw])
  ·exact h.node i z g
 ·rcases get i z hz with ⟨rfl,_⟩ | ⟨_,g⟩
  ·exact absurd rfl hne
  ·rcases get (i+1) w hw' with ⟨e,rfl⟩ | ⟨_,g2⟩
   ·rw[e] at hw';exact h.link i z x g (by rw[e];exact hx)
   ·exact h.link i z w g g2
 ·rw[zdK] at hi;rcases get i z hz with ⟨rfl,_⟩ | ⟨_,g⟩
  ·omega
  ·exact h.last i z g hi
 ·rcases get i z hz with ⟨_,rfl⟩ | ⟨g,_⟩
  ·exact hlk
  ·omega
end


variable {l:List Tag}{p:Place}{k:Int}{s:ByteArray}{T:Type}{K:V->Heap->Option T}
def AS (p:Place) (l:List Tag):Int:=FL (E8 l) p.clock+1
def DW (p:Place) (k:Int) (s:ByteArray) (g:Bool) (l:List Tag):Ver:=⟨k,⟨AS p l,p.me⟩,l,s,g⟩
def Iz (p:Place) (l:List Tag):Bool:=BP l (A3 p.chain)&&(DC p.chain 0&&(decide (AS p l<=999)&&decide ((p.log.length:Int)<36)))
def Bg (p:Place) (k:Int) (s:ByteArray) (g:Bool) (l:List Tag):Bool:=Ai k 0 3&&(GO s&&((!g || Ju s)&&(BJ l&&Iz p l)))
def Ej (p:Place) (k:Int) (s:ByteArray) (g:Bool) (l:List Tag):Place×Tag:=bif Ay p then (bif Bg p k s g l then (BW (Fp p 0 (AS p l) (DW p k s g l)),⟨AS p l,p.me⟩) else (p,⟨0,0⟩)) else (zcg,⟨0,0⟩)
theorem newer_lt_iff {a c x:Int}:FL a c<x<->a<x/\c<x:=by unfold FL;split<;>omega
theorem zbC {A B:Int} (h:∀ x,A<x<->B<x):A=B:=by have h1:=(h (A+1)).1 (by omega);have h2:=(h (B+1)).2 (by omega);omega
theorem Y9 {c:Int} (hc:0<=c):l.foldl (λm t=>if t.time>m then t.time else m) c=FL (E8 l) c:=by
 refine zbC λx=>?_;rw[newer_lt_iff,latest_lt,RO];constructor
 ·rintro ⟨h1,h2⟩;exact ⟨⟨by omega,h2⟩,h1⟩
 ·rintro ⟨⟨_,h2⟩,h1⟩;exact ⟨h1,h2⟩
theorem Zf (h:BJ l=true):0<=E8 l/\E8 l<=999:=by
 have h1:E8 l<1000:=latest_lt.2 ⟨by omega,λt ht=>by
  simp only[BJ,CP,zdm] at h;have:=Jl (h.2 t ht);omega⟩
 have h2:¬ E8 l<0:=λh=>by have:=(latest_lt.1 h).1;omega
 omega
theorem L1 (hp:Ay p=true) (h:BJ l=true):1<=AS p l/\AS p l<=1000/\E8 l<AS p l/\p.clock<AS p l:=by have h1:=Zf h;have h2:=(AO hp).2.1;unfold AS FL;split<;>omega
theorem HR {g:Bool} (h:Bg p k s g l=true):(0<=k/\k<=3)/\GO s=true/\(g=true->Ju s=true)/\BJ l=true/\BP l (A3 p.chain)=true/\DC p.chain 0=true/\AS p l<=999/\p.log.length<36:=by unfold Bg Iz at h;simp only[CP,zdW,decide_eq_true_eq,Ai,zdR] at h;obtain ⟨h1,h2,h3,h4,h5,h6,h7,h8⟩:=h;exact ⟨h1,h2,λhg=>h3.resolve_left (by rw[hg];simp),h4,h5,h6,h7,by omega⟩
theorem P2 {g:Bool} (hp:Ay p=true) (h:Bg p k s g l=true):thin (DW p k s g l):=by obtain ⟨h1,h2,h3,h4,h5,h6,h7,h8⟩:=HR h;have g1:=CS h4;have g2:=Gw h2;have g3:=L1 hp h4;have g4:=(AO hp).1;refine ⟨by show l.length<=4;omega,by show s.size<=8;omega,?_⟩;show B8 (AS p l) p.me=true;unfold B8 Ai;rw[decide_eq_true g3.1,decide_eq_true h7,decide_eq_true g4.1,decide_eq_true g4.2];simp
theorem za8 {lo lo' e R bytes q:Nat}{a:Pq}{xs:List (List V)}{h:Heap}:Df lo e R bytes (.sl q a 0 (some 0)) xs h K=Df lo' e R bytes (.sl q a 0 (some 0)) xs h K:=by
 cases xs with
 | nil=>rfl
 | cons x xs =>
  cases a with
  | none=>rfl
  | some p =>
   obtain ⟨b,i⟩:=p;simp only[Df];have:Nat.ble (0+(x :: xs).length) 0=false:=by rw[zea,zdy];rfl
   rw[this]
section
variable {lo:Nat}{ro:Bool}{h:Heap}{F F' G:List Nat}{a a' av:Pq}{c c' cv:Nq}
theorem PT {a1 a2 a3:Pq}{c1 c2 c3:Nq} (hv:RTags ro h [.sl 2 av l.length cv] l G) (hok:Ay p=true) (hl:BJ l=true) :
  Af lo 126 [.agg (p.cs a1 c1 a2 c2 a3 c3),.agg [.sl 2 av l.length cv]] h=some (Iv (AS p l),h):=by
 have h4:=CS hl;have hc:=(AO hok).2.1;refine S0 (h':=h) ?_;have loop:∀ m i x,m+i=4->(∀ y:Int,(l.drop i).foldl (λm t=>if t.time>m then t.time else m) x=y -> -9223372036854775808<=y+1/\y+1<=9223372036854775807)->CN (List.length h) x (i:Nat) av l.length cv h=some (Iv ((l.drop i).foldl (λm t=>if t.time>m then t.time else m) x+1),h):=by
  intro m;induction m with
  | zero =>intro i x hi hb;rw[zdV (by omega)] at hb ⊢;have:=hb x rfl;rw[CN.e,Ak (by omega),wr (by omega) (by omega)];rfl
  | succ m ih =>
   intro i x hi hb;have hil:i<l.length:=by omega
   obtain ⟨o,ha,ho⟩:=hv.get hil;have ho1:ld h o.1 (o.2+i) 0 1=some [Iv l[i].time]:=by obtain ⟨o',row,G',h1,h2,⟨rfl,_⟩,_⟩:=hv.read hil;rw[ha] at h1;injection h1 with h1;subst h1;rw[h2];rfl
   rw[zdn hil,zd2] at hb ⊢;rw[CN.e,Al (by omega),Ae hil,ha,Ad,Bd,ho1,Ad,Aa,Ah,Ab,Ae hil,Ad,ho1,Ad,Aa,Ah,Ab,Ar (show i<9223372036854775807 by omega),<- ha];by_cases ht:l[i].time>x
   ·rw[if_pos ht] at hb ⊢;rw[Al ht];exact ih (i+1) _ (by omega) hb
   ·rw[if_neg ht] at hb ⊢;rw[Ak ht];exact ih (i+1) _ (by omega) hb
 have hnf:∀ y,(l.drop 0).foldl (λm t=>if t.time>m then t.time else m) p.clock=y->y=FL (E8 l) p.clock:=λy hy=>by rw[<- hy,zdX,Y9 hc.1]
 have hb:=L1 hok hl;have:=loop 4 0 p.clock rfl (λy hy=>by rw[hnf y hy];unfold AS at hb;omega);rw[hnf _ rfl] at this;exact this
theorem WW {a1 a2 a3:Pq}{c1 c2 c3:Nq}{F1:List Nat} (hs1:RNodes ro h [.sl 2 a1 p.chain.length c1] p.chain F1) (hv:RTags ro h [.sl 2 av l.length cv] l G) (hok:Ay p=true) (hl:BJ l=true) (hn:Ii p) :
  Af lo 57 [.agg (p.cs a1 c1 a2 c2 a3 c3),.agg [.sl 2 av l.length cv]] h=some (.bool (Iz p l),h):=by
 have h0:=Dk hok;have hchain:=(AO hok).2.2.2.1;obtain ⟨v5,h5,F5,e5,r5,m5⟩:=Mz (lo:=h.length) hs1 (zdb _) hn.1 h0;obtain ⟨a6,c6,e6,r6⟩:=r5.form;refine Vc (h':=h5) ?_;have en:=PT (lo:=h.length) (a1:=a1) (c1:=c1) (a2:=a2) (c2:=c2) (a3:=a3) (c3:=c3) (m5.keep0 rtags_ok hv) hok hl;simp only[Place.cs] at en;unfold Iz;rw[e5,Ac,AR,Aa,e6,Ah,Kc (m5.keep0 rtags_ok hv) r6 (CS hl) (MN hchain),Ac,At];cases BP l (A3 p.chain) with
 | false=>rw[Ax];rfl
 | true =>
 rw[Ao,PU (m5.keep0 rnodes_ok hs1) h0,Ac,At];cases DC p.chain 0 with
 | false=>rw[Ax];rfl
 | true =>
 rw[Ao,en,Ac,Ab];cases decide (AS p l<=999) with
 | false=>rw[Ax];rfl
 | true =>
 rw[Ao];cases decide ((p.log.length:Int)<36) with
 | false=>rw[Ax];rfl
 | true=>rw[Ao];rfl
theorem NF {g:Bool}{a1 a2 a3:Pq}{c1 c2 c3:Nq}{F1 F2 F3:List Nat} (hs1:RNodes false h [.sl 2 a1 p.chain.length c1] p.chain F1) (hs2:RVers false h [.sl 6 a2 p.log.length c2] p.log F2) (hs3:RVss false h [.sl 1 a3 p.got.length c3] p.got F3)
  (hv:RTags false h [.sl 2 av l.length cv] l G) (hok:Ay p=true) (hc:Bg p k s g l=true) (hnd:(F1++(F2++F3)).Nodup) (hlo:∀ b∈F1++(F2++F3),lo<=b) (hl:lo<=h.length) :
  ∃ a2' c2' h' F',Af lo 59 [.agg (p.cs a1 c1 a2 c2 a3 c3),Iv k,.str s,.bool g,.agg [.sl 2 av l.length cv]] h=some (.tup [.agg ((BW (Fp p 0 (AS p l) (DW p k s g l))).cs a1 c1 a2' c2' a3 c3),.agg [Iv (AS p l),Iv p.me]],h') /\
   Cy false h' ((BW (Fp p 0 (AS p l) (DW p k s g l))).cs a1 c1 a2' c2' a3 c3) (BW (Fp p 0 (AS p l) (DW p k s g l))) F'/\Mv h (F1++(F2++F3)) h' F':=by
 obtain ⟨g1,g2,g3,g4,g5,g6,g7,g8⟩:=HR hc;have h0:=Dk hok;have hl4:=CS g4;have hti:=ML hok;obtain ⟨a5,c5,h5,F5,e5,r5,m5⟩:=Mi (lo:=h.length) (h:=h) (l:=l) (zdb _) (by omega);rw[<- zdq] at hnd hlo ⊢;have hnd':=hnd;rw[zda] at hnd';have hdis:∀ y∈F3,y∉F1++F2:=λy hy hm=>hnd'.2.2 y hm y hy rfl;have hb12:∀ y∈F1++F2,y<h.length:=λy hy=>by rw[zc9] at hy;exact hy.elim (rnodes_ok.bd _ _ _ _ hs1 y) (rvers_ok.bd _ _ _ _ hs2 y)
 obtain ⟨h6,a6,c6,h7,F6,F7,e6,e7,r6,r7,m7⟩:=NH (lo:=lo) (v:=DW p k s g l) (k:=0) (t:=AS p l) (a3:=a3) (c3:=c3) (m5.keep0 rnodes_ok hs1) (m5.keep0 rvers_ok hs2) r5 (λy hy hm=>by
  have:=m5.new y hy;have:=hb12 y (by simp[hm]);omega) hnd'.1 (λy hy=>hlo y (by rw[zc9];exact .inl hy)) (zc8 hl m5.le) h0 g1 hti (P2 hok hc)
 have hcs:(Fp p 0 (AS p l) (DW p k s g l)).cs a1 c1 a2 c2 a3 c3 = [Iv p.me,Iv (AS p l),.sl 2 a1 p.chain.length c1,.sl 6 a2 p.log.length c2,.sl 1 a3 p.got.length c3,.bool p.fell]:=by simp only[Place.cs,Fp,Fe]
 rw[hcs] at e7;have m5':Mv h (F1++F2) h5 (F1++F2):=(m5.drop.aside (G:=F1++F2) hnd'.1 hb12);have m8:=m5'.trans m7;have b3':∀ y∈F3,y<h.length:=rvss_ok.bd _ _ _ _ hs3;have m9:=m8.aside (G:=F3) hnd b3';have hs3':=m8.keep rvss_ok hs3 hdis;refine ⟨a6,c6,h7,F6++F7++F3,Se ?_,⟨_,_,_,_,_,_,rfl,_,_,_,F6,F7,F3,rfl,by rw[zdq],r6,r7,hs3'⟩,m9⟩;have en:=PT (lo:=h.length) (a1:=a1) (c1:=c1) (a2:=a2) (c2:=c2) (a3:=a3) (c3:=c3) hv hok g4;simp only[Place.cs] at en;have e6':Af lo 129 [.agg [.sl 2 a1 p.chain.length c1],Iv 0,.agg [Iv k,Iv (AS p l),Iv p.me,.sl 2 a5 l.length c5,.str s,.bool g]] h5=some (.agg [.sl 2 a1 p.chain.length c1],h6):=e6;rw[en,Ac,Ab,RTags.rows (Mv.snoc.keep0 rtags_ok hv),za8 (lo':=h.length),e5,Ag,e6',Ac,AR,Aa,Ag,Ah,e7,Ac,AR];simp only[Place.cs];rw[Aa,Ab,Aa,Ab,Aa,Ag,Aa,Ag,Aa,Ag,Aa,AL,Ah]
end


variable {p:Place}{s:ByteArray}{l:List Tag}
theorem LR {k:Int}{g:Bool}:Bg p k s g l=(Ig ⟨k,⟨0,0⟩,l,s,g⟩&&Iz p l):=by unfold Bg Ig;simp only[Bool.and_assoc]
theorem Nz {k:Int}{g:Bool} (h:Ay p=true):Ej p k s g l=bif Bg p k s g l then (BW (Fp p 0 (AS p l) (DW p k s g l)),⟨AS p l,p.me⟩) else (p,⟨0,0⟩):=by unfold Ej;rw[h,cond_true]
section
variable {lo:Nat}{h:Heap}{F F' G:List Nat}{a a' av:Pq}{c c' cv:Nq}
end


variable {p:Place}
def IW (p:Place) (f:Nat) (at':Int) (v:Ver):Bool := !((f:Int)==p.me)&&((at'==((Lf p f).length:Int))&&(decide (((Lf p f).length:Int)<60) && !Cq (Lf p f) v.tag))
def EC (p:Place) (f at':Int) (v:Ver):Bool:=Ai f 0 2&&(Cl v&&((v.tag.place==f)&&IW p f.toNat at' v))
def IA (p:Place) (f:Nat) (v:Ver):Place:=⟨p.me,p.clock,p.chain,p.log,p.got.set f (Lf p f ++ [v]),p.fell⟩
def D9 (p:Place) (f at':Int) (v:Ver):Place:=bif EC p f at' v then IA p f.toNat v else p
theorem KK {a:Option (List V)}:GB a a=true:=by unfold GB;exact (@decide_eq_true_iff _ (_)).2 rfl
theorem Yl {f:Nat}{v:Ver}{a1 a2 a3:Pq}{c1 c2 c3:Nq}:(IA p f v).cs a1 c1 a2 c2 a3 c3=p.cs a1 c1 a2 c2 a3 c3:=by simp only[Place.cs,IA,zdK]
theorem Zq {h h':Heap}{b:Nat}{G1 G2 G3 G3':List Nat} (m:Mv h G3 h' G3') (hnd:(b ::(G1++(G2++G3))).Nodup) (hb:∀ y∈b ::(G1++(G2++G3)),y<h.length) :
  Mv h (b ::(G1++(G2++G3))) h' (b ::(G1++(G2++G3')))/\b∉G3/\(∀ y∈G1,y∉G3)/\∀ y∈G2,y∉G3:=by
 have hnd':=hnd;rw[zdg,zda,zc9,zc9,zda] at hnd';obtain ⟨n1,n2,⟨n3,n4,n5⟩,n6⟩:=hnd';simp only[not_or] at n1;have e:b ::(G1++(G2++G3))=(b ::(G1++G2))++G3:=by simp
 have e':b ::(G1++(G2++G3'))=(b ::(G1++G2))++G3':=by simp
 refine ⟨?_,n1.2.2,λy hy hm=>n6 y hy y (by simp[hm]) rfl,λy hy hm=>n5 y hy y hm rfl⟩;rw[e] at hnd hb ⊢;rw[e'];rw[zda] at hnd;exact (m.aside (G:=b ::(G1++G2)) (by rw[zda];exact ⟨hnd.2.1,hnd.1,λx hx y hy e=>hnd.2.2 y hy x hx e.symm⟩) λy hy=>hb y (by rw[zc9];exact .inl hy)).swap
section
variable {lo:Nat}{h:Heap}{F F' G:List Nat}{a a' av:Pq}{c c' cv:Nq}
theorem Un {f:Nat}{at':Int}{v:Ver}{a1 a2 a3:Pq}{c1 c2 c3:Nq}{F3:List Nat} (hs3:RVss false h [.sl 1 a3 p.got.length c3] p.got F3) (hv:RTags false h [.sl 2 av v.past.length cv] v.past G)
  (hf:f<p.got.length) (hgn:p.got[f].length<=1000000) (hvn:v.past.length<=1048576) (hnd:F3.Nodup) (hlo:∀ b∈F3,lo<=b) (hl:lo<=h.length) :
  ∃ h' F3',Af lo 260 [.agg (p.cs a1 c1 a2 c2 a3 c3),Iv (f:Nat),Iv at',.agg (v.cs av cv)] h=some (.tup [.agg (p.cs a1 c1 a2 c2 a3 c3),.bool (IW p f at' v)],h') /\
   RVss false h' [.sl 1 a3 p.got.length c3] (bif IW p f at' v then p.got.set f (p.got[f] ++ [v]) else p.got) F3'/\Mv h F3 h' F3'/\(IW p f at' v=false->h'=h):=by
 suffices hq:∃ h' F3',_=some (V.tup [.agg (p.cs a1 c1 a2 c2 a3 c3),.bool (IW p f at' v)],h')/\RVss false h' [.sl 1 a3 p.got.length c3] (bif IW p f at' v then p.got.set f (p.got[f] ++ [v]) else p.got) F3'/\Mv h F3 h' F3'/\(IW p f at' v=false->h'=h) from hq.imp λh' hq=>hq.imp λF' hq=>⟨S1 hq.1,hq.2⟩
 have hh:IW p f at' v=(!((f:Int)==p.me)&&((at'==(p.got[f].length:Int))&&(decide ((p.got[f].length:Int)<60) && !Cq p.got[f] v.tag))):=by unfold IW;rw[HO hf]
 rw[hh];cases x1:((f:Int)==p.me) with
 | true=>rw[Ao];exact ⟨h,F3,rfl,hs3,Mv.refl hnd,λ_=>rfl⟩
 | false =>
 obtain ⟨b,i,rs,row,G0,ha,hbF,hbG,hb,hrow,hel,hGF,hGn,_,put⟩:=hs3.at rvers_ok hf hnd hlo;have hrs:∃ s,row = [s]:=by obtain ⟨R',a',c',e,_⟩:=id hel;exact ⟨_,e⟩
 obtain ⟨s,rfl⟩:=hrs;obtain ⟨b3,d3,es,r3⟩:=hel.form;have hld:ld h b (i+f) 0 1=some [s]:=by rw[BA hb hrow];rfl
 rw[Ax,Ae hf,ha,Ad,Bd,hld,Ad,Aa,Ah,es];cases x2:(at'==(p.got[f].length:Int)) with
 | false=>rw[Ax];exact ⟨h,F3,rfl,by rw[<- ha];exact hs3,Mv.refl hnd,λ_=>rfl⟩
 | true =>
 have hat:at'=(p.got[f].length:Int):=by rwa [beq_iff_eq] at x2
 rw[Ao];cases x3:decide ((p.got[f].length:Int)<60) with
 | false =>
  have:(p.got[f].length:Int)>=60:=by have:=of_decide_eq_false x3;omega
  rw[Al (by omega)];exact ⟨h,F3,rfl,by rw[<- ha];exact hs3,Mv.refl hnd,λ_=>rfl⟩
 | true =>
 have:(p.got[f].length:Int)<60:=of_decide_eq_true x3;rw[Ak (by omega),Ae hf,Ad,hld,Ad,Aa,Ah,es,My r3 (by omega),Ac,At];have hht:Cq p.got[f] ⟨v.tag.time,v.tag.place⟩=Cq p.got[f] v.tag:=rfl;rw[hht];cases x4:Cq p.got[f] v.tag with
 | true=>rw[Ao];exact ⟨h,F3,rfl,by rw[<- ha];exact hs3,Mv.refl hnd,λ_=>rfl⟩
 | false =>
 obtain ⟨a5,c5,h5,F5,e5,r5,m5⟩:=Em (lo:=h.length) (v:=v) hv (zdb _) hvn;obtain ⟨a6,c6,h6,F6,e6,r6,m6⟩:=Dv (lo:=lo) (bytes:=72) (e:=43) rver_ok r3 (row:=v.cs a5 c5) (x:=v) (G:=F5) (h1:=h5 ++ [.rows 6 43 false [v.cs a5 c5]])
  ⟨_,rfl,Mv.snoc.keep0 rtags_ok r5⟩ (m5.trans (Mv.snoc' m5.nd)) hGn (λy hy=>hlo y (hGF y hy)) hl (by decide) (by omega)
 rw[show p.got[f].length+1=(p.got[f] ++ [v]).length by simp] at r6;obtain ⟨h7,F7,e7,r7,m7,_⟩:=put h6 F6 0 [.sl 6 a6 (p.got[f] ++ [v]).length c6] [.sl 6 a6 (p.got[f] ++ [v]).length c6] (p.got[f] ++ [v]) m6 rfl r6;rw[show (p.got[f] ++ [v]).length=p.got[f].length+1 by simp] at e7;rw[Ax,Ae hf,Ad,hld,Ad,Aa,Ah,es,e5,Ac,AR,Aa,Ab,Aa,Ab,Aa,Ab,Aa,Ag,Aa,BG,Aa,AL,Ah,A7];simp only[Ver.cs] at e6;rw[e6,Ag,Ae hf,Ad,e7,Ad];exact ⟨h7,F7,rfl,by rw[<- ha];exact r7,m7,λg=>by cases g⟩
end


variable {c t:Int}{s:ByteArray}{i:Nat}{x:Node}{k m:Int}
theorem Eu {a b d:Int}:FM a b c d=false<->¬ (a<c\/(a=c/\b<d)):=by rw[<- Bool.not_eq_true];simp[FM]
theorem under_iff {p q:List Tag}:BP p q=true<->∀ (i:Nat) (a b:Tag),p[i]?=some a->q[i]?=some b->FM b.time b.place a.time a.place=false:=by
 unfold BP;rw[zdm];constructor
 ·intro h i a b ha hb;have:=h (a,b) (zdu.2 ⟨i,ze0.2 ⟨ha,hb⟩⟩);simpa using this
 ·rintro h ⟨a,b⟩ hm
  obtain ⟨i,hi⟩:=zdu.1 hm;rw[ze0] at hi;simpa using h i a b hi.1 hi.2
theorem D5 {p:List Tag}:BP p p=true:=under_iff.2 λi a b ha hb=>by rw[ha] at hb;injection hb with hb;subst hb;rw[Eu];omega
theorem Lm {p q r:List Tag} (hl:p.length<=q.length) (h1:BP p q=true) (h2:BP q r=true):BP p r=true:=under_iff.2 λi a c ha hc=>by have hi:=(EA ha).1;have hb:=Dj (l:=q) (i:=i) (by omega);have x1:=under_iff.1 h1 i a _ ha hb;have x2:=under_iff.1 h2 i _ c hb hc;rw[Eu] at x1 x2 ⊢;omega
theorem OW {t s:List Ver} (h:upS t s):BP (Br t) (Br s)=true:=under_iff.2 λi a b ha hb=>by
 unfold Br at ha hb;rw[zeD,zdN] at ha hb;obtain ⟨x,hx,rfl⟩:=ha;obtain ⟨y,hy,rfl⟩:=hb;rw[Eu];rcases h i x y hx hy with rfl | g
 ·omega
 ·rw[Jf] at g;omega
def inCh (l:List Node) (v:Ver):Prop:=∃ x∈l,v∈x.store\/v∈x.wait
section
variable {l:List Node}{v:Ver}
theorem inCh.get (h:inCh l v):∃ (i:Nat) (x:Node),l[i]?=some x/\(v∈x.store\/v∈x.wait):=by obtain ⟨x,hx,hv⟩:=h;obtain ⟨i,hi⟩:=zdu.1 hx;exact ⟨i,x,hi,hv⟩
theorem inCh.of (hx:l[i]?=some x) (hv:v∈x.store\/v∈x.wait):inCh l v:=⟨x,zdp hx,hv⟩
theorem Ch.ver (h:Ch l) (hv:inCh l v) (ht:0<v.tag.time):Cl v=true:=by
 obtain ⟨i,x,hx,g | g⟩:=hv.get
 ·obtain ⟨j,hj⟩:=zdu.1 g;rcases Cp (Jm (h.store hx).1 hj) with g2 | g2
  ·have:=(DK g2).1;omega
  ·exact g2.1
 ·exact (AW (h.node i x hx)).2.2 v g
theorem Dg (hx:l[i]?=some x) (hi:i+1=l.length):A3 l=Br x.store:=by
 rw[GT (show 0<l.length by omega)];obtain ⟨hj,rfl⟩:=EA hx;have e:l.length - 1=i:=by omega
 simp only[e]
theorem Jg (hx:l[i]?=some x) (hi:i+1=l.length):Ew l=x.store:=by
 rw[E9 (show 0<l.length by omega)];obtain ⟨hj,rfl⟩:=EA hx;have e:l.length - 1=i:=by omega
 simp only[e]
theorem Ch.tail (h:Ch l):∃ z,l[l.length - 1]?=some z/\l.length - 1+1=l.length:=by have:=h.pos;exact ⟨_,Dj (by omega),by omega⟩
theorem Ch.four (h:Ch l):(A3 l).length=4/\(Ew l).length=4:=by obtain ⟨z,hz,hi⟩:=h.tail;rw[Dg hz hi,Jg hz hi];have:=(h.store hz).2;exact ⟨by simpa [Br] using this,this⟩
theorem TT (h:Ch l):(JT l).length=l.length+1/\A3 (JT l)=A3 l/\Ew (JT l)=Ew l/\(JT l)[0]?=l[0]?:=by
 have hp:=h.pos;obtain ⟨z,hz,hi⟩:=h.tail;obtain ⟨hj,e⟩:=EA hz;have hn:(JT l)[l.length]?=some ⟨z.store,[]⟩:=by rw[GF (by omega),zdx (zdb _),zeJ,e];rfl
 have hl:(JT l).length=l.length+1:=by rw[GF (by omega)];simp
 refine ⟨hl,?_,?_,?_⟩
 ·rw[Dg hn (by omega),Dg hz hi]
 ·rw[Jg hn (by omega),Jg hz hi]
 ·rw[GF (by omega),zde (by omega)]
theorem TY (hp:1<=l.length) (hv:inCh (JT l) v):inCh l v:=by
 rw[GF (by omega)] at hv;obtain ⟨x,hx,g⟩:=hv;rcases zc9.1 hx with hx | hx
 ·exact ⟨x,hx,g⟩
 ·rw[zdv] at hx;subst hx;rcases g with g | g
  ·exact ⟨_,zc7 (by omega),.inl g⟩
  ·exact absurd g (by simp)
theorem TZ {k:Nat} (hk:k<l.length) (hv:inCh (Ce l k) v):inCh l v:=by
 obtain ⟨i,x,hx,g⟩:=hv.get;rw[Kw hk] at hx;split at hx
 ·rw[zdN] at hx;obtain ⟨z,hz,rfl⟩:=hx;rcases g with g | g
  ·exact .of hz (.inl g)
  ·simp only at g;split at g
   ·exact .of hz (.inl (O8 g))
   ·simp at g
 ·split at hx
  ·exact .of hx g
  ·exact .of hx g
theorem NW {j:Nat}{u:Ver} (hv:inCh (He l j u) v):inCh l v\/v=u:=by
 unfold He at hv;split at hv
 ·rename_i x hx
  split at hv
  ·rename_i w hw
   cases hl:A0 w u with
   | false=>rw[hl] at hv;exact .inl hv
   | true =>
    rw[hl,cond_true] at hv;obtain ⟨y,hy,g⟩:=hv;rcases zdB hy with hy | rfl
    ·exact .inl ⟨y,hy,g⟩
    ·rcases g with g | g
     ·rcases zdB g with g | rfl
      ·exact .inl (.of hx (.inl g))
      ·exact .inr rfl
     ·simp only at g;cases hd:decide (j+1<l.length) with
      | false=>rw[hd] at g;exact .inl (.of hx (.inr g))
      | true =>
       rw[hd,cond_true] at g;rcases zc9.1 g with g | g
       ·exact .inl (.of hx (.inr g))
       ·exact .inr (by simpa using g)
  ·exact .inl hv
 ·exact .inl hv
theorem TX (hc:BL l k=true) (hv:inCh (FK l k.toNat) v):inCh l v:=by
 obtain ⟨f,x,y,u,r,rfl,hx,hy,hw,hr⟩:=KN hc;rw[Bd,NL hx hw] at hv;rcases NW hv with ⟨z,hz,g⟩ | rfl
 ·rcases zdB hz with hz | rfl
  ·exact ⟨z,hz,g⟩
  ·rcases g with g | g
   ·exact .of hx (.inl g)
   ·exact .of hx (.inr (by rw[hw];simp only at g;simp[g]))
 ·exact .of hx (.inr (by rw[hw];simp))
theorem KY (h:Ch l):Hb l=true<->∀ v,inCh l v->0<v.tag.time->BP v.past (A3 l)=true:=by
 unfold Hb KP;rw[zdm];constructor
 ·rintro hc v ⟨x,hx,g⟩ ht
  have:=hc x hx;rw[CP,zdm,zdm] at this;rcases g with g | g
  ·have:=this.1 v g;rw[zdW,zdR,decide_eq_false_iff_not] at this;exact this.resolve_left λhn=>hn ht
  ·exact this.2 v g
 ·intro hc x hx;rw[CP,zdm,zdm];refine ⟨λv hv=>?_,λv hv=>?_⟩
  ·by_cases ht:v.tag.time>0
   ·rw[hc v ⟨x,hx,.inl hv⟩ ht,Bool.or_true]
   ·rw[decide_eq_false ht];rfl
  ·obtain ⟨i,hi⟩:=zdu.1 hx;exact hc v ⟨x,hx,.inr hv⟩ (MJ ((AW (h.node i x hi)).2.2 v hv))
theorem GX (hx:l[0]?=some x):FA l c=true<->∀ v∈x.store,v.tag.time<=c:=by unfold FA;rw[hx];simp
theorem Wn (h:Ch l) {k:Nat} (hk:k<l.length) (h2:1<l.length):BP (A3 l) (A3 (Ce l k))=true:=by
 have hlen:=Kx hk h2;obtain ⟨z,hz,hi⟩:=h.tail;obtain ⟨z',hz',hi'⟩:=(h.fall hk h2).tail;rw[Dg hz hi,Dg hz' hi'];rw[Kw hk] at hz';split at hz'
 ·rename_i e
  rw[zdN] at hz';obtain ⟨w,hw,rfl⟩:=hz';exact OW (h.up 1 _ w z hw (by rw[show (Ce l k).length - 1+1=l.length - 1 by omega];exact hz))
 ·rename_i e
  split at hz'
  ·omega
  ·rw[show (Ce l k).length - 1+1=l.length - 1 by omega,hz] at hz';injection hz' with hz';subst hz';exact D5
theorem X3 (h:Ch l) (hv:Cl v=true):BP (A3 l) (A3 (He l 0 v))=true:=by
 have hp:=h.pos;have hz:l[0]?=some (l[0]'(by omega)):=Dj (by omega);obtain ⟨u,hu⟩:=h.key hz hv;rw[KD hz hu];cases hl:A0 u v with
 | false=>exact D5
 | true =>
  rw[cond_true];by_cases h1:l.length=1
  ·rw[Dg hz (by omega),Dg (i:=0) (zdl (by omega)) (by simpa using h1.symm)];exact OW (upS.set hu hl)
  ·obtain ⟨z,hz',hi⟩:=h.tail;rw[Dg hz' hi,Dg (i:=l.length - 1) (by rw[zdd (by omega)];exact hz') (by simpa using hi)];exact D5
theorem VP (h:Ch l) (hc:BL l k=true):BP (A3 l) (A3 (FK l k.toNat))=true:=by
 obtain ⟨f,x,y,v,r,rfl,hx,hy,hw,hr⟩:=KN hc;have hlk:=h.link f x y hx hy;rw[hw] at hlk;obtain ⟨u,hu,hl,_⟩:=fitsL_cons.1 hlk;have hf1:=(EA hy).1;obtain ⟨z,hz,hi⟩:=h.tail;have hy':(l.set f ⟨x.store,r⟩)[f+1]?=some y:=by rw[zdd (by omega)];exact hy
 rw[Bd,NL hx hw,KD hy' hu,hl,cond_true,Dg hz hi];by_cases he:f+1=l.length - 1
 ·rw[he,hz] at hy;injection hy with hy;subst hy;rw[Dg (i:=f+1) (zdl (by simpa using hf1)) (by simp;omega)];exact OW (upS.set hu hl)
 ·rw[Dg (i:=l.length - 1) (x:=z) (by rw[zdd (by omega),zdd (by omega)];exact hz) (by simpa using hi)];exact D5
theorem ZT {t s:List Ver} (h:upS t s) (hl:t.length<=s.length) (hs:∀ v∈s,v.tag.time<=c):∀ v∈t,v.tag.time<=c:=λv hv=>by
 obtain ⟨i,hi⟩:=zdu.1 hv;have hlt:=(EA hi).1;have hy:=Dj (l:=s) (i:=i) (by omega);have:=hs _ (zc7 (show i<s.length by omega));rcases h i v _ hi hy with rfl | g
 ·exact this
 ·rw[Jf] at g;omega
theorem Zy (h:Ch l) {k:Nat} (hk:k<l.length) (h2:1<l.length) (hh:FA l c=true):FA (Ce l k) c=true:=by
 have hlen:=Kx hk h2;have h0:l[0]?=some (l[0]'(by omega)):=Dj (by omega);have h1:l[1]?=some (l[1]'(by omega)):=Dj (by omega);have hh0:=(GX h0).1 hh;have hx:(Ce l k)[0]?=some ((Ce l k)[0]'(by omega)):=Dj (by omega);rw[GX hx];rw[Kw hk] at hx;split at hx
 ·rw[h0,zeq] at hx;injection hx with hx;rw[<- hx];exact hh0
 ·split at hx
  ·rw[h0] at hx;injection hx with hx;rw[<- hx];exact hh0
  ·rw[zdy,h1] at hx;injection hx with hx;rw[<- hx];exact ZT (h.up 1 0 _ _ h0 h1) (by rw[(h.store h0).2,(h.store h1).2];exact zdb _) hh0
theorem zba (h:Ch l) (hv:Cl v=true) (hh:FA l c=true) (hc:c<=t) (hvt:v.tag.time<=t):FA (He l 0 v) t=true:=by
 have hp:=h.pos;have hz:l[0]?=some (l[0]'(by omega)):=Dj (by omega);obtain ⟨u,hu⟩:=h.key hz hv;have hh0:=(GX hz).1 hh;rw[KD hz hu];cases hl:A0 u v with
 | false=>rw[cond_false,GX hz];exact λw hw=>by have:=hh0 w hw;omega
 | true =>
  rw[cond_true,GX (zdl (by omega))];intro w hw;rcases zdB hw with hw | rfl
  ·have:=hh0 w hw;omega
  ·exact hvt
theorem Y4 (h:Ch l) (hc:BL l k=true) (hh:FA l c=true):FA (FK l k.toNat) c=true:=by
 obtain ⟨f,x,y,v,r,rfl,hx,hy,hw,hr⟩:=KN hc;have hlk:=h.link f x y hx hy;rw[hw] at hlk;obtain ⟨u,hu,hl,_⟩:=fitsL_cons.1 hlk;have hf:=(EA hx).1;have hy':(l.set f ⟨x.store,r⟩)[f+1]?=some y:=by rw[zdd (by omega)];exact hy
 rw[Bd,NL hx hw,KD hy' hu,hl,cond_true];by_cases h0:f=0
 ·subst h0;rw[GX (x:=⟨x.store,r⟩) (by rw[zdd (by omega),zdl hf])];exact (GX hx).1 hh
 ·have hz:l[0]?=some (l[0]'(by omega)):=Dj (by omega);rw[GX (x:=l[0]'(by omega)) (by rw[zdd (by omega),zdd (by omega)];exact hz)];exact (GX hz).1 hh
end
theorem zad {p:Place} (h1:0<=p.me/\p.me<=2) (h2:0<=p.clock/\p.clock<=999) (h3:p.got.length=3) (h4:EB p.chain=true) (h5:Hb p.chain=true) (h6:GD p.me p.log=true)
  (h7:∀ i (hi:i<p.got.length),LJ p.me i p.got[i]=true) (h8:FA p.chain p.clock=true):Ay p=true:=by
 unfold Ay;simp only[CP,D6,decide_eq_true_eq,Ai];exact ⟨⟨⟨⟨⟨⟨⟨h1,h2⟩,h3⟩,h4⟩,h5⟩,h6⟩,h7⟩,h8⟩
theorem zcs {l:List Ver} (h1:l.length<=60) (h2:∀ i (hi:i<l.length),Cl l[i]=true/\l[i].tag.place=m/\Cq (l.take i) l[i].tag=false):GD m l=true:=by unfold GD;rw[CP,D6,decide_eq_true_eq];refine ⟨λi hi=>?_,by omega⟩;obtain ⟨g1,g2,g3⟩:=h2 i hi;unfold TO;rw[g1,g2,g3];simp
theorem VZ {l:List Ver}{v:Ver} (h:GD m l=true) (hv:Cl v=true) (hp:v.tag.place=m) (ht:Cq l v.tag=false) (hl:l.length<60):GD m (l ++ [v])=true:=by
 obtain ⟨h1,h2⟩:=Fo h;refine zcs (by simp;omega) λi hi=>?_;by_cases hil:i<l.length
 ·rw[List.getElem_append_left hil,zeP (by omega)];exact h2 i hil
 ·have e:i=l.length:=by simp at hi;omega
  subst e;rw[zeZ (zdb _),zeP (zdb _),List.take_length];simp only[zeJ,List.getElem_cons_zero];exact ⟨hv,hp,ht⟩
theorem TN {m:Int}:∀ {vs l:List Ver},(∀ v∈vs,0<v.tag.time->Cl v=true)->GD m l=true->l.length+vs.length<=60->GD m (vs.foldl (noted m) l)=true
 | [],l,_,h,_=>h
 | v :: vs,l,hv,h,hl=>by
  rw[zea] at hl;rw[zd2];have h3:=Y8 (me:=m) (log:=l) (v:=v);refine TN (λw hw=>hv w (by simp[hw])) ?_ (by omega);unfold noted;cases hc:(decide (v.tag.time>0)&&(v.tag.place==m && !Cq l v.tag)) with
  | false=>exact h
  | true =>simp only[CP,decide_eq_true_eq,beq_iff_eq,zdR] at hc;exact VZ h (hv v (by simp) hc.1) hc.2.1 hc.2.2 (by omega)
theorem hasTag_mem {l:List Ver}{t:Tag}:Cq l t=true<->∃ v∈l,v.tag=t:=by
 unfold Cq;rw[List.any_eq_true];constructor
 ·rintro ⟨v,hv,g⟩
  rw[CP,beq_iff_eq,beq_iff_eq] at g;exact ⟨v,hv,by cases hv:v.tag;cases t;simp_all⟩
 ·rintro ⟨v,hv,rfl⟩
  exact ⟨v,hv,by simp⟩
theorem O4 {m:Int}:∀ {vs l:List Ver},(∀ v∈vs,0<v.tag.time->v.tag.place=m->Cq (vs.foldl (noted m) l) v.tag=true)/\∃ r,vs.foldl (noted m) l=l++r
 | [],l=>⟨by simp,[],by simp⟩
 | v :: vs,l=>by
  obtain ⟨h1,r,h2⟩:=O4 (m:=m) (vs:=vs) (l:=noted m l v);rw[zd2];have hr:∃ r',noted m l v=l++r':=by
   unfold noted;cases decide (v.tag.time>0)&&(v.tag.place==m && !Cq l v.tag)
   ·exact ⟨[],by simp⟩
   ·exact ⟨[v],rfl⟩
  obtain ⟨r',hr'⟩:=hr;refine ⟨λw hw ht hp=>?_,r'++r,by rw[h2,hr',zdq]⟩;rcases zdf.1 hw with rfl | hw
  ·have hx:Cq (noted m l w) w.tag=true:=by
    unfold noted;rw[decide_eq_true ht,hp,IB,zdk,zdk];cases hc:Cq l w.tag with
    | true=>exact hc
    | false=>exact hasTag_mem.2 ⟨w,by simp,rfl⟩
   obtain ⟨u,hu,e⟩:=hasTag_mem.1 hx;rw[h2];exact hasTag_mem.2 ⟨u,zd5 _ hu,e⟩
  ·exact h1 w hw ht hp
section
variable {p:Place}
theorem Iy (h:Ay p=true):Ch p.chain:=chain_iff.1 (AO h).2.2.2.1
theorem zam (h:Ch p.chain):∀ v∈Ew p.chain,0<v.tag.time->Cl v=true:=λv hv ht=>by obtain ⟨z,hz,hi⟩:=h.tail;rw[Jg hz hi] at hv;exact h.ver (.of hz (.inl hv)) ht
theorem QN (h:Ay p=true) (hl:p.log.length<=56):Ay (BW p)=true:=by have hc:=Iy h;obtain ⟨h1,h2,h3,h4,h5,h6,h7,h8⟩:=AO h;exact zad (p:=BW p) h1 h2 h3 h4 h5 (TN (zam hc) h6 (by have:=hc.four.2;omega)) h7 h8
theorem NM {l':List Node}{f:Bool} (h:Ay p=true) (hc:Ch l') (hv:∀ v,inCh l' v->0<v.tag.time->inCh p.chain v\/BP v.past (A3 p.chain)=true)
  (hs:BP (A3 p.chain) (A3 l')=true) (ht:0<=t/\t<=999) (hh:FA l' t=true):Ay ⟨p.me,t,l',p.log,p.got,f⟩=true:=by
 have hc0:=Iy h;obtain ⟨h1,h2,h3,h4,h5,h6,h7,h8⟩:=AO h;refine zad (p:=⟨p.me,t,l',p.log,p.got,f⟩) h1 ht h3 (chain_iff.2 hc) ((KY hc).2 λv hvc hvt=>?_) h6 h7 hh;have hpl:=CS (AZ (hc.ver hvc hvt)).2.2.2.1;refine Lm (by rw[hpl,hc0.four.1];exact zdb _) ?_ hs;rcases hv v hvc hvt with g | g
 ·exact (KY hc0).1 h5 v g hvt
 ·exact g
theorem zbt (h:Ay p=true):Ay (Lc p)=true:=by
 have hc:=Iy h;have hp:=hc.pos;unfold Lc I0;cases hj:Ec p.chain with
 | false=>rw[cond_false];exact h
 | true =>
  have hl:p.chain.length<4:=by unfold Ec at hj;have:=of_decide_eq_true hj;omega
  obtain ⟨_,e1,e2,e3⟩:=TT hc;have h8:=(AO h).2.2.2.2.2.2.2;rw[cond_true];refine NM h (hc.join hl) (λv hv _ => .inl (TY hp hv)) (by rw[e1];exact D5) (AO h).2.1 ?_;unfold FA at h8 ⊢;rw[e3];exact h8
theorem RU {l:List Node} (h:De l k=true):∃ f:Nat,k=(f:Int)/\f<l.length/\1<l.length:=by simp only[De,Ai,CP,decide_eq_true_eq] at h;exact ⟨k.toNat,by omega,by omega,h.2⟩
theorem zbv (h:Ay p=true) (hl:p.log.length<=56):Ay (Dz p k)=true:=by
 have hc:=Iy h;unfold Dz;cases hf:CD p k with
 | false=>exact h
 | true =>unfold CD at hf;rw[CP] at hf;obtain ⟨f,rfl,h1,h2⟩:=RU hf.2;rw[cond_true,Bd];refine QN ?_ hl;exact NM h (hc.fall h1 h2) (λv hv _ => .inl (TZ h1 hv)) (Wn hc h1 h2) (AO h).2.1 (Zy hc h1 h2 (AO h).2.2.2.2.2.2.2)
theorem zbs (h:Ay p=true) (hl:p.log.length<=56):Ay (Er p k)=true:=by
 have hc:=Iy h;unfold Er;cases hf:BL p.chain k with
 | false=>exact h
 | true =>rw[cond_true];refine QN ?_ hl;exact NM h (hc.pass hf) (λv hv _ => .inl (TX hf hv)) (VP hc hf) (AO h).2.1 (Y4 hc hf (AO h).2.2.2.2.2.2.2)
theorem zae {v:Ver} (h:Ay p=true) (hv:Cl v=true) (hr:DC p.chain 0=true) (hu:BP v.past (A3 p.chain)=true) (h1:p.clock<=t) (h2:v.tag.time<=t) (h3:t<=999):Ay (Fp p 0 t v)=true:=by have hc:=Iy h;have hcl:=(AO h).2.1;exact NM h (hc.add hv hr) (λw hw _=>(NW hw).imp id λe=>by rw[e];exact hu) (X3 hc hv) ⟨by omega,h3⟩ (zba hc hv (AO h).2.2.2.2.2.2.2 h1 h2)
theorem zag:t<=FL t c/\c<=FL t c/\(FL t c=t\/FL t c=c):=by unfold FL;split<;>omega
theorem V0 {f:Nat}{v:Ver} (h:Ay p=true) (hv:KS p f=some v):Cl v=true/\v.tag.place=(f:Int)/\(f:Int)≠p.me/\f<3:=by
 unfold KS at hv;have hm:=List.mem_of_find?_eq_some hv;unfold Lf at hm;have h3:=(AO h).2.2.1;cases hg:p.got[f]? with
 | none=>rw[hg] at hm;simp at hm
 | some l =>rw[hg] at hm;simp only at hm;obtain ⟨hf,rfl⟩:=EA hg;have g:=(AO h).2.2.2.2.2.2.1 f hf;unfold LJ at g;rw[CP] at g;obtain ⟨i,hi,rfl⟩:=zdL.1 hm;obtain ⟨q1,q2,_⟩:=(Fo g.1).2 i hi;refine ⟨q1,q2,λe=>?_,by omega⟩;have:=g.2;rw[e,IB,zdT,zej,decide_eq_true_eq] at this;omega
theorem zbr (h:Ay p=true) (hl:p.log.length<=56):Ay (Dy p k)=true:=by
 unfold Dy;cases hk:Cn p k with
 | false=>exact h
 | true =>
  rw[cond_true];unfold Cn at hk;rw[CP] at hk;have hk:=hk.2;unfold Kk at hk;unfold Mx;cases hv:KS p k.toNat with
  | none=>exact h
  | some v =>rw[hv] at hk;simp only[CP] at hk;obtain ⟨v1,v2,v3,v4⟩:=V0 h hv;have:=Jl (AZ v1).2.2.2.2.1;have hcl:=(AO h).2.1;have hn:=zag (t:=v.tag.time) (c:=p.clock);exact QN (zae h v1 hk.1 hk.2 hn.2.1 hn.1 (by omega)) hl
theorem TM {g:Bool}{l:List Tag} (h:Ay p=true) (hc:Bg p k s g l=true):Cl (DW p k s g l)=true:=by
 rw[LR,CP] at hc;have hm:=hc.2;obtain ⟨h1,h2,h3,h4,h5,h6,h7,h8⟩:=HR (by rw[LR,hc.1,hc.2];rfl:Bg p k s g l=true);have ht:=L1 h h4;have hme:=(AO h).1;unfold Cl;rw[CP,CP];refine ⟨⟨hc.1,?_⟩,?_⟩
 ·show B8 (AS p l) p.me=true;simp[B8,Ai];omega
 ·show decide (E8 l<AS p l)=true;exact decide_eq_true (by omega)
theorem zac {g:Bool}{l:List Tag} (h:Ay p=true):Ay (Ej p k s g l).1=true:=by
 rw[Nz h];cases hc:Bg p k s g l with
 | false=>exact h
 | true =>obtain ⟨h1,h2,h3,h4,h5,h6,h7,h8⟩:=HR hc;have ht:=L1 h h4;exact QN (zae h (TM h hc) h6 h5 (by omega) (Int.le_refl _) h7) (by show p.log.length<=56;omega)
theorem zbu {f a:Int}{v:Ver} (h:Ay p=true):Ay (D9 p f a v)=true:=by
 unfold D9;cases hc:EC p f a v with
 | false=>exact h
 | true =>
  simp only[EC,IW,Ai,CP,decide_eq_true_eq,beq_iff_eq,zdR] at hc;obtain ⟨⟨h1,h2⟩,h3,h4,h5,h6,h7,h8⟩:=hc;obtain ⟨q1,q2,q3,q4,q5,q6,q7,q8⟩:=AO h;have hf:f.toNat<p.got.length:=by omega
  have e:((f.toNat:Nat):Int)=f:=by omega
  rw[cond_true];refine zad (p:=IA p f.toNat v) q1 q2 (by simpa [IA] using q3) q4 q5 q6 (λi hi=>?_) q8;have hi':i<p.got.length:=by simpa [IA] using hi
  show LJ p.me i ((p.got.set f.toNat (Lf p f.toNat ++ [v]))[i]'(by simpa using hi'))=true;rw[List.getElem_set];split
  ·rename_i ei
   subst ei;rw[HO hf] at h7 h8 ⊢;unfold LJ;rw[VZ (QQ h hf) h3 (by omega) h8 (by omega),zdk];rw[beq_eq_false_iff_ne] at h5;rw[beq_eq_false_iff_ne.2 h5];rfl
  ·exact q7 i hi'
end
end Go.Proofs.YtmgopagfoemomaaGreat
