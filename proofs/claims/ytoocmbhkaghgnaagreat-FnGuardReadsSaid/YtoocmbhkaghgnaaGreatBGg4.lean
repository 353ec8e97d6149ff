/- Part 4 of what is shown for the law Gg, whatever the input; no condition of its own. -/
import Derived.Test.YtoocmbhkaghgnaaGreatBGg3
set_option linter.unusedVariables false
set_option linter.unusedSimpArgs false
set_option linter.unnecessarySimpa false
set_option maxRecDepth 100000
namespace Go.Proofs.YtoocmbhkaghgnaaGreat
open Go T


variable {l:List Event}
def KB (w:World) (l:List Event):World:=l.foldl ON w
theorem LX {w:World}{e:Event}:KB w (e :: l)=KB (ON w e) l:=rfl
theorem OA:∀ {l:List Event}{w:World},Good w->Good (KB w l)
 | [],_,h=>h
 | _ :: l,_,h=>OA (l:=l) (Po h)
section
variable {lo:Nat}{h h':Heap}{w:World}{a1 a2 a3 a4 a:Pq}{c1 c2 c3 c4 c:Nq}{E F F' F1 F2 F3 F4:List Nat}{b n:Nat}
theorem WY (hg:Good w):Td w:=by
 have h1:=hg.ok.p3;have h2:=hg.ok.s4;have h3:=hg.ok.n12;have h4:=hg.ok.h80;refine ⟨⟨by omega,λp hp=>?_⟩,⟨by omega,λs hs=>?_⟩,⟨by omega,λf hf=>?_⟩,by omega⟩
 ·obtain ⟨i,hi⟩:=YX.1 hp;exact (Ew (CB (hg.ok.place i p hi).2) (by decide) (by decide) (by decide)).1
 ·have:=Dc (B0 (hg.ok.sess s hs)).2.1;omega
 ·have:=(Kx hg.fits (hg.ok.net f hf)).1;have h1:=this.1;have h2:=this.2;omega
theorem UD {f:Frame}:(Jj w f).sess=w.sess:=by unfold Jj;split<;>rfl
theorem T9 {w':World}{e:Event} (he:EB w e=some w'):w'.sess.length=w.sess.length:=by
 unfold EB D6 Eg Kd Ge Jx QQ E9 N5 J0 at he;simp only[cond_eq_ite] at he
 repeat' split at he
 all_goals first
  | (cases he;done)
  | (injection he with he;subst he;simp[setS,setP,setN,UD];done)
  | (rw[Zd] at he;obtain ⟨q,_,rfl⟩:=he;rfl)
theorem Xn {e:Event}:(ON w e).sess.length=w.sess.length:=by
 unfold ON;cases he:EB w e with
 | none=>rfl
 | some w'=>exact T9 he
theorem O0 (r:Rd lo h b n) (hn:n<=290000) (hl:lo<=h.length) :
  ∃ (n0 s0:Nat) (l:List Event) (a:Pq) (c:Nq) (h':Heap) (E:List Nat),Ae lo 46 [.ptr (some (b,(0,0)))] h=some (.tup [Iv (n0:Nat),Iv (s0:Nat),.sl 6 a l.length c],h')/\(1<=n0/\n0<=4)/\(1<=s0/\s0<=4)/\REvents h' [.sl 6 a l.length c] l E/\(∀ e∈l,e.text.size<=10)/\l.length<=1000 /\
   Rd lo h' b (n+3010)/\Mv h [b] h' (b :: E):=by
 obtain ⟨v,h1,e1,g1,g1',r1,m1⟩:=pick r (by omega) 4;obtain ⟨u,h2,e2,g2,g2',r2,m2⟩:=pick r1 (by omega) 4;obtain ⟨k,h3,e3,hk,r3,m3⟩:=DU (e:=3) [0,20,60,120] (rows := [[Iv 0],[Iv 20],[Iv 60],[Iv 120]]) (len:=4) (cc:=some 4) r2 (by omega) rfl rfl (by decide);have hv:=g1' (by omega);have hu:=g2' (by omega);have hk':0<=k/\k<=120:=by simp at hk;omega
 obtain ⟨q,rfl⟩:∃ q:Nat,k=(q:Int):=⟨k.toNat,by omega⟩;obtain ⟨n0,hn0⟩:∃ n0:Nat,1+v=(n0:Int):=⟨(1+v).toNat,by omega⟩;obtain ⟨s0,hs0⟩:∃ s0:Nat,1+u=(s0:Int):=⟨(1+u).toNat,by omega⟩;have m13:=(m1.trans m2).trans m3;obtain ⟨l,a,c,h4,E,e4,f2,f3,f4,f5,f6⟩:=LO (n0:=n0) (s0:=s0) (most:=q) (by omega) (by omega) (by omega) (by omega) r3 (by omega) (YD hl m13.le);refine ⟨n0,s0,l,a,c,h4,E,MV ?_,⟨by omega,by omega⟩,⟨by omega,by omega⟩,f2,f3,f4,f5.up (by omega),m13.trans f6⟩;rw[e1,Ac,Aa,e2,Ac,Aa,e3,Ac,Aa,wr (by omega) (by omega),wr (by omega) (by omega),hn0,hs0,e4,Ac,Ah]
theorem N9:∀ {l:List Event}{w:World},(KB w l).sess.length=w.sess.length
 | [],_=>rfl
 | e :: l,w=>by rw[LX,N9,Xn]
theorem Ui (ht:∀ e∈l,e.text.size<=1048576) (hl6:l.length<=1048576):∀ (r m:Nat) (hh:Heap) (w:World) (E:List Nat) (x1:Pq) (y1:Nq) (x2:Pq) (y2:Nq) (x3:Pq) (y3:Nq) (x4:Pq) (y4:Nq) (K1 K2 K3 K4:List Nat),
  m+r=l.length->REvents hh [.sl 6 a l.length c] l E->WR lo hh w x1 y1 x2 y2 x3 y3 x4 y4 K1 K2 K3 K4->Good w->(∀ y∈E,y∉K1++(K2++(K3++K4))) ->
  ∃ cs' h' F',Bz lo a l.length c (m:Nat) 0 none 0 (some 0) 0 none 0 (some 0) 0 none 0 (some 0) 0 none 0 (some 0) x1 w.places.length y1 x2 w.sess.length y2 x3 w.net.length y3 x4 w.hist.length y4 hh=some (.agg cs',h')/\KT lo h' cs' (KB w ((l.take 60).drop m)) F'/\Mv hh (K1++(K2++(K3++K4))) h' F':=by
 intro r;induction r with
 | zero =>intro m hh w E x1 y1 x2 y2 x3 y3 x4 y4 K1 K2 K3 K4 hm re H hg hd;exact ⟨_,hh,_,by rw[Bz.e,Ak (by omega)],by rw[List.drop_of_length_le (by rw[Zr];omega)];exact H.at,Mv.refl H.nd⟩
 | succ r ih =>
  intro m hh w E x1 y1 x2 y2 x3 y3 x4 y4 K1 K2 K3 K4 hm re H hg hd;by_cases h60:(m:Int)<60
  ·have hml:m<l.length:=by omega
   obtain ⟨o,row,G,ha,hld,⟨rfl,_⟩,_⟩:=re.read hml;obtain ⟨cs2,h2,F2,e2,⟨z1,t1,z2,t2,z3,t3,z4,t4,Q1,Q2,Q3,Q4,rfl,rfl,H2⟩,m2,_⟩:=N0 (e:=l[m]) H hg.fits (ht _ (YJ hml));have re2:=m2.keep revents_ok re hd;have hEb:=revents_ok.bd _ _ _ _ re;obtain ⟨cs',h',F',f1,f2,f4⟩:=ih (m+1) h2 (ON w l[m]) E _ _ _ _ _ _ _ _ _ _ _ _ (by omega) re2 H2 (Po hg) (λy hy hm=>by
    rcases m2.sub y hm with g | g
    ·exact hd y hy g
    ·have:=hEb y hy;omega)
   have hld6:ld hh o.1 (o.2+m) 0 6=some l[m].cs:=by rw[hld];exact Ju rfl
   simp only[Event.cs] at hld6;simp only[Event.cs,World.cs] at e2;have hdr:(l.take 60).drop m=l[m] ::(l.take 60).drop (m+1):=by rw[YN (show m<(l.take 60).length by rw[Zr];omega),List.getElem_take]
   refine ⟨cs',h',F',?_,by rw[hdr,LX];exact f2,m2.trans f4⟩;rw[Bz.e,Aj (by omega),Aj h60,Ad hml,ha,Ag,BA,hld6,Ag,Ab,Aa,Ab,Aa,Ab,Aa,Ab,Aa,Ab,Dg,Ab,Bk,Ai,e2,Ac,Np,Ab,A3,Ab,Ah,Ab,Ah,Ab,Ah,Ab,Ah,Ai,Ab,AC,Ai,As (by omega),<- ha];cases (EB w l[m]).isSome
   ·rw[Au];exact f1
   ·rw[Ao];exact f1
  ·exact ⟨_,hh,_,by rw[Bz.e,Aj (by omega),Ak h60],by rw[List.drop_of_length_le (by rw[Zr];omega)];exact H.at,Mv.refl H.nd⟩
theorem Ql {n0 s0:Nat} (h1:1<=n0) (h4:n0<=4) (hs:s0<=4) (re:REvents h [.sl 6 a l.length c] l E) (ht:∀ e∈l,e.text.size<=1048576) (hl6:l.length<=1048576) (hl:lo<=h.length) :
  ∃ cs' h' F',Ae lo 48 [Iv (n0:Nat),Iv (s0:Nat),.sl 6 a l.length c] h=some (.agg cs',h')/\KT lo h' cs' (KB (GM n0 s0) (l.take 60)) F'/\Mv h [] h' F':=by
 obtain ⟨cs,h2,F2,e2,w2,m2⟩:=LK (lo:=lo) (h:=h) h1 h4 (by omega:s0<=1000) hl;obtain ⟨s1,s2,s3,s4,a1,c1,a2,c2,a3,c3,a4,c4,K1,K2,K3,K4,rfl,rfl,es1,es2,es3,es4,H⟩:=JI w2 m2 hl;have hEb:=revents_ok.bd _ _ _ _ re;obtain ⟨cs',h',F',f1,f2,f4⟩:=Ui ht hl6 l.length 0 h2 (GM n0 s0) E _ _ _ _ _ _ _ _ _ _ _ _ (by omega) (m2.keep0 revents_ok re) H (JS h1 h4 hs) (λy hy hm=>by have:=m2.new y hm;have:=hEb y hy;omega);refine ⟨cs',h',F',Nv ?_,by rw[Zg] at f2;exact f2,m2.trans f4⟩;rw[e2,Ac,A3,Ab,es1,Ab,es2,Ab,es3,Ab,es4,Ai];exact f1
theorem RL (r:Rd lo h b n) (hn:n<=290000) (hl:lo<=h.length) :
  ∃ (w:World) (a1:Pq) (c1:Nq) (a2:Pq) (c2:Nq) (a3:Pq) (c3:Nq) (a4:Pq) (c4:Nq) (h':Heap) (F1 F2 F3 F4:List Nat),Ae lo 31 [.ptr (some (b,(0,0)))] h=some (.agg (w.cs a1 c1 a2 c2 a3 c3 a4 c4),h')/\WR lo h' w a1 c1 a2 c2 a3 c3 a4 c4 F1 F2 F3 F4/\Good w/\1<=w.sess.length/\Rd lo h' b (n+3010)/\Mv h [b] h' (b ::(F1++(F2++(F3++F4)))):=by
 obtain ⟨n0,s0,l,a,c,h1,E,e1,hn0,hs0,re,ht,hl6,r1,m1⟩:=O0 r hn hl;have l1:=YD hl m1.le;obtain ⟨cs2,h2,F2,e2,⟨z1,t1,z2,t2,z3,t3,z4,t4,Q1,Q2,Q3,Q4,rfl,rfl,H2⟩,m2⟩:=Ql hn0.1 hn0.2 hs0.2 re (λe he=>by have:=ht e he;omega) (by omega) l1;have hg:=OA (l:=l.take 60) (JS hn0.1 hn0.2 hs0.2);have hsl:(KB (GM n0 s0) (l.take 60)).sess.length=s0:=by rw[N9];simp[GM]
 generalize KB (GM n0 s0) (l.take 60)=w at H2 hg hsl e2 m2;obtain ⟨cs,h3,K,e3,w3,m3⟩:=Qm (lo:=lo) H2.r1 H2.r2 H2.r3 H2.r4 (WY hg) H2.hl;obtain ⟨s1,s2,s3,s4,a1,c1,a2,c2,a3,c3,a4,c4,K1,K2,K3,K4,rfl,rfl,es1,es2,es3,es4,H⟩:=JI w3 m3 H2.hl;have m12:Mv h [b] h2 [b]:=(m1.lean (F'' := [b]) (by simp) (by simp)).trans (m2.drop.aside (F := []) (F' := []) (G := [b]) (by simp) (by simp;exact r1.lt));have m13:Mv h [b] h3 (b ::(K1++(K2++(K3++K4)))):=by have:=m12.join m3 (by simp;exact YT r1.lt m2.le);simpa using this
 refine ⟨w,a1,c1,a2,c2,a3,c3,a4,c4,h3,K1,K2,K3,K4,KY ?_,H,hg,?_,(r1.keep m2 (by simp) (by simp)).keep m3 (by simp) (by simp),m13⟩
 ·simp only[World.cs] at e2 e3;rw[e1,Ac,Np,Ab,Aa,Ab,Aa,Ab,Ah,Ai,e2,Ac,A3,Ab,Ah,Ab,Ah,Ab,Ah,Ab,Ah,Ai,e3,Ac,A3,Ab,es1,Ab,es2,Ab,es3,Ab,es4,Ai]
 ·omega
end


variable {p:List Tag}{w:World}
theorem L6 {a b:Tag}:Bx (C1 a b).time (C1 a b).place a.time a.place=false:=by
 unfold C1 CG;cases hl:Bx a.time a.place b.time b.place with
 | true =>have:=hl;rw[cond_true,BP];unfold Bx at this;simp only[Ze,decide_eq_true_eq,Cz,beq_iff_eq] at this;omega
 | false=>rw[cond_false,BP];omega
theorem Qc {k:Nat}{t:Tag}:BT p (CI p k t)=true:=under_iff.2 λi a b ha hb=>by
 unfold CI at hb;cases hx:p[k]? with
 | none=>rw[hx] at hb;simp only[ha] at hb;injection hb with hb;subst hb;rw[BP];omega
 | some x =>
  rw[hx] at hb;simp only[] at hb;by_cases hik:k=i
  ·subst hik;have hk:=(DB hx).1;rw[YO hk] at hb;rw[hx] at ha;injection ha with ha;injection hb with hb;subst ha;subst hb;exact L6
  ·rw[YG hik,ha] at hb;injection hb with hb;subst hb;rw[BP];omega
theorem Q0 {q:List Tag}:BT p (Bs p q)=true:=under_iff.2 λi a b ha hb=>by
 unfold Bs at hb;rw[List.getElem?_zipWith] at hb;cases hq:q[i]? with
 | none=>rw[ha,hq] at hb;cases hb
 | some x=>rw[ha,hq] at hb;injection hb with hb;subst hb;exact L6
structure More (w w':World):Prop where
 len:w'.sess.length=w.sess.length
 past:∀ (i:Nat) (s s':Sess),w.sess[i]?=some s->w'.sess[i]?=some s'->BT s.past s'.past=true
 hist:∃ r,w'.hist=w.hist++r
theorem More.refl:More w w:=⟨rfl,λi s s' h h'=>by rw[h] at h';injection h' with h';subst h';exact C7,[],by simp⟩
theorem More.trans {u v w:World} (hu:Good u) (hv:Good v) (h1:More u v) (h2:More v w):More u w:=by obtain ⟨r1,e1⟩:=h1.hist;obtain ⟨r2,e2⟩:=h2.hist;refine ⟨h2.len.trans h1.len,λi s s' h h'=>?_,r1++r2,by rw[e2,e1,YV]⟩;have hi:=(DB h).1;have hv':=CF (show i<v.sess.length by rw[h1.len];exact hi);have l1:=Dc (B0 (hu.ok.sess _ (YS h))).2.1;have l2:=Dc (B0 (hv.ok.sess _ (YS hv'))).2.1;exact Hi (by omega) (h1.past i _ _ h hv') (h2.past i _ _ hv' h')
theorem More.setS {w:World}{i:Nat}{s t:Sess}{ds:List Done} (hs:w.sess[i]?=some s) (hu:BT s.past t.past=true):More w (Go.Proofs.YtoocmbhkaghgnaaGreat.setS w i t ds):=by
 refine ⟨by simp[Go.Proofs.YtoocmbhkaghgnaaGreat.setS],λj x y hx hy=>?_,ds,rfl⟩;simp only[Go.Proofs.YtoocmbhkaghgnaaGreat.setS] at hy;by_cases hij:i=j
 ·subst hij;rw[YO (DB hs).1] at hy;injection hy with hy;rw[hs] at hx;injection hx with hx;subst hx;subst hy;exact hu
 ·rw[YG hij,hx] at hy;injection hy with hy;subst hy;exact C7
theorem More.same {w':World} (h1:w'.sess=w.sess) (h2:w'.hist=w.hist):More w w':=⟨by rw[h1],λi s s' h h'=>by rw[h1,h] at h';injection h' with h';subst h';exact C7,[],by rw[h2];simp⟩


def Yp (rs:List (List V)) (i:Nat) (row:List V):Blk := .rows 6 100 false (rs.set i row)
section
variable {lo:Nat}{ro:Bool}{h:Heap}{F F':List Nat}{a a':Pq}{c c':Nq}
end


theorem Sli.atP {α:Type}{El:Rel α} (ok:El.Ok) {h:Heap}{R R' e n k:Nat}{a:Pq}{c:Nq}{l:List α}{F:List Nat} (hs:Sli false R e El h [.sl R' a n c] l F) (hk:k<l.length) (hnd:F.Nodup) :
  ∃ (b i:Nat) (rs:List (List V)) (row:List V) (G:List Nat),a=some (b,i)/\b∈F/\b∉G/\h[b]?=some (.rows R e false (rs.set (i+k) row))/\i+k<rs.length/\El h row l[k] G/\(∀ y∈G,y∈F)/\G.Nodup /\
   ∀ h' row' x' G',h'[b]?=some (.rows R e false (rs.set (i+k) row'))->El h' row' x' G'->Mv h (b :: G) h' (b :: G')->∃ F',Sli false R e El h' [.sl R' a n c] (l.set k x') F'/\Mv h F h' F':=by
 have hbd:=(Sli.ok ok).bd _ _ _ _ hs;obtain ⟨b,i,rs,row,G,ha,hbF,hbG,hb,hrow,hel,hGF,hGn,put⟩:=hs.put ok.fr hk hnd;refine ⟨b,i,rs,row,G,ha,hbF,hbG,by rw[set_same hrow];exact hb,(DB hrow).1,hel,hGF,hGn,λh' row' x' G' hb' hx m=>?_⟩;have hnd':=m.nd;rw[Y2] at hnd';have hsub:∀ y∈b :: G,y∈F:=λy hy=>by
  rcases YW.1 hy with rfl | hy
  ·exact hbF
  ·exact hGF y hy
 obtain ⟨F',p1,p2,p3,_⟩:=put h' row' x' G' hb' (λy hy hyb hyG=>m.fr y (hbd y hy) (by simp[hyb,hyG])) hx hnd'.2 (λy hy hyF=>by
  rcases m.sub y (by simp[hy]) with g | g
  ·rcases YW.1 g with rfl | g
   ·exact absurd hy hnd'.1
   ·exact g
  ·have:=hbd y hyF;omega)
 refine ⟨F',p1,m.le,λy hy hyF=>m.fr y hy λhg=>hyF (hsub y hg),p3,λy hy=>?_⟩;rcases p2 y hy with g | g
 ·exact .inl g.1
 ·rcases m.sub y (by simp[g]) with q | q
  ·exact .inl (hsub y q)
  ·exact .inr q
abbrev RPlacesN:Rel (List Place):=Sli false 6 (V1 false) (Jy false)
theorem rplacesN_ok:RPlacesN.Ok:=Sli.ok LT
structure WN (lo:Nat) (h:Heap) (b:Nat) (w:World) (a1:Pq) (c1:Nq) (a2:Pq) (c2:Nq) (a3:Pq) (c3:Nq) (a4:Pq) (c4:Nq) (F1 F2 F3 F4:List Nat):Prop where
 hb:h[b]?=some (.rows 4 53 false [w.cs a1 c1 a2 c2 a3 c3 a4 c4])
 r1:RPlacesN h [.sl 6 a1 w.places.length c1] w.places F1
 r2:RSesss false h [.sl 5 a2 w.sess.length c2] w.sess F2
 r3:RFrames false h [.sl 9 a3 w.net.length c3] w.net F3
 r4:RDones false h [.sl 5 a4 w.hist.length c4] w.hist F4
 nd:(b ::(F1++(F2++(F3++F4)))).Nodup
 ge:∀ y∈b ::(F1++(F2++(F3++F4))),lo<=y
 hl:lo<=h.length
def Yo (lo:Nat) (h:Heap) (b:Nat) (w:World) (F:List Nat):Prop:=∃ a1 c1 a2 c2 a3 c3 a4 c4 F1 F2 F3 F4,F=b ::(F1++(F2++(F3++F4)))/\WN lo h b w a1 c1 a2 c2 a3 c3 a4 c4 F1 F2 F3 F4
section
variable {lo b:Nat}{h h':Heap}{w:World}{a1 a2 a3 a4 a:Pq}{c1 c2 c3 c4 c:Nq}{F1 F2 F3 F4:List Nat}
theorem WN.at (H:WN lo h b w a1 c1 a2 c2 a3 c3 a4 c4 F1 F2 F3 F4):Yo lo h b w (b ::(F1++(F2++(F3++F4)))):=⟨a1,c1,a2,c2,a3,c3,a4,c4,F1,F2,F3,F4,rfl,H⟩
theorem WN.blt (H:WN lo h b w a1 c1 a2 c2 a3 c3 a4 c4 F1 F2 F3 F4):b<h.length:=(DB H.hb).1
theorem WN.lt (H:WN lo h b w a1 c1 a2 c2 a3 c3 a4 c4 F1 F2 F3 F4):(∀ y∈F1,y<h.length)/\(∀ y∈F2,y<h.length)/\(∀ y∈F3,y<h.length)/\∀ y∈F4,y<h.length :=
 ⟨rplacesN_ok.bd _ _ _ _ H.r1,rsesss_ok.bd _ _ _ _ H.r2,rframes_ok.bd _ _ _ _ H.r3,rdones_ok.bd _ _ _ _ H.r4⟩
theorem WN.bd (H:WN lo h b w a1 c1 a2 c2 a3 c3 a4 c4 F1 F2 F3 F4):∀ y∈F1++(F2++(F3++F4)),y<h.length:=λy hy=>by
 obtain ⟨g1,g2,g3,g4⟩:=H.lt;simp only[YF] at hy;rcases hy with hy | hy | hy | hy
 ·exact g1 y hy
 ·exact g2 y hy
 ·exact g3 y hy
 ·exact g4 y hy
theorem WN.ne (H:WN lo h b w a1 c1 a2 c2 a3 c3 a4 c4 F1 F2 F3 F4):b∉F1++(F2++(F3++F4))/\(F1++(F2++(F3++F4))).Nodup:=Y2.1 H.nd
theorem WN.with (H:WN lo h b w a1 c1 a2 c2 a3 c3 a4 c4 F1 F2 F3 F4) {F':List Nat} (m:Mv h (F1++(F2++(F3++F4))) h' F'):h'[b]?=h[b]?/\Mv h (b ::(F1++(F2++(F3++F4)))) h' (b :: F'):=by
 have e:=m.fr b H.blt H.ne.1;refine ⟨e,⟨m.le,λy hy hF=>m.fr y hy λg=>hF (by simp[g]),?_,λy hy=>?_⟩⟩
 ·rw[Y2];refine ⟨λhm=>?_,m.nd⟩;rcases m.sub b hm with g | g
  ·exact H.ne.1 g
  ·have:=H.blt;omega
 ·rcases YW.1 hy with rfl | hy
  ·exact .inl (by simp)
  ·rcases m.sub y hy with g | g
   ·exact .inl (by simp[g])
   ·exact .inr g
theorem WN.up1 (H:WN lo h b w a1 c1 a2 c2 a3 c3 a4 c4 F1 F2 F3 F4) {l:List Place}{G:List Nat} (hn:l.length=w.places.length) (m:Mv h F1 h' G) (r:RPlacesN h' [.sl 6 a1 w.places.length c1] l G) :
  WN lo h' b ⟨l,w.sess,w.net,w.hist⟩ a1 c1 a2 c2 a3 c3 a4 c4 G F2 F3 F4/\Mv h (b ::(F1++(F2++(F3++F4)))) h' (b ::(G++(F2++(F3++F4)))):=by
 obtain ⟨_,d12,d13,d14,d23,d24,d34⟩:=Oe H.ne.2;have m1:Mv h (F1++(F2++(F3++F4))) h' (G++(F2++(F3++F4))):=m.mid (.refl _) H.ne.2 (λy hy=>H.bd y (by simp only[YF] at hy ⊢;grind)) (.refl _);obtain ⟨e,m2⟩:=H.with m1;refine ⟨⟨by rw[e,H.hb];simp only[World.cs,hn],by rw[<- hn] at r;exact r,m.keep rsesss_ok H.r2 (λb hb hm=>d12 b hm hb),m.keep rframes_ok H.r3 (λb hb hm=>d13 b hm hb),m.keep rdones_ok H.r4 (λb hb hm=>d14 b hm hb),m2.nd,m2.ge H.hl H.ge,YD H.hl m.le⟩,m2⟩
theorem WN.up2 (H:WN lo h b w a1 c1 a2 c2 a3 c3 a4 c4 F1 F2 F3 F4) {l:List Sess}{G:List Nat} (hn:l.length=w.sess.length) (m:Mv h F2 h' G) (r:RSesss false h' [.sl 5 a2 w.sess.length c2] l G) :
  WN lo h' b ⟨w.places,l,w.net,w.hist⟩ a1 c1 a2 c2 a3 c3 a4 c4 F1 G F3 F4/\Mv h (b ::(F1++(F2++(F3++F4)))) h' (b ::(F1++(G++(F3++F4)))):=by
 obtain ⟨_,d12,d13,d14,d23,d24,d34⟩:=Oe H.ne.2;have m1:Mv h (F1++(F2++(F3++F4))) h' (F1++(G++(F3++F4))):=m.mid Oa H.ne.2 (λy hy=>H.bd y (by simp only[YF] at hy ⊢;grind)) Oa;obtain ⟨e,m2⟩:=H.with m1;refine ⟨⟨by rw[e,H.hb];simp only[World.cs,hn],m.keep rplacesN_ok H.r1 (λb hb hm=>d12 b hb hm),by rw[<- hn] at r;exact r,m.keep rframes_ok H.r3 (λb hb hm=>d23 b hm hb),m.keep rdones_ok H.r4 (λb hb hm=>d24 b hm hb),m2.nd,m2.ge H.hl H.ge,YD H.hl m.le⟩,m2⟩
theorem WN.up0 (H:WN lo h b w a1 c1 a2 c2 a3 c3 a4 c4 F1 F2 F3 F4) (m:Mv h [] h' []):WN lo h' b w a1 c1 a2 c2 a3 c3 a4 c4 F1 F2 F3 F4/\Mv h (b ::(F1++(F2++(F3++F4)))) h' (b ::(F1++(F2++(F3++F4)))):=by have m1:Mv h (F1++(F2++(F3++F4))) h' (F1++(F2++(F3++F4))):=m.aside (by simpa using H.ne.2) H.bd;obtain ⟨e,m2⟩:=H.with m1;exact ⟨⟨by rw[e,H.hb],m.keep0 rplacesN_ok H.r1,m.keep0 rsesss_ok H.r2,m.keep0 rframes_ok H.r3,m.keep0 rdones_ok H.r4,H.nd,H.ge,YD H.hl m.le⟩,m2⟩
theorem WN.up3 (H:WN lo h b w a1 c1 a2 c2 a3 c3 a4 c4 F1 F2 F3 F4) {l:List Frame}{G:List Nat} (m:Mv h F3 h' G) (r:RFrames false h' [.sl 9 a l.length c] l G) :
  ∃ h2,st lo h' b 0 (0+2) [.sl 9 a l.length c]=some h2/\WN lo h2 b ⟨w.places,w.sess,l,w.hist⟩ a1 c1 a2 c2 a c a4 c4 F1 F2 G F4/\Mv h (b ::(F1++(F2++(F3++F4)))) h2 (b ::(F1++(F2++(G++F4)))):=by
 obtain ⟨_,d12,d13,d14,d23,d24,d34⟩:=Oe H.ne.2;have m1:Mv h (F1++(F2++(F3++F4))) h' (F1++(F2++(G++F4))):=m.mid Th H.ne.2 (λy hy=>H.bd y (by simp only[YF] at hy ⊢;grind)) Th;obtain ⟨e,_⟩:=H.with m1;rw[H.hb] at e;obtain ⟨m6,b6,k6,n6⟩:=m1.store H.blt H.ne.1 (.rows 4 53 false [(World.mk w.places w.sess l w.hist).cs a1 c1 a2 c2 a c a4 c4]);have es:=DQ (lo:=lo) (j:=0+2) (r:=0) (cs := [.sl 9 a l.length c]) (row':=(World.mk w.places w.sess l w.hist).cs a1 c1 a2 c2 a c a4 c4) e (H.ge b (by simp)) rfl (Gf (by simp[World.cs]));have ne:∀ {F:List Nat},(∀ y∈F,y∈F1++(F2++(G++F4)))->∀ y∈F,y≠b:=λhs y hy e=>n6 (e ▸ hs y hy);refine ⟨_,es,⟨b6,rplacesN_ok.fr _ _ _ _ _ (m.keep rplacesN_ok H.r1 (λb hb hm=>d13 b hb hm)) λy hy=>k6 y (ne (F:=F1) (λy hy=>by simp[hy]) y hy),rsesss_ok.fr _ _ _ _ _ (m.keep rsesss_ok H.r2 (λb hb hm=>d23 b hb hm)) λy hy=>k6 y (ne (F:=F2) (λy hy=>by simp[hy]) y hy),rframes_ok.fr _ _ _ _ _ r λy hy=>k6 y (ne (F:=G) (λy hy=>by simp[hy]) y hy),rdones_ok.fr _ _ _ _ _ (m.keep rdones_ok H.r4 (λb hb hm=>d34 b hm hb)) λy hy=>k6 y (ne (F:=F4) (λy hy=>by simp[hy]) y hy),m6.nd,m6.ge H.hl H.ge,YD H.hl m6.le⟩,m6⟩
theorem WN.up4 (H:WN lo h b w a1 c1 a2 c2 a3 c3 a4 c4 F1 F2 F3 F4) {l:List Done}{G:List Nat} (m:Mv h F4 h' G) (r:RDones false h' [.sl 5 a l.length c] l G) :
  ∃ h2,st lo h' b 0 (0+3) [.sl 5 a l.length c]=some h2/\WN lo h2 b ⟨w.places,w.sess,w.net,l⟩ a1 c1 a2 c2 a3 c3 a c F1 F2 F3 G/\Mv h (b ::(F1++(F2++(F3++F4)))) h2 (b ::(F1++(F2++(F3++G)))):=by
 obtain ⟨_,d12,d13,d14,d23,d24,d34⟩:=Oe H.ne.2;have m1:Mv h (F1++(F2++(F3++F4))) h' (F1++(F2++(F3++G))):=m.mid QI H.ne.2 (λy hy=>H.bd y (by simp only[YF] at hy ⊢;grind)) QI;obtain ⟨e,_⟩:=H.with m1;rw[H.hb] at e;obtain ⟨m6,b6,k6,n6⟩:=m1.store H.blt H.ne.1 (.rows 4 53 false [(World.mk w.places w.sess w.net l).cs a1 c1 a2 c2 a3 c3 a c]);have es:=DQ (lo:=lo) (j:=0+3) (r:=0) (cs := [.sl 5 a l.length c]) (row':=(World.mk w.places w.sess w.net l).cs a1 c1 a2 c2 a3 c3 a c) e (H.ge b (by simp)) rfl (Gf (by simp[World.cs]));have ne:∀ {F:List Nat},(∀ y∈F,y∈F1++(F2++(F3++G)))->∀ y∈F,y≠b:=λhs y hy e=>n6 (e ▸ hs y hy);refine ⟨_,es,⟨b6,rplacesN_ok.fr _ _ _ _ _ (m.keep rplacesN_ok H.r1 (λb hb hm=>d14 b hb hm)) λy hy=>k6 y (ne (F:=F1) (λy hy=>by simp[hy]) y hy),rsesss_ok.fr _ _ _ _ _ (m.keep rsesss_ok H.r2 (λb hb hm=>d24 b hb hm)) λy hy=>k6 y (ne (F:=F2) (λy hy=>by simp[hy]) y hy),rframes_ok.fr _ _ _ _ _ (m.keep rframes_ok H.r3 (λb hb hm=>d34 b hb hm)) λy hy=>k6 y (ne (F:=F3) (λy hy=>by simp[hy]) y hy),rdones_ok.fr _ _ _ _ _ r λy hy=>k6 y (ne (F:=G) (λy hy=>by simp[hy]) y hy),m6.nd,m6.ge H.hl H.ge,YD H.hl m6.le⟩,m6⟩
theorem WN.cell (H:WN lo h b w a1 c1 a2 c2 a3 c3 a4 c4 F1 F2 F3 F4):ld h b 0 (0+0) 1=some [.sl 6 a1 w.places.length c1]/\ld h b 0 (0+1) 1=some [.sl 5 a2 w.sess.length c2]/\ld h b 0 (0+2) 1=some [.sl 9 a3 w.net.length c3]/\ld h b 0 (0+3) 1=some [.sl 5 a4 w.hist.length c4]:=by refine ⟨?_,?_,?_,?_⟩<;>rw[C2 H.hb rfl]<;>rfl
theorem WN.place (H:WN lo h b w a1 c1 a2 c2 a3 c3 a4 c4 F1 F2 F3 F4) {k:Nat} (hk:k<w.places.length):∃ b1 i1 rs x1 y1 x2 y2 x3 y3 G1 G2 G3,a1=some (b1,i1)/\i1+k<rs.length/\h[b1]?=some (Yp rs (i1+k) (w.places[k].cs x1 y1 x2 y2 x3 y3)) /\
  RNodes false h [.sl 2 x1 w.places[k].chain.length y1] w.places[k].chain G1/\RVers false h [.sl 6 x2 w.places[k].log.length y2] w.places[k].log G2/\RVss false h [.sl 1 x3 w.places[k].got.length y3] w.places[k].got G3 /\
  (b1 ::(G1++(G2++G3))).Nodup/\(∀ y∈b1 ::(G1++(G2++G3)),lo<=y/\y<h.length/\y∈F1) /\
  ∀ h' row' p' F',h'[b1]?=some (Yp rs (i1+k) row')->Jy false h' row' p' F'->Mv h (b1 ::(G1++(G2++G3))) h' (b1 :: F') ->
   ∃ F1',WN lo h' b (setP w k p') a1 c1 a2 c2 a3 c3 a4 c4 F1' F2 F3 F4/\Mv h (b ::(F1++(F2++(F3++F4)))) h' (b ::(F1'++(F2++(F3++F4)))):=by
 obtain ⟨⟨n1,_⟩,_⟩:=Oe H.ne.2;obtain ⟨b1,i1,rs,row,G,ha,hbF,hbG,hb,hil,hel,hGF,hGn,put⟩:=Sli.atP LT H.r1 hk n1;obtain ⟨x1,y1,x2,y2,x3,y3,rfl,q⟩:=hel;obtain ⟨G1,G2,G3,rfl,g1,g2,g3⟩:=q.cells;refine ⟨b1,i1,rs,x1,y1,x2,y2,x3,y3,G1,G2,G3,ha,hil,hb,g1,g2,g3,by rw[Y2];exact ⟨hbG,hGn⟩,λy hy=>?_,λh' row' p' F' hb' hx m=>?_⟩
 ·have hyF:y∈F1:=by
   rcases YW.1 hy with rfl | hy
   ·exact hbF
   ·exact hGF y hy
  exact ⟨H.ge y (by simp[hyF]),H.lt.1 y hyF,hyF⟩
 ·obtain ⟨F1',r,m'⟩:=put h' row' p' F' hb' hx m;exact ⟨F1',(H.up1 (by simp) m' r).1,(H.up1 (by simp) m' r).2⟩
end


variable {rs:List (List V)}
theorem Pd {h:Heap}{b i j n R e:Nat}{ro:Bool}{row:List V} (hb:h[b]?=some (.rows R e ro (rs.set i row))) (hil:i<rs.length):ld h b i j n=cut row j n:=C2 hb (by simp[hil])
theorem Vd {lo:Nat}{h:Heap}{b i j R e:Nat}{row row' cs:List V} (hb:h[b]?=some (.rows R e false (rs.set i row))) (hil:i<rs.length) (hl:lo<=b) (hp:paste row j cs=some row'):st lo h b i j cs=some (h.set b (.rows R e false (rs.set i row'))):=by rw[DQ (r:=i) hb hl (by simp[hil]) hp,List.set_set]
section
variable {lo l0 b:Nat}{h h':Heap}{w:World}{a1 a2 a3 a4 a:Pq}{c1 c2 c3 c4 c:Nq}{F1 F2 F3 F4:List Nat}
theorem WN.sess (H:WN lo h b w a1 c1 a2 c2 a3 c3 a4 c4 F1 F2 F3 F4) {k:Nat} (hk:k<w.sess.length):∃ (b2 i2:Nat) (rs:List (List V)) (v:V) (x:Pq) (y:Nq) (G:List Nat),a2=some (b2,i2)/\i2+k<rs.length /\
  h[b2]?=some (.rows 5 (Jq false) false (rs.set (i2+k) [Iv w.sess[k].place,v,Iv w.sess[k].wait.time,Iv w.sess[k].wait.place,Iv w.sess[k].key])) /\
  (∀ {R':Type} (K:Pq->Nat->Nq->Option R'),eS 2 v K=K x w.sess[k].past.length y)/\RTags false h [.sl 2 x w.sess[k].past.length y] w.sess[k].past G/\RTags false h [v] w.sess[k].past G /\
  (b2 :: G).Nodup/\(∀ y∈b2 :: G,lo<=y/\y<h.length/\y∈F2) /\
  ∀ h' row' s' G',h'[b2]?=some (.rows 5 (Jq false) false (rs.set (i2+k) row'))->RSess false h' row' s' G'->Mv h (b2 :: G) h' (b2 :: G') ->
   ∃ F2',WN lo h' b ⟨w.places,w.sess.set k s',w.net,w.hist⟩ a1 c1 a2 c2 a3 c3 a4 c4 F1 F2' F3 F4/\Mv h (b ::(F1++(F2++(F3++F4)))) h' (b ::(F1++(F2'++(F3++F4)))):=by
 obtain ⟨⟨_,n2,_⟩,_⟩:=Oe H.ne.2;obtain ⟨b2,i2,rs,row,G,ha,hbF,hbG,hb,hil,hel,hGF,hGn,put⟩:=Sli.atP Gd H.r2 hk n2;obtain ⟨v,rfl,hv⟩:=hel;obtain ⟨x,y,es,hp⟩:=hv.form;refine ⟨b2,i2,rs,v,x,y,G,ha,hil,hb,es,hp,hv,by rw[Y2];exact ⟨hbG,hGn⟩,λy hy=>?_,λh' row' s' G' hb' hx m=>?_⟩
 ·have hyF:y∈F2:=by
   rcases YW.1 hy with rfl | hy
   ·exact hbF
   ·exact hGF y hy
  exact ⟨H.ge y (by simp[hyF]),H.lt.2.1 y hyF,hyF⟩
 ·obtain ⟨F2',r,m'⟩:=put h' row' s' G' hb' hx m;exact ⟨F2',(H.up2 (by simp) m' r).1,(H.up2 (by simp) m' r).2⟩
theorem WN.sets (H:WN lo h b w a1 c1 a2 c2 a3 c3 a4 c4 F1 F2 F3 F4) {k:Nat} (hk:k<w.sess.length):∃ (b2 i2:Nat) (rs:List (List V)) (v:V),a2=some (b2,i2)/\lo<=b2/\i2+k<rs.length /\
  h[b2]?=some (.rows 5 (Jq false) false (rs.set (i2+k) [Iv w.sess[k].place,v,Iv w.sess[k].wait.time,Iv w.sess[k].wait.place,Iv w.sess[k].key])) /\
  ∀ s':Sess,s'.past=w.sess[k].past->∃ F2',WN lo (h.set b2 (.rows 5 (Jq false) false (rs.set (i2+k) [Iv s'.place,v,Iv s'.wait.time,Iv s'.wait.place,Iv s'.key]))) b ⟨w.places,w.sess.set k s',w.net,w.hist⟩ a1 c1 a2 c2 a3 c3 a4 c4 F1 F2' F3 F4 /\
   Mv h (b ::(F1++(F2++(F3++F4)))) (h.set b2 (.rows 5 (Jq false) false (rs.set (i2+k) [Iv s'.place,v,Iv s'.wait.time,Iv s'.wait.place,Iv s'.key]))) (b ::(F1++(F2'++(F3++F4)))):=by
 obtain ⟨b2,i2,rs,v,x,y,G,ha,hil,hb,es,hp,hv,hnd,hF,put⟩:=H.sess hk;refine ⟨b2,i2,rs,v,ha,(hF b2 (by simp)).1,hil,hb,λs' hs'=>?_⟩;obtain ⟨hbG,hGn⟩:=Y2.1 hnd;obtain ⟨m6,b6,k6,n6⟩:=(Mv.refl (h:=h) hGn).store (hF b2 (by simp)).2.1 hbG (.rows 5 (Jq false) false (rs.set (i2+k) [Iv s'.place,v,Iv s'.wait.time,Iv s'.wait.place,Iv s'.key]));exact put _ _ s' G b6 ⟨v,rfl,by rw[hs'];exact rtags_ok.fr _ _ _ _ _ hv λy hy=>k6 y λe=>hbG (e ▸ hy)⟩ m6
theorem WN.stay (H:WN lo h b w a1 c1 a2 c2 a3 c3 a4 c4 F1 F2 F3 F4) (m:Mv h [] h' []) {X:Option World} (hX:X=none):∃ h'' F',some (V.bool false,h')=some (V.bool X.isSome,h'')/\Yo lo h'' b (X.getD w) F'/\Mv h (b ::(F1++(F2++(F3++F4)))) h'' F':=by subst hX;exact ⟨h',_,rfl,(H.up0 m).1.at,(H.up0 m).2⟩
end


section
variable {lo:Nat}{h h':Heap}{F F':List Nat}{a a':Pq}{c c':Nq}
theorem Ow {x y:Tag}:Ae lo 43 [.agg [Iv x.time,Iv x.place],.agg [Iv y.time,Iv y.place]] h=some (.agg [Iv (C1 x y).time,Iv (C1 x y).place],h):=by
 refine Ir (h':=h) ?_;rw[D0,Ac,AC];unfold C1 CG;cases Bx x.time x.place y.time y.place with
 | true=>rw[Ao];rfl
 | false=>rw[Au];rfl
theorem Mi {l:List Tag}{k:Nat}{t:Tag} (hs:RTags false h [.sl 2 a l.length c] l F) (hk:k<l.length) (hl:lo<=h.length) (hn:l.length<=1048576) :
  ∃ a' c' h' F',Ae lo 57 [.agg [.sl 2 a l.length c],Iv (k:Nat),.agg [Iv t.time,Iv t.place]] h=some (.agg [.sl 2 a' (CI l k t).length c'],h')/\RTags false h' [.sl 2 a' (CI l k t).length c'] (CI l k t) F'/\Mv h [] h' F':=by
 obtain ⟨a1,c1,h1,F1,e1,r1,m1⟩:=Gk (lo:=lo) hs hl hn;obtain ⟨b,i,rs,row,G,ha,hbF,hbG,hb,hrow,⟨rfl,rfl⟩,hGF,hGn,_,put⟩:=r1.at (lo:=lo) Cj hk m1.nd (λy hy=>m1.ge hl (by simp) y hy);have hld:ld h1 b (i+k) 0 2=some [Iv l[k].time,Iv l[k].place]:=by rw[C2 hb hrow];rfl
 obtain ⟨h2,F2,e2,r2,m2,_⟩:=put h1 [] 0 (C1 l[k] t).cs (C1 l[k] t).cs (C1 l[k] t) Mv.nil rfl ⟨rfl,rfl⟩;subst ha;have hwl:(CI l k t).length=l.length:=by rw[FZ hk];simp
 rw[hwl];refine ⟨some (b,i),c1,h2,F2,Kk ?_,by rw[FZ hk];exact r2,m1.trans m2⟩;simp only[Tag.cs] at e2;rw[e1,Ac,A3,Ab,Ah,Ai,Ad hk,Ag,BA,hld,Ag,Ab,Aa,Ab,Aa,Ai,Ow,Ac,A3,Ab,Aa,Ab,Aa,Ai,Ad hk,Ag,e2,Ag]
theorem Mj {p q:List Tag} (hs:RTags false h [.sl 2 a p.length c] p F) (hs':RTags false h [.sl 2 a' q.length c'] q F') (hp:p.length=4) (hq:q.length=4) (hl:lo<=h.length) :
  ∃ a5 c5 h' F5,Ae lo 56 [.agg [.sl 2 a p.length c],.agg [.sl 2 a' q.length c']] h=some (.agg [.sl 2 a5 (Bs p q).length c5],h')/\RTags false h' [.sl 2 a5 (Bs p q).length c5] (Bs p q) F5/\Mv h [] h' F5:=by
 obtain ⟨a1,c1,h1,F1,e1,r1,m1⟩:=Gk (lo:=lo) hs hl (by omega);have hj:(Bs p q).length=4:=by unfold Bs;rw[zag];omega
 have part:∀ i (hi:i<4),((Bs p q).take i++p.drop i).length=4/\((Bs p q).take i++p.drop i)[i]?=p[i]?/\((Bs p q).take i++p.drop i).set i (C1 (p[i]'(by omega)) (q[i]'(by omega)))=(Bs p q).take (i+1)++p.drop (i+1):=λi hi=>by
  have e:((Bs p q).take i).length=i:=by rw[Zr];omega
  refine ⟨by rw[Y6,ZL,e];omega,?_,?_⟩
  ·rw[Y1 (by omega),e,Nat.sub_self,Zc,ZK]
  ·rw[List.set_append_right _ _ (by omega),e,Nat.sub_self,YN (by omega:i<p.length),List.set_cons_zero,List.take_succ_eq_append_getElem (by omega:i<(Bs p q).length),YV];have:(Bs p q)[i]'(by omega)=C1 (p[i]'(by omega)) (q[i]'(by omega)):=List.getElem_zipWith;rw[this];rfl
 have loop:∀ m i hh G,m+i=4->Mv h1 F1 hh G->RTags false hh [.sl 2 a1 4 c1] ((Bs p q).take i++p.drop i) G->∃ h' F5,BB lo a' q.length c' (q.length:Nat) (i:Nat) 0 none 0 (some 0) a1 p.length c1 hh=some (.agg [.sl 2 a1 (Bs p q).length c1],h')/\RTags false h' [.sl 2 a1 4 c1] (Bs p q) F5/\Mv h1 F1 h' F5:=by
  intro m;induction m with
  | zero =>
   intro i hh G hi mm r;obtain rfl:i=4:=by omega
   rw[Y0 (by omega),ZI,Zv (by omega)] at r;refine ⟨hh,G,?_,r,mm⟩;rw[BB.e,Ak (by omega),hp,hj]
  | succ m ih =>
   intro i hh G hi mm r;obtain ⟨g1,g2,g3⟩:=part i (by omega);have hi4:i<((Bs p q).take i++p.drop i).length:=by omega
   have hip:i<p.length:=by omega
   obtain ⟨o,rfl,ho⟩:=((m1.trans mm).drop.keep0 rtags_ok hs').get (show i<q.length by omega);obtain ⟨b,i1,rs,row,G1,ha,hbF,hbG,hb,hrow,⟨hrw,rfl⟩,hGF,hGn,_,put⟩:=r.at (lo:=lo) Cj hi4 mm.nd (λy hy=>(m1.trans mm).ge hl (by simp) y hy);have hpi:((Bs p q).take i++p.drop i)[i]'hi4=p[i]:=by have:=CF hi4;rw[g2,CF hip] at this;injection this with this;exact this.symm
   rw[hpi] at hrw;have hld:ld hh b (i1+i) 0 2=some [Iv p[i].time,Iv p[i].place]:=by rw[C2 hb hrow,hrw];rfl
   obtain ⟨h2,F2,e2,r2,m2,_⟩:=put hh [] 0 (C1 p[i] (q[i]'(by omega))).cs (C1 p[i] (q[i]'(by omega))).cs (C1 p[i] (q[i]'(by omega))) Mv.nil (by rw[hrw];rfl) ⟨rfl,rfl⟩;rw[g3] at r2;subst ha;obtain ⟨h',F5,q1,q2,q3⟩:=ih (i+1) h2 F2 (by omega) (mm.trans m2) r2;refine ⟨h',F5,?_,q2,q3⟩;simp only[Tag.cs] at e2;rw[<- q1,BB.e,Aj (by omega),Ad (by omega),Ag,BA,ho,Ag,Ab,Aa,Ab,Aa,Ai,Ad hip,Ag,hld,Ag,Ab,Aa,Ab,Aa,Ai,Ow,Ac,A3,Ab,Aa,Ab,Aa,Ai,Ad hip,Ag,e2,Ag,As (by omega)]
 obtain ⟨h',F5,q1,q2,q3⟩:=loop 4 0 h1 F1 rfl (Mv.refl m1.nd) (by rw[Z1,Y9,Zg,<- hp];exact r1);refine ⟨a1,c1,h',F5,Kl ?_,by rw[hj];exact q2,m1.trans q3⟩;rw[e1,Ac,A3,Ab,Ah,Ai];exact q1
end


section
variable {lo b:Nat}{h h':Heap}{w:World}{a1 a2 a3 a4 a:Pq}{c1 c2 c3 c4 c:Nq}{F1 F2 F3 F4:List Nat}{k b2 i2:Nat}
theorem WN.row (H:WN lo h b w a1 c1 (some (b2,i2)) c2 a3 c3 a4 c4 F1 F2 F3 F4) (hk:k<w.sess.length):∃ v x y G,ld h b2 (i2+k) (0+0) 1=some [Iv w.sess[k].place]/\ld h b2 (i2+k) (0+1) 1=some [v]/\ld h b2 (i2+k) (0+2) 2=some [Iv w.sess[k].wait.time,Iv w.sess[k].wait.place]/\ld h b2 (i2+k) (0+4) 1=some [Iv w.sess[k].key] /\
  (∀ {R':Type} (K:Pq->Nat->Nq->Option R'),eS 2 v K=K x w.sess[k].past.length y)/\RTags false h [.sl 2 x w.sess[k].past.length y] w.sess[k].past G:=by
 obtain ⟨b2',i2',rs,v,x,y,G,ha,hil,hb2,es,hp,_⟩:=H.sess hk;injection ha with ha;injection ha with z1 z2;subst z1;subst z2;exact ⟨v,x,y,G,by rw[Pd hb2 hil];rfl,by rw[Pd hb2 hil];rfl,by rw[Pd hb2 hil];rfl,by rw[Pd hb2 hil];rfl,es,hp⟩
theorem WN.waits (H:WN lo h b w a1 c1 (some (b2,i2)) c2 a3 c3 a4 c4 F1 F2 F3 F4) (hk:k<w.sess.length) (t:Tag) (key:Int):∃ h1 h2 F2',st lo h b2 (i2+k) (0+2) [Iv t.time,Iv t.place]=some h1/\st lo h1 b2 (i2+k) (0+4) [Iv key]=some h2 /\
  WN lo h2 b ⟨w.places,w.sess.set k ⟨w.sess[k].place,w.sess[k].past,t,key⟩,w.net,w.hist⟩ a1 c1 (some (b2,i2)) c2 a3 c3 a4 c4 F1 F2' F3 F4/\Mv h (b ::(F1++(F2++(F3++F4)))) h2 (b ::(F1++(F2'++(F3++F4)))):=by
 obtain ⟨b2',i2',rs,v,ha,lob,hil,hb,put⟩:=H.sets hk;injection ha with ha;injection ha with z1 z2;subst z1;subst z2;have s1:=Vd (lo:=lo) (j:=0+2) (cs := [Iv t.time,Iv t.place]) (row' := [Iv w.sess[k].place,v,Iv t.time,Iv t.place,Iv w.sess[k].key]) hb hil lob rfl;have s2:=Vd (lo:=lo) (h:=h.set b2 (.rows 5 (Jq false) false (rs.set (i2+k) [Iv w.sess[k].place,v,Iv t.time,Iv t.place,Iv w.sess[k].key]))) (b:=b2) (i:=i2+k) (rs:=rs) (e:=Jq false) (R:=5) (j:=0+4) (cs := [Iv key]) (row := [Iv w.sess[k].place,v,Iv t.time,Iv t.place,Iv w.sess[k].key]) (row' := [Iv w.sess[k].place,v,Iv t.time,Iv t.place,Iv key]) (by rw[YO (DB hb).1]) hil lob rfl;rw[List.set_set] at s2;obtain ⟨F2',H7,M7⟩:=put ⟨w.sess[k].place,w.sess[k].past,t,key⟩ rfl;exact ⟨_,_,F2',s1,s2,H7,M7⟩
end


section
variable {lo:Nat}{h:Heap}{F1 F2 F3 F4:List Nat}{a a1 a2 a3 a4:Pq}{c c1 c2 c3 c4:Nq}{F:List Nat}
theorem RDones.rowsG {l:List Done} (hs:RDones false h [.sl 5 a l.length c] l F) {T:Type} (K:List (List V)->Option T):Ap 5 h (.sl 5 a l.length c) K=K (l.map Done.cs):=by obtain ⟨rows,Fs,h1,h2,_⟩:=Sli.rows hs;rw[h1,h2.of_flat.1]
theorem RPlacesN.up {cs:List V}{l:List Place} (hs:RPlacesN h cs l F):RPlaces false h cs l F:=Sli.mono (λ_ _ _ h=>by obtain ⟨_,_,_,_,_,_,rfl,q⟩:=h;exact q) hs
end


section
variable {lo:Nat}{h:Heap}
theorem Nn:∃ h' q,Ae lo 54 [] h=some (.agg [.sl 2 (some (q,0)) 4 (some 4)],h')/\RTags false h' [.sl 2 (some (q,0)) 4 (some 4)] Hc [q]/\Mv h [] h' [q] :=
 ⟨_,h.length,Lg rfl,Sli.made (l:=Hc) rfl,Mv.last⟩
end


section
variable {h:Heap}
theorem X9 {n t:Nat}{xs:List V} (hu:Tryz.prog.underlying t=some (.int .u8)) (hx:TV Tryz.prog h (n+1) t xs):∃ u:UInt8,xs=Yn u:=by
 simp only[TV,hu] at hx;obtain ⟨i,rfl,h2⟩:=hx;have e1:IntKind.u8.min=0:=by decide
 have e2:IntKind.u8.max=255:=by decide
 simp only[Lit.wf,Cz,decide_eq_true_eq,e1,e2] at h2;refine ⟨UInt8.ofNat i.toNat,?_⟩;unfold Yn;rw[UInt8.toNat_ofNat',Nat.mod_eq_of_lt (by omega),show ((i.toNat:Nat):Int)=i by omega]
theorem HF {n:Nat}{x:V} (hx:ArgV Tryz.prog h (n+2) 22 x):∃ (a:Pq) (c:Nq) (l:List UInt8) (F:List Nat),x = .sl 1 a l.length c/\RBytes h [.sl 1 a l.length c] l F/\(∀ y∈F,y<h.length)/\∀ k,c=some k->l.length<=k:=by
 have hx2:TV Tryz.prog h (n+2) 22 [x]:=by unfold ArgV at hx;rw[Tryz.underlying22] at hx;exact hx
 have hx3:=hx2;simp only[TV,Tryz.underlying22] at hx3;obtain ⟨a,c,rs,e,⟨_,hcap⟩,_⟩:=hx3;injection e with e _;subst e;obtain ⟨l,F,h1,_⟩:=XG (El:=flat Yn) (bd:=λ_=>True) (ee:=0) (R:=1) Tryz.underlying22 (by kernel_rfl) (λrow hr=>by obtain ⟨t,rfl⟩:=X9 (n:=n) Tryz.underlying5 hr;exact ⟨t,[],⟨rfl,rfl⟩,trivial⟩) hx2;have hv:=h1.val;have hc:Tryz.prog.cellsOf 5=1:=by kernel_rfl
 rw[hv,hc] at h1;exact ⟨a,c,l,F,by rw[hv,hc],h1,(Sli.ok Cj).bd _ _ _ _ h1,λk hk=>by rw[<- hv];exact hcap k hk⟩
end


variable {v:V}{p:List Tag}{x:Blk}
structure X7 where
 sess:Int
 key:Int
 past:List Tag
structure Book where
 views:List (List Tag)
 wrote:List ((Int×Int)×X7)
def Ib (t:Tag):Int×Int:=(t.time,t.place)
def MO (B:Book) (d:Done):Option Book:=match B.views[d.sess.toNat]? with
 | none=>none
 | some view=>match CM (Ib d.tag) B.wrote with
  | some w=>bif d.kind==1 then none else (match view[d.key.toNat]? with
   | none=>none
   | some t=>bif CG d.tag t then none else bif d.tag.time==0&&d.tag.place==0 then some B else
    bif w.key==d.key&&(!(d.kind==3) || w.sess==d.sess) then some ⟨B.views.set d.sess.toNat (CI (Bs view w.past) d.key.toNat d.tag),B.wrote⟩ else none)
  | none=>bif d.kind==1 then (bif decide (d.tag.time<=Df view) then none else some ⟨B.views,Gt (Ib d.tag) ⟨d.sess,d.key,view⟩ B.wrote⟩) else (match view[d.key.toNat]? with
   | none=>none
   | some t=>bif CG d.tag t then none else bif d.tag.time==0&&d.tag.place==0 then some B else none)
abbrev Cell:=Int×Int×Pq×Nat×Nq
def XB (k:Int×Int):V := .agg [Iv k.1,Iv k.2]
def XT (u:Cell):V := .agg [Iv u.1,Iv u.2.1,.sl 2 u.2.2.1 u.2.2.2.1 u.2.2.2.2]
theorem V0 (a b:Int×Int):M9 (XB a) (XB b)=some (decide (a=b)):=by obtain ⟨a,a'⟩:=a;obtain ⟨b,b'⟩:=b;simp[XB,M9,DO,SP];rw[ZJ];simp
def PastIn (h:Heap) (b m:Nat) (v:V) (p:List Tag):Prop:=∃ a c G,v = .sl 2 a p.length c/\p.length=4/\RTags false h [v] p G/\b∉G/\m∉G
structure BookIn (lo:Nat) (h:Heap) (b m:Nat) (B:Book) (vs:List V) (M:List ((Int×Int)×Cell)):Prop where
 hb:h[b]?=some (.rows 5 84 false [vs ++ [.map (some m)]])
 hm:h[m]?=some (.map 78 (EN XB XT M))
 vl:vs.length=4
 bl:B.views.length=4
 view:∀ (i:Nat) (v:V) (p:List Tag),vs[i]?=some v->B.views[i]?=some p->PastIn h b m v p
 some':∀ (k:Int×Int) (u:Cell),CM k M=some u->∃ s,CM k B.wrote=some s/\s.sess=u.1/\s.key=u.2.1/\PastIn h b m (.sl 2 u.2.2.1 u.2.2.2.1 u.2.2.2.2) s.past
 none':∀ (k:Int×Int),CM k M=none->CM k B.wrote=none
 ne:b≠m
 lob:lo<=b
 lom:lo<=m
section
variable {lo b m:Nat}{h h':Heap}{B:Book}{vs:List V}{M:List ((Int×Int)×Cell)}
theorem PastIn.keep {v:V}{p:List Tag}{P P':List Nat} (hp:PastIn h b m v p) (mv:Mv h P h' P') (hP:∀ y∈P,y=b\/y=m):PastIn h' b m v p:=by obtain ⟨a,c,G,e,hl,r,h1,h2⟩:=hp;exact ⟨a,c,G,e,hl,mv.keep rtags_ok r (λy hy hm=>by rcases hP y hm with rfl | rfl<;>contradiction),h1,h2⟩
theorem PastIn.set {v:V}{p:List Tag}{x:Blk} (hp:PastIn h b m v p):PastIn (h.set b x) b m v p:=by obtain ⟨a,c,G,e,hl,r,h1,h2⟩:=hp;exact ⟨a,c,G,e,hl,rtags_ok.fr _ _ _ _ _ r (λy hy=>YG (by rintro rfl;exact h1 hy)),h1,h2⟩
theorem PastIn.setM (hp:PastIn h b m v p):PastIn (h.set m x) b m v p:=by obtain ⟨a,c,G,e,hl,r,h1,h2⟩:=hp;exact ⟨a,c,G,e,hl,rtags_ok.fr _ _ _ _ _ r (λy hy=>YG (by rintro rfl;exact h2 hy)),h1,h2⟩
theorem BookIn.keep (H:BookIn lo h b m B vs M) (mv:Mv h [] h' []):BookIn lo h' b m B vs M:=by
 have hbl:=(DB H.hb).1;have hml:=(DB H.hm).1;exact ⟨by rw[mv.fr b hbl (by simp)];exact H.hb,by rw[mv.fr m hml (by simp)];exact H.hm,H.vl,H.bl,λi v p hv hp=>(H.view i v p hv hp).keep mv (by simp),λk u hu=>by
  obtain ⟨s,h1,h2,h3,h4⟩:=H.some' k u hu;exact ⟨s,h1,h2,h3,h4.keep mv (by simp)⟩,H.none',H.ne,H.lob,H.lom⟩
theorem BookIn.put (H:BookIn lo h b m B vs M) {i:Nat} (hi:i<4) (hp:PastIn h b m v p):st lo h b 0 (0+0+i*1) [v]=some (h.set b (.rows 5 84 false [vs.set i v ++ [.map (some m)]]))/\BookIn lo (h.set b (.rows 5 84 false [vs.set i v ++ [.map (some m)]])) b m ⟨B.views.set i p,B.wrote⟩ (vs.set i v) M:=by
 have hbl:=(DB H.hb).1;have hvl:=H.vl;refine ⟨?_,by simp[hbl],by rw[YG H.ne];exact H.hm,by simpa using H.vl,by simpa using H.bl,λk w q hw hq=>?_,λk u hu=>?_,H.none',H.ne,H.lob,H.lom⟩
 ·have e:=DQ (lo:=lo) (r:=0) (j:=0+0+i*1) (cs := [v]) (row':=vs.set i v ++ [.map (some m)]) H.hb H.lob rfl (by rw[Gf (by simp;omega),show 0+0+i*1=i by omega,List.set_append_left _ _ (by omega)]);rw[e];rfl
 ·by_cases hk:i=k
  ·subst hk;rw[YO (by omega)] at hw;rw[YO (by have:=H.bl;omega)] at hq;injection hw with hw;injection hq with hq;subst hw;subst hq;exact hp.set
  ·rw[YG hk] at hw hq;exact (H.view k w q hw hq).set
 ·obtain ⟨s,h1,h2,h3,h4⟩:=H.some' k u hu;exact ⟨s,h1,h2,h3,h4.set⟩
theorem BookIn.lay (H:BookIn lo h b m B vs M) {k:Int×Int}{s:X7}{a:Pq}{n:Nat}{c:Nq} (hp:PastIn h b m (.sl 2 a n c) s.past) :
  BookIn lo (h.set m (.map 78 (EN XB XT (Gt k (s.sess,s.key,a,n,c) M)))) b m ⟨B.views,Gt k s B.wrote⟩ vs (Gt k (s.sess,s.key,a,n,c) M):=by
 have hml:=(DB H.hm).1;refine ⟨by rw[YG (Ne.symm H.ne)];exact H.hb,by simp[hml],H.vl,H.bl,λi v p hv hq=>(H.view i v p hv hq).setM,λq u hu=>?_,λq hu=>?_,H.ne,H.lob,H.lom⟩
 ·rw[E0] at hu ⊢;by_cases hq:q=k
  ·rw[if_pos hq] at hu ⊢;injection hu with hu;subst hu;exact ⟨s,rfl,rfl,rfl,hp.setM⟩
  ·rw[if_neg hq] at hu ⊢;obtain ⟨s',h1,h2,h3,h4⟩:=H.some' q u hu;exact ⟨s',h1,h2,h3,h4.setM⟩
 ·rw[E0] at hu ⊢;by_cases hq:q=k
  ·rw[if_pos hq] at hu;cases hu
  ·rw[if_neg hq] at hu ⊢;exact H.none' q hu
theorem R7 {P:List Nat} (hb:b∈P) (hP:P.Nodup):Mv h P (h.set b x) P:=⟨by simp,λy _ hy=>YG (by rintro rfl;exact hy hb),hP,λy hy => .inl hy⟩
theorem Nm (H:BookIn lo h b m B vs M) {d:Done} (hd:A0 d=true) (hl:lo<=h.length) :
  ∃ h' vs' M',Ae lo 41 [.ptr (some (b,(0,0))),.agg d.cs] h=some (.bool (MO B d).isSome,h')/\BookIn lo h' b m ((MO B d).getD B) vs' M'/\Mv h [b,m] h' [b,m]:=by
 have hne:=H.ne;have hnd : [b,m].Nodup:=by simp[hne]
 have hrefl:Mv h [b,m] h [b,m]:=Mv.refl hnd;suffices hq:∃ h' vs' M',_=some (V.bool (MO B d).isSome,h')/\BookIn lo h' b m ((MO B d).getD B) vs' M'/\Mv h [b,m] h' [b,m] from by obtain ⟨h',vs',M',e,hr⟩:=hq;exact ⟨h',vs',M',Lf e,hr⟩
 obtain ⟨X,hX⟩:∃ X,MO B d=X:=⟨_,rfl⟩;rw[hX];unfold MO at hX;have hd0:=hd;unfold A0 at hd;simp only[Cz,Ze,decide_eq_true_eq,beq_iff_eq,Af] at hd;obtain ⟨⟨⟨⟨hse,_⟩,hkey⟩,htag⟩,_⟩:=hd;obtain ⟨i,hi⟩:∃ i:Nat,d.sess=(i:Int):=⟨d.sess.toNat,by omega⟩;obtain ⟨z,hz⟩:∃ z:Nat,d.key=(z:Int):=⟨d.key.toNat,by omega⟩;have hi4:i<4:=by omega
 have hvl:=H.vl;have hbl:=H.bl;have hsn:d.sess.toNat=i:=by omega
 have hkn:d.key.toNat=z:=by omega
 have hvi:=CF (show i<vs.length by omega);have hbi:=CF (show i<B.views.length by omega);obtain ⟨a,c,G,hv,hp4,hr,hbG,hmG⟩:=H.view i _ _ hvi hbi;rw[hv] at hr;generalize hvw:B.views[i]'(by omega)=view at *
 rw[hsn,hbi] at hX;simp only[] at hX;have hzv:=CF (show z<view.length by omega);rw[hkn,hzv] at hX;simp only[] at hX;have hld:ld h b 0 (0+0+i*1) 1=some [.sl 2 a view.length c]:=by rw[C2 H.hb rfl];refine PH ?_;rw[show 0+0+i*1=i by omega,YI (by omega),hvi,hv]
 have hlm:∀ hh:Heap,hh[b]?=h[b]?->ld hh b 0 (0+4) 1=some [.map (some m)]:=λhh e=>by rw[C2 (by rw[e];exact H.hb) rfl];refine PH ?_;rw[Y1 (by omega)];simp[hvl]
 have hkv:Heap.kv? h m=some (EN XB XT M):=by unfold Heap.kv?;rw[H.hm]
 have hfind:=HV (eu:=XT) V0 (k:=Ib d.tag) (m:=M);obtain ⟨o,ha,ho⟩:=hr.get (show z<view.length by omega);have stay:X=none->∃ h' vs' M',(some (V.bool false,h):Ov)=some (.bool X.isSome,h')/\BookIn lo h' b m (X.getD B) vs' M'/\Mv h [b,m] h' [b,m]:=λe=>by subst e;exact ⟨h,vs,M,rfl,H,hrefl⟩
 have same:X=some B->∃ h' vs' M',(some (V.bool true,h):Ov)=some (.bool X.isSome,h')/\BookIn lo h' b m (X.getD B) vs' M'/\Mv h [b,m] h' [b,m]:=λe=>by subst e;exact ⟨h,vs,M,rfl,H,hrefl⟩
 rw[show XB (Ib d.tag) = .agg [Iv d.tag.time,Iv d.tag.place] from rfl] at hfind;rw[hi,Ad hi4,BA,hld,Ag,Ab,Ah,Ai,hlm h rfl,Ag,Ab,Ai,Yl,Ag,hkv,Ag,hfind,Ag];cases hf:CM (Ib d.tag) M with
 | none =>
  have hw:=H.none' _ hf;unfold Ib at hf hw;rw[show Ib d.tag=(d.tag.time,d.tag.place) from rfl,hw] at hX;simp only[] at hX;rw[Option.map_none,Yx];cases hk1:d.kind==(1:Int) with
  | true =>
   rw[hk1,cond_true] at hX;rw[Ao,Q6 hr (by omega),Ac,Aa];by_cases hlt:d.tag.time<=Df view
   ·rw[decide_eq_true hlt,cond_true] at hX;rw[Aj hlt];exact stay hX.symm
   ·rw[decide_eq_false hlt,cond_false] at hX;have hset:=Jc (eu:=XT) V0 (k:=(d.tag.time,d.tag.place)) (u:=((d.sess,d.key,a,view.length,c):Cell)) (m:=M);have hl2:=H.lay (k:=(d.tag.time,d.tag.place)) (s:=⟨d.sess,d.key,view⟩) (a:=a) (n:=view.length) (c:=c) ⟨a,c,G,rfl,hp4,hr,hbG,hmG⟩;simp only[XB,XT] at hset;rw[hi] at hset hl2;subst hX;refine ⟨_,vs,_,?_,by rw[hi];exact hl2,R7 (by simp) hnd⟩;rw[Ak hlt,hlm h rfl,Ag,Ab,Ai,Yl,Ag,hkv,Ag,show lo.ble m=true from Fz H.lom,GN,hset,Ag];rfl
  | false =>
   rw[hk1,cond_false] at hX;rw[Au,hz,Ad (show z<view.length by omega),ha,Ag,BA,ho,Ag,Ab,Aa,Ab,Aa,Ai,D0,Ac,AC];unfold CG at hX;cases hlt:Bx d.tag.time d.tag.place (view[z]'(by omega)).time (view[z]'(by omega)).place with
   | true=>rw[hlt,cond_true] at hX;rw[Ao];exact stay hX.symm
   | false =>
    rw[hlt,cond_false] at hX;rw[Au,ZQ];cases hz0:(d.tag.time==0&&d.tag.place==0) with
    | true=>rw[hz0,cond_true] at hX;rw[Ao];exact same hX.symm
    | false=>rw[hz0,cond_false] at hX;rw[Au];exact stay hX.symm
 | some u =>
  obtain ⟨w,hw,hws,hwk,aw,cw,Gw,hwv,hw4,hwr,hbw,hmw⟩:=H.some' _ u hf;obtain ⟨u1,u2,u3,u4,u5⟩:=u;simp only[] at hws hwk hwv hwr;injection hwv with _ e1 e2 e3;subst e1;subst e2;subst e3;unfold Ib at hf hw;rw[show Ib d.tag=(d.tag.time,d.tag.place) from rfl,hw] at hX;simp only[] at hX;rw[ZN,Yw];simp only[XT];rw[A3,Ab,Aa,Ab,Aa,Ab,Ah,Ai];cases hk1:d.kind==(1:Int) with
  | true=>rw[hk1,cond_true] at hX;rw[Ao];exact stay hX.symm
  | false =>
  rw[hk1,cond_false] at hX;rw[Au,hz,Ad (show z<view.length by omega),ha,Ag,BA,ho,Ag,Ab,Aa,Ab,Aa,Ai,D0,Ac,AC,<- ha];unfold CG at hX;cases hlt:Bx d.tag.time d.tag.place (view[z]'(by omega)).time (view[z]'(by omega)).place with
  | true=>rw[hlt,cond_true] at hX;rw[Ao];exact stay hX.symm
  | false =>
  rw[hlt,cond_false] at hX;rw[Au,ZQ];cases hz0:(d.tag.time==0&&d.tag.place==0) with
  | true=>rw[hz0,cond_true] at hX;rw[Ao];exact same hX.symm
  | false =>
  rw[hz0,cond_false] at hX;rw[Au,<- hwk];rw[hz] at hX;cases hk2:w.key==((z:Nat):Int) with
  | false=>rw[hk2,Zh,cond_false] at hX;rw[Au];exact stay hX.symm
  | true =>
  rw[hk2,YP] at hX;rw[Ao];obtain ⟨a5,c5,h5,F5,e5,r5,m5⟩:=Mj (lo:=lo) hr hwr hp4 hw4 hl;have hj4:(Bs view w.past).length=4:=by unfold Bs;rw[zag];omega
  obtain ⟨a6,c6,h6,F6,e6,r6,m6⟩:=Mi (lo:=lo) (k:=z) (t:=d.tag) r5 (by omega) (YD hl m5.le) (by omega);have hwl:(CI (Bs view w.past) z d.tag).length=4:=by rw[NW,hj4]
  have mm:=m5.drop.trans m6.drop;have H6:=H.keep mm;have hF6:=m6.new;have hbl6:b<h5.length:=YT (DB H.hb).1 m5.le;have hml6:m<h5.length:=YT (DB H.hm).1 m5.le;obtain ⟨e7,H7⟩:=H6.put hi4 (v := .sl 2 a6 (CI (Bs view w.past) z d.tag).length c6) ⟨a6,c6,F6,rfl,hwl,r6,λhm=>by have:=hF6 b hm;omega,λhm=>by have:=hF6 m hm;omega⟩;have fin:X=some ⟨B.views.set i (CI (Bs view w.past) z d.tag),B.wrote⟩->∃ h' vs' M',(some (V.bool true,h6.set b (.rows 5 84 false [vs.set i (.sl 2 a6 (CI (Bs view w.past) z d.tag).length c6) ++ [.map (some m)]])):Ov)=some (.bool X.isSome,h')/\BookIn lo h' b m (X.getD B) vs' M'/\Mv h [b,m] h' [b,m]:=λe=>by
   subst e;refine ⟨_,_,_,rfl,H7,?_⟩;have m1:Mv h [b,m] h6 [b,m]:=mm.aside (F := []) (F' := []) (G := [b,m]) (by simp[hne]) (by
    intro y hy;simp at hy;rcases hy with rfl | rfl
    ·exact (DB H.hb).1
    ·exact (DB H.hm).1)
   exact m1.trans (R7 (by simp) hnd)
  cases hk3:d.kind==(3:Int) with
  | false =>rw[hk3,Zo,ZO,cond_true] at hX;rw[Au,e5,Ac,A3,Ab,Ah,Ai,e6,Ac,A3,Ab,Ah,Ai,Ad hi4,e7,Ag];exact fin hX.symm
  | true =>
   rw[hk3,Zk,Zj,hi] at hX;rw[Ao,<- hws];cases hws2:w.sess==((i:Nat):Int) with
   | false=>rw[hws2,cond_false] at hX;rw[Au];exact stay hX.symm
   | true =>rw[hws2,cond_true] at hX;rw[Ao,e5,Ac,A3,Ab,Ah,Ai,e6,Ac,A3,Ab,Ah,Ai,Ad hi4,e7,Ag];exact fin hX.symm
end


variable {l:List Done}
def KQ:Book:=⟨[Hc,Hc,Hc,Hc],[]⟩
def Ec:Book->List Done->Book×Nat
 | B,[]=>(B,0)
 | B,d :: l=>match MO B d with
  | none=>(B,0)
  | some B'=>((Ec B' l).1,(Ec B' l).2+1)
def Bp (l:List Done):Bool:=decide (l.length<=80)&&l.all A0
def Pu (l:List Done):Int:=bif Bp l then ((Ec KQ l).2:Nat) else -1
section
variable {lo:Nat}{h:Heap}{a:Pq}{c:Nq}{F:List Nat}
theorem PP {b m:Nat} (hne:b≠m) (hlb:lo<=b) (hlm:lo<=m):∀ (r i:Nat) (hh:Heap) (vs:List V),i+r=4->hh[b]?=some (.rows 5 84 false [vs ++ [.map (some m)]])->vs.length=4->hh[m]?=some (.map 78 [])->(∀ k,k<i->∃ v,vs[k]?=some v/\PastIn hh b m v Hc) ->
  ∃ h' vs',BS lo b 0 0 (i:Nat) hh=some (.ptr (some (b,(0,0))),h')/\BookIn lo h' b m KQ vs' []/\Mv hh [b,m] h' [b,m]:=by
 have hnd : [b,m].Nodup:=by simp[hne]
 intro r;induction r with
 | zero =>
  intro i hh vs hi hb hv hm hp;refine ⟨hh,vs,by rw[BS.e,Ak (by omega)],⟨hb,hm,hv,rfl,λk v p hk hq=>?_,λk u hu=>(by cases hu),λk _=>rfl,hne,hlb,hlm⟩,Mv.refl hnd⟩;have hk4:=(DB hk).1;obtain ⟨w,hw,hp⟩:=hp k (by omega);rw[hk] at hw;injection hw with hw;subst hw;have:p=Hc:=by have hm:=YS hq;simp[KQ] at hm;exact hm
  subst this;exact hp
 | succ r ih =>
  intro i hh vs hi hb hv hm hp;have hbl:=(DB hb).1;have hml:=(DB hm).1;obtain ⟨h1,q,e1,r1,m1⟩:=Nn (lo:=lo) (h:=hh);have hb1:h1[b]?=some (.rows 5 84 false [vs ++ [.map (some m)]]):=by rw[m1.fr b hbl (by simp)];exact hb
  have hm1:h1[m]?=some (.map 78 []):=by rw[m1.fr m hml (by simp)];exact hm
  have hbl1:=(DB hb1).1;have hq:=m1.new q (by simp);have e2:st lo h1 b 0 (0+0+i*1) [.sl 2 (some (q,0)) 4 (some 4)]=some (h1.set b (.rows 5 84 false [vs.set i (.sl 2 (some (q,0)) 4 (some 4)) ++ [.map (some m)]])):=by rw[DQ (lo:=lo) (r:=0) (j:=0+0+i*1) (row':=vs.set i (.sl 2 (some (q,0)) 4 (some 4)) ++ [.map (some m)]) hb1 hlb rfl (by rw[Gf (by simp;omega),show 0+0+i*1=i by omega,List.set_append_left _ _ (by omega)])];rfl
  obtain ⟨h',vs',e3,H,mm⟩:=ih (i+1) (h1.set b (.rows 5 84 false [vs.set i (.sl 2 (some (q,0)) 4 (some 4)) ++ [.map (some m)]])) (vs.set i (.sl 2 (some (q,0)) 4 (some 4))) (by omega) (by simp[hbl1]) (by simpa using hv) (by rw[YG hne];exact hm1) (λk hk=>by
   by_cases hki:i=k
   ·subst hki;refine ⟨_,YO (by omega),PastIn.set ⟨some (q,0),some 4,[q],rfl,rfl,r1,λhx=>?_,λhx=>?_⟩⟩
    ·rw[YZ] at hx;omega
    ·rw[YZ] at hx;omega
   ·obtain ⟨v,h1',h2'⟩:=hp k (by omega);exact ⟨v,by rw[YG hki];exact h1',(h2'.keep m1 (by simp)).set⟩)
  have m0:Mv hh [b,m] h1 [b,m]:=m1.drop.aside (F := []) (F' := []) (G := [b,m]) (by simp[hne]) (by intro y hy;simp at hy;rcases hy with rfl | rfl<;>assumption);refine ⟨h',vs',?_,H,(m0.trans (R7 (by simp) hnd)).trans mm⟩;rw[BS.e,Aj (by omega),e1,Ac,A3,Ab,Ah,Ai,Ad (show i<4 by omega),BA,e2,Ag,As (by omega)];exact e3
theorem Pl (hl:lo<=h.length):∃ b m h' vs,Ae lo 40 [] h=some (.ptr (some (b,(0,0))),h')/\BookIn lo h' b m KQ vs []/\Mv h [] h' [b,m]:=by
 have m0:Mv h [] (h ++ [.map 78 []]) [h.length]:=Mv.last;have m1:Mv (h ++ [Blk.map 78 []]) [] ((h ++ [.map 78 []]) ++ [.rows 5 84 false [[.sl 0 none 0 (some 0),.sl 0 none 0 (some 0),.sl 0 none 0 (some 0),.sl 0 none 0 (some 0),.map (some h.length)]]]) [h.length+1]:=by have:=Mv.last (h:=h ++ [Blk.map 78 []]) (b := .rows 5 84 false [[.sl 0 none 0 (some 0),.sl 0 none 0 (some 0),.sl 0 none 0 (some 0),.sl 0 none 0 (some 0),.map (some h.length)]]);simpa using this
 obtain ⟨h',vs',e,H,mm⟩:=PP (lo:=lo) (b:=h.length+1) (m:=h.length) (by omega) (by omega) hl 4 0 ((h ++ [.map 78 []]) ++ [.rows 5 84 false [[.sl 0 none 0 (some 0),.sl 0 none 0 (some 0),.sl 0 none 0 (some 0),.sl 0 none 0 (some 0),.map (some h.length)]]]) [.sl 0 none 0 (some 0),.sl 0 none 0 (some 0),.sl 0 none 0 (some 0),.sl 0 none 0 (some 0)] (by omega) (by simp) rfl (by simp) (λk hk=>by omega);refine ⟨h.length+1,h.length,h',vs',M0 ?_,H,?_⟩
 ·rw[show List.length (h ++ [Blk.map 78 []])=h.length+1 by simp];exact e
 ·have m2:=m0.join m1 (by simp);have m3:Mv h [] ((h ++ [.map 78 []]) ++ [.rows 5 84 false [[.sl 0 none 0 (some 0),.sl 0 none 0 (some 0),.sl 0 none 0 (some 0),.sl 0 none 0 (some 0),.map (some h.length)]]]) [h.length+1,h.length]:=m2.lean (by simp) (by simp);exact m3.trans mm
theorem KI (hs:RDones false h [.sl 5 a l.length c] l F) (hok:∀ d∈l,A0 d=true) (hn:l.length<=1048576) (hl:lo<=h.length) :
  ∃ b m h' vs M,Ae lo 26 [.sl 5 a l.length c] h=some (.tup [.ptr (some (b,(0,0))),Iv ((Ec KQ l).2:Nat)],h')/\BookIn lo h' b m (Ec KQ l).1 vs M/\Mv h [] h' [b,m]:=by
 obtain ⟨b,m,h1,vs,e1,H,m1⟩:=Pl (lo:=lo) hl;have hs1:=m1.keep0 rdones_ok hs;have hbd:=rdones_ok.bd _ _ _ _ hs;have hdis:∀ y∈F,y ∉ [b,m]:=λy hy hm=>by have:=m1.new y hm;have:=hbd y hy;omega
 have loop:∀ (r i:Nat) (hh:Heap) (B:Book) (vs:List V) (M:List ((Int×Int)×Cell)),i+r=l.length->RDones false hh [.sl 5 a l.length c] l F->BookIn lo hh b m B vs M->lo<=hh.length ->
   ∃ h' vs' M',BN lo a l.length c none 0 (some (b,(0,0))) a l.length c (l.length:Nat) (i:Nat) hh=some (.tup [.ptr (some (b,(0,0))),Iv ((i+(Ec B (l.drop i)).2:Nat):Int)],h')/\BookIn lo h' b m (Ec B (l.drop i)).1 vs' M'/\Mv hh [b,m] h' [b,m]:=by
  intro r;induction r with
  | zero =>
   intro i hh B vs M hi hs H hl;have:i=l.length:=by omega
   subst this;rw[List.drop_length];exact ⟨hh,vs,M,by rw[BN.e,Ak (by omega)];rfl,H,Mv.refl (by simp[H.ne])⟩
  | succ r ih =>
   intro i hh B vs M hi hs H hl;have hil:i<l.length:=by omega
   obtain ⟨o,ha,ho⟩:=hs.get hil;obtain ⟨h2,vs2,M2,e2,H2,m2⟩:=Nm (d:=l[i]) H (hok _ (YJ hil)) hl;rw[YN hil];simp only[Done.cs] at ho e2;cases hB:MO B l[i] with
   | none =>rw[hB] at e2 H2;refine ⟨h2,vs2,M2,?_,by simp only[Ec,hB];exact H2,m2⟩;rw[BN.e,Aj (by omega),Ad hil,ha,Ag,BA,ho,Ag,Ab,Aa,Ab,Aa,Ab,Aa,Ab,Aa,Ab,Aa,Ai,e2,Ac,AC,Option.isSome_none,Au];simp only[Ec,hB,ZK]
   | some B' =>rw[hB] at e2 H2;obtain ⟨h3,vs3,M3,e3,H3,m3⟩:=ih (i+1) h2 B' vs2 M2 (by omega) (m2.keep rdones_ok hs hdis) H2 (YD hl m2.le);refine ⟨h3,vs3,M3,?_,by simp only[Ec,hB];exact H3,m2.trans m3⟩;rw[BN.e,Aj (by omega),Ad hil,ha,Ag,BA,ho,Ag,Ab,Aa,Ab,Aa,Ab,Aa,Ab,Aa,Ab,Aa,Ai,e2,Ac,AC,Option.isSome_some,Ao,As (by omega),<- ha,e3];simp only[Ec,hB];rw[show i+1+(Ec B' (l.drop (i+1))).2=i+((Ec B' (l.drop (i+1))).2+1) by omega]
 obtain ⟨h',vs',M',e,H',mm⟩:=loop l.length 0 h1 KQ vs [] (by omega) hs1 H (YD hl m1.le);rw[Zg,Zf] at e;rw[Zg] at H';exact ⟨b,m,h',vs',M',NU (by rw[e1,Ac,Ru];exact e),H',m1.trans mm⟩
theorem By (hs:RDones false h [.sl 5 a l.length c] l F) (hn:l.length<=1048576):Ae lo 10 [.sl 5 a l.length c] h=some (Iv (Pu l),h):=by
 have hfo:=FP (lo:=h.length) hs hn;suffices hk:∃ h',_=some (Iv (Pu l),h') from by obtain ⟨h',e⟩:=hk;exact M5 e
 unfold Pu Bp;rw[hfo,Ac,AC];cases hf:(decide (l.length<=80)&&l.all A0) with
 | false=>rw[Au];exact ⟨h,rfl⟩
 | true =>rw[Cz,YR] at hf;obtain ⟨b,m,h',vs,M,e,_,_⟩:=KI (lo:=h.length) hs (λd hd=>hf.2 d hd) hn (YH _);rw[Ao,e,Ac,Np,Ab,Ru,Ab,Aa,Ai];exact ⟨h',rfl⟩
end


variable {l:List Done}
section
variable {lo:Nat}{h:Heap}{a:Pq}{c:Nq}{F:List Nat}{b n:Nat}
theorem J1:(l.map λ_=>([]:List Nat)).flatten = []:=by induction l<;>simp_all
theorem LW {ys:List Done} (hs:RDones false h [.sl 5 a l.length c] l F) (hnd:F.Nodup) (hlo:∀ y∈F,lo<=y) (hl:lo<=h.length) (hn:l.length+ys.length<=1000) :
  ∃ a' c' h' F',(∀ {T:Type} (K:V->Heap->Option T),CJ lo 31 5 40 (.sl 5 a l.length c) (ys.map Done.cs) h K=K (.sl 5 a' (l++ys).length c') h')/\RDones false h' [.sl 5 a' (l++ys).length c'] (l++ys) F'/\Mv h F h' F':=by
 by_cases he:ys = []
 ·subst he;rw[ZI];exact ⟨a,c,h,F,λK=>rfl,hs,Mv.refl hnd⟩
 ·obtain ⟨a',c',h',F',p1,p2,p3,p4,p5,p6⟩:=Sli.push (lo:=lo) (bytes:=40) (e:=31) Ps hs (xs:=ys.map Done.cs) (ys:=ys) (Gs:=ys.map λ_ => []) EAll.flat (by decide) (by omega) hlo hl (by rw[J1];simpa using hnd) (by rw[J1,ZI];exact rdones_ok.bd _ _ _ _ hs) he;rw[<- Y6] at p1 p2;refine ⟨a',c',h',F',p1,p2,p3,p4,p6,λy hy=>?_⟩;rcases p5 y hy with g | g
  ·rw[J1,ZI] at g;exact .inl g
  ·exact .inr g
theorem HW (r:Rd lo h b n) (hn:n<=200000) (hl:lo<=h.length) :
  ∃ (l:List Done) (a:Pq) (c:Nq) (h':Heap) (F':List Nat),Ae lo 22 [.ptr (some (b,(0,0)))] h=some (.sl 5 a l.length c,h')/\RDones false h' [.sl 5 a l.length c] l F'/\l.length<=80/\b∉F'/\Rd lo h' b (n+3100)/\lo<=h'.length:=by
 have hblt:=r.lt;have q0:RDones false (h ++ [.rows 5 (XC false) false []]) [.sl 5 (some (h.length,0)) 0 (some 0)] [] [h.length]:=Sli.fresh (YH _);have r0:Rd lo (h ++ [.rows 5 31 false []]) b n:=r.keep (F := []) (F' := []) Mv.snoc (by simp) (by simp);obtain ⟨w,a1,c1,a2,c2,a3,c3,a4,c4,h1,F1,F2,F3,F4,e1,H1,hg,hsl,r1,m1⟩:=RL r0 (by omega) (by simp;omega);have h80:=hg.ok.h80;have q1:RDones false h1 [.sl 5 (some (h.length,0)) 0 (some 0)] [] [h.length]:=m1.keep rdones_ok q0 (λy hy hm=>by simp at hy hm;omega);have l1:h.length<h1.length:=by have:=m1.le;simp at this;omega
 obtain ⟨x,y,h2,G,e2,q2,m2⟩:=LW (lo:=lo) (l := []) (ys:=w.hist) q1 (by simp) (by intro y hy;simp at hy;omega) (by omega) (by simp;omega);rw[Y9] at e2 q2;have hG:∀ z∈G,h.length<=z:=λz hz=>by
  rcases m2.sub z hz with g | g
  ·simp at g;omega
  ·omega
 have hbG:b∉G:=λhm=>by have:=hG b hm;omega
 have hGlo:∀ z∈G,lo<=z:=λz hz=>by have:=hG z hz;omega
 have r2:=r1.keep m2 (by simp;omega) (by intro z hz;simp at hz;omega);have l2:lo<=h2.length:=YD (by omega) m2.le;suffices hk:∃ (l:List Done) (a:Pq) (c:Nq) (h':Heap) (F':List Nat),_=some (V.sl 5 a l.length c,h')/\RDones false h' [.sl 5 a l.length c] l F'/\l.length<=80/\b∉F'/\Rd lo h' b (n+3100)/\lo<=h'.length from by obtain ⟨l,a,c,h',F',e,hr⟩:=hk;exact ⟨l,a,c,h',F',MX e,hr⟩
 simp only[World.cs] at e1;rw[e1,Ac,A3,Ab,Ah,Ab,Ah,Ab,Ah,Ab,Ah,Ai,RDones.rowsG H1.r4];rw[show CJ lo 31 5 40 (.sl 5 (some (h.length,0)) 0 (some 0)) (w.hist.map Done.cs) h1=CJ lo 31 5 40 (.sl 5 (some (h.length,0)) ([]:List Done).length (some 0)) (w.hist.map Done.cs) h1 from rfl,e2,Ah];generalize w.hist=l at *
 by_cases h0:(l.length:Int)>0
 ·rw[Aj h0];obtain ⟨u,h3,e3,_,_,r3,m3⟩:=pick r2 (by omega) 3;have q3:=m3.keep rdones_ok q2 (λz hz hm=>by rw[YZ] at hm;exact hbG (hm ▸ hz));rw[e3,Ac,Aa];cases u==(0:Int) with
  | false=>rw[Au];exact ⟨l,x,y,h3,G,rfl,q3,h80,hbG,r3.up (by omega),YD l2 m3.le⟩
  | true =>
  rw[Ao];obtain ⟨k,h4,e4,hk0,hkl,r4,m4⟩:=pick r3 (by omega) (l.length:Int);have hkl:=hkl (by omega);obtain ⟨k,rfl⟩:∃ q:Nat,k=(q:Int):=⟨k.toNat,by omega⟩;have hk:k<l.length:=by omega
  obtain ⟨v,h5,e5,_,_,r5,m5⟩:=pick r4 (by omega) 5;have q5:=(m4.trans m5).keep rdones_ok q3 (λz hz hm=>by rw[YZ] at hm;exact hbG (hm ▸ hz));have l5:=YD l2 (YD m3.le (YD m4.le m5.le));rw[e4,Ac,Aa,e5,Ac,Aa];have one:∀ (h6:Heap) (n6:Nat) (j:Nat) (cs row':List V) (d':Done),Mv h5 [b] h6 [b]->Rd lo h6 b n6->n6<=n+3090->paste l[k].cs j cs=some row'->row'=d'.cs->∃ b' i' h7 F7,x=some (b',i')/\st lo h6 b' (i'+k) j cs=some h7/\RDones false h7 [.sl 5 x l.length y] (l.set k d') F7/\b∉F7/\Rd lo h7 b (n+3100)/\lo<=h7.length:=by
   intro h6 n6 j cs row' d' m6 r6 hn6 hp hd;have q6:=m6.keep rdones_ok q5 (λz hz hm=>by rw[YZ] at hm;exact hbG (hm ▸ hz));obtain ⟨b',i',rs,row,G6,ha,hbF,hbG6,hb,hrow,⟨rfl,rfl⟩,hGF,hGn,_,put⟩:=q6.at (lo:=lo) Cj hk m2.nd hGlo;obtain ⟨h7,F7,e7,q7,m7,_⟩:=put h6 [] j cs row' d' Mv.nil hp ⟨hd,rfl⟩;refine ⟨b',i',h7,F7,ha,e7,q7,λhm=>?_,(r6.keep m7 hbG hGlo).up (by omega),YD l5 (YD m6.le m7.le)⟩;rcases m7.sub b hm with g | g
   ·exact hbG g
   ·have:=r6.lt;omega
  have hset:∀ d':Done,(l.set k d').length=l.length:=λd'=>by simp
  cases v==(0:Int) with
  | true =>obtain ⟨t,h6,e6,r6,m6⟩:=RG r5 (by omega);obtain ⟨b',i',h7,F7,rfl,e7,q7,hb7,r7,l7⟩:=one h6 _ 3 [Iv t.time,Iv t.place] _ ⟨l[k].sess,l[k].kind,l[k].key,t⟩ m6 r6 (by omega) rfl rfl;simp only[Tag.cs] at e6;rw[Ao,e6,Ac,A3,Ab,Aa,Ab,Aa,Ai,Ad hk,Ag,BA,e7,Ag];exact ⟨l.set k ⟨l[k].sess,l[k].kind,l[k].key,t⟩,_,y,h7,F7,by rw[hset],by rw[hset];exact q7,by rw[hset];exact h80,hb7,r7,l7⟩
  | false =>
  rw[Au];cases v==(1:Int) with
  | true =>obtain ⟨t,h6,e6,_,_,r6,m6⟩:=pick r5 (by omega) 5;obtain ⟨b',i',h7,F7,rfl,e7,q7,hb7,r7,l7⟩:=one h6 _ 1 [Iv t] _ ⟨l[k].sess,t,l[k].key,l[k].tag⟩ m6 r6 (by omega) rfl rfl;rw[Ao,e6,Ac,Aa,Ad hk,Ag,BA,e7,Ag];exact ⟨l.set k ⟨l[k].sess,t,l[k].key,l[k].tag⟩,_,y,h7,F7,by rw[hset],by rw[hset];exact q7,by rw[hset];exact h80,hb7,r7,l7⟩
  | false =>
  rw[Au];cases v==(2:Int) with
  | true =>obtain ⟨t,h6,e6,_,_,r6,m6⟩:=pick r5 (by omega) 5;obtain ⟨b',i',h7,F7,rfl,e7,q7,hb7,r7,l7⟩:=one h6 _ 2 [Iv t] _ ⟨l[k].sess,l[k].kind,t,l[k].tag⟩ m6 r6 (by omega) rfl rfl;rw[Ao,e6,Ac,Aa,Ad hk,Ag,BA,e7,Ag];exact ⟨l.set k ⟨l[k].sess,l[k].kind,t,l[k].tag⟩,_,y,h7,F7,by rw[hset],by rw[hset];exact q7,by rw[hset];exact h80,hb7,r7,l7⟩
  | false =>
  rw[Au];cases v==(3:Int) with
  | true =>obtain ⟨t,h6,e6,_,_,r6,m6⟩:=pick r5 (by omega) 5;obtain ⟨b',i',h7,F7,rfl,e7,q7,hb7,r7,l7⟩:=one h6 _ 0 [Iv t] _ ⟨t,l[k].kind,l[k].key,l[k].tag⟩ m6 r6 (by omega) rfl rfl;rw[Ao,e6,Ac,Aa,Ad hk,Ag,BA,e7,Ag];exact ⟨l.set k ⟨t,l[k].kind,l[k].key,l[k].tag⟩,_,y,h7,F7,by rw[hset],by rw[hset];exact q7,by rw[hset];exact h80,hb7,r7,l7⟩
  | false =>
  rw[Au];obtain ⟨K2,p2,nK2,sK2⟩:=Sli.first q5 (i:=k) (by omega) m2.nd;obtain ⟨Fs,_,_,_,cuts⟩:=Sli.parts q5 m2.nd;obtain ⟨_,rQ,_,eQ,_,kQ⟩:=cuts (k+1) (by omega);have hrQ:rQ=(l.drop (k+1)).map Done.cs:=eQ.of_flat.1;have hlk:(l.take k).length=k:=by rw[Zr];omega
  have p2':RDones false h5 [.sl 5 x (l.take k).length y] (l.take k) K2:=by rw[hlk];exact p2
  obtain ⟨a6,c6,h6,F6,e6,q6,m6⟩:=LW (lo:=lo) (ys:=l.drop (k+1)) p2' nK2 (λz hz=>hGlo z (sK2 z hz)) l5 (by rw[Zr,ZL];omega);rw[hlk] at e6;have hb6:b∉F6:=λhm=>by
   rcases m6.sub b hm with g | g
   ·exact hbG (sK2 b g)
   ·have:=r5.lt;omega
  refine ⟨l.take k++l.drop (k+1),a6,c6,h6,F6,?_,q6,by rw[Y6,Zr,ZL];omega,hb6,(r5.keep m6 (λhm=>hbG (sK2 b hm)) λz hz=>hGlo z (sK2 z hz)).up (by omega),YD l5 m6.le⟩;rw[Ky q5 (by omega),As (by omega),kQ h5 (λ_ _ _=>rfl),hrQ,e6,Ah]
 ·rw[Ak h0];exact ⟨l,x,y,h2,G,rfl,q2,h80,hbG,r2.up (by omega),l2⟩
end


variable {l:List Done}{R:Type}{K:List (List V)->Option R}
def JZ (s:Int) (l:List Done):List Done:=bif Bp l then l.filter (λd=>d.sess==s) else []
section
variable {lo:Nat}{h:Heap}{a:Pq}{c:Nq}{F:List Nat}{s:Int}
theorem Jt {d:Done} (h:A0 d=true):(0<=d.sess/\d.sess<=3)/\(1<=d.kind/\d.kind<=3)/\(0<=d.key/\d.key<=3):=by unfold A0 Af at h;simp at h;omega
theorem BD (h:Bp l=true):l.length<=80/\∀ d∈l,A0 d=true:=by unfold Bp at h;rw[Cz,YR] at h;exact ⟨by simpa using h.1,h.2⟩
theorem QA {sz e:Nat}{ro:Bool}{h:Heap}{row:List V}{c:Nq}:Ap sz (h ++ [.rows sz e ro [row]]) (.sl sz (some (h.length,0)) 1 c) K=K [row]:=by simp[Ap,De,HP,A8]
theorem Qj (hs:RDones false h [.sl 5 a l.length c] l F) (hn:l.length<=1048576):Ae lo 25 [.sl 5 a l.length c] h=some (.bool (Bp l),h):=by
 have loop:∀ m k b,m+k=l.length->B4 (List.length h) a l.length c b (k:Nat) h=some (.bool ((l.drop k).all A0&&decide (l.length<=80)),h):=by
  intro m;induction m with
  | zero =>
   intro k b hk;rw[B4.e,Ak (by omega),show k=l.length by omega,List.drop_length];by_cases h8:l.length<=80
   ·rw[Aj (by omega)];simp[h8]
   ·rw[Ak (by omega)];simp[h8]
  | succ m ih =>
   intro k b hk;have hlt:k<l.length:=by omega
   obtain ⟨o,ha,ho⟩:=hs.get hlt;simp only[Done.cs] at ho;have e:=Ua (lo:=h.length) (h:=h) (d:=l[k]);simp only[Done.cs] at e;rw[B4.e,Aj (by omega),Ad hlt,ha,Ag,BA,ho,Ag,Ab,Aa,Ab,Aa,Ab,Aa,Ab,Aa,Ab,Aa,Ai,e,Ac,AC,YN hlt,List.all_cons,As (by omega),<- ha];cases A0 l[k] with
   | true=>rw[Ao,ih (k+1) _ (by omega),YP]
   | false=>rw[Au,Zh,Zh]
 refine Nt (h':=h) ?_;have e:=loop l.length 0 false (by omega);rw[Zg,Bool.and_comm] at e;exact e
theorem W1 {i:Nat}:((l.take i).filter λd=>d.sess==s).length<=i:=YD (zac _ _) (by simp;omega)
theorem UI {i:Nat} (hi:i<l.length):((l.take (i+1)).filter λd=>d.sess==s)=bif l[i].sess==s then ((l.take i).filter λd=>d.sess==s) ++ [l[i]] else (l.take i).filter λd=>d.sess==s:=by
 rw[Z0,CF hi,ZU,List.filter_append];cases hp:(l[i].sess==s) with
 | true=>simp[hp]
 | false=>simp[hp]
theorem QH {x:Done}{hh:Heap} (hr:RDones false hh [.sl 5 a l.length c] l F) (hnd:F.Nodup) (hlo:∀ y∈F,lo<=y) (hl:lo<=hh.length) (hn:l.length<=1048576) :
  ∃ a' c' h2 F',(∀ {T:Type} (K:V->Heap->Option T),CJ lo 31 5 40 (.sl 5 a l.length c) [x.cs] (hh ++ [.rows 5 31 false [x.cs]]) K=K (.sl 5 a' (l ++ [x]).length c') h2)/\RDones false h2 [.sl 5 a' (l ++ [x]).length c'] (l ++ [x]) F'/\Mv hh F h2 F':=by
 obtain ⟨a',c',h2,F',p1,p2,p3⟩:=DT (lo:=lo) (bytes:=40) Cj hr (h1:=hh ++ [.rows 5 31 false [x.cs]]) (row:=x.cs) (x:=x) (G := []) ⟨rfl,rfl⟩ Mv.snoc hnd hlo hl (by decide) (by omega);rw[show l.length+1=(l ++ [x]).length by simp] at p1 p2;exact ⟨a',c',h2,F',p1,p2,p3⟩
theorem Fm (hs:RDones false h [.sl 5 a l.length c] l F) (hl:lo<=h.length) (hn:l.length<=1048576) :
  ∃ v a' c' h' F',Ae lo 11 [.sl 5 a l.length c,Iv s] h=some (v,h')/\(∀ {T:Type} (K:Pq->Nat->Nq->Option T),eS 5 v K=K a' (JZ s l).length c')/\RDones false h' [.sl 5 a' (JZ s l).length c'] (JZ s l) F'/\Mv h [] h' F':=by
 have hfo:=FP (lo:=lo) hs hn;unfold JZ;rw[show (decide (l.length<=80)&&l.all A0)=Bp l from rfl] at hfo;cases hf:Bp l with
 | false =>rw[hf] at hfo;exact ⟨_,none,some 0,h,[],GE (by rw[hfo,Ac,AC,Au]),λK=>rfl,Sli.nil,Mv.nil⟩
 | true =>
  rw[hf] at hfo;rw[cond_true];have loop:∀ m i a5 c5 hh E,m+i=l.length->RDones false hh [.sl 5 a5 ((l.take i).filter λd=>d.sess==s).length c5] ((l.take i).filter λd=>d.sess==s) E->Mv h [] hh E ->
    ∃ a' c' h' F',Bf lo s a5 ((l.take i).filter λd=>d.sess==s).length c5 a l.length c (l.length:Nat) (i:Nat) hh=some (.sl 5 a' (l.filter λd=>d.sess==s).length c',h')/\RDones false h' [.sl 5 a' (l.filter λd=>d.sess==s).length c'] (l.filter λd=>d.sess==s) F'/\Mv h [] h' F':=by
   intro m;induction m with
   | zero =>intro i a5 c5 hh E hi hr mm;rw[Zv (by omega)] at hr ⊢;exact ⟨_,_,hh,E,by rw[Bf.e,Ak (by omega),IZ hr],hr.clip,mm⟩
   | succ m ih =>
    intro i a5 c5 hh E hi hr mm;have hlt:i<l.length:=by omega
    obtain ⟨o,ha,ho⟩:=(mm.keep0 rdones_ok hs).get hlt;simp only[Done.cs] at ho;have hft:=UI (s:=s) hlt;rw[Bf.e,Aj (by omega),Ad hlt,ha,Ag,BA,ho,Ag,Ab,Aa,Ab,Aa,Ab,Aa,Ab,Aa,Ab,Aa,Ai,As (by omega),<- ha];cases hp:(l[i].sess==s) with
    | true =>rw[hp,cond_true] at hft;have hle:=W1 (s:=s) (l:=l) (i:=i);obtain ⟨a',c',h2,E',p1,p2,p3⟩:=QH (lo:=lo) (x:=l[i]) hr mm.nd (λy hy=>YD hl (mm.new y hy)) (YD hl mm.le) (by omega);rw[<- hft] at p1 p2;obtain ⟨x1,x2,h3,E3,q1,q2,q3⟩:=ih (i+1) a' c' h2 E' (by omega) p2 (mm.trans p3);simp only[Done.cs] at p1;exact ⟨x1,x2,h3,E3,by rw[Ao,QA,p1,Ah];exact q1,q2,q3⟩
    | false =>rw[hp,cond_false] at hft;rw[<- hft] at hr ⊢;obtain ⟨x1,x2,h3,E3,q1,q2,q3⟩:=ih (i+1) a5 c5 hh E (by omega) hr mm;exact ⟨x1,x2,h3,E3,by rw[Au];exact q1,q2,q3⟩
  obtain ⟨a',c',h',F',q1,q2,q3⟩:=loop l.length 0 (some (h.length,0)) (some l.length) (h ++ [.rows 5 31 false (List.replicate l.length [Iv 0,Iv 0,Iv 0,Iv 0,Iv 0])]) [h.length] (by omega) (Sli.fresh (by simp)) Mv.last;exact ⟨_,a',c',h',F',GE (by rw[hfo,Ac,AC,Ao,GO (by omega)];exact q1),λK=>Ah _ _ _ _ _,q2,q3⟩
end


variable {a:Pq}{c:Nq}{l:List Done}{kind:Int}{m:List ((Int×Int)×Tag)}
theorem Sli.sl {α:Type}{cs:α->List V}{R R' e n:Nat}{h:Heap}{l:List α}{F:List Nat} (hs:Sli false R e (flat cs) h [.sl R' a n c] l F):Sl h (l.map cs) a n:=by
 have hn:=hs.val;subst hn;obtain ⟨R1,a1,c1,e1,e2⟩:=hs;injection e1 with e1 _;injection e1 with _ e3 _ e4;subst e3;subst e4;cases a with
 | none=>obtain ⟨rfl,_⟩:=e2;exact ⟨rfl,.inl rfl⟩
 | some p =>obtain ⟨b,i⟩:=p;obtain ⟨_,rs,Fs,g1,g2,_,_,g5,_⟩:=e2;obtain ⟨g6,_⟩:=g5.of_flat;exact ⟨by simp,.inr ⟨b,i,rs,rfl,by simp[Heap.rows?,g1],g6⟩⟩
section
variable {lo:Nat}{h:Heap}{F:List Nat}
theorem ER {n:Nat} (hq:RDones false h [.sl 5 a n c] l F) (hn:n<=1048576):Ae lo 25 [.sl 5 a n c] h=some (.bool (Bp l),h):=by have hv:=hq.val;subst hv;exact Qj hq hn
theorem Dl {n:Nat} (hq:RDones false h [.sl 5 a n c] l F) (hn:n<=1048576):Ae lo 24 [.sl 5 a n c] h=some (.bool (Bp l),h):=by have hv:=hq.val;subst hv;exact FP hq hn
theorem Q7 {a b c d:Int}:Ae lo 43 [.agg [Iv a,Iv b],.agg [Iv c,Iv d]] h=some (.agg [Iv (if Bx a b c d=true then c else a),Iv (if Bx a b c d=true then d else b)],h) :=
 Ir (h':=h) (by simp only[D0,Ac,AC];cases Bx a b c d<;>simp)
def Pp (past:List Done):List Done->Bool
 | []=>true
 | d :: r=>(d.kind != 1 || past.all λe => !(e.sess==d.sess&&e.kind != 1&&decide (e.tag.time>=d.tag.time)))&&Pp (past ++ [d]) r
def AH (l:List Done):Bool:=Bp l&&Pp [] l
theorem JN {n:Nat} (hq:RDones false h [.sl 5 a n c] l F) (hn:n<=1048576) :
  Ae lo 9 [.sl 5 a n c] h=some (.bool (AH l),h):=by
 have hs:=hq.sl;have hlen:n=l.length:=by simpa using hs.len
 have inner:∀ m k i b (hi:i<l.length),m+k=i->(∀ r,AO (List.length h) a n c b ((i+1:Nat):Int) h=some r->True) ->
   AS (List.length h) a n c b (i:Nat) (k:Nat) h=if (l[i].kind != 1 || (((l.take i).drop k).all λe => !(e.sess==l[i].sess&&e.kind != 1&&decide (e.tag.time>=l[i].tag.time))))=true then AO (List.length h) a n c b ((i+1:Nat):Int) h else some (.bool false,h):=by
  intro m;induction m with
  | zero =>intro k i b hi hk _;rw[AS.e,Ak (by omega),Y0 (by simp;omega),As (by omega)];simp
  | succ m ih =>
   intro k i b hi hk hx;have hlt:k<l.length:=by omega
   obtain ⟨o,rfl,ho⟩:=hs.read (show (l.map Done.cs)[i]?=some (l[i].cs) by simp[hi]);obtain ⟨o',he,ho'⟩:=hs.read (show (l.map Done.cs)[k]?=some (l[k].cs) by simp[hlt]);injection he with he;subst he;have hdr:(l.take i).drop k=l[k] ::(l.take i).drop (k+1):=by rw[YN (by simp;omega)];simp
   rw[AS.e,Aj (by omega),Ad (by omega)];simp only[Ag,BA,ho,ho',Done.cs,cut,Ab,Aa,Ai,Ad (show k<n by omega),Ad (show i<n by omega),As (show i<9223372036854775807 by omega),As (show k<9223372036854775807 by omega)];rw[ih (k+1) i b hi (by omega) hx,hdr,List.all_cons];cases e1:(l[i].kind==1)<;>cases e2:(l[k].sess==l[i].sess)<;>cases e3:(l[k].kind==1)<;>cases e4:decide (l[k].tag.time>=l[i].tag.time) <;>
    simp only[bne,e1,e2,e3,e4,Ao,Au,Zk,Zo,YP,Zh,ZQ,ZE,ZO,Zj,if_true,Zi,if_false]
 have loop:∀ m i b,m+i=n->AO (List.length h) a n c b (i:Nat) h=some (.bool (Pp (l.take i) (l.drop i)),h):=by
  intro m;induction m with
  | zero =>intro i b hi;rw[AO.e,Ak (by omega),Y0 (by omega)];simp[Pp]
  | succ m ih =>
   intro i b hi;have hlt:i<l.length:=by omega
   have:=inner i 0 i b hlt (by omega) (λ_ _=>trivial);rw[AO.e,Aj (by omega)];rw[show (0:Int)=((0:Nat):Int) from rfl,this,YN hlt,ih (i+1) b (by omega)];simp only[Pp,Zg,Z0,CF hlt,ZU];split
   ·rename_i h1;rw[h1,YP]
   ·rename_i h1;rw[Bool.not_eq_true] at h1;rw[h1,Zh]
 refine IF (h':=h) ?_;rw[ER hq hn,Ac,AC];have:=loop n 0 false (by omega);simp only[Z1,Zg] at this;unfold AH;cases Bp l
 ·simp
 ·simpa using this
def OC (lat:List Int):List Done->Bool
 | []=>true
 | d :: r=>bif d.kind==1 then (bif decide (d.tag.time<=lat[d.sess.toNat]?.getD 0) then false else OC lat r)
  else OC (lat.set d.sess.toNat (if d.tag.time>lat[d.sess.toNat]?.getD 0 then d.tag.time else lat[d.sess.toNat]?.getD 0)) r
theorem Rx {d:Done} (h:A0 d=true):0<=d.sess/\d.sess<4:=by simp[A0,Af] at h;omega
theorem Wh {d:Done} (h:A0 d=true):0<=d.tag.time/\(d.kind=1->1<=d.tag.time):=by simp[A0,Bu,Af] at h;omega
theorem Mo:∀ (l past:List Done) (lat:List Int),lat.length=4->(∀ d∈l,A0 d=true)->(∀ s:Nat,s<4->∀ t:Int,1<=t->(lat[s]?.getD 0<t<->∀ e∈past,e.sess=s->e.kind≠1->e.tag.time<t))->OC lat l=Pp past l
 | [],past,lat,hl,ho,hi=>rfl
 | d :: r,past,lat,hl,ho,hi=>by
  have hd:=ho d (by simp);have hs:=Rx hd;have ht:=Wh hd;have hr:∀ d∈r,A0 d=true:=λe he=>ho e (by simp[he]);obtain ⟨s,hs1⟩:∃ s:Nat,d.sess=s:=⟨d.sess.toNat,by omega⟩;have hs4:s<4:=by omega
  simp only[OC,Pp];rw[hs1,BA];by_cases hk:d.kind=1
  ·have e1:(d.kind==1)=true:=by simp[hk]
   have e2:(d.kind != 1)=false:=by simp[hk]
   rw[e1,e2,cond_true,Zj];have h1:=hi s hs4 d.tag.time (ht.2 hk);have h2:(past.all λe => !(e.sess==(s:Int)&&e.kind != 1&&decide (e.tag.time>=d.tag.time))) = !(decide (d.tag.time<=lat[s]?.getD 0)):=by
    rw[ZJ];simp only[YR,Zp,Bool.and_eq_false_iff,decide_eq_false_iff_not];constructor
    ·intro h;have:lat[s]?.getD 0<d.tag.time:=h1.2 λe he h3 h4=>by
      rcases h e he with (h5 | h5) | h5
      ·simp[h3] at h5
      ·simp at h5;exact absurd h5 h4
      ·omega
     omega
    ·intro h e he;have h6:=h1.1 (by omega) e he;by_cases h3:e.sess=(s:Int)
     ·by_cases h4:e.kind=1
      ·exact .inl (.inr (by simp[h4]))
      ·exact .inr (by have:=h6 h3 h4;omega)
     ·exact .inl (.inl (by simpa using h3))
   rw[h2];cases decide (d.tag.time<=lat[s]?.getD 0)
   ·simp only[cond_false,Zo,YP];refine Mo r (past ++ [d]) lat hl hr λs' hs' t h1t=>?_;rw[hi s' hs' t h1t];constructor
    ·intro h e he h3 h4;rcases YF.1 he with he | he
     ·exact h e he h3 h4
     ·simp at he;subst he;exact absurd hk h4
    ·intro h e he;exact h e (Y8 _ he)
   ·rfl
  ·have e1:(d.kind==1)=false:=by simpa using hk
   have e2:(d.kind != 1)=true:=by simpa using hk
   rw[e1,e2,cond_false,ZO,YP];refine Mo r (past ++ [d]) _ (by simpa using hl) hr λs' hs' t h1t=>?_;have h0:=hi s' hs' t h1t;rw[List.getElem?_set];have key:(∀ e∈past ++ [d],e.sess=(s':Int)->e.kind≠1->e.tag.time<t)<->((∀ e∈past,e.sess=(s':Int)->e.kind≠1->e.tag.time<t)/\(d.sess=(s':Int)->d.tag.time<t)):=by
    constructor
    ·intro h;exact ⟨λe he=>h e (Y8 _ he),λh3=>h d (by simp) h3 hk⟩
    ·rintro ⟨h,h'⟩ e he h3 h4
     rcases YF.1 he with he | he
     ·exact h e he h3 h4
     ·simp at he;subst he;exact h' h3
   rw[key,<- h0];by_cases hss:s=s'
   ·subst hss;rw[if_pos rfl,if_pos (by omega),ZP];constructor
    ·intro h;split at h<;>exact ⟨by omega,λ_=>by omega⟩
    ·rintro ⟨h,h'⟩
     have:=h' hs1;split<;>omega
   ·rw[if_neg hss];constructor
    ·intro h;exact ⟨h,λh3=>by omega⟩
    ·exact λh=>h.1
theorem Dm {n:Nat} (hq:RDones false h [.sl 5 a n c] l F) (hn:n<=1048576) :
  Ae lo 8 [.sl 5 a n c] h=some (.bool (AH l),h):=by
 have hs:=hq.sl;have hlen:n=l.length:=by simpa using hs.len
 have loop:∀ m k b (lat:List Int),(∀ d∈l,A0 d=true)->lat.length=4->m+k=n->∃ h',A6 (List.length h) b (List.length h) 0 0 a n c (n:Nat) (k:Nat) (h ++ [.rows 4 37 false [lat.map (.int .i64)]])=some (.bool (OC lat (l.drop k)),h'):=by
  intro m;induction m with
  | zero =>intro k b lat hok hl hk;rw[A6.e,Ak (by omega),Y0 (by omega)];exact ⟨_,rfl⟩
  | succ m ih =>
   intro k b lat hok hl hk;have hlt:k<l.length:=by omega
   have hsess:=Rx (hok l[k] (by simp));obtain ⟨s,hs1⟩:∃ s:Nat,l[k].sess=s:=⟨l[k].sess.toNat,by omega⟩;have hs4:s<lat.length:=by omega
   obtain ⟨o,rfl,ho⟩:=(hs.mono ⟨[.rows 4 37 false [lat.map (.int .i64)]],rfl⟩).read (show (l.map Done.cs)[k]?=some (l[k].cs) by simp[hlt]);have hc:cut (lat.map (V.int .i64)) (0+s*1) 1=some [Iv lat[s]]:=PH (by simp[hs4]);have hp:∀ x,paste (lat.map (V.int .i64)) (0+s*1) [Iv x]=some ((lat.set s x).map (V.int .i64)):=λx=>by rw[Gf (by simpa using hs4)];simp[List.map_set]
   rw[A6.e,Aj (by omega),Ad (by omega)];simp only[Ag,BA,ho,Done.cs,cut,Ab,Aa,Ai,hs1,Ad (show s<4 by omega)];rw[Pe (row:=lat.map (V.int .i64)) (by simp),hc];simp only[Ag,Ab,Ai,Aa];rw[WE (row:=lat.map (V.int .i64)) (YH _) (by simp) (hp _),Ag,As (by omega),YN hlt];have hg:lat[l[k].sess.toNat]?.getD 0=lat[s]:=by rw[hs1,BA,CF hs4];rfl
   simp only[OC,hg];rw[hs1,BA];cases l[k].kind==1
   ·simp only[Au,cond_false];exact ih (k+1) b _ hok (by simpa using hl) (by omega)
   ·simp only[Ao,cond_true];cases decide (l[k].tag.time<=lat[s])
    ·simp only[Au,cond_false];exact ih (k+1) b lat hok hl (by omega)
    ·exact ⟨_,rfl⟩
 unfold AH;cases hf:Bp l with
 | false =>refine FG (h':=h) ?_;rw[Dl hq hn,hf];simp
 | true =>
  have hok:∀ d∈l,A0 d=true:=by exact (BD hf).2
  obtain ⟨h',hh⟩:=loop n 0 false [0,0,0,0] hok rfl (by omega);refine FG (h':=h') ?_;rw[Dl hq hn,hf,Ac,AC,Ao];rw[YP,<- Mo l [] [0,0,0,0] rfl hok (λs hs t ht=>by
   have : [0,0,0,0][s]?.getD 0=(0:Int):=by
    match s,hs with
    | 0,_=>rfl
    | 1,_=>rfl
    | 2,_=>rfl
    | 3,_=>rfl
   rw[this];simp;omega)]
  simpa using hh
def Pm (past:List Done):List Done->Bool
 | []=>true
 | d :: r=>(d.kind==1 || !(decide (d.tag.time>0)) || past.any λe=>e.kind==1&&(e.tag.time==d.tag.time&&e.tag.place==d.tag.place)&&e.key==d.key)&&Pm (past ++ [d]) r
def CO (l:List Done):Bool:=Bp l&&Pm [] l
def Ml (m:List ((Int×Int×Int)×Bool)):List Done->Bool
 | []=>true
 | d :: r=>bif d.kind==1 then Ml (Gt (d.key,d.tag.time,d.tag.place) true m) r
  else bif (d.tag.time==0&&(d.tag.place==0&&true)) then Ml m r
  else bif (CM (d.key,d.tag.time,d.tag.place) m).getD false then Ml m r else false
theorem Jk:∀ (l past:List Done) (m:List ((Int×Int×Int)×Bool)),(∀ d∈l,A0 d=true)->(∀ k t p,(CM (k,t,p) m).getD false=past.any λe=>e.kind==1&&(e.tag.time==t&&e.tag.place==p)&&e.key==k)->Ml m l=Pm past l
 | [],past,m,ho,hi=>rfl
 | d :: r,past,m,ho,hi=>by
  have hd:=ho d (by simp);have hr:∀ d∈r,A0 d=true:=λe he=>ho e (by simp[he]);simp only[Ml,Pm];cases e1:d.kind==1 with
  | true =>
   rw[cond_true,ZO,ZO,YP];refine Jk r _ _ hr λk t p=>?_;rw[E0,List.any_append,<- hi];simp only[Z6,List.any_nil,ZR,e1,YP];by_cases hk:(k,t,p)=(d.key,d.tag.time,d.tag.place)
   ·rw[if_pos hk];injection hk with h1 h2;injection h2 with h2 h3;subst h1;subst h2;subst h3;simp
   ·rw[if_neg hk];have:((d.tag.time==t&&d.tag.place==p)&&d.key==k)=false:=by rw[Bool.eq_false_iff];intro h;simp at h;exact hk (by rw[<- h.1.1,<- h.1.2,<- h.2])
    rw[this,ZR]
  | false =>
   have key:∀ k t p,(CM (k,t,p) m).getD false=(past ++ [d]).any λe=>e.kind==1&&(e.tag.time==t&&e.tag.place==p)&&e.key==k:=λk t p=>by rw[List.any_append,<- hi];simp[e1]
   have h0:(d.tag.time==0&&(d.tag.place==0&&true)) = !(decide (d.tag.time>0)):=by rw[ZJ];simp[A0,Bu,Af] at hd ⊢;omega
   rw[cond_false,Zj,h0,hi];cases decide (d.tag.time>0)
   ·simp only[Zo,cond_true,ZO,YP];exact Jk r _ _ hr key
   ·simp only[Zk,cond_false,Zj];cases past.any λe=>e.kind==1&&(e.tag.time==d.tag.time&&e.tag.place==d.tag.place)&&e.key==d.key
    ·rfl
    ·simp only[cond_true,YP];exact Jk r _ _ hr key
theorem Nh {n far:Nat}{k t p:Int} (hq:RDones false h [.sl 5 a n c] l F) (hn:n<=1048576) (hf:far<=n) :
  Ae lo 29 [.sl 5 a n c,Iv (far:Nat),Iv k,.agg [Iv t,Iv p]] h=some (.bool ((l.take far).any λe=>e.kind==1&&(e.tag.time==t&&e.tag.place==p)&&e.key==k),h):=by
 have hs:=hq.sl;have hlen:n=l.length:=by simpa using hs.len
 have loop:∀ m i b,m+i=far->Bb (List.length h) a n c (far:Nat) k b (i:Nat) t p h=some (.bool (((l.take far).drop i).any λe=>e.kind==1&&(e.tag.time==t&&e.tag.place==p)&&e.key==k),h):=by
  intro m;induction m with
  | zero =>intro i b hi;rw[Bb.e,Ak (by omega),Y0 (by simp;omega)];rfl
  | succ m ih =>
   intro i b hi;have hlt:i<l.length:=by omega
   obtain ⟨o,rfl,ho⟩:=hs.read (show (l.map Done.cs)[i]?=some (l[i].cs) by simp[hlt]);have hdr:(l.take far).drop i=l[i] ::(l.take far).drop (i+1):=by rw[YN (by simp;omega)];simp
   rw[Bb.e,Aj (by omega),Ad (by omega)];simp only[Ag,BA,ho,Done.cs,cut,Ab,Aa,Ai,Ad (show i<n by omega),As (show i<9223372036854775807 by omega)];rw[ih (i+1) b (by omega),hdr,Z6];cases l[i].kind==1<;>cases l[i].tag.time==t<;>cases l[i].tag.place==p<;>cases l[i].key==k<;>simp
 refine K8 (h':=h) ?_;simpa using loop far 0 false (by omega)
theorem IW {n:Nat} (hq:RDones false h [.sl 5 a n c] l F) (hn:n<=1048576) :
  Ae lo 20 [.sl 5 a n c] h=some (.bool (CO l),h):=by
 have hs:=hq.sl;have hlen:n=l.length:=by simpa using hs.len
 have loop:∀ m i b,m+i=n->AQ (List.length h) a n c b (i:Nat) h=some (.bool (Pm (l.take i) (l.drop i)),h):=by
  intro m;induction m with
  | zero =>intro i b hi;rw[AQ.e,Ak (by omega),Y0 (by omega)];simp[Pm]
  | succ m ih =>
   intro i b hi;have hlt:i<l.length:=by omega
   obtain ⟨o,rfl,ho⟩:=hs.read (show (l.map Done.cs)[i]?=some (l[i].cs) by simp[hlt]);rw[AQ.e,Aj (by omega),Ad (by omega)];simp only[Ag,BA,ho,Done.cs,cut,Ab,Aa,Ai,Ad (show i<n by omega),As (show i<9223372036854775807 by omega)];rw[Nh hq hn (by omega),Ac,ih (i+1) b (by omega),YN hlt];simp only[Pm,AC,Z0,CF hlt,ZU];cases l[i].kind==1<;>cases decide (l[i].tag.time>0)<;>cases ((l.take i).any λe=>e.kind==1&&(e.tag.time==l[i].tag.time&&e.tag.place==l[i].tag.place)&&e.key==l[i].key)<;>simp only[Ao,Au,Zk,Zo,YP,Zh,ZQ,ZE,ZO,Zj,zai,ZR,cond_true,cond_false,if_true,if_false,Zi]
 refine If (h':=h) ?_;rw[ER hq hn,Ac,AC];have:=loop n 0 false (by omega);simp only[Z1,Zg] at this;unfold CO;cases Bp l
 ·simp
 ·simpa using this
def UA (k:Int×Int×Int):V := .agg [Iv k.1,Iv k.2.1,Iv k.2.2]
theorem Ts (a b:Int×Int×Int):M9 (UA a) (UA b)=some (decide (a=b)):=by obtain ⟨a,a',a''⟩:=a;obtain ⟨b,b',b''⟩:=b;simp[UA,M9,DO,SP];rw[ZJ];simp
theorem Ji {n:Nat} (hq:RDones false h [.sl 5 a n c] l F) (hn:n<=1048576) :
  Ae lo 19 [.sl 5 a n c] h=some (.bool (CO l),h):=by
 have hs:=hq.sl;have hlen:n=l.length:=by simpa using hs.len
 have hble:Nat.ble (List.length h) (List.length h)=true:=by simp
 have loop:∀ m i b (mp:List ((Int×Int×Int)×Bool)),m+i=n->∃ h',AR (List.length h) b (List.length h) a n c (n:Nat) (i:Nat) (h ++ [.map 43 (EN UA .bool mp)])=some (.bool (Ml mp (l.drop i)),h'):=by
  intro m;induction m with
  | zero =>intro i b mp hi;rw[AR.e,Ak (by omega),Y0 (by omega)];exact ⟨_,rfl⟩
  | succ m ih =>
   intro i b mp hi;have hlt:i<l.length:=by omega
   obtain ⟨o,rfl,ho⟩:=(hs.mono ⟨[.map 43 (EN UA .bool mp)],rfl⟩).read (show (l.map Done.cs)[i]?=some (l[i].cs) by simp[hlt]);have hget:=HV (eu:=V.bool) Ts (k:=(l[i].key,l[i].tag.time,l[i].tag.place)) (m:=mp);have hset:=Jc (eu:=V.bool) Ts (k:=(l[i].key,l[i].tag.time,l[i].tag.place)) (u:=true) (m:=mp);simp only[UA] at hget hset;rw[AR.e,Aj (by omega),Ad (by omega)];simp only[Ag,BA,ho,Done.cs,cut,Ab,Aa,Ai,As (show i<9223372036854775807 by omega),Tr,hble,GN,Qx];rw[hget,hset,YN hlt];simp only[Ag,Ml];cases l[i].kind==1
   ·cases (l[i].tag.time==0&&(l[i].tag.place==0&&true))
    ·cases CM (l[i].key,l[i].tag.time,l[i].tag.place) mp with
     | none=>exact ⟨_,rfl⟩
     | some v =>
      cases v
      ·exact ⟨_,rfl⟩
      ·exact ih (i+1) b mp (by omega)
    ·exact ih (i+1) b mp (by omega)
   ·exact ih (i+1) b _ (by omega)
 unfold CO;cases hf:Bp l with
 | false =>refine EP (h':=h) ?_;rw[Dl hq hn,hf];simp
 | true =>obtain ⟨h',hh⟩:=loop n 0 false [] (by omega);refine EP (h':=h') ?_;rw[Dl hq hn,hf,Ac,AC,Ao];rw[YP,<- Jk l [] [] ((BD hf).2) (λk t p=>rfl)];simpa [EN] using hh
def I6 (kind:Int) (past:List Done):List Done->Bool
 | []=>true
 | d :: r=>(!(d.kind==2) || !(past.any λe=>e.sess==d.sess&&e.key==d.key&&Af e.kind kind kind&&Bx d.tag.time d.tag.place e.tag.time e.tag.place))&&I6 kind (past ++ [d]) r
def AA (kind:Int) (l:List Done):Bool:=Bp l&&I6 kind [] l
theorem Im {n i:Nat}{k k':Int} (hq:RDones false h [.sl 5 a n c] l F) (hn:n<=1048576) (hi:i<l.length) :
  Ae lo 28 [.sl 5 a n c,Iv (i:Nat),Iv k,Iv k'] h=some (.bool ((l.take i).any λe=>e.sess==l[i].sess&&e.key==l[i].key&&Af e.kind k k'&&Bx l[i].tag.time l[i].tag.place e.tag.time e.tag.place),h):=by
 have hs:=hq.sl;have hlen:n=l.length:=by simpa using hs.len
 have loop:∀ m j b,m+j=i->A1 (List.length h) a n c (i:Nat) k k' b (j:Nat) h=some (.bool (((l.take i).drop j).any λe=>e.sess==l[i].sess&&e.key==l[i].key&&Af e.kind k k'&&Bx l[i].tag.time l[i].tag.place e.tag.time e.tag.place),h):=by
  intro m;induction m with
  | zero =>intro j b hj;rw[A1.e,Ak (by omega),Y0 (by simp;omega)];rfl
  | succ m ih =>
   intro j b hj;have hlt:j<l.length:=by omega
   obtain ⟨o,rfl,ho⟩:=hs.read (show (l.map Done.cs)[j]?=some (l[j].cs) by simp[hlt]);obtain ⟨o',he,ho'⟩:=hs.read (show (l.map Done.cs)[i]?=some (l[i].cs) by simp[hi]);injection he with he;subst he;have hdr:(l.take i).drop j=l[j] ::(l.take i).drop (j+1):=by rw[YN (by simp;omega)];simp
   rw[A1.e,Aj (by omega),Ad (by omega)];simp only[Ag,BA,ho,ho',Done.cs,cut,Ab,Aa,Ai,Ad (show i<n by omega),As (show j<9223372036854775807 by omega),A7,Bd,Ac,AC];rw[ih (j+1) b (by omega),hdr,Z6];cases l[j].sess==l[i].sess<;>cases l[j].key==l[i].key<;>cases Af l[j].kind k k'<;>cases Bx l[i].tag.time l[i].tag.place l[j].tag.time l[j].tag.place<;>simp only[Ao,Au,Zk,Zo,YP,Zh,ZQ,ZE,ZO,Zj,zai,ZR,cond_true,cond_false,if_true,if_false,Zi]
 refine K9 (h':=h) ?_;simpa using loop i 0 false (by omega)
theorem Ni {n:Nat} (hq:RDones false h [.sl 5 a n c] l F) (hn:n<=1048576) :
  Ae lo 14 [.sl 5 a n c] h=some (.bool (AA 3 l),h):=by
 have hs:=hq.sl;have hlen:n=l.length:=by simpa using hs.len
 have loop:∀ m i b,m+i=n->Bt (List.length h) a n c b (i:Nat) h=some (.bool (I6 3 (l.take i) (l.drop i)),h):=by
  intro m;induction m with
  | zero =>intro i b hi;rw[Bt.e,Ak (by omega),Y0 (by omega)];simp[I6]
  | succ m ih =>
   intro i b hi;have hlt:i<l.length:=by omega
   obtain ⟨o,rfl,ho⟩:=hs.read (show (l.map Done.cs)[i]?=some (l[i].cs) by simp[hlt]);rw[Bt.e,Aj (by omega),Ad (by omega)];simp only[Ag,BA,ho,Done.cs,cut,Ab,Aa,Ai,As (show i<9223372036854775807 by omega)];rw[Im hq hn hlt,Ac,ih (i+1) b (by omega),YN hlt];simp only[I6,AC,Z0,CF hlt,ZU];cases l[i].kind==2<;>cases ((l.take i).any λe=>e.sess==l[i].sess&&e.key==l[i].key&&Af e.kind 3 3&&Bx l[i].tag.time l[i].tag.place e.tag.time e.tag.place)<;>simp only[Ao,Au,Zk,Zo,YP,Zh,ZQ,ZE,ZO,Zj,zai,ZR,cond_true,cond_false,if_true,if_false,Zi]
 refine La (h':=h) ?_;rw[ER hq hn,Ac,AC];have:=loop n 0 false (by omega);simp only[Z1,Zg] at this;unfold AA;cases Bp l
 ·simp
 ·simpa using this
theorem KP {n:Nat} (hq:RDones false h [.sl 5 a n c] l F) (hn:n<=1048576) :
  Ae lo 17 [.sl 5 a n c] h=some (.bool (AA 2 l),h):=by
 have hs:=hq.sl;have hlen:n=l.length:=by simpa using hs.len
 have loop:∀ m i b,m+i=n->A9 (List.length h) a n c b (i:Nat) h=some (.bool (I6 2 (l.take i) (l.drop i)),h):=by
  intro m;induction m with
  | zero =>intro i b hi;rw[A9.e,Ak (by omega),Y0 (by omega)];simp[I6]
  | succ m ih =>
   intro i b hi;have hlt:i<l.length:=by omega
   obtain ⟨o,rfl,ho⟩:=hs.read (show (l.map Done.cs)[i]?=some (l[i].cs) by simp[hlt]);rw[A9.e,Aj (by omega),Ad (by omega)];simp only[Ag,BA,ho,Done.cs,cut,Ab,Aa,Ai,As (show i<9223372036854775807 by omega)];rw[Im hq hn hlt,Ac,ih (i+1) b (by omega),YN hlt];simp only[I6,AC,Z0,CF hlt,ZU];cases l[i].kind==2<;>cases ((l.take i).any λe=>e.sess==l[i].sess&&e.key==l[i].key&&Af e.kind 2 2&&Bx l[i].tag.time l[i].tag.place e.tag.time e.tag.place)<;>simp only[Ao,Au,Zk,Zo,YP,Zh,ZQ,ZE,ZO,Zj,zai,ZR,cond_true,cond_false,if_true,if_false,Zi]
 refine JB (h':=h) ?_;rw[ER hq hn,Ac,AC];have:=loop n 0 false (by omega);simp only[Z1,Zg] at this;unfold AA;cases Bp l
 ·simp
 ·simpa using this
def ET (s k:Int) (m:List ((Int×Int)×Tag)):Tag:=(CM (s,k) m).getD ⟨0,0⟩
def RQ (t u:Tag):Tag:=⟨if Bx t.time t.place u.time u.place=true then u.time else t.time,if Bx t.time t.place u.time u.place=true then u.place else t.place⟩
def I5 (kind:Int) (m:List ((Int×Int)×Tag)):List Done->Bool
 | []=>true
 | d :: r=>bif d.kind==2&&Bx d.tag.time d.tag.place (ET d.sess d.key m).time (ET d.sess d.key m).place then false
  else bif d.kind==kind then I5 kind (Gt (d.sess,d.key) (RQ (ET d.sess d.key m) d.tag) m) r else I5 kind m r
theorem VC {t p:Int}{x y:Tag}:Bx t p (RQ x y).time (RQ x y).place=(Bx t p x.time x.place || Bx t p y.time y.place):=by
 rw[ZJ];unfold RQ;by_cases h:Bx x.time x.place y.time y.place=true
 ·simp only[h,if_true];simp[Bx] at h ⊢;omega
 ·simp only[h,if_false,Zi];simp[Bx] at h ⊢;omega
theorem QP {kind:Int}:∀ (l past:List Done) (m:List ((Int×Int)×Tag)),(∀ d∈l,A0 d=true) ->
  (∀ s k t p,0<=t->0<=p->Bx t p (ET s k m).time (ET s k m).place=past.any λe=>e.sess==s&&e.key==k&&Af e.kind kind kind&&Bx t p e.tag.time e.tag.place)->I5 kind m l=I6 kind past l
 | [],past,m,ho,hi=>rfl
 | d :: r,past,m,ho,hi=>by
  have hd:=ho d (by simp);have hr:∀ d∈r,A0 d=true:=λe he=>ho e (by simp[he]);have hp:0<=d.tag.time/\0<=d.tag.place:=by simp[A0,Bu,Af] at hd;omega
  simp only[I5,I6];rw[hi _ _ _ _ hp.1 hp.2];have step:∀ m',(∀ s k t p,0<=t->0<=p->Bx t p (ET s k m').time (ET s k m').place=(Bx t p (ET s k m).time (ET s k m).place || (d.sess==s&&d.key==k&&Af d.kind kind kind&&Bx t p d.tag.time d.tag.place)))->I5 kind m' r=I6 kind (past ++ [d]) r:=λm' hm=>by refine QP r _ _ hr λs k t p h1 h2=>?_;rw[hm s k t p h1 h2,hi s k t p h1 h2,List.any_append];simp
  have hw:Af d.kind kind kind=(d.kind==kind):=by rw[ZJ];simp[Af];omega
  have key:(bif d.kind==kind then I5 kind (Gt (d.sess,d.key) (RQ (ET d.sess d.key m) d.tag) m) r else I5 kind m r)=I6 kind (past ++ [d]) r:=by
   cases hk:d.kind==kind
   ·exact step m λs k t p _ _=>by rw[hw,hk];simp
   ·refine step _ λs k t p _ _=>?_;rw[hw,hk,ZQ];unfold ET;rw[E0];by_cases hsk:(s,k)=(d.sess,d.key)
    ·rw[if_pos hsk,ZP,VC];injection hsk with h1 h2;subst h1;subst h2;simp
    ·rw[if_neg hsk];have:(d.sess==s&&d.key==k)=false:=by rw[Bool.eq_false_iff];intro h;simp at h;exact hsk (by rw[<- h.1,<- h.2])
     rw[this];simp
  rw[key];cases d.kind==2<;>cases (past.any λe=>e.sess==d.sess&&e.key==d.key&&Af e.kind kind kind&&Bx d.tag.time d.tag.place e.tag.time e.tag.place)<;>simp only[Ao,Au,Zk,Zo,YP,Zh,ZQ,ZE,ZO,Zj,zai,ZR,cond_true,cond_false,if_true,if_false,Zi]
def UB (k:Int×Int):V := .agg [Iv k.1,Iv k.2]
theorem Tt (a b:Int×Int):M9 (UB a) (UB b)=some (decide (a=b)):=by obtain ⟨a,a'⟩:=a;obtain ⟨b,b'⟩:=b;simp[UB,M9,DO,SP];rw[ZJ];simp
def T7 (t:Tag):V := .agg [Iv t.time,Iv t.place]
theorem Wg {s k:Int}:UV ((CM (s,k) m).map T7) (.agg [Iv 0,Iv 0]) = .agg [Iv (ET s k m).time,Iv (ET s k m).place]:=by unfold ET;cases CM (s,k) m<;>rfl
theorem Hv {n:Nat} (hq:RDones false h [.sl 5 a n c] l F) (hn:n<=1048576) :
  Ae lo 27 [.sl 5 a n c,Iv kind] h=some (.bool (AA kind l),h):=by
 have hs:=hq.sl;have hlen:n=l.length:=by simpa using hs.len
 have hble:Nat.ble (List.length h) (List.length h)=true:=by simp
 have loop:∀ m i b (mp:List ((Int×Int)×Tag)),m+i=n->∃ h',AX (List.length h) kind b (List.length h) a n c (n:Nat) (i:Nat) (h ++ [.map 65 (EN UB T7 mp)])=some (.bool (I5 kind mp (l.drop i)),h'):=by
  intro m;induction m with
  | zero =>intro i b mp hi;rw[AX.e,Ak (by omega),Y0 (by omega)];exact ⟨_,rfl⟩
  | succ m ih =>
   intro i b mp hi;have hlt:i<l.length:=by omega
   obtain ⟨o,rfl,ho⟩:=(hs.mono ⟨[.map 65 (EN UB T7 mp)],rfl⟩).read (show (l.map Done.cs)[i]?=some (l[i].cs) by simp[hlt]);have hget:=HV (eu:=T7) Tt (k:=(l[i].sess,l[i].key)) (m:=mp);have hset:=Jc (eu:=T7) Tt (k:=(l[i].sess,l[i].key)) (u:=RQ (ET l[i].sess l[i].key mp) l[i].tag) (m:=mp);simp only[UB] at hget hset;have hmax:(V.agg [Iv (if Bx (ET l[i].sess l[i].key mp).time (ET l[i].sess l[i].key mp).place l[i].tag.time l[i].tag.place=true then l[i].tag.time else (ET l[i].sess l[i].key mp).time),
     Iv (if Bx (ET l[i].sess l[i].key mp).time (ET l[i].sess l[i].key mp).place l[i].tag.time l[i].tag.place=true then l[i].tag.place else (ET l[i].sess l[i].key mp).place)])=T7 (RQ (ET l[i].sess l[i].key mp) l[i].tag):=rfl
   rw[AX.e,Aj (by omega),Ad (by omega)];simp only[Ag,BA,ho,Done.cs,cut,Ab,Aa,Ai,As (show i<9223372036854775807 by omega),Tr,hble,GN,hget,Wg,A3,D0,Q7,Ac,AC,hmax,hset,Qx];rw[YN hlt];simp only[I5];cases l[i].kind==2<;>cases Bx l[i].tag.time l[i].tag.place (ET l[i].sess l[i].key mp).time (ET l[i].sess l[i].key mp).place<;>cases l[i].kind==kind<;>simp only[Ao,Au,Zk,Zo,YP,Zh,ZQ,ZE,ZO,Zj,zai,ZR,cond_true,cond_false,if_true,if_false,Zi] <;>
    first | exact ih (i+1) b _ (by omega) | exact ⟨_,rfl⟩
 unfold AA;cases hf:Bp l with
 | false =>refine GD (h':=h) ?_;rw[Dl hq hn,hf];simp
 | true =>
  obtain ⟨h',hh⟩:=loop n 0 false [] (by omega);refine GD (h':=h') ?_;rw[Dl hq hn,hf,Ac,AC,Ao];rw[YP,<- QP l [] [] ((BD hf).2) (λs k t p h1 h2=>by
   show Bx t p 0 0=false;rw[Bool.eq_false_iff];intro h;simp[Bx] at h;omega)]
  simpa [EN] using hh
theorem Ez {n:Nat} (hq:RDones false h [.sl 5 a n c] l F) (hn:n<=1048576) :
  Ae lo 13 [.sl 5 a n c] h=some (.bool (AA 3 l),h):=Lh (h':=h) (by rw[Hv hq hn];simp)
theorem EJ {n:Nat} (hq:RDones false h [.sl 5 a n c] l F) (hn:n<=1048576) :
  Ae lo 16 [.sl 5 a n c] h=some (.bool (AA 2 l),h):=JD (h':=h) (by rw[Hv hq hn];simp)
end


variable {kind:Int}{l:List Done}{G:List Done->Bool}
def KS (ok:List Done->Done->Bool):List Done->List Done->Bool
 | past,[]=>true
 | past,d :: r=>ok past d&&KS ok (past ++ [d]) r
def Lq (i:Nat) (l:List Done):List Done:=l.filter λd=>d.sess==(i:Int)
def Vu (past:List Done) (d:Done):Bool:=d.kind != 1 || past.all λe => !(e.sess==d.sess&&e.kind != 1&&decide (e.tag.time>=d.tag.time))
def Up (kind:Int) (past:List Done) (d:Done):Bool := !(d.kind==2) || !(past.any λe=>e.sess==d.sess&&e.key==d.key&&Af e.kind kind kind&&Bx d.tag.time d.tag.place e.tag.time e.tag.place)
theorem Lv:∀ (l past:List Done),Pp past l=KS Vu past l
 | [],past=>rfl
 | d :: r,past=>by simp only[Pp,KS,Vu];rw[Lv r]
theorem Lr {kind:Int}:∀ (l past:List Done),I6 kind past l=KS (Up kind) past l
 | [],past=>rfl
 | d :: r,past=>by simp only[I6,KS,Up];rw[Lr r]
def TX (ok:List Done->Done->Bool):Prop:=∀ past d,ok past d=ok (past.filter λe=>e.sess==d.sess) d
theorem Un:TX Vu:=λpast d=>by
 unfold Vu;congr 1;induction past with
 | nil=>rfl
 | cons e past ih =>
  rw[List.all_cons,ih];by_cases h:(e.sess==d.sess)=true
  ·rw[List.filter_cons_of_pos (p:=λe:Done=>e.sess==d.sess) h,List.all_cons]
  ·rw[List.filter_cons_of_neg (p:=λe:Done=>e.sess==d.sess) h];rw[Bool.not_eq_true] at h;rw[h];simp
theorem Uo:TX (Up kind):=λpast d=>by
 unfold Up;congr 2;induction past with
 | nil=>rfl
 | cons e past ih =>
  rw[Z6,ih];by_cases h:(e.sess==d.sess)=true
  ·rw[List.filter_cons_of_pos (p:=λe:Done=>e.sess==d.sess) h,Z6]
  ·rw[List.filter_cons_of_neg (p:=λe:Done=>e.sess==d.sess) h];rw[Bool.not_eq_true] at h;rw[h];simp
theorem Ri {ok:List Done->Done->Bool} (H:TX ok):∀ (l past:List Done),(∀ d∈l,0<=d.sess/\d.sess<=3)->(KS ok past l=true<->∀ i:Nat,i<4->KS ok (Lq i past) (Lq i l)=true)
 | [],past,_=>⟨λ_ _ _=>rfl,λ_=>rfl⟩
 | d :: r,past,hd=>by
  have hs:=hd d (by simp);obtain ⟨s,hs1⟩:∃ s:Nat,d.sess=s:=⟨d.sess.toNat,by omega⟩;have hs4:s<4:=by omega
  have ih:=Ri H r (past ++ [d]) λe he=>hd e (by simp[he]);have hpos:Lq s (d :: r)=d :: Lq s r:=List.filter_cons_of_pos (by simp[hs1]);have hpos2:Lq s (past ++ [d])=Lq s past ++ [d]:=by unfold Lq;rw[List.filter_append];simp[hs1]
  have hne:∀ i:Nat,i≠s->(d.sess==(i:Int))=false:=λi hi=>by rw[hs1,beq_eq_false_iff_ne];omega
  have hneg:∀ i:Nat,i≠s->Lq i (d :: r)=Lq i r/\Lq i (past ++ [d])=Lq i past:=λi hi=>by unfold Lq;rw[List.filter_append];simp[hne i hi]
  have h0:ok past d=ok (Lq s past) d:=by have:=H past d;rw[this];unfold Lq;rw[hs1]
  simp only[KS];rw[Cz,ih];constructor
  ·rintro ⟨h1,h2⟩ i hi
   by_cases his:i=s
   ·subst his;rw[hpos];simp only[KS];rw[Cz,<- h0,<- hpos2];exact ⟨h1,h2 i hi⟩
   ·have:=h2 i hi;rw[(hneg i his).2] at this;rw[(hneg i his).1];exact this
  ·intro h;have h1:=h s hs4;rw[hpos] at h1;simp only[KS] at h1;rw[Cz,<- h0,<- hpos2] at h1;refine ⟨h1.1,λi hi=>?_⟩;by_cases his:i=s
   ·subst his;exact h1.2
   ·have:=h i hi;rw[(hneg i his).1] at this;rw[(hneg i his).2];exact this
theorem Rh {ok:List Done->Done->Bool}:∀ (k:Nat) (l past:List Done),KS ok past l=true->KS ok past (l.take k)=true
 | 0,l,past,_=>by rw[Z1];rfl
 | k+1,[],past,h=>h
 | k+1,d :: r,past,h=>by rw[List.take_succ_cons];simp only[KS] at h ⊢;rw[Cz] at h ⊢;exact ⟨h.1,Rh k r _ h.2⟩
theorem Rj {ok:List Done->Done->Bool}:∀ (l past:List Done),(∀ p,∀ d∈l,ok p d=true)->KS ok past l=true
 | [],_,_=>rfl
 | d :: r,past,h=>by simp only[KS];rw[Cz];exact ⟨h past d (by simp),Rj r _ λp e he=>h p e (by simp[he])⟩
theorem Jm {p:Done->Bool} (hf:Bp l=true):Bp (l.filter p)=true:=by obtain ⟨h80,hok⟩:=BD hf;have hle:=zac p l;unfold Bp;rw[Cz,YR];exact ⟨by simp;omega,λd hd=>hok d (List.mem_filter.1 hd).1⟩
theorem SI {k:Nat} (hf:Bp l=true):Bp (l.take k)=true:=by obtain ⟨h80,hok⟩:=BD hf;unfold Bp;rw[Cz,YR];exact ⟨by simp;omega,λd hd=>hok d (zae hd)⟩
structure Lone (G:List Done->Bool):Prop where
 each:∀ l,Bp l=true->(G l=true<->∀ i:Nat,i<4->G (Lq i l)=true)
 cut:∀ l k,G l=true->G (l.take k)=true
theorem Tn {ok:List Done->Done->Bool} (H:TX ok):Lone λl=>Bp l&&KS ok [] l :=
 ⟨λl hf=>by
  have hs:∀ d∈l,0<=d.sess/\d.sess<=3:=λd hd=>(Jt ((BD hf).2 d hd)).1
  have h:=Ri H l [] hs;have e:∀ i:Nat,Bp (Lq i l)=true:=λi=>Jm hf;simp only[hf,e,YP];exact h,
 λl k h=>by
  simp only[Cz] at h ⊢;exact ⟨SI h.1,Rh k l [] h.2⟩⟩
theorem QU:Lone AH:=by
 have:AH=λl=>Bp l&&KS Vu [] l:=by funext l;unfold AH;rw[Lv]
 rw[this];exact Tn Un
theorem lone_back:Lone (AA kind):=by
 have:AA kind=λl=>Bp l&&KS (Up kind) [] l:=by funext l;unfold AA;rw[Lr]
 rw[this];exact Tn Uo
theorem Rk (hf:Bp l=true):AH (l.filter λd=>d.kind != 1)=true:=by unfold AH;rw[Lv,Jm hf,YP];refine Rj _ _ λp d hd=>?_;have:=(List.mem_filter.1 hd).2;unfold Vu;rw[this,ZO]
def Bo (G:List Done->Bool) (l:List Done):Nat->Bool
 | 0=>true
 | k+1=>Bo G l k&&G (Lq k l)
theorem MC {G:List Done->Bool}{l:List Done}:∀ k,Bo G l k=true<->∀ i:Nat,i<k->G (Lq i l)=true
 | 0=>⟨λ_ i hi=>absurd hi (Nat.not_lt_zero i),λ_=>rfl⟩
 | k+1=>by
  simp only[Bo];rw[Cz,MC k];constructor
  ·rintro ⟨h1,h2⟩ i hi
   by_cases hk:i=k
   ·subst hk;exact h2
   ·exact h1 i (by omega)
  ·intro h;exact ⟨λi hi=>h i (by omega),h k (by omega)⟩
theorem IB (H:Lone G) (hf:Bp l=true):Bo G l 4=G l:=by rw[ZJ,MC,<- H.each l hf]


variable {l:List Done}
def Xx (past:List Done) (d:Done):Bool:=d.kind==1 || !(decide (d.tag.time>0)) || past.any λe=>e.kind==1&&(e.tag.time==d.tag.time&&e.tag.place==d.tag.place)&&e.key==d.key
theorem Tw:∀ (l past:List Done),Pm past l=KS Xx past l
 | [],past=>rfl
 | d :: r,past=>by simp only[Pm,KS,Xx];rw[Tw r]
theorem Sq {a b:Tag}:Bx (C1 a b).time (C1 a b).place b.time b.place=false:=by
 unfold C1 CG;cases hl:Bx a.time a.place b.time b.place with
 | true=>rw[cond_true,BP];omega
 | false=>rw[cond_false];exact hl
theorem Oh {a b c:Tag} (h1:Bx b.time b.place a.time a.place=false) (h2:Bx c.time c.place b.time b.place=false):Bx c.time c.place a.time a.place=false:=by rw[BP] at h1 h2 ⊢;omega
structure Told (past:List Done) (B:Book):Prop where
 bl:B.views.length=4
 vl:∀ v∈B.views,BE v=true
 wl:∀ k s,CM k B.wrote=some s->BE s.past=true/\∃ e∈past,e.kind=1/\Ib e.tag=k/\e.key=s.key
 seen:∀ e∈past,e.kind≠1->∃ v t,B.views[e.sess.toNat]?=some v/\v[e.key.toNat]?=some t/\Bx t.time t.place e.tag.time e.tag.place=false
theorem Told.new:Told [] KQ:=⟨rfl,λv hv=>by simp[KQ] at hv;subst hv;decide,λk s h=>(by cases h),λe he=>(by cases he)⟩
theorem Told.more {past:List Done}{B:Book}{d:Done} (T0:Told past B) (hk:d.kind≠1) (hs:∃ v t,B.views[d.sess.toNat]?=some v/\v[d.key.toNat]?=some t/\Bx t.time t.place d.tag.time d.tag.place=false):Told (past ++ [d]) B :=
 ⟨T0.bl,T0.vl,λk s h=>by obtain ⟨h1,e,he,h2⟩:=T0.wl k s h;exact ⟨h1,e,Y8 _ he,h2⟩,
 λe he hne=>by
  rcases YF.1 he with he | he
  ·exact T0.seen e he hne
  ·rw[YZ] at he;subst he;exact hs⟩
theorem U0 {past:List Done}{B B':Book}{d:Done} (T0:Told past B) (hd:A0 d=true) (h:MO B d=some B'):Told (past ++ [d]) B'/\Vu past d=true/\Up 2 past d=true/\Up 3 past d=true/\Xx past d=true:=by
 obtain ⟨hS,hK,hY⟩:=Jt hd;have hT:Bu d.tag.time d.tag.place=true:=by unfold A0 at hd;simp only[Cz] at hd;exact hd.1.2
 have hs4:d.sess.toNat<B.views.length:=by rw[T0.bl];omega
 have hv:=CF hs4;have hvo:=T0.vl _ (YJ hs4);generalize B.views[d.sess.toNat]=view at hv hvo;have hvl:=Cp hvo;have hk4:d.key.toNat<view.length:=by omega
 have ht:=CF hk4;have hto:=(pastOk_iff.1 hvo).2 _ (YJ hk4);generalize view[d.key.toNat]=t at ht hto;unfold MO at h;simp only[hv] at h;by_cases hk1:d.kind=1
 ·have e1:(d.kind==1)=true:=by simp[hk1]
  have e2:(d.kind==2)=false:=by simp[hk1]
  rw[e1] at h;cases hw:CM (Ib d.tag) B.wrote with
  | some w=>rw[hw] at h;simp at h
  | none =>
   rw[hw] at h;simp only[cond_true] at h;cases hl:decide (d.tag.time<=Df view) with
   | true=>rw[hl] at h;cases h
   | false =>
    rw[hl,cond_false] at h;injection h with h;subst h;have hlt:=latest_lt.1 (show Df view<d.tag.time by simpa using hl);refine ⟨⟨T0.bl,T0.vl,λk s hks=>?_,λe he hne=>?_⟩,?_,by unfold Up;rw[e2];rfl,by unfold Up;rw[e2];rfl,by unfold Xx;rw[e1];rfl⟩
    ·simp only at hks;rw[E0] at hks;by_cases hkk:k=Ib d.tag
     ·rw[if_pos hkk] at hks;injection hks with hks;subst hks;exact ⟨hvo,d,by simp,hk1,hkk.symm,rfl⟩
     ·rw[if_neg hkk] at hks;obtain ⟨h1,e,he,h2⟩:=T0.wl k s hks;exact ⟨h1,e,Y8 _ he,h2⟩
    ·rcases YF.1 he with he | he
     ·exact T0.seen e he hne
     ·rw[YZ] at he;subst he;exact absurd hk1 hne
    ·unfold Vu;rw[show (d.kind != 1)=false by simp[hk1],Zj,YR];intro e he;by_cases h3:e.sess=d.sess
     ·by_cases h4:e.kind=1
      ·simp[h4]
      ·obtain ⟨v,t',hv',ht',hl'⟩:=T0.seen e he h4;rw[h3,hv] at hv';injection hv' with hv';subst hv';have h5:=hlt.2 _ (YS ht');rw[BP] at hl';have h6:decide (e.tag.time>=d.tag.time)=false:=by simp;omega
       rw[h6];simp
     ·have h6:(e.sess==d.sess)=false:=by simpa using h3
      rw[h6];simp
 ·have e1:(d.kind==1)=false:=by simpa using hk1
  have oF:Vu past d=true:=by unfold Vu;rw[show (d.kind != 1)=true by simpa using hk1,ZO]
  have oB:CG d.tag t=false->∀ k:Int,k≠1->Up k past d=true:=λhl k hk=>by
   unfold Up;rw[Ze];refine .inr ?_;rw[Zp,List.any_eq_false];intro e he;by_cases h3:e.sess=d.sess
   ·by_cases h4:e.key=d.key
    ·by_cases h5:e.kind=k
     ·obtain ⟨v,t',hv',ht',hl'⟩:=T0.seen e he (by omega);rw[h3,hv] at hv';injection hv' with hv';subst hv';rw[h4,ht] at ht';injection ht' with ht';subst ht';have:=Oh hl' hl;rw[this];simp
     ·have h6:Af e.kind k k=false:=by rw[Bool.eq_false_iff];intro hw;simp[Af] at hw;omega
      rw[h6];simp
    ·have h6:(e.key==d.key)=false:=by simpa using h4
     rw[h6];simp
   ·have h6:(e.sess==d.sess)=false:=by simpa using h3
    rw[h6];simp
  rw[e1] at h;simp only[ht,cond_false] at h;have zero:(d.tag.time==0&&d.tag.place==0)=true->Told (past ++ [d]) B/\Xx past d=true:=λhz=>by
   simp only[Cz,beq_iff_eq] at hz;refine ⟨T0.more hk1 ⟨view,t,hv,ht,?_⟩,?_⟩
   ·rw[hz.1,hz.2,BP];simp[Bu,Af] at hto;omega
   ·unfold Xx;rw[show decide (d.tag.time>0)=false by simp;omega];simp
  cases hl:CG d.tag t with
  | true =>
   rw[hl] at h;cases hw:CM (Ib d.tag) B.wrote with
   | some w=>rw[hw] at h;simp at h
   | none=>rw[hw] at h;simp at h
  | false =>
   rw[hl] at h;simp only[cond_false] at h;have o2:=oB hl 2 (by omega);have o3:=oB hl 3 (by omega);cases hz:(d.tag.time==0&&d.tag.place==0) with
   | true =>
    obtain ⟨z1,z2⟩:=zero hz;rw[hz] at h;have hB:B'=B:=by
     cases hw:CM (Ib d.tag) B.wrote with
     | some w=>rw[hw] at h;simp at h;exact h.symm
     | none=>rw[hw] at h;simp at h;exact h.symm
    subst hB;exact ⟨z1,oF,o2,o3,z2⟩
   | false =>
    rw[hz] at h;cases hw:CM (Ib d.tag) B.wrote with
    | none=>rw[hw] at h;simp at h
    | some w =>
     rw[hw] at h;simp only[cond_false] at h;obtain ⟨hwo,e,he,hek,het,hey⟩:=T0.wl _ _ hw;cases hc:(w.key==d.key&&(!(d.kind==3) || w.sess==d.sess)) with
     | false=>rw[hc] at h;cases h
     | true =>
      rw[hc,cond_true] at h;injection h with h;subst h;rw[Cz,beq_iff_eq] at hc;have hno:BE (CI (Bs view w.past) d.key.toNat d.tag)=true:=LC (Mg hvo hwo) hT;have hjl:=Cp (Mg hvo hwo);have hun:BT view (CI (Bs view w.past) d.key.toNat d.tag)=true:=Hi (by omega) Q0 Qc;refine ⟨⟨by simpa using T0.bl,λv hv'=>?_,λk s hks=>?_,λe' he' hne=>?_⟩,oF,o2,o3,?_⟩
      ·rcases Y4 hv' with hv' | rfl
       ·exact T0.vl v hv'
       ·exact hno
      ·obtain ⟨h1,e',he',h2⟩:=T0.wl k s hks;exact ⟨h1,e',Y8 _ he',h2⟩
      ·simp only;rcases YF.1 he' with he' | he'
       ·obtain ⟨v,t',hv',ht',hl'⟩:=T0.seen e' he' hne;by_cases hss:d.sess.toNat=e'.sess.toNat
        ·rw[<- hss,hv] at hv';injection hv' with hv';subst hv';have hj:e'.key.toNat<(CI (Bs view w.past) d.key.toNat d.tag).length:=by have:=(DB ht').1;rw[Cp hno];omega
         refine ⟨_,_,by rw[<- hss];exact YO hs4,CF hj,?_⟩;exact Oh hl' (under_iff.1 hun _ _ _ ht' (CF hj))
        ·exact ⟨v,t',by rw[YG hss];exact hv',ht',hl'⟩
       ·rw[YZ] at he';subst he';have hj:e'.key.toNat<(Bs view w.past).length:=by omega
        refine ⟨_,C1 ((Bs view w.past)[e'.key.toNat]) e'.tag,YO hs4,?_,Sq⟩;rw[FZ hj,YO hj]
      ·unfold Xx;rw[Ze];refine .inr ?_;rw[List.any_eq_true];refine ⟨e,he,?_⟩;unfold Ib at het;injection het with h1 h2;simp[hek,h1,h2,hey,hc.1]
theorem LD:∀ {l past:List Done}{B:Book},Told past B->(∀ d∈l,A0 d=true)->(Ec B l).2=l.length->KS Vu past l=true/\KS (Up 2) past l=true/\KS (Up 3) past l=true/\KS Xx past l=true
 | [],past,B,_,_,_=>⟨rfl,rfl,rfl,rfl⟩
 | d :: r,past,B,T0,hd,hw=>by
  simp only[Ec] at hw;cases hB:MO B d with
  | none=>rw[hB] at hw;simp at hw
  | some B' =>rw[hB] at hw;simp only[ZC] at hw;obtain ⟨T1,o1,o2,o3,o4⟩:=U0 T0 (hd d (by simp)) hB;obtain ⟨g1,g2,g3,g4⟩:=LD (l:=r) T1 (λe he=>hd e (by simp[he])) (by omega);simp only[KS];rw[o1,o2,o3,o4,g1,g2,g3,g4];exact ⟨rfl,rfl,rfl,rfl⟩
def SL (l:List Done):Bool:=Bp l&&decide ((Ec KQ l).2=l.length)
theorem SK (h:SL l=true):CO l=true/\AA 2 l=true/\AA 3 l=true/\AH l=true:=by unfold SL at h;rw[Cz,decide_eq_true_eq] at h;obtain ⟨g1,g2,g3,g4⟩:=LD Told.new (BD h.1).2 h.2;unfold CO AA AH;rw[Tw,Lr,Lr,Lv,h.1,g1,g2,g3,g4];exact ⟨rfl,rfl,rfl,rfl⟩
section
variable {lo:Nat}{h:Heap}{a:Pq}{c:Nq}{F:List Nat}
theorem Pk (hs:RDones false h [.sl 5 a l.length c] l F) (hn:l.length<=1048576) (hl:lo<=h.length):∃ p h',Ae lo 30 [.sl 5 a l.length c] h=some (.tup [.ptr p,.bool (SL l)],h'):=by
 have hfo:=FP (lo:=lo) hs hn;rw[show (decide (l.length<=80)&&l.all A0)=Bp l from rfl] at hfo;unfold SL;cases hf:Bp l with
 | false =>rw[hf] at hfo;exact ⟨none,h,HL (by rw[hfo,Ac,AC,Au];rfl)⟩
 | true =>
  rw[hf] at hfo;obtain ⟨b,m,h',vs,M,e,_,_⟩:=KI (lo:=lo) hs (BD hf).2 hn hl;refine ⟨some (b,(0,0)),h',HL ?_⟩;rw[hfo,Ac,AC,Ao,e,Ac,Np,Ab,Ru,Ab,Aa,Ai];by_cases h0:(Ec KQ l).2=l.length
  ·rw[h0,Wp,Ao];simp
  ·rw[show ((((Ec KQ l).2:Nat):Int)==((l.length:Nat):Int))=false by simp;omega,Au];simp[h0]
theorem Q8 (hs:RDones false h [.sl 5 a l.length c] l F) (hn:l.length<=1048576):Ae lo 21 [.sl 5 a l.length c] h=some (.bool (SL l),h):=by
 obtain ⟨p,h',e⟩:=Pk (lo:=h.length) hs hn (YH _);refine NV (h':=h') ?_;rw[e,Ac,Np,Ab,Ru,Ab];cases SL l with
 | true=>rw[AC,Ao,Ai]
 | false=>rw[AC,Au,Ai]
end


variable {l:List Done}{b4:Bool}{x:V}
section
variable {lo:Nat}{h:Heap}{a:Pq}{c:Nq}{F:List Nat}
theorem UR {k:Nat} (hs:RDones false h [.sl 5 a l.length c] l F) (hk:k<l.length):∃ o,a=some o/\ld h o.1 (o.2+k) 1 1=some [Iv l[k].kind]:=by obtain ⟨o,row,G,ha,ho,⟨rfl,_⟩,_⟩:=Sli.read hs hk;exact ⟨o,ha,ho 1 1⟩
theorem Sw {i:Nat} (hi:i<l.length):((l.take (i+1)).filter λd=>d.kind != 1)=bif l[i].kind==1 then (l.take i).filter λd=>d.kind != 1 else ((l.take i).filter λd=>d.kind != 1) ++ [l[i]]:=by
 rw[Z0,CF hi,ZU,List.filter_append];cases hp:(l[i].kind==1) with
 | true =>
  have h2:(l[i].kind != 1)=false:=by rw[bne,hp];rfl
  rw[List.filter_cons_of_neg (p:=λd:Done=>d.kind != 1) (by simp[h2])];simp
 | false =>
  have h2:(l[i].kind != 1)=true:=by rw[bne,hp];rfl
  rw[List.filter_cons_of_pos (p:=λd:Done=>d.kind != 1) h2];rfl
theorem VG {i:Nat}:((l.take i).filter λd=>d.kind != 1).length<=i:=YD (zac _ _) (by simp;omega)
theorem Pb {k:Nat} (hf:Bp l=true):JZ (k:Int) l=Lq k l:=by unfold JZ Lq;rw[hf,cond_true]
theorem LZ {k:Nat}:(Lq k l).length<=l.length:=zac _ _
theorem Mu (hfar:¬ Pu l<0):Bp l=true:=by
 cases hf:Bp l with
 | true=>rfl
 | false=>exact absurd (show Pu l<0 by unfold Pu;rw[hf,cond_false];omega) hfar
end
section
variable {h:Heap}{F:List Nat}{a0:Pq}{c0:Nq}{lo:Nat}
theorem M8 {code:List UInt8} (hs:RBytes h [.sl 1 a0 code.length c0] code F) (hF:∀ y∈F,y<lo) (hl:lo<=h.length) (hn:code.length<=1048576) (hcap:∀ k,c0=some k->code.length<=k) :
  ∃ (l:List Done) (a:Pq) (c:Nq) (h':Heap) (E:List Nat),Ae lo 15 [.sl 1 a0 code.length c0] h=some (.sl 5 a l.length c,h')/\RDones false h' [.sl 5 a l.length c] l E/\l.length<=80/\lo<=h'.length:=by
 obtain ⟨b,h1,e1,r1,m1⟩:=HT hs hF hl hn hcap;obtain ⟨l,a,c,h2,E,e2,q2,h80,hb,r2,l2⟩:=HW r1 (by omega) (YD hl m1.le);exact ⟨l,a,c,h2,E,Hg (by rw[e1,Ac,Ru,e2,Ac,Ah]),q2,h80,l2⟩
theorem P9 {code:List UInt8} (hs:RBytes h [.sl 1 a0 code.length c0] code F) (hF:∀ y∈F,y<lo) (hl:lo<=h.length) (hn:code.length<=1048576) (hcap:∀ k,c0=some k->code.length<=k) :
  ∃ (l:List Done) (a:Pq) (c:Nq) (h':Heap) (E:List Nat),Ae lo 12 [.sl 1 a0 code.length c0] h=some (.sl 5 a l.length c,h')/\RDones false h' [.sl 5 a l.length c] l E/\l.length<=80/\lo<=h'.length:=by
 obtain ⟨b,h1,e1,r1,m1⟩:=HT hs hF hl hn hcap;obtain ⟨l,a,c,h2,E,e2,q2,h80,hb,r2,l2⟩:=HW r1 (by omega) (YD hl m1.le);exact ⟨l,a,c,h2,E,Ig (by rw[e1,Ac,Ru,e2,Ac,Ah]),q2,h80,l2⟩
theorem Lj {code:List UInt8} (hs:RBytes h [.sl 1 a0 code.length c0] code F) (hF:∀ y∈F,y<lo) (hl:lo<=h.length) (hn:code.length<=1048576) (hcap:∀ k,c0=some k->code.length<=k) :
  ∃ (l:List Done) (a:Pq) (c:Nq) (h':Heap) (E:List Nat),Ae lo 7 [.sl 1 a0 code.length c0] h=some (.sl 5 a l.length c,h')/\RDones false h' [.sl 5 a l.length c] l E/\l.length<=80/\lo<=h'.length:=by
 obtain ⟨b,h1,e1,r1,m1⟩:=HT hs hF hl hn hcap;obtain ⟨l,a,c,h2,E,e2,q2,h80,hb,r2,l2⟩:=HW r1 (by omega) (YD hl m1.le);exact ⟨l,a,c,h2,E,Ha (by rw[e1,Ac,Ru,e2,Ac,Ah]),q2,h80,l2⟩
theorem Km {code:List UInt8} (hs:RBytes h [.sl 1 a0 code.length c0] code F) (hF:∀ y∈F,y<lo) (hl:lo<=h.length) (hn:code.length<=1048576) (hcap:∀ k,c0=some k->code.length<=k) :
  ∃ (l:List Done) (a:Pq) (c:Nq) (h':Heap) (E:List Nat),Ae lo 18 [.sl 1 a0 code.length c0] h=some (.sl 5 a l.length c,h')/\RDones false h' [.sl 5 a l.length c] l E/\l.length<=80/\lo<=h'.length:=by
 obtain ⟨b,h1,e1,r1,m1⟩:=HT hs hF hl hn hcap;obtain ⟨l,a,c,h2,E,e2,q2,h80,hb,r2,l2⟩:=HW r1 (by omega) (YD hl m1.le);exact ⟨l,a,c,h2,E,GC (by rw[e1,Ac,Ru,e2,Ac,Ah]),q2,h80,l2⟩
end
section
variable {lo:Nat}{h:Heap}{a:Pq}{c:Nq}{F:List Nat}
theorem Si (hs:RDones false h [.sl 5 a l.length c] l F) (hf:Bp l=true) (hl:lo<=h.length):∃ h',Mv h [] h' []/\Aw lo a l.length c b4 true 0 h=Aw lo a l.length c b4 (Bo (AA 2) l 4) (4:Nat) h':=by
 obtain ⟨h80,_⟩:=BD hf;have loop:∀ m k hh,m+k=4->Mv h [] hh []->∃ h',Mv h [] h' []/\Aw lo a l.length c b4 (Bo (AA 2) l k) (k:Nat) hh=Aw lo a l.length c b4 (Bo (AA 2) l 4) (4:Nat) h':=by
  intro m;induction m with
  | zero =>
   intro k hh hk mm;have:k=4:=by omega
   subst this;exact ⟨hh,mm,rfl⟩
  | succ m ih =>
   intro k hh hk mm;cases hE:Bo (AA 2) l k with
   | false =>
    obtain ⟨h',m',e⟩:=ih (k+1) hh (by omega) mm;have hE':Bo (AA 2) l (k+1)=false:=by simp only[Bo,hE,Zh]
    rw[hE'] at e;exact ⟨h',m',by rw[Aw.e,Aj (by omega),Au,As (by omega)];exact e⟩
   | true =>
    obtain ⟨v,x,y,h2,E2,e1,es,q1,m1⟩:=Fm (lo:=lo) (s:=(k:Int)) (mm.keep0 rdones_ok hs) (YD hl mm.le) (by omega);have hg:=Pb (k:=k) hf;have hol:=LZ (l:=l) (k:=k);rw[hg] at q1;have eG:=EJ (lo:=lo) q1 (by omega);obtain ⟨h',m',e⟩:=ih (k+1) h2 (by omega) (mm.trans m1.drop);refine ⟨h',m',?_⟩;rw[Aw.e,Aj (by omega),Ao,e1,Ac,es,hg,eG,Ac,AC,As (by omega)];cases hG:AA 2 (Lq k l) with
    | true =>
     have hE':Bo (AA 2) l (k+1)=true:=by simp only[Bo,hE,hG,YP]
     rw[hE'] at e;rw[Ao];exact e
    | false =>
     have hE':Bo (AA 2) l (k+1)=false:=by simp only[Bo,hG,ZE]
     rw[hE'] at e;rw[Au];exact e
 exact loop 4 0 h (by omega) Mv.nil
theorem Ug (hs:RDones false h [.sl 5 a l.length c] l F) (hf:Bp l=true) (hl:lo<=h.length):∃ h',Aw lo a l.length c (AA 2 l) true 0 h=some (.bool true,h'):=by obtain ⟨h',m',e⟩:=Si (b4:=AA 2 l) hs hf hl;refine ⟨h',?_⟩;rw[e,Aw.e,Ak (by omega),IB lone_back hf,beq_self_eq_true,Ao]
end
theorem JV {h:Heap}{F:List Nat}{a0:Pq}{c0:Nq}{code:List UInt8} (hs:RBytes h [.sl 1 a0 code.length c0] code F) (hF:∀ y∈F,y<h.length) (hcap:∀ k,c0=some k->code.length<=k) :
  ∃ h',Ae h.length 5 [.sl 1 a0 code.length c0] h=some (.bool true,h'):=by
 suffices hk:∃ h',_=some (V.bool true,h') from by obtain ⟨h',e⟩:=hk;exact ⟨h',Ih e⟩
 by_cases hbig:(code.length:Int)>1048576
 ·rw[Aj hbig];exact ⟨h,rfl⟩
 rw[Ak hbig];obtain ⟨l,a,c,h1,E,e1,q1,h80,hl1⟩:=M8 (lo:=h.length) hs hF (YH _) (by omega) hcap;have eS':=KP (lo:=h.length) q1 (by omega);have eI':=EJ (lo:=h.length) q1 (by omega);rw[e1,Ac,Ah,eI',Ac];by_cases hfar:Pu l<0
 ·refine ⟨h1,?_⟩;cases hG:AA 2 l with
  | true=>rw[hG] at eS';rw[AC,Ao,eS',Ac,AC,Ao,By q1 (by omega),Ac,Aa,Aj hfar,eS',Ac,AC,Ao]
  | false=>rw[hG] at eS';rw[AC,Au,eS',Ac,AC,Au,By q1 (by omega),Ac,Aa,Aj hfar,eS',Ac,AC,Au]
 ·obtain ⟨h2,e2⟩:=Ug q1 (Mu hfar) hl1;refine ⟨h2,?_⟩;cases hG:AA 2 l with
  | true=>rw[hG] at eS' e2;rw[AC,Ao,eS',Ac,AC,Ao,By q1 (by omega),Ac,Aa,Ak hfar];exact e2
  | false=>rw[hG] at eS' e2;rw[AC,Au,eS',Ac,AC,Au,By q1 (by omega),Ac,Aa,Ak hfar];exact e2
section
variable {lo:Nat}{h:Heap}{a:Pq}{c:Nq}{F:List Nat}
theorem Vq {a1:Pq}{n1:Nat}{c1:Nq} (hs:RDones false h [.sl 5 a l.length c] l F) (hf:Bp l=true) (hl:lo<=h.length):∃ h',Mv h [] h' []/\AB lo a1 n1 c1 a l.length c b4 true 0 h=AB lo a1 n1 c1 a l.length c b4 (Bo (AA 3) l 4) (4:Nat) h':=by
 obtain ⟨h80,_⟩:=BD hf;have loop:∀ m k hh,m+k=4->Mv h [] hh []->∃ h',Mv h [] h' []/\AB lo a1 n1 c1 a l.length c b4 (Bo (AA 3) l k) (k:Nat) hh=AB lo a1 n1 c1 a l.length c b4 (Bo (AA 3) l 4) (4:Nat) h':=by
  intro m;induction m with
  | zero =>
   intro k hh hk mm;have:k=4:=by omega
   subst this;exact ⟨hh,mm,rfl⟩
  | succ m ih =>
   intro k hh hk mm;cases hE:Bo (AA 3) l k with
   | false =>
    obtain ⟨h',m',e⟩:=ih (k+1) hh (by omega) mm;have hE':Bo (AA 3) l (k+1)=false:=by simp only[Bo,hE,Zh]
    rw[hE'] at e;exact ⟨h',m',by rw[AB.e,Aj (by omega),Au,As (by omega)];exact e⟩
   | true =>
    obtain ⟨v,x,y,h2,E2,e1,es,q1,m1⟩:=Fm (lo:=lo) (s:=(k:Int)) (mm.keep0 rdones_ok hs) (YD hl mm.le) (by omega);have hg:=Pb (k:=k) hf;have hol:=LZ (l:=l) (k:=k);rw[hg] at q1;have eG:=Ez (lo:=lo) q1 (by omega);obtain ⟨h',m',e⟩:=ih (k+1) h2 (by omega) (mm.trans m1.drop);refine ⟨h',m',?_⟩;rw[AB.e,Aj (by omega),Ao,e1,Ac,es,hg,eG,Ac,AC,As (by omega)];cases hG:AA 3 (Lq k l) with
    | true =>
     have hE':Bo (AA 3) l (k+1)=true:=by simp only[Bo,hE,hG,YP]
     rw[hE'] at e;rw[Ao];exact e
    | false =>
     have hE':Bo (AA 3) l (k+1)=false:=by simp only[Bo,hG,ZE]
     rw[hE'] at e;rw[Au];exact e
 exact loop 4 0 h (by omega) Mv.nil
theorem WJ {a1:Pq}{n1:Nat}{c1:Nq} (hs:RDones false h [.sl 5 a l.length c] l F) (hf:Bp l=true) (hl:lo<=h.length) (hn1:n1<=1048576):∃ h',AB lo a1 n1 c1 a l.length c (AA 3 l) true 0 h=some (.bool true,h'):=by
 obtain ⟨h80,_⟩:=BD hf;obtain ⟨h',m',e⟩:=Vq (b4:=AA 3 l) (a1:=a1) (n1:=n1) (c1:=c1) hs hf hl;refine ⟨h',?_⟩;rw[e,AB.e,Ak (by omega),IB lone_back hf,beq_self_eq_true,Ao];cases hG:AA 3 l with
 | false=>rw[Zo];repeat rw[Ao]
 | true =>
  obtain ⟨k,hk⟩:∃ k,k=n1 % (l.length+1):=⟨_,rfl⟩;have hkl:k<=l.length:=by have:=Nat.mod_lt n1 (show 0<l.length+1 by omega);omega
  have htm:((n1:Nat):Int).tmod ((l.length+1:Nat):Int)=(k:Nat):=by rw[hk];exact (Int.ofNat_tmod n1 (l.length+1)).symm
  have q1:=m'.keep0 rdones_ok hs;obtain ⟨E2,q2⟩:=Sli.pre q1 hkl;have eG:=Ez (lo:=lo) q2 (by omega);rw[lone_back.cut l k hG] at eG;rw[Zk];repeat rw[Au]
  rw[As (by omega),GO (by omega),htm,Ky q1 hkl,eG,Ac,AC,Ao];repeat rw[Au]
end
theorem Ma {h:Heap}{F:List Nat}{a0:Pq}{c0:Nq}{a1:Pq}{n1:Nat}{c1:Nq}{code:List UInt8} (hs:RBytes h [.sl 1 a0 code.length c0] code F) (hF:∀ y∈F,y<h.length) (hcap:∀ k,c0=some k->code.length<=k) :
  ∃ h',Ae h.length 4 [.sl 1 a0 code.length c0,.sl 1 a1 n1 c1] h=some (.bool true,h'):=by
 suffices hk:∃ h',_=some (V.bool true,h') from by obtain ⟨h',e⟩:=hk;exact ⟨h',JC e⟩
 by_cases hbig:(code.length:Int)>1048576
 ·rw[Aj hbig];exact ⟨h,rfl⟩
 rw[Ak hbig];by_cases hbig2:(n1:Int)>1048576
 ·rw[Aj hbig2];exact ⟨h,rfl⟩
 rw[Ak hbig2];obtain ⟨l,a,c,h1,E,e1,q1,h80,hl1⟩:=P9 (lo:=h.length) hs hF (YH _) (by omega) hcap;have eS':=Ni (lo:=h.length) q1 (by omega);have eI':=Ez (lo:=h.length) q1 (by omega);rw[e1,Ac,Ah,eI',Ac];by_cases hfar:Pu l<0
 ·refine ⟨h1,?_⟩;cases hG:AA 3 l with
  | true=>rw[hG] at eS';rw[AC,Ao,eS',Ac,AC,Ao,By q1 (by omega),Ac,Aa,Aj hfar,eS',Ac,AC,Ao]
  | false=>rw[hG] at eS';rw[AC,Au,eS',Ac,AC,Au,By q1 (by omega),Ac,Aa,Aj hfar,eS',Ac,AC,Au]
 ·obtain ⟨h2,e2⟩:=WJ (a1:=a1) (n1:=n1) (c1:=c1) q1 (Mu hfar) hl1 (by omega);refine ⟨h2,?_⟩;cases hG:AA 3 l with
  | true=>rw[hG] at eS' e2;rw[AC,Ao,eS',Ac,AC,Ao,By q1 (by omega),Ac,Aa,Ak hfar];exact e2
  | false=>rw[hG] at eS' e2;rw[AC,Au,eS',Ac,AC,Au,By q1 (by omega),Ac,Aa,Ak hfar];exact e2
section
variable {lo:Nat}{h:Heap}{a:Pq}{c:Nq}{F:List Nat}
theorem Rl {a6:Pq}{n6:Nat}{c6:Nq} (hs:RDones false h [.sl 5 a l.length c] l F) (hf:Bp l=true) (hl:lo<=h.length):∃ h',Mv h [] h' []/\Aq lo a l.length c b4 true a6 n6 c6 0 h=Aq lo a l.length c b4 (Bo (AH) l 4) a6 n6 c6 (4:Nat) h':=by
 obtain ⟨h80,_⟩:=BD hf;have loop:∀ m k hh,m+k=4->Mv h [] hh []->∃ h',Mv h [] h' []/\Aq lo a l.length c b4 (Bo (AH) l k) a6 n6 c6 (k:Nat) hh=Aq lo a l.length c b4 (Bo (AH) l 4) a6 n6 c6 (4:Nat) h':=by
  intro m;induction m with
  | zero =>
   intro k hh hk mm;have:k=4:=by omega
   subst this;exact ⟨hh,mm,rfl⟩
  | succ m ih =>
   intro k hh hk mm;cases hE:Bo (AH) l k with
   | false =>
    obtain ⟨h',m',e⟩:=ih (k+1) hh (by omega) mm;have hE':Bo (AH) l (k+1)=false:=by simp only[Bo,hE,Zh]
    rw[hE'] at e;exact ⟨h',m',by rw[Aq.e,Aj (by omega),Au,As (by omega)];exact e⟩
   | true =>
    obtain ⟨v,x,y,h2,E2,e1,es,q1,m1⟩:=Fm (lo:=lo) (s:=(k:Int)) (mm.keep0 rdones_ok hs) (YD hl mm.le) (by omega);have hg:=Pb (k:=k) hf;have hol:=LZ (l:=l) (k:=k);rw[hg] at q1;have eG:=Dm (lo:=lo) q1 (by omega);obtain ⟨h',m',e⟩:=ih (k+1) h2 (by omega) (mm.trans m1.drop);refine ⟨h',m',?_⟩;rw[Aq.e,Aj (by omega),Ao,e1,Ac,es,hg,eG,Ac,AC,As (by omega)];cases hG:AH (Lq k l) with
    | true =>
     have hE':Bo (AH) l (k+1)=true:=by simp only[Bo,hE,hG,YP]
     rw[hE'] at e;rw[Ao];exact e
    | false =>
     have hE':Bo (AH) l (k+1)=false:=by simp only[Bo,hG,ZE]
     rw[hE'] at e;rw[Au];exact e
 exact loop 4 0 h (by omega) Mv.nil
theorem SJ (hs:RDones false h [.sl 5 a l.length c] l F) (hf:Bp l=true) (hl:lo<=h.length):∃ h',Aq lo a l.length c (AH l) true (some (h.length,0)) 0 (some 0) 0 (h ++ [.rows 5 31 false []])=some (.bool true,h'):=by
 obtain ⟨h80,_⟩:=BD hf;have hs0:RDones false (h ++ [.rows 5 31 false []]) [.sl 5 a l.length c] l F:=Mv.snoc.keep0 rdones_ok hs;obtain ⟨h1,m1,e⟩:=Rl (b4:=AH l) (a6:=some (h.length,0)) (n6:=0) (c6:=some 0) (lo:=lo) hs0 hf (by rw[Y6];omega);rw[e,Aq.e,Ak (by omega),IB QU hf];have hs1:=m1.keep0 rdones_ok hs0;have r0:RDones false (h ++ [.rows 5 31 false []]) [.sl 5 (some (h.length,0)) 0 (some 0)] [] [h.length]:=Sli.fresh (YH _);have r1:=m1.keep0 rdones_ok r0;have hbd:=rdones_ok.bd _ _ _ _ hs;have loop:∀ m i a5 c5 hh E,m+i=l.length->RDones false hh [.sl 5 a l.length c] l F->RDones false hh [.sl 5 a5 ((l.take i).filter λd=>d.kind != 1).length c5] ((l.take i).filter λd=>d.kind != 1) E->E.Nodup->(∀ y∈E,h.length<=y)->h.length<=hh.length ->
   ∃ h',AT lo a l.length c (AH l) (AH l) a5 ((l.take i).filter λd=>d.kind != 1).length c5 (i:Nat) hh=some (.bool true,h'):=by
  intro m;induction m with
  | zero =>intro i a5 c5 hh E hi hq hr hnd hE hlh;rw[Zv (by omega)] at hr ⊢;have hle:=zac (λd:Done=>d.kind != 1) l;have eG:=Dm (lo:=lo) hr (by omega);rw[Rk hf] at eG;exact ⟨hh,by rw[AT.e,Ak (by omega),beq_self_eq_true,Ao,eG,Ac,AC,Ao]⟩
  | succ m ih =>
   intro i a5 c5 hh E hi hq hr hnd hE hlh;have hlt:i<l.length:=by omega
   obtain ⟨o,ha,ho⟩:=hq.get hlt;obtain ⟨o',ha',ho'⟩:=UR hq hlt;rw[ha] at ha';injection ha' with ha';subst ha';simp only[Done.cs] at ho;have hft:=Sw hlt;rw[AT.e,Aj (by omega),Ad hlt,ha,Ag,BA,ho',Ag,Ab,Ai,Aa,As (by omega)];cases hp:(l[i].kind==1) with
   | true =>rw[hp,cond_true] at hft;rw[<- hft] at hr ⊢;obtain ⟨h',e2⟩:=ih (i+1) a5 c5 hh E (by omega) hq hr hnd hE hlh;exact ⟨h',by rw[Ao,<- ha];exact e2⟩
   | false =>
    rw[hp,cond_false] at hft;have hle:=VG (l:=l) (i:=i);obtain ⟨a',c',h2,E',p1,p2,p3⟩:=QH (lo:=lo) (x:=l[i]) hr hnd (λy hy=>YD hl (hE y hy)) (YD hl hlh) (by omega);rw[<- hft] at p1 p2;have hq2:=p3.keep rdones_ok hq (λy hy hm=>by have:=hE y hm;have:=hbd y hy;omega);obtain ⟨h',e2⟩:=ih (i+1) a' c' h2 E' (by omega) hq2 p2 p3.nd (λy hy=>by
     rcases p3.sub y hy with g | g
     ·exact hE y g
     ·omega) (YD hlh p3.le)
    simp only[Done.cs] at p1;exact ⟨h',by rw[Au,Ad hlt,Ag,ho,Ag,Ab,Aa,Ab,Aa,Ab,Aa,Ab,Aa,Ab,Aa,Ai,QA,p1,Ah,<- ha];exact e2⟩
 have hl1:h.length<=h1.length:=by have:=m1.le;rw[Y6] at this;omega
 exact loop l.length 0 _ _ h1 [h.length] (by omega) hs1 r1 (by simp) (by simp) hl1
end
theorem Ja {h:Heap}{F:List Nat}{a0:Pq}{c0:Nq}{code:List UInt8} (hs:RBytes h [.sl 1 a0 code.length c0] code F) (hF:∀ y∈F,y<h.length) (hcap:∀ k,c0=some k->code.length<=k) :
  ∃ h',Ae h.length 3 [.sl 1 a0 code.length c0] h=some (.bool true,h'):=by
 suffices hk:∃ h',_=some (V.bool true,h') from by obtain ⟨h',e⟩:=hk;exact ⟨h',HK e⟩
 by_cases hbig:(code.length:Int)>1048576
 ·rw[Aj hbig];exact ⟨h,rfl⟩
 rw[Ak hbig];obtain ⟨l,a,c,h1,E,e1,q1,h80,hl1⟩:=Lj (lo:=h.length) hs hF (YH _) (by omega) hcap;have eS':=JN (lo:=h.length) q1 (by omega);have eI':=Dm (lo:=h.length) q1 (by omega);rw[e1,Ac,Ah,eI',Ac];by_cases hfar:Pu l<0
 ·refine ⟨h1,?_⟩;cases hG:AH l with
  | true=>rw[hG] at eS';rw[AC,Ao,eS',Ac,AC,Ao,By q1 (by omega),Ac,Aa,Aj hfar,eS',Ac,AC,Ao]
  | false=>rw[hG] at eS';rw[AC,Au,eS',Ac,AC,Au,By q1 (by omega),Ac,Aa,Aj hfar,eS',Ac,AC,Au]
 ·obtain ⟨h2,e2⟩:=SJ q1 (Mu hfar) hl1;refine ⟨h2,?_⟩;cases hG:AH l with
  | true=>rw[hG] at eS' e2;rw[AC,Ao,eS',Ac,AC,Ao,By q1 (by omega),Ac,Aa,Ak hfar];exact e2
  | false=>rw[hG] at eS' e2;rw[AC,Au,eS',Ac,AC,Au,By q1 (by omega),Ac,Aa,Ak hfar];exact e2
section
variable {h:Heap}
theorem Pf {F:List Nat}{a0:Pq}{c0:Nq}{code:List UInt8} (hs:RBytes h [.sl 1 a0 code.length c0] code F) (hF:∀ y∈F,y<h.length) (hcap:∀ k,c0=some k->code.length<=k) :
  ∃ h',Ae h.length 6 [.sl 1 a0 code.length c0] h=some (.bool true,h'):=by
 suffices hk:∃ h',_=some (V.bool true,h') from by obtain ⟨h',e⟩:=hk;exact ⟨h',Lc e⟩
 by_cases hbig:(code.length:Int)>1048576
 ·rw[Aj hbig];exact ⟨h,rfl⟩
 rw[Ak hbig];obtain ⟨l,a,c,h1,E,e1,q1,h80,hl1⟩:=Km (lo:=h.length) hs hF (YH _) (by omega) hcap;have eS':=IW (lo:=h.length) q1 (by omega);have eI':=Ji (lo:=h.length) q1 (by omega);have eO':=Q8 (lo:=h.length) q1 (by omega);have eR:=EJ (lo:=h.length) q1 (by omega);have eW:=Ez (lo:=h.length) q1 (by omega);have eF':=Dm (lo:=h.length) q1 (by omega);refine ⟨h1,?_⟩;rw[e1,Ac,Ah,eI',Ac];cases hfit:SL l with
 | true =>obtain ⟨g1,g2,g3,g4⟩:=SK hfit;rw[hfit] at eO';rw[g1] at eS' ⊢;rw[g2] at eR;rw[g3] at eW;rw[g4] at eF';rw[AC,Ao,eS',Ac,AC,Ao,eO',Ac,AC,Ao,eR,Ac,AC,Ao,eW,Ac,AC,Ao,eF',Ac,AC,Ao]
 | false =>
  rw[hfit] at eO';cases hG:CO l with
  | true=>rw[hG] at eS';rw[AC,Ao,eS',Ac,AC,Ao,eO',Ac,AC,Au,eS',Ac,AC,Ao]
  | false=>rw[hG] at eS';rw[AC,Au,eS',Ac,AC,Au,eO',Ac,AC,Au,eS',Ac,AC,Au]
theorem main_FnGuards (hx:ArgV Tryz.prog h 12 22 x):∃ h',Ae h.length 6 [x] h=some (.bool true,h'):=by obtain ⟨a,c,l,F,rfl,h1,h2,h3⟩:=HF (n:=10) hx;exact Pf h1 h2 h3
theorem main_FnGuardReads (hx:ArgV Tryz.prog h 12 22 x):∃ h',Ae h.length 5 [x] h=some (.bool true,h'):=by obtain ⟨a,c,l,F,rfl,h1,h2,h3⟩:=HF (n:=10) hx;exact JV h1 h2 h3
theorem main_FnGuardFollow (hx:ArgV Tryz.prog h 12 22 x):∃ h',Ae h.length 3 [x] h=some (.bool true,h'):=by obtain ⟨a,c,l,F,rfl,h1,h2,h3⟩:=HF (n:=10) hx;exact Ja h1 h2 h3
theorem main_FnGuardOwn {y:V} (hx:ArgV Tryz.prog h 12 22 x) (hy:ArgV Tryz.prog h 12 22 y):∃ h',Ae h.length 4 [x,y] h=some (.bool true,h'):=by obtain ⟨a,c,l,F,rfl,h1,h2,h3⟩:=HF (n:=10) hx;obtain ⟨a',c',l',F',rfl,_,_,_⟩:=HF (n:=10) hy;exact Ma h1 h2 h3
end
end Go.Proofs.YtoocmbhkaghgnaaGreat
