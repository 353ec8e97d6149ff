/- Part 4 of what is shown for the law Go, whatever the input; no condition of its own. -/
import Derived.Test.YtmdgiekbejjjgaaGreatBGo3
set_option linter.unusedVariables false
set_option linter.unusedSimpArgs false
set_option linter.unnecessarySimpa false
set_option maxRecDepth 100000
namespace Go.Proofs.YtmdgiekbejjjgaaGreat
open Go T


variable {v:V}{p:List Tag}{x:Blk}
structure Xo where
 sess:Int
 key:Int
 past:List Tag
structure Book where
 views:List (List Tag)
 wrote:List ((Int×Int)×Xo)
def OJ (t:Tag):Int×Int:=(t.time,t.place)
def Rj (B:Book) (d:Done):Option Book:=match B.views[d.sess.toNat]? with
 | none=>none
 | some view=>match GA (OJ d.tag) B.wrote with
  | some w=>bif d.kind==1 then none else (match view[d.key.toNat]? with
   | none=>none
   | some t=>bif Df d.tag t then none else bif d.tag.time==0&&d.tag.place==0 then some B else
    bif w.key==d.key&&(!(d.kind==3) || w.sess==d.sess) then some ⟨B.views.set d.sess.toNat (DH (BI view w.past) d.key.toNat d.tag),B.wrote⟩ else none)
  | none=>bif d.kind==1 then (bif decide (d.tag.time<=DY view) then none else some ⟨B.views,IM (OJ d.tag) ⟨d.sess,d.key,view⟩ B.wrote⟩) else (match view[d.key.toNat]? with
   | none=>none
   | some t=>bif Df d.tag t then none else bif d.tag.time==0&&d.tag.place==0 then some B else none)
abbrev Cell:=Int×Int×Pq×Nat×Nq
def WP (k:Int×Int):V := .agg [Iv k.1,Iv k.2]
def Xa (u:Cell):V := .agg [Iv u.1,Iv u.2.1,.sl 2 u.2.2.1 u.2.2.2.1 u.2.2.2.2]
theorem Vl (a b:Int×Int):PT (WP a) (WP b)=some (decide (a=b)):=by obtain ⟨a,a'⟩:=a;obtain ⟨b,b'⟩:=b;simp[WP,PT,EE,T9];rw[Bool.eq_iff_iff];simp
def PastIn (h:Heap) (b m:Nat) (v:V) (p:List Tag):Prop:=∃ a c G,v = .sl 2 a p.length c/\p.length=4/\RTags false h [v] p G/\b∉G/\m∉G
structure BookIn (lo:Nat) (h:Heap) (b m:Nat) (B:Book) (vs:List V) (M:List ((Int×Int)×Cell)):Prop where
 hb:h[b]?=some (.rows 5 134 false [vs ++ [.map (some m)]])
 hm:h[m]?=some (.map 131 (IF WP Xa M))
 vl:vs.length=4
 bl:B.views.length=4
 view:∀ (i:Nat) (v:V) (p:List Tag),vs[i]?=some v->B.views[i]?=some p->PastIn h b m v p
 some':∀ (k:Int×Int) (u:Cell),GA k M=some u->∃ s,GA k B.wrote=some s/\s.sess=u.1/\s.key=u.2.1/\PastIn h b m (.sl 2 u.2.2.1 u.2.2.2.1 u.2.2.2.2) s.past
 none':∀ (k:Int×Int),GA k M=none->GA k B.wrote=none
 ne:b≠m
 lob:lo<=b
 lom:lo<=m
section
variable {lo b m:Nat}{h h':Heap}{B:Book}{vs:List V}{M:List ((Int×Int)×Cell)}
theorem PastIn.keep {v:V}{p:List Tag}{P P':List Nat} (hp:PastIn h b m v p) (mv:Mv h P h' P') (hP:∀ y∈P,y=b\/y=m):PastIn h' b m v p:=by obtain ⟨a,c,G,e,hl,r,h1,h2⟩:=hp;exact ⟨a,c,G,e,hl,mv.keep rtags_ok r (λy hy hm=>by rcases hP y hm with rfl | rfl<;>contradiction),h1,h2⟩
theorem PastIn.set {v:V}{p:List Tag}{x:Blk} (hp:PastIn h b m v p):PastIn (h.set b x) b m v p:=by obtain ⟨a,c,G,e,hl,r,h1,h2⟩:=hp;exact ⟨a,c,G,e,hl,rtags_ok.fr _ _ _ _ _ r (λy hy=>XZ (by rintro rfl;exact h1 hy)),h1,h2⟩
theorem PastIn.setM (hp:PastIn h b m v p):PastIn (h.set m x) b m v p:=by obtain ⟨a,c,G,e,hl,r,h1,h2⟩:=hp;exact ⟨a,c,G,e,hl,rtags_ok.fr _ _ _ _ _ r (λy hy=>XZ (by rintro rfl;exact h2 hy)),h1,h2⟩
theorem BookIn.keep (H:BookIn lo h b m B vs M) (mv:Mv h [] h' []):BookIn lo h' b m B vs M:=by
 have hbl:=(Ef H.hb).1;have hml:=(Ef H.hm).1;exact ⟨by rw[mv.fr b hbl (by simp)];exact H.hb,by rw[mv.fr m hml (by simp)];exact H.hm,H.vl,H.bl,λi v p hv hp=>(H.view i v p hv hp).keep mv (by simp),λk u hu=>by
  obtain ⟨s,h1,h2,h3,h4⟩:=H.some' k u hu;exact ⟨s,h1,h2,h3,h4.keep mv (by simp)⟩,H.none',H.ne,H.lob,H.lom⟩
theorem BookIn.put (H:BookIn lo h b m B vs M) {i:Nat} (hi:i<4) (hp:PastIn h b m v p):st lo h b 0 (0+0+i*1) [v]=some (h.set b (.rows 5 134 false [vs.set i v ++ [.map (some m)]]))/\BookIn lo (h.set b (.rows 5 134 false [vs.set i v ++ [.map (some m)]])) b m ⟨B.views.set i p,B.wrote⟩ (vs.set i v) M:=by
 have hbl:=(Ef H.hb).1;have hvl:=H.vl;refine ⟨?_,by simp[hbl],by rw[XZ H.ne];exact H.hm,by simpa using H.vl,by simpa using H.bl,λk w q hw hq=>?_,λk u hu=>?_,H.none',H.ne,H.lob,H.lom⟩
 ·have e:=Eh (lo:=lo) (r:=0) (j:=0+0+i*1) (cs := [v]) (row':=vs.set i v ++ [.map (some m)]) H.hb H.lob rfl (by rw[Ik (by simp;omega),show 0+0+i*1=i by omega,List.set_append_left _ _ (by omega)]);rw[e];rfl
 ·by_cases hk:i=k
  ·subst hk;rw[X9 (by omega)] at hw;rw[X9 (by have:=H.bl;omega)] at hq;injection hw with hw;injection hq with hq;subst hw;subst hq;exact hp.set
  ·rw[XZ hk] at hw hq;exact (H.view k w q hw hq).set
 ·obtain ⟨s,h1,h2,h3,h4⟩:=H.some' k u hu;exact ⟨s,h1,h2,h3,h4.set⟩
theorem BookIn.lay (H:BookIn lo h b m B vs M) {k:Int×Int}{s:Xo}{a:Pq}{n:Nat}{c:Nq} (hp:PastIn h b m (.sl 2 a n c) s.past) :
  BookIn lo (h.set m (.map 131 (IF WP Xa (IM k (s.sess,s.key,a,n,c) M)))) b m ⟨B.views,IM k s B.wrote⟩ vs (IM k (s.sess,s.key,a,n,c) M):=by
 have hml:=(Ef H.hm).1;refine ⟨by rw[XZ (Ne.symm H.ne)];exact H.hb,by simp[hml],H.vl,H.bl,λi v p hv hq=>(H.view i v p hv hq).setM,λq u hu=>?_,λq hu=>?_,H.ne,H.lob,H.lom⟩
 ·rw[Kl] at hu ⊢;by_cases hq:q=k
  ·rw[if_pos hq] at hu ⊢;injection hu with hu;subst hu;exact ⟨s,rfl,rfl,rfl,hp.setM⟩
  ·rw[if_neg hq] at hu ⊢;obtain ⟨s',h1,h2,h3,h4⟩:=H.some' q u hu;exact ⟨s',h1,h2,h3,h4.setM⟩
 ·rw[Kl] at hu ⊢;by_cases hq:q=k
  ·rw[if_pos hq] at hu;cases hu
  ·rw[if_neg hq] at hu ⊢;exact H.none' q hu
theorem RF {P:List Nat} (hb:b∈P) (hP:P.Nodup):Mv h P (h.set b x) P:=⟨by simp,λy _ hy=>XZ (by rintro rfl;exact hy hb),hP,λy hy => .inl hy⟩
theorem M5 (H:BookIn lo h b m B vs M) {d:Done} (hd:Co d=true) (hl:lo<=h.length) :
  ∃ h' vs' M',Ae lo 61 [.ptr (some (b,(0,0))),.agg d.cs] h=some (.bool (Rj B d).isSome,h')/\BookIn lo h' b m ((Rj B d).getD B) vs' M'/\Mv h [b,m] h' [b,m]:=by
 have hne:=H.ne;have hnd : [b,m].Nodup:=by simp[hne]
 have hrefl:Mv h [b,m] h [b,m]:=Mv.refl hnd;suffices hq:∃ h' vs' M',_=some (V.bool (Rj B d).isSome,h')/\BookIn lo h' b m ((Rj B d).getD B) vs' M'/\Mv h [b,m] h' [b,m] from by obtain ⟨h',vs',M',e,hr⟩:=hq;exact ⟨h',vs',M',Li e,hr⟩
 obtain ⟨X,hX⟩:∃ X,Rj B d=X:=⟨_,rfl⟩;rw[hX];unfold Rj at hX;have hd0:=hd;unfold Co at hd;simp only[C3,YB,decide_eq_true_eq,beq_iff_eq,Ag] at hd;obtain ⟨⟨⟨⟨hse,_⟩,hkey⟩,htag⟩,_⟩:=hd;obtain ⟨i,hi⟩:∃ i:Nat,d.sess=(i:Int):=⟨d.sess.toNat,by omega⟩;obtain ⟨z,hz⟩:∃ z:Nat,d.key=(z:Int):=⟨d.key.toNat,by omega⟩;have hi4:i<4:=by omega
 have hvl:=H.vl;have hbl:=H.bl;have hsn:d.sess.toNat=i:=by omega
 have hkn:d.key.toNat=z:=by omega
 have hvi:=CX (show i<vs.length by omega);have hbi:=CX (show i<B.views.length by omega);obtain ⟨a,c,G,hv,hp4,hr,hbG,hmG⟩:=H.view i _ _ hvi hbi;rw[hv] at hr;generalize hvw:B.views[i]'(by omega)=view at *
 rw[hsn,hbi] at hX;simp only[] at hX;have hzv:=CX (show z<view.length by omega);rw[hkn,hzv] at hX;simp only[] at hX;have hld:ld h b 0 (0+0+i*1) 1=some [.sl 2 a view.length c]:=by rw[Dg H.hb rfl];refine Tc ?_;rw[show 0+0+i*1=i by omega,X2 (by omega),hvi,hv]
 have hlm:∀ hh:Heap,hh[b]?=h[b]?->ld hh b 0 (0+4) 1=some [.map (some m)]:=λhh e=>by rw[Dg (by rw[e];exact H.hb) rfl];refine Tc ?_;rw[Yh (by omega)];simp[hvl]
 have hkv:Heap.kv? h m=some (IF WP Xa M):=by unfold Heap.kv?;rw[H.hm]
 have hfind:=N7 (eu:=Xa) Vl (k:=OJ d.tag) (m:=M);obtain ⟨o,ha,ho⟩:=hr.get (show z<view.length by omega);have stay:X=none->∃ h' vs' M',(some (V.bool false,h):Ov)=some (.bool X.isSome,h')/\BookIn lo h' b m (X.getD B) vs' M'/\Mv h [b,m] h' [b,m]:=λe=>by subst e;exact ⟨h,vs,M,rfl,H,hrefl⟩
 have same:X=some B->∃ h' vs' M',(some (V.bool true,h):Ov)=some (.bool X.isSome,h')/\BookIn lo h' b m (X.getD B) vs' M'/\Mv h [b,m] h' [b,m]:=λe=>by subst e;exact ⟨h,vs,M,rfl,H,hrefl⟩
 rw[show WP (OJ d.tag) = .agg [Iv d.tag.time,Iv d.tag.place] from rfl] at hfind;rw[hi,Ad hi4,By,hld,Af,Ab,Ah,Ai,hlm h rfl,Af,Ab,Ai,XE,Af,hkv,Af,hfind,Af];cases hf:GA (OJ d.tag) M with
 | none =>
  have hw:=H.none' _ hf;unfold OJ at hf hw;rw[show OJ d.tag=(d.tag.time,d.tag.place) from rfl,hw] at hX;simp only[] at hX;rw[Option.map_none,XQ];cases hk1:d.kind==(1:Int) with
  | true =>
   rw[hk1,cond_true] at hX;rw[Ax,QK hr (by omega),Ac,Aa];by_cases hlt:d.tag.time<=DY view
   ·rw[decide_eq_true hlt,cond_true] at hX;rw[Am hlt];exact stay hX.symm
   ·rw[decide_eq_false hlt,cond_false] at hX;have hset:=QH (eu:=Xa) Vl (k:=(d.tag.time,d.tag.place)) (u:=((d.sess,d.key,a,view.length,c):Cell)) (m:=M);have hl2:=H.lay (k:=(d.tag.time,d.tag.place)) (s:=⟨d.sess,d.key,view⟩) (a:=a) (n:=view.length) (c:=c) ⟨a,c,G,rfl,hp4,hr,hbG,hmG⟩;simp only[WP,Xa] at hset;rw[hi] at hset hl2;subst hX;refine ⟨_,vs,_,?_,by rw[hi];exact hl2,RF (by simp) hnd⟩;rw[Ao hlt,hlm h rfl,Af,Ab,Ai,XE,Af,hkv,Af,show lo.ble m=true from Gc H.lom,IS,hset,Af];rfl
  | false =>
   rw[hk1,cond_false] at hX;rw[AC,hz,Ad (show z<view.length by omega),ha,Af,By,ho,Af,Ab,Aa,Ab,Aa,Ai,Ho,Ac,A2];unfold Df at hX;cases hlt:Fz d.tag.time d.tag.place (view[z]'(by omega)).time (view[z]'(by omega)).place with
   | true=>rw[hlt,cond_true] at hX;rw[Ax];exact stay hX.symm
   | false =>
    rw[hlt,cond_false] at hX;rw[AC,Bool.and_true];cases hz0:(d.tag.time==0&&d.tag.place==0) with
    | true=>rw[hz0,cond_true] at hX;rw[Ax];exact same hX.symm
    | false=>rw[hz0,cond_false] at hX;rw[AC];exact stay hX.symm
 | some u =>
  obtain ⟨w,hw,hws,hwk,aw,cw,Gw,hwv,hw4,hwr,hbw,hmw⟩:=H.some' _ u hf;obtain ⟨u1,u2,u3,u4,u5⟩:=u;simp only[] at hws hwk hwv hwr;injection hwv with _ e1 e2 e3;subst e1;subst e2;subst e3;unfold OJ at hf hw;rw[show OJ d.tag=(d.tag.time,d.tag.place) from rfl,hw] at hX;simp only[] at hX;rw[Y0,XP];simp only[Xa];rw[AW,Ab,Aa,Ab,Aa,Ab,Ah,Ai];cases hk1:d.kind==(1:Int) with
  | true=>rw[hk1,cond_true] at hX;rw[Ax];exact stay hX.symm
  | false =>
  rw[hk1,cond_false] at hX;rw[AC,hz,Ad (show z<view.length by omega),ha,Af,By,ho,Af,Ab,Aa,Ab,Aa,Ai,Ho,Ac,A2,<- ha];unfold Df at hX;cases hlt:Fz d.tag.time d.tag.place (view[z]'(by omega)).time (view[z]'(by omega)).place with
  | true=>rw[hlt,cond_true] at hX;rw[Ax];exact stay hX.symm
  | false =>
  rw[hlt,cond_false] at hX;rw[AC,Bool.and_true];cases hz0:(d.tag.time==0&&d.tag.place==0) with
  | true=>rw[hz0,cond_true] at hX;rw[Ax];exact same hX.symm
  | false =>
  rw[hz0,cond_false] at hX;rw[AC,<- hwk];rw[hz] at hX;cases hk2:w.key==((z:Nat):Int) with
  | false=>rw[hk2,Y6,cond_false] at hX;rw[AC];exact stay hX.symm
  | true =>
  rw[hk2,Yn] at hX;rw[Ax];obtain ⟨a5,c5,h5,F5,e5,r5,m5⟩:=Mc (lo:=lo) hr hwr hp4 hw4 hl;have hj4:(BI view w.past).length=4:=by unfold BI;rw[Zq];omega
  obtain ⟨a6,c6,h6,F6,e6,r6,m6⟩:=Mb (lo:=lo) (k:=z) (t:=d.tag) r5 (by omega) (XX hl m5.le) (by omega);have hwl:(DH (BI view w.past) z d.tag).length=4:=by rw[NK,hj4]
  have mm:=m5.drop.trans m6.drop;have H6:=H.keep mm;have hF6:=m6.new;have hbl6:b<h5.length:=Yb (Ef H.hb).1 m5.le;have hml6:m<h5.length:=Yb (Ef H.hm).1 m5.le;obtain ⟨e7,H7⟩:=H6.put hi4 (v := .sl 2 a6 (DH (BI view w.past) z d.tag).length c6) ⟨a6,c6,F6,rfl,hwl,r6,λhm=>by have:=hF6 b hm;omega,λhm=>by have:=hF6 m hm;omega⟩;have fin:X=some ⟨B.views.set i (DH (BI view w.past) z d.tag),B.wrote⟩->∃ h' vs' M',(some (V.bool true,h6.set b (.rows 5 134 false [vs.set i (.sl 2 a6 (DH (BI view w.past) z d.tag).length c6) ++ [.map (some m)]])):Ov)=some (.bool X.isSome,h')/\BookIn lo h' b m (X.getD B) vs' M'/\Mv h [b,m] h' [b,m]:=λe=>by
   subst e;refine ⟨_,_,_,rfl,H7,?_⟩;have m1:Mv h [b,m] h6 [b,m]:=mm.aside (F := []) (F' := []) (G := [b,m]) (by simp[hne]) (by
    intro y hy;simp at hy;rcases hy with rfl | rfl
    ·exact (Ef H.hb).1
    ·exact (Ef H.hm).1)
   exact m1.trans (RF (by simp) hnd)
  cases hk3:d.kind==(3:Int) with
  | false =>rw[hk3,Ze,Bool.true_or,cond_true] at hX;rw[AC,e5,Ac,AW,Ab,Ah,Ai,e6,Ac,AW,Ab,Ah,Ai,Ad hi4,e7,Af];exact fin hX.symm
  | true =>
   rw[hk3,Y1,Y3,hi] at hX;rw[Ax,<- hws];cases hws2:w.sess==((i:Nat):Int) with
   | false=>rw[hws2,cond_false] at hX;rw[AC];exact stay hX.symm
   | true =>rw[hws2,cond_true] at hX;rw[Ax,e5,Ac,AW,Ab,Ah,Ai,e6,Ac,AW,Ab,Ah,Ai,Ad hi4,e7,Af];exact fin hX.symm
end


variable {l:List Done}
def RU:Book:=⟨[HB,HB,HB,HB],[]⟩
def GH:Book->List Done->Book×Nat
 | B,[]=>(B,0)
 | B,d :: l=>match Rj B d with
  | none=>(B,0)
  | some B'=>((GH B' l).1,(GH B' l).2+1)
def Fg (l:List Done):Bool:=decide (l.length<=80)&&l.all Co
def T3 (l:List Done):Int:=bif Fg l then ((GH RU l).2:Nat) else -1
section
variable {lo:Nat}{h:Heap}{a:Pq}{c:Nq}{F:List Nat}
theorem Pz {b m:Nat} (hne:b≠m) (hlb:lo<=b) (hlm:lo<=m):∀ (r i:Nat) (hh:Heap) (vs:List V),i+r=4->hh[b]?=some (.rows 5 134 false [vs ++ [.map (some m)]])->vs.length=4->hh[m]?=some (.map 131 [])->(∀ k,k<i->∃ v,vs[k]?=some v/\PastIn hh b m v HB) ->
  ∃ h' vs',BM lo b 0 0 (i:Nat) hh=some (.ptr (some (b,(0,0))),h')/\BookIn lo h' b m RU vs' []/\Mv hh [b,m] h' [b,m]:=by
 have hnd : [b,m].Nodup:=by simp[hne]
 intro r;induction r with
 | zero =>
  intro i hh vs hi hb hv hm hp;refine ⟨hh,vs,by rw[BM.e,Ao (by omega)],⟨hb,hm,hv,rfl,λk v p hk hq=>?_,λk u hu=>(by cases hu),λk _=>rfl,hne,hlb,hlm⟩,Mv.refl hnd⟩;have hk4:=(Ef hk).1;obtain ⟨w,hw,hp⟩:=hp k (by omega);rw[hk] at hw;injection hw with hw;subst hw;have:p=HB:=by have hm:=X8 hq;simp[RU] at hm;exact hm
  subst this;exact hp
 | succ r ih =>
  intro i hh vs hi hb hv hm hp;have hbl:=(Ef hb).1;have hml:=(Ef hm).1;obtain ⟨h1,q,e1,r1,m1⟩:=M8 (lo:=lo) (h:=hh);have hb1:h1[b]?=some (.rows 5 134 false [vs ++ [.map (some m)]]):=by rw[m1.fr b hbl (by simp)];exact hb
  have hm1:h1[m]?=some (.map 131 []):=by rw[m1.fr m hml (by simp)];exact hm
  have hbl1:=(Ef hb1).1;have hq:=m1.new q (by simp);have e2:st lo h1 b 0 (0+0+i*1) [.sl 2 (some (q,0)) 4 (some 4)]=some (h1.set b (.rows 5 134 false [vs.set i (.sl 2 (some (q,0)) 4 (some 4)) ++ [.map (some m)]])):=by rw[Eh (lo:=lo) (r:=0) (j:=0+0+i*1) (row':=vs.set i (.sl 2 (some (q,0)) 4 (some 4)) ++ [.map (some m)]) hb1 hlb rfl (by rw[Ik (by simp;omega),show 0+0+i*1=i by omega,List.set_append_left _ _ (by omega)])];rfl
  obtain ⟨h',vs',e3,H,mm⟩:=ih (i+1) (h1.set b (.rows 5 134 false [vs.set i (.sl 2 (some (q,0)) 4 (some 4)) ++ [.map (some m)]])) (vs.set i (.sl 2 (some (q,0)) 4 (some 4))) (by omega) (by simp[hbl1]) (by simpa using hv) (by rw[XZ hne];exact hm1) (λk hk=>by
   by_cases hki:i=k
   ·subst hki;refine ⟨_,X9 (by omega),PastIn.set ⟨some (q,0),some 4,[q],rfl,rfl,r1,λhx=>?_,λhx=>?_⟩⟩
    ·rw[Yj] at hx;omega
    ·rw[Yj] at hx;omega
   ·obtain ⟨v,h1',h2'⟩:=hp k (by omega);exact ⟨v,by rw[XZ hki];exact h1',(h2'.keep m1 (by simp)).set⟩)
  have m0:Mv hh [b,m] h1 [b,m]:=m1.drop.aside (F := []) (F' := []) (G := [b,m]) (by simp[hne]) (by intro y hy;simp at hy;rcases hy with rfl | rfl<;>assumption);refine ⟨h',vs',?_,H,(m0.trans (RF (by simp) hnd)).trans mm⟩;rw[BM.e,Am (by omega),e1,Ac,AW,Ab,Ah,Ai,Ad (show i<4 by omega),By,e2,Af,Ay (by omega)];exact e3
theorem O6 (hl:lo<=h.length):∃ b m h' vs,Ae lo 60 [] h=some (.ptr (some (b,(0,0))),h')/\BookIn lo h' b m RU vs []/\Mv h [] h' [b,m]:=by
 have m0:Mv h [] (h ++ [.map 131 []]) [h.length]:=Mv.last;have m1:Mv (h ++ [Blk.map 131 []]) [] ((h ++ [.map 131 []]) ++ [.rows 5 134 false [[.sl 0 none 0 (some 0),.sl 0 none 0 (some 0),.sl 0 none 0 (some 0),.sl 0 none 0 (some 0),.map (some h.length)]]]) [h.length+1]:=by have:=Mv.last (h:=h ++ [Blk.map 131 []]) (b := .rows 5 134 false [[.sl 0 none 0 (some 0),.sl 0 none 0 (some 0),.sl 0 none 0 (some 0),.sl 0 none 0 (some 0),.map (some h.length)]]);simpa using this
 obtain ⟨h',vs',e,H,mm⟩:=Pz (lo:=lo) (b:=h.length+1) (m:=h.length) (by omega) (by omega) hl 4 0 ((h ++ [.map 131 []]) ++ [.rows 5 134 false [[.sl 0 none 0 (some 0),.sl 0 none 0 (some 0),.sl 0 none 0 (some 0),.sl 0 none 0 (some 0),.map (some h.length)]]]) [.sl 0 none 0 (some 0),.sl 0 none 0 (some 0),.sl 0 none 0 (some 0),.sl 0 none 0 (some 0)] (by omega) (by simp) rfl (by simp) (λk hk=>by omega);refine ⟨h.length+1,h.length,h',vs',MQ ?_,H,?_⟩
 ·rw[show List.length (h ++ [Blk.map 131 []])=h.length+1 by simp];exact e
 ·have m2:=m0.join m1 (by simp);have m3:Mv h [] ((h ++ [.map 131 []]) ++ [.rows 5 134 false [[.sl 0 none 0 (some 0),.sl 0 none 0 (some 0),.sl 0 none 0 (some 0),.sl 0 none 0 (some 0),.map (some h.length)]]]) [h.length+1,h.length]:=m2.lean (by simp) (by simp);exact m3.trans mm
theorem QL (hs:RDones false h [.sl 5 a l.length c] l F) (hok:∀ d∈l,Co d=true) (hn:l.length<=1048576) (hl:lo<=h.length) :
  ∃ b m h' vs M,Ae lo 30 [.sl 5 a l.length c] h=some (.tup [.ptr (some (b,(0,0))),Iv ((GH RU l).2:Nat)],h')/\BookIn lo h' b m (GH RU l).1 vs M/\Mv h [] h' [b,m]:=by
 obtain ⟨b,m,h1,vs,e1,H,m1⟩:=O6 (lo:=lo) hl;have hs1:=m1.keep0 rdones_ok hs;have hbd:=rdones_ok.bd _ _ _ _ hs;have hdis:∀ y∈F,y ∉ [b,m]:=λy hy hm=>by have:=m1.new y hm;have:=hbd y hy;omega
 have loop:∀ (r i:Nat) (hh:Heap) (B:Book) (vs:List V) (M:List ((Int×Int)×Cell)),i+r=l.length->RDones false hh [.sl 5 a l.length c] l F->BookIn lo hh b m B vs M->lo<=hh.length ->
   ∃ h' vs' M',BH lo a l.length c none 0 (some (b,(0,0))) a l.length c (l.length:Nat) (i:Nat) hh=some (.tup [.ptr (some (b,(0,0))),Iv ((i+(GH B (l.drop i)).2:Nat):Int)],h')/\BookIn lo h' b m (GH B (l.drop i)).1 vs' M'/\Mv hh [b,m] h' [b,m]:=by
  intro r;induction r with
  | zero =>
   intro i hh B vs M hi hs H hl;have:i=l.length:=by omega
   subst this;rw[List.drop_length];exact ⟨hh,vs,M,by rw[BH.e,Ao (by omega)];rfl,H,Mv.refl (by simp[H.ne])⟩
  | succ r ih =>
   intro i hh B vs M hi hs H hl;have hil:i<l.length:=by omega
   obtain ⟨o,ha,ho⟩:=hs.get hil;obtain ⟨h2,vs2,M2,e2,H2,m2⟩:=M5 (d:=l[i]) H (hok _ (X3 hil)) hl;rw[Yi hil];simp only[Done.cs] at ho e2;cases hB:Rj B l[i] with
   | none =>rw[hB] at e2 H2;refine ⟨h2,vs2,M2,?_,by simp only[GH,hB];exact H2,m2⟩;rw[BH.e,Am (by omega),Ad hil,ha,Af,By,ho,Af,Ab,Aa,Ab,Aa,Ab,Aa,Ab,Aa,Ab,Aa,Ai,e2,Ac,A2,Option.isSome_none,AC];simp only[GH,hB,YX]
   | some B' =>rw[hB] at e2 H2;obtain ⟨h3,vs3,M3,e3,H3,m3⟩:=ih (i+1) h2 B' vs2 M2 (by omega) (m2.keep rdones_ok hs hdis) H2 (XX hl m2.le);refine ⟨h3,vs3,M3,?_,by simp only[GH,hB];exact H3,m2.trans m3⟩;rw[BH.e,Am (by omega),Ad hil,ha,Af,By,ho,Af,Ab,Aa,Ab,Aa,Ab,Aa,Ab,Aa,Ab,Aa,Ai,e2,Ac,A2,Option.isSome_some,Ax,Ay (by omega),<- ha,e3];simp only[GH,hB];rw[show i+1+(GH B' (l.drop (i+1))).2=i+((GH B' (l.drop (i+1))).2+1) by omega]
 obtain ⟨h',vs',M',e,H',mm⟩:=loop l.length 0 h1 RU vs [] (by omega) hs1 H (XX hl m1.le);rw[YQ,Yw] at e;rw[YQ] at H';exact ⟨b,m,h',vs',M',NH (by rw[e1,Ac,Xd];exact e),H',m1.trans mm⟩
theorem O7 (hs:RDones false h [.sl 5 a l.length c] l F) (hn:l.length<=1048576):Ae lo 12 [.sl 5 a l.length c] h=some (Iv (T3 l),h):=by
 have hfo:=KP (lo:=h.length) hs hn;suffices hk:∃ h',_=some (Iv (T3 l),h') from by obtain ⟨h',e⟩:=hk;exact MS e
 unfold T3 Fg;rw[hfo,Ac,A2];cases hf:(decide (l.length<=80)&&l.all Co) with
 | false=>rw[AC];exact ⟨h,rfl⟩
 | true =>rw[C3,Ya] at hf;obtain ⟨b,m,h',vs,M,e,_,_⟩:=QL (lo:=h.length) hs (λd hd=>hf.2 d hd) hn (X1 _);rw[Ax,e,Ac,Na,Ab,Xd,Ab,Aa,Ai];exact ⟨h',rfl⟩
end


variable {l:List Done}
section
variable {lo:Nat}{h:Heap}{a:Pq}{c:Nq}{F:List Nat}{b n:Nat}
theorem J7:(l.map λ_=>([]:List Nat)).flatten = []:=by induction l<;>simp_all
theorem LT {ys:List Done} (hs:RDones false h [.sl 5 a l.length c] l F) (hnd:F.Nodup) (hlo:∀ y∈F,lo<=y) (hl:lo<=h.length) (hn:l.length+ys.length<=1000) :
  ∃ a' c' h' F',(∀ {T:Type} (K:V->Heap->Option T),CC lo 32 5 40 (.sl 5 a l.length c) (ys.map Done.cs) h K=K (.sl 5 a' (l++ys).length c') h')/\RDones false h' [.sl 5 a' (l++ys).length c'] (l++ys) F'/\Mv h F h' F':=by
 by_cases he:ys = []
 ·subst he;rw[YW];exact ⟨a,c,h,F,λK=>rfl,hs,Mv.refl hnd⟩
 ·obtain ⟨a',c',h',F',p1,p2,p3,p4,p5,p6⟩:=Sli.push (lo:=lo) (bytes:=40) (e:=32) Pb hs (xs:=ys.map Done.cs) (ys:=ys) (Gs:=ys.map λ_ => []) EAll.flat (by decide) (by omega) hlo hl (by rw[J7];simpa using hnd) (by rw[J7,YW];exact rdones_ok.bd _ _ _ _ hs) he;rw[<- Yp] at p1 p2;refine ⟨a',c',h',F',p1,p2,p3,p4,p6,λy hy=>?_⟩;rcases p5 y hy with g | g
  ·rw[J7,YW] at g;exact .inl g
  ·exact .inr g
theorem TW (r:Rd lo h b n) (hn:n<=200000) (hl:lo<=h.length) :
  ∃ (l:List Done) (a:Pq) (c:Nq) (h':Heap) (F':List Nat),Ae lo 53 [.ptr (some (b,(0,0)))] h=some (.sl 5 a l.length c,h')/\RDones false h' [.sl 5 a l.length c] l F'/\l.length<=80/\b∉F'/\Rd lo h' b (n+3100)/\lo<=h'.length:=by
 have hblt:=r.lt;have q0:RDones false (h ++ [.rows 5 (WQ false) false []]) [.sl 5 (some (h.length,0)) 0 (some 0)] [] [h.length]:=Sli.fresh (X1 _);have r0:Rd lo (h ++ [.rows 5 32 false []]) b n:=r.keep (F := []) (F' := []) Mv.snoc (by simp) (by simp);obtain ⟨w,a1,c1,a2,c2,a3,c3,a4,c4,h1,F1,F2,F3,F4,e1,H1,hg,hsl,r1,m1⟩:=Rn r0 (by omega) (by simp;omega);have h80:=hg.ok.h80;have q1:RDones false h1 [.sl 5 (some (h.length,0)) 0 (some 0)] [] [h.length]:=m1.keep rdones_ok q0 (λy hy hm=>by simp at hy hm;omega);have l1:h.length<h1.length:=by have:=m1.le;simp at this;omega
 obtain ⟨x,y,h2,G,e2,q2,m2⟩:=LT (lo:=lo) (l := []) (ys:=w.hist) q1 (by simp) (by intro y hy;simp at hy;omega) (by omega) (by simp;omega);rw[Yr] at e2 q2;have hG:∀ z∈G,h.length<=z:=λz hz=>by
  rcases m2.sub z hz with g | g
  ·simp at g;omega
  ·omega
 have hbG:b∉G:=λhm=>by have:=hG b hm;omega
 have hGlo:∀ z∈G,lo<=z:=λz hz=>by have:=hG z hz;omega
 have r2:=r1.keep m2 (by simp;omega) (by intro z hz;simp at hz;omega);have l2:lo<=h2.length:=XX (by omega) m2.le;suffices hk:∃ (l:List Done) (a:Pq) (c:Nq) (h':Heap) (F':List Nat),_=some (V.sl 5 a l.length c,h')/\RDones false h' [.sl 5 a l.length c] l F'/\l.length<=80/\b∉F'/\Rd lo h' b (n+3100)/\lo<=h'.length from by obtain ⟨l,a,c,h',F',e,hr⟩:=hk;exact ⟨l,a,c,h',F',MM e,hr⟩
 simp only[World.cs] at e1;rw[e1,Ac,AW,Ab,Ah,Ab,Ah,Ab,Ah,Ab,Ah,Ai,RDones.rowsG H1.r4];rw[show CC lo 32 5 40 (.sl 5 (some (h.length,0)) 0 (some 0)) (w.hist.map Done.cs) h1=CC lo 32 5 40 (.sl 5 (some (h.length,0)) ([]:List Done).length (some 0)) (w.hist.map Done.cs) h1 from rfl,e2,Ah];generalize w.hist=l at *
 by_cases h0:(l.length:Int)>0
 ·rw[Am h0];obtain ⟨u,h3,e3,_,_,r3,m3⟩:=pick r2 (by omega) 3;have q3:=m3.keep rdones_ok q2 (λz hz hm=>by rw[Yj] at hm;exact hbG (hm ▸ hz));rw[e3,Ac,Aa];cases u==(0:Int) with
  | false=>rw[AC];exact ⟨l,x,y,h3,G,rfl,q3,h80,hbG,r3.up (by omega),XX l2 m3.le⟩
  | true =>
  rw[Ax];obtain ⟨k,h4,e4,hk0,hkl,r4,m4⟩:=pick r3 (by omega) (l.length:Int);have hkl:=hkl (by omega);obtain ⟨k,rfl⟩:∃ q:Nat,k=(q:Int):=⟨k.toNat,by omega⟩;have hk:k<l.length:=by omega
  obtain ⟨v,h5,e5,_,_,r5,m5⟩:=pick r4 (by omega) 5;have q5:=(m4.trans m5).keep rdones_ok q3 (λz hz hm=>by rw[Yj] at hm;exact hbG (hm ▸ hz));have l5:=XX l2 (XX m3.le (XX m4.le m5.le));rw[e4,Ac,Aa,e5,Ac,Aa];have one:∀ (h6:Heap) (n6:Nat) (j:Nat) (cs row':List V) (d':Done),Mv h5 [b] h6 [b]->Rd lo h6 b n6->n6<=n+3090->paste l[k].cs j cs=some row'->row'=d'.cs->∃ b' i' h7 F7,x=some (b',i')/\st lo h6 b' (i'+k) j cs=some h7/\RDones false h7 [.sl 5 x l.length y] (l.set k d') F7/\b∉F7/\Rd lo h7 b (n+3100)/\lo<=h7.length:=by
   intro h6 n6 j cs row' d' m6 r6 hn6 hp hd;have q6:=m6.keep rdones_ok q5 (λz hz hm=>by rw[Yj] at hm;exact hbG (hm ▸ hz));obtain ⟨b',i',rs,row,G6,ha,hbF,hbG6,hb,hrow,⟨rfl,rfl⟩,hGF,hGn,_,put⟩:=q6.at (lo:=lo) Cn hk m2.nd hGlo;obtain ⟨h7,F7,e7,q7,m7,_⟩:=put h6 [] j cs row' d' Mv.nil hp ⟨hd,rfl⟩;refine ⟨b',i',h7,F7,ha,e7,q7,λhm=>?_,(r6.keep m7 hbG hGlo).up (by omega),XX l5 (XX m6.le m7.le)⟩;rcases m7.sub b hm with g | g
   ·exact hbG g
   ·have:=r6.lt;omega
  have hset:∀ d':Done,(l.set k d').length=l.length:=λd'=>by simp
  cases v==(0:Int) with
  | true =>obtain ⟨t,h6,e6,r6,m6⟩:=Rh r5 (by omega);obtain ⟨b',i',h7,F7,rfl,e7,q7,hb7,r7,l7⟩:=one h6 _ 3 [Iv t.time,Iv t.place] _ ⟨l[k].sess,l[k].kind,l[k].key,t⟩ m6 r6 (by omega) rfl rfl;simp only[Tag.cs] at e6;rw[Ax,e6,Ac,AW,Ab,Aa,Ab,Aa,Ai,Ad hk,Af,By,e7,Af];exact ⟨l.set k ⟨l[k].sess,l[k].kind,l[k].key,t⟩,_,y,h7,F7,by rw[hset],by rw[hset];exact q7,by rw[hset];exact h80,hb7,r7,l7⟩
  | false =>
  rw[AC];cases v==(1:Int) with
  | true =>obtain ⟨t,h6,e6,_,_,r6,m6⟩:=pick r5 (by omega) 5;obtain ⟨b',i',h7,F7,rfl,e7,q7,hb7,r7,l7⟩:=one h6 _ 1 [Iv t] _ ⟨l[k].sess,t,l[k].key,l[k].tag⟩ m6 r6 (by omega) rfl rfl;rw[Ax,e6,Ac,Aa,Ad hk,Af,By,e7,Af];exact ⟨l.set k ⟨l[k].sess,t,l[k].key,l[k].tag⟩,_,y,h7,F7,by rw[hset],by rw[hset];exact q7,by rw[hset];exact h80,hb7,r7,l7⟩
  | false =>
  rw[AC];cases v==(2:Int) with
  | true =>obtain ⟨t,h6,e6,_,_,r6,m6⟩:=pick r5 (by omega) 5;obtain ⟨b',i',h7,F7,rfl,e7,q7,hb7,r7,l7⟩:=one h6 _ 2 [Iv t] _ ⟨l[k].sess,l[k].kind,t,l[k].tag⟩ m6 r6 (by omega) rfl rfl;rw[Ax,e6,Ac,Aa,Ad hk,Af,By,e7,Af];exact ⟨l.set k ⟨l[k].sess,l[k].kind,t,l[k].tag⟩,_,y,h7,F7,by rw[hset],by rw[hset];exact q7,by rw[hset];exact h80,hb7,r7,l7⟩
  | false =>
  rw[AC];cases v==(3:Int) with
  | true =>obtain ⟨t,h6,e6,_,_,r6,m6⟩:=pick r5 (by omega) 5;obtain ⟨b',i',h7,F7,rfl,e7,q7,hb7,r7,l7⟩:=one h6 _ 0 [Iv t] _ ⟨t,l[k].kind,l[k].key,l[k].tag⟩ m6 r6 (by omega) rfl rfl;rw[Ax,e6,Ac,Aa,Ad hk,Af,By,e7,Af];exact ⟨l.set k ⟨t,l[k].kind,l[k].key,l[k].tag⟩,_,y,h7,F7,by rw[hset],by rw[hset];exact q7,by rw[hset];exact h80,hb7,r7,l7⟩
  | false =>
  rw[AC];obtain ⟨K2,p2,nK2,sK2⟩:=Sli.first q5 (i:=k) (by omega) m2.nd;obtain ⟨Fs,_,_,_,cuts⟩:=Sli.parts q5 m2.nd;obtain ⟨_,rQ,_,eQ,_,kQ⟩:=cuts (k+1) (by omega);have hrQ:rQ=(l.drop (k+1)).map Done.cs:=eQ.of_flat.1;have hlk:(l.take k).length=k:=by rw[YE];omega
  have p2':RDones false h5 [.sl 5 x (l.take k).length y] (l.take k) K2:=by rw[hlk];exact p2
  obtain ⟨a6,c6,h6,F6,e6,q6,m6⟩:=LT (lo:=lo) (ys:=l.drop (k+1)) p2' nK2 (λz hz=>hGlo z (sK2 z hz)) l5 (by rw[YE,YY];omega);rw[hlk] at e6;have hb6:b∉F6:=λhm=>by
   rcases m6.sub b hm with g | g
   ·exact hbG (sK2 b g)
   ·have:=r5.lt;omega
  refine ⟨l.take k++l.drop (k+1),a6,c6,h6,F6,?_,q6,by rw[Yp,YE,YY];omega,hb6,(r5.keep m6 (λhm=>hbG (sK2 b hm)) λz hz=>hGlo z (sK2 z hz)).up (by omega),XX l5 m6.le⟩;rw[Qn q5 (by omega),Ay (by omega),kQ h5 (λ_ _ _=>rfl),hrQ,e6,Ah]
 ·rw[Ao h0];exact ⟨l,x,y,h2,G,rfl,q2,h80,hbG,r2.up (by omega),l2⟩
theorem NJ {a0:Pq}{c0:Nq}{code:List UInt8} (hs:RBytes h [.sl 1 a0 code.length c0] code F) (hF:∀ y∈F,y<lo) (hl:lo<=h.length) (hn:code.length<=1048576) (hcap:∀ k,c0=some k->code.length<=k) :
  ∃ (l:List Done) (s:Int) (a:Pq) (c:Nq) (h':Heap) (E:List Nat),Ae lo 8 [.sl 1 a0 code.length c0] h=some (.tup [.sl 5 a l.length c,Iv s],h')/\RDones false h' [.sl 5 a l.length c] l E/\l.length<=80/\(0<=s/\s<=4)/\lo<=h'.length:=by
 obtain ⟨b,h1,e1,r1,m1⟩:=TF hs hF hl hn hcap;obtain ⟨l,a,c,h2,E,e2,q2,h80,hb,r2,l2⟩:=TW r1 (by omega) (XX hl m1.le);obtain ⟨x,h3,e3,hx,r3,m3⟩:=DQ (e:=3) [0,1,2,3,0,4] (rows := [[Iv 0],[Iv 1],[Iv 2],[Iv 3],[Iv 0],[Iv 4]]) (len:=6) (cc:=some 6) r2 (by omega) rfl rfl (by decide);have hx4:0<=x/\x<=4:=by simp at hx;omega
 refine ⟨l,x,a,c,h3,E,Ic ?_,m3.keep rdones_ok q2 (λy hy hm=>by rw[Yj] at hm;exact hb (hm ▸ hy)),h80,hx4,XX l2 m3.le⟩;have e4:Ae lo 26 [.sl 1 a0 code.length c0] h=some (.tup [.sl 5 a l.length c,Iv x],h3):=IA (by rw[e1,Ac,Xd,e2,Ac,Ah,e3,Ac,Aa]);rw[e4,Ac,Na,Ab,Ah,Ab,Aa,Ai]
end


variable {l:List Done}{R:Type}{K:List (List V)->Option R}
def DL (s:Int) (l:List Done):List Done:=bif Fg l then l.filter (λd=>d.sess==s) else []
section
variable {lo:Nat}{h:Heap}{a:Pq}{c:Nq}{F:List Nat}{s:Int}
theorem Pm {d:Done} (h:Co d=true):(0<=d.sess/\d.sess<=3)/\(1<=d.kind/\d.kind<=3)/\(0<=d.key/\d.key<=3):=by unfold Co Ag at h;simp at h;omega
theorem HS (h:Fg l=true):l.length<=80/\∀ d∈l,Co d=true:=by unfold Fg at h;rw[C3,Ya] at h;exact ⟨by simpa using h.1,h.2⟩
theorem Qj {sz e:Nat}{ro:Bool}{h:Heap}{row:List V}{c:Nq}:Aj sz (h ++ [.rows sz e ro [row]]) (.sl sz (some (h.length,0)) 1 c) K=K [row]:=by simp[Aj,Dv,Ih,A4]
theorem Ud {k:Nat} (hs:RDones false h [.sl 5 a l.length c] l F) (hk:k<l.length):∃ o,a=some o/\ld h o.1 (o.2+k) 0 1=some [Iv l[k].sess]:=by obtain ⟨o,row,G,ha,ho,⟨rfl,_⟩,_⟩:=Sli.read hs hk;exact ⟨o,ha,ho 0 1⟩
theorem P3 (hs:RDones false h [.sl 5 a l.length c] l F) (hn:l.length<=1048576):Ae lo 28 [.sl 5 a l.length c] h=some (.bool (Fg l),h):=by
 have loop:∀ m k b,m+k=l.length->B5 (List.length h) a l.length c b (k:Nat) h=some (.bool ((l.drop k).all Co&&decide (l.length<=80)),h):=by
  intro m;induction m with
  | zero =>
   intro k b hk;rw[B5.e,Ao (by omega),show k=l.length by omega,List.drop_length];by_cases h8:l.length<=80
   ·rw[Am (by omega)];simp[h8]
   ·rw[Ao (by omega)];simp[h8]
  | succ m ih =>
   intro k b hk;have hlt:k<l.length:=by omega
   obtain ⟨o,ha,ho⟩:=hs.get hlt;simp only[Done.cs] at ho;have e:=Tu (lo:=h.length) (h:=h) (d:=l[k]);simp only[Done.cs] at e;rw[B5.e,Am (by omega),Ad hlt,ha,Af,By,ho,Af,Ab,Aa,Ab,Aa,Ab,Aa,Ab,Aa,Ab,Aa,Ai,e,Ac,A2,Yi hlt,List.all_cons,Ay (by omega),<- ha];cases Co l[k] with
   | true=>rw[Ax,ih (k+1) _ (by omega),Yn]
   | false=>rw[AC,Y6,Y6]
 refine Nd (h':=h) ?_;have e:=loop l.length 0 false (by omega);rw[YQ,Bool.and_comm] at e;exact e
theorem Pd {i:Nat}:((l.take i).filter λd=>d.sess==s).length<=i:=XX (Zc _ _) (by simp;omega)
theorem Ka {i:Nat} (hi:i<l.length):((l.take (i+1)).filter λd=>d.sess==s)=bif l[i].sess==s then ((l.take i).filter λd=>d.sess==s) ++ [l[i]] else (l.take i).filter λd=>d.sess==s:=by
 rw[List.take_add_one,CX hi,Option.toList_some,List.filter_append];cases hp:(l[i].sess==s) with
 | true=>simp[hp]
 | false=>simp[hp]
theorem Qr {x:Done}{hh:Heap} (hr:RDones false hh [.sl 5 a l.length c] l F) (hnd:F.Nodup) (hlo:∀ y∈F,lo<=y) (hl:lo<=hh.length) (hn:l.length<=1048576) :
  ∃ a' c' h2 F',(∀ {T:Type} (K:V->Heap->Option T),CC lo 32 5 40 (.sl 5 a l.length c) [x.cs] (hh ++ [.rows 5 32 false [x.cs]]) K=K (.sl 5 a' (l ++ [x]).length c') h2)/\RDones false h2 [.sl 5 a' (l ++ [x]).length c'] (l ++ [x]) F'/\Mv hh F h2 F':=by
 obtain ⟨a',c',h2,F',p1,p2,p3⟩:=Ek (lo:=lo) (bytes:=40) Cn hr (h1:=hh ++ [.rows 5 32 false [x.cs]]) (row:=x.cs) (x:=x) (G := []) ⟨rfl,rfl⟩ Mv.snoc hnd hlo hl (by decide) (by omega);rw[show l.length+1=(l ++ [x]).length by simp] at p1 p2;exact ⟨a',c',h2,F',p1,p2,p3⟩
theorem FW (hs:RDones false h [.sl 5 a l.length c] l F) (hl:lo<=h.length) (hn:l.length<=1048576) :
  ∃ v a' c' h' F',Ae lo 9 [.sl 5 a l.length c,Iv s] h=some (v,h')/\(∀ {T:Type} (K:Pq->Nat->Nq->Option T),eS 5 v K=K a' (DL s l).length c')/\RDones false h' [.sl 5 a' (DL s l).length c'] (DL s l) F'/\Mv h [] h' F':=by
 have hfo:=KP (lo:=lo) hs hn;unfold DL;rw[show (decide (l.length<=80)&&l.all Co)=Fg l from rfl] at hfo;cases hf:Fg l with
 | false =>rw[hf] at hfo;exact ⟨_,none,some 0,h,[],Ha (by rw[hfo,Ac,A2,AC]),λK=>rfl,Sli.nil,Mv.nil⟩
 | true =>
  rw[hf] at hfo;rw[cond_true];have loop:∀ m i a5 c5 hh E,m+i=l.length->RDones false hh [.sl 5 a5 ((l.take i).filter λd=>d.sess==s).length c5] ((l.take i).filter λd=>d.sess==s) E->Mv h [] hh E ->
    ∃ a' c' h' F',A9 lo s a5 ((l.take i).filter λd=>d.sess==s).length c5 a l.length c (l.length:Nat) (i:Nat) hh=some (.sl 5 a' (l.filter λd=>d.sess==s).length c',h')/\RDones false h' [.sl 5 a' (l.filter λd=>d.sess==s).length c'] (l.filter λd=>d.sess==s) F'/\Mv h [] h' F':=by
   intro m;induction m with
   | zero =>intro i a5 c5 hh E hi hr mm;rw[YA (by omega)] at hr ⊢;exact ⟨_,_,hh,E,by rw[A9.e,Ao (by omega),Ji hr],hr.clip,mm⟩
   | succ m ih =>
    intro i a5 c5 hh E hi hr mm;have hlt:i<l.length:=by omega
    obtain ⟨o,ha,ho⟩:=(mm.keep0 rdones_ok hs).get hlt;simp only[Done.cs] at ho;have hft:=Ka (s:=s) hlt;rw[A9.e,Am (by omega),Ad hlt,ha,Af,By,ho,Af,Ab,Aa,Ab,Aa,Ab,Aa,Ab,Aa,Ab,Aa,Ai,Ay (by omega),<- ha];cases hp:(l[i].sess==s) with
    | true =>rw[hp,cond_true] at hft;have hle:=Pd (s:=s) (l:=l) (i:=i);obtain ⟨a',c',h2,E',p1,p2,p3⟩:=Qr (lo:=lo) (x:=l[i]) hr mm.nd (λy hy=>XX hl (mm.new y hy)) (XX hl mm.le) (by omega);rw[<- hft] at p1 p2;obtain ⟨x1,x2,h3,E3,q1,q2,q3⟩:=ih (i+1) a' c' h2 E' (by omega) p2 (mm.trans p3);simp only[Done.cs] at p1;exact ⟨x1,x2,h3,E3,by rw[Ax,Qj,p1,Ah];exact q1,q2,q3⟩
    | false =>rw[hp,cond_false] at hft;rw[<- hft] at hr ⊢;obtain ⟨x1,x2,h3,E3,q1,q2,q3⟩:=ih (i+1) a5 c5 hh E (by omega) hr mm;exact ⟨x1,x2,h3,E3,by rw[AC];exact q1,q2,q3⟩
  obtain ⟨a',c',h',F',q1,q2,q3⟩:=loop l.length 0 (some (h.length,0)) (some l.length) (h ++ [.rows 5 32 false (List.replicate l.length [Iv 0,Iv 0,Iv 0,Iv 0,Iv 0])]) [h.length] (by omega) (Sli.fresh (by simp)) Mv.last;exact ⟨_,a',c',h',F',Ha (by rw[hfo,Ac,A2,Ax,Im (by omega)];exact q1),λK=>Ah _ _ _ _ _,q2,q3⟩
theorem HK (hs:RDones false h [.sl 5 a l.length c] l F) (hl:lo<=h.length) (hn:l.length<=1048576) :
  ∃ v a' c' h' F',Ae lo 11 [.sl 5 a l.length c,Iv s] h=some (v,h')/\(∀ {T:Type} (K:Pq->Nat->Nq->Option T),eS 5 v K=K a' (DL s l).length c')/\RDones false h' [.sl 5 a' (DL s l).length c'] (DL s l) F'/\Mv h [] h' F':=by
 have hfo:=P3 (lo:=lo) hs hn;unfold DL;cases hf:Fg l with
 | false =>rw[hf] at hfo;exact ⟨_,none,some 0,h,[],G9 (by rw[hfo,Ac,A2,AC]),λK=>rfl,Sli.nil,Mv.nil⟩
 | true =>
  rw[hf] at hfo;rw[cond_true];have loop:∀ m i a5 c5 hh E,m+i=l.length->RDones false hh [.sl 5 a5 ((l.take i).filter λd=>d.sess==s).length c5] ((l.take i).filter λd=>d.sess==s) E->Mv h [] hh E ->
    ∃ a' c' h' F',Bu lo a l.length c s a5 ((l.take i).filter λd=>d.sess==s).length c5 (i:Nat) hh=some (.sl 5 a' (l.filter λd=>d.sess==s).length c',h')/\RDones false h' [.sl 5 a' (l.filter λd=>d.sess==s).length c'] (l.filter λd=>d.sess==s) F'/\Mv h [] h' F':=by
   intro m;induction m with
   | zero =>intro i a5 c5 hh E hi hr mm;rw[YA (by omega)] at hr ⊢;exact ⟨_,_,hh,E,by rw[Bu.e,Ao (by omega)],hr,mm⟩
   | succ m ih =>
    intro i a5 c5 hh E hi hr mm;have hlt:i<l.length:=by omega
    obtain ⟨o,ha,ho⟩:=(mm.keep0 rdones_ok hs).get hlt;obtain ⟨o',ha',ho'⟩:=Ud (mm.keep0 rdones_ok hs) hlt;rw[ha] at ha';injection ha' with ha';subst ha';simp only[Done.cs] at ho;have hft:=Ka (s:=s) hlt;rw[Bu.e,Am (by omega),Ad hlt,ha,Af,By,ho',Af,Ab,Ai,Aa,Ay (by omega)];cases hp:(l[i].sess==s) with
    | true =>rw[hp,cond_true] at hft;have hle:=Pd (s:=s) (l:=l) (i:=i);obtain ⟨a',c',h2,E',p1,p2,p3⟩:=Qr (lo:=lo) (x:=l[i]) hr mm.nd (λy hy=>XX hl (mm.new y hy)) (XX hl mm.le) (by omega);rw[<- hft] at p1 p2;obtain ⟨x1,x2,h3,E3,q1,q2,q3⟩:=ih (i+1) a' c' h2 E' (by omega) p2 (mm.trans p3);simp only[Done.cs] at p1;exact ⟨x1,x2,h3,E3,by rw[Ax,Ad hlt,Af,ho,Af,Ab,Aa,Ab,Aa,Ab,Aa,Ab,Aa,Ab,Aa,Ai,Qj,p1,Ah,<- ha];exact q1,q2,q3⟩
    | false =>rw[hp,cond_false] at hft;rw[<- hft] at hr ⊢;obtain ⟨x1,x2,h3,E3,q1,q2,q3⟩:=ih (i+1) a5 c5 hh E (by omega) hr mm;exact ⟨x1,x2,h3,E3,by rw[AC,<- ha];exact q1,q2,q3⟩
  obtain ⟨a',c',h',F',q1,q2,q3⟩:=loop l.length 0 (some (h.length,0)) (some 0) (h ++ [.rows 5 32 false []]) [h.length] (by omega) (Sli.fresh (by simp)) Mv.last;exact ⟨_,a',c',h',F',G9 (by rw[hfo,Ac,A2,Ax,MO q1,Ac,Ah]),λK=>Ah _ _ _ _ _,q2,q3⟩
end


variable {d:Done}{l:List Done}
def IL (l:List Done):Nat->Nat
 | 0=>0
 | k+1=>IL l k+(l.filter λd=>d.sess==(k:Int)).length
theorem Mw {d:Done}{l:List Done}:∀ k,IL (d :: l) k=IL l k+(if 0<=d.sess/\d.sess<k then 1 else 0)
 | 0=>by rw[if_neg (by omega)];rfl
 | k+1=>by
  simp only[IL,Mw k];by_cases h:d.sess=(k:Int)
  ·rw[if_neg (by omega),if_pos (by omega),List.filter_cons_of_pos (by simpa using h),YP];omega
  ·rw[List.filter_cons_of_neg (by simpa using h)];by_cases h2:0<=d.sess/\d.sess<k
   ·rw[if_pos h2,if_pos (by omega)];omega
   ·rw[if_neg h2,if_neg (by omega)];omega
theorem Q7 {l:List Done}:∀ k,IL l k<=k*l.length
 | 0=>by simp[IL]
 | k+1=>by have h1:=Q7 (l:=l) k;have h2:=Zc (λd:Done=>d.sess==(k:Int)) l;simp only[IL];rw[YD];omega
theorem OD:∀ {l:List Done},(∀ d∈l,Co d=true)->IL l 4=l.length
 | [],_=>rfl
 | d :: l,h=>by have hd:=(Pm (h d (by simp))).1;rw[Mw,OD λe he=>h e (by simp[he]),if_pos (by omega)];rfl
theorem Ve {s:Int}{i:Nat} (hi:i<l.length) (hp:(l[i].sess==s)=true):(l.filter λd=>d.sess==s)[((l.take i).filter λd=>d.sess==s).length]?=some l[i]:=by
 have e:l.filter (λd=>d.sess==s)=((l.take i).filter λd=>d.sess==s)++(l[i] ::((l.drop (i+1)).filter λd=>d.sess==s)):=by have e0:l.take i++l.drop i=l:=Yx i l;rw[Yi hi] at e0;rw[<- List.filter_cons_of_pos (p:=λd:Done=>d.sess==s) hp,<- List.filter_append,e0]
 rw[e,Yh (X1 _),Zs];rfl
theorem Ue {e:Done} (h:d=e):((d.sess==e.sess)&&((d.kind==e.kind)&&((d.key==e.key)&&((d.tag.time==e.tag.time)&&((d.tag.place==e.tag.place)&&true)))))=true:=by subst h;simp
theorem Uf {e:Done} (h:¬ d=e):((d.sess==e.sess)&&((d.kind==e.kind)&&((d.key==e.key)&&((d.tag.time==e.tag.time)&&((d.tag.place==e.tag.place)&&true)))))=false:=by rw[Bool.eq_false_iff];intro h0;apply h;obtain ⟨d1,d2,d3,d4,d5⟩:=d;obtain ⟨e1,e2,e3,e4,e5⟩:=e;simpa using h0
section
variable {lo:Nat}{h:Heap}{a a':Pq}{c c':Nq}{F E:List Nat}{s:Int}
theorem UM (hq:RDones false h [.sl 5 a' (l.filter λd=>d.sess==s).length c'] (l.filter λd=>d.sess==s) E) (hl:lo<=h.length) (hf:Fg l=true) :
  ∃ h',(br ((l.length:Int)==(l.length:Int)) (br (((l.filter λd=>d.sess==s).length:Int)==((l.filter λd=>d.sess==s).length:Int)) (Ak (Ae lo 9 [.sl 5 a' (l.filter λd=>d.sess==s).length c',Iv s] h) λv_79 h_80=>eS 5 (v_79) λa_81 n_82 c_83=>Ak (Ae lo 10 [.sl 5 a_81 n_82 c_83,.sl 5 a' (l.filter λd=>d.sess==s).length c'] h_80) λv_84 h_85=>eB v_84 (some (V.bool true,h_85)) (some (V.bool false,h_85))) (some (V.bool false,h))) (some (V.bool false,h)))=some (V.bool true,h'):=by
 obtain ⟨h80,hok⟩:=HS hf;have hle:=Zc (λd:Done=>d.sess==s) l;have hff:Fg (l.filter λd=>d.sess==s)=true:=by unfold Fg;rw[C3,Ya];exact ⟨by simp;omega,λd hd=>hok d (List.mem_filter.1 hd).1⟩
 obtain ⟨v,x,y,h2,E2,e1,es,q1,m1⟩:=FW (lo:=lo) (s:=s) hq hl (by omega);have hg:DL s (l.filter λd=>d.sess==s)=l.filter λd=>d.sess==s:=by unfold DL;rw[hff,cond_true,List.filter_filter];simp
 rw[hg] at q1;refine ⟨h2,?_⟩;rw[Re,Ax,Re,Ax,e1,Ac,es,hg,Sr q1 (m1.keep0 rdones_ok hq) (by omega),Ac,A2,Ax]
theorem TJ (hs:RDones false h [.sl 5 a l.length c] l F) (hq:RDones false h [.sl 5 a' (l.filter λd=>d.sess==s).length c'] (l.filter λd=>d.sess==s) E) (hl:lo<=h.length) (hf:Fg l=true) :
  ∃ h',AK lo a l.length c s a' (l.filter λd=>d.sess==s).length c' (l.length:Nat) 0 0 h=some (.bool true,h'):=by
 obtain ⟨h80,hok⟩:=HS hf;have hle:=Zc (λd:Done=>d.sess==s) l;obtain ⟨h',he⟩:=UM (lo:=lo) hq hl hf;refine ⟨h',?_⟩;have loop:∀ m i,m+i=l.length->AK lo a l.length c s a' (l.filter λd=>d.sess==s).length c' (l.length:Nat) (((l.take i).filter λd=>d.sess==s).length:Nat) (i:Nat) h=some (.bool true,h'):=by
  intro m;induction m with
  | zero =>intro i hi;rw[YA (by omega),AK.e,Ao (by omega)];exact he
  | succ m ih =>
   intro i hi;have hlt:i<l.length:=by omega
   have hft:=Ka (s:=s) hlt;have ih':=ih (i+1) (by omega);rw[hft] at ih';have hfl:=Pd (s:=s) (l:=l) (i:=i);by_cases hx:((l.take i).filter λd=>d.sess==s).length<(l.filter λd=>d.sess==s).length
   ·obtain ⟨o,ha,ho⟩:=hs.get hlt;obtain ⟨o',ha',ho'⟩:=hq.get hx;simp only[Done.cs] at ho ho';rw[AK.e,Am (by omega),Am (by omega),Ad hlt,ha,Af,By,ho,Af,Ab,Aa,Ab,Aa,Ab,Aa,Ab,Aa,Ab,Aa,Ai,Ad hx,ha',Af,By,ho',Af,Ab,Aa,Ab,Aa,Ab,Aa,Ab,Aa,Ab,Aa,Ai,<- ha,<- ha'];cases hp:(l[i].sess==s) with
    | true =>have hg:=Ve hlt hp;rw[CX hx] at hg;injection hg with hg;rw[hp,cond_true,Yp] at ih';rw[Ue hg.symm,Ax,Ay (by omega),Ay (by omega)];exact ih'
    | false =>
     rw[hp,cond_false] at ih';have hne:¬ l[i]=(l.filter λd=>d.sess==s)[((l.take i).filter λd=>d.sess==s).length]:=λh0=>by have h1:=(List.mem_filter.1 (X3 hx)).2;rw[<- h0,hp] at h1;cases h1
     rw[Uf hne,AC,Ay (by omega)];exact ih'
   ·have hall:((l.take i).filter λd=>d.sess==s).length=(l.filter λd=>d.sess==s).length:=by have h1:=(List.take_sublist i l).filter λd:Done=>d.sess==s;have:=h1.length_le;omega
    rw[hall,AK.e,Am (by omega),Ao (by omega)];exact he
 have:=loop l.length 0 (by omega);simpa using this
theorem UL (hs:RDones false h [.sl 5 a l.length c] l F) (hq:RDones false h [.sl 5 a' (l.filter λd=>d.sess==s).length c'] (l.filter λd=>d.sess==s) E) (hl:lo<=h.length) (hf:Fg l=true) :
  ∃ h',AV lo a l.length c s a' (l.filter λd=>d.sess==s).length c' 0 0 h=some (.bool true,h'):=by
 obtain ⟨h80,hok⟩:=HS hf;have loop:∀ m k hh,m+k=4->Mv h [] hh []->∃ h',AV lo a l.length c s a' (l.filter λd=>d.sess==s).length c' (IL l k:Nat) (k:Nat) hh=some (.bool true,h'):=by
  intro m;induction m with
  | zero =>
   intro k hh hk mm;have:k=4:=by omega
   subst this;rw[AV.e,Ao (by omega),OD hok];exact TJ (mm.keep0 rdones_ok hs) (mm.keep0 rdones_ok hq) (XX hl mm.le) hf
  | succ m ih =>
   intro k hh hk mm;obtain ⟨v,x,y,h2,E2,e1,es,q1,m1⟩:=FW (lo:=lo) (s:=(k:Int)) (mm.keep0 rdones_ok hs) (XX hl mm.le) (by omega);have hg:DL (k:Int) l=l.filter λd=>d.sess==(k:Int):=by unfold DL;rw[hf,cond_true]
   obtain ⟨h',e2⟩:=ih (k+1) h2 (by omega) (mm.trans m1.drop);refine ⟨h',?_⟩;have h4:=Q7 (l:=l) k;have h5:=Zc (λd:Done=>d.sess==(k:Int)) l;have h6:k*l.length<=4*80:=Nat.mul_le_mul (by omega) h80;rw[AV.e,Am (by omega),e1,Ac,es,hg,Ay (by omega),wr (by omega) (by omega)];simp only[IL,Int.natCast_add] at e2;exact e2
 obtain ⟨h',e⟩:=loop 4 0 h (by omega) Mv.nil;exact ⟨h',e⟩
theorem KY {h:Heap}{F:List Nat}{a0:Pq}{c0:Nq}{code:List UInt8} (hs:RBytes h [.sl 1 a0 code.length c0] code F) (hF:∀ y∈F,y<h.length) (hcap:∀ k,c0=some k->code.length<=k) :
  ∃ h',Ae h.length 3 [.sl 1 a0 code.length c0] h=some (.bool true,h'):=by
 suffices hk:∃ h',_=some (V.bool true,h') from by obtain ⟨h',e⟩:=hk;exact ⟨h',IZ e⟩
 by_cases hbig:(code.length:Int)>1048576
 ·rw[Am hbig];exact ⟨h,rfl⟩
 rw[Ao hbig];obtain ⟨l,s,a,c,h1,E,e1,q1,h80,hs4,hl1⟩:=NJ (lo:=h.length) hs hF (X1 _) (by omega) hcap;obtain ⟨v2,x2,y2,h2,E2,e2,es2,r2,m2⟩:=FW (lo:=h.length) (s:=s) q1 hl1 (by omega);have hl2:=XX hl1 m2.le;have q2:=m2.keep0 rdones_ok q1;obtain ⟨v3,x3,y3,h3,E3,e3,es3,r3,m3⟩:=HK (lo:=h.length) (s:=s) q2 hl2 (by omega);have hl3:=XX hl2 m3.le;have q3:=m3.keep0 rdones_ok q2;have r23:=m3.keep0 rdones_ok r2;have hgl:(DL s l).length<=80:=by
  unfold DL;cases Fg l with
  | false=>simp
  | true=>exact XX (Zc _ _) h80
 rw[e1,Ac,Na,Ab,Ah,Ab,Aa,Ai,e2,Ac,es2,e3,Ac,es3,Sr r23 r3 (by omega),Ac,A2,Ax,O7 q3 (by omega),Ac,Aa];obtain ⟨v4,x4,y4,h4,E4,e4,es4,r4,m4⟩:=HK (lo:=h.length) (s:=s) q3 hl3 (by omega);by_cases hfar:T3 l<0
 ·rw[Am hfar,e4,Ac,es4,Sr (m4.keep0 rdones_ok r23) r4 (by omega),Ac,A2,Ax];exact ⟨_,rfl⟩
 ·rw[Ao hfar];have hf:Fg l=true:=by
   cases hf:Fg l with
   | true=>rfl
   | false=>exact absurd (show T3 l<0 by unfold T3;rw[hf,cond_false];omega) hfar
  have hg:DL s l=l.filter λd=>d.sess==s:=by unfold DL;rw[hf,cond_true]
  rw[hg] at r23 ⊢;exact UL q3 r23 hl3 hf
theorem main_FnGuardOnly {x:V} (hx:ArgV Tryz.prog h 12 22 x):∃ h',Ae h.length 3 [x] h=some (.bool true,h'):=by obtain ⟨a,c,l,F,rfl,h1,h2,h3⟩:=VH (n:=10) hx;exact KY h1 h2 h3
end
end Go.Proofs.YtmdgiekbejjjgaaGreat
