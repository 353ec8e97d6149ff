/- Part 4 of what is shown for the law Gd, whatever the input; no condition of its own. -/
import Derived.Test.YtmgopagfoemomaaGreatBGd3
set_option linter.unusedVariables false
set_option linter.unusedSimpArgs false
set_option linter.unnecessarySimpa false
set_option maxRecDepth 100000
namespace Go.Proofs.YtmgopagfoemomaaGreat
open Go T


variable {u v:Ver}{l:List Ver}
theorem MY:Bb u v=true<->u.tag.time<v.tag.time\/(u.tag.time=v.tag.time/\u.tag.place<v.tag.place):=by simp[Bb,Ic]
theorem K5:Bb u v=false<->¬ (u.tag.time<v.tag.time\/(u.tag.time=v.tag.time/\u.tag.place<v.tag.place)):=by rw[<- MY,Bool.not_eq_true]
def GO (v:Ver):List Ver->List Ver
 | [] => [v]
 | u :: r=>bif Bb u v then u :: GO v r else v :: u :: r
def Ju (l:List Ver):Prop:=l.Pairwise λp u=>Bb u p=false
theorem Mr {v:Ver}:∀ {l:List Ver},(GO v l).length=l.length+1
 | []=>rfl
 | u :: r=>by
  simp only[GO];cases Bb u v with
  | true=>simp[Mr (l:=r)]
  | false=>simp
theorem insF_mem {v x:Ver}:∀ {l:List Ver},x∈GO v l<->x=v\/x∈l
 | []=>by simp[GO]
 | u :: r=>by
  simp only[GO];cases Bb u v with
  | true =>
   rw[cond_true,zfL,insF_mem (l:=r),zfL];constructor
   ·rintro (h | h | h)
    ·exact .inr (.inl h)
    ·exact .inl h
    ·exact .inr (.inr h)
   ·rintro (h | h | h)
    ·exact .inr (.inl h)
    ·exact .inl h
    ·exact .inr (.inr h)
  | false=>simp
theorem N3 {v:Ver}:∀ {P Q:List Ver},(∀ p∈P,Bb p v=true)->(∀ q∈Q,Bb q v=false)->GO v (P++Q)=P++v :: Q
 | [],[],_,_=>rfl
 | [],q :: Q,_,hq=>by simp only[zf8,GO];rw[hq q (by simp),cond_false]
 | p :: P,Q,hp,hq=>by simp only[zf9,GO];rw[hp p (by simp),cond_true,N3 (λx hx=>hp x (by simp[hx])) hq]
theorem Re {v:Ver}:∀ {l:List Ver},Ju l->Ju (GO v l)
 | [],_=>by simp[GO,Ju]
 | u :: r,h=>by
  unfold Ju at h ⊢;rw[zhi] at h;simp only[GO];cases hl:Bb u v with
  | true =>
   rw[cond_true,zhi];refine ⟨λx hx=>?_,Re (l:=r) h.2⟩;rcases insF_mem.1 hx with rfl | hx
   ·rw[MY] at hl;rw[K5];omega
   ·exact h.1 x hx
  | false =>
   rw[cond_false,zhi,zhi];refine ⟨λx hx=>?_,h⟩;rcases zfL.1 hx with rfl | hx
   ·exact hl
   ·have:=h.1 x hx;rw[K5] at this hl ⊢;omega
def ze8 (u v:Ver):Int:=if (if IR u.tag.time v.tag.time=0 then IR u.tag.place v.tag.place else IR u.tag.time v.tag.time)=0 then IR v.key u.key else (if IR u.tag.time v.tag.time=0 then IR u.tag.place v.tag.place else IR u.tag.time v.tag.time)
theorem N9 {a b:Int}:(IR a b<0<->a<b)/\(IR a b=0<->a=b):=by
 unfold IR;constructor
 ·constructor
  ·intro h;split at h
   ·assumption
   ·split at h<;>omega
  ·intro h;rw[if_pos h];decide
 ·constructor
  ·intro h;split at h
   ·omega
   ·split at h<;>omega
  ·intro h;subst h;simp
theorem Zl (hk:u.key<v.key):decide (ze8 v u<0) = !Bb u v:=by
 rw[zgn,decide_eq_true_eq,zgG,K5];unfold ze8;obtain ⟨t1,t2⟩:=N9 (a:=v.tag.time) (b:=u.tag.time);obtain ⟨p1,p2⟩:=N9 (a:=v.tag.place) (b:=u.tag.place);obtain ⟨k1,k2⟩:=N9 (a:=u.key) (b:=v.key);by_cases ht:IR v.tag.time u.tag.time=0
 ·rw[if_pos ht];by_cases hp:IR v.tag.place u.tag.place=0
  ·rw[if_pos hp];have:=t2.1 ht;have:=p2.1 hp;have:=k1.2 hk;omega
  ·rw[if_neg hp,p1];have:=t2.1 ht;have:¬ v.tag.place=u.tag.place:=λh=>hp (p2.2 h);omega
 ·rw[if_neg ht,if_neg ht,t1];have:¬ v.tag.time=u.tag.time:=λh=>ht (t2.2 h);omega
section
variable {lo:Nat}{h:Heap}{F F' G:List Nat}{a a' av:Pq}{c c' cv:Nq}
theorem zc8:Af lo 301 [.agg (u.cs a c),.agg (v.cs a' c')] h=some (Iv (ze8 u v),h) :=
 Nw (h':=h ++ [.rows 1 3 false [[Iv (if IR u.tag.time v.tag.time=0 then IR u.tag.place v.tag.place else IR u.tag.time v.tag.time)],[Iv (IR v.key u.key)]]]) (by
  simp only[OS,Ad,Aa,Rl,Tu];rfl)
theorem zbz {n j:Nat} (hs:RVers false h [.sl 6 a n c] l F) (hj:j+1<l.length) (hnd:F.Nodup) (hlo:∀ b∈F,lo<=b) :
  ∃ o s1 a1 c1 s2 a2 c2,a=some o/\ld h o.1 (o.2+(j+1)) 0 6=some [Iv l[j+1].key,Iv l[j+1].tag.time,Iv l[j+1].tag.place,s2,.str l[j+1].text,.bool l[j+1].gone]/\(∀ {T:Type} (K:Pq->Nat->Nq->Option T),eS 2 s2 K=K a2 l[j+1].past.length c2) /\
   ld h o.1 (o.2+j) 0 6=some [Iv l[j].key,Iv l[j].tag.time,Iv l[j].tag.place,s1,.str l[j].text,.bool l[j].gone]/\(∀ {T:Type} (K:Pq->Nat->Nq->Option T),eS 2 s1 K=K a1 l[j].past.length c1) /\
   ∃ h1 h2 F',st lo h o.1 (o.2+(j+1)) 0 (l[j].cs a1 c1)=some h1/\st lo h1 o.1 (o.2+j) 0 (l[j+1].cs a2 c2)=some h2/\RVers false h2 [.sl 6 a n c] ((l.set (j+1) l[j]).set j l[j+1]) F'/\Mv h F h2 F':=by
 have hn:=hs.val;subst hn;obtain ⟨R1,x1,y1,e1,g⟩:=hs;injection e1 with e1 _;injection e1 with e0 e2 _ e3;subst e0;subst e2;subst e3;cases a with
 | none=>obtain ⟨rfl,_⟩:=g;simp at hj
 | some p =>
 obtain ⟨b,i⟩:=p;obtain ⟨_,rs,Fs,g1,g2,g3,g4,g5,rfl⟩:=g;have hjl:j<l.length:=by omega
 obtain ⟨row1,F1,r1,f1,el1⟩:=g5.get (EM hjl);obtain ⟨row2,F2,r2,f2,el2⟩:=g5.get (EM hj);rw[zg3 hjl,zf4] at r1;rw[zg3 hj,zf4] at r2;obtain ⟨s1,a1,c1,rfl,es1,hp1⟩:=el1.form;obtain ⟨s2,a2,c2,rfl,es2,hp2⟩:=el2.form;have hlob:=hlo b (by simp);have hblt:b<h.length:=(Ga g1).1;rw[zfN] at hnd;have e4:=B4 (lo:=lo) (cs:=l[j].cs a1 c1) (j:=0) g1 hlob r2 (HH rfl);refine ⟨(b,i),s1,a1,c1,s2,a2,c2,rfl,by rw[B7 g1 r2];rfl,es2,by rw[B7 g1 r1];rfl,es1,h.set b (.rows 6 (J0 false) false (rs.set (i+(j+1)) (l[j].cs a1 c1))),h.set b (.rows 6 (J0 false) false ((rs.set (i+(j+1)) (l[j].cs a1 c1)).set (i+j) (l[j+1].cs a2 c2))),b ::((Fs.set (j+1) F1).set j F2).flatten,e4,?_,?_,?_⟩
 ·have hb1:(h.set b (.rows 6 (J0 false) false (rs.set (i+(j+1)) (l[j].cs a1 c1))))[b]?=some (.rows 6 (J0 false) false (rs.set (i+(j+1)) (l[j].cs a1 c1))):=by simp[hblt]
  have hr1:(rs.set (i+(j+1)) (l[j].cs a1 c1))[i+j]?=some [Iv l[j].key,Iv l[j].tag.time,Iv l[j].tag.place,s1,.str l[j].text,.bool l[j].gone]:=by rw[zfJ (by omega)];exact r1
  rw[B4 (lo:=lo) (cs:=l[j+1].cs a2 c2) (j:=0) hb1 hlob hr1 (HH rfl),zgv]
 ·have hl1:∀ (rs:List (List V)) k (hk:k<l.length) row',((rs.set (i+k) row').drop i).take l.length=((rs.drop i).take l.length).set k row':=λrs k hk row'=>by rw[List.drop_set,if_neg (by omega),show i+k - i=k by omega,List.take_set]
  refine ⟨6,some (b,i),c,by simp,rfl,(rs.set (i+(j+1)) (l[j].cs a1 c1)).set (i+j) (l[j+1].cs a2 c2),(Fs.set (j+1) F1).set j F2,by simp[hblt],by simpa using g2,λq hq=>by simpa using g3 q hq,g4,?_,rfl⟩;rw[zf6,zf6,hl1 _ j hjl,hl1 _ (j+1) hj];have he:EAll (RVer false) h ((((rs.drop i).take l.length).set (j+1) (l[j].cs a1 c1)).set j (l[j+1].cs a2 c2)) ((l.set (j+1) l[j]).set j l[j+1]) ((Fs.set (j+1) F1).set j F2):=(g5.set (k:=j+1) ⟨_,rfl,hp1⟩).set (k:=j) ⟨_,rfl,hp2⟩;refine he.fr rver_ok.fr λy hy=>zfJ λe=>?_;rcases FE hy with q | q
  ·rcases FE q with q | q
   ·exact hnd.1 (e ▸ q)
   ·exact hnd.1 (e ▸ Hn f1 q)
  ·exact hnd.1 (e ▸ Hn f2 q)
 ·have hperm:((Fs.set (j+1) F1).set j F2).Perm Fs:=by
   obtain ⟨hj1,e1⟩:=Ga f1;obtain ⟨hj2,e2⟩:=Ga f2;have hd:Fs=Fs.take j++F1 :: F2 :: Fs.drop (j+2):=by conv=>lhs;rw[<- zgi j Fs,zfT hj1,e1,zfT hj2,e2]
   have hl:(Fs.take j).length=j:=by rw[zf2];omega
   have hsw:(Fs.set (j+1) F1).set j F2=Fs.take j++F2 :: F1 :: Fs.drop (j+2):=by
    conv=>lhs;rw[hd]
    rw[zgQ _ _ (by omega),hl,show j+1 - j=1 by omega,zgQ _ _ (by omega),hl,zhl];rfl
   rw[hsw];conv=>rhs;rw[hd]
   exact List.Perm.append_left _ (List.Perm.swap _ _ _)
  have hpf:=hperm.flatten;refine ⟨by simp,λy hy hF=>?_,?_,λy hy=>?_⟩
  ·rw[zfL,not_or] at hF;exact zfJ (Ne.symm hF.1)
  ·rw[zfN];exact ⟨λhm=>hnd.1 (hpf.mem_iff.1 hm),hpf.nodup_iff.2 hnd.2⟩
  ·rcases zfL.1 hy with rfl | hy
   ·exact .inl (by simp)
   ·exact .inl (by simp[hpf.mem_iff.1 hy])
theorem ZP {n x2:Nat}{x8:Int}:∀ (m:Nat) (P Q R:List Ver) (hh:Heap) (F:List Nat),P.length=m->(∀ u∈P,u.key<v.key)->Ju P->(∀ q∈Q,Bb q v=false)->RVers false hh [.sl 6 a n c] (P++v ::(Q++R)) F->F.Nodup->(∀ b∈F,lo<=b)->lo<=hh.length->n<=1048576 ->
  ∃ h' F',AE lo a n c 0 x2 301 [] x8 (m:Nat) hh=Au lo a n c 0 x2 301 [] (Ap (x8+1)) h'/\RVers false h' [.sl 6 a n c] (GO v (P++Q)++R) F'/\Mv hh F h' F':=by
 intro m;induction m with
 | zero =>intro P Q R hh F hP hkey hso hQ hs hnd hlo hl0 hn;have:P = []:=zfM hP;subst this;rw[AE.e,Ai (by omega)];have e:=N3 (v:=v) (P := []) (Q:=Q) (by simp) hQ;rw[e];exact ⟨hh,F,rfl,by simpa using hs,Mv.refl hnd⟩
 | succ m ih =>
  intro P Q R hh F hP hkey hso hQ hs hnd hlo hl0 hn;have hne:P ≠ []:=λh0=>by rw[h0] at hP;simp at hP
  obtain ⟨P',u,rfl⟩:∃ P' u,P=P' ++ [u]:=⟨P.dropLast,P.getLast hne,(List.dropLast_concat_getLast hne).symm⟩;have hP':P'.length=m:=by simpa using hP
  have hval:=hs.val;have hlen:(P' ++ [u]++v ::(Q++R)).length=m+2+(Q++R).length:=by simp;omega
  obtain ⟨o,s1,a1,c1,s2,a2,c2,ha,hld2,es2,hld1,es1,h1,h2,F2,e4,e5,r6,m6⟩:=zbz (lo:=lo) (j:=m) hs (by rw[hlen];omega) hnd hlo;have hu:(P' ++ [u]++v ::(Q++R))[m]'(by rw[hlen];omega)=u:=by rw[List.getElem_append_left (by simp;omega),zht (by omega)];simp
  have hv:(P' ++ [u]++v ::(Q++R))[m+1]'(by rw[hlen];omega)=v:=by rw[zht (by simp;omega)];simp[hP']
  rw[hu] at hld1 es1 e4 r6;rw[hv] at hld2 es2 e5 r6;have hsw:((P' ++ [u]++v ::(Q++R)).set (m+1) u).set m v=P'++v ::((u :: Q)++R):=by rw[zfS,zgQ _ _ (by omega),hP',show m+1 - m=1 by omega,zgQ _ _ (by omega),hP',zhl];rfl
  rw[hsw] at r6;have hcmp:=zc8 (lo:=lo) (h:=hh) (u:=v) (v:=u) (a:=a2) (c:=c2) (a':=a1) (c':=c1);simp only[Ver.cs] at hcmp e4 e5;have hkuv:=hkey u (by simp);have hmn:m+1<n:=by rw[hval,hlen];omega
  rw[AE.e,Ak (by omega),Ac hmn,ha,Ae,AW,hld2,Ae,Ab,Aa,Ab,Aa,Ab,Aa,Ab,es2,Ab,A4,Ab,AB,Ag,
   show Ap (((m+1:Nat):Int) - 1)=((m:Nat):Int) by rw[wr (by omega) (by omega)];omega,Ac (show m<n by omega),Ae,AW,hld1,Ae,Ab,Aa,Ab,Aa,Ab,Aa,Ab,es1,Ab,A4,Ab,AB,Ag,show ∀ x:List V,Dl x []=x from λx=>by simp[Dl],hcmp,Ad,Aa]
  cases hl:Bb u v with
  | true =>
   have hc:=Zl hkuv;rw[hl] at hc;rw[Ai (of_decide_eq_false hc)];have hso':∀ p∈P' ++ [u],Bb p v=true:=λp hp=>by
    rcases zfF.1 hp with hp | hp
    ·unfold Ju at hso;rw[List.pairwise_append] at hso;have:=hso.2.2 p hp u (by simp);rw[K5] at this;rw[MY] at hl ⊢;omega
    ·rw[zgg] at hp;subst hp;exact hl
   rw[N3 hso' hQ];exact ⟨hh,F,by rw[<- ha],by rw[<- ha];simpa using hs,Mv.refl hnd⟩
  | false =>
   have hc:=Zl hkuv;rw[hl] at hc;obtain ⟨h3,F3,e7,r7,m7⟩:=ih P' (u :: Q) R h2 F2 hP' (λx hx=>hkey x (by simp[hx])) (by unfold Ju at hso ⊢;rw[List.pairwise_append] at hso;exact hso.1) (λq hq=>by
    rcases zfL.1 hq with rfl | hq
    ·exact hl
    ·exact hQ q hq) r6 m6.nd (λb hb=>m6.ge hl0 hlo b hb) (zfE hl0 m6.le) hn
   rw[Ak (of_decide_eq_true hc),Ac (show m<n by omega),Ae,hld1,Ae,Ab,Aa,Ab,Aa,Ab,Aa,Ab,es1,Ab,A4,Ab,AB,Ag,Ac hmn,Ae,hld2,Ae,Ab,Aa,Ab,Aa,Ab,Aa,Ab,es2,Ab,A4,Ab,AB,Ag,
    Ac hmn,Ae,e4,Ae,Ac (show m<n by omega),Ae,e5,Ae,<- ha,e7]
   refine ⟨h3,F3,rfl,?_,m6.trans m7⟩;rw[zfS P' [u] Q];exact r7
theorem Sw {n:Nat}:∀ (R S:List Ver) (hh:Heap) (F:List Nat),Ju S->(∀ u∈S,∀ w∈R,u.key<w.key)->R.Pairwise (λp u=>p.key<u.key)->RVers false hh [.sl 6 a n c] (S++R) F->F.Nodup->(∀ b∈F,lo<=b)->lo<=hh.length->n<=1048576 ->
  ∃ h' F',Au lo a n c 0 (n:Nat) 301 [] (S.length:Nat) hh=some (.tup [],h')/\RVers false h' [.sl 6 a n c] (R.foldl (λacc v=>GO v acc) S) F'/\Mv hh F h' F'
 | [],S,hh,F,_,_,_,hs,hnd,_,_,_=>by have hval:=hs.val;rw[zgc] at hval hs;rw[Au.e,Ai (by omega)];exact ⟨hh,F,rfl,hs,Mv.refl hnd⟩
 | v :: R,S,hh,F,hso,hk,hp,hs,hnd,hlo,hl,hn=>by
  have hval:=hs.val;rw[zfR,zgw] at hval;rw[zhi] at hp;obtain ⟨h1,F1,e1,r1,m1⟩:=ZP (lo:=lo) (v:=v) (n:=n) (x2:=n) (x8:=(S.length:Nat)) S.length S [] R hh F rfl (λu hu=>hk u hu v (by simp)) hso (by simp) hs hnd hlo hl hn;rw[zgc] at r1;obtain ⟨h2,F2,e2,r2,m2⟩:=Sw R (GO v S) h1 F1 (Re hso) (λu hu w hw=>by
   rcases insF_mem.1 hu with rfl | hu
   ·exact hp.1 w hw
   ·exact hk u hu w (by simp[hw])) hp.2 r1 m1.nd (λb hb=>m1.ge hl hlo b hb) (zfE hl m1.le) hn
  rw[Au.e,Ak (by omega),e1,Am (by omega)];rw[Mr] at e2;exact ⟨h2,F2,e2,r2,m1.trans m2⟩
def Mh (l:List Ver):List Ver:=l.foldl (λacc v=>GO v acc) []
theorem S8 (hs:RVers false h [.sl 6 a l.length c] l F) (hk:l.Pairwise λp u=>p.key<u.key) (hnd:F.Nodup) (hlo:∀ b∈F,lo<=b) (hl:lo<=h.length) (hn:l.length<=1048576) :
  ∃ h' F',Af lo 314 [.sl 6 a l.length c,Iv 0,Iv (l.length:Nat),.fn 301 []] h=some (.tup [],h')/\RVers false h' [.sl 6 a l.length c] (Mh l) F'/\Mv h F h' F':=by
 suffices hq:∃ h' F',Au lo a l.length c 0 (l.length:Nat) 301 [] (Ap (0+1)) h=some (V.tup [],h')/\RVers false h' [.sl 6 a l.length c] (Mh l) F'/\Mv h F h' F' from hq.imp λh' hq=>hq.imp λF' hq=>⟨Gy hq.1,hq.2⟩
 rw[show Ap (0+1)=((1:Nat):Int) from Am (k:=0) (by decide)];cases hl0:l with
 | nil =>rw[hl0] at hs;rw[Au.e,Ai (by simp)];exact ⟨h,F,rfl,hs,Mv.refl hnd⟩
 | cons x r =>rw[hl0] at hs hk hn;rw[zhi] at hk;exact Sw (n:=(x :: r).length) r [x] h F (by simp[Ju]) (λu hu w hw=>by rw[zgg] at hu;subst hu;exact hk.1 w hw) hk.2 hs hnd hlo hl hn
end


variable {α:Type}{El:Rel α}{l:List α}
theorem MW {h:Heap}{lo R e n bytes:Nat}{a:Pq}{c:Nq}{ys:List α}{F:List Nat}{xs:List (List V)}{Gs:List (List Nat)} (hfr:El.Fr)
  (hs:Sli false R e El h [.sl R a n c] l F) (hx:EAll El h xs ys Gs) (hb:0<bytes) (hsz:(l.length+ys.length)*bytes<=140737488355328) (hlo:∀ b∈F,lo<=b) (hl:lo<=h.length)
  (hnd:(F++Gs.flatten).Nodup) (hF:∀ b∈F++Gs.flatten,b<h.length) :
  ∃ a' c' h' F',(∀ {R':Type} (K:V->Heap->Option R'),DJ lo e R bytes (.sl R a n c) xs h K=K (.sl R a' (l.length+ys.length) c') h')/\Sli false R e El h' [.sl R a' (l.length+ys.length) c'] (l++ys) F'/\h.length<=h'.length /\
   (∀ b,b<h.length->b∉F->h'[b]?=h[b]?)/\(∀ b∈F',b∈F++Gs.flatten\/(h.length<=b/\b<h'.length))/\F'.Nodup:=by
 cases ys with
 | nil =>have hx0:xs = []:=zfM hx.len.1;have hn:=hs.val;subst hx0;subst hn;rw[zfG] at hnd;exact ⟨a,c,h,F,λK=>rfl,by rw[zgc];exact hs,zfH _,λ_ _ _=>rfl,λb hb => .inl (by simp[hb]),hnd.1⟩
 | cons y ys=>exact Sli.push hfr hs hx hb hsz hlo hl hnd hF (by simp)
theorem Sli.parts {R e:Nat}{h:Heap}{a:Pq}{c:Nq}{F:List Nat} (hs:Sli false R e El h [.sl R a l.length c] l F) (hnd:F.Nodup) :
  ∃ Fs:List (List Nat),Fs.flatten.Nodup/\(∀ y∈Fs.flatten,y∈F)/\(∀ b i,a=some (b,i)->b∈F/\b∉Fs.flatten)/\∀ k,k<=l.length->∃ rP rQ,EAll El h rP (l.take k) (Fs.take k)/\EAll El h rQ (l.drop k) (Fs.drop k) /\
   (∀ {T:Type} (h':Heap),(∀ b i,a=some (b,i)->h'[b]?=h[b]?)->∀ K:List (List V)->Option T,(Az a l.length c none (some (Iv (k:Nat))) none λa n c=>Aw R h' (.sl R a n c) K)=K rP) /\
   (∀ {T:Type} (h':Heap),(∀ b i,a=some (b,i)->h'[b]?=h[b]?)->∀ K:List (List V)->Option T,(Az a l.length c (some (Iv (k:Nat))) none none λa n c=>Aw R h' (.sl R a n c) K)=K rQ):=by
 obtain ⟨R1,a1,c1,e1,g⟩:=hs;injection e1 with e1 _;injection e1 with e0 e2 _ e3;subst e2;subst e3;cases a with
 | none =>
  obtain ⟨rfl,rfl,rfl⟩:=g;refine ⟨[],by simp,by simp,λb i h=>by simp at h,λk hk=>?_⟩;have hk0:k=0:=by simpa using hk
  subst hk0;refine ⟨[],[],trivial,trivial,λh' _ K=>?_,λh' _ K=>?_⟩
  ·unfold Az HD KI Lw;simp only[Aa,zgT];rw[DL ⟨by simp,by simp⟩];simp[Aw]
  ·unfold Az HD KI Lw;simp only[Aa,zgT];rw[DL ⟨by simp,by simp⟩];simp[Aw,NP]
 | some p =>
  obtain ⟨b,i⟩:=p;obtain ⟨_,rs,Fs,g1,g2,g3,_,g5,rfl⟩:=g;rw[zfN] at hnd;have key:∀ {T:Type} (h':Heap),h'[b]?=h[b]?->∀ (K:List (List V)->Option T) (j m:Nat) (c8:Nq),j+m<=rs.length->Aw R h' (.sl R (some (b,j)) m c8) K=K ((rs.drop j).take m):=λh' hb' K j m c8 hj=>by
   simp only[Aw,J7,Dj];cases m with
   | zero=>simp
   | succ m =>
    simp only;rw[show Fl h' b j (m+1)=some ((rs.drop j).take (m+1)) by
     simp only[Fl,Heap.rows?,hb',g1,zf1];rw[Ez hj]]
    rfl
  refine ⟨Fs,hnd.2,λy hy=>zgy _ hy,λb' i' e=>by injection e with e;injection e with e1 e2;subst e1;exact ⟨by simp,hnd.1⟩,λk hk=>?_⟩;have hrP:((rs.drop i).take l.length).take k=(rs.drop i).take k:=by rw[List.take_take,Nat.min_eq_left hk]
  have hrQ:((rs.drop i).take l.length).drop k=(rs.drop (i+k)).take (l.length - k):=by rw[List.drop_take,zg9]
  refine ⟨(rs.drop i).take k,(rs.drop (i+k)).take (l.length - k),by rw[<- hrP];exact g5.take k,by rw[<- hrQ];exact g5.drop k,λh' hh K=>?_,λh' hh K=>?_⟩
  ·unfold Az HD KI Lw;simp only[Aa,zgT,AW];have:=key h' (hh b i rfl) K i k c (by omega);cases c with
   | none=>simp only;rw[DL ⟨by omega,by omega⟩];exact this
   | some N=>simp only;rw[DL ⟨by omega,by have:=(g3 N rfl).1;omega⟩];exact this
  ·unfold Az HD KI Lw;simp only[Aa,zgT,AW];rw[DL ⟨by omega,by omega⟩];cases c with
   | none=>exact key h' (hh b i rfl) K (i+k) (l.length - k) none (by omega)
   | some N =>
    have hN:=(g3 N rfl).1;unfold NP;simp only;cases hb:Nat.beq N k with
    | false=>rw[Ay];exact key h' (hh b i rfl) K (i+k) (l.length - k) _ (by omega)
    | true =>have:=zfP hb;rw[Aq,show l.length - k=0 by omega];simp[Aw,Bf]
def Id (out:List Ver) (x:Ver×Ver):List Ver:=bif Bb x.2 x.1 then GO x.1 out else out
def GK (s t:List Ver):List Ver:=(s.zip t).foldl Id []
theorem WZ {v:Ver}:∀ {l:List Ver}{k:Nat},k<=l.length->(∀ i (hi:i<l.length),i<k->Bb l[i] v=true)->(∀ hk:k<l.length,Bb l[k] v=false)->GO v l=l.take k++v :: l.drop k
 | [],k,hk,_,_=>by simp[GO]
 | u :: r,0,hk,_,h2=>by have:=h2 (by simp);simp only[List.getElem_cons_zero] at this;simp[GO,this]
 | u :: r,k+1,hk,h1,h2=>by have h0:=h1 0 (by simp) (by omega);simp only[List.getElem_cons_zero] at h0;simp only[GO,h0,cond_true,List.take_succ_cons,List.drop_succ_cons,zf9];rw[WZ (l:=r) (k:=k) (by simpa using hk) (λi hi hik=>by have:=h1 (i+1) (by simpa using hi) (by omega);simpa using this) (λhkr=>by have:=h2 (by simpa using hkr);simpa using this)]
section
variable {lo:Nat}{h:Heap}{F F' G:List Nat}{a a' av:Pq}{c c' cv:Nq}
theorem LN (ok:El.Ok) {R e bytes:Nat}{rows:List (List V)}{Fs:List (List Nat)} (hx:EAll El h rows l Fs) (hnd:Fs.flatten.Nodup) (hF:∀ y∈Fs.flatten,y<h.length) (hb:0<bytes) (hsz:l.length*bytes<=140737488355328) (hl:lo<=h.length) :
  ∃ a' c' h' F',(∀ {T:Type} (K:V->Heap->Option T),DJ lo e R bytes (.sl R (some (h.length,0)) 0 (some 0)) rows (h ++ [.rows R e false []]) K=K (.sl R a' l.length c') h')/\Sli false R e El h' [.sl R a' l.length c'] l F'/\h.length<h'.length/\(∀ y,y<h.length->h'[y]?=h[y]?) /\
   (∀ y∈F',y∈Fs.flatten\/(h.length<=y/\y<h'.length))/\F'.Nodup:=by
 have m0:Mv h [] (h ++ [.rows R e false []]) [h.length]:=Mv.last;have hfresh:Sli false R e El (h ++ [.rows R e false []]) [.sl R (some (h.length,0)) 0 (some 0)] [] [h.length]:=Sli.fresh (zfH _);obtain ⟨a',c',h',F',p1,p2,p3,p4,p5,p6⟩:=MW (lo:=lo) (bytes:=bytes) ok.fr hfresh (xs:=rows) (ys:=l) (Gs:=Fs) (hx.fr ok.fr λy hy=>m0.fr y (hF y hy) (by simp)) hb (by simpa using hsz) (by simp;omega) (by simp;omega)
  (by rw[zf9,zf8,zfN];exact ⟨λhm=>by have:=hF _ hm;omega,hnd⟩) (λy hy=>by
   rw[zf9,zf8,zfL] at hy;rcases hy with rfl | hy
   ·simp
   ·have:=hF y hy;simp;omega)
 simp only[zg2,zfY,zf8] at p1 p2;refine ⟨a',c',h',F',p1,p2,by simp at p3;omega,λy hy=>?_,λy hy=>?_,p6⟩
 ·rw[p4 y (by simp;omega) (by simp;omega)];exact m0.fr y hy (by simp)
 ·simp at p3;rcases p5 y hy with g | g
  ·rw[zf9,zf8,zfL] at g;rcases g with rfl | g
   ·exact .inr (by omega)
   ·exact .inl g
  ·simp at g;exact .inr (by omega)
theorem Gh {Fs:List (List Nat)}{k:Nat} (hnd:Fs.flatten.Nodup):(Fs.take k).flatten.Nodup/\(Fs.drop k).flatten.Nodup/\∀ x∈(Fs.take k).flatten,∀ y∈(Fs.drop k).flatten,x≠y:=by rw[<- zgi k Fs,zgf,zfG] at hnd;exact hnd
theorem Yl {s t:List Ver}{a1 a2:Pq}{c1 c2:Nq}{F1 F2:List Nat} (hs:RVers false h [.sl 6 a1 s.length c1] s F1) (ht:RVers false h [.sl 6 a2 t.length c2] t F2) (h4:s.length=4) (h4':t.length=4) (hpn:∀ v∈s,v.past.length<=1048576) (hl:lo<=h.length) :
  ∃ a' c' h' F',Af lo 291 [.agg [.sl 6 a1 s.length c1],.agg [.sl 6 a2 t.length c2]] h=some (.sl 6 a' (GK s t).length c',h')/\RVers false h' [.sl 6 a' (GK s t).length c'] (GK s t) F'/\Mv h [] h' F':=by
 suffices hq:∃ a' c' h' F',_=some (V.sl 6 a' (GK s t).length c',h')/\RVers false h' [.sl 6 a' (GK s t).length c'] (GK s t) F'/\Mv h [] h' F' from by obtain ⟨a',c',h',F',e,hr⟩:=hq;exact ⟨a',c',h',F',UW e,hr⟩
 have hzl:(s.zip t).length=4:=by rw[zhj];omega
 have one:∀ m i,m+i=4->∀ hh ax cx (out:List Ver) Fx,RVers false hh [.sl 6 ax out.length cx] out Fx->Mv h [] hh Fx->out.length<=i->∃ a' c' h' F',
   Cf lo ax out.length cx (i:Nat) a1 s.length c1 a2 t.length c2 hh=some (.sl 6 a' (((s.zip t).drop i).foldl Id out).length c',h')/\RVers false h' [.sl 6 a' (((s.zip t).drop i).foldl Id out).length c'] (((s.zip t).drop i).foldl Id out) F'/\Mv h [] h' F':=by
  intro m;induction m with
  | zero =>intro i hi hh ax cx out Fx hr hm hlen;rw[Cf.e,Ai (by omega),zgt (by omega)];exact ⟨ax,cx,hh,Fx,rfl,hr,hm⟩
  | succ m ih =>
   intro i hi hh ax cx out Fx hr hm hlen;have his:i<s.length:=by omega
   have hit:i<t.length:=by omega
   have hs':=hm.keep0 rvers_ok hs;have ht':=hm.keep0 rvers_ok ht;obtain ⟨o1,s1,b1,d1,H1,ha1,_,_,_,_,_,_,hl1,hl1',es1,hp1,_⟩:=RVers.all hs' his;obtain ⟨o2,s2,b2,d2,H2,ha2,_,_,_,_,_,_,hl2,_,_,_,_⟩:=RVers.all ht' hit;have hzi:i<(s.zip t).length:=by omega
   rw[zfT hzi,zgD,zg8];have hlf:Id out (s[i],t[i])=bif Bb t[i] s[i] then GO s[i] out else out:=rfl;rw[hlf,Cf.e,Ak (by omega),Ac hit,ha2,Ae,AW,hl2,Ae,Ab,Aa,Ab,Aa,Ag,Ac his,ha1,Ae,hl1,Ae,Ab,Aa,Ab,Aa,Ag,B9,Ad,Ar,<- ha1,<- ha2];show ∃ a' c' h' F',br (Bb t[i] s[i]) _ _=_/\_;cases hless:Bb t[i] s[i] with
   | false =>rw[Ay,cond_false,Am (by omega)];exact ih (i+1) (by omega) hh ax cx out Fx hr hm (by omega)
   | true =>
   rw[Aq,cond_true];have put:∀ k,k<=out.length->GO s[i] out=out.take k++s[i] :: out.drop k->∃ a' c' h' F',(Az ax out.length cx none (some (Iv (k:Nat))) none λa_36 n_37 c_38=>Aw 6 (hh ++ [.rows 6 43 false []]) (.sl 6 a_36 n_37 c_38) λx_39=>DJ lo 43 6 72 (.sl 6 (some ((List.length hh),0)) 0 (some 0)) x_39 (hh ++ [.rows 6 43 false []]) λv_40 h_41=>eS 6 (v_40) λa_42 n_43 c_44=>As ((i:Nat):Int) s.length (eO a1 λo_45=>eO (ld h_41 (o_45.1) ((o_45.2)+(((i:Nat):Int).toNat)) 0 6) λo_46=>eC o_46 λv_47 l_48=>eI .i64 v_47 λn_49=>eC l_48 λv_50 l_51=>eI .i64 v_50 λn_52=>eC l_51 λv_53 l_54=>eI .i64 v_53 λn_55=>eC l_54 λv_56 l_57=>eS 2 (v_56) λa_58 n_59 c_60=>eC l_57 λv_61 l_62=>eT v_61 λs_63=>eC l_62 λv_64 l_65=>eBv v_64 λb_66=>eN l_65 (Al (Af lo 187 [.agg [Iv (n_49),Iv (n_52),Iv (n_55),.sl 2 a_58 n_59 c_60,.str (s_63),.bool (b_66)]] h_41) λv_67 h_68=>eA v_67 λc_69=>eC c_69 λv_70 l_71=>eI .i64 v_70 λn_72=>eC l_71 λv_73 l_74=>eI .i64 v_73 λn_75=>eC l_74 λv_76 l_77=>eI .i64 v_76 λn_78=>eC l_77 λv_79 l_80=>eS 2 (v_79) λa_81 n_82 c_83=>eC l_80 λv_84 l_85=>eT v_84 λs_86=>eC l_85 λv_87 l_88=>eBv v_87 λb_89=>eN l_88 (Aw 6 (h_68 ++ [.rows 6 43 false [[Iv (n_72),Iv (n_75),Iv (n_78),.sl 2 a_81 n_82 c_83,.str (s_86),.bool (b_89)]]]) (.sl 6 (some ((List.length h_68),0)) 1 (some 1)) λx_90=>DJ lo 43 6 72 (.sl 6 a_42 n_43 c_44) x_90 (h_68 ++ [.rows 6 43 false [[Iv (n_72),Iv (n_75),Iv (n_78),.sl 2 a_81 n_82 c_83,.str (s_86),.bool (b_89)]]]) λv_91 h_92=>eS 6 (v_91) λa_93 n_94 c_95=>Az ax out.length cx (some (Iv (k:Nat))) none none λa_96 n_97 c_98=>Aw 6 h_92 (.sl 6 a_96 n_97 c_98) λx_99=>DJ lo 43 6 72 (.sl 6 a_93 n_94 c_95) x_99 h_92 λv_100 h_101=>eS 6 (v_100) λa_102 n_103 c_104=>Cf lo a_102 n_103 c_104 (Ap (((i:Nat):Int)+1)) a1 s.length c1 a2 t.length c2 h_101))))=some (V.sl 6 a' (((s.zip t).drop (i+1)).foldl Id (GO s[i] out)).length c',h') /\
     RVers false h' [.sl 6 a' (((s.zip t).drop (i+1)).foldl Id (GO s[i] out)).length c'] (((s.zip t).drop (i+1)).foldl Id (GO s[i] out)) F'/\Mv h [] h' F':=by
    intro k hk hins;have hbx:=rvers_ok.bd _ _ _ _ hr;obtain ⟨Fs,nF,sF,own,cuts⟩:=hr.parts hm.nd;obtain ⟨rP,rQ,eP,eQ,kP,kQ⟩:=cuts k hk;obtain ⟨nP,nQ,dPQ⟩:=Gh (k:=k) nF;have inP:∀ y∈(Fs.take k).flatten,y∈Fs.flatten:=λy hy=>by rw[<- zgi k Fs,zgf];simp[hy]
    have inQ:∀ y∈(Fs.drop k).flatten,y∈Fs.flatten:=λy hy=>by rw[<- zgi k Fs,zgf];simp[hy]
    have hFl:∀ y∈Fs.flatten,y<hh.length:=λy hy=>hbx y (sF y hy);have hlh:lo<=hh.length:=zfE hl hm.le;have htl:(out.take k).length=k:=by rw[zf2];omega
    have hdl:(out.drop k).length=out.length - k:=by rw[zgE]
    obtain ⟨a3,c3,h3,F3,e3,r3,l3,fr3,sub3,nd3⟩:=LN (lo:=lo) (R:=6) (e:=J0 false) (bytes:=72) rver_ok eP nP (λy hy=>hFl y (inP y hy)) (by decide) (by omega) hlh;have m3:Mv hh [] h3 []:=⟨by omega,λy hy _=>fr3 y hy,by simp,by simp⟩;have hs3:=m3.keep0 rvers_ok hs';obtain ⟨o4,s4,b4,d4,H4,ha4,ho4,es4,hp4,_⟩:=hs3.get his;obtain ⟨a5,c5,h5,F5,e5,r5,m5⟩:=DK (lo:=lo) (v:=s[i]) hp4 (by omega) (hpn _ (zfD his));obtain ⟨a6,c6,h6,F6,e6,r6,m6⟩:=Ev (lo:=lo) (bytes:=72) (e:=43) rver_ok r3 (row:=s[i].cs a5 c5) (x:=s[i]) (G:=F5) (h1:=h5 ++ [.rows 6 43 false [s[i].cs a5 c5]])
     ⟨_,rfl,Mv.snoc.keep0 rtags_ok r5⟩ (m5.trans (Mv.snoc' m5.nd)) nd3 (λy hy=>by
      rcases sub3 y hy with g | g
      ·exact hm.ge hl (by simp) y (sF y (inP y g))
      ·omega) (by omega) (by decide) (by omega)
    have hQ3:∀ y∈(Fs.drop k).flatten,y∉F3/\y<h3.length:=λy hy=>by
     have:=hFl y (inQ y hy);refine ⟨λhm3=>?_,by omega⟩;rcases sub3 y hm3 with g | g
     ·exact dPQ y g y hy rfl
     ·omega
    have hQ6:∀ y∈(Fs.drop k).flatten,h6[y]?=hh[y]?:=λy hy=>by rw[m6.fr y (hQ3 y hy).2 (hQ3 y hy).1];exact fr3 y (hFl y (inQ y hy))
    have l6:=m6.le;have F6b:∀ y∈F6,y<h6.length:=rvers_ok.bd _ _ _ _ r6;obtain ⟨a7,c7,h7,F7,e7,r7,l7,fr7,sub7,nd7⟩:=MW (lo:=lo) (bytes:=72) rver_ok.fr r6 (xs:=rQ) (ys:=out.drop k) (Gs:=Fs.drop k) (eQ.fr rver_ok.fr hQ6) (by decide) (by simp only[zfR,htl,hdl,zf0];omega) (λy hy=>m6.ge (by omega) (λy hy=>by
      rcases sub3 y hy with g | g
      ·exact hm.ge hl (by simp) y (sF y (inP y g))
      ·omega) y hy) (by omega) (by
      rw[zfG];refine ⟨m6.nd,nQ,λx hx y hy e=>?_⟩;subst e;rcases m6.sub x hx with g | g
      ·exact (hQ3 x hy).1 g
      ·have:=(hQ3 x hy).2;omega) (λy hy=>by
      rcases zfF.1 hy with hy | hy
      ·exact F6b y hy
      ·have:=(hQ3 y hy).2;omega)
    have hfin:out.take k ++ [s[i]]++out.drop k=GO s[i] out:=by rw[hins,zfS];rfl
    have hflen:(out.take k).length+1+(out.drop k).length=(GO s[i] out).length:=by rw[Mr,htl,hdl];omega
    rw[zfR,zf0,hflen] at e7 r7;rw[hfin] at r7;have m7:Mv h [] h7 F7:=by
     refine ⟨by have:=hm.le;omega,λy hy _=>?_,nd7,λy hy=>?_⟩
     ·have y1:y<hh.length:=zfO hy hm.le;have yF:y∉Fx:=λhmx=>by have:=hm.new y hmx;omega
      have y3:y∉F3:=λhm3=>by
       rcases sub3 y hm3 with g | g
       ·exact yF (sF y (inP y g))
       ·omega
      have y6:y∉F6:=λhm6=>by
       rcases m6.sub y hm6 with g | g
       ·exact y3 g
       ·omega
      rw[fr7 y (by omega) y6,m6.fr y (by omega) y3,fr3 y y1,hm.fr y hy (by simp)]
     ·refine .inr ?_;have hh':=hm.le;rcases sub7 y hy with g | g
      ·rcases zfF.1 g with g | g
       ·rcases m6.sub y g with g | g
        ·rcases sub3 y g with g | g
         ·have:=hm.new y (sF y (inP y g));have:=hFl y (inP y g);omega
         ·omega
        ·omega
       ·have:=hm.new y (sF y (inQ y g));have:=hFl y (inQ y g);omega
      ·omega
    obtain ⟨a8,c8,h8,F8,e8,r8,m8⟩:=ih (i+1) (by omega) h7 a7 c7 (GO s[i] out) F7 r7 m7 (by rw[Mr];omega);refine ⟨a8,c8,h8,F8,?_,r8,m8⟩;have mm0:Mv hh [] (hh ++ [.rows 6 43 false []]) []:=Mv.snoc;have h6x:∀ b i,ax=some (b,i)->h6[b]?=hh[b]?:=λb i e=>by
     obtain ⟨q1,q2⟩:=own b i e;have:=hbx b q1;rw[m6.fr b (by omega) λhm3=>?_,fr3 b this];rcases sub3 b hm3 with g | g
     ·exact q2 (inP b g)
     ·omega
    simp only[Ver.cs] at e6;rw[show J0 false=43 from rfl] at e3;rw[kP _ (λb i e=>mm0.fr b (hbx b (own b i e).1) (by simp)),e3,Ah,Ac his,ha4,Ae,AW,ho4,Ae,Ab,Aa,Ab,Aa,Ab,Aa,Ab,es4,Ab,A4,Ab,AB,Ag];rw[show (V.agg [Iv s[i].key,Iv s[i].tag.time,Iv s[i].tag.place,.sl 2 b4 s[i].past.length d4,.str s[i].text,.bool s[i].gone]) = .agg (s[i].cs b4 d4) from rfl,e5,Ad,AN,Ab,Aa,Ab,Aa,Ab,Aa,Ab,Ah,Ab,A4,Ab,AB,Ag,A2,e6,Ah,kQ _ h6x,e7,Ah,Am (by omega),<- ha4];exact e8
   have two:∀ m k,m+k=out.length->(∀ j (hj:j<out.length),j<k->Bb out[j] s[i]=true)->∃ a' c' h' F',D1 lo ax out.length cx (i:Nat) (k:Nat) a1 s.length c1 a2 t.length c2 hh=some (V.sl 6 a' (((s.zip t).drop (i+1)).foldl Id (GO s[i] out)).length c',h') /\
     RVers false h' [.sl 6 a' (((s.zip t).drop (i+1)).foldl Id (GO s[i] out)).length c'] (((s.zip t).drop (i+1)).foldl Id (GO s[i] out)) F'/\Mv h [] h' F':=by
    intro m;induction m with
    | zero =>intro k hk hall;rw[D1.e,Ai (by omega)];exact put k (by omega) (WZ (by omega) hall (λh=>by omega))
    | succ m ih2 =>
     intro k hk hall;have hkl:k<out.length:=by omega
     obtain ⟨o3,s3,b3,d3,H3,ha3,_,_,_,_,_,_,hl3,_,_,_,_⟩:=RVers.all hr hkl;rw[D1.e,Ak (by omega),Ac hkl,ha3,Ae,AW,hl3,Ae,Ab,Aa,Ab,Aa,Ag,Ac his,ha1,Ae,AW,hl1,Ae,Ab,Aa,Ab,Aa,Ag,B9,Ad,Ar,<- ha1,<- ha3];show ∃ a' c' h' F',br (Bb out[k] s[i]) _ _=_/\_;cases hlk:Bb out[k] s[i] with
     | true =>
      rw[Aq,Am (by omega)];exact ih2 (k+1) (by omega) (λj hj hjk=>by
       by_cases e:j=k
       ·subst e;exact hlk
       ·exact hall j hj (by omega))
     | false =>rw[Ay];exact put k (by omega) (WZ (by omega) hall (λ_=>hlk))
   exact two out.length 0 (by omega) (λj _ hj=>by omega)
 have m0:Mv h [] (h ++ [.rows 6 43 false []]) [h.length]:=Mv.last;obtain ⟨a',c',h',F',e,r,m⟩:=one 4 0 (by omega) (h ++ [.rows 6 43 false []]) (some (h.length,0)) (some 0) [] [h.length] (Sli.fresh (zfH _)) m0 (by simp);rw[zgF] at e r;exact ⟨a',c',h',F',e,r,m⟩
end


variable {l:List Node}{w:List Ver}
def Cx (l:List Node) (k:Nat) (w:List Ver):List Node:=match l[k]? with
 | some x=>l.set k ⟨x.store,w⟩
 | none=>l
def HW (l:List Node) (k:Nat):List Ver:=match l[k]? with
 | some x=>x.store
 | none => []
def DN (l:List Node) (k:Nat):List Node :=
 bif decide (0<k) then (bif decide (k<(l.eraseIdx k).length) then Cx (l.eraseIdx k) (k - 1) (GK (HW (l.eraseIdx k) (k - 1)) (HW (l.eraseIdx k) k)) else Cx (l.eraseIdx k) (k - 1) []) else l.eraseIdx k
theorem Hj {k:Nat} (hk:k<l.length):Cx l k w=l.set k ⟨l[k].store,w⟩:=by unfold Cx;rw[EM hk]
theorem EO {k:Nat} (hk:k<l.length):HW l k=l[k].store:=by unfold HW;rw[EM hk]
theorem CT {k:Nat}:(Cx l k w).length=l.length:=by unfold Cx;split<;>simp
theorem QI {k:Nat} (hk:k<l.length) (hw:l[k].wait = []):Cx l k []=l:=by
 rw[Hj hk];have:(⟨l[k].store,[]⟩:Node)=l[k]:=by
  cases hx:l[k] with
  | mk s w=>rw[hx] at hw;simp only at hw;rw[hw]
 rw[this];exact zgY hk
section
variable {lo:Nat}{h:Heap}{F F' G:List Nat}{a a' av:Pq}{c c' cv:Nq}
theorem Sz {n k:Nat}{ws:List Ver}{w:V}{h1:Heap}{Fw:List Nat} (hs:RNodes false h [.sl 2 a n c] l F) (hk:k<l.length) (hnd:F.Nodup) (hlo:∀ b∈F,lo<=b) (hw:RVers false h1 [w] ws Fw) (m:Mv h [] h1 Fw) :
  ∃ b i h2 F',a=some (b,i)/\b∈F/\st lo h1 b (i+k) 1 [w]=some h2/\RNodes false h2 [.sl 2 a n c] (Cx l k ws) F'/\Mv h F h2 F'/\(∀ y,y≠b->h2[y]?=h1[y]?):=by
 obtain ⟨b,i,rs,row,G0,ha,hbF,hbG,hb,hrow,hel,hGF,hGn,put⟩:=hs.at2 rnode_ok hk hnd hlo;obtain ⟨t1,t2,F1,F2,rfl,rfl,r1,r2⟩:=hel;rw[zfG] at hGn;have b1:∀ y∈F1,y<h.length:=rvers_ok.bd _ _ _ _ r1;have m1:Mv h (F1++F2) h1 (F1++Fw):=by
  refine ⟨m.le,λy hy _=>m.fr y hy (by simp),?_,λy hy=>?_⟩
  ·rw[zfG];refine ⟨hGn.1,m.nd,λx hx y hy e=>?_⟩;subst e;have:=b1 x hx;have:=m.new x hy;omega
  ·rcases zfF.1 hy with hy | hy
   ·exact .inl (by simp[hy])
   ·exact (m.sub y hy).imp (λg=>by simp at g) id
 obtain ⟨h2,F',e2,r,m2,fr,_⟩:=put h1 (F1++Fw) 1 [w] [t1,w] ⟨l[k].store,ws⟩ m1 rfl ⟨_,_,F1,Fw,rfl,rfl,m.keep0 rvers_ok r1,hw⟩;rw[<- Hj hk] at r;exact ⟨b,i,h2,F',ha,hbF,e2,r,m2,fr⟩
theorem zb8 {k:Nat} (hs:RNodes false h [.sl 2 a l.length c] l F) (hk:k<l.length) (hnd:F.Nodup) (hlo:∀ b∈F,lo<=b) (hl:lo<=h.length) (hn:l.length<=1048576) :
  ∃ a' c' h' F',(∀ {T:Type} (K:V->Heap->Option T),(Az a l.length c none (some (Iv (k:Nat))) none λa_0 n_1 c_2=>Aw 2 (h ++ [.rows 2 47 false []]) (.sl 2 a_0 n_1 c_2) λx_3=>DJ lo 47 2 48 (.sl 2 (some ((List.length h),0)) 0 (some 0)) x_3 (h ++ [.rows 2 47 false []]) λv_4 h_5=>eS 2 (v_4) λa_6 n_7 c_8 =>
    Az a l.length c (some (Iv ((k+1:Nat):Int))) none none λa_9 n_10 c_11=>Aw 2 h_5 (.sl 2 a_9 n_10 c_11) λx_12=>DJ lo 47 2 48 (.sl 2 a_6 n_7 c_8) x_12 h_5 K)=K (.sl 2 a' (l.eraseIdx k).length c') h') /\
   RNodes false h' [.sl 2 a' (l.eraseIdx k).length c'] (l.eraseIdx k) F'/\Mv h F h' F':=by
 have hbd:=rnodes_ok.bd _ _ _ _ hs;obtain ⟨Fs,nF,sF,own,cuts⟩:=Sli.parts hs hnd;obtain ⟨rP,_,eP,_,kP,_⟩:=cuts k (by omega);obtain ⟨_,rQ,_,eQ,_,kQ⟩:=cuts (k+1) (by omega);obtain ⟨nP,_,dPQ⟩:=Gh (k:=k) nF;obtain ⟨_,nQ,_⟩:=Gh (k:=k+1) nF;have inP:∀ y∈(Fs.take k).flatten,y∈Fs.flatten:=λy hy=>by rw[<- zgi k Fs,zgf];simp[hy]
 have inQ:∀ y∈(Fs.drop (k+1)).flatten,y∈(Fs.drop k).flatten:=λy hy=>by
  have:Fs.drop (k+1)=(Fs.drop k).drop 1:=by rw[zg9]
  rw[this] at hy;rw[<- zgi 1 (Fs.drop k),zgf];exact zfF.2 (.inr hy)
 have inQ':∀ y∈(Fs.drop (k+1)).flatten,y∈Fs.flatten:=λy hy=>by rw[<- zgi k Fs,zgf];simp[inQ y hy]
 have hFl:∀ y∈Fs.flatten,y<h.length:=λy hy=>hbd y (sF y hy);have htl:(l.take k).length=k:=by rw[zf2];omega
 have hdl:(l.drop (k+1)).length=l.length - (k+1):=by rw[zgE]
 obtain ⟨a3,c3,h3,F3,e3,r3,l3,fr3,sub3,nd3⟩:=LN (lo:=lo) (R:=2) (e:=O5 false) (bytes:=48) rnode_ok eP nP (λy hy=>hFl y (inP y hy)) (by decide) (by omega) hl;have hQ3:∀ y∈(Fs.drop (k+1)).flatten,y∉F3/\y<h3.length:=λy hy=>by
  have:=hFl y (inQ' y hy);refine ⟨λhm3=>?_,by omega⟩;rcases sub3 y hm3 with g | g
  ·exact dPQ y g y (inQ y hy) rfl
  ·omega
 have F3b:∀ y∈F3,y<h3.length:=rnodes_ok.bd _ _ _ _ r3;obtain ⟨a7,c7,h7,F7,e7,r7,l7,fr7,sub7,nd7⟩:=MW (lo:=lo) (bytes:=48) rnode_ok.fr r3 (xs:=rQ) (ys:=l.drop (k+1)) (Gs:=Fs.drop (k+1)) (eQ.fr rnode_ok.fr λy hy=>fr3 y (hFl y (inQ' y hy))) (by decide) (by rw[htl,hdl];omega) (λy hy=>by
   rcases sub3 y hy with g | g
   ·exact hlo y (sF y (inP y g))
   ·omega) (by omega) (by
   rw[zfG];refine ⟨nd3,nQ,λx hx y hy e=>?_⟩;subst e;exact (hQ3 x hy).1 hx) (λy hy=>by
   rcases zfF.1 hy with hy | hy
   ·exact F3b y hy
   ·exact (hQ3 y hy).2)
 have hel:(l.take k).length+(l.drop (k+1)).length=(l.eraseIdx k).length:=by rw[zgm hk,htl,hdl];omega
 have her:l.take k++l.drop (k+1)=l.eraseIdx k:=(List.eraseIdx_eq_take_drop_succ l k).symm;rw[hel] at e7 r7;rw[her] at r7;have mm0:Mv h [] (h ++ [.rows 2 47 false []]) []:=Mv.snoc;rw[show O5 false=47 from rfl] at e3 e7;refine ⟨a7,c7,h7,F7,λK=>?_,r7,⟨by omega,λy hy hyF=>?_,nd7,λy hy=>?_⟩⟩
 ·rw[kP _ (λb i e=>mm0.fr b (hbd b (own b i e).1) (by simp)),e3,Ah,kQ _ (λb i e=>fr3 b (hbd b (own b i e).1)),e7]
 ·have y3:y∉F3:=λhm3=>by
   rcases sub3 y hm3 with g | g
   ·exact hyF (sF y (inP y g))
   ·omega
  rw[fr7 y (by omega) y3,fr3 y hy]
 ·rcases sub7 y hy with g | g
  ·rcases zfF.1 g with g | g
   ·rcases sub3 y g with g | g
    ·exact .inl (sF y (inP y g))
    ·exact .inr (by omega)
   ·exact .inl (sF y (inQ' y g))
  ·exact .inr (by omega)
theorem Yn {k:Nat} (hs:RNodes false h [.sl 2 a l.length c] l F) (hk:k<l.length) (h2:1<l.length) (hlast:(l[l.length - 1]'(by omega)).wait = []) (hnd:F.Nodup) (hlo:∀ b∈F,lo<=b) (hl:lo<=h.length) (hn:l.length<=1048576) (hx:∀ x∈l,H0 20 x) :
  ∃ a' c' h' F',Af lo 256 [.agg [.sl 2 a l.length c],Iv (k:Nat)] h=some (.agg [.sl 2 a' (DN l k).length c'],h')/\RNodes false h' [.sl 2 a' (DN l k).length c'] (DN l k) F'/\Mv h F h' F':=by
 suffices hq:∃ a' c' h' F',_=some (V.agg [.sl 2 a' (DN l k).length c'],h')/\RNodes false h' [.sl 2 a' (DN l k).length c'] (DN l k) F'/\Mv h F h' F' from by obtain ⟨a',c',h',F',e,hr⟩:=hq;exact ⟨a',c',h',F',UY e,hr⟩
 have hel:=zgm hk;obtain ⟨a1,c1,h1,F1,e1,r1,m1⟩:=zb8 (lo:=lo) hs hk hnd hlo hl hn;have hflen:(DN l k).length=l.length - 1:=by
  unfold DN;cases decide (0<k)
  ·exact hel
  ·cases decide (k<(l.eraseIdx k).length)
   ·rw[cond_true,cond_false,CT];exact hel
   ·rw[cond_true,cond_true,CT];exact hel
 rw[Am (by omega),e1,Ah];have hl1:lo<=h1.length:=zfE hl m1.le;have hlo1:∀ b∈F1,lo<=b:=λb hb=>m1.ge hl hlo b hb;have hn1:((l.eraseIdx k).length:Int) - 1=(((l.eraseIdx k).length - 1:Nat):Int):=by omega
 have tail:∀ (l':List Node) (hh:Heap) (F':List Nat),l'.length=(l.eraseIdx k).length->RNodes false hh [.sl 2 a1 (l.eraseIdx k).length c1] l' F'->F'.Nodup->(∀ b∈F',lo<=b)->∃ h' F'',(As (Ap ((((l.eraseIdx k).length:Nat):Int) - 1)) (l.eraseIdx k).length (eO a1 λo_41=>eO (st lo hh (o_41.1) ((o_41.2)+((Ap ((((l.eraseIdx k).length:Nat):Int) - (1:Int))).toNat)) 1 [.sl 0 none 0 (some 0)]) λo_42=>some (V.agg [.sl 2 a1 (l.eraseIdx k).length c1],o_42)))=some (.agg [.sl 2 a1 (l.eraseIdx k).length c1],h') /\
   RNodes false h' [.sl 2 a1 (l.eraseIdx k).length c1] (Cx l' ((l.eraseIdx k).length - 1) []) F''/\Mv hh F' h' F'':=by
  intro l' hh F' hll hr hnd' hlo';obtain ⟨b,i,h3,F3,ha,_,e3,r3,m3,_⟩:=Sz (lo:=lo) (k:=(l.eraseIdx k).length - 1) (w := .sl 0 none 0 (some 0)) (ws := []) hr (by omega) hnd' hlo' Sli.nil Mv.nil;rw[wr (n:=(((l.eraseIdx k).length:Nat):Int) - 1) (by omega) (by omega),hn1,Ac (by omega),ha,Ae,AW,e3,Ae,<- ha];exact ⟨h3,F3,rfl,r3,m3⟩
 have hlast':∀ hj:(l.eraseIdx k).length - 1<(l.eraseIdx k).length,k<(l.eraseIdx k).length->((l.eraseIdx k)[(l.eraseIdx k).length - 1]).wait = []:=λhj hkl=>by
  have:(l.eraseIdx k)[(l.eraseIdx k).length - 1]=l[l.length - 1]:=by rw[List.getElem_eraseIdx];rw[dif_neg (by omega)];congr 1;omega
  rw[this];exact hlast
 by_cases h0:0<k
 ·rw[Ak (by omega)];by_cases hkl:k<(l.eraseIdx k).length
  ·-- in between
   have hf:DN l k=Cx (l.eraseIdx k) (k - 1) (GK (HW (l.eraseIdx k) (k - 1)) (HW (l.eraseIdx k) k)):=by unfold DN;rw[decide_eq_true h0,cond_true,decide_eq_true hkl,cond_true]
   have hk1:k - 1<(l.eraseIdx k).length:=by omega
   have hxm:∀ x∈l.eraseIdx k,H0 20 x:=λx hx'=>hx x (zgB hx');obtain ⟨o,s1,s2,b1,d1,b2,d2,H1,H2,ha,_,ho1,_,q1,_,p1,_⟩:=r1.get hk1;obtain ⟨o',s1',s2',b1',d1',b2',d2',H1',H2',ha',_,ho1',_,q1',_,p1',_⟩:=r1.get hkl;have ho:o=o':=by rw[ha] at ha';injection ha'
   subst ho;have n1:=hxm _ (zfD hk1);have n2:=hxm _ (zfD hkl);obtain ⟨a4,c4,h4,F4,e4,r4,m4⟩:=Yl (lo:=lo) p1 p1' n1.1 n2.1 (λv hv=>by have:=(n1.2.2.1 v hv).1;omega) hl1;obtain ⟨b,i,h5,F5,hb,_,e5,r5,m5,_⟩:=Sz (lo:=lo) (k:=k - 1) (w := .sl 6 a4 (GK (l.eraseIdx k)[k - 1].store (l.eraseIdx k)[k].store).length c4) r1 hk1 m1.nd hlo1 r4 m4;obtain ⟨h6,F6,e6,r6,m6⟩:=tail _ h5 F5 CT r5 m5.nd (λb hb=>m5.ge hl1 hlo1 b hb);have hkk:((k:Nat):Int) - 1=((k - 1:Nat):Int):=by omega
   have hoe:o=(b,i):=by rw[ha] at hb;injection hb
   subst hoe;rw[Ak (by omega),wr (n:=((k:Nat):Int) - 1) (by omega) (by omega),hkk,Ac hk1,ha,Ae,AW,ho1,Ae,Ab,q1,Ag,Ac hkl,Ae,AW,ho1',Ae,Ab,q1',Ag,e4,Ad,Ah,Ac hk1,Ae,e5,Ae,<- ha,e6];have hsame:Cx (Cx (l.eraseIdx k) (k - 1) (GK (l.eraseIdx k)[k - 1].store (l.eraseIdx k)[k].store)) ((l.eraseIdx k).length - 1) []=DN l k:=by
    rw[hf,EO hk1,EO hkl];have hj:(l.eraseIdx k).length - 1<(Cx (l.eraseIdx k) (k - 1) (GK (l.eraseIdx k)[k - 1].store (l.eraseIdx k)[k].store)).length:=by rw[CT];omega
    refine QI hj ?_;have hg:=Hj (w:=GK (l.eraseIdx k)[k - 1].store (l.eraseIdx k)[k].store) hk1;rw[zhs hg,List.getElem_set_ne (by omega)];exact hlast' (by omega) hkl
   rw[hsame] at r6;refine ⟨a1,c1,h6,F6,by rw[hflen,hel],by rw[hflen,<- hel];exact r6,(m1.trans m5).trans m6⟩
  ·-- the tail fell
   have hf:DN l k=Cx (l.eraseIdx k) (k - 1) []:=by unfold DN;rw[decide_eq_true h0,cond_true,decide_eq_false hkl,cond_false]
   have hkk:(l.eraseIdx k).length - 1=k - 1:=by omega
   obtain ⟨h6,F6,e6,r6,m6⟩:=tail _ h1 F1 rfl r1 m1.nd hlo1;rw[Ai (by omega),e6];rw[hkk,<- hf] at r6;exact ⟨a1,c1,h6,F6,by rw[hflen,hel],by rw[hflen,<- hel];exact r6,m1.trans m6⟩
 ·have hf:DN l k=l.eraseIdx k:=by unfold DN;rw[decide_eq_false h0,cond_false]
  obtain ⟨h6,F6,e6,r6,m6⟩:=tail _ h1 F1 rfl r1 m1.nd hlo1;rw[Ai (by omega),e6];rw[QI (by omega) (hlast' (by omega) (by omega)),<- hf] at r6;exact ⟨a1,c1,h6,F6,by rw[hflen,hel],r6,m1.trans m6⟩
end


variable {s t:List Ver}{v:Ver}{l:List Node}{w:List Ver}{rs:List (List V)}
def By (x:Ver×Ver):Option Ver:=bif Bb x.2 x.1 then some x.1 else none
theorem lack_sort:∀ {z:List (Ver×Ver)}{acc:List Ver},z.foldl Id acc=(z.filterMap By).foldl (λacc v=>GO v acc) acc
 | [],acc=>rfl
 | x :: z,acc=>by
  rw[zgD,lack_sort (z:=z)];unfold Id;cases hx:Bb x.2 x.1 with
  | true =>
   have:By x=some x.1:=by unfold By;rw[hx];rfl
   rw[List.filterMap_cons,this];rfl
  | false =>
   have:By x=none:=by unfold By;rw[hx];rfl
   rw[List.filterMap_cons,this];rfl
def YT (s t:List Ver):List Ver:=(s.zip t).filterMap By
theorem zac:Mh (YT s t)=GK s t:=lack_sort.symm
theorem KD {u:Ver} (hu:Bd u.tag.time u.tag.place=true) (hv:v.tag.time=0/\v.tag.place=0):Bb u v=false:=by rw[K5];simp[Bd,Aj] at hu;omega
theorem XG {i:Nat} (h:I9 i v=true):Bd v.tag.time v.tag.place=true:=(zaL h).2.2
theorem zab (hs:A5 s=true) (ht:A5 t=true):(YT s t).Pairwise λp u=>p.key<u.key:=by
 unfold YT;rw[List.pairwise_filterMap,List.pairwise_iff_getElem];intro i j hi hj hij b hb b' hb';have hi':i<s.length/\i<t.length:=by rw[zhj] at hi;omega
 have hj':j<s.length/\j<t.length:=by rw[zhj] at hj;omega
 rw[zg8] at hb hb';have key:∀ q (hq:q<s.length) (hq':q<t.length) x,By (s[q],t[q])=some x->x.key=(q:Int):=λq hq hq' x hx=>by
  unfold By at hx;simp only at hx;cases hl:Bb t[q] s[q] with
  | false=>rw[hl] at hx;cases hx
  | true =>
   rw[hl] at hx;injection hx with hx;subst hx;rcases Di (CK hs hq) with g | g
   ·have:=KD (XG (CK ht hq')) (E8 g);rw[hl] at this;cases this
   ·exact g.2
 have e1:=key i hi'.1 hi'.2 b (by simpa using hb);have e2:=key j hj'.1 hj'.2 b' (by simpa using hb');omega
theorem zbW (hs:s.length=4):(YT s t).length<=4:=by unfold YT;have:=List.length_filterMap_le By (s.zip t);rw[zhj] at this;omega
section
variable {lo:Nat}{h:Heap}{F F' G:List Nat}{a a' av:Pq}{c c' cv:Nq}
theorem zaE {n:Nat} (hn:n<=4):∃ x,Af lo 310 [.int .u64 (IntKind.wrap .u64 ((n:Nat):Int))] h=some (Iv x,h):=by
 have key:∀ m:Nat,m<=4->∃ x,Af (List.length h) 323 [.int .u64 (IntKind.wrap .u64 ((m:Nat):Int))] h=some (Iv x,h):=by
  intro m hm;have:m=0\/m=1\/m=2\/m=3\/m=4:=by omega
  rcases this with rfl | rfl | rfl | rfl | rfl;all_goals exact ⟨_,Pi (h':=h) (by
   rw[Ai (by decide),Ai (by decide),Ai (by decide)];rfl)⟩
 obtain ⟨x,hx⟩:=key n hn;exact ⟨x,RF (h':=h) (by rw[hx,Ad,Aa])⟩
theorem zb2 {l:List Ver} (hs:RVers false h [.sl 6 a l.length c] l F) (h4:l.length<=4) (hk:l.Pairwise λp u=>p.key<u.key) (hnd:F.Nodup) (hlo:∀ b∈F,lo<=b) (hl:lo<=h.length) :
  ∃ h' F',Af lo 300 [.sl 6 a l.length c,.fn 301 []] h=some (.tup [],h')/\RVers false h' [.sl 6 a l.length c] (Mh l) F'/\Mv h F h' F':=by
 obtain ⟨x,hx⟩:=zaE (lo:=lo) (h:=h) h4;obtain ⟨h',F',e,r,m⟩:=S8 (lo:=lo) hs hk hnd hlo hl (by omega);refine ⟨h',F',Ha ?_,r,m⟩;rw[hx,Ad,Aa];have:Af lo 309 [.sl 6 a l.length c,Iv 0,Iv ((l.length:Nat):Int),Iv x,.fn 301 []] h=some (.tup [],h'):=by
  have hc:l.length=0\/l.length=1\/l.length=2\/l.length=3\/l.length=4:=by omega
  rcases hc with q | q | q | q | q
  ·rw[q] at e ⊢;exact GT (by rw[Br.e];exact (congrArg (λo=>Al o _) e).trans rfl)
  ·rw[q] at e ⊢;exact GS (by rw[Bq.e];exact (congrArg (λo=>Al o _) e).trans rfl)
  ·rw[q] at e ⊢;exact GR (by rw[Bp.e];exact (congrArg (λo=>Al o _) e).trans rfl)
  ·rw[q] at e ⊢;exact GQ (by rw[Bo.e];exact (congrArg (λo=>Al o _) e).trans rfl)
  ·rw[q] at e ⊢;exact GP (by rw[Bn.e];exact (congrArg (λo=>Al o _) e).trans rfl)
 rw[this,Ad,J5,Ag]
theorem Xd {k:Nat} (hs:RNodes false h [.sl 2 a l.length c] l F) (hk:k<l.length) (hnd:F.Nodup) (hlo:∀ b∈F,lo<=b) (hn:l.length<=1048576) :
  ∃ h' F',Af lo 299 [.sl 2 a l.length c,Iv (k:Nat),Iv ((k+1:Nat):Int)] h=some (.sl 2 a (l.length - 1) c,h')/\RNodes false h' [.sl 2 a (l.length - 1) c] (l.eraseIdx k) F'/\Mv h F h' F':=by
 obtain ⟨h',F',Gv,b,i,row,ha,hld,hel,hG,e,r,m,fr⟩:=Sli.del (lo:=lo) (bytes:=48) (e:=47) (z := [.sl 0 none 0 (some 0),.sl 0 none 0 (some 0)]) (x1:=(k:Nat)) (x2:=((k+1:Nat):Int)) (T:=V×Heap) rnode_ok hs hk hnd hlo rfl (by omega) (by decide) (by omega) (some (.sl 2 a l.length c,h)) (λv h=>some (v,h));exact ⟨h',F',Hb e,r,m⟩
theorem ZZ {h3:Heap}{n k:Nat}{s1:V}{b0 i0:Nat} (hs:RNodes false h [.sl 2 a n c] l F) (ha:a=some (b0,i0)) (hk:k<l.length) (hst:ld h b0 (i0+k) 0 1=some [s1]) (hnd:F.Nodup) (hlo:∀ b∈F,lo<=b) (hl:lo<=h.length) (hw:l[k].wait.length<=1048576) (hv:RTags false h3 [.sl 2 av v.past.length cv] v.past G) (m3:Mv h [] h3 G) :
  ∃ t2 a2 c2 a5 c5 h5 h6 F6,ld h b0 (i0+k) 1 1=some [t2]/\(∀ {T:Type} (K:Pq->Nat->Nq->Option T),eS 6 t2 K=K a2 l[k].wait.length c2) /\
   (∀ {T:Type} (K:V->Heap->Option T),DJ lo 43 6 72 (.sl 6 a2 l[k].wait.length c2) [v.cs av cv] (h3 ++ [.rows 6 43 false [v.cs av cv]]) K=K (.sl 6 a5 (l[k].wait.length+1) c5) h5) /\
   st lo h5 b0 (i0+k) 1 [.sl 6 a5 (l[k].wait.length+1) c5]=some h6/\RNodes false h6 [.sl 2 a n c] (l.set k ⟨l[k].store,l[k].wait ++ [v]⟩) F6/\Mv h F h6 F6/\ld h6 b0 (i0+k) 0 1=some [s1]:=by
 obtain ⟨b,i,rs,row,G0,ha',hbF,hbG,hb,hrow,hel,hGF,hGn,_,put⟩:=hs.at rnode_ok hk hnd hlo;have:(b0,i0)=(b,i):=by rw[ha] at ha';injection ha'
 injection this with e1 e2;subst e1;subst e2;obtain ⟨t1,t2,F1,F2,rfl,rfl,r1,r2⟩:=hel;have hs1:s1=t1:=by rw[B7 hb hrow] at hst;injection hst with hst;injection hst with hst _;exact hst.symm
 subst hs1;obtain ⟨a2,c2,e2,r2'⟩:=r2.form;rw[zfG] at hGn;obtain ⟨a5,c5,h5,F5,e5,r5,m5⟩:=Ev (lo:=lo) (bytes:=72) (e:=43) rver_ok r2' (row:=v.cs av cv) (x:=v) (G:=G) (h1:=h3 ++ [.rows 6 43 false [v.cs av cv]])
  ⟨_,rfl,Mv.snoc.keep0 rtags_ok hv⟩ (m3.trans (Mv.snoc' m3.nd)) hGn.2.1 (λy hy=>hlo y (hGF y (by simp[hy]))) hl (by decide) (by omega)
 have b1:∀ y∈F1,y<h.length:=rvers_ok.bd _ _ _ _ r1;have m6:=(m5.aside (G:=F1) (by rw[zfG];exact ⟨hGn.2.1,hGn.1,λx hx y hy e=>hGn.2.2 y hy x hx e.symm⟩) b1).swap;have r1':=m5.keep rvers_ok r1 λy hy hm=>hGn.2.2 y hy y hm rfl;obtain ⟨h6,F6,e6,r6,m7,hb6,_,_⟩:=put h5 (F1++F5) 1 [.sl 6 a5 (l[k].wait.length+1) c5] [s1,.sl 6 a5 (l[k].wait.length+1) c5] ⟨l[k].store,l[k].wait ++ [v]⟩ m6 rfl ⟨_,_,F1,F5,rfl,rfl,r1',r5⟩;have hrl:i0+k<rs.length:=(Ga hrow).1;have hr6:(rs.set (i0+k) [s1,.sl 6 a5 (l[k].wait.length+1) c5])[i0+k]?=some [s1,.sl 6 a5 (l[k].wait.length+1) c5]:=by simp[hrl]
 exact ⟨t2,a2,c2,a5,c5,h5,h6,F6,by rw[B7 hb hrow];rfl,λK=>e2 K,λK=>e5 K,e6,r6,m7,by rw[B7 hb6 hr6];rfl⟩
theorem Sc {k:Nat}{w':List Ver} (hk:k<l.length):(Cx l k w).set k ⟨l[k].store,w'⟩=Cx l k w':=by rw[Hj hk,Hj hk,zgv]
theorem KS {k:Nat} (hk:k<l.length):(Cx l k w)[k]'(by rw[CT];exact hk)=⟨l[k].store,w⟩:=by rw[zhs (Hj hk),zgR]
theorem zbm {k q:Nat} (hk:k<l.length) (hq:q<l.length) (hne:k≠q):(Cx l k w)[q]'(by rw[CT];exact hq)=l[q]:=by rw[zhs (Hj hk),List.getElem_set_ne hne]
theorem zb5 {b i j R e:Nat}{row:List V}{k1 b5 i5:Nat}{as':Pq}{cs':Nq}
  (hkl:k1+1<l.length) (hb:h[b]?=some (.rows R e false rs)) (hrow:rs[i]?=some row) (hcell:row[j]?=some (.sl 2 a l.length c)) (hbF:b∉F)
  (hs:RNodes false h [.sl 2 a l.length c] (Cx l k1 []) F) (ha:a=some (b5,i5)) (hnd:F.Nodup) (hlo:∀ b∈F,lo<=b) (hl:lo<=h.length) (hn:l.length<=1048576) (h1:A5 (l[k1]'(by omega)).store=true) (h2:A5 l[k1+1].store=true) {x0:V} (hst:ld h b5 (i5+k1) 0 1=some [x0]) (hex:∀ {T:Type} (K:Pq->Nat->Nq->Option T),eS 6 x0 K=K as' (l[k1]'(by omega)).store.length cs') :
  ∃ h' F',Bz lo b i j ((k1+1:Nat):Int) b5 (i5+k1) 0 as' (l[k1]'(by omega)).store.length cs' (((l[k1]'(by omega)).store.length:Nat):Int) 0 h=some (.bool true,h') /\
   RNodes false h' [.sl 2 a l.length c] (Cx l k1 (GK (l[k1]'(by omega)).store l[k1+1].store)) F'/\Mv h F h' F':=by
 have hk1:k1<l.length:=by omega
 have hblt:b<h.length:=(Ga hb).1;have hex':=λ{T:Type} (K:Pq->Nat->Nq->Option T)=>hex K;generalize hsd:(l[k1]'(by omega)).store=s at h1 hex' ⊢;generalize htd:l[k1+1].store=t at h2 ⊢;have hs4:=A6 h1;have ht4:=A6 h2;have hzl:(s.zip t).length=4:=by rw[zhj];omega
 have hsm1:=Hk h1;have hbm:∀ hh F',Mv h F hh F'->hh[b]?=some (.rows R e false rs):=λhh F' m=>by rw[m.fr b hblt hbF];exact hb
 have one:∀ m q,m+q=4->∀ hh F',RNodes false hh [.sl 2 a l.length c] (Cx l k1 (((s.zip t).take q).filterMap By)) F'->Mv h F hh F'->ld hh b5 (i5+k1) 0 1=some [x0] ->
   ∃ h' F'',Bz lo b i j ((k1+1:Nat):Int) b5 (i5+k1) 0 as' s.length cs' ((s.length:Nat):Int) (q:Nat) hh=some (.bool true,h')/\RNodes false h' [.sl 2 a l.length c] (Cx l k1 (GK s t)) F''/\Mv h F h' F'':=by
  intro m;induction m with
  | zero =>
   intro q hq hh F' hr hm hld;have hq4:q=4:=by omega
   subst hq4;rw[zgk (by omega)] at hr;have hwl:k1<(Cx l k1 ((s.zip t).filterMap By)).length:=by rw[CT];exact hk1
   obtain ⟨b',i',rs',row',G0,ha',hbF',hbG,hb',hrow',hel,hGF,hGn,put⟩:=hr.at2 rnode_ok hwl hm.nd (λy hy=>hm.ge hl hlo y hy);have:(b5,i5)=(b',i'):=by rw[ha] at ha';injection ha'
   injection this with x1 x2;subst x1;subst x2;rw[KS hk1] at hel;obtain ⟨t1,t2,F1,F2,rfl,rfl,r1,r2⟩:=hel;simp only at r1 r2;obtain ⟨a2,c2,e2,r2'⟩:=r2.form;rw[zfG] at hGn;have hlh:lo<=hh.length:=zfE hl hm.le;obtain ⟨h3,F3,e3,r3,m3⟩:=zb2 (lo:=lo) r2' (zbW hs4) (zab h1 h2) hGn.2.1 (λy hy=>hm.ge hl hlo y (hGF y (by simp[hy]))) hlh;have b1:∀ y∈F1,y<hh.length:=rvers_ok.bd _ _ _ _ r1;have m4:=(m3.aside (G:=F1) (by rw[zfG];exact ⟨hGn.2.1,hGn.1,λx hx y hy e=>hGn.2.2 y hy x hx e.symm⟩) b1).swap;have r1':=m3.keep rvers_ok r1 λy hy hm=>hGn.2.2 y hy y hm rfl;have hsl:(Mh ((s.zip t).filterMap By)).length=((s.zip t).filterMap By).length:=(r3.val).symm;have r3c:=r3.clip;rw[<- hsl] at r3c;obtain ⟨h4,F4,e4,r4,m5,_,_⟩:=put h3 (F1++F3) 1 [.sl 6 a2 (Mh ((s.zip t).filterMap By)).length (some (Mh ((s.zip t).filterMap By)).length)] [t1,.sl 6 a2 (Mh ((s.zip t).filterMap By)).length (some (Mh ((s.zip t).filterMap By)).length)] ⟨l[k1].store,Mh ((s.zip t).filterMap By)⟩ m4 rfl ⟨_,_,F1,F3,rfl,rfl,by rw[hsd];rw[hsd] at r1';exact r1',r3c⟩;rw[hsl] at e4;rw[Sc hk1] at r4;have hfin:Mh ((s.zip t).filterMap By)=GK s t:=zac;rw[hfin] at r4;have l1:ld hh b5 (i5+k1) (0+1) 1=some [t2]:=by rw[B7 hb' hrow'];rfl
   have hb5:h3[b5]?=hh[b5]?:=m3.fr b5 (Ga hb').1 λhm2=>hbG (by simp[hm2]);have l3:ld h3 b5 (i5+k1) (0+1) 1=some [t2]:=by rw[B7 (by rw[hb5];exact hb') hrow'];rfl
   rw[Bz.e,Ai (by omega),l1,Ae,Ab,Ag,e2,e3,Ad,J5,Ag,l3,Ae,Ab,Ag,e2,MF r3,Ad,Ah,e4,Ae];exact ⟨h4,F4,rfl,r4,hm.trans m5⟩
  | succ m ih =>
   intro q hq hh F' hr hm hld;have hqs:q<s.length:=by omega
   have hqt:q<t.length:=by omega
   have hlh:lo<=hh.length:=zfE hl hm.le;have hwl:k1<(Cx l k1 (((s.zip t).take q).filterMap By)).length:=by rw[CT];exact hk1
   have hwl2:k1+1<(Cx l k1 (((s.zip t).take q).filterMap By)).length:=by rw[CT];exact hkl
   obtain ⟨o,x1,_,b1,d1,_,_,H1,_,ho,_,ho1,_,ex1,_,p1,_⟩:=hr.get hwl;obtain ⟨o2,x2,_,b2,d2,_,_,H2,_,ho2,_,ho21,_,ex2,_,p2,_⟩:=hr.get hwl2;have hoe:o=(b5,i5):=by rw[ha] at ho;injection ho with ho;exact ho.symm
   have hoe2:o2=(b5,i5):=by rw[ha] at ho2;injection ho2 with ho2;exact ho2.symm
   subst hoe;subst hoe2;rw[hld] at ho1;injection ho1 with ho1;injection ho1 with ho1 _;subst ho1;have hcap:=ex1 λa n c=>some (a,c);rw[hex'] at hcap;injection hcap with hcap;injection hcap with hc1 hc2;subst hc1;subst hc2;have es1:(Cx l k1 (((s.zip t).take q).filterMap By))[k1].store=s:=by rw[KS hk1];exact hsd
   have es2:(Cx l k1 (((s.zip t).take q).filterMap By))[k1+1].store=t:=by rw[zbm hk1 hkl (by omega)];exact htd
   rw[es1] at p1;rw[es2] at ex2 p2;have hv:=CK h1 hqs;have hkr:0<=s[q].key/\s[q].key<4:=by
    rcases Di hv with g | g
    ·rw[Ls g];decide
    ·rw[g.2];omega
   have hkt:s[q].key.toNat<t.length:=by omega
   have hless:Bb (t[s[q].key.toNat]'hkt) s[q]=Bb t[q] s[q]:=by
    rcases Di hv with g | g
    ·rw[KD (XG (CK h2 hkt)) (E8 g),KD (XG (CK h2 hqt)) (E8 g)]
    ·have:s[q].key.toNat=q:=by rw[g.2];omega
     simp only[this]
   obtain ⟨ov,xs,bs,ds,Hs,hov,hlv,exs,hps,_⟩:=p1.get hqs;obtain ⟨ot,_,_,_,_,hot,_,_,_,_,_,_,hlt,_,_,_,_⟩:=RVers.all p2 hkt;have lc:ld hh b i (j+0) 1=some [.sl 2 a l.length c]:=by rw[B7 (hbm hh F' hm) hrow];exact JA hcell
   have htake:((s.zip t).take (q+1)).filterMap By=((s.zip t).take q).filterMap By++(match By (s[q],t[q]) with | some v => [v] | none => []):=by rw[zg0 (by omega),List.filterMap_append,zg8];congr 1;cases hx:By (s[q],t[q])<;>simp[List.filterMap_cons,hx]
   have htl:=Fo (lo:=lo) (h:=hh) (a:=(t[s[q].key.toNat]'hkt).tag.time) (b:=(t[s[q].key.toNat]'hkt).tag.place) (c:=s[q].tag.time) (d:=s[q].tag.place);rw[Bz.e,Ak (by omega),Ac hqs,hov,Ae,AW,hlv,Ae,Ab,Aa,Ab,Aa,Ab,Aa,Ab,exs,Ab,A4,Ab,AB,Ag,lc,Ae,Ab,Ag,Ah,Ac hkl,ha,Ae,AW,ho21,Ae,Ab,Ag,ex2,BY ⟨by omega,by omega⟩,hot,Ae,hlt,Ae,Ab,Aa,Ab,Aa,Ag,htl,Ad,Ar,<- hov,Am (by omega)];show ∃ h' F'',br (Bb (t[s[q].key.toNat]'hkt) s[q]) _ _=_/\_;rw[hless];cases hlq:Bb t[q] s[q] with
   | false =>
    have:By (s[q],t[q])=none:=by unfold By;rw[hlq];rfl
    rw[this] at htake;simp only[zgc] at htake;rw[Ay,<- ha];exact ih (q+1) (by omega) hh F' (by rw[htake];exact hr) hm hld
   | true =>
    have:By (s[q],t[q])=some s[q]:=by unfold By;rw[hlq];rfl
    rw[this] at htake;simp only at htake;obtain ⟨a3,c3,h3,F3,e3,r3,m3⟩:=BJ (lo:=hh.length) (v:=s[q]) hps (zfH _) (hsm1.2 _ (zfD hqs)).1;have hwlen:(((s.zip t).take q).filterMap By).length<=4:=by have:=List.length_filterMap_le By ((s.zip t).take q);rw[zf2] at this;omega
    obtain ⟨t2,a4,c4,a5,c5,h5,h6,F6,l2,e2,e5,e6,r6,m6,l6⟩:=ZZ (lo:=lo) (v:=s[q]) hr ha hwl hld hm.nd (λy hy=>hm.ge hl hlo y hy) hlh (by rw[KS hk1];exact zfE hwlen (by decide)) r3 m3;rw[KS hk1] at e2 e5 e6 r6;simp only at e2 e5 e6 r6;rw[Sc hk1,<- htake] at r6;simp only[Ver.cs] at e3 e5;rw[Aq,l2,Ae,Ab,Ag,e2,e3,Ad,AN,Ab,Aa,Ab,Aa,Ab,Aa,Ab,Ah,Ab,A4,Ab,AB,Ag,A2,e5,Ah,e6,Ae];rw[<- ha];exact ih (q+1) (by omega) h6 F6 r6 (hm.trans m6) l6
 exact one 4 0 (by omega) h F (by simpa using hs) (Mv.refl hnd) hst
theorem Mv.cons {h h':Heap}{F F':List Nat}{b:Nat} (m:Mv h F h' F') (hb:b<h.length) (hbF:b∉F) (hnd:F.Nodup):Mv h (b :: F) h' (b :: F') :=
 (m.aside (G := [b]) (by rw[zfG];exact ⟨hnd,by simp,λx hx y hy e=>by rw[zgg] at hy;subst hy;subst e;exact hbF hx⟩) (by simpa using hb)).swap
def Ey (l:List Node) (k:Int):Bool:=Aj k 0 ((l.length:Int) - 1)&&decide (1<l.length)
theorem zb1 {b i j R e:Nat}{row:List V}{k:Int} (hb:h[b]?=some (.rows R e false rs)) (hrow:rs[i]?=some row) (hcell:row[j]?=some (.sl 2 a l.length c)) (hs:RNodes false h [.sl 2 a l.length c] l F) (hbF:b∉F)
  (hnd:F.Nodup) (hlob:lo<=b) (hlo:∀ b∈F,lo<=b) (hl:lo<=h.length) (hn:B8 l) (h0:0<l.length) (hst:∀ x∈l,A5 x.store=true) :
  ∃ a' n' c' h' F',Af lo 279 [.ptr (some (b,(i,j))),Iv k] h=some (.bool (Ey l k),h')/\h'[b]?=some (.rows R e false (rs.set i (row.set j (.sl 2 a' n' c'))))/\RNodes false h' [.sl 2 a' n' c'] (bif Ey l k then DN l k.toNat else l) F'/\Mv h (b :: F) h' (b :: F'):=by
 have hn1:=hn.1;suffices hq:∃ a' n' c' h' F',_=some (V.bool (Ey l k),h')/\h'[b]?=some (.rows R e false (rs.set i (row.set j (.sl 2 a' n' c'))))/\RNodes false h' [.sl 2 a' n' c'] (bif Ey l k then DN l k.toNat else l) F'/\Mv h (b :: F) h' (b :: F') from by obtain ⟨a',n',c',h',F',e,hr⟩:=hq;exact ⟨a',n',c',h',F',PE e,hr⟩
 have hblt:b<h.length:=(Ga hb).1;have hil:i<rs.length:=(Ga hrow).1;have hjl:j<row.length:=(Ga hcell).1;have hndb:(b :: F).Nodup:=by rw[zfN];exact ⟨hbF,hnd⟩
 have hld:ld h b i (j+0) 1=some [.sl 2 a l.length c]:=by rw[B7 hb hrow];exact JA hcell
 have stay:Ey l k=false->∃ a' n' c' h' F',some (V.bool false,h)=some (V.bool (Ey l k),h')/\h'[b]?=some (.rows R e false (rs.set i (row.set j (.sl 2 a' n' c'))))/\RNodes false h' [.sl 2 a' n' c'] (bif Ey l k then DN l k.toNat else l) F'/\Mv h (b :: F) h' (b :: F'):=λhc=>by rw[hc];exact ⟨a,l.length,c,h,F,rfl,by rw[set_same hcell,set_same hrow];exact hb,hs,Mv.refl hndb⟩
 have hcd:Ey l k=(Aj k 0 ((l.length:Int) - 1)&&decide (1<l.length)):=rfl;rw[hld,Ae,Ab,Ag,Ah,wr (by omega) (by omega),Be,Ad,Ar];cases hw:Aj k 0 ((l.length:Int) - 1) with
 | false=>rw[Ay];exact stay (by rw[hcd,hw];rfl)
 | true =>
 rw[hw,zfQ] at hcd;simp only[Aj,E1,decide_eq_true_eq] at hw;obtain ⟨f,rfl⟩:∃ f:Nat,k=(f:Int):=⟨k.toNat,by omega⟩;have hk:f<l.length:=by omega
 rw[Aq,hld,Ae,Ab,Ag,Ah];by_cases h1:1<l.length
 ·rw[decide_eq_true h1] at hcd;have hel:=zgm hk;obtain ⟨h2,F2,e2,r2,m2⟩:=Xd (lo:=lo) hs hk hnd hlo hn1;have hb2:h2[b]?=some (.rows R e false rs):=by rw[m2.fr b hblt hbF];exact hb
  have hclip:Af lo 280 [.sl 2 a (l.length - 1) c] h2=some (.sl 2 a (l.length - 1) (some (l.length - 1)),h2):=Wf r2;have e3:=B4 (lo:=lo) (cs := [.sl 2 a (l.length - 1) (some (l.length - 1))]) (j:=j+0) hb2 hlob hrow (FL hjl);obtain ⟨m3,b3,k3,n3⟩:=m2.store hblt hbF (.rows R e false (rs.set i (row.set (j+0) (.sl 2 a (l.length - 1) (some (l.length - 1))))));generalize hh3:h2.set b (.rows R e false (rs.set i (row.set (j+0) (.sl 2 a (l.length - 1) (some (l.length - 1))))))=h3 at m3 b3 k3;have e3':st lo h2 b i (j+0) [.sl 2 a (l.length - 1) (some (l.length - 1))]=some h3:=by rw[<- hh3];exact e3
  have r3:RNodes false h3 [.sl 2 a (l.length - 1) (some (l.length - 1))] (l.eraseIdx f) F2:=rnodes_ok.fr _ _ _ _ _ r2.clip λy hy=>k3 y λe=>n3 (by rw[<- e];exact hy);rw[show (((l.length:Nat):Int)==1)=false by rw[beq_eq_false_iff_ne];omega,Ay,Am (by omega),Ae,Ab,Ag,Ah,e2,Ad,Ah,hclip,Ad,Ah,e3',Ae];rw[hcd,cond_true,AW];by_cases hf0:f=0
  ·subst hf0;have hff:DN l 0=l.eraseIdx 0:=rfl;rw[show (((0:Nat):Int)==0)=true from rfl,Aq,hff];exact ⟨a,l.length - 1,some (l.length - 1),h3,F2,rfl,b3,r3,m3⟩
  ·obtain ⟨f1,rfl⟩:∃ f1,f=f1+1:=⟨f - 1,by omega⟩;have hk1:f1<(l.eraseIdx (f1+1)).length:=by omega
   have hrow3:(rs.set i (row.set (j+0) (.sl 2 a (l.length - 1) (some (l.length - 1)))))[i]?=some (row.set j (.sl 2 a (l.length - 1) (some (l.length - 1)))):=by simp[hil]
   have hcell3:(row.set j (.sl 2 a (l.length - 1) (some (l.length - 1))))[j]?=some (.sl 2 a (l.length - 1) (some (l.length - 1))):=by simp[hjl]
   have ld3:∀ hh:Heap,hh[b]?=h3[b]?->ld hh b i j 1=some [.sl 2 a (l.length - 1) (some (l.length - 1))]:=λhh hbb=>by rw[B7 (by rw[hbb];exact b3) hrow3];exact JA hcell3
   obtain ⟨b5,i5,h4,F4,ha,hb5,e4,r4,m4,k4⟩:=Sz (lo:=lo) (k:=f1) (w := .sl 0 none 0 (some 0)) (ws := []) r3 hk1 (zfN.1 m3.nd).2 (λy hy=>m2.ge hl hlo y hy) Sli.nil Mv.nil;have hbb5:b≠b5:=λe=>n3 (by rw[e];exact hb5);have hb4:h4[b]?=h3[b]?:=k4 b hbb5;have hbF4:b∉F4:=λhm=>by
    rcases m4.sub b hm with g | g
    ·exact n3 g
    ·have:=m3.le;omega
   have m34:=m3.trans (m4.cons (by have:=m3.le;omega) n3 (zfN.1 m3.nd).2);have hlast:=P3 (lo:=lo) (h:=h4) (a:=a) (c:=some (l.length - 1)) (n:=l.length - 1) (k:=f1) (by omega);have hfm:(((f1+1:Nat):Int)==0)=false:=by rw[beq_eq_false_iff_ne];omega
   rw[hfm,Ay,zgl,ld3 h3 rfl,Ae,Ab,Ag,Ah,show Ap (((f1+1:Nat):Int) - 1)=((f1:Nat):Int) by rw[wr (by omega) (by omega)];omega,Ac (show f1<l.length - 1 by omega),ha,Ae,AW,e4,Ae,ld3 h4 hb4,Ae,Ab,Ah,Ag,hlast,Ad,Ar];have hgt:decide (0<f1+1)=true:=decide_eq_true (by omega);by_cases hla:f1+1=l.length - 1
   ·have hff:DN l (f1+1)=Cx (l.eraseIdx (f1+1)) f1 []:=by unfold DN;rw[hgt,cond_true,decide_eq_false (by omega),cond_false];rfl
    rw[decide_eq_true hla,Aq,hff];exact ⟨a,l.length - 1,some (l.length - 1),h4,F4,rfl,by rw[hb4];exact b3,r4,m34⟩
   ·have hkl:f1+1<(l.eraseIdx (f1+1)).length:=by omega
    have hff:DN l (f1+1)=Cx (l.eraseIdx (f1+1)) f1 (GK (l.eraseIdx (f1+1))[f1].store (l.eraseIdx (f1+1))[f1+1].store):=by unfold DN;rw[hgt,cond_true,decide_eq_true hkl,cond_true,EO hkl,Nat.add_sub_cancel,EO hk1]
    have hwl:f1<(Cx (l.eraseIdx (f1+1)) f1 []).length:=by rw[CT];exact hk1
    obtain ⟨o,x1,_,b1,d1,_,_,H1,_,ho,_,ho1,_,ex1,_,p1,_⟩:=r4.get hwl;have hoe:o=(b5,i5):=by rw[ha] at ho;injection ho with ho;exact ho.symm
    subst hoe;rw[KS hk1] at ex1 p1;simp only at ex1 p1;rw[<- hel] at r4;obtain ⟨h7,F7,e7,r7,m7⟩:=zb5 (lo:=lo) (k1:=f1) (l:=l.eraseIdx (f1+1)) hkl (by rw[hb4];exact b3) hrow3 (by rw[hel];exact hcell3) hbF4 r4 ha m4.nd (λy hy=>m4.ge (by have:=m3.le;omega) (λy hy=>m2.ge hl hlo y hy) y hy) (by have:=m34.le;omega) (by omega) (hst _ (zgB (zfD hk1))) (hst _ (zgB (zfD hkl))) ho1 ex1;rw[decide_eq_false hla,Ay,ho1,Ae,Ab,Ag,ex1,e7,hff];have hb7:h7[b]?=h4[b]?:=m7.fr b (by have:=m34.le;omega) hbF4;exact ⟨a,(l.eraseIdx (f1+1)).length,some (l.eraseIdx (f1+1)).length,h7,F7,rfl,by rw[hel,hb7,hb4];exact b3,r7,m34.trans (m7.cons (by have:=m34.le;omega) hbF4 m4.nd)⟩
 ·rw[decide_eq_false h1] at hcd;rw[show (((l.length:Nat):Int)==1)=true by rw[beq_iff_eq];omega,Aq];exact stay hcd
end


variable {l:List Node}{p:Place}
def O1 (p:Place) (k:Nat):Place:=⟨p.me,p.clock,DN p.chain k,p.log,p.got,true⟩
def ES (p:Place) (k:Int):Bool := !p.fell&&Ey p.chain k
def Fg (p:Place) (k:Int):Place:=bif ES p k then Cg (O1 p k.toNat) else p
theorem VV {s t:List Ver}{v:Ver} (h:v∈GK s t):v∈s:=by
 have key:∀ (z:List (Ver×Ver)) (acc:List Ver),v∈z.foldl Id acc->v∈acc\/∃ x∈z,x.1=v:=by
  intro z;induction z with
  | nil=>intro acc h;exact .inl h
  | cons x z ih =>
   intro acc h;rw[zgD] at h;rcases ih _ h with g | ⟨y,hy,e⟩
   ·unfold Id at g;cases hl:Bb x.2 x.1 with
    | false=>rw[hl] at g;exact .inl g
    | true =>
     rw[hl,cond_true] at g;rcases insF_mem.1 g with rfl | g
     ·exact .inr ⟨x,by simp,rfl⟩
     ·exact .inl g
   ·exact .inr ⟨y,by simp[hy],e⟩
 rcases key _ _ h with g | ⟨x,hx,rfl⟩
 ·simp at g
 ·exact (List.of_mem_zip hx).1
theorem zbX {s t:List Ver} (hs:s.length=4):(GK s t).length<=4:=by
 have key:∀ (z:List (Ver×Ver)) (acc:List Ver),(z.foldl Id acc).length<=acc.length+z.length:=by
  intro z;induction z with
  | nil=>intro acc;simp
  | cons x z ih =>
   intro acc;rw[zgD];have:=ih (Id acc x);have h2:(Id acc x).length<=acc.length+1:=by
    unfold Id;cases Bb x.2 x.1
    ·simp
    ·rw[cond_true,Mr];exact zfH _
   rw[zgw];omega
 have:=key (s.zip t) [];rw[zhj] at this;simp only[zg2] at this;unfold GK;omega
theorem PK {nw k:Nat}{w:List Ver} (h:∀ x∈l,H0 nw x) (hw:w.length<=nw) (hv:∀ v∈w,thin v):∀ x∈Cx l k w,H0 nw x:=λx hx=>by
 unfold Cx at hx;split at hx
 ·rename_i y hy
  rcases zgd hx with hx | rfl
  ·exact h x hx
  ·obtain ⟨g1,_,g3,_⟩:=h y (zfV hy);exact ⟨g1,hw,g3,hv⟩
 ·exact h x hx
theorem zdf {nw k:Nat} (h:∀ x∈l,H0 nw x) (hnw:4<=nw):(DN l k).length<=l.length/\∀ x∈DN l k,H0 nw x:=by
 have h':∀ x∈l.eraseIdx k,H0 nw x:=λx hx=>h x (zgB hx);have hle:(l.eraseIdx k).length<=l.length:=zg7 _ _;unfold DN;cases decide (0<k) with
 | false=>exact ⟨hle,h'⟩
 | true =>
  rw[cond_true];cases decide (k<(l.eraseIdx k).length) with
  | false=>exact ⟨by rw[cond_false,CT];exact hle,PK h' (zgr _) (by simp)⟩
  | true =>
   rw[cond_true,CT];refine ⟨hle,?_⟩;unfold HW;split
   ·rename_i y hy
    have hyn:=h' y (zfV hy);exact PK h' (zfE (zbX hyn.1) hnw) (λv hv=>hyn.2.2.1 v (VV hv))
   ·refine PK h' ?_ (λv hv=>?_)
    ·rw[show ∀ t,GK [] t = [] from λt=>by simp[GK]];exact zgr _
    ·have:=VV hv;simp at this
theorem PN {nc nl k:Nat} (h:Tidy nc 6 nl p):Tidy nc 6 nl (O1 p k):=by obtain ⟨h1,h2⟩:=zdf (k:=k) h.node (by decide);exact ⟨zfE h1 h.len,h2,h.log,h.got⟩
theorem V7 {k:Nat} (hk:k<l.length) (h1:1<l.length):(DN l k).length=l.length - 1:=by
 have hel:=zgm hk;unfold DN;cases decide (0<k)
 ·exact hel
 ·cases decide (k<(l.eraseIdx k).length)
  ·rw[cond_true,cond_false,CT];exact hel
  ·rw[cond_true,cond_true,CT];exact hel
theorem zbU (h:DS l=true) (h0:0<l.length):(l[l.length - 1]'(by omega)).wait = []:=by have:=Pc h (show l.length - 1<l.length by omega);unfold GN at this;rw[zgj (by omega)] at this;simp only[decide_eq_true_eq] at this;exact zfM this
section
variable {lo:Nat}{ro:Bool}{h:Heap}{F F':List Nat}{a a':Pq}{c c':Nq}
theorem Sp {k:Int}{a1 a2 a3:Pq}{c1 c2 c3:Nq} (hn:p.chain.length<=1048576):Af lo 255 [.agg (p.cs a1 c1 a2 c2 a3 c3),Iv k] h=some (.bool (ES p k),h):=by
 refine Qm (h':=h) ?_;unfold ES Ey;cases p.fell with
 | true=>simp only[zgo,Ay,zgs]
 | false =>
  simp only[zgx,Aq,zfQ];by_cases h1:1<p.chain.length
  ·rw[Ak (by omega),wr (by omega) (by omega),A9,Ad,Ar,decide_eq_true h1,zgp];exact Ik
  ·rw[Ai (by omega),decide_eq_false h1,zgI]
end


variable {rs:List (List V)}{p:Place}
def CS (rs:List (List V)) (i:Nat) (row:List V):Blk := .rows 6 29 false (rs.set i row)
theorem DF {h:Heap}{b i j n:Nat}{row:List V} (hil:i<rs.length) (hb:h[b]?=some (CS rs i row)):ld h b i j n=cut row j n :=
 B7 (R:=6) (e:=29) (ro:=false) (rs:=rs.set i row) hb (by simp[hil])
theorem MS {lo:Nat}{h:Heap}{b i j:Nat}{row row' cs:List V} (hb:h[b]?=some (CS rs i row)) (hl:lo<=b) (hil:i<rs.length) (hp:paste row j cs=some row'):st lo h b i j cs=some (h.set b (CS rs i row')):=by have e:=B4 (lo:=lo) (R:=6) (e:=29) (rs:=rs.set i row) (r:=i) (row:=row) hb hl (by simp[hil]) hp;rw[e,zgv];rfl
section
variable {lo:Nat}{ro:Bool}{h:Heap}{F F':List Nat}{a a':Pq}{c c':Nq}
theorem W1 {b i0:Nat} (hrl:i0<rs.length) {a1 a2 a3:Pq}{c1 c2 c3:Nq}{F1 F2:List Nat} (hb:h[b]?=some (CS rs i0 (p.cs a1 c1 a2 c2 a3 c3))) (hs1:RNodes false h [.sl 2 a1 p.chain.length c1] p.chain F1) (hs2:RVers false h [.sl 6 a2 p.log.length c2] p.log F2)
  (h0:0<p.chain.length) (h4:(FQ p.chain).length=4) (hd:∀ y∈F1,y∉b :: F2) (hnd:(b :: F2).Nodup) (hlo:∀ y∈b :: F2,lo<=y) (hl:lo<=h.length) (hcl:p.chain.length<=1048576) (hlog:p.log.length<=1000000) (hvn:∀ v∈FQ p.chain,v.past.length<=1048576)
  (htag:∀ v∈FQ p.chain,Bd v.tag.time v.tag.place=true) :
  ∃ a2' c2' h' F2',Af lo 120 [.ptr (some (b,(i0,0)))] h=some (.tup [],h')/\h'[b]?=some (CS rs i0 ((Cg p).cs a1 c1 a2' c2' a3 c3))/\RVers false h' [.sl 6 a2' (Cg p).log.length c2'] (Cg p).log F2'/\Mv h (b :: F2) h' (b :: F2'):=by
 have hblt:b<h.length:=(Ga hb).1;have hlob:=hlo b (by simp);have hld2:ld h b i0 (0+2) 1=some [.sl 2 a1 p.chain.length c1]:=by rw[DF hrl hb];rfl
 obtain ⟨b1,d1,G1,e1,q1,q3⟩:=JE (lo:=lo) hld2 hs1 h0 hcl;rw[Ho h0] at h4 hvn htag;have one:∀ m i,m+i=4->∀ hh ax cx (lg:List Ver) Fx,hh[b]?=some (CS rs i0 [Iv p.me,Iv p.clock,.sl 2 a1 p.chain.length c1,.sl 6 ax lg.length cx,.sl 1 a3 p.got.length c3,.bool p.fell])->RVers false hh [.sl 6 ax lg.length cx] lg Fx->Mv h (b :: F2) hh (b :: Fx)->lg.length<=1000000+i->∃ a' c' h' F',
   AY lo b i0 0 b1 (p.chain[p.chain.length - 1]'(by omega)).store.length d1 ((p.chain[p.chain.length - 1]'(by omega)).store.length:Nat) (i:Nat) hh =
    AY lo b i0 0 b1 (p.chain[p.chain.length - 1]'(by omega)).store.length d1 ((p.chain[p.chain.length - 1]'(by omega)).store.length:Nat) (4:Nat) h' /\
   h'[b]?=some (CS rs i0 [Iv p.me,Iv p.clock,.sl 2 a1 p.chain.length c1,.sl 6 a' (((p.chain[p.chain.length - 1]'(by omega)).store.drop i).foldl (noted p.me) lg).length c',.sl 1 a3 p.got.length c3,.bool p.fell]) /\
   RVers false h' [.sl 6 a' (((p.chain[p.chain.length - 1]'(by omega)).store.drop i).foldl (noted p.me) lg).length c'] (((p.chain[p.chain.length - 1]'(by omega)).store.drop i).foldl (noted p.me) lg) F'/\Mv h (b :: F2) h' (b :: F'):=by
  intro m;induction m with
  | zero =>intro i hi hh ax cx lg Fx hbb hr hm hlen;rw[zgt (by omega),show i=4 by omega];exact ⟨ax,cx,hh,Fx,rfl,hbb,hr,hm⟩
  | succ m ih =>
   intro i hi hh ax cx lg Fx hbb hr hm hlen;have hil:i<(p.chain[p.chain.length - 1]'(by omega)).store.length:=by omega
   have q1':=hm.keep rvers_ok q1 λy hy=>hd y (q3 y hy);obtain ⟨o',s',b',d',G',ha',_,_,_,_,_,_,_,ho',es',hp',_⟩:=RVers.all q1' hil;have hmem:=zfD hil;have ht0:=Sf (htag _ hmem);have stay:=ih (i+1) (by omega) hh ax cx lg Fx hbb hr hm (by omega);have hno:=@noted.eq_1 p.me lg ((p.chain[p.chain.length - 1]'(by omega)).store[i]'hil);have l0:ld hh b i0 (0+0) 1=some [Iv p.me]:=by rw[DF hrl hbb];rfl
   have l3:ld hh b i0 (0+3) 1=some [.sl 6 ax lg.length cx]:=by rw[DF hrl hbb];rfl
   rw[zfT hil,zgD];generalize hx:((p.chain[p.chain.length - 1]'(by omega)).store[i]'hil)=x at *
   rw[AY.e,Ak (by omega),Ac hil];simp only[ha',Ae,AW,ho',Ab,Aa,es',A4,AB,Ag,l0,l3,Ah];rw[<- ha',Am (show i<9223372036854775807 by omega),Ms hr (by omega),zgp];simp only[Ad,Ar,l3,Ae,Ab,Ag,Ah];cases g1:decide (x.tag.time>0) with
   | false =>rw[g1,Bool.not_eq_false'] at ht0;rw[ht0,Aq,hno,g1];exact stay
   | true =>
   rw[g1,zgG] at ht0;rw[ht0,Ay];cases g2:(x.tag.place==p.me) with
   | false=>rw[Ay,hno,g1,g2];exact stay
   | true =>
   rw[Aq];cases g3:Dk lg x.tag with
   | true=>rw[Aq,hno,g1,g2,g3];exact stay
   | false =>
   rw[Ay,hno,g1,g2,g3];have hnx:=hm.nd;rw[zfN] at hnx;obtain ⟨a3',c3',h3,F3,e3,r3,m3⟩:=BJ (lo:=hh.length) (v:=x) hp' (zfH _) (hvn _ hmem);obtain ⟨a5,c5,h5,F5,e5,r5,m5⟩:=Ev (lo:=lo) (bytes:=72) (e:=43) rver_ok hr (row:=x.cs a3' c3') (x:=x) (G:=F3) (h1:=h3 ++ [.rows 6 43 false [x.cs a3' c3']])
    ⟨_,rfl,Mv.snoc.keep0 rtags_ok r3⟩ (m3.trans (Mv.snoc' m3.nd)) hnx.2 (λy hy=>hm.ge hl hlo y (by simp[hy])) (zfE hl hm.le) (by decide) (by omega)
   have hblth:b<hh.length:=zfO hblt hm.le;have hb5:h5[b]?=hh[b]?:=m5.fr b hblth hnx.1;rw[hbb] at hb5;have e6:=MS (cs := [.sl 6 a5 (lg.length+1) c5]) (j:=0+3) (row := [Iv p.me,Iv p.clock,.sl 2 a1 p.chain.length c1,.sl 6 ax lg.length cx,.sl 1 a3 p.got.length c3,.bool p.fell]) hb5 hlob hrl (FL (by simp));obtain ⟨m6,b6,k6,n6⟩:=m5.store hblth hnx.1 (CS rs i0 [Iv p.me,Iv p.clock,.sl 2 a1 p.chain.length c1,.sl 6 a5 (lg.length+1) c5,.sl 1 a3 p.got.length c3,.bool p.fell]);rw[e3];simp only[Ad,AN,Ab,Aa,Ah,A4,AB,Ag,A2];rw[e5];simp only[Ah];rw[e6];simp only[Ae];have:=ih (i+1) (by omega) (h5.set b (CS rs i0 [Iv p.me,Iv p.clock,.sl 2 a1 p.chain.length c1,.sl 6 a5 (lg.length+1) c5,.sl 1 a3 p.got.length c3,.bool p.fell])) a5 c5 (lg ++ [x]) F5 (by rw[zfR];exact b6) (by rw[zfR];exact rvers_ok.fr _ _ _ _ _ r5 λy hy=>k6 y λe=>n6 (e ▸ hy)) (hm.trans m6) (by simp;omega);exact this
 obtain ⟨a',c',h',F',el,hb',r,m⟩:=one 4 0 (by omega) h a2 c2 p.log F2 hb hs2 (Mv.refl hnd) (by omega);rw[zgF] at hb' r;generalize hres:(p.chain[p.chain.length - 1]'(by omega)).store.foldl (noted p.me) p.log=res at hb' r;have hnl:(Cg p).log=res:=by simp only[Cg,Ho h0,hres]
 have hblt':b<h'.length:=zfO hblt m.le;have hnx:=m.nd;rw[zfN] at hnx;have l3:ld h' b i0 (0+3) 1=some [.sl 6 a' res.length c']:=by rw[DF hrl hb'];rfl
 have e6:=MS (cs := [.sl 6 a' res.length (some res.length)]) (j:=0+3) (row := [Iv p.me,Iv p.clock,.sl 2 a1 p.chain.length c1,.sl 6 a' res.length c',.sl 1 a3 p.got.length c3,.bool p.fell]) hb' hlob hrl (FL (by simp));obtain ⟨m6,b6,k6,n6⟩:=(Mv.refl (h:=h') hnx.2).store hblt' hnx.1 (CS rs i0 [Iv p.me,Iv p.clock,.sl 2 a1 p.chain.length c1,.sl 6 a' res.length (some res.length),.sl 1 a3 p.got.length c3,.bool p.fell]);generalize hh6:h'.set b (CS rs i0 [Iv p.me,Iv p.clock,.sl 2 a1 p.chain.length c1,.sl 6 a' res.length (some res.length),.sl 1 a3 p.got.length c3,.bool p.fell])=h6 at m6 b6 k6;have e6':st lo h' b i0 (0+3) [.sl 6 a' res.length (some res.length)]=some h6:=by rw[<- hh6];exact e6
 have r6:RVers false h6 [.sl 6 a' res.length (some res.length)] res F':=rvers_ok.fr _ _ _ _ _ r.clip λy hy=>k6 y λe=>hnx.1 (e ▸ hy);have l2:ld h6 b i0 (0+2+0) 1=some [.sl 2 a1 p.chain.length c1]:=by rw[DF hrl b6];rfl
 have m7:=m.trans m6;have ec:=PH (lo:=lo) (g:=207) (cl := []) (p:=λx=>decide (x.wait.length>0)) (m7.keep rnodes_ok hs1 hd) hcl (λlo x a1 c1 a2 c2 _=>L6 (h':=h6) (by
  by_cases hw:x.wait.length>0
  ·rw[Ak (by omega),decide_eq_true hw]
  ·rw[Ai (by omega),decide_eq_false hw]))
 rw[zc9] at ec;suffices hq:∃ a2' c2' h' F2',_=some (V.tup [],h')/\h'[b]?=some (CS rs i0 ((Cg p).cs a1 c1 a2' c2' a3 c3))/\RVers false h' [.sl 6 a2' (Cg p).log.length c2'] (Cg p).log F2'/\Mv h (b :: F2) h' (b :: F2') from hq.imp λ_ hq=>hq.imp λ_ hq=>hq.imp λ_ hq=>hq.imp λ_ hq=>⟨Nu hq.1,hq.2⟩
 rw[e1];simp only[Ad,AN,Ab,Ah,Ag];rw[show (0:Int)=((0:Nat):Int) from rfl,el,AY.e,Ai (by omega)];simp only[l3,Ae,Ab,Ah,Ag];rw[MF r];simp only[Ad,Ah];rw[e6'];simp only[Ae,l2,Ab,Ah,Ag];rw[ec];simp only[Ad,Ar];have hcs:∀ f:Bool,f=(p.fell && !zb3 p.chain)->([Iv p.me,Iv p.clock,.sl 2 a1 p.chain.length c1,.sl 6 a' res.length (some res.length),.sl 1 a3 p.got.length c3,.bool f]:List V)=(Cg p).cs a1 c1 a' (some res.length) a3 c3:=by intro f hf;simp only[Place.cs,hnl];rw[hf];rfl
 cases hi:zb3 p.chain with
 | false =>rw[hi] at hcs;rw[zgx,Aq];refine ⟨a',some res.length,h6,F',rfl,?_,by rw[hnl];exact r6,m7⟩;rw[b6,hcs p.fell (by simp)]
 | true =>rw[hi] at hcs;rw[zgo,Ay];have e8:=MS (cs := [.bool false]) (j:=0+5) (row := [Iv p.me,Iv p.clock,.sl 2 a1 p.chain.length c1,.sl 6 a' res.length (some res.length),.sl 1 a3 p.got.length c3,.bool p.fell]) b6 hlob hrl (FL (by simp));obtain ⟨m8,b8,k8,n8⟩:=(Mv.refl (h:=h6) hnx.2).store (zfO hblt m7.le) hnx.1 (CS rs i0 [Iv p.me,Iv p.clock,.sl 2 a1 p.chain.length c1,.sl 6 a' res.length (some res.length),.sl 1 a3 p.got.length c3,.bool false]);rw[e8];simp only[Ae];refine ⟨a',some res.length,_,F',rfl,?_,by rw[hnl];exact rvers_ok.fr _ _ _ _ _ r6 λy hy=>k8 y λe=>hnx.1 (e ▸ hy),m7.trans m8⟩;rw[<- hcs false (by simp)];exact b8
theorem I6 {b i0:Nat} (hrl:i0<rs.length) {a1 a2 a3:Pq}{c1 c2 c3:Nq}{F1 F2:List Nat} (hb:h[b]?=some (CS rs i0 (p.cs a1 c1 a2 c2 a3 c3))) (hs1:RNodes false h [.sl 2 a1 p.chain.length c1] p.chain F1) (hs2:RVers false h [.sl 6 a2 p.log.length c2] p.log F2)
  (h0:0<p.chain.length) (ht:Tidy 10 20 100 p) (hd:∀ y∈F1,y∉b :: F2) (hnd:(b :: F2).Nodup) (hlo:∀ y∈b :: F2,lo<=y) (hl:lo<=h.length) :
  ∃ a2' c2' h' F2',Af lo 120 [.ptr (some (b,(i0,0)))] h=some (.tup [],h')/\h'[b]?=some (CS rs i0 ((Cg p).cs a1 c1 a2' c2' a3 c3))/\RVers false h' [.sl 6 a2' (Cg p).log.length c2'] (Cg p).log F2'/\Mv h (b :: F2) h' (b :: F2'):=by
 obtain ⟨x,hx,hxe⟩:=LJ h0;have hxn:=ht.node x hx;exact W1 hrl hb hs1 hs2 h0 (by rw[hxe];exact hxn.1) hd hnd hlo hl (zfE ht.len (by decide)) (zfE ht.log.1 (by decide))
  (λv hv=>by rw[hxe] at hv;have:=(hxn.2.2.1 v hv).1;omega) (λv hv=>by rw[hxe] at hv;exact (hxn.2.2.1 v hv).2.2)
theorem UH {t:Int}{b i0:Nat} (hrl:i0<rs.length) {a1 a2 a3:Pq}{c1 c2 c3:Nq}{F1 F2:List Nat} (hb:h[b]?=some (CS rs i0 (p.cs a1 c1 a2 c2 a3 c3))) (hs1:RNodes false h [.sl 2 a1 p.chain.length c1] p.chain F1) (hs2:RVers false h [.sl 6 a2 p.log.length c2] p.log F2)
  (h0:0<p.chain.length) (ht:Tidy 10 20 100 p) (hd:∀ y∈F1,y∉b :: F2) (hnd:(b :: F2).Nodup) (hlo:∀ y∈b :: F2,lo<=y) (hl:lo<=h.length) :
  ∃ h1 a2' c2' h' F2',st lo h b i0 (0+1) [Iv t]=some h1/\Af lo 120 [.ptr (some (b,(i0,0)))] h1=some (.tup [],h')/\h'[b]?=some (CS rs i0 ((Cg (Fv p t)).cs a1 c1 a2' c2' a3 c3)) /\
   RVers false h' [.sl 6 a2' (Cg (Fv p t)).log.length c2'] (Cg (Fv p t)).log F2'/\Mv h (b :: F2) h' (b :: F2'):=by
 have hblt:b<h.length:=(Ga hb).1;have e6:=MS (cs := [Iv t]) (j:=0+1) (row:=p.cs a1 c1 a2 c2 a3 c3) hb (hlo b (by simp)) hrl (FL (by simp[Place.cs]));have hnd':=hnd;rw[zfN] at hnd';obtain ⟨m6,b6,k6,n6⟩:=(Mv.refl (h:=h) hnd'.2).store hblt hnd'.1 (CS rs i0 ((Fv p t).cs a1 c1 a2 c2 a3 c3));have hs1':=m6.keep rnodes_ok hs1 hd;have hs2':RVers false (h.set b (CS rs i0 ((Fv p t).cs a1 c1 a2 c2 a3 c3))) [.sl 6 a2 p.log.length c2] p.log F2:=rvers_ok.fr _ _ _ _ _ hs2 λy hy=>k6 y λe=>n6 (e ▸ hy);obtain ⟨a2',c2',h',F2',e7,q7,r7,m7⟩:=I6 (lo:=lo) (p:=Fv p t) hrl b6 hs1' hs2' h0 ⟨ht.len,ht.node,ht.log,ht.got⟩ hd hnd hlo (zfE hl m6.le);exact ⟨_,a2',c2',h',F2',e6,e7,q7,r7,m6.trans m7⟩
end


variable {p:Place}{v:Ver}
def Kq (p:Place) (f:Nat) (at':Int) (v:Ver):Bool := !((f:Int)==p.me)&&((at'==((L1 p f).length:Int))&&(decide (((L1 p f).length:Int)<60) && !Dk (L1 p f) v.tag))
def JB (p:Place) (f at':Int) (v:Ver):Bool:=Aj f 0 2&&(BO v&&((v.tag.place==f)&&Kq p f.toNat at' v))
def Kr (p:Place) (f:Nat) (v:Ver):Place:=⟨p.me,p.clock,p.chain,p.log,p.got.set f (L1 p f ++ [v]),p.fell⟩
def IZ (p:Place) (f at':Int) (v:Ver):Place:=bif JB p f at' v then Kr p f.toNat v else p
theorem Ly {a:Option (List V)}:HG a a=true:=by unfold HG;exact (@decide_eq_true_iff _ (_)).2 rfl
theorem zaZ {f:Nat}{a1 a2 a3:Pq}{c1 c2 c3:Nq}:(Kr p f v).cs a1 c1 a2 c2 a3 c3=p.cs a1 c1 a2 c2 a3 c3:=by simp only[Place.cs,Kr,zf6]
theorem zbw {nc nw nl f:Nat} (h:Tidy nc nw nl p) (hv:thin v):Tidy nc nw (nl+1) (Kr p f v):=by
 refine ⟨h.len,h.node,⟨Nat.le_succ_of_le h.log.1,h.log.2⟩,by show (p.got.set f _).length<=3;rw[zf6];exact h.got.1,λl hl=>?_⟩;rcases zgd (show l∈p.got.set f (L1 p f ++ [v]) from hl) with hl | rfl
 ·exact ⟨Nat.le_succ_of_le (h.got.2 l hl).1,(h.got.2 l hl).2⟩
 ·have:(L1 p f).length<=nl/\∀ v∈L1 p f,thin v:=by
   unfold L1;split
   ·rename_i l hl;exact h.got.2 l (zfV hl)
   ·exact ⟨zgr _,by simp⟩
  refine ⟨by simp;exact this.1,λw hw=>?_⟩;rcases zfF.1 hw with hw | hw
  ·exact this.2 w hw
  ·rw[zgg] at hw;subst hw;exact hv
theorem zb4 {h h':Heap}{b:Nat}{G1 G2 G3 G3':List Nat} (m:Mv h G3 h' G3') (hnd:(b ::(G1++(G2++G3))).Nodup) (hb:∀ y∈b ::(G1++(G2++G3)),y<h.length) :
  Mv h (b ::(G1++(G2++G3))) h' (b ::(G1++(G2++G3')))/\b∉G3/\(∀ y∈G1,y∉G3)/\∀ y∈G2,y∉G3:=by
 have hnd':=hnd;rw[zfN,zfG,zfF,zfF,zfG] at hnd';obtain ⟨n1,n2,⟨n3,n4,n5⟩,n6⟩:=hnd';simp only[not_or] at n1;have e:b ::(G1++(G2++G3))=(b ::(G1++G2))++G3:=by simp
 have e':b ::(G1++(G2++G3'))=(b ::(G1++G2))++G3':=by simp
 refine ⟨?_,n1.2.2,λy hy hm=>n6 y hy y (by simp[hm]) rfl,λy hy hm=>n5 y hy y hm rfl⟩;rw[e] at hnd hb ⊢;rw[e'];rw[zfG] at hnd;exact (m.aside (G:=b ::(G1++G2)) (by rw[zfG];exact ⟨hnd.2.1,hnd.1,λx hx y hy e=>hnd.2.2 y hy x hx e.symm⟩) λy hy=>hb y (by rw[zfF];exact .inl hy)).swap
section
variable {lo:Nat}{h:Heap}{F F' G:List Nat}{a a' av:Pq}{c c' cv:Nq}
theorem Wq {f:Nat}{at':Int}{a1 a2 a3:Pq}{c1 c2 c3:Nq}{F3:List Nat} (hs3:RVss false h [.sl 1 a3 p.got.length c3] p.got F3) (hv:RTags false h [.sl 2 av v.past.length cv] v.past G)
  (hf:f<p.got.length) (hgn:p.got[f].length<=1000000) (hvn:v.past.length<=1048576) (hnd:F3.Nodup) (hlo:∀ b∈F3,lo<=b) (hl:lo<=h.length) :
  ∃ h' F3',Af lo 260 [.agg (p.cs a1 c1 a2 c2 a3 c3),Iv (f:Nat),Iv at',.agg (v.cs av cv)] h=some (.tup [.agg (p.cs a1 c1 a2 c2 a3 c3),.bool (Kq p f at' v)],h') /\
   RVss false h' [.sl 1 a3 p.got.length c3] (bif Kq p f at' v then p.got.set f (p.got[f] ++ [v]) else p.got) F3'/\Mv h F3 h' F3'/\(Kq p f at' v=false->h'=h):=by
 suffices hq:∃ h' F3',_=some (V.tup [.agg (p.cs a1 c1 a2 c2 a3 c3),.bool (Kq p f at' v)],h')/\RVss false h' [.sl 1 a3 p.got.length c3] (bif Kq p f at' v then p.got.set f (p.got[f] ++ [v]) else p.got) F3'/\Mv h F3 h' F3'/\(Kq p f at' v=false->h'=h) from hq.imp λh' hq=>hq.imp λF' hq=>⟨UR hq.1,hq.2⟩
 have hh:Kq p f at' v=(!((f:Int)==p.me)&&((at'==(p.got[f].length:Int))&&(decide ((p.got[f].length:Int)<60) && !Dk p.got[f] v.tag))):=by unfold Kq;rw[Lb hf]
 rw[hh];cases x1:((f:Int)==p.me) with
 | true=>rw[Aq];exact ⟨h,F3,rfl,hs3,Mv.refl hnd,λ_=>rfl⟩
 | false =>
 obtain ⟨b,i,rs,row,G0,ha,hbF,hbG,hb,hrow,hel,hGF,hGn,_,put⟩:=hs3.at rvers_ok hf hnd hlo;have hrs:∃ s,row = [s]:=by obtain ⟨R',a',c',e,_⟩:=id hel;exact ⟨_,e⟩
 obtain ⟨s,rfl⟩:=hrs;obtain ⟨b3,d3,es,r3⟩:=hel.form;have hld:ld h b (i+f) 0 1=some [s]:=by rw[B7 hb hrow];rfl
 rw[Ay,Ac hf,ha,Ae,AW,hld,Ae,Ab,Ag,es];cases x2:(at'==(p.got[f].length:Int)) with
 | false=>rw[Ay];exact ⟨h,F3,rfl,by rw[<- ha];exact hs3,Mv.refl hnd,λ_=>rfl⟩
 | true =>
 have hat:at'=(p.got[f].length:Int):=by rwa [beq_iff_eq] at x2
 rw[Aq];cases x3:decide ((p.got[f].length:Int)<60) with
 | false =>
  have:(p.got[f].length:Int)>=60:=by have:=of_decide_eq_false x3;omega
  rw[Ak (by omega)];exact ⟨h,F3,rfl,by rw[<- ha];exact hs3,Mv.refl hnd,λ_=>rfl⟩
 | true =>
 have:(p.got[f].length:Int)<60:=of_decide_eq_true x3;rw[Ai (by omega),Ac hf,Ae,hld,Ae,Ab,Ag,es,Ny r3 (by omega),Ad,Ar];have hht:Dk p.got[f] ⟨v.tag.time,v.tag.place⟩=Dk p.got[f] v.tag:=rfl;rw[hht];cases x4:Dk p.got[f] v.tag with
 | true=>rw[Aq];exact ⟨h,F3,rfl,by rw[<- ha];exact hs3,Mv.refl hnd,λ_=>rfl⟩
 | false =>
 obtain ⟨a5,c5,h5,F5,e5,r5,m5⟩:=DK (lo:=h.length) (v:=v) hv (zfH _) hvn;obtain ⟨a6,c6,h6,F6,e6,r6,m6⟩:=Ev (lo:=lo) (bytes:=72) (e:=43) rver_ok r3 (row:=v.cs a5 c5) (x:=v) (G:=F5) (h1:=h5 ++ [.rows 6 43 false [v.cs a5 c5]])
  ⟨_,rfl,Mv.snoc.keep0 rtags_ok r5⟩ (m5.trans (Mv.snoc' m5.nd)) hGn (λy hy=>hlo y (hGF y hy)) hl (by decide) (by omega)
 rw[show p.got[f].length+1=(p.got[f] ++ [v]).length by simp] at r6;obtain ⟨h7,F7,e7,r7,m7,_⟩:=put h6 F6 0 [.sl 6 a6 (p.got[f] ++ [v]).length c6] [.sl 6 a6 (p.got[f] ++ [v]).length c6] (p.got[f] ++ [v]) m6 rfl r6;rw[show (p.got[f] ++ [v]).length=p.got[f].length+1 by simp] at e7;rw[Ay,Ac hf,Ae,hld,Ae,Ab,Ag,es,e5,Ad,AN,Ab,Aa,Ab,Aa,Ab,Aa,Ab,Ah,Ab,A4,Ab,AB,Ag,A2];simp only[Ver.cs] at e6;rw[e6,Ah,Ac hf,Ae,e7,Ae];exact ⟨h7,F7,rfl,by rw[<- ha];exact r7,m7,λg=>by cases g⟩
end


variable {l:List Tag}{p:Place}{k:Int}{s:ByteArray}{T:Type}{K:V->Heap->Option T}
def AX (p:Place) (l:List Tag):Int:=Jo (Fm l) p.clock+1
def Fh (p:Place) (k:Int) (s:ByteArray) (g:Bool) (l:List Tag):Ver:=⟨k,⟨AX p l,p.me⟩,l,s,g⟩
def Jd (p:Place) (l:List Tag):Bool:=Et l (Bl p.chain)&&(EJ p.chain 0&&(decide (AX p l<=999)&&decide ((p.log.length:Int)<36)))
def BE (p:Place) (k:Int) (s:ByteArray) (g:Bool) (l:List Tag):Bool:=Aj k 0 3&&(GM s&&((!g || Gm s)&&(Bt l&&Jd p l)))
def FV (p:Place) (k:Int) (s:ByteArray) (g:Bool) (l:List Tag):Place×Tag:=bif AM p then (bif BE p k s g l then (Cg (Hy p 0 (AX p l) (Fh p k s g l)),⟨AX p l,p.me⟩) else (p,⟨0,0⟩)) else (zeO,⟨0,0⟩)
theorem newer_lt_iff {a c x:Int}:Jo a c<x<->a<x/\c<x:=by unfold Jo;split<;>omega
theorem zea {A B:Int} (h:∀ x,A<x<->B<x):A=B:=by have h1:=(h (A+1)).1 (by omega);have h2:=(h (B+1)).2 (by omega);omega
theorem zbO {c:Int} (hc:0<=c):l.foldl (λm t=>if t.time>m then t.time else m) c=Jo (Fm l) c:=by
 refine zea λx=>?_;rw[newer_lt_iff,latest_lt,Tf];constructor
 ·rintro ⟨h1,h2⟩;exact ⟨⟨by omega,h2⟩,h1⟩
 ·rintro ⟨⟨_,h2⟩,h1⟩;exact ⟨h1,h2⟩
theorem zbT (h:Bt l=true):0<=Fm l/\Fm l<=999:=by
 have h1:Fm l<1000:=latest_lt.2 ⟨by omega,λt ht=>by
  simp only[Bt,E1,zfW] at h;have:=Gi (h.2 t ht);omega⟩
 have h2:¬ Fm l<0:=λh=>by have:=(latest_lt.1 h).1;omega
 omega
theorem Wm (hp:AM p=true) (h:Bt l=true):1<=AX p l/\AX p l<=1000/\Fm l<AX p l/\p.clock<AX p l:=by have h1:=zbT h;have h2:=(A3 hp).2.1;unfold AX Jo;split<;>omega
theorem Qh {g:Bool} (h:BE p k s g l=true):(0<=k/\k<=3)/\GM s=true/\(g=true->Gm s=true)/\Bt l=true/\Et l (Bl p.chain)=true/\EJ p.chain 0=true/\AX p l<=999/\p.log.length<36:=by unfold BE Jd at h;simp only[E1,zgJ,decide_eq_true_eq,Aj,zgG] at h;obtain ⟨h1,h2,h3,h4,h5,h6,h7,h8⟩:=h;exact ⟨h1,h2,λhg=>h3.resolve_left (by rw[hg];simp),h4,h5,h6,h7,by omega⟩
theorem Mm {g:Bool} (hp:AM p=true) (h:BE p k s g l=true):thin (Fh p k s g l):=by obtain ⟨h1,h2,h3,h4,h5,h6,h7,h8⟩:=Qh h;have g1:=BX h4;have g2:=Ja h2;have g3:=Wm hp h4;have g4:=(A3 hp).1;refine ⟨by show l.length<=4;omega,by show s.size<=8;omega,?_⟩;show Bd (AX p l) p.me=true;unfold Bd Aj;rw[decide_eq_true g3.1,decide_eq_true h7,decide_eq_true g4.1,decide_eq_true g4.2];simp
theorem zdL {lo lo' e R bytes q:Nat}{a:Pq}{xs:List (List V)}{h:Heap}:DJ lo e R bytes (.sl q a 0 (some 0)) xs h K=DJ lo' e R bytes (.sl q a 0 (some 0)) xs h K:=by
 cases xs with
 | nil=>rfl
 | cons x xs =>
  cases a with
  | none=>rfl
  | some p =>
   obtain ⟨b,i⟩:=p;simp only[DJ];have:Nat.ble (0+(x :: xs).length) 0=false:=by rw[zgw,zfY];rfl
   rw[this]
section
variable {lo:Nat}{ro:Bool}{h:Heap}{F F' G:List Nat}{a a' av:Pq}{c c' cv:Nq}
theorem QQ {a1 a2 a3:Pq}{c1 c2 c3:Nq} (hv:RTags ro h [.sl 2 av l.length cv] l G) (hok:AM p=true) (hl:Bt l=true) :
  Af lo 126 [.agg (p.cs a1 c1 a2 c2 a3 c3),.agg [.sl 2 av l.length cv]] h=some (Iv (AX p l),h):=by
 have h4:=BX hl;have hc:=(A3 hok).2.1;refine UQ (h':=h) ?_;have loop:∀ m i x,m+i=4->(∀ y:Int,(l.drop i).foldl (λm t=>if t.time>m then t.time else m) x=y -> -9223372036854775808<=y+1/\y+1<=9223372036854775807)->Dd (List.length h) x (i:Nat) av l.length cv h=some (Iv ((l.drop i).foldl (λm t=>if t.time>m then t.time else m) x+1),h):=by
  intro m;induction m with
  | zero =>intro i x hi hb;rw[zgt (by omega)] at hb ⊢;have:=hb x rfl;rw[Dd.e,Ai (by omega),wr (by omega) (by omega)];rfl
  | succ m ih =>
   intro i x hi hb;have hil:i<l.length:=by omega
   obtain ⟨o,ha,ho⟩:=hv.get hil;have ho1:ld h o.1 (o.2+i) 0 1=some [Iv l[i].time]:=by obtain ⟨o',row,G',h1,h2,⟨rfl,_⟩,_⟩:=hv.read hil;rw[ha] at h1;injection h1 with h1;subst h1;rw[h2];rfl
   rw[zfT hil,zgD] at hb ⊢;rw[Dd.e,Ak (by omega),Ac hil,ha,Ae,AW,ho1,Ae,Ab,Ag,Aa,Ac hil,Ae,ho1,Ae,Ab,Ag,Aa,Am (show i<9223372036854775807 by omega),<- ha];by_cases ht:l[i].time>x
   ·rw[if_pos ht] at hb ⊢;rw[Ak ht];exact ih (i+1) _ (by omega) hb
   ·rw[if_neg ht] at hb ⊢;rw[Ai ht];exact ih (i+1) _ (by omega) hb
 have hnf:∀ y,(l.drop 0).foldl (λm t=>if t.time>m then t.time else m) p.clock=y->y=Jo (Fm l) p.clock:=λy hy=>by rw[<- hy,zgF,zbO hc.1]
 have hb:=Wm hok hl;have:=loop 4 0 p.clock rfl (λy hy=>by rw[hnf y hy];unfold AX at hb;omega);rw[hnf _ rfl] at this;exact this
theorem ZM {a1 a2 a3:Pq}{c1 c2 c3:Nq}{F1:List Nat} (hs1:RNodes ro h [.sl 2 a1 p.chain.length c1] p.chain F1) (hv:RTags ro h [.sl 2 av l.length cv] l G) (hok:AM p=true) (hl:Bt l=true) (hn:Ef p) :
  Af lo 57 [.agg (p.cs a1 c1 a2 c2 a3 c3),.agg [.sl 2 av l.length cv]] h=some (.bool (Jd p l),h):=by
 have h0:=Dm hok;have hchain:=(A3 hok).2.2.2.1;obtain ⟨v5,h5,F5,e5,r5,m5⟩:=KH (lo:=h.length) hs1 (zfH _) hn.1 h0;obtain ⟨a6,c6,e6,r6⟩:=r5.form;refine XN (h':=h5) ?_;have en:=QQ (lo:=h.length) (a1:=a1) (c1:=c1) (a2:=a2) (c2:=c2) (a3:=a3) (c3:=c3) (m5.keep0 rtags_ok hv) hok hl;simp only[Place.cs] at en;unfold Jd;rw[e5,Ad,AN,Ab,e6,Ag,GX (m5.keep0 rtags_ok hv) r6 (BX hl) (Lv hchain),Ad,Ar];cases Et l (Bl p.chain) with
 | false=>rw[Ay];rfl
 | true =>
 rw[Aq,QR (m5.keep0 rnodes_ok hs1) h0,Ad,Ar];cases EJ p.chain 0 with
 | false=>rw[Ay];rfl
 | true =>
 rw[Aq,en,Ad,Aa];cases decide (AX p l<=999) with
 | false=>rw[Ay];rfl
 | true =>
 rw[Aq];cases decide ((p.log.length:Int)<36) with
 | false=>rw[Ay];rfl
 | true=>rw[Aq];rfl
theorem OB {g:Bool}{a1 a2 a3:Pq}{c1 c2 c3:Nq}{F1 F2 F3:List Nat} (hs1:RNodes false h [.sl 2 a1 p.chain.length c1] p.chain F1) (hs2:RVers false h [.sl 6 a2 p.log.length c2] p.log F2) (hs3:RVss false h [.sl 1 a3 p.got.length c3] p.got F3)
  (hv:RTags false h [.sl 2 av l.length cv] l G) (hok:AM p=true) (hc:BE p k s g l=true) (hnd:(F1++(F2++F3)).Nodup) (hlo:∀ b∈F1++(F2++F3),lo<=b) (hl:lo<=h.length) :
  ∃ a2' c2' h' F',Af lo 59 [.agg (p.cs a1 c1 a2 c2 a3 c3),Iv k,.str s,.bool g,.agg [.sl 2 av l.length cv]] h=some (.tup [.agg ((Cg (Hy p 0 (AX p l) (Fh p k s g l))).cs a1 c1 a2' c2' a3 c3),.agg [Iv (AX p l),Iv p.me]],h') /\
   Cz false h' ((Cg (Hy p 0 (AX p l) (Fh p k s g l))).cs a1 c1 a2' c2' a3 c3) (Cg (Hy p 0 (AX p l) (Fh p k s g l))) F'/\Mv h (F1++(F2++F3)) h' F':=by
 obtain ⟨g1,g2,g3,g4,g5,g6,g7,g8⟩:=Qh hc;have h0:=Dm hok;have hl4:=BX g4;have hti:=ID hok;obtain ⟨a5,c5,h5,F5,e5,r5,m5⟩:=Lf (lo:=h.length) (h:=h) (l:=l) (zfH _) (by omega);rw[<- zfS] at hnd hlo ⊢;have hnd':=hnd;rw[zfG] at hnd';have hdis:∀ y∈F3,y∉F1++F2:=λy hy hm=>hnd'.2.2 y hm y hy rfl;have hb12:∀ y∈F1++F2,y<h.length:=λy hy=>by rw[zfF] at hy;exact hy.elim (rnodes_ok.bd _ _ _ _ hs1 y) (rvers_ok.bd _ _ _ _ hs2 y)
 obtain ⟨h6,a6,c6,h7,F6,F7,e6,e7,r6,r7,m7⟩:=OD (lo:=lo) (v:=Fh p k s g l) (k:=0) (t:=AX p l) (a3:=a3) (c3:=c3) (m5.keep0 rnodes_ok hs1) (m5.keep0 rvers_ok hs2) r5 (λy hy hm=>by
  have:=m5.new y hy;have:=hb12 y (by simp[hm]);omega) hnd'.1 (λy hy=>hlo y (by rw[zfF];exact .inl hy)) (zfE hl m5.le) h0 g1 hti (Mm hok hc)
 have hcs:(Hy p 0 (AX p l) (Fh p k s g l)).cs a1 c1 a2 c2 a3 c3 = [Iv p.me,Iv (AX p l),.sl 2 a1 p.chain.length c1,.sl 6 a2 p.log.length c2,.sl 1 a3 p.got.length c3,.bool p.fell]:=by simp only[Place.cs,Hy,Gu]
 rw[hcs] at e7;have m5':Mv h (F1++F2) h5 (F1++F2):=(m5.drop.aside (G:=F1++F2) hnd'.1 hb12);have m8:=m5'.trans m7;have b3':∀ y∈F3,y<h.length:=rvss_ok.bd _ _ _ _ hs3;have m9:=m8.aside (G:=F3) hnd b3';have hs3':=m8.keep rvss_ok hs3 hdis;refine ⟨a6,c6,h7,F6++F7++F3,TD ?_,⟨_,_,_,_,_,_,rfl,_,_,_,F6,F7,F3,rfl,by rw[zfS],r6,r7,hs3'⟩,m9⟩;have en:=QQ (lo:=h.length) (a1:=a1) (c1:=c1) (a2:=a2) (c2:=c2) (a3:=a3) (c3:=c3) hv hok g4;simp only[Place.cs] at en;have e6':Af lo 129 [.agg [.sl 2 a1 p.chain.length c1],Iv 0,.agg [Iv k,Iv (AX p l),Iv p.me,.sl 2 a5 l.length c5,.str s,.bool g]] h5=some (.agg [.sl 2 a1 p.chain.length c1],h6):=e6;rw[en,Ad,Aa,RTags.rows (Mv.snoc.keep0 rtags_ok hv),zdL (lo':=h.length),e5,Ah,e6',Ad,AN,Ab,Ah,Ag,e7,Ad,AN];simp only[Place.cs];rw[Ab,Aa,Ab,Aa,Ab,Ah,Ab,Ah,Ab,Ah,Ab,AB,Ag]
end


variable {p:Place}{s:ByteArray}{l:List Tag}
theorem Zp {k:Int}{g:Bool}:BE p k s g l=(HS ⟨k,⟨0,0⟩,l,s,g⟩&&Jd p l):=by unfold BE HS;simp only[Bool.and_assoc]
theorem Ya {k:Int}{g:Bool} (h:AM p=true):FV p k s g l=bif BE p k s g l then (Cg (Hy p 0 (AX p l) (Fh p k s g l)),⟨AX p l,p.me⟩) else (p,⟨0,0⟩):=by unfold FV;rw[h,cond_true]
section
variable {lo:Nat}{h:Heap}{F F' G:List Nat}{a a' av:Pq}{c c' cv:Nq}
end


variable {p:Place}{prs:List (List V)}
section
variable {lo:Nat}{ro:Bool}{h:Heap}{F F' G:List Nat}{a a' av:Pq}{c c' cv:Nq}
theorem zag {b i0:Nat} (hrl:i0<prs.length) {k:Int}{a1 a2 a3:Pq}{c1 c2 c3:Nq}{G1 G2 G3:List Nat} (hb:h[b]?=some (CS prs i0 (p.cs a1 c1 a2 c2 a3 c3))) (hs1:RNodes false h [.sl 2 a1 p.chain.length c1] p.chain G1) (hs2:RVers false h [.sl 6 a2 p.log.length c2] p.log G2) (hs3:RVss false h [.sl 1 a3 p.got.length c3] p.got G3)
  (hok:AM p=true) (hn:Ef p) (hnd:(b ::(G1++(G2++G3))).Nodup) (hlo:∀ y∈b ::(G1++(G2++G3)),lo<=y) (hl:lo<=h.length) :
  ∃ h' row' F',Af lo 225 [.ptr (some (b,(i0,0))),Iv k] h=some (.bool (Ek p k),h')/\Cz false h' row' (Ff p k) F'/\h'[b]?=some (CS prs i0 (row'))/\Mv h (b ::(G1++(G2++G3))) h' (b :: F'):=by
 suffices hq:∃ h' row' F',_=some (V.bool (Ek p k),h')/\Cz false h' row' (Ff p k) F'/\h'[b]?=some (CS prs i0 (row'))/\Mv h (b ::(G1++(G2++G3))) h' (b :: F') from by obtain ⟨h',row',F',e,hr⟩:=hq;exact ⟨h',row',F',Pw e,hr⟩
 have hblt:b<h.length:=(Ga hb).1;have hbd:∀ y∈b ::(G1++(G2++G3)),y<h.length:=λy hy=>by
  simp only[zfL,zfF] at hy;rcases hy with rfl | hy | hy | hy
  ·exact hblt
  ·exact rnodes_ok.bd _ _ _ _ hs1 y hy
  ·exact rvers_ok.bd _ _ _ _ hs2 y hy
  ·exact rvss_ok.bd _ _ _ _ hs3 y hy
 have stay:∀ h',Mv h [] h' []->Ek p k=false->∃ h'' row' F',some (V.bool false,h')=some (V.bool (Ek p k),h'')/\Cz false h'' row' (Ff p k) F'/\h''[b]?=some (CS prs i0 (row'))/\Mv h (b ::(G1++(G2++G3))) h'' (b :: F'):=λh' m hc=>by unfold Ff;rw[hc];exact ⟨h',_,G1++(G2++G3),rfl,⟨_,_,_,_,_,_,rfl,_,_,_,G1,G2,G3,rfl,rfl,m.keep0 rnodes_ok hs1,m.keep0 rvers_ok hs2,m.keep0 rvss_ok hs3⟩,by rw[m.fr b hblt (by simp)];exact hb,m.aside (G:=b ::(G1++(G2++G3))) hnd hbd⟩
 have h0:=Dm hok;have hhl:=OX hok;have hg3:=(A3 hok).2.2.1;have hti:=ID hok;rw[ER];simp only[Ad,Ar];cases hw:Aj k 0 2 with
 | false=>rw[Ay];exact stay h Mv.nil (by unfold Ek;rw[hw];rfl)
 | true =>
 obtain ⟨f,rfl,hf⟩:=Sb hw;have hf':f<p.got.length:=by omega
 have hct:Ek p (f:Int)=Ma p f:=by unfold Ek;rw[hw,AW];rfl
 have hky:∀ v∈p.got[f],0<=v.key/\v.key<(Fp p.chain).length:=λv hv=>by have:=(AZ (Nb hok hf' hv)).1;omega
 have hgn:p.got[f].length<=1048576:=(hn.2.2.2 _ (zfD hf')).1;obtain ⟨o3,s3,b3,d3,H3,ha3,ho3,e3,q3,hH3⟩:=hs3.get hf';obtain ⟨o,s1,s2,b1,d1,b2,d2,H1,H2,ha,_,ho1,_,e1,_,q1,_⟩:=hs1.get h0;have l4:∀ hh:Heap,hh[b]?=some (CS prs i0 (p.cs a1 c1 a2 c2 a3 c3))->ld hh b i0 (0+4) 1=some [.sl 1 a3 p.got.length c3]:=λhh hb=>by rw[DF hrl hb];rfl
 have l2:ld h b i0 (0+2) 1=some [.sl 2 a1 p.chain.length c1]:=by rw[DF hrl hb];rfl
 have hidx:=NI (lo:=lo) (g:=210) (cl := [.tup [.agg [.sl 6 b1 p.chain[0].store.length d1]]]) (p:=Jx (Fp p.chain)) q3 hgn (λlo v a c G hv ht=>by
  have:=hky v hv;rw[IP h0] at this ⊢;rw[Rc (by omega)];exact N4 q1 this)
 rw[Aq,l4 h hb];simp only[Ae,Ab,Ah,Ag];rw[Ac hf'];simp only[ha3,Ae,AW,ho3,Ab,e3,Ag,zgl,l2,Ah];rw[show (0:Int)=((0:Nat):Int) from rfl,Ac h0];have ho1':ld h o.fst o.snd 0 1=some [s1]:=ho1;simp only[ha,Ae,ho1',Ab,e1,Ag];rw[hidx];simp only[Ad,Aa];rcases N1 hf' with ⟨i,hi,x1,x2⟩ | ⟨x1,x2⟩
 ·obtain ⟨o4,s4,b4,d4,H4,ha4,ho4,e4,q4,hH4⟩:=q3.get hi;have hv:=Nb hok hf' (zfD hi);have hvp:=AZ hv;have hpl:=BX hvp.2.2.2.1;have htk:Ma p f=(EJ p.chain 0&&Et p.got[f][i].past (Bl p.chain)):=by unfold Ma;rw[x2]
  rw[x1,Ai (by omega)];rw[l4 h hb,Ae,Ab,Ag,Ah,Ac hf',ha3,Ae,AW,ho3,Ae,Ab,Ag,e3,Ac hi,ha4,Ae,ho4,Ae,Ab,Aa,Ab,Aa,Ab,Aa,Ab,e4,Ab,A4,Ab,AB,Ag];obtain ⟨bt,dt,Ht,et,rt,_⟩:=JE (lo:=lo) (b:=b) (i:=i0) (j:=0+2) l2 hs1 h0 hn.1.1;have hslen:(p.chain[p.chain.length - 1]'(by omega)).store.length=4:=(hti.node _ (zfD _)).1;obtain ⟨vt,h5,F5,e5,r5,m5⟩:=MZ (lo:=lo) rt hl hslen;obtain ⟨a6,c6,e6,r6⟩:=r5.form;rw[et,Ad,AN,Ab,Ah,Ag,e5,Ad,AN,Ab,e6,Ag,LK (m5.keep0 rtags_ok q4) r6 (by omega) (by simp only[BW,zhb];omega),Ad,Ar];rw[Je h0] at htk;cases hu:Et p.got[f][i].past (BW (p.chain[p.chain.length - 1]'(by omega)).store) with
  | false=>rw[Ay];exact stay h5 m5.drop (by rw[hct,htk,hu,zgI])
  | true =>
  rw[hu,zgp] at htk;have hb5:h5[b]?=some (CS prs i0 (p.cs a1 c1 a2 c2 a3 c3)):=by rw[m5.fr b hblt (by simp)];exact hb
  have hnd':=hnd;rw[zfN,zfG,zfF,zfF,zfG] at hnd';obtain ⟨n1,n2,⟨n3,n4,n5⟩,n6⟩:=hnd';simp only[not_or] at n1;have hs15:=m5.keep0 rnodes_ok hs1;have hs25:=m5.keep0 rvers_ok hs2;have hs35:=m5.keep0 rvss_ok hs3;have q45:=m5.keep0 rtags_ok q4;have hkey0:p.got[f][i].key<p.chain[0].store.length:=by have:=hky _ (zfD hi);rw[IP h0] at this;omega
  obtain ⟨h6,F6,e7,r7,m7⟩:=Y0 (lo:=lo) (i:=i0) (j:=0+2) hb5 (zf3 hrl) rfl hs15 n1.1 q45 (λy hy hm=>n6 y hm y (by rw[zfF];exact .inr (hH3 y (hH4 y hy))) rfl) n2 (λy hy=>hlo y (by simp[hy])) (zfE hl m5.le) h0 ⟨hvp.1.1,hkey0⟩ hn.1 (by omega);simp only[Ver.cs] at e7;rw[Aq,e7,Ad,Ar];cases hr:EJ p.chain 0 with
  | false =>
   rw[hr] at r7 htk;rw[Ay];rw[cond_false] at r7;have hb6:h6[b]?=some (CS prs i0 (p.cs a1 c1 a2 c2 a3 c3)):=by rw[m7.fr b (zfO hblt m5.le) n1.1];exact hb5
   have hcf:Ek p (f:Int)=false:=by rw[hct,htk]
   have hbd5:∀ y∈b ::(G1++(G2++G3)),y<h5.length:=λy hy=>zfO (hbd y hy) m5.le;have nd2:(b :: G2).Nodup:=by rw[zfN];exact ⟨n1.2.1,n3⟩
   have hs26:RVers false h6 [.sl 6 a2 p.log.length c2] p.log G2:=m7.keep rvers_ok hs25 λy hy hm=>n6 y hm y (by simp[hy]) rfl;obtain ⟨r8,m8⟩:=GC (q:=p) m7 (Mv.refl nd2) hnd hbd5 r7 hs26 hs35;unfold Ff;rw[hcf];exact ⟨h6,_,_,rfl,r8,hb6,(m5.drop.aside (G:=b ::(G1++(G2++G3))) hnd hbd).trans m8⟩
  | true =>
   rw[hr] at r7 htk;rw[cond_true] at r7;have hb6:h6[b]?=some (CS prs i0 (p.cs a1 c1 a2 c2 a3 c3)):=by rw[m7.fr b (zfO hblt m5.le) n1.1];exact hb5
   have l1:ld h6 b i0 (0+1) 1=some [Iv p.clock]:=by rw[DF hrl hb6];rfl
   have hct2:Ek p (f:Int)=true:=by rw[hct,htk]
   have hbd5:∀ y∈b ::(G1++(G2++G3)),y<h5.length:=λy hy=>zfO (hbd y hy) m5.le;have nd2:(b :: G2).Nodup:=by rw[zfN];exact ⟨n1.2.1,n3⟩
   have hs26:RVers false h6 [.sl 6 a2 p.log.length c2] p.log G2:=m7.keep rvers_ok hs25 λy hy hm=>n6 y hm y (by simp[hy]) rfl;have d1:=(Yd m7 (Mv.refl nd2) hnd hbd5).2.1;have ta:=KU (k:=0) (t:=p.clock) (Bj hok) (Lt hv);have ta':Tidy 10 20 100 (Hy p 0 p.clock p.got[f][i]):=⟨zfE ta.len (by decide),λx hx=>by have:=ta.node x hx;exact ⟨this.1,zfE this.2.1 (by decide),this.2.2⟩,⟨zfE ta.log.1 (by decide),ta.log.2⟩,ta.got.1,λl hl=>⟨zfE (ta.got.2 l hl).1 (by decide),(ta.got.2 l hl).2⟩⟩;have hcs:(Hy p 0 p.clock p.got[f][i]).cs a1 c1 a2 c2 a3 c3=p.cs a1 c1 a2 c2 a3 c3:=by simp only[Place.cs,Hy,Gu]
   rw[<- Gu (k:=0) (v:=p.got[f][i])] at r7;obtain ⟨h7,a8,c8,h8,F8,e8,e9,b9,r9,m9⟩:=UH (lo:=lo) (p:=Hy p 0 p.clock p.got[f][i]) (t:=Jo p.got[f][i].tag.time p.clock) (a3:=a3) (c3:=c3) hrl (by rw[hcs];exact hb6) r7 hs26 (by show 0<(Lm _ _ _).length;rw[Gu];omega) ta' d1 nd2 (λy hy=>hlo y (by simp only[zfL,zfF] at hy ⊢;rcases hy with hy | hy;exact .inl hy;exact .inr (.inr (.inl hy)))) (by have:=m5.le;have:=m7.le;omega);obtain ⟨r10,m10⟩:=GC (q:=Cg (Hy p 0 (Jo p.got[f][i].tag.time p.clock) p.got[f][i])) m7 m9 hnd hbd5 r7 r9 hs35;unfold Jo at e8;rw[Aq,l1,Ae,Ab,Ag,Aa,e8,Ae,e9,Ad,J5,Ag];rw[hct2];unfold Ff;rw[hct2,cond_true,AW];unfold QJ;rw[x2];exact ⟨h8,_,_,rfl,r10,b9,(m5.drop.aside (G:=b ::(G1++(G2++G3))) hnd hbd).trans m10⟩
 ·rw[x1,Ak (by omega)];exact stay h Mv.nil (by rw[hct];unfold Ma;rw[x2])
theorem zaj {b i0:Nat} (hrl:i0<prs.length) {f at':Int}{v:Ver}{a1 a2 a3:Pq}{c1 c2 c3:Nq}{G1 G2 G3:List Nat} (hb:h[b]?=some (CS prs i0 (p.cs a1 c1 a2 c2 a3 c3))) (hs1:RNodes false h [.sl 2 a1 p.chain.length c1] p.chain G1) (hs2:RVers false h [.sl 6 a2 p.log.length c2] p.log G2) (hs3:RVss false h [.sl 1 a3 p.got.length c3] p.got G3)
  (hv:RTags false h [.sl 2 av v.past.length cv] v.past G) (hok:AM p=true) (hvn:v.past.length<=1048576/\v.text.size<=1048576) (hnd:(b ::(G1++(G2++G3))).Nodup) (hlo:∀ y∈b ::(G1++(G2++G3)),lo<=y) (hl:lo<=h.length) :
  ∃ h' row' F',Af lo 228 [.ptr (some (b,(i0,0))),Iv f,Iv at',.agg (v.cs av cv)] h=some (.bool (JB p f at' v),h')/\Cz false h' row' (IZ p f at' v) F'/\h'[b]?=some (CS prs i0 (row'))/\Mv h (b ::(G1++(G2++G3))) h' (b :: F'):=by
 suffices hq:∃ h' row' F',_=some (V.bool (JB p f at' v),h')/\Cz false h' row' (IZ p f at' v) F'/\h'[b]?=some (CS prs i0 (row'))/\Mv h (b ::(G1++(G2++G3))) h' (b :: F') from by obtain ⟨h',row',F',e,hr⟩:=hq;exact ⟨h',row',F',Px e,hr⟩
 have hblt:b<h.length:=(Ga hb).1;have hbd:∀ y∈b ::(G1++(G2++G3)),y<h.length:=λy hy=>by
  simp only[zfL,zfF] at hy;rcases hy with rfl | hy | hy | hy
  ·exact hblt
  ·exact rnodes_ok.bd _ _ _ _ hs1 y hy
  ·exact rvers_ok.bd _ _ _ _ hs2 y hy
  ·exact rvss_ok.bd _ _ _ _ hs3 y hy
 have stay:JB p f at' v=false->∃ h'' row' F',some (V.bool false,h)=some (V.bool (JB p f at' v),h'')/\Cz false h'' row' (IZ p f at' v) F'/\h''[b]?=some (CS prs i0 (row'))/\Mv h (b ::(G1++(G2++G3))) h'' (b :: F'):=λhc=>by unfold IZ;rw[hc];exact ⟨h,_,G1++(G2++G3),rfl,⟨_,_,_,_,_,_,rfl,_,_,_,G1,G2,G3,rfl,rfl,hs1,hs2,hs3⟩,hb,Mv.refl hnd⟩
 have hg3:=(A3 hok).2.2.1;have hcd:JB p f at' v=(Aj f 0 2&&(BO v&&((v.tag.place==f)&&Kq p f.toNat at' v))):=rfl;have l0:ld h b i0 (0+0) 1=some [Iv p.me]:=by rw[DF hrl hb];rfl
 have l4:∀ hh:Heap,hh[b]?=some (CS prs i0 (p.cs a1 c1 a2 c2 a3 c3))->ld hh b i0 (0+4) 1=some [.sl 1 a3 p.got.length c3]:=λhh hb=>by rw[DF hrl hb];rfl
 rw[ER,Ad,Ar];cases hw:Aj f 0 2 with
 | false=>rw[Ay];exact stay (by rw[hcd,hw];rfl)
 | true =>
 rw[hw,zfQ] at hcd;obtain ⟨f,rfl,hf⟩:=Sb hw;rw[AW] at hcd;have hf':f<p.got.length:=by omega
 have hgl:p.got[f].length<=60:=(EL (R4 hok hf')).1;have hh:Kq p f at' v=(!((f:Int)==p.me)&&((at'==(p.got[f].length:Int))&&(decide ((p.got[f].length:Int)<60) && !Dk p.got[f] v.tag))):=by unfold Kq;rw[Lb hf']
 rw[hh] at hcd;rw[Aq,l0,Ae,Ab,Ag,Aa];cases x1:((f:Int)==p.me) with
 | true=>rw[Aq];exact stay (by rw[hcd,x1];simp)
 | false =>
 rw[x1,zgx,zfQ] at hcd;have e2:=LL (lo:=lo) hv hvn;simp only[Ver.cs] at e2;rw[Ay,e2,Ad,Ar];cases hvo:BO v with
 | false=>rw[Ay];exact stay (by rw[hcd,hvo];rfl)
 | true =>
 rw[hvo,zfQ] at hcd;rw[Aq];cases hpl:(v.tag.place==(f:Int)) with
 | false=>rw[Ay];exact stay (by rw[hcd,hpl];rfl)
 | true =>
 rw[hpl,zfQ] at hcd;have hnd':=hnd;rw[zfN,zfG,zfF,zfF,zfG] at hnd';obtain ⟨n1,n2,⟨n3,n4,n5⟩,n6⟩:=hnd';simp only[not_or] at n1;have hlo3:∀ y∈G3,lo<=y:=λy hy=>hlo y (by simp[hy]);obtain ⟨b0,i,rs,row,G0,ha,hbF,hbG,hb0,hrow,hel,hGF,hGn,_,put⟩:=hs3.at rvers_ok hf' n4 hlo3;have hrs:∃ s,row = [s]:=by obtain ⟨R',a',c',e,_⟩:=id hel;exact ⟨_,e⟩
 obtain ⟨s,rfl⟩:=hrs;obtain ⟨b3,d3,es,r3⟩:=hel.form;have hld:ld h b0 (i+f) 0 1=some [s]:=by rw[B7 hb0 hrow];rfl
 rw[Aq,l4 h hb,Ae,Ab,Ag,Ah,Ac hf',ha,Ae,AW,hld,Ae,Ab,Ag,es];cases x2:(at'==(p.got[f].length:Int)) with
 | false=>rw[Ay];exact stay (by rw[hcd,x2];rfl)
 | true =>
 rw[x2,zfQ] at hcd;rw[Aq];cases x3:decide ((p.got[f].length:Int)<60) with
 | false =>
  have:(p.got[f].length:Int)>=60:=by have:=of_decide_eq_false x3;omega
  rw[Ak (by omega)];exact stay (by rw[hcd,x3];rfl)
 | true =>
 rw[x3,zfQ] at hcd;have:(p.got[f].length:Int)<60:=of_decide_eq_true x3;have hht:Dk p.got[f] ⟨v.tag.time,v.tag.place⟩=Dk p.got[f] v.tag:=rfl;rw[Ai (by omega),Ms r3 (by omega),hht,Ad,Ar];cases x4:Dk p.got[f] v.tag with
 | true=>rw[Aq];exact stay (by rw[hcd,x4];rfl)
 | false =>
 rw[x4,zgx] at hcd;obtain ⟨a5,c5,h5,F5,e5,r5,m5⟩:=BJ (lo:=lo) (v:=v) hv hl hvn.1;have m5':Mv h [] (h5 ++ [.rows 6 43 false [v.cs a5 c5]]) F5:=m5.trans (Mv.snoc' m5.nd);obtain ⟨a6,c6,h6,F6,e6,r6,m6⟩:=Ev (lo:=lo) (bytes:=72) (e:=43) rver_ok r3 (row:=v.cs a5 c5) (x:=v) (G:=F5) (h1:=h5 ++ [.rows 6 43 false [v.cs a5 c5]])
  ⟨_,rfl,Mv.snoc.keep0 rtags_ok r5⟩ m5' hGn (λy hy=>hlo3 y (hGF y hy)) hl (by decide) (by omega)
 have r6c:=r6.clip;rw[show p.got[f].length+1=(p.got[f] ++ [v]).length by simp] at r6c;obtain ⟨h7,F7,e7,r7,m7,_⟩:=put h6 F6 0 [.sl 6 a6 (p.got[f] ++ [v]).length (some (p.got[f] ++ [v]).length)] [.sl 6 a6 (p.got[f] ++ [v]).length (some (p.got[f] ++ [v]).length)] (p.got[f] ++ [v]) m6 rfl r6c;rw[show (p.got[f] ++ [v]).length=p.got[f].length+1 by simp] at e7;obtain ⟨m8,k1,k2,k3⟩:=zb4 m7 hnd hbd;have hb5:h5[b]?=some (CS prs i0 (p.cs a1 c1 a2 c2 a3 c3)):=by rw[m5.fr b hblt (by simp)];exact hb
 have hb5':(h5 ++ [.rows 6 43 false [v.cs a5 c5]])[b]?=some (CS prs i0 (p.cs a1 c1 a2 c2 a3 c3)):=by rw[m5'.fr b hblt (by simp)];exact hb
 have hb6:h6[b]?=some (CS prs i0 (p.cs a1 c1 a2 c2 a3 c3)):=by rw[m6.fr b hblt (λhm=>n1.2.2 (hGF b hm))];exact hb
 have hb7:h7[b]?=some (CS prs i0 (p.cs a1 c1 a2 c2 a3 c3)):=by rw[m7.fr b hblt k1];exact hb
 simp only[Ver.cs] at e5 e6 hb5';have l4:∀ hh:Heap,hh[b]?=some (CS prs i0 (p.cs a1 c1 a2 c2 a3 c3))->ld hh b i0 (0+4) 1=some [.sl 1 (some (b0,i)) p.got.length c3]:=λhh hb=>by rw[l4 hh hb,ha]
 rw[Ay,l4 h hb,Ae,Ab,Ag,Ah,e5,Ad,AN,Ab,Aa,Ab,Aa,Ab,Aa,Ab,Ah,Ab,A4,Ab,AB,Ag,l4 h5 hb5,Ly,Dj,l4 _ hb5',Ly,Dj,A2,e6,Ah,l4 h6 hb6,Ly,Dj,MF r6,Ad,Ah,l4 h6 hb6,Ly,Dj,Ac hf',Ae,e7,Ae];have hcs:=zaZ (p:=p) (f:=f) (v:=v) (a1:=a1) (c1:=c1) (a2:=a2) (c2:=c2) (a3:=a3) (c3:=c3);have hgot:(Kr p f v).got=p.got.set f (p.got[f] ++ [v]):=by simp only[Kr];rw[Lb hf']
 have r7':RVss false h7 [.sl 1 a3 (Kr p f v).got.length c3] (Kr p f v).got F7:=by rw[hgot,zf6];exact r7
 unfold IZ;rw[hcd];refine ⟨h7,(Kr p f v).cs a1 c1 a2 c2 a3 c3,G1++(G2++F7),rfl,?_,by rw[hcs];exact hb7,m8⟩;exact ⟨a1,c1,a2,c2,a3,c3,rfl,_,_,_,G1,G2,F7,rfl,rfl,m7.keep rnodes_ok hs1 k2,m7.keep rvers_ok hs2 k3,r7'⟩
theorem YW {b i0:Nat} (hrl:i0<prs.length) {k:Int}{s:ByteArray}{g:Bool}{l:List Tag}{a1 a2 a3:Pq}{c1 c2 c3:Nq}{G1 G2 G3:List Nat} (hb:h[b]?=some (CS prs i0 (p.cs a1 c1 a2 c2 a3 c3))) (hs1:RNodes false h [.sl 2 a1 p.chain.length c1] p.chain G1) (hs2:RVers false h [.sl 6 a2 p.log.length c2] p.log G2) (hs3:RVss false h [.sl 1 a3 p.got.length c3] p.got G3)
  (hv:RTags false h [.sl 2 av l.length cv] l G) (hvd:∀ y∈G,y∉b :: G1) (hok:AM p=true) (hn:Ef p) (hvn:l.length<=1048576/\s.size<=1048576) (hnd:(b ::(G1++(G2++G3))).Nodup) (hlo:∀ y∈b ::(G1++(G2++G3)),lo<=y) (hl:lo<=h.length) :
  ∃ h' row' F',Af lo 52 [.ptr (some (b,(i0,0))),.agg [Iv k,Iv 0,Iv 0,.sl 2 av l.length cv,.str s,.bool g]] h=some (.agg [Iv (FV p k s g l).2.time,Iv (FV p k s g l).2.place],h') /\
   Cz false h' row' (FV p k s g l).1 F'/\h'[b]?=some (CS prs i0 (row'))/\Mv h (b ::(G1++(G2++G3))) h' (b :: F'):=by
 rw[Ya hok];have hblt:b<h.length:=(Ga hb).1;have hbd:∀ y∈b ::(G1++(G2++G3)),y<h.length:=λy hy=>by
  simp only[zfL,zfF] at hy;rcases hy with rfl | hy | hy | hy
  ·exact hblt
  ·exact rnodes_ok.bd _ _ _ _ hs1 y hy
  ·exact rvers_ok.bd _ _ _ _ hs2 y hy
  ·exact rvss_ok.bd _ _ _ _ hs3 y hy
 generalize hW:(bif BE p k s g l then (Cg (Hy p 0 (AX p l) (Fh p k s g l)),(⟨AX p l,p.me⟩:Tag)) else (p,⟨0,0⟩))=W;suffices hq:∃ h' row' F',_=some (V.agg [Iv W.2.time,Iv W.2.place],h')/\Cz false h' row' W.1 F'/\h'[b]?=some (CS prs i0 (row'))/\Mv h (b ::(G1++(G2++G3))) h' (b :: F') from by obtain ⟨h',row',F',e,hr⟩:=hq;exact ⟨h',row',F',Ol e,hr⟩
 have stay:∀ h',Mv h [] h' []->BE p k s g l=false->∃ h'' row' F',some (V.agg [Iv 0,Iv 0],h')=some (V.agg [Iv W.2.time,Iv W.2.place],h'')/\Cz false h'' row' W.1 F'/\h''[b]?=some (CS prs i0 (row'))/\Mv h (b ::(G1++(G2++G3))) h'' (b :: F'):=λh' m hc=>by rw[hc,cond_false] at hW;subst hW;exact ⟨h',_,G1++(G2++G3),rfl,⟨_,_,_,_,_,_,rfl,_,_,_,G1,G2,G3,rfl,rfl,m.keep0 rnodes_ok hs1,m.keep0 rvers_ok hs2,m.keep0 rvss_ok hs3⟩,by rw[m.fr b hblt (by simp)];exact hb,m.aside (G:=b ::(G1++(G2++G3))) hnd hbd⟩
 have h0:=Dm hok;have hti:=ID hok;have hcw:=Zp (p:=p) (k:=k) (s:=s) (g:=g) (l:=l);have e1:=OR (lo:=lo) (v:=⟨k,⟨0,0⟩,l,s,g⟩) hv hvn;simp only[Ver.cs] at e1;rw[e1,Ad,Ar];cases hwr:HS ⟨k,⟨0,0⟩,l,s,g⟩ with
 | false=>rw[Ay];exact stay h Mv.nil (by rw[hcw,hwr];rfl)
 | true =>
 rw[hwr,zfQ] at hcw;have hpk:Bt l=true:=by unfold HS at hwr;simp only[E1] at hwr;exact hwr.2
 have hl4:=BX hpk;have htb:=Wm hok hpk;have l2:ld h b i0 (0+2) 1=some [.sl 2 a1 p.chain.length c1]:=by rw[DF hrl hb];rfl
 obtain ⟨bt,dt,Ht,et,rt,_⟩:=JE (lo:=h.length) (b:=b) (i:=i0) (j:=0+2) l2 hs1 h0 hn.1.1;have hslen:(p.chain[p.chain.length - 1]'(by omega)).store.length=4:=(hti.node _ (zfD _)).1;obtain ⟨vt,h5,F5,e5,r5,m5⟩:=MZ (lo:=h.length) rt (zfH _) hslen;obtain ⟨a6,c6,e6,r6⟩:=r5.form;rw[Aq,et,Ad,AN,Ab,Ah,Ag,e5,Ad,AN,Ab,e6,Ag,LK (m5.keep0 rtags_ok hv) r6 hvn.1 (by simp only[BW,zhb];omega),Ad,Ar];unfold Jd at hcw;rw[Je h0] at hcw;cases hu:Et l (BW (p.chain[p.chain.length - 1]'(by omega)).store) with
 | false=>rw[Ay];exact stay h5 m5.drop (by rw[hcw,hu];rfl)
 | true =>
 rw[hu,zfQ] at hcw;have hb5:h5[b]?=some (CS prs i0 (p.cs a1 c1 a2 c2 a3 c3)):=by rw[m5.fr b hblt (by simp)];exact hb
 have l25:ld h5 b i0 (0+2) 1=some [.sl 2 a1 p.chain.length c1]:=by rw[DF hrl hb5];rfl
 have hs15:=m5.keep0 rnodes_ok hs1;have hs25:=m5.keep0 rvers_ok hs2;have hs35:=m5.keep0 rvss_ok hs3;have hv5:=m5.keep0 rtags_ok hv;have hfu:Af lo 117 [.ptr (some (b,(i0,0+2))),Iv 0] h5=some (.bool (!EJ p.chain 0),h5):=P4 l25 hs15 h0;rw[Aq,hfu,Ad,Ar];cases hr:EJ p.chain 0 with
 | false=>rw[zgx,Aq];exact stay h5 m5.drop (by rw[hcw,hr];rfl)
 | true =>
 rw[hr,zfQ] at hcw;have l3:ld h5 b i0 (0+3) 1=some [.sl 6 a2 p.log.length c2]:=by rw[DF hrl hb5];rfl
 rw[zgo,Ay,l3,Ae,Ab,Ag,Ah];cases hlg:decide ((p.log.length:Int)<36) with
 | false =>
  have:(p.log.length:Int)>=36:=by have:=of_decide_eq_false hlg;omega
  rw[Ak (by omega)];exact stay h5 m5.drop (by rw[hcw,hlg];simp)
 | true =>
 have:(p.log.length:Int)<36:=of_decide_eq_true hlg;rw[hlg,zgp] at hcw;have l1:ld h5 b i0 (0+1) 1=some [Iv p.clock]:=by rw[DF hrl hb5];rfl
 have l0:ld h5 b i0 (0+0) 1=some [Iv p.me]:=by rw[DF hrl hb5];rfl
 have hT:(if Fm l>p.clock then Fm l else p.clock)+1=AX p l:=rfl;rw[Ai (by omega),l1,Ae,Ab,Ag,Aa,Rf hv5 hvn.1,Ad,Aa,hT,wr (n:=AX p l) (by omega) (by omega)];cases hti9:decide (AX p l<=999) with
 | false =>
  have:AX p l>999:=by have:=of_decide_eq_false hti9;omega
  rw[Ak (by omega)];exact stay h5 m5.drop (by rw[hcw,hti9])
 | true =>
 have:AX p l<=999:=of_decide_eq_true hti9;rw[hti9] at hcw;have hvt:=Mm hok hcw;rw[hcw,cond_true] at hW;obtain ⟨kp1,_⟩:=Qh hcw;have hnd':=hnd;rw[zfN,zfG,zfF,zfF,zfG] at hnd';obtain ⟨n1,n2,⟨n3,n4,n5⟩,n6⟩:=hnd';simp only[not_or] at n1;have hb5lt:b<h5.length:=zfO hblt m5.le;have e8:=MS (lo:=lo) (cs := [Iv (AX p l)]) (j:=0+1) (row:=p.cs a1 c1 a2 c2 a3 c3) (row':=(Fv p (AX p l)).cs a1 c1 a2 c2 a3 c3) hb5 (hlo b (by simp)) hrl (FL (by simp[Place.cs]));obtain ⟨m6,b6,k6,_⟩:=(Mv.refl (h:=h5) (F := []) (by simp)).store hb5lt (by simp) (CS prs i0 ((Fv p (AX p l)).cs a1 c1 a2 c2 a3 c3));generalize hh6:h5.set b (CS prs i0 ((Fv p (AX p l)).cs a1 c1 a2 c2 a3 c3))=h6 at m6 b6 k6;have e8':st lo h5 b i0 (0+1) [Iv (AX p l)]=some h6:=by rw[<- hh6];exact e8
 have hs16:=m6.keep rnodes_ok hs15 λy hy hm=>by rw[zgg] at hm;subst hm;exact n1.1 hy
 have hs26:=m6.keep rvers_ok hs25 λy hy hm=>by rw[zgg] at hm;subst hm;exact n1.2.1 hy
 have hs36:=m6.keep rvss_ok hs35 λy hy hm=>by rw[zgg] at hm;subst hm;exact n1.2.2 hy
 have hv6:=m6.keep rtags_ok hv5 λy hy hm=>by rw[zgg] at hm;subst hm;exact hvd y hy (by simp)
 have hkl:(Fh p k s g l).key<p.chain[0].store.length:=by have:=(hti.node _ (zfD h0)).1;show k<_;omega
 obtain ⟨h7,F7,e7,r7,m7⟩:=Y0 (lo:=lo) (l:=p.chain) (v:=Fh p k s g l) (i:=i0) (j:=0+2) b6 (zf3 hrl) rfl hs16 n1.1 hv6 (λy hy hm=>hvd y hy (by simp[hm])) n2 (λy hy=>hlo y (by simp[hy])) (by have:=m5.le;have:=m6.le;omega) h0 ⟨kp1.1,hkl⟩ hn.1 hvn.1;rw[hr,cond_true] at r7;rw[hr] at e7;have hbd6:∀ y∈b ::(G1++(G2++G3)),y<h6.length:=λy hy=>zfO (hbd y hy) (zfE m5.le m6.le);have nd2:(b :: G2).Nodup:=by rw[zfN];exact ⟨n1.2.1,n3⟩
 have d1:=(Yd m7 (Mv.refl nd2) hnd hbd6).2.1;have hb7:h7[b]?=some (CS prs i0 ((Fv p (AX p l)).cs a1 c1 a2 c2 a3 c3)):=by rw[m7.fr b (zfO hb5lt m6.le) n1.1];exact b6
 have hs27:RVers false h7 [.sl 6 a2 p.log.length c2] p.log G2:=m7.keep rvers_ok hs26 λy hy hm=>n6 y hm y (by simp[hy]) rfl;have ta:=KU (k:=0) (t:=AX p l) (Bj hok) hvt;have ta':Tidy 10 20 100 (Hy p 0 (AX p l) (Fh p k s g l)):=⟨zfE ta.len (by decide),λx hx=>by have:=ta.node x hx;exact ⟨this.1,zfE this.2.1 (by decide),this.2.2⟩,⟨zfE ta.log.1 (by decide),ta.log.2⟩,ta.got.1,λl hl=>⟨zfE (ta.got.2 l hl).1 (by decide),(ta.got.2 l hl).2⟩⟩;have hcs:(Hy p 0 (AX p l) (Fh p k s g l)).cs a1 c1 a2 c2 a3 c3=(Fv p (AX p l)).cs a1 c1 a2 c2 a3 c3:=by simp only[Place.cs,Hy,Fv,Gu]
 rw[<- Gu (k:=0) (v:=Fh p k s g l)] at r7;obtain ⟨a8,c8,h8,F8,e9,b9,r9,m9⟩:=I6 (lo:=lo) (p:=Hy p 0 (AX p l) (Fh p k s g l)) (a3:=a3) (c3:=c3) hrl (by rw[hcs];exact hb7) r7 hs27 (by show 0<(Lm _ _ _).length;rw[Gu];omega) ta' d1 nd2 (λy hy=>hlo y (by simp only[zfL,zfF] at hy ⊢;rcases hy with hy | hy;exact .inl hy;exact .inr (.inr (.inl hy)))) (by have:=m5.le;have:=m6.le;have:=m7.le;omega);obtain ⟨r10,m10⟩:=GC (q:=Cg (Hy p 0 (AX p l) (Fh p k s g l))) m7 m9 hnd hbd6 r7 r9 hs36;have m56:Mv h (b ::(G1++(G2++G3))) h6 (b ::(G1++(G2++G3))):=(m5.drop.aside (G:=b ::(G1++(G2++G3))) hnd hbd).trans (m6.aside (G:=G1++(G2++G3)) hnd λy hy=>zfO (hbd y (by simp[hy])) m5.le);simp only[Ver.cs,Fh] at e7;rw[Ai (by omega),l0,Ae,Ab,Ag,Aa,e8',Ae,e7,Ad,Ar,Aq,e9,Ad,J5,Ag];subst hW;exact ⟨h8,_,_,rfl,r10,b9,m56.trans m10⟩
end


variable {p:Place}{rs:List (List V)}
section
variable {lo:Nat}{ro:Bool}{hh:Heap}{F F' G:List Nat}{a a' av:Pq}{c c' cv:Nq}
theorem P2 {k:Int}{b i0:Nat} (hrl:i0<rs.length) {a1 a2 a3:Pq}{c1 c2 c3:Nq}{G1 G2 G3:List Nat} (hb:hh[b]?=some (CS rs i0 (p.cs a1 c1 a2 c2 a3 c3)))
  (g1:RNodes false hh [.sl 2 a1 p.chain.length c1] p.chain G1) (g2:RVers false hh [.sl 6 a2 p.log.length c2] p.log G2) (g3:RVss false hh [.sl 1 a3 p.got.length c3] p.got G3) (hpo:AM p=true)
  (hnd:(b ::(G1++(G2++G3))).Nodup) (hlo':∀ y∈b ::(G1++(G2++G3)),lo<=y) (hl:lo<=hh.length) :
  ∃ hh' row' F1',Af lo 223 [.ptr (some (b,(i0,0))),Iv k] hh=some (.bool (ES p k),hh')/\Cz false hh' row' (Fg p k) F1'/\hh'[b]?=some (CS rs i0 row')/\Mv hh (b ::(G1++(G2++G3))) hh' (b :: F1'):=by
 have hblt:b<hh.length:=(Ga hb).1;have hbd:∀ y∈b ::(G1++(G2++G3)),y<hh.length:=λy hy=>by
  simp only[zfL,zfF] at hy;rcases hy with rfl | hy | hy | hy
  ·exact hblt
  ·exact rnodes_ok.bd _ _ _ _ g1 y hy
  ·exact rvers_ok.bd _ _ _ _ g2 y hy
  ·exact rvss_ok.bd _ _ _ _ g3 y hy
 have hsmN:B8 p.chain:=L9 (Bj hpo) (by decide) (by decide);have l5:ld hh b i0 (0+5) 1=some [.bool p.fell]:=by rw[DF hrl hb];rfl
 have stay:ES p k=false->∃ hh' row' F1',some (V.bool false,hh)=some (V.bool (ES p k),hh')/\Cz false hh' row' (Fg p k) F1'/\hh'[b]?=some (CS rs i0 row')/\Mv hh (b ::(G1++(G2++G3))) hh' (b :: F1'):=λhc=>by unfold Fg;rw[hc];exact ⟨hh,_,G1++(G2++G3),rfl,⟨_,_,_,_,_,_,rfl,_,_,_,G1,G2,G3,rfl,rfl,g1,g2,g3⟩,hb,Mv.refl hnd⟩
 suffices hq:∃ hh' row' F1',_=some (V.bool (ES p k),hh')/\Cz false hh' row' (Fg p k) F1'/\hh'[b]?=some (CS rs i0 row')/\Mv hh (b ::(G1++(G2++G3))) hh' (b :: F1') from by obtain ⟨hh',row',F1',e,hr⟩:=hq;exact ⟨hh',row',F1',Py e,hr⟩
 have hcd:ES p k=(!p.fell&&Ey p.chain k):=rfl;rw[l5,Ae,Ab,Ag,Ar];cases hf:p.fell with
 | true=>rw[Aq];exact stay (by rw[hcd,hf];rfl)
 | false =>
 rw[hf,zgx,zfQ] at hcd;have nd:=hnd;rw[zfN,zfG,zfF,zfF,zfG] at nd;obtain ⟨n1,n2,⟨n3,n4,n5⟩,n6⟩:=nd;simp only[not_or] at n1;have nd2:(b :: G2).Nodup:=by rw[zfN];exact ⟨n1.2.1,n3⟩
 obtain ⟨a5,x5,c5,h5,F5,e5,b5,r5,m5⟩:=zb1 (lo:=lo) (k:=k) (R:=6) (e:=29) (rs:=rs.set i0 (p.cs a1 c1 a2 c2 a3 c3)) (row:=p.cs a1 c1 a2 c2 a3 c3) (i:=i0) (j:=0+2) hb (zf3 hrl) rfl g1 n1.1 n2 (hlo' b (by simp)) (λy hy=>hlo' y (by simp[hy])) hl hsmN (Dm hpo) (λx hx=>(AQ ((Ca (A3 hpo).2.2.2.1).2 x hx)).1);rw[zgv] at b5;have hx5:=r5.val;have mA:Mv hh (b ::(G1++(G2++G3))) h5 (b ::(F5++(G2++G3))):=m5.aside (G:=G2++G3) (by simpa using hnd) (λy hy=>hbd y (by simp only[zfL,zfF] at hy ⊢;exact .inr (.inr hy)));have d2:∀ y∈G2,y∉b :: G1:=λy hy hm=>by
  rcases zfL.1 hm with rfl | hm
  ·exact n1.2.1 hy
  ·exact n6 y hm y (by simp[hy]) rfl
 have d3:∀ y∈G3,y∉b :: G1:=λy hy hm=>by
  rcases zfL.1 hm with rfl | hm
  ·exact n1.2.2 hy
  ·exact n6 y hm y (by simp[hy]) rfl
 have g25:=m5.keep rvers_ok g2 d2;have g35:=m5.keep rvss_ok g3 d3;cases hc:Ey p.chain k with
 | false =>
  have hcf:ES p k=false:=by rw[hcd,hc]
  rw[hc] at e5 r5;rw[cond_false] at r5;rw[hc,cond_false] at hx5;subst hx5;rw[Ay,e5,Ad,Ar,Ay];unfold Fg;rw[hcf];exact ⟨h5,p.cs a5 c5 a2 c2 a3 c3,F5++(G2++G3),rfl,⟨_,_,_,_,_,_,rfl,_,_,_,F5,G2,G3,rfl,rfl,r5,g25,g35⟩,b5,mA⟩
 | true =>
  have hcf:ES p k=true:=by rw[hcd,hc]
  rw[hc] at e5 r5;rw[cond_true] at r5;rw[hc,cond_true] at hx5;subst hx5;have hc':=hc;unfold Ey at hc';simp only[E1,Aj,decide_eq_true_eq] at hc';obtain ⟨hw,hl1⟩:=hc';have hk':k.toNat<p.chain.length:=by omega
  have hb5lt:b<h5.length:=zfO hblt m5.le;have b5':h5[b]?=some (CS rs i0 [Iv p.me,Iv p.clock,.sl 2 a5 (DN p.chain k.toNat).length c5,.sl 6 a2 p.log.length c2,.sl 1 a3 p.got.length c3,.bool p.fell]):=b5;have e6:=MS (lo:=lo) (cs := [.bool true]) (j:=0+5) b5' (hlo' b (by simp)) hrl (FL (by simp));obtain ⟨m6,b6,k6,_⟩:=(Mv.refl (h:=h5) (F := []) (by simp)).store hb5lt (by simp) (CS rs i0 ((O1 p k.toNat).cs a5 c5 a2 c2 a3 c3));generalize hh6:h5.set b (CS rs i0 ((O1 p k.toNat).cs a5 c5 a2 c2 a3 c3))=h6 at m6 b6 k6;have e6':st lo h5 b i0 (0+5) [.bool true]=some h6:=by rw[<- hh6];exact e6
  have ndA:=mA.nd;have ndA':=ndA;rw[zfN,zfG,zfF,zfF] at ndA';obtain ⟨q1,q2,_,q4⟩:=ndA';simp only[not_or] at q1;have bdA:∀ y∈b ::(F5++(G2++G3)),y<h5.length:=mA.lt hbd;have bdA6:∀ y∈b ::(F5++(G2++G3)),y<h6.length:=λy hy=>zfO (bdA y hy) m6.le;have r56:=m6.keep rnodes_ok r5 λy hy hm=>by rw[zgg] at hm;subst hm;exact q1.1 hy
  have g26:=m6.keep rvers_ok g25 λy hy hm=>by rw[zgg] at hm;subst hm;exact q1.2.1 hy
  have g36:=m6.keep rvss_ok g35 λy hy hm=>by rw[zgg] at hm;subst hm;exact q1.2.2 hy
  have ht:=Jr (PN (k:=k.toNat) (Bj hpo)) (by decide) (by decide) (by decide);have d1':=(Yd (Mv.refl (h:=h6) q2) (Mv.refl nd2) ndA bdA6).2.1;obtain ⟨a8,c8,h8,F8,e9,b9,r9,m9⟩:=I6 (lo:=lo) (p:=O1 p k.toNat) hrl (a3:=a3) (c3:=c3) b6 r56 g26 (by show 0<(DN _ _).length;rw[V7 hk' hl1];omega) ht d1' nd2 (λy hy=>hlo' y (by simp only[zfL,zfF] at hy ⊢;rcases hy with hy | hy;exact .inl hy;exact .inr (.inr (.inl hy)))) (by have:=m5.le;have:=m6.le;omega);obtain ⟨r10,m10⟩:=GC (q:=Cg (O1 p k.toNat)) (Mv.refl (h:=h6) q2) m9 ndA bdA6 r56 r9 g36;have mB:Mv h5 (b ::(F5++(G2++G3))) h6 (b ::(F5++(G2++G3))):=m6.aside (G:=F5++(G2++G3)) ndA λy hy=>bdA y (by simp[hy]);rw[Ay,e5,Ad,Ar,Aq,e6',Ae,e9,Ad,J5,Ag];unfold Fg;rw[hcf];exact ⟨h8,_,_,rfl,r10,b9,(mA.trans mB).trans m10⟩
theorem P1 {k:Int}{b i0:Nat} (hrl:i0<rs.length) {a1 a2 a3:Pq}{c1 c2 c3:Nq}{G1 G2 G3:List Nat} (hb:hh[b]?=some (CS rs i0 (p.cs a1 c1 a2 c2 a3 c3)))
  (g1:RNodes false hh [.sl 2 a1 p.chain.length c1] p.chain G1) (g2:RVers false hh [.sl 6 a2 p.log.length c2] p.log G2) (g3:RVss false hh [.sl 1 a3 p.got.length c3] p.got G3) (hpo:AM p=true)
  (hnd:(b ::(G1++(G2++G3))).Nodup) (hlo':∀ y∈b ::(G1++(G2++G3)),lo<=y) (hl:lo<=hh.length) :
  ∃ hh' row' F1',Af lo 222 [.ptr (some (b,(i0,0))),Iv k] hh=some (.bool (DT p.chain k),hh')/\Cz false hh' row' (HT p k) F1'/\hh'[b]?=some (CS rs i0 row')/\Mv hh (b ::(G1++(G2++G3))) hh' (b :: F1'):=by
 have hblt:b<hh.length:=(Ga hb).1;have hbd:∀ y∈b ::(G1++(G2++G3)),y<hh.length:=λy hy=>by
  simp only[zfL,zfF] at hy;rcases hy with rfl | hy | hy | hy
  ·exact hblt
  ·exact rnodes_ok.bd _ _ _ _ g1 y hy
  ·exact rvers_ok.bd _ _ _ _ g2 y hy
  ·exact rvss_ok.bd _ _ _ _ g3 y hy
 have hsmN:B8 p.chain:=L9 (Bj hpo) (by decide) (by decide);have nd:=hnd;rw[zfN,zfG,zfF,zfF,zfG] at nd;obtain ⟨n1,n2,⟨n3,n4,n5⟩,n6⟩:=nd;simp only[not_or] at n1;have nd2:(b :: G2).Nodup:=by rw[zfN];exact ⟨n1.2.1,n3⟩
 obtain ⟨h5,F5,e5,r5,m5⟩:=zbY (lo:=lo) (k:=k) (R:=6) (e:=29) (rs:=rs.set i0 (p.cs a1 c1 a2 c2 a3 c3)) (row:=p.cs a1 c1 a2 c2 a3 c3) (i:=i0) (j:=0+2) hb (zf3 hrl) rfl g1 n1.1 n2 (λy hy=>hlo' y (by simp[hy])) hl hsmN (WD hpo);have hb5:h5[b]?=some (CS rs i0 (p.cs a1 c1 a2 c2 a3 c3)):=by rw[m5.fr b hblt n1.1];exact hb
 have g25:=m5.keep rvers_ok g2 λy hy hm=>n6 y hm y (by simp[hy]) rfl;have d1':=(Yd m5 (Mv.refl nd2) hnd hbd).2.1;unfold HT;cases hc:DT p.chain k with
 | false =>rw[hc,cond_false] at r5;rw[hc] at e5;obtain ⟨r8,m8⟩:=GC (q:=p) m5 (Mv.refl nd2) hnd hbd r5 g25 g3;exact ⟨h5,_,_,KA (r:=(.bool false,h5)) (by rw[e5,Ad,Ar,Ay]),r8,hb5,m8⟩
 | true =>
  rw[hc,cond_true] at r5;rw[hc] at e5;have ht:=Jr (PM (k:=k.toNat) (Bj hpo)) (by decide) (by decide) (by decide);have h0:=Dm hpo;have hcs:(KY p k.toNat).cs a1 c1 a2 c2 a3 c3=p.cs a1 c1 a2 c2 a3 c3:=by simp only[Place.cs,KY,JC]
  have r5':RNodes false h5 [.sl 2 a1 (KY p k.toNat).chain.length c1] (KY p k.toNat).chain F5:=by show RNodes false h5 [.sl 2 a1 (JN p.chain k.toNat).length c1] (JN p.chain k.toNat) F5;rw[JC];exact r5
  obtain ⟨a8,c8,h8,F8,e9,b9,r9,m9⟩:=I6 (lo:=lo) (p:=KY p k.toNat) hrl (a3:=a3) (c3:=c3) (by rw[hcs];exact hb5) r5' g25 (by show 0<(JN _ _).length;rw[JC];omega) ht d1' nd2 (λy hy=>hlo' y (by simp only[zfL,zfF] at hy ⊢;rcases hy with hy | hy;exact .inl hy;exact .inr (.inr (.inl hy)))) (by have:=m5.le;omega);obtain ⟨r10,m10⟩:=GC (q:=Cg (KY p k.toNat)) m5 m9 hnd hbd r5' r9 g3;exact ⟨h8,_,_,KA (r:=(.bool true,h8)) (by rw[e5,Ad,Ar,Aq,e9,Ad,J5,Ag]),r10,b9,m10⟩
end


variable {v:Ver}{t s:List Ver}{i:Nat}
theorem Q7 {u w:Ver} (h1:Bb u v=true) (h2:Bb v w=true):Bb u w=true:=by rw[MY] at *;omega
def upS (t s:List Ver):Prop:=∀ (i:Nat) (x y:Ver),t[i]?=some x->s[i]?=some y->x=y\/Bb x y=true
theorem upS.refl:upS t t:=λi x y hx hy => .inl (by rw[hx] at hy;injection hy)
theorem upS.trans {r:List Ver} (h1:upS r s) (h2:upS s t) (hl:t.length<=s.length):upS r t:=λi x z hx hz=>by
 have hi:=(Ga hz).1;have hy:=EM (l:=s) (i:=i) (by omega);rcases h1 i x _ hx hy with rfl | h3
 ·exact h2 i _ z hy hz
 ·rcases h2 i _ z hy hz with h4 | h4
  ·exact .inr (h4 ▸ h3)
  ·exact .inr (Q7 h3 h4)
theorem upS.set {t:List Ver}{k:Nat}{u v:Ver} (hu:t[k]?=some u) (hl:Bb u v=true):upS t (t.set k v):=λi x y hx hy=>by
 rw[List.getElem?_set] at hy;by_cases hi:k=i
 ·subst hi;rw[if_pos rfl,if_pos (Ga hu).1] at hy;injection hy with hy;rw[hu] at hx;injection hx with hx;exact .inr (by rw[<- hx,<- hy];exact hl)
 ·rw[if_neg hi,hx] at hy;injection hy with hy;exact .inl hy
theorem fitsL_cons {r:List Ver}:Ig t (v :: r)=some s<->∃ x,t[v.key.toNat]?=some x/\Bb x v=true/\Ig (t.set v.key.toNat v) r=some s:=by
 simp only[Ig];cases hx:t[v.key.toNat]? with
 | none=>simp
 | some x=>cases hl:Bb x v<;>simp[hl]
theorem Za:∀ {ws t s:List Ver},Ig t ws=some s->upS t s
 | [],t,s,h=>by simp only[Ig,Option.some.injEq] at h;subst h;exact upS.refl
 | v :: r,t,s,h=>by
  obtain ⟨y,h1,h2,h3⟩:=fitsL_cons.1 h;have h4:=Za h3;refine λi x z hx hz=>?_;by_cases hi:v.key.toNat=i
  ·subst hi;rw[h1] at hx;injection hx with hx;subst hx;have hlt:=(Ga h1).1;rcases h4 _ v z (by simp[hlt]) hz with rfl | h5
   ·exact .inr h2
   ·exact .inr (Q7 h2 h5)
  ·exact h4 i x z (by rw[zfJ hi];exact hx) hz
theorem Oy (hs:A5 s=true) {x:Ver} (hx:s[i]?=some x):I9 i x=true:=by obtain ⟨hi,rfl⟩:=Ga hx;exact CK hs hi
structure Ch (l:List Node):Prop where
 pos:1<=l.length
 le:l.length<=4
 node:∀ (i:Nat) (x:Node),l[i]?=some x->Eh x=true
 link:∀ (i:Nat) (x y:Node),l[i]?=some x->l[i+1]?=some y->Ig y.store x.wait=some x.store
 last:∀ (i:Nat) (x:Node),l[i]?=some x->i+1=l.length->x.wait = []
theorem fits_iff {x:Node}:fits x s=true<->Ig s x.wait=some x.store:=by
 unfold fits;cases h:Ig s x.wait with
 | none=>simp
 | some r=>simp[sameVers_iff]
theorem chain_iff {l:List Node}:DS l=true<->Ch l:=by
 unfold DS;simp only[E1];rw[EX (p:=GN l),XH (p:=Eh)];constructor
 ·rintro ⟨⟨h1,h2⟩,h3⟩
  simp only[Aj,E1,decide_eq_true_eq] at h1;refine ⟨by omega,by omega,λi x hx=>?_,λi x y hx hy=>?_,λi x hx hi=>?_⟩
  ·obtain ⟨hi,rfl⟩:=Ga hx;exact h2 i hi
  ·obtain ⟨hi,rfl⟩:=Ga hx;have:=h3 i hi;unfold GN at this;rw[hy] at this;exact fits_iff.1 this
  ·obtain ⟨hj,rfl⟩:=Ga hx;have:=h3 i hj;unfold GN at this;rw[zgj (by omega)] at this;exact zfM (by simpa using this)
 ·rintro ⟨h1,h2,h3,h4,h5⟩
  refine ⟨⟨by simp[Aj];omega,λi hi=>h3 i _ (EM hi)⟩,λi hi=>?_⟩;unfold GN;cases hy:l[i+1]? with
  | some y=>exact fits_iff.2 (h4 i _ y (EM hi) hy)
  | none =>have:=List.getElem?_eq_none_iff.1 hy;simp[h5 i _ (EM hi) (by omega)]
section
variable {l:List Node}
theorem Ch.store (h:Ch l) {i:Nat}{x:Node} (hx:l[i]?=some x):A5 x.store=true/\x.store.length=4:=by have:=(AQ (h.node i x hx)).1;exact ⟨this,A6 this⟩
theorem Ch.up (h:Ch l):∀ (d i:Nat) (x y:Node),l[i]?=some x->l[i+d]?=some y->upS y.store x.store
 | 0,i,x,y,hx,hy=>by rw[zgl,hx] at hy;injection hy with hy;subst hy;exact upS.refl
 | d+1,i,x,y,hx,hy=>by have hlt:=(Ga hy).1;have hz:=EM (l:=l) (i:=i+d) (by omega);have h1:=h.up d i x _ hx hz;have h2:=Za (h.link (i+d) _ y hz hy);exact h2.trans h1 (by rw[(h.store hx).2,(h.store hz).2];exact zfH _)
theorem Ch.join (h:Ch l) (hl:l.length<4):Ch (OO l):=by
 have hp:=h.pos;rw[K9 (by omega)];have hz:l[l.length - 1]?=some (l[l.length - 1]'(by omega)):=EM (by omega);have hns:=(h.store hz).1;have hn:Eh ⟨(l[l.length - 1]'(by omega)).store,[]⟩=true:=by unfold Eh;rw[hns];rfl
 have get:∀ i x,(l ++ [(⟨(l[l.length - 1]'(by omega)).store,[]⟩:Node)])[i]?=some x->(i<l.length/\l[i]?=some x)\/(i=l.length/\x=⟨(l[l.length - 1]'(by omega)).store,[]⟩):=λi x hx=>by
  by_cases hi:i<l.length
  ·rw[zfK hi] at hx;exact .inl ⟨hi,hx⟩
  ·rw[zf5 (by omega)] at hx;have:=(Ga hx).1;simp only[zf0] at this;have e:i=l.length:=by omega
   subst e;rw[zhl] at hx;injection hx with hx;exact .inr ⟨rfl,hx.symm⟩
 refine ⟨by simp,by simp;omega,λi x hx=>?_,λi x y hx hy=>?_,λi x hx hi=>?_⟩
 ·rcases get i x hx with ⟨_,g⟩ | ⟨_,rfl⟩
  ·exact h.node i x g
  ·exact hn
 ·rcases get (i+1) y hy with ⟨g1,g2⟩ | ⟨g1,rfl⟩
  ·rcases get i x hx with ⟨_,g⟩ | ⟨g,_⟩
   ·exact h.link i x y g g2
   ·omega
  ·rcases get i x hx with ⟨_,g⟩ | ⟨g,_⟩
   ·have e:i=l.length - 1:=by omega
    rw[h.last i x g g1];subst e;rw[hz] at g;injection g with g;subst g;rfl
   ·omega
 ·simp only[zfR,zf0] at hi;rcases get i x hx with ⟨g,_⟩ | ⟨_,rfl⟩
  ·omega
  ·rfl
theorem Ch.key (h:Ch l) {z:Node} (hz:l[i]?=some z) (hv:BO v=true):∃ u,z.store[v.key.toNat]?=some u:=by have:=(AZ hv).1;have h4:=(h.store hz).2;exact ⟨_,EM (by omega)⟩
end


variable {i:Nat}{x:Node}
theorem SQ {a b c d:Int}:Ic a b c d=false<->¬ (a<c\/(a=c/\b<d)):=by rw[<- Bool.not_eq_true];simp[Ic]
theorem under_iff {p q:List Tag}:Et p q=true<->∀ (i:Nat) (a b:Tag),p[i]?=some a->q[i]?=some b->Ic b.time b.place a.time a.place=false:=by
 unfold Et;rw[zfW];constructor
 ·intro h i a b ha hb;have:=h (a,b) (zgb.2 ⟨i,List.getElem?_zip_eq_some.2 ⟨ha,hb⟩⟩);simpa using this
 ·rintro h ⟨a,b⟩ hm
  obtain ⟨i,hi⟩:=zgb.1 hm;rw[List.getElem?_zip_eq_some] at hi;simpa using h i a b hi.1 hi.2
def inCh (l:List Node) (v:Ver):Prop:=∃ x∈l,v∈x.store\/v∈x.wait
section
variable {l:List Node}{v:Ver}
theorem inCh.get (h:inCh l v):∃ (i:Nat) (x:Node),l[i]?=some x/\(v∈x.store\/v∈x.wait):=by obtain ⟨x,hx,hv⟩:=h;obtain ⟨i,hi⟩:=zgb.1 hx;exact ⟨i,x,hi,hv⟩
theorem inCh.of (hx:l[i]?=some x) (hv:v∈x.store\/v∈x.wait):inCh l v:=⟨x,zfV hx,hv⟩
theorem Ch.ver (h:Ch l) (hv:inCh l v) (ht:0<v.tag.time):BO v=true:=by
 obtain ⟨i,x,hx,g | g⟩:=hv.get
 ·obtain ⟨j,hj⟩:=zgb.1 g;rcases Di (Oy (h.store hx).1 hj) with g2 | g2
  ·have:=(E8 g2).1;omega
  ·exact g2.1
 ·exact (AQ (h.node i x hx)).2.2 v g
theorem VB (hx:l[i]?=some x) (hi:i+1=l.length):Bl l=BW x.store:=by
 rw[Je (show 0<l.length by omega)];obtain ⟨hj,rfl⟩:=Ga hx;have e:l.length - 1=i:=by omega
 simp only[e]
theorem zbV (hx:l[i]?=some x) (hi:i+1=l.length):FQ l=x.store:=by
 rw[Ho (show 0<l.length by omega)];obtain ⟨hj,rfl⟩:=Ga hx;have e:l.length - 1=i:=by omega
 simp only[e]
theorem Ch.tail (h:Ch l):∃ z,l[l.length - 1]?=some z/\l.length - 1+1=l.length:=by have:=h.pos;exact ⟨_,EM (by omega),by omega⟩
theorem Ch.four (h:Ch l):(Bl l).length=4/\(FQ l).length=4:=by obtain ⟨z,hz,hi⟩:=h.tail;rw[VB hz hi,zbV hz hi];have:=(h.store hz).2;exact ⟨by simpa [BW] using this,this⟩
end
theorem hasTag_mem {l:List Ver}{t:Tag}:Dk l t=true<->∃ v∈l,v.tag=t:=by
 unfold Dk;rw[List.any_eq_true];constructor
 ·rintro ⟨v,hv,g⟩
  rw[E1,beq_iff_eq,beq_iff_eq] at g;exact ⟨v,hv,by cases hv:v.tag;cases t;simp_all⟩
 ·rintro ⟨v,hv,rfl⟩
  exact ⟨v,hv,by simp⟩
section
variable {p:Place}
theorem zaO (h:AM p=true):Ch p.chain:=chain_iff.1 (A3 h).2.2.2.1
theorem zc0 {f:Nat}{v:Ver} (h:AM p=true) (hv:Mq p f=some v):BO v=true/\v.tag.place=(f:Int)/\(f:Int)≠p.me/\f<3:=by
 unfold Mq at hv;have hm:=List.mem_of_find?_eq_some hv;unfold L1 at hm;have h3:=(A3 h).2.2.1;cases hg:p.got[f]? with
 | none=>rw[hg] at hm;simp at hm
 | some l =>rw[hg] at hm;simp only at hm;obtain ⟨hf,rfl⟩:=Ga hg;have g:=(A3 h).2.2.2.2.2.2.1 f hf;unfold My at g;rw[E1] at g;obtain ⟨i,hi,rfl⟩:=zgh.1 hm;obtain ⟨q1,q2,_⟩:=(EL g.1).2 i hi;refine ⟨q1,q2,λe=>?_,by omega⟩;have:=g.2;rw[e,FS,zgo,zgL,decide_eq_true_eq] at this;omega
end


variable {l:List Place}{f:Frame}
structure Sess where
 place:Int
 past:List Tag
 wait:Tag
 key:Int
structure Done where
 sess:Int
 kind:Int
 key:Int
 tag:Tag
structure World where
 places:List Place
 sess:List Sess
 net:List Frame
 hist:List Done
abbrev Hr (ro:Bool):Nat:=bif ro then 197 else 29
abbrev FY (ro:Bool):Nat:=bif ro then 204 else 66
abbrev KP (ro:Bool):Nat:=bif ro then 209 else 123
abbrev Zg (ro:Bool):Nat:=bif ro then 218 else 126
abbrev Sess.cs (s:Sess) (a:Pq) (c:Nq):List V := [Iv s.place,.sl 2 a s.past.length c,Iv s.wait.time,Iv s.wait.place,Iv s.key]
abbrev Done.cs (d:Done):List V := [Iv d.sess,Iv d.kind,Iv d.key,Iv d.tag.time,Iv d.tag.place]
abbrev World.cs (w:World) (a1:Pq) (c1:Nq) (a2:Pq) (c2:Nq) (a3:Pq) (c3:Nq) (a4:Pq) (c4:Nq):List V :=
 [.sl 6 a1 w.places.length c1,.sl 5 a2 w.sess.length c2,.sl 9 a3 w.net.length c3,.sl 5 a4 w.hist.length c4]
abbrev RPlaces (ro:Bool):Rel (List Place):=Sli ro 6 (Hr ro) (RPlace ro)
def RSess (ro:Bool):Rel Sess:=λh cs s F=>∃ v,cs = [Iv s.place,v,Iv s.wait.time,Iv s.wait.place,Iv s.key]/\RTags ro h [v] s.past F
abbrev RSesss (ro:Bool):Rel (List Sess):=Sli ro 5 (FY ro) (RSess ro)
abbrev RFrames (ro:Bool):Rel (List Frame):=Sli ro 9 (KP ro) (LY ro)
abbrev RDones (ro:Bool):Rel (List Done):=Sli ro 5 (Zg ro) (flat Done.cs)
def XI (ro:Bool):Rel World:=λh cs w F=>∃ s1 s2 s3 s4 F1 F2 F3 F4,cs = [s1,s2,s3,s4]/\F=F1++(F2++(F3++F4))/\RPlaces ro h [s1] w.places F1/\RSesss ro h [s2] w.sess F2/\RFrames ro h [s3] w.net F3/\RDones ro h [s4] w.hist F4
def BK (ro:Bool):Rel World:=λh cs w F=>∃ a1 c1 a2 c2 a3 c3 a4 c4 F1 F2 F3 F4,cs=w.cs a1 c1 a2 c2 a3 c3 a4 c4/\F=F1++(F2++(F3++F4))/\RPlaces ro h [.sl 6 a1 w.places.length c1] w.places F1/\RSesss ro h [.sl 5 a2 w.sess.length c2] w.sess F2/\RFrames ro h [.sl 9 a3 w.net.length c3] w.net F3/\RDones ro h [.sl 5 a4 w.hist.length c4] w.hist F4
theorem rplaces_ok {ro:Bool}:(RPlaces ro).Ok:=Sli.ok rplace_ok
theorem Jb {ro:Bool}:(RSess ro).Ok :=
 ⟨λh h' cs x F ⟨s,h1,h2⟩ hb=>⟨s,h1,rtags_ok.fr _ _ _ _ _ h2 hb⟩,λh cs x F ⟨s,_,h2⟩=>rtags_ok.bd _ _ _ _ h2⟩
theorem rsesss_ok {ro:Bool}:(RSesss ro).Ok:=Sli.ok Jb
theorem rframes_ok {ro:Bool}:(RFrames ro).Ok:=Sli.ok rframe_ok
theorem rdones_ok {ro:Bool}:(RDones ro).Ok:=Sli.ok EG
theorem Lz {ro:Bool}:(BK ro).Ok:=by
 refine ⟨?_,?_⟩
 ·rintro h h' cs x F ⟨a1,c1,a2,c2,a3,c3,a4,c4,F1,F2,F3,F4,e,rfl,h1,h2,h3,h4⟩ hb
  exact ⟨a1,c1,a2,c2,a3,c3,a4,c4,F1,F2,F3,F4,e,rfl,rplaces_ok.fr _ _ _ _ _ h1 λb hm=>hb b (by simp[hm]),rsesss_ok.fr _ _ _ _ _ h2 λb hm=>hb b (by simp[hm]),rframes_ok.fr _ _ _ _ _ h3 λb hm=>hb b (by simp[hm]),rdones_ok.fr _ _ _ _ _ h4 λb hm=>hb b (by simp[hm])⟩
 ·rintro h cs x F ⟨a1,c1,a2,c2,a3,c3,a4,c4,F1,F2,F3,F4,e,rfl,h1,h2,h3,h4⟩ b hb
  simp only[zfF] at hb;rcases hb with hb | hb | hb | hb
  ·exact rplaces_ok.bd _ _ _ _ h1 b hb
  ·exact rsesss_ok.bd _ _ _ _ h2 b hb
  ·exact rframes_ok.bd _ _ _ _ h3 b hb
  ·exact rdones_ok.bd _ _ _ _ h4 b hb
theorem Yw {h:Heap}{cs:List V}{w:World}{F:List Nat} (hp:XI true h cs w F):BK true h cs w F:=by obtain ⟨s1,s2,s3,s4,F1,F2,F3,F4,rfl,rfl,h1,h2,h3,h4⟩:=hp;obtain ⟨a1,c1,rfl⟩:=OE h1;obtain ⟨a2,c2,rfl⟩:=OE h2;obtain ⟨a3,c3,rfl⟩:=OE h3;obtain ⟨a4,c4,rfl⟩:=OE h4;exact ⟨_,_,_,_,_,_,_,_,_,_,_,_,rfl,rfl,h1,h2,h3,h4⟩
section
variable {ro:Bool}{h:Heap}{F:List Nat}{a:Pq}{c:Nq}{n k:Nat}
theorem RPlaces.get (hs:RPlaces ro h [.sl 6 a n c] l F) (hk:k<l.length):∃ o s1 s2 s3 a1 c1 a2 c2 a3 c3 F1 F2 F3,a=some o /\
  ld h o.1 (o.2+k) 0 6=some [Iv l[k].me,Iv l[k].clock,s1,s2,s3,.bool l[k].fell]/\ld h o.1 (o.2+k) 0 1=some [Iv l[k].me]/\ld h o.1 (o.2+k) 2 1=some [s1]/\ld h o.1 (o.2+k) 3 1=some [s2]/\ld h o.1 (o.2+k) 4 1=some [s3] /\
  (∀ {R':Type} (K:Pq->Nat->Nq->Option R'),eS 2 s1 K=K a1 l[k].chain.length c1)/\(∀ {R':Type} (K:Pq->Nat->Nq->Option R'),eS 6 s2 K=K a2 l[k].log.length c2) /\
  (∀ {R':Type} (K:Pq->Nat->Nq->Option R'),eS 1 s3 K=K a3 l[k].got.length c3) /\
  RNodes ro h [.sl 2 a1 l[k].chain.length c1] l[k].chain F1/\RVers ro h [.sl 6 a2 l[k].log.length c2] l[k].log F2/\RVss ro h [.sl 1 a3 l[k].got.length c3] l[k].got F3/\(∀ b,b∈F1\/b∈F2\/b∈F3->b∈F):=by
 obtain ⟨o,row,G,h1,h2,hv,hG,_⟩:=hs.read hk;obtain ⟨s1,s2,s3,a1,c1,a2,c2,a3,c3,F1,F2,F3,rfl,rfl,e1,e2,e3,g1,g2,g3⟩:=hv.form;exact ⟨o,s1,s2,s3,a1,c1,a2,c2,a3,c3,F1,F2,F3,h1,by rw[h2];rfl,by rw[h2];rfl,by rw[h2];rfl,by rw[h2];rfl,by rw[h2];rfl,e1,e2,e3,g1,g2,g3,λb hb=>hG b (by simpa using hb)⟩
theorem RSess.form {row:List V}{s:Sess} (hv:RSess ro h row s F):∃ v a c,row = [Iv s.place,v,Iv s.wait.time,Iv s.wait.place,Iv s.key] /\
  (∀ {R':Type} (K:Pq->Nat->Nq->Option R'),eS 2 v K=K a s.past.length c)/\RTags ro h [.sl 2 a s.past.length c] s.past F:=by
 obtain ⟨v,rfl,hp⟩:=hv;obtain ⟨a,c,es,hp2⟩:=hp.form;exact ⟨v,a,c,rfl,es,hp2⟩
theorem RSesss.get {l:List Sess} (hs:RSesss ro h [.sl 5 a n c] l F) (hk:k<l.length):∃ o v a' c' G,a=some o/\ld h o.1 (o.2+k) 0 5=some [Iv l[k].place,v,Iv l[k].wait.time,Iv l[k].wait.place,Iv l[k].key] /\
  ld h o.1 (o.2+k) 0 1=some [Iv l[k].place]/\ld h o.1 (o.2+k) 1 1=some [v] /\
  (∀ {R':Type} (K:Pq->Nat->Nq->Option R'),eS 2 v K=K a' l[k].past.length c')/\RTags ro h [.sl 2 a' l[k].past.length c'] l[k].past G/\(∀ b∈G,b∈F):=by
 obtain ⟨o,row,G,h1,h2,hv,hG,_⟩:=hs.read hk;obtain ⟨v,a',c',rfl,es,hp⟩:=hv.form;exact ⟨o,v,a',c',G,h1,by rw[h2];rfl,by rw[h2];rfl,by rw[h2];rfl,es,hp,hG⟩
theorem RFrames.get {l:List Frame} (hs:RFrames ro h [.sl 9 a n c] l F) (hk:k<l.length):∃ o s a' c' G,a=some o /\
  ld h o.1 (o.2+k) 0 9=some [Iv l[k].fro,Iv l[k].to,Iv l[k].at',Iv l[k].ver.key,Iv l[k].ver.tag.time,Iv l[k].ver.tag.place,s,.str l[k].ver.text,.bool l[k].ver.gone] /\
  (∀ {R':Type} (K:Pq->Nat->Nq->Option R'),eS 2 s K=K a' l[k].ver.past.length c')/\RTags ro h [.sl 2 a' l[k].ver.past.length c'] l[k].ver.past G/\(∀ b∈G,b∈F):=by
 obtain ⟨o,row,G,h1,h2,⟨vs,rfl,hv⟩,hG,_⟩:=hs.read hk;obtain ⟨s,a',c',rfl,es,hp⟩:=hv.form;exact ⟨o,s,a',c',G,h1,by rw[h2];rfl,es,hp,hG⟩
theorem RDones.get {l:List Done} (hs:RDones ro h [.sl 5 a n c] l F) (hk:k<l.length):∃ o,a=some o/\ld h o.1 (o.2+k) 0 5=some l[k].cs:=by obtain ⟨o,row,G,h1,h2,⟨rfl,_⟩,_⟩:=hs.read hk;exact ⟨o,h1,by rw[h2];rfl⟩
end
def KV (l:List Place):Nat:=l.length+(l.map I0).sum
def NL (s:Sess):Nat:=s.past.length
def MQ (l:List Sess):Nat:=l.length+(l.map NL).sum
def Lu (f:Frame):Nat:=Ox f.ver
def KW (l:List Frame):Nat:=l.length+(l.map Lu).sum
def Hd (w:World):Nat:=KV w.places+MQ w.sess+KW w.net+w.hist.length
def R7 (w:World):Prop:=(w.places.length<=maxLen/\∀ p∈w.places,Nl p)/\(w.sess.length<=maxLen/\∀ s∈w.sess,s.past.length<=maxLen)/\(w.net.length<=maxLen/\∀ f∈w.net,NH f.ver)/\w.hist.length<=maxLen
def EP (w:World):Prop:=(w.places.length<=1048576/\∀ p∈w.places,Ef p)/\(w.sess.length<=1048576/\∀ s∈w.sess,s.past.length<=1048576)/\(w.net.length<=1048576/\∀ f∈w.net,f.ver.past.length<=1048576/\f.ver.text.size<=1048576)/\w.hist.length<=1048576
theorem zcI {w:World} (h:Hd w<=1048576):EP w:=by
 unfold Hd KV MQ KW at h;refine ⟨⟨by omega,λp hp=>zcJ ?_⟩,⟨by omega,λs hs=>?_⟩,⟨by omega,λf hf=>?_⟩,by omega⟩
 ·have:=NY (f:=I0) hp;omega
 ·have:=NY (f:=NL) hs;have e:NL s=s.past.length:=rfl;omega
 ·have:=NY (f:=Lu) hf;have e:Lu f=f.ver.past.length+f.ver.text.size:=rfl;omega
section
variable {lo:Nat}{ro ro':Bool}{h:Heap}{F F':List Nat}{a a':Pq}{c c':Nq}{left:Int}
theorem Uz (hs:RPlaces ro h [.sl 6 a l.length c] l F) (hb:l.length<=maxLen/\∀ p∈l,Nl p) (h0:0<=left) (h1:left<=1048576):Af lo 97 [.sl 6 a l.length c,Iv left] h=some (Iv (E4 left (KV l)),h):=by
 refine RI (h':=h) ?_;unfold KV;rw[KE h0 h1 hb.1,<- FX h0];by_cases hn:E4 left l.length<0
 ·rw[if_pos hn,if_pos hn]
 ·rw[if_neg hn,if_neg hn,GW h0 h1 hb.1 hn];have hle:=HV (s:=l.length) h0;have hbig:l.length<=1048576:=by unfold E4 at hn;split at hn<;>omega
  refine MP (sz:=I0) (L:=λleft i=>C5 (List.length h) a l.length c left 0 (i:Nat) h) (λi hi left g0 g1=>?_) (λleft=>?_) (by omega) (by omega)
  ·obtain ⟨o,s1,s2,s3,a1,c1,a2,c2,a3,c3,F1,F2,F3,rfl,ho,_,_,_,_,e1,e2,e3,r1,r2,r3,_⟩:=hs.get hi;rw[C5.e,Ak (by omega),Ac hi];simp only[Ae,AW,ho,Ab,Aa,e1,e2,e3,AB,Ag];rw[WT r1 r2 r3 (hb.2 _ (zfD hi)) g0 g1];simp only[Ad,Aa,GL,Am (show i<9223372036854775807 by omega)]
  ·rw[C5.e,Ai (by omega)]
theorem YR {s:Sess} (hb:s.past.length<=maxLen) (h0:0<=left) (h1:left<=1048576):Af lo 178 [.agg (s.cs a c),Iv left] h=some (Iv (E4 left (NL s)),h):=by refine Vf (h':=h) ?_;rw[Rb hb h0 h1];simp only[Ad,Aa,GL];exact Mb h0
theorem WS {l:List Sess} (hs:RSesss ro h [.sl 5 a l.length c] l F) (hb:l.length<=maxLen/\∀ s∈l,s.past.length<=maxLen) (h0:0<=left) (h1:left<=1048576):Af lo 98 [.sl 5 a l.length c,Iv left] h=some (Iv (E4 left (MQ l)),h):=by
 refine TZ (h':=h) ?_;unfold MQ;rw[KE h0 h1 hb.1,<- FX h0];by_cases hn:E4 left l.length<0
 ·rw[if_pos hn,if_pos hn]
 ·rw[if_neg hn,if_neg hn,GW h0 h1 hb.1 hn];have hle:=HV (s:=l.length) h0;have hbig:l.length<=1048576:=by unfold E4 at hn;split at hn<;>omega
  refine MP (sz:=NL) (L:=λleft i=>Du (List.length h) a l.length c left 0 (i:Nat) h) (λi hi left g0 g1=>?_) (λleft=>?_) (by omega) (by omega)
  ·obtain ⟨o,v,a1,c1,G,rfl,ho,_,_,es,r1,_⟩:=hs.get hi;rw[Du.e,Ak (by omega),Ac hi];simp only[Ae,AW,ho,Ab,Aa,es,Ag];rw[YR (hb.2 _ (zfD hi)) g0 g1];simp only[Ad,Aa,GL,Am (show i<9223372036854775807 by omega)]
  ·rw[Du.e,Ai (by omega)]
theorem WV (hb:NH f.ver) (h0:0<=left) (h1:left<=1048576):Af lo 179 [.agg (f.cs a c),Iv left] h=some (Iv (E4 left (Lu f)),h):=by refine T3 (h':=h) ?_;rw[SS (v:=f.ver) hb h0 h1];simp only[Ad,Aa,GL];exact Mb h0
theorem UA {l:List Frame} (hs:RFrames ro h [.sl 9 a l.length c] l F) (hb:l.length<=maxLen/\∀ f∈l,NH f.ver) (h0:0<=left) (h1:left<=1048576):Af lo 99 [.sl 9 a l.length c,Iv left] h=some (Iv (E4 left (KW l)),h):=by
 refine RJ (h':=h) ?_;unfold KW;rw[KE h0 h1 hb.1,<- FX h0];by_cases hn:E4 left l.length<0
 ·rw[if_pos hn,if_pos hn]
 ·rw[if_neg hn,if_neg hn,GW h0 h1 hb.1 hn];have hle:=HV (s:=l.length) h0;have hbig:l.length<=1048576:=by unfold E4 at hn;split at hn<;>omega
  refine MP (sz:=Lu) (L:=λleft i=>C6 (List.length h) a l.length c left 0 (i:Nat) h) (λi hi left g0 g1=>?_) (λleft=>?_) (by omega) (by omega)
  ·obtain ⟨o,s,a1,c1,G,rfl,ho,es,r1,_⟩:=hs.get hi;rw[C6.e,Ak (by omega),Ac hi];simp only[Ae,AW,ho,Ab,Aa,es,A4,AB,Ag];rw[WV (hb.2 _ (zfD hi)) g0 g1];simp only[Ad,Aa,GL,Am (show i<9223372036854775807 by omega)]
  ·rw[C6.e,Ai (by omega)]
theorem WW {n:Nat} (hn:n<=maxLen) (h0:0<=left) (h1:left<=1048576):Af lo 100 [.sl 5 a n c,Iv left] h=some (Iv (E4 left n),h):=by
 refine T5 (h':=h) ?_;rw[KE h0 h1 hn];by_cases hh:E4 left n<0
 ·rw[if_pos hh];unfold E4 at hh ⊢;split<;>simp_all;omega
 ·rw[if_neg hh,GW h0 h1 hn hh]
theorem zcD {w:World}{cs:List V} (hs:BK ro h cs w F) (hb:R7 w):Af lo 36 [.agg cs,Iv 1048576] h=some (Iv (E4 1048576 (Hd w)),h):=by
 obtain ⟨a1,c1,a2,c2,a3,c3,a4,c4,F1,F2,F3,F4,rfl,rfl,r1,r2,r3,r4⟩:=hs;obtain ⟨b1,b2,b3,b4⟩:=hb;refine TW (h':=h) ?_;unfold Hd;rw[Uz r1 b1 (by decide) (by decide)];simp only[Ad,Aa,GL];rw[<- FX (by decide),<- FX (by decide),<- FX (by decide)];generalize hp:E4 1048576 (KV w.places)=l1;have hle1:l1<=1048576:=by rw[<- hp];exact HV (by decide)
 by_cases hn1:l1<0
 ·simp[hn1]
 ·rw[if_neg hn1,if_neg hn1,WS r2 b2 (by omega) (by omega)];simp only[Ad,Aa,GL];generalize hp2:E4 l1 (MQ w.sess)=l2;have hle2:l2<=l1:=by rw[<- hp2];exact HV (by omega)
  by_cases hn2:l2<0
  ·rw[if_pos hn2,if_pos hn2,if_pos (by decide)]
  ·rw[if_neg hn2,if_neg hn2,UA r3 b3 (by omega) (by omega)];simp only[Ad,Aa,GL];generalize hp3:E4 l2 (KW w.net)=l3;have hle3:l3<=l2:=by rw[<- hp3];exact HV (by omega)
   by_cases hn3:l3<0
   ·rw[if_pos hn3,if_pos hn3]
   ·rw[if_neg hn3,if_neg hn3,WW b4 (by omega) (by omega)];simp only[Ad,Aa,GL];exact Mb (by omega)
theorem Ux (hs:RPlaces true h [.sl 6 a l.length c] l F) (hl:lo<=h.length) (hn:l.length<=1048576/\∀ p∈l,Ef p) :
  ∃ a' h' F',Af lo 104 [.sl 6 a l.length c] h=some (.sl 6 a' l.length (some l.length),h')/\RPlaces false h' [.sl 6 a' l.length (some l.length)] l F'/\Mv h [] h' F':=by
 have hn1:=hn.1;obtain ⟨h',F',e,r,m⟩:=GF (El:=RPlace false) rplace_ok (h0:=h) (l:=l) (f:=id) (lo:=lo) (R:=6) (e:=Hr false) (z := [Iv 0,Iv 0,.sl 0 none 0 (some 0),.sl 0 none 0 (some 0),.sl 0 none 0 (some 0),.bool false]) rfl hl
  (λi hh=>C3 lo a l.length c (some (h.length,0)) l.length (some l.length) (i:Nat) hh) (λi hi hh m=>by
   obtain ⟨o,s1,s2,s3,a1,c1,a2,c2,a3,c3,F1,F2,F3,rfl,ho,_,_,_,_,e1,e2,e3,r1,r2,r3,_⟩:=(m.keep0 rplaces_ok hs).get hi;obtain ⟨a4,c4,a5,c5,a6,c6,h3,F3,e4,r4,m4⟩:=WJ (lo:=lo) r1 r2 r3 (zfE hl m.le) (hn.2 _ (zfD hi));refine ⟨l[i].cs a4 c4 a5 c5 a6 c6,F3,h3,r4,m4,rfl,?_⟩;rw[C3.e,Ak (by omega),Ac hi];simp only[Ae,AW,ho,Ab,Aa,e1,e2,e3,AB,Ag];rw[e4];simp only[Ae,AW,Ab,Aa,Ah,AB,Ag,Ad,AN,Ac hi,zfY,Am (show i<9223372036854775807 by omega)])
 refine ⟨some (h.length,0),h',F',RG ?_,by rw[zgU] at r;exact r,m⟩;rw[EF (by omega)];refine e.trans ?_;rw[C3.e,Ai (by omega)]
theorem YN {s:Sess} (hs:RTags true h [.sl 2 a s.past.length c] s.past F) (hl:lo<=h.length) (hn:s.past.length<=1048576) :
  ∃ a' c' h' F',Af lo 189 [.agg (s.cs a c)] h=some (.agg (s.cs a' c'),h')/\RTags false h' [.sl 2 a' s.past.length c'] s.past F'/\Mv h [] h' F':=by
 obtain ⟨a',h',F',e,r⟩:=Q9 hs hl hn;refine ⟨a',_,h',F',U9 ?_,r⟩;rw[e];simp only[Ad,AN,Ab,Ah,Aa,Ag,LH]
theorem WI {l:List Sess} (hs:RSesss true h [.sl 5 a l.length c] l F) (hl:lo<=h.length) (hn:l.length<=1048576/\∀ s∈l,s.past.length<=1048576) :
  ∃ a' h' F',Af lo 105 [.sl 5 a l.length c] h=some (.sl 5 a' l.length (some l.length),h')/\RSesss false h' [.sl 5 a' l.length (some l.length)] l F'/\Mv h [] h' F':=by
 have hn1:=hn.1;obtain ⟨h',F',e,r,m⟩:=GF (El:=RSess false) Jb (h0:=h) (l:=l) (f:=id) (lo:=lo) (R:=5) (e:=FY false) (z := [Iv 0,.sl 0 none 0 (some 0),Iv 0,Iv 0,Iv 0]) rfl hl
  (λi hh=>Dq lo a l.length c (some (h.length,0)) l.length (some l.length) (i:Nat) hh) (λi hi hh m=>by
   obtain ⟨o,v,a1,c1,G,rfl,ho,_,_,es,r1,_⟩:=(m.keep0 rsesss_ok hs).get hi;obtain ⟨a3,c3,h3,F3,e3,r3,m3⟩:=YN (lo:=lo) (s:=l[i]) r1 (zfE hl m.le) (hn.2 _ (zfD hi));refine ⟨l[i].cs a3 c3,F3,h3,⟨_,rfl,r3⟩,m3,rfl,?_⟩;rw[Dq.e,Ak (by omega),Ac hi];simp only[Ae,AW,ho,Ab,Aa,es,Ag];rw[e3];simp only[Ae,AW,Ab,Aa,Ah,Ag,Ad,AN,Ac hi,zfY,Am (show i<9223372036854775807 by omega)])
 refine ⟨some (h.length,0),h',F',TN ?_,by rw[zgU] at r;exact r,m⟩;rw[EF (by omega)];refine e.trans ?_;rw[Dq.e,Ai (by omega)]
theorem WL (hs:RTags true h [.sl 2 a f.ver.past.length c] f.ver.past F) (hl:lo<=h.length) (hn:f.ver.past.length<=1048576) :
  ∃ a' c' h' F',Af lo 190 [.agg (f.cs a c)] h=some (.agg (f.cs a' c'),h')/\RTags false h' [.sl 2 a' f.ver.past.length c'] f.ver.past F'/\Mv h [] h' F':=by
 obtain ⟨a',c',h',F',e,r⟩:=SR (v:=f.ver) hs hl hn;refine ⟨a',c',h',F',TR ?_,r⟩;rw[e];simp only[Ad,AN,Ab,Ah,Aa,A4,AB,Ag]
theorem Uy {l:List Frame} (hs:RFrames true h [.sl 9 a l.length c] l F) (hl:lo<=h.length) (hn:l.length<=1048576/\∀ f∈l,f.ver.past.length<=1048576/\f.ver.text.size<=1048576) :
  ∃ a' h' F',Af lo 106 [.sl 9 a l.length c] h=some (.sl 9 a' l.length (some l.length),h')/\RFrames false h' [.sl 9 a' l.length (some l.length)] l F'/\Mv h [] h' F':=by
 have hn1:=hn.1;obtain ⟨h',F',e,r,m⟩:=GF (El:=LY false) rframe_ok (h0:=h) (l:=l) (f:=id) (lo:=lo) (R:=9) (e:=KP false) (z := [Iv 0,Iv 0,Iv 0,Iv 0,Iv 0,Iv 0,.sl 0 none 0 (some 0),.str ⟨⟨[]⟩⟩,.bool false]) rfl hl
  (λi hh=>C4 lo a l.length c (some (h.length,0)) l.length (some l.length) (i:Nat) hh) (λi hi hh m=>by
   obtain ⟨o,s,a1,c1,G,rfl,ho,es,r1,_⟩:=(m.keep0 rframes_ok hs).get hi;obtain ⟨a3,c3,h3,F3,e3,r3,m3⟩:=WL (lo:=lo) (f:=l[i]) r1 (zfE hl m.le) (hn.2 _ (zfD hi)).1;refine ⟨l[i].cs a3 c3,F3,h3,⟨_,rfl,_,rfl,r3⟩,m3,rfl,?_⟩;rw[C4.e,Ak (by omega),Ac hi];simp only[Ae,AW,ho,Ab,Aa,es,A4,AB,Ag];rw[e3];simp only[Ae,AW,Ab,Aa,Ah,A4,AB,Ag,Ad,AN,Ac hi,zfY,Am (show i<9223372036854775807 by omega)])
 refine ⟨some (h.length,0),h',F',RH ?_,by rw[zgU] at r;exact r,m⟩;rw[EF (by omega)];refine e.trans ?_;rw[C4.e,Ai (by omega)]
theorem YP {d:Done}:Af lo 191 [.agg d.cs] h=some (.agg d.cs,h):=Vc (h':=h) (by simp only[LH,Ad,AN,Ab,Aa,Ag])
theorem WM {l:List Done} (hs:RDones true h [.sl 5 a l.length c] l F) (hl:lo<=h.length) (hn:l.length<=1048576) :
  ∃ a' h' F',Af lo 107 [.sl 5 a l.length c] h=some (.sl 5 a' l.length (some l.length),h')/\RDones false h' [.sl 5 a' l.length (some l.length)] l F'/\Mv h [] h' F':=by
 obtain ⟨h',F',e,r,m⟩:=GF (El:=flat Done.cs) EG (h0:=h) (l:=l) (f:=id) (lo:=lo) (R:=5) (e:=Zg false) (z := [Iv 0,Iv 0,Iv 0,Iv 0,Iv 0]) rfl hl
  (λi hh=>Ds lo a l.length c (some (h.length,0)) l.length (some l.length) (i:Nat) hh) (λi hi hh m=>by
   obtain ⟨o,rfl,ho⟩:=(m.keep0 rdones_ok hs).get hi;refine ⟨l[i].cs,[],hh,⟨rfl,rfl⟩,Mv.nil,rfl,?_⟩;rw[Ds.e,Ak (by omega),Ac hi];simp only[Ae,AW,ho,Ab,Aa,Ag];rw[YP];simp only[Ae,AW,Ab,Aa,Ag,Ad,AN,Ac hi,zfY,Am (show i<9223372036854775807 by omega)])
 refine ⟨some (h.length,0),h',F',TT ?_,by rw[zgU] at r;exact r,m⟩;rw[EF (by omega)];refine e.trans ?_;rw[Ds.e,Ai (by omega)]
theorem Ow {w:World}{cs:List V} (hs:BK true h cs w F) (hl:lo<=h.length) (hn:EP w):∃ cs' h' F',Af lo 39 [.agg cs] h=some (.agg cs',h')/\BK false h' cs' w F'/\Mv h [] h' F':=by
 obtain ⟨a1,c1,a2,c2,a3,c3,a4,c4,F1,F2,F3,F4,rfl,rfl,r1,r2,r3,r4⟩:=hs;obtain ⟨b1,b2,b3,b4⟩:=hn;obtain ⟨x1,h1,G1,e1,q1,m1⟩:=Ux r1 hl b1;obtain ⟨x2,h2,G2,e2,q2,m2⟩:=WI (lo:=lo) (m1.keep0 rsesss_ok r2) (zfE hl m1.le) b2;have m12:=m1.join m2 (rplaces_ok.bd _ _ _ _ q1);obtain ⟨x3,h3,G3,e3,q3,m3⟩:=Uy (lo:=lo) (m2.keep0 rframes_ok (m1.keep0 rframes_ok r3)) (zfE hl m12.le) b3;have q1':=m2.keep0 rplaces_ok q1;have m13:=m12.join m3 (λb hb=>by
  rw[zfF] at hb;exact hb.elim (rplaces_ok.bd _ _ _ _ q1' b) (rsesss_ok.bd _ _ _ _ q2 b))
 have q1'':=m3.keep0 rplaces_ok q1';have q2'':=m3.keep0 rsesss_ok q2;obtain ⟨x4,h4,G4,e4,q4,m4⟩:=WM (lo:=lo) (m3.keep0 rdones_ok (m2.keep0 rdones_ok (m1.keep0 rdones_ok r4))) (zfE hl m13.le) b4;have m14:=m13.join m4 (λb hb=>by
  simp only[zfF] at hb;rcases hb with (hb | hb) | hb
  ·exact rplaces_ok.bd _ _ _ _ q1'' b hb
  ·exact rsesss_ok.bd _ _ _ _ q2'' b hb
  ·exact rframes_ok.bd _ _ _ _ q3 b hb)
 refine ⟨w.cs x1 _ x2 _ x3 _ x4 _,h4,G1++(G2++(G3++G4)),TK ?_,⟨_,_,_,_,_,_,_,_,G1,G2,G3,G4,rfl,rfl,m4.keep0 rplaces_ok q1'',m4.keep0 rsesss_ok q2'',m4.keep0 rframes_ok q3,q4⟩,by
  rw[zfS,zfS] at m14;exact m14⟩
 rw[e1,Ad,Ah,e2,Ad,Ah,e3,Ad,Ah,e4,Ad,Ah]
theorem zdi (h1:RPlaces ro h [.sl 6 a l.length c] l F) (h2:RPlaces ro' h [.sl 6 a' l.length c'] l F') (hn:l.length<=1048576/\∀ p∈l,Ef p):Af lo 83 [.sl 6 a l.length c,.sl 6 a' l.length c'] h=some (.bool true,h):=by
 have hn1:=hn.1;refine RO (h':=h) ?_;rw[FS,Aq];refine (Jz (n:=l.length) (λi=>C9 (List.length h) a l.length c a' l.length c' false (i:Nat) h) λi hi=>?_).trans ?_
 ·obtain ⟨o,s1,s2,s3,a1,c1,a2,c2,a3,c3,F1,F2,F3,rfl,ho,_,_,_,_,e1,e2,e3,r1,r2,r3,_⟩:=h1.get hi;obtain ⟨o',s1',s2',s3',a1',c1',a2',c2',a3',c3',F1',F2',F3',rfl,ho',_,_,_,_,e1',e2',e3',r1',r2',r3',_⟩:=h2.get hi;rw[C9.e,Ak (by omega),Ac hi];simp only[Ae,AW,ho,ho',Ab,Aa,e1,e2,e3,e1',e2',e3',AB,Ag,Ac hi];have he:=zeg (lo:=List.length h) (p:=l[i]) (h:=h) (F:=F1++(F2++F3)) (F':=F1'++(F2'++F3')) (a1:=a1) (c1:=c1) (a2:=a2) (c2:=c2) (a3:=a3) (c3:=c3) (a1':=a1') (c1':=c1') (a2':=a2') (c2':=c2') (a3':=a3') (c3':=c3') ⟨_,_,_,_,_,_,rfl,rfl,r1,r2,r3⟩ ⟨_,_,_,_,_,_,rfl,rfl,r1',r2',r3'⟩ (hn.2 _ (zfD hi));rw[he];simp only[Ad,Ar,Aq,Am (show i<9223372036854775807 by omega)]
 ·rw[C9.e,Ai (by omega)]
theorem ze2 {s:Sess} (h1:RTags ro h [.sl 2 a s.past.length c] s.past F) (h2:RTags ro' h [.sl 2 a' s.past.length c'] s.past F') (hn:s.past.length<=1048576):Af lo 166 [.agg (s.cs a c),.agg (s.cs a' c')] h=some (.bool true,h) :=
 Vl (h':=h) (by simp only[zdj h1 h2 hn,Ad,Ar,Aq,FS,LI,zho])
theorem zef {l:List Sess} (h1:RSesss ro h [.sl 5 a l.length c] l F) (h2:RSesss ro' h [.sl 5 a' l.length c'] l F') (hn:l.length<=1048576/\∀ s∈l,s.past.length<=1048576):Af lo 84 [.sl 5 a l.length c,.sl 5 a' l.length c'] h=some (.bool true,h):=by
 have hn1:=hn.1;refine Ua (h':=h) ?_;rw[FS,Aq];refine (Jz (n:=l.length) (λi=>Dx (List.length h) a l.length c a' l.length c' false (i:Nat) h) λi hi=>?_).trans ?_
 ·obtain ⟨o,v,a1,c1,G,rfl,ho,_,_,es,r1,_⟩:=h1.get hi;obtain ⟨o',v',a1',c1',G',rfl,ho',_,_,es',r1',_⟩:=h2.get hi;rw[Dx.e,Ak (by omega),Ac hi];simp only[Ae,AW,ho,ho',Ab,Aa,es,es',Ag,Ac hi];rw[ze2 r1 r1' (hn.2 _ (zfD hi))];simp only[Ad,Ar,Aq,Am (show i<9223372036854775807 by omega)]
 ·rw[Dx.e,Ai (by omega)]
theorem zdl {l:List Frame} (h1:RFrames ro h [.sl 9 a l.length c] l F) (h2:RFrames ro' h [.sl 9 a' l.length c'] l F') (hn:l.length<=1048576/\∀ f∈l,f.ver.past.length<=1048576/\f.ver.text.size<=1048576):Af lo 85 [.sl 9 a l.length c,.sl 9 a' l.length c'] h=some (.bool true,h):=by
 have hn1:=hn.1;refine RP (h':=h) ?_;rw[FS,Aq];refine (Jz (n:=l.length) (λi=>Da (List.length h) a l.length c a' l.length c' false (i:Nat) h) λi hi=>?_).trans ?_
 ·obtain ⟨o,s,a1,c1,G,rfl,ho,es,r1,_⟩:=h1.get hi;obtain ⟨o',s',a1',c1',G',rfl,ho',es',r1',_⟩:=h2.get hi;rw[Da.e,Ak (by omega),Ac hi];simp only[Ae,AW,ho,ho',Ab,Aa,es,es',A4,AB,Ag,Ac hi];rw[zej (f:=l[i]) r1 r1' (hn.2 _ (zfD hi)).1];simp only[Ad,Ar,Aq,Am (show i<9223372036854775807 by omega)]
 ·rw[Da.e,Ai (by omega)]
theorem ze3 {d:Done}:Af lo 168 [.agg d.cs,.agg d.cs] h=some (.bool true,h) :=
 Vo (h':=h) (by simp only[Ad,Ar,Aq,FS,LI,zho])
theorem zek {l:List Done} (h1:RDones ro h [.sl 5 a l.length c] l F) (h2:RDones ro' h [.sl 5 a' l.length c'] l F') (hn1:l.length<=1048576):Af lo 86 [.sl 5 a l.length c,.sl 5 a' l.length c'] h=some (.bool true,h):=by
 refine Ue (h':=h) ?_;rw[FS,Aq];refine (Jz (n:=l.length) (λi=>Dz (List.length h) a l.length c a' l.length c' false (i:Nat) h) λi hi=>?_).trans ?_
 ·obtain ⟨o,rfl,ho⟩:=h1.get hi;obtain ⟨o',rfl,ho'⟩:=h2.get hi;rw[Dz.e,Ak (by omega),Ac hi];simp only[Ae,AW,ho,ho',Ab,Aa,Ag,Ac hi];rw[ze3];simp only[Ad,Ar,Aq,Am (show i<9223372036854775807 by omega)]
 ·rw[Dz.e,Ai (by omega)]
theorem O3 {w:World}{cs cs':List V} (h1:BK ro h cs w F) (h2:BK ro' h cs' w F') (hn:EP w):Af lo 31 [.agg cs,.agg cs'] h=some (.bool true,h):=by obtain ⟨a1,c1,a2,c2,a3,c3,a4,c4,F1,F2,F3,F4,rfl,rfl,r1,r2,r3,r4⟩:=h1;obtain ⟨a1',c1',a2',c2',a3',c3',a4',c4',F1',F2',F3',F4',rfl,rfl,q1,q2,q3,q4⟩:=h2;refine T7 (h':=h) ?_;rw[zdi r1 q1 hn.1,Ad,Ar,Aq,zef r2 q2 hn.2.1,Ad,Ar,Aq,zdl r3 q3 hn.2.2.1,Ad,Ar,Aq,zek r4 q4 hn.2.2.2,Ad,Ar,Aq]
end


def zcA (p:Place) (to at':Int):Bool:=AM p&&Aj to 0 2 && !(p.me==to)&&Aj at' 0 (p.log.length - 1)
def zfr (p:Place) (to at':Int):Frame:=bif zcA p to at' then ⟨p.me,to,at',(p.log[at'.toNat]?).getD zfi⟩ else ⟨0,0,0,zfi⟩
section
variable {lo:Nat}{h:Heap}{F F':List Nat}{a a':Pq}{c c':Nq}
theorem Ta {x y:Int}:Af lo 226 [Iv x,Iv y] h=some (.bool (Aj x 0 2&&Aj y 0 2 && !(x==y)),h) :=
 X2 (h':=h) (by
  simp only[ER,Ad,Ar];cases Aj x 0 2<;>cases Aj y 0 2<;>cases (x==y)<;>rfl)
theorem ZD {n:Nat} (hn:n<=1048576):Ap ((n:Int) - 1)=(n:Int) - 1:=wr (by omega) (by omega)
end


variable {l:List Done}{s:Sess}
def Fa (s:Sess):Bool:=Aj s.place 0 2&&Bt s.past&&Bd s.wait.time s.wait.place&&Aj s.key 0 3&&(decide (s.wait.time>0) || s.key==0)&&(s.wait.time==0 || s.wait.place==s.place)
def FR (d:Done):Bool:=Aj d.sess 0 3&&Aj d.kind 1 3&&Aj d.key 0 3&&Bd d.tag.time d.tag.place&&(d.kind==2 || decide (d.tag.time>0))
def FC (l:List Place) (k:Nat):List Ver:=match l[k]? with
 | some p=>p.log
 | none => []
theorem HJ {l:List Place}{k:Nat} (hk:k<l.length):FC l k=l[k].log:=by unfold FC;rw[EM hk]
def E5 (l:List Place) (f:Frame):Bool:=Aj f.fro 0 2&&Aj f.to 0 2 && !(f.fro==f.to)&&Aj f.at' 0 (((FC l f.fro.toNat).length:Int) - 1)&&(match (FC l f.fro.toNat)[f.at'.toNat]? with | some v=>CR v f.ver | none=>false)
def J8 (log head:List Ver):Bool:=decide (head.length<=log.length)&&Dh (log.take head.length) head
theorem zd1:(Aj s.place 0 2&&(Bt s.past&&(Bd s.wait.time s.wait.place&&(bif ((s.wait.time==0)&&((s.wait.place==0)&&true)) then s.key==0 else (s.wait.place==s.place&&Aj s.key 0 3)))))=Fa s:=by
 unfold Fa;cases Aj s.place 0 2 with
 | false=>rfl
 | true =>
 cases Bt s.past with
 | false=>rfl
 | true =>
 cases ht:Bd s.wait.time s.wait.place with
 | false=>simp
 | true =>
  simp[Bd,Aj] at ht;by_cases h0:s.wait.time=0
  ·have hp:s.wait.place=0:=by omega
   rw[zgn];simp[h0,hp,Aj];omega
  ·have h1:0<s.wait.time:=by omega
   rw[zgn];simp[h0,h1,Aj,and_comm]
section
variable {lo:Nat}{ro ro':Bool}{h:Heap}{F F':List Nat}{a a':Pq}{c c':Nq}
theorem PG {l:List Sess}{g:Nat}{cl:List V}{p:Sess->Bool} (hs:RSesss ro h [.sl 5 a l.length c] l F) (hn:l.length<=1048576)
  (hp:∀ lo x a1 c1 G,x∈l->RTags ro h [.sl 2 a1 x.past.length c1] x.past G->Af lo g (Dl [.agg (x.cs a1 c1)] cl) h=some (.bool (p x),h)) :
  Af lo 159 [.sl 5 a l.length c,.fn g cl] h=some (.bool (l.any p),h):=by
 have loop:∀ m k x,m+k=l.length->AF (List.length h) a l.length c g cl x (l.length:Nat) (k:Nat) h=some (Iv (BC p (l.drop k) k),h):=by
  intro m;induction m with
  | zero =>intro k x hk;rw[AF.e,Ai (by omega),show k=l.length by omega];simp[BC]
  | succ m ih =>
   intro k x hk;have hlt:k<l.length:=by omega
   obtain ⟨o,v,b1,d1,G,rfl,ho,_,_,es,hpp,_⟩:=hs.get hlt;rw[AF.e,Ak (by omega),Ac (by omega)];simp only[Ae,AW,ho,Ab,Aa,Ag,es];rw[hp (List.length h) l[k] b1 d1 G (zfD hlt) hpp,Ad,Ar,zfT hlt];simp only[BC];cases p l[k]
   ·simp only[Ay,cond_false];rw[Am (by omega)];exact ih (k+1) _ (by omega)
   ·simp
 exact FG (h':=h) (by rw[Gz (loop l.length 0 0 (by omega))];simp only[Ad,Aa,LQ];rw[Gq];simp)
theorem Oq {l:List Frame}{g:Nat}{cl:List V}{p:Frame->Bool} (hs:RFrames ro h [.sl 9 a l.length c] l F) (hn:l.length<=1048576)
  (hp:∀ lo x a1 c1 G,x∈l->RTags ro h [.sl 2 a1 x.ver.past.length c1] x.ver.past G->Af lo g (Dl [.agg (x.cs a1 c1)] cl) h=some (.bool (p x),h)) :
  Af lo 162 [.sl 9 a l.length c,.fn g cl] h=some (.bool (l.any p),h):=by
 have loop:∀ m k x,m+k=l.length->AD (List.length h) a l.length c g cl x (l.length:Nat) (k:Nat) h=some (Iv (BC p (l.drop k) k),h):=by
  intro m;induction m with
  | zero =>intro k x hk;rw[AD.e,Ai (by omega),show k=l.length by omega];simp[BC]
  | succ m ih =>
   intro k x hk;have hlt:k<l.length:=by omega
   obtain ⟨o,s,b1,d1,G,rfl,ho,es,hpp,_⟩:=hs.get hlt;rw[AD.e,Ak (by omega),Ac (by omega)];simp only[Ae,AW,ho,Ab,Aa,Ag,es,A4,AB];rw[hp (List.length h) l[k] b1 d1 G (zfD hlt) hpp,Ad,Ar,zfT hlt];simp only[BC];cases p l[k]
   ·simp only[Ay,cond_false];rw[Am (by omega)];exact ih (k+1) _ (by omega)
   ·simp
 exact Fb (h':=h) (by rw[FU (loop l.length 0 0 (by omega))];simp only[Ad,Aa,LQ];rw[Gq];simp)
theorem PI {g:Nat}{cl:List V}{p:Done->Bool} (hs:RDones ro h [.sl 5 a l.length c] l F) (hn:l.length<=1048576)
  (hp:∀ lo x,x∈l->Af lo g (Dl [.agg (x.cs)] cl) h=some (.bool (p x),h)) :
  Af lo 232 [.sl 5 a l.length c,.fn g cl] h=some (.bool (l.any p),h):=by
 have loop:∀ m k x,m+k=l.length->AH (List.length h) a l.length c g cl x (l.length:Nat) (k:Nat) h=some (Iv (BC p (l.drop k) k),h):=by
  intro m;induction m with
  | zero =>intro k x hk;rw[AH.e,Ai (by omega),show k=l.length by omega];simp[BC]
  | succ m ih =>
   intro k x hk;have hlt:k<l.length:=by omega
   obtain ⟨o,rfl,ho⟩:=hs.get hlt;rw[AH.e,Ak (by omega),Ac (by omega)];simp only[Ae,AW,ho,Ab,Aa,Ag];rw[hp (List.length h) l[k] (zfD hlt),Ad,Ar,zfT hlt];simp only[BC];cases p l[k]
   ·simp only[Ay,cond_false];rw[Am (by omega)];exact ih (k+1) _ (by omega)
   ·simp
 exact FI (h':=h) (by rw[GB (loop l.length 0 0 (by omega))];simp only[Ad,Aa,LQ];rw[Gq];simp)
theorem Yr (hs:RTags ro h [.sl 2 a s.past.length c] s.past F) (hn:s.past.length<=1048576):Af lo 180 [.agg (s.cs a c)] h=some (.bool (Fa s),h):=by refine Rw (h':=h) ?_;rw[A9,Ad,Ar,NB hs hn,Ad,Ar,Jt,Ad,Ar,A9,Ad,Ar];unfold Fa;cases Aj s.place 0 2<;>cases Bt s.past<;>cases Bd s.wait.time s.wait.place<;>cases Aj s.key 0 3<;>cases decide (s.wait.time>0)<;>cases (s.key==0)<;>cases (s.wait.time==0)<;>cases (s.wait.place==s.place)<;>rfl
theorem Y2 (hs:RTags ro h [.sl 2 a s.past.length c] s.past F) (hn:s.past.length<=1048576):Af lo 161 [.agg (s.cs a c)] h=some (.bool (Fa s),h):=by refine Pv (h':=h) ?_;rw[ER,Ad,Ar,Rg hs hn,Ad,Ar,LM,Ad,Ar,IO,Ad,Ar,<- zd1];cases Aj s.place 0 2<;>cases Bt s.past<;>cases Bd s.wait.time s.wait.place<;>cases Aj s.key 0 3<;>cases ((s.wait.time==0)&&((s.wait.place==0)&&true))<;>cases (s.key==0)<;>cases (s.wait.place==s.place)<;>rfl
theorem zbD {d:Done}:Af lo 182 [.agg d.cs] h=some (.bool (FR d),h):=by refine UK (h':=h) ?_;rw[A9,Ad,Ar,A9,Ad,Ar,A9,Ad,Ar,Jt,Ad,Ar];unfold FR;cases Aj d.sess 0 3<;>cases Aj d.kind 1 3<;>cases Aj d.key 0 3<;>cases Bd d.tag.time d.tag.place<;>cases (d.kind==2)<;>cases decide (d.tag.time>0)<;>rfl
theorem zeB {d:Done}:(Aj d.sess 0 3&&(Aj d.kind 1 3&&(Aj d.key 0 3&&(Bd d.tag.time d.tag.place&&(bif ((d.tag.time==0)&&((d.tag.place==0)&&true)) then d.kind==2 else true)))))=FR d:=by
 unfold FR;cases Aj d.sess 0 3 with
 | false=>rfl
 | true =>
 cases Aj d.kind 1 3 with
 | false=>rfl
 | true =>
 cases Aj d.key 0 3 with
 | false=>rfl
 | true =>
 cases ht:Bd d.tag.time d.tag.place with
 | false=>rfl
 | true =>
  simp[Bd,Aj] at ht;by_cases h0:d.tag.time=0
  ·have hp:d.tag.place=0:=by omega
   rw[zgn];simp[h0,hp]
  ·have h1:0<d.tag.time:=by omega
   rw[zgn];simp[h0,h1]
theorem Y1 (hs:RDones ro h [.sl 5 a l.length c] l F) (hn:l.length<=1048576):Af lo 157 [.sl 5 a l.length c] h=some (.bool (decide (l.length<=80)&&l.all FR),h):=by
 refine Vs (h':=h) ?_;by_cases h8:l.length<=80
 ·rw[Ak (by omega),decide_eq_true h8,PI hs hn (p:=λd => !FR d) (λlo d _=>by
   rw[show ∀ x:List V,Dl x []=x from λx=>by simp[Dl]];refine RR (h':=h) ?_;rw[Be,Ad,Ar,Be,Ad,Ar,IO,Ad,Ar,LM,Ad,Ar,<- zeB];cases Aj d.sess 0 3<;>cases Aj d.kind 1 3<;>cases Aj d.key 0 3<;>cases Bd d.tag.time d.tag.place<;>cases ((d.tag.time==0)&&((d.tag.place==0)&&true))<;>cases (d.kind==2)<;>rfl),Ad,Ar]
  rw[zg5];simp only[Bool.not_not,zfQ];cases l.all FR<;>rfl
 ·rw[Ai (by omega),decide_eq_false h8];rfl
theorem Rt {l l':List Ver} (hs:RVers false h [.sl 6 a l.length c] l F) (hs':RVers false h [.sl 6 a' l'.length c'] l' F') (hn:Ci l):Af lo 158 [.sl 6 a l.length c,.sl 6 a' l'.length c'] h=some (.bool (J8 l l'),h):=by
 refine Pn (h':=h) ?_;unfold J8;by_cases hl:l'.length<=l.length
 ·obtain ⟨G,hp⟩:=Sli.pre hs hl;have htl:(l.take l'.length).length=l'.length:=by rw[zf2];omega
  rw[Ak (by omega),QU hs hl,decide_eq_true hl];have hp':RVers false h [.sl 6 a (l.take l'.length).length c] (l.take l'.length) G:=by rw[htl];exact hp
  have hsm:Ci (l.take l'.length):=⟨by rw[htl];have:=hn.1;omega,λv hv=>hn.2 v (zhe hv)⟩;have e:=Mu (lo:=List.length h) hp' hs' hsm;rw[htl] at e;rw[e,Ad,Ar,zfQ];exact Ik
 ·rw[Ai (by omega),decide_eq_false hl];rfl
end


variable {w:World}{f:Frame}
def FB (l:List Place):Bool:=l.zipIdx.all λx=>x.1.me==(x.2:Int)&&AM x.1
def Jy (l:List Place) (p:Place):Bool:=p.got.zipIdx.all λx=>J8 (FC l x.2) x.1
def I7 (l:List Place):Bool:=l.all (Jy l)
def Df (w:World):Bool:=decide (w.places.length=3)&&decide (w.sess.length<=4)&&decide (w.net.length<=12)&&decide (w.hist.length<=80)&&FB w.places&&w.sess.all Fa&&w.net.all (E5 w.places)&&w.hist.all FR&&I7 w.places
theorem Fd {l:List Place} (h:FB l=true):∀ i (hi:i<l.length),l[i].me=(i:Int)/\AM l[i]=true:=λi hi=>by have:=(EX (p:=λ(i:Nat) (x:Place)=>x.me==(i:Int)&&AM x) (l:=l)).1 h i hi;simpa using this
theorem Yv {v u:Ver}:CR v u=CR u v:=by rw[zgn,same_iff,same_iff];exact eq_comm
theorem Wv {v u:List Ver}:Dh v u=Dh u v:=by rw[zgn,sameVers_iff,sameVers_iff];exact eq_comm
theorem zcl {s t:List Ver} (h:s.length=t.length):((s.zip t).all λx=>CR x.1 x.2)=Dh s t:=by unfold Dh;rw[decide_eq_true h,zfQ]
section
variable {lo:Nat}{ro ro':Bool}{h:Heap}{F F' F1:List Nat}{a a' a1 a2 a3 a4:Pq}{c c' c1 c2 c3 c4:Nq}
theorem Wu (r1:RPlaces false h [.sl 6 a1 w.places.length c1] w.places F1) (h3:w.places.length=3) (hok:FB w.places=true) (hs:RTags ro h [.sl 2 a f.ver.past.length c] f.ver.past F) (hn:f.ver.past.length<=1048576/\f.ver.text.size<=1048576) :
  Af lo 181 [.agg (w.cs a1 c1 a2 c2 a3 c3 a4 c4),.agg (f.cs a c)] h=some (.bool (E5 w.places f),h):=by
 refine Qk (h':=h) ?_;unfold E5;rw[A9,Ad,Ar,A9,Ad,Ar];cases hw:Aj f.fro 0 2 with
 | false=>rw[Ay];rfl
 | true =>
 cases hw2:Aj f.to 0 2 with
 | false=>rw[Aq,Ay];rfl
 | true =>
 rw[Aq,Aq];cases hft:(f.fro==f.to) with
 | true=>rw[Aq];rfl
 | false =>
 simp only[Aj,E1,decide_eq_true_eq] at hw;have hk:f.fro.toNat<w.places.length:=by omega
 obtain ⟨o,s1,s2,s3,b1,d1,b2,d2,b3,d3,G1,G2,G3,ha,_,_,_,ho3,_,_,e2,_,_,g2,_,_⟩:=r1.get hk;have hlog:∀ i (hi:i<w.places[f.fro.toNat].log.length),BO w.places[f.fro.toNat].log[i]=true:=λi hi=>((EL (A3 (Fd hok _ hk).2).2.2.2.2.2.1).2 i hi).1
 have hll:w.places[f.fro.toNat].log.length<=60:=(EL (A3 (Fd hok _ hk).2).2.2.2.2.2.1).1;rw[HJ hk];generalize w.places[f.fro.toNat].log=lg at hlog hll g2 e2 ⊢;rw[Ay,BY ⟨by omega,by omega⟩,ha,Ae,ho3,Ae,Ab,Ag,e2,A9,Ad,Ar,wr (n:=((lg.length:Nat):Int) - 1) (by omega) (by omega)];cases hw3:Aj f.at' 0 ((lg.length:Int) - 1) with
 | false=>rw[Ay];rfl
 | true =>
 simp only[Aj,E1,decide_eq_true_eq] at hw3;have hk3:f.at'.toNat<lg.length:=by omega
 rw[Aq,MT (v:=f.ver) hs hn,Ad,Ar,EM hk3];cases hv:BO f.ver with
 | false =>
  rw[Ay];have:CR lg[f.at'.toNat] f.ver=false:=by rw[Bool.eq_false_iff];intro hsame;rw[same_iff] at hsame;have:=hlog _ hk3;rw[hsame,hv] at this;cases this
  simp[this]
 | true =>obtain ⟨o4,s4,b4,d4,G4,ha4,ho4,es4,hp4,_⟩:=g2.get hk3;have e:=Mf (lo:=List.length h) (h:=h) (v:=f.ver) (u:=lg[f.at'.toNat]) hs hp4 hv (hlog _ hk3);simp only[Frame.cs,Ver.cs] at e;rw[Aq,BY ⟨by omega,by omega⟩,Ae,ho3,Ae,Ab,Ag,e2,BY ⟨by omega,by omega⟩,ha4,Ae,ho4,Ae,Ab,Aa,Ab,Aa,Ab,Aa,Ab,es4,Ab,A4,Ab,AB,Ag,e,Ad,Ar,Yv];show br _ _ _=some (V.bool (CR lg[f.at'.toNat] f.ver),h);exact Ik
theorem W5 {b:Nat} (hb:h[b]?=some (.rows 4 60 false [w.cs a1 c1 a2 c2 a3 c3 a4 c4])) (r1:RPlaces false h [.sl 6 a1 w.places.length c1] w.places F1) (h3:w.places.length=3) (hok:FB w.places=true) (hs:RTags ro h [.sl 2 a f.ver.past.length c] f.ver.past F) :
  Af lo 164 [.ptr (some (b,(0,0))),.agg (f.cs a c)] h=some (.bool (E5 w.places f),h):=by
 refine ML (h':=h) ?_;unfold E5;have l1:ld h b 0 (0+0) 1=some [.sl 6 a1 w.places.length c1]:=by rw[B7 hb rfl];rfl
 rw[Ta,Ad,Ar];cases hw:Aj f.fro 0 2 with
 | false=>simp only[zgs];rw[Ay]
 | true =>
 cases hw2:Aj f.to 0 2 with
 | false=>simp only[zfQ,zgs];rw[Ay]
 | true =>
 cases hft:(f.fro==f.to) with
 | true=>simp only[zfQ,zgo,zgs];rw[Ay]
 | false =>
 simp only[zfQ,zgx];simp only[Aj,E1,decide_eq_true_eq] at hw;have hk:f.fro.toNat<w.places.length:=by omega
 obtain ⟨o,s1,s2,s3,b1,d1,b2,d2,b3,d3,G1,G2,G3,ha,_,_,_,ho3,_,_,e2,_,_,g2,_,_⟩:=r1.get hk;have hll:w.places[f.fro.toNat].log.length<=60:=(EL (A3 (Fd hok _ hk).2).2.2.2.2.2.1).1;have hlog:∀ i (hi:i<w.places[f.fro.toNat].log.length),BO w.places[f.fro.toNat].log[i]=true:=λi hi=>((EL (A3 (Fd hok _ hk).2).2.2.2.2.2.1).2 i hi).1
 rw[HJ hk];generalize w.places[f.fro.toNat].log=lg at hlog hll g2 e2 ⊢;rw[Aq,l1,Ae,Ab,Ag,Ah,BY ⟨by omega,by omega⟩,ha,Ae,ho3,Ae,Ab,Ag,e2,Be,Ad,Ar,wr (n:=((lg.length:Nat):Int) - 1) (by omega) (by omega)];cases hw3:Aj f.at' 0 ((lg.length:Int) - 1) with
 | false=>rw[Ay];rfl
 | true =>
 simp only[Aj,E1,decide_eq_true_eq] at hw3;have hk3:f.at'.toNat<lg.length:=by omega
 obtain ⟨o4,s4,b4,d4,G4,ha4,ho4,es4,hp4,_⟩:=g2.get hk3;have e:=VZ (lo:=List.length h) (h:=h) (v:=lg[f.at'.toNat]) (u:=f.ver) hp4 hs (by have:=BX (AZ (hlog _ hk3)).2.2.2.1;omega);simp only[Frame.cs,Ver.cs] at e;rw[Aq,l1,Ae,Ab,Ag,ha,Ah,BY ⟨by omega,by omega⟩,Ae,ho3,Ae,Ab,Ag,e2,BY ⟨by omega,by omega⟩,ha4,Ae,ho4,Ae,Ab,Aa,Ab,Aa,Ab,Aa,Ab,es4,Ab,A4,Ab,AB,Ag,e,Ad,Ar,EM hk3];show br _ _ _=some (V.bool (CR lg[f.at'.toNat] f.ver),h);exact Ik
theorem ZO (r1:RPlaces false h [.sl 6 a1 w.places.length c1] w.places F1) (h3:w.places.length=3) (hok:FB w.places=true) :
  Af lo 183 [.agg (w.cs a1 c1 a2 c2 a3 c3 a4 c4)] h=some (.bool (I7 w.places),h):=by
 refine TC (h':=h) ?_;unfold I7;refine (BB (p:=Jy w.places) (l:=w.places) (λi=>CM (List.length h) false (i:Nat) a1 w.places.length c1 a2 w.sess.length c2 a3 w.net.length c3 a4 w.hist.length c4 h) (some (.bool false,h)) (some (.bool true,h)) (λi hi=>?_) ?_).trans ?_
 ·have hpo:=(Fd hok i hi).2;have hgl:w.places[i].got.length=3:=(A3 hpo).2.2.1;rw[CM.e,Ak (by omega)];unfold Jy;refine (BB (p:=λx:List Ver×Nat=>J8 (FC w.places x.2) x.1) (l:=w.places[i].got.zipIdx) (λk=>CL (List.length h) false (i:Nat) (k:Nat) a1 w.places.length c1 a2 w.sess.length c2 a3 w.net.length c3 a4 w.hist.length c4 h) (some (.bool false,h)) (CM (List.length h) false ((i+1:Nat):Int) a1 w.places.length c1 a2 w.sess.length c2 a3 w.net.length c3 a4 w.hist.length c4 h) (λk hk=>?_) ?_).trans ?_
  ·rw[zgM] at hk;simp only[zg6,zfY];have hk3:k<w.places.length:=by omega
   obtain ⟨o,s1,s2,s3,b1,d1,b2,d2,b3,d3,G1,G2,G3,ha,_,_,_,_,ho4,_,_,e3,_,_,g3,_⟩:=r1.get hi;obtain ⟨o',s1',s2',s3',b1',d1',b2',d2',b3',d3',G1',G2',G3',ha',_,_,_,ho3',_,_,e2',_,_,g2',_,_⟩:=r1.get hk3;have hoo:o=o':=by rw[ha] at ha';injection ha'
   subst hoo;obtain ⟨og,sg,bg,dg,Gg,hag,hog,eg,gg,_⟩:=g3.get hk;have hlogs:=EL (A3 (Fd hok k hk3).2).2.2.2.2.2.1;have hgots:=EL (R4 hpo hk);rw[HJ hk3];generalize w.places[i].got[k]=gt at eg gg hgots ⊢;generalize w.places[k].log=lg at e2' g2' hlogs ⊢;rw[CL.e,Ak (by omega),Ac hi,ha,Ae,AW,ho4,Ae,Ab,Ag,e3,Ac hk,hag,Ae,AW,hog,Ae,Ab,Ag,eg,Ac hk3,Ae,ho3',Ae,Ab,Ag,e2'];unfold J8;by_cases hle:gt.length<=lg.length
   ·rw[Ai (by omega),decide_eq_true hle,zfQ];have htl:gt.length=(lg.take gt.length).length:=by rw[zf2];omega
    have hzl:(gt.zip (lg.take gt.length)).length=gt.length:=by rw[zhj,<- htl];omega
    refine (BB (p:=λx:Ver×Ver=>CR x.1 x.2) (l:=gt.zip (lg.take gt.length)) (λn=>Dn (List.length h) false (i:Nat) (k:Nat) bg gt.length dg (n:Nat) (some o) w.places.length c1 a2 w.sess.length c2 a3 w.net.length c3 a4 w.hist.length c4 h) (some (.bool false,h)) (CL (List.length h) false (i:Nat) ((k+1:Nat):Int) (some o) w.places.length c1 a2 w.sess.length c2 a3 w.net.length c3 a4 w.hist.length c4 h) (λn hn=>?_) ?_).trans ?_
    ·have hn1:n<gt.length:=by omega
     have hn2:n<lg.length:=by omega
     obtain ⟨q1,t1,x1,y1,H1,z1,ld1,es1,p1,_⟩:=gg.get hn1;obtain ⟨q2,t2,x2,y2,H2,z2,ld2,es2,p2,_⟩:=g2'.get hn2;have e:=Mf (lo:=List.length h) (h:=h) (v:=gt[n]) (u:=lg[n]) p1 p2 (hgots.2 n hn1).1 (hlogs.2 n hn2).1;simp only[Ver.cs] at e;rw[Dn.e,Ak (by omega),Ac hn1,z1,Ae,AW,ld1,Ae,Ab,Aa,Ab,Aa,Ab,Aa,Ab,es1,Ab,A4,Ab,AB,Ag,Ac hk3,Ae,AW,ho3',Ae,Ab,Ag,e2',Ac hn2,z2,Ae,ld2,Ae,Ab,Aa,Ab,Aa,Ab,Aa,Ab,es2,Ab,A4,Ab,AB,Ag,e,Ad,Ar,Am (by omega)];simp only[zg8,List.getElem_take];cases CR gt[n] lg[n]<;>rfl
    ·rw[hzl,Dn.e,Ai (by omega),Am (by omega)]
    ·rw[zcl htl,Wv]
   ·rw[Ak (by omega),decide_eq_false hle,zgs];rfl
  ·rw[zgM,CL.e,Ai (by omega),Am (by omega)]
  ·rfl
 ·rw[CM.e,Ai (by omega)]
 ·cases w.places.all (Jy w.places)<;>rfl
theorem Wn {cs:List V} (hs:BK false h cs w F) (hn:EP w):Af lo 101 [.agg cs] h=some (.bool (Df w),h):=by
 obtain ⟨a1,c1,a2,c2,a3,c3,a4,c4,F1,F2,F3,F4,rfl,rfl,r1,r2,r3,r4⟩:=hs;obtain ⟨n1,n2,n3,n4⟩:=hn;refine Zv ?_;unfold Df;by_cases h3:w.places.length=3
 ·rw[show (((w.places.length:Nat):Int)==3)=true by rw[beq_iff_eq];omega,Aq,decide_eq_true h3,zfQ];by_cases hs4:w.sess.length<=4
  ·rw[Ai (by omega),decide_eq_true hs4,zfQ];by_cases hn12:w.net.length<=12
   ·rw[Ai (by omega),decide_eq_true hn12,zfQ];by_cases hh80:w.hist.length<=80
    ·rw[Ai (by omega),decide_eq_true hh80,zfQ];have e0:=BB (p:=λx:Place×Nat=>x.1.me==(x.2:Int)&&AM x.1) (l:=w.places.zipIdx) (λi=>EY lo false (i:Nat) a1 w.places.length c1 a2 w.sess.length c2 a3 w.net.length c3 a4 w.hist.length c4 h) (some (.bool false,h)) (Ep lo false 0 a1 w.places.length c1 a2 w.sess.length c2 a3 w.net.length c3 a4 w.hist.length c4 h) (λi hi=>by
       rw[zgM] at hi;simp only[zg6,zfY];obtain ⟨o,s1,s2,s3,b1,d1,b2,d2,b3,d3,G1,G2,G3,ha,ho,ho0,_,_,_,e1,e2,e3,g1,g2,g3,_⟩:=r1.get hi;have e:=zbB (lo:=lo) g1 g2 g3 (n1.2 _ (zfD hi));simp only[Place.cs] at e;rw[EY.e,Ak (by omega),Ac hi,ha,Ae,AW,ho0,Ae,Ab,Ag,Aa];cases hme:(w.places[i].me==((i:Nat):Int)) with
       | false=>rw[Ay];rfl
       | true =>
        rw[Aq,Ac hi,Ae,ho,Ae,Ab,Aa,Ab,Aa,Ab,e1,Ab,e2,Ab,e3,Ab,AB,Ag,e,Ad,Ar,Am (by omega),zfQ];cases AM w.places[i]<;>rfl) (by rw[zgM,EY.e,Ai (by omega)])
     refine e0.trans ?_;show (if FB w.places=true then _ else _)=_;cases hok:FB w.places with
     | false=>rfl
     | true =>
     rw[if_pos rfl,zfQ];refine (BB (p:=Fa) (l:=w.sess) (λi=>Ep lo false (i:Nat) a1 w.places.length c1 a2 w.sess.length c2 a3 w.net.length c3 a4 w.hist.length c4 h) (some (.bool false,h)) (Eo lo false 0 a1 w.places.length c1 a2 w.sess.length c2 a3 w.net.length c3 a4 w.hist.length c4 h) (λi hi=>by
       obtain ⟨o,v,b1,d1,G,ha,ho,_,_,es,hpp,_⟩:=r2.get hi;have e:=Yr (lo:=lo) (s:=w.sess[i]) hpp (n2.2 _ (zfD hi));rw[Ep.e,Ak (by omega),Ac hi,ha,Ae,AW,ho,Ae,Ab,Aa,Ab,es,Ab,Aa,Ab,Aa,Ab,Aa,Ag,e,Ad,Ar,Am (by omega)];cases Fa w.sess[i]<;>rfl) (by rw[Ep.e,Ai (by omega)])).trans ?_
     cases hse:w.sess.all Fa with
     | false=>rfl
     | true =>
     rw[if_pos rfl,zfQ];refine (BB (p:=E5 w.places) (l:=w.net) (λi=>Eo lo false (i:Nat) a1 w.places.length c1 a2 w.sess.length c2 a3 w.net.length c3 a4 w.hist.length c4 h) (some (.bool false,h)) (En lo false 0 a1 w.places.length c1 a2 w.sess.length c2 a3 w.net.length c3 a4 w.hist.length c4 h) (λi hi=>by
       obtain ⟨o,s,b1,d1,G,ha,ho,es,hpp,_⟩:=r3.get hi;have e:=Wu (lo:=lo) (w:=w) (a2:=a2) (c2:=c2) (a3:=a3) (c3:=c3) (a4:=a4) (c4:=c4) (f:=w.net[i]) r1 h3 hok hpp (n3.2 _ (zfD hi));simp only[World.cs,Frame.cs,Ver.cs] at e;rw[Eo.e,Ak (by omega),Ac hi];rw[ha] at e ⊢;rw[Ae,AW,ho,Ae,Ab,Aa,Ab,Aa,Ab,Aa,Ab,Aa,Ab,Aa,Ab,Aa,Ab,es,Ab,A4,Ab,AB,Ag,e,Ad,Ar,Am (by omega)];cases E5 w.places w.net[i]<;>rfl) (by rw[Eo.e,Ai (by omega)])).trans ?_
     cases hfr:w.net.all (E5 w.places) with
     | false=>rfl
     | true =>
     rw[if_pos rfl,zfQ];refine (BB (p:=FR) (l:=w.hist) (λi=>En lo false (i:Nat) a1 w.places.length c1 a2 w.sess.length c2 a3 w.net.length c3 a4 w.hist.length c4 h) (some (.bool false,h)) (some (.bool (I7 w.places),h)) (λi hi=>by
       obtain ⟨o,ha,ho⟩:=r4.get hi;rw[En.e,Ak (by omega),Ac hi,ha,Ae,AW,ho,Ae,Ab,Aa,Ab,Aa,Ab,Aa,Ab,Aa,Ab,Aa,Ag,zbD,Ad,Ar,Am (by omega)];cases FR w.hist[i]<;>rfl) (by
       have e:=ZO (lo:=lo) (w:=w) (a2:=a2) (c2:=c2) (a3:=a3) (c3:=c3) (a4:=a4) (c4:=c4) r1 h3 hok;rw[En.e,Ai (by omega),e,Ad,Ar];exact Ik)).trans ?_
     cases w.hist.all FR<;>rfl
    ·rw[Ak (by omega),decide_eq_false hh80];rfl
   ·rw[Ak (by omega),decide_eq_false hn12];rfl
  ·rw[Ak (by omega),decide_eq_false hs4];rfl
 ·rw[show (((w.places.length:Nat):Int)==3)=false by rw[beq_eq_false_iff_ne];omega,Ay,decide_eq_false h3];rfl
theorem W0 {cs:List V} (hs:BK false h cs w F) (hl:lo<=h.length) (hn:EP w):∃ h',Af lo 82 [.agg cs] h=some (.bool (Df w),h')/\Mv h [] h' []:=by
 obtain ⟨a1,c1,a2,c2,a3,c3,a4,c4,F1,F2,F3,F4,rfl,rfl,r1,r2,r3,r4⟩:=hs;obtain ⟨n1,n2,n3,n4⟩:=hn;have m0:Mv h [] (h ++ [.rows 4 60 false [w.cs a1 c1 a2 c2 a3 c3 a4 c4]]) []:=Mv.snoc;have hb:(h ++ [Blk.rows 4 60 false [w.cs a1 c1 a2 c2 a3 c3 a4 c4]])[h.length]?=some (.rows 4 60 false [w.cs a1 c1 a2 c2 a3 c3 a4 c4]):=by simp
 refine ⟨_,Ui ?_,m0⟩;have r1:=m0.keep0 rplaces_ok r1;have r2:=m0.keep0 rsesss_ok r2;have r3:=m0.keep0 rframes_ok r3;have r4:=m0.keep0 rdones_ok r4;have l0:ld (h ++ [Blk.rows 4 60 false [w.cs a1 c1 a2 c2 a3 c3 a4 c4]]) h.length 0 0 1=some [.sl 6 a1 w.places.length c1]:=by rw[B7 hb rfl];rfl
 have l1:ld (h ++ [Blk.rows 4 60 false [w.cs a1 c1 a2 c2 a3 c3 a4 c4]]) h.length 0 1 1=some [.sl 5 a2 w.sess.length c2]:=by rw[B7 hb rfl];rfl
 have l2:ld (h ++ [Blk.rows 4 60 false [w.cs a1 c1 a2 c2 a3 c3 a4 c4]]) h.length 0 2 1=some [.sl 9 a3 w.net.length c3]:=by rw[B7 hb rfl];rfl
 have l3:ld (h ++ [Blk.rows 4 60 false [w.cs a1 c1 a2 c2 a3 c3 a4 c4]]) h.length 0 3 1=some [.sl 5 a4 w.hist.length c4]:=by rw[B7 hb rfl];rfl
 have e4:=Y1 (lo:=lo) r4 n4;simp only[World.cs] at hb r1 r2 r3 r4 l0 l1 l2 l3 e4 ⊢;generalize (h ++ [Blk.rows 4 60 false [[V.sl 6 a1 w.places.length c1,.sl 5 a2 w.sess.length c2,.sl 9 a3 w.net.length c3,.sl 5 a4 w.hist.length c4]]])=hh at hb r1 r2 r3 r4 l0 l1 l2 l3 e4 ⊢;generalize h.length=b at hb l0 l1 l2 l3 ⊢;have hwo:Df w=(decide (w.places.length=3)&&(decide (w.sess.length<=4)&&(decide (w.net.length<=12)&&((decide (w.hist.length<=80)&&w.hist.all FR)&&(FB w.places&&(I7 w.places&&(w.sess.all Fa&&w.net.all (E5 w.places)))))))):=by unfold Df;cases decide (w.places.length=3)<;>cases decide (w.sess.length<=4)<;>cases decide (w.net.length<=12)<;>cases decide (w.hist.length<=80)<;>cases FB w.places<;>cases I7 w.places<;>cases w.sess.all Fa<;>cases w.net.all (E5 w.places)<;>cases w.hist.all FR<;>rfl
 rw[hwo,l0,Ae,Ab,Ag,Ah];by_cases h3:w.places.length=3
 ·rw[show (((w.places.length:Nat):Int)==3)=true by rw[beq_iff_eq];omega,Aq,decide_eq_true h3,zfQ,l1,Ae,Ab,Ag,Ah];by_cases hs4:w.sess.length<=4
  ·rw[Ai (by omega),decide_eq_true hs4,zfQ,l2,Ae,Ab,Ag,Ah];by_cases hn12:w.net.length<=12
   ·rw[Ai (by omega),decide_eq_true hn12,zfQ,l3,Ae,Ab,Ag,Ah,e4,Ad,Ar];cases (decide (w.hist.length<=80)&&w.hist.all FR) with
    | false=>rw[Ay];rfl
    | true =>
     rw[Aq,zfQ,l0,Ae,Ab,Ag,Ah];have e0:=BB (p:=λx:Place×Nat=>x.1.me==(x.2:Int)&&AM x.1) (l:=w.places.zipIdx) (λi=>DB lo b 0 0 false a1 w.places.length c1 (w.places.length:Nat) (i:Nat) hh) (some (.bool false,hh)) (BL lo b 0 0 false a1 w.places.length c1 (w.places.length:Nat) 0 hh) (λi hi=>by
       rw[zgM] at hi;simp only[zg6,zfY];obtain ⟨o,s1,s2,s3,b1,d1,b2,d2,b3,d3,G1,G2,G3,ha,ho,ho0,_,_,_,e1,e2,e3,g1,g2,g3,_⟩:=r1.get hi;have e:=Xc (lo:=lo) g1 g2 g3 (n1.2 _ (zfD hi));simp only[Place.cs] at e;rw[DB.e,Ak (by omega),Ac hi,ha,Ae,AW,ho,Ae,Ab,Aa,Ab,Aa,Ab,e1,Ab,e2,Ab,e3,Ab,AB,Ag,e,Ad,Ar,Am (by omega)];cases AM w.places[i]<;>cases (w.places[i].me==((i:Nat):Int))<;>rfl) (by rw[zgM,DB.e,Ai (by omega),l0,Ae,Ab,Ag,Ah])
     refine e0.trans ?_;show (if FB w.places=true then _ else _)=_;cases hok:FB w.places with
     | false=>rfl
     | true =>
     rw[if_pos rfl,zfQ];have e5:=BB (p:=Jy w.places) (l:=w.places) (λi=>BL lo b 0 0 false a1 w.places.length c1 (w.places.length:Nat) (i:Nat) hh) (some (.bool false,hh)) (BL lo b 0 0 false a1 w.places.length c1 (w.places.length:Nat) (w.places.length:Nat) hh) (λi hi=>by
       have hpo:=(Fd hok i hi).2;have hgl:w.places[i].got.length=3:=(A3 hpo).2.2.1;obtain ⟨o,s1,s2,s3,b1,d1,b2,d2,b3,d3,G1,G2,G3,ha,ho,_,_,_,_,e1,e2,e3,g1,g2,g3,_⟩:=r1.get hi;rw[BL.e,Ak (by omega),Ac hi,ha,Ae,AW,ho,Ae,Ab,Aa,Ab,Aa,Ab,e1,Ab,e2,Ab,e3,Ab,AB,Ag];unfold Jy;refine (BB (p:=λx:List Ver×Nat=>J8 (FC w.places x.2) x.1) (l:=w.places[i].got.zipIdx) (λk=>DA lo b 0 0 false (some o) w.places.length c1 (w.places.length:Nat) (i:Nat) b3 w.places[i].got.length d3 (w.places[i].got.length:Nat) (k:Nat) hh) (some (.bool false,hh)) (BL lo b 0 0 false (some o) w.places.length c1 (w.places.length:Nat) ((i+1:Nat):Int) hh) (λk hk=>?_) ?_)
       ·rw[zgM] at hk;simp only[zg6,zfY];have hk3:k<w.places.length:=by omega
        obtain ⟨o',s1',s2',s3',b1',d1',b2',d2',b3',d3',G1',G2',G3',ha',_,_,_,ho3',_,_,e2',_,_,g2',_,_⟩:=r1.get hk3;obtain ⟨og,sg,bg,dg,Gg,hag,hog,eg,gg,_⟩:=g3.get hk;have hoo:o=o':=by rw[ha] at ha';injection ha'
        subst hoo;have e6:=Rt (lo:=lo) g2' gg (n1.2 _ (zfD hk3)).2.1;rw[HJ hk3,DA.e,Ak (by omega),Ac hk,hag,Ae,AW,hog,Ae,Ab,Ag,eg,zgl,l0,Ae,Ab,Ag,ha,Ah,Ac hk3,Ae,ho3',Ae,Ab,Ag,e2',e6,Ad,Ar,Am (by omega)];cases J8 w.places[k].log w.places[i].got[k]<;>rfl
       ·rw[zgM,DA.e,Ai (by omega),Am (by omega)]) rfl
     refine e5.trans ?_;unfold I7;cases w.places.all (Jy w.places) with
     | false=>rfl
     | true =>
     rw[if_pos rfl,zfQ,BL.e,Ai (by omega),zfY,l1,Ae,Ab,Ag,Ah,PG r2 n2.1 (p:=λs => !Fa s) (λlo x b1 d1 G hx hp=>QB (h':=hh) (by
      rw[Y2 hp (n2.2 x hx),Ad,Ar];cases Fa x<;>rfl)),Ad,Ar,zg5]
     simp only[Bool.not_not];cases w.sess.all Fa with
     | false=>rfl
     | true =>
     rw[zgo,Ay,zfY,l2,Ae,Ab,Ag,Ah,Oq r3 n3.1 (p:=λf => !E5 w.places f) (λlo x b1 d1 G hx hp=>QA (h':=hh) (by
      rw[W5 (w:=w) hb r1 h3 hok hp,Ad,Ar];cases E5 w.places x<;>rfl)),Ad,Ar,zg5]
     simp only[Bool.not_not];cases w.net.all (E5 w.places)<;>rfl
   ·rw[Ak (by omega),decide_eq_false hn12];rfl
  ·rw[Ak (by omega),decide_eq_false hs4];rfl
 ·rw[show (((w.places.length:Nat):Int)==3)=false by rw[beq_eq_false_iff_ne];omega,Ay,decide_eq_false h3];rfl
end

section
variable {lo:Nat}{h:Heap}{F:List Nat}
theorem W7 {w:World}{cs:List V} (hs:BK false h cs w F) (hl:lo<=h.length) (hn:EP w):∃ h',Af lo 82 [.agg cs] h=some (.bool (Df w),h')/\Mv h [] h' []:=W0 hs hl hn
end


theorem Uo {w:World} (h:Df w=true):w.places.length=3/\w.sess.length<=4/\w.net.length<=12/\w.hist.length<=80/\FB w.places=true/\w.sess.all Fa=true/\w.net.all (E5 w.places)=true/\w.hist.all FR=true/\I7 w.places=true:=by unfold Df at h;simp only[E1,decide_eq_true_eq] at h;obtain ⟨⟨⟨⟨⟨⟨⟨⟨h1,h2⟩,h3⟩,h4⟩,h5⟩,h6⟩,h7⟩,h8⟩,h9⟩:=h;exact ⟨h1,h2,h3,h4,h5,h6,h7,h8,h9⟩
section
variable {lo:Nat}{ro ro':Bool}{h:Heap}{F F' F1:List Nat}{a a' a1 a2 a3 a4:Pq}{c c' c1 c2 c3 c4:Nq}
end


variable {w:World}
def LE (k:Int) (_:Done):Done:=⟨k,k+1,k+1+1,⟨k+1+1+1,k+1+1+1+1⟩⟩
def Ge (_:Done):Nat:=5
def NX (k:Int) (s:Sess):Sess:=⟨k,B6 OJ Dg s.past (k+1),⟨k+1+BD Dg s.past,k+1+BD Dg s.past+1⟩,k+1+BD Dg s.past+1+1⟩
def EH (s:Sess):Nat:=4+BD Dg s.past
noncomputable def Kj (k:Int) (f:Frame):Frame:=⟨k,k+1,k+1+1,Mn (k+3) f.ver⟩
def De (f:Frame):Nat:=3+Nm f.ver
noncomputable def JR (k:Int) (p:Place):Place:=⟨k,k+1,Ki (k+2) p.chain,IJ (k+2+EW p.chain) p.log,Q2 (k+2+EW p.chain+CU p.log) p.got,(k+2+EW p.chain+CU p.log+NK p.got).tmod 3==0⟩
def Bx (p:Place):Nat:=3+PL p
def FM (w:World):Nat:=BD Bx w.places+BD EH w.sess+BD De w.net+BD Ge w.hist
theorem zbn:FM w<=8*Hd w:=by
 have h1:BD Bx w.places<=8*(w.places.length+(w.places.map I0).sum):=IK λp _=>by have:=zbo (p:=p);unfold Bx;omega
 have h2:BD EH w.sess<=8*(w.sess.length+(w.sess.map NL).sum):=IK λs _=>by have:=OK (l:=s.past);unfold EH NL;omega
 have h3:BD De w.net<=8*(w.net.length+(w.net.map Lu).sum):=IK λf _=>by have:=zaJ (v:=f.ver);unfold De Lu;omega
 have h4:BD Ge w.hist<=5*w.hist.length:=Ib λd _=>zfH _;unfold FM Hd KV MQ KW;omega
section
variable {lo:Nat}{h:Heap}{F:List Nat}{a:Pq}{c:Nq}{k:Int}
theorem SX {l:List Done} (hs:RDones false h [.sl 5 a l.length c] l F) (hlo:∀ b∈F,lo<=b) (hnd:F.Nodup) (h0:0<=k) (hB:k+BD Ge l<=Gd) (hn:l.length<=1048576) :
  ∃ h',Af lo 92 [.sl 5 a l.length c,Iv k] h=some (Iv (k+BD Ge l),h')/\RDones false h' [.sl 5 a l.length c] (B6 LE Ge l k) F/\h'.length=h.length/\Mv h F h' F:=by
 obtain ⟨h',e,q,r⟩:=HI (El:=flat Done.cs) EG (f:=LE) (w:=Ge) (B:=Gd) (λk i hh=>CD lo a l.length c k (i:Nat) hh) (λi k hh x b j rs row G ha hbF hbG hGn hGF hb hrow hel hx hi h0 hB=>by
  obtain ⟨rfl,rfl⟩:=hel;subst ha;have hrl:j+i<rs.length:=(Ga hrow).1;have hbl:b<hh.length:=(Ga hb).1;have hlob:=hlo b hbF;have hw:((Ge x:Nat):Int)=5:=rfl;rw[hw] at hB ⊢;refine ⟨hh.set b (.rows 5 (Zg false) false (rs.set (j+i) (LE k x).cs)),(LE k x).cs,?_,by simp[hbl],⟨rfl,rfl⟩,λy hy _=>zfJ (Ne.symm hy),by simp⟩;simp only[Gd] at hB;rw[CD.e,Ak (by omega),Ac hi];simp only[Ae,AW];rw[B4 hb hlob hrow (row' := [Iv k,Iv x.kind,Iv x.key,Iv x.tag.time,Iv x.tag.place]) (by rfl),Ae,Ac hi,wr (n:=k+1) (by omega) (by omega)];rw[Ee hbl hlob hrl (row' := [Iv k,Iv (k+1),Iv x.key,Iv x.tag.time,Iv x.tag.place]) (by rfl),Ae,Ac hi,wr (n:=k+1+1) (by omega) (by omega)];rw[Ee hbl hlob hrl (row' := [Iv k,Iv (k+1),Iv (k+1+1),Iv x.tag.time,Iv x.tag.place]) (by rfl),Ae,Ac hi,wr (n:=k+1+1+1) (by omega) (by omega)];rw[Ee hbl hlob hrl (row' := [Iv k,Iv (k+1),Iv (k+1+1),Iv (k+1+1+1),Iv x.tag.place]) (by rfl),Ae,Ac hi,wr (n:=k+1+1+1+1) (by omega) (by omega)];rw[Ee hbl hlob hrl (row':=(LE k x).cs) (by rfl),Ae,wr (n:=k+1+1+1+1+1) (by omega) (by omega),Am (by omega),show k+1+1+1+1+1=k+5 by omega]) (λk hh=>by
  rw[CD.e,Ai (by omega)]) hs hnd h0 hB
 exact ⟨h',Qs e,q,r⟩
theorem SU {l:List Sess} (hs:RSesss false h [.sl 5 a l.length c] l F) (hlo:∀ b∈F,lo<=b) (hnd:F.Nodup) (h0:0<=k) (hB:k+BD EH l<=Gd) (hn:l.length<=1048576/\∀ s∈l,s.past.length<=1048576) :
  ∃ h',Af lo 90 [.sl 5 a l.length c,Iv k] h=some (Iv (k+BD EH l),h')/\RSesss false h' [.sl 5 a l.length c] (B6 NX EH l k) F/\h'.length=h.length/\Mv h F h' F:=by
 have hn1:=hn.1;obtain ⟨h',e,q,r⟩:=HI (El:=RSess false) Jb (f:=NX) (w:=EH) (B:=Gd) (λk i hh=>CB lo a l.length c k (i:Nat) hh) (λi k hh x b j rs row G ha hbF hbG hGn hGF hb hrow hel hx hi h0 hB=>by
  obtain ⟨s,rfl,hp0⟩:=hel;obtain ⟨a2,c2,es,hp⟩:=hp0.form;subst ha;have hrl:j+i<rs.length:=(Ga hrow).1;have hbl:b<hh.length:=(Ga hb).1;have hlob:=hlo b hbF;have hw:EH x=4+BD Dg x.past:=rfl;rw[hw] at hB;simp only[Gd] at hB;have hb3:(hh.set b (.rows 5 (FY false) false (rs.set (j+i) [Iv k,s,Iv x.wait.time,Iv x.wait.place,Iv x.key])))[b]?=some (.rows 5 (FY false) false (rs.set (j+i) [Iv k,s,Iv x.wait.time,Iv x.wait.place,Iv x.key])):=by simp[hbl]
  have hp3:RTags false (hh.set b (.rows 5 (FY false) false (rs.set (j+i) [Iv k,s,Iv x.wait.time,Iv x.wait.place,Iv x.key]))) [.sl 2 a2 x.past.length c2] x.past G:=rtags_ok.fr _ _ _ _ _ hp (λy hy=>zfJ (by rintro rfl;exact hbG hy));obtain ⟨h4,e4,r4,l4,m4⟩:=KK (lo:=lo) (k:=k+1) hp3 (λy hy=>hlo y (hGF y hy)) hGn (by omega) (by simp only[Gd];omega) (hn.2 x hx);have hb4:h4[b]?=some (.rows 5 (FY false) false (rs.set (j+i) [Iv k,s,Iv x.wait.time,Iv x.wait.place,Iv x.key])):=by rw[m4.fr b (by simpa using hbl) hbG];exact hb3
  have hbl4:b<h4.length:=(Ga hb4).1;have hrow4:(rs.set (j+i) [Iv k,s,Iv x.wait.time,Iv x.wait.place,Iv x.key])[j+i]?=some [Iv k,s,Iv x.wait.time,Iv x.wait.place,Iv x.key]:=by simp[hrl]
  generalize hN:k+1+(BD Dg x.past:Int)=N at e4;refine ⟨h4.set b (.rows 5 (FY false) false (rs.set (j+i) [Iv k,s,Iv N,Iv (N+1),Iv (N+1+1)])),[Iv k,s,Iv N,Iv (N+1),Iv (N+1+1)],?_,by simp[hbl4],?_,λy hy hyG=>?_,by simpa using l4⟩
  ·rw[CB.e,Ak (by omega),Ac hi];simp only[Ae,AW];rw[B4 hb hlob hrow (row' := [Iv k,s,Iv x.wait.time,Iv x.wait.place,Iv x.key]) (by rfl),Ae,Ac hi,wr (n:=k+1) (by omega) (by omega)];have hld:ld (hh.set b (.rows 5 (FY false) false (rs.set (j+i) [Iv k,s,Iv x.wait.time,Iv x.wait.place,Iv x.key]))) b (j+i) 1 1=some [s]:=by simp only[ld,Heap.rows?,hb3,zf1,hrow4];rfl
   rw[hld];simp only[Ae,Ab,Ag,es];rw[e4];simp only[Ad,Aa];rw[Ac hi,B4 hb4 hlob hrow4 (row' := [Iv k,s,Iv N,Iv x.wait.place,Iv x.key]) (by rfl),Ae,zgv,Ac hi,wr (n:=N+1) (by omega) (by omega)];rw[Ee hbl4 hlob hrl (row' := [Iv k,s,Iv N,Iv (N+1),Iv x.key]) (by rfl),Ae,Ac hi,wr (n:=N+1+1) (by omega) (by omega)];rw[Ee hbl4 hlob hrl (row' := [Iv k,s,Iv N,Iv (N+1),Iv (N+1+1)]) (by rfl),Ae,wr (n:=N+1+1+1) (by omega) (by omega),Am (by omega),show N+1+1+1=k+((EH x:Nat):Int) by rw[hw];omega]
  ·refine ⟨s,by simp only[NX,hN],?_⟩;exact Sli.same hp0 es (rtags_ok.fr _ _ _ _ _ r4 (λy hy=>zfJ (by rintro rfl;exact hbG hy)))
  ·rw[zfJ (Ne.symm hy),m4.fr' l4 y hyG,zfJ (Ne.symm hy)]) (λk hh=>by
  rw[CB.e,Ai (by omega)]) hs hnd h0 hB
 exact ⟨h',Qq e,q,r⟩
theorem Ro {l:List Frame} (hs:RFrames false h [.sl 9 a l.length c] l F) (hlo:∀ b∈F,lo<=b) (hnd:F.Nodup) (h0:0<=k) (hB:k+BD De l<=Gd) (hn:l.length<=1048576/\∀ f∈l,f.ver.past.length<=1048576/\f.ver.text.size<=1048576) :
  ∃ h',Af lo 91 [.sl 9 a l.length c,Iv k] h=some (Iv (k+BD De l),h')/\RFrames false h' [.sl 9 a l.length c] (B6 Kj De l k) F/\h'.length=h.length/\Mv h F h' F:=by
 have hn1:=hn.1;obtain ⟨h',e,q,r⟩:=HI (El:=LY false) rframe_ok (f:=Kj) (w:=De) (B:=Gd) (λk i hh=>BT lo a l.length c k (i:Nat) hh) (λi k hh x b j rs row G ha hbF hbG hGn hGF hb hrow hel hx hi h0 hB=>by
  obtain ⟨vs,rfl,s,rfl,hp0⟩:=hel;obtain ⟨a2,c2,es,hp⟩:=hp0.form;subst ha;have hrl:j+i<rs.length:=(Ga hrow).1;have hbl:b<hh.length:=(Ga hb).1;have hlob:=hlo b hbF;have hw:De x=3+(5+BD Dg x.ver.past):=rfl;rw[hw] at hB;simp only[Gd] at hB;generalize hrow3 : [Iv k,Iv (k+1),Iv (k+1+1),Iv (k+1+1+1),Iv (k+1+1+1+1),Iv (k+1+1+1+1+1),s,.str x.ver.text,.bool x.ver.gone]=row3;have hb3:(hh.set b (.rows 9 (KP false) false (rs.set (j+i) row3)))[b]?=some (.rows 9 (KP false) false (rs.set (j+i) row3)):=by simp[hbl]
  have hp3:RTags false (hh.set b (.rows 9 (KP false) false (rs.set (j+i) row3))) [.sl 2 a2 x.ver.past.length c2] x.ver.past G:=rtags_ok.fr _ _ _ _ _ hp (λy hy=>zfJ (by rintro rfl;exact hbG hy));obtain ⟨h4,e4,r4,l4,m4⟩:=KK (lo:=lo) (k:=k+6) hp3 (λy hy=>hlo y (hGF y hy)) hGn (by omega) (by simp only[Gd];omega) (hn.2 x hx).1;have hb4:h4[b]?=some (.rows 9 (KP false) false (rs.set (j+i) row3)):=by rw[m4.fr b (by simpa using hbl) hbG];exact hb3
  have hbl4:b<h4.length:=(Ga hb4).1;have hrow4:(rs.set (j+i) row3)[j+i]?=some row3:=by simp[hrl]
  generalize hN:k+6+(BD Dg x.ver.past:Int)=N at e4;refine ⟨h4.set b (.rows 9 (KP false) false (rs.set (j+i) [Iv k,Iv (k+1),Iv (k+1+1),Iv (k+1+1+1),Iv (k+1+1+1+1),Iv (k+1+1+1+1+1),s,.str (JQ N),.bool ((N+1).tmod 3==0)])),
   [Iv k,Iv (k+1),Iv (k+1+1),Iv (k+1+1+1),Iv (k+1+1+1+1),Iv (k+1+1+1+1+1),s,.str (JQ N),.bool ((N+1).tmod 3==0)],?_,by simp[hbl4],?_,λy hy hyG=>?_,by simpa using l4⟩
  ·rw[BT.e,Ak (by omega),Ac hi];simp only[Ae,AW];rw[B4 hb hlob hrow (row' := [Iv k,Iv x.to,Iv x.at',Iv x.ver.key,Iv x.ver.tag.time,Iv x.ver.tag.place,s,.str x.ver.text,.bool x.ver.gone]) (by rfl),Ae,Ac hi,wr (n:=k+1) (by omega) (by omega)];rw[Ee hbl hlob hrl (row' := [Iv k,Iv (k+1),Iv x.at',Iv x.ver.key,Iv x.ver.tag.time,Iv x.ver.tag.place,s,.str x.ver.text,.bool x.ver.gone]) (by rfl),Ae,Ac hi,wr (n:=k+1+1) (by omega) (by omega)];rw[Ee hbl hlob hrl (row' := [Iv k,Iv (k+1),Iv (k+1+1),Iv x.ver.key,Iv x.ver.tag.time,Iv x.ver.tag.place,s,.str x.ver.text,.bool x.ver.gone]) (by rfl),Ae,Ac hi,wr (n:=k+1+1+1) (by omega) (by omega)];rw[Ee hbl hlob hrl (row' := [Iv k,Iv (k+1),Iv (k+1+1),Iv (k+1+1+1),Iv x.ver.tag.time,Iv x.ver.tag.place,s,.str x.ver.text,.bool x.ver.gone]) (by rfl),Ae,Ac hi,wr (n:=k+1+1+1+1) (by omega) (by omega)];rw[Ee hbl hlob hrl (row' := [Iv k,Iv (k+1),Iv (k+1+1),Iv (k+1+1+1),Iv (k+1+1+1+1),Iv x.ver.tag.place,s,.str x.ver.text,.bool x.ver.gone]) (by rfl),Ae,Ac hi,wr (n:=k+1+1+1+1+1) (by omega) (by omega)];rw[Ee hbl hlob hrl (row':=row3) (by rw[<- hrow3];rfl),Ae,Ac hi];have hld:ld (hh.set b (.rows 9 (KP false) false (rs.set (j+i) row3))) b (j+i) 6 1=some [s]:=by simp only[ld,Heap.rows?,hb3,zf1,hrow4];rw[<- hrow3];rfl
   rw[hld,wr (n:=k+1+1+1+1+1+1) (by omega) (by omega),show k+1+1+1+1+1+1=k+6 by omega];simp only[Ae,Ab,Ag,es];rw[e4];simp only[Ad,Aa];rw[I4 (by omega) (by simp only[Gd];omega)];simp only[Ad,A4];rw[Ac hi,B4 hb4 hlob hrow4 (row' := [Iv k,Iv (k+1),Iv (k+1+1),Iv (k+1+1+1),Iv (k+1+1+1+1),Iv (k+1+1+1+1+1),s,.str (JQ N),.bool x.ver.gone]) (by rw[<- hrow3];rfl),Ae,zgv];rw[wr (n:=N+1) (by omega) (by omega),wr (n:=N+1+1) (by omega) (by omega),Am (by omega),Ac hi];rw[show k+((De x:Nat):Int)=N+1+1 by rw[hw];omega];cases hg:((N+1).tmod 3==0)
   ·rw[Ay,Ac hi,Ee hbl4 hlob hrl (row' := [Iv k,Iv (k+1),Iv (k+1+1),Iv (k+1+1+1),Iv (k+1+1+1+1),Iv (k+1+1+1+1+1),s,.str (JQ N),.bool false]) (by rfl),Ae]
   ·rw[Aq,Ee hbl4 hlob hrl (row' := [Iv k,Iv (k+1),Iv (k+1+1),Iv (k+1+1+1),Iv (k+1+1+1+1),Iv (k+1+1+1+1+1),s,.str (JQ N),.bool true]) (by rfl),Ae]
  ·have e6:k+3+3=k+6:=by omega
   refine ⟨[Iv (k+1+1+1),Iv (k+1+1+1+1),Iv (k+1+1+1+1+1),s,.str (JQ N),.bool ((N+1).tmod 3==0)],rfl,s,?_,?_⟩
   ·simp only[Kj,Mn,e6,hN];rw[show k+1+1+1=k+3 by omega,show k+3+1+1=k+3+2 by omega]
   ·simp only[Kj,Mn,e6];exact Sli.same hp0 es (rtags_ok.fr _ _ _ _ _ r4 (λy hy=>zfJ (by rintro rfl;exact hbG hy)))
  ·rw[zfJ (Ne.symm hy),m4.fr' l4 y hyG,zfJ (Ne.symm hy)]) (λk hh=>by
  rw[BT.e,Ai (by omega)]) hs hnd h0 hB
 exact ⟨h',Pk e,q,r⟩
theorem Rn {l:List Place} (hs:RPlaces false h [.sl 6 a l.length c] l F) (hlo:∀ b∈F,lo<=b) (hnd:F.Nodup) (h0:0<=k) (hB:k+BD Bx l<=Gd) (hn:l.length<=1048576/\∀ p∈l,Ef p) :
  ∃ h',Af lo 89 [.sl 6 a l.length c,Iv k] h=some (Iv (k+BD Bx l),h')/\RPlaces false h' [.sl 6 a l.length c] (B6 JR Bx l k) F/\h'.length=h.length/\Mv h F h' F:=by
 have hn1:=hn.1;obtain ⟨h',e,q,r⟩:=HI (El:=RPlace false) rplace_ok (f:=JR) (w:=Bx) (B:=Gd) (λk i hh=>BS lo a l.length c k (i:Nat) hh) (λi k hh x b j rs row G ha hbF hbG hGn hGF hb hrow hel hx hi h0 hB=>by
  obtain ⟨s1,s2,s3,F1,F2,F3,rfl,rfl,p1,p2,p3⟩:=hel;obtain ⟨a1,c1,e1,q1⟩:=p1.form;obtain ⟨a2,c2,e2,q2⟩:=p2.form;obtain ⟨a3,c3,e3,q3⟩:=p3.form;subst ha;have hsm:=hn.2 x hx;have hrl:j+i<rs.length:=(Ga hrow).1;have hbl:b<hh.length:=(Ga hb).1;have hlob:=hlo b hbF;have hw:Bx x=3+(EW x.chain+CU x.log+NK x.got):=rfl;rw[hw] at hB;simp only[Gd] at hB;simp only[zfF,not_or] at hbG;rw[zfG,zfG] at hGn;obtain ⟨n1,⟨n2,n3,d23⟩,d1⟩:=hGn;have d12:∀ y∈F2,y∉F1:=λy h2 h1=>d1 y h1 y (zgN _ h2) rfl;have d13:∀ y∈F3,y∉F1:=λy h2 h1=>d1 y h1 y (zgP _ h2) rfl;have d32:∀ y∈F3,y∉F2:=λy h3 h2=>d23 y h2 y h3 rfl;have row3:(rs.set (j+i) [Iv k,Iv (k+1),s1,s2,s3,.bool x.fell])[j+i]?=some [Iv k,Iv (k+1),s1,s2,s3,.bool x.fell]:=by simp[hrl]
  have hb3:(hh.set b (.rows 6 (Hr false) false (rs.set (j+i) [Iv k,Iv (k+1),s1,s2,s3,.bool x.fell])))[b]?=some (.rows 6 (Hr false) false (rs.set (j+i) [Iv k,Iv (k+1),s1,s2,s3,.bool x.fell])):=by simp[hbl]
  have fr3:∀ y,y≠b->(hh.set b (.rows 6 (Hr false) false (rs.set (j+i) [Iv k,Iv (k+1),s1,s2,s3,.bool x.fell])))[y]?=hh[y]?:=λy hy=>zfJ (Ne.symm hy);have l3:(hh.set b (.rows 6 (Hr false) false (rs.set (j+i) [Iv k,Iv (k+1),s1,s2,s3,.bool x.fell]))).length=hh.length:=by simp
  have st1:=B4 (j:=0) (cs := [Iv k]) hb hlob hrow (row' := [Iv k,Iv x.clock,s1,s2,s3,.bool x.fell]) (by rfl);have st2:=Ee (e:=Hr false) (R:=6) (rs:=rs) (j:=1) (cs := [Iv (k+1)]) hbl hlob hrl (row := [Iv k,Iv x.clock,s1,s2,s3,.bool x.fell]) (row' := [Iv k,Iv (k+1),s1,s2,s3,.bool x.fell]) (by rfl);generalize hh.set b (.rows 6 (Hr false) false (rs.set (j+i) [Iv k,Iv (k+1),s1,s2,s3,.bool x.fell]))=h3 at hb3 fr3 l3 st2;have q1:=rnodes_ok.fr _ _ _ _ _ q1 (λy hy=>fr3 y (by rintro rfl;exact hbG.1 hy));have q2:=rvers_ok.fr _ _ _ _ _ q2 (λy hy=>fr3 y (by rintro rfl;exact hbG.2.1 hy));have q3:=rvss_ok.fr _ _ _ _ _ q3 (λy hy=>fr3 y (by rintro rfl;exact hbG.2.2 hy));obtain ⟨h4,e4,r4,l4,m4⟩:=SW (lo:=lo) (k:=k+2) q1 (λy hy=>hlo y (hGF y (by simp[hy]))) n1 (by omega) (by simp only[Gd];omega) hsm.1;obtain ⟨h5,e5,r5,l5,m5⟩:=I3 (lo:=lo) (k:=k+2+EW x.chain) (m4.keep rvers_ok q2 d12) (λy hy=>hlo y (hGF y (by simp[hy]))) n2 (by omega) (by simp only[Gd];omega) hsm.2.1;obtain ⟨h6,e6,r6,l6,m6⟩:=ST (lo:=lo) (k:=k+2+EW x.chain+CU x.log) (m5.keep rvss_ok (m4.keep rvss_ok q3 d13) d32) (λy hy=>hlo y (hGF y (by simp[hy]))) n3 (by omega) (by simp only[Gd];omega) hsm.2.2;have hb4:h4[b]?=some (.rows 6 (Hr false) false (rs.set (j+i) [Iv k,Iv (k+1),s1,s2,s3,.bool x.fell])):=by rw[m4.fr' l4 b hbG.1];exact hb3
  have hb5:h5[b]?=some (.rows 6 (Hr false) false (rs.set (j+i) [Iv k,Iv (k+1),s1,s2,s3,.bool x.fell])):=by rw[m5.fr' l5 b hbG.2.1];exact hb4
  have hb6:h6[b]?=some (.rows 6 (Hr false) false (rs.set (j+i) [Iv k,Iv (k+1),s1,s2,s3,.bool x.fell])):=by rw[m6.fr' l6 b hbG.2.2];exact hb5
  have hbl6:b<h6.length:=(Ga hb6).1;have ld3:ld h3 b (j+i) 2 1=some [s1]:=by rw[B7 hb3 row3];rfl
  have ld4:ld h4 b (j+i) 3 1=some [s2]:=by rw[B7 hb4 row3];rfl
  have ld5:ld h5 b (j+i) 4 1=some [s3]:=by rw[B7 hb5 row3];rfl
  have r4':=m6.keep rnodes_ok (m5.keep rnodes_ok r4 λy h1 h2=>d12 y h2 h1) λy h1 h2=>d13 y h2 h1;have r5':=m6.keep rvers_ok r5 λy h1 h2=>d32 y h2 h1;rw[<- Mo (k:=k+2)] at r4';rw[<- CW (k:=k+2+EW x.chain)] at r5';rw[<- PV (k:=k+2+EW x.chain+CU x.log)] at r6;generalize hN:k+2+(EW x.chain:Int)+(CU x.log:Int)+(NK x.got:Int)=N at e6;have fr6:∀ y,y≠b->(h6.set b (.rows 6 (Hr false) false (rs.set (j+i) [Iv k,Iv (k+1),s1,s2,s3,.bool (N.tmod 3==0)])))[y]?=h6[y]?:=λy hy=>zfJ (Ne.symm hy);refine ⟨h6.set b (.rows 6 (Hr false) false (rs.set (j+i) [Iv k,Iv (k+1),s1,s2,s3,.bool (N.tmod 3==0)])),[Iv k,Iv (k+1),s1,s2,s3,.bool (N.tmod 3==0)],?_,by simp[hbl6],
   ⟨s1,s2,s3,F1,F2,F3,by simp only[JR,hN],rfl,Sli.same p1 (by rw[Mo];exact e1) (rnodes_ok.fr _ _ _ _ _ r4' λy hy=>fr6 y (by rintro rfl;exact hbG.1 hy)),Sli.same p2 (by rw[CW];exact e2) (rvers_ok.fr _ _ _ _ _ r5' λy hy=>fr6 y (by rintro rfl;exact hbG.2.1 hy)),Sli.same p3 (by rw[PV];exact e3) (rvss_ok.fr _ _ _ _ _ r6 λy hy=>fr6 y (by rintro rfl;exact hbG.2.2 hy))⟩,λy hy hyG=>?_,by rw[zf6];omega⟩
  ·rw[BS.e,Ak (by omega),Ac hi];simp only[Ae,AW];rw[st1,Ae,Ac hi,wr (n:=k+1) (by omega) (by omega),st2,Ae,Ac hi,ld3,wr (n:=k+1+1) (by omega) (by omega),show k+1+1=k+2 by omega];simp only[Ae,Ab,Ag,e1];rw[e4];simp only[Ad,Aa];rw[Ac hi,ld4];simp only[Ae,Ab,Ag,e2];rw[e5];simp only[Ad,Aa];rw[Ac hi,ld5];simp only[Ae,Ab,Ag,e3];rw[e6];simp only[Ad,Aa];rw[wr (n:=N+1) (by omega) (by omega),Am (by omega),Ac hi];rw[show k+((Bx x:Nat):Int)=N+1 by rw[hw];omega];cases hg:(N.tmod 3==0)
   ·rw[Ay,Ac hi,B4 hb6 hlob row3 (row' := [Iv k,Iv (k+1),s1,s2,s3,.bool false]) (by rfl),Ae,zgv]
   ·rw[Aq,B4 hb6 hlob row3 (row' := [Iv k,Iv (k+1),s1,s2,s3,.bool true]) (by rfl),Ae,zgv]
  ·simp only[zfF,not_or] at hyG;rw[fr6 y hy,m6.fr' l6 y hyG.2.2,m5.fr' l5 y hyG.2.1,m4.fr' l4 y hyG.1,fr3 y hy]) (λk hh=>by
  rw[BS.e,Ai (by omega)]) hs hnd h0 hB
 exact ⟨h',Pj e,q,r⟩
noncomputable def I2 (w:World):World:=⟨B6 JR Bx w.places 1,B6 NX EH w.sess (1+BD Bx w.places),B6 Kj De w.net (1+BD Bx w.places+BD EH w.sess),B6 LE Ge w.hist (1+BD Bx w.places+BD EH w.sess+BD De w.net)⟩
theorem Q3 {cs:List V} (hs:BK false h cs w F) (hlo:∀ b∈F,lo<=b) (hnd:F.Nodup) (hB:(1:Int)+FM w<=Gd) (hn:EP w) :
  ∃ h',Af lo 34 [.agg cs,Iv 1] h=some (Iv (1+FM w),h')/\BK false h' cs (I2 w) F/\Mv h F h' F:=by
 obtain ⟨a1,c1,a2,c2,a3,c3,a4,c4,F1,F2,F3,F4,rfl,rfl,r1,r2,r3,r4⟩:=hs;obtain ⟨b1,b2,b3,b4⟩:=hn;have hnd':=hnd;rw[zfG,zfG,zfG] at hnd;obtain ⟨n1,⟨n2,⟨n3,n4,d34⟩,d2⟩,d1⟩:=hnd;have hw:FM w=BD Bx w.places+BD EH w.sess+BD De w.net+BD Ge w.hist:=rfl;rw[hw] at hB ⊢;obtain ⟨h1,e1,q1,l1,m1⟩:=Rn (lo:=lo) (k:=1) r1 (λy hy=>hlo y (by simp[hy])) n1 (by omega) (by omega) b1;have r2:=m1.keep rsesss_ok r2 λy hy hm=>d1 y hm y (by simp[hy]) rfl;have r3:=m1.keep rframes_ok r3 λy hy hm=>d1 y hm y (by simp[hy]) rfl;have r4:=m1.keep rdones_ok r4 λy hy hm=>d1 y hm y (by simp[hy]) rfl;obtain ⟨h2,e2,q2,l2,m2⟩:=SU (lo:=lo) (k:=1+BD Bx w.places) r2 (λy hy=>hlo y (by simp[hy])) n2 (by omega) (by omega) b2;have r3:=m2.keep rframes_ok r3 λy hy hm=>d2 y hm y (by simp[hy]) rfl;have r4:=m2.keep rdones_ok r4 λy hy hm=>d2 y hm y (by simp[hy]) rfl;have q1:=m2.keep rplaces_ok q1 λy hy hm=>d1 y hy y (by simp[hm]) rfl;obtain ⟨h3,e3,q3,l3,m3⟩:=Ro (lo:=lo) (k:=1+BD Bx w.places+BD EH w.sess) r3 (λy hy=>hlo y (by simp[hy])) n3 (by omega) (by omega) b3;have r4:=m3.keep rdones_ok r4 λy hy hm=>d34 y hm y hy rfl;have q1:=m3.keep rplaces_ok q1 λy hy hm=>d1 y hy y (by simp[hm]) rfl;have q2:=m3.keep rsesss_ok q2 λy hy hm=>d2 y hy y (by simp[hm]) rfl;obtain ⟨h4,e4,q4,l4,m4⟩:=SX (lo:=lo) (k:=1+BD Bx w.places+BD EH w.sess+BD De w.net) r4 (λy hy=>hlo y (by simp[hy])) n4 (by omega) (by omega) b4;have q1:=m4.keep rplaces_ok q1 λy hy hm=>d1 y hy y (by simp[hm]) rfl;have q2:=m4.keep rsesss_ok q2 λy hy hm=>d2 y hy y (by simp[hm]) rfl;have q3:=m4.keep rframes_ok q3 λy hy hm=>d34 y hy y hm rfl;refine ⟨h4,Qo ?_,⟨a1,c1,a2,c2,a3,c3,a4,c4,F1,F2,F3,F4,?_,rfl,?_,?_,?_,?_⟩,?_⟩
 ·rw[e1,Ad,Aa,e2,Ad,Aa,e3,Ad,Aa,e4,Ad,Aa,show (1:Int)+(BD Bx w.places:Int)+(BD EH w.sess:Int)+(BD De w.net:Int)+(BD Ge w.hist:Int)=1+((BD Bx w.places+BD EH w.sess+BD De w.net+BD Ge w.hist:Nat):Int) by omega]
 ·simp only[World.cs,I2,Bw]
 ·simpa only [I2,Bw] using q1
 ·simpa only [I2,Bw] using q2
 ·simpa only [I2,Bw] using q3
 ·simpa only [I2,Bw] using q4
 ·refine ⟨by omega,λy _ hy=>?_,hnd',λy hy => .inl hy⟩;simp only[zfF,not_or] at hy;rw[m4.fr' l4 y hy.2.2.2,m3.fr' l3 y hy.2.2.1,m2.fr' l2 y hy.2.1,m1.fr' l1 y hy.1]
theorem Z8 {cs:List V} (hs:BK false h cs w F) (hlo:∀ b∈F,lo<=b) (hnd:F.Nodup) (hB:(1:Int)+FM w<=Gd) (hn:EP w) :
  ∃ h',Af lo 34 [.agg cs,Iv 1] h=some (Iv (1+FM w),h')/\Mv h F h' F:=by
 obtain ⟨h',e,_,m⟩:=Q3 hs hlo hnd hB hn;exact ⟨h',e,m⟩
end


abbrev zfn (n:Int):List V := [Iv n]
abbrev RInts:Rel (List Int):=Sli false 1 3 (flat zfn)
section
variable {lo:Nat}{h:Heap}{F F' F1:List Nat}{a a' a1 a2 a3 a4:Pq}{c c' c1 c2 c3 c4:Nq}{k:Int}
theorem RInts.get {l:List Int}{n i:Nat} (hs:RInts h [.sl 1 a n c] l F) (hi:i<l.length):∃ o,a=some o/\ld h o.1 (o.2+i) 0 1=some [Iv l[i]]:=by obtain ⟨o,row,G,h1,h2,⟨rfl,_⟩,_⟩:=hs.read hi;exact ⟨o,h1,by rw[h2];rfl⟩
end


variable {l:List Node}
def BH (l:List Node) (k:Nat):Nat:=if k=0/\1<l.length then 1 else k
def HE (l:List Node) (k key:Nat):Option Ver:=(HW l (BH l k))[key]?
section
variable {lo:Nat}{ro:Bool}{h:Heap}{F F' F1:List Nat}{a a' a1 a2 a3 a4:Pq}{c c' c1 c2 c3 c4:Nq}
theorem Nz {k key:Nat} (hs:RNodes false h [.sl 2 a l.length c] l F) (hk:k<l.length) (hst:∀ x∈l,A5 x.store=true) (hkey:key<4) (hl:lo<=h.length) (hn1:l.length<=1048576) :
  ∃ v a' c' h' G,Af lo 288 [.agg [.sl 2 a l.length c],Iv (k:Nat),Iv (key:Nat)] h=some (.agg (Ver.cs v a' c'),h')/\HE l k key=some v/\RTags false h' [.sl 2 a' v.past.length c'] v.past G/\Mv h [] h' G:=by
 suffices hq:∃ v a' c' h' G,_=some (V.agg (Ver.cs v a' c'),h')/\HE l k key=some v/\RTags false h' [.sl 2 a' v.past.length c'] v.past G/\Mv h [] h' G from by obtain ⟨v,a',c',h',G,e,hr⟩:=hq;exact ⟨v,a',c',h',G,TG e,hr⟩
 have hql:BH l k<l.length:=by unfold BH;split<;>omega
 obtain ⟨o,s1,s2,b1,d1,b2,d2,H1,H2,ha,_,ho1,_,q1,_,p1,_⟩:=hs.get hql;have hs4:=hst _ (zfD hql);have hkl:key<l[BH l k].store.length:=by rw[A6 hs4];exact hkey
 obtain ⟨o2,t,b3,d3,G,ha2,ho2,es2,pv,_⟩:=p1.get hkl;obtain ⟨a5,c5,h5,F5,e5,r5,m5⟩:=DK (lo:=lo) (v:=l[BH l k].store[key]) pv hl ((Hk hs4).2 _ (zfD hkl)).1;have hsh:HE l k key=some l[BH l k].store[key]:=by unfold HE;rw[EO hql,EM hkl]
 generalize l[BH l k].store[key]=v at ho2 es2 pv e5 r5 hsh;generalize l[BH l k].store.length=n1 at q1 hkl ha2;refine ⟨v,a5,c5,h5,F5,?_,hsh,r5,m5⟩;simp only[Ver.cs] at e5;by_cases hk0:k=0
 ·rw[show (((k:Nat):Int)==0)=true by rw[beq_iff_eq];omega,Aq];by_cases h1:1<l.length
  ·have hsa:BH l k=1:=by unfold BH;rw[if_pos ⟨hk0,h1⟩]
   rw[hsa] at ho1;rw[Ak (by omega),BY ⟨by omega,by omega⟩,ha,Ae,ho1,Ae,Ab,Ag,q1,Ac hkl,ha2,Ae,AW,ho2,Ae,Ab,Aa,Ab,Aa,Ab,Aa,Ab,es2,Ab,A4,Ab,AB,Ag,e5,Ad,AN,Ab,Aa,Ab,Aa,Ab,Aa,Ab,Ah,Ab,A4,Ab,AB,Ag]
  ·have hsa:BH l k=k:=by unfold BH;rw[if_neg (by omega)]
   rw[hsa] at ho1;rw[Ai (by omega),Ac hk,ha,Ae,AW,ho1,Ae,Ab,Ag,q1,Ac hkl,ha2,Ae,AW,ho2,Ae,Ab,Aa,Ab,Aa,Ab,Aa,Ab,es2,Ab,A4,Ab,AB,Ag,e5,Ad,AN,Ab,Aa,Ab,Aa,Ab,Aa,Ab,Ah,Ab,A4,Ab,AB,Ag]
 ·have hsa:BH l k=k:=by unfold BH;rw[if_neg (by omega)]
  rw[hsa] at ho1;rw[show (((k:Nat):Int)==0)=false by rw[beq_eq_false_iff_ne];omega,Ay,Ac hk,ha,Ae,AW,ho1,Ae,Ab,Ag,q1,Ac hkl,ha2,Ae,AW,ho2,Ae,Ab,Aa,Ab,Aa,Ab,Aa,Ab,es2,Ab,A4,Ab,AB,Ag,e5,Ad,AN,Ab,Aa,Ab,Aa,Ab,Aa,Ab,Ah,Ab,A4,Ab,AB,Ag]
theorem zah {k key b i j:Nat}{s0:V} (hld:ld h b i (j+0) 1=some [s0]) (es0:∀ {T:Type} (K:Pq->Nat->Nq->Option T),eS 2 s0 K=K a l.length c) (hs:RNodes false h [.sl 2 a l.length c] l F) (hk:k<l.length) (hst:∀ x∈l,A5 x.store=true) (hkey:key<4) (hl:lo<=h.length) (hn1:l.length<=1048576) :
  ∃ v a' c' h',Af lo 275 [.ptr (some (b,(i,j))),Iv (k:Nat),Iv (key:Nat)] h=some (.tup [.agg (Ver.cs v a' c'),.bool true],h')/\HE l k key=some v/\Mv h [] h' []:=by
 suffices hq:∃ v a' c' h',_=some (V.tup [.agg (Ver.cs v a' c'),.bool true],h')/\HE l k key=some v/\Mv h [] h' [] from by obtain ⟨v,a',c',h',e,hr⟩:=hq;exact ⟨v,a',c',h',HA e,hr⟩
 have hql:BH l k<l.length:=by unfold BH;split<;>omega
 obtain ⟨o,s1,s2,b1,d1,b2,d2,H1,H2,ha,_,ho1,_,q1,_,p1,_⟩:=hs.get hql;have hs4:=hst _ (zfD hql);have hkl:key<l[BH l k].store.length:=by rw[A6 hs4];exact hkey
 obtain ⟨o2,t,b3,d3,G,ha2,ho2,es2,pv,_⟩:=p1.get hkl;obtain ⟨a5,c5,h5,F5,e5,r5,m5⟩:=BJ (lo:=lo) (v:=l[BH l k].store[key]) pv hl ((Hk hs4).2 _ (zfD hkl)).1;have hsh:HE l k key=some l[BH l k].store[key]:=by unfold HE;rw[EO hql,EM hkl]
 generalize l[BH l k].store[key]=v at ho2 es2 pv e5 r5 hsh;generalize l[BH l k].store.length=n1 at q1 hkl ha2;refine ⟨v,a5,c5,h5,?_,hsh,m5.drop⟩;simp only[Ver.cs] at e5;have hw1:Aj ((k:Nat):Int) 0 ((l.length:Int) - 1)=true:=by simp only[Aj,E1,decide_eq_true_eq];omega
 have hw2:Aj ((key:Nat):Int) 0 3=true:=by simp only[Aj,E1,decide_eq_true_eq];omega
 rw[hld,Ae,Ab,Ag,es0,wr (n:=((l.length:Nat):Int) - 1) (by omega) (by omega),Be,Ad,Ar,hw1,Aq,IO,Ad,Ar,hw2,Aq];by_cases hk0:k=0
 ·rw[show (((k:Nat):Int)==0)=true by rw[beq_iff_eq];omega,Aq,hld,Ae,Ab,Ag,es0,Ae,Ab,Ag,es0,wr (n:=((l.length:Nat):Int) - 1) (by omega) (by omega)];have hif:(if ((l.length:Nat):Int) - 1<1 then ((l.length:Nat):Int) - 1 else 1)=((BH l k:Nat):Int):=by
   unfold BH;by_cases h1:1<l.length
   ·rw[if_neg (by omega),if_pos ⟨hk0,h1⟩];rfl
   ·rw[if_pos (by omega),if_neg (by omega)];omega
  rw[hif,Ac hql,ha,Ae,AW,ho1,Ae,Ab,Ag,q1,Ac hkl,ha2,Ae,AW,ho2,Ae,Ab,Aa,Ab,Aa,Ab,Aa,Ab,es2,Ab,A4,Ab,AB,Ag,e5,Ad,AN,Ab,Aa,Ab,Aa,Ab,Aa,Ab,Ah,Ab,A4,Ab,AB,Ag]
 ·have hsa:BH l k=k:=by unfold BH;rw[if_neg (by omega)]
  rw[hsa] at ho1;rw[show (((k:Nat):Int)==0)=false by rw[beq_eq_false_iff_ne];omega,Ay,hld,Ae,Ab,Ag,es0,Ac hk,ha,Ae,AW,ho1,Ae,Ab,Ag,q1,Ac hkl,ha2,Ae,AW,ho2,Ae,Ab,Aa,Ab,Aa,Ab,Aa,Ab,es2,Ab,A4,Ab,AB,Ag,e5,Ad,AN,Ab,Aa,Ab,Aa,Ab,Aa,Ab,Ah,Ab,A4,Ab,AB,Ag]
end


variable {l:List Place}
structure Roomy (p:Place):Prop where
 seen:∃ U:List Tag,U.length<=54/\(∀ v∈p.log,v.tag∈U)/\∀ v,inCh p.chain v->0<v.tag.time->v.tag.place=p.me->v.tag∈U
 zfr:∀ v∈FQ p.chain,0<v.tag.time->v.tag.place=p.me->Dk p.log v.tag=true
theorem VS {α:Type} [DecidableEq α]:∀ {a U:List α},a.Nodup->(∀ x∈a,x∈U)->a.length<=U.length
 | [],U,_,_=>zgr _
 | x :: a,U,hn,hs=>by
  rw[zfN] at hn;have h1:=hs x (by simp);have h2:=VS (a:=a) (U:=U.erase x) hn.2 λy hy=>(List.mem_erase_of_ne (λe=>hn.1 (by rw[<- e];exact hy))).2 (hs y (by simp[hy]))
  rw[List.length_erase_of_mem h1] at h2;have:=List.length_pos_of_mem h1;simp only[zgw];omega
section
variable {p:Place}
theorem zbR {m:Int}{l:List Ver} (h:Iz m l=true):(l.map λv=>v.tag).Nodup:=by
 obtain ⟨_,h2⟩:=EL h;unfold List.Nodup;rw[List.pairwise_map,List.pairwise_iff_getElem];intro i j hi hj hij e;have h3:=(h2 j hj).2.2;have:Dk (l.take j) l[j].tag=true:=hasTag_mem.2 ⟨l[i],by
  rw[zgh];exact ⟨i,by simp;omega,by simp⟩,e⟩
 rw[h3] at this;cases this
theorem Roomy.len (h:Roomy p) (hp:AM p=true):p.log.length<=54:=by
 obtain ⟨U,h1,h2,_⟩:=h.seen;have:=VS (U:=U) (zbR (A3 hp).2.2.2.2.2.1) (λt ht=>by
  obtain ⟨v,hv,rfl⟩:=List.mem_map.1 ht;exact h2 v hv)
 simp only[zhb] at this;omega
end
def LZ (l:List Place) (f:Frame):Prop:=(0<=f.fro/\f.fro<=2)/\(0<=f.to/\f.to<=2)/\f.fro≠f.to/\0<=f.at'/\(FC l f.fro.toNat)[f.at'.toNat]?=some f.ver
theorem frame_iff {f:Frame}:E5 l f=true<->LZ l f:=by
 unfold E5 LZ;simp only[Aj,E1,decide_eq_true_eq,zgG,beq_eq_false_iff_ne];constructor
 ·rintro ⟨⟨⟨⟨h1,h2⟩,h3⟩,h4⟩,h5⟩
  refine ⟨h1,h2,h3,by omega,?_⟩;cases hv:(FC l f.fro.toNat)[f.at'.toNat]? with
  | none=>rw[hv] at h5;cases h5
  | some v=>rw[hv] at h5;rw[same_iff.1 h5]
 ·rintro ⟨h1,h2,h3,h4,h5⟩
  have:=(Ga h5).1;refine ⟨⟨⟨⟨h1,h2⟩,h3⟩,by omega⟩,?_⟩;rw[h5];exact same_iff.2 rfl
theorem begins_iff {L g:List Ver}:J8 L g=true<->∃ r,L=g++r:=by
 unfold J8;rw[E1,decide_eq_true_eq,sameVers_iff];constructor
 ·rintro ⟨h1,h2⟩
  exact ⟨L.drop g.length,by conv=>{ lhs;rw[<- zgi g.length L,h2] }⟩
 ·rintro ⟨r,rfl⟩
  simp
structure Wd (w:World):Prop where
 p3:w.places.length=3
 s4:w.sess.length<=4
 n12:w.net.length<=12
 h80:w.hist.length<=80
 place:∀ (i:Nat) (p:Place),w.places[i]?=some p->p.me=(i:Int)/\AM p=true
 sess:∀ s∈w.sess,Fa s=true
 net:∀ f∈w.net,LZ w.places f
 hist:∀ d∈w.hist,FR d=true
 heard:∀ (i:Nat) (p:Place) (k:Nat) (g:List Ver),w.places[i]?=some p->p.got[k]?=some g->∃ r,FC w.places k=g++r
theorem world_iff {w:World}:Df w=true<->Wd w:=by
 constructor
 ·intro h;obtain ⟨h1,h2,h3,h4,h5,h6,h7,h8,h9⟩:=Uo h;rw[zfW] at h6 h7 h8;unfold I7 at h9;rw[zfW] at h9;refine ⟨h1,h2,h3,h4,λi p hp=>?_,h6,λf hf=>frame_iff.1 (h7 f hf),h8,λi p k g hp hg=>?_⟩
  ·obtain ⟨hi,rfl⟩:=Ga hp;exact Fd h5 i hi
  ·have:=h9 p (zfV hp);unfold Jy at this;have:=(EX (p:=λ(i:Nat) (x:List Ver)=>J8 (FC w.places i) x) (l:=p.got)).1 this;obtain ⟨hk,rfl⟩:=Ga hg;exact begins_iff.1 (this k hk)
 ·rintro ⟨h1,h2,h3,h4,h5,h6,h7,h8,h9⟩
  unfold Df;simp only[E1,decide_eq_true_eq];refine ⟨⟨⟨⟨⟨⟨⟨⟨h1,h2⟩,h3⟩,h4⟩,?_⟩,zfW.2 h6⟩,zfW.2 λf hf=>frame_iff.2 (h7 f hf)⟩,zfW.2 h8⟩,?_⟩
  ·refine (EX (p:=λ(i:Nat) (x:Place)=>x.me==(i:Int)&&AM x) (l:=w.places)).2 λi hi=>?_;obtain ⟨g1,g2⟩:=h5 i _ (EM hi);rw[g2,g1,FS];rfl
  ·unfold I7;rw[zfW];intro p hp;obtain ⟨i,hi⟩:=zgb.1 hp;unfold Jy;exact (EX (p:=λ(i:Nat) (x:List Ver)=>J8 (FC w.places i) x) (l:=p.got)).2 λk hk=>begins_iff.2 (h9 i p k _ hi (EM hk))
theorem zaT {k:Nat}{p q:Place} (hp:l[k]?=some p) (hlog:∃ r,q.log=p.log++r) (j:Nat):∃ r,FC (l.set k q) j=FC l j++r:=by
 unfold FC;by_cases hj:k=j
 ·subst hj;rw[zf3 (Ga hp).1,hp];exact hlog
 ·rw[zfJ hj];exact ⟨[],by simp⟩
section
variable {w:World}
theorem Wd.setP (h:Wd w) {k:Nat}{p q:Place} (hp:w.places[k]?=some p) (hq:AM q=true) (hm:q.me=p.me) (hlog:∃ r,q.log=p.log++r)
  (hgot:∀ (i:Nat) (g:List Ver),q.got[i]?=some g->p.got[i]?=some g\/∃ r,FC w.places i=g++r):Wd ⟨w.places.set k q,w.sess,w.net,w.hist⟩:=by
 have hk:=(Ga hp).1;refine ⟨by simpa using h.p3,h.s4,h.n12,h.h80,λi x hx=>?_,h.sess,λf hf=>?_,h.hist,λi x j g hx hg=>?_⟩
 ·by_cases hi:k=i
  ·subst hi;simp only[zf3 hk,Option.some.injEq] at hx;subst hx;exact ⟨hm.trans (h.place k p hp).1,hq⟩
  ·simp only[zfJ hi] at hx;exact h.place i x hx
 ·obtain ⟨h1,h2,h3,h4,h5⟩:=h.net f hf;obtain ⟨r,hr⟩:=zaT hp hlog f.fro.toNat;refine ⟨h1,h2,h3,h4,?_⟩;show (FC (w.places.set k q) f.fro.toNat)[f.at'.toNat]?=some f.ver;rw[hr,zfK (Ga h5).1];exact h5
 ·obtain ⟨r,hr⟩:=zaT hp hlog j;show ∃ r,FC (w.places.set k q) j=g++r;have old:(∃ r,FC w.places j=g++r)->∃ r,FC (w.places.set k q) j=g++r:=λ⟨r',hr'⟩=>⟨r'++r,by rw[hr,hr',zfS]⟩
  by_cases hi:k=i
  ·subst hi;simp only[zf3 hk,Option.some.injEq] at hx;subst hx;rcases hgot j g hg with g1 | g1
   ·exact old (h.heard k p j g hp g1)
   ·exact old g1
  ·simp only[zfJ hi] at hx;exact old (h.heard i x j g hx hg)
theorem Wd.putS (h:Wd w) {i:Nat}{s:Sess} (hs:Fa s=true):Wd ⟨w.places,w.sess.set i s,w.net,w.hist⟩ :=
 ⟨h.p3,by simpa using h.s4,h.n12,h.h80,h.place,λx hx=>(zgd hx).elim (h.sess x) λe=>e ▸ hs,h.net,h.hist,h.heard⟩
theorem Wd.addH (h:Wd w) {ds:List Done} (hd:∀ d∈ds,FR d=true) (hl:w.hist.length+ds.length<=80):Wd ⟨w.places,w.sess,w.net,w.hist++ds⟩ :=
 ⟨h.p3,h.s4,h.n12,by simpa using hl,h.place,h.sess,h.net,λx hx=>(zfF.1 hx).elim (h.hist x) (hd x),h.heard⟩
theorem Wd.netN (h:Wd w) {l:List Frame} (hl:l.length<=12) (hf:∀ f∈l,LZ w.places f):Wd ⟨w.places,w.sess,l,w.hist⟩ :=
 ⟨h.p3,h.s4,hl,h.h80,h.place,h.sess,hf,h.hist,h.heard⟩
end


variable {p:List Tag}{k:Nat}{l:List Node}{v:Ver}{s:Sess}
structure Event where
 kind:Int
 at':Int
 num:Int
 key:Int
 text:ByteArray
 gone:Bool
abbrev Event.cs (e:Event):List V := [Iv e.kind,Iv e.at',Iv e.num,Iv e.key,.str e.text,.bool e.gone]
def EQ (a b:Tag):Bool:=Ic a.time a.place b.time b.place
def GZ (a b:Tag):Tag:=bif EQ a b then b else a
def FW (p:List Tag) (k:Nat) (t:Tag):List Tag:=match p[k]? with
 | some x=>p.set k (GZ x t)
 | none=>p
def Ew (p q:List Tag):List Tag:=List.zipWith GZ p q
def setS (w:World) (i:Nat) (s:Sess) (ds:List Done):World:=⟨w.places,w.sess.set i s,w.net,w.hist++ds⟩
def setP (w:World) (k:Nat) (p:Place):World:=⟨w.places.set k p,w.sess,w.net,w.hist⟩
def setN (w:World) (l:List Frame):World:=⟨w.places,w.sess,l,w.hist⟩
def E0 (w:World) (n:Int):Bool:=decide ((w.hist.length:Int)+n<=80)
def Fe (w:World) (i:Nat) (s:Sess) (e:Event):Option World:=match w.places[s.place.toNat]? with
 | some p=>bif !decide (s.wait.time>0)&&(BE p e.key e.text e.gone s.past&&E0 w 1) then
   some (setS (setP w s.place.toNat (FV p e.key e.text e.gone s.past).1) i ⟨s.place,s.past,(FV p e.key e.text e.gone s.past).2,e.key⟩ [⟨i,1,e.key,(FV p e.key e.text e.gone s.past).2⟩]) else none
 | none=>none
def KR (w:World) (i:Nat) (s:Sess):Option World:=match w.places[s.place.toNat]? with
 | some p=>match HE p.chain 0 s.key.toNat,(Fp p.chain)[s.key.toNat]? with
  | some v,some u=>bif decide (s.wait.time>0) then
    (bif EQ v.tag s.wait then (bif EQ u.tag s.wait then some (setS w i ⟨s.place,s.past,⟨0,0⟩,0⟩ []) else none)
    else (bif E0 w 1 then some (setS w i ⟨s.place,FW s.past s.key.toNat s.wait,⟨0,0⟩,0⟩ [⟨i,3,s.key,s.wait⟩]) else none)) else none
  | _,_=>none
 | none=>none
def OG (s:Sess) (v:Ver) (k:Nat):List Tag:=bif decide (v.tag.time>0) then FW (Ew s.past v.past) k v.tag else s.past
def HY (w:World) (i:Nat) (s:Sess) (e:Event):Option World:=match w.places[s.place.toNat]? with
 | some p=>bif !decide (s.wait.time>0)&&(Aj e.key 0 3&&(Aj e.num 0 ((p.chain.length:Int) - 1)&&E0 w 1)) then
   (match HE p.chain e.num.toNat e.key.toNat,s.past[e.key.toNat]? with
   | some v,some t=>bif EQ v.tag t then none else some (setS w i ⟨s.place,OG s v e.key.toNat,s.wait,s.key⟩ [⟨i,2,e.key,v.tag⟩])
   | _,_=>none) else none
 | none=>none
def Cl (i:Nat) (l:List Tag):List Done:=l.zipIdx.map λx=>⟨i,2,(x.2:Int),x.1⟩
def Ll (w:World) (i:Nat) (s:Sess):Option World:=match w.places[s.place.toNat]? with
 | some p=>bif !decide (s.wait.time>0)&&(Et s.past (Bl p.chain)&&E0 w 4) then some (setS w i ⟨s.place,Bl p.chain,s.wait,s.key⟩ (Cl i (Bl p.chain))) else none
 | none=>none
def YH (w:World) (i:Nat) (s:Sess) (e:Event):Option World:=bif !decide (s.wait.time>0)&&Aj e.num 0 2 then some (setS w i ⟨e.num,s.past,s.wait,s.key⟩ []) else none
def Fq (w:World) (e:Event):Option World:=bif Aj e.at' 0 ((w.sess.length:Int) - 1) then
 (match w.sess[e.at'.toNat]? with
 | some s=>bif e.kind==1 then Fe w e.at'.toNat s e else bif e.kind==2 then KR w e.at'.toNat s else bif e.kind==3 then HY w e.at'.toNat s e else bif e.kind==4 then Ll w e.at'.toNat s else YH w e.at'.toNat s e
 | none=>none) else none
def EI (p:Place) (e:Event):Option Place:=bif e.kind==6 then (bif DT p.chain e.num then some (HT p e.num) else none) else
 bif e.kind==7 then (bif ES p e.num then some (Fg p e.num) else none) else
 bif e.kind==8 then (bif Hg p.chain then some (NF p) else none) else (bif Ek p e.num then some (Ff p e.num) else none)
def IG (w:World) (e:Event):Option World:=bif Aj e.at' 0 2 then
 (match w.places[e.at'.toNat]? with
 | some p=>(EI p e).map (setP w e.at'.toNat)
 | none=>none) else none
def SB (w:World) (e:Event):Option World:=bif Aj e.at' 0 2&&(Aj e.num 0 2&&(!(e.at'==e.num)&&(decide ((w.net.length:Int)<12)&&Aj e.key 0 (((FC w.places e.at'.toNat).length:Int) - 1)))) then
 (match (FC w.places e.at'.toNat)[e.key.toNat]? with
 | some v=>some (setN w (w.net ++ [⟨e.at',e.num,e.key,v⟩]))
 | none=>none) else none
def NG (w:World) (f:Frame):World:=match w.places[f.to.toNat]? with
 | some p=>setP w f.to.toNat (IZ p f.fro f.at' f.ver)
 | none=>w
def KM (w:World) (e:Event):Option World:=bif Aj e.at' 0 ((w.net.length:Int) - 1) then
 (match w.net[e.at'.toNat]? with
 | some f=>some (bif e.kind==12 then setN w (w.net.eraseIdx e.at'.toNat) else bif e.kind==13 then NG w f else NG (setN w (w.net.eraseIdx e.at'.toNat)) f)
 | none=>none) else none
def E9 (w:World) (e:Event):Option World:=bif Aj e.kind 1 5 then Fq w e else bif Aj e.kind 6 9 then IG w e else bif e.kind==10 then SB w e else bif Aj e.kind 11 13 then KM w e else none
def UG (w:World) (e:Event):World:=(E9 w e).getD w
structure Good (w:World):Prop where
 ok:Wd w
 room:∀ p∈w.places,Roomy p
theorem pastOk_iff:Bt p=true<->p.length=4/\∀ t∈p,Bd t.time t.place=true:=by simp only[Bt,E1,decide_eq_true_eq,zfW]
theorem zaQ {a b:Tag} (ha:Bd a.time a.place=true) (hb:Bd b.time b.place=true):Bd (GZ a b).time (GZ a b).place=true:=by
 unfold GZ;cases EQ a b
 ·exact ha
 ·exact hb
theorem Yc {t:Tag} (hp:Bt p=true) (ht:Bd t.time t.place=true):Bt (FW p k t)=true:=by
 rw[pastOk_iff] at hp;unfold FW;cases hx:p[k]? with
 | none=>exact pastOk_iff.2 hp
 | some x =>
  refine pastOk_iff.2 ⟨by simpa using hp.1,λy hy=>?_⟩;rcases zgd hy with hy | rfl
  ·exact hp.2 y hy
  ·exact zaQ (hp.2 x (zfV hx)) ht
theorem zc3 {q:List Tag} (hp:Bt p=true) (hq:Bt q=true):Bt (Ew p q)=true:=by rw[pastOk_iff] at hp hq;refine pastOk_iff.2 ⟨by unfold Ew;rw[zhp];omega,λy hy=>?_⟩;unfold Ew at hy;obtain ⟨i,hi,rfl⟩:=zgh.1 hy;rw[List.getElem_zipWith];exact zaQ (hp.2 _ (zfD _)) (hq.2 _ (zfD _))
theorem QM (h:Ch l):Bt (Bl l)=true:=by refine pastOk_iff.2 ⟨h.four.1,λt ht=>?_⟩;obtain ⟨z,hz,hi⟩:=h.tail;rw[VB hz hi] at ht;unfold BW at ht;obtain ⟨v,hv,rfl⟩:=List.mem_map.1 ht;obtain ⟨i,hi⟩:=zgb.1 hv;exact XG (Oy (h.store hz).1 hi)
theorem zcL {key:Nat} (h:Ch l) (hv:HE l k key=some v):∃ (i:Nat) (x:Node),l[i]?=some x/\x.store[key]?=some v:=by
 unfold HE HW at hv;cases hx:l[BH l k]? with
 | none=>rw[hx] at hv;simp at hv
 | some x=>rw[hx] at hv;exact ⟨_,x,hx,hv⟩
theorem Ys {key:Nat} (h:Ch l) (hv:HE l k key=some v):I9 key v=true:=by obtain ⟨i,x,hx,hv⟩:=zcL h hv;exact Oy (h.store hx).1 hv
theorem CV (h:Fa s=true):(0<=s.place/\s.place<=2)/\Bt s.past=true/\Bd s.wait.time s.wait.place=true/\(0<=s.key/\s.key<=3)/\(0<s.wait.time\/s.key=0)/\(s.wait.time=0\/s.wait.place=s.place):=by unfold Fa at h;simp only[E1,zgJ,decide_eq_true_eq,beq_iff_eq,Aj] at h;obtain ⟨⟨⟨⟨⟨h1,h2⟩,h3⟩,h4⟩,h5⟩,h6⟩:=h;exact ⟨h1,h2,h3,h4,h5,h6⟩
section
variable {w w':World}
theorem Good.setP (h:Good w) {k:Nat}{p q:Place} (hp:w.places[k]?=some p) (hq:AM q=true) (hr:Roomy q) (hm:q.me=p.me) (hlog:∃ r,q.log=p.log++r)
  (hgot:∀ (i:Nat) (g:List Ver),q.got[i]?=some g->p.got[i]?=some g\/∃ r,FC w.places i=g++r):Good (Go.Proofs.YtmgopagfoemomaaGreat.setP w k q) :=
 ⟨h.ok.setP hp hq hm hlog hgot,λx hx=>(zgd hx).elim (h.room x) λe=>e ▸ hr⟩
theorem Good.setS (h:Good w) {i:Nat}{s:Sess}{ds:List Done} (hs:Fa s=true) (hd:∀ d∈ds,FR d=true) (hl:(w.hist.length:Int)+ds.length<=80):Good (Go.Proofs.YtmgopagfoemomaaGreat.setS w i s ds) :=
 ⟨(h.ok.putS (i:=i) hs).addH hd (by show w.hist.length+ds.length<=80;omega),h.room⟩
theorem Good.setN (h:Good w) {l:List Frame} (hl:l.length<=12) (hf:∀ f∈l,LZ w.places f):Good (Go.Proofs.YtmgopagfoemomaaGreat.setN w l):=⟨h.ok.netN hl hf,h.room⟩
theorem Vv {p:Place}{k:Int}{s:ByteArray}{g:Bool}{l:List Tag} (hp:AM p=true) (hc:BE p k s g l=true):FV p k s g l=(Cg (Hy p 0 (AX p l) (Fh p k s g l)),⟨AX p l,p.me⟩):=by rw[Ya hp,hc,cond_true]
theorem zcP (hs:Bt s.past=true) (hv:I9 k v=true):Bt (OG s v k)=true:=by
 unfold OG;cases ht:decide (v.tag.time>0) with
 | false=>exact hs
 | true =>
  have ht:=of_decide_eq_true ht;rcases Di hv with g | g
  ·have:=(E8 g).1;omega
  ·have hp:=AZ g.1;exact Yc (zc3 hs hp.2.2.2.1) hp.2.2.2.2.1
end


theorem Mv.mid {h h':Heap}{A B A' F F':List Nat} (m:Mv h A h' A') (hp:F.Perm (A++B)) (hn:F.Nodup) (hB:∀ y∈B,y<h.length) (hp':F'.Perm (A'++B)):Mv h F h' F':=by have m1:=m.aside (hp.nodup_iff.1 hn) hB;exact (m1.wide λb hb=>hp.mem_iff.2 hb).lean (hp'.nodup_iff.2 m1.nd) λb hb=>hp'.mem_iff.1 hb
theorem QZ {A B C:List Nat}:(A++(B++C)).Perm (B++(A++C)):=List.perm_append_comm_assoc A B C
theorem VN {A B C D:List Nat}:(A++(B++(C++D))).Perm (C++(A++(B++D))):=(List.Perm.append_left A QZ).trans QZ
theorem zcQ {A B C:List Nat}:(A++(B++C)).Perm (C++(A++B)):=by rw[<- zfS A B C];exact List.perm_append_comm
theorem YD {A B C D:List Nat}:(A++(B++(C++D))).Perm (D++(A++(B++C))):=by rw[<- zfS B C D,<- zfS A (B++C) D];exact List.perm_append_comm
structure WR (lo:Nat) (h:Heap) (w:World) (a1:Pq) (c1:Nq) (a2:Pq) (c2:Nq) (a3:Pq) (c3:Nq) (a4:Pq) (c4:Nq) (F1 F2 F3 F4:List Nat):Prop where
 r1:RPlaces false h [.sl 6 a1 w.places.length c1] w.places F1
 r2:RSesss false h [.sl 5 a2 w.sess.length c2] w.sess F2
 r3:RFrames false h [.sl 9 a3 w.net.length c3] w.net F3
 r4:RDones false h [.sl 5 a4 w.hist.length c4] w.hist F4
 nd:(F1++(F2++(F3++F4))).Nodup
 ge:∀ y∈F1++(F2++(F3++F4)),lo<=y
 hl:lo<=h.length
def Tz (lo:Nat) (h:Heap) (cs:List V) (w:World) (F:List Nat):Prop:=∃ a1 c1 a2 c2 a3 c3 a4 c4 F1 F2 F3 F4,cs=w.cs a1 c1 a2 c2 a3 c3 a4 c4/\F=F1++(F2++(F3++F4))/\WR lo h w a1 c1 a2 c2 a3 c3 a4 c4 F1 F2 F3 F4
section
variable {lo:Nat}{h h':Heap}{w:World}{a1 a2 a3 a4 a:Pq}{c1 c2 c3 c4 c:Nq}{F1 F2 F3 F4:List Nat}
theorem WR.at (H:WR lo h w a1 c1 a2 c2 a3 c3 a4 c4 F1 F2 F3 F4):Tz lo h (w.cs a1 c1 a2 c2 a3 c3 a4 c4) w (F1++(F2++(F3++F4))):=⟨a1,c1,a2,c2,a3,c3,a4,c4,F1,F2,F3,F4,rfl,rfl,H⟩
theorem WR.lt (H:WR lo h w a1 c1 a2 c2 a3 c3 a4 c4 F1 F2 F3 F4):(∀ y∈F1,y<h.length)/\(∀ y∈F2,y<h.length)/\(∀ y∈F3,y<h.length)/\∀ y∈F4,y<h.length :=
 ⟨rplaces_ok.bd _ _ _ _ H.r1,rsesss_ok.bd _ _ _ _ H.r2,rframes_ok.bd _ _ _ _ H.r3,rdones_ok.bd _ _ _ _ H.r4⟩
theorem WR.bd (H:WR lo h w a1 c1 a2 c2 a3 c3 a4 c4 F1 F2 F3 F4):∀ y∈F1++(F2++(F3++F4)),y<h.length:=λy hy=>by
 obtain ⟨g1,g2,g3,g4⟩:=H.lt;simp only[zfF] at hy;rcases hy with hy | hy | hy | hy
 ·exact g1 y hy
 ·exact g2 y hy
 ·exact g3 y hy
 ·exact g4 y hy
theorem Rm (h:(F1++(F2++(F3++F4))).Nodup):(F1.Nodup/\F2.Nodup/\F3.Nodup/\F4.Nodup)/\(∀ y∈F1,y∉F2)/\(∀ y∈F1,y∉F3)/\(∀ y∈F1,y∉F4)/\(∀ y∈F2,y∉F3)/\(∀ y∈F2,y∉F4)/\∀ y∈F3,y∉F4:=by simp only[zfG,zfF] at h;obtain ⟨h1,⟨h2,⟨h3,h4,h5⟩,h6⟩,h7⟩:=h;exact ⟨⟨h1,h2,h3,h4⟩,λy hy hm=>h7 y hy y (.inl hm) rfl,λy hy hm=>h7 y hy y (.inr (.inl hm)) rfl,λy hy hm=>h7 y hy y (.inr (.inr hm)) rfl,λy hy hm=>h6 y hy y (.inl hm) rfl,λy hy hm=>h6 y hy y (.inr hm) rfl,λy hy hm=>h5 y hy y hm rfl⟩
theorem WR.up1 (H:WR lo h w a1 c1 a2 c2 a3 c3 a4 c4 F1 F2 F3 F4) {l:List Place}{G:List Nat} (m:Mv h F1 h' G) (r:RPlaces false h' [.sl 6 a l.length c] l G) :
  WR lo h' ⟨l,w.sess,w.net,w.hist⟩ a c a2 c2 a3 c3 a4 c4 G F2 F3 F4/\Mv h (F1++(F2++(F3++F4))) h' (G++(F2++(F3++F4))):=by
 obtain ⟨_,d12,d13,d14,d23,d24,d34⟩:=Rm H.nd;have m1:Mv h (F1++(F2++(F3++F4))) h' (G++(F2++(F3++F4))):=m.mid (.refl _) H.nd (λy hy=>H.bd y (by simp only[zfF] at hy ⊢;grind)) (.refl _);exact ⟨⟨r,m.keep rsesss_ok H.r2 (λb hb hm=>d12 b hm hb),m.keep rframes_ok H.r3 (λb hb hm=>d13 b hm hb),m.keep rdones_ok H.r4 (λb hb hm=>d14 b hm hb),m1.nd,m1.ge H.hl H.ge,zfE H.hl m.le⟩,m1⟩
theorem WR.up2 (H:WR lo h w a1 c1 a2 c2 a3 c3 a4 c4 F1 F2 F3 F4) {l:List Sess}{G:List Nat} (m:Mv h F2 h' G) (r:RSesss false h' [.sl 5 a l.length c] l G) :
  WR lo h' ⟨w.places,l,w.net,w.hist⟩ a1 c1 a c a3 c3 a4 c4 F1 G F3 F4/\Mv h (F1++(F2++(F3++F4))) h' (F1++(G++(F3++F4))):=by
 obtain ⟨_,d12,d13,d14,d23,d24,d34⟩:=Rm H.nd;have m1:Mv h (F1++(F2++(F3++F4))) h' (F1++(G++(F3++F4))):=m.mid QZ H.nd (λy hy=>H.bd y (by simp only[zfF] at hy ⊢;grind)) QZ;exact ⟨⟨m.keep rplaces_ok H.r1 (λb hb hm=>d12 b hb hm),r,m.keep rframes_ok H.r3 (λb hb hm=>d23 b hm hb),m.keep rdones_ok H.r4 (λb hb hm=>d24 b hm hb),m1.nd,m1.ge H.hl H.ge,zfE H.hl m.le⟩,m1⟩
theorem WR.up3 (H:WR lo h w a1 c1 a2 c2 a3 c3 a4 c4 F1 F2 F3 F4) {l:List Frame}{G:List Nat} (m:Mv h F3 h' G) (r:RFrames false h' [.sl 9 a l.length c] l G) :
  WR lo h' ⟨w.places,w.sess,l,w.hist⟩ a1 c1 a2 c2 a c a4 c4 F1 F2 G F4/\Mv h (F1++(F2++(F3++F4))) h' (F1++(F2++(G++F4))):=by
 obtain ⟨_,d12,d13,d14,d23,d24,d34⟩:=Rm H.nd;have m1:Mv h (F1++(F2++(F3++F4))) h' (F1++(F2++(G++F4))):=m.mid VN H.nd (λy hy=>H.bd y (by simp only[zfF] at hy ⊢;grind)) VN;exact ⟨⟨m.keep rplaces_ok H.r1 (λb hb hm=>d13 b hb hm),m.keep rsesss_ok H.r2 (λb hb hm=>d23 b hb hm),r,m.keep rdones_ok H.r4 (λb hb hm=>d34 b hm hb),m1.nd,m1.ge H.hl H.ge,zfE H.hl m.le⟩,m1⟩
theorem WR.up4 (H:WR lo h w a1 c1 a2 c2 a3 c3 a4 c4 F1 F2 F3 F4) {l:List Done}{G:List Nat} (m:Mv h F4 h' G) (r:RDones false h' [.sl 5 a l.length c] l G) :
  WR lo h' ⟨w.places,w.sess,w.net,l⟩ a1 c1 a2 c2 a3 c3 a c F1 F2 F3 G/\Mv h (F1++(F2++(F3++F4))) h' (F1++(F2++(F3++G))):=by
 obtain ⟨_,d12,d13,d14,d23,d24,d34⟩:=Rm H.nd;have m1:Mv h (F1++(F2++(F3++F4))) h' (F1++(F2++(F3++G))):=m.mid YD H.nd (λy hy=>H.bd y (by simp only[zfF] at hy ⊢;grind)) YD;exact ⟨⟨m.keep rplaces_ok H.r1 (λb hb hm=>d14 b hb hm),m.keep rsesss_ok H.r2 (λb hb hm=>d24 b hb hm),m.keep rframes_ok H.r3 (λb hb hm=>d34 b hb hm),r,m1.nd,m1.ge H.hl H.ge,zfE H.hl m.le⟩,m1⟩
theorem WR.up0 (H:WR lo h w a1 c1 a2 c2 a3 c3 a4 c4 F1 F2 F3 F4) (m:Mv h [] h' []):WR lo h' w a1 c1 a2 c2 a3 c3 a4 c4 F1 F2 F3 F4/\Mv h (F1++(F2++(F3++F4))) h' (F1++(F2++(F3++F4))) :=
 ⟨⟨m.keep0 rplaces_ok H.r1,m.keep0 rsesss_ok H.r2,m.keep0 rframes_ok H.r3,m.keep0 rdones_ok H.r4,H.nd,H.ge,zfE H.hl m.le⟩,m.aside (by simpa using H.nd) H.bd⟩
theorem WR.place (H:WR lo h w a1 c1 a2 c2 a3 c3 a4 c4 F1 F2 F3 F4) {k:Nat} (hk:k<w.places.length):∃ b i s1 s2 s3 b1 d1 b2 d2 b3 d3 G1 G2 G3,a1=some (b,i) /\
  ld h b (i+k) 0 6=some [Iv w.places[k].me,Iv w.places[k].clock,s1,s2,s3,.bool w.places[k].fell]/\ld h b (i+k) 2 1=some [s1]/\ld h b (i+k) 3 1=some [s2] /\
  (∀ {R':Type} (K:Pq->Nat->Nq->Option R'),eS 2 s1 K=K b1 w.places[k].chain.length d1)/\(∀ {R':Type} (K:Pq->Nat->Nq->Option R'),eS 6 s2 K=K b2 w.places[k].log.length d2) /\
  (∀ {R':Type} (K:Pq->Nat->Nq->Option R'),eS 1 s3 K=K b3 w.places[k].got.length d3) /\
  RNodes false h [.sl 2 b1 w.places[k].chain.length d1] w.places[k].chain G1/\RVers false h [.sl 6 b2 w.places[k].log.length d2] w.places[k].log G2/\RVss false h [.sl 1 b3 w.places[k].got.length d3] w.places[k].got G3 /\
  (G1++(G2++G3)).Nodup/\(∀ y∈G1++(G2++G3),lo<=y/\y<h.length/\y∈F1) /\
  ∀ h1 G p' cs',Mv h (G1++(G2++G3)) h1 G->RPlace false h1 cs' p' G->cs'.length=6 ->
   ∃ h2 F1',st lo h1 b (i+k) 0 cs'=some h2/\WR lo h2 (setP w k p') a1 c1 a2 c2 a3 c3 a4 c4 F1' F2 F3 F4/\Mv h (F1++(F2++(F3++F4))) h2 (F1'++(F2++(F3++F4))):=by
 obtain ⟨⟨n1,_⟩,_⟩:=Rm H.nd;obtain ⟨b,i,rs,row,G,ha,hbF,hbG,hb,hrow,hel,hGF,hGn,_,put⟩:=Sli.at (lo:=lo) rplace_ok H.r1 hk n1 (λy hy=>H.ge y (by simp[hy]));obtain ⟨s1,s2,s3,b1,d1,b2,d2,b3,d3,G1,G2,G3,rfl,rfl,e1,e2,e3,g1,g2,g3⟩:=hel.form;refine ⟨b,i,s1,s2,s3,b1,d1,b2,d2,b3,d3,G1,G2,G3,ha,by rw[B7 hb hrow];exact Pa rfl,by rw[B7 hb hrow];rfl,by rw[B7 hb hrow];rfl,e1,e2,e3,g1,g2,g3,hGn,λy hy=>⟨H.ge y (by simp[hGF y hy]),H.lt.1 y (hGF y hy),hGF y hy⟩,λh1 G p' cs' m hx hc=>?_⟩;obtain ⟨h2,F',e,r,m2,_⟩:=put h1 G 0 cs' cs' p' m (HH (by rw[hc];rfl)) hx;have hlen:(w.places.set k p').length=w.places.length:=by simp
 rw[<- hlen] at r;obtain ⟨q1,q2⟩:=H.up1 m2 r;exact ⟨h2,F',e,q1,q2⟩
end
section
variable {lo:Nat}{h:Heap}{p:Place}{b1 b2 b3:Pq}{d1 d2 d3:Nq}{G1 G2 G3:List Nat}
theorem zcR {f:Nat} (g1:RNodes false h [.sl 2 b1 p.chain.length d1] p.chain G1) (g2:RVers false h [.sl 6 b2 p.log.length d2] p.log G2) (g3:RVss false h [.sl 1 b3 p.got.length d3] p.got G3) (hpo:AM p=true) (hc:DT p.chain (f:Int)=true)
  (nd:(G1++(G2++G3)).Nodup) (hlo:∀ y∈G1++(G2++G3),lo<=y) (hl:lo<=h.length) :
  ∃ a6 c6 h5 h6 G,Af lo 254 [.agg [.sl 2 b1 p.chain.length d1],Iv (f:Nat)] h=some (.agg [.sl 2 b1 p.chain.length d1],h5) /\
   Af lo 130 [.agg [Iv p.me,Iv p.clock,.sl 2 b1 p.chain.length d1,.sl 6 b2 p.log.length d2,.sl 1 b3 p.got.length d3,.bool p.fell]] h5=some (.agg ((HT p f).cs b1 d1 a6 c6 b3 d3),h6) /\
   RPlace false h6 ((HT p f).cs b1 d1 a6 c6 b3 d3) (HT p f) G/\Mv h (G1++(G2++G3)) h6 G:=by
 have hn:=(E3 (Bj hpo) (by decide) (by decide) (by decide)).1;have hb:∀ y∈G1++(G2++G3),y<h.length:=λy hy=>by
  simp only[zfF] at hy;rcases hy with hy | hy | hy
  ·exact rnodes_ok.bd _ _ _ _ g1 y hy
  ·exact rvers_ok.bd _ _ _ _ g2 y hy
  ·exact rvss_ok.bd _ _ _ _ g3 y hy
 have hc':=hc;unfold DT at hc';rw[E1] at hc';obtain ⟨hw,hps⟩:=hc';simp only[Aj,E1,decide_eq_true_eq] at hw;rw[AW] at hps;have hk':f<p.chain.length:=by omega
 rw[NV hk',E1,decide_eq_true_eq] at hps;have nd':=nd;rw[zfG,zfG] at nd';obtain ⟨nd1,⟨nd2,nd3,Rm⟩,nd5⟩:=nd';obtain ⟨h5,F5,e5,r5,m5⟩:=Yj (lo:=lo) g1 (by omega) hps.1 nd1 (λy hy=>hlo y (by simp[hy])) hl hn.1 (WD hpo);have g25:=m5.keep rvers_ok g2 λy hy hm=>nd5 y hm y (by simp[hy]) rfl;have ht:=Jr (PM (k:=f) (Bj hpo)) (by decide) (by decide) (by decide);rw[<- JC (k:=f)] at r5;have d1':=(Se m5 (Mv.refl nd2) nd hb).2.1;obtain ⟨a6,c6,h6,F6,e6,r6,m6⟩:=Sm (lo:=lo) (p:=KY p f) (a3:=b3) (c3:=d3) r5 g25 (by show 0<(JN _ _).length;rw[JC];omega) ht d1' nd2 (λy hy=>hlo y (by simp[hy])) (zfE hl m5.le);have hcs:(KY p f).cs b1 d1 b2 d2 b3 d3 = [Iv p.me,Iv p.clock,.sl 2 b1 p.chain.length d1,.sl 6 b2 p.log.length d2,.sl 1 b3 p.got.length d3,.bool p.fell]:=by simp only[Place.cs,KY,JC]
 rw[hcs] at e6;obtain ⟨m7,x1,x2,x3⟩:=Se m5 m6 nd hb;have hx:HT p (f:Int)=Cg (KY p f):=by unfold HT;rw[hc,cond_true,AW]
 rw[hx];exact ⟨a6,c6,h5,h6,F5++(F6++G3),e5,e6,⟨_,_,_,F5,F6,G3,rfl,rfl,m6.keep rnodes_ok r5 x1,r6,m6.keep rvss_ok (m5.keep rvss_ok g3 x2) x3⟩,m7⟩
theorem zde {f:Nat} (g1:RNodes false h [.sl 2 b1 p.chain.length d1] p.chain G1) (g2:RVers false h [.sl 6 b2 p.log.length d2] p.log G2) (g3:RVss false h [.sl 1 b3 p.got.length d3] p.got G3) (hpo:AM p=true) (hc:ES p (f:Int)=true)
  (nd:(G1++(G2++G3)).Nodup) (hlo:∀ y∈G1++(G2++G3),lo<=y) (hl:lo<=h.length) :
  ∃ a5 c5 a6 c6 h5 h6 G,Af lo 256 [.agg [.sl 2 b1 p.chain.length d1],Iv (f:Nat)] h=some (.agg [.sl 2 a5 (DN p.chain f).length c5],h5) /\
   Af lo 130 [.agg [Iv p.me,Iv p.clock,.sl 2 a5 (DN p.chain f).length c5,.sl 6 b2 p.log.length d2,.sl 1 b3 p.got.length d3,.bool true]] h5=some (.agg ((Fg p f).cs a5 c5 a6 c6 b3 d3),h6) /\
   RPlace false h6 ((Fg p f).cs a5 c5 a6 c6 b3 d3) (Fg p f) G/\Mv h (G1++(G2++G3)) h6 G:=by
 have hn:=(E3 (Bj hpo) (by decide) (by decide) (by decide)).1;have hb:∀ y∈G1++(G2++G3),y<h.length:=λy hy=>by
  simp only[zfF] at hy;rcases hy with hy | hy | hy
  ·exact rnodes_ok.bd _ _ _ _ g1 y hy
  ·exact rvers_ok.bd _ _ _ _ g2 y hy
  ·exact rvss_ok.bd _ _ _ _ g3 y hy
 have hc':=hc;unfold ES Ey at hc';simp only[E1,Aj,decide_eq_true_eq] at hc';obtain ⟨hfl,hw,hl1⟩:=hc';have hk':f<p.chain.length:=by omega
 have nd':=nd;rw[zfG,zfG] at nd';obtain ⟨nd1,⟨nd2,nd3,Rm⟩,nd5⟩:=nd';obtain ⟨a5,c5,h5,F5,e5,r5,m5⟩:=Yn (lo:=lo) g1 hk' hl1 (zbU (A3 hpo).2.2.2.1 (by omega)) nd1 (λy hy=>hlo y (by simp[hy])) hl hn.1.1 (λx hx=>(WD hpo x hx).1);have g25:=m5.keep rvers_ok g2 λy hy hm=>nd5 y hm y (by simp[hy]) rfl;have ht:=Jr (PN (k:=f) (Bj hpo)) (by decide) (by decide) (by decide);have d1':=(Se m5 (Mv.refl nd2) nd hb).2.1;obtain ⟨a6,c6,h6,F6,e6,r6,m6⟩:=Sm (lo:=lo) (p:=O1 p f) (a3:=b3) (c3:=d3) r5 g25 (by show 0<(DN _ _).length;rw[V7 hk' hl1];omega) ht d1' nd2 (λy hy=>hlo y (by simp[hy])) (zfE hl m5.le);have hcs:(O1 p f).cs a5 c5 b2 d2 b3 d3 = [Iv p.me,Iv p.clock,.sl 2 a5 (DN p.chain f).length c5,.sl 6 b2 p.log.length d2,.sl 1 b3 p.got.length d3,.bool true]:=rfl;rw[hcs] at e6;obtain ⟨m7,x1,x2,x3⟩:=Se m5 m6 nd hb;have hx:Fg p (f:Int)=Cg (O1 p f):=by unfold Fg;rw[hc,cond_true,AW]
 rw[hx];exact ⟨a5,c5,a6,c6,h5,h6,F5++(F6++G3),e5,e6,⟨_,_,_,F5,F6,G3,rfl,rfl,m6.keep rnodes_ok r5 x1,r6,m6.keep rvss_ok (m5.keep rvss_ok g3 x2) x3⟩,m7⟩
theorem zc2 (g1:RNodes false h [.sl 2 b1 p.chain.length d1] p.chain G1) (g2:RVers false h [.sl 6 b2 p.log.length d2] p.log G2) (g3:RVss false h [.sl 1 b3 p.got.length d3] p.got G3) (hpo:AM p=true) (hc:Hg p.chain=true)
  (nd:(G1++(G2++G3)).Nodup) (hlo:∀ y∈G1++(G2++G3),lo<=y) (hl:lo<=h.length) :
  ∃ a5 c5 h5 G,Af lo 257 [.agg [.sl 2 b1 p.chain.length d1]] h=some (.agg [.sl 2 a5 (Kf p.chain).length c5],h5) /\
   RPlace false h5 ((NF p).cs a5 c5 b2 d2 b3 d3) (NF p) G/\Mv h (G1++(G2++G3)) h5 G:=by
 have hn:=(E3 (Bj hpo) (by decide) (by decide) (by decide)).1;have hb:∀ y∈G1++(G2++G3),y<h.length:=λy hy=>by
  simp only[zfF] at hy;rcases hy with hy | hy | hy
  ·exact rnodes_ok.bd _ _ _ _ g1 y hy
  ·exact rvers_ok.bd _ _ _ _ g2 y hy
  ·exact rvss_ok.bd _ _ _ _ g3 y hy
 have h0:=Dm hpo;have nd':=nd;rw[zfG,zfG] at nd';obtain ⟨nd1,⟨nd2,nd3,Rm⟩,nd5⟩:=nd';obtain ⟨a5,c5,h5,F5,e5,r5,m5⟩:=Ym (lo:=lo) g1 h0 hn.1 nd1 (λy hy=>hlo y (by simp[hy])) hl;have hj:Kf p.chain=OO p.chain:=by unfold Kf;rw[hc];rfl
 have hjl:(OO p.chain).length=p.chain.length+1:=by rw[K9 h0];simp
 obtain ⟨m7,x1,x2,x3⟩:=Se m5 (Mv.refl nd2) nd hb;rw[<- hjl,<- hj] at e5 r5;refine ⟨a5,c5,h5,F5++(G2++G3),e5,⟨_,_,_,F5,G2,G3,rfl,rfl,r5,m5.keep rvers_ok g2 λy hy hm=>nd5 y hm y (by simp[hy]) rfl,m5.keep rvss_ok g3 x2⟩,m7⟩
end


variable {p:Place}
structure Fits (w:World):Prop where
 ok:Wd w
theorem Good.fits {w:World} (hg:Good w):Fits w:=⟨hg.ok⟩
section
variable {lo:Nat}{h h':Heap}{w:World}{a1 a2 a3 a4 a:Pq}{c1 c2 c3 c4 c:Nq}{F1 F2 F3 F4:List Nat}
theorem zaM {k:Nat}:(setP w k p).cs a1 c1 a2 c2 a3 c3 a4 c4=w.cs a1 c1 a2 c2 a3 c3 a4 c4:=by simp only[World.cs,setP,zf6]
theorem Fits.at (hg:Fits w) {k:Nat} (hk:k<w.places.length):AM w.places[k]=true/\w.places[k].me=(k:Int)/\True:=by have:=hg.ok.place k _ (EM hk);exact ⟨this.2,this.1,trivial⟩
theorem zcB {f:Nat}{b1 b2 b3:Pq}{d1 d2 d3:Nq}{G1 G2 G3:List Nat} (g1:RNodes false h [.sl 2 b1 p.chain.length d1] p.chain G1) (g2:RVers false h [.sl 6 b2 p.log.length d2] p.log G2) (g3:RVss false h [.sl 1 b3 p.got.length d3] p.got G3) (hpo:AM p=true) (hc:Ek p (f:Int)=true)
  (nd:(G1++(G2++G3)).Nodup) (hlo:∀ y∈G1++(G2++G3),lo<=y) (hl:lo<=h.length) :
  ∃ a1' c1' a2' c2' a3' c3' h' G,Af lo 259 [.agg (p.cs b1 d1 b2 d2 b3 d3),Iv (f:Nat)] h=some (.agg ((Ff p (f:Int)).cs a1' c1' a2' c2' a3' c3'),h')/\RPlace false h' ((Ff p (f:Int)).cs a1' c1' a2' c2' a3' c3') (Ff p (f:Int)) G/\Mv h (G1++(G2++G3)) h' G:=by
 have hn:=(E3 (Bj hpo) (by decide) (by decide) (by decide)).1;have hx:Ff p (f:Int)=QJ p f:=by unfold Ff;rw[hc,cond_true,AW]
 unfold Ek at hc;rw[E1,AW] at hc;obtain ⟨hw,ht⟩:=hc;simp only[Aj,E1,decide_eq_true_eq] at hw;have h3:=(A3 hpo).2.2.1;obtain ⟨a2',c2',h',F',e,⟨_,_,_,_,_,_,ecs,r⟩,m⟩:=Yh (lo:=lo) (f:=f) g1 g2 g3 hpo (by omega) hn ht nd hlo hl;rw[hx];exact ⟨_,_,_,_,_,_,h',F',e,r,m⟩
theorem Wp {e:Event} (H:WR lo h w a1 c1 a2 c2 a3 c3 a4 c4 F1 F2 F3 F4) (hg:Fits w) :
  ∃ cs' h' F',Af lo 185 [.agg (w.cs a1 c1 a2 c2 a3 c3 a4 c4),.agg e.cs] h=some (.tup [.agg cs',.bool (IG w e).isSome],h')/\Tz lo h' cs' ((IG w e).getD w) F'/\Mv h (F1++(F2++(F3++F4))) h' F'/\((IG w e)=none->cs'=w.cs a1 c1 a2 c2 a3 c3 a4 c4):=by
 obtain ⟨kind,at',num,key,text,gone⟩:=e;suffices hk:∃ cs' h' F',_=some (V.tup [.agg cs',.bool (IG w ⟨kind,at',num,key,text,gone⟩).isSome],h')/\Tz lo h' cs' ((IG w ⟨kind,at',num,key,text,gone⟩).getD w) F'/\Mv h (F1++(F2++(F3++F4))) h' F'/\((IG w ⟨kind,at',num,key,text,gone⟩)=none->cs'=w.cs a1 c1 a2 c2 a3 c3 a4 c4) from by obtain ⟨cs',h',F',e,hr⟩:=hk;exact ⟨cs',h',F',TB e,hr⟩
 rw[A9,Ad,Ar];unfold IG;cases hat:Aj at' 0 2 with
 | false =>rw[Ay];exact ⟨_,h,_,rfl,H.at,Mv.refl H.nd,λ_=>rfl⟩
 | true =>
 simp only[Aj,E1,decide_eq_true_eq] at hat;obtain ⟨k,rfl⟩:∃ k:Nat,at'=(k:Int):=⟨at'.toNat,by omega⟩;have hk:k<w.places.length:=by have:=hg.ok.p3;omega
 obtain ⟨hpo,hme,hro⟩:=hg.at hk;have hn:=(E3 (Bj hpo) (by decide) (by decide) (by decide)).1;obtain ⟨b,i,s1,s2,s3,b1,d1,b2,d2,b3,d3,G1,G2,G3,rfl,hld,_,_,e1,e2,e3,g1,g2,g3,nd,hF,put⟩:=H.place hk;have hFlo:∀ y∈G1++(G2++G3),lo<=y:=λy hy=>(hF y hy).1
 rw[Aq,Ac hk,Ae,AW,hld,Ae,Ab,Aa,Ab,Aa,Ab,e1,Ab,e2,Ab,e3,Ab,AB,Ag,cond_true,EM hk];simp only[];generalize hp:w.places[k]=p at hpo hme hro hn hld e1 e2 e3 g1 g2 g3 put;have done:∀ (h1:Heap) (G:List Nat) (p':Place) (cs':List V),Mv h (G1++(G2++G3)) h1 G->RPlace false h1 cs' p' G->cs'.length=6 ->
   ∃ h2 F',st lo h1 b (i+k) 0 cs'=some h2/\Tz lo h2 (w.cs (some (b,i)) c1 a2 c2 a3 c3 a4 c4) (setP w k p') F'/\Mv h (F1++(F2++(F3++F4))) h2 F':=λh1 G p' cs' m r hc=>by
  obtain ⟨h2,F1',e,q,m2⟩:=put h1 G p' cs' m r hc;refine ⟨h2,_,e,?_,m2⟩;rw[<- zaM (k:=k) (p:=p')];exact q.at
 have hsame:setP w k p=w:=by unfold setP;rw[<- hp,zgY]
 obtain ⟨h9,F9,e9,W9,m9⟩:=done h _ p (p.cs b1 d1 b2 d2 b3 d3) (Mv.refl nd) ⟨_,_,_,G1,G2,G3,rfl,rfl,g1,g2,g3⟩ rfl;rw[hsame] at W9;simp only[Place.cs] at e9;cases h6:kind==6 with
 | true =>
  rw[Aq,ZN g1 hn.1.1,Ad,Ar];cases hc:DT p.chain num with
  | false =>
   have hs:EI p ⟨kind,(k:Nat),num,key,text,gone⟩=none:=by simp only[EI,h6,hc,cond_true,cond_false]
   rw[Ay,Ac hk,Ae,e9,Ae,hs];exact ⟨_,h9,F9,rfl,W9,m9,λ_=>rfl⟩
  | true =>
   obtain ⟨f,rfl⟩:∃ f:Nat,num=(f:Int):=by unfold DT at hc;simp only[Aj,E1,decide_eq_true_eq] at hc;exact ⟨num.toNat,by omega⟩
   have hs:EI p ⟨kind,(k:Nat),(f:Nat),key,text,gone⟩=some (HT p f):=by simp only[EI,h6,hc,cond_true]
   obtain ⟨a6,c6,h5,h6',G,e5,e6,r6,m6⟩:=zcR (lo:=lo) g1 g2 g3 hpo hc nd hFlo H.hl;obtain ⟨h8,F8,e8,W8,m8⟩:=done h6' G _ _ m6 r6 rfl;simp only[Place.cs] at e6 e8;rw[Aq,e5,Ad,AN,Ab,Ah,Ag,e6,Ad,AN,Ab,Aa,Ab,Aa,Ab,Ah,Ab,Ah,Ab,Ah,Ab,AB,Ag,Ac hk,Ae,e8,Ae,hs];exact ⟨_,h8,F8,rfl,W8,m8,λg=>by first | cases g | (simp at g)⟩
 | false =>
 rw[Ay];cases h7:kind==7 with
 | true =>
  have ec:=Sp (lo:=lo) (h:=h) (p:=p) (k:=num) (a1:=b1) (c1:=d1) (a2:=b2) (c2:=d2) (a3:=b3) (c3:=d3) hn.1.1;simp only[Place.cs] at ec;rw[Aq,ec,Ad,Ar];cases hc:ES p num with
  | false =>
   have hs:EI p ⟨kind,(k:Nat),num,key,text,gone⟩=none:=by simp only[EI,h6,h7,hc,cond_true,cond_false]
   rw[Ay,Ac hk,Ae,e9,Ae,hs];exact ⟨_,h9,F9,rfl,W9,m9,λ_=>rfl⟩
  | true =>
   obtain ⟨f,rfl⟩:∃ f:Nat,num=(f:Int):=by unfold ES Ey at hc;simp only[Aj,E1,decide_eq_true_eq] at hc;exact ⟨num.toNat,by omega⟩
   have hs:EI p ⟨kind,(k:Nat),(f:Nat),key,text,gone⟩=some (Fg p f):=by simp only[EI,h6,h7,hc,cond_true,cond_false]
   obtain ⟨a5,c5,a6,c6,h5,h6',G,e5,e6,r6,m6⟩:=zde (lo:=lo) g1 g2 g3 hpo hc nd hFlo H.hl;obtain ⟨h8,F8,e8,W8,m8⟩:=done h6' G _ _ m6 r6 rfl;simp only[Place.cs] at e6 e8;rw[Aq,e5,Ad,AN,Ab,Ah,Ag,e6,Ad,AN,Ab,Aa,Ab,Aa,Ab,Ah,Ab,Ah,Ab,Ah,Ab,AB,Ag,Ac hk,Ae,e8,Ae,hs];exact ⟨_,h8,F8,rfl,W8,m8,λg=>by first | cases g | (simp at g)⟩
 | false =>
 rw[Ay];cases h8:kind==8 with
 | true =>
  rw[Aq];cases hc:Hg p.chain with
  | false =>
   have hs:EI p ⟨kind,(k:Nat),num,key,text,gone⟩=none:=by simp only[EI,h6,h7,h8,hc,cond_true,cond_false]
   unfold Hg at hc;rw[decide_eq_false_iff_not] at hc;rw[Ai hc,Ac hk,Ae,e9,Ae,hs];exact ⟨_,h9,F9,rfl,W9,m9,λ_=>rfl⟩
  | true =>
   have hs:EI p ⟨kind,(k:Nat),num,key,text,gone⟩=some (NF p):=by simp only[EI,h6,h7,h8,hc,cond_true,cond_false]
   obtain ⟨a5,c5,h5,G,e5,r6,m6⟩:=zc2 (lo:=lo) g1 g2 g3 hpo hc nd hFlo H.hl;obtain ⟨h8',F8,e8,W8,m8⟩:=done h5 G _ _ m6 r6 rfl;unfold Hg at hc;rw[decide_eq_true_eq] at hc;simp only[Place.cs,NF] at e8;rw[Ak hc,e5,Ad,AN,Ab,Ah,Ag,Ac hk,Ae,e8,Ae,hs];exact ⟨_,h8',F8,rfl,W8,m8,λg=>by first | cases g | (simp at g)⟩
 | false =>
 rw[Ay,A9,Ad,Ar];cases hw:Aj num 0 2 with
 | false =>
  have hs:EI p ⟨kind,(k:Nat),num,key,text,gone⟩=none:=by simp only[EI,h6,h7,h8,Ek,hw,zgs,cond_true,cond_false]
  rw[Ay,Ac hk,Ae,e9,Ae,hs];exact ⟨_,h9,F9,rfl,W9,m9,λ_=>rfl⟩
 | true =>
  have hw':=hw;simp only[Aj,E1,decide_eq_true_eq] at hw';obtain ⟨f,rfl⟩:∃ f:Nat,num=(f:Int):=⟨num.toNat,by omega⟩;have h3:=(A3 hpo).2.2.1;have ec:=So (lo:=lo) (f:=f) (a2:=b2) (c2:=d2) g1 g3 hpo (by omega) hn;simp only[Place.cs] at ec;rw[Aq,ec,Ad,Ar];cases hc:Ma p f with
  | false =>
   have hs:EI p ⟨kind,(k:Nat),(f:Nat),key,text,gone⟩=none:=by simp only[EI,h6,h7,h8,Ek,hw,AW,hc,zgI,cond_true,cond_false]
   rw[Ay,Ac hk,Ae,e9,Ae,hs];exact ⟨_,h9,F9,rfl,W9,m9,λ_=>rfl⟩
  | true =>
   have hct:Ek p (f:Int)=true:=by unfold Ek;rw[hw,AW,hc];rfl
   have hs:EI p ⟨kind,(k:Nat),(f:Nat),key,text,gone⟩=some (Ff p f):=by simp only[EI,h6,h7,h8,hct,cond_true,cond_false]
   obtain ⟨x1,y1,x2,y2,x3,y3,h5,G,e5,r6,m6⟩:=zcB (lo:=lo) g1 g2 g3 hpo hct nd hFlo H.hl;obtain ⟨h8',F8,e8,W8,m8⟩:=done h5 G _ _ m6 r6 rfl;simp only[Place.cs] at e5 e8;rw[Aq,e5,Ad,AN,Ab,Aa,Ab,Aa,Ab,Ah,Ab,Ah,Ab,Ah,Ab,AB,Ag,Ac hk,Ae,e8,Ae,hs];exact ⟨_,h8',F8,rfl,W8,m8,λg=>by first | cases g | (simp at g)⟩
end


variable {α:Type}{El:Rel α}{h:Heap}{a:Pq}{c:Nq}{F:List Nat}{l:List α}{xs:List (List V)}{Fs:List (List Nat)}
theorem zb9 (ok:El.Ok) {lo R ee bytes:Nat}{k:Nat} (hs:Sli false R ee El h [.sl R a l.length c] l F) (hk:k<l.length) (hnd:F.Nodup) (hlo:∀ b∈F,lo<=b) (hl:lo<=h.length) (hby:0<bytes) (hn:l.length*bytes<=140737488355328) :
  ∃ a' c' h' F',(∀ {T:Type} (K:V->Heap->Option T),(Az a l.length c none (some (Iv (k:Nat))) none λa_0 n_1 c_2=>Aw R (h ++ [.rows R ee false []]) (.sl R a_0 n_1 c_2) λx_3=>DJ lo ee R bytes (.sl R (some ((List.length h),0)) 0 (some 0)) x_3 (h ++ [.rows R ee false []]) λv_4 h_5=>eS R (v_4) λa_6 n_7 c_8 =>
    Az a l.length c (some (Iv ((k+1:Nat):Int))) none none λa_9 n_10 c_11=>Aw R h_5 (.sl R a_9 n_10 c_11) λx_12=>DJ lo ee R bytes (.sl R a_6 n_7 c_8) x_12 h_5 K)=K (.sl R a' (l.eraseIdx k).length c') h') /\
   Sli false R ee El h' [.sl R a' (l.eraseIdx k).length c'] (l.eraseIdx k) F'/\Mv h F h' F':=by
 have hbd:=(Sli.ok ok).bd _ _ _ _ hs;obtain ⟨Fs,nF,sF,own,cuts⟩:=Sli.parts hs hnd;obtain ⟨rP,_,eP,_,kP,_⟩:=cuts k (by omega);obtain ⟨_,rQ,_,eQ,_,kQ⟩:=cuts (k+1) (by omega);obtain ⟨nP,_,dPQ⟩:=Gh (k:=k) nF;obtain ⟨_,nQ,_⟩:=Gh (k:=k+1) nF;have inP:∀ y∈(Fs.take k).flatten,y∈Fs.flatten:=λy hy=>by rw[<- zgi k Fs,zgf];simp[hy]
 have inQ:∀ y∈(Fs.drop (k+1)).flatten,y∈(Fs.drop k).flatten:=λy hy=>by
  have:Fs.drop (k+1)=(Fs.drop k).drop 1:=by rw[zg9]
  rw[this] at hy;rw[<- zgi 1 (Fs.drop k),zgf];exact zfF.2 (.inr hy)
 have inQ':∀ y∈(Fs.drop (k+1)).flatten,y∈Fs.flatten:=λy hy=>by rw[<- zgi k Fs,zgf];simp[inQ y hy]
 have hFl:∀ y∈Fs.flatten,y<h.length:=λy hy=>hbd y (sF y hy);have htl:(l.take k).length=k:=by rw[zf2];omega
 have hdl:(l.drop (k+1)).length=l.length - (k+1):=by rw[zgE]
 obtain ⟨a3,c3,h3,F3,e3,r3,l3,fr3,sub3,nd3⟩:=LN (lo:=lo) (R:=R) (e:=ee) (bytes:=bytes) ok eP nP (λy hy=>hFl y (inP y hy)) hby (by rw[htl];exact zfE (zga _ (by omega)) hn) hl;have hQ3:∀ y∈(Fs.drop (k+1)).flatten,y∉F3/\y<h3.length:=λy hy=>by
  have:=hFl y (inQ' y hy);refine ⟨λhm3=>?_,by omega⟩;rcases sub3 y hm3 with g | g
  ·exact dPQ y g y (inQ y hy) rfl
  ·omega
 have F3b:∀ y∈F3,y<h3.length:=(Sli.ok ok).bd _ _ _ _ r3;obtain ⟨a7,c7,h7,F7,e7,r7,l7,fr7,sub7,nd7⟩:=MW (lo:=lo) (bytes:=bytes) ok.fr r3 (xs:=rQ) (ys:=l.drop (k+1)) (Gs:=Fs.drop (k+1)) (eQ.fr ok.fr λy hy=>fr3 y (hFl y (inQ' y hy))) hby (by rw[htl,hdl];exact zfE (zga _ (by omega)) hn) (λy hy=>by
   rcases sub3 y hy with g | g
   ·exact hlo y (sF y (inP y g))
   ·omega) (by omega) (by
   rw[zfG];refine ⟨nd3,nQ,λx hx y hy e=>?_⟩;subst e;exact (hQ3 x hy).1 hx) (λy hy=>by
   rcases zfF.1 hy with hy | hy
   ·exact F3b y hy
   ·exact (hQ3 y hy).2)
 have hel:(l.take k).length+(l.drop (k+1)).length=(l.eraseIdx k).length:=by rw[zgm hk,htl,hdl];omega
 have her:l.take k++l.drop (k+1)=l.eraseIdx k:=(List.eraseIdx_eq_take_drop_succ l k).symm;rw[hel] at e7 r7;rw[her] at r7;have mm0:Mv h [] (h ++ [.rows R ee false []]) []:=Mv.snoc;refine ⟨a7,c7,h7,F7,λK=>?_,r7,⟨by omega,λy hy hyF=>?_,nd7,λy hy=>?_⟩⟩
 ·rw[kP _ (λb i e=>mm0.fr b (hbd b (own b i e).1) (by simp)),e3,Ah,kQ _ (λb i e=>fr3 b (hbd b (own b i e).1)),e7]
 ·have y3:y∉F3:=λhm3=>by
   rcases sub3 y hm3 with g | g
   ·exact hyF (sF y (inP y g))
   ·omega
  rw[fr7 y (by omega) y3,fr3 y hy]
 ·rcases sub7 y hy with g | g
  ·rcases zfF.1 g with g | g
   ·rcases sub3 y g with g | g
    ·exact .inl (sF y (inP y g))
    ·exact .inr (by omega)
   ·exact .inl (sF y (inQ' y g))
  ·exact .inr (by omega)
theorem Qc {h:Heap}:∀ {xs:List (List V)},EAll (flat id) h xs xs (xs.map λ_ => [])
 | []=>trivial
 | x :: xs=>⟨⟨rfl,rfl⟩,Qc⟩
theorem To {rows:List (List V)} (hx:EAll (flat id) h rows xs Fs):rows=xs/\Fs.flatten = []:=by have:=hx.of_flat;simpa using this
theorem Sli.bare {R e n:Nat} (hs:Sli false R e El h [.sl R a n c] l F) :
  ∃ xs Fs F0,Sli false R e (flat id) h [.sl R a n c] xs F0/\EAll El h xs l Fs/\F=F0++Fs.flatten:=by
 obtain ⟨R1,a1,c1,e1,g⟩:=hs;injection e1 with e1 _;injection e1 with e0 e2 e4 e3;subst e2;subst e3;subst e4;cases a with
 | none =>obtain ⟨rfl,rfl,rfl⟩:=g;exact ⟨[],[],[],⟨R1,none,some 0,by rw[e0];rfl,rfl,rfl,rfl⟩,trivial,rfl⟩
 | some p =>
  obtain ⟨b,i⟩:=p;obtain ⟨_,rs,Fs,g1,g2,g3,g4,g5,rfl⟩:=g;have hlen:((rs.drop i).take l.length).length=l.length:=by rw[zf2,zgE];omega
  refine ⟨(rs.drop i).take l.length,Fs,[b],⟨R,some (b,i),c,by rw[hlen],rfl,rs,_,g1,by rw[hlen];exact g2,by rw[hlen];exact g3,g4,?_,by rw[(To (Qc (h:=h) (xs:=(rs.drop i).take l.length))).2]⟩,g5,rfl⟩;rw[hlen];exact Qc
theorem Sli.cook {R e n:Nat}{F0:List Nat} (hs:Sli false R e (flat id) h [.sl R a n c] xs F0) (hx:EAll El h xs l Fs) :
  Sli false R e El h [.sl R a n c] l (F0++Fs.flatten):=by
 have hl:=hx.len;obtain ⟨R1,a1,c1,e1,g⟩:=hs;injection e1 with e1 _;injection e1 with e0 e2 e4 e3;subst e2;subst e3;subst e4;cases a with
 | none =>obtain ⟨rfl,rfl,rfl⟩:=g;have:l = []:=zfM hl.1.symm;subst this;have:Fs = []:=zfM hl.2;subst this;exact ⟨R1,none,some 0,by rw[e0];rfl,rfl,rfl,rfl⟩
 | some p =>obtain ⟨b,i⟩:=p;obtain ⟨_,rs,Gs,g1,g2,g3,g4,g5,rfl⟩:=g;obtain ⟨q1,q2⟩:=To g5;refine ⟨R,some (b,i),c,by rw[hl.1],rfl,rs,Fs,g1,by rw[<- hl.1];exact g2,by rw[<- hl.1];exact g3,g4,?_,by rw[q2];rfl⟩;rw[<- hl.1,q1];exact hx


variable {f:Frame}
section
variable {lo:Nat}{h h':Heap}{w:World}{a1 a2 a3 a4 a:Pq}{c1 c2 c3 c4 c:Nq}{F1 F2 F3 F4:List Nat}
theorem Yz (hg:Fits w) (hf:LZ w.places f):thin f.ver/\BO f.ver=true/\f.ver.tag.place=f.fro:=by
 obtain ⟨h1,h2,h3,h4,h5⟩:=hf;have hk:f.fro.toNat<w.places.length:=by have:=hg.ok.p3;omega
 obtain ⟨hpo,hme,_⟩:=hg.at hk;rw[HJ hk] at h5;obtain ⟨hi,h5⟩:=Ga h5;obtain ⟨_,hl⟩:=EL (A3 hpo).2.2.2.2.2.1;obtain ⟨g1,g2,_⟩:=hl _ hi;rw[h5] at g1 g2;exact ⟨Lt g1,g1,by rw[g2,hme];omega⟩
theorem Y5 {b:Pq}{d:Nq}{G:List Nat} (H:WR lo h w a1 c1 a2 c2 a3 c3 a4 c4 F1 F2 F3 F4) (hg:Fits w) (hf:LZ w.places f) (hv:RTags false h [.sl 2 b f.ver.past.length d] f.ver.past G) :
  ∃ h' F',(As f.to w.places.length (eO a1 λw0=>eO (ld h w0.1 (w0.2+f.to.toNat) 0 6) λw0=>eC w0 λw0 p=>eI .i64 w0 λw0=>eC p λp q=>eI .i64 p λp=>eC q λq g=>eS 2 q λq i j=>eC g λg k=>eS 6 g λg m t=>eC k λk d0=>eS 1 k λk e f0=>eC d0 λd0 v0=>eBv d0 λd0=>eN v0 (Al (Af lo 260 [.agg [Iv w0,Iv p,.sl 2 q i j,.sl 6 g m t,.sl 1 k e f0,.bool d0],Iv f.fro,Iv f.at',.agg [Iv f.ver.key,Iv f.ver.tag.time,Iv f.ver.tag.place,.sl 2 b f.ver.past.length d,.str f.ver.text,.bool f.ver.gone]] h) λw1 p=>eU w1 λw1=>eC w1 λw1 q=>eA w1 λw1=>eC w1 λw1 g=>eI .i64 w1 λw1=>eC g λg i=>eI .i64 g λg=>eC i λi j=>eS 2 i λi k m=>eC j λj t=>eS 6 j λj d e=>eC t λt f0=>eS 1 t λt v0 v1=>eC f0 λf0 v2=>eBv f0 λf0=>eN v2 (eC q λq v2=>eB q (eN v2 (As f.to w.places.length (eO a1 λq=>eO (st lo p q.1 (q.2+f.to.toNat) 0 [Iv w1,Iv g,.sl 2 i k m,.sl 6 j d e,.sl 1 t v0 v1,.bool f0]) λw1=>some (V.tup [.agg (w.cs a1 c1 a2 c2 a3 c3 a4 c4),.bool true],w1)))) (eN v2 (some (V.tup [.agg (w.cs a1 c1 a2 c2 a3 c3 a4 c4),.bool true],p)))))))=some (V.tup [.agg (w.cs a1 c1 a2 c2 a3 c3 a4 c4),.bool true],h') /\
   Tz lo h' (w.cs a1 c1 a2 c2 a3 c3 a4 c4) (NG w f) F'/\Mv h (F1++(F2++(F3++F4))) h' F':=by
 obtain ⟨hth,hvo,hvt⟩:=Yz hg hf;obtain ⟨⟨h1,h1'⟩,⟨h2,h2'⟩,h3,h4,h5⟩:=hf;obtain ⟨fro,to,at',ver⟩:=f;simp only at *
 obtain ⟨k,rfl⟩:∃ k:Nat,to=(k:Int):=⟨to.toNat,by omega⟩;obtain ⟨j,rfl⟩:∃ j:Nat,fro=(j:Int):=⟨fro.toNat,by omega⟩;have hk:k<w.places.length:=by have:=hg.ok.p3;omega
 obtain ⟨hpo,hme,hro⟩:=hg.at hk;obtain ⟨b0,i,s1,s2,s3,b1,d1,b2,d2,b3,d3,G1,G2,G3,rfl,hld,_,_,e1,e2,e3,g1,g2,g3,nd,hF,put⟩:=H.place hk;have hx:NG w ⟨(j:Int),(k:Int),at',ver⟩=setP w k (IZ w.places[k] j at' ver):=by unfold NG;simp only[AW,EM hk]
 rw[hx];rw[Ac hk,Ae,AW,hld,Ae,Ab,Aa,Ab,Aa,Ab,e1,Ab,e2,Ab,e3,Ab,AB,Ag];generalize hp:w.places[k]=p at hpo hme hro hld e1 e2 e3 g1 g2 g3 put;have ht:=Bj hpo;have h3g:=(A3 hpo).2.2.1;have nd':=nd;rw[zfG,zfG] at nd';obtain ⟨nd1,⟨nd2,nd3,Rm⟩,nd5⟩:=nd';have hj:j<p.got.length:=by omega
 obtain ⟨h5',F5,e5,r5,m5,x5⟩:=Wq (lo:=lo) (at':=at') (a1:=b1) (c1:=d1) (a2:=b2) (c2:=d2) g3 hv hj (by have:=(ht.got.2 _ (zfD hj)).1;omega) (by have:=hth.1;omega) nd3 (λy hy=>(hF y (by simp[hy])).1) H.hl;simp only[Place.cs,Ver.cs] at e5;have hc:JB p (j:Int) at' ver=Kq p j at' ver:=by unfold JB;rw[hvo,hvt,FS,AW];simp[Aj];omega
 have hsame:setP w k p=w:=by unfold setP;rw[<- hp,zgY]
 rw[e5,Ad,J5,Ab,AN,Ab,Aa,Ab,Aa,Ab,Ah,Ab,Ah,Ab,Ah,Ab,AB,Ag,Ab,Ar];unfold IZ;rw[hc];cases hh:Kq p j at' ver with
 | false =>have:=x5 hh;subst this;rw[Ay,Ag,cond_false,hsame];exact ⟨_,_,rfl,H.at,Mv.refl H.nd⟩
 | true =>
  rw[hh,cond_true] at r5;have hb:∀ y∈G1++(G2++G3),y<h.length:=λy hy=>(hF y hy).2.1
  have mm:Mv h (G1++(G2++G3)) h5' (G1++(G2++F5)):=m5.mid zcQ nd (λy hy=>hb y (by simp only[zfF] at hy ⊢;grind)) zcQ;have hcs:(Kr p j ver).cs b1 d1 b2 d2 b3 d3=p.cs b1 d1 b2 d2 b3 d3:=zaZ;have rr:RPlace false h5' (p.cs b1 d1 b2 d2 b3 d3) (Kr p j ver) (G1++(G2++F5)):=by
   rw[<- hcs];refine ⟨_,_,_,G1,G2,F5,rfl,rfl,m5.keep rnodes_ok g1 (λy hy hm=>nd5 y hy y (by simp[hm]) rfl),m5.keep rvers_ok g2 (λy hy hm=>Rm y hy y hm rfl),?_⟩;have:(Kr p j ver).got=p.got.set j (p.got[j] ++ [ver]):=by unfold Kr;rw[Lb hj]
   rw[this,zf6];exact r5
  obtain ⟨h6,F6,e6,q6,m6⟩:=put h5' _ _ _ mm rr rfl;simp only[Place.cs] at e6;rw[Aq,Ag,Ac hk,Ae,e6,Ae,cond_true,AW];refine ⟨h6,_,rfl,?_,m6⟩;rw[<- zaM (k:=k) (p:=Kr p j ver)];exact q6.at
def YG (w:World) (e:Event):Option World:=bif e.kind==10 then SB w e else KM w e
theorem ZJ {e:Event} (H:WR lo h w a1 c1 a2 c2 a3 c3 a4 c4 F1 F2 F3 F4) (hg:Fits w) :
  ∃ cs' h' F',Af lo 186 [.agg (w.cs a1 c1 a2 c2 a3 c3 a4 c4),.agg e.cs] h=some (.tup [.agg cs',.bool (YG w e).isSome],h')/\Tz lo h' cs' ((YG w e).getD w) F'/\Mv h (F1++(F2++(F3++F4))) h' F'/\((YG w e)=none->cs'=w.cs a1 c1 a2 c2 a3 c3 a4 c4):=by
 obtain ⟨kind,at',num,key,text,gone⟩:=e;suffices hk:∃ cs' h' F',_=some (V.tup [.agg cs',.bool (YG w ⟨kind,at',num,key,text,gone⟩).isSome],h')/\Tz lo h' cs' ((YG w ⟨kind,at',num,key,text,gone⟩).getD w) F'/\Mv h (F1++(F2++(F3++F4))) h' F'/\((YG w ⟨kind,at',num,key,text,gone⟩)=none->cs'=w.cs a1 c1 a2 c2 a3 c3 a4 c4) from by obtain ⟨cs',h',F',e,hr⟩:=hk;exact ⟨cs',h',F',XJ e,hr⟩
 have hp3:=hg.ok.p3;have hn12:=hg.ok.n12;unfold YG;cases h10:kind==10 with
 | true =>
  rw[cond_true,Aq,A9,Ad,Ar];unfold SB;cases x1:Aj at' 0 2 with
  | false =>rw[zgs,cond_false,Ay];exact ⟨_,h,_,rfl,H.at,Mv.refl H.nd,λ_=>rfl⟩
  | true =>
  rw[zfQ,Aq,A9,Ad,Ar];cases x2:Aj num 0 2 with
  | false =>rw[zgs,cond_false,Ay];exact ⟨_,h,_,rfl,H.at,Mv.refl H.nd,λ_=>rfl⟩
  | true =>
  rw[zfQ,Aq];cases x3:at'==num with
  | true =>rw[zgo,zgs,cond_false,Aq];exact ⟨_,h,_,rfl,H.at,Mv.refl H.nd,λ_=>rfl⟩
  | false =>
  rw[zgx,zfQ,Ay];by_cases x4:(w.net.length:Int)<12
  ·simp only[Aj,E1,decide_eq_true_eq] at x1;obtain ⟨k,rfl⟩:∃ k:Nat,at'=(k:Int):=⟨at'.toNat,by omega⟩;have hk:k<w.places.length:=by omega
   obtain ⟨hpo,hme,hro⟩:=hg.at hk;obtain ⟨b0,i,s1,s2,s3,b1,d1,b2,d2,b3,d3,G1,G2,G3,rfl,hld,hc2,hc3,e1,e2,e3,g1,g2,g3,nd,hF,put⟩:=H.place hk;have hll:=(Bj hpo).log.1;rw[decide_eq_true x4,zfQ,Ai (by omega),Ac hk,Ae,AW,hc3,Ae,Ab,Ag,e2,wr (by omega) (by omega),A9,Ad,Ar,HJ hk];generalize hp:w.places[k]=p at hpo hme hro hld e1 e2 e3 g1 g2 g3 put hll;cases x5:Aj key 0 ((p.log.length:Int) - 1) with
   | false =>rw[cond_false,Ay];exact ⟨_,h,_,rfl,H.at,Mv.refl H.nd,λ_=>rfl⟩
   | true =>
   simp only[Aj,E1,decide_eq_true_eq] at x5;obtain ⟨m,rfl⟩:∃ m:Nat,key=(m:Int):=⟨key.toNat,by omega⟩;have hm:m<p.log.length:=by omega
   obtain ⟨o,s,b,d,G,ha,ho,es,hpv,hGF⟩:=g2.get hm;have hth:=(Bj hpo).log.2 _ (zfD hm);obtain ⟨a5,c5,h5,F5,e5,r5,m5⟩:=DK (lo:=lo) (v:=p.log[m]) hpv H.hl (by have:=hth.1;omega);have e5':=e5;simp only[Ver.cs] at e5';rw[cond_true,Aq,Ac hk,Ae,hc3,Ae,Ab,Ag,e2,Ac hm,ha,Ae,AW,ho,Ae,Ab,Aa,Ab,Aa,Ab,Aa,Ab,es,Ab,A4,Ab,AB,Ag,e5',Ad,AN,Ab,Aa,Ab,Aa,Ab,Aa,Ab,Ah,Ab,A4,Ab,AB,Ag,A2,EM hm];obtain ⟨⟨n1,n2,n3,n4⟩,_⟩:=Rm H.nd;obtain ⟨a6,c6,h6,F6,e6,r6,m6⟩:=Ev (lo:=lo) (bytes:=96) (e:=123) rframe_ok H.r3 (row := Iv (k:Nat) :: Iv num :: Iv (m:Nat) :: p.log[m].cs a5 c5) (x:=⟨(k:Nat),num,(m:Nat),p.log[m]⟩) (G:=F5) (h1:=h5 ++ [.rows 9 123 false [Iv (k:Nat) :: Iv num :: Iv (m:Nat) :: p.log[m].cs a5 c5]])
    ⟨_,rfl,_,rfl,Mv.snoc.keep0 rtags_ok r5⟩ (m5.trans (Mv.snoc' m5.nd)) n3 (λy hy=>H.ge y (by simp[hy])) H.hl (by decide) (by omega)
   simp only[Ver.cs] at e6;rw[e6,Ah];have hnl:(w.net ++ [(⟨(k:Nat),num,(m:Nat),p.log[m]⟩:Frame)]).length=w.net.length+1:=by simp
   rw[<- hnl] at r6;obtain ⟨q,mq⟩:=H.up3 m6 r6;refine ⟨_,h6,_,?_,q.at,mq,λg=>by first | cases g | (simp at g)⟩;rw[<- hnl];rfl
  ·rw[decide_eq_false x4,zgs,cond_false,Ak (by omega)];exact ⟨_,h,_,rfl,H.at,Mv.refl H.nd,λ_=>rfl⟩
 | false =>
 rw[cond_false,Ay,wr (by omega) (by omega),A9,Ad,Ar];unfold KM;cases x1:Aj at' 0 ((w.net.length:Int) - 1) with
 | false =>rw[cond_false,Ay];exact ⟨_,h,_,rfl,H.at,Mv.refl H.nd,λ_=>rfl⟩
 | true =>
 simp only[Aj,E1,decide_eq_true_eq] at x1;obtain ⟨j,rfl⟩:∃ j:Nat,at'=(j:Int):=⟨at'.toNat,by omega⟩;have hj:j<w.net.length:=by omega
 obtain ⟨⟨n1,n2,n3,n4⟩,_⟩:=Rm H.nd;obtain ⟨xs,Fs,F0,hraw,hall,rfl⟩:=H.r3.bare;have hxl:w.net.length=xs.length:=hraw.val;obtain ⟨row,Fj,hr,hFj,⟨vs,rfl,hv⟩⟩:=hall.get (EM hj);obtain ⟨s,b,d,rfl,es,hpv⟩:=hv.form;obtain ⟨o,row',_,ha,hld,⟨rfl,_⟩,_⟩:=hraw.read (show j<xs.length by omega);have hro:xs[j]'(by omega) = Iv w.net[j].fro :: Iv w.net[j].to :: Iv w.net[j].at' :: [Iv w.net[j].ver.key,Iv w.net[j].ver.tag.time,Iv w.net[j].ver.tag.place,s,.str w.net[j].ver.text,.bool w.net[j].ver.gone]:=by rw[EM (by omega)] at hr;injection hr
 have hfi:=hg.ok.net _ (zfD hj);have hld9:ld h o.1 (o.2+j) 0 9=some (Iv w.net[j].fro :: Iv w.net[j].to :: Iv w.net[j].at' :: [Iv w.net[j].ver.key,Iv w.net[j].ver.tag.time,Iv w.net[j].ver.tag.place,s,.str w.net[j].ver.text,.bool w.net[j].ver.gone]):=by rw[hld,id,hro];exact Pa rfl
 rw[Aq,Ac hj,ha,Ae,AW,hld9,Ae,Ab,Aa,Ab,Aa,Ab,Aa,Ab,Aa,Ab,Aa,Ab,Aa,Ab,es,Ab,A4,Ab,AB,Ag,cond_true,EM hj,<- ha];simp only[];cases h13:kind==13 with
 | true =>
  have h12:(kind==12)=false:=by rw[beq_iff_eq] at h13;subst h13;rfl
  rw[Aq,h12,Ay];obtain ⟨h',F',e,W,m⟩:=Y5 H hg hfi hpv;refine ⟨_,h',F',e,?_,m,λg=>by first | cases g | (simp at g)⟩;simpa using W
 | false =>
  rw[zfG] at n3;obtain ⟨n5,n6,n7⟩:=n3;rw[hxl] at hraw;obtain ⟨a6,c6,h6,F6,e6,r6,m6⟩:=zb9 (k:=j) (lo:=lo) (bytes:=96) EG hraw (by omega) n5 (λy hy=>H.ge y (by simp[hy])) H.hl (by decide) (by omega);rw[<- hxl] at e6;have hbd:∀ y∈F0++Fs.flatten,y<h.length:=H.lt.2.2.1;have hel:(xs.eraseIdx j).length=(w.net.eraseIdx j).length:=by rw[zgm hj,zgm (by omega)];omega
  obtain ⟨k1,k2⟩:=KN hFj n6;have all6:=(hall.fr rframe_ok.fr λy hy=>m6.fr y (hbd y (by simp[hy])) λhm=>n7 y hm y hy rfl).erase j;have r3':=r6.cook all6;rw[hel] at r3' e6;have mm:Mv h (F0++Fs.flatten) h6 (F6++Fs.flatten):=m6.mid (.refl _) (by rw[zfG];exact ⟨n5,n6,n7⟩) (λy hy=>hbd y (by simp[hy])) (.refl _);have nd6:=mm.nd;rw[zfG] at nd6;have mm':Mv h (F0++Fs.flatten) h6 (F6++(Fs.eraseIdx j).flatten):=mm.lean (by
   rw[zfG];exact ⟨nd6.1,k1,λx hx y hy=>nd6.2.2 x hx y (k2 y hy).1⟩) λy hy=>by
    rcases zfF.1 hy with hy | hy
    ·simp[hy]
    ·simp[(k2 y hy).1]
  obtain ⟨q,mq⟩:=H.up3 mm' r3';have hpv6:=m6.keep rtags_ok hpv λy hy hm=>n7 y hm y (Hn hFj hy) rfl;rw[show KP false=123 from rfl] at e6;rw[Ay,Am (by omega),e6,Ah];cases h12:kind==12 with
  | true =>rw[Aq];exact ⟨_,h6,_,rfl,q.at,mq,λg=>by first | cases g | (simp at g)⟩
  | false =>rw[Ay];have hgn:Fits (setN w (w.net.eraseIdx j)):=⟨hg.ok.netN (zfE (zg7 _ _) hn12) λx hx=>hg.ok.net x (zgB hx)⟩;obtain ⟨h',F',e,W,m⟩:=Y5 (w:=setN w (w.net.eraseIdx j)) q hgn hfi hpv6;refine ⟨_,h',F',e,?_,mq.trans m,λg=>by first | cases g | (simp at g)⟩;simpa using W
end
end Go.Proofs.YtmgopagfoemomaaGreat
