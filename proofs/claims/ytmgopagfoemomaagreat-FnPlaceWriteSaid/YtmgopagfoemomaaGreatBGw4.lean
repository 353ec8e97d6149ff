/- Part 4 of what is shown for the law Gw, whatever the input; no condition of its own. -/
import Derived.Test.YtmgopagfoemomaaGreatBGw3
set_option linter.unusedVariables false
set_option linter.unusedSimpArgs false
set_option linter.unnecessarySimpa false
set_option maxRecDepth 100000
namespace Go.Proofs.YtmgopagfoemomaaGreat
open Go T


variable {l:List Node}{w:List Ver}
def Ei (l:List Node) (k:Nat) (w:List Ver):List Node:=match l[k]? with
 | some x=>l.set k ⟨x.store,w⟩
 | none=>l
def FO (l:List Node) (k:Nat):List Ver:=match l[k]? with
 | some x=>x.store
 | none => []
def CA (l:List Node) (k:Nat):List Node :=
 bif decide (0<k) then (bif decide (k<(l.eraseIdx k).length) then Ei (l.eraseIdx k) (k - 1) (En (FO (l.eraseIdx k) (k - 1)) (FO (l.eraseIdx k) k)) else Ei (l.eraseIdx k) (k - 1) []) else l.eraseIdx k
theorem HV {k:Nat} (hk:k<l.length):Ei l k w=l.set k ⟨l[k].store,w⟩:=by unfold Ei;rw[Dx hk]
theorem EK {k:Nat} (hk:k<l.length):FO l k=l[k].store:=by unfold FO;rw[Dx hk]
theorem Ew {k:Nat}:(Ei l k w).length=l.length:=by unfold Ei;split<;>simp
theorem NL {k:Nat} (hk:k<l.length) (hw:l[k].wait = []):Ei l k []=l:=by
 rw[HV hk];have:(⟨l[k].store,[]⟩:Node)=l[k]:=by
  cases hx:l[k] with
  | mk s w=>rw[hx] at hw;simp only at hw;rw[hw]
 rw[this];exact zcR hk
section
variable {lo:Nat}{h:Heap}{F F' G:List Nat}{a a' av:Pq}{c c' cv:Nq}
theorem TU {n k:Nat}{ws:List Ver}{w:V}{h1:Heap}{Fw:List Nat} (hs:RNodes false h [.sl 2 a n c] l F) (hk:k<l.length) (hnd:F.Nodup) (hlo:∀ b∈F,lo<=b) (hw:RVers false h1 [w] ws Fw) (m:Mv h [] h1 Fw) :
  ∃ b i h2 F',a=some (b,i)/\b∈F/\st lo h1 b (i+k) 1 [w]=some h2/\RNodes false h2 [.sl 2 a n c] (Ei l k ws) F'/\Mv h F h2 F'/\(∀ y,y≠b->h2[y]?=h1[y]?):=by
 obtain ⟨b,i,rs,row,G0,ha,hbF,hbG,hb,hrow,hel,hGF,hGn,put⟩:=hs.at2 rnode_ok hk hnd hlo;obtain ⟨t1,t2,F1,F2,rfl,rfl,r1,r2⟩:=hel;rw[zbm] at hGn;have b1:∀ y∈F1,y<h.length:=rvers_ok.bd _ _ _ _ r1;have m1:Mv h (F1++F2) h1 (F1++Fw):=by
  refine ⟨m.le,λy hy _=>m.fr y hy (by simp),?_,λy hy=>?_⟩
  ·rw[zbm];refine ⟨hGn.1,m.nd,λx hx y hy e=>?_⟩;subst e;have:=b1 x hx;have:=m.new x hy;omega
  ·rcases zbl.1 hy with hy | hy
   ·exact .inl (by simp[hy])
   ·exact (m.sub y hy).imp (λg=>by simp at g) id
 obtain ⟨h2,F',e2,r,m2,fr,_⟩:=put h1 (F1++Fw) 1 [w] [t1,w] ⟨l[k].store,ws⟩ m1 rfl ⟨_,_,F1,Fw,rfl,rfl,m.keep0 rvers_ok r1,hw⟩;rw[<- HV hk] at r;exact ⟨b,i,h2,F',ha,hbF,e2,r,m2,fr⟩
theorem XH {k:Nat} (hs:RNodes false h [.sl 2 a l.length c] l F) (hk:k<l.length) (hnd:F.Nodup) (hlo:∀ b∈F,lo<=b) (hl:lo<=h.length) (hn:l.length<=1048576) :
  ∃ a' c' h' F',(∀ {T:Type} (K:V->Heap->Option T),(AL a l.length c none (some (Iv (k:Nat))) none λa_0 n_1 c_2=>Aw 2 (h ++ [.rows 2 47 false []]) (.sl 2 a_0 n_1 c_2) λx_3=>Dk lo 47 2 48 (.sl 2 (some ((List.length h),0)) 0 (some 0)) x_3 (h ++ [.rows 2 47 false []]) λv_4 h_5=>eS 2 (v_4) λa_6 n_7 c_8 =>
    AL a l.length c (some (Iv ((k+1:Nat):Int))) none none λa_9 n_10 c_11=>Aw 2 h_5 (.sl 2 a_9 n_10 c_11) λx_12=>Dk lo 47 2 48 (.sl 2 a_6 n_7 c_8) x_12 h_5 K)=K (.sl 2 a' (l.eraseIdx k).length c') h') /\
   RNodes false h' [.sl 2 a' (l.eraseIdx k).length c'] (l.eraseIdx k) F'/\Mv h F h' F':=by
 have hbd:=rnodes_ok.bd _ _ _ _ hs;obtain ⟨Fs,nF,sF,own,cuts⟩:=Sli.parts hs hnd;obtain ⟨rP,_,eP,_,kP,_⟩:=cuts k (by omega);obtain ⟨_,rQ,_,eQ,_,kQ⟩:=cuts (k+1) (by omega);obtain ⟨nP,_,dPQ⟩:=Ey (k:=k) nF;obtain ⟨_,nQ,_⟩:=Ey (k:=k+1) nF;have inP:∀ y∈(Fs.take k).flatten,y∈Fs.flatten:=λy hy=>by rw[<- zbZ k Fs,zbU];simp[hy]
 have inQ:∀ y∈(Fs.drop (k+1)).flatten,y∈(Fs.drop k).flatten:=λy hy=>by
  have:Fs.drop (k+1)=(Fs.drop k).drop 1:=by rw[zcv]
  rw[this] at hy;rw[<- zbZ 1 (Fs.drop k),zbU];exact zbl.2 (.inr hy)
 have inQ':∀ y∈(Fs.drop (k+1)).flatten,y∈Fs.flatten:=λy hy=>by rw[<- zbZ k Fs,zbU];simp[inQ y hy]
 have hFl:∀ y∈Fs.flatten,y<h.length:=λy hy=>hbd y (sF y hy);have htl:(l.take k).length=k:=by rw[zco];omega
 have hdl:(l.drop (k+1)).length=l.length - (k+1):=by rw[zcC]
 obtain ⟨a3,c3,h3,F3,e3,r3,l3,fr3,sub3,nd3⟩:=Jv (lo:=lo) (R:=2) (e:=Og false) (bytes:=48) rnode_ok eP nP (λy hy=>hFl y (inP y hy)) (by decide) (by omega) hl;have hQ3:∀ y∈(Fs.drop (k+1)).flatten,y∉F3/\y<h3.length:=λy hy=>by
  have:=hFl y (inQ' y hy);refine ⟨λhm3=>?_,by omega⟩;rcases sub3 y hm3 with g | g
  ·exact dPQ y g y (inQ y hy) rfl
  ·omega
 have F3b:∀ y∈F3,y<h3.length:=rnodes_ok.bd _ _ _ _ r3;obtain ⟨a7,c7,h7,F7,e7,r7,l7,fr7,sub7,nd7⟩:=Kw (lo:=lo) (bytes:=48) rnode_ok.fr r3 (xs:=rQ) (ys:=l.drop (k+1)) (Gs:=Fs.drop (k+1)) (eQ.fr rnode_ok.fr λy hy=>fr3 y (hFl y (inQ' y hy))) (by decide) (by rw[htl,hdl];omega) (λy hy=>by
   rcases sub3 y hy with g | g
   ·exact hlo y (sF y (inP y g))
   ·omega) (by omega) (by
   rw[zbm];refine ⟨nd3,nQ,λx hx y hy e=>?_⟩;subst e;exact (hQ3 x hy).1 hx) (λy hy=>by
   rcases zbl.1 hy with hy | hy
   ·exact F3b y hy
   ·exact (hQ3 y hy).2)
 have hel:(l.take k).length+(l.drop (k+1)).length=(l.eraseIdx k).length:=by rw[zch hk,htl,hdl];omega
 have her:l.take k++l.drop (k+1)=l.eraseIdx k:=(List.eraseIdx_eq_take_drop_succ l k).symm;rw[hel] at e7 r7;rw[her] at r7;have mm0:Mv h [] (h ++ [.rows 2 47 false []]) []:=Mv.snoc;rw[show Og false=47 from rfl] at e3 e7;refine ⟨a7,c7,h7,F7,λK=>?_,r7,⟨by omega,λy hy hyF=>?_,nd7,λy hy=>?_⟩⟩
 ·rw[kP _ (λb i e=>mm0.fr b (hbd b (own b i e).1) (by simp)),e3,Ah,kQ _ (λb i e=>fr3 b (hbd b (own b i e).1)),e7]
 ·have y3:y∉F3:=λhm3=>by
   rcases sub3 y hm3 with g | g
   ·exact hyF (sF y (inP y g))
   ·omega
  rw[fr7 y (by omega) y3,fr3 y hy]
 ·rcases sub7 y hy with g | g
  ·rcases zbl.1 g with g | g
   ·rcases sub3 y g with g | g
    ·exact .inl (sF y (inP y g))
    ·exact .inr (by omega)
   ·exact .inl (sF y (inQ' y g))
  ·exact .inr (by omega)
theorem NS {k:Nat} (hs:RNodes false h [.sl 2 a l.length c] l F) (hk:k<l.length) (h2:1<l.length) (hlast:(l[l.length - 1]'(by omega)).wait = []) (hnd:F.Nodup) (hlo:∀ b∈F,lo<=b) (hl:lo<=h.length) (hn:l.length<=1048576) (hx:∀ x∈l,FT 20 x) :
  ∃ a' c' h' F',Ae lo 256 [.agg [.sl 2 a l.length c],Iv (k:Nat)] h=some (.agg [.sl 2 a' (CA l k).length c'],h')/\RNodes false h' [.sl 2 a' (CA l k).length c'] (CA l k) F'/\Mv h F h' F':=by
 suffices hq:∃ a' c' h' F',_=some (V.agg [.sl 2 a' (CA l k).length c'],h')/\RNodes false h' [.sl 2 a' (CA l k).length c'] (CA l k) F'/\Mv h F h' F' from by obtain ⟨a',c',h',F',e,hr⟩:=hq;exact ⟨a',c',h',F',Ra e,hr⟩
 have hel:=zch hk;obtain ⟨a1,c1,h1,F1,e1,r1,m1⟩:=XH (lo:=lo) hs hk hnd hlo hl hn;have hflen:(CA l k).length=l.length - 1:=by
  unfold CA;cases decide (0<k)
  ·exact hel
  ·cases decide (k<(l.eraseIdx k).length)
   ·rw[cond_true,cond_false,Ew];exact hel
   ·rw[cond_true,cond_true,Ew];exact hel
 rw[At (by omega),e1,Ah];have hl1:lo<=h1.length:=zbj hl m1.le;have hlo1:∀ b∈F1,lo<=b:=λb hb=>m1.ge hl hlo b hb;have hn1:((l.eraseIdx k).length:Int) - 1=(((l.eraseIdx k).length - 1:Nat):Int):=by omega
 have tail:∀ (l':List Node) (hh:Heap) (F':List Nat),l'.length=(l.eraseIdx k).length->RNodes false hh [.sl 2 a1 (l.eraseIdx k).length c1] l' F'->F'.Nodup->(∀ b∈F',lo<=b)->∃ h' F'',(Aq (Ao ((((l.eraseIdx k).length:Nat):Int) - 1)) (l.eraseIdx k).length (eO a1 λo_41=>eO (st lo hh (o_41.1) ((o_41.2)+((Ao ((((l.eraseIdx k).length:Nat):Int) - (1:Int))).toNat)) 1 [.sl 0 none 0 (some 0)]) λo_42=>some (V.agg [.sl 2 a1 (l.eraseIdx k).length c1],o_42)))=some (.agg [.sl 2 a1 (l.eraseIdx k).length c1],h') /\
   RNodes false h' [.sl 2 a1 (l.eraseIdx k).length c1] (Ei l' ((l.eraseIdx k).length - 1) []) F''/\Mv hh F' h' F'':=by
  intro l' hh F' hll hr hnd' hlo';obtain ⟨b,i,h3,F3,ha,_,e3,r3,m3,_⟩:=TU (lo:=lo) (k:=(l.eraseIdx k).length - 1) (w := .sl 0 none 0 (some 0)) (ws := []) hr (by omega) hnd' hlo' Sli.nil Mv.nil;rw[wr (n:=(((l.eraseIdx k).length:Nat):Int) - 1) (by omega) (by omega),hn1,Ad (by omega),ha,Ag,Bm,e3,Ag,<- ha];exact ⟨h3,F3,rfl,r3,m3⟩
 have hlast':∀ hj:(l.eraseIdx k).length - 1<(l.eraseIdx k).length,k<(l.eraseIdx k).length->((l.eraseIdx k)[(l.eraseIdx k).length - 1]).wait = []:=λhj hkl=>by
  have:(l.eraseIdx k)[(l.eraseIdx k).length - 1]=l[l.length - 1]:=by rw[List.getElem_eraseIdx];rw[dif_neg (by omega)];congr 1;omega
  rw[this];exact hlast
 by_cases h0:0<k
 ·rw[Ak (by omega)];by_cases hkl:k<(l.eraseIdx k).length
  ·-- in between
   have hf:CA l k=Ei (l.eraseIdx k) (k - 1) (En (FO (l.eraseIdx k) (k - 1)) (FO (l.eraseIdx k) k)):=by unfold CA;rw[decide_eq_true h0,cond_true,decide_eq_true hkl,cond_true]
   have hk1:k - 1<(l.eraseIdx k).length:=by omega
   have hxm:∀ x∈l.eraseIdx k,FT 20 x:=λx hx'=>hx x (zcz hx');obtain ⟨o,s1,s2,b1,d1,b2,d2,H1,H2,ha,_,ho1,_,q1,_,p1,_⟩:=r1.get hk1;obtain ⟨o',s1',s2',b1',d1',b2',d2',H1',H2',ha',_,ho1',_,q1',_,p1',_⟩:=r1.get hkl;have ho:o=o':=by rw[ha] at ha';injection ha'
   subst ho;have n1:=hxm _ (zbk hk1);have n2:=hxm _ (zbk hkl);obtain ⟨a4,c4,h4,F4,e4,r4,m4⟩:=TQ (lo:=lo) p1 p1' n1.1 n2.1 (λv hv=>by have:=(n1.2.2.1 v hv).1;omega) hl1;obtain ⟨b,i,h5,F5,hb,_,e5,r5,m5,_⟩:=TU (lo:=lo) (k:=k - 1) (w := .sl 6 a4 (En (l.eraseIdx k)[k - 1].store (l.eraseIdx k)[k].store).length c4) r1 hk1 m1.nd hlo1 r4 m4;obtain ⟨h6,F6,e6,r6,m6⟩:=tail _ h5 F5 Ew r5 m5.nd (λb hb=>m5.ge hl1 hlo1 b hb);have hkk:((k:Nat):Int) - 1=((k - 1:Nat):Int):=by omega
   have hoe:o=(b,i):=by rw[ha] at hb;injection hb
   subst hoe;rw[Ak (by omega),wr (n:=((k:Nat):Int) - 1) (by omega) (by omega),hkk,Ad hk1,ha,Ag,Bm,ho1,Ag,Ab,q1,Af,Ad hkl,Ag,Bm,ho1',Ag,Ab,q1',Af,e4,Ac,Ah,Ad hk1,Ag,e5,Ag,<- ha,e6];have hsame:Ei (Ei (l.eraseIdx k) (k - 1) (En (l.eraseIdx k)[k - 1].store (l.eraseIdx k)[k].store)) ((l.eraseIdx k).length - 1) []=CA l k:=by
    rw[hf,EK hk1,EK hkl];have hj:(l.eraseIdx k).length - 1<(Ei (l.eraseIdx k) (k - 1) (En (l.eraseIdx k)[k - 1].store (l.eraseIdx k)[k].store)).length:=by rw[Ew];omega
    refine NL hj ?_;have hg:=HV (w:=En (l.eraseIdx k)[k - 1].store (l.eraseIdx k)[k].store) hk1;rw[List.getElem_of_eq hg,List.getElem_set_ne (by omega)];exact hlast' (by omega) hkl
   rw[hsame] at r6;refine ⟨a1,c1,h6,F6,by rw[hflen,hel],by rw[hflen,<- hel];exact r6,(m1.trans m5).trans m6⟩
  ·-- the tail fell
   have hf:CA l k=Ei (l.eraseIdx k) (k - 1) []:=by unfold CA;rw[decide_eq_true h0,cond_true,decide_eq_false hkl,cond_false]
   have hkk:(l.eraseIdx k).length - 1=k - 1:=by omega
   obtain ⟨h6,F6,e6,r6,m6⟩:=tail _ h1 F1 rfl r1 m1.nd hlo1;rw[Aj (by omega),e6];rw[hkk,<- hf] at r6;exact ⟨a1,c1,h6,F6,by rw[hflen,hel],by rw[hflen,<- hel];exact r6,m1.trans m6⟩
 ·have hf:CA l k=l.eraseIdx k:=by unfold CA;rw[decide_eq_false h0,cond_false]
  obtain ⟨h6,F6,e6,r6,m6⟩:=tail _ h1 F1 rfl r1 m1.nd hlo1;rw[Aj (by omega),e6];rw[NL (by omega) (hlast' (by omega) (by omega)),<- hf] at r6;exact ⟨a1,c1,h6,F6,by rw[hflen,hel],r6,m1.trans m6⟩
end


def Hi (x:Ver×Ver):Option Ver:=bif A7 x.2 x.1 then some x.1 else none
theorem lack_sort:∀ {z:List (Ver×Ver)}{acc:List Ver},z.foldl FX acc=(z.filterMap Hi).foldl (λacc v=>GR v acc) acc
 | [],acc=>rfl
 | x :: z,acc=>by
  rw[zb3,lack_sort (z:=z)];unfold FX;cases hx:A7 x.2 x.1 with
  | true =>
   have:Hi x=some x.1:=by unfold Hi;rw[hx];rfl
   rw[List.filterMap_cons,this];rfl
  | false =>
   have:Hi x=none:=by unfold Hi;rw[hx];rfl
   rw[List.filterMap_cons,this];rfl
def PK (s t:List Ver):List Ver:=(s.zip t).filterMap Hi
theorem VE {s t:List Ver}:zaT (PK s t)=En s t:=lack_sort.symm
theorem KR {u v:Ver} (hu:A6 u.tag.time u.tag.place=true) (hv:v.tag.time=0/\v.tag.place=0):A7 u v=false:=by rw[Xr];simp[A6,An] at hu;omega
theorem Ta {i:Nat}{v:Ver} (h:Ho i v=true):A6 v.tag.time v.tag.place=true:=(Sp h).2.2
theorem VD {s t:List Ver} (hs:AU s=true) (ht:AU t=true):(PK s t).Pairwise λp u=>p.key<u.key:=by
 unfold PK;rw[List.pairwise_filterMap,List.pairwise_iff_getElem];intro i j hi hj hij b hb b' hb';have hi':i<s.length/\i<t.length:=by rw[List.length_zip] at hi;omega
 have hj':j<s.length/\j<t.length:=by rw[List.length_zip] at hj;omega
 rw[zcU] at hb hb';have key:∀ q (hq:q<s.length) (hq':q<t.length) x,Hi (s[q],t[q])=some x->x.key=(q:Int):=λq hq hq' x hx=>by
  unfold Hi at hx;simp only at hx;cases hl:A7 t[q] s[q] with
  | false=>rw[hl] at hx;cases hx
  | true =>
   rw[hl] at hx;injection hx with hx;subst hx;rcases Dl (Df hs hq) with g | g
   ·have:=KR (Ta (Df ht hq')) (EJ g);rw[hl] at this;cases this
   ·exact g.2
 have e1:=key i hi'.1 hi'.2 b (by simpa using hb);have e2:=key j hj'.1 hj'.2 b' (by simpa using hb');omega
section
variable {lo:Nat}{h:Heap}{F F' G:List Nat}{a a' av:Pq}{c c' cv:Nq}
theorem Mv.cons {h h':Heap}{F F':List Nat}{b:Nat} (m:Mv h F h' F') (hb:b<h.length) (hbF:b∉F) (hnd:F.Nodup):Mv h (b :: F) h' (b :: F') :=
 (m.aside (G := [b]) (by rw[zbm];exact ⟨hnd,by simp,λx hx y hy e=>by rw[zbr] at hy;subst hy;subst e;exact hbF hx⟩) (by simpa using hb)).swap
def Jb (l:List Node) (k:Int):Bool:=An k 0 ((l.length:Int) - 1)&&decide (1<l.length)
end


variable {l:List Node}{p:Place}
def Sc (p:Place) (k:Nat):Place:=⟨p.me,p.clock,CA p.chain k,p.log,p.got,true⟩
def Ep (p:Place) (k:Int):Bool := !p.fell&&Jb p.chain k
def E9 (p:Place) (k:Int):Place:=bif Ep p k then BE (Sc p k.toNat) else p
theorem Nb {s t:List Ver}{v:Ver} (h:v∈En s t):v∈s:=by
 have key:∀ (z:List (Ver×Ver)) (acc:List Ver),v∈z.foldl FX acc->v∈acc\/∃ x∈z,x.1=v:=by
  intro z;induction z with
  | nil=>intro acc h;exact .inl h
  | cons x z ih =>
   intro acc h;rw[zb3] at h;rcases ih _ h with g | ⟨y,hy,e⟩
   ·unfold FX at g;cases hl:A7 x.2 x.1 with
    | false=>rw[hl] at g;exact .inl g
    | true =>
     rw[hl,cond_true] at g;rcases insF_mem.1 g with rfl | g
     ·exact .inr ⟨x,by simp,rfl⟩
     ·exact .inl g
   ·exact .inr ⟨y,by simp[hy],e⟩
 rcases key _ _ h with g | ⟨x,hx,rfl⟩
 ·simp at g
 ·exact (List.of_mem_zip hx).1
theorem RR {s t:List Ver} (hs:s.length=4):(En s t).length<=4:=by
 have key:∀ (z:List (Ver×Ver)) (acc:List Ver),(z.foldl FX acc).length<=acc.length+z.length:=by
  intro z;induction z with
  | nil=>intro acc;simp
  | cons x z ih =>
   intro acc;rw[zb3];have:=ih (FX acc x);have h2:(FX acc x).length<=acc.length+1:=by
    unfold FX;cases A7 x.2 x.1
    ·simp
    ·rw[cond_true,L8];exact zbo _
   rw[zb7];omega
 have:=key (s.zip t) [];rw[List.length_zip] at this;simp only[zcx] at this;unfold En;omega
theorem MP {nw k:Nat}{w:List Ver} (h:∀ x∈l,FT nw x) (hw:w.length<=nw) (hv:∀ v∈w,thin v):∀ x∈Ei l k w,FT nw x:=λx hx=>by
 unfold Ei at hx;split at hx
 ·rename_i y hy
  rcases zbI hx with hx | rfl
  ·exact h x hx
  ·obtain ⟨g1,_,g3,_⟩:=h y (zbF hy);exact ⟨g1,hw,g3,hv⟩
 ·exact h x hx
theorem YK {nw k:Nat} (h:∀ x∈l,FT nw x) (hnw:4<=nw):(CA l k).length<=l.length/\∀ x∈CA l k,FT nw x:=by
 have h':∀ x∈l.eraseIdx k,FT nw x:=λx hx=>h x (zcz hx);have hle:(l.eraseIdx k).length<=l.length:=zcP _ _;unfold CA;cases decide (0<k) with
 | false=>exact ⟨hle,h'⟩
 | true =>
  rw[cond_true];cases decide (k<(l.eraseIdx k).length) with
  | false=>exact ⟨by rw[cond_false,Ew];exact hle,MP h' (zbN _) (by simp)⟩
  | true =>
   rw[cond_true,Ew];refine ⟨hle,?_⟩;unfold FO;split
   ·rename_i y hy
    have hyn:=h' y (zbF hy);exact MP h' (zbj (RR hyn.1) hnw) (λv hv=>hyn.2.2.1 v (Nb hv))
   ·refine MP h' ?_ (λv hv=>?_)
    ·rw[show ∀ t,En [] t = [] from λt=>by simp[En]];exact zbN _
    ·have:=Nb hv;simp at this
theorem W3 {nc nl k:Nat} (h:Tidy nc 6 nl p):Tidy nc 6 nl (Sc p k):=by obtain ⟨h1,h2⟩:=YK (k:=k) h.node (by decide);exact ⟨zbj h1 h.len,h2,h.log,h.got⟩
theorem KA {k:Nat} (hk:k<l.length) (h1:1<l.length):(CA l k).length=l.length - 1:=by
 have hel:=zch hk;unfold CA;cases decide (0<k)
 ·exact hel
 ·cases decide (k<(l.eraseIdx k).length)
  ·rw[cond_true,cond_false,Ew];exact hel
  ·rw[cond_true,cond_true,Ew];exact hel
theorem RQ (h:Cs l=true) (h0:0<l.length):(l[l.length - 1]'(by omega)).wait = []:=by have:=Mr h (show l.length - 1<l.length by omega);unfold EV at this;rw[zbR (by omega)] at this;simp only[decide_eq_true_eq] at this;exact zbu this
section
variable {lo:Nat}{ro:Bool}{h:Heap}{F F':List Nat}{a a':Pq}{c c':Nq}
theorem Pi {k:Int}{a1 a2 a3:Pq}{c1 c2 c3:Nq} (hn:p.chain.length<=1048576):Ae lo 255 [.agg (p.cs a1 c1 a2 c2 a3 c3),Iv k] h=some (.bool (Ep p k),h):=by
 refine Nz (h':=h) ?_;unfold Ep Jb;cases p.fell with
 | true=>simp only[zb5,Ay,zcD]
 | false =>
  simp only[zcs,Ap,zbK];by_cases h1:1<p.chain.length
  ·rw[Ak (by omega),wr (by omega) (by omega),Bp,Ac,Az,decide_eq_true h1,zcj];exact JC
  ·rw[Aj (by omega),decide_eq_false h1,zcE]
end


variable {u v:Ver}{t r s:List Ver}{k i:Nat}{x z:Node}
theorem Oa {w:Ver} (h1:A7 u v=true) (h2:A7 v w=true):A7 u w=true:=by rw[IZ] at *;omega
def upS (t s:List Ver):Prop:=∀ (i:Nat) (x y:Ver),t[i]?=some x->s[i]?=some y->x=y\/A7 x y=true
theorem upS.refl:upS t t:=λi x y hx hy => .inl (by rw[hx] at hy;injection hy)
theorem upS.trans (h1:upS r s) (h2:upS s t) (hl:t.length<=s.length):upS r t:=λi x z hx hz=>by
 have hi:=(Gz hz).1;have hy:=Dx (l:=s) (i:=i) (by omega);rcases h1 i x _ hx hy with rfl | h3
 ·exact h2 i _ z hy hz
 ·rcases h2 i _ z hy hz with h4 | h4
  ·exact .inr (h4 ▸ h3)
  ·exact .inr (Oa h3 h4)
theorem upS.set {t:List Ver}{k:Nat}{u v:Ver} (hu:t[k]?=some u) (hl:A7 u v=true):upS t (t.set k v):=λi x y hx hy=>by
 rw[List.getElem?_set] at hy;by_cases hi:k=i
 ·subst hi;rw[if_pos rfl,if_pos (Gz hu).1] at hy;injection hy with hy;rw[hu] at hx;injection hx with hx;exact .inr (by rw[<- hx,<- hy];exact hl)
 ·rw[if_neg hi,hx] at hy;injection hy with hy;exact .inl hy
theorem fitsL_cons:DB t (v :: r)=some s<->∃ x,t[v.key.toNat]?=some x/\A7 x v=true/\DB (t.set v.key.toNat v) r=some s:=by
 simp only[DB];cases hx:t[v.key.toNat]? with
 | none=>simp
 | some x=>cases hl:A7 x v<;>simp[hl]
theorem PZ:∀ {ws t s:List Ver}{v x:Ver},DB t ws=some s->s[v.key.toNat]?=some x->A7 x v=true->DB t (ws ++ [v])=some (s.set v.key.toNat v)
 | [],t,s,v,x,h,hx,hl=>by simp only[DB,Option.some.injEq] at h;subst h;exact fitsL_cons.2 ⟨x,hx,hl,rfl⟩
 | w :: r,t,s,v,x,h,hx,hl=>by obtain ⟨y,h1,h2,h3⟩:=fitsL_cons.1 h;exact fitsL_cons.2 ⟨y,h1,h2,PZ h3 hx hl⟩
theorem Ux:∀ {ws t s:List Ver},DB t ws=some s->upS t s
 | [],t,s,h=>by simp only[DB,Option.some.injEq] at h;subst h;exact upS.refl
 | v :: r,t,s,h=>by
  obtain ⟨y,h1,h2,h3⟩:=fitsL_cons.1 h;have h4:=Ux h3;refine λi x z hx hz=>?_;by_cases hi:v.key.toNat=i
  ·subst hi;rw[h1] at hx;injection hx with hx;subst hx;have hlt:=(Gz h1).1;rcases h4 _ v z (by simp[hlt]) hz with rfl | h5
   ·exact .inr h2
   ·exact .inr (Oa h2 h5)
  ·exact h4 i x z (by rw[zbq hi];exact hx) hz
theorem Sa:∀ {ws t s:List Ver},DB t ws=some s->∀ v∈s,v∈ws\/v∈t
 | [],t,s,h=>by simp only[DB,Option.some.injEq] at h;subst h;exact λv hv => .inr hv
 | w :: r,t,s,h=>λv hv=>by
  obtain ⟨y,h1,h2,h3⟩:=fitsL_cons.1 h;rcases Sa h3 v hv with g | g
  ·exact .inl (by simp[g])
  ·rcases zbI g with g | rfl
   ·exact .inr g
   ·exact .inl (by simp)
theorem Uy:∀ {ws t s:List Ver},s.length=t.length->ws.Pairwise (λp u=>p.key≠u.key)->(∀ v∈ws,0<=v.key/\s[v.key.toNat]?=some v/\∃ x,t[v.key.toNat]?=some x/\A7 x v=true) ->
  (∀ (i:Nat) (x y:Ver),t[i]?=some x->s[i]?=some y->x=y\/(y∈ws/\y.key.toNat=i))->DB t ws=some s
 | [],t,s,hl,_,_,h=>by
  simp only[DB,Option.some.injEq];apply List.ext_getElem?;intro i;by_cases hi:i<t.length
  ·have h1:=Dx hi;have h2:=Dx (l:=s) (i:=i) (by omega);rcases h i _ _ h1 h2 with g | g
   ·rw[h1,h2,g]
   ·exact absurd g.1 (by simp)
  ·rw[zbR (by omega),zbR (by omega)]
 | v :: r,t,s,hl,hp,hw,h=>by
  rw[List.pairwise_cons] at hp;obtain ⟨h0,h1,x,h2,h3⟩:=hw v (by simp);refine fitsL_cons.2 ⟨x,h2,h3,Uy (by simpa using hl) hp.2 (λu hu=>?_) (λi a b ha hb=>?_)⟩
  ·obtain ⟨g0,g1,y,g2,g3⟩:=hw u (by simp[hu]);have:=hp.1 u hu;exact ⟨g0,g1,y,by rw[zbq (by omega)];exact g2,g3⟩
  ·by_cases hi:v.key.toNat=i
   ·subst hi;have hlt:=(Gz h2).1;rw[zbA hlt] at ha;injection ha with ha;rw[h1] at hb;injection hb with hb;exact .inl (ha.symm.trans hb)
   ·rw[zbq hi] at ha;rcases h i a b ha hb with g | ⟨g1,g2⟩
    ·exact .inl g
    ·rcases zbx.1 g1 with rfl | g1
     ·exact absurd g2 hi
     ·exact .inr ⟨g1,g2⟩
theorem RV {v:Ver}:∀ {l:List Ver},(GR v l).Perm (v :: l)
 | [] => .refl _
 | u :: r=>by
  simp only[GR];cases A7 u v with
  | false=>exact .refl _
  | true=>exact (List.Perm.cons u RV).trans (List.Perm.swap v u r)
theorem RC:∀ {l acc:List Ver},(l.foldl (λacc v=>GR v acc) acc).Perm (l++acc)
 | [],acc => .refl _
 | v :: l,acc=>by rw[zb3];exact ((RC (l:=l)).trans (List.Perm.append_left l RV)).trans List.perm_middle
theorem lackU_mem:v∈PK s t<->∃ (i:Nat) (u:Ver),s[i]?=some v/\t[i]?=some u/\A7 u v=true:=by
 unfold PK;rw[List.mem_filterMap];constructor
 ·rintro ⟨⟨x,y⟩,hm,hx⟩
  obtain ⟨i,hi⟩:=zbC.1 hm;rw[zcZ] at hi;unfold Hi at hx;simp only at hx;cases hl:A7 y x with
  | false=>rw[hl] at hx;cases hx
  | true =>rw[hl] at hx;injection hx with hx;subst hx;exact ⟨i,y,hi.1,hi.2,hl⟩
 ·rintro ⟨i,u,h1,h2,h3⟩
  refine ⟨(v,u),zbC.2 ⟨i,zcZ.2 ⟨h1,h2⟩⟩,?_⟩;unfold Hi;simp only[h3,cond_true]
theorem HY (hs:AU s=true) {x:Ver} (hx:s[i]?=some x):Ho i x=true:=by obtain ⟨hi,rfl⟩:=Gz hx;exact Df hs hi
theorem JV (hs:AU s=true) (ht:AU t=true) {x:Ver} (hx:s[i]?=some x) (hu:t[i]?=some u) (hl:A7 u x=true):Ba x=true/\x.key=(i:Int):=by
 rcases Dl (HY hs hx) with g | g
 ·have:=KR (Ta (HY ht hu)) (EJ g);rw[hl] at this;cases this
 ·exact g
theorem lackL_perm:(En s t).Perm (PK s t):=by rw[<- VE];have h:=RC (l:=PK s t) (acc := []);rw[zcf] at h;exact h
theorem Yt (hs:AU s=true) (ht:AU t=true):∀ v∈En s t,Ba v=true:=λv hv=>by obtain ⟨i,u,h1,h2,h3⟩:=lackU_mem.1 (lackL_perm.mem_iff.1 hv);exact (JV hs ht h1 h2 h3).1
theorem Xt (hs:AU s=true) (ht:AU t=true) (hu:upS t s):DB t (En s t)=some s:=by
 refine Uy (by rw[A3 hs,A3 ht]) ?_ (λv hv=>?_) (λi x y hx hy=>?_)
 ·exact (lackL_perm.pairwise_iff λh=>h.symm).2 ((VD hs ht).imp λh=>by omega)
 ·obtain ⟨i,u,h1,h2,h3⟩:=lackU_mem.1 (lackL_perm.mem_iff.1 hv);have hk:=(JV hs ht h1 h2 h3).2;have e:v.key.toNat=i:=by omega
  rw[e];exact ⟨by omega,h1,u,h2,h3⟩
 ·rcases hu i x y hx hy with h | h
  ·exact .inl h
  ·exact .inr ⟨lackL_perm.mem_iff.2 (lackU_mem.2 ⟨i,x,hy,hx,h⟩),by have:=(JV hs ht hy hx h).2;omega⟩
structure Ch (l:List Node):Prop where
 pos:1<=l.length
 le:l.length<=4
 node:∀ (i:Nat) (x:Node),l[i]?=some x->BY x=true
 link:∀ (i:Nat) (x y:Node),l[i]?=some x->l[i+1]?=some y->DB y.store x.wait=some x.store
 last:∀ (i:Nat) (x:Node),l[i]?=some x->i+1=l.length->x.wait = []
theorem fits_iff:fits x s=true<->DB s x.wait=some x.store:=by
 unfold fits;cases h:DB s x.wait with
 | none=>simp
 | some r=>simp[sameVers_iff]
theorem chain_iff {l:List Node}:Cs l=true<->Ch l:=by
 unfold Cs;simp only[DH];rw[EG (p:=EV l),Tb (p:=BY)];constructor
 ·rintro ⟨⟨h1,h2⟩,h3⟩
  simp only[An,DH,decide_eq_true_eq] at h1;refine ⟨by omega,by omega,λi x hx=>?_,λi x y hx hy=>?_,λi x hx hi=>?_⟩
  ·obtain ⟨hi,rfl⟩:=Gz hx;exact h2 i hi
  ·obtain ⟨hi,rfl⟩:=Gz hx;have:=h3 i hi;unfold EV at this;rw[hy] at this;exact fits_iff.1 this
  ·obtain ⟨hj,rfl⟩:=Gz hx;have:=h3 i hj;unfold EV at this;rw[zbR (by omega)] at this;exact zbu (by simpa using this)
 ·rintro ⟨h1,h2,h3,h4,h5⟩
  refine ⟨⟨by simp[An];omega,λi hi=>h3 i _ (Dx hi)⟩,λi hi=>?_⟩;unfold EV;cases hy:l[i+1]? with
  | some y=>exact fits_iff.2 (h4 i _ y (Dx hi) hy)
  | none =>have:=List.getElem?_eq_none_iff.1 hy;simp[h5 i _ (Dx hi) (by omega)]
section
variable {l:List Node}
theorem Ch.store (h:Ch l) {i:Nat}{x:Node} (hx:l[i]?=some x):AU x.store=true/\x.store.length=4:=by have:=(AH (h.node i x hx)).1;exact ⟨this,A3 this⟩
theorem Ch.up (h:Ch l):∀ (d i:Nat) (x y:Node),l[i]?=some x->l[i+d]?=some y->upS y.store x.store
 | 0,i,x,y,hx,hy=>by rw[zb8,hx] at hy;injection hy with hy;subst hy;exact upS.refl
 | d+1,i,x,y,hx,hy=>by have hlt:=(Gz hy).1;have hz:=Dx (l:=l) (i:=i+d) (by omega);have h1:=h.up d i x _ hx hz;have h2:=Ux (h.link (i+d) _ y hz hy);exact h2.trans h1 (by rw[(h.store hx).2,(h.store hz).2];exact zbo _)
theorem Ch.join (h:Ch l) (hl:l.length<4):Ch (Ih l):=by
 have hp:=h.pos;rw[GP (by omega)];have hz:l[l.length - 1]?=some (l[l.length - 1]'(by omega)):=Dx (by omega);have hns:=(h.store hz).1;have hn:BY ⟨(l[l.length - 1]'(by omega)).store,[]⟩=true:=by unfold BY;rw[hns];rfl
 have get:∀ i x,(l ++ [(⟨(l[l.length - 1]'(by omega)).store,[]⟩:Node)])[i]?=some x->(i<l.length/\l[i]?=some x)\/(i=l.length/\x=⟨(l[l.length - 1]'(by omega)).store,[]⟩):=λi x hx=>by
  by_cases hi:i<l.length
  ·rw[zbn hi] at hx;exact .inl ⟨hi,hx⟩
  ·rw[zbG (by omega)] at hx;have:=(Gz hx).1;simp only[zbE] at this;have e:i=l.length:=by omega
   subst e;rw[Nat.sub_self] at hx;injection hx with hx;exact .inr ⟨rfl,hx.symm⟩
 refine ⟨by simp,by simp;omega,λi x hx=>?_,λi x y hx hy=>?_,λi x hx hi=>?_⟩
 ·rcases get i x hx with ⟨_,g⟩ | ⟨_,rfl⟩
  ·exact h.node i x g
  ·exact hn
 ·rcases get (i+1) y hy with ⟨g1,g2⟩ | ⟨g1,rfl⟩
  ·rcases get i x hx with ⟨_,g⟩ | ⟨g,_⟩
   ·exact h.link i x y g g2
   ·omega
  ·rcases get i x hx with ⟨_,g⟩ | ⟨g,_⟩
   ·have e:i=l.length - 1:=by omega
    rw[h.last i x g g1];subst e;rw[hz] at g;injection g with g;subst g;rfl
   ·omega
 ·simp only[zbw,zbE] at hi;rcases get i x hx with ⟨g,_⟩ | ⟨_,rfl⟩
  ·omega
  ·rfl
theorem I7 (hk:k<l.length) (i:Nat):(CA l k)[i]?=if i+1=k then (l[i]?).map (λx=>(⟨x.store,match l[k+1]? with | some y=>En x.store y.store | none => []⟩:Node)) else if i<k then l[i]? else l[i+1]?:=by
 have hel:=zch hk;unfold CA;by_cases h0:0<k
 ·rw[decide_eq_true h0,cond_true];have hk1:k - 1<(l.eraseIdx k).length:=by omega
  have e1:(l.eraseIdx k)[k - 1]=l[k - 1]:=by rw[List.getElem_eraseIdx,dif_pos (by omega)]
  have out:∀ w,i+1≠k->(Ei (l.eraseIdx k) (k - 1) w)[i]?=if i+1=k then (l[i]?).map (λx=>(⟨x.store,match l[k+1]? with | some y=>En x.store y.store | none => []⟩:Node)) else if i<k then l[i]? else l[i+1]?:=λw hi=>by rw[HV hk1,zbq (by omega),List.getElem?_eraseIdx,if_neg hi]
  have at1:∀ w,i+1=k->(Ei (l.eraseIdx k) (k - 1) w)[i]?=some ⟨l[k - 1].store,w⟩:=λw hi=>by
   have e:k - 1=i:=by omega
   rw[HV hk1,e1,<- e,zbA hk1]
  have hl1:l[k - 1]?=some l[k - 1]:=Dx (by omega);by_cases hkl:k<(l.eraseIdx k).length
  ·rw[decide_eq_true hkl,cond_true];by_cases hi:i+1=k
   ·have e:i=k - 1:=by omega
    have hy:l[k+1]?=some (l[k+1]'(by omega)):=Dx (by omega);have e2:(l.eraseIdx k)[k]=l[k+1]'(by omega):=by rw[List.getElem_eraseIdx,dif_neg (by omega)]
    rw[at1 _ hi,if_pos hi,e,hl1,hy,EK hk1,EK hkl,e1,e2];rfl
   ·exact out _ hi
  ·rw[decide_eq_false hkl,cond_false];by_cases hi:i+1=k
   ·have e:i=k - 1:=by omega
    have hy:l[k+1]?=none:=zbR (by omega);rw[at1 _ hi,if_pos hi,e,hl1,hy];rfl
   ·exact out _ hi
 ·rw[decide_eq_false h0,cond_false,if_neg (by omega),List.getElem?_eraseIdx]
theorem Ch.fall (h:Ch l) (hk:k<l.length) (h2:1<l.length):Ch (CA l k):=by
 have hle:=h.le;have hlen:=KA hk h2;have hnw:∀ i x,l[i]?=some x->i+1=k->BY ⟨x.store,match l[k+1]? with | some y=>En x.store y.store | none => []⟩=true:=λi x hx hi=>by
  have hs:=h.store hx;cases hy:l[k+1]? with
  | none=>unfold BY;rw[hs.1];rfl
  | some y =>have ht:=h.store hy;have h4:=RR (s:=x.store) (t:=y.store) hs.2;unfold BY;simp only;rw[hs.1,decide_eq_true (by omega),zbK,zbK,zby];exact Yt hs.1 ht.1
 refine ⟨by omega,by omega,λi x hx=>?_,λi x y hx hy=>?_,λi x hx hi=>?_⟩
 ·rw[I7 hk] at hx;split at hx
  ·rename_i hi
   rw[zbY] at hx;obtain ⟨z,hz,rfl⟩:=hx;exact hnw i z hz hi
  ·split at hx
   ·exact h.node i x hx
   ·exact h.node (i+1) x hx
 ·rw[I7 hk] at hx hy;by_cases hi:i+1=k
  ·rw[if_pos hi,zbY] at hx;obtain ⟨z,hz,rfl⟩:=hx;rw[if_neg (by omega),if_neg (by omega)] at hy;have e:i+1+1=k+1:=by omega
   rw[e] at hy;simp only[hy];have hup:=h.up 2 i z y hz (by rw[show i+2=k+1 by omega];exact hy);exact Xt (h.store hz).1 (h.store hy).1 hup
  ·rw[if_neg hi] at hx;by_cases hik:i<k
   ·rw[if_pos hik] at hx;by_cases hi2:i+1+1=k
    ·rw[if_pos hi2,zbY] at hy;obtain ⟨z,hz,rfl⟩:=hy;exact h.link i x z hx hz
    ·rw[if_neg hi2,if_pos (by omega)] at hy;exact h.link i x y hx hy
   ·rw[if_neg hik] at hx;rw[if_neg (by omega),if_neg (by omega)] at hy;exact h.link (i+1) x y hx hy
 ·rw[hlen] at hi;rw[I7 hk] at hx;split at hx
  ·rename_i hi2
   rw[zbY] at hx;obtain ⟨z,hz,rfl⟩:=hx;rw[zbR (by omega)]
  ·split at hx
   ·omega
   ·exact h.last (i+1) x hx (by omega)
theorem Ch.key (h:Ch l) (hz:l[i]?=some z) (hv:Ba v=true):∃ u,z.store[v.key.toNat]?=some u:=by have:=(AT hv).1;have h4:=(h.store hz).2;exact ⟨_,Dx (by omega)⟩
theorem Iq {j:Nat} (hz:l[j]?=some z) (hu:z.store[v.key.toNat]?=some u):Fp l j v=bif A7 u v then l.set j ⟨z.store.set v.key.toNat v,bif decide (j+1<l.length) then z.wait ++ [v] else z.wait⟩ else l:=by unfold Fp;rw[hz];simp only[hu]
theorem Zh {j:Nat} (hp:1<=l.length) (hle:l.length<=4) (hno:∀ (i:Nat) (x:Node),l[i]?=some x->BY x=true)
  (hli:∀ (i:Nat) (x y:Node),l[i]?=some x->l[i+1]?=some y->i+1≠j->DB y.store x.wait=some x.store) (hla:∀ (i:Nat) (x:Node),l[i]?=some x->i+1=l.length->x.wait = [])
  (hz:l[j]?=some z) (hv:Ba v=true) (hr:z.wait.length<6) (hu:z.store[v.key.toNat]?=some u) (hl:A7 u v=true)
  (hpr:∀ (i:Nat) (x:Node),l[i]?=some x->i+1=j->DB (z.store.set v.key.toNat v) x.wait=some x.store):Ch (Fp l j v):=by
 have hj:=(Gz hz).1;obtain ⟨n1,n2,n3⟩:=AH (hno j z hz);rw[Iq hz hu,hl,cond_true];have hnz:BY ⟨z.store.set v.key.toNat v,bif decide (j+1<l.length) then z.wait ++ [v] else z.wait⟩=true:=by
  unfold BY;simp only;rw[It n1 hv];cases decide (j+1<l.length) with
  | false =>rw[cond_false,decide_eq_true (by omega),zbK,zbK,zby];exact n3
  | true =>
   rw[cond_true,decide_eq_true (by simp;omega),zbK,zbK,zby];intro w hw;rcases zbl.1 hw with g | g
   ·exact n3 w g
   ·rw[zbr] at g;subst g;exact hv
 refine ⟨by simpa using hp,by simpa using hle,λi x hx=>?_,λi x y hx hy=>?_,λi x hx hi=>?_⟩
 ·by_cases hij:j=i
  ·subst hij;rw[zbA hj] at hx;injection hx with hx;subst hx;exact hnz
  ·rw[zbq hij] at hx;exact hno i x hx
 ·by_cases hij:j=i
  ·subst hij;rw[zbA hj] at hx;rw[zbq (by omega)] at hy;have hlt:=(Gz hy).1;injection hx with hx;subst hx;simp only[decide_eq_true hlt,cond_true];exact PZ (hli j z y hz hy (by omega)) hu hl
  ·rw[zbq hij] at hx;by_cases hij2:j=i+1
   ·subst hij2;rw[zbA hj] at hy;injection hy with hy;subst hy;exact hpr i x hx rfl
   ·rw[zbq hij2] at hy;exact hli i x y hx hy (λe=>hij2 e.symm)
 ·rw[zbL] at hi;by_cases hij:j=i
  ·subst hij;rw[zbA hj] at hx;injection hx with hx;subst hx;rw[decide_eq_false (by omega),cond_false];exact hla j z hz hi
  ·rw[zbq hij] at hx;exact hla i x hx hi
theorem Ch.add (h:Ch l) (hv:Ba v=true) (hr:DG l 0=true):Ch (Fp l 0 v):=by
 have hp:=h.pos;have hz:l[0]?=some (l[0]'(by omega)):=Dx (by omega);rw[H0 (by omega),decide_eq_true_eq] at hr;obtain ⟨u,hu⟩:=h.key hz hv;cases hl:A7 u v with
 | false=>rw[Iq hz hu,hl,cond_false];exact h
 | true=>exact Zh hp h.le h.node (λi x y hx hy _=>h.link i x y hx hy) h.last hz hv hr hu hl (λi x _ e=>by omega)
theorem H8 {k:Int} (hc:De l k=true):∃ (f:Nat) (x y:Node) (v:Ver) (r:List Ver),k=(f:Int)/\l[f]?=some x/\l[f+1]?=some y/\x.wait=v :: r/\y.wait.length<6:=by
 simp only[De,An,DH,decide_eq_true_eq] at hc;obtain ⟨⟨h1,h2⟩,h3⟩:=hc;have hf:k.toNat+1<l.length:=by omega
 rw[Ld (by omega),DH,decide_eq_true_eq,H0 hf,decide_eq_true_eq] at h3;refine ⟨k.toNat,l[k.toNat],l[k.toNat+1],?_⟩;cases hw:l[k.toNat].wait with
 | nil=>rw[hw] at h3;simp at h3
 | cons v r=>exact ⟨v,r,by omega,Dx (by omega),Dx hf,rfl,h3.2⟩
theorem LX {f:Nat} (hx:l[f]?=some x) (hw:x.wait=v :: r):HH l f=Fp (l.set f ⟨x.store,r⟩) (f+1) v:=by unfold HH Im;rw[hx];simp only[hw,List.getElem?_cons_zero,List.eraseIdx_cons_zero]
theorem Ch.pass (h:Ch l) {k:Int} (hc:De l k=true):Ch (HH l k.toNat):=by
 obtain ⟨f,x,y,v,r,rfl,hx,hy,hw,hr⟩:=H8 hc;have hf:=(Gz hx).1;have hf1:=(Gz hy).1;obtain ⟨n1,n2,n3⟩:=AH (h.node f x hx);have hlk:=h.link f x y hx hy;rw[hw] at hlk n2 n3;obtain ⟨u,hu,hl,hlk⟩:=fitsL_cons.1 hlk;rw[Bm,LX hx hw];have hv:=n3 v (by simp);have get:∀ (i:Nat) (z:Node),(l.set f ⟨x.store,r⟩)[i]?=some z->(i=f/\z=⟨x.store,r⟩)\/(i≠f/\l[i]?=some z):=λi z hz=>by
  by_cases hi:f=i
  ·subst hi;rw[zbA hf] at hz;injection hz with hz;exact .inl ⟨rfl,hz.symm⟩
  ·rw[zbq hi] at hz;exact .inr ⟨λe=>hi e.symm,hz⟩
 refine Zh (z:=y) (u:=u) (by simpa using h.pos) (by simpa using h.le) (λi z hz=>?_) (λi z w hz hw' hne=>?_) (λi z hz hi=>?_) (by rw[zbq (by omega)];exact hy) hv hr hu hl (λi z hz hi=>?_)
 ·rcases get i z hz with ⟨_,rfl⟩ | ⟨_,g⟩
  ·unfold BY;simp only;simp only[zb7] at n2;rw[n1,decide_eq_true (by omega),zbK,zbK,zby];exact λw hw=>n3 w (by simp[hw])
  ·exact h.node i z g
 ·rcases get i z hz with ⟨rfl,_⟩ | ⟨_,g⟩
  ·exact absurd rfl hne
  ·rcases get (i+1) w hw' with ⟨e,rfl⟩ | ⟨_,g2⟩
   ·rw[e] at hw';exact h.link i z x g (by rw[e];exact hx)
   ·exact h.link i z w g g2
 ·rw[zbL] at hi;rcases get i z hz with ⟨rfl,_⟩ | ⟨_,g⟩
  ·omega
  ·exact h.last i z g hi
 ·rcases get i z hz with ⟨_,rfl⟩ | ⟨g,_⟩
  ·exact hlk
  ·omega
end


variable {l:List Tag}{p:Place}{k:Int}{s:ByteArray}{T:Type}{K:V->Heap->Option T}
def AC (p:Place) (l:List Tag):Int:=GD (DT l) p.clock+1
def By (p:Place) (k:Int) (s:ByteArray) (g:Bool) (l:List Tag):Ver:=⟨k,⟨AC p l,p.me⟩,l,s,g⟩
def E1 (p:Place) (l:List Tag):Bool:=B4 l (AW p.chain)&&(DG p.chain 0&&(decide (AC p l<=999)&&decide ((p.log.length:Int)<36)))
def AO (p:Place) (k:Int) (s:ByteArray) (g:Bool) (l:List Tag):Bool:=An k 0 3&&(DR s&&((!g || DY s)&&(Bb l&&E1 p l)))
def Bl (p:Place) (k:Int) (s:ByteArray) (g:Bool) (l:List Tag):Place×Tag:=bif As p then (bif AO p k s g l then (BE (EN p 0 (AC p l) (By p k s g l)),⟨AC p l,p.me⟩) else (p,⟨0,0⟩)) else (Ji,⟨0,0⟩)
theorem newer_lt_iff {a c x:Int}:GD a c<x<->a<x/\c<x:=by unfold GD;split<;>omega
theorem ZJ {A B:Int} (h:∀ x,A<x<->B<x):A=B:=by have h1:=(h (A+1)).1 (by omega);have h2:=(h (B+1)).2 (by omega);omega
theorem Xm {c:Int} (hc:0<=c):l.foldl (λm t=>if t.time>m then t.time else m) c=GD (DT l) c:=by
 refine ZJ λx=>?_;rw[newer_lt_iff,latest_lt,PV];constructor
 ·rintro ⟨h1,h2⟩;exact ⟨⟨by omega,h2⟩,h1⟩
 ·rintro ⟨⟨_,h2⟩,h1⟩;exact ⟨h1,h2⟩
theorem Xs (h:Bb l=true):0<=DT l/\DT l<=999:=by
 have h1:DT l<1000:=latest_lt.2 ⟨by omega,λt ht=>by
  simp only[Bb,DH,zby] at h;have:=DW (h.2 t ht);omega⟩
 have h2:¬ DT l<0:=λh=>by have:=(latest_lt.1 h).1;omega
 omega
theorem Ks (hp:As p=true) (h:Bb l=true):1<=AC p l/\AC p l<=1000/\DT l<AC p l/\p.clock<AC p l:=by have h1:=Xs h;have h2:=(AX hp).2.1;unfold AC GD;split<;>omega
theorem EM {g:Bool} (h:AO p k s g l=true):(0<=k/\k<=3)/\DR s=true/\(g=true->DY s=true)/\Bb l=true/\B4 l (AW p.chain)=true/\DG p.chain 0=true/\AC p l<=999/\p.log.length<36:=by unfold AO E1 at h;simp only[DH,zb6,decide_eq_true_eq,An,zb2] at h;obtain ⟨h1,h2,h3,h4,h5,h6,h7,h8⟩:=h;exact ⟨h1,h2,λhg=>h3.resolve_left (by rw[hg];simp),h4,h5,h6,h7,by omega⟩
theorem N7 {g:Bool} (hp:As p=true) (h:AO p k s g l=true):thin (By p k s g l):=by obtain ⟨h1,h2,h3,h4,h5,h6,h7,h8⟩:=EM h;have g1:=Bx h4;have g2:=DU h2;have g3:=Ks hp h4;have g4:=(AX hp).1;refine ⟨by show l.length<=4;omega,by show s.size<=8;omega,?_⟩;show A6 (AC p l) p.me=true;unfold A6 An;rw[decide_eq_true g3.1,decide_eq_true h7,decide_eq_true g4.1,decide_eq_true g4.2];simp
theorem Ze {lo lo' e R bytes q:Nat}{a:Pq}{xs:List (List V)}{h:Heap}:Dk lo e R bytes (.sl q a 0 (some 0)) xs h K=Dk lo' e R bytes (.sl q a 0 (some 0)) xs h K:=by
 cases xs with
 | nil=>rfl
 | cons x xs =>
  cases a with
  | none=>rfl
  | some p =>
   obtain ⟨b,i⟩:=p;simp only[Dk];have:Nat.ble (0+(x :: xs).length) 0=false:=by rw[zb7,zbQ];rfl
   rw[this]
section
variable {lo:Nat}{ro:Bool}{h:Heap}{F F' G:List Nat}{a a' av:Pq}{c c' cv:Nq}
theorem NP {a1 a2 a3:Pq}{c1 c2 c3:Nq} (hv:RTags ro h [.sl 2 av l.length cv] l G) (hok:As p=true) (hl:Bb l=true) :
  Ae lo 126 [.agg (p.cs a1 c1 a2 c2 a3 c3),.agg [.sl 2 av l.length cv]] h=some (Iv (AC p l),h):=by
 have h4:=Bx hl;have hc:=(AX hok).2.1;refine QY (h':=h) ?_;have loop:∀ m i x,m+i=4->(∀ y:Int,(l.drop i).foldl (λm t=>if t.time>m then t.time else m) x=y -> -9223372036854775808<=y+1/\y+1<=9223372036854775807)->Cq (List.length h) x (i:Nat) av l.length cv h=some (Iv ((l.drop i).foldl (λm t=>if t.time>m then t.time else m) x+1),h):=by
  intro m;induction m with
  | zero =>intro i x hi hb;rw[zcb (by omega)] at hb ⊢;have:=hb x rfl;rw[Cq.e,Aj (by omega),wr (by omega) (by omega)];rfl
  | succ m ih =>
   intro i x hi hb;have hil:i<l.length:=by omega
   obtain ⟨o,ha,ho⟩:=hv.get hil;have ho1:ld h o.1 (o.2+i) 0 1=some [Iv l[i].time]:=by obtain ⟨o',row,G',h1,h2,⟨rfl,_⟩,_⟩:=hv.read hil;rw[ha] at h1;injection h1 with h1;subst h1;rw[h2];rfl
   rw[zbH hil,zb3] at hb ⊢;rw[Cq.e,Ak (by omega),Ad hil,ha,Ag,Bm,ho1,Ag,Ab,Af,Aa,Ad hil,Ag,ho1,Ag,Ab,Af,Aa,At (show i<9223372036854775807 by omega),<- ha];by_cases ht:l[i].time>x
   ·rw[if_pos ht] at hb ⊢;rw[Ak ht];exact ih (i+1) _ (by omega) hb
   ·rw[if_neg ht] at hb ⊢;rw[Aj ht];exact ih (i+1) _ (by omega) hb
 have hnf:∀ y,(l.drop 0).foldl (λm t=>if t.time>m then t.time else m) p.clock=y->y=GD (DT l) p.clock:=λy hy=>by rw[<- hy,zci,Xm hc.1]
 have hb:=Ks hok hl;have:=loop 4 0 p.clock rfl (λy hy=>by rw[hnf y hy];unfold AC at hb;omega);rw[hnf _ rfl] at this;exact this
theorem Pj {a1 a2 a3:Pq}{c1 c2 c3:Nq}{F1:List Nat} (hs1:RNodes ro h [.sl 2 a1 p.chain.length c1] p.chain F1) (hv:RTags ro h [.sl 2 av l.length cv] l G) (hok:As p=true) (hl:Bb l=true) (hn:Dt p) :
  Ae lo 57 [.agg (p.cs a1 c1 a2 c2 a3 c3),.agg [.sl 2 av l.length cv]] h=some (.bool (E1 p l),h):=by
 have h0:=FJ hok;have hchain:=(AX hok).2.2.2.1;obtain ⟨v5,h5,F5,e5,r5,m5⟩:=Hh (lo:=h.length) hs1 (zbo _) hn.1 h0;obtain ⟨a6,c6,e6,r6⟩:=r5.form;refine Tj (h':=h5) ?_;have en:=NP (lo:=h.length) (a1:=a1) (c1:=c1) (a2:=a2) (c2:=c2) (a3:=a3) (c3:=c3) (m5.keep0 rtags_ok hv) hok hl;simp only[Place.cs] at en;unfold E1;rw[e5,Ac,AA,Ab,e6,Af,EY (m5.keep0 rtags_ok hv) r6 (Bx hl) (Jk hchain),Ac,Az];cases B4 l (AW p.chain) with
 | false=>rw[Ay];rfl
 | true =>
 rw[Ap,JZ (m5.keep0 rnodes_ok hs1) h0,Ac,Az];cases DG p.chain 0 with
 | false=>rw[Ay];rfl
 | true =>
 rw[Ap,en,Ac,Aa];cases decide (AC p l<=999) with
 | false=>rw[Ay];rfl
 | true =>
 rw[Ap];cases decide ((p.log.length:Int)<36) with
 | false=>rw[Ay];rfl
 | true=>rw[Ap];rfl
theorem HL {g:Bool}{a1 a2 a3:Pq}{c1 c2 c3:Nq}{F1 F2 F3:List Nat} (hs1:RNodes false h [.sl 2 a1 p.chain.length c1] p.chain F1) (hs2:RVers false h [.sl 6 a2 p.log.length c2] p.log F2) (hs3:RVss false h [.sl 1 a3 p.got.length c3] p.got F3)
  (hv:RTags false h [.sl 2 av l.length cv] l G) (hok:As p=true) (hc:AO p k s g l=true) (hnd:(F1++(F2++F3)).Nodup) (hlo:∀ b∈F1++(F2++F3),lo<=b) (hl:lo<=h.length) :
  ∃ a2' c2' h' F',Ae lo 59 [.agg (p.cs a1 c1 a2 c2 a3 c3),Iv k,.str s,.bool g,.agg [.sl 2 av l.length cv]] h=some (.tup [.agg ((BE (EN p 0 (AC p l) (By p k s g l))).cs a1 c1 a2' c2' a3 c3),.agg [Iv (AC p l),Iv p.me]],h') /\
   Ca false h' ((BE (EN p 0 (AC p l) (By p k s g l))).cs a1 c1 a2' c2' a3 c3) (BE (EN p 0 (AC p l) (By p k s g l))) F'/\Mv h (F1++(F2++F3)) h' F':=by
 obtain ⟨g1,g2,g3,g4,g5,g6,g7,g8⟩:=EM hc;have h0:=FJ hok;have hl4:=Bx g4;have hti:=O5 hok;obtain ⟨a5,c5,h5,F5,e5,r5,m5⟩:=Ja (lo:=h.length) (h:=h) (l:=l) (zbo _) (by omega);rw[<- zbB] at hnd hlo ⊢;have hnd':=hnd;rw[zbm] at hnd';have hdis:∀ y∈F3,y∉F1++F2:=λy hy hm=>hnd'.2.2 y hm y hy rfl;have hb12:∀ y∈F1++F2,y<h.length:=λy hy=>by rw[zbl] at hy;exact hy.elim (rnodes_ok.bd _ _ _ _ hs1 y) (rvers_ok.bd _ _ _ _ hs2 y)
 obtain ⟨h6,a6,c6,h7,F6,F7,e6,e7,r6,r7,m7⟩:=LT (lo:=lo) (v:=By p k s g l) (k:=0) (t:=AC p l) (a3:=a3) (c3:=c3) (m5.keep0 rnodes_ok hs1) (m5.keep0 rvers_ok hs2) r5 (λy hy hm=>by
  have:=m5.new y hy;have:=hb12 y (by simp[hm]);omega) hnd'.1 (λy hy=>hlo y (by rw[zbl];exact .inl hy)) (zbj hl m5.le) h0 g1 hti (N7 hok hc)
 have hcs:(EN p 0 (AC p l) (By p k s g l)).cs a1 c1 a2 c2 a3 c3 = [Iv p.me,Iv (AC p l),.sl 2 a1 p.chain.length c1,.sl 6 a2 p.log.length c2,.sl 1 a3 p.got.length c3,.bool p.fell]:=by simp only[Place.cs,EN,addN_len]
 rw[hcs] at e7;have m5':Mv h (F1++F2) h5 (F1++F2):=(m5.drop.aside (G:=F1++F2) hnd'.1 hb12);have m8:=m5'.trans m7;have b3':∀ y∈F3,y<h.length:=rvss_ok.bd _ _ _ _ hs3;have m9:=m8.aside (G:=F3) hnd b3';have hs3':=m8.keep rvss_ok hs3 hdis;refine ⟨a6,c6,h7,F6++F7++F3,Qj ?_,⟨_,_,_,_,_,_,rfl,_,_,_,F6,F7,F3,rfl,by rw[zbB],r6,r7,hs3'⟩,m9⟩;have en:=NP (lo:=h.length) (a1:=a1) (c1:=c1) (a2:=a2) (c2:=c2) (a3:=a3) (c3:=c3) hv hok g4;simp only[Place.cs] at en;have e6':Ae lo 129 [.agg [.sl 2 a1 p.chain.length c1],Iv 0,.agg [Iv k,Iv (AC p l),Iv p.me,.sl 2 a5 l.length c5,.str s,.bool g]] h5=some (.agg [.sl 2 a1 p.chain.length c1],h6):=e6;rw[en,Ac,Aa,RTags.rows (Mv.snoc.keep0 rtags_ok hv),Ze (lo':=h.length),e5,Ah,e6',Ac,AA,Ab,Ah,Af,e7,Ac,AA];simp only[Place.cs];rw[Ab,Aa,Ab,Aa,Ab,Ah,Ab,Ah,Ab,Ah,Ab,AB,Af]
end


section
variable {lo:Nat}{h:Heap}{F F' G:List Nat}{a a' av:Pq}{c c' cv:Nq}
theorem Oj {p:Place}{cs:List V}{k:Int}{s:ByteArray}{g:Bool}{l:List Tag} (hp:Ca false h cs p F) (hv:RTags false h [.sl 2 av l.length cv] l G) (hl:lo<=h.length) (hn:Dt p) (hvn:l.length<=1048576/\s.size<=1048576) :
  ∃ raw r h' F',Ae lo 11 [.agg cs,Iv k,.str s,.bool g,.agg [.sl 2 av l.length cv]] h=some (.tup [.agg raw,.agg [Iv (Bl p k s g l).2.time,Iv (Bl p k s g l).2.place]],h')/\JK raw (Bl p k s g l).1 r/\Ca false h' r (Bl p k s g l).1 F'/\Mv h [] h' F':=by
 obtain ⟨a1,c1,a2,c2,a3,c3,rfl,hp⟩:=hp;obtain ⟨F1,F2,F3,_,h1,h2,h3⟩:=hp.cells;suffices hk:∃ raw r h' F',_=some (V.tup [.agg raw,.agg [Iv (Bl p k s g l).2.time,Iv (Bl p k s g l).2.place]],h')/\JK raw (Bl p k s g l).1 r/\Ca false h' r (Bl p k s g l).1 F'/\Mv h [] h' F' from by obtain ⟨raw,r,h',F',e,hr⟩:=hk;exact ⟨raw,r,h',F',Mz e,hr⟩
 rw[RA h1 h2 h3 hn,Ac,Az];unfold Bl;cases hpo:As p with
 | false =>rw[Ay];obtain ⟨raw,r,rfl,n1,n2⟩:=N6 (hh:=h);exact ⟨_,r,h,[],rfl,n1,n2,Mv.nil⟩
 | true =>
 obtain ⟨raw,b1,d1,b2,d2,b3,d3,h4,F4,e4,n4,r4,m4⟩:=LR (lo:=lo) h1 h2 h3 hl hn;obtain ⟨s1,s2,s3,q1,q2,q3,q4,q5,q6,rfl,n1,n2,n3,eq⟩:=n4;obtain ⟨rfl,rfl,rfl,rfl,rfl,rfl⟩:=Y3 eq;have r4':=r4;obtain ⟨G1,G2,G3,rfl,g1,g2,g3⟩:=r4'.cells;have stay:AO p k s g l=false->∃ raw r h' F',some (V.tup [.agg (p.cs b1 d1 b2 d2 b3 d3),.agg [Iv 0,Iv 0]],h4)=some (V.tup [.agg raw,.agg [Iv (bif true then bif AO p k s g l then (BE (EN p 0 (AC p l) (By p k s g l)),(⟨AC p l,p.me⟩:Tag)) else (p,⟨0,0⟩) else (Ji,⟨0,0⟩)).2.time,Iv (bif true then bif AO p k s g l then (BE (EN p 0 (AC p l) (By p k s g l)),(⟨AC p l,p.me⟩:Tag)) else (p,⟨0,0⟩) else (Ji,⟨0,0⟩)).2.place]],h') /\
   JK raw (bif true then bif AO p k s g l then (BE (EN p 0 (AC p l) (By p k s g l)),(⟨AC p l,p.me⟩:Tag)) else (p,⟨0,0⟩) else (Ji,⟨0,0⟩)).1 r/\Ca false h' r (bif true then bif AO p k s g l then (BE (EN p 0 (AC p l) (By p k s g l)),(⟨AC p l,p.me⟩:Tag)) else (p,⟨0,0⟩) else (Ji,⟨0,0⟩)).1 F'/\Mv h [] h' F':=λhc=>by
  rw[hc];exact ⟨p.cs b1 d1 b2 d2 b3 d3,_,h4,_,rfl,Hs,⟨_,_,_,_,_,_,rfl,r4⟩,m4⟩
 have ec:=λhpk:Bb l=true=>Pj (lo:=lo) (a2:=a2) (c2:=c2) (a3:=a3) (c3:=c3) h1 hv hpo hpk hn;simp only[Place.cs] at ec;rw[Ap,Bp,Ac,Az];cases hw:An k 0 3 with
 | false =>rw[Ay,e4,Ac,AA,Ab,Aa,Ab,Aa,Ab,n1,Ab,n2,Ab,n3,Ab,AB,Af];exact stay (by unfold AO;rw[hw];rfl)
 | true =>
 rw[Ap,IO hvn.2,Ac,Az];cases hto:DR s with
 | false =>rw[Ay,e4,Ac,AA,Ab,Aa,Ab,Aa,Ab,n1,Ab,n2,Ab,n3,Ab,AB,Af];exact stay (by unfold AO;rw[hw,hto];rfl)
 | true =>
 rw[Ap];cases g with
 | false =>
  rw[Ay];rw[IP hv hvn.1,Ac,Az];cases hpk:Bb l with
  | false =>rw[Ay,e4,Ac,AA,Ab,Aa,Ab,Aa,Ab,n1,Ab,n2,Ab,n3,Ab,AB,Af];exact stay (by unfold AO;rw[hpk];simp)
  | true =>
  rw[Ap,ec hpk,Ac,Az];cases hm:E1 p l with
  | false =>rw[Ay,e4,Ac,AA,Ab,Aa,Ab,Aa,Ab,n1,Ab,n2,Ab,n3,Ab,AB,Af];exact stay (by unfold AO;rw[hm];simp)
  | true =>
  have hcw:AO p k s false l=true:=by unfold AO;rw[hw,hto,hpk,hm];simp
  obtain ⟨a2',c2',h5,F5,e5,r5,m5⟩:=HL (lo:=lo) g1 g2 g3 (m4.keep0 rtags_ok hv) hpo hcw m4.nd (λy hy=>by have:=m4.new y hy;omega) (zbj hl m4.le);simp only[Place.cs] at e5;rw[Ap,e4,Ac,AA,Ab,Aa,Ab,Aa,Ab,n1,Ab,n2,Ab,n3,Ab,AB,Af,e5,Ac,Hz,Ab,AA,Ab,Aa,Ab,Aa,Ab,Ah,Ab,Ah,Ab,Ah,Ab,AB,Af,Ab,AA,Ab,Aa,Ab,Aa,Af,Af,hcw];exact ⟨_,_,h5,F5,rfl,Hs,r5,m4.trans m5⟩
 | true =>
  rw[Ap,GI];cases hnt:DY s with
  | false =>rw[Ay,e4,Ac,AA,Ab,Aa,Ab,Aa,Ab,n1,Ab,n2,Ab,n3,Ab,AB,Af];exact stay (by unfold AO;rw[hw,hto,hnt];rfl)
  | true =>
  rw[Ap];rw[IP hv hvn.1,Ac,Az];cases hpk:Bb l with
  | false =>rw[Ay,e4,Ac,AA,Ab,Aa,Ab,Aa,Ab,n1,Ab,n2,Ab,n3,Ab,AB,Af];exact stay (by unfold AO;rw[hpk];simp)
  | true =>
  rw[Ap,ec hpk,Ac,Az];cases hm:E1 p l with
  | false =>rw[Ay,e4,Ac,AA,Ab,Aa,Ab,Aa,Ab,n1,Ab,n2,Ab,n3,Ab,AB,Af];exact stay (by unfold AO;rw[hm];simp)
  | true =>
  have hcw:AO p k s true l=true:=by unfold AO;rw[hw,hto,hpk,hm];simp;exact hnt
  obtain ⟨a2',c2',h5,F5,e5,r5,m5⟩:=HL (lo:=lo) g1 g2 g3 (m4.keep0 rtags_ok hv) hpo hcw m4.nd (λy hy=>by have:=m4.new y hy;omega) (zbj hl m4.le);simp only[Place.cs] at e5;rw[Ap,e4,Ac,AA,Ab,Aa,Ab,Aa,Ab,n1,Ab,n2,Ab,n3,Ab,AB,Af,e5,Ac,Hz,Ab,AA,Ab,Aa,Ab,Aa,Ab,Ah,Ab,Ah,Ab,Ah,Ab,AB,Af,Ab,AA,Ab,Aa,Ab,Aa,Af,Af,hcw];exact ⟨_,_,h5,F5,rfl,Hs,r5,m4.trans m5⟩
end


variable {p:Place}{k:Int}{s:ByteArray}{g:Bool}{l:List Tag}
theorem Kj:AO p k s g l=(E5 ⟨k,⟨0,0⟩,l,s,g⟩&&E1 p l):=by unfold AO E5;simp only[Bool.and_assoc]
theorem LI (h:As p=true):Bl p k s g l=bif AO p k s g l then (BE (EN p 0 (AC p l) (By p k s g l)),⟨AC p l,p.me⟩) else (p,⟨0,0⟩):=by unfold Bl;rw[h,cond_true]
section
variable {lo:Nat}{h:Heap}{F F' G:List Nat}{a a' av:Pq}{c c' cv:Nq}
theorem Om {p':Place}{cs l1:List V}{g x:Nat}{ok:Bool}{X0 X1:Blk} (hp:Ca false h cs p F) (hl:lo<=h.length) (hn:Dt p) (hx:h[x]?=some X0)
  (hg:As p=true->∀ hh b row F1,h.length<=hh.length->Mv h [] hh []->Ca false hh row p F1->hh[b]?=some (.rows 6 29 false [row])->(b :: F1).Nodup->(∀ y∈b :: F1,h.length<=y) ->
   ∃ hh' row' F1',Ae lo g (Dy [.ptr (some (b,(0,0)))] l1) hh=some (.bool ok,hh')/\Ca false hh' row' p' F1'/\hh'[b]?=some (.rows 6 29 false [row'])/\hh'[x]?=some X1/\Mv hh (x :: b :: F1) hh' (x :: b :: F1')) :
  ∃ raw r h' F',Ae lo 50 [.agg cs,.fn g l1] h=some (.tup [.agg raw,.bool (As p&&ok)],h')/\JK raw (O4 p p') r/\Ca false h' r (O4 p p') F'/\Mv h [x] h' (x :: F')/\h'[x]?=some (bif As p then X1 else X0):=by
 obtain ⟨a1,c1,a2,c2,a3,c3,rfl,hp⟩:=hp;obtain ⟨F1,F2,F3,_,h1,h2,h3⟩:=hp.cells;suffices hk:∃ raw r h' F',_=some (V.tup [.agg raw,.bool (As p&&ok)],h')/\JK raw (O4 p p') r/\Ca false h' r (O4 p p') F'/\Mv h [x] h' (x :: F')/\h'[x]?=some (bif As p then X1 else X0) from by obtain ⟨raw,r,h',F',e,hr⟩:=hk;exact ⟨raw,r,h',F',NF e,hr⟩
 have hxl:x<h.length:=(Gz hx).1;rw[HO h1 h2 h3 hn,Ac,Az];unfold O4;cases hpo:As p with
 | false =>rw[Ay];obtain ⟨raw,r,rfl,n1,n2⟩:=N6 (hh:=h);exact ⟨_,r,h,[],rfl,n1,n2,Mv.refl (by simp),hx⟩
 | true =>
 obtain ⟨b1,d1,b2,d2,b3,d3,h4,F4,e4,r4,m4⟩:=Me (lo:=lo) h1 h2 h3 hl hn;rw[Ap,e4,Ac,AA,Ab,Aa,Ab,Aa,Ab,Ah,Ab,Ah,Ab,Ah,Ab,AB,Af];have m5:Mv h4 [] (h4 ++ [.rows 6 29 false [p.cs b1 d1 b2 d2 b3 d3]]) [h4.length]:=Mv.last;rw[Zs (row':=p.cs b1 d1 b2 d2 b3 d3) (zbj hl m4.le) rfl (Dz (by simp[Place.cs]))];simp only[Ag,List.set_cons_zero];have m45:=(m4.join m5 (rplace_ok.bd _ _ _ _ r4)).swapNil;obtain ⟨h6,row6,F6,e6,r6,b6,x6,m6⟩:=hg hpo (h4 ++ [.rows 6 29 false [p.cs b1 d1 b2 d2 b3 d3]]) h4.length _ F4 m45.le m45.drop ⟨_,_,_,_,_,_,rfl,m5.keep0 rplace_ok r4⟩ (by simp) m45.nd (λy hy=>m45.new y hy);obtain ⟨b4,d4,b5,d5,b7,d7,rfl,r6'⟩:=id r6;rw[e6,Ac,Az];have e7:ld h6 h4.length 0 0 6=some (p'.cs b4 d4 b5 d5 b7 d7):=by rw[BT b6 rfl];exact IJ rfl
 have m46:Mv h [x] (h4 ++ [.rows 6 29 false [p.cs b1 d1 b2 d2 b3 d3]]) (x :: h4.length :: F4):=(m45.aside (G := [x]) (by simp) (by simpa using hxl)).swap;have nd6:=m6.nd;rw[zbs,zbs] at nd6;have m7:Mv h [x] h6 (x :: F6):=(m46.trans m6).lean (by rw[zbs];exact ⟨λhm=>nd6.1 (by simp[hm]),nd6.2.2⟩) λb hb=>by
  rcases zbx.1 hb with rfl | hb
  ·simp
  ·simp[hb]
 rw[e7];simp only[Ag,Ab,Aa,Ah,AB,Af,cond_true];cases ok;all_goals
  first | rw[Ap] | rw[Ay]
  exact ⟨_,_,h6,F6,rfl,Hs,r6,m7,x6⟩
theorem VH {b:Nat}{a1 a2 a3:Pq}{c1 c2 c3:Nq}{G1 G2 G3:List Nat} (hb:h[b]?=some (.rows 6 29 false [p.cs a1 c1 a2 c2 a3 c3])) (hs1:RNodes false h [.sl 2 a1 p.chain.length c1] p.chain G1) (hs2:RVers false h [.sl 6 a2 p.log.length c2] p.log G2) (hs3:RVss false h [.sl 1 a3 p.got.length c3] p.got G3)
  (hv:RTags false h [.sl 2 av l.length cv] l G) (hvd:∀ y∈G,y∉b :: G1) (hok:As p=true) (hn:Dt p) (hvn:l.length<=1048576/\s.size<=1048576) (hnd:(b ::(G1++(G2++G3))).Nodup) (hlo:∀ y∈b ::(G1++(G2++G3)),lo<=y) (hl:lo<=h.length) :
  ∃ h' row' F',Ae lo 52 [.ptr (some (b,(0,0))),.agg [Iv k,Iv 0,Iv 0,.sl 2 av l.length cv,.str s,.bool g]] h=some (.agg [Iv (Bl p k s g l).2.time,Iv (Bl p k s g l).2.place],h') /\
   Ca false h' row' (Bl p k s g l).1 F'/\h'[b]?=some (.rows 6 29 false [row'])/\Mv h (b ::(G1++(G2++G3))) h' (b :: F'):=by
 rw[LI hok];have hblt:b<h.length:=(Gz hb).1;have hbd:∀ y∈b ::(G1++(G2++G3)),y<h.length:=λy hy=>by
  simp only[zbx,zbl] at hy;rcases hy with rfl | hy | hy | hy
  ·exact hblt
  ·exact rnodes_ok.bd _ _ _ _ hs1 y hy
  ·exact rvers_ok.bd _ _ _ _ hs2 y hy
  ·exact rvss_ok.bd _ _ _ _ hs3 y hy
 generalize hW:(bif AO p k s g l then (BE (EN p 0 (AC p l) (By p k s g l)),(⟨AC p l,p.me⟩:Tag)) else (p,⟨0,0⟩))=W;suffices hq:∃ h' row' F',_=some (V.agg [Iv W.2.time,Iv W.2.place],h')/\Ca false h' row' W.1 F'/\h'[b]?=some (.rows 6 29 false [row'])/\Mv h (b ::(G1++(G2++G3))) h' (b :: F') from by obtain ⟨h',row',F',e,hr⟩:=hq;exact ⟨h',row',F',Lz e,hr⟩
 have stay:∀ h',Mv h [] h' []->AO p k s g l=false->∃ h'' row' F',some (V.agg [Iv 0,Iv 0],h')=some (V.agg [Iv W.2.time,Iv W.2.place],h'')/\Ca false h'' row' W.1 F'/\h''[b]?=some (.rows 6 29 false [row'])/\Mv h (b ::(G1++(G2++G3))) h'' (b :: F'):=λh' m hc=>by rw[hc,cond_false] at hW;subst hW;exact ⟨h',_,G1++(G2++G3),rfl,⟨_,_,_,_,_,_,rfl,_,_,_,G1,G2,G3,rfl,rfl,m.keep0 rnodes_ok hs1,m.keep0 rvers_ok hs2,m.keep0 rvss_ok hs3⟩,by rw[m.fr b hblt (by simp)];exact hb,m.aside (G:=b ::(G1++(G2++G3))) hnd hbd⟩
 have h0:=FJ hok;have hti:=O5 hok;have hcw:=Kj (p:=p) (k:=k) (s:=s) (g:=g) (l:=l);have e1:=Mc (lo:=lo) (v:=⟨k,⟨0,0⟩,l,s,g⟩) hv hvn;simp only[Ver.cs] at e1;rw[e1,Ac,Az];cases hwr:E5 ⟨k,⟨0,0⟩,l,s,g⟩ with
 | false=>rw[Ay];exact stay h Mv.nil (by rw[hcw,hwr];rfl)
 | true =>
 rw[hwr,zbK] at hcw;have hpk:Bb l=true:=by unfold E5 at hwr;simp only[DH] at hwr;exact hwr.2
 have hl4:=Bx hpk;have htb:=Ks hok hpk;have l2:ld h b 0 (0+2) 1=some [.sl 2 a1 p.chain.length c1]:=by rw[BT hb rfl];rfl
 obtain ⟨bt,dt,Ht,et,rt,_⟩:=Kz (lo:=h.length) (b:=b) (i:=0) (j:=0+2) l2 hs1 h0 hn.1.1;have hslen:(p.chain[p.chain.length - 1]'(by omega)).store.length=4:=(hti.node _ (zbk _)).1;obtain ⟨vt,h5,F5,e5,r5,m5⟩:=Nf (lo:=h.length) rt (zbo _) hslen;obtain ⟨a6,c6,e6,r6⟩:=r5.form;rw[Ap,et,Ac,AA,Ab,Ah,Af,e5,Ac,AA,Ab,e6,Af,Li (m5.keep0 rtags_ok hv) r6 hvn.1 (by simp only[Bt,zcO];omega),Ac,Az];unfold E1 at hcw;rw[If h0] at hcw;cases hu:B4 l (Bt (p.chain[p.chain.length - 1]'(by omega)).store) with
 | false=>rw[Ay];exact stay h5 m5.drop (by rw[hcw,hu];rfl)
 | true =>
 rw[hu,zbK] at hcw;have hb5:h5[b]?=some (.rows 6 29 false [p.cs a1 c1 a2 c2 a3 c3]):=by rw[m5.fr b hblt (by simp)];exact hb
 have l25:ld h5 b 0 (0+2) 1=some [.sl 2 a1 p.chain.length c1]:=by rw[BT hb5 rfl];rfl
 have hs15:=m5.keep0 rnodes_ok hs1;have hs25:=m5.keep0 rvers_ok hs2;have hs35:=m5.keep0 rvss_ok hs3;have hv5:=m5.keep0 rtags_ok hv;have hfu:Ae lo 117 [.ptr (some (b,(0,0+2))),Iv 0] h5=some (.bool (!DG p.chain 0),h5):=R0 l25 hs15 h0;rw[Ap,hfu,Ac,Az];cases hr:DG p.chain 0 with
 | false=>rw[zcs,Ap];exact stay h5 m5.drop (by rw[hcw,hr];rfl)
 | true =>
 rw[hr,zbK] at hcw;have l3:ld h5 b 0 (0+3) 1=some [.sl 6 a2 p.log.length c2]:=by rw[BT hb5 rfl];rfl
 rw[zb5,Ay,l3,Ag,Ab,Af,Ah];cases hlg:decide ((p.log.length:Int)<36) with
 | false =>
  have:(p.log.length:Int)>=36:=by have:=of_decide_eq_false hlg;omega
  rw[Ak (by omega)];exact stay h5 m5.drop (by rw[hcw,hlg];simp)
 | true =>
 have:(p.log.length:Int)<36:=of_decide_eq_true hlg;rw[hlg,zcj] at hcw;have l1:ld h5 b 0 (0+1) 1=some [Iv p.clock]:=by rw[BT hb5 rfl];rfl
 have l0:ld h5 b 0 (0+0) 1=some [Iv p.me]:=by rw[BT hb5 rfl];rfl
 have hT:(if DT l>p.clock then DT l else p.clock)+1=AC p l:=rfl;rw[Aj (by omega),l1,Ag,Ab,Af,Aa,Oc hv5 hvn.1,Ac,Aa,hT,wr (n:=AC p l) (by omega) (by omega)];cases hti9:decide (AC p l<=999) with
 | false =>
  have:AC p l>999:=by have:=of_decide_eq_false hti9;omega
  rw[Ak (by omega)];exact stay h5 m5.drop (by rw[hcw,hti9])
 | true =>
 have:AC p l<=999:=of_decide_eq_true hti9;rw[hti9] at hcw;have hvt:=N7 hok hcw;rw[hcw,cond_true] at hW;obtain ⟨kp1,_⟩:=EM hcw;have hnd':=hnd;rw[zbs,zbm,zbl,zbl,zbm] at hnd';obtain ⟨n1,n2,⟨n3,n4,n5⟩,n6⟩:=hnd';simp only[not_or] at n1;have hb5lt:b<h5.length:=zbv hblt m5.le;have e8:=D5 (lo:=lo) (cs := [Iv (AC p l)]) (j:=0+1) (r:=0) (row:=p.cs a1 c1 a2 c2 a3 c3) hb5 (hlo b (by simp)) rfl (Kx (by simp[Place.cs]));obtain ⟨m6,b6,k6,_⟩:=(Mv.refl (h:=h5) (F := []) (by simp)).store hb5lt (by simp) (.rows 6 29 false [(J3 p (AC p l)).cs a1 c1 a2 c2 a3 c3]);generalize hh6:h5.set b (.rows 6 29 false [(J3 p (AC p l)).cs a1 c1 a2 c2 a3 c3])=h6 at m6 b6 k6;have e8':st lo h5 b 0 (0+1) [Iv (AC p l)]=some h6:=by rw[<- hh6];exact e8
 have hs16:=m6.keep rnodes_ok hs15 λy hy hm=>by rw[zbr] at hm;subst hm;exact n1.1 hy
 have hs26:=m6.keep rvers_ok hs25 λy hy hm=>by rw[zbr] at hm;subst hm;exact n1.2.1 hy
 have hs36:=m6.keep rvss_ok hs35 λy hy hm=>by rw[zbr] at hm;subst hm;exact n1.2.2 hy
 have hv6:=m6.keep rtags_ok hv5 λy hy hm=>by rw[zbr] at hm;subst hm;exact hvd y hy (by simp)
 have hkl:(By p k s g l).key<p.chain[0].store.length:=by have:=(hti.node _ (zbk h0)).1;show k<_;omega
 obtain ⟨h7,F7,e7,r7,m7⟩:=YB (lo:=lo) (l:=p.chain) (v:=By p k s g l) (i:=0) (j:=0+2) b6 rfl rfl hs16 n1.1 hv6 (λy hy hm=>hvd y hy (by simp[hm])) n2 (λy hy=>hlo y (by simp[hy])) (by have:=m5.le;have:=m6.le;omega) h0 ⟨kp1.1,hkl⟩ hn.1 hvn.1;rw[hr,cond_true] at r7;rw[hr] at e7;have hbd6:∀ y∈b ::(G1++(G2++G3)),y<h6.length:=λy hy=>zbv (hbd y hy) (zbj m5.le m6.le);have nd2:(b :: G2).Nodup:=by rw[zbs];exact ⟨n1.2.1,n3⟩
 have d1:=(zae m7 (Mv.refl nd2) hnd hbd6).2.1;have hb7:h7[b]?=some (.rows 6 29 false [(J3 p (AC p l)).cs a1 c1 a2 c2 a3 c3]):=by rw[m7.fr b (zbv hb5lt m6.le) n1.1];exact b6
 have hs27:RVers false h7 [.sl 6 a2 p.log.length c2] p.log G2:=m7.keep rvers_ok hs26 λy hy hm=>n6 y hm y (by simp[hy]) rfl;have ta:=O6 (k:=0) (t:=AC p l) (CS hok) hvt;have ta':Tidy 10 20 100 (EN p 0 (AC p l) (By p k s g l)):=⟨zbj ta.len (by decide),λx hx=>by have:=ta.node x hx;exact ⟨this.1,zbj this.2.1 (by decide),this.2.2⟩,⟨zbj ta.log.1 (by decide),ta.log.2⟩,ta.got.1,λl hl=>⟨zbj (ta.got.2 l hl).1 (by decide),(ta.got.2 l hl).2⟩⟩;have hcs:(EN p 0 (AC p l) (By p k s g l)).cs a1 c1 a2 c2 a3 c3=(J3 p (AC p l)).cs a1 c1 a2 c2 a3 c3:=by simp only[Place.cs,EN,J3,addN_len]
 rw[<- addN_len (k:=0) (v:=By p k s g l)] at r7;obtain ⟨a8,c8,h8,F8,e9,b9,r9,m9⟩:=SI (lo:=lo) (p:=EN p 0 (AC p l) (By p k s g l)) (a3:=a3) (c3:=c3) (by rw[hcs];exact hb7) r7 hs27 (by show 0<(Fp _ _ _).length;rw[addN_len];omega) ta' d1 nd2 (λy hy=>hlo y (by simp only[zbx,zbl] at hy ⊢;rcases hy with hy | hy;exact .inl hy;exact .inr (.inr (.inl hy)))) (by have:=m5.le;have:=m6.le;have:=m7.le;omega);obtain ⟨r10,m10⟩:=Sv (q:=BE (EN p 0 (AC p l) (By p k s g l))) m7 m9 hnd hbd6 r7 r9 hs36;have m56:Mv h (b ::(G1++(G2++G3))) h6 (b ::(G1++(G2++G3))):=(m5.drop.aside (G:=b ::(G1++(G2++G3))) hnd hbd).trans (m6.aside (G:=G1++(G2++G3)) hnd λy hy=>zbv (hbd y (by simp[hy])) m5.le);simp only[Ver.cs,By] at e7;rw[Aj (by omega),l0,Ag,Ab,Af,Aa,e8',Ag,e7,Ac,Az,Ap,e9,Ac,Hz,Af];subst hW;exact ⟨h8,_,_,rfl,r10,b9,m56.trans m10⟩
theorem Oo {cs:List V} (hp:Ca false h cs p F) (hv:RTags false h [.sl 2 av l.length cv] l G) (hl:lo<=h.length) (hn:Dt p) (hvn:l.length<=1048576/\s.size<=1048576) :
  ∃ raw r h' F',Ae lo 10 [.agg cs,Iv k,.str s,.bool g,.agg [.sl 2 av l.length cv]] h=some (.tup [.agg raw,.agg [Iv (Bl p k s g l).2.time,Iv (Bl p k s g l).2.place]],h')/\JK raw (Bl p k s g l).1 r/\Ca false h' r (Bl p k s g l).1 F'/\Mv h [] h' F':=by
 generalize hh0:((((h ++ [Blk.rows 1 3 false [[Iv k]]]) ++ [Blk.rows 1 9 false [[.str s]]]) ++ [Blk.rows 1 4 false [[.bool g]]]) ++ [Blk.rows 1 32 false [[.sl 2 av l.length cv]]])=h0;have l1:(h ++ [Blk.rows 1 3 false [[Iv k]]]).length=h.length+1:=by simp
 have l2:((h ++ [Blk.rows 1 3 false [[Iv k]]]) ++ [Blk.rows 1 9 false [[.str s]]]).length=h.length+2:=by simp
 have l3:(((h ++ [Blk.rows 1 3 false [[Iv k]]]) ++ [Blk.rows 1 9 false [[.str s]]]) ++ [Blk.rows 1 4 false [[.bool g]]]).length=h.length+3:=by simp
 have l4:h0.length=h.length+4:=by rw[<- hh0];simp
 have m0:Mv h [] h0 []:=by rw[<- hh0];exact ((Mv.snoc.trans Mv.snoc).trans Mv.snoc).trans Mv.snoc
 have m1:Mv h0 [] (h0 ++ [Blk.rows 2 36 false [[Iv 0,Iv 0]]]) [h0.length]:=Mv.last;have z1:h0[h.length]?=some (.rows 1 3 false [[Iv k]]):=by rw[<- hh0,zbn (by simp),zbn (by simp),zbn (by simp),zbG (by omega)];simp
 have z2:h0[h.length+1]?=some (.rows 1 9 false [[.str s]]):=by rw[<- hh0,zbn (by simp),zbn (by simp),zbG (by simp),l1];simp
 have z3:h0[h.length+2]?=some (.rows 1 4 false [[.bool g]]):=by rw[<- hh0,zbn (by simp),zbG (by simp),l2];simp
 have z4:h0[h.length+3]?=some (.rows 1 32 false [[.sl 2 av l.length cv]]):=by rw[<- hh0,zbG (by simp),l3];simp
 have m01:=m0.trans m1.drop;obtain ⟨raw,r,h',F',e,n,rr,m,hx⟩:=Om (lo:=lo) (p':=(Bl p k s g l).1) (l1 := [.ptr (some (h.length,(0,0))),.ptr (some (h.length+3,(0,0))),.ptr (some (h.length+1,(0,0))),.ptr (some (h.length+2,(0,0))),.ptr (some (h0.length,(0,0)))]) (g:=51) (ok:=true) (x:=h0.length)
  (X0 := .rows 2 36 false [[Iv 0,Iv 0]]) (X1 := .rows 2 36 false [[Iv (Bl p k s g l).2.time,Iv (Bl p k s g l).2.place]]) (m01.keep0 rplaceN_ok hp) (zbj hl m01.le) hn (by simp) (λhpo hh b row F1 hhl mm rp hb hnd hlo=>by
  obtain ⟨b1,d1,b2,d2,b3,d3,rfl,rp⟩:=rp;obtain ⟨G1,G2,G3,rfl,g1,g2,g3⟩:=rp.cells;have hl1:(h0 ++ [Blk.rows 2 36 false [[Iv 0,Iv 0]]]).length=h0.length+1:=by simp
  have up:∀ i X,i<h0.length->h0[i]?=some X->hh[i]?=some X:=λi X hi hX=>by rw[mm.fr i (by omega) (by simp),zbn hi];exact hX
  have k1:ld hh h.length 0 0 1=some [Iv k]:=by rw[BT (up _ _ (by omega) z1) rfl];rfl
  have k2:ld hh (h.length+1) 0 0 1=some [.str s]:=by rw[BT (up _ _ (by omega) z2) rfl];rfl
  have k3:ld hh (h.length+2) 0 0 1=some [.bool g]:=by rw[BT (up _ _ (by omega) z3) rfl];rfl
  have k4:ld hh (h.length+3) 0 0 1=some [.sl 2 av l.length cv]:=by rw[BT (up _ _ (by omega) z4) rfl];rfl
  have hvh:RTags false hh [.sl 2 av l.length cv] l G:=(m01.trans mm).keep0 rtags_ok hv;have hGb:∀ y∈G,y<h.length:=rtags_ok.bd _ _ _ _ hv;obtain ⟨h9,row9,F9,e9,r9,b9,m9⟩:=VH (lo:=lo) (k:=k) (s:=s) (g:=g) hb g1 g2 g3 hvh (λy hy hm=>by
   have g1:=hGb y hy;have g2:=hlo y (by rw[zbx] at hm ⊢;rw[zbl];exact hm.imp id .inl);omega) hpo hn hvn hnd (λy hy=>by have:=hlo y hy;omega) (by omega)
  have hxb:h0.length∉b ::(G1++(G2++G3)):=λhm=>by have:=hlo _ hm;omega
  have hx0:hh[h0.length]?=some (.rows 2 36 false [[Iv 0,Iv 0]]):=by rw[mm.fr _ (by omega) (by simp)];simp
  have hxlt:h0.length<hh.length:=(Gz hx0).1;have hx9:h9[h0.length]?=some (.rows 2 36 false [[Iv 0,Iv 0]]):=by rw[m9.fr _ hxlt hxb];exact hx0
  have e10:=D5 (lo:=lo) (cs := [Iv (Bl p k s g l).2.time,Iv (Bl p k s g l).2.place]) (j:=0) (r:=0) (row := [Iv 0,Iv 0]) hx9 (by omega) rfl (Dz rfl);obtain ⟨m10,b10,k10,n10⟩:=m9.store hxlt hxb (.rows 2 36 false [[Iv (Bl p k s g l).2.time,Iv (Bl p k s g l).2.place]]);have hb9:b≠h0.length:=λe=>hxb (by rw[e];simp);refine ⟨_,row9,F9,KP ?_,rplaceN_ok.fr _ _ _ _ _ r9 λy hy=>k10 y λe=>n10 (by rw[<- e];simp[hy]),by rw[k10 b hb9];exact b9,b10,m10⟩;rw[k1,Ag,Ab,Af,Aa,k4,Ag,Ab,Ah,Af,k2,Ag,Ab,Af,Bq,k3,Ag,Ab,Af,Az];cases g;all_goals
   first | rw[Ap] | rw[Ay]
   rw[e9,Ac,AA,Ab,Aa,Ab,Aa,Af,e10,Ag];rfl)
 obtain ⟨b1,d1,b2,d2,b3,d3,rfl,_⟩:=hp;have hq:O4 p (Bl p k s g l).1=(Bl p k s g l).1:=by unfold O4;cases hpo:As p with | true=>rfl | false=>unfold Bl;rw[hpo];rfl
 rw[hq] at n rr;obtain ⟨s1,s2,s3,a1',c1',a2',c2',a3',c3',rfl,n1,n2,n3,rfl⟩:=n;have hx':h'[h0.length]?=some (.rows 2 36 false [[Iv (Bl p k s g l).2.time,Iv (Bl p k s g l).2.place]]):=by rw[hx];cases hpo:As p with | true=>rfl | false=>unfold Bl;rw[hpo];rfl
 have lx:ld h' h0.length 0 0 2=some [Iv (Bl p k s g l).2.time,Iv (Bl p k s g l).2.place]:=by rw[BT hx' rfl];rfl
 have ndx:=m.nd;rw[zbs] at ndx;refine ⟨(Bl p k s g l).1.cs a1' c1' a2' c2' a3' c3',_,h',F',MF ?_,Hs,rr,((m0.trans m1).trans m).lean ndx.2 λy hy=>by simp[hy]⟩;simp only[Place.cs] at e;rw[l3,l2,l1,hh0,e,Ac,Hz,Ab,AA,Ab,Aa,Ab,Aa,Ab,n1,Ab,n2,Ab,n3,Ab,AB,Af,Ab,Az];cases (As p&&true);all_goals
  first | rw[Ap] | rw[Ay]
  rw[Af,lx,Ag,Ab,Aa,Ab,Aa,Af]
end


variable {p:Place}
def I4 (p:Place) (f:Nat) (at':Int) (v:Ver):Bool := !((f:Int)==p.me)&&((at'==((JO p f).length:Int))&&(decide (((JO p f).length:Int)<60) && !Cb (JO p f) v.tag))
def Hj (p:Place) (f at':Int) (v:Ver):Bool:=An f 0 2&&(Ba v&&((v.tag.place==f)&&I4 p f.toNat at' v))
def JN (p:Place) (f:Nat) (v:Ver):Place:=⟨p.me,p.clock,p.chain,p.log,p.got.set f (JO p f ++ [v]),p.fell⟩
def Hg (p:Place) (f at':Int) (v:Ver):Place:=bif Hj p f at' v then JN p f.toNat v else p
theorem Pu {a:Option (List V)}:KV a a=true:=by unfold KV;exact (@decide_eq_true_iff _ (_)).2 rfl
theorem ZK {f:Nat}{v:Ver}{a1 a2 a3:Pq}{c1 c2 c3:Nq}:(JN p f v).cs a1 c1 a2 c2 a3 c3=p.cs a1 c1 a2 c2 a3 c3:=by simp only[Place.cs,JN,zbL]
section
variable {lo:Nat}{h:Heap}{F F' G:List Nat}{a a' av:Pq}{c c' cv:Nq}
theorem Ss {f:Nat}{at':Int}{v:Ver}{a1 a2 a3:Pq}{c1 c2 c3:Nq}{F3:List Nat} (hs3:RVss false h [.sl 1 a3 p.got.length c3] p.got F3) (hv:RTags false h [.sl 2 av v.past.length cv] v.past G)
  (hf:f<p.got.length) (hgn:p.got[f].length<=1000000) (hvn:v.past.length<=1048576) (hnd:F3.Nodup) (hlo:∀ b∈F3,lo<=b) (hl:lo<=h.length) :
  ∃ h' F3',Ae lo 260 [.agg (p.cs a1 c1 a2 c2 a3 c3),Iv (f:Nat),Iv at',.agg (v.cs av cv)] h=some (.tup [.agg (p.cs a1 c1 a2 c2 a3 c3),.bool (I4 p f at' v)],h') /\
   RVss false h' [.sl 1 a3 p.got.length c3] (bif I4 p f at' v then p.got.set f (p.got[f] ++ [v]) else p.got) F3'/\Mv h F3 h' F3'/\(I4 p f at' v=false->h'=h):=by
 suffices hq:∃ h' F3',_=some (V.tup [.agg (p.cs a1 c1 a2 c2 a3 c3),.bool (I4 p f at' v)],h')/\RVss false h' [.sl 1 a3 p.got.length c3] (bif I4 p f at' v then p.got.set f (p.got[f] ++ [v]) else p.got) F3'/\Mv h F3 h' F3'/\(I4 p f at' v=false->h'=h) from hq.imp λh' hq=>hq.imp λF' hq=>⟨QZ hq.1,hq.2⟩
 have hh:I4 p f at' v=(!((f:Int)==p.me)&&((at'==(p.got[f].length:Int))&&(decide ((p.got[f].length:Int)<60) && !Cb p.got[f] v.tag))):=by unfold I4;rw[I6 hf]
 rw[hh];cases x1:((f:Int)==p.me) with
 | true=>rw[Ap];exact ⟨h,F3,rfl,hs3,Mv.refl hnd,λ_=>rfl⟩
 | false =>
 obtain ⟨b,i,rs,row,G0,ha,hbF,hbG,hb,hrow,hel,hGF,hGn,_,put⟩:=hs3.at rvers_ok hf hnd hlo;have hrs:∃ s,row = [s]:=by obtain ⟨R',a',c',e,_⟩:=id hel;exact ⟨_,e⟩
 obtain ⟨s,rfl⟩:=hrs;obtain ⟨b3,d3,es,r3⟩:=hel.form;have hld:ld h b (i+f) 0 1=some [s]:=by rw[BT hb hrow];rfl
 rw[Ay,Ad hf,ha,Ag,Bm,hld,Ag,Ab,Af,es];cases x2:(at'==(p.got[f].length:Int)) with
 | false=>rw[Ay];exact ⟨h,F3,rfl,by rw[<- ha];exact hs3,Mv.refl hnd,λ_=>rfl⟩
 | true =>
 have hat:at'=(p.got[f].length:Int):=by rwa [beq_iff_eq] at x2
 rw[Ap];cases x3:decide ((p.got[f].length:Int)<60) with
 | false =>
  have:(p.got[f].length:Int)>=60:=by have:=of_decide_eq_false x3;omega
  rw[Ak (by omega)];exact ⟨h,F3,rfl,by rw[<- ha];exact hs3,Mv.refl hnd,λ_=>rfl⟩
 | true =>
 have:(p.got[f].length:Int)<60:=of_decide_eq_true x3;rw[Aj (by omega),Ad hf,Ag,hld,Ag,Ab,Af,es,KS r3 (by omega),Ac,Az];have hht:Cb p.got[f] ⟨v.tag.time,v.tag.place⟩=Cb p.got[f] v.tag:=rfl;rw[hht];cases x4:Cb p.got[f] v.tag with
 | true=>rw[Ap];exact ⟨h,F3,rfl,by rw[<- ha];exact hs3,Mv.refl hnd,λ_=>rfl⟩
 | false =>
 obtain ⟨a5,c5,h5,F5,e5,r5,m5⟩:=CJ (lo:=h.length) (v:=v) hv (zbo _) hvn;obtain ⟨a6,c6,h6,F6,e6,r6,m6⟩:=E0 (lo:=lo) (bytes:=72) (e:=43) rver_ok r3 (row:=v.cs a5 c5) (x:=v) (G:=F5) (h1:=h5 ++ [.rows 6 43 false [v.cs a5 c5]])
  ⟨_,rfl,Mv.snoc.keep0 rtags_ok r5⟩ (m5.trans (Mv.snoc' m5.nd)) hGn (λy hy=>hlo y (hGF y hy)) hl (by decide) (by omega)
 rw[show p.got[f].length+1=(p.got[f] ++ [v]).length by simp] at r6;obtain ⟨h7,F7,e7,r7,m7,_⟩:=put h6 F6 0 [.sl 6 a6 (p.got[f] ++ [v]).length c6] [.sl 6 a6 (p.got[f] ++ [v]).length c6] (p.got[f] ++ [v]) m6 rfl r6;rw[show (p.got[f] ++ [v]).length=p.got[f].length+1 by simp] at e7;rw[Ay,Ad hf,Ag,hld,Ag,Ab,Af,es,e5,Ac,AA,Ab,Aa,Ab,Aa,Ab,Aa,Ab,Ah,Ab,Bq,Ab,AB,Af,A9];simp only[Ver.cs] at e6;rw[e6,Ah,Ad hf,Ag,e7,Ag];exact ⟨h7,F7,rfl,by rw[<- ha];exact r7,m7,λg=>by cases g⟩
end


variable {c t:Int}{s:ByteArray}{i:Nat}{x:Node}{k m:Int}
theorem Ie {a b d:Int}:GA a b c d=false<->¬ (a<c\/(a=c/\b<d)):=by rw[<- Bool.not_eq_true];simp[GA]
theorem under_iff {p q:List Tag}:B4 p q=true<->∀ (i:Nat) (a b:Tag),p[i]?=some a->q[i]?=some b->GA b.time b.place a.time a.place=false:=by
 unfold B4;rw[zby];constructor
 ·intro h i a b ha hb;have:=h (a,b) (zbC.2 ⟨i,zcZ.2 ⟨ha,hb⟩⟩);simpa using this
 ·rintro h ⟨a,b⟩ hm
  obtain ⟨i,hi⟩:=zbC.1 hm;rw[zcZ] at hi;simpa using h i a b hi.1 hi.2
theorem HW {p:List Tag}:B4 p p=true:=under_iff.2 λi a b ha hb=>by rw[ha] at hb;injection hb with hb;subst hb;rw[Ie];omega
theorem TE {p q r:List Tag} (hl:p.length<=q.length) (h1:B4 p q=true) (h2:B4 q r=true):B4 p r=true:=under_iff.2 λi a c ha hc=>by have hi:=(Gz ha).1;have hb:=Dx (l:=q) (i:=i) (by omega);have x1:=under_iff.1 h1 i a _ ha hb;have x2:=under_iff.1 h2 i _ c hb hc;rw[Ie] at x1 x2 ⊢;omega
theorem MQ {t s:List Ver} (h:upS t s):B4 (Bt t) (Bt s)=true:=under_iff.2 λi a b ha hb=>by
 unfold Bt at ha hb;rw[zcI,zbY] at ha hb;obtain ⟨x,hx,rfl⟩:=ha;obtain ⟨y,hy,rfl⟩:=hb;rw[Ie];rcases h i x y hx hy with rfl | g
 ·omega
 ·rw[IZ] at g;omega
def inCh (l:List Node) (v:Ver):Prop:=∃ x∈l,v∈x.store\/v∈x.wait
section
variable {l:List Node}{v:Ver}
theorem inCh.get (h:inCh l v):∃ (i:Nat) (x:Node),l[i]?=some x/\(v∈x.store\/v∈x.wait):=by obtain ⟨x,hx,hv⟩:=h;obtain ⟨i,hi⟩:=zbC.1 hx;exact ⟨i,x,hi,hv⟩
theorem inCh.of (hx:l[i]?=some x) (hv:v∈x.store\/v∈x.wait):inCh l v:=⟨x,zbF hx,hv⟩
theorem Ch.ver (h:Ch l) (hv:inCh l v) (ht:0<v.tag.time):Ba v=true:=by
 obtain ⟨i,x,hx,g | g⟩:=hv.get
 ·obtain ⟨j,hj⟩:=zbC.1 g;rcases Dl (HY (h.store hx).1 hj) with g2 | g2
  ·have:=(EJ g2).1;omega
  ·exact g2.1
 ·exact (AH (h.node i x hx)).2.2 v g
theorem Dj (hx:l[i]?=some x) (hi:i+1=l.length):AW l=Bt x.store:=by
 rw[If (show 0<l.length by omega)];obtain ⟨hj,rfl⟩:=Gz hx;have e:l.length - 1=i:=by omega
 simp only[e]
theorem HR (hx:l[i]?=some x) (hi:i+1=l.length):D0 l=x.store:=by
 rw[EF (show 0<l.length by omega)];obtain ⟨hj,rfl⟩:=Gz hx;have e:l.length - 1=i:=by omega
 simp only[e]
theorem Ch.tail (h:Ch l):∃ z,l[l.length - 1]?=some z/\l.length - 1+1=l.length:=by have:=h.pos;exact ⟨_,Dx (by omega),by omega⟩
theorem Ch.four (h:Ch l):(AW l).length=4/\(D0 l).length=4:=by obtain ⟨z,hz,hi⟩:=h.tail;rw[Dj hz hi,HR hz hi];have:=(h.store hz).2;exact ⟨by simpa [Bt] using this,this⟩
theorem Nd (h:Ch l):(Ih l).length=l.length+1/\AW (Ih l)=AW l/\D0 (Ih l)=D0 l/\(Ih l)[0]?=l[0]?:=by
 have hp:=h.pos;obtain ⟨z,hz,hi⟩:=h.tail;obtain ⟨hj,e⟩:=Gz hz;have hn:(Ih l)[l.length]?=some ⟨z.store,[]⟩:=by rw[GP (by omega),zbG (zbo _),Nat.sub_self,e];rfl
 have hl:(Ih l).length=l.length+1:=by rw[GP (by omega)];simp
 refine ⟨hl,?_,?_,?_⟩
 ·rw[Dj hn (by omega),Dj hz hi]
 ·rw[HR hn (by omega),HR hz hi]
 ·rw[GP (by omega),zbn (by omega)]
theorem RX (hp:1<=l.length) (hv:inCh (Ih l) v):inCh l v:=by
 rw[GP (by omega)] at hv;obtain ⟨x,hx,g⟩:=hv;rcases zbl.1 hx with hx | hx
 ·exact ⟨x,hx,g⟩
 ·rw[zbr] at hx;subst hx;rcases g with g | g
  ·exact ⟨_,zbk (by omega),.inl g⟩
  ·exact absurd g (by simp)
theorem RY {k:Nat} (hk:k<l.length) (hv:inCh (CA l k) v):inCh l v:=by
 obtain ⟨i,x,hx,g⟩:=hv.get;rw[I7 hk] at hx;split at hx
 ·rw[zbY] at hx;obtain ⟨z,hz,rfl⟩:=hx;rcases g with g | g
  ·exact .of hz (.inl g)
  ·simp only at g;split at g
   ·exact .of hz (.inl (Nb g))
   ·simp at g
 ·split at hx
  ·exact .of hx g
  ·exact .of hx g
theorem Ma {j:Nat}{u:Ver} (hv:inCh (Fp l j u) v):inCh l v\/v=u:=by
 unfold Fp at hv;split at hv
 ·rename_i x hx
  split at hv
  ·rename_i w hw
   cases hl:A7 w u with
   | false=>rw[hl] at hv;exact .inl hv
   | true =>
    rw[hl,cond_true] at hv;obtain ⟨y,hy,g⟩:=hv;rcases zbI hy with hy | rfl
    ·exact .inl ⟨y,hy,g⟩
    ·rcases g with g | g
     ·rcases zbI g with g | rfl
      ·exact .inl (.of hx (.inl g))
      ·exact .inr rfl
     ·simp only at g;cases hd:decide (j+1<l.length) with
      | false=>rw[hd] at g;exact .inl (.of hx (.inr g))
      | true =>
       rw[hd,cond_true] at g;rcases zbl.1 g with g | g
       ·exact .inl (.of hx (.inr g))
       ·exact .inr (by simpa using g)
  ·exact .inl hv
 ·exact .inl hv
theorem RW (hc:De l k=true) (hv:inCh (HH l k.toNat) v):inCh l v:=by
 obtain ⟨f,x,y,u,r,rfl,hx,hy,hw,hr⟩:=H8 hc;rw[Bm,LX hx hw] at hv;rcases Ma hv with ⟨z,hz,g⟩ | rfl
 ·rcases zbI hz with hz | rfl
  ·exact ⟨z,hz,g⟩
  ·rcases g with g | g
   ·exact .of hx (.inl g)
   ·exact .of hx (.inr (by rw[hw];simp only at g;simp[g]))
 ·exact .of hx (.inr (by rw[hw];simp))
theorem Ll (h:Ch l):Ed l=true<->∀ v,inCh l v->0<v.tag.time->B4 v.past (AW l)=true:=by
 unfold Ed Fg;rw[zby];constructor
 ·rintro hc v ⟨x,hx,g⟩ ht
  have:=hc x hx;rw[DH,zby,zby] at this;rcases g with g | g
  ·have:=this.1 v g;rw[zb6,zb2,decide_eq_false_iff_not] at this;exact this.resolve_left λhn=>hn ht
  ·exact this.2 v g
 ·intro hc x hx;rw[DH,zby,zby];refine ⟨λv hv=>?_,λv hv=>?_⟩
  ·by_cases ht:v.tag.time>0
   ·rw[hc v ⟨x,hx,.inl hv⟩ ht,Bool.or_true]
   ·rw[decide_eq_false ht];rfl
  ·obtain ⟨i,hi⟩:=zbC.1 hx;exact hc v ⟨x,hx,.inr hv⟩ (GH ((AH (h.node i x hi)).2.2 v hv))
theorem E2 (hx:l[0]?=some x):D2 l c=true<->∀ v∈x.store,v.tag.time<=c:=by unfold D2;rw[hx];simp
theorem Uz (h:Ch l) {k:Nat} (hk:k<l.length) (h2:1<l.length):B4 (AW l) (AW (CA l k))=true:=by
 have hlen:=KA hk h2;obtain ⟨z,hz,hi⟩:=h.tail;obtain ⟨z',hz',hi'⟩:=(h.fall hk h2).tail;rw[Dj hz hi,Dj hz' hi'];rw[I7 hk] at hz';split at hz'
 ·rename_i e
  rw[zbY] at hz';obtain ⟨w,hw,rfl⟩:=hz';exact MQ (h.up 1 _ w z hw (by rw[show (CA l k).length - 1+1=l.length - 1 by omega];exact hz))
 ·rename_i e
  split at hz'
  ·omega
  ·rw[show (CA l k).length - 1+1=l.length - 1 by omega,hz] at hz';injection hz' with hz';subst hz';exact HW
theorem Wc (h:Ch l) (hv:Ba v=true):B4 (AW l) (AW (Fp l 0 v))=true:=by
 have hp:=h.pos;have hz:l[0]?=some (l[0]'(by omega)):=Dx (by omega);obtain ⟨u,hu⟩:=h.key hz hv;rw[Iq hz hu];cases hl:A7 u v with
 | false=>exact HW
 | true =>
  rw[cond_true];by_cases h1:l.length=1
  ·rw[Dj hz (by omega),Dj (i:=0) (zbA (by omega)) (by simpa using h1.symm)];exact MQ (upS.set hu hl)
  ·obtain ⟨z,hz',hi⟩:=h.tail;rw[Dj hz' hi,Dj (i:=l.length - 1) (by rw[zbq (by omega)];exact hz') (by simpa using hi)];exact HW
theorem T6 (h:Ch l) (hc:De l k=true):B4 (AW l) (AW (HH l k.toNat))=true:=by
 obtain ⟨f,x,y,v,r,rfl,hx,hy,hw,hr⟩:=H8 hc;have hlk:=h.link f x y hx hy;rw[hw] at hlk;obtain ⟨u,hu,hl,_⟩:=fitsL_cons.1 hlk;have hf1:=(Gz hy).1;obtain ⟨z,hz,hi⟩:=h.tail;have hy':(l.set f ⟨x.store,r⟩)[f+1]?=some y:=by rw[zbq (by omega)];exact hy
 rw[Bm,LX hx hw,Iq hy' hu,hl,cond_true,Dj hz hi];by_cases he:f+1=l.length - 1
 ·rw[he,hz] at hy;injection hy with hy;subst hy;rw[Dj (i:=f+1) (zbA (by simpa using hf1)) (by simp;omega)];exact MQ (upS.set hu hl)
 ·rw[Dj (i:=l.length - 1) (x:=z) (by rw[zbq (by omega),zbq (by omega)];exact hz) (by simpa using hi)];exact HW
theorem XY {t s:List Ver} (h:upS t s) (hl:t.length<=s.length) (hs:∀ v∈s,v.tag.time<=c):∀ v∈t,v.tag.time<=c:=λv hv=>by
 obtain ⟨i,hi⟩:=zbC.1 hv;have hlt:=(Gz hi).1;have hy:=Dx (l:=s) (i:=i) (by omega);have:=hs _ (zbk (show i<s.length by omega));rcases h i v _ hi hy with rfl | g
 ·exact this
 ·rw[IZ] at g;omega
theorem XE (h:Ch l) {k:Nat} (hk:k<l.length) (h2:1<l.length) (hh:D2 l c=true):D2 (CA l k) c=true:=by
 have hlen:=KA hk h2;have h0:l[0]?=some (l[0]'(by omega)):=Dx (by omega);have h1:l[1]?=some (l[1]'(by omega)):=Dx (by omega);have hh0:=(E2 h0).1 hh;have hx:(CA l k)[0]?=some ((CA l k)[0]'(by omega)):=Dx (by omega);rw[E2 hx];rw[I7 hk] at hx;split at hx
 ·rw[h0,zct] at hx;injection hx with hx;rw[<- hx];exact hh0
 ·split at hx
  ·rw[h0] at hx;injection hx with hx;rw[<- hx];exact hh0
  ·rw[zbQ,h1] at hx;injection hx with hx;rw[<- hx];exact XY (h.up 1 0 _ _ h0 h1) (by rw[(h.store h0).2,(h.store h1).2];exact zbo _) hh0
theorem Zg (h:Ch l) (hv:Ba v=true) (hh:D2 l c=true) (hc:c<=t) (hvt:v.tag.time<=t):D2 (Fp l 0 v) t=true:=by
 have hp:=h.pos;have hz:l[0]?=some (l[0]'(by omega)):=Dx (by omega);obtain ⟨u,hu⟩:=h.key hz hv;have hh0:=(E2 hz).1 hh;rw[Iq hz hu];cases hl:A7 u v with
 | false=>rw[cond_false,E2 hz];exact λw hw=>by have:=hh0 w hw;omega
 | true =>
  rw[cond_true,E2 (zbA (by omega))];intro w hw;rcases zbI hw with hw | rfl
  ·have:=hh0 w hw;omega
  ·exact hvt
theorem Xg (h:Ch l) (hc:De l k=true) (hh:D2 l c=true):D2 (HH l k.toNat) c=true:=by
 obtain ⟨f,x,y,v,r,rfl,hx,hy,hw,hr⟩:=H8 hc;have hlk:=h.link f x y hx hy;rw[hw] at hlk;obtain ⟨u,hu,hl,_⟩:=fitsL_cons.1 hlk;have hf:=(Gz hx).1;have hy':(l.set f ⟨x.store,r⟩)[f+1]?=some y:=by rw[zbq (by omega)];exact hy
 rw[Bm,LX hx hw,Iq hy' hu,hl,cond_true];by_cases h0:f=0
 ·subst h0;rw[E2 (x:=⟨x.store,r⟩) (by rw[zbq (by omega),zbA hf])];exact (E2 hx).1 hh
 ·have hz:l[0]?=some (l[0]'(by omega)):=Dx (by omega);rw[E2 (x:=l[0]'(by omega)) (by rw[zbq (by omega),zbq (by omega)];exact hz)];exact (E2 hz).1 hh
end
theorem Yj {p:Place} (h1:0<=p.me/\p.me<=2) (h2:0<=p.clock/\p.clock<=999) (h3:p.got.length=3) (h4:Cs p.chain=true) (h5:Ed p.chain=true) (h6:Eb p.me p.log=true)
  (h7:∀ i (hi:i<p.got.length),ID p.me i p.got[i]=true) (h8:D2 p.chain p.clock=true):As p=true:=by
 unfold As;simp only[DH,EG,decide_eq_true_eq,An];exact ⟨⟨⟨⟨⟨⟨⟨h1,h2⟩,h3⟩,h4⟩,h5⟩,h6⟩,h7⟩,h8⟩
theorem zaB {l:List Ver} (h1:l.length<=60) (h2:∀ i (hi:i<l.length),Ba l[i]=true/\l[i].tag.place=m/\Cb (l.take i) l[i].tag=false):Eb m l=true:=by unfold Eb;rw[DH,EG,decide_eq_true_eq];refine ⟨λi hi=>?_,by omega⟩;obtain ⟨g1,g2,g3⟩:=h2 i hi;unfold L5;rw[g1,g2,g3];simp
theorem Ug {l:List Ver}{v:Ver} (h:Eb m l=true) (hv:Ba v=true) (hp:v.tag.place=m) (ht:Cb l v.tag=false) (hl:l.length<60):Eb m (l ++ [v])=true:=by
 obtain ⟨h1,h2⟩:=HQ h;refine zaB (by simp;omega) λi hi=>?_;by_cases hil:i<l.length
 ·rw[List.getElem_append_left hil,zcS (by omega)];exact h2 i hil
 ·have e:i=l.length:=by simp at hi;omega
  subst e;rw[List.getElem_append_right (zbo _),zcS (zbo _),List.take_length];simp only[Nat.sub_self,List.getElem_cons_zero];exact ⟨hv,hp,ht⟩
theorem RN {m:Int}:∀ {vs l:List Ver},(∀ v∈vs,0<v.tag.time->Ba v=true)->Eb m l=true->l.length+vs.length<=60->Eb m (vs.foldl (noted m) l)=true
 | [],l,_,h,_=>h
 | v :: vs,l,hv,h,hl=>by
  rw[zb7] at hl;rw[zb3];have h3:=Xl (me:=m) (log:=l) (v:=v);refine RN (λw hw=>hv w (by simp[hw])) ?_ (by omega);unfold noted;cases hc:(decide (v.tag.time>0)&&(v.tag.place==m && !Cb l v.tag)) with
  | false=>exact h
  | true =>simp only[DH,decide_eq_true_eq,beq_iff_eq,zb2] at hc;exact Ug h (hv v (by simp) hc.1) hc.2.1 hc.2.2 (by omega)
theorem hasTag_mem {l:List Ver}{t:Tag}:Cb l t=true<->∃ v∈l,v.tag=t:=by
 unfold Cb;rw[List.any_eq_true];constructor
 ·rintro ⟨v,hv,g⟩
  rw[DH,beq_iff_eq,beq_iff_eq] at g;exact ⟨v,hv,by cases hv:v.tag;cases t;simp_all⟩
 ·rintro ⟨v,hv,rfl⟩
  exact ⟨v,hv,by simp⟩
theorem MY {m:Int}:∀ {vs l:List Ver},(∀ v∈vs,0<v.tag.time->v.tag.place=m->Cb (vs.foldl (noted m) l) v.tag=true)/\∃ r,vs.foldl (noted m) l=l++r
 | [],l=>⟨by simp,[],by simp⟩
 | v :: vs,l=>by
  obtain ⟨h1,r,h2⟩:=MY (m:=m) (vs:=vs) (l:=noted m l v);rw[zb3];have hr:∃ r',noted m l v=l++r':=by
   unfold noted;cases decide (v.tag.time>0)&&(v.tag.place==m && !Cb l v.tag)
   ·exact ⟨[],by simp⟩
   ·exact ⟨[v],rfl⟩
  obtain ⟨r',hr'⟩:=hr;refine ⟨λw hw ht hp=>?_,r'++r,by rw[h2,hr',zbB]⟩;rcases zbx.1 hw with rfl | hw
  ·have hx:Cb (noted m l w) w.tag=true:=by
    unfold noted;rw[decide_eq_true ht,hp,Kl,zbK,zbK];cases hc:Cb l w.tag with
    | true=>exact hc
    | false=>exact hasTag_mem.2 ⟨w,by simp,rfl⟩
   obtain ⟨u,hu,e⟩:=hasTag_mem.1 hx;rw[h2];exact hasTag_mem.2 ⟨u,zbM _ hu,e⟩
  ·exact h1 w hw ht hp
section
variable {p:Place}
theorem HI (h:As p=true):Ch p.chain:=chain_iff.1 (AX h).2.2.2.1
theorem Ys (h:Ch p.chain):∀ v∈D0 p.chain,0<v.tag.time->Ba v=true:=λv hv ht=>by obtain ⟨z,hz,hi⟩:=h.tail;rw[HR hz hi] at hv;exact h.ver (.of hz (.inl hv)) ht
theorem OP (h:As p=true) (hl:p.log.length<=56):As (BE p)=true:=by have hc:=HI h;obtain ⟨h1,h2,h3,h4,h5,h6,h7,h8⟩:=AX h;exact Yj (p:=BE p) h1 h2 h3 h4 h5 (RN (Ys hc) h6 (by have:=hc.four.2;omega)) h7 h8
theorem LY {l':List Node}{f:Bool} (h:As p=true) (hc:Ch l') (hv:∀ v,inCh l' v->0<v.tag.time->inCh p.chain v\/B4 v.past (AW p.chain)=true)
  (hs:B4 (AW p.chain) (AW l')=true) (ht:0<=t/\t<=999) (hh:D2 l' t=true):As ⟨p.me,t,l',p.log,p.got,f⟩=true:=by
 have hc0:=HI h;obtain ⟨h1,h2,h3,h4,h5,h6,h7,h8⟩:=AX h;refine Yj (p:=⟨p.me,t,l',p.log,p.got,f⟩) h1 ht h3 (chain_iff.2 hc) ((Ll hc).2 λv hvc hvt=>?_) h6 h7 hh;have hpl:=Bx (AT (hc.ver hvc hvt)).2.2.2.1;refine TE (by rw[hpl,hc0.four.1];exact zbo _) ?_ hs;rcases hv v hvc hvt with g | g
 ·exact (Ll hc0).1 h5 v g hvt
 ·exact g
theorem ZB (h:As p=true):As (L7 p)=true:=by
 have hc:=HI h;have hp:=hc.pos;unfold L7 Kr;cases hj:Gc p.chain with
 | false=>rw[cond_false];exact h
 | true =>
  have hl:p.chain.length<4:=by unfold Gc at hj;have:=of_decide_eq_true hj;omega
  obtain ⟨_,e1,e2,e3⟩:=Nd hc;have h8:=(AX h).2.2.2.2.2.2.2;rw[cond_true];refine LY h (hc.join hl) (λv hv _ => .inl (RX hp hv)) (by rw[e1];exact HW) (AX h).2.1 ?_;unfold D2 at h8 ⊢;rw[e3];exact h8
theorem P1 {l:List Node} (h:Jb l k=true):∃ f:Nat,k=(f:Int)/\f<l.length/\1<l.length:=by simp only[Jb,An,DH,decide_eq_true_eq] at h;exact ⟨k.toNat,by omega,by omega,h.2⟩
theorem ZD (h:As p=true) (hl:p.log.length<=56):As (E9 p k)=true:=by
 have hc:=HI h;unfold E9;cases hf:Ep p k with
 | false=>exact h
 | true =>unfold Ep at hf;rw[DH] at hf;obtain ⟨f,rfl,h1,h2⟩:=P1 hf.2;rw[cond_true,Bm];refine OP ?_ hl;exact LY h (hc.fall h1 h2) (λv hv _ => .inl (RY h1 hv)) (Uz hc h1 h2) (AX h).2.1 (XE hc h1 h2 (AX h).2.2.2.2.2.2.2)
theorem ZA (h:As p=true) (hl:p.log.length<=56):As (E8 p k)=true:=by
 have hc:=HI h;unfold E8;cases hf:De p.chain k with
 | false=>exact h
 | true =>rw[cond_true];refine OP ?_ hl;exact LY h (hc.pass hf) (λv hv _ => .inl (RW hf hv)) (T6 hc hf) (AX h).2.1 (Xg hc hf (AX h).2.2.2.2.2.2.2)
theorem Yk {v:Ver} (h:As p=true) (hv:Ba v=true) (hr:DG p.chain 0=true) (hu:B4 v.past (AW p.chain)=true) (h1:p.clock<=t) (h2:v.tag.time<=t) (h3:t<=999):As (EN p 0 t v)=true:=by have hc:=HI h;have hcl:=(AX h).2.1;exact LY h (hc.add hv hr) (λw hw _=>(Ma hw).imp id λe=>by rw[e];exact hu) (Wc hc hv) ⟨by omega,h3⟩ (Zg hc hv (AX h).2.2.2.2.2.2.2 h1 h2)
theorem Ym:t<=GD t c/\c<=GD t c/\(GD t c=t\/GD t c=c):=by unfold GD;split<;>omega
theorem Ui {f:Nat}{v:Ver} (h:As p=true) (hv:Ju p f=some v):Ba v=true/\v.tag.place=(f:Int)/\(f:Int)≠p.me/\f<3:=by
 unfold Ju at hv;have hm:=List.mem_of_find?_eq_some hv;unfold JO at hm;have h3:=(AX h).2.2.1;cases hg:p.got[f]? with
 | none=>rw[hg] at hm;simp at hm
 | some l =>rw[hg] at hm;simp only at hm;obtain ⟨hf,rfl⟩:=Gz hg;have g:=(AX h).2.2.2.2.2.2.1 f hf;unfold ID at g;rw[DH] at g;obtain ⟨i,hi,rfl⟩:=zbV.1 hm;obtain ⟨q1,q2,_⟩:=(HQ g.1).2 i hi;refine ⟨q1,q2,λe=>?_,by omega⟩;have:=g.2;rw[e,Kl,zb5,zcn,decide_eq_true_eq] at this;omega
theorem Zz (h:As p=true) (hl:p.log.length<=56):As (E7 p k)=true:=by
 unfold E7;cases hk:Eo p k with
 | false=>exact h
 | true =>
  rw[cond_true];unfold Eo at hk;rw[DH] at hk;have hk:=hk.2;unfold LM at hk;unfold LN;cases hv:Ju p k.toNat with
  | none=>exact h
  | some v =>rw[hv] at hk;simp only[DH] at hk;obtain ⟨v1,v2,v3,v4⟩:=Ui h hv;have:=DW (AT v1).2.2.2.2.1;have hcl:=(AX h).2.1;have hn:=Ym (t:=v.tag.time) (c:=p.clock);exact OP (Yk h v1 hk.1 hk.2 hn.2.1 hn.1 (by omega)) hl
theorem M7 {g:Bool}{l:List Tag} (h:As p=true) (hc:AO p k s g l=true):Ba (By p k s g l)=true:=by
 rw[Kj,DH] at hc;have hm:=hc.2;obtain ⟨h1,h2,h3,h4,h5,h6,h7,h8⟩:=EM (by rw[Kj,hc.1,hc.2];rfl:AO p k s g l=true);have ht:=Ks h h4;have hme:=(AX h).1;unfold Ba;rw[DH,DH];refine ⟨⟨hc.1,?_⟩,?_⟩
 ·show A6 (AC p l) p.me=true;simp[A6,An];omega
 ·show decide (DT l<AC p l)=true;exact decide_eq_true (by omega)
theorem PB {g:Bool}{l:List Tag} (h:As p=true):As (Bl p k s g l).1=true:=by
 rw[LI h];cases hc:AO p k s g l with
 | false=>exact h
 | true =>obtain ⟨h1,h2,h3,h4,h5,h6,h7,h8⟩:=EM hc;have ht:=Ks h h4;exact OP (Yk h (M7 h hc) h6 h5 (by omega) (zcW _) h7) (by show p.log.length<=56;omega)
theorem ZC {f a:Int}{v:Ver} (h:As p=true):As (Hg p f a v)=true:=by
 unfold Hg;cases hc:Hj p f a v with
 | false=>exact h
 | true =>
  simp only[Hj,I4,An,DH,decide_eq_true_eq,beq_iff_eq,zb2] at hc;obtain ⟨⟨h1,h2⟩,h3,h4,h5,h6,h7,h8⟩:=hc;obtain ⟨q1,q2,q3,q4,q5,q6,q7,q8⟩:=AX h;have hf:f.toNat<p.got.length:=by omega
  have e:((f.toNat:Nat):Int)=f:=by omega
  rw[cond_true];refine Yj (p:=JN p f.toNat v) q1 q2 (by simpa [JN] using q3) q4 q5 q6 (λi hi=>?_) q8;have hi':i<p.got.length:=by simpa [JN] using hi
  show ID p.me i ((p.got.set f.toNat (JO p f.toNat ++ [v]))[i]'(by simpa using hi'))=true;rw[List.getElem_set];split
  ·rename_i ei
   subst ei;rw[I6 hf] at h7 h8 ⊢;unfold ID;rw[Ug (SM h hf) h3 (by omega) h8 (by omega),zbK];rw[beq_eq_false_iff_ne] at h5;rw[beq_eq_false_iff_ne.2 h5];rfl
  ·exact q7 i hi'
end


structure Sess where
 place:Int
 past:List Tag
 wait:Tag
 key:Int
structure Done where
 sess:Int
 kind:Int
 key:Int
 tag:Tag
structure World where
 places:List Place
 sess:List Sess
 net:List Frame
 hist:List Done
abbrev zaF (ro:Bool):Nat:=bif ro then 197 else 29
abbrev za1 (ro:Bool):Nat:=bif ro then 204 else 66
abbrev YR (ro:Bool):Nat:=bif ro then 209 else 123
abbrev za2 (ro:Bool):Nat:=bif ro then 218 else 126
abbrev Sess.cs (s:Sess) (a:Pq) (c:Nq):List V := [Iv s.place,.sl 2 a s.past.length c,Iv s.wait.time,Iv s.wait.place,Iv s.key]
abbrev Done.cs (d:Done):List V := [Iv d.sess,Iv d.kind,Iv d.key,Iv d.tag.time,Iv d.tag.place]
abbrev World.cs (w:World) (a1:Pq) (c1:Nq) (a2:Pq) (c2:Nq) (a3:Pq) (c3:Nq) (a4:Pq) (c4:Nq):List V :=
 [.sl 6 a1 w.places.length c1,.sl 5 a2 w.sess.length c2,.sl 9 a3 w.net.length c3,.sl 5 a4 w.hist.length c4]
abbrev RPlaces (ro:Bool):Rel (List Place):=Sli ro 6 (zaF ro) (RPlace ro)
def RSess (ro:Bool):Rel Sess:=λh cs s F=>∃ v,cs = [Iv s.place,v,Iv s.wait.time,Iv s.wait.place,Iv s.key]/\RTags ro h [v] s.past F
abbrev RSesss (ro:Bool):Rel (List Sess):=Sli ro 5 (za1 ro) (RSess ro)
abbrev RFrames (ro:Bool):Rel (List Frame):=Sli ro 9 (YR ro) (We ro)
abbrev RDones (ro:Bool):Rel (List Done):=Sli ro 5 (za2 ro) (flat Done.cs)
def Tc (ro:Bool):Rel World:=λh cs w F=>∃ s1 s2 s3 s4 F1 F2 F3 F4,cs = [s1,s2,s3,s4]/\F=F1++(F2++(F3++F4))/\RPlaces ro h [s1] w.places F1/\RSesss ro h [s2] w.sess F2/\RFrames ro h [s3] w.net F3/\RDones ro h [s4] w.hist F4
theorem rplaces_ok {ro:Bool}:(RPlaces ro).Ok:=Sli.ok rplace_ok
theorem IW {ro:Bool}:(RSess ro).Ok :=
 ⟨λh h' cs x F ⟨s,h1,h2⟩ hb=>⟨s,h1,rtags_ok.fr _ _ _ _ _ h2 hb⟩,λh cs x F ⟨s,_,h2⟩=>rtags_ok.bd _ _ _ _ h2⟩
theorem rsesss_ok {ro:Bool}:(RSesss ro).Ok:=Sli.ok IW
theorem rframes_ok {ro:Bool}:(RFrames ro).Ok:=Sli.ok rframe_ok
theorem rdones_ok {ro:Bool}:(RDones ro).Ok:=Sli.ok CF
section
variable {ro:Bool}{h:Heap}{F:List Nat}{a:Pq}{c:Nq}{n k:Nat}
theorem RPlaces.get {l:List Place} (hs:RPlaces ro h [.sl 6 a n c] l F) (hk:k<l.length):∃ o s1 s2 s3 a1 c1 a2 c2 a3 c3 F1 F2 F3,a=some o /\
  ld h o.1 (o.2+k) 0 6=some [Iv l[k].me,Iv l[k].clock,s1,s2,s3,.bool l[k].fell]/\ld h o.1 (o.2+k) 0 1=some [Iv l[k].me]/\ld h o.1 (o.2+k) 2 1=some [s1]/\ld h o.1 (o.2+k) 3 1=some [s2]/\ld h o.1 (o.2+k) 4 1=some [s3] /\
  (∀ {R':Type} (K:Pq->Nat->Nq->Option R'),eS 2 s1 K=K a1 l[k].chain.length c1)/\(∀ {R':Type} (K:Pq->Nat->Nq->Option R'),eS 6 s2 K=K a2 l[k].log.length c2) /\
  (∀ {R':Type} (K:Pq->Nat->Nq->Option R'),eS 1 s3 K=K a3 l[k].got.length c3) /\
  RNodes ro h [.sl 2 a1 l[k].chain.length c1] l[k].chain F1/\RVers ro h [.sl 6 a2 l[k].log.length c2] l[k].log F2/\RVss ro h [.sl 1 a3 l[k].got.length c3] l[k].got F3/\(∀ b,b∈F1\/b∈F2\/b∈F3->b∈F):=by
 obtain ⟨o,row,G,h1,h2,hv,hG,_⟩:=hs.read hk;obtain ⟨s1,s2,s3,a1,c1,a2,c2,a3,c3,F1,F2,F3,rfl,rfl,e1,e2,e3,g1,g2,g3⟩:=hv.form;exact ⟨o,s1,s2,s3,a1,c1,a2,c2,a3,c3,F1,F2,F3,h1,by rw[h2];rfl,by rw[h2];rfl,by rw[h2];rfl,by rw[h2];rfl,by rw[h2];rfl,e1,e2,e3,g1,g2,g3,λb hb=>hG b (by simpa using hb)⟩
theorem RSess.form {row:List V}{s:Sess} (hv:RSess ro h row s F):∃ v a c,row = [Iv s.place,v,Iv s.wait.time,Iv s.wait.place,Iv s.key] /\
  (∀ {R':Type} (K:Pq->Nat->Nq->Option R'),eS 2 v K=K a s.past.length c)/\RTags ro h [.sl 2 a s.past.length c] s.past F:=by
 obtain ⟨v,rfl,hp⟩:=hv;obtain ⟨a,c,es,hp2⟩:=hp.form;exact ⟨v,a,c,rfl,es,hp2⟩
theorem RSesss.get {l:List Sess} (hs:RSesss ro h [.sl 5 a n c] l F) (hk:k<l.length):∃ o v a' c' G,a=some o/\ld h o.1 (o.2+k) 0 5=some [Iv l[k].place,v,Iv l[k].wait.time,Iv l[k].wait.place,Iv l[k].key] /\
  ld h o.1 (o.2+k) 0 1=some [Iv l[k].place]/\ld h o.1 (o.2+k) 1 1=some [v] /\
  (∀ {R':Type} (K:Pq->Nat->Nq->Option R'),eS 2 v K=K a' l[k].past.length c')/\RTags ro h [.sl 2 a' l[k].past.length c'] l[k].past G/\(∀ b∈G,b∈F):=by
 obtain ⟨o,row,G,h1,h2,hv,hG,_⟩:=hs.read hk;obtain ⟨v,a',c',rfl,es,hp⟩:=hv.form;exact ⟨o,v,a',c',G,h1,by rw[h2];rfl,by rw[h2];rfl,by rw[h2];rfl,es,hp,hG⟩
theorem RFrames.get {l:List Frame} (hs:RFrames ro h [.sl 9 a n c] l F) (hk:k<l.length):∃ o s a' c' G,a=some o /\
  ld h o.1 (o.2+k) 0 9=some [Iv l[k].fro,Iv l[k].to,Iv l[k].at',Iv l[k].ver.key,Iv l[k].ver.tag.time,Iv l[k].ver.tag.place,s,.str l[k].ver.text,.bool l[k].ver.gone] /\
  (∀ {R':Type} (K:Pq->Nat->Nq->Option R'),eS 2 s K=K a' l[k].ver.past.length c')/\RTags ro h [.sl 2 a' l[k].ver.past.length c'] l[k].ver.past G/\(∀ b∈G,b∈F):=by
 obtain ⟨o,row,G,h1,h2,⟨vs,rfl,hv⟩,hG,_⟩:=hs.read hk;obtain ⟨s,a',c',rfl,es,hp⟩:=hv.form;exact ⟨o,s,a',c',G,h1,by rw[h2];rfl,es,hp,hG⟩
theorem RDones.get {l:List Done} (hs:RDones ro h [.sl 5 a n c] l F) (hk:k<l.length):∃ o,a=some o/\ld h o.1 (o.2+k) 0 5=some l[k].cs:=by obtain ⟨o,row,G,h1,h2,⟨rfl,_⟩,_⟩:=hs.read hk;exact ⟨o,h1,by rw[h2];rfl⟩
end
def Wh (w:World):Prop:=(w.places.length<=1048576/\∀ p∈w.places,Dt p)/\(w.sess.length<=1048576/\∀ s∈w.sess,s.past.length<=1048576)/\(w.net.length<=1048576/\∀ f∈w.net,f.ver.past.length<=1048576/\f.ver.text.size<=1048576)/\w.hist.length<=1048576
section
variable {lo:Nat}{ro ro':Bool}{h:Heap}{F F':List Nat}{a a':Pq}{c c':Nq}{left:Int}
end


def XZ (p:Place) (to at':Int):Bool:=As p&&An to 0 2 && !(p.me==to)&&An at' 0 (p.log.length - 1)
def told (p:Place) (to at':Int):Frame:=bif XZ p to at' then ⟨p.me,to,at',(p.log[at'.toNat]?).getD TA⟩ else ⟨0,0,0,TA⟩
section
variable {lo:Nat}{h:Heap}{F F':List Nat}{a a':Pq}{c c':Nq}
end


def FQ (s:Sess):Bool:=An s.place 0 2&&Bb s.past&&A6 s.wait.time s.wait.place&&An s.key 0 3&&(decide (s.wait.time>0) || s.key==0)&&(s.wait.time==0 || s.wait.place==s.place)
def P9 (d:Done):Bool:=An d.sess 0 3&&An d.kind 1 3&&An d.key 0 3&&A6 d.tag.time d.tag.place&&(d.kind==2 || decide (d.tag.time>0))
def Hu (l:List Place) (k:Nat):List Ver:=match l[k]? with
 | some p=>p.log
 | none => []
theorem RO {l:List Place}{k:Nat} (hk:k<l.length):Hu l k=l[k].log:=by unfold Hu;rw[Dx hk]
section
variable {lo:Nat}{ro ro':Bool}{h:Heap}{F F':List Nat}{a a':Pq}{c c':Nq}
end


abbrev zaZ (n:Int):List V := [Iv n]
abbrev RInts:Rel (List Int):=Sli false 1 3 (flat zaZ)
section
variable {lo:Nat}{h:Heap}{F F' F1:List Nat}{a a' a1 a2 a3 a4:Pq}{c c' c1 c2 c3 c4:Nq}{k:Int}
theorem RInts.get {l:List Int}{n i:Nat} (hs:RInts h [.sl 1 a n c] l F) (hi:i<l.length):∃ o,a=some o/\ld h o.1 (o.2+i) 0 1=some [Iv l[i]]:=by obtain ⟨o,row,G,h1,h2,⟨rfl,_⟩,_⟩:=hs.read hi;exact ⟨o,h1,by rw[h2];rfl⟩
end


def EC (l:List Node) (k:Nat):Nat:=if k=0/\1<l.length then 1 else k
def J2 (l:List Node) (k key:Nat):Option Ver:=(FO l (EC l k))[key]?
section
variable {lo:Nat}{ro:Bool}{h:Heap}{F F' F1:List Nat}{a a' a1 a2 a3 a4:Pq}{c c' c1 c2 c3 c4:Nq}
theorem KT {l:List Node}{k key:Nat} (hs:RNodes false h [.sl 2 a l.length c] l F) (hk:k<l.length) (hst:∀ x∈l,AU x.store=true) (hkey:key<4) (hl:lo<=h.length) (hn1:l.length<=1048576) :
  ∃ v a' c' h' G,Ae lo 288 [.agg [.sl 2 a l.length c],Iv (k:Nat),Iv (key:Nat)] h=some (.agg (Ver.cs v a' c'),h')/\J2 l k key=some v/\RTags false h' [.sl 2 a' v.past.length c'] v.past G/\Mv h [] h' G:=by
 suffices hq:∃ v a' c' h' G,_=some (V.agg (Ver.cs v a' c'),h')/\J2 l k key=some v/\RTags false h' [.sl 2 a' v.past.length c'] v.past G/\Mv h [] h' G from by obtain ⟨v,a',c',h',G,e,hr⟩:=hq;exact ⟨v,a',c',h',G,Ql e,hr⟩
 have hql:EC l k<l.length:=by unfold EC;split<;>omega
 obtain ⟨o,s1,s2,b1,d1,b2,d2,H1,H2,ha,_,ho1,_,q1,_,p1,_⟩:=hs.get hql;have hs4:=hst _ (zbk hql);have hkl:key<l[EC l k].store.length:=by rw[A3 hs4];exact hkey
 obtain ⟨o2,t,b3,d3,G,ha2,ho2,es2,pv,_⟩:=p1.get hkl;obtain ⟨a5,c5,h5,F5,e5,r5,m5⟩:=CJ (lo:=lo) (v:=l[EC l k].store[key]) pv hl ((Jj hs4).2 _ (zbk hkl)).1;have hsh:J2 l k key=some l[EC l k].store[key]:=by unfold J2;rw[EK hql,Dx hkl]
 generalize l[EC l k].store[key]=v at ho2 es2 pv e5 r5 hsh;generalize l[EC l k].store.length=n1 at q1 hkl ha2;refine ⟨v,a5,c5,h5,F5,?_,hsh,r5,m5⟩;simp only[Ver.cs] at e5;by_cases hk0:k=0
 ·rw[show (((k:Nat):Int)==0)=true by rw[beq_iff_eq];omega,Ap];by_cases h1:1<l.length
  ·have hsa:EC l k=1:=by unfold EC;rw[if_pos ⟨hk0,h1⟩]
   rw[hsa] at ho1;rw[Ak (by omega),Cu ⟨by omega,by omega⟩,ha,Ag,ho1,Ag,Ab,Af,q1,Ad hkl,ha2,Ag,Bm,ho2,Ag,Ab,Aa,Ab,Aa,Ab,Aa,Ab,es2,Ab,Bq,Ab,AB,Af,e5,Ac,AA,Ab,Aa,Ab,Aa,Ab,Aa,Ab,Ah,Ab,Bq,Ab,AB,Af]
  ·have hsa:EC l k=k:=by unfold EC;rw[if_neg (by omega)]
   rw[hsa] at ho1;rw[Aj (by omega),Ad hk,ha,Ag,Bm,ho1,Ag,Ab,Af,q1,Ad hkl,ha2,Ag,Bm,ho2,Ag,Ab,Aa,Ab,Aa,Ab,Aa,Ab,es2,Ab,Bq,Ab,AB,Af,e5,Ac,AA,Ab,Aa,Ab,Aa,Ab,Aa,Ab,Ah,Ab,Bq,Ab,AB,Af]
 ·have hsa:EC l k=k:=by unfold EC;rw[if_neg (by omega)]
  rw[hsa] at ho1;rw[show (((k:Nat):Int)==0)=false by rw[beq_eq_false_iff_ne];omega,Ay,Ad hk,ha,Ag,Bm,ho1,Ag,Ab,Af,q1,Ad hkl,ha2,Ag,Bm,ho2,Ag,Ab,Aa,Ab,Aa,Ab,Aa,Ab,es2,Ab,Bq,Ab,AB,Af,e5,Ac,AA,Ab,Aa,Ab,Aa,Ab,Aa,Ab,Ah,Ab,Bq,Ab,AB,Af]
end


variable {k:Int}
structure Roomy (p:Place):Prop where
 seen:∃ U:List Tag,U.length<=54/\(∀ v∈p.log,v.tag∈U)/\∀ v,inCh p.chain v->0<v.tag.time->v.tag.place=p.me->v.tag∈U
 told:∀ v∈D0 p.chain,0<v.tag.time->v.tag.place=p.me->Cb p.log v.tag=true
theorem RM {α:Type} [DecidableEq α]:∀ {a U:List α},a.Nodup->(∀ x∈a,x∈U)->a.length<=U.length
 | [],U,_,_=>zbN _
 | x :: a,U,hn,hs=>by
  rw[zbs] at hn;have h1:=hs x (by simp);have h2:=RM (a:=a) (U:=U.erase x) hn.2 λy hy=>(List.mem_erase_of_ne (λe=>hn.1 (by rw[<- e];exact hy))).2 (hs y (by simp[hy]))
  rw[List.length_erase_of_mem h1] at h2;have:=List.length_pos_of_mem h1;simp only[zb7];omega
section
variable {p:Place}
theorem Xp {m:Int}{l:List Ver} (h:Eb m l=true):(l.map λv=>v.tag).Nodup:=by
 obtain ⟨_,h2⟩:=HQ h;unfold List.Nodup;rw[List.pairwise_map,List.pairwise_iff_getElem];intro i j hi hj hij e;have h3:=(h2 j hj).2.2;have:Cb (l.take j) l[j].tag=true:=hasTag_mem.2 ⟨l[i],by
  rw[zbV];exact ⟨i,by simp;omega,by simp⟩,e⟩
 rw[h3] at this;cases this
theorem Roomy.len (h:Roomy p) (hp:As p=true):p.log.length<=54:=by
 obtain ⟨U,h1,h2,_⟩:=h.seen;have:=RM (U:=U) (Xp (AX hp).2.2.2.2.2.1) (λt ht=>by
  obtain ⟨v,hv,rfl⟩:=zcY.1 ht;exact h2 v hv)
 simp only[zcO] at this;omega
theorem T9 {m:Int}:∀ {vs l:List Ver},∀ v∈vs.foldl (noted m) l,v∈l\/(v∈vs/\0<v.tag.time/\v.tag.place=m)
 | [],l,v,hv => .inl hv
 | x :: vs,l,v,hv=>by
  rw[zb3] at hv;rcases T9 v hv with g | ⟨g1,g2⟩
  ·unfold noted at g;cases hc:(decide (x.tag.time>0)&&(x.tag.place==m && !Cb l x.tag)) with
   | false=>rw[hc] at g;exact .inl g
   | true =>
    rw[hc,cond_true] at g;simp only[DH,decide_eq_true_eq,beq_iff_eq] at hc;rcases zbl.1 g with g | g
    ·exact .inl g
    ·rw[zbr] at g;subst g;exact .inr ⟨by simp,hc.1,hc.2.1⟩
  ·exact .inr ⟨by simp[g1],g2⟩
theorem Jm (h:Ch p.chain) (hs:∃ U:List Tag,U.length<=54/\(∀ v∈p.log,v.tag∈U)/\∀ v,inCh p.chain v->0<v.tag.time->v.tag.place=p.me->v.tag∈U):Roomy (BE p):=by
 obtain ⟨U,h1,h2,h3⟩:=hs;refine ⟨⟨U,h1,λv hv=>?_,h3⟩,λv hv ht hp=>?_⟩
 ·rcases T9 v hv with g | ⟨g1,g2,g3⟩
  ·exact h2 v g
  ·obtain ⟨z,hz,hi⟩:=h.tail;rw[HR hz hi] at g1;exact h3 v (.of hz (.inl g1)) g2 g3
 ·exact (MY (vs:=D0 p.chain) (l:=p.log)).1 v hv ht hp
theorem Vm (h:Roomy p) (hp:As p=true):Roomy (L7 p):=by
 have hc:=HI hp;unfold L7 Kr;cases Gc p.chain with
 | false=>exact h
 | true =>rw[cond_true];obtain ⟨U,h1,h2,h3⟩:=h.seen;exact ⟨⟨U,h1,h2,λv hv=>h3 v (RX hc.pos hv)⟩,λv hv=>h.told v (by rw[<- (Nd hc).2.2.1];exact hv)⟩
theorem Vo (h:Roomy p) (hp:As p=true):Roomy (E9 p k):=by
 have hc:=HI hp;unfold E9;cases hf:Ep p k with
 | false=>exact h
 | true =>unfold Ep at hf;rw[DH] at hf;obtain ⟨f,rfl,g1,g2⟩:=P1 hf.2;obtain ⟨U,h1,h2,h3⟩:=h.seen;rw[cond_true,Bm];exact Jm (p:=Sc p f) (hc.fall g1 g2) ⟨U,h1,h2,λv hv=>h3 v (RY g1 hv)⟩
theorem Vl (h:Roomy p) (hp:As p=true):Roomy (E8 p k):=by
 have hc:=HI hp;unfold E8;cases hf:De p.chain k with
 | false=>exact h
 | true =>obtain ⟨U,h1,h2,h3⟩:=h.seen;rw[cond_true];exact Jm (p:=N5 p k.toNat) (hc.pass hf) ⟨U,h1,h2,λv hv=>h3 v (RW hf hv)⟩
theorem Vk (h:Roomy p) (hp:As p=true):Roomy (E7 p k):=by
 have hc:=HI hp;unfold E7;cases hk:Eo p k with
 | false=>exact h
 | true =>
  rw[cond_true];unfold Eo at hk;rw[DH] at hk;have hk:=hk.2;unfold LM at hk;unfold LN;cases hv:Ju p k.toNat with
  | none=>exact h
  | some v =>
   rw[hv] at hk;simp only[DH] at hk;obtain ⟨v1,v2,v3,v4⟩:=Ui hp hv;obtain ⟨U,h1,h2,h3⟩:=h.seen;refine Jm (p:=EN p 0 (GD v.tag.time p.clock) v) (hc.add v1 hk.1) ⟨U,h1,h2,λw hw ht hm=>?_⟩;rcases Ma hw with g | rfl
   ·exact h3 w g ht hm
   ·exact absurd (v2.symm.trans hm) v3
theorem Vn {f a:Int}{v:Ver} (h:Roomy p):Roomy (Hg p f a v):=by
 unfold Hg;cases Hj p f a v with
 | false=>exact h
 | true=>exact ⟨h.seen,h.told⟩
theorem LJ {l:List Node}{v:Ver} (h:Ch l):∀ (d i:Nat) (x:Node),i+d+1=l.length->l[i]?=some x->v∈x.store->(∃ (j:Nat) (y:Node),l[j]?=some y/\j+1<l.length/\v∈y.wait)\/v∈D0 l
 | 0,i,x,hd,hx,hv=>by rw[HR hx (by omega)];exact .inr hv
 | d+1,i,x,hd,hx,hv=>by
  have hy:=Dx (l:=l) (i:=i+1) (by omega);rcases Sa (h.link i x _ hx hy) v hv with g | g
  ·exact .inl ⟨i,x,hx,by omega,g⟩
  ·exact LJ h d (i+1) _ (by omega) hy g
theorem Rv:∀ {l:List Node},(∀ x∈l,x.wait.length<=6)->(l.flatMap λx=>x.wait).length<=6*l.length
 | [],_=>by simp
 | x :: l,h=>by have h1:=h x (by simp);have h2:=Rv (l:=l) λy hy=>h y (by simp[hy]);simp only[zcy,zbw,zb7];omega
theorem TZ {s:ByteArray}{g:Bool}{l:List Tag} (h:Roomy p) (hp:As p=true):Roomy (Bl p k s g l).1:=by
 have hc:=HI hp;rw[LI hp];cases hw:AO p k s g l with
 | false=>exact h
 | true =>
  obtain ⟨h1,h2,h3,h4,h5,h6,h7,h8⟩:=EM hw;have hv:=M7 hp hw;refine Jm (p:=EN p 0 (AC p l) (By p k s g l)) (hc.add hv h6) ⟨(p.log++(p.chain.dropLast.flatMap λx=>x.wait)).map (λv=>v.tag) ++ [⟨AC p l,p.me⟩],?_,λv hv=>?_,λv hv ht hm=>?_⟩
  ·have hd:∀ x∈p.chain.dropLast,x.wait.length<=6:=λx hx=>by obtain ⟨i,hi⟩:=zbC.1 ((List.dropLast_sublist _).mem hx);exact (AH (hc.node i x hi)).2.1
   have:=Rv hd;have h4:=hc.le;simp only[zbw,zcO,List.length_dropLast,zbE] at this ⊢;omega
  ·refine zbM _ (zcY.2 ⟨v,zbM _ hv,rfl⟩)
  ·have old:inCh p.chain v->v.tag∈(p.log++(p.chain.dropLast.flatMap λx=>x.wait)).map (λv=>v.tag):=λhi=>by
    have fin:(∃ (j:Nat) (y:Node),p.chain[j]?=some y/\j+1<p.chain.length/\v∈y.wait)\/v∈D0 p.chain:=by
     obtain ⟨i,x,hx,q | q⟩:=hi.get
     ·have hlt:=(Gz hx).1;exact LJ hc (p.chain.length - 1 - i) i x (by omega) hx q
     ·have hlt:=(Gz hx).1;by_cases he:i+1=p.chain.length
      ·rw[hc.last i x hx he] at q;simp at q
      ·exact .inl ⟨i,x,hx,by omega,q⟩
    rcases fin with ⟨j,y,hj,hjl,q⟩ | q
    ·refine zcY.2 ⟨v,zbO _ (List.mem_flatMap.2 ⟨y,?_,q⟩),rfl⟩;rw[zbC];exact ⟨j,by rw[List.getElem?_dropLast,if_pos (by omega)];exact hj⟩
    ·obtain ⟨u,hu,e⟩:=hasTag_mem.1 (h.told v q ht hm);exact zcY.2 ⟨u,zbM _ hu,e⟩
   rcases Ma hv with q | rfl
   ·exact zbM _ (old q)
   ·exact zbO _ (by simp[By])
end
def KI (l:List Place) (f:Frame):Prop:=(0<=f.fro/\f.fro<=2)/\(0<=f.to/\f.to<=2)/\f.fro≠f.to/\0<=f.at'/\(Hu l f.fro.toNat)[f.at'.toNat]?=some f.ver
structure Wd (w:World):Prop where
 p3:w.places.length=3
 s4:w.sess.length<=4
 n12:w.net.length<=12
 h80:w.hist.length<=80
 place:∀ (i:Nat) (p:Place),w.places[i]?=some p->p.me=(i:Int)/\As p=true
 sess:∀ s∈w.sess,FQ s=true
 net:∀ f∈w.net,KI w.places f
 hist:∀ d∈w.hist,P9 d=true
 heard:∀ (i:Nat) (p:Place) (k:Nat) (g:List Ver),w.places[i]?=some p->p.got[k]?=some g->∃ r,Hu w.places k=g++r
theorem Ws {l:List Place}{k:Nat}{p q:Place} (hp:l[k]?=some p) (hlog:∃ r,q.log=p.log++r) (j:Nat):∃ r,Hu (l.set k q) j=Hu l j++r:=by
 unfold Hu;by_cases hj:k=j
 ·subst hj;rw[zbA (Gz hp).1,hp];exact hlog
 ·rw[zbq hj];exact ⟨[],by simp⟩
section
variable {w:World}
theorem Wd.setP (h:Wd w) {k:Nat}{p q:Place} (hp:w.places[k]?=some p) (hq:As q=true) (hm:q.me=p.me) (hlog:∃ r,q.log=p.log++r)
  (hgot:∀ (i:Nat) (g:List Ver),q.got[i]?=some g->p.got[i]?=some g\/∃ r,Hu w.places i=g++r):Wd ⟨w.places.set k q,w.sess,w.net,w.hist⟩:=by
 have hk:=(Gz hp).1;refine ⟨by simpa using h.p3,h.s4,h.n12,h.h80,λi x hx=>?_,h.sess,λf hf=>?_,h.hist,λi x j g hx hg=>?_⟩
 ·by_cases hi:k=i
  ·subst hi;simp only[zbA hk,Option.some.injEq] at hx;subst hx;exact ⟨hm.trans (h.place k p hp).1,hq⟩
  ·simp only[zbq hi] at hx;exact h.place i x hx
 ·obtain ⟨h1,h2,h3,h4,h5⟩:=h.net f hf;obtain ⟨r,hr⟩:=Ws hp hlog f.fro.toNat;refine ⟨h1,h2,h3,h4,?_⟩;show (Hu (w.places.set k q) f.fro.toNat)[f.at'.toNat]?=some f.ver;rw[hr,zbn (Gz h5).1];exact h5
 ·obtain ⟨r,hr⟩:=Ws hp hlog j;show ∃ r,Hu (w.places.set k q) j=g++r;have old:(∃ r,Hu w.places j=g++r)->∃ r,Hu (w.places.set k q) j=g++r:=λ⟨r',hr'⟩=>⟨r'++r,by rw[hr,hr',zbB]⟩
  by_cases hi:k=i
  ·subst hi;simp only[zbA hk,Option.some.injEq] at hx;subst hx;rcases hgot j g hg with g1 | g1
   ·exact old (h.heard k p j g hp g1)
   ·exact old g1
  ·simp only[zbq hi] at hx;exact old (h.heard i x j g hx hg)
theorem Wd.putS (h:Wd w) {i:Nat}{s:Sess} (hs:FQ s=true):Wd ⟨w.places,w.sess.set i s,w.net,w.hist⟩ :=
 ⟨h.p3,by simpa using h.s4,h.n12,h.h80,h.place,λx hx=>(zbI hx).elim (h.sess x) λe=>e ▸ hs,h.net,h.hist,h.heard⟩
theorem Wd.addH (h:Wd w) {ds:List Done} (hd:∀ d∈ds,P9 d=true) (hl:w.hist.length+ds.length<=80):Wd ⟨w.places,w.sess,w.net,w.hist++ds⟩ :=
 ⟨h.p3,h.s4,h.n12,by simpa using hl,h.place,h.sess,h.net,λx hx=>(zbl.1 hx).elim (h.hist x) (hd x),h.heard⟩
theorem Wd.netN (h:Wd w) {l:List Frame} (hl:l.length<=12) (hf:∀ f∈l,KI w.places f):Wd ⟨w.places,w.sess,l,w.hist⟩ :=
 ⟨h.p3,h.s4,hl,h.h80,h.place,h.sess,hf,h.hist,h.heard⟩
end


variable {p:Place}{k:Nat}{l:List Node}{v:Ver}{s:Sess}{i:Nat}
structure Event where
 kind:Int
 at':Int
 num:Int
 key:Int
 text:ByteArray
 gone:Bool
abbrev Event.cs (e:Event):List V := [Iv e.kind,Iv e.at',Iv e.num,Iv e.key,.str e.text,.bool e.gone]
def FW (a b:Tag):Bool:=GA a.time a.place b.time b.place
def Jt (a b:Tag):Tag:=bif FW a b then b else a
def IT (p:List Tag) (k:Nat) (t:Tag):List Tag:=match p[k]? with
 | some x=>p.set k (Jt x t)
 | none=>p
def I1 (p q:List Tag):List Tag:=List.zipWith Jt p q
def setS (w:World) (i:Nat) (s:Sess) (ds:List Done):World:=⟨w.places,w.sess.set i s,w.net,w.hist++ds⟩
def setP (w:World) (k:Nat) (p:Place):World:=⟨w.places.set k p,w.sess,w.net,w.hist⟩
def setN (w:World) (l:List Frame):World:=⟨w.places,w.sess,l,w.hist⟩
def D7 (w:World) (n:Int):Bool:=decide ((w.hist.length:Int)+n<=80)
def GG (w:World) (i:Nat) (s:Sess) (e:Event):Option World:=match w.places[s.place.toNat]? with
 | some p=>bif !decide (s.wait.time>0)&&(AO p e.key e.text e.gone s.past&&D7 w 1) then
   some (setS (setP w s.place.toNat (Bl p e.key e.text e.gone s.past).1) i ⟨s.place,s.past,(Bl p e.key e.text e.gone s.past).2,e.key⟩ [⟨i,1,e.key,(Bl p e.key e.text e.gone s.past).2⟩]) else none
 | none=>none
def Nw (w:World) (i:Nat) (s:Sess):Option World:=match w.places[s.place.toNat]? with
 | some p=>match J2 p.chain 0 s.key.toNat,(FY p.chain)[s.key.toNat]? with
  | some v,some u=>bif decide (s.wait.time>0) then
    (bif FW v.tag s.wait then (bif FW u.tag s.wait then some (setS w i ⟨s.place,s.past,⟨0,0⟩,0⟩ []) else none)
    else (bif D7 w 1 then some (setS w i ⟨s.place,IT s.past s.key.toNat s.wait,⟨0,0⟩,0⟩ [⟨i,3,s.key,s.wait⟩]) else none)) else none
  | _,_=>none
 | none=>none
def T4 (s:Sess) (v:Ver) (k:Nat):List Tag:=bif decide (v.tag.time>0) then IT (I1 s.past v.past) k v.tag else s.past
def IX (w:World) (i:Nat) (s:Sess) (e:Event):Option World:=match w.places[s.place.toNat]? with
 | some p=>bif !decide (s.wait.time>0)&&(An e.key 0 3&&(An e.num 0 ((p.chain.length:Int) - 1)&&D7 w 1)) then
   (match J2 p.chain e.num.toNat e.key.toNat,s.past[e.key.toNat]? with
   | some v,some t=>bif FW v.tag t then none else some (setS w i ⟨s.place,T4 s v e.key.toNat,s.wait,s.key⟩ [⟨i,2,e.key,v.tag⟩])
   | _,_=>none) else none
 | none=>none
def Du (i:Nat) (l:List Tag):List Done:=l.zipIdx.map λx=>⟨i,2,(x.2:Int),x.1⟩
def Mu (w:World) (i:Nat) (s:Sess):Option World:=match w.places[s.place.toNat]? with
 | some p=>bif !decide (s.wait.time>0)&&(B4 s.past (AW p.chain)&&D7 w 4) then some (setS w i ⟨s.place,AW p.chain,s.wait,s.key⟩ (Du i (AW p.chain))) else none
 | none=>none
def Ub (w:World) (i:Nat) (s:Sess) (e:Event):Option World:=bif !decide (s.wait.time>0)&&An e.num 0 2 then some (setS w i ⟨e.num,s.past,s.wait,s.key⟩ []) else none
def Gb (w:World) (e:Event):Option World:=bif An e.at' 0 ((w.sess.length:Int) - 1) then
 (match w.sess[e.at'.toNat]? with
 | some s=>bif e.kind==1 then GG w e.at'.toNat s e else bif e.kind==2 then Nw w e.at'.toNat s else bif e.kind==3 then IX w e.at'.toNat s e else bif e.kind==4 then Mu w e.at'.toNat s else Ub w e.at'.toNat s e
 | none=>none) else none
def Ez (p:Place) (e:Event):Option Place:=bif e.kind==6 then (bif De p.chain e.num then some (E8 p e.num) else none) else
 bif e.kind==7 then (bif Ep p e.num then some (E9 p e.num) else none) else
 bif e.kind==8 then (bif Gc p.chain then some (L7 p) else none) else (bif Eo p e.num then some (E7 p e.num) else none)
def H7 (w:World) (e:Event):Option World:=bif An e.at' 0 2 then
 (match w.places[e.at'.toNat]? with
 | some p=>(Ez p e).map (setP w e.at'.toNat)
 | none=>none) else none
def RF (w:World) (e:Event):Option World:=bif An e.at' 0 2&&(An e.num 0 2&&(!(e.at'==e.num)&&(decide ((w.net.length:Int)<12)&&An e.key 0 (((Hu w.places e.at'.toNat).length:Int) - 1)))) then
 (match (Hu w.places e.at'.toNat)[e.key.toNat]? with
 | some v=>some (setN w (w.net ++ [⟨e.at',e.num,e.key,v⟩]))
 | none=>none) else none
def Mh (w:World) (f:Frame):World:=match w.places[f.to.toNat]? with
 | some p=>setP w f.to.toNat (Hg p f.fro f.at' f.ver)
 | none=>w
def Ni (w:World) (e:Event):Option World:=bif An e.at' 0 ((w.net.length:Int) - 1) then
 (match w.net[e.at'.toNat]? with
 | some f=>some (bif e.kind==12 then setN w (w.net.eraseIdx e.at'.toNat) else bif e.kind==13 then Mh w f else Mh (setN w (w.net.eraseIdx e.at'.toNat)) f)
 | none=>none) else none
def Hp (w:World) (e:Event):Option World:=bif An e.kind 1 5 then Gb w e else bif An e.kind 6 9 then H7 w e else bif e.kind==10 then RF w e else bif An e.kind 11 13 then Ni w e else none
def Si (w:World) (e:Event):World:=(Hp w e).getD w
structure Good (w:World):Prop where
 ok:Wd w
 room:∀ p∈w.places,Roomy p
theorem pastOk_iff {p:List Tag}:Bb p=true<->p.length=4/\∀ t∈p,A6 t.time t.place=true:=by simp only[Bb,DH,decide_eq_true_eq,zby]
theorem Wo {a b:Tag} (ha:A6 a.time a.place=true) (hb:A6 b.time b.place=true):A6 (Jt a b).time (Jt a b).place=true:=by
 unfold Jt;cases FW a b
 ·exact ha
 ·exact hb
theorem TC {p:List Tag}{t:Tag} (hp:Bb p=true) (ht:A6 t.time t.place=true):Bb (IT p k t)=true:=by
 rw[pastOk_iff] at hp;unfold IT;cases hx:p[k]? with
 | none=>exact pastOk_iff.2 hp
 | some x =>
  refine pastOk_iff.2 ⟨by simpa using hp.1,λy hy=>?_⟩;rcases zbI hy with hy | rfl
  ·exact hp.2 y hy
  ·exact Wo (hp.2 x (zbF hx)) ht
theorem Yw {p q:List Tag} (hp:Bb p=true) (hq:Bb q=true):Bb (I1 p q)=true:=by rw[pastOk_iff] at hp hq;refine pastOk_iff.2 ⟨by unfold I1;rw[List.length_zipWith];omega,λy hy=>?_⟩;unfold I1 at hy;obtain ⟨i,hi,rfl⟩:=zbV.1 hy;rw[List.getElem_zipWith];exact Wo (hp.2 _ (zbk _)) (hq.2 _ (zbk _))
theorem JY (h:Ch l):Bb (AW l)=true:=by refine pastOk_iff.2 ⟨h.four.1,λt ht=>?_⟩;obtain ⟨z,hz,hi⟩:=h.tail;rw[Dj hz hi] at ht;unfold Bt at ht;obtain ⟨v,hv,rfl⟩:=zcY.1 ht;obtain ⟨i,hi⟩:=zbC.1 hv;exact Ta (HY (h.store hz).1 hi)
theorem X8 {key:Nat} (h:Ch l) (hv:J2 l k key=some v):∃ (i:Nat) (x:Node),l[i]?=some x/\x.store[key]?=some v:=by
 unfold J2 FO at hv;cases hx:l[EC l k]? with
 | none=>rw[hx] at hv;simp at hv
 | some x=>rw[hx] at hv;exact ⟨_,x,hx,hv⟩
theorem X9 {key:Nat} (h:Ch l) (hv:J2 l k key=some v):Ho key v=true:=by obtain ⟨i,x,hx,hv⟩:=X8 h hv;exact HY (h.store hx).1 hv
theorem DF (h:FQ s=true):(0<=s.place/\s.place<=2)/\Bb s.past=true/\A6 s.wait.time s.wait.place=true/\(0<=s.key/\s.key<=3)/\(0<s.wait.time\/s.key=0)/\(s.wait.time=0\/s.wait.place=s.place):=by unfold FQ at h;simp only[DH,zb6,decide_eq_true_eq,beq_iff_eq,An] at h;obtain ⟨⟨⟨⟨⟨h1,h2⟩,h3⟩,h4⟩,h5⟩,h6⟩:=h;exact ⟨h1,h2,h3,h4,h5,h6⟩
theorem Kt (h1:0<=s.place/\s.place<=2) (h2:Bb s.past=true) (h3:A6 s.wait.time s.wait.place=true) (h4:0<=s.key/\s.key<=3) (h5:0<s.wait.time\/s.key=0) (h6:s.wait.time=0\/s.wait.place=s.place):FQ s=true:=by unfold FQ;simp only[DH,zb6,decide_eq_true_eq,beq_iff_eq,An];exact ⟨⟨⟨⟨⟨h1,h2⟩,h3⟩,h4⟩,h5⟩,h6⟩
theorem OU {d:Done} (h1:0<=d.sess/\d.sess<=3) (h2:1<=d.kind/\d.kind<=3) (h3:0<=d.key/\d.key<=3) (h4:A6 d.tag.time d.tag.place=true) (h5:d.kind=2\/0<d.tag.time):P9 d=true:=by unfold P9;simp only[DH,zb6,decide_eq_true_eq,beq_iff_eq,An];exact ⟨⟨⟨⟨h1,h2⟩,h3⟩,h4⟩,h5⟩
theorem L0:∃ r,(BE p).log=p.log++r:=(MY (vs:=D0 p.chain) (l:=p.log)).2
section
variable {w w':World}
theorem Good.setP (h:Good w) {k:Nat}{p q:Place} (hp:w.places[k]?=some p) (hq:As q=true) (hr:Roomy q) (hm:q.me=p.me) (hlog:∃ r,q.log=p.log++r)
  (hgot:∀ (i:Nat) (g:List Ver),q.got[i]?=some g->p.got[i]?=some g\/∃ r,Hu w.places i=g++r):Good (Go.Proofs.YtmgopagfoemomaaGreat.setP w k q) :=
 ⟨h.ok.setP hp hq hm hlog hgot,λx hx=>(zbI hx).elim (h.room x) λe=>e ▸ hr⟩
theorem Good.setS (h:Good w) {i:Nat}{s:Sess}{ds:List Done} (hs:FQ s=true) (hd:∀ d∈ds,P9 d=true) (hl:(w.hist.length:Int)+ds.length<=80):Good (Go.Proofs.YtmgopagfoemomaaGreat.setS w i s ds) :=
 ⟨(h.ok.putS (i:=i) hs).addH hd (by show w.hist.length+ds.length<=80;omega),h.room⟩
theorem Good.setN (h:Good w) {l:List Frame} (hl:l.length<=12) (hf:∀ f∈l,KI w.places f):Good (Go.Proofs.YtmgopagfoemomaaGreat.setN w l):=⟨h.ok.netN hl hf,h.room⟩
theorem WX {k:Int}{s:ByteArray}{g:Bool}{l:List Tag} (hp:As p=true) (hc:AO p k s g l=true):Bl p k s g l=(BE (EN p 0 (AC p l) (By p k s g l)),⟨AC p l,p.me⟩):=by rw[LI hp,hc,cond_true]
theorem VN (h:Good w) {e:Event} (hi:i<w.sess.length) (hs:FQ s=true) (he:GG w i s e=some w'):Good w':=by
 have h4:=h.ok.s4;unfold GG at he;split at he
 ·rename_i p hp
  cases hc:(!decide (s.wait.time>0)&&(AO p e.key e.text e.gone s.past&&D7 w 1)) with
  | false=>rw[hc] at he;cases he
  | true =>
   rw[hc,cond_true] at he;injection he with he;simp only[DH,D7,decide_eq_true_eq] at hc;obtain ⟨_,hc,hh⟩:=hc;obtain ⟨hme,hpo⟩:=h.ok.place _ p hp;have hr:=h.room p (zbF hp);obtain ⟨s1,s2,s3,s4,s5,s6⟩:=DF hs;obtain ⟨q1,q2,q3,q4,q5,q6,q7,q8⟩:=EM hc;have ht:=Ks hpo s2;have hw:=WX hpo hc;have g1:Good (Go.Proofs.YtmgopagfoemomaaGreat.setP w s.place.toNat (Bl p e.key e.text e.gone s.past).1):=h.setP hp (PB hpo) (TZ hr hpo) (by rw[hw];rfl) (by rw[hw];exact L0) (λj g hg=>by rw[hw] at hg;exact .inl hg);have ht1:A6 (AC p s.past) p.me=true:=by simp[A6,An];omega
   rw[<- he];refine g1.setS ?_ ?_ (by simp only[zbE];exact hh)
   ·rw[hw];exact Kt s1 s2 ht1 q1 (.inl (by show 0<AC p s.past;omega)) (.inr (by show p.me=s.place;omega))
   ·intro d hd;rw[zbr] at hd;subst hd;rw[hw];exact OU (by show (0:Int)<=(i:Int)/\(i:Int)<=3;omega) (by show (1:Int)<=1/\(1:Int)<=3;decide) q1 ht1 (.inr (by show 0<AC p s.past;omega))
 ·cases he
theorem YE (h:Good w) (hi:i<w.sess.length) (hs:FQ s=true) (he:Nw w i s=some w'):Good w':=by
 have h4:=h.ok.s4;have h8:=h.ok.h80;obtain ⟨s1,s2,s3,s4,s5,s6⟩:=DF hs;unfold Nw at he;split at he
 ·rename_i p hp
  split at he
  ·rename_i v u hv hu
   cases hc:decide (s.wait.time>0) with
   | false=>rw[hc] at he;cases he
   | true =>
    rw[hc,cond_true] at he;cases hl:FW v.tag s.wait with
    | true =>
     rw[hl,cond_true] at he;cases hl2:FW u.tag s.wait with
     | false=>rw[hl2] at he;cases he
     | true =>rw[hl2,cond_true] at he;injection he with he;rw[<- he];exact h.setS (Kt s1 s2 rfl (by show (0:Int)<=0/\(0:Int)<=3;decide) (.inr rfl) (.inl rfl)) (by simp) (by simp only[zcx];omega)
    | false =>
     rw[hl,cond_false] at he;cases hr:D7 w 1 with
     | false=>rw[hr] at he;cases he
     | true =>rw[hr,cond_true] at he;injection he with he;rw[<- he];unfold D7 at hr;refine h.setS (Kt s1 (TC s2 s3) rfl (by show (0:Int)<=0/\(0:Int)<=3;decide) (.inr rfl) (.inl rfl)) (λd hd=>?_) (by simp only[zbE];exact of_decide_eq_true hr);rw[zbr] at hd;subst hd;exact OU (by show (0:Int)<=(i:Int)/\(i:Int)<=3;omega) (by show (1:Int)<=3/\(3:Int)<=3;decide) s4 s3 (.inr (of_decide_eq_true hc))
  ·cases he
 ·cases he
theorem Yd (hs:Bb s.past=true) (hv:Ho k v=true):Bb (T4 s v k)=true:=by
 unfold T4;cases ht:decide (v.tag.time>0) with
 | false=>exact hs
 | true =>
  have ht:=of_decide_eq_true ht;rcases Dl hv with g | g
  ·have:=(EJ g).1;omega
  ·have hp:=AT g.1;exact TC (Yw hs hp.2.2.2.1) hp.2.2.2.2.1
theorem XB (h:Good w) {e:Event} (hi:i<w.sess.length) (hs:FQ s=true) (he:IX w i s e=some w'):Good w':=by
 have h4:=h.ok.s4;obtain ⟨s1,s2,s3,s4,s5,s6⟩:=DF hs;unfold IX at he;split at he
 ·rename_i p hp
  cases hc:(!decide (s.wait.time>0)&&(An e.key 0 3&&(An e.num 0 ((p.chain.length:Int) - 1)&&D7 w 1))) with
  | false=>rw[hc] at he;cases he
  | true =>
   rw[hc,cond_true] at he;simp only[DH,D7,An,decide_eq_true_eq] at hc;obtain ⟨_,hk,_,hr⟩:=hc;split at he
   ·rename_i v t hv ht
    cases hl:FW v.tag t with
    | true=>rw[hl] at he;cases he
    | false =>rw[hl,cond_false] at he;injection he with he;rw[<- he];have hc:=HI (h.ok.place _ p hp).2;have hva:=X9 hc hv;refine h.setS (Kt s1 (Yd s2 hva) s3 s4 s5 s6) (λd hd=>?_) (by simp only[zbE];exact hr);rw[zbr] at hd;subst hd;exact OU (by show (0:Int)<=(i:Int)/\(i:Int)<=3;omega) (by show (1:Int)<=2/\(2:Int)<=3;decide) hk (Ta hva) (.inl rfl)
   ·cases he
 ·cases he
theorem YF (h:Good w) (hi:i<w.sess.length) (hs:FQ s=true) (he:Mu w i s=some w'):Good w':=by
 have h4:=h.ok.s4;obtain ⟨s1,s2,s3,s4,s5,s6⟩:=DF hs;unfold Mu at he;split at he
 ·rename_i p hp
  cases hc:(!decide (s.wait.time>0)&&(B4 s.past (AW p.chain)&&D7 w 4)) with
  | false=>rw[hc] at he;cases he
  | true =>rw[hc,cond_true] at he;injection he with he;rw[<- he];simp only[DH,D7,decide_eq_true_eq] at hc;have hch:=HI (h.ok.place _ p hp).2;have hst:=JY hch;refine h.setS (Kt s1 hst s3 s4 s5 s6) (λd hd=>?_) (by unfold Du;rw[zcO,List.length_zipIdx,hch.four.1];exact hc.2.2);unfold Du at hd;obtain ⟨⟨t,k⟩,hx,rfl⟩:=zcY.1 hd;rw[zcl] at hx;have hk:=(Gz hx).1;rw[hch.four.1] at hk;simp only at hk;exact OU (by show (0:Int)<=(i:Int)/\(i:Int)<=3;omega) (by show (1:Int)<=2/\(2:Int)<=3;decide) (by show (0:Int)<=(k:Int)/\(k:Int)<=3;omega) ((pastOk_iff.1 hst).2 t (zbF hx)) (.inl rfl)
 ·cases he
theorem XC (h:Good w) {e:Event} (hs:FQ s=true) (he:Ub w i s e=some w'):Good w':=by
 obtain ⟨s1,s2,s3,s4,s5,s6⟩:=DF hs;unfold Ub at he;cases hc:(!decide (s.wait.time>0)&&An e.num 0 2) with
 | false=>rw[hc] at he;cases he
 | true =>rw[hc,cond_true] at he;injection he with he;rw[<- he];simp only[DH,An,decide_eq_true_eq,zb2,decide_eq_false_iff_not] at hc;have:=DW s3;exact h.setS (Kt hc.2 s2 s3 s4 s5 (.inl (by show s.wait.time=0;omega))) (by simp) (by simp only[zcx];have:=h.ok.h80;omega)
theorem Uw (h:Good w) {e:Event} (he:Gb w e=some w'):Good w':=by
 unfold Gb at he;cases hc:An e.at' 0 ((w.sess.length:Int) - 1) with
 | false=>rw[hc] at he;cases he
 | true =>
  rw[hc,cond_true] at he;split at he
  ·rename_i s hs
   have hi:=(Gz hs).1;have hso:=h.ok.sess s (zbF hs);cases h1:e.kind==1 with
   | true=>rw[h1,cond_true] at he;exact VN h hi hso he
   | false =>
    rw[h1,cond_false] at he;cases h2:e.kind==2 with
    | true=>rw[h2,cond_true] at he;exact YE h hi hso he
    | false =>
     rw[h2,cond_false] at he;cases h3:e.kind==3 with
     | true=>rw[h3,cond_true] at he;exact XB h hi hso he
     | false =>
      rw[h3,cond_false] at he;cases h4:e.kind==4 with
      | true=>rw[h4,cond_true] at he;exact YF h hi hso he
      | false=>rw[h4,cond_false] at he;exact XC h hso he
  ·cases he
theorem X5 {q:Place}{e:Event} (h:Ez p e=some q):q.me=p.me/\q.got=p.got/\∃ r,q.log=p.log++r:=by
 unfold Ez at h;have nil:∃ r,p.log=p.log++r:=⟨[],by simp⟩;cases h1:e.kind==6 with
 | true =>
  rw[h1,cond_true] at h;cases hc:De p.chain e.num with
  | false=>rw[hc] at h;cases h
  | true =>rw[hc,cond_true] at h;injection h with h;rw[<- h];unfold E8;rw[hc,cond_true];exact ⟨rfl,rfl,L0⟩
 | false =>
  rw[h1,cond_false] at h;cases h2:e.kind==7 with
  | true =>
   rw[h2,cond_true] at h;cases hc:Ep p e.num with
   | false=>rw[hc] at h;cases h
   | true =>rw[hc,cond_true] at h;injection h with h;rw[<- h];unfold E9;rw[hc,cond_true];exact ⟨rfl,rfl,L0⟩
  | false =>
   rw[h2,cond_false] at h;cases h3:e.kind==8 with
   | true =>
    rw[h3,cond_true] at h;cases hc:Gc p.chain with
    | false=>rw[hc] at h;cases h
    | true =>rw[hc,cond_true] at h;injection h with h;rw[<- h];exact ⟨rfl,rfl,nil⟩
   | false =>
    rw[h3,cond_false] at h;cases hc:Eo p e.num with
    | false=>rw[hc] at h;cases h
    | true =>
     rw[hc,cond_true] at h;injection h with h;rw[<- h];unfold E7;rw[hc,cond_true];unfold LN;split
     ·exact ⟨rfl,rfl,L0⟩
     ·exact ⟨rfl,rfl,nil⟩
theorem Zo {q:Place}{e:Event} (hp:As p=true) (hl:p.log.length<=56) (h:Ez p e=some q):As q=true/\(Roomy p->Roomy q):=by
 unfold Ez at h;cases h1:e.kind==6 with
 | true =>
  rw[h1,cond_true] at h;cases hc:De p.chain e.num with
  | false=>rw[hc] at h;cases h
  | true =>rw[hc,cond_true] at h;injection h with h;rw[<- h];exact ⟨ZA hp hl,λhr=>Vl hr hp⟩
 | false =>
  rw[h1,cond_false] at h;cases h2:e.kind==7 with
  | true =>
   rw[h2,cond_true] at h;cases hc:Ep p e.num with
   | false=>rw[hc] at h;cases h
   | true =>rw[hc,cond_true] at h;injection h with h;rw[<- h];exact ⟨ZD hp hl,λhr=>Vo hr hp⟩
  | false =>
   rw[h2,cond_false] at h;cases h3:e.kind==8 with
   | true =>
    rw[h3,cond_true] at h;cases hc:Gc p.chain with
    | false=>rw[hc] at h;cases h
    | true =>rw[hc,cond_true] at h;injection h with h;rw[<- h];exact ⟨ZB hp,λhr=>Vm hr hp⟩
   | false =>
    rw[h3,cond_false] at h;cases hc:Eo p e.num with
    | false=>rw[hc] at h;cases h
    | true =>rw[hc,cond_true] at h;injection h with h;rw[<- h];exact ⟨Zz hp hl,λhr=>Vk hr hp⟩
theorem VO (h:Good w) {e:Event} (he:H7 w e=some w'):Good w':=by
 unfold H7 at he;cases hc:An e.at' 0 2 with
 | false=>rw[hc] at he;cases he
 | true =>
  rw[hc,cond_true] at he;split at he
  ·rename_i p hp
   rw[zbY] at he;obtain ⟨q,hq,rfl⟩:=he;have hpo:=(h.ok.place _ p hp).2;have hr:=h.room p (zbF hp);have hl:=hr.len hpo;obtain ⟨g1,g2⟩:=Zo hpo (by omega) hq;obtain ⟨g3,g4,g5⟩:=X5 hq;exact h.setP hp g1 (g2 hr) g3 g5 λi g hg=>by rw[g4] at hg;exact .inl hg
  ·cases he
theorem XA (h:Good w) {e:Event} (he:RF w e=some w'):Good w':=by
 unfold RF at he;cases hc:(An e.at' 0 2&&(An e.num 0 2&&(!(e.at'==e.num)&&(decide ((w.net.length:Int)<12)&&An e.key 0 (((Hu w.places e.at'.toNat).length:Int) - 1))))) with
 | false=>rw[hc] at he;cases he
 | true =>
  rw[hc,cond_true] at he;simp only[DH,An,decide_eq_true_eq,zb2,beq_eq_false_iff_ne] at hc;obtain ⟨h1,h2,h3,h4,h5⟩:=hc;split at he
  ·rename_i v hv
   injection he with he;rw[<- he];refine h.setN (by simp;omega) λf hf=>?_;rcases zbl.1 hf with hf | hf
   ·exact h.ok.net f hf
   ·rw[zbr] at hf;subst hf;exact ⟨h1,h2,h3,h5.1,hv⟩
  ·cases he
theorem R8 (h:Good w) {f:Frame} (hf:KI w.places f):Good (Mh w f):=by
 unfold Mh;split
 ·rename_i p hp
  have hpo:=(h.ok.place _ p hp).2;have hr:=h.room p (zbF hp);obtain ⟨h1,h2,h3,h4,h5⟩:=hf;refine h.setP hp (ZC hpo) (Vn hr) ?_ ?_ ?_
  ·unfold Hg;cases Hj p f.fro f.at' f.ver<;>rfl
  ·unfold Hg;cases Hj p f.fro f.at' f.ver<;>exact ⟨[],by simp[JN]⟩
  ·intro i g hg;unfold Hg at hg;cases hc:Hj p f.fro f.at' f.ver with
   | false=>rw[hc] at hg;exact .inl hg
   | true =>
    rw[hc,cond_true] at hg;simp only[Hj,I4,An,DH,decide_eq_true_eq,beq_iff_eq,zb2] at hc;obtain ⟨⟨_,_⟩,_,_,_,q,_,_⟩:=hc;have hg:(p.got.set f.fro.toNat (JO p f.fro.toNat ++ [f.ver]))[i]?=some g:=hg;by_cases hi:f.fro.toNat=i
    ·subst hi;have hlt:f.fro.toNat<p.got.length:=by have:=(Gz hg).1;simpa using this
     rw[zbA hlt] at hg;injection hg with hg;have hgo:p.got[f.fro.toNat]?=some (JO p f.fro.toNat):=by rw[I6 hlt];exact Dx hlt
     obtain ⟨r,hr⟩:=h.ok.heard _ p _ _ hp hgo;rw[hr,zbG (by omega),show f.at'.toNat - (JO p f.fro.toNat).length=0 by omega] at h5;cases r with
     | nil=>simp at h5
     | cons v r =>simp only[List.getElem?_cons_zero,Option.some.injEq] at h5;subst h5;exact .inr ⟨r,by rw[hr,<- hg];simp⟩
    ·rw[zbq hi] at hg;exact .inl hg
 ·exact h
theorem VP (h:Good w) {e:Event} (he:Ni w e=some w'):Good w':=by
 unfold Ni at he;cases hc:An e.at' 0 ((w.net.length:Int) - 1) with
 | false=>rw[hc] at he;cases he
 | true =>
  rw[hc,cond_true] at he;split at he
  ·rename_i f hf
   injection he with he;rw[<- he];have hfi:=h.ok.net f (zbF hf);have hn:=h.ok.n12;have g1:Good (setN w (w.net.eraseIdx e.at'.toNat)):=h.setN (zbj (zcP _ _) hn) λx hx=>h.ok.net x (zcz hx);cases e.kind==12 with
   | true=>exact g1
   | false =>
    rw[cond_false];cases e.kind==13 with
    | true=>exact R8 h hfi
    | false=>exact R8 g1 hfi
  ·cases he
theorem Xz (h:Good w) {e:Event} (he:Hp w e=some w'):Good w':=by
 unfold Hp at he;cases h1:An e.kind 1 5 with
 | true=>rw[h1,cond_true] at he;exact Uw h he
 | false =>
  rw[h1,cond_false] at he;cases h2:An e.kind 6 9 with
  | true=>rw[h2,cond_true] at he;exact VO h he
  | false =>
   rw[h2,cond_false] at he;cases h3:e.kind==10 with
   | true=>rw[h3,cond_true] at he;exact XA h he
   | false =>
    rw[h3,cond_false] at he;cases h4:An e.kind 11 13 with
    | true=>rw[h4,cond_true] at he;exact VP h he
    | false=>rw[h4] at he;cases he
theorem SN (h:Good w) {e:Event}:Good (Si w e):=by
 unfold Si;cases he:Hp w e with
 | none=>exact h
 | some w'=>exact Xz h he
end


theorem Mv.mid {h h':Heap}{A B A' F F':List Nat} (m:Mv h A h' A') (hp:F.Perm (A++B)) (hn:F.Nodup) (hB:∀ y∈B,y<h.length) (hp':F'.Perm (A'++B)):Mv h F h' F':=by have m1:=m.aside (hp.nodup_iff.1 hn) hB;exact (m1.wide λb hb=>hp.mem_iff.2 hb).lean (hp'.nodup_iff.2 m1.nd) λb hb=>hp'.mem_iff.1 hb
theorem Wk {A B C:List Nat}:(A++(B++C)).Perm (B++(A++C)):=List.perm_append_comm_assoc A B C
theorem zah {A B C D:List Nat}:(A++(B++(C++D))).Perm (C++(A++(B++D))):=(List.Perm.append_left A Wk).trans Wk
theorem Yf {A B C:List Nat}:(A++(B++C)).Perm (C++(A++B)):=by rw[<- zbB A B C];exact zcg
theorem Ye {A B C D:List Nat}:(A++(B++(C++D))).Perm (D++(A++(B++C))):=by rw[<- zbB B C D,<- zbB A (B++C) D];exact zcg
structure WR (lo:Nat) (h:Heap) (w:World) (a1:Pq) (c1:Nq) (a2:Pq) (c2:Nq) (a3:Pq) (c3:Nq) (a4:Pq) (c4:Nq) (F1 F2 F3 F4:List Nat):Prop where
 r1:RPlaces false h [.sl 6 a1 w.places.length c1] w.places F1
 r2:RSesss false h [.sl 5 a2 w.sess.length c2] w.sess F2
 r3:RFrames false h [.sl 9 a3 w.net.length c3] w.net F3
 r4:RDones false h [.sl 5 a4 w.hist.length c4] w.hist F4
 nd:(F1++(F2++(F3++F4))).Nodup
 ge:∀ y∈F1++(F2++(F3++F4)),lo<=y
 hl:lo<=h.length
def Oq (lo:Nat) (h:Heap) (cs:List V) (w:World) (F:List Nat):Prop:=∃ a1 c1 a2 c2 a3 c3 a4 c4 F1 F2 F3 F4,cs=w.cs a1 c1 a2 c2 a3 c3 a4 c4/\F=F1++(F2++(F3++F4))/\WR lo h w a1 c1 a2 c2 a3 c3 a4 c4 F1 F2 F3 F4
section
variable {lo:Nat}{h h':Heap}{w:World}{a1 a2 a3 a4 a:Pq}{c1 c2 c3 c4 c:Nq}{F1 F2 F3 F4:List Nat}
theorem WR.at (H:WR lo h w a1 c1 a2 c2 a3 c3 a4 c4 F1 F2 F3 F4):Oq lo h (w.cs a1 c1 a2 c2 a3 c3 a4 c4) w (F1++(F2++(F3++F4))):=⟨a1,c1,a2,c2,a3,c3,a4,c4,F1,F2,F3,F4,rfl,rfl,H⟩
theorem WR.lt (H:WR lo h w a1 c1 a2 c2 a3 c3 a4 c4 F1 F2 F3 F4):(∀ y∈F1,y<h.length)/\(∀ y∈F2,y<h.length)/\(∀ y∈F3,y<h.length)/\∀ y∈F4,y<h.length :=
 ⟨rplaces_ok.bd _ _ _ _ H.r1,rsesss_ok.bd _ _ _ _ H.r2,rframes_ok.bd _ _ _ _ H.r3,rdones_ok.bd _ _ _ _ H.r4⟩
theorem WR.bd (H:WR lo h w a1 c1 a2 c2 a3 c3 a4 c4 F1 F2 F3 F4):∀ y∈F1++(F2++(F3++F4)),y<h.length:=λy hy=>by
 obtain ⟨g1,g2,g3,g4⟩:=H.lt;simp only[zbl] at hy;rcases hy with hy | hy | hy | hy
 ·exact g1 y hy
 ·exact g2 y hy
 ·exact g3 y hy
 ·exact g4 y hy
theorem Tz (h:(F1++(F2++(F3++F4))).Nodup):(F1.Nodup/\F2.Nodup/\F3.Nodup/\F4.Nodup)/\(∀ y∈F1,y∉F2)/\(∀ y∈F1,y∉F3)/\(∀ y∈F1,y∉F4)/\(∀ y∈F2,y∉F3)/\(∀ y∈F2,y∉F4)/\∀ y∈F3,y∉F4:=by simp only[zbm,zbl] at h;obtain ⟨h1,⟨h2,⟨h3,h4,h5⟩,h6⟩,h7⟩:=h;exact ⟨⟨h1,h2,h3,h4⟩,λy hy hm=>h7 y hy y (.inl hm) rfl,λy hy hm=>h7 y hy y (.inr (.inl hm)) rfl,λy hy hm=>h7 y hy y (.inr (.inr hm)) rfl,λy hy hm=>h6 y hy y (.inl hm) rfl,λy hy hm=>h6 y hy y (.inr hm) rfl,λy hy hm=>h5 y hy y hm rfl⟩
theorem WR.up1 (H:WR lo h w a1 c1 a2 c2 a3 c3 a4 c4 F1 F2 F3 F4) {l:List Place}{G:List Nat} (m:Mv h F1 h' G) (r:RPlaces false h' [.sl 6 a l.length c] l G) :
  WR lo h' ⟨l,w.sess,w.net,w.hist⟩ a c a2 c2 a3 c3 a4 c4 G F2 F3 F4/\Mv h (F1++(F2++(F3++F4))) h' (G++(F2++(F3++F4))):=by
 obtain ⟨_,d12,d13,d14,d23,d24,d34⟩:=Tz H.nd;have m1:Mv h (F1++(F2++(F3++F4))) h' (G++(F2++(F3++F4))):=m.mid (.refl _) H.nd (λy hy=>H.bd y (by simp only[zbl] at hy ⊢;grind)) (.refl _);exact ⟨⟨r,m.keep rsesss_ok H.r2 (λb hb hm=>d12 b hm hb),m.keep rframes_ok H.r3 (λb hb hm=>d13 b hm hb),m.keep rdones_ok H.r4 (λb hb hm=>d14 b hm hb),m1.nd,m1.ge H.hl H.ge,zbj H.hl m.le⟩,m1⟩
theorem WR.up2 (H:WR lo h w a1 c1 a2 c2 a3 c3 a4 c4 F1 F2 F3 F4) {l:List Sess}{G:List Nat} (m:Mv h F2 h' G) (r:RSesss false h' [.sl 5 a l.length c] l G) :
  WR lo h' ⟨w.places,l,w.net,w.hist⟩ a1 c1 a c a3 c3 a4 c4 F1 G F3 F4/\Mv h (F1++(F2++(F3++F4))) h' (F1++(G++(F3++F4))):=by
 obtain ⟨_,d12,d13,d14,d23,d24,d34⟩:=Tz H.nd;have m1:Mv h (F1++(F2++(F3++F4))) h' (F1++(G++(F3++F4))):=m.mid Wk H.nd (λy hy=>H.bd y (by simp only[zbl] at hy ⊢;grind)) Wk;exact ⟨⟨m.keep rplaces_ok H.r1 (λb hb hm=>d12 b hb hm),r,m.keep rframes_ok H.r3 (λb hb hm=>d23 b hm hb),m.keep rdones_ok H.r4 (λb hb hm=>d24 b hm hb),m1.nd,m1.ge H.hl H.ge,zbj H.hl m.le⟩,m1⟩
theorem WR.up3 (H:WR lo h w a1 c1 a2 c2 a3 c3 a4 c4 F1 F2 F3 F4) {l:List Frame}{G:List Nat} (m:Mv h F3 h' G) (r:RFrames false h' [.sl 9 a l.length c] l G) :
  WR lo h' ⟨w.places,w.sess,l,w.hist⟩ a1 c1 a2 c2 a c a4 c4 F1 F2 G F4/\Mv h (F1++(F2++(F3++F4))) h' (F1++(F2++(G++F4))):=by
 obtain ⟨_,d12,d13,d14,d23,d24,d34⟩:=Tz H.nd;have m1:Mv h (F1++(F2++(F3++F4))) h' (F1++(F2++(G++F4))):=m.mid zah H.nd (λy hy=>H.bd y (by simp only[zbl] at hy ⊢;grind)) zah;exact ⟨⟨m.keep rplaces_ok H.r1 (λb hb hm=>d13 b hb hm),m.keep rsesss_ok H.r2 (λb hb hm=>d23 b hb hm),r,m.keep rdones_ok H.r4 (λb hb hm=>d34 b hm hb),m1.nd,m1.ge H.hl H.ge,zbj H.hl m.le⟩,m1⟩
theorem WR.up4 (H:WR lo h w a1 c1 a2 c2 a3 c3 a4 c4 F1 F2 F3 F4) {l:List Done}{G:List Nat} (m:Mv h F4 h' G) (r:RDones false h' [.sl 5 a l.length c] l G) :
  WR lo h' ⟨w.places,w.sess,w.net,l⟩ a1 c1 a2 c2 a3 c3 a c F1 F2 F3 G/\Mv h (F1++(F2++(F3++F4))) h' (F1++(F2++(F3++G))):=by
 obtain ⟨_,d12,d13,d14,d23,d24,d34⟩:=Tz H.nd;have m1:Mv h (F1++(F2++(F3++F4))) h' (F1++(F2++(F3++G))):=m.mid Ye H.nd (λy hy=>H.bd y (by simp only[zbl] at hy ⊢;grind)) Ye;exact ⟨⟨m.keep rplaces_ok H.r1 (λb hb hm=>d14 b hb hm),m.keep rsesss_ok H.r2 (λb hb hm=>d24 b hb hm),m.keep rframes_ok H.r3 (λb hb hm=>d34 b hb hm),r,m1.nd,m1.ge H.hl H.ge,zbj H.hl m.le⟩,m1⟩
theorem WR.up0 (H:WR lo h w a1 c1 a2 c2 a3 c3 a4 c4 F1 F2 F3 F4) (m:Mv h [] h' []):WR lo h' w a1 c1 a2 c2 a3 c3 a4 c4 F1 F2 F3 F4/\Mv h (F1++(F2++(F3++F4))) h' (F1++(F2++(F3++F4))) :=
 ⟨⟨m.keep0 rplaces_ok H.r1,m.keep0 rsesss_ok H.r2,m.keep0 rframes_ok H.r3,m.keep0 rdones_ok H.r4,H.nd,H.ge,zbj H.hl m.le⟩,m.aside (by simpa using H.nd) H.bd⟩
theorem WR.place (H:WR lo h w a1 c1 a2 c2 a3 c3 a4 c4 F1 F2 F3 F4) {k:Nat} (hk:k<w.places.length):∃ b i s1 s2 s3 b1 d1 b2 d2 b3 d3 G1 G2 G3,a1=some (b,i) /\
  ld h b (i+k) 0 6=some [Iv w.places[k].me,Iv w.places[k].clock,s1,s2,s3,.bool w.places[k].fell]/\ld h b (i+k) 2 1=some [s1]/\ld h b (i+k) 3 1=some [s2] /\
  (∀ {R':Type} (K:Pq->Nat->Nq->Option R'),eS 2 s1 K=K b1 w.places[k].chain.length d1)/\(∀ {R':Type} (K:Pq->Nat->Nq->Option R'),eS 6 s2 K=K b2 w.places[k].log.length d2) /\
  (∀ {R':Type} (K:Pq->Nat->Nq->Option R'),eS 1 s3 K=K b3 w.places[k].got.length d3) /\
  RNodes false h [.sl 2 b1 w.places[k].chain.length d1] w.places[k].chain G1/\RVers false h [.sl 6 b2 w.places[k].log.length d2] w.places[k].log G2/\RVss false h [.sl 1 b3 w.places[k].got.length d3] w.places[k].got G3 /\
  (G1++(G2++G3)).Nodup/\(∀ y∈G1++(G2++G3),lo<=y/\y<h.length/\y∈F1) /\
  ∀ h1 G p' cs',Mv h (G1++(G2++G3)) h1 G->RPlace false h1 cs' p' G->cs'.length=6 ->
   ∃ h2 F1',st lo h1 b (i+k) 0 cs'=some h2/\WR lo h2 (setP w k p') a1 c1 a2 c2 a3 c3 a4 c4 F1' F2 F3 F4/\Mv h (F1++(F2++(F3++F4))) h2 (F1'++(F2++(F3++F4))):=by
 obtain ⟨⟨n1,_⟩,_⟩:=Tz H.nd;obtain ⟨b,i,rs,row,G,ha,hbF,hbG,hb,hrow,hel,hGF,hGn,_,put⟩:=Sli.at (lo:=lo) rplace_ok H.r1 hk n1 (λy hy=>H.ge y (by simp[hy]));obtain ⟨s1,s2,s3,b1,d1,b2,d2,b3,d3,G1,G2,G3,rfl,rfl,e1,e2,e3,g1,g2,g3⟩:=hel.form;refine ⟨b,i,s1,s2,s3,b1,d1,b2,d2,b3,d3,G1,G2,G3,ha,by rw[BT hb hrow];exact IJ rfl,by rw[BT hb hrow];rfl,by rw[BT hb hrow];rfl,e1,e2,e3,g1,g2,g3,hGn,λy hy=>⟨H.ge y (by simp[hGF y hy]),H.lt.1 y (hGF y hy),hGF y hy⟩,λh1 G p' cs' m hx hc=>?_⟩;obtain ⟨h2,F',e,r,m2,_⟩:=put h1 G 0 cs' cs' p' m (Dz (by rw[hc];rfl)) hx;have hlen:(w.places.set k p').length=w.places.length:=by simp
 rw[<- hlen] at r;obtain ⟨q1,q2⟩:=H.up1 m2 r;exact ⟨h2,F',e,q1,q2⟩
end
section
variable {lo:Nat}{h:Heap}{p:Place}{b1 b2 b3:Pq}{d1 d2 d3:Nq}{G1 G2 G3:List Nat}
theorem Yg {f:Nat} (g1:RNodes false h [.sl 2 b1 p.chain.length d1] p.chain G1) (g2:RVers false h [.sl 6 b2 p.log.length d2] p.log G2) (g3:RVss false h [.sl 1 b3 p.got.length d3] p.got G3) (hpo:As p=true) (hc:De p.chain (f:Int)=true)
  (nd:(G1++(G2++G3)).Nodup) (hlo:∀ y∈G1++(G2++G3),lo<=y) (hl:lo<=h.length) :
  ∃ a6 c6 h5 h6 G,Ae lo 254 [.agg [.sl 2 b1 p.chain.length d1],Iv (f:Nat)] h=some (.agg [.sl 2 b1 p.chain.length d1],h5) /\
   Ae lo 130 [.agg [Iv p.me,Iv p.clock,.sl 2 b1 p.chain.length d1,.sl 6 b2 p.log.length d2,.sl 1 b3 p.got.length d3,.bool p.fell]] h5=some (.agg ((E8 p f).cs b1 d1 a6 c6 b3 d3),h6) /\
   RPlace false h6 ((E8 p f).cs b1 d1 a6 c6 b3 d3) (E8 p f) G/\Mv h (G1++(G2++G3)) h6 G:=by
 have hn:=(FN (CS hpo) (by decide) (by decide) (by decide)).1;have hb:∀ y∈G1++(G2++G3),y<h.length:=λy hy=>by
  simp only[zbl] at hy;rcases hy with hy | hy | hy
  ·exact rnodes_ok.bd _ _ _ _ g1 y hy
  ·exact rvers_ok.bd _ _ _ _ g2 y hy
  ·exact rvss_ok.bd _ _ _ _ g3 y hy
 have hc':=hc;unfold De at hc';rw[DH] at hc';obtain ⟨hw,hps⟩:=hc';simp only[An,DH,decide_eq_true_eq] at hw;rw[Bm] at hps;have hk':f<p.chain.length:=by omega
 rw[Ld hk',DH,decide_eq_true_eq] at hps;have nd':=nd;rw[zbm,zbm] at nd';obtain ⟨nd1,⟨nd2,nd3,Tz⟩,nd5⟩:=nd';obtain ⟨h5,F5,e5,r5,m5⟩:=NQ (lo:=lo) g1 (by omega) hps.1 nd1 (λy hy=>hlo y (by simp[hy])) hl hn.1 (Wl hpo);have g25:=m5.keep rvers_ok g2 λy hy hm=>nd5 y hm y (by simp[hy]) rfl;have ht:=Wg (W2 (k:=f) (CS hpo)) (by decide) (by decide) (by decide);rw[<- passN_len (k:=f)] at r5;have d1':=(O7 m5 (Mv.refl nd2) nd hb).2.1;obtain ⟨a6,c6,h6,F6,e6,r6,m6⟩:=Pe (lo:=lo) (p:=N5 p f) (a3:=b3) (c3:=d3) r5 g25 (by show 0<(HH _ _).length;rw[passN_len];omega) ht d1' nd2 (λy hy=>hlo y (by simp[hy])) (zbj hl m5.le);have hcs:(N5 p f).cs b1 d1 b2 d2 b3 d3 = [Iv p.me,Iv p.clock,.sl 2 b1 p.chain.length d1,.sl 6 b2 p.log.length d2,.sl 1 b3 p.got.length d3,.bool p.fell]:=by simp only[Place.cs,N5,passN_len]
 rw[hcs] at e6;obtain ⟨m7,x1,x2,x3⟩:=O7 m5 m6 nd hb;have hx:E8 p (f:Int)=BE (N5 p f):=by unfold E8;rw[hc,cond_true,Bm]
 rw[hx];exact ⟨a6,c6,h5,h6,F5++(F6++G3),e5,e6,⟨_,_,_,F5,F6,G3,rfl,rfl,m6.keep rnodes_ok r5 x1,r6,m6.keep rvss_ok (m5.keep rvss_ok g3 x2) x3⟩,m7⟩
theorem YJ {f:Nat} (g1:RNodes false h [.sl 2 b1 p.chain.length d1] p.chain G1) (g2:RVers false h [.sl 6 b2 p.log.length d2] p.log G2) (g3:RVss false h [.sl 1 b3 p.got.length d3] p.got G3) (hpo:As p=true) (hc:Ep p (f:Int)=true)
  (nd:(G1++(G2++G3)).Nodup) (hlo:∀ y∈G1++(G2++G3),lo<=y) (hl:lo<=h.length) :
  ∃ a5 c5 a6 c6 h5 h6 G,Ae lo 256 [.agg [.sl 2 b1 p.chain.length d1],Iv (f:Nat)] h=some (.agg [.sl 2 a5 (CA p.chain f).length c5],h5) /\
   Ae lo 130 [.agg [Iv p.me,Iv p.clock,.sl 2 a5 (CA p.chain f).length c5,.sl 6 b2 p.log.length d2,.sl 1 b3 p.got.length d3,.bool true]] h5=some (.agg ((E9 p f).cs a5 c5 a6 c6 b3 d3),h6) /\
   RPlace false h6 ((E9 p f).cs a5 c5 a6 c6 b3 d3) (E9 p f) G/\Mv h (G1++(G2++G3)) h6 G:=by
 have hn:=(FN (CS hpo) (by decide) (by decide) (by decide)).1;have hb:∀ y∈G1++(G2++G3),y<h.length:=λy hy=>by
  simp only[zbl] at hy;rcases hy with hy | hy | hy
  ·exact rnodes_ok.bd _ _ _ _ g1 y hy
  ·exact rvers_ok.bd _ _ _ _ g2 y hy
  ·exact rvss_ok.bd _ _ _ _ g3 y hy
 have hc':=hc;unfold Ep Jb at hc';simp only[DH,An,decide_eq_true_eq] at hc';obtain ⟨hfl,hw,hl1⟩:=hc';have hk':f<p.chain.length:=by omega
 have nd':=nd;rw[zbm,zbm] at nd';obtain ⟨nd1,⟨nd2,nd3,Tz⟩,nd5⟩:=nd';obtain ⟨a5,c5,h5,F5,e5,r5,m5⟩:=NS (lo:=lo) g1 hk' hl1 (RQ (AX hpo).2.2.2.1 (by omega)) nd1 (λy hy=>hlo y (by simp[hy])) hl hn.1.1 (λx hx=>(Wl hpo x hx).1);have g25:=m5.keep rvers_ok g2 λy hy hm=>nd5 y hm y (by simp[hy]) rfl;have ht:=Wg (W3 (k:=f) (CS hpo)) (by decide) (by decide) (by decide);have d1':=(O7 m5 (Mv.refl nd2) nd hb).2.1;obtain ⟨a6,c6,h6,F6,e6,r6,m6⟩:=Pe (lo:=lo) (p:=Sc p f) (a3:=b3) (c3:=d3) r5 g25 (by show 0<(CA _ _).length;rw[KA hk' hl1];omega) ht d1' nd2 (λy hy=>hlo y (by simp[hy])) (zbj hl m5.le);have hcs:(Sc p f).cs a5 c5 b2 d2 b3 d3 = [Iv p.me,Iv p.clock,.sl 2 a5 (CA p.chain f).length c5,.sl 6 b2 p.log.length d2,.sl 1 b3 p.got.length d3,.bool true]:=rfl;rw[hcs] at e6;obtain ⟨m7,x1,x2,x3⟩:=O7 m5 m6 nd hb;have hx:E9 p (f:Int)=BE (Sc p f):=by unfold E9;rw[hc,cond_true,Bm]
 rw[hx];exact ⟨a5,c5,a6,c6,h5,h6,F5++(F6++G3),e5,e6,⟨_,_,_,F5,F6,G3,rfl,rfl,m6.keep rnodes_ok r5 x1,r6,m6.keep rvss_ok (m5.keep rvss_ok g3 x2) x3⟩,m7⟩
theorem Yv (g1:RNodes false h [.sl 2 b1 p.chain.length d1] p.chain G1) (g2:RVers false h [.sl 6 b2 p.log.length d2] p.log G2) (g3:RVss false h [.sl 1 b3 p.got.length d3] p.got G3) (hpo:As p=true) (hc:Gc p.chain=true)
  (nd:(G1++(G2++G3)).Nodup) (hlo:∀ y∈G1++(G2++G3),lo<=y) (hl:lo<=h.length) :
  ∃ a5 c5 h5 G,Ae lo 257 [.agg [.sl 2 b1 p.chain.length d1]] h=some (.agg [.sl 2 a5 (Kr p.chain).length c5],h5) /\
   RPlace false h5 ((L7 p).cs a5 c5 b2 d2 b3 d3) (L7 p) G/\Mv h (G1++(G2++G3)) h5 G:=by
 have hn:=(FN (CS hpo) (by decide) (by decide) (by decide)).1;have hb:∀ y∈G1++(G2++G3),y<h.length:=λy hy=>by
  simp only[zbl] at hy;rcases hy with hy | hy | hy
  ·exact rnodes_ok.bd _ _ _ _ g1 y hy
  ·exact rvers_ok.bd _ _ _ _ g2 y hy
  ·exact rvss_ok.bd _ _ _ _ g3 y hy
 have h0:=FJ hpo;have nd':=nd;rw[zbm,zbm] at nd';obtain ⟨nd1,⟨nd2,nd3,Tz⟩,nd5⟩:=nd';obtain ⟨a5,c5,h5,F5,e5,r5,m5⟩:=NR (lo:=lo) g1 h0 hn.1 nd1 (λy hy=>hlo y (by simp[hy])) hl;have hj:Kr p.chain=Ih p.chain:=by unfold Kr;rw[hc];rfl
 have hjl:(Ih p.chain).length=p.chain.length+1:=by rw[GP h0];simp
 obtain ⟨m7,x1,x2,x3⟩:=O7 m5 (Mv.refl nd2) nd hb;rw[<- hjl,<- hj] at e5 r5;refine ⟨a5,c5,h5,F5++(G2++G3),e5,⟨_,_,_,F5,G2,G3,rfl,rfl,r5,m5.keep rvers_ok g2 λy hy hm=>nd5 y hm y (by simp[hy]) rfl,m5.keep rvss_ok g3 x2⟩,m7⟩
end


variable {p:Place}
structure Fits (w:World):Prop where
 ok:Wd w
theorem Good.fits {w:World} (hg:Good w):Fits w:=⟨hg.ok⟩
section
variable {lo:Nat}{h h':Heap}{w:World}{a1 a2 a3 a4 a:Pq}{c1 c2 c3 c4 c:Nq}{F1 F2 F3 F4:List Nat}
theorem Wi {k:Nat}:(setP w k p).cs a1 c1 a2 c2 a3 c3 a4 c4=w.cs a1 c1 a2 c2 a3 c3 a4 c4:=by simp only[World.cs,setP,zbL]
theorem Fits.at (hg:Fits w) {k:Nat} (hk:k<w.places.length):As w.places[k]=true/\w.places[k].me=(k:Int)/\True:=by have:=hg.ok.place k _ (Dx hk);exact ⟨this.2,this.1,trivial⟩
theorem X2 {f:Nat}{b1 b2 b3:Pq}{d1 d2 d3:Nq}{G1 G2 G3:List Nat} (g1:RNodes false h [.sl 2 b1 p.chain.length d1] p.chain G1) (g2:RVers false h [.sl 6 b2 p.log.length d2] p.log G2) (g3:RVss false h [.sl 1 b3 p.got.length d3] p.got G3) (hpo:As p=true) (hc:Eo p (f:Int)=true)
  (nd:(G1++(G2++G3)).Nodup) (hlo:∀ y∈G1++(G2++G3),lo<=y) (hl:lo<=h.length) :
  ∃ a1' c1' a2' c2' a3' c3' h' G,Ae lo 259 [.agg (p.cs b1 d1 b2 d2 b3 d3),Iv (f:Nat)] h=some (.agg ((E7 p (f:Int)).cs a1' c1' a2' c2' a3' c3'),h')/\RPlace false h' ((E7 p (f:Int)).cs a1' c1' a2' c2' a3' c3') (E7 p (f:Int)) G/\Mv h (G1++(G2++G3)) h' G:=by
 have hn:=(FN (CS hpo) (by decide) (by decide) (by decide)).1;have hx:E7 p (f:Int)=LN p f:=by unfold E7;rw[hc,cond_true,Bm]
 unfold Eo at hc;rw[DH,Bm] at hc;obtain ⟨hw,ht⟩:=hc;simp only[An,DH,decide_eq_true_eq] at hw;have h3:=(AX hpo).2.2.1;obtain ⟨a2',c2',h',F',e,⟨_,_,_,_,_,_,ecs,r⟩,m⟩:=TN (lo:=lo) (f:=f) g1 g2 g3 hpo (by omega) hn ht nd hlo hl;rw[hx];exact ⟨_,_,_,_,_,_,h',F',e,r,m⟩
theorem Sr {e:Event} (H:WR lo h w a1 c1 a2 c2 a3 c3 a4 c4 F1 F2 F3 F4) (hg:Fits w) :
  ∃ cs' h' F',Ae lo 185 [.agg (w.cs a1 c1 a2 c2 a3 c3 a4 c4),.agg e.cs] h=some (.tup [.agg cs',.bool (H7 w e).isSome],h')/\Oq lo h' cs' ((H7 w e).getD w) F'/\Mv h (F1++(F2++(F3++F4))) h' F'/\((H7 w e)=none->cs'=w.cs a1 c1 a2 c2 a3 c3 a4 c4):=by
 obtain ⟨kind,at',num,key,text,gone⟩:=e;suffices hk:∃ cs' h' F',_=some (V.tup [.agg cs',.bool (H7 w ⟨kind,at',num,key,text,gone⟩).isSome],h')/\Oq lo h' cs' ((H7 w ⟨kind,at',num,key,text,gone⟩).getD w) F'/\Mv h (F1++(F2++(F3++F4))) h' F'/\((H7 w ⟨kind,at',num,key,text,gone⟩)=none->cs'=w.cs a1 c1 a2 c2 a3 c3 a4 c4) from by obtain ⟨cs',h',F',e,hr⟩:=hk;exact ⟨cs',h',F',Qi e,hr⟩
 rw[Bp,Ac,Az];unfold H7;cases hat:An at' 0 2 with
 | false =>rw[Ay];exact ⟨_,h,_,rfl,H.at,Mv.refl H.nd,λ_=>rfl⟩
 | true =>
 simp only[An,DH,decide_eq_true_eq] at hat;obtain ⟨k,rfl⟩:∃ k:Nat,at'=(k:Int):=⟨at'.toNat,by omega⟩;have hk:k<w.places.length:=by have:=hg.ok.p3;omega
 obtain ⟨hpo,hme,hro⟩:=hg.at hk;have hn:=(FN (CS hpo) (by decide) (by decide) (by decide)).1;obtain ⟨b,i,s1,s2,s3,b1,d1,b2,d2,b3,d3,G1,G2,G3,rfl,hld,_,_,e1,e2,e3,g1,g2,g3,nd,hF,put⟩:=H.place hk;have hFlo:∀ y∈G1++(G2++G3),lo<=y:=λy hy=>(hF y hy).1
 rw[Ap,Ad hk,Ag,Bm,hld,Ag,Ab,Aa,Ab,Aa,Ab,e1,Ab,e2,Ab,e3,Ab,AB,Af,cond_true,Dx hk];simp only[];generalize hp:w.places[k]=p at hpo hme hro hn hld e1 e2 e3 g1 g2 g3 put;have done:∀ (h1:Heap) (G:List Nat) (p':Place) (cs':List V),Mv h (G1++(G2++G3)) h1 G->RPlace false h1 cs' p' G->cs'.length=6 ->
   ∃ h2 F',st lo h1 b (i+k) 0 cs'=some h2/\Oq lo h2 (w.cs (some (b,i)) c1 a2 c2 a3 c3 a4 c4) (setP w k p') F'/\Mv h (F1++(F2++(F3++F4))) h2 F':=λh1 G p' cs' m r hc=>by
  obtain ⟨h2,F1',e,q,m2⟩:=put h1 G p' cs' m r hc;refine ⟨h2,_,e,?_,m2⟩;rw[<- Wi (k:=k) (p:=p')];exact q.at
 have hsame:setP w k p=w:=by unfold setP;rw[<- hp,zcR]
 obtain ⟨h9,F9,e9,W9,m9⟩:=done h _ p (p.cs b1 d1 b2 d2 b3 d3) (Mv.refl nd) ⟨_,_,_,G1,G2,G3,rfl,rfl,g1,g2,g3⟩ rfl;rw[hsame] at W9;simp only[Place.cs] at e9;cases h6:kind==6 with
 | true =>
  rw[Ap,Pk g1 hn.1.1,Ac,Az];cases hc:De p.chain num with
  | false =>
   have hs:Ez p ⟨kind,(k:Nat),num,key,text,gone⟩=none:=by simp only[Ez,h6,hc,cond_true,cond_false]
   rw[Ay,Ad hk,Ag,e9,Ag,hs];exact ⟨_,h9,F9,rfl,W9,m9,λ_=>rfl⟩
  | true =>
   obtain ⟨f,rfl⟩:∃ f:Nat,num=(f:Int):=by unfold De at hc;simp only[An,DH,decide_eq_true_eq] at hc;exact ⟨num.toNat,by omega⟩
   have hs:Ez p ⟨kind,(k:Nat),(f:Nat),key,text,gone⟩=some (E8 p f):=by simp only[Ez,h6,hc,cond_true]
   obtain ⟨a6,c6,h5,h6',G,e5,e6,r6,m6⟩:=Yg (lo:=lo) g1 g2 g3 hpo hc nd hFlo H.hl;obtain ⟨h8,F8,e8,W8,m8⟩:=done h6' G _ _ m6 r6 rfl;simp only[Place.cs] at e6 e8;rw[Ap,e5,Ac,AA,Ab,Ah,Af,e6,Ac,AA,Ab,Aa,Ab,Aa,Ab,Ah,Ab,Ah,Ab,Ah,Ab,AB,Af,Ad hk,Ag,e8,Ag,hs];exact ⟨_,h8,F8,rfl,W8,m8,λg=>by first | cases g | (simp at g)⟩
 | false =>
 rw[Ay];cases h7:kind==7 with
 | true =>
  have ec:=Pi (lo:=lo) (h:=h) (p:=p) (k:=num) (a1:=b1) (c1:=d1) (a2:=b2) (c2:=d2) (a3:=b3) (c3:=d3) hn.1.1;simp only[Place.cs] at ec;rw[Ap,ec,Ac,Az];cases hc:Ep p num with
  | false =>
   have hs:Ez p ⟨kind,(k:Nat),num,key,text,gone⟩=none:=by simp only[Ez,h6,h7,hc,cond_true,cond_false]
   rw[Ay,Ad hk,Ag,e9,Ag,hs];exact ⟨_,h9,F9,rfl,W9,m9,λ_=>rfl⟩
  | true =>
   obtain ⟨f,rfl⟩:∃ f:Nat,num=(f:Int):=by unfold Ep Jb at hc;simp only[An,DH,decide_eq_true_eq] at hc;exact ⟨num.toNat,by omega⟩
   have hs:Ez p ⟨kind,(k:Nat),(f:Nat),key,text,gone⟩=some (E9 p f):=by simp only[Ez,h6,h7,hc,cond_true,cond_false]
   obtain ⟨a5,c5,a6,c6,h5,h6',G,e5,e6,r6,m6⟩:=YJ (lo:=lo) g1 g2 g3 hpo hc nd hFlo H.hl;obtain ⟨h8,F8,e8,W8,m8⟩:=done h6' G _ _ m6 r6 rfl;simp only[Place.cs] at e6 e8;rw[Ap,e5,Ac,AA,Ab,Ah,Af,e6,Ac,AA,Ab,Aa,Ab,Aa,Ab,Ah,Ab,Ah,Ab,Ah,Ab,AB,Af,Ad hk,Ag,e8,Ag,hs];exact ⟨_,h8,F8,rfl,W8,m8,λg=>by first | cases g | (simp at g)⟩
 | false =>
 rw[Ay];cases h8:kind==8 with
 | true =>
  rw[Ap];cases hc:Gc p.chain with
  | false =>
   have hs:Ez p ⟨kind,(k:Nat),num,key,text,gone⟩=none:=by simp only[Ez,h6,h7,h8,hc,cond_true,cond_false]
   unfold Gc at hc;rw[decide_eq_false_iff_not] at hc;rw[Aj hc,Ad hk,Ag,e9,Ag,hs];exact ⟨_,h9,F9,rfl,W9,m9,λ_=>rfl⟩
  | true =>
   have hs:Ez p ⟨kind,(k:Nat),num,key,text,gone⟩=some (L7 p):=by simp only[Ez,h6,h7,h8,hc,cond_true,cond_false]
   obtain ⟨a5,c5,h5,G,e5,r6,m6⟩:=Yv (lo:=lo) g1 g2 g3 hpo hc nd hFlo H.hl;obtain ⟨h8',F8,e8,W8,m8⟩:=done h5 G _ _ m6 r6 rfl;unfold Gc at hc;rw[decide_eq_true_eq] at hc;simp only[Place.cs,L7] at e8;rw[Ak hc,e5,Ac,AA,Ab,Ah,Af,Ad hk,Ag,e8,Ag,hs];exact ⟨_,h8',F8,rfl,W8,m8,λg=>by first | cases g | (simp at g)⟩
 | false =>
 rw[Ay,Bp,Ac,Az];cases hw:An num 0 2 with
 | false =>
  have hs:Ez p ⟨kind,(k:Nat),num,key,text,gone⟩=none:=by simp only[Ez,h6,h7,h8,Eo,hw,zcD,cond_true,cond_false]
  rw[Ay,Ad hk,Ag,e9,Ag,hs];exact ⟨_,h9,F9,rfl,W9,m9,λ_=>rfl⟩
 | true =>
  have hw':=hw;simp only[An,DH,decide_eq_true_eq] at hw';obtain ⟨f,rfl⟩:∃ f:Nat,num=(f:Int):=⟨num.toNat,by omega⟩;have h3:=(AX hpo).2.2.1;have ec:=Ph (lo:=lo) (f:=f) (a2:=b2) (c2:=d2) g1 g3 hpo (by omega) hn;simp only[Place.cs] at ec;rw[Ap,ec,Ac,Az];cases hc:LM p f with
  | false =>
   have hs:Ez p ⟨kind,(k:Nat),(f:Nat),key,text,gone⟩=none:=by simp only[Ez,h6,h7,h8,Eo,hw,Bm,hc,zcE,cond_true,cond_false]
   rw[Ay,Ad hk,Ag,e9,Ag,hs];exact ⟨_,h9,F9,rfl,W9,m9,λ_=>rfl⟩
  | true =>
   have hct:Eo p (f:Int)=true:=by unfold Eo;rw[hw,Bm,hc];rfl
   have hs:Ez p ⟨kind,(k:Nat),(f:Nat),key,text,gone⟩=some (E7 p f):=by simp only[Ez,h6,h7,h8,hct,cond_true,cond_false]
   obtain ⟨x1,y1,x2,y2,x3,y3,h5,G,e5,r6,m6⟩:=X2 (lo:=lo) g1 g2 g3 hpo hct nd hFlo H.hl;obtain ⟨h8',F8,e8,W8,m8⟩:=done h5 G _ _ m6 r6 rfl;simp only[Place.cs] at e5 e8;rw[Ap,e5,Ac,AA,Ab,Aa,Ab,Aa,Ab,Ah,Ab,Ah,Ab,Ah,Ab,AB,Af,Ad hk,Ag,e8,Ag,hs];exact ⟨_,h8',F8,rfl,W8,m8,λg=>by first | cases g | (simp at g)⟩
end


variable {α:Type}{El:Rel α}{h:Heap}{a:Pq}{c:Nq}{F:List Nat}{l:List α}{xs:List (List V)}{Fs:List (List Nat)}
theorem XI (ok:El.Ok) {lo R ee bytes:Nat}{k:Nat} (hs:Sli false R ee El h [.sl R a l.length c] l F) (hk:k<l.length) (hnd:F.Nodup) (hlo:∀ b∈F,lo<=b) (hl:lo<=h.length) (hby:0<bytes) (hn:l.length*bytes<=140737488355328) :
  ∃ a' c' h' F',(∀ {T:Type} (K:V->Heap->Option T),(AL a l.length c none (some (Iv (k:Nat))) none λa_0 n_1 c_2=>Aw R (h ++ [.rows R ee false []]) (.sl R a_0 n_1 c_2) λx_3=>Dk lo ee R bytes (.sl R (some ((List.length h),0)) 0 (some 0)) x_3 (h ++ [.rows R ee false []]) λv_4 h_5=>eS R (v_4) λa_6 n_7 c_8 =>
    AL a l.length c (some (Iv ((k+1:Nat):Int))) none none λa_9 n_10 c_11=>Aw R h_5 (.sl R a_9 n_10 c_11) λx_12=>Dk lo ee R bytes (.sl R a_6 n_7 c_8) x_12 h_5 K)=K (.sl R a' (l.eraseIdx k).length c') h') /\
   Sli false R ee El h' [.sl R a' (l.eraseIdx k).length c'] (l.eraseIdx k) F'/\Mv h F h' F':=by
 have hbd:=(Sli.ok ok).bd _ _ _ _ hs;obtain ⟨Fs,nF,sF,own,cuts⟩:=Sli.parts hs hnd;obtain ⟨rP,_,eP,_,kP,_⟩:=cuts k (by omega);obtain ⟨_,rQ,_,eQ,_,kQ⟩:=cuts (k+1) (by omega);obtain ⟨nP,_,dPQ⟩:=Ey (k:=k) nF;obtain ⟨_,nQ,_⟩:=Ey (k:=k+1) nF;have inP:∀ y∈(Fs.take k).flatten,y∈Fs.flatten:=λy hy=>by rw[<- zbZ k Fs,zbU];simp[hy]
 have inQ:∀ y∈(Fs.drop (k+1)).flatten,y∈(Fs.drop k).flatten:=λy hy=>by
  have:Fs.drop (k+1)=(Fs.drop k).drop 1:=by rw[zcv]
  rw[this] at hy;rw[<- zbZ 1 (Fs.drop k),zbU];exact zbl.2 (.inr hy)
 have inQ':∀ y∈(Fs.drop (k+1)).flatten,y∈Fs.flatten:=λy hy=>by rw[<- zbZ k Fs,zbU];simp[inQ y hy]
 have hFl:∀ y∈Fs.flatten,y<h.length:=λy hy=>hbd y (sF y hy);have htl:(l.take k).length=k:=by rw[zco];omega
 have hdl:(l.drop (k+1)).length=l.length - (k+1):=by rw[zcC]
 obtain ⟨a3,c3,h3,F3,e3,r3,l3,fr3,sub3,nd3⟩:=Jv (lo:=lo) (R:=R) (e:=ee) (bytes:=bytes) ok eP nP (λy hy=>hFl y (inP y hy)) hby (by rw[htl];exact zbj (zbX _ (by omega)) hn) hl;have hQ3:∀ y∈(Fs.drop (k+1)).flatten,y∉F3/\y<h3.length:=λy hy=>by
  have:=hFl y (inQ' y hy);refine ⟨λhm3=>?_,by omega⟩;rcases sub3 y hm3 with g | g
  ·exact dPQ y g y (inQ y hy) rfl
  ·omega
 have F3b:∀ y∈F3,y<h3.length:=(Sli.ok ok).bd _ _ _ _ r3;obtain ⟨a7,c7,h7,F7,e7,r7,l7,fr7,sub7,nd7⟩:=Kw (lo:=lo) (bytes:=bytes) ok.fr r3 (xs:=rQ) (ys:=l.drop (k+1)) (Gs:=Fs.drop (k+1)) (eQ.fr ok.fr λy hy=>fr3 y (hFl y (inQ' y hy))) hby (by rw[htl,hdl];exact zbj (zbX _ (by omega)) hn) (λy hy=>by
   rcases sub3 y hy with g | g
   ·exact hlo y (sF y (inP y g))
   ·omega) (by omega) (by
   rw[zbm];refine ⟨nd3,nQ,λx hx y hy e=>?_⟩;subst e;exact (hQ3 x hy).1 hx) (λy hy=>by
   rcases zbl.1 hy with hy | hy
   ·exact F3b y hy
   ·exact (hQ3 y hy).2)
 have hel:(l.take k).length+(l.drop (k+1)).length=(l.eraseIdx k).length:=by rw[zch hk,htl,hdl];omega
 have her:l.take k++l.drop (k+1)=l.eraseIdx k:=(List.eraseIdx_eq_take_drop_succ l k).symm;rw[hel] at e7 r7;rw[her] at r7;have mm0:Mv h [] (h ++ [.rows R ee false []]) []:=Mv.snoc;refine ⟨a7,c7,h7,F7,λK=>?_,r7,⟨by omega,λy hy hyF=>?_,nd7,λy hy=>?_⟩⟩
 ·rw[kP _ (λb i e=>mm0.fr b (hbd b (own b i e).1) (by simp)),e3,Ah,kQ _ (λb i e=>fr3 b (hbd b (own b i e).1)),e7]
 ·have y3:y∉F3:=λhm3=>by
   rcases sub3 y hm3 with g | g
   ·exact hyF (sF y (inP y g))
   ·omega
  rw[fr7 y (by omega) y3,fr3 y hy]
 ·rcases sub7 y hy with g | g
  ·rcases zbl.1 g with g | g
   ·rcases sub3 y g with g | g
    ·exact .inl (sF y (inP y g))
    ·exact .inr (by omega)
   ·exact .inl (sF y (inQ' y g))
  ·exact .inr (by omega)
theorem Nn {h:Heap}:∀ {xs:List (List V)},EAll (flat id) h xs xs (xs.map λ_ => [])
 | []=>trivial
 | x :: xs=>⟨⟨rfl,rfl⟩,Nn⟩
theorem P6 {rows:List (List V)} (hx:EAll (flat id) h rows xs Fs):rows=xs/\Fs.flatten = []:=by have:=hx.of_flat;simpa using this
theorem Sli.bare {R e n:Nat} (hs:Sli false R e El h [.sl R a n c] l F) :
  ∃ xs Fs F0,Sli false R e (flat id) h [.sl R a n c] xs F0/\EAll El h xs l Fs/\F=F0++Fs.flatten:=by
 obtain ⟨R1,a1,c1,e1,g⟩:=hs;injection e1 with e1 _;injection e1 with e0 e2 e4 e3;subst e2;subst e3;subst e4;cases a with
 | none =>obtain ⟨rfl,rfl,rfl⟩:=g;exact ⟨[],[],[],⟨R1,none,some 0,by rw[e0];rfl,rfl,rfl,rfl⟩,trivial,rfl⟩
 | some p =>
  obtain ⟨b,i⟩:=p;obtain ⟨_,rs,Fs,g1,g2,g3,g4,g5,rfl⟩:=g;have hlen:((rs.drop i).take l.length).length=l.length:=by rw[zco,zcC];omega
  refine ⟨(rs.drop i).take l.length,Fs,[b],⟨R,some (b,i),c,by rw[hlen],rfl,rs,_,g1,by rw[hlen];exact g2,by rw[hlen];exact g3,g4,?_,by rw[(P6 (Nn (h:=h) (xs:=(rs.drop i).take l.length))).2]⟩,g5,rfl⟩;rw[hlen];exact Nn
theorem Sli.cook {R e n:Nat}{F0:List Nat} (hs:Sli false R e (flat id) h [.sl R a n c] xs F0) (hx:EAll El h xs l Fs) :
  Sli false R e El h [.sl R a n c] l (F0++Fs.flatten):=by
 have hl:=hx.len;obtain ⟨R1,a1,c1,e1,g⟩:=hs;injection e1 with e1 _;injection e1 with e0 e2 e4 e3;subst e2;subst e3;subst e4;cases a with
 | none =>obtain ⟨rfl,rfl,rfl⟩:=g;have:l = []:=zbu hl.1.symm;subst this;have:Fs = []:=zbu hl.2;subst this;exact ⟨R1,none,some 0,by rw[e0];rfl,rfl,rfl,rfl⟩
 | some p =>obtain ⟨b,i⟩:=p;obtain ⟨_,rs,Gs,g1,g2,g3,g4,g5,rfl⟩:=g;obtain ⟨q1,q2⟩:=P6 g5;refine ⟨R,some (b,i),c,by rw[hl.1],rfl,rs,Fs,g1,by rw[<- hl.1];exact g2,by rw[<- hl.1];exact g3,g4,?_,by rw[q2];rfl⟩;rw[<- hl.1,q1];exact hx


variable {f:Frame}
section
variable {lo:Nat}{h h':Heap}{w:World}{a1 a2 a3 a4 a:Pq}{c1 c2 c3 c4 c:Nq}{F1 F2 F3 F4:List Nat}
theorem NW (hg:Fits w) (hf:KI w.places f):thin f.ver/\Ba f.ver=true/\f.ver.tag.place=f.fro:=by
 obtain ⟨h1,h2,h3,h4,h5⟩:=hf;have hk:f.fro.toNat<w.places.length:=by have:=hg.ok.p3;omega
 obtain ⟨hpo,hme,_⟩:=hg.at hk;rw[RO hk] at h5;obtain ⟨hi,h5⟩:=Gz h5;obtain ⟨_,hl⟩:=HQ (AX hpo).2.2.2.2.2.1;obtain ⟨g1,g2,_⟩:=hl _ hi;rw[h5] at g1 g2;exact ⟨Is g1,g1,by rw[g2,hme];omega⟩
theorem Up {b:Pq}{d:Nq}{G:List Nat} (H:WR lo h w a1 c1 a2 c2 a3 c3 a4 c4 F1 F2 F3 F4) (hg:Fits w) (hf:KI w.places f) (hv:RTags false h [.sl 2 b f.ver.past.length d] f.ver.past G) :
  ∃ h' F',(Aq f.to w.places.length (eO a1 λw0=>eO (ld h w0.1 (w0.2+f.to.toNat) 0 6) λw0=>eC w0 λw0 p=>eI .i64 w0 λw0=>eC p λp q=>eI .i64 p λp=>eC q λq g=>eS 2 q λq i j=>eC g λg k=>eS 6 g λg m t=>eC k λk d0=>eS 1 k λk e f0=>eC d0 λd0 v0=>eBv d0 λd0=>eN v0 (Ai (Ae lo 260 [.agg [Iv w0,Iv p,.sl 2 q i j,.sl 6 g m t,.sl 1 k e f0,.bool d0],Iv f.fro,Iv f.at',.agg [Iv f.ver.key,Iv f.ver.tag.time,Iv f.ver.tag.place,.sl 2 b f.ver.past.length d,.str f.ver.text,.bool f.ver.gone]] h) λw1 p=>eU w1 λw1=>eC w1 λw1 q=>eA w1 λw1=>eC w1 λw1 g=>eI .i64 w1 λw1=>eC g λg i=>eI .i64 g λg=>eC i λi j=>eS 2 i λi k m=>eC j λj t=>eS 6 j λj d e=>eC t λt f0=>eS 1 t λt v0 v1=>eC f0 λf0 v2=>eBv f0 λf0=>eN v2 (eC q λq v2=>eB q (eN v2 (Aq f.to w.places.length (eO a1 λq=>eO (st lo p q.1 (q.2+f.to.toNat) 0 [Iv w1,Iv g,.sl 2 i k m,.sl 6 j d e,.sl 1 t v0 v1,.bool f0]) λw1=>some (V.tup [.agg (w.cs a1 c1 a2 c2 a3 c3 a4 c4),.bool true],w1)))) (eN v2 (some (V.tup [.agg (w.cs a1 c1 a2 c2 a3 c3 a4 c4),.bool true],p)))))))=some (V.tup [.agg (w.cs a1 c1 a2 c2 a3 c3 a4 c4),.bool true],h') /\
   Oq lo h' (w.cs a1 c1 a2 c2 a3 c3 a4 c4) (Mh w f) F'/\Mv h (F1++(F2++(F3++F4))) h' F':=by
 obtain ⟨hth,hvo,hvt⟩:=NW hg hf;obtain ⟨⟨h1,h1'⟩,⟨h2,h2'⟩,h3,h4,h5⟩:=hf;obtain ⟨fro,to,at',ver⟩:=f;simp only at *
 obtain ⟨k,rfl⟩:∃ k:Nat,to=(k:Int):=⟨to.toNat,by omega⟩;obtain ⟨j,rfl⟩:∃ j:Nat,fro=(j:Int):=⟨fro.toNat,by omega⟩;have hk:k<w.places.length:=by have:=hg.ok.p3;omega
 obtain ⟨hpo,hme,hro⟩:=hg.at hk;obtain ⟨b0,i,s1,s2,s3,b1,d1,b2,d2,b3,d3,G1,G2,G3,rfl,hld,_,_,e1,e2,e3,g1,g2,g3,nd,hF,put⟩:=H.place hk;have hx:Mh w ⟨(j:Int),(k:Int),at',ver⟩=setP w k (Hg w.places[k] j at' ver):=by unfold Mh;simp only[Bm,Dx hk]
 rw[hx];rw[Ad hk,Ag,Bm,hld,Ag,Ab,Aa,Ab,Aa,Ab,e1,Ab,e2,Ab,e3,Ab,AB,Af];generalize hp:w.places[k]=p at hpo hme hro hld e1 e2 e3 g1 g2 g3 put;have ht:=CS hpo;have h3g:=(AX hpo).2.2.1;have nd':=nd;rw[zbm,zbm] at nd';obtain ⟨nd1,⟨nd2,nd3,Tz⟩,nd5⟩:=nd';have hj:j<p.got.length:=by omega
 obtain ⟨h5',F5,e5,r5,m5,x5⟩:=Ss (lo:=lo) (at':=at') (a1:=b1) (c1:=d1) (a2:=b2) (c2:=d2) g3 hv hj (by have:=(ht.got.2 _ (zbk hj)).1;omega) (by have:=hth.1;omega) nd3 (λy hy=>(hF y (by simp[hy])).1) H.hl;simp only[Place.cs,Ver.cs] at e5;have hc:Hj p (j:Int) at' ver=I4 p j at' ver:=by unfold Hj;rw[hvo,hvt,Kl,Bm];simp[An];omega
 have hsame:setP w k p=w:=by unfold setP;rw[<- hp,zcR]
 rw[e5,Ac,Hz,Ab,AA,Ab,Aa,Ab,Aa,Ab,Ah,Ab,Ah,Ab,Ah,Ab,AB,Af,Ab,Az];unfold Hg;rw[hc];cases hh:I4 p j at' ver with
 | false =>have:=x5 hh;subst this;rw[Ay,Af,cond_false,hsame];exact ⟨_,_,rfl,H.at,Mv.refl H.nd⟩
 | true =>
  rw[hh,cond_true] at r5;have hb:∀ y∈G1++(G2++G3),y<h.length:=λy hy=>(hF y hy).2.1
  have mm:Mv h (G1++(G2++G3)) h5' (G1++(G2++F5)):=m5.mid Yf nd (λy hy=>hb y (by simp only[zbl] at hy ⊢;grind)) Yf;have hcs:(JN p j ver).cs b1 d1 b2 d2 b3 d3=p.cs b1 d1 b2 d2 b3 d3:=ZK;have rr:RPlace false h5' (p.cs b1 d1 b2 d2 b3 d3) (JN p j ver) (G1++(G2++F5)):=by
   rw[<- hcs];refine ⟨_,_,_,G1,G2,F5,rfl,rfl,m5.keep rnodes_ok g1 (λy hy hm=>nd5 y hy y (by simp[hm]) rfl),m5.keep rvers_ok g2 (λy hy hm=>Tz y hy y hm rfl),?_⟩;have:(JN p j ver).got=p.got.set j (p.got[j] ++ [ver]):=by unfold JN;rw[I6 hj]
   rw[this,zbL];exact r5
  obtain ⟨h6,F6,e6,q6,m6⟩:=put h5' _ _ _ mm rr rfl;simp only[Place.cs] at e6;rw[Ap,Af,Ad hk,Ag,e6,Ag,cond_true,Bm];refine ⟨h6,_,rfl,?_,m6⟩;rw[<- Wi (k:=k) (p:=JN p j ver)];exact q6.at
def Ua (w:World) (e:Event):Option World:=bif e.kind==10 then RF w e else Ni w e
theorem U9 {e:Event} (H:WR lo h w a1 c1 a2 c2 a3 c3 a4 c4 F1 F2 F3 F4) (hg:Fits w) :
  ∃ cs' h' F',Ae lo 186 [.agg (w.cs a1 c1 a2 c2 a3 c3 a4 c4),.agg e.cs] h=some (.tup [.agg cs',.bool (Ua w e).isSome],h')/\Oq lo h' cs' ((Ua w e).getD w) F'/\Mv h (F1++(F2++(F3++F4))) h' F'/\((Ua w e)=none->cs'=w.cs a1 c1 a2 c2 a3 c3 a4 c4):=by
 obtain ⟨kind,at',num,key,text,gone⟩:=e;suffices hk:∃ cs' h' F',_=some (V.tup [.agg cs',.bool (Ua w ⟨kind,at',num,key,text,gone⟩).isSome],h')/\Oq lo h' cs' ((Ua w ⟨kind,at',num,key,text,gone⟩).getD w) F'/\Mv h (F1++(F2++(F3++F4))) h' F'/\((Ua w ⟨kind,at',num,key,text,gone⟩)=none->cs'=w.cs a1 c1 a2 c2 a3 c3 a4 c4) from by obtain ⟨cs',h',F',e,hr⟩:=hk;exact ⟨cs',h',F',Te e,hr⟩
 have hp3:=hg.ok.p3;have hn12:=hg.ok.n12;unfold Ua;cases h10:kind==10 with
 | true =>
  rw[cond_true,Ap,Bp,Ac,Az];unfold RF;cases x1:An at' 0 2 with
  | false =>rw[zcD,cond_false,Ay];exact ⟨_,h,_,rfl,H.at,Mv.refl H.nd,λ_=>rfl⟩
  | true =>
  rw[zbK,Ap,Bp,Ac,Az];cases x2:An num 0 2 with
  | false =>rw[zcD,cond_false,Ay];exact ⟨_,h,_,rfl,H.at,Mv.refl H.nd,λ_=>rfl⟩
  | true =>
  rw[zbK,Ap];cases x3:at'==num with
  | true =>rw[zb5,zcD,cond_false,Ap];exact ⟨_,h,_,rfl,H.at,Mv.refl H.nd,λ_=>rfl⟩
  | false =>
  rw[zcs,zbK,Ay];by_cases x4:(w.net.length:Int)<12
  ·simp only[An,DH,decide_eq_true_eq] at x1;obtain ⟨k,rfl⟩:∃ k:Nat,at'=(k:Int):=⟨at'.toNat,by omega⟩;have hk:k<w.places.length:=by omega
   obtain ⟨hpo,hme,hro⟩:=hg.at hk;obtain ⟨b0,i,s1,s2,s3,b1,d1,b2,d2,b3,d3,G1,G2,G3,rfl,hld,hc2,hc3,e1,e2,e3,g1,g2,g3,nd,hF,put⟩:=H.place hk;have hll:=(CS hpo).log.1;rw[decide_eq_true x4,zbK,Aj (by omega),Ad hk,Ag,Bm,hc3,Ag,Ab,Af,e2,wr (by omega) (by omega),Bp,Ac,Az,RO hk];generalize hp:w.places[k]=p at hpo hme hro hld e1 e2 e3 g1 g2 g3 put hll;cases x5:An key 0 ((p.log.length:Int) - 1) with
   | false =>rw[cond_false,Ay];exact ⟨_,h,_,rfl,H.at,Mv.refl H.nd,λ_=>rfl⟩
   | true =>
   simp only[An,DH,decide_eq_true_eq] at x5;obtain ⟨m,rfl⟩:∃ m:Nat,key=(m:Int):=⟨key.toNat,by omega⟩;have hm:m<p.log.length:=by omega
   obtain ⟨o,s,b,d,G,ha,ho,es,hpv,hGF⟩:=g2.get hm;have hth:=(CS hpo).log.2 _ (zbk hm);obtain ⟨a5,c5,h5,F5,e5,r5,m5⟩:=CJ (lo:=lo) (v:=p.log[m]) hpv H.hl (by have:=hth.1;omega);have e5':=e5;simp only[Ver.cs] at e5';rw[cond_true,Ap,Ad hk,Ag,hc3,Ag,Ab,Af,e2,Ad hm,ha,Ag,Bm,ho,Ag,Ab,Aa,Ab,Aa,Ab,Aa,Ab,es,Ab,Bq,Ab,AB,Af,e5',Ac,AA,Ab,Aa,Ab,Aa,Ab,Aa,Ab,Ah,Ab,Bq,Ab,AB,Af,A9,Dx hm];obtain ⟨⟨n1,n2,n3,n4⟩,_⟩:=Tz H.nd;obtain ⟨a6,c6,h6,F6,e6,r6,m6⟩:=E0 (lo:=lo) (bytes:=96) (e:=123) rframe_ok H.r3 (row := Iv (k:Nat) :: Iv num :: Iv (m:Nat) :: p.log[m].cs a5 c5) (x:=⟨(k:Nat),num,(m:Nat),p.log[m]⟩) (G:=F5) (h1:=h5 ++ [.rows 9 123 false [Iv (k:Nat) :: Iv num :: Iv (m:Nat) :: p.log[m].cs a5 c5]])
    ⟨_,rfl,_,rfl,Mv.snoc.keep0 rtags_ok r5⟩ (m5.trans (Mv.snoc' m5.nd)) n3 (λy hy=>H.ge y (by simp[hy])) H.hl (by decide) (by omega)
   simp only[Ver.cs] at e6;rw[e6,Ah];have hnl:(w.net ++ [(⟨(k:Nat),num,(m:Nat),p.log[m]⟩:Frame)]).length=w.net.length+1:=by simp
   rw[<- hnl] at r6;obtain ⟨q,mq⟩:=H.up3 m6 r6;refine ⟨_,h6,_,?_,q.at,mq,λg=>by first | cases g | (simp at g)⟩;rw[<- hnl];rfl
  ·rw[decide_eq_false x4,zcD,cond_false,Ak (by omega)];exact ⟨_,h,_,rfl,H.at,Mv.refl H.nd,λ_=>rfl⟩
 | false =>
 rw[cond_false,Ay,wr (by omega) (by omega),Bp,Ac,Az];unfold Ni;cases x1:An at' 0 ((w.net.length:Int) - 1) with
 | false =>rw[cond_false,Ay];exact ⟨_,h,_,rfl,H.at,Mv.refl H.nd,λ_=>rfl⟩
 | true =>
 simp only[An,DH,decide_eq_true_eq] at x1;obtain ⟨j,rfl⟩:∃ j:Nat,at'=(j:Int):=⟨at'.toNat,by omega⟩;have hj:j<w.net.length:=by omega
 obtain ⟨⟨n1,n2,n3,n4⟩,_⟩:=Tz H.nd;obtain ⟨xs,Fs,F0,hraw,hall,rfl⟩:=H.r3.bare;have hxl:w.net.length=xs.length:=hraw.val;obtain ⟨row,Fj,hr,hFj,⟨vs,rfl,hv⟩⟩:=hall.get (Dx hj);obtain ⟨s,b,d,rfl,es,hpv⟩:=hv.form;obtain ⟨o,row',_,ha,hld,⟨rfl,_⟩,_⟩:=hraw.read (show j<xs.length by omega);have hro:xs[j]'(by omega) = Iv w.net[j].fro :: Iv w.net[j].to :: Iv w.net[j].at' :: [Iv w.net[j].ver.key,Iv w.net[j].ver.tag.time,Iv w.net[j].ver.tag.place,s,.str w.net[j].ver.text,.bool w.net[j].ver.gone]:=by rw[Dx (by omega)] at hr;injection hr
 have hfi:=hg.ok.net _ (zbk hj);have hld9:ld h o.1 (o.2+j) 0 9=some (Iv w.net[j].fro :: Iv w.net[j].to :: Iv w.net[j].at' :: [Iv w.net[j].ver.key,Iv w.net[j].ver.tag.time,Iv w.net[j].ver.tag.place,s,.str w.net[j].ver.text,.bool w.net[j].ver.gone]):=by rw[hld,id,hro];exact IJ rfl
 rw[Ap,Ad hj,ha,Ag,Bm,hld9,Ag,Ab,Aa,Ab,Aa,Ab,Aa,Ab,Aa,Ab,Aa,Ab,Aa,Ab,es,Ab,Bq,Ab,AB,Af,cond_true,Dx hj,<- ha];simp only[];cases h13:kind==13 with
 | true =>
  have h12:(kind==12)=false:=by rw[beq_iff_eq] at h13;subst h13;rfl
  rw[Ap,h12,Ay];obtain ⟨h',F',e,W,m⟩:=Up H hg hfi hpv;refine ⟨_,h',F',e,?_,m,λg=>by first | cases g | (simp at g)⟩;simpa using W
 | false =>
  rw[zbm] at n3;obtain ⟨n5,n6,n7⟩:=n3;rw[hxl] at hraw;obtain ⟨a6,c6,h6,F6,e6,r6,m6⟩:=XI (k:=j) (lo:=lo) (bytes:=96) CF hraw (by omega) n5 (λy hy=>H.ge y (by simp[hy])) H.hl (by decide) (by omega);rw[<- hxl] at e6;have hbd:∀ y∈F0++Fs.flatten,y<h.length:=H.lt.2.2.1;have hel:(xs.eraseIdx j).length=(w.net.eraseIdx j).length:=by rw[zch hj,zch (by omega)];omega
  obtain ⟨k1,k2⟩:=KZ hFj n6;have all6:=(hall.fr rframe_ok.fr λy hy=>m6.fr y (hbd y (by simp[hy])) λhm=>n7 y hm y hy rfl).erase j;have r3':=r6.cook all6;rw[hel] at r3' e6;have mm:Mv h (F0++Fs.flatten) h6 (F6++Fs.flatten):=m6.mid (.refl _) (by rw[zbm];exact ⟨n5,n6,n7⟩) (λy hy=>hbd y (by simp[hy])) (.refl _);have nd6:=mm.nd;rw[zbm] at nd6;have mm':Mv h (F0++Fs.flatten) h6 (F6++(Fs.eraseIdx j).flatten):=mm.lean (by
   rw[zbm];exact ⟨nd6.1,k1,λx hx y hy=>nd6.2.2 x hx y (k2 y hy).1⟩) λy hy=>by
    rcases zbl.1 hy with hy | hy
    ·simp[hy]
    ·simp[(k2 y hy).1]
  obtain ⟨q,mq⟩:=H.up3 mm' r3';have hpv6:=m6.keep rtags_ok hpv λy hy hm=>n7 y hm y (Js hFj hy) rfl;rw[show YR false=123 from rfl] at e6;rw[Ay,At (by omega),e6,Ah];cases h12:kind==12 with
  | true =>rw[Ap];exact ⟨_,h6,_,rfl,q.at,mq,λg=>by first | cases g | (simp at g)⟩
  | false =>rw[Ay];have hgn:Fits (setN w (w.net.eraseIdx j)):=⟨hg.ok.netN (zbj (zcP _ _) hn12) λx hx=>hg.ok.net x (zcz hx)⟩;obtain ⟨h',F',e,W,m⟩:=Up (w:=setN w (w.net.eraseIdx j)) q hgn hfi hpv6;refine ⟨_,h',F',e,?_,mq.trans m,λg=>by first | cases g | (simp at g)⟩;simpa using W
end


variable {t:Tag}{l:List Tag}
section
variable {lo:Nat}{h h':Heap}{F F':List Nat}{a a':Pq}{c c':Nq}
theorem Pp {s:Tag}:Ae lo 307 [.agg [Iv s.time,Iv s.place],.agg [Iv t.time,Iv t.place]] h=some (.agg [Iv (Jt s t).time,Iv (Jt s t).place],h):=by unfold Jt FW;refine Tq (h':=h) ?_;rw[BF,Ac,Az];cases GA s.time s.place t.time t.place<;>rfl
theorem Ru {k:Nat} (hk:k<l.length):IT l k t=l.set k (Jt l[k] t):=by unfold IT;rw[Dx hk]
theorem WY {k:Nat}:(IT l k t).length=l.length:=by unfold IT;split<;>simp
theorem J1 {k:Nat} (hs:RTags false h [.sl 2 a l.length c] l F) (hk:k<l.length) (hl:lo<=h.length) (hn:l.length<=1048576) :
  ∃ a' c' h' F',Ae lo 289 [.agg [.sl 2 a l.length c],Iv (k:Nat),.agg [Iv t.time,Iv t.place]] h=some (.agg [.sl 2 a' l.length c'],h')/\RTags false h' [.sl 2 a' l.length c'] (IT l k t) F'/\Mv h [] h' F':=by
 obtain ⟨a1,c1,h1,F1,e1,r1,m1⟩:=Ja (lo:=lo) (h:=h) (l:=l) hl hn;obtain ⟨b,i,rs,row,G,ha,hbF,hbG,hb,hrow,⟨rfl,rfl⟩,hGF,hGn,_,put⟩:=r1.at (lo:=lo) CF hk m1.nd (λy hy=>m1.ge hl (by simp) y hy);have hld:ld h1 b (i+k) 0 2=some [Iv l[k].time,Iv l[k].place]:=by rw[BT hb hrow];rfl
 obtain ⟨h2,F2,e2,r2,m2,_⟩:=put h1 [] 0 (Jt l[k] t).cs (Jt l[k] t).cs (Jt l[k] t) Mv.nil rfl ⟨rfl,rfl⟩;subst ha;refine ⟨some (b,i),c1,h2,F2,Rj ?_,by rw[Ru hk];exact r2,m1.trans m2⟩;simp only[Tag.cs] at e2;rw[RTags.rows (Mv.snoc.keep0 rtags_ok hs),e1,Ah,Ad hk,Ag,Bm,hld,Ag,Ab,Aa,Ab,Aa,Af,Pp,Ac,AA,Ab,Aa,Ab,Aa,Af,Ad hk,Ag,e2,Ag]
theorem TT {p q:List Tag} (hs:RTags false h [.sl 2 a p.length c] p F) (hs':RTags false h [.sl 2 a' q.length c'] q F') (hp:p.length=4) (hq:q.length=4) (hl:lo<=h.length) :
  ∃ q5 a5 c5 h' F5,Ae lo 290 [.agg [.sl 2 a p.length c],.agg [.sl 2 a' q.length c']] h=some (.agg [.sl q5 a5 (I1 p q).length c5],h')/\RTags false h' [.sl q5 a5 (I1 p q).length c5] (I1 p q) F5/\Mv h [] h' F5:=by
 have hj:(I1 p q).length=4:=by unfold I1;rw[List.length_zipWith];omega
 obtain ⟨q5,a5,c5,h',F5,e,r,m⟩:=Dn (El:=flat Tag.cs) CF (h:=h) (l:=I1 p q) (f:=id) (lo:=lo) (R:=2) (e:=36) (bytes:=16) hl (by decide) (by omega)
  (λi q5 a1 n1 c1 hh=>C6 lo (i:Nat) a p.length c a' q.length c' 0 none 0 (some 0) q5 a1 n1 c1 hh) (λi hi q5 a1 n1 c1 hh hm=>by
   obtain ⟨o,ha,ho⟩:=(hm.keep0 rtags_ok hs).get (show i<p.length by omega);obtain ⟨o',ha',ho'⟩:=(hm.keep0 rtags_ok hs').get (show i<q.length by omega);have hji:(I1 p q)[i]=Jt p[i] q[i]:=List.getElem_zipWith;refine ⟨[Iv (Jt p[i] q[i]).time,Iv (Jt p[i] q[i]).place],[],hh ++ [.rows 2 36 false [[Iv (Jt p[i] q[i]).time,Iv (Jt p[i] q[i]).place]]],⟨by rw[id,hji];rfl,rfl⟩,Mv.snoc,?_⟩;rw[C6.e,Ak (by omega),Ad (show i<p.length by omega),ha,Ag,Bm,ho,Ag,Ab,Aa,Ab,Aa,Af,Ad (show i<q.length by omega),ha',Ag,ho',Ag,Ab,Aa,Ab,Aa,Af,Pp,Ac,AA,Ab,Aa,Ab,Aa,Af,A9,At (by omega)])
 rw[zcV] at r;refine ⟨q5,a5,c5,h',F5,Rm ?_,r,m⟩;refine e.trans ?_;rw[C6.e,Aj (by omega)]
end
section
variable {lo:Nat}{h h':Heap}{w:World}{a1 a2 a3 a4 a:Pq}{c1 c2 c3 c4 c:Nq}{F1 F2 F3 F4:List Nat}
theorem EA {d:Done} (H:WR lo h w a1 c1 a2 c2 a3 c3 a4 c4 F1 F2 F3 F4) (h80:w.hist.length<=1000) :
  ∃ a5 c5 h' G,Ae lo 287 [.agg (w.cs a1 c1 a2 c2 a3 c3 a4 c4),Iv d.sess,Iv d.kind,Iv d.key,.agg [Iv d.tag.time,Iv d.tag.place]] h=some (.agg ((World.mk w.places w.sess w.net (w.hist ++ [d])).cs a1 c1 a2 c2 a3 c3 a5 c5),h') /\
   WR lo h' ⟨w.places,w.sess,w.net,w.hist ++ [d]⟩ a1 c1 a2 c2 a3 c3 a5 c5 F1 F2 F3 G/\Mv h (F1++(F2++(F3++F4))) h' (F1++(F2++(F3++G)))/\∀ y∈F1,h'[y]?=h[y]?:=by
 obtain ⟨⟨n1,n2,n3,n4⟩,_,_,d14,_⟩:=Tz H.nd;obtain ⟨a6,c6,h6,F6,e6,r6,m6⟩:=E0 (lo:=lo) (bytes:=40) (e:=126) (El:=flat Done.cs) CF H.r4 (row:=d.cs) (x:=d) (G := []) (h1:=h ++ [.rows 5 126 false [d.cs]])
  ⟨rfl,rfl⟩ Mv.snoc n4 (λy hy=>H.ge y (by simp[hy])) H.hl (by decide) (by omega)
 have hnl:(w.hist ++ [d]).length=w.hist.length+1:=by simp
 rw[<- hnl] at r6 e6;obtain ⟨q,mq⟩:=H.up4 m6 r6;refine ⟨a6,c6,h6,F6,QT ?_,q,mq,λy hy=>m6.fr y (H.lt.1 y hy) (d14 y hy)⟩;simp only[Done.cs] at e6;rw[A9,e6,Ah]
theorem WR.sess (H:WR lo h w a1 c1 a2 c2 a3 c3 a4 c4 F1 F2 F3 F4) {k:Nat} (hk:k<w.sess.length):∃ b i v b1 d1 G,a2=some (b,i) /\
  ld h b (i+k) 0 5=some [Iv w.sess[k].place,v,Iv w.sess[k].wait.time,Iv w.sess[k].wait.place,Iv w.sess[k].key]/\ld h b (i+k) 1 1=some [v]/\ld h b (i+k) 2 1=some [Iv w.sess[k].wait.time] /\
  (∀ {R':Type} (K:Pq->Nat->Nq->Option R'),eS 2 v K=K b1 w.sess[k].past.length d1)/\RTags false h [.sl 2 b1 w.sess[k].past.length d1] w.sess[k].past G/\RTags false h [v] w.sess[k].past G/\G.Nodup /\
  ∀ h1 G1 j cs row' s',Mv h G h1 G1->paste [Iv w.sess[k].place,v,Iv w.sess[k].wait.time,Iv w.sess[k].wait.place,Iv w.sess[k].key] j cs=some row'->RSess false h1 row' s' G1 ->
   ∃ h2 F2',st lo h1 b (i+k) j cs=some h2/\WR lo h2 ⟨w.places,w.sess.set k s',w.net,w.hist⟩ a1 c1 a2 c2 a3 c3 a4 c4 F1 F2' F3 F4/\Mv h (F1++(F2++(F3++F4))) h2 (F1++(F2'++(F3++F4)))/\∀ y∈F1,h2[y]?=h[y]?:=by
 obtain ⟨⟨_,n2,_,_⟩,d12,_⟩:=Tz H.nd;obtain ⟨b,i,rs,row,G,ha,hbF,hbG,hb,hrow,hel,hGF,hGn,_,put⟩:=Sli.at (lo:=lo) IW H.r2 hk n2 (λy hy=>H.ge y (by simp[hy]));obtain ⟨v,rfl,hv⟩:=hel;obtain ⟨b1,d1,es,hv'⟩:=hv.form;refine ⟨b,i,v,b1,d1,G,ha,by rw[BT hb hrow];exact IJ rfl,by rw[BT hb hrow];rfl,by rw[BT hb hrow];rfl,es,hv',hv,hGn,λh1 G1 j cs row' s' m hp hx=>?_⟩;obtain ⟨h2,F',e,r,m2,_⟩:=put h1 G1 j cs row' s' m hp hx;have hlen:(w.sess.set k s').length=w.sess.length:=by simp
 rw[<- hlen] at r;obtain ⟨q1,q2⟩:=H.up2 m2 r;exact ⟨h2,F',e,q1,q2,λy hy=>m2.fr y (H.lt.1 y hy) (d12 y hy)⟩
theorem WR.wait (H:WR lo h w a1 c1 a2 c2 a3 c3 a4 c4 F1 F2 F3 F4) {k:Nat} (hk:k<w.sess.length) (t:Tag) (key:Int) :
  ∃ h' F2',(∀ {T:Type} (K:Heap->Option T),(Aq (k:Nat) w.sess.length (eO a2 λv=>eO (st lo h v.1 (v.2+k) 2 [Iv t.time,Iv t.place]) λv=>Aq (k:Nat) w.sess.length (eO a2 λp=>eO (st lo v p.1 (p.2+k) 4 [Iv key]) K)))=K h') /\
   WR lo h' ⟨w.places,w.sess.set k ⟨w.sess[k].place,w.sess[k].past,t,key⟩,w.net,w.hist⟩ a1 c1 a2 c2 a3 c3 a4 c4 F1 F2' F3 F4/\Mv h (F1++(F2++(F3++F4))) h' (F1++(F2'++(F3++F4))):=by
 obtain ⟨b,i,v,b1,d1,G,ha,_,_,_,es,hv',hv,hGn,put⟩:=H.sess hk;obtain ⟨h2,F5,e2,q2,m2,_⟩:=put h G 2 [Iv t.time,Iv t.place] [Iv w.sess[k].place,v,Iv t.time,Iv t.place,Iv w.sess[k].key] ⟨w.sess[k].place,w.sess[k].past,t,w.sess[k].key⟩ (Mv.refl hGn) rfl ⟨v,rfl,hv⟩;have hk2:k<(w.sess.set k ⟨w.sess[k].place,w.sess[k].past,t,w.sess[k].key⟩).length:=by simpa using hk
 obtain ⟨b',i',v',b1',d1',G',ha',_,_,_,es2,hv2',hv2,hGn2,put2⟩:=q2.sess hk2;simp only[zcG] at hv2 put2;obtain ⟨h3,F6,e3,q3,m3,_⟩:=put2 h2 G' 4 [Iv key] [Iv w.sess[k].place,v',Iv t.time,Iv t.place,Iv key] ⟨w.sess[k].place,w.sess[k].past,t,key⟩ (Mv.refl hGn2) rfl ⟨v',rfl,hv2⟩;rw[ha] at ha';injection ha' with ha';injection ha' with x1 x2;subst x1;subst x2;refine ⟨h3,F6,λK=>?_,by simpa using q3,m2.trans m3⟩;rw[Ad hk,ha,Ag,e2,Ag,Ad hk,Ag,e3,Ag]
theorem WR.past (H:WR lo h w a1 c1 a2 c2 a3 c3 a4 c4 F1 F2 F3 F4) {k:Nat} (hk:k<w.sess.length) {h1:Heap}{G1:List Nat} (m:Mv h [] h1 G1) {q n:Nat} (r:RTags false h1 [.sl q a n c] l G1) :
  ∃ h' F2',(∀ {T:Type} (K:Heap->Option T),(Aq (k:Nat) w.sess.length (eO a2 λv=>eO (st lo h1 v.1 (v.2+k) 1 [.sl q a n c]) K))=K h') /\
   WR lo h' ⟨w.places,w.sess.set k ⟨w.sess[k].place,l,w.sess[k].wait,w.sess[k].key⟩,w.net,w.hist⟩ a1 c1 a2 c2 a3 c3 a4 c4 F1 F2' F3 F4/\Mv h (F1++(F2++(F3++F4))) h' (F1++(F2'++(F3++F4)))/\∀ y∈F1,h'[y]?=h[y]?:=by
 obtain ⟨b,i,v,b1,d1,G,ha,_,_,_,es,hv',hv,hGn,put⟩:=H.sess hk;obtain ⟨h2,F5,e2,q2,m2,s2⟩:=put h1 G1 1 [.sl q a n c] [Iv w.sess[k].place,.sl q a n c,Iv w.sess[k].wait.time,Iv w.sess[k].wait.place,Iv w.sess[k].key] ⟨w.sess[k].place,l,w.sess[k].wait,w.sess[k].key⟩ (m.wide (by simp)) rfl ⟨_,rfl,r⟩;refine ⟨h2,F5,λK=>?_,q2,m2,s2⟩;rw[Ad hk,ha,Ag,e2,Ag]
end


section
variable {lo:Nat}{h h':Heap}{w:World}{a1 a2 a3 a4 a:Pq}{c1 c2 c3 c4 c:Nq}{F1 F2 F3 F4:List Nat}
theorem WR.stay (H:WR lo h w a1 c1 a2 c2 a3 c3 a4 c4 F1 F2 F3 F4) {X:Option World} (hX:X=none) :
  ∃ cs' h' F',some (V.tup [.agg (w.cs a1 c1 a2 c2 a3 c3 a4 c4),.bool false],h)=some (V.tup [.agg cs',.bool X.isSome],h')/\Oq lo h' cs' (X.getD w) F'/\Mv h (F1++(F2++(F3++F4))) h' F'/\((X)=none->cs'=w.cs a1 c1 a2 c2 a3 c3 a4 c4):=by
 subst hX;exact ⟨_,h,_,rfl,H.at,Mv.refl H.nd,λ_=>rfl⟩
theorem Sq {kind num key:Int}{text:ByteArray}{gone:Bool}{i:Nat} (H:WR lo h w a1 c1 a2 c2 a3 c3 a4 c4 F1 F2 F3 F4) (hg:Fits w) (ht:text.size<=1048576) (hi:i<w.sess.length) :
  ∃ cs' h' F',Ae lo 249 [.agg (w.cs a1 c1 a2 c2 a3 c3 a4 c4),.agg [Iv kind,Iv (i:Nat),Iv num,Iv key,.str text,.bool gone]] h=some (.tup [.agg cs',.bool (GG w i w.sess[i] ⟨kind,(i:Nat),num,key,text,gone⟩).isSome],h') /\
   Oq lo h' cs' ((GG w i w.sess[i] ⟨kind,(i:Nat),num,key,text,gone⟩).getD w) F'/\Mv h (F1++(F2++(F3++F4))) h' F'/\((GG w i w.sess[i] ⟨kind,(i:Nat),num,key,text,gone⟩)=none->cs'=w.cs a1 c1 a2 c2 a3 c3 a4 c4):=by
 suffices hk:∃ cs' h' F',_=some (V.tup [.agg cs',.bool (GG w i w.sess[i] ⟨kind,(i:Nat),num,key,text,gone⟩).isSome],h')/\Oq lo h' cs' ((GG w i w.sess[i] ⟨kind,(i:Nat),num,key,text,gone⟩).getD w) F'/\Mv h (F1++(F2++(F3++F4))) h' F'/\((GG w i w.sess[i] ⟨kind,(i:Nat),num,key,text,gone⟩)=none->cs'=w.cs a1 c1 a2 c2 a3 c3 a4 c4) from by obtain ⟨cs',h',F',e,hr⟩:=hk;exact ⟨cs',h',F',Qh e,hr⟩
 have hso:=hg.ok.sess _ (zbk hi);obtain ⟨t1,t2,t3,t4,t5,t6⟩:=DF hso;have h80:=hg.ok.h80;obtain ⟨k,hpl⟩:∃ k:Nat,w.sess[i].place=(k:Int):=⟨w.sess[i].place.toNat,by omega⟩;have hk:k<w.places.length:=by have:=hg.ok.p3;omega
 obtain ⟨hpo,hme,hro⟩:=hg.at hk;have hn:=(FN (CS hpo) (by decide) (by decide) (by decide)).1;have hX:GG w i w.sess[i] ⟨kind,(i:Nat),num,key,text,gone⟩=bif !decide (w.sess[i].wait.time>0)&&(AO w.places[k] key text gone w.sess[i].past&&D7 w 1) then
   some (setS (setP w k (Bl w.places[k] key text gone w.sess[i].past).1) i ⟨w.sess[i].place,w.sess[i].past,(Bl w.places[k] key text gone w.sess[i].past).2,key⟩ [⟨i,1,key,(Bl w.places[k] key text gone w.sess[i].past).2⟩]) else none:=by
  unfold GG;rw[hpl,Bm,Dx hk]
 obtain ⟨b',i',v,e1',d1',Gs,rfl,hld',_,_,es',hv',_,hGn,puts⟩:=H.sess hi;obtain ⟨b,j,s1,s2,s3,b1,d1,b2,d2,b3,d3,G1,G2,G3,rfl,hld,_,_,e1,e2,e3,g1,g2,g3,nd,hF,put⟩:=H.place hk;have hFlo:∀ y∈G1++(G2++G3),lo<=y:=λy hy=>(hF y hy).1
 generalize hXX:GG w i w.sess[i] ⟨kind,(i:Nat),num,key,text,gone⟩=X at hX;rw[Ad hi,Ag,Bm,hld',Ag,Ab,Aa,Ab,es',Ab,Aa,Ab,Aa,Ab,Aa,Af,hpl,Ad hk,Ag,Bm,hld,Ag,Ab,Aa,Ab,Aa,Ab,e1,Ab,e2,Ab,e3,Ab,AB,Af];by_cases hw:w.sess[i].wait.time>0
 ·rw[Ak hw];exact H.stay (by rw[hX,decide_eq_true hw];rfl)
 rw[Aj hw,Bp,Ac,Az];rw[decide_eq_false hw,zcs,zbK] at hX;cases hwk:An key 0 3 with
 | false=>rw[Ay];exact H.stay (by rw[hX];unfold AO;rw[hwk];rfl)
 | true =>
 rw[Ap,IO ht,Ac,Az];cases hto:DR text with
 | false=>rw[Ay];exact H.stay (by rw[hX];unfold AO;rw[hwk,hto];rfl)
 | true =>
 rw[Ap];have ec:=Pj (lo:=lo) (a2:=b2) (c2:=d2) (a3:=b3) (c3:=d3) g1 hv' hpo t2 hn;simp only[Place.cs] at ec;have fin:AO w.places[k] key text gone w.sess[i].past=true->D7 w 1=true->X=some ⟨w.places.set k (BE (EN w.places[k] 0 (AC w.places[k] w.sess[i].past) (By w.places[k] key text gone w.sess[i].past))),w.sess.set i ⟨w.sess[i].place,w.sess[i].past,⟨AC w.places[k] w.sess[i].past,w.places[k].me⟩,key⟩,w.net,w.hist ++ [⟨i,1,key,⟨AC w.places[k] w.sess[i].past,w.places[k].me⟩⟩]⟩:=λq1 q2=>by rw[hX,q1,q2];unfold Bl;rw[hpo,q1];rfl
 cases gone with
 | false =>
  rw[Ay,ec,Ac,Az];cases hm:E1 w.places[k] w.sess[i].past with
  | false=>rw[Ay];exact H.stay (by rw[hX];unfold AO;rw[hm];simp)
  | true =>
  have hcw:AO w.places[k] key text false w.sess[i].past=true:=by unfold AO;rw[hwk,hto,t2,hm];simp
  rw[Ap];by_cases hh:(w.hist.length:Int)>=80
  ·rw[Ak hh];exact H.stay (by rw[hX,show D7 w 1=false from decide_eq_false (by omega),zcE];rfl)
  have hX2:=fin hcw (decide_eq_true (by omega));obtain ⟨a6,c6,h5,F5,e5,⟨_,_,_,_,_,_,_,r5⟩,m5⟩:=HL (lo:=lo) g1 g2 g3 hv' hpo hcw nd hFlo H.hl;obtain ⟨h6,F6,e6,q6,m6⟩:=put h5 _ _ _ m5 r5 rfl;obtain ⟨h7,F7,e7,q7,m7⟩:=q6.wait hi ⟨AC w.places[k] w.sess[i].past,w.places[k].me⟩ key;obtain ⟨a8,c8,h8,F8,e8,q8,m8,_⟩:=EA (d:=⟨i,1,key,⟨AC w.places[k] w.sess[i].past,w.places[k].me⟩⟩) q7 (by show w.hist.length<=1000;omega);have W:=q8.at;simp only[setP,World.cs,zbL] at e7 e8 W;simp only[Place.cs] at e5 e6;rw[Aj hh,e5,Ac,Hz,Ab,AA,Ab,Aa,Ab,Aa,Ab,Ah,Ab,Ah,Ab,Ah,Ab,AB,Af,Ab,AA,Ab,Aa,Ab,Aa,Af,Af,Ad hk,Ag,e6,Ag];rw[e7,e8,Ac,AA,Ab,Ah,Ab,Ah,Ab,Ah,Ab,Ah,Af,hX2];exact ⟨_,h8,_,rfl,W,(m6.trans m7).trans m8,λg=>by first | cases g | (simp at g)⟩
 | true =>
  rw[Ap,GI];cases hnt:DY text with
  | false=>rw[Ay];exact H.stay (by rw[hX];unfold AO;rw[hwk,hto,hnt];rfl)
  | true =>
  rw[Ap,ec,Ac,Az];cases hm:E1 w.places[k] w.sess[i].past with
  | false=>rw[Ay];exact H.stay (by rw[hX];unfold AO;rw[hm];simp)
  | true =>
  have hcw:AO w.places[k] key text true w.sess[i].past=true:=by unfold AO;rw[hwk,hto,t2,hm,hnt];simp
  rw[Ap];by_cases hh:(w.hist.length:Int)>=80
  ·rw[Ak hh];exact H.stay (by rw[hX,show D7 w 1=false from decide_eq_false (by omega),zcE];rfl)
  have hX2:=fin hcw (decide_eq_true (by omega));obtain ⟨a6,c6,h5,F5,e5,⟨_,_,_,_,_,_,_,r5⟩,m5⟩:=HL (lo:=lo) g1 g2 g3 hv' hpo hcw nd hFlo H.hl;obtain ⟨h6,F6,e6,q6,m6⟩:=put h5 _ _ _ m5 r5 rfl;obtain ⟨h7,F7,e7,q7,m7⟩:=q6.wait hi ⟨AC w.places[k] w.sess[i].past,w.places[k].me⟩ key;obtain ⟨a8,c8,h8,F8,e8,q8,m8,_⟩:=EA (d:=⟨i,1,key,⟨AC w.places[k] w.sess[i].past,w.places[k].me⟩⟩) q7 (by show w.hist.length<=1000;omega);have W:=q8.at;simp only[setP,World.cs,zbL] at e7 e8 W;simp only[Place.cs] at e5 e6;rw[Aj hh,e5,Ac,Hz,Ab,AA,Ab,Aa,Ab,Aa,Ab,Ah,Ab,Ah,Ab,Ah,Ab,AB,Af,Ab,AA,Ab,Aa,Ab,Aa,Af,Af,Ad hk,Ag,e6,Ag];rw[e7,e8,Ac,AA,Ab,Ah,Ab,Ah,Ab,Ah,Ab,Ah,Af,hX2];exact ⟨_,h8,_,rfl,W,(m6.trans m7).trans m8,λg=>by first | cases g | (simp at g)⟩
end


variable {l:List UInt8}{ro:Bool}{xs:List ByteArray}{cc:Nq}
def za5 (x:UInt8):List V := [.int .u8 (x.toNat:Int)]
abbrev RBytes:Rel (List UInt8):=Sli true 1 0 (flat za5)
structure Rd (lo:Nat) (h:Heap) (b n:Nat):Prop where
 ge:lo<=b
 ex:∃ a code c p Fc,h[b]?=some (.rows 2 152 false [[.sl 1 a code.length c,Iv ((p:Nat):Int)]])/\RBytes h [.sl 1 a code.length c] code Fc/\(∀ y∈Fc,y<lo)/\p<=n/\code.length<=1048576
section
variable {lo:Nat}{h h':Heap}{F F':List Nat}{b n:Nat}
theorem Rd.lt (r:Rd lo h b n):b<h.length:=by obtain ⟨_,a,code,c,p,Fc,hb,_⟩:=r;exact (Gz hb).1
theorem Rd.up {n':Nat} (r:Rd lo h b n) (hn:n<=n'):Rd lo h b n':=by obtain ⟨hge,a,code,c,p,Fc,hb,hc,hF,hp,hl⟩:=r;exact ⟨hge,a,code,c,p,Fc,hb,hc,hF,by omega,hl⟩
theorem Rd.keep (r:Rd lo h b n) (m:Mv h F h' F') (hb:b∉F) (hF:∀ y∈F,lo<=y):Rd lo h' b n:=by have hlt:=r.lt;obtain ⟨hge,a,code,c,p,Fc,e,hc,hFc,hp,hl⟩:=r;refine ⟨hge,a,code,c,p,Fc,by rw[m.fr b hlt hb];exact e,m.keep (Sli.ok CF) hc (λy hy hm=>?_),hFc,hp,hl⟩;have h1:=hFc y hy;have h2:=hF y hm;omega
theorem U2 {v:Int} (h0:0<=v) (h1:v<4611686018427387904):0<=Ao (((BitVec.ofInt IntKind.i64.bits v ^^^ BitVec.ofInt IntKind.i64.bits (Ao (v.tdiv 64))).toNat:Nat):Int):=by
 obtain ⟨k,rfl⟩:∃ k:Nat,v=(k:Int):=⟨v.toNat,by omega⟩;have hd:((k:Nat):Int).tdiv 64=((k / 64:Nat):Int):=rfl;rw[hd,wr (n:=((k / 64:Nat):Int)) (by omega) (by omega)];have hb:IntKind.i64.bits=64:=rfl;have t:∀ q:Nat,q<4611686018427387904->(BitVec.ofInt IntKind.i64.bits ((q:Nat):Int)).toNat=q:=λq hq=>by rw[BitVec.toNat_ofInt,hb];omega
 have hx:(BitVec.ofInt IntKind.i64.bits ((k:Nat):Int) ^^^ BitVec.ofInt IntKind.i64.bits ((k / 64:Nat):Int)).toNat<2 ^ 62:=by rw[BitVec.toNat_xor,t k (by omega),t (k / 64) (by omega)];exact Nat.xor_lt_two_pow (by omega) (by omega)
 generalize (BitVec.ofInt IntKind.i64.bits ((k:Nat):Int) ^^^ BitVec.ofInt IntKind.i64.bits ((k / 64:Nat):Int)).toNat=w at hx;rw[wr (by omega) (by omega)];omega
theorem RBytes.get {a:Pq}{c:Nq}{m k:Nat} (hs:RBytes h [.sl 1 a m c] l F) (hk:k<l.length):∃ o,a=some o/\ld h o.1 (o.2+k) 0 1=some [.int .u8 (l[k].toNat:Int)]:=by obtain ⟨o,row,G,h1,h2,⟨rfl,_⟩,_⟩:=hs.read hk;exact ⟨o,h1,by rw[h2];rfl⟩
theorem pick (r:Rd lo h b n) (hn:n<=1000000) (m:Int):∃ (x:Int) (h':Heap),Ae lo 44 [.ptr (some (b,(0,0))),Iv m] h=some (Iv x,h')/\0<=x/\(0<m->x<m)/\Rd lo h' b (n+1)/\Mv h [b] h' [b]:=by
 obtain ⟨hge,a,code,c,p,Fc,hb,hc,hFc,hp,hcl⟩:=r;have hblt:=(Gz hb).1;have e1:ld h b 0 (0+1) 1=some [Iv ((p:Nat):Int)]:=by rw[BT hb rfl];rfl
 have e2:=D5 hb hge (r:=0) (j:=0+1) (cs := [Iv ((p+1:Nat):Int)]) (row' := [.sl 1 a code.length c,Iv ((p+1:Nat):Int)]) rfl rfl;generalize hh1:h.set b (Blk.rows 2 152 false (List.set [[V.sl 1 a code.length c,Iv ((p:Nat):Int)]] 0 [V.sl 1 a code.length c,Iv ((p+1:Nat):Int)]))=h1 at e2;have hb1:h1[b]?=some (.rows 2 152 false [[.sl 1 a code.length c,Iv ((p+1:Nat):Int)]]):=by rw[<- hh1];simp[hblt]
 have m1:Mv h [b] h1 [b]:=⟨by rw[<- hh1];simp,λy hy hF=>by rw[<- hh1];exact zbq (λe=>hF (by simp[e])),by simp,λy hy => .inl hy⟩;have hc1:RBytes h1 [.sl 1 a code.length c] code Fc:=m1.keep (Sli.ok CF) hc (λy hy hm=>by
  rw[zbr] at hm;have:=hFc y hy;omega)
 suffices hk:∃ x:Int,_=some (Iv x,h1)/\0<=x/\(0<m->x<m) from by obtain ⟨x,e,g1,g2⟩:=hk;exact ⟨x,h1,Mx e,g1,g2,⟨hge,a,code,c,p+1,Fc,hb1,hc1,hFc,by omega,hcl⟩,m1⟩
 rw[e1,Ag,Ab,Af,Aa,At (by omega),e2,Ag];by_cases hm:m<1
 ·rw[Ak hm];exact ⟨0,rfl,zcW _,λh=>by omega⟩
 ·have l0:ld h1 b 0 (0+0) 1=some [.sl 1 a code.length c]:=by rw[BT hb1 rfl];rfl
  have l1:ld h1 b 0 (0+1) 1=some [Iv ((p+1:Nat):Int)]:=by rw[BT hb1 rfl];rfl
  have tm:∀ z:Int,0<=z->∃ x:Int,some (Iv (z.tmod m),h1)=some (Iv x,h1)/\0<=x/\(0<m->x<m):=λz hz=>⟨_,rfl,Int.tmod_nonneg m hz,λh=>by rw[Int.tmod_eq_emod_of_nonneg hz];exact Int.emod_lt_of_pos z h⟩
  have w1:Ao (((p+1:Nat):Int) - 1)=((p:Nat):Int):=by rw[wr (by omega) (by omega)];omega
  rw[Aj hm,l0,Ag,Ab,Af,Ah];by_cases h0:code.length=0
  ·rw[show (((code.length:Nat):Int)==0)=true by rw[beq_iff_eq];omega,Ap];exact ⟨0,rfl,zcW _,λh=>by omega⟩
  ·rw[show (((code.length:Nat):Int)==0)=false by rw[beq_eq_false_iff_ne];omega,Ay,l1,Ag,Ab,Af,Aa,Ag,Ab,Af,Ah,w1];by_cases hpc:p<code.length
   ·obtain ⟨o,ha,hld⟩:=hc1.get hpc;have hbt:code[p].toNat<256:=code[p].toNat_lt;rw[Ak (by omega),Ag,Ab,Af,Ah,Ad hpc,ha,Ag,Bm,hld,Ag,Ab,Af,Aa,FV (by omega),wr (by omega) (by omega)];exact tm _ (by omega)
   ·have hk1:p % code.length<code.length:=Nat.mod_lt _ (by omega);have hk2:(p*7+3) % code.length<code.length:=Nat.mod_lt _ (by omega);obtain ⟨o,ha,hld⟩:=hc1.get hk1;obtain ⟨o',ha',hld'⟩:=hc1.get hk2;have ho:o'=o:=by rw[ha] at ha';injection ha' with e;exact e.symm
    subst ho;have hb1:code[p % code.length].toNat<256:=UInt8.toNat_lt _;have hb2:code[(p*7+3) % code.length].toNat<256:=UInt8.toNat_lt _;have t1:((p:Nat):Int).tmod ((code.length:Nat):Int)=((p % code.length:Nat):Int):=rfl;have t2:Ao (Ao (((p:Nat):Int)*7)+3)=((p*7+3:Nat):Int):=by rw[wr (n:=((p:Nat):Int)*7) (by omega) (by omega),wr (by omega) (by omega)];omega
    have t3:((p*7+3:Nat):Int).tmod ((code.length:Nat):Int)=(((p*7+3) % code.length:Nat):Int):=rfl;have t4:((p:Nat):Int).tdiv ((code.length:Nat):Int)=((p / code.length:Nat):Int):=rfl;have hdv:p / code.length<=p:=Nat.div_le_self _ _;rw[Aj (by omega),Ag,Ab,Af,Ah,Ag,Ab,Af,Ah,FV (by omega),t1,Ad hk1,ha,Ag,Bm,hld,Ag,Ab,Af,Aa,Ag,Ab,Af,Ah,Ag,Ab,Af,Ah,FV (by omega),t2,t3,Ad hk2,Ag,Bm,hld',Ag,Ab,Af,Aa,Ag,Ab,Af,Ah,FV (by omega),FV (by omega),t4];generalize code[p % code.length].toNat=B1 at hb1;generalize code[(p*7+3) % code.length].toNat=B2 at hb2;generalize p / code.length=D at hdv;rw[wr (n:=((B1:Nat):Int)) (by omega) (by omega),wr (n:=((B2:Nat):Int)) (by omega) (by omega),wr (n:=((B1:Nat):Int)*131) (by omega) (by omega),wr (n:=((B2:Nat):Int)*1117) (by omega) (by omega),wr (n:=((B1:Nat):Int)*131+((B2:Nat):Int)*1117) (by omega) (by omega),
     wr (n:=((p:Nat):Int)*29) (by omega) (by omega),wr (n:=((B1:Nat):Int)*131+((B2:Nat):Int)*1117+((p:Nat):Int)*29) (by omega) (by omega),wr (n:=((D:Nat):Int)) (by omega) (by omega),wr (n:=((D:Nat):Int)*53) (by omega) (by omega),wr (n:=((B1:Nat):Int)*131+((B2:Nat):Int)*1117+((p:Nat):Int)*29+((D:Nat):Int)*53) (by omega) (by omega)]
    exact tm _ (U2 (by omega) (by omega))
theorem Ib {c e:Nat}{xs:List Int}{rows:List (List V)}{len:Nat} (r:Rd lo h b n) (hn:n<=1000000) (hc:h[c]?=some (.rows 1 e ro rows)) (hcb:c≠b) (hr:rows=xs.map λx => [Iv x]) (hl:len=xs.length) (h0:0<len) :
  ∃ (x:Int) (h':Heap),Ae lo 49 [.ptr (some (b,(0,0))),.sl 1 (some (c,0)) len cc] h=some (Iv x,h')/\x∈xs/\Rd lo h' b (n+1)/\Mv h [b] h' [b]:=by
 obtain ⟨x,h1,e1,g1,g2,r1,m1⟩:=pick r hn ((len:Nat):Int);have hlt:=(Gz hc).1;obtain ⟨k,rfl⟩:∃ k:Nat,x=(k:Int):=⟨x.toNat,by omega⟩;have hk:k<xs.length:=by have:=g2 (by omega);omega
 have hc1:h1[c]?=some (.rows 1 e ro rows):=by rw[m1.fr c hlt (by simpa using hcb)];exact hc
 refine ⟨xs[k],h1,NB ?_,zbk hk,r1,m1⟩;rw[e1,Ac,Aa,Ad (by omega),Ag,Bm,zbQ,BT hc1 (i:=k) (row := [Iv xs[k]]) (by rw[hr,zcI,Dx hk];rfl)];rfl
theorem Zm {c e:Nat}{rows:List (List V)}{len:Nat} (r:Rd lo h b n) (hn:n<=1000000) (hc:h[c]?=some (.rows 1 e ro rows)) (hcb:c≠b) (hr:rows=xs.map λx => [.str x]) (hl:len=xs.length) (h0:0<len) :
  ∃ (x:ByteArray) (h':Heap),Ae lo 48 [.ptr (some (b,(0,0))),.sl 1 (some (c,0)) len cc] h=some (.str x,h')/\x∈xs/\Rd lo h' b (n+1)/\Mv h [b] h' [b]:=by
 obtain ⟨x,h1,e1,g1,g2,r1,m1⟩:=pick r hn ((len:Nat):Int);have hlt:=(Gz hc).1;obtain ⟨k,rfl⟩:∃ k:Nat,x=(k:Int):=⟨x.toNat,by omega⟩;have hk:k<xs.length:=by have:=g2 (by omega);omega
 have hc1:h1[c]?=some (.rows 1 e ro rows):=by rw[m1.fr c hlt (by simpa using hcb)];exact hc
 refine ⟨xs[k],h1,OA ?_,zbk hk,r1,m1⟩;rw[e1,Ac,Aa,Ad (by omega),Ag,Bm,zbQ,BT hc1 (i:=k) (row := [.str xs[k]]) (by rw[hr,zcI,Dx hk];rfl)];rfl
theorem Ea {e:Nat} (xs:List Int) {rows:List (List V)}{len:Nat} (r:Rd lo h b n) (hn:n<=1000000) (hr:rows=xs.map λx => [Iv x]) (hl:len=xs.length) (h0:0<len) :
  ∃ (x:Int) (h':Heap),Ae lo 49 [.ptr (some (b,(0,0))),.sl 1 (some (h.length,0)) len cc] (h ++ [.rows 1 e false rows])=some (Iv x,h')/\x∈xs/\Rd lo h' b (n+1)/\Mv h [b] h' [b]:=by
 have m0:Mv h [b] (h ++ [.rows 1 e false rows]) [b]:=Mv.snoc' (by simp);have hlt:=r.lt;obtain ⟨x,h',e1,g1,r1,m1⟩:=Ib (h:=h ++ [Blk.rows 1 e false rows]) (c:=h.length) (e:=e) (ro:=false) (xs:=xs) (cc:=cc) (r.keep (F := []) (F' := []) Mv.snoc (by simp) (by simp)) hn (by simp) (by omega) hr hl h0;exact ⟨x,h',e1,g1,r1,m0.trans m1⟩
theorem MR {e:Nat} (xs:List ByteArray) {rows:List (List V)}{len:Nat} (r:Rd lo h b n) (hn:n<=1000000) (hr:rows=xs.map λx => [.str x]) (hl:len=xs.length) (h0:0<len) :
  ∃ (x:ByteArray) (h':Heap),Ae lo 48 [.ptr (some (b,(0,0))),.sl 1 (some (h.length,0)) len cc] (h ++ [.rows 1 e false rows])=some (.str x,h')/\x∈xs/\Rd lo h' b (n+1)/\Mv h [b] h' [b]:=by
 have m0:Mv h [b] (h ++ [.rows 1 e false rows]) [b]:=Mv.snoc' (by simp);have hlt:=r.lt;obtain ⟨x,h',e1,g1,r1,m1⟩:=Zm (h:=h ++ [Blk.rows 1 e false rows]) (c:=h.length) (e:=e) (ro:=false) (xs:=xs) (cc:=cc) (r.keep (F := []) (F' := []) Mv.snoc (by simp) (by simp)) hn (by simp) (by omega) hr hl h0;exact ⟨x,h',e1,g1,r1,m0.trans m1⟩
theorem Nj {α β:Type}:∀ (l:List α),(l.map λ_=>([]:List β)).flatten = []
 | []=>rfl
 | _ :: l=>by simp[Nj l]
theorem Xi {a:Pq}{c:Nq} (hs:RBytes h [.sl 1 a l.length c] l F) (hF:∀ y∈F,y<lo) (hlo:lo<=h.length) (hl:l.length<=1048576) (hcap:∀ k,c=some k->l.length<=k) :
  ∃ (b:Nat) (h':Heap),Ae lo 41 [.sl 1 a l.length c] h=some (.ptr (some (b,(0,0))),h')/\Rd lo h' b 0/\Mv h [] h' [b]:=by
 refine ⟨h.length,?_⟩;suffices hk:∃ h',_=some (V.ptr (some (h.length,(0,0))),h')/\Rd lo h' h.length 0/\Mv h [] h' [h.length] from by obtain ⟨h',e,g⟩:=hk;exact ⟨h',Qp e,g⟩
 by_cases h2:l.length>2000
 ·have hre:∀ {T:Type} (K:Pq->Nat->Nq->Option T),AL a l.length c none (some (Iv 2000)) none K=K a 2000 c:=λK=>by
   unfold AL FP IV JQ;cases c with
   | none=>simp only[Aa];rw[D1 ⟨by omega,by omega⟩];rfl
   | some k=>have:=hcap k rfl;simp only[Aa];rw[D1 ⟨by omega,by omega⟩];rfl
  have ht:RBytes h [.sl 1 a (l.take 2000).length c] (l.take 2000) F:=by
   obtain ⟨R',a',c',e,hR,hh⟩:=hs;injection e with e _;injection e with e0 e1 e2 e3;subst e1;subst e3;refine ⟨1,a,c,rfl,rfl,?_⟩;rcases hh with ⟨g,_⟩ | ⟨b,i,rs,Fs,g0,g1,g2,g3,g4⟩
   ·rw[g] at h2;simp at h2
   ·have hfl:=EAll.of_flat g3;refine .inr ⟨b,i,rs,(l.take 2000).map λ_ => [],g0,g1,by simp;omega,?_,?_⟩
    ·have:(rs.drop i).take (l.take 2000).length=(l.take 2000).map za5:=by rw[List.map_take,<- hfl.1,List.take_take];congr 1;simp
     rw[this];exact EAll.flat
    ·rw[g4,hfl.2,Nj]
  have hlen:(l.take 2000).length=2000:=by simp;omega
  rw[Ak (by omega),hre];refine ⟨_,rfl,⟨hlo,a,l.take 2000,c,0,F,?_,(Mv.snoc (t := [_])).keep0 (Sli.ok CF) ht,hF,zbo _,by omega⟩,Mv.last⟩;rw[hlen];simp
 ·rw[Aj (by omega)];exact ⟨_,rfl,⟨hlo,a,l,c,0,F,by simp,(Mv.snoc (t := [_])).keep0 (Sli.ok CF) hs,hF,zbo _,hl⟩,Mv.last⟩
end


variable {h1 h2:Heap}{α:Type}{l:List α}{El:Rel α}
theorem Mv.draw {h:Heap}{A F1 F2:List Nat}{b:Nat} (m1:Mv h A h1 (b :: F1)) (m2:Mv h1 [b] h2 (b :: F2)) (hb:∀ y∈F1,y<h1.length):Mv h A h2 (b ::(F2++F1)) :=
 m1.trans (m2.aside (G:=F1) m1.nd hb)
theorem Mv.draw0 {h:Heap}{A F1:List Nat}{b:Nat} (m1:Mv h A h1 (b :: F1)) (m2:Mv h1 [b] h2 [b]) (hb:∀ y∈F1,y<h1.length):Mv h A h2 (b :: F1):=m1.draw m2 hb
theorem Mv.draw1 {h:Heap}{A F1 F2:List Nat}{b:Nat} (m1:Mv h A h1 (b :: F1)) (m2:Mv h1 F1 h2 F2) (hb:b<h1.length):Mv h A h2 (b :: F2):=by have hn:=m1.nd;rw[zbs] at hn;exact m1.trans (m2.cons hb hn.1 hn.2)
theorem Mv.apart {h:Heap}{A F1:List Nat}{b:Nat} (m:Mv h A h1 (b :: F1)):∀ y∈F1,y ∉ [b]:=λy hy hm=>by have hn:=m.nd;rw[zbs] at hn;rw[zbr] at hm;exact hn.1 (hm ▸ hy)
section
variable {lo:Nat}{h h':Heap}{F F':List Nat}{b n:Nat}
theorem Rd.keepF {A F1 F2:List Nat} (r:Rd lo h1 b n) (m:Mv h A h1 (b :: F1)) (m2:Mv h1 F1 h2 F2) (hF:∀ y∈F1,lo<=y):Rd lo h2 b n:=by have hn:=m.nd;rw[zbs] at hn;exact r.keep m2 hn.1 hF
theorem O8 (r:Rd lo h b n) (hn:n<=900000):∃ (t:Tag) (h':Heap),Ae lo 109 [.ptr (some (b,(0,0)))] h=some (.agg t.cs,h')/\(A6 t.time t.place=true/\t.time<=9)/\Rd lo h' b (n+3)/\Mv h [b] h' [b]:=by
 obtain ⟨x,h1,e1,g1,g1',r1,m1⟩:=pick r (by omega) 3;suffices hk:∃ (t:Tag) (h':Heap),_=some (V.agg t.cs,h')/\(A6 t.time t.place=true/\t.time<=9)/\Rd lo h' b (n+3)/\Mv h [b] h' [b] from by obtain ⟨t,h',e,g⟩:=hk;exact ⟨t,h',Ri e,g⟩
 rw[e1,Ac,Aa];cases hx:(x==(0:Int)) with
 | true =>rw[Ap];exact ⟨⟨0,0⟩,h1,rfl,⟨rfl,by show (0:Int)<=9;decide⟩,r1.up (by omega),m1⟩
 | false =>obtain ⟨y,h2,e2,g2,g2',r2,m2⟩:=pick r1 (by omega) 9;obtain ⟨z,h3,e3,g3,g3',r3,m3⟩:=pick r2 (by omega) 3;have hy:=g2' (by omega);have hz:=g3' (by omega);rw[Ay,e2,Ac,Aa,e3,Ac,Aa,wr (by omega) (by omega)];exact ⟨⟨1+y,z⟩,h3,rfl,⟨by simp[A6,An];omega,by show 1+y<=9;omega⟩,r3,(m1.trans m2).trans m3⟩
theorem Kn (r:Rd lo h b n) (hn:n<=890000):∃ (t:Tag) (h':Heap),Ae lo 110 [.ptr (some (b,(0,0)))] h=some (.agg t.cs,h')/\Rd lo h' b (n+4)/\Mv h [b] h' [b]:=by
 obtain ⟨x,h1,e1,g1,g1',r1,m1⟩:=pick r (by omega) 8;suffices hk:∃ (t:Tag) (h':Heap),_=some (V.agg t.cs,h')/\Rd lo h' b (n+4)/\Mv h [b] h' [b] from by obtain ⟨t,h',e,g⟩:=hk;exact ⟨t,h',NE e,g⟩
 rw[e1,Ac,Aa];cases hx:(x==(0:Int)) with
 | true =>obtain ⟨y,h2,e2,_,r2,m2⟩:=Ea (e:=3) [0,-1,1000,999] (rows := [[Iv 0],[Iv (-1)],[Iv 1000],[Iv 999]]) (len:=4) (cc:=some 4) r1 (by omega) rfl rfl (by decide);obtain ⟨z,h3,e3,_,r3,m3⟩:=Ea (e:=3) [0,1,3,-1] (rows := [[Iv 0],[Iv 1],[Iv 3],[Iv (-1)]]) (len:=4) (cc:=some 4) r2 (by omega) rfl rfl (by decide);rw[Ap,e2,Ac,Aa,e3,Ac,Aa];exact ⟨⟨y,z⟩,h3,rfl,r3.up (by omega),(m1.trans m2).trans m3⟩
 | false =>obtain ⟨t,h2,e2,_,r2,m2⟩:=O8 r1 (by omega);simp only[Tag.cs] at e2;rw[Ay,e2,Ac,AA,Ab,Aa,Ab,Aa,Af];exact ⟨t,h2,rfl,r2,m1.trans m2⟩
theorem Jw (r:Rd lo h b n) (hn:n<=900000):∃ (s:ByteArray) (h':Heap),Ae lo 269 [.ptr (some (b,(0,0)))] h=some (.str s,h')/\DR s=true/\Rd lo h' b (n+1)/\Mv h [b] h' [b]:=by
 obtain ⟨s,h1,e1,g1,r1,m1⟩:=MR (e:=9) [⟨⟨[]⟩⟩,⟨⟨[97]⟩⟩,⟨⟨[98]⟩⟩,⟨⟨[120,35,49]⟩⟩,⟨⟨[61]⟩⟩,⟨⟨[45]⟩⟩,⟨⟨[108,111,110,103,116,101,120,116]⟩⟩,⟨⟨[122,122]⟩⟩]
  (rows := [[.str ⟨⟨[]⟩⟩],[.str ⟨⟨[97]⟩⟩],[.str ⟨⟨[98]⟩⟩],[.str ⟨⟨[120,35,49]⟩⟩],[.str ⟨⟨[61]⟩⟩],[.str ⟨⟨[45]⟩⟩],[.str ⟨⟨[108,111,110,103,116,101,120,116]⟩⟩],[.str ⟨⟨[122,122]⟩⟩]]) (len:=8) (cc:=some 8) r (by omega) rfl rfl (by decide)
 refine ⟨s,h1,Qm ?_,?_,r1,m1⟩
 ·rw[e1,Ac,Bq]
 ·have:∀ x∈([⟨⟨[]⟩⟩,⟨⟨[97]⟩⟩,⟨⟨[98]⟩⟩,⟨⟨[120,35,49]⟩⟩,⟨⟨[61]⟩⟩,⟨⟨[45]⟩⟩,⟨⟨[108,111,110,103,116,101,120,116]⟩⟩,⟨⟨[122,122]⟩⟩]:List ByteArray),DR x=true:=zby.1 (by decide);exact this s g1
theorem Sli.made {cs:α->List V}{R e:Nat}{rows:List (List V)} (hr:rows=l.map cs):Sli false R e (flat cs) (h ++ [.rows R e false rows]) [.sl R (some (h.length,0)) l.length (some l.length)] l [h.length]:=by subst hr;refine ⟨R,some (h.length,0),some l.length,rfl,rfl,l.map cs,l.map λ_ => [],by simp,by simp,λk hk=>by injection hk with hk;simp;omega,(λhc=>(by cases hc)),?_,by rw[Nj]⟩;rw[zci,zcc (by simp)];exact EAll.flat
def L1:List Tag := [⟨0,0⟩,⟨0,0⟩,⟨0,0⟩,⟨0,0⟩]
theorem Iu:∃ h' q,Ae lo 45 [] h=some (.agg [.sl 2 (some (q,0)) 4 (some 4)],h')/\RTags false h' [.sl 2 (some (q,0)) 4 (some 4)] L1 [q]/\Mv h [] h' [q] :=
 ⟨_,h.length,Rk rfl,Sli.made (l:=L1) rfl,Mv.last⟩
theorem XW {v:Ver} (h1:0<=v.key/\v.key<=3) (h2:DR v.text=true) (h3:v.gone=true->DY v.text=true) (h4:Bb v.past=true) (h5:A6 v.tag.time v.tag.place=true) (h6:∀ t∈v.past,t.time<v.tag.time) (h7:0<v.tag.time):Ba v=true:=by
 unfold Ba E5;rw[h2,h4,h5,decide_eq_true (latest_lt.2 ⟨h7,h6⟩)];have:An v.key 0 3=true:=by simp[An];omega
 rw[this];cases hg:v.gone with
 | false=>rfl
 | true=>rw[h3 hg];rfl
theorem flat_drop {Fs:List (List Nat)}:(Fs.drop 1).flatten.Sublist Fs.flatten:=by
 cases Fs with
 | nil=>simp
 | cons F Fs=>simp only[List.drop_succ_cons,zci,zbP];exact List.sublist_append_right _ _
theorem Sli.behind {R e q i k m:Nat} (hs:Sli false R e El h [.sl R (some (q,i)) m (some k)] l F) (h0:0<l.length) (hnd:F.Nodup) :
  (∀ {T:Type} (K:Pq->Nat->Nq->Option T),1<k->AL (some (q,i)) m (some k) (some (Iv 1)) none none K=K (some (q,i+1)) (l.drop 1).length (some (k - 1))) /\
   ∃ F',Sli false R e El h [.sl R (some (q,i+1)) (l.drop 1).length (some (k - 1))] (l.drop 1) F'/\F'.Nodup/\∀ y∈F',y∈F:=by
 have hm:=hs.val;subst hm;obtain ⟨b',i',rs,Fs,ha,g1,g2,g3,g4,g5,rfl⟩:=hs.data h0;injection ha with ha;injection ha with e1 e2;subst e1;subst e2;obtain ⟨k1,k2⟩:=g3 k rfl;refine ⟨λK hk=>?_,q ::(Fs.drop 1).flatten,⟨R,some (q,i+1),some (k - 1),rfl,rfl,rs,Fs.drop 1,g1,by simp;omega,λk' hk=>?_,(λhc=>(by cases hc)),?_,rfl⟩,?_,λy hy=>?_⟩
 ·unfold AL FP IV JQ Pr;simp only[Aa,zcu];rw[D1 ⟨by omega,by omega⟩];have:Nat.beq k (Int.toNat 1)=false:=by
   cases hb:Nat.beq k (Int.toNat 1) with
   | false=>rfl
   | true =>have:=zbt hb;have e:Int.toNat 1=1:=rfl;omega
  rw[this,Ay,zcC];rfl
 ·injection hk with hk;subst hk;simp only[zcC];omega
 ·have hd:=g5.drop 1;have:((rs.drop i).take l.length).drop 1=(rs.drop (i+1)).take (l.drop 1).length:=by rw[List.drop_take,zcv,zcC]
  rw[<- this];exact hd
 ·rw[zbs] at hnd ⊢;have hsub:(Fs.drop 1).flatten.Sublist Fs.flatten:=flat_drop;exact ⟨λhm=>hnd.1 (hsub.mem hm),hnd.2.sublist hsub⟩
 ·have hsub:(Fs.drop 1).flatten.Sublist Fs.flatten:=flat_drop;rw[zbx] at hy ⊢;exact hy.imp id λhy=>hsub.mem hy
theorem Sli.fresh_put (ok:El.Ok) {R e m k:Nat}{a:Pq}{c:Nq}{E:List Nat} (hs:Sli false R e El h [.sl R a m c] l F) (hk:k<l.length) (hnd:(F++E).Nodup) (hlo:∀ y∈F,lo<=y) :
  ∃ b i row G,a=some (b,i)/\(∃ rs,h[b]?=some (.rows R e false rs)/\rs[i+k]?=some row)/\El h row l[k] G/\(∀ y∈G,y∈F) /\
   ∀ j cs row' x' G',paste row j cs=some row'->El h row' x' G'->G'.Nodup->(∀ y∈G',y∈G\/y∈E) ->
    ∃ h2 F2,st lo h b (i+k) j cs=some h2/\Sli false R e El h2 [.sl R a m c] (l.set k x') F2/\Mv h (F++E) h2 F2:=by
 have hnd0:=hnd;rw[zbm] at hnd0;obtain ⟨hn1,hn2,hn3⟩:=hnd0;have hbd:=(Sli.ok ok).bd _ _ _ _ hs;obtain ⟨b',i',rs,row,G,ha,hbF,hbG,hb,hrow,hel,hGF,hGn,put⟩:=hs.put ok.fr hk hn1;have hblt:=hbd b' hbF;refine ⟨b',i',row,G,ha,⟨rs,hb,hrow⟩,hel,hGF,λj cs row' x' G' hp hx hGn' hG'=>?_⟩;have e2:=D5 hb (hlo b' hbF) hrow hp;have hbG':b'∉G':=λhm=>by
  rcases hG' b' hm with g | g
  ·exact hbG g
  ·exact hn3 b' hbF b' g rfl
 have fr2:∀ y,y≠b'->(h.set b' (.rows R e false (rs.set (i'+k) row')))[y]?=h[y]?:=λy hy=>zbq (Ne.symm hy);obtain ⟨F2,p1,p2,p3,_⟩:=put (h.set b' (.rows R e false (rs.set (i'+k) row'))) row' x' G' (by simp[hblt]) (λy hy hyb _=>fr2 y hyb) (ok.fr _ _ _ _ _ hx λy hy=>fr2 y λe=>hbG' (e ▸ hy)) hGn' (λy hy hyF=>by
  rcases hG' y hy with g | g
  ·exact g
  ·exact absurd rfl (hn3 y hyF y g))
 refine ⟨_,F2,e2,p1,by simp,λy hy hyF=>fr2 y λe=>hyF (e ▸ zbM _ hbF),p3,λy hy => .inl ?_⟩;rcases p2 y hy with g | g
 ·exact zbM _ g.1
 ·rcases hG' y g with g | g
  ·exact zbM _ (hGF y g)
  ·exact zbO _ g
theorem LK (r:Rd lo h b n) (hn:n<=800000) (hl:lo<=h.length):∃ (v:Ver) (q:Nat) (h':Heap) (F':List Nat),Ae lo 195 [.ptr (some (b,(0,0)))] h=some (.agg (v.cs (some (q,0)) (some 4)),h')/\RTags false h' [.sl 2 (some (q,0)) v.past.length (some 4)] v.past F'/\Ba v=true/\Rd lo h' b (n+20)/\Mv h [b] h' (b :: F'):=by
 obtain ⟨key,h1,e1,g1,g1',r1,m1⟩:=pick r (by omega) 4;obtain ⟨h2,q,e2,t2,m2⟩:=Iu (lo:=lo) (h:=h1);have r2:=r1.keep m2 (by simp) (by simp);obtain ⟨s,h3,e3,gs,r3,m3⟩:=Jw r2 (by omega);have hb1:=r1.lt;have hbq:b≠q:=by have:=m2.new q (by simp);omega
 have m12:Mv h [b] h2 (b :: [q]):=m1.draw1 (F1 := []) m2 hb1;have t3:RTags false h3 [.sl 2 (some (q,0)) 4 (some 4)] L1 [q]:=m3.keep rtags_ok t2 (by simpa using λe=>hbq e.symm);have hq2:∀ y ∈ [q],y<h2.length:=rtags_ok.bd _ _ _ _ t2;have m13:Mv h [b] h3 (b :: [q]):=m12.draw0 m3 hq2;have hkey:=g1' (by omega);suffices hk:∃ (v:Ver) (h':Heap) (F':List Nat),_=some (V.agg (v.cs (some (q,0)) (some 4)),h')/\RTags false h' [.sl 2 (some (q,0)) v.past.length (some 4)] v.past F'/\Ba v=true/\Rd lo h' b (n+20)/\Mv h [b] h' (b :: F') from by obtain ⟨v,h',F',e,g⟩:=hk;exact ⟨v,q,h',F',Rh e,g⟩
 rw[e1,Ac,Aa,e2,Ac,AA,Ab,Ah,Af,e3,Ac,Bq];have loop:∀ (m i:Nat) (x4:Int) (l:List Tag) (hh:Heap) (F:List Nat),m+i=4->0<=x4->x4<=9->l.length=4->(∀ t∈l,A6 t.time t.place=true/\t.time<=x4)->RTags false hh [.sl 2 (some (q,0)) 4 (some 4)] l F->Rd lo hh b (n+2+3*i)->Mv h [b] hh (b :: F) ->
   ∃ (v:Ver) (h':Heap) (F':List Nat),Cr lo b 0 0 x4 ((i:Nat):Int) 0 0 0 0 none 0 (some 0) ⟨⟨[]⟩⟩ false key 0 0 (some (q,0)) 4 (some 4) s false hh=some (V.agg (v.cs (some (q,0)) (some 4)),h')/\RTags false h' [.sl 2 (some (q,0)) v.past.length (some 4)] v.past F'/\Ba v=true/\Rd lo h' b (n+20)/\Mv h [b] h' (b :: F'):=by
  intro m;induction m with
  | zero =>
   intro i x4 l hh F hi h0 h9 h4 hall ht rr mm;have hi4:i=4:=by omega
   subst hi4;obtain ⟨k1,p1,f1,u1,v1,s1,n1⟩:=pick rr (by omega) 3;obtain ⟨k2,p2,f2,u2,v2,s2,n2⟩:=pick s1 (by omega) 3;obtain ⟨k3,p3,f3,u3,v3,s3,n3⟩:=pick s2 (by omega) 6;have hFb:=rtags_ok.bd _ _ _ _ ht;have nn:=(n1.trans n2).trans n3;have t':RTags false p3 [.sl 2 (some (q,0)) 4 (some 4)] l F:=nn.keep rtags_ok ht mm.apart;have mm':=mm.draw0 nn hFb;have w1:=v1 (by omega);have w2:=v2 (by omega);have hpo:Bb l=true:=by simp only[Bb,DH,decide_eq_true_eq,zby];exact ⟨h4,λt ht=>(hall t ht).1⟩
   have htg:A6 (x4+1+k1) k2=true:=by simp[A6,An];omega
   rw[Cr.e,Aj (by omega),f1,Ac,Aa,f2,Ac,Aa,f3,Ac,Aa,wr (n:=x4+1) (by omega) (by omega),wr (n:=x4+1+k1) (by omega) (by omega)];cases k3==(0:Int) with
   | true =>rw[Ap];refine ⟨⟨key,⟨x4+1+k1,k2⟩,l,⟨⟨[]⟩⟩,true⟩,p3,F,by simp only[Ver.cs,h4],by simp only[h4];exact t',XW ⟨g1,by show key<=3;omega⟩ rfl (λ_=>rfl) hpo htg (λt ht=>?_) (by show 0<x4+1+k1;omega),s3.up (by omega),mm'⟩;have:=(hall t ht).2;show t.time<x4+1+k1;omega
   | false =>rw[Ay];refine ⟨⟨key,⟨x4+1+k1,k2⟩,l,s,false⟩,p3,F,by simp only[Ver.cs,h4],by simp only[h4];exact t',XW ⟨g1,by show key<=3;omega⟩ gs (λhc=>by cases hc) hpo htg (λt ht=>?_) (by show 0<x4+1+k1;omega),s3.up (by omega),mm'⟩;have:=(hall t ht).2;show t.time<x4+1+k1;omega
  | succ m ih =>
   intro i x4 l hh F hi h0 h9 h4 hall ht rr mm;have hil:i<l.length:=by omega
   obtain ⟨t,p1,f1,⟨u1,u2⟩,s1,n1⟩:=O8 rr (by omega);have hFb:=rtags_ok.bd _ _ _ _ ht;have t1:RTags false p1 [.sl 2 (some (q,0)) 4 (some 4)] l F:=n1.keep rtags_ok ht mm.apart;have mm1:=mm.draw0 n1 hFb;have hnd1:=mm1.nd;rw[zbs] at hnd1;have hlo1:∀ y∈b :: F,lo<=y:=λy hy=>mm1.ge hl (λz hz=>by rw[zbr] at hz;subst hz;exact r.ge) y hy;have hloF:∀ y∈F,lo<=y:=λy hy=>hlo1 y (by simp[hy]);obtain ⟨b',i',rs,row,G,ha,hbF,hbG,hbb,hrow,⟨hr1,hG⟩,hGF,hGn,_,put⟩:=Sli.at (lo:=lo) CF t1 hil hnd1.2 hloF;injection ha with ha;injection ha with z1 z2;subst z1;subst z2;subst hG;obtain ⟨h5,F5,e5,t5,m5,hb5,_,_⟩:=put p1 [] 0 [Iv t.time,Iv t.place] t.cs t Mv.nil (by rw[hr1];exact Dz rfl) ⟨rfl,rfl⟩;have l5:ld h5 q (0+i) 0 1=some [Iv t.time]:=by rw[BT hb5 (row:=t.cs) (zbA (Gz hrow).1)];rfl
   have s5:=s1.keepF mm1 m5 hloF;have mm5:=mm1.draw1 m5 s1.lt;have hall5:∀ x,x4<=x->t.time<=x->∀ u∈l.set i t,A6 u.time u.place=true/\u.time<=x:=λx hx1 hx2 u hu=>by
    rcases zbI hu with hu | rfl
    ·have:=hall u hu;exact ⟨this.1,by omega⟩
    ·exact ⟨u1,hx2⟩
   simp only[Tag.cs] at f1;have ht0:=(DW u1).1;rw[Cr.e,Ak (by omega),f1,Ac,AA,Ab,Aa,Ab,Aa,Af,Ad (by omega),Ag,Bm,e5,Ag,Ad (by omega),Ag,l5,Ag,Ab,Af,Aa,At (by omega)];by_cases hc:t.time>x4
   ·rw[Ak hc,Ad (by omega),Ag,l5,Ag,Ab,Af,Aa];exact ih (i+1) t.time (l.set i t) h5 F5 (by omega) ht0 u2 (by simpa using h4) (hall5 _ (by omega) (zcW _)) t5 (s5.up (by omega)) mm5
   ·rw[Aj hc];exact ih (i+1) x4 (l.set i t) h5 F5 (by omega) h0 h9 (by simpa using h4) (hall5 _ (zcW _) (by omega)) t5 (s5.up (by omega)) mm5
 exact loop 4 0 0 L1 h3 [q] rfl (zcW _) (by decide) rfl (by intro t ht;simp[L1] at ht;subst ht;exact ⟨rfl,zcW _⟩) t3 (r3.up (by omega)) m13
end


variable {l:List Ver}
section
variable {lo:Nat}{h h':Heap}{F F':List Nat}{b n:Nat}
theorem Mv.thin {A F1 F2:List Nat}{h1:Heap} (m:Mv h A h1 (b :: F1)) (hn:F2.Nodup) (hs:∀ y∈F2,y∈F1):Mv h A h1 (b :: F2):=by have hn1:=m.nd;rw[zbs] at hn1;refine m.lean (zbs.2 ⟨λhm=>hn1.1 (hs b hm),hn⟩) λy hy=>?_;rw[zbx] at hy ⊢;exact hy.imp id (hs y)
theorem Km (r:Rd lo h b n) (hn:n<=700000) (hl:lo<=h.length):∃ (v:Ver) (a:Pq) (c:Nq) (h':Heap) (F':List Nat),Ae lo 193 [.ptr (some (b,(0,0)))] h=some (.agg (v.cs a c),h')/\RTags false h' [.sl 2 a v.past.length c] v.past F'/\(v.past.length<=4/\v.text.size<=10)/\Rd lo h' b (n+40)/\Mv h [b] h' (b :: F'):=by
 obtain ⟨v,q,h1,F1,e1,t1,hv,r1,m1⟩:=LK r (by omega) hl;obtain ⟨x,h2,e2,g,g',r2,m2⟩:=pick r1 (by omega) 10;have hF1:=rtags_ok.bd _ _ _ _ t1;have t2:=m2.keep rtags_ok t1 m1.apart;have m12:=m1.draw0 m2 hF1;have hF2:=rtags_ok.bd _ _ _ _ t2;have hth:=Is hv;have h4:v.past.length=4:=Bx (AT hv).2.2.2.1;have hsz:v.past.length<=4/\v.text.size<=10:=⟨by omega,by have:=hth.2.1;omega⟩;have hlo2:∀ y∈F1,lo<=y:=λy hy=>m12.ge hl (λz hz=>by rw[zbr] at hz;subst hz;exact r.ge) y (by simp[hy]);have hnd2:=m12.nd;rw[zbs] at hnd2;suffices hk:∃ (v:Ver) (a:Pq) (c:Nq) (h':Heap) (F':List Nat),_=some (V.agg (v.cs a c),h')/\RTags false h' [.sl 2 a v.past.length c] v.past F'/\(v.past.length<=4/\v.text.size<=10)/\Rd lo h' b (n+40)/\Mv h [b] h' (b :: F') from by obtain ⟨v,a,c,h',F',e,gg⟩:=hk;exact ⟨v,a,c,h',F',ND e,gg⟩
 simp only[Ver.cs] at e1;rw[e1,Ac,AA,Ab,Aa,Ab,Aa,Ab,Aa,Ab,Ah,Ab,Bq,Ab,AB,Af,e2,Ac,Aa];cases x==(0:Int) with
 | true =>obtain ⟨k,h3,e3,_,r3,m3⟩:=Ea (e:=3) [-1,4] (rows := [[Iv (-1)],[Iv 4]]) (len:=2) (cc:=some 2) r2 (by omega) rfl rfl (by decide);rw[Ap,e3,Ac,Aa];exact ⟨⟨k,v.tag,v.past,v.text,v.gone⟩,_,_,h3,F1,rfl,m3.keep rtags_ok t2 m12.apart,hsz,r3.up (by omega),m12.draw0 m3 hF2⟩
 | false =>
 rw[Ay];cases x==(1:Int) with
 | true =>
  obtain ⟨s,h3,e3,hs,r3,m3⟩:=MR (e:=9) [⟨⟨[97,32,98]⟩⟩,⟨⟨[116,111,111,108,111,110,103,101,114]⟩⟩,⟨⟨[10]⟩⟩] (rows := [[.str ⟨⟨[97,32,98]⟩⟩],[.str ⟨⟨[116,111,111,108,111,110,103,101,114]⟩⟩],[.str ⟨⟨[10]⟩⟩]]) (len:=3) (cc:=some 3) r2 (by omega) rfl rfl (by decide);have hs10:s.size<=10:=by have:∀ x∈([⟨⟨[97,32,98]⟩⟩,⟨⟨[116,111,111,108,111,110,103,101,114]⟩⟩,⟨⟨[10]⟩⟩]:List ByteArray),decide (x.size<=10)=true:=zby.1 (by decide);exact of_decide_eq_true (this s hs)
  rw[Ap,e3,Ac,Bq];exact ⟨⟨v.key,v.tag,v.past,s,v.gone⟩,_,_,h3,F1,rfl,m3.keep rtags_ok t2 m12.apart,⟨hsz.1,hs10⟩,r3.up (by omega),m12.draw0 m3 hF2⟩
 | false =>
 rw[Ay];cases x==(2:Int) with
 | true =>obtain ⟨er,F3,t3,n3,s3⟩:=t2.behind (by omega) hnd2.2;rw[Ap,er _ (by decide)];exact ⟨⟨v.key,v.tag,v.past.drop 1,v.text,v.gone⟩,_,_,h2,F3,rfl,t3,⟨by simp;omega,hsz.2⟩,r2.up (by omega),m12.thin n3 s3⟩
 | false =>
 rw[Ay];cases x==(3:Int) with
 | true =>
  obtain ⟨k,h3,e3,k1,k2,r3,m3⟩:=pick r2 (by omega) 4;have t3:=m3.keep rtags_ok t2 m12.apart;have m13:=m12.draw0 m3 hF2;have k3:=k2 (by omega);obtain ⟨f,rfl⟩:∃ f:Nat,k=(f:Int):=⟨k.toNat,by omega⟩;obtain ⟨b',i',rs,row,G,ha,hbF,hbG,hbb,hrow,⟨hr1,hG⟩,hGF,hGn,_,put⟩:=Sli.at (lo:=lo) CF t3 (show f<v.past.length by omega) hnd2.2 hlo2;injection ha with ha;injection ha with z1 z2;subst z1;subst z2;subst hG;obtain ⟨h5,F5,e5,t5,m5,hb5,_,_⟩:=put h3 [] 0 [Iv 50,Iv 1] (Tag.cs ⟨50,1⟩) ⟨50,1⟩ Mv.nil (by rw[hr1];exact Dz rfl) ⟨rfl,rfl⟩;rw[Ap,e3,Ac,Aa,Ad (by omega),Ag,Bm,e5,Ag];have t5':RTags false h5 [.sl 2 (some (q,0)) (v.past.set f ⟨50,1⟩).length (some 4)] (v.past.set f ⟨50,1⟩) F5:=by rw[zbL];exact t5
  exact ⟨⟨v.key,v.tag,v.past.set f ⟨50,1⟩,v.text,v.gone⟩,some (q,0),some 4,h5,F5,by simp only[Ver.cs,zbL],t5',⟨by simp;omega,hsz.2⟩,(r3.keepF m13 m5 hlo2).up (by omega),m13.draw1 m5 r3.lt⟩
 | false =>
 rw[Ay];cases x==(4:Int) with
 | true =>obtain ⟨t,h3,e3,r3,m3⟩:=Kn r2 (by omega);simp only[Tag.cs] at e3;rw[Ap,e3,Ac,AA,Ab,Aa,Ab,Aa,Af];exact ⟨⟨v.key,t,v.past,v.text,v.gone⟩,_,_,h3,F1,rfl,m3.keep rtags_ok t2 m12.apart,hsz,r3.up (by omega),m12.draw0 m3 hF2⟩
 | false =>
 rw[Ay];cases x==(5:Int) with
 | true=>exact ⟨⟨v.key,v.tag,v.past,v.text,true⟩,_,_,h2,F1,rfl,t2,hsz,r2.up (by omega),m12⟩
 | false=>exact ⟨v,_,_,h2,F1,rfl,t2,hsz,r2.up (by omega),m12⟩
def HU:List Ver := [TA,TA,TA,TA]
theorem Rt:AU HU=true:=by decide
theorem LF:RVer false h [Iv 0,Iv 0,Iv 0,.sl 0 none 0 (some 0),.str ⟨⟨[]⟩⟩,.bool false] TA []:=⟨_,rfl,Sli.nil⟩
theorem Pm:∃ h' q,Ae lo 296 [] h=some (.agg [.sl 6 (some (q,0)) 4 (some 4)],h')/\RVers false h' [.sl 6 (some (q,0)) 4 (some 4)] HU [q]/\Mv h [] h' [q]:=by
 refine ⟨_,h.length,Tn rfl,⟨6,some (h.length,0),some 4,rfl,rfl,[[Iv 0,Iv 0,Iv 0,.sl 0 none 0 (some 0),.str ⟨⟨[]⟩⟩,.bool false],[Iv 0,Iv 0,Iv 0,.sl 0 none 0 (some 0),.str ⟨⟨[]⟩⟩,.bool false],[Iv 0,Iv 0,Iv 0,.sl 0 none 0 (some 0),.str ⟨⟨[]⟩⟩,.bool false],[Iv 0,Iv 0,Iv 0,.sl 0 none 0 (some 0),.str ⟨⟨[]⟩⟩,.bool false]],[[],[],[],[]],by simp,by decide,λk hk=>?_,(λhc=>(by cases hc)),?_,rfl⟩,Mv.last⟩
 ·injection hk with hk;subst hk;exact ⟨by decide,by decide⟩
 ·exact ⟨LF,LF,LF,LF,trivial⟩
theorem U8 (r:Rd lo h b n) (hn:n<=600000) (hl:lo<=h.length):∃ (l:List Ver) (q:Nat) (h':Heap) (F':List Nat),Ae lo 295 [.ptr (some (b,(0,0)))] h=some (.agg [.sl 6 (some (q,0)) l.length (some 4)],h')/\RVers false h' [.sl 6 (some (q,0)) l.length (some 4)] l F'/\AU l=true/\Rd lo h' b (n+200)/\Mv h [b] h' (b :: F'):=by
 obtain ⟨h1,q,e1,t1,m1⟩:=Pm (lo:=lo) (h:=h);have r1:=r.keep m1 (by simp) (by simp);obtain ⟨x,h2,e2,g,g',r2,m2⟩:=pick r1 (by omega) 7;have m01:Mv h [b] h1 (b :: [q]):=(Mv.refl (F := [b]) (by simp)).draw1 (F1 := []) m1 r.lt;have hF1:=rvers_ok.bd _ _ _ _ t1;have t2:=m2.keep rvers_ok t1 m01.apart;have m12:=m01.draw0 m2 hF1;suffices hk:∃ (l:List Ver) (h':Heap) (F':List Nat),_=some (V.agg [.sl 6 (some (q,0)) l.length (some 4)],h')/\RVers false h' [.sl 6 (some (q,0)) l.length (some 4)] l F'/\AU l=true/\Rd lo h' b (n+200)/\Mv h [b] h' (b :: F') from by obtain ⟨l,h',F',e,gg⟩:=hk;exact ⟨l,q,h',F',Oz e,gg⟩
 rw[e1,Ac,AA,Ab,Ah,Af,e2,Ac,Aa];have loop:∀ (m:Nat) (l:List Ver) (n3:Nat) (hh:Heap) (F:List Nat),m<=6->n3=l.length->AU l=true->RVers false hh [.sl 6 (some (q,0)) n3 (some 4)] l F->Rd lo hh b (n+1+21*(6 - m))->Mv h [b] hh (b :: F) ->
   ∃ (l:List Ver) (h':Heap) (F':List Nat),Ck lo b 0 0 ((m:Nat):Int) 0 none 0 (some 0) (some (q,0)) n3 (some 4) hh=some (V.agg [.sl 6 (some (q,0)) l.length (some 4)],h')/\RVers false h' [.sl 6 (some (q,0)) l.length (some 4)] l F'/\AU l=true/\Rd lo h' b (n+200)/\Mv h [b] h' (b :: F'):=by
  intro m;induction m with
  | zero =>intro l n3 hh F hm hn3 hok ht rr mm;subst hn3;rw[Ck.e,Aj (by omega)];exact ⟨l,hh,F,rfl,ht,hok,rr.up (by omega),mm⟩
  | succ m ih =>intro l n3 hh F hm hn3 hok ht rr mm;subst hn3;have hlh:lo<=hh.length:=zbj hl mm.le;obtain ⟨v,qv,h5,F5,e5,t5,hv,r5,m5⟩:=LK rr (by omega) hlh;have hFb:=rvers_ok.bd _ _ _ _ ht;have mm5:=mm.draw m5 hFb;have hnd5:=mm5.nd;rw[zbs,zbm] at hnd5;have ht5:RVers false h5 [.sl 6 (some (q,0)) l.length (some 4)] l F:=m5.keep rvers_ok ht mm.apart;have hlo5:∀ y∈F5++F,lo<=y:=λy hy=>mm5.ge hl (λz hz=>by rw[zbr] at hz;subst hz;exact r.ge) y (zb1 _ hy);have h4:=A3 hok;have hkey:=(AT hv).1;obtain ⟨h6,F6,e6,t6,m6⟩:=K9 (lo:=lo) (av:=some (qv,0)) (cv:=some 4) ht5 t5 hnd5.2.2.1 (λy hy=>hlo5 y (zbO _ hy)) (zbj hlh m5.le) ⟨hkey.1,by omega⟩ (by have:=(Is hv).1;omega);have hFb5:=rvers_ok.bd _ _ _ _ ht5;have hT5:=rtags_ok.bd _ _ _ _ t5;have m5F:Mv h [b] h5 (b :: F):=mm5.thin hnd5.2.2.1 λy hy=>zbO _ hy;have mm6:=m5F.draw1 m6 r5.lt;have r6:=r5.keepF m5F m6 (λy hy=>hlo5 y (zbO _ hy));simp only[Ver.cs] at e5 e6;rw[Ck.e,Ak (by omega),e5,Ac,AA,Ab,Aa,Ab,Aa,Ab,Aa,Ab,Ah,Ab,Bq,Ab,AB,Af,e6,Ac,AA,Ab,Ah,Af,show Ao (((m+1:Nat):Int) - 1)=((m:Nat):Int) from by rw[wr (by omega) (by omega)];omega];exact ih (Ek l v) l.length h6 F6 (by omega) addVer_len.symm (TJ hok hv) t6 (r6.up (by omega)) mm6
 have hx:=g' (by omega);obtain ⟨k,rfl⟩:∃ k:Nat,x=(k:Int):=⟨x.toNat,by omega⟩;exact loop k HU 4 h2 [q] (by omega) rfl Rt t2 (r2.up (by omega)) m12
theorem zar (hl:l.length<=4) (h:∀ v∈l,v.past.length<=4/\v.text.size<=10):Ct l:=⟨by omega,λv hv=>by have:=h v hv;omega⟩
theorem TH (h:AU l=true):l.length<=4/\∀ v∈l,v.past.length<=4/\v.text.size<=10:=by refine ⟨by rw[A3 h];exact zbo _,λv hv=>?_⟩;obtain ⟨i,hi⟩:=zbC.1 hv;have:=Sp (HY h hi);exact ⟨this.1,by have:=this.2.1;omega⟩
theorem QN (r:Rd lo h b n) (hn:n<=600000) (hl:lo<=h.length):∃ (l:List Ver) (a:Pq) (c:Nq) (h':Heap) (F':List Nat),Ae lo 268 [.ptr (some (b,(0,0)))] h=some (.agg [.sl 6 a l.length c],h')/\RVers false h' [.sl 6 a l.length c] l F'/\(l.length<=4/\∀ v∈l,v.past.length<=4/\v.text.size<=10)/\Rd lo h' b (n+300)/\Mv h [b] h' (b :: F'):=by
 obtain ⟨l,q,h1,F1,e1,t1,hok,r1,m1⟩:=U8 r hn hl;obtain ⟨x,h2,e2,g,g',r2,m2⟩:=pick r1 (by omega) 10;have hF1:=rvers_ok.bd _ _ _ _ t1;have t2:=m2.keep rvers_ok t1 m1.apart;have m12:=m1.draw0 m2 hF1;have hF2:=rvers_ok.bd _ _ _ _ t2;have hsm:=TH hok;have h4:=A3 hok;have hlo2:∀ y∈F1,lo<=y:=λy hy=>m12.ge hl (λz hz=>by rw[zbr] at hz;subst hz;exact r.ge) y (by simp[hy]);have hnd2:=m12.nd;rw[zbs] at hnd2;suffices hk:∃ (l:List Ver) (a:Pq) (c:Nq) (h':Heap) (F':List Nat),_=some (V.agg [.sl 6 a l.length c],h')/\RVers false h' [.sl 6 a l.length c] l F'/\(l.length<=4/\∀ v∈l,v.past.length<=4/\v.text.size<=10)/\Rd lo h' b (n+300)/\Mv h [b] h' (b :: F') from by obtain ⟨l,a,c,h',F',e,gg⟩:=hk;exact ⟨l,a,c,h',F',Lu e,gg⟩
 rw[e1,Ac,AA,Ab,Ah,Af,e2,Ac,Aa];cases x==(0:Int) with
 | true =>obtain ⟨er,F3,t3,n3,s3⟩:=t2.behind (by omega) hnd2.2;rw[Ap,er _ (by decide)];exact ⟨l.drop 1,_,_,h2,F3,rfl,t3,⟨by simp;omega,λv hv=>hsm.2 v (zcJ hv)⟩,r2.up (by omega),m12.thin n3 s3⟩
 | false =>
 rw[Ay];cases x==(1:Int) with
 | true =>
  obtain ⟨k,h3,e3,k1,k2,r3,m3⟩:=pick r2 (by omega) 4;have m13:=m12.draw0 m3 hF2;have t3:=m3.keep rvers_ok t2 m12.apart;have hF3:=rvers_ok.bd _ _ _ _ t3;have k3:=k2 (by omega);obtain ⟨f,rfl⟩:∃ f:Nat,k=(f:Int):=⟨k.toNat,by omega⟩;obtain ⟨v,av,cv,h5,F5,e5,t5,hv,r5,m5⟩:=Km r3 (by omega) (zbj hl m13.le);have m15:=m13.draw m5 hF3;have t4:=m5.keep rvers_ok t3 m13.apart;have hnd5:=m15.nd;rw[zbs] at hnd5;have hnd6:(F1++F5).Nodup:=(zcg.nodup_iff).1 hnd5.2;have m15':Mv h [b] h5 (b ::(F1++F5)):=m15.lean (zbs.2 ⟨λhm=>hnd5.1 (by simpa [or_comm] using hm),hnd6⟩) λy hy=>by simpa [or_comm,or_left_comm] using hy
  obtain ⟨b',i',row,G,ha,⟨rs,hb1,hb2⟩,hel,hGF,put⟩:=Sli.fresh_put (lo:=lo) (E:=F5) rver_ok t4 (show f<l.length by omega) hnd6 hlo2;injection ha with ha;injection ha with z1 z2;subst z1;subst z2;obtain ⟨sv,hrow,_⟩:=hel;obtain ⟨h6,F6,e6,t6,m6⟩:=put 0 (v.cs av cv) (v.cs av cv) v F5 (by rw[hrow];exact Dz rfl) ⟨_,rfl,t5⟩ ((zbm.1 hnd6).2.1) (λy hy => .inr hy);simp only[Ver.cs] at e5 e6;rw[Ap,e3,Ac,Aa,e5,Ac,AA,Ab,Aa,Ab,Aa,Ab,Aa,Ab,Ah,Ab,Bq,Ab,AB,Af,Ad (by omega),Ag,Bm,e6,Ag];have hlo5:∀ y∈F1++F5,lo<=y:=λy hy=>m15'.ge hl (λz hz=>by rw[zbr] at hz;subst hz;exact r.ge) y (zb1 _ hy);have t6':RVers false h6 [.sl 6 (some (q,0)) (l.set f v).length (some 4)] (l.set f v) F6:=by rw[zbL];exact t6
  refine ⟨l.set f v,some (q,0),some 4,h6,F6,by rw[zbL],t6',⟨by simp;omega,λu hu=>?_⟩,(r5.keepF m15' m6 hlo5).up (by omega),m15'.draw1 m6 r5.lt⟩;rcases zbI hu with hu | rfl
  ·exact hsm.2 u hu
  ·exact hv
 | false =>
 rw[Ay];cases x==(2:Int) with
 | true =>
  obtain ⟨k,h3,e3,k1,k2,r3,m3⟩:=pick r2 (by omega) 4;have m13:=m12.draw0 m3 hF2;have t3:=m3.keep rvers_ok t2 m12.apart;have k3:=k2 (by omega);obtain ⟨f,rfl⟩:∃ f:Nat,k=(f:Int):=⟨k.toNat,by omega⟩;obtain ⟨b',i',row,G,ha,⟨rs,hb1,hb2⟩,hel,hGF,put⟩:=Sli.fresh_put (lo:=lo) (E := []) rver_ok t3 (show f<l.length by omega) (by rw[zcf];exact hnd2.2) hlo2;injection ha with ha;injection ha with z1 z2;subst z1;subst z2;obtain ⟨sv,hrow,_⟩:=hel;obtain ⟨h6,F6,e6,t6,m6⟩:=put 0 [Iv 0,Iv 0,Iv 0,.sl 0 none 0 (some 0),.str ⟨⟨[120]⟩⟩,.bool false] [Iv 0,Iv 0,Iv 0,.sl 0 none 0 (some 0),.str ⟨⟨[120]⟩⟩,.bool false] ⟨0,⟨0,0⟩,[],⟨⟨[120]⟩⟩,false⟩ [] (by rw[hrow];exact Dz rfl) ⟨_,rfl,Sli.nil⟩ (by simp) (by simp);rw[zcf] at m6;rw[Ap,e3,Ac,Aa,Ad (by omega),Ag,Bm,e6,Ag];have t6':RVers false h6 [.sl 6 (some (q,0)) (l.set f ⟨0,⟨0,0⟩,[],⟨⟨[120]⟩⟩,false⟩).length (some 4)] (l.set f ⟨0,⟨0,0⟩,[],⟨⟨[120]⟩⟩,false⟩) F6:=by rw[zbL];exact t6
  refine ⟨l.set f ⟨0,⟨0,0⟩,[],⟨⟨[120]⟩⟩,false⟩,some (q,0),some 4,h6,F6,by rw[zbL],t6',⟨by simp;omega,λu hu=>?_⟩,(r3.keepF m13 m6 hlo2).up (by omega),m13.draw1 m6 r3.lt⟩;rcases zbI hu with hu | rfl
  ·exact hsm.2 u hu
  ·exact ⟨by decide,by decide⟩
 | false=>exact ⟨l,_,_,h2,F1,rfl,t2,hsm,r2.up (by omega),m12⟩
end


variable {α:Type}{El:Rel α}{l:List α}
section
variable {lo:Nat}{h h':Heap}{F F':List Nat}{b n:Nat}
theorem Sli.at_aside (ok:El.Ok) {R e m k:Nat}{a:Pq}{c:Nq}{E:List Nat} (hs:Sli false R e El h [.sl R a m c] l F) (hk:k<l.length) (hnd:(F++E).Nodup) (hlo:∀ y∈F,lo<=y) (hE:∀ y∈E,y<h.length) :
  ∃ b i rs row G,a=some (b,i)/\b∈F/\b∉G/\h[b]?=some (.rows R e false rs)/\rs[i+k]?=some row/\El h row l[k] G/\(∀ y∈G,y∈F)/\G.Nodup /\
   ∀ h1 G1 j cs row' x',Mv h (G++E) h1 G1->paste row j cs=some row'->El h1 row' x' G1 ->
    ∃ h2 F2,st lo h1 b (i+k) j cs=some h2/\Sli false R e El h2 [.sl R a m c] (l.set k x') F2/\Mv h (F++E) h2 F2:=by
 have hnd0:=hnd;rw[zbm] at hnd0;obtain ⟨hn1,hn2,hn3⟩:=hnd0;have hbd:=(Sli.ok ok).bd _ _ _ _ hs;obtain ⟨b',i',rs,row,G,ha,hbF,hbG,hb,hrow,hel,hGF,hGn,put⟩:=hs.put ok.fr hk hn1;have hblt:=hbd b' hbF;refine ⟨b',i',rs,row,G,ha,hbF,hbG,hb,hrow,hel,hGF,hGn,λh1 G1 j cs row' x' m hp hx=>?_⟩;have hbE:b'∉E:=λhm=>hn3 b' hbF b' hm rfl;have hbGE:b'∉G++E:=λhm=>(zbl.1 hm).elim hbG hbE;have hbG1:b'∉G1:=λhm=>by
  rcases m.sub b' hm with g | g
  ·exact hbGE g
  ·omega
 have hb1:h1[b']?=some (.rows R e false rs):=by rw[m.fr b' hblt hbGE];exact hb
 have hb1lt:b'<h1.length:=zbv hblt m.le;have e2:=D5 hb1 (hlo b' hbF) hrow hp;have fr2:∀ y,y≠b'->(h1.set b' (.rows R e false (rs.set (i'+k) row')))[y]?=h1[y]?:=λy hy=>zbq (Ne.symm hy);obtain ⟨F2,p1,p2,p3,_⟩:=put (h1.set b' (.rows R e false (rs.set (i'+k) row'))) row' x' G1 (by simp[hb1lt]) (λy hy hyb hyG=>by
   rw[fr2 y hyb];exact m.fr y (hbd y hy) λhm=>(zbl.1 hm).elim hyG λg=>hn3 y hy y g rfl)
  (ok.fr _ _ _ _ _ hx λy hy=>fr2 y λe=>hbG1 (e ▸ hy)) m.nd (λy hy hyF=>by
   rcases m.sub y hy with g | g
   ·rcases zbl.1 g with g | g
    ·exact g
    ·exact absurd rfl (hn3 y hyF y g)
   ·have:=hbd y hyF;omega)
 refine ⟨_,F2,e2,p1,by simpa using m.le,λy hy hyF=>?_,p3,λy hy=>?_⟩
 ·rw[fr2 y λe=>hyF (e ▸ zbM _ hbF)];exact m.fr y hy λhm=>hyF ((zbl.1 hm).elim (λg=>zbM _ (hGF y g)) λg=>zbO _ g)
 ·rcases p2 y hy with g | g
  ·exact .inl (zbM _ g.1)
  ·rcases m.sub y g with g | g
   ·exact .inl ((zbl.1 g).elim (λg=>zbM _ (hGF y g)) λg=>zbO _ g)
   ·exact .inr (by simpa using g)
theorem Sli.first {R e m i:Nat}{a:Pq}{c:Nq} (hs:Sli false R e El h [.sl R a m c] l F) (hi:i<=l.length) (hnd:F.Nodup):∃ F2,Sli false R e El h [.sl R a i c] (l.take i) F2/\F2.Nodup/\∀ y∈F2,y∈F:=by
 have hm:=hs.val;subst hm;by_cases h0:l.length=0
 ·have:l = []:=zbu h0;subst this;have:i=0:=by simpa using hi
  subst this;exact ⟨F,hs,hnd,λy hy=>hy⟩
 obtain ⟨b',i',rs,Fs,ha,g1,g2,g3,g4,g5,rfl⟩:=hs.data (k:=0) (by omega);have hs0:=hs;obtain ⟨R1,a1,c1,e1,_⟩:=hs;injection e1 with e1 _;injection e1 with e0 e2 _ e4;have hsub:(Fs.take i).flatten.Sublist Fs.flatten:=by
  conv=>{ rhs;rw[<- zbZ i Fs,zbU] }
  exact List.sublist_append_left _ _
 rw[zbs] at hnd;refine ⟨b' ::(Fs.take i).flatten,⟨R,a,c,by simp;omega,?_⟩,zbs.2 ⟨λhm=>hnd.1 (hsub.mem hm),hnd.2.sublist hsub⟩,λy hy=>?_⟩
 ·subst ha;refine ⟨rfl,rs,Fs.take i,g1,by simp;omega,λk hk=>?_,g4,?_,rfl⟩
  ·have:=g3 k hk;simp only[zco];omega
  ·have hd:=g5.take i;rw[List.take_take] at hd;have:min i l.length=(l.take i).length:=by simp
   rw[<- this];exact hd
 ·rw[zbx] at hy ⊢;exact hy.imp id λhy=>hsub.mem hy
theorem zau {m:Nat} (h1:1<=m) (h4:m<=4):Ch (List.replicate m ⟨HU,[]⟩):=by
 have get:∀ (i:Nat) (x:Node),(List.replicate m (⟨HU,[]⟩:Node))[i]?=some x->x=⟨HU,[]⟩:=λi x hx=>by
  rw[List.getElem?_replicate] at hx;split at hx
  ·injection hx with hx;exact hx.symm
  ·cases hx
 refine ⟨by simpa using h1,by simpa using h4,λi x hx=>?_,λi x y hx hy=>?_,λi x hx _=>?_⟩
 ·rw[get i x hx];unfold BY;simp only;rw[Rt];rfl
 ·rw[get i x hx,get _ y hy];rfl
 ·rw[get i x hx]
theorem KU {m:Nat} (h1:1<=m) (h4:m<=4) (hl:lo<=h.length):∃ v h' F',Ae lo 271 [Iv (m:Nat)] h=some (.agg [v],h')/\RNodes false h' [v] (List.replicate m ⟨HU,[]⟩) F'/\Mv h [] h' F':=by
 obtain ⟨q,a',c',h',F',e,r,mm⟩:=Dn (El:=RNode false) rnode_ok (h:=h) (l:=List.replicate m ()) (f:=λ_=>(⟨HU,[]⟩:Node)) (lo:=lo) (R:=2) (e:=Og false) (bytes:=48) hl (by decide) (by rw[zcH];omega)
  (λi q a n c hh=>Cn lo ((m:Nat):Int) ((i:Nat):Int) 0 none 0 (some 0) q a n c hh) (λi hi q a n c hh hm=>by
   rw[zcH] at hi;obtain ⟨h3,q3,e3,t3,m3⟩:=Pm (lo:=lo) (h:=hh);refine ⟨[.sl 6 (some (q3,0)) 4 (some 4),.sl 0 none 0 (some 0)],[q3],h3 ++ [.rows 2 (Og false) false [[.sl 6 (some (q3,0)) 4 (some 4),.sl 0 none 0 (some 0)]]],⟨_,_,[q3],[],rfl,rfl,Mv.snoc.keep0 rvers_ok t3,Sli.nil⟩,m3.trans (Mv.snoc' m3.nd),?_⟩;rw[Cn.e,Ak (by omega),e3,Ac,AA,Ab,Ah,Af,At (by omega)];exact A9)
 rw[List.map_replicate] at r;rw[zcH] at e;refine ⟨_,h',F',OG ?_,r,mm⟩;have hw:An ((m:Nat):Int) 1 4=true:=by simp only[An,DH,decide_eq_true_eq];omega
 rw[Bp,Ac,Az,hw,Ap];refine e.trans ?_;rw[Cn.e,Aj (by omega),zcH]
theorem V3 (r:Rd lo h b n) (hn:n<=500000) (hl:lo<=h.length):∃ (l:List Node) (a:Pq) (c:Nq) (h':Heap) (F':List Nat),Ae lo 267 [.ptr (some (b,(0,0)))] h=some (.agg [.sl 2 a l.length c],h')/\RNodes false h' [.sl 2 a l.length c] l F'/\Ch l/\Rd lo h' b (n+400)/\Mv h [b] h' (b :: F'):=by
 obtain ⟨x,h1,e1,g,g',r1,m1⟩:=pick r (by omega) 4;have hx:=g' (by omega);obtain ⟨k,rfl⟩:∃ k:Nat,x=(k:Int):=⟨x.toNat,by omega⟩;obtain ⟨v,h2,F2,e2,t2,m2⟩:=KU (lo:=lo) (m:=k+1) (h:=h1) (by omega) (by omega) (zbj hl m1.le);obtain ⟨a2,c2,es2,t2⟩:=t2.form;have r2:=r1.keep m2 (by simp) (by simp);obtain ⟨y,h3,e3,g3,g3',r3,m3⟩:=pick r2 (by omega) 12;have m12:Mv h [b] h2 (b :: F2):=m1.draw1 (F1 := []) m2 r1.lt;have hF2:=rnodes_ok.bd _ _ _ _ t2;have t3:=m3.keep rnodes_ok t2 m12.apart;have m13:=m12.draw0 m3 hF2;suffices hk:∃ (l:List Node) (a:Pq) (c:Nq) (h':Heap) (F':List Nat),_=some (V.agg [.sl 2 a l.length c],h')/\RNodes false h' [.sl 2 a l.length c] l F'/\Ch l/\Rd lo h' b (n+400)/\Mv h [b] h' (b :: F') from by obtain ⟨l,a,c,h',F',e,gg⟩:=hk;exact ⟨l,a,c,h',F',OD e,gg⟩
 rw[e1,Ac,Aa,show Ao (1+((k:Nat):Int))=((k+1:Nat):Int) from by rw[wr (by omega) (by omega)];omega,e2,Ac,AA,Ab,es2,Af,e3,Ac,Aa];have loop:∀ (m:Nat) (l:List Node) (a:Pq) (n3:Nat) (c:Nq) (hh:Heap) (F:List Nat),m<=11->n3=l.length->Ch l->RNodes false hh [.sl 2 a n3 c] l F->Rd lo hh b (n+2+30*(11 - m))->Mv h [b] hh (b :: F) ->
   ∃ (l:List Node) (a':Pq) (c':Nq) (h':Heap) (F':List Nat),AM lo b 0 0 ((m:Nat):Int) 0 none 0 (some 0) a n3 c hh=some (V.agg [.sl 2 a' l.length c'],h')/\RNodes false h' [.sl 2 a' l.length c'] l F'/\Ch l/\Rd lo h' b (n+400)/\Mv h [b] h' (b :: F'):=by
  intro m;induction m with
  | zero =>intro l a n3 c hh F hm hn3 hch ht rr mm;subst hn3;have hsm:=Jz (chain_iff.2 hch);obtain ⟨v,h5,F5,e5,t5,m5⟩:=NT (lo:=lo) ht (zbj hl mm.le) hsm;obtain ⟨a5,c5,es5,t5⟩:=t5.form;have mm5:Mv h [b] h5 (b :: F5):=(mm.thin (F2 := []) (by simp) (by simp)).draw1 m5 rr.lt;rw[AM.e,Aj (by omega),e5,Ac,AA,Ab,es5,Af];exact ⟨l,a5,c5,h5,F5,rfl,t5,hch,(rr.keep m5 (by simp) (by simp)).up (by omega),mm5⟩
  | succ m ih =>
   intro l a n3 c hh F hm hn3 hch ht rr mm;subst hn3;have hsm:=Jz (chain_iff.2 hch);have hpos:=hch.pos;have hle:=hch.le;have hlh:lo<=hh.length:=zbj hl mm.le;obtain ⟨z,h4,e4,g4,g4',r4,m4⟩:=pick rr (by omega) 6;have hFb:=rnodes_ok.bd _ _ _ _ ht;have t4:=m4.keep rnodes_ok ht mm.apart;have mm4:=mm.draw0 m4 hFb;have hF4:=rnodes_ok.bd _ _ _ _ t4;have hl4:lo<=h4.length:=zbj hl mm4.le;have hnd4:=mm4.nd;rw[zbs] at hnd4;have hloA:∀ {hh:Heap}{F:List Nat},Mv h [b] hh (b :: F)->∀ y∈F,lo<=y:=λmm y hy=>mm.ge hl (λz hz=>by rw[zbr] at hz;subst hz;exact r.ge) y (by simp[hy]);have hlo4:=hloA mm4;have hw:Ao (((m+1:Nat):Int) - 1)=((m:Nat):Int):=by rw[wr (by omega) (by omega)];omega
   have add:∃ (l':List Node) (a':Pq) (c':Nq) (h':Heap) (F':List Nat),(Ai (Ae lo 125 [.agg [.sl 2 a l.length c]] h4) λv_17 h_18=>eB v_17 (Ai (Ae lo 195 [.ptr (some (b,(0,0)))] h_18) λv_19 h_20=>eA v_19 λc_21=>eC c_21 λv_22 l_23=>eI .i64 v_22 λn_24=>eC l_23 λv_25 l_26=>eI .i64 v_25 λn_27=>eC l_26 λv_28 l_29=>eI .i64 v_28 λn_30=>eC l_29 λv_31 l_32=>eS 2 (v_31) λa_33 n_34 c_35=>eC l_32 λv_36 l_37=>eT v_36 λs_38=>eC l_37 λv_39 l_40=>eBv v_39 λb_41=>eN l_40 (Ai (Ae lo 129 [.agg [.sl 2 a l.length c],Iv 0,.agg [Iv (n_24),Iv (n_27),Iv (n_30),.sl 2 a_33 n_34 c_35,.str (s_38),.bool (b_41)]] h_20) λv_42 h_43=>eA v_42 λc_44=>eC c_44 λv_45 l_46=>eS 2 (v_45) λa_47 n_48 c_49=>eN l_46 (AM lo b 0 0 (Ao (((m+1:Nat):Int) - 1)) 0 none 0 (some 0) a_47 n_48 c_49 h_43))) (AM lo b 0 0 (Ao (((m+1:Nat):Int) - 1)) 0 none 0 (some 0) a l.length c h_18))=some (V.agg [.sl 2 a' l'.length c'],h')/\RNodes false h' [.sl 2 a' l'.length c'] l' F'/\Ch l'/\Rd lo h' b (n+400)/\Mv h [b] h' (b :: F'):=by
    rw[JZ t4 (by omega),Ac,Az,hw];cases hroom:DG l 0 with
    | false =>rw[Ay];exact ih l a _ c h4 F (by omega) rfl hch t4 (r4.up (by omega)) mm4
    | true =>obtain ⟨v,qv,h5,F5,e5,t5,hv,r5,m5⟩:=LK r4 (by omega) hl4;have mm5:=mm4.draw m5 hF4;have ht5:=m5.keep rnodes_ok t4 mm4.apart;have hnd5:=mm5.nd;rw[zbs,zbm] at hnd5;have hlo5:=hloA mm5;have m5F:Mv h [b] h5 (b :: F):=mm5.thin hnd5.2.2.1 λy hy=>zbO _ hy;have hst:=hch.store (Dx (show 0<l.length by omega));have hkey:=(AT hv).1;obtain ⟨h6,F6,e6,t6,m6⟩:=K8 (lo:=lo) (k:=0) (av:=some (qv,0)) (cv:=some 4) ht5 t5 (λy hy hm=>hnd5.2.2.2 y hy y hm rfl) hnd5.2.2.1 (λy hy=>hlo5 y (zbO _ hy)) (zbj hl4 m5.le) (by omega) ⟨hkey.1,by rw[hst.2];omega⟩ hsm (by have:=(Is hv).1;omega);have mm6:=m5F.draw1 m6 r5.lt;have r6:=r5.keepF m5F m6 (λy hy=>hlo5 y (zbO _ hy));rw[show (((0:Nat):Nat):Int)=(0:Int) from rfl] at e6;simp only[Ver.cs] at e5 e6;rw[Ap,e5,Ac,AA,Ab,Aa,Ab,Aa,Ab,Aa,Ab,Ah,Ab,Bq,Ab,AB,Af,e6,Ac,AA,Ab,Ah,Af];exact ih (Fp l 0 v) a l.length c h6 F6 (by omega) addN_len.symm (hch.add hv hroom) t6 (r6.up (by omega)) mm6
   rw[AM.e,Ak (by omega),e4,Ac,Aa];cases z==(0:Int) with
   | true=>rw[Ap];exact add
   | false =>
   rw[Ay];cases z==(1:Int) with
   | true=>rw[Ap];exact add
   | false =>
   rw[Ay,hw];cases z==(2:Int) with
   | true =>
    rw[Ap];by_cases h2:1<l.length
    ·obtain ⟨kf,h5,e5,g5,g5',r5,m5⟩:=pick r4 (by omega) ((l.length:Nat):Int);have hkf:=g5' (by omega);obtain ⟨f,rfl⟩:∃ f:Nat,kf=(f:Int):=⟨kf.toNat,by omega⟩;have t5:=m5.keep rnodes_ok t4 mm4.apart;have mm5:=mm4.draw0 m5 hF4;obtain ⟨a6,c6,h6,F6,e6,t6,m6⟩:=NS (lo:=lo) (k:=f) t5 (by omega) h2 (RQ (chain_iff.2 hch) (by omega)) hnd4.2 hlo4 (zbj hl4 m5.le) hsm.1 (λx hx=>by
      obtain ⟨i,hi⟩:=zbC.1 hx;have:=Ky (hch.node i x hi);exact ⟨this.1,by have:=this.2.1;omega,this.2.2⟩)
     rw[Ak (by omega),e5,Ac,Aa,e6,Ac,AA,Ab,Ah,Af];exact ih (CA l f) a6 _ c6 h6 F6 (by omega) rfl (hch.fall (by omega) h2) t6 ((r5.keepF mm5 m6 hlo4).up (by omega)) (mm5.draw1 m6 r5.lt)
    ·rw[Aj (by omega)];exact ih l a _ c h4 F (by omega) rfl hch t4 (r4.up (by omega)) mm4
   | false =>
   rw[Ay];cases z==(3:Int) with
   | true =>
    rw[Ap];by_cases h4':l.length<4
    ·obtain ⟨a6,c6,h6,F6,e6,t6,m6⟩:=NR (lo:=lo) t4 (by omega) hsm hnd4.2 hlo4 hl4;rw[Ak (by omega),e6,Ac,AA,Ab,Ah,Af];exact ih (Ih l) a6 (l.length+1) c6 h6 F6 (by omega) (Nd hch).1.symm (hch.join h4') t6 ((r4.keepF mm4 m6 hlo4).up (by omega)) (mm4.draw1 m6 r4.lt)
    ·rw[Aj (by omega)];exact ih l a _ c h4 F (by omega) rfl hch t4 (r4.up (by omega)) mm4
   | false =>
   rw[Ay];obtain ⟨kf,h5,e5,g5,g5',r5,m5⟩:=pick r4 (by omega) 4;have t5:=m5.keep rnodes_ok t4 mm4.apart;have mm5:=mm4.draw0 m5 hF4;rw[e5,Ac,Aa,Pk t5 hsm.1,Ac,Az];cases hcan:De l kf with
   | false =>rw[Ay];exact ih l a _ c h5 F (by omega) rfl hch t5 (r5.up (by omega)) mm5
   | true =>
    have hchp:=hch.pass hcan;obtain ⟨f,x,y,v,ws,rfl,hx,hy,hw',hr'⟩:=H8 hcan;rw[Bm] at hchp;obtain ⟨hf,rfl⟩:=Gz hx;have hf1:=(Gz hy).1;obtain ⟨h6,F6,e6,t6,m6⟩:=NQ (lo:=lo) (k:=f) t5 hf1 (by rw[hw'];simp) hnd4.2 hlo4 (zbj hl4 m5.le) hsm (λx hx=>by
     obtain ⟨i,hi⟩:=zbC.1 hx;have hno:=hch.node i x hi;have:=Ky hno;exact ⟨⟨this.1,by have:=this.2.1;omega,this.2.2⟩,λv hv=>(AT ((AH hno).2.2 v hv)).1⟩)
    rw[Ap,e6,Ac,AA,Ab,Ah,Af];exact ih (HH l f) a l.length c h6 F6 (by omega) passN_len.symm hchp t6 ((r5.keepF mm5 m6 hlo4).up (by omega)) (mm5.draw1 m6 r5.lt)
 have hy:=g3' (by omega);obtain ⟨k2,rfl⟩:∃ k:Nat,y=(k:Int):=⟨y.toNat,by omega⟩;exact loop k2 _ a2 _ c2 h3 F2 (by omega) rfl (zau (by omega) (by omega)) t3 (r3.up (by omega)) m13
end


section
variable {lo:Nat}{h h':Heap}{F F':List Nat}{b n:Nat}
theorem OR {h h':Heap}{q i j m:Nat} (hq:h'[q]?=h[q]?):ld h' q i j m=ld h q i j m:=by unfold ld Heap.rows?;rw[hq]
theorem X7 {l:List Node}{k:Nat}{x:Node} (h:CD l) (hx:Ct x.store/\Ct x.wait):CD (l.set k x):=⟨by rw[zbL];exact h.1,λy hy=>by
 rcases zbI hy with hy | rfl
 ·exact h.2 y hy
 ·exact hx⟩
theorem QO (r:Rd lo h b n) (hn:n<=400000) (hl:lo<=h.length):∃ (l:List Node) (a:Pq) (c:Nq) (h':Heap) (F':List Nat),Ae lo 194 [.ptr (some (b,(0,0)))] h=some (.agg [.sl 2 a l.length c],h')/\RNodes false h' [.sl 2 a l.length c] l F'/\CD l/\Rd lo h' b (n+1000)/\Mv h [b] h' (b :: F'):=by
 obtain ⟨l,a,c,h1,F1,e1,t1,hch,r1,m1⟩:=V3 r (by omega) hl;have hsm:=Jz (chain_iff.2 hch);have hpos:=hch.pos;have hle:=hch.le;obtain ⟨k,h2,e2,g2,g2',r2,m2⟩:=pick r1 (by omega) ((l.length:Nat):Int);obtain ⟨x,h3,e3,g3,g3',r3,m3⟩:=pick r2 (by omega) 10;have hk:=g2' (by omega);obtain ⟨f,rfl⟩:∃ f:Nat,k=(f:Int):=⟨k.toNat,by omega⟩;have hf:f<l.length:=by omega
 have m23:=m2.trans m3;have hF1:=rnodes_ok.bd _ _ _ _ t1;have t3:=m23.keep rnodes_ok t1 m1.apart;have m13:=m1.draw0 m23 hF1;have hF3:=rnodes_ok.bd _ _ _ _ t3;have hl3:lo<=h3.length:=zbj hl m13.le;have hloA:∀ {hh:Heap}{F:List Nat},Mv h [b] hh (b :: F)->∀ y∈F,lo<=y:=λmm y hy=>mm.ge hl (λz hz=>by rw[zbr] at hz;subst hz;exact r.ge) y (by simp[hy]);suffices hk:∃ (l:List Node) (a:Pq) (c:Nq) (h':Heap) (F':List Nat),_=some (V.agg [.sl 2 a l.length c],h')/\RNodes false h' [.sl 2 a l.length c] l F'/\CD l/\Rd lo h' b (n+1000)/\Mv h [b] h' (b :: F') from by obtain ⟨l,a,c,h',F',e,gg⟩:=hk;exact ⟨l,a,c,h',F',Lv e,gg⟩
 rw[e1,Ac,AA,Ab,Ah,Af,e2,Ac,Aa,e3,Ac,Aa];cases x==(0:Int) with
 | true =>
  obtain ⟨s,ast,cs,h5,F5,e5,t5,hs5,r5,m5⟩:=QN r3 (by omega) hl3;have m15:=m13.draw m5 hF3;have t4:=m5.keep rnodes_ok t3 m13.apart;have hnd5:=m15.nd;rw[zbs] at hnd5;have hnd6:(F1++F5).Nodup:=(zcg.nodup_iff).1 hnd5.2;have m15':Mv h [b] h5 (b ::(F1++F5)):=m15.lean (zbs.2 ⟨λhm=>hnd5.1 (by simpa [or_comm] using hm),hnd6⟩) λy hy=>by simpa [or_comm,or_left_comm] using hy
  have hlo5:=hloA m15';have hF5:=rvers_ok.bd _ _ _ _ t5;obtain ⟨b',i',rs,row,G,ha,hbF,hbG,hb1,hb2,hel,hGF,hGn,put⟩:=Sli.at_aside (lo:=lo) (E:=F5) rnode_ok t4 hf hnd6 (λy hy=>hlo5 y (zbM _ hy)) hF5;obtain ⟨s1,s2,H1,H2,rfl,rfl,q1,q2⟩:=hel;have hnd7:=hnd6;rw[zbm] at hnd7;have hGn':=hGn;rw[zbm] at hGn';have hd:(F5++H2).Nodup:=by rw[zbm];exact ⟨hnd7.2.1,hGn'.2.1,λy hy z hz e=>hnd7.2.2 z (hGF z (zbO _ hz)) y hy e.symm⟩
  have hd2:((H1++H2)++F5).Nodup:=by rw[zbm];exact ⟨hGn,hnd7.2.1,λy hy z hz=>hnd7.2.2 y (hGF y hy) z hz⟩
  obtain ⟨h6,F6,e6,t6,m6⟩:=put h5 (F5++H2) 0 [.sl 6 ast s.length cs] [.sl 6 ast s.length cs,s2] ⟨s,l[f].wait⟩ ((Mv.refl hd2).lean hd λy hy=>by
   rw[zbl] at hy ⊢;rw[zbl];exact hy.elim .inr λg => .inl (.inr g)) rfl ⟨_,_,F5,H2,rfl,rfl,t5,q2⟩
  rw[Ap,e5,Ac,AA,Ab,Ah,Af,Ad hf,ha,Ag,Bm,e6,Ag];have t6':RNodes false h6 [.sl 2 a (l.set f ⟨s,l[f].wait⟩).length c] (l.set f ⟨s,l[f].wait⟩) F6:=by rw[zbL];exact t6
  rw[<- ha];exact ⟨l.set f ⟨s,l[f].wait⟩,a,c,h6,F6,by rw[zbL],t6',X7 hsm ⟨zar hs5.1 hs5.2,(hsm.2 _ (zbk hf)).2⟩,(r5.keepF m15' m6 hlo5).up (by omega),m15'.draw1 m6 r5.lt⟩
 | false =>
 rw[Ay];cases x==(1:Int) with
 | true =>
  obtain ⟨v,av,cv,h5,F5,e5,t5,hv5,r5,m5⟩:=Km r3 (by omega) hl3;have m15:=m13.draw m5 hF3;have t4:=m5.keep rnodes_ok t3 m13.apart;have hnd5:=m15.nd;rw[zbs] at hnd5;have hnd6:(F1++F5).Nodup:=(zcg.nodup_iff).1 hnd5.2;have m15':Mv h [b] h5 (b ::(F1++F5)):=m15.lean (zbs.2 ⟨λhm=>hnd5.1 (by simpa [or_comm] using hm),hnd6⟩) λy hy=>by simpa [or_comm,or_left_comm] using hy
  have hlo5:=hloA m15';have hF5:=rtags_ok.bd _ _ _ _ t5;have hF4:=rnodes_ok.bd _ _ _ _ t4;obtain ⟨b',i',rs,row,G,ha,hbF,hbG,hb1,hb2,hel,hGF,hGn,put⟩:=Sli.at_aside (lo:=lo) (E:=F5) rnode_ok t4 hf hnd6 (λy hy=>hlo5 y (zbM _ hy)) hF5;obtain ⟨s1,s2,H1,H2,rfl,rfl,q1,q2⟩:=hel;obtain ⟨aw,cw,esw,q2⟩:=q2.form;have hnd7:=hnd6;rw[zbm] at hnd7;have hGn':=hGn;rw[zbm] at hGn';have hH1:=rvers_ok.bd _ _ _ _ q1;have hH2:=rvers_ok.bd _ _ _ _ q2;have hw6:l[f].wait.length<=6:=(AH (hch.node f _ (Dx hf))).2.1;have mx:Mv h5 [] (h5 ++ [.rows 6 43 false [v.cs av cv]]) []:=Mv.snoc;have q2x:=mx.keep0 rvers_ok q2;have t5x:=mx.keep0 rtags_ok t5;obtain ⟨a6,c6,h6,F6,p1,p2,p3,p4,p5,p6⟩:=Sli.push (lo:=lo) (bytes:=72) (e:=43) rver_ok.fr q2x (xs := [v.cs av cv]) (ys := [v]) (Gs := [F5]) ⟨⟨_,rfl,t5x⟩,trivial⟩ (by decide) (by simp;omega) (λy hy=>hlo5 y (zbM _ (hGF y (zbO _ hy)))) (by simp;have:=m15'.le;omega)
   (by
    rw[zbm];refine ⟨hGn'.2.1,by simpa using hnd7.2.1,λy hy z hz=>hnd7.2.2 y (hGF y (zbO _ hy)) z (by simpa using hz)⟩)
   (λy hy=>by
    rw[zbl] at hy;rw[zbw];rcases hy with hy | hy
    ·have:=hH2 y hy;omega
    ·have:=hF5 y (by simpa using hy);omega) (by simp)
  simp only[zbE] at p1 p2;have hfin:∀ y∈F6,y∈H2\/y∈F5\/(h5.length<=y/\y<h6.length):=λy hy=>by
   rcases p5 y hy with g | g
   ·rw[zbl] at g;rcases g with g | g
    ·exact .inl g
    ·exact .inr (.inl (by simpa using g))
   ·rw[zbw] at g;exact .inr (.inr (by omega))
  have hlen:h5.length<=h6.length:=by rw[zbw] at p3;omega
  have fr:∀ y,y<h5.length->y∉H2->h6[y]?=h5[y]?:=λy hy hn=>by rw[p4 y (by rw[zbw];omega) hn,zbn hy]
  have hmv:Mv h5 ((H1++H2)++F5) h6 (H1++F6):=by
   refine ⟨hlen,λy hy hn=>fr y hy λhm=>hn (by simp[hm]),?_,λy hy=>?_⟩
   ·rw[zbm];refine ⟨hGn'.1,p6,λy hy z hz e=>?_⟩;subst e;rcases hfin y hz with g | g | g
    ·exact hGn'.2.2 y hy y g rfl
    ·exact hnd7.2.2 y (hGF y (zbM _ hy)) y g rfl
    ·have:=hH1 y hy;omega
   ·rw[zbl] at hy;rcases hy with hy | hy
    ·exact .inl (by simp[hy])
    ·rcases hfin y hy with g | g | g
     ·exact .inl (by simp[g])
     ·exact .inl (by simp[g])
     ·exact .inr g
  have q1x:RVers false h6 [s1] l[f].store H1:=rvers_ok.fr _ _ _ _ _ q1 λy hy=>fr y (hH1 y hy) λhm=>hGn'.2.2 y hy y hm rfl;have p2':RVers false h6 [.sl 6 a6 (l[f].wait.length+1) c6] (l[f].wait ++ [v]) F6:=p2;obtain ⟨h7,F7,e7,t7,m7⟩:=put h6 (H1++F6) 1 [.sl 6 a6 (l[f].wait.length+1) c6] [s1,.sl 6 a6 (l[f].wait.length+1) c6] ⟨l[f].store,l[f].wait ++ [v]⟩ hmv rfl ⟨_,_,H1,F6,rfl,rfl,q1x,p2'⟩;have hb3:h3[b']?=h5[b']?:=by rw[m5.fr b' (hF3 b' hbF) (m13.apart b' hbF)]
  have l5:ld h5 b' (i'+f) 1 1=some [s2]:=by rw[BT hb1 hb2];rfl
  have l3:ld h3 b' (i'+f) 1 1=some [s2]:=by rw[OR hb3];exact l5
  have l6:ld (h5 ++ [.rows 6 43 false [v.cs av cv]]) b' (i'+f) 1 1=some [s2]:=by rw[OR (zbn (hF4 b' hbF))];exact l5
  simp only[Ver.cs] at e5 p1 l6;rw[Ap,Ad hf,ha,Ag,Bm,l3,Ag,Ab,Af,esw,e5,Ac,AA,Ab,Aa,Ab,Aa,Ab,Aa,Ab,Ah,Ab,Bq,Ab,AB,Af,l5,l6,Pu,GN,GN,A9,p1,Ah,Ad hf,Ag,e7,Ag];have t7':RNodes false h7 [.sl 2 a (l.set f ⟨l[f].store,l[f].wait ++ [v]⟩).length c] (l.set f ⟨l[f].store,l[f].wait ++ [v]⟩) F7:=by rw[zbL];exact t7
  rw[<- ha];refine ⟨l.set f ⟨l[f].store,l[f].wait ++ [v]⟩,a,c,h7,F7,by rw[zbL],t7',X7 hsm ⟨(hsm.2 _ (zbk hf)).1,by simp;omega,λu hu=>?_⟩,(r5.keepF m15' m7 hlo5).up (by omega),m15'.draw1 m7 r5.lt⟩;rcases zbl.1 hu with hu | hu
  ·exact (hsm.2 _ (zbk hf)).2.2 u hu
  ·rw[zbr] at hu;subst hu;exact ⟨by omega,by omega⟩
 | false =>
 rw[Ay];cases x==(2:Int) with
 | true =>
  have hnd3:=m13.nd;rw[zbs] at hnd3;obtain ⟨F5,t5,n5,s5⟩:=t3.first (i:=f) (by omega) hnd3.2;have hlen:(l.take f).length=f:=by simp;omega
  rw[Ap,NX t3 (by omega)];exact ⟨l.take f,a,c,h3,F5,by rw[hlen],by rw[hlen];exact t5,⟨by rw[hlen];omega,λx hx=>hsm.2 x (zcK hx)⟩,r3.up (by omega),m13.thin n5 s5⟩
 | false =>rw[Ay];exact ⟨l,a,c,h3,F1,rfl,t3,hsm,r3.up (by omega),m13⟩
end


variable {l:List Node}{p:List Tag}
section
variable {lo:Nat}{ro ro':Bool}{h:Heap}{F F':List Nat}{a a':Pq}{c c':Nq}
theorem Y5 {l:List Tag} (h1:RTags ro h [.sl 2 a l.length c] l F) (h2:RTags ro' h [.sl 2 a' l.length c'] l F') (hn:l.length<=1048576):Ae lo 17 [.agg [.sl 2 a l.length c],.agg [.sl 2 a' l.length c']] h=some (.bool true,h):=by
 refine Ro (h':=h) ?_;rw[Kl,Ap];refine (IE (n:=l.length) (λi=>C8 (List.length h) false (i:Nat) a l.length c a' l.length c' h) λi hi=>?_).trans ?_
 ·obtain ⟨o,rfl,ho⟩:=h1.get hi;obtain ⟨o',rfl,ho'⟩:=h2.get hi;rw[C8.e,Ak (by omega),Ad hi];simp only[Ag,Bm,ho,ho',Ab,Aa,Af,Ad hi,Kl,Ap,Bool.and_self,At (show i<9223372036854775807 by omega)]
 ·rw[C8.e,Aj (by omega)]
theorem zak {v:Ver} (h1:RTags ro h [.sl 2 a v.past.length c] v.past F) (h2:RTags ro' h [.sl 2 a' v.past.length c'] v.past F') (hn:v.past.length<=1048576):Ae lo 73 [.agg (v.cs a c),.agg (v.cs a' c')] h=some (.bool true,h) :=
 Tr (h':=h) (by simp only[Y5 h1 h2 hn,Ac,Az,Ap,Kl,zaI,za4,Bool.and_self])
theorem V4 {l:List Ver} (h1:RVers ro h [.sl 6 a l.length c] l F) (h2:RVers ro' h [.sl 6 a' l.length c'] l F') (hn:Ct l):Ae lo 61 [.sl 6 a l.length c,.sl 6 a' l.length c'] h=some (.bool true,h):=by
 have hn1:=hn.1;refine Rn (h':=h) ?_;rw[Kl,Ap];refine (IE (n:=l.length) (λi=>C7 (List.length h) a l.length c a' l.length c' false (i:Nat) h) λi hi=>?_).trans ?_
 ·obtain ⟨o,s,b1,c1,G1,rfl,ho,es,hp,_⟩:=h1.get hi;obtain ⟨o',s',b2,c2,G2,rfl,ho',es',hp',_⟩:=h2.get hi;rw[C7.e,Ak (by omega),Ad hi];simp only[Ag,Bm,ho,ho',Ab,Aa,es,es',Bq,AB,Af,Ad hi];rw[zak hp hp' (hn.2 _ (zbk hi)).1];simp only[Ac,Az,Ap,At (show i<9223372036854775807 by omega)]
 ·rw[C7.e,Aj (by omega)]
theorem zaa {l:List Ver} (h1:RVers ro h [.sl 6 a l.length c] l F) (h2:RVers ro' h [.sl 6 a' l.length c'] l F') (hn:Ct l):Ae lo 131 [.agg [.sl 6 a l.length c],.agg [.sl 6 a' l.length c']] h=some (.bool true,h):=by
 have hn1:=hn.1;refine Qs (h':=h) ?_;rw[Kl,Ap];refine (IE (n:=l.length) (λi=>Cx (List.length h) false (i:Nat) a l.length c a' l.length c' h) λi hi=>?_).trans ?_
 ·obtain ⟨o,s,b1,c1,G1,rfl,ho,es,hp,_⟩:=h1.get hi;obtain ⟨o',s',b2,c2,G2,rfl,ho',es',hp',_⟩:=h2.get hi;rw[Cx.e,Ak (by omega),Ad hi];simp only[Ag,Bm,ho,ho',Ab,Aa,es,es',Bq,AB,Af,Ad hi];rw[zak hp hp' (hn.2 _ (zbk hi)).1];simp only[Ac,Az,Ap,At (show i<9223372036854775807 by omega)]
 ·rw[Cx.e,Aj (by omega)]
theorem zab (h1:RNodes ro h [.sl 2 a l.length c] l F) (h2:RNodes ro' h [.sl 2 a' l.length c'] l F') (hn:CD l):Ae lo 60 [.agg [.sl 2 a l.length c],.agg [.sl 2 a' l.length c']] h=some (.bool true,h):=by
 have hn1:=hn.1;refine Qu (h':=h) ?_;rw[Kl,Ap];refine (IE (n:=l.length) (λi=>Cz (List.length h) false (i:Nat) a l.length c a' l.length c' h) λi hi=>?_).trans ?_
 ·obtain ⟨o,s1,s2,a1,c1,a2,c2,G1,G2,rfl,ho,ho1,ho2,e1,e2,hp1,hp2,_⟩:=h1.get hi;obtain ⟨o',s1',s2',a1',c1',a2',c2',G1',G2',rfl,ho',ho1',ho2',e1',e2',hp1',hp2',_⟩:=h2.get hi;rw[Cz.e,Ak (by omega),Ad hi];simp only[Ag,Bm,ho1,ho1',Ab,e1,e1',Af,Ad hi];rw[zaa hp1 hp1' (hn.2 _ (zbk hi)).1];simp only[Ac,Az,Ap,Ag,ho2,ho2',Ab,Af,e2,e2',Ad hi];rw[V4 hp2 hp2' (hn.2 _ (zbk hi)).2];simp only[Ac,Az,Ap,At (show i<9223372036854775807 by omega)]
 ·rw[Cz.e,Aj (by omega)]
theorem DV (hp:Bb p=true):p.length=4:=by unfold Bb at hp;rw[DH,decide_eq_true_eq] at hp;exact hp.1
theorem JM {q:List Tag} (hs:RTags ro h [.sl 2 a p.length c] p F) (hs':RTags ro' h [.sl 2 a' q.length c'] q F') (hp:Bb p=true) (hq:Bb q=true) :
  Ae lo 18 [.agg [.sl 2 a p.length c],.agg [.sl 2 a' q.length c']] h=some (.bool (B4 p q),h):=by
 have h1:=DV hp;have h2:=DV hq;refine MH (h':=h) ?_;rw[Ka hs (by omega),Ac,Az,hp,Ap,Ka hs' (by omega),Ac,Az,hq,Ap,Li hs hs' (by omega) (by omega),Ac,Az];cases B4 p q<;>rfl
theorem I3 (hs:RNodes false h [.sl 2 a l.length c] l F) (hl:lo<=h.length) (hn:CD l) (hc:Ch l) :
  ∃ a' c' h' F',Ae lo 19 [.agg [.sl 2 a l.length c]] h=some (.agg [.sl 2 a' (AW l).length c'],h')/\RTags false h' [.sl 2 a' (AW l).length c'] (AW l) F'/\Mv h [] h' F':=by
 have hpos:=hc.pos;have m0:Mv h [] (h ++ [.rows 1 25 false [[.sl 2 a l.length c]]]) []:=Mv.snoc;have hs0:=m0.keep0 rnodes_ok hs;have hld:ld (h ++ [.rows 1 25 false [[.sl 2 a l.length c]]]) h.length 0 0 1=some [.sl 2 a l.length c]:=by rw[BT (show (h ++ [Blk.rows 1 25 false [[.sl 2 a l.length c]]])[h.length]?=some (.rows 1 25 false [[.sl 2 a l.length c]]) by simp) rfl];exact IJ rfl
 obtain ⟨a1,c1,G1,e1,q1,_⟩:=Kz (lo:=lo) hld hs0 (by omega) hn.1;obtain ⟨v,h2,F2,e2,r2,m2⟩:=Nf (lo:=lo) q1 (zbj hl m0.le) (hc.store (Dx (by omega))).2;rw[<- If (by omega)] at r2;obtain ⟨a2,c2,es,r2⟩:=r2.form;refine ⟨a2,c2,h2,F2,LE ?_,r2,m0.trans m2⟩;rw[hld,Ag,Ab,Ah,Af,Mg hs0 hn,chain_iff.2 hc,Ac,Az,Ap,e1,Ac,AA,Ab,Ah,Af,e2,Ac,AA,Ab,es,Af]
end


section
variable {lo:Nat}{h h':Heap}{w:World}{a1 a2 a3 a4 a:Pq}{c1 c2 c3 c4 c:Nq}{F1 F2 F3 F4:List Nat}
theorem Va {kind num key:Int}{text:ByteArray}{gone:Bool}{i:Nat} (H:WR lo h w a1 c1 a2 c2 a3 c3 a4 c4 F1 F2 F3 F4) (hg:Fits w) (hi:i<w.sess.length) :
  ∃ cs' h' F',Ae lo 250 [.agg (w.cs a1 c1 a2 c2 a3 c3 a4 c4),.agg [Iv kind,Iv (i:Nat),Iv num,Iv key,.str text,.bool gone]] h=some (.tup [.agg cs',.bool (Nw w i w.sess[i]).isSome],h') /\
   Oq lo h' cs' ((Nw w i w.sess[i]).getD w) F'/\Mv h (F1++(F2++(F3++F4))) h' F'/\((Nw w i w.sess[i])=none->cs'=w.cs a1 c1 a2 c2 a3 c3 a4 c4):=by
 suffices hk:∃ cs' h' F',_=some (V.tup [.agg cs',.bool (Nw w i w.sess[i]).isSome],h')/\Oq lo h' cs' ((Nw w i w.sess[i]).getD w) F'/\Mv h (F1++(F2++(F3++F4))) h' F'/\((Nw w i w.sess[i])=none->cs'=w.cs a1 c1 a2 c2 a3 c3 a4 c4) from by obtain ⟨cs',h',F',e,hr⟩:=hk;exact ⟨cs',h',F',Tf e,hr⟩
 have hso:=hg.ok.sess _ (zbk hi);obtain ⟨t1,t2,t3,t4,t5,t6⟩:=DF hso;have hp4:=DV t2;have h80:=hg.ok.h80;obtain ⟨k,hpl⟩:∃ k:Nat,w.sess[i].place=(k:Int):=⟨w.sess[i].place.toNat,by omega⟩;obtain ⟨m,hkey⟩:∃ m:Nat,w.sess[i].key=(m:Int):=⟨w.sess[i].key.toNat,by omega⟩;have hk:k<w.places.length:=by have:=hg.ok.p3;omega
 obtain ⟨hpo,hme,hro⟩:=hg.at hk;have hn:=(FN (CS hpo) (by decide) (by decide) (by decide)).1;have hco:=(AX hpo).2.2.2.1;have hcl:=FJ hpo;have hst:∀ x∈w.places[k].chain,AU x.store=true:=λx hx=>(AH ((Cp hco).2 x hx)).1
 have h04:=A3 (hst _ (zbk hcl));have hm0:m<w.places[k].chain[0].store.length:=by omega
 obtain ⟨b',i',v,e1',d1',Gs,rfl,hld',_,_,es',hv',_,hGn,puts⟩:=H.sess hi;obtain ⟨b,j,s1,s2,s3,b1,d1,b2,d2,b3,d3,G1,G2,G3,rfl,_,hc2,_,e1,e2,e3,g1,g2,g3,nd,hF,put⟩:=H.place hk;obtain ⟨u,x5,y5,h1,G5,e5,hsh,r5,m5⟩:=KT (lo:=lo) (k:=0) (key:=m) g1 hcl hst (by omega) H.hl hn.1.1;rw[show ((0:Nat):Int)=0 from rfl] at e5;obtain ⟨o,z1,z2,p1,q1,p2,q2,H1,H2,rfl,_,ho1,_,ez1,_,gg1,_,_⟩:=(m5.keep0 rnodes_ok g1).get hcl;obtain ⟨o',_,_,_,_,rfl,_,_,_,_,_,_,ho12,_⟩:=gg1.all hm0;have hX:Nw w i w.sess[i]=bif decide (w.sess[i].wait.time>0) then
    (bif FW u.tag w.sess[i].wait then (bif FW w.places[k].chain[0].store[m].tag w.sess[i].wait then some (setS w i ⟨w.sess[i].place,w.sess[i].past,⟨0,0⟩,0⟩ []) else none)
    else (bif D7 w 1 then some (setS w i ⟨w.sess[i].place,IT w.sess[i].past m w.sess[i].wait,⟨0,0⟩,0⟩ [⟨i,3,w.sess[i].key,w.sess[i].wait⟩]) else none)) else none:=by
  have hhd:(FY w.places[k].chain)[m]?=some w.places[k].chain[0].store[m]:=by unfold FY;rw[Dx hcl];exact Dx hm0
  unfold Nw;rw[hpl,hkey,Bm,Bm,Dx hk];simp only[hsh,hhd]
 generalize hXX:Nw w i w.sess[i]=X at hX;obtain ⟨Hq,mq⟩:=H.up0 m5.drop;simp only[Ver.cs] at e5;rw[Ad hi,Ag,Bm,hld',Ag,Ab,Aa,Ab,es',Ab,Aa,Ab,Aa,Ab,Aa,Af];by_cases hw:¬ w.sess[i].wait.time>0
 ·have:w.sess[i].wait.time=0:=by simp[A6,An] at t3;omega
  rw[this,Kl,Ap];exact H.stay (by rw[hX,decide_eq_false hw];rfl)
 have hw:w.sess[i].wait.time>0:=by omega
 rw[decide_eq_true hw,cond_true] at hX;rw[show (w.sess[i].wait.time==0)=false by rw[beq_eq_false_iff_ne];omega,Ay,hpl,Ad hk,Ag,Bm,hc2,Ag,Ab,e1,Af,hkey,e5,Ac,AA,Ab,Aa,Ab,Aa,Ab,Aa,Ab,Ah,Ab,Bq,Ab,AB,Af,Cu ⟨by omega,by omega⟩,Ag,ho1,Ag,Ab,Af,ez1,Ad hm0,Ag,Bm,ho12,Ag,Ab,Aa,Ab,Aa,Af,BF,Ac,Az];cases hA:GA u.tag.time u.tag.place w.sess[i].wait.time w.sess[i].wait.place with
 | true =>
  rw[show FW u.tag w.sess[i].wait=true from hA,cond_true] at hX;rw[Ap,BF,Ac,Az];cases hB:GA w.places[k].chain[0].store[m].tag.time w.places[k].chain[0].store[m].tag.place w.sess[i].wait.time w.sess[i].wait.place with
  | false =>rw[show FW w.places[k].chain[0].store[m].tag w.sess[i].wait=false from hB,cond_false] at hX;rw[Ay];obtain ⟨cs',h',F',e,W,M,N⟩:=Hq.stay hX;exact ⟨cs',h',F',e,W,mq.trans M,N⟩
  | true =>rw[show FW w.places[k].chain[0].store[m].tag w.sess[i].wait=true from hB,cond_true] at hX;obtain ⟨h7,F7,e7,q7,m7⟩:=Hq.wait hi ⟨0,0⟩ 0;rw[Ap,BF,Ac,Az,hA,Ap,BF,Ac,Az,hA,Ap];simp only[] at e7;rw[e7,hX];refine ⟨_,h7,_,rfl,?_,mq.trans m7,λg=>by first | cases g | (simp at g)⟩;have W:=q7.at;simp only[World.cs,zbL] at W;simpa only [setS,zcB,zcf] using W
 | false =>
  rw[show FW u.tag w.sess[i].wait=false from hA,cond_false] at hX;rw[Ay,BF,Ac,Az,hA,Ay];by_cases hh:(w.hist.length:Int)>=80
  ·rw[Ak hh];obtain ⟨cs',h',F',e,W,M,N⟩:=Hq.stay (X:=X) (by rw[hX,show D7 w 1=false from decide_eq_false (by omega)];rfl);exact ⟨cs',h',F',e,W,mq.trans M,N⟩
  rw[show D7 w 1=true from decide_eq_true (by omega),cond_true] at hX;obtain ⟨x6,y6,h6,F6,e6,r6,m6⟩:=J1 (lo:=lo) (k:=m) (t:=w.sess[i].wait) (m5.keep0 rtags_ok hv') (by omega) Hq.hl (by omega);obtain ⟨h7,F7,e7,q7,m7,_⟩:=Hq.past hi m6 r6;obtain ⟨a8,c8,h8,F8,e8,q8,m8,_⟩:=EA (d:=⟨i,3,(m:Nat),w.sess[i].wait⟩) q7 (by show w.hist.length<=1000;omega);have hi8:i<(w.sess.set i ⟨w.sess[i].place,IT w.sess[i].past m w.sess[i].wait,w.sess[i].wait,w.sess[i].key⟩).length:=by simpa using hi
  obtain ⟨h9,F9,e9,q9,m9⟩:=q8.wait hi8 ⟨0,0⟩ 0;have W:=q9.at;simp only[World.cs,zbL] at e8 e9;simp only[World.cs,zbL,zcG,List.set_set] at W;rw[Aj hh,BF,Ac,Az,hA,Ay,e6,Ac,AA,Ab,Ah,Af,e7,e8,Ac,AA,Ab,Ah,Ab,Ah,Ab,Ah,Ab,Ah,Af,e9,hX];refine ⟨_,h9,_,rfl,?_,mq.trans ((m7.trans m8).trans m9),λg=>by first | cases g | (simp at g)⟩;simpa only [setS,zcB,hkey] using W
end


section
variable {lo:Nat}{h h':Heap}{w:World}{a1 a2 a3 a4 a:Pq}{c1 c2 c3 c4 c:Nq}{F1 F2 F3 F4:List Nat}
theorem TK {kind num key:Int}{text:ByteArray}{gone:Bool}{i:Nat} (H:WR lo h w a1 c1 a2 c2 a3 c3 a4 c4 F1 F2 F3 F4) (hg:Fits w) (hi:i<w.sess.length) :
  ∃ cs' h' F',Ae lo 251 [.agg (w.cs a1 c1 a2 c2 a3 c3 a4 c4),.agg [Iv kind,Iv (i:Nat),Iv num,Iv key,.str text,.bool gone]] h=some (.tup [.agg cs',.bool (IX w i w.sess[i] ⟨kind,(i:Nat),num,key,text,gone⟩).isSome],h') /\
   Oq lo h' cs' ((IX w i w.sess[i] ⟨kind,(i:Nat),num,key,text,gone⟩).getD w) F'/\Mv h (F1++(F2++(F3++F4))) h' F'/\((IX w i w.sess[i] ⟨kind,(i:Nat),num,key,text,gone⟩)=none->cs'=w.cs a1 c1 a2 c2 a3 c3 a4 c4):=by
 suffices hk:∃ cs' h' F',_=some (V.tup [.agg cs',.bool (IX w i w.sess[i] ⟨kind,(i:Nat),num,key,text,gone⟩).isSome],h')/\Oq lo h' cs' ((IX w i w.sess[i] ⟨kind,(i:Nat),num,key,text,gone⟩).getD w) F'/\Mv h (F1++(F2++(F3++F4))) h' F'/\((IX w i w.sess[i] ⟨kind,(i:Nat),num,key,text,gone⟩)=none->cs'=w.cs a1 c1 a2 c2 a3 c3 a4 c4) from by obtain ⟨cs',h',F',e,hr⟩:=hk;exact ⟨cs',h',F',QR e,hr⟩
 have hso:=hg.ok.sess _ (zbk hi);obtain ⟨t1,t2,t3,t4,t5,t6⟩:=DF hso;have hp4:=DV t2;have h80:=hg.ok.h80;obtain ⟨k,hpl⟩:∃ k:Nat,w.sess[i].place=(k:Int):=⟨w.sess[i].place.toNat,by omega⟩;have hk:k<w.places.length:=by have:=hg.ok.p3;omega
 obtain ⟨hpo,hme,hro⟩:=hg.at hk;have hn:=(FN (CS hpo) (by decide) (by decide) (by decide)).1;have hn1:=hn.1.1;have hch:=chain_iff.1 (AX hpo).2.2.2.1;have hst:∀ x∈w.places[k].chain,AU x.store=true:=λx hx=>(AH ((Cp (AX hpo).2.2.2.1).2 x hx)).1
 obtain ⟨b',i',v,e1',d1',Gs,rfl,hld',_,_,es',hv',_,hGn,puts⟩:=H.sess hi;obtain ⟨b,j,s1,s2,s3,b1,d1,b2,d2,b3,d3,G1,G2,G3,rfl,_,hc2,_,e1,e2,e3,g1,g2,g3,nd,hF,put⟩:=H.place hk;have hX:IX w i w.sess[i] ⟨kind,(i:Nat),num,key,text,gone⟩=bif !decide (w.sess[i].wait.time>0)&&(An key 0 3&&(An num 0 ((w.places[k].chain.length:Int) - 1)&&D7 w 1)) then
   (match J2 w.places[k].chain num.toNat key.toNat,w.sess[i].past[key.toNat]? with
   | some v,some t=>bif FW v.tag t then none else some (setS w i ⟨w.sess[i].place,T4 w.sess[i] v key.toNat,w.sess[i].wait,w.sess[i].key⟩ [⟨i,2,key,v.tag⟩])
   | _,_=>none) else none:=by
  unfold IX;rw[hpl,Bm,Dx hk]<;>rfl
 generalize hXX:IX w i w.sess[i] ⟨kind,(i:Nat),num,key,text,gone⟩=X at hX;rw[Ad hi,Ag,Bm,hld',Ag,Ab,Aa,Ab,es',Ab,Aa,Ab,Aa,Ab,Aa,Af,hpl,Ad hk,Ag,Bm,hc2,Ag,Ab,e1,Af];by_cases hw:w.sess[i].wait.time>0
 ·rw[Ak hw];exact H.stay (by rw[hX,decide_eq_true hw];rfl)
 rw[decide_eq_false hw,zcs,zbK] at hX;rw[Aj hw,Bp,Ac,Az];cases hwk:An key 0 3 with
 | false=>rw[Ay];exact H.stay (by rw[hX,hwk];rfl)
 | true =>
 rw[hwk,zbK] at hX;rw[Ap,wr (by omega) (by omega),Bp,Ac,Az];cases hwn:An num 0 ((w.places[k].chain.length:Int) - 1) with
 | false=>rw[Ay];exact H.stay (by rw[hX,hwn];rfl)
 | true =>
 rw[hwn,zbK] at hX;rw[Ap];by_cases hh:(w.hist.length:Int)>=80
 ·rw[Ak hh];exact H.stay (by rw[hX,show D7 w 1=false from decide_eq_false (by omega)];rfl)
 rw[show D7 w 1=true from decide_eq_true (by omega),cond_true] at hX;simp only[An,DH,decide_eq_true_eq] at hwk hwn;obtain ⟨m,rfl⟩:∃ m:Nat,key=(m:Int):=⟨key.toNat,by omega⟩;obtain ⟨n,rfl⟩:∃ n:Nat,num=(n:Int):=⟨num.toNat,by omega⟩;have hmp:m<w.sess[i].past.length:=by omega
 obtain ⟨u,x5,y5,h1,G5,e5,hsh,r5,m5⟩:=KT (lo:=lo) (k:=n) (key:=m) g1 (by omega) hst (by omega) H.hl hn1;obtain ⟨Hq,mq⟩:=H.up0 m5.drop;rw[Bm,Bm,hsh,Dx hmp] at hX;simp only[] at hX;have hu4:Bb u.past=true\/u.tag.time=0:=by
  have hql:EC w.places[k].chain n<w.places[k].chain.length:=by unfold EC;split<;>omega
  unfold J2 at hsh;rw[EK hql] at hsh;rcases Dl (HY (hst _ (zbk hql)) hsh) with g | g
  ·exact .inr (EJ g).1
  ·exact .inl (AT g.1).2.2.2.1
 obtain ⟨o',ho',ho2⟩:=(m5.keep0 rtags_ok hv').get hmp;subst ho';simp only[Ver.cs] at e5;rw[Aj hh,e5,Ac,AA,Ab,Aa,Ab,Aa,Ab,Aa,Ab,Ah,Ab,Bq,Ab,AB,Af,Ad hmp,Ag,Bm,ho2,Ag,Ab,Aa,Ab,Aa,Af,BF,Ac,Az];cases hA:GA u.tag.time u.tag.place w.sess[i].past[m].time w.sess[i].past[m].place with
 | true =>rw[show FW u.tag w.sess[i].past[m]=true from hA,cond_true] at hX;rw[Ap];obtain ⟨cs',h',F',e,W,M,N⟩:=Hq.stay hX;exact ⟨cs',h',F',e,W,mq.trans M,N⟩
 | false =>
 rw[show FW u.tag w.sess[i].past[m]=false from hA,cond_false] at hX;rw[Ay];unfold T4 at hX;by_cases ht:u.tag.time>0
 ·rw[decide_eq_true ht,cond_true] at hX;have hu4':u.past.length=4:=DV (hu4.resolve_right (by omega));obtain ⟨q6,x6,y6,h6,F6,e6,r6,m6⟩:=TT (lo:=lo) (m5.keep0 rtags_ok hv') r5 hp4 hu4' Hq.hl;obtain ⟨x7,y7,es7,r7⟩:=r6.form;have hj:(I1 w.sess[i].past u.past).length=4:=by unfold I1;rw[List.length_zipWith];omega
  obtain ⟨x8,y8,h8,F8,e8,r8,m8⟩:=J1 (lo:=lo) (k:=m) (t:=u.tag) r7 (by omega) (zbj Hq.hl m6.le) (by omega);obtain ⟨h9,F9,e9,q9,m9,_⟩:=Hq.past hi (m6.drop.trans m8) r8;obtain ⟨x10,y10,h10,F10,e10,q10,m10,_⟩:=EA (d:=⟨i,2,(m:Nat),u.tag⟩) q9 (by show w.hist.length<=1000;omega);have W:=q10.at;simp only[World.cs,zbL] at e10 W;rw[Ak ht,e6,Ac,AA,Ab,es7,Af,e8,Ac,AA,Ab,Ah,Af,e9,e10,Ac,AA,Ab,Ah,Ab,Ah,Ab,Ah,Ab,Ah,Af,hX];exact ⟨_,h10,_,rfl,W,mq.trans (m9.trans m10),λg=>by first | cases g | (simp at g)⟩
 ·rw[decide_eq_false ht,cond_false] at hX;obtain ⟨x10,y10,h10,F10,e10,q10,m10,_⟩:=EA (d:=⟨i,2,(m:Nat),u.tag⟩) Hq (by omega);have W:=q10.at;simp only[World.cs] at e10 W;have hse:w.sess.set i ⟨w.sess[i].place,w.sess[i].past,w.sess[i].wait,w.sess[i].key⟩=w.sess:=zcR hi;rw[Aj ht,e10,Ac,AA,Ab,Ah,Ab,Ah,Ab,Ah,Ab,Ah,Af,hX];refine ⟨_,h10,_,rfl,?_,mq.trans m10,λg=>by first | cases g | (simp at g)⟩;simpa only [setS,zcB,hse] using W
end
end Go.Proofs.YtmgopagfoemomaaGreat
