/- Part 3 of what is shown for the law Go, whatever the input; no condition of its own. -/
import Derived.Test.YtmdgiekbejjjgaaGreatBGo2
set_option linter.unusedVariables false
set_option linter.unusedSimpArgs false
set_option linter.unnecessarySimpa false
set_option maxRecDepth 100000
namespace Go.Proofs.YtmdgiekbejjjgaaGreat
open Go T


variable {u v:Ver}{t r s:List Ver}{k i:Nat}{x z:Node}
theorem KN {w:Ver} (h1:AQ u v=true) (h2:AQ v w=true):AQ u w=true:=by rw[In] at *;omega
def upS (t s:List Ver):Prop:=∀ (i:Nat) (x y:Ver),t[i]?=some x->s[i]?=some y->x=y\/AQ x y=true
theorem upS.refl:upS t t:=λi x y hx hy => .inl (by rw[hx] at hy;injection hy)
theorem upS.trans (h1:upS r s) (h2:upS s t) (hl:t.length<=s.length):upS r t:=λi x z hx hz=>by
 have hi:=(Ef hz).1;have hy:=CX (l:=s) (i:=i) (by omega);rcases h1 i x _ hx hy with rfl | h3
 ·exact h2 i _ z hy hz
 ·rcases h2 i _ z hy hz with h4 | h4
  ·exact .inr (h4 ▸ h3)
  ·exact .inr (KN h3 h4)
theorem upS.set {t:List Ver}{k:Nat}{u v:Ver} (hu:t[k]?=some u) (hl:AQ u v=true):upS t (t.set k v):=λi x y hx hy=>by
 rw[List.getElem?_set] at hy;by_cases hi:k=i
 ·subst hi;rw[if_pos rfl,if_pos (Ef hu).1] at hy;injection hy with hy;rw[hu] at hx;injection hx with hx;exact .inr (by rw[<- hx,<- hy];exact hl)
 ·rw[if_neg hi,hx] at hy;injection hy with hy;exact .inl hy
theorem fitsL_cons:Ec t (v :: r)=some s<->∃ x,t[v.key.toNat]?=some x/\AQ x v=true/\Ec (t.set v.key.toNat v) r=some s:=by
 simp only[Ec];cases hx:t[v.key.toNat]? with
 | none=>simp
 | some x=>cases hl:AQ x v<;>simp[hl]
theorem Mj:∀ {ws t s:List Ver}{v x:Ver},Ec t ws=some s->s[v.key.toNat]?=some x->AQ x v=true->Ec t (ws ++ [v])=some (s.set v.key.toNat v)
 | [],t,s,v,x,h,hx,hl=>by simp only[Ec,Option.some.injEq] at h;subst h;exact fitsL_cons.2 ⟨x,hx,hl,rfl⟩
 | w :: r,t,s,v,x,h,hx,hl=>by obtain ⟨y,h1,h2,h3⟩:=fitsL_cons.1 h;exact fitsL_cons.2 ⟨y,h1,h2,Mj h3 hx hl⟩
theorem QT:∀ {ws t s:List Ver},Ec t ws=some s->upS t s
 | [],t,s,h=>by simp only[Ec,Option.some.injEq] at h;subst h;exact upS.refl
 | v :: r,t,s,h=>by
  obtain ⟨y,h1,h2,h3⟩:=fitsL_cons.1 h;have h4:=QT h3;refine λi x z hx hz=>?_;by_cases hi:v.key.toNat=i
  ·subst hi;rw[h1] at hx;injection hx with hx;subst hx;have hlt:=(Ef h1).1;rcases h4 _ v z (by simp[hlt]) hz with rfl | h5
   ·exact .inr h2
   ·exact .inr (KN h2 h5)
  ·exact h4 i x z (by rw[XZ hi];exact hx) hz
theorem Oo:∀ {ws t s:List Ver},Ec t ws=some s->∀ v∈s,v∈ws\/v∈t
 | [],t,s,h=>by simp only[Ec,Option.some.injEq] at h;subst h;exact λv hv => .inr hv
 | w :: r,t,s,h=>λv hv=>by
  obtain ⟨y,h1,h2,h3⟩:=fitsL_cons.1 h;rcases Oo h3 v hv with g | g
  ·exact .inl (by simp[g])
  ·rcases Yo g with g | rfl
   ·exact .inr g
   ·exact .inl (by simp)
theorem QU:∀ {ws t s:List Ver},s.length=t.length->ws.Pairwise (λp u=>p.key≠u.key)->(∀ v∈ws,0<=v.key/\s[v.key.toNat]?=some v/\∃ x,t[v.key.toNat]?=some x/\AQ x v=true) ->
  (∀ (i:Nat) (x y:Ver),t[i]?=some x->s[i]?=some y->x=y\/(y∈ws/\y.key.toNat=i))->Ec t ws=some s
 | [],t,s,hl,_,_,h=>by
  simp only[Ec,Option.some.injEq];apply List.ext_getElem?;intro i;by_cases hi:i<t.length
  ·have h1:=CX hi;have h2:=CX (l:=s) (i:=i) (by omega);rcases h i _ _ h1 h2 with g | g
   ·rw[h1,h2,g]
   ·exact absurd g.1 (by simp)
  ·rw[YM (by omega),YM (by omega)]
 | v :: r,t,s,hl,hp,hw,h=>by
  rw[List.pairwise_cons] at hp;obtain ⟨h0,h1,x,h2,h3⟩:=hw v (by simp);refine fitsL_cons.2 ⟨x,h2,h3,QU (by simpa using hl) hp.2 (λu hu=>?_) (λi a b ha hb=>?_)⟩
  ·obtain ⟨g0,g1,y,g2,g3⟩:=hw u (by simp[hu]);have:=hp.1 u hu;exact ⟨g0,g1,y,by rw[XZ (by omega)];exact g2,g3⟩
  ·by_cases hi:v.key.toNat=i
   ·subst hi;have hlt:=(Ef h2).1;rw[X9 hlt] at ha;injection ha with ha;rw[h1] at hb;injection hb with hb;exact .inl (ha.symm.trans hb)
   ·rw[XZ hi] at ha;rcases h i a b ha hb with g | ⟨g1,g2⟩
    ·exact .inl g
    ·rcases Ye.1 g1 with rfl | g1
     ·exact absurd g2 hi
     ·exact .inr ⟨g1,g2⟩
theorem Ob {v:Ver}:∀ {l:List Ver},(ES v l).Perm (v :: l)
 | [] => .refl _
 | u :: r=>by
  simp only[ES];cases AQ u v with
  | false=>exact .refl _
  | true=>exact (List.Perm.cons u Ob).trans (List.Perm.swap v u r)
theorem NO:∀ {l acc:List Ver},(l.foldl (λacc v=>ES v acc) acc).Perm (l++acc)
 | [],acc => .refl _
 | v :: l,acc=>by rw[YL];exact ((NO (l:=l)).trans (List.Perm.append_left l Ob)).trans List.perm_middle
theorem lackU_mem:v∈L7 s t<->∃ (i:Nat) (u:Ver),s[i]?=some v/\t[i]?=some u/\AQ u v=true:=by
 unfold L7;rw[List.mem_filterMap];constructor
 ·rintro ⟨⟨x,y⟩,hm,hx⟩
  obtain ⟨i,hi⟩:=Yf.1 hm;rw[Zu] at hi;unfold E9 at hx;simp only at hx;cases hl:AQ y x with
  | false=>rw[hl] at hx;cases hx
  | true =>rw[hl] at hx;injection hx with hx;subst hx;exact ⟨i,y,hi.1,hi.2,hl⟩
 ·rintro ⟨i,u,h1,h2,h3⟩
  refine ⟨(v,u),Yf.2 ⟨i,Zu.2 ⟨h1,h2⟩⟩,?_⟩;unfold E9;simp only[h3,cond_true]
theorem GJ (hs:Bw s=true) {x:Ver} (hx:s[i]?=some x):HF i x=true:=by obtain ⟨hi,rfl⟩:=Ef hx;exact D8 hs hi
theorem HG (hs:Bw s=true) (ht:Bw t=true) {x:Ver} (hx:s[i]?=some x) (hu:t[i]?=some u) (hl:AQ u x=true):Cp x=true/\x.key=(i:Int):=by
 rcases DW (GJ hs hx) with g | g
 ·have:=IB (PC (GJ ht hu)) (GG g);rw[hl] at this;cases this
 ·exact g
theorem lackL_perm:(Dh s t).Perm (L7 s t):=by rw[<- RZ];have h:=NO (l:=L7 s t) (acc := []);rw[YW] at h;exact h
theorem UZ (hs:Bw s=true) (ht:Bw t=true):∀ v∈Dh s t,Cp v=true:=λv hv=>by obtain ⟨i,u,h1,h2,h3⟩:=lackU_mem.1 (lackL_perm.mem_iff.1 hv);exact (HG hs ht h1 h2 h3).1
theorem TT (hs:Bw s=true) (ht:Bw t=true) (hu:upS t s):Ec t (Dh s t)=some s:=by
 refine QU (by rw[Cq hs,Cq ht]) ?_ (λv hv=>?_) (λi x y hx hy=>?_)
 ·exact (lackL_perm.pairwise_iff λh=>h.symm).2 ((RY hs ht).imp λh=>by omega)
 ·obtain ⟨i,u,h1,h2,h3⟩:=lackU_mem.1 (lackL_perm.mem_iff.1 hv);have hk:=(HG hs ht h1 h2 h3).2;have e:v.key.toNat=i:=by omega
  rw[e];exact ⟨by omega,h1,u,h2,h3⟩
 ·rcases hu i x y hx hy with h | h
  ·exact .inl h
  ·exact .inr ⟨lackL_perm.mem_iff.2 (lackU_mem.2 ⟨i,x,hy,hx,h⟩),by have:=(HG hs ht hy hx h).2;omega⟩
structure Ch (l:List Node):Prop where
 pos:1<=l.length
 le:l.length<=4
 node:∀ (i:Nat) (x:Node),l[i]?=some x->DJ x=true
 link:∀ (i:Nat) (x y:Node),l[i]?=some x->l[i+1]?=some y->Ec y.store x.wait=some x.store
 last:∀ (i:Nat) (x:Node),l[i]?=some x->i+1=l.length->x.wait = []
theorem fits_iff:fits x s=true<->Ec s x.wait=some x.store:=by
 unfold fits;cases h:Ec s x.wait with
 | none=>simp
 | some r=>simp[OQ]
theorem chain_iff {l:List Node}:Ey l=true<->Ch l:=by
 unfold Ey;simp only[C3];rw[Ge (p:=IT l),WI (p:=DJ)];constructor
 ·rintro ⟨⟨h1,h2⟩,h3⟩
  simp only[Ag,C3,decide_eq_true_eq] at h1;refine ⟨by omega,by omega,λi x hx=>?_,λi x y hx hy=>?_,λi x hx hi=>?_⟩
  ·obtain ⟨hi,rfl⟩:=Ef hx;exact h2 i hi
  ·obtain ⟨hi,rfl⟩:=Ef hx;have:=h3 i hi;unfold IT at this;rw[hy] at this;exact fits_iff.1 this
  ·obtain ⟨hj,rfl⟩:=Ef hx;have:=h3 i hj;unfold IT at this;rw[YM (by omega)] at this;exact X6 (by simpa using this)
 ·rintro ⟨h1,h2,h3,h4,h5⟩
  refine ⟨⟨by simp[Ag];omega,λi hi=>h3 i _ (CX hi)⟩,λi hi=>?_⟩;unfold IT;cases hy:l[i+1]? with
  | some y=>exact fits_iff.2 (h4 i _ y (CX hi) hy)
  | none =>have:=List.getElem?_eq_none_iff.1 hy;simp[h5 i _ (CX hi) (by omega)]
section
variable {l:List Node}
theorem Ch.store (h:Ch l) {i:Nat}{x:Node} (hx:l[i]?=some x):Bw x.store=true/\x.store.length=4:=by have:=(Bp (h.node i x hx)).1;exact ⟨this,Cq this⟩
theorem Ch.up (h:Ch l):∀ (d i:Nat) (x y:Node),l[i]?=some x->l[i+d]?=some y->upS y.store x.store
 | 0,i,x,y,hx,hy=>by rw[YX,hx] at hy;injection hy with hy;subst hy;exact upS.refl
 | d+1,i,x,y,hx,hy=>by have hlt:=(Ef hy).1;have hz:=CX (l:=l) (i:=i+d) (by omega);have h1:=h.up d i x _ hx hz;have h2:=QT (h.link (i+d) _ y hz hy);exact h2.trans h1 (by rw[(h.store hx).2,(h.store hz).2];exact X1 _)
theorem Ch.join (h:Ch l) (hl:l.length<4):Ch (Gr l):=by
 have hp:=h.pos;rw[EQ (by omega)];have hz:l[l.length - 1]?=some (l[l.length - 1]'(by omega)):=CX (by omega);have hns:=(h.store hz).1;have hn:DJ ⟨(l[l.length - 1]'(by omega)).store,[]⟩=true:=by unfold DJ;rw[hns];rfl
 have get:∀ i x,(l ++ [(⟨(l[l.length - 1]'(by omega)).store,[]⟩:Node)])[i]?=some x->(i<l.length/\l[i]?=some x)\/(i=l.length/\x=⟨(l[l.length - 1]'(by omega)).store,[]⟩):=λi x hx=>by
  by_cases hi:i<l.length
  ·rw[X2 hi] at hx;exact .inl ⟨hi,hx⟩
  ·rw[Yh (by omega)] at hx;have:=(Ef hx).1;simp only[YO] at this;have e:i=l.length:=by omega
   subst e;rw[Zs] at hx;injection hx with hx;exact .inr ⟨rfl,hx.symm⟩
 refine ⟨by simp,by simp;omega,λi x hx=>?_,λi x y hx hy=>?_,λi x hx hi=>?_⟩
 ·rcases get i x hx with ⟨_,g⟩ | ⟨_,rfl⟩
  ·exact h.node i x g
  ·exact hn
 ·rcases get (i+1) y hy with ⟨g1,g2⟩ | ⟨g1,rfl⟩
  ·rcases get i x hx with ⟨_,g⟩ | ⟨g,_⟩
   ·exact h.link i x y g g2
   ·omega
  ·rcases get i x hx with ⟨_,g⟩ | ⟨g,_⟩
   ·have e:i=l.length - 1:=by omega
    rw[h.last i x g g1];subst e;rw[hz] at g;injection g with g;subst g;rfl
   ·omega
 ·simp only[Yp,YO] at hi;rcases get i x hx with ⟨g,_⟩ | ⟨_,rfl⟩
  ·omega
  ·rfl
theorem GT (hk:k<l.length) (i:Nat):(BT l k)[i]?=if i+1=k then (l[i]?).map (λx=>(⟨x.store,match l[k+1]? with | some y=>Dh x.store y.store | none => []⟩:Node)) else if i<k then l[i]? else l[i+1]?:=by
 have hel:=YS hk;unfold BT;by_cases h0:0<k
 ·rw[decide_eq_true h0,cond_true];have hk1:k - 1<(l.eraseIdx k).length:=by omega
  have e1:(l.eraseIdx k)[k - 1]=l[k - 1]:=by rw[List.getElem_eraseIdx,dif_pos (by omega)]
  have out:∀ w,i+1≠k->(C9 (l.eraseIdx k) (k - 1) w)[i]?=if i+1=k then (l[i]?).map (λx=>(⟨x.store,match l[k+1]? with | some y=>Dh x.store y.store | none => []⟩:Node)) else if i<k then l[i]? else l[i+1]?:=λw hi=>by rw[FG hk1,XZ (by omega),List.getElem?_eraseIdx,if_neg hi]
  have at1:∀ w,i+1=k->(C9 (l.eraseIdx k) (k - 1) w)[i]?=some ⟨l[k - 1].store,w⟩:=λw hi=>by
   have e:k - 1=i:=by omega
   rw[FG hk1,e1,<- e,X9 hk1]
  have hl1:l[k - 1]?=some l[k - 1]:=CX (by omega);by_cases hkl:k<(l.eraseIdx k).length
  ·rw[decide_eq_true hkl,cond_true];by_cases hi:i+1=k
   ·have e:i=k - 1:=by omega
    have hy:l[k+1]?=some (l[k+1]'(by omega)):=CX (by omega);have e2:(l.eraseIdx k)[k]=l[k+1]'(by omega):=by rw[List.getElem_eraseIdx,dif_neg (by omega)]
    rw[at1 _ hi,if_pos hi,e,hl1,hy,DA hk1,DA hkl,e1,e2];rfl
   ·exact out _ hi
  ·rw[decide_eq_false hkl,cond_false];by_cases hi:i+1=k
   ·have e:i=k - 1:=by omega
    have hy:l[k+1]?=none:=YM (by omega);rw[at1 _ hi,if_pos hi,e,hl1,hy];rfl
   ·exact out _ hi
 ·rw[decide_eq_false h0,cond_false,if_neg (by omega),List.getElem?_eraseIdx]
theorem Ch.fall (h:Ch l) (hk:k<l.length) (h2:1<l.length):Ch (BT l k):=by
 have hle:=h.le;have hlen:=Io hk h2;have hnw:∀ i x,l[i]?=some x->i+1=k->DJ ⟨x.store,match l[k+1]? with | some y=>Dh x.store y.store | none => []⟩=true:=λi x hx hi=>by
  have hs:=h.store hx;cases hy:l[k+1]? with
  | none=>unfold DJ;rw[hs.1];rfl
  | some y =>have ht:=h.store hy;have h4:=N5 (s:=x.store) (t:=y.store) hs.2;unfold DJ;simp only;rw[hs.1,decide_eq_true (by omega),Yn,Yn,Ya];exact UZ hs.1 ht.1
 refine ⟨by omega,by omega,λi x hx=>?_,λi x y hx hy=>?_,λi x hx hi=>?_⟩
 ·rw[GT hk] at hx;split at hx
  ·rename_i hi
   rw[Yv] at hx;obtain ⟨z,hz,rfl⟩:=hx;exact hnw i z hz hi
  ·split at hx
   ·exact h.node i x hx
   ·exact h.node (i+1) x hx
 ·rw[GT hk] at hx hy;by_cases hi:i+1=k
  ·rw[if_pos hi,Yv] at hx;obtain ⟨z,hz,rfl⟩:=hx;rw[if_neg (by omega),if_neg (by omega)] at hy;have e:i+1+1=k+1:=by omega
   rw[e] at hy;simp only[hy];have hup:=h.up 2 i z y hz (by rw[show i+2=k+1 by omega];exact hy);exact TT (h.store hz).1 (h.store hy).1 hup
  ·rw[if_neg hi] at hx;by_cases hik:i<k
   ·rw[if_pos hik] at hx;by_cases hi2:i+1+1=k
    ·rw[if_pos hi2,Yv] at hy;obtain ⟨z,hz,rfl⟩:=hy;exact h.link i x z hx hz
    ·rw[if_neg hi2,if_pos (by omega)] at hy;exact h.link i x y hx hy
   ·rw[if_neg hik] at hx;rw[if_neg (by omega),if_neg (by omega)] at hy;exact h.link (i+1) x y hx hy
 ·rw[hlen] at hi;rw[GT hk] at hx;split at hx
  ·rename_i hi2
   rw[Yv] at hx;obtain ⟨z,hz,rfl⟩:=hx;rw[YM (by omega)]
  ·split at hx
   ·omega
   ·exact h.last (i+1) x hx (by omega)
theorem Ch.key (h:Ch l) (hz:l[i]?=some z) (hv:Cp v=true):∃ u,z.store[v.key.toNat]?=some u:=by have:=(Bt hv).1;have h4:=(h.store hz).2;exact ⟨_,CX (by omega)⟩
theorem G7 {j:Nat} (hz:l[j]?=some z) (hu:z.store[v.key.toNat]?=some u):Gh l j v=bif AQ u v then l.set j ⟨z.store.set v.key.toNat v,bif decide (j+1<l.length) then z.wait ++ [v] else z.wait⟩ else l:=by unfold Gh;rw[hz];simp only[hu]
theorem VK {j:Nat} (hp:1<=l.length) (hle:l.length<=4) (hno:∀ (i:Nat) (x:Node),l[i]?=some x->DJ x=true)
  (hli:∀ (i:Nat) (x y:Node),l[i]?=some x->l[i+1]?=some y->i+1≠j->Ec y.store x.wait=some x.store) (hla:∀ (i:Nat) (x:Node),l[i]?=some x->i+1=l.length->x.wait = [])
  (hz:l[j]?=some z) (hv:Cp v=true) (hr:z.wait.length<6) (hu:z.store[v.key.toNat]?=some u) (hl:AQ u v=true)
  (hpr:∀ (i:Nat) (x:Node),l[i]?=some x->i+1=j->Ec (z.store.set v.key.toNat v) x.wait=some x.store):Ch (Gh l j v):=by
 have hj:=(Ef hz).1;obtain ⟨n1,n2,n3⟩:=Bp (hno j z hz);rw[G7 hz hu,hl,cond_true];have hnz:DJ ⟨z.store.set v.key.toNat v,bif decide (j+1<l.length) then z.wait ++ [v] else z.wait⟩=true:=by
  unfold DJ;simp only;rw[P1 n1 hv];cases decide (j+1<l.length) with
  | false =>rw[cond_false,decide_eq_true (by omega),Yn,Yn,Ya];exact n3
  | true =>
   rw[cond_true,decide_eq_true (by simp;omega),Yn,Yn,Ya];intro w hw;rcases X0.1 hw with g | g
   ·exact n3 w g
   ·rw[Yj] at g;subst g;exact hv
 refine ⟨by simpa using hp,by simpa using hle,λi x hx=>?_,λi x y hx hy=>?_,λi x hx hi=>?_⟩
 ·by_cases hij:j=i
  ·subst hij;rw[X9 hj] at hx;injection hx with hx;subst hx;exact hnz
  ·rw[XZ hij] at hx;exact hno i x hx
 ·by_cases hij:j=i
  ·subst hij;rw[X9 hj] at hx;rw[XZ (by omega)] at hy;have hlt:=(Ef hy).1;injection hx with hx;subst hx;simp only[decide_eq_true hlt,cond_true];exact Mj (hli j z y hz hy (by omega)) hu hl
  ·rw[XZ hij] at hx;by_cases hij2:j=i+1
   ·subst hij2;rw[X9 hj] at hy;injection hy with hy;subst hy;exact hpr i x hx rfl
   ·rw[XZ hij2] at hy;exact hli i x y hx hy (λe=>hij2 e.symm)
 ·rw[YC] at hi;by_cases hij:j=i
  ·subst hij;rw[X9 hj] at hx;injection hx with hx;subst hx;rw[decide_eq_false (by omega),cond_false];exact hla j z hz hi
  ·rw[XZ hij] at hx;exact hla i x hx hi
theorem Ch.add (h:Ch l) (hv:Cp v=true) (hr:Fi l 0=true):Ch (Gh l 0 v):=by
 have hp:=h.pos;have hz:l[0]?=some (l[0]'(by omega)):=CX (by omega);rw[He (by omega),decide_eq_true_eq] at hr;obtain ⟨u,hu⟩:=h.key hz hv;cases hl:AQ u v with
 | false=>rw[G7 hz hu,hl,cond_false];exact h
 | true=>exact VK hp h.le h.node (λi x y hx hy _=>h.link i x y hx hy) h.last hz hv hr hu hl (λi x _ e=>by omega)
theorem Hf {k:Int} (hc:CB l k=true):∃ (f:Nat) (x y:Node) (v:Ver) (r:List Ver),k=(f:Int)/\l[f]?=some x/\l[f+1]?=some y/\x.wait=v :: r/\y.wait.length<6:=by
 simp only[CB,Ag,C3,decide_eq_true_eq] at hc;obtain ⟨⟨h1,h2⟩,h3⟩:=hc;have hf:k.toNat+1<l.length:=by omega
 rw[IQ (by omega),C3,decide_eq_true_eq,He hf,decide_eq_true_eq] at h3;refine ⟨k.toNat,l[k.toNat],l[k.toNat+1],?_⟩;cases hw:l[k.toNat].wait with
 | nil=>rw[hw] at h3;simp at h3
 | cons v r=>exact ⟨v,r,by omega,CX (by omega),CX hf,rfl,h3.2⟩
theorem Jk {f:Nat} (hx:l[f]?=some x) (hw:x.wait=v :: r):FM l f=Gh (l.set f ⟨x.store,r⟩) (f+1) v:=by unfold FM Gb;rw[hx];simp only[hw,List.getElem?_cons_zero,List.eraseIdx_cons_zero]
theorem Ch.pass (h:Ch l) {k:Int} (hc:CB l k=true):Ch (FM l k.toNat):=by
 obtain ⟨f,x,y,v,r,rfl,hx,hy,hw,hr⟩:=Hf hc;have hf:=(Ef hx).1;have hf1:=(Ef hy).1;obtain ⟨n1,n2,n3⟩:=Bp (h.node f x hx);have hlk:=h.link f x y hx hy;rw[hw] at hlk n2 n3;obtain ⟨u,hu,hl,hlk⟩:=fitsL_cons.1 hlk;rw[By,Jk hx hw];have hv:=n3 v (by simp);have get:∀ (i:Nat) (z:Node),(l.set f ⟨x.store,r⟩)[i]?=some z->(i=f/\z=⟨x.store,r⟩)\/(i≠f/\l[i]?=some z):=λi z hz=>by
  by_cases hi:f=i
  ·subst hi;rw[X9 hf] at hz;injection hz with hz;exact .inl ⟨rfl,hz.symm⟩
  ·rw[XZ hi] at hz;exact .inr ⟨λe=>hi e.symm,hz⟩
 refine VK (z:=y) (u:=u) (by simpa using h.pos) (by simpa using h.le) (λi z hz=>?_) (λi z w hz hw' hne=>?_) (λi z hz hi=>?_) (by rw[XZ (by omega)];exact hy) hv hr hu hl (λi z hz hi=>?_)
 ·rcases get i z hz with ⟨_,rfl⟩ | ⟨_,g⟩
  ·unfold DJ;simp only;simp only[YP] at n2;rw[n1,decide_eq_true (by omega),Yn,Yn,Ya];exact λw hw=>n3 w (by simp[hw])
  ·exact h.node i z g
 ·rcases get i z hz with ⟨rfl,_⟩ | ⟨_,g⟩
  ·exact absurd rfl hne
  ·rcases get (i+1) w hw' with ⟨e,rfl⟩ | ⟨_,g2⟩
   ·rw[e] at hw';exact h.link i z x g (by rw[e];exact hx)
   ·exact h.link i z w g g2
 ·rw[YC] at hi;rcases get i z hz with ⟨rfl,_⟩ | ⟨_,g⟩
  ·omega
  ·exact h.last i z g hi
 ·rcases get i z hz with ⟨_,rfl⟩ | ⟨g,_⟩
  ·exact hlk
  ·omega
end


variable {l:List Tag}{p:Place}{k:Int}{s:ByteArray}{T:Type}{K:V->Heap->Option T}
def AS (p:Place) (l:List Tag):Int:=EG (DY l) p.clock+1
def EN (p:Place) (k:Int) (s:ByteArray) (g:Bool) (l:List Tag):Ver:=⟨k,⟨AS p l,p.me⟩,l,s,g⟩
def FR (p:Place) (l:List Tag):Bool:=Ci l (Bh p.chain)&&(Fi p.chain 0&&(decide (AS p l<=999)&&decide ((p.log.length:Int)<36)))
def AT (p:Place) (k:Int) (s:ByteArray) (g:Bool) (l:List Tag):Bool:=Ag k 0 3&&(FH s&&((!g || Hh s)&&(BK l&&FR p l)))
def wrote (p:Place) (k:Int) (s:ByteArray) (g:Bool) (l:List Tag):Place×Tag:=bif Ap p then (bif AT p k s g l then (CJ (Gg p 0 (AS p l) (EN p k s g l)),⟨AS p l,p.me⟩) else (p,⟨0,0⟩)) else (WT,⟨0,0⟩)
theorem O0 {a c x:Int}:EG a c<x<->a<x/\c<x:=by unfold EG;split<;>omega
theorem Wb {A B:Int} (h:∀ x,A<x<->B<x):A=B:=by have h1:=(h (A+1)).1 (by omega);have h2:=(h (B+1)).2 (by omega);omega
theorem TL {c:Int} (hc:0<=c):l.foldl (λm t=>if t.time>m then t.time else m) c=EG (DY l) c:=by
 refine Wb λx=>?_;rw[O0,latest_lt,Mg];constructor
 ·rintro ⟨h1,h2⟩;exact ⟨⟨by omega,h2⟩,h1⟩
 ·rintro ⟨⟨_,h2⟩,h1⟩;exact ⟨h1,h2⟩
theorem TR (h:BK l=true):0<=DY l/\DY l<=999:=by
 have h1:DY l<1000:=latest_lt.2 ⟨by omega,λt ht=>by
  simp only[BK,C3,Ya] at h;have:=IO (h.2 t ht);omega⟩
 have h2:¬ DY l<0:=λh=>by have:=(latest_lt.1 h).1;omega
 omega
theorem I7 (hp:Ap p=true) (h:BK l=true):1<=AS p l/\AS p l<=1000/\DY l<AS p l/\p.clock<AS p l:=by have h1:=TR h;have h2:=(AE hp).2.1;unfold AS EG;split<;>omega
theorem FF {g:Bool} (h:AT p k s g l=true):(0<=k/\k<=3)/\FH s=true/\(g=true->Hh s=true)/\BK l=true/\Ci l (Bh p.chain)=true/\Fi p.chain 0=true/\AS p l<=999/\p.log.length<36:=by unfold AT FR at h;simp only[C3,YB,decide_eq_true_eq,Ag,YR] at h;obtain ⟨h1,h2,h3,h4,h5,h6,h7,h8⟩:=h;exact ⟨h1,h2,λhg=>h3.resolve_left (by rw[hg];simp),h4,h5,h6,h7,by omega⟩
theorem Qx {g:Bool} (hp:Ap p=true) (h:AT p k s g l=true):thin (EN p k s g l):=by obtain ⟨h1,h2,h3,h4,h5,h6,h7,h8⟩:=FF h;have g1:=Ds h4;have g2:=D7 h2;have g3:=I7 hp h4;have g4:=(AE hp).1;refine ⟨by show l.length<=4;omega,by show s.size<=8;omega,?_⟩;show BE (AS p l) p.me=true;unfold BE Ag;rw[decide_eq_true g3.1,decide_eq_true h7,decide_eq_true g4.1,decide_eq_true g4.2];simp
theorem VI {lo lo' e R bytes q:Nat}{a:Pq}{xs:List (List V)}{h:Heap}:CC lo e R bytes (.sl q a 0 (some 0)) xs h K=CC lo' e R bytes (.sl q a 0 (some 0)) xs h K:=by
 cases xs with
 | nil=>rfl
 | cons x xs =>
  cases a with
  | none=>rfl
  | some p =>
   obtain ⟨b,i⟩:=p;simp only[CC];have:Nat.ble (0+(x :: xs).length) 0=false:=by rw[YP,Yw];rfl
   rw[this]
section
variable {lo:Nat}{ro:Bool}{h:Heap}{F F' G:List Nat}{a a' av:Pq}{c c' cv:Nq}
theorem KB {a1 a2 a3:Pq}{c1 c2 c3:Nq} (hv:RTags ro h [.sl 2 av l.length cv] l G) (hok:Ap p=true) (hl:BK l=true) :
  Ae lo 205 [.agg (p.cs a1 c1 a2 c2 a3 c3),.agg [.sl 2 av l.length cv]] h=some (Iv (AS p l),h):=by
 have h4:=Ds hl;have hc:=(AE hok).2.1;refine Nn (h':=h) ?_;have loop:∀ m i x,m+i=4->(∀ y:Int,(l.drop i).foldl (λm t=>if t.time>m then t.time else m) x=y -> -9223372036854775808<=y+1/\y+1<=9223372036854775807)->BG (List.length h) x (i:Nat) av l.length cv h=some (Iv ((l.drop i).foldl (λm t=>if t.time>m then t.time else m) x+1),h):=by
  intro m;induction m with
  | zero =>intro i x hi hb;rw[YI (by omega)] at hb ⊢;have:=hb x rfl;rw[BG.e,Ao (by omega),wr (by omega) (by omega)];rfl
  | succ m ih =>
   intro i x hi hb;have hil:i<l.length:=by omega
   obtain ⟨o,ha,ho⟩:=hv.get hil;have ho1:ld h o.1 (o.2+i) 0 1=some [Iv l[i].time]:=by obtain ⟨o',row,G',h1,h2,⟨rfl,_⟩,_⟩:=hv.read hil;rw[ha] at h1;injection h1 with h1;subst h1;rw[h2];rfl
   rw[Yi hil,YL] at hb ⊢;rw[BG.e,Am (by omega),Ad hil,ha,Af,By,ho1,Af,Ab,Ai,Aa,Ad hil,Af,ho1,Af,Ab,Ai,Aa,Ay (show i<9223372036854775807 by omega),<- ha];by_cases ht:l[i].time>x
   ·rw[if_pos ht] at hb ⊢;rw[Am ht];exact ih (i+1) _ (by omega) hb
   ·rw[if_neg ht] at hb ⊢;rw[Ao ht];exact ih (i+1) _ (by omega) hb
 have hnf:∀ y,(l.drop 0).foldl (λm t=>if t.time>m then t.time else m) p.clock=y->y=EG (DY l) p.clock:=λy hy=>by rw[<- hy,YQ,TL hc.1]
 have hb:=I7 hok hl;have:=loop 4 0 p.clock rfl (λy hy=>by rw[hnf y hy];unfold AS at hb;omega);rw[hnf _ rfl] at this;exact this
theorem Ry {a1 a2 a3:Pq}{c1 c2 c3:Nq}{F1:List Nat} (hs1:RNodes ro h [.sl 2 a1 p.chain.length c1] p.chain F1) (hv:RTags ro h [.sl 2 av l.length cv] l G) (hok:Ap p=true) (hl:BK l=true) (hn:Hb p) :
  Ae lo 184 [.agg (p.cs a1 c1 a2 c2 a3 c3),.agg [.sl 2 av l.length cv]] h=some (.bool (FR p l),h):=by
 have h0:=EU hok;have hchain:=(AE hok).2.2.2.1;obtain ⟨v5,h5,F5,e5,r5,m5⟩:=ID (lo:=h.length) hs1 (X1 _) hn.1 h0;obtain ⟨a6,c6,e6,r6⟩:=r5.form;refine PJ (h':=h5) ?_;have en:=KB (lo:=h.length) (a1:=a1) (c1:=c1) (a2:=a2) (c2:=c2) (a3:=a3) (c3:=c3) (m5.keep0 rtags_ok hv) hok hl;simp only[Place.cs] at en;unfold FR;rw[e5,Ac,AW,Ab,e6,Ai,GE (m5.keep0 rtags_ok hv) r6 (Ds hl) (LE hchain),Ac,A2];cases Ci l (Bh p.chain) with
 | false=>rw[AC];rfl
 | true =>
 rw[Ax,KC (m5.keep0 rnodes_ok hs1) h0,Ac,A2];cases Fi p.chain 0 with
 | false=>rw[AC];rfl
 | true =>
 rw[Ax,en,Ac,Aa];cases decide (AS p l<=999) with
 | false=>rw[AC];rfl
 | true =>
 rw[Ax];cases decide ((p.log.length:Int)<36) with
 | false=>rw[AC];rfl
 | true=>rw[Ax];rfl
theorem Jd {g:Bool}{a1 a2 a3:Pq}{c1 c2 c3:Nq}{F1 F2 F3:List Nat} (hs1:RNodes false h [.sl 2 a1 p.chain.length c1] p.chain F1) (hs2:RVers false h [.sl 6 a2 p.log.length c2] p.log F2) (hs3:RVss false h [.sl 1 a3 p.got.length c3] p.got F3)
  (hv:RTags false h [.sl 2 av l.length cv] l G) (hok:Ap p=true) (hc:AT p k s g l=true) (hnd:(F1++(F2++F3)).Nodup) (hlo:∀ b∈F1++(F2++F3),lo<=b) (hl:lo<=h.length) :
  ∃ a2' c2' h' F',Ae lo 185 [.agg (p.cs a1 c1 a2 c2 a3 c3),Iv k,.str s,.bool g,.agg [.sl 2 av l.length cv]] h=some (.tup [.agg ((CJ (Gg p 0 (AS p l) (EN p k s g l))).cs a1 c1 a2' c2' a3 c3),.agg [Iv (AS p l),Iv p.me]],h') /\
   JK false h' ((CJ (Gg p 0 (AS p l) (EN p k s g l))).cs a1 c1 a2' c2' a3 c3) (CJ (Gg p 0 (AS p l) (EN p k s g l))) F'/\Mv h (F1++(F2++F3)) h' F':=by
 obtain ⟨g1,g2,g3,g4,g5,g6,g7,g8⟩:=FF hc;have h0:=EU hok;have hl4:=Ds g4;have hti:=Rr hok;obtain ⟨a5,c5,h5,F5,e5,r5,m5⟩:=GU (lo:=h.length) (h:=h) (l:=l) (X1 _) (by omega);rw[<- Yd] at hnd hlo ⊢;have hnd':=hnd;rw[X4] at hnd';have hdis:∀ y∈F3,y∉F1++F2:=λy hy hm=>hnd'.2.2 y hm y hy rfl;have hb12:∀ y∈F1++F2,y<h.length:=λy hy=>by rw[X0] at hy;exact hy.elim (rnodes_ok.bd _ _ _ _ hs1 y) (rvers_ok.bd _ _ _ _ hs2 y)
 obtain ⟨h6,a6,c6,h7,F6,F7,e6,e7,r6,r7,m7⟩:=Jf (lo:=lo) (v:=EN p k s g l) (k:=0) (t:=AS p l) (a3:=a3) (c3:=c3) (m5.keep0 rnodes_ok hs1) (m5.keep0 rvers_ok hs2) r5 (λy hy hm=>by
  have:=m5.new y hy;have:=hb12 y (by simp[hm]);omega) hnd'.1 (λy hy=>hlo y (by rw[X0];exact .inl hy)) (XX hl m5.le) h0 g1 hti (Qx hok hc)
 have hcs:(Gg p 0 (AS p l) (EN p k s g l)).cs a1 c1 a2 c2 a3 c3 = [Iv p.me,Iv (AS p l),.sl 2 a1 p.chain.length c1,.sl 6 a2 p.log.length c2,.sl 1 a3 p.got.length c3,.bool p.fell]:=by simp only[Place.cs,Gg,Ia]
 rw[hcs] at e7;have m5':Mv h (F1++F2) h5 (F1++F2):=(m5.drop.aside (G:=F1++F2) hnd'.1 hb12);have m8:=m5'.trans m7;have b3':∀ y∈F3,y<h.length:=rvss_ok.bd _ _ _ _ hs3;have m9:=m8.aside (G:=F3) hnd b3';have hs3':=m8.keep rvss_ok hs3 hdis;refine ⟨a6,c6,h7,F6++F7++F3,MG ?_,⟨_,_,_,_,_,_,rfl,_,_,_,F6,F7,F3,rfl,by rw[Yd],r6,r7,hs3'⟩,m9⟩;have en:=KB (lo:=h.length) (a1:=a1) (c1:=c1) (a2:=a2) (c2:=c2) (a3:=a3) (c3:=c3) hv hok g4;simp only[Place.cs] at en;have e6':Ae lo 193 [.agg [.sl 2 a1 p.chain.length c1],Iv 0,.agg [Iv k,Iv (AS p l),Iv p.me,.sl 2 a5 l.length c5,.str s,.bool g]] h5=some (.agg [.sl 2 a1 p.chain.length c1],h6):=e6;rw[en,Ac,Aa,RTags.rows (Mv.snoc.keep0 rtags_ok hv),VI (lo':=h.length),e5,Ah,e6',Ac,AW,Ab,Ah,Ai,e7,Ac,AW];simp only[Place.cs];rw[Ab,Aa,Ab,Aa,Ab,Ah,Ab,Ah,Ab,Ah,Ab,Bd,Ai]
end


variable {p:Place}{s:ByteArray}{l:List Tag}
theorem KX {k:Int}{g:Bool}:AT p k s g l=(Ll ⟨k,⟨0,0⟩,l,s,g⟩&&FR p l):=by unfold AT Ll;simp only[Bool.and_assoc]
theorem Ly {k:Int}{g:Bool} (h:Ap p=true):wrote p k s g l=bif AT p k s g l then (CJ (Gg p 0 (AS p l) (EN p k s g l)),⟨AS p l,p.me⟩) else (p,⟨0,0⟩):=by unfold wrote;rw[h,cond_true]
section
variable {lo:Nat}{h:Heap}{F F' G:List Nat}{a a' av:Pq}{c c' cv:Nq}
end


variable {p:Place}
def GR (p:Place) (f:Nat) (at':Int) (v:Ver):Bool := !((f:Int)==p.me)&&((at'==((HD p f).length:Int))&&(decide (((HD p f).length:Int)<60) && !Cv (HD p f) v.tag))
def Fa (p:Place) (f at':Int) (v:Ver):Bool:=Ag f 0 2&&(Cp v&&((v.tag.place==f)&&GR p f.toNat at' v))
def HC (p:Place) (f:Nat) (v:Ver):Place:=⟨p.me,p.clock,p.chain,p.log,p.got.set f (HD p f ++ [v]),p.fell⟩
def E7 (p:Place) (f at':Int) (v:Ver):Place:=bif Fa p f at' v then HC p f.toNat v else p
theorem Wc {f:Nat}{v:Ver}{a1 a2 a3:Pq}{c1 c2 c3:Nq}:(HC p f v).cs a1 c1 a2 c2 a3 c3=p.cs a1 c1 a2 c2 a3 c3:=by simp only[Place.cs,HC,YC]
section
variable {lo:Nat}{h:Heap}{F F' G:List Nat}{a a' av:Pq}{c c' cv:Nq}
theorem OM {f:Nat}{at':Int}{v:Ver}{a1 a2 a3:Pq}{c1 c2 c3:Nq}{F3:List Nat} (hs3:RVss false h [.sl 1 a3 p.got.length c3] p.got F3) (hv:RTags false h [.sl 2 av v.past.length cv] v.past G)
  (hf:f<p.got.length) (hgn:p.got[f].length<=1000000) (hvn:v.past.length<=1048576) (hnd:F3.Nodup) (hlo:∀ b∈F3,lo<=b) (hl:lo<=h.length) :
  ∃ h' F3',Ae lo 168 [.agg (p.cs a1 c1 a2 c2 a3 c3),Iv (f:Nat),Iv at',.agg (v.cs av cv)] h=some (.tup [.agg (p.cs a1 c1 a2 c2 a3 c3),.bool (GR p f at' v)],h') /\
   RVss false h' [.sl 1 a3 p.got.length c3] (bif GR p f at' v then p.got.set f (p.got[f] ++ [v]) else p.got) F3'/\Mv h F3 h' F3'/\(GR p f at' v=false->h'=h):=by
 suffices hq:∃ h' F3',_=some (V.tup [.agg (p.cs a1 c1 a2 c2 a3 c3),.bool (GR p f at' v)],h')/\RVss false h' [.sl 1 a3 p.got.length c3] (bif GR p f at' v then p.got.set f (p.got[f] ++ [v]) else p.got) F3'/\Mv h F3 h' F3'/\(GR p f at' v=false->h'=h) from hq.imp λh' hq=>hq.imp λF' hq=>⟨No hq.1,hq.2⟩
 have hh:GR p f at' v=(!((f:Int)==p.me)&&((at'==(p.got[f].length:Int))&&(decide ((p.got[f].length:Int)<60) && !Cv p.got[f] v.tag))):=by unfold GR;rw[GS hf]
 rw[hh];cases x1:((f:Int)==p.me) with
 | true=>rw[Ax];exact ⟨h,F3,rfl,hs3,Mv.refl hnd,λ_=>rfl⟩
 | false =>
 obtain ⟨b,i,rs,row,G0,ha,hbF,hbG,hb,hrow,hel,hGF,hGn,_,put⟩:=hs3.at rvers_ok hf hnd hlo;have hrs:∃ s,row = [s]:=by obtain ⟨R',a',c',e,_⟩:=id hel;exact ⟨_,e⟩
 obtain ⟨s,rfl⟩:=hrs;obtain ⟨b3,d3,es,r3⟩:=hel.form;have hld:ld h b (i+f) 0 1=some [s]:=by rw[Dg hb hrow];rfl
 rw[AC,Ad hf,ha,Af,By,hld,Af,Ab,Ai,es];cases x2:(at'==(p.got[f].length:Int)) with
 | false=>rw[AC];exact ⟨h,F3,rfl,by rw[<- ha];exact hs3,Mv.refl hnd,λ_=>rfl⟩
 | true =>
 have hat:at'=(p.got[f].length:Int):=by rwa [beq_iff_eq] at x2
 rw[Ax];cases x3:decide ((p.got[f].length:Int)<60) with
 | false =>
  have:(p.got[f].length:Int)>=60:=by have:=of_decide_eq_false x3;omega
  rw[Am (by omega)];exact ⟨h,F3,rfl,by rw[<- ha];exact hs3,Mv.refl hnd,λ_=>rfl⟩
 | true =>
 have:(p.got[f].length:Int)<60:=of_decide_eq_true x3;rw[Ao (by omega),Ad hf,Af,hld,Af,Ab,Ai,es,IC r3 (by omega),Ac,A2];have hht:Cv p.got[f] ⟨v.tag.time,v.tag.place⟩=Cv p.got[f] v.tag:=rfl;rw[hht];cases x4:Cv p.got[f] v.tag with
 | true=>rw[Ax];exact ⟨h,F3,rfl,by rw[<- ha];exact hs3,Mv.refl hnd,λ_=>rfl⟩
 | false =>
 obtain ⟨a5,c5,h5,F5,e5,r5,m5⟩:=BQ (lo:=h.length) (v:=v) hv (X1 _) hvn;obtain ⟨a6,c6,h6,F6,e6,r6,m6⟩:=Ek (lo:=lo) (bytes:=72) (e:=49) rver_ok r3 (row:=v.cs a5 c5) (x:=v) (G:=F5) (h1:=h5 ++ [.rows 6 49 false [v.cs a5 c5]])
  ⟨_,rfl,Mv.snoc.keep0 rtags_ok r5⟩ (m5.trans (Mv.snoc' m5.nd)) hGn (λy hy=>hlo y (hGF y hy)) hl (by decide) (by omega)
 rw[show p.got[f].length+1=(p.got[f] ++ [v]).length by simp] at r6;obtain ⟨h7,F7,e7,r7,m7,_⟩:=put h6 F6 0 [.sl 6 a6 (p.got[f] ++ [v]).length c6] [.sl 6 a6 (p.got[f] ++ [v]).length c6] (p.got[f] ++ [v]) m6 rfl r6;rw[show (p.got[f] ++ [v]).length=p.got[f].length+1 by simp] at e7;rw[AC,Ad hf,Af,hld,Af,Ab,Ai,es,e5,Ac,AW,Ab,Aa,Ab,Aa,Ab,Aa,Ab,Ah,Ab,Dw,Ab,Bd,Ai,Bn];simp only[Ver.cs] at e6;rw[e6,Ah,Ad hf,Af,e7,Af];exact ⟨h7,F7,rfl,by rw[<- ha];exact r7,m7,λg=>by cases g⟩
end


variable {c t:Int}{s:ByteArray}{i:Nat}{x:Node}{k m:Int}
theorem FU {a b d:Int}:Fz a b c d=false<->¬ (a<c\/(a=c/\b<d)):=by rw[<- Bool.not_eq_true];simp[Fz]
theorem under_iff {p q:List Tag}:Ci p q=true<->∀ (i:Nat) (a b:Tag),p[i]?=some a->q[i]?=some b->Fz b.time b.place a.time a.place=false:=by
 unfold Ci;rw[Ya];constructor
 ·intro h i a b ha hb;have:=h (a,b) (Yf.2 ⟨i,Zu.2 ⟨ha,hb⟩⟩);simpa using this
 ·rintro h ⟨a,b⟩ hm
  obtain ⟨i,hi⟩:=Yf.1 hm;rw[Zu] at hi;simpa using h i a b hi.1 hi.2
theorem Dn {p:List Tag}:Ci p p=true:=under_iff.2 λi a b ha hb=>by rw[ha] at hb;injection hb with hb;subst hb;rw[FU];omega
theorem Kx {p q r:List Tag} (hl:p.length<=q.length) (h1:Ci p q=true) (h2:Ci q r=true):Ci p r=true:=under_iff.2 λi a c ha hc=>by have hi:=(Ef ha).1;have hb:=CX (l:=q) (i:=i) (by omega);have x1:=under_iff.1 h1 i a _ ha hb;have x2:=under_iff.1 h2 i _ c hb hc;rw[FU] at x1 x2 ⊢;omega
theorem JT {t s:List Ver} (h:upS t s):Ci (A5 t) (A5 s)=true:=under_iff.2 λi a b ha hb=>by
 unfold A5 at ha hb;rw[Zd,Yv] at ha hb;obtain ⟨x,hx,rfl⟩:=ha;obtain ⟨y,hy,rfl⟩:=hb;rw[FU];rcases h i x y hx hy with rfl | g
 ·omega
 ·rw[In] at g;omega
def inCh (l:List Node) (v:Ver):Prop:=∃ x∈l,v∈x.store\/v∈x.wait
section
variable {l:List Node}{v:Ver}
theorem inCh.get (h:inCh l v):∃ (i:Nat) (x:Node),l[i]?=some x/\(v∈x.store\/v∈x.wait):=by obtain ⟨x,hx,hv⟩:=h;obtain ⟨i,hi⟩:=Yf.1 hx;exact ⟨i,x,hi,hv⟩
theorem inCh.of (hx:l[i]?=some x) (hv:v∈x.store\/v∈x.wait):inCh l v:=⟨x,X8 hx,hv⟩
theorem Ch.ver (h:Ch l) (hv:inCh l v) (ht:0<v.tag.time):Cp v=true:=by
 obtain ⟨i,x,hx,g | g⟩:=hv.get
 ·obtain ⟨j,hj⟩:=Yf.1 g;rcases DW (GJ (h.store hx).1 hj) with g2 | g2
  ·have:=(GG g2).1;omega
  ·exact g2.1
 ·exact (Bp (h.node i x hx)).2.2 v g
theorem Cs (hx:l[i]?=some x) (hi:i+1=l.length):Bh l=A5 x.store:=by
 rw[Jr (show 0<l.length by omega)];obtain ⟨hj,rfl⟩:=Ef hx;have e:l.length - 1=i:=by omega
 simp only[e]
theorem FC (hx:l[i]?=some x) (hi:i+1=l.length):DK l=x.store:=by
 rw[EP (show 0<l.length by omega)];obtain ⟨hj,rfl⟩:=Ef hx;have e:l.length - 1=i:=by omega
 simp only[e]
theorem Ch.tail (h:Ch l):∃ z,l[l.length - 1]?=some z/\l.length - 1+1=l.length:=by have:=h.pos;exact ⟨_,CX (by omega),by omega⟩
theorem Ch.four (h:Ch l):(Bh l).length=4/\(DK l).length=4:=by obtain ⟨z,hz,hi⟩:=h.tail;rw[Cs hz hi,FC hz hi];have:=(h.store hz).2;exact ⟨by simpa [A5] using this,this⟩
theorem N9 (h:Ch l):(Gr l).length=l.length+1/\Bh (Gr l)=Bh l/\DK (Gr l)=DK l/\(Gr l)[0]?=l[0]?:=by
 have hp:=h.pos;obtain ⟨z,hz,hi⟩:=h.tail;obtain ⟨hj,e⟩:=Ef hz;have hn:(Gr l)[l.length]?=some ⟨z.store,[]⟩:=by rw[EQ (by omega),Yh (X1 _),Zs,e];rfl
 have hl:(Gr l).length=l.length+1:=by rw[EQ (by omega)];simp
 refine ⟨hl,?_,?_,?_⟩
 ·rw[Cs hn (by omega),Cs hz hi]
 ·rw[FC hn (by omega),FC hz hi]
 ·rw[EQ (by omega),X2 (by omega)]
theorem Od (hp:1<=l.length) (hv:inCh (Gr l) v):inCh l v:=by
 rw[EQ (by omega)] at hv;obtain ⟨x,hx,g⟩:=hv;rcases X0.1 hx with hx | hx
 ·exact ⟨x,hx,g⟩
 ·rw[Yj] at hx;subst hx;rcases g with g | g
  ·exact ⟨_,X3 (by omega),.inl g⟩
  ·exact absurd g (by simp)
theorem Oe {k:Nat} (hk:k<l.length) (hv:inCh (BT l k) v):inCh l v:=by
 obtain ⟨i,x,hx,g⟩:=hv.get;rw[GT hk] at hx;split at hx
 ·rw[Yv] at hx;obtain ⟨z,hz,rfl⟩:=hx;rcases g with g | g
  ·exact .of hz (.inl g)
  ·simp only at g;split at g
   ·exact .of hz (.inl (J3 g))
   ·simp at g
 ·split at hx
  ·exact .of hx g
  ·exact .of hx g
theorem Jw {j:Nat}{u:Ver} (hv:inCh (Gh l j u) v):inCh l v\/v=u:=by
 unfold Gh at hv;split at hv
 ·rename_i x hx
  split at hv
  ·rename_i w hw
   cases hl:AQ w u with
   | false=>rw[hl] at hv;exact .inl hv
   | true =>
    rw[hl,cond_true] at hv;obtain ⟨y,hy,g⟩:=hv;rcases Yo hy with hy | rfl
    ·exact .inl ⟨y,hy,g⟩
    ·rcases g with g | g
     ·rcases Yo g with g | rfl
      ·exact .inl (.of hx (.inl g))
      ·exact .inr rfl
     ·simp only at g;cases hd:decide (j+1<l.length) with
      | false=>rw[hd] at g;exact .inl (.of hx (.inr g))
      | true =>
       rw[hd,cond_true] at g;rcases X0.1 g with g | g
       ·exact .inl (.of hx (.inr g))
       ·exact .inr (by simpa using g)
  ·exact .inl hv
 ·exact .inl hv
theorem Oc (hc:CB l k=true) (hv:inCh (FM l k.toNat) v):inCh l v:=by
 obtain ⟨f,x,y,u,r,rfl,hx,hy,hw,hr⟩:=Hf hc;rw[By,Jk hx hw] at hv;rcases Jw hv with ⟨z,hz,g⟩ | rfl
 ·rcases Yo hz with hz | rfl
  ·exact ⟨z,hz,g⟩
  ·rcases g with g | g
   ·exact .of hx (.inl g)
   ·exact .of hx (.inr (by rw[hw];simp only at g;simp[g]))
 ·exact .of hx (.inr (by rw[hw];simp))
theorem MB (h:Ch l):HZ l=true<->∀ v,inCh l v->0<v.tag.time->Ci v.past (Bh l)=true:=by
 unfold HZ LX;rw[Ya];constructor
 ·rintro hc v ⟨x,hx,g⟩ ht
  have:=hc x hx;rw[C3,Ya,Ya] at this;rcases g with g | g
  ·have:=this.1 v g;rw[YB,YR,decide_eq_false_iff_not] at this;exact this.resolve_left λhn=>hn ht
  ·exact this.2 v g
 ·intro hc x hx;rw[C3,Ya,Ya];refine ⟨λv hv=>?_,λv hv=>?_⟩
  ·by_cases ht:v.tag.time>0
   ·rw[hc v ⟨x,hx,.inl hv⟩ ht,Bool.or_true]
   ·rw[decide_eq_false ht];rfl
  ·obtain ⟨i,hi⟩:=Yf.1 hx;exact hc v ⟨x,hx,.inr hv⟩ (Ro ((Bp (h.node i x hi)).2.2 v hv))
theorem Es (hx:l[0]?=some x):ET l c=true<->∀ v∈x.store,v.tag.time<=c:=by unfold ET;rw[hx];simp
theorem QV (h:Ch l) {k:Nat} (hk:k<l.length) (h2:1<l.length):Ci (Bh l) (Bh (BT l k))=true:=by
 have hlen:=Io hk h2;obtain ⟨z,hz,hi⟩:=h.tail;obtain ⟨z',hz',hi'⟩:=(h.fall hk h2).tail;rw[Cs hz hi,Cs hz' hi'];rw[GT hk] at hz';split at hz'
 ·rename_i e
  rw[Yv] at hz';obtain ⟨w,hw,rfl⟩:=hz';exact JT (h.up 1 _ w z hw (by rw[show (BT l k).length - 1+1=l.length - 1 by omega];exact hz))
 ·rename_i e
  split at hz'
  ·omega
  ·rw[show (BT l k).length - 1+1=l.length - 1 by omega,hz] at hz';injection hz' with hz';subst hz';exact Dn
theorem SA (h:Ch l) (hv:Cp v=true):Ci (Bh l) (Bh (Gh l 0 v))=true:=by
 have hp:=h.pos;have hz:l[0]?=some (l[0]'(by omega)):=CX (by omega);obtain ⟨u,hu⟩:=h.key hz hv;rw[G7 hz hu];cases hl:AQ u v with
 | false=>exact Dn
 | true =>
  rw[cond_true];by_cases h1:l.length=1
  ·rw[Cs hz (by omega),Cs (i:=0) (X9 (by omega)) (by simpa using h1.symm)];exact JT (upS.set hu hl)
  ·obtain ⟨z,hz',hi⟩:=h.tail;rw[Cs hz' hi,Cs (i:=l.length - 1) (by rw[XZ (by omega)];exact hz') (by simpa using hi)];exact Dn
theorem Qt (h:Ch l) (hc:CB l k=true):Ci (Bh l) (Bh (FM l k.toNat))=true:=by
 obtain ⟨f,x,y,v,r,rfl,hx,hy,hw,hr⟩:=Hf hc;have hlk:=h.link f x y hx hy;rw[hw] at hlk;obtain ⟨u,hu,hl,_⟩:=fitsL_cons.1 hlk;have hf1:=(Ef hy).1;obtain ⟨z,hz,hi⟩:=h.tail;have hy':(l.set f ⟨x.store,r⟩)[f+1]?=some y:=by rw[XZ (by omega)];exact hy
 rw[By,Jk hx hw,G7 hy' hu,hl,cond_true,Cs hz hi];by_cases he:f+1=l.length - 1
 ·rw[he,hz] at hy;injection hy with hy;subst hy;rw[Cs (i:=f+1) (X9 (by simpa using hf1)) (by simp;omega)];exact JT (upS.set hu hl)
 ·rw[Cs (i:=l.length - 1) (x:=z) (by rw[XZ (by omega),XZ (by omega)];exact hz) (by simpa using hi)];exact Dn
theorem Ur {t s:List Ver} (h:upS t s) (hl:t.length<=s.length) (hs:∀ v∈s,v.tag.time<=c):∀ v∈t,v.tag.time<=c:=λv hv=>by
 obtain ⟨i,hi⟩:=Yf.1 hv;have hlt:=(Ef hi).1;have hy:=CX (l:=s) (i:=i) (by omega);have:=hs _ (X3 (show i<s.length by omega));rcases h i v _ hi hy with rfl | g
 ·exact this
 ·rw[In] at g;omega
theorem T4 (h:Ch l) {k:Nat} (hk:k<l.length) (h2:1<l.length) (hh:ET l c=true):ET (BT l k) c=true:=by
 have hlen:=Io hk h2;have h0:l[0]?=some (l[0]'(by omega)):=CX (by omega);have h1:l[1]?=some (l[1]'(by omega)):=CX (by omega);have hh0:=(Es h0).1 hh;have hx:(BT l k)[0]?=some ((BT l k)[0]'(by omega)):=CX (by omega);rw[Es hx];rw[GT hk] at hx;split at hx
 ·rw[h0,Y0] at hx;injection hx with hx;rw[<- hx];exact hh0
 ·split at hx
  ·rw[h0] at hx;injection hx with hx;rw[<- hx];exact hh0
  ·rw[Yw,h1] at hx;injection hx with hx;rw[<- hx];exact Ur (h.up 1 0 _ _ h0 h1) (by rw[(h.store h0).2,(h.store h1).2];exact X1 _) hh0
theorem VJ (h:Ch l) (hv:Cp v=true) (hh:ET l c=true) (hc:c<=t) (hvt:v.tag.time<=t):ET (Gh l 0 v) t=true:=by
 have hp:=h.pos;have hz:l[0]?=some (l[0]'(by omega)):=CX (by omega);obtain ⟨u,hu⟩:=h.key hz hv;have hh0:=(Es hz).1 hh;rw[G7 hz hu];cases hl:AQ u v with
 | false=>rw[cond_false,Es hz];exact λw hw=>by have:=hh0 w hw;omega
 | true =>
  rw[cond_true,Es (X9 (by omega))];intro w hw;rcases Yo hw with hw | rfl
  ·have:=hh0 w hw;omega
  ·exact hvt
theorem TD (h:Ch l) (hc:CB l k=true) (hh:ET l c=true):ET (FM l k.toNat) c=true:=by
 obtain ⟨f,x,y,v,r,rfl,hx,hy,hw,hr⟩:=Hf hc;have hlk:=h.link f x y hx hy;rw[hw] at hlk;obtain ⟨u,hu,hl,_⟩:=fitsL_cons.1 hlk;have hf:=(Ef hx).1;have hy':(l.set f ⟨x.store,r⟩)[f+1]?=some y:=by rw[XZ (by omega)];exact hy
 rw[By,Jk hx hw,G7 hy' hu,hl,cond_true];by_cases h0:f=0
 ·subst h0;rw[Es (x:=⟨x.store,r⟩) (by rw[XZ (by omega),X9 hf])];exact (Es hx).1 hh
 ·have hz:l[0]?=some (l[0]'(by omega)):=CX (by omega);rw[Es (x:=l[0]'(by omega)) (by rw[XZ (by omega),XZ (by omega)];exact hz)];exact (Es hz).1 hh
end
theorem UO {p:Place} (h1:0<=p.me/\p.me<=2) (h2:0<=p.clock/\p.clock<=999) (h3:p.got.length=3) (h4:Ey p.chain=true) (h5:HZ p.chain=true) (h6:FT p.me p.log=true)
  (h7:∀ i (hi:i<p.got.length),Mf p.me i p.got[i]=true) (h8:ET p.chain p.clock=true):Ap p=true:=by
 unfold Ap;simp only[C3,Ge,decide_eq_true_eq,Ag];exact ⟨⟨⟨⟨⟨⟨⟨h1,h2⟩,h3⟩,h4⟩,h5⟩,h6⟩,h7⟩,h8⟩
theorem W6 {l:List Ver} (h1:l.length<=60) (h2:∀ i (hi:i<l.length),Cp l[i]=true/\l[i].tag.place=m/\Cv (l.take i) l[i].tag=false):FT m l=true:=by unfold FT;rw[C3,Ge,decide_eq_true_eq];refine ⟨λi hi=>?_,by omega⟩;obtain ⟨g1,g2,g3⟩:=h2 i hi;unfold UW;rw[g1,g2,g3];simp
theorem QE {l:List Ver}{v:Ver} (h:FT m l=true) (hv:Cp v=true) (hp:v.tag.place=m) (ht:Cv l v.tag=false) (hl:l.length<60):FT m (l ++ [v])=true:=by
 obtain ⟨h1,h2⟩:=FB h;refine W6 (by simp;omega) λi hi=>?_;by_cases hil:i<l.length
 ·rw[List.getElem_append_left hil,List.take_append_of_le_length (by omega)];exact h2 i hil
 ·have e:i=l.length:=by simp at hi;omega
  subst e;rw[List.getElem_append_right (X1 _),List.take_append_of_le_length (X1 _),List.take_length];simp only[Zs,List.getElem_cons_zero];exact ⟨hv,hp,ht⟩
theorem N1 {m:Int}:∀ {vs l:List Ver},(∀ v∈vs,0<v.tag.time->Cp v=true)->FT m l=true->l.length+vs.length<=60->FT m (vs.foldl (noted m) l)=true
 | [],l,_,h,_=>h
 | v :: vs,l,hv,h,hl=>by
  rw[YP] at hl;rw[YL];have h3:=TK (me:=m) (log:=l) (v:=v);refine N1 (λw hw=>hv w (by simp[hw])) ?_ (by omega);unfold noted;cases hc:(decide (v.tag.time>0)&&(v.tag.place==m && !Cv l v.tag)) with
  | false=>exact h
  | true =>simp only[C3,decide_eq_true_eq,beq_iff_eq,YR] at hc;exact QE h (hv v (by simp) hc.1) hc.2.1 hc.2.2 (by omega)
theorem hasTag_mem {l:List Ver}{t:Tag}:Cv l t=true<->∃ v∈l,v.tag=t:=by
 unfold Cv;rw[List.any_eq_true];constructor
 ·rintro ⟨v,hv,g⟩
  rw[C3,beq_iff_eq,beq_iff_eq] at g;exact ⟨v,hv,by cases hv:v.tag;cases t;simp_all⟩
 ·rintro ⟨v,hv,rfl⟩
  exact ⟨v,hv,by simp⟩
theorem JY {m:Int}:∀ {vs l:List Ver},(∀ v∈vs,0<v.tag.time->v.tag.place=m->Cv (vs.foldl (noted m) l) v.tag=true)/\∃ r,vs.foldl (noted m) l=l++r
 | [],l=>⟨by simp,[],by simp⟩
 | v :: vs,l=>by
  obtain ⟨h1,r,h2⟩:=JY (m:=m) (vs:=vs) (l:=noted m l v);rw[YL];have hr:∃ r',noted m l v=l++r':=by
   unfold noted;cases decide (v.tag.time>0)&&(v.tag.place==m && !Cv l v.tag)
   ·exact ⟨[],by simp⟩
   ·exact ⟨[v],rfl⟩
  obtain ⟨r',hr'⟩:=hr;refine ⟨λw hw ht hp=>?_,r'++r,by rw[h2,hr',Yd]⟩;rcases Ye.1 hw with rfl | hw
  ·have hx:Cv (noted m l w) w.tag=true:=by
    unfold noted;rw[decide_eq_true ht,hp,Re,Yn,Yn];cases hc:Cv l w.tag with
    | true=>exact hc
    | false=>exact hasTag_mem.2 ⟨w,by simp,rfl⟩
   obtain ⟨u,hu,e⟩:=hasTag_mem.1 hx;rw[h2];exact hasTag_mem.2 ⟨u,YG _ hu,e⟩
  ·exact h1 w hw ht hp
section
variable {p:Place}
theorem GN (h:Ap p=true):Ch p.chain:=chain_iff.1 (AE h).2.2.2.1
theorem UY (h:Ch p.chain):∀ v∈DK p.chain,0<v.tag.time->Cp v=true:=λv hv ht=>by obtain ⟨z,hz,hi⟩:=h.tail;rw[FC hz hi] at hv;exact h.ver (.of hz (.inl hv)) ht
theorem Lq (h:Ap p=true) (hl:p.log.length<=56):Ap (CJ p)=true:=by have hc:=GN h;obtain ⟨h1,h2,h3,h4,h5,h6,h7,h8⟩:=AE h;exact UO (p:=CJ p) h1 h2 h3 h4 h5 (N1 (UY hc) h6 (by have:=hc.four.2;omega)) h7 h8
theorem Jl {l':List Node}{f:Bool} (h:Ap p=true) (hc:Ch l') (hv:∀ v,inCh l' v->0<v.tag.time->inCh p.chain v\/Ci v.past (Bh p.chain)=true)
  (hs:Ci (Bh p.chain) (Bh l')=true) (ht:0<=t/\t<=999) (hh:ET l' t=true):Ap ⟨p.me,t,l',p.log,p.got,f⟩=true:=by
 have hc0:=GN h;obtain ⟨h1,h2,h3,h4,h5,h6,h7,h8⟩:=AE h;refine UO (p:=⟨p.me,t,l',p.log,p.got,f⟩) h1 ht h3 (chain_iff.2 hc) ((MB hc).2 λv hvc hvt=>?_) h6 h7 hh;have hpl:=Ds (Bt (hc.ver hvc hvt)).2.2.2.1;refine Kx (by rw[hpl,hc0.four.1];exact X1 _) ?_ hs;rcases hv v hvc hvt with g | g
 ·exact (MB hc0).1 h5 v g hvt
 ·exact g
theorem V2 (h:Ap p=true):Ap (Jt p)=true:=by
 have hc:=GN h;have hp:=hc.pos;unfold Jt If;cases hj:Ez p.chain with
 | false=>rw[cond_false];exact h
 | true =>
  have hl:p.chain.length<4:=by unfold Ez at hj;have:=of_decide_eq_true hj;omega
  obtain ⟨_,e1,e2,e3⟩:=N9 hc;have h8:=(AE h).2.2.2.2.2.2.2;rw[cond_true];refine Jl h (hc.join hl) (λv hv _ => .inl (Od hp hv)) (by rw[e1];exact Dn) (AE h).2.1 ?_;unfold ET at h8 ⊢;rw[e3];exact h8
theorem Ml {l:List Node} (h:GV l k=true):∃ f:Nat,k=(f:Int)/\f<l.length/\1<l.length:=by simp only[GV,Ag,C3,decide_eq_true_eq] at h;exact ⟨k.toNat,by omega,by omega,h.2⟩
theorem V4 (h:Ap p=true) (hl:p.log.length<=56):Ap (DT p k)=true:=by
 have hc:=GN h;unfold DT;cases hf:Dk p k with
 | false=>exact h
 | true =>unfold Dk at hf;rw[C3] at hf;obtain ⟨f,rfl,h1,h2⟩:=Ml hf.2;rw[cond_true,By];refine Lq ?_ hl;exact Jl h (hc.fall h1 h2) (λv hv _ => .inl (Oe h1 hv)) (QV hc h1 h2) (AE h).2.1 (T4 hc h1 h2 (AE h).2.2.2.2.2.2.2)
theorem V1 (h:Ap p=true) (hl:p.log.length<=56):Ap (DS p k)=true:=by
 have hc:=GN h;unfold DS;cases hf:CB p.chain k with
 | false=>exact h
 | true =>rw[cond_true];refine Lq ?_ hl;exact Jl h (hc.pass hf) (λv hv _ => .inl (Oc hf hv)) (Qt hc hf) (AE h).2.1 (TD hc hf (AE h).2.2.2.2.2.2.2)
theorem UP {v:Ver} (h:Ap p=true) (hv:Cp v=true) (hr:Fi p.chain 0=true) (hu:Ci v.past (Bh p.chain)=true) (h1:p.clock<=t) (h2:v.tag.time<=t) (h3:t<=999):Ap (Gg p 0 t v)=true:=by have hc:=GN h;have hcl:=(AE h).2.1;exact Jl h (hc.add hv hr) (λw hw _=>(Jw hw).imp id λe=>by rw[e];exact hu) (SA hc hv) ⟨by omega,h3⟩ (VJ hc hv (AE h).2.2.2.2.2.2.2 h1 h2)
theorem UR:t<=EG t c/\c<=EG t c/\(EG t c=t\/EG t c=c):=by unfold EG;split<;>omega
theorem QG {f:Nat}{v:Ver} (h:Ap p=true) (hv:Hn p f=some v):Cp v=true/\v.tag.place=(f:Int)/\(f:Int)≠p.me/\f<3:=by
 unfold Hn at hv;have hm:=List.mem_of_find?_eq_some hv;unfold HD at hm;have h3:=(AE h).2.2.1;cases hg:p.got[f]? with
 | none=>rw[hg] at hm;simp at hm
 | some l =>rw[hg] at hm;simp only at hm;obtain ⟨hf,rfl⟩:=Ef hg;have g:=(AE h).2.2.2.2.2.2.1 f hf;unfold Mf at g;rw[C3] at g;obtain ⟨i,hi,rfl⟩:=YH.1 hm;obtain ⟨q1,q2,_⟩:=(FB g.1).2 i hi;refine ⟨q1,q2,λe=>?_,by omega⟩;have:=g.2;rw[e,Re,Y1,Y3,decide_eq_true_eq] at this;omega
theorem V0 (h:Ap p=true) (hl:p.log.length<=56):Ap (DR p k)=true:=by
 unfold DR;cases hk:Dj p k with
 | false=>exact h
 | true =>
  rw[cond_true];unfold Dj at hk;rw[C3] at hk;have hk:=hk.2;unfold I9 at hk;unfold Ja;cases hv:Hn p k.toNat with
  | none=>exact h
  | some v =>rw[hv] at hk;simp only[C3] at hk;obtain ⟨v1,v2,v3,v4⟩:=QG h hv;have:=IO (Bt v1).2.2.2.2.1;have hcl:=(AE h).2.1;have hn:=UR (t:=v.tag.time) (c:=p.clock);exact Lq (UP h v1 hk.1 hk.2 hn.2.1 hn.1 (by omega)) hl
theorem NZ {g:Bool}{l:List Tag} (h:Ap p=true) (hc:AT p k s g l=true):Cp (EN p k s g l)=true:=by
 rw[KX,C3] at hc;have hm:=hc.2;obtain ⟨h1,h2,h3,h4,h5,h6,h7,h8⟩:=FF (by rw[KX,hc.1,hc.2];rfl:AT p k s g l=true);have ht:=I7 h h4;have hme:=(AE h).1;unfold Cp;rw[C3,C3];refine ⟨⟨hc.1,?_⟩,?_⟩
 ·show BE (AS p l) p.me=true;simp[BE,Ag];omega
 ·show decide (DY l<AS p l)=true;exact decide_eq_true (by omega)
theorem UN {g:Bool}{l:List Tag} (h:Ap p=true):Ap (wrote p k s g l).1=true:=by
 rw[Ly h];cases hc:AT p k s g l with
 | false=>exact h
 | true =>obtain ⟨h1,h2,h3,h4,h5,h6,h7,h8⟩:=FF hc;have ht:=I7 h h4;exact Lq (UP h (NZ h hc) h6 h5 (by omega) (Int.le_refl _) h7) (by show p.log.length<=56;omega)
theorem V3 {f a:Int}{v:Ver} (h:Ap p=true):Ap (E7 p f a v)=true:=by
 unfold E7;cases hc:Fa p f a v with
 | false=>exact h
 | true =>
  simp only[Fa,GR,Ag,C3,decide_eq_true_eq,beq_iff_eq,YR] at hc;obtain ⟨⟨h1,h2⟩,h3,h4,h5,h6,h7,h8⟩:=hc;obtain ⟨q1,q2,q3,q4,q5,q6,q7,q8⟩:=AE h;have hf:f.toNat<p.got.length:=by omega
  have e:((f.toNat:Nat):Int)=f:=by omega
  rw[cond_true];refine UO (p:=HC p f.toNat v) q1 q2 (by simpa [HC] using q3) q4 q5 q6 (λi hi=>?_) q8;have hi':i<p.got.length:=by simpa [HC] using hi
  show Mf p.me i ((p.got.set f.toNat (HD p f.toNat ++ [v]))[i]'(by simpa using hi'))=true;rw[List.getElem_set];split
  ·rename_i ei
   subst ei;rw[GS hf] at h7 h8 ⊢;unfold Mf;rw[QE (O8 h hf) h3 (by omega) h8 (by omega),Yn];rw[beq_eq_false_iff_ne] at h5;rw[beq_eq_false_iff_ne.2 h5];rfl
  ·exact q7 i hi'
end


structure Sess where
 place:Int
 past:List Tag
 wait:Tag
 key:Int
structure Done where
 sess:Int
 kind:Int
 key:Int
 tag:Tag
structure World where
 places:List Place
 sess:List Sess
 net:List Frame
 hist:List Done
abbrev Vm (ro:Bool):Nat:=bif ro then 0 else 60
abbrev JD (ro:Bool):Nat:=bif ro then 0 else 72
abbrev Vp (ro:Bool):Nat:=bif ro then 0 else 91
abbrev WQ (ro:Bool):Nat:=bif ro then 0 else 32
abbrev Sess.cs (s:Sess) (a:Pq) (c:Nq):List V := [Iv s.place,.sl 2 a s.past.length c,Iv s.wait.time,Iv s.wait.place,Iv s.key]
abbrev Done.cs (d:Done):List V := [Iv d.sess,Iv d.kind,Iv d.key,Iv d.tag.time,Iv d.tag.place]
abbrev World.cs (w:World) (a1:Pq) (c1:Nq) (a2:Pq) (c2:Nq) (a3:Pq) (c3:Nq) (a4:Pq) (c4:Nq):List V :=
 [.sl 6 a1 w.places.length c1,.sl 5 a2 w.sess.length c2,.sl 9 a3 w.net.length c3,.sl 5 a4 w.hist.length c4]
abbrev RPlaces (ro:Bool):Rel (List Place):=Sli ro 6 (Vm ro) (RPlace ro)
def RSess (ro:Bool):Rel Sess:=λh cs s F=>∃ v,cs = [Iv s.place,v,Iv s.wait.time,Iv s.wait.place,Iv s.key]/\RTags ro h [v] s.past F
abbrev RSesss (ro:Bool):Rel (List Sess):=Sli ro 5 (JD ro) (RSess ro)
abbrev RFrames (ro:Bool):Rel (List Frame):=Sli ro 9 (Vp ro) (SD ro)
abbrev RDones (ro:Bool):Rel (List Done):=Sli ro 5 (WQ ro) (flat Done.cs)
def PD (ro:Bool):Rel World:=λh cs w F=>∃ s1 s2 s3 s4 F1 F2 F3 F4,cs = [s1,s2,s3,s4]/\F=F1++(F2++(F3++F4))/\RPlaces ro h [s1] w.places F1/\RSesss ro h [s2] w.sess F2/\RFrames ro h [s3] w.net F3/\RDones ro h [s4] w.hist F4
theorem rplaces_ok {ro:Bool}:(RPlaces ro).Ok:=Sli.ok rplace_ok
theorem GL {ro:Bool}:(RSess ro).Ok :=
 ⟨λh h' cs x F ⟨s,h1,h2⟩ hb=>⟨s,h1,rtags_ok.fr _ _ _ _ _ h2 hb⟩,λh cs x F ⟨s,_,h2⟩=>rtags_ok.bd _ _ _ _ h2⟩
theorem rsesss_ok {ro:Bool}:(RSesss ro).Ok:=Sli.ok GL
theorem rframes_ok {ro:Bool}:(RFrames ro).Ok:=Sli.ok rframe_ok
theorem rdones_ok {ro:Bool}:(RDones ro).Ok:=Sli.ok Cn
section
variable {ro:Bool}{h:Heap}{F:List Nat}{a:Pq}{c:Nq}{n k:Nat}
theorem RPlaces.get {l:List Place} (hs:RPlaces ro h [.sl 6 a n c] l F) (hk:k<l.length):∃ o s1 s2 s3 a1 c1 a2 c2 a3 c3 F1 F2 F3,a=some o /\
  ld h o.1 (o.2+k) 0 6=some [Iv l[k].me,Iv l[k].clock,s1,s2,s3,.bool l[k].fell]/\ld h o.1 (o.2+k) 0 1=some [Iv l[k].me]/\ld h o.1 (o.2+k) 2 1=some [s1]/\ld h o.1 (o.2+k) 3 1=some [s2]/\ld h o.1 (o.2+k) 4 1=some [s3] /\
  (∀ {R':Type} (K:Pq->Nat->Nq->Option R'),eS 2 s1 K=K a1 l[k].chain.length c1)/\(∀ {R':Type} (K:Pq->Nat->Nq->Option R'),eS 6 s2 K=K a2 l[k].log.length c2) /\
  (∀ {R':Type} (K:Pq->Nat->Nq->Option R'),eS 1 s3 K=K a3 l[k].got.length c3) /\
  RNodes ro h [.sl 2 a1 l[k].chain.length c1] l[k].chain F1/\RVers ro h [.sl 6 a2 l[k].log.length c2] l[k].log F2/\RVss ro h [.sl 1 a3 l[k].got.length c3] l[k].got F3/\(∀ b,b∈F1\/b∈F2\/b∈F3->b∈F):=by
 obtain ⟨o,row,G,h1,h2,hv,hG,_⟩:=hs.read hk;obtain ⟨s1,s2,s3,a1,c1,a2,c2,a3,c3,F1,F2,F3,rfl,rfl,e1,e2,e3,g1,g2,g3⟩:=hv.form;exact ⟨o,s1,s2,s3,a1,c1,a2,c2,a3,c3,F1,F2,F3,h1,by rw[h2];rfl,by rw[h2];rfl,by rw[h2];rfl,by rw[h2];rfl,by rw[h2];rfl,e1,e2,e3,g1,g2,g3,λb hb=>hG b (by simpa using hb)⟩
theorem RSess.form {row:List V}{s:Sess} (hv:RSess ro h row s F):∃ v a c,row = [Iv s.place,v,Iv s.wait.time,Iv s.wait.place,Iv s.key] /\
  (∀ {R':Type} (K:Pq->Nat->Nq->Option R'),eS 2 v K=K a s.past.length c)/\RTags ro h [.sl 2 a s.past.length c] s.past F:=by
 obtain ⟨v,rfl,hp⟩:=hv;obtain ⟨a,c,es,hp2⟩:=hp.form;exact ⟨v,a,c,rfl,es,hp2⟩
theorem RSesss.get {l:List Sess} (hs:RSesss ro h [.sl 5 a n c] l F) (hk:k<l.length):∃ o v a' c' G,a=some o/\ld h o.1 (o.2+k) 0 5=some [Iv l[k].place,v,Iv l[k].wait.time,Iv l[k].wait.place,Iv l[k].key] /\
  ld h o.1 (o.2+k) 0 1=some [Iv l[k].place]/\ld h o.1 (o.2+k) 1 1=some [v] /\
  (∀ {R':Type} (K:Pq->Nat->Nq->Option R'),eS 2 v K=K a' l[k].past.length c')/\RTags ro h [.sl 2 a' l[k].past.length c'] l[k].past G/\(∀ b∈G,b∈F):=by
 obtain ⟨o,row,G,h1,h2,hv,hG,_⟩:=hs.read hk;obtain ⟨v,a',c',rfl,es,hp⟩:=hv.form;exact ⟨o,v,a',c',G,h1,by rw[h2];rfl,by rw[h2];rfl,by rw[h2];rfl,es,hp,hG⟩
theorem RFrames.get {l:List Frame} (hs:RFrames ro h [.sl 9 a n c] l F) (hk:k<l.length):∃ o s a' c' G,a=some o /\
  ld h o.1 (o.2+k) 0 9=some [Iv l[k].fro,Iv l[k].to,Iv l[k].at',Iv l[k].ver.key,Iv l[k].ver.tag.time,Iv l[k].ver.tag.place,s,.str l[k].ver.text,.bool l[k].ver.gone] /\
  (∀ {R':Type} (K:Pq->Nat->Nq->Option R'),eS 2 s K=K a' l[k].ver.past.length c')/\RTags ro h [.sl 2 a' l[k].ver.past.length c'] l[k].ver.past G/\(∀ b∈G,b∈F):=by
 obtain ⟨o,row,G,h1,h2,⟨vs,rfl,hv⟩,hG,_⟩:=hs.read hk;obtain ⟨s,a',c',rfl,es,hp⟩:=hv.form;exact ⟨o,s,a',c',G,h1,by rw[h2];rfl,es,hp,hG⟩
theorem RDones.get {l:List Done} (hs:RDones ro h [.sl 5 a n c] l F) (hk:k<l.length):∃ o,a=some o/\ld h o.1 (o.2+k) 0 5=some l[k].cs:=by obtain ⟨o,row,G,h1,h2,⟨rfl,_⟩,_⟩:=hs.read hk;exact ⟨o,h1,by rw[h2];rfl⟩
end
def SH (w:World):Prop:=(w.places.length<=1048576/\∀ p∈w.places,Hb p)/\(w.sess.length<=1048576/\∀ s∈w.sess,s.past.length<=1048576)/\(w.net.length<=1048576/\∀ f∈w.net,f.ver.past.length<=1048576/\f.ver.text.size<=1048576)/\w.hist.length<=1048576
section
variable {lo:Nat}{ro ro':Bool}{h:Heap}{F F':List Nat}{a a':Pq}{c c':Nq}{left:Int}
end


def Ut (p:Place) (to at':Int):Bool:=Ap p&&Ag to 0 2 && !(p.me==to)&&Ag at' 0 (p.log.length - 1)
def told (p:Place) (to at':Int):Frame:=bif Ut p to at' then ⟨p.me,to,at',(p.log[at'.toNat]?).getD PU⟩ else ⟨0,0,0,PU⟩
section
variable {lo:Nat}{h:Heap}{F F':List Nat}{a a':Pq}{c c':Nq}
end


variable {l:List Done}
def Ei (s:Sess):Bool:=Ag s.place 0 2&&BK s.past&&BE s.wait.time s.wait.place&&Ag s.key 0 3&&(decide (s.wait.time>0) || s.key==0)&&(s.wait.time==0 || s.wait.place==s.place)
def Co (d:Done):Bool:=Ag d.sess 0 3&&Ag d.kind 1 3&&Ag d.key 0 3&&BE d.tag.time d.tag.place&&(d.kind==2 || decide (d.tag.time>0))
def Fe (l:List Place) (k:Nat):List Ver:=match l[k]? with
 | some p=>p.log
 | none => []
theorem N3 {l:List Place}{k:Nat} (hk:k<l.length):Fe l k=l[k].log:=by unfold Fe;rw[CX hk]
section
variable {lo:Nat}{ro ro':Bool}{h:Heap}{F F':List Nat}{a a':Pq}{c c':Nq}
theorem JO {g:Nat}{cl:List V}{p:Done->Bool} (hs:RDones ro h [.sl 5 a l.length c] l F) (hn:l.length<=1048576)
  (hp:∀ lo x,x∈l->Ae lo g (Db [.agg (x.cs)] cl) h=some (.bool (p x),h)) :
  Ae lo 54 [.sl 5 a l.length c,.fn g cl] h=some (.bool (l.any p),h):=by
 have loop:∀ m k x,m+k=l.length->Ar (List.length h) a l.length c g cl x (l.length:Nat) (k:Nat) h=some (Iv (CU p (l.drop k) k),h):=by
  intro m;induction m with
  | zero =>intro k x hk;rw[Ar.e,Ao (by omega),show k=l.length by omega];simp[CU]
  | succ m ih =>
   intro k x hk;have hlt:k<l.length:=by omega
   obtain ⟨o,rfl,ho⟩:=hs.get hlt;rw[Ar.e,Am (by omega),Ad (by omega)];simp only[Af,By,ho,Ab,Aa,Ai];rw[hp (List.length h) l[k] (X3 hlt),Ac,A2,Yi hlt];simp only[CU];cases p l[k]
   ·simp only[AC,cond_false];rw[Ay (by omega)];exact ih (k+1) _ (by omega)
   ·simp
 exact C6 (h':=h) (by rw[Dz (loop l.length 0 0 (by omega))];simp only[Ac,Aa,Te];rw[KQ];simp)
theorem Tu {d:Done}:Ae lo 59 [.agg d.cs] h=some (.bool (Co d),h):=by refine Nh (h':=h) ?_;rw[AY,Ac,A2,AY,Ac,A2,AY,Ac,A2,OP,Ac,A2];unfold Co;cases Ag d.sess 0 3<;>cases Ag d.kind 1 3<;>cases Ag d.key 0 3<;>cases BE d.tag.time d.tag.place<;>cases (d.kind==2)<;>cases decide (d.tag.time>0)<;>rfl
theorem WA {d:Done}:(Ag d.sess 0 3&&(Ag d.kind 1 3&&(Ag d.key 0 3&&(BE d.tag.time d.tag.place&&(bif ((d.tag.time==0)&&((d.tag.place==0)&&true)) then d.kind==2 else true)))))=Co d:=by
 unfold Co;cases Ag d.sess 0 3 with
 | false=>rfl
 | true =>
 cases Ag d.kind 1 3 with
 | false=>rfl
 | true =>
 cases Ag d.key 0 3 with
 | false=>rfl
 | true =>
 cases ht:BE d.tag.time d.tag.place with
 | false=>rfl
 | true =>
  simp[BE,Ag] at ht;by_cases h0:d.tag.time=0
  ·have hp:d.tag.place=0:=by omega
   rw[Bool.eq_iff_iff];simp[h0,hp]
  ·have h1:0<d.tag.time:=by omega
   rw[Bool.eq_iff_iff];simp[h0,h1]
theorem KP (hs:RDones ro h [.sl 5 a l.length c] l F) (hn:l.length<=1048576):Ae lo 27 [.sl 5 a l.length c] h=some (.bool (decide (l.length<=80)&&l.all Co),h):=by
 refine NG (h':=h) ?_;by_cases h8:l.length<=80
 ·rw[Am (by omega),decide_eq_true h8,JO hs hn (p:=λd => !Co d) (λlo d _=>by
   rw[show ∀ x:List V,Db x []=x from λx=>by simp[Db]];refine Lh (h':=h) ?_;rw[Ff,Ac,A2,Ff,Ac,A2,R5,Ac,A2,R6,Ac,A2,<- WA];cases Ag d.sess 0 3<;>cases Ag d.kind 1 3<;>cases Ag d.key 0 3<;>cases BE d.tag.time d.tag.place<;>cases ((d.tag.time==0)&&((d.tag.place==0)&&true))<;>cases (d.kind==2)<;>rfl),Ac,A2]
  rw[List.any_eq_not_all_not];simp only[Bool.not_not,Yn];cases l.all Co<;>rfl
 ·rw[Ao (by omega),decide_eq_false h8];rfl
end


abbrev Xy (n:Int):List V := [Iv n]
abbrev RInts:Rel (List Int):=Sli false 1 3 (flat Xy)
section
variable {lo:Nat}{h:Heap}{F F' F1:List Nat}{a a' a1 a2 a3 a4:Pq}{c c' c1 c2 c3 c4:Nq}{k:Int}
theorem RInts.get {l:List Int}{n i:Nat} (hs:RInts h [.sl 1 a n c] l F) (hi:i<l.length):∃ o,a=some o/\ld h o.1 (o.2+i) 0 1=some [Iv l[i]]:=by obtain ⟨o,row,G,h1,h2,⟨rfl,_⟩,_⟩:=hs.read hi;exact ⟨o,h1,by rw[h2];rfl⟩
end


def Dr (l:List Node) (k:Nat):Nat:=if k=0/\1<l.length then 1 else k
def HL (l:List Node) (k key:Nat):Option Ver:=(Eg l (Dr l k))[key]?
section
variable {lo:Nat}{ro:Bool}{h:Heap}{F F' F1:List Nat}{a a' a1 a2 a3 a4:Pq}{c c' c1 c2 c3 c4:Nq}
theorem IE {l:List Node}{k key:Nat} (hs:RNodes false h [.sl 2 a l.length c] l F) (hk:k<l.length) (hst:∀ x∈l,Bw x.store=true) (hkey:key<4) (hl:lo<=h.length) (hn1:l.length<=1048576) :
  ∃ v a' c' h' G,Ae lo 187 [.agg [.sl 2 a l.length c],Iv (k:Nat),Iv (key:Nat)] h=some (.agg (Ver.cs v a' c'),h')/\HL l k key=some v/\RTags false h' [.sl 2 a' v.past.length c'] v.past G/\Mv h [] h' G:=by
 suffices hq:∃ v a' c' h' G,_=some (V.agg (Ver.cs v a' c'),h')/\HL l k key=some v/\RTags false h' [.sl 2 a' v.past.length c'] v.past G/\Mv h [] h' G from by obtain ⟨v,a',c',h',G,e,hr⟩:=hq;exact ⟨v,a',c',h',G,MI e,hr⟩
 have hql:Dr l k<l.length:=by unfold Dr;split<;>omega
 obtain ⟨o,s1,s2,b1,d1,b2,d2,H1,H2,ha,_,ho1,_,q1,_,p1,_⟩:=hs.get hql;have hs4:=hst _ (X3 hql);have hkl:key<l[Dr l k].store.length:=by rw[Cq hs4];exact hkey
 obtain ⟨o2,t,b3,d3,G,ha2,ho2,es2,pv,_⟩:=p1.get hkl;obtain ⟨a5,c5,h5,F5,e5,r5,m5⟩:=BQ (lo:=lo) (v:=l[Dr l k].store[key]) pv hl ((Rt hs4).2 _ (X3 hkl)).1;have hsh:HL l k key=some l[Dr l k].store[key]:=by unfold HL;rw[DA hql,CX hkl]
 generalize l[Dr l k].store[key]=v at ho2 es2 pv e5 r5 hsh;generalize l[Dr l k].store.length=n1 at q1 hkl ha2;refine ⟨v,a5,c5,h5,F5,?_,hsh,r5,m5⟩;simp only[Ver.cs] at e5;by_cases hk0:k=0
 ·rw[show (((k:Nat):Int)==0)=true by rw[beq_iff_eq];omega,Ax];by_cases h1:1<l.length
  ·have hsa:Dr l k=1:=by unfold Dr;rw[if_pos ⟨hk0,h1⟩]
   rw[hsa] at ho1;rw[Am (by omega),Er ⟨by omega,by omega⟩,ha,Af,ho1,Af,Ab,Ai,q1,Ad hkl,ha2,Af,By,ho2,Af,Ab,Aa,Ab,Aa,Ab,Aa,Ab,es2,Ab,Dw,Ab,Bd,Ai,e5,Ac,AW,Ab,Aa,Ab,Aa,Ab,Aa,Ab,Ah,Ab,Dw,Ab,Bd,Ai]
  ·have hsa:Dr l k=k:=by unfold Dr;rw[if_neg (by omega)]
   rw[hsa] at ho1;rw[Ao (by omega),Ad hk,ha,Af,By,ho1,Af,Ab,Ai,q1,Ad hkl,ha2,Af,By,ho2,Af,Ab,Aa,Ab,Aa,Ab,Aa,Ab,es2,Ab,Dw,Ab,Bd,Ai,e5,Ac,AW,Ab,Aa,Ab,Aa,Ab,Aa,Ab,Ah,Ab,Dw,Ab,Bd,Ai]
 ·have hsa:Dr l k=k:=by unfold Dr;rw[if_neg (by omega)]
  rw[hsa] at ho1;rw[show (((k:Nat):Int)==0)=false by rw[beq_eq_false_iff_ne];omega,AC,Ad hk,ha,Af,By,ho1,Af,Ab,Ai,q1,Ad hkl,ha2,Af,By,ho2,Af,Ab,Aa,Ab,Aa,Ab,Aa,Ab,es2,Ab,Dw,Ab,Bd,Ai,e5,Ac,AW,Ab,Aa,Ab,Aa,Ab,Aa,Ab,Ah,Ab,Dw,Ab,Bd,Ai]
end


variable {k:Int}
structure Roomy (p:Place):Prop where
 seen:∃ U:List Tag,U.length<=54/\(∀ v∈p.log,v.tag∈U)/\∀ v,inCh p.chain v->0<v.tag.time->v.tag.place=p.me->v.tag∈U
 told:∀ v∈DK p.chain,0<v.tag.time->v.tag.place=p.me->Cv p.log v.tag=true
theorem NX {α:Type} [DecidableEq α]:∀ {a U:List α},a.Nodup->(∀ x∈a,x∈U)->a.length<=U.length
 | [],U,_,_=>Yl _
 | x :: a,U,hn,hs=>by
  rw[Yk] at hn;have h1:=hs x (by simp);have h2:=NX (a:=a) (U:=U.erase x) hn.2 λy hy=>(List.mem_erase_of_ne (λe=>hn.1 (by rw[<- e];exact hy))).2 (hs y (by simp[hy]))
  rw[List.length_erase_of_mem h1] at h2;have:=List.length_pos_of_mem h1;simp only[YP];omega
section
variable {p:Place}
theorem TO {m:Int}{l:List Ver} (h:FT m l=true):(l.map λv=>v.tag).Nodup:=by
 obtain ⟨_,h2⟩:=FB h;unfold List.Nodup;rw[List.pairwise_map,List.pairwise_iff_getElem];intro i j hi hj hij e;have h3:=(h2 j hj).2.2;have:Cv (l.take j) l[j].tag=true:=hasTag_mem.2 ⟨l[i],by
  rw[YH];exact ⟨i,by simp;omega,by simp⟩,e⟩
 rw[h3] at this;cases this
theorem Roomy.len (h:Roomy p) (hp:Ap p=true):p.log.length<=54:=by
 obtain ⟨U,h1,h2,_⟩:=h.seen;have:=NX (U:=U) (TO (AE hp).2.2.2.2.2.1) (λt ht=>by
  obtain ⟨v,hv,rfl⟩:=Zt.1 ht;exact h2 v hv)
 simp only[Zp] at this;omega
theorem Qw {m:Int}:∀ {vs l:List Ver},∀ v∈vs.foldl (noted m) l,v∈l\/(v∈vs/\0<v.tag.time/\v.tag.place=m)
 | [],l,v,hv => .inl hv
 | x :: vs,l,v,hv=>by
  rw[YL] at hv;rcases Qw v hv with g | ⟨g1,g2⟩
  ·unfold noted at g;cases hc:(decide (x.tag.time>0)&&(x.tag.place==m && !Cv l x.tag)) with
   | false=>rw[hc] at g;exact .inl g
   | true =>
    rw[hc,cond_true] at g;simp only[C3,decide_eq_true_eq,beq_iff_eq] at hc;rcases X0.1 g with g | g
    ·exact .inl g
    ·rw[Yj] at g;subst g;exact .inr ⟨by simp,hc.1,hc.2.1⟩
  ·exact .inr ⟨by simp[g1],g2⟩
theorem Hd (h:Ch p.chain) (hs:∃ U:List Tag,U.length<=54/\(∀ v∈p.log,v.tag∈U)/\∀ v,inCh p.chain v->0<v.tag.time->v.tag.place=p.me->v.tag∈U):Roomy (CJ p):=by
 obtain ⟨U,h1,h2,h3⟩:=hs;refine ⟨⟨U,h1,λv hv=>?_,h3⟩,λv hv ht hp=>?_⟩
 ·rcases Qw v hv with g | ⟨g1,g2,g3⟩
  ·exact h2 v g
  ·obtain ⟨z,hz,hi⟩:=h.tail;rw[FC hz hi] at g1;exact h3 v (.of hz (.inl g1)) g2 g3
 ·exact (JY (vs:=DK p.chain) (l:=p.log)).1 v hv ht hp
theorem RK (h:Roomy p) (hp:Ap p=true):Roomy (Jt p):=by
 have hc:=GN hp;unfold Jt If;cases Ez p.chain with
 | false=>exact h
 | true =>rw[cond_true];obtain ⟨U,h1,h2,h3⟩:=h.seen;exact ⟨⟨U,h1,h2,λv hv=>h3 v (Od hc.pos hv)⟩,λv hv=>h.told v (by rw[<- (N9 hc).2.2.1];exact hv)⟩
theorem RM (h:Roomy p) (hp:Ap p=true):Roomy (DT p k):=by
 have hc:=GN hp;unfold DT;cases hf:Dk p k with
 | false=>exact h
 | true =>unfold Dk at hf;rw[C3] at hf;obtain ⟨f,rfl,g1,g2⟩:=Ml hf.2;obtain ⟨U,h1,h2,h3⟩:=h.seen;rw[cond_true,By];exact Hd (p:=Or p f) (hc.fall g1 g2) ⟨U,h1,h2,λv hv=>h3 v (Oe g1 hv)⟩
theorem RJ (h:Roomy p) (hp:Ap p=true):Roomy (DS p k):=by
 have hc:=GN hp;unfold DS;cases hf:CB p.chain k with
 | false=>exact h
 | true =>obtain ⟨U,h1,h2,h3⟩:=h.seen;rw[cond_true];exact Hd (p:=KK p k.toNat) (hc.pass hf) ⟨U,h1,h2,λv hv=>h3 v (Oc hf hv)⟩
theorem RI (h:Roomy p) (hp:Ap p=true):Roomy (DR p k):=by
 have hc:=GN hp;unfold DR;cases hk:Dj p k with
 | false=>exact h
 | true =>
  rw[cond_true];unfold Dj at hk;rw[C3] at hk;have hk:=hk.2;unfold I9 at hk;unfold Ja;cases hv:Hn p k.toNat with
  | none=>exact h
  | some v =>
   rw[hv] at hk;simp only[C3] at hk;obtain ⟨v1,v2,v3,v4⟩:=QG hp hv;obtain ⟨U,h1,h2,h3⟩:=h.seen;refine Hd (p:=Gg p 0 (EG v.tag.time p.clock) v) (hc.add v1 hk.1) ⟨U,h1,h2,λw hw ht hm=>?_⟩;rcases Jw hw with g | rfl
   ·exact h3 w g ht hm
   ·exact absurd (v2.symm.trans hm) v3
theorem RL {f a:Int}{v:Ver} (h:Roomy p):Roomy (E7 p f a v):=by
 unfold E7;cases Fa p f a v with
 | false=>exact h
 | true=>exact ⟨h.seen,h.told⟩
theorem I5 {l:List Node}{v:Ver} (h:Ch l):∀ (d i:Nat) (x:Node),i+d+1=l.length->l[i]?=some x->v∈x.store->(∃ (j:Nat) (y:Node),l[j]?=some y/\j+1<l.length/\v∈y.wait)\/v∈DK l
 | 0,i,x,hd,hx,hv=>by rw[FC hx (by omega)];exact .inr hv
 | d+1,i,x,hd,hx,hv=>by
  have hy:=CX (l:=l) (i:=i+1) (by omega);rcases Oo (h.link i x _ hx hy) v hv with g | g
  ·exact .inl ⟨i,x,hx,by omega,g⟩
  ·exact I5 h d (i+1) _ (by omega) hy g
theorem NL:∀ {l:List Node},(∀ x∈l,x.wait.length<=6)->(l.flatMap λx=>x.wait).length<=6*l.length
 | [],_=>by simp
 | x :: l,h=>by have h1:=h x (by simp);have h2:=NL (l:=l) λy hy=>h y (by simp[hy]);simp only[List.flatMap_cons,Yp,YP];omega
theorem Ql {s:ByteArray}{g:Bool}{l:List Tag} (h:Roomy p) (hp:Ap p=true):Roomy (wrote p k s g l).1:=by
 have hc:=GN hp;rw[Ly hp];cases hw:AT p k s g l with
 | false=>exact h
 | true =>
  obtain ⟨h1,h2,h3,h4,h5,h6,h7,h8⟩:=FF hw;have hv:=NZ hp hw;refine Hd (p:=Gg p 0 (AS p l) (EN p k s g l)) (hc.add hv h6) ⟨(p.log++(p.chain.dropLast.flatMap λx=>x.wait)).map (λv=>v.tag) ++ [⟨AS p l,p.me⟩],?_,λv hv=>?_,λv hv ht hm=>?_⟩
  ·have hd:∀ x∈p.chain.dropLast,x.wait.length<=6:=λx hx=>by obtain ⟨i,hi⟩:=Yf.1 ((List.dropLast_sublist _).mem hx);exact (Bp (hc.node i x hi)).2.1
   have:=NL hd;have h4:=hc.le;simp only[Yp,Zp,List.length_dropLast,YO] at this ⊢;omega
  ·refine YG _ (Zt.2 ⟨v,YG _ hv,rfl⟩)
  ·have old:inCh p.chain v->v.tag∈(p.log++(p.chain.dropLast.flatMap λx=>x.wait)).map (λv=>v.tag):=λhi=>by
    have fin:(∃ (j:Nat) (y:Node),p.chain[j]?=some y/\j+1<p.chain.length/\v∈y.wait)\/v∈DK p.chain:=by
     obtain ⟨i,x,hx,q | q⟩:=hi.get
     ·have hlt:=(Ef hx).1;exact I5 hc (p.chain.length - 1 - i) i x (by omega) hx q
     ·have hlt:=(Ef hx).1;by_cases he:i+1=p.chain.length
      ·rw[hc.last i x hx he] at q;simp at q
      ·exact .inl ⟨i,x,hx,by omega,q⟩
    rcases fin with ⟨j,y,hj,hjl,q⟩ | q
    ·refine Zt.2 ⟨v,Za _ (List.mem_flatMap.2 ⟨y,?_,q⟩),rfl⟩;rw[Yf];exact ⟨j,by rw[List.getElem?_dropLast,if_pos (by omega)];exact hj⟩
    ·obtain ⟨u,hu,e⟩:=hasTag_mem.1 (h.told v q ht hm);exact Zt.2 ⟨u,YG _ hu,e⟩
   rcases Jw hv with q | rfl
   ·exact YG _ (old q)
   ·exact Za _ (by simp[EN])
end
def Iw (l:List Place) (f:Frame):Prop:=(0<=f.fro/\f.fro<=2)/\(0<=f.to/\f.to<=2)/\f.fro≠f.to/\0<=f.at'/\(Fe l f.fro.toNat)[f.at'.toNat]?=some f.ver
structure Wd (w:World):Prop where
 p3:w.places.length=3
 s4:w.sess.length<=4
 n12:w.net.length<=12
 h80:w.hist.length<=80
 place:∀ (i:Nat) (p:Place),w.places[i]?=some p->p.me=(i:Int)/\Ap p=true
 sess:∀ s∈w.sess,Ei s=true
 net:∀ f∈w.net,Iw w.places f
 hist:∀ d∈w.hist,Co d=true
 heard:∀ (i:Nat) (p:Place) (k:Nat) (g:List Ver),w.places[i]?=some p->p.got[k]?=some g->∃ r,Fe w.places k=g++r
theorem SS {l:List Place}{k:Nat}{p q:Place} (hp:l[k]?=some p) (hlog:∃ r,q.log=p.log++r) (j:Nat):∃ r,Fe (l.set k q) j=Fe l j++r:=by
 unfold Fe;by_cases hj:k=j
 ·subst hj;rw[X9 (Ef hp).1,hp];exact hlog
 ·rw[XZ hj];exact ⟨[],by simp⟩
section
variable {w:World}
theorem Wd.setP (h:Wd w) {k:Nat}{p q:Place} (hp:w.places[k]?=some p) (hq:Ap q=true) (hm:q.me=p.me) (hlog:∃ r,q.log=p.log++r)
  (hgot:∀ (i:Nat) (g:List Ver),q.got[i]?=some g->p.got[i]?=some g\/∃ r,Fe w.places i=g++r):Wd ⟨w.places.set k q,w.sess,w.net,w.hist⟩:=by
 have hk:=(Ef hp).1;refine ⟨by simpa using h.p3,h.s4,h.n12,h.h80,λi x hx=>?_,h.sess,λf hf=>?_,h.hist,λi x j g hx hg=>?_⟩
 ·by_cases hi:k=i
  ·subst hi;simp only[X9 hk,Option.some.injEq] at hx;subst hx;exact ⟨hm.trans (h.place k p hp).1,hq⟩
  ·simp only[XZ hi] at hx;exact h.place i x hx
 ·obtain ⟨h1,h2,h3,h4,h5⟩:=h.net f hf;obtain ⟨r,hr⟩:=SS hp hlog f.fro.toNat;refine ⟨h1,h2,h3,h4,?_⟩;show (Fe (w.places.set k q) f.fro.toNat)[f.at'.toNat]?=some f.ver;rw[hr,X2 (Ef h5).1];exact h5
 ·obtain ⟨r,hr⟩:=SS hp hlog j;show ∃ r,Fe (w.places.set k q) j=g++r;have old:(∃ r,Fe w.places j=g++r)->∃ r,Fe (w.places.set k q) j=g++r:=λ⟨r',hr'⟩=>⟨r'++r,by rw[hr,hr',Yd]⟩
  by_cases hi:k=i
  ·subst hi;simp only[X9 hk,Option.some.injEq] at hx;subst hx;rcases hgot j g hg with g1 | g1
   ·exact old (h.heard k p j g hp g1)
   ·exact old g1
  ·simp only[XZ hi] at hx;exact old (h.heard i x j g hx hg)
theorem Wd.putS (h:Wd w) {i:Nat}{s:Sess} (hs:Ei s=true):Wd ⟨w.places,w.sess.set i s,w.net,w.hist⟩ :=
 ⟨h.p3,by simpa using h.s4,h.n12,h.h80,h.place,λx hx=>(Yo hx).elim (h.sess x) λe=>e ▸ hs,h.net,h.hist,h.heard⟩
theorem Wd.addH (h:Wd w) {ds:List Done} (hd:∀ d∈ds,Co d=true) (hl:w.hist.length+ds.length<=80):Wd ⟨w.places,w.sess,w.net,w.hist++ds⟩ :=
 ⟨h.p3,h.s4,h.n12,by simpa using hl,h.place,h.sess,h.net,λx hx=>(X0.1 hx).elim (h.hist x) (hd x),h.heard⟩
theorem Wd.netN (h:Wd w) {l:List Frame} (hl:l.length<=12) (hf:∀ f∈l,Iw w.places f):Wd ⟨w.places,w.sess,l,w.hist⟩ :=
 ⟨h.p3,h.s4,hl,h.h80,h.place,h.sess,hf,h.hist,h.heard⟩
end


variable {p:Place}{k:Nat}{l:List Node}{v:Ver}{s:Sess}{i:Nat}
structure Event where
 kind:Int
 at':Int
 num:Int
 key:Int
 text:ByteArray
 gone:Bool
abbrev Event.cs (e:Event):List V := [Iv e.kind,Iv e.at',Iv e.num,Iv e.key,.str e.text,.bool e.gone]
def Df (a b:Tag):Bool:=Fz a.time a.place b.time b.place
def Ee (a b:Tag):Tag:=bif Df a b then b else a
def DH (p:List Tag) (k:Nat) (t:Tag):List Tag:=match p[k]? with
 | some x=>p.set k (Ee x t)
 | none=>p
def BI (p q:List Tag):List Tag:=List.zipWith Ee p q
def setS (w:World) (i:Nat) (s:Sess) (ds:List Done):World:=⟨w.places,w.sess.set i s,w.net,w.hist++ds⟩
def setP (w:World) (k:Nat) (p:Place):World:=⟨w.places.set k p,w.sess,w.net,w.hist⟩
def setN (w:World) (l:List Frame):World:=⟨w.places,w.sess,l,w.hist⟩
def CZ (w:World) (n:Int):Bool:=decide ((w.hist.length:Int)+n<=80)
def EJ (w:World) (i:Nat) (s:Sess) (e:Event):Option World:=match w.places[s.place.toNat]? with
 | some p=>bif !decide (s.wait.time>0)&&(AT p e.key e.text e.gone s.past&&CZ w 1) then
   some (setS (setP w s.place.toNat (wrote p e.key e.text e.gone s.past).1) i ⟨s.place,s.past,(wrote p e.key e.text e.gone s.past).2,e.key⟩ [⟨i,1,e.key,(wrote p e.key e.text e.gone s.past).2⟩]) else none
 | none=>none
def Kk (w:World) (i:Nat) (s:Sess):Option World:=match w.places[s.place.toNat]? with
 | some p=>match HL p.chain 0 s.key.toNat,(Et p.chain)[s.key.toNat]? with
  | some v,some u=>bif decide (s.wait.time>0) then
    (bif Df v.tag s.wait then (bif Df u.tag s.wait then some (setS w i ⟨s.place,s.past,⟨0,0⟩,0⟩ []) else none)
    else (bif CZ w 1 then some (setS w i ⟨s.place,DH s.past s.key.toNat s.wait,⟨0,0⟩,0⟩ [⟨i,3,s.key,s.wait⟩]) else none)) else none
  | _,_=>none
 | none=>none
def Qq (s:Sess) (v:Ver) (k:Nat):List Tag:=bif decide (v.tag.time>0) then DH (BI s.past v.past) k v.tag else s.past
def GM (w:World) (i:Nat) (s:Sess) (e:Event):Option World:=match w.places[s.place.toNat]? with
 | some p=>bif !decide (s.wait.time>0)&&(Ag e.key 0 3&&(Ag e.num 0 ((p.chain.length:Int) - 1)&&CZ w 1)) then
   (match HL p.chain e.num.toNat e.key.toNat,s.past[e.key.toNat]? with
   | some v,some t=>bif Df v.tag t then none else some (setS w i ⟨s.place,Qq s v e.key.toNat,s.wait,s.key⟩ [⟨i,2,e.key,v.tag⟩])
   | _,_=>none) else none
 | none=>none
def CA (i:Nat) (l:List Tag):List Done:=l.zipIdx.map λx=>⟨i,2,(x.2:Int),x.1⟩
def JJ (w:World) (i:Nat) (s:Sess):Option World:=match w.places[s.place.toNat]? with
 | some p=>bif !decide (s.wait.time>0)&&(Ci s.past (Bh p.chain)&&CZ w 4) then some (setS w i ⟨s.place,Bh p.chain,s.wait,s.key⟩ (CA i (Bh p.chain))) else none
 | none=>none
def Qz (w:World) (i:Nat) (s:Sess) (e:Event):Option World:=bif !decide (s.wait.time>0)&&Ag e.num 0 2 then some (setS w i ⟨e.num,s.past,s.wait,s.key⟩ []) else none
def Ew (w:World) (e:Event):Option World:=bif Ag e.at' 0 ((w.sess.length:Int) - 1) then
 (match w.sess[e.at'.toNat]? with
 | some s=>bif e.kind==1 then EJ w e.at'.toNat s e else bif e.kind==2 then Kk w e.at'.toNat s else bif e.kind==3 then GM w e.at'.toNat s e else bif e.kind==4 then JJ w e.at'.toNat s else Qz w e.at'.toNat s e
 | none=>none) else none
def Dp (p:Place) (e:Event):Option Place:=bif e.kind==6 then (bif CB p.chain e.num then some (DS p e.num) else none) else
 bif e.kind==7 then (bif Dk p e.num then some (DT p e.num) else none) else
 bif e.kind==8 then (bif Ez p.chain then some (Jt p) else none) else (bif Dj p e.num then some (DR p e.num) else none)
def FL (w:World) (e:Event):Option World:=bif Ag e.at' 0 2 then
 (match w.places[e.at'.toNat]? with
 | some p=>(Dp p e).map (setP w e.at'.toNat)
 | none=>none) else none
def NR (w:World) (e:Event):Option World:=bif Ag e.at' 0 2&&(Ag e.num 0 2&&(!(e.at'==e.num)&&(decide ((w.net.length:Int)<12)&&Ag e.key 0 (((Fe w.places e.at'.toNat).length:Int) - 1)))) then
 (match (Fe w.places e.at'.toNat)[e.key.toNat]? with
 | some v=>some (setN w (w.net ++ [⟨e.at',e.num,e.key,v⟩]))
 | none=>none) else none
def Jy (w:World) (f:Frame):World:=match w.places[f.to.toNat]? with
 | some p=>setP w f.to.toNat (E7 p f.fro f.at' f.ver)
 | none=>w
def J6 (w:World) (e:Event):Option World:=bif Ag e.at' 0 ((w.net.length:Int) - 1) then
 (match w.net[e.at'.toNat]? with
 | some f=>some (bif e.kind==12 then setN w (w.net.eraseIdx e.at'.toNat) else bif e.kind==13 then Jy w f else Jy (setN w (w.net.eraseIdx e.at'.toNat)) f)
 | none=>none) else none
def Fb (w:World) (e:Event):Option World:=bif Ag e.kind 1 5 then Ew w e else bif Ag e.kind 6 9 then FL w e else bif e.kind==10 then NR w e else bif Ag e.kind 11 13 then J6 w e else none
def Oz (w:World) (e:Event):World:=(Fb w e).getD w
structure Good (w:World):Prop where
 ok:Wd w
 room:∀ p∈w.places,Roomy p
theorem pastOk_iff {p:List Tag}:BK p=true<->p.length=4/\∀ t∈p,BE t.time t.place=true:=by simp only[BK,C3,decide_eq_true_eq,Ya]
theorem SP {a b:Tag} (ha:BE a.time a.place=true) (hb:BE b.time b.place=true):BE (Ee a b).time (Ee a b).place=true:=by
 unfold Ee;cases Df a b
 ·exact ha
 ·exact hb
theorem PW {p:List Tag}{t:Tag} (hp:BK p=true) (ht:BE t.time t.place=true):BK (DH p k t)=true:=by
 rw[pastOk_iff] at hp;unfold DH;cases hx:p[k]? with
 | none=>exact pastOk_iff.2 hp
 | some x =>
  refine pastOk_iff.2 ⟨by simpa using hp.1,λy hy=>?_⟩;rcases Yo hy with hy | rfl
  ·exact hp.2 y hy
  ·exact SP (hp.2 x (X8 hx)) ht
theorem U2 {p q:List Tag} (hp:BK p=true) (hq:BK q=true):BK (BI p q)=true:=by rw[pastOk_iff] at hp hq;refine pastOk_iff.2 ⟨by unfold BI;rw[Zq];omega,λy hy=>?_⟩;unfold BI at hy;obtain ⟨i,hi,rfl⟩:=YH.1 hy;rw[List.getElem_zipWith];exact SP (hp.2 _ (X3 _)) (hq.2 _ (X3 _))
theorem P2 (h:Ch l):BK (Bh l)=true:=by refine pastOk_iff.2 ⟨h.four.1,λt ht=>?_⟩;obtain ⟨z,hz,hi⟩:=h.tail;rw[Cs hz hi] at ht;unfold A5 at ht;obtain ⟨v,hv,rfl⟩:=Zt.1 ht;obtain ⟨i,hi⟩:=Yf.1 hv;exact PC (GJ (h.store hz).1 hi)
theorem UB {key:Nat} (h:Ch l) (hv:HL l k key=some v):∃ (i:Nat) (x:Node),l[i]?=some x/\x.store[key]?=some v:=by
 unfold HL Eg at hv;cases hx:l[Dr l k]? with
 | none=>rw[hx] at hv;simp at hv
 | some x=>rw[hx] at hv;exact ⟨_,x,hx,hv⟩
theorem UC {key:Nat} (h:Ch l) (hv:HL l k key=some v):HF key v=true:=by obtain ⟨i,x,hx,hv⟩:=UB h hv;exact GJ (h.store hx).1 hv
theorem B3 (h:Ei s=true):(0<=s.place/\s.place<=2)/\BK s.past=true/\BE s.wait.time s.wait.place=true/\(0<=s.key/\s.key<=3)/\(0<s.wait.time\/s.key=0)/\(s.wait.time=0\/s.wait.place=s.place):=by unfold Ei at h;simp only[C3,YB,decide_eq_true_eq,beq_iff_eq,Ag] at h;obtain ⟨⟨⟨⟨⟨h1,h2⟩,h3⟩,h4⟩,h5⟩,h6⟩:=h;exact ⟨h1,h2,h3,h4,h5,h6⟩
theorem Ig (h1:0<=s.place/\s.place<=2) (h2:BK s.past=true) (h3:BE s.wait.time s.wait.place=true) (h4:0<=s.key/\s.key<=3) (h5:0<s.wait.time\/s.key=0) (h6:s.wait.time=0\/s.wait.place=s.place):Ei s=true:=by unfold Ei;simp only[C3,YB,decide_eq_true_eq,beq_iff_eq,Ag];exact ⟨⟨⟨⟨⟨h1,h2⟩,h3⟩,h4⟩,h5⟩,h6⟩
theorem Lu {d:Done} (h1:0<=d.sess/\d.sess<=3) (h2:1<=d.kind/\d.kind<=3) (h3:0<=d.key/\d.key<=3) (h4:BE d.tag.time d.tag.place=true) (h5:d.kind=2\/0<d.tag.time):Co d=true:=by unfold Co;simp only[C3,YB,decide_eq_true_eq,beq_iff_eq,Ag];exact ⟨⟨⟨⟨h1,h2⟩,h3⟩,h4⟩,h5⟩
theorem Jn:∃ r,(CJ p).log=p.log++r:=(JY (vs:=DK p.chain) (l:=p.log)).2
section
variable {w w':World}
theorem Good.setP (h:Good w) {k:Nat}{p q:Place} (hp:w.places[k]?=some p) (hq:Ap q=true) (hr:Roomy q) (hm:q.me=p.me) (hlog:∃ r,q.log=p.log++r)
  (hgot:∀ (i:Nat) (g:List Ver),q.got[i]?=some g->p.got[i]?=some g\/∃ r,Fe w.places i=g++r):Good (Go.Proofs.YtmdgiekbejjjgaaGreat.setP w k q) :=
 ⟨h.ok.setP hp hq hm hlog hgot,λx hx=>(Yo hx).elim (h.room x) λe=>e ▸ hr⟩
theorem Good.setS (h:Good w) {i:Nat}{s:Sess}{ds:List Done} (hs:Ei s=true) (hd:∀ d∈ds,Co d=true) (hl:(w.hist.length:Int)+ds.length<=80):Good (Go.Proofs.YtmdgiekbejjjgaaGreat.setS w i s ds) :=
 ⟨(h.ok.putS (i:=i) hs).addH hd (by show w.hist.length+ds.length<=80;omega),h.room⟩
theorem Good.setN (h:Good w) {l:List Frame} (hl:l.length<=12) (hf:∀ f∈l,Iw w.places f):Good (Go.Proofs.YtmdgiekbejjjgaaGreat.setN w l):=⟨h.ok.netN hl hf,h.room⟩
theorem Tl {k:Int}{s:ByteArray}{g:Bool}{l:List Tag} (hp:Ap p=true) (hc:AT p k s g l=true):wrote p k s g l=(CJ (Gg p 0 (AS p l) (EN p k s g l)),⟨AS p l,p.me⟩):=by rw[Ly hp,hc,cond_true]
theorem R9 (h:Good w) {e:Event} (hi:i<w.sess.length) (hs:Ei s=true) (he:EJ w i s e=some w'):Good w':=by
 have h4:=h.ok.s4;unfold EJ at he;split at he
 ·rename_i p hp
  cases hc:(!decide (s.wait.time>0)&&(AT p e.key e.text e.gone s.past&&CZ w 1)) with
  | false=>rw[hc] at he;cases he
  | true =>
   rw[hc,cond_true] at he;injection he with he;simp only[C3,CZ,decide_eq_true_eq] at hc;obtain ⟨_,hc,hh⟩:=hc;obtain ⟨hme,hpo⟩:=h.ok.place _ p hp;have hr:=h.room p (X8 hp);obtain ⟨s1,s2,s3,s4,s5,s6⟩:=B3 hs;obtain ⟨q1,q2,q3,q4,q5,q6,q7,q8⟩:=FF hc;have ht:=I7 hpo s2;have hw:=Tl hpo hc;have g1:Good (Go.Proofs.YtmdgiekbejjjgaaGreat.setP w s.place.toNat (wrote p e.key e.text e.gone s.past).1):=h.setP hp (UN hpo) (Ql hr hpo) (by rw[hw];rfl) (by rw[hw];exact Jn) (λj g hg=>by rw[hw] at hg;exact .inl hg);have ht1:BE (AS p s.past) p.me=true:=by simp[BE,Ag];omega
   rw[<- he];refine g1.setS ?_ ?_ (by simp only[YO];exact hh)
   ·rw[hw];exact Ig s1 s2 ht1 q1 (.inl (by show 0<AS p s.past;omega)) (.inr (by show p.me=s.place;omega))
   ·intro d hd;rw[Yj] at hd;subst hd;rw[hw];exact Lu (by show (0:Int)<=(i:Int)/\(i:Int)<=3;omega) (by show (1:Int)<=1/\(1:Int)<=3;decide) q1 ht1 (.inr (by show 0<AS p s.past;omega))
 ·cases he
theorem U9 (h:Good w) (hi:i<w.sess.length) (hs:Ei s=true) (he:Kk w i s=some w'):Good w':=by
 have h4:=h.ok.s4;have h8:=h.ok.h80;obtain ⟨s1,s2,s3,s4,s5,s6⟩:=B3 hs;unfold Kk at he;split at he
 ·rename_i p hp
  split at he
  ·rename_i v u hv hu
   cases hc:decide (s.wait.time>0) with
   | false=>rw[hc] at he;cases he
   | true =>
    rw[hc,cond_true] at he;cases hl:Df v.tag s.wait with
    | true =>
     rw[hl,cond_true] at he;cases hl2:Df u.tag s.wait with
     | false=>rw[hl2] at he;cases he
     | true =>rw[hl2,cond_true] at he;injection he with he;rw[<- he];exact h.setS (Ig s1 s2 rfl (by show (0:Int)<=0/\(0:Int)<=3;decide) (.inr rfl) (.inl rfl)) (by simp) (by simp only[Y9];omega)
    | false =>
     rw[hl,cond_false] at he;cases hr:CZ w 1 with
     | false=>rw[hr] at he;cases he
     | true =>rw[hr,cond_true] at he;injection he with he;rw[<- he];unfold CZ at hr;refine h.setS (Ig s1 (PW s2 s3) rfl (by show (0:Int)<=0/\(0:Int)<=3;decide) (.inr rfl) (.inl rfl)) (λd hd=>?_) (by simp only[YO];exact of_decide_eq_true hr);rw[Yj] at hd;subst hd;exact Lu (by show (0:Int)<=(i:Int)/\(i:Int)<=3;omega) (by show (1:Int)<=3/\(3:Int)<=3;decide) s4 s3 (.inr (of_decide_eq_true hc))
  ·cases he
 ·cases he
theorem UG (hs:BK s.past=true) (hv:HF k v=true):BK (Qq s v k)=true:=by
 unfold Qq;cases ht:decide (v.tag.time>0) with
 | false=>exact hs
 | true =>
  have ht:=of_decide_eq_true ht;rcases DW hv with g | g
  ·have:=(GG g).1;omega
  ·have hp:=Bt g.1;exact PW (U2 hs hp.2.2.2.1) hp.2.2.2.2.1
theorem T0 (h:Good w) {e:Event} (hi:i<w.sess.length) (hs:Ei s=true) (he:GM w i s e=some w'):Good w':=by
 have h4:=h.ok.s4;obtain ⟨s1,s2,s3,s4,s5,s6⟩:=B3 hs;unfold GM at he;split at he
 ·rename_i p hp
  cases hc:(!decide (s.wait.time>0)&&(Ag e.key 0 3&&(Ag e.num 0 ((p.chain.length:Int) - 1)&&CZ w 1))) with
  | false=>rw[hc] at he;cases he
  | true =>
   rw[hc,cond_true] at he;simp only[C3,CZ,Ag,decide_eq_true_eq] at hc;obtain ⟨_,hk,_,hr⟩:=hc;split at he
   ·rename_i v t hv ht
    cases hl:Df v.tag t with
    | true=>rw[hl] at he;cases he
    | false =>rw[hl,cond_false] at he;injection he with he;rw[<- he];have hc:=GN (h.ok.place _ p hp).2;have hva:=UC hc hv;refine h.setS (Ig s1 (UG s2 hva) s3 s4 s5 s6) (λd hd=>?_) (by simp only[YO];exact hr);rw[Yj] at hd;subst hd;exact Lu (by show (0:Int)<=(i:Int)/\(i:Int)<=3;omega) (by show (1:Int)<=2/\(2:Int)<=3;decide) hk (PC hva) (.inl rfl)
   ·cases he
 ·cases he
theorem Va (h:Good w) (hi:i<w.sess.length) (hs:Ei s=true) (he:JJ w i s=some w'):Good w':=by
 have h4:=h.ok.s4;obtain ⟨s1,s2,s3,s4,s5,s6⟩:=B3 hs;unfold JJ at he;split at he
 ·rename_i p hp
  cases hc:(!decide (s.wait.time>0)&&(Ci s.past (Bh p.chain)&&CZ w 4)) with
  | false=>rw[hc] at he;cases he
  | true =>rw[hc,cond_true] at he;injection he with he;rw[<- he];simp only[C3,CZ,decide_eq_true_eq] at hc;have hch:=GN (h.ok.place _ p hp).2;have hst:=P2 hch;refine h.setS (Ig s1 hst s3 s4 s5 s6) (λd hd=>?_) (by unfold CA;rw[Zp,List.length_zipIdx,hch.four.1];exact hc.2.2);unfold CA at hd;obtain ⟨⟨t,k⟩,hx,rfl⟩:=Zt.1 hd;rw[YU] at hx;have hk:=(Ef hx).1;rw[hch.four.1] at hk;simp only at hk;exact Lu (by show (0:Int)<=(i:Int)/\(i:Int)<=3;omega) (by show (1:Int)<=2/\(2:Int)<=3;decide) (by show (0:Int)<=(k:Int)/\(k:Int)<=3;omega) ((pastOk_iff.1 hst).2 t (X8 hx)) (.inl rfl)
 ·cases he
theorem T2 (h:Good w) {e:Event} (hs:Ei s=true) (he:Qz w i s e=some w'):Good w':=by
 obtain ⟨s1,s2,s3,s4,s5,s6⟩:=B3 hs;unfold Qz at he;cases hc:(!decide (s.wait.time>0)&&Ag e.num 0 2) with
 | false=>rw[hc] at he;cases he
 | true =>rw[hc,cond_true] at he;injection he with he;rw[<- he];simp only[C3,Ag,decide_eq_true_eq,YR,decide_eq_false_iff_not] at hc;have:=IO s3;exact h.setS (Ig hc.2 s2 s3 s4 s5 (.inl (by show s.wait.time=0;omega))) (by simp) (by simp only[Y9];have:=h.ok.h80;omega)
theorem QS (h:Good w) {e:Event} (he:Ew w e=some w'):Good w':=by
 unfold Ew at he;cases hc:Ag e.at' 0 ((w.sess.length:Int) - 1) with
 | false=>rw[hc] at he;cases he
 | true =>
  rw[hc,cond_true] at he;split at he
  ·rename_i s hs
   have hi:=(Ef hs).1;have hso:=h.ok.sess s (X8 hs);cases h1:e.kind==1 with
   | true=>rw[h1,cond_true] at he;exact R9 h hi hso he
   | false =>
    rw[h1,cond_false] at he;cases h2:e.kind==2 with
    | true=>rw[h2,cond_true] at he;exact U9 h hi hso he
    | false =>
     rw[h2,cond_false] at he;cases h3:e.kind==3 with
     | true=>rw[h3,cond_true] at he;exact T0 h hi hso he
     | false =>
      rw[h3,cond_false] at he;cases h4:e.kind==4 with
      | true=>rw[h4,cond_true] at he;exact Va h hi hso he
      | false=>rw[h4,cond_false] at he;exact T2 h hso he
  ·cases he
theorem Uy {q:Place}{e:Event} (h:Dp p e=some q):q.me=p.me/\q.got=p.got/\∃ r,q.log=p.log++r:=by
 unfold Dp at h;have nil:∃ r,p.log=p.log++r:=⟨[],by simp⟩;cases h1:e.kind==6 with
 | true =>
  rw[h1,cond_true] at h;cases hc:CB p.chain e.num with
  | false=>rw[hc] at h;cases h
  | true =>rw[hc,cond_true] at h;injection h with h;rw[<- h];unfold DS;rw[hc,cond_true];exact ⟨rfl,rfl,Jn⟩
 | false =>
  rw[h1,cond_false] at h;cases h2:e.kind==7 with
  | true =>
   rw[h2,cond_true] at h;cases hc:Dk p e.num with
   | false=>rw[hc] at h;cases h
   | true =>rw[hc,cond_true] at h;injection h with h;rw[<- h];unfold DT;rw[hc,cond_true];exact ⟨rfl,rfl,Jn⟩
  | false =>
   rw[h2,cond_false] at h;cases h3:e.kind==8 with
   | true =>
    rw[h3,cond_true] at h;cases hc:Ez p.chain with
    | false=>rw[hc] at h;cases h
    | true =>rw[hc,cond_true] at h;injection h with h;rw[<- h];exact ⟨rfl,rfl,nil⟩
   | false =>
    rw[h3,cond_false] at h;cases hc:Dj p e.num with
    | false=>rw[hc] at h;cases h
    | true =>
     rw[hc,cond_true] at h;injection h with h;rw[<- h];unfold DR;rw[hc,cond_true];unfold Ja;split
     ·exact ⟨rfl,rfl,Jn⟩
     ·exact ⟨rfl,rfl,nil⟩
theorem VS {q:Place}{e:Event} (hp:Ap p=true) (hl:p.log.length<=56) (h:Dp p e=some q):Ap q=true/\(Roomy p->Roomy q):=by
 unfold Dp at h;cases h1:e.kind==6 with
 | true =>
  rw[h1,cond_true] at h;cases hc:CB p.chain e.num with
  | false=>rw[hc] at h;cases h
  | true =>rw[hc,cond_true] at h;injection h with h;rw[<- h];exact ⟨V1 hp hl,λhr=>RJ hr hp⟩
 | false =>
  rw[h1,cond_false] at h;cases h2:e.kind==7 with
  | true =>
   rw[h2,cond_true] at h;cases hc:Dk p e.num with
   | false=>rw[hc] at h;cases h
   | true =>rw[hc,cond_true] at h;injection h with h;rw[<- h];exact ⟨V4 hp hl,λhr=>RM hr hp⟩
  | false =>
   rw[h2,cond_false] at h;cases h3:e.kind==8 with
   | true =>
    rw[h3,cond_true] at h;cases hc:Ez p.chain with
    | false=>rw[hc] at h;cases h
    | true =>rw[hc,cond_true] at h;injection h with h;rw[<- h];exact ⟨V2 hp,λhr=>RK hr hp⟩
   | false =>
    rw[h3,cond_false] at h;cases hc:Dj p e.num with
    | false=>rw[hc] at h;cases h
    | true =>rw[hc,cond_true] at h;injection h with h;rw[<- h];exact ⟨V0 hp hl,λhr=>RI hr hp⟩
theorem Sa (h:Good w) {e:Event} (he:FL w e=some w'):Good w':=by
 unfold FL at he;cases hc:Ag e.at' 0 2 with
 | false=>rw[hc] at he;cases he
 | true =>
  rw[hc,cond_true] at he;split at he
  ·rename_i p hp
   rw[Yv] at he;obtain ⟨q,hq,rfl⟩:=he;have hpo:=(h.ok.place _ p hp).2;have hr:=h.room p (X8 hp);have hl:=hr.len hpo;obtain ⟨g1,g2⟩:=VS hpo (by omega) hq;obtain ⟨g3,g4,g5⟩:=Uy hq;exact h.setP hp g1 (g2 hr) g3 g5 λi g hg=>by rw[g4] at hg;exact .inl hg
  ·cases he
theorem TZ (h:Good w) {e:Event} (he:NR w e=some w'):Good w':=by
 unfold NR at he;cases hc:(Ag e.at' 0 2&&(Ag e.num 0 2&&(!(e.at'==e.num)&&(decide ((w.net.length:Int)<12)&&Ag e.key 0 (((Fe w.places e.at'.toNat).length:Int) - 1))))) with
 | false=>rw[hc] at he;cases he
 | true =>
  rw[hc,cond_true] at he;simp only[C3,Ag,decide_eq_true_eq,YR,beq_eq_false_iff_ne] at hc;obtain ⟨h1,h2,h3,h4,h5⟩:=hc;split at he
  ·rename_i v hv
   injection he with he;rw[<- he];refine h.setN (by simp;omega) λf hf=>?_;rcases X0.1 hf with hf | hf
   ·exact h.ok.net f hf
   ·rw[Yj] at hf;subst hf;exact ⟨h1,h2,h3,h5.1,hv⟩
  ·cases he
theorem Ol (h:Good w) {f:Frame} (hf:Iw w.places f):Good (Jy w f):=by
 unfold Jy;split
 ·rename_i p hp
  have hpo:=(h.ok.place _ p hp).2;have hr:=h.room p (X8 hp);obtain ⟨h1,h2,h3,h4,h5⟩:=hf;refine h.setP hp (V3 hpo) (RL hr) ?_ ?_ ?_
  ·unfold E7;cases Fa p f.fro f.at' f.ver<;>rfl
  ·unfold E7;cases Fa p f.fro f.at' f.ver<;>exact ⟨[],by simp[HC]⟩
  ·intro i g hg;unfold E7 at hg;cases hc:Fa p f.fro f.at' f.ver with
   | false=>rw[hc] at hg;exact .inl hg
   | true =>
    rw[hc,cond_true] at hg;simp only[Fa,GR,Ag,C3,decide_eq_true_eq,beq_iff_eq,YR] at hc;obtain ⟨⟨_,_⟩,_,_,_,q,_,_⟩:=hc;have hg:(p.got.set f.fro.toNat (HD p f.fro.toNat ++ [f.ver]))[i]?=some g:=hg;by_cases hi:f.fro.toNat=i
    ·subst hi;have hlt:f.fro.toNat<p.got.length:=by have:=(Ef hg).1;simpa using this
     rw[X9 hlt] at hg;injection hg with hg;have hgo:p.got[f.fro.toNat]?=some (HD p f.fro.toNat):=by rw[GS hlt];exact CX hlt
     obtain ⟨r,hr⟩:=h.ok.heard _ p _ _ hp hgo;rw[hr,Yh (by omega),show f.at'.toNat - (HD p f.fro.toNat).length=0 by omega] at h5;cases r with
     | nil=>simp at h5
     | cons v r =>simp only[List.getElem?_cons_zero,Option.some.injEq] at h5;subst h5;exact .inr ⟨r,by rw[hr,<- hg];simp⟩
    ·rw[XZ hi] at hg;exact .inl hg
 ·exact h
theorem Sb (h:Good w) {e:Event} (he:J6 w e=some w'):Good w':=by
 unfold J6 at he;cases hc:Ag e.at' 0 ((w.net.length:Int) - 1) with
 | false=>rw[hc] at he;cases he
 | true =>
  rw[hc,cond_true] at he;split at he
  ·rename_i f hf
   injection he with he;rw[<- he];have hfi:=h.ok.net f (X8 hf);have hn:=h.ok.n12;have g1:Good (setN w (w.net.eraseIdx e.at'.toNat)):=h.setN (XX (Zk _ _) hn) λx hx=>h.ok.net x (Y2 hx);cases e.kind==12 with
   | true=>exact g1
   | false =>
    rw[cond_false];cases e.kind==13 with
    | true=>exact Ol h hfi
    | false=>exact Ol g1 hfi
  ·cases he
theorem TY (h:Good w) {e:Event} (he:Fb w e=some w'):Good w':=by
 unfold Fb at he;cases h1:Ag e.kind 1 5 with
 | true=>rw[h1,cond_true] at he;exact QS h he
 | false =>
  rw[h1,cond_false] at he;cases h2:Ag e.kind 6 9 with
  | true=>rw[h2,cond_true] at he;exact Sa h he
  | false =>
   rw[h2,cond_false] at he;cases h3:e.kind==10 with
   | true=>rw[h3,cond_true] at he;exact TZ h he
   | false =>
    rw[h3,cond_false] at he;cases h4:Ag e.kind 11 13 with
    | true=>rw[h4,cond_true] at he;exact Sb h he
    | false=>rw[h4] at he;cases he
theorem O9 (h:Good w) {e:Event}:Good (Oz w e):=by
 unfold Oz;cases he:Fb w e with
 | none=>exact h
 | some w'=>exact TY h he
end


theorem Mv.mid {h h':Heap}{A B A' F F':List Nat} (m:Mv h A h' A') (hp:F.Perm (A++B)) (hn:F.Nodup) (hB:∀ y∈B,y<h.length) (hp':F'.Perm (A'++B)):Mv h F h' F':=by have m1:=m.aside (hp.nodup_iff.1 hn) hB;exact (m1.wide λb hb=>hp.mem_iff.2 hb).lean (hp'.nodup_iff.2 m1.nd) λb hb=>hp'.mem_iff.1 hb
theorem NW {A B C:List Nat}:(A++(B++C)).Perm (B++(A++C)):=List.perm_append_comm_assoc A B C
theorem SL {A B C D:List Nat}:(A++(B++(C++D))).Perm (C++(A++(B++D))):=(List.Perm.append_left A NW).trans NW
theorem UH {A B C:List Nat}:(A++(B++C)).Perm (C++(A++B)):=by rw[<- Yd A B C];exact List.perm_append_comm
theorem Qs {A B C D:List Nat}:(A++(B++(C++D))).Perm (D++(A++(B++C))):=by rw[<- Yd B C D,<- Yd A (B++C) D];exact List.perm_append_comm
structure WR (lo:Nat) (h:Heap) (w:World) (a1:Pq) (c1:Nq) (a2:Pq) (c2:Nq) (a3:Pq) (c3:Nq) (a4:Pq) (c4:Nq) (F1 F2 F3 F4:List Nat):Prop where
 r1:RPlaces false h [.sl 6 a1 w.places.length c1] w.places F1
 r2:RSesss false h [.sl 5 a2 w.sess.length c2] w.sess F2
 r3:RFrames false h [.sl 9 a3 w.net.length c3] w.net F3
 r4:RDones false h [.sl 5 a4 w.hist.length c4] w.hist F4
 nd:(F1++(F2++(F3++F4))).Nodup
 ge:∀ y∈F1++(F2++(F3++F4)),lo<=y
 hl:lo<=h.length
def K0 (lo:Nat) (h:Heap) (cs:List V) (w:World) (F:List Nat):Prop:=∃ a1 c1 a2 c2 a3 c3 a4 c4 F1 F2 F3 F4,cs=w.cs a1 c1 a2 c2 a3 c3 a4 c4/\F=F1++(F2++(F3++F4))/\WR lo h w a1 c1 a2 c2 a3 c3 a4 c4 F1 F2 F3 F4
section
variable {lo:Nat}{h h':Heap}{w:World}{a1 a2 a3 a4 a:Pq}{c1 c2 c3 c4 c:Nq}{F1 F2 F3 F4:List Nat}
theorem WR.at (H:WR lo h w a1 c1 a2 c2 a3 c3 a4 c4 F1 F2 F3 F4):K0 lo h (w.cs a1 c1 a2 c2 a3 c3 a4 c4) w (F1++(F2++(F3++F4))):=⟨a1,c1,a2,c2,a3,c3,a4,c4,F1,F2,F3,F4,rfl,rfl,H⟩
theorem WR.lt (H:WR lo h w a1 c1 a2 c2 a3 c3 a4 c4 F1 F2 F3 F4):(∀ y∈F1,y<h.length)/\(∀ y∈F2,y<h.length)/\(∀ y∈F3,y<h.length)/\∀ y∈F4,y<h.length :=
 ⟨rplaces_ok.bd _ _ _ _ H.r1,rsesss_ok.bd _ _ _ _ H.r2,rframes_ok.bd _ _ _ _ H.r3,rdones_ok.bd _ _ _ _ H.r4⟩
theorem WR.bd (H:WR lo h w a1 c1 a2 c2 a3 c3 a4 c4 F1 F2 F3 F4):∀ y∈F1++(F2++(F3++F4)),y<h.length:=λy hy=>by
 obtain ⟨g1,g2,g3,g4⟩:=H.lt;simp only[X0] at hy;rcases hy with hy | hy | hy | hy
 ·exact g1 y hy
 ·exact g2 y hy
 ·exact g3 y hy
 ·exact g4 y hy
theorem N0 (h:(F1++(F2++(F3++F4))).Nodup):(F1.Nodup/\F2.Nodup/\F3.Nodup/\F4.Nodup)/\(∀ y∈F1,y∉F2)/\(∀ y∈F1,y∉F3)/\(∀ y∈F1,y∉F4)/\(∀ y∈F2,y∉F3)/\(∀ y∈F2,y∉F4)/\∀ y∈F3,y∉F4:=by simp only[X4,X0] at h;obtain ⟨h1,⟨h2,⟨h3,h4,h5⟩,h6⟩,h7⟩:=h;exact ⟨⟨h1,h2,h3,h4⟩,λy hy hm=>h7 y hy y (.inl hm) rfl,λy hy hm=>h7 y hy y (.inr (.inl hm)) rfl,λy hy hm=>h7 y hy y (.inr (.inr hm)) rfl,λy hy hm=>h6 y hy y (.inl hm) rfl,λy hy hm=>h6 y hy y (.inr hm) rfl,λy hy hm=>h5 y hy y hm rfl⟩
theorem WR.up1 (H:WR lo h w a1 c1 a2 c2 a3 c3 a4 c4 F1 F2 F3 F4) {l:List Place}{G:List Nat} (m:Mv h F1 h' G) (r:RPlaces false h' [.sl 6 a l.length c] l G) :
  WR lo h' ⟨l,w.sess,w.net,w.hist⟩ a c a2 c2 a3 c3 a4 c4 G F2 F3 F4/\Mv h (F1++(F2++(F3++F4))) h' (G++(F2++(F3++F4))):=by
 obtain ⟨_,d12,d13,d14,d23,d24,d34⟩:=N0 H.nd;have m1:Mv h (F1++(F2++(F3++F4))) h' (G++(F2++(F3++F4))):=m.mid (.refl _) H.nd (λy hy=>H.bd y (by simp only[X0] at hy ⊢;grind)) (.refl _);exact ⟨⟨r,m.keep rsesss_ok H.r2 (λb hb hm=>d12 b hm hb),m.keep rframes_ok H.r3 (λb hb hm=>d13 b hm hb),m.keep rdones_ok H.r4 (λb hb hm=>d14 b hm hb),m1.nd,m1.ge H.hl H.ge,XX H.hl m.le⟩,m1⟩
theorem WR.up2 (H:WR lo h w a1 c1 a2 c2 a3 c3 a4 c4 F1 F2 F3 F4) {l:List Sess}{G:List Nat} (m:Mv h F2 h' G) (r:RSesss false h' [.sl 5 a l.length c] l G) :
  WR lo h' ⟨w.places,l,w.net,w.hist⟩ a1 c1 a c a3 c3 a4 c4 F1 G F3 F4/\Mv h (F1++(F2++(F3++F4))) h' (F1++(G++(F3++F4))):=by
 obtain ⟨_,d12,d13,d14,d23,d24,d34⟩:=N0 H.nd;have m1:Mv h (F1++(F2++(F3++F4))) h' (F1++(G++(F3++F4))):=m.mid NW H.nd (λy hy=>H.bd y (by simp only[X0] at hy ⊢;grind)) NW;exact ⟨⟨m.keep rplaces_ok H.r1 (λb hb hm=>d12 b hb hm),r,m.keep rframes_ok H.r3 (λb hb hm=>d23 b hm hb),m.keep rdones_ok H.r4 (λb hb hm=>d24 b hm hb),m1.nd,m1.ge H.hl H.ge,XX H.hl m.le⟩,m1⟩
theorem WR.up3 (H:WR lo h w a1 c1 a2 c2 a3 c3 a4 c4 F1 F2 F3 F4) {l:List Frame}{G:List Nat} (m:Mv h F3 h' G) (r:RFrames false h' [.sl 9 a l.length c] l G) :
  WR lo h' ⟨w.places,w.sess,l,w.hist⟩ a1 c1 a2 c2 a c a4 c4 F1 F2 G F4/\Mv h (F1++(F2++(F3++F4))) h' (F1++(F2++(G++F4))):=by
 obtain ⟨_,d12,d13,d14,d23,d24,d34⟩:=N0 H.nd;have m1:Mv h (F1++(F2++(F3++F4))) h' (F1++(F2++(G++F4))):=m.mid SL H.nd (λy hy=>H.bd y (by simp only[X0] at hy ⊢;grind)) SL;exact ⟨⟨m.keep rplaces_ok H.r1 (λb hb hm=>d13 b hb hm),m.keep rsesss_ok H.r2 (λb hb hm=>d23 b hb hm),r,m.keep rdones_ok H.r4 (λb hb hm=>d34 b hm hb),m1.nd,m1.ge H.hl H.ge,XX H.hl m.le⟩,m1⟩
theorem WR.up4 (H:WR lo h w a1 c1 a2 c2 a3 c3 a4 c4 F1 F2 F3 F4) {l:List Done}{G:List Nat} (m:Mv h F4 h' G) (r:RDones false h' [.sl 5 a l.length c] l G) :
  WR lo h' ⟨w.places,w.sess,w.net,l⟩ a1 c1 a2 c2 a3 c3 a c F1 F2 F3 G/\Mv h (F1++(F2++(F3++F4))) h' (F1++(F2++(F3++G))):=by
 obtain ⟨_,d12,d13,d14,d23,d24,d34⟩:=N0 H.nd;have m1:Mv h (F1++(F2++(F3++F4))) h' (F1++(F2++(F3++G))):=m.mid Qs H.nd (λy hy=>H.bd y (by simp only[X0] at hy ⊢;grind)) Qs;exact ⟨⟨m.keep rplaces_ok H.r1 (λb hb hm=>d14 b hb hm),m.keep rsesss_ok H.r2 (λb hb hm=>d24 b hb hm),m.keep rframes_ok H.r3 (λb hb hm=>d34 b hb hm),r,m1.nd,m1.ge H.hl H.ge,XX H.hl m.le⟩,m1⟩
theorem WR.up0 (H:WR lo h w a1 c1 a2 c2 a3 c3 a4 c4 F1 F2 F3 F4) (m:Mv h [] h' []):WR lo h' w a1 c1 a2 c2 a3 c3 a4 c4 F1 F2 F3 F4/\Mv h (F1++(F2++(F3++F4))) h' (F1++(F2++(F3++F4))) :=
 ⟨⟨m.keep0 rplaces_ok H.r1,m.keep0 rsesss_ok H.r2,m.keep0 rframes_ok H.r3,m.keep0 rdones_ok H.r4,H.nd,H.ge,XX H.hl m.le⟩,m.aside (by simpa using H.nd) H.bd⟩
theorem WR.place (H:WR lo h w a1 c1 a2 c2 a3 c3 a4 c4 F1 F2 F3 F4) {k:Nat} (hk:k<w.places.length):∃ b i s1 s2 s3 b1 d1 b2 d2 b3 d3 G1 G2 G3,a1=some (b,i) /\
  ld h b (i+k) 0 6=some [Iv w.places[k].me,Iv w.places[k].clock,s1,s2,s3,.bool w.places[k].fell]/\ld h b (i+k) 2 1=some [s1]/\ld h b (i+k) 3 1=some [s2] /\
  (∀ {R':Type} (K:Pq->Nat->Nq->Option R'),eS 2 s1 K=K b1 w.places[k].chain.length d1)/\(∀ {R':Type} (K:Pq->Nat->Nq->Option R'),eS 6 s2 K=K b2 w.places[k].log.length d2) /\
  (∀ {R':Type} (K:Pq->Nat->Nq->Option R'),eS 1 s3 K=K b3 w.places[k].got.length d3) /\
  RNodes false h [.sl 2 b1 w.places[k].chain.length d1] w.places[k].chain G1/\RVers false h [.sl 6 b2 w.places[k].log.length d2] w.places[k].log G2/\RVss false h [.sl 1 b3 w.places[k].got.length d3] w.places[k].got G3 /\
  (G1++(G2++G3)).Nodup/\(∀ y∈G1++(G2++G3),lo<=y/\y<h.length/\y∈F1) /\
  ∀ h1 G p' cs',Mv h (G1++(G2++G3)) h1 G->RPlace false h1 cs' p' G->cs'.length=6 ->
   ∃ h2 F1',st lo h1 b (i+k) 0 cs'=some h2/\WR lo h2 (setP w k p') a1 c1 a2 c2 a3 c3 a4 c4 F1' F2 F3 F4/\Mv h (F1++(F2++(F3++F4))) h2 (F1'++(F2++(F3++F4))):=by
 obtain ⟨⟨n1,_⟩,_⟩:=N0 H.nd;obtain ⟨b,i,rs,row,G,ha,hbF,hbG,hb,hrow,hel,hGF,hGn,_,put⟩:=Sli.at (lo:=lo) rplace_ok H.r1 hk n1 (λy hy=>H.ge y (by simp[hy]));obtain ⟨s1,s2,s3,b1,d1,b2,d2,b3,d3,G1,G2,G3,rfl,rfl,e1,e2,e3,g1,g2,g3⟩:=hel.form;refine ⟨b,i,s1,s2,s3,b1,d1,b2,d2,b3,d3,G1,G2,G3,ha,by rw[Dg hb hrow];exact JG rfl,by rw[Dg hb hrow];rfl,by rw[Dg hb hrow];rfl,e1,e2,e3,g1,g2,g3,hGn,λy hy=>⟨H.ge y (by simp[hGF y hy]),H.lt.1 y (hGF y hy),hGF y hy⟩,λh1 G p' cs' m hx hc=>?_⟩;obtain ⟨h2,F',e,r,m2,_⟩:=put h1 G 0 cs' cs' p' m (Il (by rw[hc];rfl)) hx;have hlen:(w.places.set k p').length=w.places.length:=by simp
 rw[<- hlen] at r;obtain ⟨q1,q2⟩:=H.up1 m2 r;exact ⟨h2,F',e,q1,q2⟩
end
section
variable {lo:Nat}{h:Heap}{p:Place}{b1 b2 b3:Pq}{d1 d2 d3:Nq}{G1 G2 G3:List Nat}
theorem UI {f:Nat} (g1:RNodes false h [.sl 2 b1 p.chain.length d1] p.chain G1) (g2:RVers false h [.sl 6 b2 p.log.length d2] p.log G2) (g3:RVss false h [.sl 1 b3 p.got.length d3] p.got G3) (hpo:Ap p=true) (hc:CB p.chain (f:Int)=true)
  (nd:(G1++(G2++G3)).Nodup) (hlo:∀ y∈G1++(G2++G3),lo<=y) (hl:lo<=h.length) :
  ∃ a6 c6 h5 h6 G,Ae lo 160 [.agg [.sl 2 b1 p.chain.length d1],Iv (f:Nat)] h=some (.agg [.sl 2 b1 p.chain.length d1],h5) /\
   Ae lo 161 [.agg [Iv p.me,Iv p.clock,.sl 2 b1 p.chain.length d1,.sl 6 b2 p.log.length d2,.sl 1 b3 p.got.length d3,.bool p.fell]] h5=some (.agg ((DS p f).cs b1 d1 a6 c6 b3 d3),h6) /\
   RPlace false h6 ((DS p f).cs b1 d1 a6 c6 b3 d3) (DS p f) G/\Mv h (G1++(G2++G3)) h6 G:=by
 have hn:=(E8 (CI hpo) (by decide) (by decide) (by decide)).1;have hb:∀ y∈G1++(G2++G3),y<h.length:=λy hy=>by
  simp only[X0] at hy;rcases hy with hy | hy | hy
  ·exact rnodes_ok.bd _ _ _ _ g1 y hy
  ·exact rvers_ok.bd _ _ _ _ g2 y hy
  ·exact rvss_ok.bd _ _ _ _ g3 y hy
 have hc':=hc;unfold CB at hc';rw[C3] at hc';obtain ⟨hw,hps⟩:=hc';simp only[Ag,C3,decide_eq_true_eq] at hw;rw[By] at hps;have hk':f<p.chain.length:=by omega
 rw[IQ hk',C3,decide_eq_true_eq] at hps;have nd':=nd;rw[X4,X4] at nd';obtain ⟨nd1,⟨nd2,nd3,N0⟩,nd5⟩:=nd';obtain ⟨h5,F5,e5,r5,m5⟩:=P9 (lo:=lo) g1 (by omega) hps.1 nd1 (λy hy=>hlo y (by simp[hy])) hl hn.1 (SM hpo);have g25:=m5.keep rvers_ok g2 λy hy hm=>nd5 y hm y (by simp[hy]) rfl;have ht:=SF (To (k:=f) (CI hpo)) (by decide) (by decide) (by decide);rw[<- JX (k:=f)] at r5;have d1':=(Lz m5 (Mv.refl nd2) nd hb).2.1;obtain ⟨a6,c6,h6,F6,e6,r6,m6⟩:=LG (lo:=lo) (p:=KK p f) (a3:=b3) (c3:=d3) r5 g25 (by show 0<(FM _ _).length;rw[JX];omega) ht d1' nd2 (λy hy=>hlo y (by simp[hy])) (XX hl m5.le);have hcs:(KK p f).cs b1 d1 b2 d2 b3 d3 = [Iv p.me,Iv p.clock,.sl 2 b1 p.chain.length d1,.sl 6 b2 p.log.length d2,.sl 1 b3 p.got.length d3,.bool p.fell]:=by simp only[Place.cs,KK,JX]
 rw[hcs] at e6;obtain ⟨m7,x1,x2,x3⟩:=Lz m5 m6 nd hb;have hx:DS p (f:Int)=CJ (KK p f):=by unfold DS;rw[hc,cond_true,By]
 rw[hx];exact ⟨a6,c6,h5,h6,F5++(F6++G3),e5,e6,⟨_,_,_,F5,F6,G3,rfl,rfl,m6.keep rnodes_ok r5 x1,r6,m6.keep rvss_ok (m5.keep rvss_ok g3 x2) x3⟩,m7⟩
theorem Vf {f:Nat} (g1:RNodes false h [.sl 2 b1 p.chain.length d1] p.chain G1) (g2:RVers false h [.sl 6 b2 p.log.length d2] p.log G2) (g3:RVss false h [.sl 1 b3 p.got.length d3] p.got G3) (hpo:Ap p=true) (hc:Dk p (f:Int)=true)
  (nd:(G1++(G2++G3)).Nodup) (hlo:∀ y∈G1++(G2++G3),lo<=y) (hl:lo<=h.length) :
  ∃ a5 c5 a6 c6 h5 h6 G,Ae lo 163 [.agg [.sl 2 b1 p.chain.length d1],Iv (f:Nat)] h=some (.agg [.sl 2 a5 (BT p.chain f).length c5],h5) /\
   Ae lo 161 [.agg [Iv p.me,Iv p.clock,.sl 2 a5 (BT p.chain f).length c5,.sl 6 b2 p.log.length d2,.sl 1 b3 p.got.length d3,.bool true]] h5=some (.agg ((DT p f).cs a5 c5 a6 c6 b3 d3),h6) /\
   RPlace false h6 ((DT p f).cs a5 c5 a6 c6 b3 d3) (DT p f) G/\Mv h (G1++(G2++G3)) h6 G:=by
 have hn:=(E8 (CI hpo) (by decide) (by decide) (by decide)).1;have hb:∀ y∈G1++(G2++G3),y<h.length:=λy hy=>by
  simp only[X0] at hy;rcases hy with hy | hy | hy
  ·exact rnodes_ok.bd _ _ _ _ g1 y hy
  ·exact rvers_ok.bd _ _ _ _ g2 y hy
  ·exact rvss_ok.bd _ _ _ _ g3 y hy
 have hc':=hc;unfold Dk GV at hc';simp only[C3,Ag,decide_eq_true_eq] at hc';obtain ⟨hfl,hw,hl1⟩:=hc';have hk':f<p.chain.length:=by omega
 have nd':=nd;rw[X4,X4] at nd';obtain ⟨nd1,⟨nd2,nd3,N0⟩,nd5⟩:=nd';obtain ⟨a5,c5,h5,F5,e5,r5,m5⟩:=Qc (lo:=lo) g1 hk' hl1 (TS (AE hpo).2.2.2.1 (by omega)) nd1 (λy hy=>hlo y (by simp[hy])) hl hn.1.1 (λx hx=>(SM hpo x hx).1);have g25:=m5.keep rvers_ok g2 λy hy hm=>nd5 y hm y (by simp[hy]) rfl;have ht:=SF (Tp (k:=f) (CI hpo)) (by decide) (by decide) (by decide);have d1':=(Lz m5 (Mv.refl nd2) nd hb).2.1;obtain ⟨a6,c6,h6,F6,e6,r6,m6⟩:=LG (lo:=lo) (p:=Or p f) (a3:=b3) (c3:=d3) r5 g25 (by show 0<(BT _ _).length;rw[Io hk' hl1];omega) ht d1' nd2 (λy hy=>hlo y (by simp[hy])) (XX hl m5.le);have hcs:(Or p f).cs a5 c5 b2 d2 b3 d3 = [Iv p.me,Iv p.clock,.sl 2 a5 (BT p.chain f).length c5,.sl 6 b2 p.log.length d2,.sl 1 b3 p.got.length d3,.bool true]:=rfl;rw[hcs] at e6;obtain ⟨m7,x1,x2,x3⟩:=Lz m5 m6 nd hb;have hx:DT p (f:Int)=CJ (Or p f):=by unfold DT;rw[hc,cond_true,By]
 rw[hx];exact ⟨a5,c5,a6,c6,h5,h6,F5++(F6++G3),e5,e6,⟨_,_,_,F5,F6,G3,rfl,rfl,m6.keep rnodes_ok r5 x1,r6,m6.keep rvss_ok (m5.keep rvss_ok g3 x2) x3⟩,m7⟩
theorem U1 (g1:RNodes false h [.sl 2 b1 p.chain.length d1] p.chain G1) (g2:RVers false h [.sl 6 b2 p.log.length d2] p.log G2) (g3:RVss false h [.sl 1 b3 p.got.length d3] p.got G3) (hpo:Ap p=true) (hc:Ez p.chain=true)
  (nd:(G1++(G2++G3)).Nodup) (hlo:∀ y∈G1++(G2++G3),lo<=y) (hl:lo<=h.length) :
  ∃ a5 c5 h5 G,Ae lo 164 [.agg [.sl 2 b1 p.chain.length d1]] h=some (.agg [.sl 2 a5 (If p.chain).length c5],h5) /\
   RPlace false h5 ((Jt p).cs a5 c5 b2 d2 b3 d3) (Jt p) G/\Mv h (G1++(G2++G3)) h5 G:=by
 have hn:=(E8 (CI hpo) (by decide) (by decide) (by decide)).1;have hb:∀ y∈G1++(G2++G3),y<h.length:=λy hy=>by
  simp only[X0] at hy;rcases hy with hy | hy | hy
  ·exact rnodes_ok.bd _ _ _ _ g1 y hy
  ·exact rvers_ok.bd _ _ _ _ g2 y hy
  ·exact rvss_ok.bd _ _ _ _ g3 y hy
 have h0:=EU hpo;have nd':=nd;rw[X4,X4] at nd';obtain ⟨nd1,⟨nd2,nd3,N0⟩,nd5⟩:=nd';obtain ⟨a5,c5,h5,F5,e5,r5,m5⟩:=Qb (lo:=lo) g1 h0 hn.1 nd1 (λy hy=>hlo y (by simp[hy])) hl;have hj:If p.chain=Gr p.chain:=by unfold If;rw[hc];rfl
 have hjl:(Gr p.chain).length=p.chain.length+1:=by rw[EQ h0];simp
 obtain ⟨m7,x1,x2,x3⟩:=Lz m5 (Mv.refl nd2) nd hb;rw[<- hjl,<- hj] at e5 r5;refine ⟨a5,c5,h5,F5++(G2++G3),e5,⟨_,_,_,F5,G2,G3,rfl,rfl,r5,m5.keep rvers_ok g2 λy hy hm=>nd5 y hm y (by simp[hy]) rfl,m5.keep rvss_ok g3 x2⟩,m7⟩
end


variable {p:Place}
structure Fits (w:World):Prop where
 ok:Wd w
theorem Good.fits {w:World} (hg:Good w):Fits w:=⟨hg.ok⟩
section
variable {lo:Nat}{h h':Heap}{w:World}{a1 a2 a3 a4 a:Pq}{c1 c2 c3 c4 c:Nq}{F1 F2 F3 F4:List Nat}
theorem SI {k:Nat}:(setP w k p).cs a1 c1 a2 c2 a3 c3 a4 c4=w.cs a1 c1 a2 c2 a3 c3 a4 c4:=by simp only[World.cs,setP,YC]
theorem Fits.at (hg:Fits w) {k:Nat} (hk:k<w.places.length):Ap w.places[k]=true/\w.places[k].me=(k:Int)/\True:=by have:=hg.ok.place k _ (CX hk);exact ⟨this.2,this.1,trivial⟩
theorem Uu {f:Nat}{b1 b2 b3:Pq}{d1 d2 d3:Nq}{G1 G2 G3:List Nat} (g1:RNodes false h [.sl 2 b1 p.chain.length d1] p.chain G1) (g2:RVers false h [.sl 6 b2 p.log.length d2] p.log G2) (g3:RVss false h [.sl 1 b3 p.got.length d3] p.got G3) (hpo:Ap p=true) (hc:Dj p (f:Int)=true)
  (nd:(G1++(G2++G3)).Nodup) (hlo:∀ y∈G1++(G2++G3),lo<=y) (hl:lo<=h.length) :
  ∃ a1' c1' a2' c2' a3' c3' h' G,Ae lo 166 [.agg (p.cs b1 d1 b2 d2 b3 d3),Iv (f:Nat)] h=some (.agg ((DR p (f:Int)).cs a1' c1' a2' c2' a3' c3'),h')/\RPlace false h' ((DR p (f:Int)).cs a1' c1' a2' c2' a3' c3') (DR p (f:Int)) G/\Mv h (G1++(G2++G3)) h' G:=by
 have hn:=(E8 (CI hpo) (by decide) (by decide) (by decide)).1;have hx:DR p (f:Int)=Ja p f:=by unfold DR;rw[hc,cond_true,By]
 unfold Dj at hc;rw[C3,By] at hc;obtain ⟨hw,ht⟩:=hc;simp only[Ag,C3,decide_eq_true_eq] at hw;have h3:=(AE hpo).2.2.1;obtain ⟨a2',c2',h',F',e,⟨_,_,_,_,_,_,ecs,r⟩,m⟩:=P7 (lo:=lo) (f:=f) g1 g2 g3 hpo (by omega) hn ht nd hlo hl;rw[hx];exact ⟨_,_,_,_,_,_,h',F',e,r,m⟩
theorem OL {e:Event} (H:WR lo h w a1 c1 a2 c2 a3 c3 a4 c4 F1 F2 F3 F4) (hg:Fits w) :
  ∃ cs' h' F',Ae lo 124 [.agg (w.cs a1 c1 a2 c2 a3 c3 a4 c4),.agg e.cs] h=some (.tup [.agg cs',.bool (FL w e).isSome],h')/\K0 lo h' cs' ((FL w e).getD w) F'/\Mv h (F1++(F2++(F3++F4))) h' F'/\((FL w e)=none->cs'=w.cs a1 c1 a2 c2 a3 c3 a4 c4):=by
 obtain ⟨kind,at',num,key,text,gone⟩:=e;suffices hk:∃ cs' h' F',_=some (V.tup [.agg cs',.bool (FL w ⟨kind,at',num,key,text,gone⟩).isSome],h')/\K0 lo h' cs' ((FL w ⟨kind,at',num,key,text,gone⟩).getD w) F'/\Mv h (F1++(F2++(F3++F4))) h' F'/\((FL w ⟨kind,at',num,key,text,gone⟩)=none->cs'=w.cs a1 c1 a2 c2 a3 c3 a4 c4) from by obtain ⟨cs',h',F',e,hr⟩:=hk;exact ⟨cs',h',F',MF e,hr⟩
 rw[AY,Ac,A2];unfold FL;cases hat:Ag at' 0 2 with
 | false =>rw[AC];exact ⟨_,h,_,rfl,H.at,Mv.refl H.nd,λ_=>rfl⟩
 | true =>
 simp only[Ag,C3,decide_eq_true_eq] at hat;obtain ⟨k,rfl⟩:∃ k:Nat,at'=(k:Int):=⟨at'.toNat,by omega⟩;have hk:k<w.places.length:=by have:=hg.ok.p3;omega
 obtain ⟨hpo,hme,hro⟩:=hg.at hk;have hn:=(E8 (CI hpo) (by decide) (by decide) (by decide)).1;obtain ⟨b,i,s1,s2,s3,b1,d1,b2,d2,b3,d3,G1,G2,G3,rfl,hld,_,_,e1,e2,e3,g1,g2,g3,nd,hF,put⟩:=H.place hk;have hFlo:∀ y∈G1++(G2++G3),lo<=y:=λy hy=>(hF y hy).1
 rw[Ax,Ad hk,Af,By,hld,Af,Ab,Aa,Ab,Aa,Ab,e1,Ab,e2,Ab,e3,Ab,Bd,Ai,cond_true,CX hk];simp only[];generalize hp:w.places[k]=p at hpo hme hro hn hld e1 e2 e3 g1 g2 g3 put;have done:∀ (h1:Heap) (G:List Nat) (p':Place) (cs':List V),Mv h (G1++(G2++G3)) h1 G->RPlace false h1 cs' p' G->cs'.length=6 ->
   ∃ h2 F',st lo h1 b (i+k) 0 cs'=some h2/\K0 lo h2 (w.cs (some (b,i)) c1 a2 c2 a3 c3 a4 c4) (setP w k p') F'/\Mv h (F1++(F2++(F3++F4))) h2 F':=λh1 G p' cs' m r hc=>by
  obtain ⟨h2,F1',e,q,m2⟩:=put h1 G p' cs' m r hc;refine ⟨h2,_,e,?_,m2⟩;rw[<- SI (k:=k) (p:=p')];exact q.at
 have hsame:setP w k p=w:=by unfold setP;rw[<- hp,Zn]
 obtain ⟨h9,F9,e9,W9,m9⟩:=done h _ p (p.cs b1 d1 b2 d2 b3 d3) (Mv.refl nd) ⟨_,_,_,G1,G2,G3,rfl,rfl,g1,g2,g3⟩ rfl;rw[hsame] at W9;simp only[Place.cs] at e9;cases h6:kind==6 with
 | true =>
  rw[Ax,Rz g1 hn.1.1,Ac,A2];cases hc:CB p.chain num with
  | false =>
   have hs:Dp p ⟨kind,(k:Nat),num,key,text,gone⟩=none:=by simp only[Dp,h6,hc,cond_true,cond_false]
   rw[AC,Ad hk,Af,e9,Af,hs];exact ⟨_,h9,F9,rfl,W9,m9,λ_=>rfl⟩
  | true =>
   obtain ⟨f,rfl⟩:∃ f:Nat,num=(f:Int):=by unfold CB at hc;simp only[Ag,C3,decide_eq_true_eq] at hc;exact ⟨num.toNat,by omega⟩
   have hs:Dp p ⟨kind,(k:Nat),(f:Nat),key,text,gone⟩=some (DS p f):=by simp only[Dp,h6,hc,cond_true]
   obtain ⟨a6,c6,h5,h6',G,e5,e6,r6,m6⟩:=UI (lo:=lo) g1 g2 g3 hpo hc nd hFlo H.hl;obtain ⟨h8,F8,e8,W8,m8⟩:=done h6' G _ _ m6 r6 rfl;simp only[Place.cs] at e6 e8;rw[Ax,e5,Ac,AW,Ab,Ah,Ai,e6,Ac,AW,Ab,Aa,Ab,Aa,Ab,Ah,Ab,Ah,Ab,Ah,Ab,Bd,Ai,Ad hk,Af,e8,Af,hs];exact ⟨_,h8,F8,rfl,W8,m8,λg=>by first | cases g | (simp at g)⟩
 | false =>
 rw[AC];cases h7:kind==7 with
 | true =>
  have ec:=LJ (lo:=lo) (h:=h) (p:=p) (k:=num) (a1:=b1) (c1:=d1) (a2:=b2) (c2:=d2) (a3:=b3) (c3:=d3) hn.1.1;simp only[Place.cs] at ec;rw[Ax,ec,Ac,A2];cases hc:Dk p num with
  | false =>
   have hs:Dp p ⟨kind,(k:Nat),num,key,text,gone⟩=none:=by simp only[Dp,h6,h7,hc,cond_true,cond_false]
   rw[AC,Ad hk,Af,e9,Af,hs];exact ⟨_,h9,F9,rfl,W9,m9,λ_=>rfl⟩
  | true =>
   obtain ⟨f,rfl⟩:∃ f:Nat,num=(f:Int):=by unfold Dk GV at hc;simp only[Ag,C3,decide_eq_true_eq] at hc;exact ⟨num.toNat,by omega⟩
   have hs:Dp p ⟨kind,(k:Nat),(f:Nat),key,text,gone⟩=some (DT p f):=by simp only[Dp,h6,h7,hc,cond_true,cond_false]
   obtain ⟨a5,c5,a6,c6,h5,h6',G,e5,e6,r6,m6⟩:=Vf (lo:=lo) g1 g2 g3 hpo hc nd hFlo H.hl;obtain ⟨h8,F8,e8,W8,m8⟩:=done h6' G _ _ m6 r6 rfl;simp only[Place.cs] at e6 e8;rw[Ax,e5,Ac,AW,Ab,Ah,Ai,e6,Ac,AW,Ab,Aa,Ab,Aa,Ab,Ah,Ab,Ah,Ab,Ah,Ab,Bd,Ai,Ad hk,Af,e8,Af,hs];exact ⟨_,h8,F8,rfl,W8,m8,λg=>by first | cases g | (simp at g)⟩
 | false =>
 rw[AC];cases h8:kind==8 with
 | true =>
  rw[Ax];cases hc:Ez p.chain with
  | false =>
   have hs:Dp p ⟨kind,(k:Nat),num,key,text,gone⟩=none:=by simp only[Dp,h6,h7,h8,hc,cond_true,cond_false]
   unfold Ez at hc;rw[decide_eq_false_iff_not] at hc;rw[Ao hc,Ad hk,Af,e9,Af,hs];exact ⟨_,h9,F9,rfl,W9,m9,λ_=>rfl⟩
  | true =>
   have hs:Dp p ⟨kind,(k:Nat),num,key,text,gone⟩=some (Jt p):=by simp only[Dp,h6,h7,h8,hc,cond_true,cond_false]
   obtain ⟨a5,c5,h5,G,e5,r6,m6⟩:=U1 (lo:=lo) g1 g2 g3 hpo hc nd hFlo H.hl;obtain ⟨h8',F8,e8,W8,m8⟩:=done h5 G _ _ m6 r6 rfl;unfold Ez at hc;rw[decide_eq_true_eq] at hc;simp only[Place.cs,Jt] at e8;rw[Am hc,e5,Ac,AW,Ab,Ah,Ai,Ad hk,Af,e8,Af,hs];exact ⟨_,h8',F8,rfl,W8,m8,λg=>by first | cases g | (simp at g)⟩
 | false =>
 rw[AC,AY,Ac,A2];cases hw:Ag num 0 2 with
 | false =>
  have hs:Dp p ⟨kind,(k:Nat),num,key,text,gone⟩=none:=by simp only[Dp,h6,h7,h8,Dj,hw,Y6,cond_true,cond_false]
  rw[AC,Ad hk,Af,e9,Af,hs];exact ⟨_,h9,F9,rfl,W9,m9,λ_=>rfl⟩
 | true =>
  have hw':=hw;simp only[Ag,C3,decide_eq_true_eq] at hw';obtain ⟨f,rfl⟩:∃ f:Nat,num=(f:Int):=⟨num.toNat,by omega⟩;have h3:=(AE hpo).2.2.1;have ec:=LI (lo:=lo) (f:=f) (a2:=b2) (c2:=d2) g1 g3 hpo (by omega) hn;simp only[Place.cs] at ec;rw[Ax,ec,Ac,A2];cases hc:I9 p f with
  | false =>
   have hs:Dp p ⟨kind,(k:Nat),(f:Nat),key,text,gone⟩=none:=by simp only[Dp,h6,h7,h8,Dj,hw,By,hc,Bool.and_false,cond_true,cond_false]
   rw[AC,Ad hk,Af,e9,Af,hs];exact ⟨_,h9,F9,rfl,W9,m9,λ_=>rfl⟩
  | true =>
   have hct:Dj p (f:Int)=true:=by unfold Dj;rw[hw,By,hc];rfl
   have hs:Dp p ⟨kind,(k:Nat),(f:Nat),key,text,gone⟩=some (DR p f):=by simp only[Dp,h6,h7,h8,hct,cond_true,cond_false]
   obtain ⟨x1,y1,x2,y2,x3,y3,h5,G,e5,r6,m6⟩:=Uu (lo:=lo) g1 g2 g3 hpo hct nd hFlo H.hl;obtain ⟨h8',F8,e8,W8,m8⟩:=done h5 G _ _ m6 r6 rfl;simp only[Place.cs] at e5 e8;rw[Ax,e5,Ac,AW,Ab,Aa,Ab,Aa,Ab,Ah,Ab,Ah,Ab,Ah,Ab,Bd,Ai,Ad hk,Af,e8,Af,hs];exact ⟨_,h8',F8,rfl,W8,m8,λg=>by first | cases g | (simp at g)⟩
end


variable {α:Type}{El:Rel α}{h:Heap}{a:Pq}{c:Nq}{F:List Nat}{l:List α}{xs:List (List V)}{Fs:List (List Nat)}
theorem T8 (ok:El.Ok) {lo R ee bytes:Nat}{k:Nat} (hs:Sli false R ee El h [.sl R a l.length c] l F) (hk:k<l.length) (hnd:F.Nodup) (hlo:∀ b∈F,lo<=b) (hl:lo<=h.length) (hby:0<bytes) (hn:l.length*bytes<=140737488355328) :
  ∃ a' c' h' F',(∀ {T:Type} (K:V->Heap->Option T),(AB a l.length c none (some (Iv (k:Nat))) none λa_0 n_1 c_2=>Aj R (h ++ [.rows R ee false []]) (.sl R a_0 n_1 c_2) λx_3=>CC lo ee R bytes (.sl R (some ((List.length h),0)) 0 (some 0)) x_3 (h ++ [.rows R ee false []]) λv_4 h_5=>eS R (v_4) λa_6 n_7 c_8 =>
    AB a l.length c (some (Iv ((k+1:Nat):Int))) none none λa_9 n_10 c_11=>Aj R h_5 (.sl R a_9 n_10 c_11) λx_12=>CC lo ee R bytes (.sl R a_6 n_7 c_8) x_12 h_5 K)=K (.sl R a' (l.eraseIdx k).length c') h') /\
   Sli false R ee El h' [.sl R a' (l.eraseIdx k).length c'] (l.eraseIdx k) F'/\Mv h F h' F':=by
 have hbd:=(Sli.ok ok).bd _ _ _ _ hs;obtain ⟨Fs,nF,sF,own,cuts⟩:=Sli.parts hs hnd;obtain ⟨rP,_,eP,_,kP,_⟩:=cuts k (by omega);obtain ⟨_,rQ,_,eQ,_,kQ⟩:=cuts (k+1) (by omega);obtain ⟨nP,_,dPQ⟩:=Do (k:=k) nF;obtain ⟨_,nQ,_⟩:=Do (k:=k+1) nF;have inP:∀ y∈(Fs.take k).flatten,y∈Fs.flatten:=λy hy=>by rw[<- Yx k Fs,Yq];simp[hy]
 have inQ:∀ y∈(Fs.drop (k+1)).flatten,y∈(Fs.drop k).flatten:=λy hy=>by
  have:Fs.drop (k+1)=(Fs.drop k).drop 1:=by rw[Y5]
  rw[this] at hy;rw[<- Yx 1 (Fs.drop k),Yq];exact X0.2 (.inr hy)
 have inQ':∀ y∈(Fs.drop (k+1)).flatten,y∈Fs.flatten:=λy hy=>by rw[<- Yx k Fs,Yq];simp[inQ y hy]
 have hFl:∀ y∈Fs.flatten,y<h.length:=λy hy=>hbd y (sF y hy);have htl:(l.take k).length=k:=by rw[YE];omega
 have hdl:(l.drop (k+1)).length=l.length - (k+1):=by rw[YY]
 obtain ⟨a3,c3,h3,F3,e3,r3,l3,fr3,sub3,nd3⟩:=Hp (lo:=lo) (R:=R) (e:=ee) (bytes:=bytes) ok eP nP (λy hy=>hFl y (inP y hy)) hby (by rw[htl];exact XX (Yt _ (by omega)) hn) hl;have hQ3:∀ y∈(Fs.drop (k+1)).flatten,y∉F3/\y<h3.length:=λy hy=>by
  have:=hFl y (inQ' y hy);refine ⟨λhm3=>?_,by omega⟩;rcases sub3 y hm3 with g | g
  ·exact dPQ y g y (inQ y hy) rfl
  ·omega
 have F3b:∀ y∈F3,y<h3.length:=(Sli.ok ok).bd _ _ _ _ r3;obtain ⟨a7,c7,h7,F7,e7,r7,l7,fr7,sub7,nd7⟩:=Ij (lo:=lo) (bytes:=bytes) ok.fr r3 (xs:=rQ) (ys:=l.drop (k+1)) (Gs:=Fs.drop (k+1)) (eQ.fr ok.fr λy hy=>fr3 y (hFl y (inQ' y hy))) hby (by rw[htl,hdl];exact XX (Yt _ (by omega)) hn) (λy hy=>by
   rcases sub3 y hy with g | g
   ·exact hlo y (sF y (inP y g))
   ·omega) (by omega) (by
   rw[X4];refine ⟨nd3,nQ,λx hx y hy e=>?_⟩;subst e;exact (hQ3 x hy).1 hx) (λy hy=>by
   rcases X0.1 hy with hy | hy
   ·exact F3b y hy
   ·exact (hQ3 y hy).2)
 have hel:(l.take k).length+(l.drop (k+1)).length=(l.eraseIdx k).length:=by rw[YS hk,htl,hdl];omega
 have her:l.take k++l.drop (k+1)=l.eraseIdx k:=(List.eraseIdx_eq_take_drop_succ l k).symm;rw[hel] at e7 r7;rw[her] at r7;have mm0:Mv h [] (h ++ [.rows R ee false []]) []:=Mv.snoc;refine ⟨a7,c7,h7,F7,λK=>?_,r7,⟨by omega,λy hy hyF=>?_,nd7,λy hy=>?_⟩⟩
 ·rw[kP _ (λb i e=>mm0.fr b (hbd b (own b i e).1) (by simp)),e3,Ah,kQ _ (λb i e=>fr3 b (hbd b (own b i e).1)),e7]
 ·have y3:y∉F3:=λhm3=>by
   rcases sub3 y hm3 with g | g
   ·exact hyF (sF y (inP y g))
   ·omega
  rw[fr7 y (by omega) y3,fr3 y hy]
 ·rcases sub7 y hy with g | g
  ·rcases X0.1 g with g | g
   ·rcases sub3 y g with g | g
    ·exact .inl (sF y (inP y g))
    ·exact .inr (by omega)
   ·exact .inl (sF y (inQ' y g))
  ·exact .inr (by omega)
theorem Kd {h:Heap}:∀ {xs:List (List V)},EAll (flat id) h xs xs (xs.map λ_ => [])
 | []=>trivial
 | x :: xs=>⟨⟨rfl,rfl⟩,Kd⟩
theorem Mq {rows:List (List V)} (hx:EAll (flat id) h rows xs Fs):rows=xs/\Fs.flatten = []:=by have:=hx.of_flat;simpa using this
theorem Sli.bare {R e n:Nat} (hs:Sli false R e El h [.sl R a n c] l F) :
  ∃ xs Fs F0,Sli false R e (flat id) h [.sl R a n c] xs F0/\EAll El h xs l Fs/\F=F0++Fs.flatten:=by
 obtain ⟨R1,a1,c1,e1,g⟩:=hs;injection e1 with e1 _;injection e1 with e0 e2 e4 e3;subst e2;subst e3;subst e4;cases a with
 | none =>obtain ⟨rfl,rfl,rfl⟩:=g;exact ⟨[],[],[],⟨R1,none,some 0,by rw[e0];rfl,rfl,rfl,rfl⟩,trivial,rfl⟩
 | some p =>
  obtain ⟨b,i⟩:=p;obtain ⟨_,rs,Fs,g1,g2,g3,g4,g5,rfl⟩:=g;have hlen:((rs.drop i).take l.length).length=l.length:=by rw[YE,YY];omega
  refine ⟨(rs.drop i).take l.length,Fs,[b],⟨R,some (b,i),c,by rw[hlen],rfl,rs,_,g1,by rw[hlen];exact g2,by rw[hlen];exact g3,g4,?_,by rw[(Mq (Kd (h:=h) (xs:=(rs.drop i).take l.length))).2]⟩,g5,rfl⟩;rw[hlen];exact Kd
theorem Sli.cook {R e n:Nat}{F0:List Nat} (hs:Sli false R e (flat id) h [.sl R a n c] xs F0) (hx:EAll El h xs l Fs) :
  Sli false R e El h [.sl R a n c] l (F0++Fs.flatten):=by
 have hl:=hx.len;obtain ⟨R1,a1,c1,e1,g⟩:=hs;injection e1 with e1 _;injection e1 with e0 e2 e4 e3;subst e2;subst e3;subst e4;cases a with
 | none =>obtain ⟨rfl,rfl,rfl⟩:=g;have:l = []:=X6 hl.1.symm;subst this;have:Fs = []:=X6 hl.2;subst this;exact ⟨R1,none,some 0,by rw[e0];rfl,rfl,rfl,rfl⟩
 | some p =>obtain ⟨b,i⟩:=p;obtain ⟨_,rs,Gs,g1,g2,g3,g4,g5,rfl⟩:=g;obtain ⟨q1,q2⟩:=Mq g5;refine ⟨R,some (b,i),c,by rw[hl.1],rfl,rs,Fs,g1,by rw[<- hl.1];exact g2,by rw[<- hl.1];exact g3,g4,?_,by rw[q2];rfl⟩;rw[<- hl.1,q1];exact hx


variable {f:Frame}
section
variable {lo:Nat}{h h':Heap}{w:World}{a1 a2 a3 a4 a:Pq}{c1 c2 c3 c4 c:Nq}{F1 F2 F3 F4:List Nat}
theorem KF (hg:Fits w) (hf:Iw w.places f):thin f.ver/\Cp f.ver=true/\f.ver.tag.place=f.fro:=by
 obtain ⟨h1,h2,h3,h4,h5⟩:=hf;have hk:f.fro.toNat<w.places.length:=by have:=hg.ok.p3;omega
 obtain ⟨hpo,hme,_⟩:=hg.at hk;rw[N3 hk] at h5;obtain ⟨hi,h5⟩:=Ef h5;obtain ⟨_,hl⟩:=FB (AE hpo).2.2.2.2.2.1;obtain ⟨g1,g2,_⟩:=hl _ hi;rw[h5] at g1 g2;exact ⟨I8 g1,g1,by rw[g2,hme];omega⟩
theorem QM {b:Pq}{d:Nq}{G:List Nat} (H:WR lo h w a1 c1 a2 c2 a3 c3 a4 c4 F1 F2 F3 F4) (hg:Fits w) (hf:Iw w.places f) (hv:RTags false h [.sl 2 b f.ver.past.length d] f.ver.past G) :
  ∃ h' F',(Av f.to w.places.length (eO a1 λw0=>eO (ld h w0.1 (w0.2+f.to.toNat) 0 6) λw0=>eC w0 λw0 p=>eI .i64 w0 λw0=>eC p λp q=>eI .i64 p λp=>eC q λq g=>eS 2 q λq i j=>eC g λg k=>eS 6 g λg m t=>eC k λk d0=>eS 1 k λk e f0=>eC d0 λd0 v0=>eBv d0 λd0=>eN v0 (Ak (Ae lo 168 [.agg [Iv w0,Iv p,.sl 2 q i j,.sl 6 g m t,.sl 1 k e f0,.bool d0],Iv f.fro,Iv f.at',.agg [Iv f.ver.key,Iv f.ver.tag.time,Iv f.ver.tag.place,.sl 2 b f.ver.past.length d,.str f.ver.text,.bool f.ver.gone]] h) λw1 p=>eU w1 λw1=>eC w1 λw1 q=>eA w1 λw1=>eC w1 λw1 g=>eI .i64 w1 λw1=>eC g λg i=>eI .i64 g λg=>eC i λi j=>eS 2 i λi k m=>eC j λj t=>eS 6 j λj d e=>eC t λt f0=>eS 1 t λt v0 v1=>eC f0 λf0 v2=>eBv f0 λf0=>eN v2 (eC q λq v2=>eB q (eN v2 (Av f.to w.places.length (eO a1 λq=>eO (st lo p q.1 (q.2+f.to.toNat) 0 [Iv w1,Iv g,.sl 2 i k m,.sl 6 j d e,.sl 1 t v0 v1,.bool f0]) λw1=>some (V.tup [.agg (w.cs a1 c1 a2 c2 a3 c3 a4 c4),.bool true],w1)))) (eN v2 (some (V.tup [.agg (w.cs a1 c1 a2 c2 a3 c3 a4 c4),.bool true],p)))))))=some (V.tup [.agg (w.cs a1 c1 a2 c2 a3 c3 a4 c4),.bool true],h') /\
   K0 lo h' (w.cs a1 c1 a2 c2 a3 c3 a4 c4) (Jy w f) F'/\Mv h (F1++(F2++(F3++F4))) h' F':=by
 obtain ⟨hth,hvo,hvt⟩:=KF hg hf;obtain ⟨⟨h1,h1'⟩,⟨h2,h2'⟩,h3,h4,h5⟩:=hf;obtain ⟨fro,to,at',ver⟩:=f;simp only at *
 obtain ⟨k,rfl⟩:∃ k:Nat,to=(k:Int):=⟨to.toNat,by omega⟩;obtain ⟨j,rfl⟩:∃ j:Nat,fro=(j:Int):=⟨fro.toNat,by omega⟩;have hk:k<w.places.length:=by have:=hg.ok.p3;omega
 obtain ⟨hpo,hme,hro⟩:=hg.at hk;obtain ⟨b0,i,s1,s2,s3,b1,d1,b2,d2,b3,d3,G1,G2,G3,rfl,hld,_,_,e1,e2,e3,g1,g2,g3,nd,hF,put⟩:=H.place hk;have hx:Jy w ⟨(j:Int),(k:Int),at',ver⟩=setP w k (E7 w.places[k] j at' ver):=by unfold Jy;simp only[By,CX hk]
 rw[hx];rw[Ad hk,Af,By,hld,Af,Ab,Aa,Ab,Aa,Ab,e1,Ab,e2,Ab,e3,Ab,Bd,Ai];generalize hp:w.places[k]=p at hpo hme hro hld e1 e2 e3 g1 g2 g3 put;have ht:=CI hpo;have h3g:=(AE hpo).2.2.1;have nd':=nd;rw[X4,X4] at nd';obtain ⟨nd1,⟨nd2,nd3,N0⟩,nd5⟩:=nd';have hj:j<p.got.length:=by omega
 obtain ⟨h5',F5,e5,r5,m5,x5⟩:=OM (lo:=lo) (at':=at') (a1:=b1) (c1:=d1) (a2:=b2) (c2:=d2) g3 hv hj (by have:=(ht.got.2 _ (X3 hj)).1;omega) (by have:=hth.1;omega) nd3 (λy hy=>(hF y (by simp[hy])).1) H.hl;simp only[Place.cs,Ver.cs] at e5;have hc:Fa p (j:Int) at' ver=GR p j at' ver:=by unfold Fa;rw[hvo,hvt,Re,By];simp[Ag];omega
 have hsame:setP w k p=w:=by unfold setP;rw[<- hp,Zn]
 rw[e5,Ac,Na,Ab,AW,Ab,Aa,Ab,Aa,Ab,Ah,Ab,Ah,Ab,Ah,Ab,Bd,Ai,Ab,A2];unfold E7;rw[hc];cases hh:GR p j at' ver with
 | false =>have:=x5 hh;subst this;rw[AC,Ai,cond_false,hsame];exact ⟨_,_,rfl,H.at,Mv.refl H.nd⟩
 | true =>
  rw[hh,cond_true] at r5;have hb:∀ y∈G1++(G2++G3),y<h.length:=λy hy=>(hF y hy).2.1
  have mm:Mv h (G1++(G2++G3)) h5' (G1++(G2++F5)):=m5.mid UH nd (λy hy=>hb y (by simp only[X0] at hy ⊢;grind)) UH;have hcs:(HC p j ver).cs b1 d1 b2 d2 b3 d3=p.cs b1 d1 b2 d2 b3 d3:=Wc;have rr:RPlace false h5' (p.cs b1 d1 b2 d2 b3 d3) (HC p j ver) (G1++(G2++F5)):=by
   rw[<- hcs];refine ⟨_,_,_,G1,G2,F5,rfl,rfl,m5.keep rnodes_ok g1 (λy hy hm=>nd5 y hy y (by simp[hm]) rfl),m5.keep rvers_ok g2 (λy hy hm=>N0 y hy y hm rfl),?_⟩;have:(HC p j ver).got=p.got.set j (p.got[j] ++ [ver]):=by unfold HC;rw[GS hj]
   rw[this,YC];exact r5
  obtain ⟨h6,F6,e6,q6,m6⟩:=put h5' _ _ _ mm rr rfl;simp only[Place.cs] at e6;rw[Ax,Ai,Ad hk,Af,e6,Af,cond_true,By];refine ⟨h6,_,rfl,?_,m6⟩;rw[<- SI (k:=k) (p:=HC p j ver)];exact q6.at
def Qy (w:World) (e:Event):Option World:=bif e.kind==10 then NR w e else J6 w e
theorem Ru {e:Event} (H:WR lo h w a1 c1 a2 c2 a3 c3 a4 c4 F1 F2 F3 F4) (hg:Fits w) :
  ∃ cs' h' F',Ae lo 125 [.agg (w.cs a1 c1 a2 c2 a3 c3 a4 c4),.agg e.cs] h=some (.tup [.agg cs',.bool (Qy w e).isSome],h')/\K0 lo h' cs' ((Qy w e).getD w) F'/\Mv h (F1++(F2++(F3++F4))) h' F'/\((Qy w e)=none->cs'=w.cs a1 c1 a2 c2 a3 c3 a4 c4):=by
 obtain ⟨kind,at',num,key,text,gone⟩:=e;suffices hk:∃ cs' h' F',_=some (V.tup [.agg cs',.bool (Qy w ⟨kind,at',num,key,text,gone⟩).isSome],h')/\K0 lo h' cs' ((Qy w ⟨kind,at',num,key,text,gone⟩).getD w) F'/\Mv h (F1++(F2++(F3++F4))) h' F'/\((Qy w ⟨kind,at',num,key,text,gone⟩)=none->cs'=w.cs a1 c1 a2 c2 a3 c3 a4 c4) from by obtain ⟨cs',h',F',e,hr⟩:=hk;exact ⟨cs',h',F',PF e,hr⟩
 have hp3:=hg.ok.p3;have hn12:=hg.ok.n12;unfold Qy;cases h10:kind==10 with
 | true =>
  rw[cond_true,Ax,AY,Ac,A2];unfold NR;cases x1:Ag at' 0 2 with
  | false =>rw[Y6,cond_false,AC];exact ⟨_,h,_,rfl,H.at,Mv.refl H.nd,λ_=>rfl⟩
  | true =>
  rw[Yn,Ax,AY,Ac,A2];cases x2:Ag num 0 2 with
  | false =>rw[Y6,cond_false,AC];exact ⟨_,h,_,rfl,H.at,Mv.refl H.nd,λ_=>rfl⟩
  | true =>
  rw[Yn,Ax];cases x3:at'==num with
  | true =>rw[Y1,Y6,cond_false,Ax];exact ⟨_,h,_,rfl,H.at,Mv.refl H.nd,λ_=>rfl⟩
  | false =>
  rw[Ze,Yn,AC];by_cases x4:(w.net.length:Int)<12
  ·simp only[Ag,C3,decide_eq_true_eq] at x1;obtain ⟨k,rfl⟩:∃ k:Nat,at'=(k:Int):=⟨at'.toNat,by omega⟩;have hk:k<w.places.length:=by omega
   obtain ⟨hpo,hme,hro⟩:=hg.at hk;obtain ⟨b0,i,s1,s2,s3,b1,d1,b2,d2,b3,d3,G1,G2,G3,rfl,hld,hc2,hc3,e1,e2,e3,g1,g2,g3,nd,hF,put⟩:=H.place hk;have hll:=(CI hpo).log.1;rw[decide_eq_true x4,Yn,Ao (by omega),Ad hk,Af,By,hc3,Af,Ab,Ai,e2,wr (by omega) (by omega),AY,Ac,A2,N3 hk];generalize hp:w.places[k]=p at hpo hme hro hld e1 e2 e3 g1 g2 g3 put hll;cases x5:Ag key 0 ((p.log.length:Int) - 1) with
   | false =>rw[cond_false,AC];exact ⟨_,h,_,rfl,H.at,Mv.refl H.nd,λ_=>rfl⟩
   | true =>
   simp only[Ag,C3,decide_eq_true_eq] at x5;obtain ⟨m,rfl⟩:∃ m:Nat,key=(m:Int):=⟨key.toNat,by omega⟩;have hm:m<p.log.length:=by omega
   obtain ⟨o,s,b,d,G,ha,ho,es,hpv,hGF⟩:=g2.get hm;have hth:=(CI hpo).log.2 _ (X3 hm);obtain ⟨a5,c5,h5,F5,e5,r5,m5⟩:=BQ (lo:=lo) (v:=p.log[m]) hpv H.hl (by have:=hth.1;omega);have e5':=e5;simp only[Ver.cs] at e5';rw[cond_true,Ax,Ad hk,Af,hc3,Af,Ab,Ai,e2,Ad hm,ha,Af,By,ho,Af,Ab,Aa,Ab,Aa,Ab,Aa,Ab,es,Ab,Dw,Ab,Bd,Ai,e5',Ac,AW,Ab,Aa,Ab,Aa,Ab,Aa,Ab,Ah,Ab,Dw,Ab,Bd,Ai,Bn,CX hm];obtain ⟨⟨n1,n2,n3,n4⟩,_⟩:=N0 H.nd;obtain ⟨a6,c6,h6,F6,e6,r6,m6⟩:=Ek (lo:=lo) (bytes:=96) (e:=91) rframe_ok H.r3 (row := Iv (k:Nat) :: Iv num :: Iv (m:Nat) :: p.log[m].cs a5 c5) (x:=⟨(k:Nat),num,(m:Nat),p.log[m]⟩) (G:=F5) (h1:=h5 ++ [.rows 9 91 false [Iv (k:Nat) :: Iv num :: Iv (m:Nat) :: p.log[m].cs a5 c5]])
    ⟨_,rfl,_,rfl,Mv.snoc.keep0 rtags_ok r5⟩ (m5.trans (Mv.snoc' m5.nd)) n3 (λy hy=>H.ge y (by simp[hy])) H.hl (by decide) (by omega)
   simp only[Ver.cs] at e6;rw[e6,Ah];have hnl:(w.net ++ [(⟨(k:Nat),num,(m:Nat),p.log[m]⟩:Frame)]).length=w.net.length+1:=by simp
   rw[<- hnl] at r6;obtain ⟨q,mq⟩:=H.up3 m6 r6;refine ⟨_,h6,_,?_,q.at,mq,λg=>by first | cases g | (simp at g)⟩;rw[<- hnl];rfl
  ·rw[decide_eq_false x4,Y6,cond_false,Am (by omega)];exact ⟨_,h,_,rfl,H.at,Mv.refl H.nd,λ_=>rfl⟩
 | false =>
 rw[cond_false,AC,wr (by omega) (by omega),AY,Ac,A2];unfold J6;cases x1:Ag at' 0 ((w.net.length:Int) - 1) with
 | false =>rw[cond_false,AC];exact ⟨_,h,_,rfl,H.at,Mv.refl H.nd,λ_=>rfl⟩
 | true =>
 simp only[Ag,C3,decide_eq_true_eq] at x1;obtain ⟨j,rfl⟩:∃ j:Nat,at'=(j:Int):=⟨at'.toNat,by omega⟩;have hj:j<w.net.length:=by omega
 obtain ⟨⟨n1,n2,n3,n4⟩,_⟩:=N0 H.nd;obtain ⟨xs,Fs,F0,hraw,hall,rfl⟩:=H.r3.bare;have hxl:w.net.length=xs.length:=hraw.val;obtain ⟨row,Fj,hr,hFj,⟨vs,rfl,hv⟩⟩:=hall.get (CX hj);obtain ⟨s,b,d,rfl,es,hpv⟩:=hv.form;obtain ⟨o,row',_,ha,hld,⟨rfl,_⟩,_⟩:=hraw.read (show j<xs.length by omega);have hro:xs[j]'(by omega) = Iv w.net[j].fro :: Iv w.net[j].to :: Iv w.net[j].at' :: [Iv w.net[j].ver.key,Iv w.net[j].ver.tag.time,Iv w.net[j].ver.tag.place,s,.str w.net[j].ver.text,.bool w.net[j].ver.gone]:=by rw[CX (by omega)] at hr;injection hr
 have hfi:=hg.ok.net _ (X3 hj);have hld9:ld h o.1 (o.2+j) 0 9=some (Iv w.net[j].fro :: Iv w.net[j].to :: Iv w.net[j].at' :: [Iv w.net[j].ver.key,Iv w.net[j].ver.tag.time,Iv w.net[j].ver.tag.place,s,.str w.net[j].ver.text,.bool w.net[j].ver.gone]):=by rw[hld,id,hro];exact JG rfl
 rw[Ax,Ad hj,ha,Af,By,hld9,Af,Ab,Aa,Ab,Aa,Ab,Aa,Ab,Aa,Ab,Aa,Ab,Aa,Ab,es,Ab,Dw,Ab,Bd,Ai,cond_true,CX hj,<- ha];simp only[];cases h13:kind==13 with
 | true =>
  have h12:(kind==12)=false:=by rw[beq_iff_eq] at h13;subst h13;rfl
  rw[Ax,h12,AC];obtain ⟨h',F',e,W,m⟩:=QM H hg hfi hpv;refine ⟨_,h',F',e,?_,m,λg=>by first | cases g | (simp at g)⟩;simpa using W
 | false =>
  rw[X4] at n3;obtain ⟨n5,n6,n7⟩:=n3;rw[hxl] at hraw;obtain ⟨a6,c6,h6,F6,e6,r6,m6⟩:=T8 (k:=j) (lo:=lo) (bytes:=96) Cn hraw (by omega) n5 (λy hy=>H.ge y (by simp[hy])) H.hl (by decide) (by omega);rw[<- hxl] at e6;have hbd:∀ y∈F0++Fs.flatten,y<h.length:=H.lt.2.2.1;have hel:(xs.eraseIdx j).length=(w.net.eraseIdx j).length:=by rw[YS hj,YS (by omega)];omega
  obtain ⟨k1,k2⟩:=IK hFj n6;have all6:=(hall.fr rframe_ok.fr λy hy=>m6.fr y (hbd y (by simp[hy])) λhm=>n7 y hm y hy rfl).erase j;have r3':=r6.cook all6;rw[hel] at r3' e6;have mm:Mv h (F0++Fs.flatten) h6 (F6++Fs.flatten):=m6.mid (.refl _) (by rw[X4];exact ⟨n5,n6,n7⟩) (λy hy=>hbd y (by simp[hy])) (.refl _);have nd6:=mm.nd;rw[X4] at nd6;have mm':Mv h (F0++Fs.flatten) h6 (F6++(Fs.eraseIdx j).flatten):=mm.lean (by
   rw[X4];exact ⟨nd6.1,k1,λx hx y hy=>nd6.2.2 x hx y (k2 y hy).1⟩) λy hy=>by
    rcases X0.1 hy with hy | hy
    ·simp[hy]
    ·simp[(k2 y hy).1]
  obtain ⟨q,mq⟩:=H.up3 mm' r3';have hpv6:=m6.keep rtags_ok hpv λy hy hm=>n7 y hm y (Hl hFj hy) rfl;rw[show Vp false=91 from rfl] at e6;rw[AC,Ay (by omega),e6,Ah];cases h12:kind==12 with
  | true =>rw[Ax];exact ⟨_,h6,_,rfl,q.at,mq,λg=>by first | cases g | (simp at g)⟩
  | false =>rw[AC];have hgn:Fits (setN w (w.net.eraseIdx j)):=⟨hg.ok.netN (XX (Zk _ _) hn12) λx hx=>hg.ok.net x (Y2 hx)⟩;obtain ⟨h',F',e,W,m⟩:=QM (w:=setN w (w.net.eraseIdx j)) q hgn hfi hpv6;refine ⟨_,h',F',e,?_,mq.trans m,λg=>by first | cases g | (simp at g)⟩;simpa using W
end


variable {t:Tag}{l:List Tag}
section
variable {lo:Nat}{h h':Heap}{F F':List Nat}{a a':Pq}{c c':Nq}
theorem LM {s:Tag}:Ae lo 206 [.agg [Iv s.time,Iv s.place],.agg [Iv t.time,Iv t.place]] h=some (.agg [Iv (Ee s t).time,Iv (Ee s t).place],h):=by unfold Ee Df;refine PO (h':=h) ?_;rw[Bj,Ac,A2];cases Fz s.time s.place t.time t.place<;>rfl
theorem Ie {k:Nat} (hk:k<l.length):DH l k t=l.set k (Ee l[k] t):=by unfold DH;rw[CX hk]
theorem NK {k:Nat}:(DH l k t).length=l.length:=by unfold DH;split<;>simp
theorem HJ {k:Nat} (hs:RTags false h [.sl 2 a l.length c] l F) (hk:k<l.length) (hl:lo<=h.length) (hn:l.length<=1048576) :
  ∃ a' c' h' F',Ae lo 189 [.agg [.sl 2 a l.length c],Iv (k:Nat),.agg [Iv t.time,Iv t.place]] h=some (.agg [.sl 2 a' l.length c'],h')/\RTags false h' [.sl 2 a' l.length c'] (DH l k t) F'/\Mv h [] h' F':=by
 obtain ⟨a1,c1,h1,F1,e1,r1,m1⟩:=GU (lo:=lo) (h:=h) (l:=l) hl hn;obtain ⟨b,i,rs,row,G,ha,hbF,hbG,hb,hrow,⟨rfl,rfl⟩,hGF,hGn,_,put⟩:=r1.at (lo:=lo) Cn hk m1.nd (λy hy=>m1.ge hl (by simp) y hy);have hld:ld h1 b (i+k) 0 2=some [Iv l[k].time,Iv l[k].place]:=by rw[Dg hb hrow];rfl
 obtain ⟨h2,F2,e2,r2,m2,_⟩:=put h1 [] 0 (Ee l[k] t).cs (Ee l[k] t).cs (Ee l[k] t) Mv.nil rfl ⟨rfl,rfl⟩;subst ha;refine ⟨some (b,i),c1,h2,F2,NA ?_,by rw[Ie hk];exact r2,m1.trans m2⟩;simp only[Tag.cs] at e2;rw[RTags.rows (Mv.snoc.keep0 rtags_ok hs),e1,Ah,Ad hk,Af,By,hld,Af,Ab,Aa,Ab,Aa,Ai,LM,Ac,AW,Ab,Aa,Ab,Aa,Ai,Ad hk,Af,e2,Af]
theorem Qf {p q:List Tag} (hs:RTags false h [.sl 2 a p.length c] p F) (hs':RTags false h [.sl 2 a' q.length c'] q F') (hp:p.length=4) (hq:q.length=4) (hl:lo<=h.length) :
  ∃ q5 a5 c5 h' F5,Ae lo 190 [.agg [.sl 2 a p.length c],.agg [.sl 2 a' q.length c']] h=some (.agg [.sl q5 a5 (BI p q).length c5],h')/\RTags false h' [.sl q5 a5 (BI p q).length c5] (BI p q) F5/\Mv h [] h' F5:=by
 have hj:(BI p q).length=4:=by unfold BI;rw[Zq];omega
 obtain ⟨q5,a5,c5,h',F5,e,r,m⟩:=Cu (El:=flat Tag.cs) Cn (h:=h) (l:=BI p q) (f:=id) (lo:=lo) (R:=2) (e:=30) (bytes:=16) hl (by decide) (by omega)
  (λi q5 a1 n1 c1 hh=>Cf lo (i:Nat) a p.length c a' q.length c' 0 none 0 (some 0) q5 a1 n1 c1 hh) (λi hi q5 a1 n1 c1 hh hm=>by
   obtain ⟨o,ha,ho⟩:=(hm.keep0 rtags_ok hs).get (show i<p.length by omega);obtain ⟨o',ha',ho'⟩:=(hm.keep0 rtags_ok hs').get (show i<q.length by omega);have hji:(BI p q)[i]=Ee p[i] q[i]:=List.getElem_zipWith;refine ⟨[Iv (Ee p[i] q[i]).time,Iv (Ee p[i] q[i]).place],[],hh ++ [.rows 2 30 false [[Iv (Ee p[i] q[i]).time,Iv (Ee p[i] q[i]).place]]],⟨by rw[id,hji];rfl,rfl⟩,Mv.snoc,?_⟩;rw[Cf.e,Am (by omega),Ad (show i<p.length by omega),ha,Af,By,ho,Af,Ab,Aa,Ab,Aa,Ai,Ad (show i<q.length by omega),ha',Af,ho',Af,Ab,Aa,Ab,Aa,Ai,LM,Ac,AW,Ab,Aa,Ab,Aa,Ai,Bn,Ay (by omega)])
 rw[List.map_id] at r;refine ⟨q5,a5,c5,h',F5,ND ?_,r,m⟩;refine e.trans ?_;rw[Cf.e,Ao (by omega)]
end
section
variable {lo:Nat}{h h':Heap}{w:World}{a1 a2 a3 a4 a:Pq}{c1 c2 c3 c4 c:Nq}{F1 F2 F3 F4:List Nat}
theorem D9 {d:Done} (H:WR lo h w a1 c1 a2 c2 a3 c3 a4 c4 F1 F2 F3 F4) (h80:w.hist.length<=1000) :
  ∃ a5 c5 h' G,Ae lo 186 [.agg (w.cs a1 c1 a2 c2 a3 c3 a4 c4),Iv d.sess,Iv d.kind,Iv d.key,.agg [Iv d.tag.time,Iv d.tag.place]] h=some (.agg ((World.mk w.places w.sess w.net (w.hist ++ [d])).cs a1 c1 a2 c2 a3 c3 a5 c5),h') /\
   WR lo h' ⟨w.places,w.sess,w.net,w.hist ++ [d]⟩ a1 c1 a2 c2 a3 c3 a5 c5 F1 F2 F3 G/\Mv h (F1++(F2++(F3++F4))) h' (F1++(F2++(F3++G)))/\∀ y∈F1,h'[y]?=h[y]?:=by
 obtain ⟨⟨n1,n2,n3,n4⟩,_,_,d14,_⟩:=N0 H.nd;obtain ⟨a6,c6,h6,F6,e6,r6,m6⟩:=Ek (lo:=lo) (bytes:=40) (e:=32) (El:=flat Done.cs) Cn H.r4 (row:=d.cs) (x:=d) (G := []) (h1:=h ++ [.rows 5 32 false [d.cs]])
  ⟨rfl,rfl⟩ Mv.snoc n4 (λy hy=>H.ge y (by simp[hy])) H.hl (by decide) (by omega)
 have hnl:(w.hist ++ [d]).length=w.hist.length+1:=by simp
 rw[<- hnl] at r6 e6;obtain ⟨q,mq⟩:=H.up4 m6 r6;refine ⟨a6,c6,h6,F6,Ni ?_,q,mq,λy hy=>m6.fr y (H.lt.1 y hy) (d14 y hy)⟩;simp only[Done.cs] at e6;rw[Bn,e6,Ah]
theorem WR.sess (H:WR lo h w a1 c1 a2 c2 a3 c3 a4 c4 F1 F2 F3 F4) {k:Nat} (hk:k<w.sess.length):∃ b i v b1 d1 G,a2=some (b,i) /\
  ld h b (i+k) 0 5=some [Iv w.sess[k].place,v,Iv w.sess[k].wait.time,Iv w.sess[k].wait.place,Iv w.sess[k].key]/\ld h b (i+k) 1 1=some [v]/\ld h b (i+k) 2 1=some [Iv w.sess[k].wait.time] /\
  (∀ {R':Type} (K:Pq->Nat->Nq->Option R'),eS 2 v K=K b1 w.sess[k].past.length d1)/\RTags false h [.sl 2 b1 w.sess[k].past.length d1] w.sess[k].past G/\RTags false h [v] w.sess[k].past G/\G.Nodup /\
  ∀ h1 G1 j cs row' s',Mv h G h1 G1->paste [Iv w.sess[k].place,v,Iv w.sess[k].wait.time,Iv w.sess[k].wait.place,Iv w.sess[k].key] j cs=some row'->RSess false h1 row' s' G1 ->
   ∃ h2 F2',st lo h1 b (i+k) j cs=some h2/\WR lo h2 ⟨w.places,w.sess.set k s',w.net,w.hist⟩ a1 c1 a2 c2 a3 c3 a4 c4 F1 F2' F3 F4/\Mv h (F1++(F2++(F3++F4))) h2 (F1++(F2'++(F3++F4)))/\∀ y∈F1,h2[y]?=h[y]?:=by
 obtain ⟨⟨_,n2,_,_⟩,d12,_⟩:=N0 H.nd;obtain ⟨b,i,rs,row,G,ha,hbF,hbG,hb,hrow,hel,hGF,hGn,_,put⟩:=Sli.at (lo:=lo) GL H.r2 hk n2 (λy hy=>H.ge y (by simp[hy]));obtain ⟨v,rfl,hv⟩:=hel;obtain ⟨b1,d1,es,hv'⟩:=hv.form;refine ⟨b,i,v,b1,d1,G,ha,by rw[Dg hb hrow];exact JG rfl,by rw[Dg hb hrow];rfl,by rw[Dg hb hrow];rfl,es,hv',hv,hGn,λh1 G1 j cs row' s' m hp hx=>?_⟩;obtain ⟨h2,F',e,r,m2,_⟩:=put h1 G1 j cs row' s' m hp hx;have hlen:(w.sess.set k s').length=w.sess.length:=by simp
 rw[<- hlen] at r;obtain ⟨q1,q2⟩:=H.up2 m2 r;exact ⟨h2,F',e,q1,q2,λy hy=>m2.fr y (H.lt.1 y hy) (d12 y hy)⟩
theorem WR.wait (H:WR lo h w a1 c1 a2 c2 a3 c3 a4 c4 F1 F2 F3 F4) {k:Nat} (hk:k<w.sess.length) (t:Tag) (key:Int) :
  ∃ h' F2',(∀ {T:Type} (K:Heap->Option T),(Av (k:Nat) w.sess.length (eO a2 λv=>eO (st lo h v.1 (v.2+k) 2 [Iv t.time,Iv t.place]) λv=>Av (k:Nat) w.sess.length (eO a2 λp=>eO (st lo v p.1 (p.2+k) 4 [Iv key]) K)))=K h') /\
   WR lo h' ⟨w.places,w.sess.set k ⟨w.sess[k].place,w.sess[k].past,t,key⟩,w.net,w.hist⟩ a1 c1 a2 c2 a3 c3 a4 c4 F1 F2' F3 F4/\Mv h (F1++(F2++(F3++F4))) h' (F1++(F2'++(F3++F4))):=by
 obtain ⟨b,i,v,b1,d1,G,ha,_,_,_,es,hv',hv,hGn,put⟩:=H.sess hk;obtain ⟨h2,F5,e2,q2,m2,_⟩:=put h G 2 [Iv t.time,Iv t.place] [Iv w.sess[k].place,v,Iv t.time,Iv t.place,Iv w.sess[k].key] ⟨w.sess[k].place,w.sess[k].past,t,w.sess[k].key⟩ (Mv.refl hGn) rfl ⟨v,rfl,hv⟩;have hk2:k<(w.sess.set k ⟨w.sess[k].place,w.sess[k].past,t,w.sess[k].key⟩).length:=by simpa using hk
 obtain ⟨b',i',v',b1',d1',G',ha',_,_,_,es2,hv2',hv2,hGn2,put2⟩:=q2.sess hk2;simp only[List.getElem_set_self] at hv2 put2;obtain ⟨h3,F6,e3,q3,m3,_⟩:=put2 h2 G' 4 [Iv key] [Iv w.sess[k].place,v',Iv t.time,Iv t.place,Iv key] ⟨w.sess[k].place,w.sess[k].past,t,key⟩ (Mv.refl hGn2) rfl ⟨v',rfl,hv2⟩;rw[ha] at ha';injection ha' with ha';injection ha' with x1 x2;subst x1;subst x2;refine ⟨h3,F6,λK=>?_,by simpa using q3,m2.trans m3⟩;rw[Ad hk,ha,Af,e2,Af,Ad hk,Af,e3,Af]
theorem WR.past (H:WR lo h w a1 c1 a2 c2 a3 c3 a4 c4 F1 F2 F3 F4) {k:Nat} (hk:k<w.sess.length) {h1:Heap}{G1:List Nat} (m:Mv h [] h1 G1) {q n:Nat} (r:RTags false h1 [.sl q a n c] l G1) :
  ∃ h' F2',(∀ {T:Type} (K:Heap->Option T),(Av (k:Nat) w.sess.length (eO a2 λv=>eO (st lo h1 v.1 (v.2+k) 1 [.sl q a n c]) K))=K h') /\
   WR lo h' ⟨w.places,w.sess.set k ⟨w.sess[k].place,l,w.sess[k].wait,w.sess[k].key⟩,w.net,w.hist⟩ a1 c1 a2 c2 a3 c3 a4 c4 F1 F2' F3 F4/\Mv h (F1++(F2++(F3++F4))) h' (F1++(F2'++(F3++F4)))/\∀ y∈F1,h'[y]?=h[y]?:=by
 obtain ⟨b,i,v,b1,d1,G,ha,_,_,_,es,hv',hv,hGn,put⟩:=H.sess hk;obtain ⟨h2,F5,e2,q2,m2,s2⟩:=put h1 G1 1 [.sl q a n c] [Iv w.sess[k].place,.sl q a n c,Iv w.sess[k].wait.time,Iv w.sess[k].wait.place,Iv w.sess[k].key] ⟨w.sess[k].place,l,w.sess[k].wait,w.sess[k].key⟩ (m.wide (by simp)) rfl ⟨_,rfl,r⟩;refine ⟨h2,F5,λK=>?_,q2,m2,s2⟩;rw[Ad hk,ha,Af,e2,Af]
end


section
variable {lo:Nat}{h h':Heap}{w:World}{a1 a2 a3 a4 a:Pq}{c1 c2 c3 c4 c:Nq}{F1 F2 F3 F4:List Nat}
theorem WR.stay (H:WR lo h w a1 c1 a2 c2 a3 c3 a4 c4 F1 F2 F3 F4) {X:Option World} (hX:X=none) :
  ∃ cs' h' F',some (V.tup [.agg (w.cs a1 c1 a2 c2 a3 c3 a4 c4),.bool false],h)=some (V.tup [.agg cs',.bool X.isSome],h')/\K0 lo h' cs' (X.getD w) F'/\Mv h (F1++(F2++(F3++F4))) h' F'/\((X)=none->cs'=w.cs a1 c1 a2 c2 a3 c3 a4 c4):=by
 subst hX;exact ⟨_,h,_,rfl,H.at,Mv.refl H.nd,λ_=>rfl⟩
theorem OK {kind num key:Int}{text:ByteArray}{gone:Bool}{i:Nat} (H:WR lo h w a1 c1 a2 c2 a3 c3 a4 c4 F1 F2 F3 F4) (hg:Fits w) (ht:text.size<=1048576) (hi:i<w.sess.length) :
  ∃ cs' h' F',Ae lo 155 [.agg (w.cs a1 c1 a2 c2 a3 c3 a4 c4),.agg [Iv kind,Iv (i:Nat),Iv num,Iv key,.str text,.bool gone]] h=some (.tup [.agg cs',.bool (EJ w i w.sess[i] ⟨kind,(i:Nat),num,key,text,gone⟩).isSome],h') /\
   K0 lo h' cs' ((EJ w i w.sess[i] ⟨kind,(i:Nat),num,key,text,gone⟩).getD w) F'/\Mv h (F1++(F2++(F3++F4))) h' F'/\((EJ w i w.sess[i] ⟨kind,(i:Nat),num,key,text,gone⟩)=none->cs'=w.cs a1 c1 a2 c2 a3 c3 a4 c4):=by
 suffices hk:∃ cs' h' F',_=some (V.tup [.agg cs',.bool (EJ w i w.sess[i] ⟨kind,(i:Nat),num,key,text,gone⟩).isSome],h')/\K0 lo h' cs' ((EJ w i w.sess[i] ⟨kind,(i:Nat),num,key,text,gone⟩).getD w) F'/\Mv h (F1++(F2++(F3++F4))) h' F'/\((EJ w i w.sess[i] ⟨kind,(i:Nat),num,key,text,gone⟩)=none->cs'=w.cs a1 c1 a2 c2 a3 c3 a4 c4) from by obtain ⟨cs',h',F',e,hr⟩:=hk;exact ⟨cs',h',F',ME e,hr⟩
 have hso:=hg.ok.sess _ (X3 hi);obtain ⟨t1,t2,t3,t4,t5,t6⟩:=B3 hso;have h80:=hg.ok.h80;obtain ⟨k,hpl⟩:∃ k:Nat,w.sess[i].place=(k:Int):=⟨w.sess[i].place.toNat,by omega⟩;have hk:k<w.places.length:=by have:=hg.ok.p3;omega
 obtain ⟨hpo,hme,hro⟩:=hg.at hk;have hn:=(E8 (CI hpo) (by decide) (by decide) (by decide)).1;have hX:EJ w i w.sess[i] ⟨kind,(i:Nat),num,key,text,gone⟩=bif !decide (w.sess[i].wait.time>0)&&(AT w.places[k] key text gone w.sess[i].past&&CZ w 1) then
   some (setS (setP w k (wrote w.places[k] key text gone w.sess[i].past).1) i ⟨w.sess[i].place,w.sess[i].past,(wrote w.places[k] key text gone w.sess[i].past).2,key⟩ [⟨i,1,key,(wrote w.places[k] key text gone w.sess[i].past).2⟩]) else none:=by
  unfold EJ;rw[hpl,By,CX hk]
 obtain ⟨b',i',v,e1',d1',Gs,rfl,hld',_,_,es',hv',_,hGn,puts⟩:=H.sess hi;obtain ⟨b,j,s1,s2,s3,b1,d1,b2,d2,b3,d3,G1,G2,G3,rfl,hld,_,_,e1,e2,e3,g1,g2,g3,nd,hF,put⟩:=H.place hk;have hFlo:∀ y∈G1++(G2++G3),lo<=y:=λy hy=>(hF y hy).1
 generalize hXX:EJ w i w.sess[i] ⟨kind,(i:Nat),num,key,text,gone⟩=X at hX;rw[Ad hi,Af,By,hld',Af,Ab,Aa,Ab,es',Ab,Aa,Ab,Aa,Ab,Aa,Ai,hpl,Ad hk,Af,By,hld,Af,Ab,Aa,Ab,Aa,Ab,e1,Ab,e2,Ab,e3,Ab,Bd,Ai];by_cases hw:w.sess[i].wait.time>0
 ·rw[Am hw];exact H.stay (by rw[hX,decide_eq_true hw];rfl)
 rw[Ao hw,AY,Ac,A2];rw[decide_eq_false hw,Ze,Yn] at hX;cases hwk:Ag key 0 3 with
 | false=>rw[AC];exact H.stay (by rw[hX];unfold AT;rw[hwk];rfl)
 | true =>
 rw[Ax,MY ht,Ac,A2];cases hto:FH text with
 | false=>rw[AC];exact H.stay (by rw[hX];unfold AT;rw[hwk,hto];rfl)
 | true =>
 rw[Ax];have ec:=Ry (lo:=lo) (a2:=b2) (c2:=d2) (a3:=b3) (c3:=d3) g1 hv' hpo t2 hn;simp only[Place.cs] at ec;have fin:AT w.places[k] key text gone w.sess[i].past=true->CZ w 1=true->X=some ⟨w.places.set k (CJ (Gg w.places[k] 0 (AS w.places[k] w.sess[i].past) (EN w.places[k] key text gone w.sess[i].past))),w.sess.set i ⟨w.sess[i].place,w.sess[i].past,⟨AS w.places[k] w.sess[i].past,w.places[k].me⟩,key⟩,w.net,w.hist ++ [⟨i,1,key,⟨AS w.places[k] w.sess[i].past,w.places[k].me⟩⟩]⟩:=λq1 q2=>by rw[hX,q1,q2];unfold wrote;rw[hpo,q1];rfl
 cases gone with
 | false =>
  rw[AC,ec,Ac,A2];cases hm:FR w.places[k] w.sess[i].past with
  | false=>rw[AC];exact H.stay (by rw[hX];unfold AT;rw[hm];simp)
  | true =>
  have hcw:AT w.places[k] key text false w.sess[i].past=true:=by unfold AT;rw[hwk,hto,t2,hm];simp
  rw[Ax];by_cases hh:(w.hist.length:Int)>=80
  ·rw[Am hh];exact H.stay (by rw[hX,show CZ w 1=false from decide_eq_false (by omega),Bool.and_false];rfl)
  have hX2:=fin hcw (decide_eq_true (by omega));obtain ⟨a6,c6,h5,F5,e5,⟨_,_,_,_,_,_,_,r5⟩,m5⟩:=Jd (lo:=lo) g1 g2 g3 hv' hpo hcw nd hFlo H.hl;obtain ⟨h6,F6,e6,q6,m6⟩:=put h5 _ _ _ m5 r5 rfl;obtain ⟨h7,F7,e7,q7,m7⟩:=q6.wait hi ⟨AS w.places[k] w.sess[i].past,w.places[k].me⟩ key;obtain ⟨a8,c8,h8,F8,e8,q8,m8,_⟩:=D9 (d:=⟨i,1,key,⟨AS w.places[k] w.sess[i].past,w.places[k].me⟩⟩) q7 (by show w.hist.length<=1000;omega);have W:=q8.at;simp only[setP,World.cs,YC] at e7 e8 W;simp only[Place.cs] at e5 e6;rw[Ao hh,e5,Ac,Na,Ab,AW,Ab,Aa,Ab,Aa,Ab,Ah,Ab,Ah,Ab,Ah,Ab,Bd,Ai,Ab,AW,Ab,Aa,Ab,Aa,Ai,Ai,Ad hk,Af,e6,Af];rw[e7,e8,Ac,AW,Ab,Ah,Ab,Ah,Ab,Ah,Ab,Ah,Ai,hX2];exact ⟨_,h8,_,rfl,W,(m6.trans m7).trans m8,λg=>by first | cases g | (simp at g)⟩
 | true =>
  rw[Ax,Rq];cases hnt:Hh text with
  | false=>rw[AC];exact H.stay (by rw[hX];unfold AT;rw[hwk,hto,hnt];rfl)
  | true =>
  rw[Ax,ec,Ac,A2];cases hm:FR w.places[k] w.sess[i].past with
  | false=>rw[AC];exact H.stay (by rw[hX];unfold AT;rw[hm];simp)
  | true =>
  have hcw:AT w.places[k] key text true w.sess[i].past=true:=by unfold AT;rw[hwk,hto,t2,hm,hnt];simp
  rw[Ax];by_cases hh:(w.hist.length:Int)>=80
  ·rw[Am hh];exact H.stay (by rw[hX,show CZ w 1=false from decide_eq_false (by omega),Bool.and_false];rfl)
  have hX2:=fin hcw (decide_eq_true (by omega));obtain ⟨a6,c6,h5,F5,e5,⟨_,_,_,_,_,_,_,r5⟩,m5⟩:=Jd (lo:=lo) g1 g2 g3 hv' hpo hcw nd hFlo H.hl;obtain ⟨h6,F6,e6,q6,m6⟩:=put h5 _ _ _ m5 r5 rfl;obtain ⟨h7,F7,e7,q7,m7⟩:=q6.wait hi ⟨AS w.places[k] w.sess[i].past,w.places[k].me⟩ key;obtain ⟨a8,c8,h8,F8,e8,q8,m8,_⟩:=D9 (d:=⟨i,1,key,⟨AS w.places[k] w.sess[i].past,w.places[k].me⟩⟩) q7 (by show w.hist.length<=1000;omega);have W:=q8.at;simp only[setP,World.cs,YC] at e7 e8 W;simp only[Place.cs] at e5 e6;rw[Ao hh,e5,Ac,Na,Ab,AW,Ab,Aa,Ab,Aa,Ab,Ah,Ab,Ah,Ab,Ah,Ab,Bd,Ai,Ab,AW,Ab,Aa,Ab,Aa,Ai,Ai,Ad hk,Af,e6,Af];rw[e7,e8,Ac,AW,Ab,Ah,Ab,Ah,Ab,Ah,Ab,Ah,Ai,hX2];exact ⟨_,h8,_,rfl,W,(m6.trans m7).trans m8,λg=>by first | cases g | (simp at g)⟩
end


variable {l:List UInt8}{ro:Bool}{xs:List ByteArray}{cc:Nq}
def XG (x:UInt8):List V := [.int .u8 (x.toNat:Int)]
abbrev RBytes:Rel (List UInt8):=Sli true 1 0 (flat XG)
structure Rd (lo:Nat) (h:Heap) (b n:Nat):Prop where
 ge:lo<=b
 ex:∃ a code c p Fc,h[b]?=some (.rows 2 109 false [[.sl 1 a code.length c,Iv ((p:Nat):Int)]])/\RBytes h [.sl 1 a code.length c] code Fc/\(∀ y∈Fc,y<lo)/\p<=n/\code.length<=1048576
section
variable {lo:Nat}{h h':Heap}{F F':List Nat}{b n:Nat}
theorem Rd.lt (r:Rd lo h b n):b<h.length:=by obtain ⟨_,a,code,c,p,Fc,hb,_⟩:=r;exact (Ef hb).1
theorem Rd.up {n':Nat} (r:Rd lo h b n) (hn:n<=n'):Rd lo h b n':=by obtain ⟨hge,a,code,c,p,Fc,hb,hc,hF,hp,hl⟩:=r;exact ⟨hge,a,code,c,p,Fc,hb,hc,hF,by omega,hl⟩
theorem Rd.keep (r:Rd lo h b n) (m:Mv h F h' F') (hb:b∉F) (hF:∀ y∈F,lo<=y):Rd lo h' b n:=by have hlt:=r.lt;obtain ⟨hge,a,code,c,p,Fc,e,hc,hFc,hp,hl⟩:=r;refine ⟨hge,a,code,c,p,Fc,by rw[m.fr b hlt hb];exact e,m.keep (Sli.ok Cn) hc (λy hy hm=>?_),hFc,hp,hl⟩;have h1:=hFc y hy;have h2:=hF y hm;omega
theorem Rm {v:Int} (h0:0<=v) (h1:v<4611686018427387904):0<=AD (((BitVec.ofInt IntKind.i64.bits v ^^^ BitVec.ofInt IntKind.i64.bits (AD (v.tdiv 64))).toNat:Nat):Int):=by
 obtain ⟨k,rfl⟩:∃ k:Nat,v=(k:Int):=⟨v.toNat,by omega⟩;have hd:((k:Nat):Int).tdiv 64=((k / 64:Nat):Int):=rfl;rw[hd,wr (n:=((k / 64:Nat):Int)) (by omega) (by omega)];have hb:IntKind.i64.bits=64:=rfl;have t:∀ q:Nat,q<4611686018427387904->(BitVec.ofInt IntKind.i64.bits ((q:Nat):Int)).toNat=q:=λq hq=>by rw[BitVec.toNat_ofInt,hb];omega
 have hx:(BitVec.ofInt IntKind.i64.bits ((k:Nat):Int) ^^^ BitVec.ofInt IntKind.i64.bits ((k / 64:Nat):Int)).toNat<2 ^ 62:=by rw[BitVec.toNat_xor,t k (by omega),t (k / 64) (by omega)];exact Nat.xor_lt_two_pow (by omega) (by omega)
 generalize (BitVec.ofInt IntKind.i64.bits ((k:Nat):Int) ^^^ BitVec.ofInt IntKind.i64.bits ((k / 64:Nat):Int)).toNat=w at hx;rw[wr (by omega) (by omega)];omega
theorem RBytes.get {a:Pq}{c:Nq}{m k:Nat} (hs:RBytes h [.sl 1 a m c] l F) (hk:k<l.length):∃ o,a=some o/\ld h o.1 (o.2+k) 0 1=some [.int .u8 (l[k].toNat:Int)]:=by obtain ⟨o,row,G,h1,h2,⟨rfl,_⟩,_⟩:=hs.read hk;exact ⟨o,h1,by rw[h2];rfl⟩
theorem pick (r:Rd lo h b n) (hn:n<=1000000) (m:Int):∃ (x:Int) (h':Heap),Ae lo 33 [.ptr (some (b,(0,0))),Iv m] h=some (Iv x,h')/\0<=x/\(0<m->x<m)/\Rd lo h' b (n+1)/\Mv h [b] h' [b]:=by
 obtain ⟨hge,a,code,c,p,Fc,hb,hc,hFc,hp,hcl⟩:=r;have hblt:=(Ef hb).1;have e1:ld h b 0 (0+1) 1=some [Iv ((p:Nat):Int)]:=by rw[Dg hb rfl];rfl
 have e2:=Eh hb hge (r:=0) (j:=0+1) (cs := [Iv ((p+1:Nat):Int)]) (row' := [.sl 1 a code.length c,Iv ((p+1:Nat):Int)]) rfl rfl;generalize hh1:h.set b (Blk.rows 2 109 false (List.set [[V.sl 1 a code.length c,Iv ((p:Nat):Int)]] 0 [V.sl 1 a code.length c,Iv ((p+1:Nat):Int)]))=h1 at e2;have hb1:h1[b]?=some (.rows 2 109 false [[.sl 1 a code.length c,Iv ((p+1:Nat):Int)]]):=by rw[<- hh1];simp[hblt]
 have m1:Mv h [b] h1 [b]:=⟨by rw[<- hh1];simp,λy hy hF=>by rw[<- hh1];exact XZ (λe=>hF (by simp[e])),by simp,λy hy => .inl hy⟩;have hc1:RBytes h1 [.sl 1 a code.length c] code Fc:=m1.keep (Sli.ok Cn) hc (λy hy hm=>by
  rw[Yj] at hm;have:=hFc y hy;omega)
 suffices hk:∃ x:Int,_=some (Iv x,h1)/\0<=x/\(0<m->x<m) from by obtain ⟨x,e,g1,g2⟩:=hk;exact ⟨x,h1,JM e,g1,g2,⟨hge,a,code,c,p+1,Fc,hb1,hc1,hFc,by omega,hcl⟩,m1⟩
 rw[e1,Af,Ab,Ai,Aa,Ay (by omega),e2,Af];by_cases hm:m<1
 ·rw[Am hm];exact ⟨0,rfl,Int.le_refl _,λh=>by omega⟩
 ·have l0:ld h1 b 0 (0+0) 1=some [.sl 1 a code.length c]:=by rw[Dg hb1 rfl];rfl
  have l1:ld h1 b 0 (0+1) 1=some [Iv ((p+1:Nat):Int)]:=by rw[Dg hb1 rfl];rfl
  have tm:∀ z:Int,0<=z->∃ x:Int,some (Iv (z.tmod m),h1)=some (Iv x,h1)/\0<=x/\(0<m->x<m):=λz hz=>⟨_,rfl,Int.tmod_nonneg m hz,λh=>by rw[Int.tmod_eq_emod_of_nonneg hz];exact Int.emod_lt_of_pos z h⟩
  have w1:AD (((p+1:Nat):Int) - 1)=((p:Nat):Int):=by rw[wr (by omega) (by omega)];omega
  rw[Ao hm,l0,Af,Ab,Ai,Ah];by_cases h0:code.length=0
  ·rw[show (((code.length:Nat):Int)==0)=true by rw[beq_iff_eq];omega,Ax];exact ⟨0,rfl,Int.le_refl _,λh=>by omega⟩
  ·rw[show (((code.length:Nat):Int)==0)=false by rw[beq_eq_false_iff_ne];omega,AC,l1,Af,Ab,Ai,Aa,Af,Ab,Ai,Ah,w1];by_cases hpc:p<code.length
   ·obtain ⟨o,ha,hld⟩:=hc1.get hpc;have hbt:code[p].toNat<256:=code[p].toNat_lt;rw[Am (by omega),Af,Ab,Ai,Ah,Ad hpc,ha,Af,By,hld,Af,Ab,Ai,Aa,Im (by omega),wr (by omega) (by omega)];exact tm _ (by omega)
   ·have hk1:p % code.length<code.length:=Nat.mod_lt _ (by omega);have hk2:(p*7+3) % code.length<code.length:=Nat.mod_lt _ (by omega);obtain ⟨o,ha,hld⟩:=hc1.get hk1;obtain ⟨o',ha',hld'⟩:=hc1.get hk2;have ho:o'=o:=by rw[ha] at ha';injection ha' with e;exact e.symm
    subst ho;have hb1:code[p % code.length].toNat<256:=UInt8.toNat_lt _;have hb2:code[(p*7+3) % code.length].toNat<256:=UInt8.toNat_lt _;have t1:((p:Nat):Int).tmod ((code.length:Nat):Int)=((p % code.length:Nat):Int):=rfl;have t2:AD (AD (((p:Nat):Int)*7)+3)=((p*7+3:Nat):Int):=by rw[wr (n:=((p:Nat):Int)*7) (by omega) (by omega),wr (by omega) (by omega)];omega
    have t3:((p*7+3:Nat):Int).tmod ((code.length:Nat):Int)=(((p*7+3) % code.length:Nat):Int):=rfl;have t4:((p:Nat):Int).tdiv ((code.length:Nat):Int)=((p / code.length:Nat):Int):=rfl;have hdv:p / code.length<=p:=Nat.div_le_self _ _;rw[Ao (by omega),Af,Ab,Ai,Ah,Af,Ab,Ai,Ah,Im (by omega),t1,Ad hk1,ha,Af,By,hld,Af,Ab,Ai,Aa,Af,Ab,Ai,Ah,Af,Ab,Ai,Ah,Im (by omega),t2,t3,Ad hk2,Af,By,hld',Af,Ab,Ai,Aa,Af,Ab,Ai,Ah,Im (by omega),Im (by omega),t4];generalize code[p % code.length].toNat=B1 at hb1;generalize code[(p*7+3) % code.length].toNat=B2 at hb2;generalize p / code.length=D at hdv;rw[wr (n:=((B1:Nat):Int)) (by omega) (by omega),wr (n:=((B2:Nat):Int)) (by omega) (by omega),wr (n:=((B1:Nat):Int)*131) (by omega) (by omega),wr (n:=((B2:Nat):Int)*1117) (by omega) (by omega),wr (n:=((B1:Nat):Int)*131+((B2:Nat):Int)*1117) (by omega) (by omega),
     wr (n:=((p:Nat):Int)*29) (by omega) (by omega),wr (n:=((B1:Nat):Int)*131+((B2:Nat):Int)*1117+((p:Nat):Int)*29) (by omega) (by omega),wr (n:=((D:Nat):Int)) (by omega) (by omega),wr (n:=((D:Nat):Int)*53) (by omega) (by omega),wr (n:=((B1:Nat):Int)*131+((B2:Nat):Int)*1117+((p:Nat):Int)*29+((D:Nat):Int)*53) (by omega) (by omega)]
    exact tm _ (Rm (by omega) (by omega))
theorem FP {c e:Nat}{xs:List Int}{rows:List (List V)}{len:Nat} (r:Rd lo h b n) (hn:n<=1000000) (hc:h[c]?=some (.rows 1 e ro rows)) (hcb:c≠b) (hr:rows=xs.map λx => [Iv x]) (hl:len=xs.length) (h0:0<len) :
  ∃ (x:Int) (h':Heap),Ae lo 34 [.ptr (some (b,(0,0))),.sl 1 (some (c,0)) len cc] h=some (Iv x,h')/\x∈xs/\Rd lo h' b (n+1)/\Mv h [b] h' [b]:=by
 obtain ⟨x,h1,e1,g1,g2,r1,m1⟩:=pick r hn ((len:Nat):Int);have hlt:=(Ef hc).1;obtain ⟨k,rfl⟩:∃ k:Nat,x=(k:Int):=⟨x.toNat,by omega⟩;have hk:k<xs.length:=by have:=g2 (by omega);omega
 have hc1:h1[c]?=some (.rows 1 e ro rows):=by rw[m1.fr c hlt (by simpa using hcb)];exact hc
 refine ⟨xs[k],h1,Kp ?_,X3 hk,r1,m1⟩;rw[e1,Ac,Aa,Ad (by omega),Af,By,Yw,Dg hc1 (i:=k) (row := [Iv xs[k]]) (by rw[hr,Zd,CX hk];rfl)];rfl
theorem VP {c e:Nat}{rows:List (List V)}{len:Nat} (r:Rd lo h b n) (hn:n<=1000000) (hc:h[c]?=some (.rows 1 e ro rows)) (hcb:c≠b) (hr:rows=xs.map λx => [.str x]) (hl:len=xs.length) (h0:0<len) :
  ∃ (x:ByteArray) (h':Heap),Ae lo 172 [.ptr (some (b,(0,0))),.sl 1 (some (c,0)) len cc] h=some (.str x,h')/\x∈xs/\Rd lo h' b (n+1)/\Mv h [b] h' [b]:=by
 obtain ⟨x,h1,e1,g1,g2,r1,m1⟩:=pick r hn ((len:Nat):Int);have hlt:=(Ef hc).1;obtain ⟨k,rfl⟩:∃ k:Nat,x=(k:Int):=⟨x.toNat,by omega⟩;have hk:k<xs.length:=by have:=g2 (by omega);omega
 have hc1:h1[c]?=some (.rows 1 e ro rows):=by rw[m1.fr c hlt (by simpa using hcb)];exact hc
 refine ⟨xs[k],h1,Lc ?_,X3 hk,r1,m1⟩;rw[e1,Ac,Aa,Ad (by omega),Af,By,Yw,Dg hc1 (i:=k) (row := [.str xs[k]]) (by rw[hr,Zd,CX hk];rfl)];rfl
theorem DQ {e:Nat} (xs:List Int) {rows:List (List V)}{len:Nat} (r:Rd lo h b n) (hn:n<=1000000) (hr:rows=xs.map λx => [Iv x]) (hl:len=xs.length) (h0:0<len) :
  ∃ (x:Int) (h':Heap),Ae lo 34 [.ptr (some (b,(0,0))),.sl 1 (some (h.length,0)) len cc] (h ++ [.rows 1 e false rows])=some (Iv x,h')/\x∈xs/\Rd lo h' b (n+1)/\Mv h [b] h' [b]:=by
 have m0:Mv h [b] (h ++ [.rows 1 e false rows]) [b]:=Mv.snoc' (by simp);have hlt:=r.lt;obtain ⟨x,h',e1,g1,r1,m1⟩:=FP (h:=h ++ [Blk.rows 1 e false rows]) (c:=h.length) (e:=e) (ro:=false) (xs:=xs) (cc:=cc) (r.keep (F := []) (F' := []) Mv.snoc (by simp) (by simp)) hn (by simp) (by omega) hr hl h0;exact ⟨x,h',e1,g1,r1,m0.trans m1⟩
theorem Tr {e:Nat} (xs:List ByteArray) {rows:List (List V)}{len:Nat} (r:Rd lo h b n) (hn:n<=1000000) (hr:rows=xs.map λx => [.str x]) (hl:len=xs.length) (h0:0<len) :
  ∃ (x:ByteArray) (h':Heap),Ae lo 172 [.ptr (some (b,(0,0))),.sl 1 (some (h.length,0)) len cc] (h ++ [.rows 1 e false rows])=some (.str x,h')/\x∈xs/\Rd lo h' b (n+1)/\Mv h [b] h' [b]:=by
 have m0:Mv h [b] (h ++ [.rows 1 e false rows]) [b]:=Mv.snoc' (by simp);have hlt:=r.lt;obtain ⟨x,h',e1,g1,r1,m1⟩:=VP (h:=h ++ [Blk.rows 1 e false rows]) (c:=h.length) (e:=e) (ro:=false) (xs:=xs) (cc:=cc) (r.keep (F := []) (F' := []) Mv.snoc (by simp) (by simp)) hn (by simp) (by omega) hr hl h0;exact ⟨x,h',e1,g1,r1,m0.trans m1⟩
theorem J8 {α β:Type}:∀ (l:List α),(l.map λ_=>([]:List β)).flatten = []
 | []=>rfl
 | _ :: l=>by simp[J8 l]
theorem TF {a:Pq}{c:Nq} (hs:RBytes h [.sl 1 a l.length c] l F) (hF:∀ y∈F,y<lo) (hlo:lo<=h.length) (hl:l.length<=1048576) (hcap:∀ k,c=some k->l.length<=k) :
  ∃ (b:Nat) (h':Heap),Ae lo 31 [.sl 1 a l.length c] h=some (.ptr (some (b,(0,0))),h')/\Rd lo h' b 0/\Mv h [] h' [b]:=by
 refine ⟨h.length,?_⟩;suffices hk:∃ h',_=some (V.ptr (some (h.length,(0,0))),h')/\Rd lo h' h.length 0/\Mv h [] h' [h.length] from by obtain ⟨h',e,g⟩:=hk;exact ⟨h',ML e,g⟩
 by_cases h2:l.length>2000
 ·have hre:∀ {T:Type} (K:Pq->Nat->Nq->Option T),AB a l.length c none (some (Iv 2000)) none K=K a 2000 c:=λK=>by
   unfold AB FK Ix Jg;cases c with
   | none=>simp only[Aa];rw[DZ ⟨by omega,by omega⟩];rfl
   | some k=>have:=hcap k rfl;simp only[Aa];rw[DZ ⟨by omega,by omega⟩];rfl
  have ht:RBytes h [.sl 1 a (l.take 2000).length c] (l.take 2000) F:=by
   obtain ⟨R',a',c',e,hR,hh⟩:=hs;injection e with e _;injection e with e0 e1 e2 e3;subst e1;subst e3;refine ⟨1,a,c,rfl,rfl,?_⟩;rcases hh with ⟨g,_⟩ | ⟨b,i,rs,Fs,g0,g1,g2,g3,g4⟩
   ·rw[g] at h2;simp at h2
   ·have hfl:=EAll.of_flat g3;refine .inr ⟨b,i,rs,(l.take 2000).map λ_ => [],g0,g1,by simp;omega,?_,?_⟩
    ·have:(rs.drop i).take (l.take 2000).length=(l.take 2000).map XG:=by rw[List.map_take,<- hfl.1,List.take_take];congr 1;simp
     rw[this];exact EAll.flat
    ·rw[g4,hfl.2,J8]
  have hlen:(l.take 2000).length=2000:=by simp;omega
  rw[Am (by omega),hre];refine ⟨_,rfl,⟨hlo,a,l.take 2000,c,0,F,?_,(Mv.snoc (t := [_])).keep0 (Sli.ok Cn) ht,hF,X1 _,by omega⟩,Mv.last⟩;rw[hlen];simp
 ·rw[Ao (by omega)];exact ⟨_,rfl,⟨hlo,a,l,c,0,F,by simp,(Mv.snoc (t := [_])).keep0 (Sli.ok Cn) hs,hF,X1 _,hl⟩,Mv.last⟩
end


variable {α:Type}{l:List α}
theorem Mv.apart {h h1:Heap}{A F1:List Nat}{b:Nat} (m:Mv h A h1 (b :: F1)):∀ y∈F1,y ∉ [b]:=λy hy hm=>by have hn:=m.nd;rw[Yk] at hn;rw[Yj] at hm;exact hn.1 (hm ▸ hy)
section
variable {lo:Nat}{h h':Heap}{F F':List Nat}{b n:Nat}
theorem Uw (r:Rd lo h b n) (hn:n<=900000):∃ (t:Tag) (h':Heap),Ae lo 139 [.ptr (some (b,(0,0)))] h=some (.agg t.cs,h')/\(BE t.time t.place=true/\t.time<=9)/\Rd lo h' b (n+3)/\Mv h [b] h' [b]:=by
 obtain ⟨x,h1,e1,g1,g1',r1,m1⟩:=pick r (by omega) 3;suffices hk:∃ (t:Tag) (h':Heap),_=some (V.agg t.cs,h')/\(BE t.time t.place=true/\t.time<=9)/\Rd lo h' b (n+3)/\Mv h [b] h' [b] from by obtain ⟨t,h',e,g⟩:=hk;exact ⟨t,h',Nz e,g⟩
 rw[e1,Ac,Aa];cases hx:(x==(0:Int)) with
 | true =>rw[Ax];exact ⟨⟨0,0⟩,h1,rfl,⟨rfl,by show (0:Int)<=9;decide⟩,r1.up (by omega),m1⟩
 | false =>obtain ⟨y,h2,e2,g2,g2',r2,m2⟩:=pick r1 (by omega) 9;obtain ⟨z,h3,e3,g3,g3',r3,m3⟩:=pick r2 (by omega) 3;have hy:=g2' (by omega);have hz:=g3' (by omega);rw[AC,e2,Ac,Aa,e3,Ac,Aa,wr (by omega) (by omega)];exact ⟨⟨1+y,z⟩,h3,rfl,⟨by simp[BE,Ag];omega,by show 1+y<=9;omega⟩,r3,(m1.trans m2).trans m3⟩
theorem Rh (r:Rd lo h b n) (hn:n<=890000):∃ (t:Tag) (h':Heap),Ae lo 96 [.ptr (some (b,(0,0)))] h=some (.agg t.cs,h')/\Rd lo h' b (n+4)/\Mv h [b] h' [b]:=by
 obtain ⟨x,h1,e1,g1,g1',r1,m1⟩:=pick r (by omega) 8;suffices hk:∃ (t:Tag) (h':Heap),_=some (V.agg t.cs,h')/\Rd lo h' b (n+4)/\Mv h [b] h' [b] from by obtain ⟨t,h',e,g⟩:=hk;exact ⟨t,h',Kr e,g⟩
 rw[e1,Ac,Aa];cases hx:(x==(0:Int)) with
 | true =>obtain ⟨y,h2,e2,_,r2,m2⟩:=DQ (e:=3) [0,-1,1000,999] (rows := [[Iv 0],[Iv (-1)],[Iv 1000],[Iv 999]]) (len:=4) (cc:=some 4) r1 (by omega) rfl rfl (by decide);obtain ⟨z,h3,e3,_,r3,m3⟩:=DQ (e:=3) [0,1,3,-1] (rows := [[Iv 0],[Iv 1],[Iv 3],[Iv (-1)]]) (len:=4) (cc:=some 4) r2 (by omega) rfl rfl (by decide);rw[Ax,e2,Ac,Aa,e3,Ac,Aa];exact ⟨⟨y,z⟩,h3,rfl,r3.up (by omega),(m1.trans m2).trans m3⟩
 | false =>obtain ⟨t,h2,e2,_,r2,m2⟩:=Uw r1 (by omega);simp only[Tag.cs] at e2;rw[AC,e2,Ac,AW,Ab,Aa,Ab,Aa,Ai];exact ⟨t,h2,rfl,r2,m1.trans m2⟩
theorem IW (r:Rd lo h b n) (hn:n<=900000):∃ (s:ByteArray) (h':Heap),Ae lo 141 [.ptr (some (b,(0,0)))] h=some (.str s,h')/\FH s=true/\Rd lo h' b (n+1)/\Mv h [b] h' [b]:=by
 obtain ⟨s,h1,e1,g1,r1,m1⟩:=Tr (e:=9) [⟨⟨[]⟩⟩,⟨⟨[97]⟩⟩,⟨⟨[98]⟩⟩,⟨⟨[120,35,49]⟩⟩,⟨⟨[61]⟩⟩,⟨⟨[45]⟩⟩,⟨⟨[108,111,110,103,116,101,120,116]⟩⟩,⟨⟨[122,122]⟩⟩]
  (rows := [[.str ⟨⟨[]⟩⟩],[.str ⟨⟨[97]⟩⟩],[.str ⟨⟨[98]⟩⟩],[.str ⟨⟨[120,35,49]⟩⟩],[.str ⟨⟨[61]⟩⟩],[.str ⟨⟨[45]⟩⟩],[.str ⟨⟨[108,111,110,103,116,101,120,116]⟩⟩],[.str ⟨⟨[122,122]⟩⟩]]) (len:=8) (cc:=some 8) r (by omega) rfl rfl (by decide)
 refine ⟨s,h1,MJ ?_,?_,r1,m1⟩
 ·rw[e1,Ac,Dw]
 ·have:∀ x∈([⟨⟨[]⟩⟩,⟨⟨[97]⟩⟩,⟨⟨[98]⟩⟩,⟨⟨[120,35,49]⟩⟩,⟨⟨[61]⟩⟩,⟨⟨[45]⟩⟩,⟨⟨[108,111,110,103,116,101,120,116]⟩⟩,⟨⟨[122,122]⟩⟩]:List ByteArray),FH x=true:=Ya.1 (by decide);exact this s g1
theorem Sli.made {cs:α->List V}{R e:Nat}{rows:List (List V)} (hr:rows=l.map cs):Sli false R e (flat cs) (h ++ [.rows R e false rows]) [.sl R (some (h.length,0)) l.length (some l.length)] l [h.length]:=by subst hr;refine ⟨R,some (h.length,0),some l.length,rfl,rfl,l.map cs,l.map λ_ => [],by simp,by simp,λk hk=>by injection hk with hk;simp;omega,(λhc=>(by cases hc)),?_,by rw[J8]⟩;rw[YQ,YA (by simp)];exact EAll.flat
def HB:List Tag := [⟨0,0⟩,⟨0,0⟩,⟨0,0⟩,⟨0,0⟩]
theorem Qe:∃ h' q,Ae lo 122 [] h=some (.agg [.sl 2 (some (q,0)) 4 (some 4)],h')/\RTags false h' [.sl 2 (some (q,0)) 4 (some 4)] HB [q]/\Mv h [] h' [q] :=
 ⟨_,h.length,NB rfl,Sli.made (l:=HB) rfl,Mv.last⟩
theorem On {Fs:List (List Nat)}:(Fs.drop 1).flatten.Sublist Fs.flatten:=by
 cases Fs with
 | nil=>simp
 | cons F Fs=>simp only[List.drop_succ_cons,YQ,Ym];exact List.sublist_append_right _ _
theorem Sli.behind {El:Rel α}{R e q i k m:Nat} (hs:Sli false R e El h [.sl R (some (q,i)) m (some k)] l F) (h0:0<l.length) (hnd:F.Nodup) :
  (∀ {T:Type} (K:Pq->Nat->Nq->Option T),1<k->AB (some (q,i)) m (some k) (some (Iv 1)) none none K=K (some (q,i+1)) (l.drop 1).length (some (k - 1))) /\
   ∃ F',Sli false R e El h [.sl R (some (q,i+1)) (l.drop 1).length (some (k - 1))] (l.drop 1) F'/\F'.Nodup/\∀ y∈F',y∈F:=by
 have hm:=hs.val;subst hm;obtain ⟨b',i',rs,Fs,ha,g1,g2,g3,g4,g5,rfl⟩:=hs.data h0;injection ha with ha;injection ha with e1 e2;subst e1;subst e2;obtain ⟨k1,k2⟩:=g3 k rfl;refine ⟨λK hk=>?_,q ::(Fs.drop 1).flatten,⟨R,some (q,i+1),some (k - 1),rfl,rfl,rs,Fs.drop 1,g1,by simp;omega,λk' hk=>?_,(λhc=>(by cases hc)),?_,rfl⟩,?_,λy hy=>?_⟩
 ·unfold AB FK Ix Jg M0;simp only[Aa,Zj];rw[DZ ⟨by omega,by omega⟩];have:Nat.beq k (Int.toNat 1)=false:=by
   cases hb:Nat.beq k (Int.toNat 1) with
   | false=>rfl
   | true =>have:=X5 hb;have e:Int.toNat 1=1:=rfl;omega
  rw[this,AC,YY];rfl
 ·injection hk with hk;subst hk;simp only[YY];omega
 ·have hd:=g5.drop 1;have:((rs.drop i).take l.length).drop 1=(rs.drop (i+1)).take (l.drop 1).length:=by rw[List.drop_take,Y5,YY]
  rw[<- this];exact hd
 ·rw[Yk] at hnd ⊢;have hsub:(Fs.drop 1).flatten.Sublist Fs.flatten:=On;exact ⟨λhm=>hnd.1 (hsub.mem hm),hnd.2.sublist hsub⟩
 ·have hsub:(Fs.drop 1).flatten.Sublist Fs.flatten:=On;rw[Ye] at hy ⊢;exact hy.imp id λhy=>hsub.mem hy
end


section
variable {lo:Nat}{h h':Heap}{F F':List Nat}{b n:Nat}
theorem Mv.thin {A F1 F2:List Nat}{h1:Heap} (m:Mv h A h1 (b :: F1)) (hn:F2.Nodup) (hs:∀ y∈F2,y∈F1):Mv h A h1 (b :: F2):=by have hn1:=m.nd;rw[Yk] at hn1;refine m.lean (Yk.2 ⟨λhm=>hn1.1 (hs b hm),hn⟩) λy hy=>?_;rw[Ye] at hy ⊢;exact hy.imp id (hs y)
def JQ:List Ver := [PU,PU,PU,PU]
theorem I3:RVer false h [Iv 0,Iv 0,Iv 0,.sl 0 none 0 (some 0),.str ⟨⟨[]⟩⟩,.bool false] PU []:=⟨_,rfl,Sli.nil⟩
theorem RA:∃ h' q,Ae lo 182 [] h=some (.agg [.sl 6 (some (q,0)) 4 (some 4)],h')/\RVers false h' [.sl 6 (some (q,0)) 4 (some 4)] JQ [q]/\Mv h [] h' [q]:=by
 refine ⟨_,h.length,PM rfl,⟨6,some (h.length,0),some 4,rfl,rfl,[[Iv 0,Iv 0,Iv 0,.sl 0 none 0 (some 0),.str ⟨⟨[]⟩⟩,.bool false],[Iv 0,Iv 0,Iv 0,.sl 0 none 0 (some 0),.str ⟨⟨[]⟩⟩,.bool false],[Iv 0,Iv 0,Iv 0,.sl 0 none 0 (some 0),.str ⟨⟨[]⟩⟩,.bool false],[Iv 0,Iv 0,Iv 0,.sl 0 none 0 (some 0),.str ⟨⟨[]⟩⟩,.bool false]],[[],[],[],[]],by simp,by decide,λk hk=>?_,(λhc=>(by cases hc)),?_,rfl⟩,Mv.last⟩
 ·injection hk with hk;subst hk;exact ⟨by decide,by decide⟩
 ·exact ⟨I3,I3,I3,I3,trivial⟩
end


section
variable {lo:Nat}{h h':Heap}{F F':List Nat}{b n:Nat}
theorem Sli.first {α:Type}{El:Rel α}{R e m i:Nat}{a:Pq}{c:Nq}{l:List α} (hs:Sli false R e El h [.sl R a m c] l F) (hi:i<=l.length) (hnd:F.Nodup):∃ F2,Sli false R e El h [.sl R a i c] (l.take i) F2/\F2.Nodup/\∀ y∈F2,y∈F:=by
 have hm:=hs.val;subst hm;by_cases h0:l.length=0
 ·have:l = []:=X6 h0;subst this;have:i=0:=by simpa using hi
  subst this;exact ⟨F,hs,hnd,λy hy=>hy⟩
 obtain ⟨b',i',rs,Fs,ha,g1,g2,g3,g4,g5,rfl⟩:=hs.data (k:=0) (by omega);have hs0:=hs;obtain ⟨R1,a1,c1,e1,_⟩:=hs;injection e1 with e1 _;injection e1 with e0 e2 _ e4;have hsub:(Fs.take i).flatten.Sublist Fs.flatten:=by
  conv=>{ rhs;rw[<- Yx i Fs,Yq] }
  exact List.sublist_append_left _ _
 rw[Yk] at hnd;refine ⟨b' ::(Fs.take i).flatten,⟨R,a,c,by simp;omega,?_⟩,Yk.2 ⟨λhm=>hnd.1 (hsub.mem hm),hnd.2.sublist hsub⟩,λy hy=>?_⟩
 ·subst ha;refine ⟨rfl,rs,Fs.take i,g1,by simp;omega,λk hk=>?_,g4,?_,rfl⟩
  ·have:=g3 k hk;simp only[YE];omega
  ·have hd:=g5.take i;rw[List.take_take] at hd;have:min i l.length=(l.take i).length:=by simp
   rw[<- this];exact hd
 ·rw[Ye] at hy ⊢;exact hy.imp id λhy=>hsub.mem hy
theorem MZ {m:Nat} (h1:1<=m) (h4:m<=4) (hl:lo<=h.length):∃ v h' F',Ae lo 154 [Iv (m:Nat)] h=some (.agg [v],h')/\RNodes false h' [v] (List.replicate m ⟨JQ,[]⟩) F'/\Mv h [] h' F':=by
 obtain ⟨q,a',c',h',F',e,r,mm⟩:=Cu (El:=RNode false) rnode_ok (h:=h) (l:=List.replicate m ()) (f:=λ_=>(⟨JQ,[]⟩:Node)) (lo:=lo) (R:=2) (e:=Oy false) (bytes:=48) hl (by decide) (by rw[Zb];omega)
  (λi q a n c hh=>BD lo ((m:Nat):Int) ((i:Nat):Int) 0 none 0 (some 0) q a n c hh) (λi hi q a n c hh hm=>by
   rw[Zb] at hi;obtain ⟨h3,q3,e3,t3,m3⟩:=RA (lo:=lo) (h:=hh);refine ⟨[.sl 6 (some (q3,0)) 4 (some 4),.sl 0 none 0 (some 0)],[q3],h3 ++ [.rows 2 (Oy false) false [[.sl 6 (some (q3,0)) 4 (some 4),.sl 0 none 0 (some 0)]]],⟨_,_,[q3],[],rfl,rfl,Mv.snoc.keep0 rvers_ok t3,Sli.nil⟩,m3.trans (Mv.snoc' m3.nd),?_⟩;rw[BD.e,Am (by omega),e3,Ac,AW,Ab,Ah,Ai,Ay (by omega)];exact Bn)
 rw[List.map_replicate] at r;rw[Zb] at e;refine ⟨_,h',F',Lg ?_,r,mm⟩;have hw:Ag ((m:Nat):Int) 1 4=true:=by simp only[Ag,C3,decide_eq_true_eq];omega
 rw[AY,Ac,A2,hw,Ax];refine e.trans ?_;rw[BD.e,Ao (by omega),Zb]
end


section
variable {lo:Nat}{ro ro':Bool}{h:Heap}{F F':List Nat}{a a':Pq}{c c':Nq}
theorem Dt {p:List Tag} (hp:BK p=true):p.length=4:=by unfold BK at hp;rw[C3,decide_eq_true_eq] at hp;exact hp.1
end


section
variable {lo:Nat}{h h':Heap}{w:World}{a1 a2 a3 a4 a:Pq}{c1 c2 c3 c4 c:Nq}{F1 F2 F3 F4:List Nat}
theorem Rv {kind num key:Int}{text:ByteArray}{gone:Bool}{i:Nat} (H:WR lo h w a1 c1 a2 c2 a3 c3 a4 c4 F1 F2 F3 F4) (hg:Fits w) (hi:i<w.sess.length) :
  ∃ cs' h' F',Ae lo 156 [.agg (w.cs a1 c1 a2 c2 a3 c3 a4 c4),.agg [Iv kind,Iv (i:Nat),Iv num,Iv key,.str text,.bool gone]] h=some (.tup [.agg cs',.bool (Kk w i w.sess[i]).isSome],h') /\
   K0 lo h' cs' ((Kk w i w.sess[i]).getD w) F'/\Mv h (F1++(F2++(F3++F4))) h' F'/\((Kk w i w.sess[i])=none->cs'=w.cs a1 c1 a2 c2 a3 c3 a4 c4):=by
 suffices hk:∃ cs' h' F',_=some (V.tup [.agg cs',.bool (Kk w i w.sess[i]).isSome],h')/\K0 lo h' cs' ((Kk w i w.sess[i]).getD w) F'/\Mv h (F1++(F2++(F3++F4))) h' F'/\((Kk w i w.sess[i])=none->cs'=w.cs a1 c1 a2 c2 a3 c3 a4 c4) from by obtain ⟨cs',h',F',e,hr⟩:=hk;exact ⟨cs',h',F',PG e,hr⟩
 have hso:=hg.ok.sess _ (X3 hi);obtain ⟨t1,t2,t3,t4,t5,t6⟩:=B3 hso;have hp4:=Dt t2;have h80:=hg.ok.h80;obtain ⟨k,hpl⟩:∃ k:Nat,w.sess[i].place=(k:Int):=⟨w.sess[i].place.toNat,by omega⟩;obtain ⟨m,hkey⟩:∃ m:Nat,w.sess[i].key=(m:Int):=⟨w.sess[i].key.toNat,by omega⟩;have hk:k<w.places.length:=by have:=hg.ok.p3;omega
 obtain ⟨hpo,hme,hro⟩:=hg.at hk;have hn:=(E8 (CI hpo) (by decide) (by decide) (by decide)).1;have hco:=(AE hpo).2.2.2.1;have hcl:=EU hpo;have hst:∀ x∈w.places[k].chain,Bw x.store=true:=λx hx=>(Bp ((Dx hco).2 x hx)).1
 have h04:=Cq (hst _ (X3 hcl));have hm0:m<w.places[k].chain[0].store.length:=by omega
 obtain ⟨b',i',v,e1',d1',Gs,rfl,hld',_,_,es',hv',_,hGn,puts⟩:=H.sess hi;obtain ⟨b,j,s1,s2,s3,b1,d1,b2,d2,b3,d3,G1,G2,G3,rfl,_,hc2,_,e1,e2,e3,g1,g2,g3,nd,hF,put⟩:=H.place hk;obtain ⟨u,x5,y5,h1,G5,e5,hsh,r5,m5⟩:=IE (lo:=lo) (k:=0) (key:=m) g1 hcl hst (by omega) H.hl hn.1.1;rw[show ((0:Nat):Int)=0 from rfl] at e5;obtain ⟨o,z1,z2,p1,q1,p2,q2,H1,H2,rfl,_,ho1,_,ez1,_,gg1,_,_⟩:=(m5.keep0 rnodes_ok g1).get hcl;obtain ⟨o',_,_,_,_,rfl,_,_,_,_,_,_,ho12,_⟩:=gg1.all hm0;have hX:Kk w i w.sess[i]=bif decide (w.sess[i].wait.time>0) then
    (bif Df u.tag w.sess[i].wait then (bif Df w.places[k].chain[0].store[m].tag w.sess[i].wait then some (setS w i ⟨w.sess[i].place,w.sess[i].past,⟨0,0⟩,0⟩ []) else none)
    else (bif CZ w 1 then some (setS w i ⟨w.sess[i].place,DH w.sess[i].past m w.sess[i].wait,⟨0,0⟩,0⟩ [⟨i,3,w.sess[i].key,w.sess[i].wait⟩]) else none)) else none:=by
  have hhd:(Et w.places[k].chain)[m]?=some w.places[k].chain[0].store[m]:=by unfold Et;rw[CX hcl];exact CX hm0
  unfold Kk;rw[hpl,hkey,By,By,CX hk];simp only[hsh,hhd]
 generalize hXX:Kk w i w.sess[i]=X at hX;obtain ⟨Hq,mq⟩:=H.up0 m5.drop;simp only[Ver.cs] at e5;rw[Ad hi,Af,By,hld',Af,Ab,Aa,Ab,es',Ab,Aa,Ab,Aa,Ab,Aa,Ai];by_cases hw:¬ w.sess[i].wait.time>0
 ·have:w.sess[i].wait.time=0:=by simp[BE,Ag] at t3;omega
  rw[this,Re,Ax];exact H.stay (by rw[hX,decide_eq_false hw];rfl)
 have hw:w.sess[i].wait.time>0:=by omega
 rw[decide_eq_true hw,cond_true] at hX;rw[show (w.sess[i].wait.time==0)=false by rw[beq_eq_false_iff_ne];omega,AC,hpl,Ad hk,Af,By,hc2,Af,Ab,e1,Ai,hkey,e5,Ac,AW,Ab,Aa,Ab,Aa,Ab,Aa,Ab,Ah,Ab,Dw,Ab,Bd,Ai,Er ⟨by omega,by omega⟩,Af,ho1,Af,Ab,Ai,ez1,Ad hm0,Af,By,ho12,Af,Ab,Aa,Ab,Aa,Ai,Bj,Ac,A2];cases hA:Fz u.tag.time u.tag.place w.sess[i].wait.time w.sess[i].wait.place with
 | true =>
  rw[show Df u.tag w.sess[i].wait=true from hA,cond_true] at hX;rw[Ax,Bj,Ac,A2];cases hB:Fz w.places[k].chain[0].store[m].tag.time w.places[k].chain[0].store[m].tag.place w.sess[i].wait.time w.sess[i].wait.place with
  | false =>rw[show Df w.places[k].chain[0].store[m].tag w.sess[i].wait=false from hB,cond_false] at hX;rw[AC];obtain ⟨cs',h',F',e,W,M,N⟩:=Hq.stay hX;exact ⟨cs',h',F',e,W,mq.trans M,N⟩
  | true =>rw[show Df w.places[k].chain[0].store[m].tag w.sess[i].wait=true from hB,cond_true] at hX;obtain ⟨h7,F7,e7,q7,m7⟩:=Hq.wait hi ⟨0,0⟩ 0;rw[Ax,Bj,Ac,A2,hA,Ax,Bj,Ac,A2,hA,Ax];simp only[] at e7;rw[e7,hX];refine ⟨_,h7,_,rfl,?_,mq.trans m7,λg=>by first | cases g | (simp at g)⟩;have W:=q7.at;simp only[World.cs,YC] at W;simpa only [setS,Y4,YW] using W
 | false =>
  rw[show Df u.tag w.sess[i].wait=false from hA,cond_false] at hX;rw[AC,Bj,Ac,A2,hA,AC];by_cases hh:(w.hist.length:Int)>=80
  ·rw[Am hh];obtain ⟨cs',h',F',e,W,M,N⟩:=Hq.stay (X:=X) (by rw[hX,show CZ w 1=false from decide_eq_false (by omega)];rfl);exact ⟨cs',h',F',e,W,mq.trans M,N⟩
  rw[show CZ w 1=true from decide_eq_true (by omega),cond_true] at hX;obtain ⟨x6,y6,h6,F6,e6,r6,m6⟩:=HJ (lo:=lo) (k:=m) (t:=w.sess[i].wait) (m5.keep0 rtags_ok hv') (by omega) Hq.hl (by omega);obtain ⟨h7,F7,e7,q7,m7,_⟩:=Hq.past hi m6 r6;obtain ⟨a8,c8,h8,F8,e8,q8,m8,_⟩:=D9 (d:=⟨i,3,(m:Nat),w.sess[i].wait⟩) q7 (by show w.hist.length<=1000;omega);have hi8:i<(w.sess.set i ⟨w.sess[i].place,DH w.sess[i].past m w.sess[i].wait,w.sess[i].wait,w.sess[i].key⟩).length:=by simpa using hi
  obtain ⟨h9,F9,e9,q9,m9⟩:=q8.wait hi8 ⟨0,0⟩ 0;have W:=q9.at;simp only[World.cs,YC] at e8 e9;simp only[World.cs,YC,List.getElem_set_self,List.set_set] at W;rw[Ao hh,Bj,Ac,A2,hA,AC,e6,Ac,AW,Ab,Ah,Ai,e7,e8,Ac,AW,Ab,Ah,Ab,Ah,Ab,Ah,Ab,Ah,Ai,e9,hX];refine ⟨_,h9,_,rfl,?_,mq.trans ((m7.trans m8).trans m9),λg=>by first | cases g | (simp at g)⟩;simpa only [setS,Y4,hkey] using W
end


section
variable {lo:Nat}{h h':Heap}{w:World}{a1 a2 a3 a4 a:Pq}{c1 c2 c3 c4 c:Nq}{F1 F2 F3 F4:List Nat}
theorem P4 {kind num key:Int}{text:ByteArray}{gone:Bool}{i:Nat} (H:WR lo h w a1 c1 a2 c2 a3 c3 a4 c4 F1 F2 F3 F4) (hg:Fits w) (hi:i<w.sess.length) :
  ∃ cs' h' F',Ae lo 157 [.agg (w.cs a1 c1 a2 c2 a3 c3 a4 c4),.agg [Iv kind,Iv (i:Nat),Iv num,Iv key,.str text,.bool gone]] h=some (.tup [.agg cs',.bool (GM w i w.sess[i] ⟨kind,(i:Nat),num,key,text,gone⟩).isSome],h') /\
   K0 lo h' cs' ((GM w i w.sess[i] ⟨kind,(i:Nat),num,key,text,gone⟩).getD w) F'/\Mv h (F1++(F2++(F3++F4))) h' F'/\((GM w i w.sess[i] ⟨kind,(i:Nat),num,key,text,gone⟩)=none->cs'=w.cs a1 c1 a2 c2 a3 c3 a4 c4):=by
 suffices hk:∃ cs' h' F',_=some (V.tup [.agg cs',.bool (GM w i w.sess[i] ⟨kind,(i:Nat),num,key,text,gone⟩).isSome],h')/\K0 lo h' cs' ((GM w i w.sess[i] ⟨kind,(i:Nat),num,key,text,gone⟩).getD w) F'/\Mv h (F1++(F2++(F3++F4))) h' F'/\((GM w i w.sess[i] ⟨kind,(i:Nat),num,key,text,gone⟩)=none->cs'=w.cs a1 c1 a2 c2 a3 c3 a4 c4) from by obtain ⟨cs',h',F',e,hr⟩:=hk;exact ⟨cs',h',F',Nf e,hr⟩
 have hso:=hg.ok.sess _ (X3 hi);obtain ⟨t1,t2,t3,t4,t5,t6⟩:=B3 hso;have hp4:=Dt t2;have h80:=hg.ok.h80;obtain ⟨k,hpl⟩:∃ k:Nat,w.sess[i].place=(k:Int):=⟨w.sess[i].place.toNat,by omega⟩;have hk:k<w.places.length:=by have:=hg.ok.p3;omega
 obtain ⟨hpo,hme,hro⟩:=hg.at hk;have hn:=(E8 (CI hpo) (by decide) (by decide) (by decide)).1;have hn1:=hn.1.1;have hch:=chain_iff.1 (AE hpo).2.2.2.1;have hst:∀ x∈w.places[k].chain,Bw x.store=true:=λx hx=>(Bp ((Dx (AE hpo).2.2.2.1).2 x hx)).1
 obtain ⟨b',i',v,e1',d1',Gs,rfl,hld',_,_,es',hv',_,hGn,puts⟩:=H.sess hi;obtain ⟨b,j,s1,s2,s3,b1,d1,b2,d2,b3,d3,G1,G2,G3,rfl,_,hc2,_,e1,e2,e3,g1,g2,g3,nd,hF,put⟩:=H.place hk;have hX:GM w i w.sess[i] ⟨kind,(i:Nat),num,key,text,gone⟩=bif !decide (w.sess[i].wait.time>0)&&(Ag key 0 3&&(Ag num 0 ((w.places[k].chain.length:Int) - 1)&&CZ w 1)) then
   (match HL w.places[k].chain num.toNat key.toNat,w.sess[i].past[key.toNat]? with
   | some v,some t=>bif Df v.tag t then none else some (setS w i ⟨w.sess[i].place,Qq w.sess[i] v key.toNat,w.sess[i].wait,w.sess[i].key⟩ [⟨i,2,key,v.tag⟩])
   | _,_=>none) else none:=by
  unfold GM;rw[hpl,By,CX hk]<;>rfl
 generalize hXX:GM w i w.sess[i] ⟨kind,(i:Nat),num,key,text,gone⟩=X at hX;rw[Ad hi,Af,By,hld',Af,Ab,Aa,Ab,es',Ab,Aa,Ab,Aa,Ab,Aa,Ai,hpl,Ad hk,Af,By,hc2,Af,Ab,e1,Ai];by_cases hw:w.sess[i].wait.time>0
 ·rw[Am hw];exact H.stay (by rw[hX,decide_eq_true hw];rfl)
 rw[decide_eq_false hw,Ze,Yn] at hX;rw[Ao hw,AY,Ac,A2];cases hwk:Ag key 0 3 with
 | false=>rw[AC];exact H.stay (by rw[hX,hwk];rfl)
 | true =>
 rw[hwk,Yn] at hX;rw[Ax,wr (by omega) (by omega),AY,Ac,A2];cases hwn:Ag num 0 ((w.places[k].chain.length:Int) - 1) with
 | false=>rw[AC];exact H.stay (by rw[hX,hwn];rfl)
 | true =>
 rw[hwn,Yn] at hX;rw[Ax];by_cases hh:(w.hist.length:Int)>=80
 ·rw[Am hh];exact H.stay (by rw[hX,show CZ w 1=false from decide_eq_false (by omega)];rfl)
 rw[show CZ w 1=true from decide_eq_true (by omega),cond_true] at hX;simp only[Ag,C3,decide_eq_true_eq] at hwk hwn;obtain ⟨m,rfl⟩:∃ m:Nat,key=(m:Int):=⟨key.toNat,by omega⟩;obtain ⟨n,rfl⟩:∃ n:Nat,num=(n:Int):=⟨num.toNat,by omega⟩;have hmp:m<w.sess[i].past.length:=by omega
 obtain ⟨u,x5,y5,h1,G5,e5,hsh,r5,m5⟩:=IE (lo:=lo) (k:=n) (key:=m) g1 (by omega) hst (by omega) H.hl hn1;obtain ⟨Hq,mq⟩:=H.up0 m5.drop;rw[By,By,hsh,CX hmp] at hX;simp only[] at hX;have hu4:BK u.past=true\/u.tag.time=0:=by
  have hql:Dr w.places[k].chain n<w.places[k].chain.length:=by unfold Dr;split<;>omega
  unfold HL at hsh;rw[DA hql] at hsh;rcases DW (GJ (hst _ (X3 hql)) hsh) with g | g
  ·exact .inr (GG g).1
  ·exact .inl (Bt g.1).2.2.2.1
 obtain ⟨o',ho',ho2⟩:=(m5.keep0 rtags_ok hv').get hmp;subst ho';simp only[Ver.cs] at e5;rw[Ao hh,e5,Ac,AW,Ab,Aa,Ab,Aa,Ab,Aa,Ab,Ah,Ab,Dw,Ab,Bd,Ai,Ad hmp,Af,By,ho2,Af,Ab,Aa,Ab,Aa,Ai,Bj,Ac,A2];cases hA:Fz u.tag.time u.tag.place w.sess[i].past[m].time w.sess[i].past[m].place with
 | true =>rw[show Df u.tag w.sess[i].past[m]=true from hA,cond_true] at hX;rw[Ax];obtain ⟨cs',h',F',e,W,M,N⟩:=Hq.stay hX;exact ⟨cs',h',F',e,W,mq.trans M,N⟩
 | false =>
 rw[show Df u.tag w.sess[i].past[m]=false from hA,cond_false] at hX;rw[AC];unfold Qq at hX;by_cases ht:u.tag.time>0
 ·rw[decide_eq_true ht,cond_true] at hX;have hu4':u.past.length=4:=Dt (hu4.resolve_right (by omega));obtain ⟨q6,x6,y6,h6,F6,e6,r6,m6⟩:=Qf (lo:=lo) (m5.keep0 rtags_ok hv') r5 hp4 hu4' Hq.hl;obtain ⟨x7,y7,es7,r7⟩:=r6.form;have hj:(BI w.sess[i].past u.past).length=4:=by unfold BI;rw[Zq];omega
  obtain ⟨x8,y8,h8,F8,e8,r8,m8⟩:=HJ (lo:=lo) (k:=m) (t:=u.tag) r7 (by omega) (XX Hq.hl m6.le) (by omega);obtain ⟨h9,F9,e9,q9,m9,_⟩:=Hq.past hi (m6.drop.trans m8) r8;obtain ⟨x10,y10,h10,F10,e10,q10,m10,_⟩:=D9 (d:=⟨i,2,(m:Nat),u.tag⟩) q9 (by show w.hist.length<=1000;omega);have W:=q10.at;simp only[World.cs,YC] at e10 W;rw[Am ht,e6,Ac,AW,Ab,es7,Ai,e8,Ac,AW,Ab,Ah,Ai,e9,e10,Ac,AW,Ab,Ah,Ab,Ah,Ab,Ah,Ab,Ah,Ai,hX];exact ⟨_,h10,_,rfl,W,mq.trans (m9.trans m10),λg=>by first | cases g | (simp at g)⟩
 ·rw[decide_eq_false ht,cond_false] at hX;obtain ⟨x10,y10,h10,F10,e10,q10,m10,_⟩:=D9 (d:=⟨i,2,(m:Nat),u.tag⟩) Hq (by omega);have W:=q10.at;simp only[World.cs] at e10 W;have hse:w.sess.set i ⟨w.sess[i].place,w.sess[i].past,w.sess[i].wait,w.sess[i].key⟩=w.sess:=Zn hi;rw[Ao ht,e10,Ac,AW,Ab,Ah,Ab,Ah,Ab,Ah,Ab,Ah,Ai,hX];refine ⟨_,h10,_,rfl,?_,mq.trans m10,λg=>by first | cases g | (simp at g)⟩;simpa only [setS,Y4,hse] using W
end


theorem VQ {a b:Tag} (h1:a.time=b.time) (h2:a.place=b.place):a=b:=by cases a;cases b;simp_all
theorem TN {p q:List Tag}{m:Nat}{a b:Tag} (hu:Ci p q=true) (ha:p[m]?=some a) (hb:q[m]?=some b):Ee a b=b:=by
 have:=under_iff.1 hu m a b ha hb;unfold Ee Df;rw[FU] at this;cases hl:Fz a.time a.place b.time b.place with
 | true=>rfl
 | false =>rw[FU] at hl;show a=b;exact VQ (by omega) (by omega)
theorem MT {p q:List Tag}{m:Nat} (hm:m<p.length) (hq:p.length=q.length) (hu:Ci p q=true):DH (q.take m++p.drop m) m (q[m]'(by omega))=q.take (m+1)++p.drop (m+1):=by
 have h1:(q.take m).length=m:=by simp;omega
 have h2:m<(q.take m++p.drop m).length:=by simp;omega
 have h3:(q.take m++p.drop m)[m]=p[m]:=by rw[List.getElem_append_right (by omega)];simp[h1]
 rw[Ie h2,h3,TN hu (CX hm) (CX (by omega)),List.set_append_right _ _ (by omega),h1,Zs,List.take_succ_eq_append_getElem (by omega),Yd,Yi hm];rfl
theorem Jj {i:Nat}{l:List Tag}{m:Nat} (hm:m<l.length):(CA i l).take (m+1)=(CA i l).take m ++ [⟨i,2,(m:Nat),l[m]⟩]:=by
 have hl:(CA i l).length=l.length:=by unfold CA;simp
 rw[List.take_succ_eq_append_getElem (by omega)];congr 2;unfold CA;rw[List.getElem_map,List.getElem_zipIdx];simp
section
variable {lo:Nat}{h h':Heap}{w:World}{a1 a2 a3 a4 a:Pq}{c1 c2 c3 c4 c:Nq}{F1 F2 F3 F4:List Nat}
theorem Rw {kind num key:Int}{text:ByteArray}{gone:Bool}{i:Nat} (H:WR lo h w a1 c1 a2 c2 a3 c3 a4 c4 F1 F2 F3 F4) (hg:Fits w) (hi:i<w.sess.length) :
  ∃ cs' h' F',Ae lo 158 [.agg (w.cs a1 c1 a2 c2 a3 c3 a4 c4),.agg [Iv kind,Iv (i:Nat),Iv num,Iv key,.str text,.bool gone]] h=some (.tup [.agg cs',.bool (JJ w i w.sess[i]).isSome],h') /\
   K0 lo h' cs' ((JJ w i w.sess[i]).getD w) F'/\Mv h (F1++(F2++(F3++F4))) h' F'/\((JJ w i w.sess[i])=none->cs'=w.cs a1 c1 a2 c2 a3 c3 a4 c4):=by
 suffices hk:∃ cs' h' F',_=some (V.tup [.agg cs',.bool (JJ w i w.sess[i]).isSome],h')/\K0 lo h' cs' ((JJ w i w.sess[i]).getD w) F'/\Mv h (F1++(F2++(F3++F4))) h' F'/\((JJ w i w.sess[i])=none->cs'=w.cs a1 c1 a2 c2 a3 c3 a4 c4) from by obtain ⟨cs',h',F',e,hr⟩:=hk;exact ⟨cs',h',F',PH e,hr⟩
 have hso:=hg.ok.sess _ (X3 hi);obtain ⟨t1,t2,t3,t4,t5,t6⟩:=B3 hso;have hp4:=Dt t2;have h80:=hg.ok.h80;obtain ⟨k,hpl⟩:∃ k:Nat,w.sess[i].place=(k:Int):=⟨w.sess[i].place.toNat,by omega⟩;have hk:k<w.places.length:=by have:=hg.ok.p3;omega
 obtain ⟨hpo,hme,hro⟩:=hg.at hk;have hn:=(E8 (CI hpo) (by decide) (by decide) (by decide)).1;have hn1:=hn.1.1;have hch:=chain_iff.1 (AE hpo).2.2.2.1;have hpos:=hch.pos;have hX:JJ w i w.sess[i]=bif !decide (w.sess[i].wait.time>0)&&(Ci w.sess[i].past (Bh w.places[k].chain)&&CZ w 4) then some (setS w i ⟨w.sess[i].place,Bh w.places[k].chain,w.sess[i].wait,w.sess[i].key⟩ (CA i (Bh w.places[k].chain))) else none:=by unfold JJ;rw[hpl,By,CX hk]
 obtain ⟨b',i',v,e1',d1',Gs,rfl,hld',_,_,es',hv',_,hGn,puts⟩:=H.sess hi;obtain ⟨b,j,s1,s2,s3,b1,d1,b2,d2,b3,d3,G1,G2,G3,rfl,_,hc2,_,e1,e2,e3,g1,g2,g3,nd,hF,put⟩:=H.place hk;have hlast:=Jr (l:=w.places[k].chain) (by omega);have hs4:=(hch.store (CX (show w.places[k].chain.length - 1<w.places[k].chain.length by omega))).2;obtain ⟨o,z1,z2,p1,q1,p2,q2,H1,H2,rfl,_,ho1,_,ez1,_,gg1,_,hH1,_⟩:=g1.get (show w.places[k].chain.length - 1<w.places[k].chain.length by omega);generalize hst:(w.places[k].chain[w.places[k].chain.length - 1]'(by omega)).store=store at hlast hs4 ez1 gg1;obtain ⟨tv,h1,T1,e5,r5,m5⟩:=KD (lo:=h.length) gg1 (X1 _) (by omega);obtain ⟨x5,y5,es5,r5⟩:=r5.form;obtain ⟨Hq,mq⟩:=H.up0 m5.drop;rw[hlast] at hX;have htl:(A5 store).length=4:=by unfold A5;rw[Zp];exact hs4
 have loop:∀ (r m:Nat) (hh:Heap) (x1:Pq) (y1:Nq) (x2:Pq) (y2:Nq) (x3:Pq) (y3:Nq) (x4:Pq) (y4:Nq) (K1 K2 K3 K4:List Nat),m+r=4->Ci w.sess[i].past (A5 store)=true->w.hist.length<=76 ->
   WR lo hh (setS w i ⟨w.sess[i].place,(A5 store).take m++w.sess[i].past.drop m,w.sess[i].wait,w.sess[i].key⟩ ((CA i (A5 store)).take m)) x1 y1 x2 y2 x3 y3 x4 y4 K1 K2 K3 K4 ->
   RVers false hh [.sl 6 p1 store.length q1] store H1->(∀ y∈H1,y∈K1) ->
   ∃ cs' h' F',Cy lo (m:Nat) x1 w.places.length y1 x2 w.sess.length y2 x3 w.net.length y3 x4 (w.hist++(CA i (A5 store)).take m).length y4 kind (i:Nat) num key text gone 0 none 0 (some 0) 0 none 0 (some 0) 0 none 0 (some 0) 0 none 0 (some 0) p1 store.length q1 hh=some (V.tup [.agg cs',.bool true],h') /\
    K0 lo h' cs' (setS w i ⟨w.sess[i].place,A5 store,w.sess[i].wait,w.sess[i].key⟩ (CA i (A5 store))) F'/\Mv hh (K1++(K2++(K3++K4))) h' F':=by
  intro r;induction r with
  | zero =>
   intro m hh x1 y1 x2 y2 x3 y3 x4 y4 K1 K2 K3 K4 hm hu hl Hm hv hK;have:m=4:=by omega
   subst this;have hrl:(CA i (A5 store)).length=4:=by unfold CA;simpa using htl
   have W:=Hm.at;rw[YA (by omega),YI (by omega),YW,YA (by omega)] at W;refine ⟨_,hh,_,?_,W,Mv.refl Hm.nd⟩;rw[Cy.e,Ao (by omega),YA (by omega)];simp only[World.cs,setS,YC]
  | succ r ih =>
   intro m hh x1 y1 x2 y2 x3 y3 x4 y4 K1 K2 K3 K4 hm hu hl Hm hv hK;have him:i<(setS w i ⟨w.sess[i].place,(A5 store).take m++w.sess[i].past.drop m,w.sess[i].wait,w.sess[i].key⟩ ((CA i (A5 store)).take m)).sess.length:=by simpa [setS] using hi
   obtain ⟨b0,i0,v0,e0,d0,G0,rfl,_,hld1,_,es0,hv0,_,_,_⟩:=Hm.sess him;have hss:(setS w i ⟨w.sess[i].place,(A5 store).take m++w.sess[i].past.drop m,w.sess[i].wait,w.sess[i].key⟩ ((CA i (A5 store)).take m)).sess[i]=⟨w.sess[i].place,(A5 store).take m++w.sess[i].past.drop m,w.sess[i].wait,w.sess[i].key⟩:=by simp[setS]
   have hpl4:((A5 store).take m++w.sess[i].past.drop m).length=4:=by simp;omega
   have hms:m<store.length:=by omega
   obtain ⟨o',_,_,_,_,ho',_,_,_,_,_,_,ho12,_⟩:=hv.all hms;have htm:(A5 store)[m]'(by omega)=store[m].tag:=by unfold A5;rw[List.getElem_map]
   rw[hss] at es0 hv0;have es0:∀ {R':Type} (K:Pq->Nat->Nq->Option R'),eS 2 v0 K=K e0 ((A5 store).take m++w.sess[i].past.drop m).length d0:=es0;have hv0:RTags false hh [.sl 2 e0 ((A5 store).take m++w.sess[i].past.drop m).length d0] ((A5 store).take m++w.sess[i].past.drop m) G0:=hv0;obtain ⟨x8,y8,h8,F8,e8,r8,m8⟩:=HJ (lo:=lo) (k:=m) (t:=store[m].tag) hv0 (by omega) Hm.hl (by omega);rw[<- htm,MT (by omega) (by omega) hu] at r8;obtain ⟨h9,F9,e9,q9,m9,s9⟩:=Hm.past him m8 r8;have hv9:=rvers_ok.fr _ _ _ _ _ hv λy hy=>s9 y (hK y hy);obtain ⟨o9,_,_,_,_,ho9,_,_,_,_,_,_,ho129,_⟩:=hv9.all hms;have:o'=o9:=by rw[ho'] at ho9;injection ho9
   subst this;have hrt:((CA i (A5 store)).take m).length<=4:=by rw[YE];omega
   obtain ⟨x10,y10,h10,F10,e10,q10,m10,s10⟩:=D9 (d:=⟨i,2,(m:Nat),store[m].tag⟩) q9 (by show (w.hist++_).length<=1000;rw[Yp];omega);have hv10:=rvers_ok.fr _ _ _ _ _ hv9 λy hy=>s10 y (hK y hy);simp only[setS,List.getElem_set_self,List.set_set,Yd] at q10;rw[<- htm,<- Jj (by omega)] at q10;obtain ⟨cs',h',F',e,W,M⟩:=ih (m+1) h10 _ _ _ _ _ _ _ _ _ _ _ _ (by omega) hu hl q10 hv10 hK;refine ⟨cs',h',F',?_,W,(m9.trans m10).trans M⟩;simp only[World.cs,setS,YC] at e9 e10;rw[hpl4] at es0 e8 e9;have hw8:(DH ((A5 store).take m++w.sess[i].past.drop m) m store[m].tag).length=4:=by rw[NK];exact hpl4
   rw[Cy.e,Am (by omega),Ad hi,Af,By,hld1,Af,Ab,es0,Ai,Ad hms,ho',Af,By,ho12,Af,Ab,Aa,Ab,Aa,Ai,e8,Ac,AW,Ab,Ah,Ai,e9,Ad hms,Af,ho129,Af,Ab,Aa,Ab,Aa,Ai,e10,Ac,AW,Ab,Ah,Ab,Ah,Ab,Ah,Ab,Ah,Ai,Ay (by omega),<- ho'];rw[Yd,<- htm,<- Jj (by omega)];exact e
 rw[Ad hi,Af,By,hld',Af,Ab,Aa,Ab,es',Ab,Aa,Ab,Aa,Ab,Aa,Ai,hpl,Ad hk,Af,By,hc2,Af,Ab,e1,Ai,wr (by omega) (by omega),Er ⟨by omega,by omega⟩,Af,show ((w.places[k].chain.length:Int) - 1).toNat=w.places[k].chain.length - 1 by omega,ho1,Af,Ab,ez1,Ai];by_cases hw:w.sess[i].wait.time>0
 ·rw[Am hw];exact H.stay (by rw[hX,decide_eq_true hw];rfl)
 rw[decide_eq_false hw,Ze,Yn] at hX;rw[Ao hw,e5,Ac,AW,Ab,es5,Ai,GE (m5.keep0 rtags_ok hv') r5 hp4 htl,Ac,A2];cases hu:Ci w.sess[i].past (A5 store) with
 | false =>rw[AC];obtain ⟨cs',h',F',e,W,M,N⟩:=Hq.stay (X:=JJ w i w.sess[i]) (by rw[hX,hu];rfl);exact ⟨cs',h',F',e,W,mq.trans M,N⟩
 | true =>
 rw[hu,Yn] at hX;rw[Ax,wr (by omega) (by omega)];by_cases hh:(w.hist.length:Int)+4>80
 ·rw[Am hh];obtain ⟨cs',h',F',e,W,M,N⟩:=Hq.stay (X:=JJ w i w.sess[i]) (by rw[hX,show CZ w 4=false from decide_eq_false (by omega)];rfl);exact ⟨cs',h',F',e,W,mq.trans M,N⟩
 rw[show CZ w 4=true from decide_eq_true (by omega),cond_true] at hX;have h0:setS w i ⟨w.sess[i].place,(A5 store).take 0++w.sess[i].past.drop 0,w.sess[i].wait,w.sess[i].key⟩ ((CA i (A5 store)).take 0)=w:=by have hse:w.sess.set i ⟨w.sess[i].place,w.sess[i].past,w.sess[i].wait,w.sess[i].key⟩=w.sess:=Zn hi;simp only[setS,List.take_zero,Yr,YQ,YW,hse]
 have hH1:∀ y∈H1,y∈F1:=λy hy=>(hF y (YG _ (hH1 y hy))).2.2
 obtain ⟨cs',h',F',e,W,M⟩:=loop 4 0 h1 _ _ _ _ _ _ _ _ _ _ _ _ (by omega) hu (by omega) (by rw[h0];exact Hq) (m5.keep0 rvers_ok gg1) hH1;simp only[List.take_zero,YW] at e;rw[Ao hh,hX];exact ⟨cs',h',F',e,W,mq.trans M,λg=>by first | cases g | (simp at g)⟩
theorem Kv {F:List Nat}{cs:List V}{X:Option World}{t:Ov} (ht:∃ cs' h' F',t=some (.tup [.agg cs',.bool X.isSome],h')/\K0 lo h' cs' (X.getD w) F'/\Mv h F h' F'/\(X=none->cs'=cs)) :
  ∃ cs' h' F',(Ak t λv_2 h_3=>eU v_2 λc_4=>eC c_4 λv_5 l_6=>eA v_5 λc_7=>eC c_7 λv_8 l_9=>eS 6 (v_8) λa_10 n_11 c_12=>eC l_9 λv_13 l_14=>eS 5 (v_13) λa_15 n_16 c_17=>eC l_14 λv_18 l_19=>eS 9 (v_18) λa_20 n_21 c_22=>eC l_19 λv_23 l_24=>eS 5 (v_23) λa_25 n_26 c_27=>eN l_24 (eC l_6 λv_28 l_29=>eB v_28 (eN l_29 (some (V.tup [.agg [.sl 6 a_10 n_11 c_12,.sl 5 a_15 n_16 c_17,.sl 9 a_20 n_21 c_22,.sl 5 a_25 n_26 c_27],.bool true],h_3))) (eN l_29 (some (V.tup [.agg [.sl 6 a_10 n_11 c_12,.sl 5 a_15 n_16 c_17,.sl 9 a_20 n_21 c_22,.sl 5 a_25 n_26 c_27],.bool false],h_3)))))=some (.tup [.agg cs',.bool X.isSome],h')/\K0 lo h' cs' (X.getD w) F'/\Mv h F h' F'/\(X=none->cs'=cs):=by
 obtain ⟨cs',h',F',rfl,W,M,N⟩:=ht;refine ⟨cs',h',F',?_,W,M,N⟩;obtain ⟨x1,y1,x2,y2,x3,y3,x4,y4,K1,K2,K3,K4,rfl,_,_⟩:=W;rw[Ac,Na,Ab,AW,Ab,Ah,Ab,Ah,Ab,Ah,Ab,Ah,Ai,Ab,A2];cases X.isSome
 ·rw[AC,Ai]
 ·rw[Ax,Ai]
theorem MX {e:Event} (H:WR lo h w a1 c1 a2 c2 a3 c3 a4 c4 F1 F2 F3 F4) (hg:Fits w) (ht:e.text.size<=1048576) :
  ∃ cs' h' F',Ae lo 123 [.agg (w.cs a1 c1 a2 c2 a3 c3 a4 c4),.agg e.cs] h=some (.tup [.agg cs',.bool (Ew w e).isSome],h')/\K0 lo h' cs' ((Ew w e).getD w) F'/\Mv h (F1++(F2++(F3++F4))) h' F'/\((Ew w e)=none->cs'=w.cs a1 c1 a2 c2 a3 c3 a4 c4):=by
 obtain ⟨kind,at',num,key,text,gone⟩:=e;suffices hk:∃ cs' h' F',_=some (V.tup [.agg cs',.bool (Ew w ⟨kind,at',num,key,text,gone⟩).isSome],h')/\K0 lo h' cs' ((Ew w ⟨kind,at',num,key,text,gone⟩).getD w) F'/\Mv h (F1++(F2++(F3++F4))) h' F'/\((Ew w ⟨kind,at',num,key,text,gone⟩)=none->cs'=w.cs a1 c1 a2 c2 a3 c3 a4 c4) from by obtain ⟨cs',h',F',e,hr⟩:=hk;exact ⟨cs',h',F',K5 e,hr⟩
 have hs4:=hg.ok.s4;unfold Ew;rw[wr (by omega) (by omega),AY,Ac,A2];cases hat:Ag at' 0 ((w.sess.length:Int) - 1) with
 | false=>rw[AC];exact H.stay rfl
 | true =>
 simp only[Ag,C3,decide_eq_true_eq] at hat;obtain ⟨i,rfl⟩:∃ i:Nat,at'=(i:Int):=⟨at'.toNat,by omega⟩;have hi:i<w.sess.length:=by omega
 rw[Ax,cond_true,By,CX hi];simp only[];cases h1:kind==1 with
 | true=>rw[Ax,cond_true];exact Kv (OK H hg ht hi)
 | false =>
 rw[AC,cond_false];cases h2:kind==2 with
 | true=>rw[Ax,cond_true];exact Kv (Rv H hg hi)
 | false =>
 rw[AC,cond_false];cases h3:kind==3 with
 | true=>rw[Ax,cond_true];exact Kv (P4 H hg hi)
 | false =>
 rw[AC,cond_false];cases h4:kind==4 with
 | true=>rw[Ax,cond_true];exact Kv (Rw H hg hi)
 | false =>
 rw[AC,cond_false];obtain ⟨b',i',v,e1',d1',Gs,rfl,_,_,hld2,es',hv',hv,hGn,puts⟩:=H.sess hi;rw[Ad hi,Af,hld2,Af,Ab,Ai,Aa];unfold Qz;by_cases hw:w.sess[i].wait.time>0
 ·rw[Am hw];exact H.stay (by rw[decide_eq_true hw];rfl)
 rw[Ao hw,decide_eq_false hw,Ze,Yn,AY,Ac,A2];cases hwn:Ag num 0 2 with
 | false=>rw[AC];exact H.stay rfl
 | true =>
 obtain ⟨h2',F5,e2,q2,m2,_⟩:=puts h Gs 0 [Iv num] [Iv num,v,Iv w.sess[i].wait.time,Iv w.sess[i].wait.place,Iv w.sess[i].key] ⟨num,w.sess[i].past,w.sess[i].wait,w.sess[i].key⟩ (Mv.refl hGn) rfl ⟨v,rfl,hv⟩;have W:=q2.at;simp only[World.cs,YC] at W;rw[Ax,Ad hi,Af,e2,Af,cond_true];refine ⟨_,h2',_,rfl,?_,m2,λg=>by first | cases g | (simp at g)⟩;simpa only [setS,Y4,YW] using W
theorem NN {e:Event} (H:WR lo h w a1 c1 a2 c2 a3 c3 a4 c4 F1 F2 F3 F4) (hg:Fits w) (ht:e.text.size<=1048576) :
  ∃ cs' h' F',Ae lo 76 [.agg (w.cs a1 c1 a2 c2 a3 c3 a4 c4),.agg e.cs] h=some (.tup [.agg cs',.bool (Fb w e).isSome],h')/\K0 lo h' cs' (Oz w e) F'/\Mv h (F1++(F2++(F3++F4))) h' F'/\((Fb w e)=none->cs'=w.cs a1 c1 a2 c2 a3 c3 a4 c4):=by
 have hc:=MX H hg ht;have hp:=OL (e:=e) H hg;have hn:=Ru (e:=e) H hg;obtain ⟨kind,at',num,key,text,gone⟩:=e;unfold Oz;suffices hk:∃ cs' h' F',_=some (V.tup [.agg cs',.bool (Fb w ⟨kind,at',num,key,text,gone⟩).isSome],h')/\K0 lo h' cs' ((Fb w ⟨kind,at',num,key,text,gone⟩).getD w) F'/\Mv h (F1++(F2++(F3++F4))) h' F'/\((Fb w ⟨kind,at',num,key,text,gone⟩)=none->cs'=w.cs a1 c1 a2 c2 a3 c3 a4 c4) from by obtain ⟨cs',h',F',e,hr⟩:=hk;exact ⟨cs',h',F',Rk e,hr⟩
 rw[AY,Ac,A2];unfold Fb;cases h1:Ag kind 1 5 with
 | true=>rw[Ax,cond_true];exact Kv hc
 | false =>
 rw[AC,cond_false,AY,Ac,A2];cases h2:Ag kind 6 9 with
 | true=>rw[Ax,cond_true];exact Kv hp
 | false =>
 rw[AC,cond_false,AY,Ac,A2];unfold Qy at hn;cases h3:kind==10 with
 | true =>
  have h4:Ag kind 10 13=true:=by rw[beq_iff_eq] at h3;subst h3;rfl
  simp only[h3,cond_true] at hn;rw[h4,Ax,cond_true];exact Kv hn
 | false =>
  simp only[h3,cond_false] at hn;rw[cond_false];cases h4:Ag kind 11 13 with
  | true =>
   have h5:Ag kind 10 13=true:=by simp[Ag] at h4 ⊢;omega
   rw[h5,Ax,cond_true];exact Kv hn
  | false =>
   have h5:Ag kind 10 13=false:=by rw[beq_eq_false_iff_ne] at h3;simp[Ag] at h4 ⊢;omega
   rw[h5,AC];exact H.stay rfl
end


def LY (m:Nat) (n:Nat):Place:=⟨(m:Int),0,List.replicate n ⟨JQ,[]⟩,[],[[],[],[]],false⟩
def W0 (i:Nat):Sess:=⟨((i % 3:Nat):Int),HB,⟨0,0⟩,0⟩
def Hi (n s:Nat):World:=⟨(List.range 3).map λi=>LY i n,(List.range s).map W0,[],[]⟩
theorem V8 {m n:Nat} (h1:1<=n) (h4:n<=4) (hm:m<=2):Ap (LY m n)=true:=by
 have hc:∀ n:Fin 5,1<=n.val->∀ m:Fin 3,Ap (LY m.val n.val)=true:=by decide +kernel
 exact hc ⟨n,by omega⟩ h1 ⟨m,by omega⟩
theorem TM {m n:Nat} (h1:1<=n) (h4:n<=4) (hm:m<=2):Roomy (LY m n):=by
 have hz:∀ v,inCh (LY m n).chain v->v.tag.time=0:=λv ⟨x,hx,hv⟩=>by
  have hx:=(List.mem_replicate.1 hx).2;subst hx;rcases hv with hv | hv
  ·have:∀ v∈JQ,v.tag.time=0:=by simp[JQ,PU]
   exact this v hv
  ·simp at hv
 refine ⟨⟨[],by simp,by simp[LY],λv hv ht=>by have:=hz v hv;omega⟩,λv hv ht=>?_⟩;have hpos:0<(LY m n).chain.length:=by show 0<(List.replicate _ _).length;rw[Zb];omega
 have hl:=EP hpos;rw[hl] at hv;have:=hz v ⟨_,X3 (by omega),.inl hv⟩;omega
theorem V7 {i:Nat}:Ei (W0 i)=true:=by
 have hc:∀ m:Fin 3,Ei ⟨((m.val:Nat):Int),HB,⟨0,0⟩,0⟩=true:=by decide +kernel
 exact hc ⟨i % 3,Nat.mod_lt _ (by decide)⟩
theorem J0 {n s:Nat} (h1:1<=n) (h4:n<=4) (hs:s<=4):Good (Hi n s):=by
 have hp:∀ (i:Nat) (p:Place),(Hi n s).places[i]?=some p->i<3/\p=LY i n:=λi p hp=>by simp only[Hi,Zd,Yv] at hp;obtain ⟨j,hj,rfl⟩:=hp;obtain ⟨hi,rfl⟩:=Ef hj;rw[List.length_range] at hi;exact ⟨hi,by rw[List.getElem_range]⟩
 refine ⟨⟨by simp[Hi],by simp[Hi,hs],by simp[Hi],by simp[Hi],λi p h=>?_,λx hx=>?_,by simp[Hi],by simp[Hi],λi p k g h hg=>?_⟩,λp h=>?_⟩
 ·obtain ⟨hi,rfl⟩:=hp i p h;exact ⟨rfl,V8 h1 h4 (by omega)⟩
 ·simp only[Hi,Zt] at hx;obtain ⟨i,_,rfl⟩:=hx;exact V7
 ·obtain ⟨hi,rfl⟩:=hp i p h;refine ⟨Fe (Hi n s).places k,?_⟩;have:g = []:=by
   have:(LY i n).got=List.replicate 3 []:=rfl;rw[this,List.getElem?_replicate] at hg;split at hg
   ·injection hg with hg;exact hg.symm
   ·cases hg
  rw[this];rfl
 ·obtain ⟨i,hi⟩:=Yf.1 h;obtain ⟨h3,rfl⟩:=hp i p hi;exact TM h1 h4 (by omega)
section
variable {lo:Nat}{h h':Heap}{w:World}{a1 a2 a3 a4 a:Pq}{c1 c2 c3 c4 c:Nq}{F F' F1 F2 F3 F4:List Nat}
theorem WR.of {cs:List V} (hw:PD false h cs w F) (hnd:F.Nodup) (hge:∀ y∈F,lo<=y) (hl:lo<=h.length):∃ s1 s2 s3 s4 a1 c1 a2 c2 a3 c3 a4 c4 F1 F2 F3 F4,cs = [s1,s2,s3,s4]/\F=F1++(F2++(F3++F4)) /\
  (∀ {T:Type} (K:Pq->Nat->Nq->Option T),eS 6 s1 K=K a1 w.places.length c1)/\(∀ {T:Type} (K:Pq->Nat->Nq->Option T),eS 5 s2 K=K a2 w.sess.length c2) /\
  (∀ {T:Type} (K:Pq->Nat->Nq->Option T),eS 9 s3 K=K a3 w.net.length c3)/\(∀ {T:Type} (K:Pq->Nat->Nq->Option T),eS 5 s4 K=K a4 w.hist.length c4)/\WR lo h w a1 c1 a2 c2 a3 c3 a4 c4 F1 F2 F3 F4:=by
 obtain ⟨s1,s2,s3,s4,F1,F2,F3,F4,rfl,rfl,r1,r2,r3,r4⟩:=hw;obtain ⟨a1,c1,e1,r1⟩:=r1.form;obtain ⟨a2,c2,e2,r2⟩:=r2.form;obtain ⟨a3,c3,e3,r3⟩:=r3.form;obtain ⟨a4,c4,e4,r4⟩:=r4.form;exact ⟨s1,s2,s3,s4,a1,c1,a2,c2,a3,c3,a4,c4,F1,F2,F3,F4,rfl,rfl,e1,e2,e3,e4,r1,r2,r3,r4,hnd,hge,hl⟩
theorem Rx {m n:Nat} (h1:1<=n) (h4:n<=4) :
  ∃ raw b1 d1 b3 d3 h' F',Ae lo 121 [Iv (m:Nat),Iv (n:Nat)] h=some (.agg raw,h')/\raw = [Iv (m:Nat),Iv 0,.sl 2 b1 n d1,.sl 0 none 0 (some 0),.sl 1 b3 3 d3,.bool false] /\
   RPlace false h' [Iv (m:Nat),Iv 0,.sl 2 b1 n d1,.sl 6 none 0 (some 0),.sl 1 b3 3 d3,.bool false] (LY m n) F'/\Mv h [] h' F':=by
 obtain ⟨v,h2,F2,e2,r2,m2⟩:=MZ (lo:=h.length) (h:=h) h1 h4 (X1 _);obtain ⟨b1,d1,es,r2⟩:=r2.form;rw[Zb] at es r2;have mx:Mv h2 [] (h2 ++ [.rows 1 50 false [[.sl 0 none 0 (some 0)],[.sl 0 none 0 (some 0)],[.sl 0 none 0 (some 0)]]]) [h2.length]:=Mv.last;have m3:=m2.join mx (rnodes_ok.bd _ _ _ _ r2);refine ⟨_,b1,d1,some (h2.length,0),some 3,_,F2 ++ [h2.length],PI ?_,rfl,⟨_,_,_,F2,[],[h2.length],rfl,rfl,mx.keep0 rnodes_ok r2,Sli.nil,?_⟩,m3⟩
 ·rw[e2,Ac,AW,Ab,es,Ai]
 ·refine ⟨1,some (h2.length,0),some 3,rfl,rfl,[[.sl 0 none 0 (some 0)],[.sl 0 none 0 (some 0)],[.sl 0 none 0 (some 0)]],[[],[],[]],by simp,X1 3,λk hk=>by injection hk with hk;subst hk;exact ⟨X1 3,X1 3⟩,(λhk=>by cases hk),?_,rfl⟩;exact ⟨Sli.nil,Sli.nil,Sli.nil,trivial⟩
end


section
variable {lo:Nat}{h h':Heap}{w:World}{a1 a2 a3 a4 a:Pq}{c1 c2 c3 c4 c:Nq}{F F' F1 F2 F3 F4:List Nat}
theorem Wm {T:Type} (K:Pq->Nat->Nq->Option T):eS 6 (.sl 0 none 0 (some 0)) K=K none 0 (some 0):=rfl
theorem LH {n s:Nat} (h1:1<=n) (h4:n<=4) (hs:s<=1000) (hl:lo<=h.length):∃ cs h' F',Ae lo 75 [Iv (n:Nat),Iv (s:Nat)] h=some (.agg cs,h')/\PD false h' cs (Hi n s) F'/\Mv h [] h' F':=by
 obtain ⟨q1,x1,y1,h1',F1,e1,r1,m1⟩:=Cu (El:=RPlace false) rplace_ok (h:=h) (l:=List.range 3) (f:=λi=>LY i n) (lo:=lo) (R:=6) (e:=60) (bytes:=96) hl (by decide) (by decide)
  (λi q a n1 c hh=>Cx lo (n:Nat) (s:Nat) (i:Nat) 0 none 0 (some 0) 0 none 0 (some 0) 0 none 0 (some 0) 0 none 0 (some 0) q a n1 c 0 none 0 (some 0) 0 none 0 (some 0) 0 none 0 (some 0) hh) (λi hi q a n1 c hh hm=>by
   rw[List.length_range] at hi;obtain ⟨raw,b1,d1,b3,d3,h2,F2,e2,rfl,r2,m2⟩:=Rx (lo:=lo) (h:=hh) (m:=i) h1 h4;refine ⟨[Iv (i:Nat),Iv 0,.sl 2 b1 n d1,.sl 6 none 0 (some 0),.sl 1 b3 3 d3,.bool false],F2,h2 ++ [.rows 6 60 false [[Iv (i:Nat),Iv 0,.sl 2 b1 n d1,.sl 6 none 0 (some 0),.sl 1 b3 3 d3,.bool false]]],by rw[List.getElem_range];exact Mv.snoc.keep0 rplace_ok r2,m2.trans (Mv.snoc' m2.nd),?_⟩;rw[Cx.e,Am (by omega),e2,Ac,AW,Ab,Aa,Ab,Aa,Ab,Ah,Ab,Wm,Ab,Ah,Ab,Bd,Ai,Bn,Ay (by omega)])
 obtain ⟨q2,x2,y2,h2',F2,e2,r2,m2⟩:=Cu (El:=RSess false) GL (h:=h1') (l:=List.range s) (f:=W0) (lo:=lo) (R:=5) (e:=72) (bytes:=56) (XX hl m1.le) (by decide) (by rw[List.length_range];omega)
  (λi q a n1 c hh=>Cw lo (s:Nat) (i:Nat) 0 none 0 (some 0) 0 none 0 (some 0) 0 none 0 (some 0) 0 none 0 (some 0) q1 x1 3 y1 q a n1 c 0 none 0 (some 0) 0 none 0 (some 0) hh) (λi hi q a n1 c hh hm=>by
   rw[List.length_range] at hi;obtain ⟨h2,q3,e3,t3,m3⟩:=Qe (lo:=lo) (h:=hh);have ht:((i:Int).tmod 3)=((i % 3:Nat):Int):=(Int.ofNat_tmod i 3).symm;refine ⟨[Iv ((i % 3:Nat):Int),.sl 2 (some (q3,0)) 4 (some 4),Iv 0,Iv 0,Iv 0],[q3],h2 ++ [.rows 5 72 false [[Iv ((i % 3:Nat):Int),.sl 2 (some (q3,0)) 4 (some 4),Iv 0,Iv 0,Iv 0]]],by rw[List.getElem_range];exact ⟨_,rfl,Mv.snoc.keep0 rtags_ok t3⟩,m3.trans (Mv.snoc' m3.nd),?_⟩;rw[Cw.e,Am (by omega),e3,Ac,AW,Ab,Ah,Ai,ht,Bn,Ay (by omega)])
 rw[List.length_range] at e1 r1 e2 r2;have m3:=m1.join m2 ((Sli.ok rplace_ok).bd _ _ _ _ r1);refine ⟨[.sl q1 x1 3 y1,.sl q2 x2 s y2,.sl 0 none 0 (some 0),.sl 0 none 0 (some 0)],h2',F1++(F2++([] ++ [])),PE ?_,⟨_,_,_,_,F1,F2,[],[],rfl,rfl,m2.keep0 rplaces_ok r1,r2,Sli.nil,Sli.nil⟩,by simpa using m3⟩;refine e1.trans ?_;rw[Cx.e,Ao (by omega)];refine e2.trans ?_;rw[Cw.e,Ao (by omega)]
theorem So {l:List Done} (hl:lo<=h.length) (hn:l.length<=1048576):∃ a' c' h' F',(∀ {T:Type} (K:V->Heap->Option T),CC lo 32 5 40 (.sl 5 (some (h.length,0)) 0 (some 0)) (l.map Done.cs) (h ++ [.rows 5 32 false []]) K=K (.sl 5 a' l.length c') h') /\
  RDones false h' [.sl 5 a' l.length c'] l F'/\Mv h [] h' F':=by
 have hfl:(l.map λ_=>([]:List Nat)).flatten = []:=by simp
 obtain ⟨a',c',h',F',e,r,l1,fr,sub,nd⟩:=Hp (h:=h) (lo:=lo) (El:=flat Done.cs) (R:=5) (e:=32) (bytes:=40) Cn (rows:=l.map Done.cs) (l:=l) (Fs:=l.map λ_ => []) EAll.flat (by rw[hfl];simp) (by rw[hfl];simp) (by decide) (by omega) hl;refine ⟨a',c',h',F',e,r,by omega,λy hy _=>fr y hy,nd,λy hy=>?_⟩;rcases sub y hy with g | g
 ·rw[hfl] at g;simp at g
 ·exact .inr g
theorem P6 (r1:RPlaces false h [.sl 6 a1 w.places.length c1] w.places F1) (r2:RSesss false h [.sl 5 a2 w.sess.length c2] w.sess F2) (r3:RFrames false h [.sl 9 a3 w.net.length c3] w.net F3) (r4:RDones false h [.sl 5 a4 w.hist.length c4] w.hist F4) (hn:SH w) (hl:lo<=h.length) :
  ∃ cs h' F',Ae lo 138 [.agg (w.cs a1 c1 a2 c2 a3 c3 a4 c4)] h=some (.agg cs,h')/\PD false h' cs w F'/\Mv h [] h' F':=by
 obtain ⟨⟨n1,n1'⟩,⟨n2,n2'⟩,⟨n3,n3'⟩,n4⟩:=hn;obtain ⟨x4,y4,h4,K4,e4,t4,m4⟩:=So (lo:=lo) (h:=h) (l:=w.hist) hl n4;obtain ⟨q1,x1,y1,h5,K1,e1,t1,m1⟩:=Cu (El:=RPlace false) rplace_ok (h:=h4) (l:=w.places) (f:=id) (lo:=lo) (R:=6) (e:=60) (bytes:=96) (XX hl m4.le) (by decide) (by omega)
  (λi q a n c hh=>B8 lo (i:Nat) a1 w.places.length c1 a2 w.sess.length c2 a3 w.net.length c3 a4 w.hist.length c4 0 none 0 (some 0) 0 none 0 (some 0) 0 none 0 (some 0) 0 none 0 (some 0) q a n c 0 none 0 (some 0) 0 none 0 (some 0) x4 w.hist.length y4 hh) (λi hi q a n c hh hm=>by
   obtain ⟨o,s1,s2,s3,b1,d1,b2,d2,b3,d3,H1,H2,H3,ha,ho,_,_,_,_,es1,es2,es3,p1,p2,p3,_⟩:=((m4.drop.trans hm).keep0 rplaces_ok r1).get hi;obtain ⟨raw,z1,t1,z2,t2,z3,t3,h6,K6,e6,n6,r6,m6⟩:=ON (lo:=lo) p1 p2 p3 (XX (XX hl m4.le) hm.le) (n1' _ (X3 hi));obtain ⟨v1,v2,v3,_,_,_,_,_,_,rfl,k1,k2,k3,eq⟩:=n6;obtain ⟨rfl,rfl,rfl,rfl,rfl,rfl⟩:=Xf eq;refine ⟨w.places[i].cs z1 t1 z2 t2 z3 t3,K6,h6 ++ [.rows 6 60 false [w.places[i].cs z1 t1 z2 t2 z3 t3]],Mv.snoc.keep0 rplace_ok r6,m6.trans (Mv.snoc' m6.nd),?_⟩;simp only[Place.cs] at e6;rw[B8.e,Am (by omega),Ad hi,ha,Af,By,ho,Af,Ab,Aa,Ab,Aa,Ab,es1,Ab,es2,Ab,es3,Ab,Bd,Ai,e6,Ac,AW,Ab,Aa,Ab,Aa,Ab,k1,Ab,k2,Ab,k3,Ab,Bd,Ai,Bn,Ay (by omega),<- ha])
 have l5:=XX (XX hl m4.le) m1.le;have m41:=m4.drop.trans m1.drop;obtain ⟨q2,x2,y2,h6,K2,e2,t2,m2⟩:=Cu (El:=RSess false) GL (h:=h5) (l:=w.sess) (f:=id) (lo:=lo) (R:=5) (e:=72) (bytes:=56) l5 (by decide) (by omega)
  (λi q a n c hh=>B7 lo (i:Nat) a1 w.places.length c1 a2 w.sess.length c2 a3 w.net.length c3 a4 w.hist.length c4 0 none 0 (some 0) 0 none 0 (some 0) 0 none 0 (some 0) 0 none 0 (some 0) q1 x1 w.places.length y1 q a n c 0 none 0 (some 0) x4 w.hist.length y4 hh) (λi hi q a n c hh hm=>by
   obtain ⟨o,v,b1,d1,G,ha,ho,_,_,es,hp,_⟩:=((m41.trans hm).keep0 rsesss_ok r2).get hi;obtain ⟨z1,t1,h7,K7,e7,r7,m7⟩:=GU (lo:=lo) (h:=hh) (l:=w.sess[i].past) (XX l5 hm.le) (n2' _ (X3 hi));refine ⟨w.sess[i].cs z1 t1,K7,h7 ++ [.rows 5 72 false [w.sess[i].cs z1 t1]],⟨_,rfl,Mv.snoc.keep0 rtags_ok r7⟩,m7.trans (Mv.snoc' m7.nd),?_⟩;rw[B7.e,Am (by omega),Ad hi,ha,Af,By,ho,Af,Ab,Aa,Ab,es,Ab,Aa,Ab,Aa,Ab,Aa,Ai,RTags.rows (Mv.snoc.keep0 rtags_ok hp),e7,Ah,Bn,Ay (by omega),<- ha])
 have l6:=XX l5 m2.le;have m42:=m41.trans m2.drop;obtain ⟨q3,x3,y3,h7,K3,e3,t3,m3⟩:=Cu (El:=SD false) rframe_ok (h:=h6) (l:=w.net) (f:=id) (lo:=lo) (R:=9) (e:=91) (bytes:=96) l6 (by decide) (by omega)
  (λi q a n c hh=>B6 lo (i:Nat) a1 w.places.length c1 a2 w.sess.length c2 a3 w.net.length c3 a4 w.hist.length c4 0 none 0 (some 0) 0 none 0 (some 0) 0 none 0 (some 0) 0 none 0 (some 0) q1 x1 w.places.length y1 q2 x2 w.sess.length y2 q a n c x4 w.hist.length y4 hh) (λi hi q a n c hh hm=>by
   obtain ⟨o,s,b1,d1,G,ha,ho,es,hp,_⟩:=((m42.trans hm).keep0 rframes_ok r3).get hi;obtain ⟨z1,t1,h7,K7,e7,r7,m7⟩:=BQ (lo:=lo) (v:=w.net[i].ver) hp (XX l6 hm.le) (n3' _ (X3 hi)).1;refine ⟨w.net[i].cs z1 t1,K7,h7 ++ [.rows 9 91 false [w.net[i].cs z1 t1]],⟨_,rfl,_,rfl,Mv.snoc.keep0 rtags_ok r7⟩,m7.trans (Mv.snoc' m7.nd),?_⟩;simp only[Ver.cs] at e7;rw[B6.e,Am (by omega),Ad hi,ha,Af,By,ho,Af,Ab,Aa,Ab,Aa,Ab,Aa,Ab,Aa,Ab,Aa,Ab,Aa,Ab,es,Ab,Dw,Ab,Bd,Ai,e7,Ac,AW,Ab,Aa,Ab,Aa,Ab,Aa,Ab,Ah,Ab,Dw,Ab,Bd,Ai,Bn,Ay (by omega),<- ha])
 rw[List.map_id] at t1 t2 t3;have bd1:=(Sli.ok rplace_ok).bd _ _ _ _ t1;have bd2:=(Sli.ok GL).bd _ _ _ _ t2;have bd4:=rdones_ok.bd _ _ _ _ t4;have j1:=m4.join m1 bd4;have j2:=j1.join m2 (λy hy=>by
  rcases X0.1 hy with g | g
  ·exact Yb (bd4 y g) m1.le
  ·exact bd1 y g)
 have j3:=j2.join m3 (λy hy=>by
  rcases X0.1 hy with g | g
  ·rcases X0.1 g with g | g
   ·exact Yb (bd4 y g) (XX m1.le m2.le)
   ·exact Yb (bd1 y g) m2.le
  ·exact bd2 y g)
 have hperm:(K1++(K2++(K3++K4))).Perm (((K4++K1)++K2)++K3):=by rw[Yd,Yd];exact Qs
 refine ⟨_,h7,K1++(K2++(K3++K4)),Nj ?_,⟨_,_,_,_,K1,K2,K3,K4,rfl,rfl,(m2.drop.trans m3.drop).keep0 rplaces_ok t1,m3.keep0 rsesss_ok t2,t3,(m1.drop.trans (m2.drop.trans m3.drop)).keep0 rdones_ok t4⟩,j3.lean (hperm.nodup_iff.2 j3.nd) λy hy=>hperm.mem_iff.1 hy⟩;obtain ⟨rows,Fs,k1,k2,_⟩:=(Mv.snoc (t := [.rows 5 32 false []])).keep0 rdones_ok r4 |>.rows;rw[k1,k2.of_flat.1,e4,Ah];refine e1.trans ?_;rw[B8.e,Ao (by omega)];refine e2.trans ?_;rw[B7.e,Ao (by omega)];refine e3.trans ?_;rw[B6.e,Ao (by omega)]
end


section
variable {lo:Nat}{h h':Heap}{w:World}{a1 a2 a3 a4 a:Pq}{c1 c2 c3 c4 c:Nq}{F F' F1 F2 F3 F4:List Nat}{b n:Nat}
theorem Se {n2 n3 n4:Nat} (r:Rd lo h b n) (hn:n<=500000) (hp:RPlaces false h [.sl 6 a1 w.places.length c1] w.places F1) (hb:b∉F1) (h3:w.places.length=3) (hgot:∀ p∈w.places,p.got.length=3) :
  ∃ (e:Event) (h':Heap),Ae lo 103 [.ptr (some (b,(0,0))),.agg [.sl 6 a1 w.places.length c1,.sl 5 a2 n2 c2,.sl 9 a3 n3 c3,.sl 5 a4 n4 c4]] h=some (.agg e.cs,h')/\e.text.size<=10/\Rd lo h' b (n+20)/\Mv h [b] h' [b]:=by
 suffices hk:∃ (e:Event) (h':Heap),_=some (V.agg e.cs,h')/\e.text.size<=10/\Rd lo h' b (n+20)/\Mv h [b] h' [b] from by obtain ⟨e,h',g,hr⟩:=hk;exact ⟨e,h',Ld g,hr⟩
 obtain ⟨at',h1,e1,g1,g1',r1,m1⟩:=pick r (by omega) 3;obtain ⟨x,h2,e2,g2,g2',r2,m2⟩:=pick r1 (by omega) 20;have m12:=m1.trans m2;have h03:=g1' (by omega);have told:∀ (y:Int) (k:Heap),Ae lo 33 [.ptr (some (b,(0,0))),Iv 3] h2=some (Iv y,k)->0<=y->y<3->Rd lo k b (n+1+1+1)->Mv h2 [b] k [b] ->
   ∃ (e:Event) (h':Heap),(Ak (Ae lo 33 [.ptr (some (b,(0,0))),Iv 3] h2) λv_0 h_1=>eI .i64 v_0 λn_2=>Av n_2 w.places.length (eO a1 λo=>eO (ld h_1 o.1 (o.2+n_2.toNat) 4 1) λo=>eC o λo s=>eN s (eS 1 o λo s b=>Av at' s (eO o λo=>eO (ld h_1 o.1 (o.2+at'.toNat) 0 1) λo=>eC o λo s=>eN s (eS 6 o λo o s=>some (V.agg [Iv 10,Iv at',Iv n_2,Iv ((o:Nat):Int),.str ⟨⟨[]⟩⟩,.bool false],h_1))))))=some (V.agg e.cs,h')/\e.text.size<=10/\Rd lo h' b (n+20)/\Mv h [b] h' [b]:=by
  intro y k f lo1 hi1 q u;obtain ⟨j,rfl⟩:∃ j:Nat,y=(j:Int):=⟨y.toNat,by omega⟩;obtain ⟨i,rfl⟩:∃ i:Nat,at'=(i:Int):=⟨at'.toNat,by omega⟩;have hj:j<w.places.length:=by omega
  have hg3:=hgot _ (X3 hj);have m3:=m12.trans u;obtain ⟨o,s1,s2,s3,b1,d1,b2,d2,b3,d3,G1,G2,G3,ha,_,_,_,_,ho,_,_,es3,_,_,p3,_⟩:=(m3.keep rplaces_ok hp λy hy hm=>hb (by rw[Yj] at hm;exact hm ▸ hy)).get hj;obtain ⟨o',row,G,ha',ho',hel,_⟩:=p3.read (show i<w.places[j].got.length by omega);obtain ⟨v,rfl⟩:∃ v,row = [v]:=by obtain ⟨R',a',c',e,_⟩:=id hel;exact ⟨_,e⟩
  obtain ⟨b4,d4,es4,_⟩:=hel.form;have ld4:ld k o'.1 (o'.2+i) 0 1=some [v]:=by rw[ho'];rfl
  rw[f,Ac,Aa,Ad hj,ha,Af,By,ho,Af,Ab,Ai,es3,Ad (by omega),ha',Af,By,ld4,Af,Ab,Ai,es4];exact ⟨⟨10,(i:Nat),(j:Nat),((w.places[j].got[i]'(by omega)).length:Nat),⟨⟨[]⟩⟩,false⟩,k,rfl,Yl _,q.up (by omega),m3⟩
 rw[e1,Ac,Aa,e2,Ac,Aa];cases x==(0:Int) with
 | true =>rw[Ax];obtain ⟨y1,k1,f1,lo1,hi1,q1,u1⟩:=pick r2 (by omega) 4;obtain ⟨y2,k2,f2,lo2,hi2,q2,u2⟩:=pick q1 (by omega) 4;obtain ⟨y3,k3,f3,g3,q3,u3⟩:=IW q2 (by omega);rw[f1,Ac,Aa,f2,Ac,Aa,f3,Ac,Dw];exact ⟨⟨1,y1,0,y2,y3,false⟩,k3,rfl,XX (D7 g3) (by decide),q3.up (by omega),((((m1.trans m2).trans u1).trans u2).trans u3)⟩
 | false =>
 rw[AC];cases x==(1:Int) with
 | true =>rw[Ax];obtain ⟨y1,k1,f1,lo1,hi1,q1,u1⟩:=pick r2 (by omega) 4;obtain ⟨y2,k2,f2,lo2,hi2,q2,u2⟩:=pick q1 (by omega) 4;obtain ⟨y3,k3,f3,g3,q3,u3⟩:=IW q2 (by omega);rw[f1,Ac,Aa,f2,Ac,Aa,f3,Ac,Dw];exact ⟨⟨1,y1,0,y2,y3,false⟩,k3,rfl,XX (D7 g3) (by decide),q3.up (by omega),((((m1.trans m2).trans u1).trans u2).trans u3)⟩
 | false =>
 rw[AC];cases x==(2:Int) with
 | true =>rw[Ax];obtain ⟨y1,k1,f1,lo1,hi1,q1,u1⟩:=pick r2 (by omega) 4;obtain ⟨y2,k2,f2,lo2,hi2,q2,u2⟩:=pick q1 (by omega) 4;obtain ⟨y3,k3,f3,g3,q3,u3⟩:=IW q2 (by omega);rw[f1,Ac,Aa,f2,Ac,Aa,f3,Ac,Dw];exact ⟨⟨1,y1,0,y2,y3,false⟩,k3,rfl,XX (D7 g3) (by decide),q3.up (by omega),((((m1.trans m2).trans u1).trans u2).trans u3)⟩
 | false =>
 rw[AC];cases x==(3:Int) with
 | true =>rw[Ax];obtain ⟨y1,k1,f1,lo1,hi1,q1,u1⟩:=pick r2 (by omega) 4;obtain ⟨y2,k2,f2,lo2,hi2,q2,u2⟩:=pick q1 (by omega) 4;rw[f1,Ac,Aa,f2,Ac,Aa];exact ⟨⟨1,y1,0,y2,⟨⟨[]⟩⟩,true⟩,k2,rfl,Yl _,q2.up (by omega),(((m1.trans m2).trans u1).trans u2)⟩
 | false =>
 rw[AC];cases x==(4:Int) with
 | true =>rw[Ax];obtain ⟨y1,k1,f1,lo1,hi1,q1,u1⟩:=pick r2 (by omega) 4;rw[f1,Ac,Aa];exact ⟨⟨2,y1,0,0,⟨⟨[]⟩⟩,false⟩,k1,rfl,Yl _,q1.up (by omega),((m1.trans m2).trans u1)⟩
 | false =>
 rw[AC];cases x==(5:Int) with
 | true =>rw[Ax];obtain ⟨y1,k1,f1,lo1,hi1,q1,u1⟩:=pick r2 (by omega) 4;rw[f1,Ac,Aa];exact ⟨⟨2,y1,0,0,⟨⟨[]⟩⟩,false⟩,k1,rfl,Yl _,q1.up (by omega),((m1.trans m2).trans u1)⟩
 | false =>
 rw[AC];cases x==(6:Int) with
 | true =>rw[Ax];obtain ⟨y1,k1,f1,lo1,hi1,q1,u1⟩:=pick r2 (by omega) 4;rw[f1,Ac,Aa];exact ⟨⟨2,y1,0,0,⟨⟨[]⟩⟩,false⟩,k1,rfl,Yl _,q1.up (by omega),((m1.trans m2).trans u1)⟩
 | false =>
 rw[AC];cases x==(7:Int) with
 | true =>rw[Ax];obtain ⟨y1,k1,f1,lo1,hi1,q1,u1⟩:=pick r2 (by omega) 4;obtain ⟨y2,k2,f2,lo2,hi2,q2,u2⟩:=pick q1 (by omega) 4;obtain ⟨y3,k3,f3,lo3,hi3,q3,u3⟩:=pick q2 (by omega) 4;rw[f1,Ac,Aa,f2,Ac,Aa,f3,Ac,Aa];exact ⟨⟨3,y1,y2,y3,⟨⟨[]⟩⟩,false⟩,k3,rfl,Yl _,q3.up (by omega),((((m1.trans m2).trans u1).trans u2).trans u3)⟩
 | false =>
 rw[AC];cases x==(8:Int) with
 | true =>rw[Ax];obtain ⟨y1,k1,f1,lo1,hi1,q1,u1⟩:=pick r2 (by omega) 4;obtain ⟨y2,k2,f2,lo2,hi2,q2,u2⟩:=pick q1 (by omega) 4;obtain ⟨y3,k3,f3,lo3,hi3,q3,u3⟩:=pick q2 (by omega) 4;rw[f1,Ac,Aa,f2,Ac,Aa,f3,Ac,Aa];exact ⟨⟨3,y1,y2,y3,⟨⟨[]⟩⟩,false⟩,k3,rfl,Yl _,q3.up (by omega),((((m1.trans m2).trans u1).trans u2).trans u3)⟩
 | false =>
 rw[AC];cases x==(9:Int) with
 | true =>rw[Ax];obtain ⟨y1,k1,f1,lo1,hi1,q1,u1⟩:=pick r2 (by omega) 4;obtain ⟨y2,k2,f2,lo2,hi2,q2,u2⟩:=pick q1 (by omega) 4;obtain ⟨y3,k3,f3,lo3,hi3,q3,u3⟩:=pick q2 (by omega) 4;rw[f1,Ac,Aa,f2,Ac,Aa,f3,Ac,Aa];exact ⟨⟨3,y1,y2,y3,⟨⟨[]⟩⟩,false⟩,k3,rfl,Yl _,q3.up (by omega),((((m1.trans m2).trans u1).trans u2).trans u3)⟩
 | false =>
 rw[AC];cases x==(10:Int) with
 | true =>rw[Ax];obtain ⟨y1,k1,f1,g1,q1,u1⟩:=DQ (e:=3) [4,5] (rows := [[Iv 4],[Iv 5]]) (len:=2) (cc:=some 2) r2 (by omega) rfl rfl (by decide);obtain ⟨y2,k2,f2,lo2,hi2,q2,u2⟩:=pick q1 (by omega) 4;obtain ⟨y3,k3,f3,lo3,hi3,q3,u3⟩:=pick q2 (by omega) 3;rw[f1,Ac,Aa,f2,Ac,Aa,f3,Ac,Aa];exact ⟨⟨y1,y2,y3,0,⟨⟨[]⟩⟩,false⟩,k3,rfl,Yl _,q3.up (by omega),((((m1.trans m2).trans u1).trans u2).trans u3)⟩
 | false =>
 rw[AC];cases x==(11:Int) with
 | true =>rw[Ax];obtain ⟨y1,k1,f1,g1,q1,u1⟩:=DQ (e:=3) [0,0,1,2] (rows := [[Iv 0],[Iv 0],[Iv 1],[Iv 2]]) (len:=4) (cc:=some 4) r2 (by omega) rfl rfl (by decide);rw[f1,Ac,Aa];exact ⟨⟨6,at',y1,0,⟨⟨[]⟩⟩,false⟩,k1,rfl,Yl _,q1.up (by omega),((m1.trans m2).trans u1)⟩
 | false =>
 rw[AC];cases x==(12:Int) with
 | true =>rw[Ax];obtain ⟨y1,k1,f1,g1,q1,u1⟩:=DQ (e:=3) [0,0,1,2] (rows := [[Iv 0],[Iv 0],[Iv 1],[Iv 2]]) (len:=4) (cc:=some 4) r2 (by omega) rfl rfl (by decide);rw[f1,Ac,Aa];exact ⟨⟨6,at',y1,0,⟨⟨[]⟩⟩,false⟩,k1,rfl,Yl _,q1.up (by omega),((m1.trans m2).trans u1)⟩
 | false =>
 rw[AC];cases x==(13:Int) with
 | true =>rw[Ax];obtain ⟨y1,k1,f1,g1,q1,u1⟩:=DQ (e:=3) [0,0,1,2] (rows := [[Iv 0],[Iv 0],[Iv 1],[Iv 2]]) (len:=4) (cc:=some 4) r2 (by omega) rfl rfl (by decide);rw[f1,Ac,Aa];exact ⟨⟨6,at',y1,0,⟨⟨[]⟩⟩,false⟩,k1,rfl,Yl _,q1.up (by omega),((m1.trans m2).trans u1)⟩
 | false =>
 rw[AC];cases x==(14:Int) with
 | true =>rw[Ax];obtain ⟨y1,k1,f1,g1,q1,u1⟩:=DQ (e:=3) [7,8] (rows := [[Iv 7],[Iv 8]]) (len:=2) (cc:=some 2) r2 (by omega) rfl rfl (by decide);obtain ⟨y2,k2,f2,lo2,hi2,q2,u2⟩:=pick q1 (by omega) 4;rw[f1,Ac,Aa,f2,Ac,Aa];exact ⟨⟨y1,at',y2,0,⟨⟨[]⟩⟩,false⟩,k2,rfl,Yl _,q2.up (by omega),(((m1.trans m2).trans u1).trans u2)⟩
 | false =>
 rw[AC];cases x==(15:Int) with
 | true =>rw[Ax];obtain ⟨y1,k1,f1,lo1,hi1,q1,u1⟩:=pick r2 (by omega) 3;rw[f1,Ac,Aa];exact ⟨⟨9,at',y1,0,⟨⟨[]⟩⟩,false⟩,k1,rfl,Yl _,q1.up (by omega),((m1.trans m2).trans u1)⟩
 | false =>
 rw[AC];cases x==(16:Int) with
 | true =>rw[Ax];obtain ⟨y1,k1,f1,lo1,hi1,q1,u1⟩:=pick r2 (by omega) 3;rw[f1,Ac,Aa];exact ⟨⟨9,at',y1,0,⟨⟨[]⟩⟩,false⟩,k1,rfl,Yl _,q1.up (by omega),((m1.trans m2).trans u1)⟩
 | false =>
 rw[AC];cases x==(17:Int) with
 | true =>rw[Ax];obtain ⟨y1,k1,f1,lo1,hi1,q1,u1⟩:=pick r2 (by omega) 3;exact told y1 k1 f1 lo1 (hi1 (by omega)) q1 u1
 | false =>
 rw[AC];cases x==(18:Int) with
 | true =>rw[Ax];obtain ⟨y1,k1,f1,lo1,hi1,q1,u1⟩:=pick r2 (by omega) 3;exact told y1 k1 f1 lo1 (hi1 (by omega)) q1 u1
 | false =>
 rw[AC];obtain ⟨y1,k1,f1,g1,q1,u1⟩:=DQ (e:=3) [11,11,11,12,13,0,14] (rows := [[Iv 11],[Iv 11],[Iv 11],[Iv 12],[Iv 13],[Iv 0],[Iv 14]]) (len:=7) (cc:=some 7) r2 (by omega) rfl rfl (by decide);obtain ⟨y2,k2,f2,lo2,hi2,q2,u2⟩:=pick q1 (by omega) 3;rw[f1,Ac,Aa,f2,Ac,Aa];exact ⟨⟨y1,y2,0,0,⟨⟨[]⟩⟩,false⟩,k2,rfl,Yl _,q2.up (by omega),(((m1.trans m2).trans u1).trans u2)⟩
end


abbrev REvents:Rel (List Event):=Sli false 6 70 (flat Event.cs)
theorem revents_ok:REvents.Ok:=Sli.ok Cn
section
variable {lo:Nat}{h h':Heap}{w:World}{a1 a2 a3 a4 a:Pq}{c1 c2 c3 c4 c:Nq}{E F F' F1 F2 F3 F4:List Nat}{b n:Nat}
theorem nd3 {E F:List Nat} (hn:(b ::(E++F)).Nodup):b∉E/\b∉F/\E.Nodup/\F.Nodup/\∀ y∈E,y∉F:=by rw[Yk,X0,X4] at hn;simp only[not_or] at hn;exact ⟨hn.1.1,hn.1.2,hn.2.1,hn.2.2.1,λy hy hm=>hn.2.2.2 y hy y hm rfl⟩
theorem WL {E F:List Nat}:(b ::(E++F)).Perm (E++(b :: F)):=List.perm_middle.symm
theorem WK {E F:List Nat}:(b ::(E++F)).Perm (F++(b :: E)):=by rw[show b ::(E++F)=(b :: E)++F from rfl];exact List.perm_append_comm
theorem Sd {e:Event} (h:e.text.size<=10):e.text.size<=1048576:=by omega
theorem QW {most:Int} (hmost:most<=1000):∀ (r m:Nat) (hh:Heap) (w:World) (l:List Event) (a:Pq) (c:Nq) (E:List Nat) (x1:Pq) (y1:Nq) (x2:Pq) (y2:Nq) (x3:Pq) (y3:Nq) (x4:Pq) (y4:Nq) (K1 K2 K3 K4:List Nat) (n:Nat),
  (m:Int)+r=most->r<=120->n+21*r<=500000->Rd lo hh b n->REvents hh [.sl 6 a l.length c] l E->(∀ e∈l,e.text.size<=10)->l.length+r<=1000->WR lo hh w x1 y1 x2 y2 x3 y3 x4 y4 K1 K2 K3 K4->Good w->(b ::(E++(K1++(K2++(K3++K4))))).Nodup->(∀ y∈E,lo<=y) ->
  ∃ (l':List Event) (a':Pq) (c':Nq) (h':Heap) (E':List Nat),AO lo b 0 0 most a l.length c (m:Nat) x1 w.places.length y1 x2 w.sess.length y2 x3 w.net.length y3 x4 w.hist.length y4 hh=some (.sl 6 a' l'.length c',h')/\REvents h' [.sl 6 a' l'.length c'] l' E'/\(∀ e∈l',e.text.size<=10)/\l'.length<=1000 /\
   Rd lo h' b (n+21*r)/\Mv hh (b ::(E++(K1++(K2++(K3++K4))))) h' (b :: E'):=by
 intro r;induction r with
 | zero =>
  intro m hh w l a c E x1 y1 x2 y2 x3 y3 x4 y4 K1 K2 K3 K4 n hm _ _ r0 re ht hl H hg hnd hE;refine ⟨l,a,c,hh,E,?_,re,ht,by omega,r0,(Mv.refl hnd).lean ?_ λy hy=>?_⟩
  ·rw[AO.e,Ao (by omega)]
  ·obtain ⟨k1,k2,k3,k4,k5⟩:=nd3 hnd;exact Yk.2 ⟨k1,k3⟩
  ·rw[Ye] at hy ⊢;exact hy.imp id λg=>YG _ g
 | succ r ih =>
  intro m hh w l a c E x1 y1 x2 y2 x3 y3 x4 y4 K1 K2 K3 K4 n hm hr hn r0 re ht hl H hg hnd hE;obtain ⟨k1,k2,k3,k4,k5⟩:=nd3 hnd;have hEb:=revents_ok.bd _ _ _ _ re;have hFb:=H.bd;obtain ⟨e,h1,e1,et,r1,m1⟩:=Se (a2:=x2) (c2:=y2) (a3:=x3) (c3:=y3) (a4:=x4) (c4:=y4) (n2:=w.sess.length) (n3:=w.net.length) (n4:=w.hist.length) r0 (by omega) H.r1 (λhm=>k2 (by simp[hm])) hg.ok.p3 (λp hp=>by
   obtain ⟨i,hi⟩:=Yf.1 hp;exact (AE (hg.ok.place i p hi).2).2.2.1)
  have notb:∀ {G:List Nat},(∀ y∈G,y∈K1++(K2++(K3++K4)))->∀ y∈G,y ∉ [b]:=λhG y hy hm=>by rw[Yj] at hm;exact k2 (hm ▸ hG y hy)
  have H1:WR lo h1 w x1 y1 x2 y2 x3 y3 x4 y4 K1 K2 K3 K4:=⟨m1.keep rplaces_ok H.r1 (notb λy hy=>by simp[hy]),m1.keep rsesss_ok H.r2 (notb λy hy=>by simp[hy]),m1.keep rframes_ok H.r3 (notb λy hy=>by simp[hy]),m1.keep rdones_ok H.r4 (notb λy hy=>by simp[hy]),H.nd,H.ge,XX H.hl m1.le⟩;have re1:=m1.keep revents_ok re λy hy hm=>k1 (by rw[Yj] at hm;exact hm ▸ hy);have M1:Mv hh (b ::(E++(K1++(K2++(K3++K4))))) h1 (b ::(E++(K1++(K2++(K3++K4))))):=m1.mid (A := [b]) (B:=E++(K1++(K2++(K3++K4)))) (A' := [b]) (.refl _) hnd (λy hy=>(X0.1 hy).elim (hEb y) (hFb y)) (.refl _);obtain ⟨cs2,h2,F2,e2,⟨z1,t1,z2,t2,z3,t3,z4,t4,Q1,Q2,Q3,Q4,rfl,rfl,H2⟩,m2,N2⟩:=NN (e:=e) H1 hg.fits (Sd et);have hg2:Good (Oz w e):=O9 hg;have hEb1:=revents_ok.bd _ _ _ _ re1;have re2:=m2.keep revents_ok re1 k5;have r2:=r1.keep m2 k2 H.ge;have M2:Mv h1 (b ::(E++(K1++(K2++(K3++K4))))) h2 (b ::(E++(Q1++(Q2++(Q3++Q4))))):=m2.mid WK hnd (λy hy=>by
   rw[Ye] at hy;rcases hy with rfl | hy
   ·exact r1.lt
   ·exact hEb1 y hy) WK
  have M12:=M1.trans M2;have hnd2:=M12.nd;obtain ⟨j1,j2,j3,j4,j5⟩:=nd3 hnd2;have more:∀ (h3:Heap) (n3:Nat),Rd lo h3 b n3->n3+21*r<=500000->REvents h3 [.sl 6 a l.length c] l E->WR lo h3 (Oz w e) z1 t1 z2 t2 z3 t3 z4 t4 Q1 Q2 Q3 Q4->n3<=n+21 ->
    ∃ (l':List Event) (a':Pq) (c':Nq) (h':Heap) (E':List Nat),(Aj 6 (h3 ++ [.rows 6 70 false [e.cs]]) (.sl 6 (some (h3.length,0)) 1 (some 1)) λx=>CC lo 70 6 56 (.sl 6 a l.length c) x (h3 ++ [.rows 6 70 false [e.cs]]) λx d=>eS 6 x λx q f=>AO lo b 0 0 most x q f ((m+1:Nat):Int) z1 (Oz w e).places.length t1 z2 (Oz w e).sess.length t2 z3 (Oz w e).net.length t3 z4 (Oz w e).hist.length t4 d)=some (.sl 6 a' l'.length c',h')/\REvents h' [.sl 6 a' l'.length c'] l' E'/\(∀ e∈l',e.text.size<=10)/\l'.length<=1000 /\
     Rd lo h' b (n+21*(r+1))/\Mv h3 (b ::(E++(Q1++(Q2++(Q3++Q4))))) h' (b :: E'):=by
   intro h3 n3 r3 hn3 re3 H3 hnn;have hEb3:=revents_ok.bd _ _ _ _ re3;obtain ⟨a6,c6,h6,E6,e6,r6,m6⟩:=Ek (lo:=lo) (bytes:=56) (e:=70) (El:=flat Event.cs) Cn re3 (row:=e.cs) (x:=e) (G := []) (h1:=h3 ++ [.rows 6 70 false [e.cs]])
    ⟨rfl,rfl⟩ Mv.snoc j3 hE H3.hl (by decide) (by omega)
   have hll:(l ++ [e]).length=l.length+1:=by simp
   rw[<- hll] at r6 e6;have H6:WR lo h6 (Oz w e) z1 t1 z2 t2 z3 t3 z4 t4 Q1 Q2 Q3 Q4:=⟨m6.keep rplaces_ok H3.r1 (λy hy hm=>j5 y hm (by simp[hy])),m6.keep rsesss_ok H3.r2 (λy hy hm=>j5 y hm (by simp[hy])),m6.keep rframes_ok H3.r3 (λy hy hm=>j5 y hm (by simp[hy])),m6.keep rdones_ok H3.r4 (λy hy hm=>j5 y hm (by simp[hy])),H3.nd,H3.ge,XX H3.hl m6.le⟩;have M6:Mv h3 (b ::(E++(Q1++(Q2++(Q3++Q4))))) h6 (b ::(E6++(Q1++(Q2++(Q3++Q4))))):=m6.mid WL hnd2 (λy hy=>by
    rw[Ye] at hy;rcases hy with rfl | hy
    ·exact r3.lt
    ·exact H3.bd y hy) WL
   obtain ⟨l',a',c',h',E',f1,f2,f3,f4,f5,f6⟩:=ih (m+1) h6 (Oz w e) (l ++ [e]) a6 c6 E6 _ _ _ _ _ _ _ _ _ _ _ _ n3 (by omega) (by omega) (by omega) (r3.keep m6 j1 hE) r6 (λx hx=>by
    rcases X0.1 hx with g | g
    ·exact ht x g
    ·rw[Yj] at g;subst g;exact et) (by omega) H6 hg2 M6.nd (m6.ge H3.hl hE)
   refine ⟨l',a',c',h',E',?_,f2,f3,f4,f5.up (by omega),M6.trans f6⟩;rw[Bn,e6,Ah];exact f1
  simp only[Event.cs] at e1;have e2':=e2;simp only[Event.cs,World.cs] at e2';rw[AO.e,Am (by omega),e1,Ac,AW,Ab,Aa,Ab,Aa,Ab,Aa,Ab,Aa,Ab,Dw,Ab,Bd,Ai,e2',Ac,Na,Ab,AW,Ab,Ah,Ab,Ah,Ab,Ah,Ab,Ah,Ai,Ab,A2];cases hs:(Fb w e).isSome with
  | true =>obtain ⟨l',a',c',h',E',f1,f2,f3,f4,f5,f6⟩:=more h2 (n+20) r2 (by omega) re2 H2 (by omega);refine ⟨l',a',c',h',E',?_,f2,f3,f4,f5,M12.trans f6⟩;rw[Ax,Ai,Ay (by omega)];exact f1
  | false =>
   have hnone:Fb w e=none:=by
    cases hx:Fb w e with
    | none=>rfl
    | some y=>rw[hx] at hs;cases hs
   have hw:Oz w e=w:=by unfold Oz;rw[hnone];rfl
   obtain ⟨v,h3,e3,_,_,r3,m3⟩:=pick r2 (by omega) 6;have notb2:∀ {G:List Nat},(∀ y∈G,y∈Q1++(Q2++(Q3++Q4)))->∀ y∈G,y ∉ [b]:=λhG y hy hm=>by rw[Yj] at hm;exact j2 (hm ▸ hG y hy)
   have H3:WR lo h3 (Oz w e) z1 t1 z2 t2 z3 t3 z4 t4 Q1 Q2 Q3 Q4:=⟨m3.keep rplaces_ok H2.r1 (notb2 λy hy=>by simp[hy]),m3.keep rsesss_ok H2.r2 (notb2 λy hy=>by simp[hy]),m3.keep rframes_ok H2.r3 (notb2 λy hy=>by simp[hy]),m3.keep rdones_ok H2.r4 (notb2 λy hy=>by simp[hy]),H2.nd,H2.ge,XX H2.hl m3.le⟩;have re3:=m3.keep revents_ok re2 λy hy hm=>j1 (by rw[Yj] at hm;exact hm ▸ hy);have M3:Mv h2 (b ::(E++(Q1++(Q2++(Q3++Q4))))) h3 (b ::(E++(Q1++(Q2++(Q3++Q4))))):=m3.mid (A := [b]) (B:=E++(Q1++(Q2++(Q3++Q4)))) (A' := [b]) (.refl _) hnd2 (λy hy=>(X0.1 hy).elim (revents_ok.bd _ _ _ _ re2 y) (H2.bd y)) (.refl _);have M123:=M12.trans M3;rw[AC,Ai,e3,Ac,Aa];by_cases hv:v>0
   ·have eq:=N2 hnone;rw[hw] at eq H3;simp only[World.cs,List.cons.injEq,V.sl.injEq,true_and,and_true] at eq;obtain ⟨⟨rfl,rfl⟩,⟨rfl,rfl⟩,⟨rfl,rfl⟩,rfl,rfl⟩:=eq;obtain ⟨l',a',c',h',E',f1,f2,f3,f4,f5,f6⟩:=ih (m+1) h3 w l a c E _ _ _ _ _ _ _ _ _ _ _ _ (n+21) (by omega) (by omega) (by omega) r3 re3 ht (by omega) H3 hg M123.nd hE;refine ⟨l',a',c',h',E',?_,f2,f3,f4,f5.up (by omega),M123.trans f6⟩;rw[Am hv,Ay (by omega)];exact f1
   ·obtain ⟨l',a',c',h',E',f1,f2,f3,f4,f5,f6⟩:=more h3 (n+21) r3 (by omega) re3 H3 (by omega);refine ⟨l',a',c',h',E',?_,f2,f3,f4,f5,M123.trans f6⟩;rw[Ao hv,Ay (by omega)];exact f1
theorem JR {cs:List V} (hw:PD false h cs w F) (m:Mv h' [] h F) (hl':lo<=h'.length):∃ s1 s2 s3 s4 a1 c1 a2 c2 a3 c3 a4 c4 F1 F2 F3 F4,cs = [s1,s2,s3,s4]/\F=F1++(F2++(F3++F4)) /\
  (∀ {T:Type} (K:Pq->Nat->Nq->Option T),eS 6 s1 K=K a1 w.places.length c1)/\(∀ {T:Type} (K:Pq->Nat->Nq->Option T),eS 5 s2 K=K a2 w.sess.length c2) /\
  (∀ {T:Type} (K:Pq->Nat->Nq->Option T),eS 9 s3 K=K a3 w.net.length c3)/\(∀ {T:Type} (K:Pq->Nat->Nq->Option T),eS 5 s4 K=K a4 w.hist.length c4)/\WR lo h w a1 c1 a2 c2 a3 c3 a4 c4 F1 F2 F3 F4 :=
 WR.of hw m.nd (m.ge hl' (by simp)) (XX hl' m.le)
theorem LL {n0 s0 most:Nat} (h1:1<=n0) (h4:n0<=4) (hs:s0<=4) (hmost:most<=120) (r:Rd lo h b n) (hn:n<=300000) (hl:lo<=h.length) :
  ∃ (l:List Event) (a:Pq) (c:Nq) (h':Heap) (E:List Nat),Ae lo 62 [.ptr (some (b,(0,0))),Iv (n0:Nat),Iv (s0:Nat),Iv (most:Nat)] h=some (.sl 6 a l.length c,h')/\REvents h' [.sl 6 a l.length c] l E/\(∀ e∈l,e.text.size<=10)/\l.length<=1000 /\
   Rd lo h' b (n+3000)/\Mv h [b] h' (b :: E):=by
 obtain ⟨cs,h2,F2,e2,w2,m2⟩:=LH (lo:=lo) (h:=h) h1 h4 (by omega:s0<=1000) hl;obtain ⟨s1,s2,s3,s4,a1,c1,a2,c2,a3,c3,a4,c4,K1,K2,K3,K4,rfl,rfl,es1,es2,es3,es4,H⟩:=JR w2 m2 hl;have mx:Mv h2 [] (h2 ++ [.rows 6 70 false []]) [h2.length]:=Mv.last;have hb2:=H.bd;have H3:WR lo (h2 ++ [.rows 6 70 false []]) (Hi n0 s0) a1 c1 a2 c2 a3 c3 a4 c4 K1 K2 K3 K4:=⟨mx.keep0 rplaces_ok H.r1,mx.keep0 rsesss_ok H.r2,mx.keep0 rframes_ok H.r3,mx.keep0 rdones_ok H.r4,H.nd,H.ge,XX H.hl mx.le⟩;have hre:REvents (h2 ++ [.rows 6 70 false []]) [.sl 6 (some (h2.length,0)) 0 (some 0)] [] [h2.length]:=Sli.fresh (X1 _);have hblt:=r.lt;have hbF:b∉K1++(K2++(K3++K4)):=λhm=>by have:=m2.new b hm;omega
 have hnd:(b ::([h2.length]++(K1++(K2++(K3++K4))))).Nodup:=by have:=m2.le;rw[Yk,Yy,Yr,Yk,Ye];exact ⟨λhm=>hm.elim (λg=>by omega) hbF,λhm=>by have:=hb2 _ hm;omega,m2.nd⟩
 have r3:=(r.keep m2 (by simp) (by simp)).keep mx (by simp) (by simp);obtain ⟨l,a,c,h',E,f1,f2,f3,f4,f5,f6⟩:=QW (most:=(most:Nat)) (by omega) most 0 _ (Hi n0 s0) [] _ _ _ _ _ _ _ _ _ _ _ _ _ _ _ n (by omega) (by omega) (by omega) r3 hre (by simp) (by simp;omega) H3 (J0 h1 h4 hs) hnd (by simp;exact XX hl m2.le);refine ⟨l,a,c,h',E,Kq ?_,f2,f3,f4,f5.up (by omega),?_⟩
 ·rw[e2,Ac,AW,Ab,es1,Ab,es2,Ab,es3,Ab,es4,Ai];exact f1
 ·have M:Mv h [b] (h2 ++ [.rows 6 70 false []]) (b ::([h2.length]++(K1++(K2++(K3++K4))))):=by
   refine ⟨XX m2.le mx.le,λy hy hF=>?_,hnd,λy hy=>?_⟩
   ·rw[mx.fr y (Yb hy m2.le) (by simp),m2.fr y hy (by simp)]
   ·simp only[Ye,Yy,Yr] at hy;rcases hy with rfl | rfl | hy
    ·exact .inl (by simp)
    ·exact .inr ⟨m2.le,by simp⟩
    ·have:=hb2 y hy;exact .inr ⟨m2.new y hy,by rw[Yp];omega⟩
  exact M.trans f6
end


variable {l:List Event}
def KI (w:World) (l:List Event):World:=l.foldl Oz w
theorem LU {w:World}{e:Event}:KI w (e :: l)=KI (Oz w e) l:=rfl
theorem Oj:∀ {l:List Event}{w:World},Good w->Good (KI w l)
 | [],_,h=>h
 | _ :: l,_,h=>Oj (l:=l) (O9 h)
section
variable {lo:Nat}{h h':Heap}{w:World}{a1 a2 a3 a4 a:Pq}{c1 c2 c3 c4 c:Nq}{E F F' F1 F2 F3 F4:List Nat}{b n:Nat}
theorem We (hg:Good w):SH w:=by
 have h1:=hg.ok.p3;have h2:=hg.ok.s4;have h3:=hg.ok.n12;have h4:=hg.ok.h80;refine ⟨⟨by omega,λp hp=>?_⟩,⟨by omega,λs hs=>?_⟩,⟨by omega,λf hf=>?_⟩,by omega⟩
 ·obtain ⟨i,hi⟩:=Yf.1 hp;exact (E8 (CI (hg.ok.place i p hi).2) (by decide) (by decide) (by decide)).1
 ·have:=Dt (B3 (hg.ok.sess s hs)).2.1;omega
 ·have:=(KF hg.fits (hg.ok.net f hf)).1;have h1:=this.1;have h2:=this.2;omega
theorem TX {f:Frame}:(Jy w f).sess=w.sess:=by unfold Jy;split<;>rfl
theorem Tt {w':World}{e:Event} (he:Fb w e=some w'):w'.sess.length=w.sess.length:=by
 unfold Fb Ew EJ Kk GM JJ Qz FL NR J6 at he;simp only[cond_eq_ite] at he
 repeat' split at he
 all_goals first
  | (cases he;done)
  | (injection he with he;subst he;simp[setS,setP,setN,TX];done)
  | (rw[Yv] at he;obtain ⟨q,_,rfl⟩:=he;rfl)
theorem WC {e:Event}:(Oz w e).sess.length=w.sess.length:=by
 unfold Oz;cases he:Fb w e with
 | none=>rfl
 | some w'=>exact Tt he
theorem OO (r:Rd lo h b n) (hn:n<=290000) (hl:lo<=h.length) :
  ∃ (n0 s0:Nat) (l:List Event) (a:Pq) (c:Nq) (h':Heap) (E:List Nat),Ae lo 32 [.ptr (some (b,(0,0)))] h=some (.tup [Iv (n0:Nat),Iv (s0:Nat),.sl 6 a l.length c],h')/\(1<=n0/\n0<=4)/\(1<=s0/\s0<=4)/\REvents h' [.sl 6 a l.length c] l E/\(∀ e∈l,e.text.size<=10)/\l.length<=1000 /\
   Rd lo h' b (n+3010)/\Mv h [b] h' (b :: E):=by
 obtain ⟨v,h1,e1,g1,g1',r1,m1⟩:=pick r (by omega) 4;obtain ⟨u,h2,e2,g2,g2',r2,m2⟩:=pick r1 (by omega) 4;obtain ⟨k,h3,e3,hk,r3,m3⟩:=DQ (e:=3) [0,20,60,120] (rows := [[Iv 0],[Iv 20],[Iv 60],[Iv 120]]) (len:=4) (cc:=some 4) r2 (by omega) rfl rfl (by decide);have hv:=g1' (by omega);have hu:=g2' (by omega);have hk':0<=k/\k<=120:=by simp at hk;omega
 obtain ⟨q,rfl⟩:∃ q:Nat,k=(q:Int):=⟨k.toNat,by omega⟩;obtain ⟨n0,hn0⟩:∃ n0:Nat,1+v=(n0:Int):=⟨(1+v).toNat,by omega⟩;obtain ⟨s0,hs0⟩:∃ s0:Nat,1+u=(s0:Int):=⟨(1+u).toNat,by omega⟩;have m13:=(m1.trans m2).trans m3;obtain ⟨l,a,c,h4,E,e4,f2,f3,f4,f5,f6⟩:=LL (n0:=n0) (s0:=s0) (most:=q) (by omega) (by omega) (by omega) (by omega) r3 (by omega) (XX hl m13.le);refine ⟨n0,s0,l,a,c,h4,E,MK ?_,⟨by omega,by omega⟩,⟨by omega,by omega⟩,f2,f3,f4,f5.up (by omega),m13.trans f6⟩;rw[e1,Ac,Aa,e2,Ac,Aa,e3,Ac,Aa,wr (by omega) (by omega),wr (by omega) (by omega),hn0,hs0,e4,Ac,Ah]
theorem NV:∀ {l:List Event}{w:World},(KI w l).sess.length=w.sess.length
 | [],_=>rfl
 | e :: l,w=>by rw[LU,NV,WC]
theorem TC (ht:∀ e∈l,e.text.size<=1048576) (hl6:l.length<=1048576):∀ (r m:Nat) (hh:Heap) (w:World) (E:List Nat) (x1:Pq) (y1:Nq) (x2:Pq) (y2:Nq) (x3:Pq) (y3:Nq) (x4:Pq) (y4:Nq) (K1 K2 K3 K4:List Nat),
  m+r=l.length->REvents hh [.sl 6 a l.length c] l E->WR lo hh w x1 y1 x2 y2 x3 y3 x4 y4 K1 K2 K3 K4->Good w->(∀ y∈E,y∉K1++(K2++(K3++K4))) ->
  ∃ cs' h' F',Bq lo a l.length c (m:Nat) 0 none 0 (some 0) 0 none 0 (some 0) 0 none 0 (some 0) 0 none 0 (some 0) x1 w.places.length y1 x2 w.sess.length y2 x3 w.net.length y3 x4 w.hist.length y4 hh=some (.agg cs',h')/\K0 lo h' cs' (KI w ((l.take 60).drop m)) F'/\Mv hh (K1++(K2++(K3++K4))) h' F':=by
 intro r;induction r with
 | zero =>intro m hh w E x1 y1 x2 y2 x3 y3 x4 y4 K1 K2 K3 K4 hm re H hg hd;exact ⟨_,hh,_,by rw[Bq.e,Ao (by omega)],by rw[List.drop_of_length_le (by rw[YE];omega)];exact H.at,Mv.refl H.nd⟩
 | succ r ih =>
  intro m hh w E x1 y1 x2 y2 x3 y3 x4 y4 K1 K2 K3 K4 hm re H hg hd;by_cases h60:(m:Int)<60
  ·have hml:m<l.length:=by omega
   obtain ⟨o,row,G,ha,hld,⟨rfl,_⟩,_⟩:=re.read hml;obtain ⟨cs2,h2,F2,e2,⟨z1,t1,z2,t2,z3,t3,z4,t4,Q1,Q2,Q3,Q4,rfl,rfl,H2⟩,m2,_⟩:=NN (e:=l[m]) H hg.fits (ht _ (X3 hml));have re2:=m2.keep revents_ok re hd;have hEb:=revents_ok.bd _ _ _ _ re;obtain ⟨cs',h',F',f1,f2,f4⟩:=ih (m+1) h2 (Oz w l[m]) E _ _ _ _ _ _ _ _ _ _ _ _ (by omega) re2 H2 (O9 hg) (λy hy hm=>by
    rcases m2.sub y hm with g | g
    ·exact hd y hy g
    ·have:=hEb y hy;omega)
   have hld6:ld hh o.1 (o.2+m) 0 6=some l[m].cs:=by rw[hld];exact JG rfl
   simp only[Event.cs] at hld6;simp only[Event.cs,World.cs] at e2;have hdr:(l.take 60).drop m=l[m] ::(l.take 60).drop (m+1):=by rw[Yi (show m<(l.take 60).length by rw[YE];omega),List.getElem_take]
   refine ⟨cs',h',F',?_,by rw[hdr,LU];exact f2,m2.trans f4⟩;rw[Bq.e,Am (by omega),Am h60,Ad hml,ha,Af,By,hld6,Af,Ab,Aa,Ab,Aa,Ab,Aa,Ab,Aa,Ab,Dw,Ab,Bd,Ai,e2,Ac,Na,Ab,AW,Ab,Ah,Ab,Ah,Ab,Ah,Ab,Ah,Ai,Ab,A2,Ai,Ay (by omega),<- ha];cases (Fb w l[m]).isSome
   ·rw[AC];exact f1
   ·rw[Ax];exact f1
  ·exact ⟨_,hh,_,by rw[Bq.e,Am (by omega),Ao h60],by rw[List.drop_of_length_le (by rw[YE];omega)];exact H.at,Mv.refl H.nd⟩
theorem P5 {n0 s0:Nat} (h1:1<=n0) (h4:n0<=4) (hs:s0<=4) (re:REvents h [.sl 6 a l.length c] l E) (ht:∀ e∈l,e.text.size<=1048576) (hl6:l.length<=1048576) (hl:lo<=h.length) :
  ∃ cs' h' F',Ae lo 42 [Iv (n0:Nat),Iv (s0:Nat),.sl 6 a l.length c] h=some (.agg cs',h')/\K0 lo h' cs' (KI (Hi n0 s0) (l.take 60)) F'/\Mv h [] h' F':=by
 obtain ⟨cs,h2,F2,e2,w2,m2⟩:=LH (lo:=lo) (h:=h) h1 h4 (by omega:s0<=1000) hl;obtain ⟨s1,s2,s3,s4,a1,c1,a2,c2,a3,c3,a4,c4,K1,K2,K3,K4,rfl,rfl,es1,es2,es3,es4,H⟩:=JR w2 m2 hl;have hEb:=revents_ok.bd _ _ _ _ re;obtain ⟨cs',h',F',f1,f2,f4⟩:=TC ht hl6 l.length 0 h2 (Hi n0 s0) E _ _ _ _ _ _ _ _ _ _ _ _ (by omega) (m2.keep0 revents_ok re) H (J0 h1 h4 hs) (λy hy hm=>by have:=m2.new y hm;have:=hEb y hy;omega);refine ⟨cs',h',F',Ng ?_,by rw[YQ] at f2;exact f2,m2.trans f4⟩;rw[e2,Ac,AW,Ab,es1,Ab,es2,Ab,es3,Ab,es4,Ai];exact f1
theorem Rn (r:Rd lo h b n) (hn:n<=290000) (hl:lo<=h.length) :
  ∃ (w:World) (a1:Pq) (c1:Nq) (a2:Pq) (c2:Nq) (a3:Pq) (c3:Nq) (a4:Pq) (c4:Nq) (h':Heap) (F1 F2 F3 F4:List Nat),Ae lo 95 [.ptr (some (b,(0,0)))] h=some (.agg (w.cs a1 c1 a2 c2 a3 c3 a4 c4),h')/\WR lo h' w a1 c1 a2 c2 a3 c3 a4 c4 F1 F2 F3 F4/\Good w/\1<=w.sess.length/\Rd lo h' b (n+3010)/\Mv h [b] h' (b ::(F1++(F2++(F3++F4)))):=by
 obtain ⟨n0,s0,l,a,c,h1,E,e1,hn0,hs0,re,ht,hl6,r1,m1⟩:=OO r hn hl;have l1:=XX hl m1.le;obtain ⟨cs2,h2,F2,e2,⟨z1,t1,z2,t2,z3,t3,z4,t4,Q1,Q2,Q3,Q4,rfl,rfl,H2⟩,m2⟩:=P5 hn0.1 hn0.2 hs0.2 re (λe he=>by have:=ht e he;omega) (by omega) l1;have hg:=Oj (l:=l.take 60) (J0 hn0.1 hn0.2 hs0.2);have hsl:(KI (Hi n0 s0) (l.take 60)).sess.length=s0:=by rw[NV];simp[Hi]
 generalize KI (Hi n0 s0) (l.take 60)=w at H2 hg hsl e2 m2;obtain ⟨cs,h3,K,e3,w3,m3⟩:=P6 (lo:=lo) H2.r1 H2.r2 H2.r3 H2.r4 (We hg) H2.hl;obtain ⟨s1,s2,s3,s4,a1,c1,a2,c2,a3,c3,a4,c4,K1,K2,K3,K4,rfl,rfl,es1,es2,es3,es4,H⟩:=JR w3 m3 H2.hl;have m12:Mv h [b] h2 [b]:=(m1.lean (F'' := [b]) (by simp) (by simp)).trans (m2.drop.aside (F := []) (F' := []) (G := [b]) (by simp) (by simp;exact r1.lt));have m13:Mv h [b] h3 (b ::(K1++(K2++(K3++K4)))):=by have:=m12.join m3 (by simp;exact Yb r1.lt m2.le);simpa using this
 refine ⟨w,a1,c1,a2,c2,a3,c3,a4,c4,h3,K1,K2,K3,K4,Lb ?_,H,hg,?_,(r1.keep m2 (by simp) (by simp)).keep m3 (by simp) (by simp),m13⟩
 ·simp only[World.cs] at e2 e3;rw[e1,Ac,Na,Ab,Aa,Ab,Aa,Ab,Ah,Ai,e2,Ac,AW,Ab,Ah,Ab,Ah,Ab,Ah,Ab,Ah,Ai,e3,Ac,AW,Ab,es1,Ab,es2,Ab,es3,Ab,es4,Ai]
 ·omega
end


variable {w:World}
structure More (w w':World):Prop where
 len:w'.sess.length=w.sess.length
 past:∀ (i:Nat) (s s':Sess),w.sess[i]?=some s->w'.sess[i]?=some s'->Ci s.past s'.past=true
 hist:∃ r,w'.hist=w.hist++r
theorem More.refl:More w w:=⟨rfl,λi s s' h h'=>by rw[h] at h';injection h' with h';subst h';exact Dn,[],by simp⟩
theorem More.trans {u v w:World} (hu:Good u) (hv:Good v) (h1:More u v) (h2:More v w):More u w:=by obtain ⟨r1,e1⟩:=h1.hist;obtain ⟨r2,e2⟩:=h2.hist;refine ⟨h2.len.trans h1.len,λi s s' h h'=>?_,r1++r2,by rw[e2,e1,Yd]⟩;have hi:=(Ef h).1;have hv':=CX (show i<v.sess.length by rw[h1.len];exact hi);have l1:=Dt (B3 (hu.ok.sess _ (X8 h))).2.1;have l2:=Dt (B3 (hv.ok.sess _ (X8 hv'))).2.1;exact Kx (by omega) (h1.past i _ _ h hv') (h2.past i _ _ hv' h')
theorem More.setS {w:World}{i:Nat}{s t:Sess}{ds:List Done} (hs:w.sess[i]?=some s) (hu:Ci s.past t.past=true):More w (Go.Proofs.YtmdgiekbejjjgaaGreat.setS w i t ds):=by
 refine ⟨by simp[Go.Proofs.YtmdgiekbejjjgaaGreat.setS],λj x y hx hy=>?_,ds,rfl⟩;simp only[Go.Proofs.YtmdgiekbejjjgaaGreat.setS] at hy;by_cases hij:i=j
 ·subst hij;rw[X9 (Ef hs).1] at hy;injection hy with hy;rw[hs] at hx;injection hx with hx;subst hx;subst hy;exact hu
 ·rw[XZ hij,hx] at hy;injection hy with hy;subst hy;exact Dn
theorem More.same {w':World} (h1:w'.sess=w.sess) (h2:w'.hist=w.hist):More w w':=⟨by rw[h1],λi s s' h h'=>by rw[h1,h] at h';injection h' with h';subst h';exact Dn,[],by rw[h2];simp⟩


def XI (rs:List (List V)) (i:Nat) (row:List V):Blk := .rows 6 60 false (rs.set i row)
section
variable {lo:Nat}{ro:Bool}{h:Heap}{F F':List Nat}{a a':Pq}{c c':Nq}
end


theorem Sli.atP {α:Type}{El:Rel α} (ok:El.Ok) {h:Heap}{R R' e n k:Nat}{a:Pq}{c:Nq}{l:List α}{F:List Nat} (hs:Sli false R e El h [.sl R' a n c] l F) (hk:k<l.length) (hnd:F.Nodup) :
  ∃ (b i:Nat) (rs:List (List V)) (row:List V) (G:List Nat),a=some (b,i)/\b∈F/\b∉G/\h[b]?=some (.rows R e false (rs.set (i+k) row))/\i+k<rs.length/\El h row l[k] G/\(∀ y∈G,y∈F)/\G.Nodup /\
   ∀ h' row' x' G',h'[b]?=some (.rows R e false (rs.set (i+k) row'))->El h' row' x' G'->Mv h (b :: G) h' (b :: G')->∃ F',Sli false R e El h' [.sl R' a n c] (l.set k x') F'/\Mv h F h' F':=by
 have hbd:=(Sli.ok ok).bd _ _ _ _ hs;obtain ⟨b,i,rs,row,G,ha,hbF,hbG,hb,hrow,hel,hGF,hGn,put⟩:=hs.put ok.fr hk hnd;refine ⟨b,i,rs,row,G,ha,hbF,hbG,by rw[set_same hrow];exact hb,(Ef hrow).1,hel,hGF,hGn,λh' row' x' G' hb' hx m=>?_⟩;have hnd':=m.nd;rw[Yk] at hnd';have hsub:∀ y∈b :: G,y∈F:=λy hy=>by
  rcases Ye.1 hy with rfl | hy
  ·exact hbF
  ·exact hGF y hy
 obtain ⟨F',p1,p2,p3,_⟩:=put h' row' x' G' hb' (λy hy hyb hyG=>m.fr y (hbd y hy) (by simp[hyb,hyG])) hx hnd'.2 (λy hy hyF=>by
  rcases m.sub y (by simp[hy]) with g | g
  ·rcases Ye.1 g with rfl | g
   ·exact absurd hy hnd'.1
   ·exact g
  ·have:=hbd y hyF;omega)
 refine ⟨F',p1,m.le,λy hy hyF=>m.fr y hy λhg=>hyF (hsub y hg),p3,λy hy=>?_⟩;rcases p2 y hy with g | g
 ·exact .inl g.1
 ·rcases m.sub y (by simp[g]) with q | q
  ·exact .inl (hsub y q)
  ·exact .inr q
abbrev RPlacesN:Rel (List Place):=Sli false 6 (Vm false) (JK false)
theorem rplacesN_ok:RPlacesN.Ok:=Sli.ok LQ
structure WN (lo:Nat) (h:Heap) (b:Nat) (w:World) (a1:Pq) (c1:Nq) (a2:Pq) (c2:Nq) (a3:Pq) (c3:Nq) (a4:Pq) (c4:Nq) (F1 F2 F3 F4:List Nat):Prop where
 hb:h[b]?=some (.rows 4 41 false [w.cs a1 c1 a2 c2 a3 c3 a4 c4])
 r1:RPlacesN h [.sl 6 a1 w.places.length c1] w.places F1
 r2:RSesss false h [.sl 5 a2 w.sess.length c2] w.sess F2
 r3:RFrames false h [.sl 9 a3 w.net.length c3] w.net F3
 r4:RDones false h [.sl 5 a4 w.hist.length c4] w.hist F4
 nd:(b ::(F1++(F2++(F3++F4)))).Nodup
 ge:∀ y∈b ::(F1++(F2++(F3++F4))),lo<=y
 hl:lo<=h.length
def XH (lo:Nat) (h:Heap) (b:Nat) (w:World) (F:List Nat):Prop:=∃ a1 c1 a2 c2 a3 c3 a4 c4 F1 F2 F3 F4,F=b ::(F1++(F2++(F3++F4)))/\WN lo h b w a1 c1 a2 c2 a3 c3 a4 c4 F1 F2 F3 F4
section
variable {lo b:Nat}{h h':Heap}{w:World}{a1 a2 a3 a4 a:Pq}{c1 c2 c3 c4 c:Nq}{F1 F2 F3 F4:List Nat}
theorem WN.at (H:WN lo h b w a1 c1 a2 c2 a3 c3 a4 c4 F1 F2 F3 F4):XH lo h b w (b ::(F1++(F2++(F3++F4)))):=⟨a1,c1,a2,c2,a3,c3,a4,c4,F1,F2,F3,F4,rfl,H⟩
theorem WN.blt (H:WN lo h b w a1 c1 a2 c2 a3 c3 a4 c4 F1 F2 F3 F4):b<h.length:=(Ef H.hb).1
theorem WN.lt (H:WN lo h b w a1 c1 a2 c2 a3 c3 a4 c4 F1 F2 F3 F4):(∀ y∈F1,y<h.length)/\(∀ y∈F2,y<h.length)/\(∀ y∈F3,y<h.length)/\∀ y∈F4,y<h.length :=
 ⟨rplacesN_ok.bd _ _ _ _ H.r1,rsesss_ok.bd _ _ _ _ H.r2,rframes_ok.bd _ _ _ _ H.r3,rdones_ok.bd _ _ _ _ H.r4⟩
theorem WN.bd (H:WN lo h b w a1 c1 a2 c2 a3 c3 a4 c4 F1 F2 F3 F4):∀ y∈F1++(F2++(F3++F4)),y<h.length:=λy hy=>by
 obtain ⟨g1,g2,g3,g4⟩:=H.lt;simp only[X0] at hy;rcases hy with hy | hy | hy | hy
 ·exact g1 y hy
 ·exact g2 y hy
 ·exact g3 y hy
 ·exact g4 y hy
theorem WN.ne (H:WN lo h b w a1 c1 a2 c2 a3 c3 a4 c4 F1 F2 F3 F4):b∉F1++(F2++(F3++F4))/\(F1++(F2++(F3++F4))).Nodup:=Yk.1 H.nd
theorem WN.with (H:WN lo h b w a1 c1 a2 c2 a3 c3 a4 c4 F1 F2 F3 F4) {F':List Nat} (m:Mv h (F1++(F2++(F3++F4))) h' F'):h'[b]?=h[b]?/\Mv h (b ::(F1++(F2++(F3++F4)))) h' (b :: F'):=by
 have e:=m.fr b H.blt H.ne.1;refine ⟨e,⟨m.le,λy hy hF=>m.fr y hy λg=>hF (by simp[g]),?_,λy hy=>?_⟩⟩
 ·rw[Yk];refine ⟨λhm=>?_,m.nd⟩;rcases m.sub b hm with g | g
  ·exact H.ne.1 g
  ·have:=H.blt;omega
 ·rcases Ye.1 hy with rfl | hy
  ·exact .inl (by simp)
  ·rcases m.sub y hy with g | g
   ·exact .inl (by simp[g])
   ·exact .inr g
theorem WN.up1 (H:WN lo h b w a1 c1 a2 c2 a3 c3 a4 c4 F1 F2 F3 F4) {l:List Place}{G:List Nat} (hn:l.length=w.places.length) (m:Mv h F1 h' G) (r:RPlacesN h' [.sl 6 a1 w.places.length c1] l G) :
  WN lo h' b ⟨l,w.sess,w.net,w.hist⟩ a1 c1 a2 c2 a3 c3 a4 c4 G F2 F3 F4/\Mv h (b ::(F1++(F2++(F3++F4)))) h' (b ::(G++(F2++(F3++F4)))):=by
 obtain ⟨_,d12,d13,d14,d23,d24,d34⟩:=N0 H.ne.2;have m1:Mv h (F1++(F2++(F3++F4))) h' (G++(F2++(F3++F4))):=m.mid (.refl _) H.ne.2 (λy hy=>H.bd y (by simp only[X0] at hy ⊢;grind)) (.refl _);obtain ⟨e,m2⟩:=H.with m1;refine ⟨⟨by rw[e,H.hb];simp only[World.cs,hn],by rw[<- hn] at r;exact r,m.keep rsesss_ok H.r2 (λb hb hm=>d12 b hm hb),m.keep rframes_ok H.r3 (λb hb hm=>d13 b hm hb),m.keep rdones_ok H.r4 (λb hb hm=>d14 b hm hb),m2.nd,m2.ge H.hl H.ge,XX H.hl m.le⟩,m2⟩
theorem WN.up2 (H:WN lo h b w a1 c1 a2 c2 a3 c3 a4 c4 F1 F2 F3 F4) {l:List Sess}{G:List Nat} (hn:l.length=w.sess.length) (m:Mv h F2 h' G) (r:RSesss false h' [.sl 5 a2 w.sess.length c2] l G) :
  WN lo h' b ⟨w.places,l,w.net,w.hist⟩ a1 c1 a2 c2 a3 c3 a4 c4 F1 G F3 F4/\Mv h (b ::(F1++(F2++(F3++F4)))) h' (b ::(F1++(G++(F3++F4)))):=by
 obtain ⟨_,d12,d13,d14,d23,d24,d34⟩:=N0 H.ne.2;have m1:Mv h (F1++(F2++(F3++F4))) h' (F1++(G++(F3++F4))):=m.mid NW H.ne.2 (λy hy=>H.bd y (by simp only[X0] at hy ⊢;grind)) NW;obtain ⟨e,m2⟩:=H.with m1;refine ⟨⟨by rw[e,H.hb];simp only[World.cs,hn],m.keep rplacesN_ok H.r1 (λb hb hm=>d12 b hb hm),by rw[<- hn] at r;exact r,m.keep rframes_ok H.r3 (λb hb hm=>d23 b hm hb),m.keep rdones_ok H.r4 (λb hb hm=>d24 b hm hb),m2.nd,m2.ge H.hl H.ge,XX H.hl m.le⟩,m2⟩
theorem WN.up0 (H:WN lo h b w a1 c1 a2 c2 a3 c3 a4 c4 F1 F2 F3 F4) (m:Mv h [] h' []):WN lo h' b w a1 c1 a2 c2 a3 c3 a4 c4 F1 F2 F3 F4/\Mv h (b ::(F1++(F2++(F3++F4)))) h' (b ::(F1++(F2++(F3++F4)))):=by have m1:Mv h (F1++(F2++(F3++F4))) h' (F1++(F2++(F3++F4))):=m.aside (by simpa using H.ne.2) H.bd;obtain ⟨e,m2⟩:=H.with m1;exact ⟨⟨by rw[e,H.hb],m.keep0 rplacesN_ok H.r1,m.keep0 rsesss_ok H.r2,m.keep0 rframes_ok H.r3,m.keep0 rdones_ok H.r4,H.nd,H.ge,XX H.hl m.le⟩,m2⟩
theorem WN.up3 (H:WN lo h b w a1 c1 a2 c2 a3 c3 a4 c4 F1 F2 F3 F4) {l:List Frame}{G:List Nat} (m:Mv h F3 h' G) (r:RFrames false h' [.sl 9 a l.length c] l G) :
  ∃ h2,st lo h' b 0 (0+2) [.sl 9 a l.length c]=some h2/\WN lo h2 b ⟨w.places,w.sess,l,w.hist⟩ a1 c1 a2 c2 a c a4 c4 F1 F2 G F4/\Mv h (b ::(F1++(F2++(F3++F4)))) h2 (b ::(F1++(F2++(G++F4)))):=by
 obtain ⟨_,d12,d13,d14,d23,d24,d34⟩:=N0 H.ne.2;have m1:Mv h (F1++(F2++(F3++F4))) h' (F1++(F2++(G++F4))):=m.mid SL H.ne.2 (λy hy=>H.bd y (by simp only[X0] at hy ⊢;grind)) SL;obtain ⟨e,_⟩:=H.with m1;rw[H.hb] at e;obtain ⟨m6,b6,k6,n6⟩:=m1.store H.blt H.ne.1 (.rows 4 41 false [(World.mk w.places w.sess l w.hist).cs a1 c1 a2 c2 a c a4 c4]);have es:=Eh (lo:=lo) (j:=0+2) (r:=0) (cs := [.sl 9 a l.length c]) (row':=(World.mk w.places w.sess l w.hist).cs a1 c1 a2 c2 a c a4 c4) e (H.ge b (by simp)) rfl (Ik (by simp[World.cs]));have ne:∀ {F:List Nat},(∀ y∈F,y∈F1++(F2++(G++F4)))->∀ y∈F,y≠b:=λhs y hy e=>n6 (e ▸ hs y hy);refine ⟨_,es,⟨b6,rplacesN_ok.fr _ _ _ _ _ (m.keep rplacesN_ok H.r1 (λb hb hm=>d13 b hb hm)) λy hy=>k6 y (ne (F:=F1) (λy hy=>by simp[hy]) y hy),rsesss_ok.fr _ _ _ _ _ (m.keep rsesss_ok H.r2 (λb hb hm=>d23 b hb hm)) λy hy=>k6 y (ne (F:=F2) (λy hy=>by simp[hy]) y hy),rframes_ok.fr _ _ _ _ _ r λy hy=>k6 y (ne (F:=G) (λy hy=>by simp[hy]) y hy),rdones_ok.fr _ _ _ _ _ (m.keep rdones_ok H.r4 (λb hb hm=>d34 b hm hb)) λy hy=>k6 y (ne (F:=F4) (λy hy=>by simp[hy]) y hy),m6.nd,m6.ge H.hl H.ge,XX H.hl m6.le⟩,m6⟩
theorem WN.up4 (H:WN lo h b w a1 c1 a2 c2 a3 c3 a4 c4 F1 F2 F3 F4) {l:List Done}{G:List Nat} (m:Mv h F4 h' G) (r:RDones false h' [.sl 5 a l.length c] l G) :
  ∃ h2,st lo h' b 0 (0+3) [.sl 5 a l.length c]=some h2/\WN lo h2 b ⟨w.places,w.sess,w.net,l⟩ a1 c1 a2 c2 a3 c3 a c F1 F2 F3 G/\Mv h (b ::(F1++(F2++(F3++F4)))) h2 (b ::(F1++(F2++(F3++G)))):=by
 obtain ⟨_,d12,d13,d14,d23,d24,d34⟩:=N0 H.ne.2;have m1:Mv h (F1++(F2++(F3++F4))) h' (F1++(F2++(F3++G))):=m.mid Qs H.ne.2 (λy hy=>H.bd y (by simp only[X0] at hy ⊢;grind)) Qs;obtain ⟨e,_⟩:=H.with m1;rw[H.hb] at e;obtain ⟨m6,b6,k6,n6⟩:=m1.store H.blt H.ne.1 (.rows 4 41 false [(World.mk w.places w.sess w.net l).cs a1 c1 a2 c2 a3 c3 a c]);have es:=Eh (lo:=lo) (j:=0+3) (r:=0) (cs := [.sl 5 a l.length c]) (row':=(World.mk w.places w.sess w.net l).cs a1 c1 a2 c2 a3 c3 a c) e (H.ge b (by simp)) rfl (Ik (by simp[World.cs]));have ne:∀ {F:List Nat},(∀ y∈F,y∈F1++(F2++(F3++G)))->∀ y∈F,y≠b:=λhs y hy e=>n6 (e ▸ hs y hy);refine ⟨_,es,⟨b6,rplacesN_ok.fr _ _ _ _ _ (m.keep rplacesN_ok H.r1 (λb hb hm=>d14 b hb hm)) λy hy=>k6 y (ne (F:=F1) (λy hy=>by simp[hy]) y hy),rsesss_ok.fr _ _ _ _ _ (m.keep rsesss_ok H.r2 (λb hb hm=>d24 b hb hm)) λy hy=>k6 y (ne (F:=F2) (λy hy=>by simp[hy]) y hy),rframes_ok.fr _ _ _ _ _ (m.keep rframes_ok H.r3 (λb hb hm=>d34 b hb hm)) λy hy=>k6 y (ne (F:=F3) (λy hy=>by simp[hy]) y hy),rdones_ok.fr _ _ _ _ _ r λy hy=>k6 y (ne (F:=G) (λy hy=>by simp[hy]) y hy),m6.nd,m6.ge H.hl H.ge,XX H.hl m6.le⟩,m6⟩
theorem WN.cell (H:WN lo h b w a1 c1 a2 c2 a3 c3 a4 c4 F1 F2 F3 F4):ld h b 0 (0+0) 1=some [.sl 6 a1 w.places.length c1]/\ld h b 0 (0+1) 1=some [.sl 5 a2 w.sess.length c2]/\ld h b 0 (0+2) 1=some [.sl 9 a3 w.net.length c3]/\ld h b 0 (0+3) 1=some [.sl 5 a4 w.hist.length c4]:=by refine ⟨?_,?_,?_,?_⟩<;>rw[Dg H.hb rfl]<;>rfl
theorem WN.place (H:WN lo h b w a1 c1 a2 c2 a3 c3 a4 c4 F1 F2 F3 F4) {k:Nat} (hk:k<w.places.length):∃ b1 i1 rs x1 y1 x2 y2 x3 y3 G1 G2 G3,a1=some (b1,i1)/\i1+k<rs.length/\h[b1]?=some (XI rs (i1+k) (w.places[k].cs x1 y1 x2 y2 x3 y3)) /\
  RNodes false h [.sl 2 x1 w.places[k].chain.length y1] w.places[k].chain G1/\RVers false h [.sl 6 x2 w.places[k].log.length y2] w.places[k].log G2/\RVss false h [.sl 1 x3 w.places[k].got.length y3] w.places[k].got G3 /\
  (b1 ::(G1++(G2++G3))).Nodup/\(∀ y∈b1 ::(G1++(G2++G3)),lo<=y/\y<h.length/\y∈F1) /\
  ∀ h' row' p' F',h'[b1]?=some (XI rs (i1+k) row')->JK false h' row' p' F'->Mv h (b1 ::(G1++(G2++G3))) h' (b1 :: F') ->
   ∃ F1',WN lo h' b (setP w k p') a1 c1 a2 c2 a3 c3 a4 c4 F1' F2 F3 F4/\Mv h (b ::(F1++(F2++(F3++F4)))) h' (b ::(F1'++(F2++(F3++F4)))):=by
 obtain ⟨⟨n1,_⟩,_⟩:=N0 H.ne.2;obtain ⟨b1,i1,rs,row,G,ha,hbF,hbG,hb,hil,hel,hGF,hGn,put⟩:=Sli.atP LQ H.r1 hk n1;obtain ⟨x1,y1,x2,y2,x3,y3,rfl,q⟩:=hel;obtain ⟨G1,G2,G3,rfl,g1,g2,g3⟩:=q.cells;refine ⟨b1,i1,rs,x1,y1,x2,y2,x3,y3,G1,G2,G3,ha,hil,hb,g1,g2,g3,by rw[Yk];exact ⟨hbG,hGn⟩,λy hy=>?_,λh' row' p' F' hb' hx m=>?_⟩
 ·have hyF:y∈F1:=by
   rcases Ye.1 hy with rfl | hy
   ·exact hbF
   ·exact hGF y hy
  exact ⟨H.ge y (by simp[hyF]),H.lt.1 y hyF,hyF⟩
 ·obtain ⟨F1',r,m'⟩:=put h' row' p' F' hb' hx m;exact ⟨F1',(H.up1 (by simp) m' r).1,(H.up1 (by simp) m' r).2⟩
end


variable {rs:List (List V)}
theorem O1 {h:Heap}{b i j n R e:Nat}{ro:Bool}{row:List V} (hb:h[b]?=some (.rows R e ro (rs.set i row))) (hil:i<rs.length):ld h b i j n=cut row j n:=Dg hb (by simp[hil])
theorem Uz {lo:Nat}{h:Heap}{b i j R e:Nat}{row row' cs:List V} (hb:h[b]?=some (.rows R e false (rs.set i row))) (hil:i<rs.length) (hl:lo<=b) (hp:paste row j cs=some row'):st lo h b i j cs=some (h.set b (.rows R e false (rs.set i row'))):=by rw[Eh (r:=i) hb hl (by simp[hil]) hp,List.set_set]
section
variable {lo l0 b:Nat}{h h':Heap}{w:World}{a1 a2 a3 a4 a:Pq}{c1 c2 c3 c4 c:Nq}{F1 F2 F3 F4:List Nat}
theorem WN.sess (H:WN lo h b w a1 c1 a2 c2 a3 c3 a4 c4 F1 F2 F3 F4) {k:Nat} (hk:k<w.sess.length):∃ (b2 i2:Nat) (rs:List (List V)) (v:V) (x:Pq) (y:Nq) (G:List Nat),a2=some (b2,i2)/\i2+k<rs.length /\
  h[b2]?=some (.rows 5 (JD false) false (rs.set (i2+k) [Iv w.sess[k].place,v,Iv w.sess[k].wait.time,Iv w.sess[k].wait.place,Iv w.sess[k].key])) /\
  (∀ {R':Type} (K:Pq->Nat->Nq->Option R'),eS 2 v K=K x w.sess[k].past.length y)/\RTags false h [.sl 2 x w.sess[k].past.length y] w.sess[k].past G/\RTags false h [v] w.sess[k].past G /\
  (b2 :: G).Nodup/\(∀ y∈b2 :: G,lo<=y/\y<h.length/\y∈F2) /\
  ∀ h' row' s' G',h'[b2]?=some (.rows 5 (JD false) false (rs.set (i2+k) row'))->RSess false h' row' s' G'->Mv h (b2 :: G) h' (b2 :: G') ->
   ∃ F2',WN lo h' b ⟨w.places,w.sess.set k s',w.net,w.hist⟩ a1 c1 a2 c2 a3 c3 a4 c4 F1 F2' F3 F4/\Mv h (b ::(F1++(F2++(F3++F4)))) h' (b ::(F1++(F2'++(F3++F4)))):=by
 obtain ⟨⟨_,n2,_⟩,_⟩:=N0 H.ne.2;obtain ⟨b2,i2,rs,row,G,ha,hbF,hbG,hb,hil,hel,hGF,hGn,put⟩:=Sli.atP GL H.r2 hk n2;obtain ⟨v,rfl,hv⟩:=hel;obtain ⟨x,y,es,hp⟩:=hv.form;refine ⟨b2,i2,rs,v,x,y,G,ha,hil,hb,es,hp,hv,by rw[Yk];exact ⟨hbG,hGn⟩,λy hy=>?_,λh' row' s' G' hb' hx m=>?_⟩
 ·have hyF:y∈F2:=by
   rcases Ye.1 hy with rfl | hy
   ·exact hbF
   ·exact hGF y hy
  exact ⟨H.ge y (by simp[hyF]),H.lt.2.1 y hyF,hyF⟩
 ·obtain ⟨F2',r,m'⟩:=put h' row' s' G' hb' hx m;exact ⟨F2',(H.up2 (by simp) m' r).1,(H.up2 (by simp) m' r).2⟩
theorem WN.sets (H:WN lo h b w a1 c1 a2 c2 a3 c3 a4 c4 F1 F2 F3 F4) {k:Nat} (hk:k<w.sess.length):∃ (b2 i2:Nat) (rs:List (List V)) (v:V),a2=some (b2,i2)/\lo<=b2/\i2+k<rs.length /\
  h[b2]?=some (.rows 5 (JD false) false (rs.set (i2+k) [Iv w.sess[k].place,v,Iv w.sess[k].wait.time,Iv w.sess[k].wait.place,Iv w.sess[k].key])) /\
  ∀ s':Sess,s'.past=w.sess[k].past->∃ F2',WN lo (h.set b2 (.rows 5 (JD false) false (rs.set (i2+k) [Iv s'.place,v,Iv s'.wait.time,Iv s'.wait.place,Iv s'.key]))) b ⟨w.places,w.sess.set k s',w.net,w.hist⟩ a1 c1 a2 c2 a3 c3 a4 c4 F1 F2' F3 F4 /\
   Mv h (b ::(F1++(F2++(F3++F4)))) (h.set b2 (.rows 5 (JD false) false (rs.set (i2+k) [Iv s'.place,v,Iv s'.wait.time,Iv s'.wait.place,Iv s'.key]))) (b ::(F1++(F2'++(F3++F4)))):=by
 obtain ⟨b2,i2,rs,v,x,y,G,ha,hil,hb,es,hp,hv,hnd,hF,put⟩:=H.sess hk;refine ⟨b2,i2,rs,v,ha,(hF b2 (by simp)).1,hil,hb,λs' hs'=>?_⟩;obtain ⟨hbG,hGn⟩:=Yk.1 hnd;obtain ⟨m6,b6,k6,n6⟩:=(Mv.refl (h:=h) hGn).store (hF b2 (by simp)).2.1 hbG (.rows 5 (JD false) false (rs.set (i2+k) [Iv s'.place,v,Iv s'.wait.time,Iv s'.wait.place,Iv s'.key]));exact put _ _ s' G b6 ⟨v,rfl,by rw[hs'];exact rtags_ok.fr _ _ _ _ _ hv λy hy=>k6 y λe=>hbG (e ▸ hy)⟩ m6
theorem WN.stay (H:WN lo h b w a1 c1 a2 c2 a3 c3 a4 c4 F1 F2 F3 F4) (m:Mv h [] h' []) {X:Option World} (hX:X=none):∃ h'' F',some (V.bool false,h')=some (V.bool X.isSome,h'')/\XH lo h'' b (X.getD w) F'/\Mv h (b ::(F1++(F2++(F3++F4)))) h'' F':=by subst hX;exact ⟨h',_,rfl,(H.up0 m).1.at,(H.up0 m).2⟩
end


section
variable {lo:Nat}{h h':Heap}{F F':List Nat}{a a':Pq}{c c':Nq}
theorem Of {x y:Tag}:Ae lo 140 [.agg [Iv x.time,Iv x.place],.agg [Iv y.time,Iv y.place]] h=some (.agg [Iv (Ee x y).time,Iv (Ee x y).place],h):=by
 refine NI (h':=h) ?_;rw[Ho,Ac,A2];unfold Ee Df;cases Fz x.time x.place y.time y.place with
 | true=>rw[Ax];rfl
 | false=>rw[AC];rfl
theorem Mb {l:List Tag}{k:Nat}{t:Tag} (hs:RTags false h [.sl 2 a l.length c] l F) (hk:k<l.length) (hl:lo<=h.length) (hn:l.length<=1048576) :
  ∃ a' c' h' F',Ae lo 102 [.agg [.sl 2 a l.length c],Iv (k:Nat),.agg [Iv t.time,Iv t.place]] h=some (.agg [.sl 2 a' (DH l k t).length c'],h')/\RTags false h' [.sl 2 a' (DH l k t).length c'] (DH l k t) F'/\Mv h [] h' F':=by
 obtain ⟨a1,c1,h1,F1,e1,r1,m1⟩:=GQ (lo:=lo) hs hl hn;obtain ⟨b,i,rs,row,G,ha,hbF,hbG,hb,hrow,⟨rfl,rfl⟩,hGF,hGn,_,put⟩:=r1.at (lo:=lo) Cn hk m1.nd (λy hy=>m1.ge hl (by simp) y hy);have hld:ld h1 b (i+k) 0 2=some [Iv l[k].time,Iv l[k].place]:=by rw[Dg hb hrow];rfl
 obtain ⟨h2,F2,e2,r2,m2,_⟩:=put h1 [] 0 (Ee l[k] t).cs (Ee l[k] t).cs (Ee l[k] t) Mv.nil rfl ⟨rfl,rfl⟩;subst ha;have hwl:(DH l k t).length=l.length:=by rw[Ie hk];simp
 rw[hwl];refine ⟨some (b,i),c1,h2,F2,Ks ?_,by rw[Ie hk];exact r2,m1.trans m2⟩;simp only[Tag.cs] at e2;rw[e1,Ac,AW,Ab,Ah,Ai,Ad hk,Af,By,hld,Af,Ab,Aa,Ab,Aa,Ai,Of,Ac,AW,Ab,Aa,Ab,Aa,Ai,Ad hk,Af,e2,Af]
theorem Mc {p q:List Tag} (hs:RTags false h [.sl 2 a p.length c] p F) (hs':RTags false h [.sl 2 a' q.length c'] q F') (hp:p.length=4) (hq:q.length=4) (hl:lo<=h.length) :
  ∃ a5 c5 h' F5,Ae lo 101 [.agg [.sl 2 a p.length c],.agg [.sl 2 a' q.length c']] h=some (.agg [.sl 2 a5 (BI p q).length c5],h')/\RTags false h' [.sl 2 a5 (BI p q).length c5] (BI p q) F5/\Mv h [] h' F5:=by
 obtain ⟨a1,c1,h1,F1,e1,r1,m1⟩:=GQ (lo:=lo) hs hl (by omega);have hj:(BI p q).length=4:=by unfold BI;rw[Zq];omega
 have part:∀ i (hi:i<4),((BI p q).take i++p.drop i).length=4/\((BI p q).take i++p.drop i)[i]?=p[i]?/\((BI p q).take i++p.drop i).set i (Ee (p[i]'(by omega)) (q[i]'(by omega)))=(BI p q).take (i+1)++p.drop (i+1):=λi hi=>by
  have e:((BI p q).take i).length=i:=by rw[YE];omega
  refine ⟨by rw[Yp,YY,e];omega,?_,?_⟩
  ·rw[Yh (by omega),e,Zs,Yu,YX]
  ·rw[List.set_append_right _ _ (by omega),e,Zs,Yi (by omega:i<p.length),List.set_cons_zero,List.take_succ_eq_append_getElem (by omega:i<(BI p q).length),Yd];have:(BI p q)[i]'(by omega)=Ee (p[i]'(by omega)) (q[i]'(by omega)):=List.getElem_zipWith;rw[this];rfl
 have loop:∀ m i hh G,m+i=4->Mv h1 F1 hh G->RTags false hh [.sl 2 a1 4 c1] ((BI p q).take i++p.drop i) G->∃ h' F5,Bs lo a' q.length c' (q.length:Nat) (i:Nat) 0 none 0 (some 0) a1 p.length c1 hh=some (.agg [.sl 2 a1 (BI p q).length c1],h')/\RTags false h' [.sl 2 a1 4 c1] (BI p q) F5/\Mv h1 F1 h' F5:=by
  intro m;induction m with
  | zero =>
   intro i hh G hi mm r;obtain rfl:i=4:=by omega
   rw[YI (by omega),YW,YA (by omega)] at r;refine ⟨hh,G,?_,r,mm⟩;rw[Bs.e,Ao (by omega),hp,hj]
  | succ m ih =>
   intro i hh G hi mm r;obtain ⟨g1,g2,g3⟩:=part i (by omega);have hi4:i<((BI p q).take i++p.drop i).length:=by omega
   have hip:i<p.length:=by omega
   obtain ⟨o,rfl,ho⟩:=((m1.trans mm).drop.keep0 rtags_ok hs').get (show i<q.length by omega);obtain ⟨b,i1,rs,row,G1,ha,hbF,hbG,hb,hrow,⟨hrw,rfl⟩,hGF,hGn,_,put⟩:=r.at (lo:=lo) Cn hi4 mm.nd (λy hy=>(m1.trans mm).ge hl (by simp) y hy);have hpi:((BI p q).take i++p.drop i)[i]'hi4=p[i]:=by have:=CX hi4;rw[g2,CX hip] at this;injection this with this;exact this.symm
   rw[hpi] at hrw;have hld:ld hh b (i1+i) 0 2=some [Iv p[i].time,Iv p[i].place]:=by rw[Dg hb hrow,hrw];rfl
   obtain ⟨h2,F2,e2,r2,m2,_⟩:=put hh [] 0 (Ee p[i] (q[i]'(by omega))).cs (Ee p[i] (q[i]'(by omega))).cs (Ee p[i] (q[i]'(by omega))) Mv.nil (by rw[hrw];rfl) ⟨rfl,rfl⟩;rw[g3] at r2;subst ha;obtain ⟨h',F5,q1,q2,q3⟩:=ih (i+1) h2 F2 (by omega) (mm.trans m2) r2;refine ⟨h',F5,?_,q2,q3⟩;simp only[Tag.cs] at e2;rw[<- q1,Bs.e,Am (by omega),Ad (by omega),Af,By,ho,Af,Ab,Aa,Ab,Aa,Ai,Ad hip,Af,hld,Af,Ab,Aa,Ab,Aa,Ai,Of,Ac,AW,Ab,Aa,Ab,Aa,Ai,Ad hip,Af,e2,Af,Ay (by omega)]
 obtain ⟨h',F5,q1,q2,q3⟩:=loop 4 0 h1 F1 rfl (Mv.refl m1.nd) (by rw[List.take_zero,Yr,YQ,<- hp];exact r1);refine ⟨a1,c1,h',F5,Kt ?_,by rw[hj];exact q2,m1.trans q3⟩;rw[e1,Ac,AW,Ab,Ah,Ai];exact q1
end


section
variable {lo b:Nat}{h h':Heap}{w:World}{a1 a2 a3 a4 a:Pq}{c1 c2 c3 c4 c:Nq}{F1 F2 F3 F4:List Nat}{k b2 i2:Nat}
theorem WN.row (H:WN lo h b w a1 c1 (some (b2,i2)) c2 a3 c3 a4 c4 F1 F2 F3 F4) (hk:k<w.sess.length):∃ v x y G,ld h b2 (i2+k) (0+0) 1=some [Iv w.sess[k].place]/\ld h b2 (i2+k) (0+1) 1=some [v]/\ld h b2 (i2+k) (0+2) 2=some [Iv w.sess[k].wait.time,Iv w.sess[k].wait.place]/\ld h b2 (i2+k) (0+4) 1=some [Iv w.sess[k].key] /\
  (∀ {R':Type} (K:Pq->Nat->Nq->Option R'),eS 2 v K=K x w.sess[k].past.length y)/\RTags false h [.sl 2 x w.sess[k].past.length y] w.sess[k].past G:=by
 obtain ⟨b2',i2',rs,v,x,y,G,ha,hil,hb2,es,hp,_⟩:=H.sess hk;injection ha with ha;injection ha with z1 z2;subst z1;subst z2;exact ⟨v,x,y,G,by rw[O1 hb2 hil];rfl,by rw[O1 hb2 hil];rfl,by rw[O1 hb2 hil];rfl,by rw[O1 hb2 hil];rfl,es,hp⟩
theorem WN.waits (H:WN lo h b w a1 c1 (some (b2,i2)) c2 a3 c3 a4 c4 F1 F2 F3 F4) (hk:k<w.sess.length) (t:Tag) (key:Int):∃ h1 h2 F2',st lo h b2 (i2+k) (0+2) [Iv t.time,Iv t.place]=some h1/\st lo h1 b2 (i2+k) (0+4) [Iv key]=some h2 /\
  WN lo h2 b ⟨w.places,w.sess.set k ⟨w.sess[k].place,w.sess[k].past,t,key⟩,w.net,w.hist⟩ a1 c1 (some (b2,i2)) c2 a3 c3 a4 c4 F1 F2' F3 F4/\Mv h (b ::(F1++(F2++(F3++F4)))) h2 (b ::(F1++(F2'++(F3++F4)))):=by
 obtain ⟨b2',i2',rs,v,ha,lob,hil,hb,put⟩:=H.sets hk;injection ha with ha;injection ha with z1 z2;subst z1;subst z2;have s1:=Uz (lo:=lo) (j:=0+2) (cs := [Iv t.time,Iv t.place]) (row' := [Iv w.sess[k].place,v,Iv t.time,Iv t.place,Iv w.sess[k].key]) hb hil lob rfl;have s2:=Uz (lo:=lo) (h:=h.set b2 (.rows 5 (JD false) false (rs.set (i2+k) [Iv w.sess[k].place,v,Iv t.time,Iv t.place,Iv w.sess[k].key]))) (b:=b2) (i:=i2+k) (rs:=rs) (e:=JD false) (R:=5) (j:=0+4) (cs := [Iv key]) (row := [Iv w.sess[k].place,v,Iv t.time,Iv t.place,Iv w.sess[k].key]) (row' := [Iv w.sess[k].place,v,Iv t.time,Iv t.place,Iv key]) (by rw[X9 (Ef hb).1]) hil lob rfl;rw[List.set_set] at s2;obtain ⟨F2',H7,M7⟩:=put ⟨w.sess[k].place,w.sess[k].past,t,key⟩ rfl;exact ⟨_,_,F2',s1,s2,H7,M7⟩
end


section
variable {lo:Nat}{h:Heap}{F1 F2 F3 F4:List Nat}{a a1 a2 a3 a4:Pq}{c c1 c2 c3 c4:Nq}{F:List Nat}
theorem RDones.rowsG {l:List Done} (hs:RDones false h [.sl 5 a l.length c] l F) {T:Type} (K:List (List V)->Option T):Aj 5 h (.sl 5 a l.length c) K=K (l.map Done.cs):=by obtain ⟨rows,Fs,h1,h2,_⟩:=Sli.rows hs;rw[h1,h2.of_flat.1]
theorem RPlacesN.up {cs:List V}{l:List Place} (hs:RPlacesN h cs l F):RPlaces false h cs l F:=Sli.mono (λ_ _ _ h=>by obtain ⟨_,_,_,_,_,_,rfl,q⟩:=h;exact q) hs
end


section
variable {lo:Nat}{h:Heap}
theorem M8:∃ h' q,Ae lo 65 [] h=some (.agg [.sl 2 (some (q,0)) 4 (some 4)],h')/\RTags false h' [.sl 2 (some (q,0)) 4 (some 4)] HB [q]/\Mv h [] h' [q] :=
 ⟨_,h.length,Lj rfl,Sli.made (l:=HB) rfl,Mv.last⟩
end


section
variable {h:Heap}
theorem Xq {n t:Nat}{xs:List V} (hu:Tryz.prog.underlying t=some (.int .u8)) (hx:TV Tryz.prog h (n+1) t xs):∃ u:UInt8,xs=XG u:=by
 simp only[TV,hu] at hx;obtain ⟨i,rfl,h2⟩:=hx;have e1:IntKind.u8.min=0:=by decide
 have e2:IntKind.u8.max=255:=by decide
 simp only[Lit.wf,C3,decide_eq_true_eq,e1,e2] at h2;refine ⟨UInt8.ofNat i.toNat,?_⟩;unfold XG;rw[UInt8.toNat_ofNat',Nat.mod_eq_of_lt (by omega),show ((i.toNat:Nat):Int)=i by omega]
theorem VH {n:Nat}{x:V} (hx:ArgV Tryz.prog h (n+2) 22 x):∃ (a:Pq) (c:Nq) (l:List UInt8) (F:List Nat),x = .sl 1 a l.length c/\RBytes h [.sl 1 a l.length c] l F/\(∀ y∈F,y<h.length)/\∀ k,c=some k->l.length<=k:=by
 have hx2:TV Tryz.prog h (n+2) 22 [x]:=by unfold ArgV at hx;rw[Tryz.underlying22] at hx;exact hx
 have hx3:=hx2;simp only[TV,Tryz.underlying22] at hx3;obtain ⟨a,c,rs,e,⟨_,hcap⟩,_⟩:=hx3;injection e with e _;subst e;obtain ⟨l,F,h1,_⟩:=WV (El:=flat XG) (bd:=λ_=>True) (ee:=0) (R:=1) Tryz.underlying22 (by kernel_rfl) (λrow hr=>by obtain ⟨t,rfl⟩:=Xq (n:=n) Tryz.underlying5 hr;exact ⟨t,[],⟨rfl,rfl⟩,trivial⟩) hx2;have hv:=h1.val;have hc:Tryz.prog.cellsOf 5=1:=by kernel_rfl
 rw[hv,hc] at h1;exact ⟨a,c,l,F,by rw[hv,hc],h1,(Sli.ok Cn).bd _ _ _ _ h1,λk hk=>by rw[<- hv];exact hcap k hk⟩
end


section
variable {lo:Nat}{ro ro':Bool}{h:Heap}{F F':List Nat}{a a':Pq}{c c':Nq}
theorem Sr {l:List Done} (h1:RDones ro h [.sl 5 a l.length c] l F) (h2:RDones ro' h [.sl 5 a' l.length c'] l F') (hn:l.length<=1048576):Ae lo 10 [.sl 5 a l.length c,.sl 5 a' l.length c'] h=some (.bool true,h):=by
 refine NE (h':=h) ?_;rw[Re,Ax];refine (Wf (n:=l.length) (λi=>Cg h.length a l.length c a' l.length c' false (i:Nat) h) λi hi=>?_).trans ?_
 ·obtain ⟨o,rfl,ho⟩:=h1.get hi;obtain ⟨o',rfl,ho'⟩:=h2.get hi;rw[Cg.e,Am (by omega),Ad hi,Af,By,ho,Af,Ab,Aa,Ab,Aa,Ab,Aa,Ab,Aa,Ab,Aa,Ai,Ad hi,Af,ho',Af,Ab,Aa,Ab,Aa,Ab,Aa,Ab,Aa,Ab,Aa,Ai];simp only[Re,Bool.and_self,Ax,Ay (show i<9223372036854775807 by omega)]
 ·rw[Cg.e,Ao (by omega)]
end
end Go.Proofs.YtmdgiekbejjjgaaGreat
