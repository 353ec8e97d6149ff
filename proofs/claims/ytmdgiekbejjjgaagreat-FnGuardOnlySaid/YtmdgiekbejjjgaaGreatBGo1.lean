/- Part 1 of what is shown for the law Go, whatever the input; no condition of its own. -/
import Derived.Test.YtmdgiekbejjjgaaGreatBGo0
set_option linter.unusedVariables false
set_option linter.unusedSimpArgs false
set_option linter.unnecessarySimpa false
set_option maxRecDepth 100000
namespace Go.Proofs.YtmdgiekbejjjgaaGreat.T
open Go
variable {v:V}{σ1:St}{x:Operand}
section
variable {R:Type}{X:Ctx}{lo lo':Nat}{d:Option Nat}{ty:TypeId}{o:Op}{s s':List (Nat×V)}{bx bx':List (Nat×List V)}{h h':Heap}{K:V->St->Option R}
theorem Iq:∀ {xs:List Operand},(∀ x∈xs,ev s' x=ev s x)->JP s' xs=JP s xs
 | [],_=>rfl
 | x :: xs,hx=>by simp only[JP];rw[hx x (by simp),Iq λy hy=>hx y (by simp[hy])]
theorem Kb:∀ {xs:List (Nat×Operand)},(∀ x∈xs,ev s' x.2=ev s x.2)->Ot s' xs=Ot s xs
 | [],_=>rfl
 | (i,x) :: xs,hx=>by simp only[Ot];rw[hx (i,x) (by simp),Kb λy hy=>hx y (by simp[hy])]
theorem Kc {x:Option Operand} (hx:∀ y∈x.toList,ev s' y=ev s y):VN s' x=VN s x:=by
 cases x with
 | none=>rfl
 | some x=>simp only[VN];rw[hx x (by simp)]
theorem TG (hx:∀ x∈o.operands.toList,ev s' x=ev s x):opT X lo d ty o ⟨s',bx,h⟩ K=opT X lo d ty o ⟨s,bx,h⟩ λv σ=>K v ⟨s',σ.bx,σ.h⟩:=by
 cases o<;>simp only[Op.operands] at hx<;>simp only[opT]
 case move x=>rw[hx x (by simp)]
 case assign x=>rw[hx x (by simp)]
 case pick c x y=>rw[hx c (by simp),hx x (by simp),hx y (by simp)]
 case box e x=>rw[hx x (by simp)]
 case build t ps=>rw[Kb λx hm=>hx x.2 (by simp;exact ⟨x.1,by simpa using hm⟩)]
 case buildSlice t n ps=>rw[Kb λx hm=>hx x.2 (by simp;exact ⟨x.1,by simpa using hm⟩)]
 case load t x=>rw[hx x (by simp)]
 case store t x y=>rw[hx x (by simp),hx y (by simp)]
 case nilCheck x=>rw[hx x (by simp)]
 case binOp op t x y u=>rw[hx x (by simp),hx y (by simp)]
 case unOp op t x=>rw[hx x (by simp)]
 case convert u t x=>rw[hx x (by simp)]
 case makeFunc f fs cs =>
  have h2:JP s' fs.toList=JP s fs.toList:=Iq λx hm=>hx x (by simp at hm ⊢;exact .inl hm);rw[Iq (xs:=cs.toList) λx hm=>hx x (by simp at hm ⊢;exact .inr hm)];cases hfs:fs.toList with
  | nil=>cases f<;>rfl
  | cons x xs=>rw[hfs] at h2;cases f<;>simp only[h2]
 case makeSlice t l c=>rw[hx l (by simp),hx c (by simp)]
 case slice t x l hi m =>rw[hx x (by simp),Kc (x:=l) λy hy=>hx y (by simp at hy ⊢;simp[hy]),Kc (x:=hi) λy hy=>hx y (by simp at hy ⊢;simp[hy]),Kc (x:=m) λy hy=>hx y (by simp at hy ⊢;simp[hy])]
 case fieldAddr t x f=>rw[hx x (by simp)]
 case field t x f=>rw[hx x (by simp)]
 case indexAddr t x i=>rw[hx x (by simp),hx i (by simp)]
 case index t x i=>rw[hx x (by simp),hx i (by simp)]
 case lookup t m i ok=>rw[hx m (by simp),hx i (by simp)]
 case mapUpdate t m i x=>rw[hx m (by simp),hx i (by simp),hx x (by simp)]
 case insert t m i x=>rw[hx m (by simp),hx i (by simp),hx x (by simp)]
 case extract x i=>rw[hx x (by simp)]
 case call c =>
  have h1:JP s' c.args.toList=JP s c.args.toList:=Iq λx hm=>hx x (by simp[Call.operands] at hm ⊢;simp[hm]);rw[h1];split
  ·split
   ·rename_i f hc
    rw[hx f (by simp[Call.operands,hc])]
   ·rfl
   ·rfl
  ·rfl
theorem Fv (hx:∀ x∈o.operands.toList,ev s' x=ev s x) (hs:Aw X lo d ty o ⟨s,bx,h⟩=some (v,σ1)):Aw X lo d ty o ⟨s',bx,h⟩=some (v,⟨s',σ1.bx,σ1.h⟩):=by unfold Aw at hs ⊢;rw[TG hx,FO];unfold Aw;rw[hs];rfl
theorem Jc (hs:Aw X lo d ty o ⟨s,bx,h⟩=some (v,σ1)):σ1.s=s:=by have:=Fv (λx _=>rfl) hs;rw[hs] at this;injection this with this;injection this with _ this;rw[this]
theorem TH (hw:X.wide=false) {o:Oper} (hi:C2 o=true):opT X lo d ty o.op ⟨s,bx,h⟩ K=opT X lo' d ty o.op ⟨s,bx',h'⟩ λv _=>K v ⟨s,bx,h⟩:=by
 obtain ⟨dst,op,ty',pos,after,guard⟩:=o;cases op<;>simp only[C2] at hi<;>(try cases hi)<;>simp only[opT,hw,Gl]
 rename_i c
 split at hi;all_goals (try cases hi)
 all_goals (rename_i hc;rw[hc];split<;>simp only[Sx])
theorem LC (hw:X.wide=false) {o:Oper} (hi:C2 o=true) (hs:Aw X lo d ty o.op ⟨s,bx,h⟩=some (v,σ1)):σ1.bx=bx/\σ1.h=h/\∀ lo' bx' h',Aw X lo' d ty o.op ⟨s,bx',h'⟩=some (v,⟨s,bx',h'⟩):=by
 have key:∀ lo' bx' h',Aw X lo' d ty o.op ⟨s,bx',h'⟩=some (v,⟨s,bx',h'⟩):=by intro lo' bx' h';unfold Aw at hs ⊢;rw[TH hw (lo':=lo) (bx':=bx) (h':=h) hi,FO];unfold Aw;rw[hs];rfl
 have:=key lo bx h;rw[hs] at this;injection this with this;injection this with _ this;exact ⟨by rw[this],by rw[this],key⟩
theorem NM {t:TypeId} (hs:Aw X lo d ty (.load t x) ⟨s,bx,h⟩=some (v,σ1)):σ1.s=s/\σ1.bx=bx/\σ1.h=h:=by
 unfold Aw at hs;simp only[opT] at hs;split at hs
 ·cases hs
 ·split at hs
  ·split at hs
   ·obtain ⟨cs,_,hs⟩:=Az hs;obtain ⟨y,_,hs⟩:=Az hs;simp only[Option.some.injEq,Prod.mk.injEq] at hs;obtain ⟨_,rfl⟩:=hs;exact ⟨rfl,rfl,rfl⟩
   ·cases hs
  ·have key:opT X lo d ty (.load t x) ⟨s,bx,h⟩ (λv σ=>some (v,σ))=opT X lo d ty (.load t x) ⟨s,bx,h⟩ λv _=>some (v,⟨s,bx,h⟩):=by simp only[opT]
   have hs2:opT X lo d ty (.load t x) ⟨s,bx,h⟩ (λv σ=>some (v,σ))=some (v,σ1):=by simp only[opT];simp_all
   rw[key,FO] at hs2;obtain ⟨p,_,hp⟩:=Option.bind_eq_some_iff.1 hs2;simp only[Option.some.injEq,Prod.mk.injEq] at hp;obtain ⟨_,rfl⟩:=hp;exact ⟨rfl,rfl,rfl⟩
  ·cases hs
theorem VT {t:TypeId}{u j:Nat} (hx:ev s x = .lp u j) (hs:Aw X lo d ty (.load t x) ⟨s,bx,h⟩=some (v,σ1)):∃ row,As bx u=some row /\
  ∀ lo' bx' h',As bx' u=some row->Aw X lo' d ty (.load t x) ⟨s,bx',h'⟩=some (v,⟨s,bx',h'⟩):=by
 unfold Aw at hs;simp only[opT,hx] at hs;split at hs
 ·cases hs
 ·rename_i hk
  split at hs
  ·rename_i row hrow
   refine ⟨row,hrow,λlo' bx' h' hb=>?_⟩;unfold Aw;simp only[opT,hx,hk,hb];obtain ⟨cs,h1,hs⟩:=Az hs;obtain ⟨y,h2,hs⟩:=Az hs;simp only[Option.some.injEq,Prod.mk.injEq] at hs;obtain ⟨rfl,_⟩:=hs;simp only[h1,h2,eO]
  ·cases hs
theorem TP {t:TypeId} (hs:Aw X lo d ty (.load t x) ⟨s,bx,h⟩=some (v,σ1)):(∃ u j,ev s x = .lp u j)\/∃ b i j,ev s x = .ptr (some (b,i,j)):=by
 unfold Aw at hs;simp only[opT] at hs;split at hs
 ·cases hs
 ·split at hs
  ·rename_i u j he
   exact .inl ⟨u,j,he⟩
  ·rename_i p he
   obtain ⟨q,rfl,_⟩:=Az hs;obtain ⟨b,i,j⟩:=q;exact .inr ⟨b,i,j,he⟩
  ·cases hs
theorem Ux {t:TypeId}{b i j:Nat} (hx:ev s x = .ptr (some (b,i,j))) (hs:Aw X lo d ty (.load t x) ⟨s,bx,h⟩=some (v,σ1)):∃ cs,ld h b i j (X.ty t).size=some cs /\
  ∀ lo' bx' h',ld h' b i j (X.ty t).size=some cs->Aw X lo' d ty (.load t x) ⟨s,bx',h'⟩=some (v,⟨s,bx',h'⟩):=by
 unfold Aw at hs;simp only[opT,hx] at hs;split at hs
 ·cases hs
 ·rename_i hk
  obtain ⟨q,hq,hs⟩:=Az hs;injection hq with hq;subst hq;obtain ⟨cs,h1,hs⟩:=Az hs;refine ⟨cs,h1,λlo' bx' h' hb=>?_⟩;have key:∀ σ:St,GF (X.ty t).agg (X.ty t).sh cs (λv=>some (v,σ))=(GF (X.ty t).agg (X.ty t).sh cs some).bind λv=>some (v,σ):=λσ=>by rw[KT];rfl
  unfold Aw;simp only[opT,hx,hk,eO,hb];rw[key] at hs ⊢;obtain ⟨y,h2,hs⟩:=Option.bind_eq_some_iff.1 hs;simp only[Option.some.injEq,Prod.mk.injEq] at hs;obtain ⟨rfl,_⟩:=hs;rw[h2];rfl
theorem GC {t:TypeId}{y z:Operand}{u j:Nat} (hy:ev s y = .lp u j) (hs:Aw X lo d ty (.store t y z) ⟨s,bx,h⟩=some (v,σ1)):σ1.h=h/\∃ row,σ1.bx=RG bx u row:=by
 unfold Aw at hs;simp only[opT,hy] at hs;split at hs
 ·split at hs
  ·split at hs
   ·split at hs
    ·simp only[Option.some.injEq,Prod.mk.injEq] at hs;obtain ⟨_,rfl⟩:=hs;exact ⟨rfl,_,rfl⟩
    ·cases hs
   ·cases hs
  ·cases hs
 ·cases hs
theorem HH {t:TypeId}{y z:Operand}{q:Option (Nat×Nat×Nat)} (hy:ev s y = .ptr q) (hs:Aw X lo d ty (.store t y z) ⟨s,bx,h⟩=some (v,σ1)):σ1.bx=bx:=by
 unfold Aw at hs;simp only[opT,hy] at hs;split at hs
 ·split at hs
  ·obtain ⟨q,_,hs⟩:=Az hs;obtain ⟨b,i,j⟩:=q;obtain ⟨h',_,hs⟩:=Az hs;simp only[Option.some.injEq,Prod.mk.injEq] at hs;obtain ⟨_,rfl⟩:=hs;rfl
  ·cases hs
 ·cases hs
def Rc:Op->Bool
 | .alloc _ | .box _ _ | .store _ _ _=>true
 | _=>false
theorem WY (hb:Rc o=false):opT X lo d ty o ⟨s,bx,h⟩ K=opT X lo d ty o ⟨s,bx,h⟩ λv σ=>K v ⟨σ.s,bx,σ.h⟩:=by cases o<;>simp only[Rc] at hb<;>(try cases hb)<;>simp only[opT]
theorem VU (hb:Rc o=false) (hs:Aw X lo d ty o ⟨s,bx,h⟩=some (v,σ1)):σ1.bx=bx:=by
 have:Aw X lo d ty o ⟨s,bx,h⟩=some (v,⟨σ1.s,bx,σ1.h⟩):=by have h2:=hs;unfold Aw at h2 ⊢;rw[WY hb,FO];unfold Aw;rw[h2];rfl
 rw[hs] at this;injection this with this;injection this with _ this;rw[this]
theorem Jb (hs:Aw X lo d ty o ⟨s,bx,h⟩=some (v,σ1)) :
  σ1.bx=bx\/(∃ t row,As bx t=none/\σ1.bx=(t,row) :: bx)\/((∃ t x y,o = .store t x y)/\∃ u row,σ1.bx=RG bx u row):=by
 cases hb:Rc o with
 | false=>exact .inl (VU hb hs)
 | true =>
  unfold Aw at hs;cases o<;>simp only[Rc] at hb<;>(try cases hb)<;>simp only[opT] at hs
  ·split at hs
   ·cases hs
   ·cases hs
   ·split at hs
    ·simp only[Option.some.injEq,Prod.mk.injEq] at hs;obtain ⟨_,rfl⟩:=hs;exact .inl rfl
    ·split at hs
     ·cases hs
     ·rename_i hl
      simp only[Option.some.injEq,Prod.mk.injEq] at hs;obtain ⟨_,rfl⟩:=hs;exact .inr (.inl ⟨_,_,hl,rfl⟩)
  ·split at hs
   ·cases hs
   ·split at hs
    ·split at hs
     ·split at hs
      ·simp only[Option.some.injEq,Prod.mk.injEq] at hs;obtain ⟨_,rfl⟩:=hs;exact .inl rfl
      ·split at hs
       ·cases hs
       ·rename_i hl
        simp only[Option.some.injEq,Prod.mk.injEq] at hs;obtain ⟨_,rfl⟩:=hs;exact .inr (.inl ⟨_,_,hl,rfl⟩)
     ·cases hs
    ·cases hs
  ·split at hs
   ·split at hs
    ·split at hs
     ·split at hs
      ·split at hs
       ·simp only[Option.some.injEq,Prod.mk.injEq] at hs;obtain ⟨_,rfl⟩:=hs;exact .inr (.inr ⟨⟨_,_,_,rfl⟩,_,_,rfl⟩)
       ·cases hs
      ·cases hs
     ·obtain ⟨q,_,hs⟩:=Az hs;obtain ⟨b,i,j⟩:=q;obtain ⟨h',_,hs⟩:=Az hs;simp only[Option.some.injEq,Prod.mk.injEq] at hs;obtain ⟨_,rfl⟩:=hs;exact .inl rfl
     ·cases hs
    ·cases hs
   ·cases hs
def Keeps (X:Ctx) (σ σ':St) (p:Oper):Prop:=(∀ t x,p.op = .load t x->(∀ u j row,ev σ.s x = .lp u j->As σ.bx u=some row->As σ'.bx u=some row) /\
 (∀ b i j,ev σ.s x = .ptr (some (b,i,j))->ld σ'.h b i j (X.ty t).size=ld σ.h b i j (X.ty t).size)) /\
 (∀ t e,Gn p=some (t,e)->∀ row,As σ.bx t=some row->As σ'.bx t=some row)
theorem Hj {o:Oper}{t e:Nat} (h:Gn o=some (t,e)):o.op = .alloc e/\o.dst=some t:=by
 unfold Gn at h;split at h
 ·rename_i e' ho
  split at h
  ·rename_i t' hd
   injection h with h;injection h with h1 h2;subst h1;subst h2;exact ⟨ho,hd⟩
  ·cases h
 ·cases h
theorem L1 {o:Oper}{t:TypeId} (h:o.op = .load t x):Gn o=none:=by unfold Gn;rw[h]
theorem N8 {o:Oper}{v:V}{σ1:St} (hs:Aw X lo d ty o.op ⟨s,bx,h⟩=some (v,σ1)):∀ {l:List Oper}{k:Option R}{r:R},chkT X o ⟨s,bx,h⟩ σ1 l k=some r->k=some r/\∀ p∈l,Keeps X ⟨s,bx,h⟩ σ1 p
 | [],k,r,hk=>⟨hk,λp hp=>by simp at hp⟩
 | p :: l,k,r,hk=>by
  have ih:∀ {k:Option R}{r:R},chkT X o ⟨s,bx,h⟩ σ1 l k=some r->k=some r/\∀ p∈l,Keeps X ⟨s,bx,h⟩ σ1 p:=N8 hs;have fin:chkT X o ⟨s,bx,h⟩ σ1 l k=some r->Keeps X ⟨s,bx,h⟩ σ1 p->k=some r/\∀ q∈p :: l,Keeps X ⟨s,bx,h⟩ σ1 q:=λh1 h2=>by
   obtain ⟨h3,h4⟩:=ih h1;refine ⟨h3,λq hq=>?_⟩;rcases Ye.1 hq with rfl | hq
   ·exact h2
   ·exact h4 q hq
  simp only[chkT] at hk;split at hk
  ·rename_i t x hp
   split at hk
   ·rename_i u j hx
    have key:(∀ row,As bx u=some row->As σ1.bx u=some row)->Keeps X ⟨s,bx,h⟩ σ1 p:=λhrow=>by
     refine ⟨λt' x' hp'=>?_,λt' e' hm=>by rw[L1 hp] at hm;cases hm⟩;rw[hp] at hp';injection hp' with e1 e2;subst e1;subst e2;refine ⟨λu' j' row hx' hl=>?_,λb i j' hx'=>?_⟩
     ·have hx':ev s x = .lp u' j':=hx';rw[hx] at hx';injection hx' with e1 e2;subst e1;exact hrow row hl
     ·have hx':ev s x = .ptr (some (b,i,j')):=hx';rw[hx] at hx';cases hx'
    split at hk
    ·rename_i t' y z hop
     rw[hop] at hs;split at hk
     ·rename_i u' j' hy
      split at hk
      ·cases hk
      ·rename_i hne
       refine fin hk (key λrow hl=>?_);obtain ⟨_,row',h2⟩:=GC hy hs;rw[h2,FS,if_neg (λe=>by subst e;simp at hne)];exact hl
     ·rename_i q hy
      refine fin hk (key λrow hl=>?_);rw[HH hy hs];exact hl
     ·cases hk
    ·rename_i hop
     exact fin hk (key λrow hl=>by
      rcases Jb hs with h1 | ⟨t0,row',h1,h2⟩ | ⟨⟨t0,y,z,h3⟩,_⟩
      ·rw[h1];exact hl
      ·rw[h2,AP];split
       ·rename_i e;subst e;rw[h1] at hl;cases hl
       ·exact hl
      ·exact absurd h3 (hop _ _ _))
   ·rename_i q hx
    obtain ⟨q,rfl,hk⟩:=Az hk;obtain ⟨b,i,j⟩:=q;have key:ld σ1.h b i j (X.ty t).size=ld h b i j (X.ty t).size->Keeps X ⟨s,bx,h⟩ σ1 p:=λhl=>by
     refine ⟨λt' x' hp'=>?_,λt' e' hm=>by rw[L1 hp] at hm;cases hm⟩;rw[hp] at hp';injection hp' with e1 e2;subst e1;subst e2;refine ⟨λu' j' row hx' _=>?_,λb' i' j' hx'=>?_⟩
     ·have hx':ev s x = .lp u' j':=hx';rw[hx] at hx';cases hx'
     ·have hx':ev s x = .ptr (some (b',i',j')):=hx';rw[hx] at hx';injection hx' with e;injection e with e;injection e with e1 e;injection e with e2 e3;subst e1;subst e2;subst e3;exact hl
    have nd:∀ {k:Option R},A4 (SJ (ld h b i j (X.ty t).size) (ld σ1.h b i j (X.ty t).size)) k=some r->ld σ1.h b i j (X.ty t).size=ld h b i j (X.ty t).size/\k=some r:=λhk=>by obtain ⟨h1,h2⟩:=Aq hk;unfold SJ at h1;exact ⟨((@decide_eq_true_iff _ (_)).1 h1).symm,h2⟩
    split at hk
    ·rename_i t' y z hop
     split at hk
     ·rename_i u' j' hy
      rw[hop] at hs;exact fin hk (key (by rw[(GC hy hs).1]))
     ·obtain ⟨h1,h2⟩:=nd hk;exact fin h2 (key h1)
    ·obtain ⟨h1,h2⟩:=nd hk;exact fin h2 (key h1)
   ·cases hk
  ·rename_i e hp
   split at hk
   ·rename_i t hd
    have key:(∀ row,As bx t=some row->As σ1.bx t=some row)->Keeps X ⟨s,bx,h⟩ σ1 p:=λhrow=>by refine ⟨λt' x' hp'=>(by rw[hp] at hp';cases hp'),λt' e' hm=>?_⟩;obtain ⟨_,hd'⟩:=Hj hm;rw[hd] at hd';injection hd' with hd';subst hd';exact hrow
    split at hk
    ·rename_i t' y z hop
     rw[hop] at hs;split at hk
     ·rename_i u' j' hy
      split at hk
      ·cases hk
      ·rename_i hne
       refine fin hk (key λrow hl=>?_);obtain ⟨_,row',h2⟩:=GC hy hs;rw[h2,FS,if_neg (λe=>by subst e;simp at hne)];exact hl
     ·rename_i q hy
      refine fin hk (key λrow hl=>?_);rw[HH hy hs];exact hl
     ·cases hk
    ·rename_i hop
     exact fin hk (key λrow hl=>by
      rcases Jb hs with h1 | ⟨t0,row',h1,h2⟩ | ⟨⟨t0,y,z,h3⟩,_⟩
      ·rw[h1];exact hl
      ·rw[h2,AP];split
       ·rename_i e;subst e;rw[h1] at hl;cases hl
       ·exact hl
      ·exact absurd h3 (hop _ _ _))
   ·cases hk
  ·cases hk
theorem MW (hs:Aw X lo d ty o ⟨s,bx,h⟩=some (v,σ1)) {t:Nat} (ht:(As bx t).isSome=true):(As σ1.bx t).isSome=true:=by
 rcases Jb hs with h1 | ⟨u,row,h1,h2⟩ | ⟨_,u,row,h2⟩
 ·rw[h1];exact ht
 ·rw[h2,AP];split
  ·rfl
  ·exact ht
 ·rw[h2,FS];split
  ·simpa using ht
  ·exact ht
theorem GD (hs:Aw X lo d ty o ⟨s,bx,h⟩=some (v,σ1)) (hw:∀ t x y,o ≠ .store t x y) {t:Nat}{row:List V} (ht:As bx t=some row):As σ1.bx t=some row:=by
 rcases Jb hs with h1 | ⟨u,row',h1,h2⟩ | ⟨⟨t,x,y,h3⟩,_⟩
 ·rw[h1];exact ht
 ·rw[h2,AP];split
  ·rename_i e;subst e;rw[h1] at ht;cases ht
  ·exact ht
 ·exact absurd h3 (hw _ _ _)
end
theorem Hy {acc:List Nat}{j:Nat}:∀ {es:List Edge},(GB acc es).testBit j=true->∃ e∈es,B4 e=true/\(e.on=j\/(acc.getD e.on 0).testBit j=true)
 | [],h=>by simp[GB] at h
 | e :: es,h=>by
  simp only[GB] at h;split at h
  ·rename_i hb
   have h1:((1 <<< e.on ||| acc.getD e.on 0) ||| GB acc es).testBit j=true:=h;rw[Nat.testBit_or,Nat.testBit_or] at h1;simp only[YB] at h1;rcases h1 with (h1 | h1) | h1
   ·refine ⟨e,by simp,hb,.inl ?_⟩;rw[Nat.testBit_shiftLeft] at h1;simp only[X7,decide_eq_true_eq] at h1;have h2:=h1.2;by_cases hz:j - e.on=0
    ·omega
    ·rw[Nat.testBit_one_eq_true_iff_self_eq_zero] at h2;omega
   ·exact ⟨e,by simp,hb,.inr h1⟩
   ·obtain ⟨e',h2,h3⟩:=Hy h1;exact ⟨e',by simp[h2],h3⟩
  ·obtain ⟨e',h2,h3⟩:=Hy h;exact ⟨e',by simp[h2],h3⟩
theorem H9:∀ (l:List Oper) (acc:List Nat) (i:Nat),i<acc.length->(AJ acc l).getD i 0=acc.getD i 0
 | [],acc,i,h=>rfl
 | o :: l,acc,i,h=>by simp only[AJ];rw[H9 l _ i (by simp;omega)];simp only[Zr];rw[X2 h]
theorem H8:∀ (l:List Oper) (acc:List Nat) (i j:Nat) (o:Oper),l[i]?=some o->((AJ acc l).getD (acc.length+i) 0).testBit j=true ->
  ∃ e∈o.after.toList,B4 e=true/\(e.on=j\/((AJ acc l).getD e.on 0).testBit j=true)
 | [],acc,i,j,o,h,_=>by simp at h
 | p :: l,acc,0,j,o,h,ht=>by
  simp at h;subst h;simp only[AJ,YX] at ht ⊢;rw[H9 l _ _ (by simp)] at ht;simp only[Zr,List.getElem?_concat_length,Y4] at ht;obtain ⟨e,h1,h2,h3⟩:=Hy ht;refine ⟨e,h1,h2,h3.imp id λh3=>?_⟩;have hlt:e.on<acc.length:=by apply Zf;intro hle;simp[Zr,YM hle] at h3
  rw[H9 l _ _ (by simp;omega)];simp only[Zr] at h3 ⊢;rw[X2 hlt];exact h3
 | p :: l,acc,i+1,j,o,h,ht=>by simp only[AJ] at ht ⊢;have:=H8 l (acc ++ [GB acc p.after.toList]) i j o (by simpa using h) (by rw[<- ht];congr 2;simp;omega);exact this
end Go.Proofs.YtmdgiekbejjjgaaGreat.T
namespace Go.Proofs.YtmdgiekbejjjgaaGreat.T
open Go
def Sc (all:List Oper) (s:List (Nat×V)) (g:Option (Nat×Bool)):Option Bool:=Fl all s g (some true) (some false)
theorem R8 {R:Type}{all:List Oper}{s:List (Nat×V)}{g:Option (Nat×Bool)}{run skip:Option R}{r:R} (h:Fl all s g run skip=some r):(Sc all s g=some true/\run=some r)\/(Sc all s g=some false/\skip=some r):=by
 unfold Sc;unfold Fl at h ⊢;split at h
 ·exact .inl ⟨rfl,h⟩
 ·split at h
  ·cases h
  ·split at h
   ·cases h
   ·split at h
    ·rename_i b _
     split at h<;>rcases Ht h with ⟨rfl,h⟩ | ⟨rfl,h⟩<;>simp_all [br]
    ·simp_all
    ·cases h
def Hz (X:Ctx) (lo:Nat) (all:List Oper) (calm al:Nat->Bool) (j:Nat) (o:Oper) (σ σ':St):Prop :=
 (C5 al j o=none/\Sc all σ.s o.guard=some true/\∃ v σ1,Aw X (if calm j then σ.h.length else lo) o.dst o.type o.op σ=some (v,σ1)/\σ'=putS σ1 o.dst v) \/
 (C5 al j o=none/\Sc all σ.s o.guard=some false/\σ'=putS σ o.dst (.tup [])) \/
 (∃ t e,C5 al j o=some (t,e)/\σ'=putS σ o.dst (.lp t 0))
theorem D2 {al:Nat->Bool}{j:Nat}{o:Oper}{t e:Nat} (h:C5 al j o=some (t,e)):al j=true/\o.op = .alloc e/\o.dst=some t/\Gn o=some (t,e):=by
 unfold C5 at h;split at h
 ·exact ⟨‹_›,(Hj h).1,(Hj h).2,h⟩
 ·cases h
theorem Sv {al:Nat->Bool}{j:Nat}{o:Oper}{a:Nat} (h:Cm o=some a):C5 al j o=none:=by
 unfold C5;split
 ·unfold Gn;unfold Cm at h;split at h
  ·rename_i ho;rw[ho]
  ·cases h
 ·rfl
def Ib (X:Ctx) (calm:Nat->Bool) (ck:Nat->List Oper) (j:Nat) (σ σ':St):Prop:=calm j=false->∀ p∈ck j,Keeps X σ σ' p
theorem Keeps.put {X:Ctx}{σ σ':St}{p:Oper}{d:Option Nat}{v:V} (h:Keeps X σ σ' p):Keeps X σ (putS σ' d v) p:=by cases d<;>exact h
theorem Keeps.same {X:Ctx}{σ:St}{p:Oper}{d:Option Nat}{v:V}:Keeps X σ (putS σ d v) p:=Keeps.put ⟨λt x _=>⟨λu j row _ h=>h,λb i j _=>rfl⟩,λt e _ row h=>h⟩
theorem Ra {X:Ctx}{lo:Nat}{all:List Oper}{calm al:Nat->Bool}{ck:Nat->List Oper}{R:Type}{k:St->Option R}{r:R}:∀ (rest:List Oper) (i:Nat) (σ:St),all.drop i=rest->opsT X lo all calm ck al i rest σ k=some r ->
  ∃ S:Nat->St,S i=σ/\k (S (i+rest.length))=some r/\∀ j o,i<=j->all[j]?=some o->Hz X lo all calm al j o (S j) (S (j+1))/\Ib X calm ck j (S j) (S (j+1))
 | [],i,σ,hr,hk=>⟨λ_=>σ,rfl,hk,λj o hj ho=>by
   have:all.length<=i:=List.drop_eq_nil_iff.1 hr;have:=(XY.1 ho).1;omega⟩
 | o :: rest,i,σ,hr,hk=>by
  obtain ⟨hi,hr'⟩:=List.drop_cons' hr;simp only[opsT] at hk;have main:∀ σ',opsT X lo all calm ck al (i+1) rest σ' k=some r->Hz X lo all calm al i o σ σ'->Ib X calm ck i σ σ'->∃ S:Nat->St,S i=σ/\k (S (i+(o :: rest).length))=some r/\∀ j o,i<=j->all[j]?=some o->Hz X lo all calm al j o (S j) (S (j+1))/\Ib X calm ck j (S j) (S (j+1)):=by
   intro σ' hk' hst hkp;obtain ⟨S,h1,h2,h3⟩:=Ra rest (i+1) σ' hr' hk';refine ⟨λj=>if j<=i then σ else S j,by simp,?_,λj o' hj ho=>?_⟩
   ·show k (if i+(o :: rest).length<=i then σ else S (i+(o :: rest).length))=some r;rw[if_neg (by simp),YP,show i+(rest.length+1)=i+1+rest.length by omega];exact h2
   ·by_cases e:j=i
    ·subst e;rw[hi] at ho;injection ho with ho;subst ho;show Hz X lo all calm al j o (if j<=j then σ else S j) (if j+1<=j then σ else S (j+1))/\Ib X calm ck j (if j<=j then σ else S j) (if j+1<=j then σ else S (j+1));rw[if_pos (X1 _),if_neg (by omega),h1];exact ⟨hst,hkp⟩
    ·show Hz X lo all calm al j o' (if j<=i then σ else S j) (if j+1<=i then σ else S (j+1))/\Ib X calm ck j (if j<=i then σ else S j) (if j+1<=i then σ else S (j+1));rw[if_neg (by omega),if_neg (by omega)];exact h3 j o' (by omega) ho
  cases hbx:C5 al i o with
  | some q =>obtain ⟨t,e⟩:=q;rw[hbx] at hk;exact main _ hk (.inr (.inr ⟨t,e,hbx,rfl⟩)) (λ_ p hp=>Keeps.same)
  | none =>
  rw[hbx] at hk;simp only at hk;rcases R8 hk with ⟨hg,hk1⟩ | ⟨hg,hk1⟩
  ·cases hc:calm i with
   | true =>rw[hc] at hk1;obtain ⟨v,σ1,h1,h2⟩:=Qu hk1;exact main _ h2 (.inl ⟨hbx,hg,v,σ1,by rw[hc];exact h1,rfl⟩) (λhcf=>by rw[hc] at hcf;cases hcf)
   | false =>rw[hc] at hk1;obtain ⟨v,σ1,h1,h2⟩:=Qu hk1;obtain ⟨h3,h4⟩:=N8 (s:=σ.s) (bx:=σ.bx) (h:=σ.h) h1 h2;exact main _ h3 (.inl ⟨hbx,hg,v,σ1,by rw[hc];exact h1,rfl⟩) (λ_ p hp=>(h4 p hp).put)
  ·exact main _ hk1 (.inr (.inl ⟨hbx,hg,rfl⟩)) (λ_ p hp=>Keeps.same)
section
variable {all:List Oper}{cl:Nat->Bool}
theorem Hk {i:Nat}{o:Oper} (h:all[i]?=some o):(o,i)∈all.zipIdx:=YU.2 h
theorem XS {a b:Nat} (h:a≠b):Nat.beq a b=false:=by
 cases hb:Nat.beq a b with
 | false=>rfl
 | true=>exact absurd (X5 hb) h
theorem IP {a n:Nat} (h:HI all a n=true) {j:Nat}{q:Oper} (hj:n<=j) (hq:all[j]?=some q):q.dst≠some a:=λhd=>by
 have h2:=Ya.1 h (q,j) (Hk hq);have hb:Nat.blt j n=false:=by
  cases hb:Nat.blt j n with
  | false=>rfl
  | true =>
       have:j<n:=by simpa [Zm] using hb
       omega
 have ha:Nat.beq a a=true:=by simp
 simp only[hb,Y3,hd,Option.toList_some,List.any_cons,List.any_nil,Bool.or_false,ha,Y1] at h2;cases h2
structure Graph (all:List Oper) (cl:Nat->Bool):Prop where
 wr:∀ (i:Nat) (o:Oper),all[i]?=some o->DU o=true->FY (AJ [] all) all cl i=true
 edge:∀ (i:Nat) (o:Oper),all[i]?=some o->∀ e∈o.after.toList,B4 e=true->e.on<i
 stat:∀ (i:Nat) (o:Oper),all[i]?=some o->cl i=true->C5 cl i o=none->∃ t a,o.op = .load t (.tmp a)/\HI all a i=true/\∀ (n:Nat) (p:Oper),all[n]?=some p->ER p=true->Fo (AJ [] all) n i=true\/HI all a n=true
 box:∀ (i:Nat) (o:Oper) (t e:Nat),all[i]?=some o->C5 cl i o=some (t,e)->(AJ [] all).getD i 0=0/\o.guard=none
 guard:∀ (i:Nat) (o:Oper) (j:Nat) (b:Bool),all[i]?=some o->o.guard=some (j,b)->((AJ [] all).getD i 0).testBit j=true
 pair:∀ (i j:Nat) (p q:Oper),all[i]?=some p->all[j]?=some q->i<j->Fo (AJ [] all) i j=true\/(Vz p.dst.toList (CH all q)=true/\Vz q.dst.toList (CH all p)=true)
theorem U8 (h:Pl (AJ [] all) all cl=true):Graph all cl:=by
 unfold Pl at h;have hp:∀ (i:Nat) (o:Oper),all[i]?=some o->_:=λi o ho=>Ya.1 h (o,i) (Hk ho);simp only[X7] at hp;refine ⟨λi o ho hw=>?_,λi o ho e he hbi=>?_,λi o ho hc hbn=>?_,λi o t e ho hbx=>?_,λi o j b ho hg=>?_,λi j p q hpi hqj hij=>?_⟩
 ·have:=(hp i o ho).1.1.1.2;rw[hw] at this;simpa using this
 ·have:=Ya.1 (hp i o ho).1.1.2 e he;simpa [Zm,hbi] using this
 ·have:=(hp i o ho).1.1.1.1;rw[hc] at this;simp only[Y1,Y3] at this;unfold Sq at this;cases hl:Cm o with
  | none =>
   rw[hl] at this;have hm:Gn o=none:=by unfold C5 at hbn;rw[hc] at hbn;exact hbn
   rw[hm] at this;cases this
  | some a =>
   rw[hl] at this;have hop:∃ t,o.op = .load t (.tmp a):=by
    unfold Cm at hl;split at hl
    ·rename_i t a' ho';injection hl with hl;subst hl;exact ⟨t,ho'⟩
    ·cases hl
   obtain ⟨t,hop⟩:=hop;rw[X7] at this;refine ⟨t,a,hop,this.1,λn p hp hs=>?_⟩;have h3:=Ya.1 this.2 (p,n) (Hk hp);simpa only [hs,Y1,Y3,YB] using h3
 ·have:=(hp i o ho).1.1.1.1;obtain ⟨hc,hop,hdst,hm⟩:=D2 hbx;rw[hc] at this;simp only[Y1,Y3] at this;unfold Sq at this;have hl:Cm o=none:=by unfold Cm;rw[hop]
  rw[hl,hm] at this;simp only[X7,Option.isNone_iff_eq_none] at this;exact ⟨X5 this.1,this.2⟩
 ·have:=(hp i o ho).1.2;rw[hg] at this;exact this
 ·have:=Ya.1 (hp i p hpi).2 (q,j) (Hk hqj);have hb:Nat.blt i j=true:=by simpa [Zm] using hij
  simp only[hb,Y1,Y3,YB,X7] at this;exact this
theorem Om {i j:Nat}{q:Oper} (h:FY (AJ [] all) all cl i=true) (hq:all[j]?=some q) (hne:j≠i) (hi:C2 q=false) (hc:cl j=false):Fo (AJ [] all) i j=true:=by have:=Ya.1 h (q,j) (Hk hq);simp only[XS hne,hi,hc,Y3,Bool.or_false] at this;exact this
theorem My {M:List Nat}{j a:Nat}{q:Oper} (ha:Cm q=some a) (hs:HI all a j=true):∀ {l:List Oper}{i:Nat}{k:Nat},l[k]?=some q->cl (i+k)=true->Fo M j (i+k)=false->q∈D1 M all cl j i l
 | [],i,k,h,_,_=>by simp at h
 | p :: l,i,k,h,hc,hm=>by
  cases k with
  | zero =>simp at h;subst h;rw[YX] at hc hm;simp[D1,hc,hm,ha,hs]
  | succ k =>
   have ih:q∈D1 M all cl j (i+1) l:=My ha hs (k:=k) (by simpa using h) (by rw[<- hc];congr 1;omega) (by rw[<- hm];congr 1;omega);simp only[D1];split
   ·exact ih
   ·split
    ·exact ih
    ·split
     ·split
      ·exact YF _ ih
      ·exact ih
     ·split
      ·exact ih
      ·exact YF _ ih
theorem OE {M:List Nat}{j t e:Nat}{q:Oper} (ha:Gn q=some (t,e)):∀ {l:List Oper}{i:Nat}{k:Nat},l[k]?=some q->cl (i+k)=true->Fo M j (i+k)=false->q∈D1 M all cl j i l
 | [],i,k,h,_,_=>by simp at h
 | p :: l,i,k,h,hc,hm=>by
  cases k with
  | zero =>
   simp at h;subst h;rw[YX] at hc hm;have hl:Cm p=none:=by unfold Cm;rw[(Hj ha).1]
   simp[D1,hc,hm,ha,hl]
  | succ k =>
   have ih:q∈D1 M all cl j (i+1) l:=OE ha (k:=k) (by simpa using h) (by rw[<- hc];congr 1;omega) (by rw[<- hm];congr 1;omega);simp only[D1];split
   ·exact ih
   ·split
    ·exact ih
    ·split
     ·split
      ·exact YF _ ih
      ·exact ih
     ·split
      ·exact ih
      ·exact YF _ ih
theorem Xg {M:List Nat}{j k t e:Nat}{o q:Oper} (ho:all[j]?=some o) (hi:C2 o=false) (hj:cl j=false) (hq:all[k]?=some q) (hc:cl k=true) (hm:Fo M j k=false) (ha:Gn q=some (t,e)):q∈Pt M all cl j:=by unfold Pt;rw[ho];simp only[hi,hj];exact OE ha (i:=0) hq (by rw[Yw];exact hc) (by rw[Yw];exact hm)
theorem WG {M:List Nat}{j k a:Nat}{o q:Oper} (ho:all[j]?=some o) (hi:C2 o=false) (hj:cl j=false) (hq:all[k]?=some q) (hc:cl k=true) (hm:Fo M j k=false) (ha:Cm q=some a) (hs:HI all a j=true):q∈Pt M all cl j:=by unfold Pt;rw[ho];simp only[hi,hj];exact My ha hs (i:=0) hq (by rw[Yw];exact hc) (by rw[Yw];exact hm)
theorem Sg {M:List Nat}{i a n:Nat}{p:Oper} (h:S5 M all cl i a=true) (hp:all[n]?=some p) (hi:C2 p=false) (hc:cl n=false) (hm:Fo M n i=false) (hf:FY M all cl n=true):HI all a n=true:=by have h3:=Ya.1 h (p,n) (Hk hp);simpa only [hi,hc,hm,hf,Y3,Y1,Bool.or_false] using h3
theorem HX {a b:List Nat}{t:Nat} (h:Vz a b=true) (ha:t∈a) (hb:t∈b):False:=by have:=Ya.1 h t ha;simp only[YR,List.any_eq_false] at this;exact this t hb (by simp)
variable (hG:Graph all cl)
include hG
theorem PA:∀ (i:Nat) (o:Oper) (j:Nat),all[i]?=some o->((AJ [] all).getD i 0).testBit j=true->j<i:=by
 intro i;induction i using Nat.strongRecOn with
 | _ i ih =>
  intro o j ho hb;obtain ⟨e,h1,h2,h3⟩:=H8 all [] i j o ho (by simpa using hb);have hlt:=hG.edge i o ho e h1 h2;rcases h3 with h3 | h3
  ·omega
  ·have hlen:i<all.length:=(XY.1 ho).1;have:=ih e.on hlt _ j (Yc (by omega)) h3;omega
theorem Hx {L:Nat->Prop} (hcl:∀ (i:Nat) (o:Oper),all[i]?=some o->L i->∀ e∈o.after.toList,B4 e=true->L e.on) :
  ∀ (i:Nat) (o:Oper) (j:Nat),all[i]?=some o->(∀ e∈o.after.toList,B4 e=true->L e.on)->((AJ [] all).getD i 0).testBit j=true->L j:=by
 intro i;induction i using Nat.strongRecOn with
 | _ i ih =>
  intro o j ho hready hb;obtain ⟨e,h1,h2,h3⟩:=H8 all [] i j o ho (by simpa using hb);have hlt:=hG.edge i o ho e h1 h2;have hL:=hready e h1 h2;rcases h3 with h3 | h3
  ·exact h3 ▸ hL
  ·have hlen:i<all.length:=(XY.1 ho).1;have ho':all[e.on]?=some all[e.on]:=Yc (by omega);exact ih e.on hlt _ j ho' (hcl _ _ ho' hL) h3
theorem Hr {L:Nat->Prop} (hcl:∀ (i:Nat) (o:Oper),all[i]?=some o->L i->∀ e∈o.after.toList,B4 e=true->L e.on) {i j:Nat}{o q:Oper} (ho:all[i]?=some o) (hq:all[j]?=some q)
  (hready:∀ e∈o.after.toList,B4 e=true->L e.on) (hn:¬ L i) (hne:j≠i) (hc:Fo (AJ [] all) i j=true\/Fo (AJ [] all) j i=true):L j<->j<i:=by
 have hc':((AJ [] all).getD i 0).testBit j=true\/((AJ [] all).getD j 0).testBit i=true:=by unfold Fo at hc;rcases hc with hc | hc<;>split at hc<;>simp_all
 rcases hc' with h | h
 ·have:=PA hG i o j ho h;exact ⟨λ_=>this,λ_=>Hx hG hcl i o j ho hready h⟩
 ·have:=PA hG j q i hq h;exact ⟨λhL=>absurd (Hx hG hcl j q i hq (hcl j q hq hL) h) hn,λh=>by omega⟩
def Wr (all:List Oper) (j t:Nat):Prop:=∃ q,all[j]?=some q/\q.dst=some t
omit hG in
theorem I6 (hG:Graph all cl) {L:Nat->Prop} (hcl:∀ (i:Nat) (o:Oper),all[i]?=some o->L i->∀ e∈o.after.toList,B4 e=true->L e.on) {i:Nat}{o:Oper} (ho:all[i]?=some o)
  (hready:∀ e∈o.after.toList,B4 e=true->L e.on) (hn:¬ L i) {t:Nat} (ht:t∈CH all o) {j:Nat} (hw:Wr all j t):L j<->j<i:=by
 obtain ⟨q,hq,hd⟩:=hw;by_cases hne:j=i
 ·subst hne;exact ⟨λh=>absurd h hn,λh=>by omega⟩
 ·refine Hr hG hcl ho hq hready hn hne ?_;rcases Nat.lt_or_ge i j with h | h
  ·rcases hG.pair i j o q ho hq h with h1 | ⟨_,h1⟩
   ·exact .inl h1
   ·exact (HX h1 (by rw[hd];simp) ht).elim
  ·rcases hG.pair j i q o hq ho (by omega) with h1 | ⟨h1,_⟩
   ·exact .inr h1
   ·exact (HX h1 (by rw[hd];simp) ht).elim
end
end Go.Proofs.YtmdgiekbejjjgaaGreat.T
namespace Go.Proofs.YtmdgiekbejjjgaaGreat.T
open Go
variable {a:Act}{w:World}{next:Act->World->Prop}{ρ:Rho}{β:Bet}
theorem WJ {P:Program}{o:Oper} (h:o.wp P a w next (λ_ _ _=>False)):∃ a' w',next a' w':=by
 unfold Oper.wp at h;generalize (execOp a.eval o).run P w=res at h;cases res with
 | ok n w' =>
  cases n<;>simp only[Oper.upon] at h<;>(try exact h.elim)
  ·exact ⟨_,_,h⟩
  ·exact ⟨_,_,h⟩
  ·obtain ⟨e,w'',fr,hr,_⟩:=h [];cases e with
   | returned v=>exact ⟨_,_,hr⟩
   | panicked c=>exact hr.elim
   | outgrown=>obtain ⟨_,_,hr⟩:=hr;exact hr.elim
  ·exact ⟨_,_,h⟩
  ·obtain ⟨v,w'',hr,_⟩:=h default [];exact ⟨_,_,hr⟩
 | halt x w'=>cases x<;>simp only[Oper.upon] at h
section
variable {P:Program}{lo base nt:Nat}{X:Ctx}
def More (ρ:Rho) (β:Bet) (σ:St) (w:World) (lo base:Nat) (ρ':Rho) (β':Bet) (σ':St) (w':World):Prop :=
 Ext lo base ρ σ.h w ρ' σ'.h w'/\Ble β β'/\(∀ t,As σ.bx t=none->(As σ'.bx t).isSome=true->∃ r,β' t=some r)
def Fu (t:Nat):List (Nat×List V)->List (Nat×List V)
 | [] => []
 | (u,v) :: r=>if u=t then Fu t r else (u,v) :: Fu t r
theorem CT {t:Nat}:∀ {bx:List (Nat×List V)}{u:Nat},As (Fu t bx) u=if u=t then none else As bx u
 | [],u=>by simp[Fu,As]
 | (x,v) :: r,u=>by
  unfold Fu;by_cases h:x=t
  ·rw[if_pos h,CT (bx:=r),AP];by_cases hu:u=t
   ·rw[if_pos hu,if_pos hu]
   ·rw[if_neg hu,if_neg hu,if_neg (λe=>hu (e.symm.trans h))]
  ·rw[if_neg h,AP,CT (bx:=r),AP];by_cases hx:x=u
   ·rw[if_pos hx,if_pos hx,if_neg (λe=>h (hx.trans e))]
   ·rw[if_neg hx,if_neg hx]
theorem FRel.sub {bx bx':List (Nat×List V)} (hf:FRel ρ β bx w) (hs:∀ t r,β t=some r->As bx' t=As bx t):FRel ρ β bx' w :=
 ⟨λt r hr=>by obtain ⟨row,cs,el,h1,h2,h3⟩:=hf.has t r hr;exact ⟨row,cs,el,by rw[hs t r hr];exact h1,h2,h3⟩,hf.lt,hf.inj,hf.off⟩
theorem LD {lo':Nat}{o:Oper}{t e:Nat}{s:List (Nat×V)}{bx:List (Nat×List V)}{h:Heap} (hop:o.op = .alloc e) (hd:o.dst=some t) (hk:((X.ty e).known&&(X.ty e).hz&&Cr (X.ty e).zero)=true) (hh:X.hb.any (Nat.beq t)=false) (hl:As bx t=none) :
  Aw X lo' o.dst o.type o.op ⟨s,bx,h⟩=some (.lp t 0,⟨s,(t,(X.ty e).zero) :: bx,h⟩):=by
 unfold Aw;rw[hop,hd];simp only[opT,hk,hh,hl]
def Tk (X:Ctx) (cl:Nat->Bool) (j:Nat) (o:Oper) (β:Bet) (bx:List (Nat×List V)):Prop:=∀ t e,C5 cl j o=some (t,e)->((X.ty e).known&&(X.ty e).hz&&Cr (X.ty e).zero)=true/\X.hb.any (Nat.beq t)=false/\β t=none/\As bx t=some (X.ty e).zero
theorem JV (hX:X.ty=Au P) (hE:∀ t,X.cmp t=true->EqOk P t) (hC:SC P X.call) {all:List Oper}{calm al:Nat->Bool}{j:Nat}{o:Oper}{σ σ':St} (hs:Hz X lo all calm al j o σ σ') (hbox:Tk X al j o β σ.bx) (hd:∀ t,o.dst=some t->t<nt)
  (ho:Ok lo base nt ρ β σ a w):(∃ ρ' β' a' w',Ok lo base nt ρ' β' σ' a' w'/\More ρ β σ w lo base ρ' β' σ' w'/\∀ t r,β t=none->β' t=some r->As σ.bx t=none\/∃ e,C5 al j o=some (t,e))/\σ.h.length<=σ'.h.length/\(calm j=true->∀ b,b<σ.h.length->σ'.h[b]?=σ.h[b]?):=by
 rcases hs with ⟨_,_,v,σ1,h1,rfl⟩ | ⟨_,_,rfl⟩ | ⟨tb,eb,hbx,rfl⟩
 ·have hh:(putS σ1 o.dst v).h=σ1.h:=by cases o.dst<;>rfl
  have hb:(putS σ1 o.dst v).bx=σ1.bx:=by cases o.dst<;>rfl
  rw[hh];have hlo2:lo<=(if calm j=true then σ.h.length else lo):=by split;exact ho.hlo;exact X1 _
  have hwp:o.wp P a w (λa' w'=>(∃ ρ' β',Ok lo base nt ρ' β' (putS σ1 o.dst v) a' w'/\More ρ β σ w lo base ρ' β' (putS σ1 o.dst v) w'/\∀ t r,β t=none->β' t=some r->As σ.bx t=none\/∃ e,C5 al j o=some (t,e))/\σ.h.length<=σ1.h.length/\(calm j=true->∀ b,b<σ.h.length->σ1.h[b]?=σ.h[b]?)) (λ_ _ _=>False):=by
   refine FN (lo:=if calm j=true then σ.h.length else lo) (base:=base) (K:=λv σ=>some (v,σ)) (r:=(v,σ1)) hX hE hC h1 ho.s ho.h ho.f ho.hB (by split;exact X1 _;exact ho.hlo) (λ_=>ho.own) ?_;intro v' σ'' c w' hk hf;injection hk with hk;injection hk with e1 e2;subst e1;subst e2;obtain ⟨ρ',β',f1,f2,f3,f4,f5,f6,f7,f8⟩:=hf;have hok:Ok lo base nt ρ' β' (putS σ'' o.dst v') (a.put o.dst c) w':=by
    refine ⟨?_,?_,?_,?_,XX ho.hB f5.size,?_,?_,?_⟩
    ·refine SRel.put ?_ f2 (λt ht=>by rw[ho.nt];exact hd t ht);rw[f1];exact ho.s.mono f5.rle f6
    ·rw[hh];exact f3
    ·rw[hb];exact f4
    ·intro t r hr;cases hb:β t with
     | some r0 =>have:=f6 t r0 hb;rw[hr] at this;injection this with this;subst this;exact ho.own t _ hb
     | none=>exact XX ho.hB (f7 t r hb hr).1
    ·rw[hh];exact XX ho.hlo f5.len
    ·cases o.dst<;>simp[Act.put,ho.nt]
    ·cases o.dst<;>simp[Act.put,ho.df]
   refine ⟨⟨ρ',β',hok,⟨?_,f6,?_⟩,λt r g1 g2 => .inl (f7 t r g1 g2).2⟩,f5.len,λhc b hb=>f5.pres b ?_ hb⟩
   ·rw[hh];exact f5.weaken hlo2 (X1 _)
   ·rw[hb];exact f8
   ·rw[if_pos hc];exact hb
  obtain ⟨a',w',⟨ρ',β',h2,h5⟩,h3,h4⟩:=WJ hwp;exact ⟨⟨ρ',β',a',w',h2,h5⟩,h3,h4⟩
 ·have hh:(putS σ o.dst (.tup [])).h=σ.h:=by cases o.dst<;>rfl
  have hb:(putS σ o.dst (.tup [])).bx=σ.bx:=by cases o.dst<;>rfl
  rw[hh];refine ⟨⟨ρ,β,_,w,ho.skip hd,⟨?_,Ble.refl _,?_⟩,λt r g1 g2=>by rw[g1] at g2;cases g2⟩,X1 _,λ_ _ _=>rfl⟩
  ·rw[hh];exact Ext.refl _ _ _ _ _
  ·rw[hb];exact JZ
 ·obtain ⟨_,hop,hdst,_⟩:=D2 hbx;obtain ⟨k1,k2,k3,k4⟩:=hbox tb eb hbx;have hh:(putS σ o.dst (.lp tb 0)).h=σ.h:=by cases o.dst<;>rfl
  have hb:(putS σ o.dst (.lp tb 0)).bx=σ.bx:=by cases o.dst<;>rfl
  rw[hh];have h1:=LD (lo':=lo) (s:=σ.s) (h:=σ.h) (bx:=Fu tb σ.bx) hop hdst k1 k2 (by rw[CT,if_pos rfl]);unfold Aw at h1;have hf0:FRel ρ β (Fu tb σ.bx) w:=ho.f.sub λt r hr=>by rw[CT,if_neg (λe=>by rw[e,k3] at hr;cases hr)]
  have hwp:o.wp P a w (λa' w'=>∃ ρ' β',Ok lo base nt ρ' β' (putS σ o.dst (.lp tb 0)) a' w'/\More ρ β σ w lo base ρ' β' (putS σ o.dst (.lp tb 0)) w'/\∀ t r,β t=none->β' t=some r->As σ.bx t=none\/∃ e,C5 al j o=some (t,e)) (λ_ _ _=>False):=by
   refine FN (lo:=lo) (base:=base) (σ:=⟨σ.s,Fu tb σ.bx,σ.h⟩) (K:=λv σ=>some (v,σ)) (r:=(.lp tb 0,_)) hX hE hC h1 ho.s ho.h hf0 ho.hB ho.hlo (λ_=>ho.own) ?_;intro v' σ'' c w' hk hf;injection hk with hk;injection hk with e1 e2;subst e1;subst e2;obtain ⟨ρ',β',f1,f2,f3,f4,f5,f6,f7,f8⟩:=hf;have hok:Ok lo base nt ρ' β' (putS σ o.dst (.lp tb 0)) (a.put o.dst c) w':=by
    refine ⟨?_,?_,?_,?_,XX ho.hB f5.size,?_,?_,?_⟩
    ·refine SRel.put ?_ f2 (λt ht=>by rw[ho.nt];exact hd t ht);exact ho.s.mono f5.rle f6
    ·rw[hh];exact f3
    ·rw[hb];refine f4.sub λt r hr=>?_;show As σ.bx t=As ((tb,(X.ty eb).zero) :: Fu tb σ.bx) t;rw[AP,CT];by_cases e:tb=t
     ·rw[if_pos e,<- e];exact k4
     ·rw[if_neg e,if_neg (λe'=>e e'.symm)]
    ·intro t r hr;cases hb:β t with
     | some r0 =>have:=f6 t r0 hb;rw[hr] at this;injection this with this;subst this;exact ho.own t _ hb
     | none=>exact XX ho.hB (f7 t r hb hr).1
    ·rw[hh];exact ho.hlo
    ·cases o.dst<;>simp[Act.put,ho.nt]
    ·cases o.dst<;>simp[Act.put,ho.df]
   refine ⟨ρ',β',hok,⟨?_,f6,?_⟩,λt r g1 g2=>?_⟩
   ·rw[hh];exact f5.weaken (X1 _) (X1 _)
   ·rw[hb];exact JZ
   ·have h7:As (Fu tb σ.bx) t=none:=(f7 t r g1 g2).2;rw[CT] at h7;by_cases e:t=tb
    ·exact .inr ⟨eb,by rw[e];exact hbx⟩
    ·rw[if_neg e] at h7;exact .inl h7
  obtain ⟨a',w',ρ',β',h2,h5⟩:=WJ hwp;exact ⟨⟨ρ',β',a',w',h2,h5⟩,X1 _,λ_ _ _=>rfl⟩
theorem More.trans {ρ ρ' ρ'':Rho}{β β' β'':Bet}{σ σ' σ'':St}{w w' w'':World} (a:More ρ β σ w lo base ρ' β' σ' w') (b:More ρ' β' σ' w' lo base ρ'' β'' σ'' w''):More ρ β σ w lo base ρ'' β'' σ'' w'':=by
 refine ⟨a.1.trans b.1,a.2.1.trans b.2.1,λt h1 h2=>?_⟩;cases h:As σ'.bx t with
 | none=>exact b.2.2 t h h2
 | some row =>obtain ⟨r,hr⟩:=a.2.2 t h1 (by rw[h];rfl);exact ⟨r,b.2.1 t r hr⟩
def IN (all:List Oper) (cl:Nat->Bool) (j:Nat):Prop:=FY (AJ [] all) all cl j=true/\(∃ o,all[j]?=some o/\C2 o=false)/\cl j=false
def GW (all:List Oper) (cl:Nat->Bool) (i:Nat):Bool := !FY (AJ [] all) all cl i
structure Env (P:Program) (X:Ctx) (lo base nt:Nat) (ρ0:Rho) (β0:Bet) (w0:World) (all:List Oper) (cl:Nat->Bool) (S:Nat->St):Prop where
 nar:X.wide=false
 G:Graph all cl
 step:∀ (j:Nat) (o:Oper),all[j]?=some o->Hz X lo all (GW all cl) cl j o (S j) (S (j+1))
 box:∀ (j:Nat) (o:Oper),all[j]?=some o->Tk X cl j o β0 (S 0).bx
 dst:∀ (j:Nat) (o:Oper),all[j]?=some o->∀ t,o.dst=some t->t<nt
 ok:∀ j,j<=all.length->∃ ρ β a w,Ok lo base nt ρ β (S j) a w/\More ρ0 β0 (S 0) w0 lo base ρ β (S j) w
 len:∀ j,j<all.length->(S j).h.length<=(S (j+1)).h.length
 same:∀ j,j<all.length->¬ IN all cl j->∀ b,b<(S j).h.length->(S (j+1)).h[b]?=(S j).h[b]?
 keep:∀ j,j<all.length->Ib X (GW all cl) (Pt (AJ [] all) all cl) j (S j) (S (j+1))
theorem Rb {all:List Oper}{cl:Nat->Bool}{S:Nat->St} (hG:Graph all cl) (hst:∀ (j:Nat) (o:Oper),all[j]?=some o->Hz X lo all (GW all cl) cl j o (S j) (S (j+1)))
  (hkp:∀ (j:Nat) (o:Oper),all[j]?=some o->Ib X (GW all cl) (Pt (AJ [] all) all cl) j (S j) (S (j+1))) {i:Nat}{o:Oper}{t e:Nat} (ho:all[i]?=some o) (hb:C5 cl i o=some (t,e)) {j:Nat} (hj:j<all.length)
  (hc:IN all cl j->Fo (AJ [] all) j i=false) {row:List V} (hr:As (S j).bx t=some row):As (S (j+1)).bx t=some row:=by
 have hg:all[j]?=some all[j]:=Yc hj;have pb:∀ (σ:St) (d:Option Nat) (v:V),(putS σ d v).bx=σ.bx:=λσ d v=>by cases d<;>rfl
 rcases hst j _ hg with ⟨hbn,_,v,σ1,h1,h2⟩ | ⟨_,_,h2⟩ | ⟨_,_,_,h2⟩
 ·cases hso:ER all[j] with
  | false =>rw[h2,pb];refine GD (s:=(S j).s) (bx:=(S j).bx) (h:=(S j).h) h1 (λt' x y he=>?_) hr;unfold ER at hso;rw[he] at hso;cases hso
  | true =>
   have hop:∃ u x y,all[j].op = .store u x y:=by
    unfold ER at hso;split at hso
    ·rename_i he;exact ⟨_,_,_,he⟩
    ·cases hso
   obtain ⟨u,x,y,hop⟩:=hop;have hw:DU all[j]=true:=by unfold DU;rw[hop]
   have hf:=hG.wr j _ hg hw;have hi:C2 all[j]=false:=by unfold C2;rw[hop]
   have hcj:cl j=false:=by
    cases hcj:cl j with
    | false=>rfl
    | true =>obtain ⟨t',a',hop',_⟩:=hG.stat j _ hg hcj hbn;rw[hop'] at hop;cases hop
   obtain ⟨hci,_,_,hm⟩:=D2 hb;exact (hkp j _ hg (by unfold GW;rw[hf];rfl) o (Xg hg hi hcj ho hci (hc ⟨hf,⟨_,hg,hi⟩,hcj⟩) hm)).2 t e hm row hr
 ·rw[h2,pb];exact hr
 ·rw[h2,pb];exact hr
theorem Iu {all:List Oper}{cl:Nat->Bool} (hG:Graph all cl) {i j:Nat}{o p:Oper}{t e:Nat} (ho:all[i]?=some o) (hb:C5 cl i o=some (t,e)) (hp:all[j]?=some p) (hji:j<=i):Fo (AJ [] all) j i=false:=by
 cases hc:Fo (AJ [] all) j i with
 | false=>rfl
 | true =>
  exfalso;unfold Fo at hc;split at hc
  ·rename_i h
   have:=PA hG j p i hp h;omega
  ·rw[(hG.box i o t e ho hb).1] at hc;simp at hc
theorem Xb (hw:X.wide=false) (hX:X.ty=Au P) (hE:∀ t,X.cmp t=true->EqOk P t) (hC:SC P X.call) {all:List Oper}{cl:Nat->Bool}{S:Nat->St} (hG:Graph all cl) (hst:∀ (j:Nat) (o:Oper),all[j]?=some o->Hz X lo all (GW all cl) cl j o (S j) (S (j+1)))
  (hkp:∀ (j:Nat) (o:Oper),all[j]?=some o->Ib X (GW all cl) (Pt (AJ [] all) all cl) j (S j) (S (j+1))) (hd:∀ (j:Nat) (o:Oper),all[j]?=some o->∀ t,o.dst=some t->t<nt) (ho:Ok lo base nt ρ β (S 0) a w) (hbox:∀ (j:Nat) (o:Oper),all[j]?=some o->Tk X cl j o β (S 0).bx):Env P X lo base nt ρ β w all cl S:=by
 have ok:∀ j,j<=all.length->∃ ρ' β' a' w',Ok lo base nt ρ' β' (S j) a' w'/\More ρ β (S 0) w lo base ρ' β' (S j) w'/\∀ i o,j<=i->all[i]?=some o->Tk X cl i o β' (S j).bx:=by
  intro j;induction j with
  | zero=>intro _;exact ⟨ρ,β,a,w,ho,⟨Ext.refl _ _ _ _ _,Ble.refl _,JZ⟩,λi o _ hi=>hbox i o hi⟩
  | succ j ih =>
   intro hj;obtain ⟨ρ1,β1,a1,w1,ho1,hm1,hbx1⟩:=ih (by omega);have hg:all[j]?=some all[j]:=Yc (by omega);obtain ⟨ρ2,β2,a2,w2,ho2,hm2,hn2⟩:=(JV hX hE hC (hst j _ hg) (hbx1 j _ (X1 _) hg) (hd j _ hg) ho1).1;refine ⟨ρ2,β2,a2,w2,ho2,hm1.trans hm2,λi o hji ho t e hb=>?_⟩;obtain ⟨k1,k2,k3,k4⟩:=hbx1 i o (by omega) ho t e hb;have hcm:=Iu hG ho hb hg (by omega);refine ⟨k1,k2,?_,Rb hG hst hkp ho hb (by omega) (λ_=>hcm) k4⟩;cases h2:β2 t with
   | none=>rfl
   | some r =>
    exfalso;rcases hn2 t r k3 h2 with g | ⟨e',g⟩
    ·rw[k4] at g;cases g
    ·rcases hG.pair j i _ o hg ho (by omega) with g1 | ⟨g1,_⟩
     ·rw[hcm] at g1;cases g1
     ·exact HX (t:=t) g1 (by rw[(D2 g).2.2.1];simp) (by unfold CH;rw[(D2 hb).2.2.1];simp)
 have ok2:∀ j,j<=all.length->∃ ρ' β' a' w',Ok lo base nt ρ' β' (S j) a' w'/\More ρ β (S 0) w lo base ρ' β' (S j) w':=λj hj=>by obtain ⟨ρ',β',a',w',h1,h2,_⟩:=ok j hj;exact ⟨ρ',β',a',w',h1,h2⟩
 refine ⟨hw,hG,hst,hbox,hd,ok2,λj hj=>?_,λj hj hb b hbl=>?_,λj hj=>hkp j _ (Yc hj)⟩
 ·obtain ⟨ρ,β,a,w,ho,_,hbx⟩:=ok j (by omega);have hg:all[j]?=some all[j]:=Yc hj;exact (JV hX hE hC (hst j _ hg) (hbx j _ (X1 _) hg) (hd j _ hg) ho).2.1
 ·obtain ⟨ρ,β,a,w,ho,_,hbx⟩:=ok j (by omega);have hg:all[j]?=some all[j]:=Yc hj;cases hf:FY (AJ [] all) all cl j with
  | false=>exact (JV hX hE hC (hst j _ hg) (hbx j _ (X1 _) hg) (hd j _ hg) ho).2.2 (by simp[GW,hf]) b hbl
  | true =>
   have hi:C2 all[j]=true\/cl j=true:=by
    cases hi:C2 all[j] with
    | true=>exact .inl rfl
    | false =>
     cases hc:cl j with
     | true=>exact .inr rfl
     | false=>exact absurd ⟨hf,⟨_,hg,hi⟩,hc⟩ hb
   rcases hst j _ hg with ⟨hbn,_,v,σ1,h1,h2⟩ | ⟨_,_,h2⟩ | ⟨_,_,_,h2⟩
   ·have:σ1.h=(S j).h:=by
     rcases hi with hi | hi
     ·exact (LC hw (s:=(S j).s) (bx:=(S j).bx) (h:=(S j).h) hi h1).2.1
     ·obtain ⟨t,a,hop,_⟩:=hG.stat j _ hg hi hbn;rw[hop] at h1;exact (NM (s:=(S j).s) (bx:=(S j).bx) (h:=(S j).h) h1).2.2
    rw[h2];have hh:(putS σ1 all[j].dst v).h=σ1.h:=by cases all[j].dst<;>rfl
    rw[hh,this]
   ·rw[h2];cases all[j].dst<;>rfl
   ·rw[h2];cases all[j].dst<;>rfl
section
variable {all:List Oper}{cl:Nat->Bool}{S:Nat->St}{ρ0:Rho}{β0:Bet}{w0:World} (hV:Env P X lo base nt ρ0 β0 w0 all cl S)
include hV
theorem Env.len_le:∀ {i j:Nat},i<=j->j<=all.length->(S i).h.length<=(S j).h.length:=by
 intro i j hij;induction j with
 | zero=>intro _;rw[show i=0 by omega];exact X1 _
 | succ j ih =>
  intro hj;by_cases e:i=j+1
  ·rw[e];exact X1 _
  ·exact XX (ih (by omega) (by omega)) (hV.len j (by omega))
theorem Env.same_le {i j:Nat} (hij:i<=j) (hj:j<=all.length) (hb:∀ k,i<=k->k<j->¬ IN all cl k) {b:Nat} (hbl:b<(S i).h.length):(S j).h[b]?=(S i).h[b]?:=by
 induction j with
 | zero=>rw[show i=0 by omega]
 | succ j ih =>
  by_cases e:i=j+1
  ·rw[e]
  ·rw[hV.same j (by omega) (hb j (by omega) (by omega)) b (Yb hbl (hV.len_le (by omega) (by omega))),ih (by omega) (by omega) λk h1 h2=>hb k h1 (by omega)]
theorem Env.slots {j:Nat}{o:Oper} (ho:all[j]?=some o):∃ v σ1,(S (j+1))=putS σ1 o.dst v/\σ1.s=(S j).s /\
  (∀ t,(As (S j).bx t).isSome=true->(As σ1.bx t).isSome=true)/\(¬ IN all cl j->∀ t row,As (S j).bx t=some row->As σ1.bx t=some row):=by
 rcases hV.step j o ho with ⟨hbn,_,v,σ1,h1,h2⟩ | ⟨_,_,h2⟩ | ⟨_,_,_,h2⟩
 ·refine ⟨v,σ1,h2,Jc (s:=(S j).s) (bx:=(S j).bx) (h:=(S j).h) h1,λt ht=>MW (s:=(S j).s) (bx:=(S j).bx) (h:=(S j).h) h1 ht,λhb t row ht=>?_⟩;refine GD (s:=(S j).s) (bx:=(S j).bx) (h:=(S j).h) h1 (λu x y he=>hb ?_) ht;have hw:DU o=true:=by unfold DU;rw[he]
  refine ⟨hV.G.wr j o ho hw,⟨o,ho,by unfold C2;rw[he]⟩,?_⟩;cases hc:cl j with
  | false=>rfl
  | true =>obtain ⟨t',a',hop,_⟩:=hV.G.stat j o ho hc hbn;rw[hop] at he;cases he
 ·exact ⟨_,S j,h2,rfl,λt ht=>ht,λ_ t row ht=>ht⟩
 ·exact ⟨_,S j,h2,rfl,λt ht=>ht,λ_ t row ht=>ht⟩
omit hV in
theorem Gm (σ:St) (d:Option Nat) (v:V):(putS σ d v).bx=σ.bx:=by cases d<;>rfl
omit hV in
theorem LS (σ:St) (d:Option Nat) (v:V):(putS σ d v).h=σ.h:=by cases d<;>rfl
theorem Env.bx_some {i j:Nat} (hij:i<=j) (hj:j<=all.length) {t:Nat} (ht:(As (S i).bx t).isSome=true):(As (S j).bx t).isSome=true:=by
 induction j with
 | zero=>rw[show 0=i by omega];exact ht
 | succ j ih =>
  by_cases e:i=j+1
  ·rw[<- e];exact ht
  ·obtain ⟨v,σ1,h1,_,h2,_⟩:=hV.slots (Yc (show j<all.length by omega));rw[h1,Gm];exact h2 t (ih (by omega) (by omega))
theorem Env.bx_same {i j:Nat} (hij:i<=j) (hj:j<=all.length) (hb:∀ k,i<=k->k<j->¬ IN all cl k) {t:Nat}{row:List V} (ht:As (S i).bx t=some row):As (S j).bx t=some row:=by
 induction j with
 | zero=>rw[show 0=i by omega];exact ht
 | succ j ih =>
  by_cases e:i=j+1
  ·rw[<- e];exact ht
  ·obtain ⟨v,σ1,h1,_,_,h2⟩:=hV.slots (Yc (show j<all.length by omega));rw[h1,Gm];exact h2 (hb j (by omega) (by omega)) t row (ih (by omega) (by omega) λk h1 h2=>hb k h1 (by omega))
theorem Env.slot_same {i p t:Nat} (hip:i<=p) (hp:p<=all.length) (hw:∀ j,i<=j->j<p->¬ Wr all j t):Cl (S p).s t=Cl (S i).s t:=by
 induction p with
 | zero=>rw[show i=0 by omega]
 | succ p ih =>
  by_cases e:i=p+1
  ·rw[e]
  ·have hg:all[p]?=some all[p]:=Yc (by omega);obtain ⟨v,σ1,h1,h2,_⟩:=hV.slots hg;rw[<- ih (by omega) (by omega) λj h1 h2=>hw j h1 (by omega),h1];have hne:all[p].dst≠some t:=λh=>hw p (by omega) (by omega) ⟨_,hg,h⟩;cases hd:all[p].dst with
   | none=>simp only[putS];rw[h2]
   | some u =>simp only[putS,EO];rw[if_neg (λh=>hne (by rw[hd,h])),h2]
end
end
end Go.Proofs.YtmdgiekbejjjgaaGreat.T
namespace Go.Proofs.YtmdgiekbejjjgaaGreat.T
open Go
def Rho.low (ρ:Rho) (n:Nat):Rho:=λb=>if b<n then ρ b else none
theorem Rho.low_some {ρ:Rho}{n b:Nat}{e:E} (h:ρ.low n b=some e):b<n/\ρ b=some e:=by
 unfold Rho.low at h;split at h
 ·exact ⟨‹_›,h⟩
 ·cases h
theorem Rho.low_of {ρ:Rho}{n b:Nat}{e:E} (hb:b<n) (h:ρ b=some e):ρ.low n b=some e:=by unfold Rho.low;rw[if_pos hb,h]
theorem Rho.low_le (ρ:Rho) (n:Nat):Rle (ρ.low n) ρ:=λb e h=>(Rho.low_some h).2
section
variable {ρ ρt:Rho}{N:Nat}
mutual
theorem VR.low (hN:∀ b e,ρt b=some e->b<N):∀ (x:V) (c ct:Value),VR ρt x ct->VR ρ x c->VR (ρ.low N) x c
 | .int _ _,_,_,_,h=>by simpa [VR] using h
 | .bool _,_,_,_,h=>by simpa [VR] using h
 | .str _,_,_,_,h=>by simpa [VR] using h
 | .nilf,_,_,_,h=>by simpa [VR] using h
 | .nili,_,_,_,h=>by simpa [VR] using h
 | .any,_,_,_,_=>by simp[VR]
 | .ptr none,_,_,_,h=>by simpa [VR] using h
 | .ptr (some (b,i,j)),_,_,ht,h=>by simp only[VR] at ht h ⊢;obtain ⟨et,hb,_⟩:=ht;obtain ⟨e,he,hv⟩:=h;exact ⟨e,Rho.low_of (hN b et hb) he,hv⟩
 | .lp _ _,_,_,_,h=>by simp[VR] at h
 | .sl _ none _ _,_,_,_,h=>by simpa [VR] using h
 | .sl _ (some (b,i)) _ _,_,_,ht,h=>by simp only[VR] at ht h ⊢;obtain ⟨et,_,_,hb,_⟩:=ht;obtain ⟨e,x,cc,he,hv⟩:=h;exact ⟨e,x,cc,Rho.low_of (hN b et hb) he,hv⟩
 | .map none,_,_,_,h=>by simpa [VR] using h
 | .map (some b),_,_,ht,h=>by simp only[VR] at ht h ⊢;obtain ⟨et,hb,_⟩:=ht;obtain ⟨e,he,hv⟩:=h;exact ⟨e,Rho.low_of (hN b et hb) he,hv⟩
 | .fn _ cs,_,_,ht,h=>by simp only[VR] at ht h ⊢;obtain ⟨_,_,yt,_,_,hct⟩:=ht;obtain ⟨fst,cps,ys,hv,hi,hc⟩:=h;exact ⟨fst,cps,ys,hv,hi,VRs.low hN cs _ _ hct hc⟩
 | .ifc _ x,_,_,ht,h=>by simp only[VR] at ht h ⊢;obtain ⟨yt,_,hct⟩:=ht;obtain ⟨y,hv,hc⟩:=h;exact ⟨y,hv,VR.low hN x _ _ hct hc⟩
 | .agg cs,_,_,ht,h=>by simp only[VR] at ht h ⊢;obtain ⟨yt,_,hct⟩:=ht;obtain ⟨ys,hv,hc⟩:=h;exact ⟨ys,hv,VRs.low hN cs _ _ hct hc⟩
 | .tup cs,_,_,ht,h=>by simp only[VR] at ht h ⊢;obtain ⟨yt,_,hct⟩:=ht;obtain ⟨ys,hv,hc⟩:=h;exact ⟨ys,hv,VRs.low hN cs _ _ hct hc⟩
theorem VRs.low (hN:∀ b e,ρt b=some e->b<N):∀ (xs:List V) (cs ct:List Value),VRs ρt xs ct->VRs ρ xs cs->VRs (ρ.low N) xs cs
 | [],_,_,_,h=>by simpa [VRs] using h
 | x :: xs,_,_,ht,h=>by simp only[VRs] at ht h ⊢;obtain ⟨yt,rt,_,h1t,h2t⟩:=ht;obtain ⟨y,r,hy,h1,h2⟩:=h;exact ⟨y,r,hy,VR.low hN x _ _ h1t h1,VRs.low hN xs _ _ h2t h2⟩
end
variable (hN:∀ b e,ρt b=some e->b<N)
include hN
theorem KVR.low:∀ (kv:List (V×V)) (es et:List MapEntry),KVR ρt kv et->KVR ρ kv es->KVR (ρ.low N) kv es
 | [],_,_,_,h=>by simpa [KVR] using h
 | (k,v) :: r,_,_,ht,h=>by simp only[KVR] at ht h ⊢;obtain ⟨yt,rt,_,h1t,h2t,h3t⟩:=ht;obtain ⟨e,t,he,h1,h2,h3⟩:=h;exact ⟨e,t,he,VR.low hN _ _ _ h1t h1,VR.low hN _ _ _ h2t h2,KVR.low r _ _ h3t h3⟩
theorem BR.low {e et:E}{w wt:World}:∀ {k:Blk},BR ρt et k wt->BR ρ e k w->BR (ρ.low N) e k w
 | .rows R el ro rs,ht,h=>by obtain ⟨ct,ft,_,_,_,_,_,_,h7t,_⟩:=ht;obtain ⟨cs,fr,h1,h2,h3,h4,h5,h6,h7,h8⟩:=h;refine ⟨cs,fr,h1,h2,h3,h4,h5,h6,λi row hi=>⟨(h7 i row hi).1,λj v hv=>?_⟩,h8⟩;obtain ⟨c,g1,g2⟩:=(h7 i row hi).2 j v hv;obtain ⟨c',_,g3⟩:=(h7t i row hi).2 j v hv;exact ⟨c,g1,VR.low hN _ _ _ g3 g2⟩
 | .map _ kv,ht,h=>by obtain ⟨_,_,_,h2t⟩:=ht;obtain ⟨es,clock,h1,h2⟩:=h;exact ⟨es,clock,h1,KVR.low hN _ _ _ h2t h2⟩
 | .dead,_,_=>trivial
end
end Go.Proofs.YtmdgiekbejjjgaaGreat.T
namespace Go.Proofs.YtmdgiekbejjjgaaGreat.T
open Go
structure Ext0 (lo base:Nat) (ρ:Rho) (n:Nat) (w:World) (ρ':Rho) (w':World):Prop where
 rle:Rle ρ ρ'
 new:∀ b e,ρ b=none->ρ' b=some e->n<=b/\(base<=e.r\/∃ b0 e0,ρ b0=some e0/\lo<=b0/\e0.r=e.r)
 frame:∀ r,r<base->(∀ b e,ρ b=some e->lo<=b->e.r≠r)->w'.heap[r]?=w.heap[r]?
 size:w.heap.size<=w'.heap.size
 os:w'.os=w.os
 tape:w'.tape=w.tape
 output:w'.output=w.output
def BxOk (all:List Oper) (cl:Nat->Bool) (S:Nat->St) (β0:Bet) (L:Nat->Prop) (t:Nat):Prop:=(∃ r0,β0 t=some r0)\/(∃ j,j<all.length/\L j/\As (S j).bx t=none/\(As (S (j+1)).bx t).isSome=true)\/(∃ j o e,L j/\all[j]?=some o/\C5 cl j o=some (t,e))
theorem BxOk.more {all:List Oper}{cl:Nat->Bool}{S:Nat->St}{β0:Bet}{L:Nat->Prop}{t i:Nat} (h:BxOk all cl S β0 L t):BxOk all cl S β0 (λj=>L j\/j=i) t:=by
 rcases h with h | ⟨j,h1,h2,h3⟩ | ⟨j,o,e,h1,h2⟩
 ·exact .inl h
 ·exact .inr (.inl ⟨j,h1,.inl h2,h3⟩)
 ·exact .inr (.inr ⟨j,o,e,.inl h1,h2⟩)
structure Inv (lo base nt:Nat) (ρ0:Rho) (β0:Bet) (w0:World) (all:List Oper) (cl:Nat->Bool) (S:Nat->St) (L:Nat->Prop) (q:Nat) (ρ:Rho) (β:Bet) (a:Act) (w:World):Prop where
 q1:q<=all.length
 q2:q<all.length->IN all cl q/\¬ L q
 q3:∀ j,j<q->IN all cl j->L j
 h:HRel ρ (S q).h w
 f:FRel ρ β (S q).bx w
 s:∀ t p,p<=all.length->(∀ j,Wr all j t->(L j<->j<p))->SV ρ β (Cl (S p).s t) (a.tmps.getD t undef)
 own:∀ t r,β t=some r->base<=r
 hB:base<=w.heap.size
 nt:a.tmps.size=nt
 df:a.defers = []
 x:Ext0 lo base ρ0 (S 0).h.length w0 ρ w
 tot:∀ j,j<all.length->L j->∀ b,(S j).h.length<=b->b<(S (j+1)).h.length->∃ e,ρ b=some e
 ids:∀ b e,ρ b=some e->b<(S 0).h.length\/∃ j,j<all.length/\L j/\(S j).h.length<=b/\b<(S (j+1)).h.length
 bxs:∀ t r,β t=some r->BxOk all cl S β0 L t
theorem HQ:∀ (ts:List Nat) (s:List (Nat×V)) (t:Nat),Cl (IJ ts s) t=if t∈ts then Cl s t else .any
 | [],s,t=>rfl
 | u :: ts,s,t=>by
  simp only[IJ,EO];by_cases h:u=t
  ·subst h;simp
  ·rw[if_neg h,HQ ts s t];have:t≠u:=Ne.symm h;simp[this]
theorem IR:∀ {xs:List Operand}{t:Nat},Operand.tmp t∈xs->t∈HP xs
 | [],t,h=>by simp at h
 | x :: xs,t,h=>by
  cases x<;>simp only[HP,Ye] at h ⊢
  ·rcases h with h | h
   ·injection h with h;exact .inl h
   ·exact .inr (IR h)
  all_goals (rcases h with h | h;cases h;exact IR h)
theorem Mm {xs:List Operand}{s:List (Nat×V)}:∀ x∈xs,ev (IJ (HP xs) s) x=ev s x:=λx hx=>by
 cases x with
 | tmp t=>simp only[ev];rw[HQ,if_pos (IR hx)]
 | _=>rfl
section
variable {P:Program}{X:Ctx}{lo base nt:Nat}{ρ0:Rho}{β0:Bet}{w0:World}{all:List Oper}{cl:Nat->Bool}{S:Nat->St} (hV:Env P X lo base nt ρ0 β0 w0 all cl S)
variable {L:Nat->Prop}{q:Nat}{ρ:Rho}{β:Bet}{a:Act}{w:World} (hI:Inv lo base nt ρ0 β0 w0 all cl S L q ρ β a w)
variable (hcl:∀ (i:Nat) (o:Oper),all[i]?=some o->L i->∀ e∈o.after.toList,B4 e=true->L e.on)
variable {i:Nat}{o:Oper} (ho:all[i]?=some o) (hready:∀ e∈o.after.toList,B4 e=true->L e.on) (hn:¬ L i)
def Bet.low (βt:Bet) (β:Bet):Bet:=λt=>if (βt t).isSome=true then β t else none
theorem Bet.low_some {βt:Bet}{β:Bet}{t r:Nat} (h:Bet.low βt β t=some r):(βt t).isSome=true/\β t=some r:=by
 unfold Bet.low at h;split at h
 ·exact ⟨‹_›,h⟩
 ·cases h
theorem Bet.low_of {βt:Bet}{β:Bet}{t r:Nat} (hb:(βt t).isSome=true) (h:β t=some r):Bet.low βt β t=some r:=by unfold Bet.low;rw[if_pos hb,h]
include hV hI in
theorem V9 (hiq:i<=q) (hnb:∀ k,i<=k->k<q->¬ IN all cl k) :
  ∃ βt:Bet,(∀ t r,β0 t=some r->βt t=some r)/\HRel (ρ.low (S i).h.length) (S i).h w/\FRel (ρ.low (S i).h.length) (Bet.low βt β) (S i).bx w /\
   ∀ t c,SV ρ β (Cl (S i).s t) c->SV (ρ.low (S i).h.length) (Bet.low βt β) (Cl (S i).s t) c:=by
 obtain ⟨ρt,βt,at',wt,hot,hmt⟩:=hV.ok i (XX hiq hI.q1);refine ⟨βt,λt r hr=>hmt.2.1 t r hr,?_⟩;have hN:∀ b e,ρt b=some e->b<(S i).h.length:=λb e hb=>(hot.h.dom b e hb).1
 have htot:∀ b e,ρ b=some e->b<(S i).h.length->∃ et,ρt b=some et:=by
  intro b e hb hlt;by_cases h0:b<(S 0).h.length
  ·cases h:ρ0 b with
   | none=>have:=(hI.x.new b e h hb).1;omega
   | some e0=>exact ⟨e0,hmt.1.rle b e0 h⟩
  ·exact hmt.1.tot b (by omega) hlt
 refine ⟨⟨λb e hb=>?_,λb e k hb hk=>?_,λb b' e e' hb hb' hr hne=>?_⟩,⟨λt r hr=>?_,λt r hr=>?_,λt t' r h1 h2=>?_,λt r b e h1 h2=>?_⟩,λt c hc=>?_⟩
 ·obtain ⟨h1,h2⟩:=Rho.low_some hb;exact ⟨h1,(hI.h.dom b e h2).2⟩
 ·obtain ⟨h1,h2⟩:=Rho.low_some hb;obtain ⟨et,het⟩:=htot b e h2 h1;have hk':(S q).h[b]?=some k:=by rw[hV.same_le hiq hI.q1 hnb h1];exact hk
  exact BR.low hN (hot.h.blk b et k het hk) (hI.h.blk b e k h2 hk')
 ·obtain ⟨h1,h2⟩:=Rho.low_some hb;obtain ⟨h3,h4⟩:=Rho.low_some hb';have e1:=hV.same_le hiq hI.q1 hnb h1;have e2:=hV.same_le hiq hI.q1 hnb h3;rcases hI.h.inj b b' e e' h2 h4 hr hne with h | h | ⟨⟨x,y,z,h⟩,⟨x',y',z',h'⟩⟩
  ·exact .inl (by unfold Bg at *;rw[<- e1];exact h)
  ·exact .inr (.inl (by unfold Bg at *;rw[<- e2];exact h))
  ·exact .inr (.inr ⟨⟨x,y,z,by rw[<- e1];exact h⟩,⟨x',y',z',by rw[<- e2];exact h'⟩⟩)
 ·obtain ⟨h1,h2⟩:=Bet.low_some hr;obtain ⟨row,cs,el,g1,g2,g3⟩:=hI.f.has t r h2;obtain ⟨rt,hrt⟩:=Option.isSome_iff_exists.1 h1;obtain ⟨rowt,ct,elt,k1,k2,k3⟩:=hot.f.has t rt hrt;have:=hV.bx_same hiq hI.q1 hnb k1;rw[g1] at this;injection this with this;subst this;exact ⟨row,cs,el,k1,g2,VRs.low hN _ _ _ k3 g3⟩
 ·exact hI.f.lt t r (Bet.low_some hr).2
 ·exact hI.f.inj t t' r (Bet.low_some h1).2 (Bet.low_some h2).2
 ·exact hI.f.off t r b e (Bet.low_some h1).2 (Rho.low_some h2).2
 ·have ht:=hot.s t;generalize hv:Cl (S i).s t=v at hc ht;cases v with
  | lp u j =>obtain ⟨r,h1,h2⟩:=hc;obtain ⟨rt,h3,_⟩:=ht;exact ⟨r,Bet.low_of (by rw[h3];rfl) h1,h2⟩
  | _=>exact VR.low hN _ c (at'.tmps.getD t undef) ht hc
include hV hI hcl ho hready hn in
theorem JW {t:Nat} (ht:t∈CH all o):SV ρ β (Cl (S i).s t) (a.tmps.getD t undef) :=
 hI.s t i (YN (XY.1 ho).1) λj hw=>I6 hV.G hcl ho hready hn ht hw
include hV hI hcl ho hready hn in
theorem FJ {v:V}{σ1:St}{c:Value}{ρ2:Rho}{β2:Bet} (hS:S (i+1)=putS σ1 o.dst v) (h1:σ1.s=(S i).s) (hr:Rle ρ ρ2) (hb:Ble β β2) (hv:SV ρ2 β2 v c) :
  ∀ t p,p<=all.length->(∀ j,Wr all j t->((L j\/j=i)<->j<p))->SV ρ2 β2 (Cl (S p).s t) ((a.put o.dst c).tmps.getD t undef):=by
 intro t p hp hw;by_cases hd:o.dst=some t
 ·have hip:i<p:=(hw i ⟨o,ho,hd⟩).1 (.inr rfl);have hno:∀ j,i+1<=j->j<p->¬ Wr all j t:=λj h2 h3 hwr=>by
   have hL:=(hw j hwr).2 h3;have ht:t∈CH all o:=by unfold CH;rw[hd];simp
   have:=I6 hV.G hcl ho hready hn ht hwr;rcases hL with hL | hL
   ·have:=this.1 hL;omega
   ·omega
  rw[hV.slot_same (i:=i+1) hip hp hno,hS,hd];have hlt:t<a.tmps.size:=by rw[hI.nt];exact hV.dst i o ho t hd
  simp only[putS,EO,if_true,Act.put];rw[Yg,Array.getElem?_setIfInBounds_self_of_lt hlt];exact hv
 ·have hold:SV ρ β (Cl (S p).s t) (a.tmps.getD t undef):=hI.s t p hp λj hwr=>by
   have hne:j≠i:=λe=>by subst e;obtain ⟨q',h2,h3⟩:=hwr;rw[ho] at h2;injection h2 with h2;subst h2;exact hd h3
   rw[<- hw j hwr];exact ⟨.inl,λh=>h.resolve_right hne⟩
  have:(a.put o.dst c).tmps.getD t undef=a.tmps.getD t undef:=by
   cases hd':o.dst with
   | none=>rfl
   | some u =>have hne:u≠t:=λe=>hd (by rw[hd',e]);simp only[Act.put];rw[Yg,Array.getElem?_setIfInBounds_ne hne,<- Yg]
  rw[this];exact hold.mono hr hb
end
end Go.Proofs.YtmdgiekbejjjgaaGreat.T
namespace Go.Proofs.YtmdgiekbejjjgaaGreat.T
open Go
variable {w':World}
theorem HRel.ahead {ρ:Rho}{h h':Heap}{w:World} (hh:HRel ρ h w) (hl:h.length<=h'.length) (hs:∀ b,b<h.length->h'[b]?=h[b]?):HRel ρ h' w where
 dom:=λb e hb=>⟨Yb (hh.dom b e hb).1 hl,(hh.dom b e hb).2⟩
 blk:=λb e k hb hk=>hh.blk b e k hb (by rw[<- hs b (hh.dom b e hb).1];exact hk)
 inj:=λb b' e e' h1 h2 hr hne=>by
  have s1:=hs b (hh.dom b e h1).1;have s2:=hs b' (hh.dom b' e' h2).1;rcases hh.inj b b' e e' h1 h2 hr hne with h | h | ⟨⟨x,y,z,h⟩,⟨x',y',z',h'⟩⟩
  ·exact .inl (by unfold Bg at *;rw[s1];exact h)
  ·exact .inr (.inl (by unfold Bg at *;rw[s2];exact h))
  ·exact .inr (.inr ⟨⟨x,y,z,by rw[s1];exact h⟩,⟨x',y',z',by rw[s2];exact h'⟩⟩)
theorem FRel.ahead {ρ:Rho}{β:Bet}{bx bx':List (Nat×List V)}{w:World} (hf:FRel ρ β bx w) (hs:∀ t row,As bx t=some row->As bx' t=some row):FRel ρ β bx' w :=
 ⟨λt r hr=>by obtain ⟨row,cs,el,h1,h2,h3⟩:=hf.has t r hr;exact ⟨row,cs,el,hs t row h1,h2,h3⟩,hf.lt,hf.inj,hf.off⟩
section
variable {P:Program}{X:Ctx}{lo base nt:Nat}{ρ0:Rho}{β0:Bet}{w0:World}{all:List Oper}{cl:Nat->Bool}{S:Nat->St} (hV:Env P X lo base nt ρ0 β0 w0 all cl S)
include hV in
theorem Ti {L:Nat->Prop}{ρ:Rho}{β:Bet}{w:World}:∀ (d p:Nat),all.length - p=d->p<=all.length->(∀ j,j<p->IN all cl j->L j)->(∀ j,p<=j->IN all cl j->¬ L j)->HRel ρ (S p).h w->FRel ρ β (S p).bx w ->
  ∃ q,q<=all.length/\(q<all.length->IN all cl q/\¬ L q)/\(∀ j,j<q->IN all cl j->L j)/\HRel ρ (S q).h w/\FRel ρ β (S q).bx w:=by
 intro d;induction d with
 | zero=>intro p hd hp h1 h2 hh hf;exact ⟨p,hp,λh=>by omega,h1,hh,hf⟩
 | succ d ih =>
  intro p hd hp h1 h2 hh hf;by_cases hb:IN all cl p
  ·exact ⟨p,hp,λ_=>⟨hb,h2 p (X1 _) hb⟩,h1,hh,hf⟩
  ·refine ih (p+1) (by omega) (by omega) (λj hj hbj=>?_) (λj hj=>h2 j (by omega)) (hh.ahead (hV.len p (by omega)) (hV.same p (by omega) hb)) (hf.ahead λt row ht=>?_)
   ·rcases Nat.lt_or_ge j p with h | h
    ·exact h1 j h hbj
    ·have:j=p:=by omega
     subst this;exact absurd hbj hb
   ·exact hV.bx_same (Nat.le_succ p) (by omega) (λk h3 h4=>by
                                    have:k=p:=by omega
                                    subst this;exact hb) ht
variable {L:Nat->Prop}{q:Nat}{ρ:Rho}{β:Bet}{a:Act}{w:World} (hI:Inv lo base nt ρ0 β0 w0 all cl S L q ρ β a w)
variable (hcl:∀ (i:Nat) (o:Oper),all[i]?=some o->L i->∀ e∈o.after.toList,B4 e=true->L e.on)
variable {i:Nat}{o:Oper} (ho:all[i]?=some o) (hready:∀ e∈o.after.toList,B4 e=true->L e.on) (hn:¬ L i)
include hV hcl ho hready hn in
theorem Lv {j:Nat} (hb:IN all cl j) (hi:C2 o=false) (hci:cl i=false) (hne:j≠i):L j<->j<i:=by obtain ⟨hf,⟨p,hp,hpi⟩,hpc⟩:=hb;exact Hr hV.G hcl ho hp hready hn hne (.inr (Om hf ho (Ne.symm hne) hi hci))
include hV hI hcl ho hready hn in
theorem PB (hb:IN all cl i):i=q:=by
 have hi:C2 o=false:=by obtain ⟨_,⟨p,hp,hpi⟩,_⟩:=hb;rw[ho] at hp;injection hp with hp;subst hp;exact hpi
 have hci:cl i=false:=hb.2.2;have hil:i<all.length:=(XY.1 ho).1;rcases Nat.lt_trichotomy i q with h | h | h
 ·exact absurd (hI.q3 i h hb) hn
 ·exact h
 ·obtain ⟨h1,h2⟩:=hI.q2 (by omega);exact absurd ((Lv hV hcl ho hready hn h1 hi hci (by omega)).2 h) h2
include hV hI hcl ho hready hn in
theorem VD (hb:¬ IN all cl i) (hi:C2 o=false) (hci:cl i=false):i<q/\∀ k,i<=k->k<q->¬ IN all cl k:=by
 have hil:i<all.length:=(XY.1 ho).1;have h1:i<q:=by
  rcases Nat.lt_trichotomy i q with h | h | h
  ·exact h
  ·subst h;exact absurd (hI.q2 hil).1 hb
  ·obtain ⟨h1,h2⟩:=hI.q2 (by omega);exact absurd ((Lv hV hcl ho hready hn h1 hi hci (by omega)).2 h) h2
 refine ⟨h1,λk h2 h3 hk=>?_⟩;have hne:k≠i:=λe=>by subst e;exact hb hk
 have:=(Lv hV hcl ho hready hn hk hi hci hne).1 (hI.q3 k h3 hk);omega
include hV hI hcl ho hready hn in
theorem SY (hb:IN all cl i) {ρ2:Rho}{β2:Bet}{a':Act} (hh:HRel ρ2 (S (i+1)).h w') (hf:FRel ρ2 β2 (S (i+1)).bx w')
  (hs:∀ t p,p<=all.length->(∀ j,Wr all j t->((L j\/j=i)<->j<p))->SV ρ2 β2 (Cl (S p).s t) (a'.tmps.getD t undef)) (own:∀ t r,β2 t=some r->base<=r) (hB:base<=w'.heap.size) (hnt:a'.tmps.size=nt) (hdf:a'.defers = [])
  (hx:Ext0 lo base ρ0 (S 0).h.length w0 ρ2 w') (htot:∀ j,j<all.length->(L j\/j=i)->∀ b,(S j).h.length<=b->b<(S (j+1)).h.length->∃ e,ρ2 b=some e)
  (hids:∀ b e,ρ2 b=some e->b<(S 0).h.length\/∃ j,j<all.length/\(L j\/j=i)/\(S j).h.length<=b/\b<(S (j+1)).h.length)
  (hbxs:∀ t r,β2 t=some r->BxOk all cl S β0 (λj=>L j\/j=i) t) :
  ∃ q',Inv lo base nt ρ0 β0 w0 all cl S (λj=>L j\/j=i) q' ρ2 β2 a' w':=by
 have hil:i<all.length:=(XY.1 ho).1;have hi:C2 o=false:=by obtain ⟨_,⟨p,hp,hpi⟩,_⟩:=hb;rw[ho] at hp;injection hp with hp;subst hp;exact hpi
 have hci:cl i=false:=hb.2.2;have hq:=PB hV hI hcl ho hready hn hb;obtain ⟨q',g1,g2,g3,g4,g5⟩:=Ti hV (L:=λj=>L j\/j=i) (ρ:=ρ2) (β:=β2) (w:=w') _ (i+1) rfl hil (λj hj hbj=>by
   by_cases e:j=i
   ·exact .inr e
   ·exact .inl (hI.q3 j (by omega) hbj)) (λj hj hbj=>by
   rintro (h | h)
   ·have:=(Lv hV hcl ho hready hn hbj hi hci (by omega)).1 h;omega
   ·omega) hh hf
 exact ⟨q',g1,g2,g3,g4,g5,hs,own,hB,hnt,hdf,hx,htot,hids,hbxs⟩
include hI in
theorem Ls (hb:¬ IN all cl i) {ρ2:Rho}{β2:Bet}{a':Act} (hh:HRel ρ2 (S q).h w') (hf:FRel ρ2 β2 (S q).bx w')
  (hs:∀ t p,p<=all.length->(∀ j,Wr all j t->((L j\/j=i)<->j<p))->SV ρ2 β2 (Cl (S p).s t) (a'.tmps.getD t undef)) (own:∀ t r,β2 t=some r->base<=r) (hB:base<=w'.heap.size) (hnt:a'.tmps.size=nt) (hdf:a'.defers = [])
  (hx:Ext0 lo base ρ0 (S 0).h.length w0 ρ2 w') (htot:∀ j,j<all.length->(L j\/j=i)->∀ b,(S j).h.length<=b->b<(S (j+1)).h.length->∃ e,ρ2 b=some e)
  (hids:∀ b e,ρ2 b=some e->b<(S 0).h.length\/∃ j,j<all.length/\(L j\/j=i)/\(S j).h.length<=b/\b<(S (j+1)).h.length)
  (hbxs:∀ t r,β2 t=some r->BxOk all cl S β0 (λj=>L j\/j=i) t) :
  ∃ q',Inv lo base nt ρ0 β0 w0 all cl S (λj=>L j\/j=i) q' ρ2 β2 a' w' :=
 ⟨q,hI.q1,λh=>⟨(hI.q2 h).1,λhL=>hL.elim (hI.q2 h).2 λe=>hb (e ▸ (hI.q2 h).1)⟩,λj hj hbj => .inl (hI.q3 j hj hbj),hh,hf,hs,own,hB,hnt,hdf,hx,htot,hids,hbxs⟩
include hI in
theorem C0 {c:Value}:(a.put o.dst c).tmps.size=nt/\(a.put o.dst c).defers = []:=by cases o.dst<;>simp[Act.put,hI.nt,hI.df]
include hV hI hcl ho hready hn in
theorem U4 (hS:S (i+1)=putS (S i) o.dst (.tup [])):∃ q',Inv lo base nt ρ0 β0 w0 all cl S (λj=>L j\/j=i) q' ρ β (a.put o.dst undef) w:=by
 have hh:(S (i+1)).h=(S i).h:=by rw[hS,LS]
 have hbx:(S (i+1)).bx=(S i).bx:=by rw[hS,Gm]
 have hs:=FJ hV hI hcl ho hready hn hS rfl (Rle.refl ρ) (Ble.refl β) (c:=undef) (SV.of (by simp[VR,VRs,undef]));have htot:∀ j,j<all.length->(L j\/j=i)->∀ b,(S j).h.length<=b->b<(S (j+1)).h.length->∃ e,ρ b=some e:=λj hj hL b h1 h2=>by
  rcases hL with hL | rfl
  ·exact hI.tot j hj hL b h1 h2
  ·rw[hh] at h2;omega
 have hids:∀ b e,ρ b=some e->b<(S 0).h.length\/∃ j,j<all.length/\(L j\/j=i)/\(S j).h.length<=b/\b<(S (j+1)).h.length:=λb e hb =>
  (hI.ids b e hb).imp id λ⟨j,h1,h2,h3⟩=>⟨j,h1,.inl h2,h3⟩
 have hbxs:∀ t r,β t=some r->BxOk all cl S β0 (λj=>L j\/j=i) t:=λt r hb=>(hI.bxs t r hb).more
 by_cases hb:IN all cl i
 ·have hq:=PB hV hI hcl ho hready hn hb;exact SY hV hI hcl ho hready hn hb (by rw[hh,hq];exact hI.h) (by rw[hbx,hq];exact hI.f) hs hI.own hI.hB (C0 hI).1 (C0 hI).2 hI.x htot hids hbxs
 ·exact Ls hI hb hI.h hI.f hs hI.own hI.hB (C0 hI).1 (C0 hI).2 hI.x htot hids hbxs
end
end Go.Proofs.YtmdgiekbejjjgaaGreat.T
namespace Go.Proofs.YtmdgiekbejjjgaaGreat.T
open Go
variable {v:V}{σ1:St}
theorem QJ {o:Oper} (h:C2 o=true):DU o=false:=by
 obtain ⟨dst,op,ty,pos,after,guard⟩:=o;cases op<;>simp only[C2] at h<;>(try cases h)<;>simp only[DU]
 rename_i c
 obtain ⟨callee,args0,ts⟩:=c;cases callee<;>simp only at h ⊢
 rename_i b
 cases b<;>simp_all
section
variable {P:Program}{X:Ctx}{lo base nt:Nat}{ρ0:Rho}{β0:Bet}{w0:World}{all:List Oper}{cl:Nat->Bool}{S:Nat->St} (hV:Env P X lo base nt ρ0 β0 w0 all cl S)
variable {L:Nat->Prop}{q:Nat}{ρ:Rho}{β:Bet}{a:Act}{w:World} (hI:Inv lo base nt ρ0 β0 w0 all cl S L q ρ β a w)
variable (hcl:∀ (i:Nat) (o:Oper),all[i]?=some o->L i->∀ e∈o.after.toList,B4 e=true->L e.on)
variable {i:Nat}{o:Oper} (ho:all[i]?=some o) (hready:∀ e∈o.after.toList,B4 e=true->L e.on) (hn:¬ L i)
variable (hX:X.ty=Au P) (hE:∀ t,X.cmp t=true->EqOk P t) (hC:SC P X.call)
variable {K:Act->World->Prop}{Q:Exit->Act->World->Prop}
 (hK:∀ q' ρ' β' a' w',Inv lo base nt ρ0 β0 w0 all cl S (λj=>L j\/j=i) q' ρ' β' a' w'->K a' w')
def rd (o:Oper) (s:List (Nat×V)):List (Nat×V):=IJ (HP o.op.operands.toList) s
include hV hI hcl ho hready hn in
theorem OX {ρ':Rho}{β':Bet} (h:∀ t c,SV ρ β (Cl (S i).s t) c->SV ρ' β' (Cl (S i).s t) c):SRel ρ' β' (rd o (S i).s) a:=by
 intro t;unfold rd;rw[HQ];split
 ·rename_i ht
  exact h t _ (JW hV hI hcl ho hready hn (by unfold CH OW;simp[ht]))
 ·exact SV.of (VR.any _)
include hI in
theorem Ip {ρ2:Rho}{w':World} (h:Rle ρ ρ2) (hnew:∀ b e,ρ b=none->ρ2 b=some e->(S 0).h.length<=b/\(base<=e.r\/∃ b0 e0,ρ b0=some e0/\lo<=b0/\e0.r=e.r))
  (hfr:∀ r,r<base->(∀ b e,ρ b=some e->lo<=b->e.r≠r)->w'.heap[r]?=w.heap[r]?) (hs:w.heap.size<=w'.heap.size) (h1:w'.os=w.os) (h2:w'.tape=w.tape) (h3:w'.output=w.output):Ext0 lo base ρ0 (S 0).h.length w0 ρ2 w' where
 rle:=hI.x.rle.trans h
 new:=λb e hb he=>by
  cases hρ:ρ b with
  | some e1 =>have:=h b e1 hρ;rw[he] at this;injection this with this;subst this;exact hI.x.new b _ hb hρ
  | none =>
   obtain ⟨g1,g2⟩:=hnew b e hρ he;refine ⟨g1,?_⟩;rcases g2 with g2 | ⟨b0,e0,g3,g4,g5⟩
   ·exact .inl g2
   ·cases h0:ρ0 b0 with
    | some e1 =>have:=hI.x.rle b0 e1 h0;rw[g3] at this;injection this with this;subst this;exact .inr ⟨b0,_,h0,g4,g5⟩
    | none =>
     rcases (hI.x.new b0 e0 h0 g3).2 with g6 | ⟨b1,e1,g6,g7,g8⟩
     ·exact .inl (by omega)
     ·exact .inr ⟨b1,e1,g6,g7,g8.trans g5⟩
 frame:=λr hr hf=>by
  refine (hfr r hr λb e hb hlo he=>?_).trans (hI.x.frame r hr hf);cases h0:ρ0 b with
  | some e1 =>have:=hI.x.rle b e1 h0;rw[hb] at this;injection this with this;subst this;exact hf b _ h0 hlo he
  | none =>
   rcases (hI.x.new b e h0 hb).2 with g6 | ⟨b1,e1,g6,g7,g8⟩
   ·omega
   ·exact hf b1 e1 g6 g7 (g8.trans he)
 size:=XX hI.x.size hs
 os:=h1.trans hI.x.os
 tape:=h2.trans hI.x.tape
 output:=h3.trans hI.x.output
include hV hI hcl ho hready hn hX hE hC hK in
theorem NS (hw0:DU o=false) (hnb:¬ IN all cl i) {lo':Nat} (h1:Aw X lo' o.dst o.type o.op (S i)=some (v,σ1)) (e2:σ1.h=(S i).h)
  (hk:Aw X (S q).h.length o.dst o.type o.op ⟨(S i).s,(S q).bx,(S q).h⟩=some (v,⟨(S i).s,(S q).bx,(S q).h⟩)) (hS:S (i+1)=putS σ1 o.dst v):o.wp P a w K Q:=by
 have hsl:=Fv (s':=rd o (S i).s) (λx hx=>Mm x hx) hk;unfold Aw at hsl;refine FN (lo:=(S q).h.length) (base:=w.heap.size) (σ:=⟨rd o (S i).s,(S q).bx,(S q).h⟩) (K:=λv σ=>some (v,σ)) (r:=(v,⟨rd o (S i).s,(S q).bx,(S q).h⟩)) hX hE hC hsl (OX hV hI hcl ho hready hn λt c h=>h) hI.h hI.f (X1 _) (X1 _)
  (λhw=>?_) ?_
 ·rw[hw0] at hw;cases hw
 ·intro v' σ' c w' hk' hf;injection hk' with hk';injection hk' with z1 z2;subst z1;subst z2;obtain ⟨ρ',β',f1,f2,f3,f4,f5,f6,f7,f8⟩:=hf;have hρ:ρ'=ρ:=by
   funext b;cases hb:ρ b with
   | some e=>exact f5.rle b e hb
   | none =>
    cases hb':ρ' b with
    | none=>rfl
    | some e =>have g1:=(f5.new b e hb hb').1;have g2:=(f3.dom b e hb').1;exact absurd g2 (Zl.2 g1)
  have hβ:β'=β:=by
   funext t;cases hb:β t with
   | some r=>exact f6 t r hb
   | none =>
    cases hb':β' t with
    | none=>rfl
    | some r =>have g1:=(f7 t r hb hb').2;obtain ⟨row,_,_,g2,_⟩:=f4.has t r hb';have g1:As (S q).bx t=none:=g1;have g2:As (S q).bx t=some row:=g2;rw[g1] at g2;cases g2
  subst hρ;subst hβ;have hfr:∀ r,r<w.heap.size->w'.heap[r]?=w.heap[r]?:=λr hr=>f5.frame r hr λb e hb hle=>by have:=(hI.h.dom b e hb).1;exact absurd this (Zl.2 hle)
  have hs:=FJ hV hI hcl ho hready hn hS (Jc (s:=(S i).s) (bx:=(S i).bx) (h:=(S i).h) h1) (Rle.refl _) (Ble.refl _) f2;have hx:Ext0 lo base ρ0 (S 0).h.length w0 ρ' w':=Ip hI (Rle.refl _) (λb e h1 h2=>by rw[h1] at h2;cases h2) (λr hr _=>hfr r (Yb hr hI.hB)) f5.size f5.os f5.tape f5.output;have hh1:(S (i+1)).h=(S i).h:=by rw[hS,LS];exact e2
  obtain ⟨q',hI'⟩:=Ls hI (i:=i) hnb (a':=a.put o.dst c) (w':=w') f3 f4 hs hI.own (XX hI.hB f5.size) (C0 hI).1 (C0 hI).2 hx
   (λj hj hL b g1 g2=>by
    rcases hL with hL | rfl
    ·exact hI.tot j hj hL b g1 g2
    ·rw[hh1] at g2;omega)
   (λb e hb=>(hI.ids b e hb).imp id λ⟨j,h1,h2,h3⟩=>⟨j,h1,.inl h2,h3⟩)
   (λt r hb=>(hI.bxs t r hb).more)
  exact hK _ _ _ _ _ hI'
include hV hI hcl ho hready hn hX hE hC hK in
theorem Tx (hi:C2 o=true) {lo':Nat} (h1:Aw X lo' o.dst o.type o.op (S i)=some (v,σ1)) (hS:S (i+1)=putS σ1 o.dst v):o.wp P a w K Q:=by
 obtain ⟨e1,e2,hk⟩:=LC hV.nar (s:=(S i).s) (bx:=(S i).bx) (h:=(S i).h) hi h1;exact NS hV hI hcl ho hready hn hX hE hC hK (QJ hi) (λhb=>by
  obtain ⟨_,⟨p,hp,hpi⟩,_⟩:=hb;rw[ho] at hp;injection hp with hp;subst hp;rw[hi] at hpi;cases hpi) h1 e2 (hk _ _ _) hS
include hV in
theorem SR {p p':Nat} (hpp:p<=p') (hp':p'<=all.length) {u:Nat}
  (hno:∀ k,p<=k->k<p'->IN all cl k->∀ row,As (S k).bx u=some row->As (S (k+1)).bx u=some row) {row:List V} (hr:As (S p).bx u=some row):As (S p').bx u=some row:=by
 induction p' with
 | zero=>rw[show 0=p by omega];exact hr
 | succ p' ih =>
  by_cases e:p=p'+1
  ·rw[<- e];exact hr
  ·have h0:=ih (by omega) (by omega) λk h1 h2=>hno k h1 (by omega);by_cases hb:IN all cl p'
   ·exact hno p' (by omega) (by omega) hb row h0
   ·exact hV.bx_same (Nat.le_succ p') (by omega) (λk h1 h2=>by rw[show k=p' by omega];exact hb) h0
include hV in
theorem SW {p p':Nat} (hpp:p<=p') (hp':p'<=all.length) {b i0 j n:Nat} (hbl:b<(S p).h.length)
  (hno:∀ k,p<=k->k<p'->IN all cl k->ld (S (k+1)).h b i0 j n=ld (S k).h b i0 j n):ld (S p').h b i0 j n=ld (S p).h b i0 j n:=by
 induction p' with
 | zero=>rw[show 0=p by omega]
 | succ p' ih =>
  by_cases e:p=p'+1
  ·rw[<- e]
  ·rw[<- ih (by omega) (by omega) λk h1 h2=>hno k h1 (by omega)];by_cases hb:IN all cl p'
   ·exact hno p' (by omega) (by omega) hb
   ·have hs:=hV.same p' (by omega) hb b (Yb hbl (hV.len_le (by omega) (by omega)));unfold ld Heap.rows?;rw[hs]
include hV hI hcl ho hready hn hX hE hC hK in
theorem Tz (hc:cl i=true) (hbn:C5 cl i o=none) (hend:∀ a,Cm o=some a->S5 (AJ [] all) all cl i a=true\/∃ u j,Cl (S i).s a = .lp u j) {lo':Nat} (h1:Aw X lo' o.dst o.type o.op (S i)=some (v,σ1)) (hS:S (i+1)=putS σ1 o.dst v):o.wp P a w K Q:=by
 have hil:i<all.length:=(XY.1 ho).1;obtain ⟨t,x,hop,hst⟩:=hV.G.stat i o ho hc hbn;have hnb:¬ IN all cl i:=λhb=>by rw[hb.2.2] at hc;cases hc
 have h1':=h1;rw[hop] at h1';have e2:σ1.h=(S i).h:=(NM (s:=(S i).s) (bx:=(S i).bx) (h:=(S i).h) h1').2.2;have hl:Cm o=some x:=by unfold Cm;rw[hop]
 have keeps:∀ k,IN all cl k->Fo (AJ [] all) k i=false->(∀ u j,Cl (S i).s x = .lp u j->∀ row,As (S k).bx u=some row->As (S (k+1)).bx u=some row) /\
   (∀ b i0 j,Cl (S i).s x = .ptr (some (b,i0,j))->ld (S (k+1)).h b i0 j (X.ty t).size=ld (S k).h b i0 j (X.ty t).size):=λk hb hcm=>by
  obtain ⟨hf,⟨p,hp,hpi⟩,hpc⟩:=hb;have hkl:k<all.length:=(XY.1 hp).1;cases hsk:HI all x k with
  | true =>
   have hlk:Cl (S k).s x=Cl (S i).s x:=by
    rcases Nat.le_total k i with hki | hik
    ·exact (hV.slot_same hki (YN hil) λj g1 g2 ⟨q',hq',hd⟩=>IP hsk g1 hq' hd).symm
    ·exact hV.slot_same hik (YN hkl) λj g1 g2 ⟨q',hq',hd⟩=>IP hst.1 g1 hq' hd
   have hk:=(hV.keep k hkl (by unfold GW;rw[hf];rfl) o (WG hp hpi hpc ho hc hcm hl hsk)).1 t (.tmp x) hop;exact ⟨λu j hx row hr=>hk.1 u j row (by show Cl (S k).s x=_;rw[hlk];exact hx) hr,λb i0 j hx=>hk.2 b i0 j (by show Cl (S k).s x=_;rw[hlk];exact hx)⟩
  | false =>
   obtain ⟨u,j,hx⟩:=(hend x hl).resolve_left λhe=>by rw[Sg he hp hpi hpc hcm hf] at hsk;cases hsk
   rw[hx];refine ⟨λu' j' e row hr=>?_,λb i0 j' e=>(by cases e)⟩;rcases hV.step k p hp with ⟨_,_,v',σ',g1,g2⟩ | ⟨_,_,g2⟩ | ⟨_,_,_,g2⟩
   ·rw[g2,Gm];refine GD (s:=(S k).s) (bx:=(S k).bx) (h:=(S k).h) g1 (λt' y z he=>?_) hr;have hso:ER p=true:=by unfold ER;rw[he]
    rcases hst.2 k p hp hso with g | g
    ·rw[hcm] at g;cases g
    ·rw[hsk] at g;cases g
   ·rw[g2,Gm];exact hr
   ·rw[g2,Gm];exact hr
 have apart:∀ k,IN all cl k->(i<=k/\k<q)\/(q<=k/\k<i)->Fo (AJ [] all) k i=false:=λk hb hk=>by
  cases hcm:Fo (AJ [] all) k i with
  | false=>rfl
  | true =>
   exfalso;have hb0:=hb;obtain ⟨hf,⟨p,hp,hpi⟩,hpc⟩:=hb;have hkl:k<all.length:=(XY.1 hp).1;have hne:k≠i:=λe=>hnb (e ▸ hb0);have hiff:=Hr hV.G hcl ho hp hready hn hne (.inr hcm);rcases hk with ⟨g1,g2⟩ | ⟨g1,g2⟩
   ·have:=hiff.1 (hI.q3 k g2 hb0);omega
   ·have hLk:=hiff.2 g2;obtain ⟨hbq,hnq⟩:=hI.q2 (by omega);by_cases e:k=q
    ·exact hnq (e ▸ hLk)
    ·have hcm2:=Om hbq.1 hp (by omega) hpi hpc;obtain ⟨_,⟨pq,hpq,_⟩,_⟩:=hbq;have hbit:((AJ [] all).getD k 0).testBit q=true:=by
      unfold Fo at hcm2;split at hcm2
      ·rename_i h2
       have:=PA hV.G q pq k hpq h2;omega
      ·exact hcm2
     exact hnq (Hx hV.G hcl k _ q hp (hcl k _ hp hLk) hbit)
 have sv:=JW hV hI hcl ho hready hn (t:=x) (by
  unfold CH OW;rw[hop];simp[Op.operands,HP])
 have fin:∀ {v':V},v'=v->Aw X (S q).h.length o.dst o.type (.load t (.tmp x)) ⟨(S i).s,(S q).bx,(S q).h⟩=some (v',⟨(S i).s,(S q).bx,(S q).h⟩)->o.wp P a w K Q:=λ{v'} e hk2=>by subst e;rw[<- hop] at hk2;exact NS hV hI hcl ho hready hn hX hE hC hK (by unfold DU;rw[hop]) hnb h1 e2 hk2 hS
 rcases TP (s:=(S i).s) (bx:=(S i).bx) (h:=(S i).h) h1' with ⟨u,j,hx⟩ | ⟨b,i0,j,hx⟩
 ·obtain ⟨row,hrow,hk⟩:=VT (s:=(S i).s) (bx:=(S i).bx) (h:=(S i).h) hx h1';have hxl:Cl (S i).s x = .lp u j:=hx;rw[hxl] at sv;obtain ⟨r,hr,_⟩:=sv;obtain ⟨row',_,_,hrow',_⟩:=hI.f.has u r hr;have hq:As (S q).bx u=some row:=by
   rcases Nat.le_total i q with hiq | hqi
   ·exact SR hV hiq hI.q1 (λk g1 g2 hb=>(keeps k hb (apart k hb (.inl ⟨g1,g2⟩))).1 u j hxl) hrow
   ·have:=SR hV hqi (YN hil) (λk g1 g2 hb=>(keeps k hb (apart k hb (.inr ⟨g1,g2⟩))).1 u j hxl) hrow';rw[hrow] at this;injection this with this;subst this;exact hrow'
  exact fin rfl (hk (S q).h.length (S q).bx (S q).h hq)
 ·obtain ⟨cs,hcs,hk⟩:=Ux (s:=(S i).s) (bx:=(S i).bx) (h:=(S i).h) hx h1';have hxl:Cl (S i).s x = .ptr (some (b,i0,j)):=hx;rw[hxl] at sv;have hρ:∃ e,ρ b=some e:=by have sv:VR ρ (.ptr (some (b,i0,j))) (a.tmps.getD x undef):=sv;simp only[VR] at sv;obtain ⟨e,he,_⟩:=sv;exact ⟨e,he⟩
  obtain ⟨e,he⟩:=hρ;have hq:ld (S q).h b i0 j (X.ty t).size=some cs:=by
   rcases Nat.le_total i q with hiq | hqi
   ·have hbl:b<(S i).h.length:=by obtain ⟨R,el,ro,rs,row,g1,_⟩:=ST hcs;exact (XY.1 g1).1
    rw[SW hV hiq hI.q1 hbl (λk g1 g2 hb=>(keeps k hb (apart k hb (.inl ⟨g1,g2⟩))).2 b i0 j hxl)];exact hcs
   ·have hbl:b<(S q).h.length:=(hI.h.dom b e he).1;rw[<- SW hV hqi (YN hil) hbl (λk g1 g2 hb=>(keeps k hb (apart k hb (.inr ⟨g1,g2⟩))).2 b i0 j hxl)];exact hcs
  exact fin rfl (hk (S q).h.length (S q).bx (S q).h hq)
include hV hI hcl ho hready hn hX hE hC hK in
theorem VX {tb eb:Nat} (hbx:C5 cl i o=some (tb,eb)) (hS:S (i+1)=putS (S i) o.dst (.lp tb 0)):o.wp P a w K Q:=by
 have hil:i<all.length:=(XY.1 ho).1;obtain ⟨hc,hop,hdst,hm⟩:=D2 hbx;obtain ⟨k1,k2,k3,k4⟩:=hV.box i o ho tb eb hbx;have hnb:¬ IN all cl i:=λhb=>by rw[hb.2.2] at hc;cases hc
 have hM:=(hV.G.box i o tb eb ho hbx).1;have row:∀ p,p<=q->As (S p).bx tb=some (X.ty eb).zero:=by
  intro p;induction p with
  | zero=>intro _;exact k4
  | succ p ih =>
   intro hp;have hpl:p<all.length:=by have:=hI.q1;omega
   refine Rb hV.G hV.step (λj o' hj=>hV.keep j (XY.1 hj).1) ho hbx hpl (λhb=>?_) (ih (by omega));have hLp:=hI.q3 p (by omega) hb;cases hcm:Fo (AJ [] all) p i with
   | false=>rfl
   | true =>exfalso;have hg:all[p]?=some all[p]:=Yc hpl;have hne:p≠i:=λe=>hn (e ▸ hLp);have h1:=(Hr hV.G hcl ho hg hready hn hne (.inr hcm)).1 hLp;rw[Iu hV.G ho hbx hg (by omega)] at hcm;cases hcm
 have hβ:β tb=none:=by
  cases hb:β tb with
  | none=>rfl
  | some r =>
   exfalso;rcases hI.bxs tb r hb with ⟨r0,g⟩ | ⟨j,g1,g2,g3,_⟩ | ⟨j,o',e',g1,g2,g3⟩
   ·rw[k3] at g;cases g
   ·have:=hV.bx_some (Yl j) (YN g1) (t:=tb) (by rw[k4];rfl);rw[g3] at this;cases this
   ·have hne:j≠i:=λe=>hn (e ▸ g1);have d1:=(D2 g3).2.2.1;rcases Nat.lt_or_ge j i with h | h
    ·rcases hV.G.pair j i o' o g2 ho h with g4 | ⟨g4,_⟩
     ·rw[Iu hV.G ho hbx g2 (YN h)] at g4;cases g4
     ·exact HX (t:=tb) g4 (by rw[d1];simp) (by unfold CH;rw[hdst];simp)
    ·rcases hV.G.pair i j o o' ho g2 (by omega) with g4 | ⟨g4,_⟩
     ·rw[Iu hV.G g2 g3 ho h] at g4;cases g4
     ·exact HX (t:=tb) g4 (by rw[hdst];simp) (by unfold CH;rw[d1];simp)
 have h1:=LD (lo':=(S q).h.length) (s:=rd o (S i).s) (h:=(S q).h) (bx:=Fu tb (S q).bx) hop hdst k1 k2 (by rw[CT,if_pos rfl]);unfold Aw at h1;have hf0:FRel ρ β (Fu tb (S q).bx) w:=hI.f.sub λt r hr=>by rw[CT,if_neg (λe=>by rw[e,hβ] at hr;cases hr)]
 refine FN (lo:=(S q).h.length) (base:=w.heap.size) (σ:=⟨rd o (S i).s,Fu tb (S q).bx,(S q).h⟩) (K:=λv σ=>some (v,σ)) (r:=(.lp tb 0,_)) hX hE hC h1 (OX hV hI hcl ho hready hn λt c h=>h) hI.h hf0 (X1 _) (X1 _)
  (λhw=>by unfold DU at hw;rw[hop] at hw;cases hw) ?_
 intro v' σ' c w' hk' hf;injection hk' with hk';injection hk' with z1 z2;subst z1;subst z2;obtain ⟨ρ',β',f1,f2,f3,f4,f5,f6,f7,f8⟩:=hf;have hρ:ρ'=ρ:=by
  funext b;cases hb:ρ b with
  | some e=>exact f5.rle b e hb
  | none =>
   cases hb':ρ' b with
   | none=>rfl
   | some e =>have g1:=(f5.new b e hb hb').1;have g2:=(f3.dom b e hb').1;exact absurd g2 (Zl.2 g1)
 subst hρ;have hfr:∀ r,r<w.heap.size->w'.heap[r]?=w.heap[r]?:=λr hr=>f5.frame r hr λb e hb hle=>by have:=(hI.h.dom b e hb).1;exact absurd this (Zl.2 hle)
 have hF:FRel ρ' β' (S q).bx w':=f4.sub λt r hr=>by
  show As (S q).bx t=As ((tb,(X.ty eb).zero) :: Fu tb (S q).bx) t;rw[AP,CT];by_cases e:tb=t
  ·rw[if_pos e,<- e];exact row q (X1 _)
  ·rw[if_neg e,if_neg (λe'=>e e'.symm)]
 have hs:=FJ hV hI hcl ho hready hn hS rfl (Rle.refl _) f6 f2;have hx:Ext0 lo base ρ0 (S 0).h.length w0 ρ' w':=Ip hI (Rle.refl _) (λb e h1 h2=>by rw[h1] at h2;cases h2) (λr hr _=>hfr r (Yb hr hI.hB)) f5.size f5.os f5.tape f5.output;have hh1:(S (i+1)).h=(S i).h:=by rw[hS,LS]
 obtain ⟨q',hI'⟩:=Ls hI (i:=i) hnb (ρ2:=ρ') (β2:=β') (a':=a.put o.dst c) (w':=w') f3 hF hs (λt r hr=>by
   cases hb:β t with
   | some r0 =>have:=f6 t r0 hb;rw[hr] at this;injection this with this;subst this;exact hI.own t _ hb
   | none=>exact XX hI.hB (f7 t r hb hr).1) (XX hI.hB f5.size) (C0 hI).1 (C0 hI).2 hx
  (λj hj hL b g1 g2=>by
   rcases hL with hL | rfl
   ·exact hI.tot j hj hL b g1 g2
   ·rw[hh1] at g2;omega)
  (λb e hb=>(hI.ids b e hb).imp id λ⟨j,h1,h2,h3⟩=>⟨j,h1,.inl h2,h3⟩)
  (λt r hr=>by
   cases hb:β t with
   | some r0=>exact (hI.bxs t r0 hb).more
   | none =>
    have h7:As (Fu tb (S q).bx) t=none:=(f7 t r hb hr).2;obtain ⟨row',_,_,g2,_⟩:=f4.has t r hr;have g2:As ((tb,(X.ty eb).zero) :: Fu tb (S q).bx) t=some row':=g2;rw[AP,h7] at g2;by_cases e:tb=t
    ·exact .inr (.inr ⟨i,o,eb,.inr rfl,ho,by rw[<- e];exact hbx⟩)
    ·rw[if_neg e] at g2;cases g2)
 exact hK _ _ _ _ _ hI'
include hV hI hcl ho hready hn hX hE hC hK in
theorem VY (hb:IN all cl i) (h1:Aw X lo o.dst o.type o.op (S i)=some (v,σ1)) (hS:S (i+1)=putS σ1 o.dst v):o.wp P a w K Q:=by
 have hq:=PB hV hI hcl ho hready hn hb;have hil:i<all.length:=(XY.1 ho).1;have hsl:=Fv (s:=(S i).s) (bx:=(S i).bx) (h:=(S i).h) (s':=rd o (S i).s) (λx hx=>Mm x hx) h1;obtain ⟨ρt,βt,at',wt,hot,hmt⟩:=hV.ok i (YN hil);have hh0:HRel ρ (S i).h w:=by rw[hq];exact hI.h
 have hf0:FRel ρ β (S i).bx w:=by rw[hq];exact hI.f
 unfold Aw at hsl;refine FN (lo:=lo) (base:=base) (σ:=⟨rd o (S i).s,(S i).bx,(S i).h⟩) (K:=λv σ=>some (v,σ)) (r:=(v,⟨rd o (S i).s,σ1.bx,σ1.h⟩)) hX hE hC hsl (OX hV hI hcl ho hready hn λt c h=>h) hh0 hf0 hI.hB hot.hlo (λ_=>hI.own) ?_;intro v' σ' c w' hk' hf;injection hk' with hk';injection hk' with z1 z2;subst z1;subst z2;obtain ⟨ρ',β',f1,f2,f3,f4,f5,f6,f7,f8⟩:=hf;have hs:=FJ hV hI hcl ho hready hn hS (Jc (s:=(S i).s) (bx:=(S i).bx) (h:=(S i).h) h1) f5.rle f6 f2;have e1:(S (i+1)).h=σ1.h:=by rw[hS,LS]
 have e2:(S (i+1)).bx=σ1.bx:=by rw[hS,Gm]
 have hx:Ext0 lo base ρ0 (S 0).h.length w0 ρ' w':=Ip hI f5.rle (λb e h1 h2=>by
   obtain ⟨g1,g2⟩:=f5.new b e h1 h2;exact ⟨XX (hV.len_le (Yl i) (YN hil)) g1,g2⟩) f5.frame f5.size f5.os f5.tape f5.output
 obtain ⟨q',hI'⟩:=SY hV hI hcl ho hready hn hb (ρ2:=ρ') (β2:=β') (a':=a.put o.dst c) (w':=w') (by rw[e1];exact f3) (by rw[e2];exact f4) hs (λt r hr=>by
   cases hb:β t with
   | some r0 =>have:=f6 t r0 hb;rw[hr] at this;injection this with this;subst this;exact hI.own t _ hb
   | none=>exact XX hI.hB (f7 t r hb hr).1) (XX hI.hB f5.size) (C0 hI).1 (C0 hI).2 hx
  (λj hj hL b g1 g2=>by
   rcases hL with hL | rfl
   ·obtain ⟨e,he⟩:=hI.tot j hj hL b g1 g2;exact ⟨e,f5.rle b e he⟩
   ·rw[e1] at g2;exact f5.tot b g1 g2)
  (λb e hb=>by
   cases hρ:ρ b with
   | some e0=>exact (hI.ids b e0 hρ).imp id λ⟨j,h1,h2,h3⟩=>⟨j,h1,.inl h2,h3⟩
   | none =>
    exact .inr ⟨i,hil,.inr rfl,(f5.new b e hρ hb).1,by rw[e1];exact (f3.dom b e hb).1⟩)
  (λt r hr=>by
   cases hb:β t with
   | some r0=>exact (hI.bxs t r0 hb).more
   | none =>
    obtain ⟨row,_,_,g2,_⟩:=f4.has t r hr;exact .inr (.inl ⟨i,hil,.inr rfl,(f7 t r hb hr).2,by rw[e2];rw[g2];rfl⟩))
 exact hK _ _ _ _ _ hI'
end
end Go.Proofs.YtmdgiekbejjjgaaGreat.T
namespace Go.Proofs.YtmdgiekbejjjgaaGreat.T
open Go
section
variable {P:Program}{X:Ctx}{lo base nt:Nat}{ρ0:Rho}{β0:Bet}{w0:World}{all:List Oper}{cl:Nat->Bool}{S:Nat->St} (hV:Env P X lo base nt ρ0 β0 w0 all cl S)
variable {L:Nat->Prop}{q:Nat}{ρ:Rho}{β:Bet}{a:Act}{w:World} (hI:Inv lo base nt ρ0 β0 w0 all cl S L q ρ β a w)
variable (hcl:∀ (i:Nat) (o:Oper),all[i]?=some o->L i->∀ e∈o.after.toList,B4 e=true->L e.on)
variable {i:Nat}{o:Oper} (ho:all[i]?=some o) (hready:∀ e∈o.after.toList,B4 e=true->L e.on) (hn:¬ L i)
variable (hX:X.ty=Au P) (hE:∀ t,X.cmp t=true->EqOk P t) (hC:SC P X.call)
variable {K:Act->World->Prop}{Q:Exit->Act->World->Prop}
 (hK:∀ q' ρ' β' a' w',Inv lo base nt ρ0 β0 w0 all cl S (λj=>L j\/j=i) q' ρ' β' a' w'->K a' w')
def Rho.mix (n:Nat) (ρ ρ':Rho):Rho:=λb=>if b<n then ρ b else match ρ b with | some e=>some e | none=>ρ' b
def Bet.mix (β β':Bet):Bet:=λt=>match β t with | some r=>some r | none=>β' t
include hV hI hcl ho hready hn hX hE hC hK in
theorem UE (hb:¬ IN all cl i) (hi:C2 o=false) (hci:cl i=false) {v:V}{σ1:St} (h1:Aw X (S i).h.length o.dst o.type o.op (S i)=some (v,σ1)) (hS:S (i+1)=putS σ1 o.dst v):o.wp P a w K Q:=by
 obtain ⟨hiq,hnb⟩:=VD hV hI hcl ho hready hn hb hi hci;have hil:i<all.length:=(XY.1 ho).1;have hsl:=Fv (s:=(S i).s) (bx:=(S i).bx) (h:=(S i).h) (s':=rd o (S i).s) (λx hx=>Mm x hx) h1;obtain ⟨βt,hβt,hh0,hf0,hs0⟩:=V9 hV hI (YN hiq) hnb;unfold Aw at hsl;refine FN (lo:=(S i).h.length) (base:=w.heap.size) (σ:=⟨rd o (S i).s,(S i).bx,(S i).h⟩) (K:=λv σ=>some (v,σ)) (r:=(v,⟨rd o (S i).s,σ1.bx,σ1.h⟩)) hX hE hC hsl (OX hV hI hcl ho hready hn hs0) hh0 hf0 (X1 _) (X1 _) (λhw=>?_) ?_
 ·exact absurd ⟨hV.G.wr i o ho hw,⟨o,ho,hi⟩,hci⟩ hb
 intro v' σ' c w' hk' hf;injection hk' with hk';injection hk' with z1 z2;subst z1;subst z2;obtain ⟨ρ',β',f1,f2,f3,f4,f5,f6,f7,f8⟩:=hf;have e1:(S (i+1)).h=σ1.h:=by rw[hS,LS]
 have e2:(S (i+1)).bx=σ1.bx:=by rw[hS,Gm]
 have hfr:∀ r,r<w.heap.size->w'.heap[r]?=w.heap[r]?:=λr hr=>f5.frame r hr λb e hb hle=>by have:=(Rho.low_some hb).1;exact absurd this (Zl.2 hle)
 have hq:=hI.q1;have hnb':∀ k,i+1<=k->k<q->¬ IN all cl k:=λk h1 h2=>hnb k (by omega) h2;have hlen1:σ1.h.length<=(S q).h.length:=by rw[<- e1];exact hV.len_le hiq hq
 have hsame1:∀ b,b<σ1.h.length->(S q).h[b]?=σ1.h[b]?:=λb hb=>by rw[<- e1] at hb ⊢;exact hV.same_le hiq hq hnb' hb
 have hfresh:∀ b,(S i).h.length<=b->b<σ1.h.length->ρ b=none:=λb g1 g2=>by
  cases hρ:ρ b with
  | none=>rfl
  | some e =>
   rcases hI.ids b e hρ with g | ⟨j,g3,g4,g5,g6⟩
   ·have:=hV.len_le (Yl i) (YN hil);omega
   ·have hne:j≠i:=λe=>hn (e ▸ g4);rcases Nat.lt_or_ge j i with h | h
    ·have:=hV.len_le (show j+1<=i by omega) (YN hil);omega
    ·have:=hV.len_le (show i+1<=j by omega) (YN g3);rw[e1] at this;omega
 have hnew:∀ b e,ρ b=none->ρ' b=some e->(S i).h.length<=b/\b<σ1.h.length/\w.heap.size<=e.r:=λb e g1 g2=>by
  have hl:ρ.low (S i).h.length b=none:=by unfold Rho.low;split<;>first | exact g1 | rfl
  obtain ⟨g3,g4⟩:=f5.new b e hl g2;refine ⟨g3,(f3.dom b e g2).1,g4.resolve_right ?_⟩
  rintro ⟨b0,e0,g5,g6,_⟩
  have:=(Rho.low_some g5).1;exact absurd this (Zl.2 g6)
 have hmix:∀ b e,Rho.mix (S i).h.length ρ ρ' b=some e->ρ b=some e\/(ρ b=none/\ρ' b=some e):=λb e g=>by
  unfold Rho.mix at g;split at g
  ·exact .inl g
  ·split at g
   ·rename_i e' h';exact .inl (by rw[h',g])
   ·rename_i h';exact .inr ⟨h',g⟩
 have hle:Rle ρ (Rho.mix (S i).h.length ρ ρ'):=λb e g=>by
  unfold Rho.mix;split
  ·exact g
  ·rw[g]
 have hle':Rle ρ' (Rho.mix (S i).h.length ρ ρ'):=λb e g=>by
  have hd:=(f3.dom b e g).1;unfold Rho.mix;split
  ·rename_i hlt
   cases hl:ρ.low (S i).h.length b with
   | some e' =>have:=f5.rle b e' hl;rw[g] at this;injection this with this;subst this;exact (Rho.low_some hl).2
   | none=>have:=(f5.new b e hl g).1;exact absurd hlt (Zl.2 this)
  ·rename_i hge
   rw[hfresh b (Zl.1 hge) hd];exact g
 have hble:Ble β (Bet.mix β β'):=λt r g=>by unfold Bet.mix;rw[g]
 have hnewB:∀ t r,β t=none->β' t=some r->w.heap.size<=r/\As (S i).bx t=none:=λt r g1 g2=>by
  have hl:Bet.low βt β t=none:=by unfold Bet.low;split<;>first | exact g1 | rfl
  exact f7 t r hl g2
 have hble':Ble β' (Bet.mix β β'):=λt r g=>by
  unfold Bet.mix;cases hb:β t with
  | none=>exact g
  | some r0 =>
   show some r0=some r;by_cases hlk:(βt t).isSome=true
   ·have:=f6 t r0 (Bet.low_of hlk hb);rw[g] at this;exact this.symm
   ·have hl:Bet.low βt β t=none:=by unfold Bet.low;rw[if_neg hlk]
    have hnone:=(f7 t r hl g).2;obtain ⟨row,_,_,g2,_⟩:=f4.has t r g;have hsome1:(As (S (i+1)).bx t).isSome=true:=by rw[e2];show (As σ1.bx t).isSome=true;rw[g2];rfl
    exfalso;have hnone:As (S i).bx t=none:=hnone;rcases hI.bxs t r0 hb with ⟨r1,g3⟩ | ⟨j,g3,g4,g5,g6⟩ | ⟨j,o',e',g3,g4,g5⟩
    ·exact hlk (by rw[hβt t r1 g3];rfl)
    ·have hne:j≠i:=λe=>hn (e ▸ g4);rcases Nat.lt_or_ge j i with h | h
     ·have:=hV.bx_some (show j+1<=i by omega) (YN hil) g6;rw[hnone] at this;cases this
     ·have:=hV.bx_some (show i+1<=j by omega) (YN g3) hsome1;rw[g5] at this;cases this
    ·have:=hV.bx_some (Yl i) (YN hil) (t:=t) (by rw[(hV.box j o' g4 t e' g5).2.2.2];rfl);rw[hnone] at this;cases this
 have hmixB:∀ t r,Bet.mix β β' t=some r->β t=some r\/(β t=none/\β' t=some r):=λt r g=>by
  unfold Bet.mix at g;split at g
  ·rename_i r' h';exact .inl (by rw[h',g])
  ·rename_i h';exact .inr ⟨h',g⟩
 have hs:=FJ hV hI hcl ho hready hn hS (Jc (s:=(S i).s) (bx:=(S i).bx) (h:=(S i).h) h1) hle hble (c:=c) (f2.mono hle' hble');have hx:Ext0 lo base ρ0 (S 0).h.length w0 (Rho.mix (S i).h.length ρ ρ') w':=Ip hI hle (λb e g1 g2=>by
   rcases hmix b e g2 with g | ⟨_,g⟩
   ·rw[g1] at g;cases g
   ·obtain ⟨g3,_,g4⟩:=hnew b e g1 g;exact ⟨XX (hV.len_le (Yl i) (YN hil)) g3,.inl (XX hI.hB g4)⟩) (λr hr _=>hfr r (Yb hr hI.hB)) f5.size f5.os f5.tape f5.output
 have hH:HRel (Rho.mix (S i).h.length ρ ρ') (S q).h w':=by
  refine ⟨λb e g=>?_,λb e k g hk=>?_,λb b' e e' g g' hr hne=>?_⟩
  ·rcases hmix b e g with g | ⟨_,g⟩
   ·exact ⟨(hI.h.dom b e g).1,Yb (hI.h.dom b e g).2 f5.size⟩
   ·exact ⟨Yb (f3.dom b e g).1 hlen1,(f3.dom b e g).2⟩
  ·rcases hmix b e g with g | ⟨_,g⟩
   ·exact BR.mono hle (hfr _ (hI.h.dom b e g).2) (hI.h.blk b e k g hk)
   ·rw[hsame1 b (f3.dom b e g).1] at hk;exact BR.mono hle' rfl (f3.blk b e k g hk)
  ·rcases hmix b e g with g | ⟨g0,g⟩<;>rcases hmix b' e' g' with g' | ⟨g0',g'⟩
   ·exact hI.h.inj b b' e e' g g' hr hne
   ·have h1:=(hI.h.dom b e g).2;have h2:=(hnew b' e' g0' g').2.2;omega
   ·have h1:=(hI.h.dom b' e' g').2;have h2:=(hnew b e g0 g).2.2;omega
   ·have s1:=hsame1 b (f3.dom b e g).1;have s2:=hsame1 b' (f3.dom b' e' g').1;rcases f3.inj b b' e e' g g' hr hne with h | h | ⟨⟨x,y,z,h⟩,⟨x',y',z',h'⟩⟩
    ·exact .inl (by unfold Bg at *;rw[s1];exact h)
    ·exact .inr (.inl (by unfold Bg at *;rw[s2];exact h))
    ·exact .inr (.inr ⟨⟨x,y,z,by rw[s1];exact h⟩,⟨x',y',z',by rw[s2];exact h'⟩⟩)
 have hF:FRel (Rho.mix (S i).h.length ρ ρ') (Bet.mix β β') (S q).bx w':=by
  refine ⟨λt r g=>?_,λt r g=>?_,λt t' r g g'=>?_,λt r b e g g'=>?_⟩
  ·rcases hmixB t r g with g | ⟨_,g⟩
   ·obtain ⟨row,cs,el,k1,k2,k3⟩:=hI.f.has t r g;exact ⟨row,cs,el,k1,(hfr r (hI.f.lt t r g)).trans k2,VRs.mono hle _ _ k3⟩
   ·obtain ⟨row,cs,el,k1,k2,k3⟩:=f4.has t r g;refine ⟨row,cs,el,?_,k2,VRs.mono hle' _ _ k3⟩;exact hV.bx_same hiq hq hnb' (by rw[e2];exact k1)
  ·rcases hmixB t r g with g | ⟨_,g⟩
   ·exact Yb (hI.f.lt t r g) f5.size
   ·exact f4.lt t r g
  ·rcases hmixB t r g with g | ⟨g0,g⟩<;>rcases hmixB t' r g' with g' | ⟨g0',g'⟩
   ·exact hI.f.inj t t' r g g'
   ·have h1:=hI.f.lt t r g;have h2:=(hnewB t' r g0' g').1;omega
   ·have h1:=hI.f.lt t' r g';have h2:=(hnewB t r g0 g).1;omega
   ·exact f4.inj t t' r g g'
  ·rcases hmixB t r g with g | ⟨g0,g⟩<;>rcases hmix b e g' with g' | ⟨g0',g'⟩
   ·exact hI.f.off t r b e g g'
   ·have h1:=hI.f.lt t r g;have h2:=(hnew b e g0' g').2.2;omega
   ·have h1:=(hI.h.dom b e g').2;have h2:=(hnewB t r g0 g).1;omega
   ·exact f4.off t r b e g g'
 obtain ⟨q',hI'⟩:=Ls hI (i:=i) hb (ρ2:=Rho.mix (S i).h.length ρ ρ') (β2:=Bet.mix β β') (a':=a.put o.dst c) (w':=w') hH hF hs (λt r g=>by
   rcases hmixB t r g with g | ⟨g0,g⟩
   ·exact hI.own t r g
   ·exact XX hI.hB (hnewB t r g0 g).1) (XX hI.hB f5.size) (C0 hI).1 (C0 hI).2 hx
  (λj hj hL b g1 g2=>by
   rcases hL with hL | rfl
   ·obtain ⟨e,he⟩:=hI.tot j hj hL b g1 g2;exact ⟨e,hle b e he⟩
   ·rw[e1] at g2;obtain ⟨e,he⟩:=f5.tot b g1 g2;exact ⟨e,hle' b e he⟩)
  (λb e g=>by
   rcases hmix b e g with g | ⟨g0,g⟩
   ·exact (hI.ids b e g).imp id λ⟨j,h1,h2,h3⟩=>⟨j,h1,.inl h2,h3⟩
   ·obtain ⟨g3,g4,_⟩:=hnew b e g0 g;exact .inr ⟨i,hil,.inr rfl,g3,by rw[e1];exact g4⟩)
  (λt r g=>by
   rcases hmixB t r g with g | ⟨g0,g⟩
   ·exact (hI.bxs t r g).more
   ·obtain ⟨row,_,_,g2,_⟩:=f4.has t r g;have g2:As σ1.bx t=some row:=g2;exact .inr (.inl ⟨i,hil,.inr rfl,(hnewB t r g0 g).2,by rw[e2,g2];rfl⟩))
 exact hK _ _ _ _ _ hI'
end
end Go.Proofs.YtmdgiekbejjjgaaGreat.T
namespace Go.Proofs.YtmdgiekbejjjgaaGreat.T
open Go
theorem OH (e:Edge):Region.binds .any e=B4 e:=by obtain ⟨on,g⟩:=e;cases g<;>rfl
section
variable {P:Program}{X:Ctx}{lo base nt:Nat}{ρ0:Rho}{β0:Bet}{w0:World}{ops:Array Oper}{cl:Nat->Bool}{S:Nat->St} (hV:Env P X lo base nt ρ0 β0 w0 ops.toList cl S)
variable (hX:X.ty=Au P) (hE:∀ t,X.cmp t=true->EqOk P t) (hC:SC P X.call)
variable {Q:Exit->Act->World->Prop}
theorem Tn {n b:Nat} (hn:n<=ops.toList.length) (h1:(S 0).h.length<=b) (h2:b<(S n).h.length):∃ j,j<n/\(S j).h.length<=b/\b<(S (j+1)).h.length:=by
 induction n with
 | zero=>omega
 | succ n ih =>
  by_cases h:b<(S n).h.length
  ·obtain ⟨j,g1,g2⟩:=ih (by omega) h;exact ⟨j,by omega,g2⟩
  ·exact ⟨n,by omega,by omega,h2⟩
include hV in
theorem SX {L:Nat->Prop}{q:Nat}{ρ:Rho}{β:Bet}{a:Act}{w:World} (hI:Inv lo base nt ρ0 β0 w0 ops.toList cl S L q ρ β a w) (hall:∀ j,j<ops.toList.length->L j) :
  Ok lo base nt ρ β (S ops.toList.length) a w/\Ext lo base ρ0 (S 0).h w0 ρ (S ops.toList.length).h w:=by
 have hq:q=ops.toList.length:=by
  rcases Nat.lt_or_ge q ops.toList.length with h | h
  ·exact absurd (hall q h) (hI.q2 h).2
  ·exact Nat.le_antisymm hI.q1 h
 have h1:=hI.h;have h2:=hI.f;rw[hq] at h1 h2;obtain ⟨ρt,βt,at',wt,hot,hmt⟩:=hV.ok _ (X1 _);refine ⟨⟨λt=>?_,h1,h2,hI.own,hI.hB,hot.hlo,hI.nt,hI.df⟩,⟨hI.x.rle,hI.x.new,hI.x.frame,hI.x.size,hI.x.os,hI.x.tape,hI.x.output,hV.len_le (Yl _) (X1 _),hmt.1.pres,λb g1 g2=>?_⟩⟩
 ·refine hI.s t _ (X1 _) λj hw=>?_;obtain ⟨p,hp,_⟩:=hw;have hj:=(XY.1 hp).1;exact ⟨λ_=>hj,λ_=>hall j hj⟩
 ·obtain ⟨j,g3,g4,g5⟩:=Tn (X1 _) g1 g2;exact hI.tot j g3 (hall j g3) b g4 g5
include hV hX hE hC in
theorem Xh (hend:∀ (i:Nat) (o:Oper),ops.toList[i]?=some o->cl i=true->∀ a,Cm o=some a->S5 (AJ [] ops.toList) ops.toList cl i a=true\/∃ u j,Cl (S i).s a = .lp u j) (hQ:∀ ρ' β' a' w',Ok lo base nt ρ' β' (S ops.toList.length) a' w'->Ext lo base ρ0 (S 0).h w0 ρ' (S ops.toList.length).h w'->Q .normal a' w') :
  ∀ (fuel:Nat) (listed:Array Bool) (q:Nat) (ρ:Rho) (β:Bet) (a:Act) (w:World),listed.size=ops.size->listed.toList.count false<=fuel ->
   (∀ (i:Nat) (o:Oper),ops.toList[i]?=some o->listed.getD i false=true->∀ e∈o.after.toList,B4 e=true->listed.getD e.on false=true) ->
   Inv lo base nt ρ0 β0 w0 ops.toList cl S (λj=>listed.getD j false=true) q ρ β a w->wpAny P .any ops Q fuel listed a w:=by
 have hnone:∀ (listed:Array Bool),listed.size=ops.size->(∀ (i:Nat) (o:Oper),ops.toList[i]?=some o->listed.getD i false=true->∀ e∈o.after.toList,B4 e=true->listed.getD e.on false=true)->Region.ready .any ops listed = []->∀ j,j<ops.toList.length->listed.getD j false=true:=by
  intro listed hsz hcl hr j;induction j using Nat.strongRecOn with
  | _ j ih =>
   intro hj;cases hl:listed.getD j false with
   | true=>rfl
   | false =>
    exfalso;have hj':j<ops.size:=by simpa using hj
    have hlt:j<listed.size:=by omega
    have hmem:j∈Region.ready .any ops listed:=by
     unfold Region.ready;rw[List.mem_filter];refine ⟨by simpa using hj',?_⟩;have h1:listed.getD j true=false:=by rw[Yg,Yz hlt] at hl ⊢;simpa using hl
     rw[h1];have h2:ops[j]?=some ops[j]:=Yz hj';rw[h2];simp only[Y0,Y4,Ze,Yn];rw[Array.all_eq_true'];intro e he;cases hb:B4 e with
     | false=>rw[OH,hb];rfl
     | true =>have hlt2:=hV.G.edge j ops[j] (by simpa using h2) e (by simpa using he) hb;rw[ih e.on hlt2 (by omega)];simp
    rw[hr] at hmem;cases hmem
 intro fuel;induction fuel with
 | zero =>
  intro listed q ρ β a w hsz hcnt hcl hI;have hall:∀ j,j<ops.toList.length->listed.getD j false=true:=λj hj=>by
   have hj':j<listed.size:=by
                    have:j<ops.size:=by simpa using hj
                    omega
   have h0:listed.toList.count false=0:=by omega
   rw[List.count_eq_zero] at h0;rw[Yg,Yz hj'];cases hv:listed[j] with
   | true=>rfl
   | false=>exact absurd (by rw[<- hv];simp) h0
  refine ⟨?_,?_⟩
  ·unfold Region.ready;rw[List.filter_eq_nil_iff];intro j hj;have hj2:j<ops.size:=by simpa using hj
   have:=hall j (by simpa using hj2);have hj':j<listed.size:=by omega
   rw[Yg,Yz hj'] at this;have h1:listed.getD j true=true:=by rw[Yg,Yz hj'];simpa using this
   rw[h1];simp
  ·obtain ⟨h1,h2⟩:=SX hV hI hall;exact hQ _ _ _ _ h1 h2
 | succ fuel ih =>
  intro listed q ρ β a w hsz hcnt hcl hI;refine ⟨λhr=>?_,λi hi=>?_⟩
  ·obtain ⟨h1,h2⟩:=SX hV hI (hnone listed hsz hcl hr);exact hQ _ _ _ _ h1 h2
  ·unfold Region.ready at hi;rw[List.mem_filter] at hi;obtain ⟨hi1,hi2⟩:=hi;have hil:i<ops.size:=by simpa using hi1
   have hil':i<listed.size:=by omega
   have hg:ops[i]?=some ops[i]:=Yz hil;have ho:ops.toList[i]?=some ops[i]:=by simpa using hg
   rw[X7] at hi2;obtain ⟨hi3,hi4⟩:=hi2;have hli:listed[i]=false:=by rw[Yg,Yz hil'] at hi3;simpa using hi3
   have hn:¬ (listed.getD i false=true):=by rw[Yg,Yz hil'];simp[hli]
   have hready:∀ e∈(ops[i]).after.toList,B4 e=true->listed.getD e.on false=true:=by rw[hg] at hi4;simp only[Y0,Y4] at hi4;rw[Array.all_eq_true'] at hi4;intro e he hb;have:=hi4 e (by simpa using he);rw[OH,hb] at this;simpa using this
   have hget:∀ j,(listed.setIfInBounds i true).getD j false=true<->(listed.getD j false=true\/j=i):=by
    intro j;rw[Yg,Yg,YT];by_cases h:i=j
    ·subst h;simp[hil']
    ·rw[if_neg h];constructor
     ·exact .inl
     ·rintro (h1 | h1)
      ·exact h1
      ·exact absurd h1.symm h
   have hcnt':(listed.setIfInBounds i true).toList.count false<=fuel:=by rw[Array.toList_setIfInBounds,List.count_set (by simpa using hil')];have hpos:0<listed.toList.count false:=List.count_pos_iff.2 (by rw[<- hli];simp);simp[hli];simp at hcnt hpos;omega
   have hcl':∀ (j:Nat) (o:Oper),ops.toList[j]?=some o->(listed.setIfInBounds i true).getD j false=true->∀ e∈o.after.toList,B4 e=true->(listed.setIfInBounds i true).getD e.on false=true:=by
    intro j o hj hl e he hb;rw[hget] at hl ⊢;rcases hl with hl | rfl
    ·exact .inl (hcl j o hj hl e he hb)
    ·rw[ho] at hj;injection hj with hj;subst hj;exact .inl (hready e he hb)
   have hK:∀ q' ρ' β' a' w',Inv lo base nt ρ0 β0 w0 ops.toList cl S (λj=>listed.getD j false=true\/j=i) q' ρ' β' a' w'->wpAny P .any ops Q fuel (listed.setIfInBounds i true) a' w':=by
    intro q' ρ' β' a' w' hI';refine ih _ q' ρ' β' a' w' (by simpa using hsz) hcnt' hcl' ?_;have:(λj=>(listed.setIfInBounds i true).getD j false=true)=(λj=>listed.getD j false=true\/j=i):=by funext j;exact propext (hget j)
    rw[this];exact hI'
   have hgw:=λb (hk:Sc ops.toList (S i).s (ops[i]).guard=some b)=>Jz (ρ:=ρ) (β:=β) (a:=a) (s:=(S i).s) (o:=ops[i]) (run:=some true) (skip:=some false) (r:=b) (λj want g t h1 h2 h3=>by
    refine JW hV hI hcl ho hready hn (t:=t) ?_;unfold CH OW QO;rw[h1];have h2':ops.toList[j]?=some g:=by simpa using h2
    simp only[h2',h3];simp) hk
   unfold wpOp;rw[hg];simp only;rcases hV.step i _ ho with ⟨hbn,hgo,v,σ1,h1,h2⟩ | ⟨hbn,hgo,h2⟩ | ⟨tb,eb,hbx,h2⟩
   ·rcases hgw _ hgo with ⟨hw,_⟩ | ⟨_,hw⟩
    ·rw[if_pos hw];refine .inl ?_;cases hin:C2 ops[i] with
     | true=>exact Tx hV hI hcl ho hready hn hX hE hC hK hin h1 h2
     | false =>
      cases hci:cl i with
      | true=>exact Tz hV hI hcl ho hready hn hX hE hC hK hci hbn (hend i _ ho hci) h1 h2
      | false =>
      cases hf:FY (AJ [] ops.toList) ops.toList cl i with
      | true =>
       have hc:GW ops.toList cl i=false:=by simp[GW,hf]
       rw[hc] at h1;exact VY hV hI hcl ho hready hn hX hE hC hK ⟨hf,⟨_,ho,hin⟩,hci⟩ h1 h2
      | false =>
       have hc:GW ops.toList cl i=true:=by simp[GW,hf]
       rw[hc] at h1;exact UE hV hI hcl ho hready hn hX hE hC hK (λhb=>by rw[hb.1] at hf;cases hf) hin hci h1 h2
    ·cases hw
   ·rcases hgw _ hgo with ⟨_,hw⟩ | ⟨hw,_⟩
    ·cases hw
    ·rw[hw];simp only[Y7,if_false];obtain ⟨q',hI'⟩:=U4 hV hI hcl ho hready hn h2;exact hK _ _ _ _ _ hI'
   ·have hgo:Sc ops.toList (S i).s (ops[i]).guard=some true:=by rw[(hV.G.box i _ tb eb ho hbx).2];rfl
    rcases hgw _ hgo with ⟨hw,_⟩ | ⟨_,hw⟩
    ·rw[if_pos hw];exact .inl (VX hV hI hcl ho hready hn hX hE hC hK hbx h2)
    ·cases hw
end
theorem Hv {X:Ctx}{cl:Nat->Bool}:∀ {l:List Oper}{i:Nat}{bx bx':List (Nat×List V)},EA X cl i l bx=some bx'->(∀ t row,As bx t=some row->As bx' t=some row) /\
  ∀ (k:Nat) (o:Oper) (t e:Nat),l[k]?=some o->C5 cl (i+k) o=some (t,e)->((X.ty e).known&&(X.ty e).hz&&Cr (X.ty e).zero)=true/\X.hb.any (Nat.beq t)=false/\As bx t=none/\As bx' t=some (X.ty e).zero
 | [],i,bx,bx',h=>by simp only[EA,Option.some.injEq] at h;subst h;exact ⟨λt row h=>h,λk o t e hk=>by simp at hk⟩
 | p :: l,i,bx,bx',h=>by
  simp only[EA] at h;cases hb:C5 cl i p with
  | none =>
   rw[hb] at h;obtain ⟨h1,h2⟩:=Hv h;refine ⟨h1,λk o t e hk hbk=>?_⟩;cases k with
   | zero =>simp at hk;subst hk;rw[YX,hb] at hbk;cases hbk
   | succ k=>exact h2 k o t e (by simpa using hk) (by rw[<- hbk];congr 1;omega)
  | some z =>
   obtain ⟨u,f⟩:=z;rw[hb] at h;simp only at h;split at h
   ·rename_i q1 q2 q3
    obtain ⟨h1,h2⟩:=Hv h;have up:∀ t row,As bx t=some row->As ((u,(X.ty f).zero) :: bx) t=some row:=λt row ht=>by
     rw[AP];split
     ·rename_i e;rw[<- e,q3] at ht;cases ht
     ·exact ht
    refine ⟨λt row ht=>h1 t row (up t row ht),λk o t e hk hbk=>?_⟩;cases k with
    | zero =>simp at hk;subst hk;rw[YX,hb] at hbk;injection hbk with hbk;injection hbk with e1 e2;subst e1;subst e2;exact ⟨q1,q2,q3,h1 _ _ (by rw[AP,if_pos rfl])⟩
    | succ k =>
     obtain ⟨g1,g2,g3,g4⟩:=h2 k o t e (by simpa using hk) (by rw[<- hbk];congr 1;omega);refine ⟨g1,g2,?_,g4⟩;rw[AP] at g3;split at g3
     ·cases g3
     ·exact g3
   ·cases h
theorem Wz {P:Program}{X:Ctx} (hw:X.wide=false) (hm:P.follows .mixedOrders=true) (hX:X.ty=Au P) (hE:∀ t,X.cmp t=true->EqOk P t) (hC:SC P X.call):PS P X:=by
 intro lo base nt R r ρ β σ bx a w id ops k Q hd hdr hbx hk ho hQ;obtain ⟨S,h0,hkS,hst⟩:=Ra ops.toList 0 _ rfl hk;obtain ⟨hb1,hb2⟩:=Hv hbx;rw[Yw] at hkS;have hG:=U8 hdr;have hlps:Ox (S ops.toList.length).s (AJ [] ops.toList) ops.toList (Hs X.cl id)=true:=by
  cases he:Ox (S ops.toList.length).s (AJ [] ops.toList) ops.toList (Hs X.cl id) with
  | true=>rfl
  | false=>simp only[he] at hkS;cases hkS
 simp only[hlps] at hkS;have hod:Ok lo base nt ρ β (S 0) a w.drew:=by rw[h0];exact ⟨ho.s,ho.h.drew,ho.f.drew.ahead hb1,ho.own,ho.hB,ho.hlo,ho.nt,ho.df⟩
 have hV:Env P X lo base nt ρ β w.drew ops.toList (Hs X.cl id) S:=Xb hw hX hE hC hG (λj o hj=>(hst j o (Yl _) hj).1) (λj o hj=>(hst j o (Yl _) hj).2) (λj o hj t ht=>hd o (X8 hj) t ht) hod (λj o hj t e hb=>by
  obtain ⟨k1,k2,k3,k4⟩:=hb2 j o t e hj (by rw[Yw];exact hb);refine ⟨k1,k2,?_,by rw[h0];exact k4⟩;cases hβ:β t with
  | none=>rfl
  | some r =>
   obtain ⟨row,_,_,g,_⟩:=ho.f.has t r hβ;rw[k3] at g;cases g)
 refine wp_region_any hm ?_;obtain ⟨q,g1,g2,g3,g4,g5⟩:=Ti hV (L:=λ_=>False) (ρ:=ρ) (β:=β) (w:=w.drew) _ 0 rfl (Yl _) (λj hj=>absurd hj (Nat.not_lt_zero _)) (λ_ _ _ h=>h) hod.h hod.f;refine Xh hV hX hE hC (λi o ho hc a' hl=>?_) (λρ' β' a' w' h1 h2=>?_) ops.size _ q ρ β a w.drew (by simp) ?_ (λi o hi hl=>?_) ?_
 ·obtain ⟨t',a2,hop',hst',_⟩:=hG.stat i o ho hc (Sv hl);have hl2:Cm o=some a2:=by unfold Cm;rw[hop']
  rw[hl2] at hl;injection hl with hl;subst hl;have h1:=Ya.1 hlps (o,i) (Hk ho);simp only[hc,hl2,Y1,Y3,YB] at h1;refine h1.imp (λh=>h) λh1=>?_;have hil:i<ops.toList.length:=(XY.1 ho).1;rw[hV.slot_same (i:=i) (YN hil) (X1 _) (λj h2 h3 ⟨q,hq,hd⟩=>IP hst' h2 hq hd)] at h1;generalize Cl (S i).s a2=z at h1;cases z<;>simp only[Xx] at h1<;>first | exact ⟨_,_,rfl⟩ | cases h1
 ·refine hQ _ ρ' β' a' w' hkS h1 ?_;rw[h0] at h2;exact ⟨h2.rle,h2.new,h2.frame,h2.size,h2.os,h2.tape,h2.output,h2.len,h2.pres,h2.tot⟩
 ·simp
 ·exfalso;have:i<ops.size:=by have:=(XY.1 hi).1;simpa using this
  rw[Yg] at hl;simp[this] at hl
 ·have hL:(λj=>(Array.replicate ops.size false).getD j false=true)=(λ_=>False):=by funext j;apply propext;rw[Yg,Array.getElem?_replicate];split<;>simp
  rw[hL];refine ⟨g1,λh=>⟨(g2 h).1,λx=>x⟩,λj hj hb=>(g3 j hj hb).elim,g4,g5,λt p hp hw=>?_,hod.own,hod.hB,hod.nt,hod.df,⟨Rle.refl _,λb e h1 h2=>(by rw[h1] at h2;cases h2),λ_ _ _=>rfl,X1 _,rfl,rfl,rfl⟩,λj _ h=>h.elim,λb e hb => .inl (hod.h.dom b e hb).1,λt r hb => .inl ⟨r,hb⟩⟩;rw[hV.slot_same (Yl p) hp λj _ h2 h3=>((hw j h3).2 h2).elim];exact hod.s t
end Go.Proofs.YtmdgiekbejjjgaaGreat.T
namespace Go.Proofs.YtmdgiekbejjjgaaGreat.T
open Go
variable {n:Nat}{t:TypeId}{H:List (Nat×Hint)}
def VW:TypeDesc->Bool
 | .int _=>true
 | .bool=>true
 | .string=>true
 | _=>false
def J9 (P:Program) (n:Nat) (g:TypeId->Bool):List Field->Nat->Bool
 | [],_=>true
 | f :: fs, off => match f.name != "_" && Nat.beq f.offset off && g f.type && Nat.beq (Au P f.type).size (Da P n f.type).length with
  | true=>J9 P n g fs (off+(Da P n f.type).length)
  | false=>false
def EH (P:Program):Nat->TypeId->Bool
 | 0,_=>false
 | n+1,t=>match (Au P t).known,P.underlying t with
  | true,some (.struct fs)=>match P.stoodInHeld t with
   | true=>false
   | false=>J9 P n (EH P n) fs.toList 0
  | true,some d=>VW d
  | _,_=>false
section
variable {P:Program}{ρ:Rho}
theorem C8:∀ {ss:List Sh}{xs:List V},Ct ss xs=true->xs.length=ss.length
 | [],[],_=>rfl
 | [],_ :: _,h=>by simp[Ct] at h
 | _ :: _,[],h=>by simp[Ct] at h
 | s :: ss,x :: xs,h=>by
  simp only[Ct] at h;split at h
  ·simp[C8 h]
  ·cases h
theorem Fy:∀ {ss ss':List Sh}{xs:List V},Ct (ss++ss') xs=true->Ct ss (xs.take ss.length)=true/\Ct ss' (xs.drop ss.length)=true
 | [],ss',xs,h=>by simpa [Ct] using h
 | s :: ss,ss',[],h=>by simp[Ct] at h
 | s :: ss,ss',x :: xs,h=>by
  simp only[Yy,Ct] at h;split at h
  ·rename_i hs
   obtain ⟨h1,h2⟩:=Fy h;simp[Ct,hs,h1,h2]
  ·cases h
theorem Mn:∀ {k:Nat}{xs ys:List V}{r:Bool},EE xs ys=some r->∃ r1 r2,EE (xs.take k) (ys.take k)=some r1/\EE (xs.drop k) (ys.drop k)=some r2/\r=(r1&&r2)
 | 0,xs,ys,r,h=>⟨true,r,by simp[EE],by simpa using h,by simp⟩
 | k+1,[],[],r,h=>by simp[EE] at h;subst h;exact ⟨true,true,by simp[EE],by simp[EE],rfl⟩
 | k+1,[],_ :: _,r,h=>by simp[EE] at h
 | k+1,_ :: _,[],r,h=>by simp[EE] at h
 | k+1,x :: xs,y :: ys,r,h=>by
  simp only[EE] at h;split at h
  ·rename_i a b ha hb
   injection h with h;subst h;obtain ⟨r1,r2,h1,h2,h3⟩:=Mn (k:=k) hb;exact ⟨a&&r1,r2,by simp[EE,ha,h1],by simpa using h2,by rw[h3,Bool.and_assoc]⟩
  ·cases h
theorem Ps {row:List V}{j:Nat} (h:j+n<=row.length):cut row j n=some ((row.drop j).take n):=by
 induction j generalizing row with
 | zero =>
  induction n generalizing row with
  | zero=>simp[cut]
  | succ n ih =>
   cases row with
   | nil=>simp at h
   | cons v r=>simp[cut,ih (row:=r) (by simp at h;omega)]
 | succ j ih =>
  cases row with
  | nil=>simp at h
  | cons v r=>simp only[cut];rw[ih (by simp at h;omega)];simp
theorem L0 (h:EH P n t=true) {xs:List V} (hs:Ct (Da P n t) xs=true):∃ v,QA (Au P t).agg xs=some v:=by
 cases n with
 | zero=>simp[EH] at h
 | succ n =>
  simp only[EH] at h;split at h
  ·exact ⟨_,FQ (λhA=>by
    rename_i hk hu
    obtain ⟨i,d,hi,hd,_,_,h3,_⟩:=A1 hk;rw[hu] at hd;injection hd with hd;subst hd;rw[h3] at hA;simp[Km] at hA)⟩
  ·rename_i d hns hk hu
   refine ⟨_,FQ λ_=>?_⟩;have hl:=C8 hs;have h1:(Da P (n+1) t).length=1:=by cases d<;>simp only[VW] at h<;>(try cases h)<;>simp[Da,hu]
   rw[h1] at hl;match xs,hl with
   | [x],_=>exact ⟨x,rfl⟩
  ·cases h
theorem UD {k:IntKind} (h:P.underlying t=some (.int k)):Da P (n+1) t = [.int k]:=by simp[Da,h]
theorem Wh:∀ (n:Nat) (t:TypeId),EH P n t=true->∀ (d:Nat),n<=d->∀ (w:World) (xs ys:List V) (v u:V) (r:Bool),Ct (Da P n t) xs=true->Ct (Da P n t) ys=true ->
  QA (Au P t).agg xs=some v->QA (Au P t).agg ys=some u->EE xs ys=some r->∀ c c',VR ρ v c->VR ρ u c'->(Op.equalIn d t c c').run P w = .ok r w:=by
 intro n;induction n with
 | zero=>intro t h;simp[EH] at h
 | succ n ih =>
  intro t h d hd w xs ys v u r hx hy hv hu hr c c' hc hc';obtain ⟨d,rfl⟩:∃ m,d=m+1:=⟨d - 1,by omega⟩;simp only[EH] at h;split at h
  ·rename_i fs hk hun
   split at h
   ·cases h
   rename_i hst
   obtain ⟨i,d',hi,hd',_,_,h3,_⟩:=A1 hk;rw[hun] at hd';injection hd' with hd';subst hd';rw[h3] at hv hu;simp only[Km,QA,Option.some.injEq] at hv hu;subst hv;subst hu;simp only[VR] at hc hc';obtain ⟨ca,rfl,hca⟩:=hc;obtain ⟨cb,rfl,hcb⟩:=hc';have hfo:P.fieldsOf t=fs:=by simp[Program.fieldsOf,hun]
   rw[run_equalIn_agg w d t ca cb (by rw[hun,hfo]) hst,hfo];have hsh:Da P (n+1) t=fs.toList.flatMap λf=>Da P n f.type:=by simp[Da,hun]
   rw[hsh] at hx hy;have hlen:xs.length=ys.length:=by rw[C8 hx,C8 hy]
   have main:∀ (l:List Field) (off:Nat) (r:Bool),J9 P n (EH P n) l off=true->off+(l.flatMap λf=>Da P n f.type).length=xs.length->Ct (l.flatMap λf=>Da P n f.type) (xs.drop off)=true->Ct (l.flatMap λf=>Da P n f.type) (ys.drop off)=true ->
     EE (xs.drop off) (ys.drop off)=some r->(Op.eqFields d ca cb l).run P w = .ok r w:=by
    intro l;induction l with
    | nil =>intro off r _ _ h1 h2 h3;have e1:=C8 h1;have e2:=C8 h2;simp only[List.flatMap_nil,Y9] at e1 e2;rw[X6 e1,X6 e2] at h3;simp[EE] at h3;subst h3;simp[Op.eqFields]
    | cons f l ihl =>
     intro off r hf hoff h1 h2 h3;simp only[J9] at hf;split at hf
     ·rename_i hcond
      simp only[X7,bne_iff_ne,ne_eq] at hcond;obtain ⟨⟨⟨hn,ho⟩,hg⟩,hsz⟩:=hcond;have ho:=X5 ho;have hsz:=X5 hsz;simp only[List.flatMap_cons] at h1 h2 hoff;rw[Yp] at hoff;obtain ⟨h1a,h1b⟩:=Fy h1;obtain ⟨h2a,h2b⟩:=Fy h2;obtain ⟨r1,r2,g1,g2,g3⟩:=Mn (k:=(Da P n f.type).length) h3;have hkn:(Au P f.type).known=true:=by
       cases n with
       | zero=>simp[EH] at hg
       | succ n =>
        simp only[EH] at hg;split at hg
        ·assumption
        ·assumption
        ·cases hg
      have c1:cut xs off (Au P f.type).size=some ((xs.drop off).take (Da P n f.type).length):=by rw[hsz];exact Ps (by omega)
      have c2:cut ys off (Au P f.type).size=some ((ys.drop off).take (Da P n f.type).length):=by rw[hsz];exact Ps (by omega)
      obtain ⟨v,hv⟩:=L0 hg h1a;obtain ⟨u,hu⟩:=L0 hg h2a;obtain ⟨c,k1,k2⟩:=HO (w:=w) hkn hca c1 hv;obtain ⟨c',k3,k4⟩:=HO (w:=w) hkn hcb c2 hu;have hq:=ih f.type hg d (by omega) w _ _ v u r1 h1a h2a hv hu g1 c c' k2 k4;rw[Y5] at h1b h2b g2;rw[Y5] at g2;simp only[Op.eqFields,ne_eq,hn,not_false_eq_true,if_true,Sem.run_bind,ho,k1,k3,Result.andThen_ok,hq];cases r1 with
      | true =>simp only[Y1,Y7,if_false];rw[g3,Yn];exact ihl _ r2 hf (by omega) h1b h2b g2
      | false=>simp[g3]
     ·cases hf
   exact main fs.toList 0 r h (by rw[C8 hx];omega) (by simpa using hx) (by simpa using hy) (by simpa using hr)
  ·rename_i d' hns hk hun
   obtain ⟨i,d'',hi,hd',_,_,h3,_⟩:=A1 hk;rw[hun] at hd';injection hd' with hd';subst hd';have key:∀ s,Da P (n+1) t = [s]->Km d'=false->(∀ y,Hc s y=true->∀ x,Hc s x=true->∀ r,T9 x y=some r->∀ c c',VR ρ x c->VR ρ y c'->(Op.equalIn (d+1) t c c').run P w = .ok r w)->(Op.equalIn (d+1) t c c').run P w = .ok r w:=by
    intro s hsh hag hs;rw[hsh] at hx hy;rw[h3,hag] at hv hu;match xs,ys,C8 hx,C8 hy with
    | [x],[y],_,_ =>
     simp only[QA,Option.some.injEq] at hv hu;subst hv;subst hu;simp only[Ct] at hx hy;simp only[EE] at hr;refine hs y ?_ x ?_ r ?_ c c' hc hc'
     ·cases hz:Hc s y<;>simp[hz] at hy ⊢
     ·cases hz:Hc s x<;>simp[hz] at hx ⊢
     ·cases hz:T9 x y<;>simp[hz] at hr ⊢;exact hr
   cases d'<;>simp only[VW] at h<;>(try cases h)
   ·refine key .bool (by simp[Da,hun]) rfl (λy hy x hx r hr c c' hc hc'=>?_);cases x<;>simp[Hc] at hx;cases y<;>simp[Hc] at hy
    simp[T9] at hr;simp[VR] at hc hc';subst hc;subst hc';subst hr;exact run_equalIn_bool' w d t _ _ hun
   ·refine key _ (UD hun) rfl (λy hy x hx r hr c c' hc hc'=>?_);cases x<;>simp[Hc] at hx;cases y<;>simp[Hc] at hy
    subst hx;subst hy;simp[T9] at hr;simp[VR] at hc hc';subst hc;subst hc';subst hr;exact run_equalIn_int w d t _ _ _ _ hun
   ·refine key .str (by simp[Da,hun]) rfl (λy hy x hx r hr c c' hc hc'=>?_);cases x<;>simp[Hc] at hx;cases y<;>simp[Hc] at hy
    simp[T9] at hr;simp[VR] at hc hc';subst hc;subst hc';subst hr;exact run_equalIn_string w d t _ _ hun
  ·cases h
def Eb (b:Bool) (n:Nat) (cs:Array Value):List Field->Sem Unit
 | []=>pure ()
 | f :: fs =>
  if f.name ≠ "_" then do
   let a <- part f.type cs f.offset
   Instr.checkKey b n f.type a
   Eb b n cs fs
  else Eb b n cs fs
theorem Iy (w:World) (b:Bool) (d:Nat) (t:TypeId) (cs:Array Value) (fs:Array Field) (ht:P.underlying t=some (.struct fs)) :
  (Instr.checkKey b (d+1) t (.agg cs)).run P w=(Eb b d cs fs.toList).run P w:=by
 simp only[Instr.checkKey,Sem.run_bind,run_underlying ht,Result.andThen_ok];rw[<- Array.forIn_toList];generalize fs.toList=l;clear ht;induction l generalizing w with
 | nil=>simp[Eb]
 | cons f l ih =>
  simp only[List.forIn_cons,Eb,Sem.run_bind,Sem.run_ite];split
  ·generalize (part f.type cs f.offset).run P w=r1;cases r1 with
   | ok a w1 =>
    simp only[Result.andThen_ok];generalize (Instr.checkKey b d f.type a).run P w1=r2;cases r2 with
    | ok u w2 =>simp only[Result.andThen_ok,Sem.run_pure];exact ih w2
    | halt x w2=>simp[Result.andThen]
   | halt x w1=>simp[Result.andThen]
  ·simp only[Sem.run_pure,Result.andThen_ok];exact ih w
theorem Vc:∀ (n:Nat) (t:TypeId),EH P n t=true->∀ (d:Nat),n<=d->∀ (b:Bool) (w:World) (xs:List V) (v:V),Ct (Da P n t) xs=true ->
  QA (Au P t).agg xs=some v->∀ c,VR ρ v c->(Instr.checkKey b d t c).run P w = .ok () w:=by
 intro n;induction n with
 | zero=>intro t h;simp[EH] at h
 | succ n ih =>
  intro t h d hd b w xs v hx hv c hc;obtain ⟨d,rfl⟩:∃ m,d=m+1:=⟨d - 1,by omega⟩;simp only[EH] at h;split at h
  ·rename_i fs hk hun
   split at h
   ·cases h
   rename_i hst
   obtain ⟨i,d',hi,hd',_,_,h3,_⟩:=A1 hk;rw[hun] at hd';injection hd' with hd';subst hd';rw[h3] at hv;simp only[Km,QA,Option.some.injEq] at hv;subst hv;simp only[VR] at hc;obtain ⟨ca,rfl,hca⟩:=hc;rw[Iy w b d t ca fs hun];have hsh:Da P (n+1) t=fs.toList.flatMap λf=>Da P n f.type:=by simp[Da,hun]
   rw[hsh] at hx;have main:∀ (l:List Field) (off:Nat),J9 P n (EH P n) l off=true->off+(l.flatMap λf=>Da P n f.type).length=xs.length->Ct (l.flatMap λf=>Da P n f.type) (xs.drop off)=true ->
     (Eb b d ca l).run P w = .ok () w:=by
    intro l;induction l with
    | nil=>intro off _ _ _;simp[Eb]
    | cons f l ihl =>
     intro off hf hoff h1;simp only[J9] at hf;split at hf
     ·rename_i hcond
      simp only[X7,bne_iff_ne,ne_eq] at hcond;obtain ⟨⟨⟨hn,ho⟩,hg⟩,hsz⟩:=hcond;have ho:=X5 ho;have hsz:=X5 hsz;simp only[List.flatMap_cons] at h1 hoff;rw[Yp] at hoff;obtain ⟨h1a,h1b⟩:=Fy h1;have hkn:(Au P f.type).known=true:=by
       cases n with
       | zero=>simp[EH] at hg
       | succ n =>
        simp only[EH] at hg;split at hg
        ·assumption
        ·assumption
        ·cases hg
      have c1:cut xs off (Au P f.type).size=some ((xs.drop off).take (Da P n f.type).length):=by rw[hsz];exact Ps (by omega)
      obtain ⟨v,hv⟩:=L0 hg h1a;obtain ⟨c,k1,k2⟩:=HO (w:=w) hkn hca c1 hv;have hq:=ih f.type hg d (by omega) b w _ v h1a hv c k2;rw[Y5] at h1b;simp only[Eb,ne_eq,hn,not_false_eq_true,if_true,Sem.run_bind,ho,k1,Result.andThen_ok,hq];exact ihl _ hf (by omega) h1b
     ·cases hf
   exact main fs.toList 0 h (by rw[C8 hx];omega) (by simpa using hx)
  ·rename_i d' hns hk hun
   cases d'<;>simp only[VW] at h<;>(try cases h)<;>simp[Instr.checkKey,run_underlying hun]
  ·cases h
def Vk (P:Program) (t:TypeId):Bool:=EH P 8 t && !P.eqGuardType P.depth t&&(Au P t).agg&&(match P.underlying t with | some (.struct _)=>true | _=>false)
theorem Wi (h:Vk P t=true):EqOk P t:=by
 simp only[Vk,X7,YR] at h;obtain ⟨⟨⟨h1,h2⟩,h3⟩,h4⟩:=h;have hk:(Au P t).known=true:=by
  simp only[EH] at h1;split at h1
  ·assumption
  ·assumption
  ·cases h1
 have hsh:(Au P t).sh=Da P 8 t:=by obtain ⟨i,d,hi,hd,_⟩:=A1 hk;simp[Au,hi,hd]
 refine ⟨λρ w xs ys ca cb r hx hy hc hc' hr=>?_,h2,λρ w xs ca b hx hc=>?_,?_⟩
 ·rw[hsh] at hx hy;unfold Op.equal Op.maxDepth;exact Wh 8 t h1 10000 (by omega) w xs ys (.agg xs) (.agg ys) r hx hy (by rw[h3];rfl) (by rw[h3];rfl) hr _ _ (by simp only[VR];exact ⟨_,rfl,hc⟩) (by simp only[VR];exact ⟨_,rfl,hc'⟩)
 ·rw[hsh] at hx;exact Vc 8 t h1 10000 (by omega) b w xs (.agg xs) hx (by rw[h3];rfl) _ (by simp only[VR];exact ⟨_,rfl,hc⟩)
 ·split at h4
  ·exact ⟨_,‹_›⟩
  ·cases h4
end
def WO (fn:Func):Bool:=match fn.body with
 | none=>true
 | some c => Ga fn.ntmps c && !(fn.name == "runtime.NumGoroutine")
theorem UA {P:Program}{C:List Nat} (hm:P.follows .mixedOrders=true) (hC:C.all (Vk P)=true) (hF:P.funcs.all WO=true):Sound P (R4 P C H):=by
 have hcmp:∀ t,(R4 P C H).cmp t=true->EqOk P t:=λt ht=>by have ht:C.any (Nat.beq t)=true:=ht;rw[List.any_eq_true] at ht;obtain ⟨u,hu,hb⟩:=ht;have:=X5 hb;subst this;exact Wi (Ya.1 hC _ hu)
 refine ⟨rfl,hcmp,λf fn c hf hb=>?_,λcall f hs=>Wz rfl hm rfl hcmp hs⟩;have:=Array.all_eq_true_iff_forall_mem.1 hF fn (Array.mem_of_getElem? hf);unfold WO at this;rw[hb] at this;simpa using this
end Go.Proofs.YtmdgiekbejjjgaaGreat.T
namespace Go.Proofs.YtmdgiekbejjjgaaGreat.T
open Go
variable {body:St->Option (Ex×St)}{c:Code}{σ:St}{p:Ex×St}{σ':St}{ty:TypeId}{rs:List ResultVar}
def Sup {R:Type} (a:Option R) (A:Nat->Option R):Prop:=∀ r,a=some r->∃ n,∀ m,n<=m->A m=some r
section
variable {R S:Type}
theorem Sup.const (a:Option R):Sup a λ_=>a:=λr h=>⟨0,λ_ _=>h⟩
theorem Sup.none (A:Nat->Option R):Sup none A:=λr h=>by cases h
theorem Sup.bind {a:Option R}{A:Nat->Option R}{f:R->Option S}{F:Nat->R->Option S} (h:Sup a A) (hf:∀ x,Sup (f x) λm=>F m x):Sup (a.bind f) λm=>(A m).bind (F m):=λr hr=>by
 cases a with
 | none=>cases hr
 | some x =>obtain ⟨n1,h1⟩:=h x rfl;obtain ⟨n2,h2⟩:=hf x r hr;refine ⟨n1+n2,λm hm=>?_⟩;show (A m).bind (F m)=some r;rw[h1 m (by omega)];exact h2 m (by omega)
theorem Sup.br {b:Bool}{x y:Option R}{X Y:Nat->Option R} (hx:Sup x X) (hy:Sup y Y):Sup (br b x y) λm=>br b (X m) (Y m):=by
 cases b
 ·exact hy
 ·exact hx
theorem Sup.eBv {v:V}{f:Bool->Option R}{F:Nat->Bool->Option R} (h:∀ b,Sup (f b) λm=>F m b):Sup (eBv v f) λm=>eBv v (F m):=by
 unfold T.eBv;split
 ·exact h _
 ·exact Sup.none _
theorem Sup.guard {all:List Oper}{s:List (Nat×V)}{g:Option (Nat×Bool)}{x y:Option R}{X Y:Nat->Option R} (hx:Sup x X) (hy:Sup y Y):Sup (Fl all s g x y) λm=>Fl all s g (X m) (Y m):=by
 unfold Fl;split
 ·exact hx
 ·split
  ·exact Sup.none _
  ·split
   ·exact Sup.none _
   ·split
    ·split
     ·exact Sup.br hx hy
     ·exact Sup.br hy hx
    ·exact hy
    ·exact Sup.none _
end
theorem KE {body:St->Option (Ex×St)}:∀ {n m:Nat}{σ:St}{p:Ex×St},rounds body n σ=some p->n<=m->rounds body m σ=some p
 | 0,m,σ,p,h,_=>by simp[rounds] at h
 | n+1,m,σ,p,h,hm=>by
  obtain ⟨m,rfl⟩:∃ k,m=k+1:=⟨m - 1,by omega⟩;simp only[rounds] at h ⊢;cases hb:body σ with
  | none=>rw[hb] at h;cases h
  | some q =>
   rw[hb] at h;simp only[Ys] at h ⊢;split at h
   ·exact KE h (by omega)
   ·exact h
theorem JL {α:Type}{g:Nat->Option α}{r:α}{n:Nat} (h:∀ m,n<=m->g m=some r):Iz g=some r:=by unfold Iz;have hx:∃ r,∃ n,∀ m,n<=m->g m=some r:=⟨r,n,h⟩;rw[dif_pos hx];obtain ⟨k,hk⟩:=Classical.choose_spec hx;have h1:=hk (n+k) (by omega);have h2:=h (n+k) (by omega);rw[h1] at h2;exact h2
theorem G8 {α:Type}{g:Nat->Option α}{r:α} (h:Iz g=some r):∃ n,∀ m,n<=m->g m=some r:=by
 unfold Iz at h;split at h
 ·rename_i hx
  injection h with h;obtain ⟨n,hn⟩:=Classical.choose_spec hx;exact ⟨n,λm hm=>by have:=hn m hm;rw[<- h];exact this⟩
 ·cases h
theorem Jo {id:Nat}{n:Nat} (h:rounds body n σ=some p):DI c id body σ=some p :=
 JL (n:=n) λ_ hm=>KE h hm
theorem L3 {id:Nat} (h:DI c id body σ=some p):∃ n,rounds body n σ=some p:=by obtain ⟨n,hn⟩:=G8 h;exact ⟨n,hn n (X1 _)⟩
theorem W4 {id:Nat} (h:body σ=some (.normal,σ')) (hl:DI c id body σ'=some p):DI c id body σ=some p:=by obtain ⟨n,hn⟩:=L3 hl;refine Jo (n:=n+1) ?_;simp only[rounds,h,Ys];exact hn
theorem W5 {id:Nat}{j:Nat} (h:body σ=some (.exit j,σ')):DI c id body σ=some (.exit j,σ') :=
 Jo (n:=1) (by simp[rounds,h])
theorem Xm {id:Nat} (h:body σ=some (.ret,σ')):DI c id body σ=some (.ret,σ') :=
 Jo (n:=1) (by simp[rounds,h])
theorem Sup.rounds {body:St->Option (Ex×St)}{B:Nat->St->Option (Ex×St)} (h:∀ σ,Sup (body σ) λm=>B m σ):∀ (n:Nat) (σ:St),Sup (rounds body n σ) λm=>rounds (B m) n σ
 | 0,σ=>Sup.none _
 | n+1,σ=>by
  simp only[T.rounds];refine Sup.bind (h σ) λp=>?_;obtain ⟨e,σ'⟩:=p;cases e with
  | normal=>exact Sup.rounds h n σ'
  | exit j=>exact Sup.const _
  | ret=>exact Sup.const _
theorem Sup.loop {id:Nat}{B:Nat->St->Option (Ex×St)} (h:∀ σ,Sup (body σ) λm=>B m σ) (σ:St):Sup (DI c id body σ) λm=>DI c id (B m) σ:=λr hr=>by obtain ⟨n,hn⟩:=L3 hr;obtain ⟨k,hk⟩:=Sup.rounds h n σ r hn;exact ⟨k,λm hm=>Jo (hk m hm)⟩
section
variable {X:Ctx}{A:Nat->Fh} (hA:∀ lo f args h,Sup (X.call lo f args h) λm=>A m lo f args h)
def Ctx.at (X:Ctx) (c:Fh):Ctx:=⟨X.ty,X.cmp,X.ret,c,X.keep,X.hb,X.cl,X.wide⟩
theorem XM (c:Fh) {fs:List (Nat×TypeId)}:EK (X.at c) fs=EK X fs:=rfl
theorem QI (c:Fh):∀ (fs:List (Nat×TypeId)),Gf (X.at c) fs=Gf X fs
 | []=>rfl
 | f :: fs=>by have:=QI c fs;simp only[Gf];rw[this];rfl
include hA in
theorem Sup.step {lo:Nat}{d:Option Nat}{o:Op}:Sup (Aw X lo d ty o σ) λm=>Aw (X.at (A m)) lo d ty o σ:=by
 have same:(∀ m,Aw (X.at (A m)) lo d ty o σ=Aw X lo d ty o σ)->Sup (Aw X lo d ty o σ) λm=>Aw (X.at (A m)) lo d ty o σ:=λh r hr=>⟨0,λm _=>(h m).trans hr⟩
 cases o;case call c =>
  unfold Aw;simp only[opT];split
  ·split
   ·rename_i f hf
    split
    ·rename_i g cs _
     have h1:=hA lo g (Db (JP σ.s c.args.toList) cs) σ.h;intro r hr;cases hc:X.call lo g (Db (JP σ.s c.args.toList) cs) σ.h with
     | none=>rw[hc] at hr;cases hr
     | some p =>obtain ⟨n,hn⟩:=h1 p hc;refine ⟨n,λm hm=>?_⟩;rw[hc] at hr;have h2:A m lo g (Db (JP σ.s c.args.toList) cs) σ.h=some p:=hn m hm;show Ak (A m lo g (Db (JP σ.s c.args.toList) cs) σ.h) _=some r;rw[h2];exact hr
    ·exact Sup.none _
   ·rename_i b hb
    intro r hr;refine ⟨0,λm _=>?_⟩;refine Eq.trans ?_ hr;cases b<;>rfl
   ·exact Sup.none _
  ·exact Sup.none _
 case build t ps =>refine same λm=>?_;unfold Aw;simp only[opT,QI];rfl
 all_goals exact same λm=>rfl
variable {R:Type}
include hA in
theorem Sup.opT {lo:Nat}{d:Option Nat}{ty:TypeId}{o:Op}{σ:St}{k:V->St->Option R}{K:Nat->V->St->Option R} (hk:∀ v σ,Sup (k v σ) λm=>K m v σ):Sup (T.opT X lo d ty o σ k) λm=>T.opT (X.at (A m)) lo d ty o σ (K m):=by
 rw[FO];have:(λm=>T.opT (X.at (A m)) lo d ty o σ (K m))=λm=>(Aw (X.at (A m)) lo d ty o σ).bind λp=>K m p.1 p.2:=by funext m;exact FO
 rw[this];exact Sup.bind (Sup.step hA) λp=>hk p.1 p.2
omit hA in
theorem Td {o:Oper}{σ σ':St}{c:Fh}:∀ {l:List Oper}{k:Option R},T.chkT (X.at c) o σ σ' l k=T.chkT X o σ σ' l k
 | [],k=>rfl
 | p :: l,k=>by simp only[T.chkT,Td (l:=l),show (X.at c).ty=X.ty from rfl]
omit hA in
theorem Sup.chkT {o:Oper}{σ σ':St}{l:List Oper}{k:Option R}{K:Nat->Option R} (hk:Sup k K):Sup (T.chkT X o σ σ' l k) λm=>T.chkT (X.at (A m)) o σ σ' l (K m):=by
 have h1:∀ k:Option R,T.chkT X o σ σ' l k=(T.chkT X o σ σ' l (some ())).bind λ_=>k:=λk=>by rw[Ki];rfl
 have h2:(λm=>T.chkT (X.at (A m)) o σ σ' l (K m))=λm=>(T.chkT X o σ σ' l (some ())).bind λ_=>K m:=by funext m;rw[Td,h1]
 rw[h2,h1];cases T.chkT X o σ σ' l (some ()) with
 | none=>exact Sup.none _
 | some _=>exact hk
omit hA in
theorem IX {c:Fh}{cl:Nat->Bool}:∀ {l:List Oper}{i:Nat}{bx:List (Nat×List V)},EA (X.at c) cl i l bx=EA X cl i l bx
 | [],i,bx=>rfl
 | p :: l,i,bx=>by
  simp only[EA,show (X.at c).ty=X.ty from rfl,show (X.at c).hb=X.hb from rfl];split
  ·exact IX
  ·split
   ·exact IX
   ·rfl
include hA in
theorem Sup.opsT {lo:Nat}{all:List Oper}{calm al:Nat->Bool}{ck:Nat->List Oper}{k:St->Option R}{K:Nat->St->Option R} (hk:∀ σ,Sup (k σ) λm=>K m σ) :
  ∀ (rest:List Oper) (i:Nat) (σ:St),Sup (T.opsT X lo all calm ck al i rest σ k) λm=>T.opsT (X.at (A m)) lo all calm ck al i rest σ (K m)
 | [],i,σ=>by simp only[T.opsT];exact hk σ
 | o :: r,i,σ=>by
  simp only[T.opsT];split
  ·exact Sup.opsT hk r _ _
  refine Sup.guard ?_ (Sup.opsT hk r _ _);split
  ·exact Sup.opT hA λv σ=>Sup.opsT hk r _ _
  ·exact Sup.opT hA λv σ=>Sup.chkT (Sup.opsT hk r _ _)
include hA in
theorem Sup.exec {lo:Nat}:∀ (c:Code) {R:Type}{k:Ex->St->Option R}{K:Nat->Ex->St->Option R} (id:Nat) (σ:St),(∀ e σ,Sup (k e σ) λm=>K m e σ)->Sup (T.exec X lo c id σ k) λm=>T.exec (X.at (A m)) lo c id σ (K m)
 | .skip,R,k,K,id,σ,hk=>by simp only[T.exec];exact hk _ _
 | .region i ops draw,R,k,K,id,σ,hk=>by
  simp only[T.exec,show ∀ c:Fh,(X.at c).cl=X.cl from λ_=>rfl];split
  ·exact Sup.opsT hA (λσ=>hk _ _) _ _ _
  ·split
   ·simp only[show ∀ c:Fh,(X.at c).narrow=X.narrow.at c from λ_=>rfl,IX];cases EA X.narrow (Hs X.cl i) 0 ops.toList σ.bx with
    | none=>exact Sup.none _
    | some bx =>
    refine Sup.opsT (X:=X.narrow) (K:=λm σ=>match Ox σ.s (AJ [] ops.toList) ops.toList (Hs X.cl i) with | true=>K m .normal σ | false=>Option.none) hA (λσ=>?_) _ _ _;cases he:Ox σ.s (AJ [] ops.toList) ops.toList (Hs X.cl i) with
    | true=>exact hk _ _
    | false=>exact Sup.none _
   ·exact Sup.none _
 | .seq a b,R,k,K,id,σ,hk=>by
  simp only[T.exec];refine Sup.exec a id σ λe σ=>?_;cases e with
  | normal=>exact Sup.exec b id σ hk
  | exit j=>exact hk _ _
  | ret=>exact hk _ _
 | .cond x a b,R,k,K,id,σ,hk=>by simp only[T.exec];exact Sup.eBv λt=>Sup.br (Sup.exec a id σ hk) (Sup.exec b id σ hk)
 | .block j b,R,k,K,id,σ,hk=>by
  simp only[T.exec];refine Sup.exec b j σ λe σ=>?_;cases e with
  | normal=>exact hk _ _
  | exit i =>
   simp only[Bx];split
   ·exact hk _ _
   ·exact hk _ _
  | ret=>exact hk _ _
 | .loop b,R,k,K,id,σ,hk=>by
  simp only[T.exec];have hb:∀ σ,Sup (T.exec X lo b id σ (FV X id)) λm=>T.exec (X.at (A m)) lo b id σ (FV (X.at (A m)) id):=λσ=>Sup.exec b id σ λe σ=>Sup.const _;intro r hr;cases hl:DI b id (λσ=>T.exec X lo b id σ (FV X id)) (norm X id σ) with
  | none=>rw[hl] at hr;cases hr
  | some p =>rw[hl] at hr;obtain ⟨e,σ'⟩:=p;obtain ⟨n1,h1⟩:=Sup.loop (c:=b) (id:=id) hb (norm X id σ) _ hl;obtain ⟨n2,h2⟩:=hk e σ' r hr;refine ⟨n1+n2,λm hm=>?_⟩;have h3:DI b id (λσ=>T.exec (X.at (A m)) lo b id σ (FV (X.at (A m)) id)) (norm X id σ)=some (e,σ'):=h1 m (by omega);show W3 (DI b id (λσ=>T.exec (X.at (A m)) lo b id σ (FV (X.at (A m)) id)) (norm X id σ)) (K m)=some r;rw[h3];exact h2 m (by omega)
 | .exit j,R,k,K,id,σ,hk=>by simp only[T.exec];exact hk _ _
 | .ret,R,k,K,id,σ,hk=>by simp only[T.exec];exact hk _ _
 | .goto _,R,k,K,id,σ,hk=>by simp only[T.exec];exact Sup.none _
 | .label _,R,k,K,id,σ,hk=>by simp only[T.exec];exact Sup.none _
 | .scope _,R,k,K,id,σ,hk=>by simp only[T.exec];exact Sup.none _
 | .rangeFunc _ _ _ _,R,k,K,id,σ,hk=>by simp only[T.exec];exact Sup.none _
 | .refuse _,R,k,K,id,σ,hk=>by simp only[T.exec];exact Sup.none _
end
theorem Qo {X:Ctx}{c:Fh}{σ:St}:∀ {rs:List ResultVar},KG (X.at c) σ rs=KG X σ rs
 | []=>rfl
 | r :: rs=>by
  simp only[KG];rw[Qo (rs:=rs)];have:NU (X.at c) σ r=NU X σ r:=by cases r<;>rfl
  rw[this]
theorem SK {X:Ctx}{c:Fh}:RO (X.at c) rs σ=RO X rs σ:=by unfold RO;rw[Qo]
theorem Sup.fnT {I:Info}{fn:Func}{call:Fh}{A:Nat->Fh} (hA:∀ lo f args h,Sup (call lo f args h) λm=>A m lo f args h) {lo:Nat}{f:FuncId}{args:List V}{h:Heap}:Sup (fnT I fn call lo f args h) λm=>fnT I fn (A m) lo f args h:=by
 unfold T.fnT;split
 ·exact Sup.none _
 ·refine Sup.exec (X:=I.ctx call f) hA _ _ _ λe σ=>?_;cases e with
  | normal=>exact λr hr=>⟨0,λm _=>(SK (X:=I.ctx call f) (c:=A m)).trans hr⟩
  | ret=>exact λr hr=>⟨0,λm _=>(SK (X:=I.ctx call f) (c:=A m)).trans hr⟩
  | exit j=>exact Sup.none _
theorem S1 {P:Program}{I:Info}{lo:Nat}{f:FuncId}{fn:Func}{args:List V}{h:Heap}{p q:V×Heap} (hf:P.funcs[f]?=some fn) (hk:fnT I fn (eval P I) (WM (I.drop f) lo h) f args h=some p) (hd:Tb (I.drop f) h p=some q) :
  eval P I lo f args h=some q:=by
 have hA:∀ lo f args h,Sup (eval P I lo f args h) λm=>HU P I m lo f args h:=λlo f args h r hr=>G8 hr;obtain ⟨n,hn⟩:=Sup.fnT (I:=I) (fn:=fn) hA p hk;refine JL (n:=n+1) λm hm=>?_;obtain ⟨m,rfl⟩:∃ k,m=k+1:=⟨m - 1,by omega⟩;simp only[HU,hf];have h2:fnT I fn (HU P I m) (WM (I.drop f) lo h) f args h=some p:=hn m (by omega);rw[h2];exact hd
end Go.Proofs.YtmdgiekbejjjgaaGreat.T
namespace Go.Proofs.YtmdgiekbejjjgaaGreat.T
open Go
variable {lo:Nat}{c:Code}{id:Nat}{σ:St}{P:Program}{f:FuncId}{args:List V}
section
variable {R S:Type}{g:R->Option S}
theorem QP {all:List Oper}{s:List (Nat×V)}{q:Option (Nat×Bool)}{x y:Option R}:(Fl all s q x y).bind g=Fl all s q (x.bind g) (y.bind g):=by
 unfold Fl;split
 ·rfl
 ·split
  ·rfl
  ·split
   ·rfl
   ·split
    ·split<;>exact Hu
    ·rfl
    ·rfl
theorem FA {X:Ctx}{lo:Nat}{all:List Oper}{calm al:Nat->Bool}{ck:Nat->List Oper}{k:St->Option R}:∀ (rest:List Oper) (i:Nat) (σ:St),(opsT X lo all calm ck al i rest σ k).bind g=opsT X lo all calm ck al i rest σ λσ=>(k σ).bind g
 | [],i,σ=>rfl
 | o :: r,i,σ=>by
  simp only[opsT];split
  ·exact FA r _ _
  rw[QP,FA r];congr 1;split
  ·rw[LV];congr 1;funext v σ;exact FA r _ _
  ·rw[LV];congr 1;funext v σ;rw[Ki];congr 1;exact FA r _ _
end
theorem FD {X:Ctx}{lo:Nat}:∀ (c:Code) {R S:Type}{g:R->Option S}{k:Ex->St->Option R} (id:Nat) (σ:St),(exec X lo c id σ k).bind g=exec X lo c id σ λe σ=>(k e σ).bind g
 | .skip,R,S,g,k,id,σ=>rfl
 | .region i ops draw,R,S,g,k,id,σ=>by
  simp only[exec];split
  ·exact FA _ _ _
  ·split
   ·rw[DV];congr 1;funext bx;rw[FA];congr 1;funext σ;split<;>rfl
   ·rfl
 | .seq a b,R,S,g,k,id,σ=>by
  simp only[exec];rw[FD a];congr 1;funext e σ;cases e with
  | normal=>exact FD b id σ
  | exit j=>rfl
  | ret=>rfl
 | .cond x a b,R,S,g,k,id,σ=>by simp only[exec];rw[JF];congr 1;funext t;rw[Hu,FD a,FD b]
 | .block j b,R,S,g,k,id,σ=>by
  simp only[exec];rw[FD b];congr 1;funext e σ;cases e with
  | normal=>rfl
  | exit i=>simp only[Bx];split<;>rfl
  | ret=>rfl
 | .loop b,R,S,g,k,id,σ=>by simp only[exec];generalize DI b id (λσ=>exec X lo b id σ (FV X id)) (norm X id σ)=o;cases o<;>rfl
 | .exit j,R,S,g,k,id,σ=>rfl
 | .ret,R,S,g,k,id,σ=>rfl
 | .goto _,R,S,g,k,id,σ=>rfl
 | .label _,R,S,g,k,id,σ=>rfl
 | .scope _,R,S,g,k,id,σ=>rfl
 | .rangeFunc _ _ _ _,R,S,g,k,id,σ=>rfl
 | .refuse _,R,S,g,k,id,σ=>rfl
noncomputable def Wa {R:Type} (X:Ctx) (lo:Nat) (c:Code) (id:Nat) (K:Ex->St->Option R):Ex->St->Option R
 | .normal,σ=>W3 (DI c id (λσ=>exec X lo c id σ (FV X id)) (norm X id σ)) K
 | .exit j,σ=>K (.exit j) (norm X id σ)
 | .ret,σ=>K .ret (norm X id σ)
theorem SE {α:Type}{g:Nat->Option α}:Iz (λn=>g (n+1))=Iz g:=by
 cases h:Iz g with
 | some r =>obtain ⟨n,hn⟩:=G8 h;exact JL (n:=n) λm hm=>hn (m+1) (by omega)
 | none =>
  cases h':Iz (λn=>g (n+1)) with
  | none=>rfl
  | some r =>
   obtain ⟨n,hn⟩:=G8 h';have:Iz g=some r:=JL (n:=n+1) λm hm=>by have:=hn (m - 1) (by omega);rwa [show m - 1+1=m by omega] at this
   rw[h] at this;cases this
theorem IY {α:Type}{o:Option α}:Iz (λ_=>o)=o:=by
 cases o with
 | some r=>exact JL (n:=0) λ_ _=>rfl
 | none =>
  cases h:Iz (λ_:Nat=>(none:Option α)) with
  | none=>rfl
  | some r=>obtain ⟨n,hn⟩:=G8 h;have:=hn n (X1 _);cases this
theorem UV {body:St->Option (Ex×St)}:DI c id body σ=(body σ).bind λp=>match p.1 with | .normal=>DI c id body p.2 | e=>some (e,p.2):=by
 have h1:DI c id body σ=Iz λn=>rounds body (n+1) σ:=(SE (g:=λn=>rounds body n σ)).symm;rw[h1];cases hb:body σ with
 | none =>
  have:(λn=>rounds body (n+1) σ)=λ_=>none:=by funext n;simp only[rounds,hb];rfl
  rw[this,IY];rfl
 | some p =>
  obtain ⟨e,σ'⟩:=p;cases e with
  | normal =>
   have:(λn=>rounds body (n+1) σ)=λn=>rounds body n σ':=by funext n;simp only[rounds,hb];rfl
   rw[this];rfl
  | exit j =>
   have:(λn=>rounds body (n+1) σ)=λ_=>some (.exit j,σ'):=by funext n;simp only[rounds,hb];rfl
   rw[this,IY];rfl
  | ret =>
   have:(λn=>rounds body (n+1) σ)=λ_=>some (.ret,σ'):=by funext n;simp only[rounds,hb];rfl
   rw[this,IY];rfl
theorem W2 {R:Type}{X:Ctx}{K:Ex->St->Option R} :
  W3 (DI c id (λσ=>exec X lo c id σ (FV X id)) σ) K=exec X lo c id σ (Wa X lo c id K):=by
 have h1:∀ o:Option (Ex×St),W3 o K=o.bind λp=>K p.1 p.2:=λo=>by cases o<;>rfl
 rw[UV,h1,Option.bind_assoc];rw[FD c];congr 1;funext e σ';cases e with
 | normal=>exact (h1 _).symm
 | exit j=>rfl
 | ret=>rfl
noncomputable def Lp {R:Type} (X:Ctx) (lo:Nat) (c:Code) (id:Nat) (K:Ex->St->Option R) (σ:St):Option R:=W3 (DI c id (λσ=>exec X lo c id σ (FV X id)) σ) K
theorem Lp_eq {R:Type}{X:Ctx}{K:Ex->St->Option R}:Lp X lo c id K σ=exec X lo c id σ (Wa X lo c id K):=W2
theorem T5 {I:Info}{fn:Func}{h:Heap} (hf:P.funcs[f]?=some fn) (hd:I.drop f=false) {p:V×Heap} (hk:fnT I fn (eval P I) lo f args h=some p):eval P I lo f args h=some p :=
 S1 hf (by rw[hd];exact hk) (by rw[hd];rfl)
theorem T6 {I:Info}{fn:Func}{h h':Heap}{v:V} (hf:P.funcs[f]?=some fn) (hd:I.drop f=true) (hk:fnT I fn (eval P I) h.length f args h=some (v,h')) (hn:noId v=true):eval P I lo f args h=some (v,h) :=
 S1 hf (by rw[hd];exact hk) (by rw[hd];simp only[Tb,hn])
end Go.Proofs.YtmdgiekbejjjgaaGreat.T
namespace Go.Proofs.YtmdgiekbejjjgaaGreat
open Go T
variable {α:Type}{l:List α}
abbrev Iv (x : Int) : V := .int .i64 x
theorem CX {i:Nat} (h : i < l.length) : l[i]? = some l[i] := Yc h
theorem Ef {i:Nat}{a:α} (h : l[i]? = some a) : ∃ h : i < l.length, l[i] = a := XY.1 h
theorem By (n : Nat) : ((n : Nat) : Int).toNat = n := Int.toNat_natCast n
theorem C3 (a b : Bool) : ((a && b) = true) = (a = true /\ b = true) := X7 a b
abbrev Vh := V × Heap
abbrev Ov := Option Vh
abbrev CN (a:Int)(b:Int)(c:Pq)(d:Nat)(e:Nq)(f:Pq)(g:Nat)(h:Nq)(i:Pq)(j:Nat)(k:Nq)(l:Bool):List V:=[Iv a,Iv b,.sl 2 c d e,.sl 6 f g h,.sl 1 i j k,.bool l]
abbrev Bl (a:Int)(b:Int)(c:Pq)(d:Nat)(e:Nq)(f:Pq)(g:Nat)(h:Nq)(i:Pq)(j:Nat)(k:Nq)(l:Bool):V:=.agg [Iv a,Iv b,.sl 2 c d e,.sl 6 f g h,.sl 1 i j k,.bool l]
abbrev C4 (a:Pq)(b:Nat)(c:Nq)(d:Pq)(e:Nat)(f:Nq)(g:Pq)(h:Nat)(i:Nq)(j:Pq)(k:Nat)(l:Nq):List V:=[.sl 6 a b c,.sl 5 d e f,.sl 9 g h i,.sl 5 j k l]
abbrev Al (a:Pq)(b:Nat)(c:Nq)(d:Pq)(e:Nat)(f:Nq)(g:Pq)(h:Nat)(i:Nq)(j:Pq)(k:Nat)(l:Nq):V:=.agg [.sl 6 a b c,.sl 5 d e f,.sl 9 g h i,.sl 5 j k l]
abbrev CS (a:Int)(b:Int)(c:Int)(d:Pq)(e:Nat)(f:Nq)(g:ByteArray)(h:Bool):List V:=[Iv a,Iv b,Iv c,.sl 2 d e f,.str g,.bool h]
abbrev A3 (a:Int)(b:Int)(c:Int)(d:Pq)(e:Nat)(f:Nq)(g:ByteArray)(h:Bool):V:=.agg [Iv a,Iv b,Iv c,.sl 2 d e f,.str g,.bool h]
abbrev BJ (a:Int)(b:Int):List V:=[Iv a,Iv b]
abbrev An (a:Int)(b:Int):V:=.agg [Iv a,Iv b]
abbrev OB (a:Int)(b:Int)(c:Int)(d:Int)(e:ByteArray)(f:Bool):List V:=[Iv a,Iv b,Iv c,Iv d,.str e,.bool f]
abbrev BF (a:Int)(b:Int)(c:Int)(d:Int)(e:ByteArray)(f:Bool):V:=.agg [Iv a,Iv b,Iv c,Iv d,.str e,.bool f]
abbrev OA (a:Int)(b:Int)(c:Int)(d:Int)(e:Int)(f:Int)(g:Pq)(h:Nat)(i:Nq)(j:ByteArray)(k:Bool):List V:=[Iv a,Iv b,Iv c,Iv d,Iv e,Iv f,.sl 2 g h i,.str j,.bool k]
abbrev XB (a:Int)(b:Int)(c:Int)(d:Int)(e:Int)(f:Int)(g:Pq)(h:Nat)(i:Nq)(j:ByteArray)(k:Bool):V:=.agg [Iv a,Iv b,Iv c,Iv d,Iv e,Iv f,.sl 2 g h i,.str j,.bool k]
abbrev KV (a:Int)(b:Pq)(c:Nat)(d:Nq)(e:Int)(f:Int)(g:Int):List V:=[Iv a,.sl 2 b c d,Iv e,Iv f,Iv g]
abbrev XA (a:Int)(b:Pq)(c:Nat)(d:Nq)(e:Int)(f:Int)(g:Int):V:=.agg [Iv a,.sl 2 b c d,Iv e,Iv f,Iv g]
abbrev KW (a:Pq)(b:Nat)(c:Nq)(d:Pq)(e:Nat)(f:Nq):List V:=[.sl 6 a b c,.sl 6 d e f]
abbrev U7 (a:Pq)(b:Nat)(c:Nq)(d:Pq)(e:Nat)(f:Nq):V:=.agg [.sl 6 a b c,.sl 6 d e f]
abbrev CG (a:Int)(b:Int)(c:Int):List V:=[Iv a,Iv b,Iv c]
abbrev Cj (a:Pq)(b:Nat)(c:Nq):List V:=[.sl 2 a b c]
abbrev At (a:Pq)(b:Nat)(c:Nq):V:=.agg [.sl 2 a b c]
abbrev BU (a:Pq)(b:Nat)(c:Nq):List V:=[.sl 6 a b c]
abbrev Di (a:Pq)(b:Nat)(c:Nq):V:=.agg [.sl 6 a b c]
abbrev AI (a:Int):List V:=[Iv a]
abbrev Mu (a:Int)(b:Int)(c:Int)(d:Int)(e:Int):List V:=[Iv a,Iv b,Iv c,Iv d,Iv e]
abbrev Og (a:Int)(b:Int)(c:Int)(d:Int)(e:Int):V:=.agg [Iv a,Iv b,Iv c,Iv d,Iv e]
abbrev Bv (h:Heap):Ov:=some (.bool false,h)
abbrev Em (h:Heap):Ov:=some (.bool true,h)
abbrev CF (a b c:Nat):V:=.ptr (some (a,(b,c)))
abbrev AD (x:Int):Int:=IntKind.wrap .i64 x
noncomputable def I:T.Info:=R4 Tryz.prog [30,32,70] [(3,{ keep := [(0,[3,4,5,6,7],[]),(2,[3,4,5,6,8,9],[])] }),
 (4,{ keep := [(0,[4,8,9,10],[8,9])],cl := [(5,[0]),(6,[0]),(12,[1])] }),
 (5,{ keep := [(0,[4,8,9,10],[8,9]),(2,[4,8,9,10,11,12],[8,9])],cl := [(5,[0]),(11,[1])] }),
 (6,{ keep := [(0,[4,8,9,10],[8,9])],cl := [(5,[0]),(10,[1,8])] }),
 (7,{ cl := [(5,[0]),(6,[0]),(11,[1,3]),(13,[1,6])] }),
 (9,{ keep := [(0,[1,5,14,15,16],[])] }),
 (10,{ keep := [(0,[0,1,4,5],[])],drop:=true }),
 (12,{ drop:=true }),
 (14,{ keep := [(0,[6,7,22,23,24],[6])],hb := [7] }),
 (15,{ keep := [(0,[2,3,4,5],[2,3]),(2,[2,3,4,6],[2,3]),(4,[2,3,4,9],[2,3])],cl := [(6,[1,6])],drop:=true }),
 (17,{ drop:=true }),
 (19,{ keep := [(0,[0,1,4,5],[])],drop:=true }),
 (20,{ drop:=true }),
 (21,{ hb := [1] }),
 (22,{ hb := [6] }),
 (23,{ keep := [(0,[2,3,4,5],[2,3])],cl := [(6,[1,6])],drop:=true }),
 (25,{ hb := [1],drop:=true }),
 (27,{ drop:=true }),
 (28,{ keep := [(0,[0,2,3],[])],drop:=true }),
 (29,{ keep := [(0,[0,1,5,6],[])] }),
 (30,{ keep := [(0,[0,2,3,4,8,9,10],[])] }),
 (31,{ hb := [10] }),
 (35,{ drop:=true }),
 (36,{ keep := [(0,[0,1,4,5,12],[4,5]),(2,[4,5,24,25],[4,5])],cl := [(5,[1]),(10,[1])] }),
 (38,{ keep := [(0,[1,2,3,28,29,30],[1,2,3]),(2,[1,2,3,43,44,45],[1,2,3]),(4,[2,3,61,62,63],[2,3])],cl := [(1,[1,5,9,13]),(5,[1,2])] }),
 (39,{ keep := [(0,[2,3,4,5],[2,3])],cl := [(6,[1,6])],drop:=true }),
 (40,{ drop:=true }),
 (41,{ drop:=true }),
 (42,{ keep := [(0,[2,6,7,8],[6,7])],cl := [(5,[0,9])] }),
 (43,{ cl := [(1,[1,3,6,8])],drop:=true }),
 (44,{ drop:=true }),
 (45,{ keep := [(0,[3,4,8,9,10],[3])],cl := [(4,[1,5])],drop:=true }),
 (46,{ keep := [(0,[1,2,13,14,15],[1]),(2,[1,2,36,37,38],[1])],cl := [(12,[0])],drop:=true }),
 (48,{ keep := [(0,[2,3,8,9,10],[2,3])] }),
 (49,{ keep := [(0,[1,2,32,33,34],[]),(2,[1,2,50,51,52],[]),(4,[1,2,50,51,52,57,58,59],[])],hb := [1] }),
 (50,{ keep := [(0,[1,2,6,7,8],[1])],drop:=true }),
 (51,{ drop:=true }),
 (52,{ cl := [(1,[1])] }),
 (54,{ drop:=true }),
 (55,{ drop:=true }),
 (56,{ drop:=true }),
 (57,{ drop:=true }),
 (58,{ drop:=true }),
 (59,{ drop:=true }),
 (60,{ keep := [(0,[1,6],[])],hb := [5] }),
 (61,{ cl := [(1,[2]),(2,[5]),(6,[5,7,9,10]),(8,[1,3,5]),(14,[2,3,5,8,10])] }),
 (62,{ keep := [(0,[0,3,9,10,11],[9])] }),
 (63,{ drop:=true }),
 (66,{ cl := [(1,[1]),(3,[5]),(4,[7])] }),
 (67,{ cl := [(3,[5]),(13,[1,3]),(15,[6,8,10,16])] }),
 (68,{ cl := [(1,[1]),(3,[5]),(5,[6,8]),(7,[5,8,10,12])] }),
 (71,{ keep := [(0,[2,3,24,25,26],[2,3])],cl := [(1,[1,3,5,8,11,15]),(5,[1])] }),
 (74,{ keep := [(0,[2,3,4,5],[2,3])],cl := [(6,[1,7])],drop:=true }),
 (75,{ keep := [(0,[0,1,4,5,6],[4,5]),(2,[1,4,5,7],[4,5])],cl := [(5,[1]),(9,[1])] }),
 (77,{ keep := [(0,[2,3,6,7,8],[])],drop:=true }),
 (78,{ drop:=true }),
 (79,{ drop:=true }),
 (80,{ drop:=true }),
 (81,{ drop:=true }),
 (82,{ cl := [(1,[0])],drop:=true }),
 (83,{ drop:=true }),
 (84,{ keep := [(0,[2,4,5,11,12,13],[2,5])],drop:=true }),
 (85,{ keep := [(0,[1,2,3,45,46,47],[3]),(2,[1,2,3,4,45,46,47,58,59,60],[3]),(4,[1,2,90,91,92],[])],hb := [1],drop:=true }),
 (86,{ drop:=true }),
 (87,{ drop:=true }),
 (88,{ drop:=true }),
 (89,{ drop:=true }),
 (90,{ drop:=true }),
 (91,{ drop:=true }),
 (92,{ cl := [(1,[1,3])],drop:=true }),
 (93,{ drop:=true }),
 (94,{ keep := [(0,[0,1,4,7,8],[])],drop:=true }),
 (97,{ keep := [(0,[0,1,4,7,8],[])],drop:=true }),
 (98,{ drop:=true }),
 (99,{ drop:=true }),
 (100,{ keep := [(0,[3,7,8,9],[])],drop:=true }),
 (101,{ keep := [(0,[4,5,11,12,13],[4,5])],cl := [(5,[1,4,8])] }),
 (102,{ cl := [(2,[1,4,8])] }),
 (104,{ keep := [(0,[2,3,11,12],[2,3])],cl := [(6,[1])] }),
 (105,{ cl := [(3,[3,7,10,17,19,22]),(6,[2,4])] }),
 (106,{ cl := [(4,[1]),(8,[2])] }),
 (107,{ cl := [(1,[11,13]),(4,[6,9,11])] }),
 (108,{ keep := [(0,[0,5,39,40,41],[5])] }),
 (112,{ cl := [(7,[1]),(9,[7])] }),
 (113,{ drop:=true }),
 (114,{ wide:=true }),
 (115,{ cl := [(6,[3,6])] }),
 (116,{ keep := [(0,[2,3,12,13,14],[2,3])],cl := [(5,[1,3,6])] }),
 (117,{ keep := [(0,[3,9,10,11],[])] }),
 (120,{ keep := [(0,[2,3,4,5],[2,3])],cl := [(6,[1,6])],drop:=true }),
 (125,{ cl := [(2,[1]),(4,[1,3,5,7,9,11,16]),(10,[2,4,8,10]),(13,[1,3,7,9,11,16])] }),
 (126,{ drop:=true }),
 (127,{ keep := [(0,[0,1,4,7,8],[])],drop:=true }),
 (128,{ drop:=true }),
 (130,{ cl := [(1,[1,3,8])],drop:=true }),
 (131,{ drop:=true }),
 (132,{ keep := [(0,[0,1,4,7,8,9],[])],cl := [(4,[0])],drop:=true }),
 (133,{ keep := [(0,[0,3,9,10,11],[]),(2,[6,25,26,27],[])] }),
 (134,{ keep := [(0,[1,2,6,15,16,17],[])],drop:=true }),
 (135,{ keep := [(0,[0,1,4,7,8],[])],drop:=true }),
 (136,{ keep := [(0,[0,1,4,7,8],[])],drop:=true }),
 (137,{ keep := [(0,[0,1,4,12,13],[])],drop:=true }),
 (138,{ keep := [(0,[1,2,3,4],[1,2,3]),(2,[1,2,3,5],[1,2,3]),(4,[1,2,3,7],[1,2,3])],cl := [(5,[1,3])] }),
 (140,{ drop:=true }),
 (143,{ drop:=true }),
 (144,{ cl := [(1,[0]),(3,[5]),(8,[3])] }),
 (145,{ cl := [(1,[8])] }),
 (147,{ cl := [(4,[3])] }),
 (148,{ keep := [(0,[0,8,9,10],[])],cl := [(3,[1]),(4,[5])] }),
 (149,{ keep := [(0,[0,1,5,59,60,61],[])],cl := [(13,[10,15]),(14,[5])] }),
 (152,{ hb := [3],drop:=true }),
 (154,{ keep := [(0,[0,2,3,4],[2,3])],cl := [(7,[1])] }),
 (156,{ cl := [(6,[1,7]),(10,[1,3,5,7,9])] }),
 (157,{ cl := [(6,[1,4,6]),(9,[1,3,5,7,10,12])] }),
 (158,{ keep := [(0,[2,3,4,8,9],[2,3,4,8])],cl := [(4,[2]),(9,[1,3,5,7,13]),(10,[0,2,5])] }),
 (159,{ drop:=true }),
 (160,{ cl := [(2,[1,5])] }),
 (161,{ keep := [(0,[1,2,3,4],[1,2,3]),(2,[1,2,6,7],[1,2])],cl := [(7,[1,2])] }),
 (162,{ drop:=true }),
 (163,{ cl := [(1,[2,7]),(4,[1,5,12])] }),
 (164,{ cl := [(2,[1,3])] }),
 (165,{ drop:=true }),
 (166,{ cl := [(1,[1,5])] }),
 (168,{ cl := [(1,[2]),(3,[1,4,8])] }),
 (169,{ keep := [(0,[0,2,5,6],[])],drop:=true }),
 (171,{ keep := [(0,[1,2,3,4],[1,2,3])],cl := [(1,[1,3,5,7,10]),(5,[1,3])] }),
 (173,{ drop:=true }),
 (174,{ wide:=true }),
 (175,{ cl := [(2,[4]),(3,[6,7]),(5,[5])] }),
 (176,{ drop:=true }),
 (177,{ drop:=true }),
 (178,{ wide:=true }),
 (180,{ cl := [(1,[1,3,6,8])],drop:=true }),
 (181,{ drop:=true }),
 (183,{ keep := [(0,[0,2,3],[])],drop:=true }),
 (184,{ cl := [(1,[0,2])],drop:=true }),
 (185,{ cl := [(1,[1,2,5,9]),(4,[0,3])] }),
 (188,{ drop:=true }),
 (189,{ cl := [(2,[1,4,8])] }),
 (190,{ keep := [(0,[2,3,4,5,6],[2,3,4,5])],cl := [(5,[1,3,8])] }),
 (191,{ keep := [(0,[2,3,4,5],[2,3])],cl := [(4,[1,6])],drop:=true }),
 (192,{ keep := [(0,[1,2,3,4],[1,2,3])],cl := [(5,[1,3])] }),
 (193,{ cl := [(1,[1,8,13]),(3,[1,4,9]),(5,[1,4,9])] }),
 (194,{ keep := [(0,[0,3,4,5],[3])],cl := [(4,[5])],drop:=true }),
 (195,{ keep := [(0,[2,3,5,6],[2,3]),(2,[2,3,5,6,7],[2,3])],cl := [(5,[1,7])] }),
 (196,{ keep := [(0,[1,2,3,4],[1,2,3])],cl := [(5,[1,3])] }),
 (197,{ keep := [(0,[1,2,4,5,6],[2,5])],cl := [(6,[1,3,8])],drop:=true }),
 (198,{ drop:=true }),
 (200,{ keep := [(0,[1,2,3,4],[1,2,3]),(2,[1,2,3,4,5,6],[1,2,3,5])],cl := [(9,[1,3])] }),
 (201,{ keep := [(0,[0,3,4],[])] }),
 (202,{ keep := [(0,[0,1,4,7,8],[])],drop:=true }),
 (203,{ keep := [(0,[0,1,2,3,4,10,11],[])] }),
 (204,{ drop:=true }),
 (205,{ keep := [(0,[3,5,6],[3])],drop:=true }),
 (206,{ drop:=true }),
 (207,{ cl := [(1,[1,3,8]),(2,[1,3,4])] }),
 (208,{ keep := [(0,[0,1,2,3,8],[]),(2,[0,1,2,3,8,9],[])] }),
 (209,{ keep := [(0,[0,3,8,9,10,11],[]),(2,[0,3,8,9,12],[])] }),
 (210,{ keep := [(0,[0,1,8,9,10,11],[])],hb := [9] }),
 (211,{ hb := [11] }),
 (212,{ keep := [(0,[0,8,9],[])] }),
 (213,{ keep := [(0,[0,1,2,3,8,9,10],[]),(2,[0,1,2,3,9,10],[]),(4,[0,1,2,3,9,10,11],[]),(6,[0,1,2,3,9,10,12],[])] }),
 (214,{ keep := [(0,[0,1,4,11,12],[]),(2,[0,1,4,11,12],[]),(4,[0,1,4,11,12],[])] }),
 (215,{ keep := [(0,[0,1,4,12,13],[]),(2,[0,1,4,12,13],[]),(4,[0,1,4,12,13],[]),(6,[0,1,4,12,13],[]),(8,[0,1,4,12,13],[])] }),
 (216,{ drop:=true }),
 (217,{ drop:=true }),
 (218,{ keep := [(0,[0,2,3,4,10],[])] }),
 (219,{ drop:=true })]
noncomputable def Ae:Fh:=eval Tryz.prog I
noncomputable def X (f:Nat):Ctx:=I.ctx Ae f
theorem Xr:Sound Tryz.prog I:=UA (by kernel_rfl) (by kernel_rfl) (by kernel_rfl)
theorem evl_sound:SC Tryz.prog Ae:=Sf Xr


variable {n:Nat}{p:Prop}{h:Heap}{a:Pq}{ro:Bool}{rs:List (List V)}{j:Nat}
section words
variable {R:Type}
@[simp] theorem Ax (x y:Option R):br true x y=x:=rfl
@[simp] theorem AC (x y:Option R):br false x y=y:=rfl
@[simp] theorem IS (x:Option R):A4 true x=x:=rfl
@[simp] theorem Aa (k:IntKind) (n:Int) (f:Int->Option R):eI k (.int k n) f=f n:=by simp[eI]
@[simp] theorem Bd (b:Bool) (f:Bool->Option R):eBv (.bool b) f=f b:=rfl
@[simp] theorem A2 (b:Bool) (x y:Option R):eB (.bool b) x y=br b x y:=rfl
@[simp] theorem Dw (s:ByteArray) (f:ByteArray->Option R):eT (.str s) f=f s:=rfl
@[simp] theorem Ah (q:Nat) (a:Pq) (n:Nat) (c:Nq) (f:Pq->Nat->Nq->Option R):eS q (.sl q a n c) f=f a n c:=by
 unfold eS;cases a with
 | none=>rfl
 | some p=>simp
@[simp] theorem Xd (p:Option (Nat×Nat×Nat)) (f:Option (Nat×Nat×Nat)->Option R):eP (.ptr p) f=f p:=rfl
@[simp] theorem XE (p:Nq) (f:Nq->Option R):eM (.map p) f=f p:=rfl
@[simp] theorem AW (cs:List V) (f:List V->Option R):eA (.agg cs) f=f cs:=rfl
@[simp] theorem Na (cs:List V) (f:List V->Option R):eU (.tup cs) f=f cs:=rfl
@[simp] theorem Ab (v:V) (r:List V) (f:V->List V->Option R):eC (v :: r) f=f v r:=rfl
@[simp] theorem Ai (x:Option R):eN [] x=x:=rfl
@[simp] theorem Af {α:Type} (x:α) (f:α->Option R):eO (some x) f=f x:=rfl
@[simp] theorem XP {α:Type} (x:α) (f:α->Option R) (z:Option R):eX (some x) f z=f x:=rfl
@[simp] theorem XQ {α:Type} (f:α->Option R) (z:Option R):eX none f z=z:=rfl
@[simp] theorem Ac {α:Type} (v:V) (h:α) (f:V->α->Option R):Ak (some (v,h)) f=f v h:=rfl
theorem Er {i:Int} (h:0<=i/\i<n) (f:Option R):Av i n f=f:=by unfold Av;rw[decide_eq_true h]
@[simp] theorem Ad {k:Nat} (h:k<n) (f:Option R):Av (k:Int) n f=f:=Er ⟨by omega,by omega⟩ f
theorem DZ {i:Int} (h:0<=i/\i<=n) (f:Option R):TU i n f=f:=by unfold TU;rw[decide_eq_true h]
theorem Im [Decidable p] (h:p) (f:Option R):A4 (decide p) f=f:=by rw[decide_eq_true h];rfl
theorem Am [Decidable p] (h:p) (x y:Option R):br (decide p) x y=x:=by rw[decide_eq_true h];rfl
theorem Ao [Decidable p] (h:¬ p) (x y:Option R):br (decide p) x y=y:=by rw[decide_eq_false h];rfl
@[simp] theorem Te {α:Type} (b c d:Bool) (h:α):br b (some (V.bool c,h)) (some (V.bool d,h))=some (V.bool (bif b then c else d),h):=by cases b<;>rfl
end words
theorem wr {n:Int} (h1 : -9223372036854775808<=n) (h2:n<=9223372036854775807):AD n=n:=IntWalk.i64_in n ⟨h1,h2⟩
theorem Ay {k:Nat} (h:k<9223372036854775807):AD ((k:Int)+1)=((k+1:Nat):Int):=by rw[wr (by omega) (by omega)];omega
def Sl (h:Heap) (rows:List (List V)) (a:Pq) (n:Nat):Prop :=
 n=rows.length/\(rows = []\/∃ b i rs,a=some (b,i)/\Heap.rows? h b=some rs/\(rs.drop i).take n=rows)
theorem Sl.len {rows:List (List V)} (s:Sl h rows a n):n=rows.length:=s.1
theorem Sl.nil:Sl h [] a 0:=⟨rfl,.inl rfl⟩
theorem Sl.read {rows:List (List V)}{k:Nat}{row:List V} (s:Sl h rows a n) (hk:rows[k]?=some row) :
  ∃ o,a=some o/\∀ j m,ld h o.1 (o.2+k) j m=cut row j m:=by
 obtain ⟨h1,h2 | ⟨b,i,rs,h2,h3,h4⟩⟩:=s
 ·subst h2;simp at hk
 ·refine ⟨(b,i),h2,λj m=>?_⟩;have hlt:k<rows.length:=(Ef hk).1;have:rs[i+k]?=some row:=by rw[<- h4,List.getElem?_take_of_lt (by omega),Yu] at hk;exact hk
  simp only[ld,h3,Ys,this]
theorem Sl.mono {h':Heap}{rows:List (List V)} (s:Sl h rows a n) (hp:h <+: h'):Sl h' rows a n:=by
 obtain ⟨h1,h2 | ⟨b,i,rs,h2,h3,h4⟩⟩:=s
 ·exact ⟨h1,.inl h2⟩
 ·refine ⟨h1,.inr ⟨b,i,rs,h2,?_,h4⟩⟩;obtain ⟨t,rfl⟩:=hp;unfold Heap.rows? at h3 ⊢;have hb:b<h.length:=by apply Zf;intro hle;rw[YM hle] at h3;cases h3
  rw[X2 hb];exact h3
theorem Ih {R e:Nat}:Heap.rows? (h ++ [.rows R e ro rs]) h.length=some rs:=by simp[Heap.rows?]
theorem Sl.last {R e:Nat}{rows:List (List V)} (hn:n=rows.length):Sl (h ++ [.rows R e ro rows]) rows (some (h.length,0)) n :=
 ⟨hn,.inr ⟨h.length,0,rows,rfl,Ih,by simp[hn]⟩⟩
theorem SU {R e:Nat}{i:Nat}{row:List V} (hi:rs[i]?=some row):ld (h ++ [.rows R e ro rs]) h.length i j n=cut row j n:=by simp[ld,Ih,hi]
theorem Tc {row:List V}{v:V} (h:row[j]?=some v):cut row j 1=some [v]:=by have hlt:=(Ef h).1;have hx:=(Ef h).2;rw[Ps (by omega),Yi hlt,hx];rfl
theorem Ik {row:List V}{v:V} (h:j<row.length):paste row j [v]=some (row.set j v):=by
 induction j generalizing row with
 | zero=>cases row with
  | nil=>simp at h
  | cons x r=>simp[paste]
 | succ j ih=>cases row with
  | nil=>simp at h
  | cons x r=>simp only[paste];rw[ih (by simpa using h)];rfl
section maps
variable {K U:Type} [DecidableEq K]
def GA (k:K):List (K×U)->Option U
 | []=>none
 | (x,v) :: r=>if k=x then some v else GA k r
def IM (k:K) (u:U):List (K×U)->List (K×U)
 | [] => [(k,u)]
 | (x,v) :: r=>if k=x then (k,u) :: r else (x,v) :: IM k u r
theorem Kl {k k':K}{u:U}:∀ {m:List (K×U)},GA k' (IM k u m)=if k'=k then some u else GA k' m
 | []=>by simp[IM,GA]
 | (x,v) :: r=>by
  simp only[IM];by_cases h:k=x
  ·subst h;by_cases h':k'=k<;>simp[GA,h']
  ·rw[if_neg h];simp only[GA];rw[Kl (m:=r)];by_cases h':k'=x
   ·subst h';have:¬ k'=k:=λe=>h e.symm;simp[this]
   ·simp[h']
def IF (ek:K->V) (eu:U->V) (m:List (K×U)):List (V×V):=m.map λp=>(ek p.1,eu p.2)
theorem N7 {ek:K->V}{eu:U->V} (hk:∀ a b,PT (ek a) (ek b)=some (decide (a=b))) {k:K}:∀ {m:List (K×U)},HR (ek k) (IF ek eu m)=some ((GA k m).map eu)
 | []=>rfl
 | (x,v) :: r=>by
  have ih:=N7 (eu:=eu) hk (k:=k) (m:=r);simp only[IF] at ih;simp only[IF,Zi,HR,hk,GA];by_cases h:k=x
  ·simp[h]
  ·simp only[h,decide_false,if_false];exact ih
theorem QH {ek:K->V}{eu:U->V} (hk:∀ a b,PT (ek a) (ek b)=some (decide (a=b))) {k:K}{u:U}:∀ {m:List (K×U)},IH (ek k) (eu u) (IF ek eu m)=some (IF ek eu (IM k u m))
 | []=>rfl
 | (x,v) :: r=>by
  have ih:=QH (eu:=eu) hk (k:=k) (u:=u) (m:=r);simp only[IF] at ih;simp only[IF,Zi,IH,hk,IM];by_cases h:k=x
  ·simp[h]
  ·simp only[h,decide_false,if_false];rw[ih];rfl
end maps


variable {ro:Bool}{R R' n:Nat}{a:Pq}{c:Nq}{F:List Nat}{k:Nat}{rs xs:List (List V)}{Gs Fs:List (List Nat)}{G:List Nat}{T:Type}{K:Pq->Nat->Nq->Option T}
abbrev Rel (α:Type):=Heap->List V->α->List Nat->Prop
def Rel.Fr {α:Type} (El:Rel α):Prop:=∀ (h h':Heap) (cs:List V) (x:α) (F:List Nat),El h cs x F->(∀ b∈F,h'[b]?=h[b]?)->El h' cs x F
def Rel.Ln {α:Type} (El:Rel α) (n:Nat):Prop:=∀ (h:Heap) (cs:List V) (x:α) (F:List Nat),El h cs x F->cs.length=n
def flat {α:Type} (cs:α->List V):Rel α:=λ_ row x F=>row=cs x/\F = []
theorem Pb {α:Type}{cs:α->List V}:(flat cs).Fr:=λ_ _ _ _ _ h _=>h
def EAll {α:Type} (El:Rel α) (h:Heap):List (List V)->List α->List (List Nat)->Prop
 | [],[],[]=>True
 | r :: rs,x :: xs,F :: Fs=>El h r x F/\EAll El h rs xs Fs
 | _,_,_=>False
def Sli {α:Type} (ro:Bool) (R e:Nat) (El:Rel α):Rel (List α):=λh cs l F=>∃ R' a c,cs = [.sl R' a l.length c]/\match ro with
 | true=>R'=R/\((l = []/\F = [])\/∃ b i rs Fs,a=some (b,i)/\Heap.rows? h b=some rs/\i+l.length<=rs.length/\EAll El h ((rs.drop i).take l.length) l Fs/\F=b :: Fs.flatten)
 | false=>match a with
  | none=>l = []/\c=some 0/\F = []
  | some (b,i)=>R'=R/\∃ rs Fs,h[b]?=some (.rows R e false rs)/\i+l.length<=rs.length/\(∀ k,c=some k->l.length<=k/\i+k<=rs.length)/\(c=none->i=0)/\EAll El h ((rs.drop i).take l.length) l Fs/\F=b :: Fs.flatten
section
variable {α:Type}{El:Rel α}{h h':Heap}
theorem EAll.fr (hf:El.Fr):∀ {rows:List (List V)}{l:List α}{Fs:List (List Nat)},EAll El h rows l Fs->(∀ b∈Fs.flatten,h'[b]?=h[b]?)->EAll El h' rows l Fs
 | [],[],[],_,_=>trivial
 | r :: rs,x :: xs,F :: Fs,⟨h1,h2⟩,hb=>⟨hf _ _ _ _ _ h1 λb hm=>hb b (by simp[hm]),EAll.fr hf h2 λb hm=>hb b (by simp only[Ym,X0];exact .inr hm)⟩
 | [],[],_ :: _,h,_=>h.elim
 | [],_ :: _,_,h,_=>h.elim
 | _ :: _,[],_,h,_=>h.elim
 | _ :: _,_ :: _,[],h,_=>h.elim
theorem EAll.len:∀ {rows:List (List V)}{l:List α}{Fs:List (List Nat)},EAll El h rows l Fs->rows.length=l.length/\Fs.length=l.length
 | [],[],[],_=>⟨rfl,rfl⟩
 | r :: rs,x :: xs,F :: Fs,⟨_,h2⟩=>by have:=EAll.len h2;simp[this.1,this.2]
 | [],[],_ :: _,h=>h.elim
 | [],_ :: _,_,h=>h.elim
 | _ :: _,[],_,h=>h.elim
 | _ :: _,_ :: _,[],h=>h.elim
theorem EAll.get:∀ {rows:List (List V)}{l:List α}{Fs:List (List Nat)},EAll El h rows l Fs->∀ {k:Nat}{x:α},l[k]?=some x->∃ row F,rows[k]?=some row/\Fs[k]?=some F/\El h row x F
 | [],[],[],_,k,x,hk=>by simp at hk
 | r :: rs,x :: xs,F :: Fs,⟨h1,h2⟩,0,y,hk=>by simp at hk;subst hk;exact ⟨r,F,rfl,rfl,h1⟩
 | r :: rs,x :: xs,F :: Fs,⟨h1,h2⟩,k+1,y,hk=>by simp at hk;obtain ⟨row,G,g1,g2,g3⟩:=EAll.get h2 hk;exact ⟨row,G,by simpa using g1,by simpa using g2,g3⟩
 | [],[],_ :: _,h,_,_,_=>h.elim
 | [],_ :: _,_,h,_,_,_=>h.elim
 | _ :: _,[],_,h,_,_,_=>h.elim
 | _ :: _,_ :: _,[],h,_,_,_=>h.elim
theorem EAll.set:∀ {rows:List (List V)}{l:List α}{Fs:List (List Nat)},EAll El h rows l Fs->∀ {k:Nat}{row:List V}{x:α}{F:List Nat},El h row x F->EAll El h (rows.set k row) (l.set k x) (Fs.set k F)
 | [],[],[],_,k,_,_,_,_=>trivial
 | r :: rs,x :: xs,F :: Fs,⟨h1,h2⟩,0,_,_,_,he=>⟨he,h2⟩
 | r :: rs,x :: xs,F :: Fs,⟨h1,h2⟩,k+1,_,_,_,he=>⟨h1,EAll.set h2 he⟩
 | [],[],_ :: _,h,_,_,_,_,_=>h.elim
 | [],_ :: _,_,h,_,_,_,_,_=>h.elim
 | _ :: _,[],_,h,_,_,_,_,_=>h.elim
 | _ :: _,_ :: _,[],h,_,_,_,_,_=>h.elim
theorem EAll.append:∀ {rows rows':List (List V)}{l l':List α}{Fs Fs':List (List Nat)},EAll El h rows l Fs->EAll El h rows' l' Fs'->EAll El h (rows++rows') (l++l') (Fs++Fs')
 | [],_,[],_,[],_,_,h=>h
 | r :: rs,_,x :: xs,_,F :: Fs,_,⟨h1,h2⟩,h=>⟨h1,EAll.append h2 h⟩
 | [],_,[],_,_ :: _,_,h,_=>h.elim
 | [],_,_ :: _,_,_,_,h,_=>h.elim
 | _ :: _,_,[],_,_,_,h,_=>h.elim
 | _ :: _,_,_ :: _,_,[],_,h,_=>h.elim
theorem EAll.take:∀ {rows:List (List V)}{l:List α}{Fs:List (List Nat)},EAll El h rows l Fs->∀ (n:Nat),EAll El h (rows.take n) (l.take n) (Fs.take n)
 | [],[],[],_,n=>by simp[EAll]
 | r :: rs,x :: xs,F :: Fs,⟨h1,h2⟩,0=>trivial
 | r :: rs,x :: xs,F :: Fs,⟨h1,h2⟩,n+1=>⟨h1,EAll.take h2 n⟩
 | [],[],_ :: _,h,_=>h.elim
 | [],_ :: _,_,h,_=>h.elim
 | _ :: _,[],_,h,_=>h.elim
 | _ :: _,_ :: _,[],h,_=>h.elim
theorem EAll.drop:∀ {rows:List (List V)}{l:List α}{Fs:List (List Nat)},EAll El h rows l Fs->∀ (n:Nat),EAll El h (rows.drop n) (l.drop n) (Fs.drop n)
 | [],[],[],_,n=>by simp[EAll]
 | r :: rs,x :: xs,F :: Fs,h,0=>h
 | r :: rs,x :: xs,F :: Fs,⟨h1,h2⟩,n+1=>EAll.drop h2 n
 | [],[],_ :: _,h,_=>h.elim
 | [],_ :: _,_,h,_=>h.elim
 | _ :: _,[],_,h,_=>h.elim
 | _ :: _,_ :: _,[],h,_=>h.elim
theorem EAll.flat {cs:α->List V}:∀ {l:List α},EAll (flat cs) h (l.map cs) l (l.map λ_ => [])
 | []=>trivial
 | x :: l=>⟨⟨rfl,rfl⟩,EAll.flat⟩
theorem EAll.of_flat {cs:α->List V}:∀ {rows:List (List V)}{l:List α}{Fs:List (List Nat)},EAll (Go.Proofs.YtmdgiekbejjjgaaGreat.flat cs) h rows l Fs->rows=l.map cs/\Fs.flatten = []
 | [],[],[],_=>⟨rfl,rfl⟩
 | r :: rs,x :: xs,F :: Fs,⟨⟨h1,h2⟩,h3⟩=>by obtain ⟨h4,h5⟩:=EAll.of_flat h3;subst h1;subst h2;subst h4;exact ⟨rfl,by simpa using h5⟩
 | [],[],_ :: _,h=>h.elim
 | [],_ :: _,_,h=>h.elim
 | _ :: _,[],_,h=>h.elim
 | _ :: _,_ :: _,[],h=>h.elim
theorem Sli.fr {ro:Bool}{R e:Nat} (hf:El.Fr):(Sli ro R e El).Fr:=by
 rintro h h' cs l F ⟨R',a,c,h1,h2⟩ hb
 refine ⟨R',a,c,h1,?_⟩;cases ro with
 | true =>
  obtain ⟨hR,h2 | ⟨b,i,rs,Fs,g0,g1,g2,g5,rfl⟩⟩:=h2
  ·exact ⟨hR,.inl h2⟩
  ·exact ⟨hR,.inr ⟨b,i,rs,Fs,g0,by unfold Heap.rows? at g1 ⊢;rw[hb b (by simp)];exact g1,g2,g5.fr hf λb hm=>hb b (by simp only[Ye];exact .inr hm),rfl⟩⟩
 | false =>
 cases a with
 | none=>exact h2
 | some p =>obtain ⟨b,i⟩:=p;obtain ⟨hR,rs,Fs,g1,g2,g3,g4,g5,rfl⟩:=h2;exact ⟨hR,rs,Fs,by rw[hb b (by simp)];exact g1,g2,g3,g4,g5.fr hf λb hm=>hb b (by simp only[Ye];exact .inr hm),rfl⟩
theorem Sli.nil {e:Nat}:Sli false R e El h [.sl R' none 0 (some 0)] [] []:=⟨R',none,some 0,rfl,rfl,rfl,rfl⟩
theorem Sli.val {e:Nat}{l:List α} (hs:Sli ro R e El h [.sl R' a n c] l F):n=l.length:=by obtain ⟨R1,a',c',h1,_⟩:=hs;injection h1 with h1 _;injection h1
theorem Sli.form {e:Nat}{v:V}{l:List α} (hs:Sli ro R e El h [v] l F) :
  ∃ a c,(∀ {R':Type} (K:Pq->Nat->Nq->Option R'),eS R v K=K a l.length c)/\Sli ro R e El h [.sl R a l.length c] l F:=by
 obtain ⟨R',a,c,h1,h2⟩:=hs;injection h1 with h1 _;subst h1;cases ro with
 | true =>obtain ⟨rfl,h2⟩:=h2;exact ⟨a,c,λK=>Ah _ _ _ _ _,R',a,c,rfl,rfl,h2⟩
 | false =>
 cases a with
 | none=>exact ⟨none,c,λK=>rfl,R,none,c,rfl,h2⟩
 | some p =>obtain ⟨b,i⟩:=p;obtain ⟨rfl,h3⟩:=h2;exact ⟨some (b,i),c,λK=>Ah _ _ _ _ _,R',some (b,i),c,rfl,rfl,h3⟩
theorem Sli.data {e:Nat}{l:List α} (hs:Sli false R e El h [.sl R' a n c] l F) (hk:k<l.length) :
  ∃ b i rs Fs,a=some (b,i)/\h[b]?=some (.rows R e false rs)/\i+l.length<=rs.length/\(∀ k,c=some k->l.length<=k/\i+k<=rs.length)/\(c=none->i=0)/\EAll El h ((rs.drop i).take l.length) l Fs/\F=b :: Fs.flatten:=by
 obtain ⟨R1,a',c',h1,h2⟩:=hs;injection h1 with h1 _;injection h1 with _ e1 e2 e3;subst e1;subst e3;cases a with
 | none=>obtain ⟨rfl,_⟩:=h2;simp at hk
 | some p =>obtain ⟨b,i⟩:=p;obtain ⟨_,rs,Fs,g⟩:=h2;exact ⟨b,i,rs,Fs,rfl,g⟩
theorem Sli.clip {e:Nat}{l:List α} (hs:Sli false R e El h [.sl R' a n c] l F):Sli false R e El h [.sl R' a n (some n)] l F:=by
 have hn:=hs.val;subst hn;obtain ⟨R1,a',c',h1,h2⟩:=hs;injection h1 with h1 _;injection h1 with e0 e1 e2 e3;subst e0;subst e1;subst e3;refine ⟨R',a,some l.length,rfl,?_⟩;cases a with
 | none=>obtain ⟨rfl,h3,h4⟩:=h2;exact ⟨rfl,rfl,h4⟩
 | some p =>obtain ⟨b,i⟩:=p;obtain ⟨hR,rs,Fs,g1,g2,g3,g4,g5⟩:=h2;exact ⟨hR,rs,Fs,g1,g2,(λk hk=>by injection hk with hk;subst hk;exact ⟨X1 _,g2⟩),(λh=>by cases h),g5⟩
theorem Ji {e:Nat}{l:List α} (hs:Sli false R e El h [.sl R' a n c] l F) :
  AB a n c none (some (Iv (n:Nat))) (some (Iv (n:Nat))) K=K a n (some n):=by
 have hn:=hs.val;subst hn;obtain ⟨R1,a',c',h1,h2⟩:=hs;injection h1 with h1 _;injection h1 with e0 e1 e2 e3;subst e0;subst e1;subst e3;have hc:∀ k,c=some k->l.length<=k:=λk hk=>by
  cases a with
  | none=>obtain ⟨rfl,_⟩:=h2;simp
  | some p=>obtain ⟨b,i⟩:=p;obtain ⟨_,_,_,_,_,g3,_⟩:=h2;exact (g3 k hk).1
 unfold AB FK Ix Jg;cases c with
 | none=>simp only[Aa,By];rw[DZ ⟨by omega,by omega⟩,DZ ⟨by omega,by omega⟩]
 | some k=>have:=hc k rfl;simp only[Aa,By];rw[DZ ⟨by omega,by omega⟩,DZ ⟨by omega,by omega⟩]
theorem Sli.read {e:Nat}{l:List α} (hs:Sli ro R e El h [.sl R' a n c] l F) (hk:k<l.length) :
  ∃ o row G,a=Option.some o/\(∀ j m,ld h o.1 (o.2+k) j m=cut row j m)/\El h row l[k] G/\(∀ b∈G,b∈F)/\o.1∈F:=by
 have fin:∀ b i rs Fs,a=Option.some (b,i)->Heap.rows? h b=Option.some rs->i+l.length<=rs.length->EAll El h ((rs.drop i).take l.length) l Fs->F=b :: Fs.flatten ->
   ∃ o row G,a=Option.some o/\(∀ j m,ld h o.1 (o.2+k) j m=cut row j m)/\El h row l[k] G/\(∀ b∈G,b∈F)/\o.1∈F:=by
  rintro b i rs Fs rfl g1 g2 g5 rfl
  obtain ⟨row,G,k1,k2,k3⟩:=g5.get (CX hk);refine ⟨(b,i),row,G,rfl,λj m=>?_,k3,λx hx=>?_,by simp⟩
  ·have:rs[i+k]?=Option.some row:=by rw[List.getElem?_take_of_lt hk,Yu] at k1;exact k1
   simp only[ld,g1,Ys,this]
  ·simp only[Ye,Zg];exact .inr ⟨G,X8 k2,hx⟩
 cases ro with
 | true =>
  obtain ⟨R1,a',c',h1,_,⟨rfl,_⟩ | ⟨b,i,rs,Fs,g0,g1,g2,g5,g6⟩⟩:=hs
  ·simp at hk
  ·injection h1 with h1 _;injection h1 with _ e1 _ _;exact fin b i rs Fs (by rw[e1,g0]) g1 g2 g5 g6
 | false =>obtain ⟨b,i,rs,Fs,h0,g1,g2,g3,g4,g5,g6⟩:=hs.data hk;exact fin b i rs Fs h0 (by simp only[Heap.rows?,g1]) g2 g5 g6
end
theorem Gc {a b:Nat} (h:a<=b):Nat.ble a b=true:=by simpa [Nat.ble_eq] using h
theorem Tg {a b:Nat} (h:¬ a<=b):Nat.ble a b=false:=by
 cases hb:Nat.ble a b with
 | false=>rfl
 | true=>exact absurd (YK hb) h
theorem Kj {a:Nat}:Nat.beq a a=true:=by simp
theorem WX {tl:List (List V)}{i len:Nat} (hi:i+len<=rs.length):((rs.take (i+len)++xs++tl).drop i).take (len+xs.length)=(rs.drop i).take len++xs:=by
 have h1:(rs.take i).length=i:=by simp;omega
 have h2:((rs.drop i).take len).length=len:=by simp;omega
 have h3:rs.take (i+len)=rs.take i++(rs.drop i).take len:=by rw[List.take_add]
 rw[h3,Yd,Yd,List.drop_append_of_le_length (by omega)];rw[show (rs.take i).drop i = [] from YI (by omega),Yr,<- Yd,List.take_append_of_le_length (by simp;omega),YA (by simp;omega)]
def Sz {R':Type} (lo e R len:Nat) (xs:List (List V)) (h:Heap) (a:Pq) (c:Nq) (K:V->Heap->Option R'):Option R':=match a with
 | none=>K (.sl R (some (h.length,0)) (len+xs.length) none) (h ++ [.rows R e false xs])
 | some (b,i)=>match c with
  | some c=>match Nat.ble (len+xs.length) c with
   | true=>eO (FI lo h b (i+len) xs) λh'=>K (.sl R (some (b,i)) (len+xs.length) (some c)) h'
   | false=>eO (Dv h b i len) λold=>K (.sl R (some (h.length,0)) (len+xs.length) none) (h ++ [.rows R e false (old++xs)])
  | none=>eO (Heap.own? lo e h b) λrs=>match Nat.ble (i+len+xs.length) rs.length with
   | true=>eO (FI lo h b (i+len) xs) λh'=>K (.sl R (some (b,i)) (len+xs.length) none) h'
   | false=>A4 (Nat.beq i 0) <| eO (Dv h b i len) λold=>K (.sl R (some (h.length,0)) (len+xs.length) none) (h.set b .dead ++ [.rows R e false (old++xs)])
theorem Sli.push {α:Type}{El:Rel α}{h:Heap}{lo e bytes:Nat}{l ys:List α} (hfr:El.Fr)
  (hs:Sli false R e El h [.sl R a n c] l F) (hx:EAll El h xs ys Gs) (hb:0<bytes) (hsz:(l.length+ys.length)*bytes<=140737488355328) (hlo:∀ b∈F,lo<=b) (hl:lo<=h.length)
  (hnd:(F++Gs.flatten).Nodup) (hF:∀ b∈F++Gs.flatten,b<h.length) (hne:ys ≠ []) :
  ∃ a' c' h' F',(∀ {R':Type} (K:V->Heap->Option R'),CC lo e R bytes (.sl R a n c) xs h K=K (.sl R a' (l.length+ys.length) c') h')/\Sli false R e El h' [.sl R a' (l.length+ys.length) c'] (l++ys) F'/\h.length<=h'.length /\
   (∀ b,b<h.length->b∉F->h'[b]?=h[b]?)/\(∀ b∈F',b∈F++Gs.flatten\/(h.length<=b/\b<h'.length))/\F'.Nodup:=by
 have hxl:=hx.len;have hxs:xs ≠ []:=λh0=>by subst h0;simp at hxl;exact hne (X6 hxl.1.symm)
 have hbl:Nat.blt 0 bytes=true:=by simpa [Zm] using hb
 have hn:=hs.val;subst hn;obtain ⟨x0,xr,hx0⟩:∃ x0 xr,xs=x0 :: xr:=by cases xs with
  | nil=>exact absurd rfl hxs
  | cons x r=>exact ⟨x,r,rfl⟩
 have hsz':decide ((l.length+xs.length)*bytes<=L2)=true:=decide_eq_true (by rw[hxl.1];exact hsz);have hA:∀ {R':Type} (K:V->Heap->Option R'),CC lo e R bytes (.sl R a l.length c) xs h K=Sz lo e R l.length xs h a c K:=by
  intro R' K;subst hx0;simp only[CC,hbl,hsz',IS];unfold Sz;cases a with
  | none=>rfl
  | some p =>obtain ⟨b,i⟩:=p;simp only[Kj,IS];cases c<;>rfl
 have new:∀ (old:List (List V)) (Fs:List (List Nat)) (h0:Heap),EAll El h0 old l Fs->EAll El h0 xs ys Gs->h0.length=h.length->(∀ b∈(Fs++Gs).flatten,b<h.length)->(Fs++Gs).flatten.Nodup ->
   Sli false R e El (h0 ++ [.rows R e false (old++xs)]) [.sl R (some (h.length,0)) (l.length+ys.length) none] (l++ys) (h.length ::(Fs++Gs).flatten)/\(h.length ::(Fs++Gs).flatten).Nodup:=by
  intro old Fs h0 ho hx' hl0 hlt hnd';have hol:=ho.len;refine ⟨⟨R,some (h.length,0),none,by simp,rfl,old++xs,Fs++Gs,by simp[<- hl0],by simp;omega,λk hk=>(by cases hk),λ_=>rfl,?_,rfl⟩,?_⟩
  ·have:((old++xs).drop 0).take (l++ys).length=old++xs:=by rw[YQ,YA];simp;omega
   rw[this];have hap:=ho.append hx';refine hap.fr hfr λb hb=>?_;rw[X2 (by rw[hl0];exact hlt b hb)]
  ·rw[Yk];exact ⟨λhm=>by have:=hlt _ hm;omega,hnd'⟩
 cases a with
 | none =>
  obtain ⟨R1,a1,c1,e1,e2⟩:=hs;injection e1 with e1 _;injection e1 with _ e3 _ e4;subst e3;subst e4;obtain ⟨rfl,rfl,rfl⟩:=e2;simp only[Yr] at hnd hF;obtain ⟨n1,n2⟩:=new [] [] h trivial hx rfl (by simpa using hF) (by simpa using hnd);refine ⟨_,_,_,_,λK=>by rw[hA K];simp only[Sz];rw[hxl.1,Yr],n1,by simp,λb hb _=>X2 hb,λb hb=>?_,n2⟩;simp only[Ye,Yr] at hb;rcases hb with rfl | hb
  ·exact .inr ⟨X1 _,by simp⟩
  ·exact .inl (by simpa using hb)
 | some p =>
  obtain ⟨b,i⟩:=p;obtain ⟨R1,a1,c1,e1,e2⟩:=hs;injection e1 with e1 _;injection e1 with _ e3 _ e4;subst e3;subst e4;obtain ⟨_,rs,Fs,g1,g2,g3,g4,g5,rfl⟩:=e2;have hlob:lo<=b:=hlo b (by simp);have hblt:b<h.length:=hF b (by simp);have hnd1:b∉Fs.flatten++Gs.flatten/\(Fs.flatten++Gs.flatten).Nodup:=by rw[Yy,Yk] at hnd;exact hnd
  have hF1:∀ x∈(Fs++Gs).flatten,x<h.length:=λx hx=>hF x (by rw[Yy,Ye];rw[Yq] at hx;exact .inr hx);have hld:Dv h b i l.length=some ((rs.drop i).take l.length):=by simp only[Dv,Heap.rows?,g1,Ys,Gc g2]
  have place:∀ c,(∀ k,c=some k->l.length+ys.length<=k/\i+k<=rs.length)->(c=none->i=0)->i+l.length+xs.length<=rs.length->∃ h',FI lo h b (i+l.length) xs=some h' /\
    Sli false R e El h' [.sl R (some (b,i)) (l.length+ys.length) c] (l++ys) (b ::(Fs++Gs).flatten)/\h'.length=h.length/\(∀ x,x≠b->h'[x]?=h[x]?):=by
   intro c hc hc0 hle;refine ⟨h.set b (.rows R e false (rs.take (i+l.length)++xs++rs.drop (i+l.length+xs.length))),?_,?_,by simp,λx hx=>XZ (Ne.symm hx)⟩
   ·simp only[FI,g1,Gc hlob,Gc hle]
   ·refine ⟨R,some (b,i),c,by simp,rfl,rs.take (i+l.length)++xs++rs.drop (i+l.length+xs.length),Fs++Gs,by simp[hblt],by simp;omega,λk hk=>?_,hc0,?_,rfl⟩
    ·have:=hc k hk;refine ⟨by simpa using this.1,?_⟩;simp only[Yp,YE,YY];omega
    ·rw[Yp,<- hxl.1,WX g2];refine (g5.append hx).fr hfr λx hx=>XZ ?_
     rintro rfl
     rw[Yq] at hx;exact hnd1.1 hx
  have fin:∀ F',F'=b ::(Fs++Gs).flatten->(∀ x∈F',x∈(b :: Fs.flatten)++Gs.flatten\/(h.length<=x/\x<h.length))/\F'.Nodup:=by
   rintro F' rfl
   rw[Yq];exact ⟨λx hx => .inl hx,by rw[Yk];exact hnd1⟩
  have CR:∀ h0:Heap,h0.length=h.length->(∀ x,x≠b->h0[x]?=h[x]?)->Sli false R e El (h0 ++ [.rows R e false ((rs.drop i).take l.length++xs)]) [.sl R (some (h.length,0)) (l.length+ys.length) none] (l++ys) (h.length ::(Fs++Gs).flatten) /\
    (h.length ::(Fs++Gs).flatten).Nodup:=by
   intro h0 hl0 hx0;refine new _ Fs h0 (g5.fr hfr λx hx=>hx0 x ?_) (hx.fr hfr λx hx=>hx0 x ?_) hl0 hF1 (by rw[Yq];exact hnd1.2)
   ·rintro rfl;exact hnd1.1 (YG _ hx)
   ·rintro rfl;exact hnd1.1 (Za _ hx)
  have mem:∀ x∈h.length ::(Fs++Gs).flatten,x∈(b :: Fs.flatten)++Gs.flatten\/(h.length<=x/\x<h.length+1):=by
   intro x hx;rw[Ye] at hx;rcases hx with rfl | hx
   ·exact .inr ⟨X1 _,by omega⟩
   ·rw[Yq] at hx;exact .inl (by rw[Yy];exact YF _ hx)
  cases c with
  | some c =>
   obtain ⟨k1,k2⟩:=g3 c rfl;by_cases hle:l.length+xs.length<=c
   ·obtain ⟨h',p1,p2,p3,p4⟩:=place (some c) (λk hk=>by injection hk with hk;subst hk;exact ⟨by omega,k2⟩) (λh=>by cases h) (by omega);obtain ⟨f1,f2⟩:=fin _ rfl;refine ⟨_,_,h',_,λK=>?_,p2,by omega,λx _ hx=>p4 x λe=>hx (by simp[e]),λx hx=>(f1 x hx).imp id λh=>by omega,f2⟩;rw[hA K];simp only[Sz,Gc hle,p1,Af];rw[hxl.1]
   ·obtain ⟨p1,p2⟩:=CR h rfl λ_ _=>rfl;refine ⟨_,_,_,_,λK=>?_,p1,by simp,λx hx _=>X2 hx,λx hx=>(mem x hx).imp id λh=>by simpa using h,p2⟩;rw[hA K];simp only[Sz,Tg hle,hld,Af];rw[hxl.1]
  | none =>
   have hi0:=g4 rfl;subst hi0;have hown:Heap.own? lo e h b=some rs:=by simp only[Heap.own?,g1,Gc hlob,Kj]
   by_cases hle:0+l.length+xs.length<=rs.length
   ·obtain ⟨h',p1,p2,p3,p4⟩:=place none (λk hk=>by cases hk) (λ_=>rfl) hle;obtain ⟨f1,f2⟩:=fin _ rfl;refine ⟨_,_,h',_,λK=>?_,p2,by omega,λx _ hx=>p4 x λe=>hx (by simp[e]),λx hx=>(f1 x hx).imp id λh=>by omega,f2⟩;rw[hA K];simp only[Sz,hown,Af,Gc hle,p1];rw[hxl.1]
   ·obtain ⟨p1,p2⟩:=CR (h.set b .dead) (by simp) λx hx=>XZ (Ne.symm hx);refine ⟨_,_,_,_,λK=>?_,p1,by simp,λx hx hxF=>?_,λx hx=>(mem x hx).imp id λh=>by simpa using h,p2⟩
    ·rw[hA K];simp only[Sz,hown,Af,Tg hle,Kj,IS,hld];rw[hxl.1]
    ·rw[X2 (by simpa using hx),XZ]
     rintro rfl;exact hxF (by simp)
theorem Eh {lo:Nat}{h:Heap}{b r j e:Nat}{row row' cs:List V} (hb:h[b]?=some (.rows R e false rs)) (hl:lo<=b) (hr:rs[r]?=some row) (hp:paste row j cs=some row') :
  st lo h b r j cs=some (h.set b (.rows R e false (rs.set r row'))):=by
 simp only[st,hb,Gc hl,hr,hp,Ys]
theorem Fm {y:Nat} (h:y∈(Fs.set k G).flatten):y∈Fs.flatten\/y∈G:=by
 rw[Zg] at h;obtain ⟨H,h1,h2⟩:=h;rcases Yo h1 with h3 | rfl
 ·exact .inl (Zg.2 ⟨H,h3,h2⟩)
 ·exact .inr h2
theorem Gu:∀ {Fs:List (List Nat)}{k:Nat}{G:List Nat},Fs.flatten.Nodup->G.Nodup->(∀ y∈G,y∈Fs.flatten->∃ H,Fs[k]?=some H/\y∈H)->(Fs.set k G).flatten.Nodup
 | [],k,G,h,_,_=>h
 | F :: Fs,0,G,h,hG,hd=>by
  simp only[List.set_cons_zero,Ym] at h hd ⊢;rw[X4] at h ⊢;refine ⟨hG,h.2.1,λa ha b hb=>?_⟩
  rintro rfl
  obtain ⟨H,h1,h2⟩:=hd a ha (Za _ hb);simp at h1;subst h1;exact h.2.2 a h2 a hb rfl
 | F :: Fs,k+1,G,h,hG,hd=>by
  simp only[List.set_cons_succ,Ym] at h hd ⊢;rw[X4] at h ⊢;have ih:=Gu (k:=k) h.2.1 hG λy hy hm=>by obtain ⟨H,h1,h2⟩:=hd y hy (Za _ hm);exact ⟨H,by simpa using h1,h2⟩
  refine ⟨h.1,ih,λa ha b hb=>?_⟩
  rintro rfl
  rcases Fm hb with h1 | h1
  ·exact h.2.2 a ha a h1 rfl
  ·obtain ⟨H,h2,h3⟩:=hd a h1 (YG _ ha);simp at h2;exact h.2.2 a ha a (Zg.2 ⟨H,X8 h2,h3⟩) rfl
theorem Hl (h:Fs[k]?=some G) {y:Nat} (hy:y∈G):y∈Fs.flatten:=Zg.2 ⟨G,X8 h,hy⟩
theorem set_same {α:Type}:∀ {l:List α}{k:Nat}{x:α},l[k]?=some x->l.set k x=l
 | [],k,x,h=>rfl
 | y :: l,0,x,h=>by simp at h;subst h;rfl
 | y :: l,k+1,x,h=>by simp only[List.set_cons_succ];rw[set_same (by simpa using h)]
theorem HE:∀ {Fs:List (List Nat)}{k y:Nat}{G G':List Nat},Fs.flatten.Nodup->Fs[k]?=some G->y∈(Fs.set k G').flatten->(y∈Fs.flatten/\y∉G)\/y∈G'
 | [],k,y,G,G',_,h,_=>by simp at h
 | F :: Fs,0,y,G,G',hn,h,hy=>by
  simp at h;subst h;simp only[List.set_cons_zero,Ym,X0] at hn hy ⊢;rw[X4] at hn;rcases hy with hy | hy
  ·exact .inr hy
  ·exact .inl ⟨.inr hy,λhm=>hn.2.2 y hm y hy rfl⟩
 | F :: Fs,k+1,y,G,G',hn,h,hy=>by
  simp only[List.set_cons_succ,Ym,X0] at hn hy ⊢;rw[X4] at hn;have h':Fs[k]?=some G:=by simpa using h
  rcases hy with hy | hy
  ·exact .inl ⟨.inl hy,λhm=>hn.2.2 y hy y (Zg.2 ⟨G,X8 h',hm⟩) rfl⟩
  ·rcases HE hn.2.1 h' hy with h1 | h1
   ·exact .inl ⟨.inr h1.1,h1.2⟩
   ·exact .inr h1
theorem EAll.put {α:Type}{El:Rel α}{h h':Heap} (hfr:El.Fr):∀ {rows:List (List V)}{l:List α}{Fs:List (List Nat)},EAll El h rows l Fs->Fs.flatten.Nodup->∀ {k:Nat}{G:List Nat},Fs[k]?=some G ->
  (∀ y∈Fs.flatten,y∉G->h'[y]?=h[y]?)->∀ {row':List V}{x':α}{G':List Nat},El h' row' x' G'->EAll El h' (rows.set k row') (l.set k x') (Fs.set k G')
 | [],[],[],_,_,k,G,h,_,_,_,_,_=>by simp at h
 | r :: rs,x :: xs,F :: Fs,⟨h1,h2⟩,hn,0,G,hk,hb,row',x',G',he=>by simp at hk;subst hk;simp only[Ym,X4] at hn;refine ⟨he,h2.fr hfr λy hy=>hb y (by simp only[Ym,X0];exact .inr hy) λhm=>hn.2.2 y hm y hy rfl⟩
 | r :: rs,x :: xs,F :: Fs,⟨h1,h2⟩,hn,k+1,G,hk,hb,row',x',G',he=>by
  have hk':Fs[k]?=some G:=by simpa using hk
  simp only[Ym,X4] at hn;refine ⟨hfr _ _ _ _ _ h1 λy hy=>hb y (by simp only[Ym,X0];exact .inl hy) λhm=>hn.2.2 y hy y (Zg.2 ⟨G,X8 hk',hm⟩) rfl,?_⟩;exact EAll.put hfr h2 hn.2.1 hk' (λy hy=>hb y (by simp only[Ym,X0];exact .inr hy)) he
 | [],[],_ :: _,h,_,_,_,_,_,_,_,_,_=>h.elim
 | [],_ :: _,_,h,_,_,_,_,_,_,_,_,_=>h.elim
 | _ :: _,[],_,h,_,_,_,_,_,_,_,_,_=>h.elim
 | _ :: _,_ :: _,[],h,_,_,_,_,_,_,_,_,_=>h.elim
theorem Sli.put {α:Type}{El:Rel α}{h:Heap}{R R' e n k:Nat}{a:Pq}{c:Nq}{l:List α}{F:List Nat} (hfr:El.Fr) (hs:Sli false R e El h [.sl R' a n c] l F) (hk:k<l.length) (hnd:F.Nodup) :
  ∃ b i rs row G,a=some (b,i)/\b∈F/\b∉G/\h[b]?=some (.rows R e false rs)/\rs[i+k]?=some row/\El h row l[k] G/\(∀ x∈G,x∈F)/\G.Nodup /\
   ∀ h' row' x' G',h'[b]?=some (.rows R e false (rs.set (i+k) row'))->(∀ y∈F,y≠b->y∉G->h'[y]?=h[y]?)->El h' row' x' G'->G'.Nodup->(∀ y∈G',y∈F->y∈G) ->
    ∃ F',Sli false R e El h' [.sl R' a n c] (l.set k x') F'/\(∀ y∈F',(y∈F/\y∉G)\/y∈G')/\F'.Nodup/\(G'=G->F'=F):=by
 have hn:=hs.val;subst hn;obtain ⟨R1,a1,c1,e1,e2⟩:=hs;injection e1 with e1 _;injection e1 with e0 e3 _ e4;subst e0;subst e3;subst e4;cases a with
 | none=>obtain ⟨rfl,_⟩:=e2;simp at hk
 | some p =>
  obtain ⟨b,i⟩:=p;obtain ⟨hR,rs,Fs,g1,g2,g3,g4,g5,rfl⟩:=e2;obtain ⟨row,G,k1,k2,k3⟩:=g5.get (CX hk);rw[Yk] at hnd;have hGF:∀ x∈G,x∈Fs.flatten:=λx hx=>Hl k2 hx;have hGn:G.Nodup:=hnd.2.sublist (List.sublist_flatten_of_mem (X8 k2));refine ⟨b,i,rs,row,G,rfl,by simp,λhm=>hnd.1 (hGF b hm),g1,?_,k3,λx hx=>YF _ (hGF x hx),hGn,λh' row' x' G' h1 h2 h3 h4 h5=>?_⟩
  ·rw[List.getElem?_take_of_lt hk,Yu] at k1;exact k1
  ·have hl1:((rs.set (i+k) row').drop i).take l.length=((rs.drop i).take l.length).set k row':=by rw[List.drop_set,if_neg (by omega),show i+k - i=k by omega,List.take_set]
   have hG1:∀ y∈G',y∈Fs.flatten->∃ H,Fs[k]?=some H/\y∈H:=λy hy hm=>⟨G,k2,h5 y hy (YF _ hm)⟩
   have hbG:b∉G':=λhm=>hnd.1 (hGF b (h5 b hm (by simp)));refine ⟨b ::(Fs.set k G').flatten,⟨R',some (b,i),c,by simp,hR,rs.set (i+k) row',Fs.set k G',h1,by simpa using g2,λq hq=>by simpa using g3 q hq,g4,?_,rfl⟩,λy hy=>?_,?_,λhG=>?_⟩
   ·rw[YC,hl1];refine g5.put hfr hnd.2 k2 (λy hy hyG=>h2 y (YF _ hy) (λe=>hnd.1 (e ▸ hy)) hyG) h3
   ·rw[Ye] at hy;rcases hy with rfl | hy
    ·exact .inl ⟨by simp,λhm=>hnd.1 (hGF _ hm)⟩
    ·rcases HE hnd.2 k2 hy with h6 | h6
     ·exact .inl ⟨YF _ h6.1,h6.2⟩
     ·exact .inr h6
   ·rw[Yk];refine ⟨λhm=>?_,Gu hnd.2 h4 hG1⟩;rcases Fm hm with h6 | h6
    ·exact hnd.1 h6
    ·exact hbG h6
   ·rw[hG,set_same k2]


variable {c:Nq}{t:List Blk}{α:Type}{ro:Bool}{β:Type}{l:List α}{g:List β->α->Option β}
structure Mv (h:Heap) (F:List Nat) (h':Heap) (F':List Nat):Prop where
 le:h.length<=h'.length
 fr:∀ b,b<h.length->b∉F->h'[b]?=h[b]?
 nd:F'.Nodup
 sub:∀ b∈F',b∈F\/(h.length<=b/\b<h'.length)
structure Rel.Ok {α:Type} (El:Rel α):Prop where
 fr:El.Fr
 bd:∀ (h:Heap) (cs:List V) (x:α) (F:List Nat),El h cs x F->∀ b∈F,b<h.length
section
variable {h h' h'':Heap}{F F' F'' G:List Nat}
theorem WS {T:Type}{lo e R q b n:Nat}{x:List V}{xs:List (List V)}{h:Heap}{K:V->Heap->Option T}:CC lo e R b (.sl q none n c) (x :: xs) h K=CC lo e R b (.sl R none n c) (x :: xs) h K:=rfl
theorem Mv.refl (hn:F.Nodup):Mv h F h F:=⟨X1 _,λ_ _ _=>rfl,hn,λ_ hb => .inl hb⟩
theorem Mv.nil:Mv h [] h []:=Mv.refl (by simp)
theorem Mv.trans (a:Mv h F h' F') (b:Mv h' F' h'' F''):Mv h F h'' F'' :=
 ⟨XX a.le b.le,λx hx hF=>by
  rw[b.fr x (Yb hx a.le) λhm=>(a.sub x hm).elim hF λh=>by omega,a.fr x hx hF],b.nd,λx hx=>by
  have h1:=a.le;have h2:=b.le;rcases b.sub x hx with h3 | h3
  ·rcases a.sub x h3 with h4 | h4
   ·exact .inl h4
   ·exact .inr (by omega)
  ·exact .inr (by omega)⟩
theorem Mv.drop (a:Mv h F h' F'):Mv h F h' []:=⟨a.le,a.fr,by simp,by simp⟩
theorem Mv.lean (a:Mv h F h' F') (hn:F''.Nodup) (hs:∀ b∈F'',b∈F'):Mv h F h' F'':=⟨a.le,a.fr,hn,λb hb=>a.sub b (hs b hb)⟩
theorem Mv.wide (a:Mv h F h' F') (hs:∀ b∈F,b∈G):Mv h G h' F':=⟨a.le,λb hb hG=>a.fr b hb λhm=>hG (hs b hm),a.nd,λb hb=>(a.sub b hb).imp (hs b) id⟩
theorem Mv.snoc:Mv h [] (h++t) []:=⟨by simp,λb hb _=>X2 hb,by simp,by simp⟩
theorem Mv.snoc' (hn:F.Nodup):Mv h F (h++t) F:=⟨by simp,λb hb _=>X2 hb,hn,λb hb => .inl hb⟩
theorem Mv.last {b:Blk}:Mv h [] (h ++ [b]) [h.length]:=⟨by simp,λb hb _=>X2 hb,by simp,λx hx => .inr (by simp at hx;subst hx;simp)⟩
theorem Mv.join (a:Mv h F h' F') (b:Mv h' [] h'' F'') (hb:∀ x∈F',x<h'.length):Mv h F h'' (F'++F'') :=
 ⟨XX a.le b.le,λx hx hF=>by rw[b.fr x (Yb hx a.le) (by simp),a.fr x hx hF],by
  rw[X4];refine ⟨a.nd,b.nd,λx hx y hy=>?_⟩
  rintro rfl
  have h1:=hb x hx;rcases b.sub x hy with h2 | h2
  ·simp at h2
  ·omega,λx hx=>by
  have h1:=a.le;have h2:=b.le;rw[X0] at hx;rcases hx with hx | hx
  ·rcases a.sub x hx with h3 | h3
   ·exact .inl h3
   ·exact .inr (by omega)
  ·rcases b.sub x hx with h3 | h3
   ·simp at h3
   ·exact .inr (by omega)⟩
theorem Mv.aside (a:Mv h F h' F') (hn:(F++G).Nodup) (hG:∀ b∈G,b<h.length):Mv h (F++G) h' (F'++G):=by
 rw[X4] at hn;refine ⟨a.le,λb hb hF=>a.fr b hb λhm=>hF (YG _ hm),?_,λb hb=>?_⟩
 ·rw[X4];refine ⟨a.nd,hn.2.1,λx hx y hy=>?_⟩
  rintro rfl
  rcases a.sub x hx with h2 | h2
  ·exact hn.2.2 x h2 x hy rfl
  ·have:=hG x hy;omega
 ·rw[X0] at hb ⊢;rcases hb with hb | hb
  ·exact (a.sub b hb).imp .inl id
  ·exact .inl (.inr hb)
theorem Mv.lt (a:Mv h F h' F') (hF:∀ b∈F,b<h.length):∀ b∈F',b<h'.length:=λb hb=>by
 have:=a.le;rcases a.sub b hb with h1 | h1
 ·have:=hF b h1;omega
 ·exact h1.2
theorem Mv.ge {lo:Nat} (a:Mv h F h' F') (hl:lo<=h.length) (hF:∀ b∈F,lo<=b):∀ b∈F',lo<=b:=λb hb=>by
 rcases a.sub b hb with h1 | h1
 ·exact hF b h1
 ·omega
theorem Mv.new (a:Mv h [] h' F'):∀ b∈F',h.length<=b:=λb hb=>by
 rcases a.sub b hb with h1 | h1
 ·simp at h1
 ·exact h1.1
theorem Mv.keep {El:Rel α}{cs:List V}{x:α} (a:Mv h F h' F') (ok:El.Ok) (he:El h cs x G) (hd:∀ b∈G,b∉F):El h' cs x G :=
 ok.fr _ _ _ _ _ he λb hb=>a.fr b (ok.bd _ _ _ _ he b hb) (hd b hb)
theorem Mv.keep0 {El:Rel α}{cs:List V}{x:α} (a:Mv h [] h' F') (ok:El.Ok) (he:El h cs x G):El h' cs x G:=a.keep ok he (by simp)
end
theorem Bn {R:Type}{sz e:Nat}{h:Heap}{row:List V}{K:List (List V)->Option R}:Aj sz (h ++ [.rows sz e ro [row]]) (.sl sz (some (h.length,0)) 1 c) K=K [row]:=by simp[Aj,Dv,Ih,A4]
theorem Sli.same {El:Rel α}{El':Rel β}{R e e' n:Nat}{h h':Heap}{v:V}{l':List β}{F F':List Nat}{a:Pq} (h0:Sli false R e El h [v] l F)
  (es:∀ {R':Type} (K:Pq->Nat->Nq->Option R'),eS R v K=K a n c) (h1:Sli false R e' El' h' [.sl R a n c] l' F'):Sli false R e' El' h' [v] l' F':=by
 obtain ⟨R0,a0,c0,e0,g0⟩:=h0;injection e0 with e0 _;subst e0;have hk:=es (λa n c=>some (a,n,c));have hn:=h1.val;obtain ⟨R1,a1,c1,e1,g1⟩:=h1;injection e1 with e1 _;injection e1 with _ x1 _ x3;subst x1;subst x3;cases a0 with
 | none =>simp only[eS,Option.some.injEq,Prod.mk.injEq] at hk;obtain ⟨rfl,h2,rfl⟩:=hk;exact ⟨R0,none,c0,by rw[h2,hn],g1⟩
 | some p =>obtain ⟨rfl,_⟩:=g0;rw[Ah] at hk;simp only[Option.some.injEq,Prod.mk.injEq] at hk;obtain ⟨rfl,h2,rfl⟩:=hk;obtain ⟨b,i⟩:=p;exact ⟨R0,some (b,i),c0,by rw[h2,hn],rfl,g1.2⟩
theorem Cn {cs:α->List V}:(flat cs).Ok:=⟨Pb,λh c x F he b hb=>by rw[he.2] at hb;simp at hb⟩
theorem EAll.bd {α:Type}{El:Rel α}{h:Heap} (ok:El.Ok):∀ {rows:List (List V)}{l:List α}{Fs:List (List Nat)},EAll El h rows l Fs->∀ b∈Fs.flatten,b<h.length
 | [],[],[],_,b,hb=>by simp at hb
 | r :: rs,x :: xs,F :: Fs,⟨h1,h2⟩,b,hb=>by
  rw[Ym,X0] at hb;rcases hb with hb | hb
  ·exact ok.bd _ _ _ _ h1 b hb
  ·exact EAll.bd ok h2 b hb
 | [],[],_ :: _,h,_,_=>h.elim
 | [],_ :: _,_,h,_,_=>h.elim
 | _ :: _,[],_,h,_,_=>h.elim
 | _ :: _,_ :: _,[],h,_,_=>h.elim
theorem Sli.ok {α:Type}{El:Rel α}{ro:Bool}{R e:Nat} (ok:El.Ok):(Sli ro R e El).Ok:=by
 refine ⟨Sli.fr ok.fr,?_⟩
 rintro h cs l F ⟨R',a,c,h1,h2⟩ b hb
 cases ro with
 | true =>
  obtain ⟨_,⟨_,rfl⟩ | ⟨b',i,rs,Fs,g0,g1,g2,g5,rfl⟩⟩:=h2
  ·simp at hb
  ·rw[Ye] at hb;rcases hb with rfl | hb
   ·apply Zf;intro hle;unfold Heap.rows? at g1;rw[YM hle] at g1;cases g1
   ·exact g5.bd ok b hb
 | false =>
 cases a with
 | none=>obtain ⟨_,_,rfl⟩:=h2;simp at hb
 | some p =>
  obtain ⟨b',i⟩:=p;obtain ⟨hR,rs,Fs,g1,g2,g3,g4,g5,rfl⟩:=h2;rw[Ye] at hb;rcases hb with rfl | hb
  ·exact (Ef g1).1
  ·exact g5.bd ok b hb
def CR {α β:Type} (g:List β->α->Option β):List β->List α->List β
 | acc,[]=>acc
 | acc,x :: xs=>CR g (acc++(g acc x).toList) xs
theorem Oi {α β:Type}{g:List β->α->Option β}:∀ {acc:List β}{l:List α}{x:α},CR g acc (l ++ [x])=CR g acc l++(g (CR g acc l) x).toList
 | acc,[],x=>rfl
 | acc,y :: l,x=>by simp only[Yy,CR];exact Oi
theorem Oh {acc:List β}{i:Nat} (hi:i<l.length):CR g acc (l.take (i+1))=CR g acc (l.take i)++(g (CR g acc (l.take i)) l[i]).toList:=by rw[List.take_add_one,CX hi];exact Oi
theorem QR {α β:Type}{g:List β->α->Option β}:∀ {acc:List β}{l:List α},(CR g acc l).length<=acc.length+l.length
 | acc,[]=>by simp[CR]
 | acc,x :: l=>by
  have:=QR (g:=g) (acc:=acc++(g acc x).toList) (l:=l);have h2:(g acc x).toList.length<=1:=by cases g acc x<;>simp
  simp only[CR,YP,Yp] at this ⊢;omega
theorem Me {α β:Type}{f:α->β}:∀ {acc:List β}{l:List α},CR (λ_ x=>some (f x)) acc l=acc++l.map f
 | acc,[]=>by simp[CR]
 | acc,x :: l=>by simp only[CR,Zi];rw[Me];simp
theorem MC {T:Type}{El:Rel β} (ok:El.Ok) {h0:Heap}{lo R e bytes:Nat}{b0:List β}{F0:List Nat}{a0:Pq}{c0:Nq}
  (hlo:lo<=h0.length) (hF:∀ b∈F0,lo<=b) (hnd:F0.Nodup) (hb:0<bytes) (hsz:(b0.length+l.length)*bytes<=140737488355328)
  (L:Nat->Pq->Nat->Nq->Heap->Option T)
  (step:∀ i (hi:i<l.length) a c hh F acc,(i=0->a=a0/\c=c0)->acc=CR g b0 (l.take i)->Mv h0 F0 hh F->Sli false R e El hh [.sl R a acc.length c] acc F ->
   (g acc l[i]=none/\∃ h2,Mv hh [] h2 []/\L i a acc.length c hh=L (i+1) a acc.length c h2) \/
   (∃ y row G h2,g acc l[i]=some y/\El h2 row y G/\Mv hh [] h2 G/\L i a acc.length c hh=CC lo e R bytes (.sl R a acc.length c) [row] h2 λv h=>eS R v λa n c=>L (i+1) a n c h))
  (hs:Sli false R e El h0 [.sl R a0 b0.length c0] b0 F0) :
  ∃ a c h' F',L 0 a0 b0.length c0 h0=L l.length a (CR g b0 l).length c h'/\Sli false R e El h' [.sl R a (CR g b0 l).length c] (CR g b0 l) F'/\Mv h0 F0 h' F':=by
 have loop:∀ m i a c hh F,m+i=l.length->(i=0->a=a0/\c=c0)->Mv h0 F0 hh F->Sli false R e El hh [.sl R a (CR g b0 (l.take i)).length c] (CR g b0 (l.take i)) F ->
   ∃ a' c' h' F',L i a (CR g b0 (l.take i)).length c hh=L l.length a' (CR g b0 l).length c' h'/\Sli false R e El h' [.sl R a' (CR g b0 l).length c'] (CR g b0 l) F'/\Mv h0 F0 h' F':=by
  intro m;induction m with
  | zero =>
   intro i a c hh F hi hz hm hr;have:i=l.length:=by omega
   subst this;rw[List.take_length] at hr ⊢;exact ⟨a,c,hh,F,rfl,hr,hm⟩
  | succ m ih =>
   intro i a c hh F hi hz hm hr;have hlt:i<l.length:=by omega
   rcases step i hlt a c hh F _ hz rfl hm hr with ⟨hg,h2,m2,e2⟩ | ⟨y,row,G,h2,hg,hy,m2,e2⟩
   ·have ht:CR g b0 (l.take (i+1))=CR g b0 (l.take i):=by rw[Oh hlt,hg];simp
    rw[e2,<- ht];refine ih (i+1) a c h2 F (by omega) (λh=>by omega) ?_ (by rw[ht];exact m2.keep0 (Sli.ok ok) hr);refine hm.trans ⟨m2.le,λb hb hF=>m2.fr b hb (by simp),hm.nd,λb hb => .inl hb⟩
   ·have ht:CR g b0 (l.take (i+1))=CR g b0 (l.take i) ++ [y]:=by rw[Oh hlt,hg];simp
    have hbd:=(Sli.ok ok).bd _ _ _ _ hr;have hr2:=m2.keep0 (Sli.ok ok) hr;have hlen:(CR g b0 (l.take i)).length<=b0.length+i:=XX QR (by simp;omega);have hnn:F.Nodup:=hm.nd;obtain ⟨a',c',h',F',p1,p2,p3,p4,p5,p6⟩:=Sli.push (lo:=lo) (bytes:=bytes) ok.fr hr2 (xs := [row]) (ys := [y]) (Gs := [G]) ⟨hy,trivial⟩ hb
     (XX (Yt _ (by simp;omega)) hsz) (hm.ge hlo hF) (by have:=hm.le;have:=m2.le;omega)
     (by
      rw[X4];refine ⟨hnn,by simpa using m2.nd,λx hx y hy=>?_⟩
      rintro rfl
      have h1:=hbd x hx;have h2:=m2.new x (by simpa using hy);omega)
     (λb hb'=>by
      have h1:=m2.le;rw[X0] at hb';rcases hb' with hb' | hb'
      ·have:=hbd b hb';omega
      ·exact m2.lt (by simp) b (by simpa using hb')) (by simp)
    rw[e2,p1];simp only[Ah,YO];have hl2:(CR g b0 (l.take i)).length+1=(CR g b0 (l.take (i+1))).length:=by rw[ht];simp
    rw[hl2];rw[YO,hl2,<- ht] at p2;refine ih (i+1) a' c' h' F' (by omega) (λh=>by omega) (hm.trans ⟨XX m2.le p3,λb hb' hF'=>?_,p6,λb hb'=>?_⟩) p2
    ·rw[p4 b (Yb hb' m2.le) hF',m2.fr b hb' (by simp)]
    ·have h1:=m2.le;rcases p5 b hb' with h3 | h3
     ·rw[X0] at h3;rcases h3 with h3 | h3
      ·exact .inl h3
      ·have h4:=m2.new b (by simpa using h3);have h5:=m2.lt (by simp) b (by simpa using h3);exact .inr (by omega)
     ·exact .inr (by omega)
 obtain ⟨a',c',h',F',q1,q2⟩:=loop l.length 0 a0 c0 h0 F0 (by omega) (λ_=>⟨rfl,rfl⟩) (Mv.refl hnd) (by simpa [CR] using hs);refine ⟨a',c',h',F',?_,q2⟩;simpa [CR] using q1
theorem Cu {T:Type}{El:Rel β} (ok:El.Ok) {h:Heap}{f:α->β}{lo R e bytes:Nat} (hl:lo<=h.length) (hb:0<bytes) (hsz:l.length*bytes<=140737488355328)
  (L:Nat->Nat->Pq->Nat->Nq->Heap->Option T)
  (step:∀ i (hi:i<l.length) q a n c hh,Mv h [] hh []->∃ row G h2,El h2 row (f l[i]) G/\Mv hh [] h2 G/\L i q a n c hh=CC lo e R bytes (.sl q a n c) [row] h2 λv h=>eS R v λa n c=>L (i+1) R a n c h) :
  ∃ q a' c' h' F',L 0 0 none 0 (some 0) h=L l.length q a' l.length c' h'/\Sli false R e El h' [.sl q a' l.length c'] (l.map f) F'/\Mv h [] h' F':=by
 by_cases he:l = []
 ·subst he;exact ⟨0,none,some 0,h,[],rfl,Sli.nil,Mv.nil⟩
 have hpos:0<l.length:=List.length_pos_iff.2 he;obtain ⟨a',c',h',F',q1,q2,q3⟩:=MC (El:=El) ok (h0:=h) (l:=l) (g:=λ_ x=>some (f x)) (lo:=lo) (R:=R) (e:=e) (bytes:=bytes) (b0 := []) (F0 := []) (a0:=none) (c0:=some 0) hl (by simp) (by simp) hb (by simpa using hsz)
  (λi a n c hh=>L i (if i=0 then 0 else R) a n c hh) (λi hi a c hh F acc hz hacc hm hr=>by
   obtain ⟨row,G,h2,r2,m2,e2⟩:=step i hi (if i=0 then 0 else R) a acc.length c hh hm.drop;refine .inr ⟨f l[i],row,G,h2,rfl,r2,m2,?_⟩;rw[e2];by_cases h0:i=0
   ·obtain ⟨rfl,rfl⟩:=hz h0;rw[WS (R:=R)];rfl
   ·rw[if_neg h0];rfl) Sli.nil
 rw[Me,Yr] at q1 q2;rw[Zp] at q1 q2;refine ⟨R,a',c',h',F',?_,q2,q3⟩;have:=q1;simp only[if_neg (show l.length≠0 by omega)] at this;exact this
theorem Il:∀ {row cs:List V},row.length=cs.length->paste row 0 cs=some cs
 | [],[],_=>rfl
 | [],_ :: _,h=>by simp at h
 | _ :: _,[],h=>by simp at h
 | x :: row,y :: cs,h=>by simp only[paste];rw[Il (by simpa using h)]
noncomputable section
variable {lo:Nat}{f:Bool}{args:List V}{h:Heap}{t:Int}{p:Nq}{h':Heap}{v:V}{c:Nq}{n:Nat}{a:Pq}{r:V×Heap}{m:Nat}{b:Pq}{y z x:Int}{k i j g G H:Nat}{d A B a0 a1 a2:Pq}{u s C D c0 c1:Nq}{J P n0 n1 n2 n3:Nat}{l:List V}
def pd:Nat->Nat->Code->Code
 | 0,_,c=>c
 | k+1,n,c=>match n%10 with
  | 1=>pd k (n/10) (cr c)
  | 2=>pd k (n/10) (cb c)
  | 3=>pd k (n/10) (cl c)
  | 4=>pd k (n/10) (ct c)
  | 5=>pd k (n/10) (ce c)
  | _=>c
def pf (n:Nat) (F:Func):Code:=pd 40 n (code F)
def LA (n:Nat) (F:Func) (p t q lo:Nat) (σ:St):Ov:=Lp (X n) lo (pf p F) t (Bx t (kS (X n) lo (pf q F) 0 (Js (X n) F.results.toList))) σ
theorem eK {f:Nat}{fn:Func}{t:Ov}{p:Vh} (hf:Tryz.prog.funcs[f]?=some fn) (hk:t=some p) (hd:I.drop f=false:=by kernel_rfl) (ht:fnT I fn (eval Tryz.prog I) lo f args h=t:=by kernel_rfl):Ae lo f args h=some p:=T5 hf hd (ht.trans hk)
theorem eD {f:Nat}{fn:Func}{t:Ov} (hf:Tryz.prog.funcs[f]?=some fn) (hk:t=some (v,h')) (hn:noId v=true) (hd:I.drop f=true:=by kernel_rfl) (ht:fnT I fn (eval Tryz.prog I) h.length f args h=t:=by kernel_rfl):Ae lo f args h=some (v,h):=T6 hf hd (ht.trans hk) hn
theorem lE {X:Ctx}{id:Nat}{c:Code}{K:Ex->St->Ov}{σ:St}{t:Ov} (h:exec X lo c id σ (Wa X lo c id K)=t:=by kernel_rfl):Lp X lo c id K σ=t:=Lp_eq.trans h
def AV lo a n c x b m p y z h:=
 LA 3 Tryz.f3 2213111111 0 1111111 lo ⟨[(3,.sl 5 a n c),(4,Iv x),(5,.sl 5 b m p),(6,Iv y),(7,Iv z)],[],h⟩
def AK lo a n c x b m p y z t h:=
 LA 3 Tryz.f3 221311111111 2 111111111 lo ⟨[(3,.sl 5 a n c),(4,Iv x),(5,.sl 5 b m p),(6,Iv y),(8,Iv z),(9,Iv t)],[],h⟩
theorem IZ (hk:(br (decide ((n:Int)>1048576)) (Em h) (Ak (Ae lo 8 [.sl 1 a n c] h) λv l=>eU v λv=>eC v λv o=>eS 5 v λv s b=>eC o λo x=>eI .i64 o λo=>eN x (Ak (Ae lo 9 [.sl 5 v s b,Iv o] l) λl x=>eS 5 l λl y z=>Ak (Ae lo 11 [.sl 5 v s b,Iv o] x) λx u=>eS 5 x λx w p=>Ak (Ae lo 10 [.sl 5 l y z,.sl 5 x w p] u) λx u=>eB x (Ak (Ae lo 12 [.sl 5 v s b] u) λx w=>eI .i64 x λx=>br (decide (x<0)) (Ak (Ae lo 11 [.sl 5 v s b,Iv o] w) λx p=>eS 5 x λx q g=>Ak (Ae lo 10 [.sl 5 l y z,.sl 5 x q g] p) λx p=>eB x (Em p) (Bv p)) (AV lo v s b o l y z 0 0 w)) (Ak (Ae lo 11 [.sl 5 v s b,Iv o] u) λv o=>eS 5 v λv s b=>Ak (Ae lo 10 [.sl 5 l y z,.sl 5 v s b] o) λv l=>eB v (Em l) (Bv l)))))=some r) :
  Ae lo 3 [.sl 1 a n c] h=some r :=
 eK Tryz.func3 hk
theorem AV.e :
  AV lo a n c y b m p z x h=br (decide (x<4)) (Ak (Ae lo 9 [.sl 5 a n c,Iv x] h) λv l=>eS 5 v λv v o=>AV lo a n c y b m p (AD (z+(v:Int))) (AD (x+1)) l) (AK lo a n c y b m p z 0 0 h) :=
 lE
theorem AK.e :
  AK lo b m p z a n c t x y h=br (decide (y<(m:Int))) (br (decide (x<(n:Int))) (Av y m (eO b λv=>eO (ld h v.1 (v.2+y.toNat) 0 5) λv=>eC v λv l=>eI .i64 v λv=>eC l λl o=>eI .i64 l λl=>eC o λo s=>eI .i64 o λo=>eC s λs u=>eI .i64 s λs=>eC u λu w=>eI .i64 u λu=>eN w (Av x n (eO a λw=>eO (ld h w.1 (w.2+x.toNat) 0 5) λw=>eC w λw q=>eI .i64 w λw=>eC q λq g=>eI .i64 q λq=>eC g λg i=>eI .i64 g λg=>eC i λi j=>eI .i64 i λi=>eC j λj k=>eI .i64 j λj=>eN k (br ((v==w)&&((l==q)&&((o==g)&&((s==i)&&((u==j)&&true))))) (AK lo b m p z a n c t (AD (x+1)) (AD (y+1)) h) (AK lo b m p z a n c t x (AD (y+1)) h)))))) (br (t==(m:Int)) (br (x==(n:Int)) (Ak (Ae lo 9 [.sl 5 a n c,Iv z] h) λv l=>eS 5 v λv o s=>Ak (Ae lo 10 [.sl 5 v o s,.sl 5 a n c] l) λv l=>eB v (Em l) (Bv l)) (Bv h)) (Bv h))) (br (t==(m:Int)) (br (x==(n:Int)) (Ak (Ae lo 9 [.sl 5 a n c,Iv z] h) λv l=>eS 5 v λv o s=>Ak (Ae lo 10 [.sl 5 v o s,.sl 5 a n c] l) λv l=>eB v (Em l) (Bv l)) (Bv h)) (Bv h)) :=
 lE
def CK lo f x a n c b m p d k u e i s A j C B g D a0 G c0 a1 H c1 h:=
 LA 4 Tryz.f4 2213111111 0 1111111 lo ⟨[(4,.bool f),(8,.lp 8 0),(9,.lp 9 0),(10,Iv x)],[(8,(C4 a n c b m p d k u e i s)),(9,(C4 A j C B g D a0 G c0 a1 H c1))],h⟩
theorem CK.e :
  CK lo f x a m c d k p A i u B j s a0 g C a1 G D a2 H c0 b n c1 h=br (decide (x<(n:Int))) (Av x n (eO b λv=>eO (ld h v.1 (v.2+x.toNat) 0 5) λv=>eC v λv l=>eI .i64 v λv=>eC l λv l=>eI .i64 v λv=>eC l λl o=>eI .i64 l λl=>eC o λo y=>eI .i64 o λo=>eC y λy z=>eI .i64 y λy=>eN z (br (v==3) (Av y m (eO a λv=>eO (ld h v.1 (v.2+y.toNat) 2 1) λv=>eC v λv z=>eN z (eS 2 v λv z w=>Av 0 z (eO v λv=>eO (ld h v.1 (v.2+0) 0 1) λv=>eC v λv z=>eN z (eS 6 v λv z w=>Av l z (eO v λv=>eO (ld h v.1 (v.2+l.toNat) 1 2) λv=>eC v λv l=>eI .i64 v λv=>eC l λl z=>eI .i64 l λl=>eN z (Ak (Ae lo 17 [An v l,An o y] h) λv l=>eB v (Bv l) (CK lo f (AD (x+1)) a m c d k p A i u B j s a0 g C a1 G D a2 H c0 b n c1 l)))))))) (CK lo f (AD (x+1)) a m c d k p A i u B j s a0 g C a1 G D a2 H c0 b n c1 h)))) (Em h) :=
 lE
def Dy lo f x a n c b m p d k u e i s A j C B g D a0 G c0 a1 H c1 h:=
 LA 5 Tryz.f5 221311111 0 111111 lo ⟨[(4,.bool f),(8,.lp 8 0),(9,.lp 9 0),(10,Iv x)],[(8,(C4 a n c b m p d k u e i s)),(9,(C4 A j C B g D a0 G c0 a1 H c1))],h⟩
def CL lo f x a n c y b m p d k u e i s A j C B g D a0 G c0 a1 H c1 a2 J c2 h:=
 Lp (X 5) lo (pf 22111231221311111 Tryz.f5) 2 (Bx 2 (Bx 1 (kS (X 5) lo (pf 11221311111 Tryz.f5) 0 (Wa (X 5) lo (pf 221311111 Tryz.f5) 0 (Bx 0 (kS (X 5) lo (pf 111111 Tryz.f5) 0 (Js (X 5) Tryz.f5.results.toList))))))) ⟨[(4,.bool f),(8,.lp 8 0),(9,.lp 9 0),(10,Iv x),(11,.sl 6 a n c),(12,Iv y)],[(8,(C4 b m p d k u e i s A j C)),(9,(C4 B g D a0 G c0 a1 H c1 a2 J c2))],h⟩
theorem Dy.e {lo n k i j m g G H:Nat}{f:Bool}{x:Int}{a d A B b a0 a1 a2:Pq}{c p u s C D c0 c1:Nq}{h:Heap} :
  Dy lo f x a n c d k p A i u B j s b m C a0 g D a1 G c0 a2 H c1 h=br (decide (x<(m:Int))) (Av x m (eO b λv=>eO (ld h v.1 (v.2+x.toNat) 3 1) λv=>eC v λv l=>eN l (eS 6 v λv l o=>Av x n (eO a λy=>eO (ld h y.1 (y.2+x.toNat) 3 1) λy=>eC y λy z=>eN z (eS 6 y λy y z=>br (decide ((y:Int)>(l:Int))) (Bv h) (Av x n (eO a λy=>eO (ld h y.1 (y.2+x.toNat) 3 1) λy=>eC y λy z=>eN z (eS 6 y λy y z=>AB v l o none (some (Iv (y:Int))) none λy z w=>Av x n (eO a λq=>eO (ld h q.1 (q.2+x.toNat) 3 1) λq=>eC q λq t=>eN t (eS 6 q λq t e=>Ak (Ae lo 19 (KW y z w q t e) h) λy z=>eB y (CL lo f x v l o 0 a n c d k p A i u B j s b m C a0 g D a1 G c0 a2 H c1 z) (Bv z))))))))))) (Em h) :=
 lE
theorem CL.e {a3:Pq}{c2:Nq} :
  CL lo f x d m c y a k p A i u B j s a0 g C b n D a1 G c0 a2 H c1 a3 J c2 h=br (decide (y<(n:Int))) (Av y n (eO b λv=>eO (ld h v.1 (v.2+y.toNat) 4 1) λv=>eC v λv l=>eN l (eS 1 v λv l o=>Av x l (eO v λv=>eO (ld h v.1 (v.2+x.toNat) 0 1) λv=>eC v λv l=>eN l (eS 6 v λv l o=>br (decide ((l:Int)>(m:Int))) (Bv h) (AB d m c none (some (Iv (l:Int))) none λz w q=>Ak (Ae lo 19 (KW z w q v l o) h) λv o=>eB v (Av y k (eO a λv=>eO (ld o v.1 (v.2+y.toNat) 4 1) λv=>eC v λv z=>eN z (eS 1 v λv z w=>Av x z (eO v λv=>eO (ld o v.1 (v.2+x.toNat) 0 1) λv=>eC v λv z=>eN z (eS 6 v λv v z=>br (decide ((v:Int)>(l:Int))) (Bv o) (CL lo f x d m c (AD (y+1)) a k p A i u B j s a0 g C b n D a1 G c0 a2 H c1 a3 J c2 o)))))) (Bv o))))))) (Dy lo f (AD (x+1)) a k p A i u B j s a0 g C b n D a1 G c0 a2 H c1 a3 J c2 h) :=
 lE
def CV lo f x a n c b m p d k u e i s A j C B g D a0 G c0 a1 H c1 h:=
 LA 6 Tryz.f6 221311111 0 111111 lo ⟨[(4,.bool f),(8,.lp 8 0),(9,.lp 9 0),(10,Iv x)],[(8,(C4 a n c b m p d k u e i s)),(9,(C4 A j C B g D a0 G c0 a1 H c1))],h⟩
theorem CV.e :
  CV lo f x a m c d k p A i u B j s b n C a0 g D a1 G c0 a2 H c1 h=br (decide (x<(n:Int))) (Av x m (eO a λv=>eO (ld h v.1 (v.2+x.toNat) 2 1) λv=>eC v λv l=>eS 2 v λv o y=>eN l (Ak (Ae h.length 21 [At v o y] h) λv l=>eA v λv=>eC v λv o=>eS 2 v λv y z=>eN o (Av x n (eO b λo=>eO (ld l o.1 (o.2+x.toNat) 2 1) λo=>eC o λo w=>eS 2 o λo q t=>eN w (Ak (Ae lo 21 [At o q t] l) λl o=>eA l λl=>eC l λl w=>eS 2 l λl q t=>eN w (Ak (Ae lo 20 [At v y z,At l q t] o) λv l=>eB v (Av x m (eO a λv=>eO (ld l v.1 (v.2+x.toNat) 1 1) λv=>eC v λv o=>eN o (eI .i64 v λv=>Av x n (eO b λo=>eO (ld l o.1 (o.2+x.toNat) 1 1) λo=>eC o λo y=>eN y (eI .i64 o λo=>br (decide (v>o)) (Bv l) (CV lo f (AD (x+1)) a m c d k p A i u B j s b n C a0 g D a1 G c0 a2 H c1 l)))))) (Bv l)))))))) (Em h) :=
 lE
theorem Ic (hk:(Ak (Ae lo 26 [.sl 1 a n c] h) λv l=>eU v λv=>eC v λv o=>eS 5 v λv s b=>eC o λo x=>eI .i64 o λo=>eN x (some (.tup [.sl 5 v s b,Iv o],l)))=some r) :
  Ae lo 8 [.sl 1 a n c] h=some r :=
 eK Tryz.func8 hk
def A9 lo x a n c b m p y z h:=
 LA 9 Tryz.f9 2213111 0 1111 lo ⟨[(1,Iv x),(5,.sl 5 a n c),(14,.sl 5 b m p),(15,Iv y),(16,Iv z)],[],h⟩
theorem Ha (hk:(Ak (Ae lo 27 [.sl 5 a n c] h) λv l=>eB v (A4 (decide ((0:Int)<=0/\(0:Int)<=(n:Int)/\(n:Int)<=140737488355328/\(n:Int)*((40:Nat):Int)<=281474976710656)) (A9 lo x (some (l.length,0)) 0 (some n) a n c (n:Int) 0 (l ++ [.rows 5 32 false (List.replicate n (Mu 0 0 0 0 0))]))) (some (.sl 0 none 0 (some 0),l)))=some r) :
  Ae lo 9 [.sl 5 a n c,Iv x] h=some r :=
 eK Tryz.func9 hk
theorem A9.e :
  A9 lo y a n c b m p z x h=br (decide (x<z)) (Av x m (eO b λv=>eO (ld h v.1 (v.2+x.toNat) 0 5) λv=>eC v λv l=>eI .i64 v λv=>eC l λl o=>eI .i64 l λl=>eC o λo s=>eI .i64 o λo=>eC s λs u=>eI .i64 s λs=>eC u λu w=>eI .i64 u λu=>eN w (br (v==y) (Aj 5 (h ++ [.rows 5 32 false [Mu v l o s u]]) (.sl 5 (some (h.length,0)) 1 (some 1)) λw=>CC lo 32 5 40 (.sl 5 a n c) w (h ++ [.rows 5 32 false [Mu v l o s u]]) λv l=>eS 5 v λv o s=>A9 lo y v o s b m p z (AD (x+1)) l) (A9 lo y a n c b m p z (AD (x+1)) h)))) (AB a n c none (some (Iv (n:Int))) (some (Iv (n:Int))) λv l o=>some (.sl 5 v l o,h)) :=
 lE
def Cg lo a n c b m p f x h:=
 LA 10 Tryz.f10 221311 0 111 lo ⟨[(0,.sl 5 a n c),(1,.sl 5 b m p),(4,.bool f),(5,Iv x)],[],h⟩
theorem NE (hk:(br ((n:Int)==(m:Int)) (Cg h.length a n c b m p false 0 h) (Bv h))=some (v,h')) (hn:noId v=true:=by rfl) :
  Ae lo 10 [.sl 5 a n c,.sl 5 b m p] h=some (v,h) :=
 eD Tryz.func10 hk hn
theorem Cg.e :
  Cg lo a n c b m p f x h=br (decide (x<(n:Int))) (Av x n (eO a λv=>eO (ld h v.1 (v.2+x.toNat) 0 5) λv=>eC v λv l=>eI .i64 v λv=>eC l λl o=>eI .i64 l λl=>eC o λo s=>eI .i64 o λo=>eC s λs y=>eI .i64 s λs=>eC y λy z=>eI .i64 y λy=>eN z (Av x m (eO b λz=>eO (ld h z.1 (z.2+x.toNat) 0 5) λz=>eC z λz u=>eI .i64 z λz=>eC u λu w=>eI .i64 u λu=>eC w λw q=>eI .i64 w λw=>eC q λq g=>eI .i64 q λq=>eC g λg i=>eI .i64 g λg=>eN i (br ((v==z)&&((l==u)&&((o==w)&&((s==q)&&((y==g)&&true))))) (Cg lo a n c b m p f (AD (x+1)) h) (Bv h)))))) (Em h) :=
 lE
theorem G9 (hk:(Ak (Ae lo 28 [.sl 5 a n c] h) λv l=>eB v (Ak (Ae lo 29 [.sl 5 a n c,Iv x] l) λv o=>eS 5 v λv s b=>some (.sl 5 v s b,o)) (some (.sl 0 none 0 (some 0),l)))=some r) :
  Ae lo 11 [.sl 5 a n c,Iv x] h=some r :=
 eK Tryz.func11 hk
theorem MS (hk:(Ak (Ae h.length 27 [.sl 5 a n c] h) λl o=>eB l (Ak (Ae h.length 30 [.sl 5 a n c] o) λl s=>eU l λl=>eC l λl b=>eP l λl=>eC b λl b=>eI .i64 l λl=>eN b (some (Iv l,s))) (some (Iv (-1),o)))=some (v,h')) (hn:noId v=true:=by rfl) :
  Ae lo 12 [.sl 5 a n c] h=some (v,h) :=
 eD Tryz.func12 hk hn
def CW lo n m k a i c x y j b g p G d H u J e P s n0 A n1 C h:=
 LA 14 Tryz.f14 2213111 0 1111 lo ⟨[(6,.lp 6 0),(7,(CF n m k)),(22,.sl 6 a i c),(23,Iv x),(24,Iv y)],[(6,[.sl j b g p,.sl G d H u,.sl J e P s,.sl n0 A n1 C])],h⟩
theorem CW.e {lo n m k i j g G H J P n0 n1:Nat}{a b d A B:Pq}{c p u s C:Nq}{y x:Int}{h:Heap} :
  CW lo n m k a i c y x j b g p G d H u J A P s n0 B n1 C h=br (decide (x<y)) (Av x i (eO a λv=>eO (ld h v.1 (v.2+x.toNat) 0 6) λv=>eC v λv l=>eI .i64 v λv=>eC l λl o=>eI .i64 l λl=>eC o λo z=>eI .i64 o λo=>eC z λz w=>eI .i64 z λz=>eC w λw q=>eT w λw=>eC q λq t=>eBv q λq=>eN t (Ak (Ae lo 37 [CF n m k,BF v l o z w q] h) λv l=>eB v (CW lo n m k a i c y (AD (x+1)) j b g p G d H u J A P s n0 B n1 C l) (CW lo n m k a i c y (AD (x+1)) j b g p G d H u J A P s n0 B n1 C l)))) (eO (ld h n m k 4) λv=>eC v λv l=>eS 6 v λv o z=>eC l λl w=>eS 5 l λl q t=>eC w λw e=>eS 9 w λw f D=>eC e λe E=>eS 5 e λe K L=>eN E (Ak (Ae lo 38 [Al v o z l q t w f D e K L] h) λv l=>eA v λv=>eC v λv o=>eS 6 v λv z w=>eC o λo q=>eS 5 o λo t e=>eC q λq f=>eS 9 q λq D E=>eC f λf K=>eS 5 f λf L M=>eN K (some ((Al v z w o t e q D E f L M),l)))) :=
 lE
def EW lo f x a n c b m p d k u e i s A j C B g D a0 G c0 a1 H c1 h:=
 LA 15 Tryz.f15 221311 0 111 lo ⟨[(2,.lp 2 0),(3,.lp 3 0),(4,.bool f),(5,Iv x)],[(2,(C4 a n c b m p d k u e i s)),(3,(C4 A j C B g D a0 G c0 a1 H c1))],h⟩
def DD lo f x a n c b m p d k u e i s A j C B g D a0 G c0 a1 H c1 h:=
 LA 15 Tryz.f15 2213111 2 1111 lo ⟨[(2,.lp 2 0),(3,.lp 3 0),(4,.bool f),(6,Iv x)],[(2,(C4 a n c b m p d k u e i s)),(3,(C4 A j C B g D a0 G c0 a1 H c1))],h⟩
def DC lo f x a n c b m p d k u e i s A j C B g D a0 G c0 a1 H c1 h:=
 LA 15 Tryz.f15 22131111 4 11111 lo ⟨[(2,.lp 2 0),(3,.lp 3 0),(4,.bool f),(9,Iv x)],[(2,(C4 a n c b m p d k u e i s)),(3,(C4 A j C B g D a0 G c0 a1 H c1))],h⟩
theorem EW.e {lo n k i j m g G H:Nat}{f:Bool}{x:Int}{a d A B b a0 a1 a2:Pq}{c p u s C D c0 c1:Nq}{h:Heap} :
  EW lo f x a n c d k p A i u B j s b m C a0 g D a1 G c0 a2 H c1 h=br (decide (x<(n:Int))) (Av x n (eO a λv=>eO (ld h v.1 (v.2+x.toNat) 0 6) λv=>eC v λv l=>eI .i64 v λv=>eC l λl o=>eI .i64 l λl=>eC o λo y=>eS 2 o λo z w=>eC y λy q=>eS 6 y λy t e=>eC q λq E=>eS 1 q λq J K=>eC E λE L=>eBv E λE=>eN L (Av x m (eO b λL=>eO (ld h L.1 (L.2+x.toNat) 0 6) λL=>eC L λL M=>eI .i64 L λL=>eC M λM N=>eI .i64 M λM=>eC N λN O=>eS 2 N λN P Q=>eC O λO S=>eS 6 O λO U W=>eC S λS Y=>eS 1 S λS Z v0=>eC Y λY v1=>eBv Y λY=>eN v1 (Ak (Ae lo 39 [Bl v l o z w y t e q J K E,Bl L M N P Q O U W S Z v0 Y] h) λv l=>eB v (EW lo f (AD (x+1)) a n c d k p A i u B j s b m C a0 g D a1 G c0 a2 H c1 l) (Bv l)))))) (DD lo f 0 a n c d k p A i u B j s b m C a0 g D a1 G c0 a2 H c1 h) :=
 lE
theorem DD.e {lo k n i j g m G H:Nat}{f:Bool}{x:Int}{d a A B a0 b a1 a2:Pq}{c p u s C D c0 c1:Nq}{h:Heap} :
  DD lo f x d k c a n p A i u B j s a0 g C b m D a1 G c0 a2 H c1 h=br (decide (x<(n:Int))) (Av x n (eO a λv=>eO (ld h v.1 (v.2+x.toNat) 0 5) λv=>eC v λv l=>eI .i64 v λv=>eC l λl o=>eS 2 l λl y z=>eC o λo w=>eI .i64 o λo=>eC w λw q=>eI .i64 w λw=>eC q λq t=>eI .i64 q λq=>eN t (Av x m (eO b λt=>eO (ld h t.1 (t.2+x.toNat) 0 5) λt=>eC t λt e=>eI .i64 t λt=>eC e λe E=>eS 2 e λe J K=>eC E λE L=>eI .i64 E λE=>eC L λL M=>eI .i64 L λL=>eC M λM N=>eI .i64 M λM=>eN N (br (v==t) (br ((o==E)&&((w==L)&&true)) (br (q==M) (Ak (Ae lo 23 [At l y z,At e J K] h) λv l=>eB v (DD lo f (AD (x+1)) d k c a n p A i u B j s a0 g C b m D a1 G c0 a2 H c1 l) (Bv l)) (Bv h)) (Bv h)) (Bv h)))))) (DC lo f 0 d k c a n p A i u B j s a0 g C b m D a1 G c0 a2 H c1 h) :=
 lE
theorem DC.e {lo k i n j g G m H:Nat}{f:Bool}{x:Int}{d A a B a0 a1 b a2:Pq}{c p u s C D c0 c1:Nq}{h:Heap} :
  DC lo f x d k c A i p a n u B j s a0 g C a1 G D b m c0 a2 H c1 h=br (decide (x<(n:Int))) (Av x n (eO a λv=>eO (ld h v.1 (v.2+x.toNat) 0 9) λv=>eC v λv l=>eI .i64 v λv=>eC l λl o=>eI .i64 l λl=>eC o λo y=>eI .i64 o λo=>eC y λy z=>eI .i64 y λy=>eC z λz w=>eI .i64 z λz=>eC w λw q=>eI .i64 w λw=>eC q λq t=>eS 2 q λq e E=>eC t λt J=>eT t λt=>eC J λJ K=>eBv J λJ=>eN K (Av x m (eO b λK=>eO (ld h K.1 (K.2+x.toNat) 0 9) λK=>eC K λK L=>eI .i64 K λK=>eC L λL M=>eI .i64 L λL=>eC M λM N=>eI .i64 M λM=>eC N λN O=>eI .i64 N λN=>eC O λO P=>eI .i64 O λO=>eC P λP Q=>eI .i64 P λP=>eC Q λQ S=>eS 2 Q λQ U W=>eC S λS Y=>eT S λS=>eC Y λY Z=>eBv Y λY=>eN Z (br (v==K) (br (l==L) (br (o==M) (Ak (Ae lo 40 [A3 y z w q e E t J,A3 N O P Q U W S Y] h) λv l=>eB v (DC lo f (AD (x+1)) d k c A i p a n u B j s a0 g C a1 G D b m c0 a2 H c1 l) (Bv l)) (Bv h)) (Bv h)) (Bv h)))))) (Em h) :=
 lE
theorem MR (hk:(Ak (Ae h.length 43 [An x y,An z t] h) λl c=>eI .i64 l λl=>br (decide (l<0)) (Em c) (Bv c))=some (v,h')) (hn:noId v=true:=by rfl) :
  Ae lo 17 [An x y,An z t] h=some (v,h) :=
 eD Tryz.func17 hk hn
def Fp lo a n c b m p f x h:=
 LA 19 Tryz.f19 221311 0 111 lo ⟨[(0,.sl 6 a n c),(1,.sl 6 b m p),(4,.bool f),(5,Iv x)],[],h⟩
theorem Fp.e {lo n m:Nat}{a b:Pq}{c p:Nq}{f:Bool}{x:Int}{h:Heap} :
  Fp lo a n c b m p f x h=br (decide (x<(n:Int))) (Av x n (eO a λv=>eO (ld h v.1 (v.2+x.toNat) 0 6) λv=>eC v λv l=>eI .i64 v λv=>eC l λl o=>eI .i64 l λl=>eC o λo s=>eI .i64 o λo=>eC s λs y=>eS 2 s λs z u=>eC y λy w=>eT y λy=>eC w λw q=>eBv w λw=>eN q (Av x m (eO b λq=>eO (ld h q.1 (q.2+x.toNat) 0 6) λq=>eC q λq g=>eI .i64 q λq=>eC g λg i=>eI .i64 g λg=>eC i λi j=>eI .i64 i λi=>eC j λj k=>eS 2 j λj t d=>eC k λk e=>eT k λk=>eC e λe A=>eBv e λe=>eN A (Ak (Ae lo 40 [A3 v l o s z u y w,A3 q g i j t d k e] h) λv l=>eB v (Fp lo a n c b m p f (AD (x+1)) l) (Bv l)))))) (Em h) :=
 lE
def Fq lo f x a n c b m p h:=
 LA 23 Tryz.f23 221311 0 111 lo ⟨[(2,.lp 2 0),(3,.lp 3 0),(4,.bool f),(5,Iv x)],[(2,(Cj a n c)),(3,(Cj b m p))],h⟩
theorem Fq.e :
  Fq lo f x a n c b m p h=br (decide (x<(n:Int))) (Av x n (eO a λv=>eO (ld h v.1 (v.2+x.toNat) 0 2) λv=>eC v λv l=>eI .i64 v λv=>eC l λl o=>eI .i64 l λl=>eN o (Av x m (eO b λo=>eO (ld h o.1 (o.2+x.toNat) 0 2) λo=>eC o λo s=>eI .i64 o λo=>eC s λs y=>eI .i64 s λs=>eN y (br ((v==o)&&((l==s)&&true)) (Fq lo f (AD (x+1)) a n c b m p h) (Bv h)))))) (Em h) :=
 lE
theorem IA (hk:(Ak (Ae lo 31 [.sl 1 a n c] h) λv l=>eP v λv=>Ak (Ae lo 53 [.ptr v] l) λl o=>eS 5 l λl s b=>Ak (Ae lo 34 [.ptr v,.sl 1 (some (o.length,0)) 6 (some 6)] (o ++ [.rows 1 3 false [AI 0,AI 1,AI 2,AI 3,AI 0,AI 4]])) λv o=>eI .i64 v λv=>some (.tup [.sl 5 l s b,Iv v],o))=some r) :
  Ae lo 26 [.sl 1 a n c] h=some r :=
 eK Tryz.func26 hk
theorem NG (hk:(br (decide ((n:Int)<=80)) (Ak (Ae h.length 54 [.sl 5 a n c,.fn 55 []] h) λl o=>eB l (Bv o) (Em o)) (Bv h))=some (v,h')) (hn:noId v=true:=by rfl) :
  Ae lo 27 [.sl 5 a n c] h=some (v,h) :=
 eD Tryz.func27 hk hn
def B5 lo a n c f x h:=
 LA 28 Tryz.f28 22131 0 11 lo ⟨[(0,.sl 5 a n c),(2,.bool f),(3,Iv x)],[],h⟩
theorem Nd (hk:(B5 h.length a n c false 0 h)=some (v,h')) (hn:noId v=true:=by rfl) :
  Ae lo 28 [.sl 5 a n c] h=some (v,h) :=
 eD Tryz.func28 hk hn
theorem B5.e :
  B5 lo a n c f x h=br (decide (x<(n:Int))) (Av x n (eO a λv=>eO (ld h v.1 (v.2+x.toNat) 0 5) λv=>eC v λv l=>eI .i64 v λv=>eC l λl o=>eI .i64 l λl=>eC o λo s=>eI .i64 o λo=>eC s λs b=>eI .i64 s λs=>eC b λb y=>eI .i64 b λb=>eN y (Ak (Ae lo 59 [Og v l o s b] h) λv l=>eB v (B5 lo a n c f (AD (x+1)) l) (Bv l)))) (br (decide ((n:Int)<=80)) (Em h) (Bv h)) :=
 lE
def Bu lo a n c x b m p y h:=
 LA 29 Tryz.f29 221311 0 111 lo ⟨[(0,.sl 5 a n c),(1,Iv x),(5,.sl 5 b m p),(6,Iv y)],[],h⟩
theorem MO (hk:(Bu lo a n c x (some (h.length,0)) 0 (some 0) 0 (h ++ [.rows 5 32 false []]))=some r) :
  Ae lo 29 [.sl 5 a n c,Iv x] h=some r :=
 eK Tryz.func29 hk
theorem Bu.e :
  Bu lo a n p y b m c x h=br (decide (x<(n:Int))) (Av x n (eO a λv=>eO (ld h v.1 (v.2+x.toNat) 0 1) λv=>eC v λv l=>eN l (eI .i64 v λv=>br (v==y) (Av x n (eO a λv=>eO (ld h v.1 (v.2+x.toNat) 0 5) λv=>eC v λv l=>eI .i64 v λv=>eC l λl o=>eI .i64 l λl=>eC o λo s=>eI .i64 o λo=>eC s λs z=>eI .i64 s λs=>eC z λz u=>eI .i64 z λz=>eN u (Aj 5 (h ++ [.rows 5 32 false [Mu v l o s z]]) (.sl 5 (some (h.length,0)) 1 (some 1)) λu=>CC lo 32 5 40 (.sl 5 b m c) u (h ++ [.rows 5 32 false [Mu v l o s z]]) λv l=>eS 5 v λv o s=>Bu lo a n p y v o s (AD (x+1)) l))) (Bu lo a n p y b m c (AD (x+1)) h)))) (some (.sl 5 b m c,h)) :=
 lE
def BH lo a n c p0 x p1 b m p y z h:=
 LA 30 Tryz.f30 221311 0 111 lo ⟨[(0,.sl 5 a n c),(2,.ptr p0),(3,Iv x),(4,.ptr p1),(8,.sl 5 b m p),(9,Iv y),(10,Iv z)],[],h⟩
theorem NH (hk:(Ak (Ae lo 60 [] h) λv l=>eP v λv=>BH lo a n c none 0 v a n c (n:Int) 0 l)=some r) :
  Ae lo 30 [.sl 5 a n c] h=some r :=
 eK Tryz.func30 hk
theorem BH.e {p1 p0:Option (Nat×Nat×Nat)} :
  BH lo b n c p1 z p0 a m p y x h=br (decide (x<y)) (Av x m (eO a λv=>eO (ld h v.1 (v.2+x.toNat) 0 5) λv=>eC v λv l=>eI .i64 v λv=>eC l λl o=>eI .i64 l λl=>eC o λo s=>eI .i64 o λo=>eC s λs u=>eI .i64 s λs=>eC u λu w=>eI .i64 u λu=>eN w (Ak (Ae lo 61 [.ptr p0,Og v l o s u] h) λv l=>eB v (BH lo b n c p1 z p0 a m p y (AD (x+1)) l) (some (.tup [.ptr p0,Iv x],l))))) (some (.tup [.ptr p0,Iv (n:Int)],h)) :=
 lE
theorem ML (hk:(br (decide ((n:Int)>2000)) (AB a n c none (some (Iv 2000)) none λv l o=>some (.ptr (some (h.length,(0,0))),(h ++ [.rows 2 109 false [[.sl 1 v l o,Iv 0]]]))) (some (.ptr (some (h.length,(0,0))),(h ++ [.rows 2 109 false [[.sl 1 a n c,Iv 0]]]))))=some r) :
  Ae lo 31 [.sl 1 a n c] h=some r :=
 eK Tryz.func31 hk
theorem MK (hk:(Ak (Ae lo 33 [CF n m k,Iv 4] h) λv l=>eI .i64 v λv=>Ak (Ae lo 33 [CF n m k,Iv 4] l) λl c=>eI .i64 l λl=>Ak (Ae lo 34 [CF n m k,.sl 1 (some (c.length,0)) 4 (some 4)] (c ++ [.rows 1 3 false [AI 0,AI 20,AI 60,AI 120]])) λc a=>eI .i64 c λc=>Ak (Ae lo 62 [CF n m k,Iv (AD (1+v)),Iv (AD (1+l)),Iv c] a) λc a=>eS 6 c λc o s=>some (.tup [Iv (AD (1+v)),Iv (AD (1+l)),.sl 6 c o s],a))=some r) :
  Ae lo 32 [CF n m k] h=some r :=
 eK Tryz.func32 hk
theorem JM (hk:(eO (ld h n m (k+1) 1) λv=>eC v λv l=>eN l (eI .i64 v λv=>eO (st lo h n m (k+1) (AI (AD (v+1)))) λv=>br (decide (x<1)) (some (Iv 0,v)) (eO (ld v n m (k+0) 1) λl=>eC l λl c=>eN c (eS 1 l λl l c=>br ((l:Int)==0) (some (Iv 0,v)) (eO (ld v n m (k+1) 1) λl=>eC l λl c=>eN c (eI .i64 l λl=>eO (ld v n m (k+0) 1) λc=>eC c λc a=>eN a (eS 1 c λc c a=>br (decide (AD (l - (1:Int))<(c:Int))) (eO (ld v n m (k+0) 1) λc=>eC c λc a=>eN a (eS 1 c λc a o=>Av (AD (l - 1)) a (eO c λc=>eO (ld v c.1 (c.2+((AD (l - (1:Int))).toNat)) 0 1) λc=>eC c λc a=>eN a (eI .u8 c λc=>A4 (decide (x≠(0:Int))) (some (Iv ((AD c).tmod x),v)))))) (eO (ld v n m (k+0) 1) λc=>eC c λc a=>eN a (eS 1 c λc a o=>eO (ld v n m (k+0) 1) λo=>eC o λo s=>eN s (eS 1 o λo o s=>A4 (decide ((o:Int)≠(0:Int))) (Av ((AD (l - (1:Int))).tmod (o:Int)) a (eO c λc=>eO (ld v c.1 (c.2+(((AD (l - (1:Int))).tmod (o:Int)).toNat)) 0 1) λc=>eC c λc a=>eN a (eI .u8 c λc=>eO (ld v n m (k+0) 1) λa=>eC a λa o=>eN o (eS 1 a λa o s=>eO (ld v n m (k+0) 1) λs=>eC s λs b=>eN b (eS 1 s λs s b=>A4 (decide ((s:Int)≠(0:Int))) (Av ((AD (AD (AD (l - (1:Int))*(7:Int))+(3:Int))).tmod (s:Int)) o (eO a λa=>eO (ld v a.1 (a.2+(((AD (AD (AD (l - (1:Int))*(7:Int))+(3:Int))).tmod (s:Int)).toNat)) 0 1) λa=>eC a λa o=>eN o (eI .u8 a λa=>eO (ld v n m (k+0) 1) λo=>eC o λo s=>eN s (eS 1 o λo o s=>A4 (decide ((o:Int)≠(0:Int))) (A4 (decide (x≠(0:Int))) (some (Iv ((AD ((BitVec.ofInt IntKind.i64.bits (AD (AD (AD (AD (AD c*(131:Int))+AD (AD a*(1117:Int)))+AD (AD (l - (1:Int))*(29:Int)))+AD (AD ((AD (l - (1:Int))).tdiv (o:Int))*(53:Int)))) ^^^ BitVec.ofInt IntKind.i64.bits (AD ((AD (AD (AD (AD (AD c*(131:Int))+AD (AD a*(1117:Int)))+AD (AD (l - (1:Int))*(29:Int)))+AD (AD ((AD (l - (1:Int))).tdiv (o:Int))*(53:Int)))).tdiv (64:Int)))).toNat:Int)).tmod x),v))))))))))))))))))))))=some r) :
  Ae lo 33 [CF n m k,Iv x] h=some r :=
 eK Tryz.func33 hk
theorem Kp (hk:(Ak (Ae lo 33 [CF m k i,Iv (n:Int)] h) λv l=>eI .i64 v λv=>Av v n (eO a λo=>eO (ld l o.1 (o.2+v.toNat) 0 1) λv=>eC v λv o=>eN o (eI .i64 v λv=>some (Iv v,l))))=some r) :
  Ae lo 34 [CF m k i,.sl 1 a n c] h=some r :=
 eK Tryz.func34 hk
def EC lo x y z n a m c k b i p j d g u G e H s A J C B P D n0 a0 n1 c0 n2 a1 n3 c1 h:=
 LA 36 Tryz.f36 221311 0 111 lo ⟨[(0,Iv x),(1,Iv y),(4,.lp 4 0),(5,.lp 5 0),(12,Iv z)],[(4,[.sl n a m c,.sl k b i p,.sl j d g u,.sl G e H s]),(5,[.sl 6 A J C,.sl 5 B P D,.sl n0 a0 n1 c0,.sl n2 a1 n3 c1])],h⟩
def Dl lo x y n a m c k b i p j d g u G e H s A J C B P D n0 a0 n1 c0 n2 a1 n3 c1 h:=
 LA 36 Tryz.f36 2213111 2 1111 lo ⟨[(4,.lp 4 0),(5,.lp 5 0),(24,Iv x),(25,Iv y)],[(4,[.sl n a m c,.sl k b i p,.sl j d g u,.sl G e H s]),(5,[.sl 6 A J C,.sl 5 B P D,.sl n0 a0 n1 c0,.sl n2 a1 n3 c1])],h⟩
theorem EC.e {lo n m k i j g G H J P n0 n1 n2 n3:Nat}{y z x:Int}{a b d A B a0 a1 a2:Pq}{c p u s C D c0 c1:Nq}{h:Heap} :
  EC lo y z x n a m c k b i p j d g u G A H s B J C a0 P D n0 a1 n1 c0 n2 a2 n3 c1 h=br (decide (x<3)) (Ak (Ae lo 64 (BJ x y) h) λv l=>eA v λv=>eC v λv o=>eI .i64 v λv=>eC o λo w=>eI .i64 o λo=>eC w λw q=>eS 2 w λw t e=>eC q λq f=>eS 6 q λq E K=>eC f λf L=>eS 1 f λf M N=>eC L λL O=>eBv L λL=>eN O (Aj 6 (l ++ [.rows 6 60 false [CN v o w t e q E K f M N L]]) (.sl 6 (some (l.length,0)) 1 (some 1)) λO=>CC lo 60 6 96 (.sl 6 B J C) O (l ++ [.rows 6 60 false [CN v o w t e q E K f M N L]]) λv l=>eS 6 v λv o w=>EC lo y z (AD (x+1)) n a m c k b i p j d g u G A H s v o w a0 P D n0 a1 n1 c0 n2 a2 n3 c1 l)) (Dl lo z 0 n a m c k b i p j d g u G A H s B J C a0 P D n0 a1 n1 c0 n2 a2 n3 c1 h) :=
 lE
theorem Dl.e :
  Dl lo y x G B H C J a0 P D n0 a1 n1 c0 n2 a2 n3 c1 a n c b m p k d i u j A g s h=br (decide (x<y)) (Ak (Ae lo 65 [] h) λv l=>eA v λv=>eC v λv o=>eS 2 v λv z w=>eN o (Aj 5 (l ++ [.rows 5 72 false [KV (x.tmod (3:Int)) v z w 0 0 0]]) (.sl 5 (some (l.length,0)) 1 (some 1)) λo=>CC lo 72 5 56 (.sl 5 b m p) o (l ++ [.rows 5 72 false [KV (x.tmod (3:Int)) v z w 0 0 0]]) λv l=>eS 5 v λv o z=>Dl lo y (AD (x+1)) G B H C J a0 P D n0 a1 n1 c0 n2 a2 n3 c1 a n c v o z k d i u j A g s l)) (some (.agg [.sl 6 a n c,.sl 5 b m p,.sl k d i u,.sl j A g s],h)) :=
 lE
def Dc lo a n c x y b m p d k u e i s A j C g B G D H a0 J c0 P a1 n0 c1 n1 a2 n2 c2 a3 n3 c3 a4 n4 c4 a5 n5 c5 a6 n6 c6 h:=
 LA 38 Tryz.f38 221311 0 111 lo ⟨[(1,.lp 1 0),(2,.lp 2 0),(3,.lp 3 0),(28,.sl 6 a n c),(29,Iv x),(30,Iv y)],[(1,(C4 b m p d k u e i s A j C)),(2,[.sl g B G D,.sl H a0 J c0,.sl P a1 n0 c1,.sl n1 a2 n2 c2]),(3,(C4 a3 n3 c3 a4 n4 c4 a5 n5 c5 a6 n6 c6))],h⟩
def CE lo a n c x y b m p d k u e i s A j C g B G D H a0 J c0 P a1 n0 c1 n1 a2 n2 c2 a3 n3 c3 a4 n4 c4 a5 n5 c5 a6 n6 c6 h:=
 LA 38 Tryz.f38 2213111 2 1111 lo ⟨[(1,.lp 1 0),(2,.lp 2 0),(3,.lp 3 0),(43,.sl 5 a n c),(44,Iv x),(45,Iv y)],[(1,(C4 b m p d k u e i s A j C)),(2,[.sl g B G D,.sl H a0 J c0,.sl P a1 n0 c1,.sl n1 a2 n2 c2]),(3,(C4 a3 n3 c3 a4 n4 c4 a5 n5 c5 a6 n6 c6))],h⟩
def CD lo a n c x y m b k p i d j u g e G s H A J C B P D a0 n0 c0 a1 n1 c1 a2 n2 c2 h:=
 LA 38 Tryz.f38 22131111 4 11111 lo ⟨[(2,.lp 2 0),(3,.lp 3 0),(61,.sl 9 a n c),(62,Iv x),(63,Iv y)],[(2,[.sl m b k p,.sl i d j u,.sl g e G s,.sl H A J C]),(3,(C4 B P D a0 n0 c0 a1 n1 c1 a2 n2 c2))],h⟩
theorem Dc.e {lo m k n i j g G H J P n0 n1 n2 n3 n4 n5 n6:Nat}{b d a A B a0 a1 a2 a3 a4 a5 a6 a7:Pq}{c6 p c u s C D c0 c1 c2 c3 c4 c5:Nq}{y x:Int}{h:Heap} :
  Dc lo b m c6 y x d k p a n c A i u B j s g a0 G C H a1 J D P a2 n0 c0 n1 a3 n2 c1 a4 n3 c2 a5 n4 c3 a6 n5 c4 a7 n6 c5 h=br (decide (x<y)) (Av x m (eO b λv=>eO (ld h v.1 (v.2+x.toNat) 0 6) λv=>eC v λv l=>eI .i64 v λv=>eC l λl o=>eI .i64 l λl=>eC o λo z=>eS 2 o λo w q=>eC z λz t=>eS 6 z λz e f=>eC t λt E=>eS 1 t λt K L=>eC E λE M=>eBv E λE=>eN M (Ak (Ae lo 71 [Bl v l o w q z e f t K L E] h) λv l=>eA v λv=>eC v λv o=>eI .i64 v λv=>eC o λo z=>eI .i64 o λo=>eC z λz w=>eS 2 z λz q t=>eC w λw e=>eS 6 w λw f E=>eC e λe K=>eS 1 e λe L M=>eC K λK N=>eBv K λK=>eN N (Aj 6 (l ++ [.rows 6 60 false [CN v o z q t w f E e L M K]]) (.sl 6 (some (l.length,0)) 1 (some 1)) λN=>CC lo 60 6 96 (.sl 6 a4 n3 c2) N (l ++ [.rows 6 60 false [CN v o z q t w f E e L M K]]) λv l=>eS 6 v λv o z=>Dc lo b m c6 y (AD (x+1)) d k p a n c A i u B j s g a0 G C H a1 J D P a2 n0 c0 n1 a3 n2 c1 v o z a5 n4 c3 a6 n5 c4 a7 n6 c5 l)))) (CE lo a n c (n:Int) 0 d k p a n c A i u B j s g a0 G C H a1 J D P a2 n0 c0 n1 a3 n2 c1 a4 n3 c2 a5 n4 c3 a6 n5 c4 a7 n6 c5 h) :=
 lE
theorem CE.e {lo m n4 n5 n n6 k i j g G H J P n0 n1 n2 n3:Nat}{a a5 a6 b a7 d A B a0 a1 a2 a3 a4:Pq}{c3 c4 c5 c c6 p u s C D c0 c1 c2:Nq}{y x:Int}{h:Heap} :
  CE lo a m c3 y x a5 n4 c4 a6 n5 c5 b n c a7 n6 c6 k d i p j A g u G B H s J a0 P C a1 n0 D a2 n1 c0 a3 n2 c1 a4 n3 c2 h=br (decide (x<y)) (Av x m (eO a λv=>eO (ld h v.1 (v.2+x.toNat) 0 5) λv=>eC v λv l=>eI .i64 v λv=>eC l λl o=>eS 2 l λl z w=>eC o λo q=>eI .i64 o λo=>eC q λq t=>eI .i64 q λq=>eC t λt e=>eI .i64 t λt=>eN e (Ak (Ae lo 72 [At l z w] h) λl z=>eA l λl=>eC l λl w=>eS 2 l λl e f=>eN w (Aj 5 (z ++ [.rows 5 72 false [KV v l e f o q t]]) (.sl 5 (some (z.length,0)) 1 (some 1)) λw=>CC lo 72 5 56 (.sl 5 a2 n1 c0) w (z ++ [.rows 5 72 false [KV v l e f o q t]]) λv l=>eS 5 v λv o z=>CE lo a m c3 y (AD (x+1)) a5 n4 c4 a6 n5 c5 b n c a7 n6 c6 k d i p j A g u G B H s J a0 P C a1 n0 D v o z a3 n2 c1 a4 n3 c2 l)))) (CD lo b n c (n:Int) 0 k d i p j A g u G B H s J a0 P C a1 n0 D a2 n1 c0 a3 n2 c1 a4 n3 c2 h) :=
 lE
theorem CD.e {lo n g G H J P n0 n1 n2 m k i j:Nat}{a a0 a1 a2 a3 b d A B:Pq}{C D c0 c1 c2 c p u s:Nq}{y x:Int}{h:Heap} :
  CD lo a n C y x g a0 G D H a1 J c0 P a2 n0 c1 n1 a3 n2 c2 b m c d k p A i u B j s h=br (decide (x<y)) (Av x n (eO a λv=>eO (ld h v.1 (v.2+x.toNat) 0 9) λv=>eC v λv l=>eI .i64 v λv=>eC l λl o=>eI .i64 l λl=>eC o λo z=>eI .i64 o λo=>eC z λz w=>eI .i64 z λz=>eC w λw q=>eI .i64 w λw=>eC q λq t=>eI .i64 q λq=>eC t λt e=>eS 2 t λt f E=>eC e λe K=>eT e λe=>eC K λK L=>eBv K λK=>eN L (Ak (Ae lo 73 [A3 z w q t f E e K] h) λz w=>eA z λz=>eC z λz q=>eI .i64 z λz=>eC q λq t=>eI .i64 q λq=>eC t λt e=>eI .i64 t λt=>eC e λe f=>eS 2 e λe E K=>eC f λf L=>eT f λf=>eC L λL M=>eBv L λL=>eN M (Aj 9 (w ++ [.rows 9 91 false [OA v l o z q t e E K f L]]) (.sl 9 (some (w.length,0)) 1 (some 1)) λM=>CC lo 91 9 96 (.sl 9 A i u) M (w ++ [.rows 9 91 false [OA v l o z q t e E K f L]]) λv l=>eS 9 v λv o z=>CD lo a n C y (AD (x+1)) g a0 G D H a1 J c0 P a2 n0 c1 n1 a3 n2 c2 b m c d k p v o z B j s l)))) (some ((Al b m c d k p A i u B j s),h)) :=
 lE
def EY lo f x y z a n c b m p d k u F t w e i s A j C B g D b0 h:=
 LA 39 Tryz.f39 221311 0 111 lo ⟨[(2,.lp 2 0),(3,.lp 3 0),(4,.bool f),(5,Iv x)],[(2,(CN y z a n c b m p d k u F)),(3,(CN t w e i s A j C B g D b0))],h⟩
theorem EY.e {lo k i n j g m:Nat}{f F b0:Bool}{x y z t w:Int}{d A a B a0 b:Pq}{c p u s C D:Nq}{h:Heap} :
  EY lo f x y z d k c A i p a n u F t w B j s a0 g C b m D b0 h=br (decide (x<(n:Int))) (Av x n (eO a λv=>eO (ld h v.1 (v.2+x.toNat) 0 1) λv=>eC v λv l=>eN l (eS 6 v λv l o=>Av x m (eO b λq=>eO (ld h q.1 (q.2+x.toNat) 0 1) λq=>eC q λq e=>eN e (eS 6 q λq e E=>Ak (Ae lo 19 (KW v l o q e E) h) λv l=>eB v (EY lo f (AD (x+1)) y z d k c A i p a n u F t w B j s a0 g C b m D b0 l) (Bv l)))))) (Em h) :=
 lE
theorem Rl (hk:(br (decide (x>=y)) (br (decide (x<=z)) (Em h) (Bv h)) (Bv h))=some (v,h')) (hn:noId v=true:=by rfl) :
  Ae lo 41 (CG x y z) h=some (v,h) :=
 eD Tryz.func41 hk hn
def Bq lo a n c x m b k p i d j u g e G s H A J C B P D a0 n0 c0 a1 n1 c1 a2 n2 c2 h:=
 LA 42 Tryz.f42 221311 0 111 lo ⟨[(2,.sl 6 a n c),(6,.lp 6 0),(7,.lp 7 0),(8,Iv x)],[(6,[.sl m b k p,.sl i d j u,.sl g e G s,.sl H A J C]),(7,(C4 B P D a0 n0 c0 a1 n1 c1 a2 n2 c2))],h⟩
theorem Ng (hk:(Ak (Ae lo 75 (BJ x y) h) λv l=>eA v λv=>eC v λv o=>eS 6 v λv s b=>eC o λo z=>eS 5 o λo u w=>eC z λz p=>eS 9 z λz q g=>eC p λp i=>eS 5 p λp j k=>eN i (Bq lo a n c 0 0 none 0 (some 0) 0 none 0 (some 0) 0 none 0 (some 0) 0 none 0 (some 0) v s b o u w z q g p j k l))=some r) :
  Ae lo 42 [Iv x,Iv y,.sl 6 a n c] h=some r :=
 eK Tryz.func42 hk
theorem Bq.e {lo n g G H J P n0 n1 n2 m k i j:Nat}{a a0 a1 a2 a3 b d A B:Pq}{C D c0 c1 c2 c p u s:Nq}{x:Int}{h:Heap} :
  Bq lo a n C x g a0 G D H a1 J c0 P a2 n0 c1 n1 a3 n2 c2 b m c d k p A i u B j s h=br (decide (x<(n:Int))) (br (decide (x<60)) (Av x n (eO a λv=>eO (ld h v.1 (v.2+x.toNat) 0 6) λv=>eC v λv l=>eI .i64 v λv=>eC l λl o=>eI .i64 l λl=>eC o λo y=>eI .i64 o λo=>eC y λy z=>eI .i64 y λy=>eC z λz w=>eT z λz=>eC w λw q=>eBv w λw=>eN q (Ak (Ae lo 76 [Al b m c d k p A i u B j s,BF v l o y z w] h) λv l=>eU v λv=>eC v λv o=>eA v λv=>eC v λv y=>eS 6 v λv z w=>eC y λy q=>eS 5 y λy t e=>eC q λq f=>eS 9 q λq E K=>eC f λf L=>eS 5 f λf M N=>eN L (eC o λo L=>eB o (eN L (Bq lo a n C (AD (x+1)) g a0 G D H a1 J c0 P a2 n0 c1 n1 a3 n2 c2 v z w y t e q E K f M N l)) (eN L (Bq lo a n C (AD (x+1)) g a0 G D H a1 J c0 P a2 n0 c1 n1 a3 n2 c2 v z w y t e q E K f M N l)))))) (some ((Al b m c d k p A i u B j s),h))) (some ((Al b m c d k p A i u B j s),h)) :=
 lE
theorem I0 (hk:(Ak (Ae h.length 78 (BJ x z) h) λl c=>eI .i64 l λl=>Ak (Ae h.length 78 (BJ y t) c) λc n=>eI .i64 c λc=>Ak (Ae h.length 77 [.sl 1 (some (n.length,0)) 2 (some 2)] (n ++ [.rows 1 3 false [AI l,AI c]])) λl c=>eI .i64 l λl=>some (Iv l,c))=some (v,h')) (hn:noId v=true:=by rfl) :
  Ae lo 43 [An x y,An z t] h=some (v,h) :=
 eD Tryz.func43 hk hn
def DO lo f a n c x y b m p h:=
 LA 45 Tryz.f45 22131 0 11 lo ⟨[(3,.lp 3 0),(4,.bool f),(8,.sl 2 a n c),(9,Iv x),(10,Iv y)],[(3,(Cj b m p))],h⟩
theorem DO.e :
  DO lo f a n c y x b m p h=br (decide (x<y)) (Av x n (eO a λv=>eO (ld h v.1 (v.2+x.toNat) 0 2) λv=>eC v λv l=>eI .i64 v λv=>eC l λl o=>eI .i64 l λl=>eN o (Av x m (eO b λo=>eO (ld h o.1 (o.2+x.toNat) 0 2) λo=>eC o λo s=>eI .i64 o λo=>eC s λs z=>eI .i64 s λs=>eN z (Ak (Ae lo 17 [An o s,An v l] h) λv l=>eB v (Bv l) (DO lo f a n c y (AD (x+1)) b m p l)))))) (Em h) :=
 lE
def E5 lo f a n c x y b m p h:=
 LA 46 Tryz.f46 221311 0 111 lo ⟨[(1,.lp 1 0),(2,.bool f),(13,.sl 2 a n c),(14,Iv x),(15,Iv y)],[(1,(Cj b m p))],h⟩
def BO lo f a n c x y b m p h:=
 LA 46 Tryz.f46 2213111 2 1111 lo ⟨[(1,.lp 1 0),(2,.bool f),(36,.sl 2 a n c),(37,Iv x),(38,Iv y)],[(1,(Cj b m p))],h⟩
theorem E5.e :
  E5 lo f b m p y x a n c h=br (decide (x<y)) (Av x m (eO b λv=>eO (ld h v.1 (v.2+x.toNat) 0 2) λv=>eC v λv l=>eS 6 v λv o s=>eC l λl z=>eS 6 l λl u w=>eN z (Ak (Ae lo 50 [Di v o s] h) λv o=>eB v (br (decide ((u:Int)>6)) (Bv o) (Ak (Ae lo 51 [.sl 6 l u w,.fn 81 []] o) λv l=>eB v (Bv l) (E5 lo f b m p y (AD (x+1)) a n c l))) (Bv o)))) (BO lo f a n c (n:Int) 0 a n c h) :=
 lE
theorem BO.e :
  BO lo f b m p y x a n c h=br (decide (x<y)) (Av x m (eO b λv=>eO (ld h v.1 (v.2+x.toNat) 0 2) λv=>eC v λv l=>eS 6 v λv o s=>eC l λl z=>eS 6 l λl u w=>eN z (Ak (Ae lo 83 [At a n c,Iv x] h) λz q=>eB z (br (decide ((u:Int)>0)) (Bv q) (Ak (Ae lo 83 [At a n c,Iv x] q) λz g=>eB z (BO lo f b m p y (AD (x+1)) a n c g) (Av (AD (x+1)) n (eO a λz=>eO (ld g z.1 (z.2+((AD (x+(1:Int))).toNat)) 0 1) λz=>eC z λz i=>eS 6 z λz j k=>eN i (Ak (Ae lo 84 [U7 v o s l u w,Di z j k] g) λz g=>eB z (BO lo f b m p y (AD (x+1)) a n c g) (Bv g)))))) (Ak (Ae lo 83 [At a n c,Iv x] q) λz q=>eB z (BO lo f b m p y (AD (x+1)) a n c q) (Av (AD (x+1)) n (eO a λz=>eO (ld q z.1 (z.2+((AD (x+(1:Int))).toNat)) 0 1) λz=>eC z λz g=>eS 6 z λz i j=>eN g (Ak (Ae lo 84 [U7 v o s l u w,Di z i j] q) λv l=>eB v (BO lo f b m p y (AD (x+1)) a n c l) (Bv l)))))))) (Em h) :=
 lE
def DN lo a n c x y m b k p d i u h:=
 LA 48 Tryz.f48 221311 0 111 lo ⟨[(2,.lp 2 0),(3,.lp 3 0),(8,.sl 6 a n c),(9,Iv x),(10,Iv y)],[(2,[.sl m b k p]),(3,(Cj d i u))],h⟩
theorem DN.e :
  DN lo b m p y x k d i u a n c h=br (decide (x<y)) (Av x m (eO b λv=>eO (ld h v.1 (v.2+x.toNat) 0 6) λv=>eC v λv l=>eI .i64 v λv=>eC l λv l=>eI .i64 v λv=>eC l λl o=>eI .i64 l λl=>eC o λo s=>eS 2 o λo o o=>eC s λo s=>eT o λo=>eC s λo s=>eBv o λo=>eN s (Av x n (eO a λo=>eO (st lo h o.1 (o.2+x.toNat) 0 (BJ v l)) λv=>DN lo b m p y (AD (x+1)) k d i u a n c v)))) (some ((At a n c),h)) :=
 lE
def E0 lo n m k f a i c x y h:=
 LA 49 Tryz.f49 221311 0 111 lo ⟨[(1,(CF n m k)),(2,.bool f),(32,.sl 6 a i c),(33,Iv x),(34,Iv y)],[],h⟩
def DF lo n m k f a i c x y h:=
 LA 49 Tryz.f49 2213111 2 1111 lo ⟨[(1,(CF n m k)),(2,.bool f),(50,.sl 6 a i c),(51,Iv x),(52,Iv y)],[],h⟩
def DE lo n m k f a i c x y b j p z t h:=
 Lp (X 49) lo (pf 221123112213111 Tryz.f49) 4 (Bx 4 (Bx 3 (kS (X 49) lo (pf 1112213111 Tryz.f49) 2 (Wa (X 49) lo (pf 2213111 Tryz.f49) 2 (Bx 2 (kS (X 49) lo (pf 1111 Tryz.f49) 0 (Js (X 49) Tryz.f49.results.toList))))))) ⟨[(1,(CF n m k)),(2,.bool f),(50,.sl 6 a i c),(51,Iv x),(52,Iv y),(57,.sl 1 b j p),(58,Iv z),(59,Iv t)],[],h⟩
theorem E0.e :
  E0 lo n m k f a i c y x h=br (decide (x<y)) (Av x i (eO a λv=>eO (ld h v.1 (v.2+x.toNat) 0 6) λv=>eC v λv l=>eI .i64 v λv=>eC l λl o=>eI .i64 l λl=>eC o λo s=>eS 2 o λo b z=>eC s λs u=>eS 6 s λs w p=>eC u λu q=>eS 1 u λu g j=>eC q λq t=>eBv q λq=>eN t (Ak (Ae lo 85 [Bl v l o b z s w p u g j q] h) λl o=>eB l (br (v==x) (E0 lo n m k f a i c y (AD (x+1)) o) (Bv o)) (Bv o)))) (eO (ld h n m (k+0) 1) λv=>eC v λv l=>eN l (eS 6 v λv l o=>DF lo n m k f v l o (l:Int) 0 h)) :=
 lE
theorem DF.e :
  DF lo n m k f a i c y x h=br (decide (x<y)) (Av x i (eO a λv=>eO (ld h v.1 (v.2+x.toNat) 0 6) λv=>eC v λv l=>eI .i64 v λv=>eC l λv l=>eI .i64 v λv=>eC l λv l=>eS 2 v λv v v=>eC l λv l=>eS 6 v λv v v=>eC l λv l=>eS 1 v λv o s=>eC l λl b=>eBv l λl=>eN b (DE lo n m k f a i c y x v o s (o:Int) 0 h))) (eO (ld h n m (k+1) 1) λv=>eC v λv l=>eN l (eS 5 v λv l o=>Ak (Ae lo 87 [.sl 5 v l o,.fn 88 []] h) λv l=>eB v (Bv l) (eO (ld l n m (k+2) 1) λv=>eC v λv o=>eN o (eS 9 v λv o s=>Ak (Ae lo 90 [.sl 9 v o s,.fn 91 [CF n m k]] l) λv l=>eB v (Bv l) (Em l))))) :=
 lE
theorem DE.e :
  DE lo n m k f a i c y z b j p t x h=br (decide (x<t)) (Av x j (eO b λv=>eO (ld h v.1 (v.2+x.toNat) 0 1) λv=>eC v λv l=>eN l (eS 6 v λv l o=>eO (ld h n m (k+0) 1) λs=>eC s λs u=>eN u (eS 6 s λs u w=>Av x u (eO s λs=>eO (ld h s.1 (s.2+x.toNat) 3 1) λs=>eC s λs u=>eN u (eS 6 s λs u w=>Ak (Ae lo 86 (KW s u w v l o) h) λv l=>eB v (DE lo n m k f a i c y z b j p t (AD (x+1)) l) (Bv l))))))) (DF lo n m k f a i c y (AD (z+1)) h) :=
 lE
def DG lo f a n c x y b m p h:=
 LA 50 Tryz.f50 22131 0 11 lo ⟨[(1,.lp 1 0),(2,.bool f),(6,.sl 6 a n c),(7,Iv x),(8,Iv y)],[(1,(BU b m p))],h⟩
theorem DG.e :
  DG lo f a n c y x b m p h=br (decide (x<y)) (Av x n (eO a λv=>eO (ld h v.1 (v.2+x.toNat) 0 6) λv=>eC v λv l=>eI .i64 v λv=>eC l λl o=>eI .i64 l λl=>eC o λo s=>eI .i64 o λo=>eC s λs z=>eS 2 s λs u w=>eC z λz q=>eT z λz=>eC q λq g=>eBv q λq=>eN g (Ak (Ae lo 93 [A3 v l o s u w z q,.agg [Iv 0,Iv 0,Iv 0,.sl 0 none 0 (some 0),.str ⟨⟨[]⟩⟩,.bool false]] h) λg i=>eB g (DG lo f a n c y (AD (x+1)) b m p i) (Ak (Ae lo 82 [A3 v l o s u w z q] i) λl o=>eB l (br (v==x) (DG lo f a n c y (AD (x+1)) b m p o) (Bv o)) (Bv o))))) (br ((m:Int)==4) (Em h) (Bv h)) :=
 lE
theorem MM (hk:(Ak (Ae lo 95 [CF n m k] (h ++ [.rows 5 32 false []])) λv l=>eA v λv=>eC v λv c=>eS 6 v λv v v=>eC c λv c=>eS 5 v λv v v=>eC c λv c=>eS 9 v λv v v=>eC c λv c=>eS 5 v λv a o=>eN c (Aj 5 l (.sl 5 v a o) λv=>CC lo 32 5 40 (.sl 5 (some (h.length,0)) 0 (some 0)) v l λv l=>eS 5 v λv c a=>br (decide ((c:Int)>0)) (Ak (Ae lo 33 [CF n m k,Iv 3] l) λo s=>eI .i64 o λo=>br (o==0) (Ak (Ae lo 33 [CF n m k,Iv (c:Int)] s) λo b=>eI .i64 o λo=>Ak (Ae lo 33 [CF n m k,Iv 5] b) λb x=>eI .i64 b λb=>br (b==0) (Ak (Ae lo 96 [CF n m k] x) λy z=>eA y λy=>eC y λy u=>eI .i64 y λy=>eC u λu w=>eI .i64 u λu=>eN w (Av o c (eO v λw=>eO (st lo z w.1 (w.2+o.toNat) 3 (BJ y u)) λy=>some (.sl 5 v c a,y)))) (br (b==1) (Ak (Ae lo 33 [CF n m k,Iv 5] x) λy z=>eI .i64 y λy=>Av o c (eO v λu=>eO (st lo z u.1 (u.2+o.toNat) 1 (AI y)) λy=>some (.sl 5 v c a,y))) (br (b==2) (Ak (Ae lo 33 [CF n m k,Iv 5] x) λy z=>eI .i64 y λy=>Av o c (eO v λu=>eO (st lo z u.1 (u.2+o.toNat) 2 (AI y)) λy=>some (.sl 5 v c a,y))) (br (b==3) (Ak (Ae lo 33 [CF n m k,Iv 5] x) λb y=>eI .i64 b λb=>Av o c (eO v λz=>eO (st lo y z.1 (z.2+o.toNat) 0 (AI b)) λb=>some (.sl 5 v c a,b))) (AB v c a none (some (Iv o)) none λb y z=>AB v c a (some (Iv (AD (o+1)))) none none λo u w=>Aj 5 x (.sl 5 o u w) λo=>CC lo 32 5 40 (.sl 5 b y z) o x λo b=>eS 5 o λo x y=>some (.sl 5 o x y,b)))))) (some (.sl 5 v c a,s))) (some (.sl 5 v c a,l))))=some r) :
  Ae lo 53 [CF n m k] h=some r :=
 eK Tryz.func53 hk
theorem C6 (hk:(Ak (Ae h.length 97 [.sl 5 a n c,.fn m l] h) λo s=>eI .i64 o λo=>br (decide (o>=0)) (Em s) (Bv s))=some (v,h')) (hn:noId v=true:=by rfl) :
  Ae lo 54 [.sl 5 a n c,.fn m l] h=some (v,h) :=
 eD Tryz.func54 hk hn
theorem Lh {w:Int} (hk:(Ak (Ae h.length 56 (CG t 0 3) h) λl c=>eB l (Ak (Ae h.length 56 (CG x 1 3) c) λl n=>eB l (Ak (Ae h.length 57 (AI w) n) λl a=>eB l (Ak (Ae h.length 58 [An y z] a) λl o=>eB l (br ((y==0)&&((z==0)&&true)) (br (x==2) (Bv o) (Em o)) (Bv o)) (Em o)) (Em a)) (Em n)) (Em c))=some (v,h')) (hn:noId v=true:=by rfl) :
  Ae lo 55 [Og t x w y z] h=some (v,h) :=
 eD Tryz.func55 hk hn
theorem NF (hk:(br (decide (x>=y)) (br (decide (x<=z)) (Em h) (Bv h)) (Bv h))=some (v,h')) (hn:noId v=true:=by rfl) :
  Ae lo 56 (CG x y z) h=some (v,h) :=
 eD Tryz.func56 hk hn
theorem PP (hk:(Ak (Ae h.length 56 (CG x 0 3) h) λl c=>eB l (Em c) (Bv c))=some (v,h')) (hn:noId v=true:=by rfl) :
  Ae lo 57 (AI x) h=some (v,h) :=
 eD Tryz.func57 hk hn
theorem PQ (hk:(br ((x==0)&&((y==0)&&true)) (Em h) (Ak (Ae h.length 56 (CG x 1 999) h) λl c=>eB l (Ak (Ae h.length 98 (AI y) c) λl n=>eB l (Em n) (Bv n)) (Bv c)))=some (v,h')) (hn:noId v=true:=by rfl) :
  Ae lo 58 [An x y] h=some (v,h) :=
 eD Tryz.func58 hk hn
theorem Nh {w:Int} (hk:(Ak (Ae h.length 41 (CG z 0 3) h) λl c=>eB l (Ak (Ae h.length 41 (CG x 1 3) c) λl n=>eB l (Ak (Ae h.length 41 (CG t 0 3) n) λl a=>eB l (Ak (Ae h.length 99 [An y w] a) λl o=>eB l (br (x==2) (Em o) (br (decide (y>0)) (Em o) (Bv o))) (Bv o)) (Bv a)) (Bv n)) (Bv c))=some (v,h')) (hn:noId v=true:=by rfl) :
  Ae lo 59 [Og z x t y w] h=some (v,h) :=
 eD Tryz.func59 hk hn
def BM lo n m k x h:=
 LA 60 Tryz.f60 221311 0 111 lo ⟨[(1,(CF n m k)),(6,Iv x)],[],h⟩
theorem MQ (hk:(BM lo (List.length (h ++ [.map 131 []])) 0 0 0 ((h ++ [.map 131 []]) ++ [.rows 5 134 false [[.sl 0 none 0 (some 0),.sl 0 none 0 (some 0),.sl 0 none 0 (some 0),.sl 0 none 0 (some 0),.map (some h.length)]]]))=some r) :
  Ae lo 60 [] h=some r :=
 eK Tryz.func60 hk
theorem BM.e :
  BM lo n m k x h=br (decide (x<4)) (Ak (Ae lo 65 [] h) λv l=>eA v λv=>eC v λv c=>eS 2 v λv a o=>eN c (Av x 4 (eO (st lo l n m ((k+0)+(x.toNat*1)) (Cj v a o)) λv=>BM lo n m k (AD (x+1)) v))) (some ((CF n m k),h)) :=
 lE
theorem Li {w:Int} (hk:(Av y 4 (eO (ld h n m ((k+0)+(y.toNat*1)) 1) λv=>eC v λv l=>eS 2 v λv c a=>eN l (eO (ld h n m (k+4) 1) λl=>eC l λl o=>eN o (eM l λl=>eO l λl=>eO (Heap.kv? h l) λl=>eO (HR (An x t) l) λl=>eX l (λl=>eA l λl=>eC l λl o=>eI .i64 l λl=>eC o λo s=>eI .i64 o λo=>eC s λs b=>eS 2 s λs u p=>eN b (br (w==1) (Bv h) (Av z c (eO v λb=>eO (ld h b.1 (b.2+z.toNat) 0 2) λb=>eC b λb q=>eI .i64 b λb=>eC q λq g=>eI .i64 q λq=>eN g (Ak (Ae lo 17 [An x t,An b q] h) λb q=>eB b (Bv q) (br ((x==0)&&((t==0)&&true)) (Em q) (br (o==z) (br (w==3) (br (l==y) (Ak (Ae lo 101 [At v c a,At s u p] q) λl o=>eA l λl=>eC l λl b=>eS 2 l λl g i=>eN b (Ak (Ae lo 102 [At l g i,Iv z,An x t] o) λl o=>eA l λl=>eC l λl b=>eS 2 l λl g i=>eN b (Av y 4 (eO (st lo o n m ((k+0)+(y.toNat*1)) (Cj l g i)) λl=>some (.bool true,l))))) (Bv q)) (Ak (Ae lo 101 [At v c a,At s u p] q) λl o=>eA l λl=>eC l λl s=>eS 2 l λl b u=>eN s (Ak (Ae lo 102 [At l b u,Iv z,An x t] o) λl o=>eA l λl=>eC l λl s=>eS 2 l λl b u=>eN s (Av y 4 (eO (st lo o n m ((k+0)+(y.toNat*1)) (Cj l b u)) λl=>some (.bool true,l)))))) (Bv q)))))))) (br (w==1) (Ak (Ae h.length 100 [At v c a] h) λl o=>eI .i64 l λl=>br (decide (x<=l)) (Bv o) (eO (ld o n m (k+4) 1) λl=>eC l λl s=>eN s (eM l λl=>eO l λl=>eO (Heap.kv? o l) λs=>A4 (lo.ble l) (eO (IH (An x t) (.agg [Iv y,Iv z,.sl 2 v c a]) s) λa=>some (.bool true,(List.set o l (.map 131 a))))))) (Av z c (eO v λv=>eO (ld h v.1 (v.2+z.toNat) 0 2) λv=>eC v λv l=>eI .i64 v λv=>eC l λl c=>eI .i64 l λl=>eN c (Ak (Ae lo 17 [An x t,An v l] h) λv l=>eB v (Bv l) (br ((x==0)&&((t==0)&&true)) (Em l) (Bv l))))))))))=some r) :
  Ae lo 61 [CF n m k,Og y w z x t] h=some r :=
 eK Tryz.func61 hk
def AO lo n m k x a i c y b j p d g u e G s A H C h:=
 LA 62 Tryz.f62 2213111 0 1111 lo ⟨[(0,(CF n m k)),(3,Iv x),(9,.lp 9 0),(10,.sl 6 a i c),(11,Iv y)],[(9,(C4 b j p d g u e G s A H C))],h⟩
theorem Kq (hk:(Ak (Ae lo 75 (BJ x y) h) λv l=>eA v λv=>eC v λv c=>eS 6 v λv a o=>eC c λc s=>eS 5 c λc b u=>eC s λs w=>eS 9 s λs p q=>eC w λw g=>eS 5 w λw i j=>eN g (AO lo n m k z (some (l.length,0)) 0 (some 0) 0 v a o c b u s p q w i j (l ++ [.rows 6 70 false []])))=some r) :
  Ae lo 62 [CF n m k,Iv x,Iv y,Iv z] h=some r :=
 eK Tryz.func62 hk
theorem AO.e {lo n m k i j g G H:Nat}{x y:Int}{a b d A B:Pq}{c p u s C:Nq}{h:Heap} :
  AO lo n m k x a i c y b j p d g u A G s B H C h=br (decide (y<x)) (Ak (Ae lo 103 [CF n m k,Al b j p d g u A G s B H C] h) λv l=>eA v λv=>eC v λv o=>eI .i64 v λv=>eC o λo z=>eI .i64 o λo=>eC z λz w=>eI .i64 z λz=>eC w λw q=>eI .i64 w λw=>eC q λq t=>eT q λq=>eC t λt e=>eBv t λt=>eN e (Ak (Ae lo 76 [Al b j p d g u A G s B H C,BF v o z w q t] l) λl e=>eU l λl=>eC l λl f=>eA l λl=>eC l λl D=>eS 6 l λl E J=>eC D λD K=>eS 5 D λD L M=>eC K λK N=>eS 9 K λK O P=>eC N λN Q=>eS 5 N λN S U=>eN Q (eC f λf Q=>eB f (eN Q (Aj 6 (e ++ [.rows 6 70 false [OB v o z w q t]]) (.sl 6 (some (e.length,0)) 1 (some 1)) λf=>CC lo 70 6 56 (.sl 6 a i c) f (e ++ [.rows 6 70 false [OB v o z w q t]]) λf W=>eS 6 f λf Y Z=>AO lo n m k x f Y Z (AD (y+1)) l E J D L M K O P N S U W)) (eN Q (Ak (Ae lo 33 [CF n m k,Iv 6] e) λe f=>eI .i64 e λe=>br (decide (e>0)) (AO lo n m k x a i c (AD (y+1)) b j p d g u A G s B H C f) (Aj 6 (f ++ [.rows 6 70 false [OB v o z w q t]]) (.sl 6 (some (f.length,0)) 1 (some 1)) λe=>CC lo 70 6 56 (.sl 6 a i c) e (f ++ [.rows 6 70 false [OB v o z w q t]]) λv o=>eS 6 v λv z w=>AO lo n m k x v z w (AD (y+1)) l E J D L M K O P N S U o)))))) (some (.sl 6 a i c,h)) :=
 lE
theorem Lj (hk:(some ((At (some (h.length,0)) 4 (some 4)),(h ++ [.rows 2 30 false [BJ 0 0,BJ 0 0,BJ 0 0,BJ 0 0]])))=some r) :
  Ae lo 65 [] h=some r :=
 eK Tryz.func65 hk
def Dd lo a n c x y z t m b k p i d j u g e G s f w q A H C B J D a0 P c0 F h:=
 LA 71 Tryz.f71 221311 0 111 lo ⟨[(2,.lp 2 0),(3,.lp 3 0),(24,.sl 1 a n c),(25,Iv x),(26,Iv y)],[(2,[Iv z,Iv t,.sl m b k p,.sl i d j u,.sl g e G s,.bool f]),(3,(CN w q A H C B J D a0 P c0 F))],h⟩
theorem Dd.e {lo n j g G H J P m k i:Nat}{a B a0 a1 b d A:Pq}{s C D c0 c p u:Nq}{y x w q z t:Int}{F f:Bool}{h:Heap} :
  Dd lo a n s y x w q j B g C G a0 H D J a1 P c0 F z t b m c d k p A i u f h=br (decide (x<y)) (Av x n (eO a λv=>eO (ld h v.1 (v.2+x.toNat) 0 1) λv=>eC v λv l=>eN l (eS 6 v λv l o=>Ak (Ae lo 117 (BU v l o) h) λv l=>eS 6 v λv o e=>Aj 1 (l ++ [.rows 1 50 false [BU v o e]]) (.sl 1 (some (l.length,0)) 1 (some 1)) λE=>CC lo 50 1 24 (.sl 1 A i u) E (l ++ [.rows 1 50 false [BU v o e]]) λv l=>eS 1 v λv o e=>Dd lo a n s y (AD (x+1)) w q j B g C G a0 H D J a1 P c0 F z t b m c d k p v o e f l))) (some ((Bl z t b m c d k p A i u f),h)) :=
 lE
theorem I2 (hk:(Ak (Ae lo 119 (Cj a n c) h) λv l=>eS 2 v λv o s=>Ak (Ae lo 118 (Cj v o s) l) λv l=>eS 2 v λv o s=>some ((At v o s),l))=some r) :
  Ae lo 72 [At a n c] h=some r :=
 eK Tryz.func72 hk
def EZ lo f x a n c b m p h:=
 LA 74 Tryz.f74 221311 0 111 lo ⟨[(2,.lp 2 0),(3,.lp 3 0),(4,.bool f),(5,Iv x)],[(2,(Cj a n c)),(3,(Cj b m p))],h⟩
theorem EZ.e :
  EZ lo f x a n c b m p h=br (decide (x<(n:Int))) (Av x n (eO a λv=>eO (ld h v.1 (v.2+x.toNat) 0 1) λv=>eC v λv l=>eS 6 v λv o s=>eN l (Av x m (eO b λl=>eO (ld h l.1 (l.2+x.toNat) 0 1) λl=>eC l λl y=>eS 6 l λl z u=>eN y (Ak (Ae lo 120 [Di v o s,Di l z u] h) λv l=>eB v (Av x n (eO a λv=>eO (ld l v.1 (v.2+x.toNat) 1 1) λv=>eC v λv o=>eN o (eS 6 v λv o s=>Av x m (eO b λy=>eO (ld l y.1 (y.2+x.toNat) 1 1) λy=>eC y λy z=>eN z (eS 6 y λy z u=>Ak (Ae lo 19 (KW v o s y z u) l) λv o=>eB v (EZ lo f (AD (x+1)) a n c b m p o) (Bv o)))))) (Bv l)))))) (Em h) :=
 lE
def Cx lo x y z n a m c k b i p j d g u G e H s J A P C n0 B n1 D n2 a0 n3 c0 n4 a1 n5 c1 h:=
 LA 75 Tryz.f75 221311 0 111 lo ⟨[(0,Iv x),(1,Iv y),(4,.lp 4 0),(5,.lp 5 0),(6,Iv z)],[(4,[.sl n a m c,.sl k b i p,.sl j d g u,.sl G e H s]),(5,[.sl J A P C,.sl n0 B n1 D,.sl n2 a0 n3 c0,.sl n4 a1 n5 c1])],h⟩
def Cw lo x y n a m c k b i p j d g u G e H s J A P C n0 B n1 D n2 a0 n3 c0 n4 a1 n5 c1 h:=
 LA 75 Tryz.f75 2213111 2 1111 lo ⟨[(1,Iv x),(4,.lp 4 0),(5,.lp 5 0),(7,Iv y)],[(4,[.sl n a m c,.sl k b i p,.sl j d g u,.sl G e H s]),(5,[.sl J A P C,.sl n0 B n1 D,.sl n2 a0 n3 c0,.sl n4 a1 n5 c1])],h⟩
theorem PE (hk:(Cx lo x y 0 0 none 0 (some 0) 0 none 0 (some 0) 0 none 0 (some 0) 0 none 0 (some 0) 0 none 0 (some 0) 0 none 0 (some 0) 0 none 0 (some 0) 0 none 0 (some 0) h)=some r) :
  Ae lo 75 (BJ x y) h=some r :=
 eK Tryz.func75 hk
theorem Cx.e {lo n m k i j g G H J P n0 n1 n2 n3 n4 n5:Nat}{y z x:Int}{a b d A B a0 a1 a2:Pq}{c p u s C D c0 c1:Nq}{h:Heap} :
  Cx lo y z x n a m c k b i p j d g u G A H s J B P C n0 a0 n1 D n2 a1 n3 c0 n4 a2 n5 c1 h=br (decide (x<3)) (Ak (Ae lo 121 (BJ x y) h) λv l=>eA v λv=>eC v λv o=>eI .i64 v λv=>eC o λo w=>eI .i64 o λo=>eC w λw q=>eS 2 w λw t e=>eC q λq f=>eS 6 q λq E K=>eC f λf L=>eS 1 f λf M N=>eC L λL O=>eBv L λL=>eN O (Aj 6 (l ++ [.rows 6 60 false [CN v o w t e q E K f M N L]]) (.sl 6 (some (l.length,0)) 1 (some 1)) λO=>CC lo 60 6 96 (.sl J B P C) O (l ++ [.rows 6 60 false [CN v o w t e q E K f M N L]]) λv l=>eS 6 v λv o w=>Cx lo y z (AD (x+1)) n a m c k b i p j d g u G A H s 6 v o w n0 a0 n1 D n2 a1 n3 c0 n4 a2 n5 c1 l)) (Cw lo z 0 n a m c k b i p j d g u G A H s J B P C n0 a0 n1 D n2 a1 n3 c0 n4 a2 n5 c1 h) :=
 lE
theorem Cw.e {n4 n5:Nat} :
  Cw lo y x J B P C n0 a0 n1 D n2 a1 n3 c0 n4 a2 n5 c1 n a m c k b i p j d g u G A H s h=br (decide (x<y)) (Ak (Ae lo 122 [] h) λv l=>eA v λv=>eC v λv o=>eS 2 v λv z w=>eN o (Aj 5 (l ++ [.rows 5 72 false [KV (x.tmod (3:Int)) v z w 0 0 0]]) (.sl 5 (some (l.length,0)) 1 (some 1)) λo=>CC lo 72 5 56 (.sl k b i p) o (l ++ [.rows 5 72 false [KV (x.tmod (3:Int)) v z w 0 0 0]]) λv l=>eS 5 v λv o z=>Cw lo y (AD (x+1)) J B P C n0 a0 n1 D n2 a1 n3 c0 n4 a2 n5 c1 n a m c 5 v o z j d g u G A H s l)) (some (.agg [.sl n a m c,.sl k b i p,.sl j d g u,.sl G A H s],h)) :=
 lE
theorem Rk {e:Pq}{S:ByteArray} (hk:(Ak (Ae lo 41 (CG x 1 5) h) λv l=>eB v (Ak (Ae lo 123 [Al a n c b m p d k u e i s,BF x y z t S f] l) λv o=>eU v λv=>eC v λv w=>eA v λv=>eC v λv q=>eS 6 v λv g j=>eC q λq A=>eS 5 q λq B C=>eC A λA D=>eS 9 A λA E G=>eC D λD H=>eS 5 D λD J K=>eN H (eC w λw H=>eB w (eN H (some (.tup [Al v g j q B C A E G D J K,.bool true],o))) (eN H (some (.tup [Al v g j q B C A E G D J K,.bool false],o))))) (Ak (Ae lo 41 (CG x 6 9) l) λv l=>eB v (Ak (Ae lo 124 [Al a n c b m p d k u e i s,BF x y z t S f] l) λv o=>eU v λv=>eC v λv w=>eA v λv=>eC v λv q=>eS 6 v λv g j=>eC q λq A=>eS 5 q λq B C=>eC A λA D=>eS 9 A λA E G=>eC D λD H=>eS 5 D λD J K=>eN H (eC w λw H=>eB w (eN H (some (.tup [Al v g j q B C A E G D J K,.bool true],o))) (eN H (some (.tup [Al v g j q B C A E G D J K,.bool false],o))))) (Ak (Ae lo 41 (CG x 10 13) l) λv l=>eB v (Ak (Ae lo 125 [Al a n c b m p d k u e i s,BF x y z t S f] l) λv o=>eU v λv=>eC v λv w=>eA v λv=>eC v λv q=>eS 6 v λv g j=>eC q λq A=>eS 5 q λq B C=>eC A λA D=>eS 9 A λA E G=>eC D λD H=>eS 5 D λD J K=>eN H (eC w λw H=>eB w (eN H (some (.tup [Al v g j q B C A E G D J K,.bool true],o))) (eN H (some (.tup [Al v g j q B C A E G D J K,.bool false],o))))) (some (.tup [Al a n c b m p d k u e i s,.bool false],l)))))=some r) :
  Ae lo 76 [Al a n c b m p d k u e i s,BF x y z t S f] h=some r :=
 eK Tryz.func76 hk
def Cz lo x y a n c z t h:=
 LA 77 Tryz.f77 221311 0 111 lo ⟨[(2,Iv x),(3,Iv y),(6,.sl 1 a n c),(7,Iv z),(8,Iv t)],[],h⟩
theorem PR (hk:(Cz h.length 0 0 a n c (n:Int) 0 h)=some (v,h')) (hn:noId v=true:=by rfl) :
  Ae lo 77 [.sl 1 a n c] h=some (v,h) :=
 eD Tryz.func77 hk hn
theorem Cz.e :
  Cz lo t y a n c z x h=br (decide (x<z)) (Av x n (eO a λv=>eO (ld h v.1 (v.2+x.toNat) 0 1) λv=>eC v λv l=>eN l (eI .i64 v λv=>br (v==y) (Cz lo t y a n c z (AD (x+1)) h) (some (Iv v,h))))) (some (Iv y,h)) :=
 lE
theorem JN (hk:(Ak (Ae h.length 126 (AI y) h) λl c=>eB l (Ak (Ae h.length 126 (AI x) c) λl n=>eB l (some (Iv 0,n)) (some (Iv (-1),n))) (Ak (Ae h.length 126 (AI x) c) λl c=>eB l (some (Iv 1,c)) (br (decide (y<x)) (some (Iv (-1),c)) (br (decide (y>x)) (some (Iv 1,c)) (some (Iv 0,c))))))=some (v,h')) (hn:noId v=true:=by rfl) :
  Ae lo 78 (BJ y x) h=some (v,h) :=
 eD Tryz.func78 hk hn
def D5 lo f a n c x y b m p d k u e i s h:=
 LA 84 Tryz.f84 221311 0 111 lo ⟨[(2,.lp 2 0),(4,.bool f),(5,.lp 5 0),(11,.sl 6 a n c),(12,Iv x),(13,Iv y)],[(2,(KW b m p d k u)),(5,(BU e i s))],h⟩
theorem D5.e {lo m k i n:Nat}{f:Bool}{b d A a:Pq}{u p s c:Nq}{y x:Int}{h:Heap} :
  D5 lo f b m u y x d k p A i s a n c h=br (decide (x<y)) (Av x m (eO b λv=>eO (ld h v.1 (v.2+x.toNat) 0 6) λv=>eC v λv l=>eI .i64 v λv=>eC l λl o=>eI .i64 l λl=>eC o λo z=>eI .i64 o λo=>eC z λz w=>eS 2 z λz q g=>eC w λw j=>eT w λw=>eC j λj t=>eBv j λj=>eN t (Ak (Ae lo 130 [Di a n c,A3 v l o z q g w j] h) λt e=>eB t (Av v n (eO a λt=>eO (st lo e t.1 (t.2+v.toNat) 0 (CS v l o z q g w j)) λv=>D5 lo f b m u y (AD (x+1)) d k p A i s a n c v)) (Bv e)))) (Ak (Ae lo 131 [Di a n c,Di d k p] h) λv l=>eB v (Em l) (Bv l)) :=
 lE
def E1 lo n m k f a i c x y b j p h:=
 LA 85 Tryz.f85 2213111 0 1111 lo ⟨[(1,(CF n m k)),(2,.bool f),(3,.lp 3 0),(45,.sl 2 a i c),(46,Iv x),(47,Iv y)],[(3,(Cj b j p))],h⟩
def BN lo n m k f x a i c y z b j p t w d g u h:=
 Lp (X 85) lo (pf 221123112213111 Tryz.f85) 2 (Bx 2 (Bx 1 (kS (X 85) lo (pf 1112213111 Tryz.f85) 0 (Wa (X 85) lo (pf 2213111 Tryz.f85) 0 (Bx 0 (kS (X 85) lo (pf 1111 Tryz.f85) 0 (Js (X 85) Tryz.f85.results.toList))))))) ⟨[(1,(CF n m k)),(2,.bool f),(3,.lp 3 0),(4,Iv x),(45,.sl 2 a i c),(46,Iv y),(47,Iv z),(58,.sl 6 b j p),(59,Iv t),(60,Iv w)],[(3,(Cj d g u))],h⟩
def CQ lo n m k f a i c x y h:=
 LA 85 Tryz.f85 22131111 4 11111 lo ⟨[(1,(CF n m k)),(2,.bool f),(90,.sl 1 a i c),(91,Iv x),(92,Iv y)],[],h⟩
theorem E1.e :
  E1 lo n m k f a i c y x b j p h=br (decide (x<y)) (Av x i (eO a λv=>eO (ld h v.1 (v.2+x.toNat) 0 2) λv=>eC v λv l=>eS 6 v λv o s=>eC l λl z=>eS 6 l λl u w=>eN z (Ak (Ae lo 133 [.sl 1 (some (h.length,0)) 2 (some 2)] (h ++ [.rows 1 50 false [BU v o s,BU l u w]])) λv l=>eS 6 v λv o s=>BN lo n m k f x a i c y x v o s (o:Int) 0 b j p l))) (eO (ld h n m (k+4) 1) λv=>eC v λv l=>eN l (eS 1 v λv l o=>CQ lo n m k f v l o (l:Int) 0 h)) :=
 lE
theorem BN.e {lo n m k j g i:Nat}{f:Bool}{y z t w x:Int}{b d a:Pq}{p u c:Nq}{h:Heap} :
  BN lo n m k f y b j p z t d g u w x a i c h=br (decide (x<w)) (Av x g (eO d λv=>eO (ld h v.1 (v.2+x.toNat) 0 6) λv=>eC v λv l=>eI .i64 v λv=>eC l λv l=>eI .i64 v λv=>eC l λl o=>eI .i64 l λl=>eC o λo s=>eS 2 o λo q e=>eC s λs A=>eT s λs=>eC A λs A=>eBv s λs=>eN A (br ((v==0)&&((l==0)&&true)) (br (y==0) (eO (ld h n m (k+1) 1) λl=>eC l λl s=>eN s (eI .i64 l λl=>br (decide (v>l)) (Bv h) (BN lo n m k f y b j p z t d g u w (AD (x+1)) a i c h))) (BN lo n m k f y b j p z t d g u w (AD (x+1)) a i c h)) (Ak (Ae lo 45 [At o q e,At a i c] h) λl o=>eB l (br (y==0) (eO (ld o n m (k+1) 1) λl=>eC l λl s=>eN s (eI .i64 l λl=>br (decide (v>l)) (Bv o) (BN lo n m k f y b j p z t d g u w (AD (x+1)) a i c o))) (BN lo n m k f y b j p z t d g u w (AD (x+1)) a i c o)) (Bv o))))) (E1 lo n m k f b j p z (AD (t+1)) a i c h) :=
 lE
theorem CQ.e :
  CQ lo n m k f a i c y x h=br (decide (x<y)) (Av x i (eO a λv=>eO (ld h v.1 (v.2+x.toNat) 0 1) λv=>eC v λv l=>eN l (eS 6 v λv l o=>Ak (Ae lo 132 [.sl 6 v l o,Iv x] h) λv o=>eB v (eO (ld o n m (k+0) 1) λv=>eC v λv s=>eN s (eI .i64 v λv=>br (x==v) (br (decide ((l:Int)>0)) (Bv o) (CQ lo n m k f a i c y (AD (x+1)) o)) (CQ lo n m k f a i c y (AD (x+1)) o))) (Bv o)))) (Em h) :=
 lE
def A6 lo a n c m l x y z h:=
 LA 94 Tryz.f94 22131 0 11 lo ⟨[(0,.sl 6 a n c),(1,.fn m l),(4,Iv x),(7,Iv y),(8,Iv z)],[],h⟩
theorem A6.e :
  A6 lo a n c m l z y x h=br (decide (x<y)) (Av x n (eO a λv=>eO (ld h v.1 (v.2+x.toNat) 0 6) λv=>eC v λv o=>eI .i64 v λv=>eC o λo s=>eI .i64 o λo=>eC s λs b=>eI .i64 s λs=>eC b λb u=>eS 2 b λb w p=>eC u λu q=>eT u λu=>eC q λq g=>eBv q λq=>eN g (Ak (Ae lo m (Db [A3 v o s b w p u q] l) h) λv o=>eB v (some (Iv x,o)) (A6 lo a n c m l z y (AD (x+1)) o)))) (some (Iv (-1),h)) :=
 lE
theorem Lb (hk:(Ak (Ae lo 32 [CF n m k] h) λv l=>eU v λv=>eC v λv c=>eI .i64 v λv=>eC c λc a=>eI .i64 c λc=>eC a λa o=>eS 6 a λa s b=>eN o (Ak (Ae lo 42 [Iv v,Iv c,.sl 6 a s b] l) λv l=>eA v λv=>eC v λv c=>eS 6 v λv a o=>eC c λc s=>eS 5 c λc b x=>eC s λs y=>eS 9 s λs z u=>eC y λy w=>eS 5 y λy p q=>eN w (Ak (Ae lo 138 [Al v a o c b x s z u y p q] l) λv l=>eA v λv=>eC v λv c=>eS 6 v λv a o=>eC c λc s=>eS 5 c λc b x=>eC s λs y=>eS 9 s λs z u=>eC y λy w=>eS 5 y λy p q=>eN w (some ((Al v a o c b x s z u y p q),l)))))=some r) :
  Ae lo 95 [CF n m k] h=some r :=
 eK Tryz.func95 hk
theorem Kr (hk:(Ak (Ae lo 33 [CF n m k,Iv 8] h) λv l=>eI .i64 v λv=>br (v==0) (Ak (Ae lo 34 [CF n m k,.sl 1 (some (l.length,0)) 4 (some 4)] (l ++ [.rows 1 3 false [AI 0,AI (-1),AI 1000,AI 999]])) λv c=>eI .i64 v λv=>Ak (Ae lo 34 [CF n m k,.sl 1 (some (c.length,0)) 4 (some 4)] (c ++ [.rows 1 3 false [AI 0,AI 1,AI 3,AI (-1)]])) λc a=>eI .i64 c λc=>some ((An v c),a)) (Ak (Ae lo 139 [CF n m k] l) λv l=>eA v λv=>eC v λv c=>eI .i64 v λv=>eC c λc a=>eI .i64 c λc=>eN a (some ((An v c),l))))=some r) :
  Ae lo 96 [CF n m k] h=some r :=
 eK Tryz.func96 hk
def Ar lo a n c m l x y z h:=
 LA 97 Tryz.f97 22131 0 11 lo ⟨[(0,.sl 5 a n c),(1,.fn m l),(4,Iv x),(7,Iv y),(8,Iv z)],[],h⟩
theorem Dz (hk:(Ar h.length a n c m l 0 (n:Int) 0 h)=some (v,h')) (hn:noId v=true:=by rfl) :
  Ae lo 97 [.sl 5 a n c,.fn m l] h=some (v,h) :=
 eD Tryz.func97 hk hn
theorem Ar.e :
  Ar lo a n c m l z y x h=br (decide (x<y)) (Av x n (eO a λv=>eO (ld h v.1 (v.2+x.toNat) 0 5) λv=>eC v λv o=>eI .i64 v λv=>eC o λo s=>eI .i64 o λo=>eC s λs b=>eI .i64 s λs=>eC b λb u=>eI .i64 b λb=>eC u λu w=>eI .i64 u λu=>eN w (Ak (Ae lo m (Db [Og v o s b u] l) h) λv o=>eB v (some (Iv x,o)) (Ar lo a n c m l z y (AD (x+1)) o)))) (some (Iv (-1),h)) :=
 lE
theorem MP (hk:(Ak (Ae h.length 56 (CG x 0 2) h) λl c=>eB l (Em c) (Bv c))=some (v,h')) (hn:noId v=true:=by rfl) :
  Ae lo 98 (AI x) h=some (v,h) :=
 eD Tryz.func98 hk hn
theorem MN (hk:(br ((x==0)&&((y==0)&&true)) (Em h) (Ak (Ae h.length 41 (CG x 1 999) h) λl c=>eB l (Ak (Ae h.length 41 (CG y 0 2) c) λl n=>eB l (Em n) (Bv n)) (Bv c)))=some (v,h')) (hn:noId v=true:=by rfl) :
  Ae lo 99 [An x y] h=some (v,h) :=
 eD Tryz.func99 hk hn
def A8 lo x a n c y z h:=
 LA 100 Tryz.f100 221311 0 111 lo ⟨[(3,Iv x),(7,.sl 2 a n c),(8,Iv y),(9,Iv z)],[],h⟩
theorem I1 (hk:(A8 h.length 0 a n c (n:Int) 0 h)=some (v,h')) (hn:noId v=true:=by rfl) :
  Ae lo 100 [At a n c] h=some (v,h) :=
 eD Tryz.func100 hk hn
theorem A8.e :
  A8 lo y a n c z x h=br (decide (x<z)) (Av x n (eO a λv=>eO (ld h v.1 (v.2+x.toNat) 0 2) λv=>eC v λv l=>eI .i64 v λv=>eC l λl o=>eI .i64 l λl=>eN o (A8 lo (if v>y then v else y) a n c z (AD (x+1)) h))) (some (Iv y,h)) :=
 lE
def Bs lo a n c x y m b k p d i u h:=
 LA 101 Tryz.f101 221311 0 111 lo ⟨[(4,.lp 4 0),(5,.lp 5 0),(11,.sl 2 a n c),(12,Iv x),(13,Iv y)],[(4,[.sl m b k p]),(5,(Cj d i u))],h⟩
theorem Kt (hk:(Ak (Ae lo 72 [At a m c] h) λv l=>eA v λv=>eC v λv o=>eS 2 v λv s x=>eN o (Bs lo b n p (n:Int) 0 0 none 0 (some 0) v s x l))=some r) :
  Ae lo 101 [At a m c,At b n p] h=some r :=
 eK Tryz.func101 hk
theorem Bs.e :
  Bs lo b m p y x k d i u a n c h=br (decide (x<y)) (Av x m (eO b λv=>eO (ld h v.1 (v.2+x.toNat) 0 2) λv=>eC v λv l=>eI .i64 v λv=>eC l λl o=>eI .i64 l λl=>eN o (Av x n (eO a λo=>eO (ld h o.1 (o.2+x.toNat) 0 2) λo=>eC o λo s=>eI .i64 o λo=>eC s λs z=>eI .i64 s λs=>eN z (Ak (Ae lo 140 [An o s,An v l] h) λv l=>eA v λv=>eC v λv o=>eI .i64 v λv=>eC o λo s=>eI .i64 o λo=>eN s (Av x n (eO a λs=>eO (st lo l s.1 (s.2+x.toNat) 0 (BJ v o)) λv=>Bs lo b m p y (AD (x+1)) k d i u a n c v))))))) (some ((At a n c),h)) :=
 lE
theorem Ks (hk:(Ak (Ae lo 72 [At a n c] h) λv l=>eA v λv=>eC v λv o=>eS 2 v λv s b=>eN o (Av x s (eO v λo=>eO (ld l o.1 (o.2+x.toNat) 0 2) λo=>eC o λo u=>eI .i64 o λo=>eC u λu w=>eI .i64 u λu=>eN w (Ak (Ae lo 140 [An o u,An y z] l) λl o=>eA l λl=>eC l λl u=>eI .i64 l λl=>eC u λu w=>eI .i64 u λu=>eN w (Av x s (eO v λw=>eO (st lo o w.1 (w.2+x.toNat) 0 (BJ l u)) λl=>some ((At v s b),l)))))))=some r) :
  Ae lo 102 [At a n c,Iv x,An y z] h=some r :=
 eK Tryz.func102 hk
theorem Ld {e:Pq} (hk:(Ak (Ae lo 33 [CF n m k,Iv 3] h) λv l=>eI .i64 v λv=>Ak (Ae lo 33 [CF n m k,Iv 20] l) λl o=>eI .i64 l λl=>br (l==0) (Ak (Ae lo 33 [CF n m k,Iv 4] o) λx y=>eI .i64 x λx=>Ak (Ae lo 33 [CF n m k,Iv 4] y) λy z=>eI .i64 y λy=>Ak (Ae lo 141 [CF n m k] z) λz w=>eT z λz=>some ((BF 1 x 0 y z false),w)) (br (l==1) (Ak (Ae lo 33 [CF n m k,Iv 4] o) λx y=>eI .i64 x λx=>Ak (Ae lo 33 [CF n m k,Iv 4] y) λy z=>eI .i64 y λy=>Ak (Ae lo 141 [CF n m k] z) λz w=>eT z λz=>some ((BF 1 x 0 y z false),w)) (br (l==2) (Ak (Ae lo 33 [CF n m k,Iv 4] o) λx y=>eI .i64 x λx=>Ak (Ae lo 33 [CF n m k,Iv 4] y) λy z=>eI .i64 y λy=>Ak (Ae lo 141 [CF n m k] z) λz w=>eT z λz=>some ((BF 1 x 0 y z false),w)) (br (l==3) (Ak (Ae lo 33 [CF n m k,Iv 4] o) λx y=>eI .i64 x λx=>Ak (Ae lo 33 [CF n m k,Iv 4] y) λy z=>eI .i64 y λy=>some ((BF 1 x 0 y ⟨⟨[]⟩⟩ true),z)) (br (l==4) (Ak (Ae lo 33 [CF n m k,Iv 4] o) λx y=>eI .i64 x λx=>some ((BF 2 x 0 0 ⟨⟨[]⟩⟩ false),y)) (br (l==5) (Ak (Ae lo 33 [CF n m k,Iv 4] o) λx y=>eI .i64 x λx=>some ((BF 2 x 0 0 ⟨⟨[]⟩⟩ false),y)) (br (l==6) (Ak (Ae lo 33 [CF n m k,Iv 4] o) λx y=>eI .i64 x λx=>some ((BF 2 x 0 0 ⟨⟨[]⟩⟩ false),y)) (br (l==7) (Ak (Ae lo 33 [CF n m k,Iv 4] o) λx y=>eI .i64 x λx=>Ak (Ae lo 33 [CF n m k,Iv 4] y) λy z=>eI .i64 y λy=>Ak (Ae lo 33 [CF n m k,Iv 4] z) λz w=>eI .i64 z λz=>some ((BF 3 x y z ⟨⟨[]⟩⟩ false),w)) (br (l==8) (Ak (Ae lo 33 [CF n m k,Iv 4] o) λx y=>eI .i64 x λx=>Ak (Ae lo 33 [CF n m k,Iv 4] y) λy z=>eI .i64 y λy=>Ak (Ae lo 33 [CF n m k,Iv 4] z) λz w=>eI .i64 z λz=>some ((BF 3 x y z ⟨⟨[]⟩⟩ false),w)) (br (l==9) (Ak (Ae lo 33 [CF n m k,Iv 4] o) λx y=>eI .i64 x λx=>Ak (Ae lo 33 [CF n m k,Iv 4] y) λy z=>eI .i64 y λy=>Ak (Ae lo 33 [CF n m k,Iv 4] z) λz w=>eI .i64 z λz=>some ((BF 3 x y z ⟨⟨[]⟩⟩ false),w)) (br (l==10) (Ak (Ae lo 34 [CF n m k,.sl 1 (some (o.length,0)) 2 (some 2)] (o ++ [.rows 1 3 false [AI 4,AI 5]])) λx y=>eI .i64 x λx=>Ak (Ae lo 33 [CF n m k,Iv 4] y) λy z=>eI .i64 y λy=>Ak (Ae lo 33 [CF n m k,Iv 3] z) λz w=>eI .i64 z λz=>some ((BF x y z 0 ⟨⟨[]⟩⟩ false),w)) (br (l==11) (Ak (Ae lo 34 [CF n m k,.sl 1 (some (o.length,0)) 4 (some 4)] (o ++ [.rows 1 3 false [AI 0,AI 0,AI 1,AI 2]])) λx y=>eI .i64 x λx=>some ((BF 6 v x 0 ⟨⟨[]⟩⟩ false),y)) (br (l==12) (Ak (Ae lo 34 [CF n m k,.sl 1 (some (o.length,0)) 4 (some 4)] (o ++ [.rows 1 3 false [AI 0,AI 0,AI 1,AI 2]])) λx y=>eI .i64 x λx=>some ((BF 6 v x 0 ⟨⟨[]⟩⟩ false),y)) (br (l==13) (Ak (Ae lo 34 [CF n m k,.sl 1 (some (o.length,0)) 4 (some 4)] (o ++ [.rows 1 3 false [AI 0,AI 0,AI 1,AI 2]])) λx y=>eI .i64 x λx=>some ((BF 6 v x 0 ⟨⟨[]⟩⟩ false),y)) (br (l==14) (Ak (Ae lo 34 [CF n m k,.sl 1 (some (o.length,0)) 2 (some 2)] (o ++ [.rows 1 3 false [AI 7,AI 8]])) λx y=>eI .i64 x λx=>Ak (Ae lo 33 [CF n m k,Iv 4] y) λy z=>eI .i64 y λy=>some ((BF x v y 0 ⟨⟨[]⟩⟩ false),z)) (br (l==15) (Ak (Ae lo 33 [CF n m k,Iv 3] o) λx y=>eI .i64 x λx=>some ((BF 9 v x 0 ⟨⟨[]⟩⟩ false),y)) (br (l==16) (Ak (Ae lo 33 [CF n m k,Iv 3] o) λx y=>eI .i64 x λx=>some ((BF 9 v x 0 ⟨⟨[]⟩⟩ false),y)) (br (l==17) (Ak (Ae lo 33 [CF n m k,Iv 3] o) λx y=>eI .i64 x λx=>Av x i (eO a λz=>eO (ld y z.1 (z.2+x.toNat) 4 1) λz=>eC z λz w=>eN w (eS 1 z λz w q=>Av v w (eO z λz=>eO (ld y z.1 (z.2+v.toNat) 0 1) λz=>eC z λz w=>eN w (eS 6 z λz z w=>some ((BF 10 v x (z:Int) ⟨⟨[]⟩⟩ false),y)))))) (br (l==18) (Ak (Ae lo 33 [CF n m k,Iv 3] o) λl x=>eI .i64 l λl=>Av l i (eO a λy=>eO (ld x y.1 (y.2+l.toNat) 4 1) λy=>eC y λy z=>eN z (eS 1 y λy z w=>Av v z (eO y λy=>eO (ld x y.1 (y.2+v.toNat) 0 1) λy=>eC y λy z=>eN z (eS 6 y λy y z=>some ((BF 10 v l (y:Int) ⟨⟨[]⟩⟩ false),x)))))) (Ak (Ae lo 34 [CF n m k,.sl 1 (some (o.length,0)) 7 (some 7)] (o ++ [.rows 1 3 false [AI 11,AI 11,AI 11,AI 12,AI 13,AI 0,AI 14]])) λv l=>eI .i64 v λv=>Ak (Ae lo 33 [CF n m k,Iv 3] l) λl o=>eI .i64 l λl=>some ((BF v l 0 0 ⟨⟨[]⟩⟩ false),o)))))))))))))))))))))=some r) :
  Ae lo 103 [CF n m k,Al a i c b j p d g u e G s] h=some r :=
 eK Tryz.func103 hk
def ED lo x y n a m c b k p h:=
 LA 104 Tryz.f104 2213111 0 1111 lo ⟨[(2,.lp 2 0),(3,.lp 3 0),(11,Iv x),(12,Iv y)],[(2,[.sl n a m c]),(3,(Cj b k p))],h⟩
theorem ED.e :
  ED lo x y m b k p a n c h=br (decide (y<x)) (Ak (Ae lo 142 [] h) λv l=>eA v λv=>eC v λv o=>eS 6 v λv s z=>eN o (Aj 2 (l ++ [.rows 2 54 false [[.sl 6 v s z,.sl 0 none 0 (some 0)]]]) (.sl 2 (some (l.length,0)) 1 (some 1)) λo=>CC lo 54 2 48 (.sl 2 a n c) o (l ++ [.rows 2 54 false [[.sl 6 v s z,.sl 0 none 0 (some 0)]]]) λv l=>eS 2 v λv o s=>ED lo x (AD (y+1)) m b k p v o s l)) (some ((At a n c),h)) :=
 lE
end
end Go.Proofs.YtmdgiekbejjjgaaGreat
