/- Part 1 of what is shown for the law Gp, whatever the input; no condition of its own. -/
import Derived.Test.YtmgopagfoemomaaGreatBGp0
set_option linter.unusedVariables false
set_option linter.unusedSimpArgs false
set_option linter.unnecessarySimpa false
set_option maxRecDepth 100000
namespace Go.Proofs.YtmgopagfoemomaaGreat.T
open Go
variable {v:V}{σ1:St}{x:Operand}
section
variable {R:Type}{X:Ctx}{lo lo':Nat}{d:Option Nat}{ty:TypeId}{o:Op}{s s':List (Nat×V)}{bx bx':List (Nat×List V)}{h h':Heap}{K:V->St->Option R}
theorem LU:∀ {xs:List Operand},(∀ x∈xs,ev s' x=ev s x)->Oh s' xs=Oh s xs
 | [],_=>rfl
 | x :: xs,hx=>by simp only[Oh];rw[hx x (by simp),LU λy hy=>hx y (by simp[hy])]
theorem OO:∀ {xs:List (Nat×Operand)},(∀ x∈xs,ev s' x.2=ev s x.2)->Uc s' xs=Uc s xs
 | [],_=>rfl
 | (i,x) :: xs,hx=>by simp only[Uc];rw[hx (i,x) (by simp),OO λy hy=>hx y (by simp[hy])]
theorem OP {x:Option Operand} (hx:∀ y∈x.toList,ev s' y=ev s y):zbh s' x=zbh s x:=by
 cases x with
 | none=>rfl
 | some x=>simp only[zbh];rw[hx x (by simp)]
theorem Y8 (hx:∀ x∈o.operands.toList,ev s' x=ev s x):opT X lo d ty o ⟨s',bx,h⟩ K=opT X lo d ty o ⟨s,bx,h⟩ λv σ=>K v ⟨s',σ.bx,σ.h⟩:=by
 cases o<;>simp only[Op.operands] at hx<;>simp only[opT]
 case move x=>rw[hx x (by simp)]
 case assign x=>rw[hx x (by simp)]
 case pick c x y=>rw[hx c (by simp),hx x (by simp),hx y (by simp)]
 case box e x=>rw[hx x (by simp)]
 case build t ps=>rw[OO λx hm=>hx x.2 (by simp;exact ⟨x.1,by simpa using hm⟩)]
 case buildSlice t n ps=>rw[OO λx hm=>hx x.2 (by simp;exact ⟨x.1,by simpa using hm⟩)]
 case load t x=>rw[hx x (by simp)]
 case store t x y=>rw[hx x (by simp),hx y (by simp)]
 case nilCheck x=>rw[hx x (by simp)]
 case binOp op t x y u=>rw[hx x (by simp),hx y (by simp)]
 case unOp op t x=>rw[hx x (by simp)]
 case convert u t x=>rw[hx x (by simp)]
 case makeFunc f fs cs =>
  have h2:Oh s' fs.toList=Oh s fs.toList:=LU λx hm=>hx x (by simp at hm ⊢;exact .inl hm);rw[LU (xs:=cs.toList) λx hm=>hx x (by simp at hm ⊢;exact .inr hm)];cases hfs:fs.toList with
  | nil=>cases f<;>rfl
  | cons x xs=>rw[hfs] at h2;cases f<;>simp only[h2]
 case makeSlice t l c=>rw[hx l (by simp),hx c (by simp)]
 case slice t x l hi m =>rw[hx x (by simp),OP (x:=l) λy hy=>hx y (by simp at hy ⊢;simp[hy]),OP (x:=hi) λy hy=>hx y (by simp at hy ⊢;simp[hy]),OP (x:=m) λy hy=>hx y (by simp at hy ⊢;simp[hy])]
 case fieldAddr t x f=>rw[hx x (by simp)]
 case field t x f=>rw[hx x (by simp)]
 case indexAddr t x i=>rw[hx x (by simp),hx i (by simp)]
 case index t x i=>rw[hx x (by simp),hx i (by simp)]
 case lookup t m i ok=>rw[hx m (by simp),hx i (by simp)]
 case mapUpdate t m i x=>rw[hx m (by simp),hx i (by simp),hx x (by simp)]
 case insert t m i x=>rw[hx m (by simp),hx i (by simp),hx x (by simp)]
 case extract x i=>rw[hx x (by simp)]
 case call c =>
  have h1:Oh s' c.args.toList=Oh s c.args.toList:=LU λx hm=>hx x (by simp[Call.operands] at hm ⊢;simp[hm]);rw[h1];split
  ·split
   ·rename_i f hc
    rw[hx f (by simp[Call.operands,hc])]
   ·rfl
   ·rfl
  ·rfl
theorem IH (hx:∀ x∈o.operands.toList,ev s' x=ev s x) (hs:AJ X lo d ty o ⟨s,bx,h⟩=some (v,σ1)):AJ X lo d ty o ⟨s',bx,h⟩=some (v,⟨s',σ1.bx,σ1.h⟩):=by unfold AJ at hs ⊢;rw[Y8 hx,I1];unfold AJ;rw[hs];rfl
theorem Nf (hs:AJ X lo d ty o ⟨s,bx,h⟩=some (v,σ1)):σ1.s=s:=by have:=IH (λx _=>rfl) hs;rw[hs] at this;injection this with this;injection this with _ this;rw[this]
theorem Y9 (hw:X.wide=false) {o:Oper} (hi:EF o=true):opT X lo d ty o.op ⟨s,bx,h⟩ K=opT X lo' d ty o.op ⟨s,bx',h'⟩ λv _=>K v ⟨s,bx,h⟩:=by
 obtain ⟨dst,op,ty',pos,after,guard⟩:=o;cases op<;>simp only[EF] at hi<;>(try cases hi)<;>simp only[opT,hw,Jp]
 rename_i c
 split at hi;all_goals (try cases hi)
 all_goals (rename_i hc;rw[hc];split<;>simp only[XY])
theorem QH (hw:X.wide=false) {o:Oper} (hi:EF o=true) (hs:AJ X lo d ty o.op ⟨s,bx,h⟩=some (v,σ1)):σ1.bx=bx/\σ1.h=h/\∀ lo' bx' h',AJ X lo' d ty o.op ⟨s,bx',h'⟩=some (v,⟨s,bx',h'⟩):=by
 have key:∀ lo' bx' h',AJ X lo' d ty o.op ⟨s,bx',h'⟩=some (v,⟨s,bx',h'⟩):=by intro lo' bx' h';unfold AJ at hs ⊢;rw[Y9 hw (lo':=lo) (bx':=bx) (h':=h) hi,I1];unfold AJ;rw[hs];rfl
 have:=key lo bx h;rw[hs] at this;injection this with this;injection this with _ this;exact ⟨by rw[this],by rw[this],key⟩
theorem Tr {t:TypeId} (hs:AJ X lo d ty (.load t x) ⟨s,bx,h⟩=some (v,σ1)):σ1.s=s/\σ1.bx=bx/\σ1.h=h:=by
 unfold AJ at hs;simp only[opT] at hs;split at hs
 ·cases hs
 ·split at hs
  ·split at hs
   ·obtain ⟨cs,_,hs⟩:=AM hs;obtain ⟨y,_,hs⟩:=AM hs;simp only[Option.some.injEq,Prod.mk.injEq] at hs;obtain ⟨_,rfl⟩:=hs;exact ⟨rfl,rfl,rfl⟩
   ·cases hs
  ·have key:opT X lo d ty (.load t x) ⟨s,bx,h⟩ (λv σ=>some (v,σ))=opT X lo d ty (.load t x) ⟨s,bx,h⟩ λv _=>some (v,⟨s,bx,h⟩):=by simp only[opT]
   have hs2:opT X lo d ty (.load t x) ⟨s,bx,h⟩ (λv σ=>some (v,σ))=some (v,σ1):=by simp only[opT];simp_all
   rw[key,I1] at hs2;obtain ⟨p,_,hp⟩:=zem.1 hs2;simp only[Option.some.injEq,Prod.mk.injEq] at hp;obtain ⟨_,rfl⟩:=hp;exact ⟨rfl,rfl,rfl⟩
  ·cases hs
theorem zbo {t:TypeId}{u j:Nat} (hx:ev s x = .lp u j) (hs:AJ X lo d ty (.load t x) ⟨s,bx,h⟩=some (v,σ1)):∃ row,AE bx u=some row /\
  ∀ lo' bx' h',AE bx' u=some row->AJ X lo' d ty (.load t x) ⟨s,bx',h'⟩=some (v,⟨s,bx',h'⟩):=by
 unfold AJ at hs;simp only[opT,hx] at hs;split at hs
 ·cases hs
 ·rename_i hk
  split at hs
  ·rename_i row hrow
   refine ⟨row,hrow,λlo' bx' h' hb=>?_⟩;unfold AJ;simp only[opT,hx,hk,hb];obtain ⟨cs,h1,hs⟩:=AM hs;obtain ⟨y,h2,hs⟩:=AM hs;simp only[Option.some.injEq,Prod.mk.injEq] at hs;obtain ⟨rfl,_⟩:=hs;simp only[h1,h2,eO]
  ·cases hs
theorem Zg {t:TypeId} (hs:AJ X lo d ty (.load t x) ⟨s,bx,h⟩=some (v,σ1)):(∃ u j,ev s x = .lp u j)\/∃ b i j,ev s x = .ptr (some (b,i,j)):=by
 unfold AJ at hs;simp only[opT] at hs;split at hs
 ·cases hs
 ·split at hs
  ·rename_i u j he
   exact .inl ⟨u,j,he⟩
  ·rename_i p he
   obtain ⟨q,rfl,_⟩:=AM hs;obtain ⟨b,i,j⟩:=q;exact .inr ⟨b,i,j,he⟩
  ·cases hs
theorem Z0 {t:TypeId}{b i j:Nat} (hx:ev s x = .ptr (some (b,i,j))) (hs:AJ X lo d ty (.load t x) ⟨s,bx,h⟩=some (v,σ1)):∃ cs,ld h b i j (X.ty t).size=some cs /\
  ∀ lo' bx' h',ld h' b i j (X.ty t).size=some cs->AJ X lo' d ty (.load t x) ⟨s,bx',h'⟩=some (v,⟨s,bx',h'⟩):=by
 unfold AJ at hs;simp only[opT,hx] at hs;split at hs
 ·cases hs
 ·rename_i hk
  obtain ⟨q,hq,hs⟩:=AM hs;injection hq with hq;subst hq;obtain ⟨cs,h1,hs⟩:=AM hs;refine ⟨cs,h1,λlo' bx' h' hb=>?_⟩;have key:∀ σ:St,JT (X.ty t).agg (X.ty t).sh cs (λv=>some (v,σ))=(JT (X.ty t).agg (X.ty t).sh cs some).bind λv=>some (v,σ):=λσ=>by rw[PP];rfl
  unfold AJ;simp only[opT,hx,hk,eO,hb];rw[key] at hs ⊢;obtain ⟨y,h2,hs⟩:=zem.1 hs;simp only[Option.some.injEq,Prod.mk.injEq] at hs;obtain ⟨rfl,_⟩:=hs;rw[h2];rfl
theorem JL {t:TypeId}{y z:Operand}{u j:Nat} (hy:ev s y = .lp u j) (hs:AJ X lo d ty (.store t y z) ⟨s,bx,h⟩=some (v,σ1)):σ1.h=h/\∃ row,σ1.bx=Xa bx u row:=by
 unfold AJ at hs;simp only[opT,hy] at hs;split at hs
 ·split at hs
  ·split at hs
   ·split at hs
    ·simp only[Option.some.injEq,Prod.mk.injEq] at hs;obtain ⟨_,rfl⟩:=hs;exact ⟨rfl,_,rfl⟩
    ·cases hs
   ·cases hs
  ·cases hs
 ·cases hs
theorem K6 {t:TypeId}{y z:Operand}{q:Option (Nat×Nat×Nat)} (hy:ev s y = .ptr q) (hs:AJ X lo d ty (.store t y z) ⟨s,bx,h⟩=some (v,σ1)):σ1.bx=bx:=by
 unfold AJ at hs;simp only[opT,hy] at hs;split at hs
 ·split at hs
  ·obtain ⟨q,_,hs⟩:=AM hs;obtain ⟨b,i,j⟩:=q;obtain ⟨h',_,hs⟩:=AM hs;simp only[Option.some.injEq,Prod.mk.injEq] at hs;obtain ⟨_,rfl⟩:=hs;rfl
  ·cases hs
 ·cases hs
def WF:Op->Bool
 | .alloc _ | .box _ _ | .store _ _ _=>true
 | _=>false
theorem zcy (hb:WF o=false):opT X lo d ty o ⟨s,bx,h⟩ K=opT X lo d ty o ⟨s,bx,h⟩ λv σ=>K v ⟨σ.s,bx,σ.h⟩:=by cases o<;>simp only[WF] at hb<;>(try cases hb)<;>simp only[opT]
theorem zbp (hb:WF o=false) (hs:AJ X lo d ty o ⟨s,bx,h⟩=some (v,σ1)):σ1.bx=bx:=by
 have:AJ X lo d ty o ⟨s,bx,h⟩=some (v,⟨σ1.s,bx,σ1.h⟩):=by have h2:=hs;unfold AJ at h2 ⊢;rw[zcy hb,I1];unfold AJ;rw[h2];rfl
 rw[hs] at this;injection this with this;injection this with _ this;rw[this]
theorem Nd (hs:AJ X lo d ty o ⟨s,bx,h⟩=some (v,σ1)) :
  σ1.bx=bx\/(∃ t row,AE bx t=none/\σ1.bx=(t,row) :: bx)\/((∃ t x y,o = .store t x y)/\∃ u row,σ1.bx=Xa bx u row):=by
 cases hb:WF o with
 | false=>exact .inl (zbp hb hs)
 | true =>
  unfold AJ at hs;cases o<;>simp only[WF] at hb<;>(try cases hb)<;>simp only[opT] at hs
  ·split at hs
   ·cases hs
   ·cases hs
   ·split at hs
    ·simp only[Option.some.injEq,Prod.mk.injEq] at hs;obtain ⟨_,rfl⟩:=hs;exact .inl rfl
    ·split at hs
     ·cases hs
     ·rename_i hl
      simp only[Option.some.injEq,Prod.mk.injEq] at hs;obtain ⟨_,rfl⟩:=hs;exact .inr (.inl ⟨_,_,hl,rfl⟩)
  ·split at hs
   ·cases hs
   ·split at hs
    ·split at hs
     ·split at hs
      ·simp only[Option.some.injEq,Prod.mk.injEq] at hs;obtain ⟨_,rfl⟩:=hs;exact .inl rfl
      ·split at hs
       ·cases hs
       ·rename_i hl
        simp only[Option.some.injEq,Prod.mk.injEq] at hs;obtain ⟨_,rfl⟩:=hs;exact .inr (.inl ⟨_,_,hl,rfl⟩)
     ·cases hs
    ·cases hs
  ·split at hs
   ·split at hs
    ·split at hs
     ·split at hs
      ·split at hs
       ·simp only[Option.some.injEq,Prod.mk.injEq] at hs;obtain ⟨_,rfl⟩:=hs;exact .inr (.inr ⟨⟨_,_,_,rfl⟩,_,_,rfl⟩)
       ·cases hs
      ·cases hs
     ·obtain ⟨q,_,hs⟩:=AM hs;obtain ⟨b,i,j⟩:=q;obtain ⟨h',_,hs⟩:=AM hs;simp only[Option.some.injEq,Prod.mk.injEq] at hs;obtain ⟨_,rfl⟩:=hs;exact .inl rfl
     ·cases hs
    ·cases hs
   ·cases hs
def Keeps (X:Ctx) (σ σ':St) (p:Oper):Prop:=(∀ t x,p.op = .load t x->(∀ u j row,ev σ.s x = .lp u j->AE σ.bx u=some row->AE σ'.bx u=some row) /\
 (∀ b i j,ev σ.s x = .ptr (some (b,i,j))->ld σ'.h b i j (X.ty t).size=ld σ.h b i j (X.ty t).size)) /\
 (∀ t e,Ju p=some (t,e)->∀ row,AE σ.bx t=some row->AE σ'.bx t=some row)
theorem Kz {o:Oper}{t e:Nat} (h:Ju o=some (t,e)):o.op = .alloc e/\o.dst=some t:=by
 unfold Ju at h;split at h
 ·rename_i e' ho
  split at h
  ·rename_i t' hd
   injection h with h;injection h with h1 h2;subst h1;subst h2;exact ⟨ho,hd⟩
  ·cases h
 ·cases h
theorem Q8 {o:Oper}{t:TypeId} (h:o.op = .load t x):Ju o=none:=by unfold Ju;rw[h]
theorem TS {o:Oper}{v:V}{σ1:St} (hs:AJ X lo d ty o.op ⟨s,bx,h⟩=some (v,σ1)):∀ {l:List Oper}{k:Option R}{r:R},chkT X o ⟨s,bx,h⟩ σ1 l k=some r->k=some r/\∀ p∈l,Keeps X ⟨s,bx,h⟩ σ1 p
 | [],k,r,hk=>⟨hk,λp hp=>by simp at hp⟩
 | p :: l,k,r,hk=>by
  have ih:∀ {k:Option R}{r:R},chkT X o ⟨s,bx,h⟩ σ1 l k=some r->k=some r/\∀ p∈l,Keeps X ⟨s,bx,h⟩ σ1 p:=TS hs;have fin:chkT X o ⟨s,bx,h⟩ σ1 l k=some r->Keeps X ⟨s,bx,h⟩ σ1 p->k=some r/\∀ q∈p :: l,Keeps X ⟨s,bx,h⟩ σ1 q:=λh1 h2=>by
   obtain ⟨h3,h4⟩:=ih h1;refine ⟨h3,λq hq=>?_⟩;rcases zdm.1 hq with rfl | hq
   ·exact h2
   ·exact h4 q hq
  simp only[chkT] at hk;split at hk
  ·rename_i t x hp
   split at hk
   ·rename_i u j hx
    have key:(∀ row,AE bx u=some row->AE σ1.bx u=some row)->Keeps X ⟨s,bx,h⟩ σ1 p:=λhrow=>by
     refine ⟨λt' x' hp'=>?_,λt' e' hm=>by rw[Q8 hp] at hm;cases hm⟩;rw[hp] at hp';injection hp' with e1 e2;subst e1;subst e2;refine ⟨λu' j' row hx' hl=>?_,λb i j' hx'=>?_⟩
     ·have hx':ev s x = .lp u' j':=hx';rw[hx] at hx';injection hx' with e1 e2;subst e1;exact hrow row hl
     ·have hx':ev s x = .ptr (some (b,i,j')):=hx';rw[hx] at hx';cases hx'
    split at hk
    ·rename_i t' y z hop
     rw[hop] at hs;split at hk
     ·rename_i u' j' hy
      split at hk
      ·cases hk
      ·rename_i hne
       refine fin hk (key λrow hl=>?_);obtain ⟨_,row',h2⟩:=JL hy hs;rw[h2,I6,if_neg (λe=>by subst e;simp at hne)];exact hl
     ·rename_i q hy
      refine fin hk (key λrow hl=>?_);rw[K6 hy hs];exact hl
     ·cases hk
    ·rename_i hop
     exact fin hk (key λrow hl=>by
      rcases Nd hs with h1 | ⟨t0,row',h1,h2⟩ | ⟨⟨t0,y,z,h3⟩,_⟩
      ·rw[h1];exact hl
      ·rw[h2,Bf];split
       ·rename_i e;subst e;rw[h1] at hl;cases hl
       ·exact hl
      ·exact absurd h3 (hop _ _ _))
   ·rename_i q hx
    obtain ⟨q,rfl,hk⟩:=AM hk;obtain ⟨b,i,j⟩:=q;have key:ld σ1.h b i j (X.ty t).size=ld h b i j (X.ty t).size->Keeps X ⟨s,bx,h⟩ σ1 p:=λhl=>by
     refine ⟨λt' x' hp'=>?_,λt' e' hm=>by rw[Q8 hp] at hm;cases hm⟩;rw[hp] at hp';injection hp' with e1 e2;subst e1;subst e2;refine ⟨λu' j' row hx' _=>?_,λb' i' j' hx'=>?_⟩
     ·have hx':ev s x = .lp u' j':=hx';rw[hx] at hx';cases hx'
     ·have hx':ev s x = .ptr (some (b',i',j')):=hx';rw[hx] at hx';injection hx' with e;injection e with e;injection e with e1 e;injection e with e2 e3;subst e1;subst e2;subst e3;exact hl
    have nd:∀ {k:Option R},A8 (Gi (ld h b i j (X.ty t).size) (ld σ1.h b i j (X.ty t).size)) k=some r->ld σ1.h b i j (X.ty t).size=ld h b i j (X.ty t).size/\k=some r:=λhk=>by obtain ⟨h1,h2⟩:=Ay hk;unfold Gi at h1;exact ⟨((@decide_eq_true_iff _ (_)).1 h1).symm,h2⟩
    split at hk
    ·rename_i t' y z hop
     split at hk
     ·rename_i u' j' hy
      rw[hop] at hs;exact fin hk (key (by rw[(JL hy hs).1]))
     ·obtain ⟨h1,h2⟩:=nd hk;exact fin h2 (key h1)
    ·obtain ⟨h1,h2⟩:=nd hk;exact fin h2 (key h1)
   ·cases hk
  ·rename_i e hp
   split at hk
   ·rename_i t hd
    have key:(∀ row,AE bx t=some row->AE σ1.bx t=some row)->Keeps X ⟨s,bx,h⟩ σ1 p:=λhrow=>by refine ⟨λt' x' hp'=>(by rw[hp] at hp';cases hp'),λt' e' hm=>?_⟩;obtain ⟨_,hd'⟩:=Kz hm;rw[hd] at hd';injection hd' with hd';subst hd';exact hrow
    split at hk
    ·rename_i t' y z hop
     rw[hop] at hs;split at hk
     ·rename_i u' j' hy
      split at hk
      ·cases hk
      ·rename_i hne
       refine fin hk (key λrow hl=>?_);obtain ⟨_,row',h2⟩:=JL hy hs;rw[h2,I6,if_neg (λe=>by subst e;simp at hne)];exact hl
     ·rename_i q hy
      refine fin hk (key λrow hl=>?_);rw[K6 hy hs];exact hl
     ·cases hk
    ·rename_i hop
     exact fin hk (key λrow hl=>by
      rcases Nd hs with h1 | ⟨t0,row',h1,h2⟩ | ⟨⟨t0,y,z,h3⟩,_⟩
      ·rw[h1];exact hl
      ·rw[h2,Bf];split
       ·rename_i e;subst e;rw[h1] at hl;cases hl
       ·exact hl
      ·exact absurd h3 (hop _ _ _))
   ·cases hk
  ·cases hk
theorem Sy (hs:AJ X lo d ty o ⟨s,bx,h⟩=some (v,σ1)) {t:Nat} (ht:(AE bx t).isSome=true):(AE σ1.bx t).isSome=true:=by
 rcases Nd hs with h1 | ⟨u,row,h1,h2⟩ | ⟨_,u,row,h2⟩
 ·rw[h1];exact ht
 ·rw[h2,Bf];split
  ·rfl
  ·exact ht
 ·rw[h2,I6];split
  ·simpa using ht
  ·exact ht
theorem JM (hs:AJ X lo d ty o ⟨s,bx,h⟩=some (v,σ1)) (hw:∀ t x y,o ≠ .store t x y) {t:Nat}{row:List V} (ht:AE bx t=some row):AE σ1.bx t=some row:=by
 rcases Nd hs with h1 | ⟨u,row',h1,h2⟩ | ⟨⟨t,x,y,h3⟩,_⟩
 ·rw[h1];exact ht
 ·rw[h2,Bf];split
  ·rename_i e;subst e;rw[h1] at ht;cases ht
  ·exact ht
 ·exact absurd h3 (hw _ _ _)
end
theorem KN {acc:List Nat}{j:Nat}:∀ {es:List Edge},(JF acc es).testBit j=true->∃ e∈es,Dm e=true/\(e.on=j\/(acc.getD e.on 0).testBit j=true)
 | [],h=>by simp[JF] at h
 | e :: es,h=>by
  simp only[JF] at h;split at h
  ·rename_i hb
   have h1:((1 <<< e.on ||| acc.getD e.on 0) ||| JF acc es).testBit j=true:=h;rw[Nat.testBit_or,Nat.testBit_or] at h1;simp only[zd5] at h1;rcases h1 with (h1 | h1) | h1
   ·refine ⟨e,by simp,hb,.inl ?_⟩;rw[Nat.testBit_shiftLeft] at h1;simp only[zds,decide_eq_true_eq] at h1;have h2:=h1.2;by_cases hz:j - e.on=0
    ·omega
    ·rw[Nat.testBit_one_eq_true_iff_self_eq_zero] at h2;omega
   ·exact ⟨e,by simp,hb,.inr h1⟩
   ·obtain ⟨e',h2,h3⟩:=KN h1;exact ⟨e',by simp[h2],h3⟩
  ·obtain ⟨e',h2,h3⟩:=KN h;exact ⟨e',by simp[h2],h3⟩
theorem LE:∀ (l:List Oper) (acc:List Nat) (i:Nat),i<acc.length->(AV acc l).getD i 0=acc.getD i 0
 | [],acc,i,h=>rfl
 | o :: l,acc,i,h=>by simp only[AV];rw[LE l _ i (by simp;omega)];simp only[zeW];rw[zdl h]
theorem LD:∀ (l:List Oper) (acc:List Nat) (i j:Nat) (o:Oper),l[i]?=some o->((AV acc l).getD (acc.length+i) 0).testBit j=true ->
  ∃ e∈o.after.toList,Dm e=true/\(e.on=j\/((AV acc l).getD e.on 0).testBit j=true)
 | [],acc,i,j,o,h,_=>by simp at h
 | p :: l,acc,0,j,o,h,ht=>by
  simp at h;subst h;simp only[AV,zdY] at ht ⊢;rw[LE l _ _ (by simp)] at ht;simp only[zeW,List.getElem?_concat_length,zeu] at ht;obtain ⟨e,h1,h2,h3⟩:=KN ht;refine ⟨e,h1,h2,h3.imp id λh3=>?_⟩;have hlt:e.on<acc.length:=by apply zeK;intro hle;simp[zeW,zdW hle] at h3
  rw[LE l _ _ (by simp;omega)];simp only[zeW] at h3 ⊢;rw[zdl hlt];exact h3
 | p :: l,acc,i+1,j,o,h,ht=>by simp only[AV] at ht ⊢;have:=LD l (acc ++ [JF acc p.after.toList]) i j o (by simpa using h) (by rw[<- ht];congr 2;simp;omega);exact this
end Go.Proofs.YtmgopagfoemomaaGreat.T
namespace Go.Proofs.YtmgopagfoemomaaGreat.T
open Go
def XL (all:List Oper) (s:List (Nat×V)) (g:Option (Nat×Bool)):Option Bool:=Ip all s g (some true) (some false)
theorem XH {R:Type}{all:List Oper}{s:List (Nat×V)}{g:Option (Nat×Bool)}{run skip:Option R}{r:R} (h:Ip all s g run skip=some r):(XL all s g=some true/\run=some r)\/(XL all s g=some false/\skip=some r):=by
 unfold XL;unfold Ip at h ⊢;split at h
 ·exact .inl ⟨rfl,h⟩
 ·split at h
  ·cases h
  ·split at h
   ·cases h
   ·split at h
    ·rename_i b _
     split at h<;>rcases KI h with ⟨rfl,h⟩ | ⟨rfl,h⟩<;>simp_all [br]
    ·simp_all
    ·cases h
def KO (X:Ctx) (lo:Nat) (all:List Oper) (calm al:Nat->Bool) (j:Nat) (o:Oper) (σ σ':St):Prop :=
 (EH al j o=none/\XL all σ.s o.guard=some true/\∃ v σ1,AJ X (if calm j then σ.h.length else lo) o.dst o.type o.op σ=some (v,σ1)/\σ'=putS σ1 o.dst v) \/
 (EH al j o=none/\XL all σ.s o.guard=some false/\σ'=putS σ o.dst (.tup [])) \/
 (∃ t e,EH al j o=some (t,e)/\σ'=putS σ o.dst (.lp t 0))
theorem FZ {al:Nat->Bool}{j:Nat}{o:Oper}{t e:Nat} (h:EH al j o=some (t,e)):al j=true/\o.op = .alloc e/\o.dst=some t/\Ju o=some (t,e):=by
 unfold EH at h;split at h
 ·exact ⟨‹_›,(Kz h).1,(Kz h).2,h⟩
 ·cases h
theorem XW {al:Nat->Bool}{j:Nat}{o:Oper}{a:Nat} (h:DC o=some a):EH al j o=none:=by
 unfold EH;split
 ·unfold Ju;unfold DC at h;split at h
  ·rename_i ho;rw[ho]
  ·cases h
 ·rfl
def LF (X:Ctx) (calm:Nat->Bool) (ck:Nat->List Oper) (j:Nat) (σ σ':St):Prop:=calm j=false->∀ p∈ck j,Keeps X σ σ' p
theorem Keeps.put {X:Ctx}{σ σ':St}{p:Oper}{d:Option Nat}{v:V} (h:Keeps X σ σ' p):Keeps X σ (putS σ' d v) p:=by cases d<;>exact h
theorem Keeps.same {X:Ctx}{σ:St}{p:Oper}{d:Option Nat}{v:V}:Keeps X σ (putS σ d v) p:=Keeps.put ⟨λt x _=>⟨λu j row _ h=>h,λb i j _=>rfl⟩,λt e _ row h=>h⟩
theorem WD {X:Ctx}{lo:Nat}{all:List Oper}{calm al:Nat->Bool}{ck:Nat->List Oper}{R:Type}{k:St->Option R}{r:R}:∀ (rest:List Oper) (i:Nat) (σ:St),all.drop i=rest->opsT X lo all calm ck al i rest σ k=some r ->
  ∃ S:Nat->St,S i=σ/\k (S (i+rest.length))=some r/\∀ j o,i<=j->all[j]?=some o->KO X lo all calm al j o (S j) (S (j+1))/\LF X calm ck j (S j) (S (j+1))
 | [],i,σ,hr,hk=>⟨λ_=>σ,rfl,hk,λj o hj ho=>by
   have:all.length<=i:=List.drop_eq_nil_iff.1 hr;have:=(zdk.1 ho).1;omega⟩
 | o :: rest,i,σ,hr,hk=>by
  obtain ⟨hi,hr'⟩:=List.drop_cons' hr;simp only[opsT] at hk;have main:∀ σ',opsT X lo all calm ck al (i+1) rest σ' k=some r->KO X lo all calm al i o σ σ'->LF X calm ck i σ σ'->∃ S:Nat->St,S i=σ/\k (S (i+(o :: rest).length))=some r/\∀ j o,i<=j->all[j]?=some o->KO X lo all calm al j o (S j) (S (j+1))/\LF X calm ck j (S j) (S (j+1)):=by
   intro σ' hk' hst hkp;obtain ⟨S,h1,h2,h3⟩:=WD rest (i+1) σ' hr' hk';refine ⟨λj=>if j<=i then σ else S j,by simp,?_,λj o' hj ho=>?_⟩
   ·show k (if i+(o :: rest).length<=i then σ else S (i+(o :: rest).length))=some r;rw[if_neg (by simp),zd7,show i+(rest.length+1)=i+1+rest.length by omega];exact h2
   ·by_cases e:j=i
    ·subst e;rw[hi] at ho;injection ho with ho;subst ho;show KO X lo all calm al j o (if j<=j then σ else S j) (if j+1<=j then σ else S (j+1))/\LF X calm ck j (if j<=j then σ else S j) (if j+1<=j then σ else S (j+1));rw[if_pos (zdj _),if_neg (by omega),h1];exact ⟨hst,hkp⟩
    ·show KO X lo all calm al j o' (if j<=i then σ else S j) (if j+1<=i then σ else S (j+1))/\LF X calm ck j (if j<=i then σ else S j) (if j+1<=i then σ else S (j+1));rw[if_neg (by omega),if_neg (by omega)];exact h3 j o' (by omega) ho
  cases hbx:EH al i o with
  | some q =>obtain ⟨t,e⟩:=q;rw[hbx] at hk;exact main _ hk (.inr (.inr ⟨t,e,hbx,rfl⟩)) (λ_ p hp=>Keeps.same)
  | none =>
  rw[hbx] at hk;simp only at hk;rcases XH hk with ⟨hg,hk1⟩ | ⟨hg,hk1⟩
  ·cases hc:calm i with
   | true =>rw[hc] at hk1;obtain ⟨v,σ1,h1,h2⟩:=VX hk1;exact main _ h2 (.inl ⟨hbx,hg,v,σ1,by rw[hc];exact h1,rfl⟩) (λhcf=>by rw[hc] at hcf;cases hcf)
   | false =>rw[hc] at hk1;obtain ⟨v,σ1,h1,h2⟩:=VX hk1;obtain ⟨h3,h4⟩:=TS (s:=σ.s) (bx:=σ.bx) (h:=σ.h) h1 h2;exact main _ h3 (.inl ⟨hbx,hg,v,σ1,by rw[hc];exact h1,rfl⟩) (λ_ p hp=>(h4 p hp).put)
  ·exact main _ hk1 (.inr (.inl ⟨hbx,hg,rfl⟩)) (λ_ p hp=>Keeps.same)
section
variable {all:List Oper}{cl:Nat->Bool}
theorem KA {i:Nat}{o:Oper} (h:all[i]?=some o):(o,i)∈all.zipIdx:=zek.2 h
theorem zc8 {a b:Nat} (h:a≠b):Nat.beq a b=false:=by
 cases hb:Nat.beq a b with
 | false=>rfl
 | true=>exact absurd (zdo hb) h
theorem Mo {a n:Nat} (h:K7 all a n=true) {j:Nat}{q:Oper} (hj:n<=j) (hq:all[j]?=some q):q.dst≠some a:=λhd=>by
 have h2:=zdz.1 h (q,j) (KA hq);have hb:Nat.blt j n=false:=by
  cases hb:Nat.blt j n with
  | false=>rfl
  | true =>
       have:j<n:=by simpa [zeN] using hb
       omega
 have ha:Nat.beq a a=true:=by simp
 simp only[hb,zeI,hd,Option.toList_some,List.any_cons,List.any_nil,Bool.or_false,ha,zei] at h2;cases h2
structure Graph (all:List Oper) (cl:Nat->Bool):Prop where
 wr:∀ (i:Nat) (o:Oper),all[i]?=some o->FN o=true->Jc (AV [] all) all cl i=true
 edge:∀ (i:Nat) (o:Oper),all[i]?=some o->∀ e∈o.after.toList,Dm e=true->e.on<i
 stat:∀ (i:Nat) (o:Oper),all[i]?=some o->cl i=true->EH cl i o=none->∃ t a,o.op = .load t (.tmp a)/\K7 all a i=true/\∀ (n:Nat) (p:Oper),all[n]?=some p->Ho p=true->Iq (AV [] all) n i=true\/K7 all a n=true
 box:∀ (i:Nat) (o:Oper) (t e:Nat),all[i]?=some o->EH cl i o=some (t,e)->(AV [] all).getD i 0=0/\o.guard=none
 guard:∀ (i:Nat) (o:Oper) (j:Nat) (b:Bool),all[i]?=some o->o.guard=some (j,b)->((AV [] all).getD i 0).testBit j=true
 pair:∀ (i j:Nat) (p q:Oper),all[i]?=some p->all[j]?=some q->i<j->Iq (AV [] all) i j=true\/(za3 p.dst.toList (D0 all q)=true/\za3 q.dst.toList (D0 all p)=true)
theorem zaB (h:UW (AV [] all) all cl=true):Graph all cl:=by
 unfold UW at h;have hp:∀ (i:Nat) (o:Oper),all[i]?=some o->_:=λi o ho=>zdz.1 h (o,i) (KA ho);simp only[zds] at hp;refine ⟨λi o ho hw=>?_,λi o ho e he hbi=>?_,λi o ho hc hbn=>?_,λi o t e ho hbx=>?_,λi o j b ho hg=>?_,λi j p q hpi hqj hij=>?_⟩
 ·have:=(hp i o ho).1.1.1.2;rw[hw] at this;simpa using this
 ·have:=zdz.1 (hp i o ho).1.1.2 e he;simpa [zeN,hbi] using this
 ·have:=(hp i o ho).1.1.1.1;rw[hc] at this;simp only[zei,zeI] at this;unfold XT at this;cases hl:DC o with
  | none =>
   rw[hl] at this;have hm:Ju o=none:=by unfold EH at hbn;rw[hc] at hbn;exact hbn
   rw[hm] at this;cases this
  | some a =>
   rw[hl] at this;have hop:∃ t,o.op = .load t (.tmp a):=by
    unfold DC at hl;split at hl
    ·rename_i t a' ho';injection hl with hl;subst hl;exact ⟨t,ho'⟩
    ·cases hl
   obtain ⟨t,hop⟩:=hop;rw[zds] at this;refine ⟨t,a,hop,this.1,λn p hp hs=>?_⟩;have h3:=zdz.1 this.2 (p,n) (KA hp);simpa only [hs,zei,zeI,zd5] using h3
 ·have:=(hp i o ho).1.1.1.1;obtain ⟨hc,hop,hdst,hm⟩:=FZ hbx;rw[hc] at this;simp only[zei,zeI] at this;unfold XT at this;have hl:DC o=none:=by unfold DC;rw[hop]
  rw[hl,hm] at this;simp only[zds,Option.isNone_iff_eq_none] at this;exact ⟨zdo this.1,this.2⟩
 ·have:=(hp i o ho).1.2;rw[hg] at this;exact this
 ·have:=zdz.1 (hp i p hpi).2 (q,j) (KA hqj);have hb:Nat.blt i j=true:=by simpa [zeN] using hij
  simp only[hb,zei,zeI,zd5,zds] at this;exact this
theorem T6 {i j:Nat}{q:Oper} (h:Jc (AV [] all) all cl i=true) (hq:all[j]?=some q) (hne:j≠i) (hi:EF q=false) (hc:cl j=false):Iq (AV [] all) i j=true:=by have:=zdz.1 h (q,j) (KA hq);simp only[zc8 hne,hi,hc,zeI,Bool.or_false] at this;exact this
theorem RX {M:List Nat}{j a:Nat}{q:Oper} (ha:DC q=some a) (hs:K7 all a j=true):∀ {l:List Oper}{i:Nat}{k:Nat},l[k]?=some q->cl (i+k)=true->Iq M j (i+k)=false->q∈FY M all cl j i l
 | [],i,k,h,_,_=>by simp at h
 | p :: l,i,k,h,hc,hm=>by
  cases k with
  | zero =>simp at h;subst h;rw[zdY] at hc hm;simp[FY,hc,hm,ha,hs]
  | succ k =>
   have ih:q∈FY M all cl j (i+1) l:=RX ha hs (k:=k) (by simpa using h) (by rw[<- hc];congr 1;omega) (by rw[<- hm];congr 1;omega);simp only[FY];split
   ·exact ih
   ·split
    ·exact ih
    ·split
     ·split
      ·exact zd8 _ ih
      ·exact ih
     ·split
      ·exact ih
      ·exact zd8 _ ih
theorem Ui {M:List Nat}{j t e:Nat}{q:Oper} (ha:Ju q=some (t,e)):∀ {l:List Oper}{i:Nat}{k:Nat},l[k]?=some q->cl (i+k)=true->Iq M j (i+k)=false->q∈FY M all cl j i l
 | [],i,k,h,_,_=>by simp at h
 | p :: l,i,k,h,hc,hm=>by
  cases k with
  | zero =>
   simp at h;subst h;rw[zdY] at hc hm;have hl:DC p=none:=by unfold DC;rw[(Kz ha).1]
   simp[FY,hc,hm,ha,hl]
  | succ k =>
   have ih:q∈FY M all cl j (i+1) l:=Ui ha (k:=k) (by simpa using h) (by rw[<- hc];congr 1;omega) (by rw[<- hm];congr 1;omega);simp only[FY];split
   ·exact ih
   ·split
    ·exact ih
    ·split
     ·split
      ·exact zd8 _ ih
      ·exact ih
     ·split
      ·exact ih
      ·exact zd8 _ ih
theorem zcO {M:List Nat}{j k t e:Nat}{o q:Oper} (ho:all[j]?=some o) (hi:EF o=false) (hj:cl j=false) (hq:all[k]?=some q) (hc:cl k=true) (hm:Iq M j k=false) (ha:Ju q=some (t,e)):q∈U2 M all cl j:=by unfold U2;rw[ho];simp only[hi,hj];exact Ui ha (i:=0) hq (by rw[zdR];exact hc) (by rw[zdR];exact hm)
theorem zce {M:List Nat}{j k a:Nat}{o q:Oper} (ho:all[j]?=some o) (hi:EF o=false) (hj:cl j=false) (hq:all[k]?=some q) (hc:cl k=true) (hm:Iq M j k=false) (ha:DC q=some a) (hs:K7 all a j=true):q∈U2 M all cl j:=by unfold U2;rw[ho];simp only[hi,hj];exact RX ha hs (i:=0) hq (by rw[zdR];exact hc) (by rw[zdR];exact hm)
theorem XO {M:List Nat}{i a n:Nat}{p:Oper} (h:Yy M all cl i a=true) (hp:all[n]?=some p) (hi:EF p=false) (hc:cl n=false) (hm:Iq M n i=false) (hf:Jc M all cl n=true):K7 all a n=true:=by have h3:=zdz.1 h (p,n) (KA hp);simpa only [hi,hc,hm,hf,zeI,zei,Bool.or_false] using h3
theorem Lv {a b:List Nat}{t:Nat} (h:za3 a b=true) (ha:t∈a) (hb:t∈b):False:=by have:=zdz.1 h t ha;simp only[zdV,List.any_eq_false] at this;exact this t hb (by simp)
variable (hG:Graph all cl)
include hG
theorem U7:∀ (i:Nat) (o:Oper) (j:Nat),all[i]?=some o->((AV [] all).getD i 0).testBit j=true->j<i:=by
 intro i;induction i using Nat.strongRecOn with
 | _ i ih =>
  intro o j ho hb;obtain ⟨e,h1,h2,h3⟩:=LD all [] i j o ho (by simpa using hb);have hlt:=hG.edge i o ho e h1 h2;rcases h3 with h3 | h3
  ·omega
  ·have hlen:i<all.length:=(zdk.1 ho).1;have:=ih e.on hlt _ j (zdx (by omega)) h3;omega
theorem KM {L:Nat->Prop} (hcl:∀ (i:Nat) (o:Oper),all[i]?=some o->L i->∀ e∈o.after.toList,Dm e=true->L e.on) :
  ∀ (i:Nat) (o:Oper) (j:Nat),all[i]?=some o->(∀ e∈o.after.toList,Dm e=true->L e.on)->((AV [] all).getD i 0).testBit j=true->L j:=by
 intro i;induction i using Nat.strongRecOn with
 | _ i ih =>
  intro o j ho hready hb;obtain ⟨e,h1,h2,h3⟩:=LD all [] i j o ho (by simpa using hb);have hlt:=hG.edge i o ho e h1 h2;have hL:=hready e h1 h2;rcases h3 with h3 | h3
  ·exact h3 ▸ hL
  ·have hlen:i<all.length:=(zdk.1 ho).1;have ho':all[e.on]?=some all[e.on]:=zdx (by omega);exact ih e.on hlt _ j ho' (hcl _ _ ho' hL) h3
theorem KF {L:Nat->Prop} (hcl:∀ (i:Nat) (o:Oper),all[i]?=some o->L i->∀ e∈o.after.toList,Dm e=true->L e.on) {i j:Nat}{o q:Oper} (ho:all[i]?=some o) (hq:all[j]?=some q)
  (hready:∀ e∈o.after.toList,Dm e=true->L e.on) (hn:¬ L i) (hne:j≠i) (hc:Iq (AV [] all) i j=true\/Iq (AV [] all) j i=true):L j<->j<i:=by
 have hc':((AV [] all).getD i 0).testBit j=true\/((AV [] all).getD j 0).testBit i=true:=by unfold Iq at hc;rcases hc with hc | hc<;>split at hc<;>simp_all
 rcases hc' with h | h
 ·have:=U7 hG i o j ho h;exact ⟨λ_=>this,λ_=>KM hG hcl i o j ho hready h⟩
 ·have:=U7 hG j q i hq h;exact ⟨λhL=>absurd (KM hG hcl j q i hq (hcl j q hq hL) h) hn,λh=>by omega⟩
def Wr (all:List Oper) (j t:Nat):Prop:=∃ q,all[j]?=some q/\q.dst=some t
omit hG in
theorem Nb (hG:Graph all cl) {L:Nat->Prop} (hcl:∀ (i:Nat) (o:Oper),all[i]?=some o->L i->∀ e∈o.after.toList,Dm e=true->L e.on) {i:Nat}{o:Oper} (ho:all[i]?=some o)
  (hready:∀ e∈o.after.toList,Dm e=true->L e.on) (hn:¬ L i) {t:Nat} (ht:t∈D0 all o) {j:Nat} (hw:Wr all j t):L j<->j<i:=by
 obtain ⟨q,hq,hd⟩:=hw;by_cases hne:j=i
 ·subst hne;exact ⟨λh=>absurd h hn,λh=>by omega⟩
 ·refine KF hG hcl ho hq hready hn hne ?_;rcases Nat.lt_or_ge i j with h | h
  ·rcases hG.pair i j o q ho hq h with h1 | ⟨_,h1⟩
   ·exact .inl h1
   ·exact (Lv h1 (by rw[hd];simp) ht).elim
  ·rcases hG.pair j i q o hq ho (by omega) with h1 | ⟨h1,_⟩
   ·exact .inr h1
   ·exact (Lv h1 (by rw[hd];simp) ht).elim
end
end Go.Proofs.YtmgopagfoemomaaGreat.T
namespace Go.Proofs.YtmgopagfoemomaaGreat.T
open Go
variable {a:Act}{w:World}{next:Act->World->Prop}{ρ:Rho}{β:Bet}
theorem zck {P:Program}{o:Oper} (h:o.wp P a w next (λ_ _ _=>False)):∃ a' w',next a' w':=by
 unfold Oper.wp at h;generalize (execOp a.eval o).run P w=res at h;cases res with
 | ok n w' =>
  cases n<;>simp only[Oper.upon] at h<;>(try exact h.elim)
  ·exact ⟨_,_,h⟩
  ·exact ⟨_,_,h⟩
  ·obtain ⟨e,w'',fr,hr,_⟩:=h [];cases e with
   | returned v=>exact ⟨_,_,hr⟩
   | panicked c=>exact hr.elim
   | outgrown=>obtain ⟨_,_,hr⟩:=hr;exact hr.elim
  ·exact ⟨_,_,h⟩
  ·obtain ⟨v,w'',hr,_⟩:=h default [];exact ⟨_,_,hr⟩
 | halt x w'=>cases x<;>simp only[Oper.upon] at h
section
variable {P:Program}{lo base nt:Nat}{X:Ctx}
def More (ρ:Rho) (β:Bet) (σ:St) (w:World) (lo base:Nat) (ρ':Rho) (β':Bet) (σ':St) (w':World):Prop :=
 Ext lo base ρ σ.h w ρ' σ'.h w'/\Ble β β'/\(∀ t,AE σ.bx t=none->(AE σ'.bx t).isSome=true->∃ r,β' t=some r)
def IF (t:Nat):List (Nat×List V)->List (Nat×List V)
 | [] => []
 | (u,v) :: r=>if u=t then IF t r else (u,v) :: IF t r
theorem Et {t:Nat}:∀ {bx:List (Nat×List V)}{u:Nat},AE (IF t bx) u=if u=t then none else AE bx u
 | [],u=>by simp[IF,AE]
 | (x,v) :: r,u=>by
  unfold IF;by_cases h:x=t
  ·rw[if_pos h,Et (bx:=r),Bf];by_cases hu:u=t
   ·rw[if_pos hu,if_pos hu]
   ·rw[if_neg hu,if_neg hu,if_neg (λe=>hu (e.symm.trans h))]
  ·rw[if_neg h,Bf,Et (bx:=r),Bf];by_cases hx:x=u
   ·rw[if_pos hx,if_pos hx,if_neg (λe=>h (hx.trans e))]
   ·rw[if_neg hx,if_neg hx]
theorem FRel.sub {bx bx':List (Nat×List V)} (hf:FRel ρ β bx w) (hs:∀ t r,β t=some r->AE bx' t=AE bx t):FRel ρ β bx' w :=
 ⟨λt r hr=>by obtain ⟨row,cs,el,h1,h2,h3⟩:=hf.has t r hr;exact ⟨row,cs,el,by rw[hs t r hr];exact h1,h2,h3⟩,hf.lt,hf.inj,hf.off⟩
theorem QI {lo':Nat}{o:Oper}{t e:Nat}{s:List (Nat×V)}{bx:List (Nat×List V)}{h:Heap} (hop:o.op = .alloc e) (hd:o.dst=some t) (hk:((X.ty e).known&&(X.ty e).hz&&DI (X.ty e).zero)=true) (hh:X.hb.any (Nat.beq t)=false) (hl:AE bx t=none) :
  AJ X lo' o.dst o.type o.op ⟨s,bx,h⟩=some (.lp t 0,⟨s,(t,(X.ty e).zero) :: bx,h⟩):=by
 unfold AJ;rw[hop,hd];simp only[opT,hk,hh,hl]
def YM (X:Ctx) (cl:Nat->Bool) (j:Nat) (o:Oper) (β:Bet) (bx:List (Nat×List V)):Prop:=∀ t e,EH cl j o=some (t,e)->((X.ty e).known&&(X.ty e).hz&&DI (X.ty e).zero)=true/\X.hb.any (Nat.beq t)=false/\β t=none/\AE bx t=some (X.ty e).zero
theorem Om (hX:X.ty=AH P) (hE:∀ t,X.cmp t=true->EqOk P t) (hC:SC P X.call) {all:List Oper}{calm al:Nat->Bool}{j:Nat}{o:Oper}{σ σ':St} (hs:KO X lo all calm al j o σ σ') (hbox:YM X al j o β σ.bx) (hd:∀ t,o.dst=some t->t<nt)
  (ho:Ok lo base nt ρ β σ a w):(∃ ρ' β' a' w',Ok lo base nt ρ' β' σ' a' w'/\More ρ β σ w lo base ρ' β' σ' w'/\∀ t r,β t=none->β' t=some r->AE σ.bx t=none\/∃ e,EH al j o=some (t,e))/\σ.h.length<=σ'.h.length/\(calm j=true->∀ b,b<σ.h.length->σ'.h[b]?=σ.h[b]?):=by
 rcases hs with ⟨_,_,v,σ1,h1,rfl⟩ | ⟨_,_,rfl⟩ | ⟨tb,eb,hbx,rfl⟩
 ·have hh:(putS σ1 o.dst v).h=σ1.h:=by cases o.dst<;>rfl
  have hb:(putS σ1 o.dst v).bx=σ1.bx:=by cases o.dst<;>rfl
  rw[hh];have hlo2:lo<=(if calm j=true then σ.h.length else lo):=by split;exact ho.hlo;exact zdj _
  have hwp:o.wp P a w (λa' w'=>(∃ ρ' β',Ok lo base nt ρ' β' (putS σ1 o.dst v) a' w'/\More ρ β σ w lo base ρ' β' (putS σ1 o.dst v) w'/\∀ t r,β t=none->β' t=some r->AE σ.bx t=none\/∃ e,EH al j o=some (t,e))/\σ.h.length<=σ1.h.length/\(calm j=true->∀ b,b<σ.h.length->σ1.h[b]?=σ.h[b]?)) (λ_ _ _=>False):=by
   refine I0 (lo:=if calm j=true then σ.h.length else lo) (base:=base) (K:=λv σ=>some (v,σ)) (r:=(v,σ1)) hX hE hC h1 ho.s ho.h ho.f ho.hB (by split;exact zdj _;exact ho.hlo) (λ_=>ho.own) ?_;intro v' σ'' c w' hk hf;injection hk with hk;injection hk with e1 e2;subst e1;subst e2;obtain ⟨ρ',β',f1,f2,f3,f4,f5,f6,f7,f8⟩:=hf;have hok:Ok lo base nt ρ' β' (putS σ'' o.dst v') (a.put o.dst c) w':=by
    refine ⟨?_,?_,?_,?_,zdh ho.hB f5.size,?_,?_,?_⟩
    ·refine SRel.put ?_ f2 (λt ht=>by rw[ho.nt];exact hd t ht);rw[f1];exact ho.s.mono f5.rle f6
    ·rw[hh];exact f3
    ·rw[hb];exact f4
    ·intro t r hr;cases hb:β t with
     | some r0 =>have:=f6 t r0 hb;rw[hr] at this;injection this with this;subst this;exact ho.own t _ hb
     | none=>exact zdh ho.hB (f7 t r hb hr).1
    ·rw[hh];exact zdh ho.hlo f5.len
    ·cases o.dst<;>simp[Act.put,ho.nt]
    ·cases o.dst<;>simp[Act.put,ho.df]
   refine ⟨⟨ρ',β',hok,⟨?_,f6,?_⟩,λt r g1 g2 => .inl (f7 t r g1 g2).2⟩,f5.len,λhc b hb=>f5.pres b ?_ hb⟩
   ·rw[hh];exact f5.weaken hlo2 (zdj _)
   ·rw[hb];exact f8
   ·rw[if_pos hc];exact hb
  obtain ⟨a',w',⟨ρ',β',h2,h5⟩,h3,h4⟩:=zck hwp;exact ⟨⟨ρ',β',a',w',h2,h5⟩,h3,h4⟩
 ·have hh:(putS σ o.dst (.tup [])).h=σ.h:=by cases o.dst<;>rfl
  have hb:(putS σ o.dst (.tup [])).bx=σ.bx:=by cases o.dst<;>rfl
  rw[hh];refine ⟨⟨ρ,β,_,w,ho.skip hd,⟨?_,Ble.refl _,?_⟩,λt r g1 g2=>by rw[g1] at g2;cases g2⟩,zdj _,λ_ _ _=>rfl⟩
  ·rw[hh];exact Ext.refl _ _ _ _ _
  ·rw[hb];exact Ou
 ·obtain ⟨_,hop,hdst,_⟩:=FZ hbx;obtain ⟨k1,k2,k3,k4⟩:=hbox tb eb hbx;have hh:(putS σ o.dst (.lp tb 0)).h=σ.h:=by cases o.dst<;>rfl
  have hb:(putS σ o.dst (.lp tb 0)).bx=σ.bx:=by cases o.dst<;>rfl
  rw[hh];have h1:=QI (lo':=lo) (s:=σ.s) (h:=σ.h) (bx:=IF tb σ.bx) hop hdst k1 k2 (by rw[Et,if_pos rfl]);unfold AJ at h1;have hf0:FRel ρ β (IF tb σ.bx) w:=ho.f.sub λt r hr=>by rw[Et,if_neg (λe=>by rw[e,k3] at hr;cases hr)]
  have hwp:o.wp P a w (λa' w'=>∃ ρ' β',Ok lo base nt ρ' β' (putS σ o.dst (.lp tb 0)) a' w'/\More ρ β σ w lo base ρ' β' (putS σ o.dst (.lp tb 0)) w'/\∀ t r,β t=none->β' t=some r->AE σ.bx t=none\/∃ e,EH al j o=some (t,e)) (λ_ _ _=>False):=by
   refine I0 (lo:=lo) (base:=base) (σ:=⟨σ.s,IF tb σ.bx,σ.h⟩) (K:=λv σ=>some (v,σ)) (r:=(.lp tb 0,_)) hX hE hC h1 ho.s ho.h hf0 ho.hB ho.hlo (λ_=>ho.own) ?_;intro v' σ'' c w' hk hf;injection hk with hk;injection hk with e1 e2;subst e1;subst e2;obtain ⟨ρ',β',f1,f2,f3,f4,f5,f6,f7,f8⟩:=hf;have hok:Ok lo base nt ρ' β' (putS σ o.dst (.lp tb 0)) (a.put o.dst c) w':=by
    refine ⟨?_,?_,?_,?_,zdh ho.hB f5.size,?_,?_,?_⟩
    ·refine SRel.put ?_ f2 (λt ht=>by rw[ho.nt];exact hd t ht);exact ho.s.mono f5.rle f6
    ·rw[hh];exact f3
    ·rw[hb];refine f4.sub λt r hr=>?_;show AE σ.bx t=AE ((tb,(X.ty eb).zero) :: IF tb σ.bx) t;rw[Bf,Et];by_cases e:tb=t
     ·rw[if_pos e,<- e];exact k4
     ·rw[if_neg e,if_neg (λe'=>e e'.symm)]
    ·intro t r hr;cases hb:β t with
     | some r0 =>have:=f6 t r0 hb;rw[hr] at this;injection this with this;subst this;exact ho.own t _ hb
     | none=>exact zdh ho.hB (f7 t r hb hr).1
    ·rw[hh];exact ho.hlo
    ·cases o.dst<;>simp[Act.put,ho.nt]
    ·cases o.dst<;>simp[Act.put,ho.df]
   refine ⟨ρ',β',hok,⟨?_,f6,?_⟩,λt r g1 g2=>?_⟩
   ·rw[hh];exact f5.weaken (zdj _) (zdj _)
   ·rw[hb];exact Ou
   ·have h7:AE (IF tb σ.bx) t=none:=(f7 t r g1 g2).2;rw[Et] at h7;by_cases e:t=tb
    ·exact .inr ⟨eb,by rw[e];exact hbx⟩
    ·rw[if_neg e] at h7;exact .inl h7
  obtain ⟨a',w',ρ',β',h2,h5⟩:=zck hwp;exact ⟨⟨ρ',β',a',w',h2,h5⟩,zdj _,λ_ _ _=>rfl⟩
theorem More.trans {ρ ρ' ρ'':Rho}{β β' β'':Bet}{σ σ' σ'':St}{w w' w'':World} (a:More ρ β σ w lo base ρ' β' σ' w') (b:More ρ' β' σ' w' lo base ρ'' β'' σ'' w''):More ρ β σ w lo base ρ'' β'' σ'' w'':=by
 refine ⟨a.1.trans b.1,a.2.1.trans b.2.1,λt h1 h2=>?_⟩;cases h:AE σ'.bx t with
 | none=>exact b.2.2 t h h2
 | some row =>obtain ⟨r,hr⟩:=a.2.2 t h1 (by rw[h];rfl);exact ⟨r,b.2.1 t r hr⟩
def Mn (all:List Oper) (cl:Nat->Bool) (j:Nat):Prop:=Jc (AV [] all) all cl j=true/\(∃ o,all[j]?=some o/\EF o=false)/\cl j=false
def Ke (all:List Oper) (cl:Nat->Bool) (i:Nat):Bool := !Jc (AV [] all) all cl i
structure Env (P:Program) (X:Ctx) (lo base nt:Nat) (ρ0:Rho) (β0:Bet) (w0:World) (all:List Oper) (cl:Nat->Bool) (S:Nat->St):Prop where
 nar:X.wide=false
 G:Graph all cl
 step:∀ (j:Nat) (o:Oper),all[j]?=some o->KO X lo all (Ke all cl) cl j o (S j) (S (j+1))
 box:∀ (j:Nat) (o:Oper),all[j]?=some o->YM X cl j o β0 (S 0).bx
 dst:∀ (j:Nat) (o:Oper),all[j]?=some o->∀ t,o.dst=some t->t<nt
 ok:∀ j,j<=all.length->∃ ρ β a w,Ok lo base nt ρ β (S j) a w/\More ρ0 β0 (S 0) w0 lo base ρ β (S j) w
 len:∀ j,j<all.length->(S j).h.length<=(S (j+1)).h.length
 same:∀ j,j<all.length->¬ Mn all cl j->∀ b,b<(S j).h.length->(S (j+1)).h[b]?=(S j).h[b]?
 keep:∀ j,j<all.length->LF X (Ke all cl) (U2 (AV [] all) all cl) j (S j) (S (j+1))
theorem WE {all:List Oper}{cl:Nat->Bool}{S:Nat->St} (hG:Graph all cl) (hst:∀ (j:Nat) (o:Oper),all[j]?=some o->KO X lo all (Ke all cl) cl j o (S j) (S (j+1)))
  (hkp:∀ (j:Nat) (o:Oper),all[j]?=some o->LF X (Ke all cl) (U2 (AV [] all) all cl) j (S j) (S (j+1))) {i:Nat}{o:Oper}{t e:Nat} (ho:all[i]?=some o) (hb:EH cl i o=some (t,e)) {j:Nat} (hj:j<all.length)
  (hc:Mn all cl j->Iq (AV [] all) j i=false) {row:List V} (hr:AE (S j).bx t=some row):AE (S (j+1)).bx t=some row:=by
 have hg:all[j]?=some all[j]:=zdx hj;have pb:∀ (σ:St) (d:Option Nat) (v:V),(putS σ d v).bx=σ.bx:=λσ d v=>by cases d<;>rfl
 rcases hst j _ hg with ⟨hbn,_,v,σ1,h1,h2⟩ | ⟨_,_,h2⟩ | ⟨_,_,_,h2⟩
 ·cases hso:Ho all[j] with
  | false =>rw[h2,pb];refine JM (s:=(S j).s) (bx:=(S j).bx) (h:=(S j).h) h1 (λt' x y he=>?_) hr;unfold Ho at hso;rw[he] at hso;cases hso
  | true =>
   have hop:∃ u x y,all[j].op = .store u x y:=by
    unfold Ho at hso;split at hso
    ·rename_i he;exact ⟨_,_,_,he⟩
    ·cases hso
   obtain ⟨u,x,y,hop⟩:=hop;have hw:FN all[j]=true:=by unfold FN;rw[hop]
   have hf:=hG.wr j _ hg hw;have hi:EF all[j]=false:=by unfold EF;rw[hop]
   have hcj:cl j=false:=by
    cases hcj:cl j with
    | false=>rfl
    | true =>obtain ⟨t',a',hop',_⟩:=hG.stat j _ hg hcj hbn;rw[hop'] at hop;cases hop
   obtain ⟨hci,_,_,hm⟩:=FZ hb;exact (hkp j _ hg (by unfold Ke;rw[hf];rfl) o (zcO hg hi hcj ho hci (hc ⟨hf,⟨_,hg,hi⟩,hcj⟩) hm)).2 t e hm row hr
 ·rw[h2,pb];exact hr
 ·rw[h2,pb];exact hr
theorem L0 {all:List Oper}{cl:Nat->Bool} (hG:Graph all cl) {i j:Nat}{o p:Oper}{t e:Nat} (ho:all[i]?=some o) (hb:EH cl i o=some (t,e)) (hp:all[j]?=some p) (hji:j<=i):Iq (AV [] all) j i=false:=by
 cases hc:Iq (AV [] all) j i with
 | false=>rfl
 | true =>
  exfalso;unfold Iq at hc;split at hc
  ·rename_i h
   have:=U7 hG j p i hp h;omega
  ·rw[(hG.box i o t e ho hb).1] at hc;simp at hc
theorem zcJ (hw:X.wide=false) (hX:X.ty=AH P) (hE:∀ t,X.cmp t=true->EqOk P t) (hC:SC P X.call) {all:List Oper}{cl:Nat->Bool}{S:Nat->St} (hG:Graph all cl) (hst:∀ (j:Nat) (o:Oper),all[j]?=some o->KO X lo all (Ke all cl) cl j o (S j) (S (j+1)))
  (hkp:∀ (j:Nat) (o:Oper),all[j]?=some o->LF X (Ke all cl) (U2 (AV [] all) all cl) j (S j) (S (j+1))) (hd:∀ (j:Nat) (o:Oper),all[j]?=some o->∀ t,o.dst=some t->t<nt) (ho:Ok lo base nt ρ β (S 0) a w) (hbox:∀ (j:Nat) (o:Oper),all[j]?=some o->YM X cl j o β (S 0).bx):Env P X lo base nt ρ β w all cl S:=by
 have ok:∀ j,j<=all.length->∃ ρ' β' a' w',Ok lo base nt ρ' β' (S j) a' w'/\More ρ β (S 0) w lo base ρ' β' (S j) w'/\∀ i o,j<=i->all[i]?=some o->YM X cl i o β' (S j).bx:=by
  intro j;induction j with
  | zero=>intro _;exact ⟨ρ,β,a,w,ho,⟨Ext.refl _ _ _ _ _,Ble.refl _,Ou⟩,λi o _ hi=>hbox i o hi⟩
  | succ j ih =>
   intro hj;obtain ⟨ρ1,β1,a1,w1,ho1,hm1,hbx1⟩:=ih (by omega);have hg:all[j]?=some all[j]:=zdx (by omega);obtain ⟨ρ2,β2,a2,w2,ho2,hm2,hn2⟩:=(Om hX hE hC (hst j _ hg) (hbx1 j _ (zdj _) hg) (hd j _ hg) ho1).1;refine ⟨ρ2,β2,a2,w2,ho2,hm1.trans hm2,λi o hji ho t e hb=>?_⟩;obtain ⟨k1,k2,k3,k4⟩:=hbx1 i o (by omega) ho t e hb;have hcm:=L0 hG ho hb hg (by omega);refine ⟨k1,k2,?_,WE hG hst hkp ho hb (by omega) (λ_=>hcm) k4⟩;cases h2:β2 t with
   | none=>rfl
   | some r =>
    exfalso;rcases hn2 t r k3 h2 with g | ⟨e',g⟩
    ·rw[k4] at g;cases g
    ·rcases hG.pair j i _ o hg ho (by omega) with g1 | ⟨g1,_⟩
     ·rw[hcm] at g1;cases g1
     ·exact Lv (t:=t) g1 (by rw[(FZ g).2.2.1];simp) (by unfold D0;rw[(FZ hb).2.2.1];simp)
 have ok2:∀ j,j<=all.length->∃ ρ' β' a' w',Ok lo base nt ρ' β' (S j) a' w'/\More ρ β (S 0) w lo base ρ' β' (S j) w':=λj hj=>by obtain ⟨ρ',β',a',w',h1,h2,_⟩:=ok j hj;exact ⟨ρ',β',a',w',h1,h2⟩
 refine ⟨hw,hG,hst,hbox,hd,ok2,λj hj=>?_,λj hj hb b hbl=>?_,λj hj=>hkp j _ (zdx hj)⟩
 ·obtain ⟨ρ,β,a,w,ho,_,hbx⟩:=ok j (by omega);have hg:all[j]?=some all[j]:=zdx hj;exact (Om hX hE hC (hst j _ hg) (hbx j _ (zdj _) hg) (hd j _ hg) ho).2.1
 ·obtain ⟨ρ,β,a,w,ho,_,hbx⟩:=ok j (by omega);have hg:all[j]?=some all[j]:=zdx hj;cases hf:Jc (AV [] all) all cl j with
  | false=>exact (Om hX hE hC (hst j _ hg) (hbx j _ (zdj _) hg) (hd j _ hg) ho).2.2 (by simp[Ke,hf]) b hbl
  | true =>
   have hi:EF all[j]=true\/cl j=true:=by
    cases hi:EF all[j] with
    | true=>exact .inl rfl
    | false =>
     cases hc:cl j with
     | true=>exact .inr rfl
     | false=>exact absurd ⟨hf,⟨_,hg,hi⟩,hc⟩ hb
   rcases hst j _ hg with ⟨hbn,_,v,σ1,h1,h2⟩ | ⟨_,_,h2⟩ | ⟨_,_,_,h2⟩
   ·have:σ1.h=(S j).h:=by
     rcases hi with hi | hi
     ·exact (QH hw (s:=(S j).s) (bx:=(S j).bx) (h:=(S j).h) hi h1).2.1
     ·obtain ⟨t,a,hop,_⟩:=hG.stat j _ hg hi hbn;rw[hop] at h1;exact (Tr (s:=(S j).s) (bx:=(S j).bx) (h:=(S j).h) h1).2.2
    rw[h2];have hh:(putS σ1 all[j].dst v).h=σ1.h:=by cases all[j].dst<;>rfl
    rw[hh,this]
   ·rw[h2];cases all[j].dst<;>rfl
   ·rw[h2];cases all[j].dst<;>rfl
section
variable {all:List Oper}{cl:Nat->Bool}{S:Nat->St}{ρ0:Rho}{β0:Bet}{w0:World} (hV:Env P X lo base nt ρ0 β0 w0 all cl S)
include hV
theorem Env.len_le:∀ {i j:Nat},i<=j->j<=all.length->(S i).h.length<=(S j).h.length:=by
 intro i j hij;induction j with
 | zero=>intro _;rw[show i=0 by omega];exact zdj _
 | succ j ih =>
  intro hj;by_cases e:i=j+1
  ·rw[e];exact zdj _
  ·exact zdh (ih (by omega) (by omega)) (hV.len j (by omega))
theorem Env.same_le {i j:Nat} (hij:i<=j) (hj:j<=all.length) (hb:∀ k,i<=k->k<j->¬ Mn all cl k) {b:Nat} (hbl:b<(S i).h.length):(S j).h[b]?=(S i).h[b]?:=by
 induction j with
 | zero=>rw[show i=0 by omega]
 | succ j ih =>
  by_cases e:i=j+1
  ·rw[e]
  ·rw[hV.same j (by omega) (hb j (by omega) (by omega)) b (zdq hbl (hV.len_le (by omega) (by omega))),ih (by omega) (by omega) λk h1 h2=>hb k h1 (by omega)]
theorem Env.slots {j:Nat}{o:Oper} (ho:all[j]?=some o):∃ v σ1,(S (j+1))=putS σ1 o.dst v/\σ1.s=(S j).s /\
  (∀ t,(AE (S j).bx t).isSome=true->(AE σ1.bx t).isSome=true)/\(¬ Mn all cl j->∀ t row,AE (S j).bx t=some row->AE σ1.bx t=some row):=by
 rcases hV.step j o ho with ⟨hbn,_,v,σ1,h1,h2⟩ | ⟨_,_,h2⟩ | ⟨_,_,_,h2⟩
 ·refine ⟨v,σ1,h2,Nf (s:=(S j).s) (bx:=(S j).bx) (h:=(S j).h) h1,λt ht=>Sy (s:=(S j).s) (bx:=(S j).bx) (h:=(S j).h) h1 ht,λhb t row ht=>?_⟩;refine JM (s:=(S j).s) (bx:=(S j).bx) (h:=(S j).h) h1 (λu x y he=>hb ?_) ht;have hw:FN o=true:=by unfold FN;rw[he]
  refine ⟨hV.G.wr j o ho hw,⟨o,ho,by unfold EF;rw[he]⟩,?_⟩;cases hc:cl j with
  | false=>rfl
  | true =>obtain ⟨t',a',hop,_⟩:=hV.G.stat j o ho hc hbn;rw[hop] at he;cases he
 ·exact ⟨_,S j,h2,rfl,λt ht=>ht,λ_ t row ht=>ht⟩
 ·exact ⟨_,S j,h2,rfl,λt ht=>ht,λ_ t row ht=>ht⟩
omit hV in
theorem Jq (σ:St) (d:Option Nat) (v:V):(putS σ d v).bx=σ.bx:=by cases d<;>rfl
omit hV in
theorem QX (σ:St) (d:Option Nat) (v:V):(putS σ d v).h=σ.h:=by cases d<;>rfl
theorem Env.bx_some {i j:Nat} (hij:i<=j) (hj:j<=all.length) {t:Nat} (ht:(AE (S i).bx t).isSome=true):(AE (S j).bx t).isSome=true:=by
 induction j with
 | zero=>rw[show 0=i by omega];exact ht
 | succ j ih =>
  by_cases e:i=j+1
  ·rw[<- e];exact ht
  ·obtain ⟨v,σ1,h1,_,h2,_⟩:=hV.slots (zdx (show j<all.length by omega));rw[h1,Jq];exact h2 t (ih (by omega) (by omega))
theorem Env.bx_same {i j:Nat} (hij:i<=j) (hj:j<=all.length) (hb:∀ k,i<=k->k<j->¬ Mn all cl k) {t:Nat}{row:List V} (ht:AE (S i).bx t=some row):AE (S j).bx t=some row:=by
 induction j with
 | zero=>rw[show 0=i by omega];exact ht
 | succ j ih =>
  by_cases e:i=j+1
  ·rw[<- e];exact ht
  ·obtain ⟨v,σ1,h1,_,_,h2⟩:=hV.slots (zdx (show j<all.length by omega));rw[h1,Jq];exact h2 (hb j (by omega) (by omega)) t row (ih (by omega) (by omega) λk h1 h2=>hb k h1 (by omega))
theorem Env.slot_same {i p t:Nat} (hip:i<=p) (hp:p<=all.length) (hw:∀ j,i<=j->j<p->¬ Wr all j t):DB (S p).s t=DB (S i).s t:=by
 induction p with
 | zero=>rw[show i=0 by omega]
 | succ p ih =>
  by_cases e:i=p+1
  ·rw[e]
  ·have hg:all[p]?=some all[p]:=zdx (by omega);obtain ⟨v,σ1,h1,h2,_⟩:=hV.slots hg;rw[<- ih (by omega) (by omega) λj h1 h2=>hw j h1 (by omega),h1];have hne:all[p].dst≠some t:=λh=>hw p (by omega) (by omega) ⟨_,hg,h⟩;cases hd:all[p].dst with
   | none=>simp only[putS];rw[h2]
   | some u =>simp only[putS,Hl];rw[if_neg (λh=>hne (by rw[hd,h])),h2]
end
end
end Go.Proofs.YtmgopagfoemomaaGreat.T
namespace Go.Proofs.YtmgopagfoemomaaGreat.T
open Go
def Rho.low (ρ:Rho) (n:Nat):Rho:=λb=>if b<n then ρ b else none
theorem Rho.low_some {ρ:Rho}{n b:Nat}{e:E} (h:ρ.low n b=some e):b<n/\ρ b=some e:=by
 unfold Rho.low at h;split at h
 ·exact ⟨‹_›,h⟩
 ·cases h
theorem Rho.low_of {ρ:Rho}{n b:Nat}{e:E} (hb:b<n) (h:ρ b=some e):ρ.low n b=some e:=by unfold Rho.low;rw[if_pos hb,h]
theorem Rho.low_le (ρ:Rho) (n:Nat):Rle (ρ.low n) ρ:=λb e h=>(Rho.low_some h).2
section
variable {ρ ρt:Rho}{N:Nat}
mutual
theorem VR.low (hN:∀ b e,ρt b=some e->b<N):∀ (x:V) (c ct:Value),VR ρt x ct->VR ρ x c->VR (ρ.low N) x c
 | .int _ _,_,_,_,h=>by simpa [VR] using h
 | .bool _,_,_,_,h=>by simpa [VR] using h
 | .str _,_,_,_,h=>by simpa [VR] using h
 | .nilf,_,_,_,h=>by simpa [VR] using h
 | .nili,_,_,_,h=>by simpa [VR] using h
 | .any,_,_,_,_=>by simp[VR]
 | .ptr none,_,_,_,h=>by simpa [VR] using h
 | .ptr (some (b,i,j)),_,_,ht,h=>by simp only[VR] at ht h ⊢;obtain ⟨et,hb,_⟩:=ht;obtain ⟨e,he,hv⟩:=h;exact ⟨e,Rho.low_of (hN b et hb) he,hv⟩
 | .lp _ _,_,_,_,h=>by simp[VR] at h
 | .sl _ none _ _,_,_,_,h=>by simpa [VR] using h
 | .sl _ (some (b,i)) _ _,_,_,ht,h=>by simp only[VR] at ht h ⊢;obtain ⟨et,_,_,hb,_⟩:=ht;obtain ⟨e,x,cc,he,hv⟩:=h;exact ⟨e,x,cc,Rho.low_of (hN b et hb) he,hv⟩
 | .map none,_,_,_,h=>by simpa [VR] using h
 | .map (some b),_,_,ht,h=>by simp only[VR] at ht h ⊢;obtain ⟨et,hb,_⟩:=ht;obtain ⟨e,he,hv⟩:=h;exact ⟨e,Rho.low_of (hN b et hb) he,hv⟩
 | .fn _ cs,_,_,ht,h=>by simp only[VR] at ht h ⊢;obtain ⟨_,_,yt,_,_,hct⟩:=ht;obtain ⟨fst,cps,ys,hv,hi,hc⟩:=h;exact ⟨fst,cps,ys,hv,hi,VRs.low hN cs _ _ hct hc⟩
 | .ifc _ x,_,_,ht,h=>by simp only[VR] at ht h ⊢;obtain ⟨yt,_,hct⟩:=ht;obtain ⟨y,hv,hc⟩:=h;exact ⟨y,hv,VR.low hN x _ _ hct hc⟩
 | .agg cs,_,_,ht,h=>by simp only[VR] at ht h ⊢;obtain ⟨yt,_,hct⟩:=ht;obtain ⟨ys,hv,hc⟩:=h;exact ⟨ys,hv,VRs.low hN cs _ _ hct hc⟩
 | .tup cs,_,_,ht,h=>by simp only[VR] at ht h ⊢;obtain ⟨yt,_,hct⟩:=ht;obtain ⟨ys,hv,hc⟩:=h;exact ⟨ys,hv,VRs.low hN cs _ _ hct hc⟩
theorem VRs.low (hN:∀ b e,ρt b=some e->b<N):∀ (xs:List V) (cs ct:List Value),VRs ρt xs ct->VRs ρ xs cs->VRs (ρ.low N) xs cs
 | [],_,_,_,h=>by simpa [VRs] using h
 | x :: xs,_,_,ht,h=>by simp only[VRs] at ht h ⊢;obtain ⟨yt,rt,_,h1t,h2t⟩:=ht;obtain ⟨y,r,hy,h1,h2⟩:=h;exact ⟨y,r,hy,VR.low hN x _ _ h1t h1,VRs.low hN xs _ _ h2t h2⟩
end
variable (hN:∀ b e,ρt b=some e->b<N)
include hN
theorem KVR.low:∀ (kv:List (V×V)) (es et:List MapEntry),KVR ρt kv et->KVR ρ kv es->KVR (ρ.low N) kv es
 | [],_,_,_,h=>by simpa [KVR] using h
 | (k,v) :: r,_,_,ht,h=>by simp only[KVR] at ht h ⊢;obtain ⟨yt,rt,_,h1t,h2t,h3t⟩:=ht;obtain ⟨e,t,he,h1,h2,h3⟩:=h;exact ⟨e,t,he,VR.low hN _ _ _ h1t h1,VR.low hN _ _ _ h2t h2,KVR.low r _ _ h3t h3⟩
theorem BR.low {e et:E}{w wt:World}:∀ {k:Blk},BR ρt et k wt->BR ρ e k w->BR (ρ.low N) e k w
 | .rows R el ro rs,ht,h=>by obtain ⟨ct,ft,_,_,_,_,_,_,h7t,_⟩:=ht;obtain ⟨cs,fr,h1,h2,h3,h4,h5,h6,h7,h8⟩:=h;refine ⟨cs,fr,h1,h2,h3,h4,h5,h6,λi row hi=>⟨(h7 i row hi).1,λj v hv=>?_⟩,h8⟩;obtain ⟨c,g1,g2⟩:=(h7 i row hi).2 j v hv;obtain ⟨c',_,g3⟩:=(h7t i row hi).2 j v hv;exact ⟨c,g1,VR.low hN _ _ _ g3 g2⟩
 | .map _ kv,ht,h=>by obtain ⟨_,_,_,h2t⟩:=ht;obtain ⟨es,clock,h1,h2⟩:=h;exact ⟨es,clock,h1,KVR.low hN _ _ _ h2t h2⟩
 | .dead,_,_=>trivial
end
end Go.Proofs.YtmgopagfoemomaaGreat.T
namespace Go.Proofs.YtmgopagfoemomaaGreat.T
open Go
structure Ext0 (lo base:Nat) (ρ:Rho) (n:Nat) (w:World) (ρ':Rho) (w':World):Prop where
 rle:Rle ρ ρ'
 new:∀ b e,ρ b=none->ρ' b=some e->n<=b/\(base<=e.r\/∃ b0 e0,ρ b0=some e0/\lo<=b0/\e0.r=e.r)
 frame:∀ r,r<base->(∀ b e,ρ b=some e->lo<=b->e.r≠r)->w'.heap[r]?=w.heap[r]?
 size:w.heap.size<=w'.heap.size
 os:w'.os=w.os
 tape:w'.tape=w.tape
 output:w'.output=w.output
def BxOk (all:List Oper) (cl:Nat->Bool) (S:Nat->St) (β0:Bet) (L:Nat->Prop) (t:Nat):Prop:=(∃ r0,β0 t=some r0)\/(∃ j,j<all.length/\L j/\AE (S j).bx t=none/\(AE (S (j+1)).bx t).isSome=true)\/(∃ j o e,L j/\all[j]?=some o/\EH cl j o=some (t,e))
theorem BxOk.more {all:List Oper}{cl:Nat->Bool}{S:Nat->St}{β0:Bet}{L:Nat->Prop}{t i:Nat} (h:BxOk all cl S β0 L t):BxOk all cl S β0 (λj=>L j\/j=i) t:=by
 rcases h with h | ⟨j,h1,h2,h3⟩ | ⟨j,o,e,h1,h2⟩
 ·exact .inl h
 ·exact .inr (.inl ⟨j,h1,.inl h2,h3⟩)
 ·exact .inr (.inr ⟨j,o,e,.inl h1,h2⟩)
structure Inv (lo base nt:Nat) (ρ0:Rho) (β0:Bet) (w0:World) (all:List Oper) (cl:Nat->Bool) (S:Nat->St) (L:Nat->Prop) (q:Nat) (ρ:Rho) (β:Bet) (a:Act) (w:World):Prop where
 q1:q<=all.length
 q2:q<all.length->Mn all cl q/\¬ L q
 q3:∀ j,j<q->Mn all cl j->L j
 h:HRel ρ (S q).h w
 f:FRel ρ β (S q).bx w
 s:∀ t p,p<=all.length->(∀ j,Wr all j t->(L j<->j<p))->SV ρ β (DB (S p).s t) (a.tmps.getD t undef)
 own:∀ t r,β t=some r->base<=r
 hB:base<=w.heap.size
 nt:a.tmps.size=nt
 df:a.defers = []
 x:Ext0 lo base ρ0 (S 0).h.length w0 ρ w
 tot:∀ j,j<all.length->L j->∀ b,(S j).h.length<=b->b<(S (j+1)).h.length->∃ e,ρ b=some e
 ids:∀ b e,ρ b=some e->b<(S 0).h.length\/∃ j,j<all.length/\L j/\(S j).h.length<=b/\b<(S (j+1)).h.length
 bxs:∀ t r,β t=some r->BxOk all cl S β0 L t
theorem Lj:∀ (ts:List Nat) (s:List (Nat×V)) (t:Nat),DB (Mj ts s) t=if t∈ts then DB s t else .any
 | [],s,t=>rfl
 | u :: ts,s,t=>by
  simp only[Mj,Hl];by_cases h:u=t
  ·subst h;simp
  ·rw[if_neg h,Lj ts s t];have:t≠u:=Ne.symm h;simp[this]
theorem Mq:∀ {xs:List Operand}{t:Nat},Operand.tmp t∈xs->t∈Lg xs
 | [],t,h=>by simp at h
 | x :: xs,t,h=>by
  cases x<;>simp only[Lg,zdm] at h ⊢
  ·rcases h with h | h
   ·injection h with h;exact .inl h
   ·exact .inr (Mq h)
  all_goals (rcases h with h | h;cases h;exact Mq h)
theorem RM {xs:List Operand}{s:List (Nat×V)}:∀ x∈xs,ev (Mj (Lg xs) s) x=ev s x:=λx hx=>by
 cases x with
 | tmp t=>simp only[ev];rw[Lj,if_pos (Mq hx)]
 | _=>rfl
section
variable {P:Program}{X:Ctx}{lo base nt:Nat}{ρ0:Rho}{β0:Bet}{w0:World}{all:List Oper}{cl:Nat->Bool}{S:Nat->St} (hV:Env P X lo base nt ρ0 β0 w0 all cl S)
variable {L:Nat->Prop}{q:Nat}{ρ:Rho}{β:Bet}{a:Act}{w:World} (hI:Inv lo base nt ρ0 β0 w0 all cl S L q ρ β a w)
variable (hcl:∀ (i:Nat) (o:Oper),all[i]?=some o->L i->∀ e∈o.after.toList,Dm e=true->L e.on)
variable {i:Nat}{o:Oper} (ho:all[i]?=some o) (hready:∀ e∈o.after.toList,Dm e=true->L e.on) (hn:¬ L i)
def Bet.low (βt:Bet) (β:Bet):Bet:=λt=>if (βt t).isSome=true then β t else none
theorem Bet.low_some {βt:Bet}{β:Bet}{t r:Nat} (h:Bet.low βt β t=some r):(βt t).isSome=true/\β t=some r:=by
 unfold Bet.low at h;split at h
 ·exact ⟨‹_›,h⟩
 ·cases h
theorem Bet.low_of {βt:Bet}{β:Bet}{t r:Nat} (hb:(βt t).isSome=true) (h:β t=some r):Bet.low βt β t=some r:=by unfold Bet.low;rw[if_pos hb,h]
include hV hI in
theorem zbG (hiq:i<=q) (hnb:∀ k,i<=k->k<q->¬ Mn all cl k) :
  ∃ βt:Bet,(∀ t r,β0 t=some r->βt t=some r)/\HRel (ρ.low (S i).h.length) (S i).h w/\FRel (ρ.low (S i).h.length) (Bet.low βt β) (S i).bx w /\
   ∀ t c,SV ρ β (DB (S i).s t) c->SV (ρ.low (S i).h.length) (Bet.low βt β) (DB (S i).s t) c:=by
 obtain ⟨ρt,βt,at',wt,hot,hmt⟩:=hV.ok i (zdh hiq hI.q1);refine ⟨βt,λt r hr=>hmt.2.1 t r hr,?_⟩;have hN:∀ b e,ρt b=some e->b<(S i).h.length:=λb e hb=>(hot.h.dom b e hb).1
 have htot:∀ b e,ρ b=some e->b<(S i).h.length->∃ et,ρt b=some et:=by
  intro b e hb hlt;by_cases h0:b<(S 0).h.length
  ·cases h:ρ0 b with
   | none=>have:=(hI.x.new b e h hb).1;omega
   | some e0=>exact ⟨e0,hmt.1.rle b e0 h⟩
  ·exact hmt.1.tot b (by omega) hlt
 refine ⟨⟨λb e hb=>?_,λb e k hb hk=>?_,λb b' e e' hb hb' hr hne=>?_⟩,⟨λt r hr=>?_,λt r hr=>?_,λt t' r h1 h2=>?_,λt r b e h1 h2=>?_⟩,λt c hc=>?_⟩
 ·obtain ⟨h1,h2⟩:=Rho.low_some hb;exact ⟨h1,(hI.h.dom b e h2).2⟩
 ·obtain ⟨h1,h2⟩:=Rho.low_some hb;obtain ⟨et,het⟩:=htot b e h2 h1;have hk':(S q).h[b]?=some k:=by rw[hV.same_le hiq hI.q1 hnb h1];exact hk
  exact BR.low hN (hot.h.blk b et k het hk) (hI.h.blk b e k h2 hk')
 ·obtain ⟨h1,h2⟩:=Rho.low_some hb;obtain ⟨h3,h4⟩:=Rho.low_some hb';have e1:=hV.same_le hiq hI.q1 hnb h1;have e2:=hV.same_le hiq hI.q1 hnb h3;rcases hI.h.inj b b' e e' h2 h4 hr hne with h | h | ⟨⟨x,y,z,h⟩,⟨x',y',z',h'⟩⟩
  ·exact .inl (by unfold B6 at *;rw[<- e1];exact h)
  ·exact .inr (.inl (by unfold B6 at *;rw[<- e2];exact h))
  ·exact .inr (.inr ⟨⟨x,y,z,by rw[<- e1];exact h⟩,⟨x',y',z',by rw[<- e2];exact h'⟩⟩)
 ·obtain ⟨h1,h2⟩:=Bet.low_some hr;obtain ⟨row,cs,el,g1,g2,g3⟩:=hI.f.has t r h2;obtain ⟨rt,hrt⟩:=Option.isSome_iff_exists.1 h1;obtain ⟨rowt,ct,elt,k1,k2,k3⟩:=hot.f.has t rt hrt;have:=hV.bx_same hiq hI.q1 hnb k1;rw[g1] at this;injection this with this;subst this;exact ⟨row,cs,el,k1,g2,VRs.low hN _ _ _ k3 g3⟩
 ·exact hI.f.lt t r (Bet.low_some hr).2
 ·exact hI.f.inj t t' r (Bet.low_some h1).2 (Bet.low_some h2).2
 ·exact hI.f.off t r b e (Bet.low_some h1).2 (Rho.low_some h2).2
 ·have ht:=hot.s t;generalize hv:DB (S i).s t=v at hc ht;cases v with
  | lp u j =>obtain ⟨r,h1,h2⟩:=hc;obtain ⟨rt,h3,_⟩:=ht;exact ⟨r,Bet.low_of (by rw[h3];rfl) h1,h2⟩
  | _=>exact VR.low hN _ c (at'.tmps.getD t undef) ht hc
include hV hI hcl ho hready hn in
theorem Or {t:Nat} (ht:t∈D0 all o):SV ρ β (DB (S i).s t) (a.tmps.getD t undef) :=
 hI.s t i (zd9 (zdk.1 ho).1) λj hw=>Nb hV.G hcl ho hready hn ht hw
include hV hI hcl ho hready hn in
theorem IV {v:V}{σ1:St}{c:Value}{ρ2:Rho}{β2:Bet} (hS:S (i+1)=putS σ1 o.dst v) (h1:σ1.s=(S i).s) (hr:Rle ρ ρ2) (hb:Ble β β2) (hv:SV ρ2 β2 v c) :
  ∀ t p,p<=all.length->(∀ j,Wr all j t->((L j\/j=i)<->j<p))->SV ρ2 β2 (DB (S p).s t) ((a.put o.dst c).tmps.getD t undef):=by
 intro t p hp hw;by_cases hd:o.dst=some t
 ·have hip:i<p:=(hw i ⟨o,ho,hd⟩).1 (.inr rfl);have hno:∀ j,i+1<=j->j<p->¬ Wr all j t:=λj h2 h3 hwr=>by
   have hL:=(hw j hwr).2 h3;have ht:t∈D0 all o:=by unfold D0;rw[hd];simp
   have:=Nb hV.G hcl ho hready hn ht hwr;rcases hL with hL | hL
   ·have:=this.1 hL;omega
   ·omega
  rw[hV.slot_same (i:=i+1) hip hp hno,hS,hd];have hlt:t<a.tmps.size:=by rw[hI.nt];exact hV.dst i o ho t hd
  simp only[putS,Hl,if_true,Act.put];rw[zdB,Array.getElem?_setIfInBounds_self_of_lt hlt];exact hv
 ·have hold:SV ρ β (DB (S p).s t) (a.tmps.getD t undef):=hI.s t p hp λj hwr=>by
   have hne:j≠i:=λe=>by subst e;obtain ⟨q',h2,h3⟩:=hwr;rw[ho] at h2;injection h2 with h2;subst h2;exact hd h3
   rw[<- hw j hwr];exact ⟨.inl,λh=>h.resolve_right hne⟩
  have:(a.put o.dst c).tmps.getD t undef=a.tmps.getD t undef:=by
   cases hd':o.dst with
   | none=>rfl
   | some u =>have hne:u≠t:=λe=>hd (by rw[hd',e]);simp only[Act.put];rw[zdB,Array.getElem?_setIfInBounds_ne hne,<- zdB]
  rw[this];exact hold.mono hr hb
end
end Go.Proofs.YtmgopagfoemomaaGreat.T
namespace Go.Proofs.YtmgopagfoemomaaGreat.T
open Go
variable {w':World}
theorem HRel.ahead {ρ:Rho}{h h':Heap}{w:World} (hh:HRel ρ h w) (hl:h.length<=h'.length) (hs:∀ b,b<h.length->h'[b]?=h[b]?):HRel ρ h' w where
 dom:=λb e hb=>⟨zdq (hh.dom b e hb).1 hl,(hh.dom b e hb).2⟩
 blk:=λb e k hb hk=>hh.blk b e k hb (by rw[<- hs b (hh.dom b e hb).1];exact hk)
 inj:=λb b' e e' h1 h2 hr hne=>by
  have s1:=hs b (hh.dom b e h1).1;have s2:=hs b' (hh.dom b' e' h2).1;rcases hh.inj b b' e e' h1 h2 hr hne with h | h | ⟨⟨x,y,z,h⟩,⟨x',y',z',h'⟩⟩
  ·exact .inl (by unfold B6 at *;rw[s1];exact h)
  ·exact .inr (.inl (by unfold B6 at *;rw[s2];exact h))
  ·exact .inr (.inr ⟨⟨x,y,z,by rw[s1];exact h⟩,⟨x',y',z',by rw[s2];exact h'⟩⟩)
theorem FRel.ahead {ρ:Rho}{β:Bet}{bx bx':List (Nat×List V)}{w:World} (hf:FRel ρ β bx w) (hs:∀ t row,AE bx t=some row->AE bx' t=some row):FRel ρ β bx' w :=
 ⟨λt r hr=>by obtain ⟨row,cs,el,h1,h2,h3⟩:=hf.has t r hr;exact ⟨row,cs,el,hs t row h1,h2,h3⟩,hf.lt,hf.inj,hf.off⟩
section
variable {P:Program}{X:Ctx}{lo base nt:Nat}{ρ0:Rho}{β0:Bet}{w0:World}{all:List Oper}{cl:Nat->Bool}{S:Nat->St} (hV:Env P X lo base nt ρ0 β0 w0 all cl S)
include hV in
theorem YK {L:Nat->Prop}{ρ:Rho}{β:Bet}{w:World}:∀ (d p:Nat),all.length - p=d->p<=all.length->(∀ j,j<p->Mn all cl j->L j)->(∀ j,p<=j->Mn all cl j->¬ L j)->HRel ρ (S p).h w->FRel ρ β (S p).bx w ->
  ∃ q,q<=all.length/\(q<all.length->Mn all cl q/\¬ L q)/\(∀ j,j<q->Mn all cl j->L j)/\HRel ρ (S q).h w/\FRel ρ β (S q).bx w:=by
 intro d;induction d with
 | zero=>intro p hd hp h1 h2 hh hf;exact ⟨p,hp,λh=>by omega,h1,hh,hf⟩
 | succ d ih =>
  intro p hd hp h1 h2 hh hf;by_cases hb:Mn all cl p
  ·exact ⟨p,hp,λ_=>⟨hb,h2 p (zdj _) hb⟩,h1,hh,hf⟩
  ·refine ih (p+1) (by omega) (by omega) (λj hj hbj=>?_) (λj hj=>h2 j (by omega)) (hh.ahead (hV.len p (by omega)) (hV.same p (by omega) hb)) (hf.ahead λt row ht=>?_)
   ·rcases Nat.lt_or_ge j p with h | h
    ·exact h1 j h hbj
    ·have:j=p:=by omega
     subst this;exact absurd hbj hb
   ·exact hV.bx_same (Nat.le_succ p) (by omega) (λk h3 h4=>by
                                    have:k=p:=by omega
                                    subst this;exact hb) ht
variable {L:Nat->Prop}{q:Nat}{ρ:Rho}{β:Bet}{a:Act}{w:World} (hI:Inv lo base nt ρ0 β0 w0 all cl S L q ρ β a w)
variable (hcl:∀ (i:Nat) (o:Oper),all[i]?=some o->L i->∀ e∈o.after.toList,Dm e=true->L e.on)
variable {i:Nat}{o:Oper} (ho:all[i]?=some o) (hready:∀ e∈o.after.toList,Dm e=true->L e.on) (hn:¬ L i)
include hV hcl ho hready hn in
theorem Qx {j:Nat} (hb:Mn all cl j) (hi:EF o=false) (hci:cl i=false) (hne:j≠i):L j<->j<i:=by obtain ⟨hf,⟨p,hp,hpi⟩,hpc⟩:=hb;exact KF hV.G hcl ho hp hready hn hne (.inr (T6 hf ho (Ne.symm hne) hi hci))
include hV hI hcl ho hready hn in
theorem U8 (hb:Mn all cl i):i=q:=by
 have hi:EF o=false:=by obtain ⟨_,⟨p,hp,hpi⟩,_⟩:=hb;rw[ho] at hp;injection hp with hp;subst hp;exact hpi
 have hci:cl i=false:=hb.2.2;have hil:i<all.length:=(zdk.1 ho).1;rcases Nat.lt_trichotomy i q with h | h | h
 ·exact absurd (hI.q3 i h hb) hn
 ·exact h
 ·obtain ⟨h1,h2⟩:=hI.q2 (by omega);exact absurd ((Qx hV hcl ho hready hn h1 hi hci (by omega)).2 h) h2
include hV hI hcl ho hready hn in
theorem za7 (hb:¬ Mn all cl i) (hi:EF o=false) (hci:cl i=false):i<q/\∀ k,i<=k->k<q->¬ Mn all cl k:=by
 have hil:i<all.length:=(zdk.1 ho).1;have h1:i<q:=by
  rcases Nat.lt_trichotomy i q with h | h | h
  ·exact h
  ·subst h;exact absurd (hI.q2 hil).1 hb
  ·obtain ⟨h1,h2⟩:=hI.q2 (by omega);exact absurd ((Qx hV hcl ho hready hn h1 hi hci (by omega)).2 h) h2
 refine ⟨h1,λk h2 h3 hk=>?_⟩;have hne:k≠i:=λe=>by subst e;exact hb hk
 have:=(Qx hV hcl ho hready hn hk hi hci hne).1 (hI.q3 k h3 hk);omega
include hV hI hcl ho hready hn in
theorem Yo (hb:Mn all cl i) {ρ2:Rho}{β2:Bet}{a':Act} (hh:HRel ρ2 (S (i+1)).h w') (hf:FRel ρ2 β2 (S (i+1)).bx w')
  (hs:∀ t p,p<=all.length->(∀ j,Wr all j t->((L j\/j=i)<->j<p))->SV ρ2 β2 (DB (S p).s t) (a'.tmps.getD t undef)) (own:∀ t r,β2 t=some r->base<=r) (hB:base<=w'.heap.size) (hnt:a'.tmps.size=nt) (hdf:a'.defers = [])
  (hx:Ext0 lo base ρ0 (S 0).h.length w0 ρ2 w') (htot:∀ j,j<all.length->(L j\/j=i)->∀ b,(S j).h.length<=b->b<(S (j+1)).h.length->∃ e,ρ2 b=some e)
  (hids:∀ b e,ρ2 b=some e->b<(S 0).h.length\/∃ j,j<all.length/\(L j\/j=i)/\(S j).h.length<=b/\b<(S (j+1)).h.length)
  (hbxs:∀ t r,β2 t=some r->BxOk all cl S β0 (λj=>L j\/j=i) t) :
  ∃ q',Inv lo base nt ρ0 β0 w0 all cl S (λj=>L j\/j=i) q' ρ2 β2 a' w':=by
 have hil:i<all.length:=(zdk.1 ho).1;have hi:EF o=false:=by obtain ⟨_,⟨p,hp,hpi⟩,_⟩:=hb;rw[ho] at hp;injection hp with hp;subst hp;exact hpi
 have hci:cl i=false:=hb.2.2;have hq:=U8 hV hI hcl ho hready hn hb;obtain ⟨q',g1,g2,g3,g4,g5⟩:=YK hV (L:=λj=>L j\/j=i) (ρ:=ρ2) (β:=β2) (w:=w') _ (i+1) rfl hil (λj hj hbj=>by
   by_cases e:j=i
   ·exact .inr e
   ·exact .inl (hI.q3 j (by omega) hbj)) (λj hj hbj=>by
   rintro (h | h)
   ·have:=(Qx hV hcl ho hready hn hbj hi hci (by omega)).1 h;omega
   ·omega) hh hf
 exact ⟨q',g1,g2,g3,g4,g5,hs,own,hB,hnt,hdf,hx,htot,hids,hbxs⟩
include hI in
theorem Qt (hb:¬ Mn all cl i) {ρ2:Rho}{β2:Bet}{a':Act} (hh:HRel ρ2 (S q).h w') (hf:FRel ρ2 β2 (S q).bx w')
  (hs:∀ t p,p<=all.length->(∀ j,Wr all j t->((L j\/j=i)<->j<p))->SV ρ2 β2 (DB (S p).s t) (a'.tmps.getD t undef)) (own:∀ t r,β2 t=some r->base<=r) (hB:base<=w'.heap.size) (hnt:a'.tmps.size=nt) (hdf:a'.defers = [])
  (hx:Ext0 lo base ρ0 (S 0).h.length w0 ρ2 w') (htot:∀ j,j<all.length->(L j\/j=i)->∀ b,(S j).h.length<=b->b<(S (j+1)).h.length->∃ e,ρ2 b=some e)
  (hids:∀ b e,ρ2 b=some e->b<(S 0).h.length\/∃ j,j<all.length/\(L j\/j=i)/\(S j).h.length<=b/\b<(S (j+1)).h.length)
  (hbxs:∀ t r,β2 t=some r->BxOk all cl S β0 (λj=>L j\/j=i) t) :
  ∃ q',Inv lo base nt ρ0 β0 w0 all cl S (λj=>L j\/j=i) q' ρ2 β2 a' w' :=
 ⟨q,hI.q1,λh=>⟨(hI.q2 h).1,λhL=>hL.elim (hI.q2 h).2 λe=>hb (e ▸ (hI.q2 h).1)⟩,λj hj hbj => .inl (hI.q3 j hj hbj),hh,hf,hs,own,hB,hnt,hdf,hx,htot,hids,hbxs⟩
include hI in
theorem ED {c:Value}:(a.put o.dst c).tmps.size=nt/\(a.put o.dst c).defers = []:=by cases o.dst<;>simp[Act.put,hI.nt,hI.df]
include hV hI hcl ho hready hn in
theorem zaw (hS:S (i+1)=putS (S i) o.dst (.tup [])):∃ q',Inv lo base nt ρ0 β0 w0 all cl S (λj=>L j\/j=i) q' ρ β (a.put o.dst undef) w:=by
 have hh:(S (i+1)).h=(S i).h:=by rw[hS,QX]
 have hbx:(S (i+1)).bx=(S i).bx:=by rw[hS,Jq]
 have hs:=IV hV hI hcl ho hready hn hS rfl (Rle.refl ρ) (Ble.refl β) (c:=undef) (SV.of (by simp[VR,VRs,undef]));have htot:∀ j,j<all.length->(L j\/j=i)->∀ b,(S j).h.length<=b->b<(S (j+1)).h.length->∃ e,ρ b=some e:=λj hj hL b h1 h2=>by
  rcases hL with hL | rfl
  ·exact hI.tot j hj hL b h1 h2
  ·rw[hh] at h2;omega
 have hids:∀ b e,ρ b=some e->b<(S 0).h.length\/∃ j,j<all.length/\(L j\/j=i)/\(S j).h.length<=b/\b<(S (j+1)).h.length:=λb e hb =>
  (hI.ids b e hb).imp id λ⟨j,h1,h2,h3⟩=>⟨j,h1,.inl h2,h3⟩
 have hbxs:∀ t r,β t=some r->BxOk all cl S β0 (λj=>L j\/j=i) t:=λt r hb=>(hI.bxs t r hb).more
 by_cases hb:Mn all cl i
 ·have hq:=U8 hV hI hcl ho hready hn hb;exact Yo hV hI hcl ho hready hn hb (by rw[hh,hq];exact hI.h) (by rw[hbx,hq];exact hI.f) hs hI.own hI.hB (ED hI).1 (ED hI).2 hI.x htot hids hbxs
 ·exact Qt hI hb hI.h hI.f hs hI.own hI.hB (ED hI).1 (ED hI).2 hI.x htot hids hbxs
end
end Go.Proofs.YtmgopagfoemomaaGreat.T
namespace Go.Proofs.YtmgopagfoemomaaGreat.T
open Go
variable {v:V}{σ1:St}
theorem V9 {o:Oper} (h:EF o=true):FN o=false:=by
 obtain ⟨dst,op,ty,pos,after,guard⟩:=o;cases op<;>simp only[EF] at h<;>(try cases h)<;>simp only[FN]
 rename_i c
 obtain ⟨callee,args0,ts⟩:=c;cases callee<;>simp only at h ⊢
 rename_i b
 cases b<;>simp_all
section
variable {P:Program}{X:Ctx}{lo base nt:Nat}{ρ0:Rho}{β0:Bet}{w0:World}{all:List Oper}{cl:Nat->Bool}{S:Nat->St} (hV:Env P X lo base nt ρ0 β0 w0 all cl S)
variable {L:Nat->Prop}{q:Nat}{ρ:Rho}{β:Bet}{a:Act}{w:World} (hI:Inv lo base nt ρ0 β0 w0 all cl S L q ρ β a w)
variable (hcl:∀ (i:Nat) (o:Oper),all[i]?=some o->L i->∀ e∈o.after.toList,Dm e=true->L e.on)
variable {i:Nat}{o:Oper} (ho:all[i]?=some o) (hready:∀ e∈o.after.toList,Dm e=true->L e.on) (hn:¬ L i)
variable (hX:X.ty=AH P) (hE:∀ t,X.cmp t=true->EqOk P t) (hC:SC P X.call)
variable {K:Act->World->Prop}{Q:Exit->Act->World->Prop}
 (hK:∀ q' ρ' β' a' w',Inv lo base nt ρ0 β0 w0 all cl S (λj=>L j\/j=i) q' ρ' β' a' w'->K a' w')
def rd (o:Oper) (s:List (Nat×V)):List (Nat×V):=Mj (Lg o.op.operands.toList) s
include hV hI hcl ho hready hn in
theorem Ux {ρ':Rho}{β':Bet} (h:∀ t c,SV ρ β (DB (S i).s t) c->SV ρ' β' (DB (S i).s t) c):SRel ρ' β' (rd o (S i).s) a:=by
 intro t;unfold rd;rw[Lj];split
 ·rename_i ht
  exact h t _ (Or hV hI hcl ho hready hn (by unfold D0 Uv;simp[ht]))
 ·exact SV.of (VR.any _)
include hI in
theorem LT {ρ2:Rho}{w':World} (h:Rle ρ ρ2) (hnew:∀ b e,ρ b=none->ρ2 b=some e->(S 0).h.length<=b/\(base<=e.r\/∃ b0 e0,ρ b0=some e0/\lo<=b0/\e0.r=e.r))
  (hfr:∀ r,r<base->(∀ b e,ρ b=some e->lo<=b->e.r≠r)->w'.heap[r]?=w.heap[r]?) (hs:w.heap.size<=w'.heap.size) (h1:w'.os=w.os) (h2:w'.tape=w.tape) (h3:w'.output=w.output):Ext0 lo base ρ0 (S 0).h.length w0 ρ2 w' where
 rle:=hI.x.rle.trans h
 new:=λb e hb he=>by
  cases hρ:ρ b with
  | some e1 =>have:=h b e1 hρ;rw[he] at this;injection this with this;subst this;exact hI.x.new b _ hb hρ
  | none =>
   obtain ⟨g1,g2⟩:=hnew b e hρ he;refine ⟨g1,?_⟩;rcases g2 with g2 | ⟨b0,e0,g3,g4,g5⟩
   ·exact .inl g2
   ·cases h0:ρ0 b0 with
    | some e1 =>have:=hI.x.rle b0 e1 h0;rw[g3] at this;injection this with this;subst this;exact .inr ⟨b0,_,h0,g4,g5⟩
    | none =>
     rcases (hI.x.new b0 e0 h0 g3).2 with g6 | ⟨b1,e1,g6,g7,g8⟩
     ·exact .inl (by omega)
     ·exact .inr ⟨b1,e1,g6,g7,g8.trans g5⟩
 frame:=λr hr hf=>by
  refine (hfr r hr λb e hb hlo he=>?_).trans (hI.x.frame r hr hf);cases h0:ρ0 b with
  | some e1 =>have:=hI.x.rle b e1 h0;rw[hb] at this;injection this with this;subst this;exact hf b _ h0 hlo he
  | none =>
   rcases (hI.x.new b e h0 hb).2 with g6 | ⟨b1,e1,g6,g7,g8⟩
   ·omega
   ·exact hf b1 e1 g6 g7 (g8.trans he)
 size:=zdh hI.x.size hs
 os:=h1.trans hI.x.os
 tape:=h2.trans hI.x.tape
 output:=h3.trans hI.x.output
include hV hI hcl ho hready hn hX hE hC hK in
theorem Tx (hw0:FN o=false) (hnb:¬ Mn all cl i) {lo':Nat} (h1:AJ X lo' o.dst o.type o.op (S i)=some (v,σ1)) (e2:σ1.h=(S i).h)
  (hk:AJ X (S q).h.length o.dst o.type o.op ⟨(S i).s,(S q).bx,(S q).h⟩=some (v,⟨(S i).s,(S q).bx,(S q).h⟩)) (hS:S (i+1)=putS σ1 o.dst v):o.wp P a w K Q:=by
 have hsl:=IH (s':=rd o (S i).s) (λx hx=>RM x hx) hk;unfold AJ at hsl;refine I0 (lo:=(S q).h.length) (base:=w.heap.size) (σ:=⟨rd o (S i).s,(S q).bx,(S q).h⟩) (K:=λv σ=>some (v,σ)) (r:=(v,⟨rd o (S i).s,(S q).bx,(S q).h⟩)) hX hE hC hsl (Ux hV hI hcl ho hready hn λt c h=>h) hI.h hI.f (zdj _) (zdj _)
  (λhw=>?_) ?_
 ·rw[hw0] at hw;cases hw
 ·intro v' σ' c w' hk' hf;injection hk' with hk';injection hk' with z1 z2;subst z1;subst z2;obtain ⟨ρ',β',f1,f2,f3,f4,f5,f6,f7,f8⟩:=hf;have hρ:ρ'=ρ:=by
   funext b;cases hb:ρ b with
   | some e=>exact f5.rle b e hb
   | none =>
    cases hb':ρ' b with
    | none=>rfl
    | some e =>have g1:=(f5.new b e hb hb').1;have g2:=(f3.dom b e hb').1;exact absurd g2 (zeP.2 g1)
  have hβ:β'=β:=by
   funext t;cases hb:β t with
   | some r=>exact f6 t r hb
   | none =>
    cases hb':β' t with
    | none=>rfl
    | some r =>have g1:=(f7 t r hb hb').2;obtain ⟨row,_,_,g2,_⟩:=f4.has t r hb';have g1:AE (S q).bx t=none:=g1;have g2:AE (S q).bx t=some row:=g2;rw[g1] at g2;cases g2
  subst hρ;subst hβ;have hfr:∀ r,r<w.heap.size->w'.heap[r]?=w.heap[r]?:=λr hr=>f5.frame r hr λb e hb hle=>by have:=(hI.h.dom b e hb).1;exact absurd this (zeP.2 hle)
  have hs:=IV hV hI hcl ho hready hn hS (Nf (s:=(S i).s) (bx:=(S i).bx) (h:=(S i).h) h1) (Rle.refl _) (Ble.refl _) f2;have hx:Ext0 lo base ρ0 (S 0).h.length w0 ρ' w':=LT hI (Rle.refl _) (λb e h1 h2=>by rw[h1] at h2;cases h2) (λr hr _=>hfr r (zdq hr hI.hB)) f5.size f5.os f5.tape f5.output;have hh1:(S (i+1)).h=(S i).h:=by rw[hS,QX];exact e2
  obtain ⟨q',hI'⟩:=Qt hI (i:=i) hnb (a':=a.put o.dst c) (w':=w') f3 f4 hs hI.own (zdh hI.hB f5.size) (ED hI).1 (ED hI).2 hx
   (λj hj hL b g1 g2=>by
    rcases hL with hL | rfl
    ·exact hI.tot j hj hL b g1 g2
    ·rw[hh1] at g2;omega)
   (λb e hb=>(hI.ids b e hb).imp id λ⟨j,h1,h2,h3⟩=>⟨j,h1,.inl h2,h3⟩)
   (λt r hb=>(hI.bxs t r hb).more)
  exact hK _ _ _ _ _ hI'
include hV hI hcl ho hready hn hX hE hC hK in
theorem Y3 (hi:EF o=true) {lo':Nat} (h1:AJ X lo' o.dst o.type o.op (S i)=some (v,σ1)) (hS:S (i+1)=putS σ1 o.dst v):o.wp P a w K Q:=by
 obtain ⟨e1,e2,hk⟩:=QH hV.nar (s:=(S i).s) (bx:=(S i).bx) (h:=(S i).h) hi h1;exact Tx hV hI hcl ho hready hn hX hE hC hK (V9 hi) (λhb=>by
  obtain ⟨_,⟨p,hp,hpi⟩,_⟩:=hb;rw[ho] at hp;injection hp with hp;subst hp;rw[hi] at hpi;cases hpi) h1 e2 (hk _ _ _) hS
include hV in
theorem Yj {p p':Nat} (hpp:p<=p') (hp':p'<=all.length) {u:Nat}
  (hno:∀ k,p<=k->k<p'->Mn all cl k->∀ row,AE (S k).bx u=some row->AE (S (k+1)).bx u=some row) {row:List V} (hr:AE (S p).bx u=some row):AE (S p').bx u=some row:=by
 induction p' with
 | zero=>rw[show 0=p by omega];exact hr
 | succ p' ih =>
  by_cases e:p=p'+1
  ·rw[<- e];exact hr
  ·have h0:=ih (by omega) (by omega) λk h1 h2=>hno k h1 (by omega);by_cases hb:Mn all cl p'
   ·exact hno p' (by omega) (by omega) hb row h0
   ·exact hV.bx_same (Nat.le_succ p') (by omega) (λk h1 h2=>by rw[show k=p' by omega];exact hb) h0
include hV in
theorem Ym {p p':Nat} (hpp:p<=p') (hp':p'<=all.length) {b i0 j n:Nat} (hbl:b<(S p).h.length)
  (hno:∀ k,p<=k->k<p'->Mn all cl k->ld (S (k+1)).h b i0 j n=ld (S k).h b i0 j n):ld (S p').h b i0 j n=ld (S p).h b i0 j n:=by
 induction p' with
 | zero=>rw[show 0=p by omega]
 | succ p' ih =>
  by_cases e:p=p'+1
  ·rw[<- e]
  ·rw[<- ih (by omega) (by omega) λk h1 h2=>hno k h1 (by omega)];by_cases hb:Mn all cl p'
   ·exact hno p' (by omega) (by omega) hb
   ·have hs:=hV.same p' (by omega) hb b (zdq hbl (hV.len_le (by omega) (by omega)));unfold ld Heap.rows?;rw[hs]
include hV hI hcl ho hready hn hX hE hC hK in
theorem Y4 (hc:cl i=true) (hbn:EH cl i o=none) (hend:∀ a,DC o=some a->Yy (AV [] all) all cl i a=true\/∃ u j,DB (S i).s a = .lp u j) {lo':Nat} (h1:AJ X lo' o.dst o.type o.op (S i)=some (v,σ1)) (hS:S (i+1)=putS σ1 o.dst v):o.wp P a w K Q:=by
 have hil:i<all.length:=(zdk.1 ho).1;obtain ⟨t,x,hop,hst⟩:=hV.G.stat i o ho hc hbn;have hnb:¬ Mn all cl i:=λhb=>by rw[hb.2.2] at hc;cases hc
 have h1':=h1;rw[hop] at h1';have e2:σ1.h=(S i).h:=(Tr (s:=(S i).s) (bx:=(S i).bx) (h:=(S i).h) h1').2.2;have hl:DC o=some x:=by unfold DC;rw[hop]
 have keeps:∀ k,Mn all cl k->Iq (AV [] all) k i=false->(∀ u j,DB (S i).s x = .lp u j->∀ row,AE (S k).bx u=some row->AE (S (k+1)).bx u=some row) /\
   (∀ b i0 j,DB (S i).s x = .ptr (some (b,i0,j))->ld (S (k+1)).h b i0 j (X.ty t).size=ld (S k).h b i0 j (X.ty t).size):=λk hb hcm=>by
  obtain ⟨hf,⟨p,hp,hpi⟩,hpc⟩:=hb;have hkl:k<all.length:=(zdk.1 hp).1;cases hsk:K7 all x k with
  | true =>
   have hlk:DB (S k).s x=DB (S i).s x:=by
    rcases Nat.le_total k i with hki | hik
    ·exact (hV.slot_same hki (zd9 hil) λj g1 g2 ⟨q',hq',hd⟩=>Mo hsk g1 hq' hd).symm
    ·exact hV.slot_same hik (zd9 hkl) λj g1 g2 ⟨q',hq',hd⟩=>Mo hst.1 g1 hq' hd
   have hk:=(hV.keep k hkl (by unfold Ke;rw[hf];rfl) o (zce hp hpi hpc ho hc hcm hl hsk)).1 t (.tmp x) hop;exact ⟨λu j hx row hr=>hk.1 u j row (by show DB (S k).s x=_;rw[hlk];exact hx) hr,λb i0 j hx=>hk.2 b i0 j (by show DB (S k).s x=_;rw[hlk];exact hx)⟩
  | false =>
   obtain ⟨u,j,hx⟩:=(hend x hl).resolve_left λhe=>by rw[XO he hp hpi hpc hcm hf] at hsk;cases hsk
   rw[hx];refine ⟨λu' j' e row hr=>?_,λb i0 j' e=>(by cases e)⟩;rcases hV.step k p hp with ⟨_,_,v',σ',g1,g2⟩ | ⟨_,_,g2⟩ | ⟨_,_,_,g2⟩
   ·rw[g2,Jq];refine JM (s:=(S k).s) (bx:=(S k).bx) (h:=(S k).h) g1 (λt' y z he=>?_) hr;have hso:Ho p=true:=by unfold Ho;rw[he]
    rcases hst.2 k p hp hso with g | g
    ·rw[hcm] at g;cases g
    ·rw[hsk] at g;cases g
   ·rw[g2,Jq];exact hr
   ·rw[g2,Jq];exact hr
 have apart:∀ k,Mn all cl k->(i<=k/\k<q)\/(q<=k/\k<i)->Iq (AV [] all) k i=false:=λk hb hk=>by
  cases hcm:Iq (AV [] all) k i with
  | false=>rfl
  | true =>
   exfalso;have hb0:=hb;obtain ⟨hf,⟨p,hp,hpi⟩,hpc⟩:=hb;have hkl:k<all.length:=(zdk.1 hp).1;have hne:k≠i:=λe=>hnb (e ▸ hb0);have hiff:=KF hV.G hcl ho hp hready hn hne (.inr hcm);rcases hk with ⟨g1,g2⟩ | ⟨g1,g2⟩
   ·have:=hiff.1 (hI.q3 k g2 hb0);omega
   ·have hLk:=hiff.2 g2;obtain ⟨hbq,hnq⟩:=hI.q2 (by omega);by_cases e:k=q
    ·exact hnq (e ▸ hLk)
    ·have hcm2:=T6 hbq.1 hp (by omega) hpi hpc;obtain ⟨_,⟨pq,hpq,_⟩,_⟩:=hbq;have hbit:((AV [] all).getD k 0).testBit q=true:=by
      unfold Iq at hcm2;split at hcm2
      ·rename_i h2
       have:=U7 hV.G q pq k hpq h2;omega
      ·exact hcm2
     exact hnq (KM hV.G hcl k _ q hp (hcl k _ hp hLk) hbit)
 have sv:=Or hV hI hcl ho hready hn (t:=x) (by
  unfold D0 Uv;rw[hop];simp[Op.operands,Lg])
 have fin:∀ {v':V},v'=v->AJ X (S q).h.length o.dst o.type (.load t (.tmp x)) ⟨(S i).s,(S q).bx,(S q).h⟩=some (v',⟨(S i).s,(S q).bx,(S q).h⟩)->o.wp P a w K Q:=λ{v'} e hk2=>by subst e;rw[<- hop] at hk2;exact Tx hV hI hcl ho hready hn hX hE hC hK (by unfold FN;rw[hop]) hnb h1 e2 hk2 hS
 rcases Zg (s:=(S i).s) (bx:=(S i).bx) (h:=(S i).h) h1' with ⟨u,j,hx⟩ | ⟨b,i0,j,hx⟩
 ·obtain ⟨row,hrow,hk⟩:=zbo (s:=(S i).s) (bx:=(S i).bx) (h:=(S i).h) hx h1';have hxl:DB (S i).s x = .lp u j:=hx;rw[hxl] at sv;obtain ⟨r,hr,_⟩:=sv;obtain ⟨row',_,_,hrow',_⟩:=hI.f.has u r hr;have hq:AE (S q).bx u=some row:=by
   rcases Nat.le_total i q with hiq | hqi
   ·exact Yj hV hiq hI.q1 (λk g1 g2 hb=>(keeps k hb (apart k hb (.inl ⟨g1,g2⟩))).1 u j hxl) hrow
   ·have:=Yj hV hqi (zd9 hil) (λk g1 g2 hb=>(keeps k hb (apart k hb (.inr ⟨g1,g2⟩))).1 u j hxl) hrow';rw[hrow] at this;injection this with this;subst this;exact hrow'
  exact fin rfl (hk (S q).h.length (S q).bx (S q).h hq)
 ·obtain ⟨cs,hcs,hk⟩:=Z0 (s:=(S i).s) (bx:=(S i).bx) (h:=(S i).h) hx h1';have hxl:DB (S i).s x = .ptr (some (b,i0,j)):=hx;rw[hxl] at sv;have hρ:∃ e,ρ b=some e:=by have sv:VR ρ (.ptr (some (b,i0,j))) (a.tmps.getD x undef):=sv;simp only[VR] at sv;obtain ⟨e,he,_⟩:=sv;exact ⟨e,he⟩
  obtain ⟨e,he⟩:=hρ;have hq:ld (S q).h b i0 j (X.ty t).size=some cs:=by
   rcases Nat.le_total i q with hiq | hqi
   ·have hbl:b<(S i).h.length:=by obtain ⟨R,el,ro,rs,row,g1,_⟩:=Yl hcs;exact (zdk.1 g1).1
    rw[Ym hV hiq hI.q1 hbl (λk g1 g2 hb=>(keeps k hb (apart k hb (.inl ⟨g1,g2⟩))).2 b i0 j hxl)];exact hcs
   ·have hbl:b<(S q).h.length:=(hI.h.dom b e he).1;rw[<- Ym hV hqi (zd9 hil) hbl (λk g1 g2 hb=>(keeps k hb (apart k hb (.inr ⟨g1,g2⟩))).2 b i0 j hxl)];exact hcs
  exact fin rfl (hk (S q).h.length (S q).bx (S q).h hq)
include hV hI hcl ho hready hn hX hE hC hK in
theorem zbs {tb eb:Nat} (hbx:EH cl i o=some (tb,eb)) (hS:S (i+1)=putS (S i) o.dst (.lp tb 0)):o.wp P a w K Q:=by
 have hil:i<all.length:=(zdk.1 ho).1;obtain ⟨hc,hop,hdst,hm⟩:=FZ hbx;obtain ⟨k1,k2,k3,k4⟩:=hV.box i o ho tb eb hbx;have hnb:¬ Mn all cl i:=λhb=>by rw[hb.2.2] at hc;cases hc
 have hM:=(hV.G.box i o tb eb ho hbx).1;have row:∀ p,p<=q->AE (S p).bx tb=some (X.ty eb).zero:=by
  intro p;induction p with
  | zero=>intro _;exact k4
  | succ p ih =>
   intro hp;have hpl:p<all.length:=by have:=hI.q1;omega
   refine WE hV.G hV.step (λj o' hj=>hV.keep j (zdk.1 hj).1) ho hbx hpl (λhb=>?_) (ih (by omega));have hLp:=hI.q3 p (by omega) hb;cases hcm:Iq (AV [] all) p i with
   | false=>rfl
   | true =>exfalso;have hg:all[p]?=some all[p]:=zdx hpl;have hne:p≠i:=λe=>hn (e ▸ hLp);have h1:=(KF hV.G hcl ho hg hready hn hne (.inr hcm)).1 hLp;rw[L0 hV.G ho hbx hg (by omega)] at hcm;cases hcm
 have hβ:β tb=none:=by
  cases hb:β tb with
  | none=>rfl
  | some r =>
   exfalso;rcases hI.bxs tb r hb with ⟨r0,g⟩ | ⟨j,g1,g2,g3,_⟩ | ⟨j,o',e',g1,g2,g3⟩
   ·rw[k3] at g;cases g
   ·have:=hV.bx_some (zd4 j) (zd9 g1) (t:=tb) (by rw[k4];rfl);rw[g3] at this;cases this
   ·have hne:j≠i:=λe=>hn (e ▸ g1);have d1:=(FZ g3).2.2.1;rcases Nat.lt_or_ge j i with h | h
    ·rcases hV.G.pair j i o' o g2 ho h with g4 | ⟨g4,_⟩
     ·rw[L0 hV.G ho hbx g2 (zd9 h)] at g4;cases g4
     ·exact Lv (t:=tb) g4 (by rw[d1];simp) (by unfold D0;rw[hdst];simp)
    ·rcases hV.G.pair i j o o' ho g2 (by omega) with g4 | ⟨g4,_⟩
     ·rw[L0 hV.G g2 g3 ho h] at g4;cases g4
     ·exact Lv (t:=tb) g4 (by rw[hdst];simp) (by unfold D0;rw[d1];simp)
 have h1:=QI (lo':=(S q).h.length) (s:=rd o (S i).s) (h:=(S q).h) (bx:=IF tb (S q).bx) hop hdst k1 k2 (by rw[Et,if_pos rfl]);unfold AJ at h1;have hf0:FRel ρ β (IF tb (S q).bx) w:=hI.f.sub λt r hr=>by rw[Et,if_neg (λe=>by rw[e,hβ] at hr;cases hr)]
 refine I0 (lo:=(S q).h.length) (base:=w.heap.size) (σ:=⟨rd o (S i).s,IF tb (S q).bx,(S q).h⟩) (K:=λv σ=>some (v,σ)) (r:=(.lp tb 0,_)) hX hE hC h1 (Ux hV hI hcl ho hready hn λt c h=>h) hI.h hf0 (zdj _) (zdj _)
  (λhw=>by unfold FN at hw;rw[hop] at hw;cases hw) ?_
 intro v' σ' c w' hk' hf;injection hk' with hk';injection hk' with z1 z2;subst z1;subst z2;obtain ⟨ρ',β',f1,f2,f3,f4,f5,f6,f7,f8⟩:=hf;have hρ:ρ'=ρ:=by
  funext b;cases hb:ρ b with
  | some e=>exact f5.rle b e hb
  | none =>
   cases hb':ρ' b with
   | none=>rfl
   | some e =>have g1:=(f5.new b e hb hb').1;have g2:=(f3.dom b e hb').1;exact absurd g2 (zeP.2 g1)
 subst hρ;have hfr:∀ r,r<w.heap.size->w'.heap[r]?=w.heap[r]?:=λr hr=>f5.frame r hr λb e hb hle=>by have:=(hI.h.dom b e hb).1;exact absurd this (zeP.2 hle)
 have hF:FRel ρ' β' (S q).bx w':=f4.sub λt r hr=>by
  show AE (S q).bx t=AE ((tb,(X.ty eb).zero) :: IF tb (S q).bx) t;rw[Bf,Et];by_cases e:tb=t
  ·rw[if_pos e,<- e];exact row q (zdj _)
  ·rw[if_neg e,if_neg (λe'=>e e'.symm)]
 have hs:=IV hV hI hcl ho hready hn hS rfl (Rle.refl _) f6 f2;have hx:Ext0 lo base ρ0 (S 0).h.length w0 ρ' w':=LT hI (Rle.refl _) (λb e h1 h2=>by rw[h1] at h2;cases h2) (λr hr _=>hfr r (zdq hr hI.hB)) f5.size f5.os f5.tape f5.output;have hh1:(S (i+1)).h=(S i).h:=by rw[hS,QX]
 obtain ⟨q',hI'⟩:=Qt hI (i:=i) hnb (ρ2:=ρ') (β2:=β') (a':=a.put o.dst c) (w':=w') f3 hF hs (λt r hr=>by
   cases hb:β t with
   | some r0 =>have:=f6 t r0 hb;rw[hr] at this;injection this with this;subst this;exact hI.own t _ hb
   | none=>exact zdh hI.hB (f7 t r hb hr).1) (zdh hI.hB f5.size) (ED hI).1 (ED hI).2 hx
  (λj hj hL b g1 g2=>by
   rcases hL with hL | rfl
   ·exact hI.tot j hj hL b g1 g2
   ·rw[hh1] at g2;omega)
  (λb e hb=>(hI.ids b e hb).imp id λ⟨j,h1,h2,h3⟩=>⟨j,h1,.inl h2,h3⟩)
  (λt r hr=>by
   cases hb:β t with
   | some r0=>exact (hI.bxs t r0 hb).more
   | none =>
    have h7:AE (IF tb (S q).bx) t=none:=(f7 t r hb hr).2;obtain ⟨row',_,_,g2,_⟩:=f4.has t r hr;have g2:AE ((tb,(X.ty eb).zero) :: IF tb (S q).bx) t=some row':=g2;rw[Bf,h7] at g2;by_cases e:tb=t
    ·exact .inr (.inr ⟨i,o,eb,.inr rfl,ho,by rw[<- e];exact hbx⟩)
    ·rw[if_neg e] at g2;cases g2)
 exact hK _ _ _ _ _ hI'
include hV hI hcl ho hready hn hX hE hC hK in
theorem zbt (hb:Mn all cl i) (h1:AJ X lo o.dst o.type o.op (S i)=some (v,σ1)) (hS:S (i+1)=putS σ1 o.dst v):o.wp P a w K Q:=by
 have hq:=U8 hV hI hcl ho hready hn hb;have hil:i<all.length:=(zdk.1 ho).1;have hsl:=IH (s:=(S i).s) (bx:=(S i).bx) (h:=(S i).h) (s':=rd o (S i).s) (λx hx=>RM x hx) h1;obtain ⟨ρt,βt,at',wt,hot,hmt⟩:=hV.ok i (zd9 hil);have hh0:HRel ρ (S i).h w:=by rw[hq];exact hI.h
 have hf0:FRel ρ β (S i).bx w:=by rw[hq];exact hI.f
 unfold AJ at hsl;refine I0 (lo:=lo) (base:=base) (σ:=⟨rd o (S i).s,(S i).bx,(S i).h⟩) (K:=λv σ=>some (v,σ)) (r:=(v,⟨rd o (S i).s,σ1.bx,σ1.h⟩)) hX hE hC hsl (Ux hV hI hcl ho hready hn λt c h=>h) hh0 hf0 hI.hB hot.hlo (λ_=>hI.own) ?_;intro v' σ' c w' hk' hf;injection hk' with hk';injection hk' with z1 z2;subst z1;subst z2;obtain ⟨ρ',β',f1,f2,f3,f4,f5,f6,f7,f8⟩:=hf;have hs:=IV hV hI hcl ho hready hn hS (Nf (s:=(S i).s) (bx:=(S i).bx) (h:=(S i).h) h1) f5.rle f6 f2;have e1:(S (i+1)).h=σ1.h:=by rw[hS,QX]
 have e2:(S (i+1)).bx=σ1.bx:=by rw[hS,Jq]
 have hx:Ext0 lo base ρ0 (S 0).h.length w0 ρ' w':=LT hI f5.rle (λb e h1 h2=>by
   obtain ⟨g1,g2⟩:=f5.new b e h1 h2;exact ⟨zdh (hV.len_le (zd4 i) (zd9 hil)) g1,g2⟩) f5.frame f5.size f5.os f5.tape f5.output
 obtain ⟨q',hI'⟩:=Yo hV hI hcl ho hready hn hb (ρ2:=ρ') (β2:=β') (a':=a.put o.dst c) (w':=w') (by rw[e1];exact f3) (by rw[e2];exact f4) hs (λt r hr=>by
   cases hb:β t with
   | some r0 =>have:=f6 t r0 hb;rw[hr] at this;injection this with this;subst this;exact hI.own t _ hb
   | none=>exact zdh hI.hB (f7 t r hb hr).1) (zdh hI.hB f5.size) (ED hI).1 (ED hI).2 hx
  (λj hj hL b g1 g2=>by
   rcases hL with hL | rfl
   ·obtain ⟨e,he⟩:=hI.tot j hj hL b g1 g2;exact ⟨e,f5.rle b e he⟩
   ·rw[e1] at g2;exact f5.tot b g1 g2)
  (λb e hb=>by
   cases hρ:ρ b with
   | some e0=>exact (hI.ids b e0 hρ).imp id λ⟨j,h1,h2,h3⟩=>⟨j,h1,.inl h2,h3⟩
   | none =>
    exact .inr ⟨i,hil,.inr rfl,(f5.new b e hρ hb).1,by rw[e1];exact (f3.dom b e hb).1⟩)
  (λt r hr=>by
   cases hb:β t with
   | some r0=>exact (hI.bxs t r0 hb).more
   | none =>
    obtain ⟨row,_,_,g2,_⟩:=f4.has t r hr;exact .inr (.inl ⟨i,hil,.inr rfl,(f7 t r hb hr).2,by rw[e2];rw[g2];rfl⟩))
 exact hK _ _ _ _ _ hI'
end
end Go.Proofs.YtmgopagfoemomaaGreat.T
namespace Go.Proofs.YtmgopagfoemomaaGreat.T
open Go
section
variable {P:Program}{X:Ctx}{lo base nt:Nat}{ρ0:Rho}{β0:Bet}{w0:World}{all:List Oper}{cl:Nat->Bool}{S:Nat->St} (hV:Env P X lo base nt ρ0 β0 w0 all cl S)
variable {L:Nat->Prop}{q:Nat}{ρ:Rho}{β:Bet}{a:Act}{w:World} (hI:Inv lo base nt ρ0 β0 w0 all cl S L q ρ β a w)
variable (hcl:∀ (i:Nat) (o:Oper),all[i]?=some o->L i->∀ e∈o.after.toList,Dm e=true->L e.on)
variable {i:Nat}{o:Oper} (ho:all[i]?=some o) (hready:∀ e∈o.after.toList,Dm e=true->L e.on) (hn:¬ L i)
variable (hX:X.ty=AH P) (hE:∀ t,X.cmp t=true->EqOk P t) (hC:SC P X.call)
variable {K:Act->World->Prop}{Q:Exit->Act->World->Prop}
 (hK:∀ q' ρ' β' a' w',Inv lo base nt ρ0 β0 w0 all cl S (λj=>L j\/j=i) q' ρ' β' a' w'->K a' w')
def Rho.mix (n:Nat) (ρ ρ':Rho):Rho:=λb=>if b<n then ρ b else match ρ b with | some e=>some e | none=>ρ' b
def Bet.mix (β β':Bet):Bet:=λt=>match β t with | some r=>some r | none=>β' t
include hV hI hcl ho hready hn hX hE hC hK in
theorem Z7 (hb:¬ Mn all cl i) (hi:EF o=false) (hci:cl i=false) {v:V}{σ1:St} (h1:AJ X (S i).h.length o.dst o.type o.op (S i)=some (v,σ1)) (hS:S (i+1)=putS σ1 o.dst v):o.wp P a w K Q:=by
 obtain ⟨hiq,hnb⟩:=za7 hV hI hcl ho hready hn hb hi hci;have hil:i<all.length:=(zdk.1 ho).1;have hsl:=IH (s:=(S i).s) (bx:=(S i).bx) (h:=(S i).h) (s':=rd o (S i).s) (λx hx=>RM x hx) h1;obtain ⟨βt,hβt,hh0,hf0,hs0⟩:=zbG hV hI (zd9 hiq) hnb;unfold AJ at hsl;refine I0 (lo:=(S i).h.length) (base:=w.heap.size) (σ:=⟨rd o (S i).s,(S i).bx,(S i).h⟩) (K:=λv σ=>some (v,σ)) (r:=(v,⟨rd o (S i).s,σ1.bx,σ1.h⟩)) hX hE hC hsl (Ux hV hI hcl ho hready hn hs0) hh0 hf0 (zdj _) (zdj _) (λhw=>?_) ?_
 ·exact absurd ⟨hV.G.wr i o ho hw,⟨o,ho,hi⟩,hci⟩ hb
 intro v' σ' c w' hk' hf;injection hk' with hk';injection hk' with z1 z2;subst z1;subst z2;obtain ⟨ρ',β',f1,f2,f3,f4,f5,f6,f7,f8⟩:=hf;have e1:(S (i+1)).h=σ1.h:=by rw[hS,QX]
 have e2:(S (i+1)).bx=σ1.bx:=by rw[hS,Jq]
 have hfr:∀ r,r<w.heap.size->w'.heap[r]?=w.heap[r]?:=λr hr=>f5.frame r hr λb e hb hle=>by have:=(Rho.low_some hb).1;exact absurd this (zeP.2 hle)
 have hq:=hI.q1;have hnb':∀ k,i+1<=k->k<q->¬ Mn all cl k:=λk h1 h2=>hnb k (by omega) h2;have hlen1:σ1.h.length<=(S q).h.length:=by rw[<- e1];exact hV.len_le hiq hq
 have hsame1:∀ b,b<σ1.h.length->(S q).h[b]?=σ1.h[b]?:=λb hb=>by rw[<- e1] at hb ⊢;exact hV.same_le hiq hq hnb' hb
 have hfresh:∀ b,(S i).h.length<=b->b<σ1.h.length->ρ b=none:=λb g1 g2=>by
  cases hρ:ρ b with
  | none=>rfl
  | some e =>
   rcases hI.ids b e hρ with g | ⟨j,g3,g4,g5,g6⟩
   ·have:=hV.len_le (zd4 i) (zd9 hil);omega
   ·have hne:j≠i:=λe=>hn (e ▸ g4);rcases Nat.lt_or_ge j i with h | h
    ·have:=hV.len_le (show j+1<=i by omega) (zd9 hil);omega
    ·have:=hV.len_le (show i+1<=j by omega) (zd9 g3);rw[e1] at this;omega
 have hnew:∀ b e,ρ b=none->ρ' b=some e->(S i).h.length<=b/\b<σ1.h.length/\w.heap.size<=e.r:=λb e g1 g2=>by
  have hl:ρ.low (S i).h.length b=none:=by unfold Rho.low;split<;>first | exact g1 | rfl
  obtain ⟨g3,g4⟩:=f5.new b e hl g2;refine ⟨g3,(f3.dom b e g2).1,g4.resolve_right ?_⟩
  rintro ⟨b0,e0,g5,g6,_⟩
  have:=(Rho.low_some g5).1;exact absurd this (zeP.2 g6)
 have hmix:∀ b e,Rho.mix (S i).h.length ρ ρ' b=some e->ρ b=some e\/(ρ b=none/\ρ' b=some e):=λb e g=>by
  unfold Rho.mix at g;split at g
  ·exact .inl g
  ·split at g
   ·rename_i e' h';exact .inl (by rw[h',g])
   ·rename_i h';exact .inr ⟨h',g⟩
 have hle:Rle ρ (Rho.mix (S i).h.length ρ ρ'):=λb e g=>by
  unfold Rho.mix;split
  ·exact g
  ·rw[g]
 have hle':Rle ρ' (Rho.mix (S i).h.length ρ ρ'):=λb e g=>by
  have hd:=(f3.dom b e g).1;unfold Rho.mix;split
  ·rename_i hlt
   cases hl:ρ.low (S i).h.length b with
   | some e' =>have:=f5.rle b e' hl;rw[g] at this;injection this with this;subst this;exact (Rho.low_some hl).2
   | none=>have:=(f5.new b e hl g).1;exact absurd hlt (zeP.2 this)
  ·rename_i hge
   rw[hfresh b (zeP.1 hge) hd];exact g
 have hble:Ble β (Bet.mix β β'):=λt r g=>by unfold Bet.mix;rw[g]
 have hnewB:∀ t r,β t=none->β' t=some r->w.heap.size<=r/\AE (S i).bx t=none:=λt r g1 g2=>by
  have hl:Bet.low βt β t=none:=by unfold Bet.low;split<;>first | exact g1 | rfl
  exact f7 t r hl g2
 have hble':Ble β' (Bet.mix β β'):=λt r g=>by
  unfold Bet.mix;cases hb:β t with
  | none=>exact g
  | some r0 =>
   show some r0=some r;by_cases hlk:(βt t).isSome=true
   ·have:=f6 t r0 (Bet.low_of hlk hb);rw[g] at this;exact this.symm
   ·have hl:Bet.low βt β t=none:=by unfold Bet.low;rw[if_neg hlk]
    have hnone:=(f7 t r hl g).2;obtain ⟨row,_,_,g2,_⟩:=f4.has t r g;have hsome1:(AE (S (i+1)).bx t).isSome=true:=by rw[e2];show (AE σ1.bx t).isSome=true;rw[g2];rfl
    exfalso;have hnone:AE (S i).bx t=none:=hnone;rcases hI.bxs t r0 hb with ⟨r1,g3⟩ | ⟨j,g3,g4,g5,g6⟩ | ⟨j,o',e',g3,g4,g5⟩
    ·exact hlk (by rw[hβt t r1 g3];rfl)
    ·have hne:j≠i:=λe=>hn (e ▸ g4);rcases Nat.lt_or_ge j i with h | h
     ·have:=hV.bx_some (show j+1<=i by omega) (zd9 hil) g6;rw[hnone] at this;cases this
     ·have:=hV.bx_some (show i+1<=j by omega) (zd9 g3) hsome1;rw[g5] at this;cases this
    ·have:=hV.bx_some (zd4 i) (zd9 hil) (t:=t) (by rw[(hV.box j o' g4 t e' g5).2.2.2];rfl);rw[hnone] at this;cases this
 have hmixB:∀ t r,Bet.mix β β' t=some r->β t=some r\/(β t=none/\β' t=some r):=λt r g=>by
  unfold Bet.mix at g;split at g
  ·rename_i r' h';exact .inl (by rw[h',g])
  ·rename_i h';exact .inr ⟨h',g⟩
 have hs:=IV hV hI hcl ho hready hn hS (Nf (s:=(S i).s) (bx:=(S i).bx) (h:=(S i).h) h1) hle hble (c:=c) (f2.mono hle' hble');have hx:Ext0 lo base ρ0 (S 0).h.length w0 (Rho.mix (S i).h.length ρ ρ') w':=LT hI hle (λb e g1 g2=>by
   rcases hmix b e g2 with g | ⟨_,g⟩
   ·rw[g1] at g;cases g
   ·obtain ⟨g3,_,g4⟩:=hnew b e g1 g;exact ⟨zdh (hV.len_le (zd4 i) (zd9 hil)) g3,.inl (zdh hI.hB g4)⟩) (λr hr _=>hfr r (zdq hr hI.hB)) f5.size f5.os f5.tape f5.output
 have hH:HRel (Rho.mix (S i).h.length ρ ρ') (S q).h w':=by
  refine ⟨λb e g=>?_,λb e k g hk=>?_,λb b' e e' g g' hr hne=>?_⟩
  ·rcases hmix b e g with g | ⟨_,g⟩
   ·exact ⟨(hI.h.dom b e g).1,zdq (hI.h.dom b e g).2 f5.size⟩
   ·exact ⟨zdq (f3.dom b e g).1 hlen1,(f3.dom b e g).2⟩
  ·rcases hmix b e g with g | ⟨_,g⟩
   ·exact BR.mono hle (hfr _ (hI.h.dom b e g).2) (hI.h.blk b e k g hk)
   ·rw[hsame1 b (f3.dom b e g).1] at hk;exact BR.mono hle' rfl (f3.blk b e k g hk)
  ·rcases hmix b e g with g | ⟨g0,g⟩<;>rcases hmix b' e' g' with g' | ⟨g0',g'⟩
   ·exact hI.h.inj b b' e e' g g' hr hne
   ·have h1:=(hI.h.dom b e g).2;have h2:=(hnew b' e' g0' g').2.2;omega
   ·have h1:=(hI.h.dom b' e' g').2;have h2:=(hnew b e g0 g).2.2;omega
   ·have s1:=hsame1 b (f3.dom b e g).1;have s2:=hsame1 b' (f3.dom b' e' g').1;rcases f3.inj b b' e e' g g' hr hne with h | h | ⟨⟨x,y,z,h⟩,⟨x',y',z',h'⟩⟩
    ·exact .inl (by unfold B6 at *;rw[s1];exact h)
    ·exact .inr (.inl (by unfold B6 at *;rw[s2];exact h))
    ·exact .inr (.inr ⟨⟨x,y,z,by rw[s1];exact h⟩,⟨x',y',z',by rw[s2];exact h'⟩⟩)
 have hF:FRel (Rho.mix (S i).h.length ρ ρ') (Bet.mix β β') (S q).bx w':=by
  refine ⟨λt r g=>?_,λt r g=>?_,λt t' r g g'=>?_,λt r b e g g'=>?_⟩
  ·rcases hmixB t r g with g | ⟨_,g⟩
   ·obtain ⟨row,cs,el,k1,k2,k3⟩:=hI.f.has t r g;exact ⟨row,cs,el,k1,(hfr r (hI.f.lt t r g)).trans k2,VRs.mono hle _ _ k3⟩
   ·obtain ⟨row,cs,el,k1,k2,k3⟩:=f4.has t r g;refine ⟨row,cs,el,?_,k2,VRs.mono hle' _ _ k3⟩;exact hV.bx_same hiq hq hnb' (by rw[e2];exact k1)
  ·rcases hmixB t r g with g | ⟨_,g⟩
   ·exact zdq (hI.f.lt t r g) f5.size
   ·exact f4.lt t r g
  ·rcases hmixB t r g with g | ⟨g0,g⟩<;>rcases hmixB t' r g' with g' | ⟨g0',g'⟩
   ·exact hI.f.inj t t' r g g'
   ·have h1:=hI.f.lt t r g;have h2:=(hnewB t' r g0' g').1;omega
   ·have h1:=hI.f.lt t' r g';have h2:=(hnewB t r g0 g).1;omega
   ·exact f4.inj t t' r g g'
  ·rcases hmixB t r g with g | ⟨g0,g⟩<;>rcases hmix b e g' with g' | ⟨g0',g'⟩
   ·exact hI.f.off t r b e g g'
   ·have h1:=hI.f.lt t r g;have h2:=(hnew b e g0' g').2.2;omega
   ·have h1:=(hI.h.dom b e g').2;have h2:=(hnewB t r g0 g).1;omega
   ·exact f4.off t r b e g g'
 obtain ⟨q',hI'⟩:=Qt hI (i:=i) hb (ρ2:=Rho.mix (S i).h.length ρ ρ') (β2:=Bet.mix β β') (a':=a.put o.dst c) (w':=w') hH hF hs (λt r g=>by
   rcases hmixB t r g with g | ⟨g0,g⟩
   ·exact hI.own t r g
   ·exact zdh hI.hB (hnewB t r g0 g).1) (zdh hI.hB f5.size) (ED hI).1 (ED hI).2 hx
  (λj hj hL b g1 g2=>by
   rcases hL with hL | rfl
   ·obtain ⟨e,he⟩:=hI.tot j hj hL b g1 g2;exact ⟨e,hle b e he⟩
   ·rw[e1] at g2;obtain ⟨e,he⟩:=f5.tot b g1 g2;exact ⟨e,hle' b e he⟩)
  (λb e g=>by
   rcases hmix b e g with g | ⟨g0,g⟩
   ·exact (hI.ids b e g).imp id λ⟨j,h1,h2,h3⟩=>⟨j,h1,.inl h2,h3⟩
   ·obtain ⟨g3,g4,_⟩:=hnew b e g0 g;exact .inr ⟨i,hil,.inr rfl,g3,by rw[e1];exact g4⟩)
  (λt r g=>by
   rcases hmixB t r g with g | ⟨g0,g⟩
   ·exact (hI.bxs t r g).more
   ·obtain ⟨row,_,_,g2,_⟩:=f4.has t r g;have g2:AE σ1.bx t=some row:=g2;exact .inr (.inl ⟨i,hil,.inr rfl,(hnewB t r g0 g).2,by rw[e2,g2];rfl⟩))
 exact hK _ _ _ _ _ hI'
end
end Go.Proofs.YtmgopagfoemomaaGreat.T
namespace Go.Proofs.YtmgopagfoemomaaGreat.T
open Go
theorem Ul (e:Edge):Region.binds .any e=Dm e:=by obtain ⟨on,g⟩:=e;cases g<;>rfl
section
variable {P:Program}{X:Ctx}{lo base nt:Nat}{ρ0:Rho}{β0:Bet}{w0:World}{ops:Array Oper}{cl:Nat->Bool}{S:Nat->St} (hV:Env P X lo base nt ρ0 β0 w0 ops.toList cl S)
variable (hX:X.ty=AH P) (hE:∀ t,X.cmp t=true->EqOk P t) (hC:SC P X.call)
variable {Q:Exit->Act->World->Prop}
theorem YU {n b:Nat} (hn:n<=ops.toList.length) (h1:(S 0).h.length<=b) (h2:b<(S n).h.length):∃ j,j<n/\(S j).h.length<=b/\b<(S (j+1)).h.length:=by
 induction n with
 | zero=>omega
 | succ n ih =>
  by_cases h:b<(S n).h.length
  ·obtain ⟨j,g1,g2⟩:=ih (by omega) h;exact ⟨j,by omega,g2⟩
  ·exact ⟨n,by omega,by omega,h2⟩
include hV in
theorem Yn {L:Nat->Prop}{q:Nat}{ρ:Rho}{β:Bet}{a:Act}{w:World} (hI:Inv lo base nt ρ0 β0 w0 ops.toList cl S L q ρ β a w) (hall:∀ j,j<ops.toList.length->L j) :
  Ok lo base nt ρ β (S ops.toList.length) a w/\Ext lo base ρ0 (S 0).h w0 ρ (S ops.toList.length).h w:=by
 have hq:q=ops.toList.length:=by
  rcases Nat.lt_or_ge q ops.toList.length with h | h
  ·exact absurd (hall q h) (hI.q2 h).2
  ·exact Nat.le_antisymm hI.q1 h
 have h1:=hI.h;have h2:=hI.f;rw[hq] at h1 h2;obtain ⟨ρt,βt,at',wt,hot,hmt⟩:=hV.ok _ (zdj _);refine ⟨⟨λt=>?_,h1,h2,hI.own,hI.hB,hot.hlo,hI.nt,hI.df⟩,⟨hI.x.rle,hI.x.new,hI.x.frame,hI.x.size,hI.x.os,hI.x.tape,hI.x.output,hV.len_le (zd4 _) (zdj _),hmt.1.pres,λb g1 g2=>?_⟩⟩
 ·refine hI.s t _ (zdj _) λj hw=>?_;obtain ⟨p,hp,_⟩:=hw;have hj:=(zdk.1 hp).1;exact ⟨λ_=>hj,λ_=>hall j hj⟩
 ·obtain ⟨j,g3,g4,g5⟩:=YU (zdj _) g1 g2;exact hI.tot j g3 (hall j g3) b g4 g5
include hV hX hE hC in
theorem zcQ (hend:∀ (i:Nat) (o:Oper),ops.toList[i]?=some o->cl i=true->∀ a,DC o=some a->Yy (AV [] ops.toList) ops.toList cl i a=true\/∃ u j,DB (S i).s a = .lp u j) (hQ:∀ ρ' β' a' w',Ok lo base nt ρ' β' (S ops.toList.length) a' w'->Ext lo base ρ0 (S 0).h w0 ρ' (S ops.toList.length).h w'->Q .normal a' w') :
  ∀ (fuel:Nat) (listed:Array Bool) (q:Nat) (ρ:Rho) (β:Bet) (a:Act) (w:World),listed.size=ops.size->listed.toList.count false<=fuel ->
   (∀ (i:Nat) (o:Oper),ops.toList[i]?=some o->listed.getD i false=true->∀ e∈o.after.toList,Dm e=true->listed.getD e.on false=true) ->
   Inv lo base nt ρ0 β0 w0 ops.toList cl S (λj=>listed.getD j false=true) q ρ β a w->wpAny P .any ops Q fuel listed a w:=by
 have hnone:∀ (listed:Array Bool),listed.size=ops.size->(∀ (i:Nat) (o:Oper),ops.toList[i]?=some o->listed.getD i false=true->∀ e∈o.after.toList,Dm e=true->listed.getD e.on false=true)->Region.ready .any ops listed = []->∀ j,j<ops.toList.length->listed.getD j false=true:=by
  intro listed hsz hcl hr j;induction j using Nat.strongRecOn with
  | _ j ih =>
   intro hj;cases hl:listed.getD j false with
   | true=>rfl
   | false =>
    exfalso;have hj':j<ops.size:=by simpa using hj
    have hlt:j<listed.size:=by omega
    have hmem:j∈Region.ready .any ops listed:=by
     unfold Region.ready;rw[List.mem_filter];refine ⟨by simpa using hj',?_⟩;have h1:listed.getD j true=false:=by rw[zdB,zdX hlt] at hl ⊢;simpa using hl
     rw[h1];have h2:ops[j]?=some ops[j]:=zdX hj';rw[h2];simp only[zes,zeu,zel,zdu];rw[Array.all_eq_true'];intro e he;cases hb:Dm e with
     | false=>rw[Ul,hb];rfl
     | true =>have hlt2:=hV.G.edge j ops[j] (by simpa using h2) e (by simpa using he) hb;rw[ih e.on hlt2 (by omega)];simp
    rw[hr] at hmem;cases hmem
 intro fuel;induction fuel with
 | zero =>
  intro listed q ρ β a w hsz hcnt hcl hI;have hall:∀ j,j<ops.toList.length->listed.getD j false=true:=λj hj=>by
   have hj':j<listed.size:=by
                    have:j<ops.size:=by simpa using hj
                    omega
   have h0:listed.toList.count false=0:=by omega
   rw[List.count_eq_zero] at h0;rw[zdB,zdX hj'];cases hv:listed[j] with
   | true=>rfl
   | false=>exact absurd (by rw[<- hv];simp) h0
  refine ⟨?_,?_⟩
  ·unfold Region.ready;rw[List.filter_eq_nil_iff];intro j hj;have hj2:j<ops.size:=by simpa using hj
   have:=hall j (by simpa using hj2);have hj':j<listed.size:=by omega
   rw[zdB,zdX hj'] at this;have h1:listed.getD j true=true:=by rw[zdB,zdX hj'];simpa using this
   rw[h1];simp
  ·obtain ⟨h1,h2⟩:=Yn hV hI hall;exact hQ _ _ _ _ h1 h2
 | succ fuel ih =>
  intro listed q ρ β a w hsz hcnt hcl hI;refine ⟨λhr=>?_,λi hi=>?_⟩
  ·obtain ⟨h1,h2⟩:=Yn hV hI (hnone listed hsz hcl hr);exact hQ _ _ _ _ h1 h2
  ·unfold Region.ready at hi;rw[List.mem_filter] at hi;obtain ⟨hi1,hi2⟩:=hi;have hil:i<ops.size:=by simpa using hi1
   have hil':i<listed.size:=by omega
   have hg:ops[i]?=some ops[i]:=zdX hil;have ho:ops.toList[i]?=some ops[i]:=by simpa using hg
   rw[zds] at hi2;obtain ⟨hi3,hi4⟩:=hi2;have hli:listed[i]=false:=by rw[zdB,zdX hil'] at hi3;simpa using hi3
   have hn:¬ (listed.getD i false=true):=by rw[zdB,zdX hil'];simp[hli]
   have hready:∀ e∈(ops[i]).after.toList,Dm e=true->listed.getD e.on false=true:=by rw[hg] at hi4;simp only[zes,zeu] at hi4;rw[Array.all_eq_true'] at hi4;intro e he hb;have:=hi4 e (by simpa using he);rw[Ul,hb] at this;simpa using this
   have hget:∀ j,(listed.setIfInBounds i true).getD j false=true<->(listed.getD j false=true\/j=i):=by
    intro j;rw[zdB,zdB,zej];by_cases h:i=j
    ·subst h;simp[hil']
    ·rw[if_neg h];constructor
     ·exact .inl
     ·rintro (h1 | h1)
      ·exact h1
      ·exact absurd h1.symm h
   have hcnt':(listed.setIfInBounds i true).toList.count false<=fuel:=by rw[Array.toList_setIfInBounds,List.count_set (by simpa using hil')];have hpos:0<listed.toList.count false:=List.count_pos_iff.2 (by rw[<- hli];simp);simp[hli];simp at hcnt hpos;omega
   have hcl':∀ (j:Nat) (o:Oper),ops.toList[j]?=some o->(listed.setIfInBounds i true).getD j false=true->∀ e∈o.after.toList,Dm e=true->(listed.setIfInBounds i true).getD e.on false=true:=by
    intro j o hj hl e he hb;rw[hget] at hl ⊢;rcases hl with hl | rfl
    ·exact .inl (hcl j o hj hl e he hb)
    ·rw[ho] at hj;injection hj with hj;subst hj;exact .inl (hready e he hb)
   have hK:∀ q' ρ' β' a' w',Inv lo base nt ρ0 β0 w0 ops.toList cl S (λj=>listed.getD j false=true\/j=i) q' ρ' β' a' w'->wpAny P .any ops Q fuel (listed.setIfInBounds i true) a' w':=by
    intro q' ρ' β' a' w' hI';refine ih _ q' ρ' β' a' w' (by simpa using hsz) hcnt' hcl' ?_;have:(λj=>(listed.setIfInBounds i true).getD j false=true)=(λj=>listed.getD j false=true\/j=i):=by funext j;exact propext (hget j)
    rw[this];exact hI'
   have hgw:=λb (hk:XL ops.toList (S i).s (ops[i]).guard=some b)=>NJ (ρ:=ρ) (β:=β) (a:=a) (s:=(S i).s) (o:=ops[i]) (run:=some true) (skip:=some false) (r:=b) (λj want g t h1 h2 h3=>by
    refine Or hV hI hcl ho hready hn (t:=t) ?_;unfold D0 Uv Wj;rw[h1];have h2':ops.toList[j]?=some g:=by simpa using h2
    simp only[h2',h3];simp) hk
   unfold wpOp;rw[hg];simp only;rcases hV.step i _ ho with ⟨hbn,hgo,v,σ1,h1,h2⟩ | ⟨hbn,hgo,h2⟩ | ⟨tb,eb,hbx,h2⟩
   ·rcases hgw _ hgo with ⟨hw,_⟩ | ⟨_,hw⟩
    ·rw[if_pos hw];refine .inl ?_;cases hin:EF ops[i] with
     | true=>exact Y3 hV hI hcl ho hready hn hX hE hC hK hin h1 h2
     | false =>
      cases hci:cl i with
      | true=>exact Y4 hV hI hcl ho hready hn hX hE hC hK hci hbn (hend i _ ho hci) h1 h2
      | false =>
      cases hf:Jc (AV [] ops.toList) ops.toList cl i with
      | true =>
       have hc:Ke ops.toList cl i=false:=by simp[Ke,hf]
       rw[hc] at h1;exact zbt hV hI hcl ho hready hn hX hE hC hK ⟨hf,⟨_,ho,hin⟩,hci⟩ h1 h2
      | false =>
       have hc:Ke ops.toList cl i=true:=by simp[Ke,hf]
       rw[hc] at h1;exact Z7 hV hI hcl ho hready hn hX hE hC hK (λhb=>by rw[hb.1] at hf;cases hf) hin hci h1 h2
    ·cases hw
   ·rcases hgw _ hgo with ⟨_,hw⟩ | ⟨hw,_⟩
    ·cases hw
    ·rw[hw];simp only[zeE,if_false];obtain ⟨q',hI'⟩:=zaw hV hI hcl ho hready hn h2;exact hK _ _ _ _ _ hI'
   ·have hgo:XL ops.toList (S i).s (ops[i]).guard=some true:=by rw[(hV.G.box i _ tb eb ho hbx).2];rfl
    rcases hgw _ hgo with ⟨hw,_⟩ | ⟨_,hw⟩
    ·rw[if_pos hw];exact .inl (zbs hV hI hcl ho hready hn hX hE hC hK hbx h2)
    ·cases hw
end
theorem KK {X:Ctx}{cl:Nat->Bool}:∀ {l:List Oper}{i:Nat}{bx bx':List (Nat×List V)},GP X cl i l bx=some bx'->(∀ t row,AE bx t=some row->AE bx' t=some row) /\
  ∀ (k:Nat) (o:Oper) (t e:Nat),l[k]?=some o->EH cl (i+k) o=some (t,e)->((X.ty e).known&&(X.ty e).hz&&DI (X.ty e).zero)=true/\X.hb.any (Nat.beq t)=false/\AE bx t=none/\AE bx' t=some (X.ty e).zero
 | [],i,bx,bx',h=>by simp only[GP,Option.some.injEq] at h;subst h;exact ⟨λt row h=>h,λk o t e hk=>by simp at hk⟩
 | p :: l,i,bx,bx',h=>by
  simp only[GP] at h;cases hb:EH cl i p with
  | none =>
   rw[hb] at h;obtain ⟨h1,h2⟩:=KK h;refine ⟨h1,λk o t e hk hbk=>?_⟩;cases k with
   | zero =>simp at hk;subst hk;rw[zdY,hb] at hbk;cases hbk
   | succ k=>exact h2 k o t e (by simpa using hk) (by rw[<- hbk];congr 1;omega)
  | some z =>
   obtain ⟨u,f⟩:=z;rw[hb] at h;simp only at h;split at h
   ·rename_i q1 q2 q3
    obtain ⟨h1,h2⟩:=KK h;have up:∀ t row,AE bx t=some row->AE ((u,(X.ty f).zero) :: bx) t=some row:=λt row ht=>by
     rw[Bf];split
     ·rename_i e;rw[<- e,q3] at ht;cases ht
     ·exact ht
    refine ⟨λt row ht=>h1 t row (up t row ht),λk o t e hk hbk=>?_⟩;cases k with
    | zero =>simp at hk;subst hk;rw[zdY,hb] at hbk;injection hbk with hbk;injection hbk with e1 e2;subst e1;subst e2;exact ⟨q1,q2,q3,h1 _ _ (by rw[Bf,if_pos rfl])⟩
    | succ k =>
     obtain ⟨g1,g2,g3,g4⟩:=h2 k o t e (by simpa using hk) (by rw[<- hbk];congr 1;omega);refine ⟨g1,g2,?_,g4⟩;rw[Bf] at g3;split at g3
     ·cases g3
     ·exact g3
   ·cases h
theorem zb9 {P:Program}{X:Ctx} (hw:X.wide=false) (hm:P.follows .mixedOrders=true) (hX:X.ty=AH P) (hE:∀ t,X.cmp t=true->EqOk P t) (hC:SC P X.call):Vs P X:=by
 intro lo base nt R r ρ β σ bx a w id ops k Q hd hdr hbx hk ho hQ;obtain ⟨S,h0,hkS,hst⟩:=WD ops.toList 0 _ rfl hk;obtain ⟨hb1,hb2⟩:=KK hbx;rw[zdR] at hkS;have hG:=zaB hdr;have hlps:Uf (S ops.toList.length).s (AV [] ops.toList) ops.toList (KG X.cl id)=true:=by
  cases he:Uf (S ops.toList.length).s (AV [] ops.toList) ops.toList (KG X.cl id) with
  | true=>rfl
  | false=>simp only[he] at hkS;cases hkS
 simp only[hlps] at hkS;have hod:Ok lo base nt ρ β (S 0) a w.drew:=by rw[h0];exact ⟨ho.s,ho.h.drew,ho.f.drew.ahead hb1,ho.own,ho.hB,ho.hlo,ho.nt,ho.df⟩
 have hV:Env P X lo base nt ρ β w.drew ops.toList (KG X.cl id) S:=zcJ hw hX hE hC hG (λj o hj=>(hst j o (zd4 _) hj).1) (λj o hj=>(hst j o (zd4 _) hj).2) (λj o hj t ht=>hd o (zdt hj) t ht) hod (λj o hj t e hb=>by
  obtain ⟨k1,k2,k3,k4⟩:=hb2 j o t e hj (by rw[zdR];exact hb);refine ⟨k1,k2,?_,by rw[h0];exact k4⟩;cases hβ:β t with
  | none=>rfl
  | some r =>
   obtain ⟨row,_,_,g,_⟩:=ho.f.has t r hβ;rw[k3] at g;cases g)
 refine wp_region_any hm ?_;obtain ⟨q,g1,g2,g3,g4,g5⟩:=YK hV (L:=λ_=>False) (ρ:=ρ) (β:=β) (w:=w.drew) _ 0 rfl (zd4 _) (λj hj=>absurd hj (Nat.not_lt_zero _)) (λ_ _ _ h=>h) hod.h hod.f;refine zcQ hV hX hE hC (λi o ho hc a' hl=>?_) (λρ' β' a' w' h1 h2=>?_) ops.size _ q ρ β a w.drew (by simp) ?_ (λi o hi hl=>?_) ?_
 ·obtain ⟨t',a2,hop',hst',_⟩:=hG.stat i o ho hc (XW hl);have hl2:DC o=some a2:=by unfold DC;rw[hop']
  rw[hl2] at hl;injection hl with hl;subst hl;have h1:=zdz.1 hlps (o,i) (KA ho);simp only[hc,hl2,zei,zeI,zd5] at h1;refine h1.imp (λh=>h) λh1=>?_;have hil:i<ops.toList.length:=(zdk.1 ho).1;rw[hV.slot_same (i:=i) (zd9 hil) (zdj _) (λj h2 h3 ⟨q,hq,hd⟩=>Mo hst' h2 hq hd)] at h1;generalize DB (S i).s a2=z at h1;cases z<;>simp only[zcZ] at h1<;>first | exact ⟨_,_,rfl⟩ | cases h1
 ·refine hQ _ ρ' β' a' w' hkS h1 ?_;rw[h0] at h2;exact ⟨h2.rle,h2.new,h2.frame,h2.size,h2.os,h2.tape,h2.output,h2.len,h2.pres,h2.tot⟩
 ·simp
 ·exfalso;have:i<ops.size:=by have:=(zdk.1 hi).1;simpa using this
  rw[zdB] at hl;simp[this] at hl
 ·have hL:(λj=>(Array.replicate ops.size false).getD j false=true)=(λ_=>False):=by funext j;apply propext;rw[zdB,Array.getElem?_replicate];split<;>simp
  rw[hL];refine ⟨g1,λh=>⟨(g2 h).1,λx=>x⟩,λj hj hb=>(g3 j hj hb).elim,g4,g5,λt p hp hw=>?_,hod.own,hod.hB,hod.nt,hod.df,⟨Rle.refl _,λb e h1 h2=>(by rw[h1] at h2;cases h2),λ_ _ _=>rfl,zdj _,rfl,rfl,rfl⟩,λj _ h=>h.elim,λb e hb => .inl (hod.h.dom b e hb).1,λt r hb => .inl ⟨r,hb⟩⟩;rw[hV.slot_same (zd4 p) hp λj _ h2 h3=>((hw j h3).2 h2).elim];exact hod.s t
end Go.Proofs.YtmgopagfoemomaaGreat.T
namespace Go.Proofs.YtmgopagfoemomaaGreat.T
open Go
variable {n:Nat}{t:TypeId}{H:List (Nat×Hint)}
def zbr:TypeDesc->Bool
 | .int _=>true
 | .bool=>true
 | .string=>true
 | _=>false
def ON (P:Program) (n:Nat) (g:TypeId->Bool):List Field->Nat->Bool
 | [],_=>true
 | f :: fs, off => match f.name != "_" && Nat.beq f.offset off && g f.type && Nat.beq (AH P f.type).size (EO P n f.type).length with
  | true=>ON P n g fs (off+(EO P n f.type).length)
  | false=>false
def Hg (P:Program):Nat->TypeId->Bool
 | 0,_=>false
 | n+1,t=>match (AH P t).known,P.underlying t with
  | true,some (.struct fs)=>match P.stoodInHeld t with
   | true=>false
   | false=>ON P n (Hg P n) fs.toList 0
  | true,some d=>zbr d
  | _,_=>false
section
variable {P:Program}{ρ:Rho}
theorem EL:∀ {ss:List Sh}{xs:List V},DM ss xs=true->xs.length=ss.length
 | [],[],_=>rfl
 | [],_ :: _,h=>by simp[DM] at h
 | _ :: _,[],h=>by simp[DM] at h
 | s :: ss,x :: xs,h=>by
  simp only[DM] at h;split at h
  ·simp[EL h]
  ·cases h
theorem IJ:∀ {ss ss':List Sh}{xs:List V},DM (ss++ss') xs=true->DM ss (xs.take ss.length)=true/\DM ss' (xs.drop ss.length)=true
 | [],ss',xs,h=>by simpa [DM] using h
 | s :: ss,ss',[],h=>by simp[DM] at h
 | s :: ss,ss',x :: xs,h=>by
  simp only[zdT,DM] at h;split at h
  ·rename_i hs
   obtain ⟨h1,h2⟩:=IJ h;simp[DM,hs,h1,h2]
  ·cases h
theorem RO:∀ {k:Nat}{xs ys:List V}{r:Bool},Hv xs ys=some r->∃ r1 r2,Hv (xs.take k) (ys.take k)=some r1/\Hv (xs.drop k) (ys.drop k)=some r2/\r=(r1&&r2)
 | 0,xs,ys,r,h=>⟨true,r,by simp[Hv],by simpa using h,by simp⟩
 | k+1,[],[],r,h=>by simp[Hv] at h;subst h;exact ⟨true,true,by simp[Hv],by simp[Hv],rfl⟩
 | k+1,[],_ :: _,r,h=>by simp[Hv] at h
 | k+1,_ :: _,[],r,h=>by simp[Hv] at h
 | k+1,x :: xs,y :: ys,r,h=>by
  simp only[Hv] at h;split at h
  ·rename_i a b ha hb
   injection h with h;subst h;obtain ⟨r1,r2,h1,h2,h3⟩:=RO (k:=k) hb;exact ⟨a&&r1,r2,by simp[Hv,ha,h1],by simpa using h2,by rw[h3,Bool.and_assoc]⟩
  ·cases h
theorem U1 {row:List V}{j:Nat} (h:j+n<=row.length):cut row j n=some ((row.drop j).take n):=by
 induction j generalizing row with
 | zero =>
  induction n generalizing row with
  | zero=>simp[cut]
  | succ n ih =>
   cases row with
   | nil=>simp at h
   | cons v r=>simp[cut,ih (row:=r) (by simp at h;omega)]
 | succ j ih =>
  cases row with
  | nil=>simp at h
  | cons v r=>simp only[cut];rw[ih (by simp at h;omega)];simp
theorem Q7 (h:Hg P n t=true) {xs:List V} (hs:DM (EO P n t) xs=true):∃ v,V1 (AH P t).agg xs=some v:=by
 cases n with
 | zero=>simp[Hg] at h
 | succ n =>
  simp only[Hg] at h;split at h
  ·exact ⟨_,I4 (λhA=>by
    rename_i hk hu
    obtain ⟨i,d,hi,hd,_,_,h3,_⟩:=BM hk;rw[hu] at hd;injection hd with hd;subst hd;rw[h3] at hA;simp[OW] at hA)⟩
  ·rename_i d hns hk hu
   refine ⟨_,I4 λ_=>?_⟩;have hl:=EL hs;have h1:(EO P (n+1) t).length=1:=by cases d<;>simp only[zbr] at h<;>(try cases h)<;>simp[EO,hu]
   rw[h1] at hl;match xs,hl with
   | [x],_=>exact ⟨x,rfl⟩
  ·cases h
theorem Z6 {k:IntKind} (h:P.underlying t=some (.int k)):EO P (n+1) t = [.int k]:=by simp[EO,h]
theorem zbJ:∀ (n:Nat) (t:TypeId),Hg P n t=true->∀ (d:Nat),n<=d->∀ (w:World) (xs ys:List V) (v u:V) (r:Bool),DM (EO P n t) xs=true->DM (EO P n t) ys=true ->
  V1 (AH P t).agg xs=some v->V1 (AH P t).agg ys=some u->Hv xs ys=some r->∀ c c',VR ρ v c->VR ρ u c'->(Op.equalIn d t c c').run P w = .ok r w:=by
 intro n;induction n with
 | zero=>intro t h;simp[Hg] at h
 | succ n ih =>
  intro t h d hd w xs ys v u r hx hy hv hu hr c c' hc hc';obtain ⟨d,rfl⟩:∃ m,d=m+1:=⟨d - 1,by omega⟩;simp only[Hg] at h;split at h
  ·rename_i fs hk hun
   split at h
   ·cases h
   rename_i hst
   obtain ⟨i,d',hi,hd',_,_,h3,_⟩:=BM hk;rw[hun] at hd';injection hd' with hd';subst hd';rw[h3] at hv hu;simp only[OW,V1,Option.some.injEq] at hv hu;subst hv;subst hu;simp only[VR] at hc hc';obtain ⟨ca,rfl,hca⟩:=hc;obtain ⟨cb,rfl,hcb⟩:=hc';have hfo:P.fieldsOf t=fs:=by simp[Program.fieldsOf,hun]
   rw[run_equalIn_agg w d t ca cb (by rw[hun,hfo]) hst,hfo];have hsh:EO P (n+1) t=fs.toList.flatMap λf=>EO P n f.type:=by simp[EO,hun]
   rw[hsh] at hx hy;have hlen:xs.length=ys.length:=by rw[EL hx,EL hy]
   have main:∀ (l:List Field) (off:Nat) (r:Bool),ON P n (Hg P n) l off=true->off+(l.flatMap λf=>EO P n f.type).length=xs.length->DM (l.flatMap λf=>EO P n f.type) (xs.drop off)=true->DM (l.flatMap λf=>EO P n f.type) (ys.drop off)=true ->
     Hv (xs.drop off) (ys.drop off)=some r->(Op.eqFields d ca cb l).run P w = .ok r w:=by
    intro l;induction l with
    | nil =>intro off r _ _ h1 h2 h3;have e1:=EL h1;have e2:=EL h2;simp only[List.flatMap_nil,zet] at e1 e2;rw[zdp e1,zdp e2] at h3;simp[Hv] at h3;subst h3;simp[Op.eqFields]
    | cons f l ihl =>
     intro off r hf hoff h1 h2 h3;simp only[ON] at hf;split at hf
     ·rename_i hcond
      simp only[zds,bne_iff_ne,ne_eq] at hcond;obtain ⟨⟨⟨hn,ho⟩,hg⟩,hsz⟩:=hcond;have ho:=zdo ho;have hsz:=zdo hsz;simp only[List.flatMap_cons] at h1 h2 hoff;rw[zdy] at hoff;obtain ⟨h1a,h1b⟩:=IJ h1;obtain ⟨h2a,h2b⟩:=IJ h2;obtain ⟨r1,r2,g1,g2,g3⟩:=RO (k:=(EO P n f.type).length) h3;have hkn:(AH P f.type).known=true:=by
       cases n with
       | zero=>simp[Hg] at hg
       | succ n =>
        simp only[Hg] at hg;split at hg
        ·assumption
        ·assumption
        ·cases hg
      have c1:cut xs off (AH P f.type).size=some ((xs.drop off).take (EO P n f.type).length):=by rw[hsz];exact U1 (by omega)
      have c2:cut ys off (AH P f.type).size=some ((ys.drop off).take (EO P n f.type).length):=by rw[hsz];exact U1 (by omega)
      obtain ⟨v,hv⟩:=Q7 hg h1a;obtain ⟨u,hu⟩:=Q7 hg h2a;obtain ⟨c,k1,k2⟩:=Lf (w:=w) hkn hca c1 hv;obtain ⟨c',k3,k4⟩:=Lf (w:=w) hkn hcb c2 hu;have hq:=ih f.type hg d (by omega) w _ _ v u r1 h1a h2a hv hu g1 c c' k2 k4;rw[zeC] at h1b h2b g2;rw[zeC] at g2;simp only[Op.eqFields,ne_eq,hn,not_false_eq_true,if_true,Sem.run_bind,ho,k1,k3,Result.andThen_ok,hq];cases r1 with
      | true =>simp only[zei,zeE,if_false];rw[g3,zdu];exact ihl _ r2 hf (by omega) h1b h2b g2
      | false=>simp[g3]
     ·cases hf
   exact main fs.toList 0 r h (by rw[EL hx];omega) (by simpa using hx) (by simpa using hy) (by simpa using hr)
  ·rename_i d' hns hk hun
   obtain ⟨i,d'',hi,hd',_,_,h3,_⟩:=BM hk;rw[hun] at hd';injection hd' with hd';subst hd';have key:∀ s,EO P (n+1) t = [s]->OW d'=false->(∀ y,Kr s y=true->∀ x,Kr s x=true->∀ r,ZN x y=some r->∀ c c',VR ρ x c->VR ρ y c'->(Op.equalIn (d+1) t c c').run P w = .ok r w)->(Op.equalIn (d+1) t c c').run P w = .ok r w:=by
    intro s hsh hag hs;rw[hsh] at hx hy;rw[h3,hag] at hv hu;match xs,ys,EL hx,EL hy with
    | [x],[y],_,_ =>
     simp only[V1,Option.some.injEq] at hv hu;subst hv;subst hu;simp only[DM] at hx hy;simp only[Hv] at hr;refine hs y ?_ x ?_ r ?_ c c' hc hc'
     ·cases hz:Kr s y<;>simp[hz] at hy ⊢
     ·cases hz:Kr s x<;>simp[hz] at hx ⊢
     ·cases hz:ZN x y<;>simp[hz] at hr ⊢;exact hr
   cases d'<;>simp only[zbr] at h<;>(try cases h)
   ·refine key .bool (by simp[EO,hun]) rfl (λy hy x hx r hr c c' hc hc'=>?_);cases x<;>simp[Kr] at hx;cases y<;>simp[Kr] at hy
    simp[ZN] at hr;simp[VR] at hc hc';subst hc;subst hc';subst hr;exact run_equalIn_bool' w d t _ _ hun
   ·refine key _ (Z6 hun) rfl (λy hy x hx r hr c c' hc hc'=>?_);cases x<;>simp[Kr] at hx;cases y<;>simp[Kr] at hy
    subst hx;subst hy;simp[ZN] at hr;simp[VR] at hc hc';subst hc;subst hc';subst hr;exact run_equalIn_int w d t _ _ _ _ hun
   ·refine key .str (by simp[EO,hun]) rfl (λy hy x hx r hr c c' hc hc'=>?_);cases x<;>simp[Kr] at hx;cases y<;>simp[Kr] at hy
    simp[ZN] at hr;simp[VR] at hc hc';subst hc;subst hc';subst hr;exact run_equalIn_string w d t _ _ hun
  ·cases h
def Gl (b:Bool) (n:Nat) (cs:Array Value):List Field->Sem Unit
 | []=>pure ()
 | f :: fs =>
  if f.name ≠ "_" then do
   let a <- part f.type cs f.offset
   Instr.checkKey b n f.type a
   Gl b n cs fs
  else Gl b n cs fs
theorem L2 (w:World) (b:Bool) (d:Nat) (t:TypeId) (cs:Array Value) (fs:Array Field) (ht:P.underlying t=some (.struct fs)) :
  (Instr.checkKey b (d+1) t (.agg cs)).run P w=(Gl b d cs fs.toList).run P w:=by
 simp only[Instr.checkKey,Sem.run_bind,run_underlying ht,Result.andThen_ok];rw[<- Array.forIn_toList];generalize fs.toList=l;clear ht;induction l generalizing w with
 | nil=>simp[Gl]
 | cons f l ih =>
  simp only[List.forIn_cons,Gl,Sem.run_bind,Sem.run_ite];split
  ·generalize (part f.type cs f.offset).run P w=r1;cases r1 with
   | ok a w1 =>
    simp only[Result.andThen_ok];generalize (Instr.checkKey b d f.type a).run P w1=r2;cases r2 with
    | ok u w2 =>simp only[Result.andThen_ok,Sem.run_pure];exact ih w2
    | halt x w2=>simp[Result.andThen]
   | halt x w1=>simp[Result.andThen]
  ·simp only[Sem.run_pure,Result.andThen_ok];exact ih w
theorem zaF:∀ (n:Nat) (t:TypeId),Hg P n t=true->∀ (d:Nat),n<=d->∀ (b:Bool) (w:World) (xs:List V) (v:V),DM (EO P n t) xs=true ->
  V1 (AH P t).agg xs=some v->∀ c,VR ρ v c->(Instr.checkKey b d t c).run P w = .ok () w:=by
 intro n;induction n with
 | zero=>intro t h;simp[Hg] at h
 | succ n ih =>
  intro t h d hd b w xs v hx hv c hc;obtain ⟨d,rfl⟩:∃ m,d=m+1:=⟨d - 1,by omega⟩;simp only[Hg] at h;split at h
  ·rename_i fs hk hun
   split at h
   ·cases h
   rename_i hst
   obtain ⟨i,d',hi,hd',_,_,h3,_⟩:=BM hk;rw[hun] at hd';injection hd' with hd';subst hd';rw[h3] at hv;simp only[OW,V1,Option.some.injEq] at hv;subst hv;simp only[VR] at hc;obtain ⟨ca,rfl,hca⟩:=hc;rw[L2 w b d t ca fs hun];have hsh:EO P (n+1) t=fs.toList.flatMap λf=>EO P n f.type:=by simp[EO,hun]
   rw[hsh] at hx;have main:∀ (l:List Field) (off:Nat),ON P n (Hg P n) l off=true->off+(l.flatMap λf=>EO P n f.type).length=xs.length->DM (l.flatMap λf=>EO P n f.type) (xs.drop off)=true ->
     (Gl b d ca l).run P w = .ok () w:=by
    intro l;induction l with
    | nil=>intro off _ _ _;simp[Gl]
    | cons f l ihl =>
     intro off hf hoff h1;simp only[ON] at hf;split at hf
     ·rename_i hcond
      simp only[zds,bne_iff_ne,ne_eq] at hcond;obtain ⟨⟨⟨hn,ho⟩,hg⟩,hsz⟩:=hcond;have ho:=zdo ho;have hsz:=zdo hsz;simp only[List.flatMap_cons] at h1 hoff;rw[zdy] at hoff;obtain ⟨h1a,h1b⟩:=IJ h1;have hkn:(AH P f.type).known=true:=by
       cases n with
       | zero=>simp[Hg] at hg
       | succ n =>
        simp only[Hg] at hg;split at hg
        ·assumption
        ·assumption
        ·cases hg
      have c1:cut xs off (AH P f.type).size=some ((xs.drop off).take (EO P n f.type).length):=by rw[hsz];exact U1 (by omega)
      obtain ⟨v,hv⟩:=Q7 hg h1a;obtain ⟨c,k1,k2⟩:=Lf (w:=w) hkn hca c1 hv;have hq:=ih f.type hg d (by omega) b w _ v h1a hv c k2;rw[zeC] at h1b;simp only[Gl,ne_eq,hn,not_false_eq_true,if_true,Sem.run_bind,ho,k1,Result.andThen_ok,hq];exact ihl _ hf (by omega) h1b
     ·cases hf
   exact main fs.toList 0 h (by rw[EL hx];omega) (by simpa using hx)
  ·rename_i d' hns hk hun
   cases d'<;>simp only[zbr] at h<;>(try cases h)<;>simp[Instr.checkKey,run_underlying hun]
  ·cases h
def zaN (P:Program) (t:TypeId):Bool:=Hg P 8 t && !P.eqGuardType P.depth t&&(AH P t).agg&&(match P.underlying t with | some (.struct _)=>true | _=>false)
theorem zbO (h:zaN P t=true):EqOk P t:=by
 simp only[zaN,zds,zdV] at h;obtain ⟨⟨⟨h1,h2⟩,h3⟩,h4⟩:=h;have hk:(AH P t).known=true:=by
  simp only[Hg] at h1;split at h1
  ·assumption
  ·assumption
  ·cases h1
 have hsh:(AH P t).sh=EO P 8 t:=by obtain ⟨i,d,hi,hd,_⟩:=BM hk;simp[AH,hi,hd]
 refine ⟨λρ w xs ys ca cb r hx hy hc hc' hr=>?_,h2,λρ w xs ca b hx hc=>?_,?_⟩
 ·rw[hsh] at hx hy;unfold Op.equal Op.maxDepth;exact zbJ 8 t h1 10000 (by omega) w xs ys (.agg xs) (.agg ys) r hx hy (by rw[h3];rfl) (by rw[h3];rfl) hr _ _ (by simp only[VR];exact ⟨_,rfl,hc⟩) (by simp only[VR];exact ⟨_,rfl,hc'⟩)
 ·rw[hsh] at hx;exact zaF 8 t h1 10000 (by omega) b w xs (.agg xs) hx (by rw[h3];rfl) _ (by simp only[VR];exact ⟨_,rfl,hc⟩)
 ·split at h4
  ·exact ⟨_,‹_›⟩
  ·cases h4
end
def zcm (fn:Func):Bool:=match fn.body with
 | none=>true
 | some c => Jf fn.ntmps c && !(fn.name == "runtime.NumGoroutine")
theorem Z3 {P:Program}{C:List Nat} (hm:P.follows .mixedOrders=true) (hC:C.all (zaN P)=true) (hF:P.funcs.all zcm=true):Sound P (Xx P C H):=by
 have hcmp:∀ t,(Xx P C H).cmp t=true->EqOk P t:=λt ht=>by have ht:C.any (Nat.beq t)=true:=ht;rw[List.any_eq_true] at ht;obtain ⟨u,hu,hb⟩:=ht;have:=zdo hb;subst this;exact zbO (zdz.1 hC _ hu)
 refine ⟨rfl,hcmp,λf fn c hf hb=>?_,λcall f hs=>zb9 rfl hm rfl hcmp hs⟩;have:=Array.all_eq_true_iff_forall_mem.1 hF fn (Array.mem_of_getElem? hf);unfold zcm at this;rw[hb] at this;simpa using this
end Go.Proofs.YtmgopagfoemomaaGreat.T
namespace Go.Proofs.YtmgopagfoemomaaGreat.T
open Go
variable {body:St->Option (Ex×St)}{c:Code}{σ:St}{p:Ex×St}{σ':St}{ty:TypeId}{rs:List ResultVar}
def Sup {R:Type} (a:Option R) (A:Nat->Option R):Prop:=∀ r,a=some r->∃ n,∀ m,n<=m->A m=some r
section
variable {R S:Type}
theorem Sup.const (a:Option R):Sup a λ_=>a:=λr h=>⟨0,λ_ _=>h⟩
theorem Sup.none (A:Nat->Option R):Sup none A:=λr h=>by cases h
theorem Sup.bind {a:Option R}{A:Nat->Option R}{f:R->Option S}{F:Nat->R->Option S} (h:Sup a A) (hf:∀ x,Sup (f x) λm=>F m x):Sup (a.bind f) λm=>(A m).bind (F m):=λr hr=>by
 cases a with
 | none=>cases hr
 | some x =>obtain ⟨n1,h1⟩:=h x rfl;obtain ⟨n2,h2⟩:=hf x r hr;refine ⟨n1+n2,λm hm=>?_⟩;show (A m).bind (F m)=some r;rw[h1 m (by omega)];exact h2 m (by omega)
theorem Sup.br {b:Bool}{x y:Option R}{X Y:Nat->Option R} (hx:Sup x X) (hy:Sup y Y):Sup (br b x y) λm=>br b (X m) (Y m):=by
 cases b
 ·exact hy
 ·exact hx
theorem Sup.eBv {v:V}{f:Bool->Option R}{F:Nat->Bool->Option R} (h:∀ b,Sup (f b) λm=>F m b):Sup (eBv v f) λm=>eBv v (F m):=by
 unfold T.eBv;split
 ·exact h _
 ·exact Sup.none _
theorem Sup.guard {all:List Oper}{s:List (Nat×V)}{g:Option (Nat×Bool)}{x y:Option R}{X Y:Nat->Option R} (hx:Sup x X) (hy:Sup y Y):Sup (Ip all s g x y) λm=>Ip all s g (X m) (Y m):=by
 unfold Ip;split
 ·exact hx
 ·split
  ·exact Sup.none _
  ·split
   ·exact Sup.none _
   ·split
    ·split
     ·exact Sup.br hx hy
     ·exact Sup.br hy hx
    ·exact hy
    ·exact Sup.none _
end
theorem Pt {body:St->Option (Ex×St)}:∀ {n m:Nat}{σ:St}{p:Ex×St},rounds body n σ=some p->n<=m->rounds body m σ=some p
 | 0,m,σ,p,h,_=>by simp[rounds] at h
 | n+1,m,σ,p,h,hm=>by
  obtain ⟨m,rfl⟩:∃ k,m=k+1:=⟨m - 1,by omega⟩;simp only[rounds] at h ⊢;cases hb:body σ with
  | none=>rw[hb] at h;cases h
  | some q =>
   rw[hb] at h;simp only[zdF] at h ⊢;split at h
   ·exact Pt h (by omega)
   ·exact h
theorem NV {α:Type}{g:Nat->Option α}{r:α}{n:Nat} (h:∀ m,n<=m->g m=some r):L4 g=some r:=by unfold L4;have hx:∃ r,∃ n,∀ m,n<=m->g m=some r:=⟨r,n,h⟩;rw[dif_pos hx];obtain ⟨k,hk⟩:=Classical.choose_spec hx;have h1:=hk (n+k) (by omega);have h2:=h (n+k) (by omega);rw[h1] at h2;exact h2
theorem Kj {α:Type}{g:Nat->Option α}{r:α} (h:L4 g=some r):∃ n,∀ m,n<=m->g m=some r:=by
 unfold L4 at h;split at h
 ·rename_i hx
  injection h with h;obtain ⟨n,hn⟩:=Classical.choose_spec hx;exact ⟨n,λm hm=>by have:=hn m hm;rw[<- h];exact this⟩
 ·cases h
theorem Nu {id:Nat}{n:Nat} (h:rounds body n σ=some p):Ft c id body σ=some p :=
 NV (n:=n) λ_ hm=>Pt h hm
theorem Rb {id:Nat} (h:Ft c id body σ=some p):∃ n,rounds body n σ=some p:=by obtain ⟨n,hn⟩:=Kj h;exact ⟨n,hn n (zdj _)⟩
theorem zcC {id:Nat} (h:body σ=some (.normal,σ')) (hl:Ft c id body σ'=some p):Ft c id body σ=some p:=by obtain ⟨n,hn⟩:=Rb hl;refine Nu (n:=n+1) ?_;simp only[rounds,h,zdF];exact hn
theorem zcD {id:Nat}{j:Nat} (h:body σ=some (.exit j,σ')):Ft c id body σ=some (.exit j,σ') :=
 Nu (n:=1) (by simp[rounds,h])
theorem zcT {id:Nat} (h:body σ=some (.ret,σ')):Ft c id body σ=some (.ret,σ') :=
 Nu (n:=1) (by simp[rounds,h])
theorem Sup.rounds {body:St->Option (Ex×St)}{B:Nat->St->Option (Ex×St)} (h:∀ σ,Sup (body σ) λm=>B m σ):∀ (n:Nat) (σ:St),Sup (rounds body n σ) λm=>rounds (B m) n σ
 | 0,σ=>Sup.none _
 | n+1,σ=>by
  simp only[T.rounds];refine Sup.bind (h σ) λp=>?_;obtain ⟨e,σ'⟩:=p;cases e with
  | normal=>exact Sup.rounds h n σ'
  | exit j=>exact Sup.const _
  | ret=>exact Sup.const _
theorem Sup.loop {id:Nat}{B:Nat->St->Option (Ex×St)} (h:∀ σ,Sup (body σ) λm=>B m σ) (σ:St):Sup (Ft c id body σ) λm=>Ft c id (B m) σ:=λr hr=>by obtain ⟨n,hn⟩:=Rb hr;obtain ⟨k,hk⟩:=Sup.rounds h n σ r hn;exact ⟨k,λm hm=>Nu (hk m hm)⟩
section
variable {X:Ctx}{A:Nat->Il} (hA:∀ lo f args h,Sup (X.call lo f args h) λm=>A m lo f args h)
def Ctx.at (X:Ctx) (c:Il):Ctx:=⟨X.ty,X.cmp,X.ret,c,X.keep,X.hb,X.cl,X.wide⟩
theorem zc4 (c:Il) {fs:List (Nat×TypeId)}:Hi (X.at c) fs=Hi X fs:=rfl
theorem V8 (c:Il):∀ (fs:List (Nat×TypeId)),Jj (X.at c) fs=Jj X fs
 | []=>rfl
 | f :: fs=>by have:=V8 c fs;simp only[Jj];rw[this];rfl
include hA in
theorem Sup.step {lo:Nat}{d:Option Nat}{o:Op}:Sup (AJ X lo d ty o σ) λm=>AJ (X.at (A m)) lo d ty o σ:=by
 have same:(∀ m,AJ (X.at (A m)) lo d ty o σ=AJ X lo d ty o σ)->Sup (AJ X lo d ty o σ) λm=>AJ (X.at (A m)) lo d ty o σ:=λh r hr=>⟨0,λm _=>(h m).trans hr⟩
 cases o;case call c =>
  unfold AJ;simp only[opT];split
  ·split
   ·rename_i f hf
    split
    ·rename_i g cs _
     have h1:=hA lo g (Ea (Oh σ.s c.args.toList) cs) σ.h;intro r hr;cases hc:X.call lo g (Ea (Oh σ.s c.args.toList) cs) σ.h with
     | none=>rw[hc] at hr;cases hr
     | some p =>obtain ⟨n,hn⟩:=h1 p hc;refine ⟨n,λm hm=>?_⟩;rw[hc] at hr;have h2:A m lo g (Ea (Oh σ.s c.args.toList) cs) σ.h=some p:=hn m hm;show Ak (A m lo g (Ea (Oh σ.s c.args.toList) cs) σ.h) _=some r;rw[h2];exact hr
    ·exact Sup.none _
   ·rename_i b hb
    intro r hr;refine ⟨0,λm _=>?_⟩;refine Eq.trans ?_ hr;cases b<;>rfl
   ·exact Sup.none _
  ·exact Sup.none _
 case build t ps =>refine same λm=>?_;unfold AJ;simp only[opT,V8];rfl
 all_goals exact same λm=>rfl
variable {R:Type}
include hA in
theorem Sup.opT {lo:Nat}{d:Option Nat}{ty:TypeId}{o:Op}{σ:St}{k:V->St->Option R}{K:Nat->V->St->Option R} (hk:∀ v σ,Sup (k v σ) λm=>K m v σ):Sup (T.opT X lo d ty o σ k) λm=>T.opT (X.at (A m)) lo d ty o σ (K m):=by
 rw[I1];have:(λm=>T.opT (X.at (A m)) lo d ty o σ (K m))=λm=>(AJ (X.at (A m)) lo d ty o σ).bind λp=>K m p.1 p.2:=by funext m;exact I1
 rw[this];exact Sup.bind (Sup.step hA) λp=>hk p.1 p.2
omit hA in
theorem YG {o:Oper}{σ σ':St}{c:Il}:∀ {l:List Oper}{k:Option R},T.chkT (X.at c) o σ σ' l k=T.chkT X o σ σ' l k
 | [],k=>rfl
 | p :: l,k=>by simp only[T.chkT,YG (l:=l),show (X.at c).ty=X.ty from rfl]
omit hA in
theorem Sup.chkT {o:Oper}{σ σ':St}{l:List Oper}{k:Option R}{K:Nat->Option R} (hk:Sup k K):Sup (T.chkT X o σ σ' l k) λm=>T.chkT (X.at (A m)) o σ σ' l (K m):=by
 have h1:∀ k:Option R,T.chkT X o σ σ' l k=(T.chkT X o σ σ' l (some ())).bind λ_=>k:=λk=>by rw[OT];rfl
 have h2:(λm=>T.chkT (X.at (A m)) o σ σ' l (K m))=λm=>(T.chkT X o σ σ' l (some ())).bind λ_=>K m:=by funext m;rw[YG,h1]
 rw[h2,h1];cases T.chkT X o σ σ' l (some ()) with
 | none=>exact Sup.none _
 | some _=>exact hk
omit hA in
theorem MI {c:Il}{cl:Nat->Bool}:∀ {l:List Oper}{i:Nat}{bx:List (Nat×List V)},GP (X.at c) cl i l bx=GP X cl i l bx
 | [],i,bx=>rfl
 | p :: l,i,bx=>by
  simp only[GP,show (X.at c).ty=X.ty from rfl,show (X.at c).hb=X.hb from rfl];split
  ·exact MI
  ·split
   ·exact MI
   ·rfl
include hA in
theorem Sup.opsT {lo:Nat}{all:List Oper}{calm al:Nat->Bool}{ck:Nat->List Oper}{k:St->Option R}{K:Nat->St->Option R} (hk:∀ σ,Sup (k σ) λm=>K m σ) :
  ∀ (rest:List Oper) (i:Nat) (σ:St),Sup (T.opsT X lo all calm ck al i rest σ k) λm=>T.opsT (X.at (A m)) lo all calm ck al i rest σ (K m)
 | [],i,σ=>by simp only[T.opsT];exact hk σ
 | o :: r,i,σ=>by
  simp only[T.opsT];split
  ·exact Sup.opsT hk r _ _
  refine Sup.guard ?_ (Sup.opsT hk r _ _);split
  ·exact Sup.opT hA λv σ=>Sup.opsT hk r _ _
  ·exact Sup.opT hA λv σ=>Sup.chkT (Sup.opsT hk r _ _)
include hA in
theorem Sup.exec {lo:Nat}:∀ (c:Code) {R:Type}{k:Ex->St->Option R}{K:Nat->Ex->St->Option R} (id:Nat) (σ:St),(∀ e σ,Sup (k e σ) λm=>K m e σ)->Sup (T.exec X lo c id σ k) λm=>T.exec (X.at (A m)) lo c id σ (K m)
 | .skip,R,k,K,id,σ,hk=>by simp only[T.exec];exact hk _ _
 | .region i ops draw,R,k,K,id,σ,hk=>by
  simp only[T.exec,show ∀ c:Il,(X.at c).cl=X.cl from λ_=>rfl];split
  ·exact Sup.opsT hA (λσ=>hk _ _) _ _ _
  ·split
   ·simp only[show ∀ c:Il,(X.at c).narrow=X.narrow.at c from λ_=>rfl,MI];cases GP X.narrow (KG X.cl i) 0 ops.toList σ.bx with
    | none=>exact Sup.none _
    | some bx =>
    refine Sup.opsT (X:=X.narrow) (K:=λm σ=>match Uf σ.s (AV [] ops.toList) ops.toList (KG X.cl i) with | true=>K m .normal σ | false=>Option.none) hA (λσ=>?_) _ _ _;cases he:Uf σ.s (AV [] ops.toList) ops.toList (KG X.cl i) with
    | true=>exact hk _ _
    | false=>exact Sup.none _
   ·exact Sup.none _
 | .seq a b,R,k,K,id,σ,hk=>by
  simp only[T.exec];refine Sup.exec a id σ λe σ=>?_;cases e with
  | normal=>exact Sup.exec b id σ hk
  | exit j=>exact hk _ _
  | ret=>exact hk _ _
 | .cond x a b,R,k,K,id,σ,hk=>by simp only[T.exec];exact Sup.eBv λt=>Sup.br (Sup.exec a id σ hk) (Sup.exec b id σ hk)
 | .block j b,R,k,K,id,σ,hk=>by
  simp only[T.exec];refine Sup.exec b j σ λe σ=>?_;cases e with
  | normal=>exact hk _ _
  | exit i =>
   simp only[AW];split
   ·exact hk _ _
   ·exact hk _ _
  | ret=>exact hk _ _
 | .loop b,R,k,K,id,σ,hk=>by
  simp only[T.exec];have hb:∀ σ,Sup (T.exec X lo b id σ (Ja X id)) λm=>T.exec (X.at (A m)) lo b id σ (Ja (X.at (A m)) id):=λσ=>Sup.exec b id σ λe σ=>Sup.const _;intro r hr;cases hl:Ft b id (λσ=>T.exec X lo b id σ (Ja X id)) (norm X id σ) with
  | none=>rw[hl] at hr;cases hr
  | some p =>rw[hl] at hr;obtain ⟨e,σ'⟩:=p;obtain ⟨n1,h1⟩:=Sup.loop (c:=b) (id:=id) hb (norm X id σ) _ hl;obtain ⟨n2,h2⟩:=hk e σ' r hr;refine ⟨n1+n2,λm hm=>?_⟩;have h3:Ft b id (λσ=>T.exec (X.at (A m)) lo b id σ (Ja (X.at (A m)) id)) (norm X id σ)=some (e,σ'):=h1 m (by omega);show zcB (Ft b id (λσ=>T.exec (X.at (A m)) lo b id σ (Ja (X.at (A m)) id)) (norm X id σ)) (K m)=some r;rw[h3];exact h2 m (by omega)
 | .exit j,R,k,K,id,σ,hk=>by simp only[T.exec];exact hk _ _
 | .ret,R,k,K,id,σ,hk=>by simp only[T.exec];exact hk _ _
 | .goto _,R,k,K,id,σ,hk=>by simp only[T.exec];exact Sup.none _
 | .label _,R,k,K,id,σ,hk=>by simp only[T.exec];exact Sup.none _
 | .scope _,R,k,K,id,σ,hk=>by simp only[T.exec];exact Sup.none _
 | .rangeFunc _ _ _ _,R,k,K,id,σ,hk=>by simp only[T.exec];exact Sup.none _
 | .refuse _,R,k,K,id,σ,hk=>by simp only[T.exec];exact Sup.none _
end
theorem VU {X:Ctx}{c:Il}{σ:St}:∀ {rs:List ResultVar},Pw (X.at c) σ rs=Pw X σ rs
 | []=>rfl
 | r :: rs=>by
  simp only[Pw];rw[VU (rs:=rs)];have:TB (X.at c) σ r=TB X σ r:=by cases r<;>rfl
  rw[this]
theorem Ye {X:Ctx}{c:Il}:Xj (X.at c) rs σ=Xj X rs σ:=by unfold Xj;rw[VU]
theorem Sup.fnT {I:Info}{fn:Func}{call:Il}{A:Nat->Il} (hA:∀ lo f args h,Sup (call lo f args h) λm=>A m lo f args h) {lo:Nat}{f:FuncId}{args:List V}{h:Heap}:Sup (fnT I fn call lo f args h) λm=>fnT I fn (A m) lo f args h:=by
 unfold T.fnT;split
 ·exact Sup.none _
 ·refine Sup.exec (X:=I.ctx call f) hA _ _ _ λe σ=>?_;cases e with
  | normal=>exact λr hr=>⟨0,λm _=>(Ye (X:=I.ctx call f) (c:=A m)).trans hr⟩
  | ret=>exact λr hr=>⟨0,λm _=>(Ye (X:=I.ctx call f) (c:=A m)).trans hr⟩
  | exit j=>exact Sup.none _
theorem Yt {P:Program}{I:Info}{lo:Nat}{f:FuncId}{fn:Func}{args:List V}{h:Heap}{p q:V×Heap} (hf:P.funcs[f]?=some fn) (hk:fnT I fn (eval P I) (zcl (I.drop f) lo h) f args h=some p) (hd:YF (I.drop f) h p=some q) :
  eval P I lo f args h=some q:=by
 have hA:∀ lo f args h,Sup (eval P I lo f args h) λm=>Lr P I m lo f args h:=λlo f args h r hr=>Kj hr;obtain ⟨n,hn⟩:=Sup.fnT (I:=I) (fn:=fn) hA p hk;refine NV (n:=n+1) λm hm=>?_;obtain ⟨m,rfl⟩:∃ k,m=k+1:=⟨m - 1,by omega⟩;simp only[Lr,hf];have h2:fnT I fn (Lr P I m) (zcl (I.drop f) lo h) f args h=some p:=hn m (by omega);rw[h2];exact hd
end Go.Proofs.YtmgopagfoemomaaGreat.T
namespace Go.Proofs.YtmgopagfoemomaaGreat.T
open Go
variable {lo:Nat}{c:Code}{id:Nat}{σ:St}{P:Program}{f:FuncId}{args:List V}
section
variable {R S:Type}{g:R->Option S}
theorem Wk {all:List Oper}{s:List (Nat×V)}{q:Option (Nat×Bool)}{x y:Option R}:(Ip all s q x y).bind g=Ip all s q (x.bind g) (y.bind g):=by
 unfold Ip;split
 ·rfl
 ·split
  ·rfl
  ·split
   ·rfl
   ·split
    ·split<;>exact KJ
    ·rfl
    ·rfl
theorem IO {X:Ctx}{lo:Nat}{all:List Oper}{calm al:Nat->Bool}{ck:Nat->List Oper}{k:St->Option R}:∀ (rest:List Oper) (i:Nat) (σ:St),(opsT X lo all calm ck al i rest σ k).bind g=opsT X lo all calm ck al i rest σ λσ=>(k σ).bind g
 | [],i,σ=>rfl
 | o :: r,i,σ=>by
  simp only[opsT];split
  ·exact IO r _ _
  rw[Wk,IO r];congr 1;split
  ·rw[QZ];congr 1;funext v σ;exact IO r _ _
  ·rw[QZ];congr 1;funext v σ;rw[OT];congr 1;exact IO r _ _
end
theorem IR {X:Ctx}{lo:Nat}:∀ (c:Code) {R S:Type}{g:R->Option S}{k:Ex->St->Option R} (id:Nat) (σ:St),(exec X lo c id σ k).bind g=exec X lo c id σ λe σ=>(k e σ).bind g
 | .skip,R,S,g,k,id,σ=>rfl
 | .region i ops draw,R,S,g,k,id,σ=>by
  simp only[exec];split
  ·exact IO _ _ _
  ·split
   ·rw[FO];congr 1;funext bx;rw[IO];congr 1;funext σ;split<;>rfl
   ·rfl
 | .seq a b,R,S,g,k,id,σ=>by
  simp only[exec];rw[IR a];congr 1;funext e σ;cases e with
  | normal=>exact IR b id σ
  | exit j=>rfl
  | ret=>rfl
 | .cond x a b,R,S,g,k,id,σ=>by simp only[exec];rw[NQ];congr 1;funext t;rw[KJ,IR a,IR b]
 | .block j b,R,S,g,k,id,σ=>by
  simp only[exec];rw[IR b];congr 1;funext e σ;cases e with
  | normal=>rfl
  | exit i=>simp only[AW];split<;>rfl
  | ret=>rfl
 | .loop b,R,S,g,k,id,σ=>by simp only[exec];generalize Ft b id (λσ=>exec X lo b id σ (Ja X id)) (norm X id σ)=o;cases o<;>rfl
 | .exit j,R,S,g,k,id,σ=>rfl
 | .ret,R,S,g,k,id,σ=>rfl
 | .goto _,R,S,g,k,id,σ=>rfl
 | .label _,R,S,g,k,id,σ=>rfl
 | .scope _,R,S,g,k,id,σ=>rfl
 | .rangeFunc _ _ _ _,R,S,g,k,id,σ=>rfl
 | .refuse _,R,S,g,k,id,σ=>rfl
noncomputable def WL {R:Type} (X:Ctx) (lo:Nat) (c:Code) (id:Nat) (K:Ex->St->Option R):Ex->St->Option R
 | .normal,σ=>zcB (Ft c id (λσ=>exec X lo c id σ (Ja X id)) (norm X id σ)) K
 | .exit j,σ=>K (.exit j) (norm X id σ)
 | .ret,σ=>K .ret (norm X id σ)
theorem X9 {α:Type}{g:Nat->Option α}:L4 (λn=>g (n+1))=L4 g:=by
 cases h:L4 g with
 | some r =>obtain ⟨n,hn⟩:=Kj h;exact NV (n:=n) λm hm=>hn (m+1) (by omega)
 | none =>
  cases h':L4 (λn=>g (n+1)) with
  | none=>rfl
  | some r =>
   obtain ⟨n,hn⟩:=Kj h';have:L4 g=some r:=NV (n:=n+1) λm hm=>by have:=hn (m - 1) (by omega);rwa [show m - 1+1=m by omega] at this
   rw[h] at this;cases this
theorem MK {α:Type}{o:Option α}:L4 (λ_=>o)=o:=by
 cases o with
 | some r=>exact NV (n:=0) λ_ _=>rfl
 | none =>
  cases h:L4 (λ_:Nat=>(none:Option α)) with
  | none=>rfl
  | some r=>obtain ⟨n,hn⟩:=Kj h;have:=hn n (zdj _);cases this
theorem zam {body:St->Option (Ex×St)}:Ft c id body σ=(body σ).bind λp=>match p.1 with | .normal=>Ft c id body p.2 | e=>some (e,p.2):=by
 have h1:Ft c id body σ=L4 λn=>rounds body (n+1) σ:=(X9 (g:=λn=>rounds body n σ)).symm;rw[h1];cases hb:body σ with
 | none =>
  have:(λn=>rounds body (n+1) σ)=λ_=>none:=by funext n;simp only[rounds,hb];rfl
  rw[this,MK];rfl
 | some p =>
  obtain ⟨e,σ'⟩:=p;cases e with
  | normal =>
   have:(λn=>rounds body (n+1) σ)=λn=>rounds body n σ':=by funext n;simp only[rounds,hb];rfl
   rw[this];rfl
  | exit j =>
   have:(λn=>rounds body (n+1) σ)=λ_=>some (.exit j,σ'):=by funext n;simp only[rounds,hb];rfl
   rw[this,MK];rfl
  | ret =>
   have:(λn=>rounds body (n+1) σ)=λ_=>some (.ret,σ'):=by funext n;simp only[rounds,hb];rfl
   rw[this,MK];rfl
theorem zcA {R:Type}{X:Ctx}{K:Ex->St->Option R} :
  zcB (Ft c id (λσ=>exec X lo c id σ (Ja X id)) σ) K=exec X lo c id σ (WL X lo c id K):=by
 have h1:∀ o:Option (Ex×St),zcB o K=o.bind λp=>K p.1 p.2:=λo=>by cases o<;>rfl
 rw[zam,h1,Option.bind_assoc];rw[IR c];congr 1;funext e σ';cases e with
 | normal=>exact (h1 _).symm
 | exit j=>rfl
 | ret=>rfl
noncomputable def Lp {R:Type} (X:Ctx) (lo:Nat) (c:Code) (id:Nat) (K:Ex->St->Option R) (σ:St):Option R:=zcB (Ft c id (λσ=>exec X lo c id σ (Ja X id)) σ) K
theorem Lp_eq {R:Type}{X:Ctx}{K:Ex->St->Option R}:Lp X lo c id K σ=exec X lo c id σ (WL X lo c id K):=zcA
theorem Zy {I:Info}{fn:Func}{h:Heap} (hf:P.funcs[f]?=some fn) (hd:I.drop f=false) {p:V×Heap} (hk:fnT I fn (eval P I) lo f args h=some p):eval P I lo f args h=some p :=
 Yt hf (by rw[hd];exact hk) (by rw[hd];rfl)
theorem Zz {I:Info}{fn:Func}{h h':Heap}{v:V} (hf:P.funcs[f]?=some fn) (hd:I.drop f=true) (hk:fnT I fn (eval P I) h.length f args h=some (v,h')) (hn:noId v=true):eval P I lo f args h=some (v,h) :=
 Yt hf (by rw[hd];exact hk) (by rw[hd];simp only[YF,hn])
end Go.Proofs.YtmgopagfoemomaaGreat.T
namespace Go.Proofs.YtmgopagfoemomaaGreat
open Go T
variable {α:Type}{l:List α}
abbrev Iv (x : Int) : V := .int .i64 x
theorem DZ {i:Nat} (h : i < l.length) : l[i]? = some l[i] := zdx h
theorem DY {i:Nat}{a:α} (h : l[i]? = some a) : ∃ h : i < l.length, l[i] = a := zdk.1 h
theorem A7 (n : Nat) : ((n : Nat) : Int).toNat = n := Int.toNat_natCast n
theorem DH (a b : Bool) : ((a && b) = true) = (a = true /\ b = true) := zds a b
abbrev Vh := V × Heap
abbrev Ov := Option Vh
abbrev Du (a:Int)(b:Int)(c:Pq)(d:Nat)(e:Nq)(f:Pq)(g:Nat)(h:Nq)(i:Pq)(j:Nat)(k:Nq)(l:Bool):List V:=[Iv a,Iv b,.sl 2 c d e,.sl 6 f g h,.sl 1 i j k,.bool l]
abbrev Br (a:Int)(b:Int)(c:Pq)(d:Nat)(e:Nq)(f:Pq)(g:Nat)(h:Nq)(i:Pq)(j:Nat)(k:Nq)(l:Bool):V:=.agg [Iv a,Iv b,.sl 2 c d e,.sl 6 f g h,.sl 1 i j k,.bool l]
abbrev DW (a:Pq)(b:Nat)(c:Nq)(d:Pq)(e:Nat)(f:Nq)(g:Pq)(h:Nat)(i:Nq)(j:Pq)(k:Nat)(l:Nq):List V:=[.sl 6 a b c,.sl 5 d e f,.sl 9 g h i,.sl 5 j k l]
abbrev At (a:Pq)(b:Nat)(c:Nq)(d:Pq)(e:Nat)(f:Nq)(g:Pq)(h:Nat)(i:Nq)(j:Pq)(k:Nat)(l:Nq):V:=.agg [.sl 6 a b c,.sl 5 d e f,.sl 9 g h i,.sl 5 j k l]
abbrev Dc (a:Int)(b:Int)(c:Int)(d:Pq)(e:Nat)(f:Nq)(g:ByteArray)(h:Bool):List V:=[Iv a,Iv b,Iv c,.sl 2 d e f,.str g,.bool h]
abbrev AC (a:Int)(b:Int)(c:Int)(d:Pq)(e:Nat)(f:Nq)(g:ByteArray)(h:Bool):V:=.agg [Iv a,Iv b,Iv c,.sl 2 d e f,.str g,.bool h]
abbrev Bg (a:Int)(b:Int):List V:=[Iv a,Iv b]
abbrev Ar (a:Int)(b:Int):V:=.agg [Iv a,Iv b]
abbrev PR (a:Int)(b:Int)(c:Int)(d:Int)(e:ByteArray)(f:Bool):List V:=[Iv a,Iv b,Iv c,Iv d,.str e,.bool f]
abbrev BT (a:Int)(b:Int)(c:Int)(d:Int)(e:ByteArray)(f:Bool):V:=.agg [Iv a,Iv b,Iv c,Iv d,.str e,.bool f]
abbrev NS (a:Int)(b:Int)(c:Int)(d:Int)(e:Int)(f:Int)(g:Pq)(h:Nat)(i:Nq)(j:ByteArray)(k:Bool):List V:=[Iv a,Iv b,Iv c,Iv d,Iv e,Iv f,.sl 2 g h i,.str j,.bool k]
abbrev PM (a:Int)(b:Int)(c:Int)(d:Int)(e:Int)(f:Int)(g:Pq)(h:Nat)(i:Nq)(j:ByteArray)(k:Bool):V:=.agg [Iv a,Iv b,Iv c,Iv d,Iv e,Iv f,.sl 2 g h i,.str j,.bool k]
abbrev NR (a:Int)(b:Pq)(c:Nat)(d:Nq)(e:Int)(f:Int)(g:Int):List V:=[Iv a,.sl 2 b c d,Iv e,Iv f,Iv g]
abbrev PL (a:Int)(b:Pq)(c:Nat)(d:Nq)(e:Int)(f:Int)(g:Int):V:=.agg [Iv a,.sl 2 b c d,Iv e,Iv f,Iv g]
abbrev Ij (a:Pq)(b:Nat)(c:Nq)(d:Pq)(e:Nat)(f:Nq):List V:=[.sl 6 a b c,.sl 6 d e f]
abbrev KS (a:Pq)(b:Nat)(c:Nq)(d:Pq)(e:Nat)(f:Nq):V:=.agg [.sl 6 a b c,.sl 6 d e f]
abbrev C1 (a:Int)(b:Int)(c:Int):List V:=[Iv a,Iv b,Iv c]
abbrev Bb (a:Pq)(b:Nat)(c:Nq):List V:=[.sl 2 a b c]
abbrev Ap (a:Pq)(b:Nat)(c:Nq):V:=.agg [.sl 2 a b c]
abbrev Bc (a:Pq)(b:Nat)(c:Nq):List V:=[.sl 6 a b c]
abbrev BS (a:Pq)(b:Nat)(c:Nq):V:=.agg [.sl 6 a b c]
abbrev AN (a:Int):List V:=[Iv a]
abbrev Wz (a:Int)(b:Int)(c:Int)(d:Int)(e:Int):List V:=[Iv a,Iv b,Iv c,Iv d,Iv e]
abbrev RE (a:Int)(b:Int)(c:Int)(d:Int)(e:Int):V:=.agg [Iv a,Iv b,Iv c,Iv d,Iv e]
abbrev AD (h:Heap):Ov:=some (.bool false,h)
abbrev Cn (h:Heap):Ov:=some (.bool true,h)
abbrev Dt (a b c:Nat):V:=.ptr (some (a,(b,c)))
abbrev Al (x:Int):Int:=IntKind.wrap .i64 x
noncomputable def I:T.Info:=Xx Tryz.prog [36,74,88,126,202,218] [(3,{ keep := [(0,[2,3,4,5,6,7,8,9,12],[3,7,8,9])],cl := [(6,[0,1]),(7,[0,1]),(13,[1,5]),(16,[0])] }),
 (4,{ keep := [(0,[4,8,9,10],[8,9])],cl := [(5,[0]),(10,[1,7]),(12,[1,4])] }),
 (5,{ keep := [(0,[2,6,7],[6])],cl := [(5,[0])] }),
 (6,{ keep := [(0,[5,6,7,8],[6,7])],cl := [(5,[0]),(6,[0]),(11,[0])] }),
 (8,{ cl := [(8,[0,2]),(10,[0,1]),(13,[0,1]),(27,[0,2])] }),
 (9,{ cl := [(9,[0,12])] }),
 (10,{ hb := [6,7,8,9,12],cl := [(3,[1,0])] }),
 (11,{ cl := [(5,[0,5])] }),
 (12,{ keep := [(0,[2,3,4,5],[2,3])],cl := [(6,[1,6])],drop:=true }),
 (13,{ keep := [(0,[1,2,3,45,46,47],[3]),(2,[1,2,3,4,45,46,47,58,59,60],[3]),(4,[1,2,90,91,92],[])],hb := [1],drop:=true }),
 (15,{ drop:=true }),
 (16,{ keep := [(0,[1,2,3,4],[1,3]),(2,[1,2,3,4,5],[1,3])] }),
 (17,{ keep := [(0,[2,3,4,5],[2,3])],cl := [(6,[1,6])],drop:=true }),
 (18,{ drop:=true }),
 (19,{ hb := [1] }),
 (22,{ keep := [(0,[2,3,4,5],[2,3]),(2,[2,3,4,6],[2,3]),(4,[2,3,4,9],[2,3])],cl := [(6,[1,6])],drop:=true }),
 (24,{ keep := [(0,[0,1,4,5],[])],drop:=true }),
 (25,{ keep := [(0,[6,7,22,23,24],[6])],hb := [7] }),
 (26,{ hb := [1],drop:=true }),
 (28,{ hb := [6] }),
 (29,{ keep := [(0,[0,1,4,5],[])],drop:=true }),
 (30,{ keep := [(0,[0,3,4],[])] }),
 (31,{ drop:=true }),
 (32,{ keep := [(0,[0,1,4,5],[])],drop:=true }),
 (33,{ keep := [(0,[0,1,5],[])] }),
 (35,{ drop:=true }),
 (36,{ drop:=true }),
 (37,{ drop:=true }),
 (38,{ cl := [(3,[0,2])] }),
 (40,{ drop:=true }),
 (41,{ hb := [10] }),
 (42,{ cl := [(2,[1,4])] }),
 (43,{ keep := [(0,[0,2,3,4],[2,3])],cl := [(5,[1]),(10,[1])] }),
 (46,{ keep := [(0,[1,2,3],[1]),(2,[1,2,3,4],[1])],cl := [(11,[3])],drop:=true }),
 (50,{ hb := [6] }),
 (52,{ cl := [(1,[0]),(3,[5]),(8,[3])] }),
 (53,{ keep := [(0,[1,2,3],[1]),(2,[1,2,4,5],[1,4])],cl := [(12,[1,8])],drop:=true }),
 (54,{ drop:=true }),
 (55,{ keep := [(0,[0,2,3],[])],drop:=true }),
 (56,{ keep := [(0,[1,2,3],[1])],drop:=true }),
 (57,{ cl := [(1,[0,2])],drop:=true }),
 (58,{ keep := [(0,[1,2,3,4],[1,2,3])],cl := [(1,[1,3,5,7,10]),(5,[1,3])] }),
 (59,{ cl := [(1,[1,2,5,9]),(4,[0,3])] }),
 (60,{ keep := [(0,[2,3,4,5],[2,3])],cl := [(6,[1,7])],drop:=true }),
 (61,{ keep := [(0,[0,1,4,5],[])],drop:=true }),
 (62,{ drop:=true }),
 (63,{ drop:=true }),
 (64,{ keep := [(0,[1,2,13,14,15],[1]),(2,[1,2,36,37,38],[1])],cl := [(12,[0])],drop:=true }),
 (65,{ keep := [(0,[0,1,4,7,8,9],[])],cl := [(4,[0])],drop:=true }),
 (67,{ keep := [(0,[2,3,8,9,10],[2,3])] }),
 (68,{ keep := [(0,[0,3,9,10,11],[]),(2,[6,25,26,27],[])] }),
 (69,{ keep := [(0,[3,4,8,9,10],[3])],cl := [(4,[1,5])],drop:=true }),
 (70,{ cl := [(1,[1,3,6,8])],drop:=true }),
 (71,{ drop:=true }),
 (73,{ drop:=true }),
 (74,{ keep := [(0,[2,6,7,8],[6,7])],cl := [(5,[0,9])] }),
 (75,{ drop:=true }),
 (76,{ keep := [(0,[0,1,4,5,12],[4,5]),(2,[4,5,24,25],[4,5])],cl := [(5,[1]),(10,[1])] }),
 (78,{ keep := [(0,[1,2,3,28,29,30],[1,2,3]),(2,[1,2,3,43,44,45],[1,2,3]),(4,[2,3,61,62,63],[2,3])],cl := [(1,[1,5,9,13]),(5,[1,2])] }),
 (79,{ keep := [(0,[1,2,6,7,8],[1])],drop:=true }),
 (80,{ drop:=true }),
 (81,{ cl := [(1,[1])] }),
 (82,{ keep := [(0,[1,2,32,33,34],[]),(2,[1,2,50,51,52],[]),(4,[1,2,50,51,52,57,58,59],[])],hb := [1] }),
 (83,{ keep := [(0,[0,1,4,5],[])],drop:=true }),
 (84,{ keep := [(0,[0,1,4,5],[])],drop:=true }),
 (85,{ keep := [(0,[0,1,4,5],[])],drop:=true }),
 (86,{ keep := [(0,[0,1,4,5],[])],drop:=true }),
 (87,{ drop:=true }),
 (88,{ keep := [(0,[0,3],[])],drop:=true }),
 (89,{ keep := [(0,[0,1,5],[])] }),
 (90,{ keep := [(0,[0,1,5],[])] }),
 (91,{ keep := [(0,[0,1,5],[])] }),
 (92,{ keep := [(0,[0,1,5],[])] }),
 (93,{ keep := [(0,[0,1,4,5],[])],drop:=true }),
 (94,{ keep := [(0,[0,1,4,5],[])],drop:=true }),
 (95,{ keep := [(0,[0,1,4,5],[])],drop:=true }),
 (96,{ keep := [(0,[0,1,4,5],[])],drop:=true }),
 (97,{ keep := [(0,[0,1,4,5],[])],drop:=true }),
 (98,{ keep := [(0,[0,1,4,5],[])],drop:=true }),
 (99,{ keep := [(0,[0,1,4,5],[])],drop:=true }),
 (100,{ drop:=true }),
 (101,{ keep := [(0,[1,2,3],[1]),(2,[1,2,4],[1]),(4,[1,2,5],[1]),(6,[1,2,6],[1])],cl := [(16,[0,2])] }),
 (103,{ keep := [(0,[1,2,3,4],[1,2,3]),(2,[1,2,3,5],[1,2,3]),(4,[1,2,3,7],[1,2,3])],cl := [(5,[1,3])] }),
 (104,{ keep := [(0,[0,3,4],[])] }),
 (105,{ keep := [(0,[0,3,4],[])] }),
 (106,{ keep := [(0,[0,3,4],[])] }),
 (107,{ keep := [(0,[0,3,4],[])] }),
 (108,{ cl := [(5,[1]),(7,[8,1,4]),(9,[1]),(13,[1]),(15,[1]),(17,[1])] }),
 (111,{ keep := [(0,[1,2,3],[1])],drop:=true }),
 (112,{ keep := [(0,[1,2,3],[1])],cl := [(6,[2,9])],drop:=true }),
 (113,{ keep := [(0,[2,4,5,6],[2,5])],cl := [(7,[1,3,12]),(9,[0,2])],drop:=true }),
 (114,{ keep := [(0,[1,2,3,4],[1,2,3])],cl := [(5,[1,3])] }),
 (115,{ keep := [(0,[2,3,24,25,26],[2,3])],cl := [(1,[1,3,5,8,11,15]),(5,[1])] }),
 (116,{ drop:=true }),
 (117,{ drop:=true }),
 (118,{ keep := [(0,[3,7,8,9],[])],drop:=true }),
 (120,{ keep := [(0,[0,8,9,10],[])],cl := [(3,[1]),(4,[5])] }),
 (121,{ keep := [(0,[1,2,3,4],[1,3]),(2,[1,2,3,4,5],[1,3]),(4,[1,2,3,4,7],[1,3])],cl := [(14,[1,10])],drop:=true }),
 (122,{ keep := [(0,[0,1,4,5],[]),(2,[0,1,4,5,6],[])],drop:=true }),
 (123,{ drop:=true }),
 (124,{ keep := [(0,[2,3,4,5],[2,3])],cl := [(4,[1,6])],drop:=true }),
 (125,{ drop:=true }),
 (126,{ keep := [(0,[3,5,6],[3])],drop:=true }),
 (127,{ keep := [(0,[1,2,3,4],[1,2,3]),(2,[1,2,3,4,5,6],[1,2,3,5])],cl := [(9,[1,3])] }),
 (128,{ keep := [(0,[0,3,4],[])] }),
 (129,{ cl := [(1,[1,8,13]),(3,[1,4,9]),(5,[1,4,9])] }),
 (130,{ keep := [(0,[1,2,3,4],[1,2,3]),(2,[1,2,6,7],[1,2])],cl := [(7,[1,2])] }),
 (131,{ keep := [(0,[2,3,4,5],[2,3])],cl := [(6,[1,6])],drop:=true }),
 (132,{ drop:=true }),
 (133,{ drop:=true }),
 (134,{ cl := [(1,[0])],drop:=true }),
 (135,{ drop:=true }),
 (136,{ keep := [(0,[2,4,5,11,12,13],[2,5])],drop:=true }),
 (137,{ hb := [3],drop:=true }),
 (140,{ keep := [(0,[2,3,6,7,8],[])],drop:=true }),
 (141,{ drop:=true }),
 (142,{ drop:=true }),
 (143,{ drop:=true }),
 (144,{ drop:=true }),
 (145,{ keep := [(0,[0,3,9,10,11],[9])] }),
 (146,{ keep := [(0,[0,1,4,5,6],[4,5]),(2,[1,4,5,7],[4,5])],cl := [(5,[1]),(9,[1])] }),
 (148,{ cl := [(1,[1]),(3,[5]),(4,[7])] }),
 (149,{ cl := [(3,[5]),(13,[1,3]),(15,[6,8,10,16])] }),
 (150,{ cl := [(1,[1]),(3,[5]),(5,[6,8]),(7,[5,8,10,12])] }),
 (155,{ drop:=true }),
 (156,{ keep := [(0,[0,1,4,7,8],[])],drop:=true }),
 (157,{ drop:=true }),
 (158,{ drop:=true }),
 (159,{ drop:=true }),
 (160,{ drop:=true }),
 (161,{ drop:=true }),
 (162,{ drop:=true }),
 (163,{ drop:=true }),
 (164,{ cl := [(1,[1,3])],drop:=true }),
 (165,{ drop:=true }),
 (166,{ drop:=true }),
 (167,{ drop:=true }),
 (168,{ drop:=true }),
 (169,{ keep := [(0,[0,1,5],[])] }),
 (170,{ keep := [(0,[0,1,5],[])] }),
 (171,{ keep := [(0,[0,1,5],[])] }),
 (172,{ keep := [(0,[0,1,5],[])] }),
 (173,{ keep := [(0,[0,1,4,5],[])],drop:=true }),
 (174,{ keep := [(0,[0,1,4,5],[])],drop:=true }),
 (175,{ keep := [(0,[0,1,4,5],[])],drop:=true }),
 (176,{ keep := [(0,[0,1,4,5],[])],drop:=true }),
 (177,{ drop:=true }),
 (178,{ drop:=true }),
 (179,{ drop:=true }),
 (180,{ drop:=true }),
 (181,{ cl := [(1,[1])],drop:=true }),
 (182,{ drop:=true }),
 (183,{ keep := [(0,[1,2,3],[1]),(2,[1,2,3,4],[1]),(4,[1,2,3,4,5,6],[1])],cl := [(13,[5])],drop:=true }),
 (186,{ cl := [(2,[1]),(4,[1,3,5,7,9,11,16]),(10,[2,4,8,10]),(13,[1,3,7,9,11,16])] }),
 (191,{ drop:=true }),
 (193,{ cl := [(10,[2])] }),
 (194,{ cl := [(5,[1]),(7,[8,1,4])] }),
 (195,{ keep := [(0,[0,2,3,4,5],[2,3])],cl := [(6,[2])] }),
 (196,{ keep := [(0,[1,2,3,4],[1,2,3])],cl := [(5,[1,3])] }),
 (197,{ drop:=true }),
 (198,{ cl := [(1,[1,3,8]),(2,[1,3,4])] }),
 (199,{ keep := [(0,[2,3,4,5],[2,3])],cl := [(4,[1,7])],drop:=true }),
 (200,{ keep := [(0,[2,3,12,13,14],[2,3])],cl := [(5,[1,3,6])] }),
 (201,{ keep := [(0,[3,9,10,11],[])] }),
 (202,{ drop:=true }),
 (203,{ keep := [(0,[0,2,5,6],[])],drop:=true }),
 (204,{ cl := [(2,[4]),(3,[6,7]),(5,[5])] }),
 (206,{ drop:=true }),
 (207,{ drop:=true }),
 (208,{ keep := [(0,[0,3,4,5],[3])],cl := [(4,[5])],drop:=true }),
 (210,{ cl := [(1,[1,3,8])],drop:=true }),
 (211,{ drop:=true }),
 (212,{ drop:=true }),
 (213,{ drop:=true }),
 (214,{ keep := [(0,[0,1,4,7,8],[])],drop:=true }),
 (217,{ keep := [(0,[2,3,11,12],[2,3])],cl := [(6,[1])] }),
 (218,{ cl := [(3,[3,7,10,17,19,22]),(6,[2,4])] }),
 (219,{ cl := [(4,[1]),(8,[2])] }),
 (220,{ cl := [(1,[11,13]),(4,[6,9,11])] }),
 (221,{ keep := [(0,[0,5,39,40,41],[5])] }),
 (225,{ cl := [(7,[1]),(9,[7])] }),
 (226,{ drop:=true }),
 (227,{ wide:=true }),
 (228,{ cl := [(6,[3,6])] }),
 (231,{ keep := [(0,[0,1,4,12,13],[])],drop:=true }),
 (232,{ drop:=true }),
 (233,{ drop:=true }),
 (234,{ keep := [(0,[1,2,6,15,16,17],[])],drop:=true }),
 (235,{ keep := [(0,[0,1,4,7,8],[])],drop:=true }),
 (236,{ keep := [(0,[0,1,4,7,8],[])],drop:=true }),
 (237,{ drop:=true }),
 (238,{ keep := [(0,[0,1,4,5],[])],drop:=true }),
 (239,{ keep := [(0,[0,1,4,5],[])],drop:=true }),
 (240,{ drop:=true }),
 (241,{ drop:=true }),
 (242,{ drop:=true }),
 (243,{ drop:=true }),
 (244,{ keep := [(0,[0,1,4,5],[])],drop:=true }),
 (245,{ keep := [(0,[0,1,4,5],[])],drop:=true }),
 (246,{ drop:=true }),
 (247,{ drop:=true }),
 (248,{ cl := [(1,[0,2])],drop:=true }),
 (250,{ cl := [(6,[1,7]),(10,[1,3,5,7,9])] }),
 (251,{ cl := [(6,[1,4,6]),(9,[1,3,5,7,10,12])] }),
 (252,{ keep := [(0,[2,3,4,8,9],[2,3,4,8])],cl := [(4,[2]),(9,[1,3,5,7,13]),(10,[0,2,5])] }),
 (253,{ drop:=true }),
 (254,{ cl := [(2,[1,5])] }),
 (255,{ drop:=true }),
 (256,{ cl := [(1,[2,7]),(4,[1,5,12])] }),
 (257,{ cl := [(2,[1,3])] }),
 (258,{ drop:=true }),
 (259,{ cl := [(1,[1,5])] }),
 (260,{ cl := [(1,[2]),(3,[1,4,8])] }),
 (262,{ keep := [(0,[0,3,4],[])] }),
 (263,{ keep := [(0,[0,3,4],[])] }),
 (265,{ drop:=true }),
 (267,{ keep := [(0,[0,2,3,4],[2,3])],cl := [(12,[0]),(15,[0,3])] }),
 (268,{ cl := [(6,[1]),(8,[1])] }),
 (270,{ keep := [(0,[0,1,4,7,8],[])],drop:=true }),
 (271,{ keep := [(0,[0,2,3,4],[2,3])],cl := [(7,[1])] }),
 (273,{ drop:=true }),
 (274,{ cl := [(1,[8])] }),
 (276,{ cl := [(2,[1,4,8])] }),
 (277,{ keep := [(0,[4,5,11,12,13],[4,5])],cl := [(5,[1,4,8])] }),
 (278,{ cl := [(4,[3])] }),
 (279,{ keep := [(0,[0,1,5,59,60,61],[])],cl := [(13,[10,15]),(14,[5])] }),
 (281,{ keep := [(0,[0,1,4,7,8],[])],drop:=true }),
 (282,{ keep := [(0,[0,1,4,5],[])],drop:=true }),
 (283,{ keep := [(0,[0,1,4,5],[])],drop:=true }),
 (284,{ keep := [(0,[0,1,4,5],[])],drop:=true }),
 (285,{ drop:=true }),
 (286,{ cl := [(4,[1,5,9])],drop:=true }),
 (289,{ cl := [(2,[1,4,8])] }),
 (290,{ keep := [(0,[2,3,4,5,6],[2,3,4,5])],cl := [(5,[1,3,8])] }),
 (291,{ keep := [(0,[2,3,5,6],[2,3]),(2,[2,3,5,6,7],[2,3])],cl := [(5,[1,7])] }),
 (292,{ keep := [(0,[1,2,4,5,6],[2,5])],cl := [(6,[1,3,8])],drop:=true }),
 (293,{ keep := [(0,[0,3,4],[])] }),
 (294,{ keep := [(0,[0,3,4],[])] }),
 (295,{ keep := [(0,[0,2,3,4],[2,3])],cl := [(5,[0])] }),
 (297,{ drop:=true }),
 (298,{ wide:=true }),
 (299,{ wide:=true }),
 (301,{ cl := [(1,[1,3,6,8])],drop:=true }),
 (302,{ drop:=true }),
 (303,{ drop:=true }),
 (304,{ drop:=true }),
 (305,{ cl := [(1,[1,5])],drop:=true }),
 (306,{ keep := [(0,[1,3,4],[1])],drop:=true }),
 (307,{ drop:=true }),
 (309,{ keep := [(0,[0,1,2,3,4,10,11],[])] }),
 (310,{ drop:=true }),
 (311,{ drop:=true }),
 (312,{ drop:=true }),
 (314,{ keep := [(0,[0,1,2,3,8],[]),(2,[0,1,2,3,8,9],[])] }),
 (315,{ keep := [(0,[0,3,8,9,10,11],[]),(2,[0,3,8,9,12],[])] }),
 (316,{ keep := [(0,[0,1,8,9,10,11],[])],hb := [9] }),
 (317,{ hb := [11] }),
 (318,{ keep := [(0,[0,8,9],[])] }),
 (319,{ keep := [(0,[0,1,2,3,8,9,10],[]),(2,[0,1,2,3,9,10],[]),(4,[0,1,2,3,9,10,11],[]),(6,[0,1,2,3,9,10,12],[])] }),
 (320,{ keep := [(0,[0,1,4,11,12],[]),(2,[0,1,4,11,12],[]),(4,[0,1,4,11,12],[])] }),
 (321,{ keep := [(0,[0,1,4,12,13],[]),(2,[0,1,4,12,13],[]),(4,[0,1,4,12,13],[]),(6,[0,1,4,12,13],[]),(8,[0,1,4,12,13],[])] }),
 (322,{ drop:=true }),
 (323,{ drop:=true }),
 (324,{ keep := [(0,[0,2,3,4,10],[])] }),
 (325,{ drop:=true })]
noncomputable def Af:Il:=eval Tryz.prog I
noncomputable def X (f:Nat):Ctx:=I.ctx Af f
theorem zcW:Sound Tryz.prog I:=Z3 (by kernel_rfl) (by kernel_rfl) (by kernel_rfl)
theorem evl_sound:SC Tryz.prog Af:=XM zcW


variable {n:Nat}{p:Prop}{a:Pq}{h:Heap}{ro:Bool}{rs:List (List V)}{j:Nat}
section words
variable {R:Type}
@[simp] theorem Aq (x y:Option R):br true x y=x:=rfl
@[simp] theorem Az (x y:Option R):br false x y=y:=rfl
@[simp] theorem DA (x:Option R):A8 true x=x:=rfl
@[simp] theorem Ab (k:IntKind) (n:Int) (f:Int->Option R):eI k (.int k n) f=f n:=by simp[eI]
@[simp] theorem AK (b:Bool) (f:Bool->Option R):eBv (.bool b) f=f b:=rfl
@[simp] theorem Ax (b:Bool) (x y:Option R):eB (.bool b) x y=br b x y:=rfl
@[simp] theorem BO (s:ByteArray) (f:ByteArray->Option R):eT (.str s) f=f s:=rfl
@[simp] theorem Ai (q:Nat) (a:Pq) (n:Nat) (c:Nq) (f:Pq->Nat->Nq->Option R):eS q (.sl q a n c) f=f a n c:=by
 unfold eS;cases a with
 | none=>rfl
 | some p=>simp
@[simp] theorem AS (cs:List V) (f:List V->Option R):eA (.agg cs) f=f cs:=rfl
@[simp] theorem Kd (cs:List V) (f:List V->Option R):eU (.tup cs) f=f cs:=rfl
@[simp] theorem Aa (v:V) (r:List V) (f:V->List V->Option R):eC (v :: r) f=f v r:=rfl
@[simp] theorem Ag (x:Option R):eN [] x=x:=rfl
@[simp] theorem Ae {α:Type} (x:α) (f:α->Option R):eO (some x) f=f x:=rfl
@[simp] theorem Ad {α:Type} (v:V) (h:α) (f:V->α->Option R):Ak (some (v,h)) f=f v h:=rfl
theorem DE {i:Int} (h:0<=i/\i<n) (f:Option R):An i n f=f:=by unfold An;rw[decide_eq_true h]
@[simp] theorem Ac {k:Nat} (h:k<n) (f:Option R):An (k:Int) n f=f:=DE ⟨by omega,by omega⟩ f
theorem DD {i:Int} (h:0<=i/\i<=n) (f:Option R):Xy i n f=f:=by unfold Xy;rw[decide_eq_true h]
theorem GG [Decidable p] (h:p) (f:Option R):A8 (decide p) f=f:=by rw[decide_eq_true h];rfl
theorem XV {a b:ByteArray}{f:ByteArray->Option R} (h:a.size+b.size<=9223372036854775807):zcf a b f=f (a++b):=by
 have h9:IntKind.i64.max=9223372036854775807:=by decide
 rw[U5,GG (by omega)]
theorem Am [Decidable p] (h:p) (x y:Option R):br (decide p) x y=x:=by rw[decide_eq_true h];rfl
theorem Aj [Decidable p] (h:¬ p) (x y:Option R):br (decide p) x y=y:=by rw[decide_eq_false h];rfl
@[simp] theorem Qw {α:Type} (b c d:Bool) (h:α):br b (some (V.bool c,h)) (some (V.bool d,h))=some (V.bool (bif b then c else d),h):=by cases b<;>rfl
end words
theorem wr {n:Int} (h1 : -9223372036854775808<=n) (h2:n<=9223372036854775807):Al n=n:=IntWalk.i64_in n ⟨h1,h2⟩
theorem Au {k:Nat} (h:k<9223372036854775807):Al ((k:Int)+1)=((k+1:Nat):Int):=by rw[wr (by omega) (by omega)];omega
def Sl (h:Heap) (rows:List (List V)) (a:Pq) (n:Nat):Prop :=
 n=rows.length/\(rows = []\/∃ b i rs,a=some (b,i)/\Heap.rows? h b=some rs/\(rs.drop i).take n=rows)
theorem Sl.len {rows:List (List V)} (s:Sl h rows a n):n=rows.length:=s.1
theorem Sl.nil:Sl h [] a 0:=⟨rfl,.inl rfl⟩
theorem Sl.read {rows:List (List V)}{k:Nat}{row:List V} (s:Sl h rows a n) (hk:rows[k]?=some row) :
  ∃ o,a=some o/\∀ j m,ld h o.1 (o.2+k) j m=cut row j m:=by
 obtain ⟨h1,h2 | ⟨b,i,rs,h2,h3,h4⟩⟩:=s
 ·subst h2;simp at hk
 ·refine ⟨(b,i),h2,λj m=>?_⟩;have hlt:k<rows.length:=(DY hk).1;have:rs[i+k]?=some row:=by rw[<- h4,zey (by omega),zdG] at hk;exact hk
  simp only[ld,h3,zdF,this]
theorem Sl.mono {h':Heap}{rows:List (List V)} (s:Sl h rows a n) (hp:h <+: h'):Sl h' rows a n:=by
 obtain ⟨h1,h2 | ⟨b,i,rs,h2,h3,h4⟩⟩:=s
 ·exact ⟨h1,.inl h2⟩
 ·refine ⟨h1,.inr ⟨b,i,rs,h2,?_,h4⟩⟩;obtain ⟨t,rfl⟩:=hp;unfold Heap.rows? at h3 ⊢;have hb:b<h.length:=by apply zeK;intro hle;rw[zdW hle] at h3;cases h3
  rw[zdl hb];exact h3
theorem Oq {R e:Nat}:Heap.rows? (h ++ [.rows R e ro rs]) h.length=some rs:=by simp[Heap.rows?]
theorem Sl.last {R e:Nat}{rows:List (List V)} (hn:n=rows.length):Sl (h ++ [.rows R e ro rows]) rows (some (h.length,0)) n :=
 ⟨hn,.inr ⟨h.length,0,rows,rfl,Oq,by simp[hn]⟩⟩
theorem UD {R e:Nat}{i:Nat}{row:List V} (hi:rs[i]?=some row):ld (h ++ [.rows R e ro rs]) h.length i j n=cut row j n:=by simp[ld,Oq,hi]
theorem JD {row:List V}{v:V} (h:row[j]?=some v):cut row j 1=some [v]:=by have hlt:=(DY h).1;have hx:=(DY h).2;rw[U1 (by omega),zdw hlt,hx];rfl
theorem EM {row:List V}{v:V} (h:j<row.length):paste row j [v]=some (row.set j v):=by
 induction j generalizing row with
 | zero=>cases row with
  | nil=>simp at h
  | cons x r=>simp[paste]
 | succ j ih=>cases row with
  | nil=>simp at h
  | cons x r=>simp only[paste];rw[ih (by simpa using h)];rfl
section maps
variable {K U:Type} [DecidableEq K]
end maps


variable {ro:Bool}{R R' n:Nat}{a:Pq}{c:Nq}{F:List Nat}{k:Nat}{rs xs:List (List V)}{lo:Nat}{Gs Fs:List (List Nat)}{G:List Nat}{T:Type}{K:Pq->Nat->Nq->Option T}
abbrev Rel (α:Type):=Heap->List V->α->List Nat->Prop
def Rel.Fr {α:Type} (El:Rel α):Prop:=∀ (h h':Heap) (cs:List V) (x:α) (F:List Nat),El h cs x F->(∀ b∈F,h'[b]?=h[b]?)->El h' cs x F
def Rel.Ln {α:Type} (El:Rel α) (n:Nat):Prop:=∀ (h:Heap) (cs:List V) (x:α) (F:List Nat),El h cs x F->cs.length=n
def flat {α:Type} (cs:α->List V):Rel α:=λ_ row x F=>row=cs x/\F = []
theorem UM {α:Type}{cs:α->List V}:(flat cs).Fr:=λ_ _ _ _ _ h _=>h
def EAll {α:Type} (El:Rel α) (h:Heap):List (List V)->List α->List (List Nat)->Prop
 | [],[],[]=>True
 | r :: rs,x :: xs,F :: Fs=>El h r x F/\EAll El h rs xs Fs
 | _,_,_=>False
def Sli {α:Type} (ro:Bool) (R e:Nat) (El:Rel α):Rel (List α):=λh cs l F=>∃ R' a c,cs = [.sl R' a l.length c]/\match ro with
 | true=>R'=R/\((l = []/\F = [])\/∃ b i rs Fs,a=some (b,i)/\Heap.rows? h b=some rs/\i+l.length<=rs.length/\EAll El h ((rs.drop i).take l.length) l Fs/\F=b :: Fs.flatten)
 | false=>match a with
  | none=>l = []/\c=some 0/\F = []
  | some (b,i)=>R'=R/\∃ rs Fs,h[b]?=some (.rows R e false rs)/\i+l.length<=rs.length/\(∀ k,c=some k->l.length<=k/\i+k<=rs.length)/\(c=none->i=0)/\EAll El h ((rs.drop i).take l.length) l Fs/\F=b :: Fs.flatten
section
variable {α:Type}{El:Rel α}{h h':Heap}
theorem EAll.fr (hf:El.Fr):∀ {rows:List (List V)}{l:List α}{Fs:List (List Nat)},EAll El h rows l Fs->(∀ b∈Fs.flatten,h'[b]?=h[b]?)->EAll El h' rows l Fs
 | [],[],[],_,_=>trivial
 | r :: rs,x :: xs,F :: Fs,⟨h1,h2⟩,hb=>⟨hf _ _ _ _ _ h1 λb hm=>hb b (by simp[hm]),EAll.fr hf h2 λb hm=>hb b (by simp only[zdH,zde];exact .inr hm)⟩
 | [],[],_ :: _,h,_=>h.elim
 | [],_ :: _,_,h,_=>h.elim
 | _ :: _,[],_,h,_=>h.elim
 | _ :: _,_ :: _,[],h,_=>h.elim
theorem EAll.len:∀ {rows:List (List V)}{l:List α}{Fs:List (List Nat)},EAll El h rows l Fs->rows.length=l.length/\Fs.length=l.length
 | [],[],[],_=>⟨rfl,rfl⟩
 | r :: rs,x :: xs,F :: Fs,⟨_,h2⟩=>by have:=EAll.len h2;simp[this.1,this.2]
 | [],[],_ :: _,h=>h.elim
 | [],_ :: _,_,h=>h.elim
 | _ :: _,[],_,h=>h.elim
 | _ :: _,_ :: _,[],h=>h.elim
theorem EAll.get:∀ {rows:List (List V)}{l:List α}{Fs:List (List Nat)},EAll El h rows l Fs->∀ {k:Nat}{x:α},l[k]?=some x->∃ row F,rows[k]?=some row/\Fs[k]?=some F/\El h row x F
 | [],[],[],_,k,x,hk=>by simp at hk
 | r :: rs,x :: xs,F :: Fs,⟨h1,h2⟩,0,y,hk=>by simp at hk;subst hk;exact ⟨r,F,rfl,rfl,h1⟩
 | r :: rs,x :: xs,F :: Fs,⟨h1,h2⟩,k+1,y,hk=>by simp at hk;obtain ⟨row,G,g1,g2,g3⟩:=EAll.get h2 hk;exact ⟨row,G,by simpa using g1,by simpa using g2,g3⟩
 | [],[],_ :: _,h,_,_,_=>h.elim
 | [],_ :: _,_,h,_,_,_=>h.elim
 | _ :: _,[],_,h,_,_,_=>h.elim
 | _ :: _,_ :: _,[],h,_,_,_=>h.elim
theorem EAll.set:∀ {rows:List (List V)}{l:List α}{Fs:List (List Nat)},EAll El h rows l Fs->∀ {k:Nat}{row:List V}{x:α}{F:List Nat},El h row x F->EAll El h (rows.set k row) (l.set k x) (Fs.set k F)
 | [],[],[],_,k,_,_,_,_=>trivial
 | r :: rs,x :: xs,F :: Fs,⟨h1,h2⟩,0,_,_,_,he=>⟨he,h2⟩
 | r :: rs,x :: xs,F :: Fs,⟨h1,h2⟩,k+1,_,_,_,he=>⟨h1,EAll.set h2 he⟩
 | [],[],_ :: _,h,_,_,_,_,_=>h.elim
 | [],_ :: _,_,h,_,_,_,_,_=>h.elim
 | _ :: _,[],_,h,_,_,_,_,_=>h.elim
 | _ :: _,_ :: _,[],h,_,_,_,_,_=>h.elim
theorem EAll.append:∀ {rows rows':List (List V)}{l l':List α}{Fs Fs':List (List Nat)},EAll El h rows l Fs->EAll El h rows' l' Fs'->EAll El h (rows++rows') (l++l') (Fs++Fs')
 | [],_,[],_,[],_,_,h=>h
 | r :: rs,_,x :: xs,_,F :: Fs,_,⟨h1,h2⟩,h=>⟨h1,EAll.append h2 h⟩
 | [],_,[],_,_ :: _,_,h,_=>h.elim
 | [],_,_ :: _,_,_,_,h,_=>h.elim
 | _ :: _,_,[],_,_,_,h,_=>h.elim
 | _ :: _,_,_ :: _,_,[],_,h,_=>h.elim
theorem EAll.take:∀ {rows:List (List V)}{l:List α}{Fs:List (List Nat)},EAll El h rows l Fs->∀ (n:Nat),EAll El h (rows.take n) (l.take n) (Fs.take n)
 | [],[],[],_,n=>by simp[EAll]
 | r :: rs,x :: xs,F :: Fs,⟨h1,h2⟩,0=>trivial
 | r :: rs,x :: xs,F :: Fs,⟨h1,h2⟩,n+1=>⟨h1,EAll.take h2 n⟩
 | [],[],_ :: _,h,_=>h.elim
 | [],_ :: _,_,h,_=>h.elim
 | _ :: _,[],_,h,_=>h.elim
 | _ :: _,_ :: _,[],h,_=>h.elim
theorem EAll.drop:∀ {rows:List (List V)}{l:List α}{Fs:List (List Nat)},EAll El h rows l Fs->∀ (n:Nat),EAll El h (rows.drop n) (l.drop n) (Fs.drop n)
 | [],[],[],_,n=>by simp[EAll]
 | r :: rs,x :: xs,F :: Fs,h,0=>h
 | r :: rs,x :: xs,F :: Fs,⟨h1,h2⟩,n+1=>EAll.drop h2 n
 | [],[],_ :: _,h,_=>h.elim
 | [],_ :: _,_,h,_=>h.elim
 | _ :: _,[],_,h,_=>h.elim
 | _ :: _,_ :: _,[],h,_=>h.elim
theorem EAll.flat {cs:α->List V}:∀ {l:List α},EAll (flat cs) h (l.map cs) l (l.map λ_ => [])
 | []=>trivial
 | x :: l=>⟨⟨rfl,rfl⟩,EAll.flat⟩
theorem EAll.of_flat {cs:α->List V}:∀ {rows:List (List V)}{l:List α}{Fs:List (List Nat)},EAll (Go.Proofs.YtmgopagfoemomaaGreat.flat cs) h rows l Fs->rows=l.map cs/\Fs.flatten = []
 | [],[],[],_=>⟨rfl,rfl⟩
 | r :: rs,x :: xs,F :: Fs,⟨⟨h1,h2⟩,h3⟩=>by obtain ⟨h4,h5⟩:=EAll.of_flat h3;subst h1;subst h2;subst h4;exact ⟨rfl,by simpa using h5⟩
 | [],[],_ :: _,h=>h.elim
 | [],_ :: _,_,h=>h.elim
 | _ :: _,[],_,h=>h.elim
 | _ :: _,_ :: _,[],h=>h.elim
theorem Sli.fr {ro:Bool}{R e:Nat} (hf:El.Fr):(Sli ro R e El).Fr:=by
 rintro h h' cs l F ⟨R',a,c,h1,h2⟩ hb
 refine ⟨R',a,c,h1,?_⟩;cases ro with
 | true =>
  obtain ⟨hR,h2 | ⟨b,i,rs,Fs,g0,g1,g2,g5,rfl⟩⟩:=h2
  ·exact ⟨hR,.inl h2⟩
  ·exact ⟨hR,.inr ⟨b,i,rs,Fs,g0,by unfold Heap.rows? at g1 ⊢;rw[hb b (by simp)];exact g1,g2,g5.fr hf λb hm=>hb b (by simp only[zdm];exact .inr hm),rfl⟩⟩
 | false =>
 cases a with
 | none=>exact h2
 | some p =>obtain ⟨b,i⟩:=p;obtain ⟨hR,rs,Fs,g1,g2,g3,g4,g5,rfl⟩:=h2;exact ⟨hR,rs,Fs,by rw[hb b (by simp)];exact g1,g2,g3,g4,g5.fr hf λb hm=>hb b (by simp only[zdm];exact .inr hm),rfl⟩
theorem Sli.nil {e:Nat}:Sli false R e El h [.sl R' none 0 (some 0)] [] []:=⟨R',none,some 0,rfl,rfl,rfl,rfl⟩
theorem Sli.val {e:Nat}{l:List α} (hs:Sli ro R e El h [.sl R' a n c] l F):n=l.length:=by obtain ⟨R1,a',c',h1,_⟩:=hs;injection h1 with h1 _;injection h1
theorem Sli.form {e:Nat}{v:V}{l:List α} (hs:Sli ro R e El h [v] l F) :
  ∃ a c,(∀ {R':Type} (K:Pq->Nat->Nq->Option R'),eS R v K=K a l.length c)/\Sli ro R e El h [.sl R a l.length c] l F:=by
 obtain ⟨R',a,c,h1,h2⟩:=hs;injection h1 with h1 _;subst h1;cases ro with
 | true =>obtain ⟨rfl,h2⟩:=h2;exact ⟨a,c,λK=>Ai _ _ _ _ _,R',a,c,rfl,rfl,h2⟩
 | false =>
 cases a with
 | none=>exact ⟨none,c,λK=>rfl,R,none,c,rfl,h2⟩
 | some p =>obtain ⟨b,i⟩:=p;obtain ⟨rfl,h3⟩:=h2;exact ⟨some (b,i),c,λK=>Ai _ _ _ _ _,R',some (b,i),c,rfl,rfl,h3⟩
theorem Sli.data {e:Nat}{l:List α} (hs:Sli false R e El h [.sl R' a n c] l F) (hk:k<l.length) :
  ∃ b i rs Fs,a=some (b,i)/\h[b]?=some (.rows R e false rs)/\i+l.length<=rs.length/\(∀ k,c=some k->l.length<=k/\i+k<=rs.length)/\(c=none->i=0)/\EAll El h ((rs.drop i).take l.length) l Fs/\F=b :: Fs.flatten:=by
 obtain ⟨R1,a',c',h1,h2⟩:=hs;injection h1 with h1 _;injection h1 with _ e1 e2 e3;subst e1;subst e3;cases a with
 | none=>obtain ⟨rfl,_⟩:=h2;simp at hk
 | some p =>obtain ⟨b,i⟩:=p;obtain ⟨_,rs,Fs,g⟩:=h2;exact ⟨b,i,rs,Fs,rfl,g⟩
theorem Sli.clip {e:Nat}{l:List α} (hs:Sli false R e El h [.sl R' a n c] l F):Sli false R e El h [.sl R' a n (some n)] l F:=by
 have hn:=hs.val;subst hn;obtain ⟨R1,a',c',h1,h2⟩:=hs;injection h1 with h1 _;injection h1 with e0 e1 e2 e3;subst e0;subst e1;subst e3;refine ⟨R',a,some l.length,rfl,?_⟩;cases a with
 | none=>obtain ⟨rfl,h3,h4⟩:=h2;exact ⟨rfl,rfl,h4⟩
 | some p =>obtain ⟨b,i⟩:=p;obtain ⟨hR,rs,Fs,g1,g2,g3,g4,g5⟩:=h2;exact ⟨hR,rs,Fs,g1,g2,(λk hk=>by injection hk with hk;subst hk;exact ⟨zdj _,g2⟩),(λh=>by cases h),g5⟩
theorem IK {e:Nat}{l:List α} (hs:Sli false R e El h [.sl R' a n c] l F) :
  Aw a n c none (some (Iv (n:Nat))) (some (Iv (n:Nat))) K=K a n (some n):=by
 have hn:=hs.val;subst hn;obtain ⟨R1,a',c',h1,h2⟩:=hs;injection h1 with h1 _;injection h1 with e0 e1 e2 e3;subst e0;subst e1;subst e3;have hc:∀ k,c=some k->l.length<=k:=λk hk=>by
  cases a with
  | none=>obtain ⟨rfl,_⟩:=h2;simp
  | some p=>obtain ⟨b,i⟩:=p;obtain ⟨_,_,_,_,_,g3,_⟩:=h2;exact (g3 k hk).1
 unfold Aw Hf Kq La;cases c with
 | none=>simp only[Ab,A7];rw[DD ⟨by omega,by omega⟩,DD ⟨by omega,by omega⟩]
 | some k=>have:=hc k rfl;simp only[Ab,A7];rw[DD ⟨by omega,by omega⟩,DD ⟨by omega,by omega⟩]
theorem Sli.read {e:Nat}{l:List α} (hs:Sli ro R e El h [.sl R' a n c] l F) (hk:k<l.length) :
  ∃ o row G,a=Option.some o/\(∀ j m,ld h o.1 (o.2+k) j m=cut row j m)/\El h row l[k] G/\(∀ b∈G,b∈F)/\o.1∈F:=by
 have fin:∀ b i rs Fs,a=Option.some (b,i)->Heap.rows? h b=Option.some rs->i+l.length<=rs.length->EAll El h ((rs.drop i).take l.length) l Fs->F=b :: Fs.flatten ->
   ∃ o row G,a=Option.some o/\(∀ j m,ld h o.1 (o.2+k) j m=cut row j m)/\El h row l[k] G/\(∀ b∈G,b∈F)/\o.1∈F:=by
  rintro b i rs Fs rfl g1 g2 g5 rfl
  obtain ⟨row,G,k1,k2,k3⟩:=g5.get (DZ hk);refine ⟨(b,i),row,G,rfl,λj m=>?_,k3,λx hx=>?_,by simp⟩
  ·have:rs[i+k]?=Option.some row:=by rw[zey hk,zdG] at k1;exact k1
   simp only[ld,g1,zdF,this]
  ·simp only[zdm,zeL];exact .inr ⟨G,zdt k2,hx⟩
 cases ro with
 | true =>
  obtain ⟨R1,a',c',h1,_,⟨rfl,_⟩ | ⟨b,i,rs,Fs,g0,g1,g2,g5,g6⟩⟩:=hs
  ·simp at hk
  ·injection h1 with h1 _;injection h1 with _ e1 _ _;exact fin b i rs Fs (by rw[e1,g0]) g1 g2 g5 g6
 | false =>obtain ⟨b,i,rs,Fs,h0,g1,g2,g3,g4,g5,g6⟩:=hs.data hk;exact fin b i rs Fs h0 (by simp only[Heap.rows?,g1]) g2 g5 g6
end
theorem ER {a b:Nat} (h:a<=b):Nat.ble a b=true:=by simpa [Nat.ble_eq] using h
theorem YI {a b:Nat} (h:¬ a<=b):Nat.ble a b=false:=by
 cases hb:Nat.ble a b with
 | false=>rfl
 | true=>exact absurd (zee hb) h
theorem LC {a:Nat}:Nat.beq a a=true:=by simp
theorem zcw {tl:List (List V)}{i len:Nat} (hi:i+len<=rs.length):((rs.take (i+len)++xs++tl).drop i).take (len+xs.length)=(rs.drop i).take len++xs:=by
 have h1:(rs.take i).length=i:=by simp;omega
 have h2:((rs.drop i).take len).length=len:=by simp;omega
 have h3:rs.take (i+len)=rs.take i++(rs.drop i).take len:=by rw[List.take_add]
 rw[h3,zdv,zdv,List.drop_append_of_le_length (by omega)];rw[show (rs.take i).drop i = [] from zdZ (by omega),zdO,<- zdv,List.take_append_of_le_length (by simp;omega),zdP (by simp;omega)]
def X2 {R':Type} (lo e R len:Nat) (xs:List (List V)) (h:Heap) (a:Pq) (c:Nq) (K:V->Heap->Option R'):Option R':=match a with
 | none=>K (.sl R (some (h.length,0)) (len+xs.length) none) (h ++ [.rows R e false xs])
 | some (b,i)=>match c with
  | some c=>match Nat.ble (len+xs.length) c with
   | true=>eO (FU lo h b (i+len) xs) λh'=>K (.sl R (some (b,i)) (len+xs.length) (some c)) h'
   | false=>eO (EQ h b i len) λold=>K (.sl R (some (h.length,0)) (len+xs.length) none) (h ++ [.rows R e false (old++xs)])
  | none=>eO (Heap.own? lo e h b) λrs=>match Nat.ble (i+len+xs.length) rs.length with
   | true=>eO (FU lo h b (i+len) xs) λh'=>K (.sl R (some (b,i)) (len+xs.length) none) h'
   | false=>A8 (Nat.beq i 0) <| eO (EQ h b i len) λold=>K (.sl R (some (h.length,0)) (len+xs.length) none) (h.set b .dead ++ [.rows R e false (old++xs)])
theorem Sli.push {α:Type}{El:Rel α}{h:Heap}{e bytes:Nat}{l ys:List α} (hfr:El.Fr)
  (hs:Sli false R e El h [.sl R a n c] l F) (hx:EAll El h xs ys Gs) (hb:0<bytes) (hsz:(l.length+ys.length)*bytes<=140737488355328) (hlo:∀ b∈F,lo<=b) (hl:lo<=h.length)
  (hnd:(F++Gs.flatten).Nodup) (hF:∀ b∈F++Gs.flatten,b<h.length) (hne:ys ≠ []) :
  ∃ a' c' h' F',(∀ {R':Type} (K:V->Heap->Option R'),Dv lo e R bytes (.sl R a n c) xs h K=K (.sl R a' (l.length+ys.length) c') h')/\Sli false R e El h' [.sl R a' (l.length+ys.length) c'] (l++ys) F'/\h.length<=h'.length /\
   (∀ b,b<h.length->b∉F->h'[b]?=h[b]?)/\(∀ b∈F',b∈F++Gs.flatten\/(h.length<=b/\b<h'.length))/\F'.Nodup:=by
 have hxl:=hx.len;have hxs:xs ≠ []:=λh0=>by subst h0;simp at hxl;exact hne (zdp hxl.1.symm)
 have hbl:Nat.blt 0 bytes=true:=by simpa [zeN] using hb
 have hn:=hs.val;subst hn;obtain ⟨x0,xr,hx0⟩:∃ x0 xr,xs=x0 :: xr:=by cases xs with
  | nil=>exact absurd rfl hxs
  | cons x r=>exact ⟨x,r,rfl⟩
 have hsz':decide ((l.length+xs.length)*bytes<=Nt)=true:=decide_eq_true (by rw[hxl.1];exact hsz);have hA:∀ {R':Type} (K:V->Heap->Option R'),Dv lo e R bytes (.sl R a l.length c) xs h K=X2 lo e R l.length xs h a c K:=by
  intro R' K;subst hx0;simp only[Dv,hbl,hsz',DA];unfold X2;cases a with
  | none=>rfl
  | some p =>obtain ⟨b,i⟩:=p;simp only[LC,DA];cases c<;>rfl
 have new:∀ (old:List (List V)) (Fs:List (List Nat)) (h0:Heap),EAll El h0 old l Fs->EAll El h0 xs ys Gs->h0.length=h.length->(∀ b∈(Fs++Gs).flatten,b<h.length)->(Fs++Gs).flatten.Nodup ->
   Sli false R e El (h0 ++ [.rows R e false (old++xs)]) [.sl R (some (h.length,0)) (l.length+ys.length) none] (l++ys) (h.length ::(Fs++Gs).flatten)/\(h.length ::(Fs++Gs).flatten).Nodup:=by
  intro old Fs h0 ho hx' hl0 hlt hnd';have hol:=ho.len;refine ⟨⟨R,some (h.length,0),none,by simp,rfl,old++xs,Fs++Gs,by simp[<- hl0],by simp;omega,λk hk=>(by cases hk),λ_=>rfl,?_,rfl⟩,?_⟩
  ·have:((old++xs).drop 0).take (l++ys).length=old++xs:=by rw[zeg,zdP];simp;omega
   rw[this];have hap:=ho.append hx';refine hap.fr hfr λb hb=>?_;rw[zdl (by rw[hl0];exact hlt b hb)]
  ·rw[zdn];exact ⟨λhm=>by have:=hlt _ hm;omega,hnd'⟩
 cases a with
 | none =>
  obtain ⟨R1,a1,c1,e1,e2⟩:=hs;injection e1 with e1 _;injection e1 with _ e3 _ e4;subst e3;subst e4;obtain ⟨rfl,rfl,rfl⟩:=e2;simp only[zdO] at hnd hF;obtain ⟨n1,n2⟩:=new [] [] h trivial hx rfl (by simpa using hF) (by simpa using hnd);refine ⟨_,_,_,_,λK=>by rw[hA K];simp only[X2];rw[hxl.1,zdO],n1,by simp,λb hb _=>zdl hb,λb hb=>?_,n2⟩;simp only[zdm,zdO] at hb;rcases hb with rfl | hb
  ·exact .inr ⟨zdj _,by simp⟩
  ·exact .inl (by simpa using hb)
 | some p =>
  obtain ⟨b,i⟩:=p;obtain ⟨R1,a1,c1,e1,e2⟩:=hs;injection e1 with e1 _;injection e1 with _ e3 _ e4;subst e3;subst e4;obtain ⟨_,rs,Fs,g1,g2,g3,g4,g5,rfl⟩:=e2;have hlob:lo<=b:=hlo b (by simp);have hblt:b<h.length:=hF b (by simp);have hnd1:b∉Fs.flatten++Gs.flatten/\(Fs.flatten++Gs.flatten).Nodup:=by rw[zdT,zdn] at hnd;exact hnd
  have hF1:∀ x∈(Fs++Gs).flatten,x<h.length:=λx hx=>hF x (by rw[zdT,zdm];rw[zdL] at hx;exact .inr hx);have hld:EQ h b i l.length=some ((rs.drop i).take l.length):=by simp only[EQ,Heap.rows?,g1,zdF,ER g2]
  have place:∀ c,(∀ k,c=some k->l.length+ys.length<=k/\i+k<=rs.length)->(c=none->i=0)->i+l.length+xs.length<=rs.length->∃ h',FU lo h b (i+l.length) xs=some h' /\
    Sli false R e El h' [.sl R (some (b,i)) (l.length+ys.length) c] (l++ys) (b ::(Fs++Gs).flatten)/\h'.length=h.length/\(∀ x,x≠b->h'[x]?=h[x]?):=by
   intro c hc hc0 hle;refine ⟨h.set b (.rows R e false (rs.take (i+l.length)++xs++rs.drop (i+l.length+xs.length))),?_,?_,by simp,λx hx=>zdi (Ne.symm hx)⟩
   ·simp only[FU,g1,ER hlob,ER hle]
   ·refine ⟨R,some (b,i),c,by simp,rfl,rs.take (i+l.length)++xs++rs.drop (i+l.length+xs.length),Fs++Gs,by simp[hblt],by simp;omega,λk hk=>?_,hc0,?_,rfl⟩
    ·have:=hc k hk;refine ⟨by simpa using this.1,?_⟩;simp only[zdy,zdD,zeh];omega
    ·rw[zdy,<- hxl.1,zcw g2];refine (g5.append hx).fr hfr λx hx=>zdi ?_
     rintro rfl
     rw[zdL] at hx;exact hnd1.1 hx
  have fin:∀ F',F'=b ::(Fs++Gs).flatten->(∀ x∈F',x∈(b :: Fs.flatten)++Gs.flatten\/(h.length<=x/\x<h.length))/\F'.Nodup:=by
   rintro F' rfl
   rw[zdL];exact ⟨λx hx => .inl hx,by rw[zdn];exact hnd1⟩
  have Em:∀ h0:Heap,h0.length=h.length->(∀ x,x≠b->h0[x]?=h[x]?)->Sli false R e El (h0 ++ [.rows R e false ((rs.drop i).take l.length++xs)]) [.sl R (some (h.length,0)) (l.length+ys.length) none] (l++ys) (h.length ::(Fs++Gs).flatten) /\
    (h.length ::(Fs++Gs).flatten).Nodup:=by
   intro h0 hl0 hx0;refine new _ Fs h0 (g5.fr hfr λx hx=>hx0 x ?_) (hx.fr hfr λx hx=>hx0 x ?_) hl0 hF1 (by rw[zdL];exact hnd1.2)
   ·rintro rfl;exact hnd1.1 (zdQ _ hx)
   ·rintro rfl;exact hnd1.1 (zef _ hx)
  have mem:∀ x∈h.length ::(Fs++Gs).flatten,x∈(b :: Fs.flatten)++Gs.flatten\/(h.length<=x/\x<h.length+1):=by
   intro x hx;rw[zdm] at hx;rcases hx with rfl | hx
   ·exact .inr ⟨zdj _,by omega⟩
   ·rw[zdL] at hx;exact .inl (by rw[zdT];exact zd8 _ hx)
  cases c with
  | some c =>
   obtain ⟨k1,k2⟩:=g3 c rfl;by_cases hle:l.length+xs.length<=c
   ·obtain ⟨h',p1,p2,p3,p4⟩:=place (some c) (λk hk=>by injection hk with hk;subst hk;exact ⟨by omega,k2⟩) (λh=>by cases h) (by omega);obtain ⟨f1,f2⟩:=fin _ rfl;refine ⟨_,_,h',_,λK=>?_,p2,by omega,λx _ hx=>p4 x λe=>hx (by simp[e]),λx hx=>(f1 x hx).imp id λh=>by omega,f2⟩;rw[hA K];simp only[X2,ER hle,p1,Ae];rw[hxl.1]
   ·obtain ⟨p1,p2⟩:=Em h rfl λ_ _=>rfl;refine ⟨_,_,_,_,λK=>?_,p1,by simp,λx hx _=>zdl hx,λx hx=>(mem x hx).imp id λh=>by simpa using h,p2⟩;rw[hA K];simp only[X2,YI hle,hld,Ae];rw[hxl.1]
  | none =>
   have hi0:=g4 rfl;subst hi0;have hown:Heap.own? lo e h b=some rs:=by simp only[Heap.own?,g1,ER hlob,LC]
   by_cases hle:0+l.length+xs.length<=rs.length
   ·obtain ⟨h',p1,p2,p3,p4⟩:=place none (λk hk=>by cases hk) (λ_=>rfl) hle;obtain ⟨f1,f2⟩:=fin _ rfl;refine ⟨_,_,h',_,λK=>?_,p2,by omega,λx _ hx=>p4 x λe=>hx (by simp[e]),λx hx=>(f1 x hx).imp id λh=>by omega,f2⟩;rw[hA K];simp only[X2,hown,Ae,ER hle,p1];rw[hxl.1]
   ·obtain ⟨p1,p2⟩:=Em (h.set b .dead) (by simp) λx hx=>zdi (Ne.symm hx);refine ⟨_,_,_,_,λK=>?_,p1,by simp,λx hx hxF=>?_,λx hx=>(mem x hx).imp id λh=>by simpa using h,p2⟩
    ·rw[hA K];simp only[X2,hown,Ae,YI hle,LC,DA,hld];rw[hxl.1]
    ·rw[zdl (by simpa using hx),zdi]
     rintro rfl;exact hxF (by simp)
theorem Bt {h:Heap}{b r j e:Nat}{row row' cs:List V} (hb:h[b]?=some (.rows R e false rs)) (hl:lo<=b) (hr:rs[r]?=some row) (hp:paste row j cs=some row') :
  st lo h b r j cs=some (h.set b (.rows R e false (rs.set r row'))):=by
 simp only[st,hb,ER hl,hr,hp,zdF]
theorem Cm {h:Heap}{b r j e:Nat}{row row' cs:List V} (hb:b<h.length) (hl:lo<=b) (hr:r<rs.length) (hp:paste row j cs=some row') :
  st lo (h.set b (.rows R e false (rs.set r row))) b r j cs=some (h.set b (.rows R e false (rs.set r row'))):=by
 simp only[st,zdr hb,ER hl,zdr hr,hp,zdF,zd1]
theorem EG {y:Nat} (h:y∈(Fs.set k G).flatten):y∈Fs.flatten\/y∈G:=by
 rw[zeL] at h;obtain ⟨H,h1,h2⟩:=h;rcases zdE h1 with h3 | rfl
 ·exact .inl (zeL.2 ⟨H,h3,h2⟩)
 ·exact .inr h2
theorem Jz:∀ {Fs:List (List Nat)}{k:Nat}{G:List Nat},Fs.flatten.Nodup->G.Nodup->(∀ y∈G,y∈Fs.flatten->∃ H,Fs[k]?=some H/\y∈H)->(Fs.set k G).flatten.Nodup
 | [],k,G,h,_,_=>h
 | F :: Fs,0,G,h,hG,hd=>by
  simp only[zeX,zdH] at h hd ⊢;rw[zdg] at h ⊢;refine ⟨hG,h.2.1,λa ha b hb=>?_⟩
  rintro rfl
  obtain ⟨H,h1,h2⟩:=hd a ha (zef _ hb);simp at h1;subst h1;exact h.2.2 a h2 a hb rfl
 | F :: Fs,k+1,G,h,hG,hd=>by
  simp only[List.set_cons_succ,zdH] at h hd ⊢;rw[zdg] at h ⊢;have ih:=Jz (k:=k) h.2.1 hG λy hy hm=>by obtain ⟨H,h1,h2⟩:=hd y hy (zef _ hm);exact ⟨H,by simpa using h1,h2⟩
  refine ⟨h.1,ih,λa ha b hb=>?_⟩
  rintro rfl
  rcases EG hb with h1 | h1
  ·exact h.2.2 a ha a h1 rfl
  ·obtain ⟨H,h2,h3⟩:=hd a h1 (zdQ _ ha);simp at h2;exact h.2.2 a ha a (zeL.2 ⟨H,zdt h2,h3⟩) rfl
theorem FW (h:Fs[k]?=some G) {y:Nat} (hy:y∈G):y∈Fs.flatten:=zeL.2 ⟨G,zdt h,hy⟩
theorem set_same {α:Type}:∀ {l:List α}{k:Nat}{x:α},l[k]?=some x->l.set k x=l
 | [],k,x,h=>rfl
 | y :: l,0,x,h=>by simp at h;subst h;rfl
 | y :: l,k+1,x,h=>by simp only[List.set_cons_succ];rw[set_same (by simpa using h)]
theorem KU:∀ {Fs:List (List Nat)}{k y:Nat}{G G':List Nat},Fs.flatten.Nodup->Fs[k]?=some G->y∈(Fs.set k G').flatten->(y∈Fs.flatten/\y∉G)\/y∈G'
 | [],k,y,G,G',_,h,_=>by simp at h
 | F :: Fs,0,y,G,G',hn,h,hy=>by
  simp at h;subst h;simp only[zeX,zdH,zde] at hn hy ⊢;rw[zdg] at hn;rcases hy with hy | hy
  ·exact .inr hy
  ·exact .inl ⟨.inr hy,λhm=>hn.2.2 y hm y hy rfl⟩
 | F :: Fs,k+1,y,G,G',hn,h,hy=>by
  simp only[List.set_cons_succ,zdH,zde] at hn hy ⊢;rw[zdg] at hn;have h':Fs[k]?=some G:=by simpa using h
  rcases hy with hy | hy
  ·exact .inl ⟨.inl hy,λhm=>hn.2.2 y hy y (zeL.2 ⟨G,zdt h',hm⟩) rfl⟩
  ·rcases KU hn.2.1 h' hy with h1 | h1
   ·exact .inl ⟨.inr h1.1,h1.2⟩
   ·exact .inr h1
theorem EAll.put {α:Type}{El:Rel α}{h h':Heap} (hfr:El.Fr):∀ {rows:List (List V)}{l:List α}{Fs:List (List Nat)},EAll El h rows l Fs->Fs.flatten.Nodup->∀ {k:Nat}{G:List Nat},Fs[k]?=some G ->
  (∀ y∈Fs.flatten,y∉G->h'[y]?=h[y]?)->∀ {row':List V}{x':α}{G':List Nat},El h' row' x' G'->EAll El h' (rows.set k row') (l.set k x') (Fs.set k G')
 | [],[],[],_,_,k,G,h,_,_,_,_,_=>by simp at h
 | r :: rs,x :: xs,F :: Fs,⟨h1,h2⟩,hn,0,G,hk,hb,row',x',G',he=>by simp at hk;subst hk;simp only[zdH,zdg] at hn;refine ⟨he,h2.fr hfr λy hy=>hb y (by simp only[zdH,zde];exact .inr hy) λhm=>hn.2.2 y hm y hy rfl⟩
 | r :: rs,x :: xs,F :: Fs,⟨h1,h2⟩,hn,k+1,G,hk,hb,row',x',G',he=>by
  have hk':Fs[k]?=some G:=by simpa using hk
  simp only[zdH,zdg] at hn;refine ⟨hfr _ _ _ _ _ h1 λy hy=>hb y (by simp only[zdH,zde];exact .inl hy) λhm=>hn.2.2 y hy y (zeL.2 ⟨G,zdt hk',hm⟩) rfl,?_⟩;exact EAll.put hfr h2 hn.2.1 hk' (λy hy=>hb y (by simp only[zdH,zde];exact .inr hy)) he
 | [],[],_ :: _,h,_,_,_,_,_,_,_,_,_=>h.elim
 | [],_ :: _,_,h,_,_,_,_,_,_,_,_,_=>h.elim
 | _ :: _,[],_,h,_,_,_,_,_,_,_,_,_=>h.elim
 | _ :: _,_ :: _,[],h,_,_,_,_,_,_,_,_,_=>h.elim
theorem Sli.put {α:Type}{El:Rel α}{h:Heap}{R R' e n k:Nat}{a:Pq}{c:Nq}{l:List α}{F:List Nat} (hfr:El.Fr) (hs:Sli false R e El h [.sl R' a n c] l F) (hk:k<l.length) (hnd:F.Nodup) :
  ∃ b i rs row G,a=some (b,i)/\b∈F/\b∉G/\h[b]?=some (.rows R e false rs)/\rs[i+k]?=some row/\El h row l[k] G/\(∀ x∈G,x∈F)/\G.Nodup /\
   ∀ h' row' x' G',h'[b]?=some (.rows R e false (rs.set (i+k) row'))->(∀ y∈F,y≠b->y∉G->h'[y]?=h[y]?)->El h' row' x' G'->G'.Nodup->(∀ y∈G',y∈F->y∈G) ->
    ∃ F',Sli false R e El h' [.sl R' a n c] (l.set k x') F'/\(∀ y∈F',(y∈F/\y∉G)\/y∈G')/\F'.Nodup/\(G'=G->F'=F):=by
 have hn:=hs.val;subst hn;obtain ⟨R1,a1,c1,e1,e2⟩:=hs;injection e1 with e1 _;injection e1 with e0 e3 _ e4;subst e0;subst e3;subst e4;cases a with
 | none=>obtain ⟨rfl,_⟩:=e2;simp at hk
 | some p =>
  obtain ⟨b,i⟩:=p;obtain ⟨hR,rs,Fs,g1,g2,g3,g4,g5,rfl⟩:=e2;obtain ⟨row,G,k1,k2,k3⟩:=g5.get (DZ hk);rw[zdn] at hnd;have hGF:∀ x∈G,x∈Fs.flatten:=λx hx=>FW k2 hx;have hGn:G.Nodup:=hnd.2.sublist (List.sublist_flatten_of_mem (zdt k2));refine ⟨b,i,rs,row,G,rfl,by simp,λhm=>hnd.1 (hGF b hm),g1,?_,k3,λx hx=>zd8 _ (hGF x hx),hGn,λh' row' x' G' h1 h2 h3 h4 h5=>?_⟩
  ·rw[zey hk,zdG] at k1;exact k1
  ·have hl1:((rs.set (i+k) row').drop i).take l.length=((rs.drop i).take l.length).set k row':=by rw[List.drop_set,if_neg (by omega),show i+k - i=k by omega,List.take_set]
   have hG1:∀ y∈G',y∈Fs.flatten->∃ H,Fs[k]?=some H/\y∈H:=λy hy hm=>⟨G,k2,h5 y hy (zd8 _ hm)⟩
   have hbG:b∉G':=λhm=>hnd.1 (hGF b (h5 b hm (by simp)));refine ⟨b ::(Fs.set k G').flatten,⟨R',some (b,i),c,by simp,hR,rs.set (i+k) row',Fs.set k G',h1,by simpa using g2,λq hq=>by simpa using g3 q hq,g4,?_,rfl⟩,λy hy=>?_,?_,λhG=>?_⟩
   ·rw[zdM,hl1];refine g5.put hfr hnd.2 k2 (λy hy hyG=>h2 y (zd8 _ hy) (λe=>hnd.1 (e ▸ hy)) hyG) h3
   ·rw[zdm] at hy;rcases hy with rfl | hy
    ·exact .inl ⟨by simp,λhm=>hnd.1 (hGF _ hm)⟩
    ·rcases KU hnd.2 k2 hy with h6 | h6
     ·exact .inl ⟨zd8 _ h6.1,h6.2⟩
     ·exact .inr h6
   ·rw[zdn];refine ⟨λhm=>?_,Jz hnd.2 h4 hG1⟩;rcases EG hm with h6 | h6
    ·exact hnd.1 h6
    ·exact hbG h6
   ·rw[hG,set_same k2]


variable {T:Type}{c:Nq}{t:List Blk}{α:Type}{ro:Bool}{β:Type}{l:List α}{g:List β->α->Option β}{f:α->β}{h0:Heap}
structure Mv (h:Heap) (F:List Nat) (h':Heap) (F':List Nat):Prop where
 le:h.length<=h'.length
 fr:∀ b,b<h.length->b∉F->h'[b]?=h[b]?
 nd:F'.Nodup
 sub:∀ b∈F',b∈F\/(h.length<=b/\b<h'.length)
structure Rel.Ok {α:Type} (El:Rel α):Prop where
 fr:El.Fr
 bd:∀ (h:Heap) (cs:List V) (x:α) (F:List Nat),El h cs x F->∀ b∈F,b<h.length
section
variable {h h' h'':Heap}{F F' F'' G:List Nat}
theorem zcp {lo e R q b n:Nat}{x:List V}{xs:List (List V)}{h:Heap}{K:V->Heap->Option T}:Dv lo e R b (.sl q none n c) (x :: xs) h K=Dv lo e R b (.sl R none n c) (x :: xs) h K:=rfl
theorem Mv.refl (hn:F.Nodup):Mv h F h F:=⟨zdj _,λ_ _ _=>rfl,hn,λ_ hb => .inl hb⟩
theorem Mv.nil:Mv h [] h []:=Mv.refl (by simp)
theorem Mv.trans (a:Mv h F h' F') (b:Mv h' F' h'' F''):Mv h F h'' F'' :=
 ⟨zdh a.le b.le,λx hx hF=>by
  rw[b.fr x (zdq hx a.le) λhm=>(a.sub x hm).elim hF λh=>by omega,a.fr x hx hF],b.nd,λx hx=>by
  have h1:=a.le;have h2:=b.le;rcases b.sub x hx with h3 | h3
  ·rcases a.sub x h3 with h4 | h4
   ·exact .inl h4
   ·exact .inr (by omega)
  ·exact .inr (by omega)⟩
theorem Mv.drop (a:Mv h F h' F'):Mv h F h' []:=⟨a.le,a.fr,by simp,by simp⟩
theorem Mv.lean (a:Mv h F h' F') (hn:F''.Nodup) (hs:∀ b∈F'',b∈F'):Mv h F h' F'':=⟨a.le,a.fr,hn,λb hb=>a.sub b (hs b hb)⟩
theorem Mv.wide (a:Mv h F h' F') (hs:∀ b∈F,b∈G):Mv h G h' F':=⟨a.le,λb hb hG=>a.fr b hb λhm=>hG (hs b hm),a.nd,λb hb=>(a.sub b hb).imp (hs b) id⟩
theorem Mv.snoc:Mv h [] (h++t) []:=⟨by simp,λb hb _=>zdl hb,by simp,by simp⟩
theorem Mv.snoc' (hn:F.Nodup):Mv h F (h++t) F:=⟨by simp,λb hb _=>zdl hb,hn,λb hb => .inl hb⟩
theorem Mv.last {b:Blk}:Mv h [] (h ++ [b]) [h.length]:=⟨by simp,λb hb _=>zdl hb,by simp,λx hx => .inr (by simp at hx;subst hx;simp)⟩
theorem Mv.join (a:Mv h F h' F') (b:Mv h' [] h'' F'') (hb:∀ x∈F',x<h'.length):Mv h F h'' (F'++F'') :=
 ⟨zdh a.le b.le,λx hx hF=>by rw[b.fr x (zdq hx a.le) (by simp),a.fr x hx hF],by
  rw[zdg];refine ⟨a.nd,b.nd,λx hx y hy=>?_⟩
  rintro rfl
  have h1:=hb x hx;rcases b.sub x hy with h2 | h2
  ·simp at h2
  ·omega,λx hx=>by
  have h1:=a.le;have h2:=b.le;rw[zde] at hx;rcases hx with hx | hx
  ·rcases a.sub x hx with h3 | h3
   ·exact .inl h3
   ·exact .inr (by omega)
  ·rcases b.sub x hx with h3 | h3
   ·simp at h3
   ·exact .inr (by omega)⟩
theorem Mv.fr' (a:Mv h F h' F') (hl:h'.length=h.length) (b:Nat) (hb:b∉F):h'[b]?=h[b]?:=by
 by_cases hlt:b<h.length
 ·exact a.fr b hlt hb
 ·rw[zdW (by omega),zdW (by omega)]
theorem Mv.aside (a:Mv h F h' F') (hn:(F++G).Nodup) (hG:∀ b∈G,b<h.length):Mv h (F++G) h' (F'++G):=by
 rw[zdg] at hn;refine ⟨a.le,λb hb hF=>a.fr b hb λhm=>hF (zdQ _ hm),?_,λb hb=>?_⟩
 ·rw[zdg];refine ⟨a.nd,hn.2.1,λx hx y hy=>?_⟩
  rintro rfl
  rcases a.sub x hx with h2 | h2
  ·exact hn.2.2 x h2 x hy rfl
  ·have:=hG x hy;omega
 ·rw[zde] at hb ⊢;rcases hb with hb | hb
  ·exact (a.sub b hb).imp .inl id
  ·exact .inl (.inr hb)
theorem Mv.lt (a:Mv h F h' F') (hF:∀ b∈F,b<h.length):∀ b∈F',b<h'.length:=λb hb=>by
 have:=a.le;rcases a.sub b hb with h1 | h1
 ·have:=hF b h1;omega
 ·exact h1.2
theorem Mv.ge {lo:Nat} (a:Mv h F h' F') (hl:lo<=h.length) (hF:∀ b∈F,lo<=b):∀ b∈F',lo<=b:=λb hb=>by
 rcases a.sub b hb with h1 | h1
 ·exact hF b h1
 ·omega
theorem Mv.new (a:Mv h [] h' F'):∀ b∈F',h.length<=b:=λb hb=>by
 rcases a.sub b hb with h1 | h1
 ·simp at h1
 ·exact h1.1
theorem Mv.keep {El:Rel α}{cs:List V}{x:α} (a:Mv h F h' F') (ok:El.Ok) (he:El h cs x G) (hd:∀ b∈G,b∉F):El h' cs x G :=
 ok.fr _ _ _ _ _ he λb hb=>a.fr b (ok.bd _ _ _ _ he b hb) (hd b hb)
theorem Mv.keep0 {El:Rel α}{cs:List V}{x:α} (a:Mv h [] h' F') (ok:El.Ok) (he:El h cs x G):El h' cs x G:=a.keep ok he (by simp)
end
theorem AX {R:Type}{sz e:Nat}{h:Heap}{row:List V}{K:List (List V)->Option R}:As sz (h ++ [.rows sz e ro [row]]) (.sl sz (some (h.length,0)) 1 c) K=K [row]:=by simp[As,EQ,Oq,A8]
theorem Sli.same {El:Rel α}{El':Rel β}{R e e' n:Nat}{h h':Heap}{v:V}{l':List β}{F F':List Nat}{a:Pq} (h0:Sli false R e El h [v] l F)
  (es:∀ {R':Type} (K:Pq->Nat->Nq->Option R'),eS R v K=K a n c) (h1:Sli false R e' El' h' [.sl R a n c] l' F'):Sli false R e' El' h' [v] l' F':=by
 obtain ⟨R0,a0,c0,e0,g0⟩:=h0;injection e0 with e0 _;subst e0;have hk:=es (λa n c=>some (a,n,c));have hn:=h1.val;obtain ⟨R1,a1,c1,e1,g1⟩:=h1;injection e1 with e1 _;injection e1 with _ x1 _ x3;subst x1;subst x3;cases a0 with
 | none =>simp only[eS,Option.some.injEq,Prod.mk.injEq] at hk;obtain ⟨rfl,h2,rfl⟩:=hk;exact ⟨R0,none,c0,by rw[h2,hn],g1⟩
 | some p =>obtain ⟨rfl,_⟩:=g0;rw[Ai] at hk;simp only[Option.some.injEq,Prod.mk.injEq] at hk;obtain ⟨rfl,h2,rfl⟩:=hk;obtain ⟨b,i⟩:=p;exact ⟨R0,some (b,i),c0,by rw[h2,hn],rfl,g1.2⟩
theorem DF {cs:α->List V}:(flat cs).Ok:=⟨UM,λh c x F he b hb=>by rw[he.2] at hb;simp at hb⟩
theorem EAll.bd {α:Type}{El:Rel α}{h:Heap} (ok:El.Ok):∀ {rows:List (List V)}{l:List α}{Fs:List (List Nat)},EAll El h rows l Fs->∀ b∈Fs.flatten,b<h.length
 | [],[],[],_,b,hb=>by simp at hb
 | r :: rs,x :: xs,F :: Fs,⟨h1,h2⟩,b,hb=>by
  rw[zdH,zde] at hb;rcases hb with hb | hb
  ·exact ok.bd _ _ _ _ h1 b hb
  ·exact EAll.bd ok h2 b hb
 | [],[],_ :: _,h,_,_=>h.elim
 | [],_ :: _,_,h,_,_=>h.elim
 | _ :: _,[],_,h,_,_=>h.elim
 | _ :: _,_ :: _,[],h,_,_=>h.elim
theorem Sli.ok {α:Type}{El:Rel α}{ro:Bool}{R e:Nat} (ok:El.Ok):(Sli ro R e El).Ok:=by
 refine ⟨Sli.fr ok.fr,?_⟩
 rintro h cs l F ⟨R',a,c,h1,h2⟩ b hb
 cases ro with
 | true =>
  obtain ⟨_,⟨_,rfl⟩ | ⟨b',i,rs,Fs,g0,g1,g2,g5,rfl⟩⟩:=h2
  ·simp at hb
  ·rw[zdm] at hb;rcases hb with rfl | hb
   ·apply zeK;intro hle;unfold Heap.rows? at g1;rw[zdW hle] at g1;cases g1
   ·exact g5.bd ok b hb
 | false =>
 cases a with
 | none=>obtain ⟨_,_,rfl⟩:=h2;simp at hb
 | some p =>
  obtain ⟨b',i⟩:=p;obtain ⟨hR,rs,Fs,g1,g2,g3,g4,g5,rfl⟩:=h2;rw[zdm] at hb;rcases hb with rfl | hb
  ·exact (DY g1).1
  ·exact g5.bd ok b hb
def Em {α β:Type} (g:List β->α->Option β):List β->List α->List β
 | acc,[]=>acc
 | acc,x :: xs=>Em g (acc++(g acc x).toList) xs
theorem T4 {α β:Type}{g:List β->α->Option β}:∀ {acc:List β}{l:List α}{x:α},Em g acc (l ++ [x])=Em g acc l++(g (Em g acc l) x).toList
 | acc,[],x=>rfl
 | acc,y :: l,x=>by simp only[zdT,Em];exact T4
theorem T3 {acc:List β}{i:Nat} (hi:i<l.length):Em g acc (l.take (i+1))=Em g acc (l.take i)++(g (Em g acc (l.take i)) l[i]).toList:=by rw[List.take_add_one,DZ hi];exact T4
theorem Wm {α β:Type}{g:List β->α->Option β}:∀ {acc:List β}{l:List α},(Em g acc l).length<=acc.length+l.length
 | acc,[]=>by simp[Em]
 | acc,x :: l=>by
  have:=Wm (g:=g) (acc:=acc++(g acc x).toList) (l:=l);have h2:(g acc x).toList.length<=1:=by cases g acc x<;>simp
  simp only[Em,zd7,zdy] at this ⊢;omega
theorem NK {α β:Type}{f:α->β}:∀ {acc:List β}{l:List α},Em (λ_ x=>some (f x)) acc l=acc++l.map f
 | acc,[]=>by simp[Em]
 | acc,x :: l=>by simp only[Em,zeq];rw[NK];simp
theorem MH {El:Rel β} (ok:El.Ok) {lo R e bytes:Nat}{b0:List β}{F0:List Nat}{a0:Pq}{c0:Nq}
  (hlo:lo<=h0.length) (hF:∀ b∈F0,lo<=b) (hnd:F0.Nodup) (hb:0<bytes) (hsz:(b0.length+l.length)*bytes<=140737488355328)
  (L:Nat->Pq->Nat->Nq->Heap->Option T)
  (step:∀ i (hi:i<l.length) a c hh F acc,(i=0->a=a0/\c=c0)->acc=Em g b0 (l.take i)->Mv h0 F0 hh F->Sli false R e El hh [.sl R a acc.length c] acc F ->
   (g acc l[i]=none/\∃ h2,Mv hh [] h2 []/\L i a acc.length c hh=L (i+1) a acc.length c h2) \/
   (∃ y row G h2,g acc l[i]=some y/\El h2 row y G/\Mv hh [] h2 G/\L i a acc.length c hh=Dv lo e R bytes (.sl R a acc.length c) [row] h2 λv h=>eS R v λa n c=>L (i+1) a n c h))
  (hs:Sli false R e El h0 [.sl R a0 b0.length c0] b0 F0) :
  ∃ a c h' F',L 0 a0 b0.length c0 h0=L l.length a (Em g b0 l).length c h'/\Sli false R e El h' [.sl R a (Em g b0 l).length c] (Em g b0 l) F'/\Mv h0 F0 h' F':=by
 have loop:∀ m i a c hh F,m+i=l.length->(i=0->a=a0/\c=c0)->Mv h0 F0 hh F->Sli false R e El hh [.sl R a (Em g b0 (l.take i)).length c] (Em g b0 (l.take i)) F ->
   ∃ a' c' h' F',L i a (Em g b0 (l.take i)).length c hh=L l.length a' (Em g b0 l).length c' h'/\Sli false R e El h' [.sl R a' (Em g b0 l).length c'] (Em g b0 l) F'/\Mv h0 F0 h' F':=by
  intro m;induction m with
  | zero =>
   intro i a c hh F hi hz hm hr;have:i=l.length:=by omega
   subst this;rw[zeQ] at hr ⊢;exact ⟨a,c,hh,F,rfl,hr,hm⟩
  | succ m ih =>
   intro i a c hh F hi hz hm hr;have hlt:i<l.length:=by omega
   rcases step i hlt a c hh F _ hz rfl hm hr with ⟨hg,h2,m2,e2⟩ | ⟨y,row,G,h2,hg,hy,m2,e2⟩
   ·have ht:Em g b0 (l.take (i+1))=Em g b0 (l.take i):=by rw[T3 hlt,hg];simp
    rw[e2,<- ht];refine ih (i+1) a c h2 F (by omega) (λh=>by omega) ?_ (by rw[ht];exact m2.keep0 (Sli.ok ok) hr);refine hm.trans ⟨m2.le,λb hb hF=>m2.fr b hb (by simp),hm.nd,λb hb => .inl hb⟩
   ·have ht:Em g b0 (l.take (i+1))=Em g b0 (l.take i) ++ [y]:=by rw[T3 hlt,hg];simp
    have hbd:=(Sli.ok ok).bd _ _ _ _ hr;have hr2:=m2.keep0 (Sli.ok ok) hr;have hlen:(Em g b0 (l.take i)).length<=b0.length+i:=zdh Wm (by simp;omega);have hnn:F.Nodup:=hm.nd;obtain ⟨a',c',h',F',p1,p2,p3,p4,p5,p6⟩:=Sli.push (lo:=lo) (bytes:=bytes) ok.fr hr2 (xs := [row]) (ys := [y]) (Gs := [G]) ⟨hy,trivial⟩ hb
     (zdh (zdI _ (by simp;omega)) hsz) (hm.ge hlo hF) (by have:=hm.le;have:=m2.le;omega)
     (by
      rw[zdg];refine ⟨hnn,by simpa using m2.nd,λx hx y hy=>?_⟩
      rintro rfl
      have h1:=hbd x hx;have h2:=m2.new x (by simpa using hy);omega)
     (λb hb'=>by
      have h1:=m2.le;rw[zde] at hb';rcases hb' with hb' | hb'
      ·have:=hbd b hb';omega
      ·exact m2.lt (by simp) b (by simpa using hb')) (by simp)
    rw[e2,p1];simp only[Ai,zd2];have hl2:(Em g b0 (l.take i)).length+1=(Em g b0 (l.take (i+1))).length:=by rw[ht];simp
    rw[hl2];rw[zd2,hl2,<- ht] at p2;refine ih (i+1) a' c' h' F' (by omega) (λh=>by omega) (hm.trans ⟨zdh m2.le p3,λb hb' hF'=>?_,p6,λb hb'=>?_⟩) p2
    ·rw[p4 b (zdq hb' m2.le) hF',m2.fr b hb' (by simp)]
    ·have h1:=m2.le;rcases p5 b hb' with h3 | h3
     ·rw[zde] at h3;rcases h3 with h3 | h3
      ·exact .inl h3
      ·have h4:=m2.new b (by simpa using h3);have h5:=m2.lt (by simp) b (by simpa using h3);exact .inr (by omega)
     ·exact .inr (by omega)
 obtain ⟨a',c',h',F',q1,q2⟩:=loop l.length 0 a0 c0 h0 F0 (by omega) (λ_=>⟨rfl,rfl⟩) (Mv.refl hnd) (by simpa [Em] using hs);refine ⟨a',c',h',F',?_,q2⟩;simpa [Em] using q1
theorem I5 {El:Rel β} (ok:El.Ok) {h:Heap}{lo R e bytes:Nat} (hl:lo<=h.length) (hb:0<bytes) (hsz:l.length*bytes<=140737488355328)
  (L:Nat->Nat->Pq->Nat->Nq->Heap->Option T)
  (step:∀ i (hi:i<l.length) q a n c hh,Mv h [] hh []->∃ row G h2,El h2 row (f l[i]) G/\Mv hh [] h2 G/\L i q a n c hh=Dv lo e R bytes (.sl q a n c) [row] h2 λv h=>eS R v λa n c=>L (i+1) R a n c h) :
  ∃ q a' c' h' F',L 0 0 none 0 (some 0) h=L l.length q a' l.length c' h'/\Sli false R e El h' [.sl q a' l.length c'] (l.map f) F'/\Mv h [] h' F':=by
 by_cases he:l = []
 ·subst he;exact ⟨0,none,some 0,h,[],rfl,Sli.nil,Mv.nil⟩
 have hpos:0<l.length:=List.length_pos_iff.2 he;obtain ⟨a',c',h',F',q1,q2,q3⟩:=MH (El:=El) ok (h0:=h) (l:=l) (g:=λ_ x=>some (f x)) (lo:=lo) (R:=R) (e:=e) (bytes:=bytes) (b0 := []) (F0 := []) (a0:=none) (c0:=some 0) hl (by simp) (by simp) hb (by simpa using hsz)
  (λi a n c hh=>L i (if i=0 then 0 else R) a n c hh) (λi hi a c hh F acc hz hacc hm hr=>by
   obtain ⟨row,G,h2,r2,m2,e2⟩:=step i hi (if i=0 then 0 else R) a acc.length c hh hm.drop;refine .inr ⟨f l[i],row,G,h2,rfl,r2,m2,?_⟩;rw[e2];by_cases h0:i=0
   ·obtain ⟨rfl,rfl⟩:=hz h0;rw[zcp (R:=R)];rfl
   ·rw[if_neg h0];rfl) Sli.nil
 rw[NK,zdO] at q1 q2;rw[zez] at q1 q2;refine ⟨R,a',c',h',F',?_,q2,q3⟩;have:=q1;simp only[if_neg (show l.length≠0 by omega)] at this;exact this
theorem Gk:∀ {row cs:List V},row.length=cs.length->paste row 0 cs=some cs
 | [],[],_=>rfl
 | [],_ :: _,h=>by simp at h
 | _ :: _,[],h=>by simp at h
 | x :: row,y :: cs,h=>by simp only[paste];rw[Gk (by simpa using h)]
theorem Ub {El:Rel β} (ok:El.Ok) {lo R e:Nat}{z:List V} (hz:z.length=R) (hlo:lo<=h0.length)
  (L:Nat->Heap->Option T)
  (step:∀ i (hi:i<l.length) hh,Mv h0 [] hh []->∃ row G h2,El h2 row (f l[i]) G/\Mv hh [] h2 G/\row.length=R/\L i hh=eO (st lo h2 h0.length i 0 row) λh3=>L (i+1) h3) :
  ∃ h' F',L 0 (h0 ++ [.rows R e false (List.replicate l.length z)])=L l.length h'/\Sli false R e El h' [.sl R (some (h0.length,0)) l.length (some l.length)] (l.map f) F'/\Mv h0 [] h' F':=by
 have loop:∀ m i hh rows Fs,m+i=l.length->hh[h0.length]?=some (.rows R e false (rows++List.replicate m z))->EAll El hh rows ((l.take i).map f) Fs->Mv h0 [] hh (h0.length :: Fs.flatten) ->
   ∃ h' F',L i hh=L l.length h'/\Sli false R e El h' [.sl R (some (h0.length,0)) l.length (some l.length)] (l.map f) F'/\Mv h0 [] h' F':=by
  intro m;induction m with
  | zero =>
   intro i hh rows Fs hi hb he hm;have:i=l.length:=by omega
   subst this;rw[zeQ] at he;refine ⟨hh,h0.length :: Fs.flatten,rfl,⟨R,some (h0.length,0),some l.length,by simp,rfl,rows,Fs,by simpa using hb,?_,λk hk=>?_,λh=>(by cases h),?_,rfl⟩,hm⟩
   ·have:=he.len.1;simp at this ⊢;omega
   ·injection hk with hk;subst hk;have:=he.len.1;simp at this ⊢;omega
   ·have:=he.len.1;rw[zeg,zdP (by omega)];exact he
  | succ m ih =>
   intro i hh rows Fs hi hb he hm;have hlt:i<l.length:=by omega
   have hbl:h0.length<hh.length:=(DY hb).1;obtain ⟨row,G,h2,hy,m2,hrl,e2⟩:=step i hlt hh hm.drop;have hrows:rows.length=i:=by have:=he.len.1;simp at this;omega
   have hb2:h2[h0.length]?=some (.rows R e false (rows++List.replicate (m+1) z)):=by rw[m2.fr _ hbl (by simp)];exact hb
   have hbl2:h0.length<h2.length:=(DY hb2).1;have hri:(rows++List.replicate (m+1) z)[i]?=some z:=by rw[zdC (by omega),hrows];simp
   have hset:(rows++List.replicate (m+1) z).set i row=(rows ++ [row])++List.replicate m z:=by rw[zeo _ _ (by omega),hrows,zeH,List.replicate_succ,zeX,zdv,List.singleton_append]
   rw[e2,Bt hb2 hlo hri (Gk (by rw[hz,hrl])),Ae,hset];have hFb:=he.bd ok;have hFn:h0.length∉Fs.flatten:=(zdn.1 hm.nd).1;have hGn:h0.length∉G:=λhg=>by have:=m2.new _ hg;omega
   have frame:∀ b,b≠h0.length->(h2.set h0.length (.rows R e false ((rows ++ [row])++List.replicate m z)))[b]?=h2[b]?:=λb hb=>zdi (Ne.symm hb);refine ih (i+1) _ (rows ++ [row]) (Fs ++ [G]) (by omega) (by simp[hbl2]) ?_ ?_
   ·rw[List.take_add_one,DZ hlt,List.map_append];refine EAll.append (he.fr ok.fr λb hb=>?_) ⟨ok.fr _ _ _ _ _ hy λb hb=>frame b λe=>hGn (e ▸ hb),trivial⟩;rw[frame b λe=>hFn (e ▸ hb)];exact m2.fr b (hFb b hb) (by simp)
   ·have hj:=hm.join m2 (λx hx=>by
     rw[zdm] at hx;rcases hx with rfl | hx
     ·exact hbl
     ·exact hFb x hx)
    rw[zdT] at hj;refine ⟨by simpa using hj.le,λb hb hF=>?_,by simpa using hj.nd,λb hb=>by simpa using hj.sub b (by simpa using hb)⟩;rw[frame b (by omega)];exact hj.fr b hb hF
 exact loop l.length 0 _ [] [] (by omega) (by simp) (by simp[EAll]) (by simpa using Mv.last)
noncomputable section
variable {lo:Nat}{f:Bool}{args:List V}{h:Heap}{t:Int}{p:Nq}{h':Heap}{v:V}{c:Nq}{k g G n m i j:Nat}{F:Bool}{x z y:Int}{S:ByteArray}{d a0 a1 a b A B:Pq}{u D c0 s C:Nq}{H:Nat}{a2:Pq}{c1:Nq}{J:Nat}{a3:Pq}{c2:Nq}{r:V×Heap}{n0 n1 n2:Nat}
def pd:Nat->Nat->Code->Code
 | 0,_,c=>c
 | k+1,n,c=>match n%10 with
  | 1=>pd k (n/10) (cr c)
  | 2=>pd k (n/10) (cb c)
  | 3=>pd k (n/10) (cl c)
  | 4=>pd k (n/10) (ct c)
  | 5=>pd k (n/10) (ce c)
  | _=>c
def pf (n:Nat) (F:Func):Code:=pd 40 n (code F)
def LA (n:Nat) (F:Func) (p t q lo:Nat) (σ:St):Ov:=Lp (X n) lo (pf p F) t (AW t (kS (X n) lo (pf q F) 0 (J7 (X n) F.results.toList))) σ
theorem eK {f:Nat}{fn:Func}{t:Ov}{p:Vh} (hf:Tryz.prog.funcs[f]?=some fn) (hk:t=some p) (hd:I.drop f=false:=by kernel_rfl) (ht:fnT I fn (eval Tryz.prog I) lo f args h=t:=by kernel_rfl):Af lo f args h=some p:=Zy hf hd (ht.trans hk)
theorem eD {f:Nat}{fn:Func}{t:Ov} (hf:Tryz.prog.funcs[f]?=some fn) (hk:t=some (v,h')) (hn:noId v=true) (hd:I.drop f=true:=by kernel_rfl) (ht:fnT I fn (eval Tryz.prog I) h.length f args h=t:=by kernel_rfl):Af lo f args h=some (v,h):=Zz hf hd (ht.trans hk) hn
theorem lE {X:Ctx}{id:Nat}{c:Code}{K:Ex->St->Ov}{σ:St}{t:Ov} (h:exec X lo c id σ (WL X lo c id K)=t:=by kernel_rfl):Lp X lo c id K σ=t:=Lp_eq.trans h
def ES lo f x S F y z t a n c b m p d k u b0 e i s w q A j C B g D a0 G c0 b1 M N h:=
 LA 3 Tryz.f3 22131111111 0 11111111 lo ⟨[(2,.bool f),(3,.lp 3 0),(4,Iv x),(5,.str S),(6,.bool F),(7,.lp 7 0),(8,.lp 8 0),(9,.lp 9 0),(12,Iv y)],[(3,(Du z t a n c b m p d k u b0)),(7,(Bb e i s)),(8,(Du w q A j C B g D a0 G c0 b1)),(9,(Bg M N))],h⟩
theorem ES.e {lo k g G n m i j:Nat}{b0 f b1 F:Bool}{t x w N q M z y:Int}{S:ByteArray}{d a0 a1 a b A B:Pq}{u D c0 c p s C:Nq}{h:Heap} :
  ES lo b0 t S f x w N d k u a0 g D a1 G c0 b1 a n c q M b m p A i s B j C F z y h=br (decide (x<4)) (An x n (eO a λv=>eO (ld h v.1 (v.2+x.toNat) 0 2) λv=>eC v λv l=>eI .i64 v λv=>eC l λl o=>eI .i64 l λl=>eN o (Ak (Af lo 15 [Ar v l,Ar z y] h) λv l=>eB v (An 0 k (eO d λv=>eO (ld l v.1 (v.2+0) 0 1) λv=>eC v λv o=>eN o (eS 6 v λv o e=>An x o (eO v λv=>eO (ld l v.1 (v.2+x.toNat) 1 2) λv=>eC v λv o=>eI .i64 v λv=>eC o λo e=>eI .i64 o λo=>eN e (Ak (Af lo 15 [Ar v o,Ar z y] l) λv o=>eB v (ES lo b0 t S f (Al (x+1)) w N d k u a0 g D a1 G c0 b1 a n c q M b m p A i s B j C F z y o) (AD o)))))) (AD l)))) (An 0 m (eO b λv=>eO (ld h v.1 (v.2+0) 0 1) λv=>eC v λv l=>eN l (eS 6 v λv l o=>An t l (eO v λv=>eO (ld h v.1 (v.2+t.toNat) 0 6) λv=>eC v λv l=>eI .i64 v λv=>eC l λv l=>eI .i64 v λv=>eC l λl o=>eI .i64 l λl=>eC o λo e=>eS 2 o λo E H=>eC e λe J=>eT e λe=>eC J λJ K=>eBv J λJ=>eN K (Ak (Af lo 13 [Br q M b m p A i s B j C F] h) λK L=>eB K (Ak (Af lo 16 [Ap b m p] L) λK O=>eB K (br ((v==z)&&((l==y)&&true)) (br (y==w) (br (e.toList==S.toList) (br (J==f) (Ak (Af lo 17 [Ap o E H,Ap a n c] O) λv l=>eB v (Ak (Af l.length 19 [Ap d k u] l) λv o=>eA v λv=>eC v λv e=>eS 2 v λv E H=>eN e (Ak (Af lo 18 [Ap a n c,Ap v E H] o) λv o=>eB v (Cn o) (AD o))) (AD l)) (AD O)) (AD O)) (AD O)) (AD O)) (AD O)) (AD L)))))) :=
 lE
def E6 lo f x a n c b m p d k u e i s A j C B g D a0 G c0 a1 H c1 h:=
 LA 4 Tryz.f4 221311111 0 111111 lo ⟨[(4,.bool f),(8,.lp 8 0),(9,.lp 9 0),(10,Iv x)],[(8,(DW a n c b m p d k u e i s)),(9,(DW A j C B g D a0 G c0 a1 H c1))],h⟩
theorem E6.e :
  E6 lo f x B j u a i s a0 g C b n c a1 G D d m c0 a2 H c1 A k p h=br (decide (x<(m:Int))) (An x i (eO a λv=>eO (ld h v.1 (v.2+x.toNat) 1 1) λv=>eC v λv l=>eS 2 v λv o y=>eN l (An x m (eO d λl=>eO (ld h l.1 (l.2+x.toNat) 1 1) λl=>eC l λl z=>eS 2 l λl w q=>eN z (Ak (Af lo 18 [Ap v o y,Ap l w q] h) λv l=>eB v (E6 lo f (Al (x+1)) B j u a i s a0 g C b n c a1 G D d m c0 a2 H c1 A k p l) (AD l)))))) (br (decide ((n:Int)<=(k:Int))) (Aw A k p none (some (Iv (n:Int))) none λv l o=>Ak (Af lo 24 [.sl 5 v l o,.sl 5 b n c] h) λv l=>eB v (Cn l) (AD l)) (AD h)) :=
 lE
def EA lo f x a n c b m p d k u e i s h:=
 LA 5 Tryz.f5 221311111 0 111111 lo ⟨[(2,.bool f),(6,.lp 6 0),(7,Iv x)],[(6,(DW a n c b m p d k u e i s))],h⟩
theorem EA.e :
  EA lo f x a n c b m p d k u A i s h=br (decide (x<(n:Int))) (An x n (eO a λv=>eO (ld h v.1 (v.2+x.toNat) 2 1) λv=>eC v λv l=>eS 2 v λv o y=>eN l (Ak (Af lo 16 [Ap v o y] h) λl y=>eB l (An (Al ((o:Int) - 1)) o (eO v λv=>eO (ld y v.1 (v.2+((Al ((o:Int) - (1:Int))).toNat)) 0 1) λv=>eC v λv l=>eS 6 v λv o z=>eN l (Ak (Af lo 26 [BS v o z] y) λv l=>eB v (EA lo f (Al (x+1)) a n c b m p d k u A i s l) (AD l)))) (AD y)))) (Cn h) :=
 lE
def D6 lo a n c x b m p d k u e i s A j C B g D a0 G c0 a1 H c1 a2 J c2 h:=
 LA 6 Tryz.f6 2213111111 0 1111111 lo ⟨[(5,.sl 6 a n c),(6,.lp 6 0),(7,.lp 7 0),(8,Iv x)],[(6,(DW b m p d k u e i s A j C)),(7,(DW B g D a0 G c0 a1 H c1 a2 J c2))],h⟩
theorem D6.e {lo n m k i j g G H J:Nat}{B a b d A a0 a1 a2 a3:Pq}{c2 c p u s C D c0 c1:Nq}{x:Int}{h:Heap} :
  D6 lo B n c2 x a m c b k p d i u A j s a0 g C a1 G D a2 H c0 a3 J c1 h=br (decide (x<(n:Int))) (br (decide (x<60)) (An x n (eO B λv=>eO (ld h v.1 (v.2+x.toNat) 0 6) λv=>eC v λv l=>eI .i64 v λv=>eC l λl o=>eI .i64 l λl=>eC o λo y=>eI .i64 o λo=>eC y λy z=>eI .i64 y λy=>eC z λz w=>eT z λz=>eC w λw q=>eBv w λw=>eN q (Ak (Af lo 28 [At a0 g C a1 G D a2 H c0 a3 J c1,BT v l o y z w] h) λv l=>eU v λv=>eC v λv o=>eA v λv=>eC v λv y=>eS 6 v λv z w=>eC y λy q=>eS 5 y λy t e=>eC q λq f=>eS 9 q λq E K=>eC f λf L=>eS 5 f λf M N=>eN L (eC o λo L=>eB o (eN L (D6 lo B n c2 (Al (x+1)) a m c b k p d i u A j s v z w y t e q E K f M N l)) (eN L (D6 lo B n c2 (Al (x+1)) a m c b k p d i u A j s v z w y t e q E K f M N l)))))) (Ak (Af lo 22 [At a0 g C a1 G D a2 H c0 a3 J c1,At a m c b k p d i u A j s] h) λv l=>eB v (Cn l) (AD l))) (Ak (Af lo 22 [At a0 g C a1 G D a2 H c0 a3 J c1,At a m c b k p d i u A j s] h) λv l=>eB v (Cn l) (AD l)) :=
 lE
theorem Kk (hk:(Ak (Af lo 29 [.sl 6 a n c,Iv 1048576] h) λv l=>eI .i64 v λv=>br (decide (v<0)) (Cn l) (Ak (Af lo 30 (Bc a n c) l) λv l=>eS 6 v λv o s=>Ak (Af lo 23 [Iv x,Iv y,.sl 6 v o s] l) λv l=>eA v λv=>eC v λv o=>eS 6 v λv s b=>eC o λo z=>eS 5 o λo u w=>eC z λz p=>eS 9 z λz q g=>eC p λp i=>eS 5 p λp j k=>eN i (Ak (Af lo 30 (Bc a n c) l) λl i=>eS 6 l λl m t=>Ak (Af lo 25 [Iv x,Iv y,.sl 6 l m t] i) λi d=>eA i λi=>eC i λi e=>eS 6 i λi f A=>eC e λe B=>eS 5 e λe C D=>eC B λB E=>eS 9 B λB G H=>eC E λE J=>eS 5 E λE K L=>eN J (Ak (Af lo 31 [At i f A e C D B G H E K L,At v s b o u w z q g p j k] d) λd J=>eB d (Ak (Af lo 30 (Bc a n c) J) λd M=>eS 6 d λd N O=>Ak (Af lo 32 (Ij l m t d N O) M) λd M=>eB d (Ak (Af lo 33 [.sl 6 l m t,Iv 1] M) λl m=>eI .i64 l λl=>br (decide (l<0)) (AD m) (Ak (Af lo 31 [At i f A e C D B G H E K L,At v s b o u w z q g p j k] m) λl m=>eB l (Ak (Af lo 34 [At i f A e C D B G H E K L,Iv 1] m) λl t=>eI .i64 l λl=>Ak (Af lo 35 [At i f A e C D B G H E K L,Iv 1] t) λt d=>eI .i64 t λt=>br (decide (t<0)) (AD d) (br (t==l) (Ak (Af lo 30 (Bc a n c) d) λt N=>eS 6 t λt O P=>Ak (Af lo 25 [Iv x,Iv y,.sl 6 t O P] N) λt N=>eA t λt=>eC t λt O=>eS 6 t λt P Q=>eC O λO S=>eS 5 O λO U W=>eC S λS Y=>eS 9 S λS Z v0=>eC Y λY v1=>eS 5 Y λY v2 v3=>eN v1 (Ak (Af lo 31 [At t P Q O U W S Z v0 Y v2 v3,At v s b o u w z q g p j k] N) λv o=>eB v (Ak (Af lo 35 [At i f A e C D B G H E K L,Iv 1] o) λv s=>eI .i64 v λv=>br (decide (v<0)) (AD s) (br (v==l) (Cn s) (AD s))) (AD o))) (AD d))) (AD m))) (AD M)) (AD J)))))=some r) :
  Af lo 7 [Iv x,Iv y,.sl 6 a n c] h=some r :=
 eK Tryz.func7 hk
def HM lo f x y z a n c b m p d k u F t w e i s A j C B g D b0 h:=
 LA 12 Tryz.f12 221311 0 111 lo ⟨[(2,.lp 2 0),(3,.lp 3 0),(4,.bool f),(5,Iv x)],[(2,(Du y z a n c b m p d k u F)),(3,(Du t w e i s A j C B g D b0))],h⟩
theorem HM.e {lo k i n j g m:Nat}{f F b0:Bool}{x y z t w:Int}{d A a B a0 b:Pq}{c p u s C D:Nq}{h:Heap} :
  HM lo f x y z d k c A i p a n u F t w B j s a0 g C b m D b0 h=br (decide (x<(n:Int))) (An x n (eO a λv=>eO (ld h v.1 (v.2+x.toNat) 0 1) λv=>eC v λv l=>eN l (eS 6 v λv l o=>An x m (eO b λq=>eO (ld h q.1 (q.2+x.toNat) 0 1) λq=>eC q λq e=>eN e (eS 6 q λq e E=>Ak (Af lo 61 (Ij v l o q e E) h) λv l=>eB v (HM lo f (Al (x+1)) y z d k c A i p a n u F t w B j s a0 g C b m D b0 l) (AD l)))))) (Cn h) :=
 lE
def HP lo n m k f a i c x y b j p h:=
 LA 13 Tryz.f13 2213111 0 1111 lo ⟨[(1,(Dt n m k)),(2,.bool f),(3,.lp 3 0),(45,.sl 2 a i c),(46,Iv x),(47,Iv y)],[(3,(Bb b j p))],h⟩
def C8 lo n m k f x a i c y z b j p t w d g u h:=
 Lp (X 13) lo (pf 221123112213111 Tryz.f13) 2 (AW 2 (AW 1 (kS (X 13) lo (pf 1112213111 Tryz.f13) 0 (WL (X 13) lo (pf 2213111 Tryz.f13) 0 (AW 0 (kS (X 13) lo (pf 1111 Tryz.f13) 0 (J7 (X 13) Tryz.f13.results.toList))))))) ⟨[(1,(Dt n m k)),(2,.bool f),(3,.lp 3 0),(4,Iv x),(45,.sl 2 a i c),(46,Iv y),(47,Iv z),(58,.sl 6 b j p),(59,Iv t),(60,Iv w)],[(3,(Bb d g u))],h⟩
def Ek lo n m k f a i c x y h:=
 LA 13 Tryz.f13 22131111 4 11111 lo ⟨[(1,(Dt n m k)),(2,.bool f),(90,.sl 1 a i c),(91,Iv x),(92,Iv y)],[],h⟩
theorem HP.e :
  HP lo n m k f a i c y x b j p h=br (decide (x<y)) (An x i (eO a λv=>eO (ld h v.1 (v.2+x.toNat) 0 2) λv=>eC v λv l=>eS 6 v λv o s=>eC l λl z=>eS 6 l λl u w=>eN z (Ak (Af lo 68 [.sl 1 (some (h.length,0)) 2 (some 2)] (h ++ [.rows 1 26 false [Bc v o s,Bc l u w]])) λv l=>eS 6 v λv o s=>C8 lo n m k f x a i c y x v o s (o:Int) 0 b j p l))) (eO (ld h n m (k+4) 1) λv=>eC v λv l=>eN l (eS 1 v λv l o=>Ek lo n m k f v l o (l:Int) 0 h)) :=
 lE
theorem C8.e {lo n m k j g i:Nat}{f:Bool}{y z t w x:Int}{b d a:Pq}{p u c:Nq}{h:Heap} :
  C8 lo n m k f y b j p z t d g u w x a i c h=br (decide (x<w)) (An x g (eO d λv=>eO (ld h v.1 (v.2+x.toNat) 0 6) λv=>eC v λv l=>eI .i64 v λv=>eC l λv l=>eI .i64 v λv=>eC l λl o=>eI .i64 l λl=>eC o λo s=>eS 2 o λo q e=>eC s λs A=>eT s λs=>eC A λs A=>eBv s λs=>eN A (br ((v==0)&&((l==0)&&true)) (br (y==0) (eO (ld h n m (k+1) 1) λl=>eC l λl s=>eN s (eI .i64 l λl=>br (decide (v>l)) (AD h) (C8 lo n m k f y b j p z t d g u w (Al (x+1)) a i c h))) (C8 lo n m k f y b j p z t d g u w (Al (x+1)) a i c h)) (Ak (Af lo 69 [Ap o q e,Ap a i c] h) λl o=>eB l (br (y==0) (eO (ld o n m (k+1) 1) λl=>eC l λl s=>eN s (eI .i64 l λl=>br (decide (v>l)) (AD o) (C8 lo n m k f y b j p z t d g u w (Al (x+1)) a i c o))) (C8 lo n m k f y b j p z t d g u w (Al (x+1)) a i c o)) (AD o))))) (HP lo n m k f b j p z (Al (t+1)) a i c h) :=
 lE
theorem Ek.e :
  Ek lo n m k f a i c y x h=br (decide (x<y)) (An x i (eO a λv=>eO (ld h v.1 (v.2+x.toNat) 0 1) λv=>eC v λv l=>eN l (eS 6 v λv l o=>Ak (Af lo 65 [.sl 6 v l o,Iv x] h) λv o=>eB v (eO (ld o n m (k+0) 1) λv=>eC v λv s=>eN s (eI .i64 v λv=>br (x==v) (br (decide ((l:Int)>0)) (AD o) (Ek lo n m k f a i c y (Al (x+1)) o)) (Ek lo n m k f a i c y (Al (x+1)) o))) (AD o)))) (Cn h) :=
 lE
theorem Su (hk:(Ak (Af h.length 70 [Ar x y,Ar z t] h) λl c=>eI .i64 l λl=>br (decide (l<0)) (Cn c) (AD c))=some (v,h')) (hn:noId v=true:=by rfl) :
  Af lo 15 [Ar x y,Ar z t] h=some (v,h) :=
 eD Tryz.func15 hk hn
def Ha lo f x a n c b m p h:=
 LA 16 Tryz.f16 221311 0 111 lo ⟨[(1,.lp 1 0),(2,.bool f),(3,.lp 3 0),(4,Iv x)],[(1,(Bb a n c)),(3,(Bb b m p))],h⟩
def D5 lo f x y a n c b m p h:=
 Lp (X 16) lo (pf 221231221311 Tryz.f16) 2 (AW 2 (AW 1 (kS (X 16) lo (pf 11221311 Tryz.f16) 0 (WL (X 16) lo (pf 221311 Tryz.f16) 0 (AW 0 (kS (X 16) lo (pf 111 Tryz.f16) 0 (J7 (X 16) Tryz.f16.results.toList))))))) ⟨[(1,.lp 1 0),(2,.bool f),(3,.lp 3 0),(4,Iv x),(5,Iv y)],[(1,(Bb a n c)),(3,(Bb b m p))],h⟩
theorem Ha.e :
  Ha lo f x a n c b m p h=br (decide (x<(n:Int))) (D5 lo f x 0 a n c b m p h) (Cn h) :=
 lE
theorem D5.e :
  D5 lo f x y a n p b m c h=br (decide (y<4)) (An x n (eO a λv=>eO (ld h v.1 (v.2+x.toNat) 0 1) λv=>eC v λv l=>eN l (eS 6 v λv l o=>An y l (eO v λv=>eO (ld h v.1 (v.2+y.toNat) 0 6) λv=>eC v λv l=>eI .i64 v λv=>eC l λv l=>eI .i64 v λv=>eC l λl o=>eI .i64 l λl=>eC o λl o=>eS 2 l λl s z=>eC o λo u=>eT o λo=>eC u λo u=>eBv o λo=>eN u (br (decide (v>0)) (Ak (Af lo 18 [Ap l s z,Ap b m c] h) λv l=>eB v (D5 lo f x (Al (y+1)) a n p b m c l) (AD l)) (D5 lo f x (Al (y+1)) a n p b m c h)))))) (Ha lo f (Al (x+1)) a n p b m c h) :=
 lE
def IC lo f x a n c b m p h:=
 LA 17 Tryz.f17 221311 0 111 lo ⟨[(2,.lp 2 0),(3,.lp 3 0),(4,.bool f),(5,Iv x)],[(2,(Bb a n c)),(3,(Bb b m p))],h⟩
theorem IC.e :
  IC lo f x a n c b m p h=br (decide (x<(n:Int))) (An x n (eO a λv=>eO (ld h v.1 (v.2+x.toNat) 0 2) λv=>eC v λv l=>eI .i64 v λv=>eC l λl o=>eI .i64 l λl=>eN o (An x m (eO b λo=>eO (ld h o.1 (o.2+x.toNat) 0 2) λo=>eC o λo s=>eI .i64 o λo=>eC s λs y=>eI .i64 s λs=>eN y (br ((v==o)&&((l==s)&&true)) (IC lo f (Al (x+1)) a n c b m p h) (AD h)))))) (Cn h) :=
 lE
def HK lo f x a n c b m p d k u e i s A j C B g D a0 G c0 a1 H c1 h:=
 LA 22 Tryz.f22 221311 0 111 lo ⟨[(2,.lp 2 0),(3,.lp 3 0),(4,.bool f),(5,Iv x)],[(2,(DW a n c b m p d k u e i s)),(3,(DW A j C B g D a0 G c0 a1 H c1))],h⟩
def Fi lo f x a n c b m p d k u e i s A j C B g D a0 G c0 a1 H c1 h:=
 LA 22 Tryz.f22 2213111 2 1111 lo ⟨[(2,.lp 2 0),(3,.lp 3 0),(4,.bool f),(6,Iv x)],[(2,(DW a n c b m p d k u e i s)),(3,(DW A j C B g D a0 G c0 a1 H c1))],h⟩
def Fh lo f x a n c b m p d k u e i s A j C B g D a0 G c0 a1 H c1 h:=
 LA 22 Tryz.f22 22131111 4 11111 lo ⟨[(2,.lp 2 0),(3,.lp 3 0),(4,.bool f),(9,Iv x)],[(2,(DW a n c b m p d k u e i s)),(3,(DW A j C B g D a0 G c0 a1 H c1))],h⟩
theorem HK.e {lo n k i j m g G H:Nat}{f:Bool}{x:Int}{a d A B b a0 a1 a2:Pq}{c p u s C D c0 c1:Nq}{h:Heap} :
  HK lo f x a n c d k p A i u B j s b m C a0 g D a1 G c0 a2 H c1 h=br (decide (x<(n:Int))) (An x n (eO a λv=>eO (ld h v.1 (v.2+x.toNat) 0 6) λv=>eC v λv l=>eI .i64 v λv=>eC l λl o=>eI .i64 l λl=>eC o λo y=>eS 2 o λo z w=>eC y λy q=>eS 6 y λy t e=>eC q λq E=>eS 1 q λq J K=>eC E λE L=>eBv E λE=>eN L (An x m (eO b λL=>eO (ld h L.1 (L.2+x.toNat) 0 6) λL=>eC L λL M=>eI .i64 L λL=>eC M λM N=>eI .i64 M λM=>eC N λN O=>eS 2 N λN P Q=>eC O λO S=>eS 6 O λO U W=>eC S λS Y=>eS 1 S λS Z v0=>eC Y λY v1=>eBv Y λY=>eN v1 (Ak (Af lo 12 [Br v l o z w y t e q J K E,Br L M N P Q O U W S Z v0 Y] h) λv l=>eB v (HK lo f (Al (x+1)) a n c d k p A i u B j s b m C a0 g D a1 G c0 a2 H c1 l) (AD l)))))) (Fi lo f 0 a n c d k p A i u B j s b m C a0 g D a1 G c0 a2 H c1 h) :=
 lE
theorem Fi.e {lo k n i j g m G H:Nat}{f:Bool}{x:Int}{d a A B a0 b a1 a2:Pq}{c p u s C D c0 c1:Nq}{h:Heap} :
  Fi lo f x d k c a n p A i u B j s a0 g C b m D a1 G c0 a2 H c1 h=br (decide (x<(n:Int))) (An x n (eO a λv=>eO (ld h v.1 (v.2+x.toNat) 0 5) λv=>eC v λv l=>eI .i64 v λv=>eC l λl o=>eS 2 l λl y z=>eC o λo w=>eI .i64 o λo=>eC w λw q=>eI .i64 w λw=>eC q λq t=>eI .i64 q λq=>eN t (An x m (eO b λt=>eO (ld h t.1 (t.2+x.toNat) 0 5) λt=>eC t λt e=>eI .i64 t λt=>eC e λe E=>eS 2 e λe J K=>eC E λE L=>eI .i64 E λE=>eC L λL M=>eI .i64 L λL=>eC M λM N=>eI .i64 M λM=>eN N (br (v==t) (br ((o==E)&&((w==L)&&true)) (br (q==M) (Ak (Af lo 17 [Ap l y z,Ap e J K] h) λv l=>eB v (Fi lo f (Al (x+1)) d k c a n p A i u B j s a0 g C b m D a1 G c0 a2 H c1 l) (AD l)) (AD h)) (AD h)) (AD h)))))) (Fh lo f 0 d k c a n p A i u B j s a0 g C b m D a1 G c0 a2 H c1 h) :=
 lE
theorem Fh.e {lo k i n j g G m H:Nat}{f:Bool}{x:Int}{d A a B a0 a1 b a2:Pq}{c p u s C D c0 c1:Nq}{h:Heap} :
  Fh lo f x d k c A i p a n u B j s a0 g C a1 G D b m c0 a2 H c1 h=br (decide (x<(n:Int))) (An x n (eO a λv=>eO (ld h v.1 (v.2+x.toNat) 0 9) λv=>eC v λv l=>eI .i64 v λv=>eC l λl o=>eI .i64 l λl=>eC o λo y=>eI .i64 o λo=>eC y λy z=>eI .i64 y λy=>eC z λz w=>eI .i64 z λz=>eC w λw q=>eI .i64 w λw=>eC q λq t=>eS 2 q λq e E=>eC t λt J=>eT t λt=>eC J λJ K=>eBv J λJ=>eN K (An x m (eO b λK=>eO (ld h K.1 (K.2+x.toNat) 0 9) λK=>eC K λK L=>eI .i64 K λK=>eC L λL M=>eI .i64 L λL=>eC M λM N=>eI .i64 M λM=>eC N λN O=>eI .i64 N λN=>eC O λO P=>eI .i64 O λO=>eC P λP Q=>eI .i64 P λP=>eC Q λQ S=>eS 2 Q λQ U W=>eC S λS Y=>eT S λS=>eC Y λY Z=>eBv Y λY=>eN Z (br (v==K) (br (l==L) (br (o==M) (Ak (Af lo 73 [AC y z w q e E t J,AC N O P Q U W S Y] h) λv l=>eB v (Fh lo f (Al (x+1)) d k c A i p a n u B j s a0 g C a1 G D b m c0 a2 H c1 l) (AD l)) (AD h)) (AD h)) (AD h)))))) (Cn h) :=
 lE
theorem OZ (hk:(Ak (Af lo 54 (C1 x 1 4) h) λv l=>eB v (Ak (Af lo 54 (C1 y 0 4) l) λv o=>eB v (Ak (Af lo 74 [Iv x,Iv y,.sl 6 a n c] o) λv s=>eA v λv=>eC v λv b=>eS 6 v λv z u=>eC b λb w=>eS 5 b λb p q=>eC w λw g=>eS 9 w λw i j=>eC g λg k=>eS 5 g λg m t=>eN k (some ((At v z u b p q w i j g m t),s))) (some (.agg [.sl 0 none 0 (some 0),.sl 0 none 0 (some 0),.sl 0 none 0 (some 0),.sl 0 none 0 (some 0)],o))) (some (.agg [.sl 0 none 0 (some 0),.sl 0 none 0 (some 0),.sl 0 none 0 (some 0),.sl 0 none 0 (some 0)],l)))=some r) :
  Af lo 23 [Iv x,Iv y,.sl 6 a n c] h=some r :=
 eK Tryz.func23 hk
def ID lo a n c b m p f x h:=
 LA 24 Tryz.f24 221311 0 111 lo ⟨[(0,.sl 5 a n c),(1,.sl 5 b m p),(4,.bool f),(5,Iv x)],[],h⟩
theorem ID.e :
  ID lo a n c b m p f x h=br (decide (x<(n:Int))) (An x n (eO a λv=>eO (ld h v.1 (v.2+x.toNat) 0 5) λv=>eC v λv l=>eI .i64 v λv=>eC l λl o=>eI .i64 l λl=>eC o λo s=>eI .i64 o λo=>eC s λs y=>eI .i64 s λs=>eC y λy z=>eI .i64 y λy=>eN z (An x m (eO b λz=>eO (ld h z.1 (z.2+x.toNat) 0 5) λz=>eC z λz u=>eI .i64 z λz=>eC u λu w=>eI .i64 u λu=>eC w λw q=>eI .i64 w λw=>eC q λq g=>eI .i64 q λq=>eC g λg i=>eI .i64 g λg=>eN i (br ((v==z)&&((l==u)&&((o==w)&&((s==q)&&((y==g)&&true))))) (ID lo a n c b m p f (Al (x+1)) h) (AD h)))))) (Cn h) :=
 lE
def Bq lo n m k a i c x y j b g p G d H u J e P s n0 A n1 C h:=
 LA 25 Tryz.f25 2213111 0 1111 lo ⟨[(6,.lp 6 0),(7,(Dt n m k)),(22,.sl 6 a i c),(23,Iv x),(24,Iv y)],[(6,[.sl j b g p,.sl G d H u,.sl J e P s,.sl n0 A n1 C])],h⟩
theorem Kl (hk:(Ak (Af lo 75 (Bg x y) h) λv l=>eB v (Ak (Af lo 76 (Bg x y) l) λv o=>eA v λv=>eC v λv s=>eS 6 v λv b z=>eC s λs u=>eS 5 s λs w p=>eC u λu q=>eS 9 u λu g i=>eC q λq j=>eS 5 q λq k m=>eN j (eO (st lo (o ++ [.rows 4 60 false [[.sl 0 none 0 (some 0),.sl 0 none 0 (some 0),.sl 0 none 0 (some 0),.sl 0 none 0 (some 0)]]]) o.length 0 0 (DW v b z s w p u g i q k m)) λv=>Aw a n c none (some (Iv (if (60:Int)<(n:Int) then (60:Int) else (n:Int)))) none λs b z=>Bq lo o.length 0 0 s b z (b:Int) 0 0 none 0 (some 0) 0 none 0 (some 0) 0 none 0 (some 0) 0 none 0 (some 0) v)) (some (.agg [.sl 0 none 0 (some 0),.sl 0 none 0 (some 0),.sl 0 none 0 (some 0),.sl 0 none 0 (some 0)],l)))=some r) :
  Af lo 25 [Iv x,Iv y,.sl 6 a n c] h=some r :=
 eK Tryz.func25 hk
theorem Bq.e {lo n m k i j g G H J P n0 n1:Nat}{a b d A B:Pq}{c p u s C:Nq}{y x:Int}{h:Heap} :
  Bq lo n m k a i c y x j b g p G d H u J A P s n0 B n1 C h=br (decide (x<y)) (An x i (eO a λv=>eO (ld h v.1 (v.2+x.toNat) 0 6) λv=>eC v λv l=>eI .i64 v λv=>eC l λl o=>eI .i64 l λl=>eC o λo z=>eI .i64 o λo=>eC z λz w=>eI .i64 z λz=>eC w λw q=>eT w λw=>eC q λq t=>eBv q λq=>eN t (Ak (Af lo 77 [Dt n m k,BT v l o z w q] h) λv l=>eB v (Bq lo n m k a i c y (Al (x+1)) j b g p G d H u J A P s n0 B n1 C l) (Bq lo n m k a i c y (Al (x+1)) j b g p G d H u J A P s n0 B n1 C l)))) (eO (ld h n m k 4) λv=>eC v λv l=>eS 6 v λv o z=>eC l λl w=>eS 5 l λl q t=>eC w λw e=>eS 9 w λw f D=>eC e λe E=>eS 5 e λe K L=>eN E (Ak (Af lo 78 [At v o z l q t w f D e K L] h) λv l=>eA v λv=>eC v λv o=>eS 6 v λv z w=>eC o λo q=>eS 5 o λo t e=>eC q λq f=>eS 9 q λq D E=>eC f λf K=>eS 5 f λf L M=>eN K (some ((At v z w o t e q D E f L M),l)))) :=
 lE
def CO lo a n c x y z h:=
 LA 29 Tryz.f29 2213111 0 1111 lo ⟨[(0,.sl 6 a n c),(1,Iv x),(4,Iv y),(5,Iv z)],[],h⟩
theorem P9 (hk:(br (decide (Al (x - (n:Int))<0)) (some (Iv (-1),h)) (CO h.length a n c (Al (x - (n:Int))) 0 0 h))=some (v,h')) (hn:noId v=true:=by rfl) :
  Af lo 29 [.sl 6 a n c,Iv x] h=some (v,h) :=
 eD Tryz.func29 hk hn
theorem CO.e :
  CO lo a n c y z x h=br (decide (x<(n:Int))) (An x n (eO a λv=>eO (ld h v.1 (v.2+x.toNat) 0 6) λv=>eC v λv l=>eI .i64 v λv=>eC l λl o=>eI .i64 l λl=>eC o λo s=>eI .i64 o λo=>eC s λs b=>eI .i64 s λs=>eC b λb u=>eT b λb=>eC u λu w=>eBv u λu=>eN w (Ak (Af lo 37 [BT v l o s b u,Iv y] h) λv l=>eI .i64 v λv=>br (decide (v<0)) (some (Iv (-1),l)) (CO lo a n c v z (Al (x+1)) l)))) (some (Iv y,h)) :=
 lE
def CN lo a n c b m p x h:=
 LA 30 Tryz.f30 221311 0 111 lo ⟨[(0,.sl 6 a n c),(3,.sl 6 b m p),(4,Iv x)],[],h⟩
theorem P8 (hk:(A8 (decide ((0:Int)<=(n:Int)/\(n:Int)<=(n:Int)/\(n:Int)<=140737488355328/\(n:Int)*((56:Nat):Int)<=281474976710656)) (CN lo a n c (some (h.length,0)) n (some n) 0 (h ++ [.rows 6 74 false (List.replicate n (PR 0 0 0 0 ⟨⟨[]⟩⟩ false))])))=some r) :
  Af lo 30 (Bc a n c) h=some r :=
 eK Tryz.func30 hk
theorem CN.e :
  CN lo b n p a m c x h=br (decide (x<(n:Int))) (An x n (eO b λv=>eO (ld h v.1 (v.2+x.toNat) 0 6) λv=>eC v λv l=>eI .i64 v λv=>eC l λl o=>eI .i64 l λl=>eC o λo s=>eI .i64 o λo=>eC s λs y=>eI .i64 s λs=>eC y λy z=>eT y λy=>eC z λz u=>eBv z λz=>eN u (Ak (Af lo 40 [BT v l o s y z] h) λv l=>eA v λv=>eC v λv o=>eI .i64 v λv=>eC o λo s=>eI .i64 o λo=>eC s λs y=>eI .i64 s λs=>eC y λy z=>eI .i64 y λy=>eC z λz u=>eT z λz=>eC u λu w=>eBv u λu=>eN w (An x m (eO a λw=>eO (st lo l w.1 (w.2+x.toNat) 0 (PR v o s y z u)) λv=>CN lo b n p a m c (Al (x+1)) v))))) (some (.sl 6 a m c,h)) :=
 lE
theorem Sf {e:Pq} (hk:(Ak (Af h.length 83 (Ij a n c A j C) h) λl o=>eB l (Ak (Af h.length 84 [.sl 5 b m p,.sl 5 B g D] o) λl x=>eB l (Ak (Af h.length 85 [.sl 9 d k u,.sl 9 a0 G c0] x) λl y=>eB l (Ak (Af h.length 86 [.sl 5 e i s,.sl 5 a1 H c1] y) λl z=>eB l (Cn z) (AD z)) (AD y)) (AD x)) (AD o))=some (v,h')) (hn:noId v=true:=by rfl) :
  Af lo 31 [At a n c b m p d k u e i s,At A j C B g D a0 G c0 a1 H c1] h=some (v,h) :=
 eD Tryz.func31 hk hn
def CT lo a n c b m p f x h:=
 LA 32 Tryz.f32 221311 0 111 lo ⟨[(0,.sl 6 a n c),(1,.sl 6 b m p),(4,.bool f),(5,Iv x)],[],h⟩
theorem Qg (hk:(br ((n:Int)==(m:Int)) (CT h.length a n c b m p false 0 h) (AD h))=some (v,h')) (hn:noId v=true:=by rfl) :
  Af lo 32 (Ij a n c b m p) h=some (v,h) :=
 eD Tryz.func32 hk hn
theorem CT.e :
  CT lo a n c b m p f x h=br (decide (x<(n:Int))) (An x n (eO a λv=>eO (ld h v.1 (v.2+x.toNat) 0 6) λv=>eC v λv l=>eI .i64 v λv=>eC l λl o=>eI .i64 l λl=>eC o λo s=>eI .i64 o λo=>eC s λs y=>eI .i64 s λs=>eC y λy z=>eT y λy=>eC z λz u=>eBv z λz=>eN u (An x m (eO b λu=>eO (ld h u.1 (u.2+x.toNat) 0 6) λu=>eC u λu w=>eI .i64 u λu=>eC w λw q=>eI .i64 w λw=>eC q λq g=>eI .i64 q λq=>eC g λg i=>eI .i64 g λg=>eC i λi j=>eT i λi=>eC j λj k=>eBv j λj=>eN k (Ak (Af lo 87 [BT v l o s y z,BT u w q g i j] h) λv l=>eB v (CT lo a n c b m p f (Al (x+1)) l) (AD l)))))) (Cn h) :=
 lE
def BA lo a n c x y h:=
 LA 33 Tryz.f33 22131 0 11 lo ⟨[(0,.sl 6 a n c),(1,Iv x),(5,Iv y)],[],h⟩
theorem NZ (hk:(BA lo a n c x 0 h)=some r) :
  Af lo 33 [.sl 6 a n c,Iv x] h=some r :=
 eK Tryz.func33 hk
theorem BA.e :
  BA lo a n c y x h=br (decide (x<(n:Int))) (An x n (eO a λv=>eO (st lo h v.1 (v.2+x.toNat) 0 (AN y)) λv=>An x n (eO a λl=>eO (st lo v l.1 (l.2+x.toNat) 1 (AN (Al (y+1)))) λv=>An x n (eO a λl=>eO (st lo v l.1 (l.2+x.toNat) 2 (AN (Al ((Al (y+1))+1)))) λv=>An x n (eO a λl=>eO (st lo v l.1 (l.2+x.toNat) 3 (AN (Al ((Al ((Al (y+1))+1))+1)))) λv=>Ak (Af lo 88 (AN (Al ((Al ((Al ((Al (y+1))+1))+1))+1))) v) λv l=>eT v λv=>An x n (eO a λo=>eO (st lo l o.1 (o.2+x.toNat) 4 [.str v]) λv=>br ((Al (Al (Al (Al (Al (y+(1:Int))+(1:Int))+(1:Int))+(1:Int))+(1:Int))).tmod (3:Int)==0) (An x n (eO a λl=>eO (st lo v l.1 (l.2+x.toNat) 5 [.bool true]) λl=>BA lo a n c (Al ((Al ((Al ((Al ((Al ((Al (y+1))+1))+1))+1))+1))+1)) (Al (x+1)) l)) (An x n (eO a λl=>eO (st lo v l.1 (l.2+x.toNat) 5 [.bool false]) λv=>BA lo a n c (Al ((Al ((Al ((Al ((Al ((Al (y+1))+1))+1))+1))+1))+1)) (Al (x+1)) v)))))))) (some (Iv y,h)) :=
 lE
theorem O0 {e:Pq} (hk:(Ak (Af lo 89 [.sl 6 a n c,Iv x] h) λv l=>eI .i64 v λv=>Ak (Af lo 90 [.sl 5 b m p,Iv v] l) λv l=>eI .i64 v λv=>Ak (Af lo 91 [.sl 9 d k u,Iv v] l) λv l=>eI .i64 v λv=>Ak (Af lo 92 [.sl 5 e i s,Iv v] l) λv l=>eI .i64 v λv=>some (Iv v,l))=some r) :
  Af lo 34 [At a n c b m p d k u e i s,Iv x] h=some r :=
 eK Tryz.func34 hk
theorem O5 {e:Pq} (hk:(Ak (Af h.length 93 [.sl 6 a n c,Iv x] h) λl o=>eI .i64 l λl=>br (decide (l<0)) (some (Iv (-1),o)) (Ak (Af h.length 94 [.sl 5 b m p,Iv l] o) λl o=>eI .i64 l λl=>br (decide (l<0)) (some (Iv (-1),o)) (Ak (Af h.length 95 [.sl 9 d k u,Iv l] o) λl o=>eI .i64 l λl=>br (decide (l<0)) (some (Iv (-1),o)) (Ak (Af h.length 96 [.sl 5 e i s,Iv l] o) λl o=>eI .i64 l λl=>br (decide (l<0)) (some (Iv (-1),o)) (some (Iv l,o))))))=some (v,h')) (hn:noId v=true:=by rfl) :
  Af lo 35 [At a n c b m p d k u e i s,Iv x] h=some (v,h) :=
 eD Tryz.func35 hk hn
theorem Se {w:Int} (hk:(br (decide (Al (x - (S.size:Int))<0)) (some (Iv (-1),h)) (some (Iv (Al (x - ((S.size:Int)))),h)))=some (v,h')) (hn:noId v=true:=by rfl) :
  Af lo 37 [BT y z t w S f,Iv x] h=some (v,h) :=
 eD Tryz.func37 hk hn
theorem Sd (hk:(some ((BT x y z t S f),h))=some (v,h')) (hn:noId v=true:=by rfl) :
  Af lo 40 [BT x y z t S f] h=some (v,h) :=
 eD Tryz.func40 hk hn
def HC lo n m k x i a j c b g p h:=
 LA 43 Tryz.f43 221311 0 111 lo ⟨[(0,(Dt n m k)),(2,.lp 2 0),(3,.lp 3 0),(4,Iv x)],[(2,[.sl i a j c]),(3,(Bb b g p))],h⟩
theorem HC.e :
  HC lo m k i x j b g p a n c h=br (decide (x<4)) (Ak (Af lo 109 [Dt m k i] h) λv l=>eA v λv=>eC v λv o=>eI .i64 v λv=>eC o λo s=>eI .i64 o λo=>eN s (An x n (eO a λs=>eO (st lo l s.1 (s.2+x.toNat) 0 (Bg v o)) λv=>HC lo m k i (Al (x+1)) j b g p a n c v))) (Ak (Af lo 44 [Dt m k i,Iv 10] h) λv l=>eI .i64 v λv=>br (v==0) (Aw a n c (some (Iv 1)) none none λo s y=>some ((Ap o s y),l)) (br (v==1) (Ak (Af lo 44 [Dt m k i,Iv 4] l) λv o=>eI .i64 v λv=>Ak (Af lo 110 [Dt m k i] o) λo s=>eA o λo=>eC o λo y=>eI .i64 o λo=>eC y λy z=>eI .i64 y λy=>eN z (An v n (eO a λz=>eO (st lo s z.1 (z.2+v.toNat) 0 (Bg o y)) λv=>some ((Ap a n c),v)))) (some ((Ap a n c),l)))) :=
 lE
theorem S8 (hk:(some ((Ap (some (h.length,0)) 4 (some 4)),(h ++ [.rows 2 36 false [Bg 0 0,Bg 0 0,Bg 0 0,Bg 0 0]])))=some r) :
  Af lo 45 [] h=some r :=
 eK Tryz.func45 hk
def Ie lo f x a n c h:=
 LA 46 Tryz.f46 22131 0 11 lo ⟨[(1,.lp 1 0),(2,.bool f),(3,Iv x)],[(1,(Bb a n c))],h⟩
def Id lo f x y a n c h:=
 Lp (X 46) lo (pf 2213123122131 Tryz.f46) 2 (AW 2 (kS (X 46) lo (pf 1123122131 Tryz.f46) 1 (AW 1 (kS (X 46) lo (pf 1122131 Tryz.f46) 0 (WL (X 46) lo (pf 22131 Tryz.f46) 0 (AW 0 (kS (X 46) lo (pf 11 Tryz.f46) 0 (J7 (X 46) Tryz.f46.results.toList)))))))) ⟨[(1,.lp 1 0),(2,.bool f),(3,Iv x),(4,Iv y)],[(1,(Bb a n c))],h⟩
theorem Ie.e :
  Ie lo f x a n c h=br (decide (x<(n:Int))) (An x n (eO a λv=>eO (ld h v.1 (v.2+x.toNat) 0 1) λv=>eC v λv l=>eS 6 v λv o s=>eN l (Ak (Af lo 111 [BS v o s] h) λv l=>eB v (An x n (eO a λv=>eO (ld l v.1 (v.2+x.toNat) 1 1) λv=>eC v λv o=>eN o (eS 6 v λv v o=>br (decide ((v:Int)>6)) (AD l) (Id lo f x 0 a n c l)))) (AD l)))) (Ak (Af lo 54 (C1 (n:Int) 1 4) h) λv l=>eB v (An (Al ((n:Int) - 1)) n (eO a λv=>eO (ld l v.1 (v.2+((Al ((n:Int) - (1:Int))).toNat)) 1 1) λv=>eC v λv o=>eN o (eS 6 v λv v o=>br ((v:Int)==0) (Cn l) (AD l)))) (AD l)) :=
 lE
theorem Id.e :
  Id lo f x y a n c h=An x n (eO a λv=>eO (ld h v.1 (v.2+x.toNat) 1 1) λv=>eC v λv l=>eN l (eS 6 v λv v l=>br (decide (y<(v:Int))) (An x n (eO a λv=>eO (ld h v.1 (v.2+x.toNat) 1 1) λv=>eC v λv l=>eN l (eS 6 v λv l o=>An y l (eO v λv=>eO (ld h v.1 (v.2+y.toNat) 0 6) λv=>eC v λv l=>eI .i64 v λv=>eC l λl o=>eI .i64 l λl=>eC o λo s=>eI .i64 o λo=>eC s λs b=>eS 2 s λs z u=>eC b λb w=>eT b λb=>eC w λw p=>eBv w λw=>eN p (Ak (Af lo 112 [AC v l o s z u b w] h) λv l=>eB v (Id lo f x (Al (y+1)) a n c l) (AD l)))))) (br (decide (Al (x+(1:Int))<(n:Int))) (An x n (eO a λv=>eO (ld h v.1 (v.2+x.toNat) 0 2) λv=>eC v λv l=>eS 6 v λv o s=>eC l λl b=>eS 6 l λl z u=>eN b (An (Al (x+1)) n (eO a λb=>eO (ld h b.1 (b.2+((Al (x+(1:Int))).toNat)) 0 2) λb=>eC b λb w=>eS 6 b λb p q=>eC w λw g=>eS 6 w λw i j=>eN g (Ak (Af lo 113 [KS v o s l z u,KS b p q w i j] h) λv l=>eB v (Ie lo f (Al (x+1)) a n c l) (AD l)))))) (Ie lo f (Al (x+1)) a n c h)))) :=
 lE
theorem P3 (hk:(An (Al ((n:Int) - 1)) n (eO a λv=>eO (ld h v.1 (v.2+((Al ((n:Int) - (1:Int))).toNat)) 0 1) λv=>eC v λv l=>eS 6 v λv o s=>eN l (Ak (Af lo 114 [BS v o s] h) λv l=>eA v λv=>eC v λv o=>eS 2 v λv s b=>eN o (some ((Ap v s b),l)))))=some r) :
  Af lo 47 [Ap a n c] h=some r :=
 eK Tryz.func47 hk
theorem MP (hk:(Ak (Af lo 116 [AC x y z a i c S f] h) λv l=>eB v (Ak (Af l.length 66 [Dt n m (k+2)] l) λv o=>eA v λv=>eC v λv s=>eS 6 v λv b u=>eN s (Ak (Af o.length 67 [BS v b u] o) λv o=>eA v λv=>eC v λv s=>eS 2 v λv b u=>eN s (Ak (Af lo 69 [Ap a i c,Ap v b u] o) λv o=>eB v (Ak (Af lo 117 [Dt n m (k+2),Iv 0] o) λv s=>eB v (some ((Ar 0 0),s)) (eO (ld s n m (k+3) 1) λv=>eC v λv b=>eN b (eS 6 v λv v b=>br (decide ((v:Int)>=36)) (some ((Ar 0 0),s)) (eO (ld s n m (k+1) 1) λv=>eC v λv b=>eN b (eI .i64 v λv=>Ak (Af s.length 118 [Ap a i c] s) λs b=>eI .i64 s λs=>br (decide (Al ((if s>v then s else v)+(1:Int))>999)) (some ((Ar 0 0),b)) (eO (ld b n m (k+0) 1) λu=>eC u λu w=>eN w (eI .i64 u λu=>eO (st lo b n m (k+1) (AN (Al ((if s>v then s else v)+1)))) λb=>Ak (Af lo 119 [Dt n m (k+2),AC x (Al ((if s>v then s else v)+1)) u a i c S f] b) λb w=>eB b (Ak (Af lo 120 [Dt n m k] w) λb p=>eU b λb=>eN b (some ((Ar (Al ((if s>v then s else v)+1)) u),p))) (Ak (Af lo 120 [Dt n m k] w) λb w=>eU b λb=>eN b (some ((Ar (Al ((if s>v then s else v)+1)) u),w)))))))))) (some ((Ar 0 0),o))))) (some ((Ar 0 0),l)))=some r) :
  Af lo 52 [Dt n m k,AC x y z a i c S f] h=some r :=
 eK Tryz.func52 hk
def Ic lo f x y z a n c b m p d k u F h:=
 LA 53 Tryz.f53 221311 0 111 lo ⟨[(1,.lp 1 0),(2,.bool f),(3,Iv x)],[(1,(Du y z a n c b m p d k u F))],h⟩
def Ib lo f x y z a n c b m p d k u F e i s h:=
 LA 53 Tryz.f53 22131111 2 11111 lo ⟨[(1,.lp 1 0),(2,.bool f),(4,.lp 4 0),(5,Iv x)],[(1,(Du y z a n c b m p d k u F)),(4,(Bc e i s))],h⟩
theorem Ic.e :
  Ic lo f x y z b m c d k p a n u F h=br (decide (x<3)) (An x n (eO a λv=>eO (ld h v.1 (v.2+x.toNat) 0 1) λv=>eC v λv l=>eN l (eS 6 v λv l o=>Ak (Af lo 122 [.sl 6 v l o,Iv x] h) λv l=>eB v (br (x==y) (An x n (eO a λv=>eO (ld l v.1 (v.2+x.toNat) 0 1) λv=>eC v λv o=>eN o (eS 6 v λv v o=>br (decide ((v:Int)>0)) (AD l) (Ic lo f (Al (x+1)) y z b m c d k p a n u F l)))) (Ic lo f (Al (x+1)) y z b m c d k p a n u F l)) (AD l)))) (An 0 m (eO b λv=>eO (ld h v.1 (v.2+0) 0 1) λv=>eC v λv l=>eS 6 v λv o s=>eN l (Ib lo f 0 y z b m c d k p a n u F v o s h))) :=
 lE
theorem Ib.e :
  Ib lo f x z y b m c d k p A i u F a n s h=br (decide (x<4)) (An x n (eO a λv=>eO (ld h v.1 (v.2+x.toNat) 1 1) λv=>eC v λv l=>eN l (eI .i64 v λv=>br (decide (v>y)) (AD h) (Ib lo f (Al (x+1)) z y b m c d k p A i u F a n s h)))) (Cn h) :=
 lE
theorem WK (hk:(br (decide (x>=y)) (br (decide (x<=z)) (Cn h) (AD h)) (AD h))=some (v,h')) (hn:noId v=true:=by rfl) :
  Af lo 54 (C1 x y z) h=some (v,h) :=
 eD Tryz.func54 hk hn
def CK lo S f x h:=
 LA 55 Tryz.f55 22131 0 11 lo ⟨[(0,.str S),(2,.bool f),(3,Iv x)],[],h⟩
theorem P4 (hk:(CK h.length S false 0 h)=some (v,h')) (hn:noId v=true:=by rfl) :
  Af lo 55 [.str S] h=some (v,h) :=
 eD Tryz.func55 hk hn
theorem CK.e :
  CK lo S f x h=br (decide (x<(S.size:Int))) (eO (Pk S x) λv=>br (decide ((v.toNat:Int)<33)) (AD h) (eO (Pk S x) λv=>br (decide ((v.toNat:Int)>126)) (AD h) (CK lo S f (Al (x+1)) h))) (br (decide ((S.size:Int)<=8)) (Cn h) (AD h)) :=
 lE
def GV lo f x a n c h:=
 LA 56 Tryz.f56 22131 0 11 lo ⟨[(1,.lp 1 0),(2,.bool f),(3,Iv x)],[(1,(Bb a n c))],h⟩
theorem GV.e :
  GV lo f x a n c h=br (decide (x<(n:Int))) (An x n (eO a λv=>eO (ld h v.1 (v.2+x.toNat) 0 2) λv=>eC v λv l=>eI .i64 v λv=>eC l λl o=>eI .i64 l λl=>eN o (Ak (Af lo 123 [Ar v l] h) λv l=>eB v (GV lo f (Al (x+1)) a n c l) (AD l)))) (br ((n:Int)==4) (Cn h) (AD h)) :=
 lE
theorem Ve {e:Pq} (hk:(Ak (Af h.length 47 [Ap a n c] h) λl o=>eA l λl=>eC l λl z=>eS 2 l λl w q=>eN z (Ak (Af h.length 124 [Ap b k p,Ap l w q] o) λl o=>eB l (Ak (Af h.length 125 [Ap a n c] o) λl z=>eB l (Ak (Af h.length 126 [Br x y a n c d m u e i s f,Ap b k p] z) λl w=>eI .i64 l λl=>br (decide (l<=999)) (br (decide ((m:Int)<36)) (Cn w) (AD w)) (AD w)) (AD z)) (AD o)))=some (v,h')) (hn:noId v=true:=by rfl) :
  Af lo 57 [Br x y a n c d m u e i s f,Ap b k p] h=some (v,h) :=
 eD Tryz.func57 hk hn
def It lo x y z a n c b m p d k u f t w i e j s g A G C H B J D F q M a0 P c0 a1 n0 c1 n1 a2 n2 c2 b0 h:=
 LA 58 Tryz.f58 221311 0 111 lo ⟨[(1,.lp 1 0),(2,.lp 2 0),(3,.lp 3 0),(4,Iv x)],[(1,(Du y z a n c b m p d k u f)),(2,[Iv t,Iv w,.sl i e j s,.sl g A G C,.sl H B J D,.bool F]),(3,[Iv q,Iv M,.sl 2 a0 P c0,.sl 6 a1 n0 c1,.sl n1 a2 n2 c2,.bool b0])],h⟩
theorem It.e {lo g G n H J P n0 n1 n2 m k i j:Nat}{x t w q M y z:Int}{B a0 a a1 a2 a3 b d A:Pq}{s C D c0 c1 c2 c p u:Nq}{F b0 f:Bool}{h:Heap} :
  It lo x t w B g s a0 G C a n D F q M H a1 J c0 P a2 n0 c1 n1 a3 n2 c2 b0 y z b m c d k p i A j u f h=br (decide (x<(n:Int))) (An x n (eO a λv=>eO (ld h v.1 (v.2+x.toNat) 0 1) λv=>eC v λv l=>eN l (eS 6 v λv l o=>Ak (Af lo 128 (Bc v l o) h) λv l=>eS 6 v λv o e=>As 1 (l ++ [.rows 1 26 false [Bc v o e]]) (.sl 1 (some (l.length,0)) 1 (some 1)) λE=>Dv lo 26 1 24 (.sl i A j u) E (l ++ [.rows 1 26 false [Bc v o e]]) λv l=>eS 1 v λv o e=>It lo (Al (x+1)) t w B g s a0 G C a n D F q M H a1 J c0 P a2 n0 c1 n1 a3 n2 c2 b0 y z b m c d k p 1 v o e f l))) (some (.agg [Iv y,Iv z,.sl 2 b m c,.sl 6 d k p,.sl i A j u,.bool f],h)) :=
 lE
theorem Sa {e:Pq} (hk:(Ak (Af h.length 126 [Br x y a n c b m p d k u f,Ap e i s] h) λv l=>eI .i64 v λv=>As 2 (l ++ [.rows 2 36 false []]) (.sl 2 e i s) λo=>Dv (List.length (l ++ [.rows 2 36 false []])) 36 2 16 (.sl 2 (some (l.length,0)) 0 (some 0)) o (l ++ [.rows 2 36 false []]) λl o=>eS 2 l λl w q=>Ak (Af lo 129 [Ap a n c,Iv 0,AC z v x l w q S F] o) λl o=>eA l λl=>eC l λl w=>eS 2 l λl q g=>eN w (Ak (Af lo 130 [Br x v l q g b m p d k u f] o) λl o=>eA l λl=>eC l λl w=>eI .i64 l λl=>eC w λw q=>eI .i64 w λw=>eC q λq g=>eS 2 q λq j t=>eC g λg A=>eS 6 g λg B C=>eC A λA D=>eS 1 A λA E G=>eC D λD H=>eBv D λD=>eN H (some (.tup [Br l w q j t g B C A E G D,Ar v x],o))))=some r) :
  Af lo 59 [Br x y a n c b m p d k u f,Iv z,.str S,.bool F,Ap e i s] h=some r :=
 eK Tryz.func59 hk
def HN lo f x a n c b m p h:=
 LA 60 Tryz.f60 221311 0 111 lo ⟨[(2,.lp 2 0),(3,.lp 3 0),(4,.bool f),(5,Iv x)],[(2,(Bb a n c)),(3,(Bb b m p))],h⟩
theorem HN.e :
  HN lo f x a n c b m p h=br (decide (x<(n:Int))) (An x n (eO a λv=>eO (ld h v.1 (v.2+x.toNat) 0 1) λv=>eC v λv l=>eS 6 v λv o s=>eN l (An x m (eO b λl=>eO (ld h l.1 (l.2+x.toNat) 0 1) λl=>eC l λl y=>eS 6 l λl z u=>eN y (Ak (Af lo 131 [BS v o s,BS l z u] h) λv l=>eB v (An x n (eO a λv=>eO (ld l v.1 (v.2+x.toNat) 1 1) λv=>eC v λv o=>eN o (eS 6 v λv o s=>An x m (eO b λy=>eO (ld l y.1 (y.2+x.toNat) 1 1) λy=>eC y λy z=>eN z (eS 6 y λy z u=>Ak (Af lo 61 (Ij v o s y z u) l) λv o=>eB v (HN lo f (Al (x+1)) a n c b m p o) (AD o)))))) (AD l)))))) (Cn h) :=
 lE
def IB lo a n c b m p f x h:=
 LA 61 Tryz.f61 221311 0 111 lo ⟨[(0,.sl 6 a n c),(1,.sl 6 b m p),(4,.bool f),(5,Iv x)],[],h⟩
theorem IB.e {lo n m:Nat}{a b:Pq}{c p:Nq}{f:Bool}{x:Int}{h:Heap} :
  IB lo a n c b m p f x h=br (decide (x<(n:Int))) (An x n (eO a λv=>eO (ld h v.1 (v.2+x.toNat) 0 6) λv=>eC v λv l=>eI .i64 v λv=>eC l λl o=>eI .i64 l λl=>eC o λo s=>eI .i64 o λo=>eC s λs y=>eS 2 s λs z u=>eC y λy w=>eT y λy=>eC w λw q=>eBv w λw=>eN q (An x m (eO b λq=>eO (ld h q.1 (q.2+x.toNat) 0 6) λq=>eC q λq g=>eI .i64 q λq=>eC g λg i=>eI .i64 g λg=>eC i λi j=>eI .i64 i λi=>eC j λj k=>eS 2 j λj t d=>eC k λk e=>eT k λk=>eC e λe A=>eBv e λe=>eN A (Ak (Af lo 73 [AC v l o s z u y w,AC q g i j t d k e] h) λv l=>eB v (IB lo a n c b m p f (Al (x+1)) l) (AD l)))))) (Cn h) :=
 lE
theorem Sr (hk:(Ak (Af h.length 63 (C1 x 0 2) h) λl c=>eB l (Cn c) (AD c))=some (v,h')) (hn:noId v=true:=by rfl) :
  Af lo 62 (AN x) h=some (v,h) :=
 eD Tryz.func62 hk hn
theorem Th (hk:(br (decide (x>=y)) (br (decide (x<=z)) (Cn h) (AD h)) (AD h))=some (v,h')) (hn:noId v=true:=by rfl) :
  Af lo 63 (C1 x y z) h=some (v,h) :=
 eD Tryz.func63 hk hn
def HQ lo f a n c x y b m p h:=
 LA 64 Tryz.f64 221311 0 111 lo ⟨[(1,.lp 1 0),(2,.bool f),(13,.sl 2 a n c),(14,Iv x),(15,Iv y)],[(1,(Bb b m p))],h⟩
def C9 lo f a n c x y b m p h:=
 LA 64 Tryz.f64 2213111 2 1111 lo ⟨[(1,.lp 1 0),(2,.bool f),(36,.sl 2 a n c),(37,Iv x),(38,Iv y)],[(1,(Bb b m p))],h⟩
theorem HQ.e :
  HQ lo f b m p y x a n c h=br (decide (x<y)) (An x m (eO b λv=>eO (ld h v.1 (v.2+x.toNat) 0 2) λv=>eC v λv l=>eS 6 v λv o s=>eC l λl z=>eS 6 l λl u w=>eN z (Ak (Af lo 79 [BS v o s] h) λv o=>eB v (br (decide ((u:Int)>6)) (AD o) (Ak (Af lo 80 [.sl 6 l u w,.fn 133 []] o) λv l=>eB v (AD l) (HQ lo f b m p y (Al (x+1)) a n c l))) (AD o)))) (C9 lo f a n c (n:Int) 0 a n c h) :=
 lE
theorem C9.e :
  C9 lo f b m p y x a n c h=br (decide (x<y)) (An x m (eO b λv=>eO (ld h v.1 (v.2+x.toNat) 0 2) λv=>eC v λv l=>eS 6 v λv o s=>eC l λl z=>eS 6 l λl u w=>eN z (Ak (Af lo 135 [Ap a n c,Iv x] h) λz q=>eB z (br (decide ((u:Int)>0)) (AD q) (Ak (Af lo 135 [Ap a n c,Iv x] q) λz g=>eB z (C9 lo f b m p y (Al (x+1)) a n c g) (An (Al (x+1)) n (eO a λz=>eO (ld g z.1 (z.2+((Al (x+(1:Int))).toNat)) 0 1) λz=>eC z λz i=>eS 6 z λz j k=>eN i (Ak (Af lo 136 [KS v o s l u w,BS z j k] g) λz g=>eB z (C9 lo f b m p y (Al (x+1)) a n c g) (AD g)))))) (Ak (Af lo 135 [Ap a n c,Iv x] q) λz q=>eB z (C9 lo f b m p y (Al (x+1)) a n c q) (An (Al (x+1)) n (eO a λz=>eO (ld q z.1 (z.2+((Al (x+(1:Int))).toNat)) 0 1) λz=>eC z λz g=>eS 6 z λz i j=>eN g (Ak (Af lo 136 [KS v o s l u w,BS z i j] q) λv l=>eB v (C9 lo f b m p y (Al (x+1)) a n c l) (AD l)))))))) (Cn h) :=
 lE
def Jl lo a n c x f b m p y z h:=
 LA 65 Tryz.f65 22131 0 11 lo ⟨[(0,.sl 6 a n c),(1,Iv x),(4,.bool f),(7,.sl 6 b m p),(8,Iv y),(9,Iv z)],[],h⟩
theorem Jl.e :
  Jl lo a n c y f b m p z x h=br (decide (x<z)) (An x m (eO b λv=>eO (ld h v.1 (v.2+x.toNat) 0 6) λv=>eC v λv l=>eI .i64 v λv=>eC l λl o=>eI .i64 l λl=>eC o λo s=>eI .i64 o λo=>eC s λs u=>eS 2 s λs w q=>eC u λu g=>eT u λu=>eC g λg i=>eBv g λg=>eN i (Ak (Af lo 134 [AC v l o s w q u g] h) λv s=>eB v (br (o==y) (Aw a n c none (some (Iv x)) none λv u w=>Ak (Af lo 137 [.sl 6 v u w,Ar l o] s) λv l=>eB v (AD l) (Jl lo a n c y f b m p z (Al (x+1)) l)) (AD s)) (AD s)))) (br (decide ((n:Int)<=60)) (Cn h) (AD h)) :=
 lE
theorem Oa (hk:(eO (ld h n m (k+0) 1) λv=>eC v λv l=>eN l (eS 2 v λv l c=>eO (ld h n m (k+0) 1) λc=>eC c λc a=>eN a (eS 2 c λc c a=>An (Al ((c:Int) - 1)) l (eO v λv=>eO (ld h v.1 (v.2+((Al ((c:Int) - (1:Int))).toNat)) 0 1) λv=>eC v λv l=>eS 6 v λv c a=>eN l (some ((BS v c a),h))))))=some r) :
  Af lo 66 [Dt n m k] h=some r :=
 eK Tryz.func66 hk
def Cb lo a n c x y m b k p d i u h:=
 LA 67 Tryz.f67 221311 0 111 lo ⟨[(2,.lp 2 0),(3,.lp 3 0),(8,.sl 6 a n c),(9,Iv x),(10,Iv y)],[(2,[.sl m b k p]),(3,(Bb d i u))],h⟩
theorem N5 (hk:(Ak (Af lo 138 [] h) λv l=>eA v λv=>eC v λv o=>eS 2 v λv s b=>eN o (Cb lo a n c (n:Int) 0 0 none 0 (some 0) v s b l))=some r) :
  Af lo 67 [BS a n c] h=some r :=
 eK Tryz.func67 hk
theorem Cb.e :
  Cb lo b m p y x k d i u a n c h=br (decide (x<y)) (An x m (eO b λv=>eO (ld h v.1 (v.2+x.toNat) 0 6) λv=>eC v λv l=>eI .i64 v λv=>eC l λv l=>eI .i64 v λv=>eC l λl o=>eI .i64 l λl=>eC o λo s=>eS 2 o λo o o=>eC s λo s=>eT o λo=>eC s λo s=>eBv o λo=>eN s (An x n (eO a λo=>eO (st lo h o.1 (o.2+x.toNat) 0 (Bg v l)) λv=>Cb lo b m p y (Al (x+1)) k d i u a n c v)))) (some ((Ap a n c),h)) :=
 lE
def Cl lo a n c x b m p y z h:=
 LA 68 Tryz.f68 221311 0 111 lo ⟨[(0,.sl 1 a n c),(3,Iv x),(9,.sl 1 b m p),(10,Iv y),(11,Iv z)],[],h⟩
def Bh lo a n c b m p x y h:=
 LA 68 Tryz.f68 22131111 2 11111 lo ⟨[(6,.sl 6 a n c),(25,.sl 1 b m p),(26,Iv x),(27,Iv y)],[],h⟩
theorem Cl.e :
  Cl lo a n c y b m p z x h=br (decide (x<z)) (An x m (eO b λv=>eO (ld h v.1 (v.2+x.toNat) 0 1) λv=>eC v λv l=>eN l (eS 6 v λv v l=>br (decide (Al (y+(v:Int))<0)) none (Cl lo a n c (Al (y+(v:Int))) b m p z (Al (x+1)) h)))) (Ak (Af lo 139 [.sl 0 none 0 (some 0),Iv y] h) λv l=>eS 6 v λv o s=>Bh lo v o s a n c (n:Int) 0 l) :=
 lE
theorem Bh.e :
  Bh lo a n c b m p y x h=br (decide (x<y)) (An x m (eO b λv=>eO (ld h v.1 (v.2+x.toNat) 0 1) λv=>eC v λv l=>eN l (eS 6 v λv l o=>As 6 h (.sl 6 v l o) λv=>Dv lo 43 6 72 (.sl 6 a n c) v h λv l=>eS 6 v λv o s=>Bh lo v o s b m p y (Al (x+1)) l))) (some (.sl 6 a n c,h)) :=
 lE
def Cc lo f a n c x y b m p h:=
 LA 69 Tryz.f69 22131 0 11 lo ⟨[(3,.lp 3 0),(4,.bool f),(8,.sl 2 a n c),(9,Iv x),(10,Iv y)],[(3,(Bb b m p))],h⟩
theorem N9 (hk:(Cc h.length false a n c (n:Int) 0 b m p h)=some (v,h')) (hn:noId v=true:=by rfl) :
  Af lo 69 [Ap a n c,Ap b m p] h=some (v,h) :=
 eD Tryz.func69 hk hn
theorem Cc.e :
  Cc lo f a n c y x b m p h=br (decide (x<y)) (An x n (eO a λv=>eO (ld h v.1 (v.2+x.toNat) 0 2) λv=>eC v λv l=>eI .i64 v λv=>eC l λl o=>eI .i64 l λl=>eN o (An x m (eO b λo=>eO (ld h o.1 (o.2+x.toNat) 0 2) λo=>eC o λo s=>eI .i64 o λo=>eC s λs z=>eI .i64 s λs=>eN z (Ak (Af lo 15 [Ar o s,Ar v l] h) λv l=>eB v (AD l) (Cc lo f a n c y (Al (x+1)) b m p l)))))) (Cn h) :=
 lE
theorem MN (hk:(Ak (Af h.length 141 (Bg x z) h) λl c=>eI .i64 l λl=>Ak (Af h.length 141 (Bg y t) c) λc n=>eI .i64 c λc=>Ak (Af h.length 140 [.sl 1 (some (n.length,0)) 2 (some 2)] (n ++ [.rows 1 3 false [AN l,AN c]])) λl c=>eI .i64 l λl=>some (Iv l,c))=some (v,h')) (hn:noId v=true:=by rfl) :
  Af lo 70 [Ar x y,Ar z t] h=some (v,h) :=
 eD Tryz.func70 hk hn
theorem Tl (hk:(br ((n:Int)==4) (Ak (Af h.length 142 [.sl 2 a n c,.fn 143 []] h) λl o=>eB l (AD o) (Cn o)) (AD h))=some (v,h')) (hn:noId v=true:=by rfl) :
  Af lo 71 [Ap a n c] h=some (v,h) :=
 eD Tryz.func71 hk hn
def Cp lo a n c x m b k p i d j u g e G s H A J C B P D a0 n0 c0 a1 n1 c1 a2 n2 c2 h:=
 LA 74 Tryz.f74 221311 0 111 lo ⟨[(2,.sl 6 a n c),(6,.lp 6 0),(7,.lp 7 0),(8,Iv x)],[(6,[.sl m b k p,.sl i d j u,.sl g e G s,.sl H A J C]),(7,(DW B P D a0 n0 c0 a1 n1 c1 a2 n2 c2))],h⟩
theorem ST (hk:(Ak (Af lo 146 (Bg x y) h) λv l=>eA v λv=>eC v λv o=>eS 6 v λv s b=>eC o λo z=>eS 5 o λo u w=>eC z λz p=>eS 9 z λz q g=>eC p λp i=>eS 5 p λp j k=>eN i (Cp lo a n c 0 0 none 0 (some 0) 0 none 0 (some 0) 0 none 0 (some 0) 0 none 0 (some 0) v s b o u w z q g p j k l))=some r) :
  Af lo 74 [Iv x,Iv y,.sl 6 a n c] h=some r :=
 eK Tryz.func74 hk
theorem Cp.e {lo n g G H J P n0 n1 n2 m k i j:Nat}{a a0 a1 a2 a3 b d A B:Pq}{C D c0 c1 c2 c p u s:Nq}{x:Int}{h:Heap} :
  Cp lo a n C x g a0 G D H a1 J c0 P a2 n0 c1 n1 a3 n2 c2 b m c d k p A i u B j s h=br (decide (x<(n:Int))) (br (decide (x<60)) (An x n (eO a λv=>eO (ld h v.1 (v.2+x.toNat) 0 6) λv=>eC v λv l=>eI .i64 v λv=>eC l λl o=>eI .i64 l λl=>eC o λo y=>eI .i64 o λo=>eC y λy z=>eI .i64 y λy=>eC z λz w=>eT z λz=>eC w λw q=>eBv w λw=>eN q (Ak (Af lo 102 [At b m c d k p A i u B j s,BT v l o y z w] h) λv l=>eU v λv=>eC v λv o=>eA v λv=>eC v λv y=>eS 6 v λv z w=>eC y λy q=>eS 5 y λy t e=>eC q λq f=>eS 9 q λq E K=>eC f λf L=>eS 5 f λf M N=>eN L (eC o λo L=>eB o (eN L (Cp lo a n C (Al (x+1)) g a0 G D H a1 J c0 P a2 n0 c1 n1 a3 n2 c2 v z w y t e q E K f M N l)) (eN L (Cp lo a n C (Al (x+1)) g a0 G D H a1 J c0 P a2 n0 c1 n1 a3 n2 c2 v z w y t e q E K f M N l)))))) (some ((At b m c d k p A i u B j s),h))) (some ((At b m c d k p A i u B j s),h)) :=
 lE
theorem Pa (hk:(Ak (Af h.length 132 (AN x) h) λl c=>eB l (Ak (Af h.length 63 (C1 y 0 4) c) λl n=>eB l (Cn n) (AD n)) (AD c))=some (v,h')) (hn:noId v=true:=by rfl) :
  Af lo 75 (Bg x y) h=some (v,h) :=
 eD Tryz.func75 hk hn
def CV lo x y z n a m c k b i p j d g u G e H s A J C B P D n0 a0 n1 c0 n2 a1 n3 c1 h:=
 LA 76 Tryz.f76 221311 0 111 lo ⟨[(0,Iv x),(1,Iv y),(4,.lp 4 0),(5,.lp 5 0),(12,Iv z)],[(4,[.sl n a m c,.sl k b i p,.sl j d g u,.sl G e H s]),(5,[.sl 6 A J C,.sl 5 B P D,.sl n0 a0 n1 c0,.sl n2 a1 n3 c1])],h⟩
def CU lo x y n a m c k b i p j d g u G e H s A J C B P D n0 a0 n1 c0 n2 a1 n3 c1 h:=
 LA 76 Tryz.f76 2213111 2 1111 lo ⟨[(4,.lp 4 0),(5,.lp 5 0),(24,Iv x),(25,Iv y)],[(4,[.sl n a m c,.sl k b i p,.sl j d g u,.sl G e H s]),(5,[.sl 6 A J C,.sl 5 B P D,.sl n0 a0 n1 c0,.sl n2 a1 n3 c1])],h⟩
theorem Qh (hk:(A8 (decide ((0:Int)<=0/\(0:Int)<=x/\x<=140737488355328/\x*((56:Nat):Int)<=281474976710656)) (CV lo y x 0 0 none 0 (some 0) 0 none 0 (some 0) 0 none 0 (some 0) 0 none 0 (some 0) (some (h.length,0)) 0 (some 3) (some ((List.length (h ++ [.rows 6 29 false [[Iv 0,Iv 0,.sl 0 none 0 (some 0),.sl 0 none 0 (some 0),.sl 0 none 0 (some 0),.bool false],[Iv 0,Iv 0,.sl 0 none 0 (some 0),.sl 0 none 0 (some 0),.sl 0 none 0 (some 0),.bool false],[Iv 0,Iv 0,.sl 0 none 0 (some 0),.sl 0 none 0 (some 0),.sl 0 none 0 (some 0),.bool false]]])),0)) 0 (some x.toNat) 0 none 0 (some 0) 0 none 0 (some 0) ((h ++ [.rows 6 29 false [[Iv 0,Iv 0,.sl 0 none 0 (some 0),.sl 0 none 0 (some 0),.sl 0 none 0 (some 0),.bool false],[Iv 0,Iv 0,.sl 0 none 0 (some 0),.sl 0 none 0 (some 0),.sl 0 none 0 (some 0),.bool false],[Iv 0,Iv 0,.sl 0 none 0 (some 0),.sl 0 none 0 (some 0),.sl 0 none 0 (some 0),.bool false]]]) ++ [.rows 5 66 false (List.replicate x.toNat [Iv 0,.sl 0 none 0 (some 0),Iv 0,Iv 0,Iv 0])])))=some r) :
  Af lo 76 (Bg y x) h=some r :=
 eK Tryz.func76 hk
theorem CV.e {lo n m k i j g G H J P n0 n1 n2 n3:Nat}{y z x:Int}{a b d A B a0 a1 a2:Pq}{c p u s C D c0 c1:Nq}{h:Heap} :
  CV lo y z x n a m c k b i p j d g u G A H s B J C a0 P D n0 a1 n1 c0 n2 a2 n3 c1 h=br (decide (x<3)) (Ak (Af lo 147 (Bg x y) h) λv l=>eA v λv=>eC v λv o=>eI .i64 v λv=>eC o λo w=>eI .i64 o λo=>eC w λw q=>eS 2 w λw t e=>eC q λq f=>eS 6 q λq E K=>eC f λf L=>eS 1 f λf M N=>eC L λL O=>eBv L λL=>eN O (As 6 (l ++ [.rows 6 29 false [Du v o w t e q E K f M N L]]) (.sl 6 (some (l.length,0)) 1 (some 1)) λO=>Dv lo 29 6 96 (.sl 6 B J C) O (l ++ [.rows 6 29 false [Du v o w t e q E K f M N L]]) λv l=>eS 6 v λv o w=>CV lo y z (Al (x+1)) n a m c k b i p j d g u G A H s v o w a0 P D n0 a1 n1 c0 n2 a2 n3 c1 l)) (CU lo z 0 n a m c k b i p j d g u G A H s B J C a0 P D n0 a1 n1 c0 n2 a2 n3 c1 h) :=
 lE
theorem CU.e {P n3:Nat} :
  CU lo y x G B H C J a0 P D n0 a1 n1 c0 n2 a2 n3 c1 a n c b m p k d i u j A g s h=br (decide (x<y)) (Ak (Af lo 138 [] h) λv l=>eA v λv=>eC v λv o=>eS 2 v λv z w=>eN o (As 5 (l ++ [.rows 5 66 false [NR (x.tmod (3:Int)) v z w 0 0 0]]) (.sl 5 (some (l.length,0)) 1 (some 1)) λo=>Dv lo 66 5 56 (.sl 5 b m p) o (l ++ [.rows 5 66 false [NR (x.tmod (3:Int)) v z w 0 0 0]]) λv l=>eS 5 v λv o z=>CU lo y (Al (x+1)) G B H C J a0 P D n0 a1 n1 c0 n2 a2 n3 c1 a n c v o z k d i u j A g s l)) (some (.agg [.sl 6 a n c,.sl 5 b m p,.sl k d i u,.sl j A g s],h)) :=
 lE
theorem Qj (hk:(Ak (Af lo 63 (C1 x 1 5) h) λv l=>eB v (Ak (Af lo 148 [Dt n m k,BT x y z t S f] l) λv c=>eB v (Cn c) (AD c)) (Ak (Af lo 63 (C1 x 6 10) l) λv l=>eB v (Ak (Af lo 149 [Dt n m k,BT x y z t S f] l) λv c=>eB v (Cn c) (AD c)) (Ak (Af lo 63 (C1 x 11 13) l) λv l=>eB v (Ak (Af lo 150 [Dt n m k,BT x y z t S f] l) λv c=>eB v (Cn c) (AD c)) (AD l))))=some r) :
  Af lo 77 [Dt n m k,BT x y z t S f] h=some r :=
 eK Tryz.func77 hk
def BI lo a n c x y b m p d k u e i s A j C g B G D H a0 J c0 P a1 n0 c1 n1 a2 n2 c2 a3 n3 c3 a4 n4 c4 a5 n5 c5 a6 n6 c6 h:=
 LA 78 Tryz.f78 221311 0 111 lo ⟨[(1,.lp 1 0),(2,.lp 2 0),(3,.lp 3 0),(28,.sl 6 a n c),(29,Iv x),(30,Iv y)],[(1,(DW b m p d k u e i s A j C)),(2,[.sl g B G D,.sl H a0 J c0,.sl P a1 n0 c1,.sl n1 a2 n2 c2]),(3,(DW a3 n3 c3 a4 n4 c4 a5 n5 c5 a6 n6 c6))],h⟩
def BH lo a n c x y b m p d k u e i s A j C g B G D H a0 J c0 P a1 n0 c1 n1 a2 n2 c2 a3 n3 c3 a4 n4 c4 a5 n5 c5 a6 n6 c6 h:=
 LA 78 Tryz.f78 2213111 2 1111 lo ⟨[(1,.lp 1 0),(2,.lp 2 0),(3,.lp 3 0),(43,.sl 5 a n c),(44,Iv x),(45,Iv y)],[(1,(DW b m p d k u e i s A j C)),(2,[.sl g B G D,.sl H a0 J c0,.sl P a1 n0 c1,.sl n1 a2 n2 c2]),(3,(DW a3 n3 c3 a4 n4 c4 a5 n5 c5 a6 n6 c6))],h⟩
def BG lo a n c x y m b k p i d j u g e G s H A J C B P D a0 n0 c0 a1 n1 c1 a2 n2 c2 h:=
 LA 78 Tryz.f78 22131111 4 11111 lo ⟨[(2,.lp 2 0),(3,.lp 3 0),(61,.sl 9 a n c),(62,Iv x),(63,Iv y)],[(2,[.sl m b k p,.sl i d j u,.sl g e G s,.sl H A J C]),(3,(DW B P D a0 n0 c0 a1 n1 c1 a2 n2 c2))],h⟩
theorem L5 {e:Pq} (hk:(A8 (decide ((0:Int)<=0/\(0:Int)<=(n:Int)/\(n:Int)<=140737488355328/\(n:Int)*((96:Nat):Int)<=281474976710656)) (A8 (decide ((0:Int)<=0/\(0:Int)<=(m:Int)/\(m:Int)<=140737488355328/\(m:Int)*((56:Nat):Int)<=281474976710656)) (A8 (decide ((0:Int)<=0/\(0:Int)<=(k:Int)/\(k:Int)<=140737488355328/\(k:Int)*((96:Nat):Int)<=281474976710656)) (Ak (Af (List.length (((h ++ [.rows 6 29 false (List.replicate n [Iv 0,Iv 0,.sl 0 none 0 (some 0),.sl 0 none 0 (some 0),.sl 0 none 0 (some 0),.bool false])]) ++ [.rows 5 66 false (List.replicate m [Iv 0,.sl 0 none 0 (some 0),Iv 0,Iv 0,Iv 0])]) ++ [.rows 9 123 false (List.replicate k [Iv 0,Iv 0,Iv 0,Iv 0,Iv 0,Iv 0,.sl 0 none 0 (some 0),.str ⟨⟨[]⟩⟩,.bool false])])) 152 [.sl 5 b i p] (((h ++ [.rows 6 29 false (List.replicate n [Iv 0,Iv 0,.sl 0 none 0 (some 0),.sl 0 none 0 (some 0),.sl 0 none 0 (some 0),.bool false])]) ++ [.rows 5 66 false (List.replicate m [Iv 0,.sl 0 none 0 (some 0),Iv 0,Iv 0,Iv 0])]) ++ [.rows 9 123 false (List.replicate k [Iv 0,Iv 0,Iv 0,Iv 0,Iv 0,Iv 0,.sl 0 none 0 (some 0),.str ⟨⟨[]⟩⟩,.bool false])])) λv l=>eS 5 v λv o x=>Ak (Af l.length 151 [.sl 5 v o x] l) λv l=>eS 5 v λv o x=>BI lo a n c (n:Int) 0 a n c d m u e k s b i p 0 none 0 (some 0) 0 none 0 (some 0) 0 none 0 (some 0) 0 none 0 (some 0) (some (h.length,0)) 0 (some n) (some ((List.length (h ++ [.rows 6 29 false (List.replicate n [Iv 0,Iv 0,.sl 0 none 0 (some 0),.sl 0 none 0 (some 0),.sl 0 none 0 (some 0),.bool false])])),0)) 0 (some m) (some ((List.length ((h ++ [.rows 6 29 false (List.replicate n [Iv 0,Iv 0,.sl 0 none 0 (some 0),.sl 0 none 0 (some 0),.sl 0 none 0 (some 0),.bool false])]) ++ [.rows 5 66 false (List.replicate m [Iv 0,.sl 0 none 0 (some 0),Iv 0,Iv 0,Iv 0])])),0)) 0 (some k) v o x l))))=some r) :
  Af lo 78 [At a n c d m u e k s b i p] h=some r :=
 eK Tryz.func78 hk
theorem BI.e {lo m k n i j g G H J P n0 n1 n2 n3 n4 n5 n6:Nat}{b d a A B a0 a1 a2 a3 a4 a5 a6 a7:Pq}{c6 p c u s C D c0 c1 c2 c3 c4 c5:Nq}{y x:Int}{h:Heap} :
  BI lo b m c6 y x d k p a n c A i u B j s g a0 G C H a1 J D P a2 n0 c0 n1 a3 n2 c1 a4 n3 c2 a5 n4 c3 a6 n5 c4 a7 n6 c5 h=br (decide (x<y)) (An x m (eO b λv=>eO (ld h v.1 (v.2+x.toNat) 0 6) λv=>eC v λv l=>eI .i64 v λv=>eC l λl o=>eI .i64 l λl=>eC o λo z=>eS 2 o λo w q=>eC z λz t=>eS 6 z λz e f=>eC t λt E=>eS 1 t λt K L=>eC E λE M=>eBv E λE=>eN M (Ak (Af lo 115 [Br v l o w q z e f t K L E] h) λv l=>eA v λv=>eC v λv o=>eI .i64 v λv=>eC o λo z=>eI .i64 o λo=>eC z λz w=>eS 2 z λz q t=>eC w λw e=>eS 6 w λw f E=>eC e λe K=>eS 1 e λe L M=>eC K λK N=>eBv K λK=>eN N (As 6 (l ++ [.rows 6 29 false [Du v o z q t w f E e L M K]]) (.sl 6 (some (l.length,0)) 1 (some 1)) λN=>Dv lo 29 6 96 (.sl 6 a4 n3 c2) N (l ++ [.rows 6 29 false [Du v o z q t w f E e L M K]]) λv l=>eS 6 v λv o z=>BI lo b m c6 y (Al (x+1)) d k p a n c A i u B j s g a0 G C H a1 J D P a2 n0 c0 n1 a3 n2 c1 v o z a5 n4 c3 a6 n5 c4 a7 n6 c5 l)))) (BH lo a n c (n:Int) 0 d k p a n c A i u B j s g a0 G C H a1 J D P a2 n0 c0 n1 a3 n2 c1 a4 n3 c2 a5 n4 c3 a6 n5 c4 a7 n6 c5 h) :=
 lE
theorem BH.e {lo m n4 n5 n n6 k i j g G H J P n0 n1 n2 n3:Nat}{a a5 a6 b a7 d A B a0 a1 a2 a3 a4:Pq}{c3 c4 c5 c c6 p u s C D c0 c1 c2:Nq}{y x:Int}{h:Heap} :
  BH lo a m c3 y x a5 n4 c4 a6 n5 c5 b n c a7 n6 c6 k d i p j A g u G B H s J a0 P C a1 n0 D a2 n1 c0 a3 n2 c1 a4 n3 c2 h=br (decide (x<y)) (An x m (eO a λv=>eO (ld h v.1 (v.2+x.toNat) 0 5) λv=>eC v λv l=>eI .i64 v λv=>eC l λl o=>eS 2 l λl z w=>eC o λo q=>eI .i64 o λo=>eC q λq t=>eI .i64 q λq=>eC t λt e=>eI .i64 t λt=>eN e (Ak (Af lo 153 [Ap l z w] h) λl z=>eA l λl=>eC l λl w=>eS 2 l λl e f=>eN w (As 5 (z ++ [.rows 5 66 false [NR v l e f o q t]]) (.sl 5 (some (z.length,0)) 1 (some 1)) λw=>Dv lo 66 5 56 (.sl 5 a2 n1 c0) w (z ++ [.rows 5 66 false [NR v l e f o q t]]) λv l=>eS 5 v λv o z=>BH lo a m c3 y (Al (x+1)) a5 n4 c4 a6 n5 c5 b n c a7 n6 c6 k d i p j A g u G B H s J a0 P C a1 n0 D v o z a3 n2 c1 a4 n3 c2 l)))) (BG lo b n c (n:Int) 0 k d i p j A g u G B H s J a0 P C a1 n0 D a2 n1 c0 a3 n2 c1 a4 n3 c2 h) :=
 lE
theorem BG.e {lo n g G H J P n0 n1 n2 m k i j:Nat}{a a0 a1 a2 a3 b d A B:Pq}{C D c0 c1 c2 c p u s:Nq}{y x:Int}{h:Heap} :
  BG lo a n C y x g a0 G D H a1 J c0 P a2 n0 c1 n1 a3 n2 c2 b m c d k p A i u B j s h=br (decide (x<y)) (An x n (eO a λv=>eO (ld h v.1 (v.2+x.toNat) 0 9) λv=>eC v λv l=>eI .i64 v λv=>eC l λl o=>eI .i64 l λl=>eC o λo z=>eI .i64 o λo=>eC z λz w=>eI .i64 z λz=>eC w λw q=>eI .i64 w λw=>eC q λq t=>eI .i64 q λq=>eC t λt e=>eS 2 t λt f E=>eC e λe K=>eT e λe=>eC K λK L=>eBv K λK=>eN L (Ak (Af lo 154 [AC z w q t f E e K] h) λz w=>eA z λz=>eC z λz q=>eI .i64 z λz=>eC q λq t=>eI .i64 q λq=>eC t λt e=>eI .i64 t λt=>eC e λe f=>eS 2 e λe E K=>eC f λf L=>eT f λf=>eC L λL M=>eBv L λL=>eN M (As 9 (w ++ [.rows 9 123 false [NS v l o z q t e E K f L]]) (.sl 9 (some (w.length,0)) 1 (some 1)) λM=>Dv lo 123 9 96 (.sl 9 A i u) M (w ++ [.rows 9 123 false [NS v l o z q t e E K f L]]) λv l=>eS 9 v λv o z=>BG lo a n C y (Al (x+1)) g a0 G D H a1 J c0 P a2 n0 c1 n1 a3 n2 c2 b m c d k p v o z B j s l)))) (some ((At b m c d k p A i u B j s),h)) :=
 lE
def Fo lo f a n c x y b m p h:=
 LA 79 Tryz.f79 22131 0 11 lo ⟨[(1,.lp 1 0),(2,.bool f),(6,.sl 6 a n c),(7,Iv x),(8,Iv y)],[(1,(Bc b m p))],h⟩
theorem Fo.e :
  Fo lo f a n c y x b m p h=br (decide (x<y)) (An x n (eO a λv=>eO (ld h v.1 (v.2+x.toNat) 0 6) λv=>eC v λv l=>eI .i64 v λv=>eC l λl o=>eI .i64 l λl=>eC o λo s=>eI .i64 o λo=>eC s λs z=>eS 2 s λs u w=>eC z λz q=>eT z λz=>eC q λq g=>eBv q λq=>eN g (Ak (Af lo 155 [AC v l o s u w z q,.agg [Iv 0,Iv 0,Iv 0,.sl 0 none 0 (some 0),.str ⟨⟨[]⟩⟩,.bool false]] h) λg i=>eB g (Fo lo f a n c y (Al (x+1)) b m p i) (Ak (Af lo 134 [AC v l o s u w z q] i) λl o=>eB l (br (v==x) (Fo lo f a n c y (Al (x+1)) b m p o) (AD o)) (AD o))))) (br ((m:Int)==4) (Cn h) (AD h)) :=
 lE
theorem EW {l:List V} (hk:(Ak (Af h.length 156 [.sl 6 a n c,.fn m l] h) λo s=>eI .i64 o λo=>br (decide (o>=0)) (Cn s) (AD s))=some (v,h')) (hn:noId v=true:=by rfl) :
  Af lo 80 [.sl 6 a n c,.fn m l] h=some (v,h) :=
 eD Tryz.func80 hk hn
end
end Go.Proofs.YtmgopagfoemomaaGreat
