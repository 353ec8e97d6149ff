/- Part 1 of what is shown for the law Gg, whatever the input; no condition of its own. -/
import Derived.Test.YtoocmbhkaghgnaaGreatBGg0
set_option linter.unusedVariables false
set_option linter.unusedSimpArgs false
set_option linter.unnecessarySimpa false
set_option maxRecDepth 100000
namespace Go.Proofs.YtoocmbhkaghgnaaGreat.T
open Go
variable {v:V}{σ1:St}{x:Operand}
section
variable {R:Type}{X:Ctx}{lo lo':Nat}{d:Option Nat}{ty:TypeId}{o:Op}{s s':List (Nat×V)}{bx bx':List (Nat×List V)}{h h':Heap}{K:V->St->Option R}
theorem HZ:∀ {xs:List Operand},(∀ x∈xs,ev s' x=ev s x)->JG s' xs=JG s xs
 | [],_=>rfl
 | x :: xs,hx=>by simp only[JG];rw[hx x (by simp),HZ λy hy=>hx y (by simp[hy])]
theorem J4:∀ {xs:List (Nat×Operand)},(∀ x∈xs,ev s' x.2=ev s x.2)->OI s' xs=OI s xs
 | [],_=>rfl
 | (i,x) :: xs,hx=>by simp only[OI];rw[hx (i,x) (by simp),J4 λy hy=>hx y (by simp[hy])]
theorem J5 {x:Option Operand} (hx:∀ y∈x.toList,ev s' y=ev s y):Ww s' x=Ww s x:=by
 cases x with
 | none=>rfl
 | some x=>simp only[Ww];rw[hx x (by simp)]
theorem Ul (hx:∀ x∈o.operands.toList,ev s' x=ev s x):opT X lo d ty o ⟨s',bx,h⟩ K=opT X lo d ty o ⟨s,bx,h⟩ λv σ=>K v ⟨s',σ.bx,σ.h⟩:=by
 cases o<;>simp only[Op.operands] at hx<;>simp only[opT]
 case move x=>rw[hx x (by simp)]
 case assign x=>rw[hx x (by simp)]
 case pick c x y=>rw[hx c (by simp),hx x (by simp),hx y (by simp)]
 case box e x=>rw[hx x (by simp)]
 case build t ps=>rw[J4 λx hm=>hx x.2 (by simp;exact ⟨x.1,by simpa using hm⟩)]
 case buildSlice t n ps=>rw[J4 λx hm=>hx x.2 (by simp;exact ⟨x.1,by simpa using hm⟩)]
 case load t x=>rw[hx x (by simp)]
 case store t x y=>rw[hx x (by simp),hx y (by simp)]
 case nilCheck x=>rw[hx x (by simp)]
 case binOp op t x y u=>rw[hx x (by simp),hx y (by simp)]
 case unOp op t x=>rw[hx x (by simp)]
 case convert u t x=>rw[hx x (by simp)]
 case makeFunc f fs cs =>
  have h2:JG s' fs.toList=JG s fs.toList:=HZ λx hm=>hx x (by simp at hm ⊢;exact .inl hm);rw[HZ (xs:=cs.toList) λx hm=>hx x (by simp at hm ⊢;exact .inr hm)];cases hfs:fs.toList with
  | nil=>cases f<;>rfl
  | cons x xs=>rw[hfs] at h2;cases f<;>simp only[h2]
 case makeSlice t l c=>rw[hx l (by simp),hx c (by simp)]
 case slice t x l hi m =>rw[hx x (by simp),J5 (x:=l) λy hy=>hx y (by simp at hy ⊢;simp[hy]),J5 (x:=hi) λy hy=>hx y (by simp at hy ⊢;simp[hy]),J5 (x:=m) λy hy=>hx y (by simp at hy ⊢;simp[hy])]
 case fieldAddr t x f=>rw[hx x (by simp)]
 case field t x f=>rw[hx x (by simp)]
 case indexAddr t x i=>rw[hx x (by simp),hx i (by simp)]
 case index t x i=>rw[hx x (by simp),hx i (by simp)]
 case lookup t m i ok=>rw[hx m (by simp),hx i (by simp)]
 case mapUpdate t m i x=>rw[hx m (by simp),hx i (by simp),hx x (by simp)]
 case insert t m i x=>rw[hx m (by simp),hx i (by simp),hx x (by simp)]
 case extract x i=>rw[hx x (by simp)]
 case call c =>
  have h1:JG s' c.args.toList=JG s c.args.toList:=HZ λx hm=>hx x (by simp[Call.operands] at hm ⊢;simp[hm]);rw[h1];split
  ·split
   ·rename_i f hc
    rw[hx f (by simp[Call.operands,hc])]
   ·rfl
   ·rfl
  ·rfl
theorem EQ (hx:∀ x∈o.operands.toList,ev s' x=ev s x) (hs:AD X lo d ty o ⟨s,bx,h⟩=some (v,σ1)):AD X lo d ty o ⟨s',bx,h⟩=some (v,⟨s',σ1.bx,σ1.h⟩):=by unfold AD at hs ⊢;rw[Ul hx,Fd];unfold AD;rw[hs];rfl
theorem IS (hs:AD X lo d ty o ⟨s,bx,h⟩=some (v,σ1)):σ1.s=s:=by have:=EQ (λx _=>rfl) hs;rw[hs] at this;injection this with this;injection this with _ this;rw[this]
theorem Um (hw:X.wide=false) {o:Oper} (hi:CU o=true):opT X lo d ty o.op ⟨s,bx,h⟩ K=opT X lo' d ty o.op ⟨s,bx',h'⟩ λv _=>K v ⟨s,bx,h⟩:=by
 obtain ⟨dst,op,ty',pos,after,guard⟩:=o;cases op<;>simp only[CU] at hi<;>(try cases hi)<;>simp only[opT,hw,FI]
 rename_i c
 split at hi;all_goals (try cases hi)
 all_goals (rename_i hc;rw[hc];split<;>simp only[S4])
theorem LF (hw:X.wide=false) {o:Oper} (hi:CU o=true) (hs:AD X lo d ty o.op ⟨s,bx,h⟩=some (v,σ1)):σ1.bx=bx/\σ1.h=h/\∀ lo' bx' h',AD X lo' d ty o.op ⟨s,bx',h'⟩=some (v,⟨s,bx',h'⟩):=by
 have key:∀ lo' bx' h',AD X lo' d ty o.op ⟨s,bx',h'⟩=some (v,⟨s,bx',h'⟩):=by intro lo' bx' h';unfold AD at hs ⊢;rw[Um hw (lo':=lo) (bx':=bx) (h':=h) hi,Fd];unfold AD;rw[hs];rfl
 have:=key lo bx h;rw[hs] at this;injection this with this;injection this with _ this;exact ⟨by rw[this],by rw[this],key⟩
theorem NZ {t:TypeId} (hs:AD X lo d ty (.load t x) ⟨s,bx,h⟩=some (v,σ1)):σ1.s=s/\σ1.bx=bx/\σ1.h=h:=by
 unfold AD at hs;simp only[opT] at hs;split at hs
 ·cases hs
 ·split at hs
  ·split at hs
   ·obtain ⟨cs,_,hs⟩:=AF hs;obtain ⟨y,_,hs⟩:=AF hs;simp only[Option.some.injEq,Prod.mk.injEq] at hs;obtain ⟨_,rfl⟩:=hs;exact ⟨rfl,rfl,rfl⟩
   ·cases hs
  ·have key:opT X lo d ty (.load t x) ⟨s,bx,h⟩ (λv σ=>some (v,σ))=opT X lo d ty (.load t x) ⟨s,bx,h⟩ λv _=>some (v,⟨s,bx,h⟩):=by simp only[opT]
   have hs2:opT X lo d ty (.load t x) ⟨s,bx,h⟩ (λv σ=>some (v,σ))=some (v,σ1):=by simp only[opT];simp_all
   rw[key,Fd] at hs2;obtain ⟨p,_,hp⟩:=Option.bind_eq_some_iff.1 hs2;simp only[Option.some.injEq,Prod.mk.injEq] at hp;obtain ⟨_,rfl⟩:=hp;exact ⟨rfl,rfl,rfl⟩
  ·cases hs
theorem WB {t:TypeId}{u j:Nat} (hx:ev s x = .lp u j) (hs:AD X lo d ty (.load t x) ⟨s,bx,h⟩=some (v,σ1)):∃ row,Ax bx u=some row /\
  ∀ lo' bx' h',Ax bx' u=some row->AD X lo' d ty (.load t x) ⟨s,bx',h'⟩=some (v,⟨s,bx',h'⟩):=by
 unfold AD at hs;simp only[opT,hx] at hs;split at hs
 ·cases hs
 ·rename_i hk
  split at hs
  ·rename_i row hrow
   refine ⟨row,hrow,λlo' bx' h' hb=>?_⟩;unfold AD;simp only[opT,hx,hk,hb];obtain ⟨cs,h1,hs⟩:=AF hs;obtain ⟨y,h2,hs⟩:=AF hs;simp only[Option.some.injEq,Prod.mk.injEq] at hs;obtain ⟨rfl,_⟩:=hs;simp only[h1,h2,eO]
  ·cases hs
theorem Uv {t:TypeId} (hs:AD X lo d ty (.load t x) ⟨s,bx,h⟩=some (v,σ1)):(∃ u j,ev s x = .lp u j)\/∃ b i j,ev s x = .ptr (some (b,i,j)):=by
 unfold AD at hs;simp only[opT] at hs;split at hs
 ·cases hs
 ·split at hs
  ·rename_i u j he
   exact .inl ⟨u,j,he⟩
  ·rename_i p he
   obtain ⟨q,rfl,_⟩:=AF hs;obtain ⟨b,i,j⟩:=q;exact .inr ⟨b,i,j,he⟩
  ·cases hs
theorem Vb {t:TypeId}{b i j:Nat} (hx:ev s x = .ptr (some (b,i,j))) (hs:AD X lo d ty (.load t x) ⟨s,bx,h⟩=some (v,σ1)):∃ cs,ld h b i j (X.ty t).size=some cs /\
  ∀ lo' bx' h',ld h' b i j (X.ty t).size=some cs->AD X lo' d ty (.load t x) ⟨s,bx',h'⟩=some (v,⟨s,bx',h'⟩):=by
 unfold AD at hs;simp only[opT,hx] at hs;split at hs
 ·cases hs
 ·rename_i hk
  obtain ⟨q,hq,hs⟩:=AF hs;injection hq with hq;subst hq;obtain ⟨cs,h1,hs⟩:=AF hs;refine ⟨cs,h1,λlo' bx' h' hb=>?_⟩;have key:∀ σ:St,FX (X.ty t).agg (X.ty t).sh cs (λv=>some (v,σ))=(FX (X.ty t).agg (X.ty t).sh cs some).bind λv=>some (v,σ):=λσ=>by rw[KM];rfl
  unfold AD;simp only[opT,hx,hk,eO,hb];rw[key] at hs ⊢;obtain ⟨y,h2,hs⟩:=Option.bind_eq_some_iff.1 hs;simp only[Option.some.injEq,Prod.mk.injEq] at hs;obtain ⟨rfl,_⟩:=hs;rw[h2];rfl
theorem FU {t:TypeId}{y z:Operand}{u j:Nat} (hy:ev s y = .lp u j) (hs:AD X lo d ty (.store t y z) ⟨s,bx,h⟩=some (v,σ1)):σ1.h=h/\∃ row,σ1.bx=R8 bx u row:=by
 unfold AD at hs;simp only[opT,hy] at hs;split at hs
 ·split at hs
  ·split at hs
   ·split at hs
    ·simp only[Option.some.injEq,Prod.mk.injEq] at hs;obtain ⟨_,rfl⟩:=hs;exact ⟨rfl,_,rfl⟩
    ·cases hs
   ·cases hs
  ·cases hs
 ·cases hs
theorem Hk {t:TypeId}{y z:Operand}{q:Option (Nat×Nat×Nat)} (hy:ev s y = .ptr q) (hs:AD X lo d ty (.store t y z) ⟨s,bx,h⟩=some (v,σ1)):σ1.bx=bx:=by
 unfold AD at hs;simp only[opT,hy] at hs;split at hs
 ·split at hs
  ·obtain ⟨q,_,hs⟩:=AF hs;obtain ⟨b,i,j⟩:=q;obtain ⟨h',_,hs⟩:=AF hs;simp only[Option.some.injEq,Prod.mk.injEq] at hs;obtain ⟨_,rfl⟩:=hs;rfl
  ·cases hs
 ·cases hs
def RD:Op->Bool
 | .alloc _ | .box _ _ | .store _ _ _=>true
 | _=>false
theorem XJ (hb:RD o=false):opT X lo d ty o ⟨s,bx,h⟩ K=opT X lo d ty o ⟨s,bx,h⟩ λv σ=>K v ⟨σ.s,bx,σ.h⟩:=by cases o<;>simp only[RD] at hb<;>(try cases hb)<;>simp only[opT]
theorem WC (hb:RD o=false) (hs:AD X lo d ty o ⟨s,bx,h⟩=some (v,σ1)):σ1.bx=bx:=by
 have:AD X lo d ty o ⟨s,bx,h⟩=some (v,⟨σ1.s,bx,σ1.h⟩):=by have h2:=hs;unfold AD at h2 ⊢;rw[XJ hb,Fd];unfold AD;rw[h2];rfl
 rw[hs] at this;injection this with this;injection this with _ this;rw[this]
theorem IR (hs:AD X lo d ty o ⟨s,bx,h⟩=some (v,σ1)) :
  σ1.bx=bx\/(∃ t row,Ax bx t=none/\σ1.bx=(t,row) :: bx)\/((∃ t x y,o = .store t x y)/\∃ u row,σ1.bx=R8 bx u row):=by
 cases hb:RD o with
 | false=>exact .inl (WC hb hs)
 | true =>
  unfold AD at hs;cases o<;>simp only[RD] at hb<;>(try cases hb)<;>simp only[opT] at hs
  ·split at hs
   ·cases hs
   ·cases hs
   ·split at hs
    ·simp only[Option.some.injEq,Prod.mk.injEq] at hs;obtain ⟨_,rfl⟩:=hs;exact .inl rfl
    ·split at hs
     ·cases hs
     ·rename_i hl
      simp only[Option.some.injEq,Prod.mk.injEq] at hs;obtain ⟨_,rfl⟩:=hs;exact .inr (.inl ⟨_,_,hl,rfl⟩)
  ·split at hs
   ·cases hs
   ·split at hs
    ·split at hs
     ·split at hs
      ·simp only[Option.some.injEq,Prod.mk.injEq] at hs;obtain ⟨_,rfl⟩:=hs;exact .inl rfl
      ·split at hs
       ·cases hs
       ·rename_i hl
        simp only[Option.some.injEq,Prod.mk.injEq] at hs;obtain ⟨_,rfl⟩:=hs;exact .inr (.inl ⟨_,_,hl,rfl⟩)
     ·cases hs
    ·cases hs
  ·split at hs
   ·split at hs
    ·split at hs
     ·split at hs
      ·split at hs
       ·simp only[Option.some.injEq,Prod.mk.injEq] at hs;obtain ⟨_,rfl⟩:=hs;exact .inr (.inr ⟨⟨_,_,_,rfl⟩,_,_,rfl⟩)
       ·cases hs
      ·cases hs
     ·obtain ⟨q,_,hs⟩:=AF hs;obtain ⟨b,i,j⟩:=q;obtain ⟨h',_,hs⟩:=AF hs;simp only[Option.some.injEq,Prod.mk.injEq] at hs;obtain ⟨_,rfl⟩:=hs;exact .inl rfl
     ·cases hs
    ·cases hs
   ·cases hs
def Keeps (X:Ctx) (σ σ':St) (p:Oper):Prop:=(∀ t x,p.op = .load t x->(∀ u j row,ev σ.s x = .lp u j->Ax σ.bx u=some row->Ax σ'.bx u=some row) /\
 (∀ b i j,ev σ.s x = .ptr (some (b,i,j))->ld σ'.h b i j (X.ty t).size=ld σ.h b i j (X.ty t).size)) /\
 (∀ t e,FK p=some (t,e)->∀ row,Ax σ.bx t=some row->Ax σ'.bx t=some row)
theorem GP {o:Oper}{t e:Nat} (h:FK o=some (t,e)):o.op = .alloc e/\o.dst=some t:=by
 unfold FK at h;split at h
 ·rename_i e' ho
  split at h
  ·rename_i t' hd
   injection h with h;injection h with h1 h2;subst h1;subst h2;exact ⟨ho,hd⟩
  ·cases h
 ·cases h
theorem L5 {o:Oper}{t:TypeId} (h:o.op = .load t x):FK o=none:=by unfold FK;rw[h]
theorem Om {o:Oper}{v:V}{σ1:St} (hs:AD X lo d ty o.op ⟨s,bx,h⟩=some (v,σ1)):∀ {l:List Oper}{k:Option R}{r:R},chkT X o ⟨s,bx,h⟩ σ1 l k=some r->k=some r/\∀ p∈l,Keeps X ⟨s,bx,h⟩ σ1 p
 | [],k,r,hk=>⟨hk,λp hp=>by simp at hp⟩
 | p :: l,k,r,hk=>by
  have ih:∀ {k:Option R}{r:R},chkT X o ⟨s,bx,h⟩ σ1 l k=some r->k=some r/\∀ p∈l,Keeps X ⟨s,bx,h⟩ σ1 p:=Om hs;have fin:chkT X o ⟨s,bx,h⟩ σ1 l k=some r->Keeps X ⟨s,bx,h⟩ σ1 p->k=some r/\∀ q∈p :: l,Keeps X ⟨s,bx,h⟩ σ1 q:=λh1 h2=>by
   obtain ⟨h3,h4⟩:=ih h1;refine ⟨h3,λq hq=>?_⟩;rcases YW.1 hq with rfl | hq
   ·exact h2
   ·exact h4 q hq
  simp only[chkT] at hk;split at hk
  ·rename_i t x hp
   split at hk
   ·rename_i u j hx
    have key:(∀ row,Ax bx u=some row->Ax σ1.bx u=some row)->Keeps X ⟨s,bx,h⟩ σ1 p:=λhrow=>by
     refine ⟨λt' x' hp'=>?_,λt' e' hm=>by rw[L5 hp] at hm;cases hm⟩;rw[hp] at hp';injection hp' with e1 e2;subst e1;subst e2;refine ⟨λu' j' row hx' hl=>?_,λb i j' hx'=>?_⟩
     ·have hx':ev s x = .lp u' j':=hx';rw[hx] at hx';injection hx' with e1 e2;subst e1;exact hrow row hl
     ·have hx':ev s x = .ptr (some (b,i,j')):=hx';rw[hx] at hx';cases hx'
    split at hk
    ·rename_i t' y z hop
     rw[hop] at hs;split at hk
     ·rename_i u' j' hy
      split at hk
      ·cases hk
      ·rename_i hne
       refine fin hk (key λrow hl=>?_);obtain ⟨_,row',h2⟩:=FU hy hs;rw[h2,Fh,if_neg (λe=>by subst e;simp at hne)];exact hl
     ·rename_i q hy
      refine fin hk (key λrow hl=>?_);rw[Hk hy hs];exact hl
     ·cases hk
    ·rename_i hop
     exact fin hk (key λrow hl=>by
      rcases IR hs with h1 | ⟨t0,row',h1,h2⟩ | ⟨⟨t0,y,z,h3⟩,_⟩
      ·rw[h1];exact hl
      ·rw[h2,AY];split
       ·rename_i e;subst e;rw[h1] at hl;cases hl
       ·exact hl
      ·exact absurd h3 (hop _ _ _))
   ·rename_i q hx
    obtain ⟨q,rfl,hk⟩:=AF hk;obtain ⟨b,i,j⟩:=q;have key:ld σ1.h b i j (X.ty t).size=ld h b i j (X.ty t).size->Keeps X ⟨s,bx,h⟩ σ1 p:=λhl=>by
     refine ⟨λt' x' hp'=>?_,λt' e' hm=>by rw[L5 hp] at hm;cases hm⟩;rw[hp] at hp';injection hp' with e1 e2;subst e1;subst e2;refine ⟨λu' j' row hx' _=>?_,λb' i' j' hx'=>?_⟩
     ·have hx':ev s x = .lp u' j':=hx';rw[hx] at hx';cases hx'
     ·have hx':ev s x = .ptr (some (b',i',j')):=hx';rw[hx] at hx';injection hx' with e;injection e with e;injection e with e1 e;injection e with e2 e3;subst e1;subst e2;subst e3;exact hl
    have nd:∀ {k:Option R},A8 (Tf (ld h b i j (X.ty t).size) (ld σ1.h b i j (X.ty t).size)) k=some r->ld σ1.h b i j (X.ty t).size=ld h b i j (X.ty t).size/\k=some r:=λhk=>by obtain ⟨h1,h2⟩:=At hk;unfold Tf at h1;exact ⟨((@decide_eq_true_iff _ (_)).1 h1).symm,h2⟩
    split at hk
    ·rename_i t' y z hop
     split at hk
     ·rename_i u' j' hy
      rw[hop] at hs;exact fin hk (key (by rw[(FU hy hs).1]))
     ·obtain ⟨h1,h2⟩:=nd hk;exact fin h2 (key h1)
    ·obtain ⟨h1,h2⟩:=nd hk;exact fin h2 (key h1)
   ·cases hk
  ·rename_i e hp
   split at hk
   ·rename_i t hd
    have key:(∀ row,Ax bx t=some row->Ax σ1.bx t=some row)->Keeps X ⟨s,bx,h⟩ σ1 p:=λhrow=>by refine ⟨λt' x' hp'=>(by rw[hp] at hp';cases hp'),λt' e' hm=>?_⟩;obtain ⟨_,hd'⟩:=GP hm;rw[hd] at hd';injection hd' with hd';subst hd';exact hrow
    split at hk
    ·rename_i t' y z hop
     rw[hop] at hs;split at hk
     ·rename_i u' j' hy
      split at hk
      ·cases hk
      ·rename_i hne
       refine fin hk (key λrow hl=>?_);obtain ⟨_,row',h2⟩:=FU hy hs;rw[h2,Fh,if_neg (λe=>by subst e;simp at hne)];exact hl
     ·rename_i q hy
      refine fin hk (key λrow hl=>?_);rw[Hk hy hs];exact hl
     ·cases hk
    ·rename_i hop
     exact fin hk (key λrow hl=>by
      rcases IR hs with h1 | ⟨t0,row',h1,h2⟩ | ⟨⟨t0,y,z,h3⟩,_⟩
      ·rw[h1];exact hl
      ·rw[h2,AY];split
       ·rename_i e;subst e;rw[h1] at hl;cases hl
       ·exact hl
      ·exact absurd h3 (hop _ _ _))
   ·cases hk
  ·cases hk
theorem Nd (hs:AD X lo d ty o ⟨s,bx,h⟩=some (v,σ1)) {t:Nat} (ht:(Ax bx t).isSome=true):(Ax σ1.bx t).isSome=true:=by
 rcases IR hs with h1 | ⟨u,row,h1,h2⟩ | ⟨_,u,row,h2⟩
 ·rw[h1];exact ht
 ·rw[h2,AY];split
  ·rfl
  ·exact ht
 ·rw[h2,Fh];split
  ·simpa using ht
  ·exact ht
theorem FV (hs:AD X lo d ty o ⟨s,bx,h⟩=some (v,σ1)) (hw:∀ t x y,o ≠ .store t x y) {t:Nat}{row:List V} (ht:Ax bx t=some row):Ax σ1.bx t=some row:=by
 rcases IR hs with h1 | ⟨u,row',h1,h2⟩ | ⟨⟨t,x,y,h3⟩,_⟩
 ·rw[h1];exact ht
 ·rw[h2,AY];split
  ·rename_i e;subst e;rw[h1] at ht;cases ht
  ·exact ht
 ·exact absurd h3 (hw _ _ _)
end
theorem G8 {acc:List Nat}{j:Nat}:∀ {es:List Edge},(FT acc es).testBit j=true->∃ e∈es,B3 e=true/\(e.on=j\/(acc.getD e.on 0).testBit j=true)
 | [],h=>by simp[FT] at h
 | e :: es,h=>by
  simp only[FT] at h;split at h
  ·rename_i hb
   have h1:((1 <<< e.on ||| acc.getD e.on 0) ||| FT acc es).testBit j=true:=h;rw[Nat.testBit_or,Nat.testBit_or] at h1;simp only[Ze] at h1;rcases h1 with (h1 | h1) | h1
   ·refine ⟨e,by simp,hb,.inl ?_⟩;rw[Nat.testBit_shiftLeft] at h1;simp only[YQ,decide_eq_true_eq] at h1;have h2:=h1.2;by_cases hz:j - e.on=0
    ·omega
    ·rw[Nat.testBit_one_eq_true_iff_self_eq_zero] at h2;omega
   ·exact ⟨e,by simp,hb,.inr h1⟩
   ·obtain ⟨e',h2,h3⟩:=G8 h1;exact ⟨e',by simp[h2],h3⟩
  ·obtain ⟨e',h2,h3⟩:=G8 h;exact ⟨e',by simp[h2],h3⟩
theorem HH:∀ (l:List Oper) (acc:List Nat) (i:Nat),i<acc.length->(AN acc l).getD i 0=acc.getD i 0
 | [],acc,i,h=>rfl
 | o :: l,acc,i,h=>by simp only[AN];rw[HH l _ i (by simp;omega)];simp only[zah];rw[YI h]
theorem HG:∀ (l:List Oper) (acc:List Nat) (i j:Nat) (o:Oper),l[i]?=some o->((AN acc l).getD (acc.length+i) 0).testBit j=true ->
  ∃ e∈o.after.toList,B3 e=true/\(e.on=j\/((AN acc l).getD e.on 0).testBit j=true)
 | [],acc,i,j,o,h,_=>by simp at h
 | p :: l,acc,0,j,o,h,ht=>by
  simp at h;subst h;simp only[AN,ZK] at ht ⊢;rw[HH l _ _ (by simp)] at ht;simp only[zah,List.getElem?_concat_length,ZP] at ht;obtain ⟨e,h1,h2,h3⟩:=G8 ht;refine ⟨e,h1,h2,h3.imp id λh3=>?_⟩;have hlt:e.on<acc.length:=by apply Z2;intro hle;simp[zah,Zz hle] at h3
  rw[HH l _ _ (by simp;omega)];simp only[zah] at h3 ⊢;rw[YI hlt];exact h3
 | p :: l,acc,i+1,j,o,h,ht=>by simp only[AN] at ht ⊢;have:=HG l (acc ++ [FT acc p.after.toList]) i j o (by simpa using h) (by rw[<- ht];congr 2;simp;omega);exact this
end Go.Proofs.YtoocmbhkaghgnaaGreat.T
namespace Go.Proofs.YtoocmbhkaghgnaaGreat.T
open Go
def SH (all:List Oper) (s:List (Nat×V)) (g:Option (Nat×Bool)):Option Bool:=EK all s g (some true) (some false)
theorem SD {R:Type}{all:List Oper}{s:List (Nat×V)}{g:Option (Nat×Bool)}{run skip:Option R}{r:R} (h:EK all s g run skip=some r):(SH all s g=some true/\run=some r)\/(SH all s g=some false/\skip=some r):=by
 unfold SH;unfold EK at h ⊢;split at h
 ·exact .inl ⟨rfl,h⟩
 ·split at h
  ·cases h
  ·split at h
   ·cases h
   ·split at h
    ·rename_i b _
     split at h<;>rcases GW h with ⟨rfl,h⟩ | ⟨rfl,h⟩<;>simp_all [br]
    ·simp_all
    ·cases h
def G9 (X:Ctx) (lo:Nat) (all:List Oper) (calm al:Nat->Bool) (j:Nat) (o:Oper) (σ σ':St):Prop :=
 (CV al j o=none/\SH all σ.s o.guard=some true/\∃ v σ1,AD X (if calm j then σ.h.length else lo) o.dst o.type o.op σ=some (v,σ1)/\σ'=putS σ1 o.dst v) \/
 (CV al j o=none/\SH all σ.s o.guard=some false/\σ'=putS σ o.dst (.tup [])) \/
 (∃ t e,CV al j o=some (t,e)/\σ'=putS σ o.dst (.lp t 0))
theorem DE {al:Nat->Bool}{j:Nat}{o:Oper}{t e:Nat} (h:CV al j o=some (t,e)):al j=true/\o.op = .alloc e/\o.dst=some t/\FK o=some (t,e):=by
 unfold CV at h;split at h
 ·exact ⟨‹_›,(GP h).1,(GP h).2,h⟩
 ·cases h
theorem S2 {al:Nat->Bool}{j:Nat}{o:Oper}{a:Nat} (h:Ci o=some a):CV al j o=none:=by
 unfold CV;split
 ·unfold FK;unfold Ci at h;split at h
  ·rename_i ho;rw[ho]
  ·cases h
 ·rfl
def HJ (X:Ctx) (calm:Nat->Bool) (ck:Nat->List Oper) (j:Nat) (σ σ':St):Prop:=calm j=false->∀ p∈ck j,Keeps X σ σ' p
theorem Keeps.put {X:Ctx}{σ σ':St}{p:Oper}{d:Option Nat}{v:V} (h:Keeps X σ σ' p):Keeps X σ (putS σ' d v) p:=by cases d<;>exact h
theorem Keeps.same {X:Ctx}{σ:St}{p:Oper}{d:Option Nat}{v:V}:Keeps X σ (putS σ d v) p:=Keeps.put ⟨λt x _=>⟨λu j row _ h=>h,λb i j _=>rfl⟩,λt e _ row h=>h⟩
theorem RB {X:Ctx}{lo:Nat}{all:List Oper}{calm al:Nat->Bool}{ck:Nat->List Oper}{R:Type}{k:St->Option R}{r:R}:∀ (rest:List Oper) (i:Nat) (σ:St),all.drop i=rest->opsT X lo all calm ck al i rest σ k=some r ->
  ∃ S:Nat->St,S i=σ/\k (S (i+rest.length))=some r/\∀ j o,i<=j->all[j]?=some o->G9 X lo all calm al j o (S j) (S (j+1))/\HJ X calm ck j (S j) (S (j+1))
 | [],i,σ,hr,hk=>⟨λ_=>σ,rfl,hk,λj o hj ho=>by
   have:all.length<=i:=List.drop_eq_nil_iff.1 hr;have:=(YE.1 ho).1;omega⟩
 | o :: rest,i,σ,hr,hk=>by
  obtain ⟨hi,hr'⟩:=List.drop_cons' hr;simp only[opsT] at hk;have main:∀ σ',opsT X lo all calm ck al (i+1) rest σ' k=some r->G9 X lo all calm al i o σ σ'->HJ X calm ck i σ σ'->∃ S:Nat->St,S i=σ/\k (S (i+(o :: rest).length))=some r/\∀ j o,i<=j->all[j]?=some o->G9 X lo all calm al j o (S j) (S (j+1))/\HJ X calm ck j (S j) (S (j+1)):=by
   intro σ' hk' hst hkp;obtain ⟨S,h1,h2,h3⟩:=RB rest (i+1) σ' hr' hk';refine ⟨λj=>if j<=i then σ else S j,by simp,?_,λj o' hj ho=>?_⟩
   ·show k (if i+(o :: rest).length<=i then σ else S (i+(o :: rest).length))=some r;rw[if_neg (by simp),ZC,show i+(rest.length+1)=i+1+rest.length by omega];exact h2
   ·by_cases e:j=i
    ·subst e;rw[hi] at ho;injection ho with ho;subst ho;show G9 X lo all calm al j o (if j<=j then σ else S j) (if j+1<=j then σ else S (j+1))/\HJ X calm ck j (if j<=j then σ else S j) (if j+1<=j then σ else S (j+1));rw[if_pos (YH _),if_neg (by omega),h1];exact ⟨hst,hkp⟩
    ·show G9 X lo all calm al j o' (if j<=i then σ else S j) (if j+1<=i then σ else S (j+1))/\HJ X calm ck j (if j<=i then σ else S j) (if j+1<=i then σ else S (j+1));rw[if_neg (by omega),if_neg (by omega)];exact h3 j o' (by omega) ho
  cases hbx:CV al i o with
  | some q =>obtain ⟨t,e⟩:=q;rw[hbx] at hk;exact main _ hk (.inr (.inr ⟨t,e,hbx,rfl⟩)) (λ_ p hp=>Keeps.same)
  | none =>
  rw[hbx] at hk;simp only at hk;rcases SD hk with ⟨hg,hk1⟩ | ⟨hg,hk1⟩
  ·cases hc:calm i with
   | true =>rw[hc] at hk1;obtain ⟨v,σ1,h1,h2⟩:=QK hk1;exact main _ h2 (.inl ⟨hbx,hg,v,σ1,by rw[hc];exact h1,rfl⟩) (λhcf=>by rw[hc] at hcf;cases hcf)
   | false =>rw[hc] at hk1;obtain ⟨v,σ1,h1,h2⟩:=QK hk1;obtain ⟨h3,h4⟩:=Om (s:=σ.s) (bx:=σ.bx) (h:=σ.h) h1 h2;exact main _ h3 (.inl ⟨hbx,hg,v,σ1,by rw[hc];exact h1,rfl⟩) (λ_ p hp=>(h4 p hp).put)
  ·exact main _ hk1 (.inr (.inl ⟨hbx,hg,rfl⟩)) (λ_ p hp=>Keeps.same)
section
variable {all:List Oper}{cl:Nat->Bool}
theorem GQ {i:Nat}{o:Oper} (h:all[i]?=some o):(o,i)∈all.zipIdx:=ZG.2 h
theorem Yy {a b:Nat} (h:a≠b):Nat.beq a b=false:=by
 cases hb:Nat.beq a b with
 | false=>rfl
 | true=>exact absurd (YL hb) h
theorem Iu {a n:Nat} (h:Hl all a n=true) {j:Nat}{q:Oper} (hj:n<=j) (hq:all[j]?=some q):q.dst≠some a:=λhd=>by
 have h2:=YR.1 h (q,j) (GQ hq);have hb:Nat.blt j n=false:=by
  cases hb:Nat.blt j n with
  | false=>rfl
  | true =>
       have:j<n:=by simpa [zaa] using hb
       omega
 have ha:Nat.beq a a=true:=by simp
 simp only[hb,Zj,hd,ZU,Z6,List.any_nil,ZR,ha,Zk] at h2;cases h2
structure Graph (all:List Oper) (cl:Nat->Bool):Prop where
 wr:∀ (i:Nat) (o:Oper),all[i]?=some o->Dw o=true->Fq (AN [] all) all cl i=true
 edge:∀ (i:Nat) (o:Oper),all[i]?=some o->∀ e∈o.after.toList,B3 e=true->e.on<i
 stat:∀ (i:Nat) (o:Oper),all[i]?=some o->cl i=true->CV cl i o=none->∃ t a,o.op = .load t (.tmp a)/\Hl all a i=true/\∀ (n:Nat) (p:Oper),all[n]?=some p->Ep p=true->EM (AN [] all) n i=true\/Hl all a n=true
 box:∀ (i:Nat) (o:Oper) (t e:Nat),all[i]?=some o->CV cl i o=some (t,e)->(AN [] all).getD i 0=0/\o.guard=none
 guard:∀ (i:Nat) (o:Oper) (j:Nat) (b:Bool),all[i]?=some o->o.guard=some (j,b)->((AN [] all).getD i 0).testBit j=true
 pair:∀ (i j:Nat) (p q:Oper),all[i]?=some p->all[j]?=some q->i<j->EM (AN [] all) i j=true\/(Wf p.dst.toList (CA all q)=true/\Wf q.dst.toList (CA all p)=true)
theorem VO (h:PC (AN [] all) all cl=true):Graph all cl:=by
 unfold PC at h;have hp:∀ (i:Nat) (o:Oper),all[i]?=some o->_:=λi o ho=>YR.1 h (o,i) (GQ ho);simp only[YQ] at hp;refine ⟨λi o ho hw=>?_,λi o ho e he hbi=>?_,λi o ho hc hbn=>?_,λi o t e ho hbx=>?_,λi o j b ho hg=>?_,λi j p q hpi hqj hij=>?_⟩
 ·have:=(hp i o ho).1.1.1.2;rw[hw] at this;simpa using this
 ·have:=YR.1 (hp i o ho).1.1.2 e he;simpa [zaa,hbi] using this
 ·have:=(hp i o ho).1.1.1.1;rw[hc] at this;simp only[Zk,Zj] at this;unfold SZ at this;cases hl:Ci o with
  | none =>
   rw[hl] at this;have hm:FK o=none:=by unfold CV at hbn;rw[hc] at hbn;exact hbn
   rw[hm] at this;cases this
  | some a =>
   rw[hl] at this;have hop:∃ t,o.op = .load t (.tmp a):=by
    unfold Ci at hl;split at hl
    ·rename_i t a' ho';injection hl with hl;subst hl;exact ⟨t,ho'⟩
    ·cases hl
   obtain ⟨t,hop⟩:=hop;rw[YQ] at this;refine ⟨t,a,hop,this.1,λn p hp hs=>?_⟩;have h3:=YR.1 this.2 (p,n) (GQ hp);simpa only [hs,Zk,Zj,Ze] using h3
 ·have:=(hp i o ho).1.1.1.1;obtain ⟨hc,hop,hdst,hm⟩:=DE hbx;rw[hc] at this;simp only[Zk,Zj] at this;unfold SZ at this;have hl:Ci o=none:=by unfold Ci;rw[hop]
  rw[hl,hm] at this;simp only[YQ,Option.isNone_iff_eq_none] at this;exact ⟨YL this.1,this.2⟩
 ·have:=(hp i o ho).1.2;rw[hg] at this;exact this
 ·have:=YR.1 (hp i p hpi).2 (q,j) (GQ hqj);have hb:Nat.blt i j=true:=by simpa [zaa] using hij
  simp only[hb,Zk,Zj,Ze,YQ] at this;exact this
theorem OD {i j:Nat}{q:Oper} (h:Fq (AN [] all) all cl i=true) (hq:all[j]?=some q) (hne:j≠i) (hi:CU q=false) (hc:cl j=false):EM (AN [] all) i j=true:=by have:=YR.1 h (q,j) (GQ hq);simp only[Yy hne,hi,hc,Zj,ZR] at this;exact this
theorem MI {M:List Nat}{j a:Nat}{q:Oper} (ha:Ci q=some a) (hs:Hl all a j=true):∀ {l:List Oper}{i:Nat}{k:Nat},l[k]?=some q->cl (i+k)=true->EM M j (i+k)=false->q∈DD M all cl j i l
 | [],i,k,h,_,_=>by simp at h
 | p :: l,i,k,h,hc,hm=>by
  cases k with
  | zero =>simp at h;subst h;rw[ZK] at hc hm;simp[DD,hc,hm,ha,hs]
  | succ k =>
   have ih:q∈DD M all cl j (i+1) l:=MI ha hs (k:=k) (by simpa using h) (by rw[<- hc];congr 1;omega) (by rw[<- hm];congr 1;omega);simp only[DD];split
   ·exact ih
   ·split
    ·exact ih
    ·split
     ·split
      ·exact Zs _ ih
      ·exact ih
     ·split
      ·exact ih
      ·exact Zs _ ih
theorem OQ {M:List Nat}{j t e:Nat}{q:Oper} (ha:FK q=some (t,e)):∀ {l:List Oper}{i:Nat}{k:Nat},l[k]?=some q->cl (i+k)=true->EM M j (i+k)=false->q∈DD M all cl j i l
 | [],i,k,h,_,_=>by simp at h
 | p :: l,i,k,h,hc,hm=>by
  cases k with
  | zero =>
   simp at h;subst h;rw[ZK] at hc hm;have hl:Ci p=none:=by unfold Ci;rw[(GP ha).1]
   simp[DD,hc,hm,ha,hl]
  | succ k =>
   have ih:q∈DD M all cl j (i+1) l:=OQ ha (k:=k) (by simpa using h) (by rw[<- hc];congr 1;omega) (by rw[<- hm];congr 1;omega);simp only[DD];split
   ·exact ih
   ·split
    ·exact ih
    ·split
     ·split
      ·exact Zs _ ih
      ·exact ih
     ·split
      ·exact ih
      ·exact Zs _ ih
theorem XY {M:List Nat}{j k t e:Nat}{o q:Oper} (ho:all[j]?=some o) (hi:CU o=false) (hj:cl j=false) (hq:all[k]?=some q) (hc:cl k=true) (hm:EM M j k=false) (ha:FK q=some (t,e)):q∈PJ M all cl j:=by unfold PJ;rw[ho];simp only[hi,hj];exact OQ ha (i:=0) hq (by rw[Zf];exact hc) (by rw[Zf];exact hm)
theorem Xr {M:List Nat}{j k a:Nat}{o q:Oper} (ho:all[j]?=some o) (hi:CU o=false) (hj:cl j=false) (hq:all[k]?=some q) (hc:cl k=true) (hm:EM M j k=false) (ha:Ci q=some a) (hs:Hl all a j=true):q∈PJ M all cl j:=by unfold PJ;rw[ho];simp only[hi,hj];exact MI ha hs (i:=0) hq (by rw[Zf];exact hc) (by rw[Zf];exact hm)
theorem SQ {M:List Nat}{i a n:Nat}{p:Oper} (h:TE M all cl i a=true) (hp:all[n]?=some p) (hi:CU p=false) (hc:cl n=false) (hm:EM M n i=false) (hf:Fq M all cl n=true):Hl all a n=true:=by have h3:=YR.1 h (p,n) (GQ hp);simpa only [hi,hc,hm,hf,Zj,Zk,ZR] using h3
theorem HA {a b:List Nat}{t:Nat} (h:Wf a b=true) (ha:t∈a) (hb:t∈b):False:=by have:=YR.1 h t ha;simp only[Zp,List.any_eq_false] at this;exact this t hb (by simp)
variable (hG:Graph all cl)
include hG
theorem PQ:∀ (i:Nat) (o:Oper) (j:Nat),all[i]?=some o->((AN [] all).getD i 0).testBit j=true->j<i:=by
 intro i;induction i using Nat.strongRecOn with
 | _ i ih =>
  intro o j ho hb;obtain ⟨e,h1,h2,h3⟩:=HG all [] i j o ho (by simpa using hb);have hlt:=hG.edge i o ho e h1 h2;rcases h3 with h3 | h3
  ·omega
  ·have hlen:i<all.length:=(YE.1 ho).1;have:=ih e.on hlt _ j (YU (by omega)) h3;omega
theorem G7 {L:Nat->Prop} (hcl:∀ (i:Nat) (o:Oper),all[i]?=some o->L i->∀ e∈o.after.toList,B3 e=true->L e.on) :
  ∀ (i:Nat) (o:Oper) (j:Nat),all[i]?=some o->(∀ e∈o.after.toList,B3 e=true->L e.on)->((AN [] all).getD i 0).testBit j=true->L j:=by
 intro i;induction i using Nat.strongRecOn with
 | _ i ih =>
  intro o j ho hready hb;obtain ⟨e,h1,h2,h3⟩:=HG all [] i j o ho (by simpa using hb);have hlt:=hG.edge i o ho e h1 h2;have hL:=hready e h1 h2;rcases h3 with h3 | h3
  ·exact h3 ▸ hL
  ·have hlen:i<all.length:=(YE.1 ho).1;have ho':all[e.on]?=some all[e.on]:=YU (by omega);exact ih e.on hlt _ j ho' (hcl _ _ ho' hL) h3
theorem GU {L:Nat->Prop} (hcl:∀ (i:Nat) (o:Oper),all[i]?=some o->L i->∀ e∈o.after.toList,B3 e=true->L e.on) {i j:Nat}{o q:Oper} (ho:all[i]?=some o) (hq:all[j]?=some q)
  (hready:∀ e∈o.after.toList,B3 e=true->L e.on) (hn:¬ L i) (hne:j≠i) (hc:EM (AN [] all) i j=true\/EM (AN [] all) j i=true):L j<->j<i:=by
 have hc':((AN [] all).getD i 0).testBit j=true\/((AN [] all).getD j 0).testBit i=true:=by unfold EM at hc;rcases hc with hc | hc<;>split at hc<;>simp_all
 rcases hc' with h | h
 ·have:=PQ hG i o j ho h;exact ⟨λ_=>this,λ_=>G7 hG hcl i o j ho hready h⟩
 ·have:=PQ hG j q i hq h;exact ⟨λhL=>absurd (G7 hG hcl j q i hq (hcl j q hq hL) h) hn,λh=>by omega⟩
def Wr (all:List Oper) (j t:Nat):Prop:=∃ q,all[j]?=some q/\q.dst=some t
omit hG in
theorem IM (hG:Graph all cl) {L:Nat->Prop} (hcl:∀ (i:Nat) (o:Oper),all[i]?=some o->L i->∀ e∈o.after.toList,B3 e=true->L e.on) {i:Nat}{o:Oper} (ho:all[i]?=some o)
  (hready:∀ e∈o.after.toList,B3 e=true->L e.on) (hn:¬ L i) {t:Nat} (ht:t∈CA all o) {j:Nat} (hw:Wr all j t):L j<->j<i:=by
 obtain ⟨q,hq,hd⟩:=hw;by_cases hne:j=i
 ·subst hne;exact ⟨λh=>absurd h hn,λh=>by omega⟩
 ·refine GU hG hcl ho hq hready hn hne ?_;rcases Nat.lt_or_ge i j with h | h
  ·rcases hG.pair i j o q ho hq h with h1 | ⟨_,h1⟩
   ·exact .inl h1
   ·exact (HA h1 (by rw[hd];simp) ht).elim
  ·rcases hG.pair j i q o hq ho (by omega) with h1 | ⟨h1,_⟩
   ·exact .inr h1
   ·exact (HA h1 (by rw[hd];simp) ht).elim
end
end Go.Proofs.YtoocmbhkaghgnaaGreat.T
namespace Go.Proofs.YtoocmbhkaghgnaaGreat.T
open Go
variable {a:Act}{w:World}{next:Act->World->Prop}{ρ:Rho}{β:Bet}
theorem Xu {P:Program}{o:Oper} (h:o.wp P a w next (λ_ _ _=>False)):∃ a' w',next a' w':=by
 unfold Oper.wp at h;generalize (execOp a.eval o).run P w=res at h;cases res with
 | ok n w' =>
  cases n<;>simp only[Oper.upon] at h<;>(try exact h.elim)
  ·exact ⟨_,_,h⟩
  ·exact ⟨_,_,h⟩
  ·obtain ⟨e,w'',fr,hr,_⟩:=h [];cases e with
   | returned v=>exact ⟨_,_,hr⟩
   | panicked c=>exact hr.elim
   | outgrown=>obtain ⟨_,_,hr⟩:=hr;exact hr.elim
  ·exact ⟨_,_,h⟩
  ·obtain ⟨v,w'',hr,_⟩:=h default [];exact ⟨_,_,hr⟩
 | halt x w'=>cases x<;>simp only[Oper.upon] at h
section
variable {P:Program}{lo base nt:Nat}{X:Ctx}
def More (ρ:Rho) (β:Bet) (σ:St) (w:World) (lo base:Nat) (ρ':Rho) (β':Bet) (σ':St) (w':World):Prop :=
 Ext lo base ρ σ.h w ρ' σ'.h w'/\Ble β β'/\(∀ t,Ax σ.bx t=none->(Ax σ'.bx t).isSome=true->∃ r,β' t=some r)
def EO (t:Nat):List (Nat×List V)->List (Nat×List V)
 | [] => []
 | (u,v) :: r=>if u=t then EO t r else (u,v) :: EO t r
theorem CN {t:Nat}:∀ {bx:List (Nat×List V)}{u:Nat},Ax (EO t bx) u=if u=t then none else Ax bx u
 | [],u=>by simp[EO,Ax]
 | (x,v) :: r,u=>by
  unfold EO;by_cases h:x=t
  ·rw[if_pos h,CN (bx:=r),AY];by_cases hu:u=t
   ·rw[if_pos hu,if_pos hu]
   ·rw[if_neg hu,if_neg hu,if_neg (λe=>hu (e.symm.trans h))]
  ·rw[if_neg h,AY,CN (bx:=r),AY];by_cases hx:x=u
   ·rw[if_pos hx,if_pos hx,if_neg (λe=>h (hx.trans e))]
   ·rw[if_neg hx,if_neg hx]
theorem FRel.sub {bx bx':List (Nat×List V)} (hf:FRel ρ β bx w) (hs:∀ t r,β t=some r->Ax bx' t=Ax bx t):FRel ρ β bx' w :=
 ⟨λt r hr=>by obtain ⟨row,cs,el,h1,h2,h3⟩:=hf.has t r hr;exact ⟨row,cs,el,by rw[hs t r hr];exact h1,h2,h3⟩,hf.lt,hf.inj,hf.off⟩
theorem LG {lo':Nat}{o:Oper}{t e:Nat}{s:List (Nat×V)}{bx:List (Nat×List V)}{h:Heap} (hop:o.op = .alloc e) (hd:o.dst=some t) (hk:((X.ty e).known&&(X.ty e).hz&&Cm (X.ty e).zero)=true) (hh:X.hb.any (Nat.beq t)=false) (hl:Ax bx t=none) :
  AD X lo' o.dst o.type o.op ⟨s,bx,h⟩=some (.lp t 0,⟨s,(t,(X.ty e).zero) :: bx,h⟩):=by
 unfold AD;rw[hop,hd];simp only[opT,hk,hh,hl]
def TW (X:Ctx) (cl:Nat->Bool) (j:Nat) (o:Oper) (β:Bet) (bx:List (Nat×List V)):Prop:=∀ t e,CV cl j o=some (t,e)->((X.ty e).known&&(X.ty e).hz&&Cm (X.ty e).zero)=true/\X.hb.any (Nat.beq t)=false/\β t=none/\Ax bx t=some (X.ty e).zero
theorem JM (hX:X.ty=Az P) (hE:∀ t,X.cmp t=true->EqOk P t) (hC:SC P X.call) {all:List Oper}{calm al:Nat->Bool}{j:Nat}{o:Oper}{σ σ':St} (hs:G9 X lo all calm al j o σ σ') (hbox:TW X al j o β σ.bx) (hd:∀ t,o.dst=some t->t<nt)
  (ho:Ok lo base nt ρ β σ a w):(∃ ρ' β' a' w',Ok lo base nt ρ' β' σ' a' w'/\More ρ β σ w lo base ρ' β' σ' w'/\∀ t r,β t=none->β' t=some r->Ax σ.bx t=none\/∃ e,CV al j o=some (t,e))/\σ.h.length<=σ'.h.length/\(calm j=true->∀ b,b<σ.h.length->σ'.h[b]?=σ.h[b]?):=by
 rcases hs with ⟨_,_,v,σ1,h1,rfl⟩ | ⟨_,_,rfl⟩ | ⟨tb,eb,hbx,rfl⟩
 ·have hh:(putS σ1 o.dst v).h=σ1.h:=by cases o.dst<;>rfl
  have hb:(putS σ1 o.dst v).bx=σ1.bx:=by cases o.dst<;>rfl
  rw[hh];have hlo2:lo<=(if calm j=true then σ.h.length else lo):=by split;exact ho.hlo;exact YH _
  have hwp:o.wp P a w (λa' w'=>(∃ ρ' β',Ok lo base nt ρ' β' (putS σ1 o.dst v) a' w'/\More ρ β σ w lo base ρ' β' (putS σ1 o.dst v) w'/\∀ t r,β t=none->β' t=some r->Ax σ.bx t=none\/∃ e,CV al j o=some (t,e))/\σ.h.length<=σ1.h.length/\(calm j=true->∀ b,b<σ.h.length->σ1.h[b]?=σ.h[b]?)) (λ_ _ _=>False):=by
   refine Fb (lo:=if calm j=true then σ.h.length else lo) (base:=base) (K:=λv σ=>some (v,σ)) (r:=(v,σ1)) hX hE hC h1 ho.s ho.h ho.f ho.hB (by split;exact YH _;exact ho.hlo) (λ_=>ho.own) ?_;intro v' σ'' c w' hk hf;injection hk with hk;injection hk with e1 e2;subst e1;subst e2;obtain ⟨ρ',β',f1,f2,f3,f4,f5,f6,f7,f8⟩:=hf;have hok:Ok lo base nt ρ' β' (putS σ'' o.dst v') (a.put o.dst c) w':=by
    refine ⟨?_,?_,?_,?_,YD ho.hB f5.size,?_,?_,?_⟩
    ·refine SRel.put ?_ f2 (λt ht=>by rw[ho.nt];exact hd t ht);rw[f1];exact ho.s.mono f5.rle f6
    ·rw[hh];exact f3
    ·rw[hb];exact f4
    ·intro t r hr;cases hb:β t with
     | some r0 =>have:=f6 t r0 hb;rw[hr] at this;injection this with this;subst this;exact ho.own t _ hb
     | none=>exact YD ho.hB (f7 t r hb hr).1
    ·rw[hh];exact YD ho.hlo f5.len
    ·cases o.dst<;>simp[Act.put,ho.nt]
    ·cases o.dst<;>simp[Act.put,ho.df]
   refine ⟨⟨ρ',β',hok,⟨?_,f6,?_⟩,λt r g1 g2 => .inl (f7 t r g1 g2).2⟩,f5.len,λhc b hb=>f5.pres b ?_ hb⟩
   ·rw[hh];exact f5.weaken hlo2 (YH _)
   ·rw[hb];exact f8
   ·rw[if_pos hc];exact hb
  obtain ⟨a',w',⟨ρ',β',h2,h5⟩,h3,h4⟩:=Xu hwp;exact ⟨⟨ρ',β',a',w',h2,h5⟩,h3,h4⟩
 ·have hh:(putS σ o.dst (.tup [])).h=σ.h:=by cases o.dst<;>rfl
  have hb:(putS σ o.dst (.tup [])).bx=σ.bx:=by cases o.dst<;>rfl
  rw[hh];refine ⟨⟨ρ,β,_,w,ho.skip hd,⟨?_,Ble.refl _,?_⟩,λt r g1 g2=>by rw[g1] at g2;cases g2⟩,YH _,λ_ _ _=>rfl⟩
  ·rw[hh];exact Ext.refl _ _ _ _ _
  ·rw[hb];exact JR
 ·obtain ⟨_,hop,hdst,_⟩:=DE hbx;obtain ⟨k1,k2,k3,k4⟩:=hbox tb eb hbx;have hh:(putS σ o.dst (.lp tb 0)).h=σ.h:=by cases o.dst<;>rfl
  have hb:(putS σ o.dst (.lp tb 0)).bx=σ.bx:=by cases o.dst<;>rfl
  rw[hh];have h1:=LG (lo':=lo) (s:=σ.s) (h:=σ.h) (bx:=EO tb σ.bx) hop hdst k1 k2 (by rw[CN,if_pos rfl]);unfold AD at h1;have hf0:FRel ρ β (EO tb σ.bx) w:=ho.f.sub λt r hr=>by rw[CN,if_neg (λe=>by rw[e,k3] at hr;cases hr)]
  have hwp:o.wp P a w (λa' w'=>∃ ρ' β',Ok lo base nt ρ' β' (putS σ o.dst (.lp tb 0)) a' w'/\More ρ β σ w lo base ρ' β' (putS σ o.dst (.lp tb 0)) w'/\∀ t r,β t=none->β' t=some r->Ax σ.bx t=none\/∃ e,CV al j o=some (t,e)) (λ_ _ _=>False):=by
   refine Fb (lo:=lo) (base:=base) (σ:=⟨σ.s,EO tb σ.bx,σ.h⟩) (K:=λv σ=>some (v,σ)) (r:=(.lp tb 0,_)) hX hE hC h1 ho.s ho.h hf0 ho.hB ho.hlo (λ_=>ho.own) ?_;intro v' σ'' c w' hk hf;injection hk with hk;injection hk with e1 e2;subst e1;subst e2;obtain ⟨ρ',β',f1,f2,f3,f4,f5,f6,f7,f8⟩:=hf;have hok:Ok lo base nt ρ' β' (putS σ o.dst (.lp tb 0)) (a.put o.dst c) w':=by
    refine ⟨?_,?_,?_,?_,YD ho.hB f5.size,?_,?_,?_⟩
    ·refine SRel.put ?_ f2 (λt ht=>by rw[ho.nt];exact hd t ht);exact ho.s.mono f5.rle f6
    ·rw[hh];exact f3
    ·rw[hb];refine f4.sub λt r hr=>?_;show Ax σ.bx t=Ax ((tb,(X.ty eb).zero) :: EO tb σ.bx) t;rw[AY,CN];by_cases e:tb=t
     ·rw[if_pos e,<- e];exact k4
     ·rw[if_neg e,if_neg (λe'=>e e'.symm)]
    ·intro t r hr;cases hb:β t with
     | some r0 =>have:=f6 t r0 hb;rw[hr] at this;injection this with this;subst this;exact ho.own t _ hb
     | none=>exact YD ho.hB (f7 t r hb hr).1
    ·rw[hh];exact ho.hlo
    ·cases o.dst<;>simp[Act.put,ho.nt]
    ·cases o.dst<;>simp[Act.put,ho.df]
   refine ⟨ρ',β',hok,⟨?_,f6,?_⟩,λt r g1 g2=>?_⟩
   ·rw[hh];exact f5.weaken (YH _) (YH _)
   ·rw[hb];exact JR
   ·have h7:Ax (EO tb σ.bx) t=none:=(f7 t r g1 g2).2;rw[CN] at h7;by_cases e:t=tb
    ·exact .inr ⟨eb,by rw[e];exact hbx⟩
    ·rw[if_neg e] at h7;exact .inl h7
  obtain ⟨a',w',ρ',β',h2,h5⟩:=Xu hwp;exact ⟨⟨ρ',β',a',w',h2,h5⟩,YH _,λ_ _ _=>rfl⟩
theorem More.trans {ρ ρ' ρ'':Rho}{β β' β'':Bet}{σ σ' σ'':St}{w w' w'':World} (a:More ρ β σ w lo base ρ' β' σ' w') (b:More ρ' β' σ' w' lo base ρ'' β'' σ'' w''):More ρ β σ w lo base ρ'' β'' σ'' w'':=by
 refine ⟨a.1.trans b.1,a.2.1.trans b.2.1,λt h1 h2=>?_⟩;cases h:Ax σ'.bx t with
 | none=>exact b.2.2 t h h2
 | some row =>obtain ⟨r,hr⟩:=a.2.2 t h1 (by rw[h];rfl);exact ⟨r,b.2.1 t r hr⟩
def Is (all:List Oper) (cl:Nat->Bool) (j:Nat):Prop:=Fq (AN [] all) all cl j=true/\(∃ o,all[j]?=some o/\CU o=false)/\cl j=false
def Gr (all:List Oper) (cl:Nat->Bool) (i:Nat):Bool := !Fq (AN [] all) all cl i
structure Env (P:Program) (X:Ctx) (lo base nt:Nat) (ρ0:Rho) (β0:Bet) (w0:World) (all:List Oper) (cl:Nat->Bool) (S:Nat->St):Prop where
 nar:X.wide=false
 G:Graph all cl
 step:∀ (j:Nat) (o:Oper),all[j]?=some o->G9 X lo all (Gr all cl) cl j o (S j) (S (j+1))
 box:∀ (j:Nat) (o:Oper),all[j]?=some o->TW X cl j o β0 (S 0).bx
 dst:∀ (j:Nat) (o:Oper),all[j]?=some o->∀ t,o.dst=some t->t<nt
 ok:∀ j,j<=all.length->∃ ρ β a w,Ok lo base nt ρ β (S j) a w/\More ρ0 β0 (S 0) w0 lo base ρ β (S j) w
 len:∀ j,j<all.length->(S j).h.length<=(S (j+1)).h.length
 same:∀ j,j<all.length->¬ Is all cl j->∀ b,b<(S j).h.length->(S (j+1)).h[b]?=(S j).h[b]?
 keep:∀ j,j<all.length->HJ X (Gr all cl) (PJ (AN [] all) all cl) j (S j) (S (j+1))
theorem RC {all:List Oper}{cl:Nat->Bool}{S:Nat->St} (hG:Graph all cl) (hst:∀ (j:Nat) (o:Oper),all[j]?=some o->G9 X lo all (Gr all cl) cl j o (S j) (S (j+1)))
  (hkp:∀ (j:Nat) (o:Oper),all[j]?=some o->HJ X (Gr all cl) (PJ (AN [] all) all cl) j (S j) (S (j+1))) {i:Nat}{o:Oper}{t e:Nat} (ho:all[i]?=some o) (hb:CV cl i o=some (t,e)) {j:Nat} (hj:j<all.length)
  (hc:Is all cl j->EM (AN [] all) j i=false) {row:List V} (hr:Ax (S j).bx t=some row):Ax (S (j+1)).bx t=some row:=by
 have hg:all[j]?=some all[j]:=YU hj;have pb:∀ (σ:St) (d:Option Nat) (v:V),(putS σ d v).bx=σ.bx:=λσ d v=>by cases d<;>rfl
 rcases hst j _ hg with ⟨hbn,_,v,σ1,h1,h2⟩ | ⟨_,_,h2⟩ | ⟨_,_,_,h2⟩
 ·cases hso:Ep all[j] with
  | false =>rw[h2,pb];refine FV (s:=(S j).s) (bx:=(S j).bx) (h:=(S j).h) h1 (λt' x y he=>?_) hr;unfold Ep at hso;rw[he] at hso;cases hso
  | true =>
   have hop:∃ u x y,all[j].op = .store u x y:=by
    unfold Ep at hso;split at hso
    ·rename_i he;exact ⟨_,_,_,he⟩
    ·cases hso
   obtain ⟨u,x,y,hop⟩:=hop;have hw:Dw all[j]=true:=by unfold Dw;rw[hop]
   have hf:=hG.wr j _ hg hw;have hi:CU all[j]=false:=by unfold CU;rw[hop]
   have hcj:cl j=false:=by
    cases hcj:cl j with
    | false=>rfl
    | true =>obtain ⟨t',a',hop',_⟩:=hG.stat j _ hg hcj hbn;rw[hop'] at hop;cases hop
   obtain ⟨hci,_,_,hm⟩:=DE hb;exact (hkp j _ hg (by unfold Gr;rw[hf];rfl) o (XY hg hi hcj ho hci (hc ⟨hf,⟨_,hg,hi⟩,hcj⟩) hm)).2 t e hm row hr
 ·rw[h2,pb];exact hr
 ·rw[h2,pb];exact hr
theorem H9 {all:List Oper}{cl:Nat->Bool} (hG:Graph all cl) {i j:Nat}{o p:Oper}{t e:Nat} (ho:all[i]?=some o) (hb:CV cl i o=some (t,e)) (hp:all[j]?=some p) (hji:j<=i):EM (AN [] all) j i=false:=by
 cases hc:EM (AN [] all) j i with
 | false=>rfl
 | true =>
  exfalso;unfold EM at hc;split at hc
  ·rename_i h
   have:=PQ hG j p i hp h;omega
  ·rw[(hG.box i o t e ho hb).1] at hc;simp at hc
theorem XU (hw:X.wide=false) (hX:X.ty=Az P) (hE:∀ t,X.cmp t=true->EqOk P t) (hC:SC P X.call) {all:List Oper}{cl:Nat->Bool}{S:Nat->St} (hG:Graph all cl) (hst:∀ (j:Nat) (o:Oper),all[j]?=some o->G9 X lo all (Gr all cl) cl j o (S j) (S (j+1)))
  (hkp:∀ (j:Nat) (o:Oper),all[j]?=some o->HJ X (Gr all cl) (PJ (AN [] all) all cl) j (S j) (S (j+1))) (hd:∀ (j:Nat) (o:Oper),all[j]?=some o->∀ t,o.dst=some t->t<nt) (ho:Ok lo base nt ρ β (S 0) a w) (hbox:∀ (j:Nat) (o:Oper),all[j]?=some o->TW X cl j o β (S 0).bx):Env P X lo base nt ρ β w all cl S:=by
 have ok:∀ j,j<=all.length->∃ ρ' β' a' w',Ok lo base nt ρ' β' (S j) a' w'/\More ρ β (S 0) w lo base ρ' β' (S j) w'/\∀ i o,j<=i->all[i]?=some o->TW X cl i o β' (S j).bx:=by
  intro j;induction j with
  | zero=>intro _;exact ⟨ρ,β,a,w,ho,⟨Ext.refl _ _ _ _ _,Ble.refl _,JR⟩,λi o _ hi=>hbox i o hi⟩
  | succ j ih =>
   intro hj;obtain ⟨ρ1,β1,a1,w1,ho1,hm1,hbx1⟩:=ih (by omega);have hg:all[j]?=some all[j]:=YU (by omega);obtain ⟨ρ2,β2,a2,w2,ho2,hm2,hn2⟩:=(JM hX hE hC (hst j _ hg) (hbx1 j _ (YH _) hg) (hd j _ hg) ho1).1;refine ⟨ρ2,β2,a2,w2,ho2,hm1.trans hm2,λi o hji ho t e hb=>?_⟩;obtain ⟨k1,k2,k3,k4⟩:=hbx1 i o (by omega) ho t e hb;have hcm:=H9 hG ho hb hg (by omega);refine ⟨k1,k2,?_,RC hG hst hkp ho hb (by omega) (λ_=>hcm) k4⟩;cases h2:β2 t with
   | none=>rfl
   | some r =>
    exfalso;rcases hn2 t r k3 h2 with g | ⟨e',g⟩
    ·rw[k4] at g;cases g
    ·rcases hG.pair j i _ o hg ho (by omega) with g1 | ⟨g1,_⟩
     ·rw[hcm] at g1;cases g1
     ·exact HA (t:=t) g1 (by rw[(DE g).2.2.1];simp) (by unfold CA;rw[(DE hb).2.2.1];simp)
 have ok2:∀ j,j<=all.length->∃ ρ' β' a' w',Ok lo base nt ρ' β' (S j) a' w'/\More ρ β (S 0) w lo base ρ' β' (S j) w':=λj hj=>by obtain ⟨ρ',β',a',w',h1,h2,_⟩:=ok j hj;exact ⟨ρ',β',a',w',h1,h2⟩
 refine ⟨hw,hG,hst,hbox,hd,ok2,λj hj=>?_,λj hj hb b hbl=>?_,λj hj=>hkp j _ (YU hj)⟩
 ·obtain ⟨ρ,β,a,w,ho,_,hbx⟩:=ok j (by omega);have hg:all[j]?=some all[j]:=YU hj;exact (JM hX hE hC (hst j _ hg) (hbx j _ (YH _) hg) (hd j _ hg) ho).2.1
 ·obtain ⟨ρ,β,a,w,ho,_,hbx⟩:=ok j (by omega);have hg:all[j]?=some all[j]:=YU hj;cases hf:Fq (AN [] all) all cl j with
  | false=>exact (JM hX hE hC (hst j _ hg) (hbx j _ (YH _) hg) (hd j _ hg) ho).2.2 (by simp[Gr,hf]) b hbl
  | true =>
   have hi:CU all[j]=true\/cl j=true:=by
    cases hi:CU all[j] with
    | true=>exact .inl rfl
    | false =>
     cases hc:cl j with
     | true=>exact .inr rfl
     | false=>exact absurd ⟨hf,⟨_,hg,hi⟩,hc⟩ hb
   rcases hst j _ hg with ⟨hbn,_,v,σ1,h1,h2⟩ | ⟨_,_,h2⟩ | ⟨_,_,_,h2⟩
   ·have:σ1.h=(S j).h:=by
     rcases hi with hi | hi
     ·exact (LF hw (s:=(S j).s) (bx:=(S j).bx) (h:=(S j).h) hi h1).2.1
     ·obtain ⟨t,a,hop,_⟩:=hG.stat j _ hg hi hbn;rw[hop] at h1;exact (NZ (s:=(S j).s) (bx:=(S j).bx) (h:=(S j).h) h1).2.2
    rw[h2];have hh:(putS σ1 all[j].dst v).h=σ1.h:=by cases all[j].dst<;>rfl
    rw[hh,this]
   ·rw[h2];cases all[j].dst<;>rfl
   ·rw[h2];cases all[j].dst<;>rfl
section
variable {all:List Oper}{cl:Nat->Bool}{S:Nat->St}{ρ0:Rho}{β0:Bet}{w0:World} (hV:Env P X lo base nt ρ0 β0 w0 all cl S)
include hV
theorem Env.len_le:∀ {i j:Nat},i<=j->j<=all.length->(S i).h.length<=(S j).h.length:=by
 intro i j hij;induction j with
 | zero=>intro _;rw[show i=0 by omega];exact YH _
 | succ j ih =>
  intro hj;by_cases e:i=j+1
  ·rw[e];exact YH _
  ·exact YD (ih (by omega) (by omega)) (hV.len j (by omega))
theorem Env.same_le {i j:Nat} (hij:i<=j) (hj:j<=all.length) (hb:∀ k,i<=k->k<j->¬ Is all cl k) {b:Nat} (hbl:b<(S i).h.length):(S j).h[b]?=(S i).h[b]?:=by
 induction j with
 | zero=>rw[show i=0 by omega]
 | succ j ih =>
  by_cases e:i=j+1
  ·rw[e]
  ·rw[hV.same j (by omega) (hb j (by omega) (by omega)) b (YT hbl (hV.len_le (by omega) (by omega))),ih (by omega) (by omega) λk h1 h2=>hb k h1 (by omega)]
theorem Env.slots {j:Nat}{o:Oper} (ho:all[j]?=some o):∃ v σ1,(S (j+1))=putS σ1 o.dst v/\σ1.s=(S j).s /\
  (∀ t,(Ax (S j).bx t).isSome=true->(Ax σ1.bx t).isSome=true)/\(¬ Is all cl j->∀ t row,Ax (S j).bx t=some row->Ax σ1.bx t=some row):=by
 rcases hV.step j o ho with ⟨hbn,_,v,σ1,h1,h2⟩ | ⟨_,_,h2⟩ | ⟨_,_,_,h2⟩
 ·refine ⟨v,σ1,h2,IS (s:=(S j).s) (bx:=(S j).bx) (h:=(S j).h) h1,λt ht=>Nd (s:=(S j).s) (bx:=(S j).bx) (h:=(S j).h) h1 ht,λhb t row ht=>?_⟩;refine FV (s:=(S j).s) (bx:=(S j).bx) (h:=(S j).h) h1 (λu x y he=>hb ?_) ht;have hw:Dw o=true:=by unfold Dw;rw[he]
  refine ⟨hV.G.wr j o ho hw,⟨o,ho,by unfold CU;rw[he]⟩,?_⟩;cases hc:cl j with
  | false=>rfl
  | true =>obtain ⟨t',a',hop,_⟩:=hV.G.stat j o ho hc hbn;rw[hop] at he;cases he
 ·exact ⟨_,S j,h2,rfl,λt ht=>ht,λ_ t row ht=>ht⟩
 ·exact ⟨_,S j,h2,rfl,λt ht=>ht,λ_ t row ht=>ht⟩
omit hV in
theorem FJ (σ:St) (d:Option Nat) (v:V):(putS σ d v).bx=σ.bx:=by cases d<;>rfl
omit hV in
theorem LV (σ:St) (d:Option Nat) (v:V):(putS σ d v).h=σ.h:=by cases d<;>rfl
theorem Env.bx_some {i j:Nat} (hij:i<=j) (hj:j<=all.length) {t:Nat} (ht:(Ax (S i).bx t).isSome=true):(Ax (S j).bx t).isSome=true:=by
 induction j with
 | zero=>rw[show 0=i by omega];exact ht
 | succ j ih =>
  by_cases e:i=j+1
  ·rw[<- e];exact ht
  ·obtain ⟨v,σ1,h1,_,h2,_⟩:=hV.slots (YU (show j<all.length by omega));rw[h1,FJ];exact h2 t (ih (by omega) (by omega))
theorem Env.bx_same {i j:Nat} (hij:i<=j) (hj:j<=all.length) (hb:∀ k,i<=k->k<j->¬ Is all cl k) {t:Nat}{row:List V} (ht:Ax (S i).bx t=some row):Ax (S j).bx t=some row:=by
 induction j with
 | zero=>rw[show 0=i by omega];exact ht
 | succ j ih =>
  by_cases e:i=j+1
  ·rw[<- e];exact ht
  ·obtain ⟨v,σ1,h1,_,_,h2⟩:=hV.slots (YU (show j<all.length by omega));rw[h1,FJ];exact h2 (hb j (by omega) (by omega)) t row (ih (by omega) (by omega) λk h1 h2=>hb k h1 (by omega))
theorem Env.slot_same {i p t:Nat} (hip:i<=p) (hp:p<=all.length) (hw:∀ j,i<=j->j<p->¬ Wr all j t):Cg (S p).s t=Cg (S i).s t:=by
 induction p with
 | zero=>rw[show i=0 by omega]
 | succ p ih =>
  by_cases e:i=p+1
  ·rw[e]
  ·have hg:all[p]?=some all[p]:=YU (by omega);obtain ⟨v,σ1,h1,h2,_⟩:=hV.slots hg;rw[<- ih (by omega) (by omega) λj h1 h2=>hw j h1 (by omega),h1];have hne:all[p].dst≠some t:=λh=>hw p (by omega) (by omega) ⟨_,hg,h⟩;cases hd:all[p].dst with
   | none=>simp only[putS];rw[h2]
   | some u =>simp only[putS,Em];rw[if_neg (λh=>hne (by rw[hd,h])),h2]
end
end
end Go.Proofs.YtoocmbhkaghgnaaGreat.T
namespace Go.Proofs.YtoocmbhkaghgnaaGreat.T
open Go
def Rho.low (ρ:Rho) (n:Nat):Rho:=λb=>if b<n then ρ b else none
theorem Rho.low_some {ρ:Rho}{n b:Nat}{e:E} (h:ρ.low n b=some e):b<n/\ρ b=some e:=by
 unfold Rho.low at h;split at h
 ·exact ⟨‹_›,h⟩
 ·cases h
theorem Rho.low_of {ρ:Rho}{n b:Nat}{e:E} (hb:b<n) (h:ρ b=some e):ρ.low n b=some e:=by unfold Rho.low;rw[if_pos hb,h]
theorem Rho.low_le (ρ:Rho) (n:Nat):Rle (ρ.low n) ρ:=λb e h=>(Rho.low_some h).2
section
variable {ρ ρt:Rho}{N:Nat}
mutual
theorem VR.low (hN:∀ b e,ρt b=some e->b<N):∀ (x:V) (c ct:Value),VR ρt x ct->VR ρ x c->VR (ρ.low N) x c
 | .int _ _,_,_,_,h=>by simpa [VR] using h
 | .bool _,_,_,_,h=>by simpa [VR] using h
 | .str _,_,_,_,h=>by simpa [VR] using h
 | .nilf,_,_,_,h=>by simpa [VR] using h
 | .nili,_,_,_,h=>by simpa [VR] using h
 | .any,_,_,_,_=>by simp[VR]
 | .ptr none,_,_,_,h=>by simpa [VR] using h
 | .ptr (some (b,i,j)),_,_,ht,h=>by simp only[VR] at ht h ⊢;obtain ⟨et,hb,_⟩:=ht;obtain ⟨e,he,hv⟩:=h;exact ⟨e,Rho.low_of (hN b et hb) he,hv⟩
 | .lp _ _,_,_,_,h=>by simp[VR] at h
 | .sl _ none _ _,_,_,_,h=>by simpa [VR] using h
 | .sl _ (some (b,i)) _ _,_,_,ht,h=>by simp only[VR] at ht h ⊢;obtain ⟨et,_,_,hb,_⟩:=ht;obtain ⟨e,x,cc,he,hv⟩:=h;exact ⟨e,x,cc,Rho.low_of (hN b et hb) he,hv⟩
 | .map none,_,_,_,h=>by simpa [VR] using h
 | .map (some b),_,_,ht,h=>by simp only[VR] at ht h ⊢;obtain ⟨et,hb,_⟩:=ht;obtain ⟨e,he,hv⟩:=h;exact ⟨e,Rho.low_of (hN b et hb) he,hv⟩
 | .fn _ cs,_,_,ht,h=>by simp only[VR] at ht h ⊢;obtain ⟨_,_,yt,_,_,hct⟩:=ht;obtain ⟨fst,cps,ys,hv,hi,hc⟩:=h;exact ⟨fst,cps,ys,hv,hi,VRs.low hN cs _ _ hct hc⟩
 | .ifc _ x,_,_,ht,h=>by simp only[VR] at ht h ⊢;obtain ⟨yt,_,hct⟩:=ht;obtain ⟨y,hv,hc⟩:=h;exact ⟨y,hv,VR.low hN x _ _ hct hc⟩
 | .agg cs,_,_,ht,h=>by simp only[VR] at ht h ⊢;obtain ⟨yt,_,hct⟩:=ht;obtain ⟨ys,hv,hc⟩:=h;exact ⟨ys,hv,VRs.low hN cs _ _ hct hc⟩
 | .tup cs,_,_,ht,h=>by simp only[VR] at ht h ⊢;obtain ⟨yt,_,hct⟩:=ht;obtain ⟨ys,hv,hc⟩:=h;exact ⟨ys,hv,VRs.low hN cs _ _ hct hc⟩
theorem VRs.low (hN:∀ b e,ρt b=some e->b<N):∀ (xs:List V) (cs ct:List Value),VRs ρt xs ct->VRs ρ xs cs->VRs (ρ.low N) xs cs
 | [],_,_,_,h=>by simpa [VRs] using h
 | x :: xs,_,_,ht,h=>by simp only[VRs] at ht h ⊢;obtain ⟨yt,rt,_,h1t,h2t⟩:=ht;obtain ⟨y,r,hy,h1,h2⟩:=h;exact ⟨y,r,hy,VR.low hN x _ _ h1t h1,VRs.low hN xs _ _ h2t h2⟩
end
variable (hN:∀ b e,ρt b=some e->b<N)
include hN
theorem KVR.low:∀ (kv:List (V×V)) (es et:List MapEntry),KVR ρt kv et->KVR ρ kv es->KVR (ρ.low N) kv es
 | [],_,_,_,h=>by simpa [KVR] using h
 | (k,v) :: r,_,_,ht,h=>by simp only[KVR] at ht h ⊢;obtain ⟨yt,rt,_,h1t,h2t,h3t⟩:=ht;obtain ⟨e,t,he,h1,h2,h3⟩:=h;exact ⟨e,t,he,VR.low hN _ _ _ h1t h1,VR.low hN _ _ _ h2t h2,KVR.low r _ _ h3t h3⟩
theorem BR.low {e et:E}{w wt:World}:∀ {k:Blk},BR ρt et k wt->BR ρ e k w->BR (ρ.low N) e k w
 | .rows R el ro rs,ht,h=>by obtain ⟨ct,ft,_,_,_,_,_,_,h7t,_⟩:=ht;obtain ⟨cs,fr,h1,h2,h3,h4,h5,h6,h7,h8⟩:=h;refine ⟨cs,fr,h1,h2,h3,h4,h5,h6,λi row hi=>⟨(h7 i row hi).1,λj v hv=>?_⟩,h8⟩;obtain ⟨c,g1,g2⟩:=(h7 i row hi).2 j v hv;obtain ⟨c',_,g3⟩:=(h7t i row hi).2 j v hv;exact ⟨c,g1,VR.low hN _ _ _ g3 g2⟩
 | .map _ kv,ht,h=>by obtain ⟨_,_,_,h2t⟩:=ht;obtain ⟨es,clock,h1,h2⟩:=h;exact ⟨es,clock,h1,KVR.low hN _ _ _ h2t h2⟩
 | .dead,_,_=>trivial
end
end Go.Proofs.YtoocmbhkaghgnaaGreat.T
namespace Go.Proofs.YtoocmbhkaghgnaaGreat.T
open Go
structure Ext0 (lo base:Nat) (ρ:Rho) (n:Nat) (w:World) (ρ':Rho) (w':World):Prop where
 rle:Rle ρ ρ'
 new:∀ b e,ρ b=none->ρ' b=some e->n<=b/\(base<=e.r\/∃ b0 e0,ρ b0=some e0/\lo<=b0/\e0.r=e.r)
 frame:∀ r,r<base->(∀ b e,ρ b=some e->lo<=b->e.r≠r)->w'.heap[r]?=w.heap[r]?
 size:w.heap.size<=w'.heap.size
 os:w'.os=w.os
 tape:w'.tape=w.tape
 output:w'.output=w.output
def BxOk (all:List Oper) (cl:Nat->Bool) (S:Nat->St) (β0:Bet) (L:Nat->Prop) (t:Nat):Prop:=(∃ r0,β0 t=some r0)\/(∃ j,j<all.length/\L j/\Ax (S j).bx t=none/\(Ax (S (j+1)).bx t).isSome=true)\/(∃ j o e,L j/\all[j]?=some o/\CV cl j o=some (t,e))
theorem BxOk.more {all:List Oper}{cl:Nat->Bool}{S:Nat->St}{β0:Bet}{L:Nat->Prop}{t i:Nat} (h:BxOk all cl S β0 L t):BxOk all cl S β0 (λj=>L j\/j=i) t:=by
 rcases h with h | ⟨j,h1,h2,h3⟩ | ⟨j,o,e,h1,h2⟩
 ·exact .inl h
 ·exact .inr (.inl ⟨j,h1,.inl h2,h3⟩)
 ·exact .inr (.inr ⟨j,o,e,.inl h1,h2⟩)
structure Inv (lo base nt:Nat) (ρ0:Rho) (β0:Bet) (w0:World) (all:List Oper) (cl:Nat->Bool) (S:Nat->St) (L:Nat->Prop) (q:Nat) (ρ:Rho) (β:Bet) (a:Act) (w:World):Prop where
 q1:q<=all.length
 q2:q<all.length->Is all cl q/\¬ L q
 q3:∀ j,j<q->Is all cl j->L j
 h:HRel ρ (S q).h w
 f:FRel ρ β (S q).bx w
 s:∀ t p,p<=all.length->(∀ j,Wr all j t->(L j<->j<p))->SV ρ β (Cg (S p).s t) (a.tmps.getD t undef)
 own:∀ t r,β t=some r->base<=r
 hB:base<=w.heap.size
 nt:a.tmps.size=nt
 df:a.defers = []
 x:Ext0 lo base ρ0 (S 0).h.length w0 ρ w
 tot:∀ j,j<all.length->L j->∀ b,(S j).h.length<=b->b<(S (j+1)).h.length->∃ e,ρ b=some e
 ids:∀ b e,ρ b=some e->b<(S 0).h.length\/∃ j,j<all.length/\L j/\(S j).h.length<=b/\b<(S (j+1)).h.length
 bxs:∀ t r,β t=some r->BxOk all cl S β0 L t
theorem Hu:∀ (ts:List Nat) (s:List (Nat×V)) (t:Nat),Cg (Ip ts s) t=if t∈ts then Cg s t else .any
 | [],s,t=>rfl
 | u :: ts,s,t=>by
  simp only[Ip,Em];by_cases h:u=t
  ·subst h;simp
  ·rw[if_neg h,Hu ts s t];have:t≠u:=Ne.symm h;simp[this]
theorem Ix:∀ {xs:List Operand}{t:Nat},Operand.tmp t∈xs->t∈Ht xs
 | [],t,h=>by simp at h
 | x :: xs,t,h=>by
  cases x<;>simp only[Ht,YW] at h ⊢
  ·rcases h with h | h
   ·injection h with h;exact .inl h
   ·exact .inr (Ix h)
  all_goals (rcases h with h | h;cases h;exact Ix h)
theorem Mx {xs:List Operand}{s:List (Nat×V)}:∀ x∈xs,ev (Ip (Ht xs) s) x=ev s x:=λx hx=>by
 cases x with
 | tmp t=>simp only[ev];rw[Hu,if_pos (Ix hx)]
 | _=>rfl
section
variable {P:Program}{X:Ctx}{lo base nt:Nat}{ρ0:Rho}{β0:Bet}{w0:World}{all:List Oper}{cl:Nat->Bool}{S:Nat->St} (hV:Env P X lo base nt ρ0 β0 w0 all cl S)
variable {L:Nat->Prop}{q:Nat}{ρ:Rho}{β:Bet}{a:Act}{w:World} (hI:Inv lo base nt ρ0 β0 w0 all cl S L q ρ β a w)
variable (hcl:∀ (i:Nat) (o:Oper),all[i]?=some o->L i->∀ e∈o.after.toList,B3 e=true->L e.on)
variable {i:Nat}{o:Oper} (ho:all[i]?=some o) (hready:∀ e∈o.after.toList,B3 e=true->L e.on) (hn:¬ L i)
def Bet.low (βt:Bet) (β:Bet):Bet:=λt=>if (βt t).isSome=true then β t else none
theorem Bet.low_some {βt:Bet}{β:Bet}{t r:Nat} (h:Bet.low βt β t=some r):(βt t).isSome=true/\β t=some r:=by
 unfold Bet.low at h;split at h
 ·exact ⟨‹_›,h⟩
 ·cases h
theorem Bet.low_of {βt:Bet}{β:Bet}{t r:Nat} (hb:(βt t).isSome=true) (h:β t=some r):Bet.low βt β t=some r:=by unfold Bet.low;rw[if_pos hb,h]
include hV hI in
theorem WV (hiq:i<=q) (hnb:∀ k,i<=k->k<q->¬ Is all cl k) :
  ∃ βt:Bet,(∀ t r,β0 t=some r->βt t=some r)/\HRel (ρ.low (S i).h.length) (S i).h w/\FRel (ρ.low (S i).h.length) (Bet.low βt β) (S i).bx w /\
   ∀ t c,SV ρ β (Cg (S i).s t) c->SV (ρ.low (S i).h.length) (Bet.low βt β) (Cg (S i).s t) c:=by
 obtain ⟨ρt,βt,at',wt,hot,hmt⟩:=hV.ok i (YD hiq hI.q1);refine ⟨βt,λt r hr=>hmt.2.1 t r hr,?_⟩;have hN:∀ b e,ρt b=some e->b<(S i).h.length:=λb e hb=>(hot.h.dom b e hb).1
 have htot:∀ b e,ρ b=some e->b<(S i).h.length->∃ et,ρt b=some et:=by
  intro b e hb hlt;by_cases h0:b<(S 0).h.length
  ·cases h:ρ0 b with
   | none=>have:=(hI.x.new b e h hb).1;omega
   | some e0=>exact ⟨e0,hmt.1.rle b e0 h⟩
  ·exact hmt.1.tot b (by omega) hlt
 refine ⟨⟨λb e hb=>?_,λb e k hb hk=>?_,λb b' e e' hb hb' hr hne=>?_⟩,⟨λt r hr=>?_,λt r hr=>?_,λt t' r h1 h2=>?_,λt r b e h1 h2=>?_⟩,λt c hc=>?_⟩
 ·obtain ⟨h1,h2⟩:=Rho.low_some hb;exact ⟨h1,(hI.h.dom b e h2).2⟩
 ·obtain ⟨h1,h2⟩:=Rho.low_some hb;obtain ⟨et,het⟩:=htot b e h2 h1;have hk':(S q).h[b]?=some k:=by rw[hV.same_le hiq hI.q1 hnb h1];exact hk
  exact BR.low hN (hot.h.blk b et k het hk) (hI.h.blk b e k h2 hk')
 ·obtain ⟨h1,h2⟩:=Rho.low_some hb;obtain ⟨h3,h4⟩:=Rho.low_some hb';have e1:=hV.same_le hiq hI.q1 hnb h1;have e2:=hV.same_le hiq hI.q1 hnb h3;rcases hI.h.inj b b' e e' h2 h4 hr hne with h | h | ⟨⟨x,y,z,h⟩,⟨x',y',z',h'⟩⟩
  ·exact .inl (by unfold Bn at *;rw[<- e1];exact h)
  ·exact .inr (.inl (by unfold Bn at *;rw[<- e2];exact h))
  ·exact .inr (.inr ⟨⟨x,y,z,by rw[<- e1];exact h⟩,⟨x',y',z',by rw[<- e2];exact h'⟩⟩)
 ·obtain ⟨h1,h2⟩:=Bet.low_some hr;obtain ⟨row,cs,el,g1,g2,g3⟩:=hI.f.has t r h2;obtain ⟨rt,hrt⟩:=Option.isSome_iff_exists.1 h1;obtain ⟨rowt,ct,elt,k1,k2,k3⟩:=hot.f.has t rt hrt;have:=hV.bx_same hiq hI.q1 hnb k1;rw[g1] at this;injection this with this;subst this;exact ⟨row,cs,el,k1,g2,VRs.low hN _ _ _ k3 g3⟩
 ·exact hI.f.lt t r (Bet.low_some hr).2
 ·exact hI.f.inj t t' r (Bet.low_some h1).2 (Bet.low_some h2).2
 ·exact hI.f.off t r b e (Bet.low_some h1).2 (Rho.low_some h2).2
 ·have ht:=hot.s t;generalize hv:Cg (S i).s t=v at hc ht;cases v with
  | lp u j =>obtain ⟨r,h1,h2⟩:=hc;obtain ⟨rt,h3,_⟩:=ht;exact ⟨r,Bet.low_of (by rw[h3];rfl) h1,h2⟩
  | _=>exact VR.low hN _ c (at'.tmps.getD t undef) ht hc
include hV hI hcl ho hready hn in
theorem JO {t:Nat} (ht:t∈CA all o):SV ρ β (Cg (S i).s t) (a.tmps.getD t undef) :=
 hI.s t i (ZA (YE.1 ho).1) λj hw=>IM hV.G hcl ho hready hn ht hw
include hV hI hcl ho hready hn in
theorem E7 {v:V}{σ1:St}{c:Value}{ρ2:Rho}{β2:Bet} (hS:S (i+1)=putS σ1 o.dst v) (h1:σ1.s=(S i).s) (hr:Rle ρ ρ2) (hb:Ble β β2) (hv:SV ρ2 β2 v c) :
  ∀ t p,p<=all.length->(∀ j,Wr all j t->((L j\/j=i)<->j<p))->SV ρ2 β2 (Cg (S p).s t) ((a.put o.dst c).tmps.getD t undef):=by
 intro t p hp hw;by_cases hd:o.dst=some t
 ·have hip:i<p:=(hw i ⟨o,ho,hd⟩).1 (.inr rfl);have hno:∀ j,i+1<=j->j<p->¬ Wr all j t:=λj h2 h3 hwr=>by
   have hL:=(hw j hwr).2 h3;have ht:t∈CA all o:=by unfold CA;rw[hd];simp
   have:=IM hV.G hcl ho hready hn ht hwr;rcases hL with hL | hL
   ·have:=this.1 hL;omega
   ·omega
  rw[hV.slot_same (i:=i+1) hip hp hno,hS,hd];have hlt:t<a.tmps.size:=by rw[hI.nt];exact hV.dst i o ho t hd
  simp only[putS,Em,if_true,Act.put];rw[YY,Array.getElem?_setIfInBounds_self_of_lt hlt];exact hv
 ·have hold:SV ρ β (Cg (S p).s t) (a.tmps.getD t undef):=hI.s t p hp λj hwr=>by
   have hne:j≠i:=λe=>by subst e;obtain ⟨q',h2,h3⟩:=hwr;rw[ho] at h2;injection h2 with h2;subst h2;exact hd h3
   rw[<- hw j hwr];exact ⟨.inl,λh=>h.resolve_right hne⟩
  have:(a.put o.dst c).tmps.getD t undef=a.tmps.getD t undef:=by
   cases hd':o.dst with
   | none=>rfl
   | some u =>have hne:u≠t:=λe=>hd (by rw[hd',e]);simp only[Act.put];rw[YY,Array.getElem?_setIfInBounds_ne hne,<- YY]
  rw[this];exact hold.mono hr hb
end
end Go.Proofs.YtoocmbhkaghgnaaGreat.T
namespace Go.Proofs.YtoocmbhkaghgnaaGreat.T
open Go
variable {w':World}
theorem HRel.ahead {ρ:Rho}{h h':Heap}{w:World} (hh:HRel ρ h w) (hl:h.length<=h'.length) (hs:∀ b,b<h.length->h'[b]?=h[b]?):HRel ρ h' w where
 dom:=λb e hb=>⟨YT (hh.dom b e hb).1 hl,(hh.dom b e hb).2⟩
 blk:=λb e k hb hk=>hh.blk b e k hb (by rw[<- hs b (hh.dom b e hb).1];exact hk)
 inj:=λb b' e e' h1 h2 hr hne=>by
  have s1:=hs b (hh.dom b e h1).1;have s2:=hs b' (hh.dom b' e' h2).1;rcases hh.inj b b' e e' h1 h2 hr hne with h | h | ⟨⟨x,y,z,h⟩,⟨x',y',z',h'⟩⟩
  ·exact .inl (by unfold Bn at *;rw[s1];exact h)
  ·exact .inr (.inl (by unfold Bn at *;rw[s2];exact h))
  ·exact .inr (.inr ⟨⟨x,y,z,by rw[s1];exact h⟩,⟨x',y',z',by rw[s2];exact h'⟩⟩)
theorem FRel.ahead {ρ:Rho}{β:Bet}{bx bx':List (Nat×List V)}{w:World} (hf:FRel ρ β bx w) (hs:∀ t row,Ax bx t=some row->Ax bx' t=some row):FRel ρ β bx' w :=
 ⟨λt r hr=>by obtain ⟨row,cs,el,h1,h2,h3⟩:=hf.has t r hr;exact ⟨row,cs,el,hs t row h1,h2,h3⟩,hf.lt,hf.inj,hf.off⟩
section
variable {P:Program}{X:Ctx}{lo base nt:Nat}{ρ0:Rho}{β0:Bet}{w0:World}{all:List Oper}{cl:Nat->Bool}{S:Nat->St} (hV:Env P X lo base nt ρ0 β0 w0 all cl S)
include hV in
theorem TT {L:Nat->Prop}{ρ:Rho}{β:Bet}{w:World}:∀ (d p:Nat),all.length - p=d->p<=all.length->(∀ j,j<p->Is all cl j->L j)->(∀ j,p<=j->Is all cl j->¬ L j)->HRel ρ (S p).h w->FRel ρ β (S p).bx w ->
  ∃ q,q<=all.length/\(q<all.length->Is all cl q/\¬ L q)/\(∀ j,j<q->Is all cl j->L j)/\HRel ρ (S q).h w/\FRel ρ β (S q).bx w:=by
 intro d;induction d with
 | zero=>intro p hd hp h1 h2 hh hf;exact ⟨p,hp,λh=>by omega,h1,hh,hf⟩
 | succ d ih =>
  intro p hd hp h1 h2 hh hf;by_cases hb:Is all cl p
  ·exact ⟨p,hp,λ_=>⟨hb,h2 p (YH _) hb⟩,h1,hh,hf⟩
  ·refine ih (p+1) (by omega) (by omega) (λj hj hbj=>?_) (λj hj=>h2 j (by omega)) (hh.ahead (hV.len p (by omega)) (hV.same p (by omega) hb)) (hf.ahead λt row ht=>?_)
   ·rcases Nat.lt_or_ge j p with h | h
    ·exact h1 j h hbj
    ·have:j=p:=by omega
     subst this;exact absurd hbj hb
   ·exact hV.bx_same (Nat.le_succ p) (by omega) (λk h3 h4=>by
                                    have:k=p:=by omega
                                    subst this;exact hb) ht
variable {L:Nat->Prop}{q:Nat}{ρ:Rho}{β:Bet}{a:Act}{w:World} (hI:Inv lo base nt ρ0 β0 w0 all cl S L q ρ β a w)
variable (hcl:∀ (i:Nat) (o:Oper),all[i]?=some o->L i->∀ e∈o.after.toList,B3 e=true->L e.on)
variable {i:Nat}{o:Oper} (ho:all[i]?=some o) (hready:∀ e∈o.after.toList,B3 e=true->L e.on) (hn:¬ L i)
include hV hcl ho hready hn in
theorem Lx {j:Nat} (hb:Is all cl j) (hi:CU o=false) (hci:cl i=false) (hne:j≠i):L j<->j<i:=by obtain ⟨hf,⟨p,hp,hpi⟩,hpc⟩:=hb;exact GU hV.G hcl ho hp hready hn hne (.inr (OD hf ho (Ne.symm hne) hi hci))
include hV hI hcl ho hready hn in
theorem PR (hb:Is all cl i):i=q:=by
 have hi:CU o=false:=by obtain ⟨_,⟨p,hp,hpi⟩,_⟩:=hb;rw[ho] at hp;injection hp with hp;subst hp;exact hpi
 have hci:cl i=false:=hb.2.2;have hil:i<all.length:=(YE.1 ho).1;rcases Nat.lt_trichotomy i q with h | h | h
 ·exact absurd (hI.q3 i h hb) hn
 ·exact h
 ·obtain ⟨h1,h2⟩:=hI.q2 (by omega);exact absurd ((Lx hV hcl ho hready hn h1 hi hci (by omega)).2 h) h2
include hV hI hcl ho hready hn in
theorem Wl (hb:¬ Is all cl i) (hi:CU o=false) (hci:cl i=false):i<q/\∀ k,i<=k->k<q->¬ Is all cl k:=by
 have hil:i<all.length:=(YE.1 ho).1;have h1:i<q:=by
  rcases Nat.lt_trichotomy i q with h | h | h
  ·exact h
  ·subst h;exact absurd (hI.q2 hil).1 hb
  ·obtain ⟨h1,h2⟩:=hI.q2 (by omega);exact absurd ((Lx hV hcl ho hready hn h1 hi hci (by omega)).2 h) h2
 refine ⟨h1,λk h2 h3 hk=>?_⟩;have hne:k≠i:=λe=>by subst e;exact hb hk
 have:=(Lx hV hcl ho hready hn hk hi hci hne).1 (hI.q3 k h3 hk);omega
include hV hI hcl ho hready hn in
theorem Tv (hb:Is all cl i) {ρ2:Rho}{β2:Bet}{a':Act} (hh:HRel ρ2 (S (i+1)).h w') (hf:FRel ρ2 β2 (S (i+1)).bx w')
  (hs:∀ t p,p<=all.length->(∀ j,Wr all j t->((L j\/j=i)<->j<p))->SV ρ2 β2 (Cg (S p).s t) (a'.tmps.getD t undef)) (own:∀ t r,β2 t=some r->base<=r) (hB:base<=w'.heap.size) (hnt:a'.tmps.size=nt) (hdf:a'.defers = [])
  (hx:Ext0 lo base ρ0 (S 0).h.length w0 ρ2 w') (htot:∀ j,j<all.length->(L j\/j=i)->∀ b,(S j).h.length<=b->b<(S (j+1)).h.length->∃ e,ρ2 b=some e)
  (hids:∀ b e,ρ2 b=some e->b<(S 0).h.length\/∃ j,j<all.length/\(L j\/j=i)/\(S j).h.length<=b/\b<(S (j+1)).h.length)
  (hbxs:∀ t r,β2 t=some r->BxOk all cl S β0 (λj=>L j\/j=i) t) :
  ∃ q',Inv lo base nt ρ0 β0 w0 all cl S (λj=>L j\/j=i) q' ρ2 β2 a' w':=by
 have hil:i<all.length:=(YE.1 ho).1;have hi:CU o=false:=by obtain ⟨_,⟨p,hp,hpi⟩,_⟩:=hb;rw[ho] at hp;injection hp with hp;subst hp;exact hpi
 have hci:cl i=false:=hb.2.2;have hq:=PR hV hI hcl ho hready hn hb;obtain ⟨q',g1,g2,g3,g4,g5⟩:=TT hV (L:=λj=>L j\/j=i) (ρ:=ρ2) (β:=β2) (w:=w') _ (i+1) rfl hil (λj hj hbj=>by
   by_cases e:j=i
   ·exact .inr e
   ·exact .inl (hI.q3 j (by omega) hbj)) (λj hj hbj=>by
   rintro (h | h)
   ·have:=(Lx hV hcl ho hready hn hbj hi hci (by omega)).1 h;omega
   ·omega) hh hf
 exact ⟨q',g1,g2,g3,g4,g5,hs,own,hB,hnt,hdf,hx,htot,hids,hbxs⟩
include hI in
theorem Lt (hb:¬ Is all cl i) {ρ2:Rho}{β2:Bet}{a':Act} (hh:HRel ρ2 (S q).h w') (hf:FRel ρ2 β2 (S q).bx w')
  (hs:∀ t p,p<=all.length->(∀ j,Wr all j t->((L j\/j=i)<->j<p))->SV ρ2 β2 (Cg (S p).s t) (a'.tmps.getD t undef)) (own:∀ t r,β2 t=some r->base<=r) (hB:base<=w'.heap.size) (hnt:a'.tmps.size=nt) (hdf:a'.defers = [])
  (hx:Ext0 lo base ρ0 (S 0).h.length w0 ρ2 w') (htot:∀ j,j<all.length->(L j\/j=i)->∀ b,(S j).h.length<=b->b<(S (j+1)).h.length->∃ e,ρ2 b=some e)
  (hids:∀ b e,ρ2 b=some e->b<(S 0).h.length\/∃ j,j<all.length/\(L j\/j=i)/\(S j).h.length<=b/\b<(S (j+1)).h.length)
  (hbxs:∀ t r,β2 t=some r->BxOk all cl S β0 (λj=>L j\/j=i) t) :
  ∃ q',Inv lo base nt ρ0 β0 w0 all cl S (λj=>L j\/j=i) q' ρ2 β2 a' w' :=
 ⟨q,hI.q1,λh=>⟨(hI.q2 h).1,λhL=>hL.elim (hI.q2 h).2 λe=>hb (e ▸ (hI.q2 h).1)⟩,λj hj hbj => .inl (hI.q3 j hj hbj),hh,hf,hs,own,hB,hnt,hdf,hx,htot,hids,hbxs⟩
include hI in
theorem CS {c:Value}:(a.put o.dst c).tmps.size=nt/\(a.put o.dst c).defers = []:=by cases o.dst<;>simp[Act.put,hI.nt,hI.df]
include hV hI hcl ho hready hn in
theorem VL (hS:S (i+1)=putS (S i) o.dst (.tup [])):∃ q',Inv lo base nt ρ0 β0 w0 all cl S (λj=>L j\/j=i) q' ρ β (a.put o.dst undef) w:=by
 have hh:(S (i+1)).h=(S i).h:=by rw[hS,LV]
 have hbx:(S (i+1)).bx=(S i).bx:=by rw[hS,FJ]
 have hs:=E7 hV hI hcl ho hready hn hS rfl (Rle.refl ρ) (Ble.refl β) (c:=undef) (SV.of (by simp[VR,VRs,undef]));have htot:∀ j,j<all.length->(L j\/j=i)->∀ b,(S j).h.length<=b->b<(S (j+1)).h.length->∃ e,ρ b=some e:=λj hj hL b h1 h2=>by
  rcases hL with hL | rfl
  ·exact hI.tot j hj hL b h1 h2
  ·rw[hh] at h2;omega
 have hids:∀ b e,ρ b=some e->b<(S 0).h.length\/∃ j,j<all.length/\(L j\/j=i)/\(S j).h.length<=b/\b<(S (j+1)).h.length:=λb e hb =>
  (hI.ids b e hb).imp id λ⟨j,h1,h2,h3⟩=>⟨j,h1,.inl h2,h3⟩
 have hbxs:∀ t r,β t=some r->BxOk all cl S β0 (λj=>L j\/j=i) t:=λt r hb=>(hI.bxs t r hb).more
 by_cases hb:Is all cl i
 ·have hq:=PR hV hI hcl ho hready hn hb;exact Tv hV hI hcl ho hready hn hb (by rw[hh,hq];exact hI.h) (by rw[hbx,hq];exact hI.f) hs hI.own hI.hB (CS hI).1 (CS hI).2 hI.x htot hids hbxs
 ·exact Lt hI hb hI.h hI.f hs hI.own hI.hB (CS hI).1 (CS hI).2 hI.x htot hids hbxs
end
end Go.Proofs.YtoocmbhkaghgnaaGreat.T
namespace Go.Proofs.YtoocmbhkaghgnaaGreat.T
open Go
variable {v:V}{σ1:St}
theorem Q5 {o:Oper} (h:CU o=true):Dw o=false:=by
 obtain ⟨dst,op,ty,pos,after,guard⟩:=o;cases op<;>simp only[CU] at h<;>(try cases h)<;>simp only[Dw]
 rename_i c
 obtain ⟨callee,args0,ts⟩:=c;cases callee<;>simp only at h ⊢
 rename_i b
 cases b<;>simp_all
section
variable {P:Program}{X:Ctx}{lo base nt:Nat}{ρ0:Rho}{β0:Bet}{w0:World}{all:List Oper}{cl:Nat->Bool}{S:Nat->St} (hV:Env P X lo base nt ρ0 β0 w0 all cl S)
variable {L:Nat->Prop}{q:Nat}{ρ:Rho}{β:Bet}{a:Act}{w:World} (hI:Inv lo base nt ρ0 β0 w0 all cl S L q ρ β a w)
variable (hcl:∀ (i:Nat) (o:Oper),all[i]?=some o->L i->∀ e∈o.after.toList,B3 e=true->L e.on)
variable {i:Nat}{o:Oper} (ho:all[i]?=some o) (hready:∀ e∈o.after.toList,B3 e=true->L e.on) (hn:¬ L i)
variable (hX:X.ty=Az P) (hE:∀ t,X.cmp t=true->EqOk P t) (hC:SC P X.call)
variable {K:Act->World->Prop}{Q:Exit->Act->World->Prop}
 (hK:∀ q' ρ' β' a' w',Inv lo base nt ρ0 β0 w0 all cl S (λj=>L j\/j=i) q' ρ' β' a' w'->K a' w')
def rd (o:Oper) (s:List (Nat×V)):List (Nat×V):=Ip (Ht o.op.operands.toList) s
include hV hI hcl ho hready hn in
theorem O8 {ρ':Rho}{β':Bet} (h:∀ t c,SV ρ β (Cg (S i).s t) c->SV ρ' β' (Cg (S i).s t) c):SRel ρ' β' (rd o (S i).s) a:=by
 intro t;unfold rd;rw[Hu];split
 ·rename_i ht
  exact h t _ (JO hV hI hcl ho hready hn (by unfold CA O7;simp[ht]))
 ·exact SV.of (VR.any _)
include hI in
theorem HY {ρ2:Rho}{w':World} (h:Rle ρ ρ2) (hnew:∀ b e,ρ b=none->ρ2 b=some e->(S 0).h.length<=b/\(base<=e.r\/∃ b0 e0,ρ b0=some e0/\lo<=b0/\e0.r=e.r))
  (hfr:∀ r,r<base->(∀ b e,ρ b=some e->lo<=b->e.r≠r)->w'.heap[r]?=w.heap[r]?) (hs:w.heap.size<=w'.heap.size) (h1:w'.os=w.os) (h2:w'.tape=w.tape) (h3:w'.output=w.output):Ext0 lo base ρ0 (S 0).h.length w0 ρ2 w' where
 rle:=hI.x.rle.trans h
 new:=λb e hb he=>by
  cases hρ:ρ b with
  | some e1 =>have:=h b e1 hρ;rw[he] at this;injection this with this;subst this;exact hI.x.new b _ hb hρ
  | none =>
   obtain ⟨g1,g2⟩:=hnew b e hρ he;refine ⟨g1,?_⟩;rcases g2 with g2 | ⟨b0,e0,g3,g4,g5⟩
   ·exact .inl g2
   ·cases h0:ρ0 b0 with
    | some e1 =>have:=hI.x.rle b0 e1 h0;rw[g3] at this;injection this with this;subst this;exact .inr ⟨b0,_,h0,g4,g5⟩
    | none =>
     rcases (hI.x.new b0 e0 h0 g3).2 with g6 | ⟨b1,e1,g6,g7,g8⟩
     ·exact .inl (by omega)
     ·exact .inr ⟨b1,e1,g6,g7,g8.trans g5⟩
 frame:=λr hr hf=>by
  refine (hfr r hr λb e hb hlo he=>?_).trans (hI.x.frame r hr hf);cases h0:ρ0 b with
  | some e1 =>have:=hI.x.rle b e1 h0;rw[hb] at this;injection this with this;subst this;exact hf b _ h0 hlo he
  | none =>
   rcases (hI.x.new b e h0 hb).2 with g6 | ⟨b1,e1,g6,g7,g8⟩
   ·omega
   ·exact hf b1 e1 g6 g7 (g8.trans he)
 size:=YD hI.x.size hs
 os:=h1.trans hI.x.os
 tape:=h2.trans hI.x.tape
 output:=h3.trans hI.x.output
include hV hI hcl ho hready hn hX hE hC hK in
theorem N6 (hw0:Dw o=false) (hnb:¬ Is all cl i) {lo':Nat} (h1:AD X lo' o.dst o.type o.op (S i)=some (v,σ1)) (e2:σ1.h=(S i).h)
  (hk:AD X (S q).h.length o.dst o.type o.op ⟨(S i).s,(S q).bx,(S q).h⟩=some (v,⟨(S i).s,(S q).bx,(S q).h⟩)) (hS:S (i+1)=putS σ1 o.dst v):o.wp P a w K Q:=by
 have hsl:=EQ (s':=rd o (S i).s) (λx hx=>Mx x hx) hk;unfold AD at hsl;refine Fb (lo:=(S q).h.length) (base:=w.heap.size) (σ:=⟨rd o (S i).s,(S q).bx,(S q).h⟩) (K:=λv σ=>some (v,σ)) (r:=(v,⟨rd o (S i).s,(S q).bx,(S q).h⟩)) hX hE hC hsl (O8 hV hI hcl ho hready hn λt c h=>h) hI.h hI.f (YH _) (YH _)
  (λhw=>?_) ?_
 ·rw[hw0] at hw;cases hw
 ·intro v' σ' c w' hk' hf;injection hk' with hk';injection hk' with z1 z2;subst z1;subst z2;obtain ⟨ρ',β',f1,f2,f3,f4,f5,f6,f7,f8⟩:=hf;have hρ:ρ'=ρ:=by
   funext b;cases hb:ρ b with
   | some e=>exact f5.rle b e hb
   | none =>
    cases hb':ρ' b with
    | none=>rfl
    | some e =>have g1:=(f5.new b e hb hb').1;have g2:=(f3.dom b e hb').1;exact absurd g2 (Z9.2 g1)
  have hβ:β'=β:=by
   funext t;cases hb:β t with
   | some r=>exact f6 t r hb
   | none =>
    cases hb':β' t with
    | none=>rfl
    | some r =>have g1:=(f7 t r hb hb').2;obtain ⟨row,_,_,g2,_⟩:=f4.has t r hb';have g1:Ax (S q).bx t=none:=g1;have g2:Ax (S q).bx t=some row:=g2;rw[g1] at g2;cases g2
  subst hρ;subst hβ;have hfr:∀ r,r<w.heap.size->w'.heap[r]?=w.heap[r]?:=λr hr=>f5.frame r hr λb e hb hle=>by have:=(hI.h.dom b e hb).1;exact absurd this (Z9.2 hle)
  have hs:=E7 hV hI hcl ho hready hn hS (IS (s:=(S i).s) (bx:=(S i).bx) (h:=(S i).h) h1) (Rle.refl _) (Ble.refl _) f2;have hx:Ext0 lo base ρ0 (S 0).h.length w0 ρ' w':=HY hI (Rle.refl _) (λb e h1 h2=>by rw[h1] at h2;cases h2) (λr hr _=>hfr r (YT hr hI.hB)) f5.size f5.os f5.tape f5.output;have hh1:(S (i+1)).h=(S i).h:=by rw[hS,LV];exact e2
  obtain ⟨q',hI'⟩:=Lt hI (i:=i) hnb (a':=a.put o.dst c) (w':=w') f3 f4 hs hI.own (YD hI.hB f5.size) (CS hI).1 (CS hI).2 hx
   (λj hj hL b g1 g2=>by
    rcases hL with hL | rfl
    ·exact hI.tot j hj hL b g1 g2
    ·rw[hh1] at g2;omega)
   (λb e hb=>(hI.ids b e hb).imp id λ⟨j,h1,h2,h3⟩=>⟨j,h1,.inl h2,h3⟩)
   (λt r hb=>(hI.bxs t r hb).more)
  exact hK _ _ _ _ _ hI'
include hV hI hcl ho hready hn hX hE hC hK in
theorem Ud (hi:CU o=true) {lo':Nat} (h1:AD X lo' o.dst o.type o.op (S i)=some (v,σ1)) (hS:S (i+1)=putS σ1 o.dst v):o.wp P a w K Q:=by
 obtain ⟨e1,e2,hk⟩:=LF hV.nar (s:=(S i).s) (bx:=(S i).bx) (h:=(S i).h) hi h1;exact N6 hV hI hcl ho hready hn hX hE hC hK (Q5 hi) (λhb=>by
  obtain ⟨_,⟨p,hp,hpi⟩,_⟩:=hb;rw[ho] at hp;injection hp with hp;subst hp;rw[hi] at hpi;cases hpi) h1 e2 (hk _ _ _) hS
include hV in
theorem Tm {p p':Nat} (hpp:p<=p') (hp':p'<=all.length) {u:Nat}
  (hno:∀ k,p<=k->k<p'->Is all cl k->∀ row,Ax (S k).bx u=some row->Ax (S (k+1)).bx u=some row) {row:List V} (hr:Ax (S p).bx u=some row):Ax (S p').bx u=some row:=by
 induction p' with
 | zero=>rw[show 0=p by omega];exact hr
 | succ p' ih =>
  by_cases e:p=p'+1
  ·rw[<- e];exact hr
  ·have h0:=ih (by omega) (by omega) λk h1 h2=>hno k h1 (by omega);by_cases hb:Is all cl p'
   ·exact hno p' (by omega) (by omega) hb row h0
   ·exact hV.bx_same (Nat.le_succ p') (by omega) (λk h1 h2=>by rw[show k=p' by omega];exact hb) h0
include hV in
theorem Tq {p p':Nat} (hpp:p<=p') (hp':p'<=all.length) {b i0 j n:Nat} (hbl:b<(S p).h.length)
  (hno:∀ k,p<=k->k<p'->Is all cl k->ld (S (k+1)).h b i0 j n=ld (S k).h b i0 j n):ld (S p').h b i0 j n=ld (S p).h b i0 j n:=by
 induction p' with
 | zero=>rw[show 0=p by omega]
 | succ p' ih =>
  by_cases e:p=p'+1
  ·rw[<- e]
  ·rw[<- ih (by omega) (by omega) λk h1 h2=>hno k h1 (by omega)];by_cases hb:Is all cl p'
   ·exact hno p' (by omega) (by omega) hb
   ·have hs:=hV.same p' (by omega) hb b (YT hbl (hV.len_le (by omega) (by omega)));unfold ld Heap.rows?;rw[hs]
include hV hI hcl ho hready hn hX hE hC hK in
theorem Ue (hc:cl i=true) (hbn:CV cl i o=none) (hend:∀ a,Ci o=some a->TE (AN [] all) all cl i a=true\/∃ u j,Cg (S i).s a = .lp u j) {lo':Nat} (h1:AD X lo' o.dst o.type o.op (S i)=some (v,σ1)) (hS:S (i+1)=putS σ1 o.dst v):o.wp P a w K Q:=by
 have hil:i<all.length:=(YE.1 ho).1;obtain ⟨t,x,hop,hst⟩:=hV.G.stat i o ho hc hbn;have hnb:¬ Is all cl i:=λhb=>by rw[hb.2.2] at hc;cases hc
 have h1':=h1;rw[hop] at h1';have e2:σ1.h=(S i).h:=(NZ (s:=(S i).s) (bx:=(S i).bx) (h:=(S i).h) h1').2.2;have hl:Ci o=some x:=by unfold Ci;rw[hop]
 have keeps:∀ k,Is all cl k->EM (AN [] all) k i=false->(∀ u j,Cg (S i).s x = .lp u j->∀ row,Ax (S k).bx u=some row->Ax (S (k+1)).bx u=some row) /\
   (∀ b i0 j,Cg (S i).s x = .ptr (some (b,i0,j))->ld (S (k+1)).h b i0 j (X.ty t).size=ld (S k).h b i0 j (X.ty t).size):=λk hb hcm=>by
  obtain ⟨hf,⟨p,hp,hpi⟩,hpc⟩:=hb;have hkl:k<all.length:=(YE.1 hp).1;cases hsk:Hl all x k with
  | true =>
   have hlk:Cg (S k).s x=Cg (S i).s x:=by
    rcases Nat.le_total k i with hki | hik
    ·exact (hV.slot_same hki (ZA hil) λj g1 g2 ⟨q',hq',hd⟩=>Iu hsk g1 hq' hd).symm
    ·exact hV.slot_same hik (ZA hkl) λj g1 g2 ⟨q',hq',hd⟩=>Iu hst.1 g1 hq' hd
   have hk:=(hV.keep k hkl (by unfold Gr;rw[hf];rfl) o (Xr hp hpi hpc ho hc hcm hl hsk)).1 t (.tmp x) hop;exact ⟨λu j hx row hr=>hk.1 u j row (by show Cg (S k).s x=_;rw[hlk];exact hx) hr,λb i0 j hx=>hk.2 b i0 j (by show Cg (S k).s x=_;rw[hlk];exact hx)⟩
  | false =>
   obtain ⟨u,j,hx⟩:=(hend x hl).resolve_left λhe=>by rw[SQ he hp hpi hpc hcm hf] at hsk;cases hsk
   rw[hx];refine ⟨λu' j' e row hr=>?_,λb i0 j' e=>(by cases e)⟩;rcases hV.step k p hp with ⟨_,_,v',σ',g1,g2⟩ | ⟨_,_,g2⟩ | ⟨_,_,_,g2⟩
   ·rw[g2,FJ];refine FV (s:=(S k).s) (bx:=(S k).bx) (h:=(S k).h) g1 (λt' y z he=>?_) hr;have hso:Ep p=true:=by unfold Ep;rw[he]
    rcases hst.2 k p hp hso with g | g
    ·rw[hcm] at g;cases g
    ·rw[hsk] at g;cases g
   ·rw[g2,FJ];exact hr
   ·rw[g2,FJ];exact hr
 have apart:∀ k,Is all cl k->(i<=k/\k<q)\/(q<=k/\k<i)->EM (AN [] all) k i=false:=λk hb hk=>by
  cases hcm:EM (AN [] all) k i with
  | false=>rfl
  | true =>
   exfalso;have hb0:=hb;obtain ⟨hf,⟨p,hp,hpi⟩,hpc⟩:=hb;have hkl:k<all.length:=(YE.1 hp).1;have hne:k≠i:=λe=>hnb (e ▸ hb0);have hiff:=GU hV.G hcl ho hp hready hn hne (.inr hcm);rcases hk with ⟨g1,g2⟩ | ⟨g1,g2⟩
   ·have:=hiff.1 (hI.q3 k g2 hb0);omega
   ·have hLk:=hiff.2 g2;obtain ⟨hbq,hnq⟩:=hI.q2 (by omega);by_cases e:k=q
    ·exact hnq (e ▸ hLk)
    ·have hcm2:=OD hbq.1 hp (by omega) hpi hpc;obtain ⟨_,⟨pq,hpq,_⟩,_⟩:=hbq;have hbit:((AN [] all).getD k 0).testBit q=true:=by
      unfold EM at hcm2;split at hcm2
      ·rename_i h2
       have:=PQ hV.G q pq k hpq h2;omega
      ·exact hcm2
     exact hnq (G7 hV.G hcl k _ q hp (hcl k _ hp hLk) hbit)
 have sv:=JO hV hI hcl ho hready hn (t:=x) (by
  unfold CA O7;rw[hop];simp[Op.operands,Ht])
 have fin:∀ {v':V},v'=v->AD X (S q).h.length o.dst o.type (.load t (.tmp x)) ⟨(S i).s,(S q).bx,(S q).h⟩=some (v',⟨(S i).s,(S q).bx,(S q).h⟩)->o.wp P a w K Q:=λ{v'} e hk2=>by subst e;rw[<- hop] at hk2;exact N6 hV hI hcl ho hready hn hX hE hC hK (by unfold Dw;rw[hop]) hnb h1 e2 hk2 hS
 rcases Uv (s:=(S i).s) (bx:=(S i).bx) (h:=(S i).h) h1' with ⟨u,j,hx⟩ | ⟨b,i0,j,hx⟩
 ·obtain ⟨row,hrow,hk⟩:=WB (s:=(S i).s) (bx:=(S i).bx) (h:=(S i).h) hx h1';have hxl:Cg (S i).s x = .lp u j:=hx;rw[hxl] at sv;obtain ⟨r,hr,_⟩:=sv;obtain ⟨row',_,_,hrow',_⟩:=hI.f.has u r hr;have hq:Ax (S q).bx u=some row:=by
   rcases Nat.le_total i q with hiq | hqi
   ·exact Tm hV hiq hI.q1 (λk g1 g2 hb=>(keeps k hb (apart k hb (.inl ⟨g1,g2⟩))).1 u j hxl) hrow
   ·have:=Tm hV hqi (ZA hil) (λk g1 g2 hb=>(keeps k hb (apart k hb (.inr ⟨g1,g2⟩))).1 u j hxl) hrow';rw[hrow] at this;injection this with this;subst this;exact hrow'
  exact fin rfl (hk (S q).h.length (S q).bx (S q).h hq)
 ·obtain ⟨cs,hcs,hk⟩:=Vb (s:=(S i).s) (bx:=(S i).bx) (h:=(S i).h) hx h1';have hxl:Cg (S i).s x = .ptr (some (b,i0,j)):=hx;rw[hxl] at sv;have hρ:∃ e,ρ b=some e:=by have sv:VR ρ (.ptr (some (b,i0,j))) (a.tmps.getD x undef):=sv;simp only[VR] at sv;obtain ⟨e,he,_⟩:=sv;exact ⟨e,he⟩
  obtain ⟨e,he⟩:=hρ;have hq:ld (S q).h b i0 j (X.ty t).size=some cs:=by
   rcases Nat.le_total i q with hiq | hqi
   ·have hbl:b<(S i).h.length:=by obtain ⟨R,el,ro,rs,row,g1,_⟩:=Tp hcs;exact (YE.1 g1).1
    rw[Tq hV hiq hI.q1 hbl (λk g1 g2 hb=>(keeps k hb (apart k hb (.inl ⟨g1,g2⟩))).2 b i0 j hxl)];exact hcs
   ·have hbl:b<(S q).h.length:=(hI.h.dom b e he).1;rw[<- Tq hV hqi (ZA hil) hbl (λk g1 g2 hb=>(keeps k hb (apart k hb (.inr ⟨g1,g2⟩))).2 b i0 j hxl)];exact hcs
  exact fin rfl (hk (S q).h.length (S q).bx (S q).h hq)
include hV hI hcl ho hready hn hX hE hC hK in
theorem WG {tb eb:Nat} (hbx:CV cl i o=some (tb,eb)) (hS:S (i+1)=putS (S i) o.dst (.lp tb 0)):o.wp P a w K Q:=by
 have hil:i<all.length:=(YE.1 ho).1;obtain ⟨hc,hop,hdst,hm⟩:=DE hbx;obtain ⟨k1,k2,k3,k4⟩:=hV.box i o ho tb eb hbx;have hnb:¬ Is all cl i:=λhb=>by rw[hb.2.2] at hc;cases hc
 have hM:=(hV.G.box i o tb eb ho hbx).1;have row:∀ p,p<=q->Ax (S p).bx tb=some (X.ty eb).zero:=by
  intro p;induction p with
  | zero=>intro _;exact k4
  | succ p ih =>
   intro hp;have hpl:p<all.length:=by have:=hI.q1;omega
   refine RC hV.G hV.step (λj o' hj=>hV.keep j (YE.1 hj).1) ho hbx hpl (λhb=>?_) (ih (by omega));have hLp:=hI.q3 p (by omega) hb;cases hcm:EM (AN [] all) p i with
   | false=>rfl
   | true =>exfalso;have hg:all[p]?=some all[p]:=YU hpl;have hne:p≠i:=λe=>hn (e ▸ hLp);have h1:=(GU hV.G hcl ho hg hready hn hne (.inr hcm)).1 hLp;rw[H9 hV.G ho hbx hg (by omega)] at hcm;cases hcm
 have hβ:β tb=none:=by
  cases hb:β tb with
  | none=>rfl
  | some r =>
   exfalso;rcases hI.bxs tb r hb with ⟨r0,g⟩ | ⟨j,g1,g2,g3,_⟩ | ⟨j,o',e',g1,g2,g3⟩
   ·rw[k3] at g;cases g
   ·have:=hV.bx_some (Y3 j) (ZA g1) (t:=tb) (by rw[k4];rfl);rw[g3] at this;cases this
   ·have hne:j≠i:=λe=>hn (e ▸ g1);have d1:=(DE g3).2.2.1;rcases Nat.lt_or_ge j i with h | h
    ·rcases hV.G.pair j i o' o g2 ho h with g4 | ⟨g4,_⟩
     ·rw[H9 hV.G ho hbx g2 (ZA h)] at g4;cases g4
     ·exact HA (t:=tb) g4 (by rw[d1];simp) (by unfold CA;rw[hdst];simp)
    ·rcases hV.G.pair i j o o' ho g2 (by omega) with g4 | ⟨g4,_⟩
     ·rw[H9 hV.G g2 g3 ho h] at g4;cases g4
     ·exact HA (t:=tb) g4 (by rw[hdst];simp) (by unfold CA;rw[d1];simp)
 have h1:=LG (lo':=(S q).h.length) (s:=rd o (S i).s) (h:=(S q).h) (bx:=EO tb (S q).bx) hop hdst k1 k2 (by rw[CN,if_pos rfl]);unfold AD at h1;have hf0:FRel ρ β (EO tb (S q).bx) w:=hI.f.sub λt r hr=>by rw[CN,if_neg (λe=>by rw[e,hβ] at hr;cases hr)]
 refine Fb (lo:=(S q).h.length) (base:=w.heap.size) (σ:=⟨rd o (S i).s,EO tb (S q).bx,(S q).h⟩) (K:=λv σ=>some (v,σ)) (r:=(.lp tb 0,_)) hX hE hC h1 (O8 hV hI hcl ho hready hn λt c h=>h) hI.h hf0 (YH _) (YH _)
  (λhw=>by unfold Dw at hw;rw[hop] at hw;cases hw) ?_
 intro v' σ' c w' hk' hf;injection hk' with hk';injection hk' with z1 z2;subst z1;subst z2;obtain ⟨ρ',β',f1,f2,f3,f4,f5,f6,f7,f8⟩:=hf;have hρ:ρ'=ρ:=by
  funext b;cases hb:ρ b with
  | some e=>exact f5.rle b e hb
  | none =>
   cases hb':ρ' b with
   | none=>rfl
   | some e =>have g1:=(f5.new b e hb hb').1;have g2:=(f3.dom b e hb').1;exact absurd g2 (Z9.2 g1)
 subst hρ;have hfr:∀ r,r<w.heap.size->w'.heap[r]?=w.heap[r]?:=λr hr=>f5.frame r hr λb e hb hle=>by have:=(hI.h.dom b e hb).1;exact absurd this (Z9.2 hle)
 have hF:FRel ρ' β' (S q).bx w':=f4.sub λt r hr=>by
  show Ax (S q).bx t=Ax ((tb,(X.ty eb).zero) :: EO tb (S q).bx) t;rw[AY,CN];by_cases e:tb=t
  ·rw[if_pos e,<- e];exact row q (YH _)
  ·rw[if_neg e,if_neg (λe'=>e e'.symm)]
 have hs:=E7 hV hI hcl ho hready hn hS rfl (Rle.refl _) f6 f2;have hx:Ext0 lo base ρ0 (S 0).h.length w0 ρ' w':=HY hI (Rle.refl _) (λb e h1 h2=>by rw[h1] at h2;cases h2) (λr hr _=>hfr r (YT hr hI.hB)) f5.size f5.os f5.tape f5.output;have hh1:(S (i+1)).h=(S i).h:=by rw[hS,LV]
 obtain ⟨q',hI'⟩:=Lt hI (i:=i) hnb (ρ2:=ρ') (β2:=β') (a':=a.put o.dst c) (w':=w') f3 hF hs (λt r hr=>by
   cases hb:β t with
   | some r0 =>have:=f6 t r0 hb;rw[hr] at this;injection this with this;subst this;exact hI.own t _ hb
   | none=>exact YD hI.hB (f7 t r hb hr).1) (YD hI.hB f5.size) (CS hI).1 (CS hI).2 hx
  (λj hj hL b g1 g2=>by
   rcases hL with hL | rfl
   ·exact hI.tot j hj hL b g1 g2
   ·rw[hh1] at g2;omega)
  (λb e hb=>(hI.ids b e hb).imp id λ⟨j,h1,h2,h3⟩=>⟨j,h1,.inl h2,h3⟩)
  (λt r hr=>by
   cases hb:β t with
   | some r0=>exact (hI.bxs t r0 hb).more
   | none =>
    have h7:Ax (EO tb (S q).bx) t=none:=(f7 t r hb hr).2;obtain ⟨row',_,_,g2,_⟩:=f4.has t r hr;have g2:Ax ((tb,(X.ty eb).zero) :: EO tb (S q).bx) t=some row':=g2;rw[AY,h7] at g2;by_cases e:tb=t
    ·exact .inr (.inr ⟨i,o,eb,.inr rfl,ho,by rw[<- e];exact hbx⟩)
    ·rw[if_neg e] at g2;cases g2)
 exact hK _ _ _ _ _ hI'
include hV hI hcl ho hready hn hX hE hC hK in
theorem WH (hb:Is all cl i) (h1:AD X lo o.dst o.type o.op (S i)=some (v,σ1)) (hS:S (i+1)=putS σ1 o.dst v):o.wp P a w K Q:=by
 have hq:=PR hV hI hcl ho hready hn hb;have hil:i<all.length:=(YE.1 ho).1;have hsl:=EQ (s:=(S i).s) (bx:=(S i).bx) (h:=(S i).h) (s':=rd o (S i).s) (λx hx=>Mx x hx) h1;obtain ⟨ρt,βt,at',wt,hot,hmt⟩:=hV.ok i (ZA hil);have hh0:HRel ρ (S i).h w:=by rw[hq];exact hI.h
 have hf0:FRel ρ β (S i).bx w:=by rw[hq];exact hI.f
 unfold AD at hsl;refine Fb (lo:=lo) (base:=base) (σ:=⟨rd o (S i).s,(S i).bx,(S i).h⟩) (K:=λv σ=>some (v,σ)) (r:=(v,⟨rd o (S i).s,σ1.bx,σ1.h⟩)) hX hE hC hsl (O8 hV hI hcl ho hready hn λt c h=>h) hh0 hf0 hI.hB hot.hlo (λ_=>hI.own) ?_;intro v' σ' c w' hk' hf;injection hk' with hk';injection hk' with z1 z2;subst z1;subst z2;obtain ⟨ρ',β',f1,f2,f3,f4,f5,f6,f7,f8⟩:=hf;have hs:=E7 hV hI hcl ho hready hn hS (IS (s:=(S i).s) (bx:=(S i).bx) (h:=(S i).h) h1) f5.rle f6 f2;have e1:(S (i+1)).h=σ1.h:=by rw[hS,LV]
 have e2:(S (i+1)).bx=σ1.bx:=by rw[hS,FJ]
 have hx:Ext0 lo base ρ0 (S 0).h.length w0 ρ' w':=HY hI f5.rle (λb e h1 h2=>by
   obtain ⟨g1,g2⟩:=f5.new b e h1 h2;exact ⟨YD (hV.len_le (Y3 i) (ZA hil)) g1,g2⟩) f5.frame f5.size f5.os f5.tape f5.output
 obtain ⟨q',hI'⟩:=Tv hV hI hcl ho hready hn hb (ρ2:=ρ') (β2:=β') (a':=a.put o.dst c) (w':=w') (by rw[e1];exact f3) (by rw[e2];exact f4) hs (λt r hr=>by
   cases hb:β t with
   | some r0 =>have:=f6 t r0 hb;rw[hr] at this;injection this with this;subst this;exact hI.own t _ hb
   | none=>exact YD hI.hB (f7 t r hb hr).1) (YD hI.hB f5.size) (CS hI).1 (CS hI).2 hx
  (λj hj hL b g1 g2=>by
   rcases hL with hL | rfl
   ·obtain ⟨e,he⟩:=hI.tot j hj hL b g1 g2;exact ⟨e,f5.rle b e he⟩
   ·rw[e1] at g2;exact f5.tot b g1 g2)
  (λb e hb=>by
   cases hρ:ρ b with
   | some e0=>exact (hI.ids b e0 hρ).imp id λ⟨j,h1,h2,h3⟩=>⟨j,h1,.inl h2,h3⟩
   | none =>
    exact .inr ⟨i,hil,.inr rfl,(f5.new b e hρ hb).1,by rw[e1];exact (f3.dom b e hb).1⟩)
  (λt r hr=>by
   cases hb:β t with
   | some r0=>exact (hI.bxs t r0 hb).more
   | none =>
    obtain ⟨row,_,_,g2,_⟩:=f4.has t r hr;exact .inr (.inl ⟨i,hil,.inr rfl,(f7 t r hb hr).2,by rw[e2];rw[g2];rfl⟩))
 exact hK _ _ _ _ _ hI'
end
end Go.Proofs.YtoocmbhkaghgnaaGreat.T
namespace Go.Proofs.YtoocmbhkaghgnaaGreat.T
open Go
section
variable {P:Program}{X:Ctx}{lo base nt:Nat}{ρ0:Rho}{β0:Bet}{w0:World}{all:List Oper}{cl:Nat->Bool}{S:Nat->St} (hV:Env P X lo base nt ρ0 β0 w0 all cl S)
variable {L:Nat->Prop}{q:Nat}{ρ:Rho}{β:Bet}{a:Act}{w:World} (hI:Inv lo base nt ρ0 β0 w0 all cl S L q ρ β a w)
variable (hcl:∀ (i:Nat) (o:Oper),all[i]?=some o->L i->∀ e∈o.after.toList,B3 e=true->L e.on)
variable {i:Nat}{o:Oper} (ho:all[i]?=some o) (hready:∀ e∈o.after.toList,B3 e=true->L e.on) (hn:¬ L i)
variable (hX:X.ty=Az P) (hE:∀ t,X.cmp t=true->EqOk P t) (hC:SC P X.call)
variable {K:Act->World->Prop}{Q:Exit->Act->World->Prop}
 (hK:∀ q' ρ' β' a' w',Inv lo base nt ρ0 β0 w0 all cl S (λj=>L j\/j=i) q' ρ' β' a' w'->K a' w')
def Rho.mix (n:Nat) (ρ ρ':Rho):Rho:=λb=>if b<n then ρ b else match ρ b with | some e=>some e | none=>ρ' b
def Bet.mix (β β':Bet):Bet:=λt=>match β t with | some r=>some r | none=>β' t
include hV hI hcl ho hready hn hX hE hC hK in
theorem Vj (hb:¬ Is all cl i) (hi:CU o=false) (hci:cl i=false) {v:V}{σ1:St} (h1:AD X (S i).h.length o.dst o.type o.op (S i)=some (v,σ1)) (hS:S (i+1)=putS σ1 o.dst v):o.wp P a w K Q:=by
 obtain ⟨hiq,hnb⟩:=Wl hV hI hcl ho hready hn hb hi hci;have hil:i<all.length:=(YE.1 ho).1;have hsl:=EQ (s:=(S i).s) (bx:=(S i).bx) (h:=(S i).h) (s':=rd o (S i).s) (λx hx=>Mx x hx) h1;obtain ⟨βt,hβt,hh0,hf0,hs0⟩:=WV hV hI (ZA hiq) hnb;unfold AD at hsl;refine Fb (lo:=(S i).h.length) (base:=w.heap.size) (σ:=⟨rd o (S i).s,(S i).bx,(S i).h⟩) (K:=λv σ=>some (v,σ)) (r:=(v,⟨rd o (S i).s,σ1.bx,σ1.h⟩)) hX hE hC hsl (O8 hV hI hcl ho hready hn hs0) hh0 hf0 (YH _) (YH _) (λhw=>?_) ?_
 ·exact absurd ⟨hV.G.wr i o ho hw,⟨o,ho,hi⟩,hci⟩ hb
 intro v' σ' c w' hk' hf;injection hk' with hk';injection hk' with z1 z2;subst z1;subst z2;obtain ⟨ρ',β',f1,f2,f3,f4,f5,f6,f7,f8⟩:=hf;have e1:(S (i+1)).h=σ1.h:=by rw[hS,LV]
 have e2:(S (i+1)).bx=σ1.bx:=by rw[hS,FJ]
 have hfr:∀ r,r<w.heap.size->w'.heap[r]?=w.heap[r]?:=λr hr=>f5.frame r hr λb e hb hle=>by have:=(Rho.low_some hb).1;exact absurd this (Z9.2 hle)
 have hq:=hI.q1;have hnb':∀ k,i+1<=k->k<q->¬ Is all cl k:=λk h1 h2=>hnb k (by omega) h2;have hlen1:σ1.h.length<=(S q).h.length:=by rw[<- e1];exact hV.len_le hiq hq
 have hsame1:∀ b,b<σ1.h.length->(S q).h[b]?=σ1.h[b]?:=λb hb=>by rw[<- e1] at hb ⊢;exact hV.same_le hiq hq hnb' hb
 have hfresh:∀ b,(S i).h.length<=b->b<σ1.h.length->ρ b=none:=λb g1 g2=>by
  cases hρ:ρ b with
  | none=>rfl
  | some e =>
   rcases hI.ids b e hρ with g | ⟨j,g3,g4,g5,g6⟩
   ·have:=hV.len_le (Y3 i) (ZA hil);omega
   ·have hne:j≠i:=λe=>hn (e ▸ g4);rcases Nat.lt_or_ge j i with h | h
    ·have:=hV.len_le (show j+1<=i by omega) (ZA hil);omega
    ·have:=hV.len_le (show i+1<=j by omega) (ZA g3);rw[e1] at this;omega
 have hnew:∀ b e,ρ b=none->ρ' b=some e->(S i).h.length<=b/\b<σ1.h.length/\w.heap.size<=e.r:=λb e g1 g2=>by
  have hl:ρ.low (S i).h.length b=none:=by unfold Rho.low;split<;>first | exact g1 | rfl
  obtain ⟨g3,g4⟩:=f5.new b e hl g2;refine ⟨g3,(f3.dom b e g2).1,g4.resolve_right ?_⟩
  rintro ⟨b0,e0,g5,g6,_⟩
  have:=(Rho.low_some g5).1;exact absurd this (Z9.2 g6)
 have hmix:∀ b e,Rho.mix (S i).h.length ρ ρ' b=some e->ρ b=some e\/(ρ b=none/\ρ' b=some e):=λb e g=>by
  unfold Rho.mix at g;split at g
  ·exact .inl g
  ·split at g
   ·rename_i e' h';exact .inl (by rw[h',g])
   ·rename_i h';exact .inr ⟨h',g⟩
 have hle:Rle ρ (Rho.mix (S i).h.length ρ ρ'):=λb e g=>by
  unfold Rho.mix;split
  ·exact g
  ·rw[g]
 have hle':Rle ρ' (Rho.mix (S i).h.length ρ ρ'):=λb e g=>by
  have hd:=(f3.dom b e g).1;unfold Rho.mix;split
  ·rename_i hlt
   cases hl:ρ.low (S i).h.length b with
   | some e' =>have:=f5.rle b e' hl;rw[g] at this;injection this with this;subst this;exact (Rho.low_some hl).2
   | none=>have:=(f5.new b e hl g).1;exact absurd hlt (Z9.2 this)
  ·rename_i hge
   rw[hfresh b (Z9.1 hge) hd];exact g
 have hble:Ble β (Bet.mix β β'):=λt r g=>by unfold Bet.mix;rw[g]
 have hnewB:∀ t r,β t=none->β' t=some r->w.heap.size<=r/\Ax (S i).bx t=none:=λt r g1 g2=>by
  have hl:Bet.low βt β t=none:=by unfold Bet.low;split<;>first | exact g1 | rfl
  exact f7 t r hl g2
 have hble':Ble β' (Bet.mix β β'):=λt r g=>by
  unfold Bet.mix;cases hb:β t with
  | none=>exact g
  | some r0 =>
   show some r0=some r;by_cases hlk:(βt t).isSome=true
   ·have:=f6 t r0 (Bet.low_of hlk hb);rw[g] at this;exact this.symm
   ·have hl:Bet.low βt β t=none:=by unfold Bet.low;rw[if_neg hlk]
    have hnone:=(f7 t r hl g).2;obtain ⟨row,_,_,g2,_⟩:=f4.has t r g;have hsome1:(Ax (S (i+1)).bx t).isSome=true:=by rw[e2];show (Ax σ1.bx t).isSome=true;rw[g2];rfl
    exfalso;have hnone:Ax (S i).bx t=none:=hnone;rcases hI.bxs t r0 hb with ⟨r1,g3⟩ | ⟨j,g3,g4,g5,g6⟩ | ⟨j,o',e',g3,g4,g5⟩
    ·exact hlk (by rw[hβt t r1 g3];rfl)
    ·have hne:j≠i:=λe=>hn (e ▸ g4);rcases Nat.lt_or_ge j i with h | h
     ·have:=hV.bx_some (show j+1<=i by omega) (ZA hil) g6;rw[hnone] at this;cases this
     ·have:=hV.bx_some (show i+1<=j by omega) (ZA g3) hsome1;rw[g5] at this;cases this
    ·have:=hV.bx_some (Y3 i) (ZA hil) (t:=t) (by rw[(hV.box j o' g4 t e' g5).2.2.2];rfl);rw[hnone] at this;cases this
 have hmixB:∀ t r,Bet.mix β β' t=some r->β t=some r\/(β t=none/\β' t=some r):=λt r g=>by
  unfold Bet.mix at g;split at g
  ·rename_i r' h';exact .inl (by rw[h',g])
  ·rename_i h';exact .inr ⟨h',g⟩
 have hs:=E7 hV hI hcl ho hready hn hS (IS (s:=(S i).s) (bx:=(S i).bx) (h:=(S i).h) h1) hle hble (c:=c) (f2.mono hle' hble');have hx:Ext0 lo base ρ0 (S 0).h.length w0 (Rho.mix (S i).h.length ρ ρ') w':=HY hI hle (λb e g1 g2=>by
   rcases hmix b e g2 with g | ⟨_,g⟩
   ·rw[g1] at g;cases g
   ·obtain ⟨g3,_,g4⟩:=hnew b e g1 g;exact ⟨YD (hV.len_le (Y3 i) (ZA hil)) g3,.inl (YD hI.hB g4)⟩) (λr hr _=>hfr r (YT hr hI.hB)) f5.size f5.os f5.tape f5.output
 have hH:HRel (Rho.mix (S i).h.length ρ ρ') (S q).h w':=by
  refine ⟨λb e g=>?_,λb e k g hk=>?_,λb b' e e' g g' hr hne=>?_⟩
  ·rcases hmix b e g with g | ⟨_,g⟩
   ·exact ⟨(hI.h.dom b e g).1,YT (hI.h.dom b e g).2 f5.size⟩
   ·exact ⟨YT (f3.dom b e g).1 hlen1,(f3.dom b e g).2⟩
  ·rcases hmix b e g with g | ⟨_,g⟩
   ·exact BR.mono hle (hfr _ (hI.h.dom b e g).2) (hI.h.blk b e k g hk)
   ·rw[hsame1 b (f3.dom b e g).1] at hk;exact BR.mono hle' rfl (f3.blk b e k g hk)
  ·rcases hmix b e g with g | ⟨g0,g⟩<;>rcases hmix b' e' g' with g' | ⟨g0',g'⟩
   ·exact hI.h.inj b b' e e' g g' hr hne
   ·have h1:=(hI.h.dom b e g).2;have h2:=(hnew b' e' g0' g').2.2;omega
   ·have h1:=(hI.h.dom b' e' g').2;have h2:=(hnew b e g0 g).2.2;omega
   ·have s1:=hsame1 b (f3.dom b e g).1;have s2:=hsame1 b' (f3.dom b' e' g').1;rcases f3.inj b b' e e' g g' hr hne with h | h | ⟨⟨x,y,z,h⟩,⟨x',y',z',h'⟩⟩
    ·exact .inl (by unfold Bn at *;rw[s1];exact h)
    ·exact .inr (.inl (by unfold Bn at *;rw[s2];exact h))
    ·exact .inr (.inr ⟨⟨x,y,z,by rw[s1];exact h⟩,⟨x',y',z',by rw[s2];exact h'⟩⟩)
 have hF:FRel (Rho.mix (S i).h.length ρ ρ') (Bet.mix β β') (S q).bx w':=by
  refine ⟨λt r g=>?_,λt r g=>?_,λt t' r g g'=>?_,λt r b e g g'=>?_⟩
  ·rcases hmixB t r g with g | ⟨_,g⟩
   ·obtain ⟨row,cs,el,k1,k2,k3⟩:=hI.f.has t r g;exact ⟨row,cs,el,k1,(hfr r (hI.f.lt t r g)).trans k2,VRs.mono hle _ _ k3⟩
   ·obtain ⟨row,cs,el,k1,k2,k3⟩:=f4.has t r g;refine ⟨row,cs,el,?_,k2,VRs.mono hle' _ _ k3⟩;exact hV.bx_same hiq hq hnb' (by rw[e2];exact k1)
  ·rcases hmixB t r g with g | ⟨_,g⟩
   ·exact YT (hI.f.lt t r g) f5.size
   ·exact f4.lt t r g
  ·rcases hmixB t r g with g | ⟨g0,g⟩<;>rcases hmixB t' r g' with g' | ⟨g0',g'⟩
   ·exact hI.f.inj t t' r g g'
   ·have h1:=hI.f.lt t r g;have h2:=(hnewB t' r g0' g').1;omega
   ·have h1:=hI.f.lt t' r g';have h2:=(hnewB t r g0 g).1;omega
   ·exact f4.inj t t' r g g'
  ·rcases hmixB t r g with g | ⟨g0,g⟩<;>rcases hmix b e g' with g' | ⟨g0',g'⟩
   ·exact hI.f.off t r b e g g'
   ·have h1:=hI.f.lt t r g;have h2:=(hnew b e g0' g').2.2;omega
   ·have h1:=(hI.h.dom b e g').2;have h2:=(hnewB t r g0 g).1;omega
   ·exact f4.off t r b e g g'
 obtain ⟨q',hI'⟩:=Lt hI (i:=i) hb (ρ2:=Rho.mix (S i).h.length ρ ρ') (β2:=Bet.mix β β') (a':=a.put o.dst c) (w':=w') hH hF hs (λt r g=>by
   rcases hmixB t r g with g | ⟨g0,g⟩
   ·exact hI.own t r g
   ·exact YD hI.hB (hnewB t r g0 g).1) (YD hI.hB f5.size) (CS hI).1 (CS hI).2 hx
  (λj hj hL b g1 g2=>by
   rcases hL with hL | rfl
   ·obtain ⟨e,he⟩:=hI.tot j hj hL b g1 g2;exact ⟨e,hle b e he⟩
   ·rw[e1] at g2;obtain ⟨e,he⟩:=f5.tot b g1 g2;exact ⟨e,hle' b e he⟩)
  (λb e g=>by
   rcases hmix b e g with g | ⟨g0,g⟩
   ·exact (hI.ids b e g).imp id λ⟨j,h1,h2,h3⟩=>⟨j,h1,.inl h2,h3⟩
   ·obtain ⟨g3,g4,_⟩:=hnew b e g0 g;exact .inr ⟨i,hil,.inr rfl,g3,by rw[e1];exact g4⟩)
  (λt r g=>by
   rcases hmixB t r g with g | ⟨g0,g⟩
   ·exact (hI.bxs t r g).more
   ·obtain ⟨row,_,_,g2,_⟩:=f4.has t r g;have g2:Ax σ1.bx t=some row:=g2;exact .inr (.inl ⟨i,hil,.inr rfl,(hnewB t r g0 g).2,by rw[e2,g2];rfl⟩))
 exact hK _ _ _ _ _ hI'
end
end Go.Proofs.YtoocmbhkaghgnaaGreat.T
namespace Go.Proofs.YtoocmbhkaghgnaaGreat.T
open Go
theorem OT (e:Edge):Region.binds .any e=B3 e:=by obtain ⟨on,g⟩:=e;cases g<;>rfl
section
variable {P:Program}{X:Ctx}{lo base nt:Nat}{ρ0:Rho}{β0:Bet}{w0:World}{ops:Array Oper}{cl:Nat->Bool}{S:Nat->St} (hV:Env P X lo base nt ρ0 β0 w0 ops.toList cl S)
variable (hX:X.ty=Az P) (hE:∀ t,X.cmp t=true->EqOk P t) (hC:SC P X.call)
variable {Q:Exit->Act->World->Prop}
theorem T2 {n b:Nat} (hn:n<=ops.toList.length) (h1:(S 0).h.length<=b) (h2:b<(S n).h.length):∃ j,j<n/\(S j).h.length<=b/\b<(S (j+1)).h.length:=by
 induction n with
 | zero=>omega
 | succ n ih =>
  by_cases h:b<(S n).h.length
  ·obtain ⟨j,g1,g2⟩:=ih (by omega) h;exact ⟨j,by omega,g2⟩
  ·exact ⟨n,by omega,by omega,h2⟩
include hV in
theorem Tu {L:Nat->Prop}{q:Nat}{ρ:Rho}{β:Bet}{a:Act}{w:World} (hI:Inv lo base nt ρ0 β0 w0 ops.toList cl S L q ρ β a w) (hall:∀ j,j<ops.toList.length->L j) :
  Ok lo base nt ρ β (S ops.toList.length) a w/\Ext lo base ρ0 (S 0).h w0 ρ (S ops.toList.length).h w:=by
 have hq:q=ops.toList.length:=by
  rcases Nat.lt_or_ge q ops.toList.length with h | h
  ·exact absurd (hall q h) (hI.q2 h).2
  ·exact Nat.le_antisymm hI.q1 h
 have h1:=hI.h;have h2:=hI.f;rw[hq] at h1 h2;obtain ⟨ρt,βt,at',wt,hot,hmt⟩:=hV.ok _ (YH _);refine ⟨⟨λt=>?_,h1,h2,hI.own,hI.hB,hot.hlo,hI.nt,hI.df⟩,⟨hI.x.rle,hI.x.new,hI.x.frame,hI.x.size,hI.x.os,hI.x.tape,hI.x.output,hV.len_le (Y3 _) (YH _),hmt.1.pres,λb g1 g2=>?_⟩⟩
 ·refine hI.s t _ (YH _) λj hw=>?_;obtain ⟨p,hp,_⟩:=hw;have hj:=(YE.1 hp).1;exact ⟨λ_=>hj,λ_=>hall j hj⟩
 ·obtain ⟨j,g3,g4,g5⟩:=T2 (YH _) g1 g2;exact hI.tot j g3 (hall j g3) b g4 g5
include hV hX hE hC in
theorem XZ (hend:∀ (i:Nat) (o:Oper),ops.toList[i]?=some o->cl i=true->∀ a,Ci o=some a->TE (AN [] ops.toList) ops.toList cl i a=true\/∃ u j,Cg (S i).s a = .lp u j) (hQ:∀ ρ' β' a' w',Ok lo base nt ρ' β' (S ops.toList.length) a' w'->Ext lo base ρ0 (S 0).h w0 ρ' (S ops.toList.length).h w'->Q .normal a' w') :
  ∀ (fuel:Nat) (listed:Array Bool) (q:Nat) (ρ:Rho) (β:Bet) (a:Act) (w:World),listed.size=ops.size->listed.toList.count false<=fuel ->
   (∀ (i:Nat) (o:Oper),ops.toList[i]?=some o->listed.getD i false=true->∀ e∈o.after.toList,B3 e=true->listed.getD e.on false=true) ->
   Inv lo base nt ρ0 β0 w0 ops.toList cl S (λj=>listed.getD j false=true) q ρ β a w->wpAny P .any ops Q fuel listed a w:=by
 have hnone:∀ (listed:Array Bool),listed.size=ops.size->(∀ (i:Nat) (o:Oper),ops.toList[i]?=some o->listed.getD i false=true->∀ e∈o.after.toList,B3 e=true->listed.getD e.on false=true)->Region.ready .any ops listed = []->∀ j,j<ops.toList.length->listed.getD j false=true:=by
  intro listed hsz hcl hr j;induction j using Nat.strongRecOn with
  | _ j ih =>
   intro hj;cases hl:listed.getD j false with
   | true=>rfl
   | false =>
    exfalso;have hj':j<ops.size:=by simpa using hj
    have hlt:j<listed.size:=by omega
    have hmem:j∈Region.ready .any ops listed:=by
     unfold Region.ready;rw[List.mem_filter];refine ⟨by simpa using hj',?_⟩;have h1:listed.getD j true=false:=by rw[YY,Zn hlt] at hl ⊢;simpa using hl
     rw[h1];have h2:ops[j]?=some ops[j]:=Zn hj';rw[h2];simp only[ZN,ZP,Zo,YP];rw[Array.all_eq_true'];intro e he;cases hb:B3 e with
     | false=>rw[OT,hb];rfl
     | true =>have hlt2:=hV.G.edge j ops[j] (by simpa using h2) e (by simpa using he) hb;rw[ih e.on hlt2 (by omega)];simp
    rw[hr] at hmem;cases hmem
 intro fuel;induction fuel with
 | zero =>
  intro listed q ρ β a w hsz hcnt hcl hI;have hall:∀ j,j<ops.toList.length->listed.getD j false=true:=λj hj=>by
   have hj':j<listed.size:=by
                    have:j<ops.size:=by simpa using hj
                    omega
   have h0:listed.toList.count false=0:=by omega
   rw[List.count_eq_zero] at h0;rw[YY,Zn hj'];cases hv:listed[j] with
   | true=>rfl
   | false=>exact absurd (by rw[<- hv];simp) h0
  refine ⟨?_,?_⟩
  ·unfold Region.ready;rw[List.filter_eq_nil_iff];intro j hj;have hj2:j<ops.size:=by simpa using hj
   have:=hall j (by simpa using hj2);have hj':j<listed.size:=by omega
   rw[YY,Zn hj'] at this;have h1:listed.getD j true=true:=by rw[YY,Zn hj'];simpa using this
   rw[h1];simp
  ·obtain ⟨h1,h2⟩:=Tu hV hI hall;exact hQ _ _ _ _ h1 h2
 | succ fuel ih =>
  intro listed q ρ β a w hsz hcnt hcl hI;refine ⟨λhr=>?_,λi hi=>?_⟩
  ·obtain ⟨h1,h2⟩:=Tu hV hI (hnone listed hsz hcl hr);exact hQ _ _ _ _ h1 h2
  ·unfold Region.ready at hi;rw[List.mem_filter] at hi;obtain ⟨hi1,hi2⟩:=hi;have hil:i<ops.size:=by simpa using hi1
   have hil':i<listed.size:=by omega
   have hg:ops[i]?=some ops[i]:=Zn hil;have ho:ops.toList[i]?=some ops[i]:=by simpa using hg
   rw[YQ] at hi2;obtain ⟨hi3,hi4⟩:=hi2;have hli:listed[i]=false:=by rw[YY,Zn hil'] at hi3;simpa using hi3
   have hn:¬ (listed.getD i false=true):=by rw[YY,Zn hil'];simp[hli]
   have hready:∀ e∈(ops[i]).after.toList,B3 e=true->listed.getD e.on false=true:=by rw[hg] at hi4;simp only[ZN,ZP] at hi4;rw[Array.all_eq_true'] at hi4;intro e he hb;have:=hi4 e (by simpa using he);rw[OT,hb] at this;simpa using this
   have hget:∀ j,(listed.setIfInBounds i true).getD j false=true<->(listed.getD j false=true\/j=i):=by
    intro j;rw[YY,YY,ZF];by_cases h:i=j
    ·subst h;simp[hil']
    ·rw[if_neg h];constructor
     ·exact .inl
     ·rintro (h1 | h1)
      ·exact h1
      ·exact absurd h1.symm h
   have hcnt':(listed.setIfInBounds i true).toList.count false<=fuel:=by rw[Array.toList_setIfInBounds,List.count_set (by simpa using hil')];have hpos:0<listed.toList.count false:=List.count_pos_iff.2 (by rw[<- hli];simp);simp[hli];simp at hcnt hpos;omega
   have hcl':∀ (j:Nat) (o:Oper),ops.toList[j]?=some o->(listed.setIfInBounds i true).getD j false=true->∀ e∈o.after.toList,B3 e=true->(listed.setIfInBounds i true).getD e.on false=true:=by
    intro j o hj hl e he hb;rw[hget] at hl ⊢;rcases hl with hl | rfl
    ·exact .inl (hcl j o hj hl e he hb)
    ·rw[ho] at hj;injection hj with hj;subst hj;exact .inl (hready e he hb)
   have hK:∀ q' ρ' β' a' w',Inv lo base nt ρ0 β0 w0 ops.toList cl S (λj=>listed.getD j false=true\/j=i) q' ρ' β' a' w'->wpAny P .any ops Q fuel (listed.setIfInBounds i true) a' w':=by
    intro q' ρ' β' a' w' hI';refine ih _ q' ρ' β' a' w' (by simpa using hsz) hcnt' hcl' ?_;have:(λj=>(listed.setIfInBounds i true).getD j false=true)=(λj=>listed.getD j false=true\/j=i):=by funext j;exact propext (hget j)
    rw[this];exact hI'
   have hgw:=λb (hk:SH ops.toList (S i).s (ops[i]).guard=some b)=>Jl (ρ:=ρ) (β:=β) (a:=a) (s:=(S i).s) (o:=ops[i]) (run:=some true) (skip:=some false) (r:=b) (λj want g t h1 h2 h3=>by
    refine JO hV hI hcl ho hready hn (t:=t) ?_;unfold CA O7 Rb;rw[h1];have h2':ops.toList[j]?=some g:=by simpa using h2
    simp only[h2',h3];simp) hk
   unfold wpOp;rw[hg];simp only;rcases hV.step i _ ho with ⟨hbn,hgo,v,σ1,h1,h2⟩ | ⟨hbn,hgo,h2⟩ | ⟨tb,eb,hbx,h2⟩
   ·rcases hgw _ hgo with ⟨hw,_⟩ | ⟨_,hw⟩
    ·rw[if_pos hw];refine .inl ?_;cases hin:CU ops[i] with
     | true=>exact Ud hV hI hcl ho hready hn hX hE hC hK hin h1 h2
     | false =>
      cases hci:cl i with
      | true=>exact Ue hV hI hcl ho hready hn hX hE hC hK hci hbn (hend i _ ho hci) h1 h2
      | false =>
      cases hf:Fq (AN [] ops.toList) ops.toList cl i with
      | true =>
       have hc:Gr ops.toList cl i=false:=by simp[Gr,hf]
       rw[hc] at h1;exact WH hV hI hcl ho hready hn hX hE hC hK ⟨hf,⟨_,ho,hin⟩,hci⟩ h1 h2
      | false =>
       have hc:Gr ops.toList cl i=true:=by simp[Gr,hf]
       rw[hc] at h1;exact Vj hV hI hcl ho hready hn hX hE hC hK (λhb=>by rw[hb.1] at hf;cases hf) hin hci h1 h2
    ·cases hw
   ·rcases hgw _ hgo with ⟨_,hw⟩ | ⟨hw,_⟩
    ·cases hw
    ·rw[hw];simp only[Zi,if_false];obtain ⟨q',hI'⟩:=VL hV hI hcl ho hready hn h2;exact hK _ _ _ _ _ hI'
   ·have hgo:SH ops.toList (S i).s (ops[i]).guard=some true:=by rw[(hV.G.box i _ tb eb ho hbx).2];rfl
    rcases hgw _ hgo with ⟨hw,_⟩ | ⟨_,hw⟩
    ·rw[if_pos hw];exact .inl (WG hV hI hcl ho hready hn hX hE hC hK hbx h2)
    ·cases hw
end
theorem GY {X:Ctx}{cl:Nat->Bool}:∀ {l:List Oper}{i:Nat}{bx bx':List (Nat×List V)},D9 X cl i l bx=some bx'->(∀ t row,Ax bx t=some row->Ax bx' t=some row) /\
  ∀ (k:Nat) (o:Oper) (t e:Nat),l[k]?=some o->CV cl (i+k) o=some (t,e)->((X.ty e).known&&(X.ty e).hz&&Cm (X.ty e).zero)=true/\X.hb.any (Nat.beq t)=false/\Ax bx t=none/\Ax bx' t=some (X.ty e).zero
 | [],i,bx,bx',h=>by simp only[D9,Option.some.injEq] at h;subst h;exact ⟨λt row h=>h,λk o t e hk=>by simp at hk⟩
 | p :: l,i,bx,bx',h=>by
  simp only[D9] at h;cases hb:CV cl i p with
  | none =>
   rw[hb] at h;obtain ⟨h1,h2⟩:=GY h;refine ⟨h1,λk o t e hk hbk=>?_⟩;cases k with
   | zero =>simp at hk;subst hk;rw[ZK,hb] at hbk;cases hbk
   | succ k=>exact h2 k o t e (by simpa using hk) (by rw[<- hbk];congr 1;omega)
  | some z =>
   obtain ⟨u,f⟩:=z;rw[hb] at h;simp only at h;split at h
   ·rename_i q1 q2 q3
    obtain ⟨h1,h2⟩:=GY h;have up:∀ t row,Ax bx t=some row->Ax ((u,(X.ty f).zero) :: bx) t=some row:=λt row ht=>by
     rw[AY];split
     ·rename_i e;rw[<- e,q3] at ht;cases ht
     ·exact ht
    refine ⟨λt row ht=>h1 t row (up t row ht),λk o t e hk hbk=>?_⟩;cases k with
    | zero =>simp at hk;subst hk;rw[ZK,hb] at hbk;injection hbk with hbk;injection hbk with e1 e2;subst e1;subst e2;exact ⟨q1,q2,q3,h1 _ _ (by rw[AY,if_pos rfl])⟩
    | succ k =>
     obtain ⟨g1,g2,g3,g4⟩:=h2 k o t e (by simpa using hk) (by rw[<- hbk];congr 1;omega);refine ⟨g1,g2,?_,g4⟩;rw[AY] at g3;split at g3
     ·cases g3
     ·exact g3
   ·cases h
theorem Xk {P:Program}{X:Ctx} (hw:X.wide=false) (hm:P.follows .mixedOrders=true) (hX:X.ty=Az P) (hE:∀ t,X.cmp t=true->EqOk P t) (hC:SC P X.call):P8 P X:=by
 intro lo base nt R r ρ β σ bx a w id ops k Q hd hdr hbx hk ho hQ;obtain ⟨S,h0,hkS,hst⟩:=RB ops.toList 0 _ rfl hk;obtain ⟨hb1,hb2⟩:=GY hbx;rw[Zf] at hkS;have hG:=VO hdr;have hlps:OL (S ops.toList.length).s (AN [] ops.toList) ops.toList (GV X.cl id)=true:=by
  cases he:OL (S ops.toList.length).s (AN [] ops.toList) ops.toList (GV X.cl id) with
  | true=>rfl
  | false=>simp only[he] at hkS;cases hkS
 simp only[hlps] at hkS;have hod:Ok lo base nt ρ β (S 0) a w.drew:=by rw[h0];exact ⟨ho.s,ho.h.drew,ho.f.drew.ahead hb1,ho.own,ho.hB,ho.hlo,ho.nt,ho.df⟩
 have hV:Env P X lo base nt ρ β w.drew ops.toList (GV X.cl id) S:=XU hw hX hE hC hG (λj o hj=>(hst j o (Y3 _) hj).1) (λj o hj=>(hst j o (Y3 _) hj).2) (λj o hj t ht=>hd o (YS hj) t ht) hod (λj o hj t e hb=>by
  obtain ⟨k1,k2,k3,k4⟩:=hb2 j o t e hj (by rw[Zf];exact hb);refine ⟨k1,k2,?_,by rw[h0];exact k4⟩;cases hβ:β t with
  | none=>rfl
  | some r =>
   obtain ⟨row,_,_,g,_⟩:=ho.f.has t r hβ;rw[k3] at g;cases g)
 refine wp_region_any hm ?_;obtain ⟨q,g1,g2,g3,g4,g5⟩:=TT hV (L:=λ_=>False) (ρ:=ρ) (β:=β) (w:=w.drew) _ 0 rfl (Y3 _) (λj hj=>absurd hj (Nat.not_lt_zero _)) (λ_ _ _ h=>h) hod.h hod.f;refine XZ hV hX hE hC (λi o ho hc a' hl=>?_) (λρ' β' a' w' h1 h2=>?_) ops.size _ q ρ β a w.drew (by simp) ?_ (λi o hi hl=>?_) ?_
 ·obtain ⟨t',a2,hop',hst',_⟩:=hG.stat i o ho hc (S2 hl);have hl2:Ci o=some a2:=by unfold Ci;rw[hop']
  rw[hl2] at hl;injection hl with hl;subst hl;have h1:=YR.1 hlps (o,i) (GQ ho);simp only[hc,hl2,Zk,Zj,Ze] at h1;refine h1.imp (λh=>h) λh1=>?_;have hil:i<ops.toList.length:=(YE.1 ho).1;rw[hV.slot_same (i:=i) (ZA hil) (YH _) (λj h2 h3 ⟨q,hq,hd⟩=>Iu hst' h2 hq hd)] at h1;generalize Cg (S i).s a2=z at h1;cases z<;>simp only[Yg] at h1<;>first | exact ⟨_,_,rfl⟩ | cases h1
 ·refine hQ _ ρ' β' a' w' hkS h1 ?_;rw[h0] at h2;exact ⟨h2.rle,h2.new,h2.frame,h2.size,h2.os,h2.tape,h2.output,h2.len,h2.pres,h2.tot⟩
 ·simp
 ·exfalso;have:i<ops.size:=by have:=(YE.1 hi).1;simpa using this
  rw[YY] at hl;simp[this] at hl
 ·have hL:(λj=>(Array.replicate ops.size false).getD j false=true)=(λ_=>False):=by funext j;apply propext;rw[YY,Array.getElem?_replicate];split<;>simp
  rw[hL];refine ⟨g1,λh=>⟨(g2 h).1,λx=>x⟩,λj hj hb=>(g3 j hj hb).elim,g4,g5,λt p hp hw=>?_,hod.own,hod.hB,hod.nt,hod.df,⟨Rle.refl _,λb e h1 h2=>(by rw[h1] at h2;cases h2),λ_ _ _=>rfl,YH _,rfl,rfl,rfl⟩,λj _ h=>h.elim,λb e hb => .inl (hod.h.dom b e hb).1,λt r hb => .inl ⟨r,hb⟩⟩;rw[hV.slot_same (Y3 p) hp λj _ h2 h3=>((hw j h3).2 h2).elim];exact hod.s t
end Go.Proofs.YtoocmbhkaghgnaaGreat.T
namespace Go.Proofs.YtoocmbhkaghgnaaGreat.T
open Go
variable {n:Nat}{t:TypeId}{H:List (Nat×Hint)}
def WF:TypeDesc->Bool
 | .int _=>true
 | .bool=>true
 | .string=>true
 | _=>false
def J3 (P:Program) (n:Nat) (g:TypeId->Bool):List Field->Nat->Bool
 | [],_=>true
 | f :: fs, off => match f.name != "_" && Nat.beq f.offset off && g f.type && Nat.beq (Az P f.type).size (C0 P n f.type).length with
  | true=>J3 P n g fs (off+(C0 P n f.type).length)
  | false=>false
def Ee (P:Program):Nat->TypeId->Bool
 | 0,_=>false
 | n+1,t=>match (Az P t).known,P.underlying t with
  | true,some (.struct fs)=>match P.stoodInHeld t with
   | true=>false
   | false=>J3 P n (Ee P n) fs.toList 0
  | true,some d=>WF d
  | _,_=>false
section
variable {P:Program}{ρ:Rho}
theorem CY:∀ {ss:List Sh}{xs:List V},Co ss xs=true->xs.length=ss.length
 | [],[],_=>rfl
 | [],_ :: _,h=>by simp[Co] at h
 | _ :: _,[],h=>by simp[Co] at h
 | s :: ss,x :: xs,h=>by
  simp only[Co] at h;split at h
  ·simp[CY h]
  ·cases h
theorem ES:∀ {ss ss':List Sh}{xs:List V},Co (ss++ss') xs=true->Co ss (xs.take ss.length)=true/\Co ss' (xs.drop ss.length)=true
 | [],ss',xs,h=>by simpa [Co] using h
 | s :: ss,ss',[],h=>by simp[Co] at h
 | s :: ss,ss',x :: xs,h=>by
  simp only[Zl,Co] at h;split at h
  ·rename_i hs
   obtain ⟨h1,h2⟩:=ES h;simp[Co,hs,h1,h2]
  ·cases h
theorem My:∀ {k:Nat}{xs ys:List V}{r:Bool},DO xs ys=some r->∃ r1 r2,DO (xs.take k) (ys.take k)=some r1/\DO (xs.drop k) (ys.drop k)=some r2/\r=(r1&&r2)
 | 0,xs,ys,r,h=>⟨true,r,by simp[DO],by simpa using h,by simp⟩
 | k+1,[],[],r,h=>by simp[DO] at h;subst h;exact ⟨true,true,by simp[DO],by simp[DO],rfl⟩
 | k+1,[],_ :: _,r,h=>by simp[DO] at h
 | k+1,_ :: _,[],r,h=>by simp[DO] at h
 | k+1,x :: xs,y :: ys,r,h=>by
  simp only[DO] at h;split at h
  ·rename_i a b ha hb
   injection h with h;subst h;obtain ⟨r1,r2,h1,h2,h3⟩:=My (k:=k) hb;exact ⟨a&&r1,r2,by simp[DO,ha,h1],by simpa using h2,by rw[h3,Bool.and_assoc]⟩
  ·cases h
theorem PI {row:List V}{j:Nat} (h:j+n<=row.length):cut row j n=some ((row.drop j).take n):=by
 induction j generalizing row with
 | zero =>
  induction n generalizing row with
  | zero=>simp[cut]
  | succ n ih =>
   cases row with
   | nil=>simp at h
   | cons v r=>simp[cut,ih (row:=r) (by simp at h;omega)]
 | succ j ih =>
  cases row with
  | nil=>simp at h
  | cons v r=>simp only[cut];rw[ih (by simp at h;omega)];simp
theorem L4 (h:Ee P n t=true) {xs:List V} (hs:Co (C0 P n t) xs=true):∃ v,QR (Az P t).agg xs=some v:=by
 cases n with
 | zero=>simp[Ee] at h
 | succ n =>
  simp only[Ee] at h;split at h
  ·exact ⟨_,Ff (λhA=>by
    rename_i hk hu
    obtain ⟨i,d,hi,hd,_,_,h3,_⟩:=Ba hk;rw[hu] at hd;injection hd with hd;subst hd;rw[h3] at hA;simp[Ke] at hA)⟩
  ·rename_i d hns hk hu
   refine ⟨_,Ff λ_=>?_⟩;have hl:=CY hs;have h1:(C0 P (n+1) t).length=1:=by cases d<;>simp only[WF] at h<;>(try cases h)<;>simp[C0,hu]
   rw[h1] at hl;match xs,hl with
   | [x],_=>exact ⟨x,rfl⟩
  ·cases h
theorem Vi {k:IntKind} (h:P.underlying t=some (.int k)):C0 P (n+1) t = [.int k]:=by simp[C0,h]
theorem W0:∀ (n:Nat) (t:TypeId),Ee P n t=true->∀ (d:Nat),n<=d->∀ (w:World) (xs ys:List V) (v u:V) (r:Bool),Co (C0 P n t) xs=true->Co (C0 P n t) ys=true ->
  QR (Az P t).agg xs=some v->QR (Az P t).agg ys=some u->DO xs ys=some r->∀ c c',VR ρ v c->VR ρ u c'->(Op.equalIn d t c c').run P w = .ok r w:=by
 intro n;induction n with
 | zero=>intro t h;simp[Ee] at h
 | succ n ih =>
  intro t h d hd w xs ys v u r hx hy hv hu hr c c' hc hc';obtain ⟨d,rfl⟩:∃ m,d=m+1:=⟨d - 1,by omega⟩;simp only[Ee] at h;split at h
  ·rename_i fs hk hun
   split at h
   ·cases h
   rename_i hst
   obtain ⟨i,d',hi,hd',_,_,h3,_⟩:=Ba hk;rw[hun] at hd';injection hd' with hd';subst hd';rw[h3] at hv hu;simp only[Ke,QR,Option.some.injEq] at hv hu;subst hv;subst hu;simp only[VR] at hc hc';obtain ⟨ca,rfl,hca⟩:=hc;obtain ⟨cb,rfl,hcb⟩:=hc';have hfo:P.fieldsOf t=fs:=by simp[Program.fieldsOf,hun]
   rw[run_equalIn_agg w d t ca cb (by rw[hun,hfo]) hst,hfo];have hsh:C0 P (n+1) t=fs.toList.flatMap λf=>C0 P n f.type:=by simp[C0,hun]
   rw[hsh] at hx hy;have hlen:xs.length=ys.length:=by rw[CY hx,CY hy]
   have main:∀ (l:List Field) (off:Nat) (r:Bool),J3 P n (Ee P n) l off=true->off+(l.flatMap λf=>C0 P n f.type).length=xs.length->Co (l.flatMap λf=>C0 P n f.type) (xs.drop off)=true->Co (l.flatMap λf=>C0 P n f.type) (ys.drop off)=true ->
     DO (xs.drop off) (ys.drop off)=some r->(Op.eqFields d ca cb l).run P w = .ok r w:=by
    intro l;induction l with
    | nil =>intro off r _ _ h1 h2 h3;have e1:=CY h1;have e2:=CY h2;simp only[List.flatMap_nil,ZW] at e1 e2;rw[YM e1,YM e2] at h3;simp[DO] at h3;subst h3;simp[Op.eqFields]
    | cons f l ihl =>
     intro off r hf hoff h1 h2 h3;simp only[J3] at hf;split at hf
     ·rename_i hcond
      simp only[YQ,bne_iff_ne,ne_eq] at hcond;obtain ⟨⟨⟨hn,ho⟩,hg⟩,hsz⟩:=hcond;have ho:=YL ho;have hsz:=YL hsz;simp only[List.flatMap_cons] at h1 h2 hoff;rw[Y6] at hoff;obtain ⟨h1a,h1b⟩:=ES h1;obtain ⟨h2a,h2b⟩:=ES h2;obtain ⟨r1,r2,g1,g2,g3⟩:=My (k:=(C0 P n f.type).length) h3;have hkn:(Az P f.type).known=true:=by
       cases n with
       | zero=>simp[Ee] at hg
       | succ n =>
        simp only[Ee] at hg;split at hg
        ·assumption
        ·assumption
        ·cases hg
      have c1:cut xs off (Az P f.type).size=some ((xs.drop off).take (C0 P n f.type).length):=by rw[hsz];exact PI (by omega)
      have c2:cut ys off (Az P f.type).size=some ((ys.drop off).take (C0 P n f.type).length):=by rw[hsz];exact PI (by omega)
      obtain ⟨v,hv⟩:=L4 hg h1a;obtain ⟨u,hu⟩:=L4 hg h2a;obtain ⟨c,k1,k2⟩:=Hs (w:=w) hkn hca c1 hv;obtain ⟨c',k3,k4⟩:=Hs (w:=w) hkn hcb c2 hu;have hq:=ih f.type hg d (by omega) w _ _ v u r1 h1a h2a hv hu g1 c c' k2 k4;rw[ZT] at h1b h2b g2;rw[ZT] at g2;simp only[Op.eqFields,ne_eq,hn,not_false_eq_true,if_true,Sem.run_bind,ho,k1,k3,Result.andThen_ok,hq];cases r1 with
      | true =>simp only[Zk,Zi,if_false];rw[g3,YP];exact ihl _ r2 hf (by omega) h1b h2b g2
      | false=>simp[g3]
     ·cases hf
   exact main fs.toList 0 r h (by rw[CY hx];omega) (by simpa using hx) (by simpa using hy) (by simpa using hr)
  ·rename_i d' hns hk hun
   obtain ⟨i,d'',hi,hd',_,_,h3,_⟩:=Ba hk;rw[hun] at hd';injection hd' with hd';subst hd';have key:∀ s,C0 P (n+1) t = [s]->Ke d'=false->(∀ y,GG s y=true->∀ x,GG s x=true->∀ r,SP x y=some r->∀ c c',VR ρ x c->VR ρ y c'->(Op.equalIn (d+1) t c c').run P w = .ok r w)->(Op.equalIn (d+1) t c c').run P w = .ok r w:=by
    intro s hsh hag hs;rw[hsh] at hx hy;rw[h3,hag] at hv hu;match xs,ys,CY hx,CY hy with
    | [x],[y],_,_ =>
     simp only[QR,Option.some.injEq] at hv hu;subst hv;subst hu;simp only[Co] at hx hy;simp only[DO] at hr;refine hs y ?_ x ?_ r ?_ c c' hc hc'
     ·cases hz:GG s y<;>simp[hz] at hy ⊢
     ·cases hz:GG s x<;>simp[hz] at hx ⊢
     ·cases hz:SP x y<;>simp[hz] at hr ⊢;exact hr
   cases d'<;>simp only[WF] at h<;>(try cases h)
   ·refine key .bool (by simp[C0,hun]) rfl (λy hy x hx r hr c c' hc hc'=>?_);cases x<;>simp[GG] at hx;cases y<;>simp[GG] at hy
    simp[SP] at hr;simp[VR] at hc hc';subst hc;subst hc';subst hr;exact run_equalIn_bool' w d t _ _ hun
   ·refine key _ (Vi hun) rfl (λy hy x hx r hr c c' hc hc'=>?_);cases x<;>simp[GG] at hx;cases y<;>simp[GG] at hy
    subst hx;subst hy;simp[SP] at hr;simp[VR] at hc hc';subst hc;subst hc';subst hr;exact run_equalIn_int w d t _ _ _ _ hun
   ·refine key .str (by simp[C0,hun]) rfl (λy hy x hx r hr c c' hc hc'=>?_);cases x<;>simp[GG] at hx;cases y<;>simp[GG] at hy
    simp[SP] at hr;simp[VR] at hc hc';subst hc;subst hc';subst hr;exact run_equalIn_string w d t _ _ hun
  ·cases h
def DL (b:Bool) (n:Nat) (cs:Array Value):List Field->Sem Unit
 | []=>pure ()
 | f :: fs =>
  if f.name ≠ "_" then do
   let a <- part f.type cs f.offset
   Instr.checkKey b n f.type a
   DL b n cs fs
  else DL b n cs fs
theorem Id (w:World) (b:Bool) (d:Nat) (t:TypeId) (cs:Array Value) (fs:Array Field) (ht:P.underlying t=some (.struct fs)) :
  (Instr.checkKey b (d+1) t (.agg cs)).run P w=(DL b d cs fs.toList).run P w:=by
 simp only[Instr.checkKey,Sem.run_bind,run_underlying ht,Result.andThen_ok];rw[<- Array.forIn_toList];generalize fs.toList=l;clear ht;induction l generalizing w with
 | nil=>simp[DL]
 | cons f l ih =>
  simp only[List.forIn_cons,DL,Sem.run_bind,Sem.run_ite];split
  ·generalize (part f.type cs f.offset).run P w=r1;cases r1 with
   | ok a w1 =>
    simp only[Result.andThen_ok];generalize (Instr.checkKey b d f.type a).run P w1=r2;cases r2 with
    | ok u w2 =>simp only[Result.andThen_ok,Sem.run_pure];exact ih w2
    | halt x w2=>simp[Result.andThen]
   | halt x w1=>simp[Result.andThen]
  ·simp only[Sem.run_pure,Result.andThen_ok];exact ih w
theorem VT:∀ (n:Nat) (t:TypeId),Ee P n t=true->∀ (d:Nat),n<=d->∀ (b:Bool) (w:World) (xs:List V) (v:V),Co (C0 P n t) xs=true ->
  QR (Az P t).agg xs=some v->∀ c,VR ρ v c->(Instr.checkKey b d t c).run P w = .ok () w:=by
 intro n;induction n with
 | zero=>intro t h;simp[Ee] at h
 | succ n ih =>
  intro t h d hd b w xs v hx hv c hc;obtain ⟨d,rfl⟩:∃ m,d=m+1:=⟨d - 1,by omega⟩;simp only[Ee] at h;split at h
  ·rename_i fs hk hun
   split at h
   ·cases h
   rename_i hst
   obtain ⟨i,d',hi,hd',_,_,h3,_⟩:=Ba hk;rw[hun] at hd';injection hd' with hd';subst hd';rw[h3] at hv;simp only[Ke,QR,Option.some.injEq] at hv;subst hv;simp only[VR] at hc;obtain ⟨ca,rfl,hca⟩:=hc;rw[Id w b d t ca fs hun];have hsh:C0 P (n+1) t=fs.toList.flatMap λf=>C0 P n f.type:=by simp[C0,hun]
   rw[hsh] at hx;have main:∀ (l:List Field) (off:Nat),J3 P n (Ee P n) l off=true->off+(l.flatMap λf=>C0 P n f.type).length=xs.length->Co (l.flatMap λf=>C0 P n f.type) (xs.drop off)=true ->
     (DL b d ca l).run P w = .ok () w:=by
    intro l;induction l with
    | nil=>intro off _ _ _;simp[DL]
    | cons f l ihl =>
     intro off hf hoff h1;simp only[J3] at hf;split at hf
     ·rename_i hcond
      simp only[YQ,bne_iff_ne,ne_eq] at hcond;obtain ⟨⟨⟨hn,ho⟩,hg⟩,hsz⟩:=hcond;have ho:=YL ho;have hsz:=YL hsz;simp only[List.flatMap_cons] at h1 hoff;rw[Y6] at hoff;obtain ⟨h1a,h1b⟩:=ES h1;have hkn:(Az P f.type).known=true:=by
       cases n with
       | zero=>simp[Ee] at hg
       | succ n =>
        simp only[Ee] at hg;split at hg
        ·assumption
        ·assumption
        ·cases hg
      have c1:cut xs off (Az P f.type).size=some ((xs.drop off).take (C0 P n f.type).length):=by rw[hsz];exact PI (by omega)
      obtain ⟨v,hv⟩:=L4 hg h1a;obtain ⟨c,k1,k2⟩:=Hs (w:=w) hkn hca c1 hv;have hq:=ih f.type hg d (by omega) b w _ v h1a hv c k2;rw[ZT] at h1b;simp only[DL,ne_eq,hn,not_false_eq_true,if_true,Sem.run_bind,ho,k1,Result.andThen_ok,hq];exact ihl _ hf (by omega) h1b
     ·cases hf
   exact main fs.toList 0 h (by rw[CY hx];omega) (by simpa using hx)
  ·rename_i d' hns hk hun
   cases d'<;>simp only[WF] at h<;>(try cases h)<;>simp[Instr.checkKey,run_underlying hun]
  ·cases h
def VZ (P:Program) (t:TypeId):Bool:=Ee P 8 t && !P.eqGuardType P.depth t&&(Az P t).agg&&(match P.underlying t with | some (.struct _)=>true | _=>false)
theorem W2 (h:VZ P t=true):EqOk P t:=by
 simp only[VZ,YQ,Zp] at h;obtain ⟨⟨⟨h1,h2⟩,h3⟩,h4⟩:=h;have hk:(Az P t).known=true:=by
  simp only[Ee] at h1;split at h1
  ·assumption
  ·assumption
  ·cases h1
 have hsh:(Az P t).sh=C0 P 8 t:=by obtain ⟨i,d,hi,hd,_⟩:=Ba hk;simp[Az,hi,hd]
 refine ⟨λρ w xs ys ca cb r hx hy hc hc' hr=>?_,h2,λρ w xs ca b hx hc=>?_,?_⟩
 ·rw[hsh] at hx hy;unfold Op.equal Op.maxDepth;exact W0 8 t h1 10000 (by omega) w xs ys (.agg xs) (.agg ys) r hx hy (by rw[h3];rfl) (by rw[h3];rfl) hr _ _ (by simp only[VR];exact ⟨_,rfl,hc⟩) (by simp only[VR];exact ⟨_,rfl,hc'⟩)
 ·rw[hsh] at hx;exact VT 8 t h1 10000 (by omega) b w xs (.agg xs) hx (by rw[h3];rfl) _ (by simp only[VR];exact ⟨_,rfl,hc⟩)
 ·split at h4
  ·exact ⟨_,‹_›⟩
  ·cases h4
end
def XA (fn:Func):Bool:=match fn.body with
 | none=>true
 | some c => Fv fn.ntmps c && !(fn.name == "runtime.NumGoroutine")
theorem Ve {P:Program}{C:List Nat} (hm:P.follows .mixedOrders=true) (hC:C.all (VZ P)=true) (hF:P.funcs.all XA=true):Sound P (Sy P C H):=by
 have hcmp:∀ t,(Sy P C H).cmp t=true->EqOk P t:=λt ht=>by have ht:C.any (Nat.beq t)=true:=ht;rw[List.any_eq_true] at ht;obtain ⟨u,hu,hb⟩:=ht;have:=YL hb;subst this;exact W2 (YR.1 hC _ hu)
 refine ⟨rfl,hcmp,λf fn c hf hb=>?_,λcall f hs=>Xk rfl hm rfl hcmp hs⟩;have:=Array.all_eq_true_iff_forall_mem.1 hF fn (Array.mem_of_getElem? hf);unfold XA at this;rw[hb] at this;simpa using this
end Go.Proofs.YtoocmbhkaghgnaaGreat.T
namespace Go.Proofs.YtoocmbhkaghgnaaGreat.T
open Go
variable {body:St->Option (Ex×St)}{c:Code}{σ:St}{p:Ex×St}{σ':St}{ty:TypeId}{rs:List ResultVar}
def Sup {R:Type} (a:Option R) (A:Nat->Option R):Prop:=∀ r,a=some r->∃ n,∀ m,n<=m->A m=some r
section
variable {R S:Type}
theorem Sup.const (a:Option R):Sup a λ_=>a:=λr h=>⟨0,λ_ _=>h⟩
theorem Sup.none (A:Nat->Option R):Sup none A:=λr h=>by cases h
theorem Sup.bind {a:Option R}{A:Nat->Option R}{f:R->Option S}{F:Nat->R->Option S} (h:Sup a A) (hf:∀ x,Sup (f x) λm=>F m x):Sup (a.bind f) λm=>(A m).bind (F m):=λr hr=>by
 cases a with
 | none=>cases hr
 | some x =>obtain ⟨n1,h1⟩:=h x rfl;obtain ⟨n2,h2⟩:=hf x r hr;refine ⟨n1+n2,λm hm=>?_⟩;show (A m).bind (F m)=some r;rw[h1 m (by omega)];exact h2 m (by omega)
theorem Sup.br {b:Bool}{x y:Option R}{X Y:Nat->Option R} (hx:Sup x X) (hy:Sup y Y):Sup (br b x y) λm=>br b (X m) (Y m):=by
 cases b
 ·exact hy
 ·exact hx
theorem Sup.eBv {v:V}{f:Bool->Option R}{F:Nat->Bool->Option R} (h:∀ b,Sup (f b) λm=>F m b):Sup (eBv v f) λm=>eBv v (F m):=by
 unfold T.eBv;split
 ·exact h _
 ·exact Sup.none _
theorem Sup.guard {all:List Oper}{s:List (Nat×V)}{g:Option (Nat×Bool)}{x y:Option R}{X Y:Nat->Option R} (hx:Sup x X) (hy:Sup y Y):Sup (EK all s g x y) λm=>EK all s g (X m) (Y m):=by
 unfold EK;split
 ·exact hx
 ·split
  ·exact Sup.none _
  ·split
   ·exact Sup.none _
   ·split
    ·split
     ·exact Sup.br hx hy
     ·exact Sup.br hy hx
    ·exact hy
    ·exact Sup.none _
end
theorem Kw {body:St->Option (Ex×St)}:∀ {n m:Nat}{σ:St}{p:Ex×St},rounds body n σ=some p->n<=m->rounds body m σ=some p
 | 0,m,σ,p,h,_=>by simp[rounds] at h
 | n+1,m,σ,p,h,hm=>by
  obtain ⟨m,rfl⟩:∃ k,m=k+1:=⟨m - 1,by omega⟩;simp only[rounds] at h ⊢;cases hb:body σ with
  | none=>rw[hb] at h;cases h
  | some q =>
   rw[hb] at h;simp only[Za] at h ⊢;split at h
   ·exact Kw h (by omega)
   ·exact h
theorem Jz {α:Type}{g:Nat->Option α}{r:α}{n:Nat} (h:∀ m,n<=m->g m=some r):Ie g=some r:=by unfold Ie;have hx:∃ r,∃ n,∀ m,n<=m->g m=some r:=⟨r,n,h⟩;rw[dif_pos hx];obtain ⟨k,hk⟩:=Classical.choose_spec hx;have h1:=hk (n+k) (by omega);have h2:=h (n+k) (by omega);rw[h1] at h2;exact h2
theorem GB {α:Type}{g:Nat->Option α}{r:α} (h:Ie g=some r):∃ n,∀ m,n<=m->g m=some r:=by
 unfold Ie at h;split at h
 ·rename_i hx
  injection h with h;obtain ⟨n,hn⟩:=Classical.choose_spec hx;exact ⟨n,λm hm=>by have:=hn m hm;rw[<- h];exact this⟩
 ·cases h
theorem I7 {id:Nat}{n:Nat} (h:rounds body n σ=some p):Dn c id body σ=some p :=
 Jz (n:=n) λ_ hm=>Kw h hm
theorem L8 {id:Nat} (h:Dn c id body σ=some p):∃ n,rounds body n σ=some p:=by obtain ⟨n,hn⟩:=GB h;exact ⟨n,hn n (YH _)⟩
theorem XP {id:Nat} (h:body σ=some (.normal,σ')) (hl:Dn c id body σ'=some p):Dn c id body σ=some p:=by obtain ⟨n,hn⟩:=L8 hl;refine I7 (n:=n+1) ?_;simp only[rounds,h,Za];exact hn
theorem XQ {id:Nat}{j:Nat} (h:body σ=some (.exit j,σ')):Dn c id body σ=some (.exit j,σ') :=
 I7 (n:=1) (by simp[rounds,h])
theorem X4 {id:Nat} (h:body σ=some (.ret,σ')):Dn c id body σ=some (.ret,σ') :=
 I7 (n:=1) (by simp[rounds,h])
theorem Sup.rounds {body:St->Option (Ex×St)}{B:Nat->St->Option (Ex×St)} (h:∀ σ,Sup (body σ) λm=>B m σ):∀ (n:Nat) (σ:St),Sup (rounds body n σ) λm=>rounds (B m) n σ
 | 0,σ=>Sup.none _
 | n+1,σ=>by
  simp only[T.rounds];refine Sup.bind (h σ) λp=>?_;obtain ⟨e,σ'⟩:=p;cases e with
  | normal=>exact Sup.rounds h n σ'
  | exit j=>exact Sup.const _
  | ret=>exact Sup.const _
theorem Sup.loop {id:Nat}{B:Nat->St->Option (Ex×St)} (h:∀ σ,Sup (body σ) λm=>B m σ) (σ:St):Sup (Dn c id body σ) λm=>Dn c id (B m) σ:=λr hr=>by obtain ⟨n,hn⟩:=L8 hr;obtain ⟨k,hk⟩:=Sup.rounds h n σ r hn;exact ⟨k,λm hm=>I7 (hk m hm)⟩
section
variable {X:Ctx}{A:Nat->EG} (hA:∀ lo f args h,Sup (X.call lo f args h) λm=>A m lo f args h)
def Ctx.at (X:Ctx) (c:EG):Ctx:=⟨X.ty,X.cmp,X.ret,c,X.keep,X.hb,X.cl,X.wide⟩
theorem Yt (c:EG) {fs:List (Nat×TypeId)}:Eh (X.at c) fs=Eh X fs:=rfl
theorem QZ (c:EG):∀ (fs:List (Nat×TypeId)),FC (X.at c) fs=FC X fs
 | []=>rfl
 | f :: fs=>by have:=QZ c fs;simp only[FC];rw[this];rfl
include hA in
theorem Sup.step {lo:Nat}{d:Option Nat}{o:Op}:Sup (AD X lo d ty o σ) λm=>AD (X.at (A m)) lo d ty o σ:=by
 have same:(∀ m,AD (X.at (A m)) lo d ty o σ=AD X lo d ty o σ)->Sup (AD X lo d ty o σ) λm=>AD (X.at (A m)) lo d ty o σ:=λh r hr=>⟨0,λm _=>(h m).trans hr⟩
 cases o;case call c =>
  unfold AD;simp only[opT];split
  ·split
   ·rename_i f hf
    split
    ·rename_i g cs _
     have h1:=hA lo g (Ft (JG σ.s c.args.toList) cs) σ.h;intro r hr;cases hc:X.call lo g (Ft (JG σ.s c.args.toList) cs) σ.h with
     | none=>rw[hc] at hr;cases hr
     | some p =>obtain ⟨n,hn⟩:=h1 p hc;refine ⟨n,λm hm=>?_⟩;rw[hc] at hr;have h2:A m lo g (Ft (JG σ.s c.args.toList) cs) σ.h=some p:=hn m hm;show Al (A m lo g (Ft (JG σ.s c.args.toList) cs) σ.h) _=some r;rw[h2];exact hr
    ·exact Sup.none _
   ·rename_i b hb
    intro r hr;refine ⟨0,λm _=>?_⟩;refine Eq.trans ?_ hr;cases b<;>rfl
   ·exact Sup.none _
  ·exact Sup.none _
 case build t ps =>refine same λm=>?_;unfold AD;simp only[opT,QZ];rfl
 all_goals exact same λm=>rfl
variable {R:Type}
include hA in
theorem Sup.opT {lo:Nat}{d:Option Nat}{ty:TypeId}{o:Op}{σ:St}{k:V->St->Option R}{K:Nat->V->St->Option R} (hk:∀ v σ,Sup (k v σ) λm=>K m v σ):Sup (T.opT X lo d ty o σ k) λm=>T.opT (X.at (A m)) lo d ty o σ (K m):=by
 rw[Fd];have:(λm=>T.opT (X.at (A m)) lo d ty o σ (K m))=λm=>(AD (X.at (A m)) lo d ty o σ).bind λp=>K m p.1 p.2:=by funext m;exact Fd
 rw[this];exact Sup.bind (Sup.step hA) λp=>hk p.1 p.2
omit hA in
theorem TO {o:Oper}{σ σ':St}{c:EG}:∀ {l:List Oper}{k:Option R},T.chkT (X.at c) o σ σ' l k=T.chkT X o σ σ' l k
 | [],k=>rfl
 | p :: l,k=>by simp only[T.chkT,TO (l:=l),show (X.at c).ty=X.ty from rfl]
omit hA in
theorem Sup.chkT {o:Oper}{σ σ':St}{l:List Oper}{k:Option R}{K:Nat->Option R} (hk:Sup k K):Sup (T.chkT X o σ σ' l k) λm=>T.chkT (X.at (A m)) o σ σ' l (K m):=by
 have h1:∀ k:Option R,T.chkT X o σ σ' l k=(T.chkT X o σ σ' l (some ())).bind λ_=>k:=λk=>by rw[Kb];rfl
 have h2:(λm=>T.chkT (X.at (A m)) o σ σ' l (K m))=λm=>(T.chkT X o σ σ' l (some ())).bind λ_=>K m:=by funext m;rw[TO,h1]
 rw[h2,h1];cases T.chkT X o σ σ' l (some ()) with
 | none=>exact Sup.none _
 | some _=>exact hk
omit hA in
theorem ID {c:EG}{cl:Nat->Bool}:∀ {l:List Oper}{i:Nat}{bx:List (Nat×List V)},D9 (X.at c) cl i l bx=D9 X cl i l bx
 | [],i,bx=>rfl
 | p :: l,i,bx=>by
  simp only[D9,show (X.at c).ty=X.ty from rfl,show (X.at c).hb=X.hb from rfl];split
  ·exact ID
  ·split
   ·exact ID
   ·rfl
include hA in
theorem Sup.opsT {lo:Nat}{all:List Oper}{calm al:Nat->Bool}{ck:Nat->List Oper}{k:St->Option R}{K:Nat->St->Option R} (hk:∀ σ,Sup (k σ) λm=>K m σ) :
  ∀ (rest:List Oper) (i:Nat) (σ:St),Sup (T.opsT X lo all calm ck al i rest σ k) λm=>T.opsT (X.at (A m)) lo all calm ck al i rest σ (K m)
 | [],i,σ=>by simp only[T.opsT];exact hk σ
 | o :: r,i,σ=>by
  simp only[T.opsT];split
  ·exact Sup.opsT hk r _ _
  refine Sup.guard ?_ (Sup.opsT hk r _ _);split
  ·exact Sup.opT hA λv σ=>Sup.opsT hk r _ _
  ·exact Sup.opT hA λv σ=>Sup.chkT (Sup.opsT hk r _ _)
include hA in
theorem Sup.exec {lo:Nat}:∀ (c:Code) {R:Type}{k:Ex->St->Option R}{K:Nat->Ex->St->Option R} (id:Nat) (σ:St),(∀ e σ,Sup (k e σ) λm=>K m e σ)->Sup (T.exec X lo c id σ k) λm=>T.exec (X.at (A m)) lo c id σ (K m)
 | .skip,R,k,K,id,σ,hk=>by simp only[T.exec];exact hk _ _
 | .region i ops draw,R,k,K,id,σ,hk=>by
  simp only[T.exec,show ∀ c:EG,(X.at c).cl=X.cl from λ_=>rfl];split
  ·exact Sup.opsT hA (λσ=>hk _ _) _ _ _
  ·split
   ·simp only[show ∀ c:EG,(X.at c).narrow=X.narrow.at c from λ_=>rfl,ID];cases D9 X.narrow (GV X.cl i) 0 ops.toList σ.bx with
    | none=>exact Sup.none _
    | some bx =>
    refine Sup.opsT (X:=X.narrow) (K:=λm σ=>match OL σ.s (AN [] ops.toList) ops.toList (GV X.cl i) with | true=>K m .normal σ | false=>Option.none) hA (λσ=>?_) _ _ _;cases he:OL σ.s (AN [] ops.toList) ops.toList (GV X.cl i) with
    | true=>exact hk _ _
    | false=>exact Sup.none _
   ·exact Sup.none _
 | .seq a b,R,k,K,id,σ,hk=>by
  simp only[T.exec];refine Sup.exec a id σ λe σ=>?_;cases e with
  | normal=>exact Sup.exec b id σ hk
  | exit j=>exact hk _ _
  | ret=>exact hk _ _
 | .cond x a b,R,k,K,id,σ,hk=>by simp only[T.exec];exact Sup.eBv λt=>Sup.br (Sup.exec a id σ hk) (Sup.exec b id σ hk)
 | .block j b,R,k,K,id,σ,hk=>by
  simp only[T.exec];refine Sup.exec b j σ λe σ=>?_;cases e with
  | normal=>exact hk _ _
  | exit i =>
   simp only[DY];split
   ·exact hk _ _
   ·exact hk _ _
  | ret=>exact hk _ _
 | .loop b,R,k,K,id,σ,hk=>by
  simp only[T.exec];have hb:∀ σ,Sup (T.exec X lo b id σ (Fl X id)) λm=>T.exec (X.at (A m)) lo b id σ (Fl (X.at (A m)) id):=λσ=>Sup.exec b id σ λe σ=>Sup.const _;intro r hr;cases hl:Dn b id (λσ=>T.exec X lo b id σ (Fl X id)) (norm X id σ) with
  | none=>rw[hl] at hr;cases hr
  | some p =>rw[hl] at hr;obtain ⟨e,σ'⟩:=p;obtain ⟨n1,h1⟩:=Sup.loop (c:=b) (id:=id) hb (norm X id σ) _ hl;obtain ⟨n2,h2⟩:=hk e σ' r hr;refine ⟨n1+n2,λm hm=>?_⟩;have h3:Dn b id (λσ=>T.exec (X.at (A m)) lo b id σ (Fl (X.at (A m)) id)) (norm X id σ)=some (e,σ'):=h1 m (by omega);show XO (Dn b id (λσ=>T.exec (X.at (A m)) lo b id σ (Fl (X.at (A m)) id)) (norm X id σ)) (K m)=some r;rw[h3];exact h2 m (by omega)
 | .exit j,R,k,K,id,σ,hk=>by simp only[T.exec];exact hk _ _
 | .ret,R,k,K,id,σ,hk=>by simp only[T.exec];exact hk _ _
 | .goto _,R,k,K,id,σ,hk=>by simp only[T.exec];exact Sup.none _
 | .label _,R,k,K,id,σ,hk=>by simp only[T.exec];exact Sup.none _
 | .scope _,R,k,K,id,σ,hk=>by simp only[T.exec];exact Sup.none _
 | .rangeFunc _ _ _ _,R,k,K,id,σ,hk=>by simp only[T.exec];exact Sup.none _
 | .refuse _,R,k,K,id,σ,hk=>by simp only[T.exec];exact Sup.none _
end
theorem QE {X:Ctx}{c:EG}{σ:St}:∀ {rs:List ResultVar},Kz (X.at c) σ rs=Kz X σ rs
 | []=>rfl
 | r :: rs=>by
  simp only[Kz];rw[QE (rs:=rs)];have:N8 (X.at c) σ r=N8 X σ r:=by cases r<;>rfl
  rw[this]
theorem Tg {X:Ctx}{c:EG}:Sg (X.at c) rs σ=Sg X rs σ:=by unfold Sg;rw[QE]
theorem Sup.fnT {I:Info}{fn:Func}{call:EG}{A:Nat->EG} (hA:∀ lo f args h,Sup (call lo f args h) λm=>A m lo f args h) {lo:Nat}{f:FuncId}{args:List V}{h:Heap}:Sup (fnT I fn call lo f args h) λm=>fnT I fn (A m) lo f args h:=by
 unfold T.fnT;split
 ·exact Sup.none _
 ·refine Sup.exec (X:=I.ctx call f) hA _ _ _ λe σ=>?_;cases e with
  | normal=>exact λr hr=>⟨0,λm _=>(Tg (X:=I.ctx call f) (c:=A m)).trans hr⟩
  | ret=>exact λr hr=>⟨0,λm _=>(Tg (X:=I.ctx call f) (c:=A m)).trans hr⟩
  | exit j=>exact Sup.none _
theorem TA {P:Program}{I:Info}{lo:Nat}{f:FuncId}{fn:Func}{args:List V}{h:Heap}{p q:V×Heap} (hf:P.funcs[f]?=some fn) (hk:fnT I fn (eval P I) (Xy (I.drop f) lo h) f args h=some p) (hd:TL (I.drop f) h p=some q) :
  eval P I lo f args h=some q:=by
 have hA:∀ lo f args h,Sup (eval P I lo f args h) λm=>Hx P I m lo f args h:=λlo f args h r hr=>GB hr;obtain ⟨n,hn⟩:=Sup.fnT (I:=I) (fn:=fn) hA p hk;refine Jz (n:=n+1) λm hm=>?_;obtain ⟨m,rfl⟩:∃ k,m=k+1:=⟨m - 1,by omega⟩;simp only[Hx,hf];have h2:fnT I fn (Hx P I m) (Xy (I.drop f) lo h) f args h=some p:=hn m (by omega);rw[h2];exact hd
end Go.Proofs.YtoocmbhkaghgnaaGreat.T
namespace Go.Proofs.YtoocmbhkaghgnaaGreat.T
open Go
variable {lo:Nat}{c:Code}{id:Nat}{σ:St}{P:Program}{f:FuncId}{args:List V}
section
variable {R S:Type}{g:R->Option S}
theorem Rc {all:List Oper}{s:List (Nat×V)}{q:Option (Nat×Bool)}{x y:Option R}:(EK all s q x y).bind g=EK all s q (x.bind g) (y.bind g):=by
 unfold EK;split
 ·rfl
 ·split
  ·rfl
  ·split
   ·rfl
   ·split
    ·split<;>exact GX
    ·rfl
    ·rfl
theorem EU {X:Ctx}{lo:Nat}{all:List Oper}{calm al:Nat->Bool}{ck:Nat->List Oper}{k:St->Option R}:∀ (rest:List Oper) (i:Nat) (σ:St),(opsT X lo all calm ck al i rest σ k).bind g=opsT X lo all calm ck al i rest σ λσ=>(k σ).bind g
 | [],i,σ=>rfl
 | o :: r,i,σ=>by
  simp only[opsT];split
  ·exact EU r _ _
  rw[Rc,EU r];congr 1;split
  ·rw[LY];congr 1;funext v σ;exact EU r _ _
  ·rw[LY];congr 1;funext v σ;rw[Kb];congr 1;exact EU r _ _
end
theorem EX {X:Ctx}{lo:Nat}:∀ (c:Code) {R S:Type}{g:R->Option S}{k:Ex->St->Option R} (id:Nat) (σ:St),(exec X lo c id σ k).bind g=exec X lo c id σ λe σ=>(k e σ).bind g
 | .skip,R,S,g,k,id,σ=>rfl
 | .region i ops draw,R,S,g,k,id,σ=>by
  simp only[exec];split
  ·exact EU _ _ _
  ·split
   ·rw[Dx];congr 1;funext bx;rw[EU];congr 1;funext σ;split<;>rfl
   ·rfl
 | .seq a b,R,S,g,k,id,σ=>by
  simp only[exec];rw[EX a];congr 1;funext e σ;cases e with
  | normal=>exact EX b id σ
  | exit j=>rfl
  | ret=>rfl
 | .cond x a b,R,S,g,k,id,σ=>by simp only[exec];rw[Js];congr 1;funext t;rw[GX,EX a,EX b]
 | .block j b,R,S,g,k,id,σ=>by
  simp only[exec];rw[EX b];congr 1;funext e σ;cases e with
  | normal=>rfl
  | exit i=>simp only[DY];split<;>rfl
  | ret=>rfl
 | .loop b,R,S,g,k,id,σ=>by simp only[exec];generalize Dn b id (λσ=>exec X lo b id σ (Fl X id)) (norm X id σ)=o;cases o<;>rfl
 | .exit j,R,S,g,k,id,σ=>rfl
 | .ret,R,S,g,k,id,σ=>rfl
 | .goto _,R,S,g,k,id,σ=>rfl
 | .label _,R,S,g,k,id,σ=>rfl
 | .scope _,R,S,g,k,id,σ=>rfl
 | .rangeFunc _ _ _ _,R,S,g,k,id,σ=>rfl
 | .refuse _,R,S,g,k,id,σ=>rfl
noncomputable def X5 {R:Type} (X:Ctx) (lo:Nat) (c:Code) (id:Nat) (K:Ex->St->Option R):Ex->St->Option R
 | .normal,σ=>XO (Dn c id (λσ=>exec X lo c id σ (Fl X id)) (norm X id σ)) K
 | .exit j,σ=>K (.exit j) (norm X id σ)
 | .ret,σ=>K .ret (norm X id σ)
theorem Ta {α:Type}{g:Nat->Option α}:Ie (λn=>g (n+1))=Ie g:=by
 cases h:Ie g with
 | some r =>obtain ⟨n,hn⟩:=GB h;exact Jz (n:=n) λm hm=>hn (m+1) (by omega)
 | none =>
  cases h':Ie (λn=>g (n+1)) with
  | none=>rfl
  | some r =>
   obtain ⟨n,hn⟩:=GB h';have:Ie g=some r:=Jz (n:=n+1) λm hm=>by have:=hn (m - 1) (by omega);rwa [show m - 1+1=m by omega] at this
   rw[h] at this;cases this
theorem IE {α:Type}{o:Option α}:Ie (λ_=>o)=o:=by
 cases o with
 | some r=>exact Jz (n:=0) λ_ _=>rfl
 | none =>
  cases h:Ie (λ_:Nat=>(none:Option α)) with
  | none=>rfl
  | some r=>obtain ⟨n,hn⟩:=GB h;have:=hn n (YH _);cases this
theorem VA {body:St->Option (Ex×St)}:Dn c id body σ=(body σ).bind λp=>match p.1 with | .normal=>Dn c id body p.2 | e=>some (e,p.2):=by
 have h1:Dn c id body σ=Ie λn=>rounds body (n+1) σ:=(Ta (g:=λn=>rounds body n σ)).symm;rw[h1];cases hb:body σ with
 | none =>
  have:(λn=>rounds body (n+1) σ)=λ_=>none:=by funext n;simp only[rounds,hb];rfl
  rw[this,IE];rfl
 | some p =>
  obtain ⟨e,σ'⟩:=p;cases e with
  | normal =>
   have:(λn=>rounds body (n+1) σ)=λn=>rounds body n σ':=by funext n;simp only[rounds,hb];rfl
   rw[this];rfl
  | exit j =>
   have:(λn=>rounds body (n+1) σ)=λ_=>some (.exit j,σ'):=by funext n;simp only[rounds,hb];rfl
   rw[this,IE];rfl
  | ret =>
   have:(λn=>rounds body (n+1) σ)=λ_=>some (.ret,σ'):=by funext n;simp only[rounds,hb];rfl
   rw[this,IE];rfl
theorem XN {R:Type}{X:Ctx}{K:Ex->St->Option R} :
  XO (Dn c id (λσ=>exec X lo c id σ (Fl X id)) σ) K=exec X lo c id σ (X5 X lo c id K):=by
 have h1:∀ o:Option (Ex×St),XO o K=o.bind λp=>K p.1 p.2:=λo=>by cases o<;>rfl
 rw[VA,h1,Option.bind_assoc];rw[EX c];congr 1;funext e σ';cases e with
 | normal=>exact (h1 _).symm
 | exit j=>rfl
 | ret=>rfl
noncomputable def Lp {R:Type} (X:Ctx) (lo:Nat) (c:Code) (id:Nat) (K:Ex->St->Option R) (σ:St):Option R:=XO (Dn c id (λσ=>exec X lo c id σ (Fl X id)) σ) K
theorem Lp_eq {R:Type}{X:Ctx}{K:Ex->St->Option R}:Lp X lo c id K σ=exec X lo c id σ (X5 X lo c id K):=XN
theorem UK {I:Info}{fn:Func}{h:Heap} (hf:P.funcs[f]?=some fn) (hd:I.drop f=false) {p:V×Heap} (hk:fnT I fn (eval P I) lo f args h=some p):eval P I lo f args h=some p :=
 TA hf (by rw[hd];exact hk) (by rw[hd];rfl)
theorem UL {I:Info}{fn:Func}{h h':Heap}{v:V} (hf:P.funcs[f]?=some fn) (hd:I.drop f=true) (hk:fnT I fn (eval P I) h.length f args h=some (v,h')) (hn:noId v=true):eval P I lo f args h=some (v,h) :=
 TA hf (by rw[hd];exact hk) (by rw[hd];simp only[TL,hn])
end Go.Proofs.YtoocmbhkaghgnaaGreat.T
namespace Go.Proofs.YtoocmbhkaghgnaaGreat
open Go T
variable {α:Type}{l:List α}
abbrev Iv (x : Int) : V := .int .i64 x
theorem CF {i:Nat} (h : i < l.length) : l[i]? = some l[i] := YU h
theorem DB {i:Nat}{a:α} (h : l[i]? = some a) : ∃ h : i < l.length, l[i] = a := YE.1 h
theorem BA (n : Nat) : ((n : Nat) : Int).toNat = n := Int.toNat_natCast n
theorem Cz (a b : Bool) : ((a && b) = true) = (a = true /\ b = true) := YQ a b
abbrev Vh := V × Heap
abbrev Ov := Option Vh
abbrev Ds (a:Int)(b:Int)(c:Pq)(d:Nat)(e:Nq)(f:Pq)(g:Nat)(h:Nq)(i:Pq)(j:Nat)(k:Nq)(l:Bool):List V:=[Iv a,Iv b,.sl 2 c d e,.sl 6 f g h,.sl 1 i j k,.bool l]
abbrev BG (a:Int)(b:Int)(c:Pq)(d:Nat)(e:Nq)(f:Pq)(g:Nat)(h:Nq)(i:Pq)(j:Nat)(k:Nq)(l:Bool):V:=.agg [Iv a,Iv b,.sl 2 c d e,.sl 6 f g h,.sl 1 i j k,.bool l]
abbrev OO (a:Pq)(b:Nat)(c:Nq)(d:Pq)(e:Nat)(f:Nq)(g:Pq)(h:Nat)(i:Nq)(j:Pq)(k:Nat)(l:Nq):List V:=[.sl 6 a b c,.sl 5 d e f,.sl 9 g h i,.sl 5 j k l]
abbrev An (a:Pq)(b:Nat)(c:Nq)(d:Pq)(e:Nat)(f:Nq)(g:Pq)(h:Nat)(i:Nq)(j:Pq)(k:Nat)(l:Nq):V:=.agg [.sl 6 a b c,.sl 5 d e f,.sl 9 g h i,.sl 5 j k l]
abbrev EF (a:Int)(b:Int)(c:Int)(d:Pq)(e:Nat)(f:Nq)(g:ByteArray)(h:Bool):List V:=[Iv a,Iv b,Iv c,.sl 2 d e f,.str g,.bool h]
abbrev CD (a:Int)(b:Int)(c:Int)(d:Pq)(e:Nat)(f:Nq)(g:ByteArray)(h:Bool):V:=.agg [Iv a,Iv b,Iv c,.sl 2 d e f,.str g,.bool h]
abbrev BU (a:Int)(b:Int):List V:=[Iv a,Iv b]
abbrev Am (a:Int)(b:Int):V:=.agg [Iv a,Iv b]
abbrev Ry (a:Int)(b:Int)(c:Int)(d:Int)(e:ByteArray)(f:Bool):List V:=[Iv a,Iv b,Iv c,Iv d,.str e,.bool f]
abbrev BO (a:Int)(b:Int)(c:Int)(d:Int)(e:ByteArray)(f:Bool):V:=.agg [Iv a,Iv b,Iv c,Iv d,.str e,.bool f]
abbrev TN (a:Int)(b:Int)(c:Int)(d:Int)(e:Int)(f:Int)(g:Pq)(h:Nat)(i:Nq)(j:ByteArray)(k:Bool):List V:=[Iv a,Iv b,Iv c,Iv d,Iv e,Iv f,.sl 2 g h i,.str j,.bool k]
abbrev TM (a:Int)(b:Pq)(c:Nat)(d:Nq)(e:Int)(f:Int)(g:Int):List V:=[Iv a,.sl 2 b c d,Iv e,Iv f,Iv g]
abbrev Cy (a:Int)(b:Int)(c:Int):List V:=[Iv a,Iv b,Iv c]
abbrev Xz (a:Int)(b:Int)(c:Int):V:=.agg [Iv a,Iv b,Iv c]
abbrev Dr (a:Pq)(b:Nat)(c:Nq):List V:=[.sl 2 a b c]
abbrev AE (a:Pq)(b:Nat)(c:Nq):V:=.agg [.sl 2 a b c]
abbrev D5 (a:Pq)(b:Nat)(c:Nq):List V:=[.sl 6 a b c]
abbrev Fo (a:Pq)(b:Nat)(c:Nq):V:=.agg [.sl 6 a b c]
abbrev AP (a:Int):List V:=[Iv a]
abbrev MG (a:Int)(b:Int)(c:Int)(d:Int)(e:Int):List V:=[Iv a,Iv b,Iv c,Iv d,Iv e]
abbrev Ox (a:Int)(b:Int)(c:Int)(d:Int)(e:Int):V:=.agg [Iv a,Iv b,Iv c,Iv d,Iv e]
abbrev Bj (h:Heap):Ov:=some (.bool false,h)
abbrev AI (h:Heap):Ov:=some (.bool true,h)
abbrev CL (a b c:Nat):V:=.ptr (some (a,(b,c)))
abbrev AU (x:Int):Int:=IntKind.wrap .i64 x
noncomputable def I:T.Info:=Sy Tryz.prog [29,31,45,67,113] [(3,{ keep := [(0,[3,4,5,6,7],[]),(2,[3,4,5,6,8],[])] }),
 (4,{ keep := [(0,[1,5,6,7,8],[])] }),
 (5,{ keep := [(0,[3,4,5,6],[])] }),
 (8,{ keep := [(0,[2,3,9,10,11],[])],hb := [3],cl := [(8,[2,4]),(10,[1,3,8])],drop:=true }),
 (9,{ keep := [(0,[0,2,3],[]),(2,[0,2,3,4],[])],drop:=true }),
 (10,{ drop:=true }),
 (11,{ keep := [(0,[1,5,14,15,16],[])] }),
 (13,{ drop:=true }),
 (14,{ keep := [(0,[0,2,3],[])],drop:=true }),
 (16,{ drop:=true }),
 (17,{ keep := [(0,[0,2,3],[])],drop:=true }),
 (19,{ keep := [(0,[2,3,11,12,13],[])],drop:=true }),
 (20,{ keep := [(0,[0,2,3],[])],drop:=true }),
 (21,{ drop:=true }),
 (23,{ hb := [10] }),
 (24,{ drop:=true }),
 (25,{ keep := [(0,[0,2,3],[])],drop:=true }),
 (26,{ keep := [(0,[0,2,3,4,8,9,10],[])] }),
 (27,{ keep := [(0,[1,4,5,13,14,15],[])],cl := [(8,[1]),(11,[1,3,6])],drop:=true }),
 (28,{ keep := [(0,[0,1,2,3,8,9],[])],cl := [(5,[1])],drop:=true }),
 (29,{ keep := [(0,[0,1,2,7,8,9],[7])],drop:=true }),
 (34,{ drop:=true }),
 (35,{ drop:=true }),
 (36,{ drop:=true }),
 (37,{ drop:=true }),
 (38,{ drop:=true }),
 (39,{ drop:=true }),
 (40,{ keep := [(0,[1,6],[])],hb := [5] }),
 (41,{ cl := [(1,[2]),(2,[5]),(6,[5,7,9,10]),(8,[1,3,5]),(14,[2,3,5,8,10])] }),
 (42,{ drop:=true }),
 (43,{ drop:=true }),
 (44,{ drop:=true }),
 (45,{ drop:=true }),
 (47,{ keep := [(0,[1,2,3,4],[1,2,3]),(2,[1,2,3,5],[1,2,3]),(4,[1,2,3,7],[1,2,3])],cl := [(5,[1,3])] }),
 (48,{ keep := [(0,[2,6,7,8],[6,7])],cl := [(5,[0,9])] }),
 (51,{ keep := [(0,[0,1,4,7,8],[])],drop:=true }),
 (52,{ drop:=true }),
 (53,{ drop:=true }),
 (55,{ keep := [(0,[3,7,8,9],[])],drop:=true }),
 (56,{ keep := [(0,[4,5,11,12,13],[4,5])],cl := [(5,[1,4,8])] }),
 (57,{ cl := [(2,[1,4,8])] }),
 (58,{ cl := [(1,[1,3,6,8])],drop:=true }),
 (59,{ keep := [(0,[0,3,9,10,11],[9])] }),
 (60,{ keep := [(0,[1,2,3,4],[1,2,3])],cl := [(1,[1,3,5,7,10]),(5,[1,3])] }),
 (62,{ keep := [(0,[0,1,4,5,6],[4,5]),(2,[1,4,5,7],[4,5])],cl := [(5,[1]),(9,[1])] }),
 (65,{ keep := [(0,[2,3,6,7,8],[])],drop:=true }),
 (66,{ drop:=true }),
 (68,{ keep := [(0,[1,2,3,4],[1,2,3]),(2,[1,2,3,4,5,6],[1,2,3,5])],cl := [(9,[1,3])] }),
 (69,{ keep := [(0,[0,3,4],[])] }),
 (74,{ cl := [(2,[1]),(4,[1,3,5,7,9,11,16]),(10,[2,4,8,10]),(13,[1,3,7,9,11,16])] }),
 (77,{ drop:=true }),
 (79,{ keep := [(0,[1,2,3,4],[1,2,3])],cl := [(5,[1,3])] }),
 (80,{ keep := [(0,[0,2,3,4],[2,3])],cl := [(7,[1])] }),
 (82,{ cl := [(6,[1,7]),(10,[1,3,5,7,9])] }),
 (83,{ cl := [(6,[1,4,6]),(9,[1,3,5,7,10,12])] }),
 (84,{ keep := [(0,[2,3,4,8,9],[2,3,4,8])],cl := [(4,[2]),(9,[1,3,5,7,13]),(10,[0,2,5])] }),
 (85,{ drop:=true }),
 (86,{ cl := [(2,[1,5])] }),
 (87,{ keep := [(0,[1,2,3,4],[1,2,3]),(2,[1,2,6,7],[1,2])],cl := [(7,[1,2])] }),
 (88,{ drop:=true }),
 (89,{ cl := [(1,[2,7]),(4,[1,5,12])] }),
 (90,{ cl := [(2,[1,3])] }),
 (91,{ drop:=true }),
 (92,{ cl := [(1,[1,5])] }),
 (93,{ cl := [(1,[2]),(3,[1,4,8])] }),
 (96,{ keep := [(0,[0,2,3],[])],drop:=true }),
 (97,{ cl := [(1,[0,2])],drop:=true }),
 (98,{ cl := [(1,[1,2,5,9]),(4,[0,3])] }),
 (101,{ cl := [(2,[1,4,8])] }),
 (102,{ keep := [(0,[2,3,4,5,6],[2,3,4,5])],cl := [(5,[1,3,8])] }),
 (103,{ keep := [(0,[2,3,4,5],[2,3])],cl := [(4,[1,6])],drop:=true }),
 (104,{ keep := [(0,[1,2,3,4],[1,2,3])],cl := [(5,[1,3])] }),
 (105,{ cl := [(1,[1,8,13]),(3,[1,4,9]),(5,[1,4,9])] }),
 (106,{ keep := [(0,[0,3,4,5],[3])],cl := [(4,[5])],drop:=true }),
 (107,{ keep := [(0,[2,3,5,6],[2,3]),(2,[2,3,5,6,7],[2,3])],cl := [(5,[1,7])] }),
 (108,{ keep := [(0,[1,2,4,5,6],[2,5])],cl := [(6,[1,3,8])],drop:=true }),
 (109,{ drop:=true }),
 (111,{ keep := [(0,[3,5,6],[3])],drop:=true }),
 (112,{ drop:=true }),
 (113,{ cl := [(1,[1,3,8]),(2,[1,3,4])] })]
noncomputable def Ae:EG:=eval Tryz.prog I
noncomputable def X (f:Nat):Ctx:=I.ctx Ae f
theorem Ya:Sound Tryz.prog I:=Ve (by kernel_rfl) (by kernel_rfl) (by kernel_rfl)
theorem evl_sound:SC Tryz.prog Ae:=SO Ya


variable {n:Nat}{p:Prop}{h:Heap}{a:Pq}{ro:Bool}{rs:List (List V)}{j:Nat}
section words
variable {R:Type}
@[simp] theorem Ao (x y:Option R):br true x y=x:=rfl
@[simp] theorem Au (x y:Option R):br false x y=y:=rfl
@[simp] theorem GN (x:Option R):A8 true x=x:=rfl
@[simp] theorem Aa (k:IntKind) (n:Int) (f:Int->Option R):eI k (.int k n) f=f n:=by simp[eI]
@[simp] theorem Bk (b:Bool) (f:Bool->Option R):eBv (.bool b) f=f b:=rfl
@[simp] theorem AC (b:Bool) (x y:Option R):eB (.bool b) x y=br b x y:=rfl
@[simp] theorem Dg (s:ByteArray) (f:ByteArray->Option R):eT (.str s) f=f s:=rfl
@[simp] theorem Ah (q:Nat) (a:Pq) (n:Nat) (c:Nq) (f:Pq->Nat->Nq->Option R):eS q (.sl q a n c) f=f a n c:=by
 unfold eS;cases a with
 | none=>rfl
 | some p=>simp
@[simp] theorem Ru (p:Option (Nat×Nat×Nat)) (f:Option (Nat×Nat×Nat)->Option R):eP (.ptr p) f=f p:=rfl
@[simp] theorem Yl (p:Nq) (f:Nq->Option R):eM (.map p) f=f p:=rfl
@[simp] theorem A3 (cs:List V) (f:List V->Option R):eA (.agg cs) f=f cs:=rfl
@[simp] theorem Np (cs:List V) (f:List V->Option R):eU (.tup cs) f=f cs:=rfl
@[simp] theorem Ab (v:V) (r:List V) (f:V->List V->Option R):eC (v :: r) f=f v r:=rfl
@[simp] theorem Ai (x:Option R):eN [] x=x:=rfl
@[simp] theorem Ag {α:Type} (x:α) (f:α->Option R):eO (some x) f=f x:=rfl
@[simp] theorem Yw {α:Type} (x:α) (f:α->Option R) (z:Option R):eX (some x) f z=f x:=rfl
@[simp] theorem Yx {α:Type} (f:α->Option R) (z:Option R):eX none f z=z:=rfl
@[simp] theorem Ac {α:Type} (v:V) (h:α) (f:V->α->Option R):Al (some (v,h)) f=f v h:=rfl
theorem DZ {i:Int} (h:0<=i/\i<n) (f:Option R):AM i n f=f:=by unfold AM;rw[decide_eq_true h]
@[simp] theorem Ad {k:Nat} (h:k<n) (f:Option R):AM (k:Int) n f=f:=DZ ⟨by omega,by omega⟩ f
theorem DA {i:Int} (h:0<=i/\i<=n) (f:Option R):UC i n f=f:=by unfold UC;rw[decide_eq_true h]
theorem GO [Decidable p] (h:p) (f:Option R):A8 (decide p) f=f:=by rw[decide_eq_true h];rfl
theorem Aj [Decidable p] (h:p) (x y:Option R):br (decide p) x y=x:=by rw[decide_eq_true h];rfl
theorem Ak [Decidable p] (h:¬ p) (x y:Option R):br (decide p) x y=y:=by rw[decide_eq_false h];rfl
@[simp] theorem TP {α:Type} (b c d:Bool) (h:α):br b (some (V.bool c,h)) (some (V.bool d,h))=some (V.bool (bif b then c else d),h):=by cases b<;>rfl
end words
theorem wr {n:Int} (h1 : -9223372036854775808<=n) (h2:n<=9223372036854775807):AU n=n:=IntWalk.i64_in n ⟨h1,h2⟩
theorem As {k:Nat} (h:k<9223372036854775807):AU ((k:Int)+1)=((k+1:Nat):Int):=by rw[wr (by omega) (by omega)];omega
def Sl (h:Heap) (rows:List (List V)) (a:Pq) (n:Nat):Prop :=
 n=rows.length/\(rows = []\/∃ b i rs,a=some (b,i)/\Heap.rows? h b=some rs/\(rs.drop i).take n=rows)
theorem Sl.len {rows:List (List V)} (s:Sl h rows a n):n=rows.length:=s.1
theorem Sl.nil:Sl h [] a 0:=⟨rfl,.inl rfl⟩
theorem Sl.read {rows:List (List V)}{k:Nat}{row:List V} (s:Sl h rows a n) (hk:rows[k]?=some row) :
  ∃ o,a=some o/\∀ j m,ld h o.1 (o.2+k) j m=cut row j m:=by
 obtain ⟨h1,h2 | ⟨b,i,rs,h2,h3,h4⟩⟩:=s
 ·subst h2;simp at hk
 ·refine ⟨(b,i),h2,λj m=>?_⟩;have hlt:k<rows.length:=(DB hk).1;have:rs[i+k]?=some row:=by rw[<- h4,List.getElem?_take_of_lt (by omega),Zc] at hk;exact hk
  simp only[ld,h3,Za,this]
theorem Sl.mono {h':Heap}{rows:List (List V)} (s:Sl h rows a n) (hp:h <+: h'):Sl h' rows a n:=by
 obtain ⟨h1,h2 | ⟨b,i,rs,h2,h3,h4⟩⟩:=s
 ·exact ⟨h1,.inl h2⟩
 ·refine ⟨h1,.inr ⟨b,i,rs,h2,?_,h4⟩⟩;obtain ⟨t,rfl⟩:=hp;unfold Heap.rows? at h3 ⊢;have hb:b<h.length:=by apply Z2;intro hle;rw[Zz hle] at h3;cases h3
  rw[YI hb];exact h3
theorem HP {R e:Nat}:Heap.rows? (h ++ [.rows R e ro rs]) h.length=some rs:=by simp[Heap.rows?]
theorem Sl.last {R e:Nat}{rows:List (List V)} (hn:n=rows.length):Sl (h ++ [.rows R e ro rows]) rows (some (h.length,0)) n :=
 ⟨hn,.inr ⟨h.length,0,rows,rfl,HP,by simp[hn]⟩⟩
theorem WE {lo:Nat}{R e:Nat}{i:Nat}{row row' cs:List V} (hl:lo<=h.length) (hi:rs[i]?=some row) (hp:paste row j cs=some row') :
  st lo (h ++ [.rows R e false rs]) h.length i j cs=some (h ++ [.rows R e false (rs.set i row')]):=by
 have hb:Nat.ble lo h.length=true:=by simpa [Nat.ble_eq] using hl
 simp[st,hb,hi,hp]
theorem Pe {R e:Nat}{i:Nat}{row:List V} (hi:rs[i]?=some row):ld (h ++ [.rows R e ro rs]) h.length i j n=cut row j n:=by simp[ld,HP,hi]
theorem PH {row:List V}{v:V} (h:row[j]?=some v):cut row j 1=some [v]:=by have hlt:=(DB h).1;have hx:=(DB h).2;rw[PI (by omega),YN hlt,hx];rfl
theorem Gf {row:List V}{v:V} (h:j<row.length):paste row j [v]=some (row.set j v):=by
 induction j generalizing row with
 | zero=>cases row with
  | nil=>simp at h
  | cons x r=>simp[paste]
 | succ j ih=>cases row with
  | nil=>simp at h
  | cons x r=>simp only[paste];rw[ih (by simpa using h)];rfl
section maps
variable {K U:Type} [DecidableEq K]
def CM (k:K):List (K×U)->Option U
 | []=>none
 | (x,v) :: r=>if k=x then some v else CM k r
def Gt (k:K) (u:U):List (K×U)->List (K×U)
 | [] => [(k,u)]
 | (x,v) :: r=>if k=x then (k,u) :: r else (x,v) :: Gt k u r
theorem E0 {k k':K}{u:U}:∀ {m:List (K×U)},CM k' (Gt k u m)=if k'=k then some u else CM k' m
 | []=>by simp[Gt,CM]
 | (x,v) :: r=>by
  simp only[Gt];by_cases h:k=x
  ·subst h;by_cases h':k'=k<;>simp[CM,h']
  ·rw[if_neg h];simp only[CM];rw[E0 (m:=r)];by_cases h':k'=x
   ·subst h';have:¬ k'=k:=λe=>h e.symm;simp[this]
   ·simp[h']
def EN (ek:K->V) (eu:U->V) (m:List (K×U)):List (V×V):=m.map λp=>(ek p.1,eu p.2)
theorem HV {ek:K->V}{eu:U->V} (hk:∀ a b,M9 (ek a) (ek b)=some (decide (a=b))) {k:K}:∀ {m:List (K×U)},EI (ek k) (EN ek eu m)=some ((CM k m).map eu)
 | []=>rfl
 | (x,v) :: r=>by
  have ih:=HV (eu:=eu) hk (k:=k) (m:=r);simp only[EN] at ih;simp only[EN,Z5,EI,hk,CM];by_cases h:k=x
  ·simp[h]
  ·simp only[h,decide_false,if_false];exact ih
theorem Jc {ek:K->V}{eu:U->V} (hk:∀ a b,M9 (ek a) (ek b)=some (decide (a=b))) {k:K}{u:U}:∀ {m:List (K×U)},Gi (ek k) (eu u) (EN ek eu m)=some (EN ek eu (Gt k u m))
 | []=>rfl
 | (x,v) :: r=>by
  have ih:=Jc (eu:=eu) hk (k:=k) (u:=u) (m:=r);simp only[EN] at ih;simp only[EN,Z5,Gi,hk,Gt];by_cases h:k=x
  ·simp[h]
  ·simp only[h,decide_false,if_false];rw[ih];rfl
end maps
theorem Tr {t:Nat}{kv:List (V×V)}:Heap.kv? (h ++ [.map t kv]) h.length=some kv:=by simp[Heap.kv?]
theorem Qx {b b':Blk}:List.set (h ++ [b]) h.length b'=h ++ [b']:=by simp


variable {ro:Bool}{R R' n:Nat}{a:Pq}{c:Nq}{F:List Nat}{k:Nat}{rs xs:List (List V)}{Gs Fs:List (List Nat)}{G:List Nat}{T:Type}{K:Pq->Nat->Nq->Option T}
abbrev Rel (α:Type):=Heap->List V->α->List Nat->Prop
def Rel.Fr {α:Type} (El:Rel α):Prop:=∀ (h h':Heap) (cs:List V) (x:α) (F:List Nat),El h cs x F->(∀ b∈F,h'[b]?=h[b]?)->El h' cs x F
def Rel.Ln {α:Type} (El:Rel α) (n:Nat):Prop:=∀ (h:Heap) (cs:List V) (x:α) (F:List Nat),El h cs x F->cs.length=n
def flat {α:Type} (cs:α->List V):Rel α:=λ_ row x F=>row=cs x/\F = []
theorem Ps {α:Type}{cs:α->List V}:(flat cs).Fr:=λ_ _ _ _ _ h _=>h
def EAll {α:Type} (El:Rel α) (h:Heap):List (List V)->List α->List (List Nat)->Prop
 | [],[],[]=>True
 | r :: rs,x :: xs,F :: Fs=>El h r x F/\EAll El h rs xs Fs
 | _,_,_=>False
def Sli {α:Type} (ro:Bool) (R e:Nat) (El:Rel α):Rel (List α):=λh cs l F=>∃ R' a c,cs = [.sl R' a l.length c]/\match ro with
 | true=>R'=R/\((l = []/\F = [])\/∃ b i rs Fs,a=some (b,i)/\Heap.rows? h b=some rs/\i+l.length<=rs.length/\EAll El h ((rs.drop i).take l.length) l Fs/\F=b :: Fs.flatten)
 | false=>match a with
  | none=>l = []/\c=some 0/\F = []
  | some (b,i)=>R'=R/\∃ rs Fs,h[b]?=some (.rows R e false rs)/\i+l.length<=rs.length/\(∀ k,c=some k->l.length<=k/\i+k<=rs.length)/\(c=none->i=0)/\EAll El h ((rs.drop i).take l.length) l Fs/\F=b :: Fs.flatten
section
variable {α:Type}{El:Rel α}{h h':Heap}
theorem EAll.fr (hf:El.Fr):∀ {rows:List (List V)}{l:List α}{Fs:List (List Nat)},EAll El h rows l Fs->(∀ b∈Fs.flatten,h'[b]?=h[b]?)->EAll El h' rows l Fs
 | [],[],[],_,_=>trivial
 | r :: rs,x :: xs,F :: Fs,⟨h1,h2⟩,hb=>⟨hf _ _ _ _ _ h1 λb hm=>hb b (by simp[hm]),EAll.fr hf h2 λb hm=>hb b (by simp only[Y5,YF];exact .inr hm)⟩
 | [],[],_ :: _,h,_=>h.elim
 | [],_ :: _,_,h,_=>h.elim
 | _ :: _,[],_,h,_=>h.elim
 | _ :: _,_ :: _,[],h,_=>h.elim
theorem EAll.len:∀ {rows:List (List V)}{l:List α}{Fs:List (List Nat)},EAll El h rows l Fs->rows.length=l.length/\Fs.length=l.length
 | [],[],[],_=>⟨rfl,rfl⟩
 | r :: rs,x :: xs,F :: Fs,⟨_,h2⟩=>by have:=EAll.len h2;simp[this.1,this.2]
 | [],[],_ :: _,h=>h.elim
 | [],_ :: _,_,h=>h.elim
 | _ :: _,[],_,h=>h.elim
 | _ :: _,_ :: _,[],h=>h.elim
theorem EAll.get:∀ {rows:List (List V)}{l:List α}{Fs:List (List Nat)},EAll El h rows l Fs->∀ {k:Nat}{x:α},l[k]?=some x->∃ row F,rows[k]?=some row/\Fs[k]?=some F/\El h row x F
 | [],[],[],_,k,x,hk=>by simp at hk
 | r :: rs,x :: xs,F :: Fs,⟨h1,h2⟩,0,y,hk=>by simp at hk;subst hk;exact ⟨r,F,rfl,rfl,h1⟩
 | r :: rs,x :: xs,F :: Fs,⟨h1,h2⟩,k+1,y,hk=>by simp at hk;obtain ⟨row,G,g1,g2,g3⟩:=EAll.get h2 hk;exact ⟨row,G,by simpa using g1,by simpa using g2,g3⟩
 | [],[],_ :: _,h,_,_,_=>h.elim
 | [],_ :: _,_,h,_,_,_=>h.elim
 | _ :: _,[],_,h,_,_,_=>h.elim
 | _ :: _,_ :: _,[],h,_,_,_=>h.elim
theorem EAll.set:∀ {rows:List (List V)}{l:List α}{Fs:List (List Nat)},EAll El h rows l Fs->∀ {k:Nat}{row:List V}{x:α}{F:List Nat},El h row x F->EAll El h (rows.set k row) (l.set k x) (Fs.set k F)
 | [],[],[],_,k,_,_,_,_=>trivial
 | r :: rs,x :: xs,F :: Fs,⟨h1,h2⟩,0,_,_,_,he=>⟨he,h2⟩
 | r :: rs,x :: xs,F :: Fs,⟨h1,h2⟩,k+1,_,_,_,he=>⟨h1,EAll.set h2 he⟩
 | [],[],_ :: _,h,_,_,_,_,_=>h.elim
 | [],_ :: _,_,h,_,_,_,_,_=>h.elim
 | _ :: _,[],_,h,_,_,_,_,_=>h.elim
 | _ :: _,_ :: _,[],h,_,_,_,_,_=>h.elim
theorem EAll.append:∀ {rows rows':List (List V)}{l l':List α}{Fs Fs':List (List Nat)},EAll El h rows l Fs->EAll El h rows' l' Fs'->EAll El h (rows++rows') (l++l') (Fs++Fs')
 | [],_,[],_,[],_,_,h=>h
 | r :: rs,_,x :: xs,_,F :: Fs,_,⟨h1,h2⟩,h=>⟨h1,EAll.append h2 h⟩
 | [],_,[],_,_ :: _,_,h,_=>h.elim
 | [],_,_ :: _,_,_,_,h,_=>h.elim
 | _ :: _,_,[],_,_,_,h,_=>h.elim
 | _ :: _,_,_ :: _,_,[],_,h,_=>h.elim
theorem EAll.take:∀ {rows:List (List V)}{l:List α}{Fs:List (List Nat)},EAll El h rows l Fs->∀ (n:Nat),EAll El h (rows.take n) (l.take n) (Fs.take n)
 | [],[],[],_,n=>by simp[EAll]
 | r :: rs,x :: xs,F :: Fs,⟨h1,h2⟩,0=>trivial
 | r :: rs,x :: xs,F :: Fs,⟨h1,h2⟩,n+1=>⟨h1,EAll.take h2 n⟩
 | [],[],_ :: _,h,_=>h.elim
 | [],_ :: _,_,h,_=>h.elim
 | _ :: _,[],_,h,_=>h.elim
 | _ :: _,_ :: _,[],h,_=>h.elim
theorem EAll.drop:∀ {rows:List (List V)}{l:List α}{Fs:List (List Nat)},EAll El h rows l Fs->∀ (n:Nat),EAll El h (rows.drop n) (l.drop n) (Fs.drop n)
 | [],[],[],_,n=>by simp[EAll]
 | r :: rs,x :: xs,F :: Fs,h,0=>h
 | r :: rs,x :: xs,F :: Fs,⟨h1,h2⟩,n+1=>EAll.drop h2 n
 | [],[],_ :: _,h,_=>h.elim
 | [],_ :: _,_,h,_=>h.elim
 | _ :: _,[],_,h,_=>h.elim
 | _ :: _,_ :: _,[],h,_=>h.elim
theorem EAll.flat {cs:α->List V}:∀ {l:List α},EAll (flat cs) h (l.map cs) l (l.map λ_ => [])
 | []=>trivial
 | x :: l=>⟨⟨rfl,rfl⟩,EAll.flat⟩
theorem EAll.of_flat {cs:α->List V}:∀ {rows:List (List V)}{l:List α}{Fs:List (List Nat)},EAll (Go.Proofs.YtoocmbhkaghgnaaGreat.flat cs) h rows l Fs->rows=l.map cs/\Fs.flatten = []
 | [],[],[],_=>⟨rfl,rfl⟩
 | r :: rs,x :: xs,F :: Fs,⟨⟨h1,h2⟩,h3⟩=>by obtain ⟨h4,h5⟩:=EAll.of_flat h3;subst h1;subst h2;subst h4;exact ⟨rfl,by simpa using h5⟩
 | [],[],_ :: _,h=>h.elim
 | [],_ :: _,_,h=>h.elim
 | _ :: _,[],_,h=>h.elim
 | _ :: _,_ :: _,[],h=>h.elim
theorem Sli.fr {ro:Bool}{R e:Nat} (hf:El.Fr):(Sli ro R e El).Fr:=by
 rintro h h' cs l F ⟨R',a,c,h1,h2⟩ hb
 refine ⟨R',a,c,h1,?_⟩;cases ro with
 | true =>
  obtain ⟨hR,h2 | ⟨b,i,rs,Fs,g0,g1,g2,g5,rfl⟩⟩:=h2
  ·exact ⟨hR,.inl h2⟩
  ·exact ⟨hR,.inr ⟨b,i,rs,Fs,g0,by unfold Heap.rows? at g1 ⊢;rw[hb b (by simp)];exact g1,g2,g5.fr hf λb hm=>hb b (by simp only[YW];exact .inr hm),rfl⟩⟩
 | false =>
 cases a with
 | none=>exact h2
 | some p =>obtain ⟨b,i⟩:=p;obtain ⟨hR,rs,Fs,g1,g2,g3,g4,g5,rfl⟩:=h2;exact ⟨hR,rs,Fs,by rw[hb b (by simp)];exact g1,g2,g3,g4,g5.fr hf λb hm=>hb b (by simp only[YW];exact .inr hm),rfl⟩
theorem Sli.nil {e:Nat}:Sli false R e El h [.sl R' none 0 (some 0)] [] []:=⟨R',none,some 0,rfl,rfl,rfl,rfl⟩
theorem Sli.val {e:Nat}{l:List α} (hs:Sli ro R e El h [.sl R' a n c] l F):n=l.length:=by obtain ⟨R1,a',c',h1,_⟩:=hs;injection h1 with h1 _;injection h1
theorem Sli.form {e:Nat}{v:V}{l:List α} (hs:Sli ro R e El h [v] l F) :
  ∃ a c,(∀ {R':Type} (K:Pq->Nat->Nq->Option R'),eS R v K=K a l.length c)/\Sli ro R e El h [.sl R a l.length c] l F:=by
 obtain ⟨R',a,c,h1,h2⟩:=hs;injection h1 with h1 _;subst h1;cases ro with
 | true =>obtain ⟨rfl,h2⟩:=h2;exact ⟨a,c,λK=>Ah _ _ _ _ _,R',a,c,rfl,rfl,h2⟩
 | false =>
 cases a with
 | none=>exact ⟨none,c,λK=>rfl,R,none,c,rfl,h2⟩
 | some p =>obtain ⟨b,i⟩:=p;obtain ⟨rfl,h3⟩:=h2;exact ⟨some (b,i),c,λK=>Ah _ _ _ _ _,R',some (b,i),c,rfl,rfl,h3⟩
theorem Sli.data {e:Nat}{l:List α} (hs:Sli false R e El h [.sl R' a n c] l F) (hk:k<l.length) :
  ∃ b i rs Fs,a=some (b,i)/\h[b]?=some (.rows R e false rs)/\i+l.length<=rs.length/\(∀ k,c=some k->l.length<=k/\i+k<=rs.length)/\(c=none->i=0)/\EAll El h ((rs.drop i).take l.length) l Fs/\F=b :: Fs.flatten:=by
 obtain ⟨R1,a',c',h1,h2⟩:=hs;injection h1 with h1 _;injection h1 with _ e1 e2 e3;subst e1;subst e3;cases a with
 | none=>obtain ⟨rfl,_⟩:=h2;simp at hk
 | some p =>obtain ⟨b,i⟩:=p;obtain ⟨_,rs,Fs,g⟩:=h2;exact ⟨b,i,rs,Fs,rfl,g⟩
theorem Sli.clip {e:Nat}{l:List α} (hs:Sli false R e El h [.sl R' a n c] l F):Sli false R e El h [.sl R' a n (some n)] l F:=by
 have hn:=hs.val;subst hn;obtain ⟨R1,a',c',h1,h2⟩:=hs;injection h1 with h1 _;injection h1 with e0 e1 e2 e3;subst e0;subst e1;subst e3;refine ⟨R',a,some l.length,rfl,?_⟩;cases a with
 | none=>obtain ⟨rfl,h3,h4⟩:=h2;exact ⟨rfl,rfl,h4⟩
 | some p =>obtain ⟨b,i⟩:=p;obtain ⟨hR,rs,Fs,g1,g2,g3,g4,g5⟩:=h2;exact ⟨hR,rs,Fs,g1,g2,(λk hk=>by injection hk with hk;subst hk;exact ⟨YH _,g2⟩),(λh=>by cases h),g5⟩
theorem IZ {e:Nat}{l:List α} (hs:Sli false R e El h [.sl R' a n c] l F) :
  Ay a n c none (some (Iv (n:Nat))) (some (Iv (n:Nat))) K=K a n (some n):=by
 have hn:=hs.val;subst hn;obtain ⟨R1,a',c',h1,h2⟩:=hs;injection h1 with h1 _;injection h1 with e0 e1 e2 e3;subst e0;subst e1;subst e3;have hc:∀ k,c=some k->l.length<=k:=λk hk=>by
  cases a with
  | none=>obtain ⟨rfl,_⟩:=h2;simp
  | some p=>obtain ⟨b,i⟩:=p;obtain ⟨_,_,_,_,_,g3,_⟩:=h2;exact (g3 k hk).1
 unfold Ay E8 Ic IX;cases c with
 | none=>simp only[Aa,BA];rw[DA ⟨by omega,by omega⟩,DA ⟨by omega,by omega⟩]
 | some k=>have:=hc k rfl;simp only[Aa,BA];rw[DA ⟨by omega,by omega⟩,DA ⟨by omega,by omega⟩]
theorem Sli.read {e:Nat}{l:List α} (hs:Sli ro R e El h [.sl R' a n c] l F) (hk:k<l.length) :
  ∃ o row G,a=Option.some o/\(∀ j m,ld h o.1 (o.2+k) j m=cut row j m)/\El h row l[k] G/\(∀ b∈G,b∈F)/\o.1∈F:=by
 have fin:∀ b i rs Fs,a=Option.some (b,i)->Heap.rows? h b=Option.some rs->i+l.length<=rs.length->EAll El h ((rs.drop i).take l.length) l Fs->F=b :: Fs.flatten ->
   ∃ o row G,a=Option.some o/\(∀ j m,ld h o.1 (o.2+k) j m=cut row j m)/\El h row l[k] G/\(∀ b∈G,b∈F)/\o.1∈F:=by
  rintro b i rs Fs rfl g1 g2 g5 rfl
  obtain ⟨row,G,k1,k2,k3⟩:=g5.get (CF hk);refine ⟨(b,i),row,G,rfl,λj m=>?_,k3,λx hx=>?_,by simp⟩
  ·have:rs[i+k]?=Option.some row:=by rw[List.getElem?_take_of_lt hk,Zc] at k1;exact k1
   simp only[ld,g1,Za,this]
  ·simp only[YW,Z3];exact .inr ⟨G,YS k2,hx⟩
 cases ro with
 | true =>
  obtain ⟨R1,a',c',h1,_,⟨rfl,_⟩ | ⟨b,i,rs,Fs,g0,g1,g2,g5,g6⟩⟩:=hs
  ·simp at hk
  ·injection h1 with h1 _;injection h1 with _ e1 _ _;exact fin b i rs Fs (by rw[e1,g0]) g1 g2 g5 g6
 | false =>obtain ⟨b,i,rs,Fs,h0,g1,g2,g3,g4,g5,g6⟩:=hs.data hk;exact fin b i rs Fs h0 (by simp only[Heap.rows?,g1]) g2 g5 g6
end
theorem Fz {a b:Nat} (h:a<=b):Nat.ble a b=true:=by simpa [Nat.ble_eq] using h
theorem TR {a b:Nat} (h:¬ a<=b):Nat.ble a b=false:=by
 cases hb:Nat.ble a b with
 | false=>rfl
 | true=>exact absurd (Zx hb) h
theorem Kc {a:Nat}:Nat.beq a a=true:=by simp
theorem XI {tl:List (List V)}{i len:Nat} (hi:i+len<=rs.length):((rs.take (i+len)++xs++tl).drop i).take (len+xs.length)=(rs.drop i).take len++xs:=by
 have h1:(rs.take i).length=i:=by simp;omega
 have h2:((rs.drop i).take len).length=len:=by simp;omega
 have h3:rs.take (i+len)=rs.take i++(rs.drop i).take len:=by rw[List.take_add]
 rw[h3,YV,YV,List.drop_append_of_le_length (by omega)];rw[show (rs.take i).drop i = [] from Y0 (by omega),Y9,<- YV,List.take_append_of_le_length (by simp;omega),Zv (by simp;omega)]
def S6 {R':Type} (lo e R len:Nat) (xs:List (List V)) (h:Heap) (a:Pq) (c:Nq) (K:V->Heap->Option R'):Option R':=match a with
 | none=>K (.sl R (some (h.length,0)) (len+xs.length) none) (h ++ [.rows R e false xs])
 | some (b,i)=>match c with
  | some c=>match Nat.ble (len+xs.length) c with
   | true=>eO (E5 lo h b (i+len) xs) λh'=>K (.sl R (some (b,i)) (len+xs.length) (some c)) h'
   | false=>eO (De h b i len) λold=>K (.sl R (some (h.length,0)) (len+xs.length) none) (h ++ [.rows R e false (old++xs)])
  | none=>eO (Heap.own? lo e h b) λrs=>match Nat.ble (i+len+xs.length) rs.length with
   | true=>eO (E5 lo h b (i+len) xs) λh'=>K (.sl R (some (b,i)) (len+xs.length) none) h'
   | false=>A8 (Nat.beq i 0) <| eO (De h b i len) λold=>K (.sl R (some (h.length,0)) (len+xs.length) none) (h.set b .dead ++ [.rows R e false (old++xs)])
theorem Sli.push {α:Type}{El:Rel α}{h:Heap}{lo e bytes:Nat}{l ys:List α} (hfr:El.Fr)
  (hs:Sli false R e El h [.sl R a n c] l F) (hx:EAll El h xs ys Gs) (hb:0<bytes) (hsz:(l.length+ys.length)*bytes<=140737488355328) (hlo:∀ b∈F,lo<=b) (hl:lo<=h.length)
  (hnd:(F++Gs.flatten).Nodup) (hF:∀ b∈F++Gs.flatten,b<h.length) (hne:ys ≠ []) :
  ∃ a' c' h' F',(∀ {R':Type} (K:V->Heap->Option R'),CJ lo e R bytes (.sl R a n c) xs h K=K (.sl R a' (l.length+ys.length) c') h')/\Sli false R e El h' [.sl R a' (l.length+ys.length) c'] (l++ys) F'/\h.length<=h'.length /\
   (∀ b,b<h.length->b∉F->h'[b]?=h[b]?)/\(∀ b∈F',b∈F++Gs.flatten\/(h.length<=b/\b<h'.length))/\F'.Nodup:=by
 have hxl:=hx.len;have hxs:xs ≠ []:=λh0=>by subst h0;simp at hxl;exact hne (YM hxl.1.symm)
 have hbl:Nat.blt 0 bytes=true:=by simpa [zaa] using hb
 have hn:=hs.val;subst hn;obtain ⟨x0,xr,hx0⟩:∃ x0 xr,xs=x0 :: xr:=by cases xs with
  | nil=>exact absurd rfl hxs
  | cons x r=>exact ⟨x,r,rfl⟩
 have hsz':decide ((l.length+xs.length)*bytes<=L7)=true:=decide_eq_true (by rw[hxl.1];exact hsz);have hA:∀ {R':Type} (K:V->Heap->Option R'),CJ lo e R bytes (.sl R a l.length c) xs h K=S6 lo e R l.length xs h a c K:=by
  intro R' K;subst hx0;simp only[CJ,hbl,hsz',GN];unfold S6;cases a with
  | none=>rfl
  | some p =>obtain ⟨b,i⟩:=p;simp only[Kc,GN];cases c<;>rfl
 have new:∀ (old:List (List V)) (Fs:List (List Nat)) (h0:Heap),EAll El h0 old l Fs->EAll El h0 xs ys Gs->h0.length=h.length->(∀ b∈(Fs++Gs).flatten,b<h.length)->(Fs++Gs).flatten.Nodup ->
   Sli false R e El (h0 ++ [.rows R e false (old++xs)]) [.sl R (some (h.length,0)) (l.length+ys.length) none] (l++ys) (h.length ::(Fs++Gs).flatten)/\(h.length ::(Fs++Gs).flatten).Nodup:=by
  intro old Fs h0 ho hx' hl0 hlt hnd';have hol:=ho.len;refine ⟨⟨R,some (h.length,0),none,by simp,rfl,old++xs,Fs++Gs,by simp[<- hl0],by simp;omega,λk hk=>(by cases hk),λ_=>rfl,?_,rfl⟩,?_⟩
  ·have:((old++xs).drop 0).take (l++ys).length=old++xs:=by rw[Zg,Zv];simp;omega
   rw[this];have hap:=ho.append hx';refine hap.fr hfr λb hb=>?_;rw[YI (by rw[hl0];exact hlt b hb)]
  ·rw[Y2];exact ⟨λhm=>by have:=hlt _ hm;omega,hnd'⟩
 cases a with
 | none =>
  obtain ⟨R1,a1,c1,e1,e2⟩:=hs;injection e1 with e1 _;injection e1 with _ e3 _ e4;subst e3;subst e4;obtain ⟨rfl,rfl,rfl⟩:=e2;simp only[Y9] at hnd hF;obtain ⟨n1,n2⟩:=new [] [] h trivial hx rfl (by simpa using hF) (by simpa using hnd);refine ⟨_,_,_,_,λK=>by rw[hA K];simp only[S6];rw[hxl.1,Y9],n1,by simp,λb hb _=>YI hb,λb hb=>?_,n2⟩;simp only[YW,Y9] at hb;rcases hb with rfl | hb
  ·exact .inr ⟨YH _,by simp⟩
  ·exact .inl (by simpa using hb)
 | some p =>
  obtain ⟨b,i⟩:=p;obtain ⟨R1,a1,c1,e1,e2⟩:=hs;injection e1 with e1 _;injection e1 with _ e3 _ e4;subst e3;subst e4;obtain ⟨_,rs,Fs,g1,g2,g3,g4,g5,rfl⟩:=e2;have hlob:lo<=b:=hlo b (by simp);have hblt:b<h.length:=hF b (by simp);have hnd1:b∉Fs.flatten++Gs.flatten/\(Fs.flatten++Gs.flatten).Nodup:=by rw[Zl,Y2] at hnd;exact hnd
  have hF1:∀ x∈(Fs++Gs).flatten,x<h.length:=λx hx=>hF x (by rw[Zl,YW];rw[Y7] at hx;exact .inr hx);have hld:De h b i l.length=some ((rs.drop i).take l.length):=by simp only[De,Heap.rows?,g1,Za,Fz g2]
  have place:∀ c,(∀ k,c=some k->l.length+ys.length<=k/\i+k<=rs.length)->(c=none->i=0)->i+l.length+xs.length<=rs.length->∃ h',E5 lo h b (i+l.length) xs=some h' /\
    Sli false R e El h' [.sl R (some (b,i)) (l.length+ys.length) c] (l++ys) (b ::(Fs++Gs).flatten)/\h'.length=h.length/\(∀ x,x≠b->h'[x]?=h[x]?):=by
   intro c hc hc0 hle;refine ⟨h.set b (.rows R e false (rs.take (i+l.length)++xs++rs.drop (i+l.length+xs.length))),?_,?_,by simp,λx hx=>YG (Ne.symm hx)⟩
   ·simp only[E5,g1,Fz hlob,Fz hle]
   ·refine ⟨R,some (b,i),c,by simp,rfl,rs.take (i+l.length)++xs++rs.drop (i+l.length+xs.length),Fs++Gs,by simp[hblt],by simp;omega,λk hk=>?_,hc0,?_,rfl⟩
    ·have:=hc k hk;refine ⟨by simpa using this.1,?_⟩;simp only[Y6,Zr,ZL];omega
    ·rw[Y6,<- hxl.1,XI g2];refine (g5.append hx).fr hfr λx hx=>YG ?_
     rintro rfl
     rw[Y7] at hx;exact hnd1.1 hx
  have fin:∀ F',F'=b ::(Fs++Gs).flatten->(∀ x∈F',x∈(b :: Fs.flatten)++Gs.flatten\/(h.length<=x/\x<h.length))/\F'.Nodup:=by
   rintro F' rfl
   rw[Y7];exact ⟨λx hx => .inl hx,by rw[Y2];exact hnd1⟩
  have CK:∀ h0:Heap,h0.length=h.length->(∀ x,x≠b->h0[x]?=h[x]?)->Sli false R e El (h0 ++ [.rows R e false ((rs.drop i).take l.length++xs)]) [.sl R (some (h.length,0)) (l.length+ys.length) none] (l++ys) (h.length ::(Fs++Gs).flatten) /\
    (h.length ::(Fs++Gs).flatten).Nodup:=by
   intro h0 hl0 hx0;refine new _ Fs h0 (g5.fr hfr λx hx=>hx0 x ?_) (hx.fr hfr λx hx=>hx0 x ?_) hl0 hF1 (by rw[Y7];exact hnd1.2)
   ·rintro rfl;exact hnd1.1 (Y8 _ hx)
   ·rintro rfl;exact hnd1.1 (ZX _ hx)
  have mem:∀ x∈h.length ::(Fs++Gs).flatten,x∈(b :: Fs.flatten)++Gs.flatten\/(h.length<=x/\x<h.length+1):=by
   intro x hx;rw[YW] at hx;rcases hx with rfl | hx
   ·exact .inr ⟨YH _,by omega⟩
   ·rw[Y7] at hx;exact .inl (by rw[Zl];exact Zs _ hx)
  cases c with
  | some c =>
   obtain ⟨k1,k2⟩:=g3 c rfl;by_cases hle:l.length+xs.length<=c
   ·obtain ⟨h',p1,p2,p3,p4⟩:=place (some c) (λk hk=>by injection hk with hk;subst hk;exact ⟨by omega,k2⟩) (λh=>by cases h) (by omega);obtain ⟨f1,f2⟩:=fin _ rfl;refine ⟨_,_,h',_,λK=>?_,p2,by omega,λx _ hx=>p4 x λe=>hx (by simp[e]),λx hx=>(f1 x hx).imp id λh=>by omega,f2⟩;rw[hA K];simp only[S6,Fz hle,p1,Ag];rw[hxl.1]
   ·obtain ⟨p1,p2⟩:=CK h rfl λ_ _=>rfl;refine ⟨_,_,_,_,λK=>?_,p1,by simp,λx hx _=>YI hx,λx hx=>(mem x hx).imp id λh=>by simpa using h,p2⟩;rw[hA K];simp only[S6,TR hle,hld,Ag];rw[hxl.1]
  | none =>
   have hi0:=g4 rfl;subst hi0;have hown:Heap.own? lo e h b=some rs:=by simp only[Heap.own?,g1,Fz hlob,Kc]
   by_cases hle:0+l.length+xs.length<=rs.length
   ·obtain ⟨h',p1,p2,p3,p4⟩:=place none (λk hk=>by cases hk) (λ_=>rfl) hle;obtain ⟨f1,f2⟩:=fin _ rfl;refine ⟨_,_,h',_,λK=>?_,p2,by omega,λx _ hx=>p4 x λe=>hx (by simp[e]),λx hx=>(f1 x hx).imp id λh=>by omega,f2⟩;rw[hA K];simp only[S6,hown,Ag,Fz hle,p1];rw[hxl.1]
   ·obtain ⟨p1,p2⟩:=CK (h.set b .dead) (by simp) λx hx=>YG (Ne.symm hx);refine ⟨_,_,_,_,λK=>?_,p1,by simp,λx hx hxF=>?_,λx hx=>(mem x hx).imp id λh=>by simpa using h,p2⟩
    ·rw[hA K];simp only[S6,hown,Ag,TR hle,Kc,GN,hld];rw[hxl.1]
    ·rw[YI (by simpa using hx),YG]
     rintro rfl;exact hxF (by simp)
theorem DQ {lo:Nat}{h:Heap}{b r j e:Nat}{row row' cs:List V} (hb:h[b]?=some (.rows R e false rs)) (hl:lo<=b) (hr:rs[r]?=some row) (hp:paste row j cs=some row') :
  st lo h b r j cs=some (h.set b (.rows R e false (rs.set r row'))):=by
 simp only[st,hb,Fz hl,hr,hp,Za]
theorem EL {y:Nat} (h:y∈(Fs.set k G).flatten):y∈Fs.flatten\/y∈G:=by
 rw[Z3] at h;obtain ⟨H,h1,h2⟩:=h;rcases Y4 h1 with h3 | rfl
 ·exact .inl (Z3.2 ⟨H,h3,h2⟩)
 ·exact .inr h2
theorem FQ:∀ {Fs:List (List Nat)}{k:Nat}{G:List Nat},Fs.flatten.Nodup->G.Nodup->(∀ y∈G,y∈Fs.flatten->∃ H,Fs[k]?=some H/\y∈H)->(Fs.set k G).flatten.Nodup
 | [],k,G,h,_,_=>h
 | F :: Fs,0,G,h,hG,hd=>by
  simp only[List.set_cons_zero,Y5] at h hd ⊢;rw[YK] at h ⊢;refine ⟨hG,h.2.1,λa ha b hb=>?_⟩
  rintro rfl
  obtain ⟨H,h1,h2⟩:=hd a ha (ZX _ hb);simp at h1;subst h1;exact h.2.2 a h2 a hb rfl
 | F :: Fs,k+1,G,h,hG,hd=>by
  simp only[List.set_cons_succ,Y5] at h hd ⊢;rw[YK] at h ⊢;have ih:=FQ (k:=k) h.2.1 hG λy hy hm=>by obtain ⟨H,h1,h2⟩:=hd y hy (ZX _ hm);exact ⟨H,by simpa using h1,h2⟩
  refine ⟨h.1,ih,λa ha b hb=>?_⟩
  rintro rfl
  rcases EL hb with h1 | h1
  ·exact h.2.2 a ha a h1 rfl
  ·obtain ⟨H,h2,h3⟩:=hd a h1 (Y8 _ ha);simp at h2;exact h.2.2 a ha a (Z3.2 ⟨H,YS h2,h3⟩) rfl
theorem GR (h:Fs[k]?=some G) {y:Nat} (hy:y∈G):y∈Fs.flatten:=Z3.2 ⟨G,YS h,hy⟩
theorem set_same {α:Type}:∀ {l:List α}{k:Nat}{x:α},l[k]?=some x->l.set k x=l
 | [],k,x,h=>rfl
 | y :: l,0,x,h=>by simp at h;subst h;rfl
 | y :: l,k+1,x,h=>by simp only[List.set_cons_succ];rw[set_same (by simpa using h)]
theorem Hf:∀ {Fs:List (List Nat)}{k y:Nat}{G G':List Nat},Fs.flatten.Nodup->Fs[k]?=some G->y∈(Fs.set k G').flatten->(y∈Fs.flatten/\y∉G)\/y∈G'
 | [],k,y,G,G',_,h,_=>by simp at h
 | F :: Fs,0,y,G,G',hn,h,hy=>by
  simp at h;subst h;simp only[List.set_cons_zero,Y5,YF] at hn hy ⊢;rw[YK] at hn;rcases hy with hy | hy
  ·exact .inr hy
  ·exact .inl ⟨.inr hy,λhm=>hn.2.2 y hm y hy rfl⟩
 | F :: Fs,k+1,y,G,G',hn,h,hy=>by
  simp only[List.set_cons_succ,Y5,YF] at hn hy ⊢;rw[YK] at hn;have h':Fs[k]?=some G:=by simpa using h
  rcases hy with hy | hy
  ·exact .inl ⟨.inl hy,λhm=>hn.2.2 y hy y (Z3.2 ⟨G,YS h',hm⟩) rfl⟩
  ·rcases Hf hn.2.1 h' hy with h1 | h1
   ·exact .inl ⟨.inr h1.1,h1.2⟩
   ·exact .inr h1
theorem EAll.put {α:Type}{El:Rel α}{h h':Heap} (hfr:El.Fr):∀ {rows:List (List V)}{l:List α}{Fs:List (List Nat)},EAll El h rows l Fs->Fs.flatten.Nodup->∀ {k:Nat}{G:List Nat},Fs[k]?=some G ->
  (∀ y∈Fs.flatten,y∉G->h'[y]?=h[y]?)->∀ {row':List V}{x':α}{G':List Nat},El h' row' x' G'->EAll El h' (rows.set k row') (l.set k x') (Fs.set k G')
 | [],[],[],_,_,k,G,h,_,_,_,_,_=>by simp at h
 | r :: rs,x :: xs,F :: Fs,⟨h1,h2⟩,hn,0,G,hk,hb,row',x',G',he=>by simp at hk;subst hk;simp only[Y5,YK] at hn;refine ⟨he,h2.fr hfr λy hy=>hb y (by simp only[Y5,YF];exact .inr hy) λhm=>hn.2.2 y hm y hy rfl⟩
 | r :: rs,x :: xs,F :: Fs,⟨h1,h2⟩,hn,k+1,G,hk,hb,row',x',G',he=>by
  have hk':Fs[k]?=some G:=by simpa using hk
  simp only[Y5,YK] at hn;refine ⟨hfr _ _ _ _ _ h1 λy hy=>hb y (by simp only[Y5,YF];exact .inl hy) λhm=>hn.2.2 y hy y (Z3.2 ⟨G,YS hk',hm⟩) rfl,?_⟩;exact EAll.put hfr h2 hn.2.1 hk' (λy hy=>hb y (by simp only[Y5,YF];exact .inr hy)) he
 | [],[],_ :: _,h,_,_,_,_,_,_,_,_,_=>h.elim
 | [],_ :: _,_,h,_,_,_,_,_,_,_,_,_=>h.elim
 | _ :: _,[],_,h,_,_,_,_,_,_,_,_,_=>h.elim
 | _ :: _,_ :: _,[],h,_,_,_,_,_,_,_,_,_=>h.elim
theorem Sli.put {α:Type}{El:Rel α}{h:Heap}{R R' e n k:Nat}{a:Pq}{c:Nq}{l:List α}{F:List Nat} (hfr:El.Fr) (hs:Sli false R e El h [.sl R' a n c] l F) (hk:k<l.length) (hnd:F.Nodup) :
  ∃ b i rs row G,a=some (b,i)/\b∈F/\b∉G/\h[b]?=some (.rows R e false rs)/\rs[i+k]?=some row/\El h row l[k] G/\(∀ x∈G,x∈F)/\G.Nodup /\
   ∀ h' row' x' G',h'[b]?=some (.rows R e false (rs.set (i+k) row'))->(∀ y∈F,y≠b->y∉G->h'[y]?=h[y]?)->El h' row' x' G'->G'.Nodup->(∀ y∈G',y∈F->y∈G) ->
    ∃ F',Sli false R e El h' [.sl R' a n c] (l.set k x') F'/\(∀ y∈F',(y∈F/\y∉G)\/y∈G')/\F'.Nodup/\(G'=G->F'=F):=by
 have hn:=hs.val;subst hn;obtain ⟨R1,a1,c1,e1,e2⟩:=hs;injection e1 with e1 _;injection e1 with e0 e3 _ e4;subst e0;subst e3;subst e4;cases a with
 | none=>obtain ⟨rfl,_⟩:=e2;simp at hk
 | some p =>
  obtain ⟨b,i⟩:=p;obtain ⟨hR,rs,Fs,g1,g2,g3,g4,g5,rfl⟩:=e2;obtain ⟨row,G,k1,k2,k3⟩:=g5.get (CF hk);rw[Y2] at hnd;have hGF:∀ x∈G,x∈Fs.flatten:=λx hx=>GR k2 hx;have hGn:G.Nodup:=hnd.2.sublist (List.sublist_flatten_of_mem (YS k2));refine ⟨b,i,rs,row,G,rfl,by simp,λhm=>hnd.1 (hGF b hm),g1,?_,k3,λx hx=>Zs _ (hGF x hx),hGn,λh' row' x' G' h1 h2 h3 h4 h5=>?_⟩
  ·rw[List.getElem?_take_of_lt hk,Zc] at k1;exact k1
  ·have hl1:((rs.set (i+k) row').drop i).take l.length=((rs.drop i).take l.length).set k row':=by rw[List.drop_set,if_neg (by omega),show i+k - i=k by omega,List.take_set]
   have hG1:∀ y∈G',y∈Fs.flatten->∃ H,Fs[k]?=some H/\y∈H:=λy hy hm=>⟨G,k2,h5 y hy (Zs _ hm)⟩
   have hbG:b∉G':=λhm=>hnd.1 (hGF b (h5 b hm (by simp)));refine ⟨b ::(Fs.set k G').flatten,⟨R',some (b,i),c,by simp,hR,rs.set (i+k) row',Fs.set k G',h1,by simpa using g2,λq hq=>by simpa using g3 q hq,g4,?_,rfl⟩,λy hy=>?_,?_,λhG=>?_⟩
   ·rw[Zq,hl1];refine g5.put hfr hnd.2 k2 (λy hy hyG=>h2 y (Zs _ hy) (λe=>hnd.1 (e ▸ hy)) hyG) h3
   ·rw[YW] at hy;rcases hy with rfl | hy
    ·exact .inl ⟨by simp,λhm=>hnd.1 (hGF _ hm)⟩
    ·rcases Hf hnd.2 k2 hy with h6 | h6
     ·exact .inl ⟨Zs _ h6.1,h6.2⟩
     ·exact .inr h6
   ·rw[Y2];refine ⟨λhm=>?_,FQ hnd.2 h4 hG1⟩;rcases EL hm with h6 | h6
    ·exact hnd.1 h6
    ·exact hbG h6
   ·rw[hG,set_same k2]


variable {c:Nq}{t:List Blk}{α:Type}{ro:Bool}{β:Type}{l:List α}{g:List β->α->Option β}
structure Mv (h:Heap) (F:List Nat) (h':Heap) (F':List Nat):Prop where
 le:h.length<=h'.length
 fr:∀ b,b<h.length->b∉F->h'[b]?=h[b]?
 nd:F'.Nodup
 sub:∀ b∈F',b∈F\/(h.length<=b/\b<h'.length)
structure Rel.Ok {α:Type} (El:Rel α):Prop where
 fr:El.Fr
 bd:∀ (h:Heap) (cs:List V) (x:α) (F:List Nat),El h cs x F->∀ b∈F,b<h.length
section
variable {h h' h'':Heap}{F F' F'' G:List Nat}
theorem XD {T:Type}{lo e R q b n:Nat}{x:List V}{xs:List (List V)}{h:Heap}{K:V->Heap->Option T}:CJ lo e R b (.sl q none n c) (x :: xs) h K=CJ lo e R b (.sl R none n c) (x :: xs) h K:=rfl
theorem Mv.refl (hn:F.Nodup):Mv h F h F:=⟨YH _,λ_ _ _=>rfl,hn,λ_ hb => .inl hb⟩
theorem Mv.nil:Mv h [] h []:=Mv.refl (by simp)
theorem Mv.trans (a:Mv h F h' F') (b:Mv h' F' h'' F''):Mv h F h'' F'' :=
 ⟨YD a.le b.le,λx hx hF=>by
  rw[b.fr x (YT hx a.le) λhm=>(a.sub x hm).elim hF λh=>by omega,a.fr x hx hF],b.nd,λx hx=>by
  have h1:=a.le;have h2:=b.le;rcases b.sub x hx with h3 | h3
  ·rcases a.sub x h3 with h4 | h4
   ·exact .inl h4
   ·exact .inr (by omega)
  ·exact .inr (by omega)⟩
theorem Mv.drop (a:Mv h F h' F'):Mv h F h' []:=⟨a.le,a.fr,by simp,by simp⟩
theorem Mv.lean (a:Mv h F h' F') (hn:F''.Nodup) (hs:∀ b∈F'',b∈F'):Mv h F h' F'':=⟨a.le,a.fr,hn,λb hb=>a.sub b (hs b hb)⟩
theorem Mv.wide (a:Mv h F h' F') (hs:∀ b∈F,b∈G):Mv h G h' F':=⟨a.le,λb hb hG=>a.fr b hb λhm=>hG (hs b hm),a.nd,λb hb=>(a.sub b hb).imp (hs b) id⟩
theorem Mv.snoc:Mv h [] (h++t) []:=⟨by simp,λb hb _=>YI hb,by simp,by simp⟩
theorem Mv.snoc' (hn:F.Nodup):Mv h F (h++t) F:=⟨by simp,λb hb _=>YI hb,hn,λb hb => .inl hb⟩
theorem Mv.last {b:Blk}:Mv h [] (h ++ [b]) [h.length]:=⟨by simp,λb hb _=>YI hb,by simp,λx hx => .inr (by simp at hx;subst hx;simp)⟩
theorem Mv.join (a:Mv h F h' F') (b:Mv h' [] h'' F'') (hb:∀ x∈F',x<h'.length):Mv h F h'' (F'++F'') :=
 ⟨YD a.le b.le,λx hx hF=>by rw[b.fr x (YT hx a.le) (by simp),a.fr x hx hF],by
  rw[YK];refine ⟨a.nd,b.nd,λx hx y hy=>?_⟩
  rintro rfl
  have h1:=hb x hx;rcases b.sub x hy with h2 | h2
  ·simp at h2
  ·omega,λx hx=>by
  have h1:=a.le;have h2:=b.le;rw[YF] at hx;rcases hx with hx | hx
  ·rcases a.sub x hx with h3 | h3
   ·exact .inl h3
   ·exact .inr (by omega)
  ·rcases b.sub x hx with h3 | h3
   ·simp at h3
   ·exact .inr (by omega)⟩
theorem Mv.aside (a:Mv h F h' F') (hn:(F++G).Nodup) (hG:∀ b∈G,b<h.length):Mv h (F++G) h' (F'++G):=by
 rw[YK] at hn;refine ⟨a.le,λb hb hF=>a.fr b hb λhm=>hF (Y8 _ hm),?_,λb hb=>?_⟩
 ·rw[YK];refine ⟨a.nd,hn.2.1,λx hx y hy=>?_⟩
  rintro rfl
  rcases a.sub x hx with h2 | h2
  ·exact hn.2.2 x h2 x hy rfl
  ·have:=hG x hy;omega
 ·rw[YF] at hb ⊢;rcases hb with hb | hb
  ·exact (a.sub b hb).imp .inl id
  ·exact .inl (.inr hb)
theorem Mv.lt (a:Mv h F h' F') (hF:∀ b∈F,b<h.length):∀ b∈F',b<h'.length:=λb hb=>by
 have:=a.le;rcases a.sub b hb with h1 | h1
 ·have:=hF b h1;omega
 ·exact h1.2
theorem Mv.ge {lo:Nat} (a:Mv h F h' F') (hl:lo<=h.length) (hF:∀ b∈F,lo<=b):∀ b∈F',lo<=b:=λb hb=>by
 rcases a.sub b hb with h1 | h1
 ·exact hF b h1
 ·omega
theorem Mv.new (a:Mv h [] h' F'):∀ b∈F',h.length<=b:=λb hb=>by
 rcases a.sub b hb with h1 | h1
 ·simp at h1
 ·exact h1.1
theorem Mv.keep {El:Rel α}{cs:List V}{x:α} (a:Mv h F h' F') (ok:El.Ok) (he:El h cs x G) (hd:∀ b∈G,b∉F):El h' cs x G :=
 ok.fr _ _ _ _ _ he λb hb=>a.fr b (ok.bd _ _ _ _ he b hb) (hd b hb)
theorem Mv.keep0 {El:Rel α}{cs:List V}{x:α} (a:Mv h [] h' F') (ok:El.Ok) (he:El h cs x G):El h' cs x G:=a.keep ok he (by simp)
end
theorem Bv {R:Type}{sz e:Nat}{h:Heap}{row:List V}{K:List (List V)->Option R}:Ap sz (h ++ [.rows sz e ro [row]]) (.sl sz (some (h.length,0)) 1 c) K=K [row]:=by simp[Ap,De,HP,A8]
theorem Sli.same {El:Rel α}{El':Rel β}{R e e' n:Nat}{h h':Heap}{v:V}{l':List β}{F F':List Nat}{a:Pq} (h0:Sli false R e El h [v] l F)
  (es:∀ {R':Type} (K:Pq->Nat->Nq->Option R'),eS R v K=K a n c) (h1:Sli false R e' El' h' [.sl R a n c] l' F'):Sli false R e' El' h' [v] l' F':=by
 obtain ⟨R0,a0,c0,e0,g0⟩:=h0;injection e0 with e0 _;subst e0;have hk:=es (λa n c=>some (a,n,c));have hn:=h1.val;obtain ⟨R1,a1,c1,e1,g1⟩:=h1;injection e1 with e1 _;injection e1 with _ x1 _ x3;subst x1;subst x3;cases a0 with
 | none =>simp only[eS,Option.some.injEq,Prod.mk.injEq] at hk;obtain ⟨rfl,h2,rfl⟩:=hk;exact ⟨R0,none,c0,by rw[h2,hn],g1⟩
 | some p =>obtain ⟨rfl,_⟩:=g0;rw[Ah] at hk;simp only[Option.some.injEq,Prod.mk.injEq] at hk;obtain ⟨rfl,h2,rfl⟩:=hk;obtain ⟨b,i⟩:=p;exact ⟨R0,some (b,i),c0,by rw[h2,hn],rfl,g1.2⟩
theorem Cj {cs:α->List V}:(flat cs).Ok:=⟨Ps,λh c x F he b hb=>by rw[he.2] at hb;simp at hb⟩
theorem EAll.bd {α:Type}{El:Rel α}{h:Heap} (ok:El.Ok):∀ {rows:List (List V)}{l:List α}{Fs:List (List Nat)},EAll El h rows l Fs->∀ b∈Fs.flatten,b<h.length
 | [],[],[],_,b,hb=>by simp at hb
 | r :: rs,x :: xs,F :: Fs,⟨h1,h2⟩,b,hb=>by
  rw[Y5,YF] at hb;rcases hb with hb | hb
  ·exact ok.bd _ _ _ _ h1 b hb
  ·exact EAll.bd ok h2 b hb
 | [],[],_ :: _,h,_,_=>h.elim
 | [],_ :: _,_,h,_,_=>h.elim
 | _ :: _,[],_,h,_,_=>h.elim
 | _ :: _,_ :: _,[],h,_,_=>h.elim
theorem Sli.ok {α:Type}{El:Rel α}{ro:Bool}{R e:Nat} (ok:El.Ok):(Sli ro R e El).Ok:=by
 refine ⟨Sli.fr ok.fr,?_⟩
 rintro h cs l F ⟨R',a,c,h1,h2⟩ b hb
 cases ro with
 | true =>
  obtain ⟨_,⟨_,rfl⟩ | ⟨b',i,rs,Fs,g0,g1,g2,g5,rfl⟩⟩:=h2
  ·simp at hb
  ·rw[YW] at hb;rcases hb with rfl | hb
   ·apply Z2;intro hle;unfold Heap.rows? at g1;rw[Zz hle] at g1;cases g1
   ·exact g5.bd ok b hb
 | false =>
 cases a with
 | none=>obtain ⟨_,_,rfl⟩:=h2;simp at hb
 | some p =>
  obtain ⟨b',i⟩:=p;obtain ⟨hR,rs,Fs,g1,g2,g3,g4,g5,rfl⟩:=h2;rw[YW] at hb;rcases hb with rfl | hb
  ·exact (DB g1).1
  ·exact g5.bd ok b hb
def CK {α β:Type} (g:List β->α->Option β):List β->List α->List β
 | acc,[]=>acc
 | acc,x :: xs=>CK g (acc++(g acc x).toList) xs
theorem Oz {α β:Type}{g:List β->α->Option β}:∀ {acc:List β}{l:List α}{x:α},CK g acc (l ++ [x])=CK g acc l++(g (CK g acc l) x).toList
 | acc,[],x=>rfl
 | acc,y :: l,x=>by simp only[Zl,CK];exact Oz
theorem Oy {acc:List β}{i:Nat} (hi:i<l.length):CK g acc (l.take (i+1))=CK g acc (l.take i)++(g (CK g acc (l.take i)) l[i]).toList:=by rw[Z0,CF hi];exact Oz
theorem Rf {α β:Type}{g:List β->α->Option β}:∀ {acc:List β}{l:List α},(CK g acc l).length<=acc.length+l.length
 | acc,[]=>by simp[CK]
 | acc,x :: l=>by
  have:=Rf (g:=g) (acc:=acc++(g acc x).toList) (l:=l);have h2:(g acc x).toList.length<=1:=by cases g acc x<;>simp
  simp only[CK,ZC,Y6] at this ⊢;omega
theorem Mm {α β:Type}{f:α->β}:∀ {acc:List β}{l:List α},CK (λ_ x=>some (f x)) acc l=acc++l.map f
 | acc,[]=>by simp[CK]
 | acc,x :: l=>by simp only[CK,Z5];rw[Mm];simp
theorem MM {T:Type}{El:Rel β} (ok:El.Ok) {h0:Heap}{lo R e bytes:Nat}{b0:List β}{F0:List Nat}{a0:Pq}{c0:Nq}
  (hlo:lo<=h0.length) (hF:∀ b∈F0,lo<=b) (hnd:F0.Nodup) (hb:0<bytes) (hsz:(b0.length+l.length)*bytes<=140737488355328)
  (L:Nat->Pq->Nat->Nq->Heap->Option T)
  (step:∀ i (hi:i<l.length) a c hh F acc,(i=0->a=a0/\c=c0)->acc=CK g b0 (l.take i)->Mv h0 F0 hh F->Sli false R e El hh [.sl R a acc.length c] acc F ->
   (g acc l[i]=none/\∃ h2,Mv hh [] h2 []/\L i a acc.length c hh=L (i+1) a acc.length c h2) \/
   (∃ y row G h2,g acc l[i]=some y/\El h2 row y G/\Mv hh [] h2 G/\L i a acc.length c hh=CJ lo e R bytes (.sl R a acc.length c) [row] h2 λv h=>eS R v λa n c=>L (i+1) a n c h))
  (hs:Sli false R e El h0 [.sl R a0 b0.length c0] b0 F0) :
  ∃ a c h' F',L 0 a0 b0.length c0 h0=L l.length a (CK g b0 l).length c h'/\Sli false R e El h' [.sl R a (CK g b0 l).length c] (CK g b0 l) F'/\Mv h0 F0 h' F':=by
 have loop:∀ m i a c hh F,m+i=l.length->(i=0->a=a0/\c=c0)->Mv h0 F0 hh F->Sli false R e El hh [.sl R a (CK g b0 (l.take i)).length c] (CK g b0 (l.take i)) F ->
   ∃ a' c' h' F',L i a (CK g b0 (l.take i)).length c hh=L l.length a' (CK g b0 l).length c' h'/\Sli false R e El h' [.sl R a' (CK g b0 l).length c'] (CK g b0 l) F'/\Mv h0 F0 h' F':=by
  intro m;induction m with
  | zero =>
   intro i a c hh F hi hz hm hr;have:i=l.length:=by omega
   subst this;rw[List.take_length] at hr ⊢;exact ⟨a,c,hh,F,rfl,hr,hm⟩
  | succ m ih =>
   intro i a c hh F hi hz hm hr;have hlt:i<l.length:=by omega
   rcases step i hlt a c hh F _ hz rfl hm hr with ⟨hg,h2,m2,e2⟩ | ⟨y,row,G,h2,hg,hy,m2,e2⟩
   ·have ht:CK g b0 (l.take (i+1))=CK g b0 (l.take i):=by rw[Oy hlt,hg];simp
    rw[e2,<- ht];refine ih (i+1) a c h2 F (by omega) (λh=>by omega) ?_ (by rw[ht];exact m2.keep0 (Sli.ok ok) hr);refine hm.trans ⟨m2.le,λb hb hF=>m2.fr b hb (by simp),hm.nd,λb hb => .inl hb⟩
   ·have ht:CK g b0 (l.take (i+1))=CK g b0 (l.take i) ++ [y]:=by rw[Oy hlt,hg];simp
    have hbd:=(Sli.ok ok).bd _ _ _ _ hr;have hr2:=m2.keep0 (Sli.ok ok) hr;have hlen:(CK g b0 (l.take i)).length<=b0.length+i:=YD Rf (by simp;omega);have hnn:F.Nodup:=hm.nd;obtain ⟨a',c',h',F',p1,p2,p3,p4,p5,p6⟩:=Sli.push (lo:=lo) (bytes:=bytes) ok.fr hr2 (xs := [row]) (ys := [y]) (Gs := [G]) ⟨hy,trivial⟩ hb
     (YD (Zb _ (by simp;omega)) hsz) (hm.ge hlo hF) (by have:=hm.le;have:=m2.le;omega)
     (by
      rw[YK];refine ⟨hnn,by simpa using m2.nd,λx hx y hy=>?_⟩
      rintro rfl
      have h1:=hbd x hx;have h2:=m2.new x (by simpa using hy);omega)
     (λb hb'=>by
      have h1:=m2.le;rw[YF] at hb';rcases hb' with hb' | hb'
      ·have:=hbd b hb';omega
      ·exact m2.lt (by simp) b (by simpa using hb')) (by simp)
    rw[e2,p1];simp only[Ah,ZB];have hl2:(CK g b0 (l.take i)).length+1=(CK g b0 (l.take (i+1))).length:=by rw[ht];simp
    rw[hl2];rw[ZB,hl2,<- ht] at p2;refine ih (i+1) a' c' h' F' (by omega) (λh=>by omega) (hm.trans ⟨YD m2.le p3,λb hb' hF'=>?_,p6,λb hb'=>?_⟩) p2
    ·rw[p4 b (YT hb' m2.le) hF',m2.fr b hb' (by simp)]
    ·have h1:=m2.le;rcases p5 b hb' with h3 | h3
     ·rw[YF] at h3;rcases h3 with h3 | h3
      ·exact .inl h3
      ·have h4:=m2.new b (by simpa using h3);have h5:=m2.lt (by simp) b (by simpa using h3);exact .inr (by omega)
     ·exact .inr (by omega)
 obtain ⟨a',c',h',F',q1,q2⟩:=loop l.length 0 a0 c0 h0 F0 (by omega) (λ_=>⟨rfl,rfl⟩) (Mv.refl hnd) (by simpa [CK] using hs);refine ⟨a',c',h',F',?_,q2⟩;simpa [CK] using q1
theorem Cq {T:Type}{El:Rel β} (ok:El.Ok) {h:Heap}{f:α->β}{lo R e bytes:Nat} (hl:lo<=h.length) (hb:0<bytes) (hsz:l.length*bytes<=140737488355328)
  (L:Nat->Nat->Pq->Nat->Nq->Heap->Option T)
  (step:∀ i (hi:i<l.length) q a n c hh,Mv h [] hh []->∃ row G h2,El h2 row (f l[i]) G/\Mv hh [] h2 G/\L i q a n c hh=CJ lo e R bytes (.sl q a n c) [row] h2 λv h=>eS R v λa n c=>L (i+1) R a n c h) :
  ∃ q a' c' h' F',L 0 0 none 0 (some 0) h=L l.length q a' l.length c' h'/\Sli false R e El h' [.sl q a' l.length c'] (l.map f) F'/\Mv h [] h' F':=by
 by_cases he:l = []
 ·subst he;exact ⟨0,none,some 0,h,[],rfl,Sli.nil,Mv.nil⟩
 have hpos:0<l.length:=List.length_pos_iff.2 he;obtain ⟨a',c',h',F',q1,q2,q3⟩:=MM (El:=El) ok (h0:=h) (l:=l) (g:=λ_ x=>some (f x)) (lo:=lo) (R:=R) (e:=e) (bytes:=bytes) (b0 := []) (F0 := []) (a0:=none) (c0:=some 0) hl (by simp) (by simp) hb (by simpa using hsz)
  (λi a n c hh=>L i (if i=0 then 0 else R) a n c hh) (λi hi a c hh F acc hz hacc hm hr=>by
   obtain ⟨row,G,h2,r2,m2,e2⟩:=step i hi (if i=0 then 0 else R) a acc.length c hh hm.drop;refine .inr ⟨f l[i],row,G,h2,rfl,r2,m2,?_⟩;rw[e2];by_cases h0:i=0
   ·obtain ⟨rfl,rfl⟩:=hz h0;rw[XD (R:=R)];rfl
   ·rw[if_neg h0];rfl) Sli.nil
 rw[Mm,Y9] at q1 q2;rw[zaf] at q1 q2;refine ⟨R,a',c',h',F',?_,q2,q3⟩;have:=q1;simp only[if_neg (show l.length≠0 by omega)] at this;exact this
theorem HS:∀ {row cs:List V},row.length=cs.length->paste row 0 cs=some cs
 | [],[],_=>rfl
 | [],_ :: _,h=>by simp at h
 | _ :: _,[],h=>by simp at h
 | x :: row,y :: cs,h=>by simp only[paste];rw[HS (by simpa using h)]
end Go.Proofs.YtoocmbhkaghgnaaGreat
