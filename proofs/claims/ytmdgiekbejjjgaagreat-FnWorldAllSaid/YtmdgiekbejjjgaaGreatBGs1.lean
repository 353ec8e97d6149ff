/- Part 1 of what is shown for the law Gs, whatever the input; no condition of its own. -/
import Derived.Test.YtmdgiekbejjjgaaGreatBGs0
set_option linter.unusedVariables false
set_option linter.unusedSimpArgs false
set_option linter.unnecessarySimpa false
set_option maxRecDepth 100000
namespace Go.Proofs.YtmdgiekbejjjgaaGreat.T
open Go
variable {v:V}{σ1:St}{x:Operand}
section
variable {R:Type}{X:Ctx}{lo lo':Nat}{d:Option Nat}{ty:TypeId}{o:Op}{s s':List (Nat×V)}{bx bx':List (Nat×List V)}{h h':Heap}{K:V->St->Option R}
theorem Lk:∀ {xs:List Operand},(∀ x∈xs,ev s' x=ev s x)->NQ s' xs=NQ s xs
 | [],_=>rfl
 | x :: xs,hx=>by simp only[NQ];rw[hx x (by simp),Lk λy hy=>hx y (by simp[hy])]
theorem Om:∀ {xs:List (Nat×Operand)},(∀ x∈xs,ev s' x.2=ev s x.2)->Tg s' xs=Tg s xs
 | [],_=>rfl
 | (i,x) :: xs,hx=>by simp only[Tg];rw[hx (i,x) (by simp),Om λy hy=>hx y (by simp[hy])]
theorem On {x:Option Operand} (hx:∀ y∈x.toList,ev s' y=ev s y):zau s' x=zau s x:=by
 cases x with
 | none=>rfl
 | some x=>simp only[zau];rw[hx x (by simp)]
theorem Ym (hx:∀ x∈o.operands.toList,ev s' x=ev s x):opT X lo d ty o ⟨s',bx,h⟩ K=opT X lo d ty o ⟨s,bx,h⟩ λv σ=>K v ⟨s',σ.bx,σ.h⟩:=by
 cases o<;>simp only[Op.operands] at hx<;>simp only[opT]
 case move x=>rw[hx x (by simp)]
 case assign x=>rw[hx x (by simp)]
 case pick c x y=>rw[hx c (by simp),hx x (by simp),hx y (by simp)]
 case box e x=>rw[hx x (by simp)]
 case build t ps=>rw[Om λx hm=>hx x.2 (by simp;exact ⟨x.1,by simpa using hm⟩)]
 case buildSlice t n ps=>rw[Om λx hm=>hx x.2 (by simp;exact ⟨x.1,by simpa using hm⟩)]
 case load t x=>rw[hx x (by simp)]
 case store t x y=>rw[hx x (by simp),hx y (by simp)]
 case nilCheck x=>rw[hx x (by simp)]
 case binOp op t x y u=>rw[hx x (by simp),hx y (by simp)]
 case unOp op t x=>rw[hx x (by simp)]
 case convert u t x=>rw[hx x (by simp)]
 case makeFunc f fs cs =>
  have h2:NQ s' fs.toList=NQ s fs.toList:=Lk λx hm=>hx x (by simp at hm ⊢;exact .inl hm);rw[Lk (xs:=cs.toList) λx hm=>hx x (by simp at hm ⊢;exact .inr hm)];cases hfs:fs.toList with
  | nil=>cases f<;>rfl
  | cons x xs=>rw[hfs] at h2;cases f<;>simp only[h2]
 case makeSlice t l c=>rw[hx l (by simp),hx c (by simp)]
 case slice t x l hi m =>rw[hx x (by simp),On (x:=l) λy hy=>hx y (by simp at hy ⊢;simp[hy]),On (x:=hi) λy hy=>hx y (by simp at hy ⊢;simp[hy]),On (x:=m) λy hy=>hx y (by simp at hy ⊢;simp[hy])]
 case fieldAddr t x f=>rw[hx x (by simp)]
 case field t x f=>rw[hx x (by simp)]
 case indexAddr t x i=>rw[hx x (by simp),hx i (by simp)]
 case index t x i=>rw[hx x (by simp),hx i (by simp)]
 case lookup t m i ok=>rw[hx m (by simp),hx i (by simp)]
 case mapUpdate t m i x=>rw[hx m (by simp),hx i (by simp),hx x (by simp)]
 case insert t m i x=>rw[hx m (by simp),hx i (by simp),hx x (by simp)]
 case extract x i=>rw[hx x (by simp)]
 case call c =>
  have h1:NQ s' c.args.toList=NQ s c.args.toList:=Lk λx hm=>hx x (by simp[Call.operands] at hm ⊢;simp[hm]);rw[h1];split
  ·split
   ·rename_i f hc
    rw[hx f (by simp[Call.operands,hc])]
   ·rfl
   ·rfl
  ·rfl
theorem HZ (hx:∀ x∈o.operands.toList,ev s' x=ev s x) (hs:AU X lo d ty o ⟨s,bx,h⟩=some (v,σ1)):AU X lo d ty o ⟨s',bx,h⟩=some (v,⟨s',σ1.bx,σ1.h⟩):=by unfold AU at hs ⊢;rw[Ym hx,Ix];unfold AU;rw[hs];rfl
theorem MC (hs:AU X lo d ty o ⟨s,bx,h⟩=some (v,σ1)):σ1.s=s:=by have:=HZ (λx _=>rfl) hs;rw[hs] at this;injection this with this;injection this with _ this;rw[this]
theorem Yn (hw:X.wide=false) {o:Oper} (hi:EF o=true):opT X lo d ty o.op ⟨s,bx,h⟩ K=opT X lo' d ty o.op ⟨s,bx',h'⟩ λv _=>K v ⟨s,bx,h⟩:=by
 obtain ⟨dst,op,ty',pos,after,guard⟩:=o;cases op<;>simp only[EF] at hi<;>(try cases hi)<;>simp only[opT,hw,IR]
 rename_i c
 split at hi;all_goals (try cases hi)
 all_goals (rename_i hc;rw[hc];split<;>simp only[Xb])
theorem P7 (hw:X.wide=false) {o:Oper} (hi:EF o=true) (hs:AU X lo d ty o.op ⟨s,bx,h⟩=some (v,σ1)):σ1.bx=bx/\σ1.h=h/\∀ lo' bx' h',AU X lo' d ty o.op ⟨s,bx',h'⟩=some (v,⟨s,bx',h'⟩):=by
 have key:∀ lo' bx' h',AU X lo' d ty o.op ⟨s,bx',h'⟩=some (v,⟨s,bx',h'⟩):=by intro lo' bx' h';unfold AU at hs ⊢;rw[Yn hw (lo':=lo) (bx':=bx) (h':=h) hi,Ix];unfold AU;rw[hs];rfl
 have:=key lo bx h;rw[hs] at this;injection this with this;injection this with _ this;exact ⟨by rw[this],by rw[this],key⟩
theorem SB {t:TypeId} (hs:AU X lo d ty (.load t x) ⟨s,bx,h⟩=some (v,σ1)):σ1.s=s/\σ1.bx=bx/\σ1.h=h:=by
 unfold AU at hs;simp only[opT] at hs;split at hs
 ·cases hs
 ·split at hs
  ·split at hs
   ·obtain ⟨cs,_,hs⟩:=AX hs;obtain ⟨y,_,hs⟩:=AX hs;simp only[Option.some.injEq,Prod.mk.injEq] at hs;obtain ⟨_,rfl⟩:=hs;exact ⟨rfl,rfl,rfl⟩
   ·cases hs
  ·have key:opT X lo d ty (.load t x) ⟨s,bx,h⟩ (λv σ=>some (v,σ))=opT X lo d ty (.load t x) ⟨s,bx,h⟩ λv _=>some (v,⟨s,bx,h⟩):=by simp only[opT]
   have hs2:opT X lo d ty (.load t x) ⟨s,bx,h⟩ (λv σ=>some (v,σ))=some (v,σ1):=by simp only[opT];simp_all
   rw[key,Ix] at hs2;obtain ⟨p,_,hp⟩:=zdG.1 hs2;simp only[Option.some.injEq,Prod.mk.injEq] at hp;obtain ⟨_,rfl⟩:=hp;exact ⟨rfl,rfl,rfl⟩
  ·cases hs
theorem zaz {t:TypeId}{u j:Nat} (hx:ev s x = .lp u j) (hs:AU X lo d ty (.load t x) ⟨s,bx,h⟩=some (v,σ1)):∃ row,AH bx u=some row /\
  ∀ lo' bx' h',AH bx' u=some row->AU X lo' d ty (.load t x) ⟨s,bx',h'⟩=some (v,⟨s,bx',h'⟩):=by
 unfold AU at hs;simp only[opT,hx] at hs;split at hs
 ·cases hs
 ·rename_i hk
  split at hs
  ·rename_i row hrow
   refine ⟨row,hrow,λlo' bx' h' hb=>?_⟩;unfold AU;simp only[opT,hx,hk,hb];obtain ⟨cs,h1,hs⟩:=AX hs;obtain ⟨y,h2,hs⟩:=AX hs;simp only[Option.some.injEq,Prod.mk.injEq] at hs;obtain ⟨rfl,_⟩:=hs;simp only[h1,h2,eO]
  ·cases hs
theorem Yu {t:TypeId} (hs:AU X lo d ty (.load t x) ⟨s,bx,h⟩=some (v,σ1)):(∃ u j,ev s x = .lp u j)\/∃ b i j,ev s x = .ptr (some (b,i,j)):=by
 unfold AU at hs;simp only[opT] at hs;split at hs
 ·cases hs
 ·split at hs
  ·rename_i u j he
   exact .inl ⟨u,j,he⟩
  ·rename_i p he
   obtain ⟨q,rfl,_⟩:=AX hs;obtain ⟨b,i,j⟩:=q;exact .inr ⟨b,i,j,he⟩
  ·cases hs
theorem Zh {t:TypeId}{b i j:Nat} (hx:ev s x = .ptr (some (b,i,j))) (hs:AU X lo d ty (.load t x) ⟨s,bx,h⟩=some (v,σ1)):∃ cs,ld h b i j (X.ty t).size=some cs /\
  ∀ lo' bx' h',ld h' b i j (X.ty t).size=some cs->AU X lo' d ty (.load t x) ⟨s,bx',h'⟩=some (v,⟨s,bx',h'⟩):=by
 unfold AU at hs;simp only[opT,hx] at hs;split at hs
 ·cases hs
 ·rename_i hk
  obtain ⟨q,hq,hs⟩:=AX hs;injection hq with hq;subst hq;obtain ⟨cs,h1,hs⟩:=AX hs;refine ⟨cs,h1,λlo' bx' h' hb=>?_⟩;have key:∀ σ:St,Ji (X.ty t).agg (X.ty t).sh cs (λv=>some (v,σ))=(Ji (X.ty t).agg (X.ty t).sh cs some).bind λv=>some (v,σ):=λσ=>by rw[Pi];rfl
  unfold AU;simp only[opT,hx,hk,eO,hb];rw[key] at hs ⊢;obtain ⟨y,h2,hs⟩:=zdG.1 hs;simp only[Option.some.injEq,Prod.mk.injEq] at hs;obtain ⟨rfl,_⟩:=hs;rw[h2];rfl
theorem Jb {t:TypeId}{y z:Operand}{u j:Nat} (hy:ev s y = .lp u j) (hs:AU X lo d ty (.store t y z) ⟨s,bx,h⟩=some (v,σ1)):σ1.h=h/\∃ row,σ1.bx=V7 bx u row:=by
 unfold AU at hs;simp only[opT,hy] at hs;split at hs
 ·split at hs
  ·split at hs
   ·split at hs
    ·simp only[Option.some.injEq,Prod.mk.injEq] at hs;obtain ⟨_,rfl⟩:=hs;exact ⟨rfl,_,rfl⟩
    ·cases hs
   ·cases hs
  ·cases hs
 ·cases hs
theorem Km {t:TypeId}{y z:Operand}{q:Option (Nat×Nat×Nat)} (hy:ev s y = .ptr q) (hs:AU X lo d ty (.store t y z) ⟨s,bx,h⟩=some (v,σ1)):σ1.bx=bx:=by
 unfold AU at hs;simp only[opT,hy] at hs;split at hs
 ·split at hs
  ·obtain ⟨q,_,hs⟩:=AX hs;obtain ⟨b,i,j⟩:=q;obtain ⟨h',_,hs⟩:=AX hs;simp only[Option.some.injEq,Prod.mk.injEq] at hs;obtain ⟨_,rfl⟩:=hs;rfl
  ·cases hs
 ·cases hs
def VJ:Op->Bool
 | .alloc _ | .box _ _ | .store _ _ _=>true
 | _=>false
theorem zbH (hb:VJ o=false):opT X lo d ty o ⟨s,bx,h⟩ K=opT X lo d ty o ⟨s,bx,h⟩ λv σ=>K v ⟨σ.s,bx,σ.h⟩:=by cases o<;>simp only[VJ] at hb<;>(try cases hb)<;>simp only[opT]
theorem zaA (hb:VJ o=false) (hs:AU X lo d ty o ⟨s,bx,h⟩=some (v,σ1)):σ1.bx=bx:=by
 have:AU X lo d ty o ⟨s,bx,h⟩=some (v,⟨σ1.s,bx,σ1.h⟩):=by have h2:=hs;unfold AU at h2 ⊢;rw[zbH hb,Ix];unfold AU;rw[h2];rfl
 rw[hs] at this;injection this with this;injection this with _ this;rw[this]
theorem MB (hs:AU X lo d ty o ⟨s,bx,h⟩=some (v,σ1)) :
  σ1.bx=bx\/(∃ t row,AH bx t=none/\σ1.bx=(t,row) :: bx)\/((∃ t x y,o = .store t x y)/\∃ u row,σ1.bx=V7 bx u row):=by
 cases hb:VJ o with
 | false=>exact .inl (zaA hb hs)
 | true =>
  unfold AU at hs;cases o<;>simp only[VJ] at hb<;>(try cases hb)<;>simp only[opT] at hs
  ·split at hs
   ·cases hs
   ·cases hs
   ·split at hs
    ·simp only[Option.some.injEq,Prod.mk.injEq] at hs;obtain ⟨_,rfl⟩:=hs;exact .inl rfl
    ·split at hs
     ·cases hs
     ·rename_i hl
      simp only[Option.some.injEq,Prod.mk.injEq] at hs;obtain ⟨_,rfl⟩:=hs;exact .inr (.inl ⟨_,_,hl,rfl⟩)
  ·split at hs
   ·cases hs
   ·split at hs
    ·split at hs
     ·split at hs
      ·simp only[Option.some.injEq,Prod.mk.injEq] at hs;obtain ⟨_,rfl⟩:=hs;exact .inl rfl
      ·split at hs
       ·cases hs
       ·rename_i hl
        simp only[Option.some.injEq,Prod.mk.injEq] at hs;obtain ⟨_,rfl⟩:=hs;exact .inr (.inl ⟨_,_,hl,rfl⟩)
     ·cases hs
    ·cases hs
  ·split at hs
   ·split at hs
    ·split at hs
     ·split at hs
      ·split at hs
       ·simp only[Option.some.injEq,Prod.mk.injEq] at hs;obtain ⟨_,rfl⟩:=hs;exact .inr (.inr ⟨⟨_,_,_,rfl⟩,_,_,rfl⟩)
       ·cases hs
      ·cases hs
     ·obtain ⟨q,_,hs⟩:=AX hs;obtain ⟨b,i,j⟩:=q;obtain ⟨h',_,hs⟩:=AX hs;simp only[Option.some.injEq,Prod.mk.injEq] at hs;obtain ⟨_,rfl⟩:=hs;exact .inl rfl
     ·cases hs
    ·cases hs
   ·cases hs
def Keeps (X:Ctx) (σ σ':St) (p:Oper):Prop:=(∀ t x,p.op = .load t x->(∀ u j row,ev σ.s x = .lp u j->AH σ.bx u=some row->AH σ'.bx u=some row) /\
 (∀ b i j,ev σ.s x = .ptr (some (b,i,j))->ld σ'.h b i j (X.ty t).size=ld σ.h b i j (X.ty t).size)) /\
 (∀ t e,IU p=some (t,e)->∀ row,AH σ.bx t=some row->AH σ'.bx t=some row)
theorem JQ {o:Oper}{t e:Nat} (h:IU o=some (t,e)):o.op = .alloc e/\o.dst=some t:=by
 unfold IU at h;split at h
 ·rename_i e' ho
  split at h
  ·rename_i t' hd
   injection h with h;injection h with h1 h2;subst h1;subst h2;exact ⟨ho,hd⟩
  ·cases h
 ·cases h
theorem Qy {o:Oper}{t:TypeId} (h:o.op = .load t x):IU o=none:=by unfold IU;rw[h]
theorem S0 {o:Oper}{v:V}{σ1:St} (hs:AU X lo d ty o.op ⟨s,bx,h⟩=some (v,σ1)):∀ {l:List Oper}{k:Option R}{r:R},chkT X o ⟨s,bx,h⟩ σ1 l k=some r->k=some r/\∀ p∈l,Keeps X ⟨s,bx,h⟩ σ1 p
 | [],k,r,hk=>⟨hk,λp hp=>by simp at hp⟩
 | p :: l,k,r,hk=>by
  have ih:∀ {k:Option R}{r:R},chkT X o ⟨s,bx,h⟩ σ1 l k=some r->k=some r/\∀ p∈l,Keeps X ⟨s,bx,h⟩ σ1 p:=S0 hs;have fin:chkT X o ⟨s,bx,h⟩ σ1 l k=some r->Keeps X ⟨s,bx,h⟩ σ1 p->k=some r/\∀ q∈p :: l,Keeps X ⟨s,bx,h⟩ σ1 q:=λh1 h2=>by
   obtain ⟨h3,h4⟩:=ih h1;refine ⟨h3,λq hq=>?_⟩;rcases zcD.1 hq with rfl | hq
   ·exact h2
   ·exact h4 q hq
  simp only[chkT] at hk;split at hk
  ·rename_i t x hp
   split at hk
   ·rename_i u j hx
    have key:(∀ row,AH bx u=some row->AH σ1.bx u=some row)->Keeps X ⟨s,bx,h⟩ σ1 p:=λhrow=>by
     refine ⟨λt' x' hp'=>?_,λt' e' hm=>by rw[Qy hp] at hm;cases hm⟩;rw[hp] at hp';injection hp' with e1 e2;subst e1;subst e2;refine ⟨λu' j' row hx' hl=>?_,λb i j' hx'=>?_⟩
     ·have hx':ev s x = .lp u' j':=hx';rw[hx] at hx';injection hx' with e1 e2;subst e1;exact hrow row hl
     ·have hx':ev s x = .ptr (some (b,i,j')):=hx';rw[hx] at hx';cases hx'
    split at hk
    ·rename_i t' y z hop
     rw[hop] at hs;split at hk
     ·rename_i u' j' hy
      split at hk
      ·cases hk
      ·rename_i hne
       refine fin hk (key λrow hl=>?_);obtain ⟨_,row',h2⟩:=Jb hy hs;rw[h2,IC,if_neg (λe=>by subst e;simp at hne)];exact hl
     ·rename_i q hy
      refine fin hk (key λrow hl=>?_);rw[Km hy hs];exact hl
     ·cases hk
    ·rename_i hop
     exact fin hk (key λrow hl=>by
      rcases MB hs with h1 | ⟨t0,row',h1,h2⟩ | ⟨⟨t0,y,z,h3⟩,_⟩
      ·rw[h1];exact hl
      ·rw[h2,Bu];split
       ·rename_i e;subst e;rw[h1] at hl;cases hl
       ·exact hl
      ·exact absurd h3 (hop _ _ _))
   ·rename_i q hx
    obtain ⟨q,rfl,hk⟩:=AX hk;obtain ⟨b,i,j⟩:=q;have key:ld σ1.h b i j (X.ty t).size=ld h b i j (X.ty t).size->Keeps X ⟨s,bx,h⟩ σ1 p:=λhl=>by
     refine ⟨λt' x' hp'=>?_,λt' e' hm=>by rw[Qy hp] at hm;cases hm⟩;rw[hp] at hp';injection hp' with e1 e2;subst e1;subst e2;refine ⟨λu' j' row hx' _=>?_,λb' i' j' hx'=>?_⟩
     ·have hx':ev s x = .lp u' j':=hx';rw[hx] at hx';cases hx'
     ·have hx':ev s x = .ptr (some (b',i',j')):=hx';rw[hx] at hx';injection hx' with e;injection e with e;injection e with e1 e;injection e with e2 e3;subst e1;subst e2;subst e3;exact hl
    have nd:∀ {k:Option R},Bd (Gf (ld h b i j (X.ty t).size) (ld σ1.h b i j (X.ty t).size)) k=some r->ld σ1.h b i j (X.ty t).size=ld h b i j (X.ty t).size/\k=some r:=λhk=>by obtain ⟨h1,h2⟩:=Az hk;unfold Gf at h1;exact ⟨((@decide_eq_true_iff _ (_)).1 h1).symm,h2⟩
    split at hk
    ·rename_i t' y z hop
     split at hk
     ·rename_i u' j' hy
      rw[hop] at hs;exact fin hk (key (by rw[(Jb hy hs).1]))
     ·obtain ⟨h1,h2⟩:=nd hk;exact fin h2 (key h1)
    ·obtain ⟨h1,h2⟩:=nd hk;exact fin h2 (key h1)
   ·cases hk
  ·rename_i e hp
   split at hk
   ·rename_i t hd
    have key:(∀ row,AH bx t=some row->AH σ1.bx t=some row)->Keeps X ⟨s,bx,h⟩ σ1 p:=λhrow=>by refine ⟨λt' x' hp'=>(by rw[hp] at hp';cases hp'),λt' e' hm=>?_⟩;obtain ⟨_,hd'⟩:=JQ hm;rw[hd] at hd';injection hd' with hd';subst hd';exact hrow
    split at hk
    ·rename_i t' y z hop
     rw[hop] at hs;split at hk
     ·rename_i u' j' hy
      split at hk
      ·cases hk
      ·rename_i hne
       refine fin hk (key λrow hl=>?_);obtain ⟨_,row',h2⟩:=Jb hy hs;rw[h2,IC,if_neg (λe=>by subst e;simp at hne)];exact hl
     ·rename_i q hy
      refine fin hk (key λrow hl=>?_);rw[Km hy hs];exact hl
     ·cases hk
    ·rename_i hop
     exact fin hk (key λrow hl=>by
      rcases MB hs with h1 | ⟨t0,row',h1,h2⟩ | ⟨⟨t0,y,z,h3⟩,_⟩
      ·rw[h1];exact hl
      ·rw[h2,Bu];split
       ·rename_i e;subst e;rw[h1] at hl;cases hl
       ·exact hl
      ·exact absurd h3 (hop _ _ _))
   ·cases hk
  ·cases hk
theorem RI (hs:AU X lo d ty o ⟨s,bx,h⟩=some (v,σ1)) {t:Nat} (ht:(AH bx t).isSome=true):(AH σ1.bx t).isSome=true:=by
 rcases MB hs with h1 | ⟨u,row,h1,h2⟩ | ⟨_,u,row,h2⟩
 ·rw[h1];exact ht
 ·rw[h2,Bu];split
  ·rfl
  ·exact ht
 ·rw[h2,IC];split
  ·simpa using ht
  ·exact ht
theorem Jc (hs:AU X lo d ty o ⟨s,bx,h⟩=some (v,σ1)) (hw:∀ t x y,o ≠ .store t x y) {t:Nat}{row:List V} (ht:AH bx t=some row):AH σ1.bx t=some row:=by
 rcases MB hs with h1 | ⟨u,row',h1,h2⟩ | ⟨⟨t,x,y,h3⟩,_⟩
 ·rw[h1];exact ht
 ·rw[h2,Bu];split
  ·rename_i e;subst e;rw[h1] at ht;cases ht
  ·exact ht
 ·exact absurd h3 (hw _ _ _)
end
theorem Ka {acc:List Nat}{j:Nat}:∀ {es:List Edge},(I5 acc es).testBit j=true->∃ e∈es,Dt e=true/\(e.on=j\/(acc.getD e.on 0).testBit j=true)
 | [],h=>by simp[I5] at h
 | e :: es,h=>by
  simp only[I5] at h;split at h
  ·rename_i hb
   have h1:((1 <<< e.on ||| acc.getD e.on 0) ||| I5 acc es).testBit j=true:=h;rw[Nat.testBit_or,Nat.testBit_or] at h1;simp only[zdh] at h1;rcases h1 with (h1 | h1) | h1
   ·refine ⟨e,by simp,hb,.inl ?_⟩;rw[Nat.testBit_shiftLeft] at h1;simp only[zcN,decide_eq_true_eq] at h1;have h2:=h1.2;by_cases hz:j - e.on=0
    ·omega
    ·rw[Nat.testBit_one_eq_true_iff_self_eq_zero] at h2;omega
   ·exact ⟨e,by simp,hb,.inr h1⟩
   ·obtain ⟨e',h2,h3⟩:=Ka h1;exact ⟨e',by simp[h2],h3⟩
  ·obtain ⟨e',h2,h3⟩:=Ka h;exact ⟨e',by simp[h2],h3⟩
theorem KR:∀ (l:List Oper) (acc:List Nat) (i:Nat),i<acc.length->(A7 acc l).getD i 0=acc.getD i 0
 | [],acc,i,h=>rfl
 | o :: l,acc,i,h=>by simp only[A7];rw[KR l _ i (by simp;omega)];simp only[zel];rw[zcC h]
theorem KQ:∀ (l:List Oper) (acc:List Nat) (i j:Nat) (o:Oper),l[i]?=some o->((A7 acc l).getD (acc.length+i) 0).testBit j=true ->
  ∃ e∈o.after.toList,Dt e=true/\(e.on=j\/((A7 acc l).getD e.on 0).testBit j=true)
 | [],acc,i,j,o,h,_=>by simp at h
 | p :: l,acc,0,j,o,h,ht=>by
  simp at h;subst h;simp only[A7,zdf] at ht ⊢;rw[KR l _ _ (by simp)] at ht;simp only[zel,List.getElem?_concat_length,zds] at ht;obtain ⟨e,h1,h2,h3⟩:=Ka ht;refine ⟨e,h1,h2,h3.imp id λh3=>?_⟩;have hlt:e.on<acc.length:=by apply zd2;intro hle;simp[zel,zdg hle] at h3
  rw[KR l _ _ (by simp;omega)];simp only[zel] at h3 ⊢;rw[zcC hlt];exact h3
 | p :: l,acc,i+1,j,o,h,ht=>by simp only[A7] at ht ⊢;have:=KQ l (acc ++ [I5 acc p.after.toList]) i j o (by simpa using h) (by rw[<- ht];congr 2;simp;omega);exact this
end Go.Proofs.YtmdgiekbejjjgaaGreat.T
namespace Go.Proofs.YtmdgiekbejjjgaaGreat.T
open Go
def WO (all:List Oper) (s:List (Nat×V)) (g:Option (Nat×Bool)):Option Bool:=HN all s g (some true) (some false)
theorem WJ {R:Type}{all:List Oper}{s:List (Nat×V)}{g:Option (Nat×Bool)}{run skip:Option R}{r:R} (h:HN all s g run skip=some r):(WO all s g=some true/\run=some r)\/(WO all s g=some false/\skip=some r):=by
 unfold WO;unfold HN at h ⊢;split at h
 ·exact .inl ⟨rfl,h⟩
 ·split at h
  ·cases h
  ·split at h
   ·cases h
   ·split at h
    ·rename_i b _
     split at h<;>rcases Ih h with ⟨rfl,h⟩ | ⟨rfl,h⟩<;>simp_all [br]
    ·simp_all
    ·cases h
def Kb (X:Ctx) (lo:Nat) (all:List Oper) (calm al:Nat->Bool) (j:Nat) (o:Oper) (σ σ':St):Prop :=
 (EH al j o=none/\WO all σ.s o.guard=some true/\∃ v σ1,AU X (if calm j then σ.h.length else lo) o.dst o.type o.op σ=some (v,σ1)/\σ'=putS σ1 o.dst v) \/
 (EH al j o=none/\WO all σ.s o.guard=some false/\σ'=putS σ o.dst (.tup [])) \/
 (∃ t e,EH al j o=some (t,e)/\σ'=putS σ o.dst (.lp t 0))
theorem FW {al:Nat->Bool}{j:Nat}{o:Oper}{t e:Nat} (h:EH al j o=some (t,e)):al j=true/\o.op = .alloc e/\o.dst=some t/\IU o=some (t,e):=by
 unfold EH at h;split at h
 ·exact ⟨‹_›,(JQ h).1,(JQ h).2,h⟩
 ·cases h
theorem W7 {al:Nat->Bool}{j:Nat}{o:Oper}{a:Nat} (h:DL o=some a):EH al j o=none:=by
 unfold EH;split
 ·unfold IU;unfold DL at h;split at h
  ·rename_i ho;rw[ho]
  ·cases h
 ·rfl
def KT (X:Ctx) (calm:Nat->Bool) (ck:Nat->List Oper) (j:Nat) (σ σ':St):Prop:=calm j=false->∀ p∈ck j,Keeps X σ σ' p
theorem Keeps.put {X:Ctx}{σ σ':St}{p:Oper}{d:Option Nat}{v:V} (h:Keeps X σ σ' p):Keeps X σ (putS σ' d v) p:=by cases d<;>exact h
theorem Keeps.same {X:Ctx}{σ:St}{p:Oper}{d:Option Nat}{v:V}:Keeps X σ (putS σ d v) p:=Keeps.put ⟨λt x _=>⟨λu j row _ h=>h,λb i j _=>rfl⟩,λt e _ row h=>h⟩
theorem VH {X:Ctx}{lo:Nat}{all:List Oper}{calm al:Nat->Bool}{ck:Nat->List Oper}{R:Type}{k:St->Option R}{r:R}:∀ (rest:List Oper) (i:Nat) (σ:St),all.drop i=rest->opsT X lo all calm ck al i rest σ k=some r ->
  ∃ S:Nat->St,S i=σ/\k (S (i+rest.length))=some r/\∀ j o,i<=j->all[j]?=some o->Kb X lo all calm al j o (S j) (S (j+1))/\KT X calm ck j (S j) (S (j+1))
 | [],i,σ,hr,hk=>⟨λ_=>σ,rfl,hk,λj o hj ho=>by
   have:all.length<=i:=List.drop_eq_nil_iff.1 hr;have:=(zcB.1 ho).1;omega⟩
 | o :: rest,i,σ,hr,hk=>by
  obtain ⟨hi,hr'⟩:=List.drop_cons' hr;simp only[opsT] at hk;have main:∀ σ',opsT X lo all calm ck al (i+1) rest σ' k=some r->Kb X lo all calm al i o σ σ'->KT X calm ck i σ σ'->∃ S:Nat->St,S i=σ/\k (S (i+(o :: rest).length))=some r/\∀ j o,i<=j->all[j]?=some o->Kb X lo all calm al j o (S j) (S (j+1))/\KT X calm ck j (S j) (S (j+1)):=by
   intro σ' hk' hst hkp;obtain ⟨S,h1,h2,h3⟩:=VH rest (i+1) σ' hr' hk';refine ⟨λj=>if j<=i then σ else S j,by simp,?_,λj o' hj ho=>?_⟩
   ·show k (if i+(o :: rest).length<=i then σ else S (i+(o :: rest).length))=some r;rw[if_neg (by simp),zdA,show i+(rest.length+1)=i+1+rest.length by omega];exact h2
   ·by_cases e:j=i
    ·subst e;rw[hi] at ho;injection ho with ho;subst ho;show Kb X lo all calm al j o (if j<=j then σ else S j) (if j+1<=j then σ else S (j+1))/\KT X calm ck j (if j<=j then σ else S j) (if j+1<=j then σ else S (j+1));rw[if_pos (zcz _),if_neg (by omega),h1];exact ⟨hst,hkp⟩
    ·show Kb X lo all calm al j o' (if j<=i then σ else S j) (if j+1<=i then σ else S (j+1))/\KT X calm ck j (if j<=i then σ else S j) (if j+1<=i then σ else S (j+1));rw[if_neg (by omega),if_neg (by omega)];exact h3 j o' (by omega) ho
  cases hbx:EH al i o with
  | some q =>obtain ⟨t,e⟩:=q;rw[hbx] at hk;exact main _ hk (.inr (.inr ⟨t,e,hbx,rfl⟩)) (λ_ p hp=>Keeps.same)
  | none =>
  rw[hbx] at hk;simp only at hk;rcases WJ hk with ⟨hg,hk1⟩ | ⟨hg,hk1⟩
  ·cases hc:calm i with
   | true =>rw[hc] at hk1;obtain ⟨v,σ1,h1,h2⟩:=U0 hk1;exact main _ h2 (.inl ⟨hbx,hg,v,σ1,by rw[hc];exact h1,rfl⟩) (λhcf=>by rw[hc] at hcf;cases hcf)
   | false =>rw[hc] at hk1;obtain ⟨v,σ1,h1,h2⟩:=U0 hk1;obtain ⟨h3,h4⟩:=S0 (s:=σ.s) (bx:=σ.bx) (h:=σ.h) h1 h2;exact main _ h3 (.inl ⟨hbx,hg,v,σ1,by rw[hc];exact h1,rfl⟩) (λ_ p hp=>(h4 p hp).put)
  ·exact main _ hk1 (.inr (.inl ⟨hbx,hg,rfl⟩)) (λ_ p hp=>Keeps.same)
section
variable {all:List Oper}{cl:Nat->Bool}
theorem JR {i:Nat}{o:Oper} (h:all[i]?=some o):(o,i)∈all.zipIdx:=zdF.2 h
theorem zcp {a b:Nat} (h:a≠b):Nat.beq a b=false:=by
 cases hb:Nat.beq a b with
 | false=>rfl
 | true=>exact absurd (zcH hb) h
theorem LT {a n:Nat} (h:Kn all a n=true) {j:Nat}{q:Oper} (hj:n<=j) (hq:all[j]?=some q):q.dst≠some a:=λhd=>by
 have h2:=zcK.1 h (q,j) (JR hq);have hb:Nat.blt j n=false:=by
  cases hb:Nat.blt j n with
  | false=>rfl
  | true =>
       have:j<n:=by simpa [zd1] using hb
       omega
 have ha:Nat.beq a a=true:=by simp
 simp only[hb,zdI,hd,Option.toList_some,List.any_cons,List.any_nil,Bool.or_false,ha,zdi] at h2;cases h2
structure Graph (all:List Oper) (cl:Nat->Bool):Prop where
 wr:∀ (i:Nat) (o:Oper),all[i]?=some o->FL o=true->IF (A7 [] all) all cl i=true
 edge:∀ (i:Nat) (o:Oper),all[i]?=some o->∀ e∈o.after.toList,Dt e=true->e.on<i
 stat:∀ (i:Nat) (o:Oper),all[i]?=some o->cl i=true->EH cl i o=none->∃ t a,o.op = .load t (.tmp a)/\Kn all a i=true/\∀ (n:Nat) (p:Oper),all[n]?=some p->GZ p=true->HO (A7 [] all) n i=true\/Kn all a n=true
 box:∀ (i:Nat) (o:Oper) (t e:Nat),all[i]?=some o->EH cl i o=some (t,e)->(A7 [] all).getD i 0=0/\o.guard=none
 guard:∀ (i:Nat) (o:Oper) (j:Nat) (b:Bool),all[i]?=some o->o.guard=some (j,b)->((A7 [] all).getD i 0).testBit j=true
 pair:∀ (i j:Nat) (p q:Oper),all[i]?=some p->all[j]?=some q->i<j->HO (A7 [] all) i j=true\/(zaf p.dst.toList (D4 all q)=true/\zaf q.dst.toList (D4 all p)=true)
theorem ZO (h:T6 (A7 [] all) all cl=true):Graph all cl:=by
 unfold T6 at h;have hp:∀ (i:Nat) (o:Oper),all[i]?=some o->_:=λi o ho=>zcK.1 h (o,i) (JR ho);simp only[zcN] at hp;refine ⟨λi o ho hw=>?_,λi o ho e he hbi=>?_,λi o ho hc hbn=>?_,λi o t e ho hbx=>?_,λi o j b ho hg=>?_,λi j p q hpi hqj hij=>?_⟩
 ·have:=(hp i o ho).1.1.1.2;rw[hw] at this;simpa using this
 ·have:=zcK.1 (hp i o ho).1.1.2 e he;simpa [zd1,hbi] using this
 ·have:=(hp i o ho).1.1.1.1;rw[hc] at this;simp only[zdi,zdI] at this;unfold WZ at this;cases hl:DL o with
  | none =>
   rw[hl] at this;have hm:IU o=none:=by unfold EH at hbn;rw[hc] at hbn;exact hbn
   rw[hm] at this;cases this
  | some a =>
   rw[hl] at this;have hop:∃ t,o.op = .load t (.tmp a):=by
    unfold DL at hl;split at hl
    ·rename_i t a' ho';injection hl with hl;subst hl;exact ⟨t,ho'⟩
    ·cases hl
   obtain ⟨t,hop⟩:=hop;rw[zcN] at this;refine ⟨t,a,hop,this.1,λn p hp hs=>?_⟩;have h3:=zcK.1 this.2 (p,n) (JR hp);simpa only [hs,zdi,zdI,zdh] using h3
 ·have:=(hp i o ho).1.1.1.1;obtain ⟨hc,hop,hdst,hm⟩:=FW hbx;rw[hc] at this;simp only[zdi,zdI] at this;unfold WZ at this;have hl:DL o=none:=by unfold DL;rw[hop]
  rw[hl,hm] at this;simp only[zcN,Option.isNone_iff_eq_none] at this;exact ⟨zcH this.1,this.2⟩
 ·have:=(hp i o ho).1.2;rw[hg] at this;exact this
 ·have:=zcK.1 (hp i p hpi).2 (q,j) (JR hqj);have hb:Nat.blt i j=true:=by simpa [zd1] using hij
  simp only[hb,zdi,zdI,zdh,zcN] at this;exact this
theorem Tc {i j:Nat}{q:Oper} (h:IF (A7 [] all) all cl i=true) (hq:all[j]?=some q) (hne:j≠i) (hi:EF q=false) (hc:cl j=false):HO (A7 [] all) i j=true:=by have:=zcK.1 h (q,j) (JR hq);simp only[zcp hne,hi,hc,zdI,Bool.or_false] at this;exact this
theorem Rf {M:List Nat}{j a:Nat}{q:Oper} (ha:DL q=some a) (hs:Kn all a j=true):∀ {l:List Oper}{i:Nat}{k:Nat},l[k]?=some q->cl (i+k)=true->HO M j (i+k)=false->q∈FV M all cl j i l
 | [],i,k,h,_,_=>by simp at h
 | p :: l,i,k,h,hc,hm=>by
  cases k with
  | zero =>simp at h;subst h;rw[zdf] at hc hm;simp[FV,hc,hm,ha,hs]
  | succ k =>
   have ih:q∈FV M all cl j (i+1) l:=Rf ha hs (k:=k) (by simpa using h) (by rw[<- hc];congr 1;omega) (by rw[<- hm];congr 1;omega);simp only[FV];split
   ·exact ih
   ·split
    ·exact ih
    ·split
     ·split
      ·exact zdu _ ih
      ·exact ih
     ·split
      ·exact ih
      ·exact zdu _ ih
theorem Tn {M:List Nat}{j t e:Nat}{q:Oper} (ha:IU q=some (t,e)):∀ {l:List Oper}{i:Nat}{k:Nat},l[k]?=some q->cl (i+k)=true->HO M j (i+k)=false->q∈FV M all cl j i l
 | [],i,k,h,_,_=>by simp at h
 | p :: l,i,k,h,hc,hm=>by
  cases k with
  | zero =>
   simp at h;subst h;rw[zdf] at hc hm;have hl:DL p=none:=by unfold DL;rw[(JQ ha).1]
   simp[FV,hc,hm,ha,hl]
  | succ k =>
   have ih:q∈FV M all cl j (i+1) l:=Tn ha (k:=k) (by simpa using h) (by rw[<- hc];congr 1;omega) (by rw[<- hm];congr 1;omega);simp only[FV];split
   ·exact ih
   ·split
    ·exact ih
    ·split
     ·split
      ·exact zdu _ ih
      ·exact ih
     ·split
      ·exact ih
      ·exact zdu _ ih
theorem zbU {M:List Nat}{j k t e:Nat}{o q:Oper} (ho:all[j]?=some o) (hi:EF o=false) (hj:cl j=false) (hq:all[k]?=some q) (hc:cl k=true) (hm:HO M j k=false) (ha:IU q=some (t,e)):q∈Uc M all cl j:=by unfold Uc;rw[ho];simp only[hi,hj];exact Tn ha (i:=0) hq (by rw[zcW];exact hc) (by rw[zcW];exact hm)
theorem zbp {M:List Nat}{j k a:Nat}{o q:Oper} (ho:all[j]?=some o) (hi:EF o=false) (hj:cl j=false) (hq:all[k]?=some q) (hc:cl k=true) (hm:HO M j k=false) (ha:DL q=some a) (hs:Kn all a j=true):q∈Uc M all cl j:=by unfold Uc;rw[ho];simp only[hi,hj];exact Rf ha hs (i:=0) hq (by rw[zcW];exact hc) (by rw[zcW];exact hm)
theorem WU {M:List Nat}{i a n:Nat}{p:Oper} (h:XI M all cl i a=true) (hp:all[n]?=some p) (hi:EF p=false) (hc:cl n=false) (hm:HO M n i=false) (hf:IF M all cl n=true):Kn all a n=true:=by have h3:=zcK.1 h (p,n) (JR hp);simpa only [hi,hc,hm,hf,zdI,zdi,Bool.or_false] using h3
theorem KI {a b:List Nat}{t:Nat} (h:zaf a b=true) (ha:t∈a) (hb:t∈b):False:=by have:=zcK.1 h t ha;simp only[zdd,List.any_eq_false] at this;exact this t hb (by simp)
variable (hG:Graph all cl)
include hG
theorem Ug:∀ (i:Nat) (o:Oper) (j:Nat),all[i]?=some o->((A7 [] all).getD i 0).testBit j=true->j<i:=by
 intro i;induction i using Nat.strongRecOn with
 | _ i ih =>
  intro o j ho hb;obtain ⟨e,h1,h2,h3⟩:=KQ all [] i j o ho (by simpa using hb);have hlt:=hG.edge i o ho e h1 h2;rcases h3 with h3 | h3
  ·omega
  ·have hlen:i<all.length:=(zcB.1 ho).1;have:=ih e.on hlt _ j (zcR (by omega)) h3;omega
theorem J9 {L:Nat->Prop} (hcl:∀ (i:Nat) (o:Oper),all[i]?=some o->L i->∀ e∈o.after.toList,Dt e=true->L e.on) :
  ∀ (i:Nat) (o:Oper) (j:Nat),all[i]?=some o->(∀ e∈o.after.toList,Dt e=true->L e.on)->((A7 [] all).getD i 0).testBit j=true->L j:=by
 intro i;induction i using Nat.strongRecOn with
 | _ i ih =>
  intro o j ho hready hb;obtain ⟨e,h1,h2,h3⟩:=KQ all [] i j o ho (by simpa using hb);have hlt:=hG.edge i o ho e h1 h2;have hL:=hready e h1 h2;rcases h3 with h3 | h3
  ·exact h3 ▸ hL
  ·have hlen:i<all.length:=(zcB.1 ho).1;have ho':all[e.on]?=some all[e.on]:=zcR (by omega);exact ih e.on hlt _ j ho' (hcl _ _ ho' hL) h3
theorem JY {L:Nat->Prop} (hcl:∀ (i:Nat) (o:Oper),all[i]?=some o->L i->∀ e∈o.after.toList,Dt e=true->L e.on) {i j:Nat}{o q:Oper} (ho:all[i]?=some o) (hq:all[j]?=some q)
  (hready:∀ e∈o.after.toList,Dt e=true->L e.on) (hn:¬ L i) (hne:j≠i) (hc:HO (A7 [] all) i j=true\/HO (A7 [] all) j i=true):L j<->j<i:=by
 have hc':((A7 [] all).getD i 0).testBit j=true\/((A7 [] all).getD j 0).testBit i=true:=by unfold HO at hc;rcases hc with hc | hc<;>split at hc<;>simp_all
 rcases hc' with h | h
 ·have:=Ug hG i o j ho h;exact ⟨λ_=>this,λ_=>J9 hG hcl i o j ho hready h⟩
 ·have:=Ug hG j q i hq h;exact ⟨λhL=>absurd (J9 hG hcl j q i hq (hcl j q hq hL) h) hn,λh=>by omega⟩
def Wr (all:List Oper) (j t:Nat):Prop:=∃ q,all[j]?=some q/\q.dst=some t
omit hG in
theorem Mz (hG:Graph all cl) {L:Nat->Prop} (hcl:∀ (i:Nat) (o:Oper),all[i]?=some o->L i->∀ e∈o.after.toList,Dt e=true->L e.on) {i:Nat}{o:Oper} (ho:all[i]?=some o)
  (hready:∀ e∈o.after.toList,Dt e=true->L e.on) (hn:¬ L i) {t:Nat} (ht:t∈D4 all o) {j:Nat} (hw:Wr all j t):L j<->j<i:=by
 obtain ⟨q,hq,hd⟩:=hw;by_cases hne:j=i
 ·subst hne;exact ⟨λh=>absurd h hn,λh=>by omega⟩
 ·refine JY hG hcl ho hq hready hn hne ?_;rcases Nat.lt_or_ge i j with h | h
  ·rcases hG.pair i j o q ho hq h with h1 | ⟨_,h1⟩
   ·exact .inl h1
   ·exact (KI h1 (by rw[hd];simp) ht).elim
  ·rcases hG.pair j i q o hq ho (by omega) with h1 | ⟨h1,_⟩
   ·exact .inr h1
   ·exact (KI h1 (by rw[hd];simp) ht).elim
end
end Go.Proofs.YtmdgiekbejjjgaaGreat.T
namespace Go.Proofs.YtmdgiekbejjjgaaGreat.T
open Go
variable {a:Act}{w:World}{next:Act->World->Prop}{ρ:Rho}{β:Bet}
theorem zbv {P:Program}{o:Oper} (h:o.wp P a w next (λ_ _ _=>False)):∃ a' w',next a' w':=by
 unfold Oper.wp at h;generalize (execOp a.eval o).run P w=res at h;cases res with
 | ok n w' =>
  cases n<;>simp only[Oper.upon] at h<;>(try exact h.elim)
  ·exact ⟨_,_,h⟩
  ·exact ⟨_,_,h⟩
  ·obtain ⟨e,w'',fr,hr,_⟩:=h [];cases e with
   | returned v=>exact ⟨_,_,hr⟩
   | panicked c=>exact hr.elim
   | outgrown=>obtain ⟨_,_,hr⟩:=hr;exact hr.elim
  ·exact ⟨_,_,h⟩
  ·obtain ⟨v,w'',hr,_⟩:=h default [];exact ⟨_,_,hr⟩
 | halt x w'=>cases x<;>simp only[Oper.upon] at h
section
variable {P:Program}{lo base nt:Nat}{X:Ctx}
def More (ρ:Rho) (β:Bet) (σ:St) (w:World) (lo base:Nat) (ρ':Rho) (β':Bet) (σ':St) (w':World):Prop :=
 Ext lo base ρ σ.h w ρ' σ'.h w'/\Ble β β'/\(∀ t,AH σ.bx t=none->(AH σ'.bx t).isSome=true->∃ r,β' t=some r)
def HX (t:Nat):List (Nat×List V)->List (Nat×List V)
 | [] => []
 | (u,v) :: r=>if u=t then HX t r else (u,v) :: HX t r
theorem Es {t:Nat}:∀ {bx:List (Nat×List V)}{u:Nat},AH (HX t bx) u=if u=t then none else AH bx u
 | [],u=>by simp[HX,AH]
 | (x,v) :: r,u=>by
  unfold HX;by_cases h:x=t
  ·rw[if_pos h,Es (bx:=r),Bu];by_cases hu:u=t
   ·rw[if_pos hu,if_pos hu]
   ·rw[if_neg hu,if_neg hu,if_neg (λe=>hu (e.symm.trans h))]
  ·rw[if_neg h,Bu,Es (bx:=r),Bu];by_cases hx:x=u
   ·rw[if_pos hx,if_pos hx,if_neg (λe=>h (hx.trans e))]
   ·rw[if_neg hx,if_neg hx]
theorem FRel.sub {bx bx':List (Nat×List V)} (hf:FRel ρ β bx w) (hs:∀ t r,β t=some r->AH bx' t=AH bx t):FRel ρ β bx' w :=
 ⟨λt r hr=>by obtain ⟨row,cs,el,h1,h2,h3⟩:=hf.has t r hr;exact ⟨row,cs,el,by rw[hs t r hr];exact h1,h2,h3⟩,hf.lt,hf.inj,hf.off⟩
theorem P8 {lo':Nat}{o:Oper}{t e:Nat}{s:List (Nat×V)}{bx:List (Nat×List V)}{h:Heap} (hop:o.op = .alloc e) (hd:o.dst=some t) (hk:((X.ty e).known&&(X.ty e).hz&&DO (X.ty e).zero)=true) (hh:X.hb.any (Nat.beq t)=false) (hl:AH bx t=none) :
  AU X lo' o.dst o.type o.op ⟨s,bx,h⟩=some (.lp t 0,⟨s,(t,(X.ty e).zero) :: bx,h⟩):=by
 unfold AU;rw[hop,hd];simp only[opT,hk,hh,hl]
def XX (X:Ctx) (cl:Nat->Bool) (j:Nat) (o:Oper) (β:Bet) (bx:List (Nat×List V)):Prop:=∀ t e,EH cl j o=some (t,e)->((X.ty e).known&&(X.ty e).hz&&DO (X.ty e).zero)=true/\X.hb.any (Nat.beq t)=false/\β t=none/\AH bx t=some (X.ty e).zero
theorem NU (hX:X.ty=AK P) (hE:∀ t,X.cmp t=true->EqOk P t) (hC:SC P X.call) {all:List Oper}{calm al:Nat->Bool}{j:Nat}{o:Oper}{σ σ':St} (hs:Kb X lo all calm al j o σ σ') (hbox:XX X al j o β σ.bx) (hd:∀ t,o.dst=some t->t<nt)
  (ho:Ok lo base nt ρ β σ a w):(∃ ρ' β' a' w',Ok lo base nt ρ' β' σ' a' w'/\More ρ β σ w lo base ρ' β' σ' w'/\∀ t r,β t=none->β' t=some r->AH σ.bx t=none\/∃ e,EH al j o=some (t,e))/\σ.h.length<=σ'.h.length/\(calm j=true->∀ b,b<σ.h.length->σ'.h[b]?=σ.h[b]?):=by
 rcases hs with ⟨_,_,v,σ1,h1,rfl⟩ | ⟨_,_,rfl⟩ | ⟨tb,eb,hbx,rfl⟩
 ·have hh:(putS σ1 o.dst v).h=σ1.h:=by cases o.dst<;>rfl
  have hb:(putS σ1 o.dst v).bx=σ1.bx:=by cases o.dst<;>rfl
  rw[hh];have hlo2:lo<=(if calm j=true then σ.h.length else lo):=by split;exact ho.hlo;exact zcz _
  have hwp:o.wp P a w (λa' w'=>(∃ ρ' β',Ok lo base nt ρ' β' (putS σ1 o.dst v) a' w'/\More ρ β σ w lo base ρ' β' (putS σ1 o.dst v) w'/\∀ t r,β t=none->β' t=some r->AH σ.bx t=none\/∃ e,EH al j o=some (t,e))/\σ.h.length<=σ1.h.length/\(calm j=true->∀ b,b<σ.h.length->σ1.h[b]?=σ.h[b]?)) (λ_ _ _=>False):=by
   refine Iw (lo:=if calm j=true then σ.h.length else lo) (base:=base) (K:=λv σ=>some (v,σ)) (r:=(v,σ1)) hX hE hC h1 ho.s ho.h ho.f ho.hB (by split;exact zcz _;exact ho.hlo) (λ_=>ho.own) ?_;intro v' σ'' c w' hk hf;injection hk with hk;injection hk with e1 e2;subst e1;subst e2;obtain ⟨ρ',β',f1,f2,f3,f4,f5,f6,f7,f8⟩:=hf;have hok:Ok lo base nt ρ' β' (putS σ'' o.dst v') (a.put o.dst c) w':=by
    refine ⟨?_,?_,?_,?_,zcw ho.hB f5.size,?_,?_,?_⟩
    ·refine SRel.put ?_ f2 (λt ht=>by rw[ho.nt];exact hd t ht);rw[f1];exact ho.s.mono f5.rle f6
    ·rw[hh];exact f3
    ·rw[hb];exact f4
    ·intro t r hr;cases hb:β t with
     | some r0 =>have:=f6 t r0 hb;rw[hr] at this;injection this with this;subst this;exact ho.own t _ hb
     | none=>exact zcw ho.hB (f7 t r hb hr).1
    ·rw[hh];exact zcw ho.hlo f5.len
    ·cases o.dst<;>simp[Act.put,ho.nt]
    ·cases o.dst<;>simp[Act.put,ho.df]
   refine ⟨⟨ρ',β',hok,⟨?_,f6,?_⟩,λt r g1 g2 => .inl (f7 t r g1 g2).2⟩,f5.len,λhc b hb=>f5.pres b ?_ hb⟩
   ·rw[hh];exact f5.weaken hlo2 (zcz _)
   ·rw[hb];exact f8
   ·rw[if_pos hc];exact hb
  obtain ⟨a',w',⟨ρ',β',h2,h5⟩,h3,h4⟩:=zbv hwp;exact ⟨⟨ρ',β',a',w',h2,h5⟩,h3,h4⟩
 ·have hh:(putS σ o.dst (.tup [])).h=σ.h:=by cases o.dst<;>rfl
  have hb:(putS σ o.dst (.tup [])).bx=σ.bx:=by cases o.dst<;>rfl
  rw[hh];refine ⟨⟨ρ,β,_,w,ho.skip hd,⟨?_,Ble.refl _,?_⟩,λt r g1 g2=>by rw[g1] at g2;cases g2⟩,zcz _,λ_ _ _=>rfl⟩
  ·rw[hh];exact Ext.refl _ _ _ _ _
  ·rw[hb];exact N3
 ·obtain ⟨_,hop,hdst,_⟩:=FW hbx;obtain ⟨k1,k2,k3,k4⟩:=hbox tb eb hbx;have hh:(putS σ o.dst (.lp tb 0)).h=σ.h:=by cases o.dst<;>rfl
  have hb:(putS σ o.dst (.lp tb 0)).bx=σ.bx:=by cases o.dst<;>rfl
  rw[hh];have h1:=P8 (lo':=lo) (s:=σ.s) (h:=σ.h) (bx:=HX tb σ.bx) hop hdst k1 k2 (by rw[Es,if_pos rfl]);unfold AU at h1;have hf0:FRel ρ β (HX tb σ.bx) w:=ho.f.sub λt r hr=>by rw[Es,if_neg (λe=>by rw[e,k3] at hr;cases hr)]
  have hwp:o.wp P a w (λa' w'=>∃ ρ' β',Ok lo base nt ρ' β' (putS σ o.dst (.lp tb 0)) a' w'/\More ρ β σ w lo base ρ' β' (putS σ o.dst (.lp tb 0)) w'/\∀ t r,β t=none->β' t=some r->AH σ.bx t=none\/∃ e,EH al j o=some (t,e)) (λ_ _ _=>False):=by
   refine Iw (lo:=lo) (base:=base) (σ:=⟨σ.s,HX tb σ.bx,σ.h⟩) (K:=λv σ=>some (v,σ)) (r:=(.lp tb 0,_)) hX hE hC h1 ho.s ho.h hf0 ho.hB ho.hlo (λ_=>ho.own) ?_;intro v' σ'' c w' hk hf;injection hk with hk;injection hk with e1 e2;subst e1;subst e2;obtain ⟨ρ',β',f1,f2,f3,f4,f5,f6,f7,f8⟩:=hf;have hok:Ok lo base nt ρ' β' (putS σ o.dst (.lp tb 0)) (a.put o.dst c) w':=by
    refine ⟨?_,?_,?_,?_,zcw ho.hB f5.size,?_,?_,?_⟩
    ·refine SRel.put ?_ f2 (λt ht=>by rw[ho.nt];exact hd t ht);exact ho.s.mono f5.rle f6
    ·rw[hh];exact f3
    ·rw[hb];refine f4.sub λt r hr=>?_;show AH σ.bx t=AH ((tb,(X.ty eb).zero) :: HX tb σ.bx) t;rw[Bu,Es];by_cases e:tb=t
     ·rw[if_pos e,<- e];exact k4
     ·rw[if_neg e,if_neg (λe'=>e e'.symm)]
    ·intro t r hr;cases hb:β t with
     | some r0 =>have:=f6 t r0 hb;rw[hr] at this;injection this with this;subst this;exact ho.own t _ hb
     | none=>exact zcw ho.hB (f7 t r hb hr).1
    ·rw[hh];exact ho.hlo
    ·cases o.dst<;>simp[Act.put,ho.nt]
    ·cases o.dst<;>simp[Act.put,ho.df]
   refine ⟨ρ',β',hok,⟨?_,f6,?_⟩,λt r g1 g2=>?_⟩
   ·rw[hh];exact f5.weaken (zcz _) (zcz _)
   ·rw[hb];exact N3
   ·have h7:AH (HX tb σ.bx) t=none:=(f7 t r g1 g2).2;rw[Es] at h7;by_cases e:t=tb
    ·exact .inr ⟨eb,by rw[e];exact hbx⟩
    ·rw[if_neg e] at h7;exact .inl h7
  obtain ⟨a',w',ρ',β',h2,h5⟩:=zbv hwp;exact ⟨⟨ρ',β',a',w',h2,h5⟩,zcz _,λ_ _ _=>rfl⟩
theorem More.trans {ρ ρ' ρ'':Rho}{β β' β'':Bet}{σ σ' σ'':St}{w w' w'':World} (a:More ρ β σ w lo base ρ' β' σ' w') (b:More ρ' β' σ' w' lo base ρ'' β'' σ'' w''):More ρ β σ w lo base ρ'' β'' σ'' w'':=by
 refine ⟨a.1.trans b.1,a.2.1.trans b.2.1,λt h1 h2=>?_⟩;cases h:AH σ'.bx t with
 | none=>exact b.2.2 t h h2
 | some row =>obtain ⟨r,hr⟩:=a.2.2 t h1 (by rw[h];rfl);exact ⟨r,b.2.1 t r hr⟩
def LP (all:List Oper) (cl:Nat->Bool) (j:Nat):Prop:=IF (A7 [] all) all cl j=true/\(∃ o,all[j]?=some o/\EF o=false)/\cl j=false
def Jw (all:List Oper) (cl:Nat->Bool) (i:Nat):Bool := !IF (A7 [] all) all cl i
structure Env (P:Program) (X:Ctx) (lo base nt:Nat) (ρ0:Rho) (β0:Bet) (w0:World) (all:List Oper) (cl:Nat->Bool) (S:Nat->St):Prop where
 nar:X.wide=false
 G:Graph all cl
 step:∀ (j:Nat) (o:Oper),all[j]?=some o->Kb X lo all (Jw all cl) cl j o (S j) (S (j+1))
 box:∀ (j:Nat) (o:Oper),all[j]?=some o->XX X cl j o β0 (S 0).bx
 dst:∀ (j:Nat) (o:Oper),all[j]?=some o->∀ t,o.dst=some t->t<nt
 ok:∀ j,j<=all.length->∃ ρ β a w,Ok lo base nt ρ β (S j) a w/\More ρ0 β0 (S 0) w0 lo base ρ β (S j) w
 len:∀ j,j<all.length->(S j).h.length<=(S (j+1)).h.length
 same:∀ j,j<all.length->¬ LP all cl j->∀ b,b<(S j).h.length->(S (j+1)).h[b]?=(S j).h[b]?
 keep:∀ j,j<all.length->KT X (Jw all cl) (Uc (A7 [] all) all cl) j (S j) (S (j+1))
theorem VI {all:List Oper}{cl:Nat->Bool}{S:Nat->St} (hG:Graph all cl) (hst:∀ (j:Nat) (o:Oper),all[j]?=some o->Kb X lo all (Jw all cl) cl j o (S j) (S (j+1)))
  (hkp:∀ (j:Nat) (o:Oper),all[j]?=some o->KT X (Jw all cl) (Uc (A7 [] all) all cl) j (S j) (S (j+1))) {i:Nat}{o:Oper}{t e:Nat} (ho:all[i]?=some o) (hb:EH cl i o=some (t,e)) {j:Nat} (hj:j<all.length)
  (hc:LP all cl j->HO (A7 [] all) j i=false) {row:List V} (hr:AH (S j).bx t=some row):AH (S (j+1)).bx t=some row:=by
 have hg:all[j]?=some all[j]:=zcR hj;have pb:∀ (σ:St) (d:Option Nat) (v:V),(putS σ d v).bx=σ.bx:=λσ d v=>by cases d<;>rfl
 rcases hst j _ hg with ⟨hbn,_,v,σ1,h1,h2⟩ | ⟨_,_,h2⟩ | ⟨_,_,_,h2⟩
 ·cases hso:GZ all[j] with
  | false =>rw[h2,pb];refine Jc (s:=(S j).s) (bx:=(S j).bx) (h:=(S j).h) h1 (λt' x y he=>?_) hr;unfold GZ at hso;rw[he] at hso;cases hso
  | true =>
   have hop:∃ u x y,all[j].op = .store u x y:=by
    unfold GZ at hso;split at hso
    ·rename_i he;exact ⟨_,_,_,he⟩
    ·cases hso
   obtain ⟨u,x,y,hop⟩:=hop;have hw:FL all[j]=true:=by unfold FL;rw[hop]
   have hf:=hG.wr j _ hg hw;have hi:EF all[j]=false:=by unfold EF;rw[hop]
   have hcj:cl j=false:=by
    cases hcj:cl j with
    | false=>rfl
    | true =>obtain ⟨t',a',hop',_⟩:=hG.stat j _ hg hcj hbn;rw[hop'] at hop;cases hop
   obtain ⟨hci,_,_,hm⟩:=FW hb;exact (hkp j _ hg (by unfold Jw;rw[hf];rfl) o (zbU hg hi hcj ho hci (hc ⟨hf,⟨_,hg,hi⟩,hcj⟩) hm)).2 t e hm row hr
 ·rw[h2,pb];exact hr
 ·rw[h2,pb];exact hr
theorem Lt {all:List Oper}{cl:Nat->Bool} (hG:Graph all cl) {i j:Nat}{o p:Oper}{t e:Nat} (ho:all[i]?=some o) (hb:EH cl i o=some (t,e)) (hp:all[j]?=some p) (hji:j<=i):HO (A7 [] all) j i=false:=by
 cases hc:HO (A7 [] all) j i with
 | false=>rfl
 | true =>
  exfalso;unfold HO at hc;split at hc
  ·rename_i h
   have:=Ug hG j p i hp h;omega
  ·rw[(hG.box i o t e ho hb).1] at hc;simp at hc
theorem zbQ (hw:X.wide=false) (hX:X.ty=AK P) (hE:∀ t,X.cmp t=true->EqOk P t) (hC:SC P X.call) {all:List Oper}{cl:Nat->Bool}{S:Nat->St} (hG:Graph all cl) (hst:∀ (j:Nat) (o:Oper),all[j]?=some o->Kb X lo all (Jw all cl) cl j o (S j) (S (j+1)))
  (hkp:∀ (j:Nat) (o:Oper),all[j]?=some o->KT X (Jw all cl) (Uc (A7 [] all) all cl) j (S j) (S (j+1))) (hd:∀ (j:Nat) (o:Oper),all[j]?=some o->∀ t,o.dst=some t->t<nt) (ho:Ok lo base nt ρ β (S 0) a w) (hbox:∀ (j:Nat) (o:Oper),all[j]?=some o->XX X cl j o β (S 0).bx):Env P X lo base nt ρ β w all cl S:=by
 have ok:∀ j,j<=all.length->∃ ρ' β' a' w',Ok lo base nt ρ' β' (S j) a' w'/\More ρ β (S 0) w lo base ρ' β' (S j) w'/\∀ i o,j<=i->all[i]?=some o->XX X cl i o β' (S j).bx:=by
  intro j;induction j with
  | zero=>intro _;exact ⟨ρ,β,a,w,ho,⟨Ext.refl _ _ _ _ _,Ble.refl _,N3⟩,λi o _ hi=>hbox i o hi⟩
  | succ j ih =>
   intro hj;obtain ⟨ρ1,β1,a1,w1,ho1,hm1,hbx1⟩:=ih (by omega);have hg:all[j]?=some all[j]:=zcR (by omega);obtain ⟨ρ2,β2,a2,w2,ho2,hm2,hn2⟩:=(NU hX hE hC (hst j _ hg) (hbx1 j _ (zcz _) hg) (hd j _ hg) ho1).1;refine ⟨ρ2,β2,a2,w2,ho2,hm1.trans hm2,λi o hji ho t e hb=>?_⟩;obtain ⟨k1,k2,k3,k4⟩:=hbx1 i o (by omega) ho t e hb;have hcm:=Lt hG ho hb hg (by omega);refine ⟨k1,k2,?_,VI hG hst hkp ho hb (by omega) (λ_=>hcm) k4⟩;cases h2:β2 t with
   | none=>rfl
   | some r =>
    exfalso;rcases hn2 t r k3 h2 with g | ⟨e',g⟩
    ·rw[k4] at g;cases g
    ·rcases hG.pair j i _ o hg ho (by omega) with g1 | ⟨g1,_⟩
     ·rw[hcm] at g1;cases g1
     ·exact KI (t:=t) g1 (by rw[(FW g).2.2.1];simp) (by unfold D4;rw[(FW hb).2.2.1];simp)
 have ok2:∀ j,j<=all.length->∃ ρ' β' a' w',Ok lo base nt ρ' β' (S j) a' w'/\More ρ β (S 0) w lo base ρ' β' (S j) w':=λj hj=>by obtain ⟨ρ',β',a',w',h1,h2,_⟩:=ok j hj;exact ⟨ρ',β',a',w',h1,h2⟩
 refine ⟨hw,hG,hst,hbox,hd,ok2,λj hj=>?_,λj hj hb b hbl=>?_,λj hj=>hkp j _ (zcR hj)⟩
 ·obtain ⟨ρ,β,a,w,ho,_,hbx⟩:=ok j (by omega);have hg:all[j]?=some all[j]:=zcR hj;exact (NU hX hE hC (hst j _ hg) (hbx j _ (zcz _) hg) (hd j _ hg) ho).2.1
 ·obtain ⟨ρ,β,a,w,ho,_,hbx⟩:=ok j (by omega);have hg:all[j]?=some all[j]:=zcR hj;cases hf:IF (A7 [] all) all cl j with
  | false=>exact (NU hX hE hC (hst j _ hg) (hbx j _ (zcz _) hg) (hd j _ hg) ho).2.2 (by simp[Jw,hf]) b hbl
  | true =>
   have hi:EF all[j]=true\/cl j=true:=by
    cases hi:EF all[j] with
    | true=>exact .inl rfl
    | false =>
     cases hc:cl j with
     | true=>exact .inr rfl
     | false=>exact absurd ⟨hf,⟨_,hg,hi⟩,hc⟩ hb
   rcases hst j _ hg with ⟨hbn,_,v,σ1,h1,h2⟩ | ⟨_,_,h2⟩ | ⟨_,_,_,h2⟩
   ·have:σ1.h=(S j).h:=by
     rcases hi with hi | hi
     ·exact (P7 hw (s:=(S j).s) (bx:=(S j).bx) (h:=(S j).h) hi h1).2.1
     ·obtain ⟨t,a,hop,_⟩:=hG.stat j _ hg hi hbn;rw[hop] at h1;exact (SB (s:=(S j).s) (bx:=(S j).bx) (h:=(S j).h) h1).2.2
    rw[h2];have hh:(putS σ1 all[j].dst v).h=σ1.h:=by cases all[j].dst<;>rfl
    rw[hh,this]
   ·rw[h2];cases all[j].dst<;>rfl
   ·rw[h2];cases all[j].dst<;>rfl
section
variable {all:List Oper}{cl:Nat->Bool}{S:Nat->St}{ρ0:Rho}{β0:Bet}{w0:World} (hV:Env P X lo base nt ρ0 β0 w0 all cl S)
include hV
theorem Env.len_le:∀ {i j:Nat},i<=j->j<=all.length->(S i).h.length<=(S j).h.length:=by
 intro i j hij;induction j with
 | zero=>intro _;rw[show i=0 by omega];exact zcz _
 | succ j ih =>
  intro hj;by_cases e:i=j+1
  ·rw[e];exact zcz _
  ·exact zcw (ih (by omega) (by omega)) (hV.len j (by omega))
theorem Env.same_le {i j:Nat} (hij:i<=j) (hj:j<=all.length) (hb:∀ k,i<=k->k<j->¬ LP all cl k) {b:Nat} (hbl:b<(S i).h.length):(S j).h[b]?=(S i).h[b]?:=by
 induction j with
 | zero=>rw[show i=0 by omega]
 | succ j ih =>
  by_cases e:i=j+1
  ·rw[e]
  ·rw[hV.same j (by omega) (hb j (by omega) (by omega)) b (zcI hbl (hV.len_le (by omega) (by omega))),ih (by omega) (by omega) λk h1 h2=>hb k h1 (by omega)]
theorem Env.slots {j:Nat}{o:Oper} (ho:all[j]?=some o):∃ v σ1,(S (j+1))=putS σ1 o.dst v/\σ1.s=(S j).s /\
  (∀ t,(AH (S j).bx t).isSome=true->(AH σ1.bx t).isSome=true)/\(¬ LP all cl j->∀ t row,AH (S j).bx t=some row->AH σ1.bx t=some row):=by
 rcases hV.step j o ho with ⟨hbn,_,v,σ1,h1,h2⟩ | ⟨_,_,h2⟩ | ⟨_,_,_,h2⟩
 ·refine ⟨v,σ1,h2,MC (s:=(S j).s) (bx:=(S j).bx) (h:=(S j).h) h1,λt ht=>RI (s:=(S j).s) (bx:=(S j).bx) (h:=(S j).h) h1 ht,λhb t row ht=>?_⟩;refine Jc (s:=(S j).s) (bx:=(S j).bx) (h:=(S j).h) h1 (λu x y he=>hb ?_) ht;have hw:FL o=true:=by unfold FL;rw[he]
  refine ⟨hV.G.wr j o ho hw,⟨o,ho,by unfold EF;rw[he]⟩,?_⟩;cases hc:cl j with
  | false=>rfl
  | true =>obtain ⟨t',a',hop,_⟩:=hV.G.stat j o ho hc hbn;rw[hop] at he;cases he
 ·exact ⟨_,S j,h2,rfl,λt ht=>ht,λ_ t row ht=>ht⟩
 ·exact ⟨_,S j,h2,rfl,λt ht=>ht,λ_ t row ht=>ht⟩
omit hV in
theorem IS (σ:St) (d:Option Nat) (v:V):(putS σ d v).bx=σ.bx:=by cases d<;>rfl
omit hV in
theorem Qq (σ:St) (d:Option Nat) (v:V):(putS σ d v).h=σ.h:=by cases d<;>rfl
theorem Env.bx_some {i j:Nat} (hij:i<=j) (hj:j<=all.length) {t:Nat} (ht:(AH (S i).bx t).isSome=true):(AH (S j).bx t).isSome=true:=by
 induction j with
 | zero=>rw[show 0=i by omega];exact ht
 | succ j ih =>
  by_cases e:i=j+1
  ·rw[<- e];exact ht
  ·obtain ⟨v,σ1,h1,_,h2,_⟩:=hV.slots (zcR (show j<all.length by omega));rw[h1,IS];exact h2 t (ih (by omega) (by omega))
theorem Env.bx_same {i j:Nat} (hij:i<=j) (hj:j<=all.length) (hb:∀ k,i<=k->k<j->¬ LP all cl k) {t:Nat}{row:List V} (ht:AH (S i).bx t=some row):AH (S j).bx t=some row:=by
 induction j with
 | zero=>rw[show 0=i by omega];exact ht
 | succ j ih =>
  by_cases e:i=j+1
  ·rw[<- e];exact ht
  ·obtain ⟨v,σ1,h1,_,_,h2⟩:=hV.slots (zcR (show j<all.length by omega));rw[h1,IS];exact h2 (hb j (by omega) (by omega)) t row (ih (by omega) (by omega) λk h1 h2=>hb k h1 (by omega))
theorem Env.slot_same {i p t:Nat} (hip:i<=p) (hp:p<=all.length) (hw:∀ j,i<=j->j<p->¬ Wr all j t):DK (S p).s t=DK (S i).s t:=by
 induction p with
 | zero=>rw[show i=0 by omega]
 | succ p ih =>
  by_cases e:i=p+1
  ·rw[e]
  ·have hg:all[p]?=some all[p]:=zcR (by omega);obtain ⟨v,σ1,h1,h2,_⟩:=hV.slots hg;rw[<- ih (by omega) (by omega) λj h1 h2=>hw j h1 (by omega),h1];have hne:all[p].dst≠some t:=λh=>hw p (by omega) (by omega) ⟨_,hg,h⟩;cases hd:all[p].dst with
   | none=>simp only[putS];rw[h2]
   | some u =>simp only[putS,GX];rw[if_neg (λh=>hne (by rw[hd,h])),h2]
end
end
end Go.Proofs.YtmdgiekbejjjgaaGreat.T
namespace Go.Proofs.YtmdgiekbejjjgaaGreat.T
open Go
def Rho.low (ρ:Rho) (n:Nat):Rho:=λb=>if b<n then ρ b else none
theorem Rho.low_some {ρ:Rho}{n b:Nat}{e:E} (h:ρ.low n b=some e):b<n/\ρ b=some e:=by
 unfold Rho.low at h;split at h
 ·exact ⟨‹_›,h⟩
 ·cases h
theorem Rho.low_of {ρ:Rho}{n b:Nat}{e:E} (hb:b<n) (h:ρ b=some e):ρ.low n b=some e:=by unfold Rho.low;rw[if_pos hb,h]
theorem Rho.low_le (ρ:Rho) (n:Nat):Rle (ρ.low n) ρ:=λb e h=>(Rho.low_some h).2
section
variable {ρ ρt:Rho}{N:Nat}
mutual
theorem VR.low (hN:∀ b e,ρt b=some e->b<N):∀ (x:V) (c ct:Value),VR ρt x ct->VR ρ x c->VR (ρ.low N) x c
 | .int _ _,_,_,_,h=>by simpa [VR] using h
 | .bool _,_,_,_,h=>by simpa [VR] using h
 | .str _,_,_,_,h=>by simpa [VR] using h
 | .nilf,_,_,_,h=>by simpa [VR] using h
 | .nili,_,_,_,h=>by simpa [VR] using h
 | .any,_,_,_,_=>by simp[VR]
 | .ptr none,_,_,_,h=>by simpa [VR] using h
 | .ptr (some (b,i,j)),_,_,ht,h=>by simp only[VR] at ht h ⊢;obtain ⟨et,hb,_⟩:=ht;obtain ⟨e,he,hv⟩:=h;exact ⟨e,Rho.low_of (hN b et hb) he,hv⟩
 | .lp _ _,_,_,_,h=>by simp[VR] at h
 | .sl _ none _ _,_,_,_,h=>by simpa [VR] using h
 | .sl _ (some (b,i)) _ _,_,_,ht,h=>by simp only[VR] at ht h ⊢;obtain ⟨et,_,_,hb,_⟩:=ht;obtain ⟨e,x,cc,he,hv⟩:=h;exact ⟨e,x,cc,Rho.low_of (hN b et hb) he,hv⟩
 | .map none,_,_,_,h=>by simpa [VR] using h
 | .map (some b),_,_,ht,h=>by simp only[VR] at ht h ⊢;obtain ⟨et,hb,_⟩:=ht;obtain ⟨e,he,hv⟩:=h;exact ⟨e,Rho.low_of (hN b et hb) he,hv⟩
 | .fn _ cs,_,_,ht,h=>by simp only[VR] at ht h ⊢;obtain ⟨_,_,yt,_,_,hct⟩:=ht;obtain ⟨fst,cps,ys,hv,hi,hc⟩:=h;exact ⟨fst,cps,ys,hv,hi,VRs.low hN cs _ _ hct hc⟩
 | .ifc _ x,_,_,ht,h=>by simp only[VR] at ht h ⊢;obtain ⟨yt,_,hct⟩:=ht;obtain ⟨y,hv,hc⟩:=h;exact ⟨y,hv,VR.low hN x _ _ hct hc⟩
 | .agg cs,_,_,ht,h=>by simp only[VR] at ht h ⊢;obtain ⟨yt,_,hct⟩:=ht;obtain ⟨ys,hv,hc⟩:=h;exact ⟨ys,hv,VRs.low hN cs _ _ hct hc⟩
 | .tup cs,_,_,ht,h=>by simp only[VR] at ht h ⊢;obtain ⟨yt,_,hct⟩:=ht;obtain ⟨ys,hv,hc⟩:=h;exact ⟨ys,hv,VRs.low hN cs _ _ hct hc⟩
theorem VRs.low (hN:∀ b e,ρt b=some e->b<N):∀ (xs:List V) (cs ct:List Value),VRs ρt xs ct->VRs ρ xs cs->VRs (ρ.low N) xs cs
 | [],_,_,_,h=>by simpa [VRs] using h
 | x :: xs,_,_,ht,h=>by simp only[VRs] at ht h ⊢;obtain ⟨yt,rt,_,h1t,h2t⟩:=ht;obtain ⟨y,r,hy,h1,h2⟩:=h;exact ⟨y,r,hy,VR.low hN x _ _ h1t h1,VRs.low hN xs _ _ h2t h2⟩
end
variable (hN:∀ b e,ρt b=some e->b<N)
include hN
theorem KVR.low:∀ (kv:List (V×V)) (es et:List MapEntry),KVR ρt kv et->KVR ρ kv es->KVR (ρ.low N) kv es
 | [],_,_,_,h=>by simpa [KVR] using h
 | (k,v) :: r,_,_,ht,h=>by simp only[KVR] at ht h ⊢;obtain ⟨yt,rt,_,h1t,h2t,h3t⟩:=ht;obtain ⟨e,t,he,h1,h2,h3⟩:=h;exact ⟨e,t,he,VR.low hN _ _ _ h1t h1,VR.low hN _ _ _ h2t h2,KVR.low r _ _ h3t h3⟩
theorem BR.low {e et:E}{w wt:World}:∀ {k:Blk},BR ρt et k wt->BR ρ e k w->BR (ρ.low N) e k w
 | .rows R el ro rs,ht,h=>by obtain ⟨ct,ft,_,_,_,_,_,_,h7t,_⟩:=ht;obtain ⟨cs,fr,h1,h2,h3,h4,h5,h6,h7,h8⟩:=h;refine ⟨cs,fr,h1,h2,h3,h4,h5,h6,λi row hi=>⟨(h7 i row hi).1,λj v hv=>?_⟩,h8⟩;obtain ⟨c,g1,g2⟩:=(h7 i row hi).2 j v hv;obtain ⟨c',_,g3⟩:=(h7t i row hi).2 j v hv;exact ⟨c,g1,VR.low hN _ _ _ g3 g2⟩
 | .map _ kv,ht,h=>by obtain ⟨_,_,_,h2t⟩:=ht;obtain ⟨es,clock,h1,h2⟩:=h;exact ⟨es,clock,h1,KVR.low hN _ _ _ h2t h2⟩
 | .dead,_,_=>trivial
end
end Go.Proofs.YtmdgiekbejjjgaaGreat.T
namespace Go.Proofs.YtmdgiekbejjjgaaGreat.T
open Go
structure Ext0 (lo base:Nat) (ρ:Rho) (n:Nat) (w:World) (ρ':Rho) (w':World):Prop where
 rle:Rle ρ ρ'
 new:∀ b e,ρ b=none->ρ' b=some e->n<=b/\(base<=e.r\/∃ b0 e0,ρ b0=some e0/\lo<=b0/\e0.r=e.r)
 frame:∀ r,r<base->(∀ b e,ρ b=some e->lo<=b->e.r≠r)->w'.heap[r]?=w.heap[r]?
 size:w.heap.size<=w'.heap.size
 os:w'.os=w.os
 tape:w'.tape=w.tape
 output:w'.output=w.output
def BxOk (all:List Oper) (cl:Nat->Bool) (S:Nat->St) (β0:Bet) (L:Nat->Prop) (t:Nat):Prop:=(∃ r0,β0 t=some r0)\/(∃ j,j<all.length/\L j/\AH (S j).bx t=none/\(AH (S (j+1)).bx t).isSome=true)\/(∃ j o e,L j/\all[j]?=some o/\EH cl j o=some (t,e))
theorem BxOk.more {all:List Oper}{cl:Nat->Bool}{S:Nat->St}{β0:Bet}{L:Nat->Prop}{t i:Nat} (h:BxOk all cl S β0 L t):BxOk all cl S β0 (λj=>L j\/j=i) t:=by
 rcases h with h | ⟨j,h1,h2,h3⟩ | ⟨j,o,e,h1,h2⟩
 ·exact .inl h
 ·exact .inr (.inl ⟨j,h1,.inl h2,h3⟩)
 ·exact .inr (.inr ⟨j,o,e,.inl h1,h2⟩)
structure Inv (lo base nt:Nat) (ρ0:Rho) (β0:Bet) (w0:World) (all:List Oper) (cl:Nat->Bool) (S:Nat->St) (L:Nat->Prop) (q:Nat) (ρ:Rho) (β:Bet) (a:Act) (w:World):Prop where
 q1:q<=all.length
 q2:q<all.length->LP all cl q/\¬ L q
 q3:∀ j,j<q->LP all cl j->L j
 h:HRel ρ (S q).h w
 f:FRel ρ β (S q).bx w
 s:∀ t p,p<=all.length->(∀ j,Wr all j t->(L j<->j<p))->SV ρ β (DK (S p).s t) (a.tmps.getD t undef)
 own:∀ t r,β t=some r->base<=r
 hB:base<=w.heap.size
 nt:a.tmps.size=nt
 df:a.defers = []
 x:Ext0 lo base ρ0 (S 0).h.length w0 ρ w
 tot:∀ j,j<all.length->L j->∀ b,(S j).h.length<=b->b<(S (j+1)).h.length->∃ e,ρ b=some e
 ids:∀ b e,ρ b=some e->b<(S 0).h.length\/∃ j,j<all.length/\L j/\(S j).h.length<=b/\b<(S (j+1)).h.length
 bxs:∀ t r,β t=some r->BxOk all cl S β0 L t
theorem Kx:∀ (ts:List Nat) (s:List (Nat×V)) (t:Nat),DK (LL ts s) t=if t∈ts then DK s t else .any
 | [],s,t=>rfl
 | u :: ts,s,t=>by
  simp only[LL,GX];by_cases h:u=t
  ·subst h;simp
  ·rw[if_neg h,Kx ts s t];have:t≠u:=Ne.symm h;simp[this]
theorem LX:∀ {xs:List Operand}{t:Nat},Operand.tmp t∈xs->t∈Ku xs
 | [],t,h=>by simp at h
 | x :: xs,t,h=>by
  cases x<;>simp only[Ku,zcD] at h ⊢
  ·rcases h with h | h
   ·injection h with h;exact .inl h
   ·exact .inr (LX h)
  all_goals (rcases h with h | h;cases h;exact LX h)
theorem Q5 {xs:List Operand}{s:List (Nat×V)}:∀ x∈xs,ev (LL (Ku xs) s) x=ev s x:=λx hx=>by
 cases x with
 | tmp t=>simp only[ev];rw[Kx,if_pos (LX hx)]
 | _=>rfl
section
variable {P:Program}{X:Ctx}{lo base nt:Nat}{ρ0:Rho}{β0:Bet}{w0:World}{all:List Oper}{cl:Nat->Bool}{S:Nat->St} (hV:Env P X lo base nt ρ0 β0 w0 all cl S)
variable {L:Nat->Prop}{q:Nat}{ρ:Rho}{β:Bet}{a:Act}{w:World} (hI:Inv lo base nt ρ0 β0 w0 all cl S L q ρ β a w)
variable (hcl:∀ (i:Nat) (o:Oper),all[i]?=some o->L i->∀ e∈o.after.toList,Dt e=true->L e.on)
variable {i:Nat}{o:Oper} (ho:all[i]?=some o) (hready:∀ e∈o.after.toList,Dt e=true->L e.on) (hn:¬ L i)
def Bet.low (βt:Bet) (β:Bet):Bet:=λt=>if (βt t).isSome=true then β t else none
theorem Bet.low_some {βt:Bet}{β:Bet}{t r:Nat} (h:Bet.low βt β t=some r):(βt t).isSome=true/\β t=some r:=by
 unfold Bet.low at h;split at h
 ·exact ⟨‹_›,h⟩
 ·cases h
theorem Bet.low_of {βt:Bet}{β:Bet}{t r:Nat} (hb:(βt t).isSome=true) (h:β t=some r):Bet.low βt β t=some r:=by unfold Bet.low;rw[if_pos hb,h]
include hV hI in
theorem zaT (hiq:i<=q) (hnb:∀ k,i<=k->k<q->¬ LP all cl k) :
  ∃ βt:Bet,(∀ t r,β0 t=some r->βt t=some r)/\HRel (ρ.low (S i).h.length) (S i).h w/\FRel (ρ.low (S i).h.length) (Bet.low βt β) (S i).bx w /\
   ∀ t c,SV ρ β (DK (S i).s t) c->SV (ρ.low (S i).h.length) (Bet.low βt β) (DK (S i).s t) c:=by
 obtain ⟨ρt,βt,at',wt,hot,hmt⟩:=hV.ok i (zcw hiq hI.q1);refine ⟨βt,λt r hr=>hmt.2.1 t r hr,?_⟩;have hN:∀ b e,ρt b=some e->b<(S i).h.length:=λb e hb=>(hot.h.dom b e hb).1
 have htot:∀ b e,ρ b=some e->b<(S i).h.length->∃ et,ρt b=some et:=by
  intro b e hb hlt;by_cases h0:b<(S 0).h.length
  ·cases h:ρ0 b with
   | none=>have:=(hI.x.new b e h hb).1;omega
   | some e0=>exact ⟨e0,hmt.1.rle b e0 h⟩
  ·exact hmt.1.tot b (by omega) hlt
 refine ⟨⟨λb e hb=>?_,λb e k hb hk=>?_,λb b' e e' hb hb' hr hne=>?_⟩,⟨λt r hr=>?_,λt r hr=>?_,λt t' r h1 h2=>?_,λt r b e h1 h2=>?_⟩,λt c hc=>?_⟩
 ·obtain ⟨h1,h2⟩:=Rho.low_some hb;exact ⟨h1,(hI.h.dom b e h2).2⟩
 ·obtain ⟨h1,h2⟩:=Rho.low_some hb;obtain ⟨et,het⟩:=htot b e h2 h1;have hk':(S q).h[b]?=some k:=by rw[hV.same_le hiq hI.q1 hnb h1];exact hk
  exact BR.low hN (hot.h.blk b et k het hk) (hI.h.blk b e k h2 hk')
 ·obtain ⟨h1,h2⟩:=Rho.low_some hb;obtain ⟨h3,h4⟩:=Rho.low_some hb';have e1:=hV.same_le hiq hI.q1 hnb h1;have e2:=hV.same_le hiq hI.q1 hnb h3;rcases hI.h.inj b b' e e' h2 h4 hr hne with h | h | ⟨⟨x,y,z,h⟩,⟨x',y',z',h'⟩⟩
  ·exact .inl (by unfold Cb at *;rw[<- e1];exact h)
  ·exact .inr (.inl (by unfold Cb at *;rw[<- e2];exact h))
  ·exact .inr (.inr ⟨⟨x,y,z,by rw[<- e1];exact h⟩,⟨x',y',z',by rw[<- e2];exact h'⟩⟩)
 ·obtain ⟨h1,h2⟩:=Bet.low_some hr;obtain ⟨row,cs,el,g1,g2,g3⟩:=hI.f.has t r h2;obtain ⟨rt,hrt⟩:=Option.isSome_iff_exists.1 h1;obtain ⟨rowt,ct,elt,k1,k2,k3⟩:=hot.f.has t rt hrt;have:=hV.bx_same hiq hI.q1 hnb k1;rw[g1] at this;injection this with this;subst this;exact ⟨row,cs,el,k1,g2,VRs.low hN _ _ _ k3 g3⟩
 ·exact hI.f.lt t r (Bet.low_some hr).2
 ·exact hI.f.inj t t' r (Bet.low_some h1).2 (Bet.low_some h2).2
 ·exact hI.f.off t r b e (Bet.low_some h1).2 (Rho.low_some h2).2
 ·have ht:=hot.s t;generalize hv:DK (S i).s t=v at hc ht;cases v with
  | lp u j =>obtain ⟨r,h1,h2⟩:=hc;obtain ⟨rt,h3,_⟩:=ht;exact ⟨r,Bet.low_of (by rw[h3];rfl) h1,h2⟩
  | _=>exact VR.low hN _ c (at'.tmps.getD t undef) ht hc
include hV hI hcl ho hready hn in
theorem NY {t:Nat} (ht:t∈D4 all o):SV ρ β (DK (S i).s t) (a.tmps.getD t undef) :=
 hI.s t i (zdo (zcB.1 ho).1) λj hw=>Mz hV.G hcl ho hready hn ht hw
include hV hI hcl ho hready hn in
theorem Iq {v:V}{σ1:St}{c:Value}{ρ2:Rho}{β2:Bet} (hS:S (i+1)=putS σ1 o.dst v) (h1:σ1.s=(S i).s) (hr:Rle ρ ρ2) (hb:Ble β β2) (hv:SV ρ2 β2 v c) :
  ∀ t p,p<=all.length->(∀ j,Wr all j t->((L j\/j=i)<->j<p))->SV ρ2 β2 (DK (S p).s t) ((a.put o.dst c).tmps.getD t undef):=by
 intro t p hp hw;by_cases hd:o.dst=some t
 ·have hip:i<p:=(hw i ⟨o,ho,hd⟩).1 (.inr rfl);have hno:∀ j,i+1<=j->j<p->¬ Wr all j t:=λj h2 h3 hwr=>by
   have hL:=(hw j hwr).2 h3;have ht:t∈D4 all o:=by unfold D4;rw[hd];simp
   have:=Mz hV.G hcl ho hready hn ht hwr;rcases hL with hL | hL
   ·have:=this.1 hL;omega
   ·omega
  rw[hV.slot_same (i:=i+1) hip hp hno,hS,hd];have hlt:t<a.tmps.size:=by rw[hI.nt];exact hV.dst i o ho t hd
  simp only[putS,GX,if_true,Act.put];rw[zcV,Array.getElem?_setIfInBounds_self_of_lt hlt];exact hv
 ·have hold:SV ρ β (DK (S p).s t) (a.tmps.getD t undef):=hI.s t p hp λj hwr=>by
   have hne:j≠i:=λe=>by subst e;obtain ⟨q',h2,h3⟩:=hwr;rw[ho] at h2;injection h2 with h2;subst h2;exact hd h3
   rw[<- hw j hwr];exact ⟨.inl,λh=>h.resolve_right hne⟩
  have:(a.put o.dst c).tmps.getD t undef=a.tmps.getD t undef:=by
   cases hd':o.dst with
   | none=>rfl
   | some u =>have hne:u≠t:=λe=>hd (by rw[hd',e]);simp only[Act.put];rw[zcV,Array.getElem?_setIfInBounds_ne hne,<- zcV]
  rw[this];exact hold.mono hr hb
end
end Go.Proofs.YtmdgiekbejjjgaaGreat.T
namespace Go.Proofs.YtmdgiekbejjjgaaGreat.T
open Go
variable {w':World}
theorem HRel.ahead {ρ:Rho}{h h':Heap}{w:World} (hh:HRel ρ h w) (hl:h.length<=h'.length) (hs:∀ b,b<h.length->h'[b]?=h[b]?):HRel ρ h' w where
 dom:=λb e hb=>⟨zcI (hh.dom b e hb).1 hl,(hh.dom b e hb).2⟩
 blk:=λb e k hb hk=>hh.blk b e k hb (by rw[<- hs b (hh.dom b e hb).1];exact hk)
 inj:=λb b' e e' h1 h2 hr hne=>by
  have s1:=hs b (hh.dom b e h1).1;have s2:=hs b' (hh.dom b' e' h2).1;rcases hh.inj b b' e e' h1 h2 hr hne with h | h | ⟨⟨x,y,z,h⟩,⟨x',y',z',h'⟩⟩
  ·exact .inl (by unfold Cb at *;rw[s1];exact h)
  ·exact .inr (.inl (by unfold Cb at *;rw[s2];exact h))
  ·exact .inr (.inr ⟨⟨x,y,z,by rw[s1];exact h⟩,⟨x',y',z',by rw[s2];exact h'⟩⟩)
theorem FRel.ahead {ρ:Rho}{β:Bet}{bx bx':List (Nat×List V)}{w:World} (hf:FRel ρ β bx w) (hs:∀ t row,AH bx t=some row->AH bx' t=some row):FRel ρ β bx' w :=
 ⟨λt r hr=>by obtain ⟨row,cs,el,h1,h2,h3⟩:=hf.has t r hr;exact ⟨row,cs,el,hs t row h1,h2,h3⟩,hf.lt,hf.inj,hf.off⟩
section
variable {P:Program}{X:Ctx}{lo base nt:Nat}{ρ0:Rho}{β0:Bet}{w0:World}{all:List Oper}{cl:Nat->Bool}{S:Nat->St} (hV:Env P X lo base nt ρ0 β0 w0 all cl S)
include hV in
theorem XV {L:Nat->Prop}{ρ:Rho}{β:Bet}{w:World}:∀ (d p:Nat),all.length - p=d->p<=all.length->(∀ j,j<p->LP all cl j->L j)->(∀ j,p<=j->LP all cl j->¬ L j)->HRel ρ (S p).h w->FRel ρ β (S p).bx w ->
  ∃ q,q<=all.length/\(q<all.length->LP all cl q/\¬ L q)/\(∀ j,j<q->LP all cl j->L j)/\HRel ρ (S q).h w/\FRel ρ β (S q).bx w:=by
 intro d;induction d with
 | zero=>intro p hd hp h1 h2 hh hf;exact ⟨p,hp,λh=>by omega,h1,hh,hf⟩
 | succ d ih =>
  intro p hd hp h1 h2 hh hf;by_cases hb:LP all cl p
  ·exact ⟨p,hp,λ_=>⟨hb,h2 p (zcz _) hb⟩,h1,hh,hf⟩
  ·refine ih (p+1) (by omega) (by omega) (λj hj hbj=>?_) (λj hj=>h2 j (by omega)) (hh.ahead (hV.len p (by omega)) (hV.same p (by omega) hb)) (hf.ahead λt row ht=>?_)
   ·rcases Nat.lt_or_ge j p with h | h
    ·exact h1 j h hbj
    ·have:j=p:=by omega
     subst this;exact absurd hbj hb
   ·exact hV.bx_same (Nat.le_succ p) (by omega) (λk h3 h4=>by
                                    have:k=p:=by omega
                                    subst this;exact hb) ht
variable {L:Nat->Prop}{q:Nat}{ρ:Rho}{β:Bet}{a:Act}{w:World} (hI:Inv lo base nt ρ0 β0 w0 all cl S L q ρ β a w)
variable (hcl:∀ (i:Nat) (o:Oper),all[i]?=some o->L i->∀ e∈o.after.toList,Dt e=true->L e.on)
variable {i:Nat}{o:Oper} (ho:all[i]?=some o) (hready:∀ e∈o.after.toList,Dt e=true->L e.on) (hn:¬ L i)
include hV hcl ho hready hn in
theorem PY {j:Nat} (hb:LP all cl j) (hi:EF o=false) (hci:cl i=false) (hne:j≠i):L j<->j<i:=by obtain ⟨hf,⟨p,hp,hpi⟩,hpc⟩:=hb;exact JY hV.G hcl ho hp hready hn hne (.inr (Tc hf ho (Ne.symm hne) hi hci))
include hV hI hcl ho hready hn in
theorem Uh (hb:LP all cl i):i=q:=by
 have hi:EF o=false:=by obtain ⟨_,⟨p,hp,hpi⟩,_⟩:=hb;rw[ho] at hp;injection hp with hp;subst hp;exact hpi
 have hci:cl i=false:=hb.2.2;have hil:i<all.length:=(zcB.1 ho).1;rcases Nat.lt_trichotomy i q with h | h | h
 ·exact absurd (hI.q3 i h hb) hn
 ·exact h
 ·obtain ⟨h1,h2⟩:=hI.q2 (by omega);exact absurd ((PY hV hcl ho hready hn h1 hi hci (by omega)).2 h) h2
include hV hI hcl ho hready hn in
theorem zak (hb:¬ LP all cl i) (hi:EF o=false) (hci:cl i=false):i<q/\∀ k,i<=k->k<q->¬ LP all cl k:=by
 have hil:i<all.length:=(zcB.1 ho).1;have h1:i<q:=by
  rcases Nat.lt_trichotomy i q with h | h | h
  ·exact h
  ·subst h;exact absurd (hI.q2 hil).1 hb
  ·obtain ⟨h1,h2⟩:=hI.q2 (by omega);exact absurd ((PY hV hcl ho hready hn h1 hi hci (by omega)).2 h) h2
 refine ⟨h1,λk h2 h3 hk=>?_⟩;have hne:k≠i:=λe=>by subst e;exact hb hk
 have:=(PY hV hcl ho hready hn hk hi hci hne).1 (hI.q3 k h3 hk);omega
include hV hI hcl ho hready hn in
theorem Xw (hb:LP all cl i) {ρ2:Rho}{β2:Bet}{a':Act} (hh:HRel ρ2 (S (i+1)).h w') (hf:FRel ρ2 β2 (S (i+1)).bx w')
  (hs:∀ t p,p<=all.length->(∀ j,Wr all j t->((L j\/j=i)<->j<p))->SV ρ2 β2 (DK (S p).s t) (a'.tmps.getD t undef)) (own:∀ t r,β2 t=some r->base<=r) (hB:base<=w'.heap.size) (hnt:a'.tmps.size=nt) (hdf:a'.defers = [])
  (hx:Ext0 lo base ρ0 (S 0).h.length w0 ρ2 w') (htot:∀ j,j<all.length->(L j\/j=i)->∀ b,(S j).h.length<=b->b<(S (j+1)).h.length->∃ e,ρ2 b=some e)
  (hids:∀ b e,ρ2 b=some e->b<(S 0).h.length\/∃ j,j<all.length/\(L j\/j=i)/\(S j).h.length<=b/\b<(S (j+1)).h.length)
  (hbxs:∀ t r,β2 t=some r->BxOk all cl S β0 (λj=>L j\/j=i) t) :
  ∃ q',Inv lo base nt ρ0 β0 w0 all cl S (λj=>L j\/j=i) q' ρ2 β2 a' w':=by
 have hil:i<all.length:=(zcB.1 ho).1;have hi:EF o=false:=by obtain ⟨_,⟨p,hp,hpi⟩,_⟩:=hb;rw[ho] at hp;injection hp with hp;subst hp;exact hpi
 have hci:cl i=false:=hb.2.2;have hq:=Uh hV hI hcl ho hready hn hb;obtain ⟨q',g1,g2,g3,g4,g5⟩:=XV hV (L:=λj=>L j\/j=i) (ρ:=ρ2) (β:=β2) (w:=w') _ (i+1) rfl hil (λj hj hbj=>by
   by_cases e:j=i
   ·exact .inr e
   ·exact .inl (hI.q3 j (by omega) hbj)) (λj hj hbj=>by
   rintro (h | h)
   ·have:=(PY hV hcl ho hready hn hbj hi hci (by omega)).1 h;omega
   ·omega) hh hf
 exact ⟨q',g1,g2,g3,g4,g5,hs,own,hB,hnt,hdf,hx,htot,hids,hbxs⟩
include hI in
theorem PV (hb:¬ LP all cl i) {ρ2:Rho}{β2:Bet}{a':Act} (hh:HRel ρ2 (S q).h w') (hf:FRel ρ2 β2 (S q).bx w')
  (hs:∀ t p,p<=all.length->(∀ j,Wr all j t->((L j\/j=i)<->j<p))->SV ρ2 β2 (DK (S p).s t) (a'.tmps.getD t undef)) (own:∀ t r,β2 t=some r->base<=r) (hB:base<=w'.heap.size) (hnt:a'.tmps.size=nt) (hdf:a'.defers = [])
  (hx:Ext0 lo base ρ0 (S 0).h.length w0 ρ2 w') (htot:∀ j,j<all.length->(L j\/j=i)->∀ b,(S j).h.length<=b->b<(S (j+1)).h.length->∃ e,ρ2 b=some e)
  (hids:∀ b e,ρ2 b=some e->b<(S 0).h.length\/∃ j,j<all.length/\(L j\/j=i)/\(S j).h.length<=b/\b<(S (j+1)).h.length)
  (hbxs:∀ t r,β2 t=some r->BxOk all cl S β0 (λj=>L j\/j=i) t) :
  ∃ q',Inv lo base nt ρ0 β0 w0 all cl S (λj=>L j\/j=i) q' ρ2 β2 a' w' :=
 ⟨q,hI.q1,λh=>⟨(hI.q2 h).1,λhL=>hL.elim (hI.q2 h).2 λe=>hb (e ▸ (hI.q2 h).1)⟩,λj hj hbj => .inl (hI.q3 j hj hbj),hh,hf,hs,own,hB,hnt,hdf,hx,htot,hids,hbxs⟩
include hI in
theorem EC {c:Value}:(a.put o.dst c).tmps.size=nt/\(a.put o.dst c).defers = []:=by cases o.dst<;>simp[Act.put,hI.nt,hI.df]
include hV hI hcl ho hready hn in
theorem ZJ (hS:S (i+1)=putS (S i) o.dst (.tup [])):∃ q',Inv lo base nt ρ0 β0 w0 all cl S (λj=>L j\/j=i) q' ρ β (a.put o.dst undef) w:=by
 have hh:(S (i+1)).h=(S i).h:=by rw[hS,Qq]
 have hbx:(S (i+1)).bx=(S i).bx:=by rw[hS,IS]
 have hs:=Iq hV hI hcl ho hready hn hS rfl (Rle.refl ρ) (Ble.refl β) (c:=undef) (SV.of (by simp[VR,VRs,undef]));have htot:∀ j,j<all.length->(L j\/j=i)->∀ b,(S j).h.length<=b->b<(S (j+1)).h.length->∃ e,ρ b=some e:=λj hj hL b h1 h2=>by
  rcases hL with hL | rfl
  ·exact hI.tot j hj hL b h1 h2
  ·rw[hh] at h2;omega
 have hids:∀ b e,ρ b=some e->b<(S 0).h.length\/∃ j,j<all.length/\(L j\/j=i)/\(S j).h.length<=b/\b<(S (j+1)).h.length:=λb e hb =>
  (hI.ids b e hb).imp id λ⟨j,h1,h2,h3⟩=>⟨j,h1,.inl h2,h3⟩
 have hbxs:∀ t r,β t=some r->BxOk all cl S β0 (λj=>L j\/j=i) t:=λt r hb=>(hI.bxs t r hb).more
 by_cases hb:LP all cl i
 ·have hq:=Uh hV hI hcl ho hready hn hb;exact Xw hV hI hcl ho hready hn hb (by rw[hh,hq];exact hI.h) (by rw[hbx,hq];exact hI.f) hs hI.own hI.hB (EC hI).1 (EC hI).2 hI.x htot hids hbxs
 ·exact PV hI hb hI.h hI.f hs hI.own hI.hB (EC hI).1 (EC hI).2 hI.x htot hids hbxs
end
end Go.Proofs.YtmdgiekbejjjgaaGreat.T
namespace Go.Proofs.YtmdgiekbejjjgaaGreat.T
open Go
variable {v:V}{σ1:St}
theorem Vb {o:Oper} (h:EF o=true):FL o=false:=by
 obtain ⟨dst,op,ty,pos,after,guard⟩:=o;cases op<;>simp only[EF] at h<;>(try cases h)<;>simp only[FL]
 rename_i c
 obtain ⟨callee,args0,ts⟩:=c;cases callee<;>simp only at h ⊢
 rename_i b
 cases b<;>simp_all
section
variable {P:Program}{X:Ctx}{lo base nt:Nat}{ρ0:Rho}{β0:Bet}{w0:World}{all:List Oper}{cl:Nat->Bool}{S:Nat->St} (hV:Env P X lo base nt ρ0 β0 w0 all cl S)
variable {L:Nat->Prop}{q:Nat}{ρ:Rho}{β:Bet}{a:Act}{w:World} (hI:Inv lo base nt ρ0 β0 w0 all cl S L q ρ β a w)
variable (hcl:∀ (i:Nat) (o:Oper),all[i]?=some o->L i->∀ e∈o.after.toList,Dt e=true->L e.on)
variable {i:Nat}{o:Oper} (ho:all[i]?=some o) (hready:∀ e∈o.after.toList,Dt e=true->L e.on) (hn:¬ L i)
variable (hX:X.ty=AK P) (hE:∀ t,X.cmp t=true->EqOk P t) (hC:SC P X.call)
variable {K:Act->World->Prop}{Q:Exit->Act->World->Prop}
 (hK:∀ q' ρ' β' a' w',Inv lo base nt ρ0 β0 w0 all cl S (λj=>L j\/j=i) q' ρ' β' a' w'->K a' w')
def rd (o:Oper) (s:List (Nat×V)):List (Nat×V):=LL (Ku o.op.operands.toList) s
include hV hI hcl ho hready hn in
theorem TA {ρ':Rho}{β':Bet} (h:∀ t c,SV ρ β (DK (S i).s t) c->SV ρ' β' (DK (S i).s t) c):SRel ρ' β' (rd o (S i).s) a:=by
 intro t;unfold rd;rw[Kx];split
 ·rename_i ht
  exact h t _ (NY hV hI hcl ho hready hn (by unfold D4 Tx;simp[ht]))
 ·exact SV.of (VR.any _)
include hI in
theorem Lj {ρ2:Rho}{w':World} (h:Rle ρ ρ2) (hnew:∀ b e,ρ b=none->ρ2 b=some e->(S 0).h.length<=b/\(base<=e.r\/∃ b0 e0,ρ b0=some e0/\lo<=b0/\e0.r=e.r))
  (hfr:∀ r,r<base->(∀ b e,ρ b=some e->lo<=b->e.r≠r)->w'.heap[r]?=w.heap[r]?) (hs:w.heap.size<=w'.heap.size) (h1:w'.os=w.os) (h2:w'.tape=w.tape) (h3:w'.output=w.output):Ext0 lo base ρ0 (S 0).h.length w0 ρ2 w' where
 rle:=hI.x.rle.trans h
 new:=λb e hb he=>by
  cases hρ:ρ b with
  | some e1 =>have:=h b e1 hρ;rw[he] at this;injection this with this;subst this;exact hI.x.new b _ hb hρ
  | none =>
   obtain ⟨g1,g2⟩:=hnew b e hρ he;refine ⟨g1,?_⟩;rcases g2 with g2 | ⟨b0,e0,g3,g4,g5⟩
   ·exact .inl g2
   ·cases h0:ρ0 b0 with
    | some e1 =>have:=hI.x.rle b0 e1 h0;rw[g3] at this;injection this with this;subst this;exact .inr ⟨b0,_,h0,g4,g5⟩
    | none =>
     rcases (hI.x.new b0 e0 h0 g3).2 with g6 | ⟨b1,e1,g6,g7,g8⟩
     ·exact .inl (by omega)
     ·exact .inr ⟨b1,e1,g6,g7,g8.trans g5⟩
 frame:=λr hr hf=>by
  refine (hfr r hr λb e hb hlo he=>?_).trans (hI.x.frame r hr hf);cases h0:ρ0 b with
  | some e1 =>have:=hI.x.rle b e1 h0;rw[hb] at this;injection this with this;subst this;exact hf b _ h0 hlo he
  | none =>
   rcases (hI.x.new b e h0 hb).2 with g6 | ⟨b1,e1,g6,g7,g8⟩
   ·omega
   ·exact hf b1 e1 g6 g7 (g8.trans he)
 size:=zcw hI.x.size hs
 os:=h1.trans hI.x.os
 tape:=h2.trans hI.x.tape
 output:=h3.trans hI.x.output
include hV hI hcl ho hready hn hX hE hC hK in
theorem SJ (hw0:FL o=false) (hnb:¬ LP all cl i) {lo':Nat} (h1:AU X lo' o.dst o.type o.op (S i)=some (v,σ1)) (e2:σ1.h=(S i).h)
  (hk:AU X (S q).h.length o.dst o.type o.op ⟨(S i).s,(S q).bx,(S q).h⟩=some (v,⟨(S i).s,(S q).bx,(S q).h⟩)) (hS:S (i+1)=putS σ1 o.dst v):o.wp P a w K Q:=by
 have hsl:=HZ (s':=rd o (S i).s) (λx hx=>Q5 x hx) hk;unfold AU at hsl;refine Iw (lo:=(S q).h.length) (base:=w.heap.size) (σ:=⟨rd o (S i).s,(S q).bx,(S q).h⟩) (K:=λv σ=>some (v,σ)) (r:=(v,⟨rd o (S i).s,(S q).bx,(S q).h⟩)) hX hE hC hsl (TA hV hI hcl ho hready hn λt c h=>h) hI.h hI.f (zcz _) (zcz _)
  (λhw=>?_) ?_
 ·rw[hw0] at hw;cases hw
 ·intro v' σ' c w' hk' hf;injection hk' with hk';injection hk' with z1 z2;subst z1;subst z2;obtain ⟨ρ',β',f1,f2,f3,f4,f5,f6,f7,f8⟩:=hf;have hρ:ρ'=ρ:=by
   funext b;cases hb:ρ b with
   | some e=>exact f5.rle b e hb
   | none =>
    cases hb':ρ' b with
    | none=>rfl
    | some e =>have g1:=(f5.new b e hb hb').1;have g2:=(f3.dom b e hb').1;exact absurd g2 (zd9.2 g1)
  have hβ:β'=β:=by
   funext t;cases hb:β t with
   | some r=>exact f6 t r hb
   | none =>
    cases hb':β' t with
    | none=>rfl
    | some r =>have g1:=(f7 t r hb hb').2;obtain ⟨row,_,_,g2,_⟩:=f4.has t r hb';have g1:AH (S q).bx t=none:=g1;have g2:AH (S q).bx t=some row:=g2;rw[g1] at g2;cases g2
  subst hρ;subst hβ;have hfr:∀ r,r<w.heap.size->w'.heap[r]?=w.heap[r]?:=λr hr=>f5.frame r hr λb e hb hle=>by have:=(hI.h.dom b e hb).1;exact absurd this (zd9.2 hle)
  have hs:=Iq hV hI hcl ho hready hn hS (MC (s:=(S i).s) (bx:=(S i).bx) (h:=(S i).h) h1) (Rle.refl _) (Ble.refl _) f2;have hx:Ext0 lo base ρ0 (S 0).h.length w0 ρ' w':=Lj hI (Rle.refl _) (λb e h1 h2=>by rw[h1] at h2;cases h2) (λr hr _=>hfr r (zcI hr hI.hB)) f5.size f5.os f5.tape f5.output;have hh1:(S (i+1)).h=(S i).h:=by rw[hS,Qq];exact e2
  obtain ⟨q',hI'⟩:=PV hI (i:=i) hnb (a':=a.put o.dst c) (w':=w') f3 f4 hs hI.own (zcw hI.hB f5.size) (EC hI).1 (EC hI).2 hx
   (λj hj hL b g1 g2=>by
    rcases hL with hL | rfl
    ·exact hI.tot j hj hL b g1 g2
    ·rw[hh1] at g2;omega)
   (λb e hb=>(hI.ids b e hb).imp id λ⟨j,h1,h2,h3⟩=>⟨j,h1,.inl h2,h3⟩)
   (λt r hb=>(hI.bxs t r hb).more)
  exact hK _ _ _ _ _ hI'
include hV hI hcl ho hready hn hX hE hC hK in
theorem Yc (hi:EF o=true) {lo':Nat} (h1:AU X lo' o.dst o.type o.op (S i)=some (v,σ1)) (hS:S (i+1)=putS σ1 o.dst v):o.wp P a w K Q:=by
 obtain ⟨e1,e2,hk⟩:=P7 hV.nar (s:=(S i).s) (bx:=(S i).bx) (h:=(S i).h) hi h1;exact SJ hV hI hcl ho hready hn hX hE hC hK (Vb hi) (λhb=>by
  obtain ⟨_,⟨p,hp,hpi⟩,_⟩:=hb;rw[ho] at hp;injection hp with hp;subst hp;rw[hi] at hpi;cases hpi) h1 e2 (hk _ _ _) hS
include hV in
theorem Xr {p p':Nat} (hpp:p<=p') (hp':p'<=all.length) {u:Nat}
  (hno:∀ k,p<=k->k<p'->LP all cl k->∀ row,AH (S k).bx u=some row->AH (S (k+1)).bx u=some row) {row:List V} (hr:AH (S p).bx u=some row):AH (S p').bx u=some row:=by
 induction p' with
 | zero=>rw[show 0=p by omega];exact hr
 | succ p' ih =>
  by_cases e:p=p'+1
  ·rw[<- e];exact hr
  ·have h0:=ih (by omega) (by omega) λk h1 h2=>hno k h1 (by omega);by_cases hb:LP all cl p'
   ·exact hno p' (by omega) (by omega) hb row h0
   ·exact hV.bx_same (Nat.le_succ p') (by omega) (λk h1 h2=>by rw[show k=p' by omega];exact hb) h0
include hV in
theorem Xu {p p':Nat} (hpp:p<=p') (hp':p'<=all.length) {b i0 j n:Nat} (hbl:b<(S p).h.length)
  (hno:∀ k,p<=k->k<p'->LP all cl k->ld (S (k+1)).h b i0 j n=ld (S k).h b i0 j n):ld (S p').h b i0 j n=ld (S p).h b i0 j n:=by
 induction p' with
 | zero=>rw[show 0=p by omega]
 | succ p' ih =>
  by_cases e:p=p'+1
  ·rw[<- e]
  ·rw[<- ih (by omega) (by omega) λk h1 h2=>hno k h1 (by omega)];by_cases hb:LP all cl p'
   ·exact hno p' (by omega) (by omega) hb
   ·have hs:=hV.same p' (by omega) hb b (zcI hbl (hV.len_le (by omega) (by omega)));unfold ld Heap.rows?;rw[hs]
include hV hI hcl ho hready hn hX hE hC hK in
theorem Yd (hc:cl i=true) (hbn:EH cl i o=none) (hend:∀ a,DL o=some a->XI (A7 [] all) all cl i a=true\/∃ u j,DK (S i).s a = .lp u j) {lo':Nat} (h1:AU X lo' o.dst o.type o.op (S i)=some (v,σ1)) (hS:S (i+1)=putS σ1 o.dst v):o.wp P a w K Q:=by
 have hil:i<all.length:=(zcB.1 ho).1;obtain ⟨t,x,hop,hst⟩:=hV.G.stat i o ho hc hbn;have hnb:¬ LP all cl i:=λhb=>by rw[hb.2.2] at hc;cases hc
 have h1':=h1;rw[hop] at h1';have e2:σ1.h=(S i).h:=(SB (s:=(S i).s) (bx:=(S i).bx) (h:=(S i).h) h1').2.2;have hl:DL o=some x:=by unfold DL;rw[hop]
 have keeps:∀ k,LP all cl k->HO (A7 [] all) k i=false->(∀ u j,DK (S i).s x = .lp u j->∀ row,AH (S k).bx u=some row->AH (S (k+1)).bx u=some row) /\
   (∀ b i0 j,DK (S i).s x = .ptr (some (b,i0,j))->ld (S (k+1)).h b i0 j (X.ty t).size=ld (S k).h b i0 j (X.ty t).size):=λk hb hcm=>by
  obtain ⟨hf,⟨p,hp,hpi⟩,hpc⟩:=hb;have hkl:k<all.length:=(zcB.1 hp).1;cases hsk:Kn all x k with
  | true =>
   have hlk:DK (S k).s x=DK (S i).s x:=by
    rcases Nat.le_total k i with hki | hik
    ·exact (hV.slot_same hki (zdo hil) λj g1 g2 ⟨q',hq',hd⟩=>LT hsk g1 hq' hd).symm
    ·exact hV.slot_same hik (zdo hkl) λj g1 g2 ⟨q',hq',hd⟩=>LT hst.1 g1 hq' hd
   have hk:=(hV.keep k hkl (by unfold Jw;rw[hf];rfl) o (zbp hp hpi hpc ho hc hcm hl hsk)).1 t (.tmp x) hop;exact ⟨λu j hx row hr=>hk.1 u j row (by show DK (S k).s x=_;rw[hlk];exact hx) hr,λb i0 j hx=>hk.2 b i0 j (by show DK (S k).s x=_;rw[hlk];exact hx)⟩
  | false =>
   obtain ⟨u,j,hx⟩:=(hend x hl).resolve_left λhe=>by rw[WU he hp hpi hpc hcm hf] at hsk;cases hsk
   rw[hx];refine ⟨λu' j' e row hr=>?_,λb i0 j' e=>(by cases e)⟩;rcases hV.step k p hp with ⟨_,_,v',σ',g1,g2⟩ | ⟨_,_,g2⟩ | ⟨_,_,_,g2⟩
   ·rw[g2,IS];refine Jc (s:=(S k).s) (bx:=(S k).bx) (h:=(S k).h) g1 (λt' y z he=>?_) hr;have hso:GZ p=true:=by unfold GZ;rw[he]
    rcases hst.2 k p hp hso with g | g
    ·rw[hcm] at g;cases g
    ·rw[hsk] at g;cases g
   ·rw[g2,IS];exact hr
   ·rw[g2,IS];exact hr
 have apart:∀ k,LP all cl k->(i<=k/\k<q)\/(q<=k/\k<i)->HO (A7 [] all) k i=false:=λk hb hk=>by
  cases hcm:HO (A7 [] all) k i with
  | false=>rfl
  | true =>
   exfalso;have hb0:=hb;obtain ⟨hf,⟨p,hp,hpi⟩,hpc⟩:=hb;have hkl:k<all.length:=(zcB.1 hp).1;have hne:k≠i:=λe=>hnb (e ▸ hb0);have hiff:=JY hV.G hcl ho hp hready hn hne (.inr hcm);rcases hk with ⟨g1,g2⟩ | ⟨g1,g2⟩
   ·have:=hiff.1 (hI.q3 k g2 hb0);omega
   ·have hLk:=hiff.2 g2;obtain ⟨hbq,hnq⟩:=hI.q2 (by omega);by_cases e:k=q
    ·exact hnq (e ▸ hLk)
    ·have hcm2:=Tc hbq.1 hp (by omega) hpi hpc;obtain ⟨_,⟨pq,hpq,_⟩,_⟩:=hbq;have hbit:((A7 [] all).getD k 0).testBit q=true:=by
      unfold HO at hcm2;split at hcm2
      ·rename_i h2
       have:=Ug hV.G q pq k hpq h2;omega
      ·exact hcm2
     exact hnq (J9 hV.G hcl k _ q hp (hcl k _ hp hLk) hbit)
 have sv:=NY hV hI hcl ho hready hn (t:=x) (by
  unfold D4 Tx;rw[hop];simp[Op.operands,Ku])
 have fin:∀ {v':V},v'=v->AU X (S q).h.length o.dst o.type (.load t (.tmp x)) ⟨(S i).s,(S q).bx,(S q).h⟩=some (v',⟨(S i).s,(S q).bx,(S q).h⟩)->o.wp P a w K Q:=λ{v'} e hk2=>by subst e;rw[<- hop] at hk2;exact SJ hV hI hcl ho hready hn hX hE hC hK (by unfold FL;rw[hop]) hnb h1 e2 hk2 hS
 rcases Yu (s:=(S i).s) (bx:=(S i).bx) (h:=(S i).h) h1' with ⟨u,j,hx⟩ | ⟨b,i0,j,hx⟩
 ·obtain ⟨row,hrow,hk⟩:=zaz (s:=(S i).s) (bx:=(S i).bx) (h:=(S i).h) hx h1';have hxl:DK (S i).s x = .lp u j:=hx;rw[hxl] at sv;obtain ⟨r,hr,_⟩:=sv;obtain ⟨row',_,_,hrow',_⟩:=hI.f.has u r hr;have hq:AH (S q).bx u=some row:=by
   rcases Nat.le_total i q with hiq | hqi
   ·exact Xr hV hiq hI.q1 (λk g1 g2 hb=>(keeps k hb (apart k hb (.inl ⟨g1,g2⟩))).1 u j hxl) hrow
   ·have:=Xr hV hqi (zdo hil) (λk g1 g2 hb=>(keeps k hb (apart k hb (.inr ⟨g1,g2⟩))).1 u j hxl) hrow';rw[hrow] at this;injection this with this;subst this;exact hrow'
  exact fin rfl (hk (S q).h.length (S q).bx (S q).h hq)
 ·obtain ⟨cs,hcs,hk⟩:=Zh (s:=(S i).s) (bx:=(S i).bx) (h:=(S i).h) hx h1';have hxl:DK (S i).s x = .ptr (some (b,i0,j)):=hx;rw[hxl] at sv;have hρ:∃ e,ρ b=some e:=by have sv:VR ρ (.ptr (some (b,i0,j))) (a.tmps.getD x undef):=sv;simp only[VR] at sv;obtain ⟨e,he,_⟩:=sv;exact ⟨e,he⟩
  obtain ⟨e,he⟩:=hρ;have hq:ld (S q).h b i0 j (X.ty t).size=some cs:=by
   rcases Nat.le_total i q with hiq | hqi
   ·have hbl:b<(S i).h.length:=by obtain ⟨R,el,ro,rs,row,g1,_⟩:=Xt hcs;exact (zcB.1 g1).1
    rw[Xu hV hiq hI.q1 hbl (λk g1 g2 hb=>(keeps k hb (apart k hb (.inl ⟨g1,g2⟩))).2 b i0 j hxl)];exact hcs
   ·have hbl:b<(S q).h.length:=(hI.h.dom b e he).1;rw[<- Xu hV hqi (zdo hil) hbl (λk g1 g2 hb=>(keeps k hb (apart k hb (.inr ⟨g1,g2⟩))).2 b i0 j hxl)];exact hcs
  exact fin rfl (hk (S q).h.length (S q).bx (S q).h hq)
include hV hI hcl ho hready hn hX hE hC hK in
theorem zaF {tb eb:Nat} (hbx:EH cl i o=some (tb,eb)) (hS:S (i+1)=putS (S i) o.dst (.lp tb 0)):o.wp P a w K Q:=by
 have hil:i<all.length:=(zcB.1 ho).1;obtain ⟨hc,hop,hdst,hm⟩:=FW hbx;obtain ⟨k1,k2,k3,k4⟩:=hV.box i o ho tb eb hbx;have hnb:¬ LP all cl i:=λhb=>by rw[hb.2.2] at hc;cases hc
 have hM:=(hV.G.box i o tb eb ho hbx).1;have row:∀ p,p<=q->AH (S p).bx tb=some (X.ty eb).zero:=by
  intro p;induction p with
  | zero=>intro _;exact k4
  | succ p ih =>
   intro hp;have hpl:p<all.length:=by have:=hI.q1;omega
   refine VI hV.G hV.step (λj o' hj=>hV.keep j (zcB.1 hj).1) ho hbx hpl (λhb=>?_) (ih (by omega));have hLp:=hI.q3 p (by omega) hb;cases hcm:HO (A7 [] all) p i with
   | false=>rfl
   | true =>exfalso;have hg:all[p]?=some all[p]:=zcR hpl;have hne:p≠i:=λe=>hn (e ▸ hLp);have h1:=(JY hV.G hcl ho hg hready hn hne (.inr hcm)).1 hLp;rw[Lt hV.G ho hbx hg (by omega)] at hcm;cases hcm
 have hβ:β tb=none:=by
  cases hb:β tb with
  | none=>rfl
  | some r =>
   exfalso;rcases hI.bxs tb r hb with ⟨r0,g⟩ | ⟨j,g1,g2,g3,_⟩ | ⟨j,o',e',g1,g2,g3⟩
   ·rw[k3] at g;cases g
   ·have:=hV.bx_some (zcY j) (zdo g1) (t:=tb) (by rw[k4];rfl);rw[g3] at this;cases this
   ·have hne:j≠i:=λe=>hn (e ▸ g1);have d1:=(FW g3).2.2.1;rcases Nat.lt_or_ge j i with h | h
    ·rcases hV.G.pair j i o' o g2 ho h with g4 | ⟨g4,_⟩
     ·rw[Lt hV.G ho hbx g2 (zdo h)] at g4;cases g4
     ·exact KI (t:=tb) g4 (by rw[d1];simp) (by unfold D4;rw[hdst];simp)
    ·rcases hV.G.pair i j o o' ho g2 (by omega) with g4 | ⟨g4,_⟩
     ·rw[Lt hV.G g2 g3 ho h] at g4;cases g4
     ·exact KI (t:=tb) g4 (by rw[hdst];simp) (by unfold D4;rw[d1];simp)
 have h1:=P8 (lo':=(S q).h.length) (s:=rd o (S i).s) (h:=(S q).h) (bx:=HX tb (S q).bx) hop hdst k1 k2 (by rw[Es,if_pos rfl]);unfold AU at h1;have hf0:FRel ρ β (HX tb (S q).bx) w:=hI.f.sub λt r hr=>by rw[Es,if_neg (λe=>by rw[e,hβ] at hr;cases hr)]
 refine Iw (lo:=(S q).h.length) (base:=w.heap.size) (σ:=⟨rd o (S i).s,HX tb (S q).bx,(S q).h⟩) (K:=λv σ=>some (v,σ)) (r:=(.lp tb 0,_)) hX hE hC h1 (TA hV hI hcl ho hready hn λt c h=>h) hI.h hf0 (zcz _) (zcz _)
  (λhw=>by unfold FL at hw;rw[hop] at hw;cases hw) ?_
 intro v' σ' c w' hk' hf;injection hk' with hk';injection hk' with z1 z2;subst z1;subst z2;obtain ⟨ρ',β',f1,f2,f3,f4,f5,f6,f7,f8⟩:=hf;have hρ:ρ'=ρ:=by
  funext b;cases hb:ρ b with
  | some e=>exact f5.rle b e hb
  | none =>
   cases hb':ρ' b with
   | none=>rfl
   | some e =>have g1:=(f5.new b e hb hb').1;have g2:=(f3.dom b e hb').1;exact absurd g2 (zd9.2 g1)
 subst hρ;have hfr:∀ r,r<w.heap.size->w'.heap[r]?=w.heap[r]?:=λr hr=>f5.frame r hr λb e hb hle=>by have:=(hI.h.dom b e hb).1;exact absurd this (zd9.2 hle)
 have hF:FRel ρ' β' (S q).bx w':=f4.sub λt r hr=>by
  show AH (S q).bx t=AH ((tb,(X.ty eb).zero) :: HX tb (S q).bx) t;rw[Bu,Es];by_cases e:tb=t
  ·rw[if_pos e,<- e];exact row q (zcz _)
  ·rw[if_neg e,if_neg (λe'=>e e'.symm)]
 have hs:=Iq hV hI hcl ho hready hn hS rfl (Rle.refl _) f6 f2;have hx:Ext0 lo base ρ0 (S 0).h.length w0 ρ' w':=Lj hI (Rle.refl _) (λb e h1 h2=>by rw[h1] at h2;cases h2) (λr hr _=>hfr r (zcI hr hI.hB)) f5.size f5.os f5.tape f5.output;have hh1:(S (i+1)).h=(S i).h:=by rw[hS,Qq]
 obtain ⟨q',hI'⟩:=PV hI (i:=i) hnb (ρ2:=ρ') (β2:=β') (a':=a.put o.dst c) (w':=w') f3 hF hs (λt r hr=>by
   cases hb:β t with
   | some r0 =>have:=f6 t r0 hb;rw[hr] at this;injection this with this;subst this;exact hI.own t _ hb
   | none=>exact zcw hI.hB (f7 t r hb hr).1) (zcw hI.hB f5.size) (EC hI).1 (EC hI).2 hx
  (λj hj hL b g1 g2=>by
   rcases hL with hL | rfl
   ·exact hI.tot j hj hL b g1 g2
   ·rw[hh1] at g2;omega)
  (λb e hb=>(hI.ids b e hb).imp id λ⟨j,h1,h2,h3⟩=>⟨j,h1,.inl h2,h3⟩)
  (λt r hr=>by
   cases hb:β t with
   | some r0=>exact (hI.bxs t r0 hb).more
   | none =>
    have h7:AH (HX tb (S q).bx) t=none:=(f7 t r hb hr).2;obtain ⟨row',_,_,g2,_⟩:=f4.has t r hr;have g2:AH ((tb,(X.ty eb).zero) :: HX tb (S q).bx) t=some row':=g2;rw[Bu,h7] at g2;by_cases e:tb=t
    ·exact .inr (.inr ⟨i,o,eb,.inr rfl,ho,by rw[<- e];exact hbx⟩)
    ·rw[if_neg e] at g2;cases g2)
 exact hK _ _ _ _ _ hI'
include hV hI hcl ho hready hn hX hE hC hK in
theorem zaG (hb:LP all cl i) (h1:AU X lo o.dst o.type o.op (S i)=some (v,σ1)) (hS:S (i+1)=putS σ1 o.dst v):o.wp P a w K Q:=by
 have hq:=Uh hV hI hcl ho hready hn hb;have hil:i<all.length:=(zcB.1 ho).1;have hsl:=HZ (s:=(S i).s) (bx:=(S i).bx) (h:=(S i).h) (s':=rd o (S i).s) (λx hx=>Q5 x hx) h1;obtain ⟨ρt,βt,at',wt,hot,hmt⟩:=hV.ok i (zdo hil);have hh0:HRel ρ (S i).h w:=by rw[hq];exact hI.h
 have hf0:FRel ρ β (S i).bx w:=by rw[hq];exact hI.f
 unfold AU at hsl;refine Iw (lo:=lo) (base:=base) (σ:=⟨rd o (S i).s,(S i).bx,(S i).h⟩) (K:=λv σ=>some (v,σ)) (r:=(v,⟨rd o (S i).s,σ1.bx,σ1.h⟩)) hX hE hC hsl (TA hV hI hcl ho hready hn λt c h=>h) hh0 hf0 hI.hB hot.hlo (λ_=>hI.own) ?_;intro v' σ' c w' hk' hf;injection hk' with hk';injection hk' with z1 z2;subst z1;subst z2;obtain ⟨ρ',β',f1,f2,f3,f4,f5,f6,f7,f8⟩:=hf;have hs:=Iq hV hI hcl ho hready hn hS (MC (s:=(S i).s) (bx:=(S i).bx) (h:=(S i).h) h1) f5.rle f6 f2;have e1:(S (i+1)).h=σ1.h:=by rw[hS,Qq]
 have e2:(S (i+1)).bx=σ1.bx:=by rw[hS,IS]
 have hx:Ext0 lo base ρ0 (S 0).h.length w0 ρ' w':=Lj hI f5.rle (λb e h1 h2=>by
   obtain ⟨g1,g2⟩:=f5.new b e h1 h2;exact ⟨zcw (hV.len_le (zcY i) (zdo hil)) g1,g2⟩) f5.frame f5.size f5.os f5.tape f5.output
 obtain ⟨q',hI'⟩:=Xw hV hI hcl ho hready hn hb (ρ2:=ρ') (β2:=β') (a':=a.put o.dst c) (w':=w') (by rw[e1];exact f3) (by rw[e2];exact f4) hs (λt r hr=>by
   cases hb:β t with
   | some r0 =>have:=f6 t r0 hb;rw[hr] at this;injection this with this;subst this;exact hI.own t _ hb
   | none=>exact zcw hI.hB (f7 t r hb hr).1) (zcw hI.hB f5.size) (EC hI).1 (EC hI).2 hx
  (λj hj hL b g1 g2=>by
   rcases hL with hL | rfl
   ·obtain ⟨e,he⟩:=hI.tot j hj hL b g1 g2;exact ⟨e,f5.rle b e he⟩
   ·rw[e1] at g2;exact f5.tot b g1 g2)
  (λb e hb=>by
   cases hρ:ρ b with
   | some e0=>exact (hI.ids b e0 hρ).imp id λ⟨j,h1,h2,h3⟩=>⟨j,h1,.inl h2,h3⟩
   | none =>
    exact .inr ⟨i,hil,.inr rfl,(f5.new b e hρ hb).1,by rw[e1];exact (f3.dom b e hb).1⟩)
  (λt r hr=>by
   cases hb:β t with
   | some r0=>exact (hI.bxs t r0 hb).more
   | none =>
    obtain ⟨row,_,_,g2,_⟩:=f4.has t r hr;exact .inr (.inl ⟨i,hil,.inr rfl,(f7 t r hb hr).2,by rw[e2];rw[g2];rfl⟩))
 exact hK _ _ _ _ _ hI'
end
end Go.Proofs.YtmdgiekbejjjgaaGreat.T
namespace Go.Proofs.YtmdgiekbejjjgaaGreat.T
open Go
section
variable {P:Program}{X:Ctx}{lo base nt:Nat}{ρ0:Rho}{β0:Bet}{w0:World}{all:List Oper}{cl:Nat->Bool}{S:Nat->St} (hV:Env P X lo base nt ρ0 β0 w0 all cl S)
variable {L:Nat->Prop}{q:Nat}{ρ:Rho}{β:Bet}{a:Act}{w:World} (hI:Inv lo base nt ρ0 β0 w0 all cl S L q ρ β a w)
variable (hcl:∀ (i:Nat) (o:Oper),all[i]?=some o->L i->∀ e∈o.after.toList,Dt e=true->L e.on)
variable {i:Nat}{o:Oper} (ho:all[i]?=some o) (hready:∀ e∈o.after.toList,Dt e=true->L e.on) (hn:¬ L i)
variable (hX:X.ty=AK P) (hE:∀ t,X.cmp t=true->EqOk P t) (hC:SC P X.call)
variable {K:Act->World->Prop}{Q:Exit->Act->World->Prop}
 (hK:∀ q' ρ' β' a' w',Inv lo base nt ρ0 β0 w0 all cl S (λj=>L j\/j=i) q' ρ' β' a' w'->K a' w')
def Rho.mix (n:Nat) (ρ ρ':Rho):Rho:=λb=>if b<n then ρ b else match ρ b with | some e=>some e | none=>ρ' b
def Bet.mix (β β':Bet):Bet:=λt=>match β t with | some r=>some r | none=>β' t
include hV hI hcl ho hready hn hX hE hC hK in
theorem Zn (hb:¬ LP all cl i) (hi:EF o=false) (hci:cl i=false) {v:V}{σ1:St} (h1:AU X (S i).h.length o.dst o.type o.op (S i)=some (v,σ1)) (hS:S (i+1)=putS σ1 o.dst v):o.wp P a w K Q:=by
 obtain ⟨hiq,hnb⟩:=zak hV hI hcl ho hready hn hb hi hci;have hil:i<all.length:=(zcB.1 ho).1;have hsl:=HZ (s:=(S i).s) (bx:=(S i).bx) (h:=(S i).h) (s':=rd o (S i).s) (λx hx=>Q5 x hx) h1;obtain ⟨βt,hβt,hh0,hf0,hs0⟩:=zaT hV hI (zdo hiq) hnb;unfold AU at hsl;refine Iw (lo:=(S i).h.length) (base:=w.heap.size) (σ:=⟨rd o (S i).s,(S i).bx,(S i).h⟩) (K:=λv σ=>some (v,σ)) (r:=(v,⟨rd o (S i).s,σ1.bx,σ1.h⟩)) hX hE hC hsl (TA hV hI hcl ho hready hn hs0) hh0 hf0 (zcz _) (zcz _) (λhw=>?_) ?_
 ·exact absurd ⟨hV.G.wr i o ho hw,⟨o,ho,hi⟩,hci⟩ hb
 intro v' σ' c w' hk' hf;injection hk' with hk';injection hk' with z1 z2;subst z1;subst z2;obtain ⟨ρ',β',f1,f2,f3,f4,f5,f6,f7,f8⟩:=hf;have e1:(S (i+1)).h=σ1.h:=by rw[hS,Qq]
 have e2:(S (i+1)).bx=σ1.bx:=by rw[hS,IS]
 have hfr:∀ r,r<w.heap.size->w'.heap[r]?=w.heap[r]?:=λr hr=>f5.frame r hr λb e hb hle=>by have:=(Rho.low_some hb).1;exact absurd this (zd9.2 hle)
 have hq:=hI.q1;have hnb':∀ k,i+1<=k->k<q->¬ LP all cl k:=λk h1 h2=>hnb k (by omega) h2;have hlen1:σ1.h.length<=(S q).h.length:=by rw[<- e1];exact hV.len_le hiq hq
 have hsame1:∀ b,b<σ1.h.length->(S q).h[b]?=σ1.h[b]?:=λb hb=>by rw[<- e1] at hb ⊢;exact hV.same_le hiq hq hnb' hb
 have hfresh:∀ b,(S i).h.length<=b->b<σ1.h.length->ρ b=none:=λb g1 g2=>by
  cases hρ:ρ b with
  | none=>rfl
  | some e =>
   rcases hI.ids b e hρ with g | ⟨j,g3,g4,g5,g6⟩
   ·have:=hV.len_le (zcY i) (zdo hil);omega
   ·have hne:j≠i:=λe=>hn (e ▸ g4);rcases Nat.lt_or_ge j i with h | h
    ·have:=hV.len_le (show j+1<=i by omega) (zdo hil);omega
    ·have:=hV.len_le (show i+1<=j by omega) (zdo g3);rw[e1] at this;omega
 have hnew:∀ b e,ρ b=none->ρ' b=some e->(S i).h.length<=b/\b<σ1.h.length/\w.heap.size<=e.r:=λb e g1 g2=>by
  have hl:ρ.low (S i).h.length b=none:=by unfold Rho.low;split<;>first | exact g1 | rfl
  obtain ⟨g3,g4⟩:=f5.new b e hl g2;refine ⟨g3,(f3.dom b e g2).1,g4.resolve_right ?_⟩
  rintro ⟨b0,e0,g5,g6,_⟩
  have:=(Rho.low_some g5).1;exact absurd this (zd9.2 g6)
 have hmix:∀ b e,Rho.mix (S i).h.length ρ ρ' b=some e->ρ b=some e\/(ρ b=none/\ρ' b=some e):=λb e g=>by
  unfold Rho.mix at g;split at g
  ·exact .inl g
  ·split at g
   ·rename_i e' h';exact .inl (by rw[h',g])
   ·rename_i h';exact .inr ⟨h',g⟩
 have hle:Rle ρ (Rho.mix (S i).h.length ρ ρ'):=λb e g=>by
  unfold Rho.mix;split
  ·exact g
  ·rw[g]
 have hle':Rle ρ' (Rho.mix (S i).h.length ρ ρ'):=λb e g=>by
  have hd:=(f3.dom b e g).1;unfold Rho.mix;split
  ·rename_i hlt
   cases hl:ρ.low (S i).h.length b with
   | some e' =>have:=f5.rle b e' hl;rw[g] at this;injection this with this;subst this;exact (Rho.low_some hl).2
   | none=>have:=(f5.new b e hl g).1;exact absurd hlt (zd9.2 this)
  ·rename_i hge
   rw[hfresh b (zd9.1 hge) hd];exact g
 have hble:Ble β (Bet.mix β β'):=λt r g=>by unfold Bet.mix;rw[g]
 have hnewB:∀ t r,β t=none->β' t=some r->w.heap.size<=r/\AH (S i).bx t=none:=λt r g1 g2=>by
  have hl:Bet.low βt β t=none:=by unfold Bet.low;split<;>first | exact g1 | rfl
  exact f7 t r hl g2
 have hble':Ble β' (Bet.mix β β'):=λt r g=>by
  unfold Bet.mix;cases hb:β t with
  | none=>exact g
  | some r0 =>
   show some r0=some r;by_cases hlk:(βt t).isSome=true
   ·have:=f6 t r0 (Bet.low_of hlk hb);rw[g] at this;exact this.symm
   ·have hl:Bet.low βt β t=none:=by unfold Bet.low;rw[if_neg hlk]
    have hnone:=(f7 t r hl g).2;obtain ⟨row,_,_,g2,_⟩:=f4.has t r g;have hsome1:(AH (S (i+1)).bx t).isSome=true:=by rw[e2];show (AH σ1.bx t).isSome=true;rw[g2];rfl
    exfalso;have hnone:AH (S i).bx t=none:=hnone;rcases hI.bxs t r0 hb with ⟨r1,g3⟩ | ⟨j,g3,g4,g5,g6⟩ | ⟨j,o',e',g3,g4,g5⟩
    ·exact hlk (by rw[hβt t r1 g3];rfl)
    ·have hne:j≠i:=λe=>hn (e ▸ g4);rcases Nat.lt_or_ge j i with h | h
     ·have:=hV.bx_some (show j+1<=i by omega) (zdo hil) g6;rw[hnone] at this;cases this
     ·have:=hV.bx_some (show i+1<=j by omega) (zdo g3) hsome1;rw[g5] at this;cases this
    ·have:=hV.bx_some (zcY i) (zdo hil) (t:=t) (by rw[(hV.box j o' g4 t e' g5).2.2.2];rfl);rw[hnone] at this;cases this
 have hmixB:∀ t r,Bet.mix β β' t=some r->β t=some r\/(β t=none/\β' t=some r):=λt r g=>by
  unfold Bet.mix at g;split at g
  ·rename_i r' h';exact .inl (by rw[h',g])
  ·rename_i h';exact .inr ⟨h',g⟩
 have hs:=Iq hV hI hcl ho hready hn hS (MC (s:=(S i).s) (bx:=(S i).bx) (h:=(S i).h) h1) hle hble (c:=c) (f2.mono hle' hble');have hx:Ext0 lo base ρ0 (S 0).h.length w0 (Rho.mix (S i).h.length ρ ρ') w':=Lj hI hle (λb e g1 g2=>by
   rcases hmix b e g2 with g | ⟨_,g⟩
   ·rw[g1] at g;cases g
   ·obtain ⟨g3,_,g4⟩:=hnew b e g1 g;exact ⟨zcw (hV.len_le (zcY i) (zdo hil)) g3,.inl (zcw hI.hB g4)⟩) (λr hr _=>hfr r (zcI hr hI.hB)) f5.size f5.os f5.tape f5.output
 have hH:HRel (Rho.mix (S i).h.length ρ ρ') (S q).h w':=by
  refine ⟨λb e g=>?_,λb e k g hk=>?_,λb b' e e' g g' hr hne=>?_⟩
  ·rcases hmix b e g with g | ⟨_,g⟩
   ·exact ⟨(hI.h.dom b e g).1,zcI (hI.h.dom b e g).2 f5.size⟩
   ·exact ⟨zcI (f3.dom b e g).1 hlen1,(f3.dom b e g).2⟩
  ·rcases hmix b e g with g | ⟨_,g⟩
   ·exact BR.mono hle (hfr _ (hI.h.dom b e g).2) (hI.h.blk b e k g hk)
   ·rw[hsame1 b (f3.dom b e g).1] at hk;exact BR.mono hle' rfl (f3.blk b e k g hk)
  ·rcases hmix b e g with g | ⟨g0,g⟩<;>rcases hmix b' e' g' with g' | ⟨g0',g'⟩
   ·exact hI.h.inj b b' e e' g g' hr hne
   ·have h1:=(hI.h.dom b e g).2;have h2:=(hnew b' e' g0' g').2.2;omega
   ·have h1:=(hI.h.dom b' e' g').2;have h2:=(hnew b e g0 g).2.2;omega
   ·have s1:=hsame1 b (f3.dom b e g).1;have s2:=hsame1 b' (f3.dom b' e' g').1;rcases f3.inj b b' e e' g g' hr hne with h | h | ⟨⟨x,y,z,h⟩,⟨x',y',z',h'⟩⟩
    ·exact .inl (by unfold Cb at *;rw[s1];exact h)
    ·exact .inr (.inl (by unfold Cb at *;rw[s2];exact h))
    ·exact .inr (.inr ⟨⟨x,y,z,by rw[s1];exact h⟩,⟨x',y',z',by rw[s2];exact h'⟩⟩)
 have hF:FRel (Rho.mix (S i).h.length ρ ρ') (Bet.mix β β') (S q).bx w':=by
  refine ⟨λt r g=>?_,λt r g=>?_,λt t' r g g'=>?_,λt r b e g g'=>?_⟩
  ·rcases hmixB t r g with g | ⟨_,g⟩
   ·obtain ⟨row,cs,el,k1,k2,k3⟩:=hI.f.has t r g;exact ⟨row,cs,el,k1,(hfr r (hI.f.lt t r g)).trans k2,VRs.mono hle _ _ k3⟩
   ·obtain ⟨row,cs,el,k1,k2,k3⟩:=f4.has t r g;refine ⟨row,cs,el,?_,k2,VRs.mono hle' _ _ k3⟩;exact hV.bx_same hiq hq hnb' (by rw[e2];exact k1)
  ·rcases hmixB t r g with g | ⟨_,g⟩
   ·exact zcI (hI.f.lt t r g) f5.size
   ·exact f4.lt t r g
  ·rcases hmixB t r g with g | ⟨g0,g⟩<;>rcases hmixB t' r g' with g' | ⟨g0',g'⟩
   ·exact hI.f.inj t t' r g g'
   ·have h1:=hI.f.lt t r g;have h2:=(hnewB t' r g0' g').1;omega
   ·have h1:=hI.f.lt t' r g';have h2:=(hnewB t r g0 g).1;omega
   ·exact f4.inj t t' r g g'
  ·rcases hmixB t r g with g | ⟨g0,g⟩<;>rcases hmix b e g' with g' | ⟨g0',g'⟩
   ·exact hI.f.off t r b e g g'
   ·have h1:=hI.f.lt t r g;have h2:=(hnew b e g0' g').2.2;omega
   ·have h1:=(hI.h.dom b e g').2;have h2:=(hnewB t r g0 g).1;omega
   ·exact f4.off t r b e g g'
 obtain ⟨q',hI'⟩:=PV hI (i:=i) hb (ρ2:=Rho.mix (S i).h.length ρ ρ') (β2:=Bet.mix β β') (a':=a.put o.dst c) (w':=w') hH hF hs (λt r g=>by
   rcases hmixB t r g with g | ⟨g0,g⟩
   ·exact hI.own t r g
   ·exact zcw hI.hB (hnewB t r g0 g).1) (zcw hI.hB f5.size) (EC hI).1 (EC hI).2 hx
  (λj hj hL b g1 g2=>by
   rcases hL with hL | rfl
   ·obtain ⟨e,he⟩:=hI.tot j hj hL b g1 g2;exact ⟨e,hle b e he⟩
   ·rw[e1] at g2;obtain ⟨e,he⟩:=f5.tot b g1 g2;exact ⟨e,hle' b e he⟩)
  (λb e g=>by
   rcases hmix b e g with g | ⟨g0,g⟩
   ·exact (hI.ids b e g).imp id λ⟨j,h1,h2,h3⟩=>⟨j,h1,.inl h2,h3⟩
   ·obtain ⟨g3,g4,_⟩:=hnew b e g0 g;exact .inr ⟨i,hil,.inr rfl,g3,by rw[e1];exact g4⟩)
  (λt r g=>by
   rcases hmixB t r g with g | ⟨g0,g⟩
   ·exact (hI.bxs t r g).more
   ·obtain ⟨row,_,_,g2,_⟩:=f4.has t r g;have g2:AH σ1.bx t=some row:=g2;exact .inr (.inl ⟨i,hil,.inr rfl,(hnewB t r g0 g).2,by rw[e2,g2];rfl⟩))
 exact hK _ _ _ _ _ hI'
end
end Go.Proofs.YtmdgiekbejjjgaaGreat.T
namespace Go.Proofs.YtmdgiekbejjjgaaGreat.T
open Go
theorem Tq (e:Edge):Region.binds .any e=Dt e:=by obtain ⟨on,g⟩:=e;cases g<;>rfl
section
variable {P:Program}{X:Ctx}{lo base nt:Nat}{ρ0:Rho}{β0:Bet}{w0:World}{ops:Array Oper}{cl:Nat->Bool}{S:Nat->St} (hV:Env P X lo base nt ρ0 β0 w0 ops.toList cl S)
variable (hX:X.ty=AK P) (hE:∀ t,X.cmp t=true->EqOk P t) (hC:SC P X.call)
variable {Q:Exit->Act->World->Prop}
theorem X3 {n b:Nat} (hn:n<=ops.toList.length) (h1:(S 0).h.length<=b) (h2:b<(S n).h.length):∃ j,j<n/\(S j).h.length<=b/\b<(S (j+1)).h.length:=by
 induction n with
 | zero=>omega
 | succ n ih =>
  by_cases h:b<(S n).h.length
  ·obtain ⟨j,g1,g2⟩:=ih (by omega) h;exact ⟨j,by omega,g2⟩
  ·exact ⟨n,by omega,by omega,h2⟩
include hV in
theorem Xv {L:Nat->Prop}{q:Nat}{ρ:Rho}{β:Bet}{a:Act}{w:World} (hI:Inv lo base nt ρ0 β0 w0 ops.toList cl S L q ρ β a w) (hall:∀ j,j<ops.toList.length->L j) :
  Ok lo base nt ρ β (S ops.toList.length) a w/\Ext lo base ρ0 (S 0).h w0 ρ (S ops.toList.length).h w:=by
 have hq:q=ops.toList.length:=by
  rcases Nat.lt_or_ge q ops.toList.length with h | h
  ·exact absurd (hall q h) (hI.q2 h).2
  ·exact Nat.le_antisymm hI.q1 h
 have h1:=hI.h;have h2:=hI.f;rw[hq] at h1 h2;obtain ⟨ρt,βt,at',wt,hot,hmt⟩:=hV.ok _ (zcz _);refine ⟨⟨λt=>?_,h1,h2,hI.own,hI.hB,hot.hlo,hI.nt,hI.df⟩,⟨hI.x.rle,hI.x.new,hI.x.frame,hI.x.size,hI.x.os,hI.x.tape,hI.x.output,hV.len_le (zcY _) (zcz _),hmt.1.pres,λb g1 g2=>?_⟩⟩
 ·refine hI.s t _ (zcz _) λj hw=>?_;obtain ⟨p,hp,_⟩:=hw;have hj:=(zcB.1 hp).1;exact ⟨λ_=>hj,λ_=>hall j hj⟩
 ·obtain ⟨j,g3,g4,g5⟩:=X3 (zcz _) g1 g2;exact hI.tot j g3 (hall j g3) b g4 g5
include hV hX hE hC in
theorem zbW (hend:∀ (i:Nat) (o:Oper),ops.toList[i]?=some o->cl i=true->∀ a,DL o=some a->XI (A7 [] ops.toList) ops.toList cl i a=true\/∃ u j,DK (S i).s a = .lp u j) (hQ:∀ ρ' β' a' w',Ok lo base nt ρ' β' (S ops.toList.length) a' w'->Ext lo base ρ0 (S 0).h w0 ρ' (S ops.toList.length).h w'->Q .normal a' w') :
  ∀ (fuel:Nat) (listed:Array Bool) (q:Nat) (ρ:Rho) (β:Bet) (a:Act) (w:World),listed.size=ops.size->listed.toList.count false<=fuel ->
   (∀ (i:Nat) (o:Oper),ops.toList[i]?=some o->listed.getD i false=true->∀ e∈o.after.toList,Dt e=true->listed.getD e.on false=true) ->
   Inv lo base nt ρ0 β0 w0 ops.toList cl S (λj=>listed.getD j false=true) q ρ β a w->wpAny P .any ops Q fuel listed a w:=by
 have hnone:∀ (listed:Array Bool),listed.size=ops.size->(∀ (i:Nat) (o:Oper),ops.toList[i]?=some o->listed.getD i false=true->∀ e∈o.after.toList,Dt e=true->listed.getD e.on false=true)->Region.ready .any ops listed = []->∀ j,j<ops.toList.length->listed.getD j false=true:=by
  intro listed hsz hcl hr j;induction j using Nat.strongRecOn with
  | _ j ih =>
   intro hj;cases hl:listed.getD j false with
   | true=>rfl
   | false =>
    exfalso;have hj':j<ops.size:=by simpa using hj
    have hlt:j<listed.size:=by omega
    have hmem:j∈Region.ready .any ops listed:=by
     unfold Region.ready;rw[List.mem_filter];refine ⟨by simpa using hj',?_⟩;have h1:listed.getD j true=false:=by rw[zcV,zdj hlt] at hl ⊢;simpa using hl
     rw[h1];have h2:ops[j]?=some ops[j]:=zdj hj';rw[h2];simp only[zdP,zds,zdm,zcJ];rw[Array.all_eq_true'];intro e he;cases hb:Dt e with
     | false=>rw[Tq,hb];rfl
     | true =>have hlt2:=hV.G.edge j ops[j] (by simpa using h2) e (by simpa using he) hb;rw[ih e.on hlt2 (by omega)];simp
    rw[hr] at hmem;cases hmem
 intro fuel;induction fuel with
 | zero =>
  intro listed q ρ β a w hsz hcnt hcl hI;have hall:∀ j,j<ops.toList.length->listed.getD j false=true:=λj hj=>by
   have hj':j<listed.size:=by
                    have:j<ops.size:=by simpa using hj
                    omega
   have h0:listed.toList.count false=0:=by omega
   rw[List.count_eq_zero] at h0;rw[zcV,zdj hj'];cases hv:listed[j] with
   | true=>rfl
   | false=>exact absurd (by rw[<- hv];simp) h0
  refine ⟨?_,?_⟩
  ·unfold Region.ready;rw[List.filter_eq_nil_iff];intro j hj;have hj2:j<ops.size:=by simpa using hj
   have:=hall j (by simpa using hj2);have hj':j<listed.size:=by omega
   rw[zcV,zdj hj'] at this;have h1:listed.getD j true=true:=by rw[zcV,zdj hj'];simpa using this
   rw[h1];simp
  ·obtain ⟨h1,h2⟩:=Xv hV hI hall;exact hQ _ _ _ _ h1 h2
 | succ fuel ih =>
  intro listed q ρ β a w hsz hcnt hcl hI;refine ⟨λhr=>?_,λi hi=>?_⟩
  ·obtain ⟨h1,h2⟩:=Xv hV hI (hnone listed hsz hcl hr);exact hQ _ _ _ _ h1 h2
  ·unfold Region.ready at hi;rw[List.mem_filter] at hi;obtain ⟨hi1,hi2⟩:=hi;have hil:i<ops.size:=by simpa using hi1
   have hil':i<listed.size:=by omega
   have hg:ops[i]?=some ops[i]:=zdj hil;have ho:ops.toList[i]?=some ops[i]:=by simpa using hg
   rw[zcN] at hi2;obtain ⟨hi3,hi4⟩:=hi2;have hli:listed[i]=false:=by rw[zcV,zdj hil'] at hi3;simpa using hi3
   have hn:¬ (listed.getD i false=true):=by rw[zcV,zdj hil'];simp[hli]
   have hready:∀ e∈(ops[i]).after.toList,Dt e=true->listed.getD e.on false=true:=by rw[hg] at hi4;simp only[zdP,zds] at hi4;rw[Array.all_eq_true'] at hi4;intro e he hb;have:=hi4 e (by simpa using he);rw[Tq,hb] at this;simpa using this
   have hget:∀ j,(listed.setIfInBounds i true).getD j false=true<->(listed.getD j false=true\/j=i):=by
    intro j;rw[zcV,zcV,zdE];by_cases h:i=j
    ·subst h;simp[hil']
    ·rw[if_neg h];constructor
     ·exact .inl
     ·rintro (h1 | h1)
      ·exact h1
      ·exact absurd h1.symm h
   have hcnt':(listed.setIfInBounds i true).toList.count false<=fuel:=by rw[Array.toList_setIfInBounds,List.count_set (by simpa using hil')];have hpos:0<listed.toList.count false:=List.count_pos_iff.2 (by rw[<- hli];simp);simp[hli];simp at hcnt hpos;omega
   have hcl':∀ (j:Nat) (o:Oper),ops.toList[j]?=some o->(listed.setIfInBounds i true).getD j false=true->∀ e∈o.after.toList,Dt e=true->(listed.setIfInBounds i true).getD e.on false=true:=by
    intro j o hj hl e he hb;rw[hget] at hl ⊢;rcases hl with hl | rfl
    ·exact .inl (hcl j o hj hl e he hb)
    ·rw[ho] at hj;injection hj with hj;subst hj;exact .inl (hready e he hb)
   have hK:∀ q' ρ' β' a' w',Inv lo base nt ρ0 β0 w0 ops.toList cl S (λj=>listed.getD j false=true\/j=i) q' ρ' β' a' w'->wpAny P .any ops Q fuel (listed.setIfInBounds i true) a' w':=by
    intro q' ρ' β' a' w' hI';refine ih _ q' ρ' β' a' w' (by simpa using hsz) hcnt' hcl' ?_;have:(λj=>(listed.setIfInBounds i true).getD j false=true)=(λj=>listed.getD j false=true\/j=i):=by funext j;exact propext (hget j)
    rw[this];exact hI'
   have hgw:=λb (hk:WO ops.toList (S i).s (ops[i]).guard=some b)=>Nf (ρ:=ρ) (β:=β) (a:=a) (s:=(S i).s) (o:=ops[i]) (run:=some true) (skip:=some false) (r:=b) (λj want g t h1 h2 h3=>by
    refine NY hV hI hcl ho hready hn (t:=t) ?_;unfold D4 Tx Vp;rw[h1];have h2':ops.toList[j]?=some g:=by simpa using h2
    simp only[h2',h3];simp) hk
   unfold wpOp;rw[hg];simp only;rcases hV.step i _ ho with ⟨hbn,hgo,v,σ1,h1,h2⟩ | ⟨hbn,hgo,h2⟩ | ⟨tb,eb,hbx,h2⟩
   ·rcases hgw _ hgo with ⟨hw,_⟩ | ⟨_,hw⟩
    ·rw[if_pos hw];refine .inl ?_;cases hin:EF ops[i] with
     | true=>exact Yc hV hI hcl ho hready hn hX hE hC hK hin h1 h2
     | false =>
      cases hci:cl i with
      | true=>exact Yd hV hI hcl ho hready hn hX hE hC hK hci hbn (hend i _ ho hci) h1 h2
      | false =>
      cases hf:IF (A7 [] ops.toList) ops.toList cl i with
      | true =>
       have hc:Jw ops.toList cl i=false:=by simp[Jw,hf]
       rw[hc] at h1;exact zaG hV hI hcl ho hready hn hX hE hC hK ⟨hf,⟨_,ho,hin⟩,hci⟩ h1 h2
      | false =>
       have hc:Jw ops.toList cl i=true:=by simp[Jw,hf]
       rw[hc] at h1;exact Zn hV hI hcl ho hready hn hX hE hC hK (λhb=>by rw[hb.1] at hf;cases hf) hin hci h1 h2
    ·cases hw
   ·rcases hgw _ hgo with ⟨_,hw⟩ | ⟨hw,_⟩
    ·cases hw
    ·rw[hw];simp only[zdM,if_false];obtain ⟨q',hI'⟩:=ZJ hV hI hcl ho hready hn h2;exact hK _ _ _ _ _ hI'
   ·have hgo:WO ops.toList (S i).s (ops[i]).guard=some true:=by rw[(hV.G.box i _ tb eb ho hbx).2];rfl
    rcases hgw _ hgo with ⟨hw,_⟩ | ⟨_,hw⟩
    ·rw[if_pos hw];exact .inl (zaF hV hI hcl ho hready hn hX hE hC hK hbx h2)
    ·cases hw
end
theorem J6 {X:Ctx}{cl:Nat->Bool}:∀ {l:List Oper}{i:Nat}{bx bx':List (Nat×List V)},GL X cl i l bx=some bx'->(∀ t row,AH bx t=some row->AH bx' t=some row) /\
  ∀ (k:Nat) (o:Oper) (t e:Nat),l[k]?=some o->EH cl (i+k) o=some (t,e)->((X.ty e).known&&(X.ty e).hz&&DO (X.ty e).zero)=true/\X.hb.any (Nat.beq t)=false/\AH bx t=none/\AH bx' t=some (X.ty e).zero
 | [],i,bx,bx',h=>by simp only[GL,Option.some.injEq] at h;subst h;exact ⟨λt row h=>h,λk o t e hk=>by simp at hk⟩
 | p :: l,i,bx,bx',h=>by
  simp only[GL] at h;cases hb:EH cl i p with
  | none =>
   rw[hb] at h;obtain ⟨h1,h2⟩:=J6 h;refine ⟨h1,λk o t e hk hbk=>?_⟩;cases k with
   | zero =>simp at hk;subst hk;rw[zdf,hb] at hbk;cases hbk
   | succ k=>exact h2 k o t e (by simpa using hk) (by rw[<- hbk];congr 1;omega)
  | some z =>
   obtain ⟨u,f⟩:=z;rw[hb] at h;simp only at h;split at h
   ·rename_i q1 q2 q3
    obtain ⟨h1,h2⟩:=J6 h;have up:∀ t row,AH bx t=some row->AH ((u,(X.ty f).zero) :: bx) t=some row:=λt row ht=>by
     rw[Bu];split
     ·rename_i e;rw[<- e,q3] at ht;cases ht
     ·exact ht
    refine ⟨λt row ht=>h1 t row (up t row ht),λk o t e hk hbk=>?_⟩;cases k with
    | zero =>simp at hk;subst hk;rw[zdf,hb] at hbk;injection hbk with hbk;injection hbk with e1 e2;subst e1;subst e2;exact ⟨q1,q2,q3,h1 _ _ (by rw[Bu,if_pos rfl])⟩
    | succ k =>
     obtain ⟨g1,g2,g3,g4⟩:=h2 k o t e (by simpa using hk) (by rw[<- hbk];congr 1;omega);refine ⟨g1,g2,?_,g4⟩;rw[Bu] at g3;split at g3
     ·cases g3
     ·exact g3
   ·cases h
theorem zbh {P:Program}{X:Ctx} (hw:X.wide=false) (hm:P.follows .mixedOrders=true) (hX:X.ty=AK P) (hE:∀ t,X.cmp t=true->EqOk P t) (hC:SC P X.call):UC P X:=by
 intro lo base nt R r ρ β σ bx a w id ops k Q hd hdr hbx hk ho hQ;obtain ⟨S,h0,hkS,hst⟩:=VH ops.toList 0 _ rfl hk;obtain ⟨hb1,hb2⟩:=J6 hbx;rw[zcW] at hkS;have hG:=ZO hdr;have hlps:Tj (S ops.toList.length).s (A7 [] ops.toList) ops.toList (JZ X.cl id)=true:=by
  cases he:Tj (S ops.toList.length).s (A7 [] ops.toList) ops.toList (JZ X.cl id) with
  | true=>rfl
  | false=>simp only[he] at hkS;cases hkS
 simp only[hlps] at hkS;have hod:Ok lo base nt ρ β (S 0) a w.drew:=by rw[h0];exact ⟨ho.s,ho.h.drew,ho.f.drew.ahead hb1,ho.own,ho.hB,ho.hlo,ho.nt,ho.df⟩
 have hV:Env P X lo base nt ρ β w.drew ops.toList (JZ X.cl id) S:=zbQ hw hX hE hC hG (λj o hj=>(hst j o (zcY _) hj).1) (λj o hj=>(hst j o (zcY _) hj).2) (λj o hj t ht=>hd o (zcL hj) t ht) hod (λj o hj t e hb=>by
  obtain ⟨k1,k2,k3,k4⟩:=hb2 j o t e hj (by rw[zcW];exact hb);refine ⟨k1,k2,?_,by rw[h0];exact k4⟩;cases hβ:β t with
  | none=>rfl
  | some r =>
   obtain ⟨row,_,_,g,_⟩:=ho.f.has t r hβ;rw[k3] at g;cases g)
 refine wp_region_any hm ?_;obtain ⟨q,g1,g2,g3,g4,g5⟩:=XV hV (L:=λ_=>False) (ρ:=ρ) (β:=β) (w:=w.drew) _ 0 rfl (zcY _) (λj hj=>absurd hj (Nat.not_lt_zero _)) (λ_ _ _ h=>h) hod.h hod.f;refine zbW hV hX hE hC (λi o ho hc a' hl=>?_) (λρ' β' a' w' h1 h2=>?_) ops.size _ q ρ β a w.drew (by simp) ?_ (λi o hi hl=>?_) ?_
 ·obtain ⟨t',a2,hop',hst',_⟩:=hG.stat i o ho hc (W7 hl);have hl2:DL o=some a2:=by unfold DL;rw[hop']
  rw[hl2] at hl;injection hl with hl;subst hl;have h1:=zcK.1 hlps (o,i) (JR ho);simp only[hc,hl2,zdi,zdI,zdh] at h1;refine h1.imp (λh=>h) λh1=>?_;have hil:i<ops.toList.length:=(zcB.1 ho).1;rw[hV.slot_same (i:=i) (zdo hil) (zcz _) (λj h2 h3 ⟨q,hq,hd⟩=>LT hst' h2 hq hd)] at h1;generalize DK (S i).s a2=z at h1;cases z<;>simp only[zca] at h1<;>first | exact ⟨_,_,rfl⟩ | cases h1
 ·refine hQ _ ρ' β' a' w' hkS h1 ?_;rw[h0] at h2;exact ⟨h2.rle,h2.new,h2.frame,h2.size,h2.os,h2.tape,h2.output,h2.len,h2.pres,h2.tot⟩
 ·simp
 ·exfalso;have:i<ops.size:=by have:=(zcB.1 hi).1;simpa using this
  rw[zcV] at hl;simp[this] at hl
 ·have hL:(λj=>(Array.replicate ops.size false).getD j false=true)=(λ_=>False):=by funext j;apply propext;rw[zcV,Array.getElem?_replicate];split<;>simp
  rw[hL];refine ⟨g1,λh=>⟨(g2 h).1,λx=>x⟩,λj hj hb=>(g3 j hj hb).elim,g4,g5,λt p hp hw=>?_,hod.own,hod.hB,hod.nt,hod.df,⟨Rle.refl _,λb e h1 h2=>(by rw[h1] at h2;cases h2),λ_ _ _=>rfl,zcz _,rfl,rfl,rfl⟩,λj _ h=>h.elim,λb e hb => .inl (hod.h.dom b e hb).1,λt r hb => .inl ⟨r,hb⟩⟩;rw[hV.slot_same (zcY p) hp λj _ h2 h3=>((hw j h3).2 h2).elim];exact hod.s t
end Go.Proofs.YtmdgiekbejjjgaaGreat.T
namespace Go.Proofs.YtmdgiekbejjjgaaGreat.T
open Go
variable {n:Nat}{t:TypeId}{H:List (Nat×Hint)}
def zaD:TypeDesc->Bool
 | .int _=>true
 | .bool=>true
 | .string=>true
 | _=>false
def Ol (P:Program) (n:Nat) (g:TypeId->Bool):List Field->Nat->Bool
 | [],_=>true
 | f :: fs, off => match f.name != "_" && Nat.beq f.offset off && g f.type && Nat.beq (AK P f.type).size (EO P n f.type).length with
  | true=>Ol P n g fs (off+(EO P n f.type).length)
  | false=>false
def GQ (P:Program):Nat->TypeId->Bool
 | 0,_=>false
 | n+1,t=>match (AK P t).known,P.underlying t with
  | true,some (.struct fs)=>match P.stoodInHeld t with
   | true=>false
   | false=>Ol P n (GQ P n) fs.toList 0
  | true,some d=>zaD d
  | _,_=>false
section
variable {P:Program}{ρ:Rho}
theorem EM:∀ {ss:List Sh}{xs:List V},DS ss xs=true->xs.length=ss.length
 | [],[],_=>rfl
 | [],_ :: _,h=>by simp[DS] at h
 | _ :: _,[],h=>by simp[DS] at h
 | s :: ss,x :: xs,h=>by
  simp only[DS] at h;split at h
  ·simp[EM h]
  ·cases h
theorem Ib:∀ {ss ss':List Sh}{xs:List V},DS (ss++ss') xs=true->DS ss (xs.take ss.length)=true/\DS ss' (xs.drop ss.length)=true
 | [],ss',xs,h=>by simpa [DS] using h
 | s :: ss,ss',[],h=>by simp[DS] at h
 | s :: ss,ss',x :: xs,h=>by
  simp only[zde,DS] at h;split at h
  ·rename_i hs
   obtain ⟨h1,h2⟩:=Ib h;simp[DS,hs,h1,h2]
  ·cases h
theorem Q6:∀ {k:Nat}{xs ys:List V}{r:Bool},Hg xs ys=some r->∃ r1 r2,Hg (xs.take k) (ys.take k)=some r1/\Hg (xs.drop k) (ys.drop k)=some r2/\r=(r1&&r2)
 | 0,xs,ys,r,h=>⟨true,r,by simp[Hg],by simpa using h,by simp⟩
 | k+1,[],[],r,h=>by simp[Hg] at h;subst h;exact ⟨true,true,by simp[Hg],by simp[Hg],rfl⟩
 | k+1,[],_ :: _,r,h=>by simp[Hg] at h
 | k+1,_ :: _,[],r,h=>by simp[Hg] at h
 | k+1,x :: xs,y :: ys,r,h=>by
  simp only[Hg] at h;split at h
  ·rename_i a b ha hb
   injection h with h;subst h;obtain ⟨r1,r2,h1,h2,h3⟩:=Q6 (k:=k) hb;exact ⟨a&&r1,r2,by simp[Hg,ha,h1],by simpa using h2,by rw[h3,Bool.and_assoc]⟩
  ·cases h
theorem Ub {row:List V}{j:Nat} (h:j+n<=row.length):cut row j n=some ((row.drop j).take n):=by
 induction j generalizing row with
 | zero =>
  induction n generalizing row with
  | zero=>simp[cut]
  | succ n ih =>
   cases row with
   | nil=>simp at h
   | cons v r=>simp[cut,ih (row:=r) (by simp at h;omega)]
 | succ j ih =>
  cases row with
  | nil=>simp at h
  | cons v r=>simp only[cut];rw[ih (by simp at h;omega)];simp
theorem Qx (h:GQ P n t=true) {xs:List V} (hs:DS (EO P n t) xs=true):∃ v,U4 (AK P t).agg xs=some v:=by
 cases n with
 | zero=>simp[GQ] at h
 | succ n =>
  simp only[GQ] at h;split at h
  ·exact ⟨_,IA (λhA=>by
    rename_i hk hu
    obtain ⟨i,d,hi,hd,_,_,h3,_⟩:=BT hk;rw[hu] at hd;injection hd with hd;subst hd;rw[h3] at hA;simp[Ox] at hA)⟩
  ·rename_i d hns hk hu
   refine ⟨_,IA λ_=>?_⟩;have hl:=EM hs;have h1:(EO P (n+1) t).length=1:=by cases d<;>simp only[zaD] at h<;>(try cases h)<;>simp[EO,hu]
   rw[h1] at hl;match xs,hl with
   | [x],_=>exact ⟨x,rfl⟩
  ·cases h
theorem Zm {k:IntKind} (h:P.underlying t=some (.int k)):EO P (n+1) t = [.int k]:=by simp[EO,h]
theorem zaY:∀ (n:Nat) (t:TypeId),GQ P n t=true->∀ (d:Nat),n<=d->∀ (w:World) (xs ys:List V) (v u:V) (r:Bool),DS (EO P n t) xs=true->DS (EO P n t) ys=true ->
  U4 (AK P t).agg xs=some v->U4 (AK P t).agg ys=some u->Hg xs ys=some r->∀ c c',VR ρ v c->VR ρ u c'->(Op.equalIn d t c c').run P w = .ok r w:=by
 intro n;induction n with
 | zero=>intro t h;simp[GQ] at h
 | succ n ih =>
  intro t h d hd w xs ys v u r hx hy hv hu hr c c' hc hc';obtain ⟨d,rfl⟩:∃ m,d=m+1:=⟨d - 1,by omega⟩;simp only[GQ] at h;split at h
  ·rename_i fs hk hun
   split at h
   ·cases h
   rename_i hst
   obtain ⟨i,d',hi,hd',_,_,h3,_⟩:=BT hk;rw[hun] at hd';injection hd' with hd';subst hd';rw[h3] at hv hu;simp only[Ox,U4,Option.some.injEq] at hv hu;subst hv;subst hu;simp only[VR] at hc hc';obtain ⟨ca,rfl,hca⟩:=hc;obtain ⟨cb,rfl,hcb⟩:=hc';have hfo:P.fieldsOf t=fs:=by simp[Program.fieldsOf,hun]
   rw[run_equalIn_agg w d t ca cb (by rw[hun,hfo]) hst,hfo];have hsh:EO P (n+1) t=fs.toList.flatMap λf=>EO P n f.type:=by simp[EO,hun]
   rw[hsh] at hx hy;have hlen:xs.length=ys.length:=by rw[EM hx,EM hy]
   have main:∀ (l:List Field) (off:Nat) (r:Bool),Ol P n (GQ P n) l off=true->off+(l.flatMap λf=>EO P n f.type).length=xs.length->DS (l.flatMap λf=>EO P n f.type) (xs.drop off)=true->DS (l.flatMap λf=>EO P n f.type) (ys.drop off)=true ->
     Hg (xs.drop off) (ys.drop off)=some r->(Op.eqFields d ca cb l).run P w = .ok r w:=by
    intro l;induction l with
    | nil =>intro off r _ _ h1 h2 h3;have e1:=EM h1;have e2:=EM h2;simp only[List.flatMap_nil,zdJ] at e1 e2;rw[zcF e1,zcF e2] at h3;simp[Hg] at h3;subst h3;simp[Op.eqFields]
    | cons f l ihl =>
     intro off r hf hoff h1 h2 h3;simp only[Ol] at hf;split at hf
     ·rename_i hcond
      simp only[zcN,bne_iff_ne,ne_eq] at hcond;obtain ⟨⟨⟨hn,ho⟩,hg⟩,hsz⟩:=hcond;have ho:=zcH ho;have hsz:=zcH hsz;simp only[List.flatMap_cons] at h1 h2 hoff;rw[zcP] at hoff;obtain ⟨h1a,h1b⟩:=Ib h1;obtain ⟨h2a,h2b⟩:=Ib h2;obtain ⟨r1,r2,g1,g2,g3⟩:=Q6 (k:=(EO P n f.type).length) h3;have hkn:(AK P f.type).known=true:=by
       cases n with
       | zero=>simp[GQ] at hg
       | succ n =>
        simp only[GQ] at hg;split at hg
        ·assumption
        ·assumption
        ·cases hg
      have c1:cut xs off (AK P f.type).size=some ((xs.drop off).take (EO P n f.type).length):=by rw[hsz];exact Ub (by omega)
      have c2:cut ys off (AK P f.type).size=some ((ys.drop off).take (EO P n f.type).length):=by rw[hsz];exact Ub (by omega)
      obtain ⟨v,hv⟩:=Qx hg h1a;obtain ⟨u,hu⟩:=Qx hg h2a;obtain ⟨c,k1,k2⟩:=Kt (w:=w) hkn hca c1 hv;obtain ⟨c',k3,k4⟩:=Kt (w:=w) hkn hcb c2 hu;have hq:=ih f.type hg d (by omega) w _ _ v u r1 h1a h2a hv hu g1 c c' k2 k4;rw[zdW] at h1b h2b g2;rw[zdW] at g2;simp only[Op.eqFields,ne_eq,hn,not_false_eq_true,if_true,Sem.run_bind,ho,k1,k3,Result.andThen_ok,hq];cases r1 with
      | true =>simp only[zdi,zdM,if_false];rw[g3,zcJ];exact ihl _ r2 hf (by omega) h1b h2b g2
      | false=>simp[g3]
     ·cases hf
   exact main fs.toList 0 r h (by rw[EM hx];omega) (by simpa using hx) (by simpa using hy) (by simpa using hr)
  ·rename_i d' hns hk hun
   obtain ⟨i,d'',hi,hd',_,_,h3,_⟩:=BT hk;rw[hun] at hd';injection hd' with hd';subst hd';have key:∀ s,EO P (n+1) t = [s]->Ox d'=false->(∀ y,JH s y=true->∀ x,JH s x=true->∀ r,Y6 x y=some r->∀ c c',VR ρ x c->VR ρ y c'->(Op.equalIn (d+1) t c c').run P w = .ok r w)->(Op.equalIn (d+1) t c c').run P w = .ok r w:=by
    intro s hsh hag hs;rw[hsh] at hx hy;rw[h3,hag] at hv hu;match xs,ys,EM hx,EM hy with
    | [x],[y],_,_ =>
     simp only[U4,Option.some.injEq] at hv hu;subst hv;subst hu;simp only[DS] at hx hy;simp only[Hg] at hr;refine hs y ?_ x ?_ r ?_ c c' hc hc'
     ·cases hz:JH s y<;>simp[hz] at hy ⊢
     ·cases hz:JH s x<;>simp[hz] at hx ⊢
     ·cases hz:Y6 x y<;>simp[hz] at hr ⊢;exact hr
   cases d'<;>simp only[zaD] at h<;>(try cases h)
   ·refine key .bool (by simp[EO,hun]) rfl (λy hy x hx r hr c c' hc hc'=>?_);cases x<;>simp[JH] at hx;cases y<;>simp[JH] at hy
    simp[Y6] at hr;simp[VR] at hc hc';subst hc;subst hc';subst hr;exact run_equalIn_bool' w d t _ _ hun
   ·refine key _ (Zm hun) rfl (λy hy x hx r hr c c' hc hc'=>?_);cases x<;>simp[JH] at hx;cases y<;>simp[JH] at hy
    subst hx;subst hy;simp[Y6] at hr;simp[VR] at hc hc';subst hc;subst hc';subst hr;exact run_equalIn_int w d t _ _ _ _ hun
   ·refine key .str (by simp[EO,hun]) rfl (λy hy x hx r hr c c' hc hc'=>?_);cases x<;>simp[JH] at hx;cases y<;>simp[JH] at hy
    simp[Y6] at hr;simp[VR] at hc hc';subst hc;subst hc';subst hr;exact run_equalIn_string w d t _ _ hun
  ·cases h
def Gj (b:Bool) (n:Nat) (cs:Array Value):List Field->Sem Unit
 | []=>pure ()
 | f :: fs =>
  if f.name ≠ "_" then do
   let a <- part f.type cs f.offset
   Instr.checkKey b n f.type a
   Gj b n cs fs
  else Gj b n cs fs
theorem Lu (w:World) (b:Bool) (d:Nat) (t:TypeId) (cs:Array Value) (fs:Array Field) (ht:P.underlying t=some (.struct fs)) :
  (Instr.checkKey b (d+1) t (.agg cs)).run P w=(Gj b d cs fs.toList).run P w:=by
 simp only[Instr.checkKey,Sem.run_bind,run_underlying ht,Result.andThen_ok];rw[<- Array.forIn_toList];generalize fs.toList=l;clear ht;induction l generalizing w with
 | nil=>simp[Gj]
 | cons f l ih =>
  simp only[List.forIn_cons,Gj,Sem.run_bind,Sem.run_ite];split
  ·generalize (part f.type cs f.offset).run P w=r1;cases r1 with
   | ok a w1 =>
    simp only[Result.andThen_ok];generalize (Instr.checkKey b d f.type a).run P w1=r2;cases r2 with
    | ok u w2 =>simp only[Result.andThen_ok,Sem.run_pure];exact ih w2
    | halt x w2=>simp[Result.andThen]
   | halt x w1=>simp[Result.andThen]
  ·simp only[Sem.run_pure,Result.andThen_ok];exact ih w
theorem ZS:∀ (n:Nat) (t:TypeId),GQ P n t=true->∀ (d:Nat),n<=d->∀ (b:Bool) (w:World) (xs:List V) (v:V),DS (EO P n t) xs=true ->
  U4 (AK P t).agg xs=some v->∀ c,VR ρ v c->(Instr.checkKey b d t c).run P w = .ok () w:=by
 intro n;induction n with
 | zero=>intro t h;simp[GQ] at h
 | succ n ih =>
  intro t h d hd b w xs v hx hv c hc;obtain ⟨d,rfl⟩:∃ m,d=m+1:=⟨d - 1,by omega⟩;simp only[GQ] at h;split at h
  ·rename_i fs hk hun
   split at h
   ·cases h
   rename_i hst
   obtain ⟨i,d',hi,hd',_,_,h3,_⟩:=BT hk;rw[hun] at hd';injection hd' with hd';subst hd';rw[h3] at hv;simp only[Ox,U4,Option.some.injEq] at hv;subst hv;simp only[VR] at hc;obtain ⟨ca,rfl,hca⟩:=hc;rw[Lu w b d t ca fs hun];have hsh:EO P (n+1) t=fs.toList.flatMap λf=>EO P n f.type:=by simp[EO,hun]
   rw[hsh] at hx;have main:∀ (l:List Field) (off:Nat),Ol P n (GQ P n) l off=true->off+(l.flatMap λf=>EO P n f.type).length=xs.length->DS (l.flatMap λf=>EO P n f.type) (xs.drop off)=true ->
     (Gj b d ca l).run P w = .ok () w:=by
    intro l;induction l with
    | nil=>intro off _ _ _;simp[Gj]
    | cons f l ihl =>
     intro off hf hoff h1;simp only[Ol] at hf;split at hf
     ·rename_i hcond
      simp only[zcN,bne_iff_ne,ne_eq] at hcond;obtain ⟨⟨⟨hn,ho⟩,hg⟩,hsz⟩:=hcond;have ho:=zcH ho;have hsz:=zcH hsz;simp only[List.flatMap_cons] at h1 hoff;rw[zcP] at hoff;obtain ⟨h1a,h1b⟩:=Ib h1;have hkn:(AK P f.type).known=true:=by
       cases n with
       | zero=>simp[GQ] at hg
       | succ n =>
        simp only[GQ] at hg;split at hg
        ·assumption
        ·assumption
        ·cases hg
      have c1:cut xs off (AK P f.type).size=some ((xs.drop off).take (EO P n f.type).length):=by rw[hsz];exact Ub (by omega)
      obtain ⟨v,hv⟩:=Qx hg h1a;obtain ⟨c,k1,k2⟩:=Kt (w:=w) hkn hca c1 hv;have hq:=ih f.type hg d (by omega) b w _ v h1a hv c k2;rw[zdW] at h1b;simp only[Gj,ne_eq,hn,not_false_eq_true,if_true,Sem.run_bind,ho,k1,Result.andThen_ok,hq];exact ihl _ hf (by omega) h1b
     ·cases hf
   exact main fs.toList 0 h (by rw[EM hx];omega) (by simpa using hx)
  ·rename_i d' hns hk hun
   cases d'<;>simp only[zaD] at h<;>(try cases h)<;>simp[Instr.checkKey,run_underlying hun]
  ·cases h
def ZY (P:Program) (t:TypeId):Bool:=GQ P 8 t && !P.eqGuardType P.depth t&&(AK P t).agg&&(match P.underlying t with | some (.struct _)=>true | _=>false)
theorem zaZ (h:ZY P t=true):EqOk P t:=by
 simp only[ZY,zcN,zdd] at h;obtain ⟨⟨⟨h1,h2⟩,h3⟩,h4⟩:=h;have hk:(AK P t).known=true:=by
  simp only[GQ] at h1;split at h1
  ·assumption
  ·assumption
  ·cases h1
 have hsh:(AK P t).sh=EO P 8 t:=by obtain ⟨i,d,hi,hd,_⟩:=BT hk;simp[AK,hi,hd]
 refine ⟨λρ w xs ys ca cb r hx hy hc hc' hr=>?_,h2,λρ w xs ca b hx hc=>?_,?_⟩
 ·rw[hsh] at hx hy;unfold Op.equal Op.maxDepth;exact zaY 8 t h1 10000 (by omega) w xs ys (.agg xs) (.agg ys) r hx hy (by rw[h3];rfl) (by rw[h3];rfl) hr _ _ (by simp only[VR];exact ⟨_,rfl,hc⟩) (by simp only[VR];exact ⟨_,rfl,hc'⟩)
 ·rw[hsh] at hx;exact ZS 8 t h1 10000 (by omega) b w xs (.agg xs) hx (by rw[h3];rfl) _ (by simp only[VR];exact ⟨_,rfl,hc⟩)
 ·split at h4
  ·exact ⟨_,‹_›⟩
  ·cases h4
end
def zbz (fn:Func):Bool:=match fn.body with
 | none=>true
 | some c => II fn.ntmps c && !(fn.name == "runtime.NumGoroutine")
theorem Zk {P:Program}{C:List Nat} (hm:P.follows .mixedOrders=true) (hC:C.all (ZY P)=true) (hF:P.funcs.all zbz=true):Sound P (Wz P C H):=by
 have hcmp:∀ t,(Wz P C H).cmp t=true->EqOk P t:=λt ht=>by have ht:C.any (Nat.beq t)=true:=ht;rw[List.any_eq_true] at ht;obtain ⟨u,hu,hb⟩:=ht;have:=zcH hb;subst this;exact zaZ (zcK.1 hC _ hu)
 refine ⟨rfl,hcmp,λf fn c hf hb=>?_,λcall f hs=>zbh rfl hm rfl hcmp hs⟩;have:=Array.all_eq_true_iff_forall_mem.1 hF fn (Array.mem_of_getElem? hf);unfold zbz at this;rw[hb] at this;simpa using this
end Go.Proofs.YtmdgiekbejjjgaaGreat.T
namespace Go.Proofs.YtmdgiekbejjjgaaGreat.T
open Go
variable {body:St->Option (Ex×St)}{c:Code}{σ:St}{p:Ex×St}{σ':St}{ty:TypeId}{rs:List ResultVar}
def Sup {R:Type} (a:Option R) (A:Nat->Option R):Prop:=∀ r,a=some r->∃ n,∀ m,n<=m->A m=some r
section
variable {R S:Type}
theorem Sup.const (a:Option R):Sup a λ_=>a:=λr h=>⟨0,λ_ _=>h⟩
theorem Sup.none (A:Nat->Option R):Sup none A:=λr h=>by cases h
theorem Sup.bind {a:Option R}{A:Nat->Option R}{f:R->Option S}{F:Nat->R->Option S} (h:Sup a A) (hf:∀ x,Sup (f x) λm=>F m x):Sup (a.bind f) λm=>(A m).bind (F m):=λr hr=>by
 cases a with
 | none=>cases hr
 | some x =>obtain ⟨n1,h1⟩:=h x rfl;obtain ⟨n2,h2⟩:=hf x r hr;refine ⟨n1+n2,λm hm=>?_⟩;show (A m).bind (F m)=some r;rw[h1 m (by omega)];exact h2 m (by omega)
theorem Sup.br {b:Bool}{x y:Option R}{X Y:Nat->Option R} (hx:Sup x X) (hy:Sup y Y):Sup (br b x y) λm=>br b (X m) (Y m):=by
 cases b
 ·exact hy
 ·exact hx
theorem Sup.eBv {v:V}{f:Bool->Option R}{F:Nat->Bool->Option R} (h:∀ b,Sup (f b) λm=>F m b):Sup (eBv v f) λm=>eBv v (F m):=by
 unfold T.eBv;split
 ·exact h _
 ·exact Sup.none _
theorem Sup.guard {all:List Oper}{s:List (Nat×V)}{g:Option (Nat×Bool)}{x y:Option R}{X Y:Nat->Option R} (hx:Sup x X) (hy:Sup y Y):Sup (HN all s g x y) λm=>HN all s g (X m) (Y m):=by
 unfold HN;split
 ·exact hx
 ·split
  ·exact Sup.none _
  ·split
   ·exact Sup.none _
   ·split
    ·split
     ·exact Sup.br hx hy
     ·exact Sup.br hy hx
    ·exact hy
    ·exact Sup.none _
end
theorem OZ {body:St->Option (Ex×St)}:∀ {n m:Nat}{σ:St}{p:Ex×St},rounds body n σ=some p->n<=m->rounds body m σ=some p
 | 0,m,σ,p,h,_=>by simp[rounds] at h
 | n+1,m,σ,p,h,hm=>by
  obtain ⟨m,rfl⟩:∃ k,m=k+1:=⟨m - 1,by omega⟩;simp only[rounds] at h ⊢;cases hb:body σ with
  | none=>rw[hb] at h;cases h
  | some q =>
   rw[hb] at h;simp only[zc7] at h ⊢;split at h
   ·exact OZ h (by omega)
   ·exact h
theorem Np {α:Type}{g:Nat->Option α}{r:α}{n:Nat} (h:∀ m,n<=m->g m=some r):Lv g=some r:=by unfold Lv;have hx:∃ r,∃ n,∀ m,n<=m->g m=some r:=⟨r,n,h⟩;rw[dif_pos hx];obtain ⟨k,hk⟩:=Classical.choose_spec hx;have h1:=hk (n+k) (by omega);have h2:=h (n+k) (by omega);rw[h1] at h2;exact h2
theorem JB {α:Type}{g:Nat->Option α}{r:α} (h:Lv g=some r):∃ n,∀ m,n<=m->g m=some r:=by
 unfold Lv at h;split at h
 ·rename_i hx
  injection h with h;obtain ⟨n,hn⟩:=Classical.choose_spec hx;exact ⟨n,λm hm=>by have:=hn m hm;rw[<- h];exact this⟩
 ·cases h
theorem MM {id:Nat}{n:Nat} (h:rounds body n σ=some p):Ft c id body σ=some p :=
 Np (n:=n) λ_ hm=>OZ h hm
theorem QA {id:Nat} (h:Ft c id body σ=some p):∃ n,rounds body n σ=some p:=by obtain ⟨n,hn⟩:=JB h;exact ⟨n,hn n (zcz _)⟩
theorem zbM {id:Nat} (h:body σ=some (.normal,σ')) (hl:Ft c id body σ'=some p):Ft c id body σ=some p:=by obtain ⟨n,hn⟩:=QA hl;refine MM (n:=n+1) ?_;simp only[rounds,h,zc7];exact hn
theorem zbN {id:Nat}{j:Nat} (h:body σ=some (.exit j,σ')):Ft c id body σ=some (.exit j,σ') :=
 MM (n:=1) (by simp[rounds,h])
theorem zb0 {id:Nat} (h:body σ=some (.ret,σ')):Ft c id body σ=some (.ret,σ') :=
 MM (n:=1) (by simp[rounds,h])
theorem Sup.rounds {body:St->Option (Ex×St)}{B:Nat->St->Option (Ex×St)} (h:∀ σ,Sup (body σ) λm=>B m σ):∀ (n:Nat) (σ:St),Sup (rounds body n σ) λm=>rounds (B m) n σ
 | 0,σ=>Sup.none _
 | n+1,σ=>by
  simp only[T.rounds];refine Sup.bind (h σ) λp=>?_;obtain ⟨e,σ'⟩:=p;cases e with
  | normal=>exact Sup.rounds h n σ'
  | exit j=>exact Sup.const _
  | ret=>exact Sup.const _
theorem Sup.loop {id:Nat}{B:Nat->St->Option (Ex×St)} (h:∀ σ,Sup (body σ) λm=>B m σ) (σ:St):Sup (Ft c id body σ) λm=>Ft c id (B m) σ:=λr hr=>by obtain ⟨n,hn⟩:=QA hr;obtain ⟨k,hk⟩:=Sup.rounds h n σ r hn;exact ⟨k,λm hm=>MM (hk m hm)⟩
section
variable {X:Ctx}{A:Nat->HK} (hA:∀ lo f args h,Sup (X.call lo f args h) λm=>A m lo f args h)
def Ctx.at (X:Ctx) (c:HK):Ctx:=⟨X.ty,X.cmp,X.ret,c,X.keep,X.hb,X.cl,X.wide⟩
theorem zck (c:HK) {fs:List (Nat×TypeId)}:GT (X.at c) fs=GT X fs:=rfl
theorem U9 (c:HK):∀ (fs:List (Nat×TypeId)),IL (X.at c) fs=IL X fs
 | []=>rfl
 | f :: fs=>by have:=U9 c fs;simp only[IL];rw[this];rfl
include hA in
theorem Sup.step {lo:Nat}{d:Option Nat}{o:Op}:Sup (AU X lo d ty o σ) λm=>AU (X.at (A m)) lo d ty o σ:=by
 have same:(∀ m,AU (X.at (A m)) lo d ty o σ=AU X lo d ty o σ)->Sup (AU X lo d ty o σ) λm=>AU (X.at (A m)) lo d ty o σ:=λh r hr=>⟨0,λm _=>(h m).trans hr⟩
 cases o;case call c =>
  unfold AU;simp only[opT];split
  ·split
   ·rename_i f hf
    split
    ·rename_i g cs _
     have h1:=hA lo g (CR (NQ σ.s c.args.toList) cs) σ.h;intro r hr;cases hc:X.call lo g (CR (NQ σ.s c.args.toList) cs) σ.h with
     | none=>rw[hc] at hr;cases hr
     | some p =>obtain ⟨n,hn⟩:=h1 p hc;refine ⟨n,λm hm=>?_⟩;rw[hc] at hr;have h2:A m lo g (CR (NQ σ.s c.args.toList) cs) σ.h=some p:=hn m hm;show Al (A m lo g (CR (NQ σ.s c.args.toList) cs) σ.h) _=some r;rw[h2];exact hr
    ·exact Sup.none _
   ·rename_i b hb
    intro r hr;refine ⟨0,λm _=>?_⟩;refine Eq.trans ?_ hr;cases b<;>rfl
   ·exact Sup.none _
  ·exact Sup.none _
 case build t ps =>refine same λm=>?_;unfold AU;simp only[opT,U9];rfl
 all_goals exact same λm=>rfl
variable {R:Type}
include hA in
theorem Sup.opT {lo:Nat}{d:Option Nat}{ty:TypeId}{o:Op}{σ:St}{k:V->St->Option R}{K:Nat->V->St->Option R} (hk:∀ v σ,Sup (k v σ) λm=>K m v σ):Sup (T.opT X lo d ty o σ k) λm=>T.opT (X.at (A m)) lo d ty o σ (K m):=by
 rw[Ix];have:(λm=>T.opT (X.at (A m)) lo d ty o σ (K m))=λm=>(AU (X.at (A m)) lo d ty o σ).bind λp=>K m p.1 p.2:=by funext m;exact Ix
 rw[this];exact Sup.bind (Sup.step hA) λp=>hk p.1 p.2
omit hA in
theorem XQ {o:Oper}{σ σ':St}{c:HK}:∀ {l:List Oper}{k:Option R},T.chkT (X.at c) o σ σ' l k=T.chkT X o σ σ' l k
 | [],k=>rfl
 | p :: l,k=>by simp only[T.chkT,XQ (l:=l),show (X.at c).ty=X.ty from rfl]
omit hA in
theorem Sup.chkT {o:Oper}{σ σ':St}{l:List Oper}{k:Option R}{K:Nat->Option R} (hk:Sup k K):Sup (T.chkT X o σ σ' l k) λm=>T.chkT (X.at (A m)) o σ σ' l (K m):=by
 have h1:∀ k:Option R,T.chkT X o σ σ' l k=(T.chkT X o σ σ' l (some ())).bind λ_=>k:=λk=>by rw[Ou];rfl
 have h2:(λm=>T.chkT (X.at (A m)) o σ σ' l (K m))=λm=>(T.chkT X o σ σ' l (some ())).bind λ_=>K m:=by funext m;rw[XQ,h1]
 rw[h2,h1];cases T.chkT X o σ σ' l (some ()) with
 | none=>exact Sup.none _
 | some _=>exact hk
omit hA in
theorem Me {c:HK}{cl:Nat->Bool}:∀ {l:List Oper}{i:Nat}{bx:List (Nat×List V)},GL (X.at c) cl i l bx=GL X cl i l bx
 | [],i,bx=>rfl
 | p :: l,i,bx=>by
  simp only[GL,show (X.at c).ty=X.ty from rfl,show (X.at c).hb=X.hb from rfl];split
  ·exact Me
  ·split
   ·exact Me
   ·rfl
include hA in
theorem Sup.opsT {lo:Nat}{all:List Oper}{calm al:Nat->Bool}{ck:Nat->List Oper}{k:St->Option R}{K:Nat->St->Option R} (hk:∀ σ,Sup (k σ) λm=>K m σ) :
  ∀ (rest:List Oper) (i:Nat) (σ:St),Sup (T.opsT X lo all calm ck al i rest σ k) λm=>T.opsT (X.at (A m)) lo all calm ck al i rest σ (K m)
 | [],i,σ=>by simp only[T.opsT];exact hk σ
 | o :: r,i,σ=>by
  simp only[T.opsT];split
  ·exact Sup.opsT hk r _ _
  refine Sup.guard ?_ (Sup.opsT hk r _ _);split
  ·exact Sup.opT hA λv σ=>Sup.opsT hk r _ _
  ·exact Sup.opT hA λv σ=>Sup.chkT (Sup.opsT hk r _ _)
include hA in
theorem Sup.exec {lo:Nat}:∀ (c:Code) {R:Type}{k:Ex->St->Option R}{K:Nat->Ex->St->Option R} (id:Nat) (σ:St),(∀ e σ,Sup (k e σ) λm=>K m e σ)->Sup (T.exec X lo c id σ k) λm=>T.exec (X.at (A m)) lo c id σ (K m)
 | .skip,R,k,K,id,σ,hk=>by simp only[T.exec];exact hk _ _
 | .region i ops draw,R,k,K,id,σ,hk=>by
  simp only[T.exec,show ∀ c:HK,(X.at c).cl=X.cl from λ_=>rfl];split
  ·exact Sup.opsT hA (λσ=>hk _ _) _ _ _
  ·split
   ·simp only[show ∀ c:HK,(X.at c).narrow=X.narrow.at c from λ_=>rfl,Me];cases GL X.narrow (JZ X.cl i) 0 ops.toList σ.bx with
    | none=>exact Sup.none _
    | some bx =>
    refine Sup.opsT (X:=X.narrow) (K:=λm σ=>match Tj σ.s (A7 [] ops.toList) ops.toList (JZ X.cl i) with | true=>K m .normal σ | false=>Option.none) hA (λσ=>?_) _ _ _;cases he:Tj σ.s (A7 [] ops.toList) ops.toList (JZ X.cl i) with
    | true=>exact hk _ _
    | false=>exact Sup.none _
   ·exact Sup.none _
 | .seq a b,R,k,K,id,σ,hk=>by
  simp only[T.exec];refine Sup.exec a id σ λe σ=>?_;cases e with
  | normal=>exact Sup.exec b id σ hk
  | exit j=>exact hk _ _
  | ret=>exact hk _ _
 | .cond x a b,R,k,K,id,σ,hk=>by simp only[T.exec];exact Sup.eBv λt=>Sup.br (Sup.exec a id σ hk) (Sup.exec b id σ hk)
 | .block j b,R,k,K,id,σ,hk=>by
  simp only[T.exec];refine Sup.exec b j σ λe σ=>?_;cases e with
  | normal=>exact hk _ _
  | exit i =>
   simp only[CE];split
   ·exact hk _ _
   ·exact hk _ _
  | ret=>exact hk _ _
 | .loop b,R,k,K,id,σ,hk=>by
  simp only[T.exec];have hb:∀ σ,Sup (T.exec X lo b id σ (ID X id)) λm=>T.exec (X.at (A m)) lo b id σ (ID (X.at (A m)) id):=λσ=>Sup.exec b id σ λe σ=>Sup.const _;intro r hr;cases hl:Ft b id (λσ=>T.exec X lo b id σ (ID X id)) (norm X id σ) with
  | none=>rw[hl] at hr;cases hr
  | some p =>rw[hl] at hr;obtain ⟨e,σ'⟩:=p;obtain ⟨n1,h1⟩:=Sup.loop (c:=b) (id:=id) hb (norm X id σ) _ hl;obtain ⟨n2,h2⟩:=hk e σ' r hr;refine ⟨n1+n2,λm hm=>?_⟩;have h3:Ft b id (λσ=>T.exec (X.at (A m)) lo b id σ (ID (X.at (A m)) id)) (norm X id σ)=some (e,σ'):=h1 m (by omega);show zbL (Ft b id (λσ=>T.exec (X.at (A m)) lo b id σ (ID (X.at (A m)) id)) (norm X id σ)) (K m)=some r;rw[h3];exact h2 m (by omega)
 | .exit j,R,k,K,id,σ,hk=>by simp only[T.exec];exact hk _ _
 | .ret,R,k,K,id,σ,hk=>by simp only[T.exec];exact hk _ _
 | .goto _,R,k,K,id,σ,hk=>by simp only[T.exec];exact Sup.none _
 | .label _,R,k,K,id,σ,hk=>by simp only[T.exec];exact Sup.none _
 | .scope _,R,k,K,id,σ,hk=>by simp only[T.exec];exact Sup.none _
 | .rangeFunc _ _ _ _,R,k,K,id,σ,hk=>by simp only[T.exec];exact Sup.none _
 | .refuse _,R,k,K,id,σ,hk=>by simp only[T.exec];exact Sup.none _
end
theorem UX {X:Ctx}{c:HK}{σ:St}:∀ {rs:List ResultVar},O1 (X.at c) σ rs=O1 X σ rs
 | []=>rfl
 | r :: rs=>by
  simp only[O1];rw[UX (rs:=rs)];have:SM (X.at c) σ r=SM X σ r:=by cases r<;>rfl
  rw[this]
theorem Xl {X:Ctx}{c:HK}:Wg (X.at c) rs σ=Wg X rs σ:=by unfold Wg;rw[UX]
theorem Sup.fnT {I:Info}{fn:Func}{call:HK}{A:Nat->HK} (hA:∀ lo f args h,Sup (call lo f args h) λm=>A m lo f args h) {lo:Nat}{f:FuncId}{args:List V}{h:Heap}:Sup (fnT I fn call lo f args h) λm=>fnT I fn (A m) lo f args h:=by
 unfold T.fnT;split
 ·exact Sup.none _
 ·refine Sup.exec (X:=I.ctx call f) hA _ _ _ λe σ=>?_;cases e with
  | normal=>exact λr hr=>⟨0,λm _=>(Xl (X:=I.ctx call f) (c:=A m)).trans hr⟩
  | ret=>exact λr hr=>⟨0,λm _=>(Xl (X:=I.ctx call f) (c:=A m)).trans hr⟩
  | exit j=>exact Sup.none _
theorem XD {P:Program}{I:Info}{lo:Nat}{f:FuncId}{fn:Func}{args:List V}{h:Heap}{p q:V×Heap} (hf:P.funcs[f]?=some fn) (hk:fnT I fn (eval P I) (zby (I.drop f) lo h) f args h=some p) (hd:XP (I.drop f) h p=some q) :
  eval P I lo f args h=some q:=by
 have hA:∀ lo f args h,Sup (eval P I lo f args h) λm=>KF P I m lo f args h:=λlo f args h r hr=>JB hr;obtain ⟨n,hn⟩:=Sup.fnT (I:=I) (fn:=fn) hA p hk;refine Np (n:=n+1) λm hm=>?_;obtain ⟨m,rfl⟩:∃ k,m=k+1:=⟨m - 1,by omega⟩;simp only[KF,hf];have h2:fnT I fn (KF P I m) (zby (I.drop f) lo h) f args h=some p:=hn m (by omega);rw[h2];exact hd
end Go.Proofs.YtmdgiekbejjjgaaGreat.T
namespace Go.Proofs.YtmdgiekbejjjgaaGreat.T
open Go
variable {lo:Nat}{c:Code}{id:Nat}{σ:St}{P:Program}{f:FuncId}{args:List V}
section
variable {R S:Type}{g:R->Option S}
theorem Vq {all:List Oper}{s:List (Nat×V)}{q:Option (Nat×Bool)}{x y:Option R}:(HN all s q x y).bind g=HN all s q (x.bind g) (y.bind g):=by
 unfold HN;split
 ·rfl
 ·split
  ·rfl
  ·split
   ·rfl
   ·split
    ·split<;>exact J5
    ·rfl
    ·rfl
theorem Ij {X:Ctx}{lo:Nat}{all:List Oper}{calm al:Nat->Bool}{ck:Nat->List Oper}{k:St->Option R}:∀ (rest:List Oper) (i:Nat) (σ:St),(opsT X lo all calm ck al i rest σ k).bind g=opsT X lo all calm ck al i rest σ λσ=>(k σ).bind g
 | [],i,σ=>rfl
 | o :: r,i,σ=>by
  simp only[opsT];split
  ·exact Ij r _ _
  rw[Vq,Ij r];congr 1;split
  ·rw[Qt];congr 1;funext v σ;exact Ij r _ _
  ·rw[Qt];congr 1;funext v σ;rw[Ou];congr 1;exact Ij r _ _
end
theorem Im {X:Ctx}{lo:Nat}:∀ (c:Code) {R S:Type}{g:R->Option S}{k:Ex->St->Option R} (id:Nat) (σ:St),(exec X lo c id σ k).bind g=exec X lo c id σ λe σ=>(k e σ).bind g
 | .skip,R,S,g,k,id,σ=>rfl
 | .region i ops draw,R,S,g,k,id,σ=>by
  simp only[exec];split
  ·exact Ij _ _ _
  ·split
   ·rw[FN];congr 1;funext bx;rw[Ij];congr 1;funext σ;split<;>rfl
   ·rfl
 | .seq a b,R,S,g,k,id,σ=>by
  simp only[exec];rw[Im a];congr 1;funext e σ;cases e with
  | normal=>exact Im b id σ
  | exit j=>rfl
  | ret=>rfl
 | .cond x a b,R,S,g,k,id,σ=>by simp only[exec];rw[Nl];congr 1;funext t;rw[J5,Im a,Im b]
 | .block j b,R,S,g,k,id,σ=>by
  simp only[exec];rw[Im b];congr 1;funext e σ;cases e with
  | normal=>rfl
  | exit i=>simp only[CE];split<;>rfl
  | ret=>rfl
 | .loop b,R,S,g,k,id,σ=>by simp only[exec];generalize Ft b id (λσ=>exec X lo b id σ (ID X id)) (norm X id σ)=o;cases o<;>rfl
 | .exit j,R,S,g,k,id,σ=>rfl
 | .ret,R,S,g,k,id,σ=>rfl
 | .goto _,R,S,g,k,id,σ=>rfl
 | .label _,R,S,g,k,id,σ=>rfl
 | .scope _,R,S,g,k,id,σ=>rfl
 | .rangeFunc _ _ _ _,R,S,g,k,id,σ=>rfl
 | .refuse _,R,S,g,k,id,σ=>rfl
noncomputable def zaU {R:Type} (X:Ctx) (lo:Nat) (c:Code) (id:Nat) (K:Ex->St->Option R):Ex->St->Option R
 | .normal,σ=>zbL (Ft c id (λσ=>exec X lo c id σ (ID X id)) (norm X id σ)) K
 | .exit j,σ=>K (.exit j) (norm X id σ)
 | .ret,σ=>K .ret (norm X id σ)
theorem Xi {α:Type}{g:Nat->Option α}:Lv (λn=>g (n+1))=Lv g:=by
 cases h:Lv g with
 | some r =>obtain ⟨n,hn⟩:=JB h;exact Np (n:=n) λm hm=>hn (m+1) (by omega)
 | none =>
  cases h':Lv (λn=>g (n+1)) with
  | none=>rfl
  | some r =>
   obtain ⟨n,hn⟩:=JB h';have:Lv g=some r:=Np (n:=n+1) λm hm=>by have:=hn (m - 1) (by omega);rwa [show m - 1+1=m by omega] at this
   rw[h] at this;cases this
theorem Mg {α:Type}{o:Option α}:Lv (λ_=>o)=o:=by
 cases o with
 | some r=>exact Np (n:=0) λ_ _=>rfl
 | none =>
  cases h:Lv (λ_:Nat=>(none:Option α)) with
  | none=>rfl
  | some r=>obtain ⟨n,hn⟩:=JB h;have:=hn n (zcz _);cases this
theorem ZB {body:St->Option (Ex×St)}:Ft c id body σ=(body σ).bind λp=>match p.1 with | .normal=>Ft c id body p.2 | e=>some (e,p.2):=by
 have h1:Ft c id body σ=Lv λn=>rounds body (n+1) σ:=(Xi (g:=λn=>rounds body n σ)).symm;rw[h1];cases hb:body σ with
 | none =>
  have:(λn=>rounds body (n+1) σ)=λ_=>none:=by funext n;simp only[rounds,hb];rfl
  rw[this,Mg];rfl
 | some p =>
  obtain ⟨e,σ'⟩:=p;cases e with
  | normal =>
   have:(λn=>rounds body (n+1) σ)=λn=>rounds body n σ':=by funext n;simp only[rounds,hb];rfl
   rw[this];rfl
  | exit j =>
   have:(λn=>rounds body (n+1) σ)=λ_=>some (.exit j,σ'):=by funext n;simp only[rounds,hb];rfl
   rw[this,Mg];rfl
  | ret =>
   have:(λn=>rounds body (n+1) σ)=λ_=>some (.ret,σ'):=by funext n;simp only[rounds,hb];rfl
   rw[this,Mg];rfl
theorem zbK {R:Type}{X:Ctx}{K:Ex->St->Option R} :
  zbL (Ft c id (λσ=>exec X lo c id σ (ID X id)) σ) K=exec X lo c id σ (zaU X lo c id K):=by
 have h1:∀ o:Option (Ex×St),zbL o K=o.bind λp=>K p.1 p.2:=λo=>by cases o<;>rfl
 rw[ZB,h1,Option.bind_assoc];rw[Im c];congr 1;funext e σ';cases e with
 | normal=>exact (h1 _).symm
 | exit j=>rfl
 | ret=>rfl
noncomputable def Lp {R:Type} (X:Ctx) (lo:Nat) (c:Code) (id:Nat) (K:Ex->St->Option R) (σ:St):Option R:=zbL (Ft c id (λσ=>exec X lo c id σ (ID X id)) σ) K
theorem Lp_eq {R:Type}{X:Ctx}{K:Ex->St->Option R}:Lp X lo c id K σ=exec X lo c id σ (zaU X lo c id K):=zbK
theorem YR {I:Info}{fn:Func}{h:Heap} (hf:P.funcs[f]?=some fn) (hd:I.drop f=false) {p:V×Heap} (hk:fnT I fn (eval P I) lo f args h=some p):eval P I lo f args h=some p :=
 XD hf (by rw[hd];exact hk) (by rw[hd];rfl)
theorem YS {I:Info}{fn:Func}{h h':Heap}{v:V} (hf:P.funcs[f]?=some fn) (hd:I.drop f=true) (hk:fnT I fn (eval P I) h.length f args h=some (v,h')) (hn:noId v=true):eval P I lo f args h=some (v,h) :=
 XD hf (by rw[hd];exact hk) (by rw[hd];simp only[XP,hn])
end Go.Proofs.YtmdgiekbejjjgaaGreat.T
namespace Go.Proofs.YtmdgiekbejjjgaaGreat
open Go T
variable {α:Type}{l:List α}
abbrev Iv (x : Int) : V := .int .i64 x
theorem Cz {i:Nat} (h : i < l.length) : l[i]? = some l[i] := zcR h
theorem Ea {i:Nat}{a:α} (h : l[i]? = some a) : ∃ h : i < l.length, l[i] = a := zcB.1 h
theorem Bb (n : Nat) : ((n : Nat) : Int).toNat = n := Int.toNat_natCast n
theorem CA (a b : Bool) : ((a && b) = true) = (a = true /\ b = true) := zcN a b
abbrev Vh := V × Heap
abbrev Ov := Option Vh
abbrev D1 (a:Int)(b:Int)(c:Pq)(d:Nat)(e:Nq)(f:Pq)(g:Nat)(h:Nq)(i:Pq)(j:Nat)(k:Nq)(l:Bool):List V:=[Iv a,Iv b,.sl 2 c d e,.sl 6 f g h,.sl 1 i j k,.bool l]
abbrev BV (a:Int)(b:Int)(c:Pq)(d:Nat)(e:Nq)(f:Pq)(g:Nat)(h:Nq)(i:Pq)(j:Nat)(k:Nq)(l:Bool):V:=.agg [Iv a,Iv b,.sl 2 c d e,.sl 6 f g h,.sl 1 i j k,.bool l]
abbrev Dg (a:Pq)(b:Nat)(c:Nq)(d:Pq)(e:Nat)(f:Nq)(g:Pq)(h:Nat)(i:Nq)(j:Pq)(k:Nat)(l:Nq):List V:=[.sl 6 a b c,.sl 5 d e f,.sl 9 g h i,.sl 5 j k l]
abbrev At (a:Pq)(b:Nat)(c:Nq)(d:Pq)(e:Nat)(f:Nq)(g:Pq)(h:Nat)(i:Nq)(j:Pq)(k:Nat)(l:Nq):V:=.agg [.sl 6 a b c,.sl 5 d e f,.sl 9 g h i,.sl 5 j k l]
abbrev DD (a:Int)(b:Int)(c:Int)(d:Pq)(e:Nat)(f:Nq)(g:ByteArray)(h:Bool):List V:=[Iv a,Iv b,Iv c,.sl 2 d e f,.str g,.bool h]
abbrev AP (a:Int)(b:Int)(c:Int)(d:Pq)(e:Nat)(f:Nq)(g:ByteArray)(h:Bool):V:=.agg [Iv a,Iv b,Iv c,.sl 2 d e f,.str g,.bool h]
abbrev BI (a:Int)(b:Int):List V:=[Iv a,Iv b]
abbrev Ay (a:Int)(b:Int):V:=.agg [Iv a,Iv b]
abbrev Tk (a:Int)(b:Int)(c:Int)(d:Int)(e:ByteArray)(f:Bool):List V:=[Iv a,Iv b,Iv c,Iv d,.str e,.bool f]
abbrev Bh (a:Int)(b:Int)(c:Int)(d:Int)(e:ByteArray)(f:Bool):V:=.agg [Iv a,Iv b,Iv c,Iv d,.str e,.bool f]
abbrev Pl (a:Int)(b:Int)(c:Int)(d:Int)(e:Int)(f:Int)(g:Pq)(h:Nat)(i:Nq)(j:ByteArray)(k:Bool):List V:=[Iv a,Iv b,Iv c,Iv d,Iv e,Iv f,.sl 2 g h i,.str j,.bool k]
abbrev Xz (a:Int)(b:Int)(c:Int)(d:Int)(e:Int)(f:Int)(g:Pq)(h:Nat)(i:Nq)(j:ByteArray)(k:Bool):V:=.agg [Iv a,Iv b,Iv c,Iv d,Iv e,Iv f,.sl 2 g h i,.str j,.bool k]
abbrev Pk (a:Int)(b:Pq)(c:Nat)(d:Nq)(e:Int)(f:Int)(g:Int):List V:=[Iv a,.sl 2 b c d,Iv e,Iv f,Iv g]
abbrev Xy (a:Int)(b:Pq)(c:Nat)(d:Nq)(e:Int)(f:Int)(g:Int):V:=.agg [Iv a,.sl 2 b c d,Iv e,Iv f,Iv g]
abbrev KJ (a:Pq)(b:Nat)(c:Nq)(d:Pq)(e:Nat)(f:Nq):List V:=[.sl 6 a b c,.sl 6 d e f]
abbrev Vo (a:Pq)(b:Nat)(c:Nq)(d:Pq)(e:Nat)(f:Nq):V:=.agg [.sl 6 a b c,.sl 6 d e f]
abbrev CC (a:Int)(b:Int)(c:Int):List V:=[Iv a,Iv b,Iv c]
abbrev Co (a:Pq)(b:Nat)(c:Nq):List V:=[.sl 2 a b c]
abbrev Ap (a:Pq)(b:Nat)(c:Nq):V:=.agg [.sl 2 a b c]
abbrev Cc (a:Pq)(b:Nat)(c:Nq):List V:=[.sl 6 a b c]
abbrev By (a:Pq)(b:Nat)(c:Nq):V:=.agg [.sl 6 a b c]
abbrev AW (a:Int):List V:=[Iv a]
abbrev Pm (a:Int)(b:Int)(c:Int)(d:Int)(e:Int):List V:=[Iv a,Iv b,Iv c,Iv d,Iv e]
abbrev XA (a:Int)(b:Int)(c:Int)(d:Int)(e:Int):V:=.agg [Iv a,Iv b,Iv c,Iv d,Iv e]
abbrev AN (h:Heap):Ov:=some (.bool false,h)
abbrev Cj (h:Heap):Ov:=some (.bool true,h)
abbrev BU (a b c:Nat):V:=.ptr (some (a,(b,c)))
abbrev AL (x:Int):Int:=IntKind.wrap .i64 x
noncomputable def I:T.Info:=Wz Tryz.prog [30,32,70] [(3,{ keep := [(0,[3,4,5,6,7],[]),(2,[3,4,5,6,8,9],[])] }),
 (4,{ keep := [(0,[4,8,9,10],[8,9])],cl := [(5,[0]),(6,[0]),(12,[1])] }),
 (5,{ keep := [(0,[4,8,9,10],[8,9]),(2,[4,8,9,10,11,12],[8,9])],cl := [(5,[0]),(11,[1])] }),
 (6,{ keep := [(0,[4,8,9,10],[8,9])],cl := [(5,[0]),(10,[1,8])] }),
 (7,{ cl := [(5,[0]),(6,[0]),(11,[1,3]),(13,[1,6])] }),
 (9,{ keep := [(0,[1,5,14,15,16],[])] }),
 (10,{ keep := [(0,[0,1,4,5],[])],drop:=true }),
 (12,{ drop:=true }),
 (14,{ keep := [(0,[6,7,22,23,24],[6])],hb := [7] }),
 (15,{ keep := [(0,[2,3,4,5],[2,3]),(2,[2,3,4,6],[2,3]),(4,[2,3,4,9],[2,3])],cl := [(6,[1,6])],drop:=true }),
 (17,{ drop:=true }),
 (19,{ keep := [(0,[0,1,4,5],[])],drop:=true }),
 (20,{ drop:=true }),
 (21,{ hb := [1] }),
 (22,{ hb := [6] }),
 (23,{ keep := [(0,[2,3,4,5],[2,3])],cl := [(6,[1,6])],drop:=true }),
 (25,{ hb := [1],drop:=true }),
 (27,{ drop:=true }),
 (28,{ keep := [(0,[0,2,3],[])],drop:=true }),
 (29,{ keep := [(0,[0,1,5,6],[])] }),
 (30,{ keep := [(0,[0,2,3,4,8,9,10],[])] }),
 (31,{ hb := [10] }),
 (35,{ drop:=true }),
 (36,{ keep := [(0,[0,1,4,5,12],[4,5]),(2,[4,5,24,25],[4,5])],cl := [(5,[1]),(10,[1])] }),
 (38,{ keep := [(0,[1,2,3,28,29,30],[1,2,3]),(2,[1,2,3,43,44,45],[1,2,3]),(4,[2,3,61,62,63],[2,3])],cl := [(1,[1,5,9,13]),(5,[1,2])] }),
 (39,{ keep := [(0,[2,3,4,5],[2,3])],cl := [(6,[1,6])],drop:=true }),
 (40,{ drop:=true }),
 (41,{ drop:=true }),
 (42,{ keep := [(0,[2,6,7,8],[6,7])],cl := [(5,[0,9])] }),
 (43,{ cl := [(1,[1,3,6,8])],drop:=true }),
 (44,{ drop:=true }),
 (45,{ keep := [(0,[3,4,8,9,10],[3])],cl := [(4,[1,5])],drop:=true }),
 (46,{ keep := [(0,[1,2,13,14,15],[1]),(2,[1,2,36,37,38],[1])],cl := [(12,[0])],drop:=true }),
 (48,{ keep := [(0,[2,3,8,9,10],[2,3])] }),
 (49,{ keep := [(0,[1,2,32,33,34],[]),(2,[1,2,50,51,52],[]),(4,[1,2,50,51,52,57,58,59],[])],hb := [1] }),
 (50,{ keep := [(0,[1,2,6,7,8],[1])],drop:=true }),
 (51,{ drop:=true }),
 (52,{ cl := [(1,[1])] }),
 (54,{ drop:=true }),
 (55,{ drop:=true }),
 (56,{ drop:=true }),
 (57,{ drop:=true }),
 (58,{ drop:=true }),
 (59,{ drop:=true }),
 (60,{ keep := [(0,[1,6],[])],hb := [5] }),
 (61,{ cl := [(1,[2]),(2,[5]),(6,[5,7,9,10]),(8,[1,3,5]),(14,[2,3,5,8,10])] }),
 (62,{ keep := [(0,[0,3,9,10,11],[9])] }),
 (63,{ drop:=true }),
 (66,{ cl := [(1,[1]),(3,[5]),(4,[7])] }),
 (67,{ cl := [(3,[5]),(13,[1,3]),(15,[6,8,10,16])] }),
 (68,{ cl := [(1,[1]),(3,[5]),(5,[6,8]),(7,[5,8,10,12])] }),
 (71,{ keep := [(0,[2,3,24,25,26],[2,3])],cl := [(1,[1,3,5,8,11,15]),(5,[1])] }),
 (74,{ keep := [(0,[2,3,4,5],[2,3])],cl := [(6,[1,7])],drop:=true }),
 (75,{ keep := [(0,[0,1,4,5,6],[4,5]),(2,[1,4,5,7],[4,5])],cl := [(5,[1]),(9,[1])] }),
 (77,{ keep := [(0,[2,3,6,7,8],[])],drop:=true }),
 (78,{ drop:=true }),
 (79,{ drop:=true }),
 (80,{ drop:=true }),
 (81,{ drop:=true }),
 (82,{ cl := [(1,[0])],drop:=true }),
 (83,{ drop:=true }),
 (84,{ keep := [(0,[2,4,5,11,12,13],[2,5])],drop:=true }),
 (85,{ keep := [(0,[1,2,3,45,46,47],[3]),(2,[1,2,3,4,45,46,47,58,59,60],[3]),(4,[1,2,90,91,92],[])],hb := [1],drop:=true }),
 (86,{ drop:=true }),
 (87,{ drop:=true }),
 (88,{ drop:=true }),
 (89,{ drop:=true }),
 (90,{ drop:=true }),
 (91,{ drop:=true }),
 (92,{ cl := [(1,[1,3])],drop:=true }),
 (93,{ drop:=true }),
 (94,{ keep := [(0,[0,1,4,7,8],[])],drop:=true }),
 (97,{ keep := [(0,[0,1,4,7,8],[])],drop:=true }),
 (98,{ drop:=true }),
 (99,{ drop:=true }),
 (100,{ keep := [(0,[3,7,8,9],[])],drop:=true }),
 (101,{ keep := [(0,[4,5,11,12,13],[4,5])],cl := [(5,[1,4,8])] }),
 (102,{ cl := [(2,[1,4,8])] }),
 (104,{ keep := [(0,[2,3,11,12],[2,3])],cl := [(6,[1])] }),
 (105,{ cl := [(3,[3,7,10,17,19,22]),(6,[2,4])] }),
 (106,{ cl := [(4,[1]),(8,[2])] }),
 (107,{ cl := [(1,[11,13]),(4,[6,9,11])] }),
 (108,{ keep := [(0,[0,5,39,40,41],[5])] }),
 (112,{ cl := [(7,[1]),(9,[7])] }),
 (113,{ drop:=true }),
 (114,{ wide:=true }),
 (115,{ cl := [(6,[3,6])] }),
 (116,{ keep := [(0,[2,3,12,13,14],[2,3])],cl := [(5,[1,3,6])] }),
 (117,{ keep := [(0,[3,9,10,11],[])] }),
 (120,{ keep := [(0,[2,3,4,5],[2,3])],cl := [(6,[1,6])],drop:=true }),
 (125,{ cl := [(2,[1]),(4,[1,3,5,7,9,11,16]),(10,[2,4,8,10]),(13,[1,3,7,9,11,16])] }),
 (126,{ drop:=true }),
 (127,{ keep := [(0,[0,1,4,7,8],[])],drop:=true }),
 (128,{ drop:=true }),
 (130,{ cl := [(1,[1,3,8])],drop:=true }),
 (131,{ drop:=true }),
 (132,{ keep := [(0,[0,1,4,7,8,9],[])],cl := [(4,[0])],drop:=true }),
 (133,{ keep := [(0,[0,3,9,10,11],[]),(2,[6,25,26,27],[])] }),
 (134,{ keep := [(0,[1,2,6,15,16,17],[])],drop:=true }),
 (135,{ keep := [(0,[0,1,4,7,8],[])],drop:=true }),
 (136,{ keep := [(0,[0,1,4,7,8],[])],drop:=true }),
 (137,{ keep := [(0,[0,1,4,12,13],[])],drop:=true }),
 (138,{ keep := [(0,[1,2,3,4],[1,2,3]),(2,[1,2,3,5],[1,2,3]),(4,[1,2,3,7],[1,2,3])],cl := [(5,[1,3])] }),
 (140,{ drop:=true }),
 (143,{ drop:=true }),
 (144,{ cl := [(1,[0]),(3,[5]),(8,[3])] }),
 (145,{ cl := [(1,[8])] }),
 (147,{ cl := [(4,[3])] }),
 (148,{ keep := [(0,[0,8,9,10],[])],cl := [(3,[1]),(4,[5])] }),
 (149,{ keep := [(0,[0,1,5,59,60,61],[])],cl := [(13,[10,15]),(14,[5])] }),
 (152,{ hb := [3],drop:=true }),
 (154,{ keep := [(0,[0,2,3,4],[2,3])],cl := [(7,[1])] }),
 (156,{ cl := [(6,[1,7]),(10,[1,3,5,7,9])] }),
 (157,{ cl := [(6,[1,4,6]),(9,[1,3,5,7,10,12])] }),
 (158,{ keep := [(0,[2,3,4,8,9],[2,3,4,8])],cl := [(4,[2]),(9,[1,3,5,7,13]),(10,[0,2,5])] }),
 (159,{ drop:=true }),
 (160,{ cl := [(2,[1,5])] }),
 (161,{ keep := [(0,[1,2,3,4],[1,2,3]),(2,[1,2,6,7],[1,2])],cl := [(7,[1,2])] }),
 (162,{ drop:=true }),
 (163,{ cl := [(1,[2,7]),(4,[1,5,12])] }),
 (164,{ cl := [(2,[1,3])] }),
 (165,{ drop:=true }),
 (166,{ cl := [(1,[1,5])] }),
 (168,{ cl := [(1,[2]),(3,[1,4,8])] }),
 (169,{ keep := [(0,[0,2,5,6],[])],drop:=true }),
 (171,{ keep := [(0,[1,2,3,4],[1,2,3])],cl := [(1,[1,3,5,7,10]),(5,[1,3])] }),
 (173,{ drop:=true }),
 (174,{ wide:=true }),
 (175,{ cl := [(2,[4]),(3,[6,7]),(5,[5])] }),
 (176,{ drop:=true }),
 (177,{ drop:=true }),
 (178,{ wide:=true }),
 (180,{ cl := [(1,[1,3,6,8])],drop:=true }),
 (181,{ drop:=true }),
 (183,{ keep := [(0,[0,2,3],[])],drop:=true }),
 (184,{ cl := [(1,[0,2])],drop:=true }),
 (185,{ cl := [(1,[1,2,5,9]),(4,[0,3])] }),
 (188,{ drop:=true }),
 (189,{ cl := [(2,[1,4,8])] }),
 (190,{ keep := [(0,[2,3,4,5,6],[2,3,4,5])],cl := [(5,[1,3,8])] }),
 (191,{ keep := [(0,[2,3,4,5],[2,3])],cl := [(4,[1,6])],drop:=true }),
 (192,{ keep := [(0,[1,2,3,4],[1,2,3])],cl := [(5,[1,3])] }),
 (193,{ cl := [(1,[1,8,13]),(3,[1,4,9]),(5,[1,4,9])] }),
 (194,{ keep := [(0,[0,3,4,5],[3])],cl := [(4,[5])],drop:=true }),
 (195,{ keep := [(0,[2,3,5,6],[2,3]),(2,[2,3,5,6,7],[2,3])],cl := [(5,[1,7])] }),
 (196,{ keep := [(0,[1,2,3,4],[1,2,3])],cl := [(5,[1,3])] }),
 (197,{ keep := [(0,[1,2,4,5,6],[2,5])],cl := [(6,[1,3,8])],drop:=true }),
 (198,{ drop:=true }),
 (200,{ keep := [(0,[1,2,3,4],[1,2,3]),(2,[1,2,3,4,5,6],[1,2,3,5])],cl := [(9,[1,3])] }),
 (201,{ keep := [(0,[0,3,4],[])] }),
 (202,{ keep := [(0,[0,1,4,7,8],[])],drop:=true }),
 (203,{ keep := [(0,[0,1,2,3,4,10,11],[])] }),
 (204,{ drop:=true }),
 (205,{ keep := [(0,[3,5,6],[3])],drop:=true }),
 (206,{ drop:=true }),
 (207,{ cl := [(1,[1,3,8]),(2,[1,3,4])] }),
 (208,{ keep := [(0,[0,1,2,3,8],[]),(2,[0,1,2,3,8,9],[])] }),
 (209,{ keep := [(0,[0,3,8,9,10,11],[]),(2,[0,3,8,9,12],[])] }),
 (210,{ keep := [(0,[0,1,8,9,10,11],[])],hb := [9] }),
 (211,{ hb := [11] }),
 (212,{ keep := [(0,[0,8,9],[])] }),
 (213,{ keep := [(0,[0,1,2,3,8,9,10],[]),(2,[0,1,2,3,9,10],[]),(4,[0,1,2,3,9,10,11],[]),(6,[0,1,2,3,9,10,12],[])] }),
 (214,{ keep := [(0,[0,1,4,11,12],[]),(2,[0,1,4,11,12],[]),(4,[0,1,4,11,12],[])] }),
 (215,{ keep := [(0,[0,1,4,12,13],[]),(2,[0,1,4,12,13],[]),(4,[0,1,4,12,13],[]),(6,[0,1,4,12,13],[]),(8,[0,1,4,12,13],[])] }),
 (216,{ drop:=true }),
 (217,{ drop:=true }),
 (218,{ keep := [(0,[0,2,3,4,10],[])] }),
 (219,{ drop:=true })]
noncomputable def Ai:HK:=eval Tryz.prog I
noncomputable def X (f:Nat):Ctx:=I.ctx Ai f
theorem zb5:Sound Tryz.prog I:=Zk (by kernel_rfl) (by kernel_rfl) (by kernel_rfl)
theorem evl_sound:SC Tryz.prog Ai:=WS zb5


variable {n:Nat}{p:Prop}{h:Heap}{a:Pq}{ro:Bool}{rs:List (List V)}{j:Nat}
section words
variable {R:Type}
@[simp] theorem Am (x y:Option R):br true x y=x:=rfl
@[simp] theorem Av (x y:Option R):br false x y=y:=rfl
@[simp] theorem CW (x:Option R):Bd true x=x:=rfl
@[simp] theorem Ab (k:IntKind) (n:Int) (f:Int->Option R):eI k (.int k n) f=f n:=by simp[eI]
@[simp] theorem AM (b:Bool) (f:Bool->Option R):eBv (.bool b) f=f b:=rfl
@[simp] theorem Ao (b:Bool) (x y:Option R):eB (.bool b) x y=br b x y:=rfl
@[simp] theorem BH (s:ByteArray) (f:ByteArray->Option R):eT (.str s) f=f s:=rfl
@[simp] theorem Af (q:Nat) (a:Pq) (n:Nat) (c:Nq) (f:Pq->Nat->Nq->Option R):eS q (.sl q a n c) f=f a n c:=by
 unfold eS;cases a with
 | none=>rfl
 | some p=>simp
@[simp] theorem zcd (p:Option (Nat×Nat×Nat)) (f:Option (Nat×Nat×Nat)->Option R):eP (.ptr p) f=f p:=rfl
@[simp] theorem AO (cs:List V) (f:List V->Option R):eA (.agg cs) f=f cs:=rfl
@[simp] theorem Gn (cs:List V) (f:List V->Option R):eU (.tup cs) f=f cs:=rfl
@[simp] theorem Aa (v:V) (r:List V) (f:V->List V->Option R):eC (v :: r) f=f v r:=rfl
@[simp] theorem Ag (x:Option R):eN [] x=x:=rfl
@[simp] theorem Ad {α:Type} (x:α) (f:α->Option R):eO (some x) f=f x:=rfl
@[simp] theorem Ac {α:Type} (v:V) (h:α) (f:V->α->Option R):Al (some (v,h)) f=f v h:=rfl
theorem Cl {i:Int} (h:0<=i/\i<n) (f:Option R):AB i n f=f:=by unfold AB;rw[decide_eq_true h]
@[simp] theorem Ae {k:Nat} (h:k<n) (f:Option R):AB (k:Int) n f=f:=Cl ⟨by omega,by omega⟩ f
theorem CQ {i:Int} (h:0<=i/\i<=n) (f:Option R):WA i n f=f:=by unfold WA;rw[decide_eq_true h]
theorem DJ [Decidable p] (h:p) (f:Option R):Bd (decide p) f=f:=by rw[decide_eq_true h];rfl
theorem Ak [Decidable p] (h:p) (x y:Option R):br (decide p) x y=x:=by rw[decide_eq_true h];rfl
theorem Aj [Decidable p] (h:¬ p) (x y:Option R):br (decide p) x y=y:=by rw[decide_eq_false h];rfl
@[simp] theorem J0 {α:Type} (b c d:Bool) (h:α):br b (some (V.bool c,h)) (some (V.bool d,h))=some (V.bool (bif b then c else d),h):=by cases b<;>rfl
end words
theorem wr {n:Int} (h1 : -9223372036854775808<=n) (h2:n<=9223372036854775807):AL n=n:=IntWalk.i64_in n ⟨h1,h2⟩
theorem Ar {k:Nat} (h:k<9223372036854775807):AL ((k:Int)+1)=((k+1:Nat):Int):=by rw[wr (by omega) (by omega)];omega
def Sl (h:Heap) (rows:List (List V)) (a:Pq) (n:Nat):Prop :=
 n=rows.length/\(rows = []\/∃ b i rs,a=some (b,i)/\Heap.rows? h b=some rs/\(rs.drop i).take n=rows)
theorem Sl.len {rows:List (List V)} (s:Sl h rows a n):n=rows.length:=s.1
theorem Sl.nil:Sl h [] a 0:=⟨rfl,.inl rfl⟩
theorem Sl.read {rows:List (List V)}{k:Nat}{row:List V} (s:Sl h rows a n) (hk:rows[k]?=some row) :
  ∃ o,a=some o/\∀ j m,ld h o.1 (o.2+k) j m=cut row j m:=by
 obtain ⟨h1,h2 | ⟨b,i,rs,h2,h3,h4⟩⟩:=s
 ·subst h2;simp at hk
 ·refine ⟨(b,i),h2,λj m=>?_⟩;have hlt:k<rows.length:=(Ea hk).1;have:rs[i+k]?=some row:=by rw[<- h4,zdU (by omega),zcX] at hk;exact hk
  simp only[ld,h3,zc7,this]
theorem Sl.mono {h':Heap}{rows:List (List V)} (s:Sl h rows a n) (hp:h <+: h'):Sl h' rows a n:=by
 obtain ⟨h1,h2 | ⟨b,i,rs,h2,h3,h4⟩⟩:=s
 ·exact ⟨h1,.inl h2⟩
 ·refine ⟨h1,.inr ⟨b,i,rs,h2,?_,h4⟩⟩;obtain ⟨t,rfl⟩:=hp;unfold Heap.rows? at h3 ⊢;have hb:b<h.length:=by apply zd2;intro hle;rw[zdg hle] at h3;cases h3
  rw[zcC hb];exact h3
theorem NX {R e:Nat}:Heap.rows? (h ++ [.rows R e ro rs]) h.length=some rs:=by simp[Heap.rows?]
theorem Sl.last {R e:Nat}{rows:List (List V)} (hn:n=rows.length):Sl (h ++ [.rows R e ro rows]) rows (some (h.length,0)) n :=
 ⟨hn,.inr ⟨h.length,0,rows,rfl,NX,by simp[hn]⟩⟩
theorem TG {R e:Nat}{i:Nat}{row:List V} (hi:rs[i]?=some row):ld (h ++ [.rows R e ro rs]) h.length i j n=cut row j n:=by simp[ld,NX,hi]
theorem Ig {row:List V}{v:V} (h:row[j]?=some v):cut row j 1=some [v]:=by have hlt:=(Ea h).1;have hx:=(Ea h).2;rw[Ub (by omega),zcM hlt,hx];rfl
theorem EN {row:List V}{v:V} (h:j<row.length):paste row j [v]=some (row.set j v):=by
 induction j generalizing row with
 | zero=>cases row with
  | nil=>simp at h
  | cons x r=>simp[paste]
 | succ j ih=>cases row with
  | nil=>simp at h
  | cons x r=>simp only[paste];rw[ih (by simpa using h)];rfl
section maps
variable {K U:Type} [DecidableEq K]
end maps


variable {ro:Bool}{R R' n:Nat}{a:Pq}{c:Nq}{F:List Nat}{k:Nat}{rs xs:List (List V)}{Gs Fs:List (List Nat)}{G:List Nat}{T:Type}{K:Pq->Nat->Nq->Option T}
abbrev Rel (α:Type):=Heap->List V->α->List Nat->Prop
def Rel.Fr {α:Type} (El:Rel α):Prop:=∀ (h h':Heap) (cs:List V) (x:α) (F:List Nat),El h cs x F->(∀ b∈F,h'[b]?=h[b]?)->El h' cs x F
def Rel.Ln {α:Type} (El:Rel α) (n:Nat):Prop:=∀ (h:Heap) (cs:List V) (x:α) (F:List Nat),El h cs x F->cs.length=n
def flat {α:Type} (cs:α->List V):Rel α:=λ_ row x F=>row=cs x/\F = []
theorem TW {α:Type}{cs:α->List V}:(flat cs).Fr:=λ_ _ _ _ _ h _=>h
def EAll {α:Type} (El:Rel α) (h:Heap):List (List V)->List α->List (List Nat)->Prop
 | [],[],[]=>True
 | r :: rs,x :: xs,F :: Fs=>El h r x F/\EAll El h rs xs Fs
 | _,_,_=>False
def Sli {α:Type} (ro:Bool) (R e:Nat) (El:Rel α):Rel (List α):=λh cs l F=>∃ R' a c,cs = [.sl R' a l.length c]/\match ro with
 | true=>R'=R/\((l = []/\F = [])\/∃ b i rs Fs,a=some (b,i)/\Heap.rows? h b=some rs/\i+l.length<=rs.length/\EAll El h ((rs.drop i).take l.length) l Fs/\F=b :: Fs.flatten)
 | false=>match a with
  | none=>l = []/\c=some 0/\F = []
  | some (b,i)=>R'=R/\∃ rs Fs,h[b]?=some (.rows R e false rs)/\i+l.length<=rs.length/\(∀ k,c=some k->l.length<=k/\i+k<=rs.length)/\(c=none->i=0)/\EAll El h ((rs.drop i).take l.length) l Fs/\F=b :: Fs.flatten
section
variable {α:Type}{El:Rel α}{h h':Heap}
theorem EAll.fr (hf:El.Fr):∀ {rows:List (List V)}{l:List α}{Fs:List (List Nat)},EAll El h rows l Fs->(∀ b∈Fs.flatten,h'[b]?=h[b]?)->EAll El h' rows l Fs
 | [],[],[],_,_=>trivial
 | r :: rs,x :: xs,F :: Fs,⟨h1,h2⟩,hb=>⟨hf _ _ _ _ _ h1 λb hm=>hb b (by simp[hm]),EAll.fr hf h2 λb hm=>hb b (by simp only[zc1,zcx];exact .inr hm)⟩
 | [],[],_ :: _,h,_=>h.elim
 | [],_ :: _,_,h,_=>h.elim
 | _ :: _,[],_,h,_=>h.elim
 | _ :: _,_ :: _,[],h,_=>h.elim
theorem EAll.len:∀ {rows:List (List V)}{l:List α}{Fs:List (List Nat)},EAll El h rows l Fs->rows.length=l.length/\Fs.length=l.length
 | [],[],[],_=>⟨rfl,rfl⟩
 | r :: rs,x :: xs,F :: Fs,⟨_,h2⟩=>by have:=EAll.len h2;simp[this.1,this.2]
 | [],[],_ :: _,h=>h.elim
 | [],_ :: _,_,h=>h.elim
 | _ :: _,[],_,h=>h.elim
 | _ :: _,_ :: _,[],h=>h.elim
theorem EAll.get:∀ {rows:List (List V)}{l:List α}{Fs:List (List Nat)},EAll El h rows l Fs->∀ {k:Nat}{x:α},l[k]?=some x->∃ row F,rows[k]?=some row/\Fs[k]?=some F/\El h row x F
 | [],[],[],_,k,x,hk=>by simp at hk
 | r :: rs,x :: xs,F :: Fs,⟨h1,h2⟩,0,y,hk=>by simp at hk;subst hk;exact ⟨r,F,rfl,rfl,h1⟩
 | r :: rs,x :: xs,F :: Fs,⟨h1,h2⟩,k+1,y,hk=>by simp at hk;obtain ⟨row,G,g1,g2,g3⟩:=EAll.get h2 hk;exact ⟨row,G,by simpa using g1,by simpa using g2,g3⟩
 | [],[],_ :: _,h,_,_,_=>h.elim
 | [],_ :: _,_,h,_,_,_=>h.elim
 | _ :: _,[],_,h,_,_,_=>h.elim
 | _ :: _,_ :: _,[],h,_,_,_=>h.elim
theorem EAll.set:∀ {rows:List (List V)}{l:List α}{Fs:List (List Nat)},EAll El h rows l Fs->∀ {k:Nat}{row:List V}{x:α}{F:List Nat},El h row x F->EAll El h (rows.set k row) (l.set k x) (Fs.set k F)
 | [],[],[],_,k,_,_,_,_=>trivial
 | r :: rs,x :: xs,F :: Fs,⟨h1,h2⟩,0,_,_,_,he=>⟨he,h2⟩
 | r :: rs,x :: xs,F :: Fs,⟨h1,h2⟩,k+1,_,_,_,he=>⟨h1,EAll.set h2 he⟩
 | [],[],_ :: _,h,_,_,_,_,_=>h.elim
 | [],_ :: _,_,h,_,_,_,_,_=>h.elim
 | _ :: _,[],_,h,_,_,_,_,_=>h.elim
 | _ :: _,_ :: _,[],h,_,_,_,_,_=>h.elim
theorem EAll.append:∀ {rows rows':List (List V)}{l l':List α}{Fs Fs':List (List Nat)},EAll El h rows l Fs->EAll El h rows' l' Fs'->EAll El h (rows++rows') (l++l') (Fs++Fs')
 | [],_,[],_,[],_,_,h=>h
 | r :: rs,_,x :: xs,_,F :: Fs,_,⟨h1,h2⟩,h=>⟨h1,EAll.append h2 h⟩
 | [],_,[],_,_ :: _,_,h,_=>h.elim
 | [],_,_ :: _,_,_,_,h,_=>h.elim
 | _ :: _,_,[],_,_,_,h,_=>h.elim
 | _ :: _,_,_ :: _,_,[],_,h,_=>h.elim
theorem EAll.take:∀ {rows:List (List V)}{l:List α}{Fs:List (List Nat)},EAll El h rows l Fs->∀ (n:Nat),EAll El h (rows.take n) (l.take n) (Fs.take n)
 | [],[],[],_,n=>by simp[EAll]
 | r :: rs,x :: xs,F :: Fs,⟨h1,h2⟩,0=>trivial
 | r :: rs,x :: xs,F :: Fs,⟨h1,h2⟩,n+1=>⟨h1,EAll.take h2 n⟩
 | [],[],_ :: _,h,_=>h.elim
 | [],_ :: _,_,h,_=>h.elim
 | _ :: _,[],_,h,_=>h.elim
 | _ :: _,_ :: _,[],h,_=>h.elim
theorem EAll.drop:∀ {rows:List (List V)}{l:List α}{Fs:List (List Nat)},EAll El h rows l Fs->∀ (n:Nat),EAll El h (rows.drop n) (l.drop n) (Fs.drop n)
 | [],[],[],_,n=>by simp[EAll]
 | r :: rs,x :: xs,F :: Fs,h,0=>h
 | r :: rs,x :: xs,F :: Fs,⟨h1,h2⟩,n+1=>EAll.drop h2 n
 | [],[],_ :: _,h,_=>h.elim
 | [],_ :: _,_,h,_=>h.elim
 | _ :: _,[],_,h,_=>h.elim
 | _ :: _,_ :: _,[],h,_=>h.elim
theorem EAll.flat {cs:α->List V}:∀ {l:List α},EAll (flat cs) h (l.map cs) l (l.map λ_ => [])
 | []=>trivial
 | x :: l=>⟨⟨rfl,rfl⟩,EAll.flat⟩
theorem EAll.of_flat {cs:α->List V}:∀ {rows:List (List V)}{l:List α}{Fs:List (List Nat)},EAll (Go.Proofs.YtmdgiekbejjjgaaGreat.flat cs) h rows l Fs->rows=l.map cs/\Fs.flatten = []
 | [],[],[],_=>⟨rfl,rfl⟩
 | r :: rs,x :: xs,F :: Fs,⟨⟨h1,h2⟩,h3⟩=>by obtain ⟨h4,h5⟩:=EAll.of_flat h3;subst h1;subst h2;subst h4;exact ⟨rfl,by simpa using h5⟩
 | [],[],_ :: _,h=>h.elim
 | [],_ :: _,_,h=>h.elim
 | _ :: _,[],_,h=>h.elim
 | _ :: _,_ :: _,[],h=>h.elim
theorem Sli.fr {ro:Bool}{R e:Nat} (hf:El.Fr):(Sli ro R e El).Fr:=by
 rintro h h' cs l F ⟨R',a,c,h1,h2⟩ hb
 refine ⟨R',a,c,h1,?_⟩;cases ro with
 | true =>
  obtain ⟨hR,h2 | ⟨b,i,rs,Fs,g0,g1,g2,g5,rfl⟩⟩:=h2
  ·exact ⟨hR,.inl h2⟩
  ·exact ⟨hR,.inr ⟨b,i,rs,Fs,g0,by unfold Heap.rows? at g1 ⊢;rw[hb b (by simp)];exact g1,g2,g5.fr hf λb hm=>hb b (by simp only[zcD];exact .inr hm),rfl⟩⟩
 | false =>
 cases a with
 | none=>exact h2
 | some p =>obtain ⟨b,i⟩:=p;obtain ⟨hR,rs,Fs,g1,g2,g3,g4,g5,rfl⟩:=h2;exact ⟨hR,rs,Fs,by rw[hb b (by simp)];exact g1,g2,g3,g4,g5.fr hf λb hm=>hb b (by simp only[zcD];exact .inr hm),rfl⟩
theorem Sli.nil {e:Nat}:Sli false R e El h [.sl R' none 0 (some 0)] [] []:=⟨R',none,some 0,rfl,rfl,rfl,rfl⟩
theorem Sli.val {e:Nat}{l:List α} (hs:Sli ro R e El h [.sl R' a n c] l F):n=l.length:=by obtain ⟨R1,a',c',h1,_⟩:=hs;injection h1 with h1 _;injection h1
theorem Sli.form {e:Nat}{v:V}{l:List α} (hs:Sli ro R e El h [v] l F) :
  ∃ a c,(∀ {R':Type} (K:Pq->Nat->Nq->Option R'),eS R v K=K a l.length c)/\Sli ro R e El h [.sl R a l.length c] l F:=by
 obtain ⟨R',a,c,h1,h2⟩:=hs;injection h1 with h1 _;subst h1;cases ro with
 | true =>obtain ⟨rfl,h2⟩:=h2;exact ⟨a,c,λK=>Af _ _ _ _ _,R',a,c,rfl,rfl,h2⟩
 | false =>
 cases a with
 | none=>exact ⟨none,c,λK=>rfl,R,none,c,rfl,h2⟩
 | some p =>obtain ⟨b,i⟩:=p;obtain ⟨rfl,h3⟩:=h2;exact ⟨some (b,i),c,λK=>Af _ _ _ _ _,R',some (b,i),c,rfl,rfl,h3⟩
theorem Sli.data {e:Nat}{l:List α} (hs:Sli false R e El h [.sl R' a n c] l F) (hk:k<l.length) :
  ∃ b i rs Fs,a=some (b,i)/\h[b]?=some (.rows R e false rs)/\i+l.length<=rs.length/\(∀ k,c=some k->l.length<=k/\i+k<=rs.length)/\(c=none->i=0)/\EAll El h ((rs.drop i).take l.length) l Fs/\F=b :: Fs.flatten:=by
 obtain ⟨R1,a',c',h1,h2⟩:=hs;injection h1 with h1 _;injection h1 with _ e1 e2 e3;subst e1;subst e3;cases a with
 | none=>obtain ⟨rfl,_⟩:=h2;simp at hk
 | some p =>obtain ⟨b,i⟩:=p;obtain ⟨_,rs,Fs,g⟩:=h2;exact ⟨b,i,rs,Fs,rfl,g⟩
theorem Sli.clip {e:Nat}{l:List α} (hs:Sli false R e El h [.sl R' a n c] l F):Sli false R e El h [.sl R' a n (some n)] l F:=by
 have hn:=hs.val;subst hn;obtain ⟨R1,a',c',h1,h2⟩:=hs;injection h1 with h1 _;injection h1 with e0 e1 e2 e3;subst e0;subst e1;subst e3;refine ⟨R',a,some l.length,rfl,?_⟩;cases a with
 | none=>obtain ⟨rfl,h3,h4⟩:=h2;exact ⟨rfl,rfl,h4⟩
 | some p =>obtain ⟨b,i⟩:=p;obtain ⟨hR,rs,Fs,g1,g2,g3,g4,g5⟩:=h2;exact ⟨hR,rs,Fs,g1,g2,(λk hk=>by injection hk with hk;subst hk;exact ⟨zcz _,g2⟩),(λh=>by cases h),g5⟩
theorem Ic {e:Nat}{l:List α} (hs:Sli false R e El h [.sl R' a n c] l F) :
  Aw a n c none (some (Iv (n:Nat))) (some (Iv (n:Nat))) K=K a n (some n):=by
 have hn:=hs.val;subst hn;obtain ⟨R1,a',c',h1,h2⟩:=hs;injection h1 with h1 _;injection h1 with e0 e1 e2 e3;subst e0;subst e1;subst e3;have hc:∀ k,c=some k->l.length<=k:=λk hk=>by
  cases a with
  | none=>obtain ⟨rfl,_⟩:=h2;simp
  | some p=>obtain ⟨b,i⟩:=p;obtain ⟨_,_,_,_,_,g3,_⟩:=h2;exact (g3 k hk).1
 unfold Aw FG IN Jl;cases c with
 | none=>simp only[Ab,Bb];rw[CQ ⟨by omega,by omega⟩,CQ ⟨by omega,by omega⟩]
 | some k=>have:=hc k rfl;simp only[Ab,Bb];rw[CQ ⟨by omega,by omega⟩,CQ ⟨by omega,by omega⟩]
theorem Sli.read {e:Nat}{l:List α} (hs:Sli ro R e El h [.sl R' a n c] l F) (hk:k<l.length) :
  ∃ o row G,a=Option.some o/\(∀ j m,ld h o.1 (o.2+k) j m=cut row j m)/\El h row l[k] G/\(∀ b∈G,b∈F)/\o.1∈F:=by
 have fin:∀ b i rs Fs,a=Option.some (b,i)->Heap.rows? h b=Option.some rs->i+l.length<=rs.length->EAll El h ((rs.drop i).take l.length) l Fs->F=b :: Fs.flatten ->
   ∃ o row G,a=Option.some o/\(∀ j m,ld h o.1 (o.2+k) j m=cut row j m)/\El h row l[k] G/\(∀ b∈G,b∈F)/\o.1∈F:=by
  rintro b i rs Fs rfl g1 g2 g5 rfl
  obtain ⟨row,G,k1,k2,k3⟩:=g5.get (Cz hk);refine ⟨(b,i),row,G,rfl,λj m=>?_,k3,λx hx=>?_,by simp⟩
  ·have:rs[i+k]?=Option.some row:=by rw[zdU hk,zcX] at k1;exact k1
   simp only[ld,g1,zc7,this]
  ·simp only[zcD,zd3];exact .inr ⟨G,zcL k2,hx⟩
 cases ro with
 | true =>
  obtain ⟨R1,a',c',h1,_,⟨rfl,_⟩ | ⟨b,i,rs,Fs,g0,g1,g2,g5,g6⟩⟩:=hs
  ·simp at hk
  ·injection h1 with h1 _;injection h1 with _ e1 _ _;exact fin b i rs Fs (by rw[e1,g0]) g1 g2 g5 g6
 | false =>obtain ⟨b,i,rs,Fs,h0,g1,g2,g3,g4,g5,g6⟩:=hs.data hk;exact fin b i rs Fs h0 (by simp only[Heap.rows?,g1]) g2 g5 g6
end
theorem D2 {a b:Nat} (h:a<=b):Nat.ble a b=true:=by simpa [Nat.ble_eq] using h
theorem XS {a b:Nat} (h:¬ a<=b):Nat.ble a b=false:=by
 cases hb:Nat.ble a b with
 | false=>rfl
 | true=>exact absurd (zdz hb) h
theorem IJ {a:Nat}:Nat.beq a a=true:=by simp
theorem zbG {tl:List (List V)}{i len:Nat} (hi:i+len<=rs.length):((rs.take (i+len)++xs++tl).drop i).take (len+xs.length)=(rs.drop i).take len++xs:=by
 have h1:(rs.take i).length=i:=by simp;omega
 have h2:((rs.drop i).take len).length=len:=by simp;omega
 have h3:rs.take (i+len)=rs.take i++(rs.drop i).take len:=by rw[List.take_add]
 rw[h3,zcO,zcO,List.drop_append_of_le_length (by omega)];rw[show (rs.take i).drop i = [] from zdk (by omega),zc3,<- zcO,zed (by simp;omega),zc0 (by simp;omega)]
def Xe {R':Type} (lo e R len:Nat) (xs:List (List V)) (h:Heap) (a:Pq) (c:Nq) (K:V->Heap->Option R'):Option R':=match a with
 | none=>K (.sl R (some (h.length,0)) (len+xs.length) none) (h ++ [.rows R e false xs])
 | some (b,i)=>match c with
  | some c=>match Nat.ble (len+xs.length) c with
   | true=>eO (EZ lo h b (i+len) xs) λh'=>K (.sl R (some (b,i)) (len+xs.length) (some c)) h'
   | false=>eO (Et h b i len) λold=>K (.sl R (some (h.length,0)) (len+xs.length) none) (h ++ [.rows R e false (old++xs)])
  | none=>eO (Heap.own? lo e h b) λrs=>match Nat.ble (i+len+xs.length) rs.length with
   | true=>eO (EZ lo h b (i+len) xs) λh'=>K (.sl R (some (b,i)) (len+xs.length) none) h'
   | false=>Bd (Nat.beq i 0) <| eO (Et h b i len) λold=>K (.sl R (some (h.length,0)) (len+xs.length) none) (h.set b .dead ++ [.rows R e false (old++xs)])
theorem Sli.push {α:Type}{El:Rel α}{h:Heap}{lo e bytes:Nat}{l ys:List α} (hfr:El.Fr)
  (hs:Sli false R e El h [.sl R a n c] l F) (hx:EAll El h xs ys Gs) (hb:0<bytes) (hsz:(l.length+ys.length)*bytes<=140737488355328) (hlo:∀ b∈F,lo<=b) (hl:lo<=h.length)
  (hnd:(F++Gs.flatten).Nodup) (hF:∀ b∈F++Gs.flatten,b<h.length) (hne:ys ≠ []) :
  ∃ a' c' h' F',(∀ {R':Type} (K:V->Heap->Option R'),Dd lo e R bytes (.sl R a n c) xs h K=K (.sl R a' (l.length+ys.length) c') h')/\Sli false R e El h' [.sl R a' (l.length+ys.length) c'] (l++ys) F'/\h.length<=h'.length /\
   (∀ b,b<h.length->b∉F->h'[b]?=h[b]?)/\(∀ b∈F',b∈F++Gs.flatten\/(h.length<=b/\b<h'.length))/\F'.Nodup:=by
 have hxl:=hx.len;have hxs:xs ≠ []:=λh0=>by subst h0;simp at hxl;exact hne (zcF hxl.1.symm)
 have hbl:Nat.blt 0 bytes=true:=by simpa [zd1] using hb
 have hn:=hs.val;subst hn;obtain ⟨x0,xr,hx0⟩:∃ x0 xr,xs=x0 :: xr:=by cases xs with
  | nil=>exact absurd rfl hxs
  | cons x r=>exact ⟨x,r,rfl⟩
 have hsz':decide ((l.length+xs.length)*bytes<=Jp)=true:=decide_eq_true (by rw[hxl.1];exact hsz);have hA:∀ {R':Type} (K:V->Heap->Option R'),Dd lo e R bytes (.sl R a l.length c) xs h K=Xe lo e R l.length xs h a c K:=by
  intro R' K;subst hx0;simp only[Dd,hbl,hsz',CW];unfold Xe;cases a with
  | none=>rfl
  | some p =>obtain ⟨b,i⟩:=p;simp only[IJ,CW];cases c<;>rfl
 have new:∀ (old:List (List V)) (Fs:List (List Nat)) (h0:Heap),EAll El h0 old l Fs->EAll El h0 xs ys Gs->h0.length=h.length->(∀ b∈(Fs++Gs).flatten,b<h.length)->(Fs++Gs).flatten.Nodup ->
   Sli false R e El (h0 ++ [.rows R e false (old++xs)]) [.sl R (some (h.length,0)) (l.length+ys.length) none] (l++ys) (h.length ::(Fs++Gs).flatten)/\(h.length ::(Fs++Gs).flatten).Nodup:=by
  intro old Fs h0 ho hx' hl0 hlt hnd';have hol:=ho.len;refine ⟨⟨R,some (h.length,0),none,by simp,rfl,old++xs,Fs++Gs,by simp[<- hl0],by simp;omega,λk hk=>(by cases hk),λ_=>rfl,?_,rfl⟩,?_⟩
  ·have:((old++xs).drop 0).take (l++ys).length=old++xs:=by rw[zdt,zc0];simp;omega
   rw[this];have hap:=ho.append hx';refine hap.fr hfr λb hb=>?_;rw[zcC (by rw[hl0];exact hlt b hb)]
  ·rw[zcE];exact ⟨λhm=>by have:=hlt _ hm;omega,hnd'⟩
 cases a with
 | none =>
  obtain ⟨R1,a1,c1,e1,e2⟩:=hs;injection e1 with e1 _;injection e1 with _ e3 _ e4;subst e3;subst e4;obtain ⟨rfl,rfl,rfl⟩:=e2;simp only[zc3] at hnd hF;obtain ⟨n1,n2⟩:=new [] [] h trivial hx rfl (by simpa using hF) (by simpa using hnd);refine ⟨_,_,_,_,λK=>by rw[hA K];simp only[Xe];rw[hxl.1,zc3],n1,by simp,λb hb _=>zcC hb,λb hb=>?_,n2⟩;simp only[zcD,zc3] at hb;rcases hb with rfl | hb
  ·exact .inr ⟨zcz _,by simp⟩
  ·exact .inl (by simpa using hb)
 | some p =>
  obtain ⟨b,i⟩:=p;obtain ⟨R1,a1,c1,e1,e2⟩:=hs;injection e1 with e1 _;injection e1 with _ e3 _ e4;subst e3;subst e4;obtain ⟨_,rs,Fs,g1,g2,g3,g4,g5,rfl⟩:=e2;have hlob:lo<=b:=hlo b (by simp);have hblt:b<h.length:=hF b (by simp);have hnd1:b∉Fs.flatten++Gs.flatten/\(Fs.flatten++Gs.flatten).Nodup:=by rw[zde,zcE] at hnd;exact hnd
  have hF1:∀ x∈(Fs++Gs).flatten,x<h.length:=λx hx=>hF x (by rw[zde,zcD];rw[zc9] at hx;exact .inr hx);have hld:Et h b i l.length=some ((rs.drop i).take l.length):=by simp only[Et,Heap.rows?,g1,zc7,D2 g2]
  have place:∀ c,(∀ k,c=some k->l.length+ys.length<=k/\i+k<=rs.length)->(c=none->i=0)->i+l.length+xs.length<=rs.length->∃ h',EZ lo h b (i+l.length) xs=some h' /\
    Sli false R e El h' [.sl R (some (b,i)) (l.length+ys.length) c] (l++ys) (b ::(Fs++Gs).flatten)/\h'.length=h.length/\(∀ x,x≠b->h'[x]?=h[x]?):=by
   intro c hc hc0 hle;refine ⟨h.set b (.rows R e false (rs.take (i+l.length)++xs++rs.drop (i+l.length+xs.length))),?_,?_,by simp,λx hx=>zcA (Ne.symm hx)⟩
   ·simp only[EZ,g1,D2 hlob,D2 hle]
   ·refine ⟨R,some (b,i),c,by simp,rfl,rs.take (i+l.length)++xs++rs.drop (i+l.length+xs.length),Fs++Gs,by simp[hblt],by simp;omega,λk hk=>?_,hc0,?_,rfl⟩
    ·have:=hc k hk;refine ⟨by simpa using this.1,?_⟩;simp only[zcP,zcS,zdB];omega
    ·rw[zcP,<- hxl.1,zbG g2];refine (g5.append hx).fr hfr λx hx=>zcA ?_
     rintro rfl
     rw[zc9] at hx;exact hnd1.1 hx
  have fin:∀ F',F'=b ::(Fs++Gs).flatten->(∀ x∈F',x∈(b :: Fs.flatten)++Gs.flatten\/(h.length<=x/\x<h.length))/\F'.Nodup:=by
   rintro F' rfl
   rw[zc9];exact ⟨λx hx => .inl hx,by rw[zcE];exact hnd1⟩
  have Eg:∀ h0:Heap,h0.length=h.length->(∀ x,x≠b->h0[x]?=h[x]?)->Sli false R e El (h0 ++ [.rows R e false ((rs.drop i).take l.length++xs)]) [.sl R (some (h.length,0)) (l.length+ys.length) none] (l++ys) (h.length ::(Fs++Gs).flatten) /\
    (h.length ::(Fs++Gs).flatten).Nodup:=by
   intro h0 hl0 hx0;refine new _ Fs h0 (g5.fr hfr λx hx=>hx0 x ?_) (hx.fr hfr λx hx=>hx0 x ?_) hl0 hF1 (by rw[zc9];exact hnd1.2)
   ·rintro rfl;exact hnd1.1 (zdl _ hx)
   ·rintro rfl;exact hnd1.1 (zdZ _ hx)
  have mem:∀ x∈h.length ::(Fs++Gs).flatten,x∈(b :: Fs.flatten)++Gs.flatten\/(h.length<=x/\x<h.length+1):=by
   intro x hx;rw[zcD] at hx;rcases hx with rfl | hx
   ·exact .inr ⟨zcz _,by omega⟩
   ·rw[zc9] at hx;exact .inl (by rw[zde];exact zdu _ hx)
  cases c with
  | some c =>
   obtain ⟨k1,k2⟩:=g3 c rfl;by_cases hle:l.length+xs.length<=c
   ·obtain ⟨h',p1,p2,p3,p4⟩:=place (some c) (λk hk=>by injection hk with hk;subst hk;exact ⟨by omega,k2⟩) (λh=>by cases h) (by omega);obtain ⟨f1,f2⟩:=fin _ rfl;refine ⟨_,_,h',_,λK=>?_,p2,by omega,λx _ hx=>p4 x λe=>hx (by simp[e]),λx hx=>(f1 x hx).imp id λh=>by omega,f2⟩;rw[hA K];simp only[Xe,D2 hle,p1,Ad];rw[hxl.1]
   ·obtain ⟨p1,p2⟩:=Eg h rfl λ_ _=>rfl;refine ⟨_,_,_,_,λK=>?_,p1,by simp,λx hx _=>zcC hx,λx hx=>(mem x hx).imp id λh=>by simpa using h,p2⟩;rw[hA K];simp only[Xe,XS hle,hld,Ad];rw[hxl.1]
  | none =>
   have hi0:=g4 rfl;subst hi0;have hown:Heap.own? lo e h b=some rs:=by simp only[Heap.own?,g1,D2 hlob,IJ]
   by_cases hle:0+l.length+xs.length<=rs.length
   ·obtain ⟨h',p1,p2,p3,p4⟩:=place none (λk hk=>by cases hk) (λ_=>rfl) hle;obtain ⟨f1,f2⟩:=fin _ rfl;refine ⟨_,_,h',_,λK=>?_,p2,by omega,λx _ hx=>p4 x λe=>hx (by simp[e]),λx hx=>(f1 x hx).imp id λh=>by omega,f2⟩;rw[hA K];simp only[Xe,hown,Ad,D2 hle,p1];rw[hxl.1]
   ·obtain ⟨p1,p2⟩:=Eg (h.set b .dead) (by simp) λx hx=>zcA (Ne.symm hx);refine ⟨_,_,_,_,λK=>?_,p1,by simp,λx hx hxF=>?_,λx hx=>(mem x hx).imp id λh=>by simpa using h,p2⟩
    ·rw[hA K];simp only[Xe,hown,Ad,XS hle,IJ,CW,hld];rw[hxl.1]
    ·rw[zcC (by simpa using hx),zcA]
     rintro rfl;exact hxF (by simp)
theorem DR {lo:Nat}{h:Heap}{b r j e:Nat}{row row' cs:List V} (hb:h[b]?=some (.rows R e false rs)) (hl:lo<=b) (hr:rs[r]?=some row) (hp:paste row j cs=some row') :
  st lo h b r j cs=some (h.set b (.rows R e false (rs.set r row'))):=by
 simp only[st,hb,D2 hl,hr,hp,zc7]
theorem EG {y:Nat} (h:y∈(Fs.set k G).flatten):y∈Fs.flatten\/y∈G:=by
 rw[zd3] at h;obtain ⟨H,h1,h2⟩:=h;rcases zcZ h1 with h3 | rfl
 ·exact .inl (zd3.2 ⟨H,h3,h2⟩)
 ·exact .inr h2
theorem I0:∀ {Fs:List (List Nat)}{k:Nat}{G:List Nat},Fs.flatten.Nodup->G.Nodup->(∀ y∈G,y∈Fs.flatten->∃ H,Fs[k]?=some H/\y∈H)->(Fs.set k G).flatten.Nodup
 | [],k,G,h,_,_=>h
 | F :: Fs,0,G,h,hG,hd=>by
  simp only[List.set_cons_zero,zc1] at h hd ⊢;rw[zcy] at h ⊢;refine ⟨hG,h.2.1,λa ha b hb=>?_⟩
  rintro rfl
  obtain ⟨H,h1,h2⟩:=hd a ha (zdZ _ hb);simp at h1;subst h1;exact h.2.2 a h2 a hb rfl
 | F :: Fs,k+1,G,h,hG,hd=>by
  simp only[List.set_cons_succ,zc1] at h hd ⊢;rw[zcy] at h ⊢;have ih:=I0 (k:=k) h.2.1 hG λy hy hm=>by obtain ⟨H,h1,h2⟩:=hd y hy (zdZ _ hm);exact ⟨H,by simpa using h1,h2⟩
  refine ⟨h.1,ih,λa ha b hb=>?_⟩
  rintro rfl
  rcases EG hb with h1 | h1
  ·exact h.2.2 a ha a h1 rfl
  ·obtain ⟨H,h2,h3⟩:=hd a h1 (zdl _ ha);simp at h2;exact h.2.2 a ha a (zd3.2 ⟨H,zcL h2,h3⟩) rfl
theorem FS (h:Fs[k]?=some G) {y:Nat} (hy:y∈G):y∈Fs.flatten:=zd3.2 ⟨G,zcL h,hy⟩
theorem set_same {α:Type}:∀ {l:List α}{k:Nat}{x:α},l[k]?=some x->l.set k x=l
 | [],k,x,h=>rfl
 | y :: l,0,x,h=>by simp at h;subst h;rfl
 | y :: l,k+1,x,h=>by simp only[List.set_cons_succ];rw[set_same (by simpa using h)]
theorem Kg:∀ {Fs:List (List Nat)}{k y:Nat}{G G':List Nat},Fs.flatten.Nodup->Fs[k]?=some G->y∈(Fs.set k G').flatten->(y∈Fs.flatten/\y∉G)\/y∈G'
 | [],k,y,G,G',_,h,_=>by simp at h
 | F :: Fs,0,y,G,G',hn,h,hy=>by
  simp at h;subst h;simp only[List.set_cons_zero,zc1,zcx] at hn hy ⊢;rw[zcy] at hn;rcases hy with hy | hy
  ·exact .inr hy
  ·exact .inl ⟨.inr hy,λhm=>hn.2.2 y hm y hy rfl⟩
 | F :: Fs,k+1,y,G,G',hn,h,hy=>by
  simp only[List.set_cons_succ,zc1,zcx] at hn hy ⊢;rw[zcy] at hn;have h':Fs[k]?=some G:=by simpa using h
  rcases hy with hy | hy
  ·exact .inl ⟨.inl hy,λhm=>hn.2.2 y hy y (zd3.2 ⟨G,zcL h',hm⟩) rfl⟩
  ·rcases Kg hn.2.1 h' hy with h1 | h1
   ·exact .inl ⟨.inr h1.1,h1.2⟩
   ·exact .inr h1
theorem EAll.put {α:Type}{El:Rel α}{h h':Heap} (hfr:El.Fr):∀ {rows:List (List V)}{l:List α}{Fs:List (List Nat)},EAll El h rows l Fs->Fs.flatten.Nodup->∀ {k:Nat}{G:List Nat},Fs[k]?=some G ->
  (∀ y∈Fs.flatten,y∉G->h'[y]?=h[y]?)->∀ {row':List V}{x':α}{G':List Nat},El h' row' x' G'->EAll El h' (rows.set k row') (l.set k x') (Fs.set k G')
 | [],[],[],_,_,k,G,h,_,_,_,_,_=>by simp at h
 | r :: rs,x :: xs,F :: Fs,⟨h1,h2⟩,hn,0,G,hk,hb,row',x',G',he=>by simp at hk;subst hk;simp only[zc1,zcy] at hn;refine ⟨he,h2.fr hfr λy hy=>hb y (by simp only[zc1,zcx];exact .inr hy) λhm=>hn.2.2 y hm y hy rfl⟩
 | r :: rs,x :: xs,F :: Fs,⟨h1,h2⟩,hn,k+1,G,hk,hb,row',x',G',he=>by
  have hk':Fs[k]?=some G:=by simpa using hk
  simp only[zc1,zcy] at hn;refine ⟨hfr _ _ _ _ _ h1 λy hy=>hb y (by simp only[zc1,zcx];exact .inl hy) λhm=>hn.2.2 y hy y (zd3.2 ⟨G,zcL hk',hm⟩) rfl,?_⟩;exact EAll.put hfr h2 hn.2.1 hk' (λy hy=>hb y (by simp only[zc1,zcx];exact .inr hy)) he
 | [],[],_ :: _,h,_,_,_,_,_,_,_,_,_=>h.elim
 | [],_ :: _,_,h,_,_,_,_,_,_,_,_,_=>h.elim
 | _ :: _,[],_,h,_,_,_,_,_,_,_,_,_=>h.elim
 | _ :: _,_ :: _,[],h,_,_,_,_,_,_,_,_,_=>h.elim
theorem Sli.put {α:Type}{El:Rel α}{h:Heap}{R R' e n k:Nat}{a:Pq}{c:Nq}{l:List α}{F:List Nat} (hfr:El.Fr) (hs:Sli false R e El h [.sl R' a n c] l F) (hk:k<l.length) (hnd:F.Nodup) :
  ∃ b i rs row G,a=some (b,i)/\b∈F/\b∉G/\h[b]?=some (.rows R e false rs)/\rs[i+k]?=some row/\El h row l[k] G/\(∀ x∈G,x∈F)/\G.Nodup /\
   ∀ h' row' x' G',h'[b]?=some (.rows R e false (rs.set (i+k) row'))->(∀ y∈F,y≠b->y∉G->h'[y]?=h[y]?)->El h' row' x' G'->G'.Nodup->(∀ y∈G',y∈F->y∈G) ->
    ∃ F',Sli false R e El h' [.sl R' a n c] (l.set k x') F'/\(∀ y∈F',(y∈F/\y∉G)\/y∈G')/\F'.Nodup/\(G'=G->F'=F):=by
 have hn:=hs.val;subst hn;obtain ⟨R1,a1,c1,e1,e2⟩:=hs;injection e1 with e1 _;injection e1 with e0 e3 _ e4;subst e0;subst e3;subst e4;cases a with
 | none=>obtain ⟨rfl,_⟩:=e2;simp at hk
 | some p =>
  obtain ⟨b,i⟩:=p;obtain ⟨hR,rs,Fs,g1,g2,g3,g4,g5,rfl⟩:=e2;obtain ⟨row,G,k1,k2,k3⟩:=g5.get (Cz hk);rw[zcE] at hnd;have hGF:∀ x∈G,x∈Fs.flatten:=λx hx=>FS k2 hx;have hGn:G.Nodup:=hnd.2.sublist (List.sublist_flatten_of_mem (zcL k2));refine ⟨b,i,rs,row,G,rfl,by simp,λhm=>hnd.1 (hGF b hm),g1,?_,k3,λx hx=>zdu _ (hGF x hx),hGn,λh' row' x' G' h1 h2 h3 h4 h5=>?_⟩
  ·rw[zdU hk,zcX] at k1;exact k1
  ·have hl1:((rs.set (i+k) row').drop i).take l.length=((rs.drop i).take l.length).set k row':=by rw[List.drop_set,if_neg (by omega),show i+k - i=k by omega,List.take_set]
   have hG1:∀ y∈G',y∈Fs.flatten->∃ H,Fs[k]?=some H/\y∈H:=λy hy hm=>⟨G,k2,h5 y hy (zdu _ hm)⟩
   have hbG:b∉G':=λhm=>hnd.1 (hGF b (h5 b hm (by simp)));refine ⟨b ::(Fs.set k G').flatten,⟨R',some (b,i),c,by simp,hR,rs.set (i+k) row',Fs.set k G',h1,by simpa using g2,λq hq=>by simpa using g3 q hq,g4,?_,rfl⟩,λy hy=>?_,?_,λhG=>?_⟩
   ·rw[zc6,hl1];refine g5.put hfr hnd.2 k2 (λy hy hyG=>h2 y (zdu _ hy) (λe=>hnd.1 (e ▸ hy)) hyG) h3
   ·rw[zcD] at hy;rcases hy with rfl | hy
    ·exact .inl ⟨by simp,λhm=>hnd.1 (hGF _ hm)⟩
    ·rcases Kg hnd.2 k2 hy with h6 | h6
     ·exact .inl ⟨zdu _ h6.1,h6.2⟩
     ·exact .inr h6
   ·rw[zcE];refine ⟨λhm=>?_,I0 hnd.2 h4 hG1⟩;rcases EG hm with h6 | h6
    ·exact hnd.1 h6
    ·exact hbG h6
   ·rw[hG,set_same k2]


variable {T:Type}{c:Nq}{t:List Blk}{α:Type}{ro:Bool}{β:Type}{l:List α}{g:List β->α->Option β}{f:α->β}{h0:Heap}
structure Mv (h:Heap) (F:List Nat) (h':Heap) (F':List Nat):Prop where
 le:h.length<=h'.length
 fr:∀ b,b<h.length->b∉F->h'[b]?=h[b]?
 nd:F'.Nodup
 sub:∀ b∈F',b∈F\/(h.length<=b/\b<h'.length)
structure Rel.Ok {α:Type} (El:Rel α):Prop where
 fr:El.Fr
 bd:∀ (h:Heap) (cs:List V) (x:α) (F:List Nat),El h cs x F->∀ b∈F,b<h.length
section
variable {h h' h'':Heap}{F F' F'' G:List Nat}
theorem zbB {lo e R q b n:Nat}{x:List V}{xs:List (List V)}{h:Heap}{K:V->Heap->Option T}:Dd lo e R b (.sl q none n c) (x :: xs) h K=Dd lo e R b (.sl R none n c) (x :: xs) h K:=rfl
theorem Mv.refl (hn:F.Nodup):Mv h F h F:=⟨zcz _,λ_ _ _=>rfl,hn,λ_ hb => .inl hb⟩
theorem Mv.nil:Mv h [] h []:=Mv.refl (by simp)
theorem Mv.trans (a:Mv h F h' F') (b:Mv h' F' h'' F''):Mv h F h'' F'' :=
 ⟨zcw a.le b.le,λx hx hF=>by
  rw[b.fr x (zcI hx a.le) λhm=>(a.sub x hm).elim hF λh=>by omega,a.fr x hx hF],b.nd,λx hx=>by
  have h1:=a.le;have h2:=b.le;rcases b.sub x hx with h3 | h3
  ·rcases a.sub x h3 with h4 | h4
   ·exact .inl h4
   ·exact .inr (by omega)
  ·exact .inr (by omega)⟩
theorem Mv.drop (a:Mv h F h' F'):Mv h F h' []:=⟨a.le,a.fr,by simp,by simp⟩
theorem Mv.lean (a:Mv h F h' F') (hn:F''.Nodup) (hs:∀ b∈F'',b∈F'):Mv h F h' F'':=⟨a.le,a.fr,hn,λb hb=>a.sub b (hs b hb)⟩
theorem Mv.wide (a:Mv h F h' F') (hs:∀ b∈F,b∈G):Mv h G h' F':=⟨a.le,λb hb hG=>a.fr b hb λhm=>hG (hs b hm),a.nd,λb hb=>(a.sub b hb).imp (hs b) id⟩
theorem Mv.snoc:Mv h [] (h++t) []:=⟨by simp,λb hb _=>zcC hb,by simp,by simp⟩
theorem Mv.snoc' (hn:F.Nodup):Mv h F (h++t) F:=⟨by simp,λb hb _=>zcC hb,hn,λb hb => .inl hb⟩
theorem Mv.last {b:Blk}:Mv h [] (h ++ [b]) [h.length]:=⟨by simp,λb hb _=>zcC hb,by simp,λx hx => .inr (by simp at hx;subst hx;simp)⟩
theorem Mv.join (a:Mv h F h' F') (b:Mv h' [] h'' F'') (hb:∀ x∈F',x<h'.length):Mv h F h'' (F'++F'') :=
 ⟨zcw a.le b.le,λx hx hF=>by rw[b.fr x (zcI hx a.le) (by simp),a.fr x hx hF],by
  rw[zcy];refine ⟨a.nd,b.nd,λx hx y hy=>?_⟩
  rintro rfl
  have h1:=hb x hx;rcases b.sub x hy with h2 | h2
  ·simp at h2
  ·omega,λx hx=>by
  have h1:=a.le;have h2:=b.le;rw[zcx] at hx;rcases hx with hx | hx
  ·rcases a.sub x hx with h3 | h3
   ·exact .inl h3
   ·exact .inr (by omega)
  ·rcases b.sub x hx with h3 | h3
   ·simp at h3
   ·exact .inr (by omega)⟩
theorem Mv.aside (a:Mv h F h' F') (hn:(F++G).Nodup) (hG:∀ b∈G,b<h.length):Mv h (F++G) h' (F'++G):=by
 rw[zcy] at hn;refine ⟨a.le,λb hb hF=>a.fr b hb λhm=>hF (zdl _ hm),?_,λb hb=>?_⟩
 ·rw[zcy];refine ⟨a.nd,hn.2.1,λx hx y hy=>?_⟩
  rintro rfl
  rcases a.sub x hx with h2 | h2
  ·exact hn.2.2 x h2 x hy rfl
  ·have:=hG x hy;omega
 ·rw[zcx] at hb ⊢;rcases hb with hb | hb
  ·exact (a.sub b hb).imp .inl id
  ·exact .inl (.inr hb)
theorem Mv.lt (a:Mv h F h' F') (hF:∀ b∈F,b<h.length):∀ b∈F',b<h'.length:=λb hb=>by
 have:=a.le;rcases a.sub b hb with h1 | h1
 ·have:=hF b h1;omega
 ·exact h1.2
theorem Mv.ge {lo:Nat} (a:Mv h F h' F') (hl:lo<=h.length) (hF:∀ b∈F,lo<=b):∀ b∈F',lo<=b:=λb hb=>by
 rcases a.sub b hb with h1 | h1
 ·exact hF b h1
 ·omega
theorem Mv.new (a:Mv h [] h' F'):∀ b∈F',h.length<=b:=λb hb=>by
 rcases a.sub b hb with h1 | h1
 ·simp at h1
 ·exact h1.1
theorem Mv.keep {El:Rel α}{cs:List V}{x:α} (a:Mv h F h' F') (ok:El.Ok) (he:El h cs x G) (hd:∀ b∈G,b∉F):El h' cs x G :=
 ok.fr _ _ _ _ _ he λb hb=>a.fr b (ok.bd _ _ _ _ he b hb) (hd b hb)
theorem Mv.keep0 {El:Rel α}{cs:List V}{x:α} (a:Mv h [] h' F') (ok:El.Ok) (he:El h cs x G):El h' cs x G:=a.keep ok he (by simp)
end
theorem A9 {R:Type}{sz e:Nat}{h:Heap}{row:List V}{K:List (List V)->Option R}:Au sz (h ++ [.rows sz e ro [row]]) (.sl sz (some (h.length,0)) 1 c) K=K [row]:=by simp[Au,Et,NX,Bd]
theorem Sli.same {El:Rel α}{El':Rel β}{R e e' n:Nat}{h h':Heap}{v:V}{l':List β}{F F':List Nat}{a:Pq} (h0:Sli false R e El h [v] l F)
  (es:∀ {R':Type} (K:Pq->Nat->Nq->Option R'),eS R v K=K a n c) (h1:Sli false R e' El' h' [.sl R a n c] l' F'):Sli false R e' El' h' [v] l' F':=by
 obtain ⟨R0,a0,c0,e0,g0⟩:=h0;injection e0 with e0 _;subst e0;have hk:=es (λa n c=>some (a,n,c));have hn:=h1.val;obtain ⟨R1,a1,c1,e1,g1⟩:=h1;injection e1 with e1 _;injection e1 with _ x1 _ x3;subst x1;subst x3;cases a0 with
 | none =>simp only[eS,Option.some.injEq,Prod.mk.injEq] at hk;obtain ⟨rfl,h2,rfl⟩:=hk;exact ⟨R0,none,c0,by rw[h2,hn],g1⟩
 | some p =>obtain ⟨rfl,_⟩:=g0;rw[Af] at hk;simp only[Option.some.injEq,Prod.mk.injEq] at hk;obtain ⟨rfl,h2,rfl⟩:=hk;obtain ⟨b,i⟩:=p;exact ⟨R0,some (b,i),c0,by rw[h2,hn],rfl,g1.2⟩
theorem DN {cs:α->List V}:(flat cs).Ok:=⟨TW,λh c x F he b hb=>by rw[he.2] at hb;simp at hb⟩
theorem EAll.bd {α:Type}{El:Rel α}{h:Heap} (ok:El.Ok):∀ {rows:List (List V)}{l:List α}{Fs:List (List Nat)},EAll El h rows l Fs->∀ b∈Fs.flatten,b<h.length
 | [],[],[],_,b,hb=>by simp at hb
 | r :: rs,x :: xs,F :: Fs,⟨h1,h2⟩,b,hb=>by
  rw[zc1,zcx] at hb;rcases hb with hb | hb
  ·exact ok.bd _ _ _ _ h1 b hb
  ·exact EAll.bd ok h2 b hb
 | [],[],_ :: _,h,_,_=>h.elim
 | [],_ :: _,_,h,_,_=>h.elim
 | _ :: _,[],_,h,_,_=>h.elim
 | _ :: _,_ :: _,[],h,_,_=>h.elim
theorem Sli.ok {α:Type}{El:Rel α}{ro:Bool}{R e:Nat} (ok:El.Ok):(Sli ro R e El).Ok:=by
 refine ⟨Sli.fr ok.fr,?_⟩
 rintro h cs l F ⟨R',a,c,h1,h2⟩ b hb
 cases ro with
 | true =>
  obtain ⟨_,⟨_,rfl⟩ | ⟨b',i,rs,Fs,g0,g1,g2,g5,rfl⟩⟩:=h2
  ·simp at hb
  ·rw[zcD] at hb;rcases hb with rfl | hb
   ·apply zd2;intro hle;unfold Heap.rows? at g1;rw[zdg hle] at g1;cases g1
   ·exact g5.bd ok b hb
 | false =>
 cases a with
 | none=>obtain ⟨_,_,rfl⟩:=h2;simp at hb
 | some p =>
  obtain ⟨b',i⟩:=p;obtain ⟨hR,rs,Fs,g1,g2,g3,g4,g5,rfl⟩:=h2;rw[zcD] at hb;rcases hb with rfl | hb
  ·exact (Ea g1).1
  ·exact g5.bd ok b hb
def Eg {α β:Type} (g:List β->α->Option β):List β->List α->List β
 | acc,[]=>acc
 | acc,x :: xs=>Eg g (acc++(g acc x).toList) xs
theorem Ta {α β:Type}{g:List β->α->Option β}:∀ {acc:List β}{l:List α}{x:α},Eg g acc (l ++ [x])=Eg g acc l++(g (Eg g acc l) x).toList
 | acc,[],x=>rfl
 | acc,y :: l,x=>by simp only[zde,Eg];exact Ta
theorem S9 {acc:List β}{i:Nat} (hi:i<l.length):Eg g acc (l.take (i+1))=Eg g acc (l.take i)++(g (Eg g acc (l.take i)) l[i]).toList:=by rw[List.take_add_one,Cz hi];exact Ta
theorem Vs {α β:Type}{g:List β->α->Option β}:∀ {acc:List β}{l:List α},(Eg g acc l).length<=acc.length+l.length
 | acc,[]=>by simp[Eg]
 | acc,x :: l=>by
  have:=Vs (g:=g) (acc:=acc++(g acc x).toList) (l:=l);have h2:(g acc x).toList.length<=1:=by cases g acc x<;>simp
  simp only[Eg,zdA,zcP] at this ⊢;omega
theorem Ng {α β:Type}{f:α->β}:∀ {acc:List β}{l:List α},Eg (λ_ x=>some (f x)) acc l=acc++l.map f
 | acc,[]=>by simp[Eg]
 | acc,x :: l=>by simp only[Eg,List.map_cons];rw[Ng];simp
theorem Md {El:Rel β} (ok:El.Ok) {lo R e bytes:Nat}{b0:List β}{F0:List Nat}{a0:Pq}{c0:Nq}
  (hlo:lo<=h0.length) (hF:∀ b∈F0,lo<=b) (hnd:F0.Nodup) (hb:0<bytes) (hsz:(b0.length+l.length)*bytes<=140737488355328)
  (L:Nat->Pq->Nat->Nq->Heap->Option T)
  (step:∀ i (hi:i<l.length) a c hh F acc,(i=0->a=a0/\c=c0)->acc=Eg g b0 (l.take i)->Mv h0 F0 hh F->Sli false R e El hh [.sl R a acc.length c] acc F ->
   (g acc l[i]=none/\∃ h2,Mv hh [] h2 []/\L i a acc.length c hh=L (i+1) a acc.length c h2) \/
   (∃ y row G h2,g acc l[i]=some y/\El h2 row y G/\Mv hh [] h2 G/\L i a acc.length c hh=Dd lo e R bytes (.sl R a acc.length c) [row] h2 λv h=>eS R v λa n c=>L (i+1) a n c h))
  (hs:Sli false R e El h0 [.sl R a0 b0.length c0] b0 F0) :
  ∃ a c h' F',L 0 a0 b0.length c0 h0=L l.length a (Eg g b0 l).length c h'/\Sli false R e El h' [.sl R a (Eg g b0 l).length c] (Eg g b0 l) F'/\Mv h0 F0 h' F':=by
 have loop:∀ m i a c hh F,m+i=l.length->(i=0->a=a0/\c=c0)->Mv h0 F0 hh F->Sli false R e El hh [.sl R a (Eg g b0 (l.take i)).length c] (Eg g b0 (l.take i)) F ->
   ∃ a' c' h' F',L i a (Eg g b0 (l.take i)).length c hh=L l.length a' (Eg g b0 l).length c' h'/\Sli false R e El h' [.sl R a' (Eg g b0 l).length c'] (Eg g b0 l) F'/\Mv h0 F0 h' F':=by
  intro m;induction m with
  | zero =>
   intro i a c hh F hi hz hm hr;have:i=l.length:=by omega
   subst this;rw[List.take_length] at hr ⊢;exact ⟨a,c,hh,F,rfl,hr,hm⟩
  | succ m ih =>
   intro i a c hh F hi hz hm hr;have hlt:i<l.length:=by omega
   rcases step i hlt a c hh F _ hz rfl hm hr with ⟨hg,h2,m2,e2⟩ | ⟨y,row,G,h2,hg,hy,m2,e2⟩
   ·have ht:Eg g b0 (l.take (i+1))=Eg g b0 (l.take i):=by rw[S9 hlt,hg];simp
    rw[e2,<- ht];refine ih (i+1) a c h2 F (by omega) (λh=>by omega) ?_ (by rw[ht];exact m2.keep0 (Sli.ok ok) hr);refine hm.trans ⟨m2.le,λb hb hF=>m2.fr b hb (by simp),hm.nd,λb hb => .inl hb⟩
   ·have ht:Eg g b0 (l.take (i+1))=Eg g b0 (l.take i) ++ [y]:=by rw[S9 hlt,hg];simp
    have hbd:=(Sli.ok ok).bd _ _ _ _ hr;have hr2:=m2.keep0 (Sli.ok ok) hr;have hlen:(Eg g b0 (l.take i)).length<=b0.length+i:=zcw Vs (by simp;omega);have hnn:F.Nodup:=hm.nd;obtain ⟨a',c',h',F',p1,p2,p3,p4,p5,p6⟩:=Sli.push (lo:=lo) (bytes:=bytes) ok.fr hr2 (xs := [row]) (ys := [y]) (Gs := [G]) ⟨hy,trivial⟩ hb
     (zcw (zc4 _ (by simp;omega)) hsz) (hm.ge hlo hF) (by have:=hm.le;have:=m2.le;omega)
     (by
      rw[zcy];refine ⟨hnn,by simpa using m2.nd,λx hx y hy=>?_⟩
      rintro rfl
      have h1:=hbd x hx;have h2:=m2.new x (by simpa using hy);omega)
     (λb hb'=>by
      have h1:=m2.le;rw[zcx] at hb';rcases hb' with hb' | hb'
      ·have:=hbd b hb';omega
      ·exact m2.lt (by simp) b (by simpa using hb')) (by simp)
    rw[e2,p1];simp only[Af,zdp];have hl2:(Eg g b0 (l.take i)).length+1=(Eg g b0 (l.take (i+1))).length:=by rw[ht];simp
    rw[hl2];rw[zdp,hl2,<- ht] at p2;refine ih (i+1) a' c' h' F' (by omega) (λh=>by omega) (hm.trans ⟨zcw m2.le p3,λb hb' hF'=>?_,p6,λb hb'=>?_⟩) p2
    ·rw[p4 b (zcI hb' m2.le) hF',m2.fr b hb' (by simp)]
    ·have h1:=m2.le;rcases p5 b hb' with h3 | h3
     ·rw[zcx] at h3;rcases h3 with h3 | h3
      ·exact .inl h3
      ·have h4:=m2.new b (by simpa using h3);have h5:=m2.lt (by simp) b (by simpa using h3);exact .inr (by omega)
     ·exact .inr (by omega)
 obtain ⟨a',c',h',F',q1,q2⟩:=loop l.length 0 a0 c0 h0 F0 (by omega) (λ_=>⟨rfl,rfl⟩) (Mv.refl hnd) (by simpa [Eg] using hs);refine ⟨a',c',h',F',?_,q2⟩;simpa [Eg] using q1
theorem IB {El:Rel β} (ok:El.Ok) {h:Heap}{lo R e bytes:Nat} (hl:lo<=h.length) (hb:0<bytes) (hsz:l.length*bytes<=140737488355328)
  (L:Nat->Nat->Pq->Nat->Nq->Heap->Option T)
  (step:∀ i (hi:i<l.length) q a n c hh,Mv h [] hh []->∃ row G h2,El h2 row (f l[i]) G/\Mv hh [] h2 G/\L i q a n c hh=Dd lo e R bytes (.sl q a n c) [row] h2 λv h=>eS R v λa n c=>L (i+1) R a n c h) :
  ∃ q a' c' h' F',L 0 0 none 0 (some 0) h=L l.length q a' l.length c' h'/\Sli false R e El h' [.sl q a' l.length c'] (l.map f) F'/\Mv h [] h' F':=by
 by_cases he:l = []
 ·subst he;exact ⟨0,none,some 0,h,[],rfl,Sli.nil,Mv.nil⟩
 have hpos:0<l.length:=List.length_pos_iff.2 he;obtain ⟨a',c',h',F',q1,q2,q3⟩:=Md (El:=El) ok (h0:=h) (l:=l) (g:=λ_ x=>some (f x)) (lo:=lo) (R:=R) (e:=e) (bytes:=bytes) (b0 := []) (F0 := []) (a0:=none) (c0:=some 0) hl (by simp) (by simp) hb (by simpa using hsz)
  (λi a n c hh=>L i (if i=0 then 0 else R) a n c hh) (λi hi a c hh F acc hz hacc hm hr=>by
   obtain ⟨row,G,h2,r2,m2,e2⟩:=step i hi (if i=0 then 0 else R) a acc.length c hh hm.drop;refine .inr ⟨f l[i],row,G,h2,rfl,r2,m2,?_⟩;rw[e2];by_cases h0:i=0
   ·obtain ⟨rfl,rfl⟩:=hz h0;rw[zbB (R:=R)];rfl
   ·rw[if_neg h0];rfl) Sli.nil
 rw[Ng,zc3] at q1 q2;rw[zdQ] at q1 q2;refine ⟨R,a',c',h',F',?_,q2,q3⟩;have:=q1;simp only[if_neg (show l.length≠0 by omega)] at this;exact this
theorem Gh:∀ {row cs:List V},row.length=cs.length->paste row 0 cs=some cs
 | [],[],_=>rfl
 | [],_ :: _,h=>by simp at h
 | _ :: _,[],h=>by simp at h
 | x :: row,y :: cs,h=>by simp only[paste];rw[Gh (by simpa using h)]
theorem YO {El:Rel β} (ok:El.Ok) {lo R e:Nat}{z:List V} (hz:z.length=R) (hlo:lo<=h0.length)
  (L:Nat->Heap->Option T)
  (step:∀ i (hi:i<l.length) hh,Mv h0 [] hh []->∃ row G h2,El h2 row (f l[i]) G/\Mv hh [] h2 G/\row.length=R/\L i hh=eO (st lo h2 h0.length i 0 row) λh3=>L (i+1) h3) :
  ∃ h' F',L 0 (h0 ++ [.rows R e false (List.replicate l.length z)])=L l.length h'/\Sli false R e El h' [.sl R (some (h0.length,0)) l.length (some l.length)] (l.map f) F'/\Mv h0 [] h' F':=by
 have loop:∀ m i hh rows Fs,m+i=l.length->hh[h0.length]?=some (.rows R e false (rows++List.replicate m z))->EAll El hh rows ((l.take i).map f) Fs->Mv h0 [] hh (h0.length :: Fs.flatten) ->
   ∃ h' F',L i hh=L l.length h'/\Sli false R e El h' [.sl R (some (h0.length,0)) l.length (some l.length)] (l.map f) F'/\Mv h0 [] h' F':=by
  intro m;induction m with
  | zero =>
   intro i hh rows Fs hi hb he hm;have:i=l.length:=by omega
   subst this;rw[List.take_length] at he;refine ⟨hh,h0.length :: Fs.flatten,rfl,⟨R,some (h0.length,0),some l.length,by simp,rfl,rows,Fs,by simpa using hb,?_,λk hk=>?_,λh=>(by cases h),?_,rfl⟩,hm⟩
   ·have:=he.len.1;simp at this ⊢;omega
   ·injection hk with hk;subst hk;have:=he.len.1;simp at this ⊢;omega
   ·have:=he.len.1;rw[zdt,zc0 (by omega)];exact he
  | succ m ih =>
   intro i hh rows Fs hi hb he hm;have hlt:i<l.length:=by omega
   have hbl:h0.length<hh.length:=(Ea hb).1;obtain ⟨row,G,h2,hy,m2,hrl,e2⟩:=step i hlt hh hm.drop;have hrows:rows.length=i:=by have:=he.len.1;simp at this;omega
   have hb2:h2[h0.length]?=some (.rows R e false (rows++List.replicate (m+1) z)):=by rw[m2.fr _ hbl (by simp)];exact hb
   have hbl2:h0.length<h2.length:=(Ea hb2).1;have hri:(rows++List.replicate (m+1) z)[i]?=some z:=by rw[zcU (by omega),hrows];simp
   have hset:(rows++List.replicate (m+1) z).set i row=(rows ++ [row])++List.replicate m z:=by rw[zdR _ _ (by omega),hrows,zd6,List.replicate_succ,List.set_cons_zero,zcO,List.singleton_append]
   rw[e2,DR hb2 hlo hri (Gh (by rw[hz,hrl])),Ad,hset];have hFb:=he.bd ok;have hFn:h0.length∉Fs.flatten:=(zcE.1 hm.nd).1;have hGn:h0.length∉G:=λhg=>by have:=m2.new _ hg;omega
   have frame:∀ b,b≠h0.length->(h2.set h0.length (.rows R e false ((rows ++ [row])++List.replicate m z)))[b]?=h2[b]?:=λb hb=>zcA (Ne.symm hb);refine ih (i+1) _ (rows ++ [row]) (Fs ++ [G]) (by omega) (by simp[hbl2]) ?_ ?_
   ·rw[List.take_add_one,Cz hlt,List.map_append];refine EAll.append (he.fr ok.fr λb hb=>?_) ⟨ok.fr _ _ _ _ _ hy λb hb=>frame b λe=>hGn (e ▸ hb),trivial⟩;rw[frame b λe=>hFn (e ▸ hb)];exact m2.fr b (hFb b hb) (by simp)
   ·have hj:=hm.join m2 (λx hx=>by
     rw[zcD] at hx;rcases hx with rfl | hx
     ·exact hbl
     ·exact hFb x hx)
    rw[zde] at hj;refine ⟨by simpa using hj.le,λb hb hF=>?_,by simpa using hj.nd,λb hb=>by simpa using hj.sub b (by simpa using hb)⟩;rw[frame b (by omega)];exact hj.fr b hb hF
 exact loop l.length 0 _ [] [] (by omega) (by simp) (by simp[EAll]) (by simpa using Mv.last)
end Go.Proofs.YtmdgiekbejjjgaaGreat
