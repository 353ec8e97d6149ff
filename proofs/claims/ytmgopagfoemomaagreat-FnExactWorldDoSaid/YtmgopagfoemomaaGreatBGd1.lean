/- Part 1 of what is shown for the law Gd, whatever the input; no condition of its own. -/
import Derived.Test.YtmgopagfoemomaaGreatBGd0
set_option linter.unusedVariables false
set_option linter.unusedSimpArgs false
set_option linter.unnecessarySimpa false
set_option maxRecDepth 100000
namespace Go.Proofs.YtmgopagfoemomaaGreat.T
open Go
variable {v:V}{σ1:St}{x:Operand}
section
variable {R:Type}{X:Ctx}{lo lo':Nat}{d:Option Nat}{ty:TypeId}{o:Op}{s s':List (Nat×V)}{bx bx':List (Nat×List V)}{h h':Heap}{K:V->St->Option R}
theorem Nd:∀ {xs:List Operand},(∀ x∈xs,ev s' x=ev s x)->PJ s' xs=PJ s xs
 | [],_=>rfl
 | x :: xs,hx=>by simp only[PJ];rw[hx x (by simp),Nd λy hy=>hx y (by simp[hy])]
theorem Qa:∀ {xs:List (Nat×Operand)},(∀ x∈xs,ev s' x.2=ev s x.2)->V8 s' xs=V8 s xs
 | [],_=>rfl
 | (i,x) :: xs,hx=>by simp only[V8];rw[hx (i,x) (by simp),Qa λy hy=>hx y (by simp[hy])]
theorem Qb {x:Option Operand} (hx:∀ y∈x.toList,ev s' y=ev s y):zdP s' x=zdP s x:=by
 cases x with
 | none=>rfl
 | some x=>simp only[zdP];rw[hx x (by simp)]
theorem zbL (hx:∀ x∈o.operands.toList,ev s' x=ev s x):opT X lo d ty o ⟨s',bx,h⟩ K=opT X lo d ty o ⟨s,bx,h⟩ λv σ=>K v ⟨s',σ.bx,σ.h⟩:=by
 cases o<;>simp only[Op.operands] at hx<;>simp only[opT]
 case move x=>rw[hx x (by simp)]
 case assign x=>rw[hx x (by simp)]
 case pick c x y=>rw[hx c (by simp),hx x (by simp),hx y (by simp)]
 case box e x=>rw[hx x (by simp)]
 case build t ps=>rw[Qa λx hm=>hx x.2 (by simp;exact ⟨x.1,by simpa using hm⟩)]
 case buildSlice t n ps=>rw[Qa λx hm=>hx x.2 (by simp;exact ⟨x.1,by simpa using hm⟩)]
 case load t x=>rw[hx x (by simp)]
 case store t x y=>rw[hx x (by simp),hx y (by simp)]
 case nilCheck x=>rw[hx x (by simp)]
 case binOp op t x y u=>rw[hx x (by simp),hx y (by simp)]
 case unOp op t x=>rw[hx x (by simp)]
 case convert u t x=>rw[hx x (by simp)]
 case makeFunc f fs cs =>
  have h2:PJ s' fs.toList=PJ s fs.toList:=Nd λx hm=>hx x (by simp at hm ⊢;exact .inl hm);rw[Nd (xs:=cs.toList) λx hm=>hx x (by simp at hm ⊢;exact .inr hm)];cases hfs:fs.toList with
  | nil=>cases f<;>rfl
  | cons x xs=>rw[hfs] at h2;cases f<;>simp only[h2]
 case makeSlice t l c=>rw[hx l (by simp),hx c (by simp)]
 case slice t x l hi m =>rw[hx x (by simp),Qb (x:=l) λy hy=>hx y (by simp at hy ⊢;simp[hy]),Qb (x:=hi) λy hy=>hx y (by simp at hy ⊢;simp[hy]),Qb (x:=m) λy hy=>hx y (by simp at hy ⊢;simp[hy])]
 case fieldAddr t x f=>rw[hx x (by simp)]
 case field t x f=>rw[hx x (by simp)]
 case indexAddr t x i=>rw[hx x (by simp),hx i (by simp)]
 case index t x i=>rw[hx x (by simp),hx i (by simp)]
 case lookup t m i ok=>rw[hx m (by simp),hx i (by simp)]
 case mapUpdate t m i x=>rw[hx m (by simp),hx i (by simp),hx x (by simp)]
 case insert t m i x=>rw[hx m (by simp),hx i (by simp),hx x (by simp)]
 case extract x i=>rw[hx x (by simp)]
 case call c =>
  have h1:PJ s' c.args.toList=PJ s c.args.toList:=Nd λx hm=>hx x (by simp[Call.operands] at hm ⊢;simp[hm]);rw[h1];split
  ·split
   ·rename_i f hc
    rw[hx f (by simp[Call.operands,hc])]
   ·rfl
   ·rfl
  ·rfl
theorem Js (hx:∀ x∈o.operands.toList,ev s' x=ev s x) (hs:AS X lo d ty o ⟨s,bx,h⟩=some (v,σ1)):AS X lo d ty o ⟨s',bx,h⟩=some (v,⟨s',σ1.bx,σ1.h⟩):=by unfold AS at hs ⊢;rw[zbL hx,JP];unfold AS;rw[hs];rfl
theorem OA (hs:AS X lo d ty o ⟨s,bx,h⟩=some (v,σ1)):σ1.s=s:=by have:=Js (λx _=>rfl) hs;rw[hs] at this;injection this with this;injection this with _ this;rw[this]
theorem zbM (hw:X.wide=false) {o:Oper} (hi:FD o=true):opT X lo d ty o.op ⟨s,bx,h⟩ K=opT X lo' d ty o.op ⟨s,bx',h'⟩ λv _=>K v ⟨s,bx,h⟩:=by
 obtain ⟨dst,op,ty',pos,after,guard⟩:=o;cases op<;>simp only[FD] at hi<;>(try cases hi)<;>simp only[opT,hw,Kg]
 rename_i c
 split at hi;all_goals (try cases hi)
 all_goals (rename_i hc;rw[hc];split<;>simp only[zaD])
theorem Si (hw:X.wide=false) {o:Oper} (hi:FD o=true) (hs:AS X lo d ty o.op ⟨s,bx,h⟩=some (v,σ1)):σ1.bx=bx/\σ1.h=h/\∀ lo' bx' h',AS X lo' d ty o.op ⟨s,bx',h'⟩=some (v,⟨s,bx',h'⟩):=by
 have key:∀ lo' bx' h',AS X lo' d ty o.op ⟨s,bx',h'⟩=some (v,⟨s,bx',h'⟩):=by intro lo' bx' h';unfold AS at hs ⊢;rw[zbM hw (lo':=lo) (bx':=bx) (h':=h) hi,JP];unfold AS;rw[hs];rfl
 have:=key lo bx h;rw[hs] at this;injection this with this;injection this with _ this;exact ⟨by rw[this],by rw[this],key⟩
theorem VA {t:TypeId} (hs:AS X lo d ty (.load t x) ⟨s,bx,h⟩=some (v,σ1)):σ1.s=s/\σ1.bx=bx/\σ1.h=h:=by
 unfold AS at hs;simp only[opT] at hs;split at hs
 ·cases hs
 ·split at hs
  ·split at hs
   ·obtain ⟨cs,_,hs⟩:=AU hs;obtain ⟨y,_,hs⟩:=AU hs;simp only[Option.some.injEq,Prod.mk.injEq] at hs;obtain ⟨_,rfl⟩:=hs;exact ⟨rfl,rfl,rfl⟩
   ·cases hs
  ·have key:opT X lo d ty (.load t x) ⟨s,bx,h⟩ (λv σ=>some (v,σ))=opT X lo d ty (.load t x) ⟨s,bx,h⟩ λv _=>some (v,⟨s,bx,h⟩):=by simp only[opT]
   have hs2:opT X lo d ty (.load t x) ⟨s,bx,h⟩ (λv σ=>some (v,σ))=some (v,σ1):=by simp only[opT];simp_all
   rw[key,JP] at hs2;obtain ⟨p,_,hp⟩:=zgK.1 hs2;simp only[Option.some.injEq,Prod.mk.injEq] at hp;obtain ⟨_,rfl⟩:=hp;exact ⟨rfl,rfl,rfl⟩
  ·cases hs
theorem zdX {t:TypeId}{u j:Nat} (hx:ev s x = .lp u j) (hs:AS X lo d ty (.load t x) ⟨s,bx,h⟩=some (v,σ1)):∃ row,AI bx u=some row /\
  ∀ lo' bx' h',AI bx' u=some row->AS X lo' d ty (.load t x) ⟨s,bx',h'⟩=some (v,⟨s,bx',h'⟩):=by
 unfold AS at hs;simp only[opT,hx] at hs;split at hs
 ·cases hs
 ·rename_i hk
  split at hs
  ·rename_i row hrow
   refine ⟨row,hrow,λlo' bx' h' hb=>?_⟩;unfold AS;simp only[opT,hx,hk,hb];obtain ⟨cs,h1,hs⟩:=AU hs;obtain ⟨y,h2,hs⟩:=AU hs;simp only[Option.some.injEq,Prod.mk.injEq] at hs;obtain ⟨rfl,_⟩:=hs;simp only[h1,h2,eO]
  ·cases hs
theorem zbS {t:TypeId} (hs:AS X lo d ty (.load t x) ⟨s,bx,h⟩=some (v,σ1)):(∃ u j,ev s x = .lp u j)\/∃ b i j,ev s x = .ptr (some (b,i,j)):=by
 unfold AS at hs;simp only[opT] at hs;split at hs
 ·cases hs
 ·split at hs
  ·rename_i u j he
   exact .inl ⟨u,j,he⟩
  ·rename_i p he
   obtain ⟨q,rfl,_⟩:=AU hs;obtain ⟨b,i,j⟩:=q;exact .inr ⟨b,i,j,he⟩
  ·cases hs
theorem zcF {t:TypeId}{b i j:Nat} (hx:ev s x = .ptr (some (b,i,j))) (hs:AS X lo d ty (.load t x) ⟨s,bx,h⟩=some (v,σ1)):∃ cs,ld h b i j (X.ty t).size=some cs /\
  ∀ lo' bx' h',ld h' b i j (X.ty t).size=some cs->AS X lo' d ty (.load t x) ⟨s,bx',h'⟩=some (v,⟨s,bx',h'⟩):=by
 unfold AS at hs;simp only[opT,hx] at hs;split at hs
 ·cases hs
 ·rename_i hk
  obtain ⟨q,hq,hs⟩:=AU hs;injection hq with hq;subst hq;obtain ⟨cs,h1,hs⟩:=AU hs;refine ⟨cs,h1,λlo' bx' h' hb=>?_⟩;have key:∀ σ:St,KQ (X.ty t).agg (X.ty t).sh cs (λv=>some (v,σ))=(KQ (X.ty t).agg (X.ty t).sh cs some).bind λv=>some (v,σ):=λσ=>by rw[Rj];rfl
  unfold AS;simp only[opT,hx,hk,eO,hb];rw[key] at hs ⊢;obtain ⟨y,h2,hs⟩:=zgK.1 hs;simp only[Option.some.injEq,Prod.mk.injEq] at hs;obtain ⟨rfl,_⟩:=hs;rw[h2];rfl
theorem KF {t:TypeId}{y z:Operand}{u j:Nat} (hy:ev s y = .lp u j) (hs:AS X lo d ty (.store t y z) ⟨s,bx,h⟩=some (v,σ1)):σ1.h=h/\∃ row,σ1.bx=ZT bx u row:=by
 unfold AS at hs;simp only[opT,hy] at hs;split at hs
 ·split at hs
  ·split at hs
   ·split at hs
    ·simp only[Option.some.injEq,Prod.mk.injEq] at hs;obtain ⟨_,rfl⟩:=hs;exact ⟨rfl,_,rfl⟩
    ·cases hs
   ·cases hs
  ·cases hs
 ·cases hs
theorem Mc {t:TypeId}{y z:Operand}{q:Option (Nat×Nat×Nat)} (hy:ev s y = .ptr q) (hs:AS X lo d ty (.store t y z) ⟨s,bx,h⟩=some (v,σ1)):σ1.bx=bx:=by
 unfold AS at hs;simp only[opT,hy] at hs;split at hs
 ·split at hs
  ·obtain ⟨q,_,hs⟩:=AU hs;obtain ⟨b,i,j⟩:=q;obtain ⟨h',_,hs⟩:=AU hs;simp only[Option.some.injEq,Prod.mk.injEq] at hs;obtain ⟨_,rfl⟩:=hs;rfl
  ·cases hs
 ·cases hs
def Zr:Op->Bool
 | .alloc _ | .box _ _ | .store _ _ _=>true
 | _=>false
theorem zeU (hb:Zr o=false):opT X lo d ty o ⟨s,bx,h⟩ K=opT X lo d ty o ⟨s,bx,h⟩ λv σ=>K v ⟨σ.s,bx,σ.h⟩:=by cases o<;>simp only[Zr] at hb<;>(try cases hb)<;>simp only[opT]
theorem zdY (hb:Zr o=false) (hs:AS X lo d ty o ⟨s,bx,h⟩=some (v,σ1)):σ1.bx=bx:=by
 have:AS X lo d ty o ⟨s,bx,h⟩=some (v,⟨σ1.s,bx,σ1.h⟩):=by have h2:=hs;unfold AS at h2 ⊢;rw[zeU hb,JP];unfold AS;rw[h2];rfl
 rw[hs] at this;injection this with this;injection this with _ this;rw[this]
theorem Oz (hs:AS X lo d ty o ⟨s,bx,h⟩=some (v,σ1)) :
  σ1.bx=bx\/(∃ t row,AI bx t=none/\σ1.bx=(t,row) :: bx)\/((∃ t x y,o = .store t x y)/\∃ u row,σ1.bx=ZT bx u row):=by
 cases hb:Zr o with
 | false=>exact .inl (zdY hb hs)
 | true =>
  unfold AS at hs;cases o<;>simp only[Zr] at hb<;>(try cases hb)<;>simp only[opT] at hs
  ·split at hs
   ·cases hs
   ·cases hs
   ·split at hs
    ·simp only[Option.some.injEq,Prod.mk.injEq] at hs;obtain ⟨_,rfl⟩:=hs;exact .inl rfl
    ·split at hs
     ·cases hs
     ·rename_i hl
      simp only[Option.some.injEq,Prod.mk.injEq] at hs;obtain ⟨_,rfl⟩:=hs;exact .inr (.inl ⟨_,_,hl,rfl⟩)
  ·split at hs
   ·cases hs
   ·split at hs
    ·split at hs
     ·split at hs
      ·simp only[Option.some.injEq,Prod.mk.injEq] at hs;obtain ⟨_,rfl⟩:=hs;exact .inl rfl
      ·split at hs
       ·cases hs
       ·rename_i hl
        simp only[Option.some.injEq,Prod.mk.injEq] at hs;obtain ⟨_,rfl⟩:=hs;exact .inr (.inl ⟨_,_,hl,rfl⟩)
     ·cases hs
    ·cases hs
  ·split at hs
   ·split at hs
    ·split at hs
     ·split at hs
      ·split at hs
       ·simp only[Option.some.injEq,Prod.mk.injEq] at hs;obtain ⟨_,rfl⟩:=hs;exact .inr (.inr ⟨⟨_,_,_,rfl⟩,_,_,rfl⟩)
       ·cases hs
      ·cases hs
     ·obtain ⟨q,_,hs⟩:=AU hs;obtain ⟨b,i,j⟩:=q;obtain ⟨h',_,hs⟩:=AU hs;simp only[Option.some.injEq,Prod.mk.injEq] at hs;obtain ⟨_,rfl⟩:=hs;exact .inl rfl
     ·cases hs
    ·cases hs
   ·cases hs
def Keeps (X:Ctx) (σ σ':St) (p:Oper):Prop:=(∀ t x,p.op = .load t x->(∀ u j row,ev σ.s x = .lp u j->AI σ.bx u=some row->AI σ'.bx u=some row) /\
 (∀ b i j,ev σ.s x = .ptr (some (b,i,j))->ld σ'.h b i j (X.ty t).size=ld σ.h b i j (X.ty t).size)) /\
 (∀ t e,Kk p=some (t,e)->∀ row,AI σ.bx t=some row->AI σ'.bx t=some row)
theorem LF {o:Oper}{t e:Nat} (h:Kk o=some (t,e)):o.op = .alloc e/\o.dst=some t:=by
 unfold Kk at h;split at h
 ·rename_i e' ho
  split at h
  ·rename_i t' hd
   injection h with h;injection h with h1 h2;subst h1;subst h2;exact ⟨ho,hd⟩
  ·cases h
 ·cases h
theorem SL {o:Oper}{t:TypeId} (h:o.op = .load t x):Kk o=none:=by unfold Kk;rw[h]
theorem VX {o:Oper}{v:V}{σ1:St} (hs:AS X lo d ty o.op ⟨s,bx,h⟩=some (v,σ1)):∀ {l:List Oper}{k:Option R}{r:R},chkT X o ⟨s,bx,h⟩ σ1 l k=some r->k=some r/\∀ p∈l,Keeps X ⟨s,bx,h⟩ σ1 p
 | [],k,r,hk=>⟨hk,λp hp=>by simp at hp⟩
 | p :: l,k,r,hk=>by
  have ih:∀ {k:Option R}{r:R},chkT X o ⟨s,bx,h⟩ σ1 l k=some r->k=some r/\∀ p∈l,Keeps X ⟨s,bx,h⟩ σ1 p:=VX hs;have fin:chkT X o ⟨s,bx,h⟩ σ1 l k=some r->Keeps X ⟨s,bx,h⟩ σ1 p->k=some r/\∀ q∈p :: l,Keeps X ⟨s,bx,h⟩ σ1 q:=λh1 h2=>by
   obtain ⟨h3,h4⟩:=ih h1;refine ⟨h3,λq hq=>?_⟩;rcases zfL.1 hq with rfl | hq
   ·exact h2
   ·exact h4 q hq
  simp only[chkT] at hk;split at hk
  ·rename_i t x hp
   split at hk
   ·rename_i u j hx
    have key:(∀ row,AI bx u=some row->AI σ1.bx u=some row)->Keeps X ⟨s,bx,h⟩ σ1 p:=λhrow=>by
     refine ⟨λt' x' hp'=>?_,λt' e' hm=>by rw[SL hp] at hm;cases hm⟩;rw[hp] at hp';injection hp' with e1 e2;subst e1;subst e2;refine ⟨λu' j' row hx' hl=>?_,λb i j' hx'=>?_⟩
     ·have hx':ev s x = .lp u' j':=hx';rw[hx] at hx';injection hx' with e1 e2;subst e1;exact hrow row hl
     ·have hx':ev s x = .ptr (some (b,i,j')):=hx';rw[hx] at hx';cases hx'
    split at hk
    ·rename_i t' y z hop
     rw[hop] at hs;split at hk
     ·rename_i u' j' hy
      split at hk
      ·cases hk
      ·rename_i hne
       refine fin hk (key λrow hl=>?_);obtain ⟨_,row',h2⟩:=KF hy hs;rw[h2,JT,if_neg (λe=>by subst e;simp at hne)];exact hl
     ·rename_i q hy
      refine fin hk (key λrow hl=>?_);rw[Mc hy hs];exact hl
     ·cases hk
    ·rename_i hop
     exact fin hk (key λrow hl=>by
      rcases Oz hs with h1 | ⟨t0,row',h1,h2⟩ | ⟨⟨t0,y,z,h3⟩,_⟩
      ·rw[h1];exact hl
      ·rw[h2,BA];split
       ·rename_i e;subst e;rw[h1] at hl;cases hl
       ·exact hl
      ·exact absurd h3 (hop _ _ _))
   ·rename_i q hx
    obtain ⟨q,rfl,hk⟩:=AU hk;obtain ⟨b,i,j⟩:=q;have key:ld σ1.h b i j (X.ty t).size=ld h b i j (X.ty t).size->Keeps X ⟨s,bx,h⟩ σ1 p:=λhl=>by
     refine ⟨λt' x' hp'=>?_,λt' e' hm=>by rw[SL hp] at hm;cases hm⟩;rw[hp] at hp';injection hp' with e1 e2;subst e1;subst e2;refine ⟨λu' j' row hx' _=>?_,λb' i' j' hx'=>?_⟩
     ·have hx':ev s x = .lp u' j':=hx';rw[hx] at hx';cases hx'
     ·have hx':ev s x = .ptr (some (b',i',j')):=hx';rw[hx] at hx';injection hx' with e;injection e with e;injection e with e1 e;injection e with e2 e3;subst e1;subst e2;subst e3;exact hl
    have nd:∀ {k:Option R},Bf (HG (ld h b i j (X.ty t).size) (ld σ1.h b i j (X.ty t).size)) k=some r->ld σ1.h b i j (X.ty t).size=ld h b i j (X.ty t).size/\k=some r:=λhk=>by obtain ⟨h1,h2⟩:=AC hk;unfold HG at h1;exact ⟨((@decide_eq_true_iff _ (_)).1 h1).symm,h2⟩
    split at hk
    ·rename_i t' y z hop
     split at hk
     ·rename_i u' j' hy
      rw[hop] at hs;exact fin hk (key (by rw[(KF hy hs).1]))
     ·obtain ⟨h1,h2⟩:=nd hk;exact fin h2 (key h1)
    ·obtain ⟨h1,h2⟩:=nd hk;exact fin h2 (key h1)
   ·cases hk
  ·rename_i e hp
   split at hk
   ·rename_i t hd
    have key:(∀ row,AI bx t=some row->AI σ1.bx t=some row)->Keeps X ⟨s,bx,h⟩ σ1 p:=λhrow=>by refine ⟨λt' x' hp'=>(by rw[hp] at hp';cases hp'),λt' e' hm=>?_⟩;obtain ⟨_,hd'⟩:=LF hm;rw[hd] at hd';injection hd' with hd';subst hd';exact hrow
    split at hk
    ·rename_i t' y z hop
     rw[hop] at hs;split at hk
     ·rename_i u' j' hy
      split at hk
      ·cases hk
      ·rename_i hne
       refine fin hk (key λrow hl=>?_);obtain ⟨_,row',h2⟩:=KF hy hs;rw[h2,JT,if_neg (λe=>by subst e;simp at hne)];exact hl
     ·rename_i q hy
      refine fin hk (key λrow hl=>?_);rw[Mc hy hs];exact hl
     ·cases hk
    ·rename_i hop
     exact fin hk (key λrow hl=>by
      rcases Oz hs with h1 | ⟨t0,row',h1,h2⟩ | ⟨⟨t0,y,z,h3⟩,_⟩
      ·rw[h1];exact hl
      ·rw[h2,BA];split
       ·rename_i e;subst e;rw[h1] at hl;cases hl
       ·exact hl
      ·exact absurd h3 (hop _ _ _))
   ·cases hk
  ·cases hk
theorem Us (hs:AS X lo d ty o ⟨s,bx,h⟩=some (v,σ1)) {t:Nat} (ht:(AI bx t).isSome=true):(AI σ1.bx t).isSome=true:=by
 rcases Oz hs with h1 | ⟨u,row,h1,h2⟩ | ⟨_,u,row,h2⟩
 ·rw[h1];exact ht
 ·rw[h2,BA];split
  ·rfl
  ·exact ht
 ·rw[h2,JT];split
  ·simpa using ht
  ·exact ht
theorem KG (hs:AS X lo d ty o ⟨s,bx,h⟩=some (v,σ1)) (hw:∀ t x y,o ≠ .store t x y) {t:Nat}{row:List V} (ht:AI bx t=some row):AI σ1.bx t=some row:=by
 rcases Oz hs with h1 | ⟨u,row',h1,h2⟩ | ⟨⟨t,x,y,h3⟩,_⟩
 ·rw[h1];exact ht
 ·rw[h2,BA];split
  ·rename_i e;subst e;rw[h1] at ht;cases ht
  ·exact ht
 ·exact absurd h3 (hw _ _ _)
end
theorem LW {acc:List Nat}{j:Nat}:∀ {es:List Edge},(Kx acc es).testBit j=true->∃ e∈es,DU e=true/\(e.on=j\/(acc.getD e.on 0).testBit j=true)
 | [],h=>by simp[Kx] at h
 | e :: es,h=>by
  simp only[Kx] at h;split at h
  ·rename_i hb
   have h1:((1 <<< e.on ||| acc.getD e.on 0) ||| Kx acc es).testBit j=true:=h;rw[Nat.testBit_or,Nat.testBit_or] at h1;simp only[zgJ] at h1;rcases h1 with (h1 | h1) | h1
   ·refine ⟨e,by simp,hb,.inl ?_⟩;rw[Nat.testBit_shiftLeft] at h1;simp only[zfU,decide_eq_true_eq] at h1;have h2:=h1.2;by_cases hz:j - e.on=0
    ·omega
    ·rw[Nat.testBit_one_eq_true_iff_self_eq_zero] at h2;omega
   ·exact ⟨e,by simp,hb,.inr h1⟩
   ·obtain ⟨e',h2,h3⟩:=LW h1;exact ⟨e',by simp[h2],h3⟩
  ·obtain ⟨e',h2,h3⟩:=LW h;exact ⟨e',by simp[h2],h3⟩
theorem MI:∀ (l:List Oper) (acc:List Nat) (i:Nat),i<acc.length->(A7 acc l).getD i 0=acc.getD i 0
 | [],acc,i,h=>rfl
 | o :: l,acc,i,h=>by simp only[A7];rw[MI l _ i (by simp;omega)];simp only[zhq];rw[zfK h]
theorem MH:∀ (l:List Oper) (acc:List Nat) (i j:Nat) (o:Oper),l[i]?=some o->((A7 acc l).getD (acc.length+i) 0).testBit j=true ->
  ∃ e∈o.after.toList,DU e=true/\(e.on=j\/((A7 acc l).getD e.on 0).testBit j=true)
 | [],acc,i,j,o,h,_=>by simp at h
 | p :: l,acc,0,j,o,h,ht=>by
  simp at h;subst h;simp only[A7,zgl] at ht ⊢;rw[MI l _ _ (by simp)] at ht;simp only[zhq,List.getElem?_concat_length,zgX] at ht;obtain ⟨e,h1,h2,h3⟩:=LW ht;refine ⟨e,h1,h2,h3.imp id λh3=>?_⟩;have hlt:e.on<acc.length:=by apply zhf;intro hle;simp[zhq,zgj hle] at h3
  rw[MI l _ _ (by simp;omega)];simp only[zhq] at h3 ⊢;rw[zfK hlt];exact h3
 | p :: l,acc,i+1,j,o,h,ht=>by simp only[A7] at ht ⊢;have:=MH l (acc ++ [Kx acc p.after.toList]) i j o (by simpa using h) (by rw[<- ht];congr 2;simp;omega);exact this
end Go.Proofs.YtmgopagfoemomaaGreat.T
namespace Go.Proofs.YtmgopagfoemomaaGreat.T
open Go
def zao (all:List Oper) (s:List (Nat×V)) (g:Option (Nat×Bool)):Option Bool:=Jj all s g (some true) (some false)
theorem zan {R:Type}{all:List Oper}{s:List (Nat×V)}{g:Option (Nat×Bool)}{run skip:Option R}{r:R} (h:Jj all s g run skip=some r):(zao all s g=some true/\run=some r)\/(zao all s g=some false/\skip=some r):=by
 unfold zao;unfold Jj at h ⊢;split at h
 ·exact .inl ⟨rfl,h⟩
 ·split at h
  ·cases h
  ·split at h
   ·cases h
   ·split at h
    ·rename_i b _
     split at h<;>rcases Ik h with ⟨rfl,h⟩ | ⟨rfl,h⟩<;>simp_all [br]
    ·simp_all
    ·cases h
def LX (X:Ctx) (lo:Nat) (all:List Oper) (calm al:Nat->Bool) (j:Nat) (o:Oper) (σ σ':St):Prop :=
 (FF al j o=none/\zao all σ.s o.guard=some true/\∃ v σ1,AS X (if calm j then σ.h.length else lo) o.dst o.type o.op σ=some (v,σ1)/\σ'=putS σ1 o.dst v) \/
 (FF al j o=none/\zao all σ.s o.guard=some false/\σ'=putS σ o.dst (.tup [])) \/
 (∃ t e,FF al j o=some (t,e)/\σ'=putS σ o.dst (.lp t 0))
theorem Hv {al:Nat->Bool}{j:Nat}{o:Oper}{t e:Nat} (h:FF al j o=some (t,e)):al j=true/\o.op = .alloc e/\o.dst=some t/\Kk o=some (t,e):=by
 unfold FF at h;split at h
 ·exact ⟨‹_›,(LF h).1,(LF h).2,h⟩
 ·cases h
theorem zaB {al:Nat->Bool}{j:Nat}{o:Oper}{a:Nat} (h:Ej o=some a):FF al j o=none:=by
 unfold FF;split
 ·unfold Kk;unfold Ej at h;split at h
  ·rename_i ho;rw[ho]
  ·cases h
 ·rfl
def MJ (X:Ctx) (calm:Nat->Bool) (ck:Nat->List Oper) (j:Nat) (σ σ':St):Prop:=calm j=false->∀ p∈ck j,Keeps X σ σ' p
theorem Keeps.put {X:Ctx}{σ σ':St}{p:Oper}{d:Option Nat}{v:V} (h:Keeps X σ σ' p):Keeps X σ (putS σ' d v) p:=by cases d<;>exact h
theorem Keeps.same {X:Ctx}{σ:St}{p:Oper}{d:Option Nat}{v:V}:Keeps X σ (putS σ d v) p:=Keeps.put ⟨λt x _=>⟨λu j row _ h=>h,λb i j _=>rfl⟩,λt e _ row h=>h⟩
theorem Zn {X:Ctx}{lo:Nat}{all:List Oper}{calm al:Nat->Bool}{ck:Nat->List Oper}{R:Type}{k:St->Option R}{r:R}:∀ (rest:List Oper) (i:Nat) (σ:St),all.drop i=rest->opsT X lo all calm ck al i rest σ k=some r ->
  ∃ S:Nat->St,S i=σ/\k (S (i+rest.length))=some r/\∀ j o,i<=j->all[j]?=some o->LX X lo all calm al j o (S j) (S (j+1))/\MJ X calm ck j (S j) (S (j+1))
 | [],i,σ,hr,hk=>⟨λ_=>σ,rfl,hk,λj o hj ho=>by
   have:all.length<=i:=List.drop_eq_nil_iff.1 hr;have:=(zfI.1 ho).1;omega⟩
 | o :: rest,i,σ,hr,hk=>by
  obtain ⟨hi,hr'⟩:=List.drop_cons' hr;simp only[opsT] at hk;have main:∀ σ',opsT X lo all calm ck al (i+1) rest σ' k=some r->LX X lo all calm al i o σ σ'->MJ X calm ck i σ σ'->∃ S:Nat->St,S i=σ/\k (S (i+(o :: rest).length))=some r/\∀ j o,i<=j->all[j]?=some o->LX X lo all calm al j o (S j) (S (j+1))/\MJ X calm ck j (S j) (S (j+1)):=by
   intro σ' hk' hst hkp;obtain ⟨S,h1,h2,h3⟩:=Zn rest (i+1) σ' hr' hk';refine ⟨λj=>if j<=i then σ else S j,by simp,?_,λj o' hj ho=>?_⟩
   ·show k (if i+(o :: rest).length<=i then σ else S (i+(o :: rest).length))=some r;rw[if_neg (by simp),zgw,show i+(rest.length+1)=i+1+rest.length by omega];exact h2
   ·by_cases e:j=i
    ·subst e;rw[hi] at ho;injection ho with ho;subst ho;show LX X lo all calm al j o (if j<=j then σ else S j) (if j+1<=j then σ else S (j+1))/\MJ X calm ck j (if j<=j then σ else S j) (if j+1<=j then σ else S (j+1));rw[if_pos (zfH _),if_neg (by omega),h1];exact ⟨hst,hkp⟩
    ·show LX X lo all calm al j o' (if j<=i then σ else S j) (if j+1<=i then σ else S (j+1))/\MJ X calm ck j (if j<=i then σ else S j) (if j+1<=i then σ else S (j+1));rw[if_neg (by omega),if_neg (by omega)];exact h3 j o' (by omega) ho
  cases hbx:FF al i o with
  | some q =>obtain ⟨t,e⟩:=q;rw[hbx] at hk;exact main _ hk (.inr (.inr ⟨t,e,hbx,rfl⟩)) (λ_ p hp=>Keeps.same)
  | none =>
  rw[hbx] at hk;simp only at hk;rcases zan hk with ⟨hg,hk1⟩ | ⟨hg,hk1⟩
  ·cases hc:calm i with
   | true =>rw[hc] at hk1;obtain ⟨v,σ1,h1,h2⟩:=YE hk1;exact main _ h2 (.inl ⟨hbx,hg,v,σ1,by rw[hc];exact h1,rfl⟩) (λhcf=>by rw[hc] at hcf;cases hcf)
   | false =>rw[hc] at hk1;obtain ⟨v,σ1,h1,h2⟩:=YE hk1;obtain ⟨h3,h4⟩:=VX (s:=σ.s) (bx:=σ.bx) (h:=σ.h) h1 h2;exact main _ h3 (.inl ⟨hbx,hg,v,σ1,by rw[hc];exact h1,rfl⟩) (λ_ p hp=>(h4 p hp).put)
  ·exact main _ hk1 (.inr (.inl ⟨hbx,hg,rfl⟩)) (λ_ p hp=>Keeps.same)
section
variable {all:List Oper}{cl:Nat->Bool}
theorem LG {i:Nat}{o:Oper} (h:all[i]?=some o):(o,i)∈all.zipIdx:=zgW.2 h
theorem zfx {a b:Nat} (h:a≠b):Nat.beq a b=false:=by
 cases hb:Nat.beq a b with
 | false=>rfl
 | true=>exact absurd (zfP hb) h
theorem NN {a n:Nat} (h:Md all a n=true) {j:Nat}{q:Oper} (hj:n<=j) (hq:all[j]?=some q):q.dst≠some a:=λhd=>by
 have h2:=zfW.1 h (q,j) (LG hq);have hb:Nat.blt j n=false:=by
  cases hb:Nat.blt j n with
  | false=>rfl
  | true =>
       have:j<n:=by simpa [zhc] using hb
       omega
 have ha:Nat.beq a a=true:=by simp
 simp only[hb,zgL,hd,Option.toList_some,List.any_cons,List.any_nil,Bool.or_false,ha,zgo] at h2;cases h2
structure Graph (all:List Oper) (cl:Nat->Bool):Prop where
 wr:∀ (i:Nat) (o:Oper),all[i]?=some o->He o=true->JY (A7 [] all) all cl i=true
 edge:∀ (i:Nat) (o:Oper),all[i]?=some o->∀ e∈o.after.toList,DU e=true->e.on<i
 stat:∀ (i:Nat) (o:Oper),all[i]?=some o->cl i=true->FF cl i o=none->∃ t a,o.op = .load t (.tmp a)/\Md all a i=true/\∀ (n:Nat) (p:Oper),all[n]?=some p->IN p=true->Jk (A7 [] all) n i=true\/Md all a n=true
 box:∀ (i:Nat) (o:Oper) (t e:Nat),all[i]?=some o->FF cl i o=some (t,e)->(A7 [] all).getD i 0=0/\o.guard=none
 guard:∀ (i:Nat) (o:Oper) (j:Nat) (b:Bool),all[i]?=some o->o.guard=some (j,b)->((A7 [] all).getD i 0).testBit j=true
 pair:∀ (i j:Nat) (p q:Oper),all[i]?=some p->all[j]?=some q->i<j->Jk (A7 [] all) i j=true\/(zdy p.dst.toList (EN all q)=true/\zdy q.dst.toList (EN all p)=true)
theorem zda (h:Xt (A7 [] all) all cl=true):Graph all cl:=by
 unfold Xt at h;have hp:∀ (i:Nat) (o:Oper),all[i]?=some o->_:=λi o ho=>zfW.1 h (o,i) (LG ho);simp only[zfU] at hp;refine ⟨λi o ho hw=>?_,λi o ho e he hbi=>?_,λi o ho hc hbn=>?_,λi o t e ho hbx=>?_,λi o j b ho hg=>?_,λi j p q hpi hqj hij=>?_⟩
 ·have:=(hp i o ho).1.1.1.2;rw[hw] at this;simpa using this
 ·have:=zfW.1 (hp i o ho).1.1.2 e he;simpa [zhc,hbi] using this
 ·have:=(hp i o ho).1.1.1.1;rw[hc] at this;simp only[zgo,zgL] at this;unfold zax at this;cases hl:Ej o with
  | none =>
   rw[hl] at this;have hm:Kk o=none:=by unfold FF at hbn;rw[hc] at hbn;exact hbn
   rw[hm] at this;cases this
  | some a =>
   rw[hl] at this;have hop:∃ t,o.op = .load t (.tmp a):=by
    unfold Ej at hl;split at hl
    ·rename_i t a' ho';injection hl with hl;subst hl;exact ⟨t,ho'⟩
    ·cases hl
   obtain ⟨t,hop⟩:=hop;rw[zfU] at this;refine ⟨t,a,hop,this.1,λn p hp hs=>?_⟩;have h3:=zfW.1 this.2 (p,n) (LG hp);simpa only [hs,zgo,zgL,zgJ] using h3
 ·have:=(hp i o ho).1.1.1.1;obtain ⟨hc,hop,hdst,hm⟩:=Hv hbx;rw[hc] at this;simp only[zgo,zgL] at this;unfold zax at this;have hl:Ej o=none:=by unfold Ej;rw[hop]
  rw[hl,hm] at this;simp only[zfU,Option.isNone_iff_eq_none] at this;exact ⟨zfP this.1,this.2⟩
 ·have:=(hp i o ho).1.2;rw[hg] at this;exact this
 ·have:=zfW.1 (hp i p hpi).2 (q,j) (LG hqj);have hb:Nat.blt i j=true:=by simpa [zhc] using hij
  simp only[hb,zgo,zgL,zgJ,zfU] at this;exact this
theorem V3 {i j:Nat}{q:Oper} (h:JY (A7 [] all) all cl i=true) (hq:all[j]?=some q) (hne:j≠i) (hi:FD q=false) (hc:cl j=false):Jk (A7 [] all) i j=true:=by have:=zfW.1 h (q,j) (LG hq);simp only[zfx hne,hi,hc,zgL,Bool.or_false] at this;exact this
theorem Tv {M:List Nat}{j a:Nat}{q:Oper} (ha:Ej q=some a) (hs:Md all a j=true):∀ {l:List Oper}{i:Nat}{k:Nat},l[k]?=some q->cl (i+k)=true->Jk M j (i+k)=false->q∈Hu M all cl j i l
 | [],i,k,h,_,_=>by simp at h
 | p :: l,i,k,h,hc,hm=>by
  cases k with
  | zero =>simp at h;subst h;rw[zgl] at hc hm;simp[Hu,hc,hm,ha,hs]
  | succ k =>
   have ih:q∈Hu M all cl j (i+1) l:=Tv ha hs (k:=k) (by simpa using h) (by rw[<- hc];congr 1;omega) (by rw[<- hm];congr 1;omega);simp only[Hu];split
   ·exact ih
   ·split
    ·exact ih
    ·split
     ·split
      ·exact zgy _ ih
      ·exact ih
     ·split
      ·exact ih
      ·exact zgy _ ih
theorem Wg {M:List Nat}{j t e:Nat}{q:Oper} (ha:Kk q=some (t,e)):∀ {l:List Oper}{i:Nat}{k:Nat},l[k]?=some q->cl (i+k)=true->Jk M j (i+k)=false->q∈Hu M all cl j i l
 | [],i,k,h,_,_=>by simp at h
 | p :: l,i,k,h,hc,hm=>by
  cases k with
  | zero =>
   simp at h;subst h;rw[zgl] at hc hm;have hl:Ej p=none:=by unfold Ej;rw[(LF ha).1]
   simp[Hu,hc,hm,ha,hl]
  | succ k =>
   have ih:q∈Hu M all cl j (i+1) l:=Wg ha (k:=k) (by simpa using h) (by rw[<- hc];congr 1;omega) (by rw[<- hm];congr 1;omega);simp only[Hu];split
   ·exact ih
   ·split
    ·exact ih
    ·split
     ·split
      ·exact zgy _ ih
      ·exact ih
     ·split
      ·exact ih
      ·exact zgy _ ih
theorem ze9 {M:List Nat}{j k t e:Nat}{o q:Oper} (ho:all[j]?=some o) (hi:FD o=false) (hj:cl j=false) (hq:all[k]?=some q) (hc:cl k=true) (hm:Jk M j k=false) (ha:Kk q=some (t,e)):q∈Xz M all cl j:=by unfold Xz;rw[ho];simp only[hi,hj];exact Wg ha (i:=0) hq (by rw[zfY];exact hc) (by rw[zfY];exact hm)
theorem zeG {M:List Nat}{j k a:Nat}{o q:Oper} (ho:all[j]?=some o) (hi:FD o=false) (hj:cl j=false) (hq:all[k]?=some q) (hc:cl k=true) (hm:Jk M j k=false) (ha:Ej q=some a) (hs:Md all a j=true):q∈Xz M all cl j:=by unfold Xz;rw[ho];simp only[hi,hj];exact Tv ha hs (i:=0) hq (by rw[zfY];exact hc) (by rw[zfY];exact hm)
theorem zar {M:List Nat}{i a n:Nat}{p:Oper} (h:za7 M all cl i a=true) (hp:all[n]?=some p) (hi:FD p=false) (hc:cl n=false) (hm:Jk M n i=false) (hf:JY M all cl n=true):Md all a n=true:=by have h3:=zfW.1 h (p,n) (LG hp);simpa only [hi,hc,hm,hf,zgL,zgo,Bool.or_false] using h3
theorem MD {a b:List Nat}{t:Nat} (h:zdy a b=true) (ha:t∈a) (hb:t∈b):False:=by have:=zfW.1 h t ha;simp only[zgG,List.any_eq_false] at this;exact this t hb (by simp)
variable (hG:Graph all cl)
include hG
theorem XD:∀ (i:Nat) (o:Oper) (j:Nat),all[i]?=some o->((A7 [] all).getD i 0).testBit j=true->j<i:=by
 intro i;induction i using Nat.strongRecOn with
 | _ i ih =>
  intro o j ho hb;obtain ⟨e,h1,h2,h3⟩:=MH all [] i j o ho (by simpa using hb);have hlt:=hG.edge i o ho e h1 h2;rcases h3 with h3 | h3
  ·omega
  ·have hlen:i<all.length:=(zfI.1 ho).1;have:=ih e.on hlt _ j (zfX (by omega)) h3;omega
theorem LV {L:Nat->Prop} (hcl:∀ (i:Nat) (o:Oper),all[i]?=some o->L i->∀ e∈o.after.toList,DU e=true->L e.on) :
  ∀ (i:Nat) (o:Oper) (j:Nat),all[i]?=some o->(∀ e∈o.after.toList,DU e=true->L e.on)->((A7 [] all).getD i 0).testBit j=true->L j:=by
 intro i;induction i using Nat.strongRecOn with
 | _ i ih =>
  intro o j ho hready hb;obtain ⟨e,h1,h2,h3⟩:=MH all [] i j o ho (by simpa using hb);have hlt:=hG.edge i o ho e h1 h2;have hL:=hready e h1 h2;rcases h3 with h3 | h3
  ·exact h3 ▸ hL
  ·have hlen:i<all.length:=(zfI.1 ho).1;have ho':all[e.on]?=some all[e.on]:=zfX (by omega);exact ih e.on hlt _ j ho' (hcl _ _ ho' hL) h3
theorem LO {L:Nat->Prop} (hcl:∀ (i:Nat) (o:Oper),all[i]?=some o->L i->∀ e∈o.after.toList,DU e=true->L e.on) {i j:Nat}{o q:Oper} (ho:all[i]?=some o) (hq:all[j]?=some q)
  (hready:∀ e∈o.after.toList,DU e=true->L e.on) (hn:¬ L i) (hne:j≠i) (hc:Jk (A7 [] all) i j=true\/Jk (A7 [] all) j i=true):L j<->j<i:=by
 have hc':((A7 [] all).getD i 0).testBit j=true\/((A7 [] all).getD j 0).testBit i=true:=by unfold Jk at hc;rcases hc with hc | hc<;>split at hc<;>simp_all
 rcases hc' with h | h
 ·have:=XD hG i o j ho h;exact ⟨λ_=>this,λ_=>LV hG hcl i o j ho hready h⟩
 ·have:=XD hG j q i hq h;exact ⟨λhL=>absurd (LV hG hcl j q i hq (hcl j q hq hL) h) hn,λh=>by omega⟩
def Wr (all:List Oper) (j t:Nat):Prop:=∃ q,all[j]?=some q/\q.dst=some t
omit hG in
theorem Ou (hG:Graph all cl) {L:Nat->Prop} (hcl:∀ (i:Nat) (o:Oper),all[i]?=some o->L i->∀ e∈o.after.toList,DU e=true->L e.on) {i:Nat}{o:Oper} (ho:all[i]?=some o)
  (hready:∀ e∈o.after.toList,DU e=true->L e.on) (hn:¬ L i) {t:Nat} (ht:t∈EN all o) {j:Nat} (hw:Wr all j t):L j<->j<i:=by
 obtain ⟨q,hq,hd⟩:=hw;by_cases hne:j=i
 ·subst hne;exact ⟨λh=>absurd h hn,λh=>by omega⟩
 ·refine LO hG hcl ho hq hready hn hne ?_;rcases Nat.lt_or_ge i j with h | h
  ·rcases hG.pair i j o q ho hq h with h1 | ⟨_,h1⟩
   ·exact .inl h1
   ·exact (MD h1 (by rw[hd];simp) ht).elim
  ·rcases hG.pair j i q o hq ho (by omega) with h1 | ⟨h1,_⟩
   ·exact .inr h1
   ·exact (MD h1 (by rw[hd];simp) ht).elim
end
end Go.Proofs.YtmgopagfoemomaaGreat.T
namespace Go.Proofs.YtmgopagfoemomaaGreat.T
open Go
variable {a:Act}{w:World}{next:Act->World->Prop}{ρ:Rho}{β:Bet}
theorem zeJ {P:Program}{o:Oper} (h:o.wp P a w next (λ_ _ _=>False)):∃ a' w',next a' w':=by
 unfold Oper.wp at h;generalize (execOp a.eval o).run P w=res at h;cases res with
 | ok n w' =>
  cases n<;>simp only[Oper.upon] at h<;>(try exact h.elim)
  ·exact ⟨_,_,h⟩
  ·exact ⟨_,_,h⟩
  ·obtain ⟨e,w'',fr,hr,_⟩:=h [];cases e with
   | returned v=>exact ⟨_,_,hr⟩
   | panicked c=>exact hr.elim
   | outgrown=>obtain ⟨_,_,hr⟩:=hr;exact hr.elim
  ·exact ⟨_,_,h⟩
  ·obtain ⟨v,w'',hr,_⟩:=h default [];exact ⟨_,_,hr⟩
 | halt x w'=>cases x<;>simp only[Oper.upon] at h
section
variable {P:Program}{lo base nt:Nat}{X:Ctx}
def More (ρ:Rho) (β:Bet) (σ:St) (w:World) (lo base:Nat) (ρ':Rho) (β':Bet) (σ':St) (w':World):Prop :=
 Ext lo base ρ σ.h w ρ' σ'.h w'/\Ble β β'/\(∀ t,AI σ.bx t=none->(AI σ'.bx t).isSome=true->∃ r,β' t=some r)
def Jp (t:Nat):List (Nat×List V)->List (Nat×List V)
 | [] => []
 | (u,v) :: r=>if u=t then Jp t r else (u,v) :: Jp t r
theorem Fi {t:Nat}:∀ {bx:List (Nat×List V)}{u:Nat},AI (Jp t bx) u=if u=t then none else AI bx u
 | [],u=>by simp[Jp,AI]
 | (x,v) :: r,u=>by
  unfold Jp;by_cases h:x=t
  ·rw[if_pos h,Fi (bx:=r),BA];by_cases hu:u=t
   ·rw[if_pos hu,if_pos hu]
   ·rw[if_neg hu,if_neg hu,if_neg (λe=>hu (e.symm.trans h))]
  ·rw[if_neg h,BA,Fi (bx:=r),BA];by_cases hx:x=u
   ·rw[if_pos hx,if_pos hx,if_neg (λe=>h (hx.trans e))]
   ·rw[if_neg hx,if_neg hx]
theorem FRel.sub {bx bx':List (Nat×List V)} (hf:FRel ρ β bx w) (hs:∀ t r,β t=some r->AI bx' t=AI bx t):FRel ρ β bx' w :=
 ⟨λt r hr=>by obtain ⟨row,cs,el,h1,h2,h3⟩:=hf.has t r hr;exact ⟨row,cs,el,by rw[hs t r hr];exact h1,h2,h3⟩,hf.lt,hf.inj,hf.off⟩
theorem Sj {lo':Nat}{o:Oper}{t e:Nat}{s:List (Nat×V)}{bx:List (Nat×List V)}{h:Heap} (hop:o.op = .alloc e) (hd:o.dst=some t) (hk:((X.ty e).known&&(X.ty e).hz&&Em (X.ty e).zero)=true) (hh:X.hb.any (Nat.beq t)=false) (hl:AI bx t=none) :
  AS X lo' o.dst o.type o.op ⟨s,bx,h⟩=some (.lp t 0,⟨s,(t,(X.ty e).zero) :: bx,h⟩):=by
 unfold AS;rw[hop,hd];simp only[opT,hk,hh,hl]
def zbk (X:Ctx) (cl:Nat->Bool) (j:Nat) (o:Oper) (β:Bet) (bx:List (Nat×List V)):Prop:=∀ t e,FF cl j o=some (t,e)->((X.ty e).known&&(X.ty e).hz&&Em (X.ty e).zero)=true/\X.hb.any (Nat.beq t)=false/\β t=none/\AI bx t=some (X.ty e).zero
theorem PP (hX:X.ty=AL P) (hE:∀ t,X.cmp t=true->EqOk P t) (hC:SC P X.call) {all:List Oper}{calm al:Nat->Bool}{j:Nat}{o:Oper}{σ σ':St} (hs:LX X lo all calm al j o σ σ') (hbox:zbk X al j o β σ.bx) (hd:∀ t,o.dst=some t->t<nt)
  (ho:Ok lo base nt ρ β σ a w):(∃ ρ' β' a' w',Ok lo base nt ρ' β' σ' a' w'/\More ρ β σ w lo base ρ' β' σ' w'/\∀ t r,β t=none->β' t=some r->AI σ.bx t=none\/∃ e,FF al j o=some (t,e))/\σ.h.length<=σ'.h.length/\(calm j=true->∀ b,b<σ.h.length->σ'.h[b]?=σ.h[b]?):=by
 rcases hs with ⟨_,_,v,σ1,h1,rfl⟩ | ⟨_,_,rfl⟩ | ⟨tb,eb,hbx,rfl⟩
 ·have hh:(putS σ1 o.dst v).h=σ1.h:=by cases o.dst<;>rfl
  have hb:(putS σ1 o.dst v).bx=σ1.bx:=by cases o.dst<;>rfl
  rw[hh];have hlo2:lo<=(if calm j=true then σ.h.length else lo):=by split;exact ho.hlo;exact zfH _
  have hwp:o.wp P a w (λa' w'=>(∃ ρ' β',Ok lo base nt ρ' β' (putS σ1 o.dst v) a' w'/\More ρ β σ w lo base ρ' β' (putS σ1 o.dst v) w'/\∀ t r,β t=none->β' t=some r->AI σ.bx t=none\/∃ e,FF al j o=some (t,e))/\σ.h.length<=σ1.h.length/\(calm j=true->∀ b,b<σ.h.length->σ1.h[b]?=σ.h[b]?)) (λ_ _ _=>False):=by
   refine JO (lo:=if calm j=true then σ.h.length else lo) (base:=base) (K:=λv σ=>some (v,σ)) (r:=(v,σ1)) hX hE hC h1 ho.s ho.h ho.f ho.hB (by split;exact zfH _;exact ho.hlo) (λ_=>ho.own) ?_;intro v' σ'' c w' hk hf;injection hk with hk;injection hk with e1 e2;subst e1;subst e2;obtain ⟨ρ',β',f1,f2,f3,f4,f5,f6,f7,f8⟩:=hf;have hok:Ok lo base nt ρ' β' (putS σ'' o.dst v') (a.put o.dst c) w':=by
    refine ⟨?_,?_,?_,?_,zfE ho.hB f5.size,?_,?_,?_⟩
    ·refine SRel.put ?_ f2 (λt ht=>by rw[ho.nt];exact hd t ht);rw[f1];exact ho.s.mono f5.rle f6
    ·rw[hh];exact f3
    ·rw[hb];exact f4
    ·intro t r hr;cases hb:β t with
     | some r0 =>have:=f6 t r0 hb;rw[hr] at this;injection this with this;subst this;exact ho.own t _ hb
     | none=>exact zfE ho.hB (f7 t r hb hr).1
    ·rw[hh];exact zfE ho.hlo f5.len
    ·cases o.dst<;>simp[Act.put,ho.nt]
    ·cases o.dst<;>simp[Act.put,ho.df]
   refine ⟨⟨ρ',β',hok,⟨?_,f6,?_⟩,λt r g1 g2 => .inl (f7 t r g1 g2).2⟩,f5.len,λhc b hb=>f5.pres b ?_ hb⟩
   ·rw[hh];exact f5.weaken hlo2 (zfH _)
   ·rw[hb];exact f8
   ·rw[if_pos hc];exact hb
  obtain ⟨a',w',⟨ρ',β',h2,h5⟩,h3,h4⟩:=zeJ hwp;exact ⟨⟨ρ',β',a',w',h2,h5⟩,h3,h4⟩
 ·have hh:(putS σ o.dst (.tup [])).h=σ.h:=by cases o.dst<;>rfl
  have hb:(putS σ o.dst (.tup [])).bx=σ.bx:=by cases o.dst<;>rfl
  rw[hh];refine ⟨⟨ρ,β,_,w,ho.skip hd,⟨?_,Ble.refl _,?_⟩,λt r g1 g2=>by rw[g1] at g2;cases g2⟩,zfH _,λ_ _ _=>rfl⟩
  ·rw[hh];exact Ext.refl _ _ _ _ _
  ·rw[hb];exact PU
 ·obtain ⟨_,hop,hdst,_⟩:=Hv hbx;obtain ⟨k1,k2,k3,k4⟩:=hbox tb eb hbx;have hh:(putS σ o.dst (.lp tb 0)).h=σ.h:=by cases o.dst<;>rfl
  have hb:(putS σ o.dst (.lp tb 0)).bx=σ.bx:=by cases o.dst<;>rfl
  rw[hh];have h1:=Sj (lo':=lo) (s:=σ.s) (h:=σ.h) (bx:=Jp tb σ.bx) hop hdst k1 k2 (by rw[Fi,if_pos rfl]);unfold AS at h1;have hf0:FRel ρ β (Jp tb σ.bx) w:=ho.f.sub λt r hr=>by rw[Fi,if_neg (λe=>by rw[e,k3] at hr;cases hr)]
  have hwp:o.wp P a w (λa' w'=>∃ ρ' β',Ok lo base nt ρ' β' (putS σ o.dst (.lp tb 0)) a' w'/\More ρ β σ w lo base ρ' β' (putS σ o.dst (.lp tb 0)) w'/\∀ t r,β t=none->β' t=some r->AI σ.bx t=none\/∃ e,FF al j o=some (t,e)) (λ_ _ _=>False):=by
   refine JO (lo:=lo) (base:=base) (σ:=⟨σ.s,Jp tb σ.bx,σ.h⟩) (K:=λv σ=>some (v,σ)) (r:=(.lp tb 0,_)) hX hE hC h1 ho.s ho.h hf0 ho.hB ho.hlo (λ_=>ho.own) ?_;intro v' σ'' c w' hk hf;injection hk with hk;injection hk with e1 e2;subst e1;subst e2;obtain ⟨ρ',β',f1,f2,f3,f4,f5,f6,f7,f8⟩:=hf;have hok:Ok lo base nt ρ' β' (putS σ o.dst (.lp tb 0)) (a.put o.dst c) w':=by
    refine ⟨?_,?_,?_,?_,zfE ho.hB f5.size,?_,?_,?_⟩
    ·refine SRel.put ?_ f2 (λt ht=>by rw[ho.nt];exact hd t ht);exact ho.s.mono f5.rle f6
    ·rw[hh];exact f3
    ·rw[hb];refine f4.sub λt r hr=>?_;show AI σ.bx t=AI ((tb,(X.ty eb).zero) :: Jp tb σ.bx) t;rw[BA,Fi];by_cases e:tb=t
     ·rw[if_pos e,<- e];exact k4
     ·rw[if_neg e,if_neg (λe'=>e e'.symm)]
    ·intro t r hr;cases hb:β t with
     | some r0 =>have:=f6 t r0 hb;rw[hr] at this;injection this with this;subst this;exact ho.own t _ hb
     | none=>exact zfE ho.hB (f7 t r hb hr).1
    ·rw[hh];exact ho.hlo
    ·cases o.dst<;>simp[Act.put,ho.nt]
    ·cases o.dst<;>simp[Act.put,ho.df]
   refine ⟨ρ',β',hok,⟨?_,f6,?_⟩,λt r g1 g2=>?_⟩
   ·rw[hh];exact f5.weaken (zfH _) (zfH _)
   ·rw[hb];exact PU
   ·have h7:AI (Jp tb σ.bx) t=none:=(f7 t r g1 g2).2;rw[Fi] at h7;by_cases e:t=tb
    ·exact .inr ⟨eb,by rw[e];exact hbx⟩
    ·rw[if_neg e] at h7;exact .inl h7
  obtain ⟨a',w',ρ',β',h2,h5⟩:=zeJ hwp;exact ⟨⟨ρ',β',a',w',h2,h5⟩,zfH _,λ_ _ _=>rfl⟩
theorem More.trans {ρ ρ' ρ'':Rho}{β β' β'':Bet}{σ σ' σ'':St}{w w' w'':World} (a:More ρ β σ w lo base ρ' β' σ' w') (b:More ρ' β' σ' w' lo base ρ'' β'' σ'' w''):More ρ β σ w lo base ρ'' β'' σ'' w'':=by
 refine ⟨a.1.trans b.1,a.2.1.trans b.2.1,λt h1 h2=>?_⟩;cases h:AI σ'.bx t with
 | none=>exact b.2.2 t h h2
 | some row =>obtain ⟨r,hr⟩:=a.2.2 t h1 (by rw[h];rfl);exact ⟨r,b.2.1 t r hr⟩
def NJ (all:List Oper) (cl:Nat->Bool) (j:Nat):Prop:=JY (A7 [] all) all cl j=true/\(∃ o,all[j]?=some o/\FD o=false)/\cl j=false
def Lg (all:List Oper) (cl:Nat->Bool) (i:Nat):Bool := !JY (A7 [] all) all cl i
structure Env (P:Program) (X:Ctx) (lo base nt:Nat) (ρ0:Rho) (β0:Bet) (w0:World) (all:List Oper) (cl:Nat->Bool) (S:Nat->St):Prop where
 nar:X.wide=false
 G:Graph all cl
 step:∀ (j:Nat) (o:Oper),all[j]?=some o->LX X lo all (Lg all cl) cl j o (S j) (S (j+1))
 box:∀ (j:Nat) (o:Oper),all[j]?=some o->zbk X cl j o β0 (S 0).bx
 dst:∀ (j:Nat) (o:Oper),all[j]?=some o->∀ t,o.dst=some t->t<nt
 ok:∀ j,j<=all.length->∃ ρ β a w,Ok lo base nt ρ β (S j) a w/\More ρ0 β0 (S 0) w0 lo base ρ β (S j) w
 len:∀ j,j<all.length->(S j).h.length<=(S (j+1)).h.length
 same:∀ j,j<all.length->¬ NJ all cl j->∀ b,b<(S j).h.length->(S (j+1)).h[b]?=(S j).h[b]?
 keep:∀ j,j<all.length->MJ X (Lg all cl) (Xz (A7 [] all) all cl) j (S j) (S (j+1))
theorem Zq {all:List Oper}{cl:Nat->Bool}{S:Nat->St} (hG:Graph all cl) (hst:∀ (j:Nat) (o:Oper),all[j]?=some o->LX X lo all (Lg all cl) cl j o (S j) (S (j+1)))
  (hkp:∀ (j:Nat) (o:Oper),all[j]?=some o->MJ X (Lg all cl) (Xz (A7 [] all) all cl) j (S j) (S (j+1))) {i:Nat}{o:Oper}{t e:Nat} (ho:all[i]?=some o) (hb:FF cl i o=some (t,e)) {j:Nat} (hj:j<all.length)
  (hc:NJ all cl j->Jk (A7 [] all) j i=false) {row:List V} (hr:AI (S j).bx t=some row):AI (S (j+1)).bx t=some row:=by
 have hg:all[j]?=some all[j]:=zfX hj;have pb:∀ (σ:St) (d:Option Nat) (v:V),(putS σ d v).bx=σ.bx:=λσ d v=>by cases d<;>rfl
 rcases hst j _ hg with ⟨hbn,_,v,σ1,h1,h2⟩ | ⟨_,_,h2⟩ | ⟨_,_,_,h2⟩
 ·cases hso:IN all[j] with
  | false =>rw[h2,pb];refine KG (s:=(S j).s) (bx:=(S j).bx) (h:=(S j).h) h1 (λt' x y he=>?_) hr;unfold IN at hso;rw[he] at hso;cases hso
  | true =>
   have hop:∃ u x y,all[j].op = .store u x y:=by
    unfold IN at hso;split at hso
    ·rename_i he;exact ⟨_,_,_,he⟩
    ·cases hso
   obtain ⟨u,x,y,hop⟩:=hop;have hw:He all[j]=true:=by unfold He;rw[hop]
   have hf:=hG.wr j _ hg hw;have hi:FD all[j]=false:=by unfold FD;rw[hop]
   have hcj:cl j=false:=by
    cases hcj:cl j with
    | false=>rfl
    | true =>obtain ⟨t',a',hop',_⟩:=hG.stat j _ hg hcj hbn;rw[hop'] at hop;cases hop
   obtain ⟨hci,_,_,hm⟩:=Hv hb;exact (hkp j _ hg (by unfold Lg;rw[hf];rfl) o (ze9 hg hi hcj ho hci (hc ⟨hf,⟨_,hg,hi⟩,hcj⟩) hm)).2 t e hm row hr
 ·rw[h2,pb];exact hr
 ·rw[h2,pb];exact hr
theorem Nk {all:List Oper}{cl:Nat->Bool} (hG:Graph all cl) {i j:Nat}{o p:Oper}{t e:Nat} (ho:all[i]?=some o) (hb:FF cl i o=some (t,e)) (hp:all[j]?=some p) (hji:j<=i):Jk (A7 [] all) j i=false:=by
 cases hc:Jk (A7 [] all) j i with
 | false=>rfl
 | true =>
  exfalso;unfold Jk at hc;split at hc
  ·rename_i h
   have:=XD hG j p i hp h;omega
  ·rw[(hG.box i o t e ho hb).1] at hc;simp at hc
theorem ze4 (hw:X.wide=false) (hX:X.ty=AL P) (hE:∀ t,X.cmp t=true->EqOk P t) (hC:SC P X.call) {all:List Oper}{cl:Nat->Bool}{S:Nat->St} (hG:Graph all cl) (hst:∀ (j:Nat) (o:Oper),all[j]?=some o->LX X lo all (Lg all cl) cl j o (S j) (S (j+1)))
  (hkp:∀ (j:Nat) (o:Oper),all[j]?=some o->MJ X (Lg all cl) (Xz (A7 [] all) all cl) j (S j) (S (j+1))) (hd:∀ (j:Nat) (o:Oper),all[j]?=some o->∀ t,o.dst=some t->t<nt) (ho:Ok lo base nt ρ β (S 0) a w) (hbox:∀ (j:Nat) (o:Oper),all[j]?=some o->zbk X cl j o β (S 0).bx):Env P X lo base nt ρ β w all cl S:=by
 have ok:∀ j,j<=all.length->∃ ρ' β' a' w',Ok lo base nt ρ' β' (S j) a' w'/\More ρ β (S 0) w lo base ρ' β' (S j) w'/\∀ i o,j<=i->all[i]?=some o->zbk X cl i o β' (S j).bx:=by
  intro j;induction j with
  | zero=>intro _;exact ⟨ρ,β,a,w,ho,⟨Ext.refl _ _ _ _ _,Ble.refl _,PU⟩,λi o _ hi=>hbox i o hi⟩
  | succ j ih =>
   intro hj;obtain ⟨ρ1,β1,a1,w1,ho1,hm1,hbx1⟩:=ih (by omega);have hg:all[j]?=some all[j]:=zfX (by omega);obtain ⟨ρ2,β2,a2,w2,ho2,hm2,hn2⟩:=(PP hX hE hC (hst j _ hg) (hbx1 j _ (zfH _) hg) (hd j _ hg) ho1).1;refine ⟨ρ2,β2,a2,w2,ho2,hm1.trans hm2,λi o hji ho t e hb=>?_⟩;obtain ⟨k1,k2,k3,k4⟩:=hbx1 i o (by omega) ho t e hb;have hcm:=Nk hG ho hb hg (by omega);refine ⟨k1,k2,?_,Zq hG hst hkp ho hb (by omega) (λ_=>hcm) k4⟩;cases h2:β2 t with
   | none=>rfl
   | some r =>
    exfalso;rcases hn2 t r k3 h2 with g | ⟨e',g⟩
    ·rw[k4] at g;cases g
    ·rcases hG.pair j i _ o hg ho (by omega) with g1 | ⟨g1,_⟩
     ·rw[hcm] at g1;cases g1
     ·exact MD (t:=t) g1 (by rw[(Hv g).2.2.1];simp) (by unfold EN;rw[(Hv hb).2.2.1];simp)
 have ok2:∀ j,j<=all.length->∃ ρ' β' a' w',Ok lo base nt ρ' β' (S j) a' w'/\More ρ β (S 0) w lo base ρ' β' (S j) w':=λj hj=>by obtain ⟨ρ',β',a',w',h1,h2,_⟩:=ok j hj;exact ⟨ρ',β',a',w',h1,h2⟩
 refine ⟨hw,hG,hst,hbox,hd,ok2,λj hj=>?_,λj hj hb b hbl=>?_,λj hj=>hkp j _ (zfX hj)⟩
 ·obtain ⟨ρ,β,a,w,ho,_,hbx⟩:=ok j (by omega);have hg:all[j]?=some all[j]:=zfX hj;exact (PP hX hE hC (hst j _ hg) (hbx j _ (zfH _) hg) (hd j _ hg) ho).2.1
 ·obtain ⟨ρ,β,a,w,ho,_,hbx⟩:=ok j (by omega);have hg:all[j]?=some all[j]:=zfX hj;cases hf:JY (A7 [] all) all cl j with
  | false=>exact (PP hX hE hC (hst j _ hg) (hbx j _ (zfH _) hg) (hd j _ hg) ho).2.2 (by simp[Lg,hf]) b hbl
  | true =>
   have hi:FD all[j]=true\/cl j=true:=by
    cases hi:FD all[j] with
    | true=>exact .inl rfl
    | false =>
     cases hc:cl j with
     | true=>exact .inr rfl
     | false=>exact absurd ⟨hf,⟨_,hg,hi⟩,hc⟩ hb
   rcases hst j _ hg with ⟨hbn,_,v,σ1,h1,h2⟩ | ⟨_,_,h2⟩ | ⟨_,_,_,h2⟩
   ·have:σ1.h=(S j).h:=by
     rcases hi with hi | hi
     ·exact (Si hw (s:=(S j).s) (bx:=(S j).bx) (h:=(S j).h) hi h1).2.1
     ·obtain ⟨t,a,hop,_⟩:=hG.stat j _ hg hi hbn;rw[hop] at h1;exact (VA (s:=(S j).s) (bx:=(S j).bx) (h:=(S j).h) h1).2.2
    rw[h2];have hh:(putS σ1 all[j].dst v).h=σ1.h:=by cases all[j].dst<;>rfl
    rw[hh,this]
   ·rw[h2];cases all[j].dst<;>rfl
   ·rw[h2];cases all[j].dst<;>rfl
section
variable {all:List Oper}{cl:Nat->Bool}{S:Nat->St}{ρ0:Rho}{β0:Bet}{w0:World} (hV:Env P X lo base nt ρ0 β0 w0 all cl S)
include hV
theorem Env.len_le:∀ {i j:Nat},i<=j->j<=all.length->(S i).h.length<=(S j).h.length:=by
 intro i j hij;induction j with
 | zero=>intro _;rw[show i=0 by omega];exact zfH _
 | succ j ih =>
  intro hj;by_cases e:i=j+1
  ·rw[e];exact zfH _
  ·exact zfE (ih (by omega) (by omega)) (hV.len j (by omega))
theorem Env.same_le {i j:Nat} (hij:i<=j) (hj:j<=all.length) (hb:∀ k,i<=k->k<j->¬ NJ all cl k) {b:Nat} (hbl:b<(S i).h.length):(S j).h[b]?=(S i).h[b]?:=by
 induction j with
 | zero=>rw[show i=0 by omega]
 | succ j ih =>
  by_cases e:i=j+1
  ·rw[e]
  ·rw[hV.same j (by omega) (hb j (by omega) (by omega)) b (zfO hbl (hV.len_le (by omega) (by omega))),ih (by omega) (by omega) λk h1 h2=>hb k h1 (by omega)]
theorem Env.slots {j:Nat}{o:Oper} (ho:all[j]?=some o):∃ v σ1,(S (j+1))=putS σ1 o.dst v/\σ1.s=(S j).s /\
  (∀ t,(AI (S j).bx t).isSome=true->(AI σ1.bx t).isSome=true)/\(¬ NJ all cl j->∀ t row,AI (S j).bx t=some row->AI σ1.bx t=some row):=by
 rcases hV.step j o ho with ⟨hbn,_,v,σ1,h1,h2⟩ | ⟨_,_,h2⟩ | ⟨_,_,_,h2⟩
 ·refine ⟨v,σ1,h2,OA (s:=(S j).s) (bx:=(S j).bx) (h:=(S j).h) h1,λt ht=>Us (s:=(S j).s) (bx:=(S j).bx) (h:=(S j).h) h1 ht,λhb t row ht=>?_⟩;refine KG (s:=(S j).s) (bx:=(S j).bx) (h:=(S j).h) h1 (λu x y he=>hb ?_) ht;have hw:He o=true:=by unfold He;rw[he]
  refine ⟨hV.G.wr j o ho hw,⟨o,ho,by unfold FD;rw[he]⟩,?_⟩;cases hc:cl j with
  | false=>rfl
  | true =>obtain ⟨t',a',hop,_⟩:=hV.G.stat j o ho hc hbn;rw[hop] at he;cases he
 ·exact ⟨_,S j,h2,rfl,λt ht=>ht,λ_ t row ht=>ht⟩
 ·exact ⟨_,S j,h2,rfl,λt ht=>ht,λ_ t row ht=>ht⟩
omit hV in
theorem Kh (σ:St) (d:Option Nat) (v:V):(putS σ d v).bx=σ.bx:=by cases d<;>rfl
omit hV in
theorem SG (σ:St) (d:Option Nat) (v:V):(putS σ d v).h=σ.h:=by cases d<;>rfl
theorem Env.bx_some {i j:Nat} (hij:i<=j) (hj:j<=all.length) {t:Nat} (ht:(AI (S i).bx t).isSome=true):(AI (S j).bx t).isSome=true:=by
 induction j with
 | zero=>rw[show 0=i by omega];exact ht
 | succ j ih =>
  by_cases e:i=j+1
  ·rw[<- e];exact ht
  ·obtain ⟨v,σ1,h1,_,h2,_⟩:=hV.slots (zfX (show j<all.length by omega));rw[h1,Kh];exact h2 t (ih (by omega) (by omega))
theorem Env.bx_same {i j:Nat} (hij:i<=j) (hj:j<=all.length) (hb:∀ k,i<=k->k<j->¬ NJ all cl k) {t:Nat}{row:List V} (ht:AI (S i).bx t=some row):AI (S j).bx t=some row:=by
 induction j with
 | zero=>rw[show 0=i by omega];exact ht
 | succ j ih =>
  by_cases e:i=j+1
  ·rw[<- e];exact ht
  ·obtain ⟨v,σ1,h1,_,_,h2⟩:=hV.slots (zfX (show j<all.length by omega));rw[h1,Kh];exact h2 (hb j (by omega) (by omega)) t row (ih (by omega) (by omega) λk h1 h2=>hb k h1 (by omega))
theorem Env.slot_same {i p t:Nat} (hip:i<=p) (hp:p<=all.length) (hw:∀ j,i<=j->j<p->¬ Wr all j t):Ei (S p).s t=Ei (S i).s t:=by
 induction p with
 | zero=>rw[show i=0 by omega]
 | succ p ih =>
  by_cases e:i=p+1
  ·rw[e]
  ·have hg:all[p]?=some all[p]:=zfX (by omega);obtain ⟨v,σ1,h1,h2,_⟩:=hV.slots hg;rw[<- ih (by omega) (by omega) λj h1 h2=>hw j h1 (by omega),h1];have hne:all[p].dst≠some t:=λh=>hw p (by omega) (by omega) ⟨_,hg,h⟩;cases hd:all[p].dst with
   | none=>simp only[putS];rw[h2]
   | some u =>simp only[putS,IL];rw[if_neg (λh=>hne (by rw[hd,h])),h2]
end
end
end Go.Proofs.YtmgopagfoemomaaGreat.T
namespace Go.Proofs.YtmgopagfoemomaaGreat.T
open Go
def Rho.low (ρ:Rho) (n:Nat):Rho:=λb=>if b<n then ρ b else none
theorem Rho.low_some {ρ:Rho}{n b:Nat}{e:E} (h:ρ.low n b=some e):b<n/\ρ b=some e:=by
 unfold Rho.low at h;split at h
 ·exact ⟨‹_›,h⟩
 ·cases h
theorem Rho.low_of {ρ:Rho}{n b:Nat}{e:E} (hb:b<n) (h:ρ b=some e):ρ.low n b=some e:=by unfold Rho.low;rw[if_pos hb,h]
theorem Rho.low_le (ρ:Rho) (n:Nat):Rle (ρ.low n) ρ:=λb e h=>(Rho.low_some h).2
section
variable {ρ ρt:Rho}{N:Nat}
mutual
theorem VR.low (hN:∀ b e,ρt b=some e->b<N):∀ (x:V) (c ct:Value),VR ρt x ct->VR ρ x c->VR (ρ.low N) x c
 | .int _ _,_,_,_,h=>by simpa [VR] using h
 | .bool _,_,_,_,h=>by simpa [VR] using h
 | .str _,_,_,_,h=>by simpa [VR] using h
 | .nilf,_,_,_,h=>by simpa [VR] using h
 | .nili,_,_,_,h=>by simpa [VR] using h
 | .any,_,_,_,_=>by simp[VR]
 | .ptr none,_,_,_,h=>by simpa [VR] using h
 | .ptr (some (b,i,j)),_,_,ht,h=>by simp only[VR] at ht h ⊢;obtain ⟨et,hb,_⟩:=ht;obtain ⟨e,he,hv⟩:=h;exact ⟨e,Rho.low_of (hN b et hb) he,hv⟩
 | .lp _ _,_,_,_,h=>by simp[VR] at h
 | .sl _ none _ _,_,_,_,h=>by simpa [VR] using h
 | .sl _ (some (b,i)) _ _,_,_,ht,h=>by simp only[VR] at ht h ⊢;obtain ⟨et,_,_,hb,_⟩:=ht;obtain ⟨e,x,cc,he,hv⟩:=h;exact ⟨e,x,cc,Rho.low_of (hN b et hb) he,hv⟩
 | .map none,_,_,_,h=>by simpa [VR] using h
 | .map (some b),_,_,ht,h=>by simp only[VR] at ht h ⊢;obtain ⟨et,hb,_⟩:=ht;obtain ⟨e,he,hv⟩:=h;exact ⟨e,Rho.low_of (hN b et hb) he,hv⟩
 | .fn _ cs,_,_,ht,h=>by simp only[VR] at ht h ⊢;obtain ⟨_,_,yt,_,_,hct⟩:=ht;obtain ⟨fst,cps,ys,hv,hi,hc⟩:=h;exact ⟨fst,cps,ys,hv,hi,VRs.low hN cs _ _ hct hc⟩
 | .ifc _ x,_,_,ht,h=>by simp only[VR] at ht h ⊢;obtain ⟨yt,_,hct⟩:=ht;obtain ⟨y,hv,hc⟩:=h;exact ⟨y,hv,VR.low hN x _ _ hct hc⟩
 | .agg cs,_,_,ht,h=>by simp only[VR] at ht h ⊢;obtain ⟨yt,_,hct⟩:=ht;obtain ⟨ys,hv,hc⟩:=h;exact ⟨ys,hv,VRs.low hN cs _ _ hct hc⟩
 | .tup cs,_,_,ht,h=>by simp only[VR] at ht h ⊢;obtain ⟨yt,_,hct⟩:=ht;obtain ⟨ys,hv,hc⟩:=h;exact ⟨ys,hv,VRs.low hN cs _ _ hct hc⟩
theorem VRs.low (hN:∀ b e,ρt b=some e->b<N):∀ (xs:List V) (cs ct:List Value),VRs ρt xs ct->VRs ρ xs cs->VRs (ρ.low N) xs cs
 | [],_,_,_,h=>by simpa [VRs] using h
 | x :: xs,_,_,ht,h=>by simp only[VRs] at ht h ⊢;obtain ⟨yt,rt,_,h1t,h2t⟩:=ht;obtain ⟨y,r,hy,h1,h2⟩:=h;exact ⟨y,r,hy,VR.low hN x _ _ h1t h1,VRs.low hN xs _ _ h2t h2⟩
end
variable (hN:∀ b e,ρt b=some e->b<N)
include hN
theorem KVR.low:∀ (kv:List (V×V)) (es et:List MapEntry),KVR ρt kv et->KVR ρ kv es->KVR (ρ.low N) kv es
 | [],_,_,_,h=>by simpa [KVR] using h
 | (k,v) :: r,_,_,ht,h=>by simp only[KVR] at ht h ⊢;obtain ⟨yt,rt,_,h1t,h2t,h3t⟩:=ht;obtain ⟨e,t,he,h1,h2,h3⟩:=h;exact ⟨e,t,he,VR.low hN _ _ _ h1t h1,VR.low hN _ _ _ h2t h2,KVR.low r _ _ h3t h3⟩
theorem BR.low {e et:E}{w wt:World}:∀ {k:Blk},BR ρt et k wt->BR ρ e k w->BR (ρ.low N) e k w
 | .rows R el ro rs,ht,h=>by obtain ⟨ct,ft,_,_,_,_,_,_,h7t,_⟩:=ht;obtain ⟨cs,fr,h1,h2,h3,h4,h5,h6,h7,h8⟩:=h;refine ⟨cs,fr,h1,h2,h3,h4,h5,h6,λi row hi=>⟨(h7 i row hi).1,λj v hv=>?_⟩,h8⟩;obtain ⟨c,g1,g2⟩:=(h7 i row hi).2 j v hv;obtain ⟨c',_,g3⟩:=(h7t i row hi).2 j v hv;exact ⟨c,g1,VR.low hN _ _ _ g3 g2⟩
 | .map _ kv,ht,h=>by obtain ⟨_,_,_,h2t⟩:=ht;obtain ⟨es,clock,h1,h2⟩:=h;exact ⟨es,clock,h1,KVR.low hN _ _ _ h2t h2⟩
 | .dead,_,_=>trivial
end
end Go.Proofs.YtmgopagfoemomaaGreat.T
namespace Go.Proofs.YtmgopagfoemomaaGreat.T
open Go
structure Ext0 (lo base:Nat) (ρ:Rho) (n:Nat) (w:World) (ρ':Rho) (w':World):Prop where
 rle:Rle ρ ρ'
 new:∀ b e,ρ b=none->ρ' b=some e->n<=b/\(base<=e.r\/∃ b0 e0,ρ b0=some e0/\lo<=b0/\e0.r=e.r)
 frame:∀ r,r<base->(∀ b e,ρ b=some e->lo<=b->e.r≠r)->w'.heap[r]?=w.heap[r]?
 size:w.heap.size<=w'.heap.size
 os:w'.os=w.os
 tape:w'.tape=w.tape
 output:w'.output=w.output
def BxOk (all:List Oper) (cl:Nat->Bool) (S:Nat->St) (β0:Bet) (L:Nat->Prop) (t:Nat):Prop:=(∃ r0,β0 t=some r0)\/(∃ j,j<all.length/\L j/\AI (S j).bx t=none/\(AI (S (j+1)).bx t).isSome=true)\/(∃ j o e,L j/\all[j]?=some o/\FF cl j o=some (t,e))
theorem BxOk.more {all:List Oper}{cl:Nat->Bool}{S:Nat->St}{β0:Bet}{L:Nat->Prop}{t i:Nat} (h:BxOk all cl S β0 L t):BxOk all cl S β0 (λj=>L j\/j=i) t:=by
 rcases h with h | ⟨j,h1,h2,h3⟩ | ⟨j,o,e,h1,h2⟩
 ·exact .inl h
 ·exact .inr (.inl ⟨j,h1,.inl h2,h3⟩)
 ·exact .inr (.inr ⟨j,o,e,.inl h1,h2⟩)
structure Inv (lo base nt:Nat) (ρ0:Rho) (β0:Bet) (w0:World) (all:List Oper) (cl:Nat->Bool) (S:Nat->St) (L:Nat->Prop) (q:Nat) (ρ:Rho) (β:Bet) (a:Act) (w:World):Prop where
 q1:q<=all.length
 q2:q<all.length->NJ all cl q/\¬ L q
 q3:∀ j,j<q->NJ all cl j->L j
 h:HRel ρ (S q).h w
 f:FRel ρ β (S q).bx w
 s:∀ t p,p<=all.length->(∀ j,Wr all j t->(L j<->j<p))->SV ρ β (Ei (S p).s t) (a.tmps.getD t undef)
 own:∀ t r,β t=some r->base<=r
 hB:base<=w.heap.size
 nt:a.tmps.size=nt
 df:a.defers = []
 x:Ext0 lo base ρ0 (S 0).h.length w0 ρ w
 tot:∀ j,j<all.length->L j->∀ b,(S j).h.length<=b->b<(S (j+1)).h.length->∃ e,ρ b=some e
 ids:∀ b e,ρ b=some e->b<(S 0).h.length\/∃ j,j<all.length/\L j/\(S j).h.length<=b/\b<(S (j+1)).h.length
 bxs:∀ t r,β t=some r->BxOk all cl S β0 L t
theorem Mp:∀ (ts:List Nat) (s:List (Nat×V)) (t:Nat),Ei (NE ts s) t=if t∈ts then Ei s t else .any
 | [],s,t=>rfl
 | u :: ts,s,t=>by
  simp only[NE,IL];by_cases h:u=t
  ·subst h;simp
  ·rw[if_neg h,Mp ts s t];have:t≠u:=Ne.symm h;simp[this]
theorem NW:∀ {xs:List Operand}{t:Nat},Operand.tmp t∈xs->t∈Ml xs
 | [],t,h=>by simp at h
 | x :: xs,t,h=>by
  cases x<;>simp only[Ml,zfL] at h ⊢
  ·rcases h with h | h
   ·injection h with h;exact .inl h
   ·exact .inr (NW h)
  all_goals (rcases h with h | h;cases h;exact NW h)
theorem Tk {xs:List Operand}{s:List (Nat×V)}:∀ x∈xs,ev (NE (Ml xs) s) x=ev s x:=λx hx=>by
 cases x with
 | tmp t=>simp only[ev];rw[Mp,if_pos (NW hx)]
 | _=>rfl
section
variable {P:Program}{X:Ctx}{lo base nt:Nat}{ρ0:Rho}{β0:Bet}{w0:World}{all:List Oper}{cl:Nat->Bool}{S:Nat->St} (hV:Env P X lo base nt ρ0 β0 w0 all cl S)
variable {L:Nat->Prop}{q:Nat}{ρ:Rho}{β:Bet}{a:Act}{w:World} (hI:Inv lo base nt ρ0 β0 w0 all cl S L q ρ β a w)
variable (hcl:∀ (i:Nat) (o:Oper),all[i]?=some o->L i->∀ e∈o.after.toList,DU e=true->L e.on)
variable {i:Nat}{o:Oper} (ho:all[i]?=some o) (hready:∀ e∈o.after.toList,DU e=true->L e.on) (hn:¬ L i)
def Bet.low (βt:Bet) (β:Bet):Bet:=λt=>if (βt t).isSome=true then β t else none
theorem Bet.low_some {βt:Bet}{β:Bet}{t r:Nat} (h:Bet.low βt β t=some r):(βt t).isSome=true/\β t=some r:=by
 unfold Bet.low at h;split at h
 ·exact ⟨‹_›,h⟩
 ·cases h
theorem Bet.low_of {βt:Bet}{β:Bet}{t r:Nat} (hb:(βt t).isSome=true) (h:β t=some r):Bet.low βt β t=some r:=by unfold Bet.low;rw[if_pos hb,h]
include hV hI in
theorem zd9 (hiq:i<=q) (hnb:∀ k,i<=k->k<q->¬ NJ all cl k) :
  ∃ βt:Bet,(∀ t r,β0 t=some r->βt t=some r)/\HRel (ρ.low (S i).h.length) (S i).h w/\FRel (ρ.low (S i).h.length) (Bet.low βt β) (S i).bx w /\
   ∀ t c,SV ρ β (Ei (S i).s t) c->SV (ρ.low (S i).h.length) (Bet.low βt β) (Ei (S i).s t) c:=by
 obtain ⟨ρt,βt,at',wt,hot,hmt⟩:=hV.ok i (zfE hiq hI.q1);refine ⟨βt,λt r hr=>hmt.2.1 t r hr,?_⟩;have hN:∀ b e,ρt b=some e->b<(S i).h.length:=λb e hb=>(hot.h.dom b e hb).1
 have htot:∀ b e,ρ b=some e->b<(S i).h.length->∃ et,ρt b=some et:=by
  intro b e hb hlt;by_cases h0:b<(S 0).h.length
  ·cases h:ρ0 b with
   | none=>have:=(hI.x.new b e h hb).1;omega
   | some e0=>exact ⟨e0,hmt.1.rle b e0 h⟩
  ·exact hmt.1.tot b (by omega) hlt
 refine ⟨⟨λb e hb=>?_,λb e k hb hk=>?_,λb b' e e' hb hb' hr hne=>?_⟩,⟨λt r hr=>?_,λt r hr=>?_,λt t' r h1 h2=>?_,λt r b e h1 h2=>?_⟩,λt c hc=>?_⟩
 ·obtain ⟨h1,h2⟩:=Rho.low_some hb;exact ⟨h1,(hI.h.dom b e h2).2⟩
 ·obtain ⟨h1,h2⟩:=Rho.low_some hb;obtain ⟨et,het⟩:=htot b e h2 h1;have hk':(S q).h[b]?=some k:=by rw[hV.same_le hiq hI.q1 hnb h1];exact hk
  exact BR.low hN (hot.h.blk b et k het hk) (hI.h.blk b e k h2 hk')
 ·obtain ⟨h1,h2⟩:=Rho.low_some hb;obtain ⟨h3,h4⟩:=Rho.low_some hb';have e1:=hV.same_le hiq hI.q1 hnb h1;have e2:=hV.same_le hiq hI.q1 hnb h3;rcases hI.h.inj b b' e e' h2 h4 hr hne with h | h | ⟨⟨x,y,z,h⟩,⟨x',y',z',h'⟩⟩
  ·exact .inl (by unfold Cm at *;rw[<- e1];exact h)
  ·exact .inr (.inl (by unfold Cm at *;rw[<- e2];exact h))
  ·exact .inr (.inr ⟨⟨x,y,z,by rw[<- e1];exact h⟩,⟨x',y',z',by rw[<- e2];exact h'⟩⟩)
 ·obtain ⟨h1,h2⟩:=Bet.low_some hr;obtain ⟨row,cs,el,g1,g2,g3⟩:=hI.f.has t r h2;obtain ⟨rt,hrt⟩:=Option.isSome_iff_exists.1 h1;obtain ⟨rowt,ct,elt,k1,k2,k3⟩:=hot.f.has t rt hrt;have:=hV.bx_same hiq hI.q1 hnb k1;rw[g1] at this;injection this with this;subst this;exact ⟨row,cs,el,k1,g2,VRs.low hN _ _ _ k3 g3⟩
 ·exact hI.f.lt t r (Bet.low_some hr).2
 ·exact hI.f.inj t t' r (Bet.low_some h1).2 (Bet.low_some h2).2
 ·exact hI.f.off t r b e (Bet.low_some h1).2 (Rho.low_some h2).2
 ·have ht:=hot.s t;generalize hv:Ei (S i).s t=v at hc ht;cases v with
  | lp u j =>obtain ⟨r,h1,h2⟩:=hc;obtain ⟨rt,h3,_⟩:=ht;exact ⟨r,Bet.low_of (by rw[h3];rfl) h1,h2⟩
  | _=>exact VR.low hN _ c (at'.tmps.getD t undef) ht hc
include hV hI hcl ho hready hn in
theorem PT {t:Nat} (ht:t∈EN all o):SV ρ β (Ei (S i).s t) (a.tmps.getD t undef) :=
 hI.s t i (zgu (zfI.1 ho).1) λj hw=>Ou hV.G hcl ho hready hn ht hw
include hV hI hcl ho hready hn in
theorem JL {v:V}{σ1:St}{c:Value}{ρ2:Rho}{β2:Bet} (hS:S (i+1)=putS σ1 o.dst v) (h1:σ1.s=(S i).s) (hr:Rle ρ ρ2) (hb:Ble β β2) (hv:SV ρ2 β2 v c) :
  ∀ t p,p<=all.length->(∀ j,Wr all j t->((L j\/j=i)<->j<p))->SV ρ2 β2 (Ei (S p).s t) ((a.put o.dst c).tmps.getD t undef):=by
 intro t p hp hw;by_cases hd:o.dst=some t
 ·have hip:i<p:=(hw i ⟨o,ho,hd⟩).1 (.inr rfl);have hno:∀ j,i+1<=j->j<p->¬ Wr all j t:=λj h2 h3 hwr=>by
   have hL:=(hw j hwr).2 h3;have ht:t∈EN all o:=by unfold EN;rw[hd];simp
   have:=Ou hV.G hcl ho hready hn ht hwr;rcases hL with hL | hL
   ·have:=this.1 hL;omega
   ·omega
  rw[hV.slot_same (i:=i+1) hip hp hno,hS,hd];have hlt:t<a.tmps.size:=by rw[hI.nt];exact hV.dst i o ho t hd
  simp only[putS,IL,if_true,Act.put];rw[zfZ,Array.getElem?_setIfInBounds_self_of_lt hlt];exact hv
 ·have hold:SV ρ β (Ei (S p).s t) (a.tmps.getD t undef):=hI.s t p hp λj hwr=>by
   have hne:j≠i:=λe=>by subst e;obtain ⟨q',h2,h3⟩:=hwr;rw[ho] at h2;injection h2 with h2;subst h2;exact hd h3
   rw[<- hw j hwr];exact ⟨.inl,λh=>h.resolve_right hne⟩
  have:(a.put o.dst c).tmps.getD t undef=a.tmps.getD t undef:=by
   cases hd':o.dst with
   | none=>rfl
   | some u =>have hne:u≠t:=λe=>hd (by rw[hd',e]);simp only[Act.put];rw[zfZ,Array.getElem?_setIfInBounds_ne hne,<- zfZ]
  rw[this];exact hold.mono hr hb
end
end Go.Proofs.YtmgopagfoemomaaGreat.T
namespace Go.Proofs.YtmgopagfoemomaaGreat.T
open Go
variable {w':World}
theorem HRel.ahead {ρ:Rho}{h h':Heap}{w:World} (hh:HRel ρ h w) (hl:h.length<=h'.length) (hs:∀ b,b<h.length->h'[b]?=h[b]?):HRel ρ h' w where
 dom:=λb e hb=>⟨zfO (hh.dom b e hb).1 hl,(hh.dom b e hb).2⟩
 blk:=λb e k hb hk=>hh.blk b e k hb (by rw[<- hs b (hh.dom b e hb).1];exact hk)
 inj:=λb b' e e' h1 h2 hr hne=>by
  have s1:=hs b (hh.dom b e h1).1;have s2:=hs b' (hh.dom b' e' h2).1;rcases hh.inj b b' e e' h1 h2 hr hne with h | h | ⟨⟨x,y,z,h⟩,⟨x',y',z',h'⟩⟩
  ·exact .inl (by unfold Cm at *;rw[s1];exact h)
  ·exact .inr (.inl (by unfold Cm at *;rw[s2];exact h))
  ·exact .inr (.inr ⟨⟨x,y,z,by rw[s1];exact h⟩,⟨x',y',z',by rw[s2];exact h'⟩⟩)
theorem FRel.ahead {ρ:Rho}{β:Bet}{bx bx':List (Nat×List V)}{w:World} (hf:FRel ρ β bx w) (hs:∀ t row,AI bx t=some row->AI bx' t=some row):FRel ρ β bx' w :=
 ⟨λt r hr=>by obtain ⟨row,cs,el,h1,h2,h3⟩:=hf.has t r hr;exact ⟨row,cs,el,hs t row h1,h2,h3⟩,hf.lt,hf.inj,hf.off⟩
section
variable {P:Program}{X:Ctx}{lo base nt:Nat}{ρ0:Rho}{β0:Bet}{w0:World}{all:List Oper}{cl:Nat->Bool}{S:Nat->St} (hV:Env P X lo base nt ρ0 β0 w0 all cl S)
include hV in
theorem zbi {L:Nat->Prop}{ρ:Rho}{β:Bet}{w:World}:∀ (d p:Nat),all.length - p=d->p<=all.length->(∀ j,j<p->NJ all cl j->L j)->(∀ j,p<=j->NJ all cl j->¬ L j)->HRel ρ (S p).h w->FRel ρ β (S p).bx w ->
  ∃ q,q<=all.length/\(q<all.length->NJ all cl q/\¬ L q)/\(∀ j,j<q->NJ all cl j->L j)/\HRel ρ (S q).h w/\FRel ρ β (S q).bx w:=by
 intro d;induction d with
 | zero=>intro p hd hp h1 h2 hh hf;exact ⟨p,hp,λh=>by omega,h1,hh,hf⟩
 | succ d ih =>
  intro p hd hp h1 h2 hh hf;by_cases hb:NJ all cl p
  ·exact ⟨p,hp,λ_=>⟨hb,h2 p (zfH _) hb⟩,h1,hh,hf⟩
  ·refine ih (p+1) (by omega) (by omega) (λj hj hbj=>?_) (λj hj=>h2 j (by omega)) (hh.ahead (hV.len p (by omega)) (hV.same p (by omega) hb)) (hf.ahead λt row ht=>?_)
   ·rcases Nat.lt_or_ge j p with h | h
    ·exact h1 j h hbj
    ·have:j=p:=by omega
     subst this;exact absurd hbj hb
   ·exact hV.bx_same (Nat.le_succ p) (by omega) (λk h3 h4=>by
                                    have:k=p:=by omega
                                    subst this;exact hb) ht
variable {L:Nat->Prop}{q:Nat}{ρ:Rho}{β:Bet}{a:Act}{w:World} (hI:Inv lo base nt ρ0 β0 w0 all cl S L q ρ β a w)
variable (hcl:∀ (i:Nat) (o:Oper),all[i]?=some o->L i->∀ e∈o.after.toList,DU e=true->L e.on)
variable {i:Nat}{o:Oper} (ho:all[i]?=some o) (hready:∀ e∈o.after.toList,DU e=true->L e.on) (hn:¬ L i)
include hV hcl ho hready hn in
theorem R8 {j:Nat} (hb:NJ all cl j) (hi:FD o=false) (hci:cl i=false) (hne:j≠i):L j<->j<i:=by obtain ⟨hf,⟨p,hp,hpi⟩,hpc⟩:=hb;exact LO hV.G hcl ho hp hready hn hne (.inr (V3 hf ho (Ne.symm hne) hi hci))
include hV hI hcl ho hready hn in
theorem XF (hb:NJ all cl i):i=q:=by
 have hi:FD o=false:=by obtain ⟨_,⟨p,hp,hpi⟩,_⟩:=hb;rw[ho] at hp;injection hp with hp;subst hp;exact hpi
 have hci:cl i=false:=hb.2.2;have hil:i<all.length:=(zfI.1 ho).1;rcases Nat.lt_trichotomy i q with h | h | h
 ·exact absurd (hI.q3 i h hb) hn
 ·exact h
 ·obtain ⟨h1,h2⟩:=hI.q2 (by omega);exact absurd ((R8 hV hcl ho hready hn h1 hi hci (by omega)).2 h) h2
include hV hI hcl ho hready hn in
theorem zdD (hb:¬ NJ all cl i) (hi:FD o=false) (hci:cl i=false):i<q/\∀ k,i<=k->k<q->¬ NJ all cl k:=by
 have hil:i<all.length:=(zfI.1 ho).1;have h1:i<q:=by
  rcases Nat.lt_trichotomy i q with h | h | h
  ·exact h
  ·subst h;exact absurd (hI.q2 hil).1 hb
  ·obtain ⟨h1,h2⟩:=hI.q2 (by omega);exact absurd ((R8 hV hcl ho hready hn h1 hi hci (by omega)).2 h) h2
 refine ⟨h1,λk h2 h3 hk=>?_⟩;have hne:k≠i:=λe=>by subst e;exact hb hk
 have:=(R8 hV hcl ho hready hn hk hi hci hne).1 (hI.q3 k h3 hk);omega
include hV hI hcl ho hready hn in
theorem zaX (hb:NJ all cl i) {ρ2:Rho}{β2:Bet}{a':Act} (hh:HRel ρ2 (S (i+1)).h w') (hf:FRel ρ2 β2 (S (i+1)).bx w')
  (hs:∀ t p,p<=all.length->(∀ j,Wr all j t->((L j\/j=i)<->j<p))->SV ρ2 β2 (Ei (S p).s t) (a'.tmps.getD t undef)) (own:∀ t r,β2 t=some r->base<=r) (hB:base<=w'.heap.size) (hnt:a'.tmps.size=nt) (hdf:a'.defers = [])
  (hx:Ext0 lo base ρ0 (S 0).h.length w0 ρ2 w') (htot:∀ j,j<all.length->(L j\/j=i)->∀ b,(S j).h.length<=b->b<(S (j+1)).h.length->∃ e,ρ2 b=some e)
  (hids:∀ b e,ρ2 b=some e->b<(S 0).h.length\/∃ j,j<all.length/\(L j\/j=i)/\(S j).h.length<=b/\b<(S (j+1)).h.length)
  (hbxs:∀ t r,β2 t=some r->BxOk all cl S β0 (λj=>L j\/j=i) t) :
  ∃ q',Inv lo base nt ρ0 β0 w0 all cl S (λj=>L j\/j=i) q' ρ2 β2 a' w':=by
 have hil:i<all.length:=(zfI.1 ho).1;have hi:FD o=false:=by obtain ⟨_,⟨p,hp,hpi⟩,_⟩:=hb;rw[ho] at hp;injection hp with hp;subst hp;exact hpi
 have hci:cl i=false:=hb.2.2;have hq:=XF hV hI hcl ho hready hn hb;obtain ⟨q',g1,g2,g3,g4,g5⟩:=zbi hV (L:=λj=>L j\/j=i) (ρ:=ρ2) (β:=β2) (w:=w') _ (i+1) rfl hil (λj hj hbj=>by
   by_cases e:j=i
   ·exact .inr e
   ·exact .inl (hI.q3 j (by omega) hbj)) (λj hj hbj=>by
   rintro (h | h)
   ·have:=(R8 hV hcl ho hready hn hbj hi hci (by omega)).1 h;omega
   ·omega) hh hf
 exact ⟨q',g1,g2,g3,g4,g5,hs,own,hB,hnt,hdf,hx,htot,hids,hbxs⟩
include hI in
theorem R3 (hb:¬ NJ all cl i) {ρ2:Rho}{β2:Bet}{a':Act} (hh:HRel ρ2 (S q).h w') (hf:FRel ρ2 β2 (S q).bx w')
  (hs:∀ t p,p<=all.length->(∀ j,Wr all j t->((L j\/j=i)<->j<p))->SV ρ2 β2 (Ei (S p).s t) (a'.tmps.getD t undef)) (own:∀ t r,β2 t=some r->base<=r) (hB:base<=w'.heap.size) (hnt:a'.tmps.size=nt) (hdf:a'.defers = [])
  (hx:Ext0 lo base ρ0 (S 0).h.length w0 ρ2 w') (htot:∀ j,j<all.length->(L j\/j=i)->∀ b,(S j).h.length<=b->b<(S (j+1)).h.length->∃ e,ρ2 b=some e)
  (hids:∀ b e,ρ2 b=some e->b<(S 0).h.length\/∃ j,j<all.length/\(L j\/j=i)/\(S j).h.length<=b/\b<(S (j+1)).h.length)
  (hbxs:∀ t r,β2 t=some r->BxOk all cl S β0 (λj=>L j\/j=i) t) :
  ∃ q',Inv lo base nt ρ0 β0 w0 all cl S (λj=>L j\/j=i) q' ρ2 β2 a' w' :=
 ⟨q,hI.q1,λh=>⟨(hI.q2 h).1,λhL=>hL.elim (hI.q2 h).2 λe=>hb (e ▸ (hI.q2 h).1)⟩,λj hj hbj => .inl (hI.q3 j hj hbj),hh,hf,hs,own,hB,hnt,hdf,hx,htot,hids,hbxs⟩
include hI in
theorem Fz {c:Value}:(a.put o.dst c).tmps.size=nt/\(a.put o.dst c).defers = []:=by cases o.dst<;>simp[Act.put,hI.nt,hI.df]
include hV hI hcl ho hready hn in
theorem zc5 (hS:S (i+1)=putS (S i) o.dst (.tup [])):∃ q',Inv lo base nt ρ0 β0 w0 all cl S (λj=>L j\/j=i) q' ρ β (a.put o.dst undef) w:=by
 have hh:(S (i+1)).h=(S i).h:=by rw[hS,SG]
 have hbx:(S (i+1)).bx=(S i).bx:=by rw[hS,Kh]
 have hs:=JL hV hI hcl ho hready hn hS rfl (Rle.refl ρ) (Ble.refl β) (c:=undef) (SV.of (by simp[VR,VRs,undef]));have htot:∀ j,j<all.length->(L j\/j=i)->∀ b,(S j).h.length<=b->b<(S (j+1)).h.length->∃ e,ρ b=some e:=λj hj hL b h1 h2=>by
  rcases hL with hL | rfl
  ·exact hI.tot j hj hL b h1 h2
  ·rw[hh] at h2;omega
 have hids:∀ b e,ρ b=some e->b<(S 0).h.length\/∃ j,j<all.length/\(L j\/j=i)/\(S j).h.length<=b/\b<(S (j+1)).h.length:=λb e hb =>
  (hI.ids b e hb).imp id λ⟨j,h1,h2,h3⟩=>⟨j,h1,.inl h2,h3⟩
 have hbxs:∀ t r,β t=some r->BxOk all cl S β0 (λj=>L j\/j=i) t:=λt r hb=>(hI.bxs t r hb).more
 by_cases hb:NJ all cl i
 ·have hq:=XF hV hI hcl ho hready hn hb;exact zaX hV hI hcl ho hready hn hb (by rw[hh,hq];exact hI.h) (by rw[hbx,hq];exact hI.f) hs hI.own hI.hB (Fz hI).1 (Fz hI).2 hI.x htot hids hbxs
 ·exact R3 hI hb hI.h hI.f hs hI.own hI.hB (Fz hI).1 (Fz hI).2 hI.x htot hids hbxs
end
end Go.Proofs.YtmgopagfoemomaaGreat.T
namespace Go.Proofs.YtmgopagfoemomaaGreat.T
open Go
variable {v:V}{σ1:St}
theorem YV {o:Oper} (h:FD o=true):He o=false:=by
 obtain ⟨dst,op,ty,pos,after,guard⟩:=o;cases op<;>simp only[FD] at h<;>(try cases h)<;>simp only[He]
 rename_i c
 obtain ⟨callee,args0,ts⟩:=c;cases callee<;>simp only at h ⊢
 rename_i b
 cases b<;>simp_all
section
variable {P:Program}{X:Ctx}{lo base nt:Nat}{ρ0:Rho}{β0:Bet}{w0:World}{all:List Oper}{cl:Nat->Bool}{S:Nat->St} (hV:Env P X lo base nt ρ0 β0 w0 all cl S)
variable {L:Nat->Prop}{q:Nat}{ρ:Rho}{β:Bet}{a:Act}{w:World} (hI:Inv lo base nt ρ0 β0 w0 all cl S L q ρ β a w)
variable (hcl:∀ (i:Nat) (o:Oper),all[i]?=some o->L i->∀ e∈o.after.toList,DU e=true->L e.on)
variable {i:Nat}{o:Oper} (ho:all[i]?=some o) (hready:∀ e∈o.after.toList,DU e=true->L e.on) (hn:¬ L i)
variable (hX:X.ty=AL P) (hE:∀ t,X.cmp t=true->EqOk P t) (hC:SC P X.call)
variable {K:Act->World->Prop}{Q:Exit->Act->World->Prop}
 (hK:∀ q' ρ' β' a' w',Inv lo base nt ρ0 β0 w0 all cl S (λj=>L j\/j=i) q' ρ' β' a' w'->K a' w')
def rd (o:Oper) (s:List (Nat×V)):List (Nat×V):=NE (Ml o.op.operands.toList) s
include hV hI hcl ho hready hn in
theorem WA {ρ':Rho}{β':Bet} (h:∀ t c,SV ρ β (Ei (S i).s t) c->SV ρ' β' (Ei (S i).s t) c):SRel ρ' β' (rd o (S i).s) a:=by
 intro t;unfold rd;rw[Mp];split
 ·rename_i ht
  exact h t _ (PT hV hI hcl ho hready hn (by unfold EN Wy;simp[ht]))
 ·exact SV.of (VR.any _)
include hI in
theorem Nc {ρ2:Rho}{w':World} (h:Rle ρ ρ2) (hnew:∀ b e,ρ b=none->ρ2 b=some e->(S 0).h.length<=b/\(base<=e.r\/∃ b0 e0,ρ b0=some e0/\lo<=b0/\e0.r=e.r))
  (hfr:∀ r,r<base->(∀ b e,ρ b=some e->lo<=b->e.r≠r)->w'.heap[r]?=w.heap[r]?) (hs:w.heap.size<=w'.heap.size) (h1:w'.os=w.os) (h2:w'.tape=w.tape) (h3:w'.output=w.output):Ext0 lo base ρ0 (S 0).h.length w0 ρ2 w' where
 rle:=hI.x.rle.trans h
 new:=λb e hb he=>by
  cases hρ:ρ b with
  | some e1 =>have:=h b e1 hρ;rw[he] at this;injection this with this;subst this;exact hI.x.new b _ hb hρ
  | none =>
   obtain ⟨g1,g2⟩:=hnew b e hρ he;refine ⟨g1,?_⟩;rcases g2 with g2 | ⟨b0,e0,g3,g4,g5⟩
   ·exact .inl g2
   ·cases h0:ρ0 b0 with
    | some e1 =>have:=hI.x.rle b0 e1 h0;rw[g3] at this;injection this with this;subst this;exact .inr ⟨b0,_,h0,g4,g5⟩
    | none =>
     rcases (hI.x.new b0 e0 h0 g3).2 with g6 | ⟨b1,e1,g6,g7,g8⟩
     ·exact .inl (by omega)
     ·exact .inr ⟨b1,e1,g6,g7,g8.trans g5⟩
 frame:=λr hr hf=>by
  refine (hfr r hr λb e hb hlo he=>?_).trans (hI.x.frame r hr hf);cases h0:ρ0 b with
  | some e1 =>have:=hI.x.rle b e1 h0;rw[hb] at this;injection this with this;subst this;exact hf b _ h0 hlo he
  | none =>
   rcases (hI.x.new b e h0 hb).2 with g6 | ⟨b1,e1,g6,g7,g8⟩
   ·omega
   ·exact hf b1 e1 g6 g7 (g8.trans he)
 size:=zfE hI.x.size hs
 os:=h1.trans hI.x.os
 tape:=h2.trans hI.x.tape
 output:=h3.trans hI.x.output
include hV hI hcl ho hready hn hX hE hC hK in
theorem VI (hw0:He o=false) (hnb:¬ NJ all cl i) {lo':Nat} (h1:AS X lo' o.dst o.type o.op (S i)=some (v,σ1)) (e2:σ1.h=(S i).h)
  (hk:AS X (S q).h.length o.dst o.type o.op ⟨(S i).s,(S q).bx,(S q).h⟩=some (v,⟨(S i).s,(S q).bx,(S q).h⟩)) (hS:S (i+1)=putS σ1 o.dst v):o.wp P a w K Q:=by
 have hsl:=Js (s':=rd o (S i).s) (λx hx=>Tk x hx) hk;unfold AS at hsl;refine JO (lo:=(S q).h.length) (base:=w.heap.size) (σ:=⟨rd o (S i).s,(S q).bx,(S q).h⟩) (K:=λv σ=>some (v,σ)) (r:=(v,⟨rd o (S i).s,(S q).bx,(S q).h⟩)) hX hE hC hsl (WA hV hI hcl ho hready hn λt c h=>h) hI.h hI.f (zfH _) (zfH _)
  (λhw=>?_) ?_
 ·rw[hw0] at hw;cases hw
 ·intro v' σ' c w' hk' hf;injection hk' with hk';injection hk' with z1 z2;subst z1;subst z2;obtain ⟨ρ',β',f1,f2,f3,f4,f5,f6,f7,f8⟩:=hf;have hρ:ρ'=ρ:=by
   funext b;cases hb:ρ b with
   | some e=>exact f5.rle b e hb
   | none =>
    cases hb':ρ' b with
    | none=>rfl
    | some e =>have g1:=(f5.new b e hb hb').1;have g2:=(f3.dom b e hb').1;exact absurd g2 (zhk.2 g1)
  have hβ:β'=β:=by
   funext t;cases hb:β t with
   | some r=>exact f6 t r hb
   | none =>
    cases hb':β' t with
    | none=>rfl
    | some r =>have g1:=(f7 t r hb hb').2;obtain ⟨row,_,_,g2,_⟩:=f4.has t r hb';have g1:AI (S q).bx t=none:=g1;have g2:AI (S q).bx t=some row:=g2;rw[g1] at g2;cases g2
  subst hρ;subst hβ;have hfr:∀ r,r<w.heap.size->w'.heap[r]?=w.heap[r]?:=λr hr=>f5.frame r hr λb e hb hle=>by have:=(hI.h.dom b e hb).1;exact absurd this (zhk.2 hle)
  have hs:=JL hV hI hcl ho hready hn hS (OA (s:=(S i).s) (bx:=(S i).bx) (h:=(S i).h) h1) (Rle.refl _) (Ble.refl _) f2;have hx:Ext0 lo base ρ0 (S 0).h.length w0 ρ' w':=Nc hI (Rle.refl _) (λb e h1 h2=>by rw[h1] at h2;cases h2) (λr hr _=>hfr r (zfO hr hI.hB)) f5.size f5.os f5.tape f5.output;have hh1:(S (i+1)).h=(S i).h:=by rw[hS,SG];exact e2
  obtain ⟨q',hI'⟩:=R3 hI (i:=i) hnb (a':=a.put o.dst c) (w':=w') f3 f4 hs hI.own (zfE hI.hB f5.size) (Fz hI).1 (Fz hI).2 hx
   (λj hj hL b g1 g2=>by
    rcases hL with hL | rfl
    ·exact hI.tot j hj hL b g1 g2
    ·rw[hh1] at g2;omega)
   (λb e hb=>(hI.ids b e hb).imp id λ⟨j,h1,h2,h3⟩=>⟨j,h1,.inl h2,h3⟩)
   (λt r hb=>(hI.bxs t r hb).more)
  exact hK _ _ _ _ _ hI'
include hV hI hcl ho hready hn hX hE hC hK in
theorem zbI (hi:FD o=true) {lo':Nat} (h1:AS X lo' o.dst o.type o.op (S i)=some (v,σ1)) (hS:S (i+1)=putS σ1 o.dst v):o.wp P a w K Q:=by
 obtain ⟨e1,e2,hk⟩:=Si hV.nar (s:=(S i).s) (bx:=(S i).bx) (h:=(S i).h) hi h1;exact VI hV hI hcl ho hready hn hX hE hC hK (YV hi) (λhb=>by
  obtain ⟨_,⟨p,hp,hpi⟩,_⟩:=hb;rw[ho] at hp;injection hp with hp;subst hp;rw[hi] at hpi;cases hpi) h1 e2 (hk _ _ _) hS
include hV in
theorem zaS {p p':Nat} (hpp:p<=p') (hp':p'<=all.length) {u:Nat}
  (hno:∀ k,p<=k->k<p'->NJ all cl k->∀ row,AI (S k).bx u=some row->AI (S (k+1)).bx u=some row) {row:List V} (hr:AI (S p).bx u=some row):AI (S p').bx u=some row:=by
 induction p' with
 | zero=>rw[show 0=p by omega];exact hr
 | succ p' ih =>
  by_cases e:p=p'+1
  ·rw[<- e];exact hr
  ·have h0:=ih (by omega) (by omega) λk h1 h2=>hno k h1 (by omega);by_cases hb:NJ all cl p'
   ·exact hno p' (by omega) (by omega) hb row h0
   ·exact hV.bx_same (Nat.le_succ p') (by omega) (λk h1 h2=>by rw[show k=p' by omega];exact hb) h0
include hV in
theorem zaV {p p':Nat} (hpp:p<=p') (hp':p'<=all.length) {b i0 j n:Nat} (hbl:b<(S p).h.length)
  (hno:∀ k,p<=k->k<p'->NJ all cl k->ld (S (k+1)).h b i0 j n=ld (S k).h b i0 j n):ld (S p').h b i0 j n=ld (S p).h b i0 j n:=by
 induction p' with
 | zero=>rw[show 0=p by omega]
 | succ p' ih =>
  by_cases e:p=p'+1
  ·rw[<- e]
  ·rw[<- ih (by omega) (by omega) λk h1 h2=>hno k h1 (by omega)];by_cases hb:NJ all cl p'
   ·exact hno p' (by omega) (by omega) hb
   ·have hs:=hV.same p' (by omega) hb b (zfO hbl (hV.len_le (by omega) (by omega)));unfold ld Heap.rows?;rw[hs]
include hV hI hcl ho hready hn hX hE hC hK in
theorem zbJ (hc:cl i=true) (hbn:FF cl i o=none) (hend:∀ a,Ej o=some a->za7 (A7 [] all) all cl i a=true\/∃ u j,Ei (S i).s a = .lp u j) {lo':Nat} (h1:AS X lo' o.dst o.type o.op (S i)=some (v,σ1)) (hS:S (i+1)=putS σ1 o.dst v):o.wp P a w K Q:=by
 have hil:i<all.length:=(zfI.1 ho).1;obtain ⟨t,x,hop,hst⟩:=hV.G.stat i o ho hc hbn;have hnb:¬ NJ all cl i:=λhb=>by rw[hb.2.2] at hc;cases hc
 have h1':=h1;rw[hop] at h1';have e2:σ1.h=(S i).h:=(VA (s:=(S i).s) (bx:=(S i).bx) (h:=(S i).h) h1').2.2;have hl:Ej o=some x:=by unfold Ej;rw[hop]
 have keeps:∀ k,NJ all cl k->Jk (A7 [] all) k i=false->(∀ u j,Ei (S i).s x = .lp u j->∀ row,AI (S k).bx u=some row->AI (S (k+1)).bx u=some row) /\
   (∀ b i0 j,Ei (S i).s x = .ptr (some (b,i0,j))->ld (S (k+1)).h b i0 j (X.ty t).size=ld (S k).h b i0 j (X.ty t).size):=λk hb hcm=>by
  obtain ⟨hf,⟨p,hp,hpi⟩,hpc⟩:=hb;have hkl:k<all.length:=(zfI.1 hp).1;cases hsk:Md all x k with
  | true =>
   have hlk:Ei (S k).s x=Ei (S i).s x:=by
    rcases Nat.le_total k i with hki | hik
    ·exact (hV.slot_same hki (zgu hil) λj g1 g2 ⟨q',hq',hd⟩=>NN hsk g1 hq' hd).symm
    ·exact hV.slot_same hik (zgu hkl) λj g1 g2 ⟨q',hq',hd⟩=>NN hst.1 g1 hq' hd
   have hk:=(hV.keep k hkl (by unfold Lg;rw[hf];rfl) o (zeG hp hpi hpc ho hc hcm hl hsk)).1 t (.tmp x) hop;exact ⟨λu j hx row hr=>hk.1 u j row (by show Ei (S k).s x=_;rw[hlk];exact hx) hr,λb i0 j hx=>hk.2 b i0 j (by show Ei (S k).s x=_;rw[hlk];exact hx)⟩
  | false =>
   obtain ⟨u,j,hx⟩:=(hend x hl).resolve_left λhe=>by rw[zar he hp hpi hpc hcm hf] at hsk;cases hsk
   rw[hx];refine ⟨λu' j' e row hr=>?_,λb i0 j' e=>(by cases e)⟩;rcases hV.step k p hp with ⟨_,_,v',σ',g1,g2⟩ | ⟨_,_,g2⟩ | ⟨_,_,_,g2⟩
   ·rw[g2,Kh];refine KG (s:=(S k).s) (bx:=(S k).bx) (h:=(S k).h) g1 (λt' y z he=>?_) hr;have hso:IN p=true:=by unfold IN;rw[he]
    rcases hst.2 k p hp hso with g | g
    ·rw[hcm] at g;cases g
    ·rw[hsk] at g;cases g
   ·rw[g2,Kh];exact hr
   ·rw[g2,Kh];exact hr
 have apart:∀ k,NJ all cl k->(i<=k/\k<q)\/(q<=k/\k<i)->Jk (A7 [] all) k i=false:=λk hb hk=>by
  cases hcm:Jk (A7 [] all) k i with
  | false=>rfl
  | true =>
   exfalso;have hb0:=hb;obtain ⟨hf,⟨p,hp,hpi⟩,hpc⟩:=hb;have hkl:k<all.length:=(zfI.1 hp).1;have hne:k≠i:=λe=>hnb (e ▸ hb0);have hiff:=LO hV.G hcl ho hp hready hn hne (.inr hcm);rcases hk with ⟨g1,g2⟩ | ⟨g1,g2⟩
   ·have:=hiff.1 (hI.q3 k g2 hb0);omega
   ·have hLk:=hiff.2 g2;obtain ⟨hbq,hnq⟩:=hI.q2 (by omega);by_cases e:k=q
    ·exact hnq (e ▸ hLk)
    ·have hcm2:=V3 hbq.1 hp (by omega) hpi hpc;obtain ⟨_,⟨pq,hpq,_⟩,_⟩:=hbq;have hbit:((A7 [] all).getD k 0).testBit q=true:=by
      unfold Jk at hcm2;split at hcm2
      ·rename_i h2
       have:=XD hV.G q pq k hpq h2;omega
      ·exact hcm2
     exact hnq (LV hV.G hcl k _ q hp (hcl k _ hp hLk) hbit)
 have sv:=PT hV hI hcl ho hready hn (t:=x) (by
  unfold EN Wy;rw[hop];simp[Op.operands,Ml])
 have fin:∀ {v':V},v'=v->AS X (S q).h.length o.dst o.type (.load t (.tmp x)) ⟨(S i).s,(S q).bx,(S q).h⟩=some (v',⟨(S i).s,(S q).bx,(S q).h⟩)->o.wp P a w K Q:=λ{v'} e hk2=>by subst e;rw[<- hop] at hk2;exact VI hV hI hcl ho hready hn hX hE hC hK (by unfold He;rw[hop]) hnb h1 e2 hk2 hS
 rcases zbS (s:=(S i).s) (bx:=(S i).bx) (h:=(S i).h) h1' with ⟨u,j,hx⟩ | ⟨b,i0,j,hx⟩
 ·obtain ⟨row,hrow,hk⟩:=zdX (s:=(S i).s) (bx:=(S i).bx) (h:=(S i).h) hx h1';have hxl:Ei (S i).s x = .lp u j:=hx;rw[hxl] at sv;obtain ⟨r,hr,_⟩:=sv;obtain ⟨row',_,_,hrow',_⟩:=hI.f.has u r hr;have hq:AI (S q).bx u=some row:=by
   rcases Nat.le_total i q with hiq | hqi
   ·exact zaS hV hiq hI.q1 (λk g1 g2 hb=>(keeps k hb (apart k hb (.inl ⟨g1,g2⟩))).1 u j hxl) hrow
   ·have:=zaS hV hqi (zgu hil) (λk g1 g2 hb=>(keeps k hb (apart k hb (.inr ⟨g1,g2⟩))).1 u j hxl) hrow';rw[hrow] at this;injection this with this;subst this;exact hrow'
  exact fin rfl (hk (S q).h.length (S q).bx (S q).h hq)
 ·obtain ⟨cs,hcs,hk⟩:=zcF (s:=(S i).s) (bx:=(S i).bx) (h:=(S i).h) hx h1';have hxl:Ei (S i).s x = .ptr (some (b,i0,j)):=hx;rw[hxl] at sv;have hρ:∃ e,ρ b=some e:=by have sv:VR ρ (.ptr (some (b,i0,j))) (a.tmps.getD x undef):=sv;simp only[VR] at sv;obtain ⟨e,he,_⟩:=sv;exact ⟨e,he⟩
  obtain ⟨e,he⟩:=hρ;have hq:ld (S q).h b i0 j (X.ty t).size=some cs:=by
   rcases Nat.le_total i q with hiq | hqi
   ·have hbl:b<(S i).h.length:=by obtain ⟨R,el,ro,rs,row,g1,_⟩:=zaU hcs;exact (zfI.1 g1).1
    rw[zaV hV hiq hI.q1 hbl (λk g1 g2 hb=>(keeps k hb (apart k hb (.inl ⟨g1,g2⟩))).2 b i0 j hxl)];exact hcs
   ·have hbl:b<(S q).h.length:=(hI.h.dom b e he).1;rw[<- zaV hV hqi (zgu hil) hbl (λk g1 g2 hb=>(keeps k hb (apart k hb (.inr ⟨g1,g2⟩))).2 b i0 j hxl)];exact hcs
  exact fin rfl (hk (S q).h.length (S q).bx (S q).h hq)
include hV hI hcl ho hready hn hX hE hC hK in
theorem zd4 {tb eb:Nat} (hbx:FF cl i o=some (tb,eb)) (hS:S (i+1)=putS (S i) o.dst (.lp tb 0)):o.wp P a w K Q:=by
 have hil:i<all.length:=(zfI.1 ho).1;obtain ⟨hc,hop,hdst,hm⟩:=Hv hbx;obtain ⟨k1,k2,k3,k4⟩:=hV.box i o ho tb eb hbx;have hnb:¬ NJ all cl i:=λhb=>by rw[hb.2.2] at hc;cases hc
 have hM:=(hV.G.box i o tb eb ho hbx).1;have row:∀ p,p<=q->AI (S p).bx tb=some (X.ty eb).zero:=by
  intro p;induction p with
  | zero=>intro _;exact k4
  | succ p ih =>
   intro hp;have hpl:p<all.length:=by have:=hI.q1;omega
   refine Zq hV.G hV.step (λj o' hj=>hV.keep j (zfI.1 hj).1) ho hbx hpl (λhb=>?_) (ih (by omega));have hLp:=hI.q3 p (by omega) hb;cases hcm:Jk (A7 [] all) p i with
   | false=>rfl
   | true =>exfalso;have hg:all[p]?=some all[p]:=zfX hpl;have hne:p≠i:=λe=>hn (e ▸ hLp);have h1:=(LO hV.G hcl ho hg hready hn hne (.inr hcm)).1 hLp;rw[Nk hV.G ho hbx hg (by omega)] at hcm;cases hcm
 have hβ:β tb=none:=by
  cases hb:β tb with
  | none=>rfl
  | some r =>
   exfalso;rcases hI.bxs tb r hb with ⟨r0,g⟩ | ⟨j,g1,g2,g3,_⟩ | ⟨j,o',e',g1,g2,g3⟩
   ·rw[k3] at g;cases g
   ·have:=hV.bx_some (zgr j) (zgu g1) (t:=tb) (by rw[k4];rfl);rw[g3] at this;cases this
   ·have hne:j≠i:=λe=>hn (e ▸ g1);have d1:=(Hv g3).2.2.1;rcases Nat.lt_or_ge j i with h | h
    ·rcases hV.G.pair j i o' o g2 ho h with g4 | ⟨g4,_⟩
     ·rw[Nk hV.G ho hbx g2 (zgu h)] at g4;cases g4
     ·exact MD (t:=tb) g4 (by rw[d1];simp) (by unfold EN;rw[hdst];simp)
    ·rcases hV.G.pair i j o o' ho g2 (by omega) with g4 | ⟨g4,_⟩
     ·rw[Nk hV.G g2 g3 ho h] at g4;cases g4
     ·exact MD (t:=tb) g4 (by rw[hdst];simp) (by unfold EN;rw[d1];simp)
 have h1:=Sj (lo':=(S q).h.length) (s:=rd o (S i).s) (h:=(S q).h) (bx:=Jp tb (S q).bx) hop hdst k1 k2 (by rw[Fi,if_pos rfl]);unfold AS at h1;have hf0:FRel ρ β (Jp tb (S q).bx) w:=hI.f.sub λt r hr=>by rw[Fi,if_neg (λe=>by rw[e,hβ] at hr;cases hr)]
 refine JO (lo:=(S q).h.length) (base:=w.heap.size) (σ:=⟨rd o (S i).s,Jp tb (S q).bx,(S q).h⟩) (K:=λv σ=>some (v,σ)) (r:=(.lp tb 0,_)) hX hE hC h1 (WA hV hI hcl ho hready hn λt c h=>h) hI.h hf0 (zfH _) (zfH _)
  (λhw=>by unfold He at hw;rw[hop] at hw;cases hw) ?_
 intro v' σ' c w' hk' hf;injection hk' with hk';injection hk' with z1 z2;subst z1;subst z2;obtain ⟨ρ',β',f1,f2,f3,f4,f5,f6,f7,f8⟩:=hf;have hρ:ρ'=ρ:=by
  funext b;cases hb:ρ b with
  | some e=>exact f5.rle b e hb
  | none =>
   cases hb':ρ' b with
   | none=>rfl
   | some e =>have g1:=(f5.new b e hb hb').1;have g2:=(f3.dom b e hb').1;exact absurd g2 (zhk.2 g1)
 subst hρ;have hfr:∀ r,r<w.heap.size->w'.heap[r]?=w.heap[r]?:=λr hr=>f5.frame r hr λb e hb hle=>by have:=(hI.h.dom b e hb).1;exact absurd this (zhk.2 hle)
 have hF:FRel ρ' β' (S q).bx w':=f4.sub λt r hr=>by
  show AI (S q).bx t=AI ((tb,(X.ty eb).zero) :: Jp tb (S q).bx) t;rw[BA,Fi];by_cases e:tb=t
  ·rw[if_pos e,<- e];exact row q (zfH _)
  ·rw[if_neg e,if_neg (λe'=>e e'.symm)]
 have hs:=JL hV hI hcl ho hready hn hS rfl (Rle.refl _) f6 f2;have hx:Ext0 lo base ρ0 (S 0).h.length w0 ρ' w':=Nc hI (Rle.refl _) (λb e h1 h2=>by rw[h1] at h2;cases h2) (λr hr _=>hfr r (zfO hr hI.hB)) f5.size f5.os f5.tape f5.output;have hh1:(S (i+1)).h=(S i).h:=by rw[hS,SG]
 obtain ⟨q',hI'⟩:=R3 hI (i:=i) hnb (ρ2:=ρ') (β2:=β') (a':=a.put o.dst c) (w':=w') f3 hF hs (λt r hr=>by
   cases hb:β t with
   | some r0 =>have:=f6 t r0 hb;rw[hr] at this;injection this with this;subst this;exact hI.own t _ hb
   | none=>exact zfE hI.hB (f7 t r hb hr).1) (zfE hI.hB f5.size) (Fz hI).1 (Fz hI).2 hx
  (λj hj hL b g1 g2=>by
   rcases hL with hL | rfl
   ·exact hI.tot j hj hL b g1 g2
   ·rw[hh1] at g2;omega)
  (λb e hb=>(hI.ids b e hb).imp id λ⟨j,h1,h2,h3⟩=>⟨j,h1,.inl h2,h3⟩)
  (λt r hr=>by
   cases hb:β t with
   | some r0=>exact (hI.bxs t r0 hb).more
   | none =>
    have h7:AI (Jp tb (S q).bx) t=none:=(f7 t r hb hr).2;obtain ⟨row',_,_,g2,_⟩:=f4.has t r hr;have g2:AI ((tb,(X.ty eb).zero) :: Jp tb (S q).bx) t=some row':=g2;rw[BA,h7] at g2;by_cases e:tb=t
    ·exact .inr (.inr ⟨i,o,eb,.inr rfl,ho,by rw[<- e];exact hbx⟩)
    ·rw[if_neg e] at g2;cases g2)
 exact hK _ _ _ _ _ hI'
include hV hI hcl ho hready hn hX hE hC hK in
theorem zd5 (hb:NJ all cl i) (h1:AS X lo o.dst o.type o.op (S i)=some (v,σ1)) (hS:S (i+1)=putS σ1 o.dst v):o.wp P a w K Q:=by
 have hq:=XF hV hI hcl ho hready hn hb;have hil:i<all.length:=(zfI.1 ho).1;have hsl:=Js (s:=(S i).s) (bx:=(S i).bx) (h:=(S i).h) (s':=rd o (S i).s) (λx hx=>Tk x hx) h1;obtain ⟨ρt,βt,at',wt,hot,hmt⟩:=hV.ok i (zgu hil);have hh0:HRel ρ (S i).h w:=by rw[hq];exact hI.h
 have hf0:FRel ρ β (S i).bx w:=by rw[hq];exact hI.f
 unfold AS at hsl;refine JO (lo:=lo) (base:=base) (σ:=⟨rd o (S i).s,(S i).bx,(S i).h⟩) (K:=λv σ=>some (v,σ)) (r:=(v,⟨rd o (S i).s,σ1.bx,σ1.h⟩)) hX hE hC hsl (WA hV hI hcl ho hready hn λt c h=>h) hh0 hf0 hI.hB hot.hlo (λ_=>hI.own) ?_;intro v' σ' c w' hk' hf;injection hk' with hk';injection hk' with z1 z2;subst z1;subst z2;obtain ⟨ρ',β',f1,f2,f3,f4,f5,f6,f7,f8⟩:=hf;have hs:=JL hV hI hcl ho hready hn hS (OA (s:=(S i).s) (bx:=(S i).bx) (h:=(S i).h) h1) f5.rle f6 f2;have e1:(S (i+1)).h=σ1.h:=by rw[hS,SG]
 have e2:(S (i+1)).bx=σ1.bx:=by rw[hS,Kh]
 have hx:Ext0 lo base ρ0 (S 0).h.length w0 ρ' w':=Nc hI f5.rle (λb e h1 h2=>by
   obtain ⟨g1,g2⟩:=f5.new b e h1 h2;exact ⟨zfE (hV.len_le (zgr i) (zgu hil)) g1,g2⟩) f5.frame f5.size f5.os f5.tape f5.output
 obtain ⟨q',hI'⟩:=zaX hV hI hcl ho hready hn hb (ρ2:=ρ') (β2:=β') (a':=a.put o.dst c) (w':=w') (by rw[e1];exact f3) (by rw[e2];exact f4) hs (λt r hr=>by
   cases hb:β t with
   | some r0 =>have:=f6 t r0 hb;rw[hr] at this;injection this with this;subst this;exact hI.own t _ hb
   | none=>exact zfE hI.hB (f7 t r hb hr).1) (zfE hI.hB f5.size) (Fz hI).1 (Fz hI).2 hx
  (λj hj hL b g1 g2=>by
   rcases hL with hL | rfl
   ·obtain ⟨e,he⟩:=hI.tot j hj hL b g1 g2;exact ⟨e,f5.rle b e he⟩
   ·rw[e1] at g2;exact f5.tot b g1 g2)
  (λb e hb=>by
   cases hρ:ρ b with
   | some e0=>exact (hI.ids b e0 hρ).imp id λ⟨j,h1,h2,h3⟩=>⟨j,h1,.inl h2,h3⟩
   | none =>
    exact .inr ⟨i,hil,.inr rfl,(f5.new b e hρ hb).1,by rw[e1];exact (f3.dom b e hb).1⟩)
  (λt r hr=>by
   cases hb:β t with
   | some r0=>exact (hI.bxs t r0 hb).more
   | none =>
    obtain ⟨row,_,_,g2,_⟩:=f4.has t r hr;exact .inr (.inl ⟨i,hil,.inr rfl,(f7 t r hb hr).2,by rw[e2];rw[g2];rfl⟩))
 exact hK _ _ _ _ _ hI'
end
end Go.Proofs.YtmgopagfoemomaaGreat.T
namespace Go.Proofs.YtmgopagfoemomaaGreat.T
open Go
section
variable {P:Program}{X:Ctx}{lo base nt:Nat}{ρ0:Rho}{β0:Bet}{w0:World}{all:List Oper}{cl:Nat->Bool}{S:Nat->St} (hV:Env P X lo base nt ρ0 β0 w0 all cl S)
variable {L:Nat->Prop}{q:Nat}{ρ:Rho}{β:Bet}{a:Act}{w:World} (hI:Inv lo base nt ρ0 β0 w0 all cl S L q ρ β a w)
variable (hcl:∀ (i:Nat) (o:Oper),all[i]?=some o->L i->∀ e∈o.after.toList,DU e=true->L e.on)
variable {i:Nat}{o:Oper} (ho:all[i]?=some o) (hready:∀ e∈o.after.toList,DU e=true->L e.on) (hn:¬ L i)
variable (hX:X.ty=AL P) (hE:∀ t,X.cmp t=true->EqOk P t) (hC:SC P X.call)
variable {K:Act->World->Prop}{Q:Exit->Act->World->Prop}
 (hK:∀ q' ρ' β' a' w',Inv lo base nt ρ0 β0 w0 all cl S (λj=>L j\/j=i) q' ρ' β' a' w'->K a' w')
def Rho.mix (n:Nat) (ρ ρ':Rho):Rho:=λb=>if b<n then ρ b else match ρ b with | some e=>some e | none=>ρ' b
def Bet.mix (β β':Bet):Bet:=λt=>match β t with | some r=>some r | none=>β' t
include hV hI hcl ho hready hn hX hE hC hK in
theorem zcN (hb:¬ NJ all cl i) (hi:FD o=false) (hci:cl i=false) {v:V}{σ1:St} (h1:AS X (S i).h.length o.dst o.type o.op (S i)=some (v,σ1)) (hS:S (i+1)=putS σ1 o.dst v):o.wp P a w K Q:=by
 obtain ⟨hiq,hnb⟩:=zdD hV hI hcl ho hready hn hb hi hci;have hil:i<all.length:=(zfI.1 ho).1;have hsl:=Js (s:=(S i).s) (bx:=(S i).bx) (h:=(S i).h) (s':=rd o (S i).s) (λx hx=>Tk x hx) h1;obtain ⟨βt,hβt,hh0,hf0,hs0⟩:=zd9 hV hI (zgu hiq) hnb;unfold AS at hsl;refine JO (lo:=(S i).h.length) (base:=w.heap.size) (σ:=⟨rd o (S i).s,(S i).bx,(S i).h⟩) (K:=λv σ=>some (v,σ)) (r:=(v,⟨rd o (S i).s,σ1.bx,σ1.h⟩)) hX hE hC hsl (WA hV hI hcl ho hready hn hs0) hh0 hf0 (zfH _) (zfH _) (λhw=>?_) ?_
 ·exact absurd ⟨hV.G.wr i o ho hw,⟨o,ho,hi⟩,hci⟩ hb
 intro v' σ' c w' hk' hf;injection hk' with hk';injection hk' with z1 z2;subst z1;subst z2;obtain ⟨ρ',β',f1,f2,f3,f4,f5,f6,f7,f8⟩:=hf;have e1:(S (i+1)).h=σ1.h:=by rw[hS,SG]
 have e2:(S (i+1)).bx=σ1.bx:=by rw[hS,Kh]
 have hfr:∀ r,r<w.heap.size->w'.heap[r]?=w.heap[r]?:=λr hr=>f5.frame r hr λb e hb hle=>by have:=(Rho.low_some hb).1;exact absurd this (zhk.2 hle)
 have hq:=hI.q1;have hnb':∀ k,i+1<=k->k<q->¬ NJ all cl k:=λk h1 h2=>hnb k (by omega) h2;have hlen1:σ1.h.length<=(S q).h.length:=by rw[<- e1];exact hV.len_le hiq hq
 have hsame1:∀ b,b<σ1.h.length->(S q).h[b]?=σ1.h[b]?:=λb hb=>by rw[<- e1] at hb ⊢;exact hV.same_le hiq hq hnb' hb
 have hfresh:∀ b,(S i).h.length<=b->b<σ1.h.length->ρ b=none:=λb g1 g2=>by
  cases hρ:ρ b with
  | none=>rfl
  | some e =>
   rcases hI.ids b e hρ with g | ⟨j,g3,g4,g5,g6⟩
   ·have:=hV.len_le (zgr i) (zgu hil);omega
   ·have hne:j≠i:=λe=>hn (e ▸ g4);rcases Nat.lt_or_ge j i with h | h
    ·have:=hV.len_le (show j+1<=i by omega) (zgu hil);omega
    ·have:=hV.len_le (show i+1<=j by omega) (zgu g3);rw[e1] at this;omega
 have hnew:∀ b e,ρ b=none->ρ' b=some e->(S i).h.length<=b/\b<σ1.h.length/\w.heap.size<=e.r:=λb e g1 g2=>by
  have hl:ρ.low (S i).h.length b=none:=by unfold Rho.low;split<;>first | exact g1 | rfl
  obtain ⟨g3,g4⟩:=f5.new b e hl g2;refine ⟨g3,(f3.dom b e g2).1,g4.resolve_right ?_⟩
  rintro ⟨b0,e0,g5,g6,_⟩
  have:=(Rho.low_some g5).1;exact absurd this (zhk.2 g6)
 have hmix:∀ b e,Rho.mix (S i).h.length ρ ρ' b=some e->ρ b=some e\/(ρ b=none/\ρ' b=some e):=λb e g=>by
  unfold Rho.mix at g;split at g
  ·exact .inl g
  ·split at g
   ·rename_i e' h';exact .inl (by rw[h',g])
   ·rename_i h';exact .inr ⟨h',g⟩
 have hle:Rle ρ (Rho.mix (S i).h.length ρ ρ'):=λb e g=>by
  unfold Rho.mix;split
  ·exact g
  ·rw[g]
 have hle':Rle ρ' (Rho.mix (S i).h.length ρ ρ'):=λb e g=>by
  have hd:=(f3.dom b e g).1;unfold Rho.mix;split
  ·rename_i hlt
   cases hl:ρ.low (S i).h.length b with
   | some e' =>have:=f5.rle b e' hl;rw[g] at this;injection this with this;subst this;exact (Rho.low_some hl).2
   | none=>have:=(f5.new b e hl g).1;exact absurd hlt (zhk.2 this)
  ·rename_i hge
   rw[hfresh b (zhk.1 hge) hd];exact g
 have hble:Ble β (Bet.mix β β'):=λt r g=>by unfold Bet.mix;rw[g]
 have hnewB:∀ t r,β t=none->β' t=some r->w.heap.size<=r/\AI (S i).bx t=none:=λt r g1 g2=>by
  have hl:Bet.low βt β t=none:=by unfold Bet.low;split<;>first | exact g1 | rfl
  exact f7 t r hl g2
 have hble':Ble β' (Bet.mix β β'):=λt r g=>by
  unfold Bet.mix;cases hb:β t with
  | none=>exact g
  | some r0 =>
   show some r0=some r;by_cases hlk:(βt t).isSome=true
   ·have:=f6 t r0 (Bet.low_of hlk hb);rw[g] at this;exact this.symm
   ·have hl:Bet.low βt β t=none:=by unfold Bet.low;rw[if_neg hlk]
    have hnone:=(f7 t r hl g).2;obtain ⟨row,_,_,g2,_⟩:=f4.has t r g;have hsome1:(AI (S (i+1)).bx t).isSome=true:=by rw[e2];show (AI σ1.bx t).isSome=true;rw[g2];rfl
    exfalso;have hnone:AI (S i).bx t=none:=hnone;rcases hI.bxs t r0 hb with ⟨r1,g3⟩ | ⟨j,g3,g4,g5,g6⟩ | ⟨j,o',e',g3,g4,g5⟩
    ·exact hlk (by rw[hβt t r1 g3];rfl)
    ·have hne:j≠i:=λe=>hn (e ▸ g4);rcases Nat.lt_or_ge j i with h | h
     ·have:=hV.bx_some (show j+1<=i by omega) (zgu hil) g6;rw[hnone] at this;cases this
     ·have:=hV.bx_some (show i+1<=j by omega) (zgu g3) hsome1;rw[g5] at this;cases this
    ·have:=hV.bx_some (zgr i) (zgu hil) (t:=t) (by rw[(hV.box j o' g4 t e' g5).2.2.2];rfl);rw[hnone] at this;cases this
 have hmixB:∀ t r,Bet.mix β β' t=some r->β t=some r\/(β t=none/\β' t=some r):=λt r g=>by
  unfold Bet.mix at g;split at g
  ·rename_i r' h';exact .inl (by rw[h',g])
  ·rename_i h';exact .inr ⟨h',g⟩
 have hs:=JL hV hI hcl ho hready hn hS (OA (s:=(S i).s) (bx:=(S i).bx) (h:=(S i).h) h1) hle hble (c:=c) (f2.mono hle' hble');have hx:Ext0 lo base ρ0 (S 0).h.length w0 (Rho.mix (S i).h.length ρ ρ') w':=Nc hI hle (λb e g1 g2=>by
   rcases hmix b e g2 with g | ⟨_,g⟩
   ·rw[g1] at g;cases g
   ·obtain ⟨g3,_,g4⟩:=hnew b e g1 g;exact ⟨zfE (hV.len_le (zgr i) (zgu hil)) g3,.inl (zfE hI.hB g4)⟩) (λr hr _=>hfr r (zfO hr hI.hB)) f5.size f5.os f5.tape f5.output
 have hH:HRel (Rho.mix (S i).h.length ρ ρ') (S q).h w':=by
  refine ⟨λb e g=>?_,λb e k g hk=>?_,λb b' e e' g g' hr hne=>?_⟩
  ·rcases hmix b e g with g | ⟨_,g⟩
   ·exact ⟨(hI.h.dom b e g).1,zfO (hI.h.dom b e g).2 f5.size⟩
   ·exact ⟨zfO (f3.dom b e g).1 hlen1,(f3.dom b e g).2⟩
  ·rcases hmix b e g with g | ⟨_,g⟩
   ·exact BR.mono hle (hfr _ (hI.h.dom b e g).2) (hI.h.blk b e k g hk)
   ·rw[hsame1 b (f3.dom b e g).1] at hk;exact BR.mono hle' rfl (f3.blk b e k g hk)
  ·rcases hmix b e g with g | ⟨g0,g⟩<;>rcases hmix b' e' g' with g' | ⟨g0',g'⟩
   ·exact hI.h.inj b b' e e' g g' hr hne
   ·have h1:=(hI.h.dom b e g).2;have h2:=(hnew b' e' g0' g').2.2;omega
   ·have h1:=(hI.h.dom b' e' g').2;have h2:=(hnew b e g0 g).2.2;omega
   ·have s1:=hsame1 b (f3.dom b e g).1;have s2:=hsame1 b' (f3.dom b' e' g').1;rcases f3.inj b b' e e' g g' hr hne with h | h | ⟨⟨x,y,z,h⟩,⟨x',y',z',h'⟩⟩
    ·exact .inl (by unfold Cm at *;rw[s1];exact h)
    ·exact .inr (.inl (by unfold Cm at *;rw[s2];exact h))
    ·exact .inr (.inr ⟨⟨x,y,z,by rw[s1];exact h⟩,⟨x',y',z',by rw[s2];exact h'⟩⟩)
 have hF:FRel (Rho.mix (S i).h.length ρ ρ') (Bet.mix β β') (S q).bx w':=by
  refine ⟨λt r g=>?_,λt r g=>?_,λt t' r g g'=>?_,λt r b e g g'=>?_⟩
  ·rcases hmixB t r g with g | ⟨_,g⟩
   ·obtain ⟨row,cs,el,k1,k2,k3⟩:=hI.f.has t r g;exact ⟨row,cs,el,k1,(hfr r (hI.f.lt t r g)).trans k2,VRs.mono hle _ _ k3⟩
   ·obtain ⟨row,cs,el,k1,k2,k3⟩:=f4.has t r g;refine ⟨row,cs,el,?_,k2,VRs.mono hle' _ _ k3⟩;exact hV.bx_same hiq hq hnb' (by rw[e2];exact k1)
  ·rcases hmixB t r g with g | ⟨_,g⟩
   ·exact zfO (hI.f.lt t r g) f5.size
   ·exact f4.lt t r g
  ·rcases hmixB t r g with g | ⟨g0,g⟩<;>rcases hmixB t' r g' with g' | ⟨g0',g'⟩
   ·exact hI.f.inj t t' r g g'
   ·have h1:=hI.f.lt t r g;have h2:=(hnewB t' r g0' g').1;omega
   ·have h1:=hI.f.lt t' r g';have h2:=(hnewB t r g0 g).1;omega
   ·exact f4.inj t t' r g g'
  ·rcases hmixB t r g with g | ⟨g0,g⟩<;>rcases hmix b e g' with g' | ⟨g0',g'⟩
   ·exact hI.f.off t r b e g g'
   ·have h1:=hI.f.lt t r g;have h2:=(hnew b e g0' g').2.2;omega
   ·have h1:=(hI.h.dom b e g').2;have h2:=(hnewB t r g0 g).1;omega
   ·exact f4.off t r b e g g'
 obtain ⟨q',hI'⟩:=R3 hI (i:=i) hb (ρ2:=Rho.mix (S i).h.length ρ ρ') (β2:=Bet.mix β β') (a':=a.put o.dst c) (w':=w') hH hF hs (λt r g=>by
   rcases hmixB t r g with g | ⟨g0,g⟩
   ·exact hI.own t r g
   ·exact zfE hI.hB (hnewB t r g0 g).1) (zfE hI.hB f5.size) (Fz hI).1 (Fz hI).2 hx
  (λj hj hL b g1 g2=>by
   rcases hL with hL | rfl
   ·obtain ⟨e,he⟩:=hI.tot j hj hL b g1 g2;exact ⟨e,hle b e he⟩
   ·rw[e1] at g2;obtain ⟨e,he⟩:=f5.tot b g1 g2;exact ⟨e,hle' b e he⟩)
  (λb e g=>by
   rcases hmix b e g with g | ⟨g0,g⟩
   ·exact (hI.ids b e g).imp id λ⟨j,h1,h2,h3⟩=>⟨j,h1,.inl h2,h3⟩
   ·obtain ⟨g3,g4,_⟩:=hnew b e g0 g;exact .inr ⟨i,hil,.inr rfl,g3,by rw[e1];exact g4⟩)
  (λt r g=>by
   rcases hmixB t r g with g | ⟨g0,g⟩
   ·exact (hI.bxs t r g).more
   ·obtain ⟨row,_,_,g2,_⟩:=f4.has t r g;have g2:AI σ1.bx t=some row:=g2;exact .inr (.inl ⟨i,hil,.inr rfl,(hnewB t r g0 g).2,by rw[e2,g2];rfl⟩))
 exact hK _ _ _ _ _ hI'
end
end Go.Proofs.YtmgopagfoemomaaGreat.T
namespace Go.Proofs.YtmgopagfoemomaaGreat.T
open Go
theorem Wj (e:Edge):Region.binds .any e=DU e:=by obtain ⟨on,g⟩:=e;cases g<;>rfl
section
variable {P:Program}{X:Ctx}{lo base nt:Nat}{ρ0:Rho}{β0:Bet}{w0:World}{ops:Array Oper}{cl:Nat->Bool}{S:Nat->St} (hV:Env P X lo base nt ρ0 β0 w0 ops.toList cl S)
variable (hX:X.ty=AL P) (hE:∀ t,X.cmp t=true->EqOk P t) (hC:SC P X.call)
variable {Q:Exit->Act->World->Prop}
theorem zbu {n b:Nat} (hn:n<=ops.toList.length) (h1:(S 0).h.length<=b) (h2:b<(S n).h.length):∃ j,j<n/\(S j).h.length<=b/\b<(S (j+1)).h.length:=by
 induction n with
 | zero=>omega
 | succ n ih =>
  by_cases h:b<(S n).h.length
  ·obtain ⟨j,g1,g2⟩:=ih (by omega) h;exact ⟨j,by omega,g2⟩
  ·exact ⟨n,by omega,by omega,h2⟩
include hV in
theorem zaW {L:Nat->Prop}{q:Nat}{ρ:Rho}{β:Bet}{a:Act}{w:World} (hI:Inv lo base nt ρ0 β0 w0 ops.toList cl S L q ρ β a w) (hall:∀ j,j<ops.toList.length->L j) :
  Ok lo base nt ρ β (S ops.toList.length) a w/\Ext lo base ρ0 (S 0).h w0 ρ (S ops.toList.length).h w:=by
 have hq:q=ops.toList.length:=by
  rcases Nat.lt_or_ge q ops.toList.length with h | h
  ·exact absurd (hall q h) (hI.q2 h).2
  ·exact Nat.le_antisymm hI.q1 h
 have h1:=hI.h;have h2:=hI.f;rw[hq] at h1 h2;obtain ⟨ρt,βt,at',wt,hot,hmt⟩:=hV.ok _ (zfH _);refine ⟨⟨λt=>?_,h1,h2,hI.own,hI.hB,hot.hlo,hI.nt,hI.df⟩,⟨hI.x.rle,hI.x.new,hI.x.frame,hI.x.size,hI.x.os,hI.x.tape,hI.x.output,hV.len_le (zgr _) (zfH _),hmt.1.pres,λb g1 g2=>?_⟩⟩
 ·refine hI.s t _ (zfH _) λj hw=>?_;obtain ⟨p,hp,_⟩:=hw;have hj:=(zfI.1 hp).1;exact ⟨λ_=>hj,λ_=>hall j hj⟩
 ·obtain ⟨j,g3,g4,g5⟩:=zbu (zfH _) g1 g2;exact hI.tot j g3 (hall j g3) b g4 g5
include hV hX hE hC in
theorem zfb (hend:∀ (i:Nat) (o:Oper),ops.toList[i]?=some o->cl i=true->∀ a,Ej o=some a->za7 (A7 [] ops.toList) ops.toList cl i a=true\/∃ u j,Ei (S i).s a = .lp u j) (hQ:∀ ρ' β' a' w',Ok lo base nt ρ' β' (S ops.toList.length) a' w'->Ext lo base ρ0 (S 0).h w0 ρ' (S ops.toList.length).h w'->Q .normal a' w') :
  ∀ (fuel:Nat) (listed:Array Bool) (q:Nat) (ρ:Rho) (β:Bet) (a:Act) (w:World),listed.size=ops.size->listed.toList.count false<=fuel ->
   (∀ (i:Nat) (o:Oper),ops.toList[i]?=some o->listed.getD i false=true->∀ e∈o.after.toList,DU e=true->listed.getD e.on false=true) ->
   Inv lo base nt ρ0 β0 w0 ops.toList cl S (λj=>listed.getD j false=true) q ρ β a w->wpAny P .any ops Q fuel listed a w:=by
 have hnone:∀ (listed:Array Bool),listed.size=ops.size->(∀ (i:Nat) (o:Oper),ops.toList[i]?=some o->listed.getD i false=true->∀ e∈o.after.toList,DU e=true->listed.getD e.on false=true)->Region.ready .any ops listed = []->∀ j,j<ops.toList.length->listed.getD j false=true:=by
  intro listed hsz hcl hr j;induction j using Nat.strongRecOn with
  | _ j ih =>
   intro hj;cases hl:listed.getD j false with
   | true=>rfl
   | false =>
    exfalso;have hj':j<ops.size:=by simpa using hj
    have hlt:j<listed.size:=by omega
    have hmem:j∈Region.ready .any ops listed:=by
     unfold Region.ready;rw[List.mem_filter];refine ⟨by simpa using hj',?_⟩;have h1:listed.getD j true=false:=by rw[zfZ,zgq hlt] at hl ⊢;simpa using hl
     rw[h1];have h2:ops[j]?=some ops[j]:=zgq hj';rw[h2];simp only[zg1,zgX,zgx,zfQ];rw[Array.all_eq_true'];intro e he;cases hb:DU e with
     | false=>rw[Wj,hb];rfl
     | true =>have hlt2:=hV.G.edge j ops[j] (by simpa using h2) e (by simpa using he) hb;rw[ih e.on hlt2 (by omega)];simp
    rw[hr] at hmem;cases hmem
 intro fuel;induction fuel with
 | zero =>
  intro listed q ρ β a w hsz hcnt hcl hI;have hall:∀ j,j<ops.toList.length->listed.getD j false=true:=λj hj=>by
   have hj':j<listed.size:=by
                    have:j<ops.size:=by simpa using hj
                    omega
   have h0:listed.toList.count false=0:=by omega
   rw[List.count_eq_zero] at h0;rw[zfZ,zgq hj'];cases hv:listed[j] with
   | true=>rfl
   | false=>exact absurd (by rw[<- hv];simp) h0
  refine ⟨?_,?_⟩
  ·unfold Region.ready;rw[List.filter_eq_nil_iff];intro j hj;have hj2:j<ops.size:=by simpa using hj
   have:=hall j (by simpa using hj2);have hj':j<listed.size:=by omega
   rw[zfZ,zgq hj'] at this;have h1:listed.getD j true=true:=by rw[zfZ,zgq hj'];simpa using this
   rw[h1];simp
  ·obtain ⟨h1,h2⟩:=zaW hV hI hall;exact hQ _ _ _ _ h1 h2
 | succ fuel ih =>
  intro listed q ρ β a w hsz hcnt hcl hI;refine ⟨λhr=>?_,λi hi=>?_⟩
  ·obtain ⟨h1,h2⟩:=zaW hV hI (hnone listed hsz hcl hr);exact hQ _ _ _ _ h1 h2
  ·unfold Region.ready at hi;rw[List.mem_filter] at hi;obtain ⟨hi1,hi2⟩:=hi;have hil:i<ops.size:=by simpa using hi1
   have hil':i<listed.size:=by omega
   have hg:ops[i]?=some ops[i]:=zgq hil;have ho:ops.toList[i]?=some ops[i]:=by simpa using hg
   rw[zfU] at hi2;obtain ⟨hi3,hi4⟩:=hi2;have hli:listed[i]=false:=by rw[zfZ,zgq hil'] at hi3;simpa using hi3
   have hn:¬ (listed.getD i false=true):=by rw[zfZ,zgq hil'];simp[hli]
   have hready:∀ e∈(ops[i]).after.toList,DU e=true->listed.getD e.on false=true:=by rw[hg] at hi4;simp only[zg1,zgX] at hi4;rw[Array.all_eq_true'] at hi4;intro e he hb;have:=hi4 e (by simpa using he);rw[Wj,hb] at this;simpa using this
   have hget:∀ j,(listed.setIfInBounds i true).getD j false=true<->(listed.getD j false=true\/j=i):=by
    intro j;rw[zfZ,zfZ,zgH];by_cases h:i=j
    ·subst h;simp[hil']
    ·rw[if_neg h];constructor
     ·exact .inl
     ·rintro (h1 | h1)
      ·exact h1
      ·exact absurd h1.symm h
   have hcnt':(listed.setIfInBounds i true).toList.count false<=fuel:=by rw[Array.toList_setIfInBounds,List.count_set (by simpa using hil')];have hpos:0<listed.toList.count false:=List.count_pos_iff.2 (by rw[<- hli];simp);simp[hli];simp at hcnt hpos;omega
   have hcl':∀ (j:Nat) (o:Oper),ops.toList[j]?=some o->(listed.setIfInBounds i true).getD j false=true->∀ e∈o.after.toList,DU e=true->(listed.setIfInBounds i true).getD e.on false=true:=by
    intro j o hj hl e he hb;rw[hget] at hl ⊢;rcases hl with hl | rfl
    ·exact .inl (hcl j o hj hl e he hb)
    ·rw[ho] at hj;injection hj with hj;subst hj;exact .inl (hready e he hb)
   have hK:∀ q' ρ' β' a' w',Inv lo base nt ρ0 β0 w0 ops.toList cl S (λj=>listed.getD j false=true\/j=i) q' ρ' β' a' w'->wpAny P .any ops Q fuel (listed.setIfInBounds i true) a' w':=by
    intro q' ρ' β' a' w' hI';refine ih _ q' ρ' β' a' w' (by simpa using hsz) hcnt' hcl' ?_;have:(λj=>(listed.setIfInBounds i true).getD j false=true)=(λj=>listed.getD j false=true\/j=i):=by funext j;exact propext (hget j)
    rw[this];exact hI'
   have hgw:=λb (hk:zao ops.toList (S i).s (ops[i]).guard=some b)=>OY (ρ:=ρ) (β:=β) (a:=a) (s:=(S i).s) (o:=ops[i]) (run:=some true) (skip:=some false) (r:=b) (λj want g t h1 h2 h3=>by
    refine PT hV hI hcl ho hready hn (t:=t) ?_;unfold EN Wy Y6;rw[h1];have h2':ops.toList[j]?=some g:=by simpa using h2
    simp only[h2',h3];simp) hk
   unfold wpOp;rw[hg];simp only;rcases hV.step i _ ho with ⟨hbn,hgo,v,σ1,h1,h2⟩ | ⟨hbn,hgo,h2⟩ | ⟨tb,eb,hbx,h2⟩
   ·rcases hgw _ hgo with ⟨hw,_⟩ | ⟨_,hw⟩
    ·rw[if_pos hw];refine .inl ?_;cases hin:FD ops[i] with
     | true=>exact zbI hV hI hcl ho hready hn hX hE hC hK hin h1 h2
     | false =>
      cases hci:cl i with
      | true=>exact zbJ hV hI hcl ho hready hn hX hE hC hK hci hbn (hend i _ ho hci) h1 h2
      | false =>
      cases hf:JY (A7 [] ops.toList) ops.toList cl i with
      | true =>
       have hc:Lg ops.toList cl i=false:=by simp[Lg,hf]
       rw[hc] at h1;exact zd5 hV hI hcl ho hready hn hX hE hC hK ⟨hf,⟨_,ho,hin⟩,hci⟩ h1 h2
      | false =>
       have hc:Lg ops.toList cl i=true:=by simp[Lg,hf]
       rw[hc] at h1;exact zcN hV hI hcl ho hready hn hX hE hC hK (λhb=>by rw[hb.1] at hf;cases hf) hin hci h1 h2
    ·cases hw
   ·rcases hgw _ hgo with ⟨_,hw⟩ | ⟨hw,_⟩
    ·cases hw
    ·rw[hw];simp only[zgS,if_false];obtain ⟨q',hI'⟩:=zc5 hV hI hcl ho hready hn h2;exact hK _ _ _ _ _ hI'
   ·have hgo:zao ops.toList (S i).s (ops[i]).guard=some true:=by rw[(hV.G.box i _ tb eb ho hbx).2];rfl
    rcases hgw _ hgo with ⟨hw,_⟩ | ⟨_,hw⟩
    ·rw[if_pos hw];exact .inl (zd4 hV hI hcl ho hready hn hX hE hC hK hbx h2)
    ·cases hw
end
theorem LS {X:Ctx}{cl:Nat->Bool}:∀ {l:List Oper}{i:Nat}{bx bx':List (Nat×List V)},Il X cl i l bx=some bx'->(∀ t row,AI bx t=some row->AI bx' t=some row) /\
  ∀ (k:Nat) (o:Oper) (t e:Nat),l[k]?=some o->FF cl (i+k) o=some (t,e)->((X.ty e).known&&(X.ty e).hz&&Em (X.ty e).zero)=true/\X.hb.any (Nat.beq t)=false/\AI bx t=none/\AI bx' t=some (X.ty e).zero
 | [],i,bx,bx',h=>by simp only[Il,Option.some.injEq] at h;subst h;exact ⟨λt row h=>h,λk o t e hk=>by simp at hk⟩
 | p :: l,i,bx,bx',h=>by
  simp only[Il] at h;cases hb:FF cl i p with
  | none =>
   rw[hb] at h;obtain ⟨h1,h2⟩:=LS h;refine ⟨h1,λk o t e hk hbk=>?_⟩;cases k with
   | zero =>simp at hk;subst hk;rw[zgl,hb] at hbk;cases hbk
   | succ k=>exact h2 k o t e (by simpa using hk) (by rw[<- hbk];congr 1;omega)
  | some z =>
   obtain ⟨u,f⟩:=z;rw[hb] at h;simp only at h;split at h
   ·rename_i q1 q2 q3
    obtain ⟨h1,h2⟩:=LS h;have up:∀ t row,AI bx t=some row->AI ((u,(X.ty f).zero) :: bx) t=some row:=λt row ht=>by
     rw[BA];split
     ·rename_i e;rw[<- e,q3] at ht;cases ht
     ·exact ht
    refine ⟨λt row ht=>h1 t row (up t row ht),λk o t e hk hbk=>?_⟩;cases k with
    | zero =>simp at hk;subst hk;rw[zgl,hb] at hbk;injection hbk with hbk;injection hbk with e1 e2;subst e1;subst e2;exact ⟨q1,q2,q3,h1 _ _ (by rw[BA,if_pos rfl])⟩
    | succ k =>
     obtain ⟨g1,g2,g3,g4⟩:=h2 k o t e (by simpa using hk) (by rw[<- hbk];congr 1;omega);refine ⟨g1,g2,?_,g4⟩;rw[BA] at g3;split at g3
     ·cases g3
     ·exact g3
   ·cases h
theorem zeA {P:Program}{X:Ctx} (hw:X.wide=false) (hm:P.follows .mixedOrders=true) (hX:X.ty=AL P) (hE:∀ t,X.cmp t=true->EqOk P t) (hC:SC P X.call):X9 P X:=by
 intro lo base nt R r ρ β σ bx a w id ops k Q hd hdr hbx hk ho hQ;obtain ⟨S,h0,hkS,hst⟩:=Zn ops.toList 0 _ rfl hk;obtain ⟨hb1,hb2⟩:=LS hbx;rw[zfY] at hkS;have hG:=zda hdr;have hlps:Wb (S ops.toList.length).s (A7 [] ops.toList) ops.toList (LP X.cl id)=true:=by
  cases he:Wb (S ops.toList.length).s (A7 [] ops.toList) ops.toList (LP X.cl id) with
  | true=>rfl
  | false=>simp only[he] at hkS;cases hkS
 simp only[hlps] at hkS;have hod:Ok lo base nt ρ β (S 0) a w.drew:=by rw[h0];exact ⟨ho.s,ho.h.drew,ho.f.drew.ahead hb1,ho.own,ho.hB,ho.hlo,ho.nt,ho.df⟩
 have hV:Env P X lo base nt ρ β w.drew ops.toList (LP X.cl id) S:=ze4 hw hX hE hC hG (λj o hj=>(hst j o (zgr _) hj).1) (λj o hj=>(hst j o (zgr _) hj).2) (λj o hj t ht=>hd o (zfV hj) t ht) hod (λj o hj t e hb=>by
  obtain ⟨k1,k2,k3,k4⟩:=hb2 j o t e hj (by rw[zfY];exact hb);refine ⟨k1,k2,?_,by rw[h0];exact k4⟩;cases hβ:β t with
  | none=>rfl
  | some r =>
   obtain ⟨row,_,_,g,_⟩:=ho.f.has t r hβ;rw[k3] at g;cases g)
 refine wp_region_any hm ?_;obtain ⟨q,g1,g2,g3,g4,g5⟩:=zbi hV (L:=λ_=>False) (ρ:=ρ) (β:=β) (w:=w.drew) _ 0 rfl (zgr _) (λj hj=>absurd hj (Nat.not_lt_zero _)) (λ_ _ _ h=>h) hod.h hod.f;refine zfb hV hX hE hC (λi o ho hc a' hl=>?_) (λρ' β' a' w' h1 h2=>?_) ops.size _ q ρ β a w.drew (by simp) ?_ (λi o hi hl=>?_) ?_
 ·obtain ⟨t',a2,hop',hst',_⟩:=hG.stat i o ho hc (zaB hl);have hl2:Ej o=some a2:=by unfold Ej;rw[hop']
  rw[hl2] at hl;injection hl with hl;subst hl;have h1:=zfW.1 hlps (o,i) (LG ho);simp only[hc,hl2,zgo,zgL,zgJ] at h1;refine h1.imp (λh=>h) λh1=>?_;have hil:i<ops.toList.length:=(zfI.1 ho).1;rw[hV.slot_same (i:=i) (zgu hil) (zfH _) (λj h2 h3 ⟨q,hq,hd⟩=>NN hst' h2 hq hd)] at h1;generalize Ei (S i).s a2=z at h1;cases z<;>simp only[zfm] at h1<;>first | exact ⟨_,_,rfl⟩ | cases h1
 ·refine hQ _ ρ' β' a' w' hkS h1 ?_;rw[h0] at h2;exact ⟨h2.rle,h2.new,h2.frame,h2.size,h2.os,h2.tape,h2.output,h2.len,h2.pres,h2.tot⟩
 ·simp
 ·exfalso;have:i<ops.size:=by have:=(zfI.1 hi).1;simpa using this
  rw[zfZ] at hl;simp[this] at hl
 ·have hL:(λj=>(Array.replicate ops.size false).getD j false=true)=(λ_=>False):=by funext j;apply propext;rw[zfZ,Array.getElem?_replicate];split<;>simp
  rw[hL];refine ⟨g1,λh=>⟨(g2 h).1,λx=>x⟩,λj hj hb=>(g3 j hj hb).elim,g4,g5,λt p hp hw=>?_,hod.own,hod.hB,hod.nt,hod.df,⟨Rle.refl _,λb e h1 h2=>(by rw[h1] at h2;cases h2),λ_ _ _=>rfl,zfH _,rfl,rfl,rfl⟩,λj _ h=>h.elim,λb e hb => .inl (hod.h.dom b e hb).1,λt r hb => .inl ⟨r,hb⟩⟩;rw[hV.slot_same (zgr p) hp λj _ h2 h3=>((hw j h3).2 h2).elim];exact hod.s t
end Go.Proofs.YtmgopagfoemomaaGreat.T
namespace Go.Proofs.YtmgopagfoemomaaGreat.T
open Go
variable {n:Nat}{t:TypeId}{H:List (Nat×Hint)}
def zd2:TypeDesc->Bool
 | .int _=>true
 | .bool=>true
 | .string=>true
 | _=>false
def P9 (P:Program) (n:Nat) (g:TypeId->Bool):List Field->Nat->Bool
 | [],_=>true
 | f :: fs, off => match f.name != "_" && Nat.beq f.offset off && g f.type && Nat.beq (AL P f.type).size (FO P n f.type).length with
  | true=>P9 P n g fs (off+(FO P n f.type).length)
  | false=>false
def IB (P:Program):Nat->TypeId->Bool
 | 0,_=>false
 | n+1,t=>match (AL P t).known,P.underlying t with
  | true,some (.struct fs)=>match P.stoodInHeld t with
   | true=>false
   | false=>P9 P n (IB P n) fs.toList 0
  | true,some d=>zd2 d
  | _,_=>false
section
variable {P:Program}{ρ:Rho}
theorem FK:∀ {ss:List Sh}{xs:List V},Eu ss xs=true->xs.length=ss.length
 | [],[],_=>rfl
 | [],_ :: _,h=>by simp[Eu] at h
 | _ :: _,[],h=>by simp[Eu] at h
 | s :: ss,x :: xs,h=>by
  simp only[Eu] at h;split at h
  ·simp[FK h]
  ·cases h
theorem Jv:∀ {ss ss':List Sh}{xs:List V},Eu (ss++ss') xs=true->Eu ss (xs.take ss.length)=true/\Eu ss' (xs.drop ss.length)=true
 | [],ss',xs,h=>by simpa [Eu] using h
 | s :: ss,ss',[],h=>by simp[Eu] at h
 | s :: ss,ss',x :: xs,h=>by
  simp only[zf9,Eu] at h;split at h
  ·rename_i hs
   obtain ⟨h1,h2⟩:=Jv h;simp[Eu,hs,h1,h2]
  ·cases h
theorem Tl:∀ {k:Nat}{xs ys:List V}{r:Bool},IQ xs ys=some r->∃ r1 r2,IQ (xs.take k) (ys.take k)=some r1/\IQ (xs.drop k) (ys.drop k)=some r2/\r=(r1&&r2)
 | 0,xs,ys,r,h=>⟨true,r,by simp[IQ],by simpa using h,by simp⟩
 | k+1,[],[],r,h=>by simp[IQ] at h;subst h;exact ⟨true,true,by simp[IQ],by simp[IQ],rfl⟩
 | k+1,[],_ :: _,r,h=>by simp[IQ] at h
 | k+1,_ :: _,[],r,h=>by simp[IQ] at h
 | k+1,x :: xs,y :: ys,r,h=>by
  simp only[IQ] at h;split at h
  ·rename_i a b ha hb
   injection h with h;subst h;obtain ⟨r1,r2,h1,h2,h3⟩:=Tl (k:=k) hb;exact ⟨a&&r1,r2,by simp[IQ,ha,h1],by simpa using h2,by rw[h3,Bool.and_assoc]⟩
  ·cases h
theorem Xy {row:List V}{j:Nat} (h:j+n<=row.length):cut row j n=some ((row.drop j).take n):=by
 induction j generalizing row with
 | zero =>
  induction n generalizing row with
  | zero=>simp[cut]
  | succ n ih =>
   cases row with
   | nil=>simp at h
   | cons v r=>simp[cut,ih (row:=r) (by simp at h;omega)]
 | succ j ih =>
  cases row with
  | nil=>simp at h
  | cons v r=>simp only[cut];rw[ih (by simp at h;omega)];simp
theorem SK (h:IB P n t=true) {xs:List V} (hs:Eu (FO P n t) xs=true):∃ v,YI (AL P t).agg xs=some v:=by
 cases n with
 | zero=>simp[IB] at h
 | succ n =>
  simp only[IB] at h;split at h
  ·exact ⟨_,JS (λhA=>by
    rename_i hk hu
    obtain ⟨i,d,hi,hd,_,_,h3,_⟩:=B5 hk;rw[hu] at hd;injection hd with hd;subst hd;rw[h3] at hA;simp[Qj] at hA)⟩
  ·rename_i d hns hk hu
   refine ⟨_,JS λ_=>?_⟩;have hl:=FK hs;have h1:(FO P (n+1) t).length=1:=by cases d<;>simp only[zd2] at h<;>(try cases h)<;>simp[FO,hu]
   rw[h1] at hl;match xs,hl with
   | [x],_=>exact ⟨x,rfl⟩
  ·cases h
theorem zcM {k:IntKind} (h:P.underlying t=some (.int k)):FO P (n+1) t = [.int k]:=by simp[FO,h]
theorem zec:∀ (n:Nat) (t:TypeId),IB P n t=true->∀ (d:Nat),n<=d->∀ (w:World) (xs ys:List V) (v u:V) (r:Bool),Eu (FO P n t) xs=true->Eu (FO P n t) ys=true ->
  YI (AL P t).agg xs=some v->YI (AL P t).agg ys=some u->IQ xs ys=some r->∀ c c',VR ρ v c->VR ρ u c'->(Op.equalIn d t c c').run P w = .ok r w:=by
 intro n;induction n with
 | zero=>intro t h;simp[IB] at h
 | succ n ih =>
  intro t h d hd w xs ys v u r hx hy hv hu hr c c' hc hc';obtain ⟨d,rfl⟩:∃ m,d=m+1:=⟨d - 1,by omega⟩;simp only[IB] at h;split at h
  ·rename_i fs hk hun
   split at h
   ·cases h
   rename_i hst
   obtain ⟨i,d',hi,hd',_,_,h3,_⟩:=B5 hk;rw[hun] at hd';injection hd' with hd';subst hd';rw[h3] at hv hu;simp only[Qj,YI,Option.some.injEq] at hv hu;subst hv;subst hu;simp only[VR] at hc hc';obtain ⟨ca,rfl,hca⟩:=hc;obtain ⟨cb,rfl,hcb⟩:=hc';have hfo:P.fieldsOf t=fs:=by simp[Program.fieldsOf,hun]
   rw[run_equalIn_agg w d t ca cb (by rw[hun,hfo]) hst,hfo];have hsh:FO P (n+1) t=fs.toList.flatMap λf=>FO P n f.type:=by simp[FO,hun]
   rw[hsh] at hx hy;have hlen:xs.length=ys.length:=by rw[FK hx,FK hy]
   have main:∀ (l:List Field) (off:Nat) (r:Bool),P9 P n (IB P n) l off=true->off+(l.flatMap λf=>FO P n f.type).length=xs.length->Eu (l.flatMap λf=>FO P n f.type) (xs.drop off)=true->Eu (l.flatMap λf=>FO P n f.type) (ys.drop off)=true ->
     IQ (xs.drop off) (ys.drop off)=some r->(Op.eqFields d ca cb l).run P w = .ok r w:=by
    intro l;induction l with
    | nil =>intro off r _ _ h1 h2 h3;have e1:=FK h1;have e2:=FK h2;simp only[List.flatMap_nil,zg2] at e1 e2;rw[zfM e1,zfM e2] at h3;simp[IQ] at h3;subst h3;simp[Op.eqFields]
    | cons f l ihl =>
     intro off r hf hoff h1 h2 h3;simp only[P9] at hf;split at hf
     ·rename_i hcond
      simp only[zfU,bne_iff_ne,ne_eq] at hcond;obtain ⟨⟨⟨hn,ho⟩,hg⟩,hsz⟩:=hcond;have ho:=zfP ho;have hsz:=zfP hsz;simp only[zhd] at h1 h2 hoff;rw[zfR] at hoff;obtain ⟨h1a,h1b⟩:=Jv h1;obtain ⟨h2a,h2b⟩:=Jv h2;obtain ⟨r1,r2,g1,g2,g3⟩:=Tl (k:=(FO P n f.type).length) h3;have hkn:(AL P f.type).known=true:=by
       cases n with
       | zero=>simp[IB] at hg
       | succ n =>
        simp only[IB] at hg;split at hg
        ·assumption
        ·assumption
        ·cases hg
      have c1:cut xs off (AL P f.type).size=some ((xs.drop off).take (FO P n f.type).length):=by rw[hsz];exact Xy (by omega)
      have c2:cut ys off (AL P f.type).size=some ((ys.drop off).take (FO P n f.type).length):=by rw[hsz];exact Xy (by omega)
      obtain ⟨v,hv⟩:=SK hg h1a;obtain ⟨u,hu⟩:=SK hg h2a;obtain ⟨c,k1,k2⟩:=Mk (w:=w) hkn hca c1 hv;obtain ⟨c',k3,k4⟩:=Mk (w:=w) hkn hcb c2 hu;have hq:=ih f.type hg d (by omega) w _ _ v u r1 h1a h2a hv hu g1 c c' k2 k4;rw[zg9] at h1b h2b g2;rw[zg9] at g2;simp only[Op.eqFields,ne_eq,hn,not_false_eq_true,if_true,Sem.run_bind,ho,k1,k3,Result.andThen_ok,hq];cases r1 with
      | true =>simp only[zgo,zgS,if_false];rw[g3,zfQ];exact ihl _ r2 hf (by omega) h1b h2b g2
      | false=>simp[g3]
     ·cases hf
   exact main fs.toList 0 r h (by rw[FK hx];omega) (by simpa using hx) (by simpa using hy) (by simpa using hr)
  ·rename_i d' hns hk hun
   obtain ⟨i,d'',hi,hd',_,_,h3,_⟩:=B5 hk;rw[hun] at hd';injection hd' with hd';subst hd';have key:∀ s,FO P (n+1) t = [s]->Qj d'=false->(∀ y,Lx s y=true->∀ x,Lx s x=true->∀ r,zcj x y=some r->∀ c c',VR ρ x c->VR ρ y c'->(Op.equalIn (d+1) t c c').run P w = .ok r w)->(Op.equalIn (d+1) t c c').run P w = .ok r w:=by
    intro s hsh hag hs;rw[hsh] at hx hy;rw[h3,hag] at hv hu;match xs,ys,FK hx,FK hy with
    | [x],[y],_,_ =>
     simp only[YI,Option.some.injEq] at hv hu;subst hv;subst hu;simp only[Eu] at hx hy;simp only[IQ] at hr;refine hs y ?_ x ?_ r ?_ c c' hc hc'
     ·cases hz:Lx s y<;>simp[hz] at hy ⊢
     ·cases hz:Lx s x<;>simp[hz] at hx ⊢
     ·cases hz:zcj x y<;>simp[hz] at hr ⊢;exact hr
   cases d'<;>simp only[zd2] at h<;>(try cases h)
   ·refine key .bool (by simp[FO,hun]) rfl (λy hy x hx r hr c c' hc hc'=>?_);cases x<;>simp[Lx] at hx;cases y<;>simp[Lx] at hy
    simp[zcj] at hr;simp[VR] at hc hc';subst hc;subst hc';subst hr;exact run_equalIn_bool' w d t _ _ hun
   ·refine key _ (zcM hun) rfl (λy hy x hx r hr c c' hc hc'=>?_);cases x<;>simp[Lx] at hx;cases y<;>simp[Lx] at hy
    subst hx;subst hy;simp[zcj] at hr;simp[VR] at hc hc';subst hc;subst hc';subst hr;exact run_equalIn_int w d t _ _ _ _ hun
   ·refine key .str (by simp[FO,hun]) rfl (λy hy x hx r hr c c' hc hc'=>?_);cases x<;>simp[Lx] at hx;cases y<;>simp[Lx] at hy
    simp[zcj] at hr;simp[VR] at hc hc';subst hc;subst hc';subst hr;exact run_equalIn_string w d t _ _ hun
  ·cases h
def HK (b:Bool) (n:Nat) (cs:Array Value):List Field->Sem Unit
 | []=>pure ()
 | f :: fs =>
  if f.name ≠ "_" then do
   let a <- part f.type cs f.offset
   Instr.checkKey b n f.type a
   HK b n cs fs
  else HK b n cs fs
theorem Nn (w:World) (b:Bool) (d:Nat) (t:TypeId) (cs:Array Value) (fs:Array Field) (ht:P.underlying t=some (.struct fs)) :
  (Instr.checkKey b (d+1) t (.agg cs)).run P w=(HK b d cs fs.toList).run P w:=by
 simp only[Instr.checkKey,Sem.run_bind,run_underlying ht,Result.andThen_ok];rw[<- Array.forIn_toList];generalize fs.toList=l;clear ht;induction l generalizing w with
 | nil=>simp[HK]
 | cons f l ih =>
  simp only[List.forIn_cons,HK,Sem.run_bind,Sem.run_ite];split
  ·generalize (part f.type cs f.offset).run P w=r1;cases r1 with
   | ok a w1 =>
    simp only[Result.andThen_ok];generalize (Instr.checkKey b d f.type a).run P w1=r2;cases r2 with
    | ok u w2 =>simp only[Result.andThen_ok,Sem.run_pure];exact ih w2
    | halt x w2=>simp[Result.andThen]
   | halt x w1=>simp[Result.andThen]
  ·simp only[Sem.run_pure,Result.andThen_ok];exact ih w
theorem zdc:∀ (n:Nat) (t:TypeId),IB P n t=true->∀ (d:Nat),n<=d->∀ (b:Bool) (w:World) (xs:List V) (v:V),Eu (FO P n t) xs=true ->
  YI (AL P t).agg xs=some v->∀ c,VR ρ v c->(Instr.checkKey b d t c).run P w = .ok () w:=by
 intro n;induction n with
 | zero=>intro t h;simp[IB] at h
 | succ n ih =>
  intro t h d hd b w xs v hx hv c hc;obtain ⟨d,rfl⟩:∃ m,d=m+1:=⟨d - 1,by omega⟩;simp only[IB] at h;split at h
  ·rename_i fs hk hun
   split at h
   ·cases h
   rename_i hst
   obtain ⟨i,d',hi,hd',_,_,h3,_⟩:=B5 hk;rw[hun] at hd';injection hd' with hd';subst hd';rw[h3] at hv;simp only[Qj,YI,Option.some.injEq] at hv;subst hv;simp only[VR] at hc;obtain ⟨ca,rfl,hca⟩:=hc;rw[Nn w b d t ca fs hun];have hsh:FO P (n+1) t=fs.toList.flatMap λf=>FO P n f.type:=by simp[FO,hun]
   rw[hsh] at hx;have main:∀ (l:List Field) (off:Nat),P9 P n (IB P n) l off=true->off+(l.flatMap λf=>FO P n f.type).length=xs.length->Eu (l.flatMap λf=>FO P n f.type) (xs.drop off)=true ->
     (HK b d ca l).run P w = .ok () w:=by
    intro l;induction l with
    | nil=>intro off _ _ _;simp[HK]
    | cons f l ihl =>
     intro off hf hoff h1;simp only[P9] at hf;split at hf
     ·rename_i hcond
      simp only[zfU,bne_iff_ne,ne_eq] at hcond;obtain ⟨⟨⟨hn,ho⟩,hg⟩,hsz⟩:=hcond;have ho:=zfP ho;have hsz:=zfP hsz;simp only[zhd] at h1 hoff;rw[zfR] at hoff;obtain ⟨h1a,h1b⟩:=Jv h1;have hkn:(AL P f.type).known=true:=by
       cases n with
       | zero=>simp[IB] at hg
       | succ n =>
        simp only[IB] at hg;split at hg
        ·assumption
        ·assumption
        ·cases hg
      have c1:cut xs off (AL P f.type).size=some ((xs.drop off).take (FO P n f.type).length):=by rw[hsz];exact Xy (by omega)
      obtain ⟨v,hv⟩:=SK hg h1a;obtain ⟨c,k1,k2⟩:=Mk (w:=w) hkn hca c1 hv;have hq:=ih f.type hg d (by omega) b w _ v h1a hv c k2;rw[zg9] at h1b;simp only[HK,ne_eq,hn,not_false_eq_true,if_true,Sem.run_bind,ho,k1,Result.andThen_ok,hq];exact ihl _ hf (by omega) h1b
     ·cases hf
   exact main fs.toList 0 h (by rw[FK hx];omega) (by simpa using hx)
  ·rename_i d' hns hk hun
   cases d'<;>simp only[zd2] at h<;>(try cases h)<;>simp[Instr.checkKey,run_underlying hun]
  ·cases h
def zdk (P:Program) (t:TypeId):Bool:=IB P 8 t && !P.eqGuardType P.depth t&&(AL P t).agg&&(match P.underlying t with | some (.struct _)=>true | _=>false)
theorem zeh (h:zdk P t=true):EqOk P t:=by
 simp only[zdk,zfU,zgG] at h;obtain ⟨⟨⟨h1,h2⟩,h3⟩,h4⟩:=h;have hk:(AL P t).known=true:=by
  simp only[IB] at h1;split at h1
  ·assumption
  ·assumption
  ·cases h1
 have hsh:(AL P t).sh=FO P 8 t:=by obtain ⟨i,d,hi,hd,_⟩:=B5 hk;simp[AL,hi,hd]
 refine ⟨λρ w xs ys ca cb r hx hy hc hc' hr=>?_,h2,λρ w xs ca b hx hc=>?_,?_⟩
 ·rw[hsh] at hx hy;unfold Op.equal Op.maxDepth;exact zec 8 t h1 10000 (by omega) w xs ys (.agg xs) (.agg ys) r hx hy (by rw[h3];rfl) (by rw[h3];rfl) hr _ _ (by simp only[VR];exact ⟨_,rfl,hc⟩) (by simp only[VR];exact ⟨_,rfl,hc'⟩)
 ·rw[hsh] at hx;exact zdc 8 t h1 10000 (by omega) b w xs (.agg xs) hx (by rw[h3];rfl) _ (by simp only[VR];exact ⟨_,rfl,hc⟩)
 ·split at h4
  ·exact ⟨_,‹_›⟩
  ·cases h4
end
def zeL (fn:Func):Bool:=match fn.body with
 | none=>true
 | some c => J6 fn.ntmps c && !(fn.name == "runtime.NumGoroutine")
theorem zcH {P:Program}{C:List Nat} (hm:P.follows .mixedOrders=true) (hC:C.all (zdk P)=true) (hF:P.funcs.all zeL=true):Sound P (zae P C H):=by
 have hcmp:∀ t,(zae P C H).cmp t=true->EqOk P t:=λt ht=>by have ht:C.any (Nat.beq t)=true:=ht;rw[List.any_eq_true] at ht;obtain ⟨u,hu,hb⟩:=ht;have:=zfP hb;subst this;exact zeh (zfW.1 hC _ hu)
 refine ⟨rfl,hcmp,λf fn c hf hb=>?_,λcall f hs=>zeA rfl hm rfl hcmp hs⟩;have:=Array.all_eq_true_iff_forall_mem.1 hF fn (Array.mem_of_getElem? hf);unfold zeL at this;rw[hb] at this;simpa using this
end Go.Proofs.YtmgopagfoemomaaGreat.T
namespace Go.Proofs.YtmgopagfoemomaaGreat.T
open Go
variable {body:St->Option (Ex×St)}{c:Code}{σ:St}{p:Ex×St}{σ':St}{ty:TypeId}{rs:List ResultVar}
def Sup {R:Type} (a:Option R) (A:Nat->Option R):Prop:=∀ r,a=some r->∃ n,∀ m,n<=m->A m=some r
section
variable {R S:Type}
theorem Sup.const (a:Option R):Sup a λ_=>a:=λr h=>⟨0,λ_ _=>h⟩
theorem Sup.none (A:Nat->Option R):Sup none A:=λr h=>by cases h
theorem Sup.bind {a:Option R}{A:Nat->Option R}{f:R->Option S}{F:Nat->R->Option S} (h:Sup a A) (hf:∀ x,Sup (f x) λm=>F m x):Sup (a.bind f) λm=>(A m).bind (F m):=λr hr=>by
 cases a with
 | none=>cases hr
 | some x =>obtain ⟨n1,h1⟩:=h x rfl;obtain ⟨n2,h2⟩:=hf x r hr;refine ⟨n1+n2,λm hm=>?_⟩;show (A m).bind (F m)=some r;rw[h1 m (by omega)];exact h2 m (by omega)
theorem Sup.br {b:Bool}{x y:Option R}{X Y:Nat->Option R} (hx:Sup x X) (hy:Sup y Y):Sup (br b x y) λm=>br b (X m) (Y m):=by
 cases b
 ·exact hy
 ·exact hx
theorem Sup.eBv {v:V}{f:Bool->Option R}{F:Nat->Bool->Option R} (h:∀ b,Sup (f b) λm=>F m b):Sup (eBv v f) λm=>eBv v (F m):=by
 unfold T.eBv;split
 ·exact h _
 ·exact Sup.none _
theorem Sup.guard {all:List Oper}{s:List (Nat×V)}{g:Option (Nat×Bool)}{x y:Option R}{X Y:Nat->Option R} (hx:Sup x X) (hy:Sup y Y):Sup (Jj all s g x y) λm=>Jj all s g (X m) (Y m):=by
 unfold Jj;split
 ·exact hx
 ·split
  ·exact Sup.none _
  ·split
   ·exact Sup.none _
   ·split
    ·split
     ·exact Sup.br hx hy
     ·exact Sup.br hy hx
    ·exact hy
    ·exact Sup.none _
end
theorem QT {body:St->Option (Ex×St)}:∀ {n m:Nat}{σ:St}{p:Ex×St},rounds body n σ=some p->n<=m->rounds body m σ=some p
 | 0,m,σ,p,h,_=>by simp[rounds] at h
 | n+1,m,σ,p,h,hm=>by
  obtain ⟨m,rfl⟩:∃ k,m=k+1:=⟨m - 1,by omega⟩;simp only[rounds] at h ⊢;cases hb:body σ with
  | none=>rw[hb] at h;cases h
  | some q =>
   rw[hb] at h;simp only[zf1] at h ⊢;split at h
   ·exact QT h (by omega)
   ·exact h
theorem Pg {α:Type}{g:Nat->Option α}{r:α}{n:Nat} (h:∀ m,n<=m->g m=some r):No g=some r:=by unfold No;have hx:∃ r,∃ n,∀ m,n<=m->g m=some r:=⟨r,n,h⟩;rw[dif_pos hx];obtain ⟨k,hk⟩:=Classical.choose_spec hx;have h1:=hk (n+k) (by omega);have h2:=h (n+k) (by omega);rw[h1] at h2;exact h2
theorem Lo {α:Type}{g:Nat->Option α}{r:α} (h:No g=some r):∃ n,∀ m,n<=m->g m=some r:=by
 unfold No at h;split at h
 ·rename_i hx
  injection h with h;obtain ⟨n,hn⟩:=Classical.choose_spec hx;exact ⟨n,λm hm=>by have:=hn m hm;rw[<- h];exact this⟩
 ·cases h
theorem OL {id:Nat}{n:Nat} (h:rounds body n σ=some p):GJ c id body σ=some p :=
 Pg (n:=n) λ_ hm=>QT h hm
theorem SN {id:Nat} (h:GJ c id body σ=some p):∃ n,rounds body n σ=some p:=by obtain ⟨n,hn⟩:=Lo h;exact ⟨n,hn n (zfH _)⟩
theorem zeY {id:Nat} (h:body σ=some (.normal,σ')) (hl:GJ c id body σ'=some p):GJ c id body σ=some p:=by obtain ⟨n,hn⟩:=SN hl;refine OL (n:=n+1) ?_;simp only[rounds,h,zf1];exact hn
theorem zeZ {id:Nat}{j:Nat} (h:body σ=some (.exit j,σ')):GJ c id body σ=some (.exit j,σ') :=
 OL (n:=1) (by simp[rounds,h])
theorem zfg {id:Nat} (h:body σ=some (.ret,σ')):GJ c id body σ=some (.ret,σ') :=
 OL (n:=1) (by simp[rounds,h])
theorem Sup.rounds {body:St->Option (Ex×St)}{B:Nat->St->Option (Ex×St)} (h:∀ σ,Sup (body σ) λm=>B m σ):∀ (n:Nat) (σ:St),Sup (rounds body n σ) λm=>rounds (B m) n σ
 | 0,σ=>Sup.none _
 | n+1,σ=>by
  simp only[T.rounds];refine Sup.bind (h σ) λp=>?_;obtain ⟨e,σ'⟩:=p;cases e with
  | normal=>exact Sup.rounds h n σ'
  | exit j=>exact Sup.const _
  | ret=>exact Sup.const _
theorem Sup.loop {id:Nat}{B:Nat->St->Option (Ex×St)} (h:∀ σ,Sup (body σ) λm=>B m σ) (σ:St):Sup (GJ c id body σ) λm=>GJ c id (B m) σ:=λr hr=>by obtain ⟨n,hn⟩:=SN hr;obtain ⟨k,hk⟩:=Sup.rounds h n σ r hn;exact ⟨k,λm hm=>OL (hk m hm)⟩
section
variable {X:Ctx}{A:Nat->Jg} (hA:∀ lo f args h,Sup (X.call lo f args h) λm=>A m lo f args h)
def Ctx.at (X:Ctx) (c:Jg):Ctx:=⟨X.ty,X.cmp,X.ret,c,X.keep,X.hb,X.cl,X.wide⟩
theorem zft (c:Jg) {fs:List (Nat×TypeId)}:IE (X.at c) fs=IE X fs:=rfl
theorem YU (c:Jg):∀ (fs:List (Nat×TypeId)),Ka (X.at c) fs=Ka X fs
 | []=>rfl
 | f :: fs=>by have:=YU c fs;simp only[Ka];rw[this];rfl
include hA in
theorem Sup.step {lo:Nat}{d:Option Nat}{o:Op}:Sup (AS X lo d ty o σ) λm=>AS (X.at (A m)) lo d ty o σ:=by
 have same:(∀ m,AS (X.at (A m)) lo d ty o σ=AS X lo d ty o σ)->Sup (AS X lo d ty o σ) λm=>AS (X.at (A m)) lo d ty o σ:=λh r hr=>⟨0,λm _=>(h m).trans hr⟩
 cases o;case call c =>
  unfold AS;simp only[opT];split
  ·split
   ·rename_i f hf
    split
    ·rename_i g cs _
     have h1:=hA lo g (Dl (PJ σ.s c.args.toList) cs) σ.h;intro r hr;cases hc:X.call lo g (Dl (PJ σ.s c.args.toList) cs) σ.h with
     | none=>rw[hc] at hr;cases hr
     | some p =>obtain ⟨n,hn⟩:=h1 p hc;refine ⟨n,λm hm=>?_⟩;rw[hc] at hr;have h2:A m lo g (Dl (PJ σ.s c.args.toList) cs) σ.h=some p:=hn m hm;show Al (A m lo g (Dl (PJ σ.s c.args.toList) cs) σ.h) _=some r;rw[h2];exact hr
    ·exact Sup.none _
   ·rename_i b hb
    intro r hr;refine ⟨0,λm _=>?_⟩;refine Eq.trans ?_ hr;cases b<;>rfl
   ·exact Sup.none _
  ·exact Sup.none _
 case build t ps =>refine same λm=>?_;unfold AS;simp only[opT,YU];rfl
 all_goals exact same λm=>rfl
variable {R:Type}
include hA in
theorem Sup.opT {lo:Nat}{d:Option Nat}{ty:TypeId}{o:Op}{σ:St}{k:V->St->Option R}{K:Nat->V->St->Option R} (hk:∀ v σ,Sup (k v σ) λm=>K m v σ):Sup (T.opT X lo d ty o σ k) λm=>T.opT (X.at (A m)) lo d ty o σ (K m):=by
 rw[JP];have:(λm=>T.opT (X.at (A m)) lo d ty o σ (K m))=λm=>(AS (X.at (A m)) lo d ty o σ).bind λp=>K m p.1 p.2:=by funext m;exact JP
 rw[this];exact Sup.bind (Sup.step hA) λp=>hk p.1 p.2
omit hA in
theorem zbe {o:Oper}{σ σ':St}{c:Jg}:∀ {l:List Oper}{k:Option R},T.chkT (X.at c) o σ σ' l k=T.chkT X o σ σ' l k
 | [],k=>rfl
 | p :: l,k=>by simp only[T.chkT,zbe (l:=l),show (X.at c).ty=X.ty from rfl]
omit hA in
theorem Sup.chkT {o:Oper}{σ σ':St}{l:List Oper}{k:Option R}{K:Nat->Option R} (hk:Sup k K):Sup (T.chkT X o σ σ' l k) λm=>T.chkT (X.at (A m)) o σ σ' l (K m):=by
 have h1:∀ k:Option R,T.chkT X o σ σ' l k=(T.chkT X o σ σ' l (some ())).bind λ_=>k:=λk=>by rw[Qg];rfl
 have h2:(λm=>T.chkT (X.at (A m)) o σ σ' l (K m))=λm=>(T.chkT X o σ σ' l (some ())).bind λ_=>K m:=by funext m;rw[zbe,h1]
 rw[h2,h1];cases T.chkT X o σ σ' l (some ()) with
 | none=>exact Sup.none _
 | some _=>exact hk
omit hA in
theorem Oc {c:Jg}{cl:Nat->Bool}:∀ {l:List Oper}{i:Nat}{bx:List (Nat×List V)},Il (X.at c) cl i l bx=Il X cl i l bx
 | [],i,bx=>rfl
 | p :: l,i,bx=>by
  simp only[Il,show (X.at c).ty=X.ty from rfl,show (X.at c).hb=X.hb from rfl];split
  ·exact Oc
  ·split
   ·exact Oc
   ·rfl
include hA in
theorem Sup.opsT {lo:Nat}{all:List Oper}{calm al:Nat->Bool}{ck:Nat->List Oper}{k:St->Option R}{K:Nat->St->Option R} (hk:∀ σ,Sup (k σ) λm=>K m σ) :
  ∀ (rest:List Oper) (i:Nat) (σ:St),Sup (T.opsT X lo all calm ck al i rest σ k) λm=>T.opsT (X.at (A m)) lo all calm ck al i rest σ (K m)
 | [],i,σ=>by simp only[T.opsT];exact hk σ
 | o :: r,i,σ=>by
  simp only[T.opsT];split
  ·exact Sup.opsT hk r _ _
  refine Sup.guard ?_ (Sup.opsT hk r _ _);split
  ·exact Sup.opT hA λv σ=>Sup.opsT hk r _ _
  ·exact Sup.opT hA λv σ=>Sup.chkT (Sup.opsT hk r _ _)
include hA in
theorem Sup.exec {lo:Nat}:∀ (c:Code) {R:Type}{k:Ex->St->Option R}{K:Nat->Ex->St->Option R} (id:Nat) (σ:St),(∀ e σ,Sup (k e σ) λm=>K m e σ)->Sup (T.exec X lo c id σ k) λm=>T.exec (X.at (A m)) lo c id σ (K m)
 | .skip,R,k,K,id,σ,hk=>by simp only[T.exec];exact hk _ _
 | .region i ops draw,R,k,K,id,σ,hk=>by
  simp only[T.exec,show ∀ c:Jg,(X.at c).cl=X.cl from λ_=>rfl];split
  ·exact Sup.opsT hA (λσ=>hk _ _) _ _ _
  ·split
   ·simp only[show ∀ c:Jg,(X.at c).narrow=X.narrow.at c from λ_=>rfl,Oc];cases Il X.narrow (LP X.cl i) 0 ops.toList σ.bx with
    | none=>exact Sup.none _
    | some bx =>
    refine Sup.opsT (X:=X.narrow) (K:=λm σ=>match Wb σ.s (A7 [] ops.toList) ops.toList (LP X.cl i) with | true=>K m .normal σ | false=>Option.none) hA (λσ=>?_) _ _ _;cases he:Wb σ.s (A7 [] ops.toList) ops.toList (LP X.cl i) with
    | true=>exact hk _ _
    | false=>exact Sup.none _
   ·exact Sup.none _
 | .seq a b,R,k,K,id,σ,hk=>by
  simp only[T.exec];refine Sup.exec a id σ λe σ=>?_;cases e with
  | normal=>exact Sup.exec b id σ hk
  | exit j=>exact hk _ _
  | ret=>exact hk _ _
 | .cond x a b,R,k,K,id,σ,hk=>by simp only[T.exec];exact Sup.eBv λt=>Sup.br (Sup.exec a id σ hk) (Sup.exec b id σ hk)
 | .block j b,R,k,K,id,σ,hk=>by
  simp only[T.exec];refine Sup.exec b j σ λe σ=>?_;cases e with
  | normal=>exact hk _ _
  | exit i =>
   simp only[Ba];split
   ·exact hk _ _
   ·exact hk _ _
  | ret=>exact hk _ _
 | .loop b,R,k,K,id,σ,hk=>by
  simp only[T.exec];have hb:∀ σ,Sup (T.exec X lo b id σ (JU X id)) λm=>T.exec (X.at (A m)) lo b id σ (JU (X.at (A m)) id):=λσ=>Sup.exec b id σ λe σ=>Sup.const _;intro r hr;cases hl:GJ b id (λσ=>T.exec X lo b id σ (JU X id)) (norm X id σ) with
  | none=>rw[hl] at hr;cases hr
  | some p =>rw[hl] at hr;obtain ⟨e,σ'⟩:=p;obtain ⟨n1,h1⟩:=Sup.loop (c:=b) (id:=id) hb (norm X id σ) _ hl;obtain ⟨n2,h2⟩:=hk e σ' r hr;refine ⟨n1+n2,λm hm=>?_⟩;have h3:GJ b id (λσ=>T.exec (X.at (A m)) lo b id σ (JU (X.at (A m)) id)) (norm X id σ)=some (e,σ'):=h1 m (by omega);show zeX (GJ b id (λσ=>T.exec (X.at (A m)) lo b id σ (JU (X.at (A m)) id)) (norm X id σ)) (K m)=some r;rw[h3];exact h2 m (by omega)
 | .exit j,R,k,K,id,σ,hk=>by simp only[T.exec];exact hk _ _
 | .ret,R,k,K,id,σ,hk=>by simp only[T.exec];exact hk _ _
 | .goto _,R,k,K,id,σ,hk=>by simp only[T.exec];exact Sup.none _
 | .label _,R,k,K,id,σ,hk=>by simp only[T.exec];exact Sup.none _
 | .scope _,R,k,K,id,σ,hk=>by simp only[T.exec];exact Sup.none _
 | .rangeFunc _ _ _ _,R,k,K,id,σ,hk=>by simp only[T.exec];exact Sup.none _
 | .refuse _,R,k,K,id,σ,hk=>by simp only[T.exec];exact Sup.none _
end
theorem YA {X:Ctx}{c:Jg}{σ:St}:∀ {rs:List ResultVar},QV (X.at c) σ rs=QV X σ rs
 | []=>rfl
 | r :: rs=>by
  simp only[QV];rw[YA (rs:=rs)];have:VL (X.at c) σ r=VL X σ r:=by cases r<;>rfl
  rw[this]
theorem zaN {X:Ctx}{c:Jg}:ZW (X.at c) rs σ=ZW X rs σ:=by unfold ZW;rw[YA]
theorem Sup.fnT {I:Info}{fn:Func}{call:Jg}{A:Nat->Jg} (hA:∀ lo f args h,Sup (call lo f args h) λm=>A m lo f args h) {lo:Nat}{f:FuncId}{args:List V}{h:Heap}:Sup (fnT I fn call lo f args h) λm=>fnT I fn (A m) lo f args h:=by
 unfold T.fnT;split
 ·exact Sup.none _
 ·refine Sup.exec (X:=I.ctx call f) hA _ _ _ λe σ=>?_;cases e with
  | normal=>exact λr hr=>⟨0,λm _=>(zaN (X:=I.ctx call f) (c:=A m)).trans hr⟩
  | ret=>exact λr hr=>⟨0,λm _=>(zaN (X:=I.ctx call f) (c:=A m)).trans hr⟩
  | exit j=>exact Sup.none _
theorem za2 {P:Program}{I:Info}{lo:Nat}{f:FuncId}{fn:Func}{args:List V}{h:Heap}{p q:V×Heap} (hf:P.funcs[f]?=some fn) (hk:fnT I fn (eval P I) (zeK (I.drop f) lo h) f args h=some p) (hd:zbd (I.drop f) h p=some q) :
  eval P I lo f args h=some q:=by
 have hA:∀ lo f args h,Sup (eval P I lo f args h) λm=>MA P I m lo f args h:=λlo f args h r hr=>Lo hr;obtain ⟨n,hn⟩:=Sup.fnT (I:=I) (fn:=fn) hA p hk;refine Pg (n:=n+1) λm hm=>?_;obtain ⟨m,rfl⟩:∃ k,m=k+1:=⟨m - 1,by omega⟩;simp only[MA,hf];have h2:fnT I fn (MA P I m) (zeK (I.drop f) lo h) f args h=some p:=hn m (by omega);rw[h2];exact hd
end Go.Proofs.YtmgopagfoemomaaGreat.T
namespace Go.Proofs.YtmgopagfoemomaaGreat.T
open Go
variable {lo:Nat}{c:Code}{id:Nat}{σ:St}{P:Program}{f:FuncId}{args:List V}
section
variable {R S:Type}{g:R->Option S}
theorem Y7 {all:List Oper}{s:List (Nat×V)}{q:Option (Nat×Bool)}{x y:Option R}:(Jj all s q x y).bind g=Jj all s q (x.bind g) (y.bind g):=by
 unfold Jj;split
 ·rfl
 ·split
  ·rfl
  ·split
   ·rfl
   ·split
    ·split<;>exact LR
    ·rfl
    ·rfl
theorem JD {X:Ctx}{lo:Nat}{all:List Oper}{calm al:Nat->Bool}{ck:Nat->List Oper}{k:St->Option R}:∀ (rest:List Oper) (i:Nat) (σ:St),(opsT X lo all calm ck al i rest σ k).bind g=opsT X lo all calm ck al i rest σ λσ=>(k σ).bind g
 | [],i,σ=>rfl
 | o :: r,i,σ=>by
  simp only[opsT];split
  ·exact JD r _ _
  rw[Y7,JD r];congr 1;split
  ·rw[SH];congr 1;funext v σ;exact JD r _ _
  ·rw[SH];congr 1;funext v σ;rw[Qg];congr 1;exact JD r _ _
end
theorem JF {X:Ctx}{lo:Nat}:∀ (c:Code) {R S:Type}{g:R->Option S}{k:Ex->St->Option R} (id:Nat) (σ:St),(exec X lo c id σ k).bind g=exec X lo c id σ λe σ=>(k e σ).bind g
 | .skip,R,S,g,k,id,σ=>rfl
 | .region i ops draw,R,S,g,k,id,σ=>by
  simp only[exec];split
  ·exact JD _ _ _
  ·split
   ·rw[Hf];congr 1;funext bx;rw[JD];congr 1;funext σ;split<;>rfl
   ·rfl
 | .seq a b,R,S,g,k,id,σ=>by
  simp only[exec];rw[JF a];congr 1;funext e σ;cases e with
  | normal=>exact JF b id σ
  | exit j=>rfl
  | ret=>rfl
 | .cond x a b,R,S,g,k,id,σ=>by simp only[exec];rw[O7];congr 1;funext t;rw[LR,JF a,JF b]
 | .block j b,R,S,g,k,id,σ=>by
  simp only[exec];rw[JF b];congr 1;funext e σ;cases e with
  | normal=>rfl
  | exit i=>simp only[Ba];split<;>rfl
  | ret=>rfl
 | .loop b,R,S,g,k,id,σ=>by simp only[exec];generalize GJ b id (λσ=>exec X lo b id σ (JU X id)) (norm X id σ)=o;cases o<;>rfl
 | .exit j,R,S,g,k,id,σ=>rfl
 | .ret,R,S,g,k,id,σ=>rfl
 | .goto _,R,S,g,k,id,σ=>rfl
 | .label _,R,S,g,k,id,σ=>rfl
 | .scope _,R,S,g,k,id,σ=>rfl
 | .rangeFunc _ _ _ _,R,S,g,k,id,σ=>rfl
 | .refuse _,R,S,g,k,id,σ=>rfl
noncomputable def ZB {R:Type} (X:Ctx) (lo:Nat) (c:Code) (id:Nat) (K:Ex->St->Option R):Ex->St->Option R
 | .normal,σ=>zeX (GJ c id (λσ=>exec X lo c id σ (JU X id)) (norm X id σ)) K
 | .exit j,σ=>K (.exit j) (norm X id σ)
 | .ret,σ=>K .ret (norm X id σ)
theorem zaI {α:Type}{g:Nat->Option α}:No (λn=>g (n+1))=No g:=by
 cases h:No g with
 | some r =>obtain ⟨n,hn⟩:=Lo h;exact Pg (n:=n) λm hm=>hn (m+1) (by omega)
 | none =>
  cases h':No (λn=>g (n+1)) with
  | none=>rfl
  | some r =>
   obtain ⟨n,hn⟩:=Lo h';have:No g=some r:=Pg (n:=n+1) λm hm=>by have:=hn (m - 1) (by omega);rwa [show m - 1+1=m by omega] at this
   rw[h] at this;cases this
theorem Oe {α:Type}{o:Option α}:No (λ_=>o)=o:=by
 cases o with
 | some r=>exact Pg (n:=0) λ_ _=>rfl
 | none =>
  cases h:No (λ_:Nat=>(none:Option α)) with
  | none=>rfl
  | some r=>obtain ⟨n,hn⟩:=Lo h;have:=hn n (zfH _);cases this
theorem zcY {body:St->Option (Ex×St)}:GJ c id body σ=(body σ).bind λp=>match p.1 with | .normal=>GJ c id body p.2 | e=>some (e,p.2):=by
 have h1:GJ c id body σ=No λn=>rounds body (n+1) σ:=(zaI (g:=λn=>rounds body n σ)).symm;rw[h1];cases hb:body σ with
 | none =>
  have:(λn=>rounds body (n+1) σ)=λ_=>none:=by funext n;simp only[rounds,hb];rfl
  rw[this,Oe];rfl
 | some p =>
  obtain ⟨e,σ'⟩:=p;cases e with
  | normal =>
   have:(λn=>rounds body (n+1) σ)=λn=>rounds body n σ':=by funext n;simp only[rounds,hb];rfl
   rw[this];rfl
  | exit j =>
   have:(λn=>rounds body (n+1) σ)=λ_=>some (.exit j,σ'):=by funext n;simp only[rounds,hb];rfl
   rw[this,Oe];rfl
  | ret =>
   have:(λn=>rounds body (n+1) σ)=λ_=>some (.ret,σ'):=by funext n;simp only[rounds,hb];rfl
   rw[this,Oe];rfl
theorem zeW {R:Type}{X:Ctx}{K:Ex->St->Option R} :
  zeX (GJ c id (λσ=>exec X lo c id σ (JU X id)) σ) K=exec X lo c id σ (ZB X lo c id K):=by
 have h1:∀ o:Option (Ex×St),zeX o K=o.bind λp=>K p.1 p.2:=λo=>by cases o<;>rfl
 rw[zcY,h1,Option.bind_assoc];rw[JF c];congr 1;funext e σ';cases e with
 | normal=>exact (h1 _).symm
 | exit j=>rfl
 | ret=>rfl
noncomputable def Lp {R:Type} (X:Ctx) (lo:Nat) (c:Code) (id:Nat) (K:Ex->St->Option R) (σ:St):Option R:=zeX (GJ c id (λσ=>exec X lo c id σ (JU X id)) σ) K
theorem Lp_eq {R:Type}{X:Ctx}{K:Ex->St->Option R}:Lp X lo c id K σ=exec X lo c id σ (ZB X lo c id K):=zeW
theorem zb6 {I:Info}{fn:Func}{h:Heap} (hf:P.funcs[f]?=some fn) (hd:I.drop f=false) {p:V×Heap} (hk:fnT I fn (eval P I) lo f args h=some p):eval P I lo f args h=some p :=
 za2 hf (by rw[hd];exact hk) (by rw[hd];rfl)
theorem zb7 {I:Info}{fn:Func}{h h':Heap}{v:V} (hf:P.funcs[f]?=some fn) (hd:I.drop f=true) (hk:fnT I fn (eval P I) h.length f args h=some (v,h')) (hn:noId v=true):eval P I lo f args h=some (v,h) :=
 za2 hf (by rw[hd];exact hk) (by rw[hd];simp only[zbd,hn])
end Go.Proofs.YtmgopagfoemomaaGreat.T
namespace Go.Proofs.YtmgopagfoemomaaGreat
open Go T
variable {α:Type}{l:List α}
abbrev Iv (x : Int) : V := .int .i64 x
theorem EM {i:Nat} (h : i < l.length) : l[i]? = some l[i] := zfX h
theorem Ga {i:Nat}{a:α} (h : l[i]? = some a) : ∃ h : i < l.length, l[i] = a := zfI.1 h
theorem AW (n : Nat) : ((n : Nat) : Int).toNat = n := Int.toNat_natCast n
theorem E1 (a b : Bool) : ((a && b) = true) = (a = true /\ b = true) := zfU a b
abbrev Vh := V × Heap
abbrev Ov := Option Vh
abbrev DO (a:Int)(b:Int)(c:Pq)(d:Nat)(e:Nq)(f:Pq)(g:Nat)(h:Nq)(i:Pq)(j:Nat)(k:Nq)(l:Bool):List V:=[Iv a,Iv b,.sl 2 c d e,.sl 6 f g h,.sl 1 i j k,.bool l]
abbrev Bs (a:Int)(b:Int)(c:Pq)(d:Nat)(e:Nq)(f:Pq)(g:Nat)(h:Nq)(i:Pq)(j:Nat)(k:Nq)(l:Bool):V:=.agg [Iv a,Iv b,.sl 2 c d e,.sl 6 f g h,.sl 1 i j k,.bool l]
abbrev Dc (a:Pq)(b:Nat)(c:Nq)(d:Pq)(e:Nat)(f:Nq)(g:Pq)(h:Nat)(i:Nq)(j:Pq)(k:Nat)(l:Nq):List V:=[.sl 6 a b c,.sl 5 d e f,.sl 9 g h i,.sl 5 j k l]
abbrev An (a:Pq)(b:Nat)(c:Nq)(d:Pq)(e:Nat)(f:Nq)(g:Pq)(h:Nat)(i:Nq)(j:Pq)(k:Nat)(l:Nq):V:=.agg [.sl 6 a b c,.sl 5 d e f,.sl 9 g h i,.sl 5 j k l]
abbrev DC (a:Int)(b:Int)(c:Int)(d:Pq)(e:Nat)(f:Nq)(g:ByteArray)(h:Bool):List V:=[Iv a,Iv b,Iv c,.sl 2 d e f,.str g,.bool h]
abbrev AA (a:Int)(b:Int)(c:Int)(d:Pq)(e:Nat)(f:Nq)(g:ByteArray)(h:Bool):V:=.agg [Iv a,Iv b,Iv c,.sl 2 d e f,.str g,.bool h]
abbrev Cq (a:Int)(b:Int):List V:=[Iv a,Iv b]
abbrev At (a:Int)(b:Int):V:=.agg [Iv a,Iv b]
abbrev Tt (a:Int)(b:Int)(c:Int)(d:Int)(e:ByteArray)(f:Bool):List V:=[Iv a,Iv b,Iv c,Iv d,.str e,.bool f]
abbrev Bi (a:Int)(b:Int)(c:Int)(d:Int)(e:ByteArray)(f:Bool):V:=.agg [Iv a,Iv b,Iv c,Iv d,.str e,.bool f]
abbrev O9 (a:Int)(b:Int)(c:Int)(d:Int)(e:Int)(f:Int)(g:Pq)(h:Nat)(i:Nq)(j:ByteArray)(k:Bool):List V:=[Iv a,Iv b,Iv c,Iv d,Iv e,Iv f,.sl 2 g h i,.str j,.bool k]
abbrev JW (a:Int)(b:Int)(c:Int)(d:Int)(e:Int)(f:Int)(g:Pq)(h:Nat)(i:Nq)(j:ByteArray)(k:Bool):V:=.agg [Iv a,Iv b,Iv c,Iv d,Iv e,Iv f,.sl 2 g h i,.str j,.bool k]
abbrev O8 (a:Int)(b:Pq)(c:Nat)(d:Nq)(e:Int)(f:Int)(g:Int):List V:=[Iv a,.sl 2 b c d,Iv e,Iv f,Iv g]
abbrev JV (a:Int)(b:Pq)(c:Nat)(d:Nq)(e:Int)(f:Int)(g:Int):V:=.agg [Iv a,.sl 2 b c d,Iv e,Iv f,Iv g]
abbrev Jq (a:Pq)(b:Nat)(c:Nq)(d:Pq)(e:Nat)(f:Nq):List V:=[.sl 6 a b c,.sl 6 d e f]
abbrev IA (a:Pq)(b:Nat)(c:Nq)(d:Pq)(e:Nat)(f:Nq):V:=.agg [.sl 6 a b c,.sl 6 d e f]
abbrev BQ (a:Int)(b:Int)(c:Int):List V:=[Iv a,Iv b,Iv c]
abbrev Bk (a:Pq)(b:Nat)(c:Nq):List V:=[.sl 2 a b c]
abbrev Ao (a:Pq)(b:Nat)(c:Nq):V:=.agg [.sl 2 a b c]
abbrev Bm (a:Pq)(b:Nat)(c:Nq):List V:=[.sl 6 a b c]
abbrev Bh (a:Pq)(b:Nat)(c:Nq):V:=.agg [.sl 6 a b c]
abbrev AR (a:Int):List V:=[Iv a]
abbrev We (a:Int)(b:Int)(c:Int)(d:Int)(e:Int):List V:=[Iv a,Iv b,Iv c,Iv d,Iv e]
abbrev Mx (a:Int)(b:Int)(c:Int)(d:Int)(e:Int):V:=.agg [Iv a,Iv b,Iv c,Iv d,Iv e]
abbrev Ax (h:Heap):Ov:=some (.bool false,h)
abbrev BI (h:Heap):Ov:=some (.bool true,h)
abbrev DQ (a b c:Nat):V:=.ptr (some (a,(b,c)))
abbrev Ap (x:Int):Int:=IntKind.wrap .i64 x
noncomputable def I:T.Info:=zae Tryz.prog [36,74,88,126,202,218] [(3,{ keep := [(0,[2,3,4,5,6,7,8,9,12],[3,7,8,9])],cl := [(6,[0,1]),(7,[0,1]),(13,[1,5]),(16,[0])] }),
 (4,{ keep := [(0,[4,8,9,10],[8,9])],cl := [(5,[0]),(10,[1,7]),(12,[1,4])] }),
 (5,{ keep := [(0,[2,6,7],[6])],cl := [(5,[0])] }),
 (6,{ keep := [(0,[5,6,7,8],[6,7])],cl := [(5,[0]),(6,[0]),(11,[0])] }),
 (8,{ cl := [(8,[0,2]),(10,[0,1]),(13,[0,1]),(27,[0,2])] }),
 (9,{ cl := [(9,[0,12])] }),
 (10,{ hb := [6,7,8,9,12],cl := [(3,[1,0])] }),
 (11,{ cl := [(5,[0,5])] }),
 (12,{ keep := [(0,[2,3,4,5],[2,3])],cl := [(6,[1,6])],drop:=true }),
 (13,{ keep := [(0,[1,2,3,45,46,47],[3]),(2,[1,2,3,4,45,46,47,58,59,60],[3]),(4,[1,2,90,91,92],[])],hb := [1],drop:=true }),
 (15,{ drop:=true }),
 (16,{ keep := [(0,[1,2,3,4],[1,3]),(2,[1,2,3,4,5],[1,3])] }),
 (17,{ keep := [(0,[2,3,4,5],[2,3])],cl := [(6,[1,6])],drop:=true }),
 (18,{ drop:=true }),
 (19,{ hb := [1] }),
 (22,{ keep := [(0,[2,3,4,5],[2,3]),(2,[2,3,4,6],[2,3]),(4,[2,3,4,9],[2,3])],cl := [(6,[1,6])],drop:=true }),
 (24,{ keep := [(0,[0,1,4,5],[])],drop:=true }),
 (25,{ keep := [(0,[6,7,22,23,24],[6])],hb := [7] }),
 (26,{ hb := [1],drop:=true }),
 (28,{ hb := [6] }),
 (29,{ keep := [(0,[0,1,4,5],[])],drop:=true }),
 (30,{ keep := [(0,[0,3,4],[])] }),
 (31,{ drop:=true }),
 (32,{ keep := [(0,[0,1,4,5],[])],drop:=true }),
 (33,{ keep := [(0,[0,1,5],[])] }),
 (35,{ drop:=true }),
 (36,{ drop:=true }),
 (37,{ drop:=true }),
 (38,{ cl := [(3,[0,2])] }),
 (40,{ drop:=true }),
 (41,{ hb := [10] }),
 (42,{ cl := [(2,[1,4])] }),
 (43,{ keep := [(0,[0,2,3,4],[2,3])],cl := [(5,[1]),(10,[1])] }),
 (46,{ keep := [(0,[1,2,3],[1]),(2,[1,2,3,4],[1])],cl := [(11,[3])],drop:=true }),
 (50,{ hb := [6] }),
 (52,{ cl := [(1,[0]),(3,[5]),(8,[3])] }),
 (53,{ keep := [(0,[1,2,3],[1]),(2,[1,2,4,5],[1,4])],cl := [(12,[1,8])],drop:=true }),
 (54,{ drop:=true }),
 (55,{ keep := [(0,[0,2,3],[])],drop:=true }),
 (56,{ keep := [(0,[1,2,3],[1])],drop:=true }),
 (57,{ cl := [(1,[0,2])],drop:=true }),
 (58,{ keep := [(0,[1,2,3,4],[1,2,3])],cl := [(1,[1,3,5,7,10]),(5,[1,3])] }),
 (59,{ cl := [(1,[1,2,5,9]),(4,[0,3])] }),
 (60,{ keep := [(0,[2,3,4,5],[2,3])],cl := [(6,[1,7])],drop:=true }),
 (61,{ keep := [(0,[0,1,4,5],[])],drop:=true }),
 (62,{ drop:=true }),
 (63,{ drop:=true }),
 (64,{ keep := [(0,[1,2,13,14,15],[1]),(2,[1,2,36,37,38],[1])],cl := [(12,[0])],drop:=true }),
 (65,{ keep := [(0,[0,1,4,7,8,9],[])],cl := [(4,[0])],drop:=true }),
 (67,{ keep := [(0,[2,3,8,9,10],[2,3])] }),
 (68,{ keep := [(0,[0,3,9,10,11],[]),(2,[6,25,26,27],[])] }),
 (69,{ keep := [(0,[3,4,8,9,10],[3])],cl := [(4,[1,5])],drop:=true }),
 (70,{ cl := [(1,[1,3,6,8])],drop:=true }),
 (71,{ drop:=true }),
 (73,{ drop:=true }),
 (74,{ keep := [(0,[2,6,7,8],[6,7])],cl := [(5,[0,9])] }),
 (75,{ drop:=true }),
 (76,{ keep := [(0,[0,1,4,5,12],[4,5]),(2,[4,5,24,25],[4,5])],cl := [(5,[1]),(10,[1])] }),
 (78,{ keep := [(0,[1,2,3,28,29,30],[1,2,3]),(2,[1,2,3,43,44,45],[1,2,3]),(4,[2,3,61,62,63],[2,3])],cl := [(1,[1,5,9,13]),(5,[1,2])] }),
 (79,{ keep := [(0,[1,2,6,7,8],[1])],drop:=true }),
 (80,{ drop:=true }),
 (81,{ cl := [(1,[1])] }),
 (82,{ keep := [(0,[1,2,32,33,34],[]),(2,[1,2,50,51,52],[]),(4,[1,2,50,51,52,57,58,59],[])],hb := [1] }),
 (83,{ keep := [(0,[0,1,4,5],[])],drop:=true }),
 (84,{ keep := [(0,[0,1,4,5],[])],drop:=true }),
 (85,{ keep := [(0,[0,1,4,5],[])],drop:=true }),
 (86,{ keep := [(0,[0,1,4,5],[])],drop:=true }),
 (87,{ drop:=true }),
 (88,{ keep := [(0,[0,3],[])],drop:=true }),
 (89,{ keep := [(0,[0,1,5],[])] }),
 (90,{ keep := [(0,[0,1,5],[])] }),
 (91,{ keep := [(0,[0,1,5],[])] }),
 (92,{ keep := [(0,[0,1,5],[])] }),
 (93,{ keep := [(0,[0,1,4,5],[])],drop:=true }),
 (94,{ keep := [(0,[0,1,4,5],[])],drop:=true }),
 (95,{ keep := [(0,[0,1,4,5],[])],drop:=true }),
 (96,{ keep := [(0,[0,1,4,5],[])],drop:=true }),
 (97,{ keep := [(0,[0,1,4,5],[])],drop:=true }),
 (98,{ keep := [(0,[0,1,4,5],[])],drop:=true }),
 (99,{ keep := [(0,[0,1,4,5],[])],drop:=true }),
 (100,{ drop:=true }),
 (101,{ keep := [(0,[1,2,3],[1]),(2,[1,2,4],[1]),(4,[1,2,5],[1]),(6,[1,2,6],[1])],cl := [(16,[0,2])] }),
 (103,{ keep := [(0,[1,2,3,4],[1,2,3]),(2,[1,2,3,5],[1,2,3]),(4,[1,2,3,7],[1,2,3])],cl := [(5,[1,3])] }),
 (104,{ keep := [(0,[0,3,4],[])] }),
 (105,{ keep := [(0,[0,3,4],[])] }),
 (106,{ keep := [(0,[0,3,4],[])] }),
 (107,{ keep := [(0,[0,3,4],[])] }),
 (108,{ cl := [(5,[1]),(7,[8,1,4]),(9,[1]),(13,[1]),(15,[1]),(17,[1])] }),
 (111,{ keep := [(0,[1,2,3],[1])],drop:=true }),
 (112,{ keep := [(0,[1,2,3],[1])],cl := [(6,[2,9])],drop:=true }),
 (113,{ keep := [(0,[2,4,5,6],[2,5])],cl := [(7,[1,3,12]),(9,[0,2])],drop:=true }),
 (114,{ keep := [(0,[1,2,3,4],[1,2,3])],cl := [(5,[1,3])] }),
 (115,{ keep := [(0,[2,3,24,25,26],[2,3])],cl := [(1,[1,3,5,8,11,15]),(5,[1])] }),
 (116,{ drop:=true }),
 (117,{ drop:=true }),
 (118,{ keep := [(0,[3,7,8,9],[])],drop:=true }),
 (120,{ keep := [(0,[0,8,9,10],[])],cl := [(3,[1]),(4,[5])] }),
 (121,{ keep := [(0,[1,2,3,4],[1,3]),(2,[1,2,3,4,5],[1,3]),(4,[1,2,3,4,7],[1,3])],cl := [(14,[1,10])],drop:=true }),
 (122,{ keep := [(0,[0,1,4,5],[]),(2,[0,1,4,5,6],[])],drop:=true }),
 (123,{ drop:=true }),
 (124,{ keep := [(0,[2,3,4,5],[2,3])],cl := [(4,[1,6])],drop:=true }),
 (125,{ drop:=true }),
 (126,{ keep := [(0,[3,5,6],[3])],drop:=true }),
 (127,{ keep := [(0,[1,2,3,4],[1,2,3]),(2,[1,2,3,4,5,6],[1,2,3,5])],cl := [(9,[1,3])] }),
 (128,{ keep := [(0,[0,3,4],[])] }),
 (129,{ cl := [(1,[1,8,13]),(3,[1,4,9]),(5,[1,4,9])] }),
 (130,{ keep := [(0,[1,2,3,4],[1,2,3]),(2,[1,2,6,7],[1,2])],cl := [(7,[1,2])] }),
 (131,{ keep := [(0,[2,3,4,5],[2,3])],cl := [(6,[1,6])],drop:=true }),
 (132,{ drop:=true }),
 (133,{ drop:=true }),
 (134,{ cl := [(1,[0])],drop:=true }),
 (135,{ drop:=true }),
 (136,{ keep := [(0,[2,4,5,11,12,13],[2,5])],drop:=true }),
 (137,{ hb := [3],drop:=true }),
 (140,{ keep := [(0,[2,3,6,7,8],[])],drop:=true }),
 (141,{ drop:=true }),
 (142,{ drop:=true }),
 (143,{ drop:=true }),
 (144,{ drop:=true }),
 (145,{ keep := [(0,[0,3,9,10,11],[9])] }),
 (146,{ keep := [(0,[0,1,4,5,6],[4,5]),(2,[1,4,5,7],[4,5])],cl := [(5,[1]),(9,[1])] }),
 (148,{ cl := [(1,[1]),(3,[5]),(4,[7])] }),
 (149,{ cl := [(3,[5]),(13,[1,3]),(15,[6,8,10,16])] }),
 (150,{ cl := [(1,[1]),(3,[5]),(5,[6,8]),(7,[5,8,10,12])] }),
 (155,{ drop:=true }),
 (156,{ keep := [(0,[0,1,4,7,8],[])],drop:=true }),
 (157,{ drop:=true }),
 (158,{ drop:=true }),
 (159,{ drop:=true }),
 (160,{ drop:=true }),
 (161,{ drop:=true }),
 (162,{ drop:=true }),
 (163,{ drop:=true }),
 (164,{ cl := [(1,[1,3])],drop:=true }),
 (165,{ drop:=true }),
 (166,{ drop:=true }),
 (167,{ drop:=true }),
 (168,{ drop:=true }),
 (169,{ keep := [(0,[0,1,5],[])] }),
 (170,{ keep := [(0,[0,1,5],[])] }),
 (171,{ keep := [(0,[0,1,5],[])] }),
 (172,{ keep := [(0,[0,1,5],[])] }),
 (173,{ keep := [(0,[0,1,4,5],[])],drop:=true }),
 (174,{ keep := [(0,[0,1,4,5],[])],drop:=true }),
 (175,{ keep := [(0,[0,1,4,5],[])],drop:=true }),
 (176,{ keep := [(0,[0,1,4,5],[])],drop:=true }),
 (177,{ drop:=true }),
 (178,{ drop:=true }),
 (179,{ drop:=true }),
 (180,{ drop:=true }),
 (181,{ cl := [(1,[1])],drop:=true }),
 (182,{ drop:=true }),
 (183,{ keep := [(0,[1,2,3],[1]),(2,[1,2,3,4],[1]),(4,[1,2,3,4,5,6],[1])],cl := [(13,[5])],drop:=true }),
 (186,{ cl := [(2,[1]),(4,[1,3,5,7,9,11,16]),(10,[2,4,8,10]),(13,[1,3,7,9,11,16])] }),
 (191,{ drop:=true }),
 (193,{ cl := [(10,[2])] }),
 (194,{ cl := [(5,[1]),(7,[8,1,4])] }),
 (195,{ keep := [(0,[0,2,3,4,5],[2,3])],cl := [(6,[2])] }),
 (196,{ keep := [(0,[1,2,3,4],[1,2,3])],cl := [(5,[1,3])] }),
 (197,{ drop:=true }),
 (198,{ cl := [(1,[1,3,8]),(2,[1,3,4])] }),
 (199,{ keep := [(0,[2,3,4,5],[2,3])],cl := [(4,[1,7])],drop:=true }),
 (200,{ keep := [(0,[2,3,12,13,14],[2,3])],cl := [(5,[1,3,6])] }),
 (201,{ keep := [(0,[3,9,10,11],[])] }),
 (202,{ drop:=true }),
 (203,{ keep := [(0,[0,2,5,6],[])],drop:=true }),
 (204,{ cl := [(2,[4]),(3,[6,7]),(5,[5])] }),
 (206,{ drop:=true }),
 (207,{ drop:=true }),
 (208,{ keep := [(0,[0,3,4,5],[3])],cl := [(4,[5])],drop:=true }),
 (210,{ cl := [(1,[1,3,8])],drop:=true }),
 (211,{ drop:=true }),
 (212,{ drop:=true }),
 (213,{ drop:=true }),
 (214,{ keep := [(0,[0,1,4,7,8],[])],drop:=true }),
 (217,{ keep := [(0,[2,3,11,12],[2,3])],cl := [(6,[1])] }),
 (218,{ cl := [(3,[3,7,10,17,19,22]),(6,[2,4])] }),
 (219,{ cl := [(4,[1]),(8,[2])] }),
 (220,{ cl := [(1,[11,13]),(4,[6,9,11])] }),
 (221,{ keep := [(0,[0,5,39,40,41],[5])] }),
 (225,{ cl := [(7,[1]),(9,[7])] }),
 (226,{ drop:=true }),
 (227,{ wide:=true }),
 (228,{ cl := [(6,[3,6])] }),
 (231,{ keep := [(0,[0,1,4,12,13],[])],drop:=true }),
 (232,{ drop:=true }),
 (233,{ drop:=true }),
 (234,{ keep := [(0,[1,2,6,15,16,17],[])],drop:=true }),
 (235,{ keep := [(0,[0,1,4,7,8],[])],drop:=true }),
 (236,{ keep := [(0,[0,1,4,7,8],[])],drop:=true }),
 (237,{ drop:=true }),
 (238,{ keep := [(0,[0,1,4,5],[])],drop:=true }),
 (239,{ keep := [(0,[0,1,4,5],[])],drop:=true }),
 (240,{ drop:=true }),
 (241,{ drop:=true }),
 (242,{ drop:=true }),
 (243,{ drop:=true }),
 (244,{ keep := [(0,[0,1,4,5],[])],drop:=true }),
 (245,{ keep := [(0,[0,1,4,5],[])],drop:=true }),
 (246,{ drop:=true }),
 (247,{ drop:=true }),
 (248,{ cl := [(1,[0,2])],drop:=true }),
 (250,{ cl := [(6,[1,7]),(10,[1,3,5,7,9])] }),
 (251,{ cl := [(6,[1,4,6]),(9,[1,3,5,7,10,12])] }),
 (252,{ keep := [(0,[2,3,4,8,9],[2,3,4,8])],cl := [(4,[2]),(9,[1,3,5,7,13]),(10,[0,2,5])] }),
 (253,{ drop:=true }),
 (254,{ cl := [(2,[1,5])] }),
 (255,{ drop:=true }),
 (256,{ cl := [(1,[2,7]),(4,[1,5,12])] }),
 (257,{ cl := [(2,[1,3])] }),
 (258,{ drop:=true }),
 (259,{ cl := [(1,[1,5])] }),
 (260,{ cl := [(1,[2]),(3,[1,4,8])] }),
 (262,{ keep := [(0,[0,3,4],[])] }),
 (263,{ keep := [(0,[0,3,4],[])] }),
 (265,{ drop:=true }),
 (267,{ keep := [(0,[0,2,3,4],[2,3])],cl := [(12,[0]),(15,[0,3])] }),
 (268,{ cl := [(6,[1]),(8,[1])] }),
 (270,{ keep := [(0,[0,1,4,7,8],[])],drop:=true }),
 (271,{ keep := [(0,[0,2,3,4],[2,3])],cl := [(7,[1])] }),
 (273,{ drop:=true }),
 (274,{ cl := [(1,[8])] }),
 (276,{ cl := [(2,[1,4,8])] }),
 (277,{ keep := [(0,[4,5,11,12,13],[4,5])],cl := [(5,[1,4,8])] }),
 (278,{ cl := [(4,[3])] }),
 (279,{ keep := [(0,[0,1,5,59,60,61],[])],cl := [(13,[10,15]),(14,[5])] }),
 (281,{ keep := [(0,[0,1,4,7,8],[])],drop:=true }),
 (282,{ keep := [(0,[0,1,4,5],[])],drop:=true }),
 (283,{ keep := [(0,[0,1,4,5],[])],drop:=true }),
 (284,{ keep := [(0,[0,1,4,5],[])],drop:=true }),
 (285,{ drop:=true }),
 (286,{ cl := [(4,[1,5,9])],drop:=true }),
 (289,{ cl := [(2,[1,4,8])] }),
 (290,{ keep := [(0,[2,3,4,5,6],[2,3,4,5])],cl := [(5,[1,3,8])] }),
 (291,{ keep := [(0,[2,3,5,6],[2,3]),(2,[2,3,5,6,7],[2,3])],cl := [(5,[1,7])] }),
 (292,{ keep := [(0,[1,2,4,5,6],[2,5])],cl := [(6,[1,3,8])],drop:=true }),
 (293,{ keep := [(0,[0,3,4],[])] }),
 (294,{ keep := [(0,[0,3,4],[])] }),
 (295,{ keep := [(0,[0,2,3,4],[2,3])],cl := [(5,[0])] }),
 (297,{ drop:=true }),
 (298,{ wide:=true }),
 (299,{ wide:=true }),
 (301,{ cl := [(1,[1,3,6,8])],drop:=true }),
 (302,{ drop:=true }),
 (303,{ drop:=true }),
 (304,{ drop:=true }),
 (305,{ cl := [(1,[1,5])],drop:=true }),
 (306,{ keep := [(0,[1,3,4],[1])],drop:=true }),
 (307,{ drop:=true }),
 (309,{ keep := [(0,[0,1,2,3,4,10,11],[])] }),
 (310,{ drop:=true }),
 (311,{ drop:=true }),
 (312,{ drop:=true }),
 (314,{ keep := [(0,[0,1,2,3,8],[]),(2,[0,1,2,3,8,9],[])] }),
 (315,{ keep := [(0,[0,3,8,9,10,11],[]),(2,[0,3,8,9,12],[])] }),
 (316,{ keep := [(0,[0,1,8,9,10,11],[])],hb := [9] }),
 (317,{ hb := [11] }),
 (318,{ keep := [(0,[0,8,9],[])] }),
 (319,{ keep := [(0,[0,1,2,3,8,9,10],[]),(2,[0,1,2,3,9,10],[]),(4,[0,1,2,3,9,10,11],[]),(6,[0,1,2,3,9,10,12],[])] }),
 (320,{ keep := [(0,[0,1,4,11,12],[]),(2,[0,1,4,11,12],[]),(4,[0,1,4,11,12],[])] }),
 (321,{ keep := [(0,[0,1,4,12,13],[]),(2,[0,1,4,12,13],[]),(4,[0,1,4,12,13],[]),(6,[0,1,4,12,13],[]),(8,[0,1,4,12,13],[])] }),
 (322,{ drop:=true }),
 (323,{ drop:=true }),
 (324,{ keep := [(0,[0,2,3,4,10],[])] }),
 (325,{ drop:=true })]
noncomputable def Af:Jg:=eval Tryz.prog I
noncomputable def X (f:Nat):Ctx:=I.ctx Af f
theorem zfj:Sound Tryz.prog I:=zcH (by kernel_rfl) (by kernel_rfl) (by kernel_rfl)
theorem evl_sound:SC Tryz.prog Af:=zap zfj


variable {n:Nat}{p:Prop}{a:Pq}{h:Heap}{ro:Bool}{rs:List (List V)}{j:Nat}
section words
variable {R:Type}
@[simp] theorem Aq (x y:Option R):br true x y=x:=rfl
@[simp] theorem Ay (x y:Option R):br false x y=y:=rfl
@[simp] theorem Dj (x:Option R):Bf true x=x:=rfl
@[simp] theorem Aa (k:IntKind) (n:Int) (f:Int->Option R):eI k (.int k n) f=f n:=by simp[eI]
@[simp] theorem AB (b:Bool) (f:Bool->Option R):eBv (.bool b) f=f b:=rfl
@[simp] theorem Ar (b:Bool) (x y:Option R):eB (.bool b) x y=br b x y:=rfl
@[simp] theorem A4 (s:ByteArray) (f:ByteArray->Option R):eT (.str s) f=f s:=rfl
@[simp] theorem Ah (q:Nat) (a:Pq) (n:Nat) (c:Nq) (f:Pq->Nat->Nq->Option R):eS q (.sl q a n c) f=f a n c:=by
 unfold eS;cases a with
 | none=>rfl
 | some p=>simp
@[simp] theorem AN (cs:List V) (f:List V->Option R):eA (.agg cs) f=f cs:=rfl
@[simp] theorem J5 (cs:List V) (f:List V->Option R):eU (.tup cs) f=f cs:=rfl
@[simp] theorem Ab (v:V) (r:List V) (f:V->List V->Option R):eC (v :: r) f=f v r:=rfl
@[simp] theorem Ag (x:Option R):eN [] x=x:=rfl
@[simp] theorem Ae {α:Type} (x:α) (f:α->Option R):eO (some x) f=f x:=rfl
@[simp] theorem Ad {α:Type} (v:V) (h:α) (f:V->α->Option R):Al (some (v,h)) f=f v h:=rfl
theorem BY {i:Int} (h:0<=i/\i<n) (f:Option R):As i n f=f:=by unfold As;rw[decide_eq_true h]
@[simp] theorem Ac {k:Nat} (h:k<n) (f:Option R):As (k:Int) n f=f:=BY ⟨by omega,by omega⟩ f
theorem DL {i:Int} (h:0<=i/\i<=n) (f:Option R):zaf i n f=f:=by unfold zaf;rw[decide_eq_true h]
theorem EF [Decidable p] (h:p) (f:Option R):Bf (decide p) f=f:=by rw[decide_eq_true h];rfl
theorem Ij {a b:ByteArray}{f:ByteArray->Option R} (h:a.size+b.size<=9223372036854775807):Pd a b f=f (a++b):=by
 have h9:IntKind.i64.max=9223372036854775807:=by decide
 rw[XB,EF (by omega)]
theorem Ak [Decidable p] (h:p) (x y:Option R):br (decide p) x y=x:=by rw[decide_eq_true h];rfl
theorem Ai [Decidable p] (h:¬ p) (x y:Option R):br (decide p) x y=y:=by rw[decide_eq_false h];rfl
@[simp] theorem LQ {α:Type} (b c d:Bool) (h:α):br b (some (V.bool c,h)) (some (V.bool d,h))=some (V.bool (bif b then c else d),h):=by cases b<;>rfl
end words
theorem wr {n:Int} (h1 : -9223372036854775808<=n) (h2:n<=9223372036854775807):Ap n=n:=IntWalk.i64_in n ⟨h1,h2⟩
theorem Am {k:Nat} (h:k<9223372036854775807):Ap ((k:Int)+1)=((k+1:Nat):Int):=by rw[wr (by omega) (by omega)];omega
def Sl (h:Heap) (rows:List (List V)) (a:Pq) (n:Nat):Prop :=
 n=rows.length/\(rows = []\/∃ b i rs,a=some (b,i)/\Heap.rows? h b=some rs/\(rs.drop i).take n=rows)
theorem Sl.len {rows:List (List V)} (s:Sl h rows a n):n=rows.length:=s.1
theorem Sl.nil:Sl h [] a 0:=⟨rfl,.inl rfl⟩
theorem Sl.read {rows:List (List V)}{k:Nat}{row:List V} (s:Sl h rows a n) (hk:rows[k]?=some row) :
  ∃ o,a=some o/\∀ j m,ld h o.1 (o.2+k) j m=cut row j m:=by
 obtain ⟨h1,h2 | ⟨b,i,rs,h2,h3,h4⟩⟩:=s
 ·subst h2;simp at hk
 ·refine ⟨(b,i),h2,λj m=>?_⟩;have hlt:k<rows.length:=(Ga hk).1;have:rs[i+k]?=some row:=by rw[<- h4,zg3 (by omega),zf4] at hk;exact hk
  simp only[ld,h3,zf1,this]
theorem Sl.mono {h':Heap}{rows:List (List V)} (s:Sl h rows a n) (hp:h <+: h'):Sl h' rows a n:=by
 obtain ⟨h1,h2 | ⟨b,i,rs,h2,h3,h4⟩⟩:=s
 ·exact ⟨h1,.inl h2⟩
 ·refine ⟨h1,.inr ⟨b,i,rs,h2,?_,h4⟩⟩;obtain ⟨t,rfl⟩:=hp;unfold Heap.rows? at h3 ⊢;have hb:b<h.length:=by apply zhf;intro hle;rw[zgj hle] at h3;cases h3
  rw[zfK hb];exact h3
theorem PS {R e:Nat}:Heap.rows? (h ++ [.rows R e ro rs]) h.length=some rs:=by simp[Heap.rows?]
theorem Sl.last {R e:Nat}{rows:List (List V)} (hn:n=rows.length):Sl (h ++ [.rows R e ro rows]) rows (some (h.length,0)) n :=
 ⟨hn,.inr ⟨h.length,0,rows,rfl,PS,by simp[hn]⟩⟩
theorem WF {R e:Nat}{i:Nat}{row:List V} (hi:rs[i]?=some row):ld (h ++ [.rows R e ro rs]) h.length i j n=cut row j n:=by simp[ld,PS,hi]
theorem JA {row:List V}{v:V} (h:row[j]?=some v):cut row j 1=some [v]:=by have hlt:=(Ga h).1;have hx:=(Ga h).2;rw[Xy (by omega),zfT hlt,hx];rfl
theorem FL {row:List V}{v:V} (h:j<row.length):paste row j [v]=some (row.set j v):=by
 induction j generalizing row with
 | zero=>cases row with
  | nil=>simp at h
  | cons x r=>simp[paste]
 | succ j ih=>cases row with
  | nil=>simp at h
  | cons x r=>simp only[paste];rw[ih (by simpa using h)];rfl
section maps
variable {K U:Type} [DecidableEq K]
end maps


variable {ro:Bool}{R R' n:Nat}{a:Pq}{c:Nq}{F:List Nat}{k:Nat}{rs xs:List (List V)}{lo:Nat}{Gs Fs:List (List Nat)}{G:List Nat}{T:Type}{K:Pq->Nat->Nq->Option T}
abbrev Rel (α:Type):=Heap->List V->α->List Nat->Prop
def Rel.Fr {α:Type} (El:Rel α):Prop:=∀ (h h':Heap) (cs:List V) (x:α) (F:List Nat),El h cs x F->(∀ b∈F,h'[b]?=h[b]?)->El h' cs x F
def Rel.Ln {α:Type} (El:Rel α) (n:Nat):Prop:=∀ (h:Heap) (cs:List V) (x:α) (F:List Nat),El h cs x F->cs.length=n
def flat {α:Type} (cs:α->List V):Rel α:=λ_ row x F=>row=cs x/\F = []
theorem Xi {α:Type}{cs:α->List V}:(flat cs).Fr:=λ_ _ _ _ _ h _=>h
def EAll {α:Type} (El:Rel α) (h:Heap):List (List V)->List α->List (List Nat)->Prop
 | [],[],[]=>True
 | r :: rs,x :: xs,F :: Fs=>El h r x F/\EAll El h rs xs Fs
 | _,_,_=>False
def Sli {α:Type} (ro:Bool) (R e:Nat) (El:Rel α):Rel (List α):=λh cs l F=>∃ R' a c,cs = [.sl R' a l.length c]/\match ro with
 | true=>R'=R/\((l = []/\F = [])\/∃ b i rs Fs,a=some (b,i)/\Heap.rows? h b=some rs/\i+l.length<=rs.length/\EAll El h ((rs.drop i).take l.length) l Fs/\F=b :: Fs.flatten)
 | false=>match a with
  | none=>l = []/\c=some 0/\F = []
  | some (b,i)=>R'=R/\∃ rs Fs,h[b]?=some (.rows R e false rs)/\i+l.length<=rs.length/\(∀ k,c=some k->l.length<=k/\i+k<=rs.length)/\(c=none->i=0)/\EAll El h ((rs.drop i).take l.length) l Fs/\F=b :: Fs.flatten
section
variable {α:Type}{El:Rel α}{h h':Heap}
theorem EAll.fr (hf:El.Fr):∀ {rows:List (List V)}{l:List α}{Fs:List (List Nat)},EAll El h rows l Fs->(∀ b∈Fs.flatten,h'[b]?=h[b]?)->EAll El h' rows l Fs
 | [],[],[],_,_=>trivial
 | r :: rs,x :: xs,F :: Fs,⟨h1,h2⟩,hb=>⟨hf _ _ _ _ _ h1 λb hm=>hb b (by simp[hm]),EAll.fr hf h2 λb hm=>hb b (by simp only[zf7,zfF];exact .inr hm)⟩
 | [],[],_ :: _,h,_=>h.elim
 | [],_ :: _,_,h,_=>h.elim
 | _ :: _,[],_,h,_=>h.elim
 | _ :: _,_ :: _,[],h,_=>h.elim
theorem EAll.len:∀ {rows:List (List V)}{l:List α}{Fs:List (List Nat)},EAll El h rows l Fs->rows.length=l.length/\Fs.length=l.length
 | [],[],[],_=>⟨rfl,rfl⟩
 | r :: rs,x :: xs,F :: Fs,⟨_,h2⟩=>by have:=EAll.len h2;simp[this.1,this.2]
 | [],[],_ :: _,h=>h.elim
 | [],_ :: _,_,h=>h.elim
 | _ :: _,[],_,h=>h.elim
 | _ :: _,_ :: _,[],h=>h.elim
theorem EAll.get:∀ {rows:List (List V)}{l:List α}{Fs:List (List Nat)},EAll El h rows l Fs->∀ {k:Nat}{x:α},l[k]?=some x->∃ row F,rows[k]?=some row/\Fs[k]?=some F/\El h row x F
 | [],[],[],_,k,x,hk=>by simp at hk
 | r :: rs,x :: xs,F :: Fs,⟨h1,h2⟩,0,y,hk=>by simp at hk;subst hk;exact ⟨r,F,rfl,rfl,h1⟩
 | r :: rs,x :: xs,F :: Fs,⟨h1,h2⟩,k+1,y,hk=>by simp at hk;obtain ⟨row,G,g1,g2,g3⟩:=EAll.get h2 hk;exact ⟨row,G,by simpa using g1,by simpa using g2,g3⟩
 | [],[],_ :: _,h,_,_,_=>h.elim
 | [],_ :: _,_,h,_,_,_=>h.elim
 | _ :: _,[],_,h,_,_,_=>h.elim
 | _ :: _,_ :: _,[],h,_,_,_=>h.elim
theorem EAll.set:∀ {rows:List (List V)}{l:List α}{Fs:List (List Nat)},EAll El h rows l Fs->∀ {k:Nat}{row:List V}{x:α}{F:List Nat},El h row x F->EAll El h (rows.set k row) (l.set k x) (Fs.set k F)
 | [],[],[],_,k,_,_,_,_=>trivial
 | r :: rs,x :: xs,F :: Fs,⟨h1,h2⟩,0,_,_,_,he=>⟨he,h2⟩
 | r :: rs,x :: xs,F :: Fs,⟨h1,h2⟩,k+1,_,_,_,he=>⟨h1,EAll.set h2 he⟩
 | [],[],_ :: _,h,_,_,_,_,_=>h.elim
 | [],_ :: _,_,h,_,_,_,_,_=>h.elim
 | _ :: _,[],_,h,_,_,_,_,_=>h.elim
 | _ :: _,_ :: _,[],h,_,_,_,_,_=>h.elim
theorem EAll.append:∀ {rows rows':List (List V)}{l l':List α}{Fs Fs':List (List Nat)},EAll El h rows l Fs->EAll El h rows' l' Fs'->EAll El h (rows++rows') (l++l') (Fs++Fs')
 | [],_,[],_,[],_,_,h=>h
 | r :: rs,_,x :: xs,_,F :: Fs,_,⟨h1,h2⟩,h=>⟨h1,EAll.append h2 h⟩
 | [],_,[],_,_ :: _,_,h,_=>h.elim
 | [],_,_ :: _,_,_,_,h,_=>h.elim
 | _ :: _,_,[],_,_,_,h,_=>h.elim
 | _ :: _,_,_ :: _,_,[],_,h,_=>h.elim
theorem EAll.take:∀ {rows:List (List V)}{l:List α}{Fs:List (List Nat)},EAll El h rows l Fs->∀ (n:Nat),EAll El h (rows.take n) (l.take n) (Fs.take n)
 | [],[],[],_,n=>by simp[EAll]
 | r :: rs,x :: xs,F :: Fs,⟨h1,h2⟩,0=>trivial
 | r :: rs,x :: xs,F :: Fs,⟨h1,h2⟩,n+1=>⟨h1,EAll.take h2 n⟩
 | [],[],_ :: _,h,_=>h.elim
 | [],_ :: _,_,h,_=>h.elim
 | _ :: _,[],_,h,_=>h.elim
 | _ :: _,_ :: _,[],h,_=>h.elim
theorem EAll.drop:∀ {rows:List (List V)}{l:List α}{Fs:List (List Nat)},EAll El h rows l Fs->∀ (n:Nat),EAll El h (rows.drop n) (l.drop n) (Fs.drop n)
 | [],[],[],_,n=>by simp[EAll]
 | r :: rs,x :: xs,F :: Fs,h,0=>h
 | r :: rs,x :: xs,F :: Fs,⟨h1,h2⟩,n+1=>EAll.drop h2 n
 | [],[],_ :: _,h,_=>h.elim
 | [],_ :: _,_,h,_=>h.elim
 | _ :: _,[],_,h,_=>h.elim
 | _ :: _,_ :: _,[],h,_=>h.elim
theorem EAll.flat {cs:α->List V}:∀ {l:List α},EAll (flat cs) h (l.map cs) l (l.map λ_ => [])
 | []=>trivial
 | x :: l=>⟨⟨rfl,rfl⟩,EAll.flat⟩
theorem EAll.of_flat {cs:α->List V}:∀ {rows:List (List V)}{l:List α}{Fs:List (List Nat)},EAll (Go.Proofs.YtmgopagfoemomaaGreat.flat cs) h rows l Fs->rows=l.map cs/\Fs.flatten = []
 | [],[],[],_=>⟨rfl,rfl⟩
 | r :: rs,x :: xs,F :: Fs,⟨⟨h1,h2⟩,h3⟩=>by obtain ⟨h4,h5⟩:=EAll.of_flat h3;subst h1;subst h2;subst h4;exact ⟨rfl,by simpa using h5⟩
 | [],[],_ :: _,h=>h.elim
 | [],_ :: _,_,h=>h.elim
 | _ :: _,[],_,h=>h.elim
 | _ :: _,_ :: _,[],h=>h.elim
theorem Sli.fr {ro:Bool}{R e:Nat} (hf:El.Fr):(Sli ro R e El).Fr:=by
 rintro h h' cs l F ⟨R',a,c,h1,h2⟩ hb
 refine ⟨R',a,c,h1,?_⟩;cases ro with
 | true =>
  obtain ⟨hR,h2 | ⟨b,i,rs,Fs,g0,g1,g2,g5,rfl⟩⟩:=h2
  ·exact ⟨hR,.inl h2⟩
  ·exact ⟨hR,.inr ⟨b,i,rs,Fs,g0,by unfold Heap.rows? at g1 ⊢;rw[hb b (by simp)];exact g1,g2,g5.fr hf λb hm=>hb b (by simp only[zfL];exact .inr hm),rfl⟩⟩
 | false =>
 cases a with
 | none=>exact h2
 | some p =>obtain ⟨b,i⟩:=p;obtain ⟨hR,rs,Fs,g1,g2,g3,g4,g5,rfl⟩:=h2;exact ⟨hR,rs,Fs,by rw[hb b (by simp)];exact g1,g2,g3,g4,g5.fr hf λb hm=>hb b (by simp only[zfL];exact .inr hm),rfl⟩
theorem Sli.nil {e:Nat}:Sli false R e El h [.sl R' none 0 (some 0)] [] []:=⟨R',none,some 0,rfl,rfl,rfl,rfl⟩
theorem Sli.val {e:Nat}{l:List α} (hs:Sli ro R e El h [.sl R' a n c] l F):n=l.length:=by obtain ⟨R1,a',c',h1,_⟩:=hs;injection h1 with h1 _;injection h1
theorem Sli.form {e:Nat}{v:V}{l:List α} (hs:Sli ro R e El h [v] l F) :
  ∃ a c,(∀ {R':Type} (K:Pq->Nat->Nq->Option R'),eS R v K=K a l.length c)/\Sli ro R e El h [.sl R a l.length c] l F:=by
 obtain ⟨R',a,c,h1,h2⟩:=hs;injection h1 with h1 _;subst h1;cases ro with
 | true =>obtain ⟨rfl,h2⟩:=h2;exact ⟨a,c,λK=>Ah _ _ _ _ _,R',a,c,rfl,rfl,h2⟩
 | false =>
 cases a with
 | none=>exact ⟨none,c,λK=>rfl,R,none,c,rfl,h2⟩
 | some p =>obtain ⟨b,i⟩:=p;obtain ⟨rfl,h3⟩:=h2;exact ⟨some (b,i),c,λK=>Ah _ _ _ _ _,R',some (b,i),c,rfl,rfl,h3⟩
theorem Sli.data {e:Nat}{l:List α} (hs:Sli false R e El h [.sl R' a n c] l F) (hk:k<l.length) :
  ∃ b i rs Fs,a=some (b,i)/\h[b]?=some (.rows R e false rs)/\i+l.length<=rs.length/\(∀ k,c=some k->l.length<=k/\i+k<=rs.length)/\(c=none->i=0)/\EAll El h ((rs.drop i).take l.length) l Fs/\F=b :: Fs.flatten:=by
 obtain ⟨R1,a',c',h1,h2⟩:=hs;injection h1 with h1 _;injection h1 with _ e1 e2 e3;subst e1;subst e3;cases a with
 | none=>obtain ⟨rfl,_⟩:=h2;simp at hk
 | some p =>obtain ⟨b,i⟩:=p;obtain ⟨_,rs,Fs,g⟩:=h2;exact ⟨b,i,rs,Fs,rfl,g⟩
theorem Sli.clip {e:Nat}{l:List α} (hs:Sli false R e El h [.sl R' a n c] l F):Sli false R e El h [.sl R' a n (some n)] l F:=by
 have hn:=hs.val;subst hn;obtain ⟨R1,a',c',h1,h2⟩:=hs;injection h1 with h1 _;injection h1 with e0 e1 e2 e3;subst e0;subst e1;subst e3;refine ⟨R',a,some l.length,rfl,?_⟩;cases a with
 | none=>obtain ⟨rfl,h3,h4⟩:=h2;exact ⟨rfl,rfl,h4⟩
 | some p =>obtain ⟨b,i⟩:=p;obtain ⟨hR,rs,Fs,g1,g2,g3,g4,g5⟩:=h2;exact ⟨hR,rs,Fs,g1,g2,(λk hk=>by injection hk with hk;subst hk;exact ⟨zfH _,g2⟩),(λh=>by cases h),g5⟩
theorem Jw {e:Nat}{l:List α} (hs:Sli false R e El h [.sl R' a n c] l F) :
  Az a n c none (some (Iv (n:Nat))) (some (Iv (n:Nat))) K=K a n (some n):=by
 have hn:=hs.val;subst hn;obtain ⟨R1,a',c',h1,h2⟩:=hs;injection h1 with h1 _;injection h1 with e0 e1 e2 e3;subst e0;subst e1;subst e3;have hc:∀ k,c=some k->l.length<=k:=λk hk=>by
  cases a with
  | none=>obtain ⟨rfl,_⟩:=h2;simp
  | some p=>obtain ⟨b,i⟩:=p;obtain ⟨_,_,_,_,_,g3,_⟩:=h2;exact (g3 k hk).1
 unfold Az HD KI Lw;cases c with
 | none=>simp only[Aa,AW];rw[DL ⟨by omega,by omega⟩,DL ⟨by omega,by omega⟩]
 | some k=>have:=hc k rfl;simp only[Aa,AW];rw[DL ⟨by omega,by omega⟩,DL ⟨by omega,by omega⟩]
theorem Sli.read {e:Nat}{l:List α} (hs:Sli ro R e El h [.sl R' a n c] l F) (hk:k<l.length) :
  ∃ o row G,a=Option.some o/\(∀ j m,ld h o.1 (o.2+k) j m=cut row j m)/\El h row l[k] G/\(∀ b∈G,b∈F)/\o.1∈F:=by
 have fin:∀ b i rs Fs,a=Option.some (b,i)->Heap.rows? h b=Option.some rs->i+l.length<=rs.length->EAll El h ((rs.drop i).take l.length) l Fs->F=b :: Fs.flatten ->
   ∃ o row G,a=Option.some o/\(∀ j m,ld h o.1 (o.2+k) j m=cut row j m)/\El h row l[k] G/\(∀ b∈G,b∈F)/\o.1∈F:=by
  rintro b i rs Fs rfl g1 g2 g5 rfl
  obtain ⟨row,G,k1,k2,k3⟩:=g5.get (EM hk);refine ⟨(b,i),row,G,rfl,λj m=>?_,k3,λx hx=>?_,by simp⟩
  ·have:rs[i+k]?=Option.some row:=by rw[zg3 hk,zf4] at k1;exact k1
   simp only[ld,g1,zf1,this]
  ·simp only[zfL,zhg];exact .inr ⟨G,zfV k2,hx⟩
 cases ro with
 | true =>
  obtain ⟨R1,a',c',h1,_,⟨rfl,_⟩ | ⟨b,i,rs,Fs,g0,g1,g2,g5,g6⟩⟩:=hs
  ·simp at hk
  ·injection h1 with h1 _;injection h1 with _ e1 _ _;exact fin b i rs Fs (by rw[e1,g0]) g1 g2 g5 g6
 | false =>obtain ⟨b,i,rs,Fs,h0,g1,g2,g3,g4,g5,g6⟩:=hs.data hk;exact fin b i rs Fs h0 (by simp only[Heap.rows?,g1]) g2 g5 g6
end
theorem Ez {a b:Nat} (h:a<=b):Nat.ble a b=true:=by simpa [Nat.ble_eq] using h
theorem zbg {a b:Nat} (h:¬ a<=b):Nat.ble a b=false:=by
 cases hb:Nat.ble a b with
 | false=>rfl
 | true=>exact absurd (zgC hb) h
theorem J7 {a:Nat}:Nat.beq a a=true:=by simp
theorem zeS {tl:List (List V)}{i len:Nat} (hi:i+len<=rs.length):((rs.take (i+len)++xs++tl).drop i).take (len+xs.length)=(rs.drop i).take len++xs:=by
 have h1:(rs.take i).length=i:=by simp;omega
 have h2:((rs.drop i).take len).length=len:=by simp;omega
 have h3:rs.take (i+len)=rs.take i++(rs.drop i).take len:=by rw[List.take_add]
 rw[h3,zfS,zfS,List.drop_append_of_le_length (by omega)];rw[show (rs.take i).drop i = [] from zgt (by omega),zf8,<- zfS,List.take_append_of_le_length (by simp;omega),zgk (by simp;omega)]
def zaG {R':Type} (lo e R len:Nat) (xs:List (List V)) (h:Heap) (a:Pq) (c:Nq) (K:V->Heap->Option R'):Option R':=match a with
 | none=>K (.sl R (some (h.length,0)) (len+xs.length) none) (h ++ [.rows R e false xs])
 | some (b,i)=>match c with
  | some c=>match Nat.ble (len+xs.length) c with
   | true=>eO (Gj lo h b (i+len) xs) λh'=>K (.sl R (some (b,i)) (len+xs.length) (some c)) h'
   | false=>eO (Fl h b i len) λold=>K (.sl R (some (h.length,0)) (len+xs.length) none) (h ++ [.rows R e false (old++xs)])
  | none=>eO (Heap.own? lo e h b) λrs=>match Nat.ble (i+len+xs.length) rs.length with
   | true=>eO (Gj lo h b (i+len) xs) λh'=>K (.sl R (some (b,i)) (len+xs.length) none) h'
   | false=>Bf (Nat.beq i 0) <| eO (Fl h b i len) λold=>K (.sl R (some (h.length,0)) (len+xs.length) none) (h.set b .dead ++ [.rows R e false (old++xs)])
theorem Sli.push {α:Type}{El:Rel α}{h:Heap}{e bytes:Nat}{l ys:List α} (hfr:El.Fr)
  (hs:Sli false R e El h [.sl R a n c] l F) (hx:EAll El h xs ys Gs) (hb:0<bytes) (hsz:(l.length+ys.length)*bytes<=140737488355328) (hlo:∀ b∈F,lo<=b) (hl:lo<=h.length)
  (hnd:(F++Gs.flatten).Nodup) (hF:∀ b∈F++Gs.flatten,b<h.length) (hne:ys ≠ []) :
  ∃ a' c' h' F',(∀ {R':Type} (K:V->Heap->Option R'),DJ lo e R bytes (.sl R a n c) xs h K=K (.sl R a' (l.length+ys.length) c') h')/\Sli false R e El h' [.sl R a' (l.length+ys.length) c'] (l++ys) F'/\h.length<=h'.length /\
   (∀ b,b<h.length->b∉F->h'[b]?=h[b]?)/\(∀ b∈F',b∈F++Gs.flatten\/(h.length<=b/\b<h'.length))/\F'.Nodup:=by
 have hxl:=hx.len;have hxs:xs ≠ []:=λh0=>by subst h0;simp at hxl;exact hne (zfM hxl.1.symm)
 have hbl:Nat.blt 0 bytes=true:=by simpa [zhc] using hb
 have hn:=hs.val;subst hn;obtain ⟨x0,xr,hx0⟩:∃ x0 xr,xs=x0 :: xr:=by cases xs with
  | nil=>exact absurd rfl hxs
  | cons x r=>exact ⟨x,r,rfl⟩
 have hsz':decide ((l.length+xs.length)*bytes<=K0)=true:=decide_eq_true (by rw[hxl.1];exact hsz);have hA:∀ {R':Type} (K:V->Heap->Option R'),DJ lo e R bytes (.sl R a l.length c) xs h K=zaG lo e R l.length xs h a c K:=by
  intro R' K;subst hx0;simp only[DJ,hbl,hsz',Dj];unfold zaG;cases a with
  | none=>rfl
  | some p =>obtain ⟨b,i⟩:=p;simp only[J7,Dj];cases c<;>rfl
 have new:∀ (old:List (List V)) (Fs:List (List Nat)) (h0:Heap),EAll El h0 old l Fs->EAll El h0 xs ys Gs->h0.length=h.length->(∀ b∈(Fs++Gs).flatten,b<h.length)->(Fs++Gs).flatten.Nodup ->
   Sli false R e El (h0 ++ [.rows R e false (old++xs)]) [.sl R (some (h.length,0)) (l.length+ys.length) none] (l++ys) (h.length ::(Fs++Gs).flatten)/\(h.length ::(Fs++Gs).flatten).Nodup:=by
  intro old Fs h0 ho hx' hl0 hlt hnd';have hol:=ho.len;refine ⟨⟨R,some (h.length,0),none,by simp,rfl,old++xs,Fs++Gs,by simp[<- hl0],by simp;omega,λk hk=>(by cases hk),λ_=>rfl,?_,rfl⟩,?_⟩
  ·have:((old++xs).drop 0).take (l++ys).length=old++xs:=by rw[zgF,zgk];simp;omega
   rw[this];have hap:=ho.append hx';refine hap.fr hfr λb hb=>?_;rw[zfK (by rw[hl0];exact hlt b hb)]
  ·rw[zfN];exact ⟨λhm=>by have:=hlt _ hm;omega,hnd'⟩
 cases a with
 | none =>
  obtain ⟨R1,a1,c1,e1,e2⟩:=hs;injection e1 with e1 _;injection e1 with _ e3 _ e4;subst e3;subst e4;obtain ⟨rfl,rfl,rfl⟩:=e2;simp only[zf8] at hnd hF;obtain ⟨n1,n2⟩:=new [] [] h trivial hx rfl (by simpa using hF) (by simpa using hnd);refine ⟨_,_,_,_,λK=>by rw[hA K];simp only[zaG];rw[hxl.1,zf8],n1,by simp,λb hb _=>zfK hb,λb hb=>?_,n2⟩;simp only[zfL,zf8] at hb;rcases hb with rfl | hb
  ·exact .inr ⟨zfH _,by simp⟩
  ·exact .inl (by simpa using hb)
 | some p =>
  obtain ⟨b,i⟩:=p;obtain ⟨R1,a1,c1,e1,e2⟩:=hs;injection e1 with e1 _;injection e1 with _ e3 _ e4;subst e3;subst e4;obtain ⟨_,rs,Fs,g1,g2,g3,g4,g5,rfl⟩:=e2;have hlob:lo<=b:=hlo b (by simp);have hblt:b<h.length:=hF b (by simp);have hnd1:b∉Fs.flatten++Gs.flatten/\(Fs.flatten++Gs.flatten).Nodup:=by rw[zf9,zfN] at hnd;exact hnd
  have hF1:∀ x∈(Fs++Gs).flatten,x<h.length:=λx hx=>hF x (by rw[zf9,zfL];rw[zgf] at hx;exact .inr hx);have hld:Fl h b i l.length=some ((rs.drop i).take l.length):=by simp only[Fl,Heap.rows?,g1,zf1,Ez g2]
  have place:∀ c,(∀ k,c=some k->l.length+ys.length<=k/\i+k<=rs.length)->(c=none->i=0)->i+l.length+xs.length<=rs.length->∃ h',Gj lo h b (i+l.length) xs=some h' /\
    Sli false R e El h' [.sl R (some (b,i)) (l.length+ys.length) c] (l++ys) (b ::(Fs++Gs).flatten)/\h'.length=h.length/\(∀ x,x≠b->h'[x]?=h[x]?):=by
   intro c hc hc0 hle;refine ⟨h.set b (.rows R e false (rs.take (i+l.length)++xs++rs.drop (i+l.length+xs.length))),?_,?_,by simp,λx hx=>zfJ (Ne.symm hx)⟩
   ·simp only[Gj,g1,Ez hlob,Ez hle]
   ·refine ⟨R,some (b,i),c,by simp,rfl,rs.take (i+l.length)++xs++rs.drop (i+l.length+xs.length),Fs++Gs,by simp[hblt],by simp;omega,λk hk=>?_,hc0,?_,rfl⟩
    ·have:=hc k hk;refine ⟨by simpa using this.1,?_⟩;simp only[zfR,zf2,zgE];omega
    ·rw[zfR,<- hxl.1,zeS g2];refine (g5.append hx).fr hfr λx hx=>zfJ ?_
     rintro rfl
     rw[zgf] at hx;exact hnd1.1 hx
  have fin:∀ F',F'=b ::(Fs++Gs).flatten->(∀ x∈F',x∈(b :: Fs.flatten)++Gs.flatten\/(h.length<=x/\x<h.length))/\F'.Nodup:=by
   rintro F' rfl
   rw[zgf];exact ⟨λx hx => .inl hx,by rw[zfN];exact hnd1⟩
  have E2:∀ h0:Heap,h0.length=h.length->(∀ x,x≠b->h0[x]?=h[x]?)->Sli false R e El (h0 ++ [.rows R e false ((rs.drop i).take l.length++xs)]) [.sl R (some (h.length,0)) (l.length+ys.length) none] (l++ys) (h.length ::(Fs++Gs).flatten) /\
    (h.length ::(Fs++Gs).flatten).Nodup:=by
   intro h0 hl0 hx0;refine new _ Fs h0 (g5.fr hfr λx hx=>hx0 x ?_) (hx.fr hfr λx hx=>hx0 x ?_) hl0 hF1 (by rw[zgf];exact hnd1.2)
   ·rintro rfl;exact hnd1.1 (zgN _ hx)
   ·rintro rfl;exact hnd1.1 (zgP _ hx)
  have mem:∀ x∈h.length ::(Fs++Gs).flatten,x∈(b :: Fs.flatten)++Gs.flatten\/(h.length<=x/\x<h.length+1):=by
   intro x hx;rw[zfL] at hx;rcases hx with rfl | hx
   ·exact .inr ⟨zfH _,by omega⟩
   ·rw[zgf] at hx;exact .inl (by rw[zf9];exact zgy _ hx)
  cases c with
  | some c =>
   obtain ⟨k1,k2⟩:=g3 c rfl;by_cases hle:l.length+xs.length<=c
   ·obtain ⟨h',p1,p2,p3,p4⟩:=place (some c) (λk hk=>by injection hk with hk;subst hk;exact ⟨by omega,k2⟩) (λh=>by cases h) (by omega);obtain ⟨f1,f2⟩:=fin _ rfl;refine ⟨_,_,h',_,λK=>?_,p2,by omega,λx _ hx=>p4 x λe=>hx (by simp[e]),λx hx=>(f1 x hx).imp id λh=>by omega,f2⟩;rw[hA K];simp only[zaG,Ez hle,p1,Ae];rw[hxl.1]
   ·obtain ⟨p1,p2⟩:=E2 h rfl λ_ _=>rfl;refine ⟨_,_,_,_,λK=>?_,p1,by simp,λx hx _=>zfK hx,λx hx=>(mem x hx).imp id λh=>by simpa using h,p2⟩;rw[hA K];simp only[zaG,zbg hle,hld,Ae];rw[hxl.1]
  | none =>
   have hi0:=g4 rfl;subst hi0;have hown:Heap.own? lo e h b=some rs:=by simp only[Heap.own?,g1,Ez hlob,J7]
   by_cases hle:0+l.length+xs.length<=rs.length
   ·obtain ⟨h',p1,p2,p3,p4⟩:=place none (λk hk=>by cases hk) (λ_=>rfl) hle;obtain ⟨f1,f2⟩:=fin _ rfl;refine ⟨_,_,h',_,λK=>?_,p2,by omega,λx _ hx=>p4 x λe=>hx (by simp[e]),λx hx=>(f1 x hx).imp id λh=>by omega,f2⟩;rw[hA K];simp only[zaG,hown,Ae,Ez hle,p1];rw[hxl.1]
   ·obtain ⟨p1,p2⟩:=E2 (h.set b .dead) (by simp) λx hx=>zfJ (Ne.symm hx);refine ⟨_,_,_,_,λK=>?_,p1,by simp,λx hx hxF=>?_,λx hx=>(mem x hx).imp id λh=>by simpa using h,p2⟩
    ·rw[hA K];simp only[zaG,hown,Ae,zbg hle,J7,Dj,hld];rw[hxl.1]
    ·rw[zfK (by simpa using hx),zfJ]
     rintro rfl;exact hxF (by simp)
theorem B4 {h:Heap}{b r j e:Nat}{row row' cs:List V} (hb:h[b]?=some (.rows R e false rs)) (hl:lo<=b) (hr:rs[r]?=some row) (hp:paste row j cs=some row') :
  st lo h b r j cs=some (h.set b (.rows R e false (rs.set r row'))):=by
 simp only[st,hb,Ez hl,hr,hp,zf1]
theorem Ee {h:Heap}{b r j e:Nat}{row row' cs:List V} (hb:b<h.length) (hl:lo<=b) (hr:r<rs.length) (hp:paste row j cs=some row') :
  st lo (h.set b (.rows R e false (rs.set r row))) b r j cs=some (h.set b (.rows R e false (rs.set r row'))):=by
 simp only[st,zf3 hb,Ez hl,zf3 hr,hp,zf1,zgv]
theorem FE {y:Nat} (h:y∈(Fs.set k G).flatten):y∈Fs.flatten\/y∈G:=by
 rw[zhg] at h;obtain ⟨H,h1,h2⟩:=h;rcases zgd h1 with h3 | rfl
 ·exact .inl (zhg.2 ⟨H,h3,h2⟩)
 ·exact .inr h2
theorem Ks:∀ {Fs:List (List Nat)}{k:Nat}{G:List Nat},Fs.flatten.Nodup->G.Nodup->(∀ y∈G,y∈Fs.flatten->∃ H,Fs[k]?=some H/\y∈H)->(Fs.set k G).flatten.Nodup
 | [],k,G,h,_,_=>h
 | F :: Fs,0,G,h,hG,hd=>by
  simp only[zhr,zf7] at h hd ⊢;rw[zfG] at h ⊢;refine ⟨hG,h.2.1,λa ha b hb=>?_⟩
  rintro rfl
  obtain ⟨H,h1,h2⟩:=hd a ha (zgP _ hb);simp at h1;subst h1;exact h.2.2 a h2 a hb rfl
 | F :: Fs,k+1,G,h,hG,hd=>by
  simp only[List.set_cons_succ,zf7] at h hd ⊢;rw[zfG] at h ⊢;have ih:=Ks (k:=k) h.2.1 hG λy hy hm=>by obtain ⟨H,h1,h2⟩:=hd y hy (zgP _ hm);exact ⟨H,by simpa using h1,h2⟩
  refine ⟨h.1,ih,λa ha b hb=>?_⟩
  rintro rfl
  rcases FE hb with h1 | h1
  ·exact h.2.2 a ha a h1 rfl
  ·obtain ⟨H,h2,h3⟩:=hd a h1 (zgN _ ha);simp at h2;exact h.2.2 a ha a (zhg.2 ⟨H,zfV h2,h3⟩) rfl
theorem Hn (h:Fs[k]?=some G) {y:Nat} (hy:y∈G):y∈Fs.flatten:=zhg.2 ⟨G,zfV h,hy⟩
theorem set_same {α:Type}:∀ {l:List α}{k:Nat}{x:α},l[k]?=some x->l.set k x=l
 | [],k,x,h=>rfl
 | y :: l,0,x,h=>by simp at h;subst h;rfl
 | y :: l,k+1,x,h=>by simp only[List.set_cons_succ];rw[set_same (by simpa using h)]
theorem L2:∀ {Fs:List (List Nat)}{k y:Nat}{G G':List Nat},Fs.flatten.Nodup->Fs[k]?=some G->y∈(Fs.set k G').flatten->(y∈Fs.flatten/\y∉G)\/y∈G'
 | [],k,y,G,G',_,h,_=>by simp at h
 | F :: Fs,0,y,G,G',hn,h,hy=>by
  simp at h;subst h;simp only[zhr,zf7,zfF] at hn hy ⊢;rw[zfG] at hn;rcases hy with hy | hy
  ·exact .inr hy
  ·exact .inl ⟨.inr hy,λhm=>hn.2.2 y hm y hy rfl⟩
 | F :: Fs,k+1,y,G,G',hn,h,hy=>by
  simp only[List.set_cons_succ,zf7,zfF] at hn hy ⊢;rw[zfG] at hn;have h':Fs[k]?=some G:=by simpa using h
  rcases hy with hy | hy
  ·exact .inl ⟨.inl hy,λhm=>hn.2.2 y hy y (zhg.2 ⟨G,zfV h',hm⟩) rfl⟩
  ·rcases L2 hn.2.1 h' hy with h1 | h1
   ·exact .inl ⟨.inr h1.1,h1.2⟩
   ·exact .inr h1
theorem EAll.put {α:Type}{El:Rel α}{h h':Heap} (hfr:El.Fr):∀ {rows:List (List V)}{l:List α}{Fs:List (List Nat)},EAll El h rows l Fs->Fs.flatten.Nodup->∀ {k:Nat}{G:List Nat},Fs[k]?=some G ->
  (∀ y∈Fs.flatten,y∉G->h'[y]?=h[y]?)->∀ {row':List V}{x':α}{G':List Nat},El h' row' x' G'->EAll El h' (rows.set k row') (l.set k x') (Fs.set k G')
 | [],[],[],_,_,k,G,h,_,_,_,_,_=>by simp at h
 | r :: rs,x :: xs,F :: Fs,⟨h1,h2⟩,hn,0,G,hk,hb,row',x',G',he=>by simp at hk;subst hk;simp only[zf7,zfG] at hn;refine ⟨he,h2.fr hfr λy hy=>hb y (by simp only[zf7,zfF];exact .inr hy) λhm=>hn.2.2 y hm y hy rfl⟩
 | r :: rs,x :: xs,F :: Fs,⟨h1,h2⟩,hn,k+1,G,hk,hb,row',x',G',he=>by
  have hk':Fs[k]?=some G:=by simpa using hk
  simp only[zf7,zfG] at hn;refine ⟨hfr _ _ _ _ _ h1 λy hy=>hb y (by simp only[zf7,zfF];exact .inl hy) λhm=>hn.2.2 y hy y (zhg.2 ⟨G,zfV hk',hm⟩) rfl,?_⟩;exact EAll.put hfr h2 hn.2.1 hk' (λy hy=>hb y (by simp only[zf7,zfF];exact .inr hy)) he
 | [],[],_ :: _,h,_,_,_,_,_,_,_,_,_=>h.elim
 | [],_ :: _,_,h,_,_,_,_,_,_,_,_,_=>h.elim
 | _ :: _,[],_,h,_,_,_,_,_,_,_,_,_=>h.elim
 | _ :: _,_ :: _,[],h,_,_,_,_,_,_,_,_,_=>h.elim
theorem Sli.put {α:Type}{El:Rel α}{h:Heap}{R R' e n k:Nat}{a:Pq}{c:Nq}{l:List α}{F:List Nat} (hfr:El.Fr) (hs:Sli false R e El h [.sl R' a n c] l F) (hk:k<l.length) (hnd:F.Nodup) :
  ∃ b i rs row G,a=some (b,i)/\b∈F/\b∉G/\h[b]?=some (.rows R e false rs)/\rs[i+k]?=some row/\El h row l[k] G/\(∀ x∈G,x∈F)/\G.Nodup /\
   ∀ h' row' x' G',h'[b]?=some (.rows R e false (rs.set (i+k) row'))->(∀ y∈F,y≠b->y∉G->h'[y]?=h[y]?)->El h' row' x' G'->G'.Nodup->(∀ y∈G',y∈F->y∈G) ->
    ∃ F',Sli false R e El h' [.sl R' a n c] (l.set k x') F'/\(∀ y∈F',(y∈F/\y∉G)\/y∈G')/\F'.Nodup/\(G'=G->F'=F):=by
 have hn:=hs.val;subst hn;obtain ⟨R1,a1,c1,e1,e2⟩:=hs;injection e1 with e1 _;injection e1 with e0 e3 _ e4;subst e0;subst e3;subst e4;cases a with
 | none=>obtain ⟨rfl,_⟩:=e2;simp at hk
 | some p =>
  obtain ⟨b,i⟩:=p;obtain ⟨hR,rs,Fs,g1,g2,g3,g4,g5,rfl⟩:=e2;obtain ⟨row,G,k1,k2,k3⟩:=g5.get (EM hk);rw[zfN] at hnd;have hGF:∀ x∈G,x∈Fs.flatten:=λx hx=>Hn k2 hx;have hGn:G.Nodup:=hnd.2.sublist (List.sublist_flatten_of_mem (zfV k2));refine ⟨b,i,rs,row,G,rfl,by simp,λhm=>hnd.1 (hGF b hm),g1,?_,k3,λx hx=>zgy _ (hGF x hx),hGn,λh' row' x' G' h1 h2 h3 h4 h5=>?_⟩
  ·rw[zg3 hk,zf4] at k1;exact k1
  ·have hl1:((rs.set (i+k) row').drop i).take l.length=((rs.drop i).take l.length).set k row':=by rw[List.drop_set,if_neg (by omega),show i+k - i=k by omega,List.take_set]
   have hG1:∀ y∈G',y∈Fs.flatten->∃ H,Fs[k]?=some H/\y∈H:=λy hy hm=>⟨G,k2,h5 y hy (zgy _ hm)⟩
   have hbG:b∉G':=λhm=>hnd.1 (hGF b (h5 b hm (by simp)));refine ⟨b ::(Fs.set k G').flatten,⟨R',some (b,i),c,by simp,hR,rs.set (i+k) row',Fs.set k G',h1,by simpa using g2,λq hq=>by simpa using g3 q hq,g4,?_,rfl⟩,λy hy=>?_,?_,λhG=>?_⟩
   ·rw[zf6,hl1];refine g5.put hfr hnd.2 k2 (λy hy hyG=>h2 y (zgy _ hy) (λe=>hnd.1 (e ▸ hy)) hyG) h3
   ·rw[zfL] at hy;rcases hy with rfl | hy
    ·exact .inl ⟨by simp,λhm=>hnd.1 (hGF _ hm)⟩
    ·rcases L2 hnd.2 k2 hy with h6 | h6
     ·exact .inl ⟨zgy _ h6.1,h6.2⟩
     ·exact .inr h6
   ·rw[zfN];refine ⟨λhm=>?_,Ks hnd.2 h4 hG1⟩;rcases FE hm with h6 | h6
    ·exact hnd.1 h6
    ·exact hbG h6
   ·rw[hG,set_same k2]


variable {T:Type}{c:Nq}{t:List Blk}{α:Type}{ro:Bool}{β:Type}{l:List α}{g:List β->α->Option β}{f:α->β}{h0:Heap}
structure Mv (h:Heap) (F:List Nat) (h':Heap) (F':List Nat):Prop where
 le:h.length<=h'.length
 fr:∀ b,b<h.length->b∉F->h'[b]?=h[b]?
 nd:F'.Nodup
 sub:∀ b∈F',b∈F\/(h.length<=b/\b<h'.length)
structure Rel.Ok {α:Type} (El:Rel α):Prop where
 fr:El.Fr
 bd:∀ (h:Heap) (cs:List V) (x:α) (F:List Nat),El h cs x F->∀ b∈F,b<h.length
section
variable {h h' h'':Heap}{F F' F'' G:List Nat}
theorem zeN {lo e R q b n:Nat}{x:List V}{xs:List (List V)}{h:Heap}{K:V->Heap->Option T}:DJ lo e R b (.sl q none n c) (x :: xs) h K=DJ lo e R b (.sl R none n c) (x :: xs) h K:=rfl
theorem Mv.refl (hn:F.Nodup):Mv h F h F:=⟨zfH _,λ_ _ _=>rfl,hn,λ_ hb => .inl hb⟩
theorem Mv.nil:Mv h [] h []:=Mv.refl (by simp)
theorem Mv.trans (a:Mv h F h' F') (b:Mv h' F' h'' F''):Mv h F h'' F'' :=
 ⟨zfE a.le b.le,λx hx hF=>by
  rw[b.fr x (zfO hx a.le) λhm=>(a.sub x hm).elim hF λh=>by omega,a.fr x hx hF],b.nd,λx hx=>by
  have h1:=a.le;have h2:=b.le;rcases b.sub x hx with h3 | h3
  ·rcases a.sub x h3 with h4 | h4
   ·exact .inl h4
   ·exact .inr (by omega)
  ·exact .inr (by omega)⟩
theorem Mv.drop (a:Mv h F h' F'):Mv h F h' []:=⟨a.le,a.fr,by simp,by simp⟩
theorem Mv.lean (a:Mv h F h' F') (hn:F''.Nodup) (hs:∀ b∈F'',b∈F'):Mv h F h' F'':=⟨a.le,a.fr,hn,λb hb=>a.sub b (hs b hb)⟩
theorem Mv.wide (a:Mv h F h' F') (hs:∀ b∈F,b∈G):Mv h G h' F':=⟨a.le,λb hb hG=>a.fr b hb λhm=>hG (hs b hm),a.nd,λb hb=>(a.sub b hb).imp (hs b) id⟩
theorem Mv.snoc:Mv h [] (h++t) []:=⟨by simp,λb hb _=>zfK hb,by simp,by simp⟩
theorem Mv.snoc' (hn:F.Nodup):Mv h F (h++t) F:=⟨by simp,λb hb _=>zfK hb,hn,λb hb => .inl hb⟩
theorem Mv.last {b:Blk}:Mv h [] (h ++ [b]) [h.length]:=⟨by simp,λb hb _=>zfK hb,by simp,λx hx => .inr (by simp at hx;subst hx;simp)⟩
theorem Mv.join (a:Mv h F h' F') (b:Mv h' [] h'' F'') (hb:∀ x∈F',x<h'.length):Mv h F h'' (F'++F'') :=
 ⟨zfE a.le b.le,λx hx hF=>by rw[b.fr x (zfO hx a.le) (by simp),a.fr x hx hF],by
  rw[zfG];refine ⟨a.nd,b.nd,λx hx y hy=>?_⟩
  rintro rfl
  have h1:=hb x hx;rcases b.sub x hy with h2 | h2
  ·simp at h2
  ·omega,λx hx=>by
  have h1:=a.le;have h2:=b.le;rw[zfF] at hx;rcases hx with hx | hx
  ·rcases a.sub x hx with h3 | h3
   ·exact .inl h3
   ·exact .inr (by omega)
  ·rcases b.sub x hx with h3 | h3
   ·simp at h3
   ·exact .inr (by omega)⟩
theorem Mv.fr' (a:Mv h F h' F') (hl:h'.length=h.length) (b:Nat) (hb:b∉F):h'[b]?=h[b]?:=by
 by_cases hlt:b<h.length
 ·exact a.fr b hlt hb
 ·rw[zgj (by omega),zgj (by omega)]
theorem Mv.aside (a:Mv h F h' F') (hn:(F++G).Nodup) (hG:∀ b∈G,b<h.length):Mv h (F++G) h' (F'++G):=by
 rw[zfG] at hn;refine ⟨a.le,λb hb hF=>a.fr b hb λhm=>hF (zgN _ hm),?_,λb hb=>?_⟩
 ·rw[zfG];refine ⟨a.nd,hn.2.1,λx hx y hy=>?_⟩
  rintro rfl
  rcases a.sub x hx with h2 | h2
  ·exact hn.2.2 x h2 x hy rfl
  ·have:=hG x hy;omega
 ·rw[zfF] at hb ⊢;rcases hb with hb | hb
  ·exact (a.sub b hb).imp .inl id
  ·exact .inl (.inr hb)
theorem Mv.lt (a:Mv h F h' F') (hF:∀ b∈F,b<h.length):∀ b∈F',b<h'.length:=λb hb=>by
 have:=a.le;rcases a.sub b hb with h1 | h1
 ·have:=hF b h1;omega
 ·exact h1.2
theorem Mv.ge {lo:Nat} (a:Mv h F h' F') (hl:lo<=h.length) (hF:∀ b∈F,lo<=b):∀ b∈F',lo<=b:=λb hb=>by
 rcases a.sub b hb with h1 | h1
 ·exact hF b h1
 ·omega
theorem Mv.new (a:Mv h [] h' F'):∀ b∈F',h.length<=b:=λb hb=>by
 rcases a.sub b hb with h1 | h1
 ·simp at h1
 ·exact h1.1
theorem Mv.keep {El:Rel α}{cs:List V}{x:α} (a:Mv h F h' F') (ok:El.Ok) (he:El h cs x G) (hd:∀ b∈G,b∉F):El h' cs x G :=
 ok.fr _ _ _ _ _ he λb hb=>a.fr b (ok.bd _ _ _ _ he b hb) (hd b hb)
theorem Mv.keep0 {El:Rel α}{cs:List V}{x:α} (a:Mv h [] h' F') (ok:El.Ok) (he:El h cs x G):El h' cs x G:=a.keep ok he (by simp)
end
theorem A2 {R:Type}{sz e:Nat}{h:Heap}{row:List V}{K:List (List V)->Option R}:Aw sz (h ++ [.rows sz e ro [row]]) (.sl sz (some (h.length,0)) 1 c) K=K [row]:=by simp[Aw,Fl,PS,Bf]
theorem Sli.same {El:Rel α}{El':Rel β}{R e e' n:Nat}{h h':Heap}{v:V}{l':List β}{F F':List Nat}{a:Pq} (h0:Sli false R e El h [v] l F)
  (es:∀ {R':Type} (K:Pq->Nat->Nq->Option R'),eS R v K=K a n c) (h1:Sli false R e' El' h' [.sl R a n c] l' F'):Sli false R e' El' h' [v] l' F':=by
 obtain ⟨R0,a0,c0,e0,g0⟩:=h0;injection e0 with e0 _;subst e0;have hk:=es (λa n c=>some (a,n,c));have hn:=h1.val;obtain ⟨R1,a1,c1,e1,g1⟩:=h1;injection e1 with e1 _;injection e1 with _ x1 _ x3;subst x1;subst x3;cases a0 with
 | none =>simp only[eS,Option.some.injEq,Prod.mk.injEq] at hk;obtain ⟨rfl,h2,rfl⟩:=hk;exact ⟨R0,none,c0,by rw[h2,hn],g1⟩
 | some p =>obtain ⟨rfl,_⟩:=g0;rw[Ah] at hk;simp only[Option.some.injEq,Prod.mk.injEq] at hk;obtain ⟨rfl,h2,rfl⟩:=hk;obtain ⟨b,i⟩:=p;exact ⟨R0,some (b,i),c0,by rw[h2,hn],rfl,g1.2⟩
theorem EG {cs:α->List V}:(flat cs).Ok:=⟨Xi,λh c x F he b hb=>by rw[he.2] at hb;simp at hb⟩
theorem EAll.bd {α:Type}{El:Rel α}{h:Heap} (ok:El.Ok):∀ {rows:List (List V)}{l:List α}{Fs:List (List Nat)},EAll El h rows l Fs->∀ b∈Fs.flatten,b<h.length
 | [],[],[],_,b,hb=>by simp at hb
 | r :: rs,x :: xs,F :: Fs,⟨h1,h2⟩,b,hb=>by
  rw[zf7,zfF] at hb;rcases hb with hb | hb
  ·exact ok.bd _ _ _ _ h1 b hb
  ·exact EAll.bd ok h2 b hb
 | [],[],_ :: _,h,_,_=>h.elim
 | [],_ :: _,_,h,_,_=>h.elim
 | _ :: _,[],_,h,_,_=>h.elim
 | _ :: _,_ :: _,[],h,_,_=>h.elim
theorem Sli.ok {α:Type}{El:Rel α}{ro:Bool}{R e:Nat} (ok:El.Ok):(Sli ro R e El).Ok:=by
 refine ⟨Sli.fr ok.fr,?_⟩
 rintro h cs l F ⟨R',a,c,h1,h2⟩ b hb
 cases ro with
 | true =>
  obtain ⟨_,⟨_,rfl⟩ | ⟨b',i,rs,Fs,g0,g1,g2,g5,rfl⟩⟩:=h2
  ·simp at hb
  ·rw[zfL] at hb;rcases hb with rfl | hb
   ·apply zhf;intro hle;unfold Heap.rows? at g1;rw[zgj hle] at g1;cases g1
   ·exact g5.bd ok b hb
 | false =>
 cases a with
 | none=>obtain ⟨_,_,rfl⟩:=h2;simp at hb
 | some p =>
  obtain ⟨b',i⟩:=p;obtain ⟨hR,rs,Fs,g1,g2,g3,g4,g5,rfl⟩:=h2;rw[zfL] at hb;rcases hb with rfl | hb
  ·exact (Ga g1).1
  ·exact g5.bd ok b hb
def E2 {α β:Type} (g:List β->α->Option β):List β->List α->List β
 | acc,[]=>acc
 | acc,x :: xs=>E2 g (acc++(g acc x).toList) xs
theorem V2 {α β:Type}{g:List β->α->Option β}:∀ {acc:List β}{l:List α}{x:α},E2 g acc (l ++ [x])=E2 g acc l++(g (E2 g acc l) x).toList
 | acc,[],x=>rfl
 | acc,y :: l,x=>by simp only[zf9,E2];exact V2
theorem V1 {acc:List β}{i:Nat} (hi:i<l.length):E2 g acc (l.take (i+1))=E2 g acc (l.take i)++(g (E2 g acc (l.take i)) l[i]).toList:=by rw[List.take_add_one,EM hi];exact V2
theorem Y9 {α β:Type}{g:List β->α->Option β}:∀ {acc:List β}{l:List α},(E2 g acc l).length<=acc.length+l.length
 | acc,[]=>by simp[E2]
 | acc,x :: l=>by
  have:=Y9 (g:=g) (acc:=acc++(g acc x).toList) (l:=l);have h2:(g acc x).toList.length<=1:=by cases g acc x<;>simp
  simp only[E2,zgw,zfR] at this ⊢;omega
theorem OZ {α β:Type}{f:α->β}:∀ {acc:List β}{l:List α},E2 (λ_ x=>some (f x)) acc l=acc++l.map f
 | acc,[]=>by simp[E2]
 | acc,x :: l=>by simp only[E2,zgV];rw[OZ];simp
theorem Ob {El:Rel β} (ok:El.Ok) {lo R e bytes:Nat}{b0:List β}{F0:List Nat}{a0:Pq}{c0:Nq}
  (hlo:lo<=h0.length) (hF:∀ b∈F0,lo<=b) (hnd:F0.Nodup) (hb:0<bytes) (hsz:(b0.length+l.length)*bytes<=140737488355328)
  (L:Nat->Pq->Nat->Nq->Heap->Option T)
  (step:∀ i (hi:i<l.length) a c hh F acc,(i=0->a=a0/\c=c0)->acc=E2 g b0 (l.take i)->Mv h0 F0 hh F->Sli false R e El hh [.sl R a acc.length c] acc F ->
   (g acc l[i]=none/\∃ h2,Mv hh [] h2 []/\L i a acc.length c hh=L (i+1) a acc.length c h2) \/
   (∃ y row G h2,g acc l[i]=some y/\El h2 row y G/\Mv hh [] h2 G/\L i a acc.length c hh=DJ lo e R bytes (.sl R a acc.length c) [row] h2 λv h=>eS R v λa n c=>L (i+1) a n c h))
  (hs:Sli false R e El h0 [.sl R a0 b0.length c0] b0 F0) :
  ∃ a c h' F',L 0 a0 b0.length c0 h0=L l.length a (E2 g b0 l).length c h'/\Sli false R e El h' [.sl R a (E2 g b0 l).length c] (E2 g b0 l) F'/\Mv h0 F0 h' F':=by
 have loop:∀ m i a c hh F,m+i=l.length->(i=0->a=a0/\c=c0)->Mv h0 F0 hh F->Sli false R e El hh [.sl R a (E2 g b0 (l.take i)).length c] (E2 g b0 (l.take i)) F ->
   ∃ a' c' h' F',L i a (E2 g b0 (l.take i)).length c hh=L l.length a' (E2 g b0 l).length c' h'/\Sli false R e El h' [.sl R a' (E2 g b0 l).length c'] (E2 g b0 l) F'/\Mv h0 F0 h' F':=by
  intro m;induction m with
  | zero =>
   intro i a c hh F hi hz hm hr;have:i=l.length:=by omega
   subst this;rw[zhm] at hr ⊢;exact ⟨a,c,hh,F,rfl,hr,hm⟩
  | succ m ih =>
   intro i a c hh F hi hz hm hr;have hlt:i<l.length:=by omega
   rcases step i hlt a c hh F _ hz rfl hm hr with ⟨hg,h2,m2,e2⟩ | ⟨y,row,G,h2,hg,hy,m2,e2⟩
   ·have ht:E2 g b0 (l.take (i+1))=E2 g b0 (l.take i):=by rw[V1 hlt,hg];simp
    rw[e2,<- ht];refine ih (i+1) a c h2 F (by omega) (λh=>by omega) ?_ (by rw[ht];exact m2.keep0 (Sli.ok ok) hr);refine hm.trans ⟨m2.le,λb hb hF=>m2.fr b hb (by simp),hm.nd,λb hb => .inl hb⟩
   ·have ht:E2 g b0 (l.take (i+1))=E2 g b0 (l.take i) ++ [y]:=by rw[V1 hlt,hg];simp
    have hbd:=(Sli.ok ok).bd _ _ _ _ hr;have hr2:=m2.keep0 (Sli.ok ok) hr;have hlen:(E2 g b0 (l.take i)).length<=b0.length+i:=zfE Y9 (by simp;omega);have hnn:F.Nodup:=hm.nd;obtain ⟨a',c',h',F',p1,p2,p3,p4,p5,p6⟩:=Sli.push (lo:=lo) (bytes:=bytes) ok.fr hr2 (xs := [row]) (ys := [y]) (Gs := [G]) ⟨hy,trivial⟩ hb
     (zfE (zga _ (by simp;omega)) hsz) (hm.ge hlo hF) (by have:=hm.le;have:=m2.le;omega)
     (by
      rw[zfG];refine ⟨hnn,by simpa using m2.nd,λx hx y hy=>?_⟩
      rintro rfl
      have h1:=hbd x hx;have h2:=m2.new x (by simpa using hy);omega)
     (λb hb'=>by
      have h1:=m2.le;rw[zfF] at hb';rcases hb' with hb' | hb'
      ·have:=hbd b hb';omega
      ·exact m2.lt (by simp) b (by simpa using hb')) (by simp)
    rw[e2,p1];simp only[Ah,zf0];have hl2:(E2 g b0 (l.take i)).length+1=(E2 g b0 (l.take (i+1))).length:=by rw[ht];simp
    rw[hl2];rw[zf0,hl2,<- ht] at p2;refine ih (i+1) a' c' h' F' (by omega) (λh=>by omega) (hm.trans ⟨zfE m2.le p3,λb hb' hF'=>?_,p6,λb hb'=>?_⟩) p2
    ·rw[p4 b (zfO hb' m2.le) hF',m2.fr b hb' (by simp)]
    ·have h1:=m2.le;rcases p5 b hb' with h3 | h3
     ·rw[zfF] at h3;rcases h3 with h3 | h3
      ·exact .inl h3
      ·have h4:=m2.new b (by simpa using h3);have h5:=m2.lt (by simp) b (by simpa using h3);exact .inr (by omega)
     ·exact .inr (by omega)
 obtain ⟨a',c',h',F',q1,q2⟩:=loop l.length 0 a0 c0 h0 F0 (by omega) (λ_=>⟨rfl,rfl⟩) (Mv.refl hnd) (by simpa [E2] using hs);refine ⟨a',c',h',F',?_,q2⟩;simpa [E2] using q1
theorem Gp {El:Rel β} (ok:El.Ok) {h:Heap}{lo R e bytes:Nat} (hl:lo<=h.length) (hb:0<bytes) (hsz:l.length*bytes<=140737488355328)
  (L:Nat->Nat->Pq->Nat->Nq->Heap->Option T)
  (step:∀ i (hi:i<l.length) q a n c hh,Mv h [] hh []->∃ row G h2,El h2 row (f l[i]) G/\Mv hh [] h2 G/\L i q a n c hh=DJ lo e R bytes (.sl q a n c) [row] h2 λv h=>eS R v λa n c=>L (i+1) R a n c h) :
  ∃ q a' c' h' F',L 0 0 none 0 (some 0) h=L l.length q a' l.length c' h'/\Sli false R e El h' [.sl q a' l.length c'] (l.map f) F'/\Mv h [] h' F':=by
 by_cases he:l = []
 ·subst he;exact ⟨0,none,some 0,h,[],rfl,Sli.nil,Mv.nil⟩
 have hpos:0<l.length:=List.length_pos_iff.2 he;obtain ⟨a',c',h',F',q1,q2,q3⟩:=Ob (El:=El) ok (h0:=h) (l:=l) (g:=λ_ x=>some (f x)) (lo:=lo) (R:=R) (e:=e) (bytes:=bytes) (b0 := []) (F0 := []) (a0:=none) (c0:=some 0) hl (by simp) (by simp) hb (by simpa using hsz)
  (λi a n c hh=>L i (if i=0 then 0 else R) a n c hh) (λi hi a c hh F acc hz hacc hm hr=>by
   obtain ⟨row,G,h2,r2,m2,e2⟩:=step i hi (if i=0 then 0 else R) a acc.length c hh hm.drop;refine .inr ⟨f l[i],row,G,h2,rfl,r2,m2,?_⟩;rw[e2];by_cases h0:i=0
   ·obtain ⟨rfl,rfl⟩:=hz h0;rw[zeN (R:=R)];rfl
   ·rw[if_neg h0];rfl) Sli.nil
 rw[OZ,zf8] at q1 q2;rw[zhb] at q1 q2;refine ⟨R,a',c',h',F',?_,q2,q3⟩;have:=q1;simp only[if_neg (show l.length≠0 by omega)] at this;exact this
theorem HH:∀ {row cs:List V},row.length=cs.length->paste row 0 cs=some cs
 | [],[],_=>rfl
 | [],_ :: _,h=>by simp at h
 | _ :: _,[],h=>by simp at h
 | x :: row,y :: cs,h=>by simp only[paste];rw[HH (by simpa using h)]
theorem GF {El:Rel β} (ok:El.Ok) {lo R e:Nat}{z:List V} (hz:z.length=R) (hlo:lo<=h0.length)
  (L:Nat->Heap->Option T)
  (step:∀ i (hi:i<l.length) hh,Mv h0 [] hh []->∃ row G h2,El h2 row (f l[i]) G/\Mv hh [] h2 G/\row.length=R/\L i hh=eO (st lo h2 h0.length i 0 row) λh3=>L (i+1) h3) :
  ∃ h' F',L 0 (h0 ++ [.rows R e false (List.replicate l.length z)])=L l.length h'/\Sli false R e El h' [.sl R (some (h0.length,0)) l.length (some l.length)] (l.map f) F'/\Mv h0 [] h' F':=by
 have loop:∀ m i hh rows Fs,m+i=l.length->hh[h0.length]?=some (.rows R e false (rows++List.replicate m z))->EAll El hh rows ((l.take i).map f) Fs->Mv h0 [] hh (h0.length :: Fs.flatten) ->
   ∃ h' F',L i hh=L l.length h'/\Sli false R e El h' [.sl R (some (h0.length,0)) l.length (some l.length)] (l.map f) F'/\Mv h0 [] h' F':=by
  intro m;induction m with
  | zero =>
   intro i hh rows Fs hi hb he hm;have:i=l.length:=by omega
   subst this;rw[zhm] at he;refine ⟨hh,h0.length :: Fs.flatten,rfl,⟨R,some (h0.length,0),some l.length,by simp,rfl,rows,Fs,by simpa using hb,?_,λk hk=>?_,λh=>(by cases h),?_,rfl⟩,hm⟩
   ·have:=he.len.1;simp at this ⊢;omega
   ·injection hk with hk;subst hk;have:=he.len.1;simp at this ⊢;omega
   ·have:=he.len.1;rw[zgF,zgk (by omega)];exact he
  | succ m ih =>
   intro i hh rows Fs hi hb he hm;have hlt:i<l.length:=by omega
   have hbl:h0.length<hh.length:=(Ga hb).1;obtain ⟨row,G,h2,hy,m2,hrl,e2⟩:=step i hlt hh hm.drop;have hrows:rows.length=i:=by have:=he.len.1;simp at this;omega
   have hb2:h2[h0.length]?=some (.rows R e false (rows++List.replicate (m+1) z)):=by rw[m2.fr _ hbl (by simp)];exact hb
   have hbl2:h0.length<h2.length:=(Ga hb2).1;have hri:(rows++List.replicate (m+1) z)[i]?=some z:=by rw[zf5 (by omega),hrows];simp
   have hset:(rows++List.replicate (m+1) z).set i row=(rows ++ [row])++List.replicate m z:=by rw[zgQ _ _ (by omega),hrows,zhl,List.replicate_succ,zhr,zfS,List.singleton_append]
   rw[e2,B4 hb2 hlo hri (HH (by rw[hz,hrl])),Ae,hset];have hFb:=he.bd ok;have hFn:h0.length∉Fs.flatten:=(zfN.1 hm.nd).1;have hGn:h0.length∉G:=λhg=>by have:=m2.new _ hg;omega
   have frame:∀ b,b≠h0.length->(h2.set h0.length (.rows R e false ((rows ++ [row])++List.replicate m z)))[b]?=h2[b]?:=λb hb=>zfJ (Ne.symm hb);refine ih (i+1) _ (rows ++ [row]) (Fs ++ [G]) (by omega) (by simp[hbl2]) ?_ ?_
   ·rw[List.take_add_one,EM hlt,List.map_append];refine EAll.append (he.fr ok.fr λb hb=>?_) ⟨ok.fr _ _ _ _ _ hy λb hb=>frame b λe=>hGn (e ▸ hb),trivial⟩;rw[frame b λe=>hFn (e ▸ hb)];exact m2.fr b (hFb b hb) (by simp)
   ·have hj:=hm.join m2 (λx hx=>by
     rw[zfL] at hx;rcases hx with rfl | hx
     ·exact hbl
     ·exact hFb x hx)
    rw[zf9] at hj;refine ⟨by simpa using hj.le,λb hb hF=>?_,by simpa using hj.nd,λb hb=>by simpa using hj.sub b (by simpa using hb)⟩;rw[frame b (by omega)];exact hj.fr b hb hF
 exact loop l.length 0 _ [] [] (by omega) (by simp) (by simp[EAll]) (by simpa using Mv.last)
noncomputable section
variable {lo:Nat}{f:Bool}{args:List V}{h:Heap}{t:Int}{p:Nq}{h':Heap}{v:V}{c:Nq}{k g G n m i j:Nat}{F:Bool}{x z y:Int}{S:ByteArray}{d a0 a1 a b A B:Pq}{u D c0 s C:Nq}{H:Nat}{a2:Pq}{c1:Nq}{J:Nat}{a3:Pq}{c2:Nq}{r:V×Heap}{n0 n1 n2:Nat}
def pd:Nat->Nat->Code->Code
 | 0,_,c=>c
 | k+1,n,c=>match n%10 with
  | 1=>pd k (n/10) (cr c)
  | 2=>pd k (n/10) (cb c)
  | 3=>pd k (n/10) (cl c)
  | 4=>pd k (n/10) (ct c)
  | 5=>pd k (n/10) (ce c)
  | _=>c
def pf (n:Nat) (F:Func):Code:=pd 40 n (code F)
def LA (n:Nat) (F:Func) (p t q lo:Nat) (σ:St):Ov:=Lp (X n) lo (pf p F) t (Ba t (kS (X n) lo (pf q F) 0 (K8 (X n) F.results.toList))) σ
theorem eK {f:Nat}{fn:Func}{t:Ov}{p:Vh} (hf:Tryz.prog.funcs[f]?=some fn) (hk:t=some p) (hd:I.drop f=false:=by kernel_rfl) (ht:fnT I fn (eval Tryz.prog I) lo f args h=t:=by kernel_rfl):Af lo f args h=some p:=zb6 hf hd (ht.trans hk)
theorem eD {f:Nat}{fn:Func}{t:Ov} (hf:Tryz.prog.funcs[f]?=some fn) (hk:t=some (v,h')) (hn:noId v=true) (hd:I.drop f=true:=by kernel_rfl) (ht:fnT I fn (eval Tryz.prog I) h.length f args h=t:=by kernel_rfl):Af lo f args h=some (v,h):=zb7 hf hd (ht.trans hk) hn
theorem lE {X:Ctx}{id:Nat}{c:Code}{K:Ex->St->Ov}{σ:St}{t:Ov} (h:exec X lo c id σ (ZB X lo c id K)=t:=by kernel_rfl):Lp X lo c id K σ=t:=Lp_eq.trans h
def FT lo f x S F y z t a n c b m p d k u b0 e i s w q A j C B g D a0 G c0 b1 M N h:=
 LA 3 Tryz.f3 22131111111 0 11111111 lo ⟨[(2,.bool f),(3,.lp 3 0),(4,Iv x),(5,.str S),(6,.bool F),(7,.lp 7 0),(8,.lp 8 0),(9,.lp 9 0),(12,Iv y)],[(3,(DO z t a n c b m p d k u b0)),(7,(Bk e i s)),(8,(DO w q A j C B g D a0 G c0 b1)),(9,(Cq M N))],h⟩
theorem FT.e {lo k g G n m i j:Nat}{b0 f b1 F:Bool}{t x w N q M z y:Int}{S:ByteArray}{d a0 a1 a b A B:Pq}{u D c0 c p s C:Nq}{h:Heap} :
  FT lo b0 t S f x w N d k u a0 g D a1 G c0 b1 a n c q M b m p A i s B j C F z y h=br (decide (x<4)) (As x n (eO a λv=>eO (ld h v.1 (v.2+x.toNat) 0 2) λv=>eC v λv l=>eI .i64 v λv=>eC l λl o=>eI .i64 l λl=>eN o (Al (Af lo 15 [At v l,At z y] h) λv l=>eB v (As 0 k (eO d λv=>eO (ld l v.1 (v.2+0) 0 1) λv=>eC v λv o=>eN o (eS 6 v λv o e=>As x o (eO v λv=>eO (ld l v.1 (v.2+x.toNat) 1 2) λv=>eC v λv o=>eI .i64 v λv=>eC o λo e=>eI .i64 o λo=>eN e (Al (Af lo 15 [At v o,At z y] l) λv o=>eB v (FT lo b0 t S f (Ap (x+1)) w N d k u a0 g D a1 G c0 b1 a n c q M b m p A i s B j C F z y o) (Ax o)))))) (Ax l)))) (As 0 m (eO b λv=>eO (ld h v.1 (v.2+0) 0 1) λv=>eC v λv l=>eN l (eS 6 v λv l o=>As t l (eO v λv=>eO (ld h v.1 (v.2+t.toNat) 0 6) λv=>eC v λv l=>eI .i64 v λv=>eC l λv l=>eI .i64 v λv=>eC l λl o=>eI .i64 l λl=>eC o λo e=>eS 2 o λo E H=>eC e λe J=>eT e λe=>eC J λJ K=>eBv J λJ=>eN K (Al (Af lo 13 [Bs q M b m p A i s B j C F] h) λK L=>eB K (Al (Af lo 16 [Ao b m p] L) λK O=>eB K (br ((v==z)&&((l==y)&&true)) (br (y==w) (br (e.toList==S.toList) (br (J==f) (Al (Af lo 17 [Ao o E H,Ao a n c] O) λv l=>eB v (Al (Af l.length 19 [Ao d k u] l) λv o=>eA v λv=>eC v λv e=>eS 2 v λv E H=>eN e (Al (Af lo 18 [Ao a n c,Ao v E H] o) λv o=>eB v (BI o) (Ax o))) (Ax l)) (Ax O)) (Ax O)) (Ax O)) (Ax O)) (Ax O)) (Ax L)))))) :=
 lE
def Gw lo f x a n c b m p d k u e i s A j C B g D a0 G c0 a1 H c1 h:=
 LA 4 Tryz.f4 221311111 0 111111 lo ⟨[(4,.bool f),(8,.lp 8 0),(9,.lp 9 0),(10,Iv x)],[(8,(Dc a n c b m p d k u e i s)),(9,(Dc A j C B g D a0 G c0 a1 H c1))],h⟩
theorem Gw.e :
  Gw lo f x B j u a i s a0 g C b n c a1 G D d m c0 a2 H c1 A k p h=br (decide (x<(m:Int))) (As x i (eO a λv=>eO (ld h v.1 (v.2+x.toNat) 1 1) λv=>eC v λv l=>eS 2 v λv o y=>eN l (As x m (eO d λl=>eO (ld h l.1 (l.2+x.toNat) 1 1) λl=>eC l λl z=>eS 2 l λl w q=>eN z (Al (Af lo 18 [Ao v o y,Ao l w q] h) λv l=>eB v (Gw lo f (Ap (x+1)) B j u a i s a0 g C b n c a1 G D d m c0 a2 H c1 A k p l) (Ax l)))))) (br (decide ((n:Int)<=(k:Int))) (Az A k p none (some (Iv (n:Int))) none λv l o=>Al (Af lo 24 [.sl 5 v l o,.sl 5 b n c] h) λv l=>eB v (BI l) (Ax l)) (Ax h)) :=
 lE
def Ft lo f x a n c b m p d k u e i s h:=
 LA 5 Tryz.f5 221311111 0 111111 lo ⟨[(2,.bool f),(6,.lp 6 0),(7,Iv x)],[(6,(Dc a n c b m p d k u e i s))],h⟩
theorem Ft.e :
  Ft lo f x a n c b m p d k u A i s h=br (decide (x<(n:Int))) (As x n (eO a λv=>eO (ld h v.1 (v.2+x.toNat) 2 1) λv=>eC v λv l=>eS 2 v λv o y=>eN l (Al (Af lo 16 [Ao v o y] h) λl y=>eB l (As (Ap ((o:Int) - 1)) o (eO v λv=>eO (ld y v.1 (v.2+((Ap ((o:Int) - (1:Int))).toNat)) 0 1) λv=>eC v λv l=>eS 6 v λv o z=>eN l (Al (Af lo 26 [Bh v o z] y) λv l=>eB v (Ft lo f (Ap (x+1)) a n c b m p d k u A i s l) (Ax l)))) (Ax y)))) (BI h) :=
 lE
def EU lo a n c x b m p d k u e i s A j C B g D a0 G c0 a1 H c1 a2 J c2 h:=
 LA 6 Tryz.f6 2213111111 0 1111111 lo ⟨[(5,.sl 6 a n c),(6,.lp 6 0),(7,.lp 7 0),(8,Iv x)],[(6,(Dc b m p d k u e i s A j C)),(7,(Dc B g D a0 G c0 a1 H c1 a2 J c2))],h⟩
theorem EU.e {lo n m k i j g G H J:Nat}{B a b d A a0 a1 a2 a3:Pq}{c2 c p u s C D c0 c1:Nq}{x:Int}{h:Heap} :
  EU lo B n c2 x a m c b k p d i u A j s a0 g C a1 G D a2 H c0 a3 J c1 h=br (decide (x<(n:Int))) (br (decide (x<60)) (As x n (eO B λv=>eO (ld h v.1 (v.2+x.toNat) 0 6) λv=>eC v λv l=>eI .i64 v λv=>eC l λl o=>eI .i64 l λl=>eC o λo y=>eI .i64 o λo=>eC y λy z=>eI .i64 y λy=>eC z λz w=>eT z λz=>eC w λw q=>eBv w λw=>eN q (Al (Af lo 28 [An a0 g C a1 G D a2 H c0 a3 J c1,Bi v l o y z w] h) λv l=>eU v λv=>eC v λv o=>eA v λv=>eC v λv y=>eS 6 v λv z w=>eC y λy q=>eS 5 y λy t e=>eC q λq f=>eS 9 q λq E K=>eC f λf L=>eS 5 f λf M N=>eN L (eC o λo L=>eB o (eN L (EU lo B n c2 (Ap (x+1)) a m c b k p d i u A j s v z w y t e q E K f M N l)) (eN L (EU lo B n c2 (Ap (x+1)) a m c b k p d i u A j s v z w y t e q E K f M N l)))))) (Al (Af lo 22 [An a0 g C a1 G D a2 H c0 a3 J c1,An a m c b k p d i u A j s] h) λv l=>eB v (BI l) (Ax l))) (Al (Af lo 22 [An a0 g C a1 G D a2 H c0 a3 J c1,An a m c b k p d i u A j s] h) λv l=>eB v (BI l) (Ax l)) :=
 lE
theorem L5 {e:Pq} (hk:(Al (Af lo 36 [An a n c b m p d k u e i s,Iv 1048576] h) λv l=>eI .i64 v λv=>br (decide (v<0)) (BI l) (Al (Af lo 37 [Bi x y z t S f,Iv v] l) λv l=>eI .i64 v λv=>br (decide (v<0)) (BI l) (Al (Af l.length 39 [An a n c b m p d k u e i s] l) λv l=>eA v λv=>eC v λv o=>eS 6 v λv w q=>eC o λo g=>eS 5 o λo j A=>eC g λg B=>eS 9 g λg C D=>eC B λB E=>eS 5 B λB G H=>eN E (Al (Af l.length 40 [Bi x y z t S f] l) λl E=>eA l λl=>eC l λl J=>eI .i64 l λl=>eC J λJ K=>eI .i64 J λJ=>eC K λK L=>eI .i64 K λK=>eC L λL M=>eI .i64 L λL=>eC M λM N=>eT M λM=>eC N λN O=>eBv N λN=>eN O (Al (Af E.length 38 [An v w q o j A g C D B G H,Bi l J K L M N] E) λv l=>eU v λv=>eC v λv o=>eA v λv=>eC v λv w=>eS 6 v λv q g=>eC w λw j=>eS 5 w λw A B=>eC j λj C=>eS 9 j λj D E=>eC C λC G=>eS 5 C λC H J=>eN G (eC o λo G=>eB o (eN G (Al (Af lo 39 [An a n c b m p d k u e i s] l) λo K=>eA o λo=>eC o λo L=>eS 6 o λo M N=>eC L λL O=>eS 5 L λL P Q=>eC O λO U=>eS 9 O λO W Y=>eC U λU Z=>eS 5 U λU v0 v1=>eN Z (Al (Af K.length 40 [Bi x y z t S f] K) λK Z=>eA K λK=>eC K λK v2=>eI .i64 K λK=>eC v2 λv2 v3=>eI .i64 v2 λv2=>eC v3 λv3 v4=>eI .i64 v3 λv3=>eC v4 λv4 v5=>eI .i64 v4 λv4=>eC v5 λv5 v6=>eT v5 λv5=>eC v6 λv6 v7=>eBv v6 λv6=>eN v7 (Al (Af Z.length 28 [An o M N L P Q O W Y U v0 v1,Bi K v2 v3 v4 v5 v6] Z) λK Z=>eU K λK=>eC K λK v2=>eA K λK=>eC K λK v3=>eS 6 K λK v4 v5=>eC v3 λv3 v6=>eS 5 v3 λv3 v7 v8=>eC v6 λv6 v9=>eS 9 v6 λv6 l0 l1=>eC v9 λv9 l2=>eS 5 v9 λv9 l3 l4=>eN l2 (eC v2 λv2 l2=>eB v2 (eN l2 (Al (Af lo 31 [An K v4 v5 v3 v7 v8 v6 l0 l1 v9 l3 l4,An v q g w A B j D E C H J] Z) λv2 l5=>eB v2 (Al (Af lo 39 [An a n c b m p d k u e i s] l5) λv2 l6=>eA v2 λv2=>eC v2 λv2 l7=>eS 6 v2 λv2 l8 l9=>eC l7 λl7 c0=>eS 5 l7 λl7 c1 c2=>eC c0 λc0 c3=>eS 9 c0 λc0 c4 c5=>eC c3 λc3 c6=>eS 5 c3 λc3 c7 c8=>eN c6 (Al (Af lo 31 [An o M N L P Q O W Y U v0 v1,An v2 l8 l9 l7 c1 c2 c0 c4 c5 c3 c7 c8] l6) λv2 l6=>eB v2 (Al (Af lo 34 [An o M N L P Q O W Y U v0 v1,Iv 1] l6) λo L=>eI .i64 o λo=>br (decide (o<0)) (Ax L) (Al (Af lo 31 [An K v4 v5 v3 v7 v8 v6 l0 l1 v9 l3 l4,An v q g w A B j D E C H J] L) λo L=>eB o (Al (Af lo 34 [An K v4 v5 v3 v7 v8 v6 l0 l1 v9 l3 l4,Iv 1] L) λo M=>eI .i64 o λo=>Al (Af lo 35 [An K v4 v5 v3 v7 v8 v6 l0 l1 v9 l3 l4,Iv 1] M) λM N=>eI .i64 M λM=>br (decide (M<0)) (Ax N) (br (M==o) (Al (Af N.length 39 [An a n c b m p d k u e i s] N) λM O=>eA M λM=>eC M λM P=>eS 6 M λM Q U=>eC P λP W=>eS 5 P λP Y v0=>eC W λW v1=>eS 9 W λW v2 l7=>eC v1 λv1 l8=>eS 5 v1 λv1 l9 c0=>eN l8 (Al (Af O.length 40 [Bi x y z t S f] O) λO l8=>eA O λO=>eC O λO c1=>eI .i64 O λO=>eC c1 λc1 c2=>eI .i64 c1 λc1=>eC c2 λc2 c3=>eI .i64 c2 λc2=>eC c3 λc3 c4=>eI .i64 c3 λc3=>eC c4 λc4 c5=>eT c4 λc4=>eC c5 λc5 c6=>eBv c5 λc5=>eN c6 (Al (Af l8.length 28 [An M Q U P Y v0 W v2 l7 v1 l9 c0,Bi O c1 c2 c3 c4 c5] l8) λM O=>eU M λM=>eC M λM P=>eA M λM=>eC M λM Q=>eS 6 M λM U W=>eC Q λQ Y=>eS 5 Q λQ v0 v1=>eC Y λY v2=>eS 9 Y λY l7 l8=>eC v2 λv2 l9=>eS 5 v2 λv2 c0 c1=>eN l9 (eC P λP l9=>eB P (eN l9 (Al (Af lo 31 [An M U W Q v0 v1 Y l7 l8 v2 c0 c1,An v q g w A B j D E C H J] O) λP c2=>eB P (Al (Af lo 35 [An K v4 v5 v3 v7 v8 v6 l0 l1 v9 l3 l4,Iv 1] c2) λP c3=>eI .i64 P λP=>br (decide (P<0)) (Ax c3) (br (P==o) (BI c3) (Ax c3))) (Ax c2))) (eN l9 (Al (Af lo 31 [An M U W Q v0 v1 Y l7 l8 v2 c0 c1,An v q g w A B j D E C H J] O) λo M=>eB o (Ax M) (Ax M))))))) (Ax N))) (Ax L))) (Ax l6))) (Ax l5))) (eN l2 (Al (Af lo 31 [An K v4 v5 v3 v7 v8 v6 l0 l1 v9 l3 l4,An v q g w A B j D E C H J] Z) λo K=>eB o (Ax K) (Ax K)))))))) (eN G (Al (Af lo 39 [An a n c b m p d k u e i s] l) λl o=>eA l λl=>eC l λl G=>eS 6 l λl K L=>eC G λG M=>eS 5 G λG N O=>eC M λM P=>eS 9 M λM Q U=>eC P λP W=>eS 5 P λP Y Z=>eN W (Al (Af o.length 40 [Bi x y z t S f] o) λo W=>eA o λo=>eC o λo v0=>eI .i64 o λo=>eC v0 λv0 v1=>eI .i64 v0 λv0=>eC v1 λv1 v2=>eI .i64 v1 λv1=>eC v2 λv2 v3=>eI .i64 v2 λv2=>eC v3 λv3 v4=>eT v3 λv3=>eC v4 λv4 v5=>eBv v4 λv4=>eN v5 (Al (Af W.length 28 [An l K L G N O M Q U P Y Z,Bi o v0 v1 v2 v3 v4] W) λo W=>eU o λo=>eC o λo v0=>eA o λo=>eC o λo v1=>eS 6 o λo v2 v3=>eC v1 λv1 v4=>eS 5 v1 λv1 v5 v6=>eC v4 λv4 v7=>eS 9 v4 λv4 v8 v9=>eC v7 λv7 l0=>eS 5 v7 λv7 l1 l2=>eN l0 (eC v0 λv0 l0=>eB v0 (eN l0 (Al (Af lo 31 [An o v2 v3 v1 v5 v6 v4 v8 v9 v7 l1 l2,An v q g w A B j D E C H J] W) λv0 l3=>eB v0 (Ax l3) (Ax l3))) (eN l0 (Al (Af lo 31 [An o v2 v3 v1 v5 v6 v4 v8 v9 v7 l1 l2,An v q g w A B j D E C H J] W) λW v0=>eB W (Al (Af lo 39 [An a n c b m p d k u e i s] v0) λW l0=>eA W λW=>eC W λW l3=>eS 6 W λW l4 l5=>eC l3 λl3 l6=>eS 5 l3 λl3 l7 l8=>eC l6 λl6 l9=>eS 9 l6 λl6 c0 c1=>eC l9 λl9 c2=>eS 5 l9 λl9 c3 c4=>eN c2 (Al (Af lo 31 [An l K L G N O M Q U P Y Z,An W l4 l5 l3 l7 l8 l6 c0 c1 l9 c3 c4] l0) λW l0=>eB W (Al (Af lo 34 [An l K L G N O M Q U P Y Z,Iv 1] l0) λl G=>eI .i64 l λl=>br (decide (l<0)) (Ax G) (Al (Af lo 31 [An o v2 v3 v1 v5 v6 v4 v8 v9 v7 l1 l2,An v q g w A B j D E C H J] G) λl G=>eB l (Al (Af lo 34 [An o v2 v3 v1 v5 v6 v4 v8 v9 v7 l1 l2,Iv 1] G) λl K=>eI .i64 l λl=>Al (Af lo 35 [An o v2 v3 v1 v5 v6 v4 v8 v9 v7 l1 l2,Iv 1] K) λK L=>eI .i64 K λK=>br (decide (K<0)) (Ax L) (br (K==l) (Al (Af L.length 39 [An a n c b m p d k u e i s] L) λK M=>eA K λK=>eC K λK N=>eS 6 K λK O P=>eC N λN Q=>eS 5 N λN U W=>eC Q λQ Y=>eS 9 Q λQ Z l3=>eC Y λY l4=>eS 5 Y λY l5 l6=>eN l4 (Al (Af M.length 40 [Bi x y z t S f] M) λM l4=>eA M λM=>eC M λM l7=>eI .i64 M λM=>eC l7 λl7 l8=>eI .i64 l7 λl7=>eC l8 λl8 l9=>eI .i64 l8 λl8=>eC l9 λl9 c0=>eI .i64 l9 λl9=>eC c0 λc0 c1=>eT c0 λc0=>eC c1 λc1 c2=>eBv c1 λc1=>eN c2 (Al (Af l4.length 28 [An K O P N U W Q Z l3 Y l5 l6,Bi M l7 l8 l9 c0 c1] l4) λK M=>eU K λK=>eC K λK N=>eA K λK=>eC K λK O=>eS 6 K λK P Q=>eC O λO U=>eS 5 O λO W Y=>eC U λU Z=>eS 9 U λU l3 l4=>eC Z λZ l5=>eS 5 Z λZ l6 l7=>eN l5 (eC N λN l5=>eB N (eN l5 (Al (Af lo 31 [An K P Q O W Y U l3 l4 Z l6 l7,An v q g w A B j D E C H J] M) λN l8=>eB N (Ax l8) (Ax l8))) (eN l5 (Al (Af lo 31 [An K P Q O W Y U l3 l4 Z l6 l7,An v q g w A B j D E C H J] M) λv w=>eB v (Al (Af lo 35 [An o v2 v3 v1 v5 v6 v4 v8 v9 v7 l1 l2,Iv 1] w) λv o=>eI .i64 v λv=>br (decide (v<0)) (Ax o) (br (v==l) (BI o) (Ax o))) (Ax w))))))) (Ax L))) (Ax G))) (Ax l0))) (Ax v0))))))))))))))=some r) :
  Af lo 8 [An a n c b m p d k u e i s,Bi x y z t S f] h=some r :=
 eK Tryz.func8 hk
def IW lo f x y z a n c b m p d k u F t w e i s A j C B g D b0 h:=
 LA 12 Tryz.f12 221311 0 111 lo ⟨[(2,.lp 2 0),(3,.lp 3 0),(4,.bool f),(5,Iv x)],[(2,(DO y z a n c b m p d k u F)),(3,(DO t w e i s A j C B g D b0))],h⟩
theorem IW.e {lo k i n j g m:Nat}{f F b0:Bool}{x y z t w:Int}{d A a B a0 b:Pq}{c p u s C D:Nq}{h:Heap} :
  IW lo f x y z d k c A i p a n u F t w B j s a0 g C b m D b0 h=br (decide (x<(n:Int))) (As x n (eO a λv=>eO (ld h v.1 (v.2+x.toNat) 0 1) λv=>eC v λv l=>eN l (eS 6 v λv l o=>As x m (eO b λq=>eO (ld h q.1 (q.2+x.toNat) 0 1) λq=>eC q λq e=>eN e (eS 6 q λq e E=>Al (Af lo 61 (Jq v l o q e E) h) λv l=>eB v (IW lo f (Ap (x+1)) y z d k c A i p a n u F t w B j s a0 g C b m D b0 l) (Ax l)))))) (BI h) :=
 lE
def CP lo n m k f a i c x y b j p h:=
 LA 13 Tryz.f13 2213111 0 1111 lo ⟨[(1,(DQ n m k)),(2,.bool f),(3,.lp 3 0),(45,.sl 2 a i c),(46,Iv x),(47,Iv y)],[(3,(Bk b j p))],h⟩
def BM lo n m k f x a i c y z b j p t w d g u h:=
 Lp (X 13) lo (pf 221123112213111 Tryz.f13) 2 (Ba 2 (Ba 1 (kS (X 13) lo (pf 1112213111 Tryz.f13) 0 (ZB (X 13) lo (pf 2213111 Tryz.f13) 0 (Ba 0 (kS (X 13) lo (pf 1111 Tryz.f13) 0 (K8 (X 13) Tryz.f13.results.toList))))))) ⟨[(1,(DQ n m k)),(2,.bool f),(3,.lp 3 0),(4,Iv x),(45,.sl 2 a i c),(46,Iv y),(47,Iv z),(58,.sl 6 b j p),(59,Iv t),(60,Iv w)],[(3,(Bk d g u))],h⟩
def CO lo n m k f a i c x y h:=
 LA 13 Tryz.f13 22131111 4 11111 lo ⟨[(1,(DQ n m k)),(2,.bool f),(90,.sl 1 a i c),(91,Iv x),(92,Iv y)],[],h⟩
theorem Um (hk:(eO (ld (h ++ [.rows 6 29 false [DO x y a n c b m p d k u f]]) h.length 0 0 1) λl=>eC l λl o=>eN o (eI .i64 l λl=>Al (Af h.length 62 (AR l) (h ++ [.rows 6 29 false [DO x y a n c b m p d k u f]])) λl o=>eB l (eO (ld o h.length 0 1 1) λl=>eC l λl s=>eN s (eI .i64 l λl=>Al (Af h.length 63 (BQ l 0 999) o) λl s=>eB l (eO (ld s h.length 0 2 1) λl=>eC l λl z=>eS 2 l λl w q=>eN z (Al (Af h.length 64 [Ao l w q] s) λl z=>eB l (eO (ld z h.length 0 3 1) λl=>eC l λl w=>eN w (eS 6 l λl w q=>eO (ld z h.length 0 0 1) λg=>eC g λg i=>eN i (eI .i64 g λg=>Al (Af h.length 65 [.sl 6 l w q,Iv g] z) λl w=>eB l (eO (ld w h.length 0 4 1) λl=>eC l λl q=>eN q (eS 1 l λl l q=>br ((l:Int)==3) (Al (Af h.length 66 [.ptr (some (h.length,(0,2)))] w) λl q=>eA l λl=>eC l λl g=>eS 6 l λl i j=>eN g (Al (Af h.length 67 [Bh l i j] q) λl q=>eA l λl=>eC l λl g=>eS 2 l λl i j=>eN g (eO (ld q h.length 0 2 1) λg=>eC g λg t=>eN t (eS 2 g λg t e=>CP h.length h.length 0 0 false g t e (t:Int) 0 l i j q)))) (Ax w))) (Ax w)))) (Ax z))) (Ax s))) (Ax o)))=some (v,h')) (hn:noId v=true:=by rfl) :
  Af lo 13 [Bs x y a n c b m p d k u f] h=some (v,h) :=
 eD Tryz.func13 hk hn
theorem CP.e :
  CP lo n m k f a i c y x b j p h=br (decide (x<y)) (As x i (eO a λv=>eO (ld h v.1 (v.2+x.toNat) 0 2) λv=>eC v λv l=>eS 6 v λv o s=>eC l λl z=>eS 6 l λl u w=>eN z (Al (Af lo 68 [.sl 1 (some (h.length,0)) 2 (some 2)] (h ++ [.rows 1 26 false [Bm v o s,Bm l u w]])) λv l=>eS 6 v λv o s=>BM lo n m k f x a i c y x v o s (o:Int) 0 b j p l))) (eO (ld h n m (k+4) 1) λv=>eC v λv l=>eN l (eS 1 v λv l o=>CO lo n m k f v l o (l:Int) 0 h)) :=
 lE
theorem BM.e {lo n m k j g i:Nat}{f:Bool}{y z t w x:Int}{b d a:Pq}{p u c:Nq}{h:Heap} :
  BM lo n m k f y b j p z t d g u w x a i c h=br (decide (x<w)) (As x g (eO d λv=>eO (ld h v.1 (v.2+x.toNat) 0 6) λv=>eC v λv l=>eI .i64 v λv=>eC l λv l=>eI .i64 v λv=>eC l λl o=>eI .i64 l λl=>eC o λo s=>eS 2 o λo q e=>eC s λs A=>eT s λs=>eC A λs A=>eBv s λs=>eN A (br ((v==0)&&((l==0)&&true)) (br (y==0) (eO (ld h n m (k+1) 1) λl=>eC l λl s=>eN s (eI .i64 l λl=>br (decide (v>l)) (Ax h) (BM lo n m k f y b j p z t d g u w (Ap (x+1)) a i c h))) (BM lo n m k f y b j p z t d g u w (Ap (x+1)) a i c h)) (Al (Af lo 69 [Ao o q e,Ao a i c] h) λl o=>eB l (br (y==0) (eO (ld o n m (k+1) 1) λl=>eC l λl s=>eN s (eI .i64 l λl=>br (decide (v>l)) (Ax o) (BM lo n m k f y b j p z t d g u w (Ap (x+1)) a i c o))) (BM lo n m k f y b j p z t d g u w (Ap (x+1)) a i c o)) (Ax o))))) (CP lo n m k f b j p z (Ap (t+1)) a i c h) :=
 lE
theorem CO.e :
  CO lo n m k f a i c y x h=br (decide (x<y)) (As x i (eO a λv=>eO (ld h v.1 (v.2+x.toNat) 0 1) λv=>eC v λv l=>eN l (eS 6 v λv l o=>Al (Af lo 65 [.sl 6 v l o,Iv x] h) λv o=>eB v (eO (ld o n m (k+0) 1) λv=>eC v λv s=>eN s (eI .i64 v λv=>br (x==v) (br (decide ((l:Int)>0)) (Ax o) (CO lo n m k f a i c y (Ap (x+1)) o)) (CO lo n m k f a i c y (Ap (x+1)) o))) (Ax o)))) (BI h) :=
 lE
theorem Uk (hk:(Al (Af h.length 70 [At x y,At z t] h) λl c=>eI .i64 l λl=>br (decide (l<0)) (BI c) (Ax c))=some (v,h')) (hn:noId v=true:=by rfl) :
  Af lo 15 [At x y,At z t] h=some (v,h) :=
 eD Tryz.func15 hk hn
def Is lo f x a n c b m p h:=
 LA 16 Tryz.f16 221311 0 111 lo ⟨[(1,.lp 1 0),(2,.bool f),(3,.lp 3 0),(4,Iv x)],[(1,(Bk a n c)),(3,(Bk b m p))],h⟩
def ET lo f x y a n c b m p h:=
 Lp (X 16) lo (pf 221231221311 Tryz.f16) 2 (Ba 2 (Ba 1 (kS (X 16) lo (pf 11221311 Tryz.f16) 0 (ZB (X 16) lo (pf 221311 Tryz.f16) 0 (Ba 0 (kS (X 16) lo (pf 111 Tryz.f16) 0 (K8 (X 16) Tryz.f16.results.toList))))))) ⟨[(1,.lp 1 0),(2,.bool f),(3,.lp 3 0),(4,Iv x),(5,Iv y)],[(1,(Bk a n c)),(3,(Bk b m p))],h⟩
theorem Is.e :
  Is lo f x a n c b m p h=br (decide (x<(n:Int))) (ET lo f x 0 a n c b m p h) (BI h) :=
 lE
theorem ET.e :
  ET lo f x y a n p b m c h=br (decide (y<4)) (As x n (eO a λv=>eO (ld h v.1 (v.2+x.toNat) 0 1) λv=>eC v λv l=>eN l (eS 6 v λv l o=>As y l (eO v λv=>eO (ld h v.1 (v.2+y.toNat) 0 6) λv=>eC v λv l=>eI .i64 v λv=>eC l λv l=>eI .i64 v λv=>eC l λl o=>eI .i64 l λl=>eC o λl o=>eS 2 l λl s z=>eC o λo u=>eT o λo=>eC u λo u=>eBv o λo=>eN u (br (decide (v>0)) (Al (Af lo 18 [Ao l s z,Ao b m c] h) λv l=>eB v (ET lo f x (Ap (y+1)) a n p b m c l) (Ax l)) (ET lo f x (Ap (y+1)) a n p b m c h)))))) (Is lo f (Ap (x+1)) a n p b m c h) :=
 lE
def Jm lo f x a n c b m p h:=
 LA 17 Tryz.f17 221311 0 111 lo ⟨[(2,.lp 2 0),(3,.lp 3 0),(4,.bool f),(5,Iv x)],[(2,(Bk a n c)),(3,(Bk b m p))],h⟩
theorem Jm.e :
  Jm lo f x a n c b m p h=br (decide (x<(n:Int))) (As x n (eO a λv=>eO (ld h v.1 (v.2+x.toNat) 0 2) λv=>eC v λv l=>eI .i64 v λv=>eC l λl o=>eI .i64 l λl=>eN o (As x m (eO b λo=>eO (ld h o.1 (o.2+x.toNat) 0 2) λo=>eC o λo s=>eI .i64 o λo=>eC s λs y=>eI .i64 s λs=>eN y (br ((v==o)&&((l==s)&&true)) (Jm lo f (Ap (x+1)) a n c b m p h) (Ax h)))))) (BI h) :=
 lE
def IU lo f x a n c b m p d k u e i s A j C B g D a0 G c0 a1 H c1 h:=
 LA 22 Tryz.f22 221311 0 111 lo ⟨[(2,.lp 2 0),(3,.lp 3 0),(4,.bool f),(5,Iv x)],[(2,(Dc a n c b m p d k u e i s)),(3,(Dc A j C B g D a0 G c0 a1 H c1))],h⟩
def GH lo f x a n c b m p d k u e i s A j C B g D a0 G c0 a1 H c1 h:=
 LA 22 Tryz.f22 2213111 2 1111 lo ⟨[(2,.lp 2 0),(3,.lp 3 0),(4,.bool f),(6,Iv x)],[(2,(Dc a n c b m p d k u e i s)),(3,(Dc A j C B g D a0 G c0 a1 H c1))],h⟩
def GG lo f x a n c b m p d k u e i s A j C B g D a0 G c0 a1 H c1 h:=
 LA 22 Tryz.f22 22131111 4 11111 lo ⟨[(2,.lp 2 0),(3,.lp 3 0),(4,.bool f),(9,Iv x)],[(2,(Dc a n c b m p d k u e i s)),(3,(Dc A j C B g D a0 G c0 a1 H c1))],h⟩
theorem IU.e {lo n k i j m g G H:Nat}{f:Bool}{x:Int}{a d A B b a0 a1 a2:Pq}{c p u s C D c0 c1:Nq}{h:Heap} :
  IU lo f x a n c d k p A i u B j s b m C a0 g D a1 G c0 a2 H c1 h=br (decide (x<(n:Int))) (As x n (eO a λv=>eO (ld h v.1 (v.2+x.toNat) 0 6) λv=>eC v λv l=>eI .i64 v λv=>eC l λl o=>eI .i64 l λl=>eC o λo y=>eS 2 o λo z w=>eC y λy q=>eS 6 y λy t e=>eC q λq E=>eS 1 q λq J K=>eC E λE L=>eBv E λE=>eN L (As x m (eO b λL=>eO (ld h L.1 (L.2+x.toNat) 0 6) λL=>eC L λL M=>eI .i64 L λL=>eC M λM N=>eI .i64 M λM=>eC N λN O=>eS 2 N λN P Q=>eC O λO S=>eS 6 O λO U W=>eC S λS Y=>eS 1 S λS Z v0=>eC Y λY v1=>eBv Y λY=>eN v1 (Al (Af lo 12 [Bs v l o z w y t e q J K E,Bs L M N P Q O U W S Z v0 Y] h) λv l=>eB v (IU lo f (Ap (x+1)) a n c d k p A i u B j s b m C a0 g D a1 G c0 a2 H c1 l) (Ax l)))))) (GH lo f 0 a n c d k p A i u B j s b m C a0 g D a1 G c0 a2 H c1 h) :=
 lE
theorem GH.e {lo k n i j g m G H:Nat}{f:Bool}{x:Int}{d a A B a0 b a1 a2:Pq}{c p u s C D c0 c1:Nq}{h:Heap} :
  GH lo f x d k c a n p A i u B j s a0 g C b m D a1 G c0 a2 H c1 h=br (decide (x<(n:Int))) (As x n (eO a λv=>eO (ld h v.1 (v.2+x.toNat) 0 5) λv=>eC v λv l=>eI .i64 v λv=>eC l λl o=>eS 2 l λl y z=>eC o λo w=>eI .i64 o λo=>eC w λw q=>eI .i64 w λw=>eC q λq t=>eI .i64 q λq=>eN t (As x m (eO b λt=>eO (ld h t.1 (t.2+x.toNat) 0 5) λt=>eC t λt e=>eI .i64 t λt=>eC e λe E=>eS 2 e λe J K=>eC E λE L=>eI .i64 E λE=>eC L λL M=>eI .i64 L λL=>eC M λM N=>eI .i64 M λM=>eN N (br (v==t) (br ((o==E)&&((w==L)&&true)) (br (q==M) (Al (Af lo 17 [Ao l y z,Ao e J K] h) λv l=>eB v (GH lo f (Ap (x+1)) d k c a n p A i u B j s a0 g C b m D a1 G c0 a2 H c1 l) (Ax l)) (Ax h)) (Ax h)) (Ax h)))))) (GG lo f 0 d k c a n p A i u B j s a0 g C b m D a1 G c0 a2 H c1 h) :=
 lE
theorem GG.e {lo k i n j g G m H:Nat}{f:Bool}{x:Int}{d A a B a0 a1 b a2:Pq}{c p u s C D c0 c1:Nq}{h:Heap} :
  GG lo f x d k c A i p a n u B j s a0 g C a1 G D b m c0 a2 H c1 h=br (decide (x<(n:Int))) (As x n (eO a λv=>eO (ld h v.1 (v.2+x.toNat) 0 9) λv=>eC v λv l=>eI .i64 v λv=>eC l λl o=>eI .i64 l λl=>eC o λo y=>eI .i64 o λo=>eC y λy z=>eI .i64 y λy=>eC z λz w=>eI .i64 z λz=>eC w λw q=>eI .i64 w λw=>eC q λq t=>eS 2 q λq e E=>eC t λt J=>eT t λt=>eC J λJ K=>eBv J λJ=>eN K (As x m (eO b λK=>eO (ld h K.1 (K.2+x.toNat) 0 9) λK=>eC K λK L=>eI .i64 K λK=>eC L λL M=>eI .i64 L λL=>eC M λM N=>eI .i64 M λM=>eC N λN O=>eI .i64 N λN=>eC O λO P=>eI .i64 O λO=>eC P λP Q=>eI .i64 P λP=>eC Q λQ S=>eS 2 Q λQ U W=>eC S λS Y=>eT S λS=>eC Y λY Z=>eBv Y λY=>eN Z (br (v==K) (br (l==L) (br (o==M) (Al (Af lo 73 [AA y z w q e E t J,AA N O P Q U W S Y] h) λv l=>eB v (GG lo f (Ap (x+1)) d k c A i p a n u B j s a0 g C a1 G D b m c0 a2 H c1 l) (Ax l)) (Ax h)) (Ax h)) (Ax h)))))) (BI h) :=
 lE
def Jn lo a n c b m p f x h:=
 LA 24 Tryz.f24 221311 0 111 lo ⟨[(0,.sl 5 a n c),(1,.sl 5 b m p),(4,.bool f),(5,Iv x)],[],h⟩
theorem Jn.e :
  Jn lo a n c b m p f x h=br (decide (x<(n:Int))) (As x n (eO a λv=>eO (ld h v.1 (v.2+x.toNat) 0 5) λv=>eC v λv l=>eI .i64 v λv=>eC l λl o=>eI .i64 l λl=>eC o λo s=>eI .i64 o λo=>eC s λs y=>eI .i64 s λs=>eC y λy z=>eI .i64 y λy=>eN z (As x m (eO b λz=>eO (ld h z.1 (z.2+x.toNat) 0 5) λz=>eC z λz u=>eI .i64 z λz=>eC u λu w=>eI .i64 u λu=>eC w λw q=>eI .i64 w λw=>eC q λq g=>eI .i64 q λq=>eC g λg i=>eI .i64 g λg=>eN i (br ((v==z)&&((l==u)&&((o==w)&&((s==q)&&((y==g)&&true))))) (Jn lo a n c b m p f (Ap (x+1)) h) (Ax h)))))) (BI h) :=
 lE
def Fu lo n m k a i c x y j b g p G d H u J e P s n0 A n1 C h:=
 LA 25 Tryz.f25 2213111 0 1111 lo ⟨[(6,.lp 6 0),(7,(DQ n m k)),(22,.sl 6 a i c),(23,Iv x),(24,Iv y)],[(6,[.sl j b g p,.sl G d H u,.sl J e P s,.sl n0 A n1 C])],h⟩
theorem Fu.e {lo n m k i j g G H J P n0 n1:Nat}{a b d A B:Pq}{c p u s C:Nq}{y x:Int}{h:Heap} :
  Fu lo n m k a i c y x j b g p G d H u J A P s n0 B n1 C h=br (decide (x<y)) (As x i (eO a λv=>eO (ld h v.1 (v.2+x.toNat) 0 6) λv=>eC v λv l=>eI .i64 v λv=>eC l λl o=>eI .i64 l λl=>eC o λo z=>eI .i64 o λo=>eC z λz w=>eI .i64 z λz=>eC w λw q=>eT w λw=>eC q λq t=>eBv q λq=>eN t (Al (Af lo 77 [DQ n m k,Bi v l o z w q] h) λv l=>eB v (Fu lo n m k a i c y (Ap (x+1)) j b g p G d H u J A P s n0 B n1 C l) (Fu lo n m k a i c y (Ap (x+1)) j b g p G d H u J A P s n0 B n1 C l)))) (eO (ld h n m k 4) λv=>eC v λv l=>eS 6 v λv o z=>eC l λl w=>eS 5 l λl q t=>eC w λw e=>eS 9 w λw f D=>eC e λe E=>eS 5 e λe K L=>eN E (Al (Af lo 78 [An v o z l q t w f D e K L] h) λv l=>eA v λv=>eC v λv o=>eS 6 v λv z w=>eC o λo q=>eS 5 o λo t e=>eC q λq f=>eS 9 q λq D E=>eC f λf K=>eS 5 f λf L M=>eN K (some ((An v z w o t e q D E f L M),l)))) :=
 lE
theorem Uj {e:Pq} (hk:(Al (Af lo 82 [An a n c b m p d k u e i s] h) λv l=>eB v (Al (Af lo 78 [An a n c b m p d k u e i s] l) λv o=>eA v λv=>eC v λv w=>eS 6 v λv q g=>eC w λw j=>eS 5 w λw A B=>eC j λj C=>eS 9 j λj D E=>eC C λC G=>eS 5 C λC H J=>eN G (eO (st lo (o ++ [.rows 4 60 false [[.sl 0 none 0 (some 0),.sl 0 none 0 (some 0),.sl 0 none 0 (some 0),.sl 0 none 0 (some 0)]]]) o.length 0 0 (Dc v q g w A B j D E C H J)) λv=>Al (Af lo 77 [.ptr (some (o.length,(0,0))),Bi x y z t S f] v) λv w=>eB v (eO (ld w o.length 0 0 4) λv=>eC v λv q=>eS 6 v λv g j=>eC q λq A=>eS 5 q λq B C=>eC A λA D=>eS 9 A λA E G=>eC D λD H=>eS 5 D λD J K=>eN H (Al (Af lo 78 [An v g j q B C A E G D J K] w) λv q=>eA v λv=>eC v λv g=>eS 6 v λv j A=>eC g λg B=>eS 5 g λg C D=>eC B λB E=>eS 9 B λB G H=>eC E λE J=>eS 5 E λE K L=>eN J (some (.tup [An v j A g C D B G H E K L,.bool true],q)))) (eO (ld w o.length 0 0 4) λv=>eC v λv o=>eS 6 v λv q g=>eC o λo j=>eS 5 o λo A B=>eC j λj C=>eS 9 j λj D E=>eC C λC G=>eS 5 C λC H J=>eN G (Al (Af lo 78 [An v q g o A B j D E C H J] w) λv o=>eA v λv=>eC v λv w=>eS 6 v λv q g=>eC w λw j=>eS 5 w λw A B=>eC j λj C=>eS 9 j λj D E=>eC C λC G=>eS 5 C λC H J=>eN G (some (.tup [An v q g w A B j D E C H J,.bool false],o)))))) (some (.tup [.agg [.sl 0 none 0 (some 0),.sl 0 none 0 (some 0),.sl 0 none 0 (some 0),.sl 0 none 0 (some 0)],.bool false],l)))=some r) :
  Af lo 28 [An a n c b m p d k u e i s,Bi x y z t S f] h=some r :=
 eK Tryz.func28 hk
def Iq lo a n c x y z h:=
 LA 29 Tryz.f29 2213111 0 1111 lo ⟨[(0,.sl 6 a n c),(1,Iv x),(4,Iv y),(5,Iv z)],[],h⟩
theorem Iq.e :
  Iq lo a n c y z x h=br (decide (x<(n:Int))) (As x n (eO a λv=>eO (ld h v.1 (v.2+x.toNat) 0 6) λv=>eC v λv l=>eI .i64 v λv=>eC l λl o=>eI .i64 l λl=>eC o λo s=>eI .i64 o λo=>eC s λs b=>eI .i64 s λs=>eC b λb u=>eT b λb=>eC u λu w=>eBv u λu=>eN w (Al (Af lo 37 [Bi v l o s b u,Iv y] h) λv l=>eI .i64 v λv=>br (decide (v<0)) (some (Iv (-1),l)) (Iq lo a n c v z (Ap (x+1)) l)))) (some (Iv y,h)) :=
 lE
def Ip lo a n c b m p x h:=
 LA 30 Tryz.f30 221311 0 111 lo ⟨[(0,.sl 6 a n c),(3,.sl 6 b m p),(4,Iv x)],[],h⟩
theorem Ip.e :
  Ip lo b n p a m c x h=br (decide (x<(n:Int))) (As x n (eO b λv=>eO (ld h v.1 (v.2+x.toNat) 0 6) λv=>eC v λv l=>eI .i64 v λv=>eC l λl o=>eI .i64 l λl=>eC o λo s=>eI .i64 o λo=>eC s λs y=>eI .i64 s λs=>eC y λy z=>eT y λy=>eC z λz u=>eBv z λz=>eN u (Al (Af lo 40 [Bi v l o s y z] h) λv l=>eA v λv=>eC v λv o=>eI .i64 v λv=>eC o λo s=>eI .i64 o λo=>eC s λs y=>eI .i64 s λs=>eC y λy z=>eI .i64 y λy=>eC z λz u=>eT z λz=>eC u λu w=>eBv u λu=>eN w (As x m (eO a λw=>eO (st lo l w.1 (w.2+x.toNat) 0 (Tt v o s y z u)) λv=>Ip lo b n p a m c (Ap (x+1)) v))))) (some (.sl 6 a m c,h)) :=
 lE
theorem T7 {e:Pq} (hk:(Al (Af h.length 83 (Jq a n c A j C) h) λl o=>eB l (Al (Af h.length 84 [.sl 5 b m p,.sl 5 B g D] o) λl x=>eB l (Al (Af h.length 85 [.sl 9 d k u,.sl 9 a0 G c0] x) λl y=>eB l (Al (Af h.length 86 [.sl 5 e i s,.sl 5 a1 H c1] y) λl z=>eB l (BI z) (Ax z)) (Ax y)) (Ax x)) (Ax o))=some (v,h')) (hn:noId v=true:=by rfl) :
  Af lo 31 [An a n c b m p d k u e i s,An A j C B g D a0 G c0 a1 H c1] h=some (v,h) :=
 eD Tryz.func31 hk hn
def Ir lo a n c b m p f x h:=
 LA 32 Tryz.f32 221311 0 111 lo ⟨[(0,.sl 6 a n c),(1,.sl 6 b m p),(4,.bool f),(5,Iv x)],[],h⟩
theorem Ir.e :
  Ir lo a n c b m p f x h=br (decide (x<(n:Int))) (As x n (eO a λv=>eO (ld h v.1 (v.2+x.toNat) 0 6) λv=>eC v λv l=>eI .i64 v λv=>eC l λl o=>eI .i64 l λl=>eC o λo s=>eI .i64 o λo=>eC s λs y=>eI .i64 s λs=>eC y λy z=>eT y λy=>eC z λz u=>eBv z λz=>eN u (As x m (eO b λu=>eO (ld h u.1 (u.2+x.toNat) 0 6) λu=>eC u λu w=>eI .i64 u λu=>eC w λw q=>eI .i64 w λw=>eC q λq g=>eI .i64 q λq=>eC g λg i=>eI .i64 g λg=>eC i λi j=>eT i λi=>eC j λj k=>eBv j λj=>eN k (Al (Af lo 87 [Bi v l o s y z,Bi u w q g i j] h) λv l=>eB v (Ir lo a n c b m p f (Ap (x+1)) l) (Ax l)))))) (BI h) :=
 lE
def E7 lo a n c x y h:=
 LA 33 Tryz.f33 22131 0 11 lo ⟨[(0,.sl 6 a n c),(1,Iv x),(5,Iv y)],[],h⟩
theorem E7.e :
  E7 lo a n c y x h=br (decide (x<(n:Int))) (As x n (eO a λv=>eO (st lo h v.1 (v.2+x.toNat) 0 (AR y)) λv=>As x n (eO a λl=>eO (st lo v l.1 (l.2+x.toNat) 1 (AR (Ap (y+1)))) λv=>As x n (eO a λl=>eO (st lo v l.1 (l.2+x.toNat) 2 (AR (Ap ((Ap (y+1))+1)))) λv=>As x n (eO a λl=>eO (st lo v l.1 (l.2+x.toNat) 3 (AR (Ap ((Ap ((Ap (y+1))+1))+1)))) λv=>Al (Af lo 88 (AR (Ap ((Ap ((Ap ((Ap (y+1))+1))+1))+1))) v) λv l=>eT v λv=>As x n (eO a λo=>eO (st lo l o.1 (o.2+x.toNat) 4 [.str v]) λv=>br ((Ap (Ap (Ap (Ap (Ap (y+(1:Int))+(1:Int))+(1:Int))+(1:Int))+(1:Int))).tmod (3:Int)==0) (As x n (eO a λl=>eO (st lo v l.1 (l.2+x.toNat) 5 [.bool true]) λl=>E7 lo a n c (Ap ((Ap ((Ap ((Ap ((Ap ((Ap (y+1))+1))+1))+1))+1))+1)) (Ap (x+1)) l)) (As x n (eO a λl=>eO (st lo v l.1 (l.2+x.toNat) 5 [.bool false]) λv=>E7 lo a n c (Ap ((Ap ((Ap ((Ap ((Ap ((Ap (y+1))+1))+1))+1))+1))+1)) (Ap (x+1)) v)))))))) (some (Iv y,h)) :=
 lE
theorem Qo {e:Pq} (hk:(Al (Af lo 89 [.sl 6 a n c,Iv x] h) λv l=>eI .i64 v λv=>Al (Af lo 90 [.sl 5 b m p,Iv v] l) λv l=>eI .i64 v λv=>Al (Af lo 91 [.sl 9 d k u,Iv v] l) λv l=>eI .i64 v λv=>Al (Af lo 92 [.sl 5 e i s,Iv v] l) λv l=>eI .i64 v λv=>some (Iv v,l))=some r) :
  Af lo 34 [An a n c b m p d k u e i s,Iv x] h=some r :=
 eK Tryz.func34 hk
theorem Qt {e:Pq} (hk:(Al (Af h.length 93 [.sl 6 a n c,Iv x] h) λl o=>eI .i64 l λl=>br (decide (l<0)) (some (Iv (-1),o)) (Al (Af h.length 94 [.sl 5 b m p,Iv l] o) λl o=>eI .i64 l λl=>br (decide (l<0)) (some (Iv (-1),o)) (Al (Af h.length 95 [.sl 9 d k u,Iv l] o) λl o=>eI .i64 l λl=>br (decide (l<0)) (some (Iv (-1),o)) (Al (Af h.length 96 [.sl 5 e i s,Iv l] o) λl o=>eI .i64 l λl=>br (decide (l<0)) (some (Iv (-1),o)) (some (Iv l,o))))))=some (v,h')) (hn:noId v=true:=by rfl) :
  Af lo 35 [An a n c b m p d k u e i s,Iv x] h=some (v,h) :=
 eD Tryz.func35 hk hn
theorem TW {e:Pq} (hk:(Al (Af h.length 97 [.sl 6 a n c,Iv x] h) λl o=>eI .i64 l λl=>br (decide (l<0)) (some (Iv (-1),o)) (Al (Af h.length 98 [.sl 5 b m p,Iv l] o) λl o=>eI .i64 l λl=>br (decide (l<0)) (some (Iv (-1),o)) (Al (Af h.length 99 [.sl 9 d k u,Iv l] o) λl o=>eI .i64 l λl=>br (decide (l<0)) (some (Iv (-1),o)) (Al (Af h.length 100 [.sl 5 e i s,Iv l] o) λl o=>eI .i64 l λl=>br (decide (l<0)) (some (Iv (-1),o)) (some (Iv l,o))))))=some (v,h')) (hn:noId v=true:=by rfl) :
  Af lo 36 [An a n c b m p d k u e i s,Iv x] h=some (v,h) :=
 eD Tryz.func36 hk hn
theorem T4 {w:Int} (hk:(br (decide (Ap (x - (S.size:Int))<0)) (some (Iv (-1),h)) (some (Iv (Ap (x - ((S.size:Int)))),h)))=some (v,h')) (hn:noId v=true:=by rfl) :
  Af lo 37 [Bi y z t w S f,Iv x] h=some (v,h) :=
 eD Tryz.func37 hk hn
theorem TJ {e:Pq} (hk:(Al (Af lo 101 [An a n c b m p d k u e i s] h) λv l=>eB v (Al (Af lo 103 [An a n c b m p d k u e i s] l) λv o=>eA v λv=>eC v λv w=>eS 6 v λv q g=>eC w λw j=>eS 5 w λw A B=>eC j λj C=>eS 9 j λj D E=>eC C λC G=>eS 5 C λC H J=>eN G (Al (Af lo 102 [An v q g w A B j D E C H J,Bi x y z t S f] o) λv o=>eU v λv=>eC v λv w=>eA v λv=>eC v λv q=>eS 6 v λv g j=>eC q λq A=>eS 5 q λq B C=>eC A λA D=>eS 9 A λA E G=>eC D λD H=>eS 5 D λD J K=>eN H (eC w λw H=>eB w (eN H (some (.tup [An v g j q B C A E G D J K,.bool true],o))) (eN H (some (.tup [An v g j q B C A E G D J K,.bool false],o)))))) (some (.tup [.agg [.sl 0 none 0 (some 0),.sl 0 none 0 (some 0),.sl 0 none 0 (some 0),.sl 0 none 0 (some 0)],.bool false],l)))=some r) :
  Af lo 38 [An a n c b m p d k u e i s,Bi x y z t S f] h=some r :=
 eK Tryz.func38 hk
theorem TK {e:Pq} (hk:(Al (Af lo 104 (Bm a n c) h) λv l=>eS 6 v λv o x=>Al (Af lo 105 [.sl 5 b m p] l) λl y=>eS 5 l λl z w=>Al (Af lo 106 [.sl 9 d k u] y) λy q=>eS 9 y λy g j=>Al (Af lo 107 [.sl 5 e i s] q) λq t=>eS 5 q λq f A=>some ((An v o x l z w y g j q f A),t))=some r) :
  Af lo 39 [An a n c b m p d k u e i s] h=some r :=
 eK Tryz.func39 hk
theorem TS (hk:(some ((Bi x y z t S f),h))=some (v,h')) (hn:noId v=true:=by rfl) :
  Af lo 40 [Bi x y z t S f] h=some (v,h) :=
 eD Tryz.func40 hk hn
def IT lo n m k x i a j c b g p h:=
 LA 43 Tryz.f43 221311 0 111 lo ⟨[(0,(DQ n m k)),(2,.lp 2 0),(3,.lp 3 0),(4,Iv x)],[(2,[.sl i a j c]),(3,(Bk b g p))],h⟩
theorem IT.e :
  IT lo m k i x j b g p a n c h=br (decide (x<4)) (Al (Af lo 109 [DQ m k i] h) λv l=>eA v λv=>eC v λv o=>eI .i64 v λv=>eC o λo s=>eI .i64 o λo=>eN s (As x n (eO a λs=>eO (st lo l s.1 (s.2+x.toNat) 0 (Cq v o)) λv=>IT lo m k i (Ap (x+1)) j b g p a n c v))) (Al (Af lo 44 [DQ m k i,Iv 10] h) λv l=>eI .i64 v λv=>br (v==0) (Az a n c (some (Iv 1)) none none λo s y=>some ((Ao o s y),l)) (br (v==1) (Al (Af lo 44 [DQ m k i,Iv 4] l) λv o=>eI .i64 v λv=>Al (Af lo 110 [DQ m k i] o) λo s=>eA o λo=>eC o λo y=>eI .i64 o λo=>eC y λy z=>eI .i64 y λy=>eN z (As v n (eO a λz=>eO (st lo s z.1 (z.2+v.toNat) 0 (Cq o y)) λv=>some ((Ao a n c),v)))) (some ((Ao a n c),l)))) :=
 lE
def DH lo f x a n c h:=
 LA 46 Tryz.f46 22131 0 11 lo ⟨[(1,.lp 1 0),(2,.bool f),(3,Iv x)],[(1,(Bk a n c))],h⟩
def DG lo f x y a n c h:=
 Lp (X 46) lo (pf 2213123122131 Tryz.f46) 2 (Ba 2 (kS (X 46) lo (pf 1123122131 Tryz.f46) 1 (Ba 1 (kS (X 46) lo (pf 1122131 Tryz.f46) 0 (ZB (X 46) lo (pf 22131 Tryz.f46) 0 (Ba 0 (kS (X 46) lo (pf 11 Tryz.f46) 0 (K8 (X 46) Tryz.f46.results.toList)))))))) ⟨[(1,.lp 1 0),(2,.bool f),(3,Iv x),(4,Iv y)],[(1,(Bk a n c))],h⟩
theorem Zy (hk:(DH h.length false 0 a n c h)=some (v,h')) (hn:noId v=true:=by rfl) :
  Af lo 46 [Ao a n c] h=some (v,h) :=
 eD Tryz.func46 hk hn
theorem DH.e :
  DH lo f x a n c h=br (decide (x<(n:Int))) (As x n (eO a λv=>eO (ld h v.1 (v.2+x.toNat) 0 1) λv=>eC v λv l=>eS 6 v λv o s=>eN l (Al (Af lo 111 [Bh v o s] h) λv l=>eB v (As x n (eO a λv=>eO (ld l v.1 (v.2+x.toNat) 1 1) λv=>eC v λv o=>eN o (eS 6 v λv v o=>br (decide ((v:Int)>6)) (Ax l) (DG lo f x 0 a n c l)))) (Ax l)))) (Al (Af lo 54 (BQ (n:Int) 1 4) h) λv l=>eB v (As (Ap ((n:Int) - 1)) n (eO a λv=>eO (ld l v.1 (v.2+((Ap ((n:Int) - (1:Int))).toNat)) 1 1) λv=>eC v λv o=>eN o (eS 6 v λv v o=>br ((v:Int)==0) (BI l) (Ax l)))) (Ax l)) :=
 lE
theorem DG.e :
  DG lo f x y a n c h=As x n (eO a λv=>eO (ld h v.1 (v.2+x.toNat) 1 1) λv=>eC v λv l=>eN l (eS 6 v λv v l=>br (decide (y<(v:Int))) (As x n (eO a λv=>eO (ld h v.1 (v.2+x.toNat) 1 1) λv=>eC v λv l=>eN l (eS 6 v λv l o=>As y l (eO v λv=>eO (ld h v.1 (v.2+y.toNat) 0 6) λv=>eC v λv l=>eI .i64 v λv=>eC l λl o=>eI .i64 l λl=>eC o λo s=>eI .i64 o λo=>eC s λs b=>eS 2 s λs z u=>eC b λb w=>eT b λb=>eC w λw p=>eBv w λw=>eN p (Al (Af lo 112 [AA v l o s z u b w] h) λv l=>eB v (DG lo f x (Ap (y+1)) a n c l) (Ax l)))))) (br (decide (Ap (x+(1:Int))<(n:Int))) (As x n (eO a λv=>eO (ld h v.1 (v.2+x.toNat) 0 2) λv=>eC v λv l=>eS 6 v λv o s=>eC l λl b=>eS 6 l λl z u=>eN b (As (Ap (x+1)) n (eO a λb=>eO (ld h b.1 (b.2+((Ap (x+(1:Int))).toNat)) 0 2) λb=>eC b λb w=>eS 6 b λb p q=>eC w λw g=>eS 6 w λw i j=>eN g (Al (Af lo 113 [IA v o s l z u,IA b p q w i j] h) λv l=>eB v (DH lo f (Ap (x+1)) a n c l) (Ax l)))))) (DH lo f (Ap (x+1)) a n c h)))) :=
 lE
theorem RB (hk:(As (Ap ((n:Int) - 1)) n (eO a λv=>eO (ld h v.1 (v.2+((Ap ((n:Int) - (1:Int))).toNat)) 0 1) λv=>eC v λv l=>eS 6 v λv o s=>eN l (Al (Af lo 114 [Bh v o s] h) λv l=>eA v λv=>eC v λv o=>eS 2 v λv s b=>eN o (some ((Ao v s b),l)))))=some r) :
  Af lo 47 [Ao a n c] h=some r :=
 eK Tryz.func47 hk
theorem Ol (hk:(Al (Af lo 116 [AA x y z a i c S f] h) λv l=>eB v (Al (Af l.length 66 [DQ n m (k+2)] l) λv o=>eA v λv=>eC v λv s=>eS 6 v λv b u=>eN s (Al (Af o.length 67 [Bh v b u] o) λv o=>eA v λv=>eC v λv s=>eS 2 v λv b u=>eN s (Al (Af lo 69 [Ao a i c,Ao v b u] o) λv o=>eB v (Al (Af lo 117 [DQ n m (k+2),Iv 0] o) λv s=>eB v (some ((At 0 0),s)) (eO (ld s n m (k+3) 1) λv=>eC v λv b=>eN b (eS 6 v λv v b=>br (decide ((v:Int)>=36)) (some ((At 0 0),s)) (eO (ld s n m (k+1) 1) λv=>eC v λv b=>eN b (eI .i64 v λv=>Al (Af s.length 118 [Ao a i c] s) λs b=>eI .i64 s λs=>br (decide (Ap ((if s>v then s else v)+(1:Int))>999)) (some ((At 0 0),b)) (eO (ld b n m (k+0) 1) λu=>eC u λu w=>eN w (eI .i64 u λu=>eO (st lo b n m (k+1) (AR (Ap ((if s>v then s else v)+1)))) λb=>Al (Af lo 119 [DQ n m (k+2),AA x (Ap ((if s>v then s else v)+1)) u a i c S f] b) λb w=>eB b (Al (Af lo 120 [DQ n m k] w) λb p=>eU b λb=>eN b (some ((At (Ap ((if s>v then s else v)+1)) u),p))) (Al (Af lo 120 [DQ n m k] w) λb w=>eU b λb=>eN b (some ((At (Ap ((if s>v then s else v)+1)) u),w)))))))))) (some ((At 0 0),o))))) (some ((At 0 0),l)))=some r) :
  Af lo 52 [DQ n m k,AA x y z a i c S f] h=some r :=
 eK Tryz.func52 hk
def Er lo f x y z a n c b m p d k u F h:=
 LA 53 Tryz.f53 221311 0 111 lo ⟨[(1,.lp 1 0),(2,.bool f),(3,Iv x)],[(1,(DO y z a n c b m p d k u F))],h⟩
def EZ lo f x y z a n c b m p d k u F e i s h:=
 LA 53 Tryz.f53 22131111 2 11111 lo ⟨[(1,.lp 1 0),(2,.bool f),(4,.lp 4 0),(5,Iv x)],[(1,(DO y z a n c b m p d k u F)),(4,(Bm e i s))],h⟩
theorem Zx (hk:(Al (Af h.length 54 (BQ x 0 2) h) λl o=>eB l (Al (Af h.length 54 (BQ y 0 999) o) λl s=>eB l (br ((k:Int)==3) (Al (Af h.length 46 [Ao a n c] s) λl z=>eB l (Al (Af h.length 121 [Ao a n c] z) λl w=>eB l (Al (Af h.length 122 [.sl 6 b m p,Iv x] w) λl q=>eB l (Er h.length false 0 x y a n c b m p d k u f q) (Ax q)) (Ax w)) (Ax z)) (Ax s)) (Ax s)) (Ax o))=some (v,h')) (hn:noId v=true:=by rfl) :
  Af lo 53 [Bs x y a n c b m p d k u f] h=some (v,h) :=
 eD Tryz.func53 hk hn
theorem Er.e :
  Er lo f x y z b m c d k p a n u F h=br (decide (x<3)) (As x n (eO a λv=>eO (ld h v.1 (v.2+x.toNat) 0 1) λv=>eC v λv l=>eN l (eS 6 v λv l o=>Al (Af lo 122 [.sl 6 v l o,Iv x] h) λv l=>eB v (br (x==y) (As x n (eO a λv=>eO (ld l v.1 (v.2+x.toNat) 0 1) λv=>eC v λv o=>eN o (eS 6 v λv v o=>br (decide ((v:Int)>0)) (Ax l) (Er lo f (Ap (x+1)) y z b m c d k p a n u F l)))) (Er lo f (Ap (x+1)) y z b m c d k p a n u F l)) (Ax l)))) (As 0 m (eO b λv=>eO (ld h v.1 (v.2+0) 0 1) λv=>eC v λv l=>eS 6 v λv o s=>eN l (EZ lo f 0 y z b m c d k p a n u F v o s h))) :=
 lE
theorem EZ.e :
  EZ lo f x z y b m c d k p A i u F a n s h=br (decide (x<4)) (As x n (eO a λv=>eO (ld h v.1 (v.2+x.toNat) 1 1) λv=>eC v λv l=>eN l (eI .i64 v λv=>br (decide (v>y)) (Ax h) (EZ lo f (Ap (x+1)) z y b m c d k p A i u F a n s h)))) (BI h) :=
 lE
theorem ZA (hk:(br (decide (x>=y)) (br (decide (x<=z)) (BI h) (Ax h)) (Ax h))=some (v,h')) (hn:noId v=true:=by rfl) :
  Af lo 54 (BQ x y z) h=some (v,h) :=
 eD Tryz.func54 hk hn
def C0 lo S f x h:=
 LA 55 Tryz.f55 22131 0 11 lo ⟨[(0,.str S),(2,.bool f),(3,Iv x)],[],h⟩
theorem RC (hk:(C0 h.length S false 0 h)=some (v,h')) (hn:noId v=true:=by rfl) :
  Af lo 55 [.str S] h=some (v,h) :=
 eD Tryz.func55 hk hn
theorem C0.e :
  C0 lo S f x h=br (decide (x<(S.size:Int))) (eO (QK S x) λv=>br (decide ((v.toNat:Int)<33)) (Ax h) (eO (QK S x) λv=>br (decide ((v.toNat:Int)>126)) (Ax h) (C0 lo S f (Ap (x+1)) h))) (br (decide ((S.size:Int)<=8)) (BI h) (Ax h)) :=
 lE
def C2 lo f x a n c h:=
 LA 56 Tryz.f56 22131 0 11 lo ⟨[(1,.lp 1 0),(2,.bool f),(3,Iv x)],[(1,(Bk a n c))],h⟩
theorem RE (hk:(C2 h.length false 0 a n c h)=some (v,h')) (hn:noId v=true:=by rfl) :
  Af lo 56 [Ao a n c] h=some (v,h) :=
 eD Tryz.func56 hk hn
theorem C2.e :
  C2 lo f x a n c h=br (decide (x<(n:Int))) (As x n (eO a λv=>eO (ld h v.1 (v.2+x.toNat) 0 2) λv=>eC v λv l=>eI .i64 v λv=>eC l λl o=>eI .i64 l λl=>eN o (Al (Af lo 123 [At v l] h) λv l=>eB v (C2 lo f (Ap (x+1)) a n c l) (Ax l)))) (br ((n:Int)==4) (BI h) (Ax h)) :=
 lE
theorem XN {e:Pq} (hk:(Al (Af h.length 47 [Ao a n c] h) λl o=>eA l λl=>eC l λl z=>eS 2 l λl w q=>eN z (Al (Af h.length 124 [Ao b k p,Ao l w q] o) λl o=>eB l (Al (Af h.length 125 [Ao a n c] o) λl z=>eB l (Al (Af h.length 126 [Bs x y a n c d m u e i s f,Ao b k p] z) λl w=>eI .i64 l λl=>br (decide (l<=999)) (br (decide ((m:Int)<36)) (BI w) (Ax w)) (Ax w)) (Ax z)) (Ax o)))=some (v,h')) (hn:noId v=true:=by rfl) :
  Af lo 57 [Bs x y a n c d m u e i s f,Ao b k p] h=some (v,h) :=
 eD Tryz.func57 hk hn
def DZ lo x y z a n c b m p d k u f t w i e j s g A G C H B J D F q M a0 P c0 a1 n0 c1 n1 a2 n2 c2 b0 h:=
 LA 58 Tryz.f58 221311 0 111 lo ⟨[(1,.lp 1 0),(2,.lp 2 0),(3,.lp 3 0),(4,Iv x)],[(1,(DO y z a n c b m p d k u f)),(2,[Iv t,Iv w,.sl i e j s,.sl g A G C,.sl H B J D,.bool F]),(3,[Iv q,Iv M,.sl 2 a0 P c0,.sl 6 a1 n0 c1,.sl n1 a2 n2 c2,.bool b0])],h⟩
theorem US (hk:(Al (Af h.length 127 [Ao a n c] h) λv l=>eA v λv=>eC v λv o=>eS 2 v λv s z=>eN o (Al (Af l.length 128 (Bm b m p) l) λl o=>eS 6 l λl w q=>DZ lo 0 x y a n c b m p d k u f 0 0 0 none 0 (some 0) 0 none 0 (some 0) 0 none 0 (some 0) false x y v s z l w q 0 none 0 (some 0) f o))=some r) :
  Af lo 58 [Bs x y a n c b m p d k u f] h=some r :=
 eK Tryz.func58 hk
theorem DZ.e {lo g G n H J P n0 n1 n2 m k i j:Nat}{x t w q M y z:Int}{B a0 a a1 a2 a3 b d A:Pq}{s C D c0 c1 c2 c p u:Nq}{F b0 f:Bool}{h:Heap} :
  DZ lo x t w B g s a0 G C a n D F q M H a1 J c0 P a2 n0 c1 n1 a3 n2 c2 b0 y z b m c d k p i A j u f h=br (decide (x<(n:Int))) (As x n (eO a λv=>eO (ld h v.1 (v.2+x.toNat) 0 1) λv=>eC v λv l=>eN l (eS 6 v λv l o=>Al (Af lo 128 (Bm v l o) h) λv l=>eS 6 v λv o e=>Aw 1 (l ++ [.rows 1 26 false [Bm v o e]]) (.sl 1 (some (l.length,0)) 1 (some 1)) λE=>DJ lo 26 1 24 (.sl i A j u) E (l ++ [.rows 1 26 false [Bm v o e]]) λv l=>eS 1 v λv o e=>DZ lo (Ap (x+1)) t w B g s a0 G C a n D F q M H a1 J c0 P a2 n0 c1 n1 a3 n2 c2 b0 y z b m c d k p 1 v o e f l))) (some (.agg [Iv y,Iv z,.sl 2 b m c,.sl 6 d k p,.sl i A j u,.bool f],h)) :=
 lE
theorem TD {e:Pq} (hk:(Al (Af h.length 126 [Bs x y a n c b m p d k u f,Ao e i s] h) λv l=>eI .i64 v λv=>Aw 2 (l ++ [.rows 2 36 false []]) (.sl 2 e i s) λo=>DJ (List.length (l ++ [.rows 2 36 false []])) 36 2 16 (.sl 2 (some (l.length,0)) 0 (some 0)) o (l ++ [.rows 2 36 false []]) λl o=>eS 2 l λl w q=>Al (Af lo 129 [Ao a n c,Iv 0,AA z v x l w q S F] o) λl o=>eA l λl=>eC l λl w=>eS 2 l λl q g=>eN w (Al (Af lo 130 [Bs x v l q g b m p d k u f] o) λl o=>eA l λl=>eC l λl w=>eI .i64 l λl=>eC w λw q=>eI .i64 w λw=>eC q λq g=>eS 2 q λq j t=>eC g λg A=>eS 6 g λg B C=>eC A λA D=>eS 1 A λA E G=>eC D λD H=>eBv D λD=>eN H (some (.tup [Bs l w q j t g B C A E G D,At v x],o))))=some r) :
  Af lo 59 [Bs x y a n c b m p d k u f,Iv z,.str S,.bool F,Ao e i s] h=some r :=
 eK Tryz.func59 hk
def IX lo f x a n c b m p h:=
 LA 60 Tryz.f60 221311 0 111 lo ⟨[(2,.lp 2 0),(3,.lp 3 0),(4,.bool f),(5,Iv x)],[(2,(Bk a n c)),(3,(Bk b m p))],h⟩
theorem IX.e :
  IX lo f x a n c b m p h=br (decide (x<(n:Int))) (As x n (eO a λv=>eO (ld h v.1 (v.2+x.toNat) 0 1) λv=>eC v λv l=>eS 6 v λv o s=>eN l (As x m (eO b λl=>eO (ld h l.1 (l.2+x.toNat) 0 1) λl=>eC l λl y=>eS 6 l λl z u=>eN y (Al (Af lo 131 [Bh v o s,Bh l z u] h) λv l=>eB v (As x n (eO a λv=>eO (ld l v.1 (v.2+x.toNat) 1 1) λv=>eC v λv o=>eN o (eS 6 v λv o s=>As x m (eO b λy=>eO (ld l y.1 (y.2+x.toNat) 1 1) λy=>eC y λy z=>eN z (eS 6 y λy z u=>Al (Af lo 61 (Jq v o s y z u) l) λv o=>eB v (IX lo f (Ap (x+1)) a n c b m p o) (Ax o)))))) (Ax l)))))) (BI h) :=
 lE
def Jl lo a n c b m p f x h:=
 LA 61 Tryz.f61 221311 0 111 lo ⟨[(0,.sl 6 a n c),(1,.sl 6 b m p),(4,.bool f),(5,Iv x)],[],h⟩
theorem Jl.e {lo n m:Nat}{a b:Pq}{c p:Nq}{f:Bool}{x:Int}{h:Heap} :
  Jl lo a n c b m p f x h=br (decide (x<(n:Int))) (As x n (eO a λv=>eO (ld h v.1 (v.2+x.toNat) 0 6) λv=>eC v λv l=>eI .i64 v λv=>eC l λl o=>eI .i64 l λl=>eC o λo s=>eI .i64 o λo=>eC s λs y=>eS 2 s λs z u=>eC y λy w=>eT y λy=>eC w λw q=>eBv w λw=>eN q (As x m (eO b λq=>eO (ld h q.1 (q.2+x.toNat) 0 6) λq=>eC q λq g=>eI .i64 q λq=>eC g λg i=>eI .i64 g λg=>eC i λi j=>eI .i64 i λi=>eC j λj k=>eS 2 j λj t d=>eC k λk e=>eT k λk=>eC e λe A=>eBv e λe=>eN A (Al (Af lo 73 [AA v l o s z u y w,AA q g i j t d k e] h) λv l=>eB v (Jl lo a n c b m p f (Ap (x+1)) l) (Ax l)))))) (BI h) :=
 lE
theorem Ug (hk:(Al (Af h.length 63 (BQ x 0 2) h) λl c=>eB l (BI c) (Ax c))=some (v,h')) (hn:noId v=true:=by rfl) :
  Af lo 62 (AR x) h=some (v,h) :=
 eD Tryz.func62 hk hn
theorem Vp (hk:(br (decide (x>=y)) (br (decide (x<=z)) (BI h) (Ax h)) (Ax h))=some (v,h')) (hn:noId v=true:=by rfl) :
  Af lo 63 (BQ x y z) h=some (v,h) :=
 eD Tryz.func63 hk hn
def CQ lo f a n c x y b m p h:=
 LA 64 Tryz.f64 221311 0 111 lo ⟨[(1,.lp 1 0),(2,.bool f),(13,.sl 2 a n c),(14,Iv x),(15,Iv y)],[(1,(Bk b m p))],h⟩
def BN lo f a n c x y b m p h:=
 LA 64 Tryz.f64 2213111 2 1111 lo ⟨[(1,.lp 1 0),(2,.bool f),(36,.sl 2 a n c),(37,Iv x),(38,Iv y)],[(1,(Bk b m p))],h⟩
theorem Un (hk:(Al (Af h.length 132 (AR (n:Int)) h) λl o=>eB l (CQ h.length false a n c (n:Int) 0 a n c o) (Ax o))=some (v,h')) (hn:noId v=true:=by rfl) :
  Af lo 64 [Ao a n c] h=some (v,h) :=
 eD Tryz.func64 hk hn
theorem CQ.e :
  CQ lo f b m p y x a n c h=br (decide (x<y)) (As x m (eO b λv=>eO (ld h v.1 (v.2+x.toNat) 0 2) λv=>eC v λv l=>eS 6 v λv o s=>eC l λl z=>eS 6 l λl u w=>eN z (Al (Af lo 79 [Bh v o s] h) λv o=>eB v (br (decide ((u:Int)>6)) (Ax o) (Al (Af lo 80 [.sl 6 l u w,.fn 133 []] o) λv l=>eB v (Ax l) (CQ lo f b m p y (Ap (x+1)) a n c l))) (Ax o)))) (BN lo f a n c (n:Int) 0 a n c h) :=
 lE
theorem BN.e :
  BN lo f b m p y x a n c h=br (decide (x<y)) (As x m (eO b λv=>eO (ld h v.1 (v.2+x.toNat) 0 2) λv=>eC v λv l=>eS 6 v λv o s=>eC l λl z=>eS 6 l λl u w=>eN z (Al (Af lo 135 [Ao a n c,Iv x] h) λz q=>eB z (br (decide ((u:Int)>0)) (Ax q) (Al (Af lo 135 [Ao a n c,Iv x] q) λz g=>eB z (BN lo f b m p y (Ap (x+1)) a n c g) (As (Ap (x+1)) n (eO a λz=>eO (ld g z.1 (z.2+((Ap (x+(1:Int))).toNat)) 0 1) λz=>eC z λz i=>eS 6 z λz j k=>eN i (Al (Af lo 136 [IA v o s l u w,Bh z j k] g) λz g=>eB z (BN lo f b m p y (Ap (x+1)) a n c g) (Ax g)))))) (Al (Af lo 135 [Ao a n c,Iv x] q) λz q=>eB z (BN lo f b m p y (Ap (x+1)) a n c q) (As (Ap (x+1)) n (eO a λz=>eO (ld q z.1 (z.2+((Ap (x+(1:Int))).toNat)) 0 1) λz=>eC z λz g=>eS 6 z λz i j=>eN g (Al (Af lo 136 [IA v o s l u w,Bh z i j] q) λv l=>eB v (BN lo f b m p y (Ap (x+1)) a n c l) (Ax l)))))))) (BI h) :=
 lE
def EC lo a n c x f b m p y z h:=
 LA 65 Tryz.f65 22131 0 11 lo ⟨[(0,.sl 6 a n c),(1,Iv x),(4,.bool f),(7,.sl 6 b m p),(8,Iv y),(9,Iv z)],[],h⟩
theorem XZ (hk:(EC h.length a n c x false a n c (n:Int) 0 h)=some (v,h')) (hn:noId v=true:=by rfl) :
  Af lo 65 [.sl 6 a n c,Iv x] h=some (v,h) :=
 eD Tryz.func65 hk hn
theorem EC.e :
  EC lo a n c y f b m p z x h=br (decide (x<z)) (As x m (eO b λv=>eO (ld h v.1 (v.2+x.toNat) 0 6) λv=>eC v λv l=>eI .i64 v λv=>eC l λl o=>eI .i64 l λl=>eC o λo s=>eI .i64 o λo=>eC s λs u=>eS 2 s λs w q=>eC u λu g=>eT u λu=>eC g λg i=>eBv g λg=>eN i (Al (Af lo 134 [AA v l o s w q u g] h) λv s=>eB v (br (o==y) (Az a n c none (some (Iv x)) none λv u w=>Al (Af lo 137 [.sl 6 v u w,At l o] s) λv l=>eB v (Ax l) (EC lo a n c y f b m p z (Ap (x+1)) l)) (Ax s)) (Ax s)))) (br (decide ((n:Int)<=60)) (BI h) (Ax h)) :=
 lE
theorem PA (hk:(eO (ld h n m (k+0) 1) λv=>eC v λv l=>eN l (eS 2 v λv l c=>eO (ld h n m (k+0) 1) λc=>eC c λc a=>eN a (eS 2 c λc c a=>As (Ap ((c:Int) - 1)) l (eO v λv=>eO (ld h v.1 (v.2+((Ap ((c:Int) - (1:Int))).toNat)) 0 1) λv=>eC v λv l=>eS 6 v λv c a=>eN l (some ((Bh v c a),h))))))=some r) :
  Af lo 66 [DQ n m k] h=some r :=
 eK Tryz.func66 hk
def Cn lo a n c x y m b k p d i u h:=
 LA 67 Tryz.f67 221311 0 111 lo ⟨[(2,.lp 2 0),(3,.lp 3 0),(8,.sl 6 a n c),(9,Iv x),(10,Iv y)],[(2,[.sl m b k p]),(3,(Bk d i u))],h⟩
theorem Pt (hk:(Al (Af lo 138 [] h) λv l=>eA v λv=>eC v λv o=>eS 2 v λv s b=>eN o (Cn lo a n c (n:Int) 0 0 none 0 (some 0) v s b l))=some r) :
  Af lo 67 [Bh a n c] h=some r :=
 eK Tryz.func67 hk
theorem Cn.e :
  Cn lo b m p y x k d i u a n c h=br (decide (x<y)) (As x m (eO b λv=>eO (ld h v.1 (v.2+x.toNat) 0 6) λv=>eC v λv l=>eI .i64 v λv=>eC l λv l=>eI .i64 v λv=>eC l λl o=>eI .i64 l λl=>eC o λo s=>eS 2 o λo o o=>eC s λo s=>eT o λo=>eC s λo s=>eBv o λo=>eN s (As x n (eO a λo=>eO (st lo h o.1 (o.2+x.toNat) 0 (Cq v l)) λv=>Cn lo b m p y (Ap (x+1)) k d i u a n c v)))) (some ((Ao a n c),h)) :=
 lE
def AP lo a n c x b m p y z h:=
 LA 68 Tryz.f68 221311 0 111 lo ⟨[(0,.sl 1 a n c),(3,Iv x),(9,.sl 1 b m p),(10,Iv y),(11,Iv z)],[],h⟩
def AO lo a n c b m p x y h:=
 LA 68 Tryz.f68 22131111 2 11111 lo ⟨[(6,.sl 6 a n c),(25,.sl 1 b m p),(26,Iv x),(27,Iv y)],[],h⟩
theorem HP (hk:(AP lo a n c 0 a n c (n:Int) 0 h)=some r) :
  Af lo 68 [.sl 1 a n c] h=some r :=
 eK Tryz.func68 hk
theorem AP.e :
  AP lo a n c y b m p z x h=br (decide (x<z)) (As x m (eO b λv=>eO (ld h v.1 (v.2+x.toNat) 0 1) λv=>eC v λv l=>eN l (eS 6 v λv v l=>br (decide (Ap (y+(v:Int))<0)) none (AP lo a n c (Ap (y+(v:Int))) b m p z (Ap (x+1)) h)))) (Al (Af lo 139 [.sl 0 none 0 (some 0),Iv y] h) λv l=>eS 6 v λv o s=>AO lo v o s a n c (n:Int) 0 l) :=
 lE
theorem AO.e :
  AO lo a n c b m p y x h=br (decide (x<y)) (As x m (eO b λv=>eO (ld h v.1 (v.2+x.toNat) 0 1) λv=>eC v λv l=>eN l (eS 6 v λv l o=>Aw 6 h (.sl 6 v l o) λv=>DJ lo 43 6 72 (.sl 6 a n c) v h λv l=>eS 6 v λv o s=>AO lo v o s b m p y (Ap (x+1)) l))) (some (.sl 6 a n c,h)) :=
 lE
def Co lo f a n c x y b m p h:=
 LA 69 Tryz.f69 22131 0 11 lo ⟨[(3,.lp 3 0),(4,.bool f),(8,.sl 2 a n c),(9,Iv x),(10,Iv y)],[(3,(Bk b m p))],h⟩
theorem Pz (hk:(Co h.length false a n c (n:Int) 0 b m p h)=some (v,h')) (hn:noId v=true:=by rfl) :
  Af lo 69 [Ao a n c,Ao b m p] h=some (v,h) :=
 eD Tryz.func69 hk hn
theorem Co.e :
  Co lo f a n c y x b m p h=br (decide (x<y)) (As x n (eO a λv=>eO (ld h v.1 (v.2+x.toNat) 0 2) λv=>eC v λv l=>eI .i64 v λv=>eC l λl o=>eI .i64 l λl=>eN o (As x m (eO b λo=>eO (ld h o.1 (o.2+x.toNat) 0 2) λo=>eC o λo s=>eI .i64 o λo=>eC s λs z=>eI .i64 s λs=>eN z (Al (Af lo 15 [At o s,At v l] h) λv l=>eB v (Ax l) (Co lo f a n c y (Ap (x+1)) b m p l)))))) (BI h) :=
 lE
theorem Oi (hk:(Al (Af h.length 141 (Cq x z) h) λl c=>eI .i64 l λl=>Al (Af h.length 141 (Cq y t) c) λc n=>eI .i64 c λc=>Al (Af h.length 140 [.sl 1 (some (n.length,0)) 2 (some 2)] (n ++ [.rows 1 3 false [AR l,AR c]])) λl c=>eI .i64 l λl=>some (Iv l,c))=some (v,h')) (hn:noId v=true:=by rfl) :
  Af lo 70 [At x y,At z t] h=some (v,h) :=
 eD Tryz.func70 hk hn
theorem Vu (hk:(br ((n:Int)==4) (Al (Af h.length 142 [.sl 2 a n c,.fn 143 []] h) λl o=>eB l (Ax o) (BI o)) (Ax h))=some (v,h')) (hn:noId v=true:=by rfl) :
  Af lo 71 [Ao a n c] h=some (v,h) :=
 eD Tryz.func71 hk hn
def Hh lo a n c x m b k p i d j u g e G s H A J C B P D a0 n0 c0 a1 n1 c1 a2 n2 c2 h:=
 LA 74 Tryz.f74 221311 0 111 lo ⟨[(2,.sl 6 a n c),(6,.lp 6 0),(7,.lp 7 0),(8,Iv x)],[(6,[.sl m b k p,.sl i d j u,.sl g e G s,.sl H A J C]),(7,(Dc B P D a0 n0 c0 a1 n1 c1 a2 n2 c2))],h⟩
theorem Hh.e {lo n g G H J P n0 n1 n2 m k i j:Nat}{a a0 a1 a2 a3 b d A B:Pq}{C D c0 c1 c2 c p u s:Nq}{x:Int}{h:Heap} :
  Hh lo a n C x g a0 G D H a1 J c0 P a2 n0 c1 n1 a3 n2 c2 b m c d k p A i u B j s h=br (decide (x<(n:Int))) (br (decide (x<60)) (As x n (eO a λv=>eO (ld h v.1 (v.2+x.toNat) 0 6) λv=>eC v λv l=>eI .i64 v λv=>eC l λl o=>eI .i64 l λl=>eC o λo y=>eI .i64 o λo=>eC y λy z=>eI .i64 y λy=>eC z λz w=>eT z λz=>eC w λw q=>eBv w λw=>eN q (Al (Af lo 102 [An b m c d k p A i u B j s,Bi v l o y z w] h) λv l=>eU v λv=>eC v λv o=>eA v λv=>eC v λv y=>eS 6 v λv z w=>eC y λy q=>eS 5 y λy t e=>eC q λq f=>eS 9 q λq E K=>eC f λf L=>eS 5 f λf M N=>eN L (eC o λo L=>eB o (eN L (Hh lo a n C (Ap (x+1)) g a0 G D H a1 J c0 P a2 n0 c1 n1 a3 n2 c2 v z w y t e q E K f M N l)) (eN L (Hh lo a n C (Ap (x+1)) g a0 G D H a1 J c0 P a2 n0 c1 n1 a3 n2 c2 v z w y t e q E K f M N l)))))) (some ((An b m c d k p A i u B j s),h))) (some ((An b m c d k p A i u B j s),h)) :=
 lE
def It lo x y z n a m c k b i p j d g u G e H s A J C B P D n0 a0 n1 c0 n2 a1 n3 c1 h:=
 LA 76 Tryz.f76 221311 0 111 lo ⟨[(0,Iv x),(1,Iv y),(4,.lp 4 0),(5,.lp 5 0),(12,Iv z)],[(4,[.sl n a m c,.sl k b i p,.sl j d g u,.sl G e H s]),(5,[.sl 6 A J C,.sl 5 B P D,.sl n0 a0 n1 c0,.sl n2 a1 n3 c1])],h⟩
def FZ lo x y n a m c k b i p j d g u G e H s A J C B P D n0 a0 n1 c0 n2 a1 n3 c1 h:=
 LA 76 Tryz.f76 2213111 2 1111 lo ⟨[(4,.lp 4 0),(5,.lp 5 0),(24,Iv x),(25,Iv y)],[(4,[.sl n a m c,.sl k b i p,.sl j d g u,.sl G e H s]),(5,[.sl 6 A J C,.sl 5 B P D,.sl n0 a0 n1 c0,.sl n2 a1 n3 c1])],h⟩
theorem It.e {lo n m k i j g G H J P n0 n1 n2 n3:Nat}{y z x:Int}{a b d A B a0 a1 a2:Pq}{c p u s C D c0 c1:Nq}{h:Heap} :
  It lo y z x n a m c k b i p j d g u G A H s B J C a0 P D n0 a1 n1 c0 n2 a2 n3 c1 h=br (decide (x<3)) (Al (Af lo 147 (Cq x y) h) λv l=>eA v λv=>eC v λv o=>eI .i64 v λv=>eC o λo w=>eI .i64 o λo=>eC w λw q=>eS 2 w λw t e=>eC q λq f=>eS 6 q λq E K=>eC f λf L=>eS 1 f λf M N=>eC L λL O=>eBv L λL=>eN O (Aw 6 (l ++ [.rows 6 29 false [DO v o w t e q E K f M N L]]) (.sl 6 (some (l.length,0)) 1 (some 1)) λO=>DJ lo 29 6 96 (.sl 6 B J C) O (l ++ [.rows 6 29 false [DO v o w t e q E K f M N L]]) λv l=>eS 6 v λv o w=>It lo y z (Ap (x+1)) n a m c k b i p j d g u G A H s v o w a0 P D n0 a1 n1 c0 n2 a2 n3 c1 l)) (FZ lo z 0 n a m c k b i p j d g u G A H s B J C a0 P D n0 a1 n1 c0 n2 a2 n3 c1 h) :=
 lE
theorem FZ.e {P n3:Nat} :
  FZ lo y x G B H C J a0 P D n0 a1 n1 c0 n2 a2 n3 c1 a n c b m p k d i u j A g s h=br (decide (x<y)) (Al (Af lo 138 [] h) λv l=>eA v λv=>eC v λv o=>eS 2 v λv z w=>eN o (Aw 5 (l ++ [.rows 5 66 false [O8 (x.tmod (3:Int)) v z w 0 0 0]]) (.sl 5 (some (l.length,0)) 1 (some 1)) λo=>DJ lo 66 5 56 (.sl 5 b m p) o (l ++ [.rows 5 66 false [O8 (x.tmod (3:Int)) v z w 0 0 0]]) λv l=>eS 5 v λv o z=>FZ lo y (Ap (x+1)) G B H C J a0 P D n0 a1 n1 c0 n2 a2 n3 c1 a n c v o z k d i u j A g s l)) (some (.agg [.sl 6 a n c,.sl 5 b m p,.sl k d i u,.sl j A g s],h)) :=
 lE
theorem RS (hk:(Al (Af lo 63 (BQ x 1 5) h) λv l=>eB v (Al (Af lo 148 [DQ n m k,Bi x y z t S f] l) λv c=>eB v (BI c) (Ax c)) (Al (Af lo 63 (BQ x 6 10) l) λv l=>eB v (Al (Af lo 149 [DQ n m k,Bi x y z t S f] l) λv c=>eB v (BI c) (Ax c)) (Al (Af lo 63 (BQ x 11 13) l) λv l=>eB v (Al (Af lo 150 [DQ n m k,Bi x y z t S f] l) λv c=>eB v (BI c) (Ax c)) (Ax l))))=some r) :
  Af lo 77 [DQ n m k,Bi x y z t S f] h=some r :=
 eK Tryz.func77 hk
def B1 lo a n c x y b m p d k u e i s A j C g B G D H a0 J c0 P a1 n0 c1 n1 a2 n2 c2 a3 n3 c3 a4 n4 c4 a5 n5 c5 a6 n6 c6 h:=
 LA 78 Tryz.f78 221311 0 111 lo ⟨[(1,.lp 1 0),(2,.lp 2 0),(3,.lp 3 0),(28,.sl 6 a n c),(29,Iv x),(30,Iv y)],[(1,(Dc b m p d k u e i s A j C)),(2,[.sl g B G D,.sl H a0 J c0,.sl P a1 n0 c1,.sl n1 a2 n2 c2]),(3,(Dc a3 n3 c3 a4 n4 c4 a5 n5 c5 a6 n6 c6))],h⟩
def B0 lo a n c x y b m p d k u e i s A j C g B G D H a0 J c0 P a1 n0 c1 n1 a2 n2 c2 a3 n3 c3 a4 n4 c4 a5 n5 c5 a6 n6 c6 h:=
 LA 78 Tryz.f78 2213111 2 1111 lo ⟨[(1,.lp 1 0),(2,.lp 2 0),(3,.lp 3 0),(43,.sl 5 a n c),(44,Iv x),(45,Iv y)],[(1,(Dc b m p d k u e i s A j C)),(2,[.sl g B G D,.sl H a0 J c0,.sl P a1 n0 c1,.sl n1 a2 n2 c2]),(3,(Dc a3 n3 c3 a4 n4 c4 a5 n5 c5 a6 n6 c6))],h⟩
def BZ lo a n c x y m b k p i d j u g e G s H A J C B P D a0 n0 c0 a1 n1 c1 a2 n2 c2 h:=
 LA 78 Tryz.f78 22131111 4 11111 lo ⟨[(2,.lp 2 0),(3,.lp 3 0),(61,.sl 9 a n c),(62,Iv x),(63,Iv y)],[(2,[.sl m b k p,.sl i d j u,.sl g e G s,.sl H A J C]),(3,(Dc B P D a0 n0 c0 a1 n1 c1 a2 n2 c2))],h⟩
theorem Np {e:Pq} (hk:(Bf (decide ((0:Int)<=0/\(0:Int)<=(n:Int)/\(n:Int)<=140737488355328/\(n:Int)*((96:Nat):Int)<=281474976710656)) (Bf (decide ((0:Int)<=0/\(0:Int)<=(m:Int)/\(m:Int)<=140737488355328/\(m:Int)*((56:Nat):Int)<=281474976710656)) (Bf (decide ((0:Int)<=0/\(0:Int)<=(k:Int)/\(k:Int)<=140737488355328/\(k:Int)*((96:Nat):Int)<=281474976710656)) (Al (Af (List.length (((h ++ [.rows 6 29 false (List.replicate n [Iv 0,Iv 0,.sl 0 none 0 (some 0),.sl 0 none 0 (some 0),.sl 0 none 0 (some 0),.bool false])]) ++ [.rows 5 66 false (List.replicate m [Iv 0,.sl 0 none 0 (some 0),Iv 0,Iv 0,Iv 0])]) ++ [.rows 9 123 false (List.replicate k [Iv 0,Iv 0,Iv 0,Iv 0,Iv 0,Iv 0,.sl 0 none 0 (some 0),.str ⟨⟨[]⟩⟩,.bool false])])) 152 [.sl 5 b i p] (((h ++ [.rows 6 29 false (List.replicate n [Iv 0,Iv 0,.sl 0 none 0 (some 0),.sl 0 none 0 (some 0),.sl 0 none 0 (some 0),.bool false])]) ++ [.rows 5 66 false (List.replicate m [Iv 0,.sl 0 none 0 (some 0),Iv 0,Iv 0,Iv 0])]) ++ [.rows 9 123 false (List.replicate k [Iv 0,Iv 0,Iv 0,Iv 0,Iv 0,Iv 0,.sl 0 none 0 (some 0),.str ⟨⟨[]⟩⟩,.bool false])])) λv l=>eS 5 v λv o x=>Al (Af l.length 151 [.sl 5 v o x] l) λv l=>eS 5 v λv o x=>B1 lo a n c (n:Int) 0 a n c d m u e k s b i p 0 none 0 (some 0) 0 none 0 (some 0) 0 none 0 (some 0) 0 none 0 (some 0) (some (h.length,0)) 0 (some n) (some ((List.length (h ++ [.rows 6 29 false (List.replicate n [Iv 0,Iv 0,.sl 0 none 0 (some 0),.sl 0 none 0 (some 0),.sl 0 none 0 (some 0),.bool false])])),0)) 0 (some m) (some ((List.length ((h ++ [.rows 6 29 false (List.replicate n [Iv 0,Iv 0,.sl 0 none 0 (some 0),.sl 0 none 0 (some 0),.sl 0 none 0 (some 0),.bool false])]) ++ [.rows 5 66 false (List.replicate m [Iv 0,.sl 0 none 0 (some 0),Iv 0,Iv 0,Iv 0])])),0)) 0 (some k) v o x l))))=some r) :
  Af lo 78 [An a n c d m u e k s b i p] h=some r :=
 eK Tryz.func78 hk
theorem B1.e {lo m k n i j g G H J P n0 n1 n2 n3 n4 n5 n6:Nat}{b d a A B a0 a1 a2 a3 a4 a5 a6 a7:Pq}{c6 p c u s C D c0 c1 c2 c3 c4 c5:Nq}{y x:Int}{h:Heap} :
  B1 lo b m c6 y x d k p a n c A i u B j s g a0 G C H a1 J D P a2 n0 c0 n1 a3 n2 c1 a4 n3 c2 a5 n4 c3 a6 n5 c4 a7 n6 c5 h=br (decide (x<y)) (As x m (eO b λv=>eO (ld h v.1 (v.2+x.toNat) 0 6) λv=>eC v λv l=>eI .i64 v λv=>eC l λl o=>eI .i64 l λl=>eC o λo z=>eS 2 o λo w q=>eC z λz t=>eS 6 z λz e f=>eC t λt E=>eS 1 t λt K L=>eC E λE M=>eBv E λE=>eN M (Al (Af lo 115 [Bs v l o w q z e f t K L E] h) λv l=>eA v λv=>eC v λv o=>eI .i64 v λv=>eC o λo z=>eI .i64 o λo=>eC z λz w=>eS 2 z λz q t=>eC w λw e=>eS 6 w λw f E=>eC e λe K=>eS 1 e λe L M=>eC K λK N=>eBv K λK=>eN N (Aw 6 (l ++ [.rows 6 29 false [DO v o z q t w f E e L M K]]) (.sl 6 (some (l.length,0)) 1 (some 1)) λN=>DJ lo 29 6 96 (.sl 6 a4 n3 c2) N (l ++ [.rows 6 29 false [DO v o z q t w f E e L M K]]) λv l=>eS 6 v λv o z=>B1 lo b m c6 y (Ap (x+1)) d k p a n c A i u B j s g a0 G C H a1 J D P a2 n0 c0 n1 a3 n2 c1 v o z a5 n4 c3 a6 n5 c4 a7 n6 c5 l)))) (B0 lo a n c (n:Int) 0 d k p a n c A i u B j s g a0 G C H a1 J D P a2 n0 c0 n1 a3 n2 c1 a4 n3 c2 a5 n4 c3 a6 n5 c4 a7 n6 c5 h) :=
 lE
theorem B0.e {lo m n4 n5 n n6 k i j g G H J P n0 n1 n2 n3:Nat}{a a5 a6 b a7 d A B a0 a1 a2 a3 a4:Pq}{c3 c4 c5 c c6 p u s C D c0 c1 c2:Nq}{y x:Int}{h:Heap} :
  B0 lo a m c3 y x a5 n4 c4 a6 n5 c5 b n c a7 n6 c6 k d i p j A g u G B H s J a0 P C a1 n0 D a2 n1 c0 a3 n2 c1 a4 n3 c2 h=br (decide (x<y)) (As x m (eO a λv=>eO (ld h v.1 (v.2+x.toNat) 0 5) λv=>eC v λv l=>eI .i64 v λv=>eC l λl o=>eS 2 l λl z w=>eC o λo q=>eI .i64 o λo=>eC q λq t=>eI .i64 q λq=>eC t λt e=>eI .i64 t λt=>eN e (Al (Af lo 153 [Ao l z w] h) λl z=>eA l λl=>eC l λl w=>eS 2 l λl e f=>eN w (Aw 5 (z ++ [.rows 5 66 false [O8 v l e f o q t]]) (.sl 5 (some (z.length,0)) 1 (some 1)) λw=>DJ lo 66 5 56 (.sl 5 a2 n1 c0) w (z ++ [.rows 5 66 false [O8 v l e f o q t]]) λv l=>eS 5 v λv o z=>B0 lo a m c3 y (Ap (x+1)) a5 n4 c4 a6 n5 c5 b n c a7 n6 c6 k d i p j A g u G B H s J a0 P C a1 n0 D v o z a3 n2 c1 a4 n3 c2 l)))) (BZ lo b n c (n:Int) 0 k d i p j A g u G B H s J a0 P C a1 n0 D a2 n1 c0 a3 n2 c1 a4 n3 c2 h) :=
 lE
theorem BZ.e {lo n g G H J P n0 n1 n2 m k i j:Nat}{a a0 a1 a2 a3 b d A B:Pq}{C D c0 c1 c2 c p u s:Nq}{y x:Int}{h:Heap} :
  BZ lo a n C y x g a0 G D H a1 J c0 P a2 n0 c1 n1 a3 n2 c2 b m c d k p A i u B j s h=br (decide (x<y)) (As x n (eO a λv=>eO (ld h v.1 (v.2+x.toNat) 0 9) λv=>eC v λv l=>eI .i64 v λv=>eC l λl o=>eI .i64 l λl=>eC o λo z=>eI .i64 o λo=>eC z λz w=>eI .i64 z λz=>eC w λw q=>eI .i64 w λw=>eC q λq t=>eI .i64 q λq=>eC t λt e=>eS 2 t λt f E=>eC e λe K=>eT e λe=>eC K λK L=>eBv K λK=>eN L (Al (Af lo 154 [AA z w q t f E e K] h) λz w=>eA z λz=>eC z λz q=>eI .i64 z λz=>eC q λq t=>eI .i64 q λq=>eC t λt e=>eI .i64 t λt=>eC e λe f=>eS 2 e λe E K=>eC f λf L=>eT f λf=>eC L λL M=>eBv L λL=>eN M (Aw 9 (w ++ [.rows 9 123 false [O9 v l o z q t e E K f L]]) (.sl 9 (some (w.length,0)) 1 (some 1)) λM=>DJ lo 123 9 96 (.sl 9 A i u) M (w ++ [.rows 9 123 false [O9 v l o z q t e E K f L]]) λv l=>eS 9 v λv o z=>BZ lo a n C y (Ap (x+1)) g a0 G D H a1 J c0 P a2 n0 c1 n1 a3 n2 c2 b m c d k p v o z B j s l)))) (some ((An b m c d k p A i u B j s),h)) :=
 lE
def CN lo f a n c x y b m p h:=
 LA 79 Tryz.f79 22131 0 11 lo ⟨[(1,.lp 1 0),(2,.bool f),(6,.sl 6 a n c),(7,Iv x),(8,Iv y)],[(1,(Bm b m p))],h⟩
theorem Ul (hk:(CN h.length false a n c (n:Int) 0 a n c h)=some (v,h')) (hn:noId v=true:=by rfl) :
  Af lo 79 [Bh a n c] h=some (v,h) :=
 eD Tryz.func79 hk hn
theorem CN.e :
  CN lo f a n c y x b m p h=br (decide (x<y)) (As x n (eO a λv=>eO (ld h v.1 (v.2+x.toNat) 0 6) λv=>eC v λv l=>eI .i64 v λv=>eC l λl o=>eI .i64 l λl=>eC o λo s=>eI .i64 o λo=>eC s λs z=>eS 2 s λs u w=>eC z λz q=>eT z λz=>eC q λq g=>eBv q λq=>eN g (Al (Af lo 155 [AA v l o s u w z q,.agg [Iv 0,Iv 0,Iv 0,.sl 0 none 0 (some 0),.str ⟨⟨[]⟩⟩,.bool false]] h) λg i=>eB g (CN lo f a n c y (Ap (x+1)) b m p i) (Al (Af lo 134 [AA v l o s u w z q] i) λl o=>eB l (br (v==x) (CN lo f a n c y (Ap (x+1)) b m p o) (Ax o)) (Ax o))))) (br ((m:Int)==4) (BI h) (Ax h)) :=
 lE
theorem Gb {l:List V} (hk:(Al (Af h.length 156 [.sl 6 a n c,.fn m l] h) λo s=>eI .i64 o λo=>br (decide (o>=0)) (BI s) (Ax s))=some (v,h')) (hn:noId v=true:=by rfl) :
  Af lo 80 [.sl 6 a n c,.fn m l] h=some (v,h) :=
 eD Tryz.func80 hk hn
end
end Go.Proofs.YtmgopagfoemomaaGreat
