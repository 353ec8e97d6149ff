/- Part 3 of what is shown for the law Gw, whatever the input; no condition of its own. -/
import Derived.Test.YtmgopagfoemomaaGreatBGw2
set_option linter.unusedVariables false
set_option linter.unusedSimpArgs false
set_option linter.unnecessarySimpa false
set_option maxRecDepth 100000
namespace Go.Proofs.YtmgopagfoemomaaGreat.T
open Go
variable {h:Heap}{b n:Nat}
def Yz (P:Program) (g:TypeId->Bool):List Field->Nat->Nat->Bool
 | [],off,n=>Nat.beq off n
 | f :: fs,off,n=>match Nat.beq f.offset off&&g f.type with
  | true=>Yz P g fs (off+P.cellsOf f.type) n
  | false=>false
def Ol (P:Program):Nat->TypeId->Bool
 | 0,_=>false
 | n+1,t=>match P.underlying t with
  | some .bool=>Nat.beq (P.cellsOf t) 1
  | some (.int _)=>Nat.beq (P.cellsOf t) 1
  | some .string=>Nat.beq (P.cellsOf t) 1
  | some (.slice e)=>Nat.beq (P.cellsOf t) 1&&Nat.blt 0 (P.cellsOf e)&&Ol P n e
  | some (.struct fs)=>Yz P (Ol P n) fs.toList 0 (P.cellsOf t)
  | _=>false
def TVs (P:Program) (g:TypeId->List V->Prop):List Field->List V->Prop
 | [],xs=>xs = []
 | f :: fs,xs=>∃ ys zs,xs=ys++zs/\ys.length=P.cellsOf f.type/\g f.type ys/\TVs P g fs zs
def TV (P:Program) (h:Heap):Nat->TypeId->List V->Prop
 | 0,_,_=>False
 | n+1,t,xs=>match P.underlying t with
  | some .bool=>∃ b,xs = [.bool b]
  | some (.int k)=>∃ i,xs = [.int k i]/\(Lit.int k i).wf=true
  | some .string=>∃ s,xs = [.str s]/\s.size<=maxLen
  | some (.slice e)=>∃ a c rs,xs = [.sl (P.cellsOf e) a rs.length c]/\(rs.length<=maxLen/\∀ k,c=some k->rs.length<=k)/\(∀ row∈rs,row.length=P.cellsOf e/\TV P h n e row) /\
    (rs = []\/∃ b,a=some (b,0)/\Heap.rows? h b=some rs)
  | some (.struct fs)=>TVs P (TV P h n) fs.toList xs
  | _=>False
theorem Yc {h':Heap} (hp:h <+: h') {rs:List (List V)} (hb:Heap.rows? h b=some rs):Heap.rows? h' b=some rs:=by
 obtain ⟨t,rfl⟩:=hp;unfold Heap.rows? at hb ⊢;have hl:b<h.length:=by apply zcL;intro hle;rw[zbR hle] at hb;cases hb
 rw[zbn hl];exact hb
theorem TVs.imp {P:Program}{g g':TypeId->List V->Prop} (hg:∀ t xs,g t xs->g' t xs):∀ {fs:List Field}{xs:List V},TVs P g fs xs->TVs P g' fs xs
 | [],xs,h=>h
 | f :: fs,xs,⟨ys,zs,h1,h2,h3,h4⟩=>⟨ys,zs,h1,h2,hg _ _ h3,TVs.imp hg h4⟩
theorem TV.mono {P:Program}{h h':Heap} (hp:h <+: h'):∀ (n:Nat) (t:TypeId) (xs:List V),TV P h n t xs->TV P h' n t xs
 | 0,_,_,hx=>hx
 | n+1,t,xs,hx=>by
  simp only[TV] at hx ⊢;split at hx
  ·exact hx
  ·exact hx
  ·exact hx
  ·obtain ⟨a,c,rs,h1,h2,h3,h4⟩:=hx;exact ⟨a,c,rs,h1,h2,λrow hr=>⟨(h3 row hr).1,TV.mono hp n _ _ (h3 row hr).2⟩,h4.imp id λ⟨b,h5,h6⟩=>⟨b,h5,Yc hp h6⟩⟩
  ·exact TVs.imp (λt xs=>TV.mono hp n t xs) hx
  ·exact hx
theorem SP {xs ys:List V} (h1:Dg xs=true) (h2:Dg ys=true):Dg (xs++ys)=true:=by
 induction xs with
 | nil=>exact h2
 | cons x r ih =>
  simp only[zbT,Dg] at h1 ⊢;split at h1
  ·exact ih h1
  ·cases h1
theorem TVs.firm {P:Program}{g:TypeId->List V->Prop} (hg:∀ t xs,g t xs->Dg xs=true):∀ {l:List Field}{xs:List V},TVs P g l xs->Dg xs=true
 | [],xs,h=>by simp only[TVs] at h;subst h;rfl
 | f :: l,xs,⟨ys,zs,e,_,h3,h4⟩=>by subst e;exact SP (hg _ _ h3) (TVs.firm hg h4)
theorem TV.firm {P:Program}{h:Heap}:∀ (n:Nat) (t:TypeId) (xs:List V),TV P h n t xs->Dg xs=true
 | 0,_,_,hx=>hx.elim
 | n+1,t,xs,hx=>by
  simp only[TV] at hx;split at hx
  ·obtain ⟨b,rfl⟩:=hx;rfl
  ·obtain ⟨i,rfl,_⟩:=hx;rfl
  ·obtain ⟨s,rfl,_⟩:=hx;rfl
  ·obtain ⟨a,c,rs,rfl,_⟩:=hx;rfl
  ·exact TVs.firm (λt xs=>TV.firm n t xs) hx
  ·exact hx.elim
structure Imp (W:World) (ρ:Rho) (h:Heap):Prop where
 rel:HRel ρ h W
 ro:∀ b,b<h.length->BM h b\/PP h b
theorem VF {k:Blk} (hb:b<h.length) (hd:BM h b):BM (h ++ [k]) b:=by unfold BM at *;rw[zbn hb];exact hd
theorem Yx {k:Blk} (hb:b<h.length) (hd:PP h b):PP (h ++ [k]) b:=by obtain ⟨R,e,rs,h1⟩:=hd;exact ⟨R,e,rs,by rw[zbn hb];exact h1⟩
theorem Imp.lay {W:World}{ρ:Rho} (hi:Imp W ρ h) (k:Blk) (e:E) (hlt:e.r<W.heap.size) (hk:BR ρ e k W) (hro:k = .dead\/∃ R e rs,k = .rows R e true rs) :
  Imp W (ρ.set h.length e) (h ++ [k]):=by
 have hle:Rle ρ (ρ.set h.length e):=Rho.set_le hi.rel.fresh;have hnew:BM (h ++ [k]) h.length\/PP (h ++ [k]) h.length:=by
  rcases hro with rfl | ⟨R,t,rs,rfl⟩
  ·exact .inl (by simp[BM])
  ·exact .inr ⟨R,t,rs,by simp⟩
 have hall:∀ b,b<(h ++ [k]).length->BM (h ++ [k]) b\/PP (h ++ [k]) b:=λb hb=>by
  by_cases hx:b=h.length
  ·subst hx;exact hnew
  ·have:b<h.length:=by simp at hb;omega
   exact (hi.ro b this).imp (VF this) (Yx this)
 have hdom:∀ b e',(ρ.set h.length e) b=some e'->b<(h ++ [k]).length/\e'.r<W.heap.size:=λb e' hb=>by
  by_cases hx:b=h.length
  ·subst hx;rw[Rho.set_same] at hb;injection hb with hb;subst hb;exact ⟨by simp,hlt⟩
  ·rw[Rho.set_other hx] at hb;have:=hi.rel.dom b e' hb;exact ⟨by simp;omega,by omega⟩
 refine ⟨⟨hdom,λb e' k' hb hk'=>?_,λb b' e1 e2 h1 h2 hr hne=>?_⟩,hall⟩
 ·by_cases hx:b=h.length
  ·subst hx;rw[Rho.set_same] at hb;injection hb with hb;subst hb;simp at hk';subst hk';exact BR.mono hle rfl hk
  ·rw[Rho.set_other hx] at hb;have:=(hi.rel.dom b e' hb).1;rw[zbn this] at hk';exact BR.mono hle rfl (hi.rel.blk b e' k' hb hk')
 ·have g1:=hall b (hdom b e1 h1).1;have g2:=hall b' (hdom b' e2 h2).1;rcases g1 with g1 | g1
  ·exact .inl g1
  ·rcases g2 with g2 | g2
   ·exact .inr (.inl g2)
   ·exact .inr (.inr ⟨g1,g2⟩)
section
variable {P:Program}{W:World}{H:Type}{enc:TypeId×Value->H}
theorem Qg {base:Nat}{a:Addr}{cs:List Value} (h:W.cells? base a n=some cs):cs.length=n/\∀ (i:Nat) (c:Value),cs[i]?=some c->W.cell? (a.add i)=some c:=by
 unfold World.cells? at h;split at h
 ·have hl:cs.length=n:=by simpa using mapM_some_length h
  refine ⟨hl,λi c hc=>?_⟩;have hi:i<n:=by have:=(zbp.1 hc).1;omega
  have:=mapM_some_get h i i (by simp[hi]);rw[this,hc]
 ·cases h
theorem V5 {a:Addr}{c:Value} (h:W.cell? a=some c):∃ cs el fr,W.heap[a.block]?=some (.cells cs el fr)/\a.spot=none/\cs[a.off]?=some c:=by
 unfold World.cell? at h;split at h
 ·rename_i cs el fr he
  split at h
  ·cases h
  ·rename_i hs;exact ⟨cs,el,fr,he,by simpa using hs,h⟩
 ·cases h
def zaN (P:Program) (W:World) (n:Nat) (t:TypeId) (cs:List Value):Prop :=
 ∀ ρ h,Imp W ρ h->∃ (ρ':Rho) (h':Heap) (xs:List V),Rle ρ ρ'/\h <+: h'/\Imp W ρ' h'/\VRs ρ' xs cs/\TV P h' n t xs
theorem RP {n:Nat}{t:TypeId}{R:Nat}:∀ (css:List (List Value)),(∀ cs∈css,cs.length=R/\zaN P W n t cs)->∀ ρ h,Imp W ρ h ->
  ∃ (ρ':Rho) (h':Heap) (rs:List (List V)),Rle ρ ρ'/\h <+: h'/\Imp W ρ' h'/\rs.length=css.length/\(∀ (i:Nat) (row:List V),rs[i]?=some row->∃ cs,css[i]?=some cs/\VRs ρ' row cs/\row.length=R/\TV P h' n t row)
 | [],_,ρ,h,hi=>⟨ρ,h,[],Rle.refl _,zcT _,hi,rfl,λi row hr=>by simp at hr⟩
 | cs :: css,hc,ρ,h,hi=>by
  obtain ⟨ρ1,h1,xs,a1,a2,a3,a4,a5⟩:=(hc cs (by simp)).2 ρ h hi;obtain ⟨ρ2,h2,rs,b1,b2,b3,b4,b5⟩:=RP css (λc hcc=>hc c (by simp[hcc])) ρ1 h1 a3;refine ⟨ρ2,h2,xs :: rs,a1.trans b1,a2.trans b2,b3,by simp[b4],λi row hr=>?_⟩;cases i with
  | zero =>simp at hr;subst hr;exact ⟨cs,rfl,VRs.mono b1 _ _ a4,by rw[a4.length];exact (hc cs (by simp)).1,TV.mono b2 _ _ _ a5⟩
  | succ i =>simp at hr;obtain ⟨c,g1,g2⟩:=b5 i row hr;exact ⟨c,by simpa using g1,g2⟩
theorem Ob {n:Nat}{cs:List Value}:∀ (fs:List Field) (off:Nat),Yz P (Ol P n) fs off cs.length=true->(∀ f∈fs,Ol P n f.type=true->zaN P W n f.type ((cs.drop f.offset).take (P.cellsOf f.type)))->∀ ρ h,Imp W ρ h ->
  ∃ (ρ':Rho) (h':Heap) (xs:List V),Rle ρ ρ'/\h <+: h'/\Imp W ρ' h'/\VRs ρ' xs (cs.drop off)/\TVs P (TV P h' n) fs xs/\off<=cs.length
 | [],off,hin,_,ρ,h,hi=>by simp only[Yz] at hin;have:=zbt hin;exact ⟨ρ,h,[],Rle.refl _,zcT _,hi,by rw[zcb (by omega)];exact VRs.nil,rfl,by omega⟩
 | f :: fs,off,hin,hl,ρ,h,hi=>by
  simp only[Yz] at hin;split at hin
  ·rename_i hc
   simp only[zbz] at hc;have ho:=zbt hc.1;obtain ⟨ρ1,h1,xs,a1,a2,a3,a4,a5⟩:=hl f (by simp) hc.2 ρ h hi;obtain ⟨ρ2,h2,ys,b1,b2,b3,b4,b5,b6⟩:=Ob fs (off+P.cellsOf f.type) hin (λg hg=>hl g (by simp[hg])) ρ1 h1 a3;rw[ho] at a4;have hlen:=a4.length;refine ⟨ρ2,h2,xs++ys,a1.trans b1,a2.trans b2,b3,?_,⟨xs,ys,rfl,?_,TV.mono b2 _ _ _ a5,b5⟩,by omega⟩
   ·have:=(VRs.mono b1 _ _ a4).append b4;rwa [<- zcv,zbZ] at this
   ·rw[hlen];simp;omega
  ·cases hin
theorem za7:∀ (n:Nat) (t:TypeId),Ol P n t=true->∀ (fuel:Nat) (cs:List Value) (x:DataW H×List MemPlace),DataW.trod enc P W 0 (λ_=>true) true fuel t cs=some x ->
  (∀ a l c,Value.slice (some a) l c∈cs->0<W.heap.size)->zaN P W n t cs:=by
 intro n;induction n with
 | zero=>intro t h;simp[Ol] at h
 | succ n ih =>
  intro t hin fuel cs x hx hpos ρ h hi;simp only[Ol] at hin;split at hin
  ·rename_i hu
   obtain ⟨b,rfl,_⟩:=DataW.trod_bool hu hx;exact ⟨ρ,h,[.bool b],Rle.refl _,zcT _,hi,VRs.cons VR.bool' VRs.nil,by simp only[TV,hu];exact ⟨b,rfl⟩⟩
  ·rename_i k hu
   obtain ⟨i,rfl,_,hw⟩:=DataW.trod_int hu hx;exact ⟨ρ,h,[.int k i],Rle.refl _,zcT _,hi,VRs.cons VR.int' VRs.nil,by simp only[TV,hu];exact ⟨i,rfl,hw⟩⟩
  ·rename_i hu
   obtain ⟨s,rfl,_,hw⟩:=DataW.trod_string hu hx;exact ⟨ρ,h,[.str s],Rle.refl _,zcT _,hi,VRs.cons (by simp[VR]) VRs.nil,by simp only[TV,hu];exact ⟨s,rfl,hw⟩⟩
  ·rename_i e hu
   simp only[zbz] at hin;have hR:0<P.cellsOf e:=by have:=hin.1.2;simpa [zcN] using this
   rcases DataW.trod_slice hu hx with ⟨rfl,_⟩ | ⟨a,len,cap,elems,rest,m,rfl,rfl,_,_,hlc,hcm,hel,hg,hsp,_⟩
   ·exact ⟨ρ,h,[.sl (P.cellsOf e) none 0 (some 0)],Rle.refl _,zcT _,hi,VRs.cons (by simp[VR]) VRs.nil,by
     simp only[TV,hu];exact ⟨none,some 0,[],rfl,⟨zbN _,λ_ _=>zbN _⟩,λr hr=>(by cases hr),.inl rfl⟩⟩
   ·-- the rows
    have hrow:∀ i,i<len->∃ c y,W.cells? 0 (a.add (i*P.cellsOf e)) (P.cellsOf e)=some c/\DataW.trod enc P W 0 (λ_=>true) true m e c=some y:=λi hi'=>by have h1:=hg i hi';rw[zbD (by omega)] at h1;obtain ⟨c,h2,h3⟩:=Option.bind_eq_some_iff.1 h1;exact ⟨c,_,h2,h3⟩
    have hspare:∀ j,len+j<cap->∃ c,W.cells? 0 (a.add ((len+j)*P.cellsOf e)) (P.cellsOf e)=some c:=λj hj=>by obtain ⟨h0,h1⟩:=hsp rfl;have h1:=h1 j (by omega);rw[zbD (by omega)] at h1;obtain ⟨c,h2,_⟩:=Option.bind_eq_some_iff.1 h1;exact ⟨c,h2⟩
    by_cases hcap:cap=0
    ·-- no room at all
     subst hcap;have hl0:len=0:=by omega
     subst hl0;have hp:=hpos a 0 0 (by simp);have hi2:=hi.lay .dead ⟨0,0,P.cellsOf e,0,0⟩ hp trivial (.inl rfl);refine ⟨_,_,[.sl (P.cellsOf e) (some (h.length,0)) 0 (some 0)],Rho.set_le hi.rel.fresh,⟨_,rfl⟩,hi2,VRs.cons ?_ VRs.nil,?_⟩
     ·simp only[VR];exact ⟨_,a,0,Rho.set_same _ _ _,rfl,rfl,.inl rfl,zbo _,λy hy=>by injection hy,λhc=>by cases hc⟩
     ·simp only[TV,hu];exact ⟨_,_,[],rfl,⟨zbN _,λ_ _=>zbN _⟩,λr hr=>(by cases hr),.inl rfl⟩
    ·-- the block
     have hblk:∃ carr el fr,W.heap[a.block]?=some (.cells carr el fr)/\a.spot=none:=by
      have:∃ c,W.cells? 0 (a.add (0*P.cellsOf e)) (P.cellsOf e)=some c:=by
       by_cases hl0:len=0
       ·have:=hspare 0 (by omega);rw[hl0] at this;simpa using this
       ·obtain ⟨c,_,h2,_⟩:=hrow 0 (by omega);exact ⟨c,h2⟩
      obtain ⟨c,hc⟩:=this;obtain ⟨c1,c2⟩:=Qg hc;have h0:c[0]?=some c[0]:=zbD (by omega);obtain ⟨carr,el,fr,h1,h2,_⟩:=V5 (c2 0 _ h0);have e1:(a.add (0*P.cellsOf e)).add 0=a:=by simp[Addr.add]
      rw[e1] at h1 h2;exact ⟨carr,el,fr,h1,h2⟩
     obtain ⟨carr,el,fr,hW,hspot⟩:=hblk;obtain ⟨r,o,sp⟩:=a;simp only at hW hspot;subst hspot;have hlt:r<W.heap.size:=by apply zcL;intro hle;rw[Array.getElem?_eq_none hle] at hW;cases hW
     have hcells:∀ i,i<len->∃ c y,c.length=P.cellsOf e/\(∀ (j:Nat) (v:Value),c[j]?=some v->carr[o+(i*P.cellsOf e+j)]?=some v)/\DataW.trod enc P W 0 (λ_=>true) true m e c=some y:=λi hi'=>by obtain ⟨c,y,h1,h2⟩:=hrow i hi';obtain ⟨c1,c2⟩:=Qg h1;refine ⟨c,y,c1,λj v hv=>?_,h2⟩;have:=c2 j v hv;rw[Fo,Fo,KF hW] at this;rw[<- this];congr 1;omega
     have hall:∃ css:List (List Value),css.length=len/\∀ i,i<len->∃ c y,css[i]?=some c/\c.length=P.cellsOf e/\(∀ (j:Nat) (v:Value),c[j]?=some v->carr[o+(i*P.cellsOf e+j)]?=some v)/\DataW.trod enc P W 0 (λ_=>true) true m e c=some y:=by refine ⟨(List.range len).map λi=>if hi':i<len then (hcells i hi').choose else [],by simp,λi hi'=>?_⟩;obtain ⟨y,h1,h2,h3⟩:=(hcells i hi').choose_spec;exact ⟨_,y,by simp[hi'],h1,h2,h3⟩
     obtain ⟨css,hcl,hcs⟩:=hall;obtain ⟨ρ1,h1,rs,a1,a2,a3,a4,a5⟩:=RP (P:=P) (W:=W) (n:=n) (t:=e) (R:=P.cellsOf e) css (λc hc=>by
      obtain ⟨i,hi'⟩:=zbC.1 hc;have hlt:=(zbp.1 hi').1;obtain ⟨c',y,g1,g2,g3,g4⟩:=hcs i (by omega);rw[hi'] at g1;injection g1 with g1;subst g1;exact ⟨g2,ih e hin.2 m c y g4 λ_ _ _ _=>by omega⟩) ρ h hi
     by_cases hl0:len=0
     ·have hrs:rs = []:=zbu (by omega);subst hrs;have hi2:=a3.lay .dead ⟨r,o,P.cellsOf e,0,0⟩ hlt trivial (.inl rfl);refine ⟨_,_,[.sl (P.cellsOf e) (some (h1.length,0)) 0 (some cap)],a1.trans (Rho.set_le a3.rel.fresh),a2.trans ⟨_,rfl⟩,hi2,VRs.cons ?_ VRs.nil,?_⟩
      ·simp only[VR];exact ⟨_,⟨r,o,none⟩,cap,Rho.set_same _ _ _,rfl,by rw[hl0],.inr (by simp),by omega,λy hy=>by injection hy,λhc=>by cases hc⟩
      ·simp only[TV,hu];exact ⟨_,_,[],rfl,⟨zbN _,λ_ _=>zbN _⟩,λr hr=>(by cases hr),.inl rfl⟩
     ·have hrl:rs.length=len:=by omega
      have hbr:BR ρ1 ⟨r,o,P.cellsOf e,rs.length,rs.length⟩ (.rows (P.cellsOf e) el true rs) W:=by
       refine ⟨carr,fr,?_,λh=>(by cases h),rfl,rfl,zbo _,?_,λi row hr=>?_,.inr ⟨rfl,λj c g1 g2 g3=>?_⟩⟩
       ·exact hW
       ·obtain ⟨c,y,g1,g2,g3,_⟩:=hcs (len - 1) (by omega);have:=g3 (P.cellsOf e - 1) _ (zbD (by omega));have hb:=(zcp.1 this).1;have e1:rs.length*P.cellsOf e=(len - 1)*P.cellsOf e+P.cellsOf e:=by rw[hrl,<- Nat.succ_mul];congr 1;omega
        show o+rs.length*P.cellsOf e<=carr.size;omega
       ·obtain ⟨c,g1,g2,g3,_⟩:=a5 i row hr;refine ⟨g3,λj v hv=>?_⟩;have hlt:=(zbp.1 hr).1;obtain ⟨c',y,k1,k2,k3,_⟩:=hcs i (by omega);rw[g1] at k1;injection k1 with k1;subst k1;obtain ⟨z,z1,z2⟩:=g2.get j v hv;exact ⟨z,k3 j z z1,z2⟩
       ·obtain ⟨q,hq⟩:∃ q,j=o+q:=⟨j - o,by simp only at g1;omega⟩;have hq2:q<rs.length*P.cellsOf e:=by simp only at g2;omega
        have hdiv:q / P.cellsOf e<rs.length:=(Nat.div_lt_iff_lt_mul hR).2 hq2;have hmod:q % P.cellsOf e<P.cellsOf e:=Nat.mod_lt _ hR;have hqq:q=q / P.cellsOf e*P.cellsOf e+q % P.cellsOf e:=by rw[Nat.mul_comm];exact (Nat.div_add_mod q _).symm
        obtain ⟨c0,k1,k2,k3,k4⟩:=a5 (q / P.cellsOf e) _ (zbD hdiv);obtain ⟨c',y,l1,l2,l3,_⟩:=hcs (q / P.cellsOf e) (by omega);rw[k1] at l1;injection l1 with l1;subst l1;have hz:=l3 (q % P.cellsOf e) _ (zbD (by omega));rw[<- hqq,<- hq,g3] at hz;injection hz with hz;rw[hz];exact CE k2 (TV.firm _ _ _ k4) _ (zbk _)
      have hi2:=a3.lay (.rows (P.cellsOf e) el true rs) ⟨r,o,P.cellsOf e,rs.length,rs.length⟩ hlt hbr (.inr ⟨_,_,_,rfl⟩);refine ⟨_,_,[.sl (P.cellsOf e) (some (h1.length,0)) rs.length (some cap)],a1.trans (Rho.set_le a3.rel.fresh),a2.trans ⟨_,rfl⟩,hi2,VRs.cons ?_ VRs.nil,?_⟩
      ·simp only[VR];exact ⟨_,⟨r,o,none⟩,cap,Rho.set_same _ _ _,rfl,by rw[hrl],.inr (by simp),by omega,λy hy=>by injection hy,λhc=>by cases hc⟩
      ·simp only[TV,hu];refine ⟨_,_,rs,rfl,⟨by omega,λk hk=>by injection hk with hk;omega⟩,λrow hr=>?_,.inr ⟨_,rfl,by simp[Heap.rows?]⟩⟩;obtain ⟨i,hi'⟩:=zbC.1 hr;obtain ⟨c,_,_,g3,g4⟩:=a5 i row hi';exact ⟨g3,TV.mono ⟨_,rfl⟩ _ _ _ g4⟩
  ·rename_i fs hu
   obtain ⟨xs,m,rfl,_,hl,hxl,hf⟩:=DataW.trod_struct hu hx;rw[<- hl] at hin;obtain ⟨ρ',h',ys,b1,b2,b3,b4,b5,_⟩:=Ob (P:=P) (W:=W) (n:=n) (cs:=cs) fs.toList 0 hin (λf hfm hft=>by
    obtain ⟨i,hi'⟩:=zbC.1 hfm;have hi2:fs[i]?=some f:=by simpa using hi'
    have h1:=hf i f hi2;have hlt:i<xs.length:=by have:=(zcp.1 hi2).1;omega
    rw[zbD hlt] at h1;exact ih f.type hft m _ _ h1 λa l c hm=>hpos a l c (zcJ (zcK hm))) ρ h hi
   exact ⟨ρ',h',ys,b1,b2,b3,by simpa using b4,by simp only[TV,hu];exact b5⟩
  ·cases hin
end
end Go.Proofs.YtmgopagfoemomaaGreat.T
namespace Go.Proofs.YtmgopagfoemomaaGreat.T
open Go Go.RowKit
variable {r:Reach}{base:Nat}{a:Addr}{n:Nat}{h:Heap}
section
variable {P:Program}{W:World}{H:Type}{enc:TypeId×Value->H}
theorem Vt {e:TypeId} (h:W.has P r base a e n):0<W.heap.size:=by obtain ⟨_,_,row,cells,hs,_⟩:=h;unfold World.shape? at hs;apply zcL;intro hle;rw[Array.getElem?_eq_none (by omega)] at hs;cases hs
theorem N1 {u:TypeId}{l c:Nat} (h:Cell.okWide P W r base u (.slice (some a) l c)):0<W.heap.size:=by
 have h2:Cell.ok P W r base u (.slice (some a) l c):=by unfold Cell.okWide at h;split at h<;>simp_all
 unfold Cell.ok at h2;split at h2<;>simp_all
 exact Vt h2.2.2
theorem SB {t:TypeId}{v:Value} (h:Value.okWide P W r base t v) {l c:Nat} (hm:Value.slice (some a) l c∈v.cells.toList):0<W.heap.size:=by
 have row:∀ cs:Array Value,Row.okWide P W r base t cs->v = .agg cs->0<W.heap.size:=λcs hr hv=>by subst hv;obtain ⟨ts,_,_,h3⟩:=hr;simp[Value.cells] at hm;obtain ⟨i,hi⟩:=Array.mem_iff_getElem?.1 hm;obtain ⟨u,_,hu⟩:=h3 i _ hi;exact N1 hu
 unfold Value.okWide at h;split at h
 ·obtain ⟨cs,hv,_,hr⟩:=h;exact row cs hr hv
 ·obtain ⟨cs,hv,_,hr⟩:=h;exact row cs hr hv
 ·cases v<;>simp[Value.cells] at hm
  ·obtain ⟨rfl,rfl,rfl⟩:=hm;exact N1 h
  ·exfalso;unfold Cell.okWide Cell.ok at h;split at h<;>(try split at h)<;>simp_all
def ArgV (P:Program) (h:Heap) (n:Nat) (t:TypeId) (x:V):Prop:=match P.underlying t with
 | some (.struct _)=>∃ xs,x = .agg xs/\TV P h n t xs
 | _=>TV P h n t [x]
theorem ArgV.mono {h h':Heap} (hp:h <+: h') {n:Nat}{t:TypeId}{x:V} (hx:ArgV P h n t x):ArgV P h' n t x:=by
 unfold ArgV at *
 split at hx
 ·obtain ⟨xs,h1,h2⟩:=hx;exact ⟨xs,h1,TV.mono hp _ _ _ h2⟩
 ·exact TV.mono hp _ _ _ hx
theorem lays_arg {t:TypeId}{v:Value}{d:DataW H}{p:List MemPlace} (hin:Ol P n t=true) (hok:Value.okWide P W r base t v)
  (h0:DataW.Trod enc P W 0 (λ_=>true) true t v d p) {ρ:Rho} (hi:Imp W ρ h):∃ (ρ':Rho) (h':Heap) (x:V),Rle ρ ρ'/\h <+: h'/\Imp W ρ' h'/\VR ρ' x v/\ArgV P h' n t x:=by
 obtain ⟨fuel,hf⟩:=h0;obtain ⟨ρ',h',xs,a1,a2,a3,a4,a5⟩:=za7 n t hin fuel _ _ hf (λa l c hm=>SB hok hm) ρ h hi;unfold Value.okWide at hok;cases hu:P.underlying t with
 | none =>
  cases n with
  | zero=>simp[Ol] at hin
  | succ n=>simp[Ol,hu] at hin
 | some td =>
  have one:(∀ fs,td ≠ .struct fs)->∃ x,xs = [x]/\VR ρ' x v:=λhns=>by
   cases n with
   | zero=>simp[Ol] at hin
   | succ n =>
    simp only[TV,hu] at a5;have hl:=a4.length;have hx:∃ x,xs = [x]:=by
     cases td<;>simp only at a5<;>(try exact a5.elim)
     ·obtain ⟨b,rfl⟩:=a5;exact ⟨_,rfl⟩
     ·obtain ⟨i,rfl,_⟩:=a5;exact ⟨_,rfl⟩
     ·obtain ⟨s,rfl,_⟩:=a5;exact ⟨_,rfl⟩
     ·obtain ⟨a,c,rs,rfl,_⟩:=a5;exact ⟨_,rfl⟩
     ·exact absurd rfl (hns _)
    obtain ⟨x,rfl⟩:=hx;refine ⟨x,rfl,?_⟩;have hns':∀ cs,v ≠ .agg cs:=λcs hv=>by
     subst hv;rw[hu] at hok;cases td<;>simp only[Ol,hu] at hin<;>(try cases hin)<;>simp[Cell.okWide,Cell.ok,hu] at hok
     exact absurd rfl (hns _)
    have hc:v.cells.toList = [v]:=by
     cases v<;>(try rfl)
     ·exact absurd rfl (hns' _)
    rw[hc] at a4;exact a4.uncons.1
  by_cases hs:∃ fs,td = .struct fs
  ·obtain ⟨fs,rfl⟩:=hs;rw[hu] at hok;obtain ⟨cs,rfl,_⟩:=hok;refine ⟨ρ',h',.agg xs,a1,a2,a3,?_,?_⟩
   ·simp only[VR];exact ⟨cs,rfl,by simpa [Value.cells] using a4⟩
   ·simp only[ArgV,hu];exact ⟨xs,rfl,a5⟩
  ·obtain ⟨x,rfl,hx⟩:=one λfs e=>hs ⟨fs,e⟩;refine ⟨ρ',h',x,a1,a2,a3,hx,?_⟩;unfold ArgV;rw[hu];split
   ·rename_i fs' he;injection he with he;exact absurd ⟨_,he⟩ hs
   ·exact a5
theorem imp_nil (W:World):Imp W (λ_=>none) [] :=
 ⟨⟨λb e h=>(by cases h),λb e k h=>(by cases h),λb b' e e' h=>(by cases h)⟩,λb hb=>by simp at hb⟩
theorem law_walk {call:Hv} (hS:SC P call) {f:FuncId}{args:List V}{h':Heap}{ρ:Rho} (hk:call h.length f args h=some (.bool true,h')) {cargs:Array Value} (hv:VRs ρ args cargs.toList) (hi:Imp W ρ h) :
  Calls P f cargs W λe w'=>e = .returned (.bool true)/\Below W.heap.size W w':=by
 refine Calls.mono (hS.calls hk (zbo _) hv hi.rel) ?_
 rintro e w' ⟨c,rfl,ρ',h1,h2,h3⟩
 simp only[VR] at h1;subst h1;exact ⟨rfl,⟨h3.os,h3.tape,h3.output,h3.size,λk hk=>h3.frame k hk λb e hb hle=>by
  have:=(hi.rel.dom b e hb).1;omega⟩⟩
end
end Go.Proofs.YtmgopagfoemomaaGreat.T
namespace Go.Proofs.YtmgopagfoemomaaGreat
open Go T


structure Ver where
 key:Int
 tag:Tag
 past:List Tag
 text:ByteArray
 gone:Bool
structure Node where
 store:List Ver
 wait:List Ver
structure Place where
 me:Int
 clock:Int
 chain:List Node
 log:List Ver
 got:List (List Ver)
 fell:Bool
structure Frame where
 fro:Int
 to:Int
 at':Int
 ver:Ver
abbrev za0 (ro:Bool):Nat:=bif ro then 202 else 36
abbrev UD (ro:Bool):Nat:=bif ro then 207 else 43
abbrev YO (ro:Bool):Nat:=bif ro then 194 else 26
abbrev Og (ro:Bool):Nat:=bif ro then 289 else 47
abbrev Ver.cs (v:Ver) (a:Pq) (c:Nq):List V := [Iv v.key,Iv v.tag.time,Iv v.tag.place,.sl 2 a v.past.length c,.str v.text,.bool v.gone]
abbrev RTags (ro:Bool):Rel (List Tag):=Sli ro 2 (za0 ro) (flat Tag.cs)
def RVer (ro:Bool):Rel Ver:=λh cs v F=>∃ s,cs = [Iv v.key,Iv v.tag.time,Iv v.tag.place,s,.str v.text,.bool v.gone]/\RTags ro h [s] v.past F
abbrev RVers (ro:Bool):Rel (List Ver):=Sli ro 6 (UD ro) (RVer ro)
abbrev RVss (ro:Bool):Rel (List (List Ver)):=Sli ro 1 (YO ro) (RVers ro)
def RNode (ro:Bool):Rel Node:=λh cs x F=>∃ s1 s2 F1 F2,cs = [s1,s2]/\F=F1++F2/\RVers ro h [s1] x.store F1/\RVers ro h [s2] x.wait F2
abbrev RNodes (ro:Bool):Rel (List Node):=Sli ro 2 (Og ro) (RNode ro)
def RPlace (ro:Bool):Rel Place:=λh cs p F=>∃ s1 s2 s3 F1 F2 F3,cs = [Iv p.me,Iv p.clock,s1,s2,s3,.bool p.fell]/\F=F1++(F2++F3)/\RNodes ro h [s1] p.chain F1/\RVers ro h [s2] p.log F2/\RVss ro h [s3] p.got F3
def We (ro:Bool):Rel Frame:=λh cs f F=>∃ vs,cs = Iv f.fro :: Iv f.to :: Iv f.at' :: vs/\RVer ro h vs f.ver F
theorem rtags_ok {ro:Bool}:(RTags ro).Ok:=Sli.ok CF
theorem rver_ok {ro:Bool}:(RVer ro).Ok :=
 ⟨λh h' cs x F ⟨s,h1,h2⟩ hb=>⟨s,h1,rtags_ok.fr _ _ _ _ _ h2 hb⟩,λh cs x F ⟨s,_,h2⟩=>rtags_ok.bd _ _ _ _ h2⟩
theorem rvers_ok {ro:Bool}:(RVers ro).Ok:=Sli.ok rver_ok
theorem rvss_ok {ro:Bool}:(RVss ro).Ok:=Sli.ok rvers_ok
theorem rnode_ok {ro:Bool}:(RNode ro).Ok:=by
 refine ⟨?_,?_⟩
 ·rintro h h' cs x F ⟨s1,s2,F1,F2,h1,rfl,h2,h3⟩ hb
  exact ⟨s1,s2,F1,F2,h1,rfl,rvers_ok.fr _ _ _ _ _ h2 λb hm=>hb b (by simp[hm]),rvers_ok.fr _ _ _ _ _ h3 λb hm=>hb b (by simp[hm])⟩
 ·rintro h cs x F ⟨s1,s2,F1,F2,h1,rfl,h2,h3⟩ b hb
  rw[zbl] at hb;exact hb.elim (rvers_ok.bd _ _ _ _ h2 b) (rvers_ok.bd _ _ _ _ h3 b)
theorem rnodes_ok {ro:Bool}:(RNodes ro).Ok:=Sli.ok rnode_ok
theorem rplace_ok {ro:Bool}:(RPlace ro).Ok:=by
 refine ⟨?_,?_⟩
 ·rintro h h' cs x F ⟨s1,s2,s3,F1,F2,F3,h1,rfl,h2,h3,h4⟩ hb
  exact ⟨s1,s2,s3,F1,F2,F3,h1,rfl,rnodes_ok.fr _ _ _ _ _ h2 λb hm=>hb b (by simp[hm]),rvers_ok.fr _ _ _ _ _ h3 λb hm=>hb b (by simp[hm]),rvss_ok.fr _ _ _ _ _ h4 λb hm=>hb b (by simp[hm])⟩
 ·rintro h cs x F ⟨s1,s2,s3,F1,F2,F3,h1,rfl,h2,h3,h4⟩ b hb
  rw[zbl,zbl] at hb;rcases hb with hb | hb | hb
  ·exact rnodes_ok.bd _ _ _ _ h2 b hb
  ·exact rvers_ok.bd _ _ _ _ h3 b hb
  ·exact rvss_ok.bd _ _ _ _ h4 b hb
theorem rframe_ok {ro:Bool}:(We ro).Ok :=
 ⟨λh h' cs x F ⟨s,h1,h2⟩ hb=>⟨s,h1,rver_ok.fr _ _ _ _ _ h2 hb⟩,λh cs x F ⟨s,_,h2⟩=>rver_ok.bd _ _ _ _ h2⟩
section
variable {ro:Bool}{h:Heap}{F:List Nat}{a:Pq}{c:Nq}{n k:Nat}
theorem RTags.get {l:List Tag} (hs:RTags ro h [.sl 2 a n c] l F) (hk:k<l.length):∃ o,a=some o/\ld h o.1 (o.2+k) 0 2=some [Iv l[k].time,Iv l[k].place]:=by obtain ⟨o,row,G,h1,h2,⟨rfl,_⟩,_⟩:=hs.read hk;exact ⟨o,h1,by rw[h2];rfl⟩
theorem RVer.form {row:List V}{v:Ver} (hv:RVer ro h row v F):∃ s a c,row = [Iv v.key,Iv v.tag.time,Iv v.tag.place,s,.str v.text,.bool v.gone] /\
  (∀ {R':Type} (K:Pq->Nat->Nq->Option R'),eS 2 s K=K a v.past.length c)/\RTags ro h [.sl 2 a v.past.length c] v.past F:=by
 obtain ⟨s,rfl,hp⟩:=hv;obtain ⟨a,c,es,hp2⟩:=hp.form;exact ⟨s,a,c,rfl,es,hp2⟩
theorem RVers.get {l:List Ver} (hs:RVers ro h [.sl 6 a n c] l F) (hk:k<l.length):∃ o s a' c' G,a=some o /\
  ld h o.1 (o.2+k) 0 6=some [Iv l[k].key,Iv l[k].tag.time,Iv l[k].tag.place,s,.str l[k].text,.bool l[k].gone] /\
  (∀ {R':Type} (K:Pq->Nat->Nq->Option R'),eS 2 s K=K a' l[k].past.length c')/\RTags ro h [.sl 2 a' l[k].past.length c'] l[k].past G/\(∀ b∈G,b∈F):=by
 obtain ⟨o,row,G,h1,h2,hv,hG,_⟩:=hs.read hk;obtain ⟨s,a',c',rfl,es,hp⟩:=hv.form;exact ⟨o,s,a',c',G,h1,by rw[h2];rfl,es,hp,hG⟩
theorem RVss.get {l:List (List Ver)} (hs:RVss ro h [.sl 1 a n c] l F) (hk:k<l.length):∃ o s a' c' G,a=some o/\ld h o.1 (o.2+k) 0 1=some [s] /\
  (∀ {R':Type} (K:Pq->Nat->Nq->Option R'),eS 6 s K=K a' l[k].length c')/\RVers ro h [.sl 6 a' l[k].length c'] l[k] G/\(∀ b∈G,b∈F):=by
 obtain ⟨o,row,G,h1,h2,hv,hG,_⟩:=hs.read hk;have:∃ s,row = [s]:=by obtain ⟨R',a',c',e,_⟩:=hv;exact ⟨_,e⟩
 obtain ⟨s,rfl⟩:=this;obtain ⟨a',c',es,hp⟩:=hv.form;exact ⟨o,s,a',c',G,h1,by rw[h2];rfl,es,hp,hG⟩
theorem RNode.form {row:List V}{x:Node} (hv:RNode ro h row x F):∃ s1 s2 a1 c1 a2 c2 F1 F2,row = [s1,s2]/\F=F1++F2 /\
  (∀ {R':Type} (K:Pq->Nat->Nq->Option R'),eS 6 s1 K=K a1 x.store.length c1)/\(∀ {R':Type} (K:Pq->Nat->Nq->Option R'),eS 6 s2 K=K a2 x.wait.length c2) /\
  RVers ro h [.sl 6 a1 x.store.length c1] x.store F1/\RVers ro h [.sl 6 a2 x.wait.length c2] x.wait F2:=by
 obtain ⟨s1,s2,F1,F2,rfl,rfl,h1,h2⟩:=hv;obtain ⟨a1,c1,e1,g1⟩:=h1.form;obtain ⟨a2,c2,e2,g2⟩:=h2.form;exact ⟨s1,s2,a1,c1,a2,c2,F1,F2,rfl,rfl,e1,e2,g1,g2⟩
theorem RNodes.get {l:List Node} (hs:RNodes ro h [.sl 2 a n c] l F) (hk:k<l.length):∃ o s1 s2 a1 c1 a2 c2 F1 F2,a=some o/\ld h o.1 (o.2+k) 0 2=some [s1,s2]/\ld h o.1 (o.2+k) 0 1=some [s1]/\ld h o.1 (o.2+k) 1 1=some [s2] /\
  (∀ {R':Type} (K:Pq->Nat->Nq->Option R'),eS 6 s1 K=K a1 l[k].store.length c1)/\(∀ {R':Type} (K:Pq->Nat->Nq->Option R'),eS 6 s2 K=K a2 l[k].wait.length c2) /\
  RVers ro h [.sl 6 a1 l[k].store.length c1] l[k].store F1/\RVers ro h [.sl 6 a2 l[k].wait.length c2] l[k].wait F2/\(∀ b∈F1,b∈F)/\(∀ b∈F2,b∈F):=by
 obtain ⟨o,row,G,h1,h2,hv,hG,_⟩:=hs.read hk;obtain ⟨s1,s2,a1,c1,a2,c2,F1,F2,rfl,rfl,e1,e2,g1,g2⟩:=hv.form;exact ⟨o,s1,s2,a1,c1,a2,c2,F1,F2,h1,by rw[h2];rfl,by rw[h2];rfl,by rw[h2];rfl,e1,e2,g1,g2,λb hb=>hG b (zbM _ hb),λb hb=>hG b (zbO _ hb)⟩
theorem RPlace.form {row:List V}{p:Place} (hv:RPlace ro h row p F):∃ s1 s2 s3 a1 c1 a2 c2 a3 c3 F1 F2 F3,row = [Iv p.me,Iv p.clock,s1,s2,s3,.bool p.fell]/\F=F1++(F2++F3) /\
  (∀ {R':Type} (K:Pq->Nat->Nq->Option R'),eS 2 s1 K=K a1 p.chain.length c1)/\(∀ {R':Type} (K:Pq->Nat->Nq->Option R'),eS 6 s2 K=K a2 p.log.length c2) /\
  (∀ {R':Type} (K:Pq->Nat->Nq->Option R'),eS 1 s3 K=K a3 p.got.length c3) /\
  RNodes ro h [.sl 2 a1 p.chain.length c1] p.chain F1/\RVers ro h [.sl 6 a2 p.log.length c2] p.log F2/\RVss ro h [.sl 1 a3 p.got.length c3] p.got F3:=by
 obtain ⟨s1,s2,s3,F1,F2,F3,rfl,rfl,h1,h2,h3⟩:=hv;obtain ⟨a1,c1,e1,g1⟩:=h1.form;obtain ⟨a2,c2,e2,g2⟩:=h2.form;obtain ⟨a3,c3,e3,g3⟩:=h3.form;exact ⟨s1,s2,s3,a1,c1,a2,c2,a3,c3,F1,F2,F3,rfl,rfl,e1,e2,e3,g1,g2,g3⟩
end
theorem CL {α T:Type}{p:α->Bool}{l:List α} (L:Nat->Option T) (no yes:Option T)
  (step:∀ i (hi:i<l.length),L i=if p l[i]=true then L (i+1) else no) (done:L l.length=yes):L 0=if l.all p=true then yes else no:=by
 have loop:∀ m i,m+i=l.length->L i=if (l.drop i).all p=true then yes else no:=by
  intro m;induction m with
  | zero =>
   intro i hi;have:i=l.length:=by omega
   subst this;rw[done,List.drop_length];simp
  | succ m ih =>
   intro i hi;have hlt:i<l.length:=by omega
   rw[step i hlt,zbH hlt,List.all_cons];cases hp:p l[i]
   ·simp
   ·simpa using ih (i+1) (by omega)
 exact loop l.length 0 (by omega)


section
variable {lo:Nat}{ro:Bool}{h:Heap}{F:List Nat}{a:Pq}{c:Nq}{left:Int}
end
def Ct (l:List Ver):Prop:=l.length<=1048576/\∀ v∈l,v.past.length<=1048576/\v.text.size<=1048576
def zaU (l:List (List Ver)):Prop:=l.length<=1048576/\∀ v∈l,Ct v
def CD (l:List Node):Prop:=l.length<=1048576/\∀ x∈l,Ct x.store/\Ct x.wait
def Dt (p:Place):Prop:=CD p.chain/\Ct p.log/\zaU p.got
section
variable {lo:Nat}{ro:Bool}{h:Heap}{F:List Nat}{a:Pq}{c:Nq}
abbrev Place.cs (p:Place) (a1:Pq) (c1:Nq) (a2:Pq) (c2:Nq) (a3:Pq) (c3:Nq):List V :=
 [Iv p.me,Iv p.clock,.sl 2 a1 p.chain.length c1,.sl 6 a2 p.log.length c2,.sl 1 a3 p.got.length c3,.bool p.fell]
end


theorem IE {T:Type}{n:Nat} (L:Nat->Option T) (step:∀ i,i<n->L i=L (i+1)):L 0=L n:=by
 have loop:∀ i,i<=n->L 0=L i:=by
  intro i;induction i with
  | zero=>intro _;rfl
  | succ i ih=>intro hi;rw[ih (by omega),step i (by omega)]
 exact loop n (zbo n)
section
variable {lo:Nat}{ro ro':Bool}{h:Heap}{F F':List Nat}{a a':Pq}{c c':Nq}
theorem Kl (x:Int):(x==x)=true:=by simp
theorem zaI (x:Bool):(x==x)=true:=by simp
theorem za4 (x:List UInt8):(x==x)=true:=by simp
abbrev Frame.cs (f:Frame) (a:Pq) (c:Nq):List V := Iv f.fro :: Iv f.to :: Iv f.at' :: f.ver.cs a c
end
def zaX {α:Type} (f:Int->α->α) (w:α->Nat):List α->Int->List α
 | [],_ => []
 | x :: r,k=>f k x :: zaX f w r (k+w x)
def Yp {α:Type} (w:α->Nat) (l:List α):Nat:=(l.map w).sum


abbrev zbg:Int:=1099511627776
abbrev Zl (_:Tag):Nat:=2
def zam (v:Ver):Nat:=5+Yp Zl v.past
def TD (l:List Ver):Nat:=Yp zam l
def XV (x:Node):Nat:=TD x.store+TD x.wait
section
variable {lo:Nat}{h:Heap}{F:List Nat}{a:Pq}{c:Nq}{k:Int}
def zaQ (l:List (List Ver)):Nat:=Yp TD l
def XU (l:List Node):Nat:=Yp XV l
end


section
variable {lo:Nat}{h:Heap}{F:List Nat}{a:Pq}{c:Nq}{k:Int}
def XT (p:Place):Nat:=XU p.chain+TD p.log+zaQ p.got
theorem RPlace.cells {ro:Bool}{p:Place}{a1 a2 a3:Pq}{c1 c2 c3:Nq} (h1:RPlace ro h (p.cs a1 c1 a2 c2 a3 c3) p F) :
  ∃ F1 F2 F3,F=F1++(F2++F3)/\RNodes ro h [.sl 2 a1 p.chain.length c1] p.chain F1/\RVers ro h [.sl 6 a2 p.log.length c2] p.log F2/\RVss ro h [.sl 1 a3 p.got.length c3] p.got F3:=by
 obtain ⟨_,_,_,F1,F2,F3,e1,rfl,r1,r2,r3⟩:=h1;injection e1 with _ e1;injection e1 with _ e1;injection e1 with x1 e1;injection e1 with x2 e1;injection e1 with x3 e1;subst x1;subst x2;subst x3;exact ⟨F1,F2,F3,rfl,r1,r2,r3⟩
end


variable {s:ByteArray}{l:List Tag}{v:Ver}{p q:List Tag}
def Lm (b:UInt8):Bool:=An b.toNat 33 126
def DR (s:ByteArray):Bool:=s.data.toList.all Lm&&decide ((s.size:Int)<=8)
def Bb (p:List Tag):Bool:=decide (p.length=4)&&p.all λt=>A6 t.time t.place
def B4 (p q:List Tag):Bool:=(p.zip q).all λx => !GA x.2.time x.2.place x.1.time x.1.place
def DT (p:List Tag):Int:=p.foldl (λm t=>if t.time>m then t.time else m) 0
def DY (s:ByteArray):Bool:=decide (s.size=0)
def E5 (v:Ver):Bool:=An v.key 0 3&&DR v.text&&(!v.gone || DY v.text)&&Bb v.past
def Ba (v:Ver):Bool:=E5 v&&A6 v.tag.time v.tag.place&&decide (DT v.past<v.tag.time)
section
variable {lo:Nat}{ro ro':Bool}{h:Heap}{F F':List Nat}{a a':Pq}{c c':Nq}
theorem Rx {i:Nat} (hi:i<s.data.toList.length):O9 s (i:Nat)=some (s.data.toList[i]):=by
 unfold O9;have:i<s.size:=by simpa using hi
 simp[this];rfl
theorem IO (hn:s.size<=1048576):Ae lo 55 [.str s] h=some (.bool (DR s),h):=by
 refine Ox (h':=h) ?_;have hl:s.data.toList.length=s.size:=by simp
 refine (CL (p:=Lm) (l:=s.data.toList) (λi=>Cj (List.length h) s false (i:Nat) h) (some (.bool false,h)) (some (.bool (decide ((s.size:Int)<=8)),h)) (λi hi=>?_) ?_).trans ?_
 ·rw[Cj.e,Ak (by omega)];simp only[Rx hi,Ag,At (show i<9223372036854775807 by omega)];unfold Lm An;generalize s.data.toList[i]=b;by_cases h1:(b.toNat:Int)<33
  ·rw[Ak h1,if_neg (by simp;omega)]
  ·rw[Aj h1];by_cases h2:(b.toNat:Int)>126
   ·rw[Ak h2,if_neg (by simp;omega)]
   ·rw[Aj h2,if_pos (by simp;omega)]
 ·rw[Cj.e,Aj (by omega)];by_cases h3:(s.size:Int)<=8
  ·rw[Ak h3,decide_eq_true h3]
  ·rw[Aj h3,decide_eq_false h3]
 ·unfold DR;cases s.data.toList.all Lm<;>simp
theorem Ul (hn:s.size<=1048576):Ae lo 203 [.str s] h=some (.bool (DR s),h):=by
 refine Rq (h':=h) ?_;have hl:s.data.toList.length=s.size:=by simp
 refine (CL (p:=Lm) (l:=s.data.toList) (λi=>C9 (List.length h) s false (s.size:Nat) (i:Nat) h) (some (.bool false,h)) (some (.bool (decide ((s.size:Int)<=8)),h)) (λi hi=>?_) ?_).trans ?_
 ·have hb:s.data.toList[i].toNat<256:=s.data.toList[i].toNat_lt;rw[C9.e,Ak (by omega)];simp only[Rx hi,Ag,At (show i<9223372036854775807 by omega),FI,Ac,Az];rw[wr (by omega) (by omega)];unfold Lm;cases An (s.data.toList[i].toNat:Int) 33 126<;>simp
 ·rw[C9.e,Aj (by omega)];by_cases h3:(s.size:Int)<=8
  ·rw[Ak h3,decide_eq_true h3]
  ·rw[Aj h3,decide_eq_false h3]
 ·unfold DR;cases s.data.toList.all Lm<;>simp
theorem IP (hs:RTags ro h [.sl 2 a l.length c] l F) (hn:l.length<=1048576):Ae lo 56 [.agg [.sl 2 a l.length c]] h=some (.bool (Bb l),h):=by
 refine OF (h':=h) ?_;refine (CL (p:=λt:Tag=>A6 t.time t.place) (l:=l) (λi=>Cm (List.length h) false (i:Nat) a l.length c h) (some (.bool false,h)) (some (.bool (decide (l.length=4)),h)) (λi hi=>?_) ?_).trans ?_
 ·obtain ⟨o,rfl,ho⟩:=hs.get hi;rw[Cm.e,Ak (by omega),Ad hi];simp only[Ag,Bm,ho,Ab,Aa,Af,LS,Ac,Az,At (show i<9223372036854775807 by omega)];cases A6 l[i].time l[i].place<;>simp
 ·rw[Cm.e,Aj (by omega)];by_cases h3:l.length=4
  ·rw[h3];rfl
  ·rw[show ((l.length:Int)==4)=false by simp;omega,Ay,decide_eq_false h3]
 ·unfold Bb;cases l.all (λt:Tag=>A6 t.time t.place)<;>simp
theorem QQ {g:Nat}{cl:List V}{p:Tag->Bool} (hs:RTags ro h [.sl 2 a l.length c] l F) (hn:l.length<=1048576)
  (hp:∀ lo d,d∈l->Ae lo g (Dy [.agg [Iv d.time,Iv d.place]] cl) h=some (.bool (p d),h)) :
  Ae lo 214 [.sl 2 a l.length c,.fn g cl] h=some (Iv (Cd p l 0),h):=by
 have loop:∀ m k x,m+k=l.length->AK (List.length h) a l.length c g cl x (l.length:Nat) (k:Nat) h=some (Iv (Cd p (l.drop k) k),h):=by
  intro m;induction m with
  | zero =>intro k x hk;rw[AK.e,Aj (by omega),show k=l.length by omega];simp[Cd]
  | succ m ih =>
   intro k x hk;have hlt:k<l.length:=by omega
   obtain ⟨o,rfl,ho⟩:=hs.get hlt;rw[AK.e,Ak (by omega),Ad (by omega)];simp only[Ag,Bm,ho,Ab,Aa,Af];rw[hp (List.length h) l[k] (by simp),Ac,Az,zbH hlt];simp only[Cd];cases p l[k]
   ·simp only[Ay,cond_false];rw[At (by omega)];exact ih (k+1) _ (by omega)
   ·simp
 refine EX (h':=h) ?_;simpa using loop l.length 0 0 (by omega)
theorem Ka (hs:RTags ro h [.sl 2 a l.length c] l F) (hn:l.length<=1048576):Ae lo 71 [.agg [.sl 2 a l.length c]] h=some (.bool (Bb l),h):=by
 refine Rs (h':=h) ?_;rw[Ev (h':=h) (v := .bool (l.any λt => !A6 t.time t.place)) (by
  rw[QQ hs hn (p:=λt => !A6 t.time t.place) (λlo d _=>OK (h':=h) (by rw[PS];simp only[Ac,Az];cases A6 d.time d.place<;>rfl))];simp only[Ac,Aa,OZ];rw[IH];simp)]
 unfold Bb;by_cases h3:l.length=4
 ·rw[show ((l.length:Int)==4)=true by simp;omega,Ap,decide_eq_true h3];simp only[Ac,Az];rw[List.any_eq_not_all_not];simp only[Bool.not_not,zbK];cases l.all (λt:Tag=>A6 t.time t.place)<;>rfl
 ·rw[show ((l.length:Int)==4)=false by simp;omega,Ay,decide_eq_false h3];rfl
theorem Oc (hs:RTags ro h [.sl 2 a l.length c] l F) (hn:l.length<=1048576):Ae lo 118 [.agg [.sl 2 a l.length c]] h=some (Iv (DT l),h):=by
 have loop:∀ m k x,m+k=l.length->BG (List.length h) x a l.length c (l.length:Nat) (k:Nat) h=some (Iv ((l.drop k).foldl (λm t=>if t.time>m then t.time else m) x),h):=by
  intro m;induction m with
  | zero =>intro k x hk;rw[BG.e,Aj (by omega),show k=l.length by omega];simp
  | succ m ih =>
   intro k x hk;have hlt:k<l.length:=by omega
   obtain ⟨o,rfl,ho⟩:=hs.get hlt;rw[BG.e,Ak (by omega),Ad (by omega)];simp only[Ag,Bm,ho,Ab,Aa,Af,At (show k<9223372036854775807 by omega)];rw[ih (k+1) _ (by omega),zbH hlt,zb3]
 refine LB (h':=h) ?_;exact loop l.length 0 0 (by omega)
theorem GI:(s.toList==(ByteArray.mk #[]).toList)=DY s:=by
 unfold DY;rw[zcq];rw[zcA,zcA];simp only[beq_iff_eq,decide_eq_true_eq];constructor
 ·intro h;have:=congrArg List.length h;simpa using this
 ·intro h;exact zbu (by simpa using h)
theorem Mc (hs:RTags ro h [.sl 2 a v.past.length c] v.past F) (hn:v.past.length<=1048576/\v.text.size<=1048576):Ae lo 116 [.agg (v.cs a c)] h=some (.bool (E5 v),h):=by refine Lw (h':=h) ?_;simp only[VI,Ul hn.2,Ka hs hn.1,GI,Ac,Az];unfold E5;cases An v.key 0 3<;>cases DR v.text<;>cases v.gone<;>cases DY v.text<;>cases Bb v.past<;>rfl
theorem Lj (hs:RTags ro h [.sl 2 a v.past.length c] v.past F) (hn:v.past.length<=1048576/\v.text.size<=1048576):Ae lo 134 [.agg (v.cs a c)] h=some (.bool (Ba v),h):=by
 refine Tu (h':=h) ?_;simp only[Mc hs hn,PS,Oc hs hn.1,Ac,Az,Aa];unfold Ba;by_cases hl:DT v.past<v.tag.time
 ·rw[Ak hl,decide_eq_true hl];cases E5 v<;>cases A6 v.tag.time v.tag.place<;>rfl
 ·rw[Aj hl,decide_eq_false hl];cases E5 v<;>cases A6 v.tag.time v.tag.place<;>rfl
theorem PV {x:Int}:∀ {l:List Tag}{m:Int},l.foldl (λm t=>if t.time>m then t.time else m) m<x<->m<x/\∀ t∈l,t.time<x
 | [],m=>by simp
 | t :: l,m=>by
  rw[zb3,PV];simp only[zbx,forall_eq_or_imp];constructor
  ·rintro ⟨h1,h2⟩
   refine ⟨?_,?_,h2⟩<;>(split at h1<;>omega)
  ·rintro ⟨h1,h2,h3⟩
   refine ⟨?_,h3⟩;split<;>omega
theorem latest_lt {x:Int}:DT p<x<->0<x/\∀ t∈p,t.time<x:=PV
theorem DW {t p:Int} (h:A6 t p=true):0<=t/\t<=999/\0<=p/\p<=2:=by simp[A6,An] at h;omega
theorem Bx (h:Bb p=true):p.length=4:=by simp only[Bb,DH,decide_eq_true_eq] at h;exact h.1
theorem MV (hs:RTags ro h [.sl 2 a v.past.length c] v.past F) (hn:v.past.length<=1048576/\v.text.size<=1048576):Ae lo 112 [.agg (v.cs a c)] h=some (.bool (Ba v),h):=by
 refine UY (h':=h) ?_;have loop:∀ x b,Bb v.past=true->CI (List.length h) x 0 v.key v.tag.time v.tag.place a v.past.length c v.text b h=some (.bool (v.past.all λt=>decide (t.time<v.tag.time)),h):=by
  intro x b hp;have h4:=Bx hp;refine (CL (p:=λt:Tag=>decide (t.time<v.tag.time)) (l:=v.past) (λi=>CI (List.length h) x (i:Nat) v.key v.tag.time v.tag.place a v.past.length c v.text b h) (some (.bool false,h)) (some (.bool true,h)) (λi hi=>?_) ?_).trans ?_
  ·obtain ⟨o,row,G,rfl,ho,⟨rfl,_⟩,_⟩:=hs.read hi;rw[CI.e,Ak (by omega),Ad hi];simp only[Ag,Bm,ho,Tag.cs,cut,Ab,Aa,Af,At (show i<9223372036854775807 by omega)];by_cases ht:v.past[i].time<v.tag.time
   ·rw[Aj (by omega),if_pos (by simpa using ht)]
   ·rw[Ak (by omega),if_neg (by simpa using ht)]
  ·rw[CI.e,Aj (by omega)]
  ·cases v.past.all λt:Tag=>decide (t.time<v.tag.time)<;>rfl
 have key:∀ x:Bool,(A6 v.tag.time v.tag.place&&x&&decide (DT v.past<v.tag.time))=(A6 v.tag.time v.tag.place && !(v.tag.time==0)&&x&&(v.past.all λt=>decide (t.time<v.tag.time))):=by
  intro x;cases ht:A6 v.tag.time v.tag.place with
  | false=>simp
  | true =>
   have:=DW ht;have e:decide (DT v.past<v.tag.time)=(!(v.tag.time==0)&&(v.past.all λt=>decide (t.time<v.tag.time))):=by
    rw[zcq];simp only[decide_eq_true_eq,latest_lt,DH,zby,zb2,beq_eq_false_iff_ne];constructor
    ·rintro ⟨h1,h2⟩;exact ⟨by omega,h2⟩
    ·rintro ⟨h1,h2⟩;exact ⟨by omega,h2⟩
   rw[e];cases x<;>cases (v.tag.time==0)<;>simp
 have e2:Ba v=(An v.key 0 3&&DR v.text&&(!v.gone || DY v.text)&&(A6 v.tag.time v.tag.place&&Bb v.past&&decide (DT v.past<v.tag.time))):=by unfold Ba E5;cases An v.key 0 3<;>cases DR v.text<;>cases v.gone<;>cases DY v.text<;>cases Bb v.past<;>cases A6 v.tag.time v.tag.place<;>simp
 rw[e2,key];simp only[Bp,IO hn.2,LS,IP hs hn.1,GI,Ac,Az];cases hp:Bb v.past with
 | true =>simp only[loop _ _ hp];cases An v.key 0 3<;>cases DR v.text<;>cases v.gone<;>cases DY v.text<;>cases A6 v.tag.time v.tag.place<;>cases (v.tag.time==0)<;>rfl
 | false =>cases An v.key 0 3<;>cases DR v.text<;>cases v.gone<;>cases DY v.text<;>cases A6 v.tag.time v.tag.place<;>cases (v.tag.time==0)<;>rfl
theorem O3 {T:Type} (L:Nat->Option T) (no yes:Option T) (hl:p.length<=q.length)
  (step:∀ i (hi:i<p.length),L i=if GA q[i].time q[i].place p[i].time p[i].place=true then no else L (i+1)) (done:L p.length=yes):L 0=if B4 p q=true then yes else no:=by
 have hz:(p.zip q).length=p.length:=by simp;omega
 refine CL (l:=p.zip q) L no yes (λi hi=>?_) (by rw[hz];exact done);rw[step i (by omega)];simp only[zcU];cases GA q[i].time q[i].place p[i].time p[i].place<;>simp
theorem Li (hs:RTags ro h [.sl 2 a p.length c] p F) (hs':RTags ro' h [.sl 2 a' q.length c'] q F') (hn:p.length<=1048576) (hl:p.length<=q.length) :
  Ae lo 69 [.agg [.sl 2 a p.length c],.agg [.sl 2 a' q.length c']] h=some (.bool (B4 p q),h):=by
 refine MG (h':=h) ?_;refine (O3 (p:=p) (q:=q) (λi=>BQ (List.length h) false a p.length c (p.length:Nat) (i:Nat) a' q.length c' h) (some (.bool false,h)) (some (.bool true,h)) hl (λi hi=>?_) ?_).trans ?_
 ·obtain ⟨o,rfl,ho⟩:=hs.get hi;obtain ⟨o',rfl,ho'⟩:=hs'.get (show i<q.length by omega);rw[BQ.e,Ak (by omega),Ad hi];simp only[Ag,Bm,ho,ho',Ab,Aa,Af,Ad (show i<q.length by omega),HN,Ac,Az,At (show i<9223372036854775807 by omega)];cases GA q[i].time q[i].place p[i].time p[i].place<;>simp
 ·rw[BQ.e,Aj (by omega)]
 ·cases B4 p q<;>rfl
theorem EY (hs:RTags ro h [.sl 2 a p.length c] p F) (hs':RTags ro' h [.sl 2 a' q.length c'] q F') (hp:p.length=4) (hq:q.length=4) :
  Ae lo 124 [.agg [.sl 2 a p.length c],.agg [.sl 2 a' q.length c']] h=some (.bool (B4 p q),h):=by
 refine OE (h':=h) ?_;refine (O3 (p:=p) (q:=q) (λi=>Cl (List.length h) false (i:Nat) a p.length c a' q.length c' h) (some (.bool false,h)) (some (.bool true,h)) (by omega) (λi hi=>?_) ?_).trans ?_
 ·obtain ⟨o,rfl,ho⟩:=hs.get hi;obtain ⟨o',rfl,ho'⟩:=hs'.get (show i<q.length by omega);rw[Cl.e,Ak (by omega),Ad (show i<q.length by omega)];simp only[Ag,Bm,ho,ho',Ab,Aa,Af,Ad hi,BF,Ac,Az,At (show i<9223372036854775807 by omega)];cases GA q[i].time q[i].place p[i].time p[i].place<;>simp
 ·rw[Cl.e,Aj (by omega)]
 ·cases B4 p q<;>rfl
end


variable {l:List Tag}{p:Place}{α:Type}{El:Rel α}
section
variable {lo:Nat}{ro ro':Bool}{h:Heap}{F F':List Nat}{a a':Pq}{c c':Nq}
theorem Sli.rows {α:Type}{El:Rel α}{R e:Nat}{l:List α} (hs:Sli false R e El h [.sl R a l.length c] l F) :
  ∃ rows Fs,(∀ {T:Type} (K:List (List V)->Option T),Aw R h (.sl R a l.length c) K=K rows)/\EAll El h rows l Fs/\∀ b∈Fs.flatten,b∈F:=by
 obtain ⟨R1,a1,c1,e1,g⟩:=hs;injection e1 with e1 _;injection e1 with e0 e2 _ e3;subst e2;subst e3;cases a with
 | none =>obtain ⟨rfl,_,_⟩:=g;exact ⟨[],[],λK=>rfl,trivial,by simp⟩
 | some p =>
  obtain ⟨b,i⟩:=p;obtain ⟨_,rs,Fs,g1,g2,g3,g4,g5,rfl⟩:=g;refine ⟨_,Fs,λK=>?_,g5,λb hb=>zb1 _ hb⟩;simp only[Aw,JF,GN];cases hl:l.length with
  | zero=>simp
  | succ n =>rw[hl] at g2;simp only[EE,Heap.rows?,g1,zbW,Fm g2,Ag]
theorem RTags.rows {l:List Tag} (hs:RTags false h [.sl 2 a l.length c] l F) {T:Type} (K:List (List V)->Option T):Aw 2 h (.sl 2 a l.length c) K=K (l.map Tag.cs):=by obtain ⟨rows,Fs,h1,h2,_⟩:=Sli.rows hs;rw[h1,h2.of_flat.1]
theorem Sli.fresh {R e n:Nat}{rs:List (List V)} (hn:n<=rs.length):Sli false R e El (h ++ [.rows R e false rs]) [.sl R (some (h.length,0)) 0 (some n)] [] [h.length] :=
 ⟨R,some (h.length,0),some n,rfl,rfl,rs,[],by simp,by simp,λk hk=>by injection hk with hk;subst hk;simpa using hn,λh=>(by cases h),by simp[EAll],by simp⟩
theorem PW:(l.map λ_=>([]:List Nat)).flatten = []:=by induction l<;>simp_all
theorem Ja (hl:lo<=h.length) (hn:l.length<=1048576):∃ a' c' h' F',(∀ {T:Type} (K:V->Heap->Option T),Dk lo 36 2 16 (.sl 2 (some (h.length,0)) 0 (some 0)) (l.map Tag.cs) (h ++ [.rows 2 36 false []]) K=K (.sl 2 a' l.length c') h') /\
  RTags false h' [.sl 2 a' l.length c'] l F'/\Mv h [] h' F':=by
 have h0:RTags false (h ++ [.rows 2 (za0 false) false []]) [.sl 2 (some (h.length,0)) 0 (some 0)] [] [h.length]:=Sli.fresh (zbo _);by_cases he:l = []
 ·subst he;exact ⟨some (h.length,0),some 0,_,_,λK=>rfl,h0,Mv.last⟩
 ·obtain ⟨a',c',h',F',p1,p2,p3,p4,p5,p6⟩:=Sli.push (lo:=lo) (bytes:=16) Wz h0 (xs:=l.map Tag.cs) (ys:=l) (Gs:=l.map λ_ => []) EAll.flat (by decide) (by simp;omega) (by simp;omega) (by simp;omega) (by rw[PW];simp) (by rw[PW];simp) he;simp only[zcx,zbQ,zbS] at p1 p2;refine ⟨a',c',h',F',p1,p2,by simp at p3;omega,λb hb _=>?_,p6,λb hb=>?_⟩
  ·rw[p4 b (by simp;omega) (by simp;omega),zbn hb]
  ·simp at p3;rcases p5 b hb with h1 | h1
   ·rw[PW] at h1;simp at h1;exact .inr (by omega)
   ·simp at h1;exact .inr (by omega)
theorem CJ {v:Ver} (hs:RTags false h [.sl 2 a v.past.length c] v.past F) (hl:lo<=h.length) (hn:v.past.length<=1048576) :
  ∃ a' c' h' F',Ae lo 187 [.agg (v.cs a c)] h=some (.agg (v.cs a' c'),h')/\RTags false h' [.sl 2 a' v.past.length c'] v.past F'/\Mv h [] h' F':=by
 obtain ⟨a',c',h',F',e,r⟩:=Ja (l:=v.past) hl hn;refine ⟨a',c',h',F',Rg ?_,r⟩;rw[RTags.rows (Mv.snoc.keep0 rtags_ok hs),e,Ah]
theorem VL (hs:RTags false h [.sl 2 a l.length c] l F) (hl:lo<=h.length) (hn:l.length<=1048576) :
  ∃ v h' F',Ae lo 230 [.sl 2 a l.length c] h=some (v,h')/\RTags false h' [v] l F'/\Mv h [] h' F':=by
 cases a with
 | none =>obtain ⟨R1,a1,c1,e1,g⟩:=hs;injection e1 with e1 _;injection e1 with e0 e2 _ e3;subst e2;subst e3;obtain ⟨rfl,_,_⟩:=g;exact ⟨_,h,[],DE (by rw[show (none:Pq).isNone=true from rfl,Ap]),Sli.nil,Mv.nil⟩
 | some p =>obtain ⟨a',c',h',F',e,r⟩:=Ja (l:=l) hl hn;refine ⟨_,h',F',DE ?_,r⟩;rw[show (some p).isNone=false from rfl,Ay,RTags.rows (Mv.snoc.keep0 rtags_ok hs),e,Ah]
theorem Ng (hs:RTags false h [.sl 2 a l.length c] l F) (hl:lo<=h.length) (hn:l.length<=1048576) :
  ∃ a' c' h' F',Ae lo 153 [.agg [.sl 2 a l.length c]] h=some (.agg [.sl 2 a' l.length c'],h')/\RTags false h' [.sl 2 a' l.length c'] l F'/\Mv h [] h' F':=by
 obtain ⟨v,h',F',e,r,m⟩:=VL hs hl hn;obtain ⟨a',c',es,r2⟩:=r.form;refine ⟨a',_,h',F',LC ?_,r2.clip,m⟩;rw[e];simp only[Ac,es];rw[GC (r:=(.sl 2 a' l.length (some l.length),h')) (by rw[LV r2])];simp only[Ac,Ah]
theorem Fd {v:Ver} (hs:RTags false h [.sl 2 a v.past.length c] v.past F) (hl:lo<=h.length) (hn:v.past.length<=1048576) :
  ∃ a' c' h' F',Ae lo 154 [.agg (v.cs a c)] h=some (.agg (v.cs a' c'),h')/\RTags false h' [.sl 2 a' v.past.length c'] v.past F'/\Mv h [] h' F':=by
 obtain ⟨a',c',h',F',e,r⟩:=Ng hs hl hn;refine ⟨a',c',h',F',MC ?_,r⟩;rw[e];simp only[Ac,AA,Ab,Ah,Af]
theorem Nt {l:List Ver}{e0:Pq}{h0:Heap}{n0:Nq}{F0:List Nat}{T:Type} (L:Nat->Pq->Nat->Nq->Heap->Option T) (hs:RVers false h [.sl 6 a l.length c] l F) (hl:lo<=h.length) (hn:Ct l)
  (m0:Mv h [] h0 F0) (h1:RVers false h0 [.sl 6 e0 0 n0] [] F0)
  (step:∀ i (hi:i<l.length) s a2 c2 a1 n1 c1 hh,(i=0->a1=e0/\c1=n0)->(∀ o,a=some o->ld hh o.1 (o.2+i) 0 6=some [Iv l[i].key,Iv l[i].tag.time,Iv l[i].tag.place,s,.str l[i].text,.bool l[i].gone])->(∃ o,a=some o) ->
   (∀ {R':Type} (K:Pq->Nat->Nq->Option R'),eS 2 s K=K a2 l[i].past.length c2)->(∃ G,RTags false hh [.sl 2 a2 l[i].past.length c2] l[i].past G)->lo<=hh.length ->
   ∃ a3 c3 h3 F3,RTags false h3 [.sl 2 a3 l[i].past.length c3] l[i].past F3/\Mv hh [] h3 F3 /\
    L i a1 n1 c1 hh=Dk lo 43 6 72 (.sl 6 a1 n1 c1) [l[i].cs a3 c3] (h3 ++ [.rows 6 43 false [l[i].cs a3 c3]]) λv h=>eS 6 v λa n c=>L (i+1) a n c h) :
  ∃ a' c' h' F',L 0 e0 0 n0 h0=L l.length a' l.length c' h'/\RVers false h' [.sl 6 a' l.length c'] l F'/\Mv h [] h' F':=by
 have hn1:=hn.1;obtain ⟨a',c',h',F',e,r,m⟩:=JB (El:=RVer false) rver_ok (h0:=h0) (l:=l) (g:=λ_ v=>some (id v)) (lo:=lo) (R:=6) (e:=UD false) (bytes:=72) (b0 := []) (F0:=F0) (a0:=e0) (c0:=n0)
  (zbj hl m0.le) (m0.ge hl (by simp)) m0.nd (by decide) (by simp;omega) L (λi hi a1 c1 hh F1 acc hz hacc hm hr=>by
   have hm':Mv h [] hh []:=(m0.trans hm).drop;obtain ⟨o,s,a2,c2,G,ho,hld,es,hp,_⟩:=(hm'.keep0 rvers_ok hs).get hi;obtain ⟨a3,c3,h3,F3,r3,m3,e3⟩:=step i hi s a2 c2 a1 acc.length c1 hh hz (λo' ho'=>by rw[ho] at ho';injection ho' with ho';subst ho';exact hld) ⟨o,ho⟩ es ⟨G,hp⟩ (zbj hl hm'.le);exact .inr ⟨l[i],l[i].cs a3 c3,F3,_,rfl,⟨_,rfl,Mv.snoc.keep0 rtags_ok r3⟩,m3.trans (Mv.snoc' m3.nd),e3⟩) h1
 rw[Kb,zcV,zbS] at e r;exact ⟨a',c',h',F',e,r,m0.trans m⟩
theorem Fb {l:List Ver} (hs:RVers false h [.sl 6 a l.length c] l F) (hl:lo<=h.length) (hn:Ct l) :
  ∃ a' c' h' F',Ae lo 201 [.sl 6 a l.length c] h=some (.sl 6 a' l.length c',h')/\RVers false h' [.sl 6 a' l.length c'] l F'/\Mv h [] h' F':=by
 have hn1:=hn.1;obtain ⟨a',c',h',F',e,r,m⟩:=Nt (e0:=some (h.length,0)) (n0:=some l.length) (h0:=h ++ [.rows 6 (UD false) false (List.replicate l.length [Iv 0,Iv 0,Iv 0,.sl 0 none 0 (some 0),.str ⟨⟨[]⟩⟩,.bool false])])
  (λi a1 n1 c1 hh=>BO lo a1 n1 c1 a l.length c (l.length:Nat) (i:Nat) hh) hs hl hn Mv.last (Sli.fresh (by simp)) (λi hi s a2 c2 a1 n1 c1 hh hz hld ho es hp hlo=>by
   obtain ⟨o,rfl⟩:=ho;obtain ⟨G,hp⟩:=hp;obtain ⟨a3,c3,h3,F3,e3,r3,m3⟩:=Fd (lo:=lo) (v:=l[i]) hp hlo (hn.2 _ (zbk hi)).1;refine ⟨a3,c3,h3,F3,r3,m3,?_⟩;rw[BO.e,Ak (by omega),Ad hi];simp only[Ag,Bm,hld o rfl,Ab,Aa,es,Bq,AB,Af];rw[e3];simp only[Ac,AA,Ab,Aa,Ah,Bq,AB,Af,A9,At (show i<9223372036854775807 by omega)])
 refine ⟨a',c',h',F',MA ?_,r,m⟩;rw[FV (by omega)];refine e.trans ?_;rw[BO.e,Aj (by omega)]
theorem NN {l:List Ver} (hs:RVers false h [.sl 6 a l.length c] l F) (hl:lo<=h.length) (hn:Ct l) :
  ∃ a' c' h' F',Ae lo 128 [.sl 6 a l.length c] h=some (.sl 6 a' l.length c',h')/\RVers false h' [.sl 6 a' l.length c'] l F'/\Mv h [] h' F':=by
 have hn1:=hn.1;obtain ⟨a',c',h',F',e,r,m⟩:=Nt (e0:=some (h.length,0)) (n0:=some 0) (h0:=h ++ [.rows 6 (UD false) false []])
  (λi a1 n1 c1 hh=>CY lo a l.length c a1 n1 c1 (i:Nat) hh) hs hl hn Mv.last (Sli.fresh (by simp)) (λi hi s a2 c2 a1 n1 c1 hh hz hld ho es hp hlo=>by
   obtain ⟨o,rfl⟩:=ho;obtain ⟨G,hp⟩:=hp;obtain ⟨a3,c3,h3,F3,e3,r3,m3⟩:=CJ (lo:=lo) (v:=l[i]) hp hlo (hn.2 _ (zbk hi)).1;refine ⟨a3,c3,h3,F3,r3,m3,?_⟩;rw[CY.e,Ak (by omega),Ad hi];simp only[Ag,Bm,hld o rfl,Ab,Aa,es,Bq,AB,Af];rw[e3];simp only[Ac,AA,Ab,Aa,Ah,Bq,AB,Af,A9,At (show i<9223372036854775807 by omega)])
 refine ⟨a',c',h',F',QV ?_,r,m⟩;refine e.trans ?_;rw[CY.e,Aj (by omega)]
theorem IC {l:List Ver} (hs:RVers false h [.sl 6 a l.length c] l F) (hl:lo<=h.length) (hn:Ct l) :
  ∃ a' c' h' F',Ae lo 209 [.agg [.sl 6 a l.length c]] h=some (.agg [.sl 6 a' l.length c'],h')/\RVers false h' [.sl 6 a' l.length c'] l F'/\Mv h [] h' F':=by
 obtain ⟨a',c',h',F',e,r⟩:=Fb hs hl hn;refine ⟨a',c',h',F',KM ?_,r⟩;rw[e];simp only[Ac,Ah]
theorem GL {l:List Ver} (hs:RVers false h [.sl 6 a l.length c] l F) (hl:lo<=h.length) (hn:Ct l) :
  ∃ v h' F',Ae lo 196 [.agg [.sl 6 a l.length c]] h=some (.agg [v],h')/\RVers false h' [v] l F'/\Mv h [] h' F':=by
 have hn1:=hn.1;by_cases he:l = []
 ·subst he;exact ⟨_,h,[],Ir (by rw[Bo.e,Aj (by simp)]),Sli.nil,Mv.nil⟩
 have hpos:0<l.length:=List.length_pos_iff.2 he;obtain ⟨a',c',h',F',e,r,m⟩:=Nt (e0:=none) (n0:=some 0) (h0:=h)
  (λi a1 n1 c1 hh=>Bo lo (i:Nat) a l.length c 0 none 0 (some 0) (if i=0 then 0 else 6) a1 n1 c1 hh) hs hl hn Mv.nil Sli.nil (λi hi s a2 c2 a1 n1 c1 hh hz hld ho es hp hlo=>by
   obtain ⟨o,rfl⟩:=ho;obtain ⟨G,hp⟩:=hp;obtain ⟨a3,c3,h3,F3,e3,r3,m3⟩:=CJ (lo:=lo) (v:=l[i]) hp hlo (hn.2 _ (zbk hi)).1;refine ⟨a3,c3,h3,F3,r3,m3,?_⟩;rw[Bo.e,Ak (by omega),Ad hi];simp only[Ag,Bm,hld o rfl,Ab,Aa,es,Bq,AB,Af];rw[e3];simp only[Ac,AA,Ab,Aa,Ah,Bq,AB,Af,A9,At (show i<9223372036854775807 by omega),if_neg (Nat.succ_ne_zero i)];by_cases h0:i=0
   ·obtain ⟨rfl,rfl⟩:=hz h0;rw[zal]
   ·rw[if_neg h0])
 refine ⟨_,h',F',Ir ?_,r,m⟩;refine e.trans ?_;rw[if_neg (by omega),Bo.e,Aj (by omega)]
theorem Mf {l:List Node} (hs:RNodes false h [.sl 2 a l.length c] l F) (hl:lo<=h.length) (hn:CD l) :
  ∃ a' c' h' F',Ae lo 200 [.agg [.sl 2 a l.length c]] h=some (.agg [.sl 2 a' l.length c'],h')/\RNodes false h' [.sl 2 a' l.length c'] l F'/\Mv h [] h' F':=by
 have hn1:=hn.1;have m0:Mv h [] (h ++ [.rows 2 (Og false) false (List.replicate l.length [.sl 0 none 0 (some 0),.sl 0 none 0 (some 0)])]) [h.length]:=Mv.last;obtain ⟨a',c',h',F',e,r,m⟩:=JB (El:=RNode false) rnode_ok (h0:=h ++ [.rows 2 (Og false) false (List.replicate l.length [.sl 0 none 0 (some 0),.sl 0 none 0 (some 0)])]) (l:=l) (g:=λ_ v=>some (id v)) (lo:=lo) (R:=2) (e:=47) (bytes:=48) (b0 := []) (F0 := [h.length]) (a0:=some (h.length,0)) (c0:=some l.length)
  (zbj hl m0.le) (m0.ge hl (by simp)) m0.nd (by decide) (by simp;omega) (λi a1 n1 c1 hh=>BC lo a l.length c (l.length:Nat) (i:Nat) 0 none 0 (some 0) a1 n1 c1 hh) (λi hi a1 c1 hh F1 acc hz hacc hm hr=>by
   have hm':Mv h [] hh []:=(m0.trans hm).drop;obtain ⟨o,s1,s2,b1,d1,b2,d2,G1,G2,rfl,ho,_,_,e1,e2,p1,p2,_⟩:=(hm'.keep0 rnodes_ok hs).get hi;have hsm:=hn.2 _ (zbk hi);obtain ⟨a3,c3,h3,F3,e3,r3,m3⟩:=IC (lo:=lo) p1 (zbj hl (zbj m0.le (zbj hm.le (zbo _)))) hsm.1;obtain ⟨a4,c4,h4,F4,e4,r4,m4⟩:=Fb (lo:=lo) (m3.keep0 rvers_ok p2) (zbj hl (zbj m0.le (zbj hm.le m3.le))) hsm.2;have m34:=m3.join m4 (rvers_ok.bd _ _ _ _ r3);refine .inr ⟨l[i],[.sl 6 a3 l[i].store.length c3,.sl 6 a4 l[i].wait.length c4],F3++F4,h4 ++ [.rows 2 47 false [[.sl 6 a3 l[i].store.length c3,.sl 6 a4 l[i].wait.length c4]]],rfl,
    ⟨_,_,F3,F4,rfl,rfl,Mv.snoc.keep0 rvers_ok (m4.keep0 rvers_ok r3),Mv.snoc.keep0 rvers_ok r4⟩,m34.trans (Mv.snoc' m34.nd),?_⟩
   rw[BC.e,Ak (by omega),Ad hi];simp only[Ag,Bm,ho,Ab,e1,e2,Af];rw[e3];simp only[Ac,AA,Ab,Ah,Af];rw[e4];simp only[Ac,Ah,A9,At (show i<9223372036854775807 by omega)]) (Sli.fresh (by simp))
 rw[Kb,zcV,zbS] at e r;refine ⟨a',c',h',F',KQ ?_,r,m0.trans m⟩;rw[FV (by omega)];refine e.trans ?_;rw[BC.e,Aj (by omega)]
theorem Me {a1 a2 a3:Pq}{c1 c2 c3:Nq}{F1 F2 F3:List Nat} (hs1:RNodes false h [.sl 2 a1 p.chain.length c1] p.chain F1) (hs2:RVers false h [.sl 6 a2 p.log.length c2] p.log F2)
  (hs3:RVss false h [.sl 1 a3 p.got.length c3] p.got F3) (hl:lo<=h.length) (hn:Dt p) :
  ∃ a1' c1' a2' c2' a3' c3' h' F',Ae lo 115 [.agg (p.cs a1 c1 a2 c2 a3 c3)] h=some (.agg (p.cs a1' c1' a2' c2' a3' c3'),h')/\RPlace false h' (p.cs a1' c1' a2' c2' a3' c3') p F'/\Mv h [] h' F':=by
 have hn1:=hn.2.2.1;obtain ⟨b1,d1,h1,G1,e1,r1,m1⟩:=Mf (lo:=h.length) hs1 (zbo _) hn.1;obtain ⟨b2,d2,h2,G2,e2,r2,m2⟩:=Fb (lo:=h1.length) (m1.keep0 rvers_ok hs2) (zbo _) hn.2.1;have m12:=m1.join m2 (rnodes_ok.bd _ _ _ _ r1);have r1':=m2.keep0 rnodes_ok r1;have hs3':=m2.keep0 rvss_ok (m1.keep0 rvss_ok hs3);have m0:Mv h2 [] (h2 ++ [.rows 1 (YO false) false (List.replicate p.got.length [.sl 0 none 0 (some 0)])]) [h2.length]:=Mv.last;obtain ⟨b3,d3,h',F',e,r,m⟩:=JB (El:=RVers false) rvers_ok (h0:=h2 ++ [.rows 1 (YO false) false (List.replicate p.got.length [.sl 0 none 0 (some 0)])]) (l:=p.got) (g:=λ_ v=>some (id v)) (lo:=lo) (R:=1) (e:=26) (bytes:=24) (b0 := []) (F0 := [h2.length]) (a0:=some (h2.length,0)) (c0:=some p.got.length)
  (zbj hl (zbj m12.le m0.le)) (m0.ge (zbj hl m12.le) (by simp)) m0.nd (by decide) (by simp;omega) (λi a n c hh=>BB lo a3 p.got.length c3 (p.got.length:Nat) (i:Nat) 0 0 0 none 0 (some 0) 0 none 0 (some 0) 0 none 0 (some 0) false p.me p.clock b1 p.chain.length d1 b2 p.log.length d2 a n c p.fell hh) (λi hi q1 q2 hh F1 acc hz hacc hm hr=>by
   have hm':Mv h2 [] hh []:=(m0.trans hm).drop;obtain ⟨o,s,b,d,G,rfl,ho,es,hp,_⟩:=(hm'.keep0 rvss_ok hs3').get hi;obtain ⟨a5,c5,h5,F5,e5,r5,m5⟩:=Fb (lo:=lo) hp (zbj hl (zbj m12.le (zbj m0.le hm.le))) (hn.2.2.2 _ (zbk hi));refine .inr ⟨p.got[i],[.sl 6 a5 p.got[i].length c5],F5,h5 ++ [.rows 1 26 false [[.sl 6 a5 p.got[i].length c5]]],rfl,Mv.snoc.keep0 rvers_ok r5,m5.trans (Mv.snoc' m5.nd),?_⟩;rw[BB.e,Ak (by omega),Ad hi];simp only[Ag,Bm,ho,Ab,es,Af];rw[e5];simp only[Ac,Ah,A9,At (show i<9223372036854775807 by omega)]) (Sli.fresh (by simp))
 rw[Kb,zcV,zbS] at e r;have m3:=m12.join (m0.trans m) (λb hb=>by
   rw[zbl] at hb;exact hb.elim (rnodes_ok.bd _ _ _ _ r1' b) (rvers_ok.bd _ _ _ _ r2 b))
 rw[zbB] at m3;refine ⟨b1,d1,b2,d2,b3,d3,h',G1++(G2++F'),KO ?_,⟨_,_,_,G1,G2,F',rfl,rfl,(m0.trans m).keep0 rnodes_ok r1',(m0.trans m).keep0 rvers_ok r2,r⟩,m3⟩;rw[e1];simp only[Ac,AA,Ab,Ah,Af];rw[e2];simp only[Ac,Ah];rw[FV (by omega)];refine e.trans ?_;rw[BB.e,Aj (by omega)]
theorem NT {l:List Node} (hs:RNodes false h [.sl 2 a l.length c] l F) (hl:lo<=h.length) (hn:CD l) :
  ∃ v h' F',Ae lo 127 [.agg [.sl 2 a l.length c]] h=some (.agg [v],h')/\RNodes false h' [v] l F'/\Mv h [] h' F':=by
 have hn1:=hn.1;obtain ⟨q,a',c',h',F',e,r,m⟩:=Dn (El:=RNode false) rnode_ok (h:=h) (l:=l) (f:=id) (lo:=lo) (R:=2) (e:=47) (bytes:=48) hl (by decide) (by omega)
  (λi q a1 n1 c1 hh=>C3 lo (i:Nat) a l.length c 0 none 0 (some 0) q a1 n1 c1 hh) (λi hi q a1 n1 c1 hh hm=>by
   obtain ⟨o,s1,s2,b1,d1,b2,d2,G1,G2,ha,_,ho1,ho2,e1,e2,p1,p2,_⟩:=(hm.keep0 rnodes_ok hs).get hi;have hsm:=hn.2 _ (zbk hi);have hw1:=hsm.2.1;obtain ⟨v3,h3,F3,e3,r3,m3⟩:=GL (lo:=lo) p1 (zbj hl hm.le) hsm.1;obtain ⟨a3,c3,es3,r3'⟩:=r3.form;have p2':=m3.keep0 rvers_ok p2;obtain ⟨q4,a4,c4,h4,F4,e4,r4,m4⟩:=Dn (El:=RVer false) rver_ok (h:=h3) (l:=l[i].wait) (f:=id) (lo:=lo) (R:=6) (e:=43) (bytes:=72) (zbj hl (zbj hm.le m3.le)) (by decide) (by omega)
    (λj q5 a5 n5 c5 hh=>C2 lo (i:Nat) (j:Nat) a l.length c 0 none 0 (some 0) q a1 n1 c1 a3 l[i].store.length c3 q5 a5 n5 c5 hh) (λj hj q5 a5 n5 c5 hh2 hm2=>by
     obtain ⟨o',s1',s2',b1',d1',b2',d2',G1',G2',ha',_,_,ho2',_,e2',_,p2',_⟩:=(hm2.keep0 rnodes_ok (m3.keep0 rnodes_ok (hm.keep0 rnodes_ok hs))).get hi;obtain ⟨o'',s,b,d,G,hb,hld,es,hp,_⟩:=p2'.get hj;obtain ⟨a6,c6,h6,F6,e6,r6,m6⟩:=CJ (lo:=lo) (v:=l[i].wait[j]) hp (zbj hl (zbj hm.le (zbj m3.le hm2.le))) (hsm.2.2 _ (zbk hj)).1;refine ⟨l[i].wait[j].cs a6 c6,F6,h6 ++ [.rows 6 43 false [l[i].wait[j].cs a6 c6]],⟨_,rfl,Mv.snoc.keep0 rtags_ok r6⟩,m6.trans (Mv.snoc' m6.nd),?_⟩;rw[C2.e,Ad hi,ha',Ag];simp only[Bm,ho2',Ag,Ab,Af,e2'];rw[Ak (by omega),Ad hi];simp only[hb,Ad hj,Ag,Bm,hld,Ab,Aa,es,Bq,AB,Af];rw[e6];simp only[Ac,AA,Ab,Aa,Ah,Bq,AB,Af,A9,At (show j<9223372036854775807 by omega)])
   rw[zcV] at r4;have m34:=m3.join m4 (rvers_ok.bd _ _ _ _ r3');obtain ⟨o',s1',s2',b1',d1',b2',d2',G1',G2',ha',_,_,ho2',_,e2',_,_,_⟩:=(m4.keep0 rnodes_ok (m3.keep0 rnodes_ok (hm.keep0 rnodes_ok hs))).get hi;refine ⟨[.sl 6 a3 l[i].store.length c3,.sl q4 a4 l[i].wait.length c4],F3++F4,h4 ++ [.rows 2 47 false [[.sl 6 a3 l[i].store.length c3,.sl q4 a4 l[i].wait.length c4]]],
    ⟨_,_,F3,F4,rfl,rfl,Mv.snoc.keep0 rvers_ok (m4.keep0 rvers_ok r3'),Mv.snoc.keep0 rvers_ok r4⟩,m34.trans (Mv.snoc' m34.nd),?_⟩
   rw[C3.e,Ak (by omega),Ad hi,ha,Ag];simp only[Bm,ho1,Ag,Ab,Af,e1];rw[e3];simp only[Ac,AA,Ab,Af,es3];rw[<- ha];refine e4.trans ?_;rw[C2.e,Ad hi,ha',Ag];simp only[Bm,ho2',Ag,Ab,Af,e2'];rw[Aj (by omega)];simp only[A9,At (show i<9223372036854775807 by omega)])
 rw[zcV] at r;refine ⟨_,h',F',Rb ?_,r,m⟩;refine e.trans ?_;rw[C3.e,Aj (by omega)]
theorem TO {a1 a2 a3:Pq}{c1 c2 c3:Nq}{F1 F2 F3:List Nat} (hs1:RNodes false h [.sl 2 a1 p.chain.length c1] p.chain F1) (hs2:RVers false h [.sl 6 a2 p.log.length c2] p.log F2)
  (hs3:RVss false h [.sl 1 a3 p.got.length c3] p.got F3) (hl:lo<=h.length) (hn:Dt p) :
  ∃ vs h' F',Ae lo 58 [.agg (p.cs a1 c1 a2 c2 a3 c3)] h=some (.agg vs,h')/\RPlace false h' vs p F'/\Mv h [] h' F':=by
 have hn1:=hn.2.2.1;obtain ⟨v1,h1,G1,e1,r1,m1⟩:=NT (lo:=h.length) hs1 (zbo _) hn.1;obtain ⟨b1,d1,es1,r1⟩:=r1.form;obtain ⟨b2,d2,h2,G2,e2,r2,m2⟩:=NN (lo:=h1.length) (m1.keep0 rvers_ok hs2) (zbo _) hn.2.1;have m12:=m1.join m2 (rnodes_ok.bd _ _ _ _ r1);have r1':=m2.keep0 rnodes_ok r1;have hs3':=m2.keep0 rvss_ok (m1.keep0 rvss_ok hs3);obtain ⟨q,b3,d3,h',F',e,r,m⟩:=Dn (El:=RVers false) rvers_ok (h:=h2) (l:=p.got) (f:=id) (lo:=lo) (R:=1) (e:=26) (bytes:=24) (zbj hl m12.le) (by decide) (by omega)
  (λi q a n c hh=>CZ lo (i:Nat) p.me p.clock a1 p.chain.length c1 a2 p.log.length c2 a3 p.got.length c3 p.fell 0 0 0 none 0 (some 0) 0 none 0 (some 0) 0 none 0 (some 0) false p.me p.clock b1 p.chain.length d1 b2 p.log.length d2 q a n c p.fell hh) (λi hi q x n y hh hm=>by
   obtain ⟨o,s,b,d,G,ha,ho,es,hp,_⟩:=(hm.keep0 rvss_ok hs3').get hi;obtain ⟨a5,c5,h5,F5,e5,r5,m5⟩:=NN (lo:=lo) hp (zbj hl (zbj m12.le hm.le)) (hn.2.2.2 _ (zbk hi));refine ⟨[.sl 6 a5 p.got[i].length c5],F5,h5 ++ [.rows 1 26 false [[.sl 6 a5 p.got[i].length c5]]],Mv.snoc.keep0 rvers_ok r5,m5.trans (Mv.snoc' m5.nd),?_⟩;rw[CZ.e,Ak (by omega),Ad hi];simp only[ha,Ag,Bm,ho,Ab,es,Af];rw[e5];simp only[Ac,Ah,A9,At (show i<9223372036854775807 by omega)])
 rw[zcV] at r;have m3:=m12.join m (λb hb=>by
   rw[zbl] at hb;exact hb.elim (rnodes_ok.bd _ _ _ _ r1' b) (rvers_ok.bd _ _ _ _ r2 b))
 rw[zbB] at m3;refine ⟨_,h',G1++(G2++F'),Q0 ?_,⟨_,_,_,G1,G2,F',rfl,rfl,m.keep0 rnodes_ok r1',m.keep0 rvers_ok r2,r⟩,m3⟩;rw[e1];simp only[Ac,AA,Ab,es1,Af];rw[e2];simp only[Ac,Ah];refine e.trans ?_;rw[CZ.e,Aj (by omega)]
end


variable {l:List Ver}{v:Ver}
def DX (v u:Ver):Bool:=v.key==u.key&&(v.tag.time==u.tag.time&&v.tag.place==u.tag.place)&&decide (v.past=u.past)&&(v.text.toList==u.text.toList)&&(v.gone==u.gone)
def E4 (v:Ver):Bool:=v.key==0&&(v.tag.time==0&&v.tag.place==0)&&decide (v.past.length=0)&&DY v.text && !v.gone
def Ho (i:Nat) (v:Ver):Bool:=E4 v || (Ba v&&v.key==i)
def AU (l:List Ver):Bool:=(l.zipIdx.all λx=>Ho x.2 x.1)&&decide (l.length=4)
theorem A3 (h:AU l=true):l.length=4:=by simp only[AU,DH,decide_eq_true_eq] at h;exact h.2
theorem Df (h:AU l=true) {i:Nat} (hi:i<l.length):Ho i l[i]=true:=by simp only[AU,DH,zby] at h;have:=h.1 (l[i],i) (by rw[zcl];simp[hi]);exact this
theorem GH (h:Ba v=true):0<v.tag.time:=by simp only[Ba,DH,decide_eq_true_eq] at h;exact (latest_lt.1 h.2).1
section
variable {lo:Nat}{ro ro':Bool}{h:Heap}{F F':List Nat}{a a':Pq}{c c':Nq}
theorem IK {α T:Type}{p:Nat->α->Bool}{l:List α} (L:Nat->Option T) (no yes:Option T)
  (step:∀ i (hi:i<l.length),L i=if p i l[i]=true then L (i+1) else no) (done:L l.length=yes):L 0=if (l.zipIdx.all λx=>p x.2 x.1)=true then yes else no:=by
 have hz:l.zipIdx.length=l.length:=by simp
 refine CL (l:=l.zipIdx) (p:=λx=>p x.2 x.1) L no yes (λi hi=>?_) (by rw[hz];exact done);rw[step i (by omega)];simp only[List.getElem_zipIdx,zbQ]
theorem VK {p q:List Tag} (hs:RTags ro h [.sl 2 a p.length c] p F) (hs':RTags ro' h [.sl 2 a' q.length c'] q F') (hn:p.length<=1048576) :
  Ae lo 231 [.sl 2 a p.length c,.sl 2 a' q.length c'] h=some (.bool (decide (p=q)),h):=by
 refine Gy (h':=h) ?_;by_cases hl:p.length=q.length
 ·rw[show ((p.length:Int)==(q.length:Int))=true by simp;omega,Ap];refine (CL (p:=λx:Tag×Tag=>decide (x.1=x.2)) (l:=p.zip q) (λi=>AS (List.length h) a p.length c a' q.length c' false (p.length:Nat) (i:Nat) h) (some (.bool false,h)) (some (.bool true,h)) (λi hi=>?_) ?_).trans ?_
  ·have hip:i<p.length:=by simp at hi;omega
   have hiq:i<q.length:=by omega
   obtain ⟨o,rfl,ho⟩:=hs.get hip;obtain ⟨o',rfl,ho'⟩:=hs'.get hiq;rw[AS.e,Ak (by omega),Ad hip];simp only[Ag,Bm,ho,ho',Ab,Aa,Af,Ad hiq,zcU,At (show i<9223372036854775807 by omega),zcj];have e:(p[i].time==q[i].time&&p[i].place==q[i].place)=decide (p[i]=q[i]):=by rw[zcq];cases hx:p[i];cases hy:q[i];simp
   rw[e];cases decide (p[i]=q[i])<;>simp
  ·have hz:(p.zip q).length=p.length:=by simp;omega
   rw[hz,AS.e,Aj (by omega)]
  ·have e:((p.zip q).all λx=>decide (x.1=x.2))=decide (p=q):=by
    rw[zcq,zby,decide_eq_true_eq];constructor
    ·intro hx;apply List.ext_getElem hl;intro i h1 h2;have:=hx (p[i],q[i]) (by rw[zbV];exact ⟨i,by simp;omega,by simp⟩);simpa using this
    ·rintro rfl x hx
     obtain ⟨i,hi,rfl⟩:=zbV.1 hx;simp
   rw[e];cases decide (p=q)<;>simp
 ·rw[show ((p.length:Int)==(q.length:Int))=false by simp;omega,Ay,decide_eq_false (λe=>hl (by rw[e]))]
theorem Xv {u:Ver} (hs:RTags ro h [.sl 2 a v.past.length c] v.past F) (hs':RTags ro' h [.sl 2 a' u.past.length c'] u.past F') (hn:v.past.length<=1048576) :
  Ae lo 155 [.agg (v.cs a c),.agg (u.cs a' c')] h=some (.bool (DX v u),h):=by
 refine OJ (h':=h) ?_;simp only[VK hs hs' hn,Ac,Az,zcj];unfold DX;cases (v.key==u.key)<;>cases (v.tag.time==u.tag.time&&v.tag.place==u.tag.place)<;>cases (decide (v.past=u.past))<;>cases (v.text.toList==u.text.toList)<;>cases (v.gone==u.gone)<;>rfl
theorem Um (hs:RTags ro h [.sl 2 a v.past.length c] v.past F) (hn:v.past.length<=1048576) :
  Ae lo 155 [.agg (v.cs a c),.agg [Iv 0,Iv 0,Iv 0,.sl 0 none 0 (some 0),.str ⟨⟨[]⟩⟩,.bool false]] h=some (.bool (E4 v),h):=by
 refine MB (h':=h) ?_;have e:Ae (List.length h) 231 [.sl 2 a v.past.length c,.sl 0 none 0 (some 0)] h=some (.bool (decide (v.past.length=0)),h):=by
  refine FE (h':=h) ?_;by_cases h0:v.past.length=0
  ·rw[h0,Kl,Ap,A5.e,Aj (by simp)];rfl
  ·rw[show ((v.past.length:Int)==((0:Nat):Int))=false by rw[beq_eq_false_iff_ne];omega,Ay,decide_eq_false h0]
 simp only[e,Ac,Az,zcj,GI];unfold E4;cases (v.key==0)<;>cases (v.tag.time==0&&v.tag.place==0)<;>cases (decide (v.past.length=0))<;>cases DY v.text<;>cases v.gone<;>rfl
theorem SL (hs:RVers ro h [.sl 6 a l.length c] l F) (hn:Ct l):Ae lo 79 [.agg [.sl 6 a l.length c]] h=some (.bool (AU l),h):=by
 have hn1:=hn.1;refine Qy (h':=h) ?_;refine (IK (p:=Ho) (l:=l) (λi=>B6 (List.length h) false a l.length c (l.length:Nat) (i:Nat) a l.length c h) (some (.bool false,h)) (some (.bool (decide (l.length=4)),h)) (λi hi=>?_) ?_).trans ?_
 ·obtain ⟨o,s,b,d,G,rfl,ho,es,hp,_⟩:=hs.get hi;have hm:=hn.2 _ (zbk hi);rw[B6.e,Ak (by omega),Ad hi];simp only[Ag,Bm,ho,Ab,Aa,es,Bq,AB,Af];rw[Um hp hm.1];simp only[Ac,Az,Lj hp hm,At (show i<9223372036854775807 by omega)];unfold Ho;cases E4 l[i]<;>cases Ba l[i]<;>cases (l[i].key==i)<;>simp
 ·rw[B6.e,Aj (by omega)];by_cases h3:l.length=4
  ·rw[h3];rfl
  ·rw[show ((l.length:Int)==4)=false by simp;omega,Ay,decide_eq_false h3]
 ·unfold AU;cases (l.zipIdx.all λx=>Ho x.2 x.1)<;>simp
theorem RVers.all {n:Nat}{i:Nat} (hs:RVers ro h [.sl 6 a n c] l F) (hi:i<l.length):∃ o s a' c' G,a=some o/\ld h o.1 (o.2+i) 0 1=some [Iv l[i].key]/\ld h o.1 (o.2+i) 1 1=some [Iv l[i].tag.time] /\
  ld h o.1 (o.2+i) 2 1=some [Iv l[i].tag.place]/\ld h o.1 (o.2+i) 3 1=some [s]/\ld h o.1 (o.2+i) 4 1=some [.str l[i].text]/\ld h o.1 (o.2+i) 5 1=some [.bool l[i].gone]/\ld h o.1 (o.2+i) 1 2=some [Iv l[i].tag.time,Iv l[i].tag.place] /\
  ld h o.1 (o.2+i) 0 6=some [Iv l[i].key,Iv l[i].tag.time,Iv l[i].tag.place,s,.str l[i].text,.bool l[i].gone] /\
  (∀ {R':Type} (K:Pq->Nat->Nq->Option R'),eS 2 s K=K a' l[i].past.length c')/\RTags ro h [.sl 2 a' l[i].past.length c'] l[i].past G/\(∀ b∈G,b∈F):=by
 obtain ⟨o,row,G,h1,h2,hv,hG,_⟩:=hs.read hi;obtain ⟨s,a',c',rfl,es,hp⟩:=hv.form;exact ⟨o,s,a',c',G,h1,by rw[h2];rfl,by rw[h2];rfl,by rw[h2];rfl,by rw[h2];rfl,by rw[h2];rfl,by rw[h2];rfl,by rw[h2];rfl,by rw[h2];rfl,es,hp,hG⟩
theorem J0 (hs:RVers ro h [.sl 6 a l.length c] l F) (hn:Ct l):Ae lo 111 [.agg [.sl 6 a l.length c]] h=some (.bool (AU l),h):=by
 have hn1:=hn.1;refine NA (h':=h) ?_;refine (IK (p:=Ho) (l:=l) (λi=>Bf (List.length h) false (i:Nat) a l.length c h) (some (.bool false,h)) (some (.bool (decide (l.length=4)),h)) (λi hi=>?_) ?_).trans ?_
 ·obtain ⟨o,s,b,d,G,rfl,ho0,_,_,ho3,ho4,ho5,ho12,ho,es,hp,_⟩:=hs.all hi;have hm:=hn.2 _ (zbk hi);rw[Bf.e,Ak (by omega),Ad hi];simp only[Ag,Bm,ho0,ho3,ho4,ho5,ho12,ho,Ab,Aa,es,Bq,AB,Af,Ad hi,zcj,GI,MV hp hm,Ac,Az,At (show i<9223372036854775807 by omega)];have hpl:∀ {T:Type} (x y:Option T),br (decide ((l[i].past.length:Int)>0)) x y=br (!decide (l[i].past.length=0)) x y:=by
   intro T x y;by_cases h0:l[i].past.length=0
   ·rw[Aj (by omega),decide_eq_true h0];rfl
   ·rw[Ak (by omega),decide_eq_false h0];rfl
  simp only[hpl];unfold Ho E4;cases hz:(l[i].tag.time==0&&l[i].tag.place==0) with
  | true =>
   have:Ba l[i]=false:=by
    cases hv:Ba l[i] with
    | false=>rfl
    | true=>have:=GH hv;simp at hz;omega
   rw[this];cases (l[i].key==0)<;>cases DY l[i].text<;>cases l[i].gone<;>cases (decide (l[i].past.length=0))<;>rfl
  | false =>cases (l[i].key==0)<;>cases DY l[i].text<;>cases l[i].gone<;>cases (decide (l[i].past.length=0))<;>cases Ba l[i]<;>cases (l[i].key==i)<;>rfl
 ·rw[Bf.e,Aj (by omega)];by_cases h3:l.length=4
  ·rw[h3];rfl
  ·rw[show ((l.length:Int)==4)=false by simp;omega,Ay,decide_eq_false h3]
 ·unfold AU;cases (l.zipIdx.all λx=>Ho x.2 x.1)<;>simp
end


variable {l:List Ver}{α:Type}{El:Rel α}
def Cb (l:List Ver) (t:Tag):Bool:=l.any λv=>v.tag.time==t.time&&v.tag.place==t.place
section
variable {lo:Nat}{ro ro':Bool}{h:Heap}{F F':List Nat}{a a':Pq}{c c':Nq}
theorem QP {g:Nat}{cl:List V}{p:Ver->Bool} (hs:RVers ro h [.sl 6 a l.length c] l F) (hn:l.length<=1048576)
  (hp:∀ lo v a c G,v∈l->RTags ro h [.sl 2 a v.past.length c] v.past G->Ae lo g (Dy [.agg (v.cs a c)] cl) h=some (.bool (p v),h)) :
  Ae lo 156 [.sl 6 a l.length c,.fn g cl] h=some (Iv (Cd p l 0),h):=by
 have loop:∀ m k x,m+k=l.length->AJ (List.length h) a l.length c g cl x (l.length:Nat) (k:Nat) h=some (Iv (Cd p (l.drop k) k),h):=by
  intro m;induction m with
  | zero =>intro k x hk;rw[AJ.e,Aj (by omega),show k=l.length by omega];simp[Cd]
  | succ m ih =>
   intro k x hk;have hlt:k<l.length:=by omega
   obtain ⟨o,s,b,d,G,rfl,ho,es,hv,_⟩:=hs.get hlt;rw[AJ.e,Ak (by omega),Ad (by omega)];simp only[Ag,Bm,ho,Ab,Aa,es,Bq,AB,Af];rw[hp (List.length h) l[k] b d G (zbk hlt) hv,Ac,Az,zbH hlt];simp only[Cd];cases p l[k]
   ·simp only[Ay,cond_false];rw[At (by omega)];exact ih (k+1) _ (by omega)
   ·simp
 refine EW (h':=h) ?_;exact loop l.length 0 0 (by omega)
theorem Jh {g:Nat}{cl:List V}{p:Ver->Bool} (hs:RVers ro h [.sl 6 a l.length c] l F) (hn:l.length<=1048576)
  (hp:∀ lo v a c G,v∈l->RTags ro h [.sl 2 a v.past.length c] v.past G->Ae lo g (Dy [.agg (v.cs a c)] cl) h=some (.bool (p v),h)) :
  Ae lo 80 [.sl 6 a l.length c,.fn g cl] h=some (.bool (l.any p),h) :=
 Eu (h':=h) (by rw[QP hs hn hp];simp only[Ac,Aa,OZ];rw[IH];simp)
theorem Od {t p:Int} (hs:RVers ro h [.sl 6 a l.length c] l F) (hn:l.length<=1048576) :
  Ae lo 137 [.sl 6 a l.length c,.agg [Iv t,Iv p]] h=some (.bool (Cb l ⟨t,p⟩),h):=by
 refine Rr (h':=h ++ [.rows 2 36 false [[Iv t,Iv p]]]) ?_;rw[Jh (p:=λv=>v.tag.time==t&&v.tag.place==p) (Mv.snoc.keep0 rvers_ok hs) hn (λlo v a c G _ _=>by
  refine OI (h':=h ++ [.rows 2 36 false [[Iv t,Iv p]]]) ?_;have:ld (h ++ [.rows 2 36 false [[Iv t,Iv p]]]) h.length 0 0 2=some [Iv t,Iv p]:=by rw[SF (row := [Iv t,Iv p]) (by rfl)];rfl
  simp only[this,Ag,Ab,Aa,Af,zcj];cases (v.tag.time==t&&v.tag.place==p)<;>rfl)]
 simp only[Ac,Az];unfold Cb;cases (l.any λv=>v.tag.time==t&&v.tag.place==p)<;>rfl
theorem Sli.pre {R R' e n i:Nat}{l:List α} (hs:Sli false R e El h [.sl R' a n c] l F) (hi:i<=l.length):∃ F',Sli false R e El h [.sl R' a i c] (l.take i) F':=by
 have hn:=hs.val;subst hn;obtain ⟨R1,a1,c1,e1,g⟩:=hs;injection e1 with e1 _;injection e1 with e0 e2 _ e3;subst e0;subst e2;subst e3;have hl:(l.take i).length=i:=by simp;omega
 cases a with
 | none =>obtain ⟨rfl,h2,_⟩:=g;exact ⟨[],R',none,c,by rw[hl],by simp,h2,rfl⟩
 | some p =>
  obtain ⟨b,j⟩:=p;obtain ⟨hR,rs,Fs,g1,g2,g3,g4,g5,rfl⟩:=g;refine ⟨b ::(Fs.take i).flatten,R',some (b,j),c,by rw[hl],hR,rs,Fs.take i,g1,by rw[hl];omega,λk hk=>?_,g4,?_,rfl⟩
  ·have:=g3 k hk;rw[hl];omega
  ·rw[hl];have:=g5.take i;rw[List.take_take,Nat.min_eq_left hi] at this;exact this
theorem NX {R R' e n i:Nat}{l:List α} (hs:Sli false R e El h [.sl R' a n c] l F) (hi:i<=l.length) {T:Type}{K:Pq->Nat->Nq->Option T} :
  AL a n c none (some (Iv (i:Nat))) none K=K a i c:=by
 have hn:=hs.val;subst hn;obtain ⟨R1,a',c',h1,h2⟩:=hs;injection h1 with h1 _;injection h1 with e0 e1 e2 e3;subst e0;subst e1;subst e3;have hc:∀ k,c=some k->l.length<=k:=λk hk=>by
  cases a with
  | none=>obtain ⟨rfl,_⟩:=h2;simp
  | some p=>obtain ⟨b,i⟩:=p;obtain ⟨_,_,_,_,_,g3,_⟩:=h2;exact (g3 k hk).1
 unfold AL FP IV JQ;cases c with
 | none=>simp only[Aa,Bm];rw[D1 ⟨by omega,by omega⟩]
 | some k=>have:=hc k rfl;simp only[Aa,Bm];rw[D1 ⟨by omega,by omega⟩]
def L5 (place:Int) (l:List Ver) (i:Nat) (v:Ver):Bool:=Ba v&&(v.tag.place==place) && !Cb (l.take i) v.tag
def Eb (place:Int) (l:List Ver):Bool:=(l.zipIdx.all λx=>L5 place l x.2 x.1)&&decide ((l.length:Int)<=60)
theorem PQ {m:Int} (hs:RVers false h [.sl 6 a l.length c] l F) (hn:Ct l):Ae lo 65 [.sl 6 a l.length c,Iv m] h=some (.bool (Eb m l),h):=by
 have hn1:=hn.1;refine Ts (h':=h) ?_;refine (IK (p:=L5 m l) (l:=l) (λi=>Dr (List.length h) a l.length c m false a l.length c (l.length:Nat) (i:Nat) h) (some (.bool false,h)) (some (.bool (decide ((l.length:Int)<=60)),h)) (λi hi=>?_) ?_).trans ?_
 ·obtain ⟨F2,hpre⟩:=Sli.pre hs (show i<=l.length by omega);have hres:=λ{T:Type} (K:Pq->Nat->Nq->Option T)=>NX hs (show i<=l.length by omega) (K:=K);obtain ⟨o,s,b,d,G,ha,ho,es,hp,_⟩:=hs.get hi;have hm:=hn.2 _ (zbk hi);have hil:(l.take i).length=i:=by simp;omega
  have hpre':RVers false h [.sl 6 a (l.take i).length c] (l.take i) F2:=by rw[hil];exact hpre
  have hht:=λlo=>Od (lo:=lo) (t:=l[i].tag.time) (p:=l[i].tag.place) hpre' (by omega);rw[hil] at hht;rw[Dr.e,Ak (by omega),Ad hi];simp only[ha,Ag,Bm,ho,Ab,Aa,es,Bq,AB,Af];rw[Lj hp hm];simp only[<- ha,Ac,Az,hres,hht,At (show i<9223372036854775807 by omega)];unfold L5;cases Ba l[i]<;>cases (l[i].tag.place==m)<;>cases Cb (l.take i) l[i].tag<;>simp
 ·rw[Dr.e,Aj (by omega)];by_cases h3:(l.length:Int)<=60
  ·rw[Ak h3,decide_eq_true h3]
  ·rw[Aj h3,decide_eq_false h3]
 ·unfold Eb;cases (l.zipIdx.all λx=>L5 m l x.2 x.1)<;>simp
theorem Pg {m:Int} (hs:RVers ro h [.sl 6 a l.length c] l F) (hn:Ct l):Ae lo 122 [.sl 6 a l.length c,Iv m] h=some (.bool (Eb m l),h):=by
 have hn1:=hn.1;refine Ti (h':=h) ?_;have inner:∀ i (hi:i<l.length),CM (List.length h) a l.length c m false (i:Nat) 0 h=if Cb (l.take i) l[i].tag=true then some (.bool false,h) else Ci (List.length h) a l.length c m false ((i+1:Nat):Int) h:=by
  intro i hi;obtain ⟨o,s,b,d,G,ha,_,_,_,_,_,_,ho12,_⟩:=hs.all hi;have hil:(l.take i).length=i:=by simp;omega
  refine (CL (p:=λv:Ver => !(v.tag.time==l[i].tag.time&&v.tag.place==l[i].tag.place)) (l:=l.take i) (λk=>CM (List.length h) a l.length c m false (i:Nat) (k:Nat) h) (some (.bool false,h)) (Ci (List.length h) a l.length c m false ((i+1:Nat):Int) h) (λk hk=>?_) ?_).trans ?_
  ·have hkl:k<l.length:=by omega
   obtain ⟨o',s',b',d',G',ha',_,_,_,_,_,_,ho12',_⟩:=hs.all hkl;have hoo:o'=o:=by rw[ha] at ha';injection ha' with ha';exact ha'.symm
   subst hoo;rw[CM.e,Ak (by omega),Ad hkl];simp only[ha,Ag,Bm,ho12,ho12',Ab,Aa,Af,Ad hi,zcj,List.getElem_take,At (show k<9223372036854775807 by omega)];cases (l[k].tag.time==l[i].tag.time&&l[k].tag.place==l[i].tag.place)<;>simp
  ·rw[hil,CM.e,Aj (by omega),At (by omega)]
  ·unfold Cb;rw[List.any_eq_not_all_not];cases ((l.take i).all λv:Ver => !(v.tag.time==l[i].tag.time&&v.tag.place==l[i].tag.place))<;>simp
 refine (IK (p:=L5 m l) (l:=l) (λi=>Ci (List.length h) a l.length c m false (i:Nat) h) (some (.bool false,h)) (some (.bool (decide ((l.length:Int)<=60)),h)) (λi hi=>?_) ?_).trans ?_
 ·have hin:=inner i hi;obtain ⟨o,s,b,d,G,ha,_,_,ho2,_,_,_,_,ho,es,hp,_⟩:=hs.all hi;have hm:=hn.2 _ (zbk hi);rw[Ci.e,Ak (by omega),Ad hi];simp only[ha,Ag,Bm,ho,Ab,Aa,es,Bq,AB,Af];rw[MV hp hm];simp only[Ac,Az,Ad hi,ho2,Ag,Ab,Af,Aa];rw[<- ha,hin];unfold L5;cases Ba l[i]<;>cases (l[i].tag.place==m)<;>cases Cb (l.take i) l[i].tag<;>simp
 ·rw[Ci.e,Aj (by omega)];by_cases h3:(l.length:Int)<=60
  ·rw[Ak h3,decide_eq_true h3]
  ·rw[Aj h3,decide_eq_false h3]
 ·unfold Eb;cases (l.zipIdx.all λx=>L5 m l x.2 x.1)<;>simp
end


variable {l:List Node}
def Bt (l:List Ver):List Tag:=l.map λv=>v.tag
section
variable {lo:Nat}{ro ro':Bool}{h:Heap}{F F':List Nat}{a a':Pq}{c c':Nq}
theorem NU {l:List Ver} (hs:RVers ro h [.sl 6 a l.length c] l F) (hl:lo<=h.length) (hn:l.length<=1048576) :
  ∃ v h' F',Ae lo 114 [.agg [.sl 6 a l.length c]] h=some (.agg [v],h')/\RTags false h' [v] (Bt l) F'/\Mv h [] h' F':=by
 obtain ⟨q,a',c',h',F',e,r,m⟩:=Dn (El:=flat Tag.cs) CF (h:=h) (l:=l) (f:=λv=>v.tag) (lo:=lo) (R:=2) (e:=36) (bytes:=16) hl (by decide) (by omega)
  (λi q a1 n1 c1 hh=>C4 lo (i:Nat) a l.length c 0 none 0 (some 0) q a1 n1 c1 hh) (λi hi q a1 n1 c1 hh hm=>by
   obtain ⟨o,s,b,d,G,ha,_,_,_,_,_,_,ho12,_⟩:=(hm.keep0 rvers_ok hs).all hi;refine ⟨[Iv l[i].tag.time,Iv l[i].tag.place],[],hh ++ [.rows 2 36 false [[Iv l[i].tag.time,Iv l[i].tag.place]]],⟨rfl,rfl⟩,Mv.snoc,?_⟩;rw[C4.e,Ak (by omega),Ad hi];simp only[ha,Ag,Bm,ho12,Ab,Aa,Af,A9,At (show i<9223372036854775807 by omega)])
 refine ⟨_,h',F',Rc ?_,r,m⟩;refine e.trans ?_;rw[C4.e,Aj (by omega)]
theorem Nf {l:List Ver} (hs:RVers ro h [.sl 6 a l.length c] l F) (hl:lo<=h.length) (h4:l.length=4) :
  ∃ v h' F',Ae lo 67 [.agg [.sl 6 a l.length c]] h=some (.agg [v],h')/\RTags false h' [v] (Bt l) F'/\Mv h [] h' F':=by
 obtain ⟨h',F',e,r,m⟩:=XD (El:=flat Tag.cs) CF (h0:=h) (l:=l) (f:=λv=>v.tag) (lo:=lo) (R:=2) (e:=36) (z := [Iv 0,Iv 0]) rfl hl
  (λi hh=>BP lo a l.length c (l.length:Nat) (i:Nat) 0 none 0 (some 0) (some (h.length,0)) 4 (some 4) hh) (λi hi hh hm=>by
   obtain ⟨o,s,b,d,G,rfl,ho,es,_,_⟩:=(hm.keep0 rvers_ok hs).get hi;refine ⟨[Iv l[i].tag.time,Iv l[i].tag.place],[],hh,⟨rfl,rfl⟩,Mv.nil,rfl,?_⟩;rw[BP.e,Ak (by omega),Ad hi];simp only[Ag,Bm,ho,Ab,Aa,es,Bq,AB,Af,Ad (show i<4 by omega),zbQ,At (show i<9223372036854775807 by omega)])
 rw[h4] at r;refine ⟨_,h',F',MD ?_,r,m⟩;rw[OL (r:=(.agg [.sl 2 (some (h.length,0)) 4 (some 4)],h ++ [.rows 2 36 false (List.replicate l.length [Iv 0,Iv 0])])) (by rw[h4];rfl)];simp only[Ac,AA,Ab,Ah,Af];refine e.trans ?_;rw[BP.e,Aj (by omega)]
def AW (l:List Node):List Tag:=match l.getLast? with | some x=>Bt x.store | none => []
theorem If (h0:0<l.length):AW l=Bt (l[l.length - 1]'(by omega)).store:=by unfold AW;rw[zcw,Dx (by omega)]
theorem Hh (hs:RNodes ro h [.sl 2 a l.length c] l F) (hl:lo<=h.length) (hn:CD l) (h0:0<l.length) :
  ∃ v h' F',Ae lo 47 [.agg [.sl 2 a l.length c]] h=some (.agg [v],h')/\RTags false h' [v] (AW l) F'/\Mv h [] h' F':=by
 have hn1:=hn.1;obtain ⟨o,s1,s2,a1,c1,a2,c2,F1,F2,ha,_,ho1,_,e1,_,p1,_⟩:=hs.get (show l.length - 1<l.length by omega);obtain ⟨v,h',F',e,r,m⟩:=NU (lo:=lo) p1 hl (hn.2 _ (zbk _)).1.1;obtain ⟨a',c',es,r'⟩:=r.form;rw[If h0];refine ⟨_,h',F',Ow ?_,r',m⟩;rw[wr (by omega) (by omega),Cu ⟨by omega,by omega⟩,ha,Ag,show ((l.length:Int) - 1).toNat=l.length - 1 by omega,ho1];simp only[Ag,Ab,Af,e1];rw[e];simp only[Ac,AA,Ab,es,Af]
end


variable {t:Tag}{u v:Ver}{s:ByteArray}{l:List Tag}
abbrev tx (l:List UInt8):ByteArray:=⟨⟨l⟩⟩
theorem HX {a b:List UInt8}:tx a++tx b=tx (a++b):=by apply ByteArray.ext;simp[tx]
theorem CC {a:List UInt8}:(tx a).size=a.length:=rfl
theorem W0 {a:List UInt8}:(tx a).toList=a:=by rw[zcA]
theorem U5 (s:ByteArray):tx s.data.toList=s:=rfl
def JR (n:Nat):List UInt8:=if n<10 then [UInt8.ofNat (48+n)] else JR (n / 10) ++ [UInt8.ofNat (48+n % 10)]
termination_by n
decreasing_by omega
theorem I9 (n:Nat):(JR n).length<=n+1:=by
 induction n using Nat.strongRecOn with
 | ind n ih =>
  unfold JR;split
  ·simp
  ·have:=ih (n / 10) (by omega);simp only[zbw,zbE];omega
def zan (l:List UInt8):Nat:=l.foldl (λa c=>a*10+(c.toNat - 48)) 0
theorem OW {k:Nat} (h:k<10):(UInt8.ofNat (48+k)).toNat=48+k:=by rw[UInt8.toNat_ofNat'];omega
theorem UI (n:Nat):zan (JR n)=n:=by
 induction n using Nat.strongRecOn with
 | ind n ih =>
  unfold JR;split
  ·rename_i h;simp only[zan,zb3,List.foldl_nil,OW h];omega
  ·have:=ih (n / 10) (by omega);simp only[zan,List.foldl_append,zb3,List.foldl_nil] at this ⊢;rw[this,OW (Nat.mod_lt _ (by decide))];omega
theorem Qb {n m:Nat} (h:JR n=JR m):n=m:=by rw[<- UI n,<- UI m,h]
theorem Y2 (n:Nat):∀ c∈JR n,48<=c.toNat/\c.toNat<=57:=by
 induction n using Nat.strongRecOn with
 | ind n ih =>
  unfold JR;split
  ·rename_i h
   intro c hc;simp only[zbr] at hc;subst hc;rw[OW h];omega
  ·intro c hc;rw[zbl] at hc;rcases hc with hc | hc
   ·exact ih (n / 10) (by omega) c hc
   ·simp only[zbr] at hc;subst hc;rw[OW (Nat.mod_lt _ (by decide))];omega
theorem I8 {n:Nat}{c:UInt8} (hc:c.toNat<48):c∉JR n:=λh=>by have:=Y2 n c h;omega
def FS (t:Tag):List UInt8:=JR t.time.toNat++46 :: JR t.place.toNat
def B0 (l:List Tag):List UInt8:=l.flatMap λt=>32 :: FS t
def Ku (v:Ver):List UInt8:=bif v.gone then [45] else 61 :: v.text.data.toList
def Lb (v:Ver):List UInt8:=JR v.key.toNat++32 ::(FS v.tag++B0 v.past++32 :: Ku v)
theorem OY {x:UInt8}:∀ {a a' b b':List UInt8},a++x :: b=a'++x :: b'->x∉a->x∉a'->a=a'/\b=b'
 | [],[],b,b',h,_,_=>⟨rfl,by simpa using h⟩
 | [],y :: a',b,b',h,_,h'=>by simp only[zbS,zbT,List.cons.injEq] at h;exact absurd (by simp[h.1]) h'
 | y :: a,[],b,b',h,h',_=>by simp only[zbS,zbT,List.cons.injEq] at h;exact absurd (by simp[h.1]) h'
 | y :: a,z :: a',b,b',h,h1,h2=>by simp only[zbT,List.cons.injEq] at h;simp only[zbx,not_or] at h1 h2;obtain ⟨e1,e2⟩:=OY h.2 h1.2 h2.2;exact ⟨by rw[h.1,e1],e2⟩
theorem Px:(32:UInt8)∉FS t:=by unfold FS;simp only[zbl,zbx,not_or];exact ⟨I8 (by decide),by decide,I8 (by decide)⟩
theorem Vs {u:Tag} (ht:A6 t.time t.place=true) (hu:A6 u.time u.place=true) (h:FS t=FS u):t=u:=by
 have h1:=DW ht;have h2:=DW hu;obtain ⟨e1,e2⟩:=OY h (I8 (by decide)) (I8 (by decide));have e1:=Qb e1;have e2:=Qb e2;cases t;cases u;simp only[Tag.mk.injEq] at *
 omega
theorem N0:∀ {p q:List Tag}{r s:List UInt8},p.length=q.length->(∀ t∈p,A6 t.time t.place=true)->(∀ t∈q,A6 t.time t.place=true) ->
  B0 p++32 :: r=B0 q++32 :: s->p=q/\r=s
 | [],[],r,s,_,_,_,h=>⟨rfl,by simpa [B0] using h⟩
 | [],_ :: _,_,_,h,_,_,_=>by simp at h
 | _ :: _,[],_,_,h,_,_,_=>by simp at h
 | t :: p,u :: q,r,s,hl,hp,hq,h=>by
  have e:∀ (x:List Tag) (z:List UInt8),∃ w,B0 x++32 :: z=32 :: w:=by
   intro x z;cases x with
   | nil=>exact ⟨z,rfl⟩
   | cons a x=>exact ⟨_,by simp only[B0,zcy,zbT];rfl⟩
  obtain ⟨w1,hw1⟩:=e p r;obtain ⟨w2,hw2⟩:=e q s;have h0:FS t++(B0 p++32 :: r)=FS u++(B0 q++32 :: s):=by simpa [B0,zcy] using h
  rw[hw1,hw2] at h0;obtain ⟨e1,e2⟩:=OY h0 Px Px;have et:=Vs (hp t (by simp)) (hq u (by simp)) e1;obtain ⟨e3,e4⟩:=N0 (by simpa using hl) (λx hx=>hp x (by simp[hx])) (λx hx=>hq x (by simp[hx])) (show B0 p++32 :: r=B0 q++32 :: s by rw[hw1,hw2,e2]);exact ⟨by rw[et,e3],e4⟩
theorem Jn {p:List Tag} (h:Bb p=true):∀ t∈p,A6 t.time t.place=true:=by simp only[Bb,DH,zby] at h;exact h.2
theorem AT (h:Ba v=true):(0<=v.key/\v.key<=3)/\DR v.text=true/\(v.gone=true->v.text.size=0)/\Bb v.past=true/\A6 v.tag.time v.tag.place=true/\DT v.past<v.tag.time:=by
 simp only[Ba,E5,An,DH,decide_eq_true_eq,zb6,zb2,DY] at h;obtain ⟨⟨⟨⟨⟨⟨h1,h2⟩,h3⟩,h4⟩,h5⟩,h6⟩,h7⟩:=h;refine ⟨⟨h1,h2⟩,h3,λhg=>?_,h5,h6,h7⟩;rcases h4 with h4 | h4
 ·rw[hg] at h4;cases h4
 ·exact h4
theorem KG {t:ByteArray} (h:s.data.toList=t.data.toList):s=t:=by rw[<- U5 s,<- U5 t,h]
theorem Nv (h:s.size=0):s.data.toList = []:=zbu (by simpa using h)
theorem Vr (hv:Ba v=true) (hu:Ba u=true) (h:Lb v=Lb u):v=u:=by
 obtain ⟨⟨k1,k2⟩,_,g1,p1,t1,_⟩:=AT hv;obtain ⟨⟨k3,k4⟩,_,g2,p2,t2,_⟩:=AT hu;obtain ⟨e1,e2⟩:=OY h (I8 (by decide)) (I8 (by decide));have e1:=Qb e1;have l1:=Bx p1;have l2:=Bx p2;have e3:B0 (v.tag :: v.past)++32 :: Ku v=B0 (u.tag :: u.past)++32 :: Ku u:=by simp only[B0,zcy,zbT,zbB] at e2 ⊢;rw[e2]
 obtain ⟨e4,e5⟩:=N0 (by simp[l1,l2]) (λt ht=>by
  rcases zbx.1 ht with rfl | ht
  ·exact t1
  ·exact Jn p1 t ht) (λt ht=>by
  rcases zbx.1 ht with rfl | ht
  ·exact t2
  ·exact Jn p2 t ht) e3
 injection e4 with e6 e7;have e8:v.gone=u.gone/\v.text=u.text:=by
  unfold Ku at e5;cases hg:v.gone<;>cases hg2:u.gone<;>simp only[hg,hg2,cond_true,cond_false,List.cons.injEq] at e5
  ·exact ⟨rfl,KG e5.2⟩
  ·exact absurd e5.1 (by decide)
  ·exact absurd e5.1 (by decide)
  ·exact ⟨rfl,KG (by rw[Nv (g1 hg),Nv (g2 hg2)])⟩
 cases v;cases u;simp only[Ver.mk.injEq] at *
 exact ⟨by omega,e6,e7,e8.2,e8.1⟩
theorem same_iff:DX v u=true<->v=u:=by
 cases v with | mk k1 t1 p1 s1 g1=>cases u with | mk k2 t2 p2 s2 g2 =>
 cases t1;cases t2;simp only[DX,DH,beq_iff_eq,decide_eq_true_eq,Ver.mk.injEq,Tag.mk.injEq];constructor
 ·rintro ⟨⟨⟨⟨h1,h2⟩,h3⟩,h4⟩,h5⟩
  exact ⟨h1,h2,h3,KG (by rwa [zcA,zcA] at h4),h5⟩
 ·rintro ⟨h1,h2,h3,h4,h5⟩
  exact ⟨⟨⟨⟨h1,h2⟩,h3⟩,by rw[h4]⟩,h5⟩
theorem T5 (hv:Ba v=true) (hu:Ba u=true):(Lb v==Lb u)=DX v u:=by rw[zcq,beq_iff_eq,same_iff];exact ⟨Vr hv hu,λh=>by rw[h]⟩
section
variable {lo:Nat}{ro ro':Bool}{h:Heap}{F F':List Nat}{a a':Pq}{c c':Nq}
theorem Sj {n:Int} (h0:0<=n) (h1:n<10):JA [IntKind.wrap .u8 (Ao (48+n))]=tx [UInt8.ofNat (48+n.toNat)]:=by
 have e:IntKind.wrap .u8 (Ao (48+n))=((48+n.toNat:Nat):Int):=by
  rw[wr (by omega) (by omega)];obtain ⟨k,rfl⟩:=Int.eq_ofNat_of_zero_le h0;have:k<10:=by omega
  rcases k with _ | _ | _ | _ | _ | _ | _ | _ | _ | _ | k<;>first | rfl | omega
 rw[e];rfl
theorem La:∀ {n:Int},0<=n->n<=1000000000->∀ {lo:Nat}{h:Heap},Ae lo 304 [Iv n] h=some (.str (tx (JR n.toNat)),h):=by
 suffices ∀ (m:Nat) (n:Int),n.toNat=m->0<=n->n<=1000000000->∀ {lo:Nat}{h:Heap},Ae lo 304 [Iv n] h=some (.str (tx (JR n.toNat)),h) from λ{n} h0 h1 {lo}{h}=>this n.toNat n rfl h0 h1;intro m;induction m using Nat.strongRecOn with
 | ind m ih =>
  intro n hm h0 h1 lo h;by_cases h10:n<10
  ·refine My (h':=h ++ [.rows 1 5 false [[.int .u8 (IntKind.wrap .u8 (Ao (48+n)))]]]) ?_;rw[Aj (by omega),Aj (by omega),Ak h10];simp only[A9,E3,Ag];rw[Sj h0 h10];unfold JR;rw[if_pos (by omega)]
  ·have e1:n.tdiv 10=n / 10:=Int.tdiv_eq_ediv_of_nonneg h0;have e2:n.tmod 10=n % 10:=Int.tmod_eq_emod_of_nonneg h0;refine My (h':=h ++ [.rows 1 5 false [[.int .u8 (IntKind.wrap .u8 (Ao (48+n.tmod 10)))]]]) ?_;have hl:=I9 (n / 10).toNat;rw[Aj (by omega),Aj (by omega),Aj h10,e1,wr (by omega) (by omega),ih (n / 10).toNat (by omega) (n / 10) rfl (by omega) (by omega)];simp only[Ac,Bq,A9,E3,Ag];rw[e2,Sj (by omega) (by omega),In (by rw[CC,CC];simp only[zbE];omega),HX];conv=>rhs;unfold JR
   rw[if_neg (by omega),show (n / 10).toNat=n.toNat / 10 by omega,show (n % 10).toNat=n.toNat % 10 by omega]
theorem Lc (h:A6 t.time t.place=true):(FS t).length<=1010:=by have h1:=DW h;have h2:=I9 t.time.toNat;have h3:=I9 t.place.toNat;simp only[FS,zbw,zb7];omega
theorem Po (ht:A6 t.time t.place=true):Ae lo 305 [.agg [Iv t.time,Iv t.place]] h=some (.str (tx (FS t)),h):=by have h1:=DW ht;have h2:=I9 t.time.toNat;have h3:=I9 t.place.toNat;refine Tp (h':=h) ?_;rw[La (by omega) (by omega)];simp only[Ac,Bq];rw[In (by rw[CC,CC];simp only[zbE];omega),HX,La (by omega) (by omega)];simp only[Ac,Bq];rw[In (by rw[CC,CC];simp only[zbw,zbE];omega),HX];simp[FS]
theorem NZ (h:∀ t∈l,A6 t.time t.place=true):(B0 l).length<=1011*l.length:=by
 induction l with
 | nil=>simp[B0]
 | cons t l ih =>have h1:=ih λx hx=>h x (by simp[hx]);have h2:=Lc (h t (by simp));simp only[B0,zcy,zbw,zb7] at h1 ⊢;omega
theorem TS (hs:RTags ro h [.sl 2 a l.length c] l F) (hp:∀ t∈l,A6 t.time t.place=true) (hn:l.length<=1048576):Ae lo 306 [.agg [.sl 2 a l.length c]] h=some (.str (tx (B0 l)),h):=by
 refine Rf (h':=h) ?_;have loop:∀ m i,m+i=l.length->C5 (List.length h) (tx (B0 (l.take i))) (i:Nat) a l.length c h=some (.str (tx (B0 l)),h):=by
  intro m;induction m with
  | zero =>
   intro i hi;have:i=l.length:=by omega
   subst this;rw[C5.e,Aj (by omega),List.take_length]
  | succ m ih =>
   intro i hi;have hlt:i<l.length:=by omega
   obtain ⟨o,ha,ho⟩:=hs.get hlt;have hl:=NZ (l:=l.take i) λt ht=>hp t (zcK ht);have hl2:=Lc (hp _ (zbk hlt));simp only[zco] at hl;rw[C5.e,Ak (by omega),In (by rw[CC,CC];simp only[zbE];omega),Ad hlt];simp only[ha,Ag,Bm,ho,Ab,Aa,Af];rw[Po (hp _ (zbk hlt))];simp only[Ac,Bq];rw[HX,In (by rw[CC,CC];simp only[zbw,zbE];omega),HX,At (by omega),<- ha];have e9:B0 (l.take (i+1))=B0 (l.take i) ++ [32]++FS l[i]:=by rw[List.take_add_one,Dx hlt];simp only[B0,Option.toList,List.flatMap_append,zcy,List.flatMap_nil,zcf,zbB,List.singleton_append]
   have:=ih (i+1) (by omega);rw[e9] at this;exact this
 simpa [B0] using loop l.length 0 (by omega)
theorem DU (h:DR s=true):s.size<=8:=by simp only[DR,DH,decide_eq_true_eq] at h;omega
theorem Pl (hs:RTags ro h [.sl 2 a v.past.length c] v.past F) (hv:Ba v=true):Ae lo 286 [.agg (v.cs a c)] h=some (.str (tx (Lb v)),h):=by
 obtain ⟨⟨k1,k2⟩,ht,_,hp,htg,_⟩:=AT hv;have h0:=DU ht;have h4:=Bx hp;have h1:=I9 v.key.toNat;have h2:=Lc htg;have h3:=NZ (Jn hp);rw[h4] at h3;have e:=λlo=>TS (lo:=lo) hs (Jn hp) (by omega);have hts:(⟨⟨[61]⟩⟩:ByteArray)++v.text=tx (61 :: v.text.data.toList):=by rw[<- U5 v.text];exact HX
 have key:∀ (r:List UInt8) {T:Type} (K:ByteArray->Heap->Option T),r.length<=9->(Ai (Ae (List.length h) 304 [Iv v.key] h) λv_1 h_2=>eT v_1 λs_3=>Ms s_3 ⟨⟨[32]⟩⟩ λs_4=>Ai (Ae (List.length h) 305 [.agg [Iv v.tag.time,Iv v.tag.place]] h_2) λv_5 h_6=>eT v_5 λs_7=>Ms s_4 s_7 λs_8 =>
   Ai (Ae (List.length h) 306 [.agg [.sl 2 a v.past.length c]] h_6) λv_9 h_10=>eT v_9 λs_11=>Ms s_8 s_11 λs_12=>Ms s_12 ⟨⟨[32]⟩⟩ λs_13=>Ms s_13 (tx r) λs_14=>K s_14 h_10)=K (tx (JR v.key.toNat++32 ::(FS v.tag++B0 v.past++32 :: r))) h:=by
  intro r T K hr;rw[La (by omega) (by omega)];simp only[Ac,Bq];rw[In (by rw[CC,CC];simp only[zbE];omega)];rw[Po htg];simp only[Ac,Bq];rw[HX,In (by rw[CC,CC];simp only[zbw,zbE];omega)];rw[e];simp only[Ac,Bq];rw[HX,In (by rw[CC,CC];simp only[zbw,zbE];omega)];rw[HX,In (by rw[CC,CC];simp only[zbw,zbE];omega)];rw[HX,In (by rw[CC,CC];simp only[zbw,zbE];omega)];rw[HX];simp
 refine Tm (h':=h) ?_;rw[In (by rw[CC];simp only[zbE];omega),hts];cases hg:v.gone
 ·rw[Ay];refine (key (61 :: v.text.data.toList) (T:=V×Heap) (λs h=>some (V.str s,h)) (by simp;omega)).trans ?_;simp[Lb,Ku,hg]
 ·rw[Ap];refine (key [45] (T:=V×Heap) (λs h=>some (V.str s,h)) (by simp)).trans ?_;simp[Lb,Ku,hg]
theorem TR (hs:RTags ro h [.sl 2 a v.past.length c] v.past F) (hs':RTags ro' h [.sl 2 a' u.past.length c'] u.past F') (hv:Ba v=true) (hu:Ba u=true) :
  Ae lo 248 [.agg (v.cs a c),.agg (u.cs a' c')] h=some (.bool (DX v u),h):=by
 refine Re (h':=h) ?_;rw[Pl hs hv];simp only[Ac,Bq];rw[Pl hs' hu];simp only[Ac,Bq,W0];rw[T5 hv hu];cases DX v u<;>rfl
end


variable {l:List Ver}{v:Ver}{ro:Bool}
theorem Sli.at {α:Type}{El:Rel α} (ok:El.Ok) {h:Heap}{R R' e n k lo:Nat}{a:Pq}{c:Nq}{l:List α}{F:List Nat} (hs:Sli false R e El h [.sl R' a n c] l F) (hk:k<l.length) (hnd:F.Nodup) (hlo:∀ b∈F,lo<=b) :
  ∃ b i rs row G,a=some (b,i)/\b∈F/\b∉G/\h[b]?=some (.rows R e false rs)/\rs[i+k]?=some row/\El h row l[k] G/\(∀ y∈G,y∈F)/\G.Nodup /\
   (∀ h' x' G',Mv h G h' G'->El h' row x' G'->∃ F',Sli false R e El h' [.sl R' a n c] (l.set k x') F'/\Mv h F h' F') /\
   (∀ h1 G1 j cs row' x',Mv h G h1 G1->paste row j cs=some row'->El h1 row' x' G1 ->
    ∃ h2 F',st lo h1 b (i+k) j cs=some h2/\Sli false R e El h2 [.sl R' a n c] (l.set k x') F'/\Mv h F h2 F'/\h2[b]?=some (.rows R e false (rs.set (i+k) row'))/\(∀ y,y≠b->h2[y]?=h1[y]?)/\h2.length=h1.length):=by
 have hbd:=(Sli.ok ok).bd _ _ _ _ hs;obtain ⟨b,i,rs,row,G,ha,hbF,hbG,hb,hrow,hel,hGF,hGn,put⟩:=hs.put ok.fr hk hnd;have hblt:b<h.length:=hbd b hbF;refine ⟨b,i,rs,row,G,ha,hbF,hbG,hb,hrow,hel,hGF,hGn,λh' x' G' m hx=>?_,λh1 G1 j cs row' x' m hp hx=>?_⟩
 ·obtain ⟨F',p1,p2,p3,_⟩:=put h' row x' G' (by rw[set_same hrow,m.fr b hblt hbG];exact hb) (λy hy _ hyG=>m.fr y (hbd y hy) hyG) hx m.nd (λy hy hyF=>by
   rcases m.sub y hy with h1 | h1
   ·exact h1
   ·have:=hbd y hyF;omega)
  refine ⟨F',p1,m.le,λy hy hyF=>m.fr y hy λhg=>hyF (hGF y hg),p3,λy hy=>?_⟩;rcases p2 y hy with h1 | h1
  ·exact .inl h1.1
  ·exact (m.sub y h1).imp (hGF y) id
 ·have hbG1:b∉G1:=λhm=>by
   rcases m.sub b hm with h1 | h1
   ·exact hbG h1
   ·omega
  have hb1:h1[b]?=some (.rows R e false rs):=by rw[m.fr b hblt hbG];exact hb
  have hb1lt:b<h1.length:=zbv hblt m.le;have e2:=D5 hb1 (hlo b hbF) hrow hp;have fr2:∀ y,y≠b->(h1.set b (.rows R e false (rs.set (i+k) row')))[y]?=h1[y]?:=λy hy=>zbq (Ne.symm hy);obtain ⟨F',p1,p2,p3,_⟩:=put (h1.set b (.rows R e false (rs.set (i+k) row'))) row' x' G1 (by simp[hb1lt]) (λy hy hyb hyG=>by rw[fr2 y hyb];exact m.fr y (hbd y hy) hyG)
   (ok.fr _ _ _ _ _ hx λy hy=>fr2 y λe=>hbG1 (e ▸ hy)) m.nd (λy hy hyF=>by
   rcases m.sub y hy with h1 | h1
   ·exact h1
   ·have:=hbd y hyF;omega)
  refine ⟨_,F',e2,p1,⟨by simpa using m.le,λy hy hyF=>?_,p3,λy hy=>?_⟩,by simp[hb1lt],fr2,by simp⟩
  ·rw[fr2 y λe=>hyF (e ▸ hbF)];exact m.fr y hy λhg=>hyF (hGF y hg)
  ·rcases p2 y hy with h1 | h1
   ·exact .inl h1.1
   ·refine (m.sub y h1).imp (hGF y) λh=>by simpa using h
def A7 (v u:Ver):Bool:=GA v.tag.time v.tag.place u.tag.time u.tag.place
def DS (s t:List Ver):Bool:=decide (s.length=t.length)&&(s.zip t).all λx=>DX x.1 x.2
theorem sameVers_iff {s t:List Ver}:DS s t=true<->s=t:=by
 unfold DS;rw[DH,decide_eq_true_eq,zby];constructor
 ·rintro ⟨hl,hx⟩
  apply List.ext_getElem hl;intro i h1 h2;have:=hx (s[i],t[i]) (by rw[zbV];exact ⟨i,by simp;omega,by simp⟩);exact same_iff.1 this
 ·rintro rfl
  refine ⟨rfl,λx hx=>?_⟩;obtain ⟨i,hi,rfl⟩:=zbV.1 hx;simp[same_iff]
def Ek (l:List Ver) (v:Ver):List Ver:=match l[v.key.toNat]? with
 | some x=>bif A7 x v then l.set v.key.toNat v else l
 | none=>l
theorem Lq (h:v.key.toNat<l.length):Ek l v=bif A7 l[v.key.toNat] v then l.set v.key.toNat v else l:=by unfold Ek;rw[Dx h]
theorem addVer_len:(Ek l v).length=l.length:=by
 unfold Ek;split
 ·cases A7 _ v<;>simp
 ·rfl
theorem XX (h:Ba v=true):Ho v.key.toNat v=true:=by have:=(AT h).1;unfold Ho;rw[h,show (v.key==((v.key.toNat:Nat):Int))=true by rw[beq_iff_eq];omega];simp
theorem It (hl:AU l=true) (hv:Ba v=true):AU (l.set v.key.toNat v)=true:=by
 have h4:=A3 hl;unfold AU;rw[DH,zby,decide_eq_true_eq];refine ⟨λx hx=>?_,by simpa using h4⟩;rw[zcl] at hx;have hi:=(Gz hx).1;rw[List.getElem?_set] at hx;split at hx
 ·rename_i he
  split at hx
  ·injection hx with hx;rw[<- hx,<- he];exact XX hv
  ·cases hx
 ·rw[Dx (by simpa using hi)] at hx;injection hx with hx;rw[<- hx];exact Df hl _
theorem TJ (hl:AU l=true) (hv:Ba v=true):AU (Ek l v)=true:=by
 unfold Ek;split
 ·cases A7 _ v
  ·exact hl
  ·exact It hl hv
 ·exact hl
def DB:List Ver->List Ver->Option (List Ver)
 | s,[]=>some s
 | s,v :: r=>match s[v.key.toNat]? with
  | some x=>bif A7 x v then DB (s.set v.key.toNat v) r else none
  | none=>none
def fits (x:Node) (next:List Ver):Bool:=match DB next x.wait with
 | some s=>DS s x.store
 | none=>false
def BY (x:Node):Bool:=AU x.store&&decide ((x.wait.length:Int)<=6)&&x.wait.all Ba
def EV (l:List Node) (k:Nat) (x:Node):Bool:=match l[k+1]? with
 | some y=>fits x y.store
 | none=>decide (x.wait.length=0)
def Cs (l:List Node):Bool:=An l.length 1 4&&l.all BY&&l.zipIdx.all λx=>EV l x.2 x.1
theorem AH {x:Node} (h:BY x=true):AU x.store=true/\x.wait.length<=6/\∀ v∈x.wait,Ba v=true:=by simp only[BY,DH,decide_eq_true_eq,zby] at h;exact ⟨h.1.1,by have:=h.1.2;omega,h.2⟩
section
variable {lo:Nat}{h:Heap}{F F':List Nat}{a a':Pq}{c c':Nq}
theorem PR {ca:Pq}{cc:Nq}{n:Nat} (hs:RVers ro h [.sl 6 a l.length c] l F) (hk:0<=v.key/\v.key<l.length) :
  Ae lo 210 [.agg [.sl 6 a l.length c],.agg [Iv v.key,Iv v.tag.time,Iv v.tag.place,.sl 2 ca n cc,.str v.text,.bool v.gone]] h=some (.bool (A7 (l[v.key.toNat]'(by omega)) v),h):=by
 refine Ly (h':=h) ?_;obtain ⟨o,s,b,d,G,ha,_,_,_,_,_,_,ho12,_⟩:=hs.all (show v.key.toNat<l.length by omega);rw[Cu ⟨by omega,by omega⟩,ha];simp only[Ag,ho12,Ab,Aa,Af,HN,Ac,Az];unfold A7;cases GA _ _ _ _<;>rfl
theorem PT {l':List Ver}{ro':Bool} (hs:RVers ro h [.sl 6 a l.length c] l F) (hs':RVers ro' h [.sl 6 a' l'.length c'] l' F') (hn:Ct l) :
  Ae lo 234 [.sl 6 a l.length c,.sl 6 a' l'.length c',.fn 155 []] h=some (.bool (DS l l'),h):=by
 have hn1:=hn.1;refine Da (h':=h) ?_;unfold DS;by_cases hl:l.length=l'.length
 ·rw[show ((l.length:Int)==(l'.length:Int))=true by simp;omega,Ap,decide_eq_true hl];have hz:(l.zip l').length=l.length:=by simp;omega
  refine (CL (p:=λx:Ver×Ver=>DX x.1 x.2) (l:=l.zip l') (λi=>Ar (List.length h) a' l'.length c' 155 [] false a l.length c (l.length:Nat) (i:Nat) h) (some (.bool false,h)) (some (.bool true,h)) (λi hi=>?_) ?_).trans ?_
  ·have hil:i<l.length:=by omega
   have hil':i<l'.length:=by omega
   obtain ⟨o,s,b,d,G,ha,ho,es,hp,_⟩:=hs.get hil;obtain ⟨o',s',b',d',G',ha',ho',es',hp',_⟩:=hs'.get hil';rw[Ar.e,Ak (by omega),Ad hil];simp only[ha,ha',Ag,Bm,ho,ho',Ab,Aa,es,es',Bq,AB,Af,Ad hil',Dy,zcf];rw[Xv hp hp' (hn.2 _ (zbk hil)).1];simp only[Ac,Az,zcU,At (show i<9223372036854775807 by omega)];cases DX l[i] l'[i]<;>simp
  ·rw[hz,Ar.e,Aj (by omega)]
  ·cases (l.zip l').all λx=>DX x.1 x.2<;>rfl
 ·rw[show ((l.length:Int)==(l'.length:Int))=false by simp;omega,Ay,decide_eq_false hl];rfl
theorem On {l':List Ver}{ro':Bool} (hs:RVers ro h [.sl 6 a l.length c] l F) (hs':RVers ro' h [.sl 6 a' l'.length c'] l' F') (hn:Ct l) :
  Ae lo 211 [.agg [.sl 6 a l.length c],.agg [.sl 6 a' l'.length c']] h=some (.bool (DS l l'),h):=by
 refine ME (h':=h) ?_;rw[PT hs hs' hn];simp only[Ac,Az];cases DS l l'<;>rfl
theorem K9 {av:Pq}{cv:Nq}{G:List Nat} (hs:RVers false h [.sl 6 a l.length c] l F) (hv:RTags false h [.sl 2 av v.past.length cv] v.past G)
  (hnd:F.Nodup) (hlo:∀ b∈F,lo<=b) (hl:lo<=h.length) (hk:0<=v.key/\v.key<l.length) (hn:v.past.length<=1048576) :
  ∃ h' F',Ae lo 198 [.agg [.sl 6 a l.length c],.agg (v.cs av cv)] h=some (.agg [.sl 6 a l.length c],h')/\RVers false h' [.sl 6 a l.length c] (Ek l v) F'/\Mv h F h' F':=by
 have hkl:v.key.toNat<l.length:=by omega
 obtain ⟨o,s,b,d,G1,ha,_,_,_,_,_,_,ho12,_⟩:=hs.all hkl;suffices hk:∃ h' F',_=some (V.agg [.sl 6 a l.length c],h')/\RVers false h' [.sl 6 a l.length c] (Ek l v) F'/\Mv h F h' F' from hk.imp λh' hk=>hk.imp λF' hk=>⟨To hk.1,hk.2⟩
 rw[Cu ⟨by omega,by omega⟩];simp only[ha,Ag,ho12,Ab,Aa,Af,BF,Ac,Az];rw[Lq hkl];show ∃ h' F',br (A7 l[v.key.toNat] v) _ _=_/\_;cases hle:A7 l[v.key.toNat] v with
 | false=>exact ⟨h,F,rfl,by rw[<- ha];exact hs,Mv.refl hnd⟩
 | true =>
  obtain ⟨b2,i2,rs,row,G2,ha2,hb2,hbG2,hbb,hrow,hel,hGF,hGn,_,wr⟩:=hs.at rver_ok hkl hnd hlo;obtain ⟨a3,c3,h3,F3,e3,r3,m3⟩:=CJ (lo:=lo) (v:=v) hv hl hn;have hab:o=(b2,i2):=by rw[ha] at ha2;injection ha2
  subst hab;obtain ⟨h4,F4,e4,r4,m4,_⟩:=wr h3 F3 0 (v.cs a3 c3) (v.cs a3 c3) v (m3.wide (by simp)) (Dz (by obtain ⟨s,rfl,_⟩:=hel;rfl)) ⟨_,rfl,r3⟩;rw[Ap,e3];simp only[Ac,AA,Ab,Aa,Ah,Bq,AB,Af];rw[Cu ⟨by omega,by omega⟩,e4];exact ⟨h4,F4,rfl,by rw[<- ha];exact r4,m4⟩
end


variable {l:List Ver}{v:Ver}
theorem Sn {T:Type}{b:Bool}{x y:Option T}:br b x y=if b=true then x else y:=by cases b<;>rfl
theorem Sli.row {α:Type}{El:Rel α} (hfr:El.Fr) {R R' e n k lo b i:Nat} (hln:El.Ln R) {h:Heap}{c:Nq}{l:List α}{G Gx:List Nat}{row:List V}{x:α} (hs:Sli false R e El h [.sl R' (some (b,i)) n c] l (b :: G)) (hb:b∉G) (hk:k<l.length) (hlo:lo<=b)
  (hx:El h row x Gx) (hbx:b∉Gx):∃ h' G',st lo h b (i+k) 0 row=some h'/\Sli false R e El h' [.sl R' (some (b,i)) n c] (l.set k x) (b :: G')/\b∉G'/\h'.length=h.length/\∀ y,y≠b->h'[y]?=h[y]?:=by
 have hn:=hs.val;subst hn;obtain ⟨R1,a1,c1,e1,e2⟩:=hs;injection e1 with e1 _;injection e1 with e0 e3 _ e4;subst e0;subst e3;subst e4;obtain ⟨hR,rs,Fs,g1,g2,g3,g4,g5,g6⟩:=e2;injection g6 with _ g6;subst g6;obtain ⟨row0,G0,k1,k2,k3⟩:=g5.get (Dx hk);have hblt:b<h.length:=(Gz g1).1;have hrow:rs[i+k]?=some row0:=by rw[List.getElem?_take_of_lt hk,zb0] at k1;exact k1
 have hp:paste row0 0 row=some row:=Dz (by rw[hln _ _ _ _ k3,hln _ _ _ _ hx]);have fr2:∀ y,y≠b->(h.set b (.rows R e false (rs.set (i+k) row)))[y]?=h[y]?:=λy hy=>zbq (Ne.symm hy);have hl1:((rs.set (i+k) row).drop i).take l.length=((rs.drop i).take l.length).set k row:=by rw[List.drop_set,if_neg (by omega),show i+k - i=k by omega,List.take_set]
 refine ⟨_,(Fs.set k Gx).flatten,D5 g1 hlo hrow hp,⟨R',some (b,i),c,by simp,hR,rs.set (i+k) row,Fs.set k Gx,by simp[hblt],by simpa using g2,λq hq=>by simpa using g3 q hq,g4,?_,rfl⟩,λhm=>?_,by simp,fr2⟩
 ·rw[zbL,hl1];exact EAll.set (g5.fr hfr λy hy=>fr2 y λe=>hb (e ▸ hy)) (hfr _ _ _ _ _ hx λy hy=>fr2 y λe=>hbx (e ▸ hy))
 ·rcases Hy hm with h6 | h6
  ·exact hb h6
  ·exact hbx h6
theorem Zv {ro:Bool}:(RVer ro).Ln 6:=by rintro h cs x F ⟨s,rfl,_⟩;rfl
theorem LH (h:E4 v=true):v=⟨0,⟨0,0⟩,[],⟨⟨[]⟩⟩,false⟩:=by obtain ⟨k,⟨t1,t2⟩,p,s,g⟩:=v;simp only[E4,DY,DH,beq_iff_eq,decide_eq_true_eq,zb2] at h;obtain ⟨⟨⟨⟨h1,h2,h3⟩,h4⟩,h5⟩,h6⟩:=h;simp only[Ver.mk.injEq,Tag.mk.injEq];exact ⟨h1,⟨h2,h3⟩,zbu h4,KG (by rw[Nv h5]),h6⟩
theorem Dl {i:Nat} (h:Ho i v=true):E4 v=true\/(Ba v=true/\v.key=i):=by simp only[Ho,zb6,DH,beq_iff_eq] at h;exact h
theorem EJ (h:E4 v=true):v.tag.time=0/\v.tag.place=0:=by rw[LH h];exact ⟨rfl,rfl⟩
theorem Vd {l':List Ver} (h:Ct l) (hl:l'.length<=1048576) (hs:∀ v∈l',v∈l):Ct l':=⟨hl,λv hv=>h.2 v (hs v hv)⟩
theorem Jj (h:AU l=true):Ct l:=by
 refine ⟨by have:=A3 h;omega,λv hv=>?_⟩;obtain ⟨i,hi,rfl⟩:=zbV.1 hv;rcases Dl (Df h hi) with h1 | ⟨h1,_⟩
 ·rw[LH h1];exact ⟨by simp,by show 0<=_;omega⟩
 ·obtain ⟨_,h2,_,h3,_⟩:=AT h1;have:=DU h2;have:=Bx h3;omega
section
variable {lo:Nat}{h:Heap}{F F':List Nat}{a a':Pq}{c c':Nq}
theorem SJ {n:Int}:Ae lo 132 [Iv n] h=some (.bool (An n 1 4),h):=Qw (h':=h) (by simp[FI])
theorem RZ {n k:Nat} (hn:n<=1048576):Ae lo 135 [.agg [.sl 2 a n c],Iv (k:Nat)] h=some (.bool (decide (k+1=n)),h):=by
 refine MJ (h':=h) ?_;rw[wr (by omega) (by omega)];by_cases hk:k+1=n
 ·rw[show ((k:Int)==(n:Int) - 1)=true by rw[beq_iff_eq];omega,decide_eq_true hk];rfl
 ·rw[show ((k:Int)==(n:Int) - 1)=false by rw[beq_eq_false_iff_ne];omega,decide_eq_false hk];rfl
theorem Xw {x:Node}{next:List Ver}{a1 a2 a3:Pq}{c1 c2 c3:Nq}{F1 F2 F3:List Nat} (hs1:RVers false h [.sl 6 a1 x.store.length c1] x.store F1) (hs2:RVers false h [.sl 6 a2 x.wait.length c2] x.wait F2)
  (hs3:RVers false h [.sl 6 a3 next.length c3] next F3) (hx:BY x=true) (hnx:AU next=true) :
  Ae lo 136 [.agg [.sl 6 a1 x.store.length c1,.sl 6 a2 x.wait.length c2],.agg [.sl 6 a3 next.length c3]] h=some (.bool (fits x next),h):=by
 obtain ⟨hx1,hx2,hx3⟩:=AH hx;obtain ⟨a5,c5,h5,F5,e5,r5,m5⟩:=IC (lo:=h.length) hs3 (zbo _) (Jj hnx);have h4:=A3 hnx;suffices hk:∃ h',_=some (V.bool (fits x next),h') from hk.elim λh' hk=>NG hk;rw[e5];simp only[Ac,AA,Ab,Ah,Af];have loop:∀ m i s hh b j G,m+i=x.wait.length->AU s=true->RVers false hh [.sl 6 (some (b,j)) s.length c5] s (b :: G)->b∉G->h.length<=b->Mv h [] hh [] ->
   ∃ h',B5 (List.length h) false a2 x.wait.length c2 (x.wait.length:Nat) (i:Nat) a1 x.store.length c1 a2 x.wait.length c2 (some (b,j)) s.length c5 hh=some (V.bool (match DB s (x.wait.drop i) with | some s=>DS s x.store | none=>false),h'):=by
  intro m;induction m with
  | zero =>intro i s hh b j G hi hso hs hb hbl hm;rw[B5.e,Aj (by omega),On hs (hm.keep0 rvers_ok hs1) (Jj hso),show i=x.wait.length by omega,List.drop_length];simp only[Ac,Az,DB];exact ⟨hh,by cases DS s x.store<;>rfl⟩
  | succ m ih =>
   intro i s hh b j G hi hso hs hb hbl hm;have hlt:i<x.wait.length:=by omega
   have hvo:=hx3 _ (zbk hlt);have hk:=(AT hvo).1;have hs4:=A3 hso;have hkl:x.wait[i].key.toNat<s.length:=by omega
   obtain ⟨o,sv,b',d',G',ha,ho,es,hp,hG'⟩:=(hm.keep0 rvers_ok hs2).get hlt;have hbl2:=rvers_ok.bd _ _ _ _ hs2;rw[B5.e,Ak (by omega),Ad hlt];simp only[ha,Ag,Bm,ho,Ab,Aa,es,Bq,AB,Af];rw[PR (v:=x.wait[i]) hs ⟨by omega,by omega⟩];simp only[Ac,Az];rw[zbH hlt];simp only[DB,Dx hkl];cases hle:A7 s[x.wait[i].key.toNat] x.wait[i] with
   | false=>exact ⟨hh,rfl⟩
   | true =>obtain ⟨h6,G6,e6,r6,n6,l6,f6⟩:=Sli.row rver_ok.fr Zv hs hb hkl hbl (row:=x.wait[i].cs b' d') (x:=x.wait[i]) ⟨_,rfl,hp⟩ (λhm'=>by have:=hbl2 _ (hG' _ hm');omega);rw[Ap,Cu ⟨by omega,by omega⟩,e6,cond_true];simp only[Ag];rw[<- ha,At (by omega)];have m6:Mv h [] h6 []:=⟨by rw[l6];exact hm.le,λy hy hF=>by rw[f6 y (by omega)];exact hm.fr y hy hF,by simp,by simp⟩;have:=ih (i+1) (s.set x.wait[i].key.toNat x.wait[i]) h6 b j G6 (by omega) (It hso hvo) (by rw[zbL];exact r6) n6 hbl m6;rw[zbL] at this;exact this
 have:∃ b j G,a5=some (b,j)/\F5=b :: G/\b∉G/\h.length<=b:=by obtain ⟨b,i,rs,Fs,h1,h2,_,_,_,_,rfl⟩:=r5.data (k:=0) (by omega);exact ⟨b,i,_,h1,rfl,(zbs.1 m5.nd).1,m5.new b (by simp)⟩
 obtain ⟨b,j,G,rfl,rfl,hb,hbl⟩:=this;have:=loop x.wait.length 0 next h5 b j G (by omega) hnx r5 hb hbl m5.drop
 exact this
theorem Mg {l:List Node} (hs:RNodes false h [.sl 2 a l.length c] l F) (hn:CD l):Ae lo 64 [.agg [.sl 2 a l.length c]] h=some (.bool (Cs l),h):=by
 have hn1:=hn.1;refine QA (h':=h) ?_;rw[SJ];simp only[Ac,Az];unfold Cs;cases hw:An (l.length:Int) 1 4 with
 | false=>rfl
 | true =>
  have hl4:1<=l.length/\l.length<=4:=by simp[An] at hw;omega
  rw[Ap];refine (CL (p:=BY) (l:=l) (λi=>B9 (List.length h) false a l.length c (l.length:Nat) (i:Nat) a l.length c h) (some (.bool false,h)) (B9 (List.length h) false a l.length c (l.length:Nat) (l.length:Nat) a l.length c h) (λi hi=>?_) rfl).trans ?_
  ·obtain ⟨o,s1,s2,a1,c1,a2,c2,F1,F2,ha,ho,_,_,e1,e2,p1,p2,_⟩:=hs.get hi;have hm:=hn.2 _ (zbk hi);rw[B9.e,Ak (by omega),Ad hi];simp only[ha,Ag,Bm,ho,Ab,e1,e2,Af];rw[SL p1 hm.1];simp only[Ac,Az];rw[Jh (p:=λv => !Ba v) p2 hm.2.1 (λlo v av cv Gv hv hvp=>NI (h':=h) (by rw[Lj hvp (hm.2.2 v hv)];simp only[Ac,Az];cases Ba v<;>rfl))];simp only[Ac,Az,At (show i<9223372036854775807 by omega),<- ha];unfold BY;rw[List.any_eq_not_all_not];simp only[Bool.not_not];by_cases h6:(l[i].wait.length:Int)<=6
   ·rw[Aj (by omega),decide_eq_true h6];cases AU l[i].store<;>cases l[i].wait.all Ba<;>simp
   ·rw[Ak (by omega),decide_eq_false h6];cases AU l[i].store<;>simp
  ·cases hall:l.all BY with
   | false=>rfl
   | true =>
    rw[if_pos rfl,B9.e,Aj (by omega)];have hno:=zby.1 hall;refine (IK (p:=EV l) (l:=l) (λi=>Bw (List.length h) false a l.length c (l.length:Nat) (i:Nat) a l.length c h) (some (.bool false,h)) (some (.bool true,h)) (λi hi=>?_) ?_).trans ?_
    ·obtain ⟨o,s1,s2,a1,c1,a2,c2,F1,F2,ha,ho,_,_,e1,e2,p1,p2,_⟩:=hs.get hi;have hm:=hn.2 _ (zbk hi);rw[Bw.e,Ak (by omega),Ad hi];simp only[ha,Ag,Bm,ho,Ab,e1,e2,Af,RZ hn1,Ac,Az];by_cases hk:i+1=l.length
     ·rw[decide_eq_true hk,Ap,Ap];unfold EV;rw[zbR (by omega)];simp only[At (show i<9223372036854775807 by omega)];by_cases h0:l[i].wait.length=0
      ·rw[Aj (by omega),decide_eq_true h0];rfl
      ·rw[Ak (by omega),decide_eq_false h0];rfl
     ·have hi1:i+1<l.length:=by omega
      obtain ⟨o',s1',s2',a1',c1',a2',c2',F1',F2',ha',_,ho1',_,e1',_,p1',_⟩:=hs.get hi1;have hoo:o'=o:=by rw[ha] at ha';injection ha' with ha';exact ha'.symm
      subst hoo;rw[decide_eq_false hk,Ay];unfold EV;rw[Dx hi1];simp only[Ay,At (show i<9223372036854775807 by omega)];rw[Ad hi1];simp only[Bm,ho1',Ag,Ab,e1',Af];rw[Xw p1 p2 p1' (hno _ (zbk hi)) (AH (hno _ (zbk hi1))).1];simp only[Ac,Az];exact Sn
    ·rw[Bw.e,Aj (by omega)]
    ·cases (l.zipIdx.all λx=>EV l x.2 x.1)<;>simp
end


variable {l:List Node}
theorem Cp (h:Cs l=true):(1<=l.length/\l.length<=4)/\∀ x∈l,BY x=true:=by simp only[Cs,An,DH,decide_eq_true_eq,zby] at h;exact ⟨⟨by omega,by omega⟩,h.1.2⟩
theorem Mr (h:Cs l=true) {i:Nat} (hi:i<l.length):EV l i l[i]=true:=by simp only[Cs,DH,zby] at h;exact h.2 (l[i],i) (by rw[zcl];simp[hi])
theorem EG {α:Type}{p:Nat->α->Bool}{l:List α}:(l.zipIdx.all λx=>p x.2 x.1)=true<->∀ i (hi:i<l.length),p i l[i]=true:=by
 rw[zby];constructor
 ·intro h i hi;exact h (l[i],i) (by rw[zcl];simp[hi])
 ·rintro h ⟨x,i⟩ hx
  rw[zcl] at hx;obtain ⟨hi,hx⟩:=Gz hx;have:=h i hi;simp only at hx;rw[hx] at this;exact this
theorem Tb {α:Type}{p:α->Bool}{l:List α}:l.all p=true<->∀ i (hi:i<l.length),p l[i]=true:=by rw[zby];exact ⟨λh i hi=>h _ (zbk hi),λh x hx=>by obtain ⟨i,hi,rfl⟩:=zbV.1 hx;exact h i hi⟩
def Hw (l:List Node) (k:Nat) (x:Node):Bool:=BY x&&match l[k+1]? with
 | some y=>AU y.store&&fits x y.store
 | none=>true
theorem UO:Cs l=((l.zipIdx.all λx=>Hw l x.2 x.1)&&(An l.length 1 4&&match l.getLast? with | some x=>decide (x.wait.length=0) | none=>false)):=by
 rw[zcq];unfold Cs;simp only[DH];rw[EG (p:=EV l),EG (p:=Hw l),Tb (l:=l)];constructor
 ·rintro ⟨⟨h1,h2⟩,h3⟩
  have hl:1<=l.length:=by simp[An] at h1;omega
  refine ⟨λi hi=>?_,h1,?_⟩
  ·have:=h3 i hi;unfold EV at this;unfold Hw;rw[h2 i hi];by_cases hi1:i+1<l.length
   ·rw[Dx hi1] at this ⊢;simp only at this;simp only[this,(AH (h2 _ hi1)).1,Bool.and_self]
   ·rw[zbR (by omega)];rfl
  ·have:=h3 (l.length - 1) (by omega);unfold EV at this;rw[zbR (by omega)] at this;rw[zcw,Dx (by omega)];exact this
 ·rintro ⟨h1,h2,h3⟩
  have hno:∀ i (hi:i<l.length),BY l[i]=true:=λi hi=>by have:=h1 i hi;simp only[Hw,DH] at this;exact this.1
  refine ⟨⟨h2,hno⟩,λi hi=>?_⟩;have:=h1 i hi;unfold Hw at this;unfold EV;by_cases hi1:i+1<l.length
  ·rw[Dx hi1] at this ⊢;simp only[DH] at this;exact this.2.2
  ·rw[zbR (by omega)];rw[zcw,Dx (by omega)] at h3;have e:l.length - 1=i:=by omega
   simp only[e] at h3;exact h3
section
variable {lo:Nat}{h:Heap}{F F':List Nat}{a a':Pq}{c c':Nq}
theorem MU {s t:List Ver} (hs:RVers false h [.sl 6 a s.length c] s F) (hs':RVers false h [.sl 6 a' t.length c'] t F') (h1:AU s=true) (h2:AU t=true) :
  Ae lo 199 [.agg [.sl 6 a s.length c],.agg [.sl 6 a' t.length c']] h=some (.bool (DS s t),h):=by
 have l1:=A3 h1;have l2:=A3 h2;have hz:(s.zip t).length=4:=by simp;omega
 refine Ls (h':=h) ?_;refine (CL (p:=λx:Ver×Ver=>DX x.1 x.2) (l:=s.zip t) (λi=>Bn (List.length h) false (i:Nat) a s.length c a' t.length c' h) (some (.bool false,h)) (some (.bool true,h)) (λi hi=>?_) ?_).trans ?_
 ·have hi1:i<s.length:=by omega
  have hi2:i<t.length:=by omega
  obtain ⟨o,sv,b,d,G,ha,_,ho1,_,_,_,_,ho12,ho,es,hp,_⟩:=hs.all hi1;obtain ⟨o',sv',b',d',G',ha',_,_,_,_,_,_,ho12',ho',es',hp',_⟩:=hs'.all hi2;rw[Bn.e,Ak (by omega),Ad hi1];simp only[ha,ha',Ag,Bm,ho12,ho12',ho1,ho,ho',Ab,Aa,es,es',Bq,AB,Af,Ad hi1,Ad hi2,zcj,zcU,At (show i<9223372036854775807 by omega)];have g1:=Dl (Df h1 hi1);have g2:=Dl (Df h2 hi2);cases htag:(s[i].tag.time==t[i].tag.time&&s[i].tag.place==t[i].tag.place) with
  | false =>
   have:DX s[i] t[i]=false:=by unfold DX;rw[htag];simp
   rw[this,Ay];rfl
  | true =>
   rw[Ap];by_cases htm:s[i].tag.time>0
   ·rw[Ak htm];have o1:Ba s[i]=true:=by
     rcases g1 with g | g
     ·have:=EJ g;omega
     ·exact g.1
    have o2:Ba t[i]=true:=by
     rcases g2 with g | g
     ·have:=EJ g;simp at htag;omega
     ·exact g.1
    rw[TR hp hp' o1 o2];simp only[Ac,Az];exact Sn
   ·rw[Aj htm];have o1:E4 s[i]=true:=by
     rcases g1 with g | g
     ·exact g
     ·have:=GH g.1;omega
    have o2:E4 t[i]=true:=by
     rcases g2 with g | g
     ·exact g
     ·have:=GH g.1;simp at htag;omega
    rw[if_pos (same_iff.2 (by rw[LH o1,LH o2]))]
 ·rw[hz,Bn.e,Aj (by omega)]
 ·unfold DS;rw[decide_eq_true (by omega)];cases (s.zip t).all λx=>DX x.1 x.2<;>rfl
theorem TP {x y:Node}{a1 a2 a3 a4:Pq}{c1 c2 c3 c4:Nq}{F1 F2 F3:List Nat} (hs1:RVers false h [.sl 6 a1 x.store.length c1] x.store F1) (hs2:RVers false h [.sl 6 a2 x.wait.length c2] x.wait F2)
  (hs3:RVers false h [.sl 6 a3 y.store.length c3] y.store F3) (hx:BY x=true) (hy:Ct y.store) {n4:Nat} :
  Ae lo 113 [.agg [.sl 6 a1 x.store.length c1,.sl 6 a2 x.wait.length c2],.agg [.sl 6 a3 y.store.length c3,.sl 6 a4 n4 c4]] h=some (.bool (AU y.store&&fits x y.store),h):=by
 obtain ⟨hx1,hx2,hx3⟩:=AH hx;suffices hk:∃ h',_=some (V.bool (AU y.store&&fits x y.store),h') from hk.elim λh' hk=>Q7 hk;rw[J0 hs3 hy];simp only[Ac,Az];cases hyo:AU y.store with
 | false=>exact ⟨h,rfl⟩
 | true =>
  obtain ⟨v5,h5,F5,e5,r5,m5⟩:=GL (lo:=h.length) hs3 (zbo _) hy;obtain ⟨a5,c5,es5,r5⟩:=r5.form;rw[Ap,e5];simp only[Ac,AA,Ab,es5,Af];have loop:∀ m i s hh G,m+i=x.wait.length->AU s=true->RVers false hh [.sl 6 a5 s.length c5] s G->Mv h [] hh G ->
    ∃ h',C0 (List.length h) false (i:Nat) a1 x.store.length c1 a2 x.wait.length c2 a5 s.length c5 hh=some (V.bool (match DB s (x.wait.drop i) with | some s=>DS s x.store | none=>false),h'):=by
   intro m;induction m with
   | zero =>intro i s hh G hi hso hs hm;rw[C0.e,Aj (by omega),MU hs (hm.keep0 rvers_ok hs1) hso hx1,show i=x.wait.length by omega,List.drop_length];simp only[Ac,Az,DB];exact ⟨hh,by cases DS s x.store<;>rfl⟩
   | succ m ih =>
    intro i s hh G hi hso hs hm;have hlt:i<x.wait.length:=by omega
    have hvo:=hx3 _ (zbk hlt);have hk:=(AT hvo).1;have hs4:=A3 hso;have hkl:x.wait[i].key.toNat<s.length:=by omega
    obtain ⟨o,sv,b',d',G',ha,ho0,_,_,_,_,_,ho12,ho,es,hp,hG'⟩:=(hm.keep0 rvers_ok hs2).all hlt;obtain ⟨o2,sv2,b2,d2,G2,ha2,_,_,_,_,_,_,ho122,_⟩:=hs.all hkl;rw[C0.e,Ak (by omega),Ad hlt];simp only[ha,Ag,Bm,ho0,Ab,Aa,Af];rw[Cu ⟨by omega,by omega⟩];simp only[ha2,Ag,ho122,Ab,Aa,Af,Ad hlt,ho12,BF,Ac,Az];rw[zbH hlt];simp only[DB,Dx hkl];show ∃ h',br (A7 s[x.wait[i].key.toNat] x.wait[i]) _ _=_;cases hle:A7 s[x.wait[i].key.toNat] x.wait[i] with
    | false=>exact ⟨hh,rfl⟩
    | true =>
     obtain ⟨h6,F6,e6,r6,m6⟩:=K9 (lo:=h.length) (v:=x.wait[i]) hs hp hm.nd (hm.ge (zbo _) (by simp)) hm.le ⟨by omega,by omega⟩ (by have:=Bx (AT hvo).2.2.2.1;omega);rw[Ap,cond_true];simp only[ho,Ag,Ab,Aa,es,Bq,AB,Af];rw[<- ha2,e6];simp only[Ac,AA,Ab,Ah,Af];rw[<- ha,At (by omega)];have hadd:Ek s x.wait[i]=s.set x.wait[i].key.toNat x.wait[i]:=by rw[Lq hkl,hle];rfl
     rw[hadd] at r6;have:=ih (i+1) (s.set x.wait[i].key.toNat x.wait[i]) h6 F6 (by omega) (It hso hvo) (by rw[zbL];exact r6) (hm.trans m6);rw[zbL] at this;exact this
  obtain ⟨h',e⟩:=loop x.wait.length 0 y.store h5 F5 (by omega) hyo r5 m5;exact ⟨h',e⟩
theorem RB (hs:RNodes false h [.sl 2 a l.length c] l F) (hn:CD l):Ae lo 46 [.agg [.sl 2 a l.length c]] h=some (.bool (Cs l),h):=by
 have hn1:=hn.1;refine UX (h':=h) ?_;rw[UO];have inner:∀ i (hi:i<l.length),AU l[i].store=true->(l[i].wait.length:Int)<=6->CG (List.length h) false (i:Nat) 0 a l.length c h=if Hw l i l[i]=true then CH (List.length h) false ((i+1:Nat):Int) a l.length c h else some (.bool false,h):=by
  intro i hi hst h6;obtain ⟨o,s1,s2,a1,c1,a2,c2,F1,F2,ha,ho,ho1,ho2,e1,e2,p1,p2,_⟩:=hs.get hi;have hm:=hn.2 _ (zbk hi);refine (CL (p:=Ba) (l:=l[i].wait) (λk=>CG (List.length h) false (i:Nat) (k:Nat) a l.length c h) (some (.bool false,h)) (CG (List.length h) false (i:Nat) (l[i].wait.length:Nat) a l.length c h) (λk hk=>?_) rfl).trans ?_
  ·obtain ⟨o',s,b,d,G,ha',ho',es,hp,_⟩:=p2.get hk;rw[CG.e,Ad hi];simp only[ha,Ag,Bm,ho2,Ab,e2,Af];rw[Ak (by omega),Ad hi];simp only[e2,Ad hk,ha',Ag,ho',Ab,Aa,es,Bq,AB,Af];rw[MV hp (hm.2.2 _ (zbk hk))];simp only[Ac,Az,At (show k<9223372036854775807 by have:=hm.2.1;omega),<- ha];exact Sn
  ·by_cases hall:l[i].wait.all Ba=true
   ·rw[if_pos hall,CG.e,Ad hi];simp only[ha,Ag,Bm,ho2,Ab,e2,Af];rw[Aj (by omega)];have hno:BY l[i]=true:=by unfold BY;rw[hst,decide_eq_true h6,hall];rfl
    rw[At (by omega)];unfold Hw;rw[hno];by_cases hi1:i+1<l.length
    ·obtain ⟨o',s1',s2',a1',c1',a2',c2',F1',F2',ha',ho',_,_,e1',e2',p1',p2',_⟩:=hs.get hi1;have hoo:o'=o:=by rw[ha] at ha';injection ha' with ha';exact ha'.symm
     subst hoo;rw[Ak (by omega),Ad hi];simp only[ho,Ag,Ab,e1,e2,Af,Ad hi1,Bm,ho',e1',e2'];rw[TP p1 p2 p1' hno (hn.2 _ (zbk hi1)).1,Dx hi1];simp only[Ac,Az,zbK];exact Sn
    ·rw[Aj (by omega),zbR (by omega)];rfl
   ·rw[if_neg hall,if_neg];unfold Hw BY;simp[hall]
 refine (IK (p:=Hw l) (l:=l) (λi=>CH (List.length h) false (i:Nat) a l.length c h) (some (.bool false,h)) (some (.bool (An l.length 1 4&&match l.getLast? with | some x=>decide (x.wait.length=0) | none=>false),h)) (λi hi=>?_) ?_).trans ?_
 ·obtain ⟨o,s1,s2,a1,c1,a2,c2,F1,F2,ha,ho,ho1,ho2,e1,e2,p1,p2,_⟩:=hs.get hi;have hm:=hn.2 _ (zbk hi);rw[CH.e,Ak (by omega),Ad hi];simp only[ha,Ag,Bm,ho1,Ab,e1,Af];rw[J0 p1 hm.1];simp only[Ac,Az];cases hst:AU l[i].store with
  | false =>rw[if_neg (by unfold Hw BY;simp[hst])];rfl
  | true =>
   rw[Ap,Ad hi];simp only[ho2,Ag,Ab,e2,Af];by_cases h6:(l[i].wait.length:Int)<=6
   ·rw[Aj (by omega),<- ha];exact inner i hi hst h6
   ·rw[Ak (by omega),if_neg];unfold Hw BY;rw[decide_eq_false h6];simp
 ·rw[CH.e,Aj (by omega),Bp];simp only[Ac,Az];cases hw:An (l.length:Int) 1 4 with
  | false=>rfl
  | true =>
   have hl:1<=l.length:=by simp[An] at hw;omega
   obtain ⟨o,s1,s2,a1,c1,a2,c2,F1,F2,ha,ho,ho1,ho2,e1,e2,p1,p2,_⟩:=hs.get (show l.length - 1<l.length by omega);rw[Ap,wr (by omega) (by omega),Cu ⟨by omega,by omega⟩,show ((l.length:Int) - 1).toNat=l.length - 1 by omega];simp only[ha,Ag,ho2,Ab,e2,Af];rw[zcw,Dx (by omega)];simp only[zbK];by_cases h0:l[l.length - 1].wait.length=0
   ·rw[h0];rfl
   ·rw[show ((l[l.length - 1].wait.length:Int)==0)=false by rw[beq_eq_false_iff_ne];omega,decide_eq_false h0];rfl
 ·cases (l.zipIdx.all λx=>Hw l x.2 x.1)<;>simp
end


variable {l:List Node}
def Fg (st:List Tag) (x:Node):Bool:=(x.store.all λv => !decide (v.tag.time>0) || B4 v.past st)&&x.wait.all λv=>B4 v.past st
def Ed (l:List Node):Bool:=l.all (Fg (AW l))
def D2 (l:List Node) (clock:Int):Bool:=match l[0]? with
 | some x=>x.store.all λv=>decide (v.tag.time<=clock)
 | none=>false
def ID (me:Int) (i:Nat) (l:List Ver):Bool:=Eb i l&&(!((i:Int)==me) || decide (l.length=0))
def As (p:Place):Bool:=An p.me 0 2&&An p.clock 0 999&&decide (p.got.length=3)&&Cs p.chain&&Ed p.chain&&Eb p.me p.log&&(p.got.zipIdx.all λx=>ID p.me x.2 x.1)&&D2 p.chain p.clock
theorem Wx {b:Bool}{h:Heap}:(if b=true then some (V.bool true,h) else some (V.bool false,h))=some (V.bool b,h):=by cases b<;>rfl
theorem Jz (h:Cs l=true):CD l:=by obtain ⟨h1,h2⟩:=Cp h;refine ⟨by omega,λx hx=>?_⟩;obtain ⟨g1,g2,g3⟩:=AH (h2 x hx);refine ⟨Jj g1,by omega,λv hv=>?_⟩;obtain ⟨_,h2,_,h3,_⟩:=AT (g3 v hv);have:=DU h2;have:=Bx h3;omega
theorem Jk (h:Cs l=true):(AW l).length=4:=by obtain ⟨h1,h2⟩:=Cp h;rw[If (by omega)];simp only[Bt,zcO];exact A3 (AH (h2 _ (zbk _))).1
theorem BT {h:Heap}{b i j n R e:Nat}{ro:Bool}{rs:List (List V)}{row:List V} (hb:h[b]?=some (.rows R e ro rs)) (hi:rs[i]?=some row):ld h b i j n=cut row j n:=by simp[ld,Heap.rows?,hb,hi]
theorem Pa {x:Node} (h:BY x=true) {i:Nat} (hi:i<x.store.length) (ht:x.store[i].tag.time>0):x.store[i].past.length=4:=by
 rcases Dl (Df (AH h).1 hi) with g | g
 ·have:=EJ g;omega
 ·exact Bx (AT g.1).2.2.2.1
theorem Rw {x:Node} (h:BY x=true) {i:Nat} (hi:i<x.wait.length):x.wait[i].past.length=4:=Bx (AT ((AH h).2.2 _ (zbk hi))).2.2.2.1
section
variable {lo:Nat}{h:Heap}{F F':List Nat}{a a':Pq}{c c':Nq}
theorem QH (hs:RNodes false h [.sl 2 a l.length c] l F) (hc:Cs l=true):Ae lo 121 [.agg [.sl 2 a l.length c]] h=some (.bool (Ed l),h):=by
 obtain ⟨hl4,hno⟩:=Cp hc;have hst:=Jk hc;obtain ⟨v1,h1,F1,e1,r1,m1⟩:=Hh (lo:=h.length) hs (zbo _) (Jz hc) (by omega);obtain ⟨a3,c3,es3,r1⟩:=r1.form;refine Ou (h':=h1) ?_;rw[e1];simp only[Ac,AA,Ab,es3,Af];have hs1:=m1.keep0 rnodes_ok hs;refine (CL (p:=Fg (AW l)) (l:=l) (λi=>BW (List.length h) false (i:Nat) a l.length c a3 (AW l).length c3 h1) (some (.bool false,h1)) (some (.bool true,h1)) (λi hi=>?_) ?_).trans ?_
 ·have hno:=hno _ (zbk hi);have hsl:=A3 (AH hno).1;have hwl:=(AH hno).2.1;obtain ⟨o,s1,s2,b1,d1,b2,d2,G1,G2,ha,ho,ho1,ho2,e1,e2,p1,p2,_⟩:=hs1.get hi;rw[BW.e,Ak (by omega)];refine (CL (p:=λv:Ver => !decide (v.tag.time>0) || B4 v.past (AW l)) (l:=l[i].store) (λk=>BV (List.length h) false (i:Nat) (k:Nat) a l.length c a3 (AW l).length c3 h1) (some (.bool false,h1)) (BU (List.length h) false (i:Nat) 0 a l.length c a3 (AW l).length c3 h1) (λk hk=>?_) ?_).trans ?_
  ·obtain ⟨o',s,b,d,G,ha',ho',es,hp,_⟩:=p1.get hk;rw[BV.e,Ak (by omega),Ad hi];simp only[ha,Ag,Bm,ho1,Ab,e1,Af,Ad hk,ha',ho',Aa,es,Bq,AB,At (show k<9223372036854775807 by omega)];by_cases ht:l[i].store[k].tag.time>0
   ·rw[Ak ht,EY hp r1 (Pa hno hk ht) hst];simp only[Ac,Az,decide_eq_true ht,zb5,zcn,<- ha];exact Sn
   ·rw[Aj ht,decide_eq_false ht,<- ha];rfl
  ·rw[BV.e,Aj (by omega)]
  ·unfold Fg;cases hall:l[i].store.all λv:Ver => !decide (v.tag.time>0) || B4 v.past (AW l) with
   | false=>rw[if_neg Bool.false_ne_true,zcD,if_neg Bool.false_ne_true]
   | true =>
    rw[if_pos rfl,zbK];refine CL (p:=λv:Ver=>B4 v.past (AW l)) (l:=l[i].wait) (λk=>BU (List.length h) false (i:Nat) (k:Nat) a l.length c a3 (AW l).length c3 h1) (some (.bool false,h1)) (BW (List.length h) false ((i+1:Nat):Int) a l.length c a3 (AW l).length c3 h1) (λk hk=>?_) ?_
    ·obtain ⟨o',s,b,d,G,ha',_,_,_,ho3,_,_,_,_,es,hp,_⟩:=p2.all hk;rw[BU.e,Ad hi];simp only[ha,Ag,Bm,ho2,Ab,e2,Af];rw[Ak (by omega),Ad hi];simp only[e2,Ad hk,ha',Ag,ho3,Ab,es,Af];rw[EY hp r1 (Rw hno hk) hst];simp only[Ac,Az,At (show k<9223372036854775807 by omega),<- ha];exact Sn
    ·rw[BU.e,Ad hi];simp only[ha,Ag,Bm,ho2,Ab,e2,Af];rw[Aj (by omega),At (by omega)]
 ·rw[BW.e,Aj (by omega)]
 ·unfold Ed;cases l.all (Fg (AW l))<;>rfl
theorem RA {p:Place}{a1 a2 a3:Pq}{c1 c2 c3:Nq}{F1 F2 F3:List Nat} (hs1:RNodes false h [.sl 2 a1 p.chain.length c1] p.chain F1) (hs2:RVers false h [.sl 6 a2 p.log.length c2] p.log F2)
  (hs3:RVss false h [.sl 1 a3 p.got.length c3] p.got F3) (hn:Dt p):Ae lo 53 [.agg (p.cs a1 c1 a2 c2 a3 c3)] h=some (.bool (As p),h):=by
 refine UW (h':=h) ?_;simp only[Bp,Ac,Az];unfold As;cases An p.me 0 2 with
 | false=>rfl
 | true =>
 cases An p.clock 0 999 with
 | false=>rfl
 | true =>
 by_cases hg:¬ p.got.length=3
 ·rw[show ((p.got.length:Int)==3)=false by rw[beq_eq_false_iff_ne];omega,decide_eq_false hg];rfl
 have hg:p.got.length=3:=by omega
 rw[show ((p.got.length:Int)==3)=true by rw[beq_iff_eq];omega,decide_eq_true hg];simp only[Ap];rw[RB hs1 hn.1];simp only[Ac,Az];cases hc:Cs p.chain with
 | false=>rfl
 | true =>
 rw[Ap,QH hs1 hc];simp only[Ac,Az];cases Ed p.chain with
 | false=>rfl
 | true =>
 rw[Ap,Pg hs2 hn.2.1];simp only[Ac,Az];cases Eb p.me p.log with
 | false=>rfl
 | true =>
 obtain ⟨hl4,hno⟩:=Cp hc;simp only[Ap,zbK,zcj];refine (IK (p:=ID p.me) (l:=p.got) (λi=>Di (List.length h) false (i:Nat) p.me p.clock a1 p.chain.length c1 a2 p.log.length c2 a3 p.got.length c3 p.fell h) (some (.bool false,h)) (some (.bool (D2 p.chain p.clock),h)) (λi hi=>?_) ?_).trans ?_
 ·obtain ⟨o,s,b,d,G,ha,ho,es,hp,_⟩:=hs3.get hi;rw[Di.e,Ak (by omega),Ad hi];simp only[ha,Ag,Bm,ho,Ab,es,Af];rw[Pg hp (hn.2.2.2 _ (zbk hi))];simp only[Ac,Az,Ad hi,ho,Ag,Ab,es,Af,At (show i<9223372036854775807 by omega),<- ha];unfold ID;by_cases h0:p.got[i].length=0
  ·rw[Aj (by omega),decide_eq_true h0];cases Eb i p.got[i]<;>cases ((i:Int)==p.me)<;>rfl
  ·rw[Ak (by omega),decide_eq_false h0];cases Eb i p.got[i]<;>cases ((i:Int)==p.me)<;>rfl
 ·obtain ⟨o,s1,s2,b1,d1,b2,d2,G1,G2,ha,ho,ho1,ho2,e1,e2,q1,q2,_⟩:=hs1.get (show 0<p.chain.length by omega);have hsl:=A3 (AH (hno _ (zbk (show 0<p.chain.length by omega)))).1;rw[Di.e,Aj (by omega),show (0:Int)=((0:Nat):Int) from rfl,Ad (by omega)];simp only[ha,Ag,ho1,Ab,e1,Af];unfold D2;rw[Dx (show 0<p.chain.length by omega)];refine (CL (p:=λv:Ver=>decide (v.tag.time<=p.clock)) (l:=p.chain[0].store) (λk=>DI (List.length h) false (k:Nat) p.me p.clock (some o) p.chain.length c1 a2 p.log.length c2 a3 p.got.length c3 p.fell b1 p.chain[0].store.length d1 h) (some (.bool false,h)) (some (.bool true,h)) (λk hk=>?_) ?_).trans ?_
  ·obtain ⟨o',s,b,d,G,ha',_,ho1',_⟩:=q1.all hk;rw[DI.e,Ak (by omega),Ad hk];simp only[ha',Ag,Bm,ho1',Ab,Aa,Af,At (show k<9223372036854775807 by omega)];by_cases ht:p.chain[0].store[k].tag.time<=p.clock
   ·rw[Aj (by omega),decide_eq_true ht];rfl
   ·rw[Ak (by omega),decide_eq_false ht];rfl
  ·rw[DI.e,Aj (by omega)]
  ·exact Wx
 ·cases (p.got.zipIdx.all λx=>ID p.me x.2 x.1)<;>cases D2 p.chain p.clock<;>rfl
end


variable {l:List Node}{v:Ver}{T:Type}{K:V->Heap->Option T}
theorem zaK {α:Type}{p:Nat->α->Bool}{l:List α}{h0:Heap} (L:Nat->Heap->Ov) (res:Bool)
  (step:∀ i (hi:i<l.length) hh,Mv h0 [] hh []->∃ h2,Mv hh [] h2 []/\L i hh=if p i l[i]=true then L (i+1) h2 else some (.bool false,h2))
  (done:∀ hh,Mv h0 [] hh []->∃ h2,L l.length hh=some (.bool res,h2)):∃ h',L 0 h0=some (.bool ((l.zipIdx.all λx=>p x.2 x.1)&&res),h'):=by
 have loop:∀ m i hh,m+i=l.length->Mv h0 [] hh []->∃ h',L i hh=some (.bool (((l.zipIdx.drop i).all λx=>p x.2 x.1)&&res),h'):=by
  intro m;induction m with
  | zero =>
   intro i hh hi hm;have:i=l.length:=by omega
   subst this;obtain ⟨h2,e⟩:=done hh hm;exact ⟨h2,by rw[e,List.drop_of_length_le (by simp)];rfl⟩
  | succ m ih =>
   intro i hh hi hm;have hlt:i<l.length:=by omega
   obtain ⟨h2,m2,e⟩:=step i hlt hh hm;rw[e,zbH (show i<l.zipIdx.length by simpa using hlt),List.all_cons];simp only[List.getElem_zipIdx,zbQ];cases hp:p i l[i] with
   | false=>exact ⟨h2,by rw[if_neg Bool.false_ne_true];rfl⟩
   | true =>obtain ⟨h',e'⟩:=ih (i+1) h2 (by omega) (hm.trans m2);exact ⟨h',by rw[if_pos rfl,e'];rfl⟩
 exact loop l.length 0 h0 (by omega) Mv.nil
theorem Pv {α:Type}{El:Rel α}{R e:Nat}{h:Heap}{a:Pq}{c:Nq}{l:List α}{F:List Nat} (hs:Sli false R e El h [.sl R a l.length c] l F) :
  ∃ rows Fs,(∀ {T:Type} (K:List (List V)->Option T),Aw R h (.sl R a l.length c) K=K rows)/\EAll El h rows l Fs/\(∀ b∈Fs.flatten,b∈F)/\(F.Nodup->Fs.flatten.Nodup):=by
 obtain ⟨R',a',c',e1,e2⟩:=hs;injection e1 with e1 _;injection e1 with e0 e3 _ e4;subst e0;subst e3;subst e4;cases a with
 | none =>obtain ⟨rfl,_,_⟩:=e2;exact ⟨[],[],λK=>rfl,trivial,by simp,by simp⟩
 | some q =>
  obtain ⟨b,i⟩:=q;obtain ⟨hR,rs,Fs,g1,g2,g3,g4,g5,rfl⟩:=e2;refine ⟨_,Fs,λK=>?_,g5,λb hb=>by simp only[zbx];exact .inr hb,λhn=>(zbs.1 hn).2⟩;simp only[Aw,JF,GN];cases hl:l.length with
  | zero=>simp
  | succ n=>simp only[EE,Heap.rows?,g1,zbW,Fm (show i+(n+1)<=rs.length by omega),Ag]
def Hf (v:Ver):Bool:=v.tag.time==0&&v.tag.place==0
def IQ (st:List Tag) (clock:Int) (k:Nat) (v:Ver):Bool:=(Hf v || B4 v.past st)&&(!decide (k=0) || decide (v.tag.time<=clock))
theorem VC {u:Ver} (h:A7 v u=true):v.tag.time<=u.tag.time:=by simp[A7,GA] at h;omega
theorem PY:∀ {w s t:List Ver},DB s w=some t->s.length=t.length/\(∀ k (h1:k<s.length) (h2:k<t.length),s[k].tag.time<=t[k].tag.time)/\∀ v∈w,∃ h2:v.key.toNat<t.length,v.tag.time<=t[v.key.toNat].tag.time
 | [],s,t,h=>by injection h with h;subst h;exact ⟨rfl,λk _ _=>zcW _,by simp⟩
 | v :: w,s,t,h=>by
  simp only[DB] at h;by_cases hk:v.key.toNat<s.length
  ·rw[Dx hk] at h;cases hl:A7 s[v.key.toNat] v with
   | false=>simp[hl] at h
   | true =>
    simp only[hl,cond_true] at h;obtain ⟨i1,i2,i3⟩:=PY h;rw[zbL] at i1;have ht:=VC hl;refine ⟨i1,λk h1 h2=>?_,λu hu=>?_⟩
    ·have:=i2 k (by simpa using h1) h2;rw[List.getElem_set] at this;split at this
     ·rename_i he;subst he;omega
     ·exact this
    ·rcases zbx.1 hu with rfl | hu
     ·have:=i2 u.key.toNat (by simpa using hk) (by omega);rw[zcG] at this;exact ⟨by omega,this⟩
     ·exact i3 u hu
  ·rw[zbR (by omega)] at h;cases h
theorem JU {x:Node} (h:BY x=true) (hv:v∈x.store):Hf v = !decide (v.tag.time>0):=by
 obtain ⟨i,hi,rfl⟩:=zbV.1 hv;rcases Dl (Df (AH h).1 hi) with g | g
 ·have:=EJ g;unfold Hf;rw[this.1,this.2];rfl
 ·have:=GH g.1;unfold Hf;rw[decide_eq_true this,show (x.store[i].tag.time==0)=false by rw[beq_eq_false_iff_ne];omega];rfl
theorem U1 (h:Ba v=true):Hf v=false:=by have:=GH h;unfold Hf;rw[show (v.tag.time==0)=false by rw[beq_eq_false_iff_ne];omega];rfl
theorem V6 {clock:Int} (hc:Cs l=true):(l.zipIdx.all λx=>(x.1.store++x.1.wait).all (IQ (AW l) clock x.2))=(Ed l&&D2 l clock):=by
 obtain ⟨hl4,hno⟩:=Cp hc;rw[zcq,DH];rw[EG (p:=λi (x:Node)=>(x.store++x.wait).all (IQ (AW l) clock i))];unfold Ed D2;rw[Dx (show 0<l.length by omega),Tb];simp only[List.all_append,DH,zby];constructor
 ·intro hx;refine ⟨λi hi=>?_,λv hv=>?_⟩
  ·have hi':=hno _ (zbk hi);unfold Fg;simp only[DH,zby];refine ⟨λv hv=>?_,λv hv=>?_⟩
   ·have:=(hx i hi).1 v hv;simp only[IQ,DH] at this;rw[<- JU hi' hv];exact this.1
   ·have:=(hx i hi).2 v hv;simp only[IQ,DH,U1 ((AH hi').2.2 v hv),zcn] at this;exact this.1
  ·have:=(hx 0 (by omega)).1 v hv;simp only[IQ,DH] at this;simpa using this.2
 ·rintro ⟨h1,h2⟩ i hi
  have hi':=hno _ (zbk hi);have h3:=h1 i hi;unfold Fg at h3;simp only[DH,zby] at h3;refine ⟨λv hv=>?_,λv hv=>?_⟩
  ·unfold IQ;rw[JU hi' hv,h3.1 v hv,zbK];by_cases h0:i=0
   ·subst h0;simpa using h2 v hv
   ·simp[h0]
  ·unfold IQ;rw[h3.2 v hv,Bool.or_true,zbK];by_cases h0:i=0
   ·subst h0;have hlk:=Mr hc hi;unfold EV at hlk;by_cases h10:0+1<l.length
    ·rw[Dx h10] at hlk;simp only[fits] at hlk;cases hf:DB l[0+1].store l[0].wait with
     | none=>simp[hf] at hlk
     | some t =>simp only[hf] at hlk;have e:=sameVers_iff.1 hlk;obtain ⟨_,_,g3⟩:=PY hf;obtain ⟨g4,g5⟩:=g3 v hv;have:=h2 (l[0].store[v.key.toNat]'(by rw[<- e];exact g4)) (zbk _);simp only[decide_eq_true_eq] at this;simp only[<- e] at this;simp only[decide_true,zb5,zcn,decide_eq_true_eq];omega
    ·rw[zbR (by omega)] at hlk;simp only[decide_eq_true_eq] at hlk;have:l[0].wait = []:=zbu hlk;rw[this] at hv;simp at hv
   ·simp[h0]
section
variable {lo:Nat}{h:Heap}{F F':List Nat}{a a':Pq}{c c':Nq}
theorem Kz {b i j:Nat} (hld:ld h b i j 1=some [.sl 2 a l.length c]) (hs:RNodes false h [.sl 2 a l.length c] l F) (h0:0<l.length) (hn:l.length<=1048576) :
  ∃ a' c' G,Ae lo 66 [.ptr (some (b,i,j))] h=some (.agg [.sl 6 a' (l[l.length - 1]'(by omega)).store.length c'],h)/\RVers false h [.sl 6 a' (l[l.length - 1]'(by omega)).store.length c'] (l[l.length - 1]'(by omega)).store G/\∀ y∈G,y∈F:=by
 obtain ⟨o,s1,s2,b1,d1,b2,d2,G1,G2,ha,ho,ho1,ho2,e1,e2,q1,q2,q3,_⟩:=hs.get (show l.length - 1<l.length by omega);refine ⟨b1,d1,G1,MI ?_,q1,q3⟩;simp only[zb8,hld,Ag,Ab,Ah,Af];rw[wr (by omega) (by omega),Cu ⟨by omega,by omega⟩,show ((l.length:Int) - 1).toNat=l.length - 1 by omega];simp only[ha,Ag,ho1,Ab,e1,Af]
theorem Zf {e R bytes b i len:Nat}{rs xs:List (List V)} (hb:h[b]?=some (.rows R e false rs)) (hl:lo<=b) (hf:i+len+xs.length<=rs.length) (h0:0<bytes) (hsz:(len+xs.length)*bytes<=140737488355328) :
  Dk lo e R bytes (.sl R (some (b,i)) len none) xs h K=K (.sl R (some (b,i)) (len+xs.length) none) (h.set b (.rows R e false (rs.take (i+len)++xs++rs.drop (i+len+xs.length)))):=by
 cases xs with
 | nil =>simp only[Dk,zcx,zb8,zcf,zbZ];rw[set_same hb]
 | cons x xs =>
  have hbl:Nat.blt 0 bytes=true:=by simpa [zcN] using h0
  have hsz':decide ((len+(x :: xs).length)*bytes<=J8)=true:=decide_eq_true hsz;have hown:Heap.own? lo e h b=some rs:=by simp only[Heap.own?,hb,Fm hl,JF]
  have hst:GK lo h b (i+len) (x :: xs)=some (h.set b (.rows R e false (rs.take (i+len)++(x :: xs)++rs.drop (i+len+(x :: xs).length)))):=by simp only[GK,hb,Fm hl,Fm hf]
  simp only[Dk,hbl,hsz',GN,JF,hown,Ag,Fm hf,hst]
theorem Uo {l1 l2:List Ver}{a1 a2:Pq}{c1 c2:Nq}{F1 F2:List Nat} (hs1:RVers false h [.sl 6 a1 l1.length c1] l1 F1) (hs2:RVers false h [.sl 6 a2 l2.length c2] l2 F2) (hl1:l1.length=4) (hl2:l2.length<=6) (hlo:lo<=h.length) :
  ∃ a' F' h',Ae lo 68 [.sl 1 (some (h.length,0)) 2 (some 2)] (h ++ [.rows 1 26 false [[.sl 6 a1 l1.length c1],[.sl 6 a2 l2.length c2]]])=some (.sl 6 a' (l1++l2).length none,h') /\
   RVers false h' [.sl 6 a' (l1++l2).length none] (l1++l2) F'/\Mv h [] h' []:=by
 have m0:Mv h [] (h ++ [.rows 1 26 false [[.sl 6 a1 l1.length c1],[.sl 6 a2 l2.length c2]]]) []:=Mv.snoc;have hbB:(h ++ [Blk.rows 1 26 false [[.sl 6 a1 l1.length c1],[.sl 6 a2 l2.length c2]]])[h.length]?=some (.rows 1 26 false [[.sl 6 a1 l1.length c1],[.sl 6 a2 l2.length c2]]):=by simp
 have hBl:h.length<(h ++ [Blk.rows 1 26 false [[.sl 6 a1 l1.length c1],[.sl 6 a2 l2.length c2]]]).length:=by simp
 generalize hB:h ++ [Blk.rows 1 26 false [[.sl 6 a1 l1.length c1],[.sl 6 a2 l2.length c2]]]=B at *
 have r1:=m0.keep0 rvers_ok hs1;have r2:=m0.keep0 rvers_ok hs2;obtain ⟨n,hn⟩:∃ n,l1.length+l2.length=n+1:=⟨l1.length+l2.length - 1,by omega⟩;have m1:Mv B [] (B ++ [.rows 6 43 false (List.replicate (n+1) [Iv 0,Iv 0,Iv 0,.sl 0 none 0 (some 0),.str ⟨⟨[]⟩⟩,.bool false])]) []:=Mv.snoc;have hC0:(B ++ [Blk.rows 6 43 false (List.replicate (n+1) [Iv 0,Iv 0,Iv 0,.sl 0 none 0 (some 0),.str ⟨⟨[]⟩⟩,.bool false])])[B.length]?=some (.rows 6 43 false (List.replicate (n+1) [Iv 0,Iv 0,Iv 0,.sl 0 none 0 (some 0),.str ⟨⟨[]⟩⟩,.bool false])):=by simp
 have DJ:Ae lo 139 [.sl 0 none 0 (some 0),Iv ((n+1:Nat):Int)] B=some (.sl 6 (some (B.length,0)) 0 none,B ++ [.rows 6 43 false (List.replicate (n+1) [Iv 0,Iv 0,Iv 0,.sl 0 none 0 (some 0),.str ⟨⟨[]⟩⟩,.bool false])]):=by
  refine FL ?_;have e1:Ao (((0:Nat):Int) - ((0:Nat):Int))=0:=by decide
  have e2:Ao (((n+1:Nat):Int) - 0)=((n+1:Nat):Int):=by rw[wr (by omega) (by omega)];omega
  rw[Aj (by omega)];simp only[Ag,e1,e2];rw[Ak (by omega)];have e3:∀ {T:Type} (K:Pq->Nat->Nq->Option T),AL none 0 (some 0) none (some (Iv 0)) none K=K none 0 (some 0):=by intro T K;unfold AL FP IV JQ;simp only[Aa];rw[D1 ⟨by decide,by decide⟩];rfl
  rw[e3,FV ⟨by omega,by omega⟩,Bm,List.replicate_succ];simp only[Dk,show Nat.blt 0 72=true from rfl,GN];rw[FV (by simp[J8];omega)];simp only[Ah];unfold AL FP IV JQ;simp only[Aa];rw[D1 ⟨by omega,by omega⟩];simp[List.replicate_succ]
 have hBle:B.length<(B ++ [Blk.rows 6 43 false (List.replicate (n+1) [Iv 0,Iv 0,Iv 0,.sl 0 none 0 (some 0),.str ⟨⟨[]⟩⟩,.bool false])]).length:=by simp
 generalize hC:B ++ [Blk.rows 6 43 false (List.replicate (n+1) [Iv 0,Iv 0,Iv 0,.sl 0 none 0 (some 0),.str ⟨⟨[]⟩⟩,.bool false])]=C at *
 generalize hz : [Iv 0,Iv 0,Iv 0,.sl 0 none 0 (some 0),.str ⟨⟨[]⟩⟩,.bool false]=z at hC0;obtain ⟨rows1,Fs1,er1,ea1,sub1,_⟩:=Pv (m1.keep0 rvers_ok r1);have len1:=ea1.len.1;have bd1:=λy hy=>rvers_ok.bd _ _ _ _ r1 y (sub1 y hy);have frD:∀ y,y≠B.length->(C.set B.length (.rows 6 43 false ((List.replicate (n+1) z).take (0+0)++rows1++(List.replicate (n+1) z).drop (0+0+rows1.length))))[y]?=C[y]?:=λy hy=>zbq (Ne.symm hy);have hD0:(C.set B.length (.rows 6 43 false ((List.replicate (n+1) z).take (0+0)++rows1++(List.replicate (n+1) z).drop (0+0+rows1.length))))[B.length]?=some (.rows 6 43 false (rows1++List.replicate l2.length z)):=by rw[zbA hBle];simp only[zb8,List.take_zero,zbS,zbQ,List.drop_replicate];rw[show n+1 - rows1.length=l2.length by omega]
 have hDl:(C.set B.length (.rows 6 43 false ((List.replicate (n+1) z).take (0+0)++rows1++(List.replicate (n+1) z).drop (0+0+rows1.length)))).length=C.length:=by simp
 have e5:=λ{T:Type} (K:V->Heap->Option T)=>Zf (lo:=lo) (e:=43) (bytes:=72) (i:=0) (len:=0) (xs:=rows1) (K:=K) hC0 (by omega) (by simp;omega) (by decide) (by omega);generalize hD:C.set B.length (.rows 6 43 false ((List.replicate (n+1) z).take (0+0)++rows1++(List.replicate (n+1) z).drop (0+0+rows1.length)))=D at *
 have mD:Mv B [] D []:=⟨by omega,λy hy _=>by rw[frD y (by omega)];exact m1.fr y hy (by simp),by simp,by simp⟩;obtain ⟨rows2,Fs2,er2,ea2,sub2,_⟩:=Pv (mD.keep0 rvers_ok r2);have len2:=ea2.len.1;have bd2:=λy hy=>rvers_ok.bd _ _ _ _ r2 y (sub2 y hy);have e6:=λ{T:Type} (K:V->Heap->Option T)=>Zf (lo:=lo) (e:=43) (bytes:=72) (i:=0) (len:=4) (xs:=rows2) (K:=K) hD0 (by omega) (by simp;omega) (by decide) (by omega);have hDle:B.length<D.length:=by omega
 have hE0:(D.set B.length (.rows 6 43 false ((rows1++List.replicate l2.length z).take (0+4)++rows2++(rows1++List.replicate l2.length z).drop (0+4+rows2.length))))[B.length]?=some (.rows 6 43 false (rows1++rows2)):=by rw[zbA hDle];rw[zcS (by omega),zcc (by omega),List.drop_of_length_le (by simp;omega),zcf]
 have frE:∀ y,y≠B.length->(D.set B.length (.rows 6 43 false ((rows1++List.replicate l2.length z).take (0+4)++rows2++(rows1++List.replicate l2.length z).drop (0+4+rows2.length))))[y]?=D[y]?:=λy hy=>zbq (Ne.symm hy);have hEl:(D.set B.length (.rows 6 43 false ((rows1++List.replicate l2.length z).take (0+4)++rows2++(rows1++List.replicate l2.length z).drop (0+4+rows2.length)))).length=D.length:=by simp
 generalize hE:D.set B.length (.rows 6 43 false ((rows1++List.replicate l2.length z).take (0+4)++rows2++(rows1++List.replicate l2.length z).drop (0+4+rows2.length)))=E at *
 have ldB:∀ {X:Heap} (k:Nat) {v:V},X[h.length]?=some (.rows 1 26 false [[.sl 6 a1 l1.length c1],[.sl 6 a2 l2.length c2]])->([[V.sl 6 a1 l1.length c1],[.sl 6 a2 l2.length c2]]:List (List V))[k]?=some [v]->ld X h.length k 0 1=some [v]:=λk v hb hk=>by rw[BT hb hk];rfl
 refine ⟨some (B.length,0),B.length ::(Fs1++Fs2).flatten,E,FM ?_,⟨6,some (B.length,0),none,by simp,rfl,rows1++rows2,Fs1++Fs2,hE0,by simp;omega,λk hk=>(by cases hk),λ_=>rfl,?_,rfl⟩,⟨by omega,λy hy _=>by rw[frE y (by omega),frD y (by omega),m1.fr y (by omega) (by simp)];exact m0.fr y hy (by simp),by simp,by simp⟩⟩
 ·have hBC:C[h.length]?=some (.rows 1 26 false [[.sl 6 a1 l1.length c1],[.sl 6 a2 l2.length c2]]):=by rw[m1.fr _ hBl (by simp)];exact hbB
  have hBD:D[h.length]?=some (.rows 1 26 false [[.sl 6 a1 l1.length c1],[.sl 6 a2 l2.length c2]]):=by rw[frD _ (by omega)];exact hBC
  have w1:Ao (0+(l1.length:Int))=(l1.length:Int):=by rw[wr (by omega) (by omega)];omega
  have w2:Ao ((l1.length:Int)+(l2.length:Int))=((n+1:Nat):Int):=by rw[wr (by omega) (by omega)];omega
  have w3:Ao (0+1)=1:=by decide
  have w4:Ao (1+1)=2:=by decide
  rw[AQ.e,Ak (by decide),Cu ⟨by decide,by decide⟩];simp only[Ag,zbQ,show Int.toNat 0=0 from rfl];rw[ldB 0 hbB rfl];simp only[Ag,Ab,Af,Ah,w1,w3];rw[Aj (by omega),AQ.e,Ak (by decide),Cu ⟨by decide,by decide⟩];simp only[Ag,zbQ,show Int.toNat 1=1 from rfl];rw[ldB 1 hbB rfl];simp only[Ag,Ab,Af,Ah,w2,w4];rw[Aj (by omega),AQ.e,Aj (by decide),DJ];simp only[Ac,Ah];rw[AP.e,Ak (by decide),Cu ⟨by decide,by decide⟩];simp only[Ag,zbQ,show Int.toNat 0=0 from rfl];rw[ldB 0 hBC rfl];simp only[Ag,Ab,Af,Ah,w3];rw[er1,e5];simp only[Ah];rw[AP.e,Ak (by decide),Cu ⟨by decide,by decide⟩];simp only[Ag,zbQ,show Int.toNat 1=1 from rfl];rw[ldB 1 hBD rfl];simp only[Ag,Ab,Af,Ah,w4];rw[er2,show rows1.length=4 by omega,e6];simp only[Ah];rw[AP.e,Aj (by decide)];rw[show 4+rows2.length=(l1++l2).length by simp;omega]
 ·rw[zci,zcc (by simp;omega)];refine EAll.append (ea1.fr rver_ok.fr λy hy=>?_) (ea2.fr rver_ok.fr λy hy=>frE y ?_)
  ·have:=bd1 y hy;rw[frE y (by omega),frD y (by omega)]
  ·have:=bd2 y hy;omega
end


section
variable {lo:Nat}{h:Heap}{F F':List Nat}{a a':Pq}{c c':Nq}
theorem HO {p:Place}{a1 a2 a3:Pq}{c1 c2 c3:Nq}{F1 F2 F3:List Nat} (hs1:RNodes false h [.sl 2 a1 p.chain.length c1] p.chain F1) (hs2:RVers false h [.sl 6 a2 p.log.length c2] p.log F2)
  (hs3:RVss false h [.sl 1 a3 p.got.length c3] p.got F3) (hn:Dt p):Ae lo 13 [.agg (p.cs a1 c1 a2 c2 a3 c3)] h=some (.bool (As p),h):=by
 suffices hk:∃ h',_=some (V.bool (As p),h') from hk.elim λh' hk=>Qz hk;have m0:Mv h [] (h ++ [.rows 6 29 false [p.cs a1 c1 a2 c2 a3 c3]]) []:=Mv.snoc;have hB0:(h ++ [Blk.rows 6 29 false [p.cs a1 c1 a2 c2 a3 c3]])[h.length]?=some (.rows 6 29 false [p.cs a1 c1 a2 c2 a3 c3]):=by simp
 have hBl:h.length<(h ++ [Blk.rows 6 29 false [p.cs a1 c1 a2 c2 a3 c3]]).length:=by simp
 generalize hB:h ++ [Blk.rows 6 29 false [p.cs a1 c1 a2 c2 a3 c3]]=B at *
 have r1:=m0.keep0 rnodes_ok hs1;have r2:=m0.keep0 rvers_ok hs2;have r3:=m0.keep0 rvss_ok hs3;have ld1:∀ {X:Heap} (j:Nat) {v:V},X[h.length]?=some (.rows 6 29 false [p.cs a1 c1 a2 c2 a3 c3])->(p.cs a1 c1 a2 c2 a3 c3)[j]?=some v->ld X h.length 0 j 1=some [v]:=λj v hb hv=>by rw[BT hb rfl];exact OX hv
 rw[ld1 0 hB0 rfl];simp only[Ag,Ab,Af,Aa];rw[Md];simp only[Ac,Az];unfold As;cases An p.me 0 2 with
 | false=>exact ⟨_,rfl⟩
 | true =>
 rw[Ap,ld1 1 hB0 rfl];simp only[Ag,Ab,Af,Aa];rw[FI];simp only[Ac,Az];cases An p.clock 0 999 with
 | false=>exact ⟨_,rfl⟩
 | true =>
 rw[Ap,ld1 2 hB0 rfl];simp only[Ag,Ab,Af,Ah];rw[Mg r1 hn.1];simp only[Ac,Az];cases hc:Cs p.chain with
 | false=>exact ⟨_,by rw[zcE];rfl⟩
 | true =>
 rw[Ap,ld1 3 hB0 rfl];simp only[Ag,Ab,Af,Ah];rw[ld1 0 hB0 rfl];simp only[Ag,Ab,Af,Aa];rw[PQ r2 hn.2.1];simp only[Ac,Az];cases Eb p.me p.log with
 | false=>exact ⟨_,by rw[zcE];rfl⟩
 | true =>
 rw[Ap,ld1 4 hB0 rfl];simp only[Ag,Ab,Af,Ah];by_cases hg:¬ p.got.length=3
 ·rw[show ((p.got.length:Int)==3)=false by rw[beq_eq_false_iff_ne];omega,decide_eq_false hg];exact ⟨_,by rw[zcE];rfl⟩
 have hg:p.got.length=3:=by omega
 rw[show ((p.got.length:Int)==3)=true by rw[beq_iff_eq];omega,decide_eq_true hg,Ap];obtain ⟨hl4,hno⟩:=Cp hc;obtain ⟨at',ct,Gt,et,rt,_⟩:=Kz (lo:=h.length) (ld1 2 hB0 rfl) r1 (by omega) (by omega);rw[et];simp only[Ac,AA,Ab,Ah,Af];have hsl:=A3 (AH (hno _ (zbk (show p.chain.length - 1<p.chain.length by omega)))).1;obtain ⟨vg,hg1,Gg,eg,rg,mg⟩:=Nf (lo:=h.length) rt m0.le hsl;obtain ⟨ag,cg,esg,rg⟩:=rg.form;rw[<- If (by omega)] at rg esg;have hst:=Jk hc;rw[eg];simp only[Ac,AA,Ab,esg,Af];have hG0:hg1[h.length]?=some (.rows 6 29 false [p.cs a1 c1 a2 c2 a3 c3]):=by rw[mg.fr _ hBl (by simp)];exact hB0
 rw[ld1 2 hG0 rfl];simp only[Ag,Ab,Af,Ah];have r1':=mg.keep0 rnodes_ok r1;have r3':=mg.keep0 rvss_ok r3;have key:=zaK (p:=λi (x:Node)=>(x.store++x.wait).all (IQ (AW p.chain) p.clock i)) (l:=p.chain) (h0:=hg1) (λi hh=>B8 (List.length h) (List.length h) 0 0 false a1 p.chain.length c1 (p.chain.length:Nat) (i:Nat) ag (AW p.chain).length cg hh)
  (p.got.zipIdx.all λx=>ID p.me x.2 x.1) (λi hi hh hm=>by
   have hni:=hno _ (zbk hi);obtain ⟨g1,g2,g3⟩:=AH hni;obtain ⟨o,s1,s2,b1,d1,b2,d2,G1,G2,ha,ho,_,_,e1,e2,q1,q2,_⟩:=(hm.keep0 rnodes_ok r1').get hi;obtain ⟨a5,F5,h5,e5,r5,m5⟩:=Uo (lo:=h.length) q1 q2 (A3 g1) g2 (zbj (zb9 hBl) (zbj mg.le hm.le));have hmh:Mv hg1 [] h5 []:=hm.trans m5;have hH0:h5[h.length]?=some (.rows 6 29 false [p.cs a1 c1 a2 c2 a3 c3]):=by rw[hmh.fr _ (zbv hBl mg.le) (by simp)];exact hG0
   have rgs:=hmh.keep0 rtags_ok rg;refine ⟨h5,m5,?_⟩;rw[B8.e,Ak (by omega),Ad hi];simp only[ha,Ag,Bm,ho,Ab,e1,e2,Af];rw[e5];simp only[Ac,Ah];rw[<- ha];have hlen:(p.chain[i].store++p.chain[i].wait).length<=10:=by rw[zbw,A3 g1];omega
   refine (CL (p:=IQ (AW p.chain) p.clock i) (l:=p.chain[i].store++p.chain[i].wait) (λk=>Bv (List.length h) (List.length h) 0 0 false (i:Nat) a1 p.chain.length c1 (p.chain.length:Nat) (i:Nat) a5 (p.chain[i].store++p.chain[i].wait).length none ((p.chain[i].store++p.chain[i].wait).length:Nat) (k:Nat) ag (AW p.chain).length cg h5) (some (.bool false,h5)) (B8 (List.length h) (List.length h) 0 0 false a1 p.chain.length c1 (p.chain.length:Nat) ((i+1:Nat):Int) ag (AW p.chain).length cg h5) (λk hk=>?_) ?_).trans ?_
   ·obtain ⟨o',s,b,d,G,ha',ho',es,hp,_⟩:=r5.get hk;rw[Bv.e,Ak (by omega),Ad hk];simp only[ha',Ag,Bm,ho',Ab,Aa,es,Bq,AB,Af,zcj,At (show k<9223372036854775807 by omega),zbQ];rw[ld1 1 hH0 rfl];simp only[Ag,Ab,Af,Aa];have hk0:((i:Int)==0)=decide (i=0):=by rw[zcq,beq_iff_eq,decide_eq_true_eq];omega
    rw[hk0];have elem:IQ (AW p.chain) p.clock i (p.chain[i].store++p.chain[i].wait)[k]=((Hf (p.chain[i].store++p.chain[i].wait)[k] || B4 (p.chain[i].store++p.chain[i].wait)[k].past (AW p.chain))&&(!decide (i=0) || decide ((p.chain[i].store++p.chain[i].wait)[k].tag.time<=p.clock))):=rfl;have past4:Hf (p.chain[i].store++p.chain[i].wait)[k]=false->(p.chain[i].store++p.chain[i].wait)[k].past.length=4:=by
     intro hz;have hmem:(p.chain[i].store++p.chain[i].wait)[k]∈p.chain[i].store++p.chain[i].wait:=zbk hk;rw[zbl] at hmem;rcases hmem with hmem | hmem
     ·obtain ⟨j,hj,ej⟩:=zbV.1 hmem;rw[<- ej] at hz ⊢;exact Pa hni hj (by have:=JU hni (zbk hj);rw[hz] at this;simpa using this)
     ·obtain ⟨j,hj,ej⟩:=zbV.1 hmem;rw[<- ej];exact Rw hni hj
    rw[elem];generalize (p.chain[i].store++p.chain[i].wait)[k]=u at *
    have htm:∀ {T:Type} (x y:Option T),br (decide (u.tag.time>p.clock)) x y=br (!decide (u.tag.time<=p.clock)) x y:=by
     intro T x y;by_cases ht:u.tag.time<=p.clock
     ·rw[Aj (by omega),decide_eq_true ht];rfl
     ·rw[Ak (by omega),decide_eq_false ht];rfl
    simp only[htm];show br (Hf u) _ _=_;cases hz:Hf u with
    | true =>cases decide (i=0)<;>cases decide (u.tag.time<=p.clock)<;>simp only[Ap,Ay,zb5,zcs,zbK,zcD,zcj,zcE,Bool.true_or,zcn,Bool.or_true,Bool.or_false,cond_true,cond_false,if_true,if_false,zcr]
    | false =>have hu4:=past4 hz;rw[Ay,Li hp rgs (by omega) (by omega)];simp only[Ac,Az];rw[ld1 1 hH0 rfl];simp only[Ag,Ab,Af,Aa,htm];cases B4 u.past (AW p.chain)<;>cases decide (i=0)<;>cases decide (u.tag.time<=p.clock)<;>simp only[Ap,Ay,zb5,zcs,zbK,zcD,zcj,zcE,Bool.true_or,zcn,Bool.or_true,Bool.or_false,cond_true,cond_false,if_true,if_false,zcr]
   ·rw[Bv.e,Aj (by omega),At (by omega)]
   ·rfl) (λhh hm=>by
   have hH0:hh[h.length]?=some (.rows 6 29 false [p.cs a1 c1 a2 c2 a3 c3]):=by rw[hm.fr _ (zbv hBl mg.le) (by simp)];exact hG0
   have r3s:=hm.keep0 rvss_ok r3';refine ⟨hh,?_⟩;rw[B8.e,Aj (by omega)];simp only[zbQ];rw[ld1 4 hH0 rfl];simp only[Ag,Ab,Af,Ah];refine (IK (p:=ID p.me) (l:=p.got) (λi=>B7 (List.length h) (List.length h) 0 0 false a3 p.got.length c3 (p.got.length:Nat) (i:Nat) hh) (some (.bool false,hh)) (some (.bool true,hh)) (λi hi=>?_) ?_).trans Wx
   ·obtain ⟨o,s,b,d,G,ha,ho,es,hp,_⟩:=r3s.get hi;rw[B7.e,Ak (by omega),Ad hi];simp only[ha,Ag,Bm,ho,Ab,es,Af,zb8];rw[PQ hp (hn.2.2.2 _ (zbk hi)),];simp only[Ac,Az];rw[ld1 0 hH0 rfl];simp only[Ag,Ab,Af,Aa,At (show i<9223372036854775807 by omega)];unfold ID;by_cases h0:p.got[i].length=0
    ·rw[Aj (by omega),decide_eq_true h0];cases Eb i p.got[i]<;>cases ((i:Int)==p.me)<;>rfl
    ·rw[Ak (by omega),decide_eq_false h0];cases Eb i p.got[i]<;>cases ((i:Int)==p.me)<;>rfl
   ·rw[B7.e,Aj (by omega)])
 rw[V6 hc] at key;obtain ⟨h',e⟩:=key;refine ⟨h',e.trans ?_⟩;cases Ed p.chain<;>cases D2 p.chain p.clock<;>cases (p.got.zipIdx.all λx=>ID p.me x.2 x.1)<;>rfl
end


section
variable {h:Heap}
theorem zao {α:Type}{El:Rel α}{bd:α->Prop}{n t e ee R:Nat}{xs:List V} (hu:Tryz.prog.underlying t=some (.slice e)) (hR:Tryz.prog.cellsOf e=R) (hel:∀ row,TV Tryz.prog h n e row->∃ x F,El h row x F/\bd x) (hx:TV Tryz.prog h (n+1) t xs) :
  ∃ l F,Sli true R ee El h xs l F/\l.length<=maxLen/\∀ x∈l,bd x:=by
 simp only[TV,hu] at hx;obtain ⟨a,c,rs,rfl,⟨h2,_⟩,h3,h4⟩:=hx;have all:∀ rs:List (List V),(∀ row∈rs,TV Tryz.prog h n e row)->∃ l Fs,EAll El h rs l Fs/\l.length=rs.length/\∀ x∈l,bd x:=by
  intro rs;induction rs with
  | nil=>intro _;exact ⟨[],[],trivial,rfl,by simp⟩
  | cons r rs ih =>
   intro hr;obtain ⟨l,Fs,g1,g2,g3⟩:=ih λrow hrow=>hr row (by simp[hrow]);obtain ⟨x,F,g4,g5⟩:=hel r (hr r (by simp));exact ⟨x :: l,F :: Fs,⟨g4,g1⟩,by simp[g2],λy hy=>by
    rcases zbx.1 hy with rfl | hy
    ·exact g5
    ·exact g3 y hy⟩
 obtain ⟨l,Fs,g1,g2,g3⟩:=all rs λrow hr=>(h3 row hr).2
 rcases h4 with rfl | ⟨b,rfl,hb⟩
 ·have:l = []:=zbu (by simpa using g2);subst this;exact ⟨[],[],⟨R,a,c,by rw[hR];rfl,rfl,.inl ⟨rfl,rfl⟩⟩,zbN _,by simp⟩
 ·refine ⟨l,b :: Fs.flatten,⟨R,some (b,0),c,by rw[hR,g2],rfl,.inr ⟨b,0,rs,Fs,rfl,hb,by omega,?_,rfl⟩⟩,by omega,g3⟩;rw[zci,zcc (by omega)];exact g1
end


def Ca (ro:Bool):Rel Place:=λh cs p F=>∃ a1 c1 a2 c2 a3 c3,cs=p.cs a1 c1 a2 c2 a3 c3/\RPlace ro h cs p F
theorem rplaceN_ok {ro:Bool}:(Ca ro).Ok :=
 ⟨λh h' cs p F ⟨a1,c1,a2,c2,a3,c3,e,hp⟩ hb=>⟨a1,c1,a2,c2,a3,c3,e,rplace_ok.fr _ _ _ _ _ hp hb⟩,λh cs p F ⟨_,_,_,_,_,_,_,hp⟩=>rplace_ok.bd _ _ _ _ hp⟩
theorem Wn:∀ {l:List Tag},Yp Zl l=2*l.length
 | []=>rfl
 | t :: l=>by
  have h1:=Wn (l:=l);have h2:Yp Zl (t :: l)=2+Yp Zl l:=by simp only[Yp,List.map_cons,List.sum_cons]
  rw[h2,h1,zb7];omega
abbrev TA:Ver:=⟨0,⟨0,0⟩,[],⟨⟨[]⟩⟩,false⟩
abbrev Ji:Place:=⟨0,0,[],[],[],false⟩
section
variable {lo:Nat}{h:Heap}{F F':List Nat}{a a':Pq}{c c':Nq}
end


variable {l:List Node}
theorem Mv.swap {h h':Heap}{A B A' B':List Nat} (m:Mv h (A++B) h' (A'++B')):Mv h (B++A) h' (B'++A'):=by
 refine ⟨m.le,λb hb hn=>m.fr b hb λhm=>hn ?_,?_,λb hb=>?_⟩
 ·rw[zbl] at hm ⊢;exact hm.symm
 ·have:=m.nd;rw[zbm] at this ⊢;exact ⟨this.2.1,this.1,λx hx y hy e=>this.2.2 y hy x hx e.symm⟩
 ·rw[zbl] at hb;refine (m.sub b (by rw[zbl];exact hb.symm)).imp (λh=>?_) id;rw[zbl] at h ⊢;exact h.symm
theorem E0 {α:Type}{El:Rel α} (ok:El.Ok) {h0 h1:Heap}{lo R e n bytes:Nat}{a:Pq}{c:Nq}{l:List α}{F:List Nat}{row:List V}{x:α}{G:List Nat} (hs:Sli false R e El h0 [.sl R a n c] l F) (hx:El h1 row x G) (m:Mv h0 [] h1 G)
  (hnd:F.Nodup) (hlo:∀ b∈F,lo<=b) (hl:lo<=h0.length) (hb:0<bytes) (hsz:(l.length+1)*bytes<=140737488355328) :
  ∃ a' c' h2 F',(∀ {T:Type} (K:V->Heap->Option T),Dk lo e R bytes (.sl R a n c) [row] h1 K=K (.sl R a' (l.length+1) c') h2)/\Sli false R e El h2 [.sl R a' (l.length+1) c'] (l ++ [x]) F'/\Mv h0 F h2 F':=by
 have hbd:=(Sli.ok ok).bd _ _ _ _ hs;have hs1:=m.keep0 (Sli.ok ok) hs;have hGb:=m.lt (by simp);obtain ⟨a',c',h2,F',p1,p2,p3,p4,p5,p6⟩:=Sli.push (lo:=lo) (bytes:=bytes) ok.fr hs1 (xs := [row]) (ys := [x]) (Gs := [G]) ⟨hx,trivial⟩ hb hsz hlo (zbj hl m.le)
  (by
   rw[zbm];refine ⟨hnd,by simpa using m.nd,λy hy z hz=>?_⟩
   rintro rfl
   have g1:=hbd y hy;have g2:=m.new y (by simpa using hz);omega)
  (λb hb'=>by
   have g1:=m.le;rw[zbl] at hb';rcases hb' with hb' | hb'
   ·have:=hbd b hb';omega
   ·exact hGb b (by simpa using hb')) (by simp)
 refine ⟨a',c',h2,F',p1,p2,zbj m.le p3,λb hb' hF=>?_,p6,λb hb'=>?_⟩
 ·rw[p4 b (zbv hb' m.le) hF,m.fr b hb' (by simp)]
 ·have g1:=m.le;rcases p5 b hb' with g | g
  ·rw[zbl] at g;rcases g with g | g
   ·exact .inl g
   ·have g2:=m.new b (by simpa using g);have g3:=hGb b (by simpa using g);exact .inr (by omega)
  ·exact .inr (by omega)
def Ih (l:List Node):List Node:=match l.getLast? with
 | some x=>l ++ [⟨x.store,[]⟩]
 | none=>l
def Gc (l:List Node):Bool:=decide ((l.length:Int)<4)
def Kr (l:List Node):List Node:=bif Gc l then Ih l else l
theorem GP (h0:0<l.length):Ih l=l ++ [⟨(l[l.length - 1]'(by omega)).store,[]⟩]:=by unfold Ih;rw[zcw,Dx (by omega)]
def JK (raw:List V) (p:Place) (r:List V):Prop:=∃ s1 s2 s3 a1 c1 a2 c2 a3 c3,raw = [Iv p.me,Iv p.clock,s1,s2,s3,.bool p.fell] /\
 (∀ {T:Type} (K:Pq->Nat->Nq->Option T),eS 2 s1 K=K a1 p.chain.length c1)/\(∀ {T:Type} (K:Pq->Nat->Nq->Option T),eS 6 s2 K=K a2 p.log.length c2) /\
 (∀ {T:Type} (K:Pq->Nat->Nq->Option T),eS 1 s3 K=K a3 p.got.length c3)/\r=p.cs a1 c1 a2 c2 a3 c3
theorem N6 {hh:Heap}:∃ raw r,raw = [Iv 0,Iv 0,.sl 0 none 0 (some 0),.sl 0 none 0 (some 0),.sl 0 none 0 (some 0),.bool false]/\JK raw Ji r/\Ca false hh r Ji [] :=
 ⟨_,_,rfl,⟨_,_,_,none,some 0,none,some 0,none,some 0,rfl,λK=>rfl,λK=>rfl,λK=>rfl,rfl⟩,⟨none,some 0,none,some 0,none,some 0,rfl,_,_,_,[],[],[],rfl,rfl,Sli.nil,Sli.nil,Sli.nil⟩⟩
theorem Hs {p:Place}{a1 a2 a3:Pq}{c1 c2 c3:Nq}:JK (p.cs a1 c1 a2 c2 a3 c3) p (p.cs a1 c1 a2 c2 a3 c3) :=
 ⟨_,_,_,a1,c1,a2,c2,a3,c3,rfl,λK=>Ah _ _ _ _ _,λK=>Ah _ _ _ _ _,λK=>Ah _ _ _ _ _,rfl⟩
section
variable {lo:Nat}{h:Heap}{F F':List Nat}{a a':Pq}{c c':Nq}
theorem UM {l:List Ver}{n:Nat} (hs:RVers false h [.sl 6 a n c] l F):Ae lo 205 [.sl 6 a n c] h=some (.sl 6 a n (some n),h):=GB (by rw[LV hs])
theorem NR (hs:RNodes false h [.sl 2 a l.length c] l F) (h0:0<l.length) (hn:CD l) (hnd:F.Nodup) (hlo:∀ b∈F,lo<=b) (hl:lo<=h.length) :
  ∃ a' c' h' F',Ae lo 257 [.agg [.sl 2 a l.length c]] h=some (.agg [.sl 2 a' (l.length+1) c'],h')/\RNodes false h' [.sl 2 a' (l.length+1) c'] (Ih l) F'/\Mv h F h' F':=by
 have hn1:=hn.1;obtain ⟨o,s1,s2,b1,d1,b2,d2,G1,G2,ha,ho,ho1,ho2,e1,e2,q1,q2,_⟩:=hs.get (show l.length - 1<l.length by omega);obtain ⟨v3,h3,F3,e3,r3,m3⟩:=GL (lo:=lo) q1 hl (hn.2 _ (zbk _)).1;obtain ⟨a4,c4,es4,r4⟩:=r3.form;obtain ⟨a5,c5,h5,F5,e5,r5,m5⟩:=E0 (lo:=lo) (bytes:=48) (e:=47) rnode_ok hs (row := [.sl 6 a4 (l[l.length - 1]'(by omega)).store.length c4,.sl 0 none 0 (some 0)]) (x:=⟨(l[l.length - 1]'(by omega)).store,[]⟩) (G:=F3) (h1:=h3 ++ [.rows 2 47 false [[.sl 6 a4 (l[l.length - 1]'(by omega)).store.length c4,.sl 0 none 0 (some 0)]]])
  ⟨_,_,F3,[],rfl,by simp,Mv.snoc.keep0 rvers_ok r4,Sli.nil⟩ (m3.trans (Mv.snoc' m3.nd)) hnd hlo hl (by decide) (by omega)
 refine ⟨a5,c5,h5,F5,Q9 ?_,by rw[GP h0];exact r5,m5⟩;rw[wr (by omega) (by omega),Cu ⟨by omega,by omega⟩,show ((l.length:Int) - 1).toNat=l.length - 1 by omega];simp only[ha,Ag,ho1,Ab,e1,Af];rw[e3];simp only[Ac,AA,Ab,es4,Af,A9];rw[<- ha,e5];simp only[Ah]
end


variable {p:Place}
theorem IJ:∀ {row:List V}{n:Nat},row.length=n->cut row 0 n=some row
 | [],0,_=>rfl
 | v :: r,n+1,h=>by have h1:=IJ (row:=r) (n:=n) (by simpa using h);show (match cut r 0 n with | some l=>some (v :: l) | none=>none)=_;rw[h1]
theorem Y3 {a1 a2 a3 b1 b2 b3:Pq}{c1 c2 c3 d1 d2 d3:Nq} (h:p.cs a1 c1 a2 c2 a3 c3=p.cs b1 d1 b2 d2 b3 d3):a1=b1/\c1=d1/\a2=b2/\c2=d2/\a3=b3/\c3=d3:=by simp only[Place.cs,List.cons.injEq,V.sl.injEq,true_and,and_true] at h;obtain ⟨⟨h1,h2⟩,⟨h3,h4⟩,h5,h6⟩:=h;exact ⟨h1,h2,h3,h4,h5,h6⟩
def O4 (p p':Place):Place:=bif As p then p' else Ji
def L7 (p:Place):Place:=⟨p.me,p.clock,Kr p.chain,p.log,p.got,p.fell⟩
theorem FJ (h:As p=true):0<p.chain.length:=by unfold As at h;simp only[DH] at h;have:=(Cp h.1.1.1.1.2).1;omega
theorem Mv.swapNil {h h':Heap}{A B:List Nat} (m:Mv h [] h' (A++B)):Mv h [] h' (B++A):=Mv.swap (A := []) (B := []) m
theorem JC {b:Bool}{h:Heap}:br b (some (V.bool true,h)) (some (V.bool false,h))=some (V.bool b,h):=by cases b<;>rfl
theorem Zt:Dt Ji:=⟨⟨zbN _,by simp⟩,⟨zbN _,by simp⟩,⟨zbN _,by simp⟩⟩
section
variable {lo:Nat}{h:Heap}{F F':List Nat}{a a':Pq}{c c':Nq}
theorem LR {a1 a2 a3:Pq}{c1 c2 c3:Nq}{F1 F2 F3:List Nat} (hs1:RNodes false h [.sl 2 a1 p.chain.length c1] p.chain F1) (hs2:RVers false h [.sl 6 a2 p.log.length c2] p.log F2)
  (hs3:RVss false h [.sl 1 a3 p.got.length c3] p.got F3) (hl:lo<=h.length) (hn:Dt p) :
  ∃ raw a1' c1' a2' c2' a3' c3' h' F',Ae lo 58 [.agg (p.cs a1 c1 a2 c2 a3 c3)] h=some (.agg raw,h')/\JK raw p (p.cs a1' c1' a2' c2' a3' c3')/\RPlace false h' (p.cs a1' c1' a2' c2' a3' c3') p F'/\Mv h [] h' F':=by
 obtain ⟨vs,h',F',e,r,m⟩:=TO (lo:=lo) hs1 hs2 hs3 hl hn;obtain ⟨s1,s2,s3,G1,G2,G3,rfl,rfl,g1,g2,g3⟩:=r;obtain ⟨x1,y1,es1,g1⟩:=g1.form;obtain ⟨x2,y2,es2,g2⟩:=g2.form;obtain ⟨x3,y3,es3,g3⟩:=g3.form;exact ⟨_,x1,y1,x2,y2,x3,y3,h',_,e,⟨s1,s2,s3,x1,y1,x2,y2,x3,y3,rfl,λK=>es1 K,λK=>es2 K,λK=>es3 K,rfl⟩,⟨_,_,_,G1,G2,G3,rfl,rfl,g1,g2,g3⟩,m⟩
end


def Fp (l:List Node) (k:Nat) (v:Ver):List Node:=match l[k]? with
 | some x=>match x.store[v.key.toNat]? with
  | some u=>bif A7 u v then l.set k ⟨x.store.set v.key.toNat v,bif decide (k+1<l.length) then x.wait ++ [v] else x.wait⟩ else l
  | none=>l
 | none=>l
theorem UT {l:List Node}{k:Nat}{v:Ver} (hk:k<l.length) (hv:v.key.toNat<l[k].store.length) :
  Fp l k v=bif A7 l[k].store[v.key.toNat] v then l.set k ⟨l[k].store.set v.key.toNat v,bif decide (k+1<l.length) then l[k].wait ++ [v] else l[k].wait⟩ else l:=by
 unfold Fp;rw[Dx hk];simp only;rw[Dx hv]
section
variable {lo:Nat}{h h3:Heap}{F F' G:List Nat}{a a' av:Pq}{c c' cv:Nq}{n k:Nat}{l:List Node}{v:Ver}
theorem RJ (hs:RNodes false h [.sl 2 a n c] l F) (hk:k<l.length) (hnd:F.Nodup) (hlo:∀ b∈F,lo<=b) (hl:lo<=h.length) (hw:l[k].wait.length<=1048576) (hv:RTags false h3 [.sl 2 av v.past.length cv] v.past G) (m3:Mv h [] h3 G) :
  ∃ b i t2 a2 c2 a5 c5 h5,a=some (b,i)/\ld h b (i+k) 1 1=some [t2]/\(∀ {T:Type} (K:Pq->Nat->Nq->Option T),eS 6 t2 K=K a2 l[k].wait.length c2) /\
   (∀ {T:Type} (K:V->Heap->Option T),Dk lo 43 6 72 (.sl 6 a2 l[k].wait.length c2) [v.cs av cv] (h3 ++ [.rows 6 43 false [v.cs av cv]]) K=K (.sl 6 a5 (l[k].wait.length+1) c5) h5) /\
   (∃ F5,RVers false h5 [.sl 6 a5 (l[k].wait.length+1) c5] (l[k].wait ++ [v]) F5) /\
   ∀ c6,(c6=c5\/c6=some (l[k].wait.length+1))->∃ h6 F6,st lo h5 b (i+k) 1 [.sl 6 a5 (l[k].wait.length+1) c6]=some h6/\RNodes false h6 [.sl 2 a n c] (l.set k ⟨l[k].store,l[k].wait ++ [v]⟩) F6/\Mv h F h6 F6:=by
 obtain ⟨b,i,rs,row,G0,ha,hbF,hbG,hb,hrow,hel,hGF,hGn,_,put⟩:=hs.at rnode_ok hk hnd hlo;obtain ⟨t1,t2,F1,F2,rfl,rfl,r1,r2⟩:=hel;obtain ⟨a2,c2,e2,r2'⟩:=r2.form;rw[zbm] at hGn;obtain ⟨a5,c5,h5,F5,e5,r5,m5⟩:=E0 (lo:=lo) (bytes:=72) (e:=43) rver_ok r2' (row:=v.cs av cv) (x:=v) (G:=G) (h1:=h3 ++ [.rows 6 43 false [v.cs av cv]])
  ⟨_,rfl,Mv.snoc.keep0 rtags_ok hv⟩ (m3.trans (Mv.snoc' m3.nd)) hGn.2.1 (λy hy=>hlo y (hGF y (by simp[hy]))) hl (by decide) (by omega)
 have b1:∀ y∈F1,y<h.length:=rvers_ok.bd _ _ _ _ r1;have m6:=(m5.aside (G:=F1) (by rw[zbm];exact ⟨hGn.2.1,hGn.1,λx hx y hy e=>hGn.2.2 y hy x hx e.symm⟩) b1).swap;have r1':=m5.keep rvers_ok r1 λy hy hm=>hGn.2.2 y hy y hm rfl;refine ⟨b,i,t2,a2,c2,a5,c5,h5,ha,by rw[BT hb hrow];rfl,λK=>e2 K,λK=>e5 K,⟨F5,r5⟩,λc6 hc=>?_⟩;have r5':RVers false h5 [.sl 6 a5 (l[k].wait.length+1) c6] (l[k].wait ++ [v]) F5:=by
  rcases hc with rfl | rfl
  ·exact r5
  ·exact r5.clip
 obtain ⟨h6,F6,e6,r6,m7,_⟩:=put h5 (F1++F5) 1 [.sl 6 a5 (l[k].wait.length+1) c6] [t1,.sl 6 a5 (l[k].wait.length+1) c6] ⟨l[k].store,l[k].wait ++ [v]⟩ m6 rfl ⟨_,_,F1,F5,rfl,rfl,r1',r5'⟩;exact ⟨h6,F6,e6,r6,m7⟩
theorem Xa (hs:RNodes false h [.sl 2 a n c] l F) (hk:k<l.length) (hnd:F.Nodup) (hlo:∀ b∈F,lo<=b) (hq:v.key.toNat<l[k].store.length) (hv:RTags false h3 [.sl 2 av v.past.length cv] v.past G) (m3:Mv h [] h3 G) :
  ∃ b i t1 o c1,a=some (b,i)/\ld h b (i+k) 0 1=some [t1]/\(∀ {T:Type} (K:Pq->Nat->Nq->Option T),eS 6 t1 K=K (some o) l[k].store.length c1)/\(∃ F1,RVers false h [.sl 6 (some o) l[k].store.length c1] l[k].store F1) /\
   ∃ h4 F4,st lo h3 o.1 (o.2+v.key.toNat) 0 (v.cs av cv)=some h4/\RNodes false h4 [.sl 2 a n c] (l.set k ⟨l[k].store.set v.key.toNat v,l[k].wait⟩) F4/\Mv h F h4 F4:=by
 obtain ⟨b,i,rs,row,G0,ha,hbF,hbG,hb,hrow,hel,hGF,hGn,keep,_⟩:=hs.at rnode_ok hk hnd hlo;obtain ⟨t1,t2,F1,F2,rfl,rfl,r1,r2⟩:=hel;have hGn0:=hGn;rw[zbm] at hGn;obtain ⟨R',a1,c1,e1,g⟩:=id r1;injection e1 with e1 _;subst e1;cases a1 with
 | none =>have:=g.1;rw[this] at hq;exact absurd hq (Nat.not_lt_zero _)
 | some o =>
 obtain ⟨hR,_⟩:=g;subst hR;obtain ⟨b2,i2,rs2,row2,G2,e2,hb2,hbG2,hbb,hrow2,hel2,hGF2,hGn2,_,wr⟩:=r1.at rver_ok hq hGn.1 (λy hy=>hlo y (hGF y (by simp[hy])));injection e2 with e2;subst e2;obtain ⟨h4,F4,e4,r4,m4,_⟩:=wr h3 G 0 (v.cs av cv) (v.cs av cv) v (m3.wide (by simp)) (Dz (by obtain ⟨s,rfl,_⟩:=hel2;rfl)) ⟨_,rfl,hv⟩;have b2':∀ y∈F2,y<h.length:=rvers_ok.bd _ _ _ _ r2;have m5:=m4.aside (G:=F2) hGn0 b2';have r2':=m4.keep rvers_ok r2 λy hy hm=>hGn.2.2 y hm y hy rfl;obtain ⟨F5,r5,m6⟩:=keep h4 ⟨l[k].store.set v.key.toNat v,l[k].wait⟩ (F4++F2) m5 ⟨_,_,F4,F2,rfl,rfl,r4,r2'⟩;exact ⟨b,i,_,(b2,i2),c1,ha,by rw[BT hb hrow];rfl,λK=>Ah _ _ _ _ _,⟨F1,r1⟩,h4,F5,e4,r5,m6⟩
theorem K8 (hs:RNodes false h [.sl 2 a l.length c] l F) (hv:RTags false h [.sl 2 av v.past.length cv] v.past G) (hd:∀ b∈G,b∉F) (hnd:F.Nodup) (hlo:∀ b∈F,lo<=b) (hl:lo<=h.length) (hk:k<l.length)
  (hkey:0<=v.key/\v.key<l[k].store.length) (hn:CD l) (hvn:v.past.length<=1048576) :
  ∃ h' F',Ae lo 129 [.agg [.sl 2 a l.length c],Iv k,.agg (v.cs av cv)] h=some (.agg [.sl 2 a l.length c],h')/\RNodes false h' [.sl 2 a l.length c] (Fp l k v) F'/\Mv h F h' F':=by
 have hn1:=hn.1;have hkl:v.key.toNat<l[k].store.length:=by omega
 have hsm:=hn.2 _ (zbk hk);suffices hq:∃ h' F',_=some (V.agg [.sl 2 a l.length c],h')/\RNodes false h' [.sl 2 a l.length c] (Fp l k v) F'/\Mv h F h' F' from hq.imp λh' hq=>hq.imp λF' hq=>⟨Tl hq.1,hq.2⟩
 obtain ⟨b,i,rs,row,G0,ha,hbF,hbG,hb,hrow,hel,hGF,hGn,_,put⟩:=hs.at rnode_ok hk hnd hlo;obtain ⟨t1,t2,F1,F2,rfl,rfl,r1,r2⟩:=hel;obtain ⟨a1,c1,e1,r1'⟩:=r1.form;obtain ⟨o,s,_,_,_,ha1,_,_,_,_,_,_,ho12,_⟩:=RVers.all r1' hkl;have ld0:ld h b (i+k) 0 1=some [t1]:=by rw[BT hb hrow];rfl
 rw[UT hk hkl];rw[Ad hk];simp only[ha,Ag,Bm,ld0,Ab,Af,e1];rw[Cu ⟨by omega,by omega⟩];simp only[ha1,Ag,ho12,Ab,Aa,Af,BF,Ac,Az];show ∃ h' F',br (A7 l[k].store[v.key.toNat] v) _ _=_/\_;cases hle:A7 l[k].store[v.key.toNat] v with
 | false=>exact ⟨h,F,rfl,by rw[<- ha];exact hs,Mv.refl hnd⟩
 | true =>
  have hGn0:=hGn;rw[zbm] at hGn;have hGlt:∀ b∈G,b<h.length:=rtags_ok.bd _ _ _ _ hv;obtain ⟨h2,F3,e2,r3,m2⟩:=K9 (lo:=lo) r1' hv hGn.1 (λy hy=>hlo y (hGF y (by simp[hy]))) hl hkey hvn;have b2':∀ y∈F2,y<h.length:=rvers_ok.bd _ _ _ _ r2;have m3:=m2.aside (G:=F2) hGn0 b2';have r2':=m2.keep rvers_ok r2 λy hy hm=>hGn.2.2 y hm y hy rfl;have hadd:Ek l[k].store v=l[k].store.set v.key.toNat v:=by rw[Lq hkl,hle,cond_true]
  have hlen:(Ek l[k].store v).length=l[k].store.length:=addVer_len;rw[<- hlen] at r3;obtain ⟨h4,F4,e4,r4,m4,b4,fr4,l4⟩:=put h2 (F3++F2) 0 [.sl 6 a1 (Ek l[k].store v).length c1] [.sl 6 a1 (Ek l[k].store v).length c1,t2] ⟨Ek l[k].store v,l[k].wait⟩ m3 rfl ⟨_,_,F3,F2,rfl,rfl,r3,r2'⟩;rw[hlen] at e4;have hv4:RTags false h4 [.sl 2 av v.past.length cv] v.past G:=m4.keep rtags_ok hv hd;have hk4:k<(l.set k ⟨Ek l[k].store v,l[k].wait⟩).length:=by simpa using hk
  rw[Ap,Ad hk];simp only[Ag,ld0,Ab,e1,Af];rw[e2];simp only[Ac,AA,Ab,Ah,Af];rw[Ad hk,e4];simp only[Ag];rw[wr (by omega) (by omega),cond_true];by_cases hlast:k+1<l.length
  ·rw[Ak (by omega),Ad hk,decide_eq_true hlast,cond_true];obtain ⟨a6,c6,h6,F6,e6,r6,m6⟩:=CJ (lo:=h4.length) (v:=v) hv4 (zbo _) hvn;have hself:(l.set k ⟨Ek l[k].store v,l[k].wait⟩)[k]=⟨Ek l[k].store v,l[k].wait⟩:=zcG hk4;obtain ⟨b7,i7,u2,a7,c7,a8,c8,h8,ha7,ld7,e7,app7,_,st7⟩:=RJ (lo:=lo) r4 hk4 m4.nd (λy hy=>m4.ge hl hlo y hy) (zbj hl m4.le) (by rw[hself];exact hsm.2.1) r6 m6;simp only[hself] at e7 app7 st7;obtain ⟨h9,F9,e9,r9,m9⟩:=st7 _ (.inl rfl);rw[ha] at ha7;injection ha7 with ha7;injection ha7 with hb7 hi7;subst hb7;subst hi7;simp only[ld7,Ag,Ab,Af,e7];rw[e6];simp only[Ac,AA,Ab,Aa,Ah,Bq,AB,Af,A9];rw[app7];simp only[Ah];rw[Ad hk,e9];rw[List.set_set,hadd] at r9;exact ⟨h9,F9,rfl,by rw[<- ha];exact r9,m4.trans m9⟩
  ·rw[Aj (by omega),decide_eq_false hlast,cond_false];rw[hadd] at r4;exact ⟨h4,F4,rfl,by rw[<- ha];exact r4,m4⟩
theorem VJ {b i j R e:Nat}{rs:List (List V)}{row:List V} (hb:h[b]?=some (.rows R e false rs)) (hrow:rs[i]?=some row) (hcell:row[j]?=some (.sl 2 a l.length c)) (hs:RNodes false h [.sl 2 a l.length c] l F) (hbF:b∉F)
  (hv:RTags false h [.sl 2 av v.past.length cv] v.past G) (hd:∀ b∈G,b∉F) (hnd:F.Nodup) (hlo:∀ b∈F,lo<=b) (hl:lo<=h.length) (hk:k<l.length)
  (hkey:0<=v.key/\v.key<l[k].store.length) (hn:CD l) (hvn:v.past.length<=1048576) :
  ∃ h' F',Ae lo 204 [.ptr (some (b,(i,j))),Iv k,.agg (v.cs av cv)] h=some (.tup [],h')/\RNodes false h' [.sl 2 a l.length c] (Fp l k v) F'/\Mv h F h' F':=by
 have hn1:=hn.1;have hkl:v.key.toNat<l[k].store.length:=by omega
 have hsm:=hn.2 _ (zbk hk);have hblt:b<h.length:=(Gz hb).1;have hld:ld h b i j 1=some [.sl 2 a l.length c]:=by rw[BT hb hrow];exact OX hcell
 suffices hq:∃ h' F',_=some (V.tup [],h')/\RNodes false h' [.sl 2 a l.length c] (Fp l k v) F'/\Mv h F h' F' from hq.imp λh' hq=>hq.imp λF' hq=>⟨LD hq.1,hq.2⟩
 obtain ⟨a3,c3,h3,F3,e3,r3,m3⟩:=Fd (lo:=h.length) (v:=v) hv (zbo _) hvn;obtain ⟨b1,i1,t1,o,c1,ha,ld0,e1,⟨F1,r1⟩,h4,F4,e4,r4,m4⟩:=Xa (lo:=lo) hs hk hnd hlo hkl r3 m3;have hlat:=PR (lo:=lo) (v:=v) (ca:=av) (cc:=cv) (n:=v.past.length) r1 (by omega);rw[UT hk hkl];simp only[zb8,hld,Ag,Ab,Af,Ah];rw[Ad hk];simp only[ha,Ag,Bm,ld0,Ab,Af,e1];rw[hlat];simp only[Ac,Az];cases hle:A7 l[k].store[v.key.toNat] v with
 | false=>exact ⟨h,F,rfl,by rw[<- ha];exact hs,Mv.refl hnd⟩
 | true =>
  have hb4:h4[b]?=some (.rows R e false rs):=by rw[m4.fr b hblt hbF];exact hb
  have hld4:ld h4 b i j 1=some [.sl 2 a l.length c]:=by rw[BT hb4 hrow];exact OX hcell
  have hv4:RTags false h4 [.sl 2 av v.past.length cv] v.past G:=m4.keep rtags_ok hv hd;have hk4:k<(l.set k ⟨l[k].store.set v.key.toNat v,l[k].wait⟩).length:=by simpa using hk
  rw[Ap,e3];simp only[Ac,AA,Ab,Aa,Ah,Bq,AB,Af,Ag,ld0,e1];rw[Cu ⟨by omega,by omega⟩,e4];simp only[Ag,hld4,Ab,Ah,Af];rw[RZ hn1];simp only[Ac,Az,cond_true];by_cases hlast:k+1=l.length
  ·rw[decide_eq_true hlast,decide_eq_false (by omega),cond_false,Ap];exact ⟨h4,F4,rfl,by rw[<- ha];exact r4,m4⟩
  ·rw[decide_eq_false hlast,decide_eq_true (by omega),cond_true,Ay];obtain ⟨a6,c6,h6,F6,e6,r6,m6⟩:=Fd (lo:=h4.length) (v:=v) hv4 (zbo _) hvn;have hself:(l.set k ⟨l[k].store.set v.key.toNat v,l[k].wait⟩)[k]=⟨l[k].store.set v.key.toNat v,l[k].wait⟩:=zcG hk4;obtain ⟨b7,i7,u2,a7,c7,a8,c8,h8,ha7,ld7,e7,app7,⟨F8,r8⟩,st7⟩:=RJ (lo:=lo) r4 hk4 m4.nd (λy hy=>m4.ge hl hlo y hy) (zbj hl m4.le) (by rw[hself];exact hsm.2.1) r6 m6;simp only[hself] at e7 app7 st7 r8;obtain ⟨h9,F9,e9,r9,m9⟩:=st7 _ (.inr rfl);rw[ha] at ha7;injection ha7 with ha7;injection ha7 with hb7 hi7;subst hb7;subst hi7;simp only[ld7,Ag,Ab,Af,e7];rw[e6];simp only[Ac,AA,Ab,Aa,Ah,Bq,AB,Af,A9];rw[app7];simp only[Ah];rw[UM r8];simp only[Ac,Ah];rw[e9];rw[List.set_set] at r9;exact ⟨h9,F9,rfl,by rw[<- ha];exact r9,m4.trans m9⟩
end


def noted (me:Int) (log:List Ver) (v:Ver):List Ver:=bif decide (v.tag.time>0)&&(v.tag.place==me && !Cb log v.tag) then log ++ [v] else log
def D0 (l:List Node):List Ver:=match l.getLast? with
 | some x=>x.store
 | none => []
def Xx (l:List Node):Bool:=l.all λx=>decide (x.wait.length=0)
def BE (p:Place):Place:=⟨p.me,p.clock,p.chain,(D0 p.chain).foldl (noted p.me) p.log,p.got,p.fell && !Xx p.chain⟩
theorem EF {l:List Node} (h0:0<l.length):D0 l=(l[l.length - 1]'(by omega)).store:=by unfold D0;rw[zcw,Dx (by omega)]
theorem Xl {me:Int}{log:List Ver}{v:Ver}:(noted me log v).length<=log.length+1:=by unfold noted;cases decide (v.tag.time>0)&&(v.tag.place==me && !Cb log v.tag)<;>simp
section
variable {lo:Nat}{h:Heap}{F F':List Nat}{a a':Pq}{c c':Nq}
theorem KS {l:List Ver}{t p:Int}{ro:Bool} (hs:RVers ro h [.sl 6 a l.length c] l F) (hn:l.length<=1048576) :
  Ae lo 208 [.sl 6 a l.length c,.agg [Iv t,Iv p]] h=some (.bool (Cb l ⟨t,p⟩),h):=by
 refine Ot (h':=h) ?_;have loop:∀ m i,m+i=l.length->Cg h.length a l.length c false (i:Nat) t p h=some (.bool ((l.drop i).any λv=>v.tag.time==t&&v.tag.place==p),h):=by
  intro m;induction m with
  | zero =>intro i hi;rw[Cg.e,Aj (by omega),zcb (by omega)];rfl
  | succ m ih =>
   intro i hi;have hil:i<l.length:=by omega
   obtain ⟨o,s,_,_,_,ha,_,_,_,_,_,_,ho,_⟩:=RVers.all hs hil;rw[Cg.e,Ak (by omega),Ad hil];simp only[ha,Ag,Bm,ho,Ab,Aa,Af,zcj];rw[At (show i<9223372036854775807 by omega),<- ha,ih (i+1) (by omega),zbH hil,List.any_cons];cases (l[i].tag.time==t&&l[i].tag.place==p)<;>rfl
 exact loop l.length 0 (by omega)
theorem NO {p:Place}{a1 a2 a3:Pq}{c1 c2 c3:Nq}{F1 F2:List Nat} (hs1:RNodes false h [.sl 2 a1 p.chain.length c1] p.chain F1) (hs2:RVers false h [.sl 6 a2 p.log.length c2] p.log F2)
  (h0:0<p.chain.length) (h4:(D0 p.chain).length=4) (hd:∀ b∈F1,b∉F2) (hnd:F2.Nodup) (hlo:∀ b∈F2,lo<=b) (hl:lo<=h.length) (hcl:p.chain.length<=1048576) (hlog:p.log.length<=1000000) (hvn:∀ v∈D0 p.chain,v.past.length<=1048576) :
  ∃ a2' c2' h' F2',Ae lo 130 [.agg (p.cs a1 c1 a2 c2 a3 c3)] h=some (.agg ((BE p).cs a1 c1 a2' c2' a3 c3),h')/\RVers false h' [.sl 6 a2' (BE p).log.length c2'] (BE p).log F2'/\Mv h F2 h' F2':=by
 obtain ⟨o,s1,s2,b1,d1,b2,d2,G1,G2,ha,_,ho1,_,e1,_,q1,_,q3,_⟩:=hs1.get (show p.chain.length - 1<p.chain.length by omega);rw[EF h0] at h4 hvn;have two:∀ (hh:Heap) (F':List Nat) (ax:Pq) (nx:Nat) (cx:Nq),Mv h F2 hh F'->∀ m i (b:Bool),m+i=p.chain.length ->
   BH lo b (i:Nat) p.me p.clock a1 p.chain.length c1 ax nx cx a3 p.got.length c3 p.fell 0 0 0 none 0 (some 0) 0 none 0 (some 0) 0 none 0 (some 0) false hh=some (.agg [Iv p.me,Iv p.clock,.sl 2 a1 p.chain.length c1,.sl 6 ax nx cx,.sl 1 a3 p.got.length c3,.bool (p.fell && !(b&&(p.chain.drop i).all λx=>decide (x.wait.length=0)))],hh):=by
  intro hh F' ax nx cx hm m;induction m with
  | zero =>intro i b hi;rw[BH.e,Aj (by omega),zcb (by omega)];cases p.fell<;>cases b<;>rfl
  | succ m ih =>
   intro i b hi;have hil:i<p.chain.length:=by omega
   obtain ⟨o',_,_,_,_,_,_,_,_,ha',_,_,ho2',_,e2',_⟩:=(hm.keep rnodes_ok hs1 hd).get hil;rw[BH.e,Ak (by omega),At (show i<9223372036854775807 by omega)];cases b with
   | false=>rw[Ay,ih (i+1) false (by omega)];rfl
   | true =>rw[Ap,Ad hil];simp only[ha',Ag,Bm,ho2',Ab,Af,e2'];rw[<- ha',ih (i+1) true (by omega),ih (i+1) false (by omega),zbH hil,List.all_cons,show (((p.chain[i].wait.length:Nat):Int)==0)=decide (p.chain[i].wait.length=0) by rw[zcq,beq_iff_eq,decide_eq_true_eq];omega];cases decide (p.chain[i].wait.length=0)<;>rfl
 have one:∀ m i,m+i=4->∀ hh ax cx (lg:List Ver) Fx,RVers false hh [.sl 6 ax lg.length cx] lg Fx->Mv h F2 hh Fx->lg.length<=1000000+i->∃ a' c' h' F',
   BI lo (i:Nat) p.me p.clock a1 p.chain.length c1 ax lg.length cx a3 p.got.length c3 p.fell 0 0 0 none 0 (some 0) 0 none 0 (some 0) 0 none 0 (some 0) false b1 (p.chain[p.chain.length - 1]'(by omega)).store.length d1 hh =
    BH lo true 0 p.me p.clock a1 p.chain.length c1 a' (((p.chain[p.chain.length - 1]'(by omega)).store.drop i).foldl (noted p.me) lg).length c' a3 p.got.length c3 p.fell 0 0 0 none 0 (some 0) 0 none 0 (some 0) 0 none 0 (some 0) false h' /\
   RVers false h' [.sl 6 a' (((p.chain[p.chain.length - 1]'(by omega)).store.drop i).foldl (noted p.me) lg).length c'] (((p.chain[p.chain.length - 1]'(by omega)).store.drop i).foldl (noted p.me) lg) F'/\Mv h F2 h' F':=by
  intro m;induction m with
  | zero =>intro i hi hh ax cx lg Fx hr hm hlen;rw[BI.e,Aj (by omega),zcb (by omega)];exact ⟨ax,cx,hh,Fx,rfl,hr,hm⟩
  | succ m ih =>
   intro i hi hh ax cx lg Fx hr hm hlen;have hil:i<(p.chain[p.chain.length - 1]'(by omega)).store.length:=by omega
   have q1':=hm.keep rvers_ok q1 λy hy=>hd y (q3 y hy);obtain ⟨o',s',b',d',G',ha',_,_,_,_,_,_,_,ho',es',hp',_⟩:=RVers.all q1' hil;rw[zbH hil,zb3];rw[BI.e,Ak (by omega),Ad hil];simp only[ha',Ag,Bm,ho',Ab,Aa,es',Bq,AB,Af];rw[<- ha',At (show i<9223372036854775807 by omega),KS hr (by omega)];simp only[Ac,Az];have stay:=ih (i+1) (by omega) hh ax cx lg Fx hr hm (by omega);have hno:=@noted.eq_1 p.me lg ((p.chain[p.chain.length - 1]'(by omega)).store[i]'hil);cases g1:decide (((p.chain[p.chain.length - 1]'(by omega)).store[i]'hil).tag.time>0) with
   | false=>rw[Ay,hno,g1];exact stay
   | true =>
   rw[Ap];cases g2:(((p.chain[p.chain.length - 1]'(by omega)).store[i]'hil).tag.place==p.me) with
   | false=>rw[Ay,hno,g1,g2];exact stay
   | true =>
   rw[Ap];cases g3:Cb lg ((p.chain[p.chain.length - 1]'(by omega)).store[i]'hil).tag with
   | true=>rw[Ap,hno,g1,g2,g3];exact stay
   | false =>
   rw[Ay,hno,g1,g2,g3];obtain ⟨a3',c3',h3,F3,e3,r3,m3⟩:=CJ (lo:=lo) (v:=((p.chain[p.chain.length - 1]'(by omega)).store[i]'hil)) hp' (zbj hl hm.le) (hvn _ (zbk hil));obtain ⟨a5,c5,h5,F5,e5,r5,m5⟩:=E0 (lo:=lo) (bytes:=72) (e:=43) rver_ok hr (row:=((p.chain[p.chain.length - 1]'(by omega)).store[i]'hil).cs a3' c3') (x:=((p.chain[p.chain.length - 1]'(by omega)).store[i]'hil)) (G:=F3) (h1:=h3 ++ [.rows 6 43 false [((p.chain[p.chain.length - 1]'(by omega)).store[i]'hil).cs a3' c3']])
    ⟨_,rfl,Mv.snoc.keep0 rtags_ok r3⟩ (m3.trans (Mv.snoc' m3.nd)) hm.nd (λy hy=>hm.ge hl hlo y hy) (zbj hl hm.le) (by decide) (by omega)
   rw[e3];simp only[Ac,AA,Ab,Aa,Ah,Bq,AB,Af,A9];rw[e5];simp only[Ah];have:=ih (i+1) (by omega) h5 a5 c5 (lg ++ [((p.chain[p.chain.length - 1]'(by omega)).store[i]'hil)]) F5 (by rw[zbw];exact r5) (hm.trans m5) (by simp;omega);rw[zbw] at this;exact this
 obtain ⟨a',c',h',F',el,r,m⟩:=one 4 0 (by omega) h a2 c2 p.log F2 hs2 (Mv.refl hnd) (by omega);refine ⟨a',c',h',F',QX ?_,?_,m⟩
 ·rw[Cu ⟨by rw[wr (by omega) (by omega)];omega,by rw[wr (by omega) (by omega)];omega⟩,wr (by omega) (by omega),show ((p.chain.length:Int) - 1).toNat=p.chain.length - 1 by omega];simp only[ha,Ag,ho1,Ab,e1,Af];rw[<- ha];refine el.trans ?_;have:=two h' F' a' (((p.chain[p.chain.length - 1]'(by omega)).store.drop 0).foldl (noted p.me) p.log).length c' m p.chain.length 0 true (by omega);refine this.trans ?_;simp only[BE,Place.cs,EF h0,zci,zbK,Xx]
 ·simp only[BE,EF h0];rw[zci] at r;exact r
end


variable {l:List Node}
theorem Mv.store {h h':Heap}{F F':List Nat}{b:Nat} (m:Mv h F h' F') (hb:b<h.length) (hbF:b∉F) (X:Blk) :
  Mv h (b :: F) (h'.set b X) (b :: F')/\(h'.set b X)[b]?=some X/\(∀ y,y≠b->(h'.set b X)[y]?=h'[y]?)/\b∉F':=by
 have hbF':b∉F':=λhm=>by
  rcases m.sub b hm with g | g
  ·exact hbF g
  ·omega
 have hb':b<h'.length:=zbv hb m.le;refine ⟨⟨by simpa using m.le,λy hy hF=>?_,by rw[zbs];exact ⟨hbF',m.nd⟩,λy hy=>?_⟩,by simp[hb'],λy hy=>zbq (Ne.symm hy),hbF'⟩
 ·rw[zbx,not_or] at hF;rw[zbq (Ne.symm hF.1)];exact m.fr y hy hF.2
 ·rw[zbx] at hy;rcases hy with rfl | hy
  ·exact .inl (by simp)
  ·refine (m.sub y hy).imp (λg=>by simp[g]) λg=>by simpa using g
section
variable {lo:Nat}{ro:Bool}{h:Heap}{F F':List Nat}{a a':Pq}{c c':Nq}
theorem MM {g:Nat}{cl:List V}{p:Node->Bool} (hs:RNodes ro h [.sl 2 a l.length c] l F) (hn:l.length<=1048576)
  (hp:∀ lo x a1 c1 a2 c2,x∈l->Ae lo g (Dy [.agg [.sl 6 a1 x.store.length c1,.sl 6 a2 x.wait.length c2]] cl) h=some (.bool (p x),h)) :
  Ae lo 206 [.sl 2 a l.length c,.fn g cl] h=some (.bool (l.any p),h):=by
 have loop:∀ m k x,m+k=l.length->AF (List.length h) a l.length c g cl x (l.length:Nat) (k:Nat) h=some (Iv (Cd p (l.drop k) k),h):=by
  intro m;induction m with
  | zero =>intro k x hk;rw[AF.e,Aj (by omega),show k=l.length by omega];simp[Cd]
  | succ m ih =>
   intro k x hk;have hlt:k<l.length:=by omega
   obtain ⟨o,s1,s2,b1,d1,b2,d2,G1,G2,rfl,ho,_,_,e1,e2,_⟩:=hs.get hlt;rw[AF.e,Ak (by omega),Ad (by omega)];simp only[Ag,Bm,ho,Ab,e1,e2,Af];rw[hp (List.length h) l[k] b1 d1 b2 d2 (zbk hlt),Ac,Az,zbH hlt];simp only[Cd];cases p l[k]
   ·simp only[Ay,cond_false];rw[At (by omega)];exact ih (k+1) _ (by omega)
   ·simp
 exact Ef (h':=h) (by rw[EI (loop l.length 0 0 (by omega))];simp only[Ac,Aa,OZ];rw[IH];simp)
theorem YC:(l.any λx=>decide (x.wait.length>0)) = !Xx l:=by
 unfold Xx;induction l with
 | nil=>rfl
 | cons x l ih =>rw[List.any_cons,List.all_cons,ih,Bool.not_and];congr 1;rw[zcq,zb2,decide_eq_true_eq,decide_eq_false_iff_not];omega
theorem Un {p:Place}{b:Nat}{a1 a2 a3:Pq}{c1 c2 c3:Nq}{F1 F2:List Nat} (hb:h[b]?=some (.rows 6 29 false [p.cs a1 c1 a2 c2 a3 c3])) (hs1:RNodes false h [.sl 2 a1 p.chain.length c1] p.chain F1) (hs2:RVers false h [.sl 6 a2 p.log.length c2] p.log F2)
  (h0:0<p.chain.length) (h4:(D0 p.chain).length=4) (hd:∀ y∈F1,y∉b :: F2) (hnd:(b :: F2).Nodup) (hlo:∀ y∈b :: F2,lo<=y) (hl:lo<=h.length) (hcl:p.chain.length<=1048576) (hlog:p.log.length<=1000000) (hvn:∀ v∈D0 p.chain,v.past.length<=1048576)
  (htag:∀ v∈D0 p.chain,A6 v.tag.time v.tag.place=true) :
  ∃ a2' c2' h' F2',Ae lo 120 [.ptr (some (b,(0,0)))] h=some (.tup [],h')/\h'[b]?=some (.rows 6 29 false [(BE p).cs a1 c1 a2' c2' a3 c3])/\RVers false h' [.sl 6 a2' (BE p).log.length c2'] (BE p).log F2'/\Mv h (b :: F2) h' (b :: F2'):=by
 have hblt:b<h.length:=(Gz hb).1;have hlob:=hlo b (by simp);have hld2:ld h b 0 (0+2) 1=some [.sl 2 a1 p.chain.length c1]:=by rw[BT hb rfl];rfl
 obtain ⟨b1,d1,G1,e1,q1,q3⟩:=Kz (lo:=lo) hld2 hs1 h0 hcl;rw[EF h0] at h4 hvn htag;have one:∀ m i,m+i=4->∀ hh ax cx (lg:List Ver) Fx,hh[b]?=some (.rows 6 29 false [[Iv p.me,Iv p.clock,.sl 2 a1 p.chain.length c1,.sl 6 ax lg.length cx,.sl 1 a3 p.got.length c3,.bool p.fell]])->RVers false hh [.sl 6 ax lg.length cx] lg Fx->Mv h (b :: F2) hh (b :: Fx)->lg.length<=1000000+i->∃ a' c' h' F',
   A0 lo b 0 0 b1 (p.chain[p.chain.length - 1]'(by omega)).store.length d1 ((p.chain[p.chain.length - 1]'(by omega)).store.length:Nat) (i:Nat) hh =
    A0 lo b 0 0 b1 (p.chain[p.chain.length - 1]'(by omega)).store.length d1 ((p.chain[p.chain.length - 1]'(by omega)).store.length:Nat) (4:Nat) h' /\
   h'[b]?=some (.rows 6 29 false [[Iv p.me,Iv p.clock,.sl 2 a1 p.chain.length c1,.sl 6 a' (((p.chain[p.chain.length - 1]'(by omega)).store.drop i).foldl (noted p.me) lg).length c',.sl 1 a3 p.got.length c3,.bool p.fell]]) /\
   RVers false h' [.sl 6 a' (((p.chain[p.chain.length - 1]'(by omega)).store.drop i).foldl (noted p.me) lg).length c'] (((p.chain[p.chain.length - 1]'(by omega)).store.drop i).foldl (noted p.me) lg) F'/\Mv h (b :: F2) h' (b :: F'):=by
  intro m;induction m with
  | zero =>intro i hi hh ax cx lg Fx hbb hr hm hlen;rw[zcb (by omega),show i=4 by omega];exact ⟨ax,cx,hh,Fx,rfl,hbb,hr,hm⟩
  | succ m ih =>
   intro i hi hh ax cx lg Fx hbb hr hm hlen;have hil:i<(p.chain[p.chain.length - 1]'(by omega)).store.length:=by omega
   have q1':=hm.keep rvers_ok q1 λy hy=>hd y (q3 y hy);obtain ⟨o',s',b',d',G',ha',_,_,_,_,_,_,_,ho',es',hp',_⟩:=RVers.all q1' hil;have hmem:=zbk hil;have ht0:=U6 (htag _ hmem);have stay:=ih (i+1) (by omega) hh ax cx lg Fx hbb hr hm (by omega);have hno:=@noted.eq_1 p.me lg ((p.chain[p.chain.length - 1]'(by omega)).store[i]'hil);have l0:ld hh b 0 (0+0) 1=some [Iv p.me]:=by rw[BT hbb rfl];rfl
   have l3:ld hh b 0 (0+3) 1=some [.sl 6 ax lg.length cx]:=by rw[BT hbb rfl];rfl
   rw[zbH hil,zb3];generalize hx:((p.chain[p.chain.length - 1]'(by omega)).store[i]'hil)=x at *
   rw[A0.e,Ak (by omega),Ad hil];simp only[ha',Ag,Bm,ho',Ab,Aa,es',Bq,AB,Af,l0,l3,Ah];rw[<- ha',At (show i<9223372036854775807 by omega),Od hr (by omega),zcj];simp only[Ac,Az,l3,Ag,Ab,Af,Ah];cases g1:decide (x.tag.time>0) with
   | false =>rw[g1,Bool.not_eq_false'] at ht0;rw[ht0,Ap,hno,g1];exact stay
   | true =>
   rw[g1,zb2] at ht0;rw[ht0,Ay];cases g2:(x.tag.place==p.me) with
   | false=>rw[Ay,hno,g1,g2];exact stay
   | true =>
   rw[Ap];cases g3:Cb lg x.tag with
   | true=>rw[Ap,hno,g1,g2,g3];exact stay
   | false =>
   rw[Ay,hno,g1,g2,g3];have hnx:=hm.nd;rw[zbs] at hnx;obtain ⟨a3',c3',h3,F3,e3,r3,m3⟩:=Fd (lo:=hh.length) (v:=x) hp' (zbo _) (hvn _ hmem);obtain ⟨a5,c5,h5,F5,e5,r5,m5⟩:=E0 (lo:=lo) (bytes:=72) (e:=43) rver_ok hr (row:=x.cs a3' c3') (x:=x) (G:=F3) (h1:=h3 ++ [.rows 6 43 false [x.cs a3' c3']])
    ⟨_,rfl,Mv.snoc.keep0 rtags_ok r3⟩ (m3.trans (Mv.snoc' m3.nd)) hnx.2 (λy hy=>hm.ge hl hlo y (by simp[hy])) (zbj hl hm.le) (by decide) (by omega)
   have hblth:b<hh.length:=zbv hblt hm.le;have hb5:h5[b]?=hh[b]?:=m5.fr b hblth hnx.1;rw[hbb] at hb5;have e6:=D5 (cs := [.sl 6 a5 (lg.length+1) c5]) (j:=0+3) (r:=0) (row := [Iv p.me,Iv p.clock,.sl 2 a1 p.chain.length c1,.sl 6 ax lg.length cx,.sl 1 a3 p.got.length c3,.bool p.fell]) hb5 hlob rfl (Kx (by simp));obtain ⟨m6,b6,k6,n6⟩:=m5.store hblth hnx.1 (.rows 6 29 false [[Iv p.me,Iv p.clock,.sl 2 a1 p.chain.length c1,.sl 6 a5 (lg.length+1) c5,.sl 1 a3 p.got.length c3,.bool p.fell]]);rw[e3];simp only[Ac,AA,Ab,Aa,Ah,Bq,AB,Af,A9];rw[e5];simp only[Ah];rw[e6];simp only[Ag];have:=ih (i+1) (by omega) (h5.set b (.rows 6 29 false [[Iv p.me,Iv p.clock,.sl 2 a1 p.chain.length c1,.sl 6 a5 (lg.length+1) c5,.sl 1 a3 p.got.length c3,.bool p.fell]])) a5 c5 (lg ++ [x]) F5 (by rw[zbw];exact b6) (by rw[zbw];exact rvers_ok.fr _ _ _ _ _ r5 λy hy=>k6 y λe=>n6 (e ▸ hy)) (hm.trans m6) (by simp;omega);exact this
 obtain ⟨a',c',h',F',el,hb',r,m⟩:=one 4 0 (by omega) h a2 c2 p.log F2 hb hs2 (Mv.refl hnd) (by omega);rw[zci] at hb' r;generalize hres:(p.chain[p.chain.length - 1]'(by omega)).store.foldl (noted p.me) p.log=res at hb' r;have hnl:(BE p).log=res:=by simp only[BE,EF h0,hres]
 have hblt':b<h'.length:=zbv hblt m.le;have hnx:=m.nd;rw[zbs] at hnx;have l3:ld h' b 0 (0+3) 1=some [.sl 6 a' res.length c']:=by rw[BT hb' rfl];rfl
 have e6:=D5 (cs := [.sl 6 a' res.length (some res.length)]) (j:=0+3) (r:=0) (row := [Iv p.me,Iv p.clock,.sl 2 a1 p.chain.length c1,.sl 6 a' res.length c',.sl 1 a3 p.got.length c3,.bool p.fell]) hb' hlob rfl (Kx (by simp));obtain ⟨m6,b6,k6,n6⟩:=(Mv.refl (h:=h') hnx.2).store hblt' hnx.1 (.rows 6 29 false [[Iv p.me,Iv p.clock,.sl 2 a1 p.chain.length c1,.sl 6 a' res.length (some res.length),.sl 1 a3 p.got.length c3,.bool p.fell]]);generalize hh6:h'.set b (.rows 6 29 false [[Iv p.me,Iv p.clock,.sl 2 a1 p.chain.length c1,.sl 6 a' res.length (some res.length),.sl 1 a3 p.got.length c3,.bool p.fell]])=h6 at m6 b6 k6;have e6':st lo h' b 0 (0+3) [.sl 6 a' res.length (some res.length)]=some h6:=by rw[<- hh6];exact e6
 have r6:RVers false h6 [.sl 6 a' res.length (some res.length)] res F':=rvers_ok.fr _ _ _ _ _ r.clip λy hy=>k6 y λe=>hnx.1 (e ▸ hy);have l2:ld h6 b 0 (0+2+0) 1=some [.sl 2 a1 p.chain.length c1]:=by rw[BT b6 rfl];rfl
 have m7:=m.trans m6;have ec:=MM (lo:=lo) (g:=207) (cl := []) (p:=λx=>decide (x.wait.length>0)) (m7.keep rnodes_ok hs1 hd) hcl (λlo x a1 c1 a2 c2 _=>JT (h':=h6) (by
  by_cases hw:x.wait.length>0
  ·rw[Ak (by omega),decide_eq_true hw]
  ·rw[Aj (by omega),decide_eq_false hw]))
 rw[YC] at ec;suffices hq:∃ a2' c2' h' F2',_=some (V.tup [],h')/\h'[b]?=some (.rows 6 29 false [(BE p).cs a1 c1 a2' c2' a3 c3])/\RVers false h' [.sl 6 a2' (BE p).log.length c2'] (BE p).log F2'/\Mv h (b :: F2) h' (b :: F2') from hq.imp λ_ hq=>hq.imp λ_ hq=>hq.imp λ_ hq=>hq.imp λ_ hq=>⟨KN hq.1,hq.2⟩
 rw[e1];simp only[Ac,AA,Ab,Ah,Af];rw[show (0:Int)=((0:Nat):Int) from rfl,el,A0.e,Aj (by omega)];simp only[l3,Ag,Ab,Ah,Af];rw[UM r];simp only[Ac,Ah];rw[e6'];simp only[Ag,l2,Ab,Ah,Af];rw[ec];simp only[Ac,Az];have hcs:∀ f:Bool,f=(p.fell && !Xx p.chain)->([Iv p.me,Iv p.clock,.sl 2 a1 p.chain.length c1,.sl 6 a' res.length (some res.length),.sl 1 a3 p.got.length c3,.bool f]:List V)=(BE p).cs a1 c1 a' (some res.length) a3 c3:=by intro f hf;simp only[Place.cs,hnl];rw[hf];rfl
 cases hi:Xx p.chain with
 | false =>rw[hi] at hcs;rw[zcs,Ap];refine ⟨a',some res.length,h6,F',rfl,?_,by rw[hnl];exact r6,m7⟩;rw[b6,hcs p.fell (by simp)]
 | true =>rw[hi] at hcs;rw[zb5,Ay];have e8:=D5 (cs := [.bool false]) (j:=0+5) (r:=0) (row := [Iv p.me,Iv p.clock,.sl 2 a1 p.chain.length c1,.sl 6 a' res.length (some res.length),.sl 1 a3 p.got.length c3,.bool p.fell]) b6 hlob rfl (Kx (by simp));obtain ⟨m8,b8,k8,n8⟩:=(Mv.refl (h:=h6) hnx.2).store (zbv hblt m7.le) hnx.1 (.rows 6 29 false [[Iv p.me,Iv p.clock,.sl 2 a1 p.chain.length c1,.sl 6 a' res.length (some res.length),.sl 1 a3 p.got.length c3,.bool false]]);rw[e8];simp only[Ag];refine ⟨a',some res.length,_,F',rfl,?_,by rw[hnl];exact rvers_ok.fr _ _ _ _ _ r6 λy hy=>k8 y λe=>hnx.1 (e ▸ hy),m7.trans m8⟩;rw[<- hcs false (by simp)];exact b8
end


variable {v:Ver}{l:List Ver}{x:Node}{p:Place}{nw:Nat}
def thin (v:Ver):Prop:=v.past.length<=4/\v.text.size<=8/\A6 v.tag.time v.tag.place=true
def FT (nw:Nat) (x:Node):Prop:=x.store.length=4/\x.wait.length<=nw/\(∀ v∈x.store,thin v)/\∀ v∈x.wait,thin v
structure Tidy (nc nw nl:Nat) (p:Place):Prop where
 len:p.chain.length<=nc
 node:∀ x∈p.chain,FT nw x
 log:p.log.length<=nl/\∀ v∈p.log,thin v
 got:p.got.length<=3/\∀ l∈p.got,l.length<=nl/\∀ v∈l,thin v
theorem Is (h:Ba v=true):thin v:=by obtain ⟨_,h2,_,h3,h4,_⟩:=AT h;have:=DU h2;have:=Bx h3;exact ⟨by omega,by omega,h4⟩
theorem W4 (h:E4 v=true):thin v:=by rw[LH h];exact ⟨by simp,by show 0<=8;omega,rfl⟩
theorem Sp {i:Nat} (h:Ho i v=true):thin v:=(Dl h).elim W4 λh=>Is h.1
theorem HQ {m:Int} (h:Eb m l=true):l.length<=60/\∀ i (hi:i<l.length),Ba l[i]=true/\l[i].tag.place=m/\Cb (l.take i) l[i].tag=false:=by unfold Eb at h;rw[DH,EG,decide_eq_true_eq] at h;refine ⟨by omega,λi hi=>?_⟩;have:=h.1 i hi;simp only[L5,DH,beq_iff_eq,zb2] at this;exact ⟨this.1.1,this.1.2,this.2⟩
theorem Uf {m:Int} (h:Eb m l=true):l.length<=60/\∀ v∈l,thin v:=by obtain ⟨h1,h2⟩:=HQ h;refine ⟨h1,λv hv=>?_⟩;obtain ⟨i,hi,rfl⟩:=zbV.1 hv;exact Is (h2 i hi).1
theorem Ky (h:BY x=true):FT 6 x:=by obtain ⟨h1,h2,h3⟩:=AH h;refine ⟨A3 h1,h2,λv hv=>?_,λv hv=>Is (h3 v hv)⟩;obtain ⟨i,hi,rfl⟩:=zbV.1 hv;exact Sp (Df h1 hi)
theorem AX (h:As p=true):(0<=p.me/\p.me<=2)/\(0<=p.clock/\p.clock<=999)/\p.got.length=3/\Cs p.chain=true/\Ed p.chain=true/\Eb p.me p.log=true /\
  (∀ i (hi:i<p.got.length),ID p.me i p.got[i]=true)/\D2 p.chain p.clock=true:=by
 unfold As at h;simp only[DH,EG,decide_eq_true_eq,An] at h;obtain ⟨⟨⟨⟨⟨⟨⟨h1,h2⟩,h3⟩,h4⟩,h5⟩,h6⟩,h7⟩,h8⟩:=h;exact ⟨h1,h2,h3,h4,h5,h6,h7,h8⟩
theorem SM (h:As p=true) {i:Nat} (hi:i<p.got.length):Eb i p.got[i]=true:=by have:=(AX h).2.2.2.2.2.2.1 i hi;unfold ID at this;rw[DH] at this;exact this.1
theorem CS (h:As p=true):Tidy 4 6 60 p:=by obtain ⟨_,_,h3,h4,_,h6,h7,_⟩:=AX h;obtain ⟨g1,g2⟩:=Cp h4;refine ⟨g1.2,λx hx=>Ky (g2 x hx),Uf h6,by omega,λl hl=>?_⟩;obtain ⟨i,hi,rfl⟩:=zbV.1 hl;exact Uf (SM h hi)
theorem OQ {α:Type}{w:α->Nat}{c:Nat}:∀ {l:List α},(∀ v∈l,w v<=c)->Yp w l<=c*l.length
 | [],_=>by simp[Yp]
 | x :: l,h=>by have h1:=OQ (w:=w) (l:=l) λv hv=>h v (by simp[hv]);have h2:=h x (by simp);simp only[Yp,List.map_cons,List.sum_cons,zb7,Nat.mul_add,Nat.mul_one] at h1 ⊢;omega
theorem zap (h:thin v):zam v<=13:=by have:=h.1;unfold zam;rw[Wn];omega
theorem OO (hl:l.length<=1048576) (h:∀ v∈l,thin v):Ct l:=⟨hl,λv hv=>by have:=h v hv;exact ⟨by have:=this.1;omega,by have:=this.2.1;omega⟩⟩
theorem ON (h:∀ v∈l,thin v):TD l<=13*l.length:=OQ λv hv=>zap (h v hv)
theorem ZF (h:FT nw x) (hw:nw<=100):Ct x.store/\Ct x.wait:=by obtain ⟨h1,h2,h3,h4⟩:=h;exact ⟨OO (by omega) h3,OO (by omega) h4⟩
theorem zat (h:FT nw x) (hw:nw<=100):XV x<=1352:=by obtain ⟨h1,h2,h3,h4⟩:=h;have:=ON h3;have:=ON h4;unfold XV;omega
theorem TF {nc nl:Nat} (h:Tidy nc nw nl p) (h1:nc<=100) (h2:nw<=100):CD p.chain:=⟨by have:=h.len;omega,λx hx=>ZF (h.node x hx) h2⟩
theorem FN {nc nl:Nat} (h:Tidy nc nw nl p) (h1:nc<=100) (h2:nw<=100) (h3:nl<=1000):Dt p/\(1:Int)+XT p<=zbg:=by
 have g1:=h.len;have g2:=h.log.1;have g3:=h.got.1;refine ⟨⟨TF h h1 h2,OO (by omega) h.log.2,by omega,λl hl=>OO (by have:=(h.got.2 l hl).1;omega) (h.got.2 l hl).2⟩,?_⟩;have e1:XU p.chain<=1352*p.chain.length:=OQ λx hx=>zat (h.node x hx) h2;have e2:=ON h.log.2;have e3:zaQ p.got<=13000*p.got.length:=OQ λl hl=>by have:=ON (h.got.2 l hl).2;have:=(h.got.2 l hl).1;omega
 simp only[XT,zbg];omega
theorem O6 {nc nl k:Nat}{t:Int} (h:Tidy nc nw nl p) (hv:thin v):Tidy nc (nw+1) nl ⟨p.me,t,Fp p.chain k v,p.log,p.got,p.fell⟩:=by
 have hx:∀ x,x∈p.chain->FT (nw+1) x:=λx hx=>by obtain ⟨g1,g2,g3⟩:=h.node x hx;exact ⟨g1,by omega,g3⟩
 have key:(Fp p.chain k v).length<=nc/\∀ x∈Fp p.chain k v,FT (nw+1) x:=by
  unfold Fp;split
  ·rename_i x hk
   split
   ·rename_i u hu
    cases A7 u v with
    | false=>exact ⟨h.len,hx⟩
    | true =>
     rw[cond_true];refine ⟨by simpa using h.len,λy hy=>?_⟩;rcases zbI hy with hy | rfl
     ·exact hx y hy
     ·obtain ⟨g1,g2,g3,g4⟩:=h.node x (zbF hk);refine ⟨by simpa using g1,?_,λw hw=>?_,?_⟩
      ·cases decide (k+1<p.chain.length)
       ·show x.wait.length<=nw+1;omega
       ·show (x.wait ++ [v]).length<=nw+1;simp;omega
      ·rcases zbI hw with hw | rfl
       ·exact g3 w hw
       ·exact hv
      ·cases decide (k+1<p.chain.length)
       ·exact g4
       ·intro w hw;rcases zbl.1 hw with hw | hw
        ·exact g4 w hw
        ·rw[zbr] at hw;subst hw;exact hv
   ·exact ⟨h.len,hx⟩
  ·exact ⟨h.len,hx⟩
 exact ⟨key.1,key.2,h.log,h.got⟩
theorem Lg {l:List Node} (h0:0<l.length):∃ x∈l,D0 l=x.store:=⟨_,zbk (show l.length - 1<l.length by omega),EF h0⟩


variable {l:List Node}{p:Place}{v:Ver}
def IA (s:List Ver) (v:Ver):Bool:=match s[v.key.toNat]? with
 | some u=>A7 u v
 | none=>false
def FY (l:List Node):List Ver:=match l[0]? with
 | some x=>x.store
 | none => []
def DG (l:List Node) (k:Nat):Bool:=match l[k]? with
 | some x=>decide (x.wait.length<6)
 | none=>false
def JO (p:Place) (f:Nat):List Ver:=match p.got[f]? with
 | some l=>l
 | none => []
def Ju (p:Place) (f:Nat):Option Ver:=(JO p f).find? (IA (FY p.chain))
def EN (p:Place) (k:Nat) (t:Int) (v:Ver):Place:=⟨p.me,t,Fp p.chain k v,p.log,p.got,p.fell⟩
theorem PU (h0:0<l.length):FY l=l[0].store:=by unfold FY;rw[Dx h0]
theorem H0 {k:Nat} (hk:k<l.length):DG l k=decide (l[k].wait.length<6):=by unfold DG;rw[Dx hk]
theorem I6 {f:Nat} (hf:f<p.got.length):JO p f=p.got[f]:=by unfold JO;rw[Dx hf]
theorem Uh {s:List Ver} (h:v.key.toNat<s.length):IA s v=A7 s[v.key.toNat] v:=by unfold IA;rw[Dx h]
theorem Mj {α:Type}{p:α->Bool}:∀ {l:List α}{k:Nat},(∃ i,∃ hi:i<l.length,Cd p l k=((k+i:Nat):Int)/\l.find? p=some l[i])\/(Cd p l k = -1/\l.find? p=none)
 | [],k => .inr ⟨rfl,rfl⟩
 | x :: l,k=>by
  simp only[Cd,List.find?_cons];cases hp:p x with
  | true=>exact .inl ⟨0,by simp,by simp,by simp⟩
  | false =>
   rw[cond_false];rcases Mj (p:=p) (l:=l) (k:=k+1) with ⟨i,hi,h1,h2⟩ | h
   ·exact .inl ⟨i+1,by simpa using hi,by rw[h1];congr 1;omega,by simpa using h2⟩
   ·exact .inr h
theorem addN_len {k:Nat}:(Fp l k v).length=l.length:=by
 unfold Fp;split
 ·split
  ·cases A7 _ v<;>simp
  ·rfl
 ·rfl
section
variable {lo:Nat}{ro:Bool}{h:Heap}{F F':List Nat}{a a':Pq}{c c':Nq}
theorem JZ (hs:RNodes ro h [.sl 2 a l.length c] l F) (h0:0<l.length):Ae lo 125 [.agg [.sl 2 a l.length c]] h=some (.bool (DG l 0),h):=by
 refine Q5 (h':=h) ?_;obtain ⟨o,s1,s2,b1,d1,b2,d2,G1,G2,ha,_,_,ho2,_,e2,_⟩:=hs.get h0;rw[H0 h0,show (0:Int)=((0:Nat):Int) from rfl,Ad h0];simp only[ha,Ag,Bm,ho2,Ab,e2,Af];by_cases hw:l[0].wait.length<6
 ·rw[Ak (by omega),decide_eq_true hw]
 ·rw[Aj (by omega),decide_eq_false hw]
theorem R0 {b i j k:Nat} (hld:ld h b i j 1=some [.sl 2 a l.length c]) (hs:RNodes ro h [.sl 2 a l.length c] l F) (hk:k<l.length):Ae lo 117 [.ptr (some (b,(i,j))),Iv (k:Nat)] h=some (.bool (!DG l k),h):=by
 refine MK (h':=h) ?_;obtain ⟨o,s1,s2,b1,d1,b2,d2,G1,G2,ha,_,_,ho2,_,e2,_⟩:=hs.get hk;rw[zb8,hld];simp only[Ag,Ab,Af,Ah];rw[H0 hk,Ad hk];simp only[ha,Ag,Bm,ho2,Ab,e2,Af];by_cases hw:l[k].wait.length<6
 ·rw[Aj (by omega),decide_eq_true hw];rfl
 ·rw[Ak (by omega),decide_eq_false hw];rfl
theorem LQ {f:Nat}{a1 a2 a3:Pq}{c1 c2 c3:Nq}{F1 F3:List Nat} (hs1:RNodes ro h [.sl 2 a1 p.chain.length c1] p.chain F1) (hs3:RVss ro h [.sl 1 a3 p.got.length c3] p.got F3)
  (h0:0<p.chain.length) (hf:f<p.got.length) (hk:∀ v∈p.got[f],0<=v.key/\v.key<(FY p.chain).length) (hn:p.got[f].length<=1048576) :
  Ae lo 292 [.agg (p.cs a1 c1 a2 c2 a3 c3),Iv (f:Nat)] h=some (Iv (Cd (IA (FY p.chain)) p.got[f] 0),h):=by
 refine Qk (h':=h) ?_;obtain ⟨o,s1,s2,b1,d1,b2,d2,G1,G2,ha,_,ho1,_,e1,_,q1,_⟩:=hs1.get h0;obtain ⟨o3,s3,b3,d3,G3,ha3,ho3,e3,q3,_⟩:=hs3.get hf;rw[PU h0] at *
 rw[show (0:Int)=((0:Nat):Int) from rfl,Ad h0];simp only[ha,Ag,Bm,ho1,Ab,e1,Af];have loop:∀ m i,m+i=p.got[f].length->Cv (List.length h) (f:Nat) ((0:Nat):Int) (i:Nat) p.me p.clock a1 p.chain.length c1 a2 p.log.length c2 a3 p.got.length c3 p.fell b1 p.chain[0].store.length d1 h=some (Iv (Cd (IA p.chain[0].store) (p.got[f].drop i) i),h):=by
  intro m;induction m with
  | zero =>intro i hi;rw[Cv.e,Ad hf];simp only[ha3,Ag,Bm,ho3,Ab,e3,Af];rw[Aj (by omega),zcb (by omega)];rfl
  | succ m ih =>
   intro i hi;have hil:i<p.got[f].length:=by omega
   have hky:=hk _ (zbk hil);have hkl:p.got[f][i].key.toNat<p.chain[0].store.length:=by omega
   obtain ⟨o4,s4,b4,d4,G4,ha4,ho4,e4,q4,_⟩:=q3.get hil;obtain ⟨o5,s5,b5,d5,G5,ha5,_,_,_,_,_,_,ho512,_⟩:=RVers.all q1 hkl;rw[Cv.e,Ad hf];simp only[ha3,Ag,Bm,ho3,Ab,e3,Af];rw[Ak (by omega),Ad hf,Ad hil];simp only[ha4,Ag,Bm,ho4,Ab,Aa,e4,Bq,AB,Af];rw[Cu ⟨by omega,by omega⟩];simp only[ha5,Ag,ho512,Ab,Aa,Af,BF,Ac,Az];rw[<- ha3,<- ha5,At (show i<9223372036854775807 by omega),ih (i+1) (by omega),zbH hil];simp only[Cd];rw[Uh hkl];unfold A7;cases GA _ _ _ _<;>rfl
 have:=loop _ 0 rfl;rw[zci] at this;rw[<- ha];exact this
theorem LT {k:Nat}{t:Int}{a1 a2 a3 av:Pq}{c1 c2 c3 cv:Nq}{F1 F2 G:List Nat} (hs1:RNodes false h [.sl 2 a1 p.chain.length c1] p.chain F1) (hs2:RVers false h [.sl 6 a2 p.log.length c2] p.log F2)
  (hv:RTags false h [.sl 2 av v.past.length cv] v.past G) (hvd:∀ b∈G,b∉F1) (hnd:(F1++F2).Nodup) (hlo:∀ b∈F1++F2,lo<=b) (hl:lo<=h.length) (hk:k<p.chain.length) (hkey:0<=v.key/\v.key<=3)
  (ht:Tidy 10 20 100 p) (hvt:thin v) :
  ∃ h2 a2' c2' h3 F1' F2',Ae lo 129 [.agg [.sl 2 a1 p.chain.length c1],Iv k,.agg (v.cs av cv)] h=some (.agg [.sl 2 a1 p.chain.length c1],h2) /\
   Ae lo 130 [.agg ((EN p k t v).cs a1 c1 a2 c2 a3 c3)] h2=some (.agg ((BE (EN p k t v)).cs a1 c1 a2' c2' a3 c3),h3) /\
   RNodes false h3 [.sl 2 a1 (BE (EN p k t v)).chain.length c1] (BE (EN p k t v)).chain F1'/\RVers false h3 [.sl 6 a2' (BE (EN p k t v)).log.length c2'] (BE (EN p k t v)).log F2'/\Mv h (F1++F2) h3 (F1'++F2'):=by
 have ta:=O6 (k:=k) (t:=t) ht hvt;have hn:=TF ht (by decide) (by decide);have hsto:=(ht.node _ (zbk hk)).1;have hnd':=hnd;rw[zbm] at hnd';obtain ⟨h2,F1',e2,r2,m2⟩:=K8 (lo:=lo) hs1 hv hvd hnd'.1 (λb hb=>hlo b (by simp[hb])) hl hk ⟨hkey.1,by omega⟩ hn (by have:=hvt.1;omega);rw[<- addN_len (k:=k) (v:=v)] at r2;have b2:∀ y∈F2,y<h.length:=rvers_ok.bd _ _ _ _ hs2;have m3:=m2.aside (G:=F2) hnd b2;have hs2':=m2.keep rvers_ok hs2 λy hy hm=>hnd'.2.2 y hm y hy rfl;have nd3:=m3.nd;rw[zbm] at nd3;have h0:0<(EN p k t v).chain.length:=by show 0<(Fp p.chain k v).length;rw[addN_len];omega
 obtain ⟨x,hx,hxe⟩:=Lg h0;have hxn:=ta.node x hx;have hl2:=m2.le;obtain ⟨a2',c2',h3,F2',e3,r3,m4⟩:=NO (lo:=lo) (p:=EN p k t v) (a3:=a3) (c3:=c3) r2 hs2' h0 (by rw[hxe];exact hxn.1) (λy hy hy2=>nd3.2.2 y hy y hy2 rfl) hnd'.2.1 (λb hb=>hlo b (by simp[hb])) (by omega) (zbj ta.len (by decide)) (zbj ta.log.1 (by decide))
  (λw hw=>by rw[hxe] at hw;have:=(hxn.2.2.1 w hw).1;omega)
 have r2':=m4.keep rnodes_ok r2 λy hy hy2=>nd3.2.2 y hy y hy2 rfl;have b1:∀ y∈F1',y<h2.length:=rnodes_ok.bd _ _ _ _ r2;have m5:=(m4.aside (G:=F1') (by rw[zbm];exact ⟨nd3.2.1,nd3.1,λx hx y hy e=>nd3.2.2 y hy x hx e.symm⟩) b1).swap;exact ⟨h2,a2',c2',h3,F1',F2',e2,e3,r2',r3,m3.trans m5⟩
end


def J3 (p:Place) (t:Int):Place:=⟨p.me,t,p.chain,p.log,p.got,p.fell⟩
def GD (t c:Int):Int:=if t>c then t else c
theorem zae {h h1 h2:Heap}{b:Nat}{G1 G1' G2 G2' G3:List Nat} (m1:Mv h G1 h1 G1') (m2:Mv h1 (b :: G2) h2 (b :: G2')) (hnd:(b ::(G1++(G2++G3))).Nodup) (hb:∀ y∈b ::(G1++(G2++G3)),y<h.length) :
  Mv h (b ::(G1++(G2++G3))) h2 (b ::(G1'++(G2'++G3)))/\(∀ y∈G1',y∉b :: G2)/\(∀ y∈G3,y∉G1)/\∀ y∈G3,y∉b :: G2:=by
 rw[zbs,zbm,zbl,zbl,zbm] at hnd;obtain ⟨n1,n2,⟨n3,n4,n5⟩,n6⟩:=hnd;simp only[not_or] at n1;have hbb:=hb b (by simp);have hb1:∀ y∈G1,y<h.length:=λy hy=>hb y (by simp[hy]);have hb2:∀ y∈G2,y<h.length:=λy hy=>hb y (by simp[hy]);have hb3:∀ y∈G3,y<h.length:=λy hy=>hb y (by simp[hy]);have l1:=m1.le;have l2:=m2.le;have d1:∀ y∈G1',y∉b :: G2:=λy hy hm=>by
  rcases m1.sub y hy with g | g
  ·rcases zbx.1 hm with rfl | hm
   ·exact n1.1 g
   ·exact n6 y g y (by simp[hm]) rfl
  ·rcases zbx.1 hm with rfl | hm
   ·omega
   ·have:=hb2 y hm;omega
 have d2:∀ y∈G3,y∉G1:=λy hy hm=>n6 y hm y (by simp[hy]) rfl;have d3:∀ y∈G3,y∉b :: G2:=λy hy hm=>by
  rcases zbx.1 hm with rfl | hm
  ·exact n1.2.2 hy
  ·exact n5 y hm y hy rfl
 have nd2:=m2.nd;rw[zbs] at nd2;have s1:∀ y∈G1',y<h1.length:=m1.lt hb1;refine ⟨⟨by omega,λy hy hF=>?_,?_,λy hy=>?_⟩,d1,d2,d3⟩
 ·simp only[zbx,zbl,not_or] at hF;rw[m2.fr y (by omega) (by simp only[zbx,not_or];exact ⟨hF.1,hF.2.2.1⟩),m1.fr y hy hF.2.1]
 ·rw[zbs,zbm,zbl,zbl,zbm];refine ⟨?_,m1.nd,⟨nd2.2,n4,λx hx y hy e=>?_⟩,λx hx y hy e=>?_⟩
  ·simp only[not_or];exact ⟨λg=>d1 b g (by simp),nd2.1,n1.2.2⟩
  ·subst e;rcases m2.sub x (by simp[hx]) with g | g
   ·exact d3 x hy g
   ·have:=hb3 x hy;omega
  ·subst e;rcases zbl.1 hy with hy | hy
   ·rcases m2.sub x (by simp[hy]) with g | g
    ·exact d1 x hx g
    ·have:=s1 x hx;omega
   ·rcases m1.sub x hx with g | g
    ·exact d2 x hy g
    ·have:=hb3 x hy;omega
 ·simp only[zbx,zbl] at hy ⊢;rcases hy with hy | hy | hy | hy
  ·exact .inl (.inl hy)
  ·rcases m1.sub y hy with g | g
   ·exact .inl (.inr (.inl g))
   ·exact .inr ⟨g.1,by omega⟩
  ·rcases m2.sub y (by simp[hy]) with g | g
   ·rcases zbx.1 g with g | g
    ·exact .inl (.inl g)
    ·exact .inl (.inr (.inr (.inl g)))
   ·exact .inr ⟨by omega,g.2⟩
  ·exact .inl (.inr (.inr (.inr hy)))
section
variable {lo:Nat}{ro:Bool}{h:Heap}{F F':List Nat}{a a':Pq}{c c':Nq}
theorem Sv {h1 h2:Heap}{b:Nat}{q:Place}{a1 a2 a3:Pq}{c1 c2 c3:Nq}{G1 G1' G2 G2' G3:List Nat} (m1:Mv h G1 h1 G1') (m2:Mv h1 (b :: G2) h2 (b :: G2')) (hnd:(b ::(G1++(G2++G3))).Nodup) (hb:∀ y∈b ::(G1++(G2++G3)),y<h.length)
  (r1:RNodes false h1 [.sl 2 a1 q.chain.length c1] q.chain G1') (r2:RVers false h2 [.sl 6 a2 q.log.length c2] q.log G2') (r3:RVss false h [.sl 1 a3 q.got.length c3] q.got G3) :
  Ca false h2 (q.cs a1 c1 a2 c2 a3 c3) q (G1'++(G2'++G3))/\Mv h (b ::(G1++(G2++G3))) h2 (b ::(G1'++(G2'++G3))):=by
 obtain ⟨m,d1,d2,d3⟩:=zae m1 m2 hnd hb;exact ⟨⟨_,_,_,_,_,_,rfl,_,_,_,G1',G2',G3,rfl,rfl,m2.keep rnodes_ok r1 d1,r2,m2.keep rvss_ok (m1.keep rvss_ok r3 d2) d3⟩,m⟩
theorem SI {p:Place}{b:Nat}{a1 a2 a3:Pq}{c1 c2 c3:Nq}{F1 F2:List Nat} (hb:h[b]?=some (.rows 6 29 false [p.cs a1 c1 a2 c2 a3 c3])) (hs1:RNodes false h [.sl 2 a1 p.chain.length c1] p.chain F1) (hs2:RVers false h [.sl 6 a2 p.log.length c2] p.log F2)
  (h0:0<p.chain.length) (ht:Tidy 10 20 100 p) (hd:∀ y∈F1,y∉b :: F2) (hnd:(b :: F2).Nodup) (hlo:∀ y∈b :: F2,lo<=y) (hl:lo<=h.length) :
  ∃ a2' c2' h' F2',Ae lo 120 [.ptr (some (b,(0,0)))] h=some (.tup [],h')/\h'[b]?=some (.rows 6 29 false [(BE p).cs a1 c1 a2' c2' a3 c3])/\RVers false h' [.sl 6 a2' (BE p).log.length c2'] (BE p).log F2'/\Mv h (b :: F2) h' (b :: F2'):=by
 obtain ⟨x,hx,hxe⟩:=Lg h0;have hxn:=ht.node x hx;exact Un hb hs1 hs2 h0 (by rw[hxe];exact hxn.1) hd hnd hlo hl (zbj ht.len (by decide)) (zbj ht.log.1 (by decide))
  (λv hv=>by rw[hxe] at hv;have:=(hxn.2.2.1 v hv).1;omega) (λv hv=>by rw[hxe] at hv;exact (hxn.2.2.1 v hv).2.2)
theorem YB {b i j R e:Nat}{rs:List (List V)}{row:List V}{l:List Node}{v:Ver}{av:Pq}{cv:Nq}{G:List Nat} (hb:h[b]?=some (.rows R e false rs)) (hrow:rs[i]?=some row) (hcell:row[j]?=some (.sl 2 a l.length c)) (hs:RNodes false h [.sl 2 a l.length c] l F) (hbF:b∉F)
  (hv:RTags false h [.sl 2 av v.past.length cv] v.past G) (hd:∀ b∈G,b∉F) (hnd:F.Nodup) (hlo:∀ b∈F,lo<=b) (hl:lo<=h.length) (h0:0<l.length)
  (hkey:0<=v.key/\v.key<l[0].store.length) (hn:CD l) (hvn:v.past.length<=1048576) :
  ∃ h' F',Ae lo 119 [.ptr (some (b,(i,j))),.agg (v.cs av cv)] h=some (.bool (DG l 0),h')/\RNodes false h' [.sl 2 a l.length c] (bif DG l 0 then Fp l 0 v else l) F'/\Mv h F h' F':=by
 have hld:ld h b i j 1=some [.sl 2 a l.length c]:=by rw[BT hb hrow];exact OX hcell
 suffices hq:∃ h' F',_=some (V.bool (DG l 0),h')/\RNodes false h' [.sl 2 a l.length c] (bif DG l 0 then Fp l 0 v else l) F'/\Mv h F h' F' from hq.imp λh' hq=>hq.imp λF' hq=>⟨NH hq.1,hq.2⟩
 rw[show (0:Int)=((0:Nat):Int) from rfl,R0 hld hs h0];simp only[Ac,Az];cases hr:DG l 0 with
 | false=>exact ⟨h,F,rfl,hs,Mv.refl hnd⟩
 | true =>rw[zb5,Ay];obtain ⟨h',F',e1,r1,m1⟩:=VJ (lo:=lo) hb hrow hcell hs hbF hv hd hnd hlo hl h0 hkey hn hvn;have e1':Ae lo 204 [.ptr (some (b,(i,j))),Iv ((0:Nat):Int),.agg (v.cs av cv)] h=some (.tup [],h'):=e1;refine ⟨h',F',?_,r1,m1⟩;show Ai (Ae lo 204 [.ptr (some (b,(i,j))),Iv ((0:Nat):Int),.agg (v.cs av cv)] h) _=_;rw[e1'];simp only[Ac,Hz,Af]
end


variable {p:Place}
def LM (p:Place) (f:Nat):Bool:=match Ju p f with
 | some v=>DG p.chain 0&&B4 v.past (AW p.chain)
 | none=>false
def Eo (p:Place) (f:Int):Bool:=An f 0 2&&LM p f.toNat
def LN (p:Place) (f:Nat):Place:=match Ju p f with
 | some v=>BE (EN p 0 (GD v.tag.time p.clock) v)
 | none=>p
def E7 (p:Place) (f:Int):Place:=bif Eo p f then LN p f.toNat else p
theorem OT (h:As p=true) {f:Nat} (hf:f<p.got.length) {v:Ver} (hv:v∈p.got[f]):Ba v=true:=by obtain ⟨_,h2⟩:=HQ (SM h hf);obtain ⟨i,hi,rfl⟩:=zbV.1 hv;exact (h2 i hi).1
theorem Uq (h:As p=true):(FY p.chain).length=4:=by have h0:=FJ h;rw[PU h0];exact A3 (AH ((Cp (AX h).2.2.2.1).2 _ (zbk h0))).1
theorem PJ {f:Nat} (hf:f<p.got.length):(∃ i,∃ hi:i<p.got[f].length,Cd (IA (FY p.chain)) p.got[f] 0=(i:Int)/\Ju p f=some p.got[f][i])\/(Cd (IA (FY p.chain)) p.got[f] 0 = -1/\Ju p f=none):=by
 unfold Ju;rw[I6 hf];rcases Mj (p:=IA (FY p.chain)) (l:=p.got[f]) (k:=0) with ⟨i,hi,h1,h2⟩ | h
 ·exact .inl ⟨i,hi,by rw[h1,zbQ],h2⟩
 ·exact .inr h
theorem Yl {t c:Int} (h:decide (t>c)=true):GD t c=t:=by unfold GD;rw[if_pos (of_decide_eq_true h)]
theorem Yn {t c:Int} (h:decide (t>c)=false):GD t c=c:=by unfold GD;rw[if_neg (of_decide_eq_false h)]
section
variable {lo:Nat}{h:Heap}{F F':List Nat}{a a':Pq}{c c':Nq}
theorem Ph {f:Nat}{a1 a2 a3:Pq}{c1 c2 c3:Nq}{F1 F3:List Nat} (hs1:RNodes false h [.sl 2 a1 p.chain.length c1] p.chain F1) (hs3:RVss false h [.sl 1 a3 p.got.length c3] p.got F3)
  (hok:As p=true) (hf:f<p.got.length) (hn:Dt p):Ae lo 258 [.agg (p.cs a1 c1 a2 c2 a3 c3),Iv (f:Nat)] h=some (.bool (LM p f),h):=by
 have h0:=FJ hok;have hchain:=(AX hok).2.2.2.1;have hhl:=Uq hok;have hky:∀ v∈p.got[f],0<=v.key/\v.key<(FY p.chain).length:=λv hv=>by have:=(AT (OT hok hf hv)).1;omega
 have hgn:p.got[f].length<=1048576:=(hn.2.2.2 _ (zbk hf)).1;suffices hq:∃ h',_=some (V.bool (LM p f),h') from by obtain ⟨h',e⟩:=hq;exact Ny e
 rw[LQ hs1 hs3 h0 hf hky hgn];simp only[Ac,Aa];unfold LM;rcases PJ hf with ⟨i,hi,e1,e2⟩ | ⟨e1,e2⟩
 ·rw[e1,e2,Ak (by omega),JZ hs1 h0];simp only[Ac,Az];cases hr:DG p.chain 0 with
  | false=>exact ⟨h,rfl⟩
  | true =>
   obtain ⟨o3,s3,b3,d3,G3,ha3,ho3,e3,q3,_⟩:=hs3.get hf;obtain ⟨o4,s4,b4,d4,G4,ha4,_,_,_,ho43,_,_,_,_,e4,q4,_⟩:=q3.all hi;obtain ⟨v5,h5,F5,e5,r5,m5⟩:=Hh (lo:=h.length) hs1 (zbo _) hn.1 h0;obtain ⟨a6,c6,e6,r6⟩:=r5.form;rw[Ap,Ad hf];simp only[ha3,Ag,Bm,ho3,Ab,e3,Af];rw[Ad hi];simp only[ha4,Ag,Bm,ho43,Ab,e4,Af];rw[e5];simp only[Ac,AA,Ab,e6,Af];rw[EY (m5.keep0 rtags_ok q4) r6 (Bx (AT (OT hok hf (zbk hi))).2.2.2.1) (Jk hchain)];simp only[Ac,Az];cases B4 p.got[f][i].past (AW p.chain)
   ·exact ⟨h5,rfl⟩
   ·exact ⟨h5,rfl⟩
 ·rw[e1,e2,Aj (by omega)];exact ⟨h,rfl⟩
theorem TN {f:Nat}{a1 a2 a3:Pq}{c1 c2 c3:Nq}{F1 F2 F3:List Nat} (hs1:RNodes false h [.sl 2 a1 p.chain.length c1] p.chain F1) (hs2:RVers false h [.sl 6 a2 p.log.length c2] p.log F2) (hs3:RVss false h [.sl 1 a3 p.got.length c3] p.got F3)
  (hok:As p=true) (hf:f<p.got.length) (hn:Dt p) (ht:LM p f=true) (hnd:(F1++(F2++F3)).Nodup) (hlo:∀ b∈F1++(F2++F3),lo<=b) (hl:lo<=h.length) :
  ∃ a2' c2' h' F',Ae lo 259 [.agg (p.cs a1 c1 a2 c2 a3 c3),Iv (f:Nat)] h=some (.agg ((LN p f).cs a1 c1 a2' c2' a3 c3),h')/\Ca false h' ((LN p f).cs a1 c1 a2' c2' a3 c3) (LN p f) F'/\Mv h (F1++(F2++F3)) h' F':=by
 have h0:=FJ hok;have hhl:=Uq hok;have hky:∀ v∈p.got[f],0<=v.key/\v.key<(FY p.chain).length:=λv hv=>by have:=(AT (OT hok hf hv)).1;omega
 have hgn:p.got[f].length<=1048576:=(hn.2.2.2 _ (zbk hf)).1;have hti:=CS hok;have hti':Tidy 10 20 100 p:=⟨zbj hti.len (by decide),λx hx=>by have:=hti.node x hx;exact ⟨this.1,zbj this.2.1 (by decide),this.2.2⟩,⟨zbj hti.log.1 (by decide),hti.log.2⟩,hti.got.1,λl hl=>⟨zbj (hti.got.2 l hl).1 (by decide),(hti.got.2 l hl).2⟩⟩;unfold LM at ht;unfold LN;rcases PJ hf with ⟨i,hi,e1,e2⟩ | ⟨e1,e2⟩
 ·rw[e2];simp only;have hv:=OT hok hf (zbk hi);obtain ⟨o3,s3,b3,d3,G3,ha3,ho3,e3,q3,hG3⟩:=hs3.get hf;obtain ⟨o4,s4,b4,d4,G4,ha4,ho4,e4,q4,hG4⟩:=q3.get hi;rw[<- zbB] at hnd hlo;have hnd':=hnd;rw[zbm] at hnd';have hdis:∀ y∈F3,y∉F1++F2:=λy hy hm=>hnd'.2.2 y hm y hy rfl;obtain ⟨h2,a2',c2',h3,F1',F2',e5,e6,r1,r2,m⟩:=LT (lo:=lo) (v:=p.got[f][i]) (k:=0) (t:=GD p.got[f][i].tag.time p.clock) (a3:=a3) (c3:=c3) hs1 hs2 q4 (λy hy hm=>hdis y (hG3 y (hG4 y hy)) (by simp[hm])) hnd'.1 (λy hy=>hlo y (by rw[zbl];exact .inl hy)) hl h0 ((AT hv).1) hti' (Is hv);have b3':∀ y∈F3,y<h.length:=rvss_ok.bd _ _ _ _ hs3;have m':=m.aside (G:=F3) hnd b3';have hs3':=m.keep rvss_ok hs3 hdis;have hcs:∀ t,(EN p 0 t p.got[f][i]).cs a1 c1 a2 c2 a3 c3 = [Iv p.me,Iv t,.sl 2 a1 p.chain.length c1,.sl 6 a2 p.log.length c2,.sl 1 a3 p.got.length c3,.bool p.fell]:=λt=>by simp only[Place.cs,EN,addN_len]
  rw[hcs] at e6;rw[<- zbB];refine ⟨a2',c2',h3,F1'++F2'++F3,QW ?_,⟨_,_,_,_,_,_,rfl,_,_,_,F1',F2',F3,rfl,by rw[zbB],r1,r2,hs3'⟩,m'⟩;rw[Ad hf];simp only[ha3,Ag,Bm,ho3,Ab,e3,Af];rw[<- ha3];have:=LQ (lo:=h.length) (a2:=a2) (c2:=c2) hs1 hs3 h0 hf hky hgn;simp only[Place.cs] at this;rw[this,e1];simp only[Ac,Aa];rw[Ad hi];simp only[ha4,Ag,Bm,ho4,Ab,Aa,e4,Bq,AB,Af];cases hd:decide (p.got[f][i].tag.time>p.clock)
  ·rw[Yn hd] at e6 ⊢;rw[Ay];rw[show (0:Int)=((0:Nat):Int) from rfl] at *
   simp only[Ver.cs] at e5;rw[e5];simp only[Ac,AA,Ab,Ah,Af];rw[e6];simp only[Ac,Place.cs,AA,Ab,Aa,Ah,AB,Af]
  ·rw[Yl hd] at e6 ⊢;rw[Ap];rw[show (0:Int)=((0:Nat):Int) from rfl] at *
   simp only[Ver.cs] at e5;rw[e5];simp only[Ac,AA,Ab,Ah,Af];rw[e6];simp only[Ac,Place.cs,AA,Ab,Aa,Ah,AB,Af]
 ·rw[e2] at ht;cases ht
end


theorem O5 {p:Place} (h:As p=true):Tidy 10 20 100 p:=by have hti:=CS h;exact ⟨zbj hti.len (by decide),λx hx=>by have:=hti.node x hx;exact ⟨this.1,zbj this.2.1 (by decide),this.2.2⟩,⟨zbj hti.log.1 (by decide),hti.log.2⟩,hti.got.1,λl hl=>⟨zbj (hti.got.2 l hl).1 (by decide),(hti.got.2 l hl).2⟩⟩
section
variable {lo:Nat}{h:Heap}{F F':List Nat}{a a':Pq}{c c':Nq}
end


theorem EAll.mono {α:Type}{A B:Rel α}{h:Heap} (hAB:∀ row x F,A h row x F->B h row x F):∀ {rows:List (List V)}{l:List α}{Fs:List (List Nat)},EAll A h rows l Fs->EAll B h rows l Fs
 | [],[],[],_=>trivial
 | _ :: _,_ :: _,_ :: _,⟨h1,h2⟩=>⟨hAB _ _ _ h1,EAll.mono hAB h2⟩
 | [],[],_ :: _,h=>h.elim
 | [],_ :: _,_,h=>h.elim
 | _ :: _,[],_,h=>h.elim
 | _ :: _,_ :: _,[],h=>h.elim
theorem Sli.mono {α:Type}{A B:Rel α}{h:Heap}{R e:Nat}{cs:List V}{l:List α}{F:List Nat} (hAB:∀ row x F,A h row x F->B h row x F) (hs:Sli false R e A h cs l F):Sli false R e B h cs l F:=by
 obtain ⟨R',a,c,e1,g⟩:=hs;refine ⟨R',a,c,e1,?_⟩;cases a with
 | none=>exact g
 | some p =>obtain ⟨b,i⟩:=p;obtain ⟨g0,rs,Fs,g1,g2,g3,g4,g5,g6⟩:=g;exact ⟨g0,rs,Fs,g1,g2,g3,g4,g5.mono hAB,g6⟩
def zaL:Rel Node:=λh row x F=>RNode false h row x F/\∃ s a n k,row = [s,.sl 6 a n (some k)]
abbrev RNodesC:Rel (List Node):=Sli false 2 (Og false) zaL
theorem RNodesC.up {h:Heap}{cs:List V}{l:List Node}{F:List Nat} (hs:RNodesC h cs l F):RNodes false h cs l F:=Sli.mono (λ_ _ _ h=>h.1) hs
section
variable {lo:Nat}{h:Heap}{F F' G:List Nat}{a a' av:Pq}{c c' cv:Nq}
end


variable {Fs:List (List Nat)}
theorem EAll.erase {α:Type}{El:Rel α}{h:Heap}:∀ {rows:List (List V)}{l:List α}{Fs:List (List Nat)},EAll El h rows l Fs->∀ (k:Nat),EAll El h (rows.eraseIdx k) (l.eraseIdx k) (Fs.eraseIdx k)
 | [],[],[],_,k=>by simp[EAll]
 | _ :: _,_ :: _,_ :: _,⟨_,h2⟩,0=>h2
 | _ :: _,_ :: _,_ :: _,⟨h1,h2⟩,k+1=>⟨h1,h2.erase k⟩
 | [],[],_ :: _,h,_=>h.elim
 | [],_ :: _,_,h,_=>h.elim
 | _ :: _,[],_,h,_=>h.elim
 | _ :: _,_ :: _,[],h,_=>h.elim
theorem KZ {k:Nat}{Fk:List Nat} (hk:Fs[k]?=some Fk) (hnd:Fs.flatten.Nodup):(Fs.eraseIdx k).flatten.Nodup/\(∀ y∈(Fs.eraseIdx k).flatten,y∈Fs.flatten/\y∉Fk):=by
 induction Fs generalizing k with
 | nil=>simp at hk
 | cons F Fs ih =>
  rw[zbP,zbm] at hnd;obtain ⟨n1,n2,n3⟩:=hnd;cases k with
  | zero =>simp at hk;subst hk;rw[List.eraseIdx_cons_zero];exact ⟨n2,λy hy=>⟨by simp only[zbP,zbl];exact .inr hy,λhm=>n3 y hm y hy rfl⟩⟩
  | succ k =>
   obtain ⟨g1,g2⟩:=ih (k:=k) (by simpa using hk) n2;rw[List.eraseIdx_cons_succ,zbP,zbm];refine ⟨⟨n1,g1,λx hx y hy=>n3 x hx y (g2 y hy).1⟩,λy hy=>?_⟩;rcases zbl.1 hy with hy | hy
   ·refine ⟨by simp only[zbP,zbl];exact .inl hy,λhm=>?_⟩;exact n3 y hy y (Js (by simpa using hk) hm) rfl
   ·exact ⟨by simp only[zbP,zbl];exact .inr (g2 y hy).1,(g2 y hy).2⟩


variable {l:List Node}
def Im (l:List Node) (k:Nat):List Node:=match l[k]? with
 | some x=>l.set k ⟨x.store,x.wait.eraseIdx 0⟩
 | none=>l
def Vw (l:List Node) (k:Nat):Bool:=match l[k]? with
 | some x=>decide (0<x.wait.length)&&DG l (k+1)
 | none=>false
def De (l:List Node) (k:Int):Bool:=An k 0 ((l.length:Int) - 2)&&Vw l k.toNat
def HH (l:List Node) (k:Nat):List Node:=match l[k]? with
 | some x=>match x.wait[0]? with
  | some v=>Fp (Im l k) (k+1) v
  | none=>l
 | none=>l
theorem Ns {k:Nat} (hk:k<l.length):Im l k=l.set k ⟨l[k].store,l[k].wait.eraseIdx 0⟩:=by unfold Im;rw[Dx hk]
theorem Nr {k:Nat}:(Im l k).length=l.length:=by unfold Im;split<;>simp
theorem Ld {k:Nat} (hk:k<l.length):Vw l k=(decide (0<l[k].wait.length)&&DG l (k+1)):=by unfold Vw;rw[Dx hk]
theorem Xh {k:Nat} (hk:k<l.length) (h0:0<l[k].wait.length):HH l k=Fp (Im l k) (k+1) (l[k].wait[0]'h0):=by unfold HH;rw[Dx hk];simp only;rw[Dx h0]
theorem Sli.at2 {α:Type}{El:Rel α} (ok:El.Ok) {h:Heap}{R R' e n k lo:Nat}{a:Pq}{c:Nq}{l:List α}{F:List Nat} (hs:Sli false R e El h [.sl R' a n c] l F) (hk:k<l.length) (hnd:F.Nodup) (hlo:∀ b∈F,lo<=b) :
  ∃ b i rs row G,a=some (b,i)/\b∈F/\b∉G/\h[b]?=some (.rows R e false rs)/\rs[i+k]?=some row/\El h row l[k] G/\(∀ y∈G,y∈F)/\G.Nodup /\
   (∀ h1 G1 j cs row' x',Mv h G h1 G1->paste row j cs=some row'->El h1 row' x' G1 ->
    ∃ h2 F',st lo h1 b (i+k) j cs=some h2/\Sli false R e El h2 [.sl R' a n c] (l.set k x') F'/\Mv h F h2 F'/\(∀ y,y≠b->h2[y]?=h1[y]?)/\∀ y∈F',(y∈F/\y∉G)\/y∈G1):=by
 have hbd:=(Sli.ok ok).bd _ _ _ _ hs;obtain ⟨b,i,rs,row,G,ha,hbF,hbG,hb,hrow,hel,hGF,hGn,put⟩:=hs.put ok.fr hk hnd;have hblt:b<h.length:=hbd b hbF;refine ⟨b,i,rs,row,G,ha,hbF,hbG,hb,hrow,hel,hGF,hGn,λh1 G1 j cs row' x' m hp hx=>?_⟩;have hbG1:b∉G1:=λhm=>by
  rcases m.sub b hm with h1 | h1
  ·exact hbG h1
  ·omega
 have hb1:h1[b]?=some (.rows R e false rs):=by rw[m.fr b hblt hbG];exact hb
 have hb1lt:b<h1.length:=zbv hblt m.le;have e2:=D5 hb1 (hlo b hbF) hrow hp;have fr2:∀ y,y≠b->(h1.set b (.rows R e false (rs.set (i+k) row')))[y]?=h1[y]?:=λy hy=>zbq (Ne.symm hy);obtain ⟨F',p1,p2,p3,_⟩:=put (h1.set b (.rows R e false (rs.set (i+k) row'))) row' x' G1 (by simp[hb1lt]) (λy hy hyb hyG=>by rw[fr2 y hyb];exact m.fr y (hbd y hy) hyG)
  (ok.fr _ _ _ _ _ hx λy hy=>fr2 y λe=>hbG1 (e ▸ hy)) m.nd (λy hy hyF=>by
  rcases m.sub y hy with h1 | h1
  ·exact h1
  ·have:=hbd y hyF;omega)
 refine ⟨_,F',e2,p1,⟨by simpa using m.le,λy hy hyF=>?_,p3,λy hy=>?_⟩,fr2,p2⟩
 ·rw[fr2 y λe=>hyF (e ▸ hbF)];exact m.fr y hy λhg=>hyF (hGF y hg)
 ·rcases p2 y hy with h1 | h1
  ·exact .inl h1.1
  ·refine (m.sub y h1).imp (hGF y) λh=>by simpa using h
section
variable {lo:Nat}{ro:Bool}{h:Heap}{F F' G:List Nat}{a a' av:Pq}{c c' cv:Nq}
theorem X3 {l:List Ver} (hs:RVers false h [.sl 6 a l.length c] l F) (h0:0<l.length) (hnd:F.Nodup) (hl:lo<=h.length) (hn:l.length<=1048576) :
  ∃ o s av cv Gv,a=some o/\ld h o.1 (o.2+0) 0 6=some [Iv l[0].key,Iv l[0].tag.time,Iv l[0].tag.place,s,.str l[0].text,.bool l[0].gone]/\(∀ {T:Type} (K:Pq->Nat->Nq->Option T),eS 2 s K=K av l[0].past.length cv)/\RTags false h [.sl 2 av l[0].past.length cv] l[0].past Gv /\
   ∃ a' c' h' F',(∀ {T:Type} (K:V->Heap->Option T),(AL a l.length c (some (Iv 1)) none none λa n c=>Aw 6 (h ++ [.rows 6 43 false []]) (.sl 6 a n c) λxs=>Dk lo 43 6 72 (.sl 6 (some (h.length,0)) 0 (some 0)) xs (h ++ [.rows 6 43 false []]) K)=K (.sl 6 a' (l.eraseIdx 0).length c') h') /\
    RVers false h' [.sl 6 a' (l.eraseIdx 0).length c'] (l.eraseIdx 0) F'/\Mv h F h' F'/\(∀ y∈Gv,y∉F'/\y∈F)/\∀ y,y<h.length->h'[y]?=h[y]?:=by
 have hbd:=rvers_ok.bd _ _ _ _ hs;obtain ⟨R1,a1,c1,e1,g⟩:=hs;injection e1 with e1 _;injection e1 with e0 e2 _ e3;subst e2;subst e3;cases a with
 | none=>obtain ⟨rfl,_⟩:=g;simp at h0
 | some p =>
 obtain ⟨b,i⟩:=p;obtain ⟨_,rs,Fs,g1,g2,g3,_,g5,rfl⟩:=g;obtain ⟨row,Fk,hrow,hFk,hel⟩:=g5.get (Dx h0);rw[zbs] at hnd;obtain ⟨f1,f2⟩:=KZ hFk hnd.2;have hri:rs[i]?=some row:=by rw[zcm,if_pos h0,zb0] at hrow;exact hrow
 obtain ⟨s,av,cv,rfl,es,hp⟩:=hel.form;have hil:i<rs.length:=by omega
 have hcut:((rs.drop i).take l.length).eraseIdx 0=(rs.drop (i+1)).take (l.length - 1):=by rw[zbH hil,show l.length=(l.length - 1)+1 by omega,List.take_succ_cons,List.eraseIdx_cons_zero];simp
 have g6:=g5.erase 0;rw[hcut] at g6;have hlen:=zch h0;generalize hxs:(rs.drop (i+1)).take (l.length - 1)=xs at g6;have hxl:xs.length=l.length - 1:=by rw[<- hlen];exact g6.len.1
 have m0:Mv h [] (h ++ [.rows 6 43 false []]) [h.length]:=Mv.last;have hb1:(h ++ [.rows 6 43 false []])[b]?=some (.rows 6 (UD false) false rs):=by rw[m0.fr b (hbd b (by simp)) (by simp)];exact g1
 have s3:∀ {T:Type} (K:List (List V)->Option T),(AL (some (b,i)) l.length c (some (Iv 1)) none none λa6 n7 c8=>Aw 6 (h ++ [.rows 6 43 false []]) (.sl 6 a6 n7 c8) K)=K xs:=λK=>by
  unfold AL FP IV JQ;simp only[Aa,zcu];rw[D1 ⟨by omega,by omega⟩,show ((1:Int)).toNat=1 from rfl];have key:∀ c8:Nq,Aw 6 (h ++ [.rows 6 43 false []]) (.sl 6 (some (b,i+1)) (l.length - 1) c8) K=K xs:=λc8=>by
   simp only[Aw,JF,GN];cases hm:l.length - 1 with
   | zero =>have hx0:xs = []:=zbu (by omega);rw[hx0]
   | succ m =>
    simp only;rw[show EE (h ++ [.rows 6 43 false []]) b (i+1) (m+1)=some xs by
     simp only[EE,Heap.rows?,hb1,zbW];rw[Fm (by omega),<- hm,hxs]]
    rfl
  cases c with
  | none=>exact key none
  | some N =>
   obtain ⟨hN,_⟩:=g3 N rfl;unfold Pr;simp only;cases hb:Nat.beq N 1 with
   | false=>rw[Ay];exact key _
   | true =>have:=zbt hb;have hx0:xs = []:=zbu (by omega);rw[Ap,show l.length - 1=0 by omega,hx0];simp[Aw,Bu]
 have hfl:∀ y∈(Fs.eraseIdx 0).flatten,y<h.length:=λy hy=>hbd y (by simp[(f2 y hy).1]);refine ⟨(b,i),s,av,cv,Fk,rfl,by rw[BT g1 (by rw[zb8];exact hri)];rfl,es,hp,?_⟩;have hFkb:∀ y∈Fk,y∈Fs.flatten:=λy hy=>Js hFk hy;by_cases he:l.eraseIdx 0 = []
 ·have hx0:xs = []:=zbu (by rw[hxl,<- hlen,he];rfl);refine ⟨some (h.length,0),some 0,_,[h.length],λK=>by rw[s3,hx0];simp only[Dk];rw[he];rfl,by rw[he];exact Sli.fresh (zbo _),?_,λy hy=>?_,λy hy=>m0.fr y hy (by simp)⟩
  ·exact m0.wide (by simp)
  ·have:=hbd y (by simp[hFkb y hy]);exact ⟨by simp;omega,by simp[hFkb y hy]⟩
 ·have hfresh:RVers false (h ++ [.rows 6 (UD false) false []]) [.sl 6 (some (h.length,0)) 0 (some 0)] [] [h.length]:=Sli.fresh (zbo _);obtain ⟨a',c',h',F',p1,p2,p3,p4,p5,p6⟩:=Sli.push (lo:=lo) (bytes:=72) rver_ok.fr hfresh (xs:=xs) (ys:=l.eraseIdx 0) (Gs:=Fs.eraseIdx 0) (g6.fr rver_ok.fr λy hy=>m0.fr y (hfl y hy) (by simp)) (by decide) (by rw[hlen];simp;omega) (by simp;omega) (by simp;omega)
   (by rw[zbT,zbS,zbs];exact ⟨λhm=>by have:=hfl _ hm;omega,f1⟩) (λy hy=>by
    rw[zbT,zbS,zbx] at hy;rcases hy with rfl | hy
    ·simp
    ·have:=hfl y hy;simp;omega) he
  simp only[zcx,zbQ,zbS] at p1 p2;have hfr:∀ y,y<h.length->h'[y]?=h[y]?:=λy hy=>by rw[p4 y (by simp;omega) (by simp;omega)];exact m0.fr y hy (by simp)
  refine ⟨a',c',h',F',λK=>by rw[s3];exact p1 K,p2,⟨by simp at p3;omega,λy hy _=>hfr y hy,p6,λy hy=>?_⟩,λy hy=>⟨λhm=>?_,by simp[hFkb y hy]⟩,hfr⟩
  ·simp at p3;rcases p5 y hy with g | g
   ·rw[zbT,zbS,zbx] at g;rcases g with rfl | g
    ·exact .inr (by omega)
    ·exact .inl (by simp[(f2 y g).1])
   ·simp at g;exact .inr (by omega)
  ·have hyl:=hbd y (by simp[hFkb y hy]);rcases p5 y hm with g | g
   ·rw[zbT,zbS,zbx] at g;rcases g with rfl | g
    ·omega
    ·exact (f2 y g).2 hy
   ·simp at g;omega
theorem Pk {k:Int} (hs:RNodes ro h [.sl 2 a l.length c] l F) (hn:l.length<=1048576):Ae lo 253 [.agg [.sl 2 a l.length c],Iv k] h=some (.bool (De l k),h):=by
 refine Tk (h':=h) ?_;rw[wr (by omega) (by omega),Bp,Ac,Az];unfold De;cases hw:An k 0 ((l.length:Int) - 2) with
 | false=>rw[Ay];rfl
 | true =>
 simp only[An,DH,decide_eq_true_eq] at hw;obtain ⟨f,rfl⟩:∃ f:Nat,k=(f:Int):=⟨k.toNat,by omega⟩;have hk:f<l.length:=by omega
 have hk1:f+1<l.length:=by omega
 obtain ⟨o,s1,s2,b1,d1,b2,d2,G1,G2,ha,_,_,ho2,_,e2,_⟩:=hs.get hk;obtain ⟨o',s1',s2',b1',d1',b2',d2',G1',G2',ha',_,_,ho2',_,e2',_⟩:=hs.get hk1;have:o=o':=by rw[ha] at ha';injection ha'
 subst this;rw[Bm,Ld hk,H0 hk1,Ap,Ad hk,ha,Ag,ho2,Ag,Ab,Af,e2];by_cases h0:0<l[f].wait.length
 ·rw[Ak (by omega),At (by omega),Ad hk1,Ag,Bm,ho2',Ag,Ab,Af,e2',decide_eq_true h0];by_cases h6:l[f+1].wait.length<6
  ·rw[Ak (by omega),decide_eq_true h6];rfl
  ·rw[Aj (by omega),decide_eq_false h6];rfl
 ·rw[Aj (by omega),decide_eq_false h0];rfl
def Yh (x:Node):Prop:=FT 20 x/\∀ v∈x.wait,0<=v.key/\v.key<=3
theorem NQ {k:Nat} (hs:RNodes false h [.sl 2 a l.length c] l F) (hk:k+1<l.length) (h0:0<(l[k]'(by omega)).wait.length) (hnd:F.Nodup) (hlo:∀ b∈F,lo<=b) (hl:lo<=h.length) (hn:CD l) (hx:∀ x∈l,Yh x) :
  ∃ h' F',Ae lo 254 [.agg [.sl 2 a l.length c],Iv (k:Nat)] h=some (.agg [.sl 2 a l.length c],h')/\RNodes false h' [.sl 2 a l.length c] (HH l k) F'/\Mv h F h' F':=by
 have hk':k<l.length:=by omega
 have hn1:=hn.1;suffices hq:∃ h' F',_=some (V.agg [.sl 2 a l.length c],h')/\RNodes false h' [.sl 2 a l.length c] (HH l k) F'/\Mv h F h' F' from hq.imp λh' hq=>hq.imp λF' hq=>⟨Q6 hq.1,hq.2⟩
 obtain ⟨b,i,rs,row,G0,ha,hbF,hbG,hb,hrow,hel,hGF,hGn,put⟩:=hs.at2 rnode_ok hk' hnd hlo;obtain ⟨t1,t2,F1,F2,rfl,rfl,r1,r2⟩:=hel;obtain ⟨a2,c2,e2,r2'⟩:=r2.form;have hGn0:=hGn;rw[zbm] at hGn;obtain ⟨o,s,av,cv,Gv,ho,hld,es,hp,a3,c3,h3,F3,e3,r3,m3,hGv,fr3⟩:=X3 (lo:=lo) r2' h0 hGn.2.1 hl (hn.2 _ (zbk hk')).2.1;have b1:∀ y∈F1,y<h.length:=rvers_ok.bd _ _ _ _ r1;have m4:=(m3.aside (G:=F1) (by rw[zbm];exact ⟨hGn.2.1,hGn.1,λx hx y hy e=>hGn.2.2 y hy x hx e.symm⟩) b1).swap;have r1':RVers false h3 [t1] l[k].store F1:=rvers_ok.fr _ _ _ _ _ r1 λy hy=>fr3 y (b1 y hy);obtain ⟨h4,F4,e4,r4,m5,fr4,sub4⟩:=put h3 (F1++F3) 1 [.sl 6 a3 (l[k].wait.eraseIdx 0).length c3] [t1,.sl 6 a3 (l[k].wait.eraseIdx 0).length c3] ⟨l[k].store,l[k].wait.eraseIdx 0⟩ m4 rfl ⟨_,_,F1,F3,rfl,rfl,r1',r3⟩;rw[<- Ns hk'] at r4;have hln:=Nr (l:=l) (k:=k);have hGvG:∀ y∈Gv,y∈F1++F2:=λy hy=>by simp[(hGv y hy).2]
 have hGvl:∀ y∈Gv,y<h.length:=rtags_ok.bd _ _ _ _ hp;have hd:∀ y∈Gv,y∉F4:=λy hy hm=>by
  rcases sub4 y hm with g | g
  ·exact g.2 (hGvG y hy)
  ·rcases zbl.1 g with g | g
   ·exact hGn.2.2 y g y (hGv y hy).2 rfl
   ·exact (hGv y hy).1 g
 have hp4:RTags false h4 [.sl 2 av (l[k].wait[0]'h0).past.length cv] (l[k].wait[0]'h0).past Gv:=rtags_ok.fr _ _ _ _ _ hp λy hy=>by rw[fr4 y λe=>hbG (by rw[<- e];exact hGvG y hy),fr3 y (hGvl y hy)]
 have hpx:=hx _ (zbk hk');have hky:=hpx.2 _ (zbk h0);have hth:=hpx.1.2.2.2 _ (zbk h0);have hk1:k+1<(Im l k).length:=by rw[hln];exact hk
 have hst1:(Im l k)[k+1].store.length=4:=by
  have:(Im l k)[k+1]=l[k+1]:=by have e:=Ns hk';rw[List.getElem_of_eq e,List.getElem_set_ne (by omega)]
  rw[this];exact (hx _ (zbk hk)).1.1
 have hnd5:CD (Im l k):=by
  refine ⟨by rw[hln];exact hn1,λx hx'=>?_⟩;rw[Ns hk'] at hx';rcases zbI hx' with hx' | rfl
  ·exact hn.2 x hx'
  ·have:=hn.2 _ (zbk hk');exact ⟨this.1,Vd this.2 (zbj (zcP _ _) this.2.1) λv hv=>zcz hv⟩
 rw[<- hln] at r4;obtain ⟨h5,F5,e5,r5,m6⟩:=K8 (lo:=lo) (k:=k+1) (v:=l[k].wait[0]'h0) r4 hp4 hd m5.nd (λy hy=>m5.ge hl hlo y hy) (zbj hl m5.le) hk1 ⟨hky.1,by omega⟩ hnd5 (by have:=hth.1;omega);rw[hln] at e5 r5;rw[<- Xh hk' h0] at r5;have hblt:b<h.length:=(Gz hb).1;have ld1:ld h b (i+k) 1 1=some [t2]:=by rw[BT hb hrow];rfl
 have ld2:ld (h ++ [.rows 6 43 false []]) b (i+k) 1 1=some [t2]:=by rw[BT (by rw[zbn hblt];exact hb) hrow];rfl
 simp only[Ver.cs] at e5;have e5':Ae lo 129 [.agg [.sl 2 a l.length c],Iv ((k:Nat)+1:Int),.agg [Iv (l[k].wait[0]'h0).key,Iv (l[k].wait[0]'h0).tag.time,Iv (l[k].wait[0]'h0).tag.place,.sl 2 av (l[k].wait[0]'h0).past.length cv,.str (l[k].wait[0]'h0).text,.bool (l[k].wait[0]'h0).gone]] h4=some (.agg [.sl 2 a l.length c],h5):=by rw[show ((k:Nat)+1:Int)=((k+1:Nat):Int) by omega];exact e5
 rw[Ad hk',ha,Ag,Bm,ld1,Ag,Ab,Af,e2,Cu ⟨by omega,by omega⟩,ho,Ag,hld,Ag,Ab,Aa,Ab,Aa,Ab,Aa,Ab,es,Ab,Bq,Ab,AB,Af,Ad hk',Ag,ld2,Ag,Ab,Af,e2,e3,Ah,Ad hk',Ag,e4,Ag,wr (n:=((k:Nat):Int)+1) (by omega) (by omega),<- ha,e5',Ac,AA,Ab,Ah,Af];exact ⟨h5,F5,rfl,r5,m5.trans m6⟩
end


variable {p:Place}
def N5 (p:Place) (k:Nat):Place:=⟨p.me,p.clock,HH p.chain k,p.log,p.got,p.fell⟩
def E8 (p:Place) (k:Int):Place:=bif De p.chain k then BE (N5 p k.toNat) else p
theorem passN_len {l:List Node}{k:Nat}:(HH l k).length=l.length:=by
 unfold HH;split
 ·split
  ·rw[addN_len,Nr]
  ·rfl
 ·rfl
theorem W2 {nc nw nl k:Nat} (h:Tidy nc nw nl p):Tidy nc (nw+1) nl (N5 p k):=by
 have h0:Tidy nc (nw+1) nl p:=⟨h.len,λx hx=>by have:=h.node x hx;exact ⟨this.1,Nat.le_succ_of_le this.2.1,this.2.2⟩,h.log,h.got⟩;unfold N5 HH;split
 ·rename_i x hk
  split
  ·rename_i v hv
   have hxm:=zbF hk;have hd:Tidy nc nw nl ⟨p.me,p.clock,Im p.chain k,p.log,p.got,p.fell⟩:=by
    refine ⟨by show (Im p.chain k).length<=nc;rw[Nr];exact h.len,λy hy=>?_,h.log,h.got⟩;have hy:y∈Im p.chain k:=hy;unfold Im at hy;rw[hk] at hy;rcases zbI hy with hy | rfl
    ·exact h.node y hy
    ·obtain ⟨g1,g2,g3,g4⟩:=h.node x hxm;exact ⟨g1,zbj (zcP _ _) g2,g3,λv hv=>g4 v (zcz hv)⟩
   exact O6 hd ((h.node x hxm).2.2.2 v (zbF hv))
  ·exact h0
 ·exact h0
theorem Wl (h:As p=true):∀ x∈p.chain,Yh x:=λx hx=>by have hno:=(Cp (AX h).2.2.2.1).2 x hx;have ht:=Ky hno;exact ⟨⟨ht.1,zbj ht.2.1 (by decide),ht.2.2⟩,λv hv=>(AT ((AH hno).2.2 v hv)).1⟩
theorem Wg {nc nw nl:Nat} (h:Tidy nc nw nl p) (h1:nc<=10) (h2:nw<=20) (h3:nl<=100):Tidy 10 20 100 p :=
 ⟨zbj h.len h1,λx hx=>by have:=h.node x hx;exact ⟨this.1,zbj this.2.1 h2,this.2.2⟩,⟨zbj h.log.1 h3,h.log.2⟩,h.got.1,λl hl=>⟨zbj (h.got.2 l hl).1 h3,(h.got.2 l hl).2⟩⟩
theorem O7 {h h1 h2:Heap}{G1 G1' G2 G2' G3:List Nat} (m1:Mv h G1 h1 G1') (m2:Mv h1 G2 h2 G2') (hnd:(G1++(G2++G3)).Nodup) (hb:∀ y∈G1++(G2++G3),y<h.length) :
  Mv h (G1++(G2++G3)) h2 (G1'++(G2'++G3))/\(∀ y∈G1',y∉G2)/\(∀ y∈G3,y∉G1)/\∀ y∈G3,y∉G2:=by
 rw[zbm,zbm] at hnd;obtain ⟨n2,⟨n3,n4,n5⟩,n6⟩:=hnd;have hb1:∀ y∈G1,y<h.length:=λy hy=>hb y (by simp[hy]);have hb2:∀ y∈G2,y<h.length:=λy hy=>hb y (by simp[hy]);have hb3:∀ y∈G3,y<h.length:=λy hy=>hb y (by simp[hy]);have l1:=m1.le;have l2:=m2.le;have d1:∀ y∈G1',y∉G2:=λy hy hm=>by
  rcases m1.sub y hy with g | g
  ·exact n6 y g y (by simp[hm]) rfl
  ·have:=hb2 y hm;omega
 have d2:∀ y∈G3,y∉G1:=λy hy hm=>n6 y hm y (by simp[hy]) rfl;have d3:∀ y∈G3,y∉G2:=λy hy hm=>n5 y hm y hy rfl;have s1:∀ y∈G1',y<h1.length:=m1.lt hb1;refine ⟨⟨by omega,λy hy hF=>?_,?_,λy hy=>?_⟩,d1,d2,d3⟩
 ·simp only[zbl,not_or] at hF;rw[m2.fr y (by omega) hF.2.1,m1.fr y hy hF.1]
 ·rw[zbm,zbm];refine ⟨m1.nd,⟨m2.nd,n4,λx hx y hy e=>?_⟩,λx hx y hy e=>?_⟩
  ·subst e;rcases m2.sub x hx with g | g
   ·exact d3 x hy g
   ·have:=hb3 x hy;omega
  ·subst e;rcases zbl.1 hy with hy | hy
   ·rcases m2.sub x hy with g | g
    ·exact d1 x hx g
    ·have:=s1 x hx;omega
   ·rcases m1.sub x hx with g | g
    ·exact d2 x hy g
    ·have:=hb3 x hy;omega
 ·simp only[zbl] at hy ⊢;rcases hy with hy | hy | hy
  ·rcases m1.sub y hy with g | g
   ·exact .inl (.inl g)
   ·exact .inr ⟨g.1,by omega⟩
  ·rcases m2.sub y hy with g | g
   ·exact .inl (.inr (.inl g))
   ·exact .inr ⟨by omega,g.2⟩
  ·exact .inl (.inr (.inr hy))
section
variable {lo:Nat}{h:Heap}{F F':List Nat}{a a':Pq}{c c':Nq}
theorem Pe {a1 a2 a3:Pq}{c1 c2 c3:Nq}{F1 F2:List Nat} (hs1:RNodes false h [.sl 2 a1 p.chain.length c1] p.chain F1) (hs2:RVers false h [.sl 6 a2 p.log.length c2] p.log F2)
  (h0:0<p.chain.length) (ht:Tidy 10 20 100 p) (hd:∀ b∈F1,b∉F2) (hnd:F2.Nodup) (hlo:∀ b∈F2,lo<=b) (hl:lo<=h.length) :
  ∃ a2' c2' h' F2',Ae lo 130 [.agg (p.cs a1 c1 a2 c2 a3 c3)] h=some (.agg ((BE p).cs a1 c1 a2' c2' a3 c3),h')/\RVers false h' [.sl 6 a2' (BE p).log.length c2'] (BE p).log F2'/\Mv h F2 h' F2':=by
 obtain ⟨x,hx,hxe⟩:=Lg h0;have hxn:=ht.node x hx;exact NO hs1 hs2 h0 (by rw[hxe];exact hxn.1) hd hnd hlo hl (zbj ht.len (by decide)) (zbj ht.log.1 (by decide)) (λw hw=>by rw[hxe] at hw;have:=(hxn.2.2.1 w hw).1;omega)
end


variable {v:Ver}
theorem IZ {u:Ver}:A7 u v=true<->u.tag.time<v.tag.time\/(u.tag.time=v.tag.time/\u.tag.place<v.tag.place):=by simp[A7,GA]
theorem Xr {u:Ver}:A7 u v=false<->¬ (u.tag.time<v.tag.time\/(u.tag.time=v.tag.time/\u.tag.place<v.tag.place)):=by rw[<- IZ,Bool.not_eq_true]
def GR (v:Ver):List Ver->List Ver
 | [] => [v]
 | u :: r=>bif A7 u v then u :: GR v r else v :: u :: r
theorem L8 {v:Ver}:∀ {l:List Ver},(GR v l).length=l.length+1
 | []=>rfl
 | u :: r=>by
  simp only[GR];cases A7 u v with
  | true=>simp[L8 (l:=r)]
  | false=>simp
theorem insF_mem {v x:Ver}:∀ {l:List Ver},x∈GR v l<->x=v\/x∈l
 | []=>by simp[GR]
 | u :: r=>by
  simp only[GR];cases A7 u v with
  | true =>
   rw[cond_true,zbx,insF_mem (l:=r),zbx];constructor
   ·rintro (h | h | h)
    ·exact .inr (.inl h)
    ·exact .inl h
    ·exact .inr (.inr h)
   ·rintro (h | h | h)
    ·exact .inr (.inl h)
    ·exact .inl h
    ·exact .inr (.inr h)
  | false=>simp
section
variable {lo:Nat}{h:Heap}{F F' G:List Nat}{a a' av:Pq}{c c' cv:Nq}
def zaT (l:List Ver):List Ver:=l.foldl (λacc v=>GR v acc) []
end


variable {α:Type}{El:Rel α}{l:List α}
theorem Kw {h:Heap}{lo R e n bytes:Nat}{a:Pq}{c:Nq}{ys:List α}{F:List Nat}{xs:List (List V)}{Gs:List (List Nat)} (hfr:El.Fr)
  (hs:Sli false R e El h [.sl R a n c] l F) (hx:EAll El h xs ys Gs) (hb:0<bytes) (hsz:(l.length+ys.length)*bytes<=140737488355328) (hlo:∀ b∈F,lo<=b) (hl:lo<=h.length)
  (hnd:(F++Gs.flatten).Nodup) (hF:∀ b∈F++Gs.flatten,b<h.length) :
  ∃ a' c' h' F',(∀ {R':Type} (K:V->Heap->Option R'),Dk lo e R bytes (.sl R a n c) xs h K=K (.sl R a' (l.length+ys.length) c') h')/\Sli false R e El h' [.sl R a' (l.length+ys.length) c'] (l++ys) F'/\h.length<=h'.length /\
   (∀ b,b<h.length->b∉F->h'[b]?=h[b]?)/\(∀ b∈F',b∈F++Gs.flatten\/(h.length<=b/\b<h'.length))/\F'.Nodup:=by
 cases ys with
 | nil =>have hx0:xs = []:=zbu hx.len.1;have hn:=hs.val;subst hx0;subst hn;rw[zbm] at hnd;exact ⟨a,c,h,F,λK=>rfl,by rw[zcf];exact hs,zbo _,λ_ _ _=>rfl,λb hb => .inl (by simp[hb]),hnd.1⟩
 | cons y ys=>exact Sli.push hfr hs hx hb hsz hlo hl hnd hF (by simp)
theorem Sli.parts {R e:Nat}{h:Heap}{a:Pq}{c:Nq}{F:List Nat} (hs:Sli false R e El h [.sl R a l.length c] l F) (hnd:F.Nodup) :
  ∃ Fs:List (List Nat),Fs.flatten.Nodup/\(∀ y∈Fs.flatten,y∈F)/\(∀ b i,a=some (b,i)->b∈F/\b∉Fs.flatten)/\∀ k,k<=l.length->∃ rP rQ,EAll El h rP (l.take k) (Fs.take k)/\EAll El h rQ (l.drop k) (Fs.drop k) /\
   (∀ {T:Type} (h':Heap),(∀ b i,a=some (b,i)->h'[b]?=h[b]?)->∀ K:List (List V)->Option T,(AL a l.length c none (some (Iv (k:Nat))) none λa n c=>Aw R h' (.sl R a n c) K)=K rP) /\
   (∀ {T:Type} (h':Heap),(∀ b i,a=some (b,i)->h'[b]?=h[b]?)->∀ K:List (List V)->Option T,(AL a l.length c (some (Iv (k:Nat))) none none λa n c=>Aw R h' (.sl R a n c) K)=K rQ):=by
 obtain ⟨R1,a1,c1,e1,g⟩:=hs;injection e1 with e1 _;injection e1 with e0 e2 _ e3;subst e2;subst e3;cases a with
 | none =>
  obtain ⟨rfl,rfl,rfl⟩:=g;refine ⟨[],by simp,by simp,λb i h=>by simp at h,λk hk=>?_⟩;have hk0:k=0:=by simpa using hk
  subst hk0;refine ⟨[],[],trivial,trivial,λh' _ K=>?_,λh' _ K=>?_⟩
  ·unfold AL FP IV JQ;simp only[Aa,zcu];rw[D1 ⟨by simp,by simp⟩];simp[Aw]
  ·unfold AL FP IV JQ;simp only[Aa,zcu];rw[D1 ⟨by simp,by simp⟩];simp[Aw,Pr]
 | some p =>
  obtain ⟨b,i⟩:=p;obtain ⟨_,rs,Fs,g1,g2,g3,_,g5,rfl⟩:=g;rw[zbs] at hnd;have key:∀ {T:Type} (h':Heap),h'[b]?=h[b]?->∀ (K:List (List V)->Option T) (j m:Nat) (c8:Nq),j+m<=rs.length->Aw R h' (.sl R (some (b,j)) m c8) K=K ((rs.drop j).take m):=λh' hb' K j m c8 hj=>by
   simp only[Aw,JF,GN];cases m with
   | zero=>simp
   | succ m =>
    simp only;rw[show EE h' b j (m+1)=some ((rs.drop j).take (m+1)) by
     simp only[EE,Heap.rows?,hb',g1,zbW];rw[Fm hj]]
    rfl
  refine ⟨Fs,hnd.2,λy hy=>zb1 _ hy,λb' i' e=>by injection e with e;injection e with e1 e2;subst e1;exact ⟨by simp,hnd.1⟩,λk hk=>?_⟩;have hrP:((rs.drop i).take l.length).take k=(rs.drop i).take k:=by rw[List.take_take,Nat.min_eq_left hk]
  have hrQ:((rs.drop i).take l.length).drop k=(rs.drop (i+k)).take (l.length - k):=by rw[List.drop_take,zcv]
  refine ⟨(rs.drop i).take k,(rs.drop (i+k)).take (l.length - k),by rw[<- hrP];exact g5.take k,by rw[<- hrQ];exact g5.drop k,λh' hh K=>?_,λh' hh K=>?_⟩
  ·unfold AL FP IV JQ;simp only[Aa,zcu,Bm];have:=key h' (hh b i rfl) K i k c (by omega);cases c with
   | none=>simp only;rw[D1 ⟨by omega,by omega⟩];exact this
   | some N=>simp only;rw[D1 ⟨by omega,by have:=(g3 N rfl).1;omega⟩];exact this
  ·unfold AL FP IV JQ;simp only[Aa,zcu,Bm];rw[D1 ⟨by omega,by omega⟩];cases c with
   | none=>exact key h' (hh b i rfl) K (i+k) (l.length - k) none (by omega)
   | some N =>
    have hN:=(g3 N rfl).1;unfold Pr;simp only;cases hb:Nat.beq N k with
    | false=>rw[Ay];exact key h' (hh b i rfl) K (i+k) (l.length - k) _ (by omega)
    | true =>have:=zbt hb;rw[Ap,show l.length - k=0 by omega];simp[Aw,Bu]
def FX (out:List Ver) (x:Ver×Ver):List Ver:=bif A7 x.2 x.1 then GR x.1 out else out
def En (s t:List Ver):List Ver:=(s.zip t).foldl FX []
theorem SH {v:Ver}:∀ {l:List Ver}{k:Nat},k<=l.length->(∀ i (hi:i<l.length),i<k->A7 l[i] v=true)->(∀ hk:k<l.length,A7 l[k] v=false)->GR v l=l.take k++v :: l.drop k
 | [],k,hk,_,_=>by simp[GR]
 | u :: r,0,hk,_,h2=>by have:=h2 (by simp);simp only[List.getElem_cons_zero] at this;simp[GR,this]
 | u :: r,k+1,hk,h1,h2=>by have h0:=h1 0 (by simp) (by omega);simp only[List.getElem_cons_zero] at h0;simp only[GR,h0,cond_true,List.take_succ_cons,List.drop_succ_cons,zbT];rw[SH (l:=r) (k:=k) (by simpa using hk) (λi hi hik=>by have:=h1 (i+1) (by simpa using hi) (by omega);simpa using this) (λhkr=>by have:=h2 (by simpa using hkr);simpa using this)]
section
variable {lo:Nat}{h:Heap}{F F' G:List Nat}{a a' av:Pq}{c c' cv:Nq}
theorem Jv (ok:El.Ok) {R e bytes:Nat}{rows:List (List V)}{Fs:List (List Nat)} (hx:EAll El h rows l Fs) (hnd:Fs.flatten.Nodup) (hF:∀ y∈Fs.flatten,y<h.length) (hb:0<bytes) (hsz:l.length*bytes<=140737488355328) (hl:lo<=h.length) :
  ∃ a' c' h' F',(∀ {T:Type} (K:V->Heap->Option T),Dk lo e R bytes (.sl R (some (h.length,0)) 0 (some 0)) rows (h ++ [.rows R e false []]) K=K (.sl R a' l.length c') h')/\Sli false R e El h' [.sl R a' l.length c'] l F'/\h.length<h'.length/\(∀ y,y<h.length->h'[y]?=h[y]?) /\
   (∀ y∈F',y∈Fs.flatten\/(h.length<=y/\y<h'.length))/\F'.Nodup:=by
 have m0:Mv h [] (h ++ [.rows R e false []]) [h.length]:=Mv.last;have hfresh:Sli false R e El (h ++ [.rows R e false []]) [.sl R (some (h.length,0)) 0 (some 0)] [] [h.length]:=Sli.fresh (zbo _);obtain ⟨a',c',h',F',p1,p2,p3,p4,p5,p6⟩:=Kw (lo:=lo) (bytes:=bytes) ok.fr hfresh (xs:=rows) (ys:=l) (Gs:=Fs) (hx.fr ok.fr λy hy=>m0.fr y (hF y hy) (by simp)) hb (by simpa using hsz) (by simp;omega) (by simp;omega)
  (by rw[zbT,zbS,zbs];exact ⟨λhm=>by have:=hF _ hm;omega,hnd⟩) (λy hy=>by
   rw[zbT,zbS,zbx] at hy;rcases hy with rfl | hy
   ·simp
   ·have:=hF y hy;simp;omega)
 simp only[zcx,zbQ,zbS] at p1 p2;refine ⟨a',c',h',F',p1,p2,by simp at p3;omega,λy hy=>?_,λy hy=>?_,p6⟩
 ·rw[p4 y (by simp;omega) (by simp;omega)];exact m0.fr y hy (by simp)
 ·simp at p3;rcases p5 y hy with g | g
  ·rw[zbT,zbS,zbx] at g;rcases g with rfl | g
   ·exact .inr (by omega)
   ·exact .inl g
  ·simp at g;exact .inr (by omega)
theorem Ey {Fs:List (List Nat)}{k:Nat} (hnd:Fs.flatten.Nodup):(Fs.take k).flatten.Nodup/\(Fs.drop k).flatten.Nodup/\∀ x∈(Fs.take k).flatten,∀ y∈(Fs.drop k).flatten,x≠y:=by rw[<- zbZ k Fs,zbU,zbm] at hnd;exact hnd
theorem TQ {s t:List Ver}{a1 a2:Pq}{c1 c2:Nq}{F1 F2:List Nat} (hs:RVers false h [.sl 6 a1 s.length c1] s F1) (ht:RVers false h [.sl 6 a2 t.length c2] t F2) (h4:s.length=4) (h4':t.length=4) (hpn:∀ v∈s,v.past.length<=1048576) (hl:lo<=h.length) :
  ∃ a' c' h' F',Ae lo 291 [.agg [.sl 6 a1 s.length c1],.agg [.sl 6 a2 t.length c2]] h=some (.sl 6 a' (En s t).length c',h')/\RVers false h' [.sl 6 a' (En s t).length c'] (En s t) F'/\Mv h [] h' F':=by
 suffices hq:∃ a' c' h' F',_=some (V.sl 6 a' (En s t).length c',h')/\RVers false h' [.sl 6 a' (En s t).length c'] (En s t) F'/\Mv h [] h' F' from by obtain ⟨a',c',h',F',e,hr⟩:=hq;exact ⟨a',c',h',F',Q8 e,hr⟩
 have hzl:(s.zip t).length=4:=by rw[List.length_zip];omega
 have one:∀ m i,m+i=4->∀ hh ax cx (out:List Ver) Fx,RVers false hh [.sl 6 ax out.length cx] out Fx->Mv h [] hh Fx->out.length<=i->∃ a' c' h' F',
   BJ lo ax out.length cx (i:Nat) a1 s.length c1 a2 t.length c2 hh=some (.sl 6 a' (((s.zip t).drop i).foldl FX out).length c',h')/\RVers false h' [.sl 6 a' (((s.zip t).drop i).foldl FX out).length c'] (((s.zip t).drop i).foldl FX out) F'/\Mv h [] h' F':=by
  intro m;induction m with
  | zero =>intro i hi hh ax cx out Fx hr hm hlen;rw[BJ.e,Aj (by omega),zcb (by omega)];exact ⟨ax,cx,hh,Fx,rfl,hr,hm⟩
  | succ m ih =>
   intro i hi hh ax cx out Fx hr hm hlen;have his:i<s.length:=by omega
   have hit:i<t.length:=by omega
   have hs':=hm.keep0 rvers_ok hs;have ht':=hm.keep0 rvers_ok ht;obtain ⟨o1,s1,b1,d1,H1,ha1,_,_,_,_,_,_,hl1,hl1',es1,hp1,_⟩:=RVers.all hs' his;obtain ⟨o2,s2,b2,d2,H2,ha2,_,_,_,_,_,_,hl2,_,_,_,_⟩:=RVers.all ht' hit;have hzi:i<(s.zip t).length:=by omega
   rw[zbH hzi,zb3,zcU];have hlf:FX out (s[i],t[i])=bif A7 t[i] s[i] then GR s[i] out else out:=rfl;rw[hlf,BJ.e,Ak (by omega),Ad hit,ha2,Ag,Bm,hl2,Ag,Ab,Aa,Ab,Aa,Af,Ad his,ha1,Ag,hl1,Ag,Ab,Aa,Ab,Aa,Af,BF,Ac,Az,<- ha1,<- ha2];show ∃ a' c' h' F',br (A7 t[i] s[i]) _ _=_/\_;cases hless:A7 t[i] s[i] with
   | false =>rw[Ay,cond_false,At (by omega)];exact ih (i+1) (by omega) hh ax cx out Fx hr hm (by omega)
   | true =>
   rw[Ap,cond_true];have put:∀ k,k<=out.length->GR s[i] out=out.take k++s[i] :: out.drop k->∃ a' c' h' F',(AL ax out.length cx none (some (Iv (k:Nat))) none λa_36 n_37 c_38=>Aw 6 (hh ++ [.rows 6 43 false []]) (.sl 6 a_36 n_37 c_38) λx_39=>Dk lo 43 6 72 (.sl 6 (some ((List.length hh),0)) 0 (some 0)) x_39 (hh ++ [.rows 6 43 false []]) λv_40 h_41=>eS 6 (v_40) λa_42 n_43 c_44=>Aq ((i:Nat):Int) s.length (eO a1 λo_45=>eO (ld h_41 (o_45.1) ((o_45.2)+(((i:Nat):Int).toNat)) 0 6) λo_46=>eC o_46 λv_47 l_48=>eI .i64 v_47 λn_49=>eC l_48 λv_50 l_51=>eI .i64 v_50 λn_52=>eC l_51 λv_53 l_54=>eI .i64 v_53 λn_55=>eC l_54 λv_56 l_57=>eS 2 (v_56) λa_58 n_59 c_60=>eC l_57 λv_61 l_62=>eT v_61 λs_63=>eC l_62 λv_64 l_65=>eBv v_64 λb_66=>eN l_65 (Ai (Ae lo 187 [.agg [Iv (n_49),Iv (n_52),Iv (n_55),.sl 2 a_58 n_59 c_60,.str (s_63),.bool (b_66)]] h_41) λv_67 h_68=>eA v_67 λc_69=>eC c_69 λv_70 l_71=>eI .i64 v_70 λn_72=>eC l_71 λv_73 l_74=>eI .i64 v_73 λn_75=>eC l_74 λv_76 l_77=>eI .i64 v_76 λn_78=>eC l_77 λv_79 l_80=>eS 2 (v_79) λa_81 n_82 c_83=>eC l_80 λv_84 l_85=>eT v_84 λs_86=>eC l_85 λv_87 l_88=>eBv v_87 λb_89=>eN l_88 (Aw 6 (h_68 ++ [.rows 6 43 false [[Iv (n_72),Iv (n_75),Iv (n_78),.sl 2 a_81 n_82 c_83,.str (s_86),.bool (b_89)]]]) (.sl 6 (some ((List.length h_68),0)) 1 (some 1)) λx_90=>Dk lo 43 6 72 (.sl 6 a_42 n_43 c_44) x_90 (h_68 ++ [.rows 6 43 false [[Iv (n_72),Iv (n_75),Iv (n_78),.sl 2 a_81 n_82 c_83,.str (s_86),.bool (b_89)]]]) λv_91 h_92=>eS 6 (v_91) λa_93 n_94 c_95=>AL ax out.length cx (some (Iv (k:Nat))) none none λa_96 n_97 c_98=>Aw 6 h_92 (.sl 6 a_96 n_97 c_98) λx_99=>Dk lo 43 6 72 (.sl 6 a_93 n_94 c_95) x_99 h_92 λv_100 h_101=>eS 6 (v_100) λa_102 n_103 c_104=>BJ lo a_102 n_103 c_104 (Ao (((i:Nat):Int)+1)) a1 s.length c1 a2 t.length c2 h_101))))=some (V.sl 6 a' (((s.zip t).drop (i+1)).foldl FX (GR s[i] out)).length c',h') /\
     RVers false h' [.sl 6 a' (((s.zip t).drop (i+1)).foldl FX (GR s[i] out)).length c'] (((s.zip t).drop (i+1)).foldl FX (GR s[i] out)) F'/\Mv h [] h' F':=by
    intro k hk hins;have hbx:=rvers_ok.bd _ _ _ _ hr;obtain ⟨Fs,nF,sF,own,cuts⟩:=hr.parts hm.nd;obtain ⟨rP,rQ,eP,eQ,kP,kQ⟩:=cuts k hk;obtain ⟨nP,nQ,dPQ⟩:=Ey (k:=k) nF;have inP:∀ y∈(Fs.take k).flatten,y∈Fs.flatten:=λy hy=>by rw[<- zbZ k Fs,zbU];simp[hy]
    have inQ:∀ y∈(Fs.drop k).flatten,y∈Fs.flatten:=λy hy=>by rw[<- zbZ k Fs,zbU];simp[hy]
    have hFl:∀ y∈Fs.flatten,y<hh.length:=λy hy=>hbx y (sF y hy);have hlh:lo<=hh.length:=zbj hl hm.le;have htl:(out.take k).length=k:=by rw[zco];omega
    have hdl:(out.drop k).length=out.length - k:=by rw[zcC]
    obtain ⟨a3,c3,h3,F3,e3,r3,l3,fr3,sub3,nd3⟩:=Jv (lo:=lo) (R:=6) (e:=UD false) (bytes:=72) rver_ok eP nP (λy hy=>hFl y (inP y hy)) (by decide) (by omega) hlh;have m3:Mv hh [] h3 []:=⟨by omega,λy hy _=>fr3 y hy,by simp,by simp⟩;have hs3:=m3.keep0 rvers_ok hs';obtain ⟨o4,s4,b4,d4,H4,ha4,ho4,es4,hp4,_⟩:=hs3.get his;obtain ⟨a5,c5,h5,F5,e5,r5,m5⟩:=CJ (lo:=lo) (v:=s[i]) hp4 (by omega) (hpn _ (zbk his));obtain ⟨a6,c6,h6,F6,e6,r6,m6⟩:=E0 (lo:=lo) (bytes:=72) (e:=43) rver_ok r3 (row:=s[i].cs a5 c5) (x:=s[i]) (G:=F5) (h1:=h5 ++ [.rows 6 43 false [s[i].cs a5 c5]])
     ⟨_,rfl,Mv.snoc.keep0 rtags_ok r5⟩ (m5.trans (Mv.snoc' m5.nd)) nd3 (λy hy=>by
      rcases sub3 y hy with g | g
      ·exact hm.ge hl (by simp) y (sF y (inP y g))
      ·omega) (by omega) (by decide) (by omega)
    have hQ3:∀ y∈(Fs.drop k).flatten,y∉F3/\y<h3.length:=λy hy=>by
     have:=hFl y (inQ y hy);refine ⟨λhm3=>?_,by omega⟩;rcases sub3 y hm3 with g | g
     ·exact dPQ y g y hy rfl
     ·omega
    have hQ6:∀ y∈(Fs.drop k).flatten,h6[y]?=hh[y]?:=λy hy=>by rw[m6.fr y (hQ3 y hy).2 (hQ3 y hy).1];exact fr3 y (hFl y (inQ y hy))
    have l6:=m6.le;have F6b:∀ y∈F6,y<h6.length:=rvers_ok.bd _ _ _ _ r6;obtain ⟨a7,c7,h7,F7,e7,r7,l7,fr7,sub7,nd7⟩:=Kw (lo:=lo) (bytes:=72) rver_ok.fr r6 (xs:=rQ) (ys:=out.drop k) (Gs:=Fs.drop k) (eQ.fr rver_ok.fr hQ6) (by decide) (by simp only[zbw,htl,hdl,zbE];omega) (λy hy=>m6.ge (by omega) (λy hy=>by
      rcases sub3 y hy with g | g
      ·exact hm.ge hl (by simp) y (sF y (inP y g))
      ·omega) y hy) (by omega) (by
      rw[zbm];refine ⟨m6.nd,nQ,λx hx y hy e=>?_⟩;subst e;rcases m6.sub x hx with g | g
      ·exact (hQ3 x hy).1 g
      ·have:=(hQ3 x hy).2;omega) (λy hy=>by
      rcases zbl.1 hy with hy | hy
      ·exact F6b y hy
      ·have:=(hQ3 y hy).2;omega)
    have hfin:out.take k ++ [s[i]]++out.drop k=GR s[i] out:=by rw[hins,zbB];rfl
    have hflen:(out.take k).length+1+(out.drop k).length=(GR s[i] out).length:=by rw[L8,htl,hdl];omega
    rw[zbw,zbE,hflen] at e7 r7;rw[hfin] at r7;have m7:Mv h [] h7 F7:=by
     refine ⟨by have:=hm.le;omega,λy hy _=>?_,nd7,λy hy=>?_⟩
     ·have y1:y<hh.length:=zbv hy hm.le;have yF:y∉Fx:=λhmx=>by have:=hm.new y hmx;omega
      have y3:y∉F3:=λhm3=>by
       rcases sub3 y hm3 with g | g
       ·exact yF (sF y (inP y g))
       ·omega
      have y6:y∉F6:=λhm6=>by
       rcases m6.sub y hm6 with g | g
       ·exact y3 g
       ·omega
      rw[fr7 y (by omega) y6,m6.fr y (by omega) y3,fr3 y y1,hm.fr y hy (by simp)]
     ·refine .inr ?_;have hh':=hm.le;rcases sub7 y hy with g | g
      ·rcases zbl.1 g with g | g
       ·rcases m6.sub y g with g | g
        ·rcases sub3 y g with g | g
         ·have:=hm.new y (sF y (inP y g));have:=hFl y (inP y g);omega
         ·omega
        ·omega
       ·have:=hm.new y (sF y (inQ y g));have:=hFl y (inQ y g);omega
      ·omega
    obtain ⟨a8,c8,h8,F8,e8,r8,m8⟩:=ih (i+1) (by omega) h7 a7 c7 (GR s[i] out) F7 r7 m7 (by rw[L8];omega);refine ⟨a8,c8,h8,F8,?_,r8,m8⟩;have mm0:Mv hh [] (hh ++ [.rows 6 43 false []]) []:=Mv.snoc;have h6x:∀ b i,ax=some (b,i)->h6[b]?=hh[b]?:=λb i e=>by
     obtain ⟨q1,q2⟩:=own b i e;have:=hbx b q1;rw[m6.fr b (by omega) λhm3=>?_,fr3 b this];rcases sub3 b hm3 with g | g
     ·exact q2 (inP b g)
     ·omega
    simp only[Ver.cs] at e6;rw[show UD false=43 from rfl] at e3;rw[kP _ (λb i e=>mm0.fr b (hbx b (own b i e).1) (by simp)),e3,Ah,Ad his,ha4,Ag,Bm,ho4,Ag,Ab,Aa,Ab,Aa,Ab,Aa,Ab,es4,Ab,Bq,Ab,AB,Af];rw[show (V.agg [Iv s[i].key,Iv s[i].tag.time,Iv s[i].tag.place,.sl 2 b4 s[i].past.length d4,.str s[i].text,.bool s[i].gone]) = .agg (s[i].cs b4 d4) from rfl,e5,Ac,AA,Ab,Aa,Ab,Aa,Ab,Aa,Ab,Ah,Ab,Bq,Ab,AB,Af,A9,e6,Ah,kQ _ h6x,e7,Ah,At (by omega),<- ha4];exact e8
   have two:∀ m k,m+k=out.length->(∀ j (hj:j<out.length),j<k->A7 out[j] s[i]=true)->∃ a' c' h' F',C1 lo ax out.length cx (i:Nat) (k:Nat) a1 s.length c1 a2 t.length c2 hh=some (V.sl 6 a' (((s.zip t).drop (i+1)).foldl FX (GR s[i] out)).length c',h') /\
     RVers false h' [.sl 6 a' (((s.zip t).drop (i+1)).foldl FX (GR s[i] out)).length c'] (((s.zip t).drop (i+1)).foldl FX (GR s[i] out)) F'/\Mv h [] h' F':=by
    intro m;induction m with
    | zero =>intro k hk hall;rw[C1.e,Aj (by omega)];exact put k (by omega) (SH (by omega) hall (λh=>by omega))
    | succ m ih2 =>
     intro k hk hall;have hkl:k<out.length:=by omega
     obtain ⟨o3,s3,b3,d3,H3,ha3,_,_,_,_,_,_,hl3,_,_,_,_⟩:=RVers.all hr hkl;rw[C1.e,Ak (by omega),Ad hkl,ha3,Ag,Bm,hl3,Ag,Ab,Aa,Ab,Aa,Af,Ad his,ha1,Ag,Bm,hl1,Ag,Ab,Aa,Ab,Aa,Af,BF,Ac,Az,<- ha1,<- ha3];show ∃ a' c' h' F',br (A7 out[k] s[i]) _ _=_/\_;cases hlk:A7 out[k] s[i] with
     | true =>
      rw[Ap,At (by omega)];exact ih2 (k+1) (by omega) (λj hj hjk=>by
       by_cases e:j=k
       ·subst e;exact hlk
       ·exact hall j hj (by omega))
     | false =>rw[Ay];exact put k (by omega) (SH (by omega) hall (λ_=>hlk))
   exact two out.length 0 (by omega) (λj _ hj=>by omega)
 have m0:Mv h [] (h ++ [.rows 6 43 false []]) [h.length]:=Mv.last;obtain ⟨a',c',h',F',e,r,m⟩:=one 4 0 (by omega) (h ++ [.rows 6 43 false []]) (some (h.length,0)) (some 0) [] [h.length] (Sli.fresh (zbo _)) m0 (by simp);rw[zci] at e r;exact ⟨a',c',h',F',e,r,m⟩
end
end Go.Proofs.YtmgopagfoemomaaGreat
