/- Part 3 of what is shown for the law FnChainJoin, whatever the input; no condition of its own. -/
import Derived.Test.YthdfojchihooeaaGreatBPChainJoin2
set_option linter.unusedVariables false
set_option linter.unusedSimpArgs false
set_option linter.unnecessarySimpa false
/- Arguments: data that came in,as blocks that are read alone. -/
namespace Go.Proofs.YthdfojchihooeaaGreat.T
open Go
def inFs (P:Program) (g:TypeId→Bool):List Field→Nat→Nat→Bool
 | [],off,n=>Nat.beq off n
 | f :: fs,off,n=>match Nat.beq f.offset off&&g f.type with
  | true=>inFs P g fs (off+P.cellsOf f.type) n
  | false=>false
def inTy (P:Program):Nat→TypeId→Bool
 | 0,_=>false
 | n+1,t=>match P.underlying t with
  | some .bool=>Nat.beq (P.cellsOf t) 1
  | some (.int _)=>Nat.beq (P.cellsOf t) 1
  | some .string=>Nat.beq (P.cellsOf t) 1
  | some (.slice e)=>Nat.beq (P.cellsOf t) 1&&Nat.blt 0 (P.cellsOf e)&&inTy P n e
  | some (.struct fs)=>inFs P (inTy P n) fs.toList 0 (P.cellsOf t)
  | _=>false
def TVs (P:Program) (g:TypeId→List V→Prop):List Field→List V→Prop
 | [],xs=>xs = []
 | f :: fs,xs=>∃ ys zs,xs=ys++zs∧ys.length=P.cellsOf f.type∧g f.type ys∧TVs P g fs zs
def TV (P:Program) (h:Heap):Nat→TypeId→List V→Prop
 | 0,_,_=>False
 | n+1,t,xs=>match P.underlying t with
  | some .bool=>∃ b,xs = [.bool b]
  | some (.int k)=>∃ i,xs = [.int k i]∧(Lit.int k i).wf=true
  | some .string=>∃ s,xs = [.str s]∧s.size≤maxLen
  | some (.slice e)=>∃ a c rs,xs = [.sl (P.cellsOf e) a rs.length c]∧(rs.length≤maxLen∧∀ k,c=some k→rs.length≤k)∧(∀ row∈rs,row.length=P.cellsOf e∧TV P h n e row) ∧
    (rs = []∨∃ b,a=some (b,0)∧Heap.rows? h b=some rs)
  | some (.struct fs)=>TVs P (TV P h n) fs.toList xs
  | _=>False
theorem rows_pre {h h':Heap} (hp:h <+: h') {b:Nat}{rs:List (List V)} (hb:Heap.rows? h b=some rs):Heap.rows? h' b=some rs:=by
 obtain ⟨t,rfl⟩:=hp
 unfold Heap.rows? at hb ⊢
 have hl:b<h.length:=by
  apply Nat.lt_of_not_le
  intro hle
  rw [List.getElem?_eq_none hle] at hb;cases hb
 rw [List.getElem?_append_left hl];exact hb
theorem TVs.imp {P:Program}{g g':TypeId→List V→Prop} (hg:∀ t xs,g t xs→g' t xs):∀ {fs:List Field}{xs:List V},TVs P g fs xs→TVs P g' fs xs
 | [],xs,h=>h
 | f :: fs,xs,⟨ys,zs,h1,h2,h3,h4⟩=>⟨ys,zs,h1,h2,hg _ _ h3,TVs.imp hg h4⟩
theorem TV.mono {P:Program}{h h':Heap} (hp:h <+: h'):∀ (n:Nat) (t:TypeId) (xs:List V),TV P h n t xs→TV P h' n t xs
 | 0,_,_,hx=>hx
 | n+1,t,xs,hx=>by
  simp only [TV] at hx ⊢
  split at hx
  ·exact hx
  ·exact hx
  ·exact hx
  ·obtain ⟨a,c,rs,h1,h2,h3,h4⟩:=hx
   exact ⟨a,c,rs,h1,h2,fun row hr=>⟨(h3 row hr).1,TV.mono hp n _ _ (h3 row hr).2⟩,h4.imp id fun ⟨b,h5,h6⟩=>⟨b,h5,rows_pre hp h6⟩⟩
  ·exact TVs.imp (fun t xs=>TV.mono hp n t xs) hx
  ·exact hx
theorem firms_append {xs ys:List V} (h1:firms xs=true) (h2:firms ys=true):firms (xs++ys)=true:=by
 induction xs with
 | nil=>exact h2
 | cons x r ih =>
  simp only [List.cons_append,firms] at h1 ⊢
  split at h1
  ·exact ih h1
  ·cases h1
theorem TVs.firm {P:Program}{g:TypeId→List V→Prop} (hg:∀ t xs,g t xs→firms xs=true):∀ {l:List Field}{xs:List V},TVs P g l xs→firms xs=true
 | [],xs,h=>by simp only [TVs] at h;subst h;rfl
 | f :: l,xs,⟨ys,zs,e,_,h3,h4⟩=>by subst e;exact firms_append (hg _ _ h3) (TVs.firm hg h4)
theorem TV.firm {P:Program}{h:Heap}:∀ (n:Nat) (t:TypeId) (xs:List V),TV P h n t xs→firms xs=true
 | 0,_,_,hx=>hx.elim
 | n+1,t,xs,hx=>by
  simp only [TV] at hx
  split at hx
  ·obtain ⟨b,rfl⟩:=hx;rfl
  ·obtain ⟨i,rfl,_⟩:=hx;rfl
  ·obtain ⟨s,rfl,_⟩:=hx;rfl
  ·obtain ⟨a,c,rs,rfl,_⟩:=hx;rfl
  ·exact TVs.firm (fun t xs=>TV.firm n t xs) hx
  ·exact hx.elim
structure Imp (W:World) (ρ:Rho) (h:Heap):Prop where
 rel:HRel ρ h W
 ro:∀ b,b<h.length→isDead h b∨isRo h b
theorem isDead_pre {h:Heap}{k:Blk}{b:Nat} (hb:b<h.length) (hd:isDead h b):isDead (h ++ [k]) b:=by unfold isDead at *;rw [List.getElem?_append_left hb];exact hd
theorem isRo_pre {h:Heap}{k:Blk}{b:Nat} (hb:b<h.length) (hd:isRo h b):isRo (h ++ [k]) b:=by obtain ⟨R,e,rs,h1⟩:=hd;exact ⟨R,e,rs,by rw [List.getElem?_append_left hb];exact h1⟩
theorem Imp.lay {W:World}{ρ:Rho}{h:Heap} (hi:Imp W ρ h) (k:Blk) (e:E) (hlt:e.r<W.heap.size) (hk:BR ρ e k W) (hro:k = .dead∨∃ R e rs,k = .rows R e true rs) :
  Imp W (ρ.set h.length e) (h ++ [k]):=by
 have hle:Rle ρ (ρ.set h.length e):=Rho.set_le hi.rel.fresh
 have hnew:isDead (h ++ [k]) h.length∨isRo (h ++ [k]) h.length:=by
  rcases hro with rfl | ⟨R,t,rs,rfl⟩
  ·exact .inl (by simp [isDead])
  ·exact .inr ⟨R,t,rs,by simp⟩
 have hall:∀ b,b<(h ++ [k]).length→isDead (h ++ [k]) b∨isRo (h ++ [k]) b:=fun b hb=>by
  by_cases hx:b=h.length
  ·subst hx;exact hnew
  ·have:b<h.length:=by simp at hb;omega
   exact (hi.ro b this).imp (isDead_pre this) (isRo_pre this)
 have hdom:∀ b e',(ρ.set h.length e) b=some e'→b<(h ++ [k]).length∧e'.r<W.heap.size:=fun b e' hb=>by
  by_cases hx:b=h.length
  ·subst hx;rw [Rho.set_same] at hb;injection hb with hb;subst hb;exact ⟨by simp,hlt⟩
  ·rw [Rho.set_other hx] at hb
   have:=hi.rel.dom b e' hb
   exact ⟨by simp;omega,by omega⟩
 refine ⟨⟨hdom,fun b e' k' hb hk'=>?_,fun b b' e1 e2 h1 h2 hr hne=>?_⟩,hall⟩
 ·by_cases hx:b=h.length
  ·subst hx;rw [Rho.set_same] at hb;injection hb with hb;subst hb
   simp at hk';subst hk'
   exact BR.mono hle rfl hk
  ·rw [Rho.set_other hx] at hb
   have:=(hi.rel.dom b e' hb).1
   rw [List.getElem?_append_left this] at hk'
   exact BR.mono hle rfl (hi.rel.blk b e' k' hb hk')
 ·have g1:=hall b (hdom b e1 h1).1
  have g2:=hall b' (hdom b' e2 h2).1
  rcases g1 with g1 | g1
  ·exact .inl g1
  ·rcases g2 with g2 | g2
   ·exact .inr (.inl g2)
   ·exact .inr (.inr ⟨g1,g2⟩)
section
variable {P:Program}{W:World}{H:Type}{enc:TypeId×Value→H}
theorem cells_some {base:Nat}{a:Addr}{n:Nat}{cs:List Value} (h:W.cells? base a n=some cs):cs.length=n∧∀ (i:Nat) (c:Value),cs[i]?=some c→W.cell? (a.add i)=some c:=by
 unfold World.cells? at h
 split at h
 ·have hl:cs.length=n:=by simpa using mapM_some_length h
  refine ⟨hl,fun i c hc=>?_⟩
  have hi:i<n:=by have:=(List.getElem?_eq_some_iff.1 hc).1;omega
  have:=mapM_some_get h i i (by simp [hi])
  rw [this,hc]
 ·cases h
theorem cell_block {a:Addr}{c:Value} (h:W.cell? a=some c):∃ cs el fr,W.heap[a.block]?=some (.cells cs el fr)∧a.spot=none∧cs[a.off]?=some c:=by
 unfold World.cell? at h
 split at h
 ·rename_i cs el fr he
  split at h
  ·cases h
  ·rename_i hs;exact ⟨cs,el,fr,he,by simpa using hs,h⟩
 ·cases h
def Lays (P:Program) (W:World) (n:Nat) (t:TypeId) (cs:List Value):Prop :=
 ∀ ρ h,Imp W ρ h→∃ (ρ':Rho) (h':Heap) (xs:List V),Rle ρ ρ'∧h <+: h'∧Imp W ρ' h'∧VRs ρ' xs cs∧TV P h' n t xs
theorem lays_rows {n:Nat}{t:TypeId}{R:Nat}:∀ (css:List (List Value)),(∀ cs∈css,cs.length=R∧Lays P W n t cs)→∀ ρ h,Imp W ρ h →
  ∃ (ρ':Rho) (h':Heap) (rs:List (List V)),Rle ρ ρ'∧h <+: h'∧Imp W ρ' h'∧rs.length=css.length∧(∀ (i:Nat) (row:List V),rs[i]?=some row→∃ cs,css[i]?=some cs∧VRs ρ' row cs∧row.length=R∧TV P h' n t row)
 | [],_,ρ,h,hi=>⟨ρ,h,[],Rle.refl _,List.prefix_refl _,hi,rfl,fun i row hr=>by simp at hr⟩
 | cs :: css,hc,ρ,h,hi=>by
  obtain ⟨ρ1,h1,xs,a1,a2,a3,a4,a5⟩:=(hc cs (by simp)).2 ρ h hi
  obtain ⟨ρ2,h2,rs,b1,b2,b3,b4,b5⟩:=lays_rows css (fun c hcc=>hc c (by simp [hcc])) ρ1 h1 a3
  refine ⟨ρ2,h2,xs :: rs,a1.trans b1,a2.trans b2,b3,by simp [b4],fun i row hr=>?_⟩
  cases i with
  | zero =>
   simp at hr;subst hr
   exact ⟨cs,rfl,VRs.mono b1 _ _ a4,by rw [a4.length];exact (hc cs (by simp)).1,TV.mono b2 _ _ _ a5⟩
  | succ i =>
   simp at hr
   obtain ⟨c,g1,g2⟩:=b5 i row hr
   exact ⟨c,by simpa using g1,g2⟩
theorem lays_fields {n:Nat}{cs:List Value}:∀ (fs:List Field) (off:Nat),inFs P (inTy P n) fs off cs.length=true→(∀ f∈fs,inTy P n f.type=true→Lays P W n f.type ((cs.drop f.offset).take (P.cellsOf f.type)))→∀ ρ h,Imp W ρ h →
  ∃ (ρ':Rho) (h':Heap) (xs:List V),Rle ρ ρ'∧h <+: h'∧Imp W ρ' h'∧VRs ρ' xs (cs.drop off)∧TVs P (TV P h' n) fs xs∧off≤cs.length
 | [],off,hin,_,ρ,h,hi=>by
  simp only [inFs] at hin
  have:=Nat.eq_of_beq_eq_true hin
  exact ⟨ρ,h,[],Rle.refl _,List.prefix_refl _,hi,by rw [List.drop_eq_nil_of_le (by omega)];exact VRs.nil,rfl,by omega⟩
 | f :: fs,off,hin,hl,ρ,h,hi=>by
  simp only [inFs] at hin
  split at hin
  ·rename_i hc
   simp only [Bool.and_eq_true] at hc
   have ho:=Nat.eq_of_beq_eq_true hc.1
   obtain ⟨ρ1,h1,xs,a1,a2,a3,a4,a5⟩:=hl f (by simp) hc.2 ρ h hi
   obtain ⟨ρ2,h2,ys,b1,b2,b3,b4,b5,b6⟩:=lays_fields fs (off+P.cellsOf f.type) hin (fun g hg=>hl g (by simp [hg])) ρ1 h1 a3
   rw [ho] at a4
   have hlen:=a4.length
   refine ⟨ρ2,h2,xs++ys,a1.trans b1,a2.trans b2,b3,?_,⟨xs,ys,rfl,?_,TV.mono b2 _ _ _ a5,b5⟩,by omega⟩
   ·have:=(VRs.mono b1 _ _ a4).append b4
    rwa [← List.drop_drop,List.take_append_drop] at this
   ·rw [hlen];simp;omega
  ·cases hin
theorem lays:∀ (n:Nat) (t:TypeId),inTy P n t=true→∀ (fuel:Nat) (cs:List Value) (x:DataW H×List MemPlace),DataW.trod enc P W 0 (fun _=>true) true fuel t cs=some x →
  (∀ a l c,Value.slice (some a) l c∈cs→0<W.heap.size)→Lays P W n t cs:=by
 intro n
 induction n with
 | zero=>intro t h;simp [inTy] at h
 | succ n ih =>
  intro t hin fuel cs x hx hpos ρ h hi
  simp only [inTy] at hin
  split at hin
  ·rename_i hu
   obtain ⟨b,rfl,_⟩:=DataW.trod_bool hu hx
   exact ⟨ρ,h,[.bool b],Rle.refl _,List.prefix_refl _,hi,VRs.cons VR.bool' VRs.nil,by simp only [TV,hu];exact ⟨b,rfl⟩⟩
  ·rename_i k hu
   obtain ⟨i,rfl,_,hw⟩:=DataW.trod_int hu hx
   exact ⟨ρ,h,[.int k i],Rle.refl _,List.prefix_refl _,hi,VRs.cons VR.int' VRs.nil,by simp only [TV,hu];exact ⟨i,rfl,hw⟩⟩
  ·rename_i hu
   obtain ⟨s,rfl,_,hw⟩:=DataW.trod_string hu hx
   exact ⟨ρ,h,[.str s],Rle.refl _,List.prefix_refl _,hi,VRs.cons (by simp [VR]) VRs.nil,by simp only [TV,hu];exact ⟨s,rfl,hw⟩⟩
  ·rename_i e hu
   simp only [Bool.and_eq_true] at hin
   have hR:0<P.cellsOf e:=by have:=hin.1.2;simpa [Nat.blt_eq] using this
   rcases DataW.trod_slice hu hx with ⟨rfl,_⟩ | ⟨a,len,cap,elems,rest,m,rfl,rfl,_,_,hlc,hcm,hel,hg,hsp,_⟩
   ·exact ⟨ρ,h,[.sl (P.cellsOf e) none 0 (some 0)],Rle.refl _,List.prefix_refl _,hi,VRs.cons (by simp [VR]) VRs.nil,by
     simp only [TV,hu];exact ⟨none,some 0,[],rfl,⟨Nat.zero_le _,fun _ _=>Nat.zero_le _⟩,fun r hr=>(by cases hr),.inl rfl⟩⟩
   ·-- the rows
    have hrow:∀ i,i<len→∃ c y,W.cells? 0 (a.add (i*P.cellsOf e)) (P.cellsOf e)=some c∧DataW.trod enc P W 0 (fun _=>true) true m e c=some y:=fun i hi'=>by
     have h1:=hg i hi'
     rw [List.getElem?_eq_getElem (by omega)] at h1
     obtain ⟨c,h2,h3⟩:=Option.bind_eq_some_iff.1 h1
     exact ⟨c,_,h2,h3⟩
    have hspare:∀ j,len+j<cap→∃ c,W.cells? 0 (a.add ((len+j)*P.cellsOf e)) (P.cellsOf e)=some c:=fun j hj=>by
     obtain ⟨h0,h1⟩:=hsp rfl
     have h1:=h1 j (by omega)
     rw [List.getElem?_eq_getElem (by omega)] at h1
     obtain ⟨c,h2,_⟩:=Option.bind_eq_some_iff.1 h1
     exact ⟨c,h2⟩
    by_cases hcap:cap=0
    ·-- no room at all
     subst hcap
     have hl0:len=0:=by omega
     subst hl0
     have hp:=hpos a 0 0 (by simp)
     have hi2:=hi.lay .dead ⟨0,0,P.cellsOf e,0,0⟩ hp trivial (.inl rfl)
     refine ⟨_,_,[.sl (P.cellsOf e) (some (h.length,0)) 0 (some 0)],Rho.set_le hi.rel.fresh,⟨_,rfl⟩,hi2,VRs.cons ?_ VRs.nil,?_⟩
     ·simp only [VR];exact ⟨_,a,0,Rho.set_same _ _ _,rfl,rfl,.inl rfl,Nat.le_refl _,fun y hy=>by injection hy,fun hc=>by cases hc⟩
     ·simp only [TV,hu];exact ⟨_,_,[],rfl,⟨Nat.zero_le _,fun _ _=>Nat.zero_le _⟩,fun r hr=>(by cases hr),.inl rfl⟩
    ·-- the block
     have hblk:∃ carr el fr,W.heap[a.block]?=some (.cells carr el fr)∧a.spot=none:=by
      have:∃ c,W.cells? 0 (a.add (0*P.cellsOf e)) (P.cellsOf e)=some c:=by
       by_cases hl0:len=0
       ·have:=hspare 0 (by omega);rw [hl0] at this;simpa using this
       ·obtain ⟨c,_,h2,_⟩:=hrow 0 (by omega);exact ⟨c,h2⟩
      obtain ⟨c,hc⟩:=this
      obtain ⟨c1,c2⟩:=cells_some hc
      have h0:c[0]?=some c[0]:=List.getElem?_eq_getElem (by omega)
      obtain ⟨carr,el,fr,h1,h2,_⟩:=cell_block (c2 0 _ h0)
      have e1:(a.add (0*P.cellsOf e)).add 0=a:=by simp [Addr.add]
      rw [e1] at h1 h2
      exact ⟨carr,el,fr,h1,h2⟩
     obtain ⟨carr,el,fr,hW,hspot⟩:=hblk
     obtain ⟨r,o,sp⟩:=a
     simp only at hW hspot
     subst hspot
     have hlt:r<W.heap.size:=by
      apply Nat.lt_of_not_le
      intro hle
      rw [Array.getElem?_eq_none hle] at hW;cases hW
     have hcells:∀ i,i<len→∃ c y,c.length=P.cellsOf e∧(∀ (j:Nat) (v:Value),c[j]?=some v→carr[o+(i*P.cellsOf e+j)]?=some v)∧DataW.trod enc P W 0 (fun _=>true) true m e c=some y:=fun i hi'=>by
      obtain ⟨c,y,h1,h2⟩:=hrow i hi'
      obtain ⟨c1,c2⟩:=cells_some h1
      refine ⟨c,y,c1,fun j v hv=>?_,h2⟩
      have:=c2 j v hv
      rw [add_mk,add_mk,cell_at hW] at this
      rw [← this];congr 1;omega
     have hall:∃ css:List (List Value),css.length=len∧∀ i,i<len→∃ c y,css[i]?=some c∧c.length=P.cellsOf e∧(∀ (j:Nat) (v:Value),c[j]?=some v→carr[o+(i*P.cellsOf e+j)]?=some v)∧DataW.trod enc P W 0 (fun _=>true) true m e c=some y:=by
      refine ⟨(List.range len).map fun i=>if hi':i<len then (hcells i hi').choose else [],by simp,fun i hi'=>?_⟩
      obtain ⟨y,h1,h2,h3⟩:=(hcells i hi').choose_spec
      exact ⟨_,y,by simp [hi'],h1,h2,h3⟩
     obtain ⟨css,hcl,hcs⟩:=hall
     obtain ⟨ρ1,h1,rs,a1,a2,a3,a4,a5⟩:=lays_rows (P:=P) (W:=W) (n:=n) (t:=e) (R:=P.cellsOf e) css (fun c hc=>by
      obtain ⟨i,hi'⟩:=List.mem_iff_getElem?.1 hc
      have hlt:=(List.getElem?_eq_some_iff.1 hi').1
      obtain ⟨c',y,g1,g2,g3,g4⟩:=hcs i (by omega)
      rw [hi'] at g1;injection g1 with g1;subst g1
      exact ⟨g2,ih e hin.2 m c y g4 fun _ _ _ _=>by omega⟩) ρ h hi
     by_cases hl0:len=0
     ·have hrs:rs = []:=List.eq_nil_of_length_eq_zero (by omega)
      subst hrs
      have hi2:=a3.lay .dead ⟨r,o,P.cellsOf e,0,0⟩ hlt trivial (.inl rfl)
      refine ⟨_,_,[.sl (P.cellsOf e) (some (h1.length,0)) 0 (some cap)],a1.trans (Rho.set_le a3.rel.fresh),a2.trans ⟨_,rfl⟩,hi2,VRs.cons ?_ VRs.nil,?_⟩
      ·simp only [VR];exact ⟨_,⟨r,o,none⟩,cap,Rho.set_same _ _ _,rfl,by rw [hl0],.inr (by simp),by omega,fun y hy=>by injection hy,fun hc=>by cases hc⟩
      ·simp only [TV,hu];exact ⟨_,_,[],rfl,⟨Nat.zero_le _,fun _ _=>Nat.zero_le _⟩,fun r hr=>(by cases hr),.inl rfl⟩
     ·have hrl:rs.length=len:=by omega
      have hbr:BR ρ1 ⟨r,o,P.cellsOf e,rs.length,rs.length⟩ (.rows (P.cellsOf e) el true rs) W:=by
       refine ⟨carr,fr,?_,fun h=>(by cases h),rfl,rfl,Nat.le_refl _,?_,fun i row hr=>?_,.inr ⟨rfl,fun j c g1 g2 g3=>?_⟩⟩
       ·exact hW
       ·obtain ⟨c,y,g1,g2,g3,_⟩:=hcs (len - 1) (by omega)
        have:=g3 (P.cellsOf e - 1) _ (List.getElem?_eq_getElem (by omega))
        have hb:=(Array.getElem?_eq_some_iff.1 this).1
        have e1:rs.length*P.cellsOf e=(len - 1)*P.cellsOf e+P.cellsOf e:=by rw [hrl,← Nat.succ_mul];congr 1;omega
        show o+rs.length*P.cellsOf e≤carr.size
        omega
       ·obtain ⟨c,g1,g2,g3,_⟩:=a5 i row hr
        refine ⟨g3,fun j v hv=>?_⟩
        have hlt:=(List.getElem?_eq_some_iff.1 hr).1
        obtain ⟨c',y,k1,k2,k3,_⟩:=hcs i (by omega)
        rw [g1] at k1;injection k1 with k1;subst k1
        obtain ⟨z,z1,z2⟩:=g2.get j v hv
        exact ⟨z,k3 j z z1,z2⟩
       ·obtain ⟨q,hq⟩:∃ q,j=o+q:=⟨j - o,by simp only at g1;omega⟩
        have hq2:q<rs.length*P.cellsOf e:=by simp only at g2;omega
        have hdiv:q / P.cellsOf e<rs.length:=(Nat.div_lt_iff_lt_mul hR).2 hq2
        have hmod:q % P.cellsOf e<P.cellsOf e:=Nat.mod_lt _ hR
        have hqq:q=q / P.cellsOf e*P.cellsOf e+q % P.cellsOf e:=by rw [Nat.mul_comm];exact (Nat.div_add_mod q _).symm
        obtain ⟨c0,k1,k2,k3,k4⟩:=a5 (q / P.cellsOf e) _ (List.getElem?_eq_getElem hdiv)
        obtain ⟨c',y,l1,l2,l3,_⟩:=hcs (q / P.cellsOf e) (by omega)
        rw [k1] at l1;injection l1 with l1;subst l1
        have hz:=l3 (q % P.cellsOf e) _ (List.getElem?_eq_getElem (by omega))
        rw [← hqq,← hq,g3] at hz
        injection hz with hz
        rw [hz]
        exact one_of_firms k2 (TV.firm _ _ _ k4) _ (List.getElem_mem _)
      have hi2:=a3.lay (.rows (P.cellsOf e) el true rs) ⟨r,o,P.cellsOf e,rs.length,rs.length⟩ hlt hbr (.inr ⟨_,_,_,rfl⟩)
      refine ⟨_,_,[.sl (P.cellsOf e) (some (h1.length,0)) rs.length (some cap)],a1.trans (Rho.set_le a3.rel.fresh),a2.trans ⟨_,rfl⟩,hi2,VRs.cons ?_ VRs.nil,?_⟩
      ·simp only [VR];exact ⟨_,⟨r,o,none⟩,cap,Rho.set_same _ _ _,rfl,by rw [hrl],.inr (by simp),by omega,fun y hy=>by injection hy,fun hc=>by cases hc⟩
      ·simp only [TV,hu]
       refine ⟨_,_,rs,rfl,⟨by omega,fun k hk=>by injection hk with hk;omega⟩,fun row hr=>?_,.inr ⟨_,rfl,by simp [Heap.rows?]⟩⟩
       obtain ⟨i,hi'⟩:=List.mem_iff_getElem?.1 hr
       obtain ⟨c,_,_,g3,g4⟩:=a5 i row hi'
       exact ⟨g3,TV.mono ⟨_,rfl⟩ _ _ _ g4⟩
  ·rename_i fs hu
   obtain ⟨xs,m,rfl,_,hl,hxl,hf⟩:=DataW.trod_struct hu hx
   rw [← hl] at hin
   obtain ⟨ρ',h',ys,b1,b2,b3,b4,b5,_⟩:=lays_fields (P:=P) (W:=W) (n:=n) (cs:=cs) fs.toList 0 hin (fun f hfm hft=>by
    obtain ⟨i,hi'⟩:=List.mem_iff_getElem?.1 hfm
    have hi2:fs[i]?=some f:=by simpa using hi'
    have h1:=hf i f hi2
    have hlt:i<xs.length:=by have:=(Array.getElem?_eq_some_iff.1 hi2).1;omega
    rw [List.getElem?_eq_getElem hlt] at h1
    exact ih f.type hft m _ _ h1 fun a l c hm=>hpos a l c (List.mem_of_mem_drop (List.mem_of_mem_take hm))) ρ h hi
   exact ⟨ρ',h',ys,b1,b2,b3,by simpa using b4,by simp only [TV,hu];exact b5⟩
  ·cases hin
end
end Go.Proofs.YthdfojchihooeaaGreat.T
/- A law's call: its arguments laid,its answer and what it leaves as it was. -/
namespace Go.Proofs.YthdfojchihooeaaGreat.T
open Go Go.RowKit
section
variable {P:Program}{W:World}{H:Type}{enc:TypeId×Value→H}
theorem pos_of_has {r:Reach}{base:Nat}{a:Addr}{e:TypeId}{n:Nat} (h:W.has P r base a e n):0<W.heap.size:=by
 obtain ⟨_,_,row,cells,hs,_⟩:=h
 unfold World.shape? at hs
 apply Nat.lt_of_not_le
 intro hle
 rw [Array.getElem?_eq_none (by omega)] at hs
 cases hs
theorem pos_of_cell {r:Reach}{base:Nat}{u:TypeId}{a:Addr}{l c:Nat} (h:Cell.okWide P W r base u (.slice (some a) l c)):0<W.heap.size:=by
 have h2:Cell.ok P W r base u (.slice (some a) l c):=by
  unfold Cell.okWide at h
  split at h<;>simp_all
 unfold Cell.ok at h2
 split at h2<;>simp_all
 exact pos_of_has h2.2.2
theorem pos_of_value {r:Reach}{base:Nat}{t:TypeId}{v:Value} (h:Value.okWide P W r base t v) {a:Addr}{l c:Nat} (hm:Value.slice (some a) l c∈v.cells.toList):0<W.heap.size:=by
 have row:∀ cs:Array Value,Row.okWide P W r base t cs→v = .agg cs→0<W.heap.size:=fun cs hr hv=>by
  subst hv
  obtain ⟨ts,_,_,h3⟩:=hr
  simp [Value.cells] at hm
  obtain ⟨i,hi⟩:=Array.mem_iff_getElem?.1 hm
  obtain ⟨u,_,hu⟩:=h3 i _ hi
  exact pos_of_cell hu
 unfold Value.okWide at h
 split at h
 ·obtain ⟨cs,hv,_,hr⟩:=h;exact row cs hr hv
 ·obtain ⟨cs,hv,_,hr⟩:=h;exact row cs hr hv
 ·cases v<;>simp [Value.cells] at hm
  ·obtain ⟨rfl,rfl,rfl⟩:=hm
   exact pos_of_cell h
  ·exfalso
   unfold Cell.okWide Cell.ok at h
   split at h<;>(try split at h)<;>simp_all
def ArgV (P:Program) (h:Heap) (n:Nat) (t:TypeId) (x:V):Prop:=match P.underlying t with
 | some (.struct _)=>∃ xs,x = .agg xs∧TV P h n t xs
 | _=>TV P h n t [x]
theorem ArgV.mono {h h':Heap} (hp:h <+: h') {n:Nat}{t:TypeId}{x:V} (hx:ArgV P h n t x):ArgV P h' n t x:=by
 unfold ArgV at *
 split at hx
 ·obtain ⟨xs,h1,h2⟩:=hx;exact ⟨xs,h1,TV.mono hp _ _ _ h2⟩
 ·exact TV.mono hp _ _ _ hx
theorem lays_arg {n:Nat}{t:TypeId}{v:Value}{d:DataW H}{p:List MemPlace}{r:Reach}{base:Nat} (hin:inTy P n t=true) (hok:Value.okWide P W r base t v)
  (h0:DataW.Trod enc P W 0 (fun _=>true) true t v d p) {ρ:Rho}{h:Heap} (hi:Imp W ρ h):∃ (ρ':Rho) (h':Heap) (x:V),Rle ρ ρ'∧h <+: h'∧Imp W ρ' h'∧VR ρ' x v∧ArgV P h' n t x:=by
 obtain ⟨fuel,hf⟩:=h0
 obtain ⟨ρ',h',xs,a1,a2,a3,a4,a5⟩:=lays n t hin fuel _ _ hf (fun a l c hm=>pos_of_value hok hm) ρ h hi
 unfold Value.okWide at hok
 cases hu:P.underlying t with
 | none =>
  cases n with
  | zero=>simp [inTy] at hin
  | succ n=>simp [inTy,hu] at hin
 | some td =>
  have one:(∀ fs,td ≠ .struct fs)→∃ x,xs = [x]∧VR ρ' x v:=fun hns=>by
   cases n with
   | zero=>simp [inTy] at hin
   | succ n =>
    simp only [TV,hu] at a5
    have hl:=a4.length
    have hx:∃ x,xs = [x]:=by
     cases td<;>simp only at a5<;>(try exact a5.elim)
     ·obtain ⟨b,rfl⟩:=a5;exact ⟨_,rfl⟩
     ·obtain ⟨i,rfl,_⟩:=a5;exact ⟨_,rfl⟩
     ·obtain ⟨s,rfl,_⟩:=a5;exact ⟨_,rfl⟩
     ·obtain ⟨a,c,rs,rfl,_⟩:=a5;exact ⟨_,rfl⟩
     ·exact absurd rfl (hns _)
    obtain ⟨x,rfl⟩:=hx
    refine ⟨x,rfl,?_⟩
    have hns':∀ cs,v ≠ .agg cs:=fun cs hv=>by
     subst hv
     rw [hu] at hok
     cases td<;>simp only [inTy,hu] at hin<;>(try cases hin)<;>simp [Cell.okWide,Cell.ok,hu] at hok
     exact absurd rfl (hns _)
    have hc:v.cells.toList = [v]:=by
     cases v<;>(try rfl)
     ·exact absurd rfl (hns' _)
    rw [hc] at a4
    exact a4.uncons.1
  by_cases hs:∃ fs,td = .struct fs
  ·obtain ⟨fs,rfl⟩:=hs
   rw [hu] at hok
   obtain ⟨cs,rfl,_⟩:=hok
   refine ⟨ρ',h',.agg xs,a1,a2,a3,?_,?_⟩
   ·simp only [VR];exact ⟨cs,rfl,by simpa [Value.cells] using a4⟩
   ·simp only [ArgV,hu];exact ⟨xs,rfl,a5⟩
  ·obtain ⟨x,rfl,hx⟩:=one fun fs e=>hs ⟨fs,e⟩
   refine ⟨ρ',h',x,a1,a2,a3,hx,?_⟩
   unfold ArgV
   rw [hu]
   split
   ·rename_i fs' he;injection he with he;exact absurd ⟨_,he⟩ hs
   ·exact a5
theorem imp_nil (W:World):Imp W (fun _=>none) [] :=
 ⟨⟨fun b e h=>(by cases h),fun b e k h=>(by cases h),fun b b' e e' h=>(by cases h)⟩,fun b hb=>by simp at hb⟩
theorem law_walk {call:CallT} (hS:SC P call) {f:FuncId}{args:List V}{h h':Heap}{ρ:Rho} (hk:call h.length f args h=some (.bool true,h')) {cargs:Array Value} (hv:VRs ρ args cargs.toList) (hi:Imp W ρ h) :
  Calls P f cargs W fun e w'=>e = .returned (.bool true)∧Below W.heap.size W w':=by
 refine Calls.mono (hS.calls hk (Nat.le_refl _) hv hi.rel) ?_
 rintro e w' ⟨c,rfl,ρ',h1,h2,h3⟩
 simp only [VR] at h1;subst h1
 exact ⟨rfl,⟨h3.os,h3.tape,h3.output,h3.size,fun k hk=>h3.frame k hk fun b e hb hle=>by
  have:=(hi.rel.dom b e hb).1
  omega⟩⟩
end
end Go.Proofs.YthdfojchihooeaaGreat.T
namespace Go.Proofs.YthdfojchihooeaaGreat
open Go T


structure Ver where
 key:Int
 tag:Tag
 past:List Tag
 text:ByteArray
 gone:Bool
structure Node where
 store:List Ver
 wait:List Ver
structure Place where
 me:Int
 clock:Int
 chain:List Node
 log:List Ver
 got:List (List Ver)
 fell:Bool
structure Frame where
 fro:Int
 to:Int
 at':Int
 ver:Ver
abbrev eTag (ro:Bool):Nat:=bif ro then 192 else 60
abbrev eVer (ro:Bool):Nat:=bif ro then 197 else 65
abbrev eVers (ro:Bool):Nat:=bif ro then 184 else 72
abbrev eNode (ro:Bool):Nat:=bif ro then 330 else 76
abbrev Ver.cs (v:Ver) (a:Option (Nat×Nat)) (c:Option Nat):List V := [.int .i64 v.key,.int .i64 v.tag.time,.int .i64 v.tag.place,.sl 2 a v.past.length c,.str v.text,.bool v.gone]
abbrev RTags (ro:Bool):Rel (List Tag):=Sli ro 2 (eTag ro) (flat Tag.cs)
def RVer (ro:Bool):Rel Ver:=fun h cs v F=>∃ s,cs = [.int .i64 v.key,.int .i64 v.tag.time,.int .i64 v.tag.place,s,.str v.text,.bool v.gone]∧RTags ro h [s] v.past F
abbrev RVers (ro:Bool):Rel (List Ver):=Sli ro 6 (eVer ro) (RVer ro)
abbrev RVss (ro:Bool):Rel (List (List Ver)):=Sli ro 1 (eVers ro) (RVers ro)
def RNode (ro:Bool):Rel Node:=fun h cs x F=>∃ s1 s2 F1 F2,cs = [s1,s2]∧F=F1++F2∧RVers ro h [s1] x.store F1∧RVers ro h [s2] x.wait F2
abbrev RNodes (ro:Bool):Rel (List Node):=Sli ro 2 (eNode ro) (RNode ro)
def RPlace (ro:Bool):Rel Place:=fun h cs p F=>∃ s1 s2 s3 F1 F2 F3,cs = [.int .i64 p.me,.int .i64 p.clock,s1,s2,s3,.bool p.fell]∧F=F1++(F2++F3)∧RNodes ro h [s1] p.chain F1∧RVers ro h [s2] p.log F2∧RVss ro h [s3] p.got F3
def RFrame (ro:Bool):Rel Frame:=fun h cs f F=>∃ vs,cs = .int .i64 f.fro :: .int .i64 f.to :: .int .i64 f.at' :: vs∧RVer ro h vs f.ver F
theorem rtags_ok {ro:Bool}:(RTags ro).Ok:=Sli.ok flat_ok
theorem rver_ok {ro:Bool}:(RVer ro).Ok :=
 ⟨fun h h' cs x F ⟨s,h1,h2⟩ hb=>⟨s,h1,rtags_ok.fr _ _ _ _ _ h2 hb⟩,fun h cs x F ⟨s,_,h2⟩=>rtags_ok.bd _ _ _ _ h2⟩
theorem rvers_ok {ro:Bool}:(RVers ro).Ok:=Sli.ok rver_ok
theorem rnode_ok {ro:Bool}:(RNode ro).Ok:=by
 refine ⟨?_,?_⟩
 ·rintro h h' cs x F ⟨s1,s2,F1,F2,h1,rfl,h2,h3⟩ hb
  exact ⟨s1,s2,F1,F2,h1,rfl,rvers_ok.fr _ _ _ _ _ h2 fun b hm=>hb b (by simp [hm]),rvers_ok.fr _ _ _ _ _ h3 fun b hm=>hb b (by simp [hm])⟩
 ·rintro h cs x F ⟨s1,s2,F1,F2,h1,rfl,h2,h3⟩ b hb
  rw [List.mem_append] at hb
  exact hb.elim (rvers_ok.bd _ _ _ _ h2 b) (rvers_ok.bd _ _ _ _ h3 b)
theorem rnodes_ok {ro:Bool}:(RNodes ro).Ok:=Sli.ok rnode_ok
section
variable {ro:Bool}{h:Heap}{F:List Nat}{a:Option (Nat×Nat)}{c:Option Nat}{n k:Nat}
theorem RTags.get {l:List Tag} (hs:RTags ro h [.sl 2 a n c] l F) (hk:k<l.length):∃ o,a=some o∧ld h o.1 (o.2+k) 0 2=some [.int .i64 l[k].time,.int .i64 l[k].place]:=by
 obtain ⟨o,row,G,h1,h2,⟨rfl,_⟩,_⟩:=hs.read hk
 exact ⟨o,h1,by rw [h2];rfl⟩
theorem RVer.form {row:List V}{v:Ver} (hv:RVer ro h row v F):∃ s a c,row = [.int .i64 v.key,.int .i64 v.tag.time,.int .i64 v.tag.place,s,.str v.text,.bool v.gone] ∧
  (∀ {R':Type} (K:Option (Nat×Nat)→Nat→Option Nat→Option R'),eS 2 s K=K a v.past.length c)∧RTags ro h [.sl 2 a v.past.length c] v.past F:=by
 obtain ⟨s,rfl,hp⟩:=hv
 obtain ⟨a,c,es,hp2⟩:=hp.form
 exact ⟨s,a,c,rfl,es,hp2⟩
theorem RVers.get {l:List Ver} (hs:RVers ro h [.sl 6 a n c] l F) (hk:k<l.length):∃ o s a' c' G,a=some o ∧
  ld h o.1 (o.2+k) 0 6=some [.int .i64 l[k].key,.int .i64 l[k].tag.time,.int .i64 l[k].tag.place,s,.str l[k].text,.bool l[k].gone] ∧
  (∀ {R':Type} (K:Option (Nat×Nat)→Nat→Option Nat→Option R'),eS 2 s K=K a' l[k].past.length c')∧RTags ro h [.sl 2 a' l[k].past.length c'] l[k].past G∧(∀ b∈G,b∈F):=by
 obtain ⟨o,row,G,h1,h2,hv,hG,_⟩:=hs.read hk
 obtain ⟨s,a',c',rfl,es,hp⟩:=hv.form
 exact ⟨o,s,a',c',G,h1,by rw [h2];rfl,es,hp,hG⟩
theorem RVss.get {l:List (List Ver)} (hs:RVss ro h [.sl 1 a n c] l F) (hk:k<l.length):∃ o s a' c' G,a=some o∧ld h o.1 (o.2+k) 0 1=some [s] ∧
  (∀ {R':Type} (K:Option (Nat×Nat)→Nat→Option Nat→Option R'),eS 6 s K=K a' l[k].length c')∧RVers ro h [.sl 6 a' l[k].length c'] l[k] G∧(∀ b∈G,b∈F):=by
 obtain ⟨o,row,G,h1,h2,hv,hG,_⟩:=hs.read hk
 have:∃ s,row = [s]:=by obtain ⟨R',a',c',e,_⟩:=hv;exact ⟨_,e⟩
 obtain ⟨s,rfl⟩:=this
 obtain ⟨a',c',es,hp⟩:=hv.form
 exact ⟨o,s,a',c',G,h1,by rw [h2];rfl,es,hp,hG⟩
theorem RNode.form {row:List V}{x:Node} (hv:RNode ro h row x F):∃ s1 s2 a1 c1 a2 c2 F1 F2,row = [s1,s2]∧F=F1++F2 ∧
  (∀ {R':Type} (K:Option (Nat×Nat)→Nat→Option Nat→Option R'),eS 6 s1 K=K a1 x.store.length c1)∧(∀ {R':Type} (K:Option (Nat×Nat)→Nat→Option Nat→Option R'),eS 6 s2 K=K a2 x.wait.length c2) ∧
  RVers ro h [.sl 6 a1 x.store.length c1] x.store F1∧RVers ro h [.sl 6 a2 x.wait.length c2] x.wait F2:=by
 obtain ⟨s1,s2,F1,F2,rfl,rfl,h1,h2⟩:=hv
 obtain ⟨a1,c1,e1,g1⟩:=h1.form
 obtain ⟨a2,c2,e2,g2⟩:=h2.form
 exact ⟨s1,s2,a1,c1,a2,c2,F1,F2,rfl,rfl,e1,e2,g1,g2⟩
theorem RNodes.get {l:List Node} (hs:RNodes ro h [.sl 2 a n c] l F) (hk:k<l.length):∃ o s1 s2 a1 c1 a2 c2 F1 F2,a=some o∧ld h o.1 (o.2+k) 0 2=some [s1,s2]∧ld h o.1 (o.2+k) 0 1=some [s1]∧ld h o.1 (o.2+k) 1 1=some [s2] ∧
  (∀ {R':Type} (K:Option (Nat×Nat)→Nat→Option Nat→Option R'),eS 6 s1 K=K a1 l[k].store.length c1)∧(∀ {R':Type} (K:Option (Nat×Nat)→Nat→Option Nat→Option R'),eS 6 s2 K=K a2 l[k].wait.length c2) ∧
  RVers ro h [.sl 6 a1 l[k].store.length c1] l[k].store F1∧RVers ro h [.sl 6 a2 l[k].wait.length c2] l[k].wait F2∧(∀ b∈F1,b∈F)∧(∀ b∈F2,b∈F):=by
 obtain ⟨o,row,G,h1,h2,hv,hG,_⟩:=hs.read hk
 obtain ⟨s1,s2,a1,c1,a2,c2,F1,F2,rfl,rfl,e1,e2,g1,g2⟩:=hv.form
 exact ⟨o,s1,s2,a1,c1,a2,c2,F1,F2,h1,by rw [h2];rfl,by rw [h2];rfl,by rw [h2];rfl,e1,e2,g1,g2,fun b hb=>hG b (List.mem_append_left _ hb),fun b hb=>hG b (List.mem_append_right _ hb)⟩
theorem RPlace.form {row:List V}{p:Place} (hv:RPlace ro h row p F):∃ s1 s2 s3 a1 c1 a2 c2 a3 c3 F1 F2 F3,row = [.int .i64 p.me,.int .i64 p.clock,s1,s2,s3,.bool p.fell]∧F=F1++(F2++F3) ∧
  (∀ {R':Type} (K:Option (Nat×Nat)→Nat→Option Nat→Option R'),eS 2 s1 K=K a1 p.chain.length c1)∧(∀ {R':Type} (K:Option (Nat×Nat)→Nat→Option Nat→Option R'),eS 6 s2 K=K a2 p.log.length c2) ∧
  (∀ {R':Type} (K:Option (Nat×Nat)→Nat→Option Nat→Option R'),eS 1 s3 K=K a3 p.got.length c3) ∧
  RNodes ro h [.sl 2 a1 p.chain.length c1] p.chain F1∧RVers ro h [.sl 6 a2 p.log.length c2] p.log F2∧RVss ro h [.sl 1 a3 p.got.length c3] p.got F3:=by
 obtain ⟨s1,s2,s3,F1,F2,F3,rfl,rfl,h1,h2,h3⟩:=hv
 obtain ⟨a1,c1,e1,g1⟩:=h1.form
 obtain ⟨a2,c2,e2,g2⟩:=h2.form
 obtain ⟨a3,c3,e3,g3⟩:=h3.form
 exact ⟨s1,s2,s3,a1,c1,a2,c2,a3,c3,F1,F2,F3,rfl,rfl,e1,e2,e3,g1,g2,g3⟩
end
theorem all_loop {α T:Type}{p:α→Bool}{l:List α} (L:Nat→Option T) (no yes:Option T)
  (step:∀ i (hi:i<l.length),L i=if p l[i]=true then L (i+1) else no) (done:L l.length=yes):L 0=if l.all p=true then yes else no:=by
 have loop:∀ m i,m+i=l.length→L i=if (l.drop i).all p=true then yes else no:=by
  intro m
  induction m with
  | zero =>
   intro i hi
   have:i=l.length:=by omega
   subst this
   rw [done,List.drop_length];simp
  | succ m ih =>
   intro i hi
   have hlt:i<l.length:=by omega
   rw [step i hlt,List.drop_eq_getElem_cons hlt,List.all_cons]
   cases hp:p l[i]
   ·simp
   ·simpa using ih (i+1) (by omega)
 exact loop l.length 0 (by omega)
end Go.Proofs.YthdfojchihooeaaGreat
namespace Go.Proofs.YthdfojchihooeaaGreat
open Go T


section
variable {lo:Nat}{ro:Bool}{h:Heap}{F:List Nat}{a:Option (Nat×Nat)}{c:Option Nat}{left:Int}
end
def smVers (l:List Ver):Prop:=l.length≤1048576∧∀ v∈l,v.past.length≤1048576∧v.text.size≤1048576
def smNodes (l:List Node):Prop:=l.length≤1048576∧∀ x∈l,smVers x.store∧smVers x.wait
section
variable {lo:Nat}{ro:Bool}{h:Heap}{F:List Nat}{a:Option (Nat×Nat)}{c:Option Nat}
abbrev Place.cs (p:Place) (a1:Option (Nat×Nat)) (c1:Option Nat) (a2:Option (Nat×Nat)) (c2:Option Nat) (a3:Option (Nat×Nat)) (c3:Option Nat):List V :=
 [.int .i64 p.me,.int .i64 p.clock,.sl 2 a1 p.chain.length c1,.sl 6 a2 p.log.length c2,.sl 1 a3 p.got.length c3,.bool p.fell]
end
end Go.Proofs.YthdfojchihooeaaGreat
namespace Go.Proofs.YthdfojchihooeaaGreat
open Go T


theorem go_loop {T:Type}{n:Nat} (L:Nat→Option T) (step:∀ i,i<n→L i=L (i+1)):L 0=L n:=by
 have loop:∀ i,i≤n→L 0=L i:=by
  intro i
  induction i with
  | zero=>intro _;rfl
  | succ i ih=>intro hi;rw [ih (by omega),step i (by omega)]
 exact loop n (Nat.le_refl n)
section
variable {lo:Nat}{ro ro':Bool}{h:Heap}{F F':List Nat}{a a':Option (Nat×Nat)}{c c':Option Nat}
theorem beqI (x:Int):(x==x)=true:=by simp
theorem beqB (x:Bool):(x==x)=true:=by simp
theorem beqL (x:List UInt8):(x==x)=true:=by simp
abbrev Frame.cs (f:Frame) (a:Option (Nat×Nat)) (c:Option Nat):List V := .int .i64 f.fro :: .int .i64 f.to :: .int .i64 f.at' :: f.ver.cs a c
end
def marks {α:Type} (f:Int→α→α) (w:α→Nat):List α→Int→List α
 | [],_ => []
 | x :: r,k=>f k x :: marks f w r (k+w x)
def mkN {α:Type} (w:α→Nat) (l:List α):Nat:=(l.map w).sum
end Go.Proofs.YthdfojchihooeaaGreat
namespace Go.Proofs.YthdfojchihooeaaGreat
open Go T


abbrev big:Int:=1099511627776
abbrev wTag (_:Tag):Nat:=2
def wVer (v:Ver):Nat:=5+mkN wTag v.past
def wVers (l:List Ver):Nat:=mkN wVer l
def wNode (x:Node):Nat:=wVers x.store+wVers x.wait
section
variable {lo:Nat}{h:Heap}{F:List Nat}{a:Option (Nat×Nat)}{c:Option Nat}{k:Int}
def wNodes (l:List Node):Nat:=mkN wNode l
end
end Go.Proofs.YthdfojchihooeaaGreat
namespace Go.Proofs.YthdfojchihooeaaGreat
open Go T


section
variable {lo:Nat}{h:Heap}{F:List Nat}{a:Option (Nat×Nat)}{c:Option Nat}{k:Int}
theorem RPlace.cells {ro:Bool}{p:Place}{a1 a2 a3:Option (Nat×Nat)}{c1 c2 c3:Option Nat} (h1:RPlace ro h (p.cs a1 c1 a2 c2 a3 c3) p F) :
  ∃ F1 F2 F3,F=F1++(F2++F3)∧RNodes ro h [.sl 2 a1 p.chain.length c1] p.chain F1∧RVers ro h [.sl 6 a2 p.log.length c2] p.log F2∧RVss ro h [.sl 1 a3 p.got.length c3] p.got F3:=by
 obtain ⟨_,_,_,F1,F2,F3,e1,rfl,r1,r2,r3⟩:=h1
 injection e1 with _ e1;injection e1 with _ e1;injection e1 with x1 e1;injection e1 with x2 e1;injection e1 with x3 e1
 subst x1;subst x2;subst x3
 exact ⟨F1,F2,F3,rfl,r1,r2,r3⟩
end
end Go.Proofs.YthdfojchihooeaaGreat
namespace Go.Proofs.YthdfojchihooeaaGreat
open Go T


def byteOk (b:UInt8):Bool:=within b.toNat 33 126
def textOk (s:ByteArray):Bool:=s.data.toList.all byteOk&&decide ((s.size:Int)≤8)
def pastOk (p:List Tag):Bool:=decide (p.length=4)&&p.all fun t=>tagOk t.time t.place
def under (p q:List Tag):Bool:=(p.zip q).all fun x => !less x.2.time x.2.place x.1.time x.1.place
def latest (p:List Tag):Int:=p.foldl (fun m t=>if t.time>m then t.time else m) 0
def noText (s:ByteArray):Bool:=decide (s.size=0)
def written (v:Ver):Bool:=within v.key 0 3&&textOk v.text&&(!v.gone || noText v.text)&&pastOk v.past
def verOk (v:Ver):Bool:=written v&&tagOk v.tag.time v.tag.place&&decide (latest v.past<v.tag.time)
section
variable {lo:Nat}{ro ro':Bool}{h:Heap}{F F':List Nat}{a a':Option (Nat×Nat)}{c c':Option Nat}
theorem strAt_nat {s:ByteArray}{i:Nat} (hi:i<s.data.toList.length):strAt s (i:Nat)=some (s.data.toList[i]):=by
 unfold strAt
 have:i<s.size:=by simpa using hi
 simp [this]
 rfl
theorem spec_l2TextOk {s:ByteArray} (hn:s.size≤1048576):evl lo 160 [.str s] h=some (.bool (textOk s),h):=by
 refine E_spec_l2TextOk (h':=h) ?_
 have hl:s.data.toList.length=s.size:=by simp
 refine (all_loop (p:=byteOk) (l:=s.data.toList) (fun i=>L_spec_l2TextOk_0 (List.length h) s false (i:Nat) h) (some (.bool false,h)) (some (.bool (decide ((s.size:Int)≤8)),h)) (fun i hi=>?_) ?_).trans ?_
 ·rw [L_spec_l2TextOk_0.e,br_pos (by omega)]
  simp only [strAt_nat hi,eO_s,wr_succ (show i<9223372036854775807 by omega)]
  unfold byteOk within
  generalize s.data.toList[i]=b
  by_cases h1:(b.toNat:Int)<33
  ·rw [br_pos h1,if_neg (by simp;omega)]
  ·rw [br_neg h1]
   by_cases h2:(b.toNat:Int)>126
   ·rw [br_pos h2,if_neg (by simp;omega)]
   ·rw [br_neg h2,if_pos (by simp;omega)]
 ·rw [L_spec_l2TextOk_0.e,br_neg (by omega)]
  by_cases h3:(s.size:Int)≤8
  ·rw [br_pos h3,decide_eq_true h3]
  ·rw [br_neg h3,decide_eq_false h3]
 ·unfold textOk
  cases s.data.toList.all byteOk<;>simp
theorem impl_textOk {s:ByteArray} (hn:s.size≤1048576):evl lo 318 [.str s] h=some (.bool (textOk s),h):=by
 refine E_impl_textOk (h':=h) ?_
 have hl:s.data.toList.length=s.size:=by simp
 refine (all_loop (p:=byteOk) (l:=s.data.toList) (fun i=>L_impl_textOk_0 (List.length h) s false (s.size:Nat) (i:Nat) h) (some (.bool false,h)) (some (.bool (decide ((s.size:Int)≤8)),h)) (fun i hi=>?_) ?_).trans ?_
 ·have hb:s.data.toList[i].toNat<256:=s.data.toList[i].toNat_lt
  rw [L_impl_textOk_0.e,br_pos (by omega)]
  simp only [strAt_nat hi,eO_s,wr_succ (show i<9223372036854775807 by omega),impl_within,cal_s,eB_b]
  rw [wr (by omega) (by omega)]
  unfold byteOk
  cases within (s.data.toList[i].toNat:Int) 33 126<;>simp
 ·rw [L_impl_textOk_0.e,br_neg (by omega)]
  by_cases h3:(s.size:Int)≤8
  ·rw [br_pos h3,decide_eq_true h3]
  ·rw [br_neg h3,decide_eq_false h3]
 ·unfold textOk
  cases s.data.toList.all byteOk<;>simp
theorem spec_l1PastOk {l:List Tag} (hs:RTags ro h [.sl 2 a l.length c] l F) (hn:l.length≤1048576):evl lo 161 [.agg [.sl 2 a l.length c]] h=some (.bool (pastOk l),h):=by
 refine E_spec_l1PastOk (h':=h) ?_
 refine (all_loop (p:=fun t:Tag=>tagOk t.time t.place) (l:=l) (fun i=>L_spec_l1PastOk_0 (List.length h) false (i:Nat) a l.length c h) (some (.bool false,h)) (some (.bool (decide (l.length=4)),h)) (fun i hi=>?_) ?_).trans ?_
 ·obtain ⟨o,rfl,ho⟩:=hs.get hi
  rw [L_spec_l1PastOk_0.e,br_pos (by omega),inB_nat hi]
  simp only [eO_s,Int.toNat_natCast,ho,eC_c,eI_int,eN_n,spec_l1TagOk,cal_s,eB_b,wr_succ (show i<9223372036854775807 by omega)]
  cases tagOk l[i].time l[i].place<;>simp
 ·rw [L_spec_l1PastOk_0.e,br_neg (by omega)]
  by_cases h3:l.length=4
  ·rw [h3];rfl
  ·rw [show ((l.length:Int)==4)=false by simp;omega,br_f,decide_eq_false h3]
 ·unfold pastOk
  cases l.all (fun t:Tag=>tagOk t.time t.place)<;>simp
theorem IndexFunc_Tag {l:List Tag}{g:Nat}{cl:List V}{p:Tag→Bool} (hs:RTags ro h [.sl 2 a l.length c] l F) (hn:l.length≤1048576)
  (hp:∀ lo d,d∈l→evl lo g (fnArgs [.agg [.int .i64 d.time,.int .i64 d.place]] cl) h=some (.bool (p d),h)) :
  evl lo 319 [.sl 2 a l.length c,.fn g cl] h=some (.int .i64 (firstAt p l 0),h):=by
 have loop:∀ m k x,m+k=l.length→L_slices_IndexFunc_impl_Tag_impl_Tag_0 (List.length h) a l.length c g cl x (l.length:Nat) (k:Nat) h=some (.int .i64 (firstAt p (l.drop k) k),h):=by
  intro m
  induction m with
  | zero =>
   intro k x hk
   rw [L_slices_IndexFunc_impl_Tag_impl_Tag_0.e,br_neg (by omega),show k=l.length by omega]
   simp [firstAt]
  | succ m ih =>
   intro k x hk
   have hlt:k<l.length:=by omega
   obtain ⟨o,rfl,ho⟩:=hs.get hlt
   rw [L_slices_IndexFunc_impl_Tag_impl_Tag_0.e,br_pos (by omega),inB_nat (by omega)]
   simp only [eO_s,Int.toNat_natCast,ho,eC_c,eI_int,eN_n]
   rw [hp (List.length h) l[k] (by simp),cal_s,eB_b,List.drop_eq_getElem_cons hlt]
   simp only [firstAt]
   cases p l[k]
   ·simp only [br_f,cond_false];rw [wr_succ (by omega)];exact ih (k+1) _ (by omega)
   ·simp
 refine E_slices_IndexFunc_impl_Tag_impl_Tag (h':=h) ?_
 simpa using loop l.length 0 0 (by omega)
theorem impl_PastOk {l:List Tag} (hs:RTags ro h [.sl 2 a l.length c] l F) (hn:l.length≤1048576):evl lo 125 [.agg [.sl 2 a l.length c]] h=some (.bool (pastOk l),h):=by
 refine E_impl_PastOk (h':=h) ?_
 rw [E_slices_ContainsFunc_impl_Tag_impl_Tag (h':=h) (v := .bool (l.any fun t => !tagOk t.time t.place)) (by
  rw [IndexFunc_Tag hs hn (p:=fun t => !tagOk t.time t.place) (fun lo d _=>E_impl_PastOk_1 (h':=h) (by rw [impl_TagOk];simp only [cal_s,eB_b];cases tagOk d.time d.place<;>rfl))]
  simp only [cal_s,eI_int,br_bool];rw [firstAt_pos];simp)]
 unfold pastOk
 by_cases h3:l.length=4
 ·rw [show ((l.length:Int)==4)=true by simp;omega,br_t,decide_eq_true h3]
  simp only [cal_s,eB_b]
  rw [List.any_eq_not_all_not]
  simp only [Bool.not_not,Bool.true_and]
  cases l.all (fun t:Tag=>tagOk t.time t.place)<;>rfl
 ·rw [show ((l.length:Int)==4)=false by simp;omega,br_f,decide_eq_false h3];rfl
theorem impl_latest {l:List Tag} (hs:RTags ro h [.sl 2 a l.length c] l F) (hn:l.length≤1048576):evl lo 237 [.agg [.sl 2 a l.length c]] h=some (.int .i64 (latest l),h):=by
 have loop:∀ m k x,m+k=l.length→L_impl_Past_latest_0 (List.length h) x a l.length c (l.length:Nat) (k:Nat) h=some (.int .i64 ((l.drop k).foldl (fun m t=>if t.time>m then t.time else m) x),h):=by
  intro m
  induction m with
  | zero =>
   intro k x hk
   rw [L_impl_Past_latest_0.e,br_neg (by omega),show k=l.length by omega]
   simp
  | succ m ih =>
   intro k x hk
   have hlt:k<l.length:=by omega
   obtain ⟨o,rfl,ho⟩:=hs.get hlt
   rw [L_impl_Past_latest_0.e,br_pos (by omega),inB_nat (by omega)]
   simp only [eO_s,Int.toNat_natCast,ho,eC_c,eI_int,eN_n,wr_succ (show k<9223372036854775807 by omega)]
   rw [ih (k+1) _ (by omega),List.drop_eq_getElem_cons hlt,List.foldl_cons]
 refine E_impl_Past_latest (h':=h) ?_
 exact loop l.length 0 0 (by omega)
theorem toList_nil {s:ByteArray}:(s.toList==(ByteArray.mk #[]).toList)=noText s:=by
 unfold noText
 rw [Bool.eq_iff_iff]
 rw [ByteArray.toList_eq,ByteArray.toList_eq]
 simp only [beq_iff_eq,decide_eq_true_eq]
 constructor
 ·intro h
  have:=congrArg List.length h
  simpa using this
 ·intro h
  exact List.eq_nil_of_length_eq_zero (by simpa using h)
theorem impl_written {v:Ver} (hs:RTags ro h [.sl 2 a v.past.length c] v.past F) (hn:v.past.length≤1048576∧v.text.size≤1048576):evl lo 235 [.agg (v.cs a c)] h=some (.bool (written v),h):=by
 refine E_impl_Ver_written (h':=h) ?_
 simp only [impl_keyOk,impl_textOk hn.2,impl_PastOk hs hn.1,toList_nil,cal_s,eB_b]
 unfold written
 cases within v.key 0 3<;>cases textOk v.text<;>cases v.gone<;>cases noText v.text<;>cases pastOk v.past<;>rfl
theorem impl_VerOk {v:Ver} (hs:RTags ro h [.sl 2 a v.past.length c] v.past F) (hn:v.past.length≤1048576∧v.text.size≤1048576):evl lo 122 [.agg (v.cs a c)] h=some (.bool (verOk v),h):=by
 refine E_impl_VerOk (h':=h) ?_
 simp only [impl_written hs hn,impl_TagOk,impl_latest hs hn.1,cal_s,eB_b,eI_int]
 unfold verOk
 by_cases hl:latest v.past<v.tag.time
 ·rw [br_pos hl,decide_eq_true hl]
  cases written v<;>cases tagOk v.tag.time v.tag.place<;>rfl
 ·rw [br_neg hl,decide_eq_false hl]
  cases written v<;>cases tagOk v.tag.time v.tag.place<;>rfl
theorem foldl_lt {x:Int}:∀ {l:List Tag}{m:Int},l.foldl (fun m t=>if t.time>m then t.time else m) m<x↔m<x∧∀ t∈l,t.time<x
 | [],m=>by simp
 | t :: l,m=>by
  rw [List.foldl_cons,foldl_lt]
  simp only [List.mem_cons,forall_eq_or_imp]
  constructor
  ·rintro ⟨h1,h2⟩
   refine ⟨?_,?_,h2⟩<;>(split at h1<;>omega)
  ·rintro ⟨h1,h2,h3⟩
   refine ⟨?_,h3⟩
   split<;>omega
theorem latest_lt {p:List Tag}{x:Int}:latest p<x↔0<x∧∀ t∈p,t.time<x:=foldl_lt
theorem tagOk_time {t p:Int} (h:tagOk t p=true):0≤t∧t≤999∧0≤p∧p≤2:=by
 simp [tagOk,within] at h;omega
theorem pastOk_len {p:List Tag} (h:pastOk p=true):p.length=4:=by
 simp only [pastOk,Bool.and_eq_true,decide_eq_true_eq] at h;exact h.1
theorem spec_l2Ok {v:Ver} (hs:RTags ro h [.sl 2 a v.past.length c] v.past F) (hn:v.past.length≤1048576∧v.text.size≤1048576):evl lo 137 [.agg (v.cs a c)] h=some (.bool (verOk v),h):=by
 refine E_spec_l2Ok (h':=h) ?_
 have loop:∀ x b,pastOk v.past=true→L_spec_l2Ok_0 (List.length h) x 0 v.key v.tag.time v.tag.place a v.past.length c v.text b h=some (.bool (v.past.all fun t=>decide (t.time<v.tag.time)),h):=by
  intro x b hp
  have h4:=pastOk_len hp
  refine (all_loop (p:=fun t:Tag=>decide (t.time<v.tag.time)) (l:=v.past) (fun i=>L_spec_l2Ok_0 (List.length h) x (i:Nat) v.key v.tag.time v.tag.place a v.past.length c v.text b h) (some (.bool false,h)) (some (.bool true,h)) (fun i hi=>?_) ?_).trans ?_
  ·obtain ⟨o,row,G,rfl,ho,⟨rfl,_⟩,_⟩:=hs.read hi
   rw [L_spec_l2Ok_0.e,br_pos (by omega),inB_nat hi]
   simp only [eO_s,Int.toNat_natCast,ho,Tag.cs,cut,eC_c,eI_int,eN_n,wr_succ (show i<9223372036854775807 by omega)]
   by_cases ht:v.past[i].time<v.tag.time
   ·rw [br_neg (by omega),if_pos (by simpa using ht)]
   ·rw [br_pos (by omega),if_neg (by simpa using ht)]
  ·rw [L_spec_l2Ok_0.e,br_neg (by omega)]
  ·cases v.past.all fun t:Tag=>decide (t.time<v.tag.time)<;>rfl
 have key:∀ x:Bool,(tagOk v.tag.time v.tag.place&&x&&decide (latest v.past<v.tag.time))=(tagOk v.tag.time v.tag.place && !(v.tag.time==0)&&x&&(v.past.all fun t=>decide (t.time<v.tag.time))):=by
  intro x
  cases ht:tagOk v.tag.time v.tag.place with
  | false=>simp
  | true =>
   have:=tagOk_time ht
   have e:decide (latest v.past<v.tag.time)=(!(v.tag.time==0)&&(v.past.all fun t=>decide (t.time<v.tag.time))):=by
    rw [Bool.eq_iff_iff]
    simp only [decide_eq_true_eq,latest_lt,Bool.and_eq_true,List.all_eq_true,Bool.not_eq_true',beq_eq_false_iff_ne]
    constructor
    ·rintro ⟨h1,h2⟩;exact ⟨by omega,h2⟩
    ·rintro ⟨h1,h2⟩;exact ⟨by omega,h2⟩
   rw [e]
   cases x<;>cases (v.tag.time==0)<;>simp
 have e2:verOk v=(within v.key 0 3&&textOk v.text&&(!v.gone || noText v.text)&&(tagOk v.tag.time v.tag.place&&pastOk v.past&&decide (latest v.past<v.tag.time))):=by
  unfold verOk written
  cases within v.key 0 3<;>cases textOk v.text<;>cases v.gone<;>cases noText v.text<;>cases pastOk v.past<;>cases tagOk v.tag.time v.tag.place<;>simp
 rw [e2,key]
 simp only [spec_l1In,spec_l2TextOk hn.2,spec_l1TagOk,spec_l1PastOk hs hn.1,toList_nil,cal_s,eB_b]
 cases hp:pastOk v.past with
 | true =>
  simp only [loop _ _ hp]
  cases within v.key 0 3<;>cases textOk v.text<;>cases v.gone<;>cases noText v.text<;>cases tagOk v.tag.time v.tag.place<;>cases (v.tag.time==0)<;>rfl
 | false =>
  cases within v.key 0 3<;>cases textOk v.text<;>cases v.gone<;>cases noText v.text<;>cases tagOk v.tag.time v.tag.place<;>cases (v.tag.time==0)<;>rfl
end
end Go.Proofs.YthdfojchihooeaaGreat
namespace Go.Proofs.YthdfojchihooeaaGreat
open Go T


section
variable {lo:Nat}{ro ro':Bool}{h:Heap}{F F':List Nat}{a a':Option (Nat×Nat)}{c c':Option Nat}
theorem Sli.rows {α:Type}{El:Rel α}{R e:Nat}{l:List α} (hs:Sli false R e El h [.sl R a l.length c] l F) :
  ∃ rows Fs,(∀ {T:Type} (K:List (List V)→Option T),rowsOf R h (.sl R a l.length c) K=K rows)∧EAll El h rows l Fs∧∀ b∈Fs.flatten,b∈F:=by
 obtain ⟨R1,a1,c1,e1,g⟩:=hs
 injection e1 with e1 _;injection e1 with e0 e2 _ e3
 subst e2;subst e3
 cases a with
 | none =>
  obtain ⟨rfl,_,_⟩:=g
  exact ⟨[],[],fun K=>rfl,trivial,by simp⟩
 | some p =>
  obtain ⟨b,i⟩:=p
  obtain ⟨_,rs,Fs,g1,g2,g3,g4,g5,rfl⟩:=g
  refine ⟨_,Fs,fun K=>?_,g5,fun b hb=>List.mem_cons_of_mem _ hb⟩
  simp only [rowsOf,beq_of,need_t]
  cases hl:l.length with
  | zero=>simp
  | succ n =>
   rw [hl] at g2
   simp only [ldRows,Heap.rows?,g1,Option.bind_some,ble_of g2,eO_s]
theorem RTags.rows {l:List Tag} (hs:RTags false h [.sl 2 a l.length c] l F) {T:Type} (K:List (List V)→Option T):rowsOf 2 h (.sl 2 a l.length c) K=K (l.map Tag.cs):=by
 obtain ⟨rows,Fs,h1,h2,_⟩:=Sli.rows hs
 rw [h1,h2.of_flat.1]
theorem Sli.fresh {α:Type}{El:Rel α}{R e n:Nat}{rs:List (List V)} (hn:n≤rs.length):Sli false R e El (h ++ [.rows R e false rs]) [.sl R (some (h.length,0)) 0 (some n)] [] [h.length] :=
 ⟨R,some (h.length,0),some n,rfl,rfl,rs,[],by simp,by simp,fun k hk=>by injection hk with hk;subst hk;simpa using hn,fun h=>(by cases h),by simp [EAll],by simp⟩
theorem flat_nil {l:List Tag}:(l.map fun _=>([]:List Nat)).flatten = []:=by induction l<;>simp_all
theorem copy_tags {l:List Tag} (hl:lo≤h.length) (hn:l.length≤1048576):∃ a' c' h' F',(∀ {T:Type} (K:V→Heap→Option T),app lo 60 2 16 (.sl 2 (some (h.length,0)) 0 (some 0)) (l.map Tag.cs) (h ++ [.rows 2 60 false []]) K=K (.sl 2 a' l.length c') h') ∧
  RTags false h' [.sl 2 a' l.length c'] l F'∧Mv h [] h' F':=by
 have h0:RTags false (h ++ [.rows 2 (eTag false) false []]) [.sl 2 (some (h.length,0)) 0 (some 0)] [] [h.length]:=Sli.fresh (Nat.le_refl _)
 by_cases he:l = []
 ·subst he
  exact ⟨some (h.length,0),some 0,_,_,fun K=>rfl,h0,Mv.last⟩
 ·obtain ⟨a',c',h',F',p1,p2,p3,p4,p5,p6⟩:=Sli.push (lo:=lo) (bytes:=16) flat_fr h0 (xs:=l.map Tag.cs) (ys:=l) (Gs:=l.map fun _ => []) EAll.flat (by decide) (by simp;omega) (by simp;omega) (by simp;omega) (by rw [flat_nil];simp) (by rw [flat_nil];simp) he
  simp only [List.length_nil,Nat.zero_add,List.nil_append] at p1 p2
  refine ⟨a',c',h',F',p1,p2,by simp at p3;omega,fun b hb _=>?_,p6,fun b hb=>?_⟩
  ·rw [p4 b (by simp;omega) (by simp;omega),List.getElem?_append_left hb]
  ·simp at p3
   rcases p5 b hb with h1 | h1
   ·rw [flat_nil] at h1;simp at h1;exact .inr (by omega)
   ·simp at h1;exact .inr (by omega)
theorem spec_l2Copy {v:Ver} (hs:RTags false h [.sl 2 a v.past.length c] v.past F) (hl:lo≤h.length) (hn:v.past.length≤1048576) :
  ∃ a' c' h' F',evl lo 181 [.agg (v.cs a c)] h=some (.agg (v.cs a' c'),h')∧RTags false h' [.sl 2 a' v.past.length c'] v.past F'∧Mv h [] h' F':=by
 obtain ⟨a',c',h',F',e,r⟩:=copy_tags (l:=v.past) hl hn
 refine ⟨a',c',h',F',E_spec_l2Copy ?_,r⟩
 rw [RTags.rows (Mv.snoc.keep0 rtags_ok hs),e,eS_sl]
theorem impl_Clone {l:List Tag} (hs:RTags false h [.sl 2 a l.length c] l F) (hl:lo≤h.length) (hn:l.length≤1048576) :
  ∃ v h' F',evl lo 295 [.sl 2 a l.length c] h=some (v,h')∧RTags false h' [v] l F'∧Mv h [] h' F':=by
 cases a with
 | none =>
  obtain ⟨R1,a1,c1,e1,g⟩:=hs
  injection e1 with e1 _;injection e1 with e0 e2 _ e3
  subst e2;subst e3
  obtain ⟨rfl,_,_⟩:=g
  exact ⟨_,h,[],E_slices_Clone_impl_Tag_impl_Tag (by rw [show (none:Option (Nat×Nat)).isNone=true from rfl,br_t]),Sli.nil,Mv.nil⟩
 | some p =>
  obtain ⟨a',c',h',F',e,r⟩:=copy_tags (l:=l) hl hn
  refine ⟨_,h',F',E_slices_Clone_impl_Tag_impl_Tag ?_,r⟩
  rw [show (some p).isNone=false from rfl,br_f,RTags.rows (Mv.snoc.keep0 rtags_ok hs),e,eS_sl]
theorem impl_Past_copied {l:List Tag} (hs:RTags false h [.sl 2 a l.length c] l F) (hl:lo≤h.length) (hn:l.length≤1048576) :
  ∃ a' c' h' F',evl lo 202 [.agg [.sl 2 a l.length c]] h=some (.agg [.sl 2 a' l.length c'],h')∧RTags false h' [.sl 2 a' l.length c'] l F'∧Mv h [] h' F':=by
 obtain ⟨v,h',F',e,r,m⟩:=impl_Clone hs hl hn
 obtain ⟨a',c',es,r2⟩:=r.form
 refine ⟨a',_,h',F',E_impl_Past_copied ?_,r2.clip,m⟩
 rw [e];simp only [cal_s,es]
 rw [E_slices_Clip_impl_Tag_impl_Tag (r:=(.sl 2 a' l.length (some l.length),h')) (by rw [reslice_clip r2])]
 simp only [cal_s,eS_sl]
theorem impl_Ver_copied {v:Ver} (hs:RTags false h [.sl 2 a v.past.length c] v.past F) (hl:lo≤h.length) (hn:v.past.length≤1048576) :
  ∃ a' c' h' F',evl lo 186 [.agg (v.cs a c)] h=some (.agg (v.cs a' c'),h')∧RTags false h' [.sl 2 a' v.past.length c'] v.past F'∧Mv h [] h' F':=by
 obtain ⟨a',c',h',F',e,r⟩:=impl_Past_copied hs hl hn
 refine ⟨a',c',h',F',E_impl_Ver_copied ?_,r⟩
 rw [e];simp only [cal_s,eA_a,eC_c,eS_sl,eN_n]
theorem copy_loop {l:List Ver}{e0:Option (Nat×Nat)}{h0:Heap}{n0:Option Nat}{F0:List Nat}{T:Type} (L:Nat→Option (Nat×Nat)→Nat→Option Nat→Heap→Option T) (hs:RVers false h [.sl 6 a l.length c] l F) (hl:lo≤h.length) (hn:smVers l)
  (m0:Mv h [] h0 F0) (h1:RVers false h0 [.sl 6 e0 0 n0] [] F0)
  (step:∀ i (hi:i<l.length) s a2 c2 a1 n1 c1 hh,(i=0→a1=e0∧c1=n0)→(∀ o,a=some o→ld hh o.1 (o.2+i) 0 6=some [.int .i64 l[i].key,.int .i64 l[i].tag.time,.int .i64 l[i].tag.place,s,.str l[i].text,.bool l[i].gone])→(∃ o,a=some o) →
   (∀ {R':Type} (K:Option (Nat×Nat)→Nat→Option Nat→Option R'),eS 2 s K=K a2 l[i].past.length c2)→(∃ G,RTags false hh [.sl 2 a2 l[i].past.length c2] l[i].past G)→lo≤hh.length →
   ∃ a3 c3 h3 F3,RTags false h3 [.sl 2 a3 l[i].past.length c3] l[i].past F3∧Mv hh [] h3 F3 ∧
    L i a1 n1 c1 hh=app lo 65 6 72 (.sl 6 a1 n1 c1) [l[i].cs a3 c3] (h3 ++ [.rows 6 65 false [l[i].cs a3 c3]]) fun v h=>eS 6 v fun a n c=>L (i+1) a n c h) :
  ∃ a' c' h' F',L 0 e0 0 n0 h0=L l.length a' l.length c' h'∧RVers false h' [.sl 6 a' l.length c'] l F'∧Mv h [] h' F':=by
 have hn1:=hn.1
 obtain ⟨a',c',h',F',e,r,m⟩:=build_loop (El:=RVer false) rver_ok (h0:=h0) (l:=l) (g:=fun _ v=>some (id v)) (lo:=lo) (R:=6) (e:=eVer false) (bytes:=72) (b0 := []) (F0:=F0) (a0:=e0) (c0:=n0)
  (Nat.le_trans hl m0.le) (m0.ge hl (by simp)) m0.nd (by decide) (by simp;omega) L (fun i hi a1 c1 hh F1 acc hz hacc hm hr=>by
   have hm':Mv h [] hh []:=(m0.trans hm).drop
   obtain ⟨o,s,a2,c2,G,ho,hld,es,hp,_⟩:=(hm'.keep0 rvers_ok hs).get hi
   obtain ⟨a3,c3,h3,F3,r3,m3,e3⟩:=step i hi s a2 c2 a1 acc.length c1 hh hz (fun o' ho'=>by rw [ho] at ho';injection ho' with ho';subst ho';exact hld) ⟨o,ho⟩ es ⟨G,hp⟩ (Nat.le_trans hl hm'.le)
   exact .inr ⟨l[i],l[i].cs a3 c3,F3,_,rfl,⟨_,rfl,Mv.snoc.keep0 rtags_ok r3⟩,m3.trans (Mv.snoc' m3.nd),e3⟩) h1
 rw [grow_map,List.map_id,List.nil_append] at e r
 exact ⟨a',c',h',F',e,r,m0.trans m⟩
theorem impl_versCopied {l:List Ver} (hs:RVers false h [.sl 6 a l.length c] l F) (hl:lo≤h.length) (hn:smVers l) :
  ∃ a' c' h' F',evl lo 293 [.sl 6 a l.length c] h=some (.sl 6 a' l.length c',h')∧RVers false h' [.sl 6 a' l.length c'] l F'∧Mv h [] h' F':=by
 have hn1:=hn.1
 obtain ⟨a',c',h',F',e,r,m⟩:=copy_loop (e0:=some (h.length,0)) (n0:=some l.length) (h0:=h ++ [.rows 6 (eVer false) false (List.replicate l.length [.int .i64 0,.int .i64 0,.int .i64 0,.sl 0 none 0 (some 0),.str ⟨⟨[]⟩⟩,.bool false])])
  (fun i a1 n1 c1 hh=>L_impl_versCopied_0 lo a1 n1 c1 a l.length c (l.length:Nat) (i:Nat) hh) hs hl hn Mv.last (Sli.fresh (by simp)) (fun i hi s a2 c2 a1 n1 c1 hh hz hld ho es hp hlo=>by
   obtain ⟨o,rfl⟩:=ho
   obtain ⟨G,hp⟩:=hp
   obtain ⟨a3,c3,h3,F3,e3,r3,m3⟩:=impl_Ver_copied (lo:=lo) (v:=l[i]) hp hlo (hn.2 _ (List.getElem_mem hi)).1
   refine ⟨a3,c3,h3,F3,r3,m3,?_⟩
   rw [L_impl_versCopied_0.e,br_pos (by omega),inB_nat hi]
   simp only [eO_s,Int.toNat_natCast,hld o rfl,eC_c,eI_int,es,eT_s,eBv_b,eN_n]
   rw [e3]
   simp only [cal_s,eA_a,eC_c,eI_int,eS_sl,eT_s,eBv_b,eN_n,rows_one,wr_succ (show i<9223372036854775807 by omega)])
 refine ⟨a',c',h',F',E_impl_versCopied ?_,r,m⟩
 rw [need_of (by omega)]
 refine e.trans ?_
 rw [L_impl_versCopied_0.e,br_neg (by omega)]
theorem impl_Store_copied {l:List Ver} (hs:RVers false h [.sl 6 a l.length c] l F) (hl:lo≤h.length) (hn:smVers l) :
  ∃ a' c' h' F',evl lo 238 [.agg [.sl 6 a l.length c]] h=some (.agg [.sl 6 a' l.length c'],h')∧RVers false h' [.sl 6 a' l.length c'] l F'∧Mv h [] h' F':=by
 obtain ⟨a',c',h',F',e,r⟩:=impl_versCopied hs hl hn
 refine ⟨a',c',h',F',E_impl_Store_copied ?_,r⟩
 rw [e];simp only [cal_s,eS_sl]
theorem spec_l2CopyStore {l:List Ver} (hs:RVers false h [.sl 6 a l.length c] l F) (hl:lo≤h.length) (hn:smVers l) :
  ∃ v h' F',evl lo 231 [.agg [.sl 6 a l.length c]] h=some (.agg [v],h')∧RVers false h' [v] l F'∧Mv h [] h' F':=by
 have hn1:=hn.1
 by_cases he:l = []
 ·subst he
  exact ⟨_,h,[],E_spec_l2CopyStore (by rw [L_spec_l2CopyStore_0.e,br_neg (by simp)]),Sli.nil,Mv.nil⟩
 have hpos:0<l.length:=List.length_pos_iff.2 he
 obtain ⟨a',c',h',F',e,r,m⟩:=copy_loop (e0:=none) (n0:=some 0) (h0:=h)
  (fun i a1 n1 c1 hh=>L_spec_l2CopyStore_0 lo (i:Nat) a l.length c 0 none 0 (some 0) (if i=0 then 0 else 6) a1 n1 c1 hh) hs hl hn Mv.nil Sli.nil (fun i hi s a2 c2 a1 n1 c1 hh hz hld ho es hp hlo=>by
   obtain ⟨o,rfl⟩:=ho
   obtain ⟨G,hp⟩:=hp
   obtain ⟨a3,c3,h3,F3,e3,r3,m3⟩:=spec_l2Copy (lo:=lo) (v:=l[i]) hp hlo (hn.2 _ (List.getElem_mem hi)).1
   refine ⟨a3,c3,h3,F3,r3,m3,?_⟩
   rw [L_spec_l2CopyStore_0.e,br_pos (by omega),inB_nat hi]
   simp only [eO_s,Int.toNat_natCast,hld o rfl,eC_c,eI_int,es,eT_s,eBv_b,eN_n]
   rw [e3]
   simp only [cal_s,eA_a,eC_c,eI_int,eS_sl,eT_s,eBv_b,eN_n,rows_one,wr_succ (show i<9223372036854775807 by omega),if_neg (Nat.succ_ne_zero i)]
   by_cases h0:i=0
   ·obtain ⟨rfl,rfl⟩:=hz h0
    rw [app_q]
   ·rw [if_neg h0])
 refine ⟨_,h',F',E_spec_l2CopyStore ?_,r,m⟩
 refine e.trans ?_
 rw [if_neg (by omega),L_spec_l2CopyStore_0.e,br_neg (by omega)]
theorem spec_l3Copy {l:List Node} (hs:RNodes false h [.sl 2 a l.length c] l F) (hl:lo≤h.length) (hn:smNodes l) :
  ∃ v h' F',evl lo 116 [.agg [.sl 2 a l.length c]] h=some (.agg [v],h')∧RNodes false h' [v] l F'∧Mv h [] h' F':=by
 have hn1:=hn.1
 obtain ⟨q,a',c',h',F',e,r,m⟩:=map_loop_q (El:=RNode false) rnode_ok (h:=h) (l:=l) (f:=id) (lo:=lo) (R:=2) (e:=76) (bytes:=48) hl (by decide) (by omega)
  (fun i q a1 n1 c1 hh=>L_spec_l3Copy_0 lo (i:Nat) a l.length c 0 none 0 (some 0) q a1 n1 c1 hh) (fun i hi q a1 n1 c1 hh hm=>by
   obtain ⟨o,s1,s2,b1,d1,b2,d2,G1,G2,ha,_,ho1,ho2,e1,e2,p1,p2,_⟩:=(hm.keep0 rnodes_ok hs).get hi
   have hsm:=hn.2 _ (List.getElem_mem hi)
   have hw1:=hsm.2.1
   obtain ⟨v3,h3,F3,e3,r3,m3⟩:=spec_l2CopyStore (lo:=lo) p1 (Nat.le_trans hl hm.le) hsm.1
   obtain ⟨a3,c3,es3,r3'⟩:=r3.form
   have p2':=m3.keep0 rvers_ok p2
   obtain ⟨q4,a4,c4,h4,F4,e4,r4,m4⟩:=map_loop_q (El:=RVer false) rver_ok (h:=h3) (l:=l[i].wait) (f:=id) (lo:=lo) (R:=6) (e:=65) (bytes:=72) (Nat.le_trans hl (Nat.le_trans hm.le m3.le)) (by decide) (by omega)
    (fun j q5 a5 n5 c5 hh=>L_spec_l3Copy_2 lo (i:Nat) (j:Nat) a l.length c 0 none 0 (some 0) q a1 n1 c1 a3 l[i].store.length c3 q5 a5 n5 c5 hh) (fun j hj q5 a5 n5 c5 hh2 hm2=>by
     obtain ⟨o',s1',s2',b1',d1',b2',d2',G1',G2',ha',_,_,ho2',_,e2',_,p2',_⟩:=(hm2.keep0 rnodes_ok (m3.keep0 rnodes_ok (hm.keep0 rnodes_ok hs))).get hi
     obtain ⟨o'',s,b,d,G,hb,hld,es,hp,_⟩:=p2'.get hj
     obtain ⟨a6,c6,h6,F6,e6,r6,m6⟩:=spec_l2Copy (lo:=lo) (v:=l[i].wait[j]) hp (Nat.le_trans hl (Nat.le_trans hm.le (Nat.le_trans m3.le hm2.le))) (hsm.2.2 _ (List.getElem_mem hj)).1
     refine ⟨l[i].wait[j].cs a6 c6,F6,h6 ++ [.rows 6 65 false [l[i].wait[j].cs a6 c6]],⟨_,rfl,Mv.snoc.keep0 rtags_ok r6⟩,m6.trans (Mv.snoc' m6.nd),?_⟩
     rw [L_spec_l3Copy_2.e,inB_nat hi,ha',eO_s]
     simp only [Int.toNat_natCast,ho2',eO_s,eC_c,eN_n,e2']
     rw [br_pos (by omega),inB_nat hi]
     simp only [hb,inB_nat hj,eO_s,Int.toNat_natCast,hld,eC_c,eI_int,es,eT_s,eBv_b,eN_n]
     rw [e6]
     simp only [cal_s,eA_a,eC_c,eI_int,eS_sl,eT_s,eBv_b,eN_n,rows_one,wr_succ (show j<9223372036854775807 by omega)])
   rw [List.map_id] at r4
   have m34:=m3.join m4 (rvers_ok.bd _ _ _ _ r3')
   obtain ⟨o',s1',s2',b1',d1',b2',d2',G1',G2',ha',_,_,ho2',_,e2',_,_,_⟩:=(m4.keep0 rnodes_ok (m3.keep0 rnodes_ok (hm.keep0 rnodes_ok hs))).get hi
   refine ⟨[.sl 6 a3 l[i].store.length c3,.sl q4 a4 l[i].wait.length c4],F3++F4,h4 ++ [.rows 2 76 false [[.sl 6 a3 l[i].store.length c3,.sl q4 a4 l[i].wait.length c4]]],
    ⟨_,_,F3,F4,rfl,rfl,Mv.snoc.keep0 rvers_ok (m4.keep0 rvers_ok r3'),Mv.snoc.keep0 rvers_ok r4⟩,m34.trans (Mv.snoc' m34.nd),?_⟩
   rw [L_spec_l3Copy_0.e,br_pos (by omega),inB_nat hi,ha,eO_s]
   simp only [Int.toNat_natCast,ho1,eO_s,eC_c,eN_n,e1]
   rw [e3]
   simp only [cal_s,eA_a,eC_c,eN_n,es3]
   rw [← ha]
   refine e4.trans ?_
   rw [L_spec_l3Copy_2.e,inB_nat hi,ha',eO_s]
   simp only [Int.toNat_natCast,ho2',eO_s,eC_c,eN_n,e2']
   rw [br_neg (by omega)]
   simp only [rows_one,wr_succ (show i<9223372036854775807 by omega)])
 rw [List.map_id] at r
 refine ⟨_,h',F',E_spec_l3Copy ?_,r,m⟩
 refine e.trans ?_
 rw [L_spec_l3Copy_0.e,br_neg (by omega)]
end
end Go.Proofs.YthdfojchihooeaaGreat
namespace Go.Proofs.YthdfojchihooeaaGreat
open Go T


def sameVer (v u:Ver):Bool:=v.key==u.key&&(v.tag.time==u.tag.time&&v.tag.place==u.tag.place)&&decide (v.past=u.past)&&(v.text.toList==u.text.toList)&&(v.gone==u.gone)
def zeroVer (v:Ver):Bool:=v.key==0&&(v.tag.time==0&&v.tag.place==0)&&decide (v.past.length=0)&&noText v.text && !v.gone
def verAt (i:Nat) (v:Ver):Bool:=zeroVer v || (verOk v&&v.key==i)
def storeOk (l:List Ver):Bool:=(l.zipIdx.all fun x=>verAt x.2 x.1)&&decide (l.length=4)
theorem storeOk_len {l:List Ver} (h:storeOk l=true):l.length=4:=by
 simp only [storeOk,Bool.and_eq_true,decide_eq_true_eq] at h;exact h.2
theorem storeOk_get {l:List Ver} (h:storeOk l=true) {i:Nat} (hi:i<l.length):verAt i l[i]=true:=by
 simp only [storeOk,Bool.and_eq_true,List.all_eq_true] at h
 have:=h.1 (l[i],i) (by rw [List.mem_zipIdx_iff_getElem?];simp [hi])
 exact this
theorem verOk_time {v:Ver} (h:verOk v=true):0<v.tag.time:=by
 simp only [verOk,Bool.and_eq_true,decide_eq_true_eq] at h
 exact (latest_lt.1 h.2).1
section
variable {lo:Nat}{ro ro':Bool}{h:Heap}{F F':List Nat}{a a':Option (Nat×Nat)}{c c':Option Nat}
theorem all_idx {α T:Type}{p:Nat→α→Bool}{l:List α} (L:Nat→Option T) (no yes:Option T)
  (step:∀ i (hi:i<l.length),L i=if p i l[i]=true then L (i+1) else no) (done:L l.length=yes):L 0=if (l.zipIdx.all fun x=>p x.2 x.1)=true then yes else no:=by
 have hz:l.zipIdx.length=l.length:=by simp
 refine all_loop (l:=l.zipIdx) (p:=fun x=>p x.2 x.1) L no yes (fun i hi=>?_) (by rw [hz];exact done)
 rw [step i (by omega)]
 simp only [List.getElem_zipIdx,Nat.zero_add]
theorem impl_Equal {p q:List Tag} (hs:RTags ro h [.sl 2 a p.length c] p F) (hs':RTags ro' h [.sl 2 a' q.length c'] q F') (hn:p.length≤1048576) :
  evl lo 317 [.sl 2 a p.length c,.sl 2 a' q.length c'] h=some (.bool (decide (p=q)),h):=by
 refine E_slices_Equal_impl_Tag_impl_Tag (h':=h) ?_
 by_cases hl:p.length=q.length
 ·rw [show ((p.length:Int)==(q.length:Int))=true by simp;omega,br_t]
  refine (all_loop (p:=fun x:Tag×Tag=>decide (x.1=x.2)) (l:=p.zip q) (fun i=>L_slices_Equal_impl_Tag_impl_Tag_0 (List.length h) a p.length c a' q.length c' false (p.length:Nat) (i:Nat) h) (some (.bool false,h)) (some (.bool true,h)) (fun i hi=>?_) ?_).trans ?_
  ·have hip:i<p.length:=by simp at hi;omega
   have hiq:i<q.length:=by omega
   obtain ⟨o,rfl,ho⟩:=hs.get hip
   obtain ⟨o',rfl,ho'⟩:=hs'.get hiq
   rw [L_slices_Equal_impl_Tag_impl_Tag_0.e,br_pos (by omega),inB_nat hip]
   simp only [eO_s,Int.toNat_natCast,ho,ho',eC_c,eI_int,eN_n,inB_nat hiq,List.getElem_zip,wr_succ (show i<9223372036854775807 by omega),Bool.and_true]
   have e:(p[i].time==q[i].time&&p[i].place==q[i].place)=decide (p[i]=q[i]):=by
    rw [Bool.eq_iff_iff];cases hx:p[i];cases hy:q[i];simp
   rw [e]
   cases decide (p[i]=q[i])<;>simp
  ·have hz:(p.zip q).length=p.length:=by simp;omega
   rw [hz,L_slices_Equal_impl_Tag_impl_Tag_0.e,br_neg (by omega)]
  ·have e:((p.zip q).all fun x=>decide (x.1=x.2))=decide (p=q):=by
    rw [Bool.eq_iff_iff,List.all_eq_true,decide_eq_true_eq]
    constructor
    ·intro hx
     apply List.ext_getElem hl
     intro i h1 h2
     have:=hx (p[i],q[i]) (by rw [List.mem_iff_getElem];exact ⟨i,by simp;omega,by simp⟩)
     simpa using this
    ·rintro rfl x hx
     obtain ⟨i,hi,rfl⟩:=List.mem_iff_getElem.1 hx
     simp
   rw [e]
   cases decide (p=q)<;>simp
 ·rw [show ((p.length:Int)==(q.length:Int))=false by simp;omega,br_f,decide_eq_false (fun e=>hl (by rw [e]))]
theorem impl_same {v u:Ver} (hs:RTags ro h [.sl 2 a v.past.length c] v.past F) (hs':RTags ro' h [.sl 2 a' u.past.length c'] u.past F') (hn:v.past.length≤1048576) :
  evl lo 233 [.agg (v.cs a c),.agg (u.cs a' c')] h=some (.bool (sameVer v u),h):=by
 refine E_impl_Ver_same (h':=h) ?_
 simp only [impl_Equal hs hs' hn,cal_s,eB_b,Bool.and_true]
 unfold sameVer
 cases (v.key==u.key)<;>cases (v.tag.time==u.tag.time&&v.tag.place==u.tag.place)<;>cases (decide (v.past=u.past))<;>cases (v.text.toList==u.text.toList)<;>cases (v.gone==u.gone)<;>rfl
theorem impl_same_z {v:Ver} (hs:RTags ro h [.sl 2 a v.past.length c] v.past F) (hn:v.past.length≤1048576) :
  evl lo 233 [.agg (v.cs a c),.agg [.int .i64 0,.int .i64 0,.int .i64 0,.sl 0 none 0 (some 0),.str ⟨⟨[]⟩⟩,.bool false]] h=some (.bool (zeroVer v),h):=by
 refine E_impl_Ver_same_z (h':=h) ?_
 have e:evl (List.length h) 317 [.sl 2 a v.past.length c,.sl 0 none 0 (some 0)] h=some (.bool (decide (v.past.length=0)),h):=by
  refine E_slices_Equal_impl_Tag_impl_Tag_z (h':=h) ?_
  by_cases h0:v.past.length=0
  ·rw [h0,beqI,br_t,L_slices_Equal_impl_Tag_impl_Tag_z_0.e,br_neg (by simp)];rfl
  ·rw [show ((v.past.length:Int)==((0:Nat):Int))=false by rw [beq_eq_false_iff_ne];omega,br_f,decide_eq_false h0]
 simp only [e,cal_s,eB_b,Bool.and_true,toList_nil]
 unfold zeroVer
 cases (v.key==0)<;>cases (v.tag.time==0&&v.tag.place==0)<;>cases (decide (v.past.length=0))<;>cases noText v.text<;>cases v.gone<;>rfl
theorem impl_StoreOk {l:List Ver} (hs:RVers ro h [.sl 6 a l.length c] l F) (hn:smVers l):evl lo 119 [.agg [.sl 6 a l.length c]] h=some (.bool (storeOk l),h):=by
 have hn1:=hn.1
 refine E_impl_StoreOk (h':=h) ?_
 refine (all_idx (p:=verAt) (l:=l) (fun i=>L_impl_StoreOk_0 (List.length h) false a l.length c (l.length:Nat) (i:Nat) a l.length c h) (some (.bool false,h)) (some (.bool (decide (l.length=4)),h)) (fun i hi=>?_) ?_).trans ?_
 ·obtain ⟨o,s,b,d,G,rfl,ho,es,hp,_⟩:=hs.get hi
  have hm:=hn.2 _ (List.getElem_mem hi)
  rw [L_impl_StoreOk_0.e,br_pos (by omega),inB_nat hi]
  simp only [eO_s,Int.toNat_natCast,ho,eC_c,eI_int,es,eT_s,eBv_b,eN_n]
  rw [impl_same_z hp hm.1]
  simp only [cal_s,eB_b,impl_VerOk hp hm,wr_succ (show i<9223372036854775807 by omega)]
  unfold verAt
  cases zeroVer l[i]<;>cases verOk l[i]<;>cases (l[i].key==i)<;>simp
 ·rw [L_impl_StoreOk_0.e,br_neg (by omega)]
  by_cases h3:l.length=4
  ·rw [h3];rfl
  ·rw [show ((l.length:Int)==4)=false by simp;omega,br_f,decide_eq_false h3]
 ·unfold storeOk
  cases (l.zipIdx.all fun x=>verAt x.2 x.1)<;>simp
theorem RVers.all {l:List Ver}{n:Nat}{i:Nat} (hs:RVers ro h [.sl 6 a n c] l F) (hi:i<l.length):∃ o s a' c' G,a=some o∧ld h o.1 (o.2+i) 0 1=some [.int .i64 l[i].key]∧ld h o.1 (o.2+i) 1 1=some [.int .i64 l[i].tag.time] ∧
  ld h o.1 (o.2+i) 2 1=some [.int .i64 l[i].tag.place]∧ld h o.1 (o.2+i) 3 1=some [s]∧ld h o.1 (o.2+i) 4 1=some [.str l[i].text]∧ld h o.1 (o.2+i) 5 1=some [.bool l[i].gone]∧ld h o.1 (o.2+i) 1 2=some [.int .i64 l[i].tag.time,.int .i64 l[i].tag.place] ∧
  ld h o.1 (o.2+i) 0 6=some [.int .i64 l[i].key,.int .i64 l[i].tag.time,.int .i64 l[i].tag.place,s,.str l[i].text,.bool l[i].gone] ∧
  (∀ {R':Type} (K:Option (Nat×Nat)→Nat→Option Nat→Option R'),eS 2 s K=K a' l[i].past.length c')∧RTags ro h [.sl 2 a' l[i].past.length c'] l[i].past G∧(∀ b∈G,b∈F):=by
 obtain ⟨o,row,G,h1,h2,hv,hG,_⟩:=hs.read hi
 obtain ⟨s,a',c',rfl,es,hp⟩:=hv.form
 exact ⟨o,s,a',c',G,h1,by rw [h2];rfl,by rw [h2];rfl,by rw [h2];rfl,by rw [h2];rfl,by rw [h2];rfl,by rw [h2];rfl,by rw [h2];rfl,by rw [h2];rfl,es,hp,hG⟩
theorem spec_l2StoreOk {l:List Ver} (hs:RVers ro h [.sl 6 a l.length c] l F) (hn:smVers l):evl lo 221 [.agg [.sl 6 a l.length c]] h=some (.bool (storeOk l),h):=by
 have hn1:=hn.1
 refine E_spec_l2StoreOk (h':=h) ?_
 refine (all_idx (p:=verAt) (l:=l) (fun i=>L_spec_l2StoreOk_0 (List.length h) false (i:Nat) a l.length c h) (some (.bool false,h)) (some (.bool (decide (l.length=4)),h)) (fun i hi=>?_) ?_).trans ?_
 ·obtain ⟨o,s,b,d,G,rfl,ho0,_,_,ho3,ho4,ho5,ho12,ho,es,hp,_⟩:=hs.all hi
  have hm:=hn.2 _ (List.getElem_mem hi)
  rw [L_spec_l2StoreOk_0.e,br_pos (by omega),inB_nat hi]
  simp only [eO_s,Int.toNat_natCast,ho0,ho3,ho4,ho5,ho12,ho,eC_c,eI_int,es,eT_s,eBv_b,eN_n,inB_nat hi,Bool.and_true,toList_nil,spec_l2Ok hp hm,cal_s,eB_b,wr_succ (show i<9223372036854775807 by omega)]
  have hpl:∀ {T:Type} (x y:Option T),br (decide ((l[i].past.length:Int)>0)) x y=br (!decide (l[i].past.length=0)) x y:=by
   intro T x y
   by_cases h0:l[i].past.length=0
   ·rw [br_neg (by omega),decide_eq_true h0];rfl
   ·rw [br_pos (by omega),decide_eq_false h0];rfl
  simp only [hpl]
  unfold verAt zeroVer
  cases hz:(l[i].tag.time==0&&l[i].tag.place==0) with
  | true =>
   have:verOk l[i]=false:=by
    cases hv:verOk l[i] with
    | false=>rfl
    | true=>have:=verOk_time hv;simp at hz;omega
   rw [this]
   cases (l[i].key==0)<;>cases noText l[i].text<;>cases l[i].gone<;>cases (decide (l[i].past.length=0))<;>rfl
  | false =>
   cases (l[i].key==0)<;>cases noText l[i].text<;>cases l[i].gone<;>cases (decide (l[i].past.length=0))<;>cases verOk l[i]<;>cases (l[i].key==i)<;>rfl
 ·rw [L_spec_l2StoreOk_0.e,br_neg (by omega)]
  by_cases h3:l.length=4
  ·rw [h3];rfl
  ·rw [show ((l.length:Int)==4)=false by simp;omega,br_f,decide_eq_false h3]
 ·unfold storeOk
  cases (l.zipIdx.all fun x=>verAt x.2 x.1)<;>simp
end
end Go.Proofs.YthdfojchihooeaaGreat
namespace Go.Proofs.YthdfojchihooeaaGreat
open Go T


def hasTag (l:List Ver) (t:Tag):Bool:=l.any fun v=>v.tag.time==t.time&&v.tag.place==t.place
section
variable {lo:Nat}{ro ro':Bool}{h:Heap}{F F':List Nat}{a a':Option (Nat×Nat)}{c c':Option Nat}
theorem IndexFunc_Ver {l:List Ver}{g:Nat}{cl:List V}{p:Ver→Bool} (hs:RVers ro h [.sl 6 a l.length c] l F) (hn:l.length≤1048576)
  (hp:∀ lo v a c G,v∈l→RTags ro h [.sl 2 a v.past.length c] v.past G→evl lo g (fnArgs [.agg (v.cs a c)] cl) h=some (.bool (p v),h)) :
  evl lo 234 [.sl 6 a l.length c,.fn g cl] h=some (.int .i64 (firstAt p l 0),h):=by
 have loop:∀ m k x,m+k=l.length→L_slices_IndexFunc_impl_Ver_impl_Ver_0 (List.length h) a l.length c g cl x (l.length:Nat) (k:Nat) h=some (.int .i64 (firstAt p (l.drop k) k),h):=by
  intro m
  induction m with
  | zero =>
   intro k x hk
   rw [L_slices_IndexFunc_impl_Ver_impl_Ver_0.e,br_neg (by omega),show k=l.length by omega]
   simp [firstAt]
  | succ m ih =>
   intro k x hk
   have hlt:k<l.length:=by omega
   obtain ⟨o,s,b,d,G,rfl,ho,es,hv,_⟩:=hs.get hlt
   rw [L_slices_IndexFunc_impl_Ver_impl_Ver_0.e,br_pos (by omega),inB_nat (by omega)]
   simp only [eO_s,Int.toNat_natCast,ho,eC_c,eI_int,es,eT_s,eBv_b,eN_n]
   rw [hp (List.length h) l[k] b d G (List.getElem_mem hlt) hv,cal_s,eB_b,List.drop_eq_getElem_cons hlt]
   simp only [firstAt]
   cases p l[k]
   ·simp only [br_f,cond_false];rw [wr_succ (by omega)];exact ih (k+1) _ (by omega)
   ·simp
 refine E_slices_IndexFunc_impl_Ver_impl_Ver (h':=h) ?_
 exact loop l.length 0 0 (by omega)
theorem ContainsFunc_Ver {l:List Ver}{g:Nat}{cl:List V}{p:Ver→Bool} (hs:RVers ro h [.sl 6 a l.length c] l F) (hn:l.length≤1048576)
  (hp:∀ lo v a c G,v∈l→RTags ro h [.sl 2 a v.past.length c] v.past G→evl lo g (fnArgs [.agg (v.cs a c)] cl) h=some (.bool (p v),h)) :
  evl lo 120 [.sl 6 a l.length c,.fn g cl] h=some (.bool (l.any p),h) :=
 E_slices_ContainsFunc_impl_Ver_impl_Ver (h':=h) (by rw [IndexFunc_Ver hs hn hp];simp only [cal_s,eI_int,br_bool];rw [firstAt_pos];simp)
theorem reslice_pre {α:Type}{El:Rel α}{R R' e n i:Nat}{l:List α} (hs:Sli false R e El h [.sl R' a n c] l F) (hi:i≤l.length) {T:Type}{K:Option (Nat×Nat)→Nat→Option Nat→Option T} :
  reslice a n c none (some (.int .i64 (i:Nat))) none K=K a i c:=by
 have hn:=hs.val
 subst hn
 obtain ⟨R1,a',c',h1,h2⟩:=hs
 injection h1 with h1 _
 injection h1 with e0 e1 e2 e3
 subst e0;subst e1;subst e3
 have hc:∀ k,c=some k→l.length≤k:=fun k hk=>by
  cases a with
  | none=>obtain ⟨rfl,_⟩:=h2;simp
  | some p=>obtain ⟨b,i⟩:=p;obtain ⟨_,_,_,_,_,g3,_⟩:=h2;exact (g3 k hk).1
 unfold reslice slMax slHi slLo
 cases c with
 | none=>simp only [eI_int,Int.toNat_natCast];rw [inS_in ⟨by omega,by omega⟩]
 | some k=>have:=hc k rfl;simp only [eI_int,Int.toNat_natCast];rw [inS_in ⟨by omega,by omega⟩]
def logAt (place:Int) (l:List Ver) (i:Nat) (v:Ver):Bool:=verOk v&&(v.tag.place==place) && !hasTag (l.take i) v.tag
def logOk (place:Int) (l:List Ver):Bool:=(l.zipIdx.all fun x=>logAt place l x.2 x.1)&&decide ((l.length:Int)≤60)
end
end Go.Proofs.YthdfojchihooeaaGreat
namespace Go.Proofs.YthdfojchihooeaaGreat
open Go T


def tagsOf (l:List Ver):List Tag:=l.map fun v=>v.tag
section
variable {lo:Nat}{ro ro':Bool}{h:Heap}{F F':List Nat}{a a':Option (Nat×Nat)}{c c':Option Nat}
theorem impl_tags {l:List Ver} (hs:RVers ro h [.sl 6 a l.length c] l F) (hl:lo≤h.length) (h4:l.length=4) :
  ∃ v h' F',evl lo 128 [.agg [.sl 6 a l.length c]] h=some (.agg [v],h')∧RTags false h' [v] (tagsOf l) F'∧Mv h [] h' F':=by
 obtain ⟨h',F',e,r,m⟩:=fill_loop (El:=flat Tag.cs) flat_ok (h0:=h) (l:=l) (f:=fun v=>v.tag) (lo:=lo) (R:=2) (e:=60) (z := [.int .i64 0,.int .i64 0]) rfl hl
  (fun i hh=>L_impl_Store_tags_0 lo a l.length c (l.length:Nat) (i:Nat) 0 none 0 (some 0) (some (h.length,0)) 4 (some 4) hh) (fun i hi hh hm=>by
   obtain ⟨o,s,b,d,G,rfl,ho,es,_,_⟩:=(hm.keep0 rvers_ok hs).get hi
   refine ⟨[.int .i64 l[i].tag.time,.int .i64 l[i].tag.place],[],hh,⟨rfl,rfl⟩,Mv.nil,rfl,?_⟩
   rw [L_impl_Store_tags_0.e,br_pos (by omega),inB_nat hi]
   simp only [eO_s,Int.toNat_natCast,ho,eC_c,eI_int,es,eT_s,eBv_b,eN_n,inB_nat (show i<4 by omega),Nat.zero_add,wr_succ (show i<9223372036854775807 by omega)])
 rw [h4] at r
 refine ⟨_,h',F',E_impl_Store_tags ?_,r,m⟩
 rw [E_impl_PastNone (r:=(.agg [.sl 2 (some (h.length,0)) 4 (some 4)],h ++ [.rows 2 60 false (List.replicate l.length [.int .i64 0,.int .i64 0])])) (by rw [h4];rfl)]
 simp only [cal_s,eA_a,eC_c,eS_sl,eN_n]
 refine e.trans ?_
 rw [L_impl_Store_tags_0.e,br_neg (by omega)]
def stable (l:List Node):List Tag:=match l.getLast? with | some x=>tagsOf x.store | none => []
theorem last_get {l:List Node} (h0:0<l.length):stable l=tagsOf (l[l.length - 1]'(by omega)).store:=by
 unfold stable
 rw [List.getLast?_eq_getElem?,List.getElem?_eq_getElem (by omega)]
end
end Go.Proofs.YthdfojchihooeaaGreat
namespace Go.Proofs.YthdfojchihooeaaGreat
open Go T


abbrev tx (l:List UInt8):ByteArray:=⟨⟨l⟩⟩
theorem tx_app {a b:List UInt8}:tx a++tx b=tx (a++b):=by
 apply ByteArray.ext
 simp [tx]
theorem tx_size {a:List UInt8}:(tx a).size=a.length:=rfl
theorem tx_toList {a:List UInt8}:(tx a).toList=a:=by rw [ByteArray.toList_eq]
theorem tx_eta (s:ByteArray):tx s.data.toList=s:=rfl
def decL (n:Nat):List UInt8:=if n<10 then [UInt8.ofNat (48+n)] else decL (n / 10) ++ [UInt8.ofNat (48+n % 10)]
termination_by n
decreasing_by omega
theorem decL_len (n:Nat):(decL n).length≤n+1:=by
 induction n using Nat.strongRecOn with
 | ind n ih =>
  unfold decL
  split
  ·simp
  ·have:=ih (n / 10) (by omega)
   simp only [List.length_append,List.length_singleton];omega
def valL (l:List UInt8):Nat:=l.foldl (fun a c=>a*10+(c.toNat - 48)) 0
theorem dig_val {k:Nat} (h:k<10):(UInt8.ofNat (48+k)).toNat=48+k:=by
 rw [UInt8.toNat_ofNat'];omega
theorem decL_val (n:Nat):valL (decL n)=n:=by
 induction n using Nat.strongRecOn with
 | ind n ih =>
  unfold decL
  split
  ·rename_i h;simp only [valL,List.foldl_cons,List.foldl_nil,dig_val h];omega
  ·have:=ih (n / 10) (by omega)
   simp only [valL,List.foldl_append,List.foldl_cons,List.foldl_nil] at this ⊢
   rw [this,dig_val (Nat.mod_lt _ (by decide))];omega
theorem decL_inj {n m:Nat} (h:decL n=decL m):n=m:=by rw [← decL_val n,← decL_val m,h]
theorem decL_dig (n:Nat):∀ c∈decL n,48≤c.toNat∧c.toNat≤57:=by
 induction n using Nat.strongRecOn with
 | ind n ih =>
  unfold decL
  split
  ·rename_i h
   intro c hc
   simp only [List.mem_singleton] at hc
   subst hc
   rw [dig_val h];omega
  ·intro c hc
   rw [List.mem_append] at hc
   rcases hc with hc | hc
   ·exact ih (n / 10) (by omega) c hc
   ·simp only [List.mem_singleton] at hc
    subst hc
    rw [dig_val (Nat.mod_lt _ (by decide))];omega
theorem decL_not {n:Nat}{c:UInt8} (hc:c.toNat<48):c∉decL n:=fun h=>by have:=decL_dig n c h;omega
def putTag (t:Tag):List UInt8:=decL t.time.toNat++46 :: decL t.place.toNat
def putPast (l:List Tag):List UInt8:=l.flatMap fun t=>32 :: putTag t
def putRest (v:Ver):List UInt8:=bif v.gone then [45] else 61 :: v.text.data.toList
def putVer (v:Ver):List UInt8:=decL v.key.toNat++32 ::(putTag v.tag++putPast v.past++32 :: putRest v)
theorem cut_inj {x:UInt8}:∀ {a a' b b':List UInt8},a++x :: b=a'++x :: b'→x∉a→x∉a'→a=a'∧b=b'
 | [],[],b,b',h,_,_=>⟨rfl,by simpa using h⟩
 | [],y :: a',b,b',h,_,h'=>by simp only [List.nil_append,List.cons_append,List.cons.injEq] at h;exact absurd (by simp [h.1]) h'
 | y :: a,[],b,b',h,h',_=>by simp only [List.nil_append,List.cons_append,List.cons.injEq] at h;exact absurd (by simp [h.1]) h'
 | y :: a,z :: a',b,b',h,h1,h2=>by
  simp only [List.cons_append,List.cons.injEq] at h
  simp only [List.mem_cons,not_or] at h1 h2
  obtain ⟨e1,e2⟩:=cut_inj h.2 h1.2 h2.2
  exact ⟨by rw [h.1,e1],e2⟩
theorem putTag_not {t:Tag}:(32:UInt8)∉putTag t:=by
 unfold putTag
 simp only [List.mem_append,List.mem_cons,not_or]
 exact ⟨decL_not (by decide),by decide,decL_not (by decide)⟩
theorem putTag_inj {t u:Tag} (ht:tagOk t.time t.place=true) (hu:tagOk u.time u.place=true) (h:putTag t=putTag u):t=u:=by
 have h1:=tagOk_time ht
 have h2:=tagOk_time hu
 obtain ⟨e1,e2⟩:=cut_inj h (decL_not (by decide)) (decL_not (by decide))
 have e1:=decL_inj e1
 have e2:=decL_inj e2
 cases t;cases u
 simp only [Tag.mk.injEq] at *
 omega
theorem putPast_inj:∀ {p q:List Tag}{r s:List UInt8},p.length=q.length→(∀ t∈p,tagOk t.time t.place=true)→(∀ t∈q,tagOk t.time t.place=true) →
  putPast p++32 :: r=putPast q++32 :: s→p=q∧r=s
 | [],[],r,s,_,_,_,h=>⟨rfl,by simpa [putPast] using h⟩
 | [],_ :: _,_,_,h,_,_,_=>by simp at h
 | _ :: _,[],_,_,h,_,_,_=>by simp at h
 | t :: p,u :: q,r,s,hl,hp,hq,h=>by
  have e:∀ (x:List Tag) (z:List UInt8),∃ w,putPast x++32 :: z=32 :: w:=by
   intro x z
   cases x with
   | nil=>exact ⟨z,rfl⟩
   | cons a x=>exact ⟨_,by simp only [putPast,List.flatMap_cons,List.cons_append];rfl⟩
  obtain ⟨w1,hw1⟩:=e p r
  obtain ⟨w2,hw2⟩:=e q s
  have h0:putTag t++(putPast p++32 :: r)=putTag u++(putPast q++32 :: s):=by
   simpa [putPast,List.flatMap_cons] using h
  rw [hw1,hw2] at h0
  obtain ⟨e1,e2⟩:=cut_inj h0 putTag_not putTag_not
  have et:=putTag_inj (hp t (by simp)) (hq u (by simp)) e1
  obtain ⟨e3,e4⟩:=putPast_inj (by simpa using hl) (fun x hx=>hp x (by simp [hx])) (fun x hx=>hq x (by simp [hx])) (show putPast p++32 :: r=putPast q++32 :: s by rw [hw1,hw2,e2])
  exact ⟨by rw [et,e3],e4⟩
theorem pastOk_all {p:List Tag} (h:pastOk p=true):∀ t∈p,tagOk t.time t.place=true:=by
 simp only [pastOk,Bool.and_eq_true,List.all_eq_true] at h;exact h.2
theorem verOk_parts {v:Ver} (h:verOk v=true):(0≤v.key∧v.key≤3)∧textOk v.text=true∧(v.gone=true→v.text.size=0)∧pastOk v.past=true∧tagOk v.tag.time v.tag.place=true∧latest v.past<v.tag.time:=by
 simp only [verOk,written,within,Bool.and_eq_true,decide_eq_true_eq,Bool.or_eq_true,Bool.not_eq_true',noText] at h
 obtain ⟨⟨⟨⟨⟨⟨h1,h2⟩,h3⟩,h4⟩,h5⟩,h6⟩,h7⟩:=h
 refine ⟨⟨h1,h2⟩,h3,fun hg=>?_,h5,h6,h7⟩
 rcases h4 with h4 | h4
 ·rw [hg] at h4;cases h4
 ·exact h4
theorem bytes_ext {s t:ByteArray} (h:s.data.toList=t.data.toList):s=t:=by
 rw [← tx_eta s,← tx_eta t,h]
theorem bytes_nil {s:ByteArray} (h:s.size=0):s.data.toList = []:=List.eq_nil_of_length_eq_zero (by simpa using h)
theorem putVer_inj {v u:Ver} (hv:verOk v=true) (hu:verOk u=true) (h:putVer v=putVer u):v=u:=by
 obtain ⟨⟨k1,k2⟩,_,g1,p1,t1,_⟩:=verOk_parts hv
 obtain ⟨⟨k3,k4⟩,_,g2,p2,t2,_⟩:=verOk_parts hu
 obtain ⟨e1,e2⟩:=cut_inj h (decL_not (by decide)) (decL_not (by decide))
 have e1:=decL_inj e1
 have l1:=pastOk_len p1
 have l2:=pastOk_len p2
 have e3:putPast (v.tag :: v.past)++32 :: putRest v=putPast (u.tag :: u.past)++32 :: putRest u:=by
  simp only [putPast,List.flatMap_cons,List.cons_append,List.append_assoc] at e2 ⊢
  rw [e2]
 obtain ⟨e4,e5⟩:=putPast_inj (by simp [l1,l2]) (fun t ht=>by
  rcases List.mem_cons.1 ht with rfl | ht
  ·exact t1
  ·exact pastOk_all p1 t ht) (fun t ht=>by
  rcases List.mem_cons.1 ht with rfl | ht
  ·exact t2
  ·exact pastOk_all p2 t ht) e3
 injection e4 with e6 e7
 have e8:v.gone=u.gone∧v.text=u.text:=by
  unfold putRest at e5
  cases hg:v.gone<;>cases hg2:u.gone<;>simp only [hg,hg2,cond_true,cond_false,List.cons.injEq] at e5
  ·exact ⟨rfl,bytes_ext e5.2⟩
  ·exact absurd e5.1 (by decide)
  ·exact absurd e5.1 (by decide)
  ·exact ⟨rfl,bytes_ext (by rw [bytes_nil (g1 hg),bytes_nil (g2 hg2)])⟩
 cases v;cases u
 simp only [Ver.mk.injEq] at *
 exact ⟨by omega,e6,e7,e8.2,e8.1⟩
theorem same_iff {v u:Ver}:sameVer v u=true↔v=u:=by
 cases v with | mk k1 t1 p1 s1 g1=>cases u with | mk k2 t2 p2 s2 g2 =>
 cases t1;cases t2
 simp only [sameVer,Bool.and_eq_true,beq_iff_eq,decide_eq_true_eq,Ver.mk.injEq,Tag.mk.injEq]
 constructor
 ·rintro ⟨⟨⟨⟨h1,h2⟩,h3⟩,h4⟩,h5⟩
  exact ⟨h1,h2,h3,bytes_ext (by rwa [ByteArray.toList_eq,ByteArray.toList_eq] at h4),h5⟩
 ·rintro ⟨h1,h2,h3,h4,h5⟩
  exact ⟨⟨⟨⟨h1,h2⟩,h3⟩,by rw [h4]⟩,h5⟩
theorem putVer_same {v u:Ver} (hv:verOk v=true) (hu:verOk u=true):(putVer v==putVer u)=sameVer v u:=by
 rw [Bool.eq_iff_iff,beq_iff_eq,same_iff]
 exact ⟨putVer_inj hv hu,fun h=>by rw [h]⟩
section
variable {lo:Nat}{ro ro':Bool}{h:Heap}{F F':List Nat}{a a':Option (Nat×Nat)}{c c':Option Nat}
theorem dig_bytes {n:Int} (h0:0≤n) (h1:n<10):bytesOf [IntKind.wrap .u8 (IntKind.wrap .i64 (48+n))]=tx [UInt8.ofNat (48+n.toNat)]:=by
 have e:IntKind.wrap .u8 (IntKind.wrap .i64 (48+n))=((48+n.toNat:Nat):Int):=by
  rw [wr (by omega) (by omega)]
  obtain ⟨k,rfl⟩:=Int.eq_ofNat_of_zero_le h0
  have:k<10:=by omega
  rcases k with _ | _ | _ | _ | _ | _ | _ | _ | _ | _ | k<;>first | rfl | omega
 rw [e]
 rfl
theorem spec_l1Dec:∀ {n:Int},0≤n→n≤1000000000→∀ {lo:Nat}{h:Heap},evl lo 354 [.int .i64 n] h=some (.str (tx (decL n.toNat)),h):=by
 suffices ∀ (m:Nat) (n:Int),n.toNat=m→0≤n→n≤1000000000→∀ {lo:Nat}{h:Heap},evl lo 354 [.int .i64 n] h=some (.str (tx (decL n.toNat)),h) from fun {n} h0 h1 {lo}{h}=>this n.toNat n rfl h0 h1
 intro m
 induction m using Nat.strongRecOn with
 | ind m ih =>
  intro n hm h0 h1 lo h
  by_cases h10:n<10
  ·refine E_spec_l1Dec (h':=h ++ [.rows 1 5 false [[.int .u8 (IntKind.wrap .u8 (IntKind.wrap .i64 (48+n)))]]]) ?_
   rw [br_neg (by omega),br_neg (by omega),br_pos h10]
   simp only [rows_one,byteRows,eO_s]
   rw [dig_bytes h0 h10]
   unfold decL
   rw [if_pos (by omega)]
  ·have e1:n.tdiv 10=n / 10:=Int.tdiv_eq_ediv_of_nonneg h0
   have e2:n.tmod 10=n % 10:=Int.tmod_eq_emod_of_nonneg h0
   refine E_spec_l1Dec (h':=h ++ [.rows 1 5 false [[.int .u8 (IntKind.wrap .u8 (IntKind.wrap .i64 (48+n.tmod 10)))]]]) ?_
   have hl:=decL_len (n / 10).toNat
   rw [br_neg (by omega),br_neg (by omega),br_neg h10,e1,wr (by omega) (by omega),ih (n / 10).toNat (by omega) (n / 10) rfl (by omega) (by omega)]
   simp only [cal_s,eT_s,rows_one,byteRows,eO_s]
   rw [e2,dig_bytes (by omega) (by omega),cat_of (by rw [tx_size,tx_size];simp only [List.length_singleton];omega),tx_app]
   conv=>rhs;unfold decL
   rw [if_neg (by omega),show (n / 10).toNat=n.toNat / 10 by omega,show (n % 10).toNat=n.toNat % 10 by omega]
theorem putTag_len {t:Tag} (h:tagOk t.time t.place=true):(putTag t).length≤1010:=by
 have h1:=tagOk_time h
 have h2:=decL_len t.time.toNat
 have h3:=decL_len t.place.toNat
 simp only [putTag,List.length_append,List.length_cons];omega
theorem spec_l1Put {t:Tag} (ht:tagOk t.time t.place=true):evl lo 355 [.agg [.int .i64 t.time,.int .i64 t.place]] h=some (.str (tx (putTag t)),h):=by
 have h1:=tagOk_time ht
 have h2:=decL_len t.time.toNat
 have h3:=decL_len t.place.toNat
 refine E_spec_l1Put (h':=h) ?_
 rw [spec_l1Dec (by omega) (by omega)]
 simp only [cal_s,eT_s]
 rw [cat_of (by rw [tx_size,tx_size];simp only [List.length_singleton];omega),tx_app,spec_l1Dec (by omega) (by omega)]
 simp only [cal_s,eT_s]
 rw [cat_of (by rw [tx_size,tx_size];simp only [List.length_append,List.length_singleton];omega),tx_app]
 simp [putTag]
theorem putPast_len {l:List Tag} (h:∀ t∈l,tagOk t.time t.place=true):(putPast l).length≤1011*l.length:=by
 induction l with
 | nil=>simp [putPast]
 | cons t l ih =>
  have h1:=ih fun x hx=>h x (by simp [hx])
  have h2:=putTag_len (h t (by simp))
  simp only [putPast,List.flatMap_cons,List.length_append,List.length_cons] at h1 ⊢;omega
theorem spec_l2Past {l:List Tag} (hs:RTags ro h [.sl 2 a l.length c] l F) (hp:∀ t∈l,tagOk t.time t.place=true) (hn:l.length≤1048576):evl lo 356 [.agg [.sl 2 a l.length c]] h=some (.str (tx (putPast l)),h):=by
 refine E_spec_l2Past (h':=h) ?_
 have loop:∀ m i,m+i=l.length→L_spec_l2Past_0 (List.length h) (tx (putPast (l.take i))) (i:Nat) a l.length c h=some (.str (tx (putPast l)),h):=by
  intro m
  induction m with
  | zero =>
   intro i hi
   have:i=l.length:=by omega
   subst this
   rw [L_spec_l2Past_0.e,br_neg (by omega),List.take_length]
  | succ m ih =>
   intro i hi
   have hlt:i<l.length:=by omega
   obtain ⟨o,ha,ho⟩:=hs.get hlt
   have hl:=putPast_len (l:=l.take i) fun t ht=>hp t (List.mem_of_mem_take ht)
   have hl2:=putTag_len (hp _ (List.getElem_mem hlt))
   simp only [List.length_take] at hl
   rw [L_spec_l2Past_0.e,br_pos (by omega),cat_of (by rw [tx_size,tx_size];simp only [List.length_singleton];omega),inB_nat hlt]
   simp only [ha,eO_s,Int.toNat_natCast,ho,eC_c,eI_int,eN_n]
   rw [spec_l1Put (hp _ (List.getElem_mem hlt))]
   simp only [cal_s,eT_s]
   rw [tx_app,cat_of (by rw [tx_size,tx_size];simp only [List.length_append,List.length_singleton];omega),tx_app,wr_succ (by omega),← ha]
   have e9:putPast (l.take (i+1))=putPast (l.take i) ++ [32]++putTag l[i]:=by
    rw [List.take_add_one,List.getElem?_eq_getElem hlt]
    simp only [putPast,Option.toList,List.flatMap_append,List.flatMap_cons,List.flatMap_nil,List.append_nil,List.append_assoc,List.singleton_append]
   have:=ih (i+1) (by omega)
   rw [e9] at this
   exact this
 simpa [putPast] using loop l.length 0 (by omega)
theorem textOk_size {s:ByteArray} (h:textOk s=true):s.size≤8:=by
 simp only [textOk,Bool.and_eq_true,decide_eq_true_eq] at h;omega
theorem spec_l2Put {v:Ver} (hs:RTags ro h [.sl 2 a v.past.length c] v.past F) (hv:verOk v=true):evl lo 330 [.agg (v.cs a c)] h=some (.str (tx (putVer v)),h):=by
 obtain ⟨⟨k1,k2⟩,ht,_,hp,htg,_⟩:=verOk_parts hv
 have h0:=textOk_size ht
 have h4:=pastOk_len hp
 have h1:=decL_len v.key.toNat
 have h2:=putTag_len htg
 have h3:=putPast_len (pastOk_all hp)
 rw [h4] at h3
 have e:=fun lo=>spec_l2Past (lo:=lo) hs (pastOk_all hp) (by omega)
 have hts:(⟨⟨[61]⟩⟩:ByteArray)++v.text=tx (61 :: v.text.data.toList):=by rw [← tx_eta v.text];exact tx_app
 have key:∀ (r:List UInt8) {T:Type} (K:ByteArray→Heap→Option T),r.length≤9→(cal (evl (List.length h) 354 [.int .i64 v.key] h) fun v_1 h_2=>eT v_1 fun s_3=>cat s_3 ⟨⟨[32]⟩⟩ fun s_4=>cal (evl (List.length h) 355 [.agg [.int .i64 v.tag.time,.int .i64 v.tag.place]] h_2) fun v_5 h_6=>eT v_5 fun s_7=>cat s_4 s_7 fun s_8 =>
   cal (evl (List.length h) 356 [.agg [.sl 2 a v.past.length c]] h_6) fun v_9 h_10=>eT v_9 fun s_11=>cat s_8 s_11 fun s_12=>cat s_12 ⟨⟨[32]⟩⟩ fun s_13=>cat s_13 (tx r) fun s_14=>K s_14 h_10)=K (tx (decL v.key.toNat++32 ::(putTag v.tag++putPast v.past++32 :: r))) h:=by
  intro r T K hr
  rw [spec_l1Dec (by omega) (by omega)]
  simp only [cal_s,eT_s]
  rw [cat_of (by rw [tx_size,tx_size];simp only [List.length_singleton];omega)]
  rw [spec_l1Put htg]
  simp only [cal_s,eT_s]
  rw [tx_app,cat_of (by rw [tx_size,tx_size];simp only [List.length_append,List.length_singleton];omega)]
  rw [e]
  simp only [cal_s,eT_s]
  rw [tx_app,cat_of (by rw [tx_size,tx_size];simp only [List.length_append,List.length_singleton];omega)]
  rw [tx_app,cat_of (by rw [tx_size,tx_size];simp only [List.length_append,List.length_singleton];omega)]
  rw [tx_app,cat_of (by rw [tx_size,tx_size];simp only [List.length_append,List.length_singleton];omega)]
  rw [tx_app]
  simp
 refine E_spec_l2Put (h':=h) ?_
 rw [cat_of (by rw [tx_size];simp only [List.length_singleton];omega),hts]
 cases hg:v.gone
 ·rw [br_f]
  refine (key (61 :: v.text.data.toList) (T:=V×Heap) (fun s h=>some (V.str s,h)) (by simp;omega)).trans ?_
  simp [putVer,putRest,hg]
 ·rw [br_t]
  refine (key [45] (T:=V×Heap) (fun s h=>some (V.str s,h)) (by simp)).trans ?_
  simp [putVer,putRest,hg]
theorem spec_l2Same {v u:Ver} (hs:RTags ro h [.sl 2 a v.past.length c] v.past F) (hs':RTags ro' h [.sl 2 a' u.past.length c'] u.past F') (hv:verOk v=true) (hu:verOk u=true) :
  evl lo 275 [.agg (v.cs a c),.agg (u.cs a' c')] h=some (.bool (sameVer v u),h):=by
 refine E_spec_l2Same (h':=h) ?_
 rw [spec_l2Put hs hv];simp only [cal_s,eT_s]
 rw [spec_l2Put hs' hu];simp only [cal_s,eT_s,tx_toList]
 rw [putVer_same hv hu]
 cases sameVer v u<;>rfl
end
end Go.Proofs.YthdfojchihooeaaGreat
namespace Go.Proofs.YthdfojchihooeaaGreat
open Go T


theorem Sli.at {α:Type}{El:Rel α} (ok:El.Ok) {h:Heap}{R R' e n k lo:Nat}{a:Option (Nat×Nat)}{c:Option Nat}{l:List α}{F:List Nat} (hs:Sli false R e El h [.sl R' a n c] l F) (hk:k<l.length) (hnd:F.Nodup) (hlo:∀ b∈F,lo≤b) :
  ∃ b i rs row G,a=some (b,i)∧b∈F∧b∉G∧h[b]?=some (.rows R e false rs)∧rs[i+k]?=some row∧El h row l[k] G∧(∀ y∈G,y∈F)∧G.Nodup ∧
   (∀ h' x' G',Mv h G h' G'→El h' row x' G'→∃ F',Sli false R e El h' [.sl R' a n c] (l.set k x') F'∧Mv h F h' F') ∧
   (∀ h1 G1 j cs row' x',Mv h G h1 G1→paste row j cs=some row'→El h1 row' x' G1 →
    ∃ h2 F',st lo h1 b (i+k) j cs=some h2∧Sli false R e El h2 [.sl R' a n c] (l.set k x') F'∧Mv h F h2 F'∧h2[b]?=some (.rows R e false (rs.set (i+k) row'))∧(∀ y,y≠b→h2[y]?=h1[y]?)∧h2.length=h1.length):=by
 have hbd:=(Sli.ok ok).bd _ _ _ _ hs
 obtain ⟨b,i,rs,row,G,ha,hbF,hbG,hb,hrow,hel,hGF,hGn,put⟩:=hs.put ok.fr hk hnd
 have hblt:b<h.length:=hbd b hbF
 refine ⟨b,i,rs,row,G,ha,hbF,hbG,hb,hrow,hel,hGF,hGn,fun h' x' G' m hx=>?_,fun h1 G1 j cs row' x' m hp hx=>?_⟩
 ·obtain ⟨F',p1,p2,p3,_⟩:=put h' row x' G' (by rw [set_same hrow,m.fr b hblt hbG];exact hb) (fun y hy _ hyG=>m.fr y (hbd y hy) hyG) hx m.nd (fun y hy hyF=>by
   rcases m.sub y hy with h1 | h1
   ·exact h1
   ·have:=hbd y hyF;omega)
  refine ⟨F',p1,m.le,fun y hy hyF=>m.fr y hy fun hg=>hyF (hGF y hg),p3,fun y hy=>?_⟩
  rcases p2 y hy with h1 | h1
  ·exact .inl h1.1
  ·exact (m.sub y h1).imp (hGF y) id
 ·have hbG1:b∉G1:=fun hm=>by
   rcases m.sub b hm with h1 | h1
   ·exact hbG h1
   ·omega
  have hb1:h1[b]?=some (.rows R e false rs):=by rw [m.fr b hblt hbG];exact hb
  have hb1lt:b<h1.length:=Nat.lt_of_lt_of_le hblt m.le
  have e2:=st_first hb1 (hlo b hbF) hrow hp
  have fr2:∀ y,y≠b→(h1.set b (.rows R e false (rs.set (i+k) row')))[y]?=h1[y]?:=fun y hy=>List.getElem?_set_ne (Ne.symm hy)
  obtain ⟨F',p1,p2,p3,_⟩:=put (h1.set b (.rows R e false (rs.set (i+k) row'))) row' x' G1 (by simp [hb1lt]) (fun y hy hyb hyG=>by rw [fr2 y hyb];exact m.fr y (hbd y hy) hyG)
   (ok.fr _ _ _ _ _ hx fun y hy=>fr2 y fun e=>hbG1 (e ▸ hy)) m.nd (fun y hy hyF=>by
   rcases m.sub y hy with h1 | h1
   ·exact h1
   ·have:=hbd y hyF;omega)
  refine ⟨_,F',e2,p1,⟨by simpa using m.le,fun y hy hyF=>?_,p3,fun y hy=>?_⟩,by simp [hb1lt],fr2,by simp⟩
  ·rw [fr2 y fun e=>hyF (e ▸ hbF)]
   exact m.fr y hy fun hg=>hyF (hGF y hg)
  ·rcases p2 y hy with h1 | h1
   ·exact .inl h1.1
   ·refine (m.sub y h1).imp (hGF y) fun h=>by simpa using h
def lessV (v u:Ver):Bool:=less v.tag.time v.tag.place u.tag.time u.tag.place
def sameVers (s t:List Ver):Bool:=decide (s.length=t.length)&&(s.zip t).all fun x=>sameVer x.1 x.2
theorem sameVers_iff {s t:List Ver}:sameVers s t=true↔s=t:=by
 unfold sameVers
 rw [Bool.and_eq_true,decide_eq_true_eq,List.all_eq_true]
 constructor
 ·rintro ⟨hl,hx⟩
  apply List.ext_getElem hl
  intro i h1 h2
  have:=hx (s[i],t[i]) (by rw [List.mem_iff_getElem];exact ⟨i,by simp;omega,by simp⟩)
  exact same_iff.1 this
 ·rintro rfl
  refine ⟨rfl,fun x hx=>?_⟩
  obtain ⟨i,hi,rfl⟩:=List.mem_iff_getElem.1 hx
  simp [same_iff]
def addVer (l:List Ver) (v:Ver):List Ver:=match l[v.key.toNat]? with
 | some x=>bif lessV x v then l.set v.key.toNat v else l
 | none=>l
theorem addVer_get {l:List Ver}{v:Ver} (h:v.key.toNat<l.length):addVer l v=bif lessV l[v.key.toNat] v then l.set v.key.toNat v else l:=by
 unfold addVer;rw [List.getElem?_eq_getElem h]
theorem addVer_len {l:List Ver}{v:Ver}:(addVer l v).length=l.length:=by
 unfold addVer
 split
 ·cases lessV _ v<;>simp
 ·rfl
theorem verAt_ok {v:Ver} (h:verOk v=true):verAt v.key.toNat v=true:=by
 have:=(verOk_parts h).1
 unfold verAt
 rw [h,show (v.key==((v.key.toNat:Nat):Int))=true by rw [beq_iff_eq];omega];simp
theorem storeOk_set {l:List Ver}{v:Ver} (hl:storeOk l=true) (hv:verOk v=true):storeOk (l.set v.key.toNat v)=true:=by
 have h4:=storeOk_len hl
 unfold storeOk
 rw [Bool.and_eq_true,List.all_eq_true,decide_eq_true_eq]
 refine ⟨fun x hx=>?_,by simpa using h4⟩
 rw [List.mem_zipIdx_iff_getElem?] at hx
 have hi:=(List.getElem?_eq_some_iff.1 hx).1
 rw [List.getElem?_set] at hx
 split at hx
 ·rename_i he
  split at hx
  ·injection hx with hx
   rw [← hx,← he];exact verAt_ok hv
  ·cases hx
 ·rw [List.getElem?_eq_getElem (by simpa using hi)] at hx
  injection hx with hx
  rw [← hx]
  exact storeOk_get hl _
theorem storeOk_add {l:List Ver}{v:Ver} (hl:storeOk l=true) (hv:verOk v=true):storeOk (addVer l v)=true:=by
 unfold addVer
 split
 ·cases lessV _ v
  ·exact hl
  ·exact storeOk_set hl hv
 ·exact hl
def fitsL:List Ver→List Ver→Option (List Ver)
 | s,[]=>some s
 | s,v :: r=>match s[v.key.toNat]? with
  | some x=>bif lessV x v then fitsL (s.set v.key.toNat v) r else none
  | none=>none
def fits (x:Node) (next:List Ver):Bool:=match fitsL next x.wait with
 | some s=>sameVers s x.store
 | none=>false
def nodeOk (x:Node):Bool:=storeOk x.store&&decide ((x.wait.length:Int)≤6)&&x.wait.all verOk
def linkAt (l:List Node) (k:Nat) (x:Node):Bool:=match l[k+1]? with
 | some y=>fits x y.store
 | none=>decide (x.wait.length=0)
def chainOk (l:List Node):Bool:=within l.length 1 4&&l.all nodeOk&&l.zipIdx.all fun x=>linkAt l x.2 x.1
theorem nodeOk_parts {x:Node} (h:nodeOk x=true):storeOk x.store=true∧x.wait.length≤6∧∀ v∈x.wait,verOk v=true:=by
 simp only [nodeOk,Bool.and_eq_true,decide_eq_true_eq,List.all_eq_true] at h
 exact ⟨h.1.1,by have:=h.1.2;omega,h.2⟩
section
variable {lo:Nat}{h:Heap}{F F':List Nat}{a a':Option (Nat×Nat)}{c c':Option Nat}
theorem impl_later {l:List Ver}{v:Ver}{ro:Bool}{ca:Option (Nat×Nat)}{cc:Option Nat}{n:Nat} (hs:RVers ro h [.sl 6 a l.length c] l F) (hk:0≤v.key∧v.key<l.length) :
  evl lo 239 [.agg [.sl 6 a l.length c],.agg [.int .i64 v.key,.int .i64 v.tag.time,.int .i64 v.tag.place,.sl 2 ca n cc,.str v.text,.bool v.gone]] h=some (.bool (lessV (l[v.key.toNat]'(by omega)) v),h):=by
 refine E_impl_Store_later (h':=h) ?_
 obtain ⟨o,s,b,d,G,ha,_,_,_,_,_,_,ho12,_⟩:=hs.all (show v.key.toNat<l.length by omega)
 rw [inB_in ⟨by omega,by omega⟩,ha]
 simp only [eO_s,ho12,eC_c,eI_int,eN_n,impl_TagLess,cal_s,eB_b]
 unfold lessV
 cases less _ _ _ _<;>rfl
theorem impl_EqualFunc {l l':List Ver}{ro ro':Bool} (hs:RVers ro h [.sl 6 a l.length c] l F) (hs':RVers ro' h [.sl 6 a' l'.length c'] l' F') (hn:smVers l) :
  evl lo 266 [.sl 6 a l.length c,.sl 6 a' l'.length c',.fn 233 []] h=some (.bool (sameVers l l'),h):=by
 have hn1:=hn.1
 refine E_slices_EqualFunc_impl_Ver_impl_Ver_impl_Ver_impl_Ver (h':=h) ?_
 unfold sameVers
 by_cases hl:l.length=l'.length
 ·rw [show ((l.length:Int)==(l'.length:Int))=true by simp;omega,br_t,decide_eq_true hl]
  have hz:(l.zip l').length=l.length:=by simp;omega
  refine (all_loop (p:=fun x:Ver×Ver=>sameVer x.1 x.2) (l:=l.zip l') (fun i=>L_slices_EqualFunc_impl_Ver_impl_Ver_impl_Ver_impl_Ver_0 (List.length h) a' l'.length c' 233 [] false a l.length c (l.length:Nat) (i:Nat) h) (some (.bool false,h)) (some (.bool true,h)) (fun i hi=>?_) ?_).trans ?_
  ·have hil:i<l.length:=by omega
   have hil':i<l'.length:=by omega
   obtain ⟨o,s,b,d,G,ha,ho,es,hp,_⟩:=hs.get hil
   obtain ⟨o',s',b',d',G',ha',ho',es',hp',_⟩:=hs'.get hil'
   rw [L_slices_EqualFunc_impl_Ver_impl_Ver_impl_Ver_impl_Ver_0.e,br_pos (by omega),inB_nat hil]
   simp only [ha,ha',eO_s,Int.toNat_natCast,ho,ho',eC_c,eI_int,es,es',eT_s,eBv_b,eN_n,inB_nat hil',fnArgs,List.append_nil]
   rw [impl_same hp hp' (hn.2 _ (List.getElem_mem hil)).1]
   simp only [cal_s,eB_b,List.getElem_zip,wr_succ (show i<9223372036854775807 by omega)]
   cases sameVer l[i] l'[i]<;>simp
  ·rw [hz,L_slices_EqualFunc_impl_Ver_impl_Ver_impl_Ver_impl_Ver_0.e,br_neg (by omega)]
  ·cases (l.zip l').all fun x=>sameVer x.1 x.2<;>rfl
 ·rw [show ((l.length:Int)==(l'.length:Int))=false by simp;omega,br_f,decide_eq_false hl];rfl
theorem impl_Store_same {l l':List Ver}{ro ro':Bool} (hs:RVers ro h [.sl 6 a l.length c] l F) (hs':RVers ro' h [.sl 6 a' l'.length c'] l' F') (hn:smVers l) :
  evl lo 240 [.agg [.sl 6 a l.length c],.agg [.sl 6 a' l'.length c']] h=some (.bool (sameVers l l'),h):=by
 refine E_impl_Store_same (h':=h) ?_
 rw [impl_EqualFunc hs hs' hn];simp only [cal_s,eB_b]
 cases sameVers l l'<;>rfl
theorem spec_l2Add {l:List Ver}{v:Ver}{av:Option (Nat×Nat)}{cv:Option Nat}{G:List Nat} (hs:RVers false h [.sl 6 a l.length c] l F) (hv:RTags false h [.sl 2 av v.past.length cv] v.past G)
  (hnd:F.Nodup) (hlo:∀ b∈F,lo≤b) (hl:lo≤h.length) (hk:0≤v.key∧v.key<l.length) (hn:v.past.length≤1048576) :
  ∃ h' F',evl lo 312 [.agg [.sl 6 a l.length c],.agg (v.cs av cv)] h=some (.agg [.sl 6 a l.length c],h')∧RVers false h' [.sl 6 a l.length c] (addVer l v) F'∧Mv h F h' F':=by
 have hkl:v.key.toNat<l.length:=by omega
 obtain ⟨o,s,b,d,G1,ha,_,_,_,_,_,_,ho12,_⟩:=hs.all hkl
 suffices hk:∃ h' F',_=some (V.agg [.sl 6 a l.length c],h')∧RVers false h' [.sl 6 a l.length c] (addVer l v) F'∧Mv h F h' F' from hk.imp fun h' hk=>hk.imp fun F' hk=>⟨E_spec_l2Add hk.1,hk.2⟩
 rw [inB_in ⟨by omega,by omega⟩]
 simp only [ha,eO_s,ho12,eC_c,eI_int,eN_n,spec_l1Less,cal_s,eB_b]
 rw [addVer_get hkl]
 show ∃ h' F',br (lessV l[v.key.toNat] v) _ _=_∧_
 cases hle:lessV l[v.key.toNat] v with
 | false=>exact ⟨h,F,rfl,by rw [← ha];exact hs,Mv.refl hnd⟩
 | true =>
  obtain ⟨b2,i2,rs,row,G2,ha2,hb2,hbG2,hbb,hrow,hel,hGF,hGn,_,wr⟩:=hs.at rver_ok hkl hnd hlo
  obtain ⟨a3,c3,h3,F3,e3,r3,m3⟩:=spec_l2Copy (lo:=lo) (v:=v) hv hl hn
  have hab:o=(b2,i2):=by rw [ha] at ha2;injection ha2
  subst hab
  obtain ⟨h4,F4,e4,r4,m4,_⟩:=wr h3 F3 0 (v.cs a3 c3) (v.cs a3 c3) v (m3.wide (by simp)) (paste_all (by obtain ⟨s,rfl,_⟩:=hel;rfl)) ⟨_,rfl,r3⟩
  rw [br_t,e3]
  simp only [cal_s,eA_a,eC_c,eI_int,eS_sl,eT_s,eBv_b,eN_n]
  rw [inB_in ⟨by omega,by omega⟩,e4]
  exact ⟨h4,F4,rfl,by rw [← ha];exact r4,m4⟩
end
end Go.Proofs.YthdfojchihooeaaGreat
namespace Go.Proofs.YthdfojchihooeaaGreat
open Go T


theorem br_if {T:Type}{b:Bool}{x y:Option T}:br b x y=if b=true then x else y:=by cases b<;>rfl
theorem Sli.row {α:Type}{El:Rel α} (hfr:El.Fr) {R R' e n k lo b i:Nat} (hln:El.Ln R) {h:Heap}{c:Option Nat}{l:List α}{G Gx:List Nat}{row:List V}{x:α} (hs:Sli false R e El h [.sl R' (some (b,i)) n c] l (b :: G)) (hb:b∉G) (hk:k<l.length) (hlo:lo≤b)
  (hx:El h row x Gx) (hbx:b∉Gx):∃ h' G',st lo h b (i+k) 0 row=some h'∧Sli false R e El h' [.sl R' (some (b,i)) n c] (l.set k x) (b :: G')∧b∉G'∧h'.length=h.length∧∀ y,y≠b→h'[y]?=h[y]?:=by
 have hn:=hs.val
 subst hn
 obtain ⟨R1,a1,c1,e1,e2⟩:=hs
 injection e1 with e1 _;injection e1 with e0 e3 _ e4
 subst e0;subst e3;subst e4
 obtain ⟨hR,rs,Fs,g1,g2,g3,g4,g5,g6⟩:=e2
 injection g6 with _ g6
 subst g6
 obtain ⟨row0,G0,k1,k2,k3⟩:=g5.get (List.getElem?_eq_getElem hk)
 have hblt:b<h.length:=(List.getElem?_eq_some_iff.1 g1).1
 have hrow:rs[i+k]?=some row0:=by rw [List.getElem?_take_of_lt hk,List.getElem?_drop] at k1;exact k1
 have hp:paste row0 0 row=some row:=paste_all (by rw [hln _ _ _ _ k3,hln _ _ _ _ hx])
 have fr2:∀ y,y≠b→(h.set b (.rows R e false (rs.set (i+k) row)))[y]?=h[y]?:=fun y hy=>List.getElem?_set_ne (Ne.symm hy)
 have hl1:((rs.set (i+k) row).drop i).take l.length=((rs.drop i).take l.length).set k row:=by
  rw [List.drop_set,if_neg (by omega),show i+k - i=k by omega,List.take_set]
 refine ⟨_,(Fs.set k Gx).flatten,st_first g1 hlo hrow hp,⟨R',some (b,i),c,by simp,hR,rs.set (i+k) row,Fs.set k Gx,by simp [hblt],by simpa using g2,fun q hq=>by simpa using g3 q hq,g4,?_,rfl⟩,fun hm=>?_,by simp,fr2⟩
 ·rw [List.length_set,hl1]
  exact EAll.set (g5.fr hfr fun y hy=>fr2 y fun e=>hb (e ▸ hy)) (hfr _ _ _ _ _ hx fun y hy=>fr2 y fun e=>hbx (e ▸ hy))
 ·rcases flatten_set_mem hm with h6 | h6
  ·exact hb h6
  ·exact hbx h6
theorem rver_ln {ro:Bool}:(RVer ro).Ln 6:=by rintro h cs x F ⟨s,rfl,_⟩;rfl
theorem zero_is {v:Ver} (h:zeroVer v=true):v=⟨0,⟨0,0⟩,[],⟨⟨[]⟩⟩,false⟩:=by
 obtain ⟨k,⟨t1,t2⟩,p,s,g⟩:=v
 simp only [zeroVer,noText,Bool.and_eq_true,beq_iff_eq,decide_eq_true_eq,Bool.not_eq_true'] at h
 obtain ⟨⟨⟨⟨h1,h2,h3⟩,h4⟩,h5⟩,h6⟩:=h
 simp only [Ver.mk.injEq,Tag.mk.injEq]
 exact ⟨h1,⟨h2,h3⟩,List.eq_nil_of_length_eq_zero h4,bytes_ext (by rw [bytes_nil h5]),h6⟩
theorem verAt_case {i:Nat}{v:Ver} (h:verAt i v=true):zeroVer v=true∨(verOk v=true∧v.key=i):=by
 simp only [verAt,Bool.or_eq_true,Bool.and_eq_true,beq_iff_eq] at h;exact h
theorem zero_time {v:Ver} (h:zeroVer v=true):v.tag.time=0∧v.tag.place=0:=by rw [zero_is h];exact ⟨rfl,rfl⟩
theorem smVers_sub {l l':List Ver} (h:smVers l) (hl:l'.length≤1048576) (hs:∀ v∈l',v∈l):smVers l':=⟨hl,fun v hv=>h.2 v (hs v hv)⟩
theorem storeOk_sm {l:List Ver} (h:storeOk l=true):smVers l:=by
 refine ⟨by have:=storeOk_len h;omega,fun v hv=>?_⟩
 obtain ⟨i,hi,rfl⟩:=List.mem_iff_getElem.1 hv
 rcases verAt_case (storeOk_get h hi) with h1 | ⟨h1,_⟩
 ·rw [zero_is h1];exact ⟨by simp,by show 0≤_;omega⟩
 ·obtain ⟨_,h2,_,h3,_⟩:=verOk_parts h1
  have:=textOk_size h2
  have:=pastOk_len h3
  omega
section
variable {lo:Nat}{h:Heap}{F F':List Nat}{a a':Option (Nat×Nat)}{c c':Option Nat}
theorem impl_nodesOk {n:Int}:evl lo 118 [.int .i64 n] h=some (.bool (within n 1 4),h):=E_impl_nodesOk (h':=h) (by simp [impl_within])
theorem impl_last {n k:Nat} (hn:n≤1048576):evl lo 123 [.agg [.sl 2 a n c],.int .i64 (k:Nat)] h=some (.bool (decide (k+1=n)),h):=by
 refine E_impl_Chain_last (h':=h) ?_
 rw [wr (by omega) (by omega)]
 by_cases hk:k+1=n
 ·rw [show ((k:Int)==(n:Int) - 1)=true by rw [beq_iff_eq];omega,decide_eq_true hk];rfl
 ·rw [show ((k:Int)==(n:Int) - 1)=false by rw [beq_eq_false_iff_ne];omega,decide_eq_false hk];rfl
theorem impl_fits {x:Node}{next:List Ver}{a1 a2 a3:Option (Nat×Nat)}{c1 c2 c3:Option Nat}{F1 F2 F3:List Nat} (hs1:RVers false h [.sl 6 a1 x.store.length c1] x.store F1) (hs2:RVers false h [.sl 6 a2 x.wait.length c2] x.wait F2)
  (hs3:RVers false h [.sl 6 a3 next.length c3] next F3) (hx:nodeOk x=true) (hnx:storeOk next=true) :
  evl lo 124 [.agg [.sl 6 a1 x.store.length c1,.sl 6 a2 x.wait.length c2],.agg [.sl 6 a3 next.length c3]] h=some (.bool (fits x next),h):=by
 obtain ⟨hx1,hx2,hx3⟩:=nodeOk_parts hx
 obtain ⟨a5,c5,h5,F5,e5,r5,m5⟩:=impl_Store_copied (lo:=h.length) hs3 (Nat.le_refl _) (storeOk_sm hnx)
 have h4:=storeOk_len hnx
 suffices hk:∃ h',_=some (V.bool (fits x next),h') from hk.elim fun h' hk=>E_impl_Node_fits hk
 rw [e5];simp only [cal_s,eA_a,eC_c,eS_sl,eN_n]
 have loop:∀ m i s hh b j G,m+i=x.wait.length→storeOk s=true→RVers false hh [.sl 6 (some (b,j)) s.length c5] s (b :: G)→b∉G→h.length≤b→Mv h [] hh [] →
   ∃ h',L_impl_Node_fits_0 (List.length h) false a2 x.wait.length c2 (x.wait.length:Nat) (i:Nat) a1 x.store.length c1 a2 x.wait.length c2 (some (b,j)) s.length c5 hh=some (V.bool (match fitsL s (x.wait.drop i) with | some s=>sameVers s x.store | none=>false),h'):=by
  intro m
  induction m with
  | zero =>
   intro i s hh b j G hi hso hs hb hbl hm
   rw [L_impl_Node_fits_0.e,br_neg (by omega),impl_Store_same hs (hm.keep0 rvers_ok hs1) (storeOk_sm hso),show i=x.wait.length by omega,List.drop_length]
   simp only [cal_s,eB_b,fitsL]
   exact ⟨hh,by cases sameVers s x.store<;>rfl⟩
  | succ m ih =>
   intro i s hh b j G hi hso hs hb hbl hm
   have hlt:i<x.wait.length:=by omega
   have hvo:=hx3 _ (List.getElem_mem hlt)
   have hk:=(verOk_parts hvo).1
   have hs4:=storeOk_len hso
   have hkl:x.wait[i].key.toNat<s.length:=by omega
   obtain ⟨o,sv,b',d',G',ha,ho,es,hp,hG'⟩:=(hm.keep0 rvers_ok hs2).get hlt
   have hbl2:=rvers_ok.bd _ _ _ _ hs2
   rw [L_impl_Node_fits_0.e,br_pos (by omega),inB_nat hlt]
   simp only [ha,eO_s,Int.toNat_natCast,ho,eC_c,eI_int,es,eT_s,eBv_b,eN_n]
   rw [impl_later (v:=x.wait[i]) hs ⟨by omega,by omega⟩]
   simp only [cal_s,eB_b]
   rw [List.drop_eq_getElem_cons hlt]
   simp only [fitsL,List.getElem?_eq_getElem hkl]
   cases hle:lessV s[x.wait[i].key.toNat] x.wait[i] with
   | false=>exact ⟨hh,rfl⟩
   | true =>
    obtain ⟨h6,G6,e6,r6,n6,l6,f6⟩:=Sli.row rver_ok.fr rver_ln hs hb hkl hbl (row:=x.wait[i].cs b' d') (x:=x.wait[i]) ⟨_,rfl,hp⟩ (fun hm'=>by have:=hbl2 _ (hG' _ hm');omega)
    rw [br_t,inB_in ⟨by omega,by omega⟩,e6,cond_true]
    simp only [eO_s]
    rw [← ha,wr_succ (by omega)]
    have m6:Mv h [] h6 []:=⟨by rw [l6];exact hm.le,fun y hy hF=>by rw [f6 y (by omega)];exact hm.fr y hy hF,by simp,by simp⟩
    have:=ih (i+1) (s.set x.wait[i].key.toNat x.wait[i]) h6 b j G6 (by omega) (storeOk_set hso hvo) (by rw [List.length_set];exact r6) n6 hbl m6
    rw [List.length_set] at this
    exact this
 have:∃ b j G,a5=some (b,j)∧F5=b :: G∧b∉G∧h.length≤b:=by
  obtain ⟨b,i,rs,Fs,h1,h2,_,_,_,_,rfl⟩:=r5.data (k:=0) (by omega)
  exact ⟨b,i,_,h1,rfl,(List.nodup_cons.1 m5.nd).1,m5.new b (by simp)⟩
 obtain ⟨b,j,G,rfl,rfl,hb,hbl⟩:=this
 have:=loop x.wait.length 0 next h5 b j G (by omega) hnx r5 hb hbl m5.drop
 exact this
theorem impl_ChainOk {l:List Node} (hs:RNodes false h [.sl 2 a l.length c] l F) (hn:smNodes l):evl lo 40 [.agg [.sl 2 a l.length c]] h=some (.bool (chainOk l),h):=by
 have hn1:=hn.1
 refine E_impl_ChainOk (h':=h) ?_
 rw [impl_nodesOk];simp only [cal_s,eB_b]
 unfold chainOk
 cases hw:within (l.length:Int) 1 4 with
 | false=>rfl
 | true =>
  have hl4:1≤l.length∧l.length≤4:=by simp [within] at hw;omega
  rw [br_t]
  refine (all_loop (p:=nodeOk) (l:=l) (fun i=>L_impl_ChainOk_0 (List.length h) false a l.length c (l.length:Nat) (i:Nat) a l.length c h) (some (.bool false,h)) (L_impl_ChainOk_0 (List.length h) false a l.length c (l.length:Nat) (l.length:Nat) a l.length c h) (fun i hi=>?_) rfl).trans ?_
  ·obtain ⟨o,s1,s2,a1,c1,a2,c2,F1,F2,ha,ho,_,_,e1,e2,p1,p2,_⟩:=hs.get hi
   have hm:=hn.2 _ (List.getElem_mem hi)
   rw [L_impl_ChainOk_0.e,br_pos (by omega),inB_nat hi]
   simp only [ha,eO_s,Int.toNat_natCast,ho,eC_c,e1,e2,eN_n]
   rw [impl_StoreOk p1 hm.1]
   simp only [cal_s,eB_b]
   rw [ContainsFunc_Ver (p:=fun v => !verOk v) p2 hm.2.1 (fun lo v av cv Gv hv hvp=>E_impl_ChainOk_1 (h':=h) (by rw [impl_VerOk hvp (hm.2.2 v hv)];simp only [cal_s,eB_b];cases verOk v<;>rfl))]
   simp only [cal_s,eB_b,wr_succ (show i<9223372036854775807 by omega),← ha]
   unfold nodeOk
   rw [List.any_eq_not_all_not]
   simp only [Bool.not_not]
   by_cases h6:(l[i].wait.length:Int)≤6
   ·rw [br_neg (by omega),decide_eq_true h6]
    cases storeOk l[i].store<;>cases l[i].wait.all verOk<;>simp
   ·rw [br_pos (by omega),decide_eq_false h6]
    cases storeOk l[i].store<;>simp
  ·cases hall:l.all nodeOk with
   | false=>rfl
   | true =>
    rw [if_pos rfl,L_impl_ChainOk_0.e,br_neg (by omega)]
    have hno:=List.all_eq_true.1 hall
    refine (all_idx (p:=linkAt l) (l:=l) (fun i=>L_impl_ChainOk_2 (List.length h) false a l.length c (l.length:Nat) (i:Nat) a l.length c h) (some (.bool false,h)) (some (.bool true,h)) (fun i hi=>?_) ?_).trans ?_
    ·obtain ⟨o,s1,s2,a1,c1,a2,c2,F1,F2,ha,ho,_,_,e1,e2,p1,p2,_⟩:=hs.get hi
     have hm:=hn.2 _ (List.getElem_mem hi)
     rw [L_impl_ChainOk_2.e,br_pos (by omega),inB_nat hi]
     simp only [ha,eO_s,Int.toNat_natCast,ho,eC_c,e1,e2,eN_n,impl_last hn1,cal_s,eB_b]
     by_cases hk:i+1=l.length
     ·rw [decide_eq_true hk,br_t,br_t]
      unfold linkAt
      rw [List.getElem?_eq_none (by omega)]
      simp only [wr_succ (show i<9223372036854775807 by omega)]
      by_cases h0:l[i].wait.length=0
      ·rw [br_neg (by omega),decide_eq_true h0];rfl
      ·rw [br_pos (by omega),decide_eq_false h0];rfl
     ·have hi1:i+1<l.length:=by omega
      obtain ⟨o',s1',s2',a1',c1',a2',c2',F1',F2',ha',_,ho1',_,e1',_,p1',_⟩:=hs.get hi1
      have hoo:o'=o:=by rw [ha] at ha';injection ha' with ha';exact ha'.symm
      subst hoo
      rw [decide_eq_false hk,br_f]
      unfold linkAt
      rw [List.getElem?_eq_getElem hi1]
      simp only [br_f,wr_succ (show i<9223372036854775807 by omega)]
      rw [inB_nat hi1]
      simp only [Int.toNat_natCast,ho1',eO_s,eC_c,e1',eN_n]
      rw [impl_fits p1 p2 p1' (hno _ (List.getElem_mem hi)) (nodeOk_parts (hno _ (List.getElem_mem hi1))).1]
      simp only [cal_s,eB_b]
      exact br_if
    ·rw [L_impl_ChainOk_2.e,br_neg (by omega)]
    ·cases (l.zipIdx.all fun x=>linkAt l x.2 x.1)<;>simp
end
end Go.Proofs.YthdfojchihooeaaGreat
namespace Go.Proofs.YthdfojchihooeaaGreat
open Go T


theorem chainOk_all {l:List Node} (h:chainOk l=true):(1≤l.length∧l.length≤4)∧∀ x∈l,nodeOk x=true:=by
 simp only [chainOk,within,Bool.and_eq_true,decide_eq_true_eq,List.all_eq_true] at h
 exact ⟨⟨by omega,by omega⟩,h.1.2⟩
theorem chainOk_link {l:List Node} (h:chainOk l=true) {i:Nat} (hi:i<l.length):linkAt l i l[i]=true:=by
 simp only [chainOk,Bool.and_eq_true,List.all_eq_true] at h
 exact h.2 (l[i],i) (by rw [List.mem_zipIdx_iff_getElem?];simp [hi])
theorem all_zipIdx {α:Type}{p:Nat→α→Bool}{l:List α}:(l.zipIdx.all fun x=>p x.2 x.1)=true↔∀ i (hi:i<l.length),p i l[i]=true:=by
 rw [List.all_eq_true]
 constructor
 ·intro h i hi
  exact h (l[i],i) (by rw [List.mem_zipIdx_iff_getElem?];simp [hi])
 ·rintro h ⟨x,i⟩ hx
  rw [List.mem_zipIdx_iff_getElem?] at hx
  obtain ⟨hi,hx⟩:=List.getElem?_eq_some_iff.1 hx
  have:=h i hi
  simp only at hx
  rw [hx] at this;exact this
theorem all_get {α:Type}{p:α→Bool}{l:List α}:l.all p=true↔∀ i (hi:i<l.length),p l[i]=true:=by
 rw [List.all_eq_true]
 exact ⟨fun h i hi=>h _ (List.getElem_mem hi),fun h x hx=>by obtain ⟨i,hi,rfl⟩:=List.mem_iff_getElem.1 hx;exact h i hi⟩
def nextAt (l:List Node) (k:Nat) (x:Node):Bool:=nodeOk x&&match l[k+1]? with
 | some y=>storeOk y.store&&fits x y.store
 | none=>true
theorem chainOk_alt {l:List Node}:chainOk l=((l.zipIdx.all fun x=>nextAt l x.2 x.1)&&(within l.length 1 4&&match l.getLast? with | some x=>decide (x.wait.length=0) | none=>false)):=by
 rw [Bool.eq_iff_iff]
 unfold chainOk
 simp only [Bool.and_eq_true]
 rw [all_zipIdx (p:=linkAt l),all_zipIdx (p:=nextAt l),all_get (l:=l)]
 constructor
 ·rintro ⟨⟨h1,h2⟩,h3⟩
  have hl:1≤l.length:=by simp [within] at h1;omega
  refine ⟨fun i hi=>?_,h1,?_⟩
  ·have:=h3 i hi
   unfold linkAt at this
   unfold nextAt
   rw [h2 i hi]
   by_cases hi1:i+1<l.length
   ·rw [List.getElem?_eq_getElem hi1] at this ⊢
    simp only at this
    simp only [this,(nodeOk_parts (h2 _ hi1)).1,Bool.and_self]
   ·rw [List.getElem?_eq_none (by omega)];rfl
  ·have:=h3 (l.length - 1) (by omega)
   unfold linkAt at this
   rw [List.getElem?_eq_none (by omega)] at this
   rw [List.getLast?_eq_getElem?,List.getElem?_eq_getElem (by omega)]
   exact this
 ·rintro ⟨h1,h2,h3⟩
  have hno:∀ i (hi:i<l.length),nodeOk l[i]=true:=fun i hi=>by
   have:=h1 i hi
   simp only [nextAt,Bool.and_eq_true] at this;exact this.1
  refine ⟨⟨h2,hno⟩,fun i hi=>?_⟩
  have:=h1 i hi
  unfold nextAt at this
  unfold linkAt
  by_cases hi1:i+1<l.length
  ·rw [List.getElem?_eq_getElem hi1] at this ⊢
   simp only [Bool.and_eq_true] at this
   exact this.2.2
  ·rw [List.getElem?_eq_none (by omega)]
   rw [List.getLast?_eq_getElem?,List.getElem?_eq_getElem (by omega)] at h3
   have e:l.length - 1=i:=by omega
   simp only [e] at h3
   exact h3
section
variable {lo:Nat}{h:Heap}{F F':List Nat}{a a':Option (Nat×Nat)}{c c':Option Nat}
theorem spec_l3SameStore {s t:List Ver} (hs:RVers false h [.sl 6 a s.length c] s F) (hs':RVers false h [.sl 6 a' t.length c'] t F') (h1:storeOk s=true) (h2:storeOk t=true) :
  evl lo 313 [.agg [.sl 6 a s.length c],.agg [.sl 6 a' t.length c']] h=some (.bool (sameVers s t),h):=by
 have l1:=storeOk_len h1
 have l2:=storeOk_len h2
 have hz:(s.zip t).length=4:=by simp;omega
 refine E_spec_l3SameStore (h':=h) ?_
 refine (all_loop (p:=fun x:Ver×Ver=>sameVer x.1 x.2) (l:=s.zip t) (fun i=>L_spec_l3SameStore_0 (List.length h) false (i:Nat) a s.length c a' t.length c' h) (some (.bool false,h)) (some (.bool true,h)) (fun i hi=>?_) ?_).trans ?_
 ·have hi1:i<s.length:=by omega
  have hi2:i<t.length:=by omega
  obtain ⟨o,sv,b,d,G,ha,_,ho1,_,_,_,_,ho12,ho,es,hp,_⟩:=hs.all hi1
  obtain ⟨o',sv',b',d',G',ha',_,_,_,_,_,_,ho12',ho',es',hp',_⟩:=hs'.all hi2
  rw [L_spec_l3SameStore_0.e,br_pos (by omega),inB_nat hi1]
  simp only [ha,ha',eO_s,Int.toNat_natCast,ho12,ho12',ho1,ho,ho',eC_c,eI_int,es,es',eT_s,eBv_b,eN_n,inB_nat hi1,inB_nat hi2,Bool.and_true,List.getElem_zip,wr_succ (show i<9223372036854775807 by omega)]
  have g1:=verAt_case (storeOk_get h1 hi1)
  have g2:=verAt_case (storeOk_get h2 hi2)
  cases htag:(s[i].tag.time==t[i].tag.time&&s[i].tag.place==t[i].tag.place) with
  | false =>
   have:sameVer s[i] t[i]=false:=by unfold sameVer;rw [htag];simp
   rw [this,br_f];rfl
  | true =>
   rw [br_t]
   by_cases htm:s[i].tag.time>0
   ·rw [br_pos htm]
    have o1:verOk s[i]=true:=by
     rcases g1 with g | g
     ·have:=zero_time g;omega
     ·exact g.1
    have o2:verOk t[i]=true:=by
     rcases g2 with g | g
     ·have:=zero_time g;simp at htag;omega
     ·exact g.1
    rw [spec_l2Same hp hp' o1 o2]
    simp only [cal_s,eB_b]
    exact br_if
   ·rw [br_neg htm]
    have o1:zeroVer s[i]=true:=by
     rcases g1 with g | g
     ·exact g
     ·have:=verOk_time g.1;omega
    have o2:zeroVer t[i]=true:=by
     rcases g2 with g | g
     ·exact g
     ·have:=verOk_time g.1;simp at htag;omega
    rw [if_pos (same_iff.2 (by rw [zero_is o1,zero_is o2]))]
 ·rw [hz,L_spec_l3SameStore_0.e,br_neg (by omega)]
 ·unfold sameVers
  rw [decide_eq_true (by omega)]
  cases (s.zip t).all fun x=>sameVer x.1 x.2<;>rfl
theorem spec_l3Next {x y:Node}{a1 a2 a3 a4:Option (Nat×Nat)}{c1 c2 c3 c4:Option Nat}{F1 F2 F3:List Nat} (hs1:RVers false h [.sl 6 a1 x.store.length c1] x.store F1) (hs2:RVers false h [.sl 6 a2 x.wait.length c2] x.wait F2)
  (hs3:RVers false h [.sl 6 a3 y.store.length c3] y.store F3) (hx:nodeOk x=true) (hy:smVers y.store) {n4:Nat} :
  evl lo 222 [.agg [.sl 6 a1 x.store.length c1,.sl 6 a2 x.wait.length c2],.agg [.sl 6 a3 y.store.length c3,.sl 6 a4 n4 c4]] h=some (.bool (storeOk y.store&&fits x y.store),h):=by
 obtain ⟨hx1,hx2,hx3⟩:=nodeOk_parts hx
 suffices hk:∃ h',_=some (V.bool (storeOk y.store&&fits x y.store),h') from hk.elim fun h' hk=>E_spec_l3Next hk
 rw [spec_l2StoreOk hs3 hy];simp only [cal_s,eB_b]
 cases hyo:storeOk y.store with
 | false=>exact ⟨h,rfl⟩
 | true =>
  obtain ⟨v5,h5,F5,e5,r5,m5⟩:=spec_l2CopyStore (lo:=h.length) hs3 (Nat.le_refl _) hy
  obtain ⟨a5,c5,es5,r5⟩:=r5.form
  rw [br_t,e5];simp only [cal_s,eA_a,eC_c,es5,eN_n]
  have loop:∀ m i s hh G,m+i=x.wait.length→storeOk s=true→RVers false hh [.sl 6 a5 s.length c5] s G→Mv h [] hh G →
    ∃ h',L_spec_l3Next_0 (List.length h) false (i:Nat) a1 x.store.length c1 a2 x.wait.length c2 a5 s.length c5 hh=some (V.bool (match fitsL s (x.wait.drop i) with | some s=>sameVers s x.store | none=>false),h'):=by
   intro m
   induction m with
   | zero =>
    intro i s hh G hi hso hs hm
    rw [L_spec_l3Next_0.e,br_neg (by omega),spec_l3SameStore hs (hm.keep0 rvers_ok hs1) hso hx1,show i=x.wait.length by omega,List.drop_length]
    simp only [cal_s,eB_b,fitsL]
    exact ⟨hh,by cases sameVers s x.store<;>rfl⟩
   | succ m ih =>
    intro i s hh G hi hso hs hm
    have hlt:i<x.wait.length:=by omega
    have hvo:=hx3 _ (List.getElem_mem hlt)
    have hk:=(verOk_parts hvo).1
    have hs4:=storeOk_len hso
    have hkl:x.wait[i].key.toNat<s.length:=by omega
    obtain ⟨o,sv,b',d',G',ha,ho0,_,_,_,_,_,ho12,ho,es,hp,hG'⟩:=(hm.keep0 rvers_ok hs2).all hlt
    obtain ⟨o2,sv2,b2,d2,G2,ha2,_,_,_,_,_,_,ho122,_⟩:=hs.all hkl
    rw [L_spec_l3Next_0.e,br_pos (by omega),inB_nat hlt]
    simp only [ha,eO_s,Int.toNat_natCast,ho0,eC_c,eI_int,eN_n]
    rw [inB_in ⟨by omega,by omega⟩]
    simp only [ha2,eO_s,ho122,eC_c,eI_int,eN_n,inB_nat hlt,ho12,spec_l1Less,cal_s,eB_b]
    rw [List.drop_eq_getElem_cons hlt]
    simp only [fitsL,List.getElem?_eq_getElem hkl]
    show ∃ h',br (lessV s[x.wait[i].key.toNat] x.wait[i]) _ _=_
    cases hle:lessV s[x.wait[i].key.toNat] x.wait[i] with
    | false=>exact ⟨hh,rfl⟩
    | true =>
     obtain ⟨h6,F6,e6,r6,m6⟩:=spec_l2Add (lo:=h.length) (v:=x.wait[i]) hs hp hm.nd (hm.ge (Nat.le_refl _) (by simp)) hm.le ⟨by omega,by omega⟩ (by have:=pastOk_len (verOk_parts hvo).2.2.2.1;omega)
     rw [br_t,cond_true]
     simp only [ho,eO_s,eC_c,eI_int,es,eT_s,eBv_b,eN_n]
     rw [← ha2,e6]
     simp only [cal_s,eA_a,eC_c,eS_sl,eN_n]
     rw [← ha,wr_succ (by omega)]
     have hadd:addVer s x.wait[i]=s.set x.wait[i].key.toNat x.wait[i]:=by rw [addVer_get hkl,hle];rfl
     rw [hadd] at r6
     have:=ih (i+1) (s.set x.wait[i].key.toNat x.wait[i]) h6 F6 (by omega) (storeOk_set hso hvo) (by rw [List.length_set];exact r6) (hm.trans m6)
     rw [List.length_set] at this
     exact this
  obtain ⟨h',e⟩:=loop x.wait.length 0 y.store h5 F5 (by omega) hyo r5 m5
  exact ⟨h',e⟩
theorem spec_l3Ok {l:List Node} (hs:RNodes false h [.sl 2 a l.length c] l F) (hn:smNodes l):evl lo 111 [.agg [.sl 2 a l.length c]] h=some (.bool (chainOk l),h):=by
 have hn1:=hn.1
 refine E_spec_l3Ok (h':=h) ?_
 rw [chainOk_alt]
 have inner:∀ i (hi:i<l.length),storeOk l[i].store=true→(l[i].wait.length:Int)≤6→L_spec_l3Ok_2 (List.length h) false (i:Nat) 0 a l.length c h=if nextAt l i l[i]=true then L_spec_l3Ok_0 (List.length h) false ((i+1:Nat):Int) a l.length c h else some (.bool false,h):=by
  intro i hi hst h6
  obtain ⟨o,s1,s2,a1,c1,a2,c2,F1,F2,ha,ho,ho1,ho2,e1,e2,p1,p2,_⟩:=hs.get hi
  have hm:=hn.2 _ (List.getElem_mem hi)
  refine (all_loop (p:=verOk) (l:=l[i].wait) (fun k=>L_spec_l3Ok_2 (List.length h) false (i:Nat) (k:Nat) a l.length c h) (some (.bool false,h)) (L_spec_l3Ok_2 (List.length h) false (i:Nat) (l[i].wait.length:Nat) a l.length c h) (fun k hk=>?_) rfl).trans ?_
  ·obtain ⟨o',s,b,d,G,ha',ho',es,hp,_⟩:=p2.get hk
   rw [L_spec_l3Ok_2.e,inB_nat hi]
   simp only [ha,eO_s,Int.toNat_natCast,ho2,eC_c,e2,eN_n]
   rw [br_pos (by omega),inB_nat hi]
   simp only [e2,inB_nat hk,ha',eO_s,ho',eC_c,eI_int,es,eT_s,eBv_b,eN_n]
   rw [spec_l2Ok hp (hm.2.2 _ (List.getElem_mem hk))]
   simp only [cal_s,eB_b,wr_succ (show k<9223372036854775807 by have:=hm.2.1;omega),← ha]
   exact br_if
  ·by_cases hall:l[i].wait.all verOk=true
   ·rw [if_pos hall,L_spec_l3Ok_2.e,inB_nat hi]
    simp only [ha,eO_s,Int.toNat_natCast,ho2,eC_c,e2,eN_n]
    rw [br_neg (by omega)]
    have hno:nodeOk l[i]=true:=by unfold nodeOk;rw [hst,decide_eq_true h6,hall];rfl
    rw [wr_succ (by omega)]
    unfold nextAt
    rw [hno]
    by_cases hi1:i+1<l.length
    ·obtain ⟨o',s1',s2',a1',c1',a2',c2',F1',F2',ha',ho',_,_,e1',e2',p1',p2',_⟩:=hs.get hi1
     have hoo:o'=o:=by rw [ha] at ha';injection ha' with ha';exact ha'.symm
     subst hoo
     rw [br_pos (by omega),inB_nat hi]
     simp only [ho,eO_s,eC_c,e1,e2,eN_n,inB_nat hi1,Int.toNat_natCast,ho',e1',e2']
     rw [spec_l3Next p1 p2 p1' hno (hn.2 _ (List.getElem_mem hi1)).1,List.getElem?_eq_getElem hi1]
     simp only [cal_s,eB_b,Bool.true_and]
     exact br_if
    ·rw [br_neg (by omega),List.getElem?_eq_none (by omega)];rfl
   ·rw [if_neg hall,if_neg]
    unfold nextAt nodeOk
    simp [hall]
 refine (all_idx (p:=nextAt l) (l:=l) (fun i=>L_spec_l3Ok_0 (List.length h) false (i:Nat) a l.length c h) (some (.bool false,h)) (some (.bool (within l.length 1 4&&match l.getLast? with | some x=>decide (x.wait.length=0) | none=>false),h)) (fun i hi=>?_) ?_).trans ?_
 ·obtain ⟨o,s1,s2,a1,c1,a2,c2,F1,F2,ha,ho,ho1,ho2,e1,e2,p1,p2,_⟩:=hs.get hi
  have hm:=hn.2 _ (List.getElem_mem hi)
  rw [L_spec_l3Ok_0.e,br_pos (by omega),inB_nat hi]
  simp only [ha,eO_s,Int.toNat_natCast,ho1,eC_c,e1,eN_n]
  rw [spec_l2StoreOk p1 hm.1]
  simp only [cal_s,eB_b]
  cases hst:storeOk l[i].store with
  | false =>
   rw [if_neg (by unfold nextAt nodeOk;simp [hst])];rfl
  | true =>
   rw [br_t,inB_nat hi]
   simp only [ho2,eO_s,eC_c,e2,eN_n]
   by_cases h6:(l[i].wait.length:Int)≤6
   ·rw [br_neg (by omega),← ha];exact inner i hi hst h6
   ·rw [br_pos (by omega),if_neg]
    unfold nextAt nodeOk
    rw [decide_eq_false h6];simp
 ·rw [L_spec_l3Ok_0.e,br_neg (by omega),spec_l1In]
  simp only [cal_s,eB_b]
  cases hw:within (l.length:Int) 1 4 with
  | false=>rfl
  | true =>
   have hl:1≤l.length:=by simp [within] at hw;omega
   obtain ⟨o,s1,s2,a1,c1,a2,c2,F1,F2,ha,ho,ho1,ho2,e1,e2,p1,p2,_⟩:=hs.get (show l.length - 1<l.length by omega)
   rw [br_t,wr (by omega) (by omega),inB_in ⟨by omega,by omega⟩,show ((l.length:Int) - 1).toNat=l.length - 1 by omega]
   simp only [ha,eO_s,ho2,eC_c,e2,eN_n]
   rw [List.getLast?_eq_getElem?,List.getElem?_eq_getElem (by omega)]
   simp only [Bool.true_and]
   by_cases h0:l[l.length - 1].wait.length=0
   ·rw [h0];rfl
   ·rw [show ((l[l.length - 1].wait.length:Int)==0)=false by rw [beq_eq_false_iff_ne];omega,decide_eq_false h0];rfl
 ·cases (l.zipIdx.all fun x=>nextAt l x.2 x.1)<;>simp
end
end Go.Proofs.YthdfojchihooeaaGreat
namespace Go.Proofs.YthdfojchihooeaaGreat
open Go T


def nodeCauses (st:List Tag) (x:Node):Bool:=(x.store.all fun v => !decide (v.tag.time>0) || under v.past st)&&x.wait.all fun v=>under v.past st
def causesOk (l:List Node):Bool:=l.all (nodeCauses (stable l))
def headOk (l:List Node) (clock:Int):Bool:=match l[0]? with
 | some x=>x.store.all fun v=>decide (v.tag.time≤clock)
 | none=>false
def gotAt (me:Int) (i:Nat) (l:List Ver):Bool:=logOk i l&&(!((i:Int)==me) || decide (l.length=0))
def placeOk (p:Place):Bool:=within p.me 0 2&&within p.clock 0 999&&decide (p.got.length=3)&&chainOk p.chain&&causesOk p.chain&&logOk p.me p.log&&(p.got.zipIdx.all fun x=>gotAt p.me x.2 x.1)&&headOk p.chain p.clock
theorem chainOk_sm {l:List Node} (h:chainOk l=true):smNodes l:=by
 obtain ⟨h1,h2⟩:=chainOk_all h
 refine ⟨by omega,fun x hx=>?_⟩
 obtain ⟨g1,g2,g3⟩:=nodeOk_parts (h2 x hx)
 refine ⟨storeOk_sm g1,by omega,fun v hv=>?_⟩
 obtain ⟨_,h2,_,h3,_⟩:=verOk_parts (g3 v hv)
 have:=textOk_size h2
 have:=pastOk_len h3
 omega
theorem ld_of {h:Heap}{b i j n R e:Nat}{ro:Bool}{rs:List (List V)}{row:List V} (hb:h[b]?=some (.rows R e ro rs)) (hi:rs[i]?=some row):ld h b i j n=cut row j n:=by
 simp [ld,Heap.rows?,hb,hi]
section
variable {lo:Nat}{h:Heap}{F F':List Nat}{a a':Option (Nat×Nat)}{c c':Option Nat}
end
end Go.Proofs.YthdfojchihooeaaGreat
namespace Go.Proofs.YthdfojchihooeaaGreat
open Go T


section
variable {lo:Nat}{h:Heap}{F F':List Nat}{a a':Option (Nat×Nat)}{c c':Option Nat}
theorem impl_tail {b i j:Nat}{l:List Node} (hld:ld h b i j 1=some [.sl 2 a l.length c]) (hs:RNodes false h [.sl 2 a l.length c] l F) (h0:0<l.length) (hn:l.length≤1048576) :
  ∃ a' c' G,evl lo 127 [.ptr (some (b,i,j))] h=some (.agg [.sl 6 a' (l[l.length - 1]'(by omega)).store.length c'],h)∧RVers false h [.sl 6 a' (l[l.length - 1]'(by omega)).store.length c'] (l[l.length - 1]'(by omega)).store G∧∀ y∈G,y∈F:=by
 obtain ⟨o,s1,s2,b1,d1,b2,d2,G1,G2,ha,ho,ho1,ho2,e1,e2,q1,q2,q3,_⟩:=hs.get (show l.length - 1<l.length by omega)
 refine ⟨b1,d1,G1,E_impl_Chain_tail ?_,q1,q3⟩
 simp only [Nat.add_zero,hld,eO_s,eC_c,eS_sl,eN_n]
 rw [wr (by omega) (by omega),inB_in ⟨by omega,by omega⟩,show ((l.length:Int) - 1).toNat=l.length - 1 by omega]
 simp only [ha,eO_s,ho1,eC_c,e1,eN_n]
end
end Go.Proofs.YthdfojchihooeaaGreat
namespace Go.Proofs.YthdfojchihooeaaGreat
open Go T


set_option maxRecDepth 100000
section
variable {h:Heap}
theorem tv_sli {α:Type}{El:Rel α}{bd:α→Prop}{n t e ee R:Nat}{xs:List V} (hu:Tryz.prog.underlying t=some (.slice e)) (hR:Tryz.prog.cellsOf e=R) (hel:∀ row,TV Tryz.prog h n e row→∃ x F,El h row x F∧bd x) (hx:TV Tryz.prog h (n+1) t xs) :
  ∃ l F,Sli true R ee El h xs l F∧l.length≤maxLen∧∀ x∈l,bd x:=by
 simp only [TV,hu] at hx
 obtain ⟨a,c,rs,rfl,⟨h2,_⟩,h3,h4⟩:=hx
 have all:∀ rs:List (List V),(∀ row∈rs,TV Tryz.prog h n e row)→∃ l Fs,EAll El h rs l Fs∧l.length=rs.length∧∀ x∈l,bd x:=by
  intro rs
  induction rs with
  | nil=>intro _;exact ⟨[],[],trivial,rfl,by simp⟩
  | cons r rs ih =>
   intro hr
   obtain ⟨l,Fs,g1,g2,g3⟩:=ih fun row hrow=>hr row (by simp [hrow])
   obtain ⟨x,F,g4,g5⟩:=hel r (hr r (by simp))
   exact ⟨x :: l,F :: Fs,⟨g4,g1⟩,by simp [g2],fun y hy=>by
    rcases List.mem_cons.1 hy with rfl | hy
    ·exact g5
    ·exact g3 y hy⟩
 obtain ⟨l,Fs,g1,g2,g3⟩:=all rs fun row hr=>(h3 row hr).2
 rcases h4 with rfl | ⟨b,rfl,hb⟩
 ·have:l = []:=List.eq_nil_of_length_eq_zero (by simpa using g2)
  subst this
  exact ⟨[],[],⟨R,a,c,by rw [hR];rfl,rfl,.inl ⟨rfl,rfl⟩⟩,Nat.zero_le _,by simp⟩
 ·refine ⟨l,b :: Fs.flatten,⟨R,some (b,0),c,by rw [hR,g2],rfl,.inr ⟨b,0,rs,Fs,rfl,hb,by omega,?_,rfl⟩⟩,by omega,g3⟩
  rw [List.drop_zero,List.take_of_length_le (by omega)];exact g1
end
end Go.Proofs.YthdfojchihooeaaGreat
namespace Go.Proofs.YthdfojchihooeaaGreat
open Go T


theorem mkN_tag:∀ {l:List Tag},mkN wTag l=2*l.length
 | []=>rfl
 | t :: l=>by
  have h1:=mkN_tag (l:=l)
  have h2:mkN wTag (t :: l)=2+mkN wTag l:=by simp only [mkN,List.map_cons,List.sum_cons]
  rw [h2,h1,List.length_cons];omega
abbrev zVer:Ver:=⟨0,⟨0,0⟩,[],⟨⟨[]⟩⟩,false⟩
section
variable {lo:Nat}{h:Heap}{F F':List Nat}{a a':Option (Nat×Nat)}{c c':Option Nat}
end
end Go.Proofs.YthdfojchihooeaaGreat
namespace Go.Proofs.YthdfojchihooeaaGreat
open Go T


theorem Mv.swap {h h':Heap}{A B A' B':List Nat} (m:Mv h (A++B) h' (A'++B')):Mv h (B++A) h' (B'++A'):=by
 refine ⟨m.le,fun b hb hn=>m.fr b hb fun hm=>hn ?_,?_,fun b hb=>?_⟩
 ·rw [List.mem_append] at hm ⊢;exact hm.symm
 ·have:=m.nd
  rw [List.nodup_append] at this ⊢
  exact ⟨this.2.1,this.1,fun x hx y hy e=>this.2.2 y hy x hx e.symm⟩
 ·rw [List.mem_append] at hb
  refine (m.sub b (by rw [List.mem_append];exact hb.symm)).imp (fun h=>?_) id
  rw [List.mem_append] at h ⊢;exact h.symm
theorem push_one {α:Type}{El:Rel α} (ok:El.Ok) {h0 h1:Heap}{lo R e n bytes:Nat}{a:Option (Nat×Nat)}{c:Option Nat}{l:List α}{F:List Nat}{row:List V}{x:α}{G:List Nat} (hs:Sli false R e El h0 [.sl R a n c] l F) (hx:El h1 row x G) (m:Mv h0 [] h1 G)
  (hnd:F.Nodup) (hlo:∀ b∈F,lo≤b) (hl:lo≤h0.length) (hb:0<bytes) (hsz:(l.length+1)*bytes≤140737488355328) :
  ∃ a' c' h2 F',(∀ {T:Type} (K:V→Heap→Option T),app lo e R bytes (.sl R a n c) [row] h1 K=K (.sl R a' (l.length+1) c') h2)∧Sli false R e El h2 [.sl R a' (l.length+1) c'] (l ++ [x]) F'∧Mv h0 F h2 F':=by
 have hbd:=(Sli.ok ok).bd _ _ _ _ hs
 have hs1:=m.keep0 (Sli.ok ok) hs
 have hGb:=m.lt (by simp)
 obtain ⟨a',c',h2,F',p1,p2,p3,p4,p5,p6⟩:=Sli.push (lo:=lo) (bytes:=bytes) ok.fr hs1 (xs := [row]) (ys := [x]) (Gs := [G]) ⟨hx,trivial⟩ hb hsz hlo (Nat.le_trans hl m.le)
  (by
   rw [List.nodup_append]
   refine ⟨hnd,by simpa using m.nd,fun y hy z hz=>?_⟩
   rintro rfl
   have g1:=hbd y hy
   have g2:=m.new y (by simpa using hz)
   omega)
  (fun b hb'=>by
   have g1:=m.le
   rw [List.mem_append] at hb'
   rcases hb' with hb' | hb'
   ·have:=hbd b hb';omega
   ·exact hGb b (by simpa using hb')) (by simp)
 refine ⟨a',c',h2,F',p1,p2,Nat.le_trans m.le p3,fun b hb' hF=>?_,p6,fun b hb'=>?_⟩
 ·rw [p4 b (Nat.lt_of_lt_of_le hb' m.le) hF,m.fr b hb' (by simp)]
 ·have g1:=m.le
  rcases p5 b hb' with g | g
  ·rw [List.mem_append] at g
   rcases g with g | g
   ·exact .inl g
   ·have g2:=m.new b (by simpa using g)
    have g3:=hGb b (by simpa using g)
    exact .inr (by omega)
  ·exact .inr (by omega)
def joinN (l:List Node):List Node:=match l.getLast? with
 | some x=>l ++ [⟨x.store,[]⟩]
 | none=>l
def canJoin (l:List Node):Bool:=decide ((l.length:Int)<4)
def tryJoin (l:List Node):List Node:=bif canJoin l then joinN l else l
theorem joinN_get {l:List Node} (h0:0<l.length):joinN l=l ++ [⟨(l[l.length - 1]'(by omega)).store,[]⟩]:=by
 unfold joinN;rw [List.getLast?_eq_getElem?,List.getElem?_eq_getElem (by omega)]
section
variable {lo:Nat}{h:Heap}{F F':List Nat}{a a':Option (Nat×Nat)}{c c':Option Nat}
theorem clip_ver {l:List Ver}{n:Nat} (hs:RVers false h [.sl 6 a n c] l F):evl lo 230 [.sl 6 a n c] h=some (.sl 6 a n (some n),h):=E_slices_Clip_impl_Ver_impl_Ver (by rw [reslice_clip hs])
theorem clip_node {l:List Node}{n:Nat} (hs:RNodes false h [.sl 2 a n c] l F):evl lo 226 [.sl 2 a n c] h=some (.sl 2 a n (some n),h):=E_slices_Clip_impl_Node_impl_Node (by rw [reslice_clip hs])
theorem spec_l3Join {l:List Node} (hs:RNodes false h [.sl 2 a l.length c] l F) (h0:0<l.length) (hn:smNodes l) (hnd:F.Nodup) (hlo:∀ b∈F,lo≤b) (hl:lo≤h.length) :
  ∃ a' c' h' F',evl lo 130 [.agg [.sl 2 a l.length c]] h=some (.agg [.sl 2 a' (l.length+1) c'],h')∧RNodes false h' [.sl 2 a' (l.length+1) c'] (joinN l) F'∧Mv h F h' F':=by
 have hn1:=hn.1
 obtain ⟨o,s1,s2,b1,d1,b2,d2,G1,G2,ha,ho,ho1,ho2,e1,e2,q1,q2,_⟩:=hs.get (show l.length - 1<l.length by omega)
 obtain ⟨v3,h3,F3,e3,r3,m3⟩:=spec_l2CopyStore (lo:=lo) q1 hl (hn.2 _ (List.getElem_mem _)).1
 obtain ⟨a4,c4,es4,r4⟩:=r3.form
 obtain ⟨a5,c5,h5,F5,e5,r5,m5⟩:=push_one (lo:=lo) (bytes:=48) (e:=76) rnode_ok hs (row := [.sl 6 a4 (l[l.length - 1]'(by omega)).store.length c4,.sl 0 none 0 (some 0)]) (x:=⟨(l[l.length - 1]'(by omega)).store,[]⟩) (G:=F3) (h1:=h3 ++ [.rows 2 76 false [[.sl 6 a4 (l[l.length - 1]'(by omega)).store.length c4,.sl 0 none 0 (some 0)]]])
  ⟨_,_,F3,[],rfl,by simp,Mv.snoc.keep0 rvers_ok r4,Sli.nil⟩ (m3.trans (Mv.snoc' m3.nd)) hnd hlo hl (by decide) (by omega)
 refine ⟨a5,c5,h5,F5,E_spec_l3Join ?_,by rw [joinN_get h0];exact r5,m5⟩
 rw [wr (by omega) (by omega),inB_in ⟨by omega,by omega⟩,show ((l.length:Int) - 1).toNat=l.length - 1 by omega]
 simp only [ha,eO_s,ho1,eC_c,e1,eN_n]
 rw [e3];simp only [cal_s,eA_a,eC_c,es4,eN_n,rows_one]
 rw [← ha,e5];simp only [eS_sl]
theorem impl_join {b i j R e:Nat}{rs:List (List V)}{row:List V}{l:List Node} (hb:h[b]?=some (.rows R e false rs)) (hrow:rs[i]?=some row) (hcell:row[j]?=some (.sl 2 a l.length c)) (hs:RNodes false h [.sl 2 a l.length c] l F) (h0:0<l.length) (hn:smNodes l)
  (hnd:(b :: F).Nodup) (hlo:∀ y∈b :: F,lo≤y) (hl:lo≤h.length) :
  ∃ a' n' c' h' F',evl lo 129 [.ptr (some (b,i,j))] h=some (.bool (canJoin l),h')∧h'[b]?=some (.rows R e false (rs.set i (row.set j (.sl 2 a' n' c'))))∧RNodes false h' [.sl 2 a' n' c'] (tryJoin l) F'∧Mv h (b :: F) h' (b :: F'):=by
 have hn1:=hn.1
 have hblt:b<h.length:=(List.getElem?_eq_some_iff.1 hb).1
 have hld:ld h b i j 1=some [.sl 2 a l.length c]:=by rw [ld_of hb hrow];exact cut_one hcell
 unfold tryJoin canJoin
 by_cases h4:(l.length:Int)<4
 ·obtain ⟨at',ct,Gt,et,rt,_⟩:=impl_tail (lo:=h.length) hld hs h0 hn1
  obtain ⟨a3,c3,h3,F3,e3,r3,m3⟩:=impl_Store_copied (lo:=h.length) rt (Nat.le_refl _) (hn.2 _ (List.getElem_mem _)).1
  rw [List.nodup_cons] at hnd
  obtain ⟨a5,c5,h5,F5,e5,r5,m5⟩:=push_one (lo:=lo) (bytes:=48) (e:=76) rnode_ok hs (row := [.sl 6 a3 (l[l.length - 1]'(by omega)).store.length c3,.sl 0 none 0 (some 0)]) (x:=⟨(l[l.length - 1]'(by omega)).store,[]⟩) (G:=F3) (h1:=h3 ++ [.rows 2 76 false [[.sl 6 a3 (l[l.length - 1]'(by omega)).store.length c3,.sl 0 none 0 (some 0)]]])
   ⟨_,_,F3,[],rfl,by simp,Mv.snoc.keep0 rvers_ok r3,Sli.nil⟩ (m3.trans (Mv.snoc' m3.nd)) hnd.2 (fun y hy=>hlo y (by simp [hy])) hl (by decide) (by omega)
  have hb5:h5[b]?=some (.rows R e false rs):=by rw [m5.fr b hblt hnd.1];exact hb
  have hbF5:b∉F5:=fun hm=>by
   rcases m5.sub b hm with g | g
   ·exact hnd.1 g
   ·omega
  have hb5lt:b<h5.length:=Nat.lt_of_lt_of_le hblt m5.le
  have hjl:j<row.length:=(List.getElem?_eq_some_iff.1 hcell).1
  have e6:=st_first hb5 (hlo b (by simp)) hrow (paste_one (v := .sl 2 a5 (l.length+1) (some (l.length+1))) hjl)
  refine ⟨a5,l.length+1,some (l.length+1),h5.set b (.rows R e false (rs.set i (row.set j (.sl 2 a5 (l.length+1) (some (l.length+1)))))),F5,E_impl_Chain_join ?_,by simp [hb5lt],?_,?_⟩
  ·simp only [Nat.add_zero,hld,eO_s,eC_c,eN_n,eS_sl]
   rw [br_neg (by omega),et];simp only [cal_s,eA_a,eC_c,eS_sl,eN_n]
   rw [e3];simp only [cal_s,eA_a,eC_c,eS_sl,eN_n,rows_one]
   rw [e5];simp only [eS_sl]
   rw [clip_node r5];simp only [cal_s,eS_sl]
   rw [e6];simp only [eO_s,decide_eq_true h4]
  ·rw [decide_eq_true h4,cond_true,joinN_get h0]
   exact rnodes_ok.fr _ _ _ _ _ r5.clip fun y hy=>List.getElem?_set_ne (show b≠y from fun e=>hbF5 (by rw [e];exact hy))
  ·refine ⟨by simpa using m5.le,fun y hy hF=>?_,by rw [List.nodup_cons];exact ⟨hbF5,m5.nd⟩,fun y hy=>?_⟩
   ·rw [List.mem_cons,not_or] at hF
    rw [List.getElem?_set_ne (Ne.symm hF.1)]
    exact m5.fr y hy hF.2
   ·rw [List.mem_cons] at hy
    rcases hy with rfl | hy
    ·exact .inl (by simp)
    ·refine (m5.sub y hy).imp (fun g=>by simp [g]) fun g=>by simpa using g
 ·refine ⟨a,l.length,c,h,F,E_impl_Chain_join ?_,?_,?_,Mv.refl hnd⟩
  ·simp only [Nat.add_zero,hld,eO_s,eC_c,eN_n,eS_sl]
   rw [br_pos (by omega),decide_eq_false h4]
  ·rw [set_same hcell,set_same hrow];exact hb
  ·rw [decide_eq_false h4];exact hs
end
end Go.Proofs.YthdfojchihooeaaGreat
namespace Go.Proofs.YthdfojchihooeaaGreat
open Go T


theorem cut_all:∀ {row:List V}{n:Nat},row.length=n→cut row 0 n=some row
 | [],0,_=>rfl
 | v :: r,n+1,h=>by
  have h1:=cut_all (row:=r) (n:=n) (by simpa using h)
  show (match cut r 0 n with | some l=>some (v :: l) | none=>none)=_
  rw [h1]
theorem Mv.swapNil {h h':Heap}{A B:List Nat} (m:Mv h [] h' (A++B)):Mv h [] h' (B++A):=Mv.swap (A := []) (B := []) m
theorem br_some {b:Bool}{h:Heap}:br b (some (V.bool true,h)) (some (V.bool false,h))=some (V.bool b,h):=by cases b<;>rfl
section
variable {lo:Nat}{h:Heap}{F F':List Nat}{a a':Option (Nat×Nat)}{c c':Option Nat}
end
end Go.Proofs.YthdfojchihooeaaGreat
namespace Go.Proofs.YthdfojchihooeaaGreat
open Go T


def addN (l:List Node) (k:Nat) (v:Ver):List Node:=match l[k]? with
 | some x=>match x.store[v.key.toNat]? with
  | some u=>bif lessV u v then l.set k ⟨x.store.set v.key.toNat v,bif decide (k+1<l.length) then x.wait ++ [v] else x.wait⟩ else l
  | none=>l
 | none=>l
theorem addN_get {l:List Node}{k:Nat}{v:Ver} (hk:k<l.length) (hv:v.key.toNat<l[k].store.length) :
  addN l k v=bif lessV l[k].store[v.key.toNat] v then l.set k ⟨l[k].store.set v.key.toNat v,bif decide (k+1<l.length) then l[k].wait ++ [v] else l[k].wait⟩ else l:=by
 unfold addN;rw [List.getElem?_eq_getElem hk];simp only;rw [List.getElem?_eq_getElem hv]
section
variable {lo:Nat}{h h3:Heap}{F F' G:List Nat}{a a' av:Option (Nat×Nat)}{c c' cv:Option Nat}{n k:Nat}{l:List Node}{v:Ver}
theorem push_wait (hs:RNodes false h [.sl 2 a n c] l F) (hk:k<l.length) (hnd:F.Nodup) (hlo:∀ b∈F,lo≤b) (hl:lo≤h.length) (hw:l[k].wait.length≤1048576) (hv:RTags false h3 [.sl 2 av v.past.length cv] v.past G) (m3:Mv h [] h3 G) :
  ∃ b i t2 a2 c2 a5 c5 h5,a=some (b,i)∧ld h b (i+k) 1 1=some [t2]∧(∀ {T:Type} (K:Option (Nat×Nat)→Nat→Option Nat→Option T),eS 6 t2 K=K a2 l[k].wait.length c2) ∧
   (∀ {T:Type} (K:V→Heap→Option T),app lo 65 6 72 (.sl 6 a2 l[k].wait.length c2) [v.cs av cv] (h3 ++ [.rows 6 65 false [v.cs av cv]]) K=K (.sl 6 a5 (l[k].wait.length+1) c5) h5) ∧
   (∃ F5,RVers false h5 [.sl 6 a5 (l[k].wait.length+1) c5] (l[k].wait ++ [v]) F5) ∧
   ∀ c6,(c6=c5∨c6=some (l[k].wait.length+1))→∃ h6 F6,st lo h5 b (i+k) 1 [.sl 6 a5 (l[k].wait.length+1) c6]=some h6∧RNodes false h6 [.sl 2 a n c] (l.set k ⟨l[k].store,l[k].wait ++ [v]⟩) F6∧Mv h F h6 F6:=by
 obtain ⟨b,i,rs,row,G0,ha,hbF,hbG,hb,hrow,hel,hGF,hGn,_,put⟩:=hs.at rnode_ok hk hnd hlo
 obtain ⟨t1,t2,F1,F2,rfl,rfl,r1,r2⟩:=hel
 obtain ⟨a2,c2,e2,r2'⟩:=r2.form
 rw [List.nodup_append] at hGn
 obtain ⟨a5,c5,h5,F5,e5,r5,m5⟩:=push_one (lo:=lo) (bytes:=72) (e:=65) rver_ok r2' (row:=v.cs av cv) (x:=v) (G:=G) (h1:=h3 ++ [.rows 6 65 false [v.cs av cv]])
  ⟨_,rfl,Mv.snoc.keep0 rtags_ok hv⟩ (m3.trans (Mv.snoc' m3.nd)) hGn.2.1 (fun y hy=>hlo y (hGF y (by simp [hy]))) hl (by decide) (by omega)
 have b1:∀ y∈F1,y<h.length:=rvers_ok.bd _ _ _ _ r1
 have m6:=(m5.aside (G:=F1) (by rw [List.nodup_append];exact ⟨hGn.2.1,hGn.1,fun x hx y hy e=>hGn.2.2 y hy x hx e.symm⟩) b1).swap
 have r1':=m5.keep rvers_ok r1 fun y hy hm=>hGn.2.2 y hy y hm rfl
 refine ⟨b,i,t2,a2,c2,a5,c5,h5,ha,by rw [ld_of hb hrow];rfl,fun K=>e2 K,fun K=>e5 K,⟨F5,r5⟩,fun c6 hc=>?_⟩
 have r5':RVers false h5 [.sl 6 a5 (l[k].wait.length+1) c6] (l[k].wait ++ [v]) F5:=by
  rcases hc with rfl | rfl
  ·exact r5
  ·exact r5.clip
 obtain ⟨h6,F6,e6,r6,m7,_⟩:=put h5 (F1++F5) 1 [.sl 6 a5 (l[k].wait.length+1) c6] [t1,.sl 6 a5 (l[k].wait.length+1) c6] ⟨l[k].store,l[k].wait ++ [v]⟩ m6 rfl ⟨_,_,F1,F5,rfl,rfl,r1',r5'⟩
 exact ⟨h6,F6,e6,r6,m7⟩
theorem spec_l3Add (hs:RNodes false h [.sl 2 a l.length c] l F) (hv:RTags false h [.sl 2 av v.past.length cv] v.past G) (hd:∀ b∈G,b∉F) (hnd:F.Nodup) (hlo:∀ b∈F,lo≤b) (hl:lo≤h.length) (hk:k<l.length)
  (hkey:0≤v.key∧v.key<l[k].store.length) (hn:smNodes l) (hvn:v.past.length≤1048576) :
  ∃ h' F',evl lo 258 [.agg [.sl 2 a l.length c],.int .i64 k,.agg (v.cs av cv)] h=some (.agg [.sl 2 a l.length c],h')∧RNodes false h' [.sl 2 a l.length c] (addN l k v) F'∧Mv h F h' F':=by
 have hn1:=hn.1
 have hkl:v.key.toNat<l[k].store.length:=by omega
 have hsm:=hn.2 _ (List.getElem_mem hk)
 suffices hq:∃ h' F',_=some (V.agg [.sl 2 a l.length c],h')∧RNodes false h' [.sl 2 a l.length c] (addN l k v) F'∧Mv h F h' F' from hq.imp fun h' hq=>hq.imp fun F' hq=>⟨E_spec_l3Add hq.1,hq.2⟩
 obtain ⟨b,i,rs,row,G0,ha,hbF,hbG,hb,hrow,hel,hGF,hGn,_,put⟩:=hs.at rnode_ok hk hnd hlo
 obtain ⟨t1,t2,F1,F2,rfl,rfl,r1,r2⟩:=hel
 obtain ⟨a1,c1,e1,r1'⟩:=r1.form
 obtain ⟨o,s,_,_,_,ha1,_,_,_,_,_,_,ho12,_⟩:=RVers.all r1' hkl
 have ld0:ld h b (i+k) 0 1=some [t1]:=by rw [ld_of hb hrow];rfl
 rw [addN_get hk hkl]
 rw [inB_nat hk]
 simp only [ha,eO_s,Int.toNat_natCast,ld0,eC_c,eN_n,e1]
 rw [inB_in ⟨by omega,by omega⟩]
 simp only [ha1,eO_s,ho12,eC_c,eI_int,eN_n,spec_l1Less,cal_s,eB_b]
 show ∃ h' F',br (lessV l[k].store[v.key.toNat] v) _ _=_∧_
 cases hle:lessV l[k].store[v.key.toNat] v with
 | false=>exact ⟨h,F,rfl,by rw [← ha];exact hs,Mv.refl hnd⟩
 | true =>
  have hGn0:=hGn
  rw [List.nodup_append] at hGn
  have hGlt:∀ b∈G,b<h.length:=rtags_ok.bd _ _ _ _ hv
  obtain ⟨h2,F3,e2,r3,m2⟩:=spec_l2Add (lo:=lo) r1' hv hGn.1 (fun y hy=>hlo y (hGF y (by simp [hy]))) hl hkey hvn
  have b2':∀ y∈F2,y<h.length:=rvers_ok.bd _ _ _ _ r2
  have m3:=m2.aside (G:=F2) hGn0 b2'
  have r2':=m2.keep rvers_ok r2 fun y hy hm=>hGn.2.2 y hm y hy rfl
  have hadd:addVer l[k].store v=l[k].store.set v.key.toNat v:=by rw [addVer_get hkl,hle,cond_true]
  have hlen:(addVer l[k].store v).length=l[k].store.length:=addVer_len
  rw [← hlen] at r3
  obtain ⟨h4,F4,e4,r4,m4,b4,fr4,l4⟩:=put h2 (F3++F2) 0 [.sl 6 a1 (addVer l[k].store v).length c1] [.sl 6 a1 (addVer l[k].store v).length c1,t2] ⟨addVer l[k].store v,l[k].wait⟩ m3 rfl ⟨_,_,F3,F2,rfl,rfl,r3,r2'⟩
  rw [hlen] at e4
  have hv4:RTags false h4 [.sl 2 av v.past.length cv] v.past G:=m4.keep rtags_ok hv hd
  have hk4:k<(l.set k ⟨addVer l[k].store v,l[k].wait⟩).length:=by simpa using hk
  rw [br_t,inB_nat hk]
  simp only [eO_s,ld0,eC_c,e1,eN_n]
  rw [e2]
  simp only [cal_s,eA_a,eC_c,eS_sl,eN_n]
  rw [inB_nat hk,e4]
  simp only [eO_s]
  rw [wr (by omega) (by omega),cond_true]
  by_cases hlast:k+1<l.length
  ·rw [br_pos (by omega),inB_nat hk,decide_eq_true hlast,cond_true]
   obtain ⟨a6,c6,h6,F6,e6,r6,m6⟩:=spec_l2Copy (lo:=h4.length) (v:=v) hv4 (Nat.le_refl _) hvn
   have hself:(l.set k ⟨addVer l[k].store v,l[k].wait⟩)[k]=⟨addVer l[k].store v,l[k].wait⟩:=List.getElem_set_self hk4
   obtain ⟨b7,i7,u2,a7,c7,a8,c8,h8,ha7,ld7,e7,app7,_,st7⟩:=push_wait (lo:=lo) r4 hk4 m4.nd (fun y hy=>m4.ge hl hlo y hy) (Nat.le_trans hl m4.le) (by rw [hself];exact hsm.2.1) r6 m6
   simp only [hself] at e7 app7 st7
   obtain ⟨h9,F9,e9,r9,m9⟩:=st7 _ (.inl rfl)
   rw [ha] at ha7
   injection ha7 with ha7
   injection ha7 with hb7 hi7
   subst hb7;subst hi7
   simp only [ld7,eO_s,eC_c,eN_n,e7]
   rw [e6]
   simp only [cal_s,eA_a,eC_c,eI_int,eS_sl,eT_s,eBv_b,eN_n,rows_one]
   rw [app7]
   simp only [eS_sl]
   rw [inB_nat hk,e9]
   rw [List.set_set,hadd] at r9
   exact ⟨h9,F9,rfl,by rw [← ha];exact r9,m4.trans m9⟩
  ·rw [br_neg (by omega),decide_eq_false hlast,cond_false]
   rw [hadd] at r4
   exact ⟨h4,F4,rfl,by rw [← ha];exact r4,m4⟩
end
end Go.Proofs.YthdfojchihooeaaGreat
namespace Go.Proofs.YthdfojchihooeaaGreat
open Go T


def lastOf (l:List Node):List Ver:=match l.getLast? with
 | some x=>x.store
 | none => []
theorem lastOf_get {l:List Node} (h0:0<l.length):lastOf l=(l[l.length - 1]'(by omega)).store:=by
 unfold lastOf;rw [List.getLast?_eq_getElem?,List.getElem?_eq_getElem (by omega)]
section
variable {lo:Nat}{h:Heap}{F F':List Nat}{a a':Option (Nat×Nat)}{c c':Option Nat}
end
end Go.Proofs.YthdfojchihooeaaGreat
namespace Go.Proofs.YthdfojchihooeaaGreat
open Go T


theorem Mv.store {h h':Heap}{F F':List Nat}{b:Nat} (m:Mv h F h' F') (hb:b<h.length) (hbF:b∉F) (X:Blk) :
  Mv h (b :: F) (h'.set b X) (b :: F')∧(h'.set b X)[b]?=some X∧(∀ y,y≠b→(h'.set b X)[y]?=h'[y]?)∧b∉F':=by
 have hbF':b∉F':=fun hm=>by
  rcases m.sub b hm with g | g
  ·exact hbF g
  ·omega
 have hb':b<h'.length:=Nat.lt_of_lt_of_le hb m.le
 refine ⟨⟨by simpa using m.le,fun y hy hF=>?_,by rw [List.nodup_cons];exact ⟨hbF',m.nd⟩,fun y hy=>?_⟩,by simp [hb'],fun y hy=>List.getElem?_set_ne (Ne.symm hy),hbF'⟩
 ·rw [List.mem_cons,not_or] at hF
  rw [List.getElem?_set_ne (Ne.symm hF.1)]
  exact m.fr y hy hF.2
 ·rw [List.mem_cons] at hy
  rcases hy with rfl | hy
  ·exact .inl (by simp)
  ·refine (m.sub y hy).imp (fun g=>by simp [g]) fun g=>by simpa using g
section
variable {lo:Nat}{ro:Bool}{h:Heap}{F F':List Nat}{a a':Option (Nat×Nat)}{c c':Option Nat}
end
end Go.Proofs.YthdfojchihooeaaGreat
namespace Go.Proofs.YthdfojchihooeaaGreat
open Go T


def thin (v:Ver):Prop:=v.past.length≤4∧v.text.size≤8∧tagOk v.tag.time v.tag.place=true
def nodeIn (nw:Nat) (x:Node):Prop:=x.store.length=4∧x.wait.length≤nw∧(∀ v∈x.store,thin v)∧∀ v∈x.wait,thin v
theorem thin_ok {v:Ver} (h:verOk v=true):thin v:=by
 obtain ⟨_,h2,_,h3,h4,_⟩:=verOk_parts h
 have:=textOk_size h2
 have:=pastOk_len h3
 exact ⟨by omega,by omega,h4⟩
theorem thin_zero {v:Ver} (h:zeroVer v=true):thin v:=by
 rw [zero_is h];exact ⟨by simp,by show 0≤8;omega,rfl⟩
theorem thin_at {i:Nat}{v:Ver} (h:verAt i v=true):thin v:=(verAt_case h).elim thin_zero fun h=>thin_ok h.1
theorem log_parts {m:Int}{l:List Ver} (h:logOk m l=true):l.length≤60∧∀ i (hi:i<l.length),verOk l[i]=true∧l[i].tag.place=m∧hasTag (l.take i) l[i].tag=false:=by
 unfold logOk at h
 rw [Bool.and_eq_true,all_zipIdx,decide_eq_true_eq] at h
 refine ⟨by omega,fun i hi=>?_⟩
 have:=h.1 i hi
 simp only [logAt,Bool.and_eq_true,beq_iff_eq,Bool.not_eq_true'] at this
 exact ⟨this.1.1,this.1.2,this.2⟩
theorem node_thin {x:Node} (h:nodeOk x=true):nodeIn 6 x:=by
 obtain ⟨h1,h2,h3⟩:=nodeOk_parts h
 refine ⟨storeOk_len h1,h2,fun v hv=>?_,fun v hv=>thin_ok (h3 v hv)⟩
 obtain ⟨i,hi,rfl⟩:=List.mem_iff_getElem.1 hv
 exact thin_at (storeOk_get h1 hi)
theorem ok_parts {p:Place} (h:placeOk p=true):(0≤p.me∧p.me≤2)∧(0≤p.clock∧p.clock≤999)∧p.got.length=3∧chainOk p.chain=true∧causesOk p.chain=true∧logOk p.me p.log=true ∧
  (∀ i (hi:i<p.got.length),gotAt p.me i p.got[i]=true)∧headOk p.chain p.clock=true:=by
 unfold placeOk at h
 simp only [Bool.and_eq_true,all_zipIdx,decide_eq_true_eq,within] at h
 obtain ⟨⟨⟨⟨⟨⟨⟨h1,h2⟩,h3⟩,h4⟩,h5⟩,h6⟩,h7⟩,h8⟩:=h
 exact ⟨h1,h2,h3,h4,h5,h6,h7,h8⟩
theorem mkN_all {α:Type}{w:α→Nat}{c:Nat}:∀ {l:List α},(∀ v∈l,w v≤c)→mkN w l≤c*l.length
 | [],_=>by simp [mkN]
 | x :: l,h=>by
  have h1:=mkN_all (w:=w) (l:=l) fun v hv=>h v (by simp [hv])
  have h2:=h x (by simp)
  simp only [mkN,List.map_cons,List.sum_cons,List.length_cons,Nat.mul_add,Nat.mul_one] at h1 ⊢
  omega
theorem thin_w {v:Ver} (h:thin v):wVer v≤13:=by
 have:=h.1
 unfold wVer
 rw [mkN_tag];omega
theorem thin_sm {l:List Ver} (hl:l.length≤1048576) (h:∀ v∈l,thin v):smVers l:=⟨hl,fun v hv=>by have:=h v hv;exact ⟨by have:=this.1;omega,by have:=this.2.1;omega⟩⟩
theorem thin_ws {l:List Ver} (h:∀ v∈l,thin v):wVers l≤13*l.length:=mkN_all fun v hv=>thin_w (h v hv)
theorem node_sm {nw:Nat}{x:Node} (h:nodeIn nw x) (hw:nw≤100):smVers x.store∧smVers x.wait:=by
 obtain ⟨h1,h2,h3,h4⟩:=h
 exact ⟨thin_sm (by omega) h3,thin_sm (by omega) h4⟩
theorem node_w {nw:Nat}{x:Node} (h:nodeIn nw x) (hw:nw≤100):wNode x≤1352:=by
 obtain ⟨h1,h2,h3,h4⟩:=h
 have:=thin_ws h3
 have:=thin_ws h4
 unfold wNode
 omega
end Go.Proofs.YthdfojchihooeaaGreat
namespace Go.Proofs.YthdfojchihooeaaGreat
open Go T


def roomAt (l:List Node) (k:Nat):Bool:=match l[k]? with
 | some x=>decide (x.wait.length<6)
 | none=>false
theorem roomAt_get {l:List Node}{k:Nat} (hk:k<l.length):roomAt l k=decide (l[k].wait.length<6):=by unfold roomAt;rw [List.getElem?_eq_getElem hk]
theorem addN_len {l:List Node}{k:Nat}{v:Ver}:(addN l k v).length=l.length:=by
 unfold addN
 split
 ·split
  ·cases lessV _ v<;>simp
  ·rfl
 ·rfl
section
variable {lo:Nat}{ro:Bool}{h:Heap}{F F':List Nat}{a a':Option (Nat×Nat)}{c c':Option Nat}
theorem spec_l3Room {l:List Node} (hs:RNodes ro h [.sl 2 a l.length c] l F) (h0:0<l.length):evl lo 257 [.agg [.sl 2 a l.length c]] h=some (.bool (roomAt l 0),h):=by
 refine E_spec_l3Room (h':=h) ?_
 obtain ⟨o,s1,s2,b1,d1,b2,d2,G1,G2,ha,_,_,ho2,_,e2,_⟩:=hs.get h0
 rw [roomAt_get h0,show (0:Int)=((0:Nat):Int) from rfl,inB_nat h0]
 simp only [ha,eO_s,Int.toNat_natCast,ho2,eC_c,e2,eN_n]
 by_cases hw:l[0].wait.length<6
 ·rw [br_pos (by omega),decide_eq_true hw]
 ·rw [br_neg (by omega),decide_eq_false hw]
end
end Go.Proofs.YthdfojchihooeaaGreat
namespace Go.Proofs.YthdfojchihooeaaGreat
open Go T


theorem app_cap {lo e R bytes n N b i:Nat}{row:List V}{h h2:Heap}{a':Option (Nat×Nat)}{c':Option Nat}{m:Nat} (hap:∀ {T:Type} (K:V→Heap→Option T),app lo e R bytes (.sl R (some (b,i)) n (some N)) [row] h K=K (.sl R a' m c') h2) (hN:n+1≤N):a'=some (b,i)∧c'=some N:=by
 have h1:=hap fun v _=>some v
 simp only [app] at h1
 obtain ⟨_,h1⟩:=need_some h1
 obtain ⟨_,h1⟩:=need_some h1
 obtain ⟨_,h1⟩:=need_some h1
 rw [show Nat.ble (n + [row].length) N=true from ble_of hN] at h1
 obtain ⟨_,_,h1⟩:=eO_some h1
 injection h1 with h1
 injection h1 with _ h2 _ h3
 exact ⟨h2.symm,h3.symm⟩
theorem build_cap {α T:Type}{El:Rel α} (ok:El.Ok) {h0:Heap}{l:List α}{lo R e bytes N:Nat}{p0:Nat×Nat}{F0:List Nat} (hlo:lo≤h0.length) (hF:∀ b∈F0,lo≤b) (hnd:F0.Nodup) (hb:0<bytes) (hsz:l.length*bytes≤140737488355328) (hN:l.length≤N)
  (L:Nat→Option (Nat×Nat)→Nat→Option Nat→Heap→Option T)
  (step:∀ i (hi:i<l.length) hh F,Mv h0 F0 hh F→∃ row G h2,El h2 row l[i] G∧Mv hh [] h2 G∧L i (some p0) i (some N) hh=app lo e R bytes (.sl R (some p0) i (some N)) [row] h2 fun v h=>eS R v fun a n c=>L (i+1) a n c h)
  (hs:Sli false R e El h0 [.sl R (some p0) 0 (some N)] [] F0) :
  ∃ h' F',L 0 (some p0) 0 (some N) h0=L l.length (some p0) l.length (some N) h'∧Sli false R e El h' [.sl R (some p0) l.length (some N)] l F'∧Mv h0 F0 h' F':=by
 have loop:∀ m i hh F,m+i=l.length→Mv h0 F0 hh F→Sli false R e El hh [.sl R (some p0) i (some N)] (l.take i) F →
   ∃ h' F',L i (some p0) i (some N) hh=L l.length (some p0) l.length (some N) h'∧Sli false R e El h' [.sl R (some p0) l.length (some N)] l F'∧Mv h0 F0 h' F':=by
  intro m
  induction m with
  | zero =>
   intro i hh F hi hm hr
   have:i=l.length:=by omega
   subst this
   rw [List.take_length] at hr
   exact ⟨hh,F,rfl,hr,hm⟩
  | succ m ih =>
   intro i hh F hi hm hr
   have hlt:i<l.length:=by omega
   obtain ⟨row,G,h2,hy,m2,e2⟩:=step i hlt hh F hm
   have hlen:(l.take i).length=i:=by rw [List.length_take];omega
   have hml:(i+1)*bytes≤l.length*bytes:=Nat.mul_le_mul_right _ hlt
   obtain ⟨a5,c5,h5,F5,e5,r5,m5⟩:=push_one (lo:=lo) (bytes:=bytes) ok hr (row:=row) (x:=l[i]) (G:=G) (h1:=h2) hy m2 hm.nd (fun y hy=>hm.ge hlo hF y hy) (Nat.le_trans hlo hm.le) hb (by rw [hlen];omega)
   obtain ⟨b0,i0⟩:=p0
   obtain ⟨rfl,rfl⟩:=app_cap e5 (by omega)
   rw [hlen] at e5 r5
   rw [List.take_append_getElem hlt] at r5
   obtain ⟨h',F',e6,r6,m6⟩:=ih (i+1) h5 F5 (by omega) (hm.trans m5) r5
   refine ⟨h',F',?_,r6,m6⟩
   rw [e2,e5,eS_sl,e6]
 exact loop l.length 0 h0 F0 (by omega) (Mv.refl hnd) hs
theorem EAll.mono {α:Type}{A B:Rel α}{h:Heap} (hAB:∀ row x F,A h row x F→B h row x F):∀ {rows:List (List V)}{l:List α}{Fs:List (List Nat)},EAll A h rows l Fs→EAll B h rows l Fs
 | [],[],[],_=>trivial
 | _ :: _,_ :: _,_ :: _,⟨h1,h2⟩=>⟨hAB _ _ _ h1,EAll.mono hAB h2⟩
 | [],[],_ :: _,h=>h.elim
 | [],_ :: _,_,h=>h.elim
 | _ :: _,[],_,h=>h.elim
 | _ :: _,_ :: _,[],h=>h.elim
theorem Sli.mono {α:Type}{A B:Rel α}{h:Heap}{R e:Nat}{cs:List V}{l:List α}{F:List Nat} (hAB:∀ row x F,A h row x F→B h row x F) (hs:Sli false R e A h cs l F):Sli false R e B h cs l F:=by
 obtain ⟨R',a,c,e1,g⟩:=hs
 refine ⟨R',a,c,e1,?_⟩
 cases a with
 | none=>exact g
 | some p =>
  obtain ⟨b,i⟩:=p
  obtain ⟨g0,rs,Fs,g1,g2,g3,g4,g5,g6⟩:=g
  exact ⟨g0,rs,Fs,g1,g2,g3,g4,g5.mono hAB,g6⟩
def RNodeC:Rel Node:=fun h row x F=>RNode false h row x F∧∃ s a n k,row = [s,.sl 6 a n (some k)]
theorem rnodeC_ok:RNodeC.Ok:=⟨fun h h' cs x F ⟨h1,h2⟩ hb=>⟨rnode_ok.fr _ _ _ _ _ h1 hb,h2⟩,fun h cs x F ⟨h1,_⟩=>rnode_ok.bd _ _ _ _ h1⟩
abbrev RNodesC:Rel (List Node):=Sli false 2 (eNode false) RNodeC
theorem rnodesC_ok:RNodesC.Ok:=Sli.ok rnodeC_ok
theorem RNodesC.up {h:Heap}{cs:List V}{l:List Node}{F:List Nat} (hs:RNodesC h cs l F):RNodes false h cs l F:=Sli.mono (fun _ _ _ h=>h.1) hs
section
variable {lo:Nat}{h:Heap}{F F' G:List Nat}{a a' av:Option (Nat×Nat)}{c c' cv:Option Nat}
theorem impl_versCopiedC {l:List Ver} (hs:RVers false h [.sl 6 a l.length c] l F) (hl:lo≤h.length) (hn:smVers l) :
  ∃ a' h' F',evl lo 293 [.sl 6 a l.length c] h=some (.sl 6 a' l.length (some l.length),h')∧RVers false h' [.sl 6 a' l.length (some l.length)] l F'∧Mv h [] h' F':=by
 have hn1:=hn.1
 have m0:Mv h [] (h ++ [.rows 6 (eVer false) false (List.replicate l.length [.int .i64 0,.int .i64 0,.int .i64 0,.sl 0 none 0 (some 0),.str ⟨⟨[]⟩⟩,.bool false])]) [h.length]:=Mv.last
 obtain ⟨h',F',e,r,m⟩:=build_cap (El:=RVer false) rver_ok (l:=l) (lo:=lo) (R:=6) (e:=eVer false) (bytes:=72) (N:=l.length) (p0:=(h.length,0)) (F0 := [h.length]) (Nat.le_trans hl m0.le) (m0.ge hl (by simp)) m0.nd (by decide) (by omega) (Nat.le_refl _)
  (fun i a1 n1 c1 hh=>L_impl_versCopied_0 lo a1 n1 c1 a l.length c (l.length:Nat) (i:Nat) hh) (fun i hi hh F1 hm=>by
   have hm':Mv h [] hh []:=(m0.trans hm).drop
   obtain ⟨o,s,a2,c2,G,ho,hld,es,hp,_⟩:=(hm'.keep0 rvers_ok hs).get hi
   obtain ⟨a3,c3,h3,F3,e3,r3,m3⟩:=impl_Ver_copied (lo:=lo) (v:=l[i]) hp (Nat.le_trans hl hm'.le) (hn.2 _ (List.getElem_mem hi)).1
   refine ⟨l[i].cs a3 c3,F3,h3 ++ [.rows 6 65 false [l[i].cs a3 c3]],⟨_,rfl,Mv.snoc.keep0 rtags_ok r3⟩,m3.trans (Mv.snoc' m3.nd),?_⟩
   rw [L_impl_versCopied_0.e,br_pos (by omega),inB_nat hi,ho]
   simp only [eO_s,Int.toNat_natCast,hld,eC_c,eI_int,es,eT_s,eBv_b,eN_n]
   rw [e3]
   simp only [cal_s,eA_a,eC_c,eI_int,eS_sl,eT_s,eBv_b,eN_n,rows_one,wr_succ (show i<9223372036854775807 by omega)]
   rfl) (Sli.fresh (by simp))
 refine ⟨some (h.length,0),h',F',E_impl_versCopied ?_,r,m0.trans m⟩
 rw [need_of (by omega)]
 refine e.trans ?_
 rw [L_impl_versCopied_0.e,br_neg (by omega)]
theorem impl_Chain_copiedC {l:List Node} (hs:RNodes false h [.sl 2 a l.length c] l F) (hl:lo≤h.length) (hn:smNodes l) :
  ∃ a' h' F',evl lo 225 [.agg [.sl 2 a l.length c]] h=some (.agg [.sl 2 a' l.length (some l.length)],h')∧RNodesC h' [.sl 2 a' l.length (some l.length)] l F'∧Mv h [] h' F':=by
 have hn1:=hn.1
 have m0:Mv h [] (h ++ [.rows 2 (eNode false) false (List.replicate l.length [.sl 0 none 0 (some 0),.sl 0 none 0 (some 0)])]) [h.length]:=Mv.last
 obtain ⟨h',F',e,r,m⟩:=build_cap (El:=RNodeC) rnodeC_ok (l:=l) (lo:=lo) (R:=2) (e:=76) (bytes:=48) (N:=l.length) (p0:=(h.length,0)) (F0 := [h.length])
  (Nat.le_trans hl m0.le) (m0.ge hl (by simp)) m0.nd (by decide) (by omega) (Nat.le_refl _) (fun i a1 n1 c1 hh=>L_impl_Chain_copied_0 lo a l.length c (l.length:Nat) (i:Nat) 0 none 0 (some 0) a1 n1 c1 hh) (fun i hi hh F1 hm=>by
   have hm':Mv h [] hh []:=(m0.trans hm).drop
   obtain ⟨o,s1,s2,b1,d1,b2,d2,G1,G2,ha,ho,_,_,e1,e2,p1,p2,_⟩:=(hm'.keep0 rnodes_ok hs).get hi
   have hsm:=hn.2 _ (List.getElem_mem hi)
   obtain ⟨a3,c3,h3,F3,e3,r3,m3⟩:=impl_Store_copied (lo:=lo) p1 (Nat.le_trans hl hm'.le) hsm.1
   obtain ⟨a4,h4,F4,e4,r4,m4⟩:=impl_versCopiedC (lo:=lo) (m3.keep0 rvers_ok p2) (Nat.le_trans hl (Nat.le_trans hm'.le m3.le)) hsm.2
   have m34:=m3.join m4 (rvers_ok.bd _ _ _ _ r3)
   refine ⟨[.sl 6 a3 l[i].store.length c3,.sl 6 a4 l[i].wait.length (some l[i].wait.length)],F3++F4,h4 ++ [.rows 2 76 false [[.sl 6 a3 l[i].store.length c3,.sl 6 a4 l[i].wait.length (some l[i].wait.length)]]],
    ⟨⟨_,_,F3,F4,rfl,rfl,Mv.snoc.keep0 rvers_ok (m4.keep0 rvers_ok r3),Mv.snoc.keep0 rvers_ok r4⟩,_,_,_,_,rfl⟩,m34.trans (Mv.snoc' m34.nd),?_⟩
   rw [L_impl_Chain_copied_0.e,br_pos (by omega),inB_nat hi,ha]
   simp only [eO_s,Int.toNat_natCast,ho,eC_c,e1,e2,eN_n]
   rw [e3]
   simp only [cal_s,eA_a,eC_c,eS_sl,eN_n]
   rw [e4]
   simp only [cal_s,eS_sl,rows_one,wr_succ (show i<9223372036854775807 by omega)]) (Sli.fresh (by simp))
 refine ⟨some (h.length,0),h',F',E_impl_Chain_copied ?_,r,m0.trans m⟩
 rw [need_of (by omega)]
 refine e.trans ?_
 rw [L_impl_Chain_copied_0.e,br_neg (by omega)]
end
end Go.Proofs.YthdfojchihooeaaGreat
namespace Go.Proofs.YthdfojchihooeaaGreat
open Go T


theorem EAll.erase {α:Type}{El:Rel α}{h:Heap}:∀ {rows:List (List V)}{l:List α}{Fs:List (List Nat)},EAll El h rows l Fs→∀ (k:Nat),EAll El h (rows.eraseIdx k) (l.eraseIdx k) (Fs.eraseIdx k)
 | [],[],[],_,k=>by simp [EAll]
 | _ :: _,_ :: _,_ :: _,⟨_,h2⟩,0=>h2
 | _ :: _,_ :: _,_ :: _,⟨h1,h2⟩,k+1=>⟨h1,h2.erase k⟩
 | [],[],_ :: _,h,_=>h.elim
 | [],_ :: _,_,h,_=>h.elim
 | _ :: _,[],_,h,_=>h.elim
 | _ :: _,_ :: _,[],h,_=>h.elim
theorem flatten_erase {Fs:List (List Nat)}{k:Nat}{Fk:List Nat} (hk:Fs[k]?=some Fk) (hnd:Fs.flatten.Nodup):(Fs.eraseIdx k).flatten.Nodup∧(∀ y∈(Fs.eraseIdx k).flatten,y∈Fs.flatten∧y∉Fk):=by
 induction Fs generalizing k with
 | nil=>simp at hk
 | cons F Fs ih =>
  rw [List.flatten_cons,List.nodup_append] at hnd
  obtain ⟨n1,n2,n3⟩:=hnd
  cases k with
  | zero =>
   simp at hk;subst hk
   rw [List.eraseIdx_cons_zero]
   exact ⟨n2,fun y hy=>⟨by simp only [List.flatten_cons,List.mem_append];exact .inr hy,fun hm=>n3 y hm y hy rfl⟩⟩
  | succ k =>
   obtain ⟨g1,g2⟩:=ih (k:=k) (by simpa using hk) n2
   rw [List.eraseIdx_cons_succ,List.flatten_cons,List.nodup_append]
   refine ⟨⟨n1,g1,fun x hx y hy=>n3 x hx y (g2 y hy).1⟩,fun y hy=>?_⟩
   rcases List.mem_append.1 hy with hy | hy
   ·refine ⟨by simp only [List.flatten_cons,List.mem_append];exact .inl hy,fun hm=>?_⟩
    exact n3 y hy y (mem_of_get (by simpa using hk) hm) rfl
   ·exact ⟨by simp only [List.flatten_cons,List.mem_append];exact .inr (g2 y hy).1,(g2 y hy).2⟩
theorem erase_rows {rs:List (List V)}{i n k:Nat}{z:List V} (hi:i+n≤rs.length) (hk:k<n) :
  let rs1:=rs.take (i+k)++((rs.drop (i+(k+1))).take (n - (k+1)))++rs.drop (i+k+((rs.drop (i+(k+1))).take (n - (k+1))).length)
  ((rs1.take (i+(n - 1)) ++ [z]++rs1.drop (i+(n - 1)+1)).drop i).take (n - 1)=(((rs.drop i).take n)).eraseIdx k∧(rs1.take (i+(n - 1)) ++ [z]++rs1.drop (i+(n - 1)+1)).length=rs.length∧rs1.length=rs.length:=by
 intro rs1
 have e0:((rs.drop (i+(k+1))).take (n - (k+1))).length=n - (k+1):=by rw [List.length_take,List.length_drop];omega
 have e1:rs1.length=rs.length:=by
  show (rs.take (i+k)++((rs.drop (i+(k+1))).take (n - (k+1)))++rs.drop (i+k+((rs.drop (i+(k+1))).take (n - (k+1))).length)).length=rs.length
  rw [List.length_append,List.length_append,List.length_take,List.length_drop,e0];omega
 refine ⟨?_,?_,e1⟩
 ·apply List.ext_getElem?
  intro j
  have hget:∀ q,q<i+(n - 1)→rs1[q]?=if q<i+k then rs[q]? else rs[q+1]?:=by
   intro q hq
   show (rs.take (i+k)++((rs.drop (i+(k+1))).take (n - (k+1)))++rs.drop (i+k+((rs.drop (i+(k+1))).take (n - (k+1))).length))[q]?=_
   by_cases h1:q<i+k
   ·rw [if_pos h1,List.getElem?_append_left (by rw [List.length_append,List.length_take];omega),List.getElem?_append_left (by rw [List.length_take];omega),List.getElem?_take,if_pos h1]
   ·rw [if_neg h1,List.getElem?_append_left (by rw [List.length_append,List.length_take,e0];omega),List.getElem?_append_right (by rw [List.length_take];omega),List.length_take,List.getElem?_take,if_pos (by omega),List.getElem?_drop]
    congr 1;omega
  rw [List.getElem?_take,List.getElem?_drop,List.getElem?_eraseIdx]
  by_cases hj:j<n - 1
  ·rw [if_pos hj,List.getElem?_append_left (by rw [List.length_append,List.length_take];omega),List.getElem?_append_left (by rw [List.length_take];omega),List.getElem?_take,if_pos (by omega),hget _ (by omega)]
   by_cases hjk:j<k
   ·rw [if_pos (by omega),if_pos hjk,List.getElem?_take,if_pos (by omega),List.getElem?_drop]
   ·rw [if_neg (by omega),if_neg hjk,List.getElem?_take,if_pos (by omega),List.getElem?_drop];congr 1
  ·rw [if_neg hj]
   by_cases hjk:j<k
   ·omega
   ·rw [if_neg hjk,List.getElem?_take,if_neg (by omega)]
 ·rw [List.length_append,List.length_append,List.length_take,List.length_drop,e1]
  simp only [List.length_singleton];omega
theorem stRows_of {lo:Nat}{h:Heap}{b i R e:Nat}{rs xs:List (List V)} (hb:h[b]?=some (.rows R e false rs)) (hlo:lo≤b) (hi:i+xs.length≤rs.length):stRows lo h b i xs=some (h.set b (.rows R e false (rs.take i++xs++rs.drop (i+xs.length)))):=by
 simp only [stRows,hb,ble_of hlo,ble_of hi]
theorem Sli.del {α T:Type}{El:Rel α} (ok:El.Ok) {h:Heap}{lo R e N n k bytes:Nat}{a:Option (Nat×Nat)}{l:List α}{F:List Nat}{z:List V}{x1 x2:Int} (hs:Sli false R e El h [.sl R a n (some N)] l F) (hk:k<l.length) (hnd:F.Nodup) (hlo:∀ b∈F,lo≤b)
  (h1:x1=(k:Nat)) (h2:x2=(k:Nat)+1) (hb:0<bytes) (hsz:l.length*bytes≤140737488355328) (X:Option T) (K:V→Heap→Option T) :
  ∃ h' F' Fk b i row,a=some (b,i)∧ld h b (i+k) 0 row.length=some row∧El h row (l[k]'hk) Fk∧(∀ y∈Fk,y∈F∧y∉F'∧y≠b) ∧
   (reslice a n (some N) (some (.int .i64 x1)) (some (.int .i64 x2)) (some (.int .i64 (n:Nat))) fun _ _ _=>br (x1==x2) X (reslice a n (some N) none (some (.int .i64 x1)) none fun a3 n4 c5=>reslice a n (some N) (some (.int .i64 x2)) none none fun a6 n7 c8=>rowsOf R h (.sl R a6 n7 c8) fun x9 =>
    app lo e R bytes (.sl R a3 n4 c5) x9 h fun v10 h11=>eS R v10 fun a12 n13 c14=>reslice a12 n13 c14 (some (.int .i64 (n13:Nat))) (some (.int .i64 (n:Nat))) none fun a15 n16 c17=>clr lo R R true z h11 a15 n16 fun h18=>K (.sl R a12 n13 c14) h18))=K (.sl R a (l.length - 1) (some N)) h' ∧
   Sli false R e El h' [.sl R a (l.length - 1) (some N)] (l.eraseIdx k) F'∧Mv h F h' F'∧(∀ y,y≠b→h'[y]?=h[y]?):=by
 have hn:=hs.val
 subst hn
 obtain ⟨R1,a1,c1,e1,g⟩:=hs
 injection e1 with e1 _;injection e1 with e0 e2 _ e3
 subst e2;subst e3
 cases a with
 | none=>obtain ⟨rfl,_⟩:=g;simp at hk
 | some p =>
 obtain ⟨b,i⟩:=p
 obtain ⟨_,rs,Fs,g1,g2,g3,_,g5,rfl⟩:=g
 obtain ⟨hN,hNr⟩:=g3 N rfl
 obtain ⟨row,Fk,hrow,hFk,hel⟩:=g5.get (List.getElem?_eq_getElem hk)
 have hlob:=hlo b (by simp)
 rw [List.nodup_cons] at hnd
 obtain ⟨f1,f2⟩:=flatten_erase hFk hnd.2
 have hblt:b<h.length:=(List.getElem?_eq_some_iff.1 g1).1
 have hri:rs[i+k]?=some row:=by
  rw [List.getElem?_take,if_pos hk,List.getElem?_drop] at hrow;exact hrow
 have e0:((rs.drop (i+(k+1))).take (l.length - (k+1))).length=l.length - (k+1):=by rw [List.length_take,List.length_drop];omega
 obtain ⟨r1,r2,r3⟩:=erase_rows (z:=z) g2 hk
 generalize hxs:(rs.drop (i+(k+1))).take (l.length - (k+1))=xs at e0 r1 r2 r3
 generalize hrs1:rs.take (i+k)++xs++rs.drop (i+k+xs.length)=rs1 at r1 r2 r3
 have fr:∀ (X:Blk) y,y≠b→(h.set b X)[y]?=h[y]?:=fun X y hy=>List.getElem?_set_ne (Ne.symm hy)
 have hbFs:∀ y∈Fs.flatten,y≠b:=fun y hy e=>hnd.1 (e ▸ hy)
 have m:∀ X:Blk,Mv h (b :: Fs.flatten) (h.set b X) (b ::(Fs.eraseIdx k).flatten):=fun X=>⟨by simp,fun y hy hF=>by
  rw [List.mem_cons,not_or] at hF;exact fr X y hF.1,by rw [List.nodup_cons];exact ⟨fun hm=>hnd.1 (f2 b hm).1,f1⟩,fun y hy=>by
  rcases List.mem_cons.1 hy with rfl | hy
  ·exact .inl (by simp)
  ·exact .inl (by simp [(f2 y hy).1])⟩
 have fin:∀ rsX:List (List V),(rsX.drop i).take (l.length - 1)=((rs.drop i).take l.length).eraseIdx k→rsX.length=rs.length→Sli false R e El (h.set b (.rows R e false rsX)) [.sl R (some (b,i)) (l.length - 1) (some N)] (l.eraseIdx k) (b ::(Fs.eraseIdx k).flatten):=fun rsX hX hXl=>by
  have hle:(l.eraseIdx k).length=l.length - 1:=List.length_eraseIdx_of_lt hk
  refine ⟨R,some (b,i),some N,by rw [hle],rfl,rsX,Fs.eraseIdx k,by simp [hblt],by rw [hle,hXl];omega,fun q hq=>by injection hq with hq;subst hq;rw [hle,hXl];omega,fun hc=>(by cases hc),?_,rfl⟩
  rw [hle,hX]
  exact (g5.erase k).fr ok.fr fun y hy=>fr _ y (hbFs y (f2 y hy).1)
 have hmul:(k+xs.length)*bytes≤140737488355328:=Nat.le_trans (Nat.mul_le_mul_right _ (by omega)) hsz
 refine ⟨h.set b (.rows R e false (rs1.take (i+(l.length - 1)) ++ [z]++rs1.drop (i+(l.length - 1)+1))),b ::(Fs.eraseIdx k).flatten,Fk,b,i,row,rfl,by rw [ld_of g1 hri];exact cut_all rfl,hel,fun y hy=>?_,?_,fin _ r1 r2,m _,fun y hy=>fr _ y hy⟩
 ·have hyF:=mem_of_get hFk hy
  exact ⟨by simp [hyF],fun hm=>by
   rcases List.mem_cons.1 hm with rfl | hm
   ·exact hbFs y hyF rfl
   ·exact (f2 y hm).2 hy,hbFs y hyF⟩
 have hx12:(x1==x2)=false:=by rw [beq_eq_false_iff_ne,h1,h2];omega
 have hRR:Nat.beq R R=true:=beq_of
 have s1:∀ (Y:Option T),(reslice (some (b,i)) l.length (some N) (some (.int .i64 x1)) (some (.int .i64 x2)) (some (.int .i64 (l.length:Nat))) fun _ _ _=>Y)=Y:=fun Y=>by
  unfold reslice slMax slHi slLo
  simp only [eI_int,Int.toNat_natCast,Option.isNone_some]
  rw [inS_in ⟨by omega,by omega⟩,inS_in ⟨by rw [h2];omega,by rw [h2];omega⟩,inS_in ⟨by rw [h1];omega,by rw [h1,h2];omega⟩]
  unfold slAt
  simp only
  cases Nat.beq l.length x1.toNat<;>rfl
 have s2:∀ (K:Option (Nat×Nat)→Nat→Option Nat→Option T),reslice (some (b,i)) l.length (some N) none (some (.int .i64 x1)) none K=K (some (b,i)) k (some N):=fun K=>by
  unfold reslice slMax slHi slLo
  simp only [eI_int,Option.isNone_none]
  rw [inS_in ⟨by rw [h1];omega,by rw [h1];omega⟩,h1,Int.toNat_natCast]
 have s3:∀ (K:List (List V)→Option T),(reslice (some (b,i)) l.length (some N) (some (.int .i64 x2)) none none fun a6 n7 c8=>rowsOf R h (.sl R a6 n7 c8) K)=K xs:=fun K=>by
  unfold reslice slMax slHi slLo
  simp only [eI_int,Option.isNone_none]
  have ht:x2.toNat=k+1:=by rw [h2];omega
  rw [inS_in ⟨by rw [h2];omega,by rw [h2];omega⟩,ht]
  unfold slAt
  simp only
  cases hm:l.length - (k+1) with
  | zero =>
   have hx0:xs = []:=List.eq_nil_of_length_eq_zero (by omega)
   rw [hx0]
   cases Nat.beq N (k+1)<;>simp [br,rowsOf,hRR,need]
  | succ m =>
   have hne:Nat.beq N (k+1)=false:=by
    cases hb:Nat.beq N (k+1) with
    | false=>rfl
    | true=>have:=Nat.eq_of_beq_eq_true hb;omega
   rw [hne,br_f]
   simp only [rowsOf,hRR,need_t]
   rw [show ldRows h b (i+(k+1)) (m+1)=some xs by
    simp only [ldRows,Heap.rows?,g1,Option.bind_some]
    rw [ble_of (by omega),← hm,hxs]]
   rfl
 have s4:∀ (K:V→Heap→Option T),∃ h11,h11[b]?=some (.rows R e false rs1)∧(∀ X:Blk,h11.set b X=h.set b X)∧app lo e R bytes (.sl R (some (b,i)) k (some N)) xs h K=K (.sl R (some (b,i)) (l.length - 1) (some N)) h11:=fun K=>by
  cases hx:xs with
  | nil =>
   rw [hx] at e0 hrs1
   simp only [List.length_nil] at e0
   have hk1:k=l.length - 1:=by omega
   refine ⟨h,?_,fun X=>rfl,?_⟩
   ·rw [g1,← hrs1];simp
   ·simp only [app];rw [← hk1]
  | cons x0 xr =>
   have hl1:k+(x0 :: xr).length=l.length - 1:=by rw [← hx,e0];omega
   refine ⟨h.set b (.rows R e false rs1),by simp [hblt],fun X=>by rw [List.set_set],?_⟩
   have hst:stRows lo h b (i+k) (x0 :: xr)=some (h.set b (.rows R e false rs1)):=by
    rw [stRows_of g1 hlob (by rw [Nat.add_assoc,hl1];omega),← hx,hrs1]
   have hmul':decide ((k+(x0 :: xr).length)*bytes≤maxBytes)=true:=decide_eq_true (by rw [← hx];exact hmul)
   have hbb:Nat.blt 0 bytes=true:=by simpa [Nat.blt_eq] using hb
   have hle:Nat.ble (k+(x0 :: xr).length) N=true:=ble_of (by omega)
   simp only [app]
   rw [hbb,need_t,hmul',need_t,hRR,need_t,hle,hst]
   rw [hl1]
   rfl
 rw [s1,hx12,br_f,s2,s3]
 obtain ⟨h11,q1,q2,q3⟩:=s4 fun v10 h11=>eS R v10 fun a12 n13 c14=>reslice a12 n13 c14 (some (.int .i64 (n13:Nat))) (some (.int .i64 (l.length:Nat))) none fun a15 n16 c17=>clr lo R R true z h11 a15 n16 fun h18=>K (.sl R a12 n13 c14) h18
 rw [q3,eS_sl]
 have hlen:(l.length - (l.length - 1))=1:=by omega
 have hne:Nat.beq N (l.length - 1)=false:=by
  cases hb:Nat.beq N (l.length - 1) with
  | false=>rfl
  | true=>have:=Nat.eq_of_beq_eq_true hb;omega
 have hst:stRows lo h11 b (i+(l.length - 1)) (List.replicate 1 z)=some (h.set b (.rows R e false (rs1.take (i+(l.length - 1)) ++ [z]++rs1.drop (i+(l.length - 1)+1)))):=by
  rw [stRows_of q1 hlob (by simp;omega),q2];rfl
 unfold reslice slMax slHi slLo
 simp only [eI_int,Int.toNat_natCast,Option.isNone_none]
 rw [inS_in ⟨by omega,by omega⟩,inS_in ⟨by omega,by omega⟩]
 unfold slAt
 simp only
 rw [hne,br_f,hlen]
 simp only [clr,hRR,Bool.and_self,need_t,hst,eO_s]
end Go.Proofs.YthdfojchihooeaaGreat
namespace Go.Proofs.YthdfojchihooeaaGreat
open Go T


def dropW (l:List Node) (k:Nat):List Node:=match l[k]? with
 | some x=>l.set k ⟨x.store,x.wait.eraseIdx 0⟩
 | none=>l
def passes (l:List Node) (k:Nat):Bool:=match l[k]? with
 | some x=>decide (0<x.wait.length)&&roomAt l (k+1)
 | none=>false
def canPass (l:List Node) (k:Int):Bool:=within k 0 ((l.length:Int) - 2)&&passes l k.toNat
def passN (l:List Node) (k:Nat):List Node:=match l[k]? with
 | some x=>match x.wait[0]? with
  | some v=>addN (dropW l k) (k+1) v
  | none=>l
 | none=>l
theorem dropW_get {l:List Node}{k:Nat} (hk:k<l.length):dropW l k=l.set k ⟨l[k].store,l[k].wait.eraseIdx 0⟩:=by unfold dropW;rw [List.getElem?_eq_getElem hk]
theorem dropW_len {l:List Node}{k:Nat}:(dropW l k).length=l.length:=by unfold dropW;split<;>simp
theorem passes_get {l:List Node}{k:Nat} (hk:k<l.length):passes l k=(decide (0<l[k].wait.length)&&roomAt l (k+1)):=by unfold passes;rw [List.getElem?_eq_getElem hk]
theorem passN_get {l:List Node}{k:Nat} (hk:k<l.length) (h0:0<l[k].wait.length):passN l k=addN (dropW l k) (k+1) (l[k].wait[0]'h0):=by
 unfold passN;rw [List.getElem?_eq_getElem hk];simp only;rw [List.getElem?_eq_getElem h0]
theorem Sli.at2 {α:Type}{El:Rel α} (ok:El.Ok) {h:Heap}{R R' e n k lo:Nat}{a:Option (Nat×Nat)}{c:Option Nat}{l:List α}{F:List Nat} (hs:Sli false R e El h [.sl R' a n c] l F) (hk:k<l.length) (hnd:F.Nodup) (hlo:∀ b∈F,lo≤b) :
  ∃ b i rs row G,a=some (b,i)∧b∈F∧b∉G∧h[b]?=some (.rows R e false rs)∧rs[i+k]?=some row∧El h row l[k] G∧(∀ y∈G,y∈F)∧G.Nodup ∧
   (∀ h1 G1 j cs row' x',Mv h G h1 G1→paste row j cs=some row'→El h1 row' x' G1 →
    ∃ h2 F',st lo h1 b (i+k) j cs=some h2∧Sli false R e El h2 [.sl R' a n c] (l.set k x') F'∧Mv h F h2 F'∧(∀ y,y≠b→h2[y]?=h1[y]?)∧∀ y∈F',(y∈F∧y∉G)∨y∈G1):=by
 have hbd:=(Sli.ok ok).bd _ _ _ _ hs
 obtain ⟨b,i,rs,row,G,ha,hbF,hbG,hb,hrow,hel,hGF,hGn,put⟩:=hs.put ok.fr hk hnd
 have hblt:b<h.length:=hbd b hbF
 refine ⟨b,i,rs,row,G,ha,hbF,hbG,hb,hrow,hel,hGF,hGn,fun h1 G1 j cs row' x' m hp hx=>?_⟩
 have hbG1:b∉G1:=fun hm=>by
  rcases m.sub b hm with h1 | h1
  ·exact hbG h1
  ·omega
 have hb1:h1[b]?=some (.rows R e false rs):=by rw [m.fr b hblt hbG];exact hb
 have hb1lt:b<h1.length:=Nat.lt_of_lt_of_le hblt m.le
 have e2:=st_first hb1 (hlo b hbF) hrow hp
 have fr2:∀ y,y≠b→(h1.set b (.rows R e false (rs.set (i+k) row')))[y]?=h1[y]?:=fun y hy=>List.getElem?_set_ne (Ne.symm hy)
 obtain ⟨F',p1,p2,p3,_⟩:=put (h1.set b (.rows R e false (rs.set (i+k) row'))) row' x' G1 (by simp [hb1lt]) (fun y hy hyb hyG=>by rw [fr2 y hyb];exact m.fr y (hbd y hy) hyG)
  (ok.fr _ _ _ _ _ hx fun y hy=>fr2 y fun e=>hbG1 (e ▸ hy)) m.nd (fun y hy hyF=>by
  rcases m.sub y hy with h1 | h1
  ·exact h1
  ·have:=hbd y hyF;omega)
 refine ⟨_,F',e2,p1,⟨by simpa using m.le,fun y hy hyF=>?_,p3,fun y hy=>?_⟩,fr2,p2⟩
 ·rw [fr2 y fun e=>hyF (e ▸ hbF)]
  exact m.fr y hy fun hg=>hyF (hGF y hg)
 ·rcases p2 y hy with h1 | h1
  ·exact .inl h1.1
  ·refine (m.sub y h1).imp (hGF y) fun h=>by simpa using h
section
variable {lo:Nat}{ro:Bool}{h:Heap}{F F' G:List Nat}{a a' av:Option (Nat×Nat)}{c c' cv:Option Nat}
theorem tail_new {l:List Ver} (hs:RVers false h [.sl 6 a l.length c] l F) (h0:0<l.length) (hnd:F.Nodup) (hl:lo≤h.length) (hn:l.length≤1048576) :
  ∃ o s av cv Gv,a=some o∧ld h o.1 (o.2+0) 0 6=some [.int .i64 l[0].key,.int .i64 l[0].tag.time,.int .i64 l[0].tag.place,s,.str l[0].text,.bool l[0].gone]∧(∀ {T:Type} (K:Option (Nat×Nat)→Nat→Option Nat→Option T),eS 2 s K=K av l[0].past.length cv)∧RTags false h [.sl 2 av l[0].past.length cv] l[0].past Gv ∧
   ∃ a' c' h' F',(∀ {T:Type} (K:V→Heap→Option T),(reslice a l.length c (some (.int .i64 1)) none none fun a n c=>rowsOf 6 (h ++ [.rows 6 65 false []]) (.sl 6 a n c) fun xs=>app lo 65 6 72 (.sl 6 (some (h.length,0)) 0 (some 0)) xs (h ++ [.rows 6 65 false []]) K)=K (.sl 6 a' (l.eraseIdx 0).length c') h') ∧
    RVers false h' [.sl 6 a' (l.eraseIdx 0).length c'] (l.eraseIdx 0) F'∧Mv h F h' F'∧(∀ y∈Gv,y∉F'∧y∈F)∧∀ y,y<h.length→h'[y]?=h[y]?:=by
 have hbd:=rvers_ok.bd _ _ _ _ hs
 obtain ⟨R1,a1,c1,e1,g⟩:=hs
 injection e1 with e1 _;injection e1 with e0 e2 _ e3
 subst e2;subst e3
 cases a with
 | none=>obtain ⟨rfl,_⟩:=g;simp at h0
 | some p =>
 obtain ⟨b,i⟩:=p
 obtain ⟨_,rs,Fs,g1,g2,g3,_,g5,rfl⟩:=g
 obtain ⟨row,Fk,hrow,hFk,hel⟩:=g5.get (List.getElem?_eq_getElem h0)
 rw [List.nodup_cons] at hnd
 obtain ⟨f1,f2⟩:=flatten_erase hFk hnd.2
 have hri:rs[i]?=some row:=by
  rw [List.getElem?_take,if_pos h0,List.getElem?_drop] at hrow;exact hrow
 obtain ⟨s,av,cv,rfl,es,hp⟩:=hel.form
 have hil:i<rs.length:=by omega
 have hcut:((rs.drop i).take l.length).eraseIdx 0=(rs.drop (i+1)).take (l.length - 1):=by
  rw [List.drop_eq_getElem_cons hil,show l.length=(l.length - 1)+1 by omega,List.take_succ_cons,List.eraseIdx_cons_zero]
  simp
 have g6:=g5.erase 0
 rw [hcut] at g6
 have hlen:=List.length_eraseIdx_of_lt h0
 generalize hxs:(rs.drop (i+1)).take (l.length - 1)=xs at g6
 have hxl:xs.length=l.length - 1:=by rw [← hlen];exact g6.len.1
 have m0:Mv h [] (h ++ [.rows 6 65 false []]) [h.length]:=Mv.last
 have hb1:(h ++ [.rows 6 65 false []])[b]?=some (.rows 6 (eVer false) false rs):=by rw [m0.fr b (hbd b (by simp)) (by simp)];exact g1
 have s3:∀ {T:Type} (K:List (List V)→Option T),(reslice (some (b,i)) l.length c (some (.int .i64 1)) none none fun a6 n7 c8=>rowsOf 6 (h ++ [.rows 6 65 false []]) (.sl 6 a6 n7 c8) K)=K xs:=fun K=>by
  unfold reslice slMax slHi slLo
  simp only [eI_int,Option.isNone_none]
  rw [inS_in ⟨by omega,by omega⟩,show ((1:Int)).toNat=1 from rfl]
  have key:∀ c8:Option Nat,rowsOf 6 (h ++ [.rows 6 65 false []]) (.sl 6 (some (b,i+1)) (l.length - 1) c8) K=K xs:=fun c8=>by
   simp only [rowsOf,beq_of,need_t]
   cases hm:l.length - 1 with
   | zero =>
    have hx0:xs = []:=List.eq_nil_of_length_eq_zero (by omega)
    rw [hx0]
   | succ m =>
    simp only
    rw [show ldRows (h ++ [.rows 6 65 false []]) b (i+1) (m+1)=some xs by
     simp only [ldRows,Heap.rows?,hb1,Option.bind_some]
     rw [ble_of (by omega),← hm,hxs]]
    rfl
  cases c with
  | none=>exact key none
  | some N =>
   obtain ⟨hN,_⟩:=g3 N rfl
   unfold slAt
   simp only
   cases hb:Nat.beq N 1 with
   | false=>rw [br_f];exact key _
   | true =>
    have:=Nat.eq_of_beq_eq_true hb
    have hx0:xs = []:=List.eq_nil_of_length_eq_zero (by omega)
    rw [br_t,show l.length - 1=0 by omega,hx0]
    simp [rowsOf,need]
 have hfl:∀ y∈(Fs.eraseIdx 0).flatten,y<h.length:=fun y hy=>hbd y (by simp [(f2 y hy).1])
 refine ⟨(b,i),s,av,cv,Fk,rfl,by rw [ld_of g1 (by rw [Nat.add_zero];exact hri)];rfl,es,hp,?_⟩
 have hFkb:∀ y∈Fk,y∈Fs.flatten:=fun y hy=>mem_of_get hFk hy
 by_cases he:l.eraseIdx 0 = []
 ·have hx0:xs = []:=List.eq_nil_of_length_eq_zero (by rw [hxl,← hlen,he];rfl)
  refine ⟨some (h.length,0),some 0,_,[h.length],fun K=>by rw [s3,hx0];simp only [app];rw [he];rfl,by rw [he];exact Sli.fresh (Nat.le_refl _),?_,fun y hy=>?_,fun y hy=>m0.fr y hy (by simp)⟩
  ·exact m0.wide (by simp)
  ·have:=hbd y (by simp [hFkb y hy])
   exact ⟨by simp;omega,by simp [hFkb y hy]⟩
 ·have hfresh:RVers false (h ++ [.rows 6 (eVer false) false []]) [.sl 6 (some (h.length,0)) 0 (some 0)] [] [h.length]:=Sli.fresh (Nat.le_refl _)
  obtain ⟨a',c',h',F',p1,p2,p3,p4,p5,p6⟩:=Sli.push (lo:=lo) (bytes:=72) rver_ok.fr hfresh (xs:=xs) (ys:=l.eraseIdx 0) (Gs:=Fs.eraseIdx 0) (g6.fr rver_ok.fr fun y hy=>m0.fr y (hfl y hy) (by simp)) (by decide) (by rw [hlen];simp;omega) (by simp;omega) (by simp;omega)
   (by rw [List.cons_append,List.nil_append,List.nodup_cons];exact ⟨fun hm=>by have:=hfl _ hm;omega,f1⟩) (fun y hy=>by
    rw [List.cons_append,List.nil_append,List.mem_cons] at hy
    rcases hy with rfl | hy
    ·simp
    ·have:=hfl y hy;simp;omega) he
  simp only [List.length_nil,Nat.zero_add,List.nil_append] at p1 p2
  have hfr:∀ y,y<h.length→h'[y]?=h[y]?:=fun y hy=>by
   rw [p4 y (by simp;omega) (by simp;omega)];exact m0.fr y hy (by simp)
  refine ⟨a',c',h',F',fun K=>by rw [s3];exact p1 K,p2,⟨by simp at p3;omega,fun y hy _=>hfr y hy,p6,fun y hy=>?_⟩,fun y hy=>⟨fun hm=>?_,by simp [hFkb y hy]⟩,hfr⟩
  ·simp at p3
   rcases p5 y hy with g | g
   ·rw [List.cons_append,List.nil_append,List.mem_cons] at g
    rcases g with rfl | g
    ·exact .inr (by omega)
    ·exact .inl (by simp [(f2 y g).1])
   ·simp at g;exact .inr (by omega)
  ·have hyl:=hbd y (by simp [hFkb y hy])
   rcases p5 y hm with g | g
   ·rw [List.cons_append,List.nil_append,List.mem_cons] at g
    rcases g with rfl | g
    ·omega
    ·exact (f2 y g).2 hy
   ·simp at g;omega
theorem spec_l3Can {l:List Node}{k:Int} (hs:RNodes ro h [.sl 2 a l.length c] l F) (hn:l.length≤1048576):evl lo 151 [.agg [.sl 2 a l.length c],.int .i64 k] h=some (.bool (canPass l k),h):=by
 refine E_spec_l3Can (h':=h) ?_
 rw [wr (by omega) (by omega),spec_l1In,cal_s,eB_b]
 unfold canPass
 cases hw:within k 0 ((l.length:Int) - 2) with
 | false=>rw [br_f];rfl
 | true =>
 simp only [within,Bool.and_eq_true,decide_eq_true_eq] at hw
 obtain ⟨f,rfl⟩:∃ f:Nat,k=(f:Int):=⟨k.toNat,by omega⟩
 have hk:f<l.length:=by omega
 have hk1:f+1<l.length:=by omega
 obtain ⟨o,s1,s2,b1,d1,b2,d2,G1,G2,ha,_,_,ho2,_,e2,_⟩:=hs.get hk
 obtain ⟨o',s1',s2',b1',d1',b2',d2',G1',G2',ha',_,_,ho2',_,e2',_⟩:=hs.get hk1
 have:o=o':=by rw [ha] at ha';injection ha'
 subst this
 rw [Int.toNat_natCast,passes_get hk,roomAt_get hk1,br_t,inB_nat hk,ha,eO_s,ho2,eO_s,eC_c,eN_n,e2]
 by_cases h0:0<l[f].wait.length
 ·rw [br_pos (by omega),wr_succ (by omega),inB_nat hk1,eO_s,Int.toNat_natCast,ho2',eO_s,eC_c,eN_n,e2',decide_eq_true h0]
  by_cases h6:l[f+1].wait.length<6
  ·rw [br_pos (by omega),decide_eq_true h6];rfl
  ·rw [br_neg (by omega),decide_eq_false h6];rfl
 ·rw [br_neg (by omega),decide_eq_false h0];rfl
def passIn (x:Node):Prop:=nodeIn 20 x∧∀ v∈x.wait,0≤v.key∧v.key≤3
theorem spec_l3Pass {l:List Node}{k:Nat} (hs:RNodes false h [.sl 2 a l.length c] l F) (hk:k+1<l.length) (h0:0<(l[k]'(by omega)).wait.length) (hnd:F.Nodup) (hlo:∀ b∈F,lo≤b) (hl:lo≤h.length) (hn:smNodes l) (hx:∀ x∈l,passIn x) :
  ∃ h' F',evl lo 152 [.agg [.sl 2 a l.length c],.int .i64 (k:Nat)] h=some (.agg [.sl 2 a l.length c],h')∧RNodes false h' [.sl 2 a l.length c] (passN l k) F'∧Mv h F h' F':=by
 have hk':k<l.length:=by omega
 have hn1:=hn.1
 suffices hq:∃ h' F',_=some (V.agg [.sl 2 a l.length c],h')∧RNodes false h' [.sl 2 a l.length c] (passN l k) F'∧Mv h F h' F' from hq.imp fun h' hq=>hq.imp fun F' hq=>⟨E_spec_l3Pass hq.1,hq.2⟩
 obtain ⟨b,i,rs,row,G0,ha,hbF,hbG,hb,hrow,hel,hGF,hGn,put⟩:=hs.at2 rnode_ok hk' hnd hlo
 obtain ⟨t1,t2,F1,F2,rfl,rfl,r1,r2⟩:=hel
 obtain ⟨a2,c2,e2,r2'⟩:=r2.form
 have hGn0:=hGn
 rw [List.nodup_append] at hGn
 obtain ⟨o,s,av,cv,Gv,ho,hld,es,hp,a3,c3,h3,F3,e3,r3,m3,hGv,fr3⟩:=tail_new (lo:=lo) r2' h0 hGn.2.1 hl (hn.2 _ (List.getElem_mem hk')).2.1
 have b1:∀ y∈F1,y<h.length:=rvers_ok.bd _ _ _ _ r1
 have m4:=(m3.aside (G:=F1) (by rw [List.nodup_append];exact ⟨hGn.2.1,hGn.1,fun x hx y hy e=>hGn.2.2 y hy x hx e.symm⟩) b1).swap
 have r1':RVers false h3 [t1] l[k].store F1:=rvers_ok.fr _ _ _ _ _ r1 fun y hy=>fr3 y (b1 y hy)
 obtain ⟨h4,F4,e4,r4,m5,fr4,sub4⟩:=put h3 (F1++F3) 1 [.sl 6 a3 (l[k].wait.eraseIdx 0).length c3] [t1,.sl 6 a3 (l[k].wait.eraseIdx 0).length c3] ⟨l[k].store,l[k].wait.eraseIdx 0⟩ m4 rfl ⟨_,_,F1,F3,rfl,rfl,r1',r3⟩
 rw [← dropW_get hk'] at r4
 have hln:=dropW_len (l:=l) (k:=k)
 have hGvG:∀ y∈Gv,y∈F1++F2:=fun y hy=>by simp [(hGv y hy).2]
 have hGvl:∀ y∈Gv,y<h.length:=rtags_ok.bd _ _ _ _ hp
 have hd:∀ y∈Gv,y∉F4:=fun y hy hm=>by
  rcases sub4 y hm with g | g
  ·exact g.2 (hGvG y hy)
  ·rcases List.mem_append.1 g with g | g
   ·exact hGn.2.2 y g y (hGv y hy).2 rfl
   ·exact (hGv y hy).1 g
 have hp4:RTags false h4 [.sl 2 av (l[k].wait[0]'h0).past.length cv] (l[k].wait[0]'h0).past Gv:=rtags_ok.fr _ _ _ _ _ hp fun y hy=>by
  rw [fr4 y fun e=>hbG (by rw [← e];exact hGvG y hy),fr3 y (hGvl y hy)]
 have hpx:=hx _ (List.getElem_mem hk')
 have hky:=hpx.2 _ (List.getElem_mem h0)
 have hth:=hpx.1.2.2.2 _ (List.getElem_mem h0)
 have hk1:k+1<(dropW l k).length:=by rw [hln];exact hk
 have hst1:(dropW l k)[k+1].store.length=4:=by
  have:(dropW l k)[k+1]=l[k+1]:=by
   have e:=dropW_get hk'
   rw [List.getElem_of_eq e,List.getElem_set_ne (by omega)]
  rw [this];exact (hx _ (List.getElem_mem hk)).1.1
 have hnd5:smNodes (dropW l k):=by
  refine ⟨by rw [hln];exact hn1,fun x hx'=>?_⟩
  rw [dropW_get hk'] at hx'
  rcases List.mem_or_eq_of_mem_set hx' with hx' | rfl
  ·exact hn.2 x hx'
  ·have:=hn.2 _ (List.getElem_mem hk')
   exact ⟨this.1,smVers_sub this.2 (Nat.le_trans (List.length_eraseIdx_le _ _) this.2.1) fun v hv=>List.mem_of_mem_eraseIdx hv⟩
 rw [← hln] at r4
 obtain ⟨h5,F5,e5,r5,m6⟩:=spec_l3Add (lo:=lo) (k:=k+1) (v:=l[k].wait[0]'h0) r4 hp4 hd m5.nd (fun y hy=>m5.ge hl hlo y hy) (Nat.le_trans hl m5.le) hk1 ⟨hky.1,by omega⟩ hnd5 (by have:=hth.1;omega)
 rw [hln] at e5 r5
 rw [← passN_get hk' h0] at r5
 have hblt:b<h.length:=(List.getElem?_eq_some_iff.1 hb).1
 have ld1:ld h b (i+k) 1 1=some [t2]:=by rw [ld_of hb hrow];rfl
 have ld2:ld (h ++ [.rows 6 65 false []]) b (i+k) 1 1=some [t2]:=by
  rw [ld_of (by rw [List.getElem?_append_left hblt];exact hb) hrow];rfl
 simp only [Ver.cs] at e5
 have e5':evl lo 258 [.agg [.sl 2 a l.length c],.int .i64 ((k:Nat)+1:Int),.agg [.int .i64 (l[k].wait[0]'h0).key,.int .i64 (l[k].wait[0]'h0).tag.time,.int .i64 (l[k].wait[0]'h0).tag.place,.sl 2 av (l[k].wait[0]'h0).past.length cv,.str (l[k].wait[0]'h0).text,.bool (l[k].wait[0]'h0).gone]] h4=some (.agg [.sl 2 a l.length c],h5):=by
  rw [show ((k:Nat)+1:Int)=((k+1:Nat):Int) by omega];exact e5
 rw [inB_nat hk',ha,eO_s,Int.toNat_natCast,ld1,eO_s,eC_c,eN_n,e2,inB_in ⟨by omega,by omega⟩,ho,eO_s,hld,eO_s,eC_c,eI_int,eC_c,eI_int,eC_c,eI_int,eC_c,es,eC_c,eT_s,eC_c,eBv_b,eN_n,inB_nat hk',eO_s,ld2,eO_s,eC_c,eN_n,e2,e3,eS_sl,inB_nat hk',eO_s,e4,eO_s,wr (n:=((k:Nat):Int)+1) (by omega) (by omega),← ha,e5',cal_s,eA_a,eC_c,eS_sl,eN_n]
 exact ⟨h5,F5,rfl,r5,m5.trans m6⟩
end
end Go.Proofs.YthdfojchihooeaaGreat
namespace Go.Proofs.YthdfojchihooeaaGreat
open Go T


theorem passN_len {l:List Node}{k:Nat}:(passN l k).length=l.length:=by
 unfold passN
 split
 ·split
  ·rw [addN_len,dropW_len]
  ·rfl
 ·rfl
section
variable {lo:Nat}{h:Heap}{F F':List Nat}{a a':Option (Nat×Nat)}{c c':Option Nat}
end
end Go.Proofs.YthdfojchihooeaaGreat
namespace Go.Proofs.YthdfojchihooeaaGreat
open Go T


theorem lessV_iff {u v:Ver}:lessV u v=true↔u.tag.time<v.tag.time∨(u.tag.time=v.tag.time∧u.tag.place<v.tag.place):=by
 simp [lessV,less]
theorem lessV_not {u v:Ver}:lessV u v=false↔¬ (u.tag.time<v.tag.time∨(u.tag.time=v.tag.time∧u.tag.place<v.tag.place)):=by
 rw [← lessV_iff,Bool.not_eq_true]
def insF (v:Ver):List Ver→List Ver
 | [] => [v]
 | u :: r=>bif lessV u v then u :: insF v r else v :: u :: r
def sortedV (l:List Ver):Prop:=l.Pairwise fun p u=>lessV u p=false
theorem insF_len {v:Ver}:∀ {l:List Ver},(insF v l).length=l.length+1
 | []=>rfl
 | u :: r=>by
  simp only [insF]
  cases lessV u v with
  | true=>simp [insF_len (l:=r)]
  | false=>simp
theorem insF_mem {v x:Ver}:∀ {l:List Ver},x∈insF v l↔x=v∨x∈l
 | []=>by simp [insF]
 | u :: r=>by
  simp only [insF]
  cases lessV u v with
  | true =>
   rw [cond_true,List.mem_cons,insF_mem (l:=r),List.mem_cons]
   constructor
   ·rintro (h | h | h)
    ·exact .inr (.inl h)
    ·exact .inl h
    ·exact .inr (.inr h)
   ·rintro (h | h | h)
    ·exact .inr (.inl h)
    ·exact .inl h
    ·exact .inr (.inr h)
  | false=>simp
theorem insF_split {v:Ver}:∀ {P Q:List Ver},(∀ p∈P,lessV p v=true)→(∀ q∈Q,lessV q v=false)→insF v (P++Q)=P++v :: Q
 | [],[],_,_=>rfl
 | [],q :: Q,_,hq=>by
  simp only [List.nil_append,insF]
  rw [hq q (by simp),cond_false]
 | p :: P,Q,hp,hq=>by
  simp only [List.cons_append,insF]
  rw [hp p (by simp),cond_true,insF_split (fun x hx=>hp x (by simp [hx])) hq]
theorem insF_sorted {v:Ver}:∀ {l:List Ver},sortedV l→sortedV (insF v l)
 | [],_=>by simp [insF,sortedV]
 | u :: r,h=>by
  unfold sortedV at h ⊢
  rw [List.pairwise_cons] at h
  simp only [insF]
  cases hl:lessV u v with
  | true =>
   rw [cond_true,List.pairwise_cons]
   refine ⟨fun x hx=>?_,insF_sorted (l:=r) h.2⟩
   rcases insF_mem.1 hx with rfl | hx
   ·rw [lessV_iff] at hl;rw [lessV_not];omega
   ·exact h.1 x hx
  | false =>
   rw [cond_false,List.pairwise_cons,List.pairwise_cons]
   refine ⟨fun x hx=>?_,h⟩
   rcases List.mem_cons.1 hx with rfl | hx
   ·exact hl
   ·have:=h.1 x hx
    rw [lessV_not] at this hl ⊢;omega
def cmpV (u v:Ver):Int:=if (if cmpI u.tag.time v.tag.time=0 then cmpI u.tag.place v.tag.place else cmpI u.tag.time v.tag.time)=0 then cmpI v.key u.key else (if cmpI u.tag.time v.tag.time=0 then cmpI u.tag.place v.tag.place else cmpI u.tag.time v.tag.time)
theorem cmpI_parts {a b:Int}:(cmpI a b<0↔a<b)∧(cmpI a b=0↔a=b):=by
 unfold cmpI
 constructor
 ·constructor
  ·intro h;split at h
   ·assumption
   ·split at h<;>omega
  ·intro h;rw [if_pos h];decide
 ·constructor
  ·intro h;split at h
   ·omega
   ·split at h<;>omega
  ·intro h;subst h;simp
theorem cmpV_neg {v u:Ver} (hk:u.key<v.key):decide (cmpV v u<0) = !lessV u v:=by
 rw [Bool.eq_iff_iff,decide_eq_true_eq,Bool.not_eq_true',lessV_not]
 unfold cmpV
 obtain ⟨t1,t2⟩:=cmpI_parts (a:=v.tag.time) (b:=u.tag.time)
 obtain ⟨p1,p2⟩:=cmpI_parts (a:=v.tag.place) (b:=u.tag.place)
 obtain ⟨k1,k2⟩:=cmpI_parts (a:=u.key) (b:=v.key)
 by_cases ht:cmpI v.tag.time u.tag.time=0
 ·rw [if_pos ht]
  by_cases hp:cmpI v.tag.place u.tag.place=0
  ·rw [if_pos hp]
   have:=t2.1 ht;have:=p2.1 hp;have:=k1.2 hk
   omega
  ·rw [if_neg hp,p1]
   have:=t2.1 ht
   have:¬ v.tag.place=u.tag.place:=fun h=>hp (p2.2 h)
   omega
 ·rw [if_neg ht,if_neg ht,t1]
  have:¬ v.tag.time=u.tag.time:=fun h=>ht (t2.2 h)
  omega
section
variable {lo:Nat}{h:Heap}{F F' G:List Nat}{a a' av:Option (Nat×Nat)}{c c' cv:Option Nat}
theorem impl_cmp {u v:Ver}:evl lo 229 [.agg (u.cs a c),.agg (v.cs a' c')] h=some (.int .i64 (cmpV u v),h) :=
 E_impl_Chain_fall_1 (h':=h ++ [.rows 1 3 false [[.int .i64 (if cmpI u.tag.time v.tag.time=0 then cmpI u.tag.place v.tag.place else cmpI u.tag.time v.tag.time)],[.int .i64 (cmpI v.key u.key)]]]) (by
  simp only [impl_compare,cal_s,eI_int,cmp_Compare,cmp_Or_two]
  rfl)
theorem swap_rows {l:List Ver}{n j:Nat} (hs:RVers false h [.sl 6 a n c] l F) (hj:j+1<l.length) (hnd:F.Nodup) (hlo:∀ b∈F,lo≤b) :
  ∃ o s1 a1 c1 s2 a2 c2,a=some o∧ld h o.1 (o.2+(j+1)) 0 6=some [.int .i64 l[j+1].key,.int .i64 l[j+1].tag.time,.int .i64 l[j+1].tag.place,s2,.str l[j+1].text,.bool l[j+1].gone]∧(∀ {T:Type} (K:Option (Nat×Nat)→Nat→Option Nat→Option T),eS 2 s2 K=K a2 l[j+1].past.length c2) ∧
   ld h o.1 (o.2+j) 0 6=some [.int .i64 l[j].key,.int .i64 l[j].tag.time,.int .i64 l[j].tag.place,s1,.str l[j].text,.bool l[j].gone]∧(∀ {T:Type} (K:Option (Nat×Nat)→Nat→Option Nat→Option T),eS 2 s1 K=K a1 l[j].past.length c1) ∧
   ∃ h1 h2 F',st lo h o.1 (o.2+(j+1)) 0 (l[j].cs a1 c1)=some h1∧st lo h1 o.1 (o.2+j) 0 (l[j+1].cs a2 c2)=some h2∧RVers false h2 [.sl 6 a n c] ((l.set (j+1) l[j]).set j l[j+1]) F'∧Mv h F h2 F':=by
 have hn:=hs.val
 subst hn
 obtain ⟨R1,x1,y1,e1,g⟩:=hs
 injection e1 with e1 _;injection e1 with e0 e2 _ e3
 subst e0;subst e2;subst e3
 cases a with
 | none=>obtain ⟨rfl,_⟩:=g;simp at hj
 | some p =>
 obtain ⟨b,i⟩:=p
 obtain ⟨_,rs,Fs,g1,g2,g3,g4,g5,rfl⟩:=g
 have hjl:j<l.length:=by omega
 obtain ⟨row1,F1,r1,f1,el1⟩:=g5.get (List.getElem?_eq_getElem hjl)
 obtain ⟨row2,F2,r2,f2,el2⟩:=g5.get (List.getElem?_eq_getElem hj)
 rw [List.getElem?_take_of_lt hjl,List.getElem?_drop] at r1
 rw [List.getElem?_take_of_lt hj,List.getElem?_drop] at r2
 obtain ⟨s1,a1,c1,rfl,es1,hp1⟩:=el1.form
 obtain ⟨s2,a2,c2,rfl,es2,hp2⟩:=el2.form
 have hlob:=hlo b (by simp)
 have hblt:b<h.length:=(List.getElem?_eq_some_iff.1 g1).1
 rw [List.nodup_cons] at hnd
 have e4:=st_first (lo:=lo) (cs:=l[j].cs a1 c1) (j:=0) g1 hlob r2 (paste_all rfl)
 refine ⟨(b,i),s1,a1,c1,s2,a2,c2,rfl,by rw [ld_of g1 r2];rfl,es2,by rw [ld_of g1 r1];rfl,es1,h.set b (.rows 6 (eVer false) false (rs.set (i+(j+1)) (l[j].cs a1 c1))),h.set b (.rows 6 (eVer false) false ((rs.set (i+(j+1)) (l[j].cs a1 c1)).set (i+j) (l[j+1].cs a2 c2))),b ::((Fs.set (j+1) F1).set j F2).flatten,e4,?_,?_,?_⟩
 ·have hb1:(h.set b (.rows 6 (eVer false) false (rs.set (i+(j+1)) (l[j].cs a1 c1))))[b]?=some (.rows 6 (eVer false) false (rs.set (i+(j+1)) (l[j].cs a1 c1))):=by simp [hblt]
  have hr1:(rs.set (i+(j+1)) (l[j].cs a1 c1))[i+j]?=some [.int .i64 l[j].key,.int .i64 l[j].tag.time,.int .i64 l[j].tag.place,s1,.str l[j].text,.bool l[j].gone]:=by rw [List.getElem?_set_ne (by omega)];exact r1
  rw [st_first (lo:=lo) (cs:=l[j+1].cs a2 c2) (j:=0) hb1 hlob hr1 (paste_all rfl),List.set_set]
 ·have hl1:∀ (rs:List (List V)) k (hk:k<l.length) row',((rs.set (i+k) row').drop i).take l.length=((rs.drop i).take l.length).set k row':=fun rs k hk row'=>by
   rw [List.drop_set,if_neg (by omega),show i+k - i=k by omega,List.take_set]
  refine ⟨6,some (b,i),c,by simp,rfl,(rs.set (i+(j+1)) (l[j].cs a1 c1)).set (i+j) (l[j+1].cs a2 c2),(Fs.set (j+1) F1).set j F2,by simp [hblt],by simpa using g2,fun q hq=>by simpa using g3 q hq,g4,?_,rfl⟩
  rw [List.length_set,List.length_set,hl1 _ j hjl,hl1 _ (j+1) hj]
  have he:EAll (RVer false) h ((((rs.drop i).take l.length).set (j+1) (l[j].cs a1 c1)).set j (l[j+1].cs a2 c2)) ((l.set (j+1) l[j]).set j l[j+1]) ((Fs.set (j+1) F1).set j F2):=(g5.set (k:=j+1) ⟨_,rfl,hp1⟩).set (k:=j) ⟨_,rfl,hp2⟩
  refine he.fr rver_ok.fr fun y hy=>List.getElem?_set_ne fun e=>?_
  rcases flatten_set_mem hy with q | q
  ·rcases flatten_set_mem q with q | q
   ·exact hnd.1 (e ▸ q)
   ·exact hnd.1 (e ▸ mem_of_get f1 q)
  ·exact hnd.1 (e ▸ mem_of_get f2 q)
 ·have hperm:((Fs.set (j+1) F1).set j F2).Perm Fs:=by
   obtain ⟨hj1,e1⟩:=List.getElem?_eq_some_iff.1 f1
   obtain ⟨hj2,e2⟩:=List.getElem?_eq_some_iff.1 f2
   have hd:Fs=Fs.take j++F1 :: F2 :: Fs.drop (j+2):=by
    conv=>lhs;rw [← List.take_append_drop j Fs,List.drop_eq_getElem_cons hj1,e1,List.drop_eq_getElem_cons hj2,e2]
   have hl:(Fs.take j).length=j:=by rw [List.length_take];omega
   have hsw:(Fs.set (j+1) F1).set j F2=Fs.take j++F2 :: F1 :: Fs.drop (j+2):=by
    conv=>lhs;rw [hd]
    rw [List.set_append_right _ _ (by omega),hl,show j+1 - j=1 by omega,List.set_append_right _ _ (by omega),hl,Nat.sub_self]
    rfl
   rw [hsw]
   conv=>rhs;rw [hd]
   exact List.Perm.append_left _ (List.Perm.swap _ _ _)
  have hpf:=hperm.flatten
  refine ⟨by simp,fun y hy hF=>?_,?_,fun y hy=>?_⟩
  ·rw [List.mem_cons,not_or] at hF
   exact List.getElem?_set_ne (Ne.symm hF.1)
  ·rw [List.nodup_cons]
   exact ⟨fun hm=>hnd.1 (hpf.mem_iff.1 hm),hpf.nodup_iff.2 hnd.2⟩
  ·rcases List.mem_cons.1 hy with rfl | hy
   ·exact .inl (by simp)
   ·exact .inl (by simp [hpf.mem_iff.1 hy])
theorem sort_inner {v:Ver}{n x2:Nat}{x8:Int}:∀ (m:Nat) (P Q R:List Ver) (hh:Heap) (F:List Nat),P.length=m→(∀ u∈P,u.key<v.key)→sortedV P→(∀ q∈Q,lessV q v=false)→RVers false hh [.sl 6 a n c] (P++v ::(Q++R)) F→F.Nodup→(∀ b∈F,lo≤b)→lo≤hh.length→n≤1048576 →
  ∃ h' F',L_slices_insertionSortCmpFunc_impl_Ver_2 lo a n c 0 x2 229 [] x8 (m:Nat) hh=L_slices_insertionSortCmpFunc_impl_Ver_0 lo a n c 0 x2 229 [] (IntKind.wrap .i64 (x8+1)) h'∧RVers false h' [.sl 6 a n c] (insF v (P++Q)++R) F'∧Mv hh F h' F':=by
 intro m
 induction m with
 | zero =>
  intro P Q R hh F hP hkey hso hQ hs hnd hlo hl0 hn
  have:P = []:=List.eq_nil_of_length_eq_zero hP
  subst this
  rw [L_slices_insertionSortCmpFunc_impl_Ver_2.e,br_neg (by omega)]
  have e:=insF_split (v:=v) (P := []) (Q:=Q) (by simp) hQ
  rw [e]
  exact ⟨hh,F,rfl,by simpa using hs,Mv.refl hnd⟩
 | succ m ih =>
  intro P Q R hh F hP hkey hso hQ hs hnd hlo hl0 hn
  have hne:P ≠ []:=fun h0=>by rw [h0] at hP;simp at hP
  obtain ⟨P',u,rfl⟩:∃ P' u,P=P' ++ [u]:=⟨P.dropLast,P.getLast hne,(List.dropLast_concat_getLast hne).symm⟩
  have hP':P'.length=m:=by simpa using hP
  have hval:=hs.val
  have hlen:(P' ++ [u]++v ::(Q++R)).length=m+2+(Q++R).length:=by simp;omega
  obtain ⟨o,s1,a1,c1,s2,a2,c2,ha,hld2,es2,hld1,es1,h1,h2,F2,e4,e5,r6,m6⟩:=swap_rows (lo:=lo) (j:=m) hs (by rw [hlen];omega) hnd hlo
  have hu:(P' ++ [u]++v ::(Q++R))[m]'(by rw [hlen];omega)=u:=by
   rw [List.getElem_append_left (by simp;omega),List.getElem_append_right (by omega)];simp
  have hv:(P' ++ [u]++v ::(Q++R))[m+1]'(by rw [hlen];omega)=v:=by
   rw [List.getElem_append_right (by simp;omega)];simp [hP']
  rw [hu] at hld1 es1 e4 r6
  rw [hv] at hld2 es2 e5 r6
  have hsw:((P' ++ [u]++v ::(Q++R)).set (m+1) u).set m v=P'++v ::((u :: Q)++R):=by
   rw [List.append_assoc,List.set_append_right _ _ (by omega),hP',show m+1 - m=1 by omega,List.set_append_right _ _ (by omega),hP',Nat.sub_self]
   rfl
  rw [hsw] at r6
  have hcmp:=impl_cmp (lo:=lo) (h:=hh) (u:=v) (v:=u) (a:=a2) (c:=c2) (a':=a1) (c':=c1)
  simp only [Ver.cs] at hcmp e4 e5
  have hkuv:=hkey u (by simp)
  have hmn:m+1<n:=by rw [hval,hlen];omega
  rw [L_slices_insertionSortCmpFunc_impl_Ver_2.e,br_pos (by omega),inB_nat hmn,ha,eO_s,Int.toNat_natCast,hld2,eO_s,eC_c,eI_int,eC_c,eI_int,eC_c,eI_int,eC_c,es2,eC_c,eT_s,eC_c,eBv_b,eN_n,
   show IntKind.i64.wrap (((m+1:Nat):Int) - 1)=((m:Nat):Int) by rw [wr (by omega) (by omega)];omega,inB_nat (show m<n by omega),eO_s,Int.toNat_natCast,hld1,eO_s,eC_c,eI_int,eC_c,eI_int,eC_c,eI_int,eC_c,es1,eC_c,eT_s,eC_c,eBv_b,eN_n,show ∀ x:List V,fnArgs x []=x from fun x=>by simp [fnArgs],hcmp,cal_s,eI_int]
  cases hl:lessV u v with
  | true =>
   have hc:=cmpV_neg hkuv
   rw [hl] at hc
   rw [br_neg (of_decide_eq_false hc)]
   have hso':∀ p∈P' ++ [u],lessV p v=true:=fun p hp=>by
    rcases List.mem_append.1 hp with hp | hp
    ·unfold sortedV at hso
     rw [List.pairwise_append] at hso
     have:=hso.2.2 p hp u (by simp)
     rw [lessV_not] at this;rw [lessV_iff] at hl ⊢;omega
    ·rw [List.mem_singleton] at hp;subst hp;exact hl
   rw [insF_split hso' hQ]
   exact ⟨hh,F,by rw [← ha],by rw [← ha];simpa using hs,Mv.refl hnd⟩
  | false =>
   have hc:=cmpV_neg hkuv
   rw [hl] at hc
   obtain ⟨h3,F3,e7,r7,m7⟩:=ih P' (u :: Q) R h2 F2 hP' (fun x hx=>hkey x (by simp [hx])) (by unfold sortedV at hso ⊢;rw [List.pairwise_append] at hso;exact hso.1) (fun q hq=>by
    rcases List.mem_cons.1 hq with rfl | hq
    ·exact hl
    ·exact hQ q hq) r6 m6.nd (fun b hb=>m6.ge hl0 hlo b hb) (Nat.le_trans hl0 m6.le) hn
   rw [br_pos (of_decide_eq_true hc),inB_nat (show m<n by omega),eO_s,hld1,eO_s,eC_c,eI_int,eC_c,eI_int,eC_c,eI_int,eC_c,es1,eC_c,eT_s,eC_c,eBv_b,eN_n,inB_nat hmn,eO_s,hld2,eO_s,eC_c,eI_int,eC_c,eI_int,eC_c,eI_int,eC_c,es2,eC_c,eT_s,eC_c,eBv_b,eN_n,
    inB_nat hmn,eO_s,e4,eO_s,inB_nat (show m<n by omega),eO_s,e5,eO_s,← ha,e7]
   refine ⟨h3,F3,rfl,?_,m6.trans m7⟩
   rw [List.append_assoc P' [u] Q]
   exact r7
theorem sort_outer {n:Nat}:∀ (R S:List Ver) (hh:Heap) (F:List Nat),sortedV S→(∀ u∈S,∀ w∈R,u.key<w.key)→R.Pairwise (fun p u=>p.key<u.key)→RVers false hh [.sl 6 a n c] (S++R) F→F.Nodup→(∀ b∈F,lo≤b)→lo≤hh.length→n≤1048576 →
  ∃ h' F',L_slices_insertionSortCmpFunc_impl_Ver_0 lo a n c 0 (n:Nat) 229 [] (S.length:Nat) hh=some (.tup [],h')∧RVers false h' [.sl 6 a n c] (R.foldl (fun acc v=>insF v acc) S) F'∧Mv hh F h' F'
 | [],S,hh,F,_,_,_,hs,hnd,_,_,_=>by
  have hval:=hs.val
  rw [List.append_nil] at hval hs
  rw [L_slices_insertionSortCmpFunc_impl_Ver_0.e,br_neg (by omega)]
  exact ⟨hh,F,rfl,hs,Mv.refl hnd⟩
 | v :: R,S,hh,F,hso,hk,hp,hs,hnd,hlo,hl,hn=>by
  have hval:=hs.val
  rw [List.length_append,List.length_cons] at hval
  rw [List.pairwise_cons] at hp
  obtain ⟨h1,F1,e1,r1,m1⟩:=sort_inner (lo:=lo) (v:=v) (n:=n) (x2:=n) (x8:=(S.length:Nat)) S.length S [] R hh F rfl (fun u hu=>hk u hu v (by simp)) hso (by simp) hs hnd hlo hl hn
  rw [List.append_nil] at r1
  obtain ⟨h2,F2,e2,r2,m2⟩:=sort_outer R (insF v S) h1 F1 (insF_sorted hso) (fun u hu w hw=>by
   rcases insF_mem.1 hu with rfl | hu
   ·exact hp.1 w hw
   ·exact hk u hu w (by simp [hw])) hp.2 r1 m1.nd (fun b hb=>m1.ge hl hlo b hb) (Nat.le_trans hl m1.le) hn
  rw [L_slices_insertionSortCmpFunc_impl_Ver_0.e,br_pos (by omega),e1,wr_succ (by omega)]
  rw [insF_len] at e2
  exact ⟨h2,F2,e2,r2,m1.trans m2⟩
def sortV (l:List Ver):List Ver:=l.foldl (fun acc v=>insF v acc) []
theorem impl_insertion {l:List Ver} (hs:RVers false h [.sl 6 a l.length c] l F) (hk:l.Pairwise fun p u=>p.key<u.key) (hnd:F.Nodup) (hlo:∀ b∈F,lo≤b) (hl:lo≤h.length) (hn:l.length≤1048576) :
  ∃ h' F',evl lo 341 [.sl 6 a l.length c,.int .i64 0,.int .i64 (l.length:Nat),.fn 229 []] h=some (.tup [],h')∧RVers false h' [.sl 6 a l.length c] (sortV l) F'∧Mv h F h' F':=by
 suffices hq:∃ h' F',L_slices_insertionSortCmpFunc_impl_Ver_0 lo a l.length c 0 (l.length:Nat) 229 [] (IntKind.wrap .i64 (0+1)) h=some (V.tup [],h')∧RVers false h' [.sl 6 a l.length c] (sortV l) F'∧Mv h F h' F' from hq.imp fun h' hq=>hq.imp fun F' hq=>⟨E_slices_insertionSortCmpFunc_impl_Ver hq.1,hq.2⟩
 rw [show IntKind.i64.wrap (0+1)=((1:Nat):Int) from wr_succ (k:=0) (by decide)]
 cases hl0:l with
 | nil =>
  rw [hl0] at hs
  rw [L_slices_insertionSortCmpFunc_impl_Ver_0.e,br_neg (by simp)]
  exact ⟨h,F,rfl,hs,Mv.refl hnd⟩
 | cons x r =>
  rw [hl0] at hs hk hn
  rw [List.pairwise_cons] at hk
  exact sort_outer (n:=(x :: r).length) r [x] h F (by simp [sortedV]) (fun u hu w hw=>by rw [List.mem_singleton] at hu;subst hu;exact hk.1 w hw) hk.2 hs hnd hlo hl hn
end
end Go.Proofs.YthdfojchihooeaaGreat
namespace Go.Proofs.YthdfojchihooeaaGreat
open Go T


theorem push_rows {α:Type}{El:Rel α}{h:Heap}{lo R e n bytes:Nat}{a:Option (Nat×Nat)}{c:Option Nat}{l ys:List α}{F:List Nat}{xs:List (List V)}{Gs:List (List Nat)} (hfr:El.Fr)
  (hs:Sli false R e El h [.sl R a n c] l F) (hx:EAll El h xs ys Gs) (hb:0<bytes) (hsz:(l.length+ys.length)*bytes≤140737488355328) (hlo:∀ b∈F,lo≤b) (hl:lo≤h.length)
  (hnd:(F++Gs.flatten).Nodup) (hF:∀ b∈F++Gs.flatten,b<h.length) :
  ∃ a' c' h' F',(∀ {R':Type} (K:V→Heap→Option R'),app lo e R bytes (.sl R a n c) xs h K=K (.sl R a' (l.length+ys.length) c') h')∧Sli false R e El h' [.sl R a' (l.length+ys.length) c'] (l++ys) F'∧h.length≤h'.length ∧
   (∀ b,b<h.length→b∉F→h'[b]?=h[b]?)∧(∀ b∈F',b∈F++Gs.flatten∨(h.length≤b∧b<h'.length))∧F'.Nodup:=by
 cases ys with
 | nil =>
  have hx0:xs = []:=List.eq_nil_of_length_eq_zero hx.len.1
  have hn:=hs.val
  subst hx0;subst hn
  rw [List.nodup_append] at hnd
  exact ⟨a,c,h,F,fun K=>rfl,by rw [List.append_nil];exact hs,Nat.le_refl _,fun _ _ _=>rfl,fun b hb => .inl (by simp [hb]),hnd.1⟩
 | cons y ys=>exact Sli.push hfr hs hx hb hsz hlo hl hnd hF (by simp)
theorem Sli.parts {α:Type}{El:Rel α}{R e:Nat}{h:Heap}{a:Option (Nat×Nat)}{c:Option Nat}{l:List α}{F:List Nat} (hs:Sli false R e El h [.sl R a l.length c] l F) (hnd:F.Nodup) :
  ∃ Fs:List (List Nat),Fs.flatten.Nodup∧(∀ y∈Fs.flatten,y∈F)∧(∀ b i,a=some (b,i)→b∈F∧b∉Fs.flatten)∧∀ k,k≤l.length→∃ rP rQ,EAll El h rP (l.take k) (Fs.take k)∧EAll El h rQ (l.drop k) (Fs.drop k) ∧
   (∀ {T:Type} (h':Heap),(∀ b i,a=some (b,i)→h'[b]?=h[b]?)→∀ K:List (List V)→Option T,(reslice a l.length c none (some (.int .i64 (k:Nat))) none fun a n c=>rowsOf R h' (.sl R a n c) K)=K rP) ∧
   (∀ {T:Type} (h':Heap),(∀ b i,a=some (b,i)→h'[b]?=h[b]?)→∀ K:List (List V)→Option T,(reslice a l.length c (some (.int .i64 (k:Nat))) none none fun a n c=>rowsOf R h' (.sl R a n c) K)=K rQ):=by
 obtain ⟨R1,a1,c1,e1,g⟩:=hs
 injection e1 with e1 _;injection e1 with e0 e2 _ e3
 subst e2;subst e3
 cases a with
 | none =>
  obtain ⟨rfl,rfl,rfl⟩:=g
  refine ⟨[],by simp,by simp,fun b i h=>by simp at h,fun k hk=>?_⟩
  have hk0:k=0:=by simpa using hk
  subst hk0
  refine ⟨[],[],trivial,trivial,fun h' _ K=>?_,fun h' _ K=>?_⟩
  ·unfold reslice slMax slHi slLo
   simp only [eI_int,Option.isNone_none]
   rw [inS_in ⟨by simp,by simp⟩]
   simp [rowsOf]
  ·unfold reslice slMax slHi slLo
   simp only [eI_int,Option.isNone_none]
   rw [inS_in ⟨by simp,by simp⟩]
   simp [rowsOf,slAt]
 | some p =>
  obtain ⟨b,i⟩:=p
  obtain ⟨_,rs,Fs,g1,g2,g3,_,g5,rfl⟩:=g
  rw [List.nodup_cons] at hnd
  have key:∀ {T:Type} (h':Heap),h'[b]?=h[b]?→∀ (K:List (List V)→Option T) (j m:Nat) (c8:Option Nat),j+m≤rs.length→rowsOf R h' (.sl R (some (b,j)) m c8) K=K ((rs.drop j).take m):=fun h' hb' K j m c8 hj=>by
   simp only [rowsOf,beq_of,need_t]
   cases m with
   | zero=>simp
   | succ m =>
    simp only
    rw [show ldRows h' b j (m+1)=some ((rs.drop j).take (m+1)) by
     simp only [ldRows,Heap.rows?,hb',g1,Option.bind_some]
     rw [ble_of hj]]
    rfl
  refine ⟨Fs,hnd.2,fun y hy=>List.mem_cons_of_mem _ hy,fun b' i' e=>by injection e with e;injection e with e1 e2;subst e1;exact ⟨by simp,hnd.1⟩,fun k hk=>?_⟩
  have hrP:((rs.drop i).take l.length).take k=(rs.drop i).take k:=by rw [List.take_take,Nat.min_eq_left hk]
  have hrQ:((rs.drop i).take l.length).drop k=(rs.drop (i+k)).take (l.length - k):=by rw [List.drop_take,List.drop_drop]
  refine ⟨(rs.drop i).take k,(rs.drop (i+k)).take (l.length - k),by rw [← hrP];exact g5.take k,by rw [← hrQ];exact g5.drop k,fun h' hh K=>?_,fun h' hh K=>?_⟩
  ·unfold reslice slMax slHi slLo
   simp only [eI_int,Option.isNone_none,Int.toNat_natCast]
   have:=key h' (hh b i rfl) K i k c (by omega)
   cases c with
   | none=>simp only;rw [inS_in ⟨by omega,by omega⟩];exact this
   | some N=>simp only;rw [inS_in ⟨by omega,by have:=(g3 N rfl).1;omega⟩];exact this
  ·unfold reslice slMax slHi slLo
   simp only [eI_int,Option.isNone_none,Int.toNat_natCast]
   rw [inS_in ⟨by omega,by omega⟩]
   cases c with
   | none=>exact key h' (hh b i rfl) K (i+k) (l.length - k) none (by omega)
   | some N =>
    have hN:=(g3 N rfl).1
    unfold slAt
    simp only
    cases hb:Nat.beq N k with
    | false=>rw [br_f];exact key h' (hh b i rfl) K (i+k) (l.length - k) _ (by omega)
    | true =>
     have:=Nat.eq_of_beq_eq_true hb
     rw [br_t,show l.length - k=0 by omega]
     simp [rowsOf,need]
def lackF (out:List Ver) (x:Ver×Ver):List Ver:=bif lessV x.2 x.1 then insF x.1 out else out
def lackL (s t:List Ver):List Ver:=(s.zip t).foldl lackF []
theorem insF_at {v:Ver}:∀ {l:List Ver}{k:Nat},k≤l.length→(∀ i (hi:i<l.length),i<k→lessV l[i] v=true)→(∀ hk:k<l.length,lessV l[k] v=false)→insF v l=l.take k++v :: l.drop k
 | [],k,hk,_,_=>by simp [insF]
 | u :: r,0,hk,_,h2=>by
  have:=h2 (by simp)
  simp only [List.getElem_cons_zero] at this
  simp [insF,this]
 | u :: r,k+1,hk,h1,h2=>by
  have h0:=h1 0 (by simp) (by omega)
  simp only [List.getElem_cons_zero] at h0
  simp only [insF,h0,cond_true,List.take_succ_cons,List.drop_succ_cons,List.cons_append]
  rw [insF_at (l:=r) (k:=k) (by simpa using hk) (fun i hi hik=>by have:=h1 (i+1) (by simpa using hi) (by omega);simpa using this) (fun hkr=>by have:=h2 (by simpa using hkr);simpa using this)]
section
variable {lo:Nat}{h:Heap}{F F' G:List Nat}{a a' av:Option (Nat×Nat)}{c c' cv:Option Nat}
theorem fresh_rows {α:Type}{El:Rel α} (ok:El.Ok) {R e bytes:Nat}{rows:List (List V)}{l:List α}{Fs:List (List Nat)} (hx:EAll El h rows l Fs) (hnd:Fs.flatten.Nodup) (hF:∀ y∈Fs.flatten,y<h.length) (hb:0<bytes) (hsz:l.length*bytes≤140737488355328) (hl:lo≤h.length) :
  ∃ a' c' h' F',(∀ {T:Type} (K:V→Heap→Option T),app lo e R bytes (.sl R (some (h.length,0)) 0 (some 0)) rows (h ++ [.rows R e false []]) K=K (.sl R a' l.length c') h')∧Sli false R e El h' [.sl R a' l.length c'] l F'∧h.length<h'.length∧(∀ y,y<h.length→h'[y]?=h[y]?) ∧
   (∀ y∈F',y∈Fs.flatten∨(h.length≤y∧y<h'.length))∧F'.Nodup:=by
 have m0:Mv h [] (h ++ [.rows R e false []]) [h.length]:=Mv.last
 have hfresh:Sli false R e El (h ++ [.rows R e false []]) [.sl R (some (h.length,0)) 0 (some 0)] [] [h.length]:=Sli.fresh (Nat.le_refl _)
 obtain ⟨a',c',h',F',p1,p2,p3,p4,p5,p6⟩:=push_rows (lo:=lo) (bytes:=bytes) ok.fr hfresh (xs:=rows) (ys:=l) (Gs:=Fs) (hx.fr ok.fr fun y hy=>m0.fr y (hF y hy) (by simp)) hb (by simpa using hsz) (by simp;omega) (by simp;omega)
  (by rw [List.cons_append,List.nil_append,List.nodup_cons];exact ⟨fun hm=>by have:=hF _ hm;omega,hnd⟩) (fun y hy=>by
   rw [List.cons_append,List.nil_append,List.mem_cons] at hy
   rcases hy with rfl | hy
   ·simp
   ·have:=hF y hy;simp;omega)
 simp only [List.length_nil,Nat.zero_add,List.nil_append] at p1 p2
 refine ⟨a',c',h',F',p1,p2,by simp at p3;omega,fun y hy=>?_,fun y hy=>?_,p6⟩
 ·rw [p4 y (by simp;omega) (by simp;omega)];exact m0.fr y hy (by simp)
 ·simp at p3
  rcases p5 y hy with g | g
  ·rw [List.cons_append,List.nil_append,List.mem_cons] at g
   rcases g with rfl | g
   ·exact .inr (by omega)
   ·exact .inl g
  ·simp at g;exact .inr (by omega)
theorem take_drop_disj {Fs:List (List Nat)}{k:Nat} (hnd:Fs.flatten.Nodup):(Fs.take k).flatten.Nodup∧(Fs.drop k).flatten.Nodup∧∀ x∈(Fs.take k).flatten,∀ y∈(Fs.drop k).flatten,x≠y:=by
 rw [← List.take_append_drop k Fs,List.flatten_append,List.nodup_append] at hnd
 exact hnd
theorem spec_l3Lack {s t:List Ver}{a1 a2:Option (Nat×Nat)}{c1 c2:Option Nat}{F1 F2:List Nat} (hs:RVers false h [.sl 6 a1 s.length c1] s F1) (ht:RVers false h [.sl 6 a2 t.length c2] t F2) (h4:s.length=4) (h4':t.length=4) (hpn:∀ v∈s,v.past.length≤1048576) (hl:lo≤h.length) :
  ∃ a' c' h' F',evl lo 232 [.agg [.sl 6 a1 s.length c1],.agg [.sl 6 a2 t.length c2]] h=some (.sl 6 a' (lackL s t).length c',h')∧RVers false h' [.sl 6 a' (lackL s t).length c'] (lackL s t) F'∧Mv h [] h' F':=by
 suffices hq:∃ a' c' h' F',_=some (V.sl 6 a' (lackL s t).length c',h')∧RVers false h' [.sl 6 a' (lackL s t).length c'] (lackL s t) F'∧Mv h [] h' F' from by
  obtain ⟨a',c',h',F',e,hr⟩:=hq
  exact ⟨a',c',h',F',E_spec_l3Lack e,hr⟩
 have hzl:(s.zip t).length=4:=by rw [List.length_zip];omega
 have one:∀ m i,m+i=4→∀ hh ax cx (out:List Ver) Fx,RVers false hh [.sl 6 ax out.length cx] out Fx→Mv h [] hh Fx→out.length≤i→∃ a' c' h' F',
   L_spec_l3Lack_0 lo ax out.length cx (i:Nat) a1 s.length c1 a2 t.length c2 hh=some (.sl 6 a' (((s.zip t).drop i).foldl lackF out).length c',h')∧RVers false h' [.sl 6 a' (((s.zip t).drop i).foldl lackF out).length c'] (((s.zip t).drop i).foldl lackF out) F'∧Mv h [] h' F':=by
  intro m
  induction m with
  | zero =>
   intro i hi hh ax cx out Fx hr hm hlen
   rw [L_spec_l3Lack_0.e,br_neg (by omega),List.drop_eq_nil_of_le (by omega)]
   exact ⟨ax,cx,hh,Fx,rfl,hr,hm⟩
  | succ m ih =>
   intro i hi hh ax cx out Fx hr hm hlen
   have his:i<s.length:=by omega
   have hit:i<t.length:=by omega
   have hs':=hm.keep0 rvers_ok hs
   have ht':=hm.keep0 rvers_ok ht
   obtain ⟨o1,s1,b1,d1,H1,ha1,_,_,_,_,_,_,hl1,hl1',es1,hp1,_⟩:=RVers.all hs' his
   obtain ⟨o2,s2,b2,d2,H2,ha2,_,_,_,_,_,_,hl2,_,_,_,_⟩:=RVers.all ht' hit
   have hzi:i<(s.zip t).length:=by omega
   rw [List.drop_eq_getElem_cons hzi,List.foldl_cons,List.getElem_zip]
   have hlf:lackF out (s[i],t[i])=bif lessV t[i] s[i] then insF s[i] out else out:=rfl
   rw [hlf,L_spec_l3Lack_0.e,br_pos (by omega),inB_nat hit,ha2,eO_s,Int.toNat_natCast,hl2,eO_s,eC_c,eI_int,eC_c,eI_int,eN_n,inB_nat his,ha1,eO_s,hl1,eO_s,eC_c,eI_int,eC_c,eI_int,eN_n,spec_l1Less,cal_s,eB_b,← ha1,← ha2]
   show ∃ a' c' h' F',br (lessV t[i] s[i]) _ _=_∧_
   cases hless:lessV t[i] s[i] with
   | false =>
    rw [br_f,cond_false,wr_succ (by omega)]
    exact ih (i+1) (by omega) hh ax cx out Fx hr hm (by omega)
   | true =>
   rw [br_t,cond_true]
   have put:∀ k,k≤out.length→insF s[i] out=out.take k++s[i] :: out.drop k→∃ a' c' h' F',(reslice ax out.length cx none (some (.int .i64 (k:Nat))) none fun a_36 n_37 c_38=>rowsOf 6 (hh ++ [.rows 6 65 false []]) (.sl 6 a_36 n_37 c_38) fun x_39=>app lo 65 6 72 (.sl 6 (some ((List.length hh),0)) 0 (some 0)) x_39 (hh ++ [.rows 6 65 false []]) fun v_40 h_41=>eS 6 (v_40) fun a_42 n_43 c_44=>inB ((i:Nat):Int) s.length (eO a1 fun o_45=>eO (ld h_41 (o_45.1) ((o_45.2)+(((i:Nat):Int).toNat)) 0 6) fun o_46=>eC o_46 fun v_47 l_48=>eI .i64 v_47 fun n_49=>eC l_48 fun v_50 l_51=>eI .i64 v_50 fun n_52=>eC l_51 fun v_53 l_54=>eI .i64 v_53 fun n_55=>eC l_54 fun v_56 l_57=>eS 2 (v_56) fun a_58 n_59 c_60=>eC l_57 fun v_61 l_62=>eT v_61 fun s_63=>eC l_62 fun v_64 l_65=>eBv v_64 fun b_66=>eN l_65 (cal (evl lo 181 [.agg [.int .i64 (n_49),.int .i64 (n_52),.int .i64 (n_55),.sl 2 a_58 n_59 c_60,.str (s_63),.bool (b_66)]] h_41) fun v_67 h_68=>eA v_67 fun c_69=>eC c_69 fun v_70 l_71=>eI .i64 v_70 fun n_72=>eC l_71 fun v_73 l_74=>eI .i64 v_73 fun n_75=>eC l_74 fun v_76 l_77=>eI .i64 v_76 fun n_78=>eC l_77 fun v_79 l_80=>eS 2 (v_79) fun a_81 n_82 c_83=>eC l_80 fun v_84 l_85=>eT v_84 fun s_86=>eC l_85 fun v_87 l_88=>eBv v_87 fun b_89=>eN l_88 (rowsOf 6 (h_68 ++ [.rows 6 65 false [[.int .i64 (n_72),.int .i64 (n_75),.int .i64 (n_78),.sl 2 a_81 n_82 c_83,.str (s_86),.bool (b_89)]]]) (.sl 6 (some ((List.length h_68),0)) 1 (some 1)) fun x_90=>app lo 65 6 72 (.sl 6 a_42 n_43 c_44) x_90 (h_68 ++ [.rows 6 65 false [[.int .i64 (n_72),.int .i64 (n_75),.int .i64 (n_78),.sl 2 a_81 n_82 c_83,.str (s_86),.bool (b_89)]]]) fun v_91 h_92=>eS 6 (v_91) fun a_93 n_94 c_95=>reslice ax out.length cx (some (.int .i64 (k:Nat))) none none fun a_96 n_97 c_98=>rowsOf 6 h_92 (.sl 6 a_96 n_97 c_98) fun x_99=>app lo 65 6 72 (.sl 6 a_93 n_94 c_95) x_99 h_92 fun v_100 h_101=>eS 6 (v_100) fun a_102 n_103 c_104=>L_spec_l3Lack_0 lo a_102 n_103 c_104 (IntKind.wrap .i64 (((i:Nat):Int)+1)) a1 s.length c1 a2 t.length c2 h_101))))=some (V.sl 6 a' (((s.zip t).drop (i+1)).foldl lackF (insF s[i] out)).length c',h') ∧
     RVers false h' [.sl 6 a' (((s.zip t).drop (i+1)).foldl lackF (insF s[i] out)).length c'] (((s.zip t).drop (i+1)).foldl lackF (insF s[i] out)) F'∧Mv h [] h' F':=by
    intro k hk hins
    have hbx:=rvers_ok.bd _ _ _ _ hr
    obtain ⟨Fs,nF,sF,own,cuts⟩:=hr.parts hm.nd
    obtain ⟨rP,rQ,eP,eQ,kP,kQ⟩:=cuts k hk
    obtain ⟨nP,nQ,dPQ⟩:=take_drop_disj (k:=k) nF
    have inP:∀ y∈(Fs.take k).flatten,y∈Fs.flatten:=fun y hy=>by rw [← List.take_append_drop k Fs,List.flatten_append];simp [hy]
    have inQ:∀ y∈(Fs.drop k).flatten,y∈Fs.flatten:=fun y hy=>by rw [← List.take_append_drop k Fs,List.flatten_append];simp [hy]
    have hFl:∀ y∈Fs.flatten,y<hh.length:=fun y hy=>hbx y (sF y hy)
    have hlh:lo≤hh.length:=Nat.le_trans hl hm.le
    have htl:(out.take k).length=k:=by rw [List.length_take];omega
    have hdl:(out.drop k).length=out.length - k:=by rw [List.length_drop]
    obtain ⟨a3,c3,h3,F3,e3,r3,l3,fr3,sub3,nd3⟩:=fresh_rows (lo:=lo) (R:=6) (e:=eVer false) (bytes:=72) rver_ok eP nP (fun y hy=>hFl y (inP y hy)) (by decide) (by omega) hlh
    have m3:Mv hh [] h3 []:=⟨by omega,fun y hy _=>fr3 y hy,by simp,by simp⟩
    have hs3:=m3.keep0 rvers_ok hs'
    obtain ⟨o4,s4,b4,d4,H4,ha4,ho4,es4,hp4,_⟩:=hs3.get his
    obtain ⟨a5,c5,h5,F5,e5,r5,m5⟩:=spec_l2Copy (lo:=lo) (v:=s[i]) hp4 (by omega) (hpn _ (List.getElem_mem his))
    obtain ⟨a6,c6,h6,F6,e6,r6,m6⟩:=push_one (lo:=lo) (bytes:=72) (e:=65) rver_ok r3 (row:=s[i].cs a5 c5) (x:=s[i]) (G:=F5) (h1:=h5 ++ [.rows 6 65 false [s[i].cs a5 c5]])
     ⟨_,rfl,Mv.snoc.keep0 rtags_ok r5⟩ (m5.trans (Mv.snoc' m5.nd)) nd3 (fun y hy=>by
      rcases sub3 y hy with g | g
      ·exact hm.ge hl (by simp) y (sF y (inP y g))
      ·omega) (by omega) (by decide) (by omega)
    have hQ3:∀ y∈(Fs.drop k).flatten,y∉F3∧y<h3.length:=fun y hy=>by
     have:=hFl y (inQ y hy)
     refine ⟨fun hm3=>?_,by omega⟩
     rcases sub3 y hm3 with g | g
     ·exact dPQ y g y hy rfl
     ·omega
    have hQ6:∀ y∈(Fs.drop k).flatten,h6[y]?=hh[y]?:=fun y hy=>by
     rw [m6.fr y (hQ3 y hy).2 (hQ3 y hy).1];exact fr3 y (hFl y (inQ y hy))
    have l6:=m6.le
    have F6b:∀ y∈F6,y<h6.length:=rvers_ok.bd _ _ _ _ r6
    obtain ⟨a7,c7,h7,F7,e7,r7,l7,fr7,sub7,nd7⟩:=push_rows (lo:=lo) (bytes:=72) rver_ok.fr r6 (xs:=rQ) (ys:=out.drop k) (Gs:=Fs.drop k) (eQ.fr rver_ok.fr hQ6) (by decide) (by simp only [List.length_append,htl,hdl,List.length_singleton];omega) (fun y hy=>m6.ge (by omega) (fun y hy=>by
      rcases sub3 y hy with g | g
      ·exact hm.ge hl (by simp) y (sF y (inP y g))
      ·omega) y hy) (by omega) (by
      rw [List.nodup_append]
      refine ⟨m6.nd,nQ,fun x hx y hy e=>?_⟩
      subst e
      rcases m6.sub x hx with g | g
      ·exact (hQ3 x hy).1 g
      ·have:=(hQ3 x hy).2;omega) (fun y hy=>by
      rcases List.mem_append.1 hy with hy | hy
      ·exact F6b y hy
      ·have:=(hQ3 y hy).2;omega)
    have hfin:out.take k ++ [s[i]]++out.drop k=insF s[i] out:=by rw [hins,List.append_assoc];rfl
    have hflen:(out.take k).length+1+(out.drop k).length=(insF s[i] out).length:=by rw [insF_len,htl,hdl];omega
    rw [List.length_append,List.length_singleton,hflen] at e7 r7
    rw [hfin] at r7
    have m7:Mv h [] h7 F7:=by
     refine ⟨by have:=hm.le;omega,fun y hy _=>?_,nd7,fun y hy=>?_⟩
     ·have y1:y<hh.length:=Nat.lt_of_lt_of_le hy hm.le
      have yF:y∉Fx:=fun hmx=>by have:=hm.new y hmx;omega
      have y3:y∉F3:=fun hm3=>by
       rcases sub3 y hm3 with g | g
       ·exact yF (sF y (inP y g))
       ·omega
      have y6:y∉F6:=fun hm6=>by
       rcases m6.sub y hm6 with g | g
       ·exact y3 g
       ·omega
      rw [fr7 y (by omega) y6,m6.fr y (by omega) y3,fr3 y y1,hm.fr y hy (by simp)]
     ·refine .inr ?_
      have hh':=hm.le
      rcases sub7 y hy with g | g
      ·rcases List.mem_append.1 g with g | g
       ·rcases m6.sub y g with g | g
        ·rcases sub3 y g with g | g
         ·have:=hm.new y (sF y (inP y g));have:=hFl y (inP y g);omega
         ·omega
        ·omega
       ·have:=hm.new y (sF y (inQ y g));have:=hFl y (inQ y g);omega
      ·omega
    obtain ⟨a8,c8,h8,F8,e8,r8,m8⟩:=ih (i+1) (by omega) h7 a7 c7 (insF s[i] out) F7 r7 m7 (by rw [insF_len];omega)
    refine ⟨a8,c8,h8,F8,?_,r8,m8⟩
    have mm0:Mv hh [] (hh ++ [.rows 6 65 false []]) []:=Mv.snoc
    have h6x:∀ b i,ax=some (b,i)→h6[b]?=hh[b]?:=fun b i e=>by
     obtain ⟨q1,q2⟩:=own b i e
     have:=hbx b q1
     rw [m6.fr b (by omega) fun hm3=>?_,fr3 b this]
     rcases sub3 b hm3 with g | g
     ·exact q2 (inP b g)
     ·omega
    simp only [Ver.cs] at e6
    rw [show eVer false=65 from rfl] at e3
    rw [kP _ (fun b i e=>mm0.fr b (hbx b (own b i e).1) (by simp)),e3,eS_sl,inB_nat his,ha4,eO_s,Int.toNat_natCast,ho4,eO_s,eC_c,eI_int,eC_c,eI_int,eC_c,eI_int,eC_c,es4,eC_c,eT_s,eC_c,eBv_b,eN_n]
    rw [show (V.agg [.int .i64 s[i].key,.int .i64 s[i].tag.time,.int .i64 s[i].tag.place,.sl 2 b4 s[i].past.length d4,.str s[i].text,.bool s[i].gone]) = .agg (s[i].cs b4 d4) from rfl,e5,cal_s,eA_a,eC_c,eI_int,eC_c,eI_int,eC_c,eI_int,eC_c,eS_sl,eC_c,eT_s,eC_c,eBv_b,eN_n,rows_one,e6,eS_sl,kQ _ h6x,e7,eS_sl,wr_succ (by omega),← ha4]
    exact e8
   have two:∀ m k,m+k=out.length→(∀ j (hj:j<out.length),j<k→lessV out[j] s[i]=true)→∃ a' c' h' F',L_spec_l3Lack_2 lo ax out.length cx (i:Nat) (k:Nat) a1 s.length c1 a2 t.length c2 hh=some (V.sl 6 a' (((s.zip t).drop (i+1)).foldl lackF (insF s[i] out)).length c',h') ∧
     RVers false h' [.sl 6 a' (((s.zip t).drop (i+1)).foldl lackF (insF s[i] out)).length c'] (((s.zip t).drop (i+1)).foldl lackF (insF s[i] out)) F'∧Mv h [] h' F':=by
    intro m
    induction m with
    | zero =>
     intro k hk hall
     rw [L_spec_l3Lack_2.e,br_neg (by omega)]
     exact put k (by omega) (insF_at (by omega) hall (fun h=>by omega))
    | succ m ih2 =>
     intro k hk hall
     have hkl:k<out.length:=by omega
     obtain ⟨o3,s3,b3,d3,H3,ha3,_,_,_,_,_,_,hl3,_,_,_,_⟩:=RVers.all hr hkl
     rw [L_spec_l3Lack_2.e,br_pos (by omega),inB_nat hkl,ha3,eO_s,Int.toNat_natCast,hl3,eO_s,eC_c,eI_int,eC_c,eI_int,eN_n,inB_nat his,ha1,eO_s,Int.toNat_natCast,hl1,eO_s,eC_c,eI_int,eC_c,eI_int,eN_n,spec_l1Less,cal_s,eB_b,← ha1,← ha3]
     show ∃ a' c' h' F',br (lessV out[k] s[i]) _ _=_∧_
     cases hlk:lessV out[k] s[i] with
     | true =>
      rw [br_t,wr_succ (by omega)]
      exact ih2 (k+1) (by omega) (fun j hj hjk=>by
       by_cases e:j=k
       ·subst e;exact hlk
       ·exact hall j hj (by omega))
     | false =>
      rw [br_f]
      exact put k (by omega) (insF_at (by omega) hall (fun _=>hlk))
   exact two out.length 0 (by omega) (fun j _ hj=>by omega)
 have m0:Mv h [] (h ++ [.rows 6 65 false []]) [h.length]:=Mv.last
 obtain ⟨a',c',h',F',e,r,m⟩:=one 4 0 (by omega) (h ++ [.rows 6 65 false []]) (some (h.length,0)) (some 0) [] [h.length] (Sli.fresh (Nat.le_refl _)) m0 (by simp)
 rw [List.drop_zero] at e r
 exact ⟨a',c',h',F',e,r,m⟩
end
end Go.Proofs.YthdfojchihooeaaGreat
namespace Go.Proofs.YthdfojchihooeaaGreat
open Go T


def waitAt (l:List Node) (k:Nat) (w:List Ver):List Node:=match l[k]? with
 | some x=>l.set k ⟨x.store,w⟩
 | none=>l
def storeAtN (l:List Node) (k:Nat):List Ver:=match l[k]? with
 | some x=>x.store
 | none => []
def fallN (l:List Node) (k:Nat):List Node :=
 bif decide (0<k) then (bif decide (k<(l.eraseIdx k).length) then waitAt (l.eraseIdx k) (k - 1) (lackL (storeAtN (l.eraseIdx k) (k - 1)) (storeAtN (l.eraseIdx k) k)) else waitAt (l.eraseIdx k) (k - 1) []) else l.eraseIdx k
theorem waitAt_get {l:List Node}{k:Nat}{w:List Ver} (hk:k<l.length):waitAt l k w=l.set k ⟨l[k].store,w⟩:=by unfold waitAt;rw [List.getElem?_eq_getElem hk]
theorem storeAtN_get {l:List Node}{k:Nat} (hk:k<l.length):storeAtN l k=l[k].store:=by unfold storeAtN;rw [List.getElem?_eq_getElem hk]
theorem waitAt_len {l:List Node}{k:Nat}{w:List Ver}:(waitAt l k w).length=l.length:=by unfold waitAt;split<;>simp
theorem waitAt_same {l:List Node}{k:Nat} (hk:k<l.length) (hw:l[k].wait = []):waitAt l k []=l:=by
 rw [waitAt_get hk]
 have:(⟨l[k].store,[]⟩:Node)=l[k]:=by
  cases hx:l[k] with
  | mk s w=>rw [hx] at hw;simp only at hw;rw [hw]
 rw [this];exact List.set_getElem_self hk
section
variable {lo:Nat}{h:Heap}{F F' G:List Nat}{a a' av:Option (Nat×Nat)}{c c' cv:Option Nat}
theorem set_wait {l:List Node}{n k:Nat}{ws:List Ver}{w:V}{h1:Heap}{Fw:List Nat} (hs:RNodes false h [.sl 2 a n c] l F) (hk:k<l.length) (hnd:F.Nodup) (hlo:∀ b∈F,lo≤b) (hw:RVers false h1 [w] ws Fw) (m:Mv h [] h1 Fw) :
  ∃ b i h2 F',a=some (b,i)∧b∈F∧st lo h1 b (i+k) 1 [w]=some h2∧RNodes false h2 [.sl 2 a n c] (waitAt l k ws) F'∧Mv h F h2 F'∧(∀ y,y≠b→h2[y]?=h1[y]?):=by
 obtain ⟨b,i,rs,row,G0,ha,hbF,hbG,hb,hrow,hel,hGF,hGn,put⟩:=hs.at2 rnode_ok hk hnd hlo
 obtain ⟨t1,t2,F1,F2,rfl,rfl,r1,r2⟩:=hel
 rw [List.nodup_append] at hGn
 have b1:∀ y∈F1,y<h.length:=rvers_ok.bd _ _ _ _ r1
 have m1:Mv h (F1++F2) h1 (F1++Fw):=by
  refine ⟨m.le,fun y hy _=>m.fr y hy (by simp),?_,fun y hy=>?_⟩
  ·rw [List.nodup_append]
   refine ⟨hGn.1,m.nd,fun x hx y hy e=>?_⟩
   subst e
   have:=b1 x hx
   have:=m.new x hy
   omega
  ·rcases List.mem_append.1 hy with hy | hy
   ·exact .inl (by simp [hy])
   ·exact (m.sub y hy).imp (fun g=>by simp at g) id
 obtain ⟨h2,F',e2,r,m2,fr,_⟩:=put h1 (F1++Fw) 1 [w] [t1,w] ⟨l[k].store,ws⟩ m1 rfl ⟨_,_,F1,Fw,rfl,rfl,m.keep0 rvers_ok r1,hw⟩
 rw [← waitAt_get hk] at r
 exact ⟨b,i,h2,F',ha,hbF,e2,r,m2,fr⟩
theorem erase_new {l:List Node}{k:Nat} (hs:RNodes false h [.sl 2 a l.length c] l F) (hk:k<l.length) (hnd:F.Nodup) (hlo:∀ b∈F,lo≤b) (hl:lo≤h.length) (hn:l.length≤1048576) :
  ∃ a' c' h' F',(∀ {T:Type} (K:V→Heap→Option T),(reslice a l.length c none (some (.int .i64 (k:Nat))) none fun a_0 n_1 c_2=>rowsOf 2 (h ++ [.rows 2 76 false []]) (.sl 2 a_0 n_1 c_2) fun x_3=>app lo 76 2 48 (.sl 2 (some ((List.length h),0)) 0 (some 0)) x_3 (h ++ [.rows 2 76 false []]) fun v_4 h_5=>eS 2 (v_4) fun a_6 n_7 c_8 =>
    reslice a l.length c (some (.int .i64 ((k+1:Nat):Int))) none none fun a_9 n_10 c_11=>rowsOf 2 h_5 (.sl 2 a_9 n_10 c_11) fun x_12=>app lo 76 2 48 (.sl 2 a_6 n_7 c_8) x_12 h_5 K)=K (.sl 2 a' (l.eraseIdx k).length c') h') ∧
   RNodes false h' [.sl 2 a' (l.eraseIdx k).length c'] (l.eraseIdx k) F'∧Mv h F h' F':=by
 have hbd:=rnodes_ok.bd _ _ _ _ hs
 obtain ⟨Fs,nF,sF,own,cuts⟩:=Sli.parts hs hnd
 obtain ⟨rP,_,eP,_,kP,_⟩:=cuts k (by omega)
 obtain ⟨_,rQ,_,eQ,_,kQ⟩:=cuts (k+1) (by omega)
 obtain ⟨nP,_,dPQ⟩:=take_drop_disj (k:=k) nF
 obtain ⟨_,nQ,_⟩:=take_drop_disj (k:=k+1) nF
 have inP:∀ y∈(Fs.take k).flatten,y∈Fs.flatten:=fun y hy=>by rw [← List.take_append_drop k Fs,List.flatten_append];simp [hy]
 have inQ:∀ y∈(Fs.drop (k+1)).flatten,y∈(Fs.drop k).flatten:=fun y hy=>by
  have:Fs.drop (k+1)=(Fs.drop k).drop 1:=by rw [List.drop_drop]
  rw [this] at hy
  rw [← List.take_append_drop 1 (Fs.drop k),List.flatten_append];exact List.mem_append.2 (.inr hy)
 have inQ':∀ y∈(Fs.drop (k+1)).flatten,y∈Fs.flatten:=fun y hy=>by rw [← List.take_append_drop k Fs,List.flatten_append];simp [inQ y hy]
 have hFl:∀ y∈Fs.flatten,y<h.length:=fun y hy=>hbd y (sF y hy)
 have htl:(l.take k).length=k:=by rw [List.length_take];omega
 have hdl:(l.drop (k+1)).length=l.length - (k+1):=by rw [List.length_drop]
 obtain ⟨a3,c3,h3,F3,e3,r3,l3,fr3,sub3,nd3⟩:=fresh_rows (lo:=lo) (R:=2) (e:=eNode false) (bytes:=48) rnode_ok eP nP (fun y hy=>hFl y (inP y hy)) (by decide) (by omega) hl
 have hQ3:∀ y∈(Fs.drop (k+1)).flatten,y∉F3∧y<h3.length:=fun y hy=>by
  have:=hFl y (inQ' y hy)
  refine ⟨fun hm3=>?_,by omega⟩
  rcases sub3 y hm3 with g | g
  ·exact dPQ y g y (inQ y hy) rfl
  ·omega
 have F3b:∀ y∈F3,y<h3.length:=rnodes_ok.bd _ _ _ _ r3
 obtain ⟨a7,c7,h7,F7,e7,r7,l7,fr7,sub7,nd7⟩:=push_rows (lo:=lo) (bytes:=48) rnode_ok.fr r3 (xs:=rQ) (ys:=l.drop (k+1)) (Gs:=Fs.drop (k+1)) (eQ.fr rnode_ok.fr fun y hy=>fr3 y (hFl y (inQ' y hy))) (by decide) (by rw [htl,hdl];omega) (fun y hy=>by
   rcases sub3 y hy with g | g
   ·exact hlo y (sF y (inP y g))
   ·omega) (by omega) (by
   rw [List.nodup_append]
   refine ⟨nd3,nQ,fun x hx y hy e=>?_⟩
   subst e
   exact (hQ3 x hy).1 hx) (fun y hy=>by
   rcases List.mem_append.1 hy with hy | hy
   ·exact F3b y hy
   ·exact (hQ3 y hy).2)
 have hel:(l.take k).length+(l.drop (k+1)).length=(l.eraseIdx k).length:=by rw [List.length_eraseIdx_of_lt hk,htl,hdl];omega
 have her:l.take k++l.drop (k+1)=l.eraseIdx k:=(List.eraseIdx_eq_take_drop_succ l k).symm
 rw [hel] at e7 r7
 rw [her] at r7
 have mm0:Mv h [] (h ++ [.rows 2 76 false []]) []:=Mv.snoc
 rw [show eNode false=76 from rfl] at e3 e7
 refine ⟨a7,c7,h7,F7,fun K=>?_,r7,⟨by omega,fun y hy hyF=>?_,nd7,fun y hy=>?_⟩⟩
 ·rw [kP _ (fun b i e=>mm0.fr b (hbd b (own b i e).1) (by simp)),e3,eS_sl,kQ _ (fun b i e=>fr3 b (hbd b (own b i e).1)),e7]
 ·have y3:y∉F3:=fun hm3=>by
   rcases sub3 y hm3 with g | g
   ·exact hyF (sF y (inP y g))
   ·omega
  rw [fr7 y (by omega) y3,fr3 y hy]
 ·rcases sub7 y hy with g | g
  ·rcases List.mem_append.1 g with g | g
   ·rcases sub3 y g with g | g
    ·exact .inl (sF y (inP y g))
    ·exact .inr (by omega)
   ·exact .inl (sF y (inQ' y g))
  ·exact .inr (by omega)
theorem spec_l3Fall {l:List Node}{k:Nat} (hs:RNodes false h [.sl 2 a l.length c] l F) (hk:k<l.length) (h2:1<l.length) (hlast:(l[l.length - 1]'(by omega)).wait = []) (hnd:F.Nodup) (hlo:∀ b∈F,lo≤b) (hl:lo≤h.length) (hn:l.length≤1048576) (hx:∀ x∈l,nodeIn 20 x) :
  ∃ a' c' h' F',evl lo 117 [.agg [.sl 2 a l.length c],.int .i64 (k:Nat)] h=some (.agg [.sl 2 a' (fallN l k).length c'],h')∧RNodes false h' [.sl 2 a' (fallN l k).length c'] (fallN l k) F'∧Mv h F h' F':=by
 suffices hq:∃ a' c' h' F',_=some (V.agg [.sl 2 a' (fallN l k).length c'],h')∧RNodes false h' [.sl 2 a' (fallN l k).length c'] (fallN l k) F'∧Mv h F h' F' from by
  obtain ⟨a',c',h',F',e,hr⟩:=hq
  exact ⟨a',c',h',F',E_spec_l3Fall e,hr⟩
 have hel:=List.length_eraseIdx_of_lt hk
 obtain ⟨a1,c1,h1,F1,e1,r1,m1⟩:=erase_new (lo:=lo) hs hk hnd hlo hl hn
 have hflen:(fallN l k).length=l.length - 1:=by
  unfold fallN
  cases decide (0<k)
  ·exact hel
  ·cases decide (k<(l.eraseIdx k).length)
   ·rw [cond_true,cond_false,waitAt_len];exact hel
   ·rw [cond_true,cond_true,waitAt_len];exact hel
 rw [wr_succ (by omega),e1,eS_sl]
 have hl1:lo≤h1.length:=Nat.le_trans hl m1.le
 have hlo1:∀ b∈F1,lo≤b:=fun b hb=>m1.ge hl hlo b hb
 have hn1:((l.eraseIdx k).length:Int) - 1=(((l.eraseIdx k).length - 1:Nat):Int):=by omega
 have tail:∀ (l':List Node) (hh:Heap) (F':List Nat),l'.length=(l.eraseIdx k).length→RNodes false hh [.sl 2 a1 (l.eraseIdx k).length c1] l' F'→F'.Nodup→(∀ b∈F',lo≤b)→∃ h' F'',(inB (IntKind.wrap .i64 ((((l.eraseIdx k).length:Nat):Int) - 1)) (l.eraseIdx k).length (eO a1 fun o_41=>eO (st lo hh (o_41.1) ((o_41.2)+((IntKind.i64.wrap ((((l.eraseIdx k).length:Nat):Int) - (1:Int))).toNat)) 1 [.sl 0 none 0 (some 0)]) fun o_42=>some (V.agg [.sl 2 a1 (l.eraseIdx k).length c1],o_42)))=some (.agg [.sl 2 a1 (l.eraseIdx k).length c1],h') ∧
   RNodes false h' [.sl 2 a1 (l.eraseIdx k).length c1] (waitAt l' ((l.eraseIdx k).length - 1) []) F''∧Mv hh F' h' F'':=by
  intro l' hh F' hll hr hnd' hlo'
  obtain ⟨b,i,h3,F3,ha,_,e3,r3,m3,_⟩:=set_wait (lo:=lo) (k:=(l.eraseIdx k).length - 1) (w := .sl 0 none 0 (some 0)) (ws := []) hr (by omega) hnd' hlo' Sli.nil Mv.nil
  rw [wr (n:=(((l.eraseIdx k).length:Nat):Int) - 1) (by omega) (by omega),hn1,inB_nat (by omega),ha,eO_s,Int.toNat_natCast,e3,eO_s,← ha]
  exact ⟨h3,F3,rfl,r3,m3⟩
 have hlast':∀ hj:(l.eraseIdx k).length - 1<(l.eraseIdx k).length,k<(l.eraseIdx k).length→((l.eraseIdx k)[(l.eraseIdx k).length - 1]).wait = []:=fun hj hkl=>by
  have:(l.eraseIdx k)[(l.eraseIdx k).length - 1]=l[l.length - 1]:=by
   rw [List.getElem_eraseIdx]
   rw [dif_neg (by omega)]
   congr 1;omega
  rw [this];exact hlast
 by_cases h0:0<k
 ·rw [br_pos (by omega)]
  by_cases hkl:k<(l.eraseIdx k).length
  ·-- in between
   have hf:fallN l k=waitAt (l.eraseIdx k) (k - 1) (lackL (storeAtN (l.eraseIdx k) (k - 1)) (storeAtN (l.eraseIdx k) k)):=by
    unfold fallN;rw [decide_eq_true h0,cond_true,decide_eq_true hkl,cond_true]
   have hk1:k - 1<(l.eraseIdx k).length:=by omega
   have hxm:∀ x∈l.eraseIdx k,nodeIn 20 x:=fun x hx'=>hx x (List.mem_of_mem_eraseIdx hx')
   obtain ⟨o,s1,s2,b1,d1,b2,d2,H1,H2,ha,_,ho1,_,q1,_,p1,_⟩:=r1.get hk1
   obtain ⟨o',s1',s2',b1',d1',b2',d2',H1',H2',ha',_,ho1',_,q1',_,p1',_⟩:=r1.get hkl
   have ho:o=o':=by rw [ha] at ha';injection ha'
   subst ho
   have n1:=hxm _ (List.getElem_mem hk1)
   have n2:=hxm _ (List.getElem_mem hkl)
   obtain ⟨a4,c4,h4,F4,e4,r4,m4⟩:=spec_l3Lack (lo:=lo) p1 p1' n1.1 n2.1 (fun v hv=>by have:=(n1.2.2.1 v hv).1;omega) hl1
   obtain ⟨b,i,h5,F5,hb,_,e5,r5,m5,_⟩:=set_wait (lo:=lo) (k:=k - 1) (w := .sl 6 a4 (lackL (l.eraseIdx k)[k - 1].store (l.eraseIdx k)[k].store).length c4) r1 hk1 m1.nd hlo1 r4 m4
   obtain ⟨h6,F6,e6,r6,m6⟩:=tail _ h5 F5 waitAt_len r5 m5.nd (fun b hb=>m5.ge hl1 hlo1 b hb)
   have hkk:((k:Nat):Int) - 1=((k - 1:Nat):Int):=by omega
   have hoe:o=(b,i):=by rw [ha] at hb;injection hb
   subst hoe
   rw [br_pos (by omega),wr (n:=((k:Nat):Int) - 1) (by omega) (by omega),hkk,inB_nat hk1,ha,eO_s,Int.toNat_natCast,ho1,eO_s,eC_c,q1,eN_n,inB_nat hkl,eO_s,Int.toNat_natCast,ho1',eO_s,eC_c,q1',eN_n,e4,cal_s,eS_sl,inB_nat hk1,eO_s,e5,eO_s,← ha,e6]
   have hsame:waitAt (waitAt (l.eraseIdx k) (k - 1) (lackL (l.eraseIdx k)[k - 1].store (l.eraseIdx k)[k].store)) ((l.eraseIdx k).length - 1) []=fallN l k:=by
    rw [hf,storeAtN_get hk1,storeAtN_get hkl]
    have hj:(l.eraseIdx k).length - 1<(waitAt (l.eraseIdx k) (k - 1) (lackL (l.eraseIdx k)[k - 1].store (l.eraseIdx k)[k].store)).length:=by rw [waitAt_len];omega
    refine waitAt_same hj ?_
    have hg:=waitAt_get (w:=lackL (l.eraseIdx k)[k - 1].store (l.eraseIdx k)[k].store) hk1
    rw [List.getElem_of_eq hg,List.getElem_set_ne (by omega)]
    exact hlast' (by omega) hkl
   rw [hsame] at r6
   refine ⟨a1,c1,h6,F6,by rw [hflen,hel],by rw [hflen,← hel];exact r6,(m1.trans m5).trans m6⟩
  ·-- the tail fell
   have hf:fallN l k=waitAt (l.eraseIdx k) (k - 1) []:=by
    unfold fallN;rw [decide_eq_true h0,cond_true,decide_eq_false hkl,cond_false]
   have hkk:(l.eraseIdx k).length - 1=k - 1:=by omega
   obtain ⟨h6,F6,e6,r6,m6⟩:=tail _ h1 F1 rfl r1 m1.nd hlo1
   rw [br_neg (by omega),e6]
   rw [hkk,← hf] at r6
   exact ⟨a1,c1,h6,F6,by rw [hflen,hel],by rw [hflen,← hel];exact r6,m1.trans m6⟩
 ·have hf:fallN l k=l.eraseIdx k:=by unfold fallN;rw [decide_eq_false h0,cond_false]
  obtain ⟨h6,F6,e6,r6,m6⟩:=tail _ h1 F1 rfl r1 m1.nd hlo1
  rw [br_neg (by omega),e6]
  rw [waitAt_same (by omega) (hlast' (by omega) (by omega)),← hf] at r6
  exact ⟨a1,c1,h6,F6,by rw [hflen,hel],r6,m1.trans m6⟩
end
end Go.Proofs.YthdfojchihooeaaGreat
namespace Go.Proofs.YthdfojchihooeaaGreat
open Go T


set_option maxRecDepth 100000
def lackOpt (x:Ver×Ver):Option Ver:=bif lessV x.2 x.1 then some x.1 else none
theorem lack_sort:∀ {z:List (Ver×Ver)}{acc:List Ver},z.foldl lackF acc=(z.filterMap lackOpt).foldl (fun acc v=>insF v acc) acc
 | [],acc=>rfl
 | x :: z,acc=>by
  rw [List.foldl_cons,lack_sort (z:=z)]
  unfold lackF
  cases hx:lessV x.2 x.1 with
  | true =>
   have:lackOpt x=some x.1:=by unfold lackOpt;rw [hx];rfl
   rw [List.filterMap_cons,this];rfl
  | false =>
   have:lackOpt x=none:=by unfold lackOpt;rw [hx];rfl
   rw [List.filterMap_cons,this];rfl
def lackU (s t:List Ver):List Ver:=(s.zip t).filterMap lackOpt
theorem lackL_sort {s t:List Ver}:sortV (lackU s t)=lackL s t:=lack_sort.symm
theorem tag_zero_less {u v:Ver} (hu:tagOk u.tag.time u.tag.place=true) (hv:v.tag.time=0∧v.tag.place=0):lessV u v=false:=by
 rw [lessV_not]
 simp [tagOk,within] at hu
 omega
theorem at_tag {i:Nat}{v:Ver} (h:verAt i v=true):tagOk v.tag.time v.tag.place=true:=(thin_at h).2.2
theorem lackU_keys {s t:List Ver} (hs:storeOk s=true) (ht:storeOk t=true):(lackU s t).Pairwise fun p u=>p.key<u.key:=by
 unfold lackU
 rw [List.pairwise_filterMap,List.pairwise_iff_getElem]
 intro i j hi hj hij b hb b' hb'
 have hi':i<s.length∧i<t.length:=by rw [List.length_zip] at hi;omega
 have hj':j<s.length∧j<t.length:=by rw [List.length_zip] at hj;omega
 rw [List.getElem_zip] at hb hb'
 have key:∀ q (hq:q<s.length) (hq':q<t.length) x,lackOpt (s[q],t[q])=some x→x.key=(q:Int):=fun q hq hq' x hx=>by
  unfold lackOpt at hx
  simp only at hx
  cases hl:lessV t[q] s[q] with
  | false=>rw [hl] at hx;cases hx
  | true =>
   rw [hl] at hx
   injection hx with hx
   subst hx
   rcases verAt_case (storeOk_get hs hq) with g | g
   ·have:=tag_zero_less (at_tag (storeOk_get ht hq')) (zero_time g)
    rw [hl] at this;cases this
   ·exact g.2
 have e1:=key i hi'.1 hi'.2 b (by simpa using hb)
 have e2:=key j hj'.1 hj'.2 b' (by simpa using hb')
 omega
theorem lackU_len {s t:List Ver} (hs:s.length=4):(lackU s t).length≤4:=by
 unfold lackU
 have:=List.length_filterMap_le lackOpt (s.zip t)
 rw [List.length_zip] at this;omega
section
variable {lo:Nat}{h:Heap}{F F' G:List Nat}{a a' av:Option (Nat×Nat)}{c c' cv:Option Nat}
theorem bits_small {n:Nat} (hn:n≤4):∃ x,evl lo 316 [.int .u64 (IntKind.wrap .u64 ((n:Nat):Int))] h=some (.int .i64 x,h):=by
 have key:∀ m:Nat,m≤4→∃ x,evl (List.length h) 350 [.int .u64 (IntKind.wrap .u64 ((m:Nat):Int))] h=some (.int .i64 x,h):=by
  intro m hm
  have:m=0∨m=1∨m=2∨m=3∨m=4:=by omega
  rcases this with rfl | rfl | rfl | rfl | rfl
  all_goals exact ⟨_,E_math_bits_Len64 (h':=h) (by
   rw [br_neg (by decide),br_neg (by decide),br_neg (by decide)]
   rfl)⟩
 obtain ⟨x,hx⟩:=key n hn
 exact ⟨x,E_math_bits_Len (h':=h) (by rw [hx,cal_s,eI_int])⟩
theorem impl_Sort {l:List Ver} (hs:RVers false h [.sl 6 a l.length c] l F) (h4:l.length≤4) (hk:l.Pairwise fun p u=>p.key<u.key) (hnd:F.Nodup) (hlo:∀ b∈F,lo≤b) (hl:lo≤h.length) :
  ∃ h' F',evl lo 228 [.sl 6 a l.length c,.fn 229 []] h=some (.tup [],h')∧RVers false h' [.sl 6 a l.length c] (sortV l) F'∧Mv h F h' F':=by
 obtain ⟨x,hx⟩:=bits_small (lo:=lo) (h:=h) h4
 obtain ⟨h',F',e,r,m⟩:=impl_insertion (lo:=lo) hs hk hnd hlo hl (by omega)
 refine ⟨h',F',E_slices_SortFunc_impl_Ver_impl_Ver ?_,r,m⟩
 rw [hx,cal_s,eI_int]
 have:evl lo 315 [.sl 6 a l.length c,.int .i64 0,.int .i64 ((l.length:Nat):Int),.int .i64 x,.fn 229 []] h=some (.tup [],h'):=by
  have hc:l.length=0∨l.length=1∨l.length=2∨l.length=3∨l.length=4:=by omega
  rcases hc with q | q | q | q | q
  ·rw [q] at e ⊢;exact E_slices_pdqsortCmpFunc_impl_Ver_0_0 (by rw [L_slices_pdqsortCmpFunc_impl_Ver_0_0_0.e];exact (congrArg (fun o=>cal o _) e).trans rfl)
  ·rw [q] at e ⊢;exact E_slices_pdqsortCmpFunc_impl_Ver_0_1 (by rw [L_slices_pdqsortCmpFunc_impl_Ver_0_1_0.e];exact (congrArg (fun o=>cal o _) e).trans rfl)
  ·rw [q] at e ⊢;exact E_slices_pdqsortCmpFunc_impl_Ver_0_2 (by rw [L_slices_pdqsortCmpFunc_impl_Ver_0_2_0.e];exact (congrArg (fun o=>cal o _) e).trans rfl)
  ·rw [q] at e ⊢;exact E_slices_pdqsortCmpFunc_impl_Ver_0_3 (by rw [L_slices_pdqsortCmpFunc_impl_Ver_0_3_0.e];exact (congrArg (fun o=>cal o _) e).trans rfl)
  ·rw [q] at e ⊢;exact E_slices_pdqsortCmpFunc_impl_Ver_0_4 (by rw [L_slices_pdqsortCmpFunc_impl_Ver_0_4_0.e];exact (congrArg (fun o=>cal o _) e).trans rfl)
 rw [this,cal_s,eU_t,eN_n]
theorem impl_DeleteN {l:List Node}{N k:Nat} (hs:RNodes false h [.sl 2 a l.length (some N)] l F) (hk:k<l.length) (hnd:F.Nodup) (hlo:∀ b∈F,lo≤b) (hn:l.length≤1048576) :
  ∃ h' F',evl lo 227 [.sl 2 a l.length (some N),.int .i64 (k:Nat),.int .i64 ((k+1:Nat):Int)] h=some (.sl 2 a (l.length - 1) (some N),h')∧RNodes false h' [.sl 2 a (l.length - 1) (some N)] (l.eraseIdx k) F'∧Mv h F h' F':=by
 obtain ⟨h',F',Gv,b,i,row,ha,hld,hel,hG,e,r,m,fr⟩:=Sli.del (lo:=lo) (bytes:=48) (e:=76) (z := [.sl 0 none 0 (some 0),.sl 0 none 0 (some 0)]) (x1:=(k:Nat)) (x2:=((k+1:Nat):Int)) (T:=V×Heap) rnode_ok hs hk hnd hlo rfl (by omega) (by decide) (by omega) (some (.sl 2 a l.length (some N),h)) (fun v h=>some (v,h))
 exact ⟨h',F',E_slices_Delete_impl_Node_impl_Node e,r,m⟩
theorem push_wait' {h3:Heap}{n k:Nat}{l:List Node}{v:Ver}{s1:V}{b0 i0:Nat} (hs:RNodes false h [.sl 2 a n c] l F) (ha:a=some (b0,i0)) (hk:k<l.length) (hst:ld h b0 (i0+k) 0 1=some [s1]) (hnd:F.Nodup) (hlo:∀ b∈F,lo≤b) (hl:lo≤h.length) (hw:l[k].wait.length≤1048576) (hv:RTags false h3 [.sl 2 av v.past.length cv] v.past G) (m3:Mv h [] h3 G) :
  ∃ t2 a2 c2 a5 c5 h5 h6 F6,ld h b0 (i0+k) 1 1=some [t2]∧(∀ {T:Type} (K:Option (Nat×Nat)→Nat→Option Nat→Option T),eS 6 t2 K=K a2 l[k].wait.length c2) ∧
   (∀ {T:Type} (K:V→Heap→Option T),app lo 65 6 72 (.sl 6 a2 l[k].wait.length c2) [v.cs av cv] (h3 ++ [.rows 6 65 false [v.cs av cv]]) K=K (.sl 6 a5 (l[k].wait.length+1) c5) h5) ∧
   st lo h5 b0 (i0+k) 1 [.sl 6 a5 (l[k].wait.length+1) c5]=some h6∧RNodes false h6 [.sl 2 a n c] (l.set k ⟨l[k].store,l[k].wait ++ [v]⟩) F6∧Mv h F h6 F6∧ld h6 b0 (i0+k) 0 1=some [s1]:=by
 obtain ⟨b,i,rs,row,G0,ha',hbF,hbG,hb,hrow,hel,hGF,hGn,_,put⟩:=hs.at rnode_ok hk hnd hlo
 have:(b0,i0)=(b,i):=by rw [ha] at ha';injection ha'
 injection this with e1 e2
 subst e1;subst e2
 obtain ⟨t1,t2,F1,F2,rfl,rfl,r1,r2⟩:=hel
 have hs1:s1=t1:=by
  rw [ld_of hb hrow] at hst
  injection hst with hst;injection hst with hst _;exact hst.symm
 subst hs1
 obtain ⟨a2,c2,e2,r2'⟩:=r2.form
 rw [List.nodup_append] at hGn
 obtain ⟨a5,c5,h5,F5,e5,r5,m5⟩:=push_one (lo:=lo) (bytes:=72) (e:=65) rver_ok r2' (row:=v.cs av cv) (x:=v) (G:=G) (h1:=h3 ++ [.rows 6 65 false [v.cs av cv]])
  ⟨_,rfl,Mv.snoc.keep0 rtags_ok hv⟩ (m3.trans (Mv.snoc' m3.nd)) hGn.2.1 (fun y hy=>hlo y (hGF y (by simp [hy]))) hl (by decide) (by omega)
 have b1:∀ y∈F1,y<h.length:=rvers_ok.bd _ _ _ _ r1
 have m6:=(m5.aside (G:=F1) (by rw [List.nodup_append];exact ⟨hGn.2.1,hGn.1,fun x hx y hy e=>hGn.2.2 y hy x hx e.symm⟩) b1).swap
 have r1':=m5.keep rvers_ok r1 fun y hy hm=>hGn.2.2 y hy y hm rfl
 obtain ⟨h6,F6,e6,r6,m7,hb6,_,_⟩:=put h5 (F1++F5) 1 [.sl 6 a5 (l[k].wait.length+1) c5] [s1,.sl 6 a5 (l[k].wait.length+1) c5] ⟨l[k].store,l[k].wait ++ [v]⟩ m6 rfl ⟨_,_,F1,F5,rfl,rfl,r1',r5⟩
 have hrl:i0+k<rs.length:=(List.getElem?_eq_some_iff.1 hrow).1
 have hr6:(rs.set (i0+k) [s1,.sl 6 a5 (l[k].wait.length+1) c5])[i0+k]?=some [s1,.sl 6 a5 (l[k].wait.length+1) c5]:=by simp [hrl]
 exact ⟨t2,a2,c2,a5,c5,h5,h6,F6,by rw [ld_of hb hrow];rfl,fun K=>e2 K,fun K=>e5 K,e6,r6,m7,by rw [ld_of hb6 hr6];rfl⟩
theorem waitAt_set {l:List Node}{k:Nat}{w w':List Ver} (hk:k<l.length):(waitAt l k w).set k ⟨l[k].store,w'⟩=waitAt l k w':=by
 rw [waitAt_get hk,waitAt_get hk,List.set_set]
theorem waitAt_at {l:List Node}{k:Nat}{w:List Ver} (hk:k<l.length):(waitAt l k w)[k]'(by rw [waitAt_len];exact hk)=⟨l[k].store,w⟩:=by
 rw [List.getElem_of_eq (waitAt_get hk),List.getElem_set_self]
theorem waitAt_ne {l:List Node}{k q:Nat}{w:List Ver} (hk:k<l.length) (hq:q<l.length) (hne:k≠q):(waitAt l k w)[q]'(by rw [waitAt_len];exact hq)=l[q]:=by
 rw [List.getElem_of_eq (waitAt_get hk),List.getElem_set_ne hne]
theorem fall_loop {b i j R e:Nat}{rs:List (List V)}{row:List V}{l:List Node}{k1 b5 i5:Nat}{as':Option (Nat×Nat)}{cs':Option Nat}
  (hkl:k1+1<l.length) (hb:h[b]?=some (.rows R e false rs)) (hrow:rs[i]?=some row) (hcell:row[j]?=some (.sl 2 a l.length c)) (hbF:b∉F)
  (hs:RNodes false h [.sl 2 a l.length c] (waitAt l k1 []) F) (ha:a=some (b5,i5)) (hnd:F.Nodup) (hlo:∀ b∈F,lo≤b) (hl:lo≤h.length) (hn:l.length≤1048576) (h1:storeOk (l[k1]'(by omega)).store=true) (h2:storeOk l[k1+1].store=true)
  {x0:V} (hst:ld h b5 (i5+k1) 0 1=some [x0]) (hex:∀ {T:Type} (K:Option (Nat×Nat)→Nat→Option Nat→Option T),eS 6 x0 K=K as' (l[k1]'(by omega)).store.length cs') :
  ∃ h' F',L_impl_Chain_fall_0 lo b i j ((k1+1:Nat):Int) b5 (i5+k1) 0 as' (l[k1]'(by omega)).store.length cs' (((l[k1]'(by omega)).store.length:Nat):Int) 0 h=some (.bool true,h') ∧
   RNodes false h' [.sl 2 a l.length c] (waitAt l k1 (lackL (l[k1]'(by omega)).store l[k1+1].store)) F'∧Mv h F h' F':=by
 have hk1:k1<l.length:=by omega
 have hblt:b<h.length:=(List.getElem?_eq_some_iff.1 hb).1
 have hex':=fun {T:Type} (K:Option (Nat×Nat)→Nat→Option Nat→Option T)=>hex K
 generalize hsd:(l[k1]'(by omega)).store=s at h1 hex' ⊢
 generalize htd:l[k1+1].store=t at h2 ⊢
 have hs4:=storeOk_len h1
 have ht4:=storeOk_len h2
 have hzl:(s.zip t).length=4:=by rw [List.length_zip];omega
 have hsm1:=storeOk_sm h1
 have hbm:∀ hh F',Mv h F hh F'→hh[b]?=some (.rows R e false rs):=fun hh F' m=>by rw [m.fr b hblt hbF];exact hb
 have one:∀ m q,m+q=4→∀ hh F',RNodes false hh [.sl 2 a l.length c] (waitAt l k1 (((s.zip t).take q).filterMap lackOpt)) F'→Mv h F hh F'→ld hh b5 (i5+k1) 0 1=some [x0] →
   ∃ h' F'',L_impl_Chain_fall_0 lo b i j ((k1+1:Nat):Int) b5 (i5+k1) 0 as' s.length cs' ((s.length:Nat):Int) (q:Nat) hh=some (.bool true,h')∧RNodes false h' [.sl 2 a l.length c] (waitAt l k1 (lackL s t)) F''∧Mv h F h' F'':=by
  intro m
  induction m with
  | zero =>
   intro q hq hh F' hr hm hld
   have hq4:q=4:=by omega
   subst hq4
   rw [List.take_of_length_le (by omega)] at hr
   have hwl:k1<(waitAt l k1 ((s.zip t).filterMap lackOpt)).length:=by rw [waitAt_len];exact hk1
   obtain ⟨b',i',rs',row',G0,ha',hbF',hbG,hb',hrow',hel,hGF,hGn,put⟩:=hr.at2 rnode_ok hwl hm.nd (fun y hy=>hm.ge hl hlo y hy)
   have:(b5,i5)=(b',i'):=by rw [ha] at ha';injection ha'
   injection this with x1 x2
   subst x1;subst x2
   rw [waitAt_at hk1] at hel
   obtain ⟨t1,t2,F1,F2,rfl,rfl,r1,r2⟩:=hel
   simp only at r1 r2
   obtain ⟨a2,c2,e2,r2'⟩:=r2.form
   rw [List.nodup_append] at hGn
   have hlh:lo≤hh.length:=Nat.le_trans hl hm.le
   obtain ⟨h3,F3,e3,r3,m3⟩:=impl_Sort (lo:=lo) r2' (lackU_len hs4) (lackU_keys h1 h2) hGn.2.1 (fun y hy=>hm.ge hl hlo y (hGF y (by simp [hy]))) hlh
   have b1:∀ y∈F1,y<hh.length:=rvers_ok.bd _ _ _ _ r1
   have m4:=(m3.aside (G:=F1) (by rw [List.nodup_append];exact ⟨hGn.2.1,hGn.1,fun x hx y hy e=>hGn.2.2 y hy x hx e.symm⟩) b1).swap
   have r1':=m3.keep rvers_ok r1 fun y hy hm=>hGn.2.2 y hy y hm rfl
   have hsl:(sortV ((s.zip t).filterMap lackOpt)).length=((s.zip t).filterMap lackOpt).length:=(r3.val).symm
   have r3c:=r3.clip
   rw [← hsl] at r3c
   obtain ⟨h4,F4,e4,r4,m5,_,_⟩:=put h3 (F1++F3) 1 [.sl 6 a2 (sortV ((s.zip t).filterMap lackOpt)).length (some (sortV ((s.zip t).filterMap lackOpt)).length)] [t1,.sl 6 a2 (sortV ((s.zip t).filterMap lackOpt)).length (some (sortV ((s.zip t).filterMap lackOpt)).length)] ⟨l[k1].store,sortV ((s.zip t).filterMap lackOpt)⟩ m4 rfl ⟨_,_,F1,F3,rfl,rfl,by rw [hsd];rw [hsd] at r1';exact r1',r3c⟩
   rw [hsl] at e4
   rw [waitAt_set hk1] at r4
   have hfin:sortV ((s.zip t).filterMap lackOpt)=lackL s t:=lackL_sort
   rw [hfin] at r4
   have l1:ld hh b5 (i5+k1) (0+1) 1=some [t2]:=by rw [ld_of hb' hrow'];rfl
   have hb5:h3[b5]?=hh[b5]?:=m3.fr b5 (List.getElem?_eq_some_iff.1 hb').1 fun hm2=>hbG (by simp [hm2])
   have l3:ld h3 b5 (i5+k1) (0+1) 1=some [t2]:=by rw [ld_of (by rw [hb5];exact hb') hrow'];rfl
   rw [L_impl_Chain_fall_0.e,br_neg (by omega),l1,eO_s,eC_c,eN_n,e2,e3,cal_s,eU_t,eN_n,l3,eO_s,eC_c,eN_n,e2,clip_ver r3,cal_s,eS_sl,e4,eO_s]
   exact ⟨h4,F4,rfl,r4,hm.trans m5⟩
  | succ m ih =>
   intro q hq hh F' hr hm hld
   have hqs:q<s.length:=by omega
   have hqt:q<t.length:=by omega
   have hlh:lo≤hh.length:=Nat.le_trans hl hm.le
   have hwl:k1<(waitAt l k1 (((s.zip t).take q).filterMap lackOpt)).length:=by rw [waitAt_len];exact hk1
   have hwl2:k1+1<(waitAt l k1 (((s.zip t).take q).filterMap lackOpt)).length:=by rw [waitAt_len];exact hkl
   obtain ⟨o,x1,_,b1,d1,_,_,H1,_,ho,_,ho1,_,ex1,_,p1,_⟩:=hr.get hwl
   obtain ⟨o2,x2,_,b2,d2,_,_,H2,_,ho2,_,ho21,_,ex2,_,p2,_⟩:=hr.get hwl2
   have hoe:o=(b5,i5):=by rw [ha] at ho;injection ho with ho;exact ho.symm
   have hoe2:o2=(b5,i5):=by rw [ha] at ho2;injection ho2 with ho2;exact ho2.symm
   subst hoe;subst hoe2
   rw [hld] at ho1
   injection ho1 with ho1;injection ho1 with ho1 _
   subst ho1
   have hcap:=ex1 fun a n c=>some (a,c)
   rw [hex'] at hcap
   injection hcap with hcap;injection hcap with hc1 hc2
   subst hc1;subst hc2
   have es1:(waitAt l k1 (((s.zip t).take q).filterMap lackOpt))[k1].store=s:=by rw [waitAt_at hk1];exact hsd
   have es2:(waitAt l k1 (((s.zip t).take q).filterMap lackOpt))[k1+1].store=t:=by rw [waitAt_ne hk1 hkl (by omega)];exact htd
   rw [es1] at p1
   rw [es2] at ex2 p2
   have hv:=storeOk_get h1 hqs
   have hkr:0≤s[q].key∧s[q].key<4:=by
    rcases verAt_case hv with g | g
    ·rw [zero_is g];decide
    ·rw [g.2];omega
   have hkt:s[q].key.toNat<t.length:=by omega
   have hless:lessV (t[s[q].key.toNat]'hkt) s[q]=lessV t[q] s[q]:=by
    rcases verAt_case hv with g | g
    ·rw [tag_zero_less (at_tag (storeOk_get h2 hkt)) (zero_time g),tag_zero_less (at_tag (storeOk_get h2 hqt)) (zero_time g)]
    ·have:s[q].key.toNat=q:=by rw [g.2];omega
     simp only [this]
   obtain ⟨ov,xs,bs,ds,Hs,hov,hlv,exs,hps,_⟩:=p1.get hqs
   obtain ⟨ot,_,_,_,_,hot,_,_,_,_,_,_,hlt,_,_,_,_⟩:=RVers.all p2 hkt
   have lc:ld hh b i (j+0) 1=some [.sl 2 a l.length c]:=by rw [ld_of (hbm hh F' hm) hrow];exact cut_one hcell
   have htake:((s.zip t).take (q+1)).filterMap lackOpt=((s.zip t).take q).filterMap lackOpt++(match lackOpt (s[q],t[q]) with | some v => [v] | none => []):=by
    rw [List.take_succ_eq_append_getElem (by omega),List.filterMap_append,List.getElem_zip]
    congr 1
    cases hx:lackOpt (s[q],t[q])<;>simp [List.filterMap_cons,hx]
   have htl:=impl_TagLess (lo:=lo) (h:=hh) (a:=(t[s[q].key.toNat]'hkt).tag.time) (b:=(t[s[q].key.toNat]'hkt).tag.place) (c:=s[q].tag.time) (d:=s[q].tag.place)
   rw [L_impl_Chain_fall_0.e,br_pos (by omega),inB_nat hqs,hov,eO_s,Int.toNat_natCast,hlv,eO_s,eC_c,eI_int,eC_c,eI_int,eC_c,eI_int,eC_c,exs,eC_c,eT_s,eC_c,eBv_b,eN_n,lc,eO_s,eC_c,eN_n,eS_sl,inB_nat hkl,ha,eO_s,Int.toNat_natCast,ho21,eO_s,eC_c,eN_n,ex2,inB_in ⟨by omega,by omega⟩,hot,eO_s,hlt,eO_s,eC_c,eI_int,eC_c,eI_int,eN_n,htl,cal_s,eB_b,← hov,wr_succ (by omega)]
   show ∃ h' F'',br (lessV (t[s[q].key.toNat]'hkt) s[q]) _ _=_∧_
   rw [hless]
   cases hlq:lessV t[q] s[q] with
   | false =>
    have:lackOpt (s[q],t[q])=none:=by unfold lackOpt;rw [hlq];rfl
    rw [this] at htake
    simp only [List.append_nil] at htake
    rw [br_f,← ha]
    exact ih (q+1) (by omega) hh F' (by rw [htake];exact hr) hm hld
   | true =>
    have:lackOpt (s[q],t[q])=some s[q]:=by unfold lackOpt;rw [hlq];rfl
    rw [this] at htake
    simp only at htake
    obtain ⟨a3,c3,h3,F3,e3,r3,m3⟩:=impl_Ver_copied (lo:=hh.length) (v:=s[q]) hps (Nat.le_refl _) (hsm1.2 _ (List.getElem_mem hqs)).1
    have hwlen:(((s.zip t).take q).filterMap lackOpt).length≤4:=by
     have:=List.length_filterMap_le lackOpt ((s.zip t).take q)
     rw [List.length_take] at this;omega
    obtain ⟨t2,a4,c4,a5,c5,h5,h6,F6,l2,e2,e5,e6,r6,m6,l6⟩:=push_wait' (lo:=lo) (v:=s[q]) hr ha hwl hld hm.nd (fun y hy=>hm.ge hl hlo y hy) hlh (by rw [waitAt_at hk1];exact Nat.le_trans hwlen (by decide)) r3 m3
    rw [waitAt_at hk1] at e2 e5 e6 r6
    simp only at e2 e5 e6 r6
    rw [waitAt_set hk1,← htake] at r6
    simp only [Ver.cs] at e3 e5
    rw [br_t,l2,eO_s,eC_c,eN_n,e2,e3,cal_s,eA_a,eC_c,eI_int,eC_c,eI_int,eC_c,eI_int,eC_c,eS_sl,eC_c,eT_s,eC_c,eBv_b,eN_n,rows_one,e5,eS_sl,e6,eO_s]
    rw [← ha]
    exact ih (q+1) (by omega) h6 F6 r6 (hm.trans m6) l6
 exact one 4 0 (by omega) h F (by simpa using hs) (Mv.refl hnd) hst
theorem Mv.cons {h h':Heap}{F F':List Nat}{b:Nat} (m:Mv h F h' F') (hb:b<h.length) (hbF:b∉F) (hnd:F.Nodup):Mv h (b :: F) h' (b :: F') :=
 (m.aside (G := [b]) (by rw [List.nodup_append];exact ⟨hnd,by simp,fun x hx y hy e=>by rw [List.mem_singleton] at hy;subst hy;subst e;exact hbF hx⟩) (by simpa using hb)).swap
def canFallC (l:List Node) (k:Int):Bool:=within k 0 ((l.length:Int) - 1)&&decide (1<l.length)
theorem impl_fall {b i j R e N:Nat}{rs:List (List V)}{row:List V}{l:List Node}{k:Int} (hb:h[b]?=some (.rows R e false rs)) (hrow:rs[i]?=some row) (hcell:row[j]?=some (.sl 2 a l.length (some N))) (hs:RNodes false h [.sl 2 a l.length (some N)] l F) (hbF:b∉F)
  (hnd:F.Nodup) (hlob:lo≤b) (hlo:∀ b∈F,lo≤b) (hl:lo≤h.length) (hn:smNodes l) (h0:0<l.length) (hst:∀ x∈l,storeOk x.store=true) :
  ∃ a' n' c' h' F',evl lo 115 [.ptr (some (b,(i,j))),.int .i64 k] h=some (.bool (canFallC l k),h')∧h'[b]?=some (.rows R e false (rs.set i (row.set j (.sl 2 a' n' c'))))∧RNodes false h' [.sl 2 a' n' c'] (bif canFallC l k then fallN l k.toNat else l) F'∧Mv h (b :: F) h' (b :: F'):=by
 have hn1:=hn.1
 suffices hq:∃ a' n' c' h' F',_=some (V.bool (canFallC l k),h')∧h'[b]?=some (.rows R e false (rs.set i (row.set j (.sl 2 a' n' c'))))∧RNodes false h' [.sl 2 a' n' c'] (bif canFallC l k then fallN l k.toNat else l) F'∧Mv h (b :: F) h' (b :: F') from by
  obtain ⟨a',n',c',h',F',e,hr⟩:=hq
  exact ⟨a',n',c',h',F',E_impl_Chain_fall e,hr⟩
 have hblt:b<h.length:=(List.getElem?_eq_some_iff.1 hb).1
 have hil:i<rs.length:=(List.getElem?_eq_some_iff.1 hrow).1
 have hjl:j<row.length:=(List.getElem?_eq_some_iff.1 hcell).1
 have hndb:(b :: F).Nodup:=by rw [List.nodup_cons];exact ⟨hbF,hnd⟩
 have hld:ld h b i (j+0) 1=some [.sl 2 a l.length (some N)]:=by rw [ld_of hb hrow];exact cut_one hcell
 have stay:canFallC l k=false→∃ a' n' c' h' F',some (V.bool false,h)=some (V.bool (canFallC l k),h')∧h'[b]?=some (.rows R e false (rs.set i (row.set j (.sl 2 a' n' c'))))∧RNodes false h' [.sl 2 a' n' c'] (bif canFallC l k then fallN l k.toNat else l) F'∧Mv h (b :: F) h' (b :: F'):=fun hc=>by
  rw [hc]
  exact ⟨a,l.length,some N,h,F,rfl,by rw [set_same hcell,set_same hrow];exact hb,hs,Mv.refl hndb⟩
 have hcd:canFallC l k=(within k 0 ((l.length:Int) - 1)&&decide (1<l.length)):=rfl
 rw [hld,eO_s,eC_c,eN_n,eS_sl,wr (by omega) (by omega),impl_within,cal_s,eB_b]
 cases hw:within k 0 ((l.length:Int) - 1) with
 | false=>rw [br_f];exact stay (by rw [hcd,hw];rfl)
 | true =>
 rw [hw,Bool.true_and] at hcd
 simp only [within,Bool.and_eq_true,decide_eq_true_eq] at hw
 obtain ⟨f,rfl⟩:∃ f:Nat,k=(f:Int):=⟨k.toNat,by omega⟩
 have hk:f<l.length:=by omega
 rw [br_t,hld,eO_s,eC_c,eN_n,eS_sl]
 by_cases h1:1<l.length
 ·rw [decide_eq_true h1] at hcd
  have hel:=List.length_eraseIdx_of_lt hk
  obtain ⟨h2,F2,e2,r2,m2⟩:=impl_DeleteN (lo:=lo) hs hk hnd hlo hn1
  have hb2:h2[b]?=some (.rows R e false rs):=by rw [m2.fr b hblt hbF];exact hb
  have hclip:evl lo 226 [.sl 2 a (l.length - 1) (some N)] h2=some (.sl 2 a (l.length - 1) (some (l.length - 1)),h2):=clip_node r2
  have e3:=st_first (lo:=lo) (cs := [.sl 2 a (l.length - 1) (some (l.length - 1))]) (j:=j+0) hb2 hlob hrow (paste_one hjl)
  obtain ⟨m3,b3,k3,n3⟩:=m2.store hblt hbF (.rows R e false (rs.set i (row.set (j+0) (.sl 2 a (l.length - 1) (some (l.length - 1))))))
  generalize hh3:h2.set b (.rows R e false (rs.set i (row.set (j+0) (.sl 2 a (l.length - 1) (some (l.length - 1))))))=h3 at m3 b3 k3
  have e3':st lo h2 b i (j+0) [.sl 2 a (l.length - 1) (some (l.length - 1))]=some h3:=by rw [← hh3];exact e3
  have r3:RNodes false h3 [.sl 2 a (l.length - 1) (some (l.length - 1))] (l.eraseIdx f) F2:=rnodes_ok.fr _ _ _ _ _ r2.clip fun y hy=>k3 y fun e=>n3 (by rw [← e];exact hy)
  rw [show (((l.length:Nat):Int)==1)=false by rw [beq_eq_false_iff_ne];omega,br_f,wr_succ (by omega),eO_s,eC_c,eN_n,eS_sl,e2,cal_s,eS_sl,hclip,cal_s,eS_sl,e3',eO_s]
  rw [hcd,cond_true,Int.toNat_natCast]
  by_cases hf0:f=0
  ·subst hf0
   have hff:fallN l 0=l.eraseIdx 0:=rfl
   rw [show (((0:Nat):Int)==0)=true from rfl,br_t,hff]
   exact ⟨a,l.length - 1,some (l.length - 1),h3,F2,rfl,b3,r3,m3⟩
  ·obtain ⟨f1,rfl⟩:∃ f1,f=f1+1:=⟨f - 1,by omega⟩
   have hk1:f1<(l.eraseIdx (f1+1)).length:=by omega
   have hrow3:(rs.set i (row.set (j+0) (.sl 2 a (l.length - 1) (some (l.length - 1)))))[i]?=some (row.set j (.sl 2 a (l.length - 1) (some (l.length - 1)))):=by simp [hil]
   have hcell3:(row.set j (.sl 2 a (l.length - 1) (some (l.length - 1))))[j]?=some (.sl 2 a (l.length - 1) (some (l.length - 1))):=by simp [hjl]
   have ld3:∀ hh:Heap,hh[b]?=h3[b]?→ld hh b i j 1=some [.sl 2 a (l.length - 1) (some (l.length - 1))]:=fun hh hbb=>by rw [ld_of (by rw [hbb];exact b3) hrow3];exact cut_one hcell3
   obtain ⟨b5,i5,h4,F4,ha,hb5,e4,r4,m4,k4⟩:=set_wait (lo:=lo) (k:=f1) (w := .sl 0 none 0 (some 0)) (ws := []) r3 hk1 (List.nodup_cons.1 m3.nd).2 (fun y hy=>m2.ge hl hlo y hy) Sli.nil Mv.nil
   have hbb5:b≠b5:=fun e=>n3 (by rw [e];exact hb5)
   have hb4:h4[b]?=h3[b]?:=k4 b hbb5
   have hbF4:b∉F4:=fun hm=>by
    rcases m4.sub b hm with g | g
    ·exact n3 g
    ·have:=m3.le;omega
   have m34:=m3.trans (m4.cons (by have:=m3.le;omega) n3 (List.nodup_cons.1 m3.nd).2)
   have hlast:=impl_last (lo:=lo) (h:=h4) (a:=a) (c:=some (l.length - 1)) (n:=l.length - 1) (k:=f1) (by omega)
   have hfm:(((f1+1:Nat):Int)==0)=false:=by rw [beq_eq_false_iff_ne];omega
   rw [hfm,br_f,Nat.add_zero,ld3 h3 rfl,eO_s,eC_c,eN_n,eS_sl,show IntKind.i64.wrap (((f1+1:Nat):Int) - 1)=((f1:Nat):Int) by rw [wr (by omega) (by omega)];omega,inB_nat (show f1<l.length - 1 by omega),ha,eO_s,Int.toNat_natCast,e4,eO_s,ld3 h4 hb4,eO_s,eC_c,eS_sl,eN_n,hlast,cal_s,eB_b]
   have hgt:decide (0<f1+1)=true:=decide_eq_true (by omega)
   by_cases hla:f1+1=l.length - 1
   ·have hff:fallN l (f1+1)=waitAt (l.eraseIdx (f1+1)) f1 []:=by
     unfold fallN;rw [hgt,cond_true,decide_eq_false (by omega),cond_false];rfl
    rw [decide_eq_true hla,br_t,hff]
    exact ⟨a,l.length - 1,some (l.length - 1),h4,F4,rfl,by rw [hb4];exact b3,r4,m34⟩
   ·have hkl:f1+1<(l.eraseIdx (f1+1)).length:=by omega
    have hff:fallN l (f1+1)=waitAt (l.eraseIdx (f1+1)) f1 (lackL (l.eraseIdx (f1+1))[f1].store (l.eraseIdx (f1+1))[f1+1].store):=by
     unfold fallN;rw [hgt,cond_true,decide_eq_true hkl,cond_true,storeAtN_get hkl,Nat.add_sub_cancel,storeAtN_get hk1]
    have hwl:f1<(waitAt (l.eraseIdx (f1+1)) f1 []).length:=by rw [waitAt_len];exact hk1
    obtain ⟨o,x1,_,b1,d1,_,_,H1,_,ho,_,ho1,_,ex1,_,p1,_⟩:=r4.get hwl
    have hoe:o=(b5,i5):=by rw [ha] at ho;injection ho with ho;exact ho.symm
    subst hoe
    rw [waitAt_at hk1] at ex1 p1
    simp only at ex1 p1
    rw [← hel] at r4
    obtain ⟨h7,F7,e7,r7,m7⟩:=fall_loop (lo:=lo) (k1:=f1) (l:=l.eraseIdx (f1+1)) hkl (by rw [hb4];exact b3) hrow3 (by rw [hel];exact hcell3) hbF4 r4 ha m4.nd (fun y hy=>m4.ge (by have:=m3.le;omega) (fun y hy=>m2.ge hl hlo y hy) y hy) (by have:=m34.le;omega) (by omega) (hst _ (List.mem_of_mem_eraseIdx (List.getElem_mem hk1))) (hst _ (List.mem_of_mem_eraseIdx (List.getElem_mem hkl))) ho1 ex1
    rw [decide_eq_false hla,br_f,ho1,eO_s,eC_c,eN_n,ex1,e7,hff]
    have hb7:h7[b]?=h4[b]?:=m7.fr b (by have:=m34.le;omega) hbF4
    exact ⟨a,(l.eraseIdx (f1+1)).length,some (l.eraseIdx (f1+1)).length,h7,F7,rfl,by rw [hel,hb7,hb4];exact b3,r7,m34.trans (m7.cons (by have:=m34.le;omega) hbF4 m4.nd)⟩
 ·rw [decide_eq_false h1] at hcd
  rw [show (((l.length:Nat):Int)==1)=true by rw [beq_iff_eq];omega,br_t]
  exact stay hcd
end
end Go.Proofs.YthdfojchihooeaaGreat
namespace Go.Proofs.YthdfojchihooeaaGreat
open Go T


theorem lackL_len {s t:List Ver} (hs:s.length=4):(lackL s t).length≤4:=by
 have key:∀ (z:List (Ver×Ver)) (acc:List Ver),(z.foldl lackF acc).length≤acc.length+z.length:=by
  intro z
  induction z with
  | nil=>intro acc;simp
  | cons x z ih =>
   intro acc
   rw [List.foldl_cons]
   have:=ih (lackF acc x)
   have h2:(lackF acc x).length≤acc.length+1:=by
    unfold lackF
    cases lessV x.2 x.1
    ·simp
    ·rw [cond_true,insF_len];exact Nat.le_refl _
   rw [List.length_cons];omega
 have:=key (s.zip t) []
 rw [List.length_zip] at this
 simp only [List.length_nil] at this
 unfold lackL
 omega
theorem fallN_pos {l:List Node}{k:Nat} (hk:k<l.length) (h1:1<l.length):(fallN l k).length=l.length - 1:=by
 have hel:=List.length_eraseIdx_of_lt hk
 unfold fallN
 cases decide (0<k)
 ·exact hel
 ·cases decide (k<(l.eraseIdx k).length)
  ·rw [cond_true,cond_false,waitAt_len];exact hel
  ·rw [cond_true,cond_true,waitAt_len];exact hel
theorem last_wait {l:List Node} (h:chainOk l=true) (h0:0<l.length):(l[l.length - 1]'(by omega)).wait = []:=by
 have:=chainOk_link h (show l.length - 1<l.length by omega)
 unfold linkAt at this
 rw [List.getElem?_eq_none (by omega)] at this
 simp only [decide_eq_true_eq] at this
 exact List.eq_nil_of_length_eq_zero this
section
variable {lo:Nat}{ro:Bool}{h:Heap}{F F':List Nat}{a a':Option (Nat×Nat)}{c c':Option Nat}
end
end Go.Proofs.YthdfojchihooeaaGreat
namespace Go.Proofs.YthdfojchihooeaaGreat
open Go T


theorem lessV_trans {u v w:Ver} (h1:lessV u v=true) (h2:lessV v w=true):lessV u w=true:=by
 rw [lessV_iff] at *;omega
def upS (t s:List Ver):Prop:=∀ (i:Nat) (x y:Ver),t[i]?=some x→s[i]?=some y→x=y∨lessV x y=true
theorem upS.refl {t:List Ver}:upS t t:=fun i x y hx hy => .inl (by rw [hx] at hy;injection hy)
theorem upS.trans {r s t:List Ver} (h1:upS r s) (h2:upS s t) (hl:t.length≤s.length):upS r t:=fun i x z hx hz=>by
 have hi:=(List.getElem?_eq_some_iff.1 hz).1
 have hy:=List.getElem?_eq_getElem (l:=s) (i:=i) (by omega)
 rcases h1 i x _ hx hy with rfl | h3
 ·exact h2 i _ z hy hz
 ·rcases h2 i _ z hy hz with h4 | h4
  ·exact .inr (h4 ▸ h3)
  ·exact .inr (lessV_trans h3 h4)
theorem upS.set {t:List Ver}{k:Nat}{u v:Ver} (hu:t[k]?=some u) (hl:lessV u v=true):upS t (t.set k v):=fun i x y hx hy=>by
 rw [List.getElem?_set] at hy
 by_cases hi:k=i
 ·subst hi
  rw [if_pos rfl,if_pos (List.getElem?_eq_some_iff.1 hu).1] at hy
  injection hy with hy
  rw [hu] at hx;injection hx with hx
  exact .inr (by rw [← hx,← hy];exact hl)
 ·rw [if_neg hi,hx] at hy;injection hy with hy;exact .inl hy
theorem fitsL_cons {v:Ver}{r t s:List Ver}:fitsL t (v :: r)=some s↔∃ x,t[v.key.toNat]?=some x∧lessV x v=true∧fitsL (t.set v.key.toNat v) r=some s:=by
 simp only [fitsL]
 cases hx:t[v.key.toNat]? with
 | none=>simp
 | some x=>cases hl:lessV x v<;>simp [hl]
theorem fitsL_snoc:∀ {ws t s:List Ver}{v x:Ver},fitsL t ws=some s→s[v.key.toNat]?=some x→lessV x v=true→fitsL t (ws ++ [v])=some (s.set v.key.toNat v)
 | [],t,s,v,x,h,hx,hl=>by
  simp only [fitsL,Option.some.injEq] at h;subst h
  exact fitsL_cons.2 ⟨x,hx,hl,rfl⟩
 | w :: r,t,s,v,x,h,hx,hl=>by
  obtain ⟨y,h1,h2,h3⟩:=fitsL_cons.1 h
  exact fitsL_cons.2 ⟨y,h1,h2,fitsL_snoc h3 hx hl⟩
theorem fitsL_up:∀ {ws t s:List Ver},fitsL t ws=some s→upS t s
 | [],t,s,h=>by simp only [fitsL,Option.some.injEq] at h;subst h;exact upS.refl
 | v :: r,t,s,h=>by
  obtain ⟨y,h1,h2,h3⟩:=fitsL_cons.1 h
  have h4:=fitsL_up h3
  refine fun i x z hx hz=>?_
  by_cases hi:v.key.toNat=i
  ·subst hi
   rw [h1] at hx;injection hx with hx;subst hx
   have hlt:=(List.getElem?_eq_some_iff.1 h1).1
   rcases h4 _ v z (by simp [hlt]) hz with rfl | h5
   ·exact .inr h2
   ·exact .inr (lessV_trans h2 h5)
  ·exact h4 i x z (by rw [List.getElem?_set_ne hi];exact hx) hz
theorem fitsL_of:∀ {ws t s:List Ver},s.length=t.length→ws.Pairwise (fun p u=>p.key≠u.key)→(∀ v∈ws,0≤v.key∧s[v.key.toNat]?=some v∧∃ x,t[v.key.toNat]?=some x∧lessV x v=true) →
  (∀ (i:Nat) (x y:Ver),t[i]?=some x→s[i]?=some y→x=y∨(y∈ws∧y.key.toNat=i))→fitsL t ws=some s
 | [],t,s,hl,_,_,h=>by
  simp only [fitsL,Option.some.injEq]
  apply List.ext_getElem?
  intro i
  by_cases hi:i<t.length
  ·have h1:=List.getElem?_eq_getElem hi
   have h2:=List.getElem?_eq_getElem (l:=s) (i:=i) (by omega)
   rcases h i _ _ h1 h2 with g | g
   ·rw [h1,h2,g]
   ·exact absurd g.1 (by simp)
  ·rw [List.getElem?_eq_none (by omega),List.getElem?_eq_none (by omega)]
 | v :: r,t,s,hl,hp,hw,h=>by
  rw [List.pairwise_cons] at hp
  obtain ⟨h0,h1,x,h2,h3⟩:=hw v (by simp)
  refine fitsL_cons.2 ⟨x,h2,h3,fitsL_of (by simpa using hl) hp.2 (fun u hu=>?_) (fun i a b ha hb=>?_)⟩
  ·obtain ⟨g0,g1,y,g2,g3⟩:=hw u (by simp [hu])
   have:=hp.1 u hu
   exact ⟨g0,g1,y,by rw [List.getElem?_set_ne (by omega)];exact g2,g3⟩
  ·by_cases hi:v.key.toNat=i
   ·subst hi
    have hlt:=(List.getElem?_eq_some_iff.1 h2).1
    rw [List.getElem?_set_self hlt] at ha
    injection ha with ha
    rw [h1] at hb;injection hb with hb
    exact .inl (ha.symm.trans hb)
   ·rw [List.getElem?_set_ne hi] at ha
    rcases h i a b ha hb with g | ⟨g1,g2⟩
    ·exact .inl g
    ·rcases List.mem_cons.1 g1 with rfl | g1
     ·exact absurd g2 hi
     ·exact .inr ⟨g1,g2⟩
theorem insF_perm {v:Ver}:∀ {l:List Ver},(insF v l).Perm (v :: l)
 | [] => .refl _
 | u :: r=>by
  simp only [insF]
  cases lessV u v with
  | false=>exact .refl _
  | true=>exact (List.Perm.cons u insF_perm).trans (List.Perm.swap v u r)
theorem sort_perm:∀ {l acc:List Ver},(l.foldl (fun acc v=>insF v acc) acc).Perm (l++acc)
 | [],acc => .refl _
 | v :: l,acc=>by
  rw [List.foldl_cons]
  exact ((sort_perm (l:=l)).trans (List.Perm.append_left l insF_perm)).trans List.perm_middle
theorem lackU_mem {s t:List Ver}{v:Ver}:v∈lackU s t↔∃ (i:Nat) (u:Ver),s[i]?=some v∧t[i]?=some u∧lessV u v=true:=by
 unfold lackU
 rw [List.mem_filterMap]
 constructor
 ·rintro ⟨⟨x,y⟩,hm,hx⟩
  obtain ⟨i,hi⟩:=List.mem_iff_getElem?.1 hm
  rw [List.getElem?_zip_eq_some] at hi
  unfold lackOpt at hx
  simp only at hx
  cases hl:lessV y x with
  | false=>rw [hl] at hx;cases hx
  | true =>
   rw [hl] at hx;injection hx with hx;subst hx
   exact ⟨i,y,hi.1,hi.2,hl⟩
 ·rintro ⟨i,u,h1,h2,h3⟩
  refine ⟨(v,u),List.mem_iff_getElem?.2 ⟨i,List.getElem?_zip_eq_some.2 ⟨h1,h2⟩⟩,?_⟩
  unfold lackOpt;simp only [h3,cond_true]
theorem store_at {s:List Ver} (hs:storeOk s=true) {i:Nat}{x:Ver} (hx:s[i]?=some x):verAt i x=true:=by
 obtain ⟨hi,rfl⟩:=List.getElem?_eq_some_iff.1 hx
 exact storeOk_get hs hi
theorem store_later {s t:List Ver} (hs:storeOk s=true) (ht:storeOk t=true) {i:Nat}{x u:Ver} (hx:s[i]?=some x) (hu:t[i]?=some u) (hl:lessV u x=true):verOk x=true∧x.key=(i:Int):=by
 rcases verAt_case (store_at hs hx) with g | g
 ·have:=tag_zero_less (at_tag (store_at ht hu)) (zero_time g)
  rw [hl] at this;cases this
 ·exact g
theorem lackL_perm {s t:List Ver}:(lackL s t).Perm (lackU s t):=by
 rw [← lackL_sort]
 have h:=sort_perm (l:=lackU s t) (acc := [])
 rw [List.append_nil] at h;exact h
theorem lackL_ok {s t:List Ver} (hs:storeOk s=true) (ht:storeOk t=true):∀ v∈lackL s t,verOk v=true:=fun v hv=>by
 obtain ⟨i,u,h1,h2,h3⟩:=lackU_mem.1 (lackL_perm.mem_iff.1 hv)
 exact (store_later hs ht h1 h2 h3).1
theorem lack_fits {s t:List Ver} (hs:storeOk s=true) (ht:storeOk t=true) (hu:upS t s):fitsL t (lackL s t)=some s:=by
 refine fitsL_of (by rw [storeOk_len hs,storeOk_len ht]) ?_ (fun v hv=>?_) (fun i x y hx hy=>?_)
 ·exact (lackL_perm.pairwise_iff fun h=>h.symm).2 ((lackU_keys hs ht).imp fun h=>by omega)
 ·obtain ⟨i,u,h1,h2,h3⟩:=lackU_mem.1 (lackL_perm.mem_iff.1 hv)
  have hk:=(store_later hs ht h1 h2 h3).2
  have e:v.key.toNat=i:=by omega
  rw [e];exact ⟨by omega,h1,u,h2,h3⟩
 ·rcases hu i x y hx hy with h | h
  ·exact .inl h
  ·exact .inr ⟨lackL_perm.mem_iff.2 (lackU_mem.2 ⟨i,x,hy,hx,h⟩),by have:=(store_later hs ht hy hx h).2;omega⟩
structure Ch (l:List Node):Prop where
 pos:1≤l.length
 le:l.length≤4
 node:∀ (i:Nat) (x:Node),l[i]?=some x→nodeOk x=true
 link:∀ (i:Nat) (x y:Node),l[i]?=some x→l[i+1]?=some y→fitsL y.store x.wait=some x.store
 last:∀ (i:Nat) (x:Node),l[i]?=some x→i+1=l.length→x.wait = []
theorem fits_iff {x:Node}{s:List Ver}:fits x s=true↔fitsL s x.wait=some x.store:=by
 unfold fits
 cases h:fitsL s x.wait with
 | none=>simp
 | some r=>simp [sameVers_iff]
theorem chain_iff {l:List Node}:chainOk l=true↔Ch l:=by
 unfold chainOk
 simp only [Bool.and_eq_true]
 rw [all_zipIdx (p:=linkAt l),all_get (p:=nodeOk)]
 constructor
 ·rintro ⟨⟨h1,h2⟩,h3⟩
  simp only [within,Bool.and_eq_true,decide_eq_true_eq] at h1
  refine ⟨by omega,by omega,fun i x hx=>?_,fun i x y hx hy=>?_,fun i x hx hi=>?_⟩
  ·obtain ⟨hi,rfl⟩:=List.getElem?_eq_some_iff.1 hx
   exact h2 i hi
  ·obtain ⟨hi,rfl⟩:=List.getElem?_eq_some_iff.1 hx
   have:=h3 i hi
   unfold linkAt at this
   rw [hy] at this
   exact fits_iff.1 this
  ·obtain ⟨hj,rfl⟩:=List.getElem?_eq_some_iff.1 hx
   have:=h3 i hj
   unfold linkAt at this
   rw [List.getElem?_eq_none (by omega)] at this
   exact List.eq_nil_of_length_eq_zero (by simpa using this)
 ·rintro ⟨h1,h2,h3,h4,h5⟩
  refine ⟨⟨by simp [within];omega,fun i hi=>h3 i _ (List.getElem?_eq_getElem hi)⟩,fun i hi=>?_⟩
  unfold linkAt
  cases hy:l[i+1]? with
  | some y=>exact fits_iff.2 (h4 i _ y (List.getElem?_eq_getElem hi) hy)
  | none =>
   have:=List.getElem?_eq_none_iff.1 hy
   simp [h5 i _ (List.getElem?_eq_getElem hi) (by omega)]
section
variable {l:List Node}
theorem Ch.store (h:Ch l) {i:Nat}{x:Node} (hx:l[i]?=some x):storeOk x.store=true∧x.store.length=4:=by
 have:=(nodeOk_parts (h.node i x hx)).1
 exact ⟨this,storeOk_len this⟩
theorem Ch.up (h:Ch l):∀ (d i:Nat) (x y:Node),l[i]?=some x→l[i+d]?=some y→upS y.store x.store
 | 0,i,x,y,hx,hy=>by
  rw [Nat.add_zero,hx] at hy;injection hy with hy;subst hy;exact upS.refl
 | d+1,i,x,y,hx,hy=>by
  have hlt:=(List.getElem?_eq_some_iff.1 hy).1
  have hz:=List.getElem?_eq_getElem (l:=l) (i:=i+d) (by omega)
  have h1:=h.up d i x _ hx hz
  have h2:=fitsL_up (h.link (i+d) _ y hz hy)
  exact h2.trans h1 (by rw [(h.store hx).2,(h.store hz).2];exact Nat.le_refl _)
theorem Ch.join (h:Ch l) (hl:l.length<4):Ch (joinN l):=by
 have hp:=h.pos
 rw [joinN_get (by omega)]
 have hz:l[l.length - 1]?=some (l[l.length - 1]'(by omega)):=List.getElem?_eq_getElem (by omega)
 have hns:=(h.store hz).1
 have hn:nodeOk ⟨(l[l.length - 1]'(by omega)).store,[]⟩=true:=by unfold nodeOk;rw [hns];rfl
 have get:∀ i x,(l ++ [(⟨(l[l.length - 1]'(by omega)).store,[]⟩:Node)])[i]?=some x→(i<l.length∧l[i]?=some x)∨(i=l.length∧x=⟨(l[l.length - 1]'(by omega)).store,[]⟩):=fun i x hx=>by
  by_cases hi:i<l.length
  ·rw [List.getElem?_append_left hi] at hx;exact .inl ⟨hi,hx⟩
  ·rw [List.getElem?_append_right (by omega)] at hx
   have:=(List.getElem?_eq_some_iff.1 hx).1
   simp only [List.length_singleton] at this
   have e:i=l.length:=by omega
   subst e
   rw [Nat.sub_self] at hx
   injection hx with hx
   exact .inr ⟨rfl,hx.symm⟩
 refine ⟨by simp,by simp;omega,fun i x hx=>?_,fun i x y hx hy=>?_,fun i x hx hi=>?_⟩
 ·rcases get i x hx with ⟨_,g⟩ | ⟨_,rfl⟩
  ·exact h.node i x g
  ·exact hn
 ·rcases get (i+1) y hy with ⟨g1,g2⟩ | ⟨g1,rfl⟩
  ·rcases get i x hx with ⟨_,g⟩ | ⟨g,_⟩
   ·exact h.link i x y g g2
   ·omega
  ·rcases get i x hx with ⟨_,g⟩ | ⟨g,_⟩
   ·have e:i=l.length - 1:=by omega
    rw [h.last i x g g1]
    subst e
    rw [hz] at g;injection g with g;subst g
    rfl
   ·omega
 ·simp only [List.length_append,List.length_singleton] at hi
  rcases get i x hx with ⟨g,_⟩ | ⟨_,rfl⟩
  ·omega
  ·rfl
theorem fall_get {k:Nat} (hk:k<l.length) (i:Nat):(fallN l k)[i]?=if i+1=k then (l[i]?).map (fun x=>(⟨x.store,match l[k+1]? with | some y=>lackL x.store y.store | none => []⟩:Node)) else if i<k then l[i]? else l[i+1]?:=by
 have hel:=List.length_eraseIdx_of_lt hk
 unfold fallN
 by_cases h0:0<k
 ·rw [decide_eq_true h0,cond_true]
  have hk1:k - 1<(l.eraseIdx k).length:=by omega
  have e1:(l.eraseIdx k)[k - 1]=l[k - 1]:=by rw [List.getElem_eraseIdx,dif_pos (by omega)]
  have out:∀ w,i+1≠k→(waitAt (l.eraseIdx k) (k - 1) w)[i]?=if i+1=k then (l[i]?).map (fun x=>(⟨x.store,match l[k+1]? with | some y=>lackL x.store y.store | none => []⟩:Node)) else if i<k then l[i]? else l[i+1]?:=fun w hi=>by
   rw [waitAt_get hk1,List.getElem?_set_ne (by omega),List.getElem?_eraseIdx,if_neg hi]
  have at1:∀ w,i+1=k→(waitAt (l.eraseIdx k) (k - 1) w)[i]?=some ⟨l[k - 1].store,w⟩:=fun w hi=>by
   have e:k - 1=i:=by omega
   rw [waitAt_get hk1,e1,← e,List.getElem?_set_self hk1]
  have hl1:l[k - 1]?=some l[k - 1]:=List.getElem?_eq_getElem (by omega)
  by_cases hkl:k<(l.eraseIdx k).length
  ·rw [decide_eq_true hkl,cond_true]
   by_cases hi:i+1=k
   ·have e:i=k - 1:=by omega
    have hy:l[k+1]?=some (l[k+1]'(by omega)):=List.getElem?_eq_getElem (by omega)
    have e2:(l.eraseIdx k)[k]=l[k+1]'(by omega):=by rw [List.getElem_eraseIdx,dif_neg (by omega)]
    rw [at1 _ hi,if_pos hi,e,hl1,hy,storeAtN_get hk1,storeAtN_get hkl,e1,e2]
    rfl
   ·exact out _ hi
  ·rw [decide_eq_false hkl,cond_false]
   by_cases hi:i+1=k
   ·have e:i=k - 1:=by omega
    have hy:l[k+1]?=none:=List.getElem?_eq_none (by omega)
    rw [at1 _ hi,if_pos hi,e,hl1,hy]
    rfl
   ·exact out _ hi
 ·rw [decide_eq_false h0,cond_false,if_neg (by omega),List.getElem?_eraseIdx]
theorem Ch.fall (h:Ch l) {k:Nat} (hk:k<l.length) (h2:1<l.length):Ch (fallN l k):=by
 have hle:=h.le
 have hlen:=fallN_pos hk h2
 have hnw:∀ i x,l[i]?=some x→i+1=k→nodeOk ⟨x.store,match l[k+1]? with | some y=>lackL x.store y.store | none => []⟩=true:=fun i x hx hi=>by
  have hs:=h.store hx
  cases hy:l[k+1]? with
  | none=>unfold nodeOk;rw [hs.1];rfl
  | some y =>
   have ht:=h.store hy
   have h4:=lackL_len (s:=x.store) (t:=y.store) hs.2
   unfold nodeOk
   simp only
   rw [hs.1,decide_eq_true (by omega),Bool.true_and,Bool.true_and,List.all_eq_true]
   exact lackL_ok hs.1 ht.1
 refine ⟨by omega,by omega,fun i x hx=>?_,fun i x y hx hy=>?_,fun i x hx hi=>?_⟩
 ·rw [fall_get hk] at hx
  split at hx
  ·rename_i hi
   rw [Option.map_eq_some_iff] at hx
   obtain ⟨z,hz,rfl⟩:=hx
   exact hnw i z hz hi
  ·split at hx
   ·exact h.node i x hx
   ·exact h.node (i+1) x hx
 ·rw [fall_get hk] at hx hy
  by_cases hi:i+1=k
  ·rw [if_pos hi,Option.map_eq_some_iff] at hx
   obtain ⟨z,hz,rfl⟩:=hx
   rw [if_neg (by omega),if_neg (by omega)] at hy
   have e:i+1+1=k+1:=by omega
   rw [e] at hy
   simp only [hy]
   have hup:=h.up 2 i z y hz (by rw [show i+2=k+1 by omega];exact hy)
   exact lack_fits (h.store hz).1 (h.store hy).1 hup
  ·rw [if_neg hi] at hx
   by_cases hik:i<k
   ·rw [if_pos hik] at hx
    by_cases hi2:i+1+1=k
    ·rw [if_pos hi2,Option.map_eq_some_iff] at hy
     obtain ⟨z,hz,rfl⟩:=hy
     exact h.link i x z hx hz
    ·rw [if_neg hi2,if_pos (by omega)] at hy
     exact h.link i x y hx hy
   ·rw [if_neg hik] at hx
    rw [if_neg (by omega),if_neg (by omega)] at hy
    exact h.link (i+1) x y hx hy
 ·rw [hlen] at hi
  rw [fall_get hk] at hx
  split at hx
  ·rename_i hi2
   rw [Option.map_eq_some_iff] at hx
   obtain ⟨z,hz,rfl⟩:=hx
   rw [List.getElem?_eq_none (by omega)]
  ·split at hx
   ·omega
   ·exact h.last (i+1) x hx (by omega)
theorem Ch.key (h:Ch l) {i:Nat}{z:Node}{v:Ver} (hz:l[i]?=some z) (hv:verOk v=true):∃ u,z.store[v.key.toNat]?=some u:=by
 have:=(verOk_parts hv).1
 have h4:=(h.store hz).2
 exact ⟨_,List.getElem?_eq_getElem (by omega)⟩
theorem addN_set {j:Nat}{v u:Ver}{z:Node} (hz:l[j]?=some z) (hu:z.store[v.key.toNat]?=some u):addN l j v=bif lessV u v then l.set j ⟨z.store.set v.key.toNat v,bif decide (j+1<l.length) then z.wait ++ [v] else z.wait⟩ else l:=by
 unfold addN;rw [hz];simp only [hu]
theorem add_ch {j:Nat}{v u:Ver}{z:Node} (hp:1≤l.length) (hle:l.length≤4) (hno:∀ (i:Nat) (x:Node),l[i]?=some x→nodeOk x=true)
  (hli:∀ (i:Nat) (x y:Node),l[i]?=some x→l[i+1]?=some y→i+1≠j→fitsL y.store x.wait=some x.store) (hla:∀ (i:Nat) (x:Node),l[i]?=some x→i+1=l.length→x.wait = [])
  (hz:l[j]?=some z) (hv:verOk v=true) (hr:z.wait.length<6) (hu:z.store[v.key.toNat]?=some u) (hl:lessV u v=true)
  (hpr:∀ (i:Nat) (x:Node),l[i]?=some x→i+1=j→fitsL (z.store.set v.key.toNat v) x.wait=some x.store):Ch (addN l j v):=by
 have hj:=(List.getElem?_eq_some_iff.1 hz).1
 obtain ⟨n1,n2,n3⟩:=nodeOk_parts (hno j z hz)
 rw [addN_set hz hu,hl,cond_true]
 have hnz:nodeOk ⟨z.store.set v.key.toNat v,bif decide (j+1<l.length) then z.wait ++ [v] else z.wait⟩=true:=by
  unfold nodeOk
  simp only
  rw [storeOk_set n1 hv]
  cases decide (j+1<l.length) with
  | false =>
   rw [cond_false,decide_eq_true (by omega),Bool.true_and,Bool.true_and,List.all_eq_true]
   exact n3
  | true =>
   rw [cond_true,decide_eq_true (by simp;omega),Bool.true_and,Bool.true_and,List.all_eq_true]
   intro w hw
   rcases List.mem_append.1 hw with g | g
   ·exact n3 w g
   ·rw [List.mem_singleton] at g;subst g;exact hv
 refine ⟨by simpa using hp,by simpa using hle,fun i x hx=>?_,fun i x y hx hy=>?_,fun i x hx hi=>?_⟩
 ·by_cases hij:j=i
  ·subst hij
   rw [List.getElem?_set_self hj] at hx
   injection hx with hx;subst hx;exact hnz
  ·rw [List.getElem?_set_ne hij] at hx;exact hno i x hx
 ·by_cases hij:j=i
  ·subst hij
   rw [List.getElem?_set_self hj] at hx
   rw [List.getElem?_set_ne (by omega)] at hy
   have hlt:=(List.getElem?_eq_some_iff.1 hy).1
   injection hx with hx;subst hx
   simp only [decide_eq_true hlt,cond_true]
   exact fitsL_snoc (hli j z y hz hy (by omega)) hu hl
  ·rw [List.getElem?_set_ne hij] at hx
   by_cases hij2:j=i+1
   ·subst hij2
    rw [List.getElem?_set_self hj] at hy
    injection hy with hy;subst hy
    exact hpr i x hx rfl
   ·rw [List.getElem?_set_ne hij2] at hy
    exact hli i x y hx hy (fun e=>hij2 e.symm)
 ·rw [List.length_set] at hi
  by_cases hij:j=i
  ·subst hij
   rw [List.getElem?_set_self hj] at hx
   injection hx with hx;subst hx
   rw [decide_eq_false (by omega),cond_false]
   exact hla j z hz hi
  ·rw [List.getElem?_set_ne hij] at hx;exact hla i x hx hi
theorem Ch.add (h:Ch l) {v:Ver} (hv:verOk v=true) (hr:roomAt l 0=true):Ch (addN l 0 v):=by
 have hp:=h.pos
 have hz:l[0]?=some (l[0]'(by omega)):=List.getElem?_eq_getElem (by omega)
 rw [roomAt_get (by omega),decide_eq_true_eq] at hr
 obtain ⟨u,hu⟩:=h.key hz hv
 cases hl:lessV u v with
 | false=>rw [addN_set hz hu,hl,cond_false];exact h
 | true=>exact add_ch hp h.le h.node (fun i x y hx hy _=>h.link i x y hx hy) h.last hz hv hr hu hl (fun i x _ e=>by omega)
theorem pass_parts {k:Int} (hc:canPass l k=true):∃ (f:Nat) (x y:Node) (v:Ver) (r:List Ver),k=(f:Int)∧l[f]?=some x∧l[f+1]?=some y∧x.wait=v :: r∧y.wait.length<6:=by
 simp only [canPass,within,Bool.and_eq_true,decide_eq_true_eq] at hc
 obtain ⟨⟨h1,h2⟩,h3⟩:=hc
 have hf:k.toNat+1<l.length:=by omega
 rw [passes_get (by omega),Bool.and_eq_true,decide_eq_true_eq,roomAt_get hf,decide_eq_true_eq] at h3
 refine ⟨k.toNat,l[k.toNat],l[k.toNat+1],?_⟩
 cases hw:l[k.toNat].wait with
 | nil=>rw [hw] at h3;simp at h3
 | cons v r=>exact ⟨v,r,by omega,List.getElem?_eq_getElem (by omega),List.getElem?_eq_getElem hf,rfl,h3.2⟩
theorem passN_of {f:Nat}{x:Node}{v:Ver}{r:List Ver} (hx:l[f]?=some x) (hw:x.wait=v :: r):passN l f=addN (l.set f ⟨x.store,r⟩) (f+1) v:=by
 unfold passN dropW
 rw [hx]
 simp only [hw,List.getElem?_cons_zero,List.eraseIdx_cons_zero]
theorem Ch.pass (h:Ch l) {k:Int} (hc:canPass l k=true):Ch (passN l k.toNat):=by
 obtain ⟨f,x,y,v,r,rfl,hx,hy,hw,hr⟩:=pass_parts hc
 have hf:=(List.getElem?_eq_some_iff.1 hx).1
 have hf1:=(List.getElem?_eq_some_iff.1 hy).1
 obtain ⟨n1,n2,n3⟩:=nodeOk_parts (h.node f x hx)
 have hlk:=h.link f x y hx hy
 rw [hw] at hlk n2 n3
 obtain ⟨u,hu,hl,hlk⟩:=fitsL_cons.1 hlk
 rw [Int.toNat_natCast,passN_of hx hw]
 have hv:=n3 v (by simp)
 have get:∀ (i:Nat) (z:Node),(l.set f ⟨x.store,r⟩)[i]?=some z→(i=f∧z=⟨x.store,r⟩)∨(i≠f∧l[i]?=some z):=fun i z hz=>by
  by_cases hi:f=i
  ·subst hi
   rw [List.getElem?_set_self hf] at hz
   injection hz with hz;exact .inl ⟨rfl,hz.symm⟩
  ·rw [List.getElem?_set_ne hi] at hz;exact .inr ⟨fun e=>hi e.symm,hz⟩
 refine add_ch (z:=y) (u:=u) (by simpa using h.pos) (by simpa using h.le) (fun i z hz=>?_) (fun i z w hz hw' hne=>?_) (fun i z hz hi=>?_) (by rw [List.getElem?_set_ne (by omega)];exact hy) hv hr hu hl (fun i z hz hi=>?_)
 ·rcases get i z hz with ⟨_,rfl⟩ | ⟨_,g⟩
  ·unfold nodeOk
   simp only
   simp only [List.length_cons] at n2
   rw [n1,decide_eq_true (by omega),Bool.true_and,Bool.true_and,List.all_eq_true]
   exact fun w hw=>n3 w (by simp [hw])
  ·exact h.node i z g
 ·rcases get i z hz with ⟨rfl,_⟩ | ⟨_,g⟩
  ·exact absurd rfl hne
  ·rcases get (i+1) w hw' with ⟨e,rfl⟩ | ⟨_,g2⟩
   ·rw [e] at hw'
    exact h.link i z x g (by rw [e];exact hx)
   ·exact h.link i z w g g2
 ·rw [List.length_set] at hi
  rcases get i z hz with ⟨rfl,_⟩ | ⟨_,g⟩
  ·omega
  ·exact h.last i z g hi
 ·rcases get i z hz with ⟨_,rfl⟩ | ⟨g,_⟩
  ·exact hlk
  ·omega
end
end Go.Proofs.YthdfojchihooeaaGreat
namespace Go.Proofs.YthdfojchihooeaaGreat
open Go T


theorem sameO_self {a:Option (List V)}:sameO a a=true:=by unfold sameO;exact (@decide_eq_true_iff _ (_)).2 rfl
section
variable {lo:Nat}{h:Heap}{F F' G:List Nat}{a a' av:Option (Nat×Nat)}{c c' cv:Option Nat}
end
end Go.Proofs.YthdfojchihooeaaGreat
namespace Go.Proofs.YthdfojchihooeaaGreat
open Go T


def inCh (l:List Node) (v:Ver):Prop:=∃ x∈l,v∈x.store∨v∈x.wait
section
variable {l:List Node}{v:Ver}
theorem inCh.get (h:inCh l v):∃ (i:Nat) (x:Node),l[i]?=some x∧(v∈x.store∨v∈x.wait):=by
 obtain ⟨x,hx,hv⟩:=h
 obtain ⟨i,hi⟩:=List.mem_iff_getElem?.1 hx
 exact ⟨i,x,hi,hv⟩
theorem inCh.of {i:Nat}{x:Node} (hx:l[i]?=some x) (hv:v∈x.store∨v∈x.wait):inCh l v:=⟨x,List.mem_of_getElem? hx,hv⟩
theorem Ch.ver (h:Ch l) (hv:inCh l v) (ht:0<v.tag.time):verOk v=true:=by
 obtain ⟨i,x,hx,g | g⟩:=hv.get
 ·obtain ⟨j,hj⟩:=List.mem_iff_getElem?.1 g
  rcases verAt_case (store_at (h.store hx).1 hj) with g2 | g2
  ·have:=(zero_time g2).1;omega
  ·exact g2.1
 ·exact (nodeOk_parts (h.node i x hx)).2.2 v g
theorem stable_of {i:Nat}{x:Node} (hx:l[i]?=some x) (hi:i+1=l.length):stable l=tagsOf x.store:=by
 rw [last_get (show 0<l.length by omega)]
 obtain ⟨hj,rfl⟩:=List.getElem?_eq_some_iff.1 hx
 have e:l.length - 1=i:=by omega
 simp only [e]
theorem lastOf_of {i:Nat}{x:Node} (hx:l[i]?=some x) (hi:i+1=l.length):lastOf l=x.store:=by
 rw [lastOf_get (show 0<l.length by omega)]
 obtain ⟨hj,rfl⟩:=List.getElem?_eq_some_iff.1 hx
 have e:l.length - 1=i:=by omega
 simp only [e]
theorem Ch.tail (h:Ch l):∃ z,l[l.length - 1]?=some z∧l.length - 1+1=l.length:=by
 have:=h.pos
 exact ⟨_,List.getElem?_eq_getElem (by omega),by omega⟩
theorem Ch.four (h:Ch l):(stable l).length=4∧(lastOf l).length=4:=by
 obtain ⟨z,hz,hi⟩:=h.tail
 rw [stable_of hz hi,lastOf_of hz hi]
 have:=(h.store hz).2
 exact ⟨by simpa [tagsOf] using this,this⟩
theorem join_last (h:Ch l):(joinN l).length=l.length+1∧stable (joinN l)=stable l∧lastOf (joinN l)=lastOf l∧(joinN l)[0]?=l[0]?:=by
 have hp:=h.pos
 obtain ⟨z,hz,hi⟩:=h.tail
 obtain ⟨hj,e⟩:=List.getElem?_eq_some_iff.1 hz
 have hn:(joinN l)[l.length]?=some ⟨z.store,[]⟩:=by
  rw [joinN_get (by omega),List.getElem?_append_right (Nat.le_refl _),Nat.sub_self,e];rfl
 have hl:(joinN l).length=l.length+1:=by rw [joinN_get (by omega)];simp
 refine ⟨hl,?_,?_,?_⟩
 ·rw [stable_of hn (by omega),stable_of hz hi]
 ·rw [lastOf_of hn (by omega),lastOf_of hz hi]
 ·rw [joinN_get (by omega),List.getElem?_append_left (by omega)]
end
theorem hasTag_mem {l:List Ver}{t:Tag}:hasTag l t=true↔∃ v∈l,v.tag=t:=by
 unfold hasTag
 rw [List.any_eq_true]
 constructor
 ·rintro ⟨v,hv,g⟩
  rw [Bool.and_eq_true,beq_iff_eq,beq_iff_eq] at g
  exact ⟨v,hv,by cases hv:v.tag;cases t;simp_all⟩
 ·rintro ⟨v,hv,rfl⟩
  exact ⟨v,hv,by simp⟩
section
variable {p:Place}
end
end Go.Proofs.YthdfojchihooeaaGreat
