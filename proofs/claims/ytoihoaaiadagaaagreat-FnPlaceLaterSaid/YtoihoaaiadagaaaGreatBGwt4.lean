/- Part 4 of what is shown for the law Gwt, whatever the input; no condition of its own. -/
import Derived.Test.YtoihoaaiadagaaaGreatBGwt3
set_option linter.unusedVariables false
set_option linter.unusedSimpArgs false
set_option linter.unnecessarySimpa false
set_option maxRecDepth 100000
namespace Go.Proofs.YtoihoaaiadagaaaGreat
open Go T


variable {l:List Node}{v:Ver}{T:Type}{K:V→Heap→Option T}
theorem zaB {α:Type}{p:Nat→α→Bool}{l:List α}{h0:Heap} (L:Nat→Heap→Ov) (res:Bool)
  (step:∀ i (hi:i<l.length) hh,Mv h0 [] hh []→∃ h2,Mv hh [] h2 []∧L i hh=if p i l[i]=true then L (i+1) h2 else some (.bool false,h2))
  (done:∀ hh,Mv h0 [] hh []→∃ h2,L l.length hh=some (.bool res,h2)):∃ h',L 0 h0=some (.bool ((l.zipIdx.all fun x=>p x.2 x.1)&&res),h'):=by
 have loop:∀ m i hh,m+i=l.length→Mv h0 [] hh []→∃ h',L i hh=some (.bool (((l.zipIdx.drop i).all fun x=>p x.2 x.1)&&res),h'):=by
  intro m;induction m with
  | zero =>
   intro i hh hi hm;have:i=l.length:=by omega
   subst this;obtain ⟨h2,e⟩:=done hh hm;exact ⟨h2,by rw[e,List.drop_of_length_le (by simp)];rfl⟩
  | succ m ih =>
   intro i hh hi hm;have hlt:i<l.length:=by omega
   obtain ⟨h2,m2,e⟩:=step i hlt hh hm;rw[e,zbC (show i<l.zipIdx.length by simpa using hlt),List.all_cons];simp only[List.getElem_zipIdx,zbH];cases hp:p i l[i] with
   | false=>exact ⟨h2,by rw[if_neg Bool.false_ne_true];rfl⟩
   | true =>obtain ⟨h',e'⟩:=ih (i+1) h2 (by omega) (hm.trans m2);exact ⟨h',by rw[if_pos rfl,e'];rfl⟩
 exact loop l.length 0 h0 (by omega) Mv.nil
theorem Pz {α:Type}{El:Rel α}{R e:Nat}{h:Heap}{a:Pq}{c:Nq}{l:List α}{F:List Nat} (hs:Sli false R e El h [.sl R a l.length c] l F) :
  ∃ rows Fs,(∀ {T:Type} (K:List (List V)→Option T),Av R h (.sl R a l.length c) K=K rows)∧EAll El h rows l Fs∧(∀ b∈Fs.flatten,b∈F)∧(F.Nodup→Fs.flatten.Nodup):=by
 obtain ⟨R',a',c',e1,e2⟩:=hs;injection e1 with e1 _;injection e1 with e0 e3 _ e4;subst e0;subst e3;subst e4;cases a with
 | none =>obtain ⟨rfl,_,_⟩:=e2;exact ⟨[],[],fun K=>rfl,trivial,by simp,by simp⟩
 | some q =>
  obtain ⟨b,i⟩:=q;obtain ⟨hR,rs,Fs,g1,g2,g3,g4,g5,rfl⟩:=e2;refine ⟨_,Fs,fun K=>?_,g5,fun b hb=>by simp only[zbn];exact .inr hb,fun hn=>(zbj.1 hn).2⟩;simp only[Av,JG,GF];cases hl:l.length with
  | zero=>simp
  | succ n=>simp only[Ey,Heap.rows?,g1,zbN,Ff (show i+(n+1)≤rs.length by omega),Ag]
def G8 (v:Ver):Bool:=v.tag.time==0&&v.tag.place==0
def IQ (st:List Tag) (clock:Int) (k:Nat) (v:Ver):Bool:=(G8 v || BH v.past st)&&(!decide (k=0) || decide (v.tag.time≤clock))
theorem Vy {u:Ver} (h:AZ v u=true):v.tag.time≤u.tag.time:=by simp[AZ,Gp] at h;omega
theorem P2:∀ {w s t:List Ver},Du s w=some t→s.length=t.length∧(∀ k (h1:k<s.length) (h2:k<t.length),s[k].tag.time≤t[k].tag.time)∧∀ v∈w,∃ h2:v.key.toNat<t.length,v.tag.time≤t[v.key.toNat].tag.time
 | [],s,t,h=>by injection h with h;subst h;exact ⟨rfl,fun k _ _=>zcN _,by simp⟩
 | v :: w,s,t,h=>by
  simp only[Du] at h;by_cases hk:v.key.toNat<s.length
  ·rw[Dc hk] at h;cases hl:AZ s[v.key.toNat] v with
   | false=>simp[hl] at h
   | true =>
    simp only[hl,cond_true] at h;obtain ⟨i1,i2,i3⟩:=P2 h;rw[zbz] at i1;have ht:=Vy hl;refine ⟨i1,fun k h1 h2=>?_,fun u hu=>?_⟩
    ·have:=i2 k (by simpa using h1) h2;rw[List.getElem_set] at this;split at this
     ·rename_i he;subst he;omega
     ·exact this
    ·rcases zbn.1 hu with rfl | hu
     ·have:=i2 u.key.toNat (by simpa using hk) (by omega);rw[zcy] at this;exact ⟨by omega,this⟩
     ·exact i3 u hu
  ·rw[zbI (by omega)] at h;cases h
theorem JV {x:Node} (h:BS x=true) (hv:v∈x.store):G8 v = !decide (v.tag.time>0):=by
 obtain ⟨i,hi,rfl⟩:=zbM.1 hv;rcases De (C6 (AD h).1 hi) with g | g
 ·have:=ED g;unfold G8;rw[this.1,this.2];rfl
 ·have:=Gz g.1;unfold G8;rw[decide_eq_true this,show (x.store[i].tag.time==0)=false by rw[beq_eq_false_iff_ne];omega];rfl
theorem UZ (h:A3 v=true):G8 v=false:=by have:=Gz h;unfold G8;rw[show (v.tag.time==0)=false by rw[beq_eq_false_iff_ne];omega];rfl
theorem V2 {clock:Int} (hc:Cj l=true):(l.zipIdx.all fun x=>(x.1.store++x.1.wait).all (IQ (AN l) clock x.2))=(D3 l&&DV l clock):=by
 obtain ⟨hl4,hno⟩:=Cf hc;rw[zcg,Dr];rw[EA (p:=fun i (x:Node)=>(x.store++x.wait).all (IQ (AN l) clock i))];unfold D3 DV;rw[Dc (show 0<l.length by omega),Ta];simp only[List.all_append,Dr,zbp];constructor
 ·intro hx;refine ⟨fun i hi=>?_,fun v hv=>?_⟩
  ·have hi':=hno _ (zbb hi);unfold Fa;simp only[Dr,zbp];refine ⟨fun v hv=>?_,fun v hv=>?_⟩
   ·have:=(hx i hi).1 v hv;simp only[IQ,Dr] at this;rw[← JV hi' hv];exact this.1
   ·have:=(hx i hi).2 v hv;simp only[IQ,Dr,UZ ((AD hi').2.2 v hv),zce] at this;exact this.1
  ·have:=(hx 0 (by omega)).1 v hv;simp only[IQ,Dr] at this;simpa using this.2
 ·rintro ⟨h1,h2⟩ i hi
  have hi':=hno _ (zbb hi);have h3:=h1 i hi;unfold Fa at h3;simp only[Dr,zbp] at h3;refine ⟨fun v hv=>?_,fun v hv=>?_⟩
  ·unfold IQ;rw[JV hi' hv,h3.1 v hv,zbA];by_cases h0:i=0
   ·subst h0;simpa using h2 v hv
   ·simp[h0]
  ·unfold IQ;rw[h3.2 v hv,Bool.or_true,zbA];by_cases h0:i=0
   ·subst h0;have hlk:=Mx hc hi;unfold EP at hlk;by_cases h10:0+1<l.length
    ·rw[Dc h10] at hlk;simp only[SM] at hlk;cases hf:Du l[0+1].store l[0].wait with
     | none=>simp[hf] at hlk
     | some t =>simp only[hf] at hlk;have e:=sameVers_iff.1 hlk;obtain ⟨_,_,g3⟩:=P2 hf;obtain ⟨g4,g5⟩:=g3 v hv;have:=h2 (l[0].store[v.key.toNat]'(by rw[← e];exact g4)) (zbb _);simp only[decide_eq_true_eq] at this;simp only[← e] at this;simp only[decide_true,zbX,zce,decide_eq_true_eq];omega
    ·rw[zbI (by omega)] at hlk;simp only[decide_eq_true_eq] at hlk;have:l[0].wait = []:=zbm hlk;rw[this] at hv;simp at hv
   ·simp[h0]
section
variable {lo:Nat}{h:Heap}{F F':List Nat}{a a':Pq}{c c':Nq}
theorem I3 {b i j:Nat} (hld:ld h b i j 1=some [.sl 2 a l.length c]) (hs:RNodes false h [.sl 2 a l.length c] l F) (h0:0<l.length) (hn:l.length≤1048576) :
  ∃ a' c' G,Ad lo 89 [.ptr (some (b,i,j))] h=some (.agg [.sl 6 a' (l[l.length - 1]'(by omega)).store.length c'],h)∧RVers false h [.sl 6 a' (l[l.length - 1]'(by omega)).store.length c'] (l[l.length - 1]'(by omega)).store G∧∀ y∈G,y∈F:=by
 obtain ⟨o,s1,s2,b1,d1,b2,d2,G1,G2,ha,ho,ho1,ho2,e1,e2,q1,q2,q3,_⟩:=hs.get (show l.length - 1<l.length by omega);refine ⟨b1,d1,G1,MO ?_,q1,q3⟩;simp only[zbW,hld,Ag,Aa,Ah,Af];rw[wr (by omega) (by omega),BI ⟨by omega,by omega⟩,show ((l.length:Int) - 1).toNat=l.length - 1 by omega];simp only[ha,Ag,ho1,Aa,e1,Af]
theorem Zb {e R bytes b i len:Nat}{rs xs:List (List V)} (hb:h[b]?=some (.rows R e false rs)) (hl:lo≤b) (hf:i+len+xs.length≤rs.length) (h0:0<bytes) (hsz:(len+xs.length)*bytes≤140737488355328) :
  Dd lo e R bytes (.sl R (some (b,i)) len none) xs h K=K (.sl R (some (b,i)) (len+xs.length) none) (h.set b (.rows R e false (rs.take (i+len)++xs++rs.drop (i+len+xs.length)))):=by
 cases xs with
 | nil =>simp only[Dd,zcp,zbW,zb6,zbQ];rw[set_same hb]
 | cons x xs =>
  have hbl:Nat.blt 0 bytes=true:=by simpa [zcF] using h0
  have hsz':decide ((len+(x :: xs).length)*bytes≤J8)=true:=decide_eq_true hsz;have hown:Heap.own? lo e h b=some rs:=by simp only[Heap.own?,hb,Ff hl,JG]
  have hst:GC lo h b (i+len) (x :: xs)=some (h.set b (.rows R e false (rs.take (i+len)++(x :: xs)++rs.drop (i+len+(x :: xs).length)))):=by simp only[GC,hb,Ff hl,Ff hf]
  simp only[Dd,hbl,hsz',GF,JG,hown,Ag,Ff hf,hst]
theorem Uo {l1 l2:List Ver}{a1 a2:Pq}{c1 c2:Nq}{F1 F2:List Nat} (hs1:RVers false h [.sl 6 a1 l1.length c1] l1 F1) (hs2:RVers false h [.sl 6 a2 l2.length c2] l2 F2) (hl1:l1.length=4) (hl2:l2.length≤6) (hlo:lo≤h.length) :
  ∃ a' F' h',Ad lo 91 [.sl 1 (some (h.length,0)) 2 (some 2)] (h ++ [.rows 1 41 false [[.sl 6 a1 l1.length c1],[.sl 6 a2 l2.length c2]]])=some (.sl 6 a' (l1++l2).length none,h') ∧
   RVers false h' [.sl 6 a' (l1++l2).length none] (l1++l2) F'∧Mv h [] h' []:=by
 have m0:Mv h [] (h ++ [.rows 1 41 false [[.sl 6 a1 l1.length c1],[.sl 6 a2 l2.length c2]]]) []:=Mv.snoc;have hbB:(h ++ [Blk.rows 1 41 false [[.sl 6 a1 l1.length c1],[.sl 6 a2 l2.length c2]]])[h.length]?=some (.rows 1 41 false [[.sl 6 a1 l1.length c1],[.sl 6 a2 l2.length c2]]):=by simp
 have hBl:h.length<(h ++ [Blk.rows 1 41 false [[.sl 6 a1 l1.length c1],[.sl 6 a2 l2.length c2]]]).length:=by simp
 generalize hB:h ++ [Blk.rows 1 41 false [[.sl 6 a1 l1.length c1],[.sl 6 a2 l2.length c2]]]=B at *
 have r1:=m0.keep0 rvers_ok hs1;have r2:=m0.keep0 rvers_ok hs2;obtain ⟨n,hn⟩:∃ n,l1.length+l2.length=n+1:=⟨l1.length+l2.length - 1,by omega⟩;have m1:Mv B [] (B ++ [.rows 6 34 false (List.replicate (n+1) [Iv 0,Iv 0,Iv 0,.sl 0 none 0 (some 0),.str ⟨⟨[]⟩⟩,.bool false])]) []:=Mv.snoc;have hC0:(B ++ [Blk.rows 6 34 false (List.replicate (n+1) [Iv 0,Iv 0,Iv 0,.sl 0 none 0 (some 0),.str ⟨⟨[]⟩⟩,.bool false])])[B.length]?=some (.rows 6 34 false (List.replicate (n+1) [Iv 0,Iv 0,Iv 0,.sl 0 none 0 (some 0),.str ⟨⟨[]⟩⟩,.bool false])):=by simp
 have DA:Ad lo 184 [.sl 0 none 0 (some 0),Iv ((n+1:Nat):Int)] B=some (.sl 6 (some (B.length,0)) 0 none,B ++ [.rows 6 34 false (List.replicate (n+1) [Iv 0,Iv 0,Iv 0,.sl 0 none 0 (some 0),.str ⟨⟨[]⟩⟩,.bool false])]):=by
  refine FF ?_;have e1:IntKind.i64.wrap (((0:Nat):Int) - ((0:Nat):Int))=0:=by decide
  have e2:IntKind.i64.wrap (((n+1:Nat):Int) - 0)=((n+1:Nat):Int):=by rw[wr (by omega) (by omega)];omega
  rw[Aj (by omega)];simp only[Ag,e1,e2];rw[Ak (by omega)];have e3:∀ {T:Type} (K:Pq→Nat→Nq→Option T),Ax none 0 (some 0) none (some (Iv 0)) none K=K none 0 (some 0):=by intro T K;unfold Ax FI IV JR;simp only[Ab];rw[DT ⟨by decide,by decide⟩];rfl
  rw[e3,FP ⟨by omega,by omega⟩,Be,List.replicate_succ];simp only[Dd,show Nat.blt 0 72=true from rfl,GF];rw[FP (by simp[J8];omega)];simp only[Ah];unfold Ax FI IV JR;simp only[Ab];rw[DT ⟨by omega,by omega⟩];simp[List.replicate_succ]
 have hBle:B.length<(B ++ [Blk.rows 6 34 false (List.replicate (n+1) [Iv 0,Iv 0,Iv 0,.sl 0 none 0 (some 0),.str ⟨⟨[]⟩⟩,.bool false])]).length:=by simp
 generalize hC:B ++ [Blk.rows 6 34 false (List.replicate (n+1) [Iv 0,Iv 0,Iv 0,.sl 0 none 0 (some 0),.str ⟨⟨[]⟩⟩,.bool false])]=C at *
 generalize hz : [Iv 0,Iv 0,Iv 0,.sl 0 none 0 (some 0),.str ⟨⟨[]⟩⟩,.bool false]=z at hC0;obtain ⟨rows1,Fs1,er1,ea1,sub1,_⟩:=Pz (m1.keep0 rvers_ok r1);have len1:=ea1.len.1;have bd1:=fun y hy=>rvers_ok.bd _ _ _ _ r1 y (sub1 y hy);have frD:∀ y,y≠B.length→(C.set B.length (.rows 6 34 false ((List.replicate (n+1) z).take (0+0)++rows1++(List.replicate (n+1) z).drop (0+0+rows1.length))))[y]?=C[y]?:=fun y hy=>zbh (Ne.symm hy);have hD0:(C.set B.length (.rows 6 34 false ((List.replicate (n+1) z).take (0+0)++rows1++(List.replicate (n+1) z).drop (0+0+rows1.length))))[B.length]?=some (.rows 6 34 false (rows1++List.replicate l2.length z)):=by rw[zbr hBle];simp only[zbW,List.take_zero,zbJ,zbH,List.drop_replicate];rw[show n+1 - rows1.length=l2.length by omega]
 have hDl:(C.set B.length (.rows 6 34 false ((List.replicate (n+1) z).take (0+0)++rows1++(List.replicate (n+1) z).drop (0+0+rows1.length)))).length=C.length:=by simp
 have e5:=fun {T:Type} (K:V→Heap→Option T)=>Zb (lo:=lo) (e:=34) (bytes:=72) (i:=0) (len:=0) (xs:=rows1) (K:=K) hC0 (by omega) (by simp;omega) (by decide) (by omega);generalize hD:C.set B.length (.rows 6 34 false ((List.replicate (n+1) z).take (0+0)++rows1++(List.replicate (n+1) z).drop (0+0+rows1.length)))=D at *
 have mD:Mv B [] D []:=⟨by omega,fun y hy _=>by rw[frD y (by omega)];exact m1.fr y hy (by simp),by simp,by simp⟩;obtain ⟨rows2,Fs2,er2,ea2,sub2,_⟩:=Pz (mD.keep0 rvers_ok r2);have len2:=ea2.len.1;have bd2:=fun y hy=>rvers_ok.bd _ _ _ _ r2 y (sub2 y hy);have e6:=fun {T:Type} (K:V→Heap→Option T)=>Zb (lo:=lo) (e:=34) (bytes:=72) (i:=0) (len:=4) (xs:=rows2) (K:=K) hD0 (by omega) (by simp;omega) (by decide) (by omega);have hDle:B.length<D.length:=by omega
 have hE0:(D.set B.length (.rows 6 34 false ((rows1++List.replicate l2.length z).take (0+4)++rows2++(rows1++List.replicate l2.length z).drop (0+4+rows2.length))))[B.length]?=some (.rows 6 34 false (rows1++rows2)):=by rw[zbr hDle];rw[zcJ (by omega),zb3 (by omega),List.drop_of_length_le (by simp;omega),zb6]
 have frE:∀ y,y≠B.length→(D.set B.length (.rows 6 34 false ((rows1++List.replicate l2.length z).take (0+4)++rows2++(rows1++List.replicate l2.length z).drop (0+4+rows2.length))))[y]?=D[y]?:=fun y hy=>zbh (Ne.symm hy);have hEl:(D.set B.length (.rows 6 34 false ((rows1++List.replicate l2.length z).take (0+4)++rows2++(rows1++List.replicate l2.length z).drop (0+4+rows2.length)))).length=D.length:=by simp
 generalize hE:D.set B.length (.rows 6 34 false ((rows1++List.replicate l2.length z).take (0+4)++rows2++(rows1++List.replicate l2.length z).drop (0+4+rows2.length)))=E at *
 have ldB:∀ {X:Heap} (k:Nat) {v:V},X[h.length]?=some (.rows 1 41 false [[.sl 6 a1 l1.length c1],[.sl 6 a2 l2.length c2]])→([[V.sl 6 a1 l1.length c1],[.sl 6 a2 l2.length c2]]:List (List V))[k]?=some [v]→ld X h.length k 0 1=some [v]:=fun k v hb hk=>by rw[Bx hb hk];rfl
 refine ⟨some (B.length,0),B.length ::(Fs1++Fs2).flatten,E,FG ?_,⟨6,some (B.length,0),none,by simp,rfl,rows1++rows2,Fs1++Fs2,hE0,by simp;omega,fun k hk=>(by cases hk),fun _=>rfl,?_,rfl⟩,⟨by omega,fun y hy _=>by rw[frE y (by omega),frD y (by omega),m1.fr y (by omega) (by simp)];exact m0.fr y hy (by simp),by simp,by simp⟩⟩
 ·have hBC:C[h.length]?=some (.rows 1 41 false [[.sl 6 a1 l1.length c1],[.sl 6 a2 l2.length c2]]):=by rw[m1.fr _ hBl (by simp)];exact hbB
  have hBD:D[h.length]?=some (.rows 1 41 false [[.sl 6 a1 l1.length c1],[.sl 6 a2 l2.length c2]]):=by rw[frD _ (by omega)];exact hBC
  have w1:IntKind.i64.wrap (0+(l1.length:Int))=(l1.length:Int):=by rw[wr (by omega) (by omega)];omega
  have w2:IntKind.i64.wrap ((l1.length:Int)+(l2.length:Int))=((n+1:Nat):Int):=by rw[wr (by omega) (by omega)];omega
  have w3:IntKind.i64.wrap (0+1)=1:=by decide
  have w4:IntKind.i64.wrap (1+1)=2:=by decide
  rw[AJ.e,Ak (by decide),BI ⟨by decide,by decide⟩];simp only[Ag,zbH,show Int.toNat 0=0 from rfl];rw[ldB 0 hbB rfl];simp only[Ag,Aa,Af,Ah,w1,w3];rw[Aj (by omega),AJ.e,Ak (by decide),BI ⟨by decide,by decide⟩];simp only[Ag,zbH,show Int.toNat 1=1 from rfl];rw[ldB 1 hbB rfl];simp only[Ag,Aa,Af,Ah,w2,w4];rw[Aj (by omega),AJ.e,Aj (by decide),DA];simp only[Ac,Ah];rw[AI.e,Ak (by decide),BI ⟨by decide,by decide⟩];simp only[Ag,zbH,show Int.toNat 0=0 from rfl];rw[ldB 0 hBC rfl];simp only[Ag,Aa,Af,Ah,w3];rw[er1,e5];simp only[Ah];rw[AI.e,Ak (by decide),BI ⟨by decide,by decide⟩];simp only[Ag,zbH,show Int.toNat 1=1 from rfl];rw[ldB 1 hBD rfl];simp only[Ag,Aa,Af,Ah,w4];rw[er2,show rows1.length=4 by omega,e6];simp only[Ah];rw[AI.e,Aj (by decide)];rw[show 4+rows2.length=(l1++l2).length by simp;omega]
 ·rw[zcc,zb3 (by simp;omega)];refine EAll.append (ea1.fr rver_ok.fr fun y hy=>?_) (ea2.fr rver_ok.fr fun y hy=>frE y ?_)
  ·have:=bd1 y hy;rw[frE y (by omega),frD y (by omega)]
  ·have:=bd2 y hy;omega
end


section
variable {lo:Nat}{h:Heap}{F F':List Nat}{a a':Pq}{c c':Nq}
theorem DU {p:Place}{a1 a2 a3:Pq}{c1 c2 c3:Nq}{F1 F2 F3:List Nat} (hs1:RNodes false h [.sl 2 a1 p.chain.length c1] p.chain F1) (hs2:RVers false h [.sl 6 a2 p.log.length c2] p.log F2)
  (hs3:RVss false h [.sl 1 a3 p.got.length c3] p.got F3) (hn:BT p):Ad lo 25 [.agg (p.cs a1 c1 a2 c2 a3 c3)] h=some (.bool (An p),h):=by
 suffices hk:∃ h',_=some (V.bool (An p),h') from hk.elim fun h' hk=>QE hk;have m0:Mv h [] (h ++ [.rows 6 49 false [p.cs a1 c1 a2 c2 a3 c3]]) []:=Mv.snoc;have hB0:(h ++ [Blk.rows 6 49 false [p.cs a1 c1 a2 c2 a3 c3]])[h.length]?=some (.rows 6 49 false [p.cs a1 c1 a2 c2 a3 c3]):=by simp
 have hBl:h.length<(h ++ [Blk.rows 6 49 false [p.cs a1 c1 a2 c2 a3 c3]]).length:=by simp
 generalize hB:h ++ [Blk.rows 6 49 false [p.cs a1 c1 a2 c2 a3 c3]]=B at *
 have r1:=m0.keep0 rnodes_ok hs1;have r2:=m0.keep0 rvers_ok hs2;have r3:=m0.keep0 rvss_ok hs3;have ld1:∀ {X:Heap} (j:Nat) {v:V},X[h.length]?=some (.rows 6 49 false [p.cs a1 c1 a2 c2 a3 c3])→(p.cs a1 c1 a2 c2 a3 c3)[j]?=some v→ld X h.length 0 j 1=some [v]:=fun j v hb hv=>by rw[Bx hb rfl];exact O1 hv
 rw[ld1 0 hB0 rfl];simp only[Ag,Aa,Af,Ab];rw[Jw];simp only[Ac,As];unfold An;cases Am p.me 0 2 with
 | false=>exact ⟨_,rfl⟩
 | true =>
 rw[Al,ld1 1 hB0 rfl];simp only[Ag,Aa,Af,Ab];rw[FC];simp only[Ac,As];cases Am p.clock 0 999 with
 | false=>exact ⟨_,rfl⟩
 | true =>
 rw[Al,ld1 2 hB0 rfl];simp only[Ag,Aa,Af,Ah];rw[Mn r1 hn.1];simp only[Ac,As];cases hc:Cj p.chain with
 | false=>exact ⟨_,by rw[zco];rfl⟩
 | true =>
 rw[Al,ld1 3 hB0 rfl];simp only[Ag,Aa,Af,Ah];rw[ld1 0 hB0 rfl];simp only[Ag,Aa,Af,Ab];rw[PT r2 hn.2.1];simp only[Ac,As];cases D1 p.me p.log with
 | false=>exact ⟨_,by rw[zco];rfl⟩
 | true =>
 rw[Al,ld1 4 hB0 rfl];simp only[Ag,Aa,Af,Ah];by_cases hg:¬ p.got.length=3
 ·rw[show ((p.got.length:Int)==3)=false by rw[beq_eq_false_iff_ne];omega,decide_eq_false hg];exact ⟨_,by rw[zco];rfl⟩
 have hg:p.got.length=3:=by omega
 rw[show ((p.got.length:Int)==3)=true by rw[beq_iff_eq];omega,decide_eq_true hg,Al];obtain ⟨hl4,hno⟩:=Cf hc;obtain ⟨at',ct,Gt,et,rt,_⟩:=I3 (lo:=h.length) (ld1 2 hB0 rfl) r1 (by omega) (by omega);rw[et];simp only[Ac,Ap,Aa,Ah,Af];have hsl:=AX (AD (hno _ (zbb (show p.chain.length - 1<p.chain.length by omega)))).1;obtain ⟨vg,hg1,Gg,eg,rg,mg⟩:=KA (lo:=h.length) rt m0.le hsl;obtain ⟨ag,cg,esg,rg⟩:=rg.form;rw[← Hk (by omega)] at rg esg;have hst:=Jk hc;rw[eg];simp only[Ac,Ap,Aa,esg,Af];have hG0:hg1[h.length]?=some (.rows 6 49 false [p.cs a1 c1 a2 c2 a3 c3]):=by rw[mg.fr _ hBl (by simp)];exact hB0
 rw[ld1 2 hG0 rfl];simp only[Ag,Aa,Af,Ah];have r1':=mg.keep0 rnodes_ok r1;have r3':=mg.keep0 rvss_ok r3;have key:=zaB (p:=fun i (x:Node)=>(x.store++x.wait).all (IQ (AN p.chain) p.clock i)) (l:=p.chain) (h0:=hg1) (fun i hh=>BZ (List.length h) (List.length h) 0 0 false a1 p.chain.length c1 (p.chain.length:Nat) (i:Nat) ag (AN p.chain).length cg hh)
  (p.got.zipIdx.all fun x=>IC p.me x.2 x.1) (fun i hi hh hm=>by
   have hni:=hno _ (zbb hi);obtain ⟨g1,g2,g3⟩:=AD hni;obtain ⟨o,s1,s2,b1,d1,b2,d2,G1,G2,ha,ho,_,_,e1,e2,q1,q2,_⟩:=(hm.keep0 rnodes_ok r1').get hi;obtain ⟨a5,F5,h5,e5,r5,m5⟩:=Uo (lo:=h.length) q1 q2 (AX g1) g2 (zba (zb0 hBl) (zba mg.le hm.le));have hmh:Mv hg1 [] h5 []:=hm.trans m5;have hH0:h5[h.length]?=some (.rows 6 49 false [p.cs a1 c1 a2 c2 a3 c3]):=by rw[hmh.fr _ (zbk hBl mg.le) (by simp)];exact hG0
   have rgs:=hmh.keep0 rtags_ok rg;refine ⟨h5,m5,?_⟩;rw[BZ.e,Ak (by omega),Ae hi];simp only[ha,Ag,Be,ho,Aa,e1,e2,Af];rw[e5];simp only[Ac,Ah];rw[← ha];have hlen:(p.chain[i].store++p.chain[i].wait).length≤10:=by rw[zbo,AX g1];omega
   refine (CA (p:=IQ (AN p.chain) p.clock i) (l:=p.chain[i].store++p.chain[i].wait) (fun k=>Br (List.length h) (List.length h) 0 0 false (i:Nat) a1 p.chain.length c1 (p.chain.length:Nat) (i:Nat) a5 (p.chain[i].store++p.chain[i].wait).length none ((p.chain[i].store++p.chain[i].wait).length:Nat) (k:Nat) ag (AN p.chain).length cg h5) (some (.bool false,h5)) (BZ (List.length h) (List.length h) 0 0 false a1 p.chain.length c1 (p.chain.length:Nat) ((i+1:Nat):Int) ag (AN p.chain).length cg h5) (fun k hk=>?_) ?_).trans ?_
   ·obtain ⟨o',s,b,d,G,ha',ho',es,hp,_⟩:=r5.get hk;rw[Br.e,Ak (by omega),Ae hk];simp only[ha',Ag,Be,ho',Aa,Ab,es,Bh,At,Af,zb8,Ar (show k<9223372036854775807 by omega),zbH];rw[ld1 1 hH0 rfl];simp only[Ag,Aa,Af,Ab];have hk0:((i:Int)==0)=decide (i=0):=by rw[zcg,beq_iff_eq,decide_eq_true_eq];omega
    rw[hk0];have elem:IQ (AN p.chain) p.clock i (p.chain[i].store++p.chain[i].wait)[k]=((G8 (p.chain[i].store++p.chain[i].wait)[k] || BH (p.chain[i].store++p.chain[i].wait)[k].past (AN p.chain))&&(!decide (i=0) || decide ((p.chain[i].store++p.chain[i].wait)[k].tag.time≤p.clock))):=rfl;have past4:G8 (p.chain[i].store++p.chain[i].wait)[k]=false→(p.chain[i].store++p.chain[i].wait)[k].past.length=4:=by
     intro hz;have hmem:(p.chain[i].store++p.chain[i].wait)[k]∈p.chain[i].store++p.chain[i].wait:=zbb hk;rw[zbc] at hmem;rcases hmem with hmem | hmem
     ·obtain ⟨j,hj,ej⟩:=zbM.1 hmem;rw[← ej] at hz ⊢;exact Pe hni hj (by have:=JV hni (zbb hj);rw[hz] at this;simpa using this)
     ·obtain ⟨j,hj,ej⟩:=zbM.1 hmem;rw[← ej];exact RA hni hj
    rw[elem];generalize (p.chain[i].store++p.chain[i].wait)[k]=u at *
    have htm:∀ {T:Type} (x y:Option T),br (decide (u.tag.time>p.clock)) x y=br (!decide (u.tag.time≤p.clock)) x y:=by
     intro T x y;by_cases ht:u.tag.time≤p.clock
     ·rw[Aj (by omega),decide_eq_true ht];rfl
     ·rw[Ak (by omega),decide_eq_false ht];rfl
    simp only[htm];show br (G8 u) _ _=_;cases hz:G8 u with
    | true =>cases decide (i=0)<;>cases decide (u.tag.time≤p.clock)<;>simp only[Al,Au,zbX,zci,zbA,zcn,zb8,zco,Bool.true_or,zce,Bool.or_true,Bool.or_false,cond_true,cond_false,if_true,if_false,zch]
    | false =>have hu4:=past4 hz;rw[Au,Jv hp rgs (by omega) (by omega)];simp only[Ac,As];rw[ld1 1 hH0 rfl];simp only[Ag,Aa,Af,Ab,htm];cases BH u.past (AN p.chain)<;>cases decide (i=0)<;>cases decide (u.tag.time≤p.clock)<;>simp only[Al,Au,zbX,zci,zbA,zcn,zb8,zco,Bool.true_or,zce,Bool.or_true,Bool.or_false,cond_true,cond_false,if_true,if_false,zch]
   ·rw[Br.e,Aj (by omega),Ar (by omega)]
   ·rfl) (fun hh hm=>by
   have hH0:hh[h.length]?=some (.rows 6 49 false [p.cs a1 c1 a2 c2 a3 c3]):=by rw[hm.fr _ (zbk hBl mg.le) (by simp)];exact hG0
   have r3s:=hm.keep0 rvss_ok r3';refine ⟨hh,?_⟩;rw[BZ.e,Aj (by omega)];simp only[zbH];rw[ld1 4 hH0 rfl];simp only[Ag,Aa,Af,Ah];refine (IJ (p:=IC p.me) (l:=p.got) (fun i=>BY (List.length h) (List.length h) 0 0 false a3 p.got.length c3 (p.got.length:Nat) (i:Nat) hh) (some (.bool false,hh)) (some (.bool true,hh)) (fun i hi=>?_) ?_).trans Wv
   ·obtain ⟨o,s,b,d,G,ha,ho,es,hp,_⟩:=r3s.get hi;rw[BY.e,Ak (by omega),Ae hi];simp only[ha,Ag,Be,ho,Aa,es,Af,zbW];rw[PT hp (hn.2.2.2 _ (zbb hi)),];simp only[Ac,As];rw[ld1 0 hH0 rfl];simp only[Ag,Aa,Af,Ab,Ar (show i<9223372036854775807 by omega)];unfold IC;by_cases h0:p.got[i].length=0
    ·rw[Aj (by omega),decide_eq_true h0];cases D1 i p.got[i]<;>cases ((i:Int)==p.me)<;>rfl
    ·rw[Ak (by omega),decide_eq_false h0];cases D1 i p.got[i]<;>cases ((i:Int)==p.me)<;>rfl
   ·rw[BY.e,Aj (by omega)])
 rw[V2 hc] at key;obtain ⟨h',e⟩:=key;refine ⟨h',e.trans ?_⟩;cases D3 p.chain<;>cases DV p.chain p.clock<;>cases (p.got.zipIdx.all fun x=>IC p.me x.2 x.1)<;>rfl
end


section
variable {h:Heap}
theorem zaf {α:Type}{El:Rel α}{bd:α→Prop}{n t e ee R:Nat}{xs:List V} (hu:Tryz.prog.underlying t=some (.slice e)) (hR:Tryz.prog.cellsOf e=R) (hel:∀ row,TV Tryz.prog h n e row→∃ x F,El h row x F∧bd x) (hx:TV Tryz.prog h (n+1) t xs) :
  ∃ l F,Sli true R ee El h xs l F∧l.length≤maxLen∧∀ x∈l,bd x:=by
 simp only[TV,hu] at hx;obtain ⟨a,c,rs,rfl,⟨h2,_⟩,h3,h4⟩:=hx;have all:∀ rs:List (List V),(∀ row∈rs,TV Tryz.prog h n e row)→∃ l Fs,EAll El h rs l Fs∧l.length=rs.length∧∀ x∈l,bd x:=by
  intro rs;induction rs with
  | nil=>intro _;exact ⟨[],[],trivial,rfl,by simp⟩
  | cons r rs ih =>
   intro hr;obtain ⟨l,Fs,g1,g2,g3⟩:=ih fun row hrow=>hr row (by simp[hrow]);obtain ⟨x,F,g4,g5⟩:=hel r (hr r (by simp));exact ⟨x :: l,F :: Fs,⟨g4,g1⟩,by simp[g2],fun y hy=>by
    rcases zbn.1 hy with rfl | hy
    ·exact g5
    ·exact g3 y hy⟩
 obtain ⟨l,Fs,g1,g2,g3⟩:=all rs fun row hr=>(h3 row hr).2
 rcases h4 with rfl | ⟨b,rfl,hb⟩
 ·have:l = []:=zbm (by simpa using g2);subst this;exact ⟨[],[],⟨R,a,c,by rw[hR];rfl,rfl,.inl ⟨rfl,rfl⟩⟩,zbE _,by simp⟩
 ·refine ⟨l,b :: Fs.flatten,⟨R,some (b,0),c,by rw[hR,g2],rfl,.inr ⟨b,0,rs,Fs,rfl,hb,by omega,?_,rfl⟩⟩,by omega,g3⟩;rw[zcc,zb3 (by omega)];exact g1
end


def A5 (ro:Bool):Rel Place:=fun h cs p F=>∃ a1 c1 a2 c2 a3 c3,cs=p.cs a1 c1 a2 c2 a3 c3∧RPlace ro h cs p F
theorem rplaceN_ok {ro:Bool}:(A5 ro).Ok :=
 ⟨fun h h' cs p F ⟨a1,c1,a2,c2,a3,c3,e,hp⟩ hb=>⟨a1,c1,a2,c2,a3,c3,e,rplace_ok.fr _ _ _ _ _ hp hb⟩,fun h cs p F ⟨_,_,_,_,_,_,_,hp⟩=>rplace_ok.bd _ _ _ _ hp⟩
theorem Wl:∀ {l:List Tag},Yp Zg l=2*l.length
 | []=>rfl
 | t :: l=>by
  have h1:=Wl (l:=l);have h2:Yp Zg (t :: l)=2+Yp Zg l:=by simp only[Yp,List.map_cons,List.sum_cons]
  rw[h2,h1,zbZ];omega
abbrev TB:Ver:=⟨0,⟨0,0⟩,[],⟨⟨[]⟩⟩,false⟩
abbrev Ji:Place:=⟨0,0,[],[],[],false⟩
section
variable {lo:Nat}{h:Heap}{F F':List Nat}{a a':Pq}{c c':Nq}
end


variable {l:List Node}
theorem Mv.swap {h h':Heap}{A B A' B':List Nat} (m:Mv h (A++B) h' (A'++B')):Mv h (B++A) h' (B'++A'):=by
 refine ⟨m.le,fun b hb hn=>m.fr b hb fun hm=>hn ?_,?_,fun b hb=>?_⟩
 ·rw[zbc] at hm ⊢;exact hm.symm
 ·have:=m.nd;rw[zbd] at this ⊢;exact ⟨this.2.1,this.1,fun x hx y hy e=>this.2.2 y hy x hx e.symm⟩
 ·rw[zbc] at hb;refine (m.sub b (by rw[zbc];exact hb.symm)).imp (fun h=>?_) id;rw[zbc] at h ⊢;exact h.symm
theorem EV {α:Type}{El:Rel α} (ok:El.Ok) {h0 h1:Heap}{lo R e n bytes:Nat}{a:Pq}{c:Nq}{l:List α}{F:List Nat}{row:List V}{x:α}{G:List Nat} (hs:Sli false R e El h0 [.sl R a n c] l F) (hx:El h1 row x G) (m:Mv h0 [] h1 G)
  (hnd:F.Nodup) (hlo:∀ b∈F,lo≤b) (hl:lo≤h0.length) (hb:0<bytes) (hsz:(l.length+1)*bytes≤140737488355328) :
  ∃ a' c' h2 F',(∀ {T:Type} (K:V→Heap→Option T),Dd lo e R bytes (.sl R a n c) [row] h1 K=K (.sl R a' (l.length+1) c') h2)∧Sli false R e El h2 [.sl R a' (l.length+1) c'] (l ++ [x]) F'∧Mv h0 F h2 F':=by
 have hbd:=(Sli.ok ok).bd _ _ _ _ hs;have hs1:=m.keep0 (Sli.ok ok) hs;have hGb:=m.lt (by simp);obtain ⟨a',c',h2,F',p1,p2,p3,p4,p5,p6⟩:=Sli.push (lo:=lo) (bytes:=bytes) ok.fr hs1 (xs := [row]) (ys := [x]) (Gs := [G]) ⟨hx,trivial⟩ hb hsz hlo (zba hl m.le)
  (by
   rw[zbd];refine ⟨hnd,by simpa using m.nd,fun y hy z hz=>?_⟩
   rintro rfl
   have g1:=hbd y hy;have g2:=m.new y (by simpa using hz);omega)
  (fun b hb'=>by
   have g1:=m.le;rw[zbc] at hb';rcases hb' with hb' | hb'
   ·have:=hbd b hb';omega
   ·exact hGb b (by simpa using hb')) (by simp)
 refine ⟨a',c',h2,F',p1,p2,zba m.le p3,fun b hb' hF=>?_,p6,fun b hb'=>?_⟩
 ·rw[p4 b (zbk hb' m.le) hF,m.fr b hb' (by simp)]
 ·have g1:=m.le;rcases p5 b hb' with g | g
  ·rw[zbc] at g;rcases g with g | g
   ·exact .inl g
   ·have g2:=m.new b (by simpa using g);have g3:=hGb b (by simpa using g);exact .inr (by omega)
  ·exact .inr (by omega)
def Ie (l:List Node):List Node:=match l.getLast? with
 | some x=>l ++ [⟨x.store,[]⟩]
 | none=>l
def FV (l:List Node):Bool:=decide ((l.length:Int)<4)
def Ks (l:List Node):List Node:=bif FV l then Ie l else l
theorem GH (h0:0<l.length):Ie l=l ++ [⟨(l[l.length - 1]'(by omega)).store,[]⟩]:=by unfold Ie;rw[zcm,Dc (by omega)]
def FX (raw:List V) (p:Place) (r:List V):Prop:=∃ s1 s2 s3 a1 c1 a2 c2 a3 c3,raw = [Iv p.me,Iv p.clock,s1,s2,s3,.bool p.fell] ∧
 (∀ {T:Type} (K:Pq→Nat→Nq→Option T),eS 2 s1 K=K a1 p.chain.length c1)∧(∀ {T:Type} (K:Pq→Nat→Nq→Option T),eS 6 s2 K=K a2 p.log.length c2) ∧
 (∀ {T:Type} (K:Pq→Nat→Nq→Option T),eS 1 s3 K=K a3 p.got.length c3)∧r=p.cs a1 c1 a2 c2 a3 c3
theorem Iw {hh:Heap}:∃ raw r,raw = [Iv 0,Iv 0,.sl 0 none 0 (some 0),.sl 0 none 0 (some 0),.sl 0 none 0 (some 0),.bool false]∧FX raw Ji r∧A5 false hh r Ji [] :=
 ⟨_,_,rfl,⟨_,_,_,none,some 0,none,some 0,none,some 0,rfl,fun K=>rfl,fun K=>rfl,fun K=>rfl,rfl⟩,⟨none,some 0,none,some 0,none,some 0,rfl,_,_,_,[],[],[],rfl,rfl,Sli.nil,Sli.nil,Sli.nil⟩⟩
theorem C7 {p:Place}{a1 a2 a3:Pq}{c1 c2 c3:Nq}:FX (p.cs a1 c1 a2 c2 a3 c3) p (p.cs a1 c1 a2 c2 a3 c3) :=
 ⟨_,_,_,a1,c1,a2,c2,a3,c3,rfl,fun K=>Ah _ _ _ _ _,fun K=>Ah _ _ _ _ _,fun K=>Ah _ _ _ _ _,rfl⟩
section
variable {lo:Nat}{h:Heap}{F F':List Nat}{a a':Pq}{c c':Nq}
theorem UK {l:List Ver}{n:Nat} (hs:RVers false h [.sl 6 a n c] l F):Ad lo 172 [.sl 6 a n c] h=some (.sl 6 a n (some n),h):=Gq (by rw[L3 hs])
theorem NY (hs:RNodes false h [.sl 2 a l.length c] l F) (h0:0<l.length) (hn:Cs l) (hnd:F.Nodup) (hlo:∀ b∈F,lo≤b) (hl:lo≤h.length) :
  ∃ a' c' h' F',Ad lo 249 [.agg [.sl 2 a l.length c]] h=some (.agg [.sl 2 a' (l.length+1) c'],h')∧RNodes false h' [.sl 2 a' (l.length+1) c'] (Ie l) F'∧Mv h F h' F':=by
 have hn1:=hn.1;obtain ⟨o,s1,s2,b1,d1,b2,d2,G1,G2,ha,ho,ho1,ho2,e1,e2,q1,q2,_⟩:=hs.get (show l.length - 1<l.length by omega);obtain ⟨v3,h3,F3,e3,r3,m3⟩:=GD (lo:=lo) q1 hl (hn.2 _ (zbb _)).1;obtain ⟨a4,c4,es4,r4⟩:=r3.form;obtain ⟨a5,c5,h5,F5,e5,r5,m5⟩:=EV (lo:=lo) (bytes:=48) (e:=45) rnode_ok hs (row := [.sl 6 a4 (l[l.length - 1]'(by omega)).store.length c4,.sl 0 none 0 (some 0)]) (x:=⟨(l[l.length - 1]'(by omega)).store,[]⟩) (G:=F3) (h1:=h3 ++ [.rows 2 45 false [[.sl 6 a4 (l[l.length - 1]'(by omega)).store.length c4,.sl 0 none 0 (some 0)]]])
  ⟨_,_,F3,[],rfl,by simp,Mv.snoc.keep0 rvers_ok r4,Sli.nil⟩ (m3.trans (Mv.snoc' m3.nd)) hnd hlo hl (by decide) (by omega)
 refine ⟨a5,c5,h5,F5,Rc ?_,by rw[GH h0];exact r5,m5⟩;rw[wr (by omega) (by omega),BI ⟨by omega,by omega⟩,show ((l.length:Int) - 1).toNat=l.length - 1 by omega];simp only[ha,Ag,ho1,Aa,e1,Af];rw[e3];simp only[Ac,Ap,Aa,es4,Af,A4];rw[← ha,e5];simp only[Ah]
end


variable {p:Place}
theorem HL:∀ {row:List V}{n:Nat},row.length=n→cut row 0 n=some row
 | [],0,_=>rfl
 | v :: r,n+1,h=>by have h1:=HL (row:=r) (n:=n) (by simpa using h);show (match cut r 0 n with | some l=>some (v :: l) | none=>none)=_;rw[h1]
theorem VV {a1 a2 a3 b1 b2 b3:Pq}{c1 c2 c3 d1 d2 d3:Nq} (h:p.cs a1 c1 a2 c2 a3 c3=p.cs b1 d1 b2 d2 b3 d3):a1=b1∧c1=d1∧a2=b2∧c2=d2∧a3=b3∧c3=d3:=by simp only[Place.cs,List.cons.injEq,V.sl.injEq,true_and,and_true] at h;obtain ⟨⟨h1,h2⟩,⟨h3,h4⟩,h5,h6⟩:=h;exact ⟨h1,h2,h3,h4,h5,h6⟩
def En (p p':Place):Place:=bif An p then p' else Ji
def Mf (p:Place):Place:=⟨p.me,p.clock,Ks p.chain,p.log,p.got,p.fell⟩
theorem EG (h:An p=true):0<p.chain.length:=by unfold An at h;simp only[Dr] at h;have:=(Cf h.1.1.1.1.2).1;omega
theorem Mv.swapNil {h h':Heap}{A B:List Nat} (m:Mv h [] h' (A++B)):Mv h [] h' (B++A):=Mv.swap (A := []) (B := []) m
theorem II {b:Bool}{h:Heap}:br b (some (V.bool true,h)) (some (V.bool false,h))=some (V.bool b,h):=by cases b<;>rfl
theorem OT:BT Ji:=⟨⟨zbE _,by simp⟩,⟨zbE _,by simp⟩,⟨zbE _,by simp⟩⟩
section
variable {lo:Nat}{h:Heap}{F F':List Nat}{a a':Pq}{c c':Nq}
theorem PU {p':Place}{cs l1:List V}{g:Nat}{ok:Bool} (hp:A5 false h cs p F) (hl:lo≤h.length) (hn:BT p)
  (hg:An p=true→∀ hh b row F1,h.length≤hh.length→Mv h [] hh []→A5 false hh row p F1→hh[b]?=some (.rows 6 49 false [row])→(b :: F1).Nodup→(∀ y∈b :: F1,h.length≤y) →
   ∃ hh' row' F1',Ad lo g (Di [.ptr (some (b,(0,0)))] l1) hh=some (.bool ok,hh')∧A5 false hh' row' p' F1'∧hh'[b]?=some (.rows 6 49 false [row'])∧Mv hh (b :: F1) hh' (b :: F1')) :
  ∃ raw r h' F',Ad lo 79 [.agg cs,.fn g l1] h=some (.tup [.agg raw,.bool (An p&&ok)],h')∧FX raw (En p p') r∧A5 false h' r (En p p') F'∧Mv h [] h' F':=by
 obtain ⟨a1,c1,a2,c2,a3,c3,rfl,hp⟩:=hp;obtain ⟨F1,F2,F3,_,h1,h2,h3⟩:=hp.cells;suffices hk:∃ raw r h' F',_=some (V.tup [.agg raw,.bool (An p&&ok)],h')∧FX raw (En p p') r∧A5 false h' r (En p p') F'∧Mv h [] h' F' from by obtain ⟨raw,r,h',F',e,hr⟩:=hk;exact ⟨raw,r,h',F',Jg e,hr⟩
 rw[DU h1 h2 h3 hn];simp only[Ac,As];unfold En;cases hpo:An p with
 | false =>rw[Au];obtain ⟨raw,r,rfl,n1,n2⟩:=Iw (hh:=h);exact ⟨_,r,h,[],rfl,n1,n2,Mv.nil⟩
 | true =>
 obtain ⟨b1,d1,b2,d2,b3,d3,h4,F4,e4,r4,m4⟩:=IB (lo:=lo) h1 h2 h3 hl hn;rw[Al,e4];simp only[Ac,Ap,Aa,Ab,Ah,At,Af];have m5:Mv h4 [] (h4 ++ [.rows 6 49 false [p.cs b1 d1 b2 d2 b3 d3]]) [h4.length]:=Mv.last;rw[Wc (row':=p.cs b1 d1 b2 d2 b3 d3) (zba hl m4.le) rfl (Db (by simp[Place.cs]))];simp only[Ag,zcP];have m45:=(m4.join m5 (rplace_ok.bd _ _ _ _ r4)).swapNil;obtain ⟨h6,row6,F6,e6,r6,b6,m6⟩:=hg hpo (h4 ++ [.rows 6 49 false [p.cs b1 d1 b2 d2 b3 d3]]) h4.length _ F4 m45.le m45.drop ⟨_,_,_,_,_,_,rfl,m5.keep0 rplace_ok r4⟩ (by simp) m45.nd (fun y hy=>m45.new y hy);obtain ⟨b4,d4,b5,d5,b7,d7,rfl,r6'⟩:=id r6;rw[e6];simp only[Ac,As];have e7:ld h6 h4.length 0 0 6=some (p'.cs b4 d4 b5 d5 b7 d7):=by rw[Bx b6 rfl];exact HL rfl
 have m7:Mv h [] h6 F6:=(m45.trans m6).lean (zbj.1 m6.nd).2 fun b hb=>by simp[hb]
 rw[e7];simp only[Ag,Aa,Ab,Ah,At,Af,cond_true];cases ok;all_goals
  first | rw[Al] | rw[Au]
  exact ⟨_,_,h6,F6,rfl,C7,r6,m7⟩
theorem Jl {a1 a2 a3:Pq}{c1 c2 c3:Nq}{F1 F2 F3:List Nat} (hs1:RNodes false h [.sl 2 a1 p.chain.length c1] p.chain F1) (hs2:RVers false h [.sl 6 a2 p.log.length c2] p.log F2)
  (hs3:RVss false h [.sl 1 a3 p.got.length c3] p.got F3) (hl:lo≤h.length) (hn:BT p) :
  ∃ raw a1' c1' a2' c2' a3' c3' h' F',Ad lo 84 [.agg (p.cs a1 c1 a2 c2 a3 c3)] h=some (.agg raw,h')∧FX raw p (p.cs a1' c1' a2' c2' a3' c3')∧RPlace false h' (p.cs a1' c1' a2' c2' a3' c3') p F'∧Mv h [] h' F':=by
 obtain ⟨vs,h',F',e,r,m⟩:=TO (lo:=lo) hs1 hs2 hs3 hl hn;obtain ⟨s1,s2,s3,G1,G2,G3,rfl,rfl,g1,g2,g3⟩:=r;obtain ⟨x1,y1,es1,g1⟩:=g1.form;obtain ⟨x2,y2,es2,g2⟩:=g2.form;obtain ⟨x3,y3,es3,g3⟩:=g3.form;exact ⟨_,x1,y1,x2,y2,x3,y3,h',_,e,⟨s1,s2,s3,x1,y1,x2,y2,x3,y3,rfl,fun K=>es1 K,fun K=>es2 K,fun K=>es3 K,rfl⟩,⟨_,_,_,G1,G2,G3,rfl,rfl,g1,g2,g3⟩,m⟩
end


def EH (l:List Node) (k:Nat) (v:Ver):List Node:=match l[k]? with
 | some x=>match x.store[v.key.toNat]? with
  | some u=>bif AZ u v then l.set k ⟨x.store.set v.key.toNat v,bif decide (k+1<l.length) then x.wait ++ [v] else x.wait⟩ else l
  | none=>l
 | none=>l
theorem US {l:List Node}{k:Nat}{v:Ver} (hk:k<l.length) (hv:v.key.toNat<l[k].store.length) :
  EH l k v=bif AZ l[k].store[v.key.toNat] v then l.set k ⟨l[k].store.set v.key.toNat v,bif decide (k+1<l.length) then l[k].wait ++ [v] else l[k].wait⟩ else l:=by
 unfold EH;rw[Dc hk];simp only;rw[Dc hv]
section
variable {lo:Nat}{h h3:Heap}{F F' G:List Nat}{a a' av:Pq}{c c' cv:Nq}{n k:Nat}{l:List Node}{v:Ver}
theorem RM (hs:RNodes false h [.sl 2 a n c] l F) (hk:k<l.length) (hnd:F.Nodup) (hlo:∀ b∈F,lo≤b) (hl:lo≤h.length) (hw:l[k].wait.length≤1048576) (hv:RTags false h3 [.sl 2 av v.past.length cv] v.past G) (m3:Mv h [] h3 G) :
  ∃ b i t2 a2 c2 a5 c5 h5,a=some (b,i)∧ld h b (i+k) 1 1=some [t2]∧(∀ {T:Type} (K:Pq→Nat→Nq→Option T),eS 6 t2 K=K a2 l[k].wait.length c2) ∧
   (∀ {T:Type} (K:V→Heap→Option T),Dd lo 34 6 72 (.sl 6 a2 l[k].wait.length c2) [v.cs av cv] (h3 ++ [.rows 6 34 false [v.cs av cv]]) K=K (.sl 6 a5 (l[k].wait.length+1) c5) h5) ∧
   (∃ F5,RVers false h5 [.sl 6 a5 (l[k].wait.length+1) c5] (l[k].wait ++ [v]) F5) ∧
   ∀ c6,(c6=c5∨c6=some (l[k].wait.length+1))→∃ h6 F6,st lo h5 b (i+k) 1 [.sl 6 a5 (l[k].wait.length+1) c6]=some h6∧RNodes false h6 [.sl 2 a n c] (l.set k ⟨l[k].store,l[k].wait ++ [v]⟩) F6∧Mv h F h6 F6:=by
 obtain ⟨b,i,rs,row,G0,ha,hbF,hbG,hb,hrow,hel,hGF,hGn,_,put⟩:=hs.at rnode_ok hk hnd hlo;obtain ⟨t1,t2,F1,F2,rfl,rfl,r1,r2⟩:=hel;obtain ⟨a2,c2,e2,r2'⟩:=r2.form;rw[zbd] at hGn;obtain ⟨a5,c5,h5,F5,e5,r5,m5⟩:=EV (lo:=lo) (bytes:=72) (e:=34) rver_ok r2' (row:=v.cs av cv) (x:=v) (G:=G) (h1:=h3 ++ [.rows 6 34 false [v.cs av cv]])
  ⟨_,rfl,Mv.snoc.keep0 rtags_ok hv⟩ (m3.trans (Mv.snoc' m3.nd)) hGn.2.1 (fun y hy=>hlo y (hGF y (by simp[hy]))) hl (by decide) (by omega)
 have b1:∀ y∈F1,y<h.length:=rvers_ok.bd _ _ _ _ r1;have m6:=(m5.aside (G:=F1) (by rw[zbd];exact ⟨hGn.2.1,hGn.1,fun x hx y hy e=>hGn.2.2 y hy x hx e.symm⟩) b1).swap;have r1':=m5.keep rvers_ok r1 fun y hy hm=>hGn.2.2 y hy y hm rfl;refine ⟨b,i,t2,a2,c2,a5,c5,h5,ha,by rw[Bx hb hrow];rfl,fun K=>e2 K,fun K=>e5 K,⟨F5,r5⟩,fun c6 hc=>?_⟩;have r5':RVers false h5 [.sl 6 a5 (l[k].wait.length+1) c6] (l[k].wait ++ [v]) F5:=by
  rcases hc with rfl | rfl
  ·exact r5
  ·exact r5.clip
 obtain ⟨h6,F6,e6,r6,m7,_⟩:=put h5 (F1++F5) 1 [.sl 6 a5 (l[k].wait.length+1) c6] [t1,.sl 6 a5 (l[k].wait.length+1) c6] ⟨l[k].store,l[k].wait ++ [v]⟩ m6 rfl ⟨_,_,F1,F5,rfl,rfl,r1',r5'⟩;exact ⟨h6,F6,e6,r6,m7⟩
theorem W7 (hs:RNodes false h [.sl 2 a n c] l F) (hk:k<l.length) (hnd:F.Nodup) (hlo:∀ b∈F,lo≤b) (hq:v.key.toNat<l[k].store.length) (hv:RTags false h3 [.sl 2 av v.past.length cv] v.past G) (m3:Mv h [] h3 G) :
  ∃ b i t1 o c1,a=some (b,i)∧ld h b (i+k) 0 1=some [t1]∧(∀ {T:Type} (K:Pq→Nat→Nq→Option T),eS 6 t1 K=K (some o) l[k].store.length c1)∧(∃ F1,RVers false h [.sl 6 (some o) l[k].store.length c1] l[k].store F1) ∧
   ∃ h4 F4,st lo h3 o.1 (o.2+v.key.toNat) 0 (v.cs av cv)=some h4∧RNodes false h4 [.sl 2 a n c] (l.set k ⟨l[k].store.set v.key.toNat v,l[k].wait⟩) F4∧Mv h F h4 F4:=by
 obtain ⟨b,i,rs,row,G0,ha,hbF,hbG,hb,hrow,hel,hGF,hGn,keep,_⟩:=hs.at rnode_ok hk hnd hlo;obtain ⟨t1,t2,F1,F2,rfl,rfl,r1,r2⟩:=hel;have hGn0:=hGn;rw[zbd] at hGn;obtain ⟨R',a1,c1,e1,g⟩:=id r1;injection e1 with e1 _;subst e1;cases a1 with
 | none =>have:=g.1;rw[this] at hq;exact absurd hq (Nat.not_lt_zero _)
 | some o =>
 obtain ⟨hR,_⟩:=g;subst hR;obtain ⟨b2,i2,rs2,row2,G2,e2,hb2,hbG2,hbb,hrow2,hel2,hGF2,hGn2,_,wr⟩:=r1.at rver_ok hq hGn.1 (fun y hy=>hlo y (hGF y (by simp[hy])));injection e2 with e2;subst e2;obtain ⟨h4,F4,e4,r4,m4,_⟩:=wr h3 G 0 (v.cs av cv) (v.cs av cv) v (m3.wide (by simp)) (Db (by obtain ⟨s,rfl,_⟩:=hel2;rfl)) ⟨_,rfl,hv⟩;have b2':∀ y∈F2,y<h.length:=rvers_ok.bd _ _ _ _ r2;have m5:=m4.aside (G:=F2) hGn0 b2';have r2':=m4.keep rvers_ok r2 fun y hy hm=>hGn.2.2 y hm y hy rfl;obtain ⟨F5,r5,m6⟩:=keep h4 ⟨l[k].store.set v.key.toNat v,l[k].wait⟩ (F4++F2) m5 ⟨_,_,F4,F2,rfl,rfl,r4,r2'⟩;exact ⟨b,i,_,(b2,i2),c1,ha,by rw[Bx hb hrow];rfl,fun K=>Ah _ _ _ _ _,⟨F1,r1⟩,h4,F5,e4,r5,m6⟩
theorem Lg (hs:RNodes false h [.sl 2 a l.length c] l F) (hv:RTags false h [.sl 2 av v.past.length cv] v.past G) (hd:∀ b∈G,b∉F) (hnd:F.Nodup) (hlo:∀ b∈F,lo≤b) (hl:lo≤h.length) (hk:k<l.length)
  (hkey:0≤v.key∧v.key<l[k].store.length) (hn:Cs l) (hvn:v.past.length≤1048576) :
  ∃ h' F',Ad lo 193 [.agg [.sl 2 a l.length c],Iv k,.agg (v.cs av cv)] h=some (.agg [.sl 2 a l.length c],h')∧RNodes false h' [.sl 2 a l.length c] (EH l k v) F'∧Mv h F h' F':=by
 have hn1:=hn.1;have hkl:v.key.toNat<l[k].store.length:=by omega
 have hsm:=hn.2 _ (zbb hk);suffices hq:∃ h' F',_=some (V.agg [.sl 2 a l.length c],h')∧RNodes false h' [.sl 2 a l.length c] (EH l k v) F'∧Mv h F h' F' from hq.imp fun h' hq=>hq.imp fun F' hq=>⟨Tk hq.1,hq.2⟩
 obtain ⟨b,i,rs,row,G0,ha,hbF,hbG,hb,hrow,hel,hGF,hGn,_,put⟩:=hs.at rnode_ok hk hnd hlo;obtain ⟨t1,t2,F1,F2,rfl,rfl,r1,r2⟩:=hel;obtain ⟨a1,c1,e1,r1'⟩:=r1.form;obtain ⟨o,s,_,_,_,ha1,_,_,_,_,_,_,ho12,_⟩:=RVers.all r1' hkl;have ld0:ld h b (i+k) 0 1=some [t1]:=by rw[Bx hb hrow];rfl
 rw[US hk hkl];rw[Ae hk];simp only[ha,Ag,Be,ld0,Aa,Af,e1];rw[BI ⟨by omega,by omega⟩];simp only[ha1,Ag,ho12,Aa,Ab,Af,Bz,Ac,As];show ∃ h' F',br (AZ l[k].store[v.key.toNat] v) _ _=_∧_;cases hle:AZ l[k].store[v.key.toNat] v with
 | false=>exact ⟨h,F,rfl,by rw[← ha];exact hs,Mv.refl hnd⟩
 | true =>
  have hGn0:=hGn;rw[zbd] at hGn;have hGlt:∀ b∈G,b<h.length:=rtags_ok.bd _ _ _ _ hv;obtain ⟨h2,F3,e2,r3,m2⟩:=Lh (lo:=lo) r1' hv hGn.1 (fun y hy=>hlo y (hGF y (by simp[hy]))) hl hkey hvn;have b2':∀ y∈F2,y<h.length:=rvers_ok.bd _ _ _ _ r2;have m3:=m2.aside (G:=F2) hGn0 b2';have r2':=m2.keep rvers_ok r2 fun y hy hm=>hGn.2.2 y hm y hy rfl;have hadd:Eb l[k].store v=l[k].store.set v.key.toNat v:=by rw[Ly hkl,hle,cond_true]
  have hlen:(Eb l[k].store v).length=l[k].store.length:=addVer_len;rw[← hlen] at r3;obtain ⟨h4,F4,e4,r4,m4,b4,fr4,l4⟩:=put h2 (F3++F2) 0 [.sl 6 a1 (Eb l[k].store v).length c1] [.sl 6 a1 (Eb l[k].store v).length c1,t2] ⟨Eb l[k].store v,l[k].wait⟩ m3 rfl ⟨_,_,F3,F2,rfl,rfl,r3,r2'⟩;rw[hlen] at e4;have hv4:RTags false h4 [.sl 2 av v.past.length cv] v.past G:=m4.keep rtags_ok hv hd;have hk4:k<(l.set k ⟨Eb l[k].store v,l[k].wait⟩).length:=by simpa using hk
  rw[Al,Ae hk];simp only[Ag,ld0,Aa,e1,Af];rw[e2];simp only[Ac,Ap,Aa,Ah,Af];rw[Ae hk,e4];simp only[Ag];rw[wr (by omega) (by omega),cond_true];by_cases hlast:k+1<l.length
  ·rw[Ak (by omega),Ae hk,decide_eq_true hlast,cond_true];obtain ⟨a6,c6,h6,F6,e6,r6,m6⟩:=Cy (lo:=h4.length) (v:=v) hv4 (zbf _) hvn;have hself:(l.set k ⟨Eb l[k].store v,l[k].wait⟩)[k]=⟨Eb l[k].store v,l[k].wait⟩:=zcy hk4;obtain ⟨b7,i7,u2,a7,c7,a8,c8,h8,ha7,ld7,e7,app7,_,st7⟩:=RM (lo:=lo) r4 hk4 m4.nd (fun y hy=>m4.ge hl hlo y hy) (zba hl m4.le) (by rw[hself];exact hsm.2.1) r6 m6;simp only[hself] at e7 app7 st7;obtain ⟨h9,F9,e9,r9,m9⟩:=st7 _ (.inl rfl);rw[ha] at ha7;injection ha7 with ha7;injection ha7 with hb7 hi7;subst hb7;subst hi7;simp only[ld7,Ag,Aa,Af,e7];rw[e6];simp only[Ac,Ap,Aa,Ab,Ah,Bh,At,Af,A4];rw[app7];simp only[Ah];rw[Ae hk,e9];rw[List.set_set,hadd] at r9;exact ⟨h9,F9,rfl,by rw[← ha];exact r9,m4.trans m9⟩
  ·rw[Aj (by omega),decide_eq_false hlast,cond_false];rw[hadd] at r4;exact ⟨h4,F4,rfl,by rw[← ha];exact r4,m4⟩
theorem VF {b i j R e:Nat}{rs:List (List V)}{row:List V} (hb:h[b]?=some (.rows R e false rs)) (hrow:rs[i]?=some row) (hcell:row[j]?=some (.sl 2 a l.length c)) (hs:RNodes false h [.sl 2 a l.length c] l F) (hbF:b∉F)
  (hv:RTags false h [.sl 2 av v.past.length cv] v.past G) (hd:∀ b∈G,b∉F) (hnd:F.Nodup) (hlo:∀ b∈F,lo≤b) (hl:lo≤h.length) (hk:k<l.length)
  (hkey:0≤v.key∧v.key<l[k].store.length) (hn:Cs l) (hvn:v.past.length≤1048576) :
  ∃ h' F',Ad lo 264 [.ptr (some (b,(i,j))),Iv k,.agg (v.cs av cv)] h=some (.tup [],h')∧RNodes false h' [.sl 2 a l.length c] (EH l k v) F'∧Mv h F h' F':=by
 have hn1:=hn.1;have hkl:v.key.toNat<l[k].store.length:=by omega
 have hsm:=hn.2 _ (zbb hk);have hblt:b<h.length:=(EY hb).1;have hld:ld h b i j 1=some [.sl 2 a l.length c]:=by rw[Bx hb hrow];exact O1 hcell
 suffices hq:∃ h' F',_=some (V.tup [],h')∧RNodes false h' [.sl 2 a l.length c] (EH l k v) F'∧Mv h F h' F' from hq.imp fun h' hq=>hq.imp fun F' hq=>⟨LN hq.1,hq.2⟩
 obtain ⟨a3,c3,h3,F3,e3,r3,m3⟩:=E7 (lo:=h.length) (v:=v) hv (zbf _) hvn;obtain ⟨b1,i1,t1,o,c1,ha,ld0,e1,⟨F1,r1⟩,h4,F4,e4,r4,m4⟩:=W7 (lo:=lo) hs hk hnd hlo hkl r3 m3;have hlat:=Ls (lo:=lo) (v:=v) (ca:=av) (cc:=cv) (n:=v.past.length) r1 (by omega);rw[US hk hkl];simp only[zbW,hld,Ag,Aa,Af,Ah];rw[Ae hk];simp only[ha,Ag,Be,ld0,Aa,Af,e1];rw[hlat];simp only[Ac,As];cases hle:AZ l[k].store[v.key.toNat] v with
 | false=>exact ⟨h,F,rfl,by rw[← ha];exact hs,Mv.refl hnd⟩
 | true =>
  have hb4:h4[b]?=some (.rows R e false rs):=by rw[m4.fr b hblt hbF];exact hb
  have hld4:ld h4 b i j 1=some [.sl 2 a l.length c]:=by rw[Bx hb4 hrow];exact O1 hcell
  have hv4:RTags false h4 [.sl 2 av v.past.length cv] v.past G:=m4.keep rtags_ok hv hd;have hk4:k<(l.set k ⟨l[k].store.set v.key.toNat v,l[k].wait⟩).length:=by simpa using hk
  rw[Al,e3];simp only[Ac,Ap,Aa,Ab,Ah,Bh,At,Af,Ag,ld0,e1];rw[BI ⟨by omega,by omega⟩,e4];simp only[Ag,hld4,Aa,Ah,Af];rw[R5 hn1];simp only[Ac,As,cond_true];by_cases hlast:k+1=l.length
  ·rw[decide_eq_true hlast,decide_eq_false (by omega),cond_false,Al];exact ⟨h4,F4,rfl,by rw[← ha];exact r4,m4⟩
  ·rw[decide_eq_false hlast,decide_eq_true (by omega),cond_true,Au];obtain ⟨a6,c6,h6,F6,e6,r6,m6⟩:=E7 (lo:=h4.length) (v:=v) hv4 (zbf _) hvn;have hself:(l.set k ⟨l[k].store.set v.key.toNat v,l[k].wait⟩)[k]=⟨l[k].store.set v.key.toNat v,l[k].wait⟩:=zcy hk4;obtain ⟨b7,i7,u2,a7,c7,a8,c8,h8,ha7,ld7,e7,app7,⟨F8,r8⟩,st7⟩:=RM (lo:=lo) r4 hk4 m4.nd (fun y hy=>m4.ge hl hlo y hy) (zba hl m4.le) (by rw[hself];exact hsm.2.1) r6 m6;simp only[hself] at e7 app7 st7 r8;obtain ⟨h9,F9,e9,r9,m9⟩:=st7 _ (.inr rfl);rw[ha] at ha7;injection ha7 with ha7;injection ha7 with hb7 hi7;subst hb7;subst hi7;simp only[ld7,Ag,Aa,Af,e7];rw[e6];simp only[Ac,Ap,Aa,Ab,Ah,Bh,At,Af,A4];rw[app7];simp only[Ah];rw[UK r8];simp only[Ac,Ah];rw[e9];rw[List.set_set] at r9;exact ⟨h9,F9,rfl,by rw[← ha];exact r9,m4.trans m9⟩
end


def noted (me:Int) (log:List Ver) (v:Ver):List Ver:=bif decide (v.tag.time>0)&&(v.tag.place==me && !B4 log v.tag) then log ++ [v] else log
def DS (l:List Node):List Ver:=match l.getLast? with
 | some x=>x.store
 | none => []
def Xw (l:List Node):Bool:=l.all fun x=>decide (x.wait.length=0)
def Bj (p:Place):Place:=⟨p.me,p.clock,p.chain,(DS p.chain).foldl (noted p.me) p.log,p.got,p.fell && !Xw p.chain⟩
theorem Ez {l:List Node} (h0:0<l.length):DS l=(l[l.length - 1]'(by omega)).store:=by unfold DS;rw[zcm,Dc (by omega)]
theorem Xj {me:Int}{log:List Ver}{v:Ver}:(noted me log v).length≤log.length+1:=by unfold noted;cases decide (v.tag.time>0)&&(v.tag.place==me && !B4 log v.tag)<;>simp
section
variable {lo:Nat}{h:Heap}{F F':List Nat}{a a':Pq}{c c':Nq}
theorem KX {l:List Ver}{t p:Int}{ro:Bool} (hs:RVers ro h [.sl 6 a l.length c] l F) (hn:l.length≤1048576) :
  Ad lo 182 [.sl 6 a l.length c,.agg [Iv t,Iv p]] h=some (.bool (B4 l ⟨t,p⟩),h):=by
 refine Oy (h':=h) ?_;have loop:∀ m i,m+i=l.length→B7 h.length a l.length c false (i:Nat) t p h=some (.bool ((l.drop i).any fun v=>v.tag.time==t&&v.tag.place==p),h):=by
  intro m;induction m with
  | zero =>intro i hi;rw[B7.e,Aj (by omega),zb2 (by omega)];rfl
  | succ m ih =>
   intro i hi;have hil:i<l.length:=by omega
   obtain ⟨o,s,_,_,_,ha,_,_,_,_,_,_,ho,_⟩:=RVers.all hs hil;rw[B7.e,Ak (by omega),Ae hil];simp only[ha,Ag,Be,ho,Aa,Ab,Af,zb8];rw[Ar (show i<9223372036854775807 by omega),← ha,ih (i+1) (by omega),zbC hil,List.any_cons];cases (l[i].tag.time==t&&l[i].tag.place==p)<;>rfl
 exact loop l.length 0 (by omega)
theorem NV {p:Place}{a1 a2 a3:Pq}{c1 c2 c3:Nq}{F1 F2:List Nat} (hs1:RNodes false h [.sl 2 a1 p.chain.length c1] p.chain F1) (hs2:RVers false h [.sl 6 a2 p.log.length c2] p.log F2)
  (h0:0<p.chain.length) (h4:(DS p.chain).length=4) (hd:∀ b∈F1,b∉F2) (hnd:F2.Nodup) (hlo:∀ b∈F2,lo≤b) (hl:lo≤h.length) (hcl:p.chain.length≤1048576) (hlog:p.log.length≤1000000) (hvn:∀ v∈DS p.chain,v.past.length≤1048576) :
  ∃ a2' c2' h' F2',Ad lo 104 [.agg (p.cs a1 c1 a2 c2 a3 c3)] h=some (.agg ((Bj p).cs a1 c1 a2' c2' a3 c3),h')∧RVers false h' [.sl 6 a2' (Bj p).log.length c2'] (Bj p).log F2'∧Mv h F2 h' F2':=by
 obtain ⟨o,s1,s2,b1,d1,b2,d2,G1,G2,ha,_,ho1,_,e1,_,q1,_,q3,_⟩:=hs1.get (show p.chain.length - 1<p.chain.length by omega);rw[Ez h0] at h4 hvn;have two:∀ (hh:Heap) (F':List Nat) (ax:Pq) (nx:Nat) (cx:Nq),Mv h F2 hh F'→∀ m i (b:Bool),m+i=p.chain.length →
   BB lo b (i:Nat) p.me p.clock a1 p.chain.length c1 ax nx cx a3 p.got.length c3 p.fell 0 0 0 none 0 (some 0) 0 none 0 (some 0) 0 none 0 (some 0) false hh=some (.agg [Iv p.me,Iv p.clock,.sl 2 a1 p.chain.length c1,.sl 6 ax nx cx,.sl 1 a3 p.got.length c3,.bool (p.fell && !(b&&(p.chain.drop i).all fun x=>decide (x.wait.length=0)))],hh):=by
  intro hh F' ax nx cx hm m;induction m with
  | zero =>intro i b hi;rw[BB.e,Aj (by omega),zb2 (by omega)];cases p.fell<;>cases b<;>rfl
  | succ m ih =>
   intro i b hi;have hil:i<p.chain.length:=by omega
   obtain ⟨o',_,_,_,_,_,_,_,_,ha',_,_,ho2',_,e2',_⟩:=(hm.keep rnodes_ok hs1 hd).get hil;rw[BB.e,Ak (by omega),Ar (show i<9223372036854775807 by omega)];cases b with
   | false=>rw[Au,ih (i+1) false (by omega)];rfl
   | true =>rw[Al,Ae hil];simp only[ha',Ag,Be,ho2',Aa,Af,e2'];rw[← ha',ih (i+1) true (by omega),ih (i+1) false (by omega),zbC hil,List.all_cons,show (((p.chain[i].wait.length:Nat):Int)==0)=decide (p.chain[i].wait.length=0) by rw[zcg,beq_iff_eq,decide_eq_true_eq];omega];cases decide (p.chain[i].wait.length=0)<;>rfl
 have one:∀ m i,m+i=4→∀ hh ax cx (lg:List Ver) Fx,RVers false hh [.sl 6 ax lg.length cx] lg Fx→Mv h F2 hh Fx→lg.length≤1000000+i→∃ a' c' h' F',
   BC lo (i:Nat) p.me p.clock a1 p.chain.length c1 ax lg.length cx a3 p.got.length c3 p.fell 0 0 0 none 0 (some 0) 0 none 0 (some 0) 0 none 0 (some 0) false b1 (p.chain[p.chain.length - 1]'(by omega)).store.length d1 hh =
    BB lo true 0 p.me p.clock a1 p.chain.length c1 a' (((p.chain[p.chain.length - 1]'(by omega)).store.drop i).foldl (noted p.me) lg).length c' a3 p.got.length c3 p.fell 0 0 0 none 0 (some 0) 0 none 0 (some 0) 0 none 0 (some 0) false h' ∧
   RVers false h' [.sl 6 a' (((p.chain[p.chain.length - 1]'(by omega)).store.drop i).foldl (noted p.me) lg).length c'] (((p.chain[p.chain.length - 1]'(by omega)).store.drop i).foldl (noted p.me) lg) F'∧Mv h F2 h' F':=by
  intro m;induction m with
  | zero =>intro i hi hh ax cx lg Fx hr hm hlen;rw[BC.e,Aj (by omega),zb2 (by omega)];exact ⟨ax,cx,hh,Fx,rfl,hr,hm⟩
  | succ m ih =>
   intro i hi hh ax cx lg Fx hr hm hlen;have hil:i<(p.chain[p.chain.length - 1]'(by omega)).store.length:=by omega
   have q1':=hm.keep rvers_ok q1 fun y hy=>hd y (q3 y hy);obtain ⟨o',s',b',d',G',ha',_,_,_,_,_,_,_,ho',es',hp',_⟩:=RVers.all q1' hil;rw[zbC hil,zbU];rw[BC.e,Ak (by omega),Ae hil];simp only[ha',Ag,Be,ho',Aa,Ab,es',Bh,At,Af];rw[← ha',Ar (show i<9223372036854775807 by omega),KX hr (by omega)];simp only[Ac,As];have stay:=ih (i+1) (by omega) hh ax cx lg Fx hr hm (by omega);have hno:=@noted.eq_1 p.me lg ((p.chain[p.chain.length - 1]'(by omega)).store[i]'hil);cases g1:decide (((p.chain[p.chain.length - 1]'(by omega)).store[i]'hil).tag.time>0) with
   | false=>rw[Au,hno,g1];exact stay
   | true =>
   rw[Al];cases g2:(((p.chain[p.chain.length - 1]'(by omega)).store[i]'hil).tag.place==p.me) with
   | false=>rw[Au,hno,g1,g2];exact stay
   | true =>
   rw[Al];cases g3:B4 lg ((p.chain[p.chain.length - 1]'(by omega)).store[i]'hil).tag with
   | true=>rw[Al,hno,g1,g2,g3];exact stay
   | false =>
   rw[Au,hno,g1,g2,g3];obtain ⟨a3',c3',h3,F3,e3,r3,m3⟩:=Cy (lo:=lo) (v:=((p.chain[p.chain.length - 1]'(by omega)).store[i]'hil)) hp' (zba hl hm.le) (hvn _ (zbb hil));obtain ⟨a5,c5,h5,F5,e5,r5,m5⟩:=EV (lo:=lo) (bytes:=72) (e:=34) rver_ok hr (row:=((p.chain[p.chain.length - 1]'(by omega)).store[i]'hil).cs a3' c3') (x:=((p.chain[p.chain.length - 1]'(by omega)).store[i]'hil)) (G:=F3) (h1:=h3 ++ [.rows 6 34 false [((p.chain[p.chain.length - 1]'(by omega)).store[i]'hil).cs a3' c3']])
    ⟨_,rfl,Mv.snoc.keep0 rtags_ok r3⟩ (m3.trans (Mv.snoc' m3.nd)) hm.nd (fun y hy=>hm.ge hl hlo y hy) (zba hl hm.le) (by decide) (by omega)
   rw[e3];simp only[Ac,Ap,Aa,Ab,Ah,Bh,At,Af,A4];rw[e5];simp only[Ah];have:=ih (i+1) (by omega) h5 a5 c5 (lg ++ [((p.chain[p.chain.length - 1]'(by omega)).store[i]'hil)]) F5 (by rw[zbo];exact r5) (hm.trans m5) (by simp;omega);rw[zbo] at this;exact this
 obtain ⟨a',c',h',F',el,r,m⟩:=one 4 0 (by omega) h a2 c2 p.log F2 hs2 (Mv.refl hnd) (by omega);refine ⟨a',c',h',F',Q0 ?_,?_,m⟩
 ·rw[BI ⟨by rw[wr (by omega) (by omega)];omega,by rw[wr (by omega) (by omega)];omega⟩,wr (by omega) (by omega),show ((p.chain.length:Int) - 1).toNat=p.chain.length - 1 by omega];simp only[ha,Ag,ho1,Aa,e1,Af];rw[← ha];refine el.trans ?_;have:=two h' F' a' (((p.chain[p.chain.length - 1]'(by omega)).store.drop 0).foldl (noted p.me) p.log).length c' m p.chain.length 0 true (by omega);refine this.trans ?_;simp only[Bj,Place.cs,Ez h0,zcc,zbA,Xw]
 ·simp only[Bj,Ez h0];rw[zcc] at r;exact r
end


variable {l:List Node}
theorem Mv.store {h h':Heap}{F F':List Nat}{b:Nat} (m:Mv h F h' F') (hb:b<h.length) (hbF:b∉F) (X:Blk) :
  Mv h (b :: F) (h'.set b X) (b :: F')∧(h'.set b X)[b]?=some X∧(∀ y,y≠b→(h'.set b X)[y]?=h'[y]?)∧b∉F':=by
 have hbF':b∉F':=fun hm=>by
  rcases m.sub b hm with g | g
  ·exact hbF g
  ·omega
 have hb':b<h'.length:=zbk hb m.le;refine ⟨⟨by simpa using m.le,fun y hy hF=>?_,by rw[zbj];exact ⟨hbF',m.nd⟩,fun y hy=>?_⟩,by simp[hb'],fun y hy=>zbh (Ne.symm hy),hbF'⟩
 ·rw[zbn,not_or] at hF;rw[zbh (Ne.symm hF.1)];exact m.fr y hy hF.2
 ·rw[zbn] at hy;rcases hy with rfl | hy
  ·exact .inl (by simp)
  ·refine (m.sub y hy).imp (fun g=>by simp[g]) fun g=>by simpa using g
section
variable {lo:Nat}{ro:Bool}{h:Heap}{F F':List Nat}{a a':Pq}{c c':Nq}
theorem MS {g:Nat}{cl:List V}{p:Node→Bool} (hs:RNodes ro h [.sl 2 a l.length c] l F) (hn:l.length≤1048576)
  (hp:∀ lo x a1 c1 a2 c2,x∈l→Ad lo g (Di [.agg [.sl 6 a1 x.store.length c1,.sl 6 a2 x.wait.length c2]] cl) h=some (.bool (p x),h)) :
  Ad lo 265 [.sl 2 a l.length c,.fn g cl] h=some (.bool (l.any p),h):=by
 have loop:∀ m k x,m+k=l.length→AA (List.length h) a l.length c g cl x (l.length:Nat) (k:Nat) h=some (Iv (B5 p (l.drop k) k),h):=by
  intro m;induction m with
  | zero =>intro k x hk;rw[AA.e,Aj (by omega),show k=l.length by omega];simp[B5]
  | succ m ih =>
   intro k x hk;have hlt:k<l.length:=by omega
   obtain ⟨o,s1,s2,b1,d1,b2,d2,G1,G2,rfl,ho,_,_,e1,e2,_⟩:=hs.get hlt;rw[AA.e,Ak (by omega),Ae (by omega)];simp only[Ag,Be,ho,Aa,e1,e2,Af];rw[hp (List.length h) l[k] b1 d1 b2 d2 (zbb hlt),Ac,As,zbC hlt];simp only[B5];cases p l[k]
   ·simp only[Au,cond_false];rw[Ar (by omega)];exact ih (k+1) _ (by omega)
   ·simp
 exact D5 (h':=h) (by rw[EC (loop l.length 0 0 (by omega))];simp only[Ac,Ab,O3];rw[IG];simp)
theorem YB:(l.any fun x=>decide (x.wait.length>0)) = !Xw l:=by
 unfold Xw;induction l with
 | nil=>rfl
 | cons x l ih =>rw[List.any_cons,List.all_cons,ih,Bool.not_and];congr 1;rw[zcg,zbT,decide_eq_true_eq,decide_eq_false_iff_not];omega
theorem Um {p:Place}{b:Nat}{a1 a2 a3:Pq}{c1 c2 c3:Nq}{F1 F2:List Nat} (hb:h[b]?=some (.rows 6 49 false [p.cs a1 c1 a2 c2 a3 c3])) (hs1:RNodes false h [.sl 2 a1 p.chain.length c1] p.chain F1) (hs2:RVers false h [.sl 6 a2 p.log.length c2] p.log F2)
  (h0:0<p.chain.length) (h4:(DS p.chain).length=4) (hd:∀ y∈F1,y∉b :: F2) (hnd:(b :: F2).Nodup) (hlo:∀ y∈b :: F2,lo≤y) (hl:lo≤h.length) (hcl:p.chain.length≤1048576) (hlog:p.log.length≤1000000) (hvn:∀ v∈DS p.chain,v.past.length≤1048576)
  (htag:∀ v∈DS p.chain,A2 v.tag.time v.tag.place=true) :
  ∃ a2' c2' h' F2',Ad lo 189 [.ptr (some (b,(0,0)))] h=some (.tup [],h')∧h'[b]?=some (.rows 6 49 false [(Bj p).cs a1 c1 a2' c2' a3 c3])∧RVers false h' [.sl 6 a2' (Bj p).log.length c2'] (Bj p).log F2'∧Mv h (b :: F2) h' (b :: F2'):=by
 have hblt:b<h.length:=(EY hb).1;have hlob:=hlo b (by simp);have hld2:ld h b 0 (0+2) 1=some [.sl 2 a1 p.chain.length c1]:=by rw[Bx hb rfl];rfl
 obtain ⟨b1,d1,G1,e1,q1,q3⟩:=I3 (lo:=lo) hld2 hs1 h0 hcl;rw[Ez h0] at h4 hvn htag;have one:∀ m i,m+i=4→∀ hh ax cx (lg:List Ver) Fx,hh[b]?=some (.rows 6 49 false [[Iv p.me,Iv p.clock,.sl 2 a1 p.chain.length c1,.sl 6 ax lg.length cx,.sl 1 a3 p.got.length c3,.bool p.fell]])→RVers false hh [.sl 6 ax lg.length cx] lg Fx→Mv h (b :: F2) hh (b :: Fx)→lg.length≤1000000+i→∃ a' c' h' F',
   AT lo b 0 0 b1 (p.chain[p.chain.length - 1]'(by omega)).store.length d1 ((p.chain[p.chain.length - 1]'(by omega)).store.length:Nat) (i:Nat) hh =
    AT lo b 0 0 b1 (p.chain[p.chain.length - 1]'(by omega)).store.length d1 ((p.chain[p.chain.length - 1]'(by omega)).store.length:Nat) (4:Nat) h' ∧
   h'[b]?=some (.rows 6 49 false [[Iv p.me,Iv p.clock,.sl 2 a1 p.chain.length c1,.sl 6 a' (((p.chain[p.chain.length - 1]'(by omega)).store.drop i).foldl (noted p.me) lg).length c',.sl 1 a3 p.got.length c3,.bool p.fell]]) ∧
   RVers false h' [.sl 6 a' (((p.chain[p.chain.length - 1]'(by omega)).store.drop i).foldl (noted p.me) lg).length c'] (((p.chain[p.chain.length - 1]'(by omega)).store.drop i).foldl (noted p.me) lg) F'∧Mv h (b :: F2) h' (b :: F'):=by
  intro m;induction m with
  | zero =>intro i hi hh ax cx lg Fx hbb hr hm hlen;rw[zb2 (by omega),show i=4 by omega];exact ⟨ax,cx,hh,Fx,rfl,hbb,hr,hm⟩
  | succ m ih =>
   intro i hi hh ax cx lg Fx hbb hr hm hlen;have hil:i<(p.chain[p.chain.length - 1]'(by omega)).store.length:=by omega
   have q1':=hm.keep rvers_ok q1 fun y hy=>hd y (q3 y hy);obtain ⟨o',s',b',d',G',ha',_,_,_,_,_,_,_,ho',es',hp',_⟩:=RVers.all q1' hil;have hmem:=zbb hil;have ht0:=U3 (htag _ hmem);have stay:=ih (i+1) (by omega) hh ax cx lg Fx hbb hr hm (by omega);have hno:=@noted.eq_1 p.me lg ((p.chain[p.chain.length - 1]'(by omega)).store[i]'hil);have l0:ld hh b 0 (0+0) 1=some [Iv p.me]:=by rw[Bx hbb rfl];rfl
   have l3:ld hh b 0 (0+3) 1=some [.sl 6 ax lg.length cx]:=by rw[Bx hbb rfl];rfl
   rw[zbC hil,zbU];generalize hx:((p.chain[p.chain.length - 1]'(by omega)).store[i]'hil)=x at *
   rw[AT.e,Ak (by omega),Ae hil];simp only[ha',Ag,Be,ho',Aa,Ab,es',Bh,At,Af,l0,l3,Ah];rw[← ha',Ar (show i<9223372036854775807 by omega),Oi hr (by omega),zb8];simp only[Ac,As,l3,Ag,Aa,Af,Ah];cases g1:decide (x.tag.time>0) with
   | false =>rw[g1,Bool.not_eq_false'] at ht0;rw[ht0,Al,hno,g1];exact stay
   | true =>
   rw[g1,zbT] at ht0;rw[ht0,Au];cases g2:(x.tag.place==p.me) with
   | false=>rw[Au,hno,g1,g2];exact stay
   | true =>
   rw[Al];cases g3:B4 lg x.tag with
   | true=>rw[Al,hno,g1,g2,g3];exact stay
   | false =>
   rw[Au,hno,g1,g2,g3];have hnx:=hm.nd;rw[zbj] at hnx;obtain ⟨a3',c3',h3,F3,e3,r3,m3⟩:=E7 (lo:=hh.length) (v:=x) hp' (zbf _) (hvn _ hmem);obtain ⟨a5,c5,h5,F5,e5,r5,m5⟩:=EV (lo:=lo) (bytes:=72) (e:=34) rver_ok hr (row:=x.cs a3' c3') (x:=x) (G:=F3) (h1:=h3 ++ [.rows 6 34 false [x.cs a3' c3']])
    ⟨_,rfl,Mv.snoc.keep0 rtags_ok r3⟩ (m3.trans (Mv.snoc' m3.nd)) hnx.2 (fun y hy=>hm.ge hl hlo y (by simp[hy])) (zba hl hm.le) (by decide) (by omega)
   have hblth:b<hh.length:=zbk hblt hm.le;have hb5:h5[b]?=hh[b]?:=m5.fr b hblth hnx.1;rw[hbb] at hb5;have e6:=DJ (cs := [.sl 6 a5 (lg.length+1) c5]) (j:=0+3) (r:=0) (row := [Iv p.me,Iv p.clock,.sl 2 a1 p.chain.length c1,.sl 6 ax lg.length cx,.sl 1 a3 p.got.length c3,.bool p.fell]) hb5 hlob rfl (IY (by simp));obtain ⟨m6,b6,k6,n6⟩:=m5.store hblth hnx.1 (.rows 6 49 false [[Iv p.me,Iv p.clock,.sl 2 a1 p.chain.length c1,.sl 6 a5 (lg.length+1) c5,.sl 1 a3 p.got.length c3,.bool p.fell]]);rw[e3];simp only[Ac,Ap,Aa,Ab,Ah,Bh,At,Af,A4];rw[e5];simp only[Ah];rw[e6];simp only[Ag];have:=ih (i+1) (by omega) (h5.set b (.rows 6 49 false [[Iv p.me,Iv p.clock,.sl 2 a1 p.chain.length c1,.sl 6 a5 (lg.length+1) c5,.sl 1 a3 p.got.length c3,.bool p.fell]])) a5 c5 (lg ++ [x]) F5 (by rw[zbo];exact b6) (by rw[zbo];exact rvers_ok.fr _ _ _ _ _ r5 fun y hy=>k6 y fun e=>n6 (e ▸ hy)) (hm.trans m6) (by simp;omega);exact this
 obtain ⟨a',c',h',F',el,hb',r,m⟩:=one 4 0 (by omega) h a2 c2 p.log F2 hb hs2 (Mv.refl hnd) (by omega);rw[zcc] at hb' r;generalize hres:(p.chain[p.chain.length - 1]'(by omega)).store.foldl (noted p.me) p.log=res at hb' r;have hnl:(Bj p).log=res:=by simp only[Bj,Ez h0,hres]
 have hblt':b<h'.length:=zbk hblt m.le;have hnx:=m.nd;rw[zbj] at hnx;have l3:ld h' b 0 (0+3) 1=some [.sl 6 a' res.length c']:=by rw[Bx hb' rfl];rfl
 have e6:=DJ (cs := [.sl 6 a' res.length (some res.length)]) (j:=0+3) (r:=0) (row := [Iv p.me,Iv p.clock,.sl 2 a1 p.chain.length c1,.sl 6 a' res.length c',.sl 1 a3 p.got.length c3,.bool p.fell]) hb' hlob rfl (IY (by simp));obtain ⟨m6,b6,k6,n6⟩:=(Mv.refl (h:=h') hnx.2).store hblt' hnx.1 (.rows 6 49 false [[Iv p.me,Iv p.clock,.sl 2 a1 p.chain.length c1,.sl 6 a' res.length (some res.length),.sl 1 a3 p.got.length c3,.bool p.fell]]);generalize hh6:h'.set b (.rows 6 49 false [[Iv p.me,Iv p.clock,.sl 2 a1 p.chain.length c1,.sl 6 a' res.length (some res.length),.sl 1 a3 p.got.length c3,.bool p.fell]])=h6 at m6 b6 k6;have e6':st lo h' b 0 (0+3) [.sl 6 a' res.length (some res.length)]=some h6:=by rw[← hh6];exact e6
 have r6:RVers false h6 [.sl 6 a' res.length (some res.length)] res F':=rvers_ok.fr _ _ _ _ _ r.clip fun y hy=>k6 y fun e=>hnx.1 (e ▸ hy);have l2:ld h6 b 0 (0+2+0) 1=some [.sl 2 a1 p.chain.length c1]:=by rw[Bx b6 rfl];rfl
 have m7:=m.trans m6;have ec:=MS (lo:=lo) (g:=266) (cl := []) (p:=fun x=>decide (x.wait.length>0)) (m7.keep rnodes_ok hs1 hd) hcl (fun lo x a1 c1 a2 c2 _=>JU (h':=h6) (by
  by_cases hw:x.wait.length>0
  ·rw[Ak (by omega),decide_eq_true hw]
  ·rw[Aj (by omega),decide_eq_false hw]))
 rw[YB] at ec;suffices hq:∃ a2' c2' h' F2',_=some (V.tup [],h')∧h'[b]?=some (.rows 6 49 false [(Bj p).cs a1 c1 a2' c2' a3 c3])∧RVers false h' [.sl 6 a2' (Bj p).log.length c2'] (Bj p).log F2'∧Mv h (b :: F2) h' (b :: F2') from hq.imp fun _ hq=>hq.imp fun _ hq=>hq.imp fun _ hq=>hq.imp fun _ hq=>⟨KS hq.1,hq.2⟩
 rw[e1];simp only[Ac,Ap,Aa,Ah,Af];rw[show (0:Int)=((0:Nat):Int) from rfl,el,AT.e,Aj (by omega)];simp only[l3,Ag,Aa,Ah,Af];rw[UK r];simp only[Ac,Ah];rw[e6'];simp only[Ag,l2,Aa,Ah,Af];rw[ec];simp only[Ac,As];have hcs:∀ f:Bool,f=(p.fell && !Xw p.chain)→([Iv p.me,Iv p.clock,.sl 2 a1 p.chain.length c1,.sl 6 a' res.length (some res.length),.sl 1 a3 p.got.length c3,.bool f]:List V)=(Bj p).cs a1 c1 a' (some res.length) a3 c3:=by intro f hf;simp only[Place.cs,hnl];rw[hf];rfl
 cases hi:Xw p.chain with
 | false =>rw[hi] at hcs;rw[zci,Al];refine ⟨a',some res.length,h6,F',rfl,?_,by rw[hnl];exact r6,m7⟩;rw[b6,hcs p.fell (by simp)]
 | true =>rw[hi] at hcs;rw[zbX,Au];have e8:=DJ (cs := [.bool false]) (j:=0+5) (r:=0) (row := [Iv p.me,Iv p.clock,.sl 2 a1 p.chain.length c1,.sl 6 a' res.length (some res.length),.sl 1 a3 p.got.length c3,.bool p.fell]) b6 hlob rfl (IY (by simp));obtain ⟨m8,b8,k8,n8⟩:=(Mv.refl (h:=h6) hnx.2).store (zbk hblt m7.le) hnx.1 (.rows 6 49 false [[Iv p.me,Iv p.clock,.sl 2 a1 p.chain.length c1,.sl 6 a' res.length (some res.length),.sl 1 a3 p.got.length c3,.bool false]]);rw[e8];simp only[Ag];refine ⟨a',some res.length,_,F',rfl,?_,by rw[hnl];exact rvers_ok.fr _ _ _ _ _ r6 fun y hy=>k8 y fun e=>hnx.1 (e ▸ hy),m7.trans m8⟩;rw[← hcs false (by simp)];exact b8
end


variable {v:Ver}{l:List Ver}{x:Node}{p:Place}{nw:Nat}
def thin (v:Ver):Prop:=v.past.length≤4∧v.text.size≤8∧A2 v.tag.time v.tag.place=true
def FN (nw:Nat) (x:Node):Prop:=x.store.length=4∧x.wait.length≤nw∧(∀ v∈x.store,thin v)∧∀ v∈x.wait,thin v
structure Tidy (nc nw nl:Nat) (p:Place):Prop where
 len:p.chain.length≤nc
 node:∀ x∈p.chain,FN nw x
 log:p.log.length≤nl∧∀ v∈p.log,thin v
 got:p.got.length≤3∧∀ l∈p.got,l.length≤nl∧∀ v∈l,thin v
theorem HF (h:A3 v=true):thin v:=by obtain ⟨_,h2,_,h3,h4,_⟩:=AB h;have:=DN h2;have:=Bn h3;exact ⟨by omega,by omega,h4⟩
theorem W2 (h:E0 v=true):thin v:=by rw[LR h];exact ⟨by simp,by show 0≤8;omega,rfl⟩
theorem Sp {i:Nat} (h:Hg i v=true):thin v:=(De h).elim W2 fun h=>HF h.1
theorem HN {m:Int} (h:D1 m l=true):l.length≤60∧∀ i (hi:i<l.length),A3 l[i]=true∧l[i].tag.place=m∧B4 (l.take i) l[i].tag=false:=by unfold D1 at h;rw[Dr,EA,decide_eq_true_eq] at h;refine ⟨by omega,fun i hi=>?_⟩;have:=h.1 i hi;simp only[Md,Dr,beq_iff_eq,zbT] at this;exact ⟨this.1.1,this.1.2,this.2⟩
theorem Ug {m:Int} (h:D1 m l=true):l.length≤60∧∀ v∈l,thin v:=by obtain ⟨h1,h2⟩:=HN h;refine ⟨h1,fun v hv=>?_⟩;obtain ⟨i,hi,rfl⟩:=zbM.1 hv;exact HF (h2 i hi).1
theorem Ky (h:BS x=true):FN 6 x:=by obtain ⟨h1,h2,h3⟩:=AD h;refine ⟨AX h1,h2,fun v hv=>?_,fun v hv=>HF (h3 v hv)⟩;obtain ⟨i,hi,rfl⟩:=zbM.1 hv;exact Sp (C6 h1 hi)
theorem AK (h:An p=true):(0≤p.me∧p.me≤2)∧(0≤p.clock∧p.clock≤999)∧p.got.length=3∧Cj p.chain=true∧D3 p.chain=true∧D1 p.me p.log=true ∧
  (∀ i (hi:i<p.got.length),IC p.me i p.got[i]=true)∧DV p.chain p.clock=true:=by
 unfold An at h;simp only[Dr,EA,decide_eq_true_eq,Am] at h;obtain ⟨⟨⟨⟨⟨⟨⟨h1,h2⟩,h3⟩,h4⟩,h5⟩,h6⟩,h7⟩,h8⟩:=h;exact ⟨h1,h2,h3,h4,h5,h6,h7,h8⟩
theorem SK (h:An p=true) {i:Nat} (hi:i<p.got.length):D1 i p.got[i]=true:=by have:=(AK h).2.2.2.2.2.2.1 i hi;unfold IC at this;rw[Dr] at this;exact this.1
theorem B3 (h:An p=true):Tidy 4 6 60 p:=by obtain ⟨_,_,h3,h4,_,h6,h7,_⟩:=AK h;obtain ⟨g1,g2⟩:=Cf h4;refine ⟨g1.2,fun x hx=>Ky (g2 x hx),Ug h6,by omega,fun l hl=>?_⟩;obtain ⟨i,hi,rfl⟩:=zbM.1 hl;exact Ug (SK h hi)
theorem OW {α:Type}{w:α→Nat}{c:Nat}:∀ {l:List α},(∀ v∈l,w v≤c)→Yp w l≤c*l.length
 | [],_=>by simp[Yp]
 | x :: l,h=>by have h1:=OW (w:=w) (l:=l) fun v hv=>h v (by simp[hv]);have h2:=h x (by simp);simp only[Yp,List.map_cons,List.sum_cons,zbZ,Nat.mul_add,Nat.mul_one] at h1 ⊢;omega
theorem zag (h:thin v):zad v≤13:=by have:=h.1;unfold zad;rw[Wl];omega
theorem OS (hl:l.length≤1048576) (h:∀ v∈l,thin v):Ck l:=⟨hl,fun v hv=>by have:=h v hv;exact ⟨by have:=this.1;omega,by have:=this.2.1;omega⟩⟩
theorem OR (h:∀ v∈l,thin v):TE l≤13*l.length:=OW fun v hv=>zag (h v hv)
theorem Zx (h:FN nw x) (hw:nw≤100):Ck x.store∧Ck x.wait:=by obtain ⟨h1,h2,h3,h4⟩:=h;exact ⟨OS (by omega) h3,OS (by omega) h4⟩
theorem zak (h:FN nw x) (hw:nw≤100):XU x≤1352:=by obtain ⟨h1,h2,h3,h4⟩:=h;have:=OR h3;have:=OR h4;unfold XU;omega
theorem TG {nc nl:Nat} (h:Tidy nc nw nl p) (h1:nc≤100) (h2:nw≤100):Cs p.chain:=⟨by have:=h.len;omega,fun x hx=>Zx (h.node x hx) h2⟩
theorem Ed {nc nl:Nat} (h:Tidy nc nw nl p) (h1:nc≤100) (h2:nw≤100) (h3:nl≤1000):BT p∧(1:Int)+XS p≤za7:=by
 have g1:=h.len;have g2:=h.log.1;have g3:=h.got.1;refine ⟨⟨TG h h1 h2,OS (by omega) h.log.2,by omega,fun l hl=>OS (by have:=(h.got.2 l hl).1;omega) (h.got.2 l hl).2⟩,?_⟩;have e1:XT p.chain≤1352*p.chain.length:=OW fun x hx=>zak (h.node x hx) h2;have e2:=OR h.log.2;have e3:zaH p.got≤13000*p.got.length:=OW fun l hl=>by have:=OR (h.got.2 l hl).2;have:=(h.got.2 l hl).1;omega
 simp only[XS,za7];omega
theorem LW {nc nl k:Nat}{t:Int} (h:Tidy nc nw nl p) (hv:thin v):Tidy nc (nw+1) nl ⟨p.me,t,EH p.chain k v,p.log,p.got,p.fell⟩:=by
 have hx:∀ x,x∈p.chain→FN (nw+1) x:=fun x hx=>by obtain ⟨g1,g2,g3⟩:=h.node x hx;exact ⟨g1,by omega,g3⟩
 have key:(EH p.chain k v).length≤nc∧∀ x∈EH p.chain k v,FN (nw+1) x:=by
  unfold EH;split
  ·rename_i x hk
   split
   ·rename_i u hu
    cases AZ u v with
    | false=>exact ⟨h.len,hx⟩
    | true =>
     rw[cond_true];refine ⟨by simpa using h.len,fun y hy=>?_⟩;rcases zby hy with hy | rfl
     ·exact hx y hy
     ·obtain ⟨g1,g2,g3,g4⟩:=h.node x (zbw hk);refine ⟨by simpa using g1,?_,fun w hw=>?_,?_⟩
      ·cases decide (k+1<p.chain.length)
       ·show x.wait.length≤nw+1;omega
       ·show (x.wait ++ [v]).length≤nw+1;simp;omega
      ·rcases zby hw with hw | rfl
       ·exact g3 w hw
       ·exact hv
      ·cases decide (k+1<p.chain.length)
       ·exact g4
       ·intro w hw;rcases zbc.1 hw with hw | hw
        ·exact g4 w hw
        ·rw[zbi] at hw;subst hw;exact hv
   ·exact ⟨h.len,hx⟩
  ·exact ⟨h.len,hx⟩
 exact ⟨key.1,key.2,h.log,h.got⟩
theorem Lo {l:List Node} (h0:0<l.length):∃ x∈l,DS l=x.store:=⟨_,zbb (show l.length - 1<l.length by omega),Ez h0⟩


variable {l:List Node}{p:Place}{v:Ver}
def HJ (s:List Ver) (v:Ver):Bool:=match s[v.key.toNat]? with
 | some u=>AZ u v
 | none=>false
def EQ (l:List Node):List Ver:=match l[0]? with
 | some x=>x.store
 | none => []
def Dg (l:List Node) (k:Nat):Bool:=match l[k]? with
 | some x=>decide (x.wait.length<6)
 | none=>false
def JP (p:Place) (f:Nat):List Ver:=match p.got[f]? with
 | some l=>l
 | none => []
def IP (p:Place) (f:Nat):Option Ver:=(JP p f).find? (HJ (EQ p.chain))
def DM (p:Place) (k:Nat) (t:Int) (v:Ver):Place:=⟨p.me,t,EH p.chain k v,p.log,p.got,p.fell⟩
theorem If (h0:0<l.length):EQ l=l[0].store:=by unfold EQ;rw[Dc h0]
theorem HY {k:Nat} (hk:k<l.length):Dg l k=decide (l[k].wait.length<6):=by unfold Dg;rw[Dc hk]
theorem I5 {f:Nat} (hf:f<p.got.length):JP p f=p.got[f]:=by unfold JP;rw[Dc hf]
theorem Ka {s:List Ver} (h:v.key.toNat<s.length):HJ s v=AZ s[v.key.toNat] v:=by unfold HJ;rw[Dc h]
theorem Mq {α:Type}{p:α→Bool}:∀ {l:List α}{k:Nat},(∃ i,∃ hi:i<l.length,B5 p l k=((k+i:Nat):Int)∧l.find? p=some l[i])∨(B5 p l k = -1∧l.find? p=none)
 | [],k => .inr ⟨rfl,rfl⟩
 | x :: l,k=>by
  simp only[B5,List.find?_cons];cases hp:p x with
  | true=>exact .inl ⟨0,by simp,by simp,by simp⟩
  | false =>
   rw[cond_false];rcases Mq (p:=p) (l:=l) (k:=k+1) with ⟨i,hi,h1,h2⟩ | h
   ·exact .inl ⟨i+1,by simpa using hi,by rw[h1];congr 1;omega,by simpa using h2⟩
   ·exact .inr h
theorem addN_len {k:Nat}:(EH l k v).length=l.length:=by
 unfold EH;split
 ·split
  ·cases AZ _ v<;>simp
  ·rfl
 ·rfl
section
variable {lo:Nat}{ro:Bool}{h:Heap}{F F':List Nat}{a a':Pq}{c c':Nq}
theorem J0 (hs:RNodes ro h [.sl 2 a l.length c] l F) (h0:0<l.length):Ad lo 191 [.agg [.sl 2 a l.length c]] h=some (.bool (Dg l 0),h):=by
 refine Q8 (h':=h) ?_;obtain ⟨o,s1,s2,b1,d1,b2,d2,G1,G2,ha,_,_,ho2,_,e2,_⟩:=hs.get h0;rw[HY h0,show (0:Int)=((0:Nat):Int) from rfl,Ae h0];simp only[ha,Ag,Be,ho2,Aa,e2,Af];by_cases hw:l[0].wait.length<6
 ·rw[Ak (by omega),decide_eq_true hw]
 ·rw[Aj (by omega),decide_eq_false hw]
theorem R6 {b i j k:Nat} (hld:ld h b i j 1=some [.sl 2 a l.length c]) (hs:RNodes ro h [.sl 2 a l.length c] l F) (hk:k<l.length):Ad lo 201 [.ptr (some (b,(i,j))),Iv (k:Nat)] h=some (.bool (!Dg l k),h):=by
 refine MQ (h':=h) ?_;obtain ⟨o,s1,s2,b1,d1,b2,d2,G1,G2,ha,_,_,ho2,_,e2,_⟩:=hs.get hk;rw[zbW,hld];simp only[Ag,Aa,Af,Ah];rw[HY hk,Ae hk];simp only[ha,Ag,Be,ho2,Aa,e2,Af];by_cases hw:l[k].wait.length<6
 ·rw[Aj (by omega),decide_eq_true hw];rfl
 ·rw[Ak (by omega),decide_eq_false hw];rfl
theorem LZ {f:Nat}{a1 a2 a3:Pq}{c1 c2 c3:Nq}{F1 F3:List Nat} (hs1:RNodes ro h [.sl 2 a1 p.chain.length c1] p.chain F1) (hs3:RVss ro h [.sl 1 a3 p.got.length c3] p.got F3)
  (h0:0<p.chain.length) (hf:f<p.got.length) (hk:∀ v∈p.got[f],0≤v.key∧v.key<(EQ p.chain).length) (hn:p.got[f].length≤1048576) :
  Ad lo 190 [.agg (p.cs a1 c1 a2 c2 a3 c3),Iv (f:Nat)] h=some (Iv (B5 (HJ (EQ p.chain)) p.got[f] 0),h):=by
 refine Qp (h':=h) ?_;obtain ⟨o,s1,s2,b1,d1,b2,d2,G1,G2,ha,_,ho1,_,e1,_,q1,_⟩:=hs1.get h0;obtain ⟨o3,s3,b3,d3,G3,ha3,ho3,e3,q3,_⟩:=hs3.get hf;rw[If h0] at *
 rw[show (0:Int)=((0:Nat):Int) from rfl,Ae h0];simp only[ha,Ag,Be,ho1,Aa,e1,Af];have loop:∀ m i,m+i=p.got[f].length→Cl (List.length h) (f:Nat) ((0:Nat):Int) (i:Nat) p.me p.clock a1 p.chain.length c1 a2 p.log.length c2 a3 p.got.length c3 p.fell b1 p.chain[0].store.length d1 h=some (Iv (B5 (HJ p.chain[0].store) (p.got[f].drop i) i),h):=by
  intro m;induction m with
  | zero =>intro i hi;rw[Cl.e,Ae hf];simp only[ha3,Ag,Be,ho3,Aa,e3,Af];rw[Aj (by omega),zb2 (by omega)];rfl
  | succ m ih =>
   intro i hi;have hil:i<p.got[f].length:=by omega
   have hky:=hk _ (zbb hil);have hkl:p.got[f][i].key.toNat<p.chain[0].store.length:=by omega
   obtain ⟨o4,s4,b4,d4,G4,ha4,ho4,e4,q4,_⟩:=q3.get hil;obtain ⟨o5,s5,b5,d5,G5,ha5,_,_,_,_,_,_,ho512,_⟩:=RVers.all q1 hkl;rw[Cl.e,Ae hf];simp only[ha3,Ag,Be,ho3,Aa,e3,Af];rw[Ak (by omega),Ae hf,Ae hil];simp only[ha4,Ag,Be,ho4,Aa,Ab,e4,Bh,At,Af];rw[BI ⟨by omega,by omega⟩];simp only[ha5,Ag,ho512,Aa,Ab,Af,Bz,Ac,As];rw[← ha3,← ha5,Ar (show i<9223372036854775807 by omega),ih (i+1) (by omega),zbC hil];simp only[B5];rw[Ka hkl];unfold AZ;cases Gp _ _ _ _<;>rfl
 have:=loop _ 0 rfl;rw[zcc] at this;rw[← ha];exact this
theorem L1 {k:Nat}{t:Int}{a1 a2 a3 av:Pq}{c1 c2 c3 cv:Nq}{F1 F2 G:List Nat} (hs1:RNodes false h [.sl 2 a1 p.chain.length c1] p.chain F1) (hs2:RVers false h [.sl 6 a2 p.log.length c2] p.log F2)
  (hv:RTags false h [.sl 2 av v.past.length cv] v.past G) (hvd:∀ b∈G,b∉F1) (hnd:(F1++F2).Nodup) (hlo:∀ b∈F1++F2,lo≤b) (hl:lo≤h.length) (hk:k<p.chain.length) (hkey:0≤v.key∧v.key≤3)
  (ht:Tidy 10 20 100 p) (hvt:thin v) :
  ∃ h2 a2' c2' h3 F1' F2',Ad lo 193 [.agg [.sl 2 a1 p.chain.length c1],Iv k,.agg (v.cs av cv)] h=some (.agg [.sl 2 a1 p.chain.length c1],h2) ∧
   Ad lo 104 [.agg ((DM p k t v).cs a1 c1 a2 c2 a3 c3)] h2=some (.agg ((Bj (DM p k t v)).cs a1 c1 a2' c2' a3 c3),h3) ∧
   RNodes false h3 [.sl 2 a1 (Bj (DM p k t v)).chain.length c1] (Bj (DM p k t v)).chain F1'∧RVers false h3 [.sl 6 a2' (Bj (DM p k t v)).log.length c2'] (Bj (DM p k t v)).log F2'∧Mv h (F1++F2) h3 (F1'++F2'):=by
 have ta:=LW (k:=k) (t:=t) ht hvt;have hn:=TG ht (by decide) (by decide);have hsto:=(ht.node _ (zbb hk)).1;have hnd':=hnd;rw[zbd] at hnd';obtain ⟨h2,F1',e2,r2,m2⟩:=Lg (lo:=lo) hs1 hv hvd hnd'.1 (fun b hb=>hlo b (by simp[hb])) hl hk ⟨hkey.1,by omega⟩ hn (by have:=hvt.1;omega);rw[← addN_len (k:=k) (v:=v)] at r2;have b2:∀ y∈F2,y<h.length:=rvers_ok.bd _ _ _ _ hs2;have m3:=m2.aside (G:=F2) hnd b2;have hs2':=m2.keep rvers_ok hs2 fun y hy hm=>hnd'.2.2 y hm y hy rfl;have nd3:=m3.nd;rw[zbd] at nd3;have h0:0<(DM p k t v).chain.length:=by show 0<(EH p.chain k v).length;rw[addN_len];omega
 obtain ⟨x,hx,hxe⟩:=Lo h0;have hxn:=ta.node x hx;have hl2:=m2.le;obtain ⟨a2',c2',h3,F2',e3,r3,m4⟩:=NV (lo:=lo) (p:=DM p k t v) (a3:=a3) (c3:=c3) r2 hs2' h0 (by rw[hxe];exact hxn.1) (fun y hy hy2=>nd3.2.2 y hy y hy2 rfl) hnd'.2.1 (fun b hb=>hlo b (by simp[hb])) (by omega) (zba ta.len (by decide)) (zba ta.log.1 (by decide))
  (fun w hw=>by rw[hxe] at hw;have:=(hxn.2.2.1 w hw).1;omega)
 have r2':=m4.keep rnodes_ok r2 fun y hy hy2=>nd3.2.2 y hy y hy2 rfl;have b1:∀ y∈F1',y<h2.length:=rnodes_ok.bd _ _ _ _ r2;have m5:=(m4.aside (G:=F1') (by rw[zbd];exact ⟨nd3.2.1,nd3.1,fun x hx y hy e=>nd3.2.2 y hy x hx e.symm⟩) b1).swap;exact ⟨h2,a2',c2',h3,F1',F2',e2,e3,r2',r3,m3.trans m5⟩
end


variable {p:Place}
def Eu (p:Place) (t:Int):Place:=⟨p.me,t,p.chain,p.log,p.got,p.fell⟩
def Ew (t c:Int):Int:=if t>c then t else c
theorem XY {h h1 h2:Heap}{b:Nat}{G1 G1' G2 G2' G3:List Nat} (m1:Mv h G1 h1 G1') (m2:Mv h1 (b :: G2) h2 (b :: G2')) (hnd:(b ::(G1++(G2++G3))).Nodup) (hb:∀ y∈b ::(G1++(G2++G3)),y<h.length) :
  Mv h (b ::(G1++(G2++G3))) h2 (b ::(G1'++(G2'++G3)))∧(∀ y∈G1',y∉b :: G2)∧(∀ y∈G3,y∉G1)∧∀ y∈G3,y∉b :: G2:=by
 rw[zbj,zbd,zbc,zbc,zbd] at hnd;obtain ⟨n1,n2,⟨n3,n4,n5⟩,n6⟩:=hnd;simp only[not_or] at n1;have hbb:=hb b (by simp);have hb1:∀ y∈G1,y<h.length:=fun y hy=>hb y (by simp[hy]);have hb2:∀ y∈G2,y<h.length:=fun y hy=>hb y (by simp[hy]);have hb3:∀ y∈G3,y<h.length:=fun y hy=>hb y (by simp[hy]);have l1:=m1.le;have l2:=m2.le;have d1:∀ y∈G1',y∉b :: G2:=fun y hy hm=>by
  rcases m1.sub y hy with g | g
  ·rcases zbn.1 hm with rfl | hm
   ·exact n1.1 g
   ·exact n6 y g y (by simp[hm]) rfl
  ·rcases zbn.1 hm with rfl | hm
   ·omega
   ·have:=hb2 y hm;omega
 have d2:∀ y∈G3,y∉G1:=fun y hy hm=>n6 y hm y (by simp[hy]) rfl;have d3:∀ y∈G3,y∉b :: G2:=fun y hy hm=>by
  rcases zbn.1 hm with rfl | hm
  ·exact n1.2.2 hy
  ·exact n5 y hm y hy rfl
 have nd2:=m2.nd;rw[zbj] at nd2;have s1:∀ y∈G1',y<h1.length:=m1.lt hb1;refine ⟨⟨by omega,fun y hy hF=>?_,?_,fun y hy=>?_⟩,d1,d2,d3⟩
 ·simp only[zbn,zbc,not_or] at hF;rw[m2.fr y (by omega) (by simp only[zbn,not_or];exact ⟨hF.1,hF.2.2.1⟩),m1.fr y hy hF.2.1]
 ·rw[zbj,zbd,zbc,zbc,zbd];refine ⟨?_,m1.nd,⟨nd2.2,n4,fun x hx y hy e=>?_⟩,fun x hx y hy e=>?_⟩
  ·simp only[not_or];exact ⟨fun g=>d1 b g (by simp),nd2.1,n1.2.2⟩
  ·subst e;rcases m2.sub x (by simp[hx]) with g | g
   ·exact d3 x hy g
   ·have:=hb3 x hy;omega
  ·subst e;rcases zbc.1 hy with hy | hy
   ·rcases m2.sub x (by simp[hy]) with g | g
    ·exact d1 x hx g
    ·have:=s1 x hx;omega
   ·rcases m1.sub x hx with g | g
    ·exact d2 x hy g
    ·have:=hb3 x hy;omega
 ·simp only[zbn,zbc] at hy ⊢;rcases hy with hy | hy | hy | hy
  ·exact .inl (.inl hy)
  ·rcases m1.sub y hy with g | g
   ·exact .inl (.inr (.inl g))
   ·exact .inr ⟨g.1,by omega⟩
  ·rcases m2.sub y (by simp[hy]) with g | g
   ·rcases zbn.1 g with g | g
    ·exact .inl (.inl g)
    ·exact .inl (.inr (.inr (.inl g)))
   ·exact .inr ⟨by omega,g.2⟩
  ·exact .inl (.inr (.inr (.inr hy)))
section
variable {lo:Nat}{ro:Bool}{h:Heap}{F F':List Nat}{a a':Pq}{c c':Nq}
theorem Jn {h1 h2:Heap}{b:Nat}{q:Place}{a1 a2 a3:Pq}{c1 c2 c3:Nq}{G1 G1' G2 G2' G3:List Nat} (m1:Mv h G1 h1 G1') (m2:Mv h1 (b :: G2) h2 (b :: G2')) (hnd:(b ::(G1++(G2++G3))).Nodup) (hb:∀ y∈b ::(G1++(G2++G3)),y<h.length)
  (r1:RNodes false h1 [.sl 2 a1 q.chain.length c1] q.chain G1') (r2:RVers false h2 [.sl 6 a2 q.log.length c2] q.log G2') (r3:RVss false h [.sl 1 a3 q.got.length c3] q.got G3) :
  A5 false h2 (q.cs a1 c1 a2 c2 a3 c3) q (G1'++(G2'++G3))∧Mv h (b ::(G1++(G2++G3))) h2 (b ::(G1'++(G2'++G3))):=by
 obtain ⟨m,d1,d2,d3⟩:=XY m1 m2 hnd hb;exact ⟨⟨_,_,_,_,_,_,rfl,_,_,_,G1',G2',G3,rfl,rfl,m2.keep rnodes_ok r1 d1,r2,m2.keep rvss_ok (m1.keep rvss_ok r3 d2) d3⟩,m⟩
theorem Ml {b:Nat}{a1 a2 a3:Pq}{c1 c2 c3:Nq}{F1 F2:List Nat} (hb:h[b]?=some (.rows 6 49 false [p.cs a1 c1 a2 c2 a3 c3])) (hs1:RNodes false h [.sl 2 a1 p.chain.length c1] p.chain F1) (hs2:RVers false h [.sl 6 a2 p.log.length c2] p.log F2)
  (h0:0<p.chain.length) (ht:Tidy 10 20 100 p) (hd:∀ y∈F1,y∉b :: F2) (hnd:(b :: F2).Nodup) (hlo:∀ y∈b :: F2,lo≤y) (hl:lo≤h.length) :
  ∃ a2' c2' h' F2',Ad lo 189 [.ptr (some (b,(0,0)))] h=some (.tup [],h')∧h'[b]?=some (.rows 6 49 false [(Bj p).cs a1 c1 a2' c2' a3 c3])∧RVers false h' [.sl 6 a2' (Bj p).log.length c2'] (Bj p).log F2'∧Mv h (b :: F2) h' (b :: F2'):=by
 obtain ⟨x,hx,hxe⟩:=Lo h0;have hxn:=ht.node x hx;exact Um hb hs1 hs2 h0 (by rw[hxe];exact hxn.1) hd hnd hlo hl (zba ht.len (by decide)) (zba ht.log.1 (by decide))
  (fun v hv=>by rw[hxe] at hv;have:=(hxn.2.2.1 v hv).1;omega) (fun v hv=>by rw[hxe] at hv;exact (hxn.2.2.1 v hv).2.2)
theorem S2 {t:Int}{b:Nat}{a1 a2 a3:Pq}{c1 c2 c3:Nq}{F1 F2:List Nat} (hb:h[b]?=some (.rows 6 49 false [p.cs a1 c1 a2 c2 a3 c3])) (hs1:RNodes false h [.sl 2 a1 p.chain.length c1] p.chain F1) (hs2:RVers false h [.sl 6 a2 p.log.length c2] p.log F2)
  (h0:0<p.chain.length) (ht:Tidy 10 20 100 p) (hd:∀ y∈F1,y∉b :: F2) (hnd:(b :: F2).Nodup) (hlo:∀ y∈b :: F2,lo≤y) (hl:lo≤h.length) :
  ∃ h1 a2' c2' h' F2',st lo h b 0 (0+1) [Iv t]=some h1∧Ad lo 189 [.ptr (some (b,(0,0)))] h1=some (.tup [],h')∧h'[b]?=some (.rows 6 49 false [(Bj (Eu p t)).cs a1 c1 a2' c2' a3 c3]) ∧
   RVers false h' [.sl 6 a2' (Bj (Eu p t)).log.length c2'] (Bj (Eu p t)).log F2'∧Mv h (b :: F2) h' (b :: F2'):=by
 have hblt:b<h.length:=(EY hb).1;have e6:=DJ (cs := [Iv t]) (j:=0+1) (r:=0) (row:=p.cs a1 c1 a2 c2 a3 c3) hb (hlo b (by simp)) rfl (IY (by simp[Place.cs]));have hnd':=hnd;rw[zbj] at hnd';obtain ⟨m6,b6,k6,n6⟩:=(Mv.refl (h:=h) hnd'.2).store hblt hnd'.1 (.rows 6 49 false [(Eu p t).cs a1 c1 a2 c2 a3 c3]);have hs1':=m6.keep rnodes_ok hs1 hd;have hs2':RVers false (h.set b (.rows 6 49 false [(Eu p t).cs a1 c1 a2 c2 a3 c3])) [.sl 6 a2 p.log.length c2] p.log F2:=rvers_ok.fr _ _ _ _ _ hs2 fun y hy=>k6 y fun e=>n6 (e ▸ hy);obtain ⟨a2',c2',h',F2',e7,q7,r7,m7⟩:=Ml (lo:=lo) (p:=Eu p t) b6 hs1' hs2' h0 ⟨ht.len,ht.node,ht.log,ht.got⟩ hd hnd hlo (zba hl m6.le);exact ⟨_,a2',c2',h',F2',e6,e7,q7,r7,m6.trans m7⟩
theorem Un {b i j R e:Nat}{rs:List (List V)}{row:List V}{l:List Node}{v:Ver}{av:Pq}{cv:Nq}{G:List Nat} (hb:h[b]?=some (.rows R e false rs)) (hrow:rs[i]?=some row) (hcell:row[j]?=some (.sl 2 a l.length c)) (hs:RNodes false h [.sl 2 a l.length c] l F) (hbF:b∉F)
  (hv:RTags false h [.sl 2 av v.past.length cv] v.past G) (hd:∀ b∈G,b∉F) (hnd:F.Nodup) (hlo:∀ b∈F,lo≤b) (hl:lo≤h.length) (h0:0<l.length)
  (hkey:0≤v.key∧v.key<l[0].store.length) (hn:Cs l) (hvn:v.past.length≤1048576) :
  ∃ h' F',Ad lo 188 [.ptr (some (b,(i,j))),.agg (v.cs av cv)] h=some (.bool (Dg l 0),h')∧RNodes false h' [.sl 2 a l.length c] (bif Dg l 0 then EH l 0 v else l) F'∧Mv h F h' F':=by
 have hld:ld h b i j 1=some [.sl 2 a l.length c]:=by rw[Bx hb hrow];exact O1 hcell
 suffices hq:∃ h' F',_=some (V.bool (Dg l 0),h')∧RNodes false h' [.sl 2 a l.length c] (bif Dg l 0 then EH l 0 v else l) F'∧Mv h F h' F' from hq.imp fun h' hq=>hq.imp fun F' hq=>⟨NN hq.1,hq.2⟩
 rw[show (0:Int)=((0:Nat):Int) from rfl,R6 hld hs h0];simp only[Ac,As];cases hr:Dg l 0 with
 | false=>exact ⟨h,F,rfl,hs,Mv.refl hnd⟩
 | true =>rw[zbX,Au];obtain ⟨h',F',e1,r1,m1⟩:=VF (lo:=lo) hb hrow hcell hs hbF hv hd hnd hlo hl h0 hkey hn hvn;have e1':Ad lo 264 [.ptr (some (b,(i,j))),Iv ((0:Nat):Int),.agg (v.cs av cv)] h=some (.tup [],h'):=e1;refine ⟨h',F',?_,r1,m1⟩;show Ai (Ad lo 264 [.ptr (some (b,(i,j))),Iv ((0:Nat):Int),.agg (v.cs av cv)] h) _=_;rw[e1'];simp only[Ac,C4,Af]
end


variable {p:Place}
def HC (p:Place) (f:Nat):Bool:=match IP p f with
 | some v=>Dg p.chain 0&&BH v.past (AN p.chain)
 | none=>false
def Ba (p:Place) (f:Int):Bool:=Am f 0 2&&HC p f.toNat
def JL (p:Place) (f:Nat):Place:=match IP p f with
 | some v=>Bj (DM p 0 (Ew v.tag.time p.clock) v)
 | none=>p
def A7 (p:Place) (f:Int):Place:=bif Ba p f then JL p f.toNat else p
theorem KB (h:An p=true) {f:Nat} (hf:f<p.got.length) {v:Ver} (hv:v∈p.got[f]):A3 v=true:=by obtain ⟨_,h2⟩:=HN (SK h hf);obtain ⟨i,hi,rfl⟩:=zbM.1 hv;exact (h2 i hi).1
theorem PY (h:An p=true):(EQ p.chain).length=4:=by have h0:=EG h;rw[If h0];exact AX (AD ((Cf (AK h).2.2.2.1).2 _ (zbb h0))).1
theorem Lq {f:Nat} (hf:f<p.got.length):(∃ i,∃ hi:i<p.got[f].length,B5 (HJ (EQ p.chain)) p.got[f] 0=(i:Int)∧IP p f=some p.got[f][i])∨(B5 (HJ (EQ p.chain)) p.got[f] 0 = -1∧IP p f=none):=by
 unfold IP;rw[I5 hf];rcases Mq (p:=HJ (EQ p.chain)) (l:=p.got[f]) (k:=0) with ⟨i,hi,h1,h2⟩ | h
 ·exact .inl ⟨i,hi,by rw[h1,zbH],h2⟩
 ·exact .inr h
theorem Ym {t c:Int} (h:decide (t>c)=true):Ew t c=t:=by unfold Ew;rw[if_pos (of_decide_eq_true h)]
theorem Yn {t c:Int} (h:decide (t>c)=false):Ew t c=c:=by unfold Ew;rw[if_neg (of_decide_eq_false h)]
section
variable {lo:Nat}{h:Heap}{F F':List Nat}{a a':Pq}{c c':Nq}
theorem JZ {f:Nat}{a1 a2 a3:Pq}{c1 c2 c3:Nq}{F1 F3:List Nat} (hs1:RNodes false h [.sl 2 a1 p.chain.length c1] p.chain F1) (hs3:RVss false h [.sl 1 a3 p.got.length c3] p.got F3)
  (hok:An p=true) (hf:f<p.got.length) (hn:BT p):Ad lo 97 [.agg (p.cs a1 c1 a2 c2 a3 c3),Iv (f:Nat)] h=some (.bool (HC p f),h):=by
 have h0:=EG hok;have hchain:=(AK hok).2.2.2.1;have hhl:=PY hok;have hky:∀ v∈p.got[f],0≤v.key∧v.key<(EQ p.chain).length:=fun v hv=>by have:=(AB (KB hok hf hv)).1;omega
 have hgn:p.got[f].length≤1048576:=(hn.2.2.2 _ (zbb hf)).1;suffices hq:∃ h',_=some (V.bool (HC p f),h') from by obtain ⟨h',e⟩:=hq;exact ND e
 rw[LZ hs1 hs3 h0 hf hky hgn];simp only[Ac,Ab];unfold HC;rcases Lq hf with ⟨i,hi,e1,e2⟩ | ⟨e1,e2⟩
 ·rw[e1,e2,Ak (by omega),J0 hs1 h0];simp only[Ac,As];cases hr:Dg p.chain 0 with
  | false=>exact ⟨h,rfl⟩
  | true =>
   obtain ⟨o3,s3,b3,d3,G3,ha3,ho3,e3,q3,_⟩:=hs3.get hf;obtain ⟨o4,s4,b4,d4,G4,ha4,_,_,_,ho43,_,_,_,_,e4,q4,_⟩:=q3.all hi;obtain ⟨v5,h5,F5,e5,r5,m5⟩:=Ha (lo:=h.length) hs1 (zbf _) hn.1 h0;obtain ⟨a6,c6,e6,r6⟩:=r5.form;rw[Al,Ae hf];simp only[ha3,Ag,Be,ho3,Aa,e3,Af];rw[Ae hi];simp only[ha4,Ag,Be,ho43,Aa,e4,Af];rw[e5];simp only[Ac,Ap,Aa,e6,Af];rw[ET (m5.keep0 rtags_ok q4) r6 (Bn (AB (KB hok hf (zbb hi))).2.2.2.1) (Jk hchain)];simp only[Ac,As];cases BH p.got[f][i].past (AN p.chain)
   ·exact ⟨h5,rfl⟩
   ·exact ⟨h5,rfl⟩
 ·rw[e1,e2,Aj (by omega)];exact ⟨h,rfl⟩
theorem NU {f:Nat}{a1 a2 a3:Pq}{c1 c2 c3:Nq}{F1 F2 F3:List Nat} (hs1:RNodes false h [.sl 2 a1 p.chain.length c1] p.chain F1) (hs2:RVers false h [.sl 6 a2 p.log.length c2] p.log F2) (hs3:RVss false h [.sl 1 a3 p.got.length c3] p.got F3)
  (hok:An p=true) (hf:f<p.got.length) (hn:BT p) (ht:HC p f=true) (hnd:(F1++(F2++F3)).Nodup) (hlo:∀ b∈F1++(F2++F3),lo≤b) (hl:lo≤h.length) :
  ∃ a2' c2' h' F',Ad lo 98 [.agg (p.cs a1 c1 a2 c2 a3 c3),Iv (f:Nat)] h=some (.agg ((JL p f).cs a1 c1 a2' c2' a3 c3),h')∧A5 false h' ((JL p f).cs a1 c1 a2' c2' a3 c3) (JL p f) F'∧Mv h (F1++(F2++F3)) h' F':=by
 have h0:=EG hok;have hhl:=PY hok;have hky:∀ v∈p.got[f],0≤v.key∧v.key<(EQ p.chain).length:=fun v hv=>by have:=(AB (KB hok hf hv)).1;omega
 have hgn:p.got[f].length≤1048576:=(hn.2.2.2 _ (zbb hf)).1;have hti:=B3 hok;have hti':Tidy 10 20 100 p:=⟨zba hti.len (by decide),fun x hx=>by have:=hti.node x hx;exact ⟨this.1,zba this.2.1 (by decide),this.2.2⟩,⟨zba hti.log.1 (by decide),hti.log.2⟩,hti.got.1,fun l hl=>⟨zba (hti.got.2 l hl).1 (by decide),(hti.got.2 l hl).2⟩⟩;unfold HC at ht;unfold JL;rcases Lq hf with ⟨i,hi,e1,e2⟩ | ⟨e1,e2⟩
 ·rw[e2];simp only;have hv:=KB hok hf (zbb hi);obtain ⟨o3,s3,b3,d3,G3,ha3,ho3,e3,q3,hG3⟩:=hs3.get hf;obtain ⟨o4,s4,b4,d4,G4,ha4,ho4,e4,q4,hG4⟩:=q3.get hi;rw[← zbs] at hnd hlo;have hnd':=hnd;rw[zbd] at hnd';have hdis:∀ y∈F3,y∉F1++F2:=fun y hy hm=>hnd'.2.2 y hm y hy rfl;obtain ⟨h2,a2',c2',h3,F1',F2',e5,e6,r1,r2,m⟩:=L1 (lo:=lo) (v:=p.got[f][i]) (k:=0) (t:=Ew p.got[f][i].tag.time p.clock) (a3:=a3) (c3:=c3) hs1 hs2 q4 (fun y hy hm=>hdis y (hG3 y (hG4 y hy)) (by simp[hm])) hnd'.1 (fun y hy=>hlo y (by rw[zbc];exact .inl hy)) hl h0 ((AB hv).1) hti' (HF hv);have b3':∀ y∈F3,y<h.length:=rvss_ok.bd _ _ _ _ hs3;have m':=m.aside (G:=F3) hnd b3';have hs3':=m.keep rvss_ok hs3 hdis;have hcs:∀ t,(DM p 0 t p.got[f][i]).cs a1 c1 a2 c2 a3 c3 = [Iv p.me,Iv t,.sl 2 a1 p.chain.length c1,.sl 6 a2 p.log.length c2,.sl 1 a3 p.got.length c3,.bool p.fell]:=fun t=>by simp only[Place.cs,DM,addN_len]
  rw[hcs] at e6;rw[← zbs];refine ⟨a2',c2',h3,F1'++F2'++F3,QZ ?_,⟨_,_,_,_,_,_,rfl,_,_,_,F1',F2',F3,rfl,by rw[zbs],r1,r2,hs3'⟩,m'⟩;rw[Ae hf];simp only[ha3,Ag,Be,ho3,Aa,e3,Af];rw[← ha3];have:=LZ (lo:=h.length) (a2:=a2) (c2:=c2) hs1 hs3 h0 hf hky hgn;simp only[Place.cs] at this;rw[this,e1];simp only[Ac,Ab];rw[Ae hi];simp only[ha4,Ag,Be,ho4,Aa,Ab,e4,Bh,At,Af];cases hd:decide (p.got[f][i].tag.time>p.clock)
  ·rw[Yn hd] at e6 ⊢;rw[Au];rw[show (0:Int)=((0:Nat):Int) from rfl] at *
   simp only[Ver.cs] at e5;rw[e5];simp only[Ac,Ap,Aa,Ah,Af];rw[e6];simp only[Ac,Place.cs,Ap,Aa,Ab,Ah,At,Af]
  ·rw[Ym hd] at e6 ⊢;rw[Al];rw[show (0:Int)=((0:Nat):Int) from rfl] at *
   simp only[Ver.cs] at e5;rw[e5];simp only[Ac,Ap,Aa,Ah,Af];rw[e6];simp only[Ac,Place.cs,Ap,Aa,Ab,Ah,At,Af]
 ·rw[e2] at ht;cases ht
end


variable {p:Place}{k:Int}
theorem Ld (h:An p=true):Tidy 10 20 100 p:=by have hti:=B3 h;exact ⟨zba hti.len (by decide),fun x hx=>by have:=hti.node x hx;exact ⟨this.1,zba this.2.1 (by decide),this.2.2⟩,⟨zba hti.log.1 (by decide),hti.log.2⟩,hti.got.1,fun l hl=>⟨zba (hti.got.2 l hl).1 (by decide),(hti.got.2 l hl).2⟩⟩
theorem O9 (h:Am k 0 2=true):∃ f:Nat,k=(f:Int)∧f<3:=by simp only[Am,Dr,decide_eq_true_eq] at h;exact ⟨k.toNat,by omega,by omega⟩
section
variable {lo:Nat}{h:Heap}{F F':List Nat}{a a':Pq}{c c':Nq}
theorem Pu {cs:List V} (hp:A5 false h cs p F) (hl:lo≤h.length) (hn:BT p) :
  ∃ raw r h' F',Ad lo 29 [.agg cs,Iv k] h=some (.tup [.agg raw,.bool (An p&&Ba p k)],h')∧FX raw (En p (A7 p k)) r∧A5 false h' r (En p (A7 p k)) F'∧Mv h [] h' F':=by
 obtain ⟨a1,c1,a2,c2,a3,c3,rfl,hp⟩:=hp;obtain ⟨F1,F2,F3,_,h1,h2,h3⟩:=hp.cells;suffices hk:∃ raw r h' F',_=some (V.tup [.agg raw,.bool (An p&&Ba p k)],h')∧FX raw (En p (A7 p k)) r∧A5 false h' r (En p (A7 p k)) F'∧Mv h [] h' F' from by obtain ⟨raw,r,h',F',e,hr⟩:=hk;exact ⟨raw,r,h',F',NK e,hr⟩
 rw[M0 h1 h2 h3 hn];simp only[Ac,As];unfold En;cases hpo:An p with
 | false =>rw[Au];obtain ⟨raw,r,rfl,n1,n2⟩:=Iw (hh:=h);exact ⟨_,r,h,[],rfl,n1,n2,Mv.nil⟩
 | true =>
 obtain ⟨raw,b1,d1,b2,d2,b3,d3,h4,F4,e4,n4,r4,m4⟩:=Jl (lo:=lo) h1 h2 h3 hl hn;obtain ⟨s1,s2,s3,q1,q2,q3,q4,q5,q6,rfl,n1,n2,n3,eq⟩:=n4;obtain ⟨rfl,rfl,rfl,rfl,rfl,rfl⟩:=VV eq;rw[Al,e4];simp only[Ac,Ap,Aa,Ab,n1,n2,n3,At,Af,cond_true,Bf,As];have r4':=r4;obtain ⟨G1,G2,G3,rfl,g1,g2,g3⟩:=r4'.cells;have hg3:=(AK hpo).2.2.1;cases hw:Am k 0 2 with
 | false =>
  have hc:Ba p k=false:=by unfold Ba;rw[hw];rfl
  unfold A7;rw[Au,hc];exact ⟨p.cs b1 d1 b2 d2 b3 d3,_,h4,_,rfl,C7,⟨_,_,_,_,_,_,rfl,r4⟩,m4⟩
 | true =>
  obtain ⟨f,rfl,hf⟩:=O9 hw;have hf':f<p.got.length:=by omega
  have hct:Ba p (f:Int)=HC p f:=by unfold Ba;rw[hw,Be];rfl
  have ec:=JZ (lo:=lo) (f:=f) (a2:=a2) (c2:=c2) (m4.keep0 rnodes_ok h1) (m4.keep0 rvss_ok h3) hpo hf' hn;simp only[Place.cs] at ec;rw[Al,ec];simp only[Ac,As];unfold A7;rw[hct];cases htk:HC p f with
  | false =>rw[Au];exact ⟨p.cs b1 d1 b2 d2 b3 d3,_,h4,_,rfl,C7,⟨_,_,_,_,_,_,rfl,r4⟩,m4⟩
  | true =>obtain ⟨a2',c2',h5,F5,e5,r5,m5⟩:=NU (lo:=lo) g1 g2 g3 hpo hf' hn htk m4.nd (fun y hy=>by have:=m4.new y hy;omega) (zba hl m4.le);simp only[Place.cs] at e5;rw[Al,e5];simp only[Ac,Ap,Aa,Ab,Ah,At,Af,cond_true,Be];exact ⟨_,_,h5,F5,rfl,C7,r5,m4.trans m5⟩
theorem Xt {b:Nat}{a1 a2 a3:Pq}{c1 c2 c3:Nq}{G1 G2 G3:List Nat} (hb:h[b]?=some (.rows 6 49 false [p.cs a1 c1 a2 c2 a3 c3])) (hs1:RNodes false h [.sl 2 a1 p.chain.length c1] p.chain G1) (hs2:RVers false h [.sl 6 a2 p.log.length c2] p.log G2) (hs3:RVss false h [.sl 1 a3 p.got.length c3] p.got G3)
  (hok:An p=true) (hn:BT p) (hnd:(b ::(G1++(G2++G3))).Nodup) (hlo:∀ y∈b ::(G1++(G2++G3)),lo≤y) (hl:lo≤h.length) :
  ∃ h' row' F',Ad lo 96 [.ptr (some (b,(0,0))),Iv k] h=some (.bool (Ba p k),h')∧A5 false h' row' (A7 p k) F'∧h'[b]?=some (.rows 6 49 false [row'])∧Mv h (b ::(G1++(G2++G3))) h' (b :: F'):=by
 suffices hq:∃ h' row' F',_=some (V.bool (Ba p k),h')∧A5 false h' row' (A7 p k) F'∧h'[b]?=some (.rows 6 49 false [row'])∧Mv h (b ::(G1++(G2++G3))) h' (b :: F') from by obtain ⟨h',row',F',e,hr⟩:=hq;exact ⟨h',row',F',MK e,hr⟩
 have hblt:b<h.length:=(EY hb).1;have hbd:∀ y∈b ::(G1++(G2++G3)),y<h.length:=fun y hy=>by
  simp only[zbn,zbc] at hy;rcases hy with rfl | hy | hy | hy
  ·exact hblt
  ·exact rnodes_ok.bd _ _ _ _ hs1 y hy
  ·exact rvers_ok.bd _ _ _ _ hs2 y hy
  ·exact rvss_ok.bd _ _ _ _ hs3 y hy
 have stay:∀ h',Mv h [] h' []→Ba p k=false→∃ h'' row' F',some (V.bool false,h')=some (V.bool (Ba p k),h'')∧A5 false h'' row' (A7 p k) F'∧h''[b]?=some (.rows 6 49 false [row'])∧Mv h (b ::(G1++(G2++G3))) h'' (b :: F'):=fun h' m hc=>by unfold A7;rw[hc];exact ⟨h',_,G1++(G2++G3),rfl,⟨_,_,_,_,_,_,rfl,_,_,_,G1,G2,G3,rfl,rfl,m.keep0 rnodes_ok hs1,m.keep0 rvers_ok hs2,m.keep0 rvss_ok hs3⟩,by rw[m.fr b hblt (by simp)];exact hb,m.aside (G:=b ::(G1++(G2++G3))) hnd hbd⟩
 have h0:=EG hok;have hhl:=PY hok;have hg3:=(AK hok).2.2.1;have hti:=Ld hok;rw[Jw];simp only[Ac,As];cases hw:Am k 0 2 with
 | false=>rw[Au];exact stay h Mv.nil (by unfold Ba;rw[hw];rfl)
 | true =>
 obtain ⟨f,rfl,hf⟩:=O9 hw;have hf':f<p.got.length:=by omega
 have hct:Ba p (f:Int)=HC p f:=by unfold Ba;rw[hw,Be];rfl
 have hky:∀ v∈p.got[f],0≤v.key∧v.key<(EQ p.chain).length:=fun v hv=>by have:=(AB (KB hok hf' hv)).1;omega
 have hgn:p.got[f].length≤1048576:=(hn.2.2.2 _ (zbb hf')).1;obtain ⟨o3,s3,b3,d3,H3,ha3,ho3,e3,q3,hH3⟩:=hs3.get hf';obtain ⟨o,s1,s2,b1,d1,b2,d2,H1,H2,ha,_,ho1,_,e1,_,q1,_⟩:=hs1.get h0;have l4:∀ hh:Heap,hh[b]?=some (.rows 6 49 false [p.cs a1 c1 a2 c2 a3 c3])→ld hh b 0 (0+4) 1=some [.sl 1 a3 p.got.length c3]:=fun hh hb=>by rw[Bx hb rfl];rfl
 have l2:ld h b 0 (0+2) 1=some [.sl 2 a1 p.chain.length c1]:=by rw[Bx hb rfl];rfl
 have hidx:=Lb (lo:=lo) (g:=187) (cl := [.tup [.agg [.sl 6 b1 p.chain[0].store.length d1]]]) (p:=HJ (EQ p.chain)) q3 hgn (fun lo v a c G hv ht=>by
  have:=hky v hv;rw[If h0] at this ⊢;rw[Ka (by omega)];exact Ls q1 this)
 rw[Al,l4 h hb];simp only[Ag,Aa,Ah,Af];rw[Ae hf'];simp only[ha3,Ag,Be,ho3,Aa,e3,Af,zbW,l2,Ah];rw[show (0:Int)=((0:Nat):Int) from rfl,Ae h0];have ho1':ld h o.fst o.snd 0 1=some [s1]:=ho1;simp only[ha,Ag,ho1',Aa,e1,Af];rw[hidx];simp only[Ac,Ab];rcases Lq hf' with ⟨i,hi,x1,x2⟩ | ⟨x1,x2⟩
 ·obtain ⟨o4,s4,b4,d4,H4,ha4,ho4,e4,q4,hH4⟩:=q3.get hi;have hv:=KB hok hf' (zbb hi);have hvp:=AB hv;have hpl:=Bn hvp.2.2.2.1;have htk:HC p f=(Dg p.chain 0&&BH p.got[f][i].past (AN p.chain)):=by unfold HC;rw[x2]
  rw[x1,Aj (by omega)];rw[l4 h hb,Ag,Aa,Af,Ah,Ae hf',ha3,Ag,Be,ho3,Ag,Aa,Af,e3,Ae hi,ha4,Ag,ho4,Ag,Aa,Ab,Aa,Ab,Aa,Ab,Aa,e4,Aa,Bh,Aa,At,Af];obtain ⟨bt,dt,Ht,et,rt,_⟩:=I3 (lo:=lo) (b:=b) (i:=0) (j:=0+2) l2 hs1 h0 hn.1.1;have hslen:(p.chain[p.chain.length - 1]'(by omega)).store.length=4:=(hti.node _ (zbb _)).1;obtain ⟨vt,h5,F5,e5,r5,m5⟩:=KA (lo:=lo) rt hl hslen;obtain ⟨a6,c6,e6,r6⟩:=r5.form;rw[et,Ac,Ap,Aa,Ah,Af,e5,Ac,Ap,Aa,e6,Af,Jv (m5.keep0 rtags_ok q4) r6 (by omega) (by simp only[Bi,zcx];omega),Ac,As];rw[Hk h0] at htk;cases hu:BH p.got[f][i].past (Bi (p.chain[p.chain.length - 1]'(by omega)).store) with
  | false=>rw[Au];exact stay h5 m5.drop (by rw[hct,htk,hu,zco])
  | true =>
  rw[hu,zb8] at htk;have hb5:h5[b]?=some (.rows 6 49 false [p.cs a1 c1 a2 c2 a3 c3]):=by rw[m5.fr b hblt (by simp)];exact hb
  have hnd':=hnd;rw[zbj,zbd,zbc,zbc,zbd] at hnd';obtain ⟨n1,n2,⟨n3,n4,n5⟩,n6⟩:=hnd';simp only[not_or] at n1;have hs15:=m5.keep0 rnodes_ok hs1;have hs25:=m5.keep0 rvers_ok hs2;have hs35:=m5.keep0 rvss_ok hs3;have q45:=m5.keep0 rtags_ok q4;have hkey0:p.got[f][i].key<p.chain[0].store.length:=by have:=hky _ (zbb hi);rw[If h0] at this;omega
  obtain ⟨h6,F6,e7,r7,m7⟩:=Un (lo:=lo) (i:=0) (j:=0+2) hb5 rfl rfl hs15 n1.1 q45 (fun y hy hm=>n6 y hm y (by rw[zbc];exact .inr (hH3 y (hH4 y hy))) rfl) n2 (fun y hy=>hlo y (by simp[hy])) (zba hl m5.le) h0 ⟨hvp.1.1,hkey0⟩ hn.1 (by omega);simp only[Ver.cs] at e7;rw[Al,e7,Ac,As];cases hr:Dg p.chain 0 with
  | false =>
   rw[hr] at r7 htk;rw[Au];rw[cond_false] at r7;have hb6:h6[b]?=some (.rows 6 49 false [p.cs a1 c1 a2 c2 a3 c3]):=by rw[m7.fr b (zbk hblt m5.le) n1.1];exact hb5
   have hcf:Ba p (f:Int)=false:=by rw[hct,htk]
   have hbd5:∀ y∈b ::(G1++(G2++G3)),y<h5.length:=fun y hy=>zbk (hbd y hy) m5.le;have nd2:(b :: G2).Nodup:=by rw[zbj];exact ⟨n1.2.1,n3⟩
   have hs26:RVers false h6 [.sl 6 a2 p.log.length c2] p.log G2:=m7.keep rvers_ok hs25 fun y hy hm=>n6 y hm y (by simp[hy]) rfl;obtain ⟨r8,m8⟩:=Jn (q:=p) m7 (Mv.refl nd2) hnd hbd5 r7 hs26 hs35;unfold A7;rw[hcf];exact ⟨h6,_,_,rfl,r8,hb6,(m5.drop.aside (G:=b ::(G1++(G2++G3))) hnd hbd).trans m8⟩
  | true =>
   rw[hr] at r7 htk;rw[cond_true] at r7;have hb6:h6[b]?=some (.rows 6 49 false [p.cs a1 c1 a2 c2 a3 c3]):=by rw[m7.fr b (zbk hblt m5.le) n1.1];exact hb5
   have l1:ld h6 b 0 (0+1) 1=some [Iv p.clock]:=by rw[Bx hb6 rfl];rfl
   have hct2:Ba p (f:Int)=true:=by rw[hct,htk]
   have hbd5:∀ y∈b ::(G1++(G2++G3)),y<h5.length:=fun y hy=>zbk (hbd y hy) m5.le;have nd2:(b :: G2).Nodup:=by rw[zbj];exact ⟨n1.2.1,n3⟩
   have hs26:RVers false h6 [.sl 6 a2 p.log.length c2] p.log G2:=m7.keep rvers_ok hs25 fun y hy hm=>n6 y hm y (by simp[hy]) rfl;have d1:=(XY m7 (Mv.refl nd2) hnd hbd5).2.1;have ta:=LW (k:=0) (t:=p.clock) (B3 hok) (HF hv);have ta':Tidy 10 20 100 (DM p 0 p.clock p.got[f][i]):=⟨zba ta.len (by decide),fun x hx=>by have:=ta.node x hx;exact ⟨this.1,zba this.2.1 (by decide),this.2.2⟩,⟨zba ta.log.1 (by decide),ta.log.2⟩,ta.got.1,fun l hl=>⟨zba (ta.got.2 l hl).1 (by decide),(ta.got.2 l hl).2⟩⟩;have hcs:(DM p 0 p.clock p.got[f][i]).cs a1 c1 a2 c2 a3 c3=p.cs a1 c1 a2 c2 a3 c3:=by simp only[Place.cs,DM,addN_len]
   rw[← addN_len (k:=0) (v:=p.got[f][i])] at r7;obtain ⟨h7,a8,c8,h8,F8,e8,e9,b9,r9,m9⟩:=S2 (lo:=lo) (p:=DM p 0 p.clock p.got[f][i]) (t:=Ew p.got[f][i].tag.time p.clock) (a3:=a3) (c3:=c3) (by rw[hcs];exact hb6) r7 hs26 (by show 0<(EH _ _ _).length;rw[addN_len];omega) ta' d1 nd2 (fun y hy=>hlo y (by simp only[zbn,zbc] at hy ⊢;rcases hy with hy | hy;exact .inl hy;exact .inr (.inr (.inl hy)))) (by have:=m5.le;have:=m7.le;omega);obtain ⟨r10,m10⟩:=Jn (q:=Bj (DM p 0 (Ew p.got[f][i].tag.time p.clock) p.got[f][i])) m7 m9 hnd hbd5 r7 r9 hs35;unfold Ew at e8;rw[Al,l1,Ag,Aa,Af,Ab,e8,Ag,e9,Ac,C4,Af];rw[hct2];unfold A7;rw[hct2,cond_true,Be];unfold JL;rw[x2];exact ⟨h8,_,_,rfl,r10,b9,(m5.drop.aside (G:=b ::(G1++(G2++G3))) hnd hbd).trans m10⟩
 ·rw[x1,Ak (by omega)];exact stay h Mv.nil (by rw[hct];unfold HC;rw[x2])
theorem PW {cs:List V} (hp:A5 false h cs p F) (hl:lo≤h.length) (hn:BT p) :
  ∃ raw r h' F',Ad lo 28 [.agg cs,Iv k] h=some (.tup [.agg raw,.bool (An p&&Ba p k)],h')∧FX raw (En p (A7 p k)) r∧A5 false h' r (En p (A7 p k)) F'∧Mv h [] h' F':=by
 have m0:Mv h [] (h ++ [.rows 1 3 false [[Iv k]]]) []:=Mv.snoc;obtain ⟨raw,r,h',F',e,n,rr,m⟩:=PU (lo:=lo) (p':=A7 p k) (l1 := [.ptr (some (h.length,(0,0)))]) (g:=95) (ok:=Ba p k) (m0.keep0 rplaceN_ok hp) (zba hl m0.le) hn (fun hpo hh b row F1 hhl mm rp hb hnd hlo=>by
  obtain ⟨b1,d1,b2,d2,b3,d3,rfl,rp⟩:=rp;obtain ⟨G1,G2,G3,rfl,g1,g2,g3⟩:=rp.cells;have hlen:(h ++ [Blk.rows 1 3 false [[Iv k]]]).length=h.length+1:=by simp
  have hx:hh[h.length]?=some (.rows 1 3 false [[Iv k]]):=by rw[mm.fr h.length (by rw[hlen];omega) (by simp)];simp
  have lk:ld hh h.length 0 0 1=some [Iv k]:=by rw[Bx hx rfl];rfl
  obtain ⟨h9,row9,F9,e9,r9,b9,m9⟩:=Xt (lo:=lo) (k:=k) hb g1 g2 g3 hpo hn hnd (fun y hy=>by have:=hlo y hy;rw[hlen] at this;omega) (by rw[hlen] at hhl;omega);refine ⟨h9,row9,F9,LK ?_,r9,b9,m9⟩;rw[lk];simp only[Ag,Aa,Ab,Af];rw[e9];simp only[Ac,As];exact II)
 obtain ⟨b1,d1,b2,d2,b3,d3,rfl,_⟩:=hp;obtain ⟨s1,s2,s3,a1',c1',a2',c2',a3',c3',rfl,n1,n2,n3,rfl⟩:=n;refine ⟨(En p (A7 p k)).cs a1' c1' a2' c2' a3' c3',_,h',F',NL ?_,C7,rr,m0.trans m⟩;rw[e];simp only[Ac,C4,Aa,Ap,Ab,n1,n2,n3,At,Af,As];cases (An p&&Ba p k)<;>rfl
end


theorem EAll.mono {α:Type}{A B:Rel α}{h:Heap} (hAB:∀ row x F,A h row x F→B h row x F):∀ {rows:List (List V)}{l:List α}{Fs:List (List Nat)},EAll A h rows l Fs→EAll B h rows l Fs
 | [],[],[],_=>trivial
 | _ :: _,_ :: _,_ :: _,⟨h1,h2⟩=>⟨hAB _ _ _ h1,EAll.mono hAB h2⟩
 | [],[],_ :: _,h=>h.elim
 | [],_ :: _,_,h=>h.elim
 | _ :: _,[],_,h=>h.elim
 | _ :: _,_ :: _,[],h=>h.elim
theorem Sli.mono {α:Type}{A B:Rel α}{h:Heap}{R e:Nat}{cs:List V}{l:List α}{F:List Nat} (hAB:∀ row x F,A h row x F→B h row x F) (hs:Sli false R e A h cs l F):Sli false R e B h cs l F:=by
 obtain ⟨R',a,c,e1,g⟩:=hs;refine ⟨R',a,c,e1,?_⟩;cases a with
 | none=>exact g
 | some p =>obtain ⟨b,i⟩:=p;obtain ⟨g0,rs,Fs,g1,g2,g3,g4,g5,g6⟩:=g;exact ⟨g0,rs,Fs,g1,g2,g3,g4,g5.mono hAB,g6⟩
def zaC:Rel Node:=fun h row x F=>RNode false h row x F∧∃ s a n k,row = [s,.sl 6 a n (some k)]
abbrev RNodesC:Rel (List Node):=Sli false 2 (Om false) zaC
theorem RNodesC.up {h:Heap}{cs:List V}{l:List Node}{F:List Nat} (hs:RNodesC h cs l F):RNodes false h cs l F:=Sli.mono (fun _ _ _ h=>h.1) hs
section
variable {lo:Nat}{h:Heap}{F F' G:List Nat}{a a' av:Pq}{c c' cv:Nq}
end


variable {Fs:List (List Nat)}
theorem EAll.erase {α:Type}{El:Rel α}{h:Heap}:∀ {rows:List (List V)}{l:List α}{Fs:List (List Nat)},EAll El h rows l Fs→∀ (k:Nat),EAll El h (rows.eraseIdx k) (l.eraseIdx k) (Fs.eraseIdx k)
 | [],[],[],_,k=>by simp[EAll]
 | _ :: _,_ :: _,_ :: _,⟨_,h2⟩,0=>h2
 | _ :: _,_ :: _,_ :: _,⟨h1,h2⟩,k+1=>⟨h1,h2.erase k⟩
 | [],[],_ :: _,h,_=>h.elim
 | [],_ :: _,_,h,_=>h.elim
 | _ :: _,[],_,h,_=>h.elim
 | _ :: _,_ :: _,[],h,_=>h.elim
theorem La {k:Nat}{Fk:List Nat} (hk:Fs[k]?=some Fk) (hnd:Fs.flatten.Nodup):(Fs.eraseIdx k).flatten.Nodup∧(∀ y∈(Fs.eraseIdx k).flatten,y∈Fs.flatten∧y∉Fk):=by
 induction Fs generalizing k with
 | nil=>simp at hk
 | cons F Fs ih =>
  rw[zbG,zbd] at hnd;obtain ⟨n1,n2,n3⟩:=hnd;cases k with
  | zero =>simp at hk;subst hk;rw[List.eraseIdx_cons_zero];exact ⟨n2,fun y hy=>⟨by simp only[zbG,zbc];exact .inr hy,fun hm=>n3 y hm y hy rfl⟩⟩
  | succ k =>
   obtain ⟨g1,g2⟩:=ih (k:=k) (by simpa using hk) n2;rw[List.eraseIdx_cons_succ,zbG,zbd];refine ⟨⟨n1,g1,fun x hx y hy=>n3 x hx y (g2 y hy).1⟩,fun y hy=>?_⟩;rcases zbc.1 hy with hy | hy
   ·refine ⟨by simp only[zbG,zbc];exact .inl hy,fun hm=>?_⟩;exact n3 y hy y (Jt (by simpa using hk) hm) rfl
   ·exact ⟨by simp only[zbG,zbc];exact .inr (g2 y hy).1,(g2 y hy).2⟩


variable {l:List Node}
def Ik (l:List Node) (k:Nat):List Node:=match l[k]? with
 | some x=>l.set k ⟨x.store,x.wait.eraseIdx 0⟩
 | none=>l
def Vs (l:List Node) (k:Nat):Bool:=match l[k]? with
 | some x=>decide (0<x.wait.length)&&Dg l (k+1)
 | none=>false
def C5 (l:List Node) (k:Int):Bool:=Am k 0 ((l.length:Int) - 2)&&Vs l k.toNat
def HD (l:List Node) (k:Nat):List Node:=match l[k]? with
 | some x=>match x.wait[0]? with
  | some v=>EH (Ik l k) (k+1) v
  | none=>l
 | none=>l
theorem Nx {k:Nat} (hk:k<l.length):Ik l k=l.set k ⟨l[k].store,l[k].wait.eraseIdx 0⟩:=by unfold Ik;rw[Dc hk]
theorem Nw {k:Nat}:(Ik l k).length=l.length:=by unfold Ik;split<;>simp
theorem Ll {k:Nat} (hk:k<l.length):Vs l k=(decide (0<l[k].wait.length)&&Dg l (k+1)):=by unfold Vs;rw[Dc hk]
theorem Xg {k:Nat} (hk:k<l.length) (h0:0<l[k].wait.length):HD l k=EH (Ik l k) (k+1) (l[k].wait[0]'h0):=by unfold HD;rw[Dc hk];simp only;rw[Dc h0]
theorem Sli.at2 {α:Type}{El:Rel α} (ok:El.Ok) {h:Heap}{R R' e n k lo:Nat}{a:Pq}{c:Nq}{l:List α}{F:List Nat} (hs:Sli false R e El h [.sl R' a n c] l F) (hk:k<l.length) (hnd:F.Nodup) (hlo:∀ b∈F,lo≤b) :
  ∃ b i rs row G,a=some (b,i)∧b∈F∧b∉G∧h[b]?=some (.rows R e false rs)∧rs[i+k]?=some row∧El h row l[k] G∧(∀ y∈G,y∈F)∧G.Nodup ∧
   (∀ h1 G1 j cs row' x',Mv h G h1 G1→paste row j cs=some row'→El h1 row' x' G1 →
    ∃ h2 F',st lo h1 b (i+k) j cs=some h2∧Sli false R e El h2 [.sl R' a n c] (l.set k x') F'∧Mv h F h2 F'∧(∀ y,y≠b→h2[y]?=h1[y]?)∧∀ y∈F',(y∈F∧y∉G)∨y∈G1):=by
 have hbd:=(Sli.ok ok).bd _ _ _ _ hs;obtain ⟨b,i,rs,row,G,ha,hbF,hbG,hb,hrow,hel,hGF,hGn,put⟩:=hs.put ok.fr hk hnd;have hblt:b<h.length:=hbd b hbF;refine ⟨b,i,rs,row,G,ha,hbF,hbG,hb,hrow,hel,hGF,hGn,fun h1 G1 j cs row' x' m hp hx=>?_⟩;have hbG1:b∉G1:=fun hm=>by
  rcases m.sub b hm with h1 | h1
  ·exact hbG h1
  ·omega
 have hb1:h1[b]?=some (.rows R e false rs):=by rw[m.fr b hblt hbG];exact hb
 have hb1lt:b<h1.length:=zbk hblt m.le;have e2:=DJ hb1 (hlo b hbF) hrow hp;have fr2:∀ y,y≠b→(h1.set b (.rows R e false (rs.set (i+k) row')))[y]?=h1[y]?:=fun y hy=>zbh (Ne.symm hy);obtain ⟨F',p1,p2,p3,_⟩:=put (h1.set b (.rows R e false (rs.set (i+k) row'))) row' x' G1 (by simp[hb1lt]) (fun y hy hyb hyG=>by rw[fr2 y hyb];exact m.fr y (hbd y hy) hyG)
  (ok.fr _ _ _ _ _ hx fun y hy=>fr2 y fun e=>hbG1 (e ▸ hy)) m.nd (fun y hy hyF=>by
  rcases m.sub y hy with h1 | h1
  ·exact h1
  ·have:=hbd y hyF;omega)
 refine ⟨_,F',e2,p1,⟨by simpa using m.le,fun y hy hyF=>?_,p3,fun y hy=>?_⟩,fr2,p2⟩
 ·rw[fr2 y fun e=>hyF (e ▸ hbF)];exact m.fr y hy fun hg=>hyF (hGF y hg)
 ·rcases p2 y hy with h1 | h1
  ·exact .inl h1.1
  ·refine (m.sub y h1).imp (hGF y) fun h=>by simpa using h
section
variable {lo:Nat}{ro:Bool}{h:Heap}{F F' G:List Nat}{a a' av:Pq}{c c' cv:Nq}
theorem X3 {l:List Ver} (hs:RVers false h [.sl 6 a l.length c] l F) (h0:0<l.length) (hnd:F.Nodup) (hl:lo≤h.length) (hn:l.length≤1048576) :
  ∃ o s av cv Gv,a=some o∧ld h o.1 (o.2+0) 0 6=some [Iv l[0].key,Iv l[0].tag.time,Iv l[0].tag.place,s,.str l[0].text,.bool l[0].gone]∧(∀ {T:Type} (K:Pq→Nat→Nq→Option T),eS 2 s K=K av l[0].past.length cv)∧RTags false h [.sl 2 av l[0].past.length cv] l[0].past Gv ∧
   ∃ a' c' h' F',(∀ {T:Type} (K:V→Heap→Option T),(Ax a l.length c (some (Iv 1)) none none fun a n c=>Av 6 (h ++ [.rows 6 34 false []]) (.sl 6 a n c) fun xs=>Dd lo 34 6 72 (.sl 6 (some (h.length,0)) 0 (some 0)) xs (h ++ [.rows 6 34 false []]) K)=K (.sl 6 a' (l.eraseIdx 0).length c') h') ∧
    RVers false h' [.sl 6 a' (l.eraseIdx 0).length c'] (l.eraseIdx 0) F'∧Mv h F h' F'∧(∀ y∈Gv,y∉F'∧y∈F)∧∀ y,y<h.length→h'[y]?=h[y]?:=by
 have hbd:=rvers_ok.bd _ _ _ _ hs;obtain ⟨R1,a1,c1,e1,g⟩:=hs;injection e1 with e1 _;injection e1 with e0 e2 _ e3;subst e2;subst e3;cases a with
 | none=>obtain ⟨rfl,_⟩:=g;simp at h0
 | some p =>
 obtain ⟨b,i⟩:=p;obtain ⟨_,rs,Fs,g1,g2,g3,_,g5,rfl⟩:=g;obtain ⟨row,Fk,hrow,hFk,hel⟩:=g5.get (Dc h0);rw[zbj] at hnd;obtain ⟨f1,f2⟩:=La hFk hnd.2;have hri:rs[i]?=some row:=by rw[zcd,if_pos h0,zbR] at hrow;exact hrow
 obtain ⟨s,av,cv,rfl,es,hp⟩:=hel.form;have hil:i<rs.length:=by omega
 have hcut:((rs.drop i).take l.length).eraseIdx 0=(rs.drop (i+1)).take (l.length - 1):=by rw[zbC hil,show l.length=(l.length - 1)+1 by omega,List.take_succ_cons,List.eraseIdx_cons_zero];simp
 have g6:=g5.erase 0;rw[hcut] at g6;have hlen:=zb9 h0;generalize hxs:(rs.drop (i+1)).take (l.length - 1)=xs at g6;have hxl:xs.length=l.length - 1:=by rw[← hlen];exact g6.len.1
 have m0:Mv h [] (h ++ [.rows 6 34 false []]) [h.length]:=Mv.last;have hb1:(h ++ [.rows 6 34 false []])[b]?=some (.rows 6 (UC false) false rs):=by rw[m0.fr b (hbd b (by simp)) (by simp)];exact g1
 have s3:∀ {T:Type} (K:List (List V)→Option T),(Ax (some (b,i)) l.length c (some (Iv 1)) none none fun a6 n7 c8=>Av 6 (h ++ [.rows 6 34 false []]) (.sl 6 a6 n7 c8) K)=K xs:=fun K=>by
  unfold Ax FI IV JR;simp only[Ab,zck];rw[DT ⟨by omega,by omega⟩,show ((1:Int)).toNat=1 from rfl];have key:∀ c8:Nq,Av 6 (h ++ [.rows 6 34 false []]) (.sl 6 (some (b,i+1)) (l.length - 1) c8) K=K xs:=fun c8=>by
   simp only[Av,JG,GF];cases hm:l.length - 1 with
   | zero =>have hx0:xs = []:=zbm (by omega);rw[hx0]
   | succ m =>
    simp only;rw[show Ey (h ++ [.rows 6 34 false []]) b (i+1) (m+1)=some xs by
     simp only[Ey,Heap.rows?,hb1,zbN];rw[Ff (by omega),← hm,hxs]]
    rfl
  cases c with
  | none=>exact key none
  | some N =>
   obtain ⟨hN,_⟩:=g3 N rfl;unfold Pv;simp only;cases hb:Nat.beq N 1 with
   | false=>rw[Au];exact key _
   | true =>have:=zbl hb;have hx0:xs = []:=zbm (by omega);rw[Al,show l.length - 1=0 by omega,hx0];simp[Av,Bq]
 have hfl:∀ y∈(Fs.eraseIdx 0).flatten,y<h.length:=fun y hy=>hbd y (by simp[(f2 y hy).1]);refine ⟨(b,i),s,av,cv,Fk,rfl,by rw[Bx g1 (by rw[zbW];exact hri)];rfl,es,hp,?_⟩;have hFkb:∀ y∈Fk,y∈Fs.flatten:=fun y hy=>Jt hFk hy;by_cases he:l.eraseIdx 0 = []
 ·have hx0:xs = []:=zbm (by rw[hxl,← hlen,he];rfl);refine ⟨some (h.length,0),some 0,_,[h.length],fun K=>by rw[s3,hx0];simp only[Dd];rw[he];rfl,by rw[he];exact Sli.fresh (zbf _),?_,fun y hy=>?_,fun y hy=>m0.fr y hy (by simp)⟩
  ·exact m0.wide (by simp)
  ·have:=hbd y (by simp[hFkb y hy]);exact ⟨by simp;omega,by simp[hFkb y hy]⟩
 ·have hfresh:RVers false (h ++ [.rows 6 (UC false) false []]) [.sl 6 (some (h.length,0)) 0 (some 0)] [] [h.length]:=Sli.fresh (zbf _);obtain ⟨a',c',h',F',p1,p2,p3,p4,p5,p6⟩:=Sli.push (lo:=lo) (bytes:=72) rver_ok.fr hfresh (xs:=xs) (ys:=l.eraseIdx 0) (Gs:=Fs.eraseIdx 0) (g6.fr rver_ok.fr fun y hy=>m0.fr y (hfl y hy) (by simp)) (by decide) (by rw[hlen];simp;omega) (by simp;omega) (by simp;omega)
   (by rw[zbK,zbJ,zbj];exact ⟨fun hm=>by have:=hfl _ hm;omega,f1⟩) (fun y hy=>by
    rw[zbK,zbJ,zbn] at hy;rcases hy with rfl | hy
    ·simp
    ·have:=hfl y hy;simp;omega) he
  simp only[zcp,zbH,zbJ] at p1 p2;have hfr:∀ y,y<h.length→h'[y]?=h[y]?:=fun y hy=>by rw[p4 y (by simp;omega) (by simp;omega)];exact m0.fr y hy (by simp)
  refine ⟨a',c',h',F',fun K=>by rw[s3];exact p1 K,p2,⟨by simp at p3;omega,fun y hy _=>hfr y hy,p6,fun y hy=>?_⟩,fun y hy=>⟨fun hm=>?_,by simp[hFkb y hy]⟩,hfr⟩
  ·simp at p3;rcases p5 y hy with g | g
   ·rw[zbK,zbJ,zbn] at g;rcases g with rfl | g
    ·exact .inr (by omega)
    ·exact .inl (by simp[(f2 y g).1])
   ·simp at g;exact .inr (by omega)
  ·have hyl:=hbd y (by simp[hFkb y hy]);rcases p5 y hm with g | g
   ·rw[zbK,zbJ,zbn] at g;rcases g with rfl | g
    ·omega
    ·exact (f2 y g).2 hy
   ·simp at g;omega
theorem Pn {k:Int} (hs:RNodes ro h [.sl 2 a l.length c] l F) (hn:l.length≤1048576):Ad lo 102 [.agg [.sl 2 a l.length c],Iv k] h=some (.bool (C5 l k),h):=by
 refine Tj (h':=h) ?_;rw[wr (by omega) (by omega),Bf,Ac,As];unfold C5;cases hw:Am k 0 ((l.length:Int) - 2) with
 | false=>rw[Au];rfl
 | true =>
 simp only[Am,Dr,decide_eq_true_eq] at hw;obtain ⟨f,rfl⟩:∃ f:Nat,k=(f:Int):=⟨k.toNat,by omega⟩;have hk:f<l.length:=by omega
 have hk1:f+1<l.length:=by omega
 obtain ⟨o,s1,s2,b1,d1,b2,d2,G1,G2,ha,_,_,ho2,_,e2,_⟩:=hs.get hk;obtain ⟨o',s1',s2',b1',d1',b2',d2',G1',G2',ha',_,_,ho2',_,e2',_⟩:=hs.get hk1;have:o=o':=by rw[ha] at ha';injection ha'
 subst this;rw[Be,Ll hk,HY hk1,Al,Ae hk,ha,Ag,ho2,Ag,Aa,Af,e2];by_cases h0:0<l[f].wait.length
 ·rw[Ak (by omega),Ar (by omega),Ae hk1,Ag,Be,ho2',Ag,Aa,Af,e2',decide_eq_true h0];by_cases h6:l[f+1].wait.length<6
  ·rw[Ak (by omega),decide_eq_true h6];rfl
  ·rw[Aj (by omega),decide_eq_false h6];rfl
 ·rw[Aj (by omega),decide_eq_false h0];rfl
def Yi (x:Node):Prop:=FN 20 x∧∀ v∈x.wait,0≤v.key∧v.key≤3
theorem NX {k:Nat} (hs:RNodes false h [.sl 2 a l.length c] l F) (hk:k+1<l.length) (h0:0<(l[k]'(by omega)).wait.length) (hnd:F.Nodup) (hlo:∀ b∈F,lo≤b) (hl:lo≤h.length) (hn:Cs l) (hx:∀ x∈l,Yi x) :
  ∃ h' F',Ad lo 103 [.agg [.sl 2 a l.length c],Iv (k:Nat)] h=some (.agg [.sl 2 a l.length c],h')∧RNodes false h' [.sl 2 a l.length c] (HD l k) F'∧Mv h F h' F':=by
 have hk':k<l.length:=by omega
 have hn1:=hn.1;suffices hq:∃ h' F',_=some (V.agg [.sl 2 a l.length c],h')∧RNodes false h' [.sl 2 a l.length c] (HD l k) F'∧Mv h F h' F' from hq.imp fun h' hq=>hq.imp fun F' hq=>⟨Q9 hq.1,hq.2⟩
 obtain ⟨b,i,rs,row,G0,ha,hbF,hbG,hb,hrow,hel,hGF,hGn,put⟩:=hs.at2 rnode_ok hk' hnd hlo;obtain ⟨t1,t2,F1,F2,rfl,rfl,r1,r2⟩:=hel;obtain ⟨a2,c2,e2,r2'⟩:=r2.form;have hGn0:=hGn;rw[zbd] at hGn;obtain ⟨o,s,av,cv,Gv,ho,hld,es,hp,a3,c3,h3,F3,e3,r3,m3,hGv,fr3⟩:=X3 (lo:=lo) r2' h0 hGn.2.1 hl (hn.2 _ (zbb hk')).2.1;have b1:∀ y∈F1,y<h.length:=rvers_ok.bd _ _ _ _ r1;have m4:=(m3.aside (G:=F1) (by rw[zbd];exact ⟨hGn.2.1,hGn.1,fun x hx y hy e=>hGn.2.2 y hy x hx e.symm⟩) b1).swap;have r1':RVers false h3 [t1] l[k].store F1:=rvers_ok.fr _ _ _ _ _ r1 fun y hy=>fr3 y (b1 y hy);obtain ⟨h4,F4,e4,r4,m5,fr4,sub4⟩:=put h3 (F1++F3) 1 [.sl 6 a3 (l[k].wait.eraseIdx 0).length c3] [t1,.sl 6 a3 (l[k].wait.eraseIdx 0).length c3] ⟨l[k].store,l[k].wait.eraseIdx 0⟩ m4 rfl ⟨_,_,F1,F3,rfl,rfl,r1',r3⟩;rw[← Nx hk'] at r4;have hln:=Nw (l:=l) (k:=k);have hGvG:∀ y∈Gv,y∈F1++F2:=fun y hy=>by simp[(hGv y hy).2]
 have hGvl:∀ y∈Gv,y<h.length:=rtags_ok.bd _ _ _ _ hp;have hd:∀ y∈Gv,y∉F4:=fun y hy hm=>by
  rcases sub4 y hm with g | g
  ·exact g.2 (hGvG y hy)
  ·rcases zbc.1 g with g | g
   ·exact hGn.2.2 y g y (hGv y hy).2 rfl
   ·exact (hGv y hy).1 g
 have hp4:RTags false h4 [.sl 2 av (l[k].wait[0]'h0).past.length cv] (l[k].wait[0]'h0).past Gv:=rtags_ok.fr _ _ _ _ _ hp fun y hy=>by rw[fr4 y fun e=>hbG (by rw[← e];exact hGvG y hy),fr3 y (hGvl y hy)]
 have hpx:=hx _ (zbb hk');have hky:=hpx.2 _ (zbb h0);have hth:=hpx.1.2.2.2 _ (zbb h0);have hk1:k+1<(Ik l k).length:=by rw[hln];exact hk
 have hst1:(Ik l k)[k+1].store.length=4:=by
  have:(Ik l k)[k+1]=l[k+1]:=by have e:=Nx hk';rw[List.getElem_of_eq e,List.getElem_set_ne (by omega)]
  rw[this];exact (hx _ (zbb hk)).1.1
 have hnd5:Cs (Ik l k):=by
  refine ⟨by rw[hln];exact hn1,fun x hx'=>?_⟩;rw[Nx hk'] at hx';rcases zby hx' with hx' | rfl
  ·exact hn.2 x hx'
  ·have:=hn.2 _ (zbb hk');exact ⟨this.1,Va this.2 (zba (zcG _ _) this.2.1) fun v hv=>zcr hv⟩
 rw[← hln] at r4;obtain ⟨h5,F5,e5,r5,m6⟩:=Lg (lo:=lo) (k:=k+1) (v:=l[k].wait[0]'h0) r4 hp4 hd m5.nd (fun y hy=>m5.ge hl hlo y hy) (zba hl m5.le) hk1 ⟨hky.1,by omega⟩ hnd5 (by have:=hth.1;omega);rw[hln] at e5 r5;rw[← Xg hk' h0] at r5;have hblt:b<h.length:=(EY hb).1;have ld1:ld h b (i+k) 1 1=some [t2]:=by rw[Bx hb hrow];rfl
 have ld2:ld (h ++ [.rows 6 34 false []]) b (i+k) 1 1=some [t2]:=by rw[Bx (by rw[zbe hblt];exact hb) hrow];rfl
 simp only[Ver.cs] at e5;have e5':Ad lo 193 [.agg [.sl 2 a l.length c],Iv ((k:Nat)+1:Int),.agg [Iv (l[k].wait[0]'h0).key,Iv (l[k].wait[0]'h0).tag.time,Iv (l[k].wait[0]'h0).tag.place,.sl 2 av (l[k].wait[0]'h0).past.length cv,.str (l[k].wait[0]'h0).text,.bool (l[k].wait[0]'h0).gone]] h4=some (.agg [.sl 2 a l.length c],h5):=by rw[show ((k:Nat)+1:Int)=((k+1:Nat):Int) by omega];exact e5
 rw[Ae hk',ha,Ag,Be,ld1,Ag,Aa,Af,e2,BI ⟨by omega,by omega⟩,ho,Ag,hld,Ag,Aa,Ab,Aa,Ab,Aa,Ab,Aa,es,Aa,Bh,Aa,At,Af,Ae hk',Ag,ld2,Ag,Aa,Af,e2,e3,Ah,Ae hk',Ag,e4,Ag,wr (n:=((k:Nat):Int)+1) (by omega) (by omega),← ha,e5',Ac,Ap,Aa,Ah,Af];exact ⟨h5,F5,rfl,r5,m5.trans m6⟩
end


variable {p:Place}
def Ob (p:Place) (k:Nat):Place:=⟨p.me,p.clock,HD p.chain k,p.log,p.got,p.fell⟩
def E2 (p:Place) (k:Int):Place:=bif C5 p.chain k then Bj (Ob p k.toNat) else p
theorem passN_len {l:List Node}{k:Nat}:(HD l k).length=l.length:=by
 unfold HD;split
 ·split
  ·rw[addN_len,Nw]
  ·rfl
 ·rfl
theorem W0 {nc nw nl k:Nat} (h:Tidy nc nw nl p):Tidy nc (nw+1) nl (Ob p k):=by
 have h0:Tidy nc (nw+1) nl p:=⟨h.len,fun x hx=>by have:=h.node x hx;exact ⟨this.1,Nat.le_succ_of_le this.2.1,this.2.2⟩,h.log,h.got⟩;unfold Ob HD;split
 ·rename_i x hk
  split
  ·rename_i v hv
   have hxm:=zbw hk;have hd:Tidy nc nw nl ⟨p.me,p.clock,Ik p.chain k,p.log,p.got,p.fell⟩:=by
    refine ⟨by show (Ik p.chain k).length≤nc;rw[Nw];exact h.len,fun y hy=>?_,h.log,h.got⟩;have hy:y∈Ik p.chain k:=hy;unfold Ik at hy;rw[hk] at hy;rcases zby hy with hy | rfl
    ·exact h.node y hy
    ·obtain ⟨g1,g2,g3,g4⟩:=h.node x hxm;exact ⟨g1,zba (zcG _ _) g2,g3,fun v hv=>g4 v (zcr hv)⟩
   exact LW hd ((h.node x hxm).2.2.2 v (zbw hv))
  ·exact h0
 ·exact h0
theorem Wi (h:An p=true):∀ x∈p.chain,Yi x:=fun x hx=>by have hno:=(Cf (AK h).2.2.2.1).2 x hx;have ht:=Ky hno;exact ⟨⟨ht.1,zba ht.2.1 (by decide),ht.2.2⟩,fun v hv=>(AB ((AD hno).2.2 v hv)).1⟩
theorem Wb {nc nw nl:Nat} (h:Tidy nc nw nl p) (h1:nc≤10) (h2:nw≤20) (h3:nl≤100):Tidy 10 20 100 p :=
 ⟨zba h.len h1,fun x hx=>by have:=h.node x hx;exact ⟨this.1,zba this.2.1 h2,this.2.2⟩,⟨zba h.log.1 h3,h.log.2⟩,h.got.1,fun l hl=>⟨zba (h.got.2 l hl).1 h3,(h.got.2 l hl).2⟩⟩
theorem Pb {h h1 h2:Heap}{G1 G1' G2 G2' G3:List Nat} (m1:Mv h G1 h1 G1') (m2:Mv h1 G2 h2 G2') (hnd:(G1++(G2++G3)).Nodup) (hb:∀ y∈G1++(G2++G3),y<h.length) :
  Mv h (G1++(G2++G3)) h2 (G1'++(G2'++G3))∧(∀ y∈G1',y∉G2)∧(∀ y∈G3,y∉G1)∧∀ y∈G3,y∉G2:=by
 rw[zbd,zbd] at hnd;obtain ⟨n2,⟨n3,n4,n5⟩,n6⟩:=hnd;have hb1:∀ y∈G1,y<h.length:=fun y hy=>hb y (by simp[hy]);have hb2:∀ y∈G2,y<h.length:=fun y hy=>hb y (by simp[hy]);have hb3:∀ y∈G3,y<h.length:=fun y hy=>hb y (by simp[hy]);have l1:=m1.le;have l2:=m2.le;have d1:∀ y∈G1',y∉G2:=fun y hy hm=>by
  rcases m1.sub y hy with g | g
  ·exact n6 y g y (by simp[hm]) rfl
  ·have:=hb2 y hm;omega
 have d2:∀ y∈G3,y∉G1:=fun y hy hm=>n6 y hm y (by simp[hy]) rfl;have d3:∀ y∈G3,y∉G2:=fun y hy hm=>n5 y hm y hy rfl;have s1:∀ y∈G1',y<h1.length:=m1.lt hb1;refine ⟨⟨by omega,fun y hy hF=>?_,?_,fun y hy=>?_⟩,d1,d2,d3⟩
 ·simp only[zbc,not_or] at hF;rw[m2.fr y (by omega) hF.2.1,m1.fr y hy hF.1]
 ·rw[zbd,zbd];refine ⟨m1.nd,⟨m2.nd,n4,fun x hx y hy e=>?_⟩,fun x hx y hy e=>?_⟩
  ·subst e;rcases m2.sub x hx with g | g
   ·exact d3 x hy g
   ·have:=hb3 x hy;omega
  ·subst e;rcases zbc.1 hy with hy | hy
   ·rcases m2.sub x hy with g | g
    ·exact d1 x hx g
    ·have:=s1 x hx;omega
   ·rcases m1.sub x hx with g | g
    ·exact d2 x hy g
    ·have:=hb3 x hy;omega
 ·simp only[zbc] at hy ⊢;rcases hy with hy | hy | hy
  ·rcases m1.sub y hy with g | g
   ·exact .inl (.inl g)
   ·exact .inr ⟨g.1,by omega⟩
  ·rcases m2.sub y hy with g | g
   ·exact .inl (.inr (.inl g))
   ·exact .inr ⟨by omega,g.2⟩
  ·exact .inl (.inr (.inr hy))
section
variable {lo:Nat}{h:Heap}{F F':List Nat}{a a':Pq}{c c':Nq}
theorem Pi {a1 a2 a3:Pq}{c1 c2 c3:Nq}{F1 F2:List Nat} (hs1:RNodes false h [.sl 2 a1 p.chain.length c1] p.chain F1) (hs2:RVers false h [.sl 6 a2 p.log.length c2] p.log F2)
  (h0:0<p.chain.length) (ht:Tidy 10 20 100 p) (hd:∀ b∈F1,b∉F2) (hnd:F2.Nodup) (hlo:∀ b∈F2,lo≤b) (hl:lo≤h.length) :
  ∃ a2' c2' h' F2',Ad lo 104 [.agg (p.cs a1 c1 a2 c2 a3 c3)] h=some (.agg ((Bj p).cs a1 c1 a2' c2' a3 c3),h')∧RVers false h' [.sl 6 a2' (Bj p).log.length c2'] (Bj p).log F2'∧Mv h F2 h' F2':=by
 obtain ⟨x,hx,hxe⟩:=Lo h0;have hxn:=ht.node x hx;exact NV hs1 hs2 h0 (by rw[hxe];exact hxn.1) hd hnd hlo hl (zba ht.len (by decide)) (zba ht.log.1 (by decide)) (fun w hw=>by rw[hxe] at hw;have:=(hxn.2.2.1 w hw).1;omega)
end


variable {v:Ver}
theorem HO {u:Ver}:AZ u v=true↔u.tag.time<v.tag.time∨(u.tag.time=v.tag.time∧u.tag.place<v.tag.place):=by simp[AZ,Gp]
theorem Xp {u:Ver}:AZ u v=false↔¬ (u.tag.time<v.tag.time∨(u.tag.time=v.tag.time∧u.tag.place<v.tag.place)):=by rw[← HO,Bool.not_eq_true]
def GJ (v:Ver):List Ver→List Ver
 | [] => [v]
 | u :: r=>bif AZ u v then u :: GJ v r else v :: u :: r
theorem Mg {v:Ver}:∀ {l:List Ver},(GJ v l).length=l.length+1
 | []=>rfl
 | u :: r=>by
  simp only[GJ];cases AZ u v with
  | true=>simp[Mg (l:=r)]
  | false=>simp
theorem insF_mem {v x:Ver}:∀ {l:List Ver},x∈GJ v l↔x=v∨x∈l
 | []=>by simp[GJ]
 | u :: r=>by
  simp only[GJ];cases AZ u v with
  | true =>
   rw[cond_true,zbn,insF_mem (l:=r),zbn];constructor
   ·rintro (h | h | h)
    ·exact .inr (.inl h)
    ·exact .inl h
    ·exact .inr (.inr h)
   ·rintro (h | h | h)
    ·exact .inr (.inl h)
    ·exact .inl h
    ·exact .inr (.inr h)
  | false=>simp
section
variable {lo:Nat}{h:Heap}{F F' G:List Nat}{a a' av:Pq}{c c' cv:Nq}
def zaK (l:List Ver):List Ver:=l.foldl (fun acc v=>GJ v acc) []
end


variable {α:Type}{El:Rel α}{l:List α}
theorem Kx {h:Heap}{lo R e n bytes:Nat}{a:Pq}{c:Nq}{ys:List α}{F:List Nat}{xs:List (List V)}{Gs:List (List Nat)} (hfr:El.Fr)
  (hs:Sli false R e El h [.sl R a n c] l F) (hx:EAll El h xs ys Gs) (hb:0<bytes) (hsz:(l.length+ys.length)*bytes≤140737488355328) (hlo:∀ b∈F,lo≤b) (hl:lo≤h.length)
  (hnd:(F++Gs.flatten).Nodup) (hF:∀ b∈F++Gs.flatten,b<h.length) :
  ∃ a' c' h' F',(∀ {R':Type} (K:V→Heap→Option R'),Dd lo e R bytes (.sl R a n c) xs h K=K (.sl R a' (l.length+ys.length) c') h')∧Sli false R e El h' [.sl R a' (l.length+ys.length) c'] (l++ys) F'∧h.length≤h'.length ∧
   (∀ b,b<h.length→b∉F→h'[b]?=h[b]?)∧(∀ b∈F',b∈F++Gs.flatten∨(h.length≤b∧b<h'.length))∧F'.Nodup:=by
 cases ys with
 | nil =>have hx0:xs = []:=zbm hx.len.1;have hn:=hs.val;subst hx0;subst hn;rw[zbd] at hnd;exact ⟨a,c,h,F,fun K=>rfl,by rw[zb6];exact hs,zbf _,fun _ _ _=>rfl,fun b hb => .inl (by simp[hb]),hnd.1⟩
 | cons y ys=>exact Sli.push hfr hs hx hb hsz hlo hl hnd hF (by simp)
theorem Sli.parts {R e:Nat}{h:Heap}{a:Pq}{c:Nq}{F:List Nat} (hs:Sli false R e El h [.sl R a l.length c] l F) (hnd:F.Nodup) :
  ∃ Fs:List (List Nat),Fs.flatten.Nodup∧(∀ y∈Fs.flatten,y∈F)∧(∀ b i,a=some (b,i)→b∈F∧b∉Fs.flatten)∧∀ k,k≤l.length→∃ rP rQ,EAll El h rP (l.take k) (Fs.take k)∧EAll El h rQ (l.drop k) (Fs.drop k) ∧
   (∀ {T:Type} (h':Heap),(∀ b i,a=some (b,i)→h'[b]?=h[b]?)→∀ K:List (List V)→Option T,(Ax a l.length c none (some (Iv (k:Nat))) none fun a n c=>Av R h' (.sl R a n c) K)=K rP) ∧
   (∀ {T:Type} (h':Heap),(∀ b i,a=some (b,i)→h'[b]?=h[b]?)→∀ K:List (List V)→Option T,(Ax a l.length c (some (Iv (k:Nat))) none none fun a n c=>Av R h' (.sl R a n c) K)=K rQ):=by
 obtain ⟨R1,a1,c1,e1,g⟩:=hs;injection e1 with e1 _;injection e1 with e0 e2 _ e3;subst e2;subst e3;cases a with
 | none =>
  obtain ⟨rfl,rfl,rfl⟩:=g;refine ⟨[],by simp,by simp,fun b i h=>by simp at h,fun k hk=>?_⟩;have hk0:k=0:=by simpa using hk
  subst hk0;refine ⟨[],[],trivial,trivial,fun h' _ K=>?_,fun h' _ K=>?_⟩
  ·unfold Ax FI IV JR;simp only[Ab,zck];rw[DT ⟨by simp,by simp⟩];simp[Av]
  ·unfold Ax FI IV JR;simp only[Ab,zck];rw[DT ⟨by simp,by simp⟩];simp[Av,Pv]
 | some p =>
  obtain ⟨b,i⟩:=p;obtain ⟨_,rs,Fs,g1,g2,g3,_,g5,rfl⟩:=g;rw[zbj] at hnd;have key:∀ {T:Type} (h':Heap),h'[b]?=h[b]?→∀ (K:List (List V)→Option T) (j m:Nat) (c8:Nq),j+m≤rs.length→Av R h' (.sl R (some (b,j)) m c8) K=K ((rs.drop j).take m):=fun h' hb' K j m c8 hj=>by
   simp only[Av,JG,GF];cases m with
   | zero=>simp
   | succ m =>
    simp only;rw[show Ey h' b j (m+1)=some ((rs.drop j).take (m+1)) by
     simp only[Ey,Heap.rows?,hb',g1,zbN];rw[Ff hj]]
    rfl
  refine ⟨Fs,hnd.2,fun y hy=>zbS _ hy,fun b' i' e=>by injection e with e;injection e with e1 e2;subst e1;exact ⟨by simp,hnd.1⟩,fun k hk=>?_⟩;have hrP:((rs.drop i).take l.length).take k=(rs.drop i).take k:=by rw[List.take_take,Nat.min_eq_left hk]
  have hrQ:((rs.drop i).take l.length).drop k=(rs.drop (i+k)).take (l.length - k):=by rw[List.drop_take,zcl]
  refine ⟨(rs.drop i).take k,(rs.drop (i+k)).take (l.length - k),by rw[← hrP];exact g5.take k,by rw[← hrQ];exact g5.drop k,fun h' hh K=>?_,fun h' hh K=>?_⟩
  ·unfold Ax FI IV JR;simp only[Ab,zck,Be];have:=key h' (hh b i rfl) K i k c (by omega);cases c with
   | none=>simp only;rw[DT ⟨by omega,by omega⟩];exact this
   | some N=>simp only;rw[DT ⟨by omega,by have:=(g3 N rfl).1;omega⟩];exact this
  ·unfold Ax FI IV JR;simp only[Ab,zck,Be];rw[DT ⟨by omega,by omega⟩];cases c with
   | none=>exact key h' (hh b i rfl) K (i+k) (l.length - k) none (by omega)
   | some N =>
    have hN:=(g3 N rfl).1;unfold Pv;simp only;cases hb:Nat.beq N k with
    | false=>rw[Au];exact key h' (hh b i rfl) K (i+k) (l.length - k) _ (by omega)
    | true =>have:=zbl hb;rw[Al,show l.length - k=0 by omega];simp[Av,Bq]
def FR (out:List Ver) (x:Ver×Ver):List Ver:=bif AZ x.2 x.1 then GJ x.1 out else out
def Ee (s t:List Ver):List Ver:=(s.zip t).foldl FR []
theorem SG {v:Ver}:∀ {l:List Ver}{k:Nat},k≤l.length→(∀ i (hi:i<l.length),i<k→AZ l[i] v=true)→(∀ hk:k<l.length,AZ l[k] v=false)→GJ v l=l.take k++v :: l.drop k
 | [],k,hk,_,_=>by simp[GJ]
 | u :: r,0,hk,_,h2=>by have:=h2 (by simp);simp only[List.getElem_cons_zero] at this;simp[GJ,this]
 | u :: r,k+1,hk,h1,h2=>by have h0:=h1 0 (by simp) (by omega);simp only[List.getElem_cons_zero] at h0;simp only[GJ,h0,cond_true,List.take_succ_cons,List.drop_succ_cons,zbK];rw[SG (l:=r) (k:=k) (by simpa using hk) (fun i hi hik=>by have:=h1 (i+1) (by simpa using hi) (by omega);simpa using this) (fun hkr=>by have:=h2 (by simpa using hkr);simpa using this)]
section
variable {lo:Nat}{h:Heap}{F F' G:List Nat}{a a' av:Pq}{c c' cv:Nq}
theorem Jx (ok:El.Ok) {R e bytes:Nat}{rows:List (List V)}{Fs:List (List Nat)} (hx:EAll El h rows l Fs) (hnd:Fs.flatten.Nodup) (hF:∀ y∈Fs.flatten,y<h.length) (hb:0<bytes) (hsz:l.length*bytes≤140737488355328) (hl:lo≤h.length) :
  ∃ a' c' h' F',(∀ {T:Type} (K:V→Heap→Option T),Dd lo e R bytes (.sl R (some (h.length,0)) 0 (some 0)) rows (h ++ [.rows R e false []]) K=K (.sl R a' l.length c') h')∧Sli false R e El h' [.sl R a' l.length c'] l F'∧h.length<h'.length∧(∀ y,y<h.length→h'[y]?=h[y]?) ∧
   (∀ y∈F',y∈Fs.flatten∨(h.length≤y∧y<h'.length))∧F'.Nodup:=by
 have m0:Mv h [] (h ++ [.rows R e false []]) [h.length]:=Mv.last;have hfresh:Sli false R e El (h ++ [.rows R e false []]) [.sl R (some (h.length,0)) 0 (some 0)] [] [h.length]:=Sli.fresh (zbf _);obtain ⟨a',c',h',F',p1,p2,p3,p4,p5,p6⟩:=Kx (lo:=lo) (bytes:=bytes) ok.fr hfresh (xs:=rows) (ys:=l) (Gs:=Fs) (hx.fr ok.fr fun y hy=>m0.fr y (hF y hy) (by simp)) hb (by simpa using hsz) (by simp;omega) (by simp;omega)
  (by rw[zbK,zbJ,zbj];exact ⟨fun hm=>by have:=hF _ hm;omega,hnd⟩) (fun y hy=>by
   rw[zbK,zbJ,zbn] at hy;rcases hy with rfl | hy
   ·simp
   ·have:=hF y hy;simp;omega)
 simp only[zcp,zbH,zbJ] at p1 p2;refine ⟨a',c',h',F',p1,p2,by simp at p3;omega,fun y hy=>?_,fun y hy=>?_,p6⟩
 ·rw[p4 y (by simp;omega) (by simp;omega)];exact m0.fr y hy (by simp)
 ·simp at p3;rcases p5 y hy with g | g
  ·rw[zbK,zbJ,zbn] at g;rcases g with rfl | g
   ·exact .inr (by omega)
   ·exact .inl g
  ·simp at g;exact .inr (by omega)
theorem Eo {Fs:List (List Nat)}{k:Nat} (hnd:Fs.flatten.Nodup):(Fs.take k).flatten.Nodup∧(Fs.drop k).flatten.Nodup∧∀ x∈(Fs.take k).flatten,∀ y∈(Fs.drop k).flatten,x≠y:=by rw[← zbQ k Fs,zbL,zbd] at hnd;exact hnd
theorem TQ {s t:List Ver}{a1 a2:Pq}{c1 c2:Nq}{F1 F2:List Nat} (hs:RVers false h [.sl 6 a1 s.length c1] s F1) (ht:RVers false h [.sl 6 a2 t.length c2] t F2) (h4:s.length=4) (h4':t.length=4) (hpn:∀ v∈s,v.past.length≤1048576) (hl:lo≤h.length) :
  ∃ a' c' h' F',Ad lo 204 [.agg [.sl 6 a1 s.length c1],.agg [.sl 6 a2 t.length c2]] h=some (.sl 6 a' (Ee s t).length c',h')∧RVers false h' [.sl 6 a' (Ee s t).length c'] (Ee s t) F'∧Mv h [] h' F':=by
 suffices hq:∃ a' c' h' F',_=some (V.sl 6 a' (Ee s t).length c',h')∧RVers false h' [.sl 6 a' (Ee s t).length c'] (Ee s t) F'∧Mv h [] h' F' from by obtain ⟨a',c',h',F',e,hr⟩:=hq;exact ⟨a',c',h',F',Rb e,hr⟩
 have hzl:(s.zip t).length=4:=by rw[List.length_zip];omega
 have one:∀ m i,m+i=4→∀ hh ax cx (out:List Ver) Fx,RVers false hh [.sl 6 ax out.length cx] out Fx→Mv h [] hh Fx→out.length≤i→∃ a' c' h' F',
   BD lo ax out.length cx (i:Nat) a1 s.length c1 a2 t.length c2 hh=some (.sl 6 a' (((s.zip t).drop i).foldl FR out).length c',h')∧RVers false h' [.sl 6 a' (((s.zip t).drop i).foldl FR out).length c'] (((s.zip t).drop i).foldl FR out) F'∧Mv h [] h' F':=by
  intro m;induction m with
  | zero =>intro i hi hh ax cx out Fx hr hm hlen;rw[BD.e,Aj (by omega),zb2 (by omega)];exact ⟨ax,cx,hh,Fx,rfl,hr,hm⟩
  | succ m ih =>
   intro i hi hh ax cx out Fx hr hm hlen;have his:i<s.length:=by omega
   have hit:i<t.length:=by omega
   have hs':=hm.keep0 rvers_ok hs;have ht':=hm.keep0 rvers_ok ht;obtain ⟨o1,s1,b1,d1,H1,ha1,_,_,_,_,_,_,hl1,hl1',es1,hp1,_⟩:=RVers.all hs' his;obtain ⟨o2,s2,b2,d2,H2,ha2,_,_,_,_,_,_,hl2,_,_,_,_⟩:=RVers.all ht' hit;have hzi:i<(s.zip t).length:=by omega
   rw[zbC hzi,zbU,zcL];have hlf:FR out (s[i],t[i])=bif AZ t[i] s[i] then GJ s[i] out else out:=rfl;rw[hlf,BD.e,Ak (by omega),Ae hit,ha2,Ag,Be,hl2,Ag,Aa,Ab,Aa,Ab,Af,Ae his,ha1,Ag,hl1,Ag,Aa,Ab,Aa,Ab,Af,Bz,Ac,As,← ha1,← ha2];show ∃ a' c' h' F',br (AZ t[i] s[i]) _ _=_∧_;cases hless:AZ t[i] s[i] with
   | false =>rw[Au,cond_false,Ar (by omega)];exact ih (i+1) (by omega) hh ax cx out Fx hr hm (by omega)
   | true =>
   rw[Al,cond_true];have put:∀ k,k≤out.length→GJ s[i] out=out.take k++s[i] :: out.drop k→∃ a' c' h' F',(Ax ax out.length cx none (some (Iv (k:Nat))) none fun a_36 n_37 c_38=>Av 6 (hh ++ [.rows 6 34 false []]) (.sl 6 a_36 n_37 c_38) fun x_39=>Dd lo 34 6 72 (.sl 6 (some ((List.length hh),0)) 0 (some 0)) x_39 (hh ++ [.rows 6 34 false []]) fun v_40 h_41=>eS 6 (v_40) fun a_42 n_43 c_44=>Ao ((i:Nat):Int) s.length (eO a1 fun o_45=>eO (ld h_41 (o_45.1) ((o_45.2)+(((i:Nat):Int).toNat)) 0 6) fun o_46=>eC o_46 fun v_47 l_48=>eI .i64 v_47 fun n_49=>eC l_48 fun v_50 l_51=>eI .i64 v_50 fun n_52=>eC l_51 fun v_53 l_54=>eI .i64 v_53 fun n_55=>eC l_54 fun v_56 l_57=>eS 2 (v_56) fun a_58 n_59 c_60=>eC l_57 fun v_61 l_62=>eT v_61 fun s_63=>eC l_62 fun v_64 l_65=>eBv v_64 fun b_66=>eN l_65 (Ai (Ad lo 164 [.agg [Iv (n_49),Iv (n_52),Iv (n_55),.sl 2 a_58 n_59 c_60,.str (s_63),.bool (b_66)]] h_41) fun v_67 h_68=>eA v_67 fun c_69=>eC c_69 fun v_70 l_71=>eI .i64 v_70 fun n_72=>eC l_71 fun v_73 l_74=>eI .i64 v_73 fun n_75=>eC l_74 fun v_76 l_77=>eI .i64 v_76 fun n_78=>eC l_77 fun v_79 l_80=>eS 2 (v_79) fun a_81 n_82 c_83=>eC l_80 fun v_84 l_85=>eT v_84 fun s_86=>eC l_85 fun v_87 l_88=>eBv v_87 fun b_89=>eN l_88 (Av 6 (h_68 ++ [.rows 6 34 false [[Iv (n_72),Iv (n_75),Iv (n_78),.sl 2 a_81 n_82 c_83,.str (s_86),.bool (b_89)]]]) (.sl 6 (some ((List.length h_68),0)) 1 (some 1)) fun x_90=>Dd lo 34 6 72 (.sl 6 a_42 n_43 c_44) x_90 (h_68 ++ [.rows 6 34 false [[Iv (n_72),Iv (n_75),Iv (n_78),.sl 2 a_81 n_82 c_83,.str (s_86),.bool (b_89)]]]) fun v_91 h_92=>eS 6 (v_91) fun a_93 n_94 c_95=>Ax ax out.length cx (some (Iv (k:Nat))) none none fun a_96 n_97 c_98=>Av 6 h_92 (.sl 6 a_96 n_97 c_98) fun x_99=>Dd lo 34 6 72 (.sl 6 a_93 n_94 c_95) x_99 h_92 fun v_100 h_101=>eS 6 (v_100) fun a_102 n_103 c_104=>BD lo a_102 n_103 c_104 (IntKind.wrap .i64 (((i:Nat):Int)+1)) a1 s.length c1 a2 t.length c2 h_101))))=some (V.sl 6 a' (((s.zip t).drop (i+1)).foldl FR (GJ s[i] out)).length c',h') ∧
     RVers false h' [.sl 6 a' (((s.zip t).drop (i+1)).foldl FR (GJ s[i] out)).length c'] (((s.zip t).drop (i+1)).foldl FR (GJ s[i] out)) F'∧Mv h [] h' F':=by
    intro k hk hins;have hbx:=rvers_ok.bd _ _ _ _ hr;obtain ⟨Fs,nF,sF,own,cuts⟩:=hr.parts hm.nd;obtain ⟨rP,rQ,eP,eQ,kP,kQ⟩:=cuts k hk;obtain ⟨nP,nQ,dPQ⟩:=Eo (k:=k) nF;have inP:∀ y∈(Fs.take k).flatten,y∈Fs.flatten:=fun y hy=>by rw[← zbQ k Fs,zbL];simp[hy]
    have inQ:∀ y∈(Fs.drop k).flatten,y∈Fs.flatten:=fun y hy=>by rw[← zbQ k Fs,zbL];simp[hy]
    have hFl:∀ y∈Fs.flatten,y<hh.length:=fun y hy=>hbx y (sF y hy);have hlh:lo≤hh.length:=zba hl hm.le;have htl:(out.take k).length=k:=by rw[zcu];omega
    have hdl:(out.drop k).length=out.length - k:=by rw[zcv]
    obtain ⟨a3,c3,h3,F3,e3,r3,l3,fr3,sub3,nd3⟩:=Jx (lo:=lo) (R:=6) (e:=UC false) (bytes:=72) rver_ok eP nP (fun y hy=>hFl y (inP y hy)) (by decide) (by omega) hlh;have m3:Mv hh [] h3 []:=⟨by omega,fun y hy _=>fr3 y hy,by simp,by simp⟩;have hs3:=m3.keep0 rvers_ok hs';obtain ⟨o4,s4,b4,d4,H4,ha4,ho4,es4,hp4,_⟩:=hs3.get his;obtain ⟨a5,c5,h5,F5,e5,r5,m5⟩:=Cy (lo:=lo) (v:=s[i]) hp4 (by omega) (hpn _ (zbb his));obtain ⟨a6,c6,h6,F6,e6,r6,m6⟩:=EV (lo:=lo) (bytes:=72) (e:=34) rver_ok r3 (row:=s[i].cs a5 c5) (x:=s[i]) (G:=F5) (h1:=h5 ++ [.rows 6 34 false [s[i].cs a5 c5]])
     ⟨_,rfl,Mv.snoc.keep0 rtags_ok r5⟩ (m5.trans (Mv.snoc' m5.nd)) nd3 (fun y hy=>by
      rcases sub3 y hy with g | g
      ·exact hm.ge hl (by simp) y (sF y (inP y g))
      ·omega) (by omega) (by decide) (by omega)
    have hQ3:∀ y∈(Fs.drop k).flatten,y∉F3∧y<h3.length:=fun y hy=>by
     have:=hFl y (inQ y hy);refine ⟨fun hm3=>?_,by omega⟩;rcases sub3 y hm3 with g | g
     ·exact dPQ y g y hy rfl
     ·omega
    have hQ6:∀ y∈(Fs.drop k).flatten,h6[y]?=hh[y]?:=fun y hy=>by rw[m6.fr y (hQ3 y hy).2 (hQ3 y hy).1];exact fr3 y (hFl y (inQ y hy))
    have l6:=m6.le;have F6b:∀ y∈F6,y<h6.length:=rvers_ok.bd _ _ _ _ r6;obtain ⟨a7,c7,h7,F7,e7,r7,l7,fr7,sub7,nd7⟩:=Kx (lo:=lo) (bytes:=72) rver_ok.fr r6 (xs:=rQ) (ys:=out.drop k) (Gs:=Fs.drop k) (eQ.fr rver_ok.fr hQ6) (by decide) (by simp only[zbo,htl,hdl,zbv];omega) (fun y hy=>m6.ge (by omega) (fun y hy=>by
      rcases sub3 y hy with g | g
      ·exact hm.ge hl (by simp) y (sF y (inP y g))
      ·omega) y hy) (by omega) (by
      rw[zbd];refine ⟨m6.nd,nQ,fun x hx y hy e=>?_⟩;subst e;rcases m6.sub x hx with g | g
      ·exact (hQ3 x hy).1 g
      ·have:=(hQ3 x hy).2;omega) (fun y hy=>by
      rcases zbc.1 hy with hy | hy
      ·exact F6b y hy
      ·have:=(hQ3 y hy).2;omega)
    have hfin:out.take k ++ [s[i]]++out.drop k=GJ s[i] out:=by rw[hins,zbs];rfl
    have hflen:(out.take k).length+1+(out.drop k).length=(GJ s[i] out).length:=by rw[Mg,htl,hdl];omega
    rw[zbo,zbv,hflen] at e7 r7;rw[hfin] at r7;have m7:Mv h [] h7 F7:=by
     refine ⟨by have:=hm.le;omega,fun y hy _=>?_,nd7,fun y hy=>?_⟩
     ·have y1:y<hh.length:=zbk hy hm.le;have yF:y∉Fx:=fun hmx=>by have:=hm.new y hmx;omega
      have y3:y∉F3:=fun hm3=>by
       rcases sub3 y hm3 with g | g
       ·exact yF (sF y (inP y g))
       ·omega
      have y6:y∉F6:=fun hm6=>by
       rcases m6.sub y hm6 with g | g
       ·exact y3 g
       ·omega
      rw[fr7 y (by omega) y6,m6.fr y (by omega) y3,fr3 y y1,hm.fr y hy (by simp)]
     ·refine .inr ?_;have hh':=hm.le;rcases sub7 y hy with g | g
      ·rcases zbc.1 g with g | g
       ·rcases m6.sub y g with g | g
        ·rcases sub3 y g with g | g
         ·have:=hm.new y (sF y (inP y g));have:=hFl y (inP y g);omega
         ·omega
        ·omega
       ·have:=hm.new y (sF y (inQ y g));have:=hFl y (inQ y g);omega
      ·omega
    obtain ⟨a8,c8,h8,F8,e8,r8,m8⟩:=ih (i+1) (by omega) h7 a7 c7 (GJ s[i] out) F7 r7 m7 (by rw[Mg];omega);refine ⟨a8,c8,h8,F8,?_,r8,m8⟩;have mm0:Mv hh [] (hh ++ [.rows 6 34 false []]) []:=Mv.snoc;have h6x:∀ b i,ax=some (b,i)→h6[b]?=hh[b]?:=fun b i e=>by
     obtain ⟨q1,q2⟩:=own b i e;have:=hbx b q1;rw[m6.fr b (by omega) fun hm3=>?_,fr3 b this];rcases sub3 b hm3 with g | g
     ·exact q2 (inP b g)
     ·omega
    simp only[Ver.cs] at e6;rw[show UC false=34 from rfl] at e3;rw[kP _ (fun b i e=>mm0.fr b (hbx b (own b i e).1) (by simp)),e3,Ah,Ae his,ha4,Ag,Be,ho4,Ag,Aa,Ab,Aa,Ab,Aa,Ab,Aa,es4,Aa,Bh,Aa,At,Af];rw[show (V.agg [Iv s[i].key,Iv s[i].tag.time,Iv s[i].tag.place,.sl 2 b4 s[i].past.length d4,.str s[i].text,.bool s[i].gone]) = .agg (s[i].cs b4 d4) from rfl,e5,Ac,Ap,Aa,Ab,Aa,Ab,Aa,Ab,Aa,Ah,Aa,Bh,Aa,At,Af,A4,e6,Ah,kQ _ h6x,e7,Ah,Ar (by omega),← ha4];exact e8
   have two:∀ m k,m+k=out.length→(∀ j (hj:j<out.length),j<k→AZ out[j] s[i]=true)→∃ a' c' h' F',CR lo ax out.length cx (i:Nat) (k:Nat) a1 s.length c1 a2 t.length c2 hh=some (V.sl 6 a' (((s.zip t).drop (i+1)).foldl FR (GJ s[i] out)).length c',h') ∧
     RVers false h' [.sl 6 a' (((s.zip t).drop (i+1)).foldl FR (GJ s[i] out)).length c'] (((s.zip t).drop (i+1)).foldl FR (GJ s[i] out)) F'∧Mv h [] h' F':=by
    intro m;induction m with
    | zero =>intro k hk hall;rw[CR.e,Aj (by omega)];exact put k (by omega) (SG (by omega) hall (fun h=>by omega))
    | succ m ih2 =>
     intro k hk hall;have hkl:k<out.length:=by omega
     obtain ⟨o3,s3,b3,d3,H3,ha3,_,_,_,_,_,_,hl3,_,_,_,_⟩:=RVers.all hr hkl;rw[CR.e,Ak (by omega),Ae hkl,ha3,Ag,Be,hl3,Ag,Aa,Ab,Aa,Ab,Af,Ae his,ha1,Ag,Be,hl1,Ag,Aa,Ab,Aa,Ab,Af,Bz,Ac,As,← ha1,← ha3];show ∃ a' c' h' F',br (AZ out[k] s[i]) _ _=_∧_;cases hlk:AZ out[k] s[i] with
     | true =>
      rw[Al,Ar (by omega)];exact ih2 (k+1) (by omega) (fun j hj hjk=>by
       by_cases e:j=k
       ·subst e;exact hlk
       ·exact hall j hj (by omega))
     | false =>rw[Au];exact put k (by omega) (SG (by omega) hall (fun _=>hlk))
   exact two out.length 0 (by omega) (fun j _ hj=>by omega)
 have m0:Mv h [] (h ++ [.rows 6 34 false []]) [h.length]:=Mv.last;obtain ⟨a',c',h',F',e,r,m⟩:=one 4 0 (by omega) (h ++ [.rows 6 34 false []]) (some (h.length,0)) (some 0) [] [h.length] (Sli.fresh (zbf _)) m0 (by simp);rw[zcc] at e r;exact ⟨a',c',h',F',e,r,m⟩
end


variable {l:List Node}{w:List Ver}
def D9 (l:List Node) (k:Nat) (w:List Ver):List Node:=match l[k]? with
 | some x=>l.set k ⟨x.store,w⟩
 | none=>l
def FH (l:List Node) (k:Nat):List Ver:=match l[k]? with
 | some x=>x.store
 | none => []
def Cq (l:List Node) (k:Nat):List Node :=
 bif decide (0<k) then (bif decide (k<(l.eraseIdx k).length) then D9 (l.eraseIdx k) (k - 1) (Ee (FH (l.eraseIdx k) (k - 1)) (FH (l.eraseIdx k) k)) else D9 (l.eraseIdx k) (k - 1) []) else l.eraseIdx k
theorem HT {k:Nat} (hk:k<l.length):D9 l k w=l.set k ⟨l[k].store,w⟩:=by unfold D9;rw[Dc hk]
theorem EE {k:Nat} (hk:k<l.length):FH l k=l[k].store:=by unfold FH;rw[Dc hk]
theorem Em {k:Nat}:(D9 l k w).length=l.length:=by unfold D9;split<;>simp
theorem NR {k:Nat} (hk:k<l.length) (hw:l[k].wait = []):D9 l k []=l:=by
 rw[HT hk];have:(⟨l[k].store,[]⟩:Node)=l[k]:=by
  cases hx:l[k] with
  | mk s w=>rw[hx] at hw;simp only at hw;rw[hw]
 rw[this];exact zcI hk
section
variable {lo:Nat}{h:Heap}{F F' G:List Nat}{a a' av:Pq}{c c' cv:Nq}
theorem TU {n k:Nat}{ws:List Ver}{w:V}{h1:Heap}{Fw:List Nat} (hs:RNodes false h [.sl 2 a n c] l F) (hk:k<l.length) (hnd:F.Nodup) (hlo:∀ b∈F,lo≤b) (hw:RVers false h1 [w] ws Fw) (m:Mv h [] h1 Fw) :
  ∃ b i h2 F',a=some (b,i)∧b∈F∧st lo h1 b (i+k) 1 [w]=some h2∧RNodes false h2 [.sl 2 a n c] (D9 l k ws) F'∧Mv h F h2 F'∧(∀ y,y≠b→h2[y]?=h1[y]?):=by
 obtain ⟨b,i,rs,row,G0,ha,hbF,hbG,hb,hrow,hel,hGF,hGn,put⟩:=hs.at2 rnode_ok hk hnd hlo;obtain ⟨t1,t2,F1,F2,rfl,rfl,r1,r2⟩:=hel;rw[zbd] at hGn;have b1:∀ y∈F1,y<h.length:=rvers_ok.bd _ _ _ _ r1;have m1:Mv h (F1++F2) h1 (F1++Fw):=by
  refine ⟨m.le,fun y hy _=>m.fr y hy (by simp),?_,fun y hy=>?_⟩
  ·rw[zbd];refine ⟨hGn.1,m.nd,fun x hx y hy e=>?_⟩;subst e;have:=b1 x hx;have:=m.new x hy;omega
  ·rcases zbc.1 hy with hy | hy
   ·exact .inl (by simp[hy])
   ·exact (m.sub y hy).imp (fun g=>by simp at g) id
 obtain ⟨h2,F',e2,r,m2,fr,_⟩:=put h1 (F1++Fw) 1 [w] [t1,w] ⟨l[k].store,ws⟩ m1 rfl ⟨_,_,F1,Fw,rfl,rfl,m.keep0 rvers_ok r1,hw⟩;rw[← HT hk] at r;exact ⟨b,i,h2,F',ha,hbF,e2,r,m2,fr⟩
theorem XG {k:Nat} (hs:RNodes false h [.sl 2 a l.length c] l F) (hk:k<l.length) (hnd:F.Nodup) (hlo:∀ b∈F,lo≤b) (hl:lo≤h.length) (hn:l.length≤1048576) :
  ∃ a' c' h' F',(∀ {T:Type} (K:V→Heap→Option T),(Ax a l.length c none (some (Iv (k:Nat))) none fun a_0 n_1 c_2=>Av 2 (h ++ [.rows 2 45 false []]) (.sl 2 a_0 n_1 c_2) fun x_3=>Dd lo 45 2 48 (.sl 2 (some ((List.length h),0)) 0 (some 0)) x_3 (h ++ [.rows 2 45 false []]) fun v_4 h_5=>eS 2 (v_4) fun a_6 n_7 c_8 =>
    Ax a l.length c (some (Iv ((k+1:Nat):Int))) none none fun a_9 n_10 c_11=>Av 2 h_5 (.sl 2 a_9 n_10 c_11) fun x_12=>Dd lo 45 2 48 (.sl 2 a_6 n_7 c_8) x_12 h_5 K)=K (.sl 2 a' (l.eraseIdx k).length c') h') ∧
   RNodes false h' [.sl 2 a' (l.eraseIdx k).length c'] (l.eraseIdx k) F'∧Mv h F h' F':=by
 have hbd:=rnodes_ok.bd _ _ _ _ hs;obtain ⟨Fs,nF,sF,own,cuts⟩:=Sli.parts hs hnd;obtain ⟨rP,_,eP,_,kP,_⟩:=cuts k (by omega);obtain ⟨_,rQ,_,eQ,_,kQ⟩:=cuts (k+1) (by omega);obtain ⟨nP,_,dPQ⟩:=Eo (k:=k) nF;obtain ⟨_,nQ,_⟩:=Eo (k:=k+1) nF;have inP:∀ y∈(Fs.take k).flatten,y∈Fs.flatten:=fun y hy=>by rw[← zbQ k Fs,zbL];simp[hy]
 have inQ:∀ y∈(Fs.drop (k+1)).flatten,y∈(Fs.drop k).flatten:=fun y hy=>by
  have:Fs.drop (k+1)=(Fs.drop k).drop 1:=by rw[zcl]
  rw[this] at hy;rw[← zbQ 1 (Fs.drop k),zbL];exact zbc.2 (.inr hy)
 have inQ':∀ y∈(Fs.drop (k+1)).flatten,y∈Fs.flatten:=fun y hy=>by rw[← zbQ k Fs,zbL];simp[inQ y hy]
 have hFl:∀ y∈Fs.flatten,y<h.length:=fun y hy=>hbd y (sF y hy);have htl:(l.take k).length=k:=by rw[zcu];omega
 have hdl:(l.drop (k+1)).length=l.length - (k+1):=by rw[zcv]
 obtain ⟨a3,c3,h3,F3,e3,r3,l3,fr3,sub3,nd3⟩:=Jx (lo:=lo) (R:=2) (e:=Om false) (bytes:=48) rnode_ok eP nP (fun y hy=>hFl y (inP y hy)) (by decide) (by omega) hl;have hQ3:∀ y∈(Fs.drop (k+1)).flatten,y∉F3∧y<h3.length:=fun y hy=>by
  have:=hFl y (inQ' y hy);refine ⟨fun hm3=>?_,by omega⟩;rcases sub3 y hm3 with g | g
  ·exact dPQ y g y (inQ y hy) rfl
  ·omega
 have F3b:∀ y∈F3,y<h3.length:=rnodes_ok.bd _ _ _ _ r3;obtain ⟨a7,c7,h7,F7,e7,r7,l7,fr7,sub7,nd7⟩:=Kx (lo:=lo) (bytes:=48) rnode_ok.fr r3 (xs:=rQ) (ys:=l.drop (k+1)) (Gs:=Fs.drop (k+1)) (eQ.fr rnode_ok.fr fun y hy=>fr3 y (hFl y (inQ' y hy))) (by decide) (by rw[htl,hdl];omega) (fun y hy=>by
   rcases sub3 y hy with g | g
   ·exact hlo y (sF y (inP y g))
   ·omega) (by omega) (by
   rw[zbd];refine ⟨nd3,nQ,fun x hx y hy e=>?_⟩;subst e;exact (hQ3 x hy).1 hx) (fun y hy=>by
   rcases zbc.1 hy with hy | hy
   ·exact F3b y hy
   ·exact (hQ3 y hy).2)
 have hel:(l.take k).length+(l.drop (k+1)).length=(l.eraseIdx k).length:=by rw[zb9 hk,htl,hdl];omega
 have her:l.take k++l.drop (k+1)=l.eraseIdx k:=(List.eraseIdx_eq_take_drop_succ l k).symm;rw[hel] at e7 r7;rw[her] at r7;have mm0:Mv h [] (h ++ [.rows 2 45 false []]) []:=Mv.snoc;rw[show Om false=45 from rfl] at e3 e7;refine ⟨a7,c7,h7,F7,fun K=>?_,r7,⟨by omega,fun y hy hyF=>?_,nd7,fun y hy=>?_⟩⟩
 ·rw[kP _ (fun b i e=>mm0.fr b (hbd b (own b i e).1) (by simp)),e3,Ah,kQ _ (fun b i e=>fr3 b (hbd b (own b i e).1)),e7]
 ·have y3:y∉F3:=fun hm3=>by
   rcases sub3 y hm3 with g | g
   ·exact hyF (sF y (inP y g))
   ·omega
  rw[fr7 y (by omega) y3,fr3 y hy]
 ·rcases sub7 y hy with g | g
  ·rcases zbc.1 g with g | g
   ·rcases sub3 y g with g | g
    ·exact .inl (sF y (inP y g))
    ·exact .inr (by omega)
   ·exact .inl (sF y (inQ' y g))
  ·exact .inr (by omega)
theorem NZ {k:Nat} (hs:RNodes false h [.sl 2 a l.length c] l F) (hk:k<l.length) (h2:1<l.length) (hlast:(l[l.length - 1]'(by omega)).wait = []) (hnd:F.Nodup) (hlo:∀ b∈F,lo≤b) (hl:lo≤h.length) (hn:l.length≤1048576) (hx:∀ x∈l,FN 20 x) :
  ∃ a' c' h' F',Ad lo 118 [.agg [.sl 2 a l.length c],Iv (k:Nat)] h=some (.agg [.sl 2 a' (Cq l k).length c'],h')∧RNodes false h' [.sl 2 a' (Cq l k).length c'] (Cq l k) F'∧Mv h F h' F':=by
 suffices hq:∃ a' c' h' F',_=some (V.agg [.sl 2 a' (Cq l k).length c'],h')∧RNodes false h' [.sl 2 a' (Cq l k).length c'] (Cq l k) F'∧Mv h F h' F' from by obtain ⟨a',c',h',F',e,hr⟩:=hq;exact ⟨a',c',h',F',Re e,hr⟩
 have hel:=zb9 hk;obtain ⟨a1,c1,h1,F1,e1,r1,m1⟩:=XG (lo:=lo) hs hk hnd hlo hl hn;have hflen:(Cq l k).length=l.length - 1:=by
  unfold Cq;cases decide (0<k)
  ·exact hel
  ·cases decide (k<(l.eraseIdx k).length)
   ·rw[cond_true,cond_false,Em];exact hel
   ·rw[cond_true,cond_true,Em];exact hel
 rw[Ar (by omega),e1,Ah];have hl1:lo≤h1.length:=zba hl m1.le;have hlo1:∀ b∈F1,lo≤b:=fun b hb=>m1.ge hl hlo b hb;have hn1:((l.eraseIdx k).length:Int) - 1=(((l.eraseIdx k).length - 1:Nat):Int):=by omega
 have tail:∀ (l':List Node) (hh:Heap) (F':List Nat),l'.length=(l.eraseIdx k).length→RNodes false hh [.sl 2 a1 (l.eraseIdx k).length c1] l' F'→F'.Nodup→(∀ b∈F',lo≤b)→∃ h' F'',(Ao (IntKind.wrap .i64 ((((l.eraseIdx k).length:Nat):Int) - 1)) (l.eraseIdx k).length (eO a1 fun o_41=>eO (st lo hh (o_41.1) ((o_41.2)+((IntKind.i64.wrap ((((l.eraseIdx k).length:Nat):Int) - (1:Int))).toNat)) 1 [.sl 0 none 0 (some 0)]) fun o_42=>some (V.agg [.sl 2 a1 (l.eraseIdx k).length c1],o_42)))=some (.agg [.sl 2 a1 (l.eraseIdx k).length c1],h') ∧
   RNodes false h' [.sl 2 a1 (l.eraseIdx k).length c1] (D9 l' ((l.eraseIdx k).length - 1) []) F''∧Mv hh F' h' F'':=by
  intro l' hh F' hll hr hnd' hlo';obtain ⟨b,i,h3,F3,ha,_,e3,r3,m3,_⟩:=TU (lo:=lo) (k:=(l.eraseIdx k).length - 1) (w := .sl 0 none 0 (some 0)) (ws := []) hr (by omega) hnd' hlo' Sli.nil Mv.nil;rw[wr (n:=(((l.eraseIdx k).length:Nat):Int) - 1) (by omega) (by omega),hn1,Ae (by omega),ha,Ag,Be,e3,Ag,← ha];exact ⟨h3,F3,rfl,r3,m3⟩
 have hlast':∀ hj:(l.eraseIdx k).length - 1<(l.eraseIdx k).length,k<(l.eraseIdx k).length→((l.eraseIdx k)[(l.eraseIdx k).length - 1]).wait = []:=fun hj hkl=>by
  have:(l.eraseIdx k)[(l.eraseIdx k).length - 1]=l[l.length - 1]:=by rw[List.getElem_eraseIdx];rw[dif_neg (by omega)];congr 1;omega
  rw[this];exact hlast
 by_cases h0:0<k
 ·rw[Ak (by omega)];by_cases hkl:k<(l.eraseIdx k).length
  ·-- in between
   have hf:Cq l k=D9 (l.eraseIdx k) (k - 1) (Ee (FH (l.eraseIdx k) (k - 1)) (FH (l.eraseIdx k) k)):=by unfold Cq;rw[decide_eq_true h0,cond_true,decide_eq_true hkl,cond_true]
   have hk1:k - 1<(l.eraseIdx k).length:=by omega
   have hxm:∀ x∈l.eraseIdx k,FN 20 x:=fun x hx'=>hx x (zcr hx');obtain ⟨o,s1,s2,b1,d1,b2,d2,H1,H2,ha,_,ho1,_,q1,_,p1,_⟩:=r1.get hk1;obtain ⟨o',s1',s2',b1',d1',b2',d2',H1',H2',ha',_,ho1',_,q1',_,p1',_⟩:=r1.get hkl;have ho:o=o':=by rw[ha] at ha';injection ha'
   subst ho;have n1:=hxm _ (zbb hk1);have n2:=hxm _ (zbb hkl);obtain ⟨a4,c4,h4,F4,e4,r4,m4⟩:=TQ (lo:=lo) p1 p1' n1.1 n2.1 (fun v hv=>by have:=(n1.2.2.1 v hv).1;omega) hl1;obtain ⟨b,i,h5,F5,hb,_,e5,r5,m5,_⟩:=TU (lo:=lo) (k:=k - 1) (w := .sl 6 a4 (Ee (l.eraseIdx k)[k - 1].store (l.eraseIdx k)[k].store).length c4) r1 hk1 m1.nd hlo1 r4 m4;obtain ⟨h6,F6,e6,r6,m6⟩:=tail _ h5 F5 Em r5 m5.nd (fun b hb=>m5.ge hl1 hlo1 b hb);have hkk:((k:Nat):Int) - 1=((k - 1:Nat):Int):=by omega
   have hoe:o=(b,i):=by rw[ha] at hb;injection hb
   subst hoe;rw[Ak (by omega),wr (n:=((k:Nat):Int) - 1) (by omega) (by omega),hkk,Ae hk1,ha,Ag,Be,ho1,Ag,Aa,q1,Af,Ae hkl,Ag,Be,ho1',Ag,Aa,q1',Af,e4,Ac,Ah,Ae hk1,Ag,e5,Ag,← ha,e6];have hsame:D9 (D9 (l.eraseIdx k) (k - 1) (Ee (l.eraseIdx k)[k - 1].store (l.eraseIdx k)[k].store)) ((l.eraseIdx k).length - 1) []=Cq l k:=by
    rw[hf,EE hk1,EE hkl];have hj:(l.eraseIdx k).length - 1<(D9 (l.eraseIdx k) (k - 1) (Ee (l.eraseIdx k)[k - 1].store (l.eraseIdx k)[k].store)).length:=by rw[Em];omega
    refine NR hj ?_;have hg:=HT (w:=Ee (l.eraseIdx k)[k - 1].store (l.eraseIdx k)[k].store) hk1;rw[List.getElem_of_eq hg,List.getElem_set_ne (by omega)];exact hlast' (by omega) hkl
   rw[hsame] at r6;refine ⟨a1,c1,h6,F6,by rw[hflen,hel],by rw[hflen,← hel];exact r6,(m1.trans m5).trans m6⟩
  ·-- the tail fell
   have hf:Cq l k=D9 (l.eraseIdx k) (k - 1) []:=by unfold Cq;rw[decide_eq_true h0,cond_true,decide_eq_false hkl,cond_false]
   have hkk:(l.eraseIdx k).length - 1=k - 1:=by omega
   obtain ⟨h6,F6,e6,r6,m6⟩:=tail _ h1 F1 rfl r1 m1.nd hlo1;rw[Aj (by omega),e6];rw[hkk,← hf] at r6;exact ⟨a1,c1,h6,F6,by rw[hflen,hel],by rw[hflen,← hel];exact r6,m1.trans m6⟩
 ·have hf:Cq l k=l.eraseIdx k:=by unfold Cq;rw[decide_eq_false h0,cond_false]
  obtain ⟨h6,F6,e6,r6,m6⟩:=tail _ h1 F1 rfl r1 m1.nd hlo1;rw[Aj (by omega),e6];rw[NR (by omega) (hlast' (by omega) (by omega)),← hf] at r6;exact ⟨a1,c1,h6,F6,by rw[hflen,hel],r6,m1.trans m6⟩
end


def Hb (x:Ver×Ver):Option Ver:=bif AZ x.2 x.1 then some x.1 else none
theorem lack_sort:∀ {z:List (Ver×Ver)}{acc:List Ver},z.foldl FR acc=(z.filterMap Hb).foldl (fun acc v=>GJ v acc) acc
 | [],acc=>rfl
 | x :: z,acc=>by
  rw[zbU,lack_sort (z:=z)];unfold FR;cases hx:AZ x.2 x.1 with
  | true =>
   have:Hb x=some x.1:=by unfold Hb;rw[hx];rfl
   rw[List.filterMap_cons,this];rfl
  | false =>
   have:Hb x=none:=by unfold Hb;rw[hx];rfl
   rw[List.filterMap_cons,this];rfl
def PN (s t:List Ver):List Ver:=(s.zip t).filterMap Hb
theorem VA {s t:List Ver}:zaK (PN s t)=Ee s t:=lack_sort.symm
theorem KW {u v:Ver} (hu:A2 u.tag.time u.tag.place=true) (hv:v.tag.time=0∧v.tag.place=0):AZ u v=false:=by rw[Xp];simp[A2,Am] at hu;omega
theorem S9 {i:Nat}{v:Ver} (h:Hg i v=true):A2 v.tag.time v.tag.place=true:=(Sp h).2.2
theorem Vz {s t:List Ver} (hs:AO s=true) (ht:AO t=true):(PN s t).Pairwise fun p u=>p.key<u.key:=by
 unfold PN;rw[List.pairwise_filterMap,List.pairwise_iff_getElem];intro i j hi hj hij b hb b' hb';have hi':i<s.length∧i<t.length:=by rw[List.length_zip] at hi;omega
 have hj':j<s.length∧j<t.length:=by rw[List.length_zip] at hj;omega
 rw[zcL] at hb hb';have key:∀ q (hq:q<s.length) (hq':q<t.length) x,Hb (s[q],t[q])=some x→x.key=(q:Int):=fun q hq hq' x hx=>by
  unfold Hb at hx;simp only at hx;cases hl:AZ t[q] s[q] with
  | false=>rw[hl] at hx;cases hx
  | true =>
   rw[hl] at hx;injection hx with hx;subst hx;rcases De (C6 hs hq) with g | g
   ·have:=KW (S9 (C6 ht hq')) (ED g);rw[hl] at this;cases this
   ·exact g.2
 have e1:=key i hi'.1 hi'.2 b (by simpa using hb);have e2:=key j hj'.1 hj'.2 b' (by simpa using hb');omega
section
variable {lo:Nat}{h:Heap}{F F' G:List Nat}{a a' av:Pq}{c c' cv:Nq}
theorem Mv.cons {h h':Heap}{F F':List Nat}{b:Nat} (m:Mv h F h' F') (hb:b<h.length) (hbF:b∉F) (hnd:F.Nodup):Mv h (b :: F) h' (b :: F') :=
 (m.aside (G := [b]) (by rw[zbd];exact ⟨hnd,by simp,fun x hx y hy e=>by rw[zbi] at hy;subst hy;subst e;exact hbF hx⟩) (by simpa using hb)).swap
def Ja (l:List Node) (k:Int):Bool:=Am k 0 ((l.length:Int) - 1)&&decide (1<l.length)
end


variable {l:List Node}{p:Place}
def Sd (p:Place) (k:Nat):Place:=⟨p.me,p.clock,Cq p.chain k,p.log,p.got,true⟩
def Ef (p:Place) (k:Int):Bool := !p.fell&&Ja p.chain k
def E3 (p:Place) (k:Int):Place:=bif Ef p k then Bj (Sd p k.toNat) else p
theorem Ni {s t:List Ver}{v:Ver} (h:v∈Ee s t):v∈s:=by
 have key:∀ (z:List (Ver×Ver)) (acc:List Ver),v∈z.foldl FR acc→v∈acc∨∃ x∈z,x.1=v:=by
  intro z;induction z with
  | nil=>intro acc h;exact .inl h
  | cons x z ih =>
   intro acc h;rw[zbU] at h;rcases ih _ h with g | ⟨y,hy,e⟩
   ·unfold FR at g;cases hl:AZ x.2 x.1 with
    | false=>rw[hl] at g;exact .inl g
    | true =>
     rw[hl,cond_true] at g;rcases insF_mem.1 g with rfl | g
     ·exact .inr ⟨x,by simp,rfl⟩
     ·exact .inl g
   ·exact .inr ⟨y,by simp[hy],e⟩
 rcases key _ _ h with g | ⟨x,hx,rfl⟩
 ·simp at g
 ·exact (List.of_mem_zip hx).1
theorem RV {s t:List Ver} (hs:s.length=4):(Ee s t).length≤4:=by
 have key:∀ (z:List (Ver×Ver)) (acc:List Ver),(z.foldl FR acc).length≤acc.length+z.length:=by
  intro z;induction z with
  | nil=>intro acc;simp
  | cons x z ih =>
   intro acc;rw[zbU];have:=ih (FR acc x);have h2:(FR acc x).length≤acc.length+1:=by
    unfold FR;cases AZ x.2 x.1
    ·simp
    ·rw[cond_true,Mg];exact zbf _
   rw[zbZ];omega
 have:=key (s.zip t) [];rw[List.length_zip] at this;simp only[zcp] at this;unfold Ee;omega
theorem MV {nw k:Nat}{w:List Ver} (h:∀ x∈l,FN nw x) (hw:w.length≤nw) (hv:∀ v∈w,thin v):∀ x∈D9 l k w,FN nw x:=fun x hx=>by
 unfold D9 at hx;split at hx
 ·rename_i y hy
  rcases zby hx with hx | rfl
  ·exact h x hx
  ·obtain ⟨g1,_,g3,_⟩:=h y (zbw hy);exact ⟨g1,hw,g3,hv⟩
 ·exact h x hx
theorem YJ {nw k:Nat} (h:∀ x∈l,FN nw x) (hnw:4≤nw):(Cq l k).length≤l.length∧∀ x∈Cq l k,FN nw x:=by
 have h':∀ x∈l.eraseIdx k,FN nw x:=fun x hx=>h x (zcr hx);have hle:(l.eraseIdx k).length≤l.length:=zcG _ _;unfold Cq;cases decide (0<k) with
 | false=>exact ⟨hle,h'⟩
 | true =>
  rw[cond_true];cases decide (k<(l.eraseIdx k).length) with
  | false=>exact ⟨by rw[cond_false,Em];exact hle,MV h' (zbE _) (by simp)⟩
  | true =>
   rw[cond_true,Em];refine ⟨hle,?_⟩;unfold FH;split
   ·rename_i y hy
    have hyn:=h' y (zbw hy);exact MV h' (zba (RV hyn.1) hnw) (fun v hv=>hyn.2.2.1 v (Ni hv))
   ·refine MV h' ?_ (fun v hv=>?_)
    ·rw[show ∀ t,Ee [] t = [] from fun t=>by simp[Ee]];exact zbE _
    ·have:=Ni hv;simp at this
theorem W1 {nc nl k:Nat} (h:Tidy nc 6 nl p):Tidy nc 6 nl (Sd p k):=by obtain ⟨h1,h2⟩:=YJ (k:=k) h.node (by decide);exact ⟨zba h1 h.len,h2,h.log,h.got⟩
theorem KC {k:Nat} (hk:k<l.length) (h1:1<l.length):(Cq l k).length=l.length - 1:=by
 have hel:=zb9 hk;unfold Cq;cases decide (0<k)
 ·exact hel
 ·cases decide (k<(l.eraseIdx k).length)
  ·rw[cond_true,cond_false,Em];exact hel
  ·rw[cond_true,cond_true,Em];exact hel
theorem RU (h:Cj l=true) (h0:0<l.length):(l[l.length - 1]'(by omega)).wait = []:=by have:=Mx h (show l.length - 1<l.length by omega);unfold EP at this;rw[zbI (by omega)] at this;simp only[decide_eq_true_eq] at this;exact zbm this
section
variable {lo:Nat}{ro:Bool}{h:Heap}{F F':List Nat}{a a':Pq}{c c':Nq}
theorem Pl {k:Int}{a1 a2 a3:Pq}{c1 c2 c3:Nq} (hn:p.chain.length≤1048576):Ad lo 117 [.agg (p.cs a1 c1 a2 c2 a3 c3),Iv k] h=some (.bool (Ef p k),h):=by
 refine NE (h':=h) ?_;unfold Ef Ja;cases p.fell with
 | true=>simp only[zbX,Au,zcn]
 | false =>
  simp only[zci,Al,zbA];by_cases h1:1<p.chain.length
  ·rw[Ak (by omega),wr (by omega) (by omega),Bf,Ac,As,decide_eq_true h1,zb8];exact II
  ·rw[Aj (by omega),decide_eq_false h1,zco]
end


variable {u v:Ver}{t r s:List Ver}{k i:Nat}{x z:Node}
theorem Of {w:Ver} (h1:AZ u v=true) (h2:AZ v w=true):AZ u w=true:=by rw[HO] at *;omega
def upS (t s:List Ver):Prop:=∀ (i:Nat) (x y:Ver),t[i]?=some x→s[i]?=some y→x=y∨AZ x y=true
theorem upS.refl:upS t t:=fun i x y hx hy => .inl (by rw[hx] at hy;injection hy)
theorem upS.trans (h1:upS r s) (h2:upS s t) (hl:t.length≤s.length):upS r t:=fun i x z hx hz=>by
 have hi:=(EY hz).1;have hy:=Dc (l:=s) (i:=i) (by omega);rcases h1 i x _ hx hy with rfl | h3
 ·exact h2 i _ z hy hz
 ·rcases h2 i _ z hy hz with h4 | h4
  ·exact .inr (h4 ▸ h3)
  ·exact .inr (Of h3 h4)
theorem upS.set {t:List Ver}{k:Nat}{u v:Ver} (hu:t[k]?=some u) (hl:AZ u v=true):upS t (t.set k v):=fun i x y hx hy=>by
 rw[List.getElem?_set] at hy;by_cases hi:k=i
 ·subst hi;rw[if_pos rfl,if_pos (EY hu).1] at hy;injection hy with hy;rw[hu] at hx;injection hx with hx;exact .inr (by rw[← hx,← hy];exact hl)
 ·rw[if_neg hi,hx] at hy;injection hy with hy;exact .inl hy
theorem fitsL_cons:Du t (v :: r)=some s↔∃ x,t[v.key.toNat]?=some x∧AZ x v=true∧Du (t.set v.key.toNat v) r=some s:=by
 simp only[Du];cases hx:t[v.key.toNat]? with
 | none=>simp
 | some x=>cases hl:AZ x v<;>simp[hl]
theorem P3:∀ {ws t s:List Ver}{v x:Ver},Du t ws=some s→s[v.key.toNat]?=some x→AZ x v=true→Du t (ws ++ [v])=some (s.set v.key.toNat v)
 | [],t,s,v,x,h,hx,hl=>by simp only[Du,Option.some.injEq] at h;subst h;exact fitsL_cons.2 ⟨x,hx,hl,rfl⟩
 | w :: r,t,s,v,x,h,hx,hl=>by obtain ⟨y,h1,h2,h3⟩:=fitsL_cons.1 h;exact fitsL_cons.2 ⟨y,h1,h2,P3 h3 hx hl⟩
theorem Uw:∀ {ws t s:List Ver},Du t ws=some s→upS t s
 | [],t,s,h=>by simp only[Du,Option.some.injEq] at h;subst h;exact upS.refl
 | v :: r,t,s,h=>by
  obtain ⟨y,h1,h2,h3⟩:=fitsL_cons.1 h;have h4:=Uw h3;refine fun i x z hx hz=>?_;by_cases hi:v.key.toNat=i
  ·subst hi;rw[h1] at hx;injection hx with hx;subst hx;have hlt:=(EY h1).1;rcases h4 _ v z (by simp[hlt]) hz with rfl | h5
   ·exact .inr h2
   ·exact .inr (Of h2 h5)
  ·exact h4 i x z (by rw[zbh hi];exact hx) hz
theorem Sb:∀ {ws t s:List Ver},Du t ws=some s→∀ v∈s,v∈ws∨v∈t
 | [],t,s,h=>by simp only[Du,Option.some.injEq] at h;subst h;exact fun v hv => .inr hv
 | w :: r,t,s,h=>fun v hv=>by
  obtain ⟨y,h1,h2,h3⟩:=fitsL_cons.1 h;rcases Sb h3 v hv with g | g
  ·exact .inl (by simp[g])
  ·rcases zby g with g | rfl
   ·exact .inr g
   ·exact .inl (by simp)
theorem Ux:∀ {ws t s:List Ver},s.length=t.length→ws.Pairwise (fun p u=>p.key≠u.key)→(∀ v∈ws,0≤v.key∧s[v.key.toNat]?=some v∧∃ x,t[v.key.toNat]?=some x∧AZ x v=true) →
  (∀ (i:Nat) (x y:Ver),t[i]?=some x→s[i]?=some y→x=y∨(y∈ws∧y.key.toNat=i))→Du t ws=some s
 | [],t,s,hl,_,_,h=>by
  simp only[Du,Option.some.injEq];apply List.ext_getElem?;intro i;by_cases hi:i<t.length
  ·have h1:=Dc hi;have h2:=Dc (l:=s) (i:=i) (by omega);rcases h i _ _ h1 h2 with g | g
   ·rw[h1,h2,g]
   ·exact absurd g.1 (by simp)
  ·rw[zbI (by omega),zbI (by omega)]
 | v :: r,t,s,hl,hp,hw,h=>by
  rw[List.pairwise_cons] at hp;obtain ⟨h0,h1,x,h2,h3⟩:=hw v (by simp);refine fitsL_cons.2 ⟨x,h2,h3,Ux (by simpa using hl) hp.2 (fun u hu=>?_) (fun i a b ha hb=>?_)⟩
  ·obtain ⟨g0,g1,y,g2,g3⟩:=hw u (by simp[hu]);have:=hp.1 u hu;exact ⟨g0,g1,y,by rw[zbh (by omega)];exact g2,g3⟩
  ·by_cases hi:v.key.toNat=i
   ·subst hi;have hlt:=(EY h2).1;rw[zbr hlt] at ha;injection ha with ha;rw[h1] at hb;injection hb with hb;exact .inl (ha.symm.trans hb)
   ·rw[zbh hi] at ha;rcases h i a b ha hb with g | ⟨g1,g2⟩
    ·exact .inl g
    ·rcases zbn.1 g1 with rfl | g1
     ·exact absurd g2 hi
     ·exact .inr ⟨g1,g2⟩
theorem RZ {v:Ver}:∀ {l:List Ver},(GJ v l).Perm (v :: l)
 | [] => .refl _
 | u :: r=>by
  simp only[GJ];cases AZ u v with
  | false=>exact .refl _
  | true=>exact (List.Perm.cons u RZ).trans (List.Perm.swap v u r)
theorem RF:∀ {l acc:List Ver},(l.foldl (fun acc v=>GJ v acc) acc).Perm (l++acc)
 | [],acc => .refl _
 | v :: l,acc=>by rw[zbU];exact ((RF (l:=l)).trans (List.Perm.append_left l RZ)).trans List.perm_middle
theorem lackU_mem:v∈PN s t↔∃ (i:Nat) (u:Ver),s[i]?=some v∧t[i]?=some u∧AZ u v=true:=by
 unfold PN;rw[List.mem_filterMap];constructor
 ·rintro ⟨⟨x,y⟩,hm,hx⟩
  obtain ⟨i,hi⟩:=zbt.1 hm;rw[zcR] at hi;unfold Hb at hx;simp only at hx;cases hl:AZ y x with
  | false=>rw[hl] at hx;cases hx
  | true =>rw[hl] at hx;injection hx with hx;subst hx;exact ⟨i,y,hi.1,hi.2,hl⟩
 ·rintro ⟨i,u,h1,h2,h3⟩
  refine ⟨(v,u),zbt.2 ⟨i,zcR.2 ⟨h1,h2⟩⟩,?_⟩;unfold Hb;simp only[h3,cond_true]
theorem HW (hs:AO s=true) {x:Ver} (hx:s[i]?=some x):Hg i x=true:=by obtain ⟨hi,rfl⟩:=EY hx;exact C6 hs hi
theorem JW (hs:AO s=true) (ht:AO t=true) {x:Ver} (hx:s[i]?=some x) (hu:t[i]?=some u) (hl:AZ u x=true):A3 x=true∧x.key=(i:Int):=by
 rcases De (HW hs hx) with g | g
 ·have:=KW (S9 (HW ht hu)) (ED g);rw[hl] at this;cases this
 ·exact g
theorem lackL_perm:(Ee s t).Perm (PN s t):=by rw[← VA];have h:=RF (l:=PN s t) (acc := []);rw[zb6] at h;exact h
theorem Yt (hs:AO s=true) (ht:AO t=true):∀ v∈Ee s t,A3 v=true:=fun v hv=>by obtain ⟨i,u,h1,h2,h3⟩:=lackU_mem.1 (lackL_perm.mem_iff.1 hv);exact (JW hs ht h1 h2 h3).1
theorem Xr (hs:AO s=true) (ht:AO t=true) (hu:upS t s):Du t (Ee s t)=some s:=by
 refine Ux (by rw[AX hs,AX ht]) ?_ (fun v hv=>?_) (fun i x y hx hy=>?_)
 ·exact (lackL_perm.pairwise_iff fun h=>h.symm).2 ((Vz hs ht).imp fun h=>by omega)
 ·obtain ⟨i,u,h1,h2,h3⟩:=lackU_mem.1 (lackL_perm.mem_iff.1 hv);have hk:=(JW hs ht h1 h2 h3).2;have e:v.key.toNat=i:=by omega
  rw[e];exact ⟨by omega,h1,u,h2,h3⟩
 ·rcases hu i x y hx hy with h | h
  ·exact .inl h
  ·exact .inr ⟨lackL_perm.mem_iff.2 (lackU_mem.2 ⟨i,x,hy,hx,h⟩),by have:=(JW hs ht hy hx h).2;omega⟩
structure Ch (l:List Node):Prop where
 pos:1≤l.length
 le:l.length≤4
 node:∀ (i:Nat) (x:Node),l[i]?=some x→BS x=true
 link:∀ (i:Nat) (x y:Node),l[i]?=some x→l[i+1]?=some y→Du y.store x.wait=some x.store
 last:∀ (i:Nat) (x:Node),l[i]?=some x→i+1=l.length→x.wait = []
theorem fits_iff:SM x s=true↔Du s x.wait=some x.store:=by
 unfold SM;cases h:Du s x.wait with
 | none=>simp
 | some r=>simp[sameVers_iff]
theorem chain_iff {l:List Node}:Cj l=true↔Ch l:=by
 unfold Cj;simp only[Dr];rw[EA (p:=EP l),Ta (p:=BS)];constructor
 ·rintro ⟨⟨h1,h2⟩,h3⟩
  simp only[Am,Dr,decide_eq_true_eq] at h1;refine ⟨by omega,by omega,fun i x hx=>?_,fun i x y hx hy=>?_,fun i x hx hi=>?_⟩
  ·obtain ⟨hi,rfl⟩:=EY hx;exact h2 i hi
  ·obtain ⟨hi,rfl⟩:=EY hx;have:=h3 i hi;unfold EP at this;rw[hy] at this;exact fits_iff.1 this
  ·obtain ⟨hj,rfl⟩:=EY hx;have:=h3 i hj;unfold EP at this;rw[zbI (by omega)] at this;exact zbm (by simpa using this)
 ·rintro ⟨h1,h2,h3,h4,h5⟩
  refine ⟨⟨by simp[Am];omega,fun i hi=>h3 i _ (Dc hi)⟩,fun i hi=>?_⟩;unfold EP;cases hy:l[i+1]? with
  | some y=>exact fits_iff.2 (h4 i _ y (Dc hi) hy)
  | none =>have:=List.getElem?_eq_none_iff.1 hy;simp[h5 i _ (Dc hi) (by omega)]
section
variable {l:List Node}
theorem Ch.store (h:Ch l) {i:Nat}{x:Node} (hx:l[i]?=some x):AO x.store=true∧x.store.length=4:=by have:=(AD (h.node i x hx)).1;exact ⟨this,AX this⟩
theorem Ch.up (h:Ch l):∀ (d i:Nat) (x y:Node),l[i]?=some x→l[i+d]?=some y→upS y.store x.store
 | 0,i,x,y,hx,hy=>by rw[zbW,hx] at hy;injection hy with hy;subst hy;exact upS.refl
 | d+1,i,x,y,hx,hy=>by have hlt:=(EY hy).1;have hz:=Dc (l:=l) (i:=i+d) (by omega);have h1:=h.up d i x _ hx hz;have h2:=Uw (h.link (i+d) _ y hz hy);exact h2.trans h1 (by rw[(h.store hx).2,(h.store hz).2];exact zbf _)
theorem Ch.join (h:Ch l) (hl:l.length<4):Ch (Ie l):=by
 have hp:=h.pos;rw[GH (by omega)];have hz:l[l.length - 1]?=some (l[l.length - 1]'(by omega)):=Dc (by omega);have hns:=(h.store hz).1;have hn:BS ⟨(l[l.length - 1]'(by omega)).store,[]⟩=true:=by unfold BS;rw[hns];rfl
 have get:∀ i x,(l ++ [(⟨(l[l.length - 1]'(by omega)).store,[]⟩:Node)])[i]?=some x→(i<l.length∧l[i]?=some x)∨(i=l.length∧x=⟨(l[l.length - 1]'(by omega)).store,[]⟩):=fun i x hx=>by
  by_cases hi:i<l.length
  ·rw[zbe hi] at hx;exact .inl ⟨hi,hx⟩
  ·rw[zbx (by omega)] at hx;have:=(EY hx).1;simp only[zbv] at this;have e:i=l.length:=by omega
   subst e;rw[Nat.sub_self] at hx;injection hx with hx;exact .inr ⟨rfl,hx.symm⟩
 refine ⟨by simp,by simp;omega,fun i x hx=>?_,fun i x y hx hy=>?_,fun i x hx hi=>?_⟩
 ·rcases get i x hx with ⟨_,g⟩ | ⟨_,rfl⟩
  ·exact h.node i x g
  ·exact hn
 ·rcases get (i+1) y hy with ⟨g1,g2⟩ | ⟨g1,rfl⟩
  ·rcases get i x hx with ⟨_,g⟩ | ⟨g,_⟩
   ·exact h.link i x y g g2
   ·omega
  ·rcases get i x hx with ⟨_,g⟩ | ⟨g,_⟩
   ·have e:i=l.length - 1:=by omega
    rw[h.last i x g g1];subst e;rw[hz] at g;injection g with g;subst g;rfl
   ·omega
 ·simp only[zbo,zbv] at hi;rcases get i x hx with ⟨g,_⟩ | ⟨_,rfl⟩
  ·omega
  ·rfl
theorem I6 (hk:k<l.length) (i:Nat):(Cq l k)[i]?=if i+1=k then (l[i]?).map (fun x=>(⟨x.store,match l[k+1]? with | some y=>Ee x.store y.store | none => []⟩:Node)) else if i<k then l[i]? else l[i+1]?:=by
 have hel:=zb9 hk;unfold Cq;by_cases h0:0<k
 ·rw[decide_eq_true h0,cond_true];have hk1:k - 1<(l.eraseIdx k).length:=by omega
  have e1:(l.eraseIdx k)[k - 1]=l[k - 1]:=by rw[List.getElem_eraseIdx,dif_pos (by omega)]
  have out:∀ w,i+1≠k→(D9 (l.eraseIdx k) (k - 1) w)[i]?=if i+1=k then (l[i]?).map (fun x=>(⟨x.store,match l[k+1]? with | some y=>Ee x.store y.store | none => []⟩:Node)) else if i<k then l[i]? else l[i+1]?:=fun w hi=>by rw[HT hk1,zbh (by omega),List.getElem?_eraseIdx,if_neg hi]
  have at1:∀ w,i+1=k→(D9 (l.eraseIdx k) (k - 1) w)[i]?=some ⟨l[k - 1].store,w⟩:=fun w hi=>by
   have e:k - 1=i:=by omega
   rw[HT hk1,e1,← e,zbr hk1]
  have hl1:l[k - 1]?=some l[k - 1]:=Dc (by omega);by_cases hkl:k<(l.eraseIdx k).length
  ·rw[decide_eq_true hkl,cond_true];by_cases hi:i+1=k
   ·have e:i=k - 1:=by omega
    have hy:l[k+1]?=some (l[k+1]'(by omega)):=Dc (by omega);have e2:(l.eraseIdx k)[k]=l[k+1]'(by omega):=by rw[List.getElem_eraseIdx,dif_neg (by omega)]
    rw[at1 _ hi,if_pos hi,e,hl1,hy,EE hk1,EE hkl,e1,e2];rfl
   ·exact out _ hi
  ·rw[decide_eq_false hkl,cond_false];by_cases hi:i+1=k
   ·have e:i=k - 1:=by omega
    have hy:l[k+1]?=none:=zbI (by omega);rw[at1 _ hi,if_pos hi,e,hl1,hy];rfl
   ·exact out _ hi
 ·rw[decide_eq_false h0,cond_false,if_neg (by omega),List.getElem?_eraseIdx]
theorem Ch.fall (h:Ch l) (hk:k<l.length) (h2:1<l.length):Ch (Cq l k):=by
 have hle:=h.le;have hlen:=KC hk h2;have hnw:∀ i x,l[i]?=some x→i+1=k→BS ⟨x.store,match l[k+1]? with | some y=>Ee x.store y.store | none => []⟩=true:=fun i x hx hi=>by
  have hs:=h.store hx;cases hy:l[k+1]? with
  | none=>unfold BS;rw[hs.1];rfl
  | some y =>have ht:=h.store hy;have h4:=RV (s:=x.store) (t:=y.store) hs.2;unfold BS;simp only;rw[hs.1,decide_eq_true (by omega),zbA,zbA,zbp];exact Yt hs.1 ht.1
 refine ⟨by omega,by omega,fun i x hx=>?_,fun i x y hx hy=>?_,fun i x hx hi=>?_⟩
 ·rw[I6 hk] at hx;split at hx
  ·rename_i hi
   rw[zbP] at hx;obtain ⟨z,hz,rfl⟩:=hx;exact hnw i z hz hi
  ·split at hx
   ·exact h.node i x hx
   ·exact h.node (i+1) x hx
 ·rw[I6 hk] at hx hy;by_cases hi:i+1=k
  ·rw[if_pos hi,zbP] at hx;obtain ⟨z,hz,rfl⟩:=hx;rw[if_neg (by omega),if_neg (by omega)] at hy;have e:i+1+1=k+1:=by omega
   rw[e] at hy;simp only[hy];have hup:=h.up 2 i z y hz (by rw[show i+2=k+1 by omega];exact hy);exact Xr (h.store hz).1 (h.store hy).1 hup
  ·rw[if_neg hi] at hx;by_cases hik:i<k
   ·rw[if_pos hik] at hx;by_cases hi2:i+1+1=k
    ·rw[if_pos hi2,zbP] at hy;obtain ⟨z,hz,rfl⟩:=hy;exact h.link i x z hx hz
    ·rw[if_neg hi2,if_pos (by omega)] at hy;exact h.link i x y hx hy
   ·rw[if_neg hik] at hx;rw[if_neg (by omega),if_neg (by omega)] at hy;exact h.link (i+1) x y hx hy
 ·rw[hlen] at hi;rw[I6 hk] at hx;split at hx
  ·rename_i hi2
   rw[zbP] at hx;obtain ⟨z,hz,rfl⟩:=hx;rw[zbI (by omega)]
  ·split at hx
   ·omega
   ·exact h.last (i+1) x hx (by omega)
theorem Ch.key (h:Ch l) (hz:l[i]?=some z) (hv:A3 v=true):∃ u,z.store[v.key.toNat]?=some u:=by have:=(AB hv).1;have h4:=(h.store hz).2;exact ⟨_,Dc (by omega)⟩
theorem Hl {j:Nat} (hz:l[j]?=some z) (hu:z.store[v.key.toNat]?=some u):EH l j v=bif AZ u v then l.set j ⟨z.store.set v.key.toNat v,bif decide (j+1<l.length) then z.wait ++ [v] else z.wait⟩ else l:=by unfold EH;rw[hz];simp only[hu]
theorem Zd {j:Nat} (hp:1≤l.length) (hle:l.length≤4) (hno:∀ (i:Nat) (x:Node),l[i]?=some x→BS x=true)
  (hli:∀ (i:Nat) (x y:Node),l[i]?=some x→l[i+1]?=some y→i+1≠j→Du y.store x.wait=some x.store) (hla:∀ (i:Nat) (x:Node),l[i]?=some x→i+1=l.length→x.wait = [])
  (hz:l[j]?=some z) (hv:A3 v=true) (hr:z.wait.length<6) (hu:z.store[v.key.toNat]?=some u) (hl:AZ u v=true)
  (hpr:∀ (i:Nat) (x:Node),l[i]?=some x→i+1=j→Du (z.store.set v.key.toNat v) x.wait=some x.store):Ch (EH l j v):=by
 have hj:=(EY hz).1;obtain ⟨n1,n2,n3⟩:=AD (hno j z hz);rw[Hl hz hu,hl,cond_true];have hnz:BS ⟨z.store.set v.key.toNat v,bif decide (j+1<l.length) then z.wait ++ [v] else z.wait⟩=true:=by
  unfold BS;simp only;rw[Iq n1 hv];cases decide (j+1<l.length) with
  | false =>rw[cond_false,decide_eq_true (by omega),zbA,zbA,zbp];exact n3
  | true =>
   rw[cond_true,decide_eq_true (by simp;omega),zbA,zbA,zbp];intro w hw;rcases zbc.1 hw with g | g
   ·exact n3 w g
   ·rw[zbi] at g;subst g;exact hv
 refine ⟨by simpa using hp,by simpa using hle,fun i x hx=>?_,fun i x y hx hy=>?_,fun i x hx hi=>?_⟩
 ·by_cases hij:j=i
  ·subst hij;rw[zbr hj] at hx;injection hx with hx;subst hx;exact hnz
  ·rw[zbh hij] at hx;exact hno i x hx
 ·by_cases hij:j=i
  ·subst hij;rw[zbr hj] at hx;rw[zbh (by omega)] at hy;have hlt:=(EY hy).1;injection hx with hx;subst hx;simp only[decide_eq_true hlt,cond_true];exact P3 (hli j z y hz hy (by omega)) hu hl
  ·rw[zbh hij] at hx;by_cases hij2:j=i+1
   ·subst hij2;rw[zbr hj] at hy;injection hy with hy;subst hy;exact hpr i x hx rfl
   ·rw[zbh hij2] at hy;exact hli i x y hx hy (fun e=>hij2 e.symm)
 ·rw[zbz] at hi;by_cases hij:j=i
  ·subst hij;rw[zbr hj] at hx;injection hx with hx;subst hx;rw[decide_eq_false (by omega),cond_false];exact hla j z hz hi
  ·rw[zbh hij] at hx;exact hla i x hx hi
theorem Ch.add (h:Ch l) (hv:A3 v=true) (hr:Dg l 0=true):Ch (EH l 0 v):=by
 have hp:=h.pos;have hz:l[0]?=some (l[0]'(by omega)):=Dc (by omega);rw[HY (by omega),decide_eq_true_eq] at hr;obtain ⟨u,hu⟩:=h.key hz hv;cases hl:AZ u v with
 | false=>rw[Hl hz hu,hl,cond_false];exact h
 | true=>exact Zd hp h.le h.node (fun i x y hx hy _=>h.link i x y hx hy) h.last hz hv hr hu hl (fun i x _ e=>by omega)
theorem H0 {k:Int} (hc:C5 l k=true):∃ (f:Nat) (x y:Node) (v:Ver) (r:List Ver),k=(f:Int)∧l[f]?=some x∧l[f+1]?=some y∧x.wait=v :: r∧y.wait.length<6:=by
 simp only[C5,Am,Dr,decide_eq_true_eq] at hc;obtain ⟨⟨h1,h2⟩,h3⟩:=hc;have hf:k.toNat+1<l.length:=by omega
 rw[Ll (by omega),Dr,decide_eq_true_eq,HY hf,decide_eq_true_eq] at h3;refine ⟨k.toNat,l[k.toNat],l[k.toNat+1],?_⟩;cases hw:l[k.toNat].wait with
 | nil=>rw[hw] at h3;simp at h3
 | cons v r=>exact ⟨v,r,by omega,Dc (by omega),Dc hf,rfl,h3.2⟩
theorem L5 {f:Nat} (hx:l[f]?=some x) (hw:x.wait=v :: r):HD l f=EH (l.set f ⟨x.store,r⟩) (f+1) v:=by unfold HD Ik;rw[hx];simp only[hw,List.getElem?_cons_zero,List.eraseIdx_cons_zero]
theorem Ch.pass (h:Ch l) {k:Int} (hc:C5 l k=true):Ch (HD l k.toNat):=by
 obtain ⟨f,x,y,v,r,rfl,hx,hy,hw,hr⟩:=H0 hc;have hf:=(EY hx).1;have hf1:=(EY hy).1;obtain ⟨n1,n2,n3⟩:=AD (h.node f x hx);have hlk:=h.link f x y hx hy;rw[hw] at hlk n2 n3;obtain ⟨u,hu,hl,hlk⟩:=fitsL_cons.1 hlk;rw[Be,L5 hx hw];have hv:=n3 v (by simp);have get:∀ (i:Nat) (z:Node),(l.set f ⟨x.store,r⟩)[i]?=some z→(i=f∧z=⟨x.store,r⟩)∨(i≠f∧l[i]?=some z):=fun i z hz=>by
  by_cases hi:f=i
  ·subst hi;rw[zbr hf] at hz;injection hz with hz;exact .inl ⟨rfl,hz.symm⟩
  ·rw[zbh hi] at hz;exact .inr ⟨fun e=>hi e.symm,hz⟩
 refine Zd (z:=y) (u:=u) (by simpa using h.pos) (by simpa using h.le) (fun i z hz=>?_) (fun i z w hz hw' hne=>?_) (fun i z hz hi=>?_) (by rw[zbh (by omega)];exact hy) hv hr hu hl (fun i z hz hi=>?_)
 ·rcases get i z hz with ⟨_,rfl⟩ | ⟨_,g⟩
  ·unfold BS;simp only;simp only[zbZ] at n2;rw[n1,decide_eq_true (by omega),zbA,zbA,zbp];exact fun w hw=>n3 w (by simp[hw])
  ·exact h.node i z g
 ·rcases get i z hz with ⟨rfl,_⟩ | ⟨_,g⟩
  ·exact absurd rfl hne
  ·rcases get (i+1) w hw' with ⟨e,rfl⟩ | ⟨_,g2⟩
   ·rw[e] at hw';exact h.link i z x g (by rw[e];exact hx)
   ·exact h.link i z w g g2
 ·rw[zbz] at hi;rcases get i z hz with ⟨rfl,_⟩ | ⟨_,g⟩
  ·omega
  ·exact h.last i z g hi
 ·rcases get i z hz with ⟨_,rfl⟩ | ⟨g,_⟩
  ·exact hlk
  ·omega
end


variable {l:List Tag}{p:Place}{k:Int}{s:ByteArray}{T:Type}{K:V→Heap→Option T}
def Aw (p:Place) (l:List Tag):Int:=Ew (Ds l) p.clock+1
def Bp (p:Place) (k:Int) (s:ByteArray) (g:Bool) (l:List Tag):Ver:=⟨k,⟨Aw p l,p.me⟩,l,s,g⟩
def EW (p:Place) (l:List Tag):Bool:=BH l (AN p.chain)&&(Dg p.chain 0&&(decide (Aw p l≤999)&&decide ((p.log.length:Int)<36)))
def Az (p:Place) (k:Int) (s:ByteArray) (g:Bool) (l:List Tag):Bool:=Am k 0 3&&(DI s&&((!g || DQ s)&&(A6 l&&EW p l)))
def AY (p:Place) (k:Int) (s:ByteArray) (g:Bool) (l:List Tag):Place×Tag:=bif An p then (bif Az p k s g l then (Bj (DM p 0 (Aw p l) (Bp p k s g l)),⟨Aw p l,p.me⟩) else (p,⟨0,0⟩)) else (Ji,⟨0,0⟩)
theorem newer_lt_iff {a c x:Int}:Ew a c<x↔a<x∧c<x:=by unfold Ew;split<;>omega
theorem ZB {A B:Int} (h:∀ x,A<x↔B<x):A=B:=by have h1:=(h (A+1)).1 (by omega);have h2:=(h (B+1)).2 (by omega);omega
theorem Xk {c:Int} (hc:0≤c):l.foldl (fun m t=>if t.time>m then t.time else m) c=Ew (Ds l) c:=by
 refine ZB fun x=>?_;rw[newer_lt_iff,latest_lt,PZ];constructor
 ·rintro ⟨h1,h2⟩;exact ⟨⟨by omega,h2⟩,h1⟩
 ·rintro ⟨⟨_,h2⟩,h1⟩;exact ⟨h1,h2⟩
theorem Xq (h:A6 l=true):0≤Ds l∧Ds l≤999:=by
 have h1:Ds l<1000:=latest_lt.2 ⟨by omega,fun t ht=>by
  simp only[A6,Dr,zbp] at h;have:=Dx (h.2 t ht);omega⟩
 have h2:¬ Ds l<0:=fun h=>by have:=(latest_lt.1 h).1;omega
 omega
theorem Kt (hp:An p=true) (h:A6 l=true):1≤Aw p l∧Aw p l≤1000∧Ds l<Aw p l∧p.clock<Aw p l:=by have h1:=Xq h;have h2:=(AK hp).2.1;unfold Aw Ew;split<;>omega
theorem D8 {g:Bool} (h:Az p k s g l=true):(0≤k∧k≤3)∧DI s=true∧(g=true→DQ s=true)∧A6 l=true∧BH l (AN p.chain)=true∧Dg p.chain 0=true∧Aw p l≤999∧p.log.length<36:=by unfold Az EW at h;simp only[Dr,zbY,decide_eq_true_eq,Am,zbT] at h;obtain ⟨h1,h2,h3,h4,h5,h6,h7,h8⟩:=h;exact ⟨h1,h2,fun hg=>h3.resolve_left (by rw[hg];simp),h4,h5,h6,h7,by omega⟩
theorem Oc {g:Bool} (hp:An p=true) (h:Az p k s g l=true):thin (Bp p k s g l):=by obtain ⟨h1,h2,h3,h4,h5,h6,h7,h8⟩:=D8 h;have g1:=Bn h4;have g2:=DN h2;have g3:=Kt hp h4;have g4:=(AK hp).1;refine ⟨by show l.length≤4;omega,by show s.size≤8;omega,?_⟩;show A2 (Aw p l) p.me=true;unfold A2 Am;rw[decide_eq_true g3.1,decide_eq_true h7,decide_eq_true g4.1,decide_eq_true g4.2];simp
theorem Za {lo lo' e R bytes q:Nat}{a:Pq}{xs:List (List V)}{h:Heap}:Dd lo e R bytes (.sl q a 0 (some 0)) xs h K=Dd lo' e R bytes (.sl q a 0 (some 0)) xs h K:=by
 cases xs with
 | nil=>rfl
 | cons x xs =>
  cases a with
  | none=>rfl
  | some p =>
   obtain ⟨b,i⟩:=p;simp only[Dd];have:Nat.ble (0+(x :: xs).length) 0=false:=by rw[zbZ,zbH];rfl
   rw[this]
section
variable {lo:Nat}{ro:Bool}{h:Heap}{F F' G:List Nat}{a a' av:Pq}{c c' cv:Nq}
theorem NW {a1 a2 a3:Pq}{c1 c2 c3:Nq} (hv:RTags ro h [.sl 2 av l.length cv] l G) (hok:An p=true) (hl:A6 l=true) :
  Ad lo 203 [.agg (p.cs a1 c1 a2 c2 a3 c3),.agg [.sl 2 av l.length cv]] h=some (Iv (Aw p l),h):=by
 have h4:=Bn hl;have hc:=(AK hok).2.1;refine Q5 (h':=h) ?_;have loop:∀ m i x,m+i=4→(∀ y:Int,(l.drop i).foldl (fun m t=>if t.time>m then t.time else m) x=y → -9223372036854775808≤y+1∧y+1≤9223372036854775807)→Cg (List.length h) x (i:Nat) av l.length cv h=some (Iv ((l.drop i).foldl (fun m t=>if t.time>m then t.time else m) x+1),h):=by
  intro m;induction m with
  | zero =>intro i x hi hb;rw[zb2 (by omega)] at hb ⊢;have:=hb x rfl;rw[Cg.e,Aj (by omega),wr (by omega) (by omega)];rfl
  | succ m ih =>
   intro i x hi hb;have hil:i<l.length:=by omega
   obtain ⟨o,ha,ho⟩:=hv.get hil;have ho1:ld h o.1 (o.2+i) 0 1=some [Iv l[i].time]:=by obtain ⟨o',row,G',h1,h2,⟨rfl,_⟩,_⟩:=hv.read hil;rw[ha] at h1;injection h1 with h1;subst h1;rw[h2];rfl
   rw[zbC hil,zbU] at hb ⊢;rw[Cg.e,Ak (by omega),Ae hil,ha,Ag,Be,ho1,Ag,Aa,Af,Ab,Ae hil,Ag,ho1,Ag,Aa,Af,Ab,Ar (show i<9223372036854775807 by omega),← ha];by_cases ht:l[i].time>x
   ·rw[if_pos ht] at hb ⊢;rw[Ak ht];exact ih (i+1) _ (by omega) hb
   ·rw[if_neg ht] at hb ⊢;rw[Aj ht];exact ih (i+1) _ (by omega) hb
 have hnf:∀ y,(l.drop 0).foldl (fun m t=>if t.time>m then t.time else m) p.clock=y→y=Ew (Ds l) p.clock:=fun y hy=>by rw[← hy,zcc,Xk hc.1]
 have hb:=Kt hok hl;have:=loop 4 0 p.clock rfl (fun y hy=>by rw[hnf y hy];unfold Aw at hb;omega);rw[hnf _ rfl] at this;exact this
theorem Pm {a1 a2 a3:Pq}{c1 c2 c3:Nq}{F1:List Nat} (hs1:RNodes ro h [.sl 2 a1 p.chain.length c1] p.chain F1) (hv:RTags ro h [.sl 2 av l.length cv] l G) (hok:An p=true) (hl:A6 l=true) (hn:BT p) :
  Ad lo 113 [.agg (p.cs a1 c1 a2 c2 a3 c3),.agg [.sl 2 av l.length cv]] h=some (.bool (EW p l),h):=by
 have h0:=EG hok;have hchain:=(AK hok).2.2.2.1;obtain ⟨v5,h5,F5,e5,r5,m5⟩:=Ha (lo:=h.length) hs1 (zbf _) hn.1 h0;obtain ⟨a6,c6,e6,r6⟩:=r5.form;refine Ti (h':=h5) ?_;have en:=NW (lo:=h.length) (a1:=a1) (c1:=c1) (a2:=a2) (c2:=c2) (a3:=a3) (c3:=c3) (m5.keep0 rtags_ok hv) hok hl;simp only[Place.cs] at en;unfold EW;rw[e5,Ac,Ap,Aa,e6,Af,ET (m5.keep0 rtags_ok hv) r6 (Bn hl) (Jk hchain),Ac,As];cases BH l (AN p.chain) with
 | false=>rw[Au];rfl
 | true =>
 rw[Al,J0 (m5.keep0 rnodes_ok hs1) h0,Ac,As];cases Dg p.chain 0 with
 | false=>rw[Au];rfl
 | true =>
 rw[Al,en,Ac,Ab];cases decide (Aw p l≤999) with
 | false=>rw[Au];rfl
 | true =>
 rw[Al];cases decide ((p.log.length:Int)<36) with
 | false=>rw[Au];rfl
 | true=>rw[Al];rfl
theorem HH {g:Bool}{a1 a2 a3:Pq}{c1 c2 c3:Nq}{F1 F2 F3:List Nat} (hs1:RNodes false h [.sl 2 a1 p.chain.length c1] p.chain F1) (hs2:RVers false h [.sl 6 a2 p.log.length c2] p.log F2) (hs3:RVss false h [.sl 1 a3 p.got.length c3] p.got F3)
  (hv:RTags false h [.sl 2 av l.length cv] l G) (hok:An p=true) (hc:Az p k s g l=true) (hnd:(F1++(F2++F3)).Nodup) (hlo:∀ b∈F1++(F2++F3),lo≤b) (hl:lo≤h.length) :
  ∃ a2' c2' h' F',Ad lo 114 [.agg (p.cs a1 c1 a2 c2 a3 c3),Iv k,.str s,.bool g,.agg [.sl 2 av l.length cv]] h=some (.tup [.agg ((Bj (DM p 0 (Aw p l) (Bp p k s g l))).cs a1 c1 a2' c2' a3 c3),.agg [Iv (Aw p l),Iv p.me]],h') ∧
   A5 false h' ((Bj (DM p 0 (Aw p l) (Bp p k s g l))).cs a1 c1 a2' c2' a3 c3) (Bj (DM p 0 (Aw p l) (Bp p k s g l))) F'∧Mv h (F1++(F2++F3)) h' F':=by
 obtain ⟨g1,g2,g3,g4,g5,g6,g7,g8⟩:=D8 hc;have h0:=EG hok;have hl4:=Bn g4;have hti:=Ld hok;obtain ⟨a5,c5,h5,F5,e5,r5,m5⟩:=I9 (lo:=h.length) (h:=h) (l:=l) (zbf _) (by omega);rw[← zbs] at hnd hlo ⊢;have hnd':=hnd;rw[zbd] at hnd';have hdis:∀ y∈F3,y∉F1++F2:=fun y hy hm=>hnd'.2.2 y hm y hy rfl;have hb12:∀ y∈F1++F2,y<h.length:=fun y hy=>by rw[zbc] at hy;exact hy.elim (rnodes_ok.bd _ _ _ _ hs1 y) (rvers_ok.bd _ _ _ _ hs2 y)
 obtain ⟨h6,a6,c6,h7,F6,F7,e6,e7,r6,r7,m7⟩:=L1 (lo:=lo) (v:=Bp p k s g l) (k:=0) (t:=Aw p l) (a3:=a3) (c3:=c3) (m5.keep0 rnodes_ok hs1) (m5.keep0 rvers_ok hs2) r5 (fun y hy hm=>by
  have:=m5.new y hy;have:=hb12 y (by simp[hm]);omega) hnd'.1 (fun y hy=>hlo y (by rw[zbc];exact .inl hy)) (zba hl m5.le) h0 g1 hti (Oc hok hc)
 have hcs:(DM p 0 (Aw p l) (Bp p k s g l)).cs a1 c1 a2 c2 a3 c3 = [Iv p.me,Iv (Aw p l),.sl 2 a1 p.chain.length c1,.sl 6 a2 p.log.length c2,.sl 1 a3 p.got.length c3,.bool p.fell]:=by simp only[Place.cs,DM,addN_len]
 rw[hcs] at e7;have m5':Mv h (F1++F2) h5 (F1++F2):=(m5.drop.aside (G:=F1++F2) hnd'.1 hb12);have m8:=m5'.trans m7;have b3':∀ y∈F3,y<h.length:=rvss_ok.bd _ _ _ _ hs3;have m9:=m8.aside (G:=F3) hnd b3';have hs3':=m8.keep rvss_ok hs3 hdis;refine ⟨a6,c6,h7,F6++F7++F3,Qo ?_,⟨_,_,_,_,_,_,rfl,_,_,_,F6,F7,F3,rfl,by rw[zbs],r6,r7,hs3'⟩,m9⟩;have en:=NW (lo:=h.length) (a1:=a1) (c1:=c1) (a2:=a2) (c2:=c2) (a3:=a3) (c3:=c3) hv hok g4;simp only[Place.cs] at en;have e6':Ad lo 193 [.agg [.sl 2 a1 p.chain.length c1],Iv 0,.agg [Iv k,Iv (Aw p l),Iv p.me,.sl 2 a5 l.length c5,.str s,.bool g]] h5=some (.agg [.sl 2 a1 p.chain.length c1],h6):=e6;rw[en,Ac,Ab,RTags.rows (Mv.snoc.keep0 rtags_ok hv),Za (lo':=h.length),e5,Ah,e6',Ac,Ap,Aa,Ah,Af,e7,Ac,Ap];simp only[Place.cs];rw[Aa,Ab,Aa,Ab,Aa,Ah,Aa,Ah,Aa,Ah,Aa,At,Af]
end


section
variable {lo:Nat}{h:Heap}{F F' G:List Nat}{a a' av:Pq}{c c' cv:Nq}
theorem JM {p:Place}{cs:List V}{k:Int}{s:ByteArray}{g:Bool}{l:List Tag} (hp:A5 false h cs p F) (hv:RTags false h [.sl 2 av l.length cv] l G) (hl:lo≤h.length) (hn:BT p) (hvn:l.length≤1048576∧s.size≤1048576) :
  ∃ raw r h' F',Ad lo 39 [.agg cs,Iv k,.str s,.bool g,.agg [.sl 2 av l.length cv]] h=some (.tup [.agg raw,.agg [Iv (AY p k s g l).2.time,Iv (AY p k s g l).2.place]],h')∧FX raw (AY p k s g l).1 r∧A5 false h' r (AY p k s g l).1 F'∧Mv h [] h' F':=by
 obtain ⟨a1,c1,a2,c2,a3,c3,rfl,hp⟩:=hp;obtain ⟨F1,F2,F3,_,h1,h2,h3⟩:=hp.cells;suffices hk:∃ raw r h' F',_=some (V.tup [.agg raw,.agg [Iv (AY p k s g l).2.time,Iv (AY p k s g l).2.place]],h')∧FX raw (AY p k s g l).1 r∧A5 false h' r (AY p k s g l).1 F'∧Mv h [] h' F' from by obtain ⟨raw,r,h',F',e,hr⟩:=hk;exact ⟨raw,r,h',F',ME e,hr⟩
 rw[M0 h1 h2 h3 hn,Ac,As];unfold AY;cases hpo:An p with
 | false =>rw[Au];obtain ⟨raw,r,rfl,n1,n2⟩:=Iw (hh:=h);exact ⟨_,r,h,[],rfl,n1,n2,Mv.nil⟩
 | true =>
 obtain ⟨raw,b1,d1,b2,d2,b3,d3,h4,F4,e4,n4,r4,m4⟩:=Jl (lo:=lo) h1 h2 h3 hl hn;obtain ⟨s1,s2,s3,q1,q2,q3,q4,q5,q6,rfl,n1,n2,n3,eq⟩:=n4;obtain ⟨rfl,rfl,rfl,rfl,rfl,rfl⟩:=VV eq;have r4':=r4;obtain ⟨G1,G2,G3,rfl,g1,g2,g3⟩:=r4'.cells;have stay:Az p k s g l=false→∃ raw r h' F',some (V.tup [.agg (p.cs b1 d1 b2 d2 b3 d3),.agg [Iv 0,Iv 0]],h4)=some (V.tup [.agg raw,.agg [Iv (bif true then bif Az p k s g l then (Bj (DM p 0 (Aw p l) (Bp p k s g l)),(⟨Aw p l,p.me⟩:Tag)) else (p,⟨0,0⟩) else (Ji,⟨0,0⟩)).2.time,Iv (bif true then bif Az p k s g l then (Bj (DM p 0 (Aw p l) (Bp p k s g l)),(⟨Aw p l,p.me⟩:Tag)) else (p,⟨0,0⟩) else (Ji,⟨0,0⟩)).2.place]],h') ∧
   FX raw (bif true then bif Az p k s g l then (Bj (DM p 0 (Aw p l) (Bp p k s g l)),(⟨Aw p l,p.me⟩:Tag)) else (p,⟨0,0⟩) else (Ji,⟨0,0⟩)).1 r∧A5 false h' r (bif true then bif Az p k s g l then (Bj (DM p 0 (Aw p l) (Bp p k s g l)),(⟨Aw p l,p.me⟩:Tag)) else (p,⟨0,0⟩) else (Ji,⟨0,0⟩)).1 F'∧Mv h [] h' F':=fun hc=>by
  rw[hc];exact ⟨p.cs b1 d1 b2 d2 b3 d3,_,h4,_,rfl,C7,⟨_,_,_,_,_,_,rfl,r4⟩,m4⟩
 have ec:=fun hpk:A6 l=true=>Pm (lo:=lo) (a2:=a2) (c2:=c2) (a3:=a3) (c3:=c3) h1 hv hpo hpk hn;simp only[Place.cs] at ec;rw[Al,Bf,Ac,As];cases hw:Am k 0 3 with
 | false =>rw[Au,e4,Ac,Ap,Aa,Ab,Aa,Ab,Aa,n1,Aa,n2,Aa,n3,Aa,At,Af];exact stay (by unfold Az;rw[hw];rfl)
 | true =>
 rw[Al,IN hvn.2,Ac,As];cases hto:DI s with
 | false =>rw[Au,e4,Ac,Ap,Aa,Ab,Aa,Ab,Aa,n1,Aa,n2,Aa,n3,Aa,At,Af];exact stay (by unfold Az;rw[hw,hto];rfl)
 | true =>
 rw[Al];cases g with
 | false =>
  rw[Au];rw[IO hv hvn.1,Ac,As];cases hpk:A6 l with
  | false =>rw[Au,e4,Ac,Ap,Aa,Ab,Aa,Ab,Aa,n1,Aa,n2,Aa,n3,Aa,At,Af];exact stay (by unfold Az;rw[hpk];simp)
  | true =>
  rw[Al,ec hpk,Ac,As];cases hm:EW p l with
  | false =>rw[Au,e4,Ac,Ap,Aa,Ab,Aa,Ab,Aa,n1,Aa,n2,Aa,n3,Aa,At,Af];exact stay (by unfold Az;rw[hm];simp)
  | true =>
  have hcw:Az p k s false l=true:=by unfold Az;rw[hw,hto,hpk,hm];simp
  obtain ⟨a2',c2',h5,F5,e5,r5,m5⟩:=HH (lo:=lo) g1 g2 g3 (m4.keep0 rtags_ok hv) hpo hcw m4.nd (fun y hy=>by have:=m4.new y hy;omega) (zba hl m4.le);simp only[Place.cs] at e5;rw[Al,e4,Ac,Ap,Aa,Ab,Aa,Ab,Aa,n1,Aa,n2,Aa,n3,Aa,At,Af,e5,Ac,C4,Aa,Ap,Aa,Ab,Aa,Ab,Aa,Ah,Aa,Ah,Aa,Ah,Aa,At,Af,Aa,Ap,Aa,Ab,Aa,Ab,Af,Af,hcw];exact ⟨_,_,h5,F5,rfl,C7,r5,m4.trans m5⟩
 | true =>
  rw[Al,GA];cases hnt:DQ s with
  | false =>rw[Au,e4,Ac,Ap,Aa,Ab,Aa,Ab,Aa,n1,Aa,n2,Aa,n3,Aa,At,Af];exact stay (by unfold Az;rw[hw,hto,hnt];rfl)
  | true =>
  rw[Al];rw[IO hv hvn.1,Ac,As];cases hpk:A6 l with
  | false =>rw[Au,e4,Ac,Ap,Aa,Ab,Aa,Ab,Aa,n1,Aa,n2,Aa,n3,Aa,At,Af];exact stay (by unfold Az;rw[hpk];simp)
  | true =>
  rw[Al,ec hpk,Ac,As];cases hm:EW p l with
  | false =>rw[Au,e4,Ac,Ap,Aa,Ab,Aa,Ab,Aa,n1,Aa,n2,Aa,n3,Aa,At,Af];exact stay (by unfold Az;rw[hm];simp)
  | true =>
  have hcw:Az p k s true l=true:=by unfold Az;rw[hw,hto,hpk,hm];simp;exact hnt
  obtain ⟨a2',c2',h5,F5,e5,r5,m5⟩:=HH (lo:=lo) g1 g2 g3 (m4.keep0 rtags_ok hv) hpo hcw m4.nd (fun y hy=>by have:=m4.new y hy;omega) (zba hl m4.le);simp only[Place.cs] at e5;rw[Al,e4,Ac,Ap,Aa,Ab,Aa,Ab,Aa,n1,Aa,n2,Aa,n3,Aa,At,Af,e5,Ac,C4,Aa,Ap,Aa,Ab,Aa,Ab,Aa,Ah,Aa,Ah,Aa,Ah,Aa,At,Af,Aa,Ap,Aa,Ab,Aa,Ab,Af,Af,hcw];exact ⟨_,_,h5,F5,rfl,C7,r5,m4.trans m5⟩
end


variable {p:Place}{k:Int}{s:ByteArray}{g:Bool}{l:List Tag}
theorem Kj:Az p k s g l=(E1 ⟨k,⟨0,0⟩,l,s,g⟩&&EW p l):=by unfold Az E1;simp only[Bool.and_assoc]
theorem LS (h:An p=true):AY p k s g l=bif Az p k s g l then (Bj (DM p 0 (Aw p l) (Bp p k s g l)),⟨Aw p l,p.me⟩) else (p,⟨0,0⟩):=by unfold AY;rw[h,cond_true]
section
variable {lo:Nat}{h:Heap}{F F' G:List Nat}{a a' av:Pq}{c c' cv:Nq}
theorem Ot {p':Place}{cs l1:List V}{g x:Nat}{ok:Bool}{X0 X1:Blk} (hp:A5 false h cs p F) (hl:lo≤h.length) (hn:BT p) (hx:h[x]?=some X0)
  (hg:An p=true→∀ hh b row F1,h.length≤hh.length→Mv h [] hh []→A5 false hh row p F1→hh[b]?=some (.rows 6 49 false [row])→(b :: F1).Nodup→(∀ y∈b :: F1,h.length≤y) →
   ∃ hh' row' F1',Ad lo g (Di [.ptr (some (b,(0,0)))] l1) hh=some (.bool ok,hh')∧A5 false hh' row' p' F1'∧hh'[b]?=some (.rows 6 49 false [row'])∧hh'[x]?=some X1∧Mv hh (x :: b :: F1) hh' (x :: b :: F1')) :
  ∃ raw r h' F',Ad lo 79 [.agg cs,.fn g l1] h=some (.tup [.agg raw,.bool (An p&&ok)],h')∧FX raw (En p p') r∧A5 false h' r (En p p') F'∧Mv h [x] h' (x :: F')∧h'[x]?=some (bif An p then X1 else X0):=by
 obtain ⟨a1,c1,a2,c2,a3,c3,rfl,hp⟩:=hp;obtain ⟨F1,F2,F3,_,h1,h2,h3⟩:=hp.cells;suffices hk:∃ raw r h' F',_=some (V.tup [.agg raw,.bool (An p&&ok)],h')∧FX raw (En p p') r∧A5 false h' r (En p p') F'∧Mv h [x] h' (x :: F')∧h'[x]?=some (bif An p then X1 else X0) from by obtain ⟨raw,r,h',F',e,hr⟩:=hk;exact ⟨raw,r,h',F',Jg e,hr⟩
 have hxl:x<h.length:=(EY hx).1;rw[DU h1 h2 h3 hn,Ac,As];unfold En;cases hpo:An p with
 | false =>rw[Au];obtain ⟨raw,r,rfl,n1,n2⟩:=Iw (hh:=h);exact ⟨_,r,h,[],rfl,n1,n2,Mv.refl (by simp),hx⟩
 | true =>
 obtain ⟨b1,d1,b2,d2,b3,d3,h4,F4,e4,r4,m4⟩:=IB (lo:=lo) h1 h2 h3 hl hn;rw[Al,e4,Ac,Ap,Aa,Ab,Aa,Ab,Aa,Ah,Aa,Ah,Aa,Ah,Aa,At,Af];have m5:Mv h4 [] (h4 ++ [.rows 6 49 false [p.cs b1 d1 b2 d2 b3 d3]]) [h4.length]:=Mv.last;rw[Wc (row':=p.cs b1 d1 b2 d2 b3 d3) (zba hl m4.le) rfl (Db (by simp[Place.cs]))];simp only[Ag,zcP];have m45:=(m4.join m5 (rplace_ok.bd _ _ _ _ r4)).swapNil;obtain ⟨h6,row6,F6,e6,r6,b6,x6,m6⟩:=hg hpo (h4 ++ [.rows 6 49 false [p.cs b1 d1 b2 d2 b3 d3]]) h4.length _ F4 m45.le m45.drop ⟨_,_,_,_,_,_,rfl,m5.keep0 rplace_ok r4⟩ (by simp) m45.nd (fun y hy=>m45.new y hy);obtain ⟨b4,d4,b5,d5,b7,d7,rfl,r6'⟩:=id r6;rw[e6,Ac,As];have e7:ld h6 h4.length 0 0 6=some (p'.cs b4 d4 b5 d5 b7 d7):=by rw[Bx b6 rfl];exact HL rfl
 have m46:Mv h [x] (h4 ++ [.rows 6 49 false [p.cs b1 d1 b2 d2 b3 d3]]) (x :: h4.length :: F4):=(m45.aside (G := [x]) (by simp) (by simpa using hxl)).swap;have nd6:=m6.nd;rw[zbj,zbj] at nd6;have m7:Mv h [x] h6 (x :: F6):=(m46.trans m6).lean (by rw[zbj];exact ⟨fun hm=>nd6.1 (by simp[hm]),nd6.2.2⟩) fun b hb=>by
  rcases zbn.1 hb with rfl | hb
  ·simp
  ·simp[hb]
 rw[e7];simp only[Ag,Aa,Ab,Ah,At,Af,cond_true];cases ok;all_goals
  first | rw[Al] | rw[Au]
  exact ⟨_,_,h6,F6,rfl,C7,r6,m7,x6⟩
theorem VD {b:Nat}{a1 a2 a3:Pq}{c1 c2 c3:Nq}{G1 G2 G3:List Nat} (hb:h[b]?=some (.rows 6 49 false [p.cs a1 c1 a2 c2 a3 c3])) (hs1:RNodes false h [.sl 2 a1 p.chain.length c1] p.chain G1) (hs2:RVers false h [.sl 6 a2 p.log.length c2] p.log G2) (hs3:RVss false h [.sl 1 a3 p.got.length c3] p.got G3)
  (hv:RTags false h [.sl 2 av l.length cv] l G) (hvd:∀ y∈G,y∉b :: G1) (hok:An p=true) (hn:BT p) (hvn:l.length≤1048576∧s.size≤1048576) (hnd:(b ::(G1++(G2++G3))).Nodup) (hlo:∀ y∈b ::(G1++(G2++G3)),lo≤y) (hl:lo≤h.length) :
  ∃ h' row' F',Ad lo 110 [.ptr (some (b,(0,0))),.agg [Iv k,Iv 0,Iv 0,.sl 2 av l.length cv,.str s,.bool g]] h=some (.agg [Iv (AY p k s g l).2.time,Iv (AY p k s g l).2.place],h') ∧
   A5 false h' row' (AY p k s g l).1 F'∧h'[b]?=some (.rows 6 49 false [row'])∧Mv h (b ::(G1++(G2++G3))) h' (b :: F'):=by
 rw[LS hok];have hblt:b<h.length:=(EY hb).1;have hbd:∀ y∈b ::(G1++(G2++G3)),y<h.length:=fun y hy=>by
  simp only[zbn,zbc] at hy;rcases hy with rfl | hy | hy | hy
  ·exact hblt
  ·exact rnodes_ok.bd _ _ _ _ hs1 y hy
  ·exact rvers_ok.bd _ _ _ _ hs2 y hy
  ·exact rvss_ok.bd _ _ _ _ hs3 y hy
 generalize hW:(bif Az p k s g l then (Bj (DM p 0 (Aw p l) (Bp p k s g l)),(⟨Aw p l,p.me⟩:Tag)) else (p,⟨0,0⟩))=W;suffices hq:∃ h' row' F',_=some (V.agg [Iv W.2.time,Iv W.2.place],h')∧A5 false h' row' W.1 F'∧h'[b]?=some (.rows 6 49 false [row'])∧Mv h (b ::(G1++(G2++G3))) h' (b :: F') from by obtain ⟨h',row',F',e,hr⟩:=hq;exact ⟨h',row',F',LJ e,hr⟩
 have stay:∀ h',Mv h [] h' []→Az p k s g l=false→∃ h'' row' F',some (V.agg [Iv 0,Iv 0],h')=some (V.agg [Iv W.2.time,Iv W.2.place],h'')∧A5 false h'' row' W.1 F'∧h''[b]?=some (.rows 6 49 false [row'])∧Mv h (b ::(G1++(G2++G3))) h'' (b :: F'):=fun h' m hc=>by rw[hc,cond_false] at hW;subst hW;exact ⟨h',_,G1++(G2++G3),rfl,⟨_,_,_,_,_,_,rfl,_,_,_,G1,G2,G3,rfl,rfl,m.keep0 rnodes_ok hs1,m.keep0 rvers_ok hs2,m.keep0 rvss_ok hs3⟩,by rw[m.fr b hblt (by simp)];exact hb,m.aside (G:=b ::(G1++(G2++G3))) hnd hbd⟩
 have h0:=EG hok;have hti:=Ld hok;have hcw:=Kj (p:=p) (k:=k) (s:=s) (g:=g) (l:=l);have e1:=Mk (lo:=lo) (v:=⟨k,⟨0,0⟩,l,s,g⟩) hv hvn;simp only[Ver.cs] at e1;rw[e1,Ac,As];cases hwr:E1 ⟨k,⟨0,0⟩,l,s,g⟩ with
 | false=>rw[Au];exact stay h Mv.nil (by rw[hcw,hwr];rfl)
 | true =>
 rw[hwr,zbA] at hcw;have hpk:A6 l=true:=by unfold E1 at hwr;simp only[Dr] at hwr;exact hwr.2
 have hl4:=Bn hpk;have htb:=Kt hok hpk;have l2:ld h b 0 (0+2) 1=some [.sl 2 a1 p.chain.length c1]:=by rw[Bx hb rfl];rfl
 obtain ⟨bt,dt,Ht,et,rt,_⟩:=I3 (lo:=h.length) (b:=b) (i:=0) (j:=0+2) l2 hs1 h0 hn.1.1;have hslen:(p.chain[p.chain.length - 1]'(by omega)).store.length=4:=(hti.node _ (zbb _)).1;obtain ⟨vt,h5,F5,e5,r5,m5⟩:=KA (lo:=h.length) rt (zbf _) hslen;obtain ⟨a6,c6,e6,r6⟩:=r5.form;rw[Al,et,Ac,Ap,Aa,Ah,Af,e5,Ac,Ap,Aa,e6,Af,Jv (m5.keep0 rtags_ok hv) r6 hvn.1 (by simp only[Bi,zcx];omega),Ac,As];unfold EW at hcw;rw[Hk h0] at hcw;cases hu:BH l (Bi (p.chain[p.chain.length - 1]'(by omega)).store) with
 | false=>rw[Au];exact stay h5 m5.drop (by rw[hcw,hu];rfl)
 | true =>
 rw[hu,zbA] at hcw;have hb5:h5[b]?=some (.rows 6 49 false [p.cs a1 c1 a2 c2 a3 c3]):=by rw[m5.fr b hblt (by simp)];exact hb
 have l25:ld h5 b 0 (0+2) 1=some [.sl 2 a1 p.chain.length c1]:=by rw[Bx hb5 rfl];rfl
 have hs15:=m5.keep0 rnodes_ok hs1;have hs25:=m5.keep0 rvers_ok hs2;have hs35:=m5.keep0 rvss_ok hs3;have hv5:=m5.keep0 rtags_ok hv;have hfu:Ad lo 201 [.ptr (some (b,(0,0+2))),Iv 0] h5=some (.bool (!Dg p.chain 0),h5):=R6 l25 hs15 h0;rw[Al,hfu,Ac,As];cases hr:Dg p.chain 0 with
 | false=>rw[zci,Al];exact stay h5 m5.drop (by rw[hcw,hr];rfl)
 | true =>
 rw[hr,zbA] at hcw;have l3:ld h5 b 0 (0+3) 1=some [.sl 6 a2 p.log.length c2]:=by rw[Bx hb5 rfl];rfl
 rw[zbX,Au,l3,Ag,Aa,Af,Ah];cases hlg:decide ((p.log.length:Int)<36) with
 | false =>
  have:(p.log.length:Int)≥36:=by have:=of_decide_eq_false hlg;omega
  rw[Ak (by omega)];exact stay h5 m5.drop (by rw[hcw,hlg];simp)
 | true =>
 have:(p.log.length:Int)<36:=of_decide_eq_true hlg;rw[hlg,zb8] at hcw;have l1:ld h5 b 0 (0+1) 1=some [Iv p.clock]:=by rw[Bx hb5 rfl];rfl
 have l0:ld h5 b 0 (0+0) 1=some [Iv p.me]:=by rw[Bx hb5 rfl];rfl
 have hT:(if Ds l>p.clock then Ds l else p.clock)+1=Aw p l:=rfl;rw[Aj (by omega),l1,Ag,Aa,Af,Ab,Oh hv5 hvn.1,Ac,Ab,hT,wr (n:=Aw p l) (by omega) (by omega)];cases hti9:decide (Aw p l≤999) with
 | false =>
  have:Aw p l>999:=by have:=of_decide_eq_false hti9;omega
  rw[Ak (by omega)];exact stay h5 m5.drop (by rw[hcw,hti9])
 | true =>
 have:Aw p l≤999:=of_decide_eq_true hti9;rw[hti9] at hcw;have hvt:=Oc hok hcw;rw[hcw,cond_true] at hW;obtain ⟨kp1,_⟩:=D8 hcw;have hnd':=hnd;rw[zbj,zbd,zbc,zbc,zbd] at hnd';obtain ⟨n1,n2,⟨n3,n4,n5⟩,n6⟩:=hnd';simp only[not_or] at n1;have hb5lt:b<h5.length:=zbk hblt m5.le;have e8:=DJ (lo:=lo) (cs := [Iv (Aw p l)]) (j:=0+1) (r:=0) (row:=p.cs a1 c1 a2 c2 a3 c3) hb5 (hlo b (by simp)) rfl (IY (by simp[Place.cs]));obtain ⟨m6,b6,k6,_⟩:=(Mv.refl (h:=h5) (F := []) (by simp)).store hb5lt (by simp) (.rows 6 49 false [(Eu p (Aw p l)).cs a1 c1 a2 c2 a3 c3]);generalize hh6:h5.set b (.rows 6 49 false [(Eu p (Aw p l)).cs a1 c1 a2 c2 a3 c3])=h6 at m6 b6 k6;have e8':st lo h5 b 0 (0+1) [Iv (Aw p l)]=some h6:=by rw[← hh6];exact e8
 have hs16:=m6.keep rnodes_ok hs15 fun y hy hm=>by rw[zbi] at hm;subst hm;exact n1.1 hy
 have hs26:=m6.keep rvers_ok hs25 fun y hy hm=>by rw[zbi] at hm;subst hm;exact n1.2.1 hy
 have hs36:=m6.keep rvss_ok hs35 fun y hy hm=>by rw[zbi] at hm;subst hm;exact n1.2.2 hy
 have hv6:=m6.keep rtags_ok hv5 fun y hy hm=>by rw[zbi] at hm;subst hm;exact hvd y hy (by simp)
 have hkl:(Bp p k s g l).key<p.chain[0].store.length:=by have:=(hti.node _ (zbb h0)).1;show k<_;omega
 obtain ⟨h7,F7,e7,r7,m7⟩:=Un (lo:=lo) (l:=p.chain) (v:=Bp p k s g l) (i:=0) (j:=0+2) b6 rfl rfl hs16 n1.1 hv6 (fun y hy hm=>hvd y hy (by simp[hm])) n2 (fun y hy=>hlo y (by simp[hy])) (by have:=m5.le;have:=m6.le;omega) h0 ⟨kp1.1,hkl⟩ hn.1 hvn.1;rw[hr,cond_true] at r7;rw[hr] at e7;have hbd6:∀ y∈b ::(G1++(G2++G3)),y<h6.length:=fun y hy=>zbk (hbd y hy) (zba m5.le m6.le);have nd2:(b :: G2).Nodup:=by rw[zbj];exact ⟨n1.2.1,n3⟩
 have d1:=(XY m7 (Mv.refl nd2) hnd hbd6).2.1;have hb7:h7[b]?=some (.rows 6 49 false [(Eu p (Aw p l)).cs a1 c1 a2 c2 a3 c3]):=by rw[m7.fr b (zbk hb5lt m6.le) n1.1];exact b6
 have hs27:RVers false h7 [.sl 6 a2 p.log.length c2] p.log G2:=m7.keep rvers_ok hs26 fun y hy hm=>n6 y hm y (by simp[hy]) rfl;have ta:=LW (k:=0) (t:=Aw p l) (B3 hok) hvt;have ta':Tidy 10 20 100 (DM p 0 (Aw p l) (Bp p k s g l)):=⟨zba ta.len (by decide),fun x hx=>by have:=ta.node x hx;exact ⟨this.1,zba this.2.1 (by decide),this.2.2⟩,⟨zba ta.log.1 (by decide),ta.log.2⟩,ta.got.1,fun l hl=>⟨zba (ta.got.2 l hl).1 (by decide),(ta.got.2 l hl).2⟩⟩;have hcs:(DM p 0 (Aw p l) (Bp p k s g l)).cs a1 c1 a2 c2 a3 c3=(Eu p (Aw p l)).cs a1 c1 a2 c2 a3 c3:=by simp only[Place.cs,DM,Eu,addN_len]
 rw[← addN_len (k:=0) (v:=Bp p k s g l)] at r7;obtain ⟨a8,c8,h8,F8,e9,b9,r9,m9⟩:=Ml (lo:=lo) (p:=DM p 0 (Aw p l) (Bp p k s g l)) (a3:=a3) (c3:=c3) (by rw[hcs];exact hb7) r7 hs27 (by show 0<(EH _ _ _).length;rw[addN_len];omega) ta' d1 nd2 (fun y hy=>hlo y (by simp only[zbn,zbc] at hy ⊢;rcases hy with hy | hy;exact .inl hy;exact .inr (.inr (.inl hy)))) (by have:=m5.le;have:=m6.le;have:=m7.le;omega);obtain ⟨r10,m10⟩:=Jn (q:=Bj (DM p 0 (Aw p l) (Bp p k s g l))) m7 m9 hnd hbd6 r7 r9 hs36;have m56:Mv h (b ::(G1++(G2++G3))) h6 (b ::(G1++(G2++G3))):=(m5.drop.aside (G:=b ::(G1++(G2++G3))) hnd hbd).trans (m6.aside (G:=G1++(G2++G3)) hnd fun y hy=>zbk (hbd y (by simp[hy])) m5.le);simp only[Ver.cs,Bp] at e7;rw[Aj (by omega),l0,Ag,Aa,Af,Ab,e8',Ag,e7,Ac,As,Al,e9,Ac,C4,Af];subst hW;exact ⟨h8,_,_,rfl,r10,b9,m56.trans m10⟩
theorem Hp {cs:List V} (hp:A5 false h cs p F) (hv:RTags false h [.sl 2 av l.length cv] l G) (hl:lo≤h.length) (hn:BT p) (hvn:l.length≤1048576∧s.size≤1048576) :
  ∃ raw r h' F',Ad lo 38 [.agg cs,Iv k,.str s,.bool g,.agg [.sl 2 av l.length cv]] h=some (.tup [.agg raw,.agg [Iv (AY p k s g l).2.time,Iv (AY p k s g l).2.place]],h')∧FX raw (AY p k s g l).1 r∧A5 false h' r (AY p k s g l).1 F'∧Mv h [] h' F':=by
 generalize hh0:((((h ++ [Blk.rows 1 3 false [[Iv k]]]) ++ [Blk.rows 1 9 false [[.str s]]]) ++ [Blk.rows 1 4 false [[.bool g]]]) ++ [Blk.rows 1 32 false [[.sl 2 av l.length cv]]])=h0;have l1:(h ++ [Blk.rows 1 3 false [[Iv k]]]).length=h.length+1:=by simp
 have l2:((h ++ [Blk.rows 1 3 false [[Iv k]]]) ++ [Blk.rows 1 9 false [[.str s]]]).length=h.length+2:=by simp
 have l3:(((h ++ [Blk.rows 1 3 false [[Iv k]]]) ++ [Blk.rows 1 9 false [[.str s]]]) ++ [Blk.rows 1 4 false [[.bool g]]]).length=h.length+3:=by simp
 have l4:h0.length=h.length+4:=by rw[← hh0];simp
 have m0:Mv h [] h0 []:=by rw[← hh0];exact ((Mv.snoc.trans Mv.snoc).trans Mv.snoc).trans Mv.snoc
 have m1:Mv h0 [] (h0 ++ [Blk.rows 2 29 false [[Iv 0,Iv 0]]]) [h0.length]:=Mv.last;have z1:h0[h.length]?=some (.rows 1 3 false [[Iv k]]):=by rw[← hh0,zbe (by simp),zbe (by simp),zbe (by simp),zbx (by omega)];simp
 have z2:h0[h.length+1]?=some (.rows 1 9 false [[.str s]]):=by rw[← hh0,zbe (by simp),zbe (by simp),zbx (by simp),l1];simp
 have z3:h0[h.length+2]?=some (.rows 1 4 false [[.bool g]]):=by rw[← hh0,zbe (by simp),zbx (by simp),l2];simp
 have z4:h0[h.length+3]?=some (.rows 1 32 false [[.sl 2 av l.length cv]]):=by rw[← hh0,zbx (by simp),l3];simp
 have m01:=m0.trans m1.drop;obtain ⟨raw,r,h',F',e,n,rr,m,hx⟩:=Ot (lo:=lo) (p':=(AY p k s g l).1) (l1 := [.ptr (some (h.length,(0,0))),.ptr (some (h.length+3,(0,0))),.ptr (some (h.length+1,(0,0))),.ptr (some (h.length+2,(0,0))),.ptr (some (h0.length,(0,0)))]) (g:=109) (ok:=true) (x:=h0.length)
  (X0 := .rows 2 29 false [[Iv 0,Iv 0]]) (X1 := .rows 2 29 false [[Iv (AY p k s g l).2.time,Iv (AY p k s g l).2.place]]) (m01.keep0 rplaceN_ok hp) (zba hl m01.le) hn (by simp) (fun hpo hh b row F1 hhl mm rp hb hnd hlo=>by
  obtain ⟨b1,d1,b2,d2,b3,d3,rfl,rp⟩:=rp;obtain ⟨G1,G2,G3,rfl,g1,g2,g3⟩:=rp.cells;have hl1:(h0 ++ [Blk.rows 2 29 false [[Iv 0,Iv 0]]]).length=h0.length+1:=by simp
  have up:∀ i X,i<h0.length→h0[i]?=some X→hh[i]?=some X:=fun i X hi hX=>by rw[mm.fr i (by omega) (by simp),zbe hi];exact hX
  have k1:ld hh h.length 0 0 1=some [Iv k]:=by rw[Bx (up _ _ (by omega) z1) rfl];rfl
  have k2:ld hh (h.length+1) 0 0 1=some [.str s]:=by rw[Bx (up _ _ (by omega) z2) rfl];rfl
  have k3:ld hh (h.length+2) 0 0 1=some [.bool g]:=by rw[Bx (up _ _ (by omega) z3) rfl];rfl
  have k4:ld hh (h.length+3) 0 0 1=some [.sl 2 av l.length cv]:=by rw[Bx (up _ _ (by omega) z4) rfl];rfl
  have hvh:RTags false hh [.sl 2 av l.length cv] l G:=(m01.trans mm).keep0 rtags_ok hv;have hGb:∀ y∈G,y<h.length:=rtags_ok.bd _ _ _ _ hv;obtain ⟨h9,row9,F9,e9,r9,b9,m9⟩:=VD (lo:=lo) (k:=k) (s:=s) (g:=g) hb g1 g2 g3 hvh (fun y hy hm=>by
   have g1:=hGb y hy;have g2:=hlo y (by rw[zbn] at hm ⊢;rw[zbc];exact hm.imp id .inl);omega) hpo hn hvn hnd (fun y hy=>by have:=hlo y hy;omega) (by omega)
  have hxb:h0.length∉b ::(G1++(G2++G3)):=fun hm=>by have:=hlo _ hm;omega
  have hx0:hh[h0.length]?=some (.rows 2 29 false [[Iv 0,Iv 0]]):=by rw[mm.fr _ (by omega) (by simp)];simp
  have hxlt:h0.length<hh.length:=(EY hx0).1;have hx9:h9[h0.length]?=some (.rows 2 29 false [[Iv 0,Iv 0]]):=by rw[m9.fr _ hxlt hxb];exact hx0
  have e10:=DJ (lo:=lo) (cs := [Iv (AY p k s g l).2.time,Iv (AY p k s g l).2.place]) (j:=0) (r:=0) (row := [Iv 0,Iv 0]) hx9 (by omega) rfl (Db rfl);obtain ⟨m10,b10,k10,n10⟩:=m9.store hxlt hxb (.rows 2 29 false [[Iv (AY p k s g l).2.time,Iv (AY p k s g l).2.place]]);have hb9:b≠h0.length:=fun e=>hxb (by rw[e];simp);refine ⟨_,row9,F9,KU ?_,rplaceN_ok.fr _ _ _ _ _ r9 fun y hy=>k10 y fun e=>n10 (by rw[← e];simp[hy]),by rw[k10 b hb9];exact b9,b10,m10⟩;rw[k1,Ag,Aa,Af,Ab,k4,Ag,Aa,Ah,Af,k2,Ag,Aa,Af,Bh,k3,Ag,Aa,Af,As];cases g;all_goals
   first | rw[Al] | rw[Au]
   rw[e9,Ac,Ap,Aa,Ab,Aa,Ab,Af,e10,Ag];rfl)
 obtain ⟨b1,d1,b2,d2,b3,d3,rfl,_⟩:=hp;have hq:En p (AY p k s g l).1=(AY p k s g l).1:=by unfold En;cases hpo:An p with | true=>rfl | false=>unfold AY;rw[hpo];rfl
 rw[hq] at n rr;obtain ⟨s1,s2,s3,a1',c1',a2',c2',a3',c3',rfl,n1,n2,n3,rfl⟩:=n;have hx':h'[h0.length]?=some (.rows 2 29 false [[Iv (AY p k s g l).2.time,Iv (AY p k s g l).2.place]]):=by rw[hx];cases hpo:An p with | true=>rfl | false=>unfold AY;rw[hpo];rfl
 have lx:ld h' h0.length 0 0 2=some [Iv (AY p k s g l).2.time,Iv (AY p k s g l).2.place]:=by rw[Bx hx' rfl];rfl
 have ndx:=m.nd;rw[zbj] at ndx;refine ⟨(AY p k s g l).1.cs a1' c1' a2' c2' a3' c3',_,h',F',ML ?_,C7,rr,((m0.trans m1).trans m).lean ndx.2 fun y hy=>by simp[hy]⟩;simp only[Place.cs] at e;rw[l3,l2,l1,hh0,e,Ac,C4,Aa,Ap,Aa,Ab,Aa,Ab,Aa,n1,Aa,n2,Aa,n3,Aa,At,Af,Aa,As];cases (An p&&true);all_goals
  first | rw[Al] | rw[Au]
  rw[Af,lx,Ag,Aa,Ab,Aa,Ab,Af]
end


variable {p:Place}
def I4 (p:Place) (f:Nat) (at':Int) (v:Ver):Bool := !((f:Int)==p.me)&&((at'==((JP p f).length:Int))&&(decide (((JP p f).length:Int)<60) && !B4 (JP p f) v.tag))
def Hc (p:Place) (f at':Int) (v:Ver):Bool:=Am f 0 2&&(A3 v&&((v.tag.place==f)&&I4 p f.toNat at' v))
def JO (p:Place) (f:Nat) (v:Ver):Place:=⟨p.me,p.clock,p.chain,p.log,p.got.set f (JP p f ++ [v]),p.fell⟩
def G9 (p:Place) (f at':Int) (v:Ver):Place:=bif Hc p f at' v then JO p f.toNat v else p
theorem Py {a:Option (List V)}:K0 a a=true:=by unfold K0;exact (@decide_eq_true_iff _ (_)).2 rfl
theorem ZC {f:Nat}{v:Ver}{a1 a2 a3:Pq}{c1 c2 c3:Nq}:(JO p f v).cs a1 c1 a2 c2 a3 c3=p.cs a1 c1 a2 c2 a3 c3:=by simp only[Place.cs,JO,zbz]
section
variable {lo:Nat}{h:Heap}{F F' G:List Nat}{a a' av:Pq}{c c' cv:Nq}
theorem Ss {f:Nat}{at':Int}{v:Ver}{a1 a2 a3:Pq}{c1 c2 c3:Nq}{F3:List Nat} (hs3:RVss false h [.sl 1 a3 p.got.length c3] p.got F3) (hv:RTags false h [.sl 2 av v.past.length cv] v.past G)
  (hf:f<p.got.length) (hgn:p.got[f].length≤1000000) (hvn:v.past.length≤1048576) (hnd:F3.Nodup) (hlo:∀ b∈F3,lo≤b) (hl:lo≤h.length) :
  ∃ h' F3',Ad lo 85 [.agg (p.cs a1 c1 a2 c2 a3 c3),Iv (f:Nat),Iv at',.agg (v.cs av cv)] h=some (.tup [.agg (p.cs a1 c1 a2 c2 a3 c3),.bool (I4 p f at' v)],h') ∧
   RVss false h' [.sl 1 a3 p.got.length c3] (bif I4 p f at' v then p.got.set f (p.got[f] ++ [v]) else p.got) F3'∧Mv h F3 h' F3'∧(I4 p f at' v=false→h'=h):=by
 suffices hq:∃ h' F3',_=some (V.tup [.agg (p.cs a1 c1 a2 c2 a3 c3),.bool (I4 p f at' v)],h')∧RVss false h' [.sl 1 a3 p.got.length c3] (bif I4 p f at' v then p.got.set f (p.got[f] ++ [v]) else p.got) F3'∧Mv h F3 h' F3'∧(I4 p f at' v=false→h'=h) from hq.imp fun h' hq=>hq.imp fun F' hq=>⟨Q6 hq.1,hq.2⟩
 have hh:I4 p f at' v=(!((f:Int)==p.me)&&((at'==(p.got[f].length:Int))&&(decide ((p.got[f].length:Int)<60) && !B4 p.got[f] v.tag))):=by unfold I4;rw[I5 hf]
 rw[hh];cases x1:((f:Int)==p.me) with
 | true=>rw[Al];exact ⟨h,F3,rfl,hs3,Mv.refl hnd,fun _=>rfl⟩
 | false =>
 obtain ⟨b,i,rs,row,G0,ha,hbF,hbG,hb,hrow,hel,hGF,hGn,_,put⟩:=hs3.at rvers_ok hf hnd hlo;have hrs:∃ s,row = [s]:=by obtain ⟨R',a',c',e,_⟩:=id hel;exact ⟨_,e⟩
 obtain ⟨s,rfl⟩:=hrs;obtain ⟨b3,d3,es,r3⟩:=hel.form;have hld:ld h b (i+f) 0 1=some [s]:=by rw[Bx hb hrow];rfl
 rw[Au,Ae hf,ha,Ag,Be,hld,Ag,Aa,Af,es];cases x2:(at'==(p.got[f].length:Int)) with
 | false=>rw[Au];exact ⟨h,F3,rfl,by rw[← ha];exact hs3,Mv.refl hnd,fun _=>rfl⟩
 | true =>
 have hat:at'=(p.got[f].length:Int):=by rwa [beq_iff_eq] at x2
 rw[Al];cases x3:decide ((p.got[f].length:Int)<60) with
 | false =>
  have:(p.got[f].length:Int)≥60:=by have:=of_decide_eq_false x3;omega
  rw[Ak (by omega)];exact ⟨h,F3,rfl,by rw[← ha];exact hs3,Mv.refl hnd,fun _=>rfl⟩
 | true =>
 have:(p.got[f].length:Int)<60:=of_decide_eq_true x3;rw[Aj (by omega),Ae hf,Ag,hld,Ag,Aa,Af,es,KX r3 (by omega),Ac,As];have hht:B4 p.got[f] ⟨v.tag.time,v.tag.place⟩=B4 p.got[f] v.tag:=rfl;rw[hht];cases x4:B4 p.got[f] v.tag with
 | true=>rw[Al];exact ⟨h,F3,rfl,by rw[← ha];exact hs3,Mv.refl hnd,fun _=>rfl⟩
 | false =>
 obtain ⟨a5,c5,h5,F5,e5,r5,m5⟩:=Cy (lo:=h.length) (v:=v) hv (zbf _) hvn;obtain ⟨a6,c6,h6,F6,e6,r6,m6⟩:=EV (lo:=lo) (bytes:=72) (e:=34) rver_ok r3 (row:=v.cs a5 c5) (x:=v) (G:=F5) (h1:=h5 ++ [.rows 6 34 false [v.cs a5 c5]])
  ⟨_,rfl,Mv.snoc.keep0 rtags_ok r5⟩ (m5.trans (Mv.snoc' m5.nd)) hGn (fun y hy=>hlo y (hGF y hy)) hl (by decide) (by omega)
 rw[show p.got[f].length+1=(p.got[f] ++ [v]).length by simp] at r6;obtain ⟨h7,F7,e7,r7,m7,_⟩:=put h6 F6 0 [.sl 6 a6 (p.got[f] ++ [v]).length c6] [.sl 6 a6 (p.got[f] ++ [v]).length c6] (p.got[f] ++ [v]) m6 rfl r6;rw[show (p.got[f] ++ [v]).length=p.got[f].length+1 by simp] at e7;rw[Au,Ae hf,Ag,hld,Ag,Aa,Af,es,e5,Ac,Ap,Aa,Ab,Aa,Ab,Aa,Ab,Aa,Ah,Aa,Bh,Aa,At,Af,A4];simp only[Ver.cs] at e6;rw[e6,Ah,Ae hf,Ag,e7,Ag];exact ⟨h7,F7,rfl,by rw[← ha];exact r7,m7,fun g=>by cases g⟩
end


variable {c t:Int}{s:ByteArray}{i:Nat}{x:Node}{k m:Int}
theorem Ic {a b d:Int}:Gp a b c d=false↔¬ (a<c∨(a=c∧b<d)):=by rw[← Bool.not_eq_true];simp[Gp]
theorem under_iff {p q:List Tag}:BH p q=true↔∀ (i:Nat) (a b:Tag),p[i]?=some a→q[i]?=some b→Gp b.time b.place a.time a.place=false:=by
 unfold BH;rw[zbp];constructor
 ·intro h i a b ha hb;have:=h (a,b) (zbt.2 ⟨i,zcR.2 ⟨ha,hb⟩⟩);simpa using this
 ·rintro h ⟨a,b⟩ hm
  obtain ⟨i,hi⟩:=zbt.1 hm;rw[zcR] at hi;simpa using h i a b hi.1 hi.2
theorem HU {p:List Tag}:BH p p=true:=under_iff.2 fun i a b ha hb=>by rw[ha] at hb;injection hb with hb;subst hb;rw[Ic];omega
theorem TF {p q r:List Tag} (hl:p.length≤q.length) (h1:BH p q=true) (h2:BH q r=true):BH p r=true:=under_iff.2 fun i a c ha hc=>by have hi:=(EY ha).1;have hb:=Dc (l:=q) (i:=i) (by omega);have x1:=under_iff.1 h1 i a _ ha hb;have x2:=under_iff.1 h2 i _ c hb hc;rw[Ic] at x1 x2 ⊢;omega
theorem MW {t s:List Ver} (h:upS t s):BH (Bi t) (Bi s)=true:=under_iff.2 fun i a b ha hb=>by
 unfold Bi at ha hb;rw[zcA,zbP] at ha hb;obtain ⟨x,hx,rfl⟩:=ha;obtain ⟨y,hy,rfl⟩:=hb;rw[Ic];rcases h i x y hx hy with rfl | g
 ·omega
 ·rw[HO] at g;omega
def inCh (l:List Node) (v:Ver):Prop:=∃ x∈l,v∈x.store∨v∈x.wait
section
variable {l:List Node}{v:Ver}
theorem inCh.get (h:inCh l v):∃ (i:Nat) (x:Node),l[i]?=some x∧(v∈x.store∨v∈x.wait):=by obtain ⟨x,hx,hv⟩:=h;obtain ⟨i,hi⟩:=zbt.1 hx;exact ⟨i,x,hi,hv⟩
theorem inCh.of (hx:l[i]?=some x) (hv:v∈x.store∨v∈x.wait):inCh l v:=⟨x,zbw hx,hv⟩
theorem Ch.ver (h:Ch l) (hv:inCh l v) (ht:0<v.tag.time):A3 v=true:=by
 obtain ⟨i,x,hx,g | g⟩:=hv.get
 ·obtain ⟨j,hj⟩:=zbt.1 g;rcases De (HW (h.store hx).1 hj) with g2 | g2
  ·have:=(ED g2).1;omega
  ·exact g2.1
 ·exact (AD (h.node i x hx)).2.2 v g
theorem Da (hx:l[i]?=some x) (hi:i+1=l.length):AN l=Bi x.store:=by
 rw[Hk (show 0<l.length by omega)];obtain ⟨hj,rfl⟩:=EY hx;have e:l.length - 1=i:=by omega
 simp only[e]
theorem HP (hx:l[i]?=some x) (hi:i+1=l.length):DS l=x.store:=by
 rw[Ez (show 0<l.length by omega)];obtain ⟨hj,rfl⟩:=EY hx;have e:l.length - 1=i:=by omega
 simp only[e]
theorem Ch.tail (h:Ch l):∃ z,l[l.length - 1]?=some z∧l.length - 1+1=l.length:=by have:=h.pos;exact ⟨_,Dc (by omega),by omega⟩
theorem Ch.four (h:Ch l):(AN l).length=4∧(DS l).length=4:=by obtain ⟨z,hz,hi⟩:=h.tail;rw[Da hz hi,HP hz hi];have:=(h.store hz).2;exact ⟨by simpa [Bi] using this,this⟩
theorem Nk (h:Ch l):(Ie l).length=l.length+1∧AN (Ie l)=AN l∧DS (Ie l)=DS l∧(Ie l)[0]?=l[0]?:=by
 have hp:=h.pos;obtain ⟨z,hz,hi⟩:=h.tail;obtain ⟨hj,e⟩:=EY hz;have hn:(Ie l)[l.length]?=some ⟨z.store,[]⟩:=by rw[GH (by omega),zbx (zbf _),Nat.sub_self,e];rfl
 have hl:(Ie l).length=l.length+1:=by rw[GH (by omega)];simp
 refine ⟨hl,?_,?_,?_⟩
 ·rw[Da hn (by omega),Da hz hi]
 ·rw[HP hn (by omega),HP hz hi]
 ·rw[GH (by omega),zbe (by omega)]
theorem R3 (hp:1≤l.length) (hv:inCh (Ie l) v):inCh l v:=by
 rw[GH (by omega)] at hv;obtain ⟨x,hx,g⟩:=hv;rcases zbc.1 hx with hx | hx
 ·exact ⟨x,hx,g⟩
 ·rw[zbi] at hx;subst hx;rcases g with g | g
  ·exact ⟨_,zbb (by omega),.inl g⟩
  ·exact absurd g (by simp)
theorem R4 {k:Nat} (hk:k<l.length) (hv:inCh (Cq l k) v):inCh l v:=by
 obtain ⟨i,x,hx,g⟩:=hv.get;rw[I6 hk] at hx;split at hx
 ·rw[zbP] at hx;obtain ⟨z,hz,rfl⟩:=hx;rcases g with g | g
  ·exact .of hz (.inl g)
  ·simp only at g;split at g
   ·exact .of hz (.inl (Ni g))
   ·simp at g
 ·split at hx
  ·exact .of hx g
  ·exact .of hx g
theorem Mi {j:Nat}{u:Ver} (hv:inCh (EH l j u) v):inCh l v∨v=u:=by
 unfold EH at hv;split at hv
 ·rename_i x hx
  split at hv
  ·rename_i w hw
   cases hl:AZ w u with
   | false=>rw[hl] at hv;exact .inl hv
   | true =>
    rw[hl,cond_true] at hv;obtain ⟨y,hy,g⟩:=hv;rcases zby hy with hy | rfl
    ·exact .inl ⟨y,hy,g⟩
    ·rcases g with g | g
     ·rcases zby g with g | rfl
      ·exact .inl (.of hx (.inl g))
      ·exact .inr rfl
     ·simp only at g;cases hd:decide (j+1<l.length) with
      | false=>rw[hd] at g;exact .inl (.of hx (.inr g))
      | true =>
       rw[hd,cond_true] at g;rcases zbc.1 g with g | g
       ·exact .inl (.of hx (.inr g))
       ·exact .inr (by simpa using g)
  ·exact .inl hv
 ·exact .inl hv
theorem R0 (hc:C5 l k=true) (hv:inCh (HD l k.toNat) v):inCh l v:=by
 obtain ⟨f,x,y,u,r,rfl,hx,hy,hw,hr⟩:=H0 hc;rw[Be,L5 hx hw] at hv;rcases Mi hv with ⟨z,hz,g⟩ | rfl
 ·rcases zby hz with hz | rfl
  ·exact ⟨z,hz,g⟩
  ·rcases g with g | g
   ·exact .of hx (.inl g)
   ·exact .of hx (.inr (by rw[hw];simp only at g;simp[g]))
 ·exact .of hx (.inr (by rw[hw];simp))
theorem Lv (h:Ch l):D3 l=true↔∀ v,inCh l v→0<v.tag.time→BH v.past (AN l)=true:=by
 unfold D3 Fa;rw[zbp];constructor
 ·rintro hc v ⟨x,hx,g⟩ ht
  have:=hc x hx;rw[Dr,zbp,zbp] at this;rcases g with g | g
  ·have:=this.1 v g;rw[zbY,zbT,decide_eq_false_iff_not] at this;exact this.resolve_left fun hn=>hn ht
  ·exact this.2 v g
 ·intro hc x hx;rw[Dr,zbp,zbp];refine ⟨fun v hv=>?_,fun v hv=>?_⟩
  ·by_cases ht:v.tag.time>0
   ·rw[hc v ⟨x,hx,.inl hv⟩ ht,Bool.or_true]
   ·rw[decide_eq_false ht];rfl
  ·obtain ⟨i,hi⟩:=zbt.1 hx;exact hc v ⟨x,hx,.inr hv⟩ (Gz ((AD (h.node i x hi)).2.2 v hv))
theorem EX (hx:l[0]?=some x):DV l c=true↔∀ v∈x.store,v.tag.time≤c:=by unfold DV;rw[hx];simp
theorem Uy (h:Ch l) {k:Nat} (hk:k<l.length) (h2:1<l.length):BH (AN l) (AN (Cq l k))=true:=by
 have hlen:=KC hk h2;obtain ⟨z,hz,hi⟩:=h.tail;obtain ⟨z',hz',hi'⟩:=(h.fall hk h2).tail;rw[Da hz hi,Da hz' hi'];rw[I6 hk] at hz';split at hz'
 ·rename_i e
  rw[zbP] at hz';obtain ⟨w,hw,rfl⟩:=hz';exact MW (h.up 1 _ w z hw (by rw[show (Cq l k).length - 1+1=l.length - 1 by omega];exact hz))
 ·rename_i e
  split at hz'
  ·omega
  ·rw[show (Cq l k).length - 1+1=l.length - 1 by omega,hz] at hz';injection hz' with hz';subst hz';exact HU
theorem V8 (h:Ch l) (hv:A3 v=true):BH (AN l) (AN (EH l 0 v))=true:=by
 have hp:=h.pos;have hz:l[0]?=some (l[0]'(by omega)):=Dc (by omega);obtain ⟨u,hu⟩:=h.key hz hv;rw[Hl hz hu];cases hl:AZ u v with
 | false=>exact HU
 | true =>
  rw[cond_true];by_cases h1:l.length=1
  ·rw[Da hz (by omega),Da (i:=0) (zbr (by omega)) (by simpa using h1.symm)];exact MW (upS.set hu hl)
  ·obtain ⟨z,hz',hi⟩:=h.tail;rw[Da hz' hi,Da (i:=l.length - 1) (by rw[zbh (by omega)];exact hz') (by simpa using hi)];exact HU
theorem T6 (h:Ch l) (hc:C5 l k=true):BH (AN l) (AN (HD l k.toNat))=true:=by
 obtain ⟨f,x,y,v,r,rfl,hx,hy,hw,hr⟩:=H0 hc;have hlk:=h.link f x y hx hy;rw[hw] at hlk;obtain ⟨u,hu,hl,_⟩:=fitsL_cons.1 hlk;have hf1:=(EY hy).1;obtain ⟨z,hz,hi⟩:=h.tail;have hy':(l.set f ⟨x.store,r⟩)[f+1]?=some y:=by rw[zbh (by omega)];exact hy
 rw[Be,L5 hx hw,Hl hy' hu,hl,cond_true,Da hz hi];by_cases he:f+1=l.length - 1
 ·rw[he,hz] at hy;injection hy with hy;subst hy;rw[Da (i:=f+1) (zbr (by simpa using hf1)) (by simp;omega)];exact MW (upS.set hu hl)
 ·rw[Da (i:=l.length - 1) (x:=z) (by rw[zbh (by omega),zbh (by omega)];exact hz) (by simpa using hi)];exact HU
theorem XX {t s:List Ver} (h:upS t s) (hl:t.length≤s.length) (hs:∀ v∈s,v.tag.time≤c):∀ v∈t,v.tag.time≤c:=fun v hv=>by
 obtain ⟨i,hi⟩:=zbt.1 hv;have hlt:=(EY hi).1;have hy:=Dc (l:=s) (i:=i) (by omega);have:=hs _ (zbb (show i<s.length by omega));rcases h i v _ hi hy with rfl | g
 ·exact this
 ·rw[HO] at g;omega
theorem XD (h:Ch l) {k:Nat} (hk:k<l.length) (h2:1<l.length) (hh:DV l c=true):DV (Cq l k) c=true:=by
 have hlen:=KC hk h2;have h0:l[0]?=some (l[0]'(by omega)):=Dc (by omega);have h1:l[1]?=some (l[1]'(by omega)):=Dc (by omega);have hh0:=(EX h0).1 hh;have hx:(Cq l k)[0]?=some ((Cq l k)[0]'(by omega)):=Dc (by omega);rw[EX hx];rw[I6 hk] at hx;split at hx
 ·rw[h0,zcj] at hx;injection hx with hx;rw[← hx];exact hh0
 ·split at hx
  ·rw[h0] at hx;injection hx with hx;rw[← hx];exact hh0
  ·rw[zbH,h1] at hx;injection hx with hx;rw[← hx];exact XX (h.up 1 0 _ _ h0 h1) (by rw[(h.store h0).2,(h.store h1).2];exact zbf _) hh0
theorem Zc (h:Ch l) (hv:A3 v=true) (hh:DV l c=true) (hc:c≤t) (hvt:v.tag.time≤t):DV (EH l 0 v) t=true:=by
 have hp:=h.pos;have hz:l[0]?=some (l[0]'(by omega)):=Dc (by omega);obtain ⟨u,hu⟩:=h.key hz hv;have hh0:=(EX hz).1 hh;rw[Hl hz hu];cases hl:AZ u v with
 | false=>rw[cond_false,EX hz];exact fun w hw=>by have:=hh0 w hw;omega
 | true =>
  rw[cond_true,EX (zbr (by omega))];intro w hw;rcases zby hw with hw | rfl
  ·have:=hh0 w hw;omega
  ·exact hvt
theorem Xf (h:Ch l) (hc:C5 l k=true) (hh:DV l c=true):DV (HD l k.toNat) c=true:=by
 obtain ⟨f,x,y,v,r,rfl,hx,hy,hw,hr⟩:=H0 hc;have hlk:=h.link f x y hx hy;rw[hw] at hlk;obtain ⟨u,hu,hl,_⟩:=fitsL_cons.1 hlk;have hf:=(EY hx).1;have hy':(l.set f ⟨x.store,r⟩)[f+1]?=some y:=by rw[zbh (by omega)];exact hy
 rw[Be,L5 hx hw,Hl hy' hu,hl,cond_true];by_cases h0:f=0
 ·subst h0;rw[EX (x:=⟨x.store,r⟩) (by rw[zbh (by omega),zbr hf])];exact (EX hx).1 hh
 ·have hz:l[0]?=some (l[0]'(by omega)):=Dc (by omega);rw[EX (x:=l[0]'(by omega)) (by rw[zbh (by omega),zbh (by omega)];exact hz)];exact (EX hz).1 hh
end
theorem Yk {p:Place} (h1:0≤p.me∧p.me≤2) (h2:0≤p.clock∧p.clock≤999) (h3:p.got.length=3) (h4:Cj p.chain=true) (h5:D3 p.chain=true) (h6:D1 p.me p.log=true)
  (h7:∀ i (hi:i<p.got.length),IC p.me i p.got[i]=true) (h8:DV p.chain p.clock=true):An p=true:=by
 unfold An;simp only[Dr,EA,decide_eq_true_eq,Am];exact ⟨⟨⟨⟨⟨⟨⟨h1,h2⟩,h3⟩,h4⟩,h5⟩,h6⟩,h7⟩,h8⟩
theorem zas {l:List Ver} (h1:l.length≤60) (h2:∀ i (hi:i<l.length),A3 l[i]=true∧l[i].tag.place=m∧B4 (l.take i) l[i].tag=false):D1 m l=true:=by unfold D1;rw[Dr,EA,decide_eq_true_eq];refine ⟨fun i hi=>?_,by omega⟩;obtain ⟨g1,g2,g3⟩:=h2 i hi;unfold Md;rw[g1,g2,g3];simp
theorem Uh {l:List Ver}{v:Ver} (h:D1 m l=true) (hv:A3 v=true) (hp:v.tag.place=m) (ht:B4 l v.tag=false) (hl:l.length<60):D1 m (l ++ [v])=true:=by
 obtain ⟨h1,h2⟩:=HN h;refine zas (by simp;omega) fun i hi=>?_;by_cases hil:i<l.length
 ·rw[List.getElem_append_left hil,zcJ (by omega)];exact h2 i hil
 ·have e:i=l.length:=by simp at hi;omega
  subst e;rw[List.getElem_append_right (zbf _),zcJ (zbf _),List.take_length];simp only[Nat.sub_self,List.getElem_cons_zero];exact ⟨hv,hp,ht⟩
theorem RR {m:Int}:∀ {vs l:List Ver},(∀ v∈vs,0<v.tag.time→A3 v=true)→D1 m l=true→l.length+vs.length≤60→D1 m (vs.foldl (noted m) l)=true
 | [],l,_,h,_=>h
 | v :: vs,l,hv,h,hl=>by
  rw[zbZ] at hl;rw[zbU];have h3:=Xj (me:=m) (log:=l) (v:=v);refine RR (fun w hw=>hv w (by simp[hw])) ?_ (by omega);unfold noted;cases hc:(decide (v.tag.time>0)&&(v.tag.place==m && !B4 l v.tag)) with
  | false=>exact h
  | true =>simp only[Dr,decide_eq_true_eq,beq_iff_eq,zbT] at hc;exact Uh h (hv v (by simp) hc.1) hc.2.1 hc.2.2 (by omega)
theorem hasTag_mem {l:List Ver}{t:Tag}:B4 l t=true↔∃ v∈l,v.tag=t:=by
 unfold B4;rw[List.any_eq_true];constructor
 ·rintro ⟨v,hv,g⟩
  rw[Dr,beq_iff_eq,beq_iff_eq] at g;exact ⟨v,hv,by cases hv:v.tag;cases t;simp_all⟩
 ·rintro ⟨v,hv,rfl⟩
  exact ⟨v,hv,by simp⟩
theorem Nb {m:Int}:∀ {vs l:List Ver},(∀ v∈vs,0<v.tag.time→v.tag.place=m→B4 (vs.foldl (noted m) l) v.tag=true)∧∃ r,vs.foldl (noted m) l=l++r
 | [],l=>⟨by simp,[],by simp⟩
 | v :: vs,l=>by
  obtain ⟨h1,r,h2⟩:=Nb (m:=m) (vs:=vs) (l:=noted m l v);rw[zbU];have hr:∃ r',noted m l v=l++r':=by
   unfold noted;cases decide (v.tag.time>0)&&(v.tag.place==m && !B4 l v.tag)
   ·exact ⟨[],by simp⟩
   ·exact ⟨[v],rfl⟩
  obtain ⟨r',hr'⟩:=hr;refine ⟨fun w hw ht hp=>?_,r'++r,by rw[h2,hr',zbs]⟩;rcases zbn.1 hw with rfl | hw
  ·have hx:B4 (noted m l w) w.tag=true:=by
    unfold noted;rw[decide_eq_true ht,hp,FE,zbA,zbA];cases hc:B4 l w.tag with
    | true=>exact hc
    | false=>exact hasTag_mem.2 ⟨w,by simp,rfl⟩
   obtain ⟨u,hu,e⟩:=hasTag_mem.1 hx;rw[h2];exact hasTag_mem.2 ⟨u,zbD _ hu,e⟩
  ·exact h1 w hw ht hp
section
variable {p:Place}
theorem FM (h:An p=true):Ch p.chain:=chain_iff.1 (AK h).2.2.2.1
theorem Ys (h:Ch p.chain):∀ v∈DS p.chain,0<v.tag.time→A3 v=true:=fun v hv ht=>by obtain ⟨z,hz,hi⟩:=h.tail;rw[HP hz hi] at hv;exact h.ver (.of hz (.inl hv)) ht
theorem OU (h:An p=true) (hl:p.log.length≤56):An (Bj p)=true:=by have hc:=FM h;obtain ⟨h1,h2,h3,h4,h5,h6,h7,h8⟩:=AK h;exact Yk (p:=Bj p) h1 h2 h3 h4 h5 (RR (Ys hc) h6 (by have:=hc.four.2;omega)) h7 h8
theorem L6 {l':List Node}{f:Bool} (h:An p=true) (hc:Ch l') (hv:∀ v,inCh l' v→0<v.tag.time→inCh p.chain v∨BH v.past (AN p.chain)=true)
  (hs:BH (AN p.chain) (AN l')=true) (ht:0≤t∧t≤999) (hh:DV l' t=true):An ⟨p.me,t,l',p.log,p.got,f⟩=true:=by
 have hc0:=FM h;obtain ⟨h1,h2,h3,h4,h5,h6,h7,h8⟩:=AK h;refine Yk (p:=⟨p.me,t,l',p.log,p.got,f⟩) h1 ht h3 (chain_iff.2 hc) ((Lv hc).2 fun v hvc hvt=>?_) h6 h7 hh;have hpl:=Bn (AB (hc.ver hvc hvt)).2.2.2.1;refine TF (by rw[hpl,hc0.four.1];exact zbf _) ?_ hs;rcases hv v hvc hvt with g | g
 ·exact (Lv hc0).1 h5 v g hvt
 ·exact g
theorem Zt (h:An p=true):An (Mf p)=true:=by
 have hc:=FM h;have hp:=hc.pos;unfold Mf Ks;cases hj:FV p.chain with
 | false=>rw[cond_false];exact h
 | true =>
  have hl:p.chain.length<4:=by unfold FV at hj;have:=of_decide_eq_true hj;omega
  obtain ⟨_,e1,e2,e3⟩:=Nk hc;have h8:=(AK h).2.2.2.2.2.2.2;rw[cond_true];refine L6 h (hc.join hl) (fun v hv _ => .inl (R3 hp hv)) (by rw[e1];exact HU) (AK h).2.1 ?_;unfold DV at h8 ⊢;rw[e3];exact h8
theorem P5 {l:List Node} (h:Ja l k=true):∃ f:Nat,k=(f:Int)∧f<l.length∧1<l.length:=by simp only[Ja,Am,Dr,decide_eq_true_eq] at h;exact ⟨k.toNat,by omega,by omega,h.2⟩
theorem Zv (h:An p=true) (hl:p.log.length≤56):An (E3 p k)=true:=by
 have hc:=FM h;unfold E3;cases hf:Ef p k with
 | false=>exact h
 | true =>unfold Ef at hf;rw[Dr] at hf;obtain ⟨f,rfl,h1,h2⟩:=P5 hf.2;rw[cond_true,Be];refine OU ?_ hl;exact L6 h (hc.fall h1 h2) (fun v hv _ => .inl (R4 h1 hv)) (Uy hc h1 h2) (AK h).2.1 (XD hc h1 h2 (AK h).2.2.2.2.2.2.2)
theorem Zs (h:An p=true) (hl:p.log.length≤56):An (E2 p k)=true:=by
 have hc:=FM h;unfold E2;cases hf:C5 p.chain k with
 | false=>exact h
 | true =>rw[cond_true];refine OU ?_ hl;exact L6 h (hc.pass hf) (fun v hv _ => .inl (R0 hf hv)) (T6 hc hf) (AK h).2.1 (Xf hc hf (AK h).2.2.2.2.2.2.2)
theorem Yl {v:Ver} (h:An p=true) (hv:A3 v=true) (hr:Dg p.chain 0=true) (hu:BH v.past (AN p.chain)=true) (h1:p.clock≤t) (h2:v.tag.time≤t) (h3:t≤999):An (DM p 0 t v)=true:=by have hc:=FM h;have hcl:=(AK h).2.1;exact L6 h (hc.add hv hr) (fun w hw _=>(Mi hw).imp id fun e=>by rw[e];exact hu) (V8 hc hv) ⟨by omega,h3⟩ (Zc hc hv (AK h).2.2.2.2.2.2.2 h1 h2)
theorem Ua:t≤Ew t c∧c≤Ew t c∧(Ew t c=t∨Ew t c=c):=by unfold Ew;split<;>omega
theorem PM {f:Nat}{v:Ver} (h:An p=true) (hv:IP p f=some v):A3 v=true∧v.tag.place=(f:Int)∧(f:Int)≠p.me∧f<3:=by
 unfold IP at hv;have hm:=List.mem_of_find?_eq_some hv;unfold JP at hm;have h3:=(AK h).2.2.1;cases hg:p.got[f]? with
 | none=>rw[hg] at hm;simp at hm
 | some l =>rw[hg] at hm;simp only at hm;obtain ⟨hf,rfl⟩:=EY hg;have g:=(AK h).2.2.2.2.2.2.1 f hf;unfold IC at g;rw[Dr] at g;obtain ⟨i,hi,rfl⟩:=zbM.1 hm;obtain ⟨q1,q2,_⟩:=(HN g.1).2 i hi;refine ⟨q1,q2,fun e=>?_,by omega⟩;have:=g.2;rw[e,FE,zbX,zce,decide_eq_true_eq] at this;omega
theorem Wj (h:An p=true) (hl:p.log.length≤56):An (A7 p k)=true:=by
 unfold A7;cases hk:Ba p k with
 | false=>exact h
 | true =>
  rw[cond_true];unfold Ba at hk;rw[Dr] at hk;have hk:=hk.2;unfold HC at hk;unfold JL;cases hv:IP p k.toNat with
  | none=>exact h
  | some v =>rw[hv] at hk;simp only[Dr] at hk;obtain ⟨v1,v2,v3,v4⟩:=PM h hv;have:=Dx (AB v1).2.2.2.2.1;have hcl:=(AK h).2.1;have hn:=Ua (t:=v.tag.time) (c:=p.clock);exact OU (Yl h v1 hk.1 hk.2 hn.2.1 hn.1 (by omega)) hl
theorem Kz {g:Bool}{l:List Tag} (h:An p=true) (hc:Az p k s g l=true):A3 (Bp p k s g l)=true:=by
 rw[Kj,Dr] at hc;have hm:=hc.2;obtain ⟨h1,h2,h3,h4,h5,h6,h7,h8⟩:=D8 (by rw[Kj,hc.1,hc.2];rfl:Az p k s g l=true);have ht:=Kt h h4;have hme:=(AK h).1;unfold A3;rw[Dr,Dr];refine ⟨⟨hc.1,?_⟩,?_⟩
 ·show A2 (Aw p l) p.me=true;simp[A2,Am];omega
 ·show decide (Ds l<Aw p l)=true;exact decide_eq_true (by omega)
theorem IZ {g:Bool}{l:List Tag} (h:An p=true):An (AY p k s g l).1=true:=by
 rw[LS h];cases hc:Az p k s g l with
 | false=>exact h
 | true =>obtain ⟨h1,h2,h3,h4,h5,h6,h7,h8⟩:=D8 hc;have ht:=Kt h h4;exact OU (Yl h (Kz h hc) h6 h5 (by omega) (zcN _) h7) (by show p.log.length≤56;omega)
theorem Zu {f a:Int}{v:Ver} (h:An p=true):An (G9 p f a v)=true:=by
 unfold G9;cases hc:Hc p f a v with
 | false=>exact h
 | true =>
  simp only[Hc,I4,Am,Dr,decide_eq_true_eq,beq_iff_eq,zbT] at hc;obtain ⟨⟨h1,h2⟩,h3,h4,h5,h6,h7,h8⟩:=hc;obtain ⟨q1,q2,q3,q4,q5,q6,q7,q8⟩:=AK h;have hf:f.toNat<p.got.length:=by omega
  have e:((f.toNat:Nat):Int)=f:=by omega
  rw[cond_true];refine Yk (p:=JO p f.toNat v) q1 q2 (by simpa [JO] using q3) q4 q5 q6 (fun i hi=>?_) q8;have hi':i<p.got.length:=by simpa [JO] using hi
  show IC p.me i ((p.got.set f.toNat (JP p f.toNat ++ [v]))[i]'(by simpa using hi'))=true;rw[List.getElem_set];split
  ·rename_i ei
   subst ei;rw[I5 hf] at h7 h8 ⊢;unfold IC;rw[Uh (SK h hf) h3 (by omega) h8 (by omega),zbA];rw[beq_eq_false_iff_ne] at h5;rw[beq_eq_false_iff_ne.2 h5];rfl
  ·exact q7 i hi'
end


structure Sess where
 place:Int
 past:List Tag
 wait:Tag
 key:Int
structure Done where
 sess:Int
 kind:Int
 key:Int
 tag:Tag
structure World where
 places:List Place
 sess:List Sess
 net:List Frame
 hist:List Done
abbrev zaw (ro:Bool):Nat:=bif ro then 214 else 49
abbrev zaS (ro:Bool):Nat:=bif ro then 221 else 105
abbrev YQ (ro:Bool):Nat:=bif ro then 226 else 172
abbrev zaU (ro:Bool):Nat:=bif ro then 235 else 174
abbrev Sess.cs (s:Sess) (a:Pq) (c:Nq):List V := [Iv s.place,.sl 2 a s.past.length c,Iv s.wait.time,Iv s.wait.place,Iv s.key]
abbrev Done.cs (d:Done):List V := [Iv d.sess,Iv d.kind,Iv d.key,Iv d.tag.time,Iv d.tag.place]
abbrev World.cs (w:World) (a1:Pq) (c1:Nq) (a2:Pq) (c2:Nq) (a3:Pq) (c3:Nq) (a4:Pq) (c4:Nq):List V :=
 [.sl 6 a1 w.places.length c1,.sl 5 a2 w.sess.length c2,.sl 9 a3 w.net.length c3,.sl 5 a4 w.hist.length c4]
abbrev RPlaces (ro:Bool):Rel (List Place):=Sli ro 6 (zaw ro) (RPlace ro)
def RSess (ro:Bool):Rel Sess:=fun h cs s F=>∃ v,cs = [Iv s.place,v,Iv s.wait.time,Iv s.wait.place,Iv s.key]∧RTags ro h [v] s.past F
abbrev RSesss (ro:Bool):Rel (List Sess):=Sli ro 5 (zaS ro) (RSess ro)
abbrev RFrames (ro:Bool):Rel (List Frame):=Sli ro 9 (YQ ro) (V9 ro)
abbrev RDones (ro:Bool):Rel (List Done):=Sli ro 5 (zaU ro) (flat Done.cs)
def Tb (ro:Bool):Rel World:=fun h cs w F=>∃ s1 s2 s3 s4 F1 F2 F3 F4,cs = [s1,s2,s3,s4]∧F=F1++(F2++(F3++F4))∧RPlaces ro h [s1] w.places F1∧RSesss ro h [s2] w.sess F2∧RFrames ro h [s3] w.net F3∧RDones ro h [s4] w.hist F4
theorem rplaces_ok {ro:Bool}:(RPlaces ro).Ok:=Sli.ok rplace_ok
theorem IW {ro:Bool}:(RSess ro).Ok :=
 ⟨fun h h' cs x F ⟨s,h1,h2⟩ hb=>⟨s,h1,rtags_ok.fr _ _ _ _ _ h2 hb⟩,fun h cs x F ⟨s,_,h2⟩=>rtags_ok.bd _ _ _ _ h2⟩
theorem rsesss_ok {ro:Bool}:(RSesss ro).Ok:=Sli.ok IW
theorem rframes_ok {ro:Bool}:(RFrames ro).Ok:=Sli.ok rframe_ok
theorem rdones_ok {ro:Bool}:(RDones ro).Ok:=Sli.ok Cu
section
variable {ro:Bool}{h:Heap}{F:List Nat}{a:Pq}{c:Nq}{n k:Nat}
theorem RPlaces.get {l:List Place} (hs:RPlaces ro h [.sl 6 a n c] l F) (hk:k<l.length):∃ o s1 s2 s3 a1 c1 a2 c2 a3 c3 F1 F2 F3,a=some o ∧
  ld h o.1 (o.2+k) 0 6=some [Iv l[k].me,Iv l[k].clock,s1,s2,s3,.bool l[k].fell]∧ld h o.1 (o.2+k) 0 1=some [Iv l[k].me]∧ld h o.1 (o.2+k) 2 1=some [s1]∧ld h o.1 (o.2+k) 3 1=some [s2]∧ld h o.1 (o.2+k) 4 1=some [s3] ∧
  (∀ {R':Type} (K:Pq→Nat→Nq→Option R'),eS 2 s1 K=K a1 l[k].chain.length c1)∧(∀ {R':Type} (K:Pq→Nat→Nq→Option R'),eS 6 s2 K=K a2 l[k].log.length c2) ∧
  (∀ {R':Type} (K:Pq→Nat→Nq→Option R'),eS 1 s3 K=K a3 l[k].got.length c3) ∧
  RNodes ro h [.sl 2 a1 l[k].chain.length c1] l[k].chain F1∧RVers ro h [.sl 6 a2 l[k].log.length c2] l[k].log F2∧RVss ro h [.sl 1 a3 l[k].got.length c3] l[k].got F3∧(∀ b,b∈F1∨b∈F2∨b∈F3→b∈F):=by
 obtain ⟨o,row,G,h1,h2,hv,hG,_⟩:=hs.read hk;obtain ⟨s1,s2,s3,a1,c1,a2,c2,a3,c3,F1,F2,F3,rfl,rfl,e1,e2,e3,g1,g2,g3⟩:=hv.form;exact ⟨o,s1,s2,s3,a1,c1,a2,c2,a3,c3,F1,F2,F3,h1,by rw[h2];rfl,by rw[h2];rfl,by rw[h2];rfl,by rw[h2];rfl,by rw[h2];rfl,e1,e2,e3,g1,g2,g3,fun b hb=>hG b (by simpa using hb)⟩
theorem RSess.form {row:List V}{s:Sess} (hv:RSess ro h row s F):∃ v a c,row = [Iv s.place,v,Iv s.wait.time,Iv s.wait.place,Iv s.key] ∧
  (∀ {R':Type} (K:Pq→Nat→Nq→Option R'),eS 2 v K=K a s.past.length c)∧RTags ro h [.sl 2 a s.past.length c] s.past F:=by
 obtain ⟨v,rfl,hp⟩:=hv;obtain ⟨a,c,es,hp2⟩:=hp.form;exact ⟨v,a,c,rfl,es,hp2⟩
theorem RSesss.get {l:List Sess} (hs:RSesss ro h [.sl 5 a n c] l F) (hk:k<l.length):∃ o v a' c' G,a=some o∧ld h o.1 (o.2+k) 0 5=some [Iv l[k].place,v,Iv l[k].wait.time,Iv l[k].wait.place,Iv l[k].key] ∧
  ld h o.1 (o.2+k) 0 1=some [Iv l[k].place]∧ld h o.1 (o.2+k) 1 1=some [v] ∧
  (∀ {R':Type} (K:Pq→Nat→Nq→Option R'),eS 2 v K=K a' l[k].past.length c')∧RTags ro h [.sl 2 a' l[k].past.length c'] l[k].past G∧(∀ b∈G,b∈F):=by
 obtain ⟨o,row,G,h1,h2,hv,hG,_⟩:=hs.read hk;obtain ⟨v,a',c',rfl,es,hp⟩:=hv.form;exact ⟨o,v,a',c',G,h1,by rw[h2];rfl,by rw[h2];rfl,by rw[h2];rfl,es,hp,hG⟩
theorem RFrames.get {l:List Frame} (hs:RFrames ro h [.sl 9 a n c] l F) (hk:k<l.length):∃ o s a' c' G,a=some o ∧
  ld h o.1 (o.2+k) 0 9=some [Iv l[k].fro,Iv l[k].to,Iv l[k].at',Iv l[k].ver.key,Iv l[k].ver.tag.time,Iv l[k].ver.tag.place,s,.str l[k].ver.text,.bool l[k].ver.gone] ∧
  (∀ {R':Type} (K:Pq→Nat→Nq→Option R'),eS 2 s K=K a' l[k].ver.past.length c')∧RTags ro h [.sl 2 a' l[k].ver.past.length c'] l[k].ver.past G∧(∀ b∈G,b∈F):=by
 obtain ⟨o,row,G,h1,h2,⟨vs,rfl,hv⟩,hG,_⟩:=hs.read hk;obtain ⟨s,a',c',rfl,es,hp⟩:=hv.form;exact ⟨o,s,a',c',G,h1,by rw[h2];rfl,es,hp,hG⟩
theorem RDones.get {l:List Done} (hs:RDones ro h [.sl 5 a n c] l F) (hk:k<l.length):∃ o,a=some o∧ld h o.1 (o.2+k) 0 5=some l[k].cs:=by obtain ⟨o,row,G,h1,h2,⟨rfl,_⟩,_⟩:=hs.read hk;exact ⟨o,h1,by rw[h2];rfl⟩
end
def We (w:World):Prop:=(w.places.length≤1048576∧∀ p∈w.places,BT p)∧(w.sess.length≤1048576∧∀ s∈w.sess,s.past.length≤1048576)∧(w.net.length≤1048576∧∀ f∈w.net,f.ver.past.length≤1048576∧f.ver.text.size≤1048576)∧w.hist.length≤1048576
section
variable {lo:Nat}{ro ro':Bool}{h:Heap}{F F':List Nat}{a a':Pq}{c c':Nq}{left:Int}
end


def XZ (p:Place) (to at':Int):Bool:=An p&&Am to 0 2 && !(p.me==to)&&Am at' 0 (p.log.length - 1)
def told (p:Place) (to at':Int):Frame:=bif XZ p to at' then ⟨p.me,to,at',(p.log[at'.toNat]?).getD TB⟩ else ⟨0,0,0,TB⟩
section
variable {lo:Nat}{h:Heap}{F F':List Nat}{a a':Pq}{c c':Nq}
end


def FJ (s:Sess):Bool:=Am s.place 0 2&&A6 s.past&&A2 s.wait.time s.wait.place&&Am s.key 0 3&&(decide (s.wait.time>0) || s.key==0)&&(s.wait.time==0 || s.wait.place==s.place)
def Qe (d:Done):Bool:=Am d.sess 0 3&&Am d.kind 1 3&&Am d.key 0 3&&A2 d.tag.time d.tag.place&&(d.kind==2 || decide (d.tag.time>0))
def Hj (l:List Place) (k:Nat):List Ver:=match l[k]? with
 | some p=>p.log
 | none => []
theorem RS {l:List Place}{k:Nat} (hk:k<l.length):Hj l k=l[k].log:=by unfold Hj;rw[Dc hk]
section
variable {lo:Nat}{ro ro':Bool}{h:Heap}{F F':List Nat}{a a':Pq}{c c':Nq}
end


abbrev zaQ (n:Int):List V := [Iv n]
abbrev RInts:Rel (List Int):=Sli false 1 3 (flat zaQ)
section
variable {lo:Nat}{h:Heap}{F F' F1:List Nat}{a a' a1 a2 a3 a4:Pq}{c c' c1 c2 c3 c4:Nq}{k:Int}
theorem RInts.get {l:List Int}{n i:Nat} (hs:RInts h [.sl 1 a n c] l F) (hi:i<l.length):∃ o,a=some o∧ld h o.1 (o.2+i) 0 1=some [Iv l[i]]:=by obtain ⟨o,row,G,h1,h2,⟨rfl,_⟩,_⟩:=hs.read hi;exact ⟨o,h1,by rw[h2];rfl⟩
end


def Et (l:List Node) (k:Nat):Nat:=if k=0∧1<l.length then 1 else k
def J3 (l:List Node) (k key:Nat):Option Ver:=(FH l (Et l k))[key]?
section
variable {lo:Nat}{ro:Bool}{h:Heap}{F F' F1:List Nat}{a a' a1 a2 a3 a4:Pq}{c c' c1 c2 c3 c4:Nq}
theorem KY {l:List Node}{k key:Nat} (hs:RNodes false h [.sl 2 a l.length c] l F) (hk:k<l.length) (hst:∀ x∈l,AO x.store=true) (hkey:key<4) (hl:lo≤h.length) (hn1:l.length≤1048576) :
  ∃ v a' c' h' G,Ad lo 72 [.agg [.sl 2 a l.length c],Iv (k:Nat),Iv (key:Nat)] h=some (.agg (Ver.cs v a' c'),h')∧J3 l k key=some v∧RTags false h' [.sl 2 a' v.past.length c'] v.past G∧Mv h [] h' G:=by
 suffices hq:∃ v a' c' h' G,_=some (V.agg (Ver.cs v a' c'),h')∧J3 l k key=some v∧RTags false h' [.sl 2 a' v.past.length c'] v.past G∧Mv h [] h' G from by obtain ⟨v,a',c',h',G,e,hr⟩:=hq;exact ⟨v,a',c',h',G,Qq e,hr⟩
 have hql:Et l k<l.length:=by unfold Et;split<;>omega
 obtain ⟨o,s1,s2,b1,d1,b2,d2,H1,H2,ha,_,ho1,_,q1,_,p1,_⟩:=hs.get hql;have hs4:=hst _ (zbb hql);have hkl:key<l[Et l k].store.length:=by rw[AX hs4];exact hkey
 obtain ⟨o2,t,b3,d3,G,ha2,ho2,es2,pv,_⟩:=p1.get hkl;obtain ⟨a5,c5,h5,F5,e5,r5,m5⟩:=Cy (lo:=lo) (v:=l[Et l k].store[key]) pv hl ((Jj hs4).2 _ (zbb hkl)).1;have hsh:J3 l k key=some l[Et l k].store[key]:=by unfold J3;rw[EE hql,Dc hkl]
 generalize l[Et l k].store[key]=v at ho2 es2 pv e5 r5 hsh;generalize l[Et l k].store.length=n1 at q1 hkl ha2;refine ⟨v,a5,c5,h5,F5,?_,hsh,r5,m5⟩;simp only[Ver.cs] at e5;by_cases hk0:k=0
 ·rw[show (((k:Nat):Int)==0)=true by rw[beq_iff_eq];omega,Al];by_cases h1:1<l.length
  ·have hsa:Et l k=1:=by unfold Et;rw[if_pos ⟨hk0,h1⟩]
   rw[hsa] at ho1;rw[Ak (by omega),BI ⟨by omega,by omega⟩,ha,Ag,ho1,Ag,Aa,Af,q1,Ae hkl,ha2,Ag,Be,ho2,Ag,Aa,Ab,Aa,Ab,Aa,Ab,Aa,es2,Aa,Bh,Aa,At,Af,e5,Ac,Ap,Aa,Ab,Aa,Ab,Aa,Ab,Aa,Ah,Aa,Bh,Aa,At,Af]
  ·have hsa:Et l k=k:=by unfold Et;rw[if_neg (by omega)]
   rw[hsa] at ho1;rw[Aj (by omega),Ae hk,ha,Ag,Be,ho1,Ag,Aa,Af,q1,Ae hkl,ha2,Ag,Be,ho2,Ag,Aa,Ab,Aa,Ab,Aa,Ab,Aa,es2,Aa,Bh,Aa,At,Af,e5,Ac,Ap,Aa,Ab,Aa,Ab,Aa,Ab,Aa,Ah,Aa,Bh,Aa,At,Af]
 ·have hsa:Et l k=k:=by unfold Et;rw[if_neg (by omega)]
  rw[hsa] at ho1;rw[show (((k:Nat):Int)==0)=false by rw[beq_eq_false_iff_ne];omega,Au,Ae hk,ha,Ag,Be,ho1,Ag,Aa,Af,q1,Ae hkl,ha2,Ag,Be,ho2,Ag,Aa,Ab,Aa,Ab,Aa,Ab,Aa,es2,Aa,Bh,Aa,At,Af,e5,Ac,Ap,Aa,Ab,Aa,Ab,Aa,Ab,Aa,Ah,Aa,Bh,Aa,At,Af]
end


variable {k:Int}
structure Roomy (p:Place):Prop where
 seen:∃ U:List Tag,U.length≤54∧(∀ v∈p.log,v.tag∈U)∧∀ v,inCh p.chain v→0<v.tag.time→v.tag.place=p.me→v.tag∈U
 told:∀ v∈DS p.chain,0<v.tag.time→v.tag.place=p.me→B4 p.log v.tag=true
theorem RP {α:Type} [DecidableEq α]:∀ {a U:List α},a.Nodup→(∀ x∈a,x∈U)→a.length≤U.length
 | [],U,_,_=>zbE _
 | x :: a,U,hn,hs=>by
  rw[zbj] at hn;have h1:=hs x (by simp);have h2:=RP (a:=a) (U:=U.erase x) hn.2 fun y hy=>(List.mem_erase_of_ne (fun e=>hn.1 (by rw[← e];exact hy))).2 (hs y (by simp[hy]))
  rw[List.length_erase_of_mem h1] at h2;have:=List.length_pos_of_mem h1;simp only[zbZ];omega
section
variable {p:Place}
theorem Xn {m:Int}{l:List Ver} (h:D1 m l=true):(l.map fun v=>v.tag).Nodup:=by
 obtain ⟨_,h2⟩:=HN h;unfold List.Nodup;rw[List.pairwise_map,List.pairwise_iff_getElem];intro i j hi hj hij e;have h3:=(h2 j hj).2.2;have:B4 (l.take j) l[j].tag=true:=hasTag_mem.2 ⟨l[i],by
  rw[zbM];exact ⟨i,by simp;omega,by simp⟩,e⟩
 rw[h3] at this;cases this
theorem Roomy.len (h:Roomy p) (hp:An p=true):p.log.length≤54:=by
 obtain ⟨U,h1,h2,_⟩:=h.seen;have:=RP (U:=U) (Xn (AK hp).2.2.2.2.2.1) (fun t ht=>by
  obtain ⟨v,hv,rfl⟩:=zcQ.1 ht;exact h2 v hv)
 simp only[zcx] at this;omega
theorem T9 {m:Int}:∀ {vs l:List Ver},∀ v∈vs.foldl (noted m) l,v∈l∨(v∈vs∧0<v.tag.time∧v.tag.place=m)
 | [],l,v,hv => .inl hv
 | x :: vs,l,v,hv=>by
  rw[zbU] at hv;rcases T9 v hv with g | ⟨g1,g2⟩
  ·unfold noted at g;cases hc:(decide (x.tag.time>0)&&(x.tag.place==m && !B4 l x.tag)) with
   | false=>rw[hc] at g;exact .inl g
   | true =>
    rw[hc,cond_true] at g;simp only[Dr,decide_eq_true_eq,beq_iff_eq] at hc;rcases zbc.1 g with g | g
    ·exact .inl g
    ·rw[zbi] at g;subst g;exact .inr ⟨by simp,hc.1,hc.2.1⟩
  ·exact .inr ⟨by simp[g1],g2⟩
theorem Jo (h:Ch p.chain) (hs:∃ U:List Tag,U.length≤54∧(∀ v∈p.log,v.tag∈U)∧∀ v,inCh p.chain v→0<v.tag.time→v.tag.place=p.me→v.tag∈U):Roomy (Bj p):=by
 obtain ⟨U,h1,h2,h3⟩:=hs;refine ⟨⟨U,h1,fun v hv=>?_,h3⟩,fun v hv ht hp=>?_⟩
 ·rcases T9 v hv with g | ⟨g1,g2,g3⟩
  ·exact h2 v g
  ·obtain ⟨z,hz,hi⟩:=h.tail;rw[HP hz hi] at g1;exact h3 v (.of hz (.inl g1)) g2 g3
 ·exact (Nb (vs:=DS p.chain) (l:=p.log)).1 v hv ht hp
theorem Vj (h:Roomy p) (hp:An p=true):Roomy (Mf p):=by
 have hc:=FM hp;unfold Mf Ks;cases FV p.chain with
 | false=>exact h
 | true =>rw[cond_true];obtain ⟨U,h1,h2,h3⟩:=h.seen;exact ⟨⟨U,h1,h2,fun v hv=>h3 v (R3 hc.pos hv)⟩,fun v hv=>h.told v (by rw[← (Nk hc).2.2.1];exact hv)⟩
theorem Vl (h:Roomy p) (hp:An p=true):Roomy (E3 p k):=by
 have hc:=FM hp;unfold E3;cases hf:Ef p k with
 | false=>exact h
 | true =>unfold Ef at hf;rw[Dr] at hf;obtain ⟨f,rfl,g1,g2⟩:=P5 hf.2;obtain ⟨U,h1,h2,h3⟩:=h.seen;rw[cond_true,Be];exact Jo (p:=Sd p f) (hc.fall g1 g2) ⟨U,h1,h2,fun v hv=>h3 v (R4 g1 hv)⟩
theorem Vi (h:Roomy p) (hp:An p=true):Roomy (E2 p k):=by
 have hc:=FM hp;unfold E2;cases hf:C5 p.chain k with
 | false=>exact h
 | true =>obtain ⟨U,h1,h2,h3⟩:=h.seen;rw[cond_true];exact Jo (p:=Ob p k.toNat) (hc.pass hf) ⟨U,h1,h2,fun v hv=>h3 v (R0 hf hv)⟩
theorem Vg (h:Roomy p) (hp:An p=true):Roomy (A7 p k):=by
 have hc:=FM hp;unfold A7;cases hk:Ba p k with
 | false=>exact h
 | true =>
  rw[cond_true];unfold Ba at hk;rw[Dr] at hk;have hk:=hk.2;unfold HC at hk;unfold JL;cases hv:IP p k.toNat with
  | none=>exact h
  | some v =>
   rw[hv] at hk;simp only[Dr] at hk;obtain ⟨v1,v2,v3,v4⟩:=PM hp hv;obtain ⟨U,h1,h2,h3⟩:=h.seen;refine Jo (p:=DM p 0 (Ew v.tag.time p.clock) v) (hc.add v1 hk.1) ⟨U,h1,h2,fun w hw ht hm=>?_⟩;rcases Mi hw with g | rfl
   ·exact h3 w g ht hm
   ·exact absurd (v2.symm.trans hm) v3
theorem Vk {f a:Int}{v:Ver} (h:Roomy p):Roomy (G9 p f a v):=by
 unfold G9;cases Hc p f a v with
 | false=>exact h
 | true=>exact ⟨h.seen,h.told⟩
theorem LT {l:List Node}{v:Ver} (h:Ch l):∀ (d i:Nat) (x:Node),i+d+1=l.length→l[i]?=some x→v∈x.store→(∃ (j:Nat) (y:Node),l[j]?=some y∧j+1<l.length∧v∈y.wait)∨v∈DS l
 | 0,i,x,hd,hx,hv=>by rw[HP hx (by omega)];exact .inr hv
 | d+1,i,x,hd,hx,hv=>by
  have hy:=Dc (l:=l) (i:=i+1) (by omega);rcases Sb (h.link i x _ hx hy) v hv with g | g
  ·exact .inl ⟨i,x,hx,by omega,g⟩
  ·exact LT h d (i+1) _ (by omega) hy g
theorem Rz:∀ {l:List Node},(∀ x∈l,x.wait.length≤6)→(l.flatMap fun x=>x.wait).length≤6*l.length
 | [],_=>by simp
 | x :: l,h=>by have h1:=h x (by simp);have h2:=Rz (l:=l) fun y hy=>h y (by simp[hy]);simp only[zcq,zbo,zbZ];omega
theorem TZ {s:ByteArray}{g:Bool}{l:List Tag} (h:Roomy p) (hp:An p=true):Roomy (AY p k s g l).1:=by
 have hc:=FM hp;rw[LS hp];cases hw:Az p k s g l with
 | false=>exact h
 | true =>
  obtain ⟨h1,h2,h3,h4,h5,h6,h7,h8⟩:=D8 hw;have hv:=Kz hp hw;refine Jo (p:=DM p 0 (Aw p l) (Bp p k s g l)) (hc.add hv h6) ⟨(p.log++(p.chain.dropLast.flatMap fun x=>x.wait)).map (fun v=>v.tag) ++ [⟨Aw p l,p.me⟩],?_,fun v hv=>?_,fun v hv ht hm=>?_⟩
  ·have hd:∀ x∈p.chain.dropLast,x.wait.length≤6:=fun x hx=>by obtain ⟨i,hi⟩:=zbt.1 ((List.dropLast_sublist _).mem hx);exact (AD (hc.node i x hi)).2.1
   have:=Rz hd;have h4:=hc.le;simp only[zbo,zcx,List.length_dropLast,zbv] at this ⊢;omega
  ·refine zbD _ (zcQ.2 ⟨v,zbD _ hv,rfl⟩)
  ·have old:inCh p.chain v→v.tag∈(p.log++(p.chain.dropLast.flatMap fun x=>x.wait)).map (fun v=>v.tag):=fun hi=>by
    have fin:(∃ (j:Nat) (y:Node),p.chain[j]?=some y∧j+1<p.chain.length∧v∈y.wait)∨v∈DS p.chain:=by
     obtain ⟨i,x,hx,q | q⟩:=hi.get
     ·have hlt:=(EY hx).1;exact LT hc (p.chain.length - 1 - i) i x (by omega) hx q
     ·have hlt:=(EY hx).1;by_cases he:i+1=p.chain.length
      ·rw[hc.last i x hx he] at q;simp at q
      ·exact .inl ⟨i,x,hx,by omega,q⟩
    rcases fin with ⟨j,y,hj,hjl,q⟩ | q
    ·refine zcQ.2 ⟨v,zbF _ (List.mem_flatMap.2 ⟨y,?_,q⟩),rfl⟩;rw[zbt];exact ⟨j,by rw[List.getElem?_dropLast,if_pos (by omega)];exact hj⟩
    ·obtain ⟨u,hu,e⟩:=hasTag_mem.1 (h.told v q ht hm);exact zcQ.2 ⟨u,zbD _ hu,e⟩
   rcases Mi hv with q | rfl
   ·exact zbD _ (old q)
   ·exact zbF _ (by simp[Bp])
end
def KL (l:List Place) (f:Frame):Prop:=(0≤f.fro∧f.fro≤2)∧(0≤f.to∧f.to≤2)∧f.fro≠f.to∧0≤f.at'∧(Hj l f.fro.toNat)[f.at'.toNat]?=some f.ver
structure Wd (w:World):Prop where
 p3:w.places.length=3
 s4:w.sess.length≤4
 n12:w.net.length≤12
 h80:w.hist.length≤80
 place:∀ (i:Nat) (p:Place),w.places[i]?=some p→p.me=(i:Int)∧An p=true
 sess:∀ s∈w.sess,FJ s=true
 net:∀ f∈w.net,KL w.places f
 hist:∀ d∈w.hist,Qe d=true
 heard:∀ (i:Nat) (p:Place) (k:Nat) (g:List Ver),w.places[i]?=some p→p.got[k]?=some g→∃ r,Hj w.places k=g++r
theorem Wp {l:List Place}{k:Nat}{p q:Place} (hp:l[k]?=some p) (hlog:∃ r,q.log=p.log++r) (j:Nat):∃ r,Hj (l.set k q) j=Hj l j++r:=by
 unfold Hj;by_cases hj:k=j
 ·subst hj;rw[zbr (EY hp).1,hp];exact hlog
 ·rw[zbh hj];exact ⟨[],by simp⟩
section
variable {w:World}
theorem Wd.setP (h:Wd w) {k:Nat}{p q:Place} (hp:w.places[k]?=some p) (hq:An q=true) (hm:q.me=p.me) (hlog:∃ r,q.log=p.log++r)
  (hgot:∀ (i:Nat) (g:List Ver),q.got[i]?=some g→p.got[i]?=some g∨∃ r,Hj w.places i=g++r):Wd ⟨w.places.set k q,w.sess,w.net,w.hist⟩:=by
 have hk:=(EY hp).1;refine ⟨by simpa using h.p3,h.s4,h.n12,h.h80,fun i x hx=>?_,h.sess,fun f hf=>?_,h.hist,fun i x j g hx hg=>?_⟩
 ·by_cases hi:k=i
  ·subst hi;simp only[zbr hk,Option.some.injEq] at hx;subst hx;exact ⟨hm.trans (h.place k p hp).1,hq⟩
  ·simp only[zbh hi] at hx;exact h.place i x hx
 ·obtain ⟨h1,h2,h3,h4,h5⟩:=h.net f hf;obtain ⟨r,hr⟩:=Wp hp hlog f.fro.toNat;refine ⟨h1,h2,h3,h4,?_⟩;show (Hj (w.places.set k q) f.fro.toNat)[f.at'.toNat]?=some f.ver;rw[hr,zbe (EY h5).1];exact h5
 ·obtain ⟨r,hr⟩:=Wp hp hlog j;show ∃ r,Hj (w.places.set k q) j=g++r;have old:(∃ r,Hj w.places j=g++r)→∃ r,Hj (w.places.set k q) j=g++r:=fun ⟨r',hr'⟩=>⟨r'++r,by rw[hr,hr',zbs]⟩
  by_cases hi:k=i
  ·subst hi;simp only[zbr hk,Option.some.injEq] at hx;subst hx;rcases hgot j g hg with g1 | g1
   ·exact old (h.heard k p j g hp g1)
   ·exact old g1
  ·simp only[zbh hi] at hx;exact old (h.heard i x j g hx hg)
theorem Wd.putS (h:Wd w) {i:Nat}{s:Sess} (hs:FJ s=true):Wd ⟨w.places,w.sess.set i s,w.net,w.hist⟩ :=
 ⟨h.p3,by simpa using h.s4,h.n12,h.h80,h.place,fun x hx=>(zby hx).elim (h.sess x) fun e=>e ▸ hs,h.net,h.hist,h.heard⟩
theorem Wd.addH (h:Wd w) {ds:List Done} (hd:∀ d∈ds,Qe d=true) (hl:w.hist.length+ds.length≤80):Wd ⟨w.places,w.sess,w.net,w.hist++ds⟩ :=
 ⟨h.p3,h.s4,h.n12,by simpa using hl,h.place,h.sess,h.net,fun x hx=>(zbc.1 hx).elim (h.hist x) (hd x),h.heard⟩
theorem Wd.netN (h:Wd w) {l:List Frame} (hl:l.length≤12) (hf:∀ f∈l,KL w.places f):Wd ⟨w.places,w.sess,l,w.hist⟩ :=
 ⟨h.p3,h.s4,hl,h.h80,h.place,h.sess,hf,h.hist,h.heard⟩
end
end Go.Proofs.YtoihoaaiadagaaaGreat
