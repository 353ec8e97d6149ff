/- Part 4 of what is shown for the law Gpf, whatever the input; no condition of its own. -/
import Derived.Test.YtoihoaaiadagaaaGreatBGpf3
set_option linter.unusedVariables false
set_option linter.unusedSimpArgs false
set_option linter.unnecessarySimpa false
set_option maxRecDepth 100000
namespace Go.Proofs.YtoihoaaiadagaaaGreat
open Go T


variable {l:List Node}{v:Ver}{T:Type}{K:V→Heap→Option T}
theorem zbg {α:Type}{p:Nat→α→Bool}{l:List α}{h0:Heap} (L:Nat→Heap→Ov) (res:Bool)
  (step:∀ i (hi:i<l.length) hh,Mv h0 [] hh []→∃ h2,Mv hh [] h2 []∧L i hh=if p i l[i]=true then L (i+1) h2 else some (.bool false,h2))
  (done:∀ hh,Mv h0 [] hh []→∃ h2,L l.length hh=some (.bool res,h2)):∃ h',L 0 h0=some (.bool ((l.zipIdx.all fun x=>p x.2 x.1)&&res),h'):=by
 have loop:∀ m i hh,m+i=l.length→Mv h0 [] hh []→∃ h',L i hh=some (.bool (((l.zipIdx.drop i).all fun x=>p x.2 x.1)&&res),h'):=by
  intro m;induction m with
  | zero =>
   intro i hh hi hm;have:i=l.length:=by omega
   subst this;obtain ⟨h2,e⟩:=done hh hm;exact ⟨h2,by rw[e,List.drop_of_length_le (by simp)];rfl⟩
  | succ m ih =>
   intro i hh hi hm;have hlt:i<l.length:=by omega
   obtain ⟨h2,m2,e⟩:=step i hlt hh hm;rw[e,zca (show i<l.zipIdx.length by simpa using hlt),List.all_cons];simp only[List.getElem_zipIdx,zcl];cases hp:p i l[i] with
   | false=>exact ⟨h2,by rw[if_neg Bool.false_ne_true];rfl⟩
   | true =>obtain ⟨h',e'⟩:=ih (i+1) h2 (by omega) (hm.trans m2);exact ⟨h',by rw[if_pos rfl,e'];rfl⟩
 exact loop l.length 0 h0 (by omega) Mv.nil
theorem PT {α:Type}{El:Rel α}{R e:Nat}{h:Heap}{a:Pq}{c:Nq}{l:List α}{F:List Nat} (hs:Sli false R e El h [.sl R a l.length c] l F) :
  ∃ rows Fs,(∀ {T:Type} (K:List (List V)→Option T),At R h (.sl R a l.length c) K=K rows)∧EAll El h rows l Fs∧(∀ b∈Fs.flatten,b∈F)∧(F.Nodup→Fs.flatten.Nodup):=by
 obtain ⟨R',a',c',e1,e2⟩:=hs;injection e1 with e1 _;injection e1 with e0 e3 _ e4;subst e0;subst e3;subst e4;cases a with
 | none =>obtain ⟨rfl,_,_⟩:=e2;exact ⟨[],[],fun K=>rfl,trivial,by simp,by simp⟩
 | some q =>
  obtain ⟨b,i⟩:=q;obtain ⟨hR,rs,Fs,g1,g2,g3,g4,g5,rfl⟩:=e2;refine ⟨_,Fs,fun K=>?_,g5,fun b hb=>by simp only[zb0];exact .inr hb,fun hn=>(zbV.1 hn).2⟩;simp only[At,Iz,Do];cases hl:l.length with
  | zero=>simp
  | succ n=>simp only[D1,Heap.rows?,g1,zcr,Dy (show i+(n+1)≤rs.length by omega),Af]
def Hk (v:Ver):Bool:=v.tag.time==0&&v.tag.place==0
def I6 (st:List Tag) (clock:Int) (k:Nat) (v:Ver):Bool:=(Hk v || Ca v.past st)&&(!decide (k=0) || decide (v.tag.time≤clock))
theorem V8 {u:Ver} (h:AT v u=true):v.tag.time≤u.tag.time:=by simp[AT,HF] at h;omega
theorem Qr:∀ {w s t:List Ver},DC s w=some t→s.length=t.length∧(∀ k (h1:k<s.length) (h2:k<t.length),s[k].tag.time≤t[k].tag.time)∧∀ v∈w,∃ h2:v.key.toNat<t.length,v.tag.time≤t[v.key.toNat].tag.time
 | [],s,t,h=>by injection h with h;subst h;exact ⟨rfl,fun k _ _=>zdw _,by simp⟩
 | v :: w,s,t,h=>by
  simp only[DC] at h;by_cases hk:v.key.toNat<s.length
  ·rw[Dd hk] at h;cases hl:AT s[v.key.toNat] v with
   | false=>simp[hl] at h
   | true =>
    simp only[hl,cond_true] at h;obtain ⟨i1,i2,i3⟩:=Qr h;rw[zcd] at i1;have ht:=V8 hl;refine ⟨i1,fun k h1 h2=>?_,fun u hu=>?_⟩
    ·have:=i2 k (by simpa using h1) h2;rw[List.getElem_set] at this;split at this
     ·rename_i he;subst he;omega
     ·exact this
    ·rcases zb0.1 hu with rfl | hu
     ·have:=i2 u.key.toNat (by simpa using hk) (by omega);rw[zc3] at this;exact ⟨by omega,this⟩
     ·exact i3 u hu
  ·rw[zcn (by omega)] at h;cases h
theorem J7 {x:Node} (h:B6 x=true) (hv:v∈x.store):Hk v = !decide (v.tag.time>0):=by
 obtain ⟨i,hi,rfl⟩:=zcu.1 hv;rcases CB (Cb (Ay h).1 hi) with g | g
 ·have:=DS g;unfold Hk;rw[this.1,this.2];rfl
 ·have:=GL g.1;unfold Hk;rw[decide_eq_true this,show (x.store[i].tag.time==0)=false by rw[beq_eq_false_iff_ne];omega];rfl
theorem Vw (h:A3 v=true):Hk v=false:=by have:=GL h;unfold Hk;rw[show (v.tag.time==0)=false by rw[beq_eq_false_iff_ne];omega];rfl
theorem WB {clock:Int} (hc:Cz l=true):(l.zipIdx.all fun x=>(x.1.store++x.1.wait).all (I6 (AS l) clock x.2))=(Ed l&&D3 l clock):=by
 obtain ⟨hl4,hno⟩:=BY hc;rw[zcX,Dm];rw[EJ (p:=fun i (x:Node)=>(x.store++x.wait).all (I6 (AS l) clock i))];unfold Ed D3;rw[Dd (show 0<l.length by omega),TG];simp only[List.all_append,Dm,zb2];constructor
 ·intro hx;refine ⟨fun i hi=>?_,fun v hv=>?_⟩
  ·have hi':=hno _ (zbO hi);unfold Fm;simp only[Dm,zb2];refine ⟨fun v hv=>?_,fun v hv=>?_⟩
   ·have:=(hx i hi).1 v hv;simp only[I6,Dm] at this;rw[← J7 hi' hv];exact this.1
   ·have:=(hx i hi).2 v hv;simp only[I6,Dm,Vw ((Ay hi').2.2 v hv),zcL] at this;exact this.1
  ·have:=(hx 0 (by omega)).1 v hv;simp only[I6,Dm] at this;simpa using this.2
 ·rintro ⟨h1,h2⟩ i hi
  have hi':=hno _ (zbO hi);have h3:=h1 i hi;unfold Fm at h3;simp only[Dm,zb2] at h3;refine ⟨fun v hv=>?_,fun v hv=>?_⟩
  ·unfold I6;rw[J7 hi' hv,h3.1 v hv,zb8];by_cases h0:i=0
   ·subst h0;simpa using h2 v hv
   ·simp[h0]
  ·unfold I6;rw[h3.2 v hv,Bool.or_true,zb8];by_cases h0:i=0
   ·subst h0;have hlk:=ML hc hi;unfold EX at hlk;by_cases h10:0+1<l.length
    ·rw[Dd h10] at hlk;simp only[Tk] at hlk;cases hf:DC l[0+1].store l[0].wait with
     | none=>simp[hf] at hlk
     | some t =>simp only[hf] at hlk;have e:=sameVers_iff.1 hlk;obtain ⟨_,_,g3⟩:=Qr hf;obtain ⟨g4,g5⟩:=g3 v hv;have:=h2 (l[0].store[v.key.toNat]'(by rw[← e];exact g4)) (zbO _);simp only[decide_eq_true_eq] at this;simp only[← e] at this;simp only[decide_true,zcE,zcL,decide_eq_true_eq];omega
    ·rw[zcn (by omega)] at hlk;simp only[decide_eq_true_eq] at hlk;have:l[0].wait = []:=zbY hlk;rw[this] at hv;simp at hv
   ·simp[h0]
section
variable {lo:Nat}{h:Heap}{F F':List Nat}{a a':Pq}{c c':Nq}
theorem NC {b i j:Nat} (hld:ld h b i j 1=some [.sl 2 a l.length c]) (hs:RNodes false h [.sl 2 a l.length c] l F) (h0:0<l.length) (hn:l.length≤1048576) :
  ∃ a' c' G,Ae lo 89 [.ptr (some (b,i,j))] h=some (.agg [.sl 6 a' (l[l.length - 1]'(by omega)).store.length c'],h)∧RVers false h [.sl 6 a' (l[l.length - 1]'(by omega)).store.length c'] (l[l.length - 1]'(by omega)).store G∧∀ y∈G,y∈F:=by
 obtain ⟨o,s1,s2,b1,d1,b2,d2,G1,G2,ha,ho,ho1,ho2,e1,e2,q1,q2,q3,_⟩:=hs.get (show l.length - 1<l.length by omega);refine ⟨b1,d1,G1,M8 ?_,q1,q3⟩;simp only[zcG,hld,Af,Ab,Ah,Ag];rw[wr (by omega) (by omega),Cl ⟨by omega,by omega⟩,show ((l.length:Int) - 1).toNat=l.length - 1 by omega];simp only[ha,Af,ho1,Ab,e1,Ag]
theorem ZN {e R bytes b i len:Nat}{rs xs:List (List V)} (hb:h[b]?=some (.rows R e false rs)) (hl:lo≤b) (hf:i+len+xs.length≤rs.length) (h0:0<bytes) (hsz:(len+xs.length)*bytes≤140737488355328) :
  CS lo e R bytes (.sl R (some (b,i)) len none) xs h K=K (.sl R (some (b,i)) (len+xs.length) none) (h.set b (.rows R e false (rs.take (i+len)++xs++rs.drop (i+len+xs.length)))):=by
 cases xs with
 | nil =>simp only[CS,zc2,zcG,zcB,zcw];rw[set_same hb]
 | cons x xs =>
  have hbl:Nat.blt 0 bytes=true:=by simpa [zdi] using h0
  have hsz':decide ((len+(x :: xs).length)*bytes≤Jh)=true:=decide_eq_true hsz;have hown:Heap.own? lo e h b=some rs:=by simp only[Heap.own?,hb,Dy hl,Iz]
  have hst:Ez lo h b (i+len) (x :: xs)=some (h.set b (.rows R e false (rs.take (i+len)++(x :: xs)++rs.drop (i+len+(x :: xs).length)))):=by simp only[Ez,hb,Dy hl,Dy hf]
  simp only[CS,hbl,hsz',Do,Iz,hown,Af,Dy hf,hst]
theorem UV {l1 l2:List Ver}{a1 a2:Pq}{c1 c2:Nq}{F1 F2:List Nat} (hs1:RVers false h [.sl 6 a1 l1.length c1] l1 F1) (hs2:RVers false h [.sl 6 a2 l2.length c2] l2 F2) (hl1:l1.length=4) (hl2:l2.length≤6) (hlo:lo≤h.length) :
  ∃ a' F' h',Ae lo 91 [.sl 1 (some (h.length,0)) 2 (some 2)] (h ++ [.rows 1 41 false [[.sl 6 a1 l1.length c1],[.sl 6 a2 l2.length c2]]])=some (.sl 6 a' (l1++l2).length none,h') ∧
   RVers false h' [.sl 6 a' (l1++l2).length none] (l1++l2) F'∧Mv h [] h' []:=by
 have m0:Mv h [] (h ++ [.rows 1 41 false [[.sl 6 a1 l1.length c1],[.sl 6 a2 l2.length c2]]]) []:=Mv.snoc;have hbB:(h ++ [Blk.rows 1 41 false [[.sl 6 a1 l1.length c1],[.sl 6 a2 l2.length c2]]])[h.length]?=some (.rows 1 41 false [[.sl 6 a1 l1.length c1],[.sl 6 a2 l2.length c2]]):=by simp
 have hBl:h.length<(h ++ [Blk.rows 1 41 false [[.sl 6 a1 l1.length c1],[.sl 6 a2 l2.length c2]]]).length:=by simp
 generalize hB:h ++ [Blk.rows 1 41 false [[.sl 6 a1 l1.length c1],[.sl 6 a2 l2.length c2]]]=B at *
 have r1:=m0.keep0 rvers_ok hs1;have r2:=m0.keep0 rvers_ok hs2;obtain ⟨n,hn⟩:∃ n,l1.length+l2.length=n+1:=⟨l1.length+l2.length - 1,by omega⟩;have m1:Mv B [] (B ++ [.rows 6 34 false (List.replicate (n+1) [Iv 0,Iv 0,Iv 0,.sl 0 none 0 (some 0),.str ⟨⟨[]⟩⟩,.bool false])]) []:=Mv.snoc;have hC0:(B ++ [Blk.rows 6 34 false (List.replicate (n+1) [Iv 0,Iv 0,Iv 0,.sl 0 none 0 (some 0),.str ⟨⟨[]⟩⟩,.bool false])])[B.length]?=some (.rows 6 34 false (List.replicate (n+1) [Iv 0,Iv 0,Iv 0,.sl 0 none 0 (some 0),.str ⟨⟨[]⟩⟩,.bool false])):=by simp
 have DL:Ae lo 184 [.sl 0 none 0 (some 0),Iv ((n+1:Nat):Int)] B=some (.sl 6 (some (B.length,0)) 0 none,B ++ [.rows 6 34 false (List.replicate (n+1) [Iv 0,Iv 0,Iv 0,.sl 0 none 0 (some 0),.str ⟨⟨[]⟩⟩,.bool false])]):=by
  refine FN ?_;have e1:IntKind.i64.wrap (((0:Nat):Int) - ((0:Nat):Int))=0:=by decide
  have e2:IntKind.i64.wrap (((n+1:Nat):Int) - 0)=((n+1:Nat):Int):=by rw[wr (by omega) (by omega)];omega
  rw[Ai (by omega)];simp only[Af,e1,e2];rw[Ak (by omega)];have e3:∀ {T:Type} (K:Pq→Nat→Nq→Option T),As none 0 (some 0) none (some (Iv 0)) none K=K none 0 (some 0):=by intro T K;unfold As EC HT IG;simp only[Aa];rw[Cj ⟨by decide,by decide⟩];rfl
  rw[e3,Ff ⟨by omega,by omega⟩,A7,List.replicate_succ];simp only[CS,show Nat.blt 0 72=true from rfl,Do];rw[Ff (by simp[Jh];omega)];simp only[Ah];unfold As EC HT IG;simp only[Aa];rw[Cj ⟨by omega,by omega⟩];simp[List.replicate_succ]
 have hBle:B.length<(B ++ [Blk.rows 6 34 false (List.replicate (n+1) [Iv 0,Iv 0,Iv 0,.sl 0 none 0 (some 0),.str ⟨⟨[]⟩⟩,.bool false])]).length:=by simp
 generalize hC:B ++ [Blk.rows 6 34 false (List.replicate (n+1) [Iv 0,Iv 0,Iv 0,.sl 0 none 0 (some 0),.str ⟨⟨[]⟩⟩,.bool false])]=C at *
 generalize hz : [Iv 0,Iv 0,Iv 0,.sl 0 none 0 (some 0),.str ⟨⟨[]⟩⟩,.bool false]=z at hC0;obtain ⟨rows1,Fs1,er1,ea1,sub1,_⟩:=PT (m1.keep0 rvers_ok r1);have len1:=ea1.len.1;have bd1:=fun y hy=>rvers_ok.bd _ _ _ _ r1 y (sub1 y hy);have frD:∀ y,y≠B.length→(C.set B.length (.rows 6 34 false ((List.replicate (n+1) z).take (0+0)++rows1++(List.replicate (n+1) z).drop (0+0+rows1.length))))[y]?=C[y]?:=fun y hy=>zbU (Ne.symm hy);have hD0:(C.set B.length (.rows 6 34 false ((List.replicate (n+1) z).take (0+0)++rows1++(List.replicate (n+1) z).drop (0+0+rows1.length))))[B.length]?=some (.rows 6 34 false (rows1++List.replicate l2.length z)):=by rw[zb9 hBle];simp only[zcG,List.take_zero,zco,zcl,List.drop_replicate];rw[show n+1 - rows1.length=l2.length by omega]
 have hDl:(C.set B.length (.rows 6 34 false ((List.replicate (n+1) z).take (0+0)++rows1++(List.replicate (n+1) z).drop (0+0+rows1.length)))).length=C.length:=by simp
 have e5:=fun {T:Type} (K:V→Heap→Option T)=>ZN (lo:=lo) (e:=34) (bytes:=72) (i:=0) (len:=0) (xs:=rows1) (K:=K) hC0 (by omega) (by simp;omega) (by decide) (by omega);generalize hD:C.set B.length (.rows 6 34 false ((List.replicate (n+1) z).take (0+0)++rows1++(List.replicate (n+1) z).drop (0+0+rows1.length)))=D at *
 have mD:Mv B [] D []:=⟨by omega,fun y hy _=>by rw[frD y (by omega)];exact m1.fr y hy (by simp),by simp,by simp⟩;obtain ⟨rows2,Fs2,er2,ea2,sub2,_⟩:=PT (mD.keep0 rvers_ok r2);have len2:=ea2.len.1;have bd2:=fun y hy=>rvers_ok.bd _ _ _ _ r2 y (sub2 y hy);have e6:=fun {T:Type} (K:V→Heap→Option T)=>ZN (lo:=lo) (e:=34) (bytes:=72) (i:=0) (len:=4) (xs:=rows2) (K:=K) hD0 (by omega) (by simp;omega) (by decide) (by omega);have hDle:B.length<D.length:=by omega
 have hE0:(D.set B.length (.rows 6 34 false ((rows1++List.replicate l2.length z).take (0+4)++rows2++(rows1++List.replicate l2.length z).drop (0+4+rows2.length))))[B.length]?=some (.rows 6 34 false (rows1++rows2)):=by rw[zb9 hDle];rw[zds (by omega),zcD (by omega),List.drop_of_length_le (by simp;omega),zcB]
 have frE:∀ y,y≠B.length→(D.set B.length (.rows 6 34 false ((rows1++List.replicate l2.length z).take (0+4)++rows2++(rows1++List.replicate l2.length z).drop (0+4+rows2.length))))[y]?=D[y]?:=fun y hy=>zbU (Ne.symm hy);have hEl:(D.set B.length (.rows 6 34 false ((rows1++List.replicate l2.length z).take (0+4)++rows2++(rows1++List.replicate l2.length z).drop (0+4+rows2.length)))).length=D.length:=by simp
 generalize hE:D.set B.length (.rows 6 34 false ((rows1++List.replicate l2.length z).take (0+4)++rows2++(rows1++List.replicate l2.length z).drop (0+4+rows2.length)))=E at *
 have ldB:∀ {X:Heap} (k:Nat) {v:V},X[h.length]?=some (.rows 1 41 false [[.sl 6 a1 l1.length c1],[.sl 6 a2 l2.length c2]])→([[V.sl 6 a1 l1.length c1],[.sl 6 a2 l2.length c2]]:List (List V))[k]?=some [v]→ld X h.length k 0 1=some [v]:=fun k v hb hk=>by rw[BB hb hk];rfl
 refine ⟨some (B.length,0),B.length ::(Fs1++Fs2).flatten,E,FP ?_,⟨6,some (B.length,0),none,by simp,rfl,rows1++rows2,Fs1++Fs2,hE0,by simp;omega,fun k hk=>(by cases hk),fun _=>rfl,?_,rfl⟩,⟨by omega,fun y hy _=>by rw[frE y (by omega),frD y (by omega),m1.fr y (by omega) (by simp)];exact m0.fr y hy (by simp),by simp,by simp⟩⟩
 ·have hBC:C[h.length]?=some (.rows 1 41 false [[.sl 6 a1 l1.length c1],[.sl 6 a2 l2.length c2]]):=by rw[m1.fr _ hBl (by simp)];exact hbB
  have hBD:D[h.length]?=some (.rows 1 41 false [[.sl 6 a1 l1.length c1],[.sl 6 a2 l2.length c2]]):=by rw[frD _ (by omega)];exact hBC
  have w1:IntKind.i64.wrap (0+(l1.length:Int))=(l1.length:Int):=by rw[wr (by omega) (by omega)];omega
  have w2:IntKind.i64.wrap ((l1.length:Int)+(l2.length:Int))=((n+1:Nat):Int):=by rw[wr (by omega) (by omega)];omega
  have w3:IntKind.i64.wrap (0+1)=1:=by decide
  have w4:IntKind.i64.wrap (1+1)=2:=by decide
  rw[AJ.e,Ak (by decide),Cl ⟨by decide,by decide⟩];simp only[Af,zcl,show Int.toNat 0=0 from rfl];rw[ldB 0 hbB rfl];simp only[Af,Ab,Ag,Ah,w1,w3];rw[Ai (by omega),AJ.e,Ak (by decide),Cl ⟨by decide,by decide⟩];simp only[Af,zcl,show Int.toNat 1=1 from rfl];rw[ldB 1 hbB rfl];simp only[Af,Ab,Ag,Ah,w2,w4];rw[Ai (by omega),AJ.e,Ai (by decide),DL];simp only[Ac,Ah];rw[AI.e,Ak (by decide),Cl ⟨by decide,by decide⟩];simp only[Af,zcl,show Int.toNat 0=0 from rfl];rw[ldB 0 hBC rfl];simp only[Af,Ab,Ag,Ah,w3];rw[er1,e5];simp only[Ah];rw[AI.e,Ak (by decide),Cl ⟨by decide,by decide⟩];simp only[Af,zcl,show Int.toNat 1=1 from rfl];rw[ldB 1 hBD rfl];simp only[Af,Ab,Ag,Ah,w4];rw[er2,show rows1.length=4 by omega,e6];simp only[Ah];rw[AI.e,Ai (by decide)];rw[show 4+rows2.length=(l1++l2).length by simp;omega]
 ·rw[zcW,zcD (by simp;omega)];refine EAll.append (ea1.fr rver_ok.fr fun y hy=>?_) (ea2.fr rver_ok.fr fun y hy=>frE y ?_)
  ·have:=bd1 y hy;rw[frE y (by omega),frD y (by omega)]
  ·have:=bd2 y hy;omega
end


section
variable {lo:Nat}{h:Heap}{F F':List Nat}{a a':Pq}{c c':Nq}
theorem Ga {p:Place}{a1 a2 a3:Pq}{c1 c2 c3:Nq}{F1 F2 F3:List Nat} (hs1:RNodes false h [.sl 2 a1 p.chain.length c1] p.chain F1) (hs2:RVers false h [.sl 6 a2 p.log.length c2] p.log F2)
  (hs3:RVss false h [.sl 1 a3 p.got.length c3] p.got F3) (hn:CT p):Ae lo 25 [.agg (p.cs a1 c1 a2 c2 a3 c3)] h=some (.bool (Ao p),h):=by
 suffices hk:∃ h',_=some (V.bool (Ao p),h') from hk.elim fun h' hk=>Q5 hk;have m0:Mv h [] (h ++ [.rows 6 49 false [p.cs a1 c1 a2 c2 a3 c3]]) []:=Mv.snoc;have hB0:(h ++ [Blk.rows 6 49 false [p.cs a1 c1 a2 c2 a3 c3]])[h.length]?=some (.rows 6 49 false [p.cs a1 c1 a2 c2 a3 c3]):=by simp
 have hBl:h.length<(h ++ [Blk.rows 6 49 false [p.cs a1 c1 a2 c2 a3 c3]]).length:=by simp
 generalize hB:h ++ [Blk.rows 6 49 false [p.cs a1 c1 a2 c2 a3 c3]]=B at *
 have r1:=m0.keep0 rnodes_ok hs1;have r2:=m0.keep0 rvers_ok hs2;have r3:=m0.keep0 rvss_ok hs3;have ld1:∀ {X:Heap} (j:Nat) {v:V},X[h.length]?=some (.rows 6 49 false [p.cs a1 c1 a2 c2 a3 c3])→(p.cs a1 c1 a2 c2 a3 c3)[j]?=some v→ld X h.length 0 j 1=some [v]:=fun j v hb hv=>by rw[BB hb rfl];exact JP hv
 rw[ld1 0 hB0 rfl];simp only[Af,Ab,Ag,Aa];rw[My];simp only[Ac,Av];unfold Ao;cases Al p.me 0 2 with
 | false=>exact ⟨_,rfl⟩
 | true =>
 rw[An,ld1 1 hB0 rfl];simp only[Af,Ab,Ag,Aa];rw[DB];simp only[Ac,Av];cases Al p.clock 0 999 with
 | false=>exact ⟨_,rfl⟩
 | true =>
 rw[An,ld1 2 hB0 rfl];simp only[Af,Ab,Ag,Ah];rw[JM r1 hn.1];simp only[Ac,Av];cases hc:Cz p.chain with
 | false=>exact ⟨_,by rw[zdc];rfl⟩
 | true =>
 rw[An,ld1 3 hB0 rfl];simp only[Af,Ab,Ag,Ah];rw[ld1 0 hB0 rfl];simp only[Af,Ab,Ag,Aa];rw[Qf r2 hn.2.1];simp only[Ac,Av];cases Ea p.me p.log with
 | false=>exact ⟨_,by rw[zdc];rfl⟩
 | true =>
 rw[An,ld1 4 hB0 rfl];simp only[Af,Ab,Ag,Ah];by_cases hg:¬ p.got.length=3
 ·rw[show ((p.got.length:Int)==3)=false by rw[beq_eq_false_iff_ne];omega,decide_eq_false hg];exact ⟨_,by rw[zdc];rfl⟩
 have hg:p.got.length=3:=by omega
 rw[show ((p.got.length:Int)==3)=true by rw[beq_iff_eq];omega,decide_eq_true hg,An];obtain ⟨hl4,hno⟩:=BY hc;obtain ⟨at',ct,Gt,et,rt,_⟩:=NC (lo:=h.length) (ld1 2 hB0 rfl) r1 (by omega) (by omega);rw[et];simp only[Ac,AC,Ab,Ah,Ag];have hsl:=AQ (Ay (hno _ (zbO (show p.chain.length - 1<p.chain.length by omega)))).1;obtain ⟨vg,hg1,Gg,eg,rg,mg⟩:=SE (lo:=h.length) rt m0.le hsl;obtain ⟨ag,cg,esg,rg⟩:=rg.form;rw[← Jj (by omega)] at rg esg;have hst:=Jz hc;rw[eg];simp only[Ac,AC,Ab,esg,Ag];have hG0:hg1[h.length]?=some (.rows 6 49 false [p.cs a1 c1 a2 c2 a3 c3]):=by rw[mg.fr _ hBl (by simp)];exact hB0
 rw[ld1 2 hG0 rfl];simp only[Af,Ab,Ag,Ah];have r1':=mg.keep0 rnodes_ok r1;have r3':=mg.keep0 rvss_ok r3;have key:=zbg (p:=fun i (x:Node)=>(x.store++x.wait).all (I6 (AS p.chain) p.clock i)) (l:=p.chain) (h0:=hg1) (fun i hh=>Ce (List.length h) (List.length h) 0 0 false a1 p.chain.length c1 (p.chain.length:Nat) (i:Nat) ag (AS p.chain).length cg hh)
  (p.got.zipIdx.all fun x=>IR p.me x.2 x.1) (fun i hi hh hm=>by
   have hni:=hno _ (zbO hi);obtain ⟨g1,g2,g3⟩:=Ay hni;obtain ⟨o,s1,s2,b1,d1,b2,d2,G1,G2,ha,ho,_,_,e1,e2,q1,q2,_⟩:=(hm.keep0 rnodes_ok r1').get hi;obtain ⟨a5,F5,h5,e5,r5,m5⟩:=UV (lo:=h.length) q1 q2 (AQ g1) g2 (zbN (zcI hBl) (zbN mg.le hm.le));have hmh:Mv hg1 [] h5 []:=hm.trans m5;have hH0:h5[h.length]?=some (.rows 6 49 false [p.cs a1 c1 a2 c2 a3 c3]):=by rw[hmh.fr _ (zb1 hBl mg.le) (by simp)];exact hG0
   have rgs:=hmh.keep0 rtags_ok rg;refine ⟨h5,m5,?_⟩;rw[Ce.e,Ak (by omega),Ad hi];simp only[ha,Af,A7,ho,Ab,e1,e2,Ag];rw[e5];simp only[Ac,Ah];rw[← ha];have hlen:(p.chain[i].store++p.chain[i].wait).length≤10:=by rw[zbX,AQ g1];omega
   refine (CQ (p:=I6 (AS p.chain) p.clock i) (l:=p.chain[i].store++p.chain[i].wait) (fun k=>Bz (List.length h) (List.length h) 0 0 false (i:Nat) a1 p.chain.length c1 (p.chain.length:Nat) (i:Nat) a5 (p.chain[i].store++p.chain[i].wait).length none ((p.chain[i].store++p.chain[i].wait).length:Nat) (k:Nat) ag (AS p.chain).length cg h5) (some (.bool false,h5)) (Ce (List.length h) (List.length h) 0 0 false a1 p.chain.length c1 (p.chain.length:Nat) ((i+1:Nat):Int) ag (AS p.chain).length cg h5) (fun k hk=>?_) ?_).trans ?_
   ·obtain ⟨o',s,b,d,G,ha',ho',es,hp,_⟩:=r5.get hk;rw[Bz.e,Ak (by omega),Ad hk];simp only[ha',Af,A7,ho',Ab,Aa,es,A8,Aw,Ag,zcT,Am (show k<9223372036854775807 by omega),zcl];rw[ld1 1 hH0 rfl];simp only[Af,Ab,Ag,Aa];have hk0:((i:Int)==0)=decide (i=0):=by rw[zcX,beq_iff_eq,decide_eq_true_eq];omega
    rw[hk0];have elem:I6 (AS p.chain) p.clock i (p.chain[i].store++p.chain[i].wait)[k]=((Hk (p.chain[i].store++p.chain[i].wait)[k] || Ca (p.chain[i].store++p.chain[i].wait)[k].past (AS p.chain))&&(!decide (i=0) || decide ((p.chain[i].store++p.chain[i].wait)[k].tag.time≤p.clock))):=rfl;have past4:Hk (p.chain[i].store++p.chain[i].wait)[k]=false→(p.chain[i].store++p.chain[i].wait)[k].past.length=4:=by
     intro hz;have hmem:(p.chain[i].store++p.chain[i].wait)[k]∈p.chain[i].store++p.chain[i].wait:=zbO hk;rw[zbP] at hmem;rcases hmem with hmem | hmem
     ·obtain ⟨j,hj,ej⟩:=zcu.1 hmem;rw[← ej] at hz ⊢;exact Py hni hj (by have:=J7 hni (zbO hj);rw[hz] at this;simpa using this)
     ·obtain ⟨j,hj,ej⟩:=zcu.1 hmem;rw[← ej];exact R3 hni hj
    rw[elem];generalize (p.chain[i].store++p.chain[i].wait)[k]=u at *
    have htm:∀ {T:Type} (x y:Option T),br (decide (u.tag.time>p.clock)) x y=br (!decide (u.tag.time≤p.clock)) x y:=by
     intro T x y;by_cases ht:u.tag.time≤p.clock
     ·rw[Ai (by omega),decide_eq_true ht];rfl
     ·rw[Ak (by omega),decide_eq_false ht];rfl
    simp only[htm];show br (Hk u) _ _=_;cases hz:Hk u with
    | true =>cases decide (i=0)<;>cases decide (u.tag.time≤p.clock)<;>simp only[An,Au,zcE,zcR,zb8,zcZ,zcT,zdc,Bool.true_or,zcL,Bool.or_true,zdp,cond_true,cond_false,if_true,if_false,zc0]
    | false =>have hu4:=past4 hz;rw[Au,Qe hp rgs (by omega) (by omega)];simp only[Ac,Av];rw[ld1 1 hH0 rfl];simp only[Af,Ab,Ag,Aa,htm];cases Ca u.past (AS p.chain)<;>cases decide (i=0)<;>cases decide (u.tag.time≤p.clock)<;>simp only[An,Au,zcE,zcR,zb8,zcZ,zcT,zdc,Bool.true_or,zcL,Bool.or_true,zdp,cond_true,cond_false,if_true,if_false,zc0]
   ·rw[Bz.e,Ai (by omega),Am (by omega)]
   ·rfl) (fun hh hm=>by
   have hH0:hh[h.length]?=some (.rows 6 49 false [p.cs a1 c1 a2 c2 a3 c3]):=by rw[hm.fr _ (zb1 hBl mg.le) (by simp)];exact hG0
   have r3s:=hm.keep0 rvss_ok r3';refine ⟨hh,?_⟩;rw[Ce.e,Ai (by omega)];simp only[zcl];rw[ld1 4 hH0 rfl];simp only[Af,Ab,Ag,Ah];refine (IY (p:=IR p.me) (l:=p.got) (fun i=>Cd (List.length h) (List.length h) 0 0 false a3 p.got.length c3 (p.got.length:Nat) (i:Nat) hh) (some (.bool false,hh)) (some (.bool true,hh)) (fun i hi=>?_) ?_).trans W3
   ·obtain ⟨o,s,b,d,G,ha,ho,es,hp,_⟩:=r3s.get hi;rw[Cd.e,Ak (by omega),Ad hi];simp only[ha,Af,A7,ho,Ab,es,Ag,zcG];rw[Qf hp (hn.2.2.2 _ (zbO hi)),];simp only[Ac,Av];rw[ld1 0 hH0 rfl];simp only[Af,Ab,Ag,Aa,Am (show i<9223372036854775807 by omega)];unfold IR;by_cases h0:p.got[i].length=0
    ·rw[Ai (by omega),decide_eq_true h0];cases Ea i p.got[i]<;>cases ((i:Int)==p.me)<;>rfl
    ·rw[Ak (by omega),decide_eq_false h0];cases Ea i p.got[i]<;>cases ((i:Int)==p.me)<;>rfl
   ·rw[Cd.e,Ai (by omega)])
 rw[WB hc] at key;obtain ⟨h',e⟩:=key;refine ⟨h',e.trans ?_⟩;cases Ed p.chain<;>cases D3 p.chain p.clock<;>cases (p.got.zipIdx.all fun x=>IR p.me x.2 x.1)<;>rfl
end


section
variable {h:Heap}
theorem zaT {α:Type}{El:Rel α}{bd:α→Prop}{n t e ee R:Nat}{xs:List V} (hu:Tryz.prog.underlying t=some (.slice e)) (hR:Tryz.prog.cellsOf e=R) (hel:∀ row,TV Tryz.prog h n e row→∃ x F,El h row x F∧bd x) (hx:TV Tryz.prog h (n+1) t xs) :
  ∃ l F,Sli true R ee El h xs l F∧l.length≤maxLen∧∀ x∈l,bd x:=by
 simp only[TV,hu] at hx;obtain ⟨a,c,rs,rfl,⟨h2,_⟩,h3,h4⟩:=hx;have all:∀ rs:List (List V),(∀ row∈rs,TV Tryz.prog h n e row)→∃ l Fs,EAll El h rs l Fs∧l.length=rs.length∧∀ x∈l,bd x:=by
  intro rs;induction rs with
  | nil=>intro _;exact ⟨[],[],trivial,rfl,by simp⟩
  | cons r rs ih =>
   intro hr;obtain ⟨l,Fs,g1,g2,g3⟩:=ih fun row hrow=>hr row (by simp[hrow]);obtain ⟨x,F,g4,g5⟩:=hel r (hr r (by simp));exact ⟨x :: l,F :: Fs,⟨g4,g1⟩,by simp[g2],fun y hy=>by
    rcases zb0.1 hy with rfl | hy
    ·exact g5
    ·exact g3 y hy⟩
 obtain ⟨l,Fs,g1,g2,g3⟩:=all rs fun row hr=>(h3 row hr).2
 rcases h4 with rfl | ⟨b,rfl,hb⟩
 ·have:l = []:=zbY (by simpa using g2);subst this;exact ⟨[],[],⟨R,a,c,by rw[hR];rfl,rfl,.inl ⟨rfl,rfl⟩⟩,zch _,by simp⟩
 ·refine ⟨l,b :: Fs.flatten,⟨R,some (b,0),c,by rw[hR,g2],rfl,.inr ⟨b,0,rs,Fs,rfl,hb,by omega,?_,rfl⟩⟩,by omega,g3⟩;rw[zcW,zcD (by omega)];exact g1
end


def BZ (ro:Bool):Rel Place:=fun h cs p F=>∃ a1 c1 a2 c2 a3 c3,cs=p.cs a1 c1 a2 c2 a3 c3∧RPlace ro h cs p F
theorem DH {ro:Bool}:(BZ ro).Ok :=
 ⟨fun h h' cs p F ⟨a1,c1,a2,c2,a3,c3,e,hp⟩ hb=>⟨a1,c1,a2,c2,a3,c3,e,rplace_ok.fr _ _ _ _ _ hp hb⟩,fun h cs p F ⟨_,_,_,_,_,_,_,hp⟩=>rplace_ok.bd _ _ _ _ hp⟩
theorem WU:∀ {l:List Tag},Y0 ZS l=2*l.length
 | []=>rfl
 | t :: l=>by
  have h1:=WU (l:=l);have h2:Y0 ZS (t :: l)=2+Y0 ZS l:=by simp only[Y0,List.map_cons,List.sum_cons]
  rw[h2,h1,zcF];omega
abbrev T8:Ver:=⟨0,⟨0,0⟩,[],⟨⟨[]⟩⟩,false⟩
abbrev Pt:Place:=⟨0,0,[],[],[],false⟩
section
variable {lo:Nat}{h:Heap}{F F':List Nat}{a a':Pq}{c c':Nq}
end


variable {l:List Node}
theorem Mv.swap {h h':Heap}{A B A' B':List Nat} (m:Mv h (A++B) h' (A'++B')):Mv h (B++A) h' (B'++A'):=by
 refine ⟨m.le,fun b hb hn=>m.fr b hb fun hm=>hn ?_,?_,fun b hb=>?_⟩
 ·rw[zbP] at hm ⊢;exact hm.symm
 ·have:=m.nd;rw[zbQ] at this ⊢;exact ⟨this.2.1,this.1,fun x hx y hy e=>this.2.2 y hy x hx e.symm⟩
 ·rw[zbP] at hb;refine (m.sub b (by rw[zbP];exact hb.symm)).imp (fun h=>?_) id;rw[zbP] at h ⊢;exact h.symm
theorem D9 {α:Type}{El:Rel α} (ok:El.Ok) {h0 h1:Heap}{lo R e n bytes:Nat}{a:Pq}{c:Nq}{l:List α}{F:List Nat}{row:List V}{x:α}{G:List Nat} (hs:Sli false R e El h0 [.sl R a n c] l F) (hx:El h1 row x G) (m:Mv h0 [] h1 G)
  (hnd:F.Nodup) (hlo:∀ b∈F,lo≤b) (hl:lo≤h0.length) (hb:0<bytes) (hsz:(l.length+1)*bytes≤140737488355328) :
  ∃ a' c' h2 F',(∀ {T:Type} (K:V→Heap→Option T),CS lo e R bytes (.sl R a n c) [row] h1 K=K (.sl R a' (l.length+1) c') h2)∧Sli false R e El h2 [.sl R a' (l.length+1) c'] (l ++ [x]) F'∧Mv h0 F h2 F':=by
 have hbd:=(Sli.ok ok).bd _ _ _ _ hs;have hs1:=m.keep0 (Sli.ok ok) hs;have hGb:=m.lt (by simp);obtain ⟨a',c',h2,F',p1,p2,p3,p4,p5,p6⟩:=Sli.push (lo:=lo) (bytes:=bytes) ok.fr hs1 (xs := [row]) (ys := [x]) (Gs := [G]) ⟨hx,trivial⟩ hb hsz hlo (zbN hl m.le)
  (by
   rw[zbQ];refine ⟨hnd,by simpa using m.nd,fun y hy z hz=>?_⟩
   rintro rfl
   have g1:=hbd y hy;have g2:=m.new y (by simpa using hz);omega)
  (fun b hb'=>by
   have g1:=m.le;rw[zbP] at hb';rcases hb' with hb' | hb'
   ·have:=hbd b hb';omega
   ·exact hGb b (by simpa using hb')) (by simp)
 refine ⟨a',c',h2,F',p1,p2,zbN m.le p3,fun b hb' hF=>?_,p6,fun b hb'=>?_⟩
 ·rw[p4 b (zb1 hb' m.le) hF,m.fr b hb' (by simp)]
 ·have g1:=m.le;rcases p5 b hb' with g | g
  ·rw[zbP] at g;rcases g with g | g
   ·exact .inl g
   ·have g2:=m.new b (by simpa using g);have g3:=hGb b (by simpa using g);exact .inr (by omega)
  ·exact .inr (by omega)
def Ir (l:List Node):List Node:=match l.getLast? with
 | some x=>l ++ [⟨x.store,[]⟩]
 | none=>l
def Gi (l:List Node):Bool:=decide ((l.length:Int)<4)
def KH (l:List Node):List Node:=bif Gi l then Ir l else l
theorem GU (h0:0<l.length):Ir l=l ++ [⟨(l[l.length - 1]'(by omega)).store,[]⟩]:=by unfold Ir;rw[zc5,Dd (by omega)]
def ID (raw:List V) (p:Place) (r:List V):Prop:=∃ s1 s2 s3 a1 c1 a2 c2 a3 c3,raw = [Iv p.me,Iv p.clock,s1,s2,s3,.bool p.fell] ∧
 (∀ {T:Type} (K:Pq→Nat→Nq→Option T),eS 2 s1 K=K a1 p.chain.length c1)∧(∀ {T:Type} (K:Pq→Nat→Nq→Option T),eS 6 s2 K=K a2 p.log.length c2) ∧
 (∀ {T:Type} (K:Pq→Nat→Nq→Option T),eS 1 s3 K=K a3 p.got.length c3)∧r=p.cs a1 c1 a2 c2 a3 c3
theorem Kn {hh:Heap}:∃ raw r,raw = [Iv 0,Iv 0,.sl 0 none 0 (some 0),.sl 0 none 0 (some 0),.sl 0 none 0 (some 0),.bool false]∧ID raw Pt r∧BZ false hh r Pt [] :=
 ⟨_,_,rfl,⟨_,_,_,none,some 0,none,some 0,none,some 0,rfl,fun K=>rfl,fun K=>rfl,fun K=>rfl,rfl⟩,⟨none,some 0,none,some 0,none,some 0,rfl,_,_,_,[],[],[],rfl,rfl,Sli.nil,Sli.nil,Sli.nil⟩⟩
theorem EH {p:Place}{a1 a2 a3:Pq}{c1 c2 c3:Nq}:ID (p.cs a1 c1 a2 c2 a3 c3) p (p.cs a1 c1 a2 c2 a3 c3) :=
 ⟨_,_,_,a1,c1,a2,c2,a3,c3,rfl,fun K=>Ah _ _ _ _ _,fun K=>Ah _ _ _ _ _,fun K=>Ah _ _ _ _ _,rfl⟩
section
variable {lo:Nat}{h:Heap}{F F':List Nat}{a a':Pq}{c c':Nq}
theorem MJ {l:List Ver}{n:Nat} (hs:RVers false h [.sl 6 a n c] l F):Ae lo 172 [.sl 6 a n c] h=some (.sl 6 a n (some n),h):=GE (by rw[JF hs])
theorem Yr {n:Nat} (hs:RNodes false h [.sl 2 a n c] l F):Ae lo 168 [.sl 2 a n c] h=some (.sl 2 a n (some n),h):=FQ (by rw[JF hs])
theorem Oi (hs:RNodes false h [.sl 2 a l.length c] l F) (h0:0<l.length) (hn:Ci l) (hnd:F.Nodup) (hlo:∀ b∈F,lo≤b) (hl:lo≤h.length) :
  ∃ a' c' h' F',Ae lo 249 [.agg [.sl 2 a l.length c]] h=some (.agg [.sl 2 a' (l.length+1) c'],h')∧RNodes false h' [.sl 2 a' (l.length+1) c'] (Ir l) F'∧Mv h F h' F':=by
 have hn1:=hn.1;obtain ⟨o,s1,s2,b1,d1,b2,d2,G1,G2,ha,ho,ho1,ho2,e1,e2,q1,q2,_⟩:=hs.get (show l.length - 1<l.length by omega);obtain ⟨v3,h3,F3,e3,r3,m3⟩:=GO (lo:=lo) q1 hl (hn.2 _ (zbO _)).1;obtain ⟨a4,c4,es4,r4⟩:=r3.form;obtain ⟨a5,c5,h5,F5,e5,r5,m5⟩:=D9 (lo:=lo) (bytes:=48) (e:=45) rnode_ok hs (row := [.sl 6 a4 (l[l.length - 1]'(by omega)).store.length c4,.sl 0 none 0 (some 0)]) (x:=⟨(l[l.length - 1]'(by omega)).store,[]⟩) (G:=F3) (h1:=h3 ++ [.rows 2 45 false [[.sl 6 a4 (l[l.length - 1]'(by omega)).store.length c4,.sl 0 none 0 (some 0)]]])
  ⟨_,_,F3,[],rfl,by simp,Mv.snoc.keep0 rvers_ok r4,Sli.nil⟩ (m3.trans (Mv.snoc' m3.nd)) hnd hlo hl (by decide) (by omega)
 refine ⟨a5,c5,h5,F5,RC ?_,by rw[GU h0];exact r5,m5⟩;rw[wr (by omega) (by omega),Cl ⟨by omega,by omega⟩,show ((l.length:Int) - 1).toNat=l.length - 1 by omega];simp only[ha,Af,ho1,Ab,e1,Ag];rw[e3];simp only[Ac,AC,Ab,es4,Ag,AZ];rw[← ha,e5];simp only[Ah]
end


variable {p:Place}
theorem HW:∀ {row:List V}{n:Nat},row.length=n→cut row 0 n=some row
 | [],0,_=>rfl
 | v :: r,n+1,h=>by have h1:=HW (row:=r) (n:=n) (by simpa using h);show (match cut r 0 n with | some l=>some (v :: l) | none=>none)=_;rw[h1]
theorem Ww {a1 a2 a3 b1 b2 b3:Pq}{c1 c2 c3 d1 d2 d3:Nq} (h:p.cs a1 c1 a2 c2 a3 c3=p.cs b1 d1 b2 d2 b3 d3):a1=b1∧c1=d1∧a2=b2∧c2=d2∧a3=b3∧c3=d3:=by simp only[Place.cs,List.cons.injEq,V.sl.injEq,true_and,and_true] at h;obtain ⟨⟨h1,h2⟩,⟨h3,h4⟩,h5,h6⟩:=h;exact ⟨h1,h2,h3,h4,h5,h6⟩
def DT (p p':Place):Place:=bif Ao p then p' else Pt
def Ms (p:Place):Place:=⟨p.me,p.clock,KH p.chain,p.log,p.got,p.fell⟩
theorem EN (h:Ao p=true):0<p.chain.length:=by unfold Ao at h;simp only[Dm] at h;have:=(BY h.1.1.1.1.2).1;omega
theorem Mv.swapNil {h h':Heap}{A B:List Nat} (m:Mv h [] h' (A++B)):Mv h [] h' (B++A):=Mv.swap (A := []) (B := []) m
theorem IX {b:Bool}{h:Heap}:br b (some (V.bool true,h)) (some (V.bool false,h))=some (V.bool b,h):=by cases b<;>rfl
theorem WL:CT Pt:=⟨⟨zch _,by simp⟩,⟨zch _,by simp⟩,⟨zch _,by simp⟩⟩
section
variable {lo:Nat}{h:Heap}{F F':List Nat}{a a':Pq}{c c':Nq}
theorem JB {a1 a2 a3:Pq}{c1 c2 c3:Nq}{F1 F2 F3:List Nat} (hs1:RNodes false h [.sl 2 a1 p.chain.length c1] p.chain F1) (hs2:RVers false h [.sl 6 a2 p.log.length c2] p.log F2)
  (hs3:RVss false h [.sl 1 a3 p.got.length c3] p.got F3) (hl:lo≤h.length) (hn:CT p) :
  ∃ raw a1' c1' a2' c2' a3' c3' h' F',Ae lo 84 [.agg (p.cs a1 c1 a2 c2 a3 c3)] h=some (.agg raw,h')∧ID raw p (p.cs a1' c1' a2' c2' a3' c3')∧RPlace false h' (p.cs a1' c1' a2' c2' a3' c3') p F'∧Mv h [] h' F':=by
 obtain ⟨vs,h',F',e,r,m⟩:=Um (lo:=lo) hs1 hs2 hs3 hl hn;obtain ⟨s1,s2,s3,G1,G2,G3,rfl,rfl,g1,g2,g3⟩:=r;obtain ⟨x1,y1,es1,g1⟩:=g1.form;obtain ⟨x2,y2,es2,g2⟩:=g2.form;obtain ⟨x3,y3,es3,g3⟩:=g3.form;exact ⟨_,x1,y1,x2,y2,x3,y3,h',_,e,⟨s1,s2,s3,x1,y1,x2,y2,x3,y3,rfl,fun K=>es1 K,fun K=>es2 K,fun K=>es3 K,rfl⟩,⟨_,_,_,G1,G2,G3,rfl,rfl,g1,g2,g3⟩,m⟩
end


def HC (l:List Node) (k:Nat) (v:Ver):List Node:=match l[k]? with
 | some x=>match x.store[v.key.toNat]? with
  | some u=>bif AT u v then l.set k ⟨x.store.set v.key.toNat v,bif decide (k+1<l.length) then x.wait ++ [v] else x.wait⟩ else l
  | none=>l
 | none=>l
theorem Vp {l:List Node}{k:Nat}{v:Ver} (hk:k<l.length) (hv:v.key.toNat<l[k].store.length) :
  HC l k v=bif AT l[k].store[v.key.toNat] v then l.set k ⟨l[k].store.set v.key.toNat v,bif decide (k+1<l.length) then l[k].wait ++ [v] else l[k].wait⟩ else l:=by
 unfold HC;rw[Dd hk];simp only;rw[Dd hv]
section
variable {lo:Nat}{h h3:Heap}{F F' G:List Nat}{a a' av:Pq}{c c' cv:Nq}{n k:Nat}{l:List Node}{v:Ver}
theorem Sj (hs:RNodes false h [.sl 2 a n c] l F) (hk:k<l.length) (hnd:F.Nodup) (hlo:∀ b∈F,lo≤b) (hl:lo≤h.length) (hw:l[k].wait.length≤1048576) (hv:RTags false h3 [.sl 2 av v.past.length cv] v.past G) (m3:Mv h [] h3 G) :
  ∃ b i t2 a2 c2 a5 c5 h5,a=some (b,i)∧ld h b (i+k) 1 1=some [t2]∧(∀ {T:Type} (K:Pq→Nat→Nq→Option T),eS 6 t2 K=K a2 l[k].wait.length c2) ∧
   (∀ {T:Type} (K:V→Heap→Option T),CS lo 34 6 72 (.sl 6 a2 l[k].wait.length c2) [v.cs av cv] (h3 ++ [.rows 6 34 false [v.cs av cv]]) K=K (.sl 6 a5 (l[k].wait.length+1) c5) h5) ∧
   (∃ F5,RVers false h5 [.sl 6 a5 (l[k].wait.length+1) c5] (l[k].wait ++ [v]) F5) ∧
   ∀ c6,(c6=c5∨c6=some (l[k].wait.length+1))→∃ h6 F6,st lo h5 b (i+k) 1 [.sl 6 a5 (l[k].wait.length+1) c6]=some h6∧RNodes false h6 [.sl 2 a n c] (l.set k ⟨l[k].store,l[k].wait ++ [v]⟩) F6∧Mv h F h6 F6:=by
 obtain ⟨b,i,rs,row,G0,ha,hbF,hbG,hb,hrow,hel,hGF,hGn,_,put⟩:=hs.at rnode_ok hk hnd hlo;obtain ⟨t1,t2,F1,F2,rfl,rfl,r1,r2⟩:=hel;obtain ⟨a2,c2,e2,r2'⟩:=r2.form;rw[zbQ] at hGn;obtain ⟨a5,c5,h5,F5,e5,r5,m5⟩:=D9 (lo:=lo) (bytes:=72) (e:=34) rver_ok r2' (row:=v.cs av cv) (x:=v) (G:=G) (h1:=h3 ++ [.rows 6 34 false [v.cs av cv]])
  ⟨_,rfl,Mv.snoc.keep0 rtags_ok hv⟩ (m3.trans (Mv.snoc' m3.nd)) hGn.2.1 (fun y hy=>hlo y (hGF y (by simp[hy]))) hl (by decide) (by omega)
 have b1:∀ y∈F1,y<h.length:=rvers_ok.bd _ _ _ _ r1;have m6:=(m5.aside (G:=F1) (by rw[zbQ];exact ⟨hGn.2.1,hGn.1,fun x hx y hy e=>hGn.2.2 y hy x hx e.symm⟩) b1).swap;have r1':=m5.keep rvers_ok r1 fun y hy hm=>hGn.2.2 y hy y hm rfl;refine ⟨b,i,t2,a2,c2,a5,c5,h5,ha,by rw[BB hb hrow];rfl,fun K=>e2 K,fun K=>e5 K,⟨F5,r5⟩,fun c6 hc=>?_⟩;have r5':RVers false h5 [.sl 6 a5 (l[k].wait.length+1) c6] (l[k].wait ++ [v]) F5:=by
  rcases hc with rfl | rfl
  ·exact r5
  ·exact r5.clip
 obtain ⟨h6,F6,e6,r6,m7,_⟩:=put h5 (F1++F5) 1 [.sl 6 a5 (l[k].wait.length+1) c6] [t1,.sl 6 a5 (l[k].wait.length+1) c6] ⟨l[k].store,l[k].wait ++ [v]⟩ m6 rfl ⟨_,_,F1,F5,rfl,rfl,r1',r5'⟩;exact ⟨h6,F6,e6,r6,m7⟩
theorem XG (hs:RNodes false h [.sl 2 a n c] l F) (hk:k<l.length) (hnd:F.Nodup) (hlo:∀ b∈F,lo≤b) (hq:v.key.toNat<l[k].store.length) (hv:RTags false h3 [.sl 2 av v.past.length cv] v.past G) (m3:Mv h [] h3 G) :
  ∃ b i t1 o c1,a=some (b,i)∧ld h b (i+k) 0 1=some [t1]∧(∀ {T:Type} (K:Pq→Nat→Nq→Option T),eS 6 t1 K=K (some o) l[k].store.length c1)∧(∃ F1,RVers false h [.sl 6 (some o) l[k].store.length c1] l[k].store F1) ∧
   ∃ h4 F4,st lo h3 o.1 (o.2+v.key.toNat) 0 (v.cs av cv)=some h4∧RNodes false h4 [.sl 2 a n c] (l.set k ⟨l[k].store.set v.key.toNat v,l[k].wait⟩) F4∧Mv h F h4 F4:=by
 obtain ⟨b,i,rs,row,G0,ha,hbF,hbG,hb,hrow,hel,hGF,hGn,keep,_⟩:=hs.at rnode_ok hk hnd hlo;obtain ⟨t1,t2,F1,F2,rfl,rfl,r1,r2⟩:=hel;have hGn0:=hGn;rw[zbQ] at hGn;obtain ⟨R',a1,c1,e1,g⟩:=id r1;injection e1 with e1 _;subst e1;cases a1 with
 | none =>have:=g.1;rw[this] at hq;exact absurd hq (Nat.not_lt_zero _)
 | some o =>
 obtain ⟨hR,_⟩:=g;subst hR;obtain ⟨b2,i2,rs2,row2,G2,e2,hb2,hbG2,hbb,hrow2,hel2,hGF2,hGn2,_,wr⟩:=r1.at rver_ok hq hGn.1 (fun y hy=>hlo y (hGF y (by simp[hy])));injection e2 with e2;subst e2;obtain ⟨h4,F4,e4,r4,m4,_⟩:=wr h3 G 0 (v.cs av cv) (v.cs av cv) v (m3.wide (by simp)) (Dl (by obtain ⟨s,rfl,_⟩:=hel2;rfl)) ⟨_,rfl,hv⟩;have b2':∀ y∈F2,y<h.length:=rvers_ok.bd _ _ _ _ r2;have m5:=m4.aside (G:=F2) hGn0 b2';have r2':=m4.keep rvers_ok r2 fun y hy hm=>hGn.2.2 y hm y hy rfl;obtain ⟨F5,r5,m6⟩:=keep h4 ⟨l[k].store.set v.key.toNat v,l[k].wait⟩ (F4++F2) m5 ⟨_,_,F4,F2,rfl,rfl,r4,r2'⟩;exact ⟨b,i,_,(b2,i2),c1,ha,by rw[BB hb hrow];rfl,fun K=>Ah _ _ _ _ _,⟨F1,r1⟩,h4,F5,e4,r5,m6⟩
theorem Lo (hs:RNodes false h [.sl 2 a l.length c] l F) (hv:RTags false h [.sl 2 av v.past.length cv] v.past G) (hd:∀ b∈G,b∉F) (hnd:F.Nodup) (hlo:∀ b∈F,lo≤b) (hl:lo≤h.length) (hk:k<l.length)
  (hkey:0≤v.key∧v.key<l[k].store.length) (hn:Ci l) (hvn:v.past.length≤1048576) :
  ∃ h' F',Ae lo 193 [.agg [.sl 2 a l.length c],Iv k,.agg (v.cs av cv)] h=some (.agg [.sl 2 a l.length c],h')∧RNodes false h' [.sl 2 a l.length c] (HC l k v) F'∧Mv h F h' F':=by
 have hn1:=hn.1;have hkl:v.key.toNat<l[k].store.length:=by omega
 have hsm:=hn.2 _ (zbO hk);suffices hq:∃ h' F',_=some (V.agg [.sl 2 a l.length c],h')∧RNodes false h' [.sl 2 a l.length c] (HC l k v) F'∧Mv h F h' F' from hq.imp fun h' hq=>hq.imp fun F' hq=>⟨TR hq.1,hq.2⟩
 obtain ⟨b,i,rs,row,G0,ha,hbF,hbG,hb,hrow,hel,hGF,hGn,_,put⟩:=hs.at rnode_ok hk hnd hlo;obtain ⟨t1,t2,F1,F2,rfl,rfl,r1,r2⟩:=hel;obtain ⟨a1,c1,e1,r1'⟩:=r1.form;obtain ⟨o,s,_,_,_,ha1,_,_,_,_,_,_,ho12,_⟩:=RVers.all r1' hkl;have ld0:ld h b (i+k) 0 1=some [t1]:=by rw[BB hb hrow];rfl
 rw[Vp hk hkl];rw[Ad hk];simp only[ha,Af,A7,ld0,Ab,Ag,e1];rw[Cl ⟨by omega,by omega⟩];simp only[ha1,Af,ho12,Ab,Aa,Ag,BI,Ac,Av];show ∃ h' F',br (AT l[k].store[v.key.toNat] v) _ _=_∧_;cases hle:AT l[k].store[v.key.toNat] v with
 | false=>exact ⟨h,F,rfl,by rw[← ha];exact hs,Mv.refl hnd⟩
 | true =>
  have hGn0:=hGn;rw[zbQ] at hGn;have hGlt:∀ b∈G,b<h.length:=rtags_ok.bd _ _ _ _ hv;obtain ⟨h2,F3,e2,r3,m2⟩:=Lq (lo:=lo) r1' hv hGn.1 (fun y hy=>hlo y (hGF y (by simp[hy]))) hl hkey hvn;have b2':∀ y∈F2,y<h.length:=rvers_ok.bd _ _ _ _ r2;have m3:=m2.aside (G:=F2) hGn0 b2';have r2':=m2.keep rvers_ok r2 fun y hy hm=>hGn.2.2 y hm y hy rfl;have hadd:Ek l[k].store v=l[k].store.set v.key.toNat v:=by rw[LK hkl,hle,cond_true]
  have hlen:(Ek l[k].store v).length=l[k].store.length:=addVer_len;rw[← hlen] at r3;obtain ⟨h4,F4,e4,r4,m4,b4,fr4,l4⟩:=put h2 (F3++F2) 0 [.sl 6 a1 (Ek l[k].store v).length c1] [.sl 6 a1 (Ek l[k].store v).length c1,t2] ⟨Ek l[k].store v,l[k].wait⟩ m3 rfl ⟨_,_,F3,F2,rfl,rfl,r3,r2'⟩;rw[hlen] at e4;have hv4:RTags false h4 [.sl 2 av v.past.length cv] v.past G:=m4.keep rtags_ok hv hd;have hk4:k<(l.set k ⟨Ek l[k].store v,l[k].wait⟩).length:=by simpa using hk
  rw[An,Ad hk];simp only[Af,ld0,Ab,e1,Ag];rw[e2];simp only[Ac,AC,Ab,Ah,Ag];rw[Ad hk,e4];simp only[Af];rw[wr (by omega) (by omega),cond_true];by_cases hlast:k+1<l.length
  ·rw[Ak (by omega),Ad hk,decide_eq_true hlast,cond_true];obtain ⟨a6,c6,h6,F6,e6,r6,m6⟩:=CO (lo:=h4.length) (v:=v) hv4 (zbR _) hvn;have hself:(l.set k ⟨Ek l[k].store v,l[k].wait⟩)[k]=⟨Ek l[k].store v,l[k].wait⟩:=zc3 hk4;obtain ⟨b7,i7,u2,a7,c7,a8,c8,h8,ha7,ld7,e7,app7,_,st7⟩:=Sj (lo:=lo) r4 hk4 m4.nd (fun y hy=>m4.ge hl hlo y hy) (zbN hl m4.le) (by rw[hself];exact hsm.2.1) r6 m6;simp only[hself] at e7 app7 st7;obtain ⟨h9,F9,e9,r9,m9⟩:=st7 _ (.inl rfl);rw[ha] at ha7;injection ha7 with ha7;injection ha7 with hb7 hi7;subst hb7;subst hi7;simp only[ld7,Af,Ab,Ag,e7];rw[e6];simp only[Ac,AC,Ab,Aa,Ah,A8,Aw,Ag,AZ];rw[app7];simp only[Ah];rw[Ad hk,e9];rw[zdA,hadd] at r9;exact ⟨h9,F9,rfl,by rw[← ha];exact r9,m4.trans m9⟩
  ·rw[Ai (by omega),decide_eq_false hlast,cond_false];rw[hadd] at r4;exact ⟨h4,F4,rfl,by rw[← ha];exact r4,m4⟩
theorem We {b i j R e:Nat}{rs:List (List V)}{row:List V} (hb:h[b]?=some (.rows R e false rs)) (hrow:rs[i]?=some row) (hcell:row[j]?=some (.sl 2 a l.length c)) (hs:RNodes false h [.sl 2 a l.length c] l F) (hbF:b∉F)
  (hv:RTags false h [.sl 2 av v.past.length cv] v.past G) (hd:∀ b∈G,b∉F) (hnd:F.Nodup) (hlo:∀ b∈F,lo≤b) (hl:lo≤h.length) (hk:k<l.length)
  (hkey:0≤v.key∧v.key<l[k].store.length) (hn:Ci l) (hvn:v.past.length≤1048576) :
  ∃ h' F',Ae lo 264 [.ptr (some (b,(i,j))),Iv k,.agg (v.cs av cv)] h=some (.tup [],h')∧RNodes false h' [.sl 2 a l.length c] (HC l k v) F'∧Mv h F h' F':=by
 have hn1:=hn.1;have hkl:v.key.toNat<l[k].store.length:=by omega
 have hsm:=hn.2 _ (zbO hk);have hblt:b<h.length:=(Fh hb).1;have hld:ld h b i j 1=some [.sl 2 a l.length c]:=by rw[BB hb hrow];exact JP hcell
 suffices hq:∃ h' F',_=some (V.tup [],h')∧RNodes false h' [.sl 2 a l.length c] (HC l k v) F'∧Mv h F h' F' from hq.imp fun h' hq=>hq.imp fun F' hq=>⟨LZ hq.1,hq.2⟩
 obtain ⟨a3,c3,h3,F3,e3,r3,m3⟩:=CV (lo:=h.length) (v:=v) hv (zbR _) hvn;obtain ⟨b1,i1,t1,o,c1,ha,ld0,e1,⟨F1,r1⟩,h4,F4,e4,r4,m4⟩:=XG (lo:=lo) hs hk hnd hlo hkl r3 m3;have hlat:=Qg (lo:=lo) (v:=v) (ca:=av) (cc:=cv) (n:=v.past.length) r1 (by omega);rw[Vp hk hkl];simp only[zcG,hld,Af,Ab,Ag,Ah];rw[Ad hk];simp only[ha,Af,A7,ld0,Ab,Ag,e1];rw[hlat];simp only[Ac,Av];cases hle:AT l[k].store[v.key.toNat] v with
 | false=>exact ⟨h,F,rfl,by rw[← ha];exact hs,Mv.refl hnd⟩
 | true =>
  have hb4:h4[b]?=some (.rows R e false rs):=by rw[m4.fr b hblt hbF];exact hb
  have hld4:ld h4 b i j 1=some [.sl 2 a l.length c]:=by rw[BB hb4 hrow];exact JP hcell
  have hv4:RTags false h4 [.sl 2 av v.past.length cv] v.past G:=m4.keep rtags_ok hv hd;have hk4:k<(l.set k ⟨l[k].store.set v.key.toNat v,l[k].wait⟩).length:=by simpa using hk
  rw[An,e3];simp only[Ac,AC,Ab,Aa,Ah,A8,Aw,Ag,Af,ld0,e1];rw[Cl ⟨by omega,by omega⟩,e4];simp only[Af,hld4,Ab,Ah,Ag];rw[ND hn1];simp only[Ac,Av,cond_true];by_cases hlast:k+1=l.length
  ·rw[decide_eq_true hlast,decide_eq_false (by omega),cond_false,An];exact ⟨h4,F4,rfl,by rw[← ha];exact r4,m4⟩
  ·rw[decide_eq_false hlast,decide_eq_true (by omega),cond_true,Au];obtain ⟨a6,c6,h6,F6,e6,r6,m6⟩:=CV (lo:=h4.length) (v:=v) hv4 (zbR _) hvn;have hself:(l.set k ⟨l[k].store.set v.key.toNat v,l[k].wait⟩)[k]=⟨l[k].store.set v.key.toNat v,l[k].wait⟩:=zc3 hk4;obtain ⟨b7,i7,u2,a7,c7,a8,c8,h8,ha7,ld7,e7,app7,⟨F8,r8⟩,st7⟩:=Sj (lo:=lo) r4 hk4 m4.nd (fun y hy=>m4.ge hl hlo y hy) (zbN hl m4.le) (by rw[hself];exact hsm.2.1) r6 m6;simp only[hself] at e7 app7 st7 r8;obtain ⟨h9,F9,e9,r9,m9⟩:=st7 _ (.inr rfl);rw[ha] at ha7;injection ha7 with ha7;injection ha7 with hb7 hi7;subst hb7;subst hi7;simp only[ld7,Af,Ab,Ag,e7];rw[e6];simp only[Ac,AC,Ab,Aa,Ah,A8,Aw,Ag,AZ];rw[app7];simp only[Ah];rw[MJ r8];simp only[Ac,Ah];rw[e9];rw[zdA] at r9;exact ⟨h9,F9,rfl,by rw[← ha];exact r9,m4.trans m9⟩
end


def noted (me:Int) (log:List Ver) (v:Ver):List Ver:=bif decide (v.tag.time>0)&&(v.tag.place==me && !Bw log v.tag) then log ++ [v] else log
def DI (l:List Node):List Ver:=match l.getLast? with
 | some x=>x.store
 | none => []
def Qm (l:List Node):Bool:=l.all fun x=>decide (x.wait.length=0)
def BL (p:Place):Place:=⟨p.me,p.clock,p.chain,(DI p.chain).foldl (noted p.me) p.log,p.got,p.fell && !Qm p.chain⟩
theorem D2 {l:List Node} (h0:0<l.length):DI l=(l[l.length - 1]'(by omega)).store:=by unfold DI;rw[zc5,Dd (by omega)]
theorem XR {me:Int}{log:List Ver}{v:Ver}:(noted me log v).length≤log.length+1:=by unfold noted;cases decide (v.tag.time>0)&&(v.tag.place==me && !Bw log v.tag)<;>simp
section
variable {lo:Nat}{h:Heap}{F F':List Nat}{a a':Pq}{c c':Nq}
theorem Lc {l:List Ver}{t p:Int}{ro:Bool} (hs:RVers ro h [.sl 6 a l.length c] l F) (hn:l.length≤1048576) :
  Ae lo 182 [.sl 6 a l.length c,.agg [Iv t,Iv p]] h=some (.bool (Bw l ⟨t,p⟩),h):=by
 refine OS (h':=h) ?_;have loop:∀ m i,m+i=l.length→Co h.length a l.length c false (i:Nat) t p h=some (.bool ((l.drop i).any fun v=>v.tag.time==t&&v.tag.place==p),h):=by
  intro m;induction m with
  | zero =>intro i hi;rw[Co.e,Ai (by omega),zcK (by omega)];rfl
  | succ m ih =>
   intro i hi;have hil:i<l.length:=by omega
   obtain ⟨o,s,_,_,_,ha,_,_,_,_,_,_,ho,_⟩:=RVers.all hs hil;rw[Co.e,Ak (by omega),Ad hil];simp only[ha,Af,A7,ho,Ab,Aa,Ag,zcT];rw[Am (show i<9223372036854775807 by omega),← ha,ih (i+1) (by omega),zca hil,zdu];cases (l[i].tag.time==t&&l[i].tag.place==p)<;>rfl
 exact loop l.length 0 (by omega)
theorem Og {p:Place}{a1 a2 a3:Pq}{c1 c2 c3:Nq}{F1 F2:List Nat} (hs1:RNodes false h [.sl 2 a1 p.chain.length c1] p.chain F1) (hs2:RVers false h [.sl 6 a2 p.log.length c2] p.log F2)
  (h0:0<p.chain.length) (h4:(DI p.chain).length=4) (hd:∀ b∈F1,b∉F2) (hnd:F2.Nodup) (hlo:∀ b∈F2,lo≤b) (hl:lo≤h.length) (hcl:p.chain.length≤1048576) (hlog:p.log.length≤1000000) (hvn:∀ v∈DI p.chain,v.past.length≤1048576) :
  ∃ a2' c2' h' F2',Ae lo 104 [.agg (p.cs a1 c1 a2 c2 a3 c3)] h=some (.agg ((BL p).cs a1 c1 a2' c2' a3 c3),h')∧RVers false h' [.sl 6 a2' (BL p).log.length c2'] (BL p).log F2'∧Mv h F2 h' F2':=by
 obtain ⟨o,s1,s2,b1,d1,b2,d2,G1,G2,ha,_,ho1,_,e1,_,q1,_,q3,_⟩:=hs1.get (show p.chain.length - 1<p.chain.length by omega);rw[D2 h0] at h4 hvn;have two:∀ (hh:Heap) (F':List Nat) (ax:Pq) (nx:Nat) (cx:Nq),Mv h F2 hh F'→∀ m i (b:Bool),m+i=p.chain.length →
   BN lo b (i:Nat) p.me p.clock a1 p.chain.length c1 ax nx cx a3 p.got.length c3 p.fell 0 0 0 none 0 (some 0) 0 none 0 (some 0) 0 none 0 (some 0) false hh=some (.agg [Iv p.me,Iv p.clock,.sl 2 a1 p.chain.length c1,.sl 6 ax nx cx,.sl 1 a3 p.got.length c3,.bool (p.fell && !(b&&(p.chain.drop i).all fun x=>decide (x.wait.length=0)))],hh):=by
  intro hh F' ax nx cx hm m;induction m with
  | zero =>intro i b hi;rw[BN.e,Ai (by omega),zcK (by omega)];cases p.fell<;>cases b<;>rfl
  | succ m ih =>
   intro i b hi;have hil:i<p.chain.length:=by omega
   obtain ⟨o',_,_,_,_,_,_,_,_,ha',_,_,ho2',_,e2',_⟩:=(hm.keep rnodes_ok hs1 hd).get hil;rw[BN.e,Ak (by omega),Am (show i<9223372036854775807 by omega)];cases b with
   | false=>rw[Au,ih (i+1) false (by omega)];rfl
   | true =>rw[An,Ad hil];simp only[ha',Af,A7,ho2',Ab,Ag,e2'];rw[← ha',ih (i+1) true (by omega),ih (i+1) false (by omega),zca hil,List.all_cons,show (((p.chain[i].wait.length:Nat):Int)==0)=decide (p.chain[i].wait.length=0) by rw[zcX,beq_iff_eq,decide_eq_true_eq];omega];cases decide (p.chain[i].wait.length=0)<;>rfl
 have one:∀ m i,m+i=4→∀ hh ax cx (lg:List Ver) Fx,RVers false hh [.sl 6 ax lg.length cx] lg Fx→Mv h F2 hh Fx→lg.length≤1000000+i→∃ a' c' h' F',
   BO lo (i:Nat) p.me p.clock a1 p.chain.length c1 ax lg.length cx a3 p.got.length c3 p.fell 0 0 0 none 0 (some 0) 0 none 0 (some 0) 0 none 0 (some 0) false b1 (p.chain[p.chain.length - 1]'(by omega)).store.length d1 hh =
    BN lo true 0 p.me p.clock a1 p.chain.length c1 a' (((p.chain[p.chain.length - 1]'(by omega)).store.drop i).foldl (noted p.me) lg).length c' a3 p.got.length c3 p.fell 0 0 0 none 0 (some 0) 0 none 0 (some 0) 0 none 0 (some 0) false h' ∧
   RVers false h' [.sl 6 a' (((p.chain[p.chain.length - 1]'(by omega)).store.drop i).foldl (noted p.me) lg).length c'] (((p.chain[p.chain.length - 1]'(by omega)).store.drop i).foldl (noted p.me) lg) F'∧Mv h F2 h' F':=by
  intro m;induction m with
  | zero =>intro i hi hh ax cx lg Fx hr hm hlen;rw[BO.e,Ai (by omega),zcK (by omega)];exact ⟨ax,cx,hh,Fx,rfl,hr,hm⟩
  | succ m ih =>
   intro i hi hh ax cx lg Fx hr hm hlen;have hil:i<(p.chain[p.chain.length - 1]'(by omega)).store.length:=by omega
   have q1':=hm.keep rvers_ok q1 fun y hy=>hd y (q3 y hy);obtain ⟨o',s',b',d',G',ha',_,_,_,_,_,_,_,ho',es',hp',_⟩:=RVers.all q1' hil;rw[zca hil,zcA];rw[BO.e,Ak (by omega),Ad hil];simp only[ha',Af,A7,ho',Ab,Aa,es',A8,Aw,Ag];rw[← ha',Am (show i<9223372036854775807 by omega),Lc hr (by omega)];simp only[Ac,Av];have stay:=ih (i+1) (by omega) hh ax cx lg Fx hr hm (by omega);have hno:=@noted.eq_1 p.me lg ((p.chain[p.chain.length - 1]'(by omega)).store[i]'hil);cases g1:decide (((p.chain[p.chain.length - 1]'(by omega)).store[i]'hil).tag.time>0) with
   | false=>rw[Au,hno,g1];exact stay
   | true =>
   rw[An];cases g2:(((p.chain[p.chain.length - 1]'(by omega)).store[i]'hil).tag.place==p.me) with
   | false=>rw[Au,hno,g1,g2];exact stay
   | true =>
   rw[An];cases g3:Bw lg ((p.chain[p.chain.length - 1]'(by omega)).store[i]'hil).tag with
   | true=>rw[An,hno,g1,g2,g3];exact stay
   | false =>
   rw[Au,hno,g1,g2,g3];obtain ⟨a3',c3',h3,F3,e3,r3,m3⟩:=CO (lo:=lo) (v:=((p.chain[p.chain.length - 1]'(by omega)).store[i]'hil)) hp' (zbN hl hm.le) (hvn _ (zbO hil));obtain ⟨a5,c5,h5,F5,e5,r5,m5⟩:=D9 (lo:=lo) (bytes:=72) (e:=34) rver_ok hr (row:=((p.chain[p.chain.length - 1]'(by omega)).store[i]'hil).cs a3' c3') (x:=((p.chain[p.chain.length - 1]'(by omega)).store[i]'hil)) (G:=F3) (h1:=h3 ++ [.rows 6 34 false [((p.chain[p.chain.length - 1]'(by omega)).store[i]'hil).cs a3' c3']])
    ⟨_,rfl,Mv.snoc.keep0 rtags_ok r3⟩ (m3.trans (Mv.snoc' m3.nd)) hm.nd (fun y hy=>hm.ge hl hlo y hy) (zbN hl hm.le) (by decide) (by omega)
   rw[e3];simp only[Ac,AC,Ab,Aa,Ah,A8,Aw,Ag,AZ];rw[e5];simp only[Ah];have:=ih (i+1) (by omega) h5 a5 c5 (lg ++ [((p.chain[p.chain.length - 1]'(by omega)).store[i]'hil)]) F5 (by rw[zbX];exact r5) (hm.trans m5) (by simp;omega);rw[zbX] at this;exact this
 obtain ⟨a',c',h',F',el,r,m⟩:=one 4 0 (by omega) h a2 c2 p.log F2 hs2 (Mv.refl hnd) (by omega);refine ⟨a',c',h',F',Ru ?_,?_,m⟩
 ·rw[Cl ⟨by rw[wr (by omega) (by omega)];omega,by rw[wr (by omega) (by omega)];omega⟩,wr (by omega) (by omega),show ((p.chain.length:Int) - 1).toNat=p.chain.length - 1 by omega];simp only[ha,Af,ho1,Ab,e1,Ag];rw[← ha];refine el.trans ?_;have:=two h' F' a' (((p.chain[p.chain.length - 1]'(by omega)).store.drop 0).foldl (noted p.me) p.log).length c' m p.chain.length 0 true (by omega);refine this.trans ?_;simp only[BL,Place.cs,D2 h0,zcW,zb8,Qm]
 ·simp only[BL,D2 h0];rw[zcW] at r;exact r
end


variable {l:List Node}
theorem Mv.store {h h':Heap}{F F':List Nat}{b:Nat} (m:Mv h F h' F') (hb:b<h.length) (hbF:b∉F) (X:Blk) :
  Mv h (b :: F) (h'.set b X) (b :: F')∧(h'.set b X)[b]?=some X∧(∀ y,y≠b→(h'.set b X)[y]?=h'[y]?)∧b∉F':=by
 have hbF':b∉F':=fun hm=>by
  rcases m.sub b hm with g | g
  ·exact hbF g
  ·omega
 have hb':b<h'.length:=zb1 hb m.le;refine ⟨⟨by simpa using m.le,fun y hy hF=>?_,by rw[zbV];exact ⟨hbF',m.nd⟩,fun y hy=>?_⟩,by simp[hb'],fun y hy=>zbU (Ne.symm hy),hbF'⟩
 ·rw[zb0,not_or] at hF;rw[zbU (Ne.symm hF.1)];exact m.fr y hy hF.2
 ·rw[zb0] at hy;rcases hy with rfl | hy
  ·exact .inl (by simp)
  ·refine (m.sub y hy).imp (fun g=>by simp[g]) fun g=>by simpa using g
section
variable {lo:Nat}{ro:Bool}{h:Heap}{F F':List Nat}{a a':Pq}{c c':Nq}
theorem Ng {g:Nat}{cl:List V}{p:Node→Bool} (hs:RNodes ro h [.sl 2 a l.length c] l F) (hn:l.length≤1048576)
  (hp:∀ lo x a1 c1 a2 c2,x∈l→Ae lo g (Dh [.agg [.sl 6 a1 x.store.length c1,.sl 6 a2 x.wait.length c2]] cl) h=some (.bool (p x),h)) :
  Ae lo 265 [.sl 2 a l.length c,.fn g cl] h=some (.bool (l.any p),h):=by
 have loop:∀ m k x,m+k=l.length→AA (List.length h) a l.length c g cl x (l.length:Nat) (k:Nat) h=some (Iv (Cm p (l.drop k) k),h):=by
  intro m;induction m with
  | zero =>intro k x hk;rw[AA.e,Ai (by omega),show k=l.length by omega];simp[Cm]
  | succ m ih =>
   intro k x hk;have hlt:k<l.length:=by omega
   obtain ⟨o,s1,s2,b1,d1,b2,d2,G1,G2,rfl,ho,_,_,e1,e2,_⟩:=hs.get hlt;rw[AA.e,Ak (by omega),Ad (by omega)];simp only[Af,A7,ho,Ab,e1,e2,Ag];rw[hp (List.length h) l[k] b1 d1 b2 d2 (zbO hlt),Ac,Av,zca hlt];simp only[Cm];cases p l[k]
   ·simp only[Au,cond_false];rw[Am (by omega)];exact ih (k+1) _ (by omega)
   ·simp
 exact Ef (h':=h) (by rw[EL (loop l.length 0 0 (by omega))];simp only[Ac,Aa,Po];rw[IU];simp)
theorem Zd:(l.any fun x=>decide (x.wait.length>0)) = !Qm l:=by
 unfold Qm;induction l with
 | nil=>rfl
 | cons x l ih =>rw[zdu,List.all_cons,ih,Bool.not_and];congr 1;rw[zcX,zcy,decide_eq_true_eq,decide_eq_false_iff_not];omega
theorem UT {p:Place}{b:Nat}{a1 a2 a3:Pq}{c1 c2 c3:Nq}{F1 F2:List Nat} (hb:h[b]?=some (.rows 6 49 false [p.cs a1 c1 a2 c2 a3 c3])) (hs1:RNodes false h [.sl 2 a1 p.chain.length c1] p.chain F1) (hs2:RVers false h [.sl 6 a2 p.log.length c2] p.log F2)
  (h0:0<p.chain.length) (h4:(DI p.chain).length=4) (hd:∀ y∈F1,y∉b :: F2) (hnd:(b :: F2).Nodup) (hlo:∀ y∈b :: F2,lo≤y) (hl:lo≤h.length) (hcl:p.chain.length≤1048576) (hlog:p.log.length≤1000000) (hvn:∀ v∈DI p.chain,v.past.length≤1048576)
  (htag:∀ v∈DI p.chain,A2 v.tag.time v.tag.place=true) :
  ∃ a2' c2' h' F2',Ae lo 189 [.ptr (some (b,(0,0)))] h=some (.tup [],h')∧h'[b]?=some (.rows 6 49 false [(BL p).cs a1 c1 a2' c2' a3 c3])∧RVers false h' [.sl 6 a2' (BL p).log.length c2'] (BL p).log F2'∧Mv h (b :: F2) h' (b :: F2'):=by
 have hblt:b<h.length:=(Fh hb).1;have hlob:=hlo b (by simp);have hld2:ld h b 0 (0+2) 1=some [.sl 2 a1 p.chain.length c1]:=by rw[BB hb rfl];rfl
 obtain ⟨b1,d1,G1,e1,q1,q3⟩:=NC (lo:=lo) hld2 hs1 h0 hcl;rw[D2 h0] at h4 hvn htag;have one:∀ m i,m+i=4→∀ hh ax cx (lg:List Ver) Fx,hh[b]?=some (.rows 6 49 false [[Iv p.me,Iv p.clock,.sl 2 a1 p.chain.length c1,.sl 6 ax lg.length cx,.sl 1 a3 p.got.length c3,.bool p.fell]])→RVers false hh [.sl 6 ax lg.length cx] lg Fx→Mv h (b :: F2) hh (b :: Fx)→lg.length≤1000000+i→∃ a' c' h' F',
   AU lo b 0 0 b1 (p.chain[p.chain.length - 1]'(by omega)).store.length d1 ((p.chain[p.chain.length - 1]'(by omega)).store.length:Nat) (i:Nat) hh =
    AU lo b 0 0 b1 (p.chain[p.chain.length - 1]'(by omega)).store.length d1 ((p.chain[p.chain.length - 1]'(by omega)).store.length:Nat) (4:Nat) h' ∧
   h'[b]?=some (.rows 6 49 false [[Iv p.me,Iv p.clock,.sl 2 a1 p.chain.length c1,.sl 6 a' (((p.chain[p.chain.length - 1]'(by omega)).store.drop i).foldl (noted p.me) lg).length c',.sl 1 a3 p.got.length c3,.bool p.fell]]) ∧
   RVers false h' [.sl 6 a' (((p.chain[p.chain.length - 1]'(by omega)).store.drop i).foldl (noted p.me) lg).length c'] (((p.chain[p.chain.length - 1]'(by omega)).store.drop i).foldl (noted p.me) lg) F'∧Mv h (b :: F2) h' (b :: F'):=by
  intro m;induction m with
  | zero =>intro i hi hh ax cx lg Fx hbb hr hm hlen;rw[zcK (by omega),show i=4 by omega];exact ⟨ax,cx,hh,Fx,rfl,hbb,hr,hm⟩
  | succ m ih =>
   intro i hi hh ax cx lg Fx hbb hr hm hlen;have hil:i<(p.chain[p.chain.length - 1]'(by omega)).store.length:=by omega
   have q1':=hm.keep rvers_ok q1 fun y hy=>hd y (q3 y hy);obtain ⟨o',s',b',d',G',ha',_,_,_,_,_,_,_,ho',es',hp',_⟩:=RVers.all q1' hil;have hmem:=zbO hil;have ht0:=VB (htag _ hmem);have stay:=ih (i+1) (by omega) hh ax cx lg Fx hbb hr hm (by omega);have hno:=@noted.eq_1 p.me lg ((p.chain[p.chain.length - 1]'(by omega)).store[i]'hil);have l0:ld hh b 0 (0+0) 1=some [Iv p.me]:=by rw[BB hbb rfl];rfl
   have l3:ld hh b 0 (0+3) 1=some [.sl 6 ax lg.length cx]:=by rw[BB hbb rfl];rfl
   rw[zca hil,zcA];generalize hx:((p.chain[p.chain.length - 1]'(by omega)).store[i]'hil)=x at *
   rw[AU.e,Ak (by omega),Ad hil];simp only[ha',Af,A7,ho',Ab,Aa,es',A8,Aw,Ag,l0,l3,Ah];rw[← ha',Am (show i<9223372036854775807 by omega),OC hr (by omega),zcT];simp only[Ac,Av,l3,Af,Ab,Ag,Ah];cases g1:decide (x.tag.time>0) with
   | false =>rw[g1,Bool.not_eq_false'] at ht0;rw[ht0,An,hno,g1];exact stay
   | true =>
   rw[g1,zcy] at ht0;rw[ht0,Au];cases g2:(x.tag.place==p.me) with
   | false=>rw[Au,hno,g1,g2];exact stay
   | true =>
   rw[An];cases g3:Bw lg x.tag with
   | true=>rw[An,hno,g1,g2,g3];exact stay
   | false =>
   rw[Au,hno,g1,g2,g3];have hnx:=hm.nd;rw[zbV] at hnx;obtain ⟨a3',c3',h3,F3,e3,r3,m3⟩:=CV (lo:=hh.length) (v:=x) hp' (zbR _) (hvn _ hmem);obtain ⟨a5,c5,h5,F5,e5,r5,m5⟩:=D9 (lo:=lo) (bytes:=72) (e:=34) rver_ok hr (row:=x.cs a3' c3') (x:=x) (G:=F3) (h1:=h3 ++ [.rows 6 34 false [x.cs a3' c3']])
    ⟨_,rfl,Mv.snoc.keep0 rtags_ok r3⟩ (m3.trans (Mv.snoc' m3.nd)) hnx.2 (fun y hy=>hm.ge hl hlo y (by simp[hy])) (zbN hl hm.le) (by decide) (by omega)
   have hblth:b<hh.length:=zb1 hblt hm.le;have hb5:h5[b]?=hh[b]?:=m5.fr b hblth hnx.1;rw[hbb] at hb5;have e6:=DA (cs := [.sl 6 a5 (lg.length+1) c5]) (j:=0+3) (r:=0) (row := [Iv p.me,Iv p.clock,.sl 2 a1 p.chain.length c1,.sl 6 ax lg.length cx,.sl 1 a3 p.got.length c3,.bool p.fell]) hb5 hlob rfl (Jf (by simp));obtain ⟨m6,b6,k6,n6⟩:=m5.store hblth hnx.1 (.rows 6 49 false [[Iv p.me,Iv p.clock,.sl 2 a1 p.chain.length c1,.sl 6 a5 (lg.length+1) c5,.sl 1 a3 p.got.length c3,.bool p.fell]]);rw[e3];simp only[Ac,AC,Ab,Aa,Ah,A8,Aw,Ag,AZ];rw[e5];simp only[Ah];rw[e6];simp only[Af];have:=ih (i+1) (by omega) (h5.set b (.rows 6 49 false [[Iv p.me,Iv p.clock,.sl 2 a1 p.chain.length c1,.sl 6 a5 (lg.length+1) c5,.sl 1 a3 p.got.length c3,.bool p.fell]])) a5 c5 (lg ++ [x]) F5 (by rw[zbX];exact b6) (by rw[zbX];exact rvers_ok.fr _ _ _ _ _ r5 fun y hy=>k6 y fun e=>n6 (e ▸ hy)) (hm.trans m6) (by simp;omega);exact this
 obtain ⟨a',c',h',F',el,hb',r,m⟩:=one 4 0 (by omega) h a2 c2 p.log F2 hb hs2 (Mv.refl hnd) (by omega);rw[zcW] at hb' r;generalize hres:(p.chain[p.chain.length - 1]'(by omega)).store.foldl (noted p.me) p.log=res at hb' r;have hnl:(BL p).log=res:=by simp only[BL,D2 h0,hres]
 have hblt':b<h'.length:=zb1 hblt m.le;have hnx:=m.nd;rw[zbV] at hnx;have l3:ld h' b 0 (0+3) 1=some [.sl 6 a' res.length c']:=by rw[BB hb' rfl];rfl
 have e6:=DA (cs := [.sl 6 a' res.length (some res.length)]) (j:=0+3) (r:=0) (row := [Iv p.me,Iv p.clock,.sl 2 a1 p.chain.length c1,.sl 6 a' res.length c',.sl 1 a3 p.got.length c3,.bool p.fell]) hb' hlob rfl (Jf (by simp));obtain ⟨m6,b6,k6,n6⟩:=(Mv.refl (h:=h') hnx.2).store hblt' hnx.1 (.rows 6 49 false [[Iv p.me,Iv p.clock,.sl 2 a1 p.chain.length c1,.sl 6 a' res.length (some res.length),.sl 1 a3 p.got.length c3,.bool p.fell]]);generalize hh6:h'.set b (.rows 6 49 false [[Iv p.me,Iv p.clock,.sl 2 a1 p.chain.length c1,.sl 6 a' res.length (some res.length),.sl 1 a3 p.got.length c3,.bool p.fell]])=h6 at m6 b6 k6;have e6':st lo h' b 0 (0+3) [.sl 6 a' res.length (some res.length)]=some h6:=by rw[← hh6];exact e6
 have r6:RVers false h6 [.sl 6 a' res.length (some res.length)] res F':=rvers_ok.fr _ _ _ _ _ r.clip fun y hy=>k6 y fun e=>hnx.1 (e ▸ hy);have l2:ld h6 b 0 (0+2+0) 1=some [.sl 2 a1 p.chain.length c1]:=by rw[BB b6 rfl];rfl
 have m7:=m.trans m6;have ec:=Ng (lo:=lo) (g:=266) (cl := []) (p:=fun x=>decide (x.wait.length>0)) (m7.keep rnodes_ok hs1 hd) hcl (fun lo x a1 c1 a2 c2 _=>J6 (h':=h6) (by
  by_cases hw:x.wait.length>0
  ·rw[Ak (by omega),decide_eq_true hw]
  ·rw[Ai (by omega),decide_eq_false hw]))
 rw[Zd] at ec;suffices hq:∃ a2' c2' h' F2',_=some (V.tup [],h')∧h'[b]?=some (.rows 6 49 false [(BL p).cs a1 c1 a2' c2' a3 c3])∧RVers false h' [.sl 6 a2' (BL p).log.length c2'] (BL p).log F2'∧Mv h (b :: F2) h' (b :: F2') from hq.imp fun _ hq=>hq.imp fun _ hq=>hq.imp fun _ hq=>hq.imp fun _ hq=>⟨K8 hq.1,hq.2⟩
 rw[e1];simp only[Ac,AC,Ab,Ah,Ag];rw[show (0:Int)=((0:Nat):Int) from rfl,el,AU.e,Ai (by omega)];simp only[l3,Af,Ab,Ah,Ag];rw[MJ r];simp only[Ac,Ah];rw[e6'];simp only[Af,l2,Ab,Ah,Ag];rw[ec];simp only[Ac,Av];have hcs:∀ f:Bool,f=(p.fell && !Qm p.chain)→([Iv p.me,Iv p.clock,.sl 2 a1 p.chain.length c1,.sl 6 a' res.length (some res.length),.sl 1 a3 p.got.length c3,.bool f]:List V)=(BL p).cs a1 c1 a' (some res.length) a3 c3:=by intro f hf;simp only[Place.cs,hnl];rw[hf];rfl
 cases hi:Qm p.chain with
 | false =>rw[hi] at hcs;rw[zcR,An];refine ⟨a',some res.length,h6,F',rfl,?_,by rw[hnl];exact r6,m7⟩;rw[b6,hcs p.fell (by simp)]
 | true =>rw[hi] at hcs;rw[zcE,Au];have e8:=DA (cs := [.bool false]) (j:=0+5) (r:=0) (row := [Iv p.me,Iv p.clock,.sl 2 a1 p.chain.length c1,.sl 6 a' res.length (some res.length),.sl 1 a3 p.got.length c3,.bool p.fell]) b6 hlob rfl (Jf (by simp));obtain ⟨m8,b8,k8,n8⟩:=(Mv.refl (h:=h6) hnx.2).store (zb1 hblt m7.le) hnx.1 (.rows 6 49 false [[Iv p.me,Iv p.clock,.sl 2 a1 p.chain.length c1,.sl 6 a' res.length (some res.length),.sl 1 a3 p.got.length c3,.bool false]]);rw[e8];simp only[Af];refine ⟨a',some res.length,_,F',rfl,?_,by rw[hnl];exact rvers_ok.fr _ _ _ _ _ r6 fun y hy=>k8 y fun e=>hnx.1 (e ▸ hy),m7.trans m8⟩;rw[← hcs false (by simp)];exact b8
end


variable {v:Ver}{l:List Ver}{x:Node}{p:Place}{nw:Nat}
def thin (v:Ver):Prop:=v.past.length≤4∧v.text.size≤8∧A2 v.tag.time v.tag.place=true
def FW (nw:Nat) (x:Node):Prop:=x.store.length=4∧x.wait.length≤nw∧(∀ v∈x.store,thin v)∧∀ v∈x.wait,thin v
structure Tidy (nc nw nl:Nat) (p:Place):Prop where
 len:p.chain.length≤nc
 node:∀ x∈p.chain,FW nw x
 log:p.log.length≤nl∧∀ v∈p.log,thin v
 got:p.got.length≤3∧∀ l∈p.got,l.length≤nl∧∀ v∈l,thin v
theorem II (h:A3 v=true):thin v:=by obtain ⟨_,h2,_,h3,h4,_⟩:=AN h;have:=DW h2;have:=BK h3;exact ⟨by omega,by omega,h4⟩
theorem XA (h:Fb v=true):thin v:=by rw[KG h];exact ⟨by simp,by show 0≤8;omega,rfl⟩
theorem SW {i:Nat} (h:Hw i v=true):thin v:=(CB h).elim XA fun h=>II h.1
theorem HY {m:Int} (h:Ea m l=true):l.length≤60∧∀ i (hi:i<l.length),A3 l[i]=true∧l[i].tag.place=m∧Bw (l.take i) l[i].tag=false:=by unfold Ea at h;rw[Dm,EJ,decide_eq_true_eq] at h;refine ⟨by omega,fun i hi=>?_⟩;have:=h.1 i hi;simp only[Mp,Dm,beq_iff_eq,zcy] at this;exact ⟨this.1.1,this.1.2,this.2⟩
theorem UL {m:Int} (h:Ea m l=true):l.length≤60∧∀ v∈l,thin v:=by obtain ⟨h1,h2⟩:=HY h;refine ⟨h1,fun v hv=>?_⟩;obtain ⟨i,hi,rfl⟩:=zcu.1 hv;exact II (h2 i hi).1
theorem KN (h:B6 x=true):FW 6 x:=by obtain ⟨h1,h2,h3⟩:=Ay h;refine ⟨AQ h1,h2,fun v hv=>?_,fun v hv=>II (h3 v hv)⟩;obtain ⟨i,hi,rfl⟩:=zcu.1 hv;exact SW (Cb h1 hi)
theorem AK (h:Ao p=true):(0≤p.me∧p.me≤2)∧(0≤p.clock∧p.clock≤999)∧p.got.length=3∧Cz p.chain=true∧Ed p.chain=true∧Ea p.me p.log=true ∧
  (∀ i (hi:i<p.got.length),IR p.me i p.got[i]=true)∧D3 p.chain p.clock=true:=by
 unfold Ao at h;simp only[Dm,EJ,decide_eq_true_eq,Al] at h;obtain ⟨⟨⟨⟨⟨⟨⟨h1,h2⟩,h3⟩,h4⟩,h5⟩,h6⟩,h7⟩,h8⟩:=h;exact ⟨h1,h2,h3,h4,h5,h6,h7,h8⟩
theorem Ti (h:Ao p=true) {i:Nat} (hi:i<p.got.length):Ea i p.got[i]=true:=by have:=(AK h).2.2.2.2.2.2.1 i hi;unfold IR at this;rw[Dm] at this;exact this.1
theorem Cg (h:Ao p=true):Tidy 4 6 60 p:=by obtain ⟨_,_,h3,h4,_,h6,h7,_⟩:=AK h;obtain ⟨g1,g2⟩:=BY h4;refine ⟨g1.2,fun x hx=>KN (g2 x hx),UL h6,by omega,fun l hl=>?_⟩;obtain ⟨i,hi,rfl⟩:=zcu.1 hl;exact UL (Ti h hi)
theorem Pg {α:Type}{w:α→Nat}{c:Nat}:∀ {l:List α},(∀ v∈l,w v≤c)→Y0 w l≤c*l.length
 | [],_=>by simp[Y0]
 | x :: l,h=>by have h1:=Pg (w:=w) (l:=l) fun v hv=>h v (by simp[hv]);have h2:=h x (by simp);simp only[Y0,List.map_cons,List.sum_cons,zcF,Nat.mul_add,Nat.mul_one] at h1 ⊢;omega
theorem zaU (h:thin v):zaR v≤13:=by have:=h.1;unfold zaR;rw[WU];omega
theorem Pe (hl:l.length≤1048576) (h:∀ v∈l,thin v):Cy l:=⟨hl,fun v hv=>by have:=h v hv;exact ⟨by have:=this.1;omega,by have:=this.2.1;omega⟩⟩
theorem Pd (h:∀ v∈l,thin v):Ub l≤13*l.length:=Pg fun v hv=>zaU (h v hv)
theorem zaa (h:FW nw x) (hw:nw≤100):Cy x.store∧Cy x.wait:=by obtain ⟨h1,h2,h3,h4⟩:=h;exact ⟨Pe (by omega) h3,Pe (by omega) h4⟩
theorem zaY (h:FW nw x) (hw:nw≤100):Yx x≤1352:=by obtain ⟨h1,h2,h3,h4⟩:=h;have:=Pd h3;have:=Pd h4;unfold Yx;omega
theorem Ud {nc nl:Nat} (h:Tidy nc nw nl p) (h1:nc≤100) (h2:nw≤100):Ci p.chain:=⟨by have:=h.len;omega,fun x hx=>zaa (h.node x hx) h2⟩
theorem Fe {nc nl:Nat} (h:Tidy nc nw nl p) (h1:nc≤100) (h2:nw≤100) (h3:nl≤1000):CT p∧(1:Int)+Yv p≤zbK:=by
 have g1:=h.len;have g2:=h.log.1;have g3:=h.got.1;refine ⟨⟨Ud h h1 h2,Pe (by omega) h.log.2,by omega,fun l hl=>Pe (by have:=(h.got.2 l hl).1;omega) (h.got.2 l hl).2⟩,?_⟩;have e1:Yw p.chain≤1352*p.chain.length:=Pg fun x hx=>zaY (h.node x hx) h2;have e2:=Pd h.log.2;have e3:zbl p.got≤13000*p.got.length:=Pg fun l hl=>by have:=Pd (h.got.2 l hl).2;have:=(h.got.2 l hl).1;omega
 simp only[Yv,zbK];omega
theorem Ue {nc nl k:Nat}{t:Int} (h:Tidy nc nw nl p) (hv:thin v):Tidy nc (nw+1) nl ⟨p.me,t,HC p.chain k v,p.log,p.got,p.fell⟩:=by
 have hx:∀ x,x∈p.chain→FW (nw+1) x:=fun x hx=>by obtain ⟨g1,g2,g3⟩:=h.node x hx;exact ⟨g1,by omega,g3⟩
 have key:(HC p.chain k v).length≤nc∧∀ x∈HC p.chain k v,FW (nw+1) x:=by
  unfold HC;split
  ·rename_i x hk
   split
   ·rename_i u hu
    cases AT u v with
    | false=>exact ⟨h.len,hx⟩
    | true =>
     rw[cond_true];refine ⟨by simpa using h.len,fun y hy=>?_⟩;rcases zcb hy with hy | rfl
     ·exact hx y hy
     ·obtain ⟨g1,g2,g3,g4⟩:=h.node x (zcc hk);refine ⟨by simpa using g1,?_,fun w hw=>?_,?_⟩
      ·cases decide (k+1<p.chain.length)
       ·show x.wait.length≤nw+1;omega
       ·show (x.wait ++ [v]).length≤nw+1;simp;omega
      ·rcases zcb hw with hw | rfl
       ·exact g3 w hw
       ·exact hv
      ·cases decide (k+1<p.chain.length)
       ·exact g4
       ·intro w hw;rcases zbP.1 hw with hw | hw
        ·exact g4 w hw
        ·rw[zbW] at hw;subst hw;exact hv
   ·exact ⟨h.len,hx⟩
  ·exact ⟨h.len,hx⟩
 exact ⟨key.1,key.2,h.log,h.got⟩
theorem Lv {l:List Node} (h0:0<l.length):∃ x∈l,DI l=x.store:=⟨_,zbO (show l.length - 1<l.length by omega),D2 h0⟩


variable {l:List Node}{p:Place}{v:Ver}
def IO (s:List Ver) (v:Ver):Bool:=match s[v.key.toNat]? with
 | some u=>AT u v
 | none=>false
def Gc (l:List Node):List Ver:=match l[0]? with
 | some x=>x.store
 | none => []
def EW (l:List Node) (k:Nat):Bool:=match l[k]? with
 | some x=>decide (x.wait.length<6)
 | none=>false
def J3 (p:Place) (f:Nat):List Ver:=match p.got[f]? with
 | some l=>l
 | none => []
def JL (p:Place) (f:Nat):Option Ver:=(J3 p f).find? (IO (Gc p.chain))
def IC (p:Place) (k:Nat) (t:Int) (v:Ver):Place:=⟨p.me,t,HC p.chain k v,p.log,p.got,p.fell⟩
theorem Qn (h0:0<l.length):Gc l=l[0].store:=by unfold Gc;rw[Dd h0]
theorem Ig {k:Nat} (hk:k<l.length):EW l k=decide (l[k].wait.length<6):=by unfold EW;rw[Dd hk]
theorem Jn {f:Nat} (hf:f<p.got.length):J3 p f=p.got[f]:=by unfold J3;rw[Dd hf]
theorem UN {s:List Ver} (h:v.key.toNat<s.length):IO s v=AT s[v.key.toNat] v:=by unfold IO;rw[Dd h]
theorem MD {α:Type}{p:α→Bool}:∀ {l:List α}{k:Nat},(∃ i,∃ hi:i<l.length,Cm p l k=((k+i:Nat):Int)∧l.find? p=some l[i])∨(Cm p l k = -1∧l.find? p=none)
 | [],k => .inr ⟨rfl,rfl⟩
 | x :: l,k=>by
  simp only[Cm,List.find?_cons];cases hp:p x with
  | true=>exact .inl ⟨0,by simp,by simp,by simp⟩
  | false =>
   rw[cond_false];rcases MD (p:=p) (l:=l) (k:=k+1) with ⟨i,hi,h1,h2⟩ | h
   ·exact .inl ⟨i+1,by simpa using hi,by rw[h1];congr 1;omega,by simpa using h2⟩
   ·exact .inr h
theorem addN_len {k:Nat}:(HC l k v).length=l.length:=by
 unfold HC;split
 ·split
  ·cases AT _ v<;>simp
  ·rfl
 ·rfl
section
variable {lo:Nat}{ro:Bool}{h:Heap}{F F':List Nat}{a a':Pq}{c c':Nq}
theorem Kc (hs:RNodes ro h [.sl 2 a l.length c] l F) (h0:0<l.length):Ae lo 191 [.agg [.sl 2 a l.length c]] h=some (.bool (EW l 0),h):=by
 refine Ry (h':=h) ?_;obtain ⟨o,s1,s2,b1,d1,b2,d2,G1,G2,ha,_,_,ho2,_,e2,_⟩:=hs.get h0;rw[Ig h0,show (0:Int)=((0:Nat):Int) from rfl,Ad h0];simp only[ha,Af,A7,ho2,Ab,e2,Ag];by_cases hw:l[0].wait.length<6
 ·rw[Ak (by omega),decide_eq_true hw]
 ·rw[Ai (by omega),decide_eq_false hw]
theorem X3 {b i j k:Nat} (hld:ld h b i j 1=some [.sl 2 a l.length c]) (hs:RNodes ro h [.sl 2 a l.length c] l F) (hk:k<l.length):Ae lo 201 [.ptr (some (b,(i,j))),Iv (k:Nat)] h=some (.bool (!EW l k),h):=by
 refine Nb (h':=h) ?_;obtain ⟨o,s1,s2,b1,d1,b2,d2,G1,G2,ha,_,_,ho2,_,e2,_⟩:=hs.get hk;rw[zcG,hld];simp only[Af,Ab,Ag,Ah];rw[Ig hk,Ad hk];simp only[ha,Af,A7,ho2,Ab,e2,Ag];by_cases hw:l[k].wait.length<6
 ·rw[Ai (by omega),decide_eq_true hw];rfl
 ·rw[Ak (by omega),decide_eq_false hw];rfl
theorem Mc {f:Nat}{a1 a2 a3:Pq}{c1 c2 c3:Nq}{F1 F3:List Nat} (hs1:RNodes ro h [.sl 2 a1 p.chain.length c1] p.chain F1) (hs3:RVss ro h [.sl 1 a3 p.got.length c3] p.got F3)
  (h0:0<p.chain.length) (hf:f<p.got.length) (hk:∀ v∈p.got[f],0≤v.key∧v.key<(Gc p.chain).length) (hn:p.got[f].length≤1048576) :
  Ae lo 190 [.agg (p.cs a1 c1 a2 c2 a3 c3),Iv (f:Nat)] h=some (Iv (Cm (IO (Gc p.chain)) p.got[f] 0),h):=by
 refine QN (h':=h) ?_;obtain ⟨o,s1,s2,b1,d1,b2,d2,G1,G2,ha,_,ho1,_,e1,_,q1,_⟩:=hs1.get h0;obtain ⟨o3,s3,b3,d3,G3,ha3,ho3,e3,q3,_⟩:=hs3.get hf;rw[Qn h0] at *
 rw[show (0:Int)=((0:Nat):Int) from rfl,Ad h0];simp only[ha,Af,A7,ho1,Ab,e1,Ag];have loop:∀ m i,m+i=p.got[f].length→CC (List.length h) (f:Nat) ((0:Nat):Int) (i:Nat) p.me p.clock a1 p.chain.length c1 a2 p.log.length c2 a3 p.got.length c3 p.fell b1 p.chain[0].store.length d1 h=some (Iv (Cm (IO p.chain[0].store) (p.got[f].drop i) i),h):=by
  intro m;induction m with
  | zero =>intro i hi;rw[CC.e,Ad hf];simp only[ha3,Af,A7,ho3,Ab,e3,Ag];rw[Ai (by omega),zcK (by omega)];rfl
  | succ m ih =>
   intro i hi;have hil:i<p.got[f].length:=by omega
   have hky:=hk _ (zbO hil);have hkl:p.got[f][i].key.toNat<p.chain[0].store.length:=by omega
   obtain ⟨o4,s4,b4,d4,G4,ha4,ho4,e4,q4,_⟩:=q3.get hil;obtain ⟨o5,s5,b5,d5,G5,ha5,_,_,_,_,_,_,ho512,_⟩:=RVers.all q1 hkl;rw[CC.e,Ad hf];simp only[ha3,Af,A7,ho3,Ab,e3,Ag];rw[Ak (by omega),Ad hf,Ad hil];simp only[ha4,Af,A7,ho4,Ab,Aa,e4,A8,Aw,Ag];rw[Cl ⟨by omega,by omega⟩];simp only[ha5,Af,ho512,Ab,Aa,Ag,BI,Ac,Av];rw[← ha3,← ha5,Am (show i<9223372036854775807 by omega),ih (i+1) (by omega),zca hil];simp only[Cm];rw[UN hkl];unfold AT;cases HF _ _ _ _<;>rfl
 have:=loop _ 0 rfl;rw[zcW] at this;rw[← ha];exact this
theorem Me {k:Nat}{t:Int}{a1 a2 a3 av:Pq}{c1 c2 c3 cv:Nq}{F1 F2 G:List Nat} (hs1:RNodes false h [.sl 2 a1 p.chain.length c1] p.chain F1) (hs2:RVers false h [.sl 6 a2 p.log.length c2] p.log F2)
  (hv:RTags false h [.sl 2 av v.past.length cv] v.past G) (hvd:∀ b∈G,b∉F1) (hnd:(F1++F2).Nodup) (hlo:∀ b∈F1++F2,lo≤b) (hl:lo≤h.length) (hk:k<p.chain.length) (hkey:0≤v.key∧v.key≤3)
  (ht:Tidy 10 20 100 p) (hvt:thin v) :
  ∃ h2 a2' c2' h3 F1' F2',Ae lo 193 [.agg [.sl 2 a1 p.chain.length c1],Iv k,.agg (v.cs av cv)] h=some (.agg [.sl 2 a1 p.chain.length c1],h2) ∧
   Ae lo 104 [.agg ((IC p k t v).cs a1 c1 a2 c2 a3 c3)] h2=some (.agg ((BL (IC p k t v)).cs a1 c1 a2' c2' a3 c3),h3) ∧
   RNodes false h3 [.sl 2 a1 (BL (IC p k t v)).chain.length c1] (BL (IC p k t v)).chain F1'∧RVers false h3 [.sl 6 a2' (BL (IC p k t v)).log.length c2'] (BL (IC p k t v)).log F2'∧Mv h (F1++F2) h3 (F1'++F2'):=by
 have ta:=Ue (k:=k) (t:=t) ht hvt;have hn:=Ud ht (by decide) (by decide);have hsto:=(ht.node _ (zbO hk)).1;have hnd':=hnd;rw[zbQ] at hnd';obtain ⟨h2,F1',e2,r2,m2⟩:=Lo (lo:=lo) hs1 hv hvd hnd'.1 (fun b hb=>hlo b (by simp[hb])) hl hk ⟨hkey.1,by omega⟩ hn (by have:=hvt.1;omega);rw[← addN_len (k:=k) (v:=v)] at r2;have b2:∀ y∈F2,y<h.length:=rvers_ok.bd _ _ _ _ hs2;have m3:=m2.aside (G:=F2) hnd b2;have hs2':=m2.keep rvers_ok hs2 fun y hy hm=>hnd'.2.2 y hm y hy rfl;have nd3:=m3.nd;rw[zbQ] at nd3;have h0:0<(IC p k t v).chain.length:=by show 0<(HC p.chain k v).length;rw[addN_len];omega
 obtain ⟨x,hx,hxe⟩:=Lv h0;have hxn:=ta.node x hx;have hl2:=m2.le;obtain ⟨a2',c2',h3,F2',e3,r3,m4⟩:=Og (lo:=lo) (p:=IC p k t v) (a3:=a3) (c3:=c3) r2 hs2' h0 (by rw[hxe];exact hxn.1) (fun y hy hy2=>nd3.2.2 y hy y hy2 rfl) hnd'.2.1 (fun b hb=>hlo b (by simp[hb])) (by omega) (zbN ta.len (by decide)) (zbN ta.log.1 (by decide))
  (fun w hw=>by rw[hxe] at hw;have:=(hxn.2.2.1 w hw).1;omega)
 have r2':=m4.keep rnodes_ok r2 fun y hy hy2=>nd3.2.2 y hy y hy2 rfl;have b1:∀ y∈F1',y<h2.length:=rnodes_ok.bd _ _ _ _ r2;have m5:=(m4.aside (G:=F1') (by rw[zbQ];exact ⟨nd3.2.1,nd3.1,fun x hx y hy e=>nd3.2.2 y hy x hx e.symm⟩) b1).swap;exact ⟨h2,a2',c2',h3,F1',F2',e2,e3,r2',r3,m3.trans m5⟩
end


def GH (t c:Int):Int:=if t>c then t else c
theorem YB {h h1 h2:Heap}{b:Nat}{G1 G1' G2 G2' G3:List Nat} (m1:Mv h G1 h1 G1') (m2:Mv h1 (b :: G2) h2 (b :: G2')) (hnd:(b ::(G1++(G2++G3))).Nodup) (hb:∀ y∈b ::(G1++(G2++G3)),y<h.length) :
  Mv h (b ::(G1++(G2++G3))) h2 (b ::(G1'++(G2'++G3)))∧(∀ y∈G1',y∉b :: G2)∧(∀ y∈G3,y∉G1)∧∀ y∈G3,y∉b :: G2:=by
 rw[zbV,zbQ,zbP,zbP,zbQ] at hnd;obtain ⟨n1,n2,⟨n3,n4,n5⟩,n6⟩:=hnd;simp only[not_or] at n1;have hbb:=hb b (by simp);have hb1:∀ y∈G1,y<h.length:=fun y hy=>hb y (by simp[hy]);have hb2:∀ y∈G2,y<h.length:=fun y hy=>hb y (by simp[hy]);have hb3:∀ y∈G3,y<h.length:=fun y hy=>hb y (by simp[hy]);have l1:=m1.le;have l2:=m2.le;have d1:∀ y∈G1',y∉b :: G2:=fun y hy hm=>by
  rcases m1.sub y hy with g | g
  ·rcases zb0.1 hm with rfl | hm
   ·exact n1.1 g
   ·exact n6 y g y (by simp[hm]) rfl
  ·rcases zb0.1 hm with rfl | hm
   ·omega
   ·have:=hb2 y hm;omega
 have d2:∀ y∈G3,y∉G1:=fun y hy hm=>n6 y hm y (by simp[hy]) rfl;have d3:∀ y∈G3,y∉b :: G2:=fun y hy hm=>by
  rcases zb0.1 hm with rfl | hm
  ·exact n1.2.2 hy
  ·exact n5 y hm y hy rfl
 have nd2:=m2.nd;rw[zbV] at nd2;have s1:∀ y∈G1',y<h1.length:=m1.lt hb1;refine ⟨⟨by omega,fun y hy hF=>?_,?_,fun y hy=>?_⟩,d1,d2,d3⟩
 ·simp only[zb0,zbP,not_or] at hF;rw[m2.fr y (by omega) (by simp only[zb0,not_or];exact ⟨hF.1,hF.2.2.1⟩),m1.fr y hy hF.2.1]
 ·rw[zbV,zbQ,zbP,zbP,zbQ];refine ⟨?_,m1.nd,⟨nd2.2,n4,fun x hx y hy e=>?_⟩,fun x hx y hy e=>?_⟩
  ·simp only[not_or];exact ⟨fun g=>d1 b g (by simp),nd2.1,n1.2.2⟩
  ·subst e;rcases m2.sub x (by simp[hx]) with g | g
   ·exact d3 x hy g
   ·have:=hb3 x hy;omega
  ·subst e;rcases zbP.1 hy with hy | hy
   ·rcases m2.sub x (by simp[hy]) with g | g
    ·exact d1 x hx g
    ·have:=s1 x hx;omega
   ·rcases m1.sub x hx with g | g
    ·exact d2 x hy g
    ·have:=hb3 x hy;omega
 ·simp only[zb0,zbP] at hy ⊢;rcases hy with hy | hy | hy | hy
  ·exact .inl (.inl hy)
  ·rcases m1.sub y hy with g | g
   ·exact .inl (.inr (.inl g))
   ·exact .inr ⟨g.1,by omega⟩
  ·rcases m2.sub y (by simp[hy]) with g | g
   ·rcases zb0.1 g with g | g
    ·exact .inl (.inl g)
    ·exact .inl (.inr (.inr (.inl g)))
   ·exact .inr ⟨by omega,g.2⟩
  ·exact .inl (.inr (.inr (.inr hy)))
section
variable {lo:Nat}{ro:Bool}{h:Heap}{F F':List Nat}{a a':Pq}{c c':Nq}
theorem JD {h1 h2:Heap}{b:Nat}{q:Place}{a1 a2 a3:Pq}{c1 c2 c3:Nq}{G1 G1' G2 G2' G3:List Nat} (m1:Mv h G1 h1 G1') (m2:Mv h1 (b :: G2) h2 (b :: G2')) (hnd:(b ::(G1++(G2++G3))).Nodup) (hb:∀ y∈b ::(G1++(G2++G3)),y<h.length)
  (r1:RNodes false h1 [.sl 2 a1 q.chain.length c1] q.chain G1') (r2:RVers false h2 [.sl 6 a2 q.log.length c2] q.log G2') (r3:RVss false h [.sl 1 a3 q.got.length c3] q.got G3) :
  BZ false h2 (q.cs a1 c1 a2 c2 a3 c3) q (G1'++(G2'++G3))∧Mv h (b ::(G1++(G2++G3))) h2 (b ::(G1'++(G2'++G3))):=by
 obtain ⟨m,d1,d2,d3⟩:=YB m1 m2 hnd hb;exact ⟨⟨_,_,_,_,_,_,rfl,_,_,_,G1',G2',G3,rfl,rfl,m2.keep rnodes_ok r1 d1,r2,m2.keep rvss_ok (m1.keep rvss_ok r3 d2) d3⟩,m⟩
theorem Mx {p:Place}{b:Nat}{a1 a2 a3:Pq}{c1 c2 c3:Nq}{F1 F2:List Nat} (hb:h[b]?=some (.rows 6 49 false [p.cs a1 c1 a2 c2 a3 c3])) (hs1:RNodes false h [.sl 2 a1 p.chain.length c1] p.chain F1) (hs2:RVers false h [.sl 6 a2 p.log.length c2] p.log F2)
  (h0:0<p.chain.length) (ht:Tidy 10 20 100 p) (hd:∀ y∈F1,y∉b :: F2) (hnd:(b :: F2).Nodup) (hlo:∀ y∈b :: F2,lo≤y) (hl:lo≤h.length) :
  ∃ a2' c2' h' F2',Ae lo 189 [.ptr (some (b,(0,0)))] h=some (.tup [],h')∧h'[b]?=some (.rows 6 49 false [(BL p).cs a1 c1 a2' c2' a3 c3])∧RVers false h' [.sl 6 a2' (BL p).log.length c2'] (BL p).log F2'∧Mv h (b :: F2) h' (b :: F2'):=by
 obtain ⟨x,hx,hxe⟩:=Lv h0;have hxn:=ht.node x hx;exact UT hb hs1 hs2 h0 (by rw[hxe];exact hxn.1) hd hnd hlo hl (zbN ht.len (by decide)) (zbN ht.log.1 (by decide))
  (fun v hv=>by rw[hxe] at hv;have:=(hxn.2.2.1 v hv).1;omega) (fun v hv=>by rw[hxe] at hv;exact (hxn.2.2.1 v hv).2.2)
end


variable {p:Place}
def L7 (p:Place) (f:Nat):Bool:=match JL p f with
 | some v=>EW p.chain 0&&Ca v.past (AS p.chain)
 | none=>false
def Eo (p:Place) (f:Int):Bool:=Al f 0 2&&L7 p f.toNat
def L8 (p:Place) (f:Nat):Place:=match JL p f with
 | some v=>BL (IC p 0 (GH v.tag.time p.clock) v)
 | none=>p
def Fd (p:Place) (f:Int):Place:=bif Eo p f then L8 p f.toNat else p
theorem Pj (h:Ao p=true) {f:Nat} (hf:f<p.got.length) {v:Ver} (hv:v∈p.got[f]):A3 v=true:=by obtain ⟨_,h2⟩:=HY (Ti h hf);obtain ⟨i,hi,rfl⟩:=zcu.1 hv;exact (h2 i hi).1
theorem UX (h:Ao p=true):(Gc p.chain).length=4:=by have h0:=EN h;rw[Qn h0];exact AQ (Ay ((BY (AK h).2.2.2.1).2 _ (zbO h0))).1
theorem P6 {f:Nat} (hf:f<p.got.length):(∃ i,∃ hi:i<p.got[f].length,Cm (IO (Gc p.chain)) p.got[f] 0=(i:Int)∧JL p f=some p.got[f][i])∨(Cm (IO (Gc p.chain)) p.got[f] 0 = -1∧JL p f=none):=by
 unfold JL;rw[Jn hf];rcases MD (p:=IO (Gc p.chain)) (l:=p.got[f]) (k:=0) with ⟨i,hi,h1,h2⟩ | h
 ·exact .inl ⟨i,hi,by rw[h1,zcl],h2⟩
 ·exact .inr h
theorem YW {t c:Int} (h:decide (t>c)=true):GH t c=t:=by unfold GH;rw[if_pos (of_decide_eq_true h)]
theorem YY {t c:Int} (h:decide (t>c)=false):GH t c=c:=by unfold GH;rw[if_neg (of_decide_eq_false h)]
section
variable {lo:Nat}{h:Heap}{F F':List Nat}{a a':Pq}{c c':Nq}
theorem PE {f:Nat}{a1 a2 a3:Pq}{c1 c2 c3:Nq}{F1 F3:List Nat} (hs1:RNodes false h [.sl 2 a1 p.chain.length c1] p.chain F1) (hs3:RVss false h [.sl 1 a3 p.got.length c3] p.got F3)
  (hok:Ao p=true) (hf:f<p.got.length) (hn:CT p):Ae lo 97 [.agg (p.cs a1 c1 a2 c2 a3 c3),Iv (f:Nat)] h=some (.bool (L7 p f),h):=by
 have h0:=EN hok;have hchain:=(AK hok).2.2.2.1;have hhl:=UX hok;have hky:∀ v∈p.got[f],0≤v.key∧v.key<(Gc p.chain).length:=fun v hv=>by have:=(AN (Pj hok hf hv)).1;omega
 have hgn:p.got[f].length≤1048576:=(hn.2.2.2 _ (zbO hf)).1;suffices hq:∃ h',_=some (V.bool (L7 p f),h') from by obtain ⟨h',e⟩:=hq;exact NU e
 rw[Mc hs1 hs3 h0 hf hky hgn];simp only[Ac,Aa];unfold L7;rcases P6 hf with ⟨i,hi,e1,e2⟩ | ⟨e1,e2⟩
 ·rw[e1,e2,Ak (by omega),Kc hs1 h0];simp only[Ac,Av];cases hr:EW p.chain 0 with
  | false=>exact ⟨h,rfl⟩
  | true =>
   obtain ⟨o3,s3,b3,d3,G3,ha3,ho3,e3,q3,_⟩:=hs3.get hf;obtain ⟨o4,s4,b4,d4,G4,ha4,_,_,_,ho43,_,_,_,_,e4,q4,_⟩:=q3.all hi;obtain ⟨v5,h5,F5,e5,r5,m5⟩:=I4 (lo:=h.length) hs1 (zbR _) hn.1 h0;obtain ⟨a6,c6,e6,r6⟩:=r5.form;rw[An,Ad hf];simp only[ha3,Af,A7,ho3,Ab,e3,Ag];rw[Ad hi];simp only[ha4,Af,A7,ho43,Ab,e4,Ag];rw[e5];simp only[Ac,AC,Ab,e6,Ag];rw[E5 (m5.keep0 rtags_ok q4) r6 (BK (AN (Pj hok hf (zbO hi))).2.2.2.1) (Jz hchain)];simp only[Ac,Av];cases Ca p.got[f][i].past (AS p.chain)
   ·exact ⟨h5,rfl⟩
   ·exact ⟨h5,rfl⟩
 ·rw[e1,e2,Ai (by omega)];exact ⟨h,rfl⟩
theorem Ul {f:Nat}{a1 a2 a3:Pq}{c1 c2 c3:Nq}{F1 F2 F3:List Nat} (hs1:RNodes false h [.sl 2 a1 p.chain.length c1] p.chain F1) (hs2:RVers false h [.sl 6 a2 p.log.length c2] p.log F2) (hs3:RVss false h [.sl 1 a3 p.got.length c3] p.got F3)
  (hok:Ao p=true) (hf:f<p.got.length) (hn:CT p) (ht:L7 p f=true) (hnd:(F1++(F2++F3)).Nodup) (hlo:∀ b∈F1++(F2++F3),lo≤b) (hl:lo≤h.length) :
  ∃ a2' c2' h' F',Ae lo 98 [.agg (p.cs a1 c1 a2 c2 a3 c3),Iv (f:Nat)] h=some (.agg ((L8 p f).cs a1 c1 a2' c2' a3 c3),h')∧BZ false h' ((L8 p f).cs a1 c1 a2' c2' a3 c3) (L8 p f) F'∧Mv h (F1++(F2++F3)) h' F':=by
 have h0:=EN hok;have hhl:=UX hok;have hky:∀ v∈p.got[f],0≤v.key∧v.key<(Gc p.chain).length:=fun v hv=>by have:=(AN (Pj hok hf hv)).1;omega
 have hgn:p.got[f].length≤1048576:=(hn.2.2.2 _ (zbO hf)).1;have hti:=Cg hok;have hti':Tidy 10 20 100 p:=⟨zbN hti.len (by decide),fun x hx=>by have:=hti.node x hx;exact ⟨this.1,zbN this.2.1 (by decide),this.2.2⟩,⟨zbN hti.log.1 (by decide),hti.log.2⟩,hti.got.1,fun l hl=>⟨zbN (hti.got.2 l hl).1 (by decide),(hti.got.2 l hl).2⟩⟩;unfold L7 at ht;unfold L8;rcases P6 hf with ⟨i,hi,e1,e2⟩ | ⟨e1,e2⟩
 ·rw[e2];simp only;have hv:=Pj hok hf (zbO hi);obtain ⟨o3,s3,b3,d3,G3,ha3,ho3,e3,q3,hG3⟩:=hs3.get hf;obtain ⟨o4,s4,b4,d4,G4,ha4,ho4,e4,q4,hG4⟩:=q3.get hi;rw[← zb4] at hnd hlo;have hnd':=hnd;rw[zbQ] at hnd';have hdis:∀ y∈F3,y∉F1++F2:=fun y hy hm=>hnd'.2.2 y hm y hy rfl;obtain ⟨h2,a2',c2',h3,F1',F2',e5,e6,r1,r2,m⟩:=Me (lo:=lo) (v:=p.got[f][i]) (k:=0) (t:=GH p.got[f][i].tag.time p.clock) (a3:=a3) (c3:=c3) hs1 hs2 q4 (fun y hy hm=>hdis y (hG3 y (hG4 y hy)) (by simp[hm])) hnd'.1 (fun y hy=>hlo y (by rw[zbP];exact .inl hy)) hl h0 ((AN hv).1) hti' (II hv);have b3':∀ y∈F3,y<h.length:=rvss_ok.bd _ _ _ _ hs3;have m':=m.aside (G:=F3) hnd b3';have hs3':=m.keep rvss_ok hs3 hdis;have hcs:∀ t,(IC p 0 t p.got[f][i]).cs a1 c1 a2 c2 a3 c3 = [Iv p.me,Iv t,.sl 2 a1 p.chain.length c1,.sl 6 a2 p.log.length c2,.sl 1 a3 p.got.length c3,.bool p.fell]:=fun t=>by simp only[Place.cs,IC,addN_len]
  rw[hcs] at e6;rw[← zb4];refine ⟨a2',c2',h3,F1'++F2'++F3,Rt ?_,⟨_,_,_,_,_,_,rfl,_,_,_,F1',F2',F3,rfl,by rw[zb4],r1,r2,hs3'⟩,m'⟩;rw[Ad hf];simp only[ha3,Af,A7,ho3,Ab,e3,Ag];rw[← ha3];have:=Mc (lo:=h.length) (a2:=a2) (c2:=c2) hs1 hs3 h0 hf hky hgn;simp only[Place.cs] at this;rw[this,e1];simp only[Ac,Aa];rw[Ad hi];simp only[ha4,Af,A7,ho4,Ab,Aa,e4,A8,Aw,Ag];cases hd:decide (p.got[f][i].tag.time>p.clock)
  ·rw[YY hd] at e6 ⊢;rw[Au];rw[show (0:Int)=((0:Nat):Int) from rfl] at *
   simp only[Ver.cs] at e5;rw[e5];simp only[Ac,AC,Ab,Ah,Ag];rw[e6];simp only[Ac,Place.cs,AC,Ab,Aa,Ah,Aw,Ag]
  ·rw[YW hd] at e6 ⊢;rw[An];rw[show (0:Int)=((0:Nat):Int) from rfl] at *
   simp only[Ver.cs] at e5;rw[e5];simp only[Ac,AC,Ab,Ah,Ag];rw[e6];simp only[Ac,Place.cs,AC,Ab,Aa,Ah,Aw,Ag]
 ·rw[e2] at ht;cases ht
end


theorem VA {p:Place} (h:Ao p=true):Tidy 10 20 100 p:=by have hti:=Cg h;exact ⟨zbN hti.len (by decide),fun x hx=>by have:=hti.node x hx;exact ⟨this.1,zbN this.2.1 (by decide),this.2.2⟩,⟨zbN hti.log.1 (by decide),hti.log.2⟩,hti.got.1,fun l hl=>⟨zbN (hti.got.2 l hl).1 (by decide),(hti.got.2 l hl).2⟩⟩
section
variable {lo:Nat}{h:Heap}{F F':List Nat}{a a':Pq}{c c':Nq}
end


variable {α:Type}{l:List Node}
theorem zaI {lo e R bytes n N b i:Nat}{row:List V}{h h2:Heap}{a':Pq}{c':Nq}{m:Nat} (hap:∀ {T:Type} (K:V→Heap→Option T),CS lo e R bytes (.sl R (some (b,i)) n (some N)) [row] h K=K (.sl R a' m c') h2) (hN:n+1≤N):a'=some (b,i)∧c'=some N:=by have h1:=hap fun v _=>some v;simp only[CS] at h1;obtain ⟨_,h1⟩:=Ax h1;obtain ⟨_,h1⟩:=Ax h1;obtain ⟨_,h1⟩:=Ax h1;rw[show Nat.ble (n + [row].length) N=true from Dy hN] at h1;obtain ⟨_,_,h1⟩:=AP h1;injection h1 with h1;injection h1 with _ h2 _ h3;exact ⟨h2.symm,h3.symm⟩
theorem SS {T:Type}{El:Rel α} (ok:El.Ok) {h0:Heap}{l:List α}{lo R e bytes N:Nat}{p0:Nat×Nat}{F0:List Nat} (hlo:lo≤h0.length) (hF:∀ b∈F0,lo≤b) (hnd:F0.Nodup) (hb:0<bytes) (hsz:l.length*bytes≤140737488355328) (hN:l.length≤N)
  (L:Nat→Pq→Nat→Nq→Heap→Option T)
  (step:∀ i (hi:i<l.length) hh F,Mv h0 F0 hh F→∃ row G h2,El h2 row l[i] G∧Mv hh [] h2 G∧L i (some p0) i (some N) hh=CS lo e R bytes (.sl R (some p0) i (some N)) [row] h2 fun v h=>eS R v fun a n c=>L (i+1) a n c h)
  (hs:Sli false R e El h0 [.sl R (some p0) 0 (some N)] [] F0) :
  ∃ h' F',L 0 (some p0) 0 (some N) h0=L l.length (some p0) l.length (some N) h'∧Sli false R e El h' [.sl R (some p0) l.length (some N)] l F'∧Mv h0 F0 h' F':=by
 have loop:∀ m i hh F,m+i=l.length→Mv h0 F0 hh F→Sli false R e El hh [.sl R (some p0) i (some N)] (l.take i) F →
   ∃ h' F',L i (some p0) i (some N) hh=L l.length (some p0) l.length (some N) h'∧Sli false R e El h' [.sl R (some p0) l.length (some N)] l F'∧Mv h0 F0 h' F':=by
  intro m;induction m with
  | zero =>
   intro i hh F hi hm hr;have:i=l.length:=by omega
   subst this;rw[zdn] at hr;exact ⟨hh,F,rfl,hr,hm⟩
  | succ m ih =>
   intro i hh F hi hm hr;have hlt:i<l.length:=by omega
   obtain ⟨row,G,h2,hy,m2,e2⟩:=step i hlt hh F hm;have hlen:(l.take i).length=i:=by rw[zcp];omega
   have hml:(i+1)*bytes≤l.length*bytes:=zcq _ hlt;obtain ⟨a5,c5,h5,F5,e5,r5,m5⟩:=D9 (lo:=lo) (bytes:=bytes) ok hr (row:=row) (x:=l[i]) (G:=G) (h1:=h2) hy m2 hm.nd (fun y hy=>hm.ge hlo hF y hy) (zbN hlo hm.le) hb (by rw[hlen];omega);obtain ⟨b0,i0⟩:=p0;obtain ⟨rfl,rfl⟩:=zaI e5 (by omega);rw[hlen] at e5 r5;rw[List.take_append_getElem hlt] at r5;obtain ⟨h',F',e6,r6,m6⟩:=ih (i+1) h5 F5 (by omega) (hm.trans m5) r5;refine ⟨h',F',?_,r6,m6⟩;rw[e2,e5,Ah,e6]
 exact loop l.length 0 h0 F0 (by omega) (Mv.refl hnd) hs
theorem EAll.mono {α:Type}{A B:Rel α}{h:Heap} (hAB:∀ row x F,A h row x F→B h row x F):∀ {rows:List (List V)}{l:List α}{Fs:List (List Nat)},EAll A h rows l Fs→EAll B h rows l Fs
 | [],[],[],_=>trivial
 | _ :: _,_ :: _,_ :: _,⟨h1,h2⟩=>⟨hAB _ _ _ h1,EAll.mono hAB h2⟩
 | [],[],_ :: _,h=>h.elim
 | [],_ :: _,_,h=>h.elim
 | _ :: _,[],_,h=>h.elim
 | _ :: _,_ :: _,[],h=>h.elim
theorem Sli.mono {α:Type}{A B:Rel α}{h:Heap}{R e:Nat}{cs:List V}{l:List α}{F:List Nat} (hAB:∀ row x F,A h row x F→B h row x F) (hs:Sli false R e A h cs l F):Sli false R e B h cs l F:=by
 obtain ⟨R',a,c,e1,g⟩:=hs;refine ⟨R',a,c,e1,?_⟩;cases a with
 | none=>exact g
 | some p =>obtain ⟨b,i⟩:=p;obtain ⟨g0,rs,Fs,g1,g2,g3,g4,g5,g6⟩:=g;exact ⟨g0,rs,Fs,g1,g2,g3,g4,g5.mono hAB,g6⟩
def RNodeC:Rel Node:=fun h row x F=>RNode false h row x F∧∃ s a n k,row = [s,.sl 6 a n (some k)]
theorem Sf:RNodeC.Ok:=⟨fun h h' cs x F ⟨h1,h2⟩ hb=>⟨rnode_ok.fr _ _ _ _ _ h1 hb,h2⟩,fun h cs x F ⟨h1,_⟩=>rnode_ok.bd _ _ _ _ h1⟩
abbrev RNodesC:Rel (List Node):=Sli false 2 (OF false) RNodeC
theorem rnodesC_ok:RNodesC.Ok:=Sli.ok Sf
theorem RNodesC.up {h:Heap}{cs:List V}{F:List Nat} (hs:RNodesC h cs l F):RNodes false h cs l F:=Sli.mono (fun _ _ _ h=>h.1) hs
section
variable {lo:Nat}{h:Heap}{F F' G:List Nat}{a a' av:Pq}{c c' cv:Nq}
theorem NB {l:List Ver} (hs:RVers false h [.sl 6 a l.length c] l F) (hl:lo≤h.length) (hn:Cy l) :
  ∃ a' h' F',Ae lo 259 [.sl 6 a l.length c] h=some (.sl 6 a' l.length (some l.length),h')∧RVers false h' [.sl 6 a' l.length (some l.length)] l F'∧Mv h [] h' F':=by
 have hn1:=hn.1;have m0:Mv h [] (h ++ [.rows 6 (MF false) false (List.replicate l.length [Iv 0,Iv 0,Iv 0,.sl 0 none 0 (some 0),.str ⟨⟨[]⟩⟩,.bool false])]) [h.length]:=Mv.last;obtain ⟨h',F',e,r,m⟩:=SS (El:=RVer false) rver_ok (l:=l) (lo:=lo) (R:=6) (e:=MF false) (bytes:=72) (N:=l.length) (p0:=(h.length,0)) (F0 := [h.length]) (zbN hl m0.le) (m0.ge hl (by simp)) m0.nd (by decide) (by omega) (zbR _)
  (fun i a1 n1 c1 hh=>A5 lo a1 n1 c1 a l.length c (l.length:Nat) (i:Nat) hh) (fun i hi hh F1 hm=>by
   have hm':Mv h [] hh []:=(m0.trans hm).drop;obtain ⟨o,s,a2,c2,G,ho,hld,es,hp,_⟩:=(hm'.keep0 rvers_ok hs).get hi;obtain ⟨a3,c3,h3,F3,e3,r3,m3⟩:=CV (lo:=lo) (v:=l[i]) hp (zbN hl hm'.le) (hn.2 _ (zbO hi)).1;refine ⟨l[i].cs a3 c3,F3,h3 ++ [.rows 6 34 false [l[i].cs a3 c3]],⟨_,rfl,Mv.snoc.keep0 rtags_ok r3⟩,m3.trans (Mv.snoc' m3.nd),?_⟩;rw[A5.e,Ak (by omega),Ad hi,ho];simp only[Af,A7,hld,Ab,Aa,es,A8,Aw,Ag];rw[e3];simp only[Ac,AC,Ab,Aa,Ah,A8,Aw,Ag,AZ,Am (show i<9223372036854775807 by omega)];rfl) (Sli.fresh (by simp))
 refine ⟨some (h.length,0),h',F',I0 ?_,r,m0.trans m⟩;rw[Ff (by omega)];refine e.trans ?_;rw[A5.e,Ai (by omega)]
theorem LB (hs:RNodes false h [.sl 2 a l.length c] l F) (hl:lo≤h.length) (hn:Ci l) :
  ∃ a' h' F',Ae lo 167 [.agg [.sl 2 a l.length c]] h=some (.agg [.sl 2 a' l.length (some l.length)],h')∧RNodesC h' [.sl 2 a' l.length (some l.length)] l F'∧Mv h [] h' F':=by
 have hn1:=hn.1;have m0:Mv h [] (h ++ [.rows 2 (OF false) false (List.replicate l.length [.sl 0 none 0 (some 0),.sl 0 none 0 (some 0)])]) [h.length]:=Mv.last;obtain ⟨h',F',e,r,m⟩:=SS (El:=RNodeC) Sf (l:=l) (lo:=lo) (R:=2) (e:=45) (bytes:=48) (N:=l.length) (p0:=(h.length,0)) (F0 := [h.length])
  (zbN hl m0.le) (m0.ge hl (by simp)) m0.nd (by decide) (by omega) (zbR _) (fun i a1 n1 c1 hh=>BF lo a l.length c (l.length:Nat) (i:Nat) 0 none 0 (some 0) a1 n1 c1 hh) (fun i hi hh F1 hm=>by
   have hm':Mv h [] hh []:=(m0.trans hm).drop;obtain ⟨o,s1,s2,b1,d1,b2,d2,G1,G2,ha,ho,_,_,e1,e2,p1,p2,_⟩:=(hm'.keep0 rnodes_ok hs).get hi;have hsm:=hn.2 _ (zbO hi);obtain ⟨a3,c3,h3,F3,e3,r3,m3⟩:=IQ (lo:=lo) p1 (zbN hl hm'.le) hsm.1;obtain ⟨a4,h4,F4,e4,r4,m4⟩:=NB (lo:=lo) (m3.keep0 rvers_ok p2) (zbN hl (zbN hm'.le m3.le)) hsm.2;have m34:=m3.join m4 (rvers_ok.bd _ _ _ _ r3);refine ⟨[.sl 6 a3 l[i].store.length c3,.sl 6 a4 l[i].wait.length (some l[i].wait.length)],F3++F4,h4 ++ [.rows 2 45 false [[.sl 6 a3 l[i].store.length c3,.sl 6 a4 l[i].wait.length (some l[i].wait.length)]]],
    ⟨⟨_,_,F3,F4,rfl,rfl,Mv.snoc.keep0 rvers_ok (m4.keep0 rvers_ok r3),Mv.snoc.keep0 rvers_ok r4⟩,_,_,_,_,rfl⟩,m34.trans (Mv.snoc' m34.nd),?_⟩
   rw[BF.e,Ak (by omega),Ad hi,ha];simp only[Af,A7,ho,Ab,e1,e2,Ag];rw[e3];simp only[Ac,AC,Ab,Ah,Ag];rw[e4];simp only[Ac,Ah,AZ,Am (show i<9223372036854775807 by omega)]) (Sli.fresh (by simp))
 refine ⟨some (h.length,0),h',F',Lb ?_,r,m0.trans m⟩;rw[Ff (by omega)];refine e.trans ?_;rw[BF.e,Ai (by omega)]
theorem Lz {p:Place}{a1 a2 a3:Pq}{c1 c2 c3:Nq}{F1 F2 F3:List Nat} (hs1:RNodes false h [.sl 2 a1 p.chain.length c1] p.chain F1) (hs2:RVers false h [.sl 6 a2 p.log.length c2] p.log F2)
  (hs3:RVss false h [.sl 1 a3 p.got.length c3] p.got F3) (hl:lo≤h.length) (hn:CT p) :
  ∃ a1' a2' c2' a3' c3' h' G1 G2 G3,Ae lo 175 [.agg (p.cs a1 c1 a2 c2 a3 c3)] h=some (.agg (p.cs a1' (some p.chain.length) a2' c2' a3' c3'),h')∧RNodesC h' [.sl 2 a1' p.chain.length (some p.chain.length)] p.chain G1 ∧
   RVers false h' [.sl 6 a2' p.log.length c2'] p.log G2∧RVss false h' [.sl 1 a3' p.got.length c3'] p.got G3∧Mv h [] h' (G1++(G2++G3)):=by
 have hn1:=hn.2.2.1;obtain ⟨b1,h1,G1,e1,r1,m1⟩:=LB (lo:=h.length) hs1 (zbR _) hn.1;obtain ⟨b2,d2,h2,G2,e2,r2,m2⟩:=HG (lo:=h1.length) (m1.keep0 rvers_ok hs2) (zbR _) hn.2.1;have m12:=m1.join m2 (rnodesC_ok.bd _ _ _ _ r1);have r1':=m2.keep0 rnodesC_ok r1;have hs3':=m2.keep0 rvss_ok (m1.keep0 rvss_ok hs3);have m0:Mv h2 [] (h2 ++ [.rows 1 (Zp false) false (List.replicate p.got.length [.sl 0 none 0 (some 0)])]) [h2.length]:=Mv.last;obtain ⟨b3,d3,h',F',e,r,m⟩:=LH (El:=RVers false) rvers_ok (h0:=h2 ++ [.rows 1 (Zp false) false (List.replicate p.got.length [.sl 0 none 0 (some 0)])]) (l:=p.got) (g:=fun _ v=>some (id v)) (lo:=lo) (R:=1) (e:=41) (bytes:=24) (b0 := []) (F0 := [h2.length]) (a0:=some (h2.length,0)) (c0:=some p.got.length)
  (zbN hl (zbN m12.le m0.le)) (m0.ge (zbN hl m12.le) (by simp)) m0.nd (by decide) (by simp;omega) (fun i a n c hh=>BE lo a3 p.got.length c3 (p.got.length:Nat) (i:Nat) 0 0 0 none 0 (some 0) 0 none 0 (some 0) 0 none 0 (some 0) false p.me p.clock b1 p.chain.length (some p.chain.length) b2 p.log.length d2 a n c p.fell hh) (fun i hi q1 q2 hh F1 acc hz hacc hm hr=>by
   have hm':Mv h2 [] hh []:=(m0.trans hm).drop;obtain ⟨o,s,b,d,G,rfl,ho,es,hp,_⟩:=(hm'.keep0 rvss_ok hs3').get hi;obtain ⟨a5,c5,h5,F5,e5,r5,m5⟩:=HG (lo:=lo) hp (zbN hl (zbN m12.le (zbN m0.le hm.le))) (hn.2.2.2 _ (zbO hi));refine .inr ⟨p.got[i],[.sl 6 a5 p.got[i].length c5],F5,h5 ++ [.rows 1 41 false [[.sl 6 a5 p.got[i].length c5]]],rfl,Mv.snoc.keep0 rvers_ok r5,m5.trans (Mv.snoc' m5.nd),?_⟩;rw[BE.e,Ak (by omega),Ad hi];simp only[Af,A7,ho,Ab,es,Ag];rw[e5];simp only[Ac,Ah,AZ,Am (show i<9223372036854775807 by omega)]) (Sli.fresh (by simp))
 rw[MC,List.map_id,zco] at e r;have m3:=m12.join (m0.trans m) (fun b hb=>by
   rw[zbP] at hb;exact hb.elim (rnodesC_ok.bd _ _ _ _ r1' b) (rvers_ok.bd _ _ _ _ r2 b))
 rw[zb4] at m3;refine ⟨b1,b2,d2,b3,d3,h',G1,G2,F',K9 ?_,(m0.trans m).keep0 rnodesC_ok r1',(m0.trans m).keep0 rvers_ok r2,r,m3⟩;rw[e1];simp only[Ac,AC,Ab,Ah,Ag];rw[e2];simp only[Ac,Ah];rw[Ff (by omega)];refine e.trans ?_;rw[BE.e,Ai (by omega)]
theorem J1 {p p':Place}{cs l1:List V}{g:Nat}{ok:Bool} (hp:BZ false h cs p F) (hl:lo≤h.length) (hn:CT p)
  (hg:Ao p=true→∀ hh b a1 a2 c2 a3 c3 G1 G2 G3,h.length≤hh.length→Mv h [] hh []→RNodesC hh [.sl 2 a1 p.chain.length (some p.chain.length)] p.chain G1→RVers false hh [.sl 6 a2 p.log.length c2] p.log G2→RVss false hh [.sl 1 a3 p.got.length c3] p.got G3 →
   hh[b]?=some (.rows 6 49 false [p.cs a1 (some p.chain.length) a2 c2 a3 c3])→(b ::(G1++(G2++G3))).Nodup→(∀ y∈b ::(G1++(G2++G3)),h.length≤y) →
   ∃ hh' row' F1',Ae lo g (Dh [.ptr (some (b,(0,0)))] l1) hh=some (.bool ok,hh')∧BZ false hh' row' p' F1'∧hh'[b]?=some (.rows 6 49 false [row'])∧Mv hh (b ::(G1++(G2++G3))) hh' (b :: F1')) :
  ∃ raw r h' F',Ae lo 79 [.agg cs,.fn g l1] h=some (.tup [.agg raw,.bool (Ao p&&ok)],h')∧ID raw (DT p p') r∧BZ false h' r (DT p p') F'∧Mv h [] h' F':=by
 obtain ⟨a1,c1,a2,c2,a3,c3,rfl,hp⟩:=hp;obtain ⟨F1,F2,F3,_,h1,h2,h3⟩:=hp.cells;suffices hk:∃ raw r h' F',_=some (V.tup [.agg raw,.bool (Ao p&&ok)],h')∧ID raw (DT p p') r∧BZ false h' r (DT p p') F'∧Mv h [] h' F' from by obtain ⟨raw,r,h',F',e,hr⟩:=hk;exact ⟨raw,r,h',F',N4 e,hr⟩
 rw[Ga h1 h2 h3 hn,Ac,Av];unfold DT;cases hpo:Ao p with
 | false =>rw[Au];obtain ⟨raw,r,rfl,n1,n2⟩:=Kn (hh:=h);exact ⟨_,r,h,[],rfl,n1,n2,Mv.nil⟩
 | true =>
 obtain ⟨b1,b2,d2,b3,d3,h4,G1,G2,G3,e4,g1,g2,g3,m4⟩:=Lz (lo:=lo) h1 h2 h3 hl hn;rw[An,e4,Ac,AC,Ab,Aa,Ab,Aa,Ab,Ah,Ab,Ah,Ab,Ah,Ab,Aw,Ag];have m5:Mv h4 [] (h4 ++ [.rows 6 49 false [p.cs b1 (some p.chain.length) b2 d2 b3 d3]]) [h4.length]:=Mv.last;rw[ZZ (row':=p.cs b1 (some p.chain.length) b2 d2 b3 d3) (zbN hl m4.le) rfl (Dl (by simp[Place.cs]))];simp only[Af,List.set_cons_zero];have m45:=(m4.join m5 (fun b hb=>by
  simp only[zbP] at hb;rcases hb with hb | hb | hb
  ·exact rnodesC_ok.bd _ _ _ _ g1 b hb
  ·exact rvers_ok.bd _ _ _ _ g2 b hb
  ·exact rvss_ok.bd _ _ _ _ g3 b hb)).swapNil
 obtain ⟨h6,row6,F6,e6,r6,b6,m6⟩:=hg hpo (h4 ++ [.rows 6 49 false [p.cs b1 (some p.chain.length) b2 d2 b3 d3]]) h4.length b1 b2 d2 b3 d3 G1 G2 G3 m45.le m45.drop (m5.keep0 rnodesC_ok g1) (m5.keep0 rvers_ok g2) (m5.keep0 rvss_ok g3) (by simp) m45.nd (fun y hy=>m45.new y hy);obtain ⟨b4,d4,b5,d5,b7,d7,rfl,r6'⟩:=id r6;rw[e6,Ac,Av];have e7:ld h6 h4.length 0 0 6=some (p'.cs b4 d4 b5 d5 b7 d7):=by rw[BB b6 rfl];exact HW rfl
 have m7:Mv h [] h6 F6:=(m45.trans m6).lean (zbV.1 m6.nd).2 fun b hb=>by simp[hb]
 rw[e7];simp only[Af,Ab,Aa,Ah,Aw,Ag,cond_true];cases ok;all_goals
  first | rw[An] | rw[Au]
  exact ⟨_,_,h6,F6,rfl,EH,r6,m7⟩
end


variable {h:Heap}{Fs:List (List Nat)}{rs:List (List V)}{z:List V}{α:Type}{El:Rel α}
theorem EAll.erase {α:Type}{El:Rel α}{h:Heap}:∀ {rows:List (List V)}{l:List α}{Fs:List (List Nat)},EAll El h rows l Fs→∀ (k:Nat),EAll El h (rows.eraseIdx k) (l.eraseIdx k) (Fs.eraseIdx k)
 | [],[],[],_,k=>by simp[EAll]
 | _ :: _,_ :: _,_ :: _,⟨_,h2⟩,0=>h2
 | _ :: _,_ :: _,_ :: _,⟨h1,h2⟩,k+1=>⟨h1,h2.erase k⟩
 | [],[],_ :: _,h,_=>h.elim
 | [],_ :: _,_,h,_=>h.elim
 | _ :: _,[],_,h,_=>h.elim
 | _ :: _,_ :: _,[],h,_=>h.elim
theorem I5 {k:Nat}{Fk:List Nat} (hk:Fs[k]?=some Fk) (hnd:Fs.flatten.Nodup):(Fs.eraseIdx k).flatten.Nodup∧(∀ y∈(Fs.eraseIdx k).flatten,y∈Fs.flatten∧y∉Fk):=by
 induction Fs generalizing k with
 | nil=>simp at hk
 | cons F Fs ih =>
  rw[zck,zbQ] at hnd;obtain ⟨n1,n2,n3⟩:=hnd;cases k with
  | zero =>simp at hk;subst hk;rw[List.eraseIdx_cons_zero];exact ⟨n2,fun y hy=>⟨by simp only[zck,zbP];exact .inr hy,fun hm=>n3 y hm y hy rfl⟩⟩
  | succ k =>
   obtain ⟨g1,g2⟩:=ih (k:=k) (by simpa using hk) n2;rw[List.eraseIdx_cons_succ,zck,zbQ];refine ⟨⟨n1,g1,fun x hx y hy=>n3 x hx y (g2 y hy).1⟩,fun y hy=>?_⟩;rcases zbP.1 hy with hy | hy
   ·refine ⟨by simp only[zck,zbP];exact .inl hy,fun hm=>?_⟩;exact n3 y hy y (Fo (by simpa using hk) hm) rfl
   ·exact ⟨by simp only[zck,zbP];exact .inr (g2 y hy).1,(g2 y hy).2⟩
theorem Wp {rs:List (List V)}{i n k:Nat}{z:List V} (hi:i+n≤rs.length) (hk:k<n) :
  let rs1:=rs.take (i+k)++((rs.drop (i+(k+1))).take (n - (k+1)))++rs.drop (i+k+((rs.drop (i+(k+1))).take (n - (k+1))).length)
  ((rs1.take (i+(n - 1)) ++ [z]++rs1.drop (i+(n - 1)+1)).drop i).take (n - 1)=(((rs.drop i).take n)).eraseIdx k∧(rs1.take (i+(n - 1)) ++ [z]++rs1.drop (i+(n - 1)+1)).length=rs.length∧rs1.length=rs.length:=by
 intro rs1;have e0:((rs.drop (i+(k+1))).take (n - (k+1))).length=n - (k+1):=by rw[zcp,zcS];omega
 have e1:rs1.length=rs.length:=by show (rs.take (i+k)++((rs.drop (i+(k+1))).take (n - (k+1)))++rs.drop (i+k+((rs.drop (i+(k+1))).take (n - (k+1))).length)).length=rs.length;rw[zbX,zbX,zcp,zcS,e0];omega
 refine ⟨?_,?_,e1⟩
 ·apply List.ext_getElem?;intro j;have hget:∀ q,q<i+(n - 1)→rs1[q]?=if q<i+k then rs[q]? else rs[q+1]?:=by
   intro q hq;show (rs.take (i+k)++((rs.drop (i+(k+1))).take (n - (k+1)))++rs.drop (i+k+((rs.drop (i+(k+1))).take (n - (k+1))).length))[q]?=_;by_cases h1:q<i+k
   ·rw[if_pos h1,zbS (by rw[zbX,zcp];omega),zbS (by rw[zcp];omega),zcs,if_pos h1]
   ·rw[if_neg h1,zbS (by rw[zbX,zcp,e0];omega),zcg (by rw[zcp];omega),zcp,zcs,if_pos (by omega),zcj];congr 1;omega
  rw[zcs,zcj,List.getElem?_eraseIdx];by_cases hj:j<n - 1
  ·rw[if_pos hj,zbS (by rw[zbX,zcp];omega),zbS (by rw[zcp];omega),zcs,if_pos (by omega),hget _ (by omega)];by_cases hjk:j<k
   ·rw[if_pos (by omega),if_pos hjk,zcs,if_pos (by omega),zcj]
   ·rw[if_neg (by omega),if_neg hjk,zcs,if_pos (by omega),zcj];congr 1
  ·rw[if_neg hj];by_cases hjk:j<k
   ·omega
   ·rw[if_neg hjk,zcs,if_neg (by omega)]
 ·rw[zbX,zbX,zcp,zcS,e1];simp only[zb6];omega
theorem R7 {lo:Nat}{b i R e:Nat}{xs:List (List V)} (hb:h[b]?=some (.rows R e false rs)) (hlo:lo≤b) (hi:i+xs.length≤rs.length):Ez lo h b i xs=some (h.set b (.rows R e false (rs.take i++xs++rs.drop (i+xs.length)))):=by simp only[Ez,hb,Dy hlo,Dy hi]
theorem Sli.del {T:Type} (ok:El.Ok) {lo R e n k bytes:Nat}{a:Pq}{c:Nq}{l:List α}{F:List Nat}{x1 x2:Int} (hs:Sli false R e El h [.sl R a n c] l F) (hk:k<l.length) (hnd:F.Nodup) (hlo:∀ b∈F,lo≤b)
  (h1:x1=(k:Nat)) (h2:x2=(k:Nat)+1) (hb:0<bytes) (hsz:l.length*bytes≤140737488355328) (X:Option T) (K:V→Heap→Option T) :
  ∃ h' F' Fk b i row,a=some (b,i)∧ld h b (i+k) 0 row.length=some row∧El h row (l[k]'hk) Fk∧(∀ y∈Fk,y∈F∧y∉F'∧y≠b) ∧
   (As a (EV h a n c) c (some (Iv x1)) (some (Iv x2)) (some (Iv (n:Nat))) fun _ _ _=>br (x1==x2) X (As a n c none (some (Iv x1)) none fun a3 n4 c5=>As a n c (some (Iv x2)) none none fun a6 n7 c8=>At R h (.sl R a6 n7 c8) fun x9 =>
    CS lo e R bytes (.sl R a3 n4 c5) x9 h fun v10 h11=>eS R v10 fun a12 n13 c14=>As a12 (EV h11 a12 n13 c14) c14 (some (Iv (n13:Nat))) (some (Iv (n:Nat))) none fun a15 n16 c17=>ZF lo R R true z h11 a15 n16 fun h18=>K (.sl R a12 n13 c14) h18))=K (.sl R a (l.length - 1) c) h' ∧
   Sli false R e El h' [.sl R a (l.length - 1) c] (l.eraseIdx k) F'∧Mv h F h' F'∧(∀ y,y≠b→h'[y]?=h[y]?):=by
 have hn:=hs.val;subst hn;obtain ⟨R1,a1,c1,e1,g⟩:=hs;injection e1 with e1 _;injection e1 with e0 e2 _ e3;subst e2;subst e3;cases a with
 | none=>obtain ⟨rfl,_⟩:=g;simp at hk
 | some p =>
 obtain ⟨b,i⟩:=p;obtain ⟨_,rs,Fs,g1,g2,g3,g4,g5,rfl⟩:=g;obtain ⟨row,Fk,hrow,hFk,hel⟩:=g5.get (Dd hk);have hlob:=hlo b (by simp);rw[zbV] at hnd;obtain ⟨f1,f2⟩:=I5 hFk hnd.2;have hblt:b<h.length:=(Fh g1).1;have hri:rs[i+k]?=some row:=by rw[zcs,if_pos hk,zcj] at hrow;exact hrow
 have e0:((rs.drop (i+(k+1))).take (l.length - (k+1))).length=l.length - (k+1):=by rw[zcp,zcS];omega
 obtain ⟨r1,r2,r3⟩:=Wp (z:=z) g2 hk;generalize hxs:(rs.drop (i+(k+1))).take (l.length - (k+1))=xs at e0 r1 r2 r3;generalize hrs1:rs.take (i+k)++xs++rs.drop (i+k+xs.length)=rs1 at r1 r2 r3;have fr:∀ (X:Blk) y,y≠b→(h.set b X)[y]?=h[y]?:=fun X y hy=>zbU (Ne.symm hy);have hbFs:∀ y∈Fs.flatten,y≠b:=fun y hy e=>hnd.1 (e ▸ hy);have m:∀ X:Blk,Mv h (b :: Fs.flatten) (h.set b X) (b ::(Fs.eraseIdx k).flatten):=fun X=>⟨by simp,fun y hy hF=>by
  rw[zb0,not_or] at hF;exact fr X y hF.1,by rw[zbV];exact ⟨fun hm=>hnd.1 (f2 b hm).1,f1⟩,fun y hy=>by
  rcases zb0.1 hy with rfl | hy
  ·exact .inl (by simp)
  ·exact .inl (by simp[(f2 y hy).1])⟩
 have fin:∀ rsX:List (List V),(rsX.drop i).take (l.length - 1)=((rs.drop i).take l.length).eraseIdx k→rsX.length=rs.length→Sli false R e El (h.set b (.rows R e false rsX)) [.sl R (some (b,i)) (l.length - 1) c] (l.eraseIdx k) (b ::(Fs.eraseIdx k).flatten):=fun rsX hX hXl=>by have hle:(l.eraseIdx k).length=l.length - 1:=zcx hk;refine ⟨R,some (b,i),c,by rw[hle],rfl,rsX,Fs.eraseIdx k,by simp[hblt],by rw[hle,hXl];omega,fun q hq=>by have:=g3 q hq;rw[hle,hXl];omega,g4,?_,rfl⟩;rw[hle,hX];exact (g5.erase k).fr ok.fr fun y hy=>fr _ y (hbFs y (f2 y hy).1)
 have hmul:(k+xs.length)*bytes≤140737488355328:=zbN (zcq _ (by omega)) hsz;refine ⟨h.set b (.rows R e false (rs1.take (i+(l.length - 1)) ++ [z]++rs1.drop (i+(l.length - 1)+1))),b ::(Fs.eraseIdx k).flatten,Fk,b,i,row,rfl,by rw[BB g1 hri];exact HW rfl,hel,fun y hy=>?_,?_,fin _ r1 r2,m _,fun y hy=>fr _ y hy⟩
 ·have hyF:=Fo hFk hy;exact ⟨by simp[hyF],fun hm=>by
   rcases zb0.1 hm with rfl | hm
   ·exact hbFs y hyF rfl
   ·exact (f2 y hm).2 hy,hbFs y hyF⟩
 have hx12:(x1==x2)=false:=by rw[beq_eq_false_iff_ne,h1,h2];omega
 have hRR:Nat.beq R R=true:=Iz;have hroom:∀ (hh:Heap) (rs':List (List V)) (q:Nat),hh[b]?=some (.rows R e false rs')→q≤EV hh (some (b,i)) q c∧(c=none→rs'.length - i≤EV hh (some (b,i)) q c):=fun hh rs' q hq=>by
  unfold EV;cases c with
  | some _=>exact ⟨zbR _,fun e=>by cases e⟩
  | none =>simp only[Heap.rows?,hq];exact ⟨Nat.le_max_left _ _,fun _=>Nat.le_max_right _ _⟩
 have hr0:=(hroom h rs l.length g1).1;generalize EV h (some (b,i)) l.length c=M0 at hr0;have s1:∀ (Y:Option T),(As (some (b,i)) M0 c (some (Iv x1)) (some (Iv x2)) (some (Iv (l.length:Nat))) fun _ _ _=>Y)=Y:=fun Y=>by
  unfold As EC HT IG;simp only[Aa,A7,Option.isNone_some];have q0:Wb x2 l.length (Wb x1 x2.toNat (KX (some (b,i)) x2.toNat (some l.length) x1.toNat fun _ _ _=>Y))=Y:=by rw[Cj ⟨by rw[h2];omega,by rw[h2];omega⟩,Cj ⟨by rw[h1];omega,by rw[h1,h2];omega⟩];unfold KX;simp only;cases Nat.beq l.length x1.toNat<;>rfl
  cases c with
  | some N=>have:=g3 N rfl;simp only;rw[Cj ⟨by omega,by omega⟩];exact q0
  | none=>simp only;rw[Cj ⟨by omega,by omega⟩];exact q0
 have s2:∀ (K:Pq→Nat→Nq→Option T),As (some (b,i)) l.length c none (some (Iv x1)) none K=K (some (b,i)) k c:=fun K=>by
  unfold As EC HT IG;simp only[Aa,zcQ];cases c with
  | some N =>have:=g3 N rfl;simp only;rw[Cj ⟨by rw[h1];omega,by rw[h1];omega⟩,h1,A7]
  | none =>simp only;rw[Cj ⟨by rw[h1];omega,by rw[h1];omega⟩,h1,A7]
 have s3:∀ (K:List (List V)→Option T),(As (some (b,i)) l.length c (some (Iv x2)) none none fun a6 n7 c8=>At R h (.sl R a6 n7 c8) K)=K xs:=fun K=>by
  unfold As EC HT IG;simp only[Aa,zcQ];have ht:x2.toNat=k+1:=by rw[h2];omega
  rw[Cj ⟨by rw[h2];omega,by rw[h2];omega⟩,ht];unfold KX;simp only;have rows:∀ cc:Nq,At R h (.sl R (some (b,i+(k+1))) (l.length - (k+1)) cc) K=K xs:=fun cc=>by
   cases hm:l.length - (k+1) with
   | zero =>have hx0:xs = []:=zbY (by omega);rw[hx0];simp[At,hRR,Bm]
   | succ m =>
    simp only[At,hRR,Do];rw[show D1 h b (i+(k+1)) (m+1)=some xs by
     simp only[D1,Heap.rows?,g1,zcr];rw[Dy (by omega),← hm,hxs]]
    rfl
  cases c with
  | none=>exact rows none
  | some N =>
   have:=g3 N rfl;simp only;cases hb:Nat.beq N (k+1) with
   | false=>rw[Au];exact rows _
   | true =>
    have hN:=zbZ hb;have hm:l.length - (k+1)=0:=by omega
    have hx0:xs = []:=zbY (by omega);rw[An,hx0,hm];simp[At,hRR,Bm]
 have s4:∀ (K:V→Heap→Option T),∃ h11,h11[b]?=some (.rows R e false rs1)∧(∀ X:Blk,h11.set b X=h.set b X)∧CS lo e R bytes (.sl R (some (b,i)) k c) xs h K=K (.sl R (some (b,i)) (l.length - 1) c) h11:=fun K=>by
  cases hx:xs with
  | nil =>
   rw[hx] at e0 hrs1;simp only[zc2] at e0;have hk1:k=l.length - 1:=by omega
   refine ⟨h,?_,fun X=>rfl,?_⟩
   ·rw[g1,← hrs1];simp
   ·simp only[CS];rw[← hk1]
  | cons x0 xr =>
   have hl1:k+(x0 :: xr).length=l.length - 1:=by rw[← hx,e0];omega
   refine ⟨h.set b (.rows R e false rs1),by simp[hblt],fun X=>by rw[zdA],?_⟩;have hst:Ez lo h b (i+k) (x0 :: xr)=some (h.set b (.rows R e false rs1)):=by rw[R7 g1 hlob (by rw[Nat.add_assoc,hl1];omega),← hx,hrs1]
   have hmul':decide ((k+(x0 :: xr).length)*bytes≤Jh)=true:=decide_eq_true (by rw[← hx];exact hmul);have hbb:Nat.blt 0 bytes=true:=by simpa [zdi] using hb
   simp only[CS];rw[hbb,Do,hmul',Do,hRR,Do];cases c with
   | some N =>have:=g3 N rfl;have hle:Nat.ble (k+(x0 :: xr).length) N=true:=Dy (by omega);simp only;rw[hle,hst];rw[hl1];rfl
   | none =>
    have how:Heap.own? lo e h b=some rs:=by simp only[Heap.own?,g1,Dy hlob,Iz]
    have hle:Nat.ble (i+k+(x0 :: xr).length) rs.length=true:=Dy (by rw[Nat.add_assoc,hl1];omega);simp only;rw[how,Af,hle,hst];rw[hl1];rfl
 rw[s1,hx12,Au,s2,s3];obtain ⟨h11,q1,q2,q3⟩:=s4 fun v10 h11=>eS R v10 fun a12 n13 c14=>As a12 (EV h11 a12 n13 c14) c14 (some (Iv (n13:Nat))) (some (Iv (l.length:Nat))) none fun a15 n16 c17=>ZF lo R R true z h11 a15 n16 fun h18=>K (.sl R a12 n13 c14) h18;rw[q3,Ah];have hlen:(l.length - (l.length - 1))=1:=by omega
 have hst:Ez lo h11 b (i+(l.length - 1)) (List.replicate 1 z)=some (h.set b (.rows R e false (rs1.take (i+(l.length - 1)) ++ [z]++rs1.drop (i+(l.length - 1)+1)))):=by rw[R7 q1 hlob (by simp;omega),q2];rfl
 obtain ⟨_,hr11⟩:=hroom h11 rs1 (l.length - 1) q1;generalize EV h11 (some (b,i)) (l.length - 1) c=M1 at hr11;unfold As EC HT IG;simp only[Aa,A7,zcQ];cases c with
 | some N =>
  have:=g3 N rfl;have hne:Nat.beq N (l.length - 1)=false:=by
   cases hb:Nat.beq N (l.length - 1) with
   | false=>rfl
   | true=>have:=zbZ hb;omega
  simp only;rw[Cj ⟨by omega,by omega⟩,Cj ⟨by omega,by omega⟩];unfold KX;simp only;rw[hne,Au,hlen];simp only[ZF,hRR,Bool.and_self,Do,hst,Af]
 | none =>have:=hr11 rfl;simp only;rw[Cj ⟨by omega,by omega⟩,Cj ⟨by omega,by omega⟩];unfold KX;simp only;rw[hlen];simp only[ZF,hRR,Bool.and_self,Do,hst,Af]


variable {l:List Node}
def FL (l:List Node) (k:Nat):List Node:=match l[k]? with
 | some x=>l.set k ⟨x.store,x.wait.eraseIdx 0⟩
 | none=>l
def S6 (l:List Node) (k:Nat):Bool:=match l[k]? with
 | some x=>decide (0<x.wait.length)&&EW l (k+1)
 | none=>false
def A4 (l:List Node) (k:Int):Bool:=Al k 0 ((l.length:Int) - 2)&&S6 l k.toNat
def EF (l:List Node) (k:Nat):List Node:=match l[k]? with
 | some x=>match x.wait[0]? with
  | some v=>HC (FL l k) (k+1) v
  | none=>l
 | none=>l
theorem H9 {k:Nat} (hk:k<l.length):FL l k=l.set k ⟨l[k].store,l[k].wait.eraseIdx 0⟩:=by unfold FL;rw[Dd hk]
theorem KR {k:Nat}:(FL l k).length=l.length:=by unfold FL;split<;>simp
theorem Ii {k:Nat} (hk:k<l.length):S6 l k=(decide (0<l[k].wait.length)&&EW l (k+1)):=by unfold S6;rw[Dd hk]
theorem Sk {k:Nat} (hk:k<l.length) (h0:0<l[k].wait.length):EF l k=HC (FL l k) (k+1) (l[k].wait[0]'h0):=by unfold EF;rw[Dd hk];simp only;rw[Dd h0]
theorem Sli.at2 {α:Type}{El:Rel α} (ok:El.Ok) {h:Heap}{R R' e n k lo:Nat}{a:Pq}{c:Nq}{l:List α}{F:List Nat} (hs:Sli false R e El h [.sl R' a n c] l F) (hk:k<l.length) (hnd:F.Nodup) (hlo:∀ b∈F,lo≤b) :
  ∃ b i rs row G,a=some (b,i)∧b∈F∧b∉G∧h[b]?=some (.rows R e false rs)∧rs[i+k]?=some row∧El h row l[k] G∧(∀ y∈G,y∈F)∧G.Nodup ∧
   (∀ h1 G1 j cs row' x',Mv h G h1 G1→paste row j cs=some row'→El h1 row' x' G1 →
    ∃ h2 F',st lo h1 b (i+k) j cs=some h2∧Sli false R e El h2 [.sl R' a n c] (l.set k x') F'∧Mv h F h2 F'∧(∀ y,y≠b→h2[y]?=h1[y]?)∧∀ y∈F',(y∈F∧y∉G)∨y∈G1):=by
 have hbd:=(Sli.ok ok).bd _ _ _ _ hs;obtain ⟨b,i,rs,row,G,ha,hbF,hbG,hb,hrow,hel,hGF,hGn,put⟩:=hs.put ok.fr hk hnd;have hblt:b<h.length:=hbd b hbF;refine ⟨b,i,rs,row,G,ha,hbF,hbG,hb,hrow,hel,hGF,hGn,fun h1 G1 j cs row' x' m hp hx=>?_⟩;have hbG1:b∉G1:=fun hm=>by
  rcases m.sub b hm with h1 | h1
  ·exact hbG h1
  ·omega
 have hb1:h1[b]?=some (.rows R e false rs):=by rw[m.fr b hblt hbG];exact hb
 have hb1lt:b<h1.length:=zb1 hblt m.le;have e2:=DA hb1 (hlo b hbF) hrow hp;have fr2:∀ y,y≠b→(h1.set b (.rows R e false (rs.set (i+k) row')))[y]?=h1[y]?:=fun y hy=>zbU (Ne.symm hy);obtain ⟨F',p1,p2,p3,_⟩:=put (h1.set b (.rows R e false (rs.set (i+k) row'))) row' x' G1 (by simp[hb1lt]) (fun y hy hyb hyG=>by rw[fr2 y hyb];exact m.fr y (hbd y hy) hyG)
  (ok.fr _ _ _ _ _ hx fun y hy=>fr2 y fun e=>hbG1 (e ▸ hy)) m.nd (fun y hy hyF=>by
  rcases m.sub y hy with h1 | h1
  ·exact h1
  ·have:=hbd y hyF;omega)
 refine ⟨_,F',e2,p1,⟨by simpa using m.le,fun y hy hyF=>?_,p3,fun y hy=>?_⟩,fr2,p2⟩
 ·rw[fr2 y fun e=>hyF (e ▸ hbF)];exact m.fr y hy fun hg=>hyF (hGF y hg)
 ·rcases p2 y hy with h1 | h1
  ·exact .inl h1.1
  ·refine (m.sub y h1).imp (hGF y) fun h=>by simpa using h
section
variable {lo:Nat}{ro:Bool}{h:Heap}{F F' G:List Nat}{a a' av:Pq}{c c' cv:Nq}
theorem YE {l:List Ver} (hs:RVers false h [.sl 6 a l.length c] l F) (h0:0<l.length) (hnd:F.Nodup) (hl:lo≤h.length) (hn:l.length≤1048576) :
  ∃ o s av cv Gv,a=some o∧ld h o.1 (o.2+0) 0 6=some [Iv l[0].key,Iv l[0].tag.time,Iv l[0].tag.place,s,.str l[0].text,.bool l[0].gone]∧(∀ {T:Type} (K:Pq→Nat→Nq→Option T),eS 2 s K=K av l[0].past.length cv)∧RTags false h [.sl 2 av l[0].past.length cv] l[0].past Gv ∧
   ∃ a' c' h' F',(∀ {T:Type} (K:V→Heap→Option T),(As a l.length c (some (Iv 1)) none none fun a n c=>At 6 (h ++ [.rows 6 34 false []]) (.sl 6 a n c) fun xs=>CS lo 34 6 72 (.sl 6 (some (h.length,0)) 0 (some 0)) xs (h ++ [.rows 6 34 false []]) K)=K (.sl 6 a' (l.eraseIdx 0).length c') h') ∧
    RVers false h' [.sl 6 a' (l.eraseIdx 0).length c'] (l.eraseIdx 0) F'∧Mv h F h' F'∧(∀ y∈Gv,y∉F'∧y∈F)∧∀ y,y<h.length→h'[y]?=h[y]?:=by
 have hbd:=rvers_ok.bd _ _ _ _ hs;obtain ⟨R1,a1,c1,e1,g⟩:=hs;injection e1 with e1 _;injection e1 with e0 e2 _ e3;subst e2;subst e3;cases a with
 | none=>obtain ⟨rfl,_⟩:=g;simp at h0
 | some p =>
 obtain ⟨b,i⟩:=p;obtain ⟨_,rs,Fs,g1,g2,g3,_,g5,rfl⟩:=g;obtain ⟨row,Fk,hrow,hFk,hel⟩:=g5.get (Dd h0);rw[zbV] at hnd;obtain ⟨f1,f2⟩:=I5 hFk hnd.2;have hri:rs[i]?=some row:=by rw[zcs,if_pos h0,zcj] at hrow;exact hrow
 obtain ⟨s,av,cv,rfl,es,hp⟩:=hel.form;have hil:i<rs.length:=by omega
 have hcut:((rs.drop i).take l.length).eraseIdx 0=(rs.drop (i+1)).take (l.length - 1):=by rw[zca hil,show l.length=(l.length - 1)+1 by omega,List.take_succ_cons,List.eraseIdx_cons_zero];simp
 have g6:=g5.erase 0;rw[hcut] at g6;have hlen:=zcx h0;generalize hxs:(rs.drop (i+1)).take (l.length - 1)=xs at g6;have hxl:xs.length=l.length - 1:=by rw[← hlen];exact g6.len.1
 have m0:Mv h [] (h ++ [.rows 6 34 false []]) [h.length]:=Mv.last;have hb1:(h ++ [.rows 6 34 false []])[b]?=some (.rows 6 (MF false) false rs):=by rw[m0.fr b (hbd b (by simp)) (by simp)];exact g1
 have s3:∀ {T:Type} (K:List (List V)→Option T),(As (some (b,i)) l.length c (some (Iv 1)) none none fun a6 n7 c8=>At 6 (h ++ [.rows 6 34 false []]) (.sl 6 a6 n7 c8) K)=K xs:=fun K=>by
  unfold As EC HT IG;simp only[Aa,zcQ];rw[Cj ⟨by omega,by omega⟩,show ((1:Int)).toNat=1 from rfl];have key:∀ c8:Nq,At 6 (h ++ [.rows 6 34 false []]) (.sl 6 (some (b,i+1)) (l.length - 1) c8) K=K xs:=fun c8=>by
   simp only[At,Iz,Do];cases hm:l.length - 1 with
   | zero =>have hx0:xs = []:=zbY (by omega);rw[hx0]
   | succ m =>
    simp only;rw[show D1 (h ++ [.rows 6 34 false []]) b (i+1) (m+1)=some xs by
     simp only[D1,Heap.rows?,hb1,zcr];rw[Dy (by omega),← hm,hxs]]
    rfl
  cases c with
  | none=>exact key none
  | some N =>
   obtain ⟨hN,_⟩:=g3 N rfl;unfold KX;simp only;cases hb:Nat.beq N 1 with
   | false=>rw[Au];exact key _
   | true =>have:=zbZ hb;have hx0:xs = []:=zbY (by omega);rw[An,show l.length - 1=0 by omega,hx0];simp[At,Bm]
 have hfl:∀ y∈(Fs.eraseIdx 0).flatten,y<h.length:=fun y hy=>hbd y (by simp[(f2 y hy).1]);refine ⟨(b,i),s,av,cv,Fk,rfl,by rw[BB g1 (by rw[zcG];exact hri)];rfl,es,hp,?_⟩;have hFkb:∀ y∈Fk,y∈Fs.flatten:=fun y hy=>Fo hFk hy;by_cases he:l.eraseIdx 0 = []
 ·have hx0:xs = []:=zbY (by rw[hxl,← hlen,he];rfl);refine ⟨some (h.length,0),some 0,_,[h.length],fun K=>by rw[s3,hx0];simp only[CS];rw[he];rfl,by rw[he];exact Sli.fresh (zbR _),?_,fun y hy=>?_,fun y hy=>m0.fr y hy (by simp)⟩
  ·exact m0.wide (by simp)
  ·have:=hbd y (by simp[hFkb y hy]);exact ⟨by simp;omega,by simp[hFkb y hy]⟩
 ·have hfresh:RVers false (h ++ [.rows 6 (MF false) false []]) [.sl 6 (some (h.length,0)) 0 (some 0)] [] [h.length]:=Sli.fresh (zbR _);obtain ⟨a',c',h',F',p1,p2,p3,p4,p5,p6⟩:=Sli.push (lo:=lo) (bytes:=72) rver_ok.fr hfresh (xs:=xs) (ys:=l.eraseIdx 0) (Gs:=Fs.eraseIdx 0) (g6.fr rver_ok.fr fun y hy=>m0.fr y (hfl y hy) (by simp)) (by decide) (by rw[hlen];simp;omega) (by simp;omega) (by simp;omega)
   (by rw[zcm,zco,zbV];exact ⟨fun hm=>by have:=hfl _ hm;omega,f1⟩) (fun y hy=>by
    rw[zcm,zco,zb0] at hy;rcases hy with rfl | hy
    ·simp
    ·have:=hfl y hy;simp;omega) he
  simp only[zc2,zcl,zco] at p1 p2;have hfr:∀ y,y<h.length→h'[y]?=h[y]?:=fun y hy=>by rw[p4 y (by simp;omega) (by simp;omega)];exact m0.fr y hy (by simp)
  refine ⟨a',c',h',F',fun K=>by rw[s3];exact p1 K,p2,⟨by simp at p3;omega,fun y hy _=>hfr y hy,p6,fun y hy=>?_⟩,fun y hy=>⟨fun hm=>?_,by simp[hFkb y hy]⟩,hfr⟩
  ·simp at p3;rcases p5 y hy with g | g
   ·rw[zcm,zco,zb0] at g;rcases g with rfl | g
    ·exact .inr (by omega)
    ·exact .inl (by simp[(f2 y g).1])
   ·simp at g;exact .inr (by omega)
  ·have hyl:=hbd y (by simp[hFkb y hy]);rcases p5 y hm with g | g
   ·rw[zcm,zco,zb0] at g;rcases g with rfl | g
    ·omega
    ·exact (f2 y g).2 hy
   ·simp at g;omega
theorem Lm {k:Int} (hs:RNodes ro h [.sl 2 a l.length c] l F) (hn:l.length≤1048576):Ae lo 102 [.agg [.sl 2 a l.length c],Iv k] h=some (.bool (A4 l k),h):=by
 refine TQ (h':=h) ?_;rw[wr (by omega) (by omega),By,Ac,Av];unfold A4;cases hw:Al k 0 ((l.length:Int) - 2) with
 | false=>rw[Au];rfl
 | true =>
 simp only[Al,Dm,decide_eq_true_eq] at hw;obtain ⟨f,rfl⟩:∃ f:Nat,k=(f:Int):=⟨k.toNat,by omega⟩;have hk:f<l.length:=by omega
 have hk1:f+1<l.length:=by omega
 obtain ⟨o,s1,s2,b1,d1,b2,d2,G1,G2,ha,_,_,ho2,_,e2,_⟩:=hs.get hk;obtain ⟨o',s1',s2',b1',d1',b2',d2',G1',G2',ha',_,_,ho2',_,e2',_⟩:=hs.get hk1;have:o=o':=by rw[ha] at ha';injection ha'
 subst this;rw[A7,Ii hk,Ig hk1,An,Ad hk,ha,Af,ho2,Af,Ab,Ag,e2];by_cases h0:0<l[f].wait.length
 ·rw[Ak (by omega),Am (by omega),Ad hk1,Af,A7,ho2',Af,Ab,Ag,e2',decide_eq_true h0];by_cases h6:l[f+1].wait.length<6
  ·rw[Ak (by omega),decide_eq_true h6];rfl
  ·rw[Ai (by omega),decide_eq_false h6];rfl
 ·rw[Ai (by omega),decide_eq_false h0];rfl
def V2 (x:Node):Prop:=FW 20 x∧∀ v∈x.wait,0≤v.key∧v.key≤3
theorem Kd {k:Nat} (hs:RNodes false h [.sl 2 a l.length c] l F) (hk:k+1<l.length) (h0:0<(l[k]'(by omega)).wait.length) (hnd:F.Nodup) (hlo:∀ b∈F,lo≤b) (hl:lo≤h.length) (hn:Ci l) (hx:∀ x∈l,V2 x) :
  ∃ h' F',Ae lo 103 [.agg [.sl 2 a l.length c],Iv (k:Nat)] h=some (.agg [.sl 2 a l.length c],h')∧RNodes false h' [.sl 2 a l.length c] (EF l k) F'∧Mv h F h' F':=by
 have hk':k<l.length:=by omega
 have hn1:=hn.1;suffices hq:∃ h' F',_=some (V.agg [.sl 2 a l.length c],h')∧RNodes false h' [.sl 2 a l.length c] (EF l k) F'∧Mv h F h' F' from hq.imp fun h' hq=>hq.imp fun F' hq=>⟨Rz hq.1,hq.2⟩
 obtain ⟨b,i,rs,row,G0,ha,hbF,hbG,hb,hrow,hel,hGF,hGn,put⟩:=hs.at2 rnode_ok hk' hnd hlo;obtain ⟨t1,t2,F1,F2,rfl,rfl,r1,r2⟩:=hel;obtain ⟨a2,c2,e2,r2'⟩:=r2.form;have hGn0:=hGn;rw[zbQ] at hGn;obtain ⟨o,s,av,cv,Gv,ho,hld,es,hp,a3,c3,h3,F3,e3,r3,m3,hGv,fr3⟩:=YE (lo:=lo) r2' h0 hGn.2.1 hl (hn.2 _ (zbO hk')).2.1;have b1:∀ y∈F1,y<h.length:=rvers_ok.bd _ _ _ _ r1;have m4:=(m3.aside (G:=F1) (by rw[zbQ];exact ⟨hGn.2.1,hGn.1,fun x hx y hy e=>hGn.2.2 y hy x hx e.symm⟩) b1).swap;have r1':RVers false h3 [t1] l[k].store F1:=rvers_ok.fr _ _ _ _ _ r1 fun y hy=>fr3 y (b1 y hy);obtain ⟨h4,F4,e4,r4,m5,fr4,sub4⟩:=put h3 (F1++F3) 1 [.sl 6 a3 (l[k].wait.eraseIdx 0).length c3] [t1,.sl 6 a3 (l[k].wait.eraseIdx 0).length c3] ⟨l[k].store,l[k].wait.eraseIdx 0⟩ m4 rfl ⟨_,_,F1,F3,rfl,rfl,r1',r3⟩;rw[← H9 hk'] at r4;have hln:=KR (l:=l) (k:=k);have hGvG:∀ y∈Gv,y∈F1++F2:=fun y hy=>by simp[(hGv y hy).2]
 have hGvl:∀ y∈Gv,y<h.length:=rtags_ok.bd _ _ _ _ hp;have hd:∀ y∈Gv,y∉F4:=fun y hy hm=>by
  rcases sub4 y hm with g | g
  ·exact g.2 (hGvG y hy)
  ·rcases zbP.1 g with g | g
   ·exact hGn.2.2 y g y (hGv y hy).2 rfl
   ·exact (hGv y hy).1 g
 have hp4:RTags false h4 [.sl 2 av (l[k].wait[0]'h0).past.length cv] (l[k].wait[0]'h0).past Gv:=rtags_ok.fr _ _ _ _ _ hp fun y hy=>by rw[fr4 y fun e=>hbG (by rw[← e];exact hGvG y hy),fr3 y (hGvl y hy)]
 have hpx:=hx _ (zbO hk');have hky:=hpx.2 _ (zbO h0);have hth:=hpx.1.2.2.2 _ (zbO h0);have hk1:k+1<(FL l k).length:=by rw[hln];exact hk
 have hst1:(FL l k)[k+1].store.length=4:=by
  have:(FL l k)[k+1]=l[k+1]:=by have e:=H9 hk';rw[zdB e,List.getElem_set_ne (by omega)]
  rw[this];exact (hx _ (zbO hk)).1.1
 have hnd5:Ci (FL l k):=by
  refine ⟨by rw[hln];exact hn1,fun x hx'=>?_⟩;rw[H9 hk'] at hx';rcases zcb hx' with hx' | rfl
  ·exact hn.2 x hx'
  ·have:=hn.2 _ (zbO hk');exact ⟨this.1,PN this.2 (zbN (zda _ _) this.2.1) fun v hv=>zcN hv⟩
 rw[← hln] at r4;obtain ⟨h5,F5,e5,r5,m6⟩:=Lo (lo:=lo) (k:=k+1) (v:=l[k].wait[0]'h0) r4 hp4 hd m5.nd (fun y hy=>m5.ge hl hlo y hy) (zbN hl m5.le) hk1 ⟨hky.1,by omega⟩ hnd5 (by have:=hth.1;omega);rw[hln] at e5 r5;rw[← Sk hk' h0] at r5;have hblt:b<h.length:=(Fh hb).1;have ld1:ld h b (i+k) 1 1=some [t2]:=by rw[BB hb hrow];rfl
 have ld2:ld (h ++ [.rows 6 34 false []]) b (i+k) 1 1=some [t2]:=by rw[BB (by rw[zbS hblt];exact hb) hrow];rfl
 simp only[Ver.cs] at e5;have e5':Ae lo 193 [.agg [.sl 2 a l.length c],Iv ((k:Nat)+1:Int),.agg [Iv (l[k].wait[0]'h0).key,Iv (l[k].wait[0]'h0).tag.time,Iv (l[k].wait[0]'h0).tag.place,.sl 2 av (l[k].wait[0]'h0).past.length cv,.str (l[k].wait[0]'h0).text,.bool (l[k].wait[0]'h0).gone]] h4=some (.agg [.sl 2 a l.length c],h5):=by rw[show ((k:Nat)+1:Int)=((k+1:Nat):Int) by omega];exact e5
 rw[Ad hk',ha,Af,A7,ld1,Af,Ab,Ag,e2,Cl ⟨by omega,by omega⟩,ho,Af,hld,Af,Ab,Aa,Ab,Aa,Ab,Aa,Ab,es,Ab,A8,Ab,Aw,Ag,Ad hk',Af,ld2,Af,Ab,Ag,e2,e3,Ah,Ad hk',Af,e4,Af,wr (n:=((k:Nat):Int)+1) (by omega) (by omega),← ha,e5',Ac,AC,Ab,Ah,Ag];exact ⟨h5,F5,rfl,r5,m5.trans m6⟩
end


theorem PS {a:Option (List V)}:HP a a=true:=by unfold HP;exact (@decide_eq_true_iff _ (_)).2 rfl
section
variable {lo:Nat}{ro:Bool}{h:Heap}{F F' G:List Nat}{a a' av:Pq}{c c' cv:Nq}
theorem Th {l:List Ver} (hs:RVers false h [.sl 6 a l.length c] l F) (h0:0<l.length) (hnd:F.Nodup) (hlo:∀ b∈F,lo≤b) (hn:l.length≤1048576) :
  ∃ o s av cv Gv,a=some o∧ld h o.1 (o.2+0) 0 6=some [Iv l[0].key,Iv l[0].tag.time,Iv l[0].tag.place,s,.str l[0].text,.bool l[0].gone]∧(∀ {T:Type} (K:Pq→Nat→Nq→Option T),eS 2 s K=K av l[0].past.length cv)∧RTags false h [.sl 2 av l[0].past.length cv] l[0].past Gv ∧
   ∃ h' F',Ae lo 268 [.sl 6 a l.length c,Iv 0,Iv 1] h=some (.sl 6 a (l.length - 1) c,h')∧RVers false h' [.sl 6 a (l.length - 1) c] (l.eraseIdx 0) F'∧Mv h F h' F'∧(∀ y∈Gv,y∉F'∧y∈F)∧∀ y,y≠o.1→h'[y]?=h[y]?:=by
 obtain ⟨h',F',Gv,b,i,row,ha,hld,hel,hG,e,r,m,fr⟩:=Sli.del (lo:=lo) (bytes:=72) (e:=34) (z := [Iv 0,Iv 0,Iv 0,.sl 0 none 0 (some 0),.str ⟨⟨[]⟩⟩,.bool false]) (x1:=0) (x2:=1) (T:=V×Heap) rver_ok hs h0 hnd hlo rfl rfl (by decide) (by omega) (some (.sl 6 a l.length c,h)) (fun v h=>some (v,h));obtain ⟨s,av,cv,rfl,es,hp⟩:=hel.form;exact ⟨(b,i),s,av,cv,Gv,ha,hld,es,hp,h',F',FO e,r,m,fun y hy=>⟨(hG y hy).2.1,(hG y hy).1⟩,fr⟩
theorem X2 {b i j R e:Nat}{rs:List (List V)}{row:List V}{l:List Node}{k:Int} (hb:h[b]?=some (.rows R e false rs)) (hrow:rs[i]?=some row) (hcell:row[j]?=some (.sl 2 a l.length c)) (hs:RNodes false h [.sl 2 a l.length c] l F) (hbF:b∉F)
  (hnd:F.Nodup) (hlo:∀ b∈F,lo≤b) (hl:lo≤h.length) (hn:Ci l) (hx:∀ x∈l,V2 x) :
  ∃ h' F',Ae lo 197 [.ptr (some (b,(i,j))),Iv k] h=some (.bool (A4 l k),h')∧RNodes false h' [.sl 2 a l.length c] (bif A4 l k then EF l k.toNat else l) F'∧Mv h F h' F':=by
 have hn1:=hn.1;suffices hq:∃ h' F',_=some (V.bool (A4 l k),h')∧RNodes false h' [.sl 2 a l.length c] (bif A4 l k then EF l k.toNat else l) F'∧Mv h F h' F' from hq.imp fun h' hq=>hq.imp fun F' hq=>⟨M9 hq.1,hq.2⟩
 have hld:∀ hh:Heap,hh[b]?=some (.rows R e false rs)→ld hh b i (j+0) 1=some [.sl 2 a l.length c]:=fun hh hb=>by rw[BB hb hrow];exact JP hcell
 have hblt:b<h.length:=(Fh hb).1;have stay:A4 l k=false→∃ h' F',some (V.bool false,h)=some (V.bool (A4 l k),h')∧RNodes false h' [.sl 2 a l.length c] (bif A4 l k then EF l k.toNat else l) F'∧Mv h F h' F':=fun hc=>by rw[hc];exact ⟨h,F,rfl,hs,Mv.refl hnd⟩
 have hcd:A4 l k=(Al k 0 ((l.length:Int) - 2)&&S6 l k.toNat):=rfl;rw[hld h hb,Af,Ab,Ag,Ah,wr (by omega) (by omega),DB,Ac,Av];cases hw:Al k 0 ((l.length:Int) - 2) with
 | false=>rw[Au];exact stay (by rw[hcd,hw];rfl)
 | true =>
 rw[hw,zb8] at hcd;simp only[Al,Dm,decide_eq_true_eq] at hw;obtain ⟨f,rfl⟩:∃ f:Nat,k=(f:Int):=⟨k.toNat,by omega⟩;have hk:f+1<l.length:=by omega
 have hk':f<l.length:=by omega
 rw[A7,Ii hk'] at hcd;rw[A7] at stay ⊢;obtain ⟨b0,i0,rs0,row0,G0,ha,hbF0,hbG,hb0,hrow0,hel,hGF,hGn,put⟩:=hs.at2 rnode_ok hk' hnd hlo;obtain ⟨t1,t2,F1,F2,rfl,rfl,r1,r2⟩:=hel;obtain ⟨aw,cw,es2,r2⟩:=r2.form;have ld1:∀ hh:Heap,hh[b0]?=some (.rows 2 (OF false) false rs0)→ld hh b0 (i0+f) 1 1=some [t2]:=fun hh hb0=>by rw[BB hb0 hrow0];rfl
 rw[An,hld h hb,Af,Ab,Ag,Ah,Ad hk',ha,Af,ld1 h hb0,Af,Ab,Ag,es2];by_cases h0:0<l[f].wait.length
 ·rw[decide_eq_true h0,zb8] at hcd;rw[show ((l[f].wait.length:Int)==0)=false by rw[beq_eq_false_iff_ne];omega,Au,Am (by omega)];have hfu:Ae lo 201 [.ptr (some (b,(i,j))),Iv ((f+1:Nat):Int)] h=some (.bool (!EW l (f+1)),h):=X3 (hld h hb) hs hk;rw[hfu,Ac,Av];cases hr:EW l (f+1) with
  | false=>rw[zcR,An,← ha];exact stay (by rw[hcd,hr])
  | true =>
  rw[hr] at hcd;have hGn0:=hGn;rw[zbQ] at hGn;obtain ⟨o,s,av,cv,Gv,ho,hldv,es,hp,h3,F3,e3,r3,m3,hGv,fr3⟩:=Th (lo:=lo) r2 h0 hGn.2.1 (fun y hy=>hlo y (hGF y (by simp[hy]))) (hn.2 _ (zbO hk')).2.1;have b1:∀ y∈F1,y<h.length:=rvers_ok.bd _ _ _ _ r1;have m4:=(m3.aside (G:=F1) (by rw[zbQ];exact ⟨hGn.2.1,hGn.1,fun x hx y hy e=>hGn.2.2 y hy x hx e.symm⟩) b1).swap;have r1':RVers false h3 [t1] l[f].store F1:=m3.keep rvers_ok r1 fun y hy hm=>hGn.2.2 y hy y hm rfl;have hlen:=zcx h0;have r3c:=r3.clip;rw[← hlen] at r3c;obtain ⟨h4,F4,e4,r4,m5,fr4,sub4⟩:=put h3 (F1++F3) 1 [.sl 6 aw (l[f].wait.eraseIdx 0).length (some (l[f].wait.eraseIdx 0).length)] [t1,.sl 6 aw (l[f].wait.eraseIdx 0).length (some (l[f].wait.eraseIdx 0).length)] ⟨l[f].store,l[f].wait.eraseIdx 0⟩ m4 rfl ⟨_,_,F1,F3,rfl,rfl,r1',r3c⟩;rw[← H9 hk'] at r4;have hln:=KR (l:=l) (k:=f);have hGvG:∀ y∈Gv,y∈F1++F2:=fun y hy=>by simp[(hGv y hy).2]
  have hd:∀ y∈Gv,y∉F4:=fun y hy hm=>by
   rcases sub4 y hm with g | g
   ·exact g.2 (hGvG y hy)
   ·rcases zbP.1 g with g | g
    ·exact hGn.2.2 y g y (hGv y hy).2 rfl
    ·exact (hGv y hy).1 g
  have hoG:o.1∉Gv:=fun hm=>(hGv o.1 hm).1 (by
   obtain ⟨R1,a1,c1,q1,q2⟩:=r3;injection q1 with q1 _;injection q1 with _ q1 _ _;subst q1;subst ho;obtain ⟨_,_,_,_,_,_,_,_,q⟩:=q2;rw[q];simp)
  have hp4:RTags false h4 [.sl 2 av (l[f].wait[0]'h0).past.length cv] (l[f].wait[0]'h0).past Gv:=rtags_ok.fr _ _ _ _ _ hp fun y hy=>by rw[fr4 y fun e=>hbG (by rw[← e];exact hGvG y hy),fr3 y fun e=>hoG (by rw[← e];exact hy)]
  have hpx:=hx _ (zbO hk');have hky:=hpx.2 _ (zbO h0);have hth:=hpx.1.2.2.2 _ (zbO h0);have hk1:f+1<(FL l f).length:=by rw[hln];exact hk
  have hst1:(FL l f)[f+1].store.length=4:=by
   have:(FL l f)[f+1]=l[f+1]:=by have e:=H9 hk';rw[zdB e,List.getElem_set_ne (by omega)]
   rw[this];exact (hx _ (zbO hk)).1.1
  have hnd5:Ci (FL l f):=by
   refine ⟨by rw[hln];exact hn1,fun x hx'=>?_⟩;rw[H9 hk'] at hx';rcases zcb hx' with hx' | rfl
   ·exact hn.2 x hx'
   ·have:=hn.2 _ (zbO hk');exact ⟨this.1,PN this.2 (zbN (zda _ _) this.2.1) fun v hv=>zcN hv⟩
  have hb3:h3[b]?=some (.rows R e false rs):=by rw[m3.fr b hblt fun hm=>hbF (hGF b (by simp[hm]))];exact hb
  have hb4:h4[b]?=some (.rows R e false rs):=by rw[fr4 b fun e=>hbF (by rw[e];exact hbF0)];exact hb3
  have hbF4:b∉F4:=fun hm=>by
   rcases m5.sub b hm with g | g
   ·exact hbF g
   ·omega
  have hcell4:row[j]?=some (.sl 2 a (FL l f).length c):=by rw[hln];exact hcell
  rw[← hln] at r4;obtain ⟨h5,F5,e5,r5,m6⟩:=We (lo:=lo) (k:=f+1) (v:=l[f].wait[0]'h0) hb4 hrow hcell4 r4 hbF4 hp4 hd m5.nd (fun y hy=>m5.ge hl hlo y hy) (zbN hl m5.le) hk1 ⟨hky.1,by omega⟩ hnd5 (by have:=hth.1;omega);rw[hln,← Sk hk' h0] at r5;simp only[Ver.cs] at e5;have hclip:Ae lo 172 [.sl 6 aw (l[f].wait.length - 1) cw] h3=some (.sl 6 aw (l[f].wait.length - 1) (some (l[f].wait.length - 1)),h3):=MJ r3;rw[hlen] at e4;have hb3':h3[b0]?=h3[b0]?:=rfl;rw[zcE,Au,hld h hb,Af,Ab,Ag,Ah,ha,Ad hk',Af,ld1 h hb0,Af,Ab,Ag,es2,Cl ⟨by omega,by omega⟩,ho,Af,hldv,Af,Ab,Aa,Ab,Aa,Ab,Aa,Ab,es,Ab,A8,Ab,Aw,Ag,
   Af,Ab,Ag,Ah,Af,Ab,Ag,Ah,PS,Do,Ad hk',Af,ld1 h hb0,Af,Ab,Ag,es2,Do,e3,Ac,Ah,hld h3 hb3,← ha,PS,Do,hclip,Ac,Ah,hld h3 hb3,PS,Do,Ad hk',ha,Af,e4,Af,e5,Ac,Ge,Ag,← ha]
  rw[hcd,cond_true];exact ⟨h5,F5,rfl,r5,m5.trans m6⟩
 ·rw[decide_eq_false h0,zcZ] at hcd;rw[show ((l[f].wait.length:Int)==0)=true by rw[beq_iff_eq];omega,An,← ha];exact stay hcd
end


variable {p:Place}
def FV (p:Place) (k:Nat):Place:=⟨p.me,p.clock,EF p.chain k,p.log,p.got,p.fell⟩
def Bo (p:Place) (k:Int):Place:=bif A4 p.chain k then BL (FV p k.toNat) else p
theorem passN_len {l:List Node}{k:Nat}:(EF l k).length=l.length:=by
 unfold EF;split
 ·split
  ·rw[addN_len,KR]
  ·rfl
 ·rfl
theorem Nl {nc nw nl k:Nat} (h:Tidy nc nw nl p):Tidy nc (nw+1) nl (FV p k):=by
 have h0:Tidy nc (nw+1) nl p:=⟨h.len,fun x hx=>by have:=h.node x hx;exact ⟨this.1,Nat.le_succ_of_le this.2.1,this.2.2⟩,h.log,h.got⟩;unfold FV EF;split
 ·rename_i x hk
  split
  ·rename_i v hv
   have hxm:=zcc hk;have hd:Tidy nc nw nl ⟨p.me,p.clock,FL p.chain k,p.log,p.got,p.fell⟩:=by
    refine ⟨by show (FL p.chain k).length≤nc;rw[KR];exact h.len,fun y hy=>?_,h.log,h.got⟩;have hy:y∈FL p.chain k:=hy;unfold FL at hy;rw[hk] at hy;rcases zcb hy with hy | rfl
    ·exact h.node y hy
    ·obtain ⟨g1,g2,g3,g4⟩:=h.node x hxm;exact ⟨g1,zbN (zda _ _) g2,g3,fun v hv=>g4 v (zcN hv)⟩
   exact Ue hd ((h.node x hxm).2.2.2 v (zcc hv))
  ·exact h0
 ·exact h0
theorem Mh (h:Ao p=true):∀ x∈p.chain,V2 x:=fun x hx=>by have hno:=(BY (AK h).2.2.2.1).2 x hx;have ht:=KN hno;exact ⟨⟨ht.1,zbN ht.2.1 (by decide),ht.2.2⟩,fun v hv=>(AN ((Ay hno).2.2 v hv)).1⟩
theorem KI {nc nw nl:Nat} (h:Tidy nc nw nl p) (h1:nc≤10) (h2:nw≤20) (h3:nl≤100):Tidy 10 20 100 p :=
 ⟨zbN h.len h1,fun x hx=>by have:=h.node x hx;exact ⟨this.1,zbN this.2.1 h2,this.2.2⟩,⟨zbN h.log.1 h3,h.log.2⟩,h.got.1,fun l hl=>⟨zbN (h.got.2 l hl).1 h3,(h.got.2 l hl).2⟩⟩
theorem Jy {h h1 h2:Heap}{G1 G1' G2 G2' G3:List Nat} (m1:Mv h G1 h1 G1') (m2:Mv h1 G2 h2 G2') (hnd:(G1++(G2++G3)).Nodup) (hb:∀ y∈G1++(G2++G3),y<h.length) :
  Mv h (G1++(G2++G3)) h2 (G1'++(G2'++G3))∧(∀ y∈G1',y∉G2)∧(∀ y∈G3,y∉G1)∧∀ y∈G3,y∉G2:=by
 rw[zbQ,zbQ] at hnd;obtain ⟨n2,⟨n3,n4,n5⟩,n6⟩:=hnd;have hb1:∀ y∈G1,y<h.length:=fun y hy=>hb y (by simp[hy]);have hb2:∀ y∈G2,y<h.length:=fun y hy=>hb y (by simp[hy]);have hb3:∀ y∈G3,y<h.length:=fun y hy=>hb y (by simp[hy]);have l1:=m1.le;have l2:=m2.le;have d1:∀ y∈G1',y∉G2:=fun y hy hm=>by
  rcases m1.sub y hy with g | g
  ·exact n6 y g y (by simp[hm]) rfl
  ·have:=hb2 y hm;omega
 have d2:∀ y∈G3,y∉G1:=fun y hy hm=>n6 y hm y (by simp[hy]) rfl;have d3:∀ y∈G3,y∉G2:=fun y hy hm=>n5 y hm y hy rfl;have s1:∀ y∈G1',y<h1.length:=m1.lt hb1;refine ⟨⟨by omega,fun y hy hF=>?_,?_,fun y hy=>?_⟩,d1,d2,d3⟩
 ·simp only[zbP,not_or] at hF;rw[m2.fr y (by omega) hF.2.1,m1.fr y hy hF.1]
 ·rw[zbQ,zbQ];refine ⟨m1.nd,⟨m2.nd,n4,fun x hx y hy e=>?_⟩,fun x hx y hy e=>?_⟩
  ·subst e;rcases m2.sub x hx with g | g
   ·exact d3 x hy g
   ·have:=hb3 x hy;omega
  ·subst e;rcases zbP.1 hy with hy | hy
   ·rcases m2.sub x hy with g | g
    ·exact d1 x hx g
    ·have:=s1 x hx;omega
   ·rcases m1.sub x hx with g | g
    ·exact d2 x hy g
    ·have:=hb3 x hy;omega
 ·simp only[zbP] at hy ⊢;rcases hy with hy | hy | hy
  ·rcases m1.sub y hy with g | g
   ·exact .inl (.inl g)
   ·exact .inr ⟨g.1,by omega⟩
  ·rcases m2.sub y hy with g | g
   ·exact .inl (.inr (.inl g))
   ·exact .inr ⟨by omega,g.2⟩
  ·exact .inl (.inr (.inr hy))
section
variable {lo:Nat}{h:Heap}{F F':List Nat}{a a':Pq}{c c':Nq}
theorem JA {a1 a2 a3:Pq}{c1 c2 c3:Nq}{F1 F2:List Nat} (hs1:RNodes false h [.sl 2 a1 p.chain.length c1] p.chain F1) (hs2:RVers false h [.sl 6 a2 p.log.length c2] p.log F2)
  (h0:0<p.chain.length) (ht:Tidy 10 20 100 p) (hd:∀ b∈F1,b∉F2) (hnd:F2.Nodup) (hlo:∀ b∈F2,lo≤b) (hl:lo≤h.length) :
  ∃ a2' c2' h' F2',Ae lo 104 [.agg (p.cs a1 c1 a2 c2 a3 c3)] h=some (.agg ((BL p).cs a1 c1 a2' c2' a3 c3),h')∧RVers false h' [.sl 6 a2' (BL p).log.length c2'] (BL p).log F2'∧Mv h F2 h' F2':=by
 obtain ⟨x,hx,hxe⟩:=Lv h0;have hxn:=ht.node x hx;exact Og hs1 hs2 h0 (by rw[hxe];exact hxn.1) hd hnd hlo hl (zbN ht.len (by decide)) (zbN ht.log.1 (by decide)) (fun w hw=>by rw[hxe] at hw;have:=(hxn.2.2.1 w hw).1;omega)
theorem PK {cs:List V}{k:Int} (hp:BZ false h cs p F) (hl:lo≤h.length) (hn:CT p) :
  ∃ raw r h' F',Ae lo 35 [.agg cs,Iv k] h=some (.tup [.agg raw,.bool (Ao p&&A4 p.chain k)],h')∧ID raw (DT p (Bo p k)) r∧BZ false h' r (DT p (Bo p k)) F'∧Mv h [] h' F':=by
 obtain ⟨a1,c1,a2,c2,a3,c3,rfl,hp⟩:=hp;obtain ⟨F1,F2,F3,_,h1,h2,h3⟩:=hp.cells;suffices hk:∃ raw r h' F',_=some (V.tup [.agg raw,.bool (Ao p&&A4 p.chain k)],h')∧ID raw (DT p (Bo p k)) r∧BZ false h' r (DT p (Bo p k)) F'∧Mv h [] h' F' from by obtain ⟨raw,r,h',F',e,hr⟩:=hk;exact ⟨raw,r,h',F',N1 e,hr⟩
 rw[R9 h1 h2 h3 hn,Ac,Av];unfold DT;cases hpo:Ao p with
 | false =>rw[Au];obtain ⟨raw,r,rfl,n1,n2⟩:=Kn (hh:=h);exact ⟨_,r,h,[],rfl,n1,n2,Mv.nil⟩
 | true =>
 obtain ⟨raw,b1,d1,b2,d2,b3,d3,h4,F4,e4,n4,r4,m4⟩:=JB (lo:=lo) h1 h2 h3 hl hn;obtain ⟨s1,s2,s3,q1,q2,q3,q4,q5,q6,rfl,n1,n2,n3,eq⟩:=n4;obtain ⟨rfl,rfl,rfl,rfl,rfl,rfl⟩:=Ww eq;have r4':=r4;obtain ⟨G1,G2,G3,rfl,g1,g2,g3⟩:=r4'.cells;rw[An,e4,Ac,AC,Ab,Aa,Ab,Aa,Ab,n1,Ab,n2,Ab,n3,Ab,Aw,Ag,Lm (m4.keep0 rnodes_ok h1) hn.1.1,Ac,Av];unfold Bo;cases hc:A4 p.chain k with
 | false =>rw[Au];exact ⟨p.cs b1 d1 b2 d2 b3 d3,_,h4,_,rfl,EH,⟨_,_,_,_,_,_,rfl,r4⟩,m4⟩
 | true =>
  have hc':=hc;unfold A4 at hc';rw[Dm] at hc';obtain ⟨hw,hps⟩:=hc';simp only[Al,Dm,decide_eq_true_eq] at hw;obtain ⟨f,rfl⟩:∃ f:Nat,k=(f:Int):=⟨k.toNat,by omega⟩;rw[A7] at hps;have hk':f<p.chain.length:=by omega
  rw[Ii hk',Dm,decide_eq_true_eq] at hps;have nd:=m4.nd;have nd':=nd;rw[zbQ,zbQ] at nd';obtain ⟨nd1,⟨nd2,nd3,Sq⟩,nd5⟩:=nd';have hlo4:∀ y∈G1++(G2++G3),lo≤y:=fun y hy=>by have:=m4.new y hy;omega
  have hbd4:∀ y∈G1++(G2++G3),y<h4.length:=fun y hy=>by
   simp only[zbP] at hy;rcases hy with hy | hy | hy
   ·exact rnodes_ok.bd _ _ _ _ g1 y hy
   ·exact rvers_ok.bd _ _ _ _ g2 y hy
   ·exact rvss_ok.bd _ _ _ _ g3 y hy
  obtain ⟨h5,F5,e5,r5,m5⟩:=Kd (lo:=lo) g1 (by omega) hps.1 nd1 (fun y hy=>hlo4 y (by simp[hy])) (zbN hl m4.le) hn.1 (Mh hpo);have g25:=m5.keep rvers_ok g2 fun y hy hm=>nd5 y hm y (by simp[hy]) rfl;have ht:=KI (Nl (k:=f) (Cg hpo)) (by decide) (by decide) (by decide);rw[← passN_len (k:=f)] at r5;have d1':=(Jy m5 (Mv.refl nd2) nd hbd4).2.1;obtain ⟨a6,c6,h6,F6,e6,r6,m6⟩:=JA (lo:=lo) (p:=FV p f) (a3:=b3) (c3:=d3) r5 g25 (by show 0<(EF _ _).length;rw[passN_len];omega) ht d1' nd2 (fun y hy=>hlo4 y (by simp[hy])) (zbN hl (zbN m4.le m5.le));have hcs:(FV p f).cs b1 d1 b2 d2 b3 d3 = [Iv p.me,Iv p.clock,.sl 2 b1 p.chain.length d1,.sl 6 b2 p.log.length d2,.sl 1 b3 p.got.length d3,.bool p.fell]:=by simp only[Place.cs,FV,passN_len]
  rw[hcs] at e6;obtain ⟨m7,x1,x2,x3⟩:=Jy m5 m6 nd hbd4;rw[An,e5,Ac,AC,Ab,Ah,Ag,e6,Ac,AC];simp only[Place.cs];rw[Ab,Aa,Ab,Aa,Ab,Ah,Ab,Ah,Ab,Ah,Ab,Aw,Ag];exact ⟨(BL (FV p f)).cs b1 d1 a6 c6 b3 d3,_,h6,F5++(F6++G3),rfl,EH,⟨_,_,_,_,_,_,rfl,_,_,_,F5,F6,G3,rfl,rfl,m6.keep rnodes_ok r5 x1,r6,m6.keep rvss_ok (m5.keep rvss_ok g3 x2) x3⟩,m4.trans m7⟩
theorem Qk {cs:List V}{k:Int} (hp:BZ false h cs p F) (hl:lo≤h.length) (hn:CT p) :
  ∃ raw r h' F',Ae lo 34 [.agg cs,Iv k] h=some (.tup [.agg raw,.bool (Ao p&&A4 p.chain k)],h')∧ID raw (DT p (Bo p k)) r∧BZ false h' r (DT p (Bo p k)) F'∧Mv h [] h' F':=by
 have m0:Mv h [] (h ++ [.rows 1 3 false [[Iv k]]]) []:=Mv.snoc;obtain ⟨raw,r,h',F',e,n,rr,m⟩:=J1 (lo:=lo) (p':=Bo p k) (l1 := [.ptr (some (h.length,(0,0)))]) (g:=100) (ok:=A4 p.chain k) (m0.keep0 DH hp) (zbN hl m0.le) hn (fun hpo hh b a1 a2 c2 a3 c3 G1 G2 G3 hhl mm g1 g2 g3 hb hnd hlo=>by
  have hlen:(h ++ [Blk.rows 1 3 false [[Iv k]]]).length=h.length+1:=by simp
  have hx:hh[h.length]?=some (.rows 1 3 false [[Iv k]]):=by rw[mm.fr h.length (by rw[hlen];omega) (by simp)];simp
  have lk:ld hh h.length 0 0 1=some [Iv k]:=by rw[BB hx rfl];rfl
  have hblt:b<hh.length:=(Fh hb).1;have hlo':∀ y∈b ::(G1++(G2++G3)),lo≤y:=fun y hy=>by have:=hlo y hy;rw[hlen] at this;omega
  have hbd:∀ y∈b ::(G1++(G2++G3)),y<hh.length:=fun y hy=>by
   simp only[zb0,zbP] at hy;rcases hy with rfl | hy | hy | hy
   ·exact hblt
   ·exact rnodesC_ok.bd _ _ _ _ g1 y hy
   ·exact rvers_ok.bd _ _ _ _ g2 y hy
   ·exact rvss_ok.bd _ _ _ _ g3 y hy
  have nd:=hnd;rw[zbV,zbQ,zbP,zbP,zbQ] at nd;obtain ⟨n1,n2,⟨n3,n4,n5⟩,n6⟩:=nd;simp only[not_or] at n1;have nd2:(b :: G2).Nodup:=by rw[zbV];exact ⟨n1.2.1,n3⟩
  obtain ⟨h5,F5,e5,r5,m5⟩:=X2 (lo:=lo) (k:=k) (i:=0) (j:=0+2) hb rfl rfl (RNodesC.up g1) n1.1 n2 (fun y hy=>hlo' y (by simp[hy])) (by rw[hlen] at hhl;omega) hn.1 (Mh hpo);have hb5:h5[b]?=some (.rows 6 49 false [p.cs a1 (some p.chain.length) a2 c2 a3 c3]):=by rw[m5.fr b hblt n1.1];exact hb
  have g25:=m5.keep rvers_ok g2 fun y hy hm=>n6 y hm y (by simp[hy]) rfl;have d1':=(YB m5 (Mv.refl nd2) hnd hbd).2.1;unfold Bo;cases hc:A4 p.chain k with
  | false =>rw[hc,cond_false] at r5;rw[hc] at e5;obtain ⟨r8,m8⟩:=JD (q:=p) m5 (Mv.refl nd2) hnd hbd r5 g25 g3;refine ⟨h5,_,_,IF ?_,r8,hb5,m8⟩;rw[lk,Af,Ab,Ag,Aa,I1 (r:=(.bool false,h5)) (by rw[e5,Ac,Av,Au]),Ac,Av,Au]
  | true =>
   rw[hc,cond_true] at r5;rw[hc] at e5;have ht:=KI (Nl (k:=k.toNat) (Cg hpo)) (by decide) (by decide) (by decide);have h0:=EN hpo;have hcs:(FV p k.toNat).cs a1 (some p.chain.length) a2 c2 a3 c3=p.cs a1 (some p.chain.length) a2 c2 a3 c3:=by simp only[Place.cs,FV,passN_len]
   have r5':RNodes false h5 [.sl 2 a1 (FV p k.toNat).chain.length (some p.chain.length)] (FV p k.toNat).chain F5:=by show RNodes false h5 [.sl 2 a1 (EF p.chain k.toNat).length (some p.chain.length)] (EF p.chain k.toNat) F5;rw[passN_len];exact r5
   obtain ⟨a8,c8,h8,F8,e9,b9,r9,m9⟩:=Mx (lo:=lo) (p:=FV p k.toNat) (a3:=a3) (c3:=c3) (by rw[hcs];exact hb5) r5' g25 (by show 0<(EF _ _).length;rw[passN_len];omega) ht d1' nd2 (fun y hy=>hlo' y (by simp only[zb0,zbP] at hy ⊢;rcases hy with hy | hy;exact .inl hy;exact .inr (.inr (.inl hy)))) (by have:=m5.le;rw[hlen] at hhl;omega);obtain ⟨r10,m10⟩:=JD (q:=BL (FV p k.toNat)) m5 m9 hnd hbd r5' r9 g3;refine ⟨h8,_,_,IF ?_,r10,b9,m10⟩;rw[lk,Af,Ab,Ag,Aa,I1 (r:=(.bool true,h8)) (by rw[e5,Ac,Av,An,e9,Ac,Ge,Ag]),Ac,Av,An])
 obtain ⟨b1,d1,b2,d2,b3,d3,rfl,_⟩:=hp;obtain ⟨s1,s2,s3,a1',c1',a2',c2',a3',c3',rfl,n1,n2,n3,rfl⟩:=n;refine ⟨(DT p (Bo p k)).cs a1' c1' a2' c2' a3' c3',_,h',F',N5 ?_,EH,rr,m0.trans m⟩;rw[e,Ac,Ge,Ab,AC,Ab,Aa,Ab,Aa,Ab,n1,Ab,n2,Ab,n3,Ab,Aw,Ag,Ab,Av];cases (Ao p&&A4 p.chain k);all_goals
  first | rw[An] | rw[Au]
  rw[Ag]
end


variable {u v:Ver}{l:List Ver}
theorem GT:AT u v=true↔u.tag.time<v.tag.time∨(u.tag.time=v.tag.time∧u.tag.place<v.tag.place):=by simp[AT,HF]
theorem Ji:AT u v=false↔¬ (u.tag.time<v.tag.time∨(u.tag.time=v.tag.time∧u.tag.place<v.tag.place)):=by rw[← GT,Bool.not_eq_true]
def Et (v:Ver):List Ver→List Ver
 | [] => [v]
 | u :: r=>bif AT u v then u :: Et v r else v :: u :: r
def HS (l:List Ver):Prop:=l.Pairwise fun p u=>AT u p=false
theorem Kp {v:Ver}:∀ {l:List Ver},(Et v l).length=l.length+1
 | []=>rfl
 | u :: r=>by
  simp only[Et];cases AT u v with
  | true=>simp[Kp (l:=r)]
  | false=>simp
theorem insF_mem {v x:Ver}:∀ {l:List Ver},x∈Et v l↔x=v∨x∈l
 | []=>by simp[Et]
 | u :: r=>by
  simp only[Et];cases AT u v with
  | true =>
   rw[cond_true,zb0,insF_mem (l:=r),zb0];constructor
   ·rintro (h | h | h)
    ·exact .inr (.inl h)
    ·exact .inl h
    ·exact .inr (.inr h)
   ·rintro (h | h | h)
    ·exact .inr (.inl h)
    ·exact .inl h
    ·exact .inr (.inr h)
  | false=>simp
theorem Lx {v:Ver}:∀ {P Q:List Ver},(∀ p∈P,AT p v=true)→(∀ q∈Q,AT q v=false)→Et v (P++Q)=P++v :: Q
 | [],[],_,_=>rfl
 | [],q :: Q,_,hq=>by simp only[zco,Et];rw[hq q (by simp),cond_false]
 | p :: P,Q,hp,hq=>by simp only[zcm,Et];rw[hp p (by simp),cond_true,Lx (fun x hx=>hp x (by simp[hx])) hq]
theorem OB {v:Ver}:∀ {l:List Ver},HS l→HS (Et v l)
 | [],_=>by simp[Et,HS]
 | u :: r,h=>by
  unfold HS at h ⊢;rw[zdd] at h;simp only[Et];cases hl:AT u v with
  | true =>
   rw[cond_true,zdd];refine ⟨fun x hx=>?_,OB (l:=r) h.2⟩;rcases insF_mem.1 hx with rfl | hx
   ·rw[GT] at hl;rw[Ji];omega
   ·exact h.1 x hx
  | false =>
   rw[cond_false,zdd,zdd];refine ⟨fun x hx=>?_,h⟩;rcases zb0.1 hx with rfl | hx
   ·exact hl
   ·have:=h.1 x hx;rw[Ji] at this hl ⊢;omega
def zbc (u v:Ver):Int:=if (if GX u.tag.time v.tag.time=0 then GX u.tag.place v.tag.place else GX u.tag.time v.tag.time)=0 then GX v.key u.key else (if GX u.tag.time v.tag.time=0 then GX u.tag.place v.tag.place else GX u.tag.time v.tag.time)
theorem LE {a b:Int}:(GX a b<0↔a<b)∧(GX a b=0↔a=b):=by
 unfold GX;constructor
 ·constructor
  ·intro h;split at h
   ·assumption
   ·split at h<;>omega
  ·intro h;rw[if_pos h];decide
 ·constructor
  ·intro h;split at h
   ·omega
   ·split at h<;>omega
  ·intro h;subst h;simp
theorem Ve (hk:u.key<v.key):decide (zbc v u<0) = !AT u v:=by
 rw[zcX,decide_eq_true_eq,zcy,Ji];unfold zbc;obtain ⟨t1,t2⟩:=LE (a:=v.tag.time) (b:=u.tag.time);obtain ⟨p1,p2⟩:=LE (a:=v.tag.place) (b:=u.tag.place);obtain ⟨k1,k2⟩:=LE (a:=u.key) (b:=v.key);by_cases ht:GX v.tag.time u.tag.time=0
 ·rw[if_pos ht];by_cases hp:GX v.tag.place u.tag.place=0
  ·rw[if_pos hp];have:=t2.1 ht;have:=p2.1 hp;have:=k1.2 hk;omega
  ·rw[if_neg hp,p1];have:=t2.1 ht;have:¬ v.tag.place=u.tag.place:=fun h=>hp (p2.2 h);omega
 ·rw[if_neg ht,if_neg ht,t1];have:¬ v.tag.time=u.tag.time:=fun h=>ht (t2.2 h);omega
section
variable {lo:Nat}{h:Heap}{F F' G:List Nat}{a a' av:Pq}{c c' cv:Nq}
theorem Zc:Ae lo 171 [.agg (u.cs a c),.agg (v.cs a' c')] h=some (Iv (zbc u v),h) :=
 La (h':=h ++ [.rows 1 3 false [[Iv (if GX u.tag.time v.tag.time=0 then GX u.tag.place v.tag.place else GX u.tag.time v.tag.time)],[Iv (GX v.key u.key)]]]) (by
  simp only[Mz,Ac,Aa,OI,QF];rfl)
theorem XB {n j:Nat} (hs:RVers false h [.sl 6 a n c] l F) (hj:j+1<l.length) (hnd:F.Nodup) (hlo:∀ b∈F,lo≤b) :
  ∃ o s1 a1 c1 s2 a2 c2,a=some o∧ld h o.1 (o.2+(j+1)) 0 6=some [Iv l[j+1].key,Iv l[j+1].tag.time,Iv l[j+1].tag.place,s2,.str l[j+1].text,.bool l[j+1].gone]∧(∀ {T:Type} (K:Pq→Nat→Nq→Option T),eS 2 s2 K=K a2 l[j+1].past.length c2) ∧
   ld h o.1 (o.2+j) 0 6=some [Iv l[j].key,Iv l[j].tag.time,Iv l[j].tag.place,s1,.str l[j].text,.bool l[j].gone]∧(∀ {T:Type} (K:Pq→Nat→Nq→Option T),eS 2 s1 K=K a1 l[j].past.length c1) ∧
   ∃ h1 h2 F',st lo h o.1 (o.2+(j+1)) 0 (l[j].cs a1 c1)=some h1∧st lo h1 o.1 (o.2+j) 0 (l[j+1].cs a2 c2)=some h2∧RVers false h2 [.sl 6 a n c] ((l.set (j+1) l[j]).set j l[j+1]) F'∧Mv h F h2 F':=by
 have hn:=hs.val;subst hn;obtain ⟨R1,x1,y1,e1,g⟩:=hs;injection e1 with e1 _;injection e1 with e0 e2 _ e3;subst e0;subst e2;subst e3;cases a with
 | none=>obtain ⟨rfl,_⟩:=g;simp at hj
 | some p =>
 obtain ⟨b,i⟩:=p;obtain ⟨_,rs,Fs,g1,g2,g3,g4,g5,rfl⟩:=g;have hjl:j<l.length:=by omega
 obtain ⟨row1,F1,r1,f1,el1⟩:=g5.get (Dd hjl);obtain ⟨row2,F2,r2,f2,el2⟩:=g5.get (Dd hj);rw[zc8 hjl,zcj] at r1;rw[zc8 hj,zcj] at r2;obtain ⟨s1,a1,c1,rfl,es1,hp1⟩:=el1.form;obtain ⟨s2,a2,c2,rfl,es2,hp2⟩:=el2.form;have hlob:=hlo b (by simp);have hblt:b<h.length:=(Fh g1).1;rw[zbV] at hnd;have e4:=DA (lo:=lo) (cs:=l[j].cs a1 c1) (j:=0) g1 hlob r2 (Dl rfl);refine ⟨(b,i),s1,a1,c1,s2,a2,c2,rfl,by rw[BB g1 r2];rfl,es2,by rw[BB g1 r1];rfl,es1,h.set b (.rows 6 (MF false) false (rs.set (i+(j+1)) (l[j].cs a1 c1))),h.set b (.rows 6 (MF false) false ((rs.set (i+(j+1)) (l[j].cs a1 c1)).set (i+j) (l[j+1].cs a2 c2))),b ::((Fs.set (j+1) F1).set j F2).flatten,e4,?_,?_,?_⟩
 ·have hb1:(h.set b (.rows 6 (MF false) false (rs.set (i+(j+1)) (l[j].cs a1 c1))))[b]?=some (.rows 6 (MF false) false (rs.set (i+(j+1)) (l[j].cs a1 c1))):=by simp[hblt]
  have hr1:(rs.set (i+(j+1)) (l[j].cs a1 c1))[i+j]?=some [Iv l[j].key,Iv l[j].tag.time,Iv l[j].tag.place,s1,.str l[j].text,.bool l[j].gone]:=by rw[zbU (by omega)];exact r1
  rw[DA (lo:=lo) (cs:=l[j+1].cs a2 c2) (j:=0) hb1 hlob hr1 (Dl rfl),zdA]
 ·have hl1:∀ (rs:List (List V)) k (hk:k<l.length) row',((rs.set (i+k) row').drop i).take l.length=((rs.drop i).take l.length).set k row':=fun rs k hk row'=>by rw[List.drop_set,if_neg (by omega),show i+k - i=k by omega,List.take_set]
  refine ⟨6,some (b,i),c,by simp,rfl,(rs.set (i+(j+1)) (l[j].cs a1 c1)).set (i+j) (l[j+1].cs a2 c2),(Fs.set (j+1) F1).set j F2,by simp[hblt],by simpa using g2,fun q hq=>by simpa using g3 q hq,g4,?_,rfl⟩;rw[zcd,zcd,hl1 _ j hjl,hl1 _ (j+1) hj];have he:EAll (RVer false) h ((((rs.drop i).take l.length).set (j+1) (l[j].cs a1 c1)).set j (l[j+1].cs a2 c2)) ((l.set (j+1) l[j]).set j l[j+1]) ((Fs.set (j+1) F1).set j F2):=(g5.set (k:=j+1) ⟨_,rfl,hp1⟩).set (k:=j) ⟨_,rfl,hp2⟩;refine he.fr rver_ok.fr fun y hy=>zbU fun e=>?_;rcases Ec hy with q | q
  ·rcases Ec q with q | q
   ·exact hnd.1 (e ▸ q)
   ·exact hnd.1 (e ▸ Fo f1 q)
  ·exact hnd.1 (e ▸ Fo f2 q)
 ·have hperm:((Fs.set (j+1) F1).set j F2).Perm Fs:=by
   obtain ⟨hj1,e1⟩:=Fh f1;obtain ⟨hj2,e2⟩:=Fh f2;have hd:Fs=Fs.take j++F1 :: F2 :: Fs.drop (j+2):=by conv=>lhs;rw[← zcw j Fs,zca hj1,e1,zca hj2,e2]
   have hl:(Fs.take j).length=j:=by rw[zcp];omega
   have hsw:(Fs.set (j+1) F1).set j F2=Fs.take j++F2 :: F1 :: Fs.drop (j+2):=by
    conv=>lhs;rw[hd]
    rw[zdf _ _ (by omega),hl,show j+1 - j=1 by omega,zdf _ _ (by omega),hl,zdz];rfl
   rw[hsw];conv=>rhs;rw[hd]
   exact List.Perm.append_left _ (List.Perm.swap _ _ _)
  have hpf:=hperm.flatten;refine ⟨by simp,fun y hy hF=>?_,?_,fun y hy=>?_⟩
  ·rw[zb0,not_or] at hF;exact zbU (Ne.symm hF.1)
  ·rw[zbV];exact ⟨fun hm=>hnd.1 (hpf.mem_iff.1 hm),hpf.nodup_iff.2 hnd.2⟩
  ·rcases zb0.1 hy with rfl | hy
   ·exact .inl (by simp)
   ·exact .inl (by simp[hpf.mem_iff.1 hy])
theorem VJ {n x2:Nat}{x8:Int}:∀ (m:Nat) (P Q R:List Ver) (hh:Heap) (F:List Nat),P.length=m→(∀ u∈P,u.key<v.key)→HS P→(∀ q∈Q,AT q v=false)→RVers false hh [.sl 6 a n c] (P++v ::(Q++R)) F→F.Nodup→(∀ b∈F,lo≤b)→lo≤hh.length→n≤1048576 →
  ∃ h' F',Az lo a n c 0 x2 171 [] x8 (m:Nat) hh=Aq lo a n c 0 x2 171 [] (IntKind.wrap .i64 (x8+1)) h'∧RVers false h' [.sl 6 a n c] (Et v (P++Q)++R) F'∧Mv hh F h' F':=by
 intro m;induction m with
 | zero =>intro P Q R hh F hP hkey hso hQ hs hnd hlo hl0 hn;have:P = []:=zbY hP;subst this;rw[Az.e,Ai (by omega)];have e:=Lx (v:=v) (P := []) (Q:=Q) (by simp) hQ;rw[e];exact ⟨hh,F,rfl,by simpa using hs,Mv.refl hnd⟩
 | succ m ih =>
  intro P Q R hh F hP hkey hso hQ hs hnd hlo hl0 hn;have hne:P ≠ []:=fun h0=>by rw[h0] at hP;simp at hP
  obtain ⟨P',u,rfl⟩:∃ P' u,P=P' ++ [u]:=⟨P.dropLast,P.getLast hne,(List.dropLast_concat_getLast hne).symm⟩;have hP':P'.length=m:=by simpa using hP
  have hval:=hs.val;have hlen:(P' ++ [u]++v ::(Q++R)).length=m+2+(Q++R).length:=by simp;omega
  obtain ⟨o,s1,a1,c1,s2,a2,c2,ha,hld2,es2,hld1,es1,h1,h2,F2,e4,e5,r6,m6⟩:=XB (lo:=lo) (j:=m) hs (by rw[hlen];omega) hnd hlo;have hu:(P' ++ [u]++v ::(Q++R))[m]'(by rw[hlen];omega)=u:=by rw[List.getElem_append_left (by simp;omega),zdD (by omega)];simp
  have hv:(P' ++ [u]++v ::(Q++R))[m+1]'(by rw[hlen];omega)=v:=by rw[zdD (by simp;omega)];simp[hP']
  rw[hu] at hld1 es1 e4 r6;rw[hv] at hld2 es2 e5 r6;have hsw:((P' ++ [u]++v ::(Q++R)).set (m+1) u).set m v=P'++v ::((u :: Q)++R):=by rw[zb4,zdf _ _ (by omega),hP',show m+1 - m=1 by omega,zdf _ _ (by omega),hP',zdz];rfl
  rw[hsw] at r6;have hcmp:=Zc (lo:=lo) (h:=hh) (u:=v) (v:=u) (a:=a2) (c:=c2) (a':=a1) (c':=c1);simp only[Ver.cs] at hcmp e4 e5;have hkuv:=hkey u (by simp);have hmn:m+1<n:=by rw[hval,hlen];omega
  rw[Az.e,Ak (by omega),Ad hmn,ha,Af,A7,hld2,Af,Ab,Aa,Ab,Aa,Ab,Aa,Ab,es2,Ab,A8,Ab,Aw,Ag,
   show IntKind.i64.wrap (((m+1:Nat):Int) - 1)=((m:Nat):Int) by rw[wr (by omega) (by omega)];omega,Ad (show m<n by omega),Af,A7,hld1,Af,Ab,Aa,Ab,Aa,Ab,Aa,Ab,es1,Ab,A8,Ab,Aw,Ag,show ∀ x:List V,Dh x []=x from fun x=>by simp[Dh],hcmp,Ac,Aa]
  cases hl:AT u v with
  | true =>
   have hc:=Ve hkuv;rw[hl] at hc;rw[Ai (of_decide_eq_false hc)];have hso':∀ p∈P' ++ [u],AT p v=true:=fun p hp=>by
    rcases zbP.1 hp with hp | hp
    ·unfold HS at hso;rw[List.pairwise_append] at hso;have:=hso.2.2 p hp u (by simp);rw[Ji] at this;rw[GT] at hl ⊢;omega
    ·rw[zbW] at hp;subst hp;exact hl
   rw[Lx hso' hQ];exact ⟨hh,F,by rw[← ha],by rw[← ha];simpa using hs,Mv.refl hnd⟩
  | false =>
   have hc:=Ve hkuv;rw[hl] at hc;obtain ⟨h3,F3,e7,r7,m7⟩:=ih P' (u :: Q) R h2 F2 hP' (fun x hx=>hkey x (by simp[hx])) (by unfold HS at hso ⊢;rw[List.pairwise_append] at hso;exact hso.1) (fun q hq=>by
    rcases zb0.1 hq with rfl | hq
    ·exact hl
    ·exact hQ q hq) r6 m6.nd (fun b hb=>m6.ge hl0 hlo b hb) (zbN hl0 m6.le) hn
   rw[Ak (of_decide_eq_true hc),Ad (show m<n by omega),Af,hld1,Af,Ab,Aa,Ab,Aa,Ab,Aa,Ab,es1,Ab,A8,Ab,Aw,Ag,Ad hmn,Af,hld2,Af,Ab,Aa,Ab,Aa,Ab,Aa,Ab,es2,Ab,A8,Ab,Aw,Ag,
    Ad hmn,Af,e4,Af,Ad (show m<n by omega),Af,e5,Af,← ha,e7]
   refine ⟨h3,F3,rfl,?_,m6.trans m7⟩;rw[zb4 P' [u] Q];exact r7
theorem PM {n:Nat}:∀ (R S:List Ver) (hh:Heap) (F:List Nat),HS S→(∀ u∈S,∀ w∈R,u.key<w.key)→R.Pairwise (fun p u=>p.key<u.key)→RVers false hh [.sl 6 a n c] (S++R) F→F.Nodup→(∀ b∈F,lo≤b)→lo≤hh.length→n≤1048576 →
  ∃ h' F',Aq lo a n c 0 (n:Nat) 171 [] (S.length:Nat) hh=some (.tup [],h')∧RVers false h' [.sl 6 a n c] (R.foldl (fun acc v=>Et v acc) S) F'∧Mv hh F h' F'
 | [],S,hh,F,_,_,_,hs,hnd,_,_,_=>by have hval:=hs.val;rw[zcB] at hval hs;rw[Aq.e,Ai (by omega)];exact ⟨hh,F,rfl,hs,Mv.refl hnd⟩
 | v :: R,S,hh,F,hso,hk,hp,hs,hnd,hlo,hl,hn=>by
  have hval:=hs.val;rw[zbX,zcF] at hval;rw[zdd] at hp;obtain ⟨h1,F1,e1,r1,m1⟩:=VJ (lo:=lo) (v:=v) (n:=n) (x2:=n) (x8:=(S.length:Nat)) S.length S [] R hh F rfl (fun u hu=>hk u hu v (by simp)) hso (by simp) hs hnd hlo hl hn;rw[zcB] at r1;obtain ⟨h2,F2,e2,r2,m2⟩:=PM R (Et v S) h1 F1 (OB hso) (fun u hu w hw=>by
   rcases insF_mem.1 hu with rfl | hu
   ·exact hp.1 w hw
   ·exact hk u hu w (by simp[hw])) hp.2 r1 m1.nd (fun b hb=>m1.ge hl hlo b hb) (zbN hl m1.le) hn
  rw[Aq.e,Ak (by omega),e1,Am (by omega)];rw[Kp] at e2;exact ⟨h2,F2,e2,r2,m1.trans m2⟩
def Ki (l:List Ver):List Ver:=l.foldl (fun acc v=>Et v acc) []
theorem Qi (hs:RVers false h [.sl 6 a l.length c] l F) (hk:l.Pairwise fun p u=>p.key<u.key) (hnd:F.Nodup) (hlo:∀ b∈F,lo≤b) (hl:lo≤h.length) (hn:l.length≤1048576) :
  ∃ h' F',Ae lo 311 [.sl 6 a l.length c,Iv 0,Iv (l.length:Nat),.fn 171 []] h=some (.tup [],h')∧RVers false h' [.sl 6 a l.length c] (Ki l) F'∧Mv h F h' F':=by
 suffices hq:∃ h' F',Aq lo a l.length c 0 (l.length:Nat) 171 [] (IntKind.wrap .i64 (0+1)) h=some (V.tup [],h')∧RVers false h' [.sl 6 a l.length c] (Ki l) F'∧Mv h F h' F' from hq.imp fun h' hq=>hq.imp fun F' hq=>⟨EK hq.1,hq.2⟩
 rw[show IntKind.i64.wrap (0+1)=((1:Nat):Int) from Am (k:=0) (by decide)];cases hl0:l with
 | nil =>rw[hl0] at hs;rw[Aq.e,Ai (by simp)];exact ⟨h,F,rfl,hs,Mv.refl hnd⟩
 | cons x r =>rw[hl0] at hs hk hn;rw[zdd] at hk;exact PM (n:=(x :: r).length) r [x] h F (by simp[HS]) (fun u hu w hw=>by rw[zbW] at hu;subst hu;exact hk.1 w hw) hk.2 hs hnd hlo hl hn
end


variable {α:Type}{El:Rel α}{l:List α}
theorem KM {h:Heap}{lo R e n bytes:Nat}{a:Pq}{c:Nq}{ys:List α}{F:List Nat}{xs:List (List V)}{Gs:List (List Nat)} (hfr:El.Fr)
  (hs:Sli false R e El h [.sl R a n c] l F) (hx:EAll El h xs ys Gs) (hb:0<bytes) (hsz:(l.length+ys.length)*bytes≤140737488355328) (hlo:∀ b∈F,lo≤b) (hl:lo≤h.length)
  (hnd:(F++Gs.flatten).Nodup) (hF:∀ b∈F++Gs.flatten,b<h.length) :
  ∃ a' c' h' F',(∀ {R':Type} (K:V→Heap→Option R'),CS lo e R bytes (.sl R a n c) xs h K=K (.sl R a' (l.length+ys.length) c') h')∧Sli false R e El h' [.sl R a' (l.length+ys.length) c'] (l++ys) F'∧h.length≤h'.length ∧
   (∀ b,b<h.length→b∉F→h'[b]?=h[b]?)∧(∀ b∈F',b∈F++Gs.flatten∨(h.length≤b∧b<h'.length))∧F'.Nodup:=by
 cases ys with
 | nil =>have hx0:xs = []:=zbY hx.len.1;have hn:=hs.val;subst hx0;subst hn;rw[zbQ] at hnd;exact ⟨a,c,h,F,fun K=>rfl,by rw[zcB];exact hs,zbR _,fun _ _ _=>rfl,fun b hb => .inl (by simp[hb]),hnd.1⟩
 | cons y ys=>exact Sli.push hfr hs hx hb hsz hlo hl hnd hF (by simp)
theorem Sli.parts {R e:Nat}{h:Heap}{a:Pq}{c:Nq}{F:List Nat} (hs:Sli false R e El h [.sl R a l.length c] l F) (hnd:F.Nodup) :
  ∃ Fs:List (List Nat),Fs.flatten.Nodup∧(∀ y∈Fs.flatten,y∈F)∧(∀ b i,a=some (b,i)→b∈F∧b∉Fs.flatten)∧∀ k,k≤l.length→∃ rP rQ,EAll El h rP (l.take k) (Fs.take k)∧EAll El h rQ (l.drop k) (Fs.drop k) ∧
   (∀ {T:Type} (h':Heap),(∀ b i,a=some (b,i)→h'[b]?=h[b]?)→∀ K:List (List V)→Option T,(As a l.length c none (some (Iv (k:Nat))) none fun a n c=>At R h' (.sl R a n c) K)=K rP) ∧
   (∀ {T:Type} (h':Heap),(∀ b i,a=some (b,i)→h'[b]?=h[b]?)→∀ K:List (List V)→Option T,(As a l.length c (some (Iv (k:Nat))) none none fun a n c=>At R h' (.sl R a n c) K)=K rQ):=by
 obtain ⟨R1,a1,c1,e1,g⟩:=hs;injection e1 with e1 _;injection e1 with e0 e2 _ e3;subst e2;subst e3;cases a with
 | none =>
  obtain ⟨rfl,rfl,rfl⟩:=g;refine ⟨[],by simp,by simp,fun b i h=>by simp at h,fun k hk=>?_⟩;have hk0:k=0:=by simpa using hk
  subst hk0;refine ⟨[],[],trivial,trivial,fun h' _ K=>?_,fun h' _ K=>?_⟩
  ·unfold As EC HT IG;simp only[Aa,zcQ];rw[Cj ⟨by simp,by simp⟩];simp[At]
  ·unfold As EC HT IG;simp only[Aa,zcQ];rw[Cj ⟨by simp,by simp⟩];simp[At,KX]
 | some p =>
  obtain ⟨b,i⟩:=p;obtain ⟨_,rs,Fs,g1,g2,g3,_,g5,rfl⟩:=g;rw[zbV] at hnd;have key:∀ {T:Type} (h':Heap),h'[b]?=h[b]?→∀ (K:List (List V)→Option T) (j m:Nat) (c8:Nq),j+m≤rs.length→At R h' (.sl R (some (b,j)) m c8) K=K ((rs.drop j).take m):=fun h' hb' K j m c8 hj=>by
   simp only[At,Iz,Do];cases m with
   | zero=>simp
   | succ m =>
    simp only;rw[show D1 h' b j (m+1)=some ((rs.drop j).take (m+1)) by
     simp only[D1,Heap.rows?,hb',g1,zcr];rw[Dy hj]]
    rfl
  refine ⟨Fs,hnd.2,fun y hy=>zcz _ hy,fun b' i' e=>by injection e with e;injection e with e1 e2;subst e1;exact ⟨by simp,hnd.1⟩,fun k hk=>?_⟩;have hrP:((rs.drop i).take l.length).take k=(rs.drop i).take k:=by rw[List.take_take,Nat.min_eq_left hk]
  have hrQ:((rs.drop i).take l.length).drop k=(rs.drop (i+k)).take (l.length - k):=by rw[List.drop_take,zc4]
  refine ⟨(rs.drop i).take k,(rs.drop (i+k)).take (l.length - k),by rw[← hrP];exact g5.take k,by rw[← hrQ];exact g5.drop k,fun h' hh K=>?_,fun h' hh K=>?_⟩
  ·unfold As EC HT IG;simp only[Aa,zcQ,A7];have:=key h' (hh b i rfl) K i k c (by omega);cases c with
   | none=>simp only;rw[Cj ⟨by omega,by omega⟩];exact this
   | some N=>simp only;rw[Cj ⟨by omega,by have:=(g3 N rfl).1;omega⟩];exact this
  ·unfold As EC HT IG;simp only[Aa,zcQ,A7];rw[Cj ⟨by omega,by omega⟩];cases c with
   | none=>exact key h' (hh b i rfl) K (i+k) (l.length - k) none (by omega)
   | some N =>
    have hN:=(g3 N rfl).1;unfold KX;simp only;cases hb:Nat.beq N k with
    | false=>rw[Au];exact key h' (hh b i rfl) K (i+k) (l.length - k) _ (by omega)
    | true =>have:=zbZ hb;rw[An,show l.length - k=0 by omega];simp[At,Bm]
def FZ (out:List Ver) (x:Ver×Ver):List Ver:=bif AT x.2 x.1 then Et x.1 out else out
def DK (s t:List Ver):List Ver:=(s.zip t).foldl FZ []
theorem Tc {v:Ver}:∀ {l:List Ver}{k:Nat},k≤l.length→(∀ i (hi:i<l.length),i<k→AT l[i] v=true)→(∀ hk:k<l.length,AT l[k] v=false)→Et v l=l.take k++v :: l.drop k
 | [],k,hk,_,_=>by simp[Et]
 | u :: r,0,hk,_,h2=>by have:=h2 (by simp);simp only[List.getElem_cons_zero] at this;simp[Et,this]
 | u :: r,k+1,hk,h1,h2=>by have h0:=h1 0 (by simp) (by omega);simp only[List.getElem_cons_zero] at h0;simp only[Et,h0,cond_true,List.take_succ_cons,List.drop_succ_cons,zcm];rw[Tc (l:=r) (k:=k) (by simpa using hk) (fun i hi hik=>by have:=h1 (i+1) (by simpa using hi) (by omega);simpa using this) (fun hkr=>by have:=h2 (by simpa using hkr);simpa using this)]
section
variable {lo:Nat}{h:Heap}{F F' G:List Nat}{a a' av:Pq}{c c' cv:Nq}
theorem JN (ok:El.Ok) {R e bytes:Nat}{rows:List (List V)}{Fs:List (List Nat)} (hx:EAll El h rows l Fs) (hnd:Fs.flatten.Nodup) (hF:∀ y∈Fs.flatten,y<h.length) (hb:0<bytes) (hsz:l.length*bytes≤140737488355328) (hl:lo≤h.length) :
  ∃ a' c' h' F',(∀ {T:Type} (K:V→Heap→Option T),CS lo e R bytes (.sl R (some (h.length,0)) 0 (some 0)) rows (h ++ [.rows R e false []]) K=K (.sl R a' l.length c') h')∧Sli false R e El h' [.sl R a' l.length c'] l F'∧h.length<h'.length∧(∀ y,y<h.length→h'[y]?=h[y]?) ∧
   (∀ y∈F',y∈Fs.flatten∨(h.length≤y∧y<h'.length))∧F'.Nodup:=by
 have m0:Mv h [] (h ++ [.rows R e false []]) [h.length]:=Mv.last;have hfresh:Sli false R e El (h ++ [.rows R e false []]) [.sl R (some (h.length,0)) 0 (some 0)] [] [h.length]:=Sli.fresh (zbR _);obtain ⟨a',c',h',F',p1,p2,p3,p4,p5,p6⟩:=KM (lo:=lo) (bytes:=bytes) ok.fr hfresh (xs:=rows) (ys:=l) (Gs:=Fs) (hx.fr ok.fr fun y hy=>m0.fr y (hF y hy) (by simp)) hb (by simpa using hsz) (by simp;omega) (by simp;omega)
  (by rw[zcm,zco,zbV];exact ⟨fun hm=>by have:=hF _ hm;omega,hnd⟩) (fun y hy=>by
   rw[zcm,zco,zb0] at hy;rcases hy with rfl | hy
   ·simp
   ·have:=hF y hy;simp;omega)
 simp only[zc2,zcl,zco] at p1 p2;refine ⟨a',c',h',F',p1,p2,by simp at p3;omega,fun y hy=>?_,fun y hy=>?_,p6⟩
 ·rw[p4 y (by simp;omega) (by simp;omega)];exact m0.fr y hy (by simp)
 ·simp at p3;rcases p5 y hy with g | g
  ·rw[zcm,zco,zb0] at g;rcases g with rfl | g
   ·exact .inr (by omega)
   ·exact .inl g
  ·simp at g;exact .inr (by omega)
theorem Ew {Fs:List (List Nat)}{k:Nat} (hnd:Fs.flatten.Nodup):(Fs.take k).flatten.Nodup∧(Fs.drop k).flatten.Nodup∧∀ x∈(Fs.take k).flatten,∀ y∈(Fs.drop k).flatten,x≠y:=by rw[← zcw k Fs,zct,zbQ] at hnd;exact hnd
theorem Uo {s t:List Ver}{a1 a2:Pq}{c1 c2:Nq}{F1 F2:List Nat} (hs:RVers false h [.sl 6 a1 s.length c1] s F1) (ht:RVers false h [.sl 6 a2 t.length c2] t F2) (h4:s.length=4) (h4':t.length=4) (hpn:∀ v∈s,v.past.length≤1048576) (hl:lo≤h.length) :
  ∃ a' c' h' F',Ae lo 204 [.agg [.sl 6 a1 s.length c1],.agg [.sl 6 a2 t.length c2]] h=some (.sl 6 a' (DK s t).length c',h')∧RVers false h' [.sl 6 a' (DK s t).length c'] (DK s t) F'∧Mv h [] h' F':=by
 suffices hq:∃ a' c' h' F',_=some (V.sl 6 a' (DK s t).length c',h')∧RVers false h' [.sl 6 a' (DK s t).length c'] (DK s t) F'∧Mv h [] h' F' from by obtain ⟨a',c',h',F',e,hr⟩:=hq;exact ⟨a',c',h',F',RB e,hr⟩
 have hzl:(s.zip t).length=4:=by rw[zdx];omega
 have one:∀ m i,m+i=4→∀ hh ax cx (out:List Ver) Fx,RVers false hh [.sl 6 ax out.length cx] out Fx→Mv h [] hh Fx→out.length≤i→∃ a' c' h' F',
   BP lo ax out.length cx (i:Nat) a1 s.length c1 a2 t.length c2 hh=some (.sl 6 a' (((s.zip t).drop i).foldl FZ out).length c',h')∧RVers false h' [.sl 6 a' (((s.zip t).drop i).foldl FZ out).length c'] (((s.zip t).drop i).foldl FZ out) F'∧Mv h [] h' F':=by
  intro m;induction m with
  | zero =>intro i hi hh ax cx out Fx hr hm hlen;rw[BP.e,Ai (by omega),zcK (by omega)];exact ⟨ax,cx,hh,Fx,rfl,hr,hm⟩
  | succ m ih =>
   intro i hi hh ax cx out Fx hr hm hlen;have his:i<s.length:=by omega
   have hit:i<t.length:=by omega
   have hs':=hm.keep0 rvers_ok hs;have ht':=hm.keep0 rvers_ok ht;obtain ⟨o1,s1,b1,d1,H1,ha1,_,_,_,_,_,_,hl1,hl1',es1,hp1,_⟩:=RVers.all hs' his;obtain ⟨o2,s2,b2,d2,H2,ha2,_,_,_,_,_,_,hl2,_,_,_,_⟩:=RVers.all ht' hit;have hzi:i<(s.zip t).length:=by omega
   rw[zca hzi,zcA,zdo];have hlf:FZ out (s[i],t[i])=bif AT t[i] s[i] then Et s[i] out else out:=rfl;rw[hlf,BP.e,Ak (by omega),Ad hit,ha2,Af,A7,hl2,Af,Ab,Aa,Ab,Aa,Ag,Ad his,ha1,Af,hl1,Af,Ab,Aa,Ab,Aa,Ag,BI,Ac,Av,← ha1,← ha2];show ∃ a' c' h' F',br (AT t[i] s[i]) _ _=_∧_;cases hless:AT t[i] s[i] with
   | false =>rw[Au,cond_false,Am (by omega)];exact ih (i+1) (by omega) hh ax cx out Fx hr hm (by omega)
   | true =>
   rw[An,cond_true];have put:∀ k,k≤out.length→Et s[i] out=out.take k++s[i] :: out.drop k→∃ a' c' h' F',(As ax out.length cx none (some (Iv (k:Nat))) none fun a_36 n_37 c_38=>At 6 (hh ++ [.rows 6 34 false []]) (.sl 6 a_36 n_37 c_38) fun x_39=>CS lo 34 6 72 (.sl 6 (some ((List.length hh),0)) 0 (some 0)) x_39 (hh ++ [.rows 6 34 false []]) fun v_40 h_41=>eS 6 (v_40) fun a_42 n_43 c_44=>Ap ((i:Nat):Int) s.length (eO a1 fun o_45=>eO (ld h_41 (o_45.1) ((o_45.2)+(((i:Nat):Int).toNat)) 0 6) fun o_46=>eC o_46 fun v_47 l_48=>eI .i64 v_47 fun n_49=>eC l_48 fun v_50 l_51=>eI .i64 v_50 fun n_52=>eC l_51 fun v_53 l_54=>eI .i64 v_53 fun n_55=>eC l_54 fun v_56 l_57=>eS 2 (v_56) fun a_58 n_59 c_60=>eC l_57 fun v_61 l_62=>eT v_61 fun s_63=>eC l_62 fun v_64 l_65=>eBv v_64 fun b_66=>eN l_65 (Aj (Ae lo 164 [.agg [Iv (n_49),Iv (n_52),Iv (n_55),.sl 2 a_58 n_59 c_60,.str (s_63),.bool (b_66)]] h_41) fun v_67 h_68=>eA v_67 fun c_69=>eC c_69 fun v_70 l_71=>eI .i64 v_70 fun n_72=>eC l_71 fun v_73 l_74=>eI .i64 v_73 fun n_75=>eC l_74 fun v_76 l_77=>eI .i64 v_76 fun n_78=>eC l_77 fun v_79 l_80=>eS 2 (v_79) fun a_81 n_82 c_83=>eC l_80 fun v_84 l_85=>eT v_84 fun s_86=>eC l_85 fun v_87 l_88=>eBv v_87 fun b_89=>eN l_88 (At 6 (h_68 ++ [.rows 6 34 false [[Iv (n_72),Iv (n_75),Iv (n_78),.sl 2 a_81 n_82 c_83,.str (s_86),.bool (b_89)]]]) (.sl 6 (some ((List.length h_68),0)) 1 (some 1)) fun x_90=>CS lo 34 6 72 (.sl 6 a_42 n_43 c_44) x_90 (h_68 ++ [.rows 6 34 false [[Iv (n_72),Iv (n_75),Iv (n_78),.sl 2 a_81 n_82 c_83,.str (s_86),.bool (b_89)]]]) fun v_91 h_92=>eS 6 (v_91) fun a_93 n_94 c_95=>As ax out.length cx (some (Iv (k:Nat))) none none fun a_96 n_97 c_98=>At 6 h_92 (.sl 6 a_96 n_97 c_98) fun x_99=>CS lo 34 6 72 (.sl 6 a_93 n_94 c_95) x_99 h_92 fun v_100 h_101=>eS 6 (v_100) fun a_102 n_103 c_104=>BP lo a_102 n_103 c_104 (IntKind.wrap .i64 (((i:Nat):Int)+1)) a1 s.length c1 a2 t.length c2 h_101))))=some (V.sl 6 a' (((s.zip t).drop (i+1)).foldl FZ (Et s[i] out)).length c',h') ∧
     RVers false h' [.sl 6 a' (((s.zip t).drop (i+1)).foldl FZ (Et s[i] out)).length c'] (((s.zip t).drop (i+1)).foldl FZ (Et s[i] out)) F'∧Mv h [] h' F':=by
    intro k hk hins;have hbx:=rvers_ok.bd _ _ _ _ hr;obtain ⟨Fs,nF,sF,own,cuts⟩:=hr.parts hm.nd;obtain ⟨rP,rQ,eP,eQ,kP,kQ⟩:=cuts k hk;obtain ⟨nP,nQ,dPQ⟩:=Ew (k:=k) nF;have inP:∀ y∈(Fs.take k).flatten,y∈Fs.flatten:=fun y hy=>by rw[← zcw k Fs,zct];simp[hy]
    have inQ:∀ y∈(Fs.drop k).flatten,y∈Fs.flatten:=fun y hy=>by rw[← zcw k Fs,zct];simp[hy]
    have hFl:∀ y∈Fs.flatten,y<hh.length:=fun y hy=>hbx y (sF y hy);have hlh:lo≤hh.length:=zbN hl hm.le;have htl:(out.take k).length=k:=by rw[zcp];omega
    have hdl:(out.drop k).length=out.length - k:=by rw[zcS]
    obtain ⟨a3,c3,h3,F3,e3,r3,l3,fr3,sub3,nd3⟩:=JN (lo:=lo) (R:=6) (e:=MF false) (bytes:=72) rver_ok eP nP (fun y hy=>hFl y (inP y hy)) (by decide) (by omega) hlh;have m3:Mv hh [] h3 []:=⟨by omega,fun y hy _=>fr3 y hy,by simp,by simp⟩;have hs3:=m3.keep0 rvers_ok hs';obtain ⟨o4,s4,b4,d4,H4,ha4,ho4,es4,hp4,_⟩:=hs3.get his;obtain ⟨a5,c5,h5,F5,e5,r5,m5⟩:=CO (lo:=lo) (v:=s[i]) hp4 (by omega) (hpn _ (zbO his));obtain ⟨a6,c6,h6,F6,e6,r6,m6⟩:=D9 (lo:=lo) (bytes:=72) (e:=34) rver_ok r3 (row:=s[i].cs a5 c5) (x:=s[i]) (G:=F5) (h1:=h5 ++ [.rows 6 34 false [s[i].cs a5 c5]])
     ⟨_,rfl,Mv.snoc.keep0 rtags_ok r5⟩ (m5.trans (Mv.snoc' m5.nd)) nd3 (fun y hy=>by
      rcases sub3 y hy with g | g
      ·exact hm.ge hl (by simp) y (sF y (inP y g))
      ·omega) (by omega) (by decide) (by omega)
    have hQ3:∀ y∈(Fs.drop k).flatten,y∉F3∧y<h3.length:=fun y hy=>by
     have:=hFl y (inQ y hy);refine ⟨fun hm3=>?_,by omega⟩;rcases sub3 y hm3 with g | g
     ·exact dPQ y g y hy rfl
     ·omega
    have hQ6:∀ y∈(Fs.drop k).flatten,h6[y]?=hh[y]?:=fun y hy=>by rw[m6.fr y (hQ3 y hy).2 (hQ3 y hy).1];exact fr3 y (hFl y (inQ y hy))
    have l6:=m6.le;have F6b:∀ y∈F6,y<h6.length:=rvers_ok.bd _ _ _ _ r6;obtain ⟨a7,c7,h7,F7,e7,r7,l7,fr7,sub7,nd7⟩:=KM (lo:=lo) (bytes:=72) rver_ok.fr r6 (xs:=rQ) (ys:=out.drop k) (Gs:=Fs.drop k) (eQ.fr rver_ok.fr hQ6) (by decide) (by simp only[zbX,htl,hdl,zb6];omega) (fun y hy=>m6.ge (by omega) (fun y hy=>by
      rcases sub3 y hy with g | g
      ·exact hm.ge hl (by simp) y (sF y (inP y g))
      ·omega) y hy) (by omega) (by
      rw[zbQ];refine ⟨m6.nd,nQ,fun x hx y hy e=>?_⟩;subst e;rcases m6.sub x hx with g | g
      ·exact (hQ3 x hy).1 g
      ·have:=(hQ3 x hy).2;omega) (fun y hy=>by
      rcases zbP.1 hy with hy | hy
      ·exact F6b y hy
      ·have:=(hQ3 y hy).2;omega)
    have hfin:out.take k ++ [s[i]]++out.drop k=Et s[i] out:=by rw[hins,zb4];rfl
    have hflen:(out.take k).length+1+(out.drop k).length=(Et s[i] out).length:=by rw[Kp,htl,hdl];omega
    rw[zbX,zb6,hflen] at e7 r7;rw[hfin] at r7;have m7:Mv h [] h7 F7:=by
     refine ⟨by have:=hm.le;omega,fun y hy _=>?_,nd7,fun y hy=>?_⟩
     ·have y1:y<hh.length:=zb1 hy hm.le;have yF:y∉Fx:=fun hmx=>by have:=hm.new y hmx;omega
      have y3:y∉F3:=fun hm3=>by
       rcases sub3 y hm3 with g | g
       ·exact yF (sF y (inP y g))
       ·omega
      have y6:y∉F6:=fun hm6=>by
       rcases m6.sub y hm6 with g | g
       ·exact y3 g
       ·omega
      rw[fr7 y (by omega) y6,m6.fr y (by omega) y3,fr3 y y1,hm.fr y hy (by simp)]
     ·refine .inr ?_;have hh':=hm.le;rcases sub7 y hy with g | g
      ·rcases zbP.1 g with g | g
       ·rcases m6.sub y g with g | g
        ·rcases sub3 y g with g | g
         ·have:=hm.new y (sF y (inP y g));have:=hFl y (inP y g);omega
         ·omega
        ·omega
       ·have:=hm.new y (sF y (inQ y g));have:=hFl y (inQ y g);omega
      ·omega
    obtain ⟨a8,c8,h8,F8,e8,r8,m8⟩:=ih (i+1) (by omega) h7 a7 c7 (Et s[i] out) F7 r7 m7 (by rw[Kp];omega);refine ⟨a8,c8,h8,F8,?_,r8,m8⟩;have mm0:Mv hh [] (hh ++ [.rows 6 34 false []]) []:=Mv.snoc;have h6x:∀ b i,ax=some (b,i)→h6[b]?=hh[b]?:=fun b i e=>by
     obtain ⟨q1,q2⟩:=own b i e;have:=hbx b q1;rw[m6.fr b (by omega) fun hm3=>?_,fr3 b this];rcases sub3 b hm3 with g | g
     ·exact q2 (inP b g)
     ·omega
    simp only[Ver.cs] at e6;rw[show MF false=34 from rfl] at e3;rw[kP _ (fun b i e=>mm0.fr b (hbx b (own b i e).1) (by simp)),e3,Ah,Ad his,ha4,Af,A7,ho4,Af,Ab,Aa,Ab,Aa,Ab,Aa,Ab,es4,Ab,A8,Ab,Aw,Ag];rw[show (V.agg [Iv s[i].key,Iv s[i].tag.time,Iv s[i].tag.place,.sl 2 b4 s[i].past.length d4,.str s[i].text,.bool s[i].gone]) = .agg (s[i].cs b4 d4) from rfl,e5,Ac,AC,Ab,Aa,Ab,Aa,Ab,Aa,Ab,Ah,Ab,A8,Ab,Aw,Ag,AZ,e6,Ah,kQ _ h6x,e7,Ah,Am (by omega),← ha4];exact e8
   have two:∀ m k,m+k=out.length→(∀ j (hj:j<out.length),j<k→AT out[j] s[i]=true)→∃ a' c' h' F',C3 lo ax out.length cx (i:Nat) (k:Nat) a1 s.length c1 a2 t.length c2 hh=some (V.sl 6 a' (((s.zip t).drop (i+1)).foldl FZ (Et s[i] out)).length c',h') ∧
     RVers false h' [.sl 6 a' (((s.zip t).drop (i+1)).foldl FZ (Et s[i] out)).length c'] (((s.zip t).drop (i+1)).foldl FZ (Et s[i] out)) F'∧Mv h [] h' F':=by
    intro m;induction m with
    | zero =>intro k hk hall;rw[C3.e,Ai (by omega)];exact put k (by omega) (Tc (by omega) hall (fun h=>by omega))
    | succ m ih2 =>
     intro k hk hall;have hkl:k<out.length:=by omega
     obtain ⟨o3,s3,b3,d3,H3,ha3,_,_,_,_,_,_,hl3,_,_,_,_⟩:=RVers.all hr hkl;rw[C3.e,Ak (by omega),Ad hkl,ha3,Af,A7,hl3,Af,Ab,Aa,Ab,Aa,Ag,Ad his,ha1,Af,A7,hl1,Af,Ab,Aa,Ab,Aa,Ag,BI,Ac,Av,← ha1,← ha3];show ∃ a' c' h' F',br (AT out[k] s[i]) _ _=_∧_;cases hlk:AT out[k] s[i] with
     | true =>
      rw[An,Am (by omega)];exact ih2 (k+1) (by omega) (fun j hj hjk=>by
       by_cases e:j=k
       ·subst e;exact hlk
       ·exact hall j hj (by omega))
     | false =>rw[Au];exact put k (by omega) (Tc (by omega) hall (fun _=>hlk))
   exact two out.length 0 (by omega) (fun j _ hj=>by omega)
 have m0:Mv h [] (h ++ [.rows 6 34 false []]) [h.length]:=Mv.last;obtain ⟨a',c',h',F',e,r,m⟩:=one 4 0 (by omega) (h ++ [.rows 6 34 false []]) (some (h.length,0)) (some 0) [] [h.length] (Sli.fresh (zbR _)) m0 (by simp);rw[zcW] at e r;exact ⟨a',c',h',F',e,r,m⟩
end


variable {l:List Node}{w:List Ver}
def BQ (l:List Node) (k:Nat) (w:List Ver):List Node:=match l[k]? with
 | some x=>l.set k ⟨x.store,w⟩
 | none=>l
def FR (l:List Node) (k:Nat):List Ver:=match l[k]? with
 | some x=>x.store
 | none => []
def Bq (l:List Node) (k:Nat):List Node :=
 bif decide (0<k) then (bif decide (k<(l.eraseIdx k).length) then BQ (l.eraseIdx k) (k - 1) (DK (FR (l.eraseIdx k) (k - 1)) (FR (l.eraseIdx k) k)) else BQ (l.eraseIdx k) (k - 1) []) else l.eraseIdx k
theorem DX {k:Nat} (hk:k<l.length):BQ l k w=l.set k ⟨l[k].store,w⟩:=by unfold BQ;rw[Dd hk]
theorem CI {k:Nat} (hk:k<l.length):FR l k=l[k].store:=by unfold FR;rw[Dd hk]
theorem Ck {k:Nat}:(BQ l k w).length=l.length:=by unfold BQ;split<;>simp
theorem Ob {k:Nat} (hk:k<l.length) (hw:l[k].wait = []):BQ l k []=l:=by
 rw[DX hk];have:(⟨l[k].store,[]⟩:Node)=l[k]:=by
  cases hx:l[k] with
  | mk s w=>rw[hx] at hw;simp only at hw;rw[hw]
 rw[this];exact zdr hk
section
variable {lo:Nat}{h:Heap}{F F' G:List Nat}{a a' av:Pq}{c c' cv:Nq}
theorem PP {n k:Nat}{ws:List Ver}{w:V}{h1:Heap}{Fw:List Nat} (hs:RNodes false h [.sl 2 a n c] l F) (hk:k<l.length) (hnd:F.Nodup) (hlo:∀ b∈F,lo≤b) (hw:RVers false h1 [w] ws Fw) (m:Mv h [] h1 Fw) :
  ∃ b i h2 F',a=some (b,i)∧b∈F∧st lo h1 b (i+k) 1 [w]=some h2∧RNodes false h2 [.sl 2 a n c] (BQ l k ws) F'∧Mv h F h2 F'∧(∀ y,y≠b→h2[y]?=h1[y]?):=by
 obtain ⟨b,i,rs,row,G0,ha,hbF,hbG,hb,hrow,hel,hGF,hGn,put⟩:=hs.at2 rnode_ok hk hnd hlo;obtain ⟨t1,t2,F1,F2,rfl,rfl,r1,r2⟩:=hel;rw[zbQ] at hGn;have b1:∀ y∈F1,y<h.length:=rvers_ok.bd _ _ _ _ r1;have m1:Mv h (F1++F2) h1 (F1++Fw):=by
  refine ⟨m.le,fun y hy _=>m.fr y hy (by simp),?_,fun y hy=>?_⟩
  ·rw[zbQ];refine ⟨hGn.1,m.nd,fun x hx y hy e=>?_⟩;subst e;have:=b1 x hx;have:=m.new x hy;omega
  ·rcases zbP.1 hy with hy | hy
   ·exact .inl (by simp[hy])
   ·exact (m.sub y hy).imp (fun g=>by simp at g) id
 obtain ⟨h2,F',e2,r,m2,fr,_⟩:=put h1 (F1++Fw) 1 [w] [t1,w] ⟨l[k].store,ws⟩ m1 rfl ⟨_,_,F1,Fw,rfl,rfl,m.keep0 rvers_ok r1,hw⟩;rw[← DX hk] at r;exact ⟨b,i,h2,F',ha,hbF,e2,r,m2,fr⟩
theorem Yi {k:Nat} (hs:RNodes false h [.sl 2 a l.length c] l F) (hk:k<l.length) (hnd:F.Nodup) (hlo:∀ b∈F,lo≤b) (hl:lo≤h.length) (hn:l.length≤1048576) :
  ∃ a' c' h' F',(∀ {T:Type} (K:V→Heap→Option T),(As a l.length c none (some (Iv (k:Nat))) none fun a_0 n_1 c_2=>At 2 (h ++ [.rows 2 45 false []]) (.sl 2 a_0 n_1 c_2) fun x_3=>CS lo 45 2 48 (.sl 2 (some ((List.length h),0)) 0 (some 0)) x_3 (h ++ [.rows 2 45 false []]) fun v_4 h_5=>eS 2 (v_4) fun a_6 n_7 c_8 =>
    As a l.length c (some (Iv ((k+1:Nat):Int))) none none fun a_9 n_10 c_11=>At 2 h_5 (.sl 2 a_9 n_10 c_11) fun x_12=>CS lo 45 2 48 (.sl 2 a_6 n_7 c_8) x_12 h_5 K)=K (.sl 2 a' (l.eraseIdx k).length c') h') ∧
   RNodes false h' [.sl 2 a' (l.eraseIdx k).length c'] (l.eraseIdx k) F'∧Mv h F h' F':=by
 have hbd:=rnodes_ok.bd _ _ _ _ hs;obtain ⟨Fs,nF,sF,own,cuts⟩:=Sli.parts hs hnd;obtain ⟨rP,_,eP,_,kP,_⟩:=cuts k (by omega);obtain ⟨_,rQ,_,eQ,_,kQ⟩:=cuts (k+1) (by omega);obtain ⟨nP,_,dPQ⟩:=Ew (k:=k) nF;obtain ⟨_,nQ,_⟩:=Ew (k:=k+1) nF;have inP:∀ y∈(Fs.take k).flatten,y∈Fs.flatten:=fun y hy=>by rw[← zcw k Fs,zct];simp[hy]
 have inQ:∀ y∈(Fs.drop (k+1)).flatten,y∈(Fs.drop k).flatten:=fun y hy=>by
  have:Fs.drop (k+1)=(Fs.drop k).drop 1:=by rw[zc4]
  rw[this] at hy;rw[← zcw 1 (Fs.drop k),zct];exact zbP.2 (.inr hy)
 have inQ':∀ y∈(Fs.drop (k+1)).flatten,y∈Fs.flatten:=fun y hy=>by rw[← zcw k Fs,zct];simp[inQ y hy]
 have hFl:∀ y∈Fs.flatten,y<h.length:=fun y hy=>hbd y (sF y hy);have htl:(l.take k).length=k:=by rw[zcp];omega
 have hdl:(l.drop (k+1)).length=l.length - (k+1):=by rw[zcS]
 obtain ⟨a3,c3,h3,F3,e3,r3,l3,fr3,sub3,nd3⟩:=JN (lo:=lo) (R:=2) (e:=OF false) (bytes:=48) rnode_ok eP nP (fun y hy=>hFl y (inP y hy)) (by decide) (by omega) hl;have hQ3:∀ y∈(Fs.drop (k+1)).flatten,y∉F3∧y<h3.length:=fun y hy=>by
  have:=hFl y (inQ' y hy);refine ⟨fun hm3=>?_,by omega⟩;rcases sub3 y hm3 with g | g
  ·exact dPQ y g y (inQ y hy) rfl
  ·omega
 have F3b:∀ y∈F3,y<h3.length:=rnodes_ok.bd _ _ _ _ r3;obtain ⟨a7,c7,h7,F7,e7,r7,l7,fr7,sub7,nd7⟩:=KM (lo:=lo) (bytes:=48) rnode_ok.fr r3 (xs:=rQ) (ys:=l.drop (k+1)) (Gs:=Fs.drop (k+1)) (eQ.fr rnode_ok.fr fun y hy=>fr3 y (hFl y (inQ' y hy))) (by decide) (by rw[htl,hdl];omega) (fun y hy=>by
   rcases sub3 y hy with g | g
   ·exact hlo y (sF y (inP y g))
   ·omega) (by omega) (by
   rw[zbQ];refine ⟨nd3,nQ,fun x hx y hy e=>?_⟩;subst e;exact (hQ3 x hy).1 hx) (fun y hy=>by
   rcases zbP.1 hy with hy | hy
   ·exact F3b y hy
   ·exact (hQ3 y hy).2)
 have hel:(l.take k).length+(l.drop (k+1)).length=(l.eraseIdx k).length:=by rw[zcx hk,htl,hdl];omega
 have her:l.take k++l.drop (k+1)=l.eraseIdx k:=(List.eraseIdx_eq_take_drop_succ l k).symm;rw[hel] at e7 r7;rw[her] at r7;have mm0:Mv h [] (h ++ [.rows 2 45 false []]) []:=Mv.snoc;rw[show OF false=45 from rfl] at e3 e7;refine ⟨a7,c7,h7,F7,fun K=>?_,r7,⟨by omega,fun y hy hyF=>?_,nd7,fun y hy=>?_⟩⟩
 ·rw[kP _ (fun b i e=>mm0.fr b (hbd b (own b i e).1) (by simp)),e3,Ah,kQ _ (fun b i e=>fr3 b (hbd b (own b i e).1)),e7]
 ·have y3:y∉F3:=fun hm3=>by
   rcases sub3 y hm3 with g | g
   ·exact hyF (sF y (inP y g))
   ·omega
  rw[fr7 y (by omega) y3,fr3 y hy]
 ·rcases sub7 y hy with g | g
  ·rcases zbP.1 g with g | g
   ·rcases sub3 y g with g | g
    ·exact .inl (sF y (inP y g))
    ·exact .inr (by omega)
   ·exact .inl (sF y (inQ' y g))
  ·exact .inr (by omega)
theorem Ke {k:Nat} (hs:RNodes false h [.sl 2 a l.length c] l F) (hk:k<l.length) (h2:1<l.length) (hlast:(l[l.length - 1]'(by omega)).wait = []) (hnd:F.Nodup) (hlo:∀ b∈F,lo≤b) (hl:lo≤h.length) (hn:l.length≤1048576) (hx:∀ x∈l,FW 20 x) :
  ∃ a' c' h' F',Ae lo 118 [.agg [.sl 2 a l.length c],Iv (k:Nat)] h=some (.agg [.sl 2 a' (Bq l k).length c'],h')∧RNodes false h' [.sl 2 a' (Bq l k).length c'] (Bq l k) F'∧Mv h F h' F':=by
 suffices hq:∃ a' c' h' F',_=some (V.agg [.sl 2 a' (Bq l k).length c'],h')∧RNodes false h' [.sl 2 a' (Bq l k).length c'] (Bq l k) F'∧Mv h F h' F' from by obtain ⟨a',c',h',F',e,hr⟩:=hq;exact ⟨a',c',h',F',RD e,hr⟩
 have hel:=zcx hk;obtain ⟨a1,c1,h1,F1,e1,r1,m1⟩:=Yi (lo:=lo) hs hk hnd hlo hl hn;have hflen:(Bq l k).length=l.length - 1:=by
  unfold Bq;cases decide (0<k)
  ·exact hel
  ·cases decide (k<(l.eraseIdx k).length)
   ·rw[cond_true,cond_false,Ck];exact hel
   ·rw[cond_true,cond_true,Ck];exact hel
 rw[Am (by omega),e1,Ah];have hl1:lo≤h1.length:=zbN hl m1.le;have hlo1:∀ b∈F1,lo≤b:=fun b hb=>m1.ge hl hlo b hb;have hn1:((l.eraseIdx k).length:Int) - 1=(((l.eraseIdx k).length - 1:Nat):Int):=by omega
 have tail:∀ (l':List Node) (hh:Heap) (F':List Nat),l'.length=(l.eraseIdx k).length→RNodes false hh [.sl 2 a1 (l.eraseIdx k).length c1] l' F'→F'.Nodup→(∀ b∈F',lo≤b)→∃ h' F'',(Ap (IntKind.wrap .i64 ((((l.eraseIdx k).length:Nat):Int) - 1)) (l.eraseIdx k).length (eO a1 fun o_41=>eO (st lo hh (o_41.1) ((o_41.2)+((IntKind.i64.wrap ((((l.eraseIdx k).length:Nat):Int) - (1:Int))).toNat)) 1 [.sl 0 none 0 (some 0)]) fun o_42=>some (V.agg [.sl 2 a1 (l.eraseIdx k).length c1],o_42)))=some (.agg [.sl 2 a1 (l.eraseIdx k).length c1],h') ∧
   RNodes false h' [.sl 2 a1 (l.eraseIdx k).length c1] (BQ l' ((l.eraseIdx k).length - 1) []) F''∧Mv hh F' h' F'':=by
  intro l' hh F' hll hr hnd' hlo';obtain ⟨b,i,h3,F3,ha,_,e3,r3,m3,_⟩:=PP (lo:=lo) (k:=(l.eraseIdx k).length - 1) (w := .sl 0 none 0 (some 0)) (ws := []) hr (by omega) hnd' hlo' Sli.nil Mv.nil;rw[wr (n:=(((l.eraseIdx k).length:Nat):Int) - 1) (by omega) (by omega),hn1,Ad (by omega),ha,Af,A7,e3,Af,← ha];exact ⟨h3,F3,rfl,r3,m3⟩
 have hlast':∀ hj:(l.eraseIdx k).length - 1<(l.eraseIdx k).length,k<(l.eraseIdx k).length→((l.eraseIdx k)[(l.eraseIdx k).length - 1]).wait = []:=fun hj hkl=>by
  have:(l.eraseIdx k)[(l.eraseIdx k).length - 1]=l[l.length - 1]:=by rw[List.getElem_eraseIdx];rw[dif_neg (by omega)];congr 1;omega
  rw[this];exact hlast
 by_cases h0:0<k
 ·rw[Ak (by omega)];by_cases hkl:k<(l.eraseIdx k).length
  ·-- in between
   have hf:Bq l k=BQ (l.eraseIdx k) (k - 1) (DK (FR (l.eraseIdx k) (k - 1)) (FR (l.eraseIdx k) k)):=by unfold Bq;rw[decide_eq_true h0,cond_true,decide_eq_true hkl,cond_true]
   have hk1:k - 1<(l.eraseIdx k).length:=by omega
   have hxm:∀ x∈l.eraseIdx k,FW 20 x:=fun x hx'=>hx x (zcN hx');obtain ⟨o,s1,s2,b1,d1,b2,d2,H1,H2,ha,_,ho1,_,q1,_,p1,_⟩:=r1.get hk1;obtain ⟨o',s1',s2',b1',d1',b2',d2',H1',H2',ha',_,ho1',_,q1',_,p1',_⟩:=r1.get hkl;have ho:o=o':=by rw[ha] at ha';injection ha'
   subst ho;have n1:=hxm _ (zbO hk1);have n2:=hxm _ (zbO hkl);obtain ⟨a4,c4,h4,F4,e4,r4,m4⟩:=Uo (lo:=lo) p1 p1' n1.1 n2.1 (fun v hv=>by have:=(n1.2.2.1 v hv).1;omega) hl1;obtain ⟨b,i,h5,F5,hb,_,e5,r5,m5,_⟩:=PP (lo:=lo) (k:=k - 1) (w := .sl 6 a4 (DK (l.eraseIdx k)[k - 1].store (l.eraseIdx k)[k].store).length c4) r1 hk1 m1.nd hlo1 r4 m4;obtain ⟨h6,F6,e6,r6,m6⟩:=tail _ h5 F5 Ck r5 m5.nd (fun b hb=>m5.ge hl1 hlo1 b hb);have hkk:((k:Nat):Int) - 1=((k - 1:Nat):Int):=by omega
   have hoe:o=(b,i):=by rw[ha] at hb;injection hb
   subst hoe;rw[Ak (by omega),wr (n:=((k:Nat):Int) - 1) (by omega) (by omega),hkk,Ad hk1,ha,Af,A7,ho1,Af,Ab,q1,Ag,Ad hkl,Af,A7,ho1',Af,Ab,q1',Ag,e4,Ac,Ah,Ad hk1,Af,e5,Af,← ha,e6];have hsame:BQ (BQ (l.eraseIdx k) (k - 1) (DK (l.eraseIdx k)[k - 1].store (l.eraseIdx k)[k].store)) ((l.eraseIdx k).length - 1) []=Bq l k:=by
    rw[hf,CI hk1,CI hkl];have hj:(l.eraseIdx k).length - 1<(BQ (l.eraseIdx k) (k - 1) (DK (l.eraseIdx k)[k - 1].store (l.eraseIdx k)[k].store)).length:=by rw[Ck];omega
    refine Ob hj ?_;have hg:=DX (w:=DK (l.eraseIdx k)[k - 1].store (l.eraseIdx k)[k].store) hk1;rw[zdB hg,List.getElem_set_ne (by omega)];exact hlast' (by omega) hkl
   rw[hsame] at r6;refine ⟨a1,c1,h6,F6,by rw[hflen,hel],by rw[hflen,← hel];exact r6,(m1.trans m5).trans m6⟩
  ·-- the tail fell
   have hf:Bq l k=BQ (l.eraseIdx k) (k - 1) []:=by unfold Bq;rw[decide_eq_true h0,cond_true,decide_eq_false hkl,cond_false]
   have hkk:(l.eraseIdx k).length - 1=k - 1:=by omega
   obtain ⟨h6,F6,e6,r6,m6⟩:=tail _ h1 F1 rfl r1 m1.nd hlo1;rw[Ai (by omega),e6];rw[hkk,← hf] at r6;exact ⟨a1,c1,h6,F6,by rw[hflen,hel],by rw[hflen,← hel];exact r6,m1.trans m6⟩
 ·have hf:Bq l k=l.eraseIdx k:=by unfold Bq;rw[decide_eq_false h0,cond_false]
  obtain ⟨h6,F6,e6,r6,m6⟩:=tail _ h1 F1 rfl r1 m1.nd hlo1;rw[Ai (by omega),e6];rw[Ob (by omega) (hlast' (by omega) (by omega)),← hf] at r6;exact ⟨a1,c1,h6,F6,by rw[hflen,hel],r6,m1.trans m6⟩
end


variable {s t:List Ver}{v:Ver}{l:List Node}{w:List Ver}{rs:List (List V)}
def A9 (x:Ver×Ver):Option Ver:=bif AT x.2 x.1 then some x.1 else none
theorem lack_sort:∀ {z:List (Ver×Ver)}{acc:List Ver},z.foldl FZ acc=(z.filterMap A9).foldl (fun acc v=>Et v acc) acc
 | [],acc=>rfl
 | x :: z,acc=>by
  rw[zcA,lack_sort (z:=z)];unfold FZ;cases hx:AT x.2 x.1 with
  | true =>
   have:A9 x=some x.1:=by unfold A9;rw[hx];rfl
   rw[List.filterMap_cons,this];rfl
  | false =>
   have:A9 x=none:=by unfold A9;rw[hx];rfl
   rw[List.filterMap_cons,this];rfl
def Mr (s t:List Ver):List Ver:=(s.zip t).filterMap A9
theorem P8:Ki (Mr s t)=DK s t:=lack_sort.symm
theorem Ho {u:Ver} (hu:A2 u.tag.time u.tag.place=true) (hv:v.tag.time=0∧v.tag.place=0):AT u v=false:=by rw[Ji];simp[A2,Al] at hu;omega
theorem LJ {i:Nat} (h:Hw i v=true):A2 v.tag.time v.tag.place=true:=(SW h).2.2
theorem P7 (hs:AH s=true) (ht:AH t=true):(Mr s t).Pairwise fun p u=>p.key<u.key:=by
 unfold Mr;rw[List.pairwise_filterMap,List.pairwise_iff_getElem];intro i j hi hj hij b hb b' hb';have hi':i<s.length∧i<t.length:=by rw[zdx] at hi;omega
 have hj':j<s.length∧j<t.length:=by rw[zdx] at hj;omega
 rw[zdo] at hb hb';have key:∀ q (hq:q<s.length) (hq':q<t.length) x,A9 (s[q],t[q])=some x→x.key=(q:Int):=fun q hq hq' x hx=>by
  unfold A9 at hx;simp only at hx;cases hl:AT t[q] s[q] with
  | false=>rw[hl] at hx;cases hx
  | true =>
   rw[hl] at hx;injection hx with hx;subst hx;rcases CB (Cb hs hq) with g | g
   ·have:=Ho (LJ (Cb ht hq')) (DS g);rw[hl] at this;cases this
   ·exact g.2
 have e1:=key i hi'.1 hi'.2 b (by simpa using hb);have e2:=key j hj'.1 hj'.2 b' (by simpa using hb');omega
theorem X0 (hs:s.length=4):(Mr s t).length≤4:=by unfold Mr;have:=List.length_filterMap_le A9 (s.zip t);rw[zdx] at this;omega
section
variable {lo:Nat}{h:Heap}{F F' G:List Nat}{a a' av:Pq}{c c' cv:Nq}
theorem WF {n:Nat} (hn:n≤4):∃ x,Ae lo 261 [.int .u64 (IntKind.wrap .u64 ((n:Nat):Int))] h=some (Iv x,h):=by
 have key:∀ m:Nat,m≤4→∃ x,Ae (List.length h) 320 [.int .u64 (IntKind.wrap .u64 ((m:Nat):Int))] h=some (Iv x,h):=by
  intro m hm;have:m=0∨m=1∨m=2∨m=3∨m=4:=by omega
  rcases this with rfl | rfl | rfl | rfl | rfl;all_goals exact ⟨_,MT (h':=h) (by
   rw[Ai (by decide),Ai (by decide),Ai (by decide)];rfl)⟩
 obtain ⟨x,hx⟩:=key n hn;exact ⟨x,O6 (h':=h) (by rw[hx,Ac,Aa])⟩
theorem X6 {l:List Ver} (hs:RVers false h [.sl 6 a l.length c] l F) (h4:l.length≤4) (hk:l.Pairwise fun p u=>p.key<u.key) (hnd:F.Nodup) (hlo:∀ b∈F,lo≤b) (hl:lo≤h.length) :
  ∃ h' F',Ae lo 170 [.sl 6 a l.length c,.fn 171 []] h=some (.tup [],h')∧RVers false h' [.sl 6 a l.length c] (Ki l) F'∧Mv h F h' F':=by
 obtain ⟨x,hx⟩:=WF (lo:=lo) (h:=h) h4;obtain ⟨h',F',e,r,m⟩:=Qi (lo:=lo) hs hk hnd hlo hl (by omega);refine ⟨h',F',E9 ?_,r,m⟩;rw[hx,Ac,Aa];have:Ae lo 260 [.sl 6 a l.length c,Iv 0,Iv ((l.length:Nat):Int),Iv x,.fn 171 []] h=some (.tup [],h'):=by
  have hc:l.length=0∨l.length=1∨l.length=2∨l.length=3∨l.length=4:=by omega
  rcases hc with q | q | q | q | q
  ·rw[q] at e ⊢;exact E2 (by rw[Be.e];exact (congrArg (fun o=>Aj o _) e).trans rfl)
  ·rw[q] at e ⊢;exact E1 (by rw[Bd.e];exact (congrArg (fun o=>Aj o _) e).trans rfl)
  ·rw[q] at e ⊢;exact E0 (by rw[Bc.e];exact (congrArg (fun o=>Aj o _) e).trans rfl)
  ·rw[q] at e ⊢;exact EZ (by rw[Bb.e];exact (congrArg (fun o=>Aj o _) e).trans rfl)
  ·rw[q] at e ⊢;exact EY (by rw[Ba.e];exact (congrArg (fun o=>Aj o _) e).trans rfl)
 rw[this,Ac,Ge,Ag]
theorem Tg {k:Nat} (hs:RNodes false h [.sl 2 a l.length c] l F) (hk:k<l.length) (hnd:F.Nodup) (hlo:∀ b∈F,lo≤b) (hn:l.length≤1048576) :
  ∃ h' F',Ae lo 169 [.sl 2 a l.length c,Iv (k:Nat),Iv ((k+1:Nat):Int)] h=some (.sl 2 a (l.length - 1) c,h')∧RNodes false h' [.sl 2 a (l.length - 1) c] (l.eraseIdx k) F'∧Mv h F h' F':=by
 obtain ⟨h',F',Gv,b,i,row,ha,hld,hel,hG,e,r,m,fr⟩:=Sli.del (lo:=lo) (bytes:=48) (e:=45) (z := [.sl 0 none 0 (some 0),.sl 0 none 0 (some 0)]) (x1:=(k:Nat)) (x2:=((k+1:Nat):Int)) (T:=V×Heap) rnode_ok hs hk hnd hlo rfl (by omega) (by decide) (by omega) (some (.sl 2 a l.length c,h)) (fun v h=>some (v,h));exact ⟨h',F',Fa e,r,m⟩
theorem VZ {h3:Heap}{n k:Nat}{s1:V}{b0 i0:Nat} (hs:RNodes false h [.sl 2 a n c] l F) (ha:a=some (b0,i0)) (hk:k<l.length) (hst:ld h b0 (i0+k) 0 1=some [s1]) (hnd:F.Nodup) (hlo:∀ b∈F,lo≤b) (hl:lo≤h.length) (hw:l[k].wait.length≤1048576) (hv:RTags false h3 [.sl 2 av v.past.length cv] v.past G) (m3:Mv h [] h3 G) :
  ∃ t2 a2 c2 a5 c5 h5 h6 F6,ld h b0 (i0+k) 1 1=some [t2]∧(∀ {T:Type} (K:Pq→Nat→Nq→Option T),eS 6 t2 K=K a2 l[k].wait.length c2) ∧
   (∀ {T:Type} (K:V→Heap→Option T),CS lo 34 6 72 (.sl 6 a2 l[k].wait.length c2) [v.cs av cv] (h3 ++ [.rows 6 34 false [v.cs av cv]]) K=K (.sl 6 a5 (l[k].wait.length+1) c5) h5) ∧
   st lo h5 b0 (i0+k) 1 [.sl 6 a5 (l[k].wait.length+1) c5]=some h6∧RNodes false h6 [.sl 2 a n c] (l.set k ⟨l[k].store,l[k].wait ++ [v]⟩) F6∧Mv h F h6 F6∧ld h6 b0 (i0+k) 0 1=some [s1]:=by
 obtain ⟨b,i,rs,row,G0,ha',hbF,hbG,hb,hrow,hel,hGF,hGn,_,put⟩:=hs.at rnode_ok hk hnd hlo;have:(b0,i0)=(b,i):=by rw[ha] at ha';injection ha'
 injection this with e1 e2;subst e1;subst e2;obtain ⟨t1,t2,F1,F2,rfl,rfl,r1,r2⟩:=hel;have hs1:s1=t1:=by rw[BB hb hrow] at hst;injection hst with hst;injection hst with hst _;exact hst.symm
 subst hs1;obtain ⟨a2,c2,e2,r2'⟩:=r2.form;rw[zbQ] at hGn;obtain ⟨a5,c5,h5,F5,e5,r5,m5⟩:=D9 (lo:=lo) (bytes:=72) (e:=34) rver_ok r2' (row:=v.cs av cv) (x:=v) (G:=G) (h1:=h3 ++ [.rows 6 34 false [v.cs av cv]])
  ⟨_,rfl,Mv.snoc.keep0 rtags_ok hv⟩ (m3.trans (Mv.snoc' m3.nd)) hGn.2.1 (fun y hy=>hlo y (hGF y (by simp[hy]))) hl (by decide) (by omega)
 have b1:∀ y∈F1,y<h.length:=rvers_ok.bd _ _ _ _ r1;have m6:=(m5.aside (G:=F1) (by rw[zbQ];exact ⟨hGn.2.1,hGn.1,fun x hx y hy e=>hGn.2.2 y hy x hx e.symm⟩) b1).swap;have r1':=m5.keep rvers_ok r1 fun y hy hm=>hGn.2.2 y hy y hm rfl;obtain ⟨h6,F6,e6,r6,m7,hb6,_,_⟩:=put h5 (F1++F5) 1 [.sl 6 a5 (l[k].wait.length+1) c5] [s1,.sl 6 a5 (l[k].wait.length+1) c5] ⟨l[k].store,l[k].wait ++ [v]⟩ m6 rfl ⟨_,_,F1,F5,rfl,rfl,r1',r5⟩;have hrl:i0+k<rs.length:=(Fh hrow).1;have hr6:(rs.set (i0+k) [s1,.sl 6 a5 (l[k].wait.length+1) c5])[i0+k]?=some [s1,.sl 6 a5 (l[k].wait.length+1) c5]:=by simp[hrl]
 exact ⟨t2,a2,c2,a5,c5,h5,h6,F6,by rw[BB hb hrow];rfl,fun K=>e2 K,fun K=>e5 K,e6,r6,m7,by rw[BB hb6 hr6];rfl⟩
theorem Pv {k:Nat}{w':List Ver} (hk:k<l.length):(BQ l k w).set k ⟨l[k].store,w'⟩=BQ l k w':=by rw[DX hk,DX hk,zdA]
theorem Jb {k:Nat} (hk:k<l.length):(BQ l k w)[k]'(by rw[Ck];exact hk)=⟨l[k].store,w⟩:=by rw[zdB (DX hk),zc3]
theorem Xw {k q:Nat} (hk:k<l.length) (hq:q<l.length) (hne:k≠q):(BQ l k w)[q]'(by rw[Ck];exact hq)=l[q]:=by rw[zdB (DX hk),List.getElem_set_ne hne]
theorem Ye {b i j R e:Nat}{row:List V}{k1 b5 i5:Nat}{as':Pq}{cs':Nq}
  (hkl:k1+1<l.length) (hb:h[b]?=some (.rows R e false rs)) (hrow:rs[i]?=some row) (hcell:row[j]?=some (.sl 2 a l.length c)) (hbF:b∉F)
  (hs:RNodes false h [.sl 2 a l.length c] (BQ l k1 []) F) (ha:a=some (b5,i5)) (hnd:F.Nodup) (hlo:∀ b∈F,lo≤b) (hl:lo≤h.length) (hn:l.length≤1048576) (h1:AH (l[k1]'(by omega)).store=true) (h2:AH l[k1+1].store=true) {x0:V} (hst:ld h b5 (i5+k1) 0 1=some [x0]) (hex:∀ {T:Type} (K:Pq→Nat→Nq→Option T),eS 6 x0 K=K as' (l[k1]'(by omega)).store.length cs') :
  ∃ h' F',Bl lo b i j ((k1+1:Nat):Int) b5 (i5+k1) 0 as' (l[k1]'(by omega)).store.length cs' (((l[k1]'(by omega)).store.length:Nat):Int) 0 h=some (.bool true,h') ∧
   RNodes false h' [.sl 2 a l.length c] (BQ l k1 (DK (l[k1]'(by omega)).store l[k1+1].store)) F'∧Mv h F h' F':=by
 have hk1:k1<l.length:=by omega
 have hblt:b<h.length:=(Fh hb).1;have hex':=fun {T:Type} (K:Pq→Nat→Nq→Option T)=>hex K;generalize hsd:(l[k1]'(by omega)).store=s at h1 hex' ⊢;generalize htd:l[k1+1].store=t at h2 ⊢;have hs4:=AQ h1;have ht4:=AQ h2;have hzl:(s.zip t).length=4:=by rw[zdx];omega
 have hsm1:=GN h1;have hbm:∀ hh F',Mv h F hh F'→hh[b]?=some (.rows R e false rs):=fun hh F' m=>by rw[m.fr b hblt hbF];exact hb
 have one:∀ m q,m+q=4→∀ hh F',RNodes false hh [.sl 2 a l.length c] (BQ l k1 (((s.zip t).take q).filterMap A9)) F'→Mv h F hh F'→ld hh b5 (i5+k1) 0 1=some [x0] →
   ∃ h' F'',Bl lo b i j ((k1+1:Nat):Int) b5 (i5+k1) 0 as' s.length cs' ((s.length:Nat):Int) (q:Nat) hh=some (.bool true,h')∧RNodes false h' [.sl 2 a l.length c] (BQ l k1 (DK s t)) F''∧Mv h F h' F'':=by
  intro m;induction m with
  | zero =>
   intro q hq hh F' hr hm hld;have hq4:q=4:=by omega
   subst hq4;rw[zcD (by omega)] at hr;have hwl:k1<(BQ l k1 ((s.zip t).filterMap A9)).length:=by rw[Ck];exact hk1
   obtain ⟨b',i',rs',row',G0,ha',hbF',hbG,hb',hrow',hel,hGF,hGn,put⟩:=hr.at2 rnode_ok hwl hm.nd (fun y hy=>hm.ge hl hlo y hy);have:(b5,i5)=(b',i'):=by rw[ha] at ha';injection ha'
   injection this with x1 x2;subst x1;subst x2;rw[Jb hk1] at hel;obtain ⟨t1,t2,F1,F2,rfl,rfl,r1,r2⟩:=hel;simp only at r1 r2;obtain ⟨a2,c2,e2,r2'⟩:=r2.form;rw[zbQ] at hGn;have hlh:lo≤hh.length:=zbN hl hm.le;obtain ⟨h3,F3,e3,r3,m3⟩:=X6 (lo:=lo) r2' (X0 hs4) (P7 h1 h2) hGn.2.1 (fun y hy=>hm.ge hl hlo y (hGF y (by simp[hy]))) hlh;have b1:∀ y∈F1,y<hh.length:=rvers_ok.bd _ _ _ _ r1;have m4:=(m3.aside (G:=F1) (by rw[zbQ];exact ⟨hGn.2.1,hGn.1,fun x hx y hy e=>hGn.2.2 y hy x hx e.symm⟩) b1).swap;have r1':=m3.keep rvers_ok r1 fun y hy hm=>hGn.2.2 y hy y hm rfl;have hsl:(Ki ((s.zip t).filterMap A9)).length=((s.zip t).filterMap A9).length:=(r3.val).symm;have r3c:=r3.clip;rw[← hsl] at r3c;obtain ⟨h4,F4,e4,r4,m5,_,_⟩:=put h3 (F1++F3) 1 [.sl 6 a2 (Ki ((s.zip t).filterMap A9)).length (some (Ki ((s.zip t).filterMap A9)).length)] [t1,.sl 6 a2 (Ki ((s.zip t).filterMap A9)).length (some (Ki ((s.zip t).filterMap A9)).length)] ⟨l[k1].store,Ki ((s.zip t).filterMap A9)⟩ m4 rfl ⟨_,_,F1,F3,rfl,rfl,by rw[hsd];rw[hsd] at r1';exact r1',r3c⟩;rw[hsl] at e4;rw[Pv hk1] at r4;have hfin:Ki ((s.zip t).filterMap A9)=DK s t:=P8;rw[hfin] at r4;have l1:ld hh b5 (i5+k1) (0+1) 1=some [t2]:=by rw[BB hb' hrow'];rfl
   have hb5:h3[b5]?=hh[b5]?:=m3.fr b5 (Fh hb').1 fun hm2=>hbG (by simp[hm2]);have l3:ld h3 b5 (i5+k1) (0+1) 1=some [t2]:=by rw[BB (by rw[hb5];exact hb') hrow'];rfl
   rw[Bl.e,Ai (by omega),l1,Af,Ab,Ag,e2,e3,Ac,Ge,Ag,l3,Af,Ab,Ag,e2,MJ r3,Ac,Ah,e4,Af];exact ⟨h4,F4,rfl,r4,hm.trans m5⟩
  | succ m ih =>
   intro q hq hh F' hr hm hld;have hqs:q<s.length:=by omega
   have hqt:q<t.length:=by omega
   have hlh:lo≤hh.length:=zbN hl hm.le;have hwl:k1<(BQ l k1 (((s.zip t).take q).filterMap A9)).length:=by rw[Ck];exact hk1
   have hwl2:k1+1<(BQ l k1 (((s.zip t).take q).filterMap A9)).length:=by rw[Ck];exact hkl
   obtain ⟨o,x1,_,b1,d1,_,_,H1,_,ho,_,ho1,_,ex1,_,p1,_⟩:=hr.get hwl;obtain ⟨o2,x2,_,b2,d2,_,_,H2,_,ho2,_,ho21,_,ex2,_,p2,_⟩:=hr.get hwl2;have hoe:o=(b5,i5):=by rw[ha] at ho;injection ho with ho;exact ho.symm
   have hoe2:o2=(b5,i5):=by rw[ha] at ho2;injection ho2 with ho2;exact ho2.symm
   subst hoe;subst hoe2;rw[hld] at ho1;injection ho1 with ho1;injection ho1 with ho1 _;subst ho1;have hcap:=ex1 fun a n c=>some (a,c);rw[hex'] at hcap;injection hcap with hcap;injection hcap with hc1 hc2;subst hc1;subst hc2;have es1:(BQ l k1 (((s.zip t).take q).filterMap A9))[k1].store=s:=by rw[Jb hk1];exact hsd
   have es2:(BQ l k1 (((s.zip t).take q).filterMap A9))[k1+1].store=t:=by rw[Xw hk1 hkl (by omega)];exact htd
   rw[es1] at p1;rw[es2] at ex2 p2;have hv:=Cb h1 hqs;have hkr:0≤s[q].key∧s[q].key<4:=by
    rcases CB hv with g | g
    ·rw[KG g];decide
    ·rw[g.2];omega
   have hkt:s[q].key.toNat<t.length:=by omega
   have hless:AT (t[s[q].key.toNat]'hkt) s[q]=AT t[q] s[q]:=by
    rcases CB hv with g | g
    ·rw[Ho (LJ (Cb h2 hkt)) (DS g),Ho (LJ (Cb h2 hqt)) (DS g)]
    ·have:s[q].key.toNat=q:=by rw[g.2];omega
     simp only[this]
   obtain ⟨ov,xs,bs,ds,Hs,hov,hlv,exs,hps,_⟩:=p1.get hqs;obtain ⟨ot,_,_,_,_,hot,_,_,_,_,_,_,hlt,_,_,_,_⟩:=RVers.all p2 hkt;have lc:ld hh b i (j+0) 1=some [.sl 2 a l.length c]:=by rw[BB (hbm hh F' hm) hrow];exact JP hcell
   have htake:((s.zip t).take (q+1)).filterMap A9=((s.zip t).take q).filterMap A9++(match A9 (s[q],t[q]) with | some v => [v] | none => []):=by rw[zc6 (by omega),List.filterMap_append,zdo];congr 1;cases hx:A9 (s[q],t[q])<;>simp[List.filterMap_cons,hx]
   have htl:=HV (lo:=lo) (h:=hh) (a:=(t[s[q].key.toNat]'hkt).tag.time) (b:=(t[s[q].key.toNat]'hkt).tag.place) (c:=s[q].tag.time) (d:=s[q].tag.place);rw[Bl.e,Ak (by omega),Ad hqs,hov,Af,A7,hlv,Af,Ab,Aa,Ab,Aa,Ab,Aa,Ab,exs,Ab,A8,Ab,Aw,Ag,lc,Af,Ab,Ag,Ah,Ad hkl,ha,Af,A7,ho21,Af,Ab,Ag,ex2,Cl ⟨by omega,by omega⟩,hot,Af,hlt,Af,Ab,Aa,Ab,Aa,Ag,htl,Ac,Av,← hov,Am (by omega)];show ∃ h' F'',br (AT (t[s[q].key.toNat]'hkt) s[q]) _ _=_∧_;rw[hless];cases hlq:AT t[q] s[q] with
   | false =>
    have:A9 (s[q],t[q])=none:=by unfold A9;rw[hlq];rfl
    rw[this] at htake;simp only[zcB] at htake;rw[Au,← ha];exact ih (q+1) (by omega) hh F' (by rw[htake];exact hr) hm hld
   | true =>
    have:A9 (s[q],t[q])=some s[q]:=by unfold A9;rw[hlq];rfl
    rw[this] at htake;simp only at htake;obtain ⟨a3,c3,h3,F3,e3,r3,m3⟩:=CV (lo:=hh.length) (v:=s[q]) hps (zbR _) (hsm1.2 _ (zbO hqs)).1;have hwlen:(((s.zip t).take q).filterMap A9).length≤4:=by have:=List.length_filterMap_le A9 ((s.zip t).take q);rw[zcp] at this;omega
    obtain ⟨t2,a4,c4,a5,c5,h5,h6,F6,l2,e2,e5,e6,r6,m6,l6⟩:=VZ (lo:=lo) (v:=s[q]) hr ha hwl hld hm.nd (fun y hy=>hm.ge hl hlo y hy) hlh (by rw[Jb hk1];exact zbN hwlen (by decide)) r3 m3;rw[Jb hk1] at e2 e5 e6 r6;simp only at e2 e5 e6 r6;rw[Pv hk1,← htake] at r6;simp only[Ver.cs] at e3 e5;rw[An,l2,Af,Ab,Ag,e2,e3,Ac,AC,Ab,Aa,Ab,Aa,Ab,Aa,Ab,Ah,Ab,A8,Ab,Aw,Ag,AZ,e5,Ah,e6,Af];rw[← ha];exact ih (q+1) (by omega) h6 F6 r6 (hm.trans m6) l6
 exact one 4 0 (by omega) h F (by simpa using hs) (Mv.refl hnd) hst
theorem Mv.cons {h h':Heap}{F F':List Nat}{b:Nat} (m:Mv h F h' F') (hb:b<h.length) (hbF:b∉F) (hnd:F.Nodup):Mv h (b :: F) h' (b :: F') :=
 (m.aside (G := [b]) (by rw[zbQ];exact ⟨hnd,by simp,fun x hx y hy e=>by rw[zbW] at hy;subst hy;subst e;exact hbF hx⟩) (by simpa using hb)).swap
def CA (l:List Node) (k:Int):Bool:=Al k 0 ((l.length:Int) - 1)&&decide (1<l.length)
theorem X5 {b i j R e:Nat}{row:List V}{k:Int} (hb:h[b]?=some (.rows R e false rs)) (hrow:rs[i]?=some row) (hcell:row[j]?=some (.sl 2 a l.length c)) (hs:RNodes false h [.sl 2 a l.length c] l F) (hbF:b∉F)
  (hnd:F.Nodup) (hlob:lo≤b) (hlo:∀ b∈F,lo≤b) (hl:lo≤h.length) (hn:Ci l) (h0:0<l.length) (hst:∀ x∈l,AH x.store=true) :
  ∃ a' n' c' h' F',Ae lo 76 [.ptr (some (b,(i,j))),Iv k] h=some (.bool (CA l k),h')∧h'[b]?=some (.rows R e false (rs.set i (row.set j (.sl 2 a' n' c'))))∧RNodes false h' [.sl 2 a' n' c'] (bif CA l k then Bq l k.toNat else l) F'∧Mv h (b :: F) h' (b :: F'):=by
 have hn1:=hn.1;suffices hq:∃ a' n' c' h' F',_=some (V.bool (CA l k),h')∧h'[b]?=some (.rows R e false (rs.set i (row.set j (.sl 2 a' n' c'))))∧RNodes false h' [.sl 2 a' n' c'] (bif CA l k then Bq l k.toNat else l) F'∧Mv h (b :: F) h' (b :: F') from by obtain ⟨a',n',c',h',F',e,hr⟩:=hq;exact ⟨a',n',c',h',F',Nc e,hr⟩
 have hblt:b<h.length:=(Fh hb).1;have hil:i<rs.length:=(Fh hrow).1;have hjl:j<row.length:=(Fh hcell).1;have hndb:(b :: F).Nodup:=by rw[zbV];exact ⟨hbF,hnd⟩
 have hld:ld h b i (j+0) 1=some [.sl 2 a l.length c]:=by rw[BB hb hrow];exact JP hcell
 have stay:CA l k=false→∃ a' n' c' h' F',some (V.bool false,h)=some (V.bool (CA l k),h')∧h'[b]?=some (.rows R e false (rs.set i (row.set j (.sl 2 a' n' c'))))∧RNodes false h' [.sl 2 a' n' c'] (bif CA l k then Bq l k.toNat else l) F'∧Mv h (b :: F) h' (b :: F'):=fun hc=>by rw[hc];exact ⟨a,l.length,c,h,F,rfl,by rw[set_same hcell,set_same hrow];exact hb,hs,Mv.refl hndb⟩
 have hcd:CA l k=(Al k 0 ((l.length:Int) - 1)&&decide (1<l.length)):=rfl;rw[hld,Af,Ab,Ag,Ah,wr (by omega) (by omega),DB,Ac,Av];cases hw:Al k 0 ((l.length:Int) - 1) with
 | false=>rw[Au];exact stay (by rw[hcd,hw];rfl)
 | true =>
 rw[hw,zb8] at hcd;simp only[Al,Dm,decide_eq_true_eq] at hw;obtain ⟨f,rfl⟩:∃ f:Nat,k=(f:Int):=⟨k.toNat,by omega⟩;have hk:f<l.length:=by omega
 rw[An,hld,Af,Ab,Ag,Ah];by_cases h1:1<l.length
 ·rw[decide_eq_true h1] at hcd;have hel:=zcx hk;obtain ⟨h2,F2,e2,r2,m2⟩:=Tg (lo:=lo) hs hk hnd hlo hn1;have hb2:h2[b]?=some (.rows R e false rs):=by rw[m2.fr b hblt hbF];exact hb
  have hclip:Ae lo 168 [.sl 2 a (l.length - 1) c] h2=some (.sl 2 a (l.length - 1) (some (l.length - 1)),h2):=Yr r2;have e3:=DA (lo:=lo) (cs := [.sl 2 a (l.length - 1) (some (l.length - 1))]) (j:=j+0) hb2 hlob hrow (Jf hjl);obtain ⟨m3,b3,k3,n3⟩:=m2.store hblt hbF (.rows R e false (rs.set i (row.set (j+0) (.sl 2 a (l.length - 1) (some (l.length - 1))))));generalize hh3:h2.set b (.rows R e false (rs.set i (row.set (j+0) (.sl 2 a (l.length - 1) (some (l.length - 1))))))=h3 at m3 b3 k3;have e3':st lo h2 b i (j+0) [.sl 2 a (l.length - 1) (some (l.length - 1))]=some h3:=by rw[← hh3];exact e3
  have r3:RNodes false h3 [.sl 2 a (l.length - 1) (some (l.length - 1))] (l.eraseIdx f) F2:=rnodes_ok.fr _ _ _ _ _ r2.clip fun y hy=>k3 y fun e=>n3 (by rw[← e];exact hy);rw[show (((l.length:Nat):Int)==1)=false by rw[beq_eq_false_iff_ne];omega,Au,Am (by omega),Af,Ab,Ag,Ah,e2,Ac,Ah,hclip,Ac,Ah,e3',Af];rw[hcd,cond_true,A7];by_cases hf0:f=0
  ·subst hf0;have hff:Bq l 0=l.eraseIdx 0:=rfl;rw[show (((0:Nat):Int)==0)=true from rfl,An,hff];exact ⟨a,l.length - 1,some (l.length - 1),h3,F2,rfl,b3,r3,m3⟩
  ·obtain ⟨f1,rfl⟩:∃ f1,f=f1+1:=⟨f - 1,by omega⟩;have hk1:f1<(l.eraseIdx (f1+1)).length:=by omega
   have hrow3:(rs.set i (row.set (j+0) (.sl 2 a (l.length - 1) (some (l.length - 1)))))[i]?=some (row.set j (.sl 2 a (l.length - 1) (some (l.length - 1)))):=by simp[hil]
   have hcell3:(row.set j (.sl 2 a (l.length - 1) (some (l.length - 1))))[j]?=some (.sl 2 a (l.length - 1) (some (l.length - 1))):=by simp[hjl]
   have ld3:∀ hh:Heap,hh[b]?=h3[b]?→ld hh b i j 1=some [.sl 2 a (l.length - 1) (some (l.length - 1))]:=fun hh hbb=>by rw[BB (by rw[hbb];exact b3) hrow3];exact JP hcell3
   obtain ⟨b5,i5,h4,F4,ha,hb5,e4,r4,m4,k4⟩:=PP (lo:=lo) (k:=f1) (w := .sl 0 none 0 (some 0)) (ws := []) r3 hk1 (zbV.1 m3.nd).2 (fun y hy=>m2.ge hl hlo y hy) Sli.nil Mv.nil;have hbb5:b≠b5:=fun e=>n3 (by rw[e];exact hb5);have hb4:h4[b]?=h3[b]?:=k4 b hbb5;have hbF4:b∉F4:=fun hm=>by
    rcases m4.sub b hm with g | g
    ·exact n3 g
    ·have:=m3.le;omega
   have m34:=m3.trans (m4.cons (by have:=m3.le;omega) n3 (zbV.1 m3.nd).2);have hlast:=ND (lo:=lo) (h:=h4) (a:=a) (c:=some (l.length - 1)) (n:=l.length - 1) (k:=f1) (by omega);have hfm:(((f1+1:Nat):Int)==0)=false:=by rw[beq_eq_false_iff_ne];omega
   rw[hfm,Au,zcG,ld3 h3 rfl,Af,Ab,Ag,Ah,show IntKind.i64.wrap (((f1+1:Nat):Int) - 1)=((f1:Nat):Int) by rw[wr (by omega) (by omega)];omega,Ad (show f1<l.length - 1 by omega),ha,Af,A7,e4,Af,ld3 h4 hb4,Af,Ab,Ah,Ag,hlast,Ac,Av];have hgt:decide (0<f1+1)=true:=decide_eq_true (by omega);by_cases hla:f1+1=l.length - 1
   ·have hff:Bq l (f1+1)=BQ (l.eraseIdx (f1+1)) f1 []:=by unfold Bq;rw[hgt,cond_true,decide_eq_false (by omega),cond_false];rfl
    rw[decide_eq_true hla,An,hff];exact ⟨a,l.length - 1,some (l.length - 1),h4,F4,rfl,by rw[hb4];exact b3,r4,m34⟩
   ·have hkl:f1+1<(l.eraseIdx (f1+1)).length:=by omega
    have hff:Bq l (f1+1)=BQ (l.eraseIdx (f1+1)) f1 (DK (l.eraseIdx (f1+1))[f1].store (l.eraseIdx (f1+1))[f1+1].store):=by unfold Bq;rw[hgt,cond_true,decide_eq_true hkl,cond_true,CI hkl,Nat.add_sub_cancel,CI hk1]
    have hwl:f1<(BQ (l.eraseIdx (f1+1)) f1 []).length:=by rw[Ck];exact hk1
    obtain ⟨o,x1,_,b1,d1,_,_,H1,_,ho,_,ho1,_,ex1,_,p1,_⟩:=r4.get hwl;have hoe:o=(b5,i5):=by rw[ha] at ho;injection ho with ho;exact ho.symm
    subst hoe;rw[Jb hk1] at ex1 p1;simp only at ex1 p1;rw[← hel] at r4;obtain ⟨h7,F7,e7,r7,m7⟩:=Ye (lo:=lo) (k1:=f1) (l:=l.eraseIdx (f1+1)) hkl (by rw[hb4];exact b3) hrow3 (by rw[hel];exact hcell3) hbF4 r4 ha m4.nd (fun y hy=>m4.ge (by have:=m3.le;omega) (fun y hy=>m2.ge hl hlo y hy) y hy) (by have:=m34.le;omega) (by omega) (hst _ (zcN (zbO hk1))) (hst _ (zcN (zbO hkl))) ho1 ex1;rw[decide_eq_false hla,Au,ho1,Af,Ab,Ag,ex1,e7,hff];have hb7:h7[b]?=h4[b]?:=m7.fr b (by have:=m34.le;omega) hbF4;exact ⟨a,(l.eraseIdx (f1+1)).length,some (l.eraseIdx (f1+1)).length,h7,F7,rfl,by rw[hel,hb7,hb4];exact b3,r7,m34.trans (m7.cons (by have:=m34.le;omega) hbF4 m4.nd)⟩
 ·rw[decide_eq_false h1] at hcd;rw[show (((l.length:Nat):Int)==1)=true by rw[beq_iff_eq];omega,An];exact stay hcd
end


variable {l:List Node}{p:Place}{k:Int}
def IV (p:Place) (k:Nat):Place:=⟨p.me,p.clock,Bq p.chain k,p.log,p.got,true⟩
def Bk (p:Place) (k:Int):Bool := !p.fell&&CA p.chain k
def A6 (p:Place) (k:Int):Place:=bif Bk p k then BL (IV p k.toNat) else p
theorem Ny {s t:List Ver}{v:Ver} (h:v∈DK s t):v∈s:=by
 have key:∀ (z:List (Ver×Ver)) (acc:List Ver),v∈z.foldl FZ acc→v∈acc∨∃ x∈z,x.1=v:=by
  intro z;induction z with
  | nil=>intro acc h;exact .inl h
  | cons x z ih =>
   intro acc h;rw[zcA] at h;rcases ih _ h with g | ⟨y,hy,e⟩
   ·unfold FZ at g;cases hl:AT x.2 x.1 with
    | false=>rw[hl] at g;exact .inl g
    | true =>
     rw[hl,cond_true] at g;rcases insF_mem.1 g with rfl | g
     ·exact .inr ⟨x,by simp,rfl⟩
     ·exact .inl g
   ·exact .inr ⟨y,by simp[hy],e⟩
 rcases key _ _ h with g | ⟨x,hx,rfl⟩
 ·simp at g
 ·exact (List.of_mem_zip hx).1
theorem Sv {s t:List Ver} (hs:s.length=4):(DK s t).length≤4:=by
 have key:∀ (z:List (Ver×Ver)) (acc:List Ver),(z.foldl FZ acc).length≤acc.length+z.length:=by
  intro z;induction z with
  | nil=>intro acc;simp
  | cons x z ih =>
   intro acc;rw[zcA];have:=ih (FZ acc x);have h2:(FZ acc x).length≤acc.length+1:=by
    unfold FZ;cases AT x.2 x.1
    ·simp
    ·rw[cond_true,Kp];exact zbR _
   rw[zcF];omega
 have:=key (s.zip t) [];rw[zdx] at this;simp only[zc2] at this;unfold DK;omega
theorem Nj {nw k:Nat}{w:List Ver} (h:∀ x∈l,FW nw x) (hw:w.length≤nw) (hv:∀ v∈w,thin v):∀ x∈BQ l k w,FW nw x:=fun x hx=>by
 unfold BQ at hx;split at hx
 ·rename_i y hy
  rcases zcb hx with hx | rfl
  ·exact h x hx
  ·obtain ⟨g1,_,g3,_⟩:=h y (zcc hy);exact ⟨g1,hw,g3,hv⟩
 ·exact h x hx
theorem Zl {nw k:Nat} (h:∀ x∈l,FW nw x) (hnw:4≤nw):(Bq l k).length≤l.length∧∀ x∈Bq l k,FW nw x:=by
 have h':∀ x∈l.eraseIdx k,FW nw x:=fun x hx=>h x (zcN hx);have hle:(l.eraseIdx k).length≤l.length:=zda _ _;unfold Bq;cases decide (0<k) with
 | false=>exact ⟨hle,h'⟩
 | true =>
  rw[cond_true];cases decide (k<(l.eraseIdx k).length) with
  | false=>exact ⟨by rw[cond_false,Ck];exact hle,Nj h' (zch _) (by simp)⟩
  | true =>
   rw[cond_true,Ck];refine ⟨hle,?_⟩;unfold FR;split
   ·rename_i y hy
    have hyn:=h' y (zcc hy);exact Nj h' (zbN (Sv hyn.1) hnw) (fun v hv=>hyn.2.2.1 v (Ny hv))
   ·refine Nj h' ?_ (fun v hv=>?_)
    ·rw[show ∀ t,DK [] t = [] from fun t=>by simp[DK]];exact zch _
    ·have:=Ny hv;simp at this
theorem Nm {nc nl k:Nat} (h:Tidy nc 6 nl p):Tidy nc 6 nl (IV p k):=by obtain ⟨h1,h2⟩:=Zl (k:=k) h.node (by decide);exact ⟨zbN h1 h.len,h2,h.log,h.got⟩
theorem H0 {k:Nat} (hk:k<l.length) (h1:1<l.length):(Bq l k).length=l.length - 1:=by
 have hel:=zcx hk;unfold Bq;cases decide (0<k)
 ·exact hel
 ·cases decide (k<(l.eraseIdx k).length)
  ·rw[cond_true,cond_false,Ck];exact hel
  ·rw[cond_true,cond_true,Ck];exact hel
theorem Nx (h:Cz l=true) (h0:0<l.length):(l[l.length - 1]'(by omega)).wait = []:=by have:=ML h (show l.length - 1<l.length by omega);unfold EX at this;rw[zcn (by omega)] at this;simp only[decide_eq_true_eq] at this;exact zbY this
section
variable {lo:Nat}{ro:Bool}{h:Heap}{F F':List Nat}{a a':Pq}{c c':Nq}
theorem Kb {a1 a2 a3:Pq}{c1 c2 c3:Nq} (hn:p.chain.length≤1048576):Ae lo 117 [.agg (p.cs a1 c1 a2 c2 a3 c3),Iv k] h=some (.bool (Bk p k),h):=by
 refine NV (h':=h) ?_;unfold Bk CA;cases p.fell with
 | true=>simp only[zcE,Au,zcZ]
 | false =>
  simp only[zcR,An,zb8];by_cases h1:1<p.chain.length
  ·rw[Ak (by omega),wr (by omega) (by omega),By,Ac,Av,decide_eq_true h1,zcT];exact IX
  ·rw[Ai (by omega),decide_eq_false h1,zdc]
theorem PL {cs:List V} (hp:BZ false h cs p F) (hl:lo≤h.length) (hn:CT p) :
  ∃ raw r h' F',Ae lo 44 [.agg cs,Iv k] h=some (.tup [.agg raw,.bool (Ao p&&Bk p k)],h')∧ID raw (DT p (A6 p k)) r∧BZ false h' r (DT p (A6 p k)) F'∧Mv h [] h' F':=by
 obtain ⟨a1,c1,a2,c2,a3,c3,rfl,hp⟩:=hp;obtain ⟨F1,F2,F3,_,h1,h2,h3⟩:=hp.cells;suffices hk:∃ raw r h' F',_=some (V.tup [.agg raw,.bool (Ao p&&Bk p k)],h')∧ID raw (DT p (A6 p k)) r∧BZ false h' r (DT p (A6 p k)) F'∧Mv h [] h' F' from by obtain ⟨raw,r,h',F',e,hr⟩:=hk;exact ⟨raw,r,h',F',N3 e,hr⟩
 rw[R9 h1 h2 h3 hn,Ac,Av];unfold DT;cases hpo:Ao p with
 | false =>rw[Au];obtain ⟨raw,r,rfl,n1,n2⟩:=Kn (hh:=h);exact ⟨_,r,h,[],rfl,n1,n2,Mv.nil⟩
 | true =>
 obtain ⟨raw,b1,d1,b2,d2,b3,d3,h4,F4,e4,n4,r4,m4⟩:=JB (lo:=lo) h1 h2 h3 hl hn;obtain ⟨s1,s2,s3,q1,q2,q3,q4,q5,q6,rfl,n1,n2,n3,eq⟩:=n4;obtain ⟨rfl,rfl,rfl,rfl,rfl,rfl⟩:=Ww eq;have r4':=r4;obtain ⟨G1,G2,G3,rfl,g1,g2,g3⟩:=r4'.cells;have ec:=Kb (lo:=lo) (h:=h4) (p:=p) (k:=k) (a1:=a1) (c1:=c1) (a2:=a2) (c2:=c2) (a3:=a3) (c3:=c3) hn.1.1;simp only[Place.cs] at ec;rw[An,e4,Ac,AC,Ab,Aa,Ab,Aa,Ab,n1,Ab,n2,Ab,n3,Ab,Aw,Ag,ec,Ac,Av];unfold A6;cases hc:Bk p k with
 | false =>rw[Au];exact ⟨p.cs b1 d1 b2 d2 b3 d3,_,h4,_,rfl,EH,⟨_,_,_,_,_,_,rfl,r4⟩,m4⟩
 | true =>
  have hc':=hc;unfold Bk CA at hc';simp only[Dm,Al,decide_eq_true_eq] at hc';obtain ⟨hfl,hw,hl1⟩:=hc';obtain ⟨f,rfl⟩:∃ f:Nat,k=(f:Int):=⟨k.toNat,by omega⟩;have hk':f<p.chain.length:=by omega
  have nd:=m4.nd;have nd':=nd;rw[zbQ,zbQ] at nd';obtain ⟨nd1,⟨nd2,nd3,Sq⟩,nd5⟩:=nd';have hlo4:∀ y∈G1++(G2++G3),lo≤y:=fun y hy=>by have:=m4.new y hy;omega
  have hbd4:∀ y∈G1++(G2++G3),y<h4.length:=fun y hy=>by
   simp only[zbP] at hy;rcases hy with hy | hy | hy
   ·exact rnodes_ok.bd _ _ _ _ g1 y hy
   ·exact rvers_ok.bd _ _ _ _ g2 y hy
   ·exact rvss_ok.bd _ _ _ _ g3 y hy
  obtain ⟨a5,c5,h5,F5,e5,r5,m5⟩:=Ke (lo:=lo) g1 hk' hl1 (Nx (AK hpo).2.2.2.1 (by omega)) nd1 (fun y hy=>hlo4 y (by simp[hy])) (zbN hl m4.le) hn.1.1 (fun x hx=>(Mh hpo x hx).1);have g25:=m5.keep rvers_ok g2 fun y hy hm=>nd5 y hm y (by simp[hy]) rfl;have ht:=KI (Nm (k:=f) (Cg hpo)) (by decide) (by decide) (by decide);have d1':=(Jy m5 (Mv.refl nd2) nd hbd4).2.1;obtain ⟨a6,c6,h6,F6,e6,r6,m6⟩:=JA (lo:=lo) (p:=IV p f) (a3:=b3) (c3:=d3) r5 g25 (by show 0<(Bq _ _).length;rw[H0 hk' hl1];omega) ht d1' nd2 (fun y hy=>hlo4 y (by simp[hy])) (zbN hl (zbN m4.le m5.le));have hcs:(IV p f).cs a5 c5 b2 d2 b3 d3 = [Iv p.me,Iv p.clock,.sl 2 a5 (Bq p.chain f).length c5,.sl 6 b2 p.log.length d2,.sl 1 b3 p.got.length d3,.bool true]:=rfl;rw[hcs] at e6;obtain ⟨m7,x1,x2,x3⟩:=Jy m5 m6 nd hbd4;rw[An,e5,Ac,AC,Ab,Ah,Ag,e6,Ac,AC];simp only[Place.cs];rw[Ab,Aa,Ab,Aa,Ab,Ah,Ab,Ah,Ab,Ah,Ab,Aw,Ag];exact ⟨(BL (IV p f)).cs a5 c5 a6 c6 b3 d3,_,h6,F5++(F6++G3),rfl,EH,⟨_,_,_,_,_,_,rfl,_,_,_,F5,F6,G3,rfl,rfl,m6.keep rnodes_ok r5 x1,r6,m6.keep rvss_ok (m5.keep rvss_ok g3 x2) x3⟩,m4.trans m7⟩
theorem Kq {cs:List V} (hp:BZ false h cs p F) (hl:lo≤h.length) (hn:CT p) :
  ∃ raw r h' F',Ae lo 43 [.agg cs,Iv k] h=some (.tup [.agg raw,.bool (Ao p&&Bk p k)],h')∧ID raw (DT p (A6 p k)) r∧BZ false h' r (DT p (A6 p k)) F'∧Mv h [] h' F':=by
 have m0:Mv h [] (h ++ [.rows 1 3 false [[Iv k]]]) []:=Mv.snoc;obtain ⟨raw,r,h',F',e,n,rr,m⟩:=J1 (lo:=lo) (p':=A6 p k) (l1 := [.ptr (some (h.length,(0,0)))]) (g:=115) (ok:=Bk p k) (m0.keep0 DH hp) (zbN hl m0.le) hn (fun hpo hh b a1 a2 c2 a3 c3 G1 G2 G3 hhl mm g1 g2 g3 hb hnd hlo=>by
  have hlen:(h ++ [Blk.rows 1 3 false [[Iv k]]]).length=h.length+1:=by simp
  have hx:hh[h.length]?=some (.rows 1 3 false [[Iv k]]):=by rw[mm.fr h.length (by rw[hlen];omega) (by simp)];simp
  have lk:ld hh h.length 0 0 1=some [Iv k]:=by rw[BB hx rfl];rfl
  have hblt:b<hh.length:=(Fh hb).1;have hlo':∀ y∈b ::(G1++(G2++G3)),lo≤y:=fun y hy=>by have:=hlo y hy;rw[hlen] at this;omega
  have hbd:∀ y∈b ::(G1++(G2++G3)),y<hh.length:=fun y hy=>by
   simp only[zb0,zbP] at hy;rcases hy with rfl | hy | hy | hy
   ·exact hblt
   ·exact rnodesC_ok.bd _ _ _ _ g1 y hy
   ·exact rvers_ok.bd _ _ _ _ g2 y hy
   ·exact rvss_ok.bd _ _ _ _ g3 y hy
  have l5:ld hh b 0 (0+5) 1=some [.bool p.fell]:=by rw[BB hb rfl];rfl
  have stay:Bk p k=false→∃ hh' row' F1',some (V.bool false,hh)=some (V.bool (Bk p k),hh')∧BZ false hh' row' (A6 p k) F1'∧hh'[b]?=some (.rows 6 49 false [row'])∧Mv hh (b ::(G1++(G2++G3))) hh' (b :: F1'):=fun hc=>by unfold A6;rw[hc];exact ⟨hh,_,G1++(G2++G3),rfl,⟨_,_,_,_,_,_,rfl,_,_,_,G1,G2,G3,rfl,rfl,g1.up,g2,g3⟩,hb,Mv.refl hnd⟩
  suffices hq:∃ hh' row' F1',Ae lo 116 [.ptr (some (b,(0,0))),Iv k] hh=some (.bool (Bk p k),hh')∧BZ false hh' row' (A6 p k) F1'∧hh'[b]?=some (.rows 6 49 false [row'])∧Mv hh (b ::(G1++(G2++G3))) hh' (b :: F1') from by obtain ⟨hh',row',F1',e,hr⟩:=hq;refine ⟨hh',row',F1',LV ?_,hr⟩;rw[lk,Af,Ab,Ag,Aa,e,Ac,Av];exact IX
  suffices hq:∃ hh' row' F1',_=some (V.bool (Bk p k),hh')∧BZ false hh' row' (A6 p k) F1'∧hh'[b]?=some (.rows 6 49 false [row'])∧Mv hh (b ::(G1++(G2++G3))) hh' (b :: F1') from by obtain ⟨hh',row',F1',e,hr⟩:=hq;exact ⟨hh',row',F1',MY e,hr⟩
  have hcd:Bk p k=(!p.fell&&CA p.chain k):=rfl;rw[l5,Af,Ab,Ag,Av];cases hf:p.fell with
  | true=>rw[An];exact stay (by rw[hcd,hf];rfl)
  | false =>
  rw[hf,zcR,zb8] at hcd;have nd:=hnd;rw[zbV,zbQ,zbP,zbP,zbQ] at nd;obtain ⟨n1,n2,⟨n3,n4,n5⟩,n6⟩:=nd;simp only[not_or] at n1;have nd2:(b :: G2).Nodup:=by rw[zbV];exact ⟨n1.2.1,n3⟩
  obtain ⟨a5,x5,c5,h5,F5,e5,b5,r5,m5⟩:=X5 (lo:=lo) (k:=k) (i:=0) (j:=0+2) hb rfl rfl g1.up n1.1 n2 (hlo' b (by simp)) (fun y hy=>hlo' y (by simp[hy])) (by rw[hlen] at hhl;omega) hn.1 (EN hpo) (fun x hx=>(Ay ((BY (AK hpo).2.2.2.1).2 x hx)).1);have hx5:=r5.val;have mA:Mv hh (b ::(G1++(G2++G3))) h5 (b ::(F5++(G2++G3))):=m5.aside (G:=G2++G3) (by simpa using hnd) (fun y hy=>hbd y (by simp only[zb0,zbP] at hy ⊢;exact .inr (.inr hy)));have d2:∀ y∈G2,y∉b :: G1:=fun y hy hm=>by
   rcases zb0.1 hm with rfl | hm
   ·exact n1.2.1 hy
   ·exact n6 y hm y (by simp[hy]) rfl
  have d3:∀ y∈G3,y∉b :: G1:=fun y hy hm=>by
   rcases zb0.1 hm with rfl | hm
   ·exact n1.2.2 hy
   ·exact n6 y hm y (by simp[hy]) rfl
  have g25:=m5.keep rvers_ok g2 d2;have g35:=m5.keep rvss_ok g3 d3;cases hc:CA p.chain k with
  | false =>
   have hcf:Bk p k=false:=by rw[hcd,hc]
   rw[hc] at e5 r5;rw[cond_false] at r5;rw[hc,cond_false] at hx5;subst hx5;rw[Au,e5,Ac,Av,Au];unfold A6;rw[hcf];exact ⟨h5,p.cs a5 c5 a2 c2 a3 c3,F5++(G2++G3),rfl,⟨_,_,_,_,_,_,rfl,_,_,_,F5,G2,G3,rfl,rfl,r5,g25,g35⟩,b5,mA⟩
  | true =>
   have hcf:Bk p k=true:=by rw[hcd,hc]
   rw[hc] at e5 r5;rw[cond_true] at r5;rw[hc,cond_true] at hx5;subst hx5;have hc':=hc;unfold CA at hc';simp only[Dm,Al,decide_eq_true_eq] at hc';obtain ⟨hw,hl1⟩:=hc';have hk':k.toNat<p.chain.length:=by omega
   have hb5lt:b<h5.length:=zb1 hblt m5.le;have b5':h5[b]?=some (.rows 6 49 false [[Iv p.me,Iv p.clock,.sl 2 a5 (Bq p.chain k.toNat).length c5,.sl 6 a2 p.log.length c2,.sl 1 a3 p.got.length c3,.bool p.fell]]):=b5;have e6:=DA (lo:=lo) (cs := [.bool true]) (j:=0+5) (r:=0) (row := [Iv p.me,Iv p.clock,.sl 2 a5 (Bq p.chain k.toNat).length c5,.sl 6 a2 p.log.length c2,.sl 1 a3 p.got.length c3,.bool p.fell]) b5' (hlo' b (by simp)) rfl (Jf (by simp));obtain ⟨m6,b6,k6,_⟩:=(Mv.refl (h:=h5) (F := []) (by simp)).store hb5lt (by simp) (.rows 6 49 false [(IV p k.toNat).cs a5 c5 a2 c2 a3 c3]);generalize hh6:h5.set b (.rows 6 49 false [(IV p k.toNat).cs a5 c5 a2 c2 a3 c3])=h6 at m6 b6 k6;have e6':st lo h5 b 0 (0+5) [.bool true]=some h6:=by rw[← hh6];exact e6
   have ndA:=mA.nd;have ndA':=ndA;rw[zbV,zbQ,zbP,zbP] at ndA';obtain ⟨q1,q2,_,q4⟩:=ndA';simp only[not_or] at q1;have bdA:∀ y∈b ::(F5++(G2++G3)),y<h5.length:=mA.lt hbd;have bdA6:∀ y∈b ::(F5++(G2++G3)),y<h6.length:=fun y hy=>zb1 (bdA y hy) m6.le;have r56:=m6.keep rnodes_ok r5 fun y hy hm=>by rw[zbW] at hm;subst hm;exact q1.1 hy
   have g26:=m6.keep rvers_ok g25 fun y hy hm=>by rw[zbW] at hm;subst hm;exact q1.2.1 hy
   have g36:=m6.keep rvss_ok g35 fun y hy hm=>by rw[zbW] at hm;subst hm;exact q1.2.2 hy
   have ht:=KI (Nm (k:=k.toNat) (Cg hpo)) (by decide) (by decide) (by decide);have d1':=(YB (Mv.refl (h:=h6) q2) (Mv.refl nd2) ndA bdA6).2.1;obtain ⟨a8,c8,h8,F8,e9,b9,r9,m9⟩:=Mx (lo:=lo) (p:=IV p k.toNat) (a3:=a3) (c3:=c3) b6 r56 g26 (by show 0<(Bq _ _).length;rw[H0 hk' hl1];omega) ht d1' nd2 (fun y hy=>hlo' y (by simp only[zb0,zbP] at hy ⊢;rcases hy with hy | hy;exact .inl hy;exact .inr (.inr (.inl hy)))) (by have:=m5.le;have:=m6.le;rw[hlen] at hhl;omega);obtain ⟨r10,m10⟩:=JD (q:=BL (IV p k.toNat)) (Mv.refl (h:=h6) q2) m9 ndA bdA6 r56 r9 g36;have mB:Mv h5 (b ::(F5++(G2++G3))) h6 (b ::(F5++(G2++G3))):=m6.aside (G:=F5++(G2++G3)) ndA fun y hy=>bdA y (by simp[hy]);rw[Au,e5,Ac,Av,An,e6',Af,e9,Ac,Ge,Ag];unfold A6;rw[hcf];exact ⟨h8,_,_,rfl,r10,b9,(mA.trans mB).trans m10⟩)
 obtain ⟨b1,d1,b2,d2,b3,d3,rfl,_⟩:=hp;obtain ⟨s1,s2,s3,a1',c1',a2',c2',a3',c3',rfl,n1,n2,n3,rfl⟩:=n;refine ⟨(DT p (A6 p k)).cs a1' c1' a2' c2' a3' c3',_,h',F',N6 ?_,EH,rr,m0.trans m⟩;rw[e,Ac,Ge,Ab,AC,Ab,Aa,Ab,Aa,Ab,n1,Ab,n2,Ab,n3,Ab,Aw,Ag,Ab,Av];cases (Ao p&&Bk p k);all_goals
  first | rw[An] | rw[Au]
  rw[Ag]
end


variable {u v:Ver}{t r s:List Ver}{k i:Nat}{x z:Node}
theorem Oz {w:Ver} (h1:AT u v=true) (h2:AT v w=true):AT u w=true:=by rw[GT] at *;omega
def upS (t s:List Ver):Prop:=∀ (i:Nat) (x y:Ver),t[i]?=some x→s[i]?=some y→x=y∨AT x y=true
theorem upS.refl:upS t t:=fun i x y hx hy => .inl (by rw[hx] at hy;injection hy)
theorem upS.trans (h1:upS r s) (h2:upS s t) (hl:t.length≤s.length):upS r t:=fun i x z hx hz=>by
 have hi:=(Fh hz).1;have hy:=Dd (l:=s) (i:=i) (by omega);rcases h1 i x _ hx hy with rfl | h3
 ·exact h2 i _ z hy hz
 ·rcases h2 i _ z hy hz with h4 | h4
  ·exact .inr (h4 ▸ h3)
  ·exact .inr (Oz h3 h4)
theorem upS.set {t:List Ver}{k:Nat}{u v:Ver} (hu:t[k]?=some u) (hl:AT u v=true):upS t (t.set k v):=fun i x y hx hy=>by
 rw[List.getElem?_set] at hy;by_cases hi:k=i
 ·subst hi;rw[if_pos rfl,if_pos (Fh hu).1] at hy;injection hy with hy;rw[hu] at hx;injection hx with hx;exact .inr (by rw[← hx,← hy];exact hl)
 ·rw[if_neg hi,hx] at hy;injection hy with hy;exact .inl hy
theorem fitsL_cons:DC t (v :: r)=some s↔∃ x,t[v.key.toNat]?=some x∧AT x v=true∧DC (t.set v.key.toNat v) r=some s:=by
 simp only[DC];cases hx:t[v.key.toNat]? with
 | none=>simp
 | some x=>cases hl:AT x v<;>simp[hl]
theorem Qs:∀ {ws t s:List Ver}{v x:Ver},DC t ws=some s→s[v.key.toNat]?=some x→AT x v=true→DC t (ws ++ [v])=some (s.set v.key.toNat v)
 | [],t,s,v,x,h,hx,hl=>by simp only[DC,Option.some.injEq] at h;subst h;exact fitsL_cons.2 ⟨x,hx,hl,rfl⟩
 | w :: r,t,s,v,x,h,hx,hl=>by obtain ⟨y,h1,h2,h3⟩:=fitsL_cons.1 h;exact fitsL_cons.2 ⟨y,h1,h2,Qs h3 hx hl⟩
theorem U3:∀ {ws t s:List Ver},DC t ws=some s→upS t s
 | [],t,s,h=>by simp only[DC,Option.some.injEq] at h;subst h;exact upS.refl
 | v :: r,t,s,h=>by
  obtain ⟨y,h1,h2,h3⟩:=fitsL_cons.1 h;have h4:=U3 h3;refine fun i x z hx hz=>?_;by_cases hi:v.key.toNat=i
  ·subst hi;rw[h1] at hx;injection hx with hx;subst hx;have hlt:=(Fh h1).1;rcases h4 _ v z (by simp[hlt]) hz with rfl | h5
   ·exact .inr h2
   ·exact .inr (Oz h2 h5)
  ·exact h4 i x z (by rw[zbU hi];exact hx) hz
theorem SJ:∀ {ws t s:List Ver},DC t ws=some s→∀ v∈s,v∈ws∨v∈t
 | [],t,s,h=>by simp only[DC,Option.some.injEq] at h;subst h;exact fun v hv => .inr hv
 | w :: r,t,s,h=>fun v hv=>by
  obtain ⟨y,h1,h2,h3⟩:=fitsL_cons.1 h;rcases SJ h3 v hv with g | g
  ·exact .inl (by simp[g])
  ·rcases zcb g with g | rfl
   ·exact .inr g
   ·exact .inl (by simp)
theorem U4:∀ {ws t s:List Ver},s.length=t.length→ws.Pairwise (fun p u=>p.key≠u.key)→(∀ v∈ws,0≤v.key∧s[v.key.toNat]?=some v∧∃ x,t[v.key.toNat]?=some x∧AT x v=true) →
  (∀ (i:Nat) (x y:Ver),t[i]?=some x→s[i]?=some y→x=y∨(y∈ws∧y.key.toNat=i))→DC t ws=some s
 | [],t,s,hl,_,_,h=>by
  simp only[DC,Option.some.injEq];apply List.ext_getElem?;intro i;by_cases hi:i<t.length
  ·have h1:=Dd hi;have h2:=Dd (l:=s) (i:=i) (by omega);rcases h i _ _ h1 h2 with g | g
   ·rw[h1,h2,g]
   ·exact absurd g.1 (by simp)
  ·rw[zcn (by omega),zcn (by omega)]
 | v :: r,t,s,hl,hp,hw,h=>by
  rw[zdd] at hp;obtain ⟨h0,h1,x,h2,h3⟩:=hw v (by simp);refine fitsL_cons.2 ⟨x,h2,h3,U4 (by simpa using hl) hp.2 (fun u hu=>?_) (fun i a b ha hb=>?_)⟩
  ·obtain ⟨g0,g1,y,g2,g3⟩:=hw u (by simp[hu]);have:=hp.1 u hu;exact ⟨g0,g1,y,by rw[zbU (by omega)];exact g2,g3⟩
  ·by_cases hi:v.key.toNat=i
   ·subst hi;have hlt:=(Fh h2).1;rw[zb9 hlt] at ha;injection ha with ha;rw[h1] at hb;injection hb with hb;exact .inl (ha.symm.trans hb)
   ·rw[zbU hi] at ha;rcases h i a b ha hb with g | ⟨g1,g2⟩
    ·exact .inl g
    ·rcases zb0.1 g1 with rfl | g1
     ·exact absurd g2 hi
     ·exact .inr ⟨g1,g2⟩
theorem Sz {v:Ver}:∀ {l:List Ver},(Et v l).Perm (v :: l)
 | [] => .refl _
 | u :: r=>by
  simp only[Et];cases AT u v with
  | false=>exact .refl _
  | true=>exact (List.Perm.cons u Sz).trans (List.Perm.swap v u r)
theorem Sa:∀ {l acc:List Ver},(l.foldl (fun acc v=>Et v acc) acc).Perm (l++acc)
 | [],acc => .refl _
 | v :: l,acc=>by rw[zcA];exact ((Sa (l:=l)).trans (List.Perm.append_left l Sz)).trans List.perm_middle
theorem lackU_mem:v∈Mr s t↔∃ (i:Nat) (u:Ver),s[i]?=some v∧t[i]?=some u∧AT u v=true:=by
 unfold Mr;rw[List.mem_filterMap];constructor
 ·rintro ⟨⟨x,y⟩,hm,hx⟩
  obtain ⟨i,hi⟩:=zb5.1 hm;rw[zdE] at hi;unfold A9 at hx;simp only at hx;cases hl:AT y x with
  | false=>rw[hl] at hx;cases hx
  | true =>rw[hl] at hx;injection hx with hx;subst hx;exact ⟨i,y,hi.1,hi.2,hl⟩
 ·rintro ⟨i,u,h1,h2,h3⟩
  refine ⟨(v,u),zb5.2 ⟨i,zdE.2 ⟨h1,h2⟩⟩,?_⟩;unfold A9;simp only[h3,cond_true]
theorem Hx (hs:AH s=true) {x:Ver} (hx:s[i]?=some x):Hw i x=true:=by obtain ⟨hi,rfl⟩:=Fh hx;exact Cb hs hi
theorem J8 (hs:AH s=true) (ht:AH t=true) {x:Ver} (hx:s[i]?=some x) (hu:t[i]?=some u) (hl:AT u x=true):A3 x=true∧x.key=(i:Int):=by
 rcases CB (Hx hs hx) with g | g
 ·have:=Ho (LJ (Hx ht hu)) (DS g);rw[hl] at this;cases this
 ·exact g
theorem lackL_perm:(DK s t).Perm (Mr s t):=by rw[← P8];have h:=Sa (l:=Mr s t) (acc := []);rw[zcB] at h;exact h
theorem Y4 (hs:AH s=true) (ht:AH t=true):∀ v∈DK s t,A3 v=true:=fun v hv=>by obtain ⟨i,u,h1,h2,h3⟩:=lackU_mem.1 (lackL_perm.mem_iff.1 hv);exact (J8 hs ht h1 h2 h3).1
theorem XZ (hs:AH s=true) (ht:AH t=true) (hu:upS t s):DC t (DK s t)=some s:=by
 refine U4 (by rw[AQ hs,AQ ht]) ?_ (fun v hv=>?_) (fun i x y hx hy=>?_)
 ·exact (lackL_perm.pairwise_iff fun h=>h.symm).2 ((P7 hs ht).imp fun h=>by omega)
 ·obtain ⟨i,u,h1,h2,h3⟩:=lackU_mem.1 (lackL_perm.mem_iff.1 hv);have hk:=(J8 hs ht h1 h2 h3).2;have e:v.key.toNat=i:=by omega
  rw[e];exact ⟨by omega,h1,u,h2,h3⟩
 ·rcases hu i x y hx hy with h | h
  ·exact .inl h
  ·exact .inr ⟨lackL_perm.mem_iff.2 (lackU_mem.2 ⟨i,x,hy,hx,h⟩),by have:=(J8 hs ht hy hx h).2;omega⟩
structure Ch (l:List Node):Prop where
 pos:1≤l.length
 le:l.length≤4
 node:∀ (i:Nat) (x:Node),l[i]?=some x→B6 x=true
 link:∀ (i:Nat) (x y:Node),l[i]?=some x→l[i+1]?=some y→DC y.store x.wait=some x.store
 last:∀ (i:Nat) (x:Node),l[i]?=some x→i+1=l.length→x.wait = []
theorem fits_iff:Tk x s=true↔DC s x.wait=some x.store:=by
 unfold Tk;cases h:DC s x.wait with
 | none=>simp
 | some r=>simp[sameVers_iff]
theorem chain_iff {l:List Node}:Cz l=true↔Ch l:=by
 unfold Cz;simp only[Dm];rw[EJ (p:=EX l),TG (p:=B6)];constructor
 ·rintro ⟨⟨h1,h2⟩,h3⟩
  simp only[Al,Dm,decide_eq_true_eq] at h1;refine ⟨by omega,by omega,fun i x hx=>?_,fun i x y hx hy=>?_,fun i x hx hi=>?_⟩
  ·obtain ⟨hi,rfl⟩:=Fh hx;exact h2 i hi
  ·obtain ⟨hi,rfl⟩:=Fh hx;have:=h3 i hi;unfold EX at this;rw[hy] at this;exact fits_iff.1 this
  ·obtain ⟨hj,rfl⟩:=Fh hx;have:=h3 i hj;unfold EX at this;rw[zcn (by omega)] at this;exact zbY (by simpa using this)
 ·rintro ⟨h1,h2,h3,h4,h5⟩
  refine ⟨⟨by simp[Al];omega,fun i hi=>h3 i _ (Dd hi)⟩,fun i hi=>?_⟩;unfold EX;cases hy:l[i+1]? with
  | some y=>exact fits_iff.2 (h4 i _ y (Dd hi) hy)
  | none =>have:=List.getElem?_eq_none_iff.1 hy;simp[h5 i _ (Dd hi) (by omega)]
section
variable {l:List Node}
theorem Ch.store (h:Ch l) {i:Nat}{x:Node} (hx:l[i]?=some x):AH x.store=true∧x.store.length=4:=by have:=(Ay (h.node i x hx)).1;exact ⟨this,AQ this⟩
theorem Ch.up (h:Ch l):∀ (d i:Nat) (x y:Node),l[i]?=some x→l[i+d]?=some y→upS y.store x.store
 | 0,i,x,y,hx,hy=>by rw[zcG,hx] at hy;injection hy with hy;subst hy;exact upS.refl
 | d+1,i,x,y,hx,hy=>by have hlt:=(Fh hy).1;have hz:=Dd (l:=l) (i:=i+d) (by omega);have h1:=h.up d i x _ hx hz;have h2:=U3 (h.link (i+d) _ y hz hy);exact h2.trans h1 (by rw[(h.store hx).2,(h.store hz).2];exact zbR _)
theorem Ch.join (h:Ch l) (hl:l.length<4):Ch (Ir l):=by
 have hp:=h.pos;rw[GU (by omega)];have hz:l[l.length - 1]?=some (l[l.length - 1]'(by omega)):=Dd (by omega);have hns:=(h.store hz).1;have hn:B6 ⟨(l[l.length - 1]'(by omega)).store,[]⟩=true:=by unfold B6;rw[hns];rfl
 have get:∀ i x,(l ++ [(⟨(l[l.length - 1]'(by omega)).store,[]⟩:Node)])[i]?=some x→(i<l.length∧l[i]?=some x)∨(i=l.length∧x=⟨(l[l.length - 1]'(by omega)).store,[]⟩):=fun i x hx=>by
  by_cases hi:i<l.length
  ·rw[zbS hi] at hx;exact .inl ⟨hi,hx⟩
  ·rw[zcg (by omega)] at hx;have:=(Fh hx).1;simp only[zb6] at this;have e:i=l.length:=by omega
   subst e;rw[zdz] at hx;injection hx with hx;exact .inr ⟨rfl,hx.symm⟩
 refine ⟨by simp,by simp;omega,fun i x hx=>?_,fun i x y hx hy=>?_,fun i x hx hi=>?_⟩
 ·rcases get i x hx with ⟨_,g⟩ | ⟨_,rfl⟩
  ·exact h.node i x g
  ·exact hn
 ·rcases get (i+1) y hy with ⟨g1,g2⟩ | ⟨g1,rfl⟩
  ·rcases get i x hx with ⟨_,g⟩ | ⟨g,_⟩
   ·exact h.link i x y g g2
   ·omega
  ·rcases get i x hx with ⟨_,g⟩ | ⟨g,_⟩
   ·have e:i=l.length - 1:=by omega
    rw[h.last i x g g1];subst e;rw[hz] at g;injection g with g;subst g;rfl
   ·omega
 ·simp only[zbX,zb6] at hi;rcases get i x hx with ⟨g,_⟩ | ⟨_,rfl⟩
  ·omega
  ·rfl
theorem Iw (hk:k<l.length) (i:Nat):(Bq l k)[i]?=if i+1=k then (l[i]?).map (fun x=>(⟨x.store,match l[k+1]? with | some y=>DK x.store y.store | none => []⟩:Node)) else if i<k then l[i]? else l[i+1]?:=by
 have hel:=zcx hk;unfold Bq;by_cases h0:0<k
 ·rw[decide_eq_true h0,cond_true];have hk1:k - 1<(l.eraseIdx k).length:=by omega
  have e1:(l.eraseIdx k)[k - 1]=l[k - 1]:=by rw[List.getElem_eraseIdx,dif_pos (by omega)]
  have out:∀ w,i+1≠k→(BQ (l.eraseIdx k) (k - 1) w)[i]?=if i+1=k then (l[i]?).map (fun x=>(⟨x.store,match l[k+1]? with | some y=>DK x.store y.store | none => []⟩:Node)) else if i<k then l[i]? else l[i+1]?:=fun w hi=>by rw[DX hk1,zbU (by omega),List.getElem?_eraseIdx,if_neg hi]
  have at1:∀ w,i+1=k→(BQ (l.eraseIdx k) (k - 1) w)[i]?=some ⟨l[k - 1].store,w⟩:=fun w hi=>by
   have e:k - 1=i:=by omega
   rw[DX hk1,e1,← e,zb9 hk1]
  have hl1:l[k - 1]?=some l[k - 1]:=Dd (by omega);by_cases hkl:k<(l.eraseIdx k).length
  ·rw[decide_eq_true hkl,cond_true];by_cases hi:i+1=k
   ·have e:i=k - 1:=by omega
    have hy:l[k+1]?=some (l[k+1]'(by omega)):=Dd (by omega);have e2:(l.eraseIdx k)[k]=l[k+1]'(by omega):=by rw[List.getElem_eraseIdx,dif_neg (by omega)]
    rw[at1 _ hi,if_pos hi,e,hl1,hy,CI hk1,CI hkl,e1,e2];rfl
   ·exact out _ hi
  ·rw[decide_eq_false hkl,cond_false];by_cases hi:i+1=k
   ·have e:i=k - 1:=by omega
    have hy:l[k+1]?=none:=zcn (by omega);rw[at1 _ hi,if_pos hi,e,hl1,hy];rfl
   ·exact out _ hi
 ·rw[decide_eq_false h0,cond_false,if_neg (by omega),List.getElem?_eraseIdx]
theorem Ch.fall (h:Ch l) (hk:k<l.length) (h2:1<l.length):Ch (Bq l k):=by
 have hle:=h.le;have hlen:=H0 hk h2;have hnw:∀ i x,l[i]?=some x→i+1=k→B6 ⟨x.store,match l[k+1]? with | some y=>DK x.store y.store | none => []⟩=true:=fun i x hx hi=>by
  have hs:=h.store hx;cases hy:l[k+1]? with
  | none=>unfold B6;rw[hs.1];rfl
  | some y =>have ht:=h.store hy;have h4:=Sv (s:=x.store) (t:=y.store) hs.2;unfold B6;simp only;rw[hs.1,decide_eq_true (by omega),zb8,zb8,zb2];exact Y4 hs.1 ht.1
 refine ⟨by omega,by omega,fun i x hx=>?_,fun i x y hx hy=>?_,fun i x hx hi=>?_⟩
 ·rw[Iw hk] at hx;split at hx
  ·rename_i hi
   rw[zcv] at hx;obtain ⟨z,hz,rfl⟩:=hx;exact hnw i z hz hi
  ·split at hx
   ·exact h.node i x hx
   ·exact h.node (i+1) x hx
 ·rw[Iw hk] at hx hy;by_cases hi:i+1=k
  ·rw[if_pos hi,zcv] at hx;obtain ⟨z,hz,rfl⟩:=hx;rw[if_neg (by omega),if_neg (by omega)] at hy;have e:i+1+1=k+1:=by omega
   rw[e] at hy;simp only[hy];have hup:=h.up 2 i z y hz (by rw[show i+2=k+1 by omega];exact hy);exact XZ (h.store hz).1 (h.store hy).1 hup
  ·rw[if_neg hi] at hx;by_cases hik:i<k
   ·rw[if_pos hik] at hx;by_cases hi2:i+1+1=k
    ·rw[if_pos hi2,zcv] at hy;obtain ⟨z,hz,rfl⟩:=hy;exact h.link i x z hx hz
    ·rw[if_neg hi2,if_pos (by omega)] at hy;exact h.link i x y hx hy
   ·rw[if_neg hik] at hx;rw[if_neg (by omega),if_neg (by omega)] at hy;exact h.link (i+1) x y hx hy
 ·rw[hlen] at hi;rw[Iw hk] at hx;split at hx
  ·rename_i hi2
   rw[zcv] at hx;obtain ⟨z,hz,rfl⟩:=hx;rw[zcn (by omega)]
  ·split at hx
   ·omega
   ·exact h.last (i+1) x hx (by omega)
theorem Ch.key (h:Ch l) (hz:l[i]?=some z) (hv:A3 v=true):∃ u,z.store[v.key.toNat]?=some u:=by have:=(AN hv).1;have h4:=(h.store hz).2;exact ⟨_,Dd (by omega)⟩
theorem Jv {j:Nat} (hz:l[j]?=some z) (hu:z.store[v.key.toNat]?=some u):HC l j v=bif AT u v then l.set j ⟨z.store.set v.key.toNat v,bif decide (j+1<l.length) then z.wait ++ [v] else z.wait⟩ else l:=by unfold HC;rw[hz];simp only[hu]
theorem ZP {j:Nat} (hp:1≤l.length) (hle:l.length≤4) (hno:∀ (i:Nat) (x:Node),l[i]?=some x→B6 x=true)
  (hli:∀ (i:Nat) (x y:Node),l[i]?=some x→l[i+1]?=some y→i+1≠j→DC y.store x.wait=some x.store) (hla:∀ (i:Nat) (x:Node),l[i]?=some x→i+1=l.length→x.wait = [])
  (hz:l[j]?=some z) (hv:A3 v=true) (hr:z.wait.length<6) (hu:z.store[v.key.toNat]?=some u) (hl:AT u v=true)
  (hpr:∀ (i:Nat) (x:Node),l[i]?=some x→i+1=j→DC (z.store.set v.key.toNat v) x.wait=some x.store):Ch (HC l j v):=by
 have hj:=(Fh hz).1;obtain ⟨n1,n2,n3⟩:=Ay (hno j z hz);rw[Jv hz hu,hl,cond_true];have hnz:B6 ⟨z.store.set v.key.toNat v,bif decide (j+1<l.length) then z.wait ++ [v] else z.wait⟩=true:=by
  unfold B6;simp only;rw[IJ n1 hv];cases decide (j+1<l.length) with
  | false =>rw[cond_false,decide_eq_true (by omega),zb8,zb8,zb2];exact n3
  | true =>
   rw[cond_true,decide_eq_true (by simp;omega),zb8,zb8,zb2];intro w hw;rcases zbP.1 hw with g | g
   ·exact n3 w g
   ·rw[zbW] at g;subst g;exact hv
 refine ⟨by simpa using hp,by simpa using hle,fun i x hx=>?_,fun i x y hx hy=>?_,fun i x hx hi=>?_⟩
 ·by_cases hij:j=i
  ·subst hij;rw[zb9 hj] at hx;injection hx with hx;subst hx;exact hnz
  ·rw[zbU hij] at hx;exact hno i x hx
 ·by_cases hij:j=i
  ·subst hij;rw[zb9 hj] at hx;rw[zbU (by omega)] at hy;have hlt:=(Fh hy).1;injection hx with hx;subst hx;simp only[decide_eq_true hlt,cond_true];exact Qs (hli j z y hz hy (by omega)) hu hl
  ·rw[zbU hij] at hx;by_cases hij2:j=i+1
   ·subst hij2;rw[zb9 hj] at hy;injection hy with hy;subst hy;exact hpr i x hx rfl
   ·rw[zbU hij2] at hy;exact hli i x y hx hy (fun e=>hij2 e.symm)
 ·rw[zcd] at hi;by_cases hij:j=i
  ·subst hij;rw[zb9 hj] at hx;injection hx with hx;subst hx;rw[decide_eq_false (by omega),cond_false];exact hla j z hz hi
  ·rw[zbU hij] at hx;exact hla i x hx hi
theorem Ch.add (h:Ch l) (hv:A3 v=true) (hr:EW l 0=true):Ch (HC l 0 v):=by
 have hp:=h.pos;have hz:l[0]?=some (l[0]'(by omega)):=Dd (by omega);rw[Ig (by omega),decide_eq_true_eq] at hr;obtain ⟨u,hu⟩:=h.key hz hv;cases hl:AT u v with
 | false=>rw[Jv hz hu,hl,cond_false];exact h
 | true=>exact ZP hp h.le h.node (fun i x y hx hy _=>h.link i x y hx hy) h.last hz hv hr hu hl (fun i x _ e=>by omega)
theorem Ij {k:Int} (hc:A4 l k=true):∃ (f:Nat) (x y:Node) (v:Ver) (r:List Ver),k=(f:Int)∧l[f]?=some x∧l[f+1]?=some y∧x.wait=v :: r∧y.wait.length<6:=by
 simp only[A4,Al,Dm,decide_eq_true_eq] at hc;obtain ⟨⟨h1,h2⟩,h3⟩:=hc;have hf:k.toNat+1<l.length:=by omega
 rw[Ii (by omega),Dm,decide_eq_true_eq,Ig hf,decide_eq_true_eq] at h3;refine ⟨k.toNat,l[k.toNat],l[k.toNat+1],?_⟩;cases hw:l[k.toNat].wait with
 | nil=>rw[hw] at h3;simp at h3
 | cons v r=>exact ⟨v,r,by omega,Dd (by omega),Dd hf,rfl,h3.2⟩
theorem Mi {f:Nat} (hx:l[f]?=some x) (hw:x.wait=v :: r):EF l f=HC (l.set f ⟨x.store,r⟩) (f+1) v:=by unfold EF FL;rw[hx];simp only[hw,List.getElem?_cons_zero,List.eraseIdx_cons_zero]
theorem Ch.pass (h:Ch l) {k:Int} (hc:A4 l k=true):Ch (EF l k.toNat):=by
 obtain ⟨f,x,y,v,r,rfl,hx,hy,hw,hr⟩:=Ij hc;have hf:=(Fh hx).1;have hf1:=(Fh hy).1;obtain ⟨n1,n2,n3⟩:=Ay (h.node f x hx);have hlk:=h.link f x y hx hy;rw[hw] at hlk n2 n3;obtain ⟨u,hu,hl,hlk⟩:=fitsL_cons.1 hlk;rw[A7,Mi hx hw];have hv:=n3 v (by simp);have get:∀ (i:Nat) (z:Node),(l.set f ⟨x.store,r⟩)[i]?=some z→(i=f∧z=⟨x.store,r⟩)∨(i≠f∧l[i]?=some z):=fun i z hz=>by
  by_cases hi:f=i
  ·subst hi;rw[zb9 hf] at hz;injection hz with hz;exact .inl ⟨rfl,hz.symm⟩
  ·rw[zbU hi] at hz;exact .inr ⟨fun e=>hi e.symm,hz⟩
 refine ZP (z:=y) (u:=u) (by simpa using h.pos) (by simpa using h.le) (fun i z hz=>?_) (fun i z w hz hw' hne=>?_) (fun i z hz hi=>?_) (by rw[zbU (by omega)];exact hy) hv hr hu hl (fun i z hz hi=>?_)
 ·rcases get i z hz with ⟨_,rfl⟩ | ⟨_,g⟩
  ·unfold B6;simp only;simp only[zcF] at n2;rw[n1,decide_eq_true (by omega),zb8,zb8,zb2];exact fun w hw=>n3 w (by simp[hw])
  ·exact h.node i z g
 ·rcases get i z hz with ⟨rfl,_⟩ | ⟨_,g⟩
  ·exact absurd rfl hne
  ·rcases get (i+1) w hw' with ⟨e,rfl⟩ | ⟨_,g2⟩
   ·rw[e] at hw';exact h.link i z x g (by rw[e];exact hx)
   ·exact h.link i z w g g2
 ·rw[zcd] at hi;rcases get i z hz with ⟨rfl,_⟩ | ⟨_,g⟩
  ·omega
  ·exact h.last i z g hi
 ·rcases get i z hz with ⟨_,rfl⟩ | ⟨g,_⟩
  ·exact hlk
  ·omega
end


variable {l:List Tag}{p:Place}{k:Int}{s:ByteArray}{T:Type}{K:V→Heap→Option T}
def Bp (p:Place) (l:List Tag):Int:=GH (EI l) p.clock+1
def GQ (p:Place) (k:Int) (s:ByteArray) (g:Bool) (l:List Tag):Ver:=⟨k,⟨Bp p l,p.me⟩,l,s,g⟩
def Io (p:Place) (l:List Tag):Bool:=Ca l (AS p.chain)&&(EW p.chain 0&&(decide (Bp p l≤999)&&decide ((p.log.length:Int)<36)))
def Br (p:Place) (k:Int) (s:ByteArray) (g:Bool) (l:List Tag):Bool:=Al k 0 3&&(DY s&&((!g || Ej s)&&(Bg l&&Io p l)))
def I9 (p:Place) (k:Int) (s:ByteArray) (g:Bool) (l:List Tag):Place×Tag:=bif Ao p then (bif Br p k s g l then (BL (IC p 0 (Bp p l) (GQ p k s g l)),⟨Bp p l,p.me⟩) else (p,⟨0,0⟩)) else (Pt,⟨0,0⟩)
theorem S9 {a c x:Int}:GH a c<x↔a<x∧c<x:=by unfold GH;split<;>omega
theorem zae {A B:Int} (h:∀ x,A<x↔B<x):A=B:=by have h1:=(h (A+1)).1 (by omega);have h2:=(h (B+1)).2 (by omega);omega
theorem XS {c:Int} (hc:0≤c):l.foldl (fun m t=>if t.time>m then t.time else m) c=GH (EI l) c:=by
 refine zae fun x=>?_;rw[S9,latest_lt,Qo];constructor
 ·rintro ⟨h1,h2⟩;exact ⟨⟨by omega,h2⟩,h1⟩
 ·rintro ⟨⟨_,h2⟩,h1⟩;exact ⟨h1,h2⟩
theorem XX (h:Bg l=true):0≤EI l∧EI l≤999:=by
 have h1:EI l<1000:=latest_lt.2 ⟨by omega,fun t ht=>by
  simp only[Bg,Dm,zb2] at h;have:=DF (h.2 t ht);omega⟩
 have h2:¬ EI l<0:=fun h=>by have:=(latest_lt.1 h).1;omega
 omega
theorem L6 (hp:Ao p=true) (h:Bg l=true):1≤Bp p l∧Bp p l≤1000∧EI l<Bp p l∧p.clock<Bp p l:=by have h1:=XX h;have h2:=(AK hp).2.1;unfold Bp GH;split<;>omega
theorem Ia {g:Bool} (h:Br p k s g l=true):(0≤k∧k≤3)∧DY s=true∧(g=true→Ej s=true)∧Bg l=true∧Ca l (AS p.chain)=true∧EW p.chain 0=true∧Bp p l≤999∧p.log.length<36:=by unfold Br Io at h;simp only[Dm,zcH,decide_eq_true_eq,Al,zcy] at h;obtain ⟨h1,h2,h3,h4,h5,h6,h7,h8⟩:=h;exact ⟨h1,h2,fun hg=>h3.resolve_left (by rw[hg];simp),h4,h5,h6,h7,by omega⟩
theorem UF {g:Bool} (hp:Ao p=true) (h:Br p k s g l=true):thin (GQ p k s g l):=by obtain ⟨h1,h2,h3,h4,h5,h6,h7,h8⟩:=Ia h;have g1:=BK h4;have g2:=DW h2;have g3:=L6 hp h4;have g4:=(AK hp).1;refine ⟨by show l.length≤4;omega,by show s.size≤8;omega,?_⟩;show A2 (Bp p l) p.me=true;unfold A2 Al;rw[decide_eq_true g3.1,decide_eq_true h7,decide_eq_true g4.1,decide_eq_true g4.2];simp
theorem ZM {lo lo' e R bytes q:Nat}{a:Pq}{xs:List (List V)}{h:Heap}:CS lo e R bytes (.sl q a 0 (some 0)) xs h K=CS lo' e R bytes (.sl q a 0 (some 0)) xs h K:=by
 cases xs with
 | nil=>rfl
 | cons x xs =>
  cases a with
  | none=>rfl
  | some p =>
   obtain ⟨b,i⟩:=p;simp only[CS];have:Nat.ble (0+(x :: xs).length) 0=false:=by rw[zcF,zcl];rfl
   rw[this]
section
variable {lo:Nat}{ro:Bool}{h:Heap}{F F' G:List Nat}{a a' av:Pq}{c c' cv:Nq}
theorem Oh {a1 a2 a3:Pq}{c1 c2 c3:Nq} (hv:RTags ro h [.sl 2 av l.length cv] l G) (hok:Ao p=true) (hl:Bg l=true) :
  Ae lo 203 [.agg (p.cs a1 c1 a2 c2 a3 c3),.agg [.sl 2 av l.length cv]] h=some (Iv (Bp p l),h):=by
 have h4:=BK hl;have hc:=(AK hok).2.1;refine Rv (h':=h) ?_;have loop:∀ m i x,m+i=4→(∀ y:Int,(l.drop i).foldl (fun m t=>if t.time>m then t.time else m) x=y → -9223372036854775808≤y+1∧y+1≤9223372036854775807)→Cw (List.length h) x (i:Nat) av l.length cv h=some (Iv ((l.drop i).foldl (fun m t=>if t.time>m then t.time else m) x+1),h):=by
  intro m;induction m with
  | zero =>intro i x hi hb;rw[zcK (by omega)] at hb ⊢;have:=hb x rfl;rw[Cw.e,Ai (by omega),wr (by omega) (by omega)];rfl
  | succ m ih =>
   intro i x hi hb;have hil:i<l.length:=by omega
   obtain ⟨o,ha,ho⟩:=hv.get hil;have ho1:ld h o.1 (o.2+i) 0 1=some [Iv l[i].time]:=by obtain ⟨o',row,G',h1,h2,⟨rfl,_⟩,_⟩:=hv.read hil;rw[ha] at h1;injection h1 with h1;subst h1;rw[h2];rfl
   rw[zca hil,zcA] at hb ⊢;rw[Cw.e,Ak (by omega),Ad hil,ha,Af,A7,ho1,Af,Ab,Ag,Aa,Ad hil,Af,ho1,Af,Ab,Ag,Aa,Am (show i<9223372036854775807 by omega),← ha];by_cases ht:l[i].time>x
   ·rw[if_pos ht] at hb ⊢;rw[Ak ht];exact ih (i+1) _ (by omega) hb
   ·rw[if_neg ht] at hb ⊢;rw[Ai ht];exact ih (i+1) _ (by omega) hb
 have hnf:∀ y,(l.drop 0).foldl (fun m t=>if t.time>m then t.time else m) p.clock=y→y=GH (EI l) p.clock:=fun y hy=>by rw[← hy,zcW,XS hc.1]
 have hb:=L6 hok hl;have:=loop 4 0 p.clock rfl (fun y hy=>by rw[hnf y hy];unfold Bp at hb;omega);rw[hnf _ rfl] at this;exact this
theorem VI {a1 a2 a3:Pq}{c1 c2 c3:Nq}{F1:List Nat} (hs1:RNodes ro h [.sl 2 a1 p.chain.length c1] p.chain F1) (hv:RTags ro h [.sl 2 av l.length cv] l G) (hok:Ao p=true) (hl:Bg l=true) (hn:CT p) :
  Ae lo 113 [.agg (p.cs a1 c1 a2 c2 a3 c3),.agg [.sl 2 av l.length cv]] h=some (.bool (Io p l),h):=by
 have h0:=EN hok;have hchain:=(AK hok).2.2.2.1;obtain ⟨v5,h5,F5,e5,r5,m5⟩:=I4 (lo:=h.length) hs1 (zbR _) hn.1 h0;obtain ⟨a6,c6,e6,r6⟩:=r5.form;refine TP (h':=h5) ?_;have en:=Oh (lo:=h.length) (a1:=a1) (c1:=c1) (a2:=a2) (c2:=c2) (a3:=a3) (c3:=c3) (m5.keep0 rtags_ok hv) hok hl;simp only[Place.cs] at en;unfold Io;rw[e5,Ac,AC,Ab,e6,Ag,E5 (m5.keep0 rtags_ok hv) r6 (BK hl) (Jz hchain),Ac,Av];cases Ca l (AS p.chain) with
 | false=>rw[Au];rfl
 | true =>
 rw[An,Kc (m5.keep0 rnodes_ok hs1) h0,Ac,Av];cases EW p.chain 0 with
 | false=>rw[Au];rfl
 | true =>
 rw[An,en,Ac,Aa];cases decide (Bp p l≤999) with
 | false=>rw[Au];rfl
 | true =>
 rw[An];cases decide ((p.log.length:Int)<36) with
 | false=>rw[Au];rfl
 | true=>rw[An];rfl
theorem Mb {g:Bool}{a1 a2 a3:Pq}{c1 c2 c3:Nq}{F1 F2 F3:List Nat} (hs1:RNodes false h [.sl 2 a1 p.chain.length c1] p.chain F1) (hs2:RVers false h [.sl 6 a2 p.log.length c2] p.log F2) (hs3:RVss false h [.sl 1 a3 p.got.length c3] p.got F3)
  (hv:RTags false h [.sl 2 av l.length cv] l G) (hok:Ao p=true) (hc:Br p k s g l=true) (hnd:(F1++(F2++F3)).Nodup) (hlo:∀ b∈F1++(F2++F3),lo≤b) (hl:lo≤h.length) :
  ∃ a2' c2' h' F',Ae lo 114 [.agg (p.cs a1 c1 a2 c2 a3 c3),Iv k,.str s,.bool g,.agg [.sl 2 av l.length cv]] h=some (.tup [.agg ((BL (IC p 0 (Bp p l) (GQ p k s g l))).cs a1 c1 a2' c2' a3 c3),.agg [Iv (Bp p l),Iv p.me]],h') ∧
   BZ false h' ((BL (IC p 0 (Bp p l) (GQ p k s g l))).cs a1 c1 a2' c2' a3 c3) (BL (IC p 0 (Bp p l) (GQ p k s g l))) F'∧Mv h (F1++(F2++F3)) h' F':=by
 obtain ⟨g1,g2,g3,g4,g5,g6,g7,g8⟩:=Ia hc;have h0:=EN hok;have hl4:=BK g4;have hti:=VA hok;obtain ⟨a5,c5,h5,F5,e5,r5,m5⟩:=Jq (lo:=h.length) (h:=h) (l:=l) (zbR _) (by omega);rw[← zb4] at hnd hlo ⊢;have hnd':=hnd;rw[zbQ] at hnd';have hdis:∀ y∈F3,y∉F1++F2:=fun y hy hm=>hnd'.2.2 y hm y hy rfl;have hb12:∀ y∈F1++F2,y<h.length:=fun y hy=>by rw[zbP] at hy;exact hy.elim (rnodes_ok.bd _ _ _ _ hs1 y) (rvers_ok.bd _ _ _ _ hs2 y)
 obtain ⟨h6,a6,c6,h7,F6,F7,e6,e7,r6,r7,m7⟩:=Me (lo:=lo) (v:=GQ p k s g l) (k:=0) (t:=Bp p l) (a3:=a3) (c3:=c3) (m5.keep0 rnodes_ok hs1) (m5.keep0 rvers_ok hs2) r5 (fun y hy hm=>by
  have:=m5.new y hy;have:=hb12 y (by simp[hm]);omega) hnd'.1 (fun y hy=>hlo y (by rw[zbP];exact .inl hy)) (zbN hl m5.le) h0 g1 hti (UF hok hc)
 have hcs:(IC p 0 (Bp p l) (GQ p k s g l)).cs a1 c1 a2 c2 a3 c3 = [Iv p.me,Iv (Bp p l),.sl 2 a1 p.chain.length c1,.sl 6 a2 p.log.length c2,.sl 1 a3 p.got.length c3,.bool p.fell]:=by simp only[Place.cs,IC,addN_len]
 rw[hcs] at e7;have m5':Mv h (F1++F2) h5 (F1++F2):=(m5.drop.aside (G:=F1++F2) hnd'.1 hb12);have m8:=m5'.trans m7;have b3':∀ y∈F3,y<h.length:=rvss_ok.bd _ _ _ _ hs3;have m9:=m8.aside (G:=F3) hnd b3';have hs3':=m8.keep rvss_ok hs3 hdis;refine ⟨a6,c6,h7,F6++F7++F3,QM ?_,⟨_,_,_,_,_,_,rfl,_,_,_,F6,F7,F3,rfl,by rw[zb4],r6,r7,hs3'⟩,m9⟩;have en:=Oh (lo:=h.length) (a1:=a1) (c1:=c1) (a2:=a2) (c2:=c2) (a3:=a3) (c3:=c3) hv hok g4;simp only[Place.cs] at en;have e6':Ae lo 193 [.agg [.sl 2 a1 p.chain.length c1],Iv 0,.agg [Iv k,Iv (Bp p l),Iv p.me,.sl 2 a5 l.length c5,.str s,.bool g]] h5=some (.agg [.sl 2 a1 p.chain.length c1],h6):=e6;rw[en,Ac,Aa,RTags.rows (Mv.snoc.keep0 rtags_ok hv),ZM (lo':=h.length),e5,Ah,e6',Ac,AC,Ab,Ah,Ag,e7,Ac,AC];simp only[Place.cs];rw[Ab,Aa,Ab,Aa,Ab,Ah,Ab,Ah,Ab,Ah,Ab,Aw,Ag]
end


variable {p:Place}{s:ByteArray}{l:List Tag}
theorem OJ {k:Int}{g:Bool}:Br p k s g l=(Hl ⟨k,⟨0,0⟩,l,s,g⟩&&Io p l):=by unfold Br Hl;simp only[Bool.and_assoc]
theorem Pu {k:Int}{g:Bool} (h:Ao p=true):I9 p k s g l=bif Br p k s g l then (BL (IC p 0 (Bp p l) (GQ p k s g l)),⟨Bp p l,p.me⟩) else (p,⟨0,0⟩):=by unfold I9;rw[h,cond_true]
section
variable {lo:Nat}{h:Heap}{F F' G:List Nat}{a a' av:Pq}{c c' cv:Nq}
end


variable {p:Place}
def Jm (p:Place) (f:Nat) (at':Int) (v:Ver):Bool := !((f:Int)==p.me)&&((at'==((J3 p f).length:Int))&&(decide (((J3 p f).length:Int)<60) && !Bw (J3 p f) v.tag))
def Hr (p:Place) (f at':Int) (v:Ver):Bool:=Al f 0 2&&(A3 v&&((v.tag.place==f)&&Jm p f.toNat at' v))
def J2 (p:Place) (f:Nat) (v:Ver):Place:=⟨p.me,p.clock,p.chain,p.log,p.got.set f (J3 p f ++ [v]),p.fell⟩
def Hn (p:Place) (f at':Int) (v:Ver):Place:=bif Hr p f at' v then J2 p f.toNat v else p
theorem PR {a:Option (List V)}:HP a a=true:=by unfold HP;exact (@decide_eq_true_iff _ (_)).2 rfl
theorem zaf {f:Nat}{v:Ver}{a1 a2 a3:Pq}{c1 c2 c3:Nq}:(J2 p f v).cs a1 c1 a2 c2 a3 c3=p.cs a1 c1 a2 c2 a3 c3:=by simp only[Place.cs,J2,zcd]
section
variable {lo:Nat}{h:Heap}{F F' G:List Nat}{a a' av:Pq}{c c' cv:Nq}
theorem SZ {f:Nat}{at':Int}{v:Ver}{a1 a2 a3:Pq}{c1 c2 c3:Nq}{F3:List Nat} (hs3:RVss false h [.sl 1 a3 p.got.length c3] p.got F3) (hv:RTags false h [.sl 2 av v.past.length cv] v.past G)
  (hf:f<p.got.length) (hgn:p.got[f].length≤1000000) (hvn:v.past.length≤1048576) (hnd:F3.Nodup) (hlo:∀ b∈F3,lo≤b) (hl:lo≤h.length) :
  ∃ h' F3',Ae lo 85 [.agg (p.cs a1 c1 a2 c2 a3 c3),Iv (f:Nat),Iv at',.agg (v.cs av cv)] h=some (.tup [.agg (p.cs a1 c1 a2 c2 a3 c3),.bool (Jm p f at' v)],h') ∧
   RVss false h' [.sl 1 a3 p.got.length c3] (bif Jm p f at' v then p.got.set f (p.got[f] ++ [v]) else p.got) F3'∧Mv h F3 h' F3'∧(Jm p f at' v=false→h'=h):=by
 suffices hq:∃ h' F3',_=some (V.tup [.agg (p.cs a1 c1 a2 c2 a3 c3),.bool (Jm p f at' v)],h')∧RVss false h' [.sl 1 a3 p.got.length c3] (bif Jm p f at' v then p.got.set f (p.got[f] ++ [v]) else p.got) F3'∧Mv h F3 h' F3'∧(Jm p f at' v=false→h'=h) from hq.imp fun h' hq=>hq.imp fun F' hq=>⟨Rw hq.1,hq.2⟩
 have hh:Jm p f at' v=(!((f:Int)==p.me)&&((at'==(p.got[f].length:Int))&&(decide ((p.got[f].length:Int)<60) && !Bw p.got[f] v.tag))):=by unfold Jm;rw[Jn hf]
 rw[hh];cases x1:((f:Int)==p.me) with
 | true=>rw[An];exact ⟨h,F3,rfl,hs3,Mv.refl hnd,fun _=>rfl⟩
 | false =>
 obtain ⟨b,i,rs,row,G0,ha,hbF,hbG,hb,hrow,hel,hGF,hGn,_,put⟩:=hs3.at rvers_ok hf hnd hlo;have hrs:∃ s,row = [s]:=by obtain ⟨R',a',c',e,_⟩:=id hel;exact ⟨_,e⟩
 obtain ⟨s,rfl⟩:=hrs;obtain ⟨b3,d3,es,r3⟩:=hel.form;have hld:ld h b (i+f) 0 1=some [s]:=by rw[BB hb hrow];rfl
 rw[Au,Ad hf,ha,Af,A7,hld,Af,Ab,Ag,es];cases x2:(at'==(p.got[f].length:Int)) with
 | false=>rw[Au];exact ⟨h,F3,rfl,by rw[← ha];exact hs3,Mv.refl hnd,fun _=>rfl⟩
 | true =>
 have hat:at'=(p.got[f].length:Int):=by rwa [beq_iff_eq] at x2
 rw[An];cases x3:decide ((p.got[f].length:Int)<60) with
 | false =>
  have:(p.got[f].length:Int)≥60:=by have:=of_decide_eq_false x3;omega
  rw[Ak (by omega)];exact ⟨h,F3,rfl,by rw[← ha];exact hs3,Mv.refl hnd,fun _=>rfl⟩
 | true =>
 have:(p.got[f].length:Int)<60:=of_decide_eq_true x3;rw[Ai (by omega),Ad hf,Af,hld,Af,Ab,Ag,es,Lc r3 (by omega),Ac,Av];have hht:Bw p.got[f] ⟨v.tag.time,v.tag.place⟩=Bw p.got[f] v.tag:=rfl;rw[hht];cases x4:Bw p.got[f] v.tag with
 | true=>rw[An];exact ⟨h,F3,rfl,by rw[← ha];exact hs3,Mv.refl hnd,fun _=>rfl⟩
 | false =>
 obtain ⟨a5,c5,h5,F5,e5,r5,m5⟩:=CO (lo:=h.length) (v:=v) hv (zbR _) hvn;obtain ⟨a6,c6,h6,F6,e6,r6,m6⟩:=D9 (lo:=lo) (bytes:=72) (e:=34) rver_ok r3 (row:=v.cs a5 c5) (x:=v) (G:=F5) (h1:=h5 ++ [.rows 6 34 false [v.cs a5 c5]])
  ⟨_,rfl,Mv.snoc.keep0 rtags_ok r5⟩ (m5.trans (Mv.snoc' m5.nd)) hGn (fun y hy=>hlo y (hGF y hy)) hl (by decide) (by omega)
 rw[show p.got[f].length+1=(p.got[f] ++ [v]).length by simp] at r6;obtain ⟨h7,F7,e7,r7,m7,_⟩:=put h6 F6 0 [.sl 6 a6 (p.got[f] ++ [v]).length c6] [.sl 6 a6 (p.got[f] ++ [v]).length c6] (p.got[f] ++ [v]) m6 rfl r6;rw[show (p.got[f] ++ [v]).length=p.got[f].length+1 by simp] at e7;rw[Au,Ad hf,Af,hld,Af,Ab,Ag,es,e5,Ac,AC,Ab,Aa,Ab,Aa,Ab,Aa,Ab,Ah,Ab,A8,Ab,Aw,Ag,AZ];simp only[Ver.cs] at e6;rw[e6,Ah,Ad hf,Af,e7,Af];exact ⟨h7,F7,rfl,by rw[← ha];exact r7,m7,fun g=>by cases g⟩
end
end Go.Proofs.YtoihoaaiadagaaaGreat
