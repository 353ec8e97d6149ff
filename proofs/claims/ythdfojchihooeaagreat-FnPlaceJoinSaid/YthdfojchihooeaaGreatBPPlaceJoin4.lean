/- Part 4 of what is shown for the law FnPlaceJoin, whatever the input; no condition of its own. -/
import Derived.Test.YthdfojchihooeaaGreatBPPlaceJoin3
set_option linter.unusedVariables false
set_option linter.unusedSimpArgs false
set_option linter.unnecessarySimpa false
namespace Go.Proofs.YthdfojchihooeaaGreat
open Go T


def zhe (s:List Ver) (v:Ver):Bool:=match s[v.key.toNat]? with
 | some u=>zbh u v
 | none=>false
def zga (l:List Node):List Ver:=match l[0]? with
 | some x=>x.store
 | none => []
def zgp (l:List Node) (k:Nat):Bool:=match l[k]? with
 | some x=>decide (x.wait.length<6)
 | none=>false
def zki (p:Place) (f:Nat):List Ver:=match p.got[f]? with
 | some l=>l
 | none => []
def ziJ (p:Place) (f:Nat):Option Ver:=(zki p f).find? (zhe (zga p.chain))
def zlQ (p:Place) (k:Nat) (t:Int) (v:Ver):Place:=⟨p.me,t,zkM p.chain k v,p.log,p.got,p.fell⟩
theorem znb {l:List Node} (h0:0<l.length):zga l=l[0].store:=by unfold zga;rw [List.getElem?_eq_getElem h0]
theorem zhE {l:List Node}{k:Nat} (hk:k<l.length):zgp l k=decide (l[k].wait.length<6):=by unfold zgp;rw [List.getElem?_eq_getElem hk]
theorem zhi {p:Place}{f:Nat} (hf:f<p.got.length):zki p f=p.got[f]:=by unfold zki;rw [List.getElem?_eq_getElem hf]
theorem zqL {s:List Ver}{v:Ver} (h:v.key.toNat<s.length):zhe s v=zbh s[v.key.toNat] v:=by unfold zhe;rw [List.getElem?_eq_getElem h]
theorem zj6 {α:Type}{p:α→Bool}:∀ {l:List α}{k:Nat},(∃ i,∃ hi:i<l.length,zcS p l k=((k+i:Nat):Int)∧l.find? p=some l[i])∨(zcS p l k = -1∧l.find? p=none)
 | [],k => .inr ⟨rfl,rfl⟩
 | x :: l,k=>by
  simp only [zcS,List.find?_cons]
  cases hp:p x with
  | true=>exact .inl ⟨0,by simp,by simp,by simp⟩
  | false =>
   rw [cond_false]
   rcases zj6 (p:=p) (l:=l) (k:=k+1) with ⟨i,hi,h1,h2⟩ | h
   ·exact .inl ⟨i+1,by simpa using hi,by rw [h1];congr 1;omega,by simpa using h2⟩
   ·exact .inr h
theorem addN_len {l:List Node}{k:Nat}{v:Ver}:(zkM l k v).length=l.length:=by
 unfold zkM
 split
 ·split
  ·cases zbh _ v<;>simp
  ·rfl
 ·rfl
section
variable {lo:Nat}{ro:Bool}{h:Heap}{F F':List Nat}{a a':Option (Nat×Nat)}{c c':Option Nat}
theorem zh6 {l:List Node} (hs:RNodes ro h [.sl 2 a l.length c] l F) (h0:0<l.length):evl lo 257 [.agg [.sl 2 a l.length c]] h=some (.bool (zgp l 0),h):=by
 refine zok (h':=h) ?_
 obtain ⟨o,s1,s2,b1,d1,b2,d2,G1,G2,ha,_,_,ho2,_,e2,_⟩:=hs.get h0
 rw [zhE h0,show (0:Int)=((0:Nat):Int) from rfl,zab h0]
 simp only [ha,zam,Int.toNat_natCast,ho2,zad,e2,zao]
 by_cases hw:l[0].wait.length<6
 ·rw [zal (by omega),decide_eq_true hw]
 ·rw [zaj (by omega),decide_eq_false hw]
theorem zjR {p:Place}{f:Nat}{a1 a2 a3:Option (Nat×Nat)}{c1 c2 c3:Option Nat}{F1 F3:List Nat} (hs1:RNodes ro h [.sl 2 a1 p.chain.length c1] p.chain F1) (hs3:RVss ro h [.sl 1 a3 p.got.length c3] p.got F3)
  (h0:0<p.chain.length) (hf:f<p.got.length) (hk:∀ v∈p.got[f],0≤v.key∧v.key<(zga p.chain).length) (hn:p.got[f].length≤1048576) :
  evl lo 256 [.agg (p.cs a1 c1 a2 c2 a3 c3),.int .i64 (f:Nat)] h=some (.int .i64 (zcS (zhe (zga p.chain)) p.got[f] 0),h):=by
 refine zmp (h':=h) ?_
 obtain ⟨o,s1,s2,b1,d1,b2,d2,G1,G2,ha,_,ho1,_,e1,_,q1,_⟩:=hs1.get h0
 obtain ⟨o3,s3,b3,d3,G3,ha3,ho3,e3,q3,_⟩:=hs3.get hf
 rw [znb h0] at *
 rw [show (0:Int)=((0:Nat):Int) from rfl,zab h0]
 simp only [ha,zam,Int.toNat_natCast,ho1,zad,e1,zao]
 have loop:∀ m i,m+i=p.got[f].length→zbZ (List.length h) (f:Nat) ((0:Nat):Int) (i:Nat) p.me p.clock a1 p.chain.length c1 a2 p.log.length c2 a3 p.got.length c3 p.fell b1 p.chain[0].store.length d1 h=some (.int .i64 (zcS (zhe p.chain[0].store) (p.got[f].drop i) i),h):=by
  intro m
  induction m with
  | zero =>
   intro i hi
   rw [zbZ.e,zab hf]
   simp only [ha3,zam,Int.toNat_natCast,ho3,zad,e3,zao]
   rw [zaj (by omega),List.drop_eq_nil_of_le (by omega)]
   rfl
  | succ m ih =>
   intro i hi
   have hil:i<p.got[f].length:=by omega
   have hky:=hk _ (List.getElem_mem hil)
   have hkl:p.got[f][i].key.toNat<p.chain[0].store.length:=by omega
   obtain ⟨o4,s4,b4,d4,G4,ha4,ho4,e4,q4,_⟩:=q3.get hil
   obtain ⟨o5,s5,b5,d5,G5,ha5,_,_,_,_,_,_,ho512,_⟩:=RVers.all q1 hkl
   rw [zbZ.e,zab hf]
   simp only [ha3,zam,Int.toNat_natCast,ho3,zad,e3,zao]
   rw [zal (by omega),zab hf,zab hil]
   simp only [ha4,zam,Int.toNat_natCast,ho4,zad,zaa,e4,zdl,zaS,zao]
   rw [zdd ⟨by omega,by omega⟩]
   simp only [ha5,zam,ho512,zad,zaa,zao,zbk,zac,zbi]
   rw [← ha3,← ha5,zap (show i<9223372036854775807 by omega),ih (i+1) (by omega),List.drop_eq_getElem_cons hil]
   simp only [zcS]
   rw [zqL hkl]
   unfold zbh
   cases zkF _ _ _ _<;>rfl
 have:=loop _ 0 rfl
 rw [List.drop_zero] at this
 rw [← ha]
 exact this
theorem zjU {p:Place}{v:Ver}{k:Nat}{t:Int}{a1 a2 a3 av:Option (Nat×Nat)}{c1 c2 c3 cv:Option Nat}{F1 F2 G:List Nat} (hs1:RNodes false h [.sl 2 a1 p.chain.length c1] p.chain F1) (hs2:RVers false h [.sl 6 a2 p.log.length c2] p.log F2)
  (hv:RTags false h [.sl 2 av v.past.length cv] v.past G) (hvd:∀ b∈G,b∉F1) (hnd:(F1++F2).Nodup) (hlo:∀ b∈F1++F2,lo≤b) (hl:lo≤h.length) (hk:k<p.chain.length) (hkey:0≤v.key∧v.key≤3)
  (ht:Tidy 10 20 100 p) (hvt:thin v) :
  ∃ h2 a2' c2' h3 F1' F2',evl lo 258 [.agg [.sl 2 a1 p.chain.length c1],.int .i64 k,.agg (v.cs av cv)] h=some (.agg [.sl 2 a1 p.chain.length c1],h2) ∧
   evl lo 153 [.agg ((zlQ p k t v).cs a1 c1 a2 c2 a3 c3)] h2=some (.agg ((zd1 (zlQ p k t v)).cs a1 c1 a2' c2' a3 c3),h3) ∧
   RNodes false h3 [.sl 2 a1 (zd1 (zlQ p k t v)).chain.length c1] (zd1 (zlQ p k t v)).chain F1'∧RVers false h3 [.sl 6 a2' (zd1 (zlQ p k t v)).log.length c2'] (zd1 (zlQ p k t v)).log F2'∧Mv h (F1++F2) h3 (F1'++F2'):=by
 have ta:=zrp (k:=k) (t:=t) ht hvt
 have hn:=zro ht (by decide) (by decide)
 have hsto:=(ht.node _ (List.getElem_mem hk)).1
 have hnd':=hnd
 rw [List.nodup_append] at hnd'
 obtain ⟨h2,F1',e2,r2,m2⟩:=zje (lo:=lo) hs1 hv hvd hnd'.1 (fun b hb=>hlo b (by simp [hb])) hl hk ⟨hkey.1,by omega⟩ hn (by have:=hvt.1;omega)
 rw [← addN_len (k:=k) (v:=v)] at r2
 have b2:∀ y∈F2,y<h.length:=rvers_ok.bd _ _ _ _ hs2
 have m3:=m2.aside (G:=F2) hnd b2
 have hs2':=m2.keep rvers_ok hs2 fun y hy hm=>hnd'.2.2 y hm y hy rfl
 have nd3:=m3.nd
 rw [List.nodup_append] at nd3
 have h0:0<(zlQ p k t v).chain.length:=by show 0<(zkM p.chain k v).length;rw [addN_len];omega
 obtain ⟨x,hx,hxe⟩:=zm5 h0
 have hxn:=ta.node x hx
 have hl2:=m2.le
 obtain ⟨a2',c2',h3,F2',e3,r3,m4⟩:=zkZ (lo:=lo) (p:=zlQ p k t v) (a3:=a3) (c3:=c3) r2 hs2' h0 (by rw [hxe];exact hxn.1) (fun y hy hy2=>nd3.2.2 y hy y hy2 rfl) hnd'.2.1 (fun b hb=>hlo b (by simp [hb])) (by omega) (Nat.le_trans ta.len (by decide)) (Nat.le_trans ta.log.1 (by decide))
  (fun w hw=>by rw [hxe] at hw;have:=(hxn.2.2.1 w hw).1;omega)
 have r2':=m4.keep rnodes_ok r2 fun y hy hy2=>nd3.2.2 y hy y hy2 rfl
 have b1:∀ y∈F1',y<h2.length:=rnodes_ok.bd _ _ _ _ r2
 have m5:=(m4.aside (G:=F1') (by rw [List.nodup_append];exact ⟨nd3.2.1,nd3.1,fun x hx y hy e=>nd3.2.2 y hy x hx e.symm⟩) b1).swap
 exact ⟨h2,a2',c2',h3,F1',F2',e2,e3,r2',r3,m3.trans m5⟩
end
end Go.Proofs.YthdfojchihooeaaGreat
namespace Go.Proofs.YthdfojchihooeaaGreat
open Go T


def zg1 (t c:Int):Int:=if t>c then t else c
section
variable {lo:Nat}{ro:Bool}{h:Heap}{F F':List Nat}{a a':Option (Nat×Nat)}{c c':Option Nat}
end
end Go.Proofs.YthdfojchihooeaaGreat
namespace Go.Proofs.YthdfojchihooeaaGreat
open Go T


def znv (p:Place) (f:Nat):Bool:=match ziJ p f with
 | some v=>zgp p.chain 0&&zcU v.past (zaO p.chain)
 | none=>false
def zd8 (p:Place) (f:Int):Bool:=zak f 0 2&&znv p f.toNat
def znx (p:Place) (f:Nat):Place:=match ziJ p f with
 | some v=>zd1 (zlQ p 0 (zg1 v.tag.time p.clock) v)
 | none=>p
def ze0 (p:Place) (f:Int):Place:=bif zd8 p f then znx p f.toNat else p
theorem znQ {p:Place} (h:zan p=true) {f:Nat} (hf:f<p.got.length) {v:Ver} (hv:v∈p.got[f]):zbg v=true:=by
 obtain ⟨_,h2⟩:=zgw (zqZ h hf)
 obtain ⟨i,hi,rfl⟩:=List.mem_iff_getElem.1 hv
 exact (h2 i hi).1
theorem zrE {p:Place} (h:zan p=true):(zga p.chain).length=4:=by
 have h0:=zd6 h
 rw [znb h0]
 exact zaH (zav ((zbY (zaK h).2.2.2.1).2 _ (List.getElem_mem h0))).1
theorem zm6 {p:Place}{f:Nat} (hf:f<p.got.length):(∃ i,∃ hi:i<p.got[f].length,zcS (zhe (zga p.chain)) p.got[f] 0=(i:Int)∧ziJ p f=some p.got[f][i])∨(zcS (zhe (zga p.chain)) p.got[f] 0 = -1∧ziJ p f=none):=by
 unfold ziJ
 rw [zhi hf]
 rcases zj6 (p:=zhe (zga p.chain)) (l:=p.got[f]) (k:=0) with ⟨i,hi,h1,h2⟩ | h
 ·exact .inl ⟨i,hi,by rw [h1,Nat.zero_add],h2⟩
 ·exact .inr h
theorem zva {t c:Int} (h:decide (t>c)=true):zg1 t c=t:=by unfold zg1;rw [if_pos (of_decide_eq_true h)]
theorem zvc {t c:Int} (h:decide (t>c)=false):zg1 t c=c:=by unfold zg1;rw [if_neg (of_decide_eq_false h)]
section
variable {lo:Nat}{h:Heap}{F F':List Nat}{a a':Option (Nat×Nat)}{c c':Option Nat}
theorem zmb {p:Place}{f:Nat}{a1 a2 a3:Option (Nat×Nat)}{c1 c2 c3:Option Nat}{F1 F3:List Nat} (hs1:RNodes false h [.sl 2 a1 p.chain.length c1] p.chain F1) (hs3:RVss false h [.sl 1 a3 p.got.length c3] p.got F3)
  (hok:zan p=true) (hf:f<p.got.length) (hn:zcc p):evl lo 147 [.agg (p.cs a1 c1 a2 c2 a3 c3),.int .i64 (f:Nat)] h=some (.bool (znv p f),h):=by
 have h0:=zd6 hok
 have hchain:=(zaK hok).2.2.2.1
 have hhl:=zrE hok
 have hky:∀ v∈p.got[f],0≤v.key∧v.key<(zga p.chain).length:=fun v hv=>by have:=(zaA (znQ hok hf hv)).1;omega
 have hgn:p.got[f].length≤1048576:=(hn.2.2.2 _ (List.getElem_mem hf)).1
 suffices hq:∃ h',_=some (V.bool (znv p f),h') from by obtain ⟨h',e⟩:=hq;exact zkk e
 rw [zjR hs1 hs3 h0 hf hky hgn]
 simp only [zac,zaa]
 unfold znv
 rcases zm6 hf with ⟨i,hi,e1,e2⟩ | ⟨e1,e2⟩
 ·rw [e1,e2,zal (by omega),zh6 hs1 h0]
  simp only [zac,zbi]
  cases hr:zgp p.chain 0 with
  | false=>exact ⟨h,rfl⟩
  | true =>
   obtain ⟨o3,s3,b3,d3,G3,ha3,ho3,e3,q3,_⟩:=hs3.get hf
   obtain ⟨o4,s4,b4,d4,G4,ha4,_,_,_,ho43,_,_,_,_,e4,q4,_⟩:=q3.all hi
   obtain ⟨v5,h5,F5,e5,r5,m5⟩:=zgJ (lo:=h.length) hs1 (Nat.le_refl _) hn.1 h0
   obtain ⟨a6,c6,e6,r6⟩:=r5.form
   rw [zaN,zab hf]
   simp only [ha3,zam,Int.toNat_natCast,ho3,zad,e3,zao]
   rw [zab hi]
   simp only [ha4,zam,Int.toNat_natCast,ho43,zad,e4,zao]
   rw [e5]
   simp only [zac,zbx,zad,e6,zao]
   rw [zdY (m5.keep0 rtags_ok q4) r6 (zbq (zaA (znQ hok hf (List.getElem_mem hi))).2.2.2.1) (zhB hchain)]
   simp only [zac,zbi]
   cases zcU p.got[f][i].past (zaO p.chain)
   ·exact ⟨h5,rfl⟩
   ·exact ⟨h5,rfl⟩
 ·rw [e1,e2,zaj (by omega)]
  exact ⟨h,rfl⟩
theorem zqs {p:Place}{f:Nat}{a1 a2 a3:Option (Nat×Nat)}{c1 c2 c3:Option Nat}{F1 F2 F3:List Nat} (hs1:RNodes false h [.sl 2 a1 p.chain.length c1] p.chain F1) (hs2:RVers false h [.sl 6 a2 p.log.length c2] p.log F2) (hs3:RVss false h [.sl 1 a3 p.got.length c3] p.got F3)
  (hok:zan p=true) (hf:f<p.got.length) (hn:zcc p) (ht:znv p f=true) (hnd:(F1++(F2++F3)).Nodup) (hlo:∀ b∈F1++(F2++F3),lo≤b) (hl:lo≤h.length) :
  ∃ a2' c2' h' F',evl lo 148 [.agg (p.cs a1 c1 a2 c2 a3 c3),.int .i64 (f:Nat)] h=some (.agg ((znx p f).cs a1 c1 a2' c2' a3 c3),h')∧zdt false h' ((znx p f).cs a1 c1 a2' c2' a3 c3) (znx p f) F'∧Mv h (F1++(F2++F3)) h' F':=by
 have h0:=zd6 hok
 have hhl:=zrE hok
 have hky:∀ v∈p.got[f],0≤v.key∧v.key<(zga p.chain).length:=fun v hv=>by have:=(zaA (znQ hok hf hv)).1;omega
 have hgn:p.got[f].length≤1048576:=(hn.2.2.2 _ (List.getElem_mem hf)).1
 have hti:=zcV hok
 have hti':Tidy 10 20 100 p:=⟨Nat.le_trans hti.len (by decide),fun x hx=>by have:=hti.node x hx;exact ⟨this.1,Nat.le_trans this.2.1 (by decide),this.2.2⟩,⟨Nat.le_trans hti.log.1 (by decide),hti.log.2⟩,hti.got.1,fun l hl=>⟨Nat.le_trans (hti.got.2 l hl).1 (by decide),(hti.got.2 l hl).2⟩⟩
 unfold znv at ht
 unfold znx
 rcases zm6 hf with ⟨i,hi,e1,e2⟩ | ⟨e1,e2⟩
 ·rw [e2]
  simp only
  have hv:=znQ hok hf (List.getElem_mem hi)
  obtain ⟨o3,s3,b3,d3,G3,ha3,ho3,e3,q3,hG3⟩:=hs3.get hf
  obtain ⟨o4,s4,b4,d4,G4,ha4,ho4,e4,q4,hG4⟩:=q3.get hi
  rw [← List.append_assoc] at hnd hlo
  have hnd':=hnd
  rw [List.nodup_append] at hnd'
  have hdis:∀ y∈F3,y∉F1++F2:=fun y hy hm=>hnd'.2.2 y hm y hy rfl
  obtain ⟨h2,a2',c2',h3,F1',F2',e5,e6,r1,r2,m⟩:=zjU (lo:=lo) (v:=p.got[f][i]) (k:=0) (t:=zg1 p.got[f][i].tag.time p.clock) (a3:=a3) (c3:=c3) hs1 hs2 q4 (fun y hy hm=>hdis y (hG3 y (hG4 y hy)) (by simp [hm])) hnd'.1 (fun y hy=>hlo y (by rw [List.mem_append];exact .inl hy)) hl h0 ((zaA hv).1) hti' (zg7 hv)
  have b3':∀ y∈F3,y<h.length:=rvss_ok.bd _ _ _ _ hs3
  have m':=m.aside (G:=F3) hnd b3'
  have hs3':=m.keep rvss_ok hs3 hdis
  have hcs:∀ t,(zlQ p 0 t p.got[f][i]).cs a1 c1 a2 c2 a3 c3 = [.int .i64 p.me,.int .i64 t,.sl 2 a1 p.chain.length c1,.sl 6 a2 p.log.length c2,.sl 1 a3 p.got.length c3,.bool p.fell]:=fun t=>by simp only [Place.cs,zlQ,addN_len]
  rw [hcs] at e6
  rw [← List.append_assoc]
  refine ⟨a2',c2',h3,F1'++F2'++F3,zof ?_,⟨_,_,_,_,_,_,rfl,_,_,_,F1',F2',F3,rfl,by rw [List.append_assoc],r1,r2,hs3'⟩,m'⟩
  rw [zab hf]
  simp only [ha3,zam,Int.toNat_natCast,ho3,zad,e3,zao]
  rw [← ha3]
  have:=zjR (lo:=h.length) (a2:=a2) (c2:=c2) hs1 hs3 h0 hf hky hgn
  simp only [Place.cs] at this
  rw [this,e1]
  simp only [zac,zaa]
  rw [zab hi]
  simp only [ha4,zam,Int.toNat_natCast,ho4,zad,zaa,e4,zdl,zaS,zao]
  cases hd:decide (p.got[f][i].tag.time>p.clock)
  ·rw [zvc hd] at e6 ⊢
   rw [za5]
   rw [show (0:Int)=((0:Nat):Int) from rfl] at *
   simp only [Ver.cs] at e5
   rw [e5]
   simp only [zac,zbx,zad,zah,zao]
   rw [e6]
   simp only [zac,Place.cs,zbx,zad,zaa,zah,zaS,zao]
  ·rw [zva hd] at e6 ⊢
   rw [zaN]
   rw [show (0:Int)=((0:Nat):Int) from rfl] at *
   simp only [Ver.cs] at e5
   rw [e5]
   simp only [zac,zbx,zad,zah,zao]
   rw [e6]
   simp only [zac,Place.cs,zbx,zad,zaa,zah,zaS,zao]
 ·rw [e2] at ht;cases ht
end
end Go.Proofs.YthdfojchihooeaaGreat
namespace Go.Proofs.YthdfojchihooeaaGreat
open Go T


theorem zr5 {p:Place} (h:zan p=true):Tidy 10 20 100 p:=by
 have hti:=zcV h
 exact ⟨Nat.le_trans hti.len (by decide),fun x hx=>by have:=hti.node x hx;exact ⟨this.1,Nat.le_trans this.2.1 (by decide),this.2.2⟩,⟨Nat.le_trans hti.log.1 (by decide),hti.log.2⟩,hti.got.1,fun l hl=>⟨Nat.le_trans (hti.got.2 l hl).1 (by decide),(hti.got.2 l hl).2⟩⟩
section
variable {lo:Nat}{h:Heap}{F F':List Nat}{a a':Option (Nat×Nat)}{c c':Option Nat}
end
end Go.Proofs.YthdfojchihooeaaGreat
namespace Go.Proofs.YthdfojchihooeaaGreat
open Go T


theorem EAll.mono {α:Type}{A B:Rel α}{h:Heap} (hAB:∀ row x F,A h row x F→B h row x F):∀ {rows:List (List V)}{l:List α}{Fs:List (List Nat)},EAll A h rows l Fs→EAll B h rows l Fs
 | [],[],[],_=>trivial
 | _ :: _,_ :: _,_ :: _,⟨h1,h2⟩=>⟨hAB _ _ _ h1,EAll.mono hAB h2⟩
 | [],[],_ :: _,h=>h.elim
 | [],_ :: _,_,h=>h.elim
 | _ :: _,[],_,h=>h.elim
 | _ :: _,_ :: _,[],h=>h.elim
theorem Sli.mono {α:Type}{A B:Rel α}{h:Heap}{R e:Nat}{cs:List V}{l:List α}{F:List Nat} (hAB:∀ row x F,A h row x F→B h row x F) (hs:Sli false R e A h cs l F):Sli false R e B h cs l F:=by
 obtain ⟨R',a,c,e1,g⟩:=hs
 refine ⟨R',a,c,e1,?_⟩
 cases a with
 | none=>exact g
 | some p =>
  obtain ⟨b,i⟩:=p
  obtain ⟨g0,rs,Fs,g1,g2,g3,g4,g5,g6⟩:=g
  exact ⟨g0,rs,Fs,g1,g2,g3,g4,g5.mono hAB,g6⟩
def zxI:Rel Node:=fun h row x F=>RNode false h row x F∧∃ s a n k,row = [s,.sl 6 a n (some k)]
abbrev RNodesC:Rel (List Node):=Sli false 2 (zpJ false) zxI
theorem RNodesC.up {h:Heap}{cs:List V}{l:List Node}{F:List Nat} (hs:RNodesC h cs l F):RNodes false h cs l F:=Sli.mono (fun _ _ _ h=>h.1) hs
section
variable {lo:Nat}{h:Heap}{F F' G:List Nat}{a a' av:Option (Nat×Nat)}{c c' cv:Option Nat}
end
end Go.Proofs.YthdfojchihooeaaGreat
namespace Go.Proofs.YthdfojchihooeaaGreat
open Go T


theorem EAll.erase {α:Type}{El:Rel α}{h:Heap}:∀ {rows:List (List V)}{l:List α}{Fs:List (List Nat)},EAll El h rows l Fs→∀ (k:Nat),EAll El h (rows.eraseIdx k) (l.eraseIdx k) (Fs.eraseIdx k)
 | [],[],[],_,k=>by simp [EAll]
 | _ :: _,_ :: _,_ :: _,⟨_,h2⟩,0=>h2
 | _ :: _,_ :: _,_ :: _,⟨h1,h2⟩,k+1=>⟨h1,h2.erase k⟩
 | [],[],_ :: _,h,_=>h.elim
 | [],_ :: _,_,h,_=>h.elim
 | _ :: _,[],_,h,_=>h.elim
 | _ :: _,_ :: _,[],h,_=>h.elim
theorem ziN {Fs:List (List Nat)}{k:Nat}{Fk:List Nat} (hk:Fs[k]?=some Fk) (hnd:Fs.flatten.Nodup):(Fs.eraseIdx k).flatten.Nodup∧(∀ y∈(Fs.eraseIdx k).flatten,y∈Fs.flatten∧y∉Fk):=by
 induction Fs generalizing k with
 | nil=>simp at hk
 | cons F Fs ih =>
  rw [List.flatten_cons,List.nodup_append] at hnd
  obtain ⟨n1,n2,n3⟩:=hnd
  cases k with
  | zero =>
   simp at hk;subst hk
   rw [List.eraseIdx_cons_zero]
   exact ⟨n2,fun y hy=>⟨by simp only [List.flatten_cons,List.mem_append];exact .inr hy,fun hm=>n3 y hm y hy rfl⟩⟩
  | succ k =>
   obtain ⟨g1,g2⟩:=ih (k:=k) (by simpa using hk) n2
   rw [List.eraseIdx_cons_succ,List.flatten_cons,List.nodup_append]
   refine ⟨⟨n1,g1,fun x hx y hy=>n3 x hx y (g2 y hy).1⟩,fun y hy=>?_⟩
   rcases List.mem_append.1 hy with hy | hy
   ·refine ⟨by simp only [List.flatten_cons,List.mem_append];exact .inl hy,fun hm=>?_⟩
    exact n3 y hy y (zhI (by simpa using hk) hm) rfl
   ·exact ⟨by simp only [List.flatten_cons,List.mem_append];exact .inr (g2 y hy).1,(g2 y hy).2⟩
end Go.Proofs.YthdfojchihooeaaGreat
namespace Go.Proofs.YthdfojchihooeaaGreat
open Go T


def zik (l:List Node) (k:Nat):List Node:=match l[k]? with
 | some x=>l.set k ⟨x.store,x.wait.eraseIdx 0⟩
 | none=>l
def ztz (l:List Node) (k:Nat):Bool:=match l[k]? with
 | some x=>decide (0<x.wait.length)&&zgp l (k+1)
 | none=>false
def zcY (l:List Node) (k:Int):Bool:=zak k 0 ((l.length:Int) - 2)&&ztz l k.toNat
def zhW (l:List Node) (k:Nat):List Node:=match l[k]? with
 | some x=>match x.wait[0]? with
  | some v=>zkM (zik l k) (k+1) v
  | none=>l
 | none=>l
theorem zlK {l:List Node}{k:Nat} (hk:k<l.length):zik l k=l.set k ⟨l[k].store,l[k].wait.eraseIdx 0⟩:=by unfold zik;rw [List.getElem?_eq_getElem hk]
theorem zlJ {l:List Node}{k:Nat}:(zik l k).length=l.length:=by unfold zik;split<;>simp
theorem zjn {l:List Node}{k:Nat} (hk:k<l.length):ztz l k=(decide (0<l[k].wait.length)&&zgp l (k+1)):=by unfold ztz;rw [List.getElem?_eq_getElem hk]
theorem ztC {l:List Node}{k:Nat} (hk:k<l.length) (h0:0<l[k].wait.length):zhW l k=zkM (zik l k) (k+1) (l[k].wait[0]'h0):=by
 unfold zhW;rw [List.getElem?_eq_getElem hk];simp only;rw [List.getElem?_eq_getElem h0]
theorem Sli.at2 {α:Type}{El:Rel α} (ok:El.Ok) {h:Heap}{R R' e n k lo:Nat}{a:Option (Nat×Nat)}{c:Option Nat}{l:List α}{F:List Nat} (hs:Sli false R e El h [.sl R' a n c] l F) (hk:k<l.length) (hnd:F.Nodup) (hlo:∀ b∈F,lo≤b) :
  ∃ b i rs row G,a=some (b,i)∧b∈F∧b∉G∧h[b]?=some (.rows R e false rs)∧rs[i+k]?=some row∧El h row l[k] G∧(∀ y∈G,y∈F)∧G.Nodup ∧
   (∀ h1 G1 j cs row' x',Mv h G h1 G1→paste row j cs=some row'→El h1 row' x' G1 →
    ∃ h2 F',st lo h1 b (i+k) j cs=some h2∧Sli false R e El h2 [.sl R' a n c] (l.set k x') F'∧Mv h F h2 F'∧(∀ y,y≠b→h2[y]?=h1[y]?)∧∀ y∈F',(y∈F∧y∉G)∨y∈G1):=by
 have hbd:=(Sli.ok ok).bd _ _ _ _ hs
 obtain ⟨b,i,rs,row,G,ha,hbF,hbG,hb,hrow,hel,hGF,hGn,put⟩:=hs.put ok.fr hk hnd
 have hblt:b<h.length:=hbd b hbF
 refine ⟨b,i,rs,row,G,ha,hbF,hbG,hb,hrow,hel,hGF,hGn,fun h1 G1 j cs row' x' m hp hx=>?_⟩
 have hbG1:b∉G1:=fun hm=>by
  rcases m.sub b hm with h1 | h1
  ·exact hbG h1
  ·omega
 have hb1:h1[b]?=some (.rows R e false rs):=by rw [m.fr b hblt hbG];exact hb
 have hb1lt:b<h1.length:=Nat.lt_of_lt_of_le hblt m.le
 have e2:=zf5 hb1 (hlo b hbF) hrow hp
 have fr2:∀ y,y≠b→(h1.set b (.rows R e false (rs.set (i+k) row')))[y]?=h1[y]?:=fun y hy=>List.getElem?_set_ne (Ne.symm hy)
 obtain ⟨F',p1,p2,p3,_⟩:=put (h1.set b (.rows R e false (rs.set (i+k) row'))) row' x' G1 (by simp [hb1lt]) (fun y hy hyb hyG=>by rw [fr2 y hyb];exact m.fr y (hbd y hy) hyG)
  (ok.fr _ _ _ _ _ hx fun y hy=>fr2 y fun e=>hbG1 (e ▸ hy)) m.nd (fun y hy hyF=>by
  rcases m.sub y hy with h1 | h1
  ·exact h1
  ·have:=hbd y hyF;omega)
 refine ⟨_,F',e2,p1,⟨by simpa using m.le,fun y hy hyF=>?_,p3,fun y hy=>?_⟩,fr2,p2⟩
 ·rw [fr2 y fun e=>hyF (e ▸ hbF)]
  exact m.fr y hy fun hg=>hyF (hGF y hg)
 ·rcases p2 y hy with h1 | h1
  ·exact .inl h1.1
  ·refine (m.sub y h1).imp (hGF y) fun h=>by simpa using h
section
variable {lo:Nat}{ro:Bool}{h:Heap}{F F' G:List Nat}{a a' av:Option (Nat×Nat)}{c c' cv:Option Nat}
theorem zuW {l:List Ver} (hs:RVers false h [.sl 6 a l.length c] l F) (h0:0<l.length) (hnd:F.Nodup) (hl:lo≤h.length) (hn:l.length≤1048576) :
  ∃ o s av cv Gv,a=some o∧ld h o.1 (o.2+0) 0 6=some [.int .i64 l[0].key,.int .i64 l[0].tag.time,.int .i64 l[0].tag.place,s,.str l[0].text,.bool l[0].gone]∧(∀ {T:Type} (K:Option (Nat×Nat)→Nat→Option Nat→Option T),eS 2 s K=K av l[0].past.length cv)∧RTags false h [.sl 2 av l[0].past.length cv] l[0].past Gv ∧
   ∃ a' c' h' F',(∀ {T:Type} (K:V→Heap→Option T),(zaz a l.length c (some (.int .i64 1)) none none fun a n c=>zaq 6 (h ++ [.rows 6 65 false []]) (.sl 6 a n c) fun xs=>app lo 65 6 72 (.sl 6 (some (h.length,0)) 0 (some 0)) xs (h ++ [.rows 6 65 false []]) K)=K (.sl 6 a' (l.eraseIdx 0).length c') h') ∧
    RVers false h' [.sl 6 a' (l.eraseIdx 0).length c'] (l.eraseIdx 0) F'∧Mv h F h' F'∧(∀ y∈Gv,y∉F'∧y∈F)∧∀ y,y<h.length→h'[y]?=h[y]?:=by
 have hbd:=rvers_ok.bd _ _ _ _ hs
 obtain ⟨R1,a1,c1,e1,g⟩:=hs
 injection e1 with e1 _;injection e1 with e0 e2 _ e3
 subst e2;subst e3
 cases a with
 | none=>obtain ⟨rfl,_⟩:=g;simp at h0
 | some p =>
 obtain ⟨b,i⟩:=p
 obtain ⟨_,rs,Fs,g1,g2,g3,_,g5,rfl⟩:=g
 obtain ⟨row,Fk,hrow,hFk,hel⟩:=g5.get (List.getElem?_eq_getElem h0)
 rw [List.nodup_cons] at hnd
 obtain ⟨f1,f2⟩:=ziN hFk hnd.2
 have hri:rs[i]?=some row:=by
  rw [List.getElem?_take,if_pos h0,List.getElem?_drop] at hrow;exact hrow
 obtain ⟨s,av,cv,rfl,es,hp⟩:=hel.form
 have hil:i<rs.length:=by omega
 have hcut:((rs.drop i).take l.length).eraseIdx 0=(rs.drop (i+1)).take (l.length - 1):=by
  rw [List.drop_eq_getElem_cons hil,show l.length=(l.length - 1)+1 by omega,List.take_succ_cons,List.eraseIdx_cons_zero]
  simp
 have g6:=g5.erase 0
 rw [hcut] at g6
 have hlen:=List.length_eraseIdx_of_lt h0
 generalize hxs:(rs.drop (i+1)).take (l.length - 1)=xs at g6
 have hxl:xs.length=l.length - 1:=by rw [← hlen];exact g6.len.1
 have m0:Mv h [] (h ++ [.rows 6 65 false []]) [h.length]:=Mv.last
 have hb1:(h ++ [.rows 6 65 false []])[b]?=some (.rows 6 (zv7 false) false rs):=by rw [m0.fr b (hbd b (by simp)) (by simp)];exact g1
 have s3:∀ {T:Type} (K:List (List V)→Option T),(zaz (some (b,i)) l.length c (some (.int .i64 1)) none none fun a6 n7 c8=>zaq 6 (h ++ [.rows 6 65 false []]) (.sl 6 a6 n7 c8) K)=K xs:=fun K=>by
  unfold zaz zgK zmT zoI
  simp only [zaa,Option.isNone_none]
  rw [zd2 ⟨by omega,by omega⟩,show ((1:Int)).toNat=1 from rfl]
  have key:∀ c8:Option Nat,zaq 6 (h ++ [.rows 6 65 false []]) (.sl 6 (some (b,i+1)) (l.length - 1) c8) K=K xs:=fun c8=>by
   simp only [zaq,ziX,zgt]
   cases hm:l.length - 1 with
   | zero =>
    have hx0:xs = []:=List.eq_nil_of_length_eq_zero (by omega)
    rw [hx0]
   | succ m =>
    simp only
    rw [show zeS (h ++ [.rows 6 65 false []]) b (i+1) (m+1)=some xs by
     simp only [zeS,Heap.rows?,hb1,Option.bind_some]
     rw [zfS (by omega),← hm,hxs]]
    rfl
  cases c with
  | none=>exact key none
  | some N =>
   obtain ⟨hN,_⟩:=g3 N rfl
   unfold ztl
   simp only
   cases hb:Nat.beq N 1 with
   | false=>rw [za5];exact key _
   | true =>
    have:=Nat.eq_of_beq_eq_true hb
    have hx0:xs = []:=List.eq_nil_of_length_eq_zero (by omega)
    rw [zaN,show l.length - 1=0 by omega,hx0]
    simp [zaq,zc7]
 have hfl:∀ y∈(Fs.eraseIdx 0).flatten,y<h.length:=fun y hy=>hbd y (by simp [(f2 y hy).1])
 refine ⟨(b,i),s,av,cv,Fk,rfl,by rw [zeR g1 (by rw [Nat.add_zero];exact hri)];rfl,es,hp,?_⟩
 have hFkb:∀ y∈Fk,y∈Fs.flatten:=fun y hy=>zhI hFk hy
 by_cases he:l.eraseIdx 0 = []
 ·have hx0:xs = []:=List.eq_nil_of_length_eq_zero (by rw [hxl,← hlen,he];rfl)
  refine ⟨some (h.length,0),some 0,_,[h.length],fun K=>by rw [s3,hx0];simp only [app];rw [he];rfl,by rw [he];exact Sli.fresh (Nat.le_refl _),?_,fun y hy=>?_,fun y hy=>m0.fr y hy (by simp)⟩
  ·exact m0.wide (by simp)
  ·have:=hbd y (by simp [hFkb y hy])
   exact ⟨by simp;omega,by simp [hFkb y hy]⟩
 ·have hfresh:RVers false (h ++ [.rows 6 (zv7 false) false []]) [.sl 6 (some (h.length,0)) 0 (some 0)] [] [h.length]:=Sli.fresh (Nat.le_refl _)
  obtain ⟨a',c',h',F',p1,p2,p3,p4,p5,p6⟩:=Sli.push (lo:=lo) (bytes:=72) rver_ok.fr hfresh (xs:=xs) (ys:=l.eraseIdx 0) (Gs:=Fs.eraseIdx 0) (g6.fr rver_ok.fr fun y hy=>m0.fr y (hfl y hy) (by simp)) (by decide) (by rw [hlen];simp;omega) (by simp;omega) (by simp;omega)
   (by rw [List.cons_append,List.nil_append,List.nodup_cons];exact ⟨fun hm=>by have:=hfl _ hm;omega,f1⟩) (fun y hy=>by
    rw [List.cons_append,List.nil_append,List.mem_cons] at hy
    rcases hy with rfl | hy
    ·simp
    ·have:=hfl y hy;simp;omega) he
  simp only [List.length_nil,Nat.zero_add,List.nil_append] at p1 p2
  have hfr:∀ y,y<h.length→h'[y]?=h[y]?:=fun y hy=>by
   rw [p4 y (by simp;omega) (by simp;omega)];exact m0.fr y hy (by simp)
  refine ⟨a',c',h',F',fun K=>by rw [s3];exact p1 K,p2,⟨by simp at p3;omega,fun y hy _=>hfr y hy,p6,fun y hy=>?_⟩,fun y hy=>⟨fun hm=>?_,by simp [hFkb y hy]⟩,hfr⟩
  ·simp at p3
   rcases p5 y hy with g | g
   ·rw [List.cons_append,List.nil_append,List.mem_cons] at g
    rcases g with rfl | g
    ·exact .inr (by omega)
    ·exact .inl (by simp [(f2 y g).1])
   ·simp at g;exact .inr (by omega)
  ·have hyl:=hbd y (by simp [hFkb y hy])
   rcases p5 y hm with g | g
   ·rw [List.cons_append,List.nil_append,List.mem_cons] at g
    rcases g with rfl | g
    ·omega
    ·exact (f2 y g).2 hy
   ·simp at g;omega
theorem zmO {l:List Node}{k:Int} (hs:RNodes ro h [.sl 2 a l.length c] l F) (hn:l.length≤1048576):evl lo 151 [.agg [.sl 2 a l.length c],.int .i64 k] h=some (.bool (zcY l k),h):=by
 refine zp2 (h':=h) ?_
 rw [wr (by omega) (by omega),zbb,zac,zbi]
 unfold zcY
 cases hw:zak k 0 ((l.length:Int) - 2) with
 | false=>rw [za5];rfl
 | true =>
 simp only [zak,Bool.and_eq_true,decide_eq_true_eq] at hw
 obtain ⟨f,rfl⟩:∃ f:Nat,k=(f:Int):=⟨k.toNat,by omega⟩
 have hk:f<l.length:=by omega
 have hk1:f+1<l.length:=by omega
 obtain ⟨o,s1,s2,b1,d1,b2,d2,G1,G2,ha,_,_,ho2,_,e2,_⟩:=hs.get hk
 obtain ⟨o',s1',s2',b1',d1',b2',d2',G1',G2',ha',_,_,ho2',_,e2',_⟩:=hs.get hk1
 have:o=o':=by rw [ha] at ha';injection ha'
 subst this
 rw [Int.toNat_natCast,zjn hk,zhE hk1,zaN,zab hk,ha,zam,ho2,zam,zad,zao,e2]
 by_cases h0:0<l[f].wait.length
 ·rw [zal (by omega),zap (by omega),zab hk1,zam,Int.toNat_natCast,ho2',zam,zad,zao,e2',decide_eq_true h0]
  by_cases h6:l[f+1].wait.length<6
  ·rw [zal (by omega),decide_eq_true h6];rfl
  ·rw [zaj (by omega),decide_eq_false h6];rfl
 ·rw [zaj (by omega),decide_eq_false h0];rfl
def zv3 (x:Node):Prop:=zf9 20 x∧∀ v∈x.wait,0≤v.key∧v.key≤3
theorem zk1 {l:List Node}{k:Nat} (hs:RNodes false h [.sl 2 a l.length c] l F) (hk:k+1<l.length) (h0:0<(l[k]'(by omega)).wait.length) (hnd:F.Nodup) (hlo:∀ b∈F,lo≤b) (hl:lo≤h.length) (hn:zcW l) (hx:∀ x∈l,zv3 x) :
  ∃ h' F',evl lo 152 [.agg [.sl 2 a l.length c],.int .i64 (k:Nat)] h=some (.agg [.sl 2 a l.length c],h')∧RNodes false h' [.sl 2 a l.length c] (zhW l k) F'∧Mv h F h' F':=by
 have hk':k<l.length:=by omega
 have hn1:=hn.1
 suffices hq:∃ h' F',_=some (V.agg [.sl 2 a l.length c],h')∧RNodes false h' [.sl 2 a l.length c] (zhW l k) F'∧Mv h F h' F' from hq.imp fun h' hq=>hq.imp fun F' hq=>⟨zol hq.1,hq.2⟩
 obtain ⟨b,i,rs,row,G0,ha,hbF,hbG,hb,hrow,hel,hGF,hGn,put⟩:=hs.at2 rnode_ok hk' hnd hlo
 obtain ⟨t1,t2,F1,F2,rfl,rfl,r1,r2⟩:=hel
 obtain ⟨a2,c2,e2,r2'⟩:=r2.form
 have hGn0:=hGn
 rw [List.nodup_append] at hGn
 obtain ⟨o,s,av,cv,Gv,ho,hld,es,hp,a3,c3,h3,F3,e3,r3,m3,hGv,fr3⟩:=zuW (lo:=lo) r2' h0 hGn.2.1 hl (hn.2 _ (List.getElem_mem hk')).2.1
 have b1:∀ y∈F1,y<h.length:=rvers_ok.bd _ _ _ _ r1
 have m4:=(m3.aside (G:=F1) (by rw [List.nodup_append];exact ⟨hGn.2.1,hGn.1,fun x hx y hy e=>hGn.2.2 y hy x hx e.symm⟩) b1).swap
 have r1':RVers false h3 [t1] l[k].store F1:=rvers_ok.fr _ _ _ _ _ r1 fun y hy=>fr3 y (b1 y hy)
 obtain ⟨h4,F4,e4,r4,m5,fr4,sub4⟩:=put h3 (F1++F3) 1 [.sl 6 a3 (l[k].wait.eraseIdx 0).length c3] [t1,.sl 6 a3 (l[k].wait.eraseIdx 0).length c3] ⟨l[k].store,l[k].wait.eraseIdx 0⟩ m4 rfl ⟨_,_,F1,F3,rfl,rfl,r1',r3⟩
 rw [← zlK hk'] at r4
 have hln:=zlJ (l:=l) (k:=k)
 have hGvG:∀ y∈Gv,y∈F1++F2:=fun y hy=>by simp [(hGv y hy).2]
 have hGvl:∀ y∈Gv,y<h.length:=rtags_ok.bd _ _ _ _ hp
 have hd:∀ y∈Gv,y∉F4:=fun y hy hm=>by
  rcases sub4 y hm with g | g
  ·exact g.2 (hGvG y hy)
  ·rcases List.mem_append.1 g with g | g
   ·exact hGn.2.2 y g y (hGv y hy).2 rfl
   ·exact (hGv y hy).1 g
 have hp4:RTags false h4 [.sl 2 av (l[k].wait[0]'h0).past.length cv] (l[k].wait[0]'h0).past Gv:=rtags_ok.fr _ _ _ _ _ hp fun y hy=>by
  rw [fr4 y fun e=>hbG (by rw [← e];exact hGvG y hy),fr3 y (hGvl y hy)]
 have hpx:=hx _ (List.getElem_mem hk')
 have hky:=hpx.2 _ (List.getElem_mem h0)
 have hth:=hpx.1.2.2.2 _ (List.getElem_mem h0)
 have hk1:k+1<(zik l k).length:=by rw [hln];exact hk
 have hst1:(zik l k)[k+1].store.length=4:=by
  have:(zik l k)[k+1]=l[k+1]:=by
   have e:=zlK hk'
   rw [List.getElem_of_eq e,List.getElem_set_ne (by omega)]
  rw [this];exact (hx _ (List.getElem_mem hk)).1.1
 have hnd5:zcW (zik l k):=by
  refine ⟨by rw [hln];exact hn1,fun x hx'=>?_⟩
  rw [zlK hk'] at hx'
  rcases List.mem_or_eq_of_mem_set hx' with hx' | rfl
  ·exact hn.2 x hx'
  ·have:=hn.2 _ (List.getElem_mem hk')
   exact ⟨this.1,zsd this.2 (Nat.le_trans (List.length_eraseIdx_le _ _) this.2.1) fun v hv=>List.mem_of_mem_eraseIdx hv⟩
 rw [← hln] at r4
 obtain ⟨h5,F5,e5,r5,m6⟩:=zje (lo:=lo) (k:=k+1) (v:=l[k].wait[0]'h0) r4 hp4 hd m5.nd (fun y hy=>m5.ge hl hlo y hy) (Nat.le_trans hl m5.le) hk1 ⟨hky.1,by omega⟩ hnd5 (by have:=hth.1;omega)
 rw [hln] at e5 r5
 rw [← ztC hk' h0] at r5
 have hblt:b<h.length:=(List.getElem?_eq_some_iff.1 hb).1
 have ld1:ld h b (i+k) 1 1=some [t2]:=by rw [zeR hb hrow];rfl
 have ld2:ld (h ++ [.rows 6 65 false []]) b (i+k) 1 1=some [t2]:=by
  rw [zeR (by rw [List.getElem?_append_left hblt];exact hb) hrow];rfl
 simp only [Ver.cs] at e5
 have e5':evl lo 258 [.agg [.sl 2 a l.length c],.int .i64 ((k:Nat)+1:Int),.agg [.int .i64 (l[k].wait[0]'h0).key,.int .i64 (l[k].wait[0]'h0).tag.time,.int .i64 (l[k].wait[0]'h0).tag.place,.sl 2 av (l[k].wait[0]'h0).past.length cv,.str (l[k].wait[0]'h0).text,.bool (l[k].wait[0]'h0).gone]] h4=some (.agg [.sl 2 a l.length c],h5):=by
  rw [show ((k:Nat)+1:Int)=((k+1:Nat):Int) by omega];exact e5
 rw [zab hk',ha,zam,Int.toNat_natCast,ld1,zam,zad,zao,e2,zdd ⟨by omega,by omega⟩,ho,zam,hld,zam,zad,zaa,zad,zaa,zad,zaa,zad,es,zad,zdl,zad,zaS,zao,zab hk',zam,ld2,zam,zad,zao,e2,e3,zah,zab hk',zam,e4,zam,wr (n:=((k:Nat):Int)+1) (by omega) (by omega),← ha,e5',zac,zbx,zad,zah,zao]
 exact ⟨h5,F5,rfl,r5,m5.trans m6⟩
end
end Go.Proofs.YthdfojchihooeaaGreat
namespace Go.Proofs.YthdfojchihooeaaGreat
open Go T


def zo9 (p:Place) (k:Nat):Place:=⟨p.me,p.clock,zhW p.chain k,p.log,p.got,p.fell⟩
def ze1 (p:Place) (k:Int):Place:=bif zcY p.chain k then zd1 (zo9 p k.toNat) else p
theorem passN_len {l:List Node}{k:Nat}:(zhW l k).length=l.length:=by
 unfold zhW
 split
 ·split
  ·rw [addN_len,zlJ]
  ·rfl
 ·rfl
theorem ztb {nc nw nl k:Nat}{p:Place} (h:Tidy nc nw nl p):Tidy nc (nw+1) nl (zo9 p k):=by
 have h0:Tidy nc (nw+1) nl p:=⟨h.len,fun x hx=>by have:=h.node x hx;exact ⟨this.1,Nat.le_succ_of_le this.2.1,this.2.2⟩,h.log,h.got⟩
 unfold zo9 zhW
 split
 ·rename_i x hk
  split
  ·rename_i v hv
   have hxm:=List.mem_of_getElem? hk
   have hd:Tidy nc nw nl ⟨p.me,p.clock,zik p.chain k,p.log,p.got,p.fell⟩:=by
    refine ⟨by show (zik p.chain k).length≤nc;rw [zlJ];exact h.len,fun y hy=>?_,h.log,h.got⟩
    have hy:y∈zik p.chain k:=hy
    unfold zik at hy
    rw [hk] at hy
    rcases List.mem_or_eq_of_mem_set hy with hy | rfl
    ·exact h.node y hy
    ·obtain ⟨g1,g2,g3,g4⟩:=h.node x hxm
     exact ⟨g1,Nat.le_trans (List.length_eraseIdx_le _ _) g2,g3,fun v hv=>g4 v (List.mem_of_mem_eraseIdx hv)⟩
   exact zrp hd ((h.node x hxm).2.2.2 v (List.mem_of_getElem? hv))
  ·exact h0
 ·exact h0
theorem ztA {p:Place} (h:zan p=true):∀ x∈p.chain,zv3 x:=fun x hx=>by
 have hno:=(zbY (zaK h).2.2.2.1).2 x hx
 have ht:=ziE hno
 exact ⟨⟨ht.1,Nat.le_trans ht.2.1 (by decide),ht.2.2⟩,fun v hv=>(zaA ((zav hno).2.2 v hv)).1⟩
theorem zta {p:Place}{nc nw nl:Nat} (h:Tidy nc nw nl p) (h1:nc≤10) (h2:nw≤20) (h3:nl≤100):Tidy 10 20 100 p :=
 ⟨Nat.le_trans h.len h1,fun x hx=>by have:=h.node x hx;exact ⟨this.1,Nat.le_trans this.2.1 h2,this.2.2⟩,⟨Nat.le_trans h.log.1 h3,h.log.2⟩,h.got.1,fun l hl=>⟨Nat.le_trans (h.got.2 l hl).1 h3,(h.got.2 l hl).2⟩⟩
theorem zoR {h h1 h2:Heap}{G1 G1' G2 G2' G3:List Nat} (m1:Mv h G1 h1 G1') (m2:Mv h1 G2 h2 G2') (hnd:(G1++(G2++G3)).Nodup) (hb:∀ y∈G1++(G2++G3),y<h.length) :
  Mv h (G1++(G2++G3)) h2 (G1'++(G2'++G3))∧(∀ y∈G1',y∉G2)∧(∀ y∈G3,y∉G1)∧∀ y∈G3,y∉G2:=by
 rw [List.nodup_append,List.nodup_append] at hnd
 obtain ⟨n2,⟨n3,n4,n5⟩,n6⟩:=hnd
 have hb1:∀ y∈G1,y<h.length:=fun y hy=>hb y (by simp [hy])
 have hb2:∀ y∈G2,y<h.length:=fun y hy=>hb y (by simp [hy])
 have hb3:∀ y∈G3,y<h.length:=fun y hy=>hb y (by simp [hy])
 have l1:=m1.le
 have l2:=m2.le
 have d1:∀ y∈G1',y∉G2:=fun y hy hm=>by
  rcases m1.sub y hy with g | g
  ·exact n6 y g y (by simp [hm]) rfl
  ·have:=hb2 y hm;omega
 have d2:∀ y∈G3,y∉G1:=fun y hy hm=>n6 y hm y (by simp [hy]) rfl
 have d3:∀ y∈G3,y∉G2:=fun y hy hm=>n5 y hm y hy rfl
 have s1:∀ y∈G1',y<h1.length:=m1.lt hb1
 refine ⟨⟨by omega,fun y hy hF=>?_,?_,fun y hy=>?_⟩,d1,d2,d3⟩
 ·simp only [List.mem_append,not_or] at hF
  rw [m2.fr y (by omega) hF.2.1,m1.fr y hy hF.1]
 ·rw [List.nodup_append,List.nodup_append]
  refine ⟨m1.nd,⟨m2.nd,n4,fun x hx y hy e=>?_⟩,fun x hx y hy e=>?_⟩
  ·subst e
   rcases m2.sub x hx with g | g
   ·exact d3 x hy g
   ·have:=hb3 x hy;omega
  ·subst e
   rcases List.mem_append.1 hy with hy | hy
   ·rcases m2.sub x hy with g | g
    ·exact d1 x hx g
    ·have:=s1 x hx;omega
   ·rcases m1.sub x hx with g | g
    ·exact d2 x hy g
    ·have:=hb3 x hy;omega
 ·simp only [List.mem_append] at hy ⊢
  rcases hy with hy | hy | hy
  ·rcases m1.sub y hy with g | g
   ·exact .inl (.inl g)
   ·exact .inr ⟨g.1,by omega⟩
  ·rcases m2.sub y hy with g | g
   ·exact .inl (.inr (.inl g))
   ·exact .inr ⟨by omega,g.2⟩
  ·exact .inl (.inr (.inr hy))
section
variable {lo:Nat}{h:Heap}{F F':List Nat}{a a':Option (Nat×Nat)}{c c':Option Nat}
theorem zmL {p:Place}{a1 a2 a3:Option (Nat×Nat)}{c1 c2 c3:Option Nat}{F1 F2:List Nat} (hs1:RNodes false h [.sl 2 a1 p.chain.length c1] p.chain F1) (hs2:RVers false h [.sl 6 a2 p.log.length c2] p.log F2)
  (h0:0<p.chain.length) (ht:Tidy 10 20 100 p) (hd:∀ b∈F1,b∉F2) (hnd:F2.Nodup) (hlo:∀ b∈F2,lo≤b) (hl:lo≤h.length) :
  ∃ a2' c2' h' F2',evl lo 153 [.agg (p.cs a1 c1 a2 c2 a3 c3)] h=some (.agg ((zd1 p).cs a1 c1 a2' c2' a3 c3),h')∧RVers false h' [.sl 6 a2' (zd1 p).log.length c2'] (zd1 p).log F2'∧Mv h F2 h' F2':=by
 obtain ⟨x,hx,hxe⟩:=zm5 h0
 have hxn:=ht.node x hx
 exact zkZ hs1 hs2 h0 (by rw [hxe];exact hxn.1) hd hnd hlo hl (Nat.le_trans ht.len (by decide)) (Nat.le_trans ht.log.1 (by decide)) (fun w hw=>by rw [hxe] at hw;have:=(hxn.2.2.1 w hw).1;omega)
end
end Go.Proofs.YthdfojchihooeaaGreat
namespace Go.Proofs.YthdfojchihooeaaGreat
open Go T


theorem ziI {u v:Ver}:zbh u v=true↔u.tag.time<v.tag.time∨(u.tag.time=v.tag.time∧u.tag.place<v.tag.place):=by
 simp [zbh,zkF]
theorem ztW {u v:Ver}:zbh u v=false↔¬ (u.tag.time<v.tag.time∨(u.tag.time=v.tag.time∧u.tag.place<v.tag.place)):=by
 rw [← ziI,Bool.not_eq_true]
def zjq (v:Ver):List Ver→List Ver
 | [] => [v]
 | u :: r=>bif zbh u v then u :: zjq v r else v :: u :: r
theorem zkG {v:Ver}:∀ {l:List Ver},(zjq v l).length=l.length+1
 | []=>rfl
 | u :: r=>by
  simp only [zjq]
  cases zbh u v with
  | true=>simp [zkG (l:=r)]
  | false=>simp
theorem insF_mem {v x:Ver}:∀ {l:List Ver},x∈zjq v l↔x=v∨x∈l
 | []=>by simp [zjq]
 | u :: r=>by
  simp only [zjq]
  cases zbh u v with
  | true =>
   rw [cond_true,List.mem_cons,insF_mem (l:=r),List.mem_cons]
   constructor
   ·rintro (h | h | h)
    ·exact .inr (.inl h)
    ·exact .inl h
    ·exact .inr (.inr h)
   ·rintro (h | h | h)
    ·exact .inr (.inl h)
    ·exact .inl h
    ·exact .inr (.inr h)
  | false=>simp
section
variable {lo:Nat}{h:Heap}{F F' G:List Nat}{a a' av:Option (Nat×Nat)}{c c' cv:Option Nat}
def zxP (l:List Ver):List Ver:=l.foldl (fun acc v=>zjq v acc) []
end
end Go.Proofs.YthdfojchihooeaaGreat
namespace Go.Proofs.YthdfojchihooeaaGreat
open Go T


theorem ziC {α:Type}{El:Rel α}{h:Heap}{lo R e n bytes:Nat}{a:Option (Nat×Nat)}{c:Option Nat}{l ys:List α}{F:List Nat}{xs:List (List V)}{Gs:List (List Nat)} (hfr:El.Fr)
  (hs:Sli false R e El h [.sl R a n c] l F) (hx:EAll El h xs ys Gs) (hb:0<bytes) (hsz:(l.length+ys.length)*bytes≤140737488355328) (hlo:∀ b∈F,lo≤b) (hl:lo≤h.length)
  (hnd:(F++Gs.flatten).Nodup) (hF:∀ b∈F++Gs.flatten,b<h.length) :
  ∃ a' c' h' F',(∀ {R':Type} (K:V→Heap→Option R'),app lo e R bytes (.sl R a n c) xs h K=K (.sl R a' (l.length+ys.length) c') h')∧Sli false R e El h' [.sl R a' (l.length+ys.length) c'] (l++ys) F'∧h.length≤h'.length ∧
   (∀ b,b<h.length→b∉F→h'[b]?=h[b]?)∧(∀ b∈F',b∈F++Gs.flatten∨(h.length≤b∧b<h'.length))∧F'.Nodup:=by
 cases ys with
 | nil =>
  have hx0:xs = []:=List.eq_nil_of_length_eq_zero hx.len.1
  have hn:=hs.val
  subst hx0;subst hn
  rw [List.nodup_append] at hnd
  exact ⟨a,c,h,F,fun K=>rfl,by rw [List.append_nil];exact hs,Nat.le_refl _,fun _ _ _=>rfl,fun b hb => .inl (by simp [hb]),hnd.1⟩
 | cons y ys=>exact Sli.push hfr hs hx hb hsz hlo hl hnd hF (by simp)
theorem Sli.parts {α:Type}{El:Rel α}{R e:Nat}{h:Heap}{a:Option (Nat×Nat)}{c:Option Nat}{l:List α}{F:List Nat} (hs:Sli false R e El h [.sl R a l.length c] l F) (hnd:F.Nodup) :
  ∃ Fs:List (List Nat),Fs.flatten.Nodup∧(∀ y∈Fs.flatten,y∈F)∧(∀ b i,a=some (b,i)→b∈F∧b∉Fs.flatten)∧∀ k,k≤l.length→∃ rP rQ,EAll El h rP (l.take k) (Fs.take k)∧EAll El h rQ (l.drop k) (Fs.drop k) ∧
   (∀ {T:Type} (h':Heap),(∀ b i,a=some (b,i)→h'[b]?=h[b]?)→∀ K:List (List V)→Option T,(zaz a l.length c none (some (.int .i64 (k:Nat))) none fun a n c=>zaq R h' (.sl R a n c) K)=K rP) ∧
   (∀ {T:Type} (h':Heap),(∀ b i,a=some (b,i)→h'[b]?=h[b]?)→∀ K:List (List V)→Option T,(zaz a l.length c (some (.int .i64 (k:Nat))) none none fun a n c=>zaq R h' (.sl R a n c) K)=K rQ):=by
 obtain ⟨R1,a1,c1,e1,g⟩:=hs
 injection e1 with e1 _;injection e1 with e0 e2 _ e3
 subst e2;subst e3
 cases a with
 | none =>
  obtain ⟨rfl,rfl,rfl⟩:=g
  refine ⟨[],by simp,by simp,fun b i h=>by simp at h,fun k hk=>?_⟩
  have hk0:k=0:=by simpa using hk
  subst hk0
  refine ⟨[],[],trivial,trivial,fun h' _ K=>?_,fun h' _ K=>?_⟩
  ·unfold zaz zgK zmT zoI
   simp only [zaa,Option.isNone_none]
   rw [zd2 ⟨by simp,by simp⟩]
   simp [zaq]
  ·unfold zaz zgK zmT zoI
   simp only [zaa,Option.isNone_none]
   rw [zd2 ⟨by simp,by simp⟩]
   simp [zaq,ztl]
 | some p =>
  obtain ⟨b,i⟩:=p
  obtain ⟨_,rs,Fs,g1,g2,g3,_,g5,rfl⟩:=g
  rw [List.nodup_cons] at hnd
  have key:∀ {T:Type} (h':Heap),h'[b]?=h[b]?→∀ (K:List (List V)→Option T) (j m:Nat) (c8:Option Nat),j+m≤rs.length→zaq R h' (.sl R (some (b,j)) m c8) K=K ((rs.drop j).take m):=fun h' hb' K j m c8 hj=>by
   simp only [zaq,ziX,zgt]
   cases m with
   | zero=>simp
   | succ m =>
    simp only
    rw [show zeS h' b j (m+1)=some ((rs.drop j).take (m+1)) by
     simp only [zeS,Heap.rows?,hb',g1,Option.bind_some]
     rw [zfS hj]]
    rfl
  refine ⟨Fs,hnd.2,fun y hy=>List.mem_cons_of_mem _ hy,fun b' i' e=>by injection e with e;injection e with e1 e2;subst e1;exact ⟨by simp,hnd.1⟩,fun k hk=>?_⟩
  have hrP:((rs.drop i).take l.length).take k=(rs.drop i).take k:=by rw [List.take_take,Nat.min_eq_left hk]
  have hrQ:((rs.drop i).take l.length).drop k=(rs.drop (i+k)).take (l.length - k):=by rw [List.drop_take,List.drop_drop]
  refine ⟨(rs.drop i).take k,(rs.drop (i+k)).take (l.length - k),by rw [← hrP];exact g5.take k,by rw [← hrQ];exact g5.drop k,fun h' hh K=>?_,fun h' hh K=>?_⟩
  ·unfold zaz zgK zmT zoI
   simp only [zaa,Option.isNone_none,Int.toNat_natCast]
   have:=key h' (hh b i rfl) K i k c (by omega)
   cases c with
   | none=>simp only;rw [zd2 ⟨by omega,by omega⟩];exact this
   | some N=>simp only;rw [zd2 ⟨by omega,by have:=(g3 N rfl).1;omega⟩];exact this
  ·unfold zaz zgK zmT zoI
   simp only [zaa,Option.isNone_none,Int.toNat_natCast]
   rw [zd2 ⟨by omega,by omega⟩]
   cases c with
   | none=>exact key h' (hh b i rfl) K (i+k) (l.length - k) none (by omega)
   | some N =>
    have hN:=(g3 N rfl).1
    unfold ztl
    simp only
    cases hb:Nat.beq N k with
    | false=>rw [za5];exact key h' (hh b i rfl) K (i+k) (l.length - k) _ (by omega)
    | true =>
     have:=Nat.eq_of_beq_eq_true hb
     rw [zaN,show l.length - k=0 by omega]
     simp [zaq,zc7]
def zgR (out:List Ver) (x:Ver×Ver):List Ver:=bif zbh x.2 x.1 then zjq x.1 out else out
def zfv (s t:List Ver):List Ver:=(s.zip t).foldl zgR []
theorem zqP {v:Ver}:∀ {l:List Ver}{k:Nat},k≤l.length→(∀ i (hi:i<l.length),i<k→zbh l[i] v=true)→(∀ hk:k<l.length,zbh l[k] v=false)→zjq v l=l.take k++v :: l.drop k
 | [],k,hk,_,_=>by simp [zjq]
 | u :: r,0,hk,_,h2=>by
  have:=h2 (by simp)
  simp only [List.getElem_cons_zero] at this
  simp [zjq,this]
 | u :: r,k+1,hk,h1,h2=>by
  have h0:=h1 0 (by simp) (by omega)
  simp only [List.getElem_cons_zero] at h0
  simp only [zjq,h0,cond_true,List.take_succ_cons,List.drop_succ_cons,List.cons_append]
  rw [zqP (l:=r) (k:=k) (by simpa using hk) (fun i hi hik=>by have:=h1 (i+1) (by simpa using hi) (by omega);simpa using this) (fun hkr=>by have:=h2 (by simpa using hkr);simpa using this)]
section
variable {lo:Nat}{h:Heap}{F F' G:List Nat}{a a' av:Option (Nat×Nat)}{c c' cv:Option Nat}
theorem zhL {α:Type}{El:Rel α} (ok:El.Ok) {R e bytes:Nat}{rows:List (List V)}{l:List α}{Fs:List (List Nat)} (hx:EAll El h rows l Fs) (hnd:Fs.flatten.Nodup) (hF:∀ y∈Fs.flatten,y<h.length) (hb:0<bytes) (hsz:l.length*bytes≤140737488355328) (hl:lo≤h.length) :
  ∃ a' c' h' F',(∀ {T:Type} (K:V→Heap→Option T),app lo e R bytes (.sl R (some (h.length,0)) 0 (some 0)) rows (h ++ [.rows R e false []]) K=K (.sl R a' l.length c') h')∧Sli false R e El h' [.sl R a' l.length c'] l F'∧h.length<h'.length∧(∀ y,y<h.length→h'[y]?=h[y]?) ∧
   (∀ y∈F',y∈Fs.flatten∨(h.length≤y∧y<h'.length))∧F'.Nodup:=by
 have m0:Mv h [] (h ++ [.rows R e false []]) [h.length]:=Mv.last
 have hfresh:Sli false R e El (h ++ [.rows R e false []]) [.sl R (some (h.length,0)) 0 (some 0)] [] [h.length]:=Sli.fresh (Nat.le_refl _)
 obtain ⟨a',c',h',F',p1,p2,p3,p4,p5,p6⟩:=ziC (lo:=lo) (bytes:=bytes) ok.fr hfresh (xs:=rows) (ys:=l) (Gs:=Fs) (hx.fr ok.fr fun y hy=>m0.fr y (hF y hy) (by simp)) hb (by simpa using hsz) (by simp;omega) (by simp;omega)
  (by rw [List.cons_append,List.nil_append,List.nodup_cons];exact ⟨fun hm=>by have:=hF _ hm;omega,hnd⟩) (fun y hy=>by
   rw [List.cons_append,List.nil_append,List.mem_cons] at hy
   rcases hy with rfl | hy
   ·simp
   ·have:=hF y hy;simp;omega)
 simp only [List.length_nil,Nat.zero_add,List.nil_append] at p1 p2
 refine ⟨a',c',h',F',p1,p2,by simp at p3;omega,fun y hy=>?_,fun y hy=>?_,p6⟩
 ·rw [p4 y (by simp;omega) (by simp;omega)];exact m0.fr y hy (by simp)
 ·simp at p3
  rcases p5 y hy with g | g
  ·rw [List.cons_append,List.nil_append,List.mem_cons] at g
   rcases g with rfl | g
   ·exact .inr (by omega)
   ·exact .inl g
  ·simp at g;exact .inr (by omega)
theorem zdv {Fs:List (List Nat)}{k:Nat} (hnd:Fs.flatten.Nodup):(Fs.take k).flatten.Nodup∧(Fs.drop k).flatten.Nodup∧∀ x∈(Fs.take k).flatten,∀ y∈(Fs.drop k).flatten,x≠y:=by
 rw [← List.take_append_drop k Fs,List.flatten_append,List.nodup_append] at hnd
 exact hnd
theorem zqv {s t:List Ver}{a1 a2:Option (Nat×Nat)}{c1 c2:Option Nat}{F1 F2:List Nat} (hs:RVers false h [.sl 6 a1 s.length c1] s F1) (ht:RVers false h [.sl 6 a2 t.length c2] t F2) (h4:s.length=4) (h4':t.length=4) (hpn:∀ v∈s,v.past.length≤1048576) (hl:lo≤h.length) :
  ∃ a' c' h' F',evl lo 232 [.agg [.sl 6 a1 s.length c1],.agg [.sl 6 a2 t.length c2]] h=some (.sl 6 a' (zfv s t).length c',h')∧RVers false h' [.sl 6 a' (zfv s t).length c'] (zfv s t) F'∧Mv h [] h' F':=by
 suffices hq:∃ a' c' h' F',_=some (V.sl 6 a' (zfv s t).length c',h')∧RVers false h' [.sl 6 a' (zfv s t).length c'] (zfv s t) F'∧Mv h [] h' F' from by
  obtain ⟨a',c',h',F',e,hr⟩:=hq
  exact ⟨a',c',h',F',zon e,hr⟩
 have hzl:(s.zip t).length=4:=by rw [List.length_zip];omega
 have one:∀ m i,m+i=4→∀ hh ax cx (out:List Ver) Fx,RVers false hh [.sl 6 ax out.length cx] out Fx→Mv h [] hh Fx→out.length≤i→∃ a' c' h' F',
   zbf lo ax out.length cx (i:Nat) a1 s.length c1 a2 t.length c2 hh=some (.sl 6 a' (((s.zip t).drop i).foldl zgR out).length c',h')∧RVers false h' [.sl 6 a' (((s.zip t).drop i).foldl zgR out).length c'] (((s.zip t).drop i).foldl zgR out) F'∧Mv h [] h' F':=by
  intro m
  induction m with
  | zero =>
   intro i hi hh ax cx out Fx hr hm hlen
   rw [zbf.e,zaj (by omega),List.drop_eq_nil_of_le (by omega)]
   exact ⟨ax,cx,hh,Fx,rfl,hr,hm⟩
  | succ m ih =>
   intro i hi hh ax cx out Fx hr hm hlen
   have his:i<s.length:=by omega
   have hit:i<t.length:=by omega
   have hs':=hm.keep0 rvers_ok hs
   have ht':=hm.keep0 rvers_ok ht
   obtain ⟨o1,s1,b1,d1,H1,ha1,_,_,_,_,_,_,hl1,hl1',es1,hp1,_⟩:=RVers.all hs' his
   obtain ⟨o2,s2,b2,d2,H2,ha2,_,_,_,_,_,_,hl2,_,_,_,_⟩:=RVers.all ht' hit
   have hzi:i<(s.zip t).length:=by omega
   rw [List.drop_eq_getElem_cons hzi,List.foldl_cons,List.getElem_zip]
   have hlf:zgR out (s[i],t[i])=bif zbh t[i] s[i] then zjq s[i] out else out:=rfl
   rw [hlf,zbf.e,zal (by omega),zab hit,ha2,zam,Int.toNat_natCast,hl2,zam,zad,zaa,zad,zaa,zao,zab his,ha1,zam,hl1,zam,zad,zaa,zad,zaa,zao,zbk,zac,zbi,← ha1,← ha2]
   show ∃ a' c' h' F',br (zbh t[i] s[i]) _ _=_∧_
   cases hless:zbh t[i] s[i] with
   | false =>
    rw [za5,cond_false,zap (by omega)]
    exact ih (i+1) (by omega) hh ax cx out Fx hr hm (by omega)
   | true =>
   rw [zaN,cond_true]
   have put:∀ k,k≤out.length→zjq s[i] out=out.take k++s[i] :: out.drop k→∃ a' c' h' F',(zaz ax out.length cx none (some (.int .i64 (k:Nat))) none fun a_36 n_37 c_38=>zaq 6 (hh ++ [.rows 6 65 false []]) (.sl 6 a_36 n_37 c_38) fun x_39=>app lo 65 6 72 (.sl 6 (some ((List.length hh),0)) 0 (some 0)) x_39 (hh ++ [.rows 6 65 false []]) fun v_40 h_41=>eS 6 (v_40) fun a_42 n_43 c_44=>inB ((i:Nat):Int) s.length (eO a1 fun o_45=>eO (ld h_41 (o_45.1) ((o_45.2)+(((i:Nat):Int).toNat)) 0 6) fun o_46=>eC o_46 fun v_47 l_48=>eI .i64 v_47 fun n_49=>eC l_48 fun v_50 l_51=>eI .i64 v_50 fun n_52=>eC l_51 fun v_53 l_54=>eI .i64 v_53 fun n_55=>eC l_54 fun v_56 l_57=>eS 2 (v_56) fun a_58 n_59 c_60=>eC l_57 fun v_61 l_62=>eT v_61 fun s_63=>eC l_62 fun v_64 l_65=>eBv v_64 fun b_66=>eN l_65 (cal (evl lo 181 [.agg [.int .i64 (n_49),.int .i64 (n_52),.int .i64 (n_55),.sl 2 a_58 n_59 c_60,.str (s_63),.bool (b_66)]] h_41) fun v_67 h_68=>eA v_67 fun c_69=>eC c_69 fun v_70 l_71=>eI .i64 v_70 fun n_72=>eC l_71 fun v_73 l_74=>eI .i64 v_73 fun n_75=>eC l_74 fun v_76 l_77=>eI .i64 v_76 fun n_78=>eC l_77 fun v_79 l_80=>eS 2 (v_79) fun a_81 n_82 c_83=>eC l_80 fun v_84 l_85=>eT v_84 fun s_86=>eC l_85 fun v_87 l_88=>eBv v_87 fun b_89=>eN l_88 (zaq 6 (h_68 ++ [.rows 6 65 false [[.int .i64 (n_72),.int .i64 (n_75),.int .i64 (n_78),.sl 2 a_81 n_82 c_83,.str (s_86),.bool (b_89)]]]) (.sl 6 (some ((List.length h_68),0)) 1 (some 1)) fun x_90=>app lo 65 6 72 (.sl 6 a_42 n_43 c_44) x_90 (h_68 ++ [.rows 6 65 false [[.int .i64 (n_72),.int .i64 (n_75),.int .i64 (n_78),.sl 2 a_81 n_82 c_83,.str (s_86),.bool (b_89)]]]) fun v_91 h_92=>eS 6 (v_91) fun a_93 n_94 c_95=>zaz ax out.length cx (some (.int .i64 (k:Nat))) none none fun a_96 n_97 c_98=>zaq 6 h_92 (.sl 6 a_96 n_97 c_98) fun x_99=>app lo 65 6 72 (.sl 6 a_93 n_94 c_95) x_99 h_92 fun v_100 h_101=>eS 6 (v_100) fun a_102 n_103 c_104=>zbf lo a_102 n_103 c_104 (IntKind.wrap .i64 (((i:Nat):Int)+1)) a1 s.length c1 a2 t.length c2 h_101))))=some (V.sl 6 a' (((s.zip t).drop (i+1)).foldl zgR (zjq s[i] out)).length c',h') ∧
     RVers false h' [.sl 6 a' (((s.zip t).drop (i+1)).foldl zgR (zjq s[i] out)).length c'] (((s.zip t).drop (i+1)).foldl zgR (zjq s[i] out)) F'∧Mv h [] h' F':=by
    intro k hk hins
    have hbx:=rvers_ok.bd _ _ _ _ hr
    obtain ⟨Fs,nF,sF,own,cuts⟩:=hr.parts hm.nd
    obtain ⟨rP,rQ,eP,eQ,kP,kQ⟩:=cuts k hk
    obtain ⟨nP,nQ,dPQ⟩:=zdv (k:=k) nF
    have inP:∀ y∈(Fs.take k).flatten,y∈Fs.flatten:=fun y hy=>by rw [← List.take_append_drop k Fs,List.flatten_append];simp [hy]
    have inQ:∀ y∈(Fs.drop k).flatten,y∈Fs.flatten:=fun y hy=>by rw [← List.take_append_drop k Fs,List.flatten_append];simp [hy]
    have hFl:∀ y∈Fs.flatten,y<hh.length:=fun y hy=>hbx y (sF y hy)
    have hlh:lo≤hh.length:=Nat.le_trans hl hm.le
    have htl:(out.take k).length=k:=by rw [List.length_take];omega
    have hdl:(out.drop k).length=out.length - k:=by rw [List.length_drop]
    obtain ⟨a3,c3,h3,F3,e3,r3,l3,fr3,sub3,nd3⟩:=zhL (lo:=lo) (R:=6) (e:=zv7 false) (bytes:=72) rver_ok eP nP (fun y hy=>hFl y (inP y hy)) (by decide) (by omega) hlh
    have m3:Mv hh [] h3 []:=⟨by omega,fun y hy _=>fr3 y hy,by simp,by simp⟩
    have hs3:=m3.keep0 rvers_ok hs'
    obtain ⟨o4,s4,b4,d4,H4,ha4,ho4,es4,hp4,_⟩:=hs3.get his
    obtain ⟨a5,c5,h5,F5,e5,r5,m5⟩:=zcb (lo:=lo) (v:=s[i]) hp4 (by omega) (hpn _ (List.getElem_mem his))
    obtain ⟨a6,c6,h6,F6,e6,r6,m6⟩:=zeN (lo:=lo) (bytes:=72) (e:=65) rver_ok r3 (row:=s[i].cs a5 c5) (x:=s[i]) (G:=F5) (h1:=h5 ++ [.rows 6 65 false [s[i].cs a5 c5]])
     ⟨_,rfl,Mv.snoc.keep0 rtags_ok r5⟩ (m5.trans (Mv.snoc' m5.nd)) nd3 (fun y hy=>by
      rcases sub3 y hy with g | g
      ·exact hm.ge hl (by simp) y (sF y (inP y g))
      ·omega) (by omega) (by decide) (by omega)
    have hQ3:∀ y∈(Fs.drop k).flatten,y∉F3∧y<h3.length:=fun y hy=>by
     have:=hFl y (inQ y hy)
     refine ⟨fun hm3=>?_,by omega⟩
     rcases sub3 y hm3 with g | g
     ·exact dPQ y g y hy rfl
     ·omega
    have hQ6:∀ y∈(Fs.drop k).flatten,h6[y]?=hh[y]?:=fun y hy=>by
     rw [m6.fr y (hQ3 y hy).2 (hQ3 y hy).1];exact fr3 y (hFl y (inQ y hy))
    have l6:=m6.le
    have F6b:∀ y∈F6,y<h6.length:=rvers_ok.bd _ _ _ _ r6
    obtain ⟨a7,c7,h7,F7,e7,r7,l7,fr7,sub7,nd7⟩:=ziC (lo:=lo) (bytes:=72) rver_ok.fr r6 (xs:=rQ) (ys:=out.drop k) (Gs:=Fs.drop k) (eQ.fr rver_ok.fr hQ6) (by decide) (by simp only [List.length_append,htl,hdl,List.length_singleton];omega) (fun y hy=>m6.ge (by omega) (fun y hy=>by
      rcases sub3 y hy with g | g
      ·exact hm.ge hl (by simp) y (sF y (inP y g))
      ·omega) y hy) (by omega) (by
      rw [List.nodup_append]
      refine ⟨m6.nd,nQ,fun x hx y hy e=>?_⟩
      subst e
      rcases m6.sub x hx with g | g
      ·exact (hQ3 x hy).1 g
      ·have:=(hQ3 x hy).2;omega) (fun y hy=>by
      rcases List.mem_append.1 hy with hy | hy
      ·exact F6b y hy
      ·have:=(hQ3 y hy).2;omega)
    have hfin:out.take k ++ [s[i]]++out.drop k=zjq s[i] out:=by rw [hins,List.append_assoc];rfl
    have hflen:(out.take k).length+1+(out.drop k).length=(zjq s[i] out).length:=by rw [zkG,htl,hdl];omega
    rw [List.length_append,List.length_singleton,hflen] at e7 r7
    rw [hfin] at r7
    have m7:Mv h [] h7 F7:=by
     refine ⟨by have:=hm.le;omega,fun y hy _=>?_,nd7,fun y hy=>?_⟩
     ·have y1:y<hh.length:=Nat.lt_of_lt_of_le hy hm.le
      have yF:y∉Fx:=fun hmx=>by have:=hm.new y hmx;omega
      have y3:y∉F3:=fun hm3=>by
       rcases sub3 y hm3 with g | g
       ·exact yF (sF y (inP y g))
       ·omega
      have y6:y∉F6:=fun hm6=>by
       rcases m6.sub y hm6 with g | g
       ·exact y3 g
       ·omega
      rw [fr7 y (by omega) y6,m6.fr y (by omega) y3,fr3 y y1,hm.fr y hy (by simp)]
     ·refine .inr ?_
      have hh':=hm.le
      rcases sub7 y hy with g | g
      ·rcases List.mem_append.1 g with g | g
       ·rcases m6.sub y g with g | g
        ·rcases sub3 y g with g | g
         ·have:=hm.new y (sF y (inP y g));have:=hFl y (inP y g);omega
         ·omega
        ·omega
       ·have:=hm.new y (sF y (inQ y g));have:=hFl y (inQ y g);omega
      ·omega
    obtain ⟨a8,c8,h8,F8,e8,r8,m8⟩:=ih (i+1) (by omega) h7 a7 c7 (zjq s[i] out) F7 r7 m7 (by rw [zkG];omega)
    refine ⟨a8,c8,h8,F8,?_,r8,m8⟩
    have mm0:Mv hh [] (hh ++ [.rows 6 65 false []]) []:=Mv.snoc
    have h6x:∀ b i,ax=some (b,i)→h6[b]?=hh[b]?:=fun b i e=>by
     obtain ⟨q1,q2⟩:=own b i e
     have:=hbx b q1
     rw [m6.fr b (by omega) fun hm3=>?_,fr3 b this]
     rcases sub3 b hm3 with g | g
     ·exact q2 (inP b g)
     ·omega
    simp only [Ver.cs] at e6
    rw [show zv7 false=65 from rfl] at e3
    rw [kP _ (fun b i e=>mm0.fr b (hbx b (own b i e).1) (by simp)),e3,zah,zab his,ha4,zam,Int.toNat_natCast,ho4,zam,zad,zaa,zad,zaa,zad,zaa,zad,es4,zad,zdl,zad,zaS,zao]
    rw [show (V.agg [.int .i64 s[i].key,.int .i64 s[i].tag.time,.int .i64 s[i].tag.place,.sl 2 b4 s[i].past.length d4,.str s[i].text,.bool s[i].gone]) = .agg (s[i].cs b4 d4) from rfl,e5,zac,zbx,zad,zaa,zad,zaa,zad,zaa,zad,zah,zad,zdl,zad,zaS,zao,zaT,e6,zah,kQ _ h6x,e7,zah,zap (by omega),← ha4]
    exact e8
   have two:∀ m k,m+k=out.length→(∀ j (hj:j<out.length),j<k→zbh out[j] s[i]=true)→∃ a' c' h' F',zck lo ax out.length cx (i:Nat) (k:Nat) a1 s.length c1 a2 t.length c2 hh=some (V.sl 6 a' (((s.zip t).drop (i+1)).foldl zgR (zjq s[i] out)).length c',h') ∧
     RVers false h' [.sl 6 a' (((s.zip t).drop (i+1)).foldl zgR (zjq s[i] out)).length c'] (((s.zip t).drop (i+1)).foldl zgR (zjq s[i] out)) F'∧Mv h [] h' F':=by
    intro m
    induction m with
    | zero =>
     intro k hk hall
     rw [zck.e,zaj (by omega)]
     exact put k (by omega) (zqP (by omega) hall (fun h=>by omega))
    | succ m ih2 =>
     intro k hk hall
     have hkl:k<out.length:=by omega
     obtain ⟨o3,s3,b3,d3,H3,ha3,_,_,_,_,_,_,hl3,_,_,_,_⟩:=RVers.all hr hkl
     rw [zck.e,zal (by omega),zab hkl,ha3,zam,Int.toNat_natCast,hl3,zam,zad,zaa,zad,zaa,zao,zab his,ha1,zam,Int.toNat_natCast,hl1,zam,zad,zaa,zad,zaa,zao,zbk,zac,zbi,← ha1,← ha3]
     show ∃ a' c' h' F',br (zbh out[k] s[i]) _ _=_∧_
     cases hlk:zbh out[k] s[i] with
     | true =>
      rw [zaN,zap (by omega)]
      exact ih2 (k+1) (by omega) (fun j hj hjk=>by
       by_cases e:j=k
       ·subst e;exact hlk
       ·exact hall j hj (by omega))
     | false =>
      rw [za5]
      exact put k (by omega) (zqP (by omega) hall (fun _=>hlk))
   exact two out.length 0 (by omega) (fun j _ hj=>by omega)
 have m0:Mv h [] (h ++ [.rows 6 65 false []]) [h.length]:=Mv.last
 obtain ⟨a',c',h',F',e,r,m⟩:=one 4 0 (by omega) (h ++ [.rows 6 65 false []]) (some (h.length,0)) (some 0) [] [h.length] (Sli.fresh (Nat.le_refl _)) m0 (by simp)
 rw [List.drop_zero] at e r
 exact ⟨a',c',h',F',e,r,m⟩
end
end Go.Proofs.YthdfojchihooeaaGreat
namespace Go.Proofs.YthdfojchihooeaaGreat
open Go T


def zeo (l:List Node) (k:Nat) (w:List Ver):List Node:=match l[k]? with
 | some x=>l.set k ⟨x.store,w⟩
 | none=>l
def zft (l:List Node) (k:Nat):List Ver:=match l[k]? with
 | some x=>x.store
 | none => []
def zde (l:List Node) (k:Nat):List Node :=
 bif decide (0<k) then (bif decide (k<(l.eraseIdx k).length) then zeo (l.eraseIdx k) (k - 1) (zfv (zft (l.eraseIdx k) (k - 1)) (zft (l.eraseIdx k) k)) else zeo (l.eraseIdx k) (k - 1) []) else l.eraseIdx k
theorem zgk {l:List Node}{k:Nat}{w:List Ver} (hk:k<l.length):zeo l k w=l.set k ⟨l[k].store,w⟩:=by unfold zeo;rw [List.getElem?_eq_getElem hk]
theorem zdS {l:List Node}{k:Nat} (hk:k<l.length):zft l k=l[k].store:=by unfold zft;rw [List.getElem?_eq_getElem hk]
theorem zdR {l:List Node}{k:Nat}{w:List Ver}:(zeo l k w).length=l.length:=by unfold zeo;split<;>simp
theorem zkQ {l:List Node}{k:Nat} (hk:k<l.length) (hw:l[k].wait = []):zeo l k []=l:=by
 rw [zgk hk]
 have:(⟨l[k].store,[]⟩:Node)=l[k]:=by
  cases hx:l[k] with
  | mk s w=>rw [hx] at hw;simp only at hw;rw [hw]
 rw [this];exact List.set_getElem_self hk
section
variable {lo:Nat}{h:Heap}{F F' G:List Nat}{a a' av:Option (Nat×Nat)}{c c' cv:Option Nat}
theorem zrq {l:List Node}{n k:Nat}{ws:List Ver}{w:V}{h1:Heap}{Fw:List Nat} (hs:RNodes false h [.sl 2 a n c] l F) (hk:k<l.length) (hnd:F.Nodup) (hlo:∀ b∈F,lo≤b) (hw:RVers false h1 [w] ws Fw) (m:Mv h [] h1 Fw) :
  ∃ b i h2 F',a=some (b,i)∧b∈F∧st lo h1 b (i+k) 1 [w]=some h2∧RNodes false h2 [.sl 2 a n c] (zeo l k ws) F'∧Mv h F h2 F'∧(∀ y,y≠b→h2[y]?=h1[y]?):=by
 obtain ⟨b,i,rs,row,G0,ha,hbF,hbG,hb,hrow,hel,hGF,hGn,put⟩:=hs.at2 rnode_ok hk hnd hlo
 obtain ⟨t1,t2,F1,F2,rfl,rfl,r1,r2⟩:=hel
 rw [List.nodup_append] at hGn
 have b1:∀ y∈F1,y<h.length:=rvers_ok.bd _ _ _ _ r1
 have m1:Mv h (F1++F2) h1 (F1++Fw):=by
  refine ⟨m.le,fun y hy _=>m.fr y hy (by simp),?_,fun y hy=>?_⟩
  ·rw [List.nodup_append]
   refine ⟨hGn.1,m.nd,fun x hx y hy e=>?_⟩
   subst e
   have:=b1 x hx
   have:=m.new x hy
   omega
  ·rcases List.mem_append.1 hy with hy | hy
   ·exact .inl (by simp [hy])
   ·exact (m.sub y hy).imp (fun g=>by simp at g) id
 obtain ⟨h2,F',e2,r,m2,fr,_⟩:=put h1 (F1++Fw) 1 [w] [t1,w] ⟨l[k].store,ws⟩ m1 rfl ⟨_,_,F1,Fw,rfl,rfl,m.keep0 rvers_ok r1,hw⟩
 rw [← zgk hk] at r
 exact ⟨b,i,h2,F',ha,hbF,e2,r,m2,fr⟩
theorem zuo {l:List Node}{k:Nat} (hs:RNodes false h [.sl 2 a l.length c] l F) (hk:k<l.length) (hnd:F.Nodup) (hlo:∀ b∈F,lo≤b) (hl:lo≤h.length) (hn:l.length≤1048576) :
  ∃ a' c' h' F',(∀ {T:Type} (K:V→Heap→Option T),(zaz a l.length c none (some (.int .i64 (k:Nat))) none fun a_0 n_1 c_2=>zaq 2 (h ++ [.rows 2 76 false []]) (.sl 2 a_0 n_1 c_2) fun x_3=>app lo 76 2 48 (.sl 2 (some ((List.length h),0)) 0 (some 0)) x_3 (h ++ [.rows 2 76 false []]) fun v_4 h_5=>eS 2 (v_4) fun a_6 n_7 c_8 =>
    zaz a l.length c (some (.int .i64 ((k+1:Nat):Int))) none none fun a_9 n_10 c_11=>zaq 2 h_5 (.sl 2 a_9 n_10 c_11) fun x_12=>app lo 76 2 48 (.sl 2 a_6 n_7 c_8) x_12 h_5 K)=K (.sl 2 a' (l.eraseIdx k).length c') h') ∧
   RNodes false h' [.sl 2 a' (l.eraseIdx k).length c'] (l.eraseIdx k) F'∧Mv h F h' F':=by
 have hbd:=rnodes_ok.bd _ _ _ _ hs
 obtain ⟨Fs,nF,sF,own,cuts⟩:=Sli.parts hs hnd
 obtain ⟨rP,_,eP,_,kP,_⟩:=cuts k (by omega)
 obtain ⟨_,rQ,_,eQ,_,kQ⟩:=cuts (k+1) (by omega)
 obtain ⟨nP,_,dPQ⟩:=zdv (k:=k) nF
 obtain ⟨_,nQ,_⟩:=zdv (k:=k+1) nF
 have inP:∀ y∈(Fs.take k).flatten,y∈Fs.flatten:=fun y hy=>by rw [← List.take_append_drop k Fs,List.flatten_append];simp [hy]
 have inQ:∀ y∈(Fs.drop (k+1)).flatten,y∈(Fs.drop k).flatten:=fun y hy=>by
  have:Fs.drop (k+1)=(Fs.drop k).drop 1:=by rw [List.drop_drop]
  rw [this] at hy
  rw [← List.take_append_drop 1 (Fs.drop k),List.flatten_append];exact List.mem_append.2 (.inr hy)
 have inQ':∀ y∈(Fs.drop (k+1)).flatten,y∈Fs.flatten:=fun y hy=>by rw [← List.take_append_drop k Fs,List.flatten_append];simp [inQ y hy]
 have hFl:∀ y∈Fs.flatten,y<h.length:=fun y hy=>hbd y (sF y hy)
 have htl:(l.take k).length=k:=by rw [List.length_take];omega
 have hdl:(l.drop (k+1)).length=l.length - (k+1):=by rw [List.length_drop]
 obtain ⟨a3,c3,h3,F3,e3,r3,l3,fr3,sub3,nd3⟩:=zhL (lo:=lo) (R:=2) (e:=zpJ false) (bytes:=48) rnode_ok eP nP (fun y hy=>hFl y (inP y hy)) (by decide) (by omega) hl
 have hQ3:∀ y∈(Fs.drop (k+1)).flatten,y∉F3∧y<h3.length:=fun y hy=>by
  have:=hFl y (inQ' y hy)
  refine ⟨fun hm3=>?_,by omega⟩
  rcases sub3 y hm3 with g | g
  ·exact dPQ y g y (inQ y hy) rfl
  ·omega
 have F3b:∀ y∈F3,y<h3.length:=rnodes_ok.bd _ _ _ _ r3
 obtain ⟨a7,c7,h7,F7,e7,r7,l7,fr7,sub7,nd7⟩:=ziC (lo:=lo) (bytes:=48) rnode_ok.fr r3 (xs:=rQ) (ys:=l.drop (k+1)) (Gs:=Fs.drop (k+1)) (eQ.fr rnode_ok.fr fun y hy=>fr3 y (hFl y (inQ' y hy))) (by decide) (by rw [htl,hdl];omega) (fun y hy=>by
   rcases sub3 y hy with g | g
   ·exact hlo y (sF y (inP y g))
   ·omega) (by omega) (by
   rw [List.nodup_append]
   refine ⟨nd3,nQ,fun x hx y hy e=>?_⟩
   subst e
   exact (hQ3 x hy).1 hx) (fun y hy=>by
   rcases List.mem_append.1 hy with hy | hy
   ·exact F3b y hy
   ·exact (hQ3 y hy).2)
 have hel:(l.take k).length+(l.drop (k+1)).length=(l.eraseIdx k).length:=by rw [List.length_eraseIdx_of_lt hk,htl,hdl];omega
 have her:l.take k++l.drop (k+1)=l.eraseIdx k:=(List.eraseIdx_eq_take_drop_succ l k).symm
 rw [hel] at e7 r7
 rw [her] at r7
 have mm0:Mv h [] (h ++ [.rows 2 76 false []]) []:=Mv.snoc
 rw [show zpJ false=76 from rfl] at e3 e7
 refine ⟨a7,c7,h7,F7,fun K=>?_,r7,⟨by omega,fun y hy hyF=>?_,nd7,fun y hy=>?_⟩⟩
 ·rw [kP _ (fun b i e=>mm0.fr b (hbd b (own b i e).1) (by simp)),e3,zah,kQ _ (fun b i e=>fr3 b (hbd b (own b i e).1)),e7]
 ·have y3:y∉F3:=fun hm3=>by
   rcases sub3 y hm3 with g | g
   ·exact hyF (sF y (inP y g))
   ·omega
  rw [fr7 y (by omega) y3,fr3 y hy]
 ·rcases sub7 y hy with g | g
  ·rcases List.mem_append.1 g with g | g
   ·rcases sub3 y g with g | g
    ·exact .inl (sF y (inP y g))
    ·exact .inr (by omega)
   ·exact .inl (sF y (inQ' y g))
  ·exact .inr (by omega)
theorem zk2 {l:List Node}{k:Nat} (hs:RNodes false h [.sl 2 a l.length c] l F) (hk:k<l.length) (h2:1<l.length) (hlast:(l[l.length - 1]'(by omega)).wait = []) (hnd:F.Nodup) (hlo:∀ b∈F,lo≤b) (hl:lo≤h.length) (hn:l.length≤1048576) (hx:∀ x∈l,zf9 20 x) :
  ∃ a' c' h' F',evl lo 117 [.agg [.sl 2 a l.length c],.int .i64 (k:Nat)] h=some (.agg [.sl 2 a' (zde l k).length c'],h')∧RNodes false h' [.sl 2 a' (zde l k).length c'] (zde l k) F'∧Mv h F h' F':=by
 suffices hq:∃ a' c' h' F',_=some (V.agg [.sl 2 a' (zde l k).length c'],h')∧RNodes false h' [.sl 2 a' (zde l k).length c'] (zde l k) F'∧Mv h F h' F' from by
  obtain ⟨a',c',h',F',e,hr⟩:=hq
  exact ⟨a',c',h',F',zop e,hr⟩
 have hel:=List.length_eraseIdx_of_lt hk
 obtain ⟨a1,c1,h1,F1,e1,r1,m1⟩:=zuo (lo:=lo) hs hk hnd hlo hl hn
 have hflen:(zde l k).length=l.length - 1:=by
  unfold zde
  cases decide (0<k)
  ·exact hel
  ·cases decide (k<(l.eraseIdx k).length)
   ·rw [cond_true,cond_false,zdR];exact hel
   ·rw [cond_true,cond_true,zdR];exact hel
 rw [zap (by omega),e1,zah]
 have hl1:lo≤h1.length:=Nat.le_trans hl m1.le
 have hlo1:∀ b∈F1,lo≤b:=fun b hb=>m1.ge hl hlo b hb
 have hn1:((l.eraseIdx k).length:Int) - 1=(((l.eraseIdx k).length - 1:Nat):Int):=by omega
 have tail:∀ (l':List Node) (hh:Heap) (F':List Nat),l'.length=(l.eraseIdx k).length→RNodes false hh [.sl 2 a1 (l.eraseIdx k).length c1] l' F'→F'.Nodup→(∀ b∈F',lo≤b)→∃ h' F'',(inB (IntKind.wrap .i64 ((((l.eraseIdx k).length:Nat):Int) - 1)) (l.eraseIdx k).length (eO a1 fun o_41=>eO (st lo hh (o_41.1) ((o_41.2)+((IntKind.i64.wrap ((((l.eraseIdx k).length:Nat):Int) - (1:Int))).toNat)) 1 [.sl 0 none 0 (some 0)]) fun o_42=>some (V.agg [.sl 2 a1 (l.eraseIdx k).length c1],o_42)))=some (.agg [.sl 2 a1 (l.eraseIdx k).length c1],h') ∧
   RNodes false h' [.sl 2 a1 (l.eraseIdx k).length c1] (zeo l' ((l.eraseIdx k).length - 1) []) F''∧Mv hh F' h' F'':=by
  intro l' hh F' hll hr hnd' hlo'
  obtain ⟨b,i,h3,F3,ha,_,e3,r3,m3,_⟩:=zrq (lo:=lo) (k:=(l.eraseIdx k).length - 1) (w := .sl 0 none 0 (some 0)) (ws := []) hr (by omega) hnd' hlo' Sli.nil Mv.nil
  rw [wr (n:=(((l.eraseIdx k).length:Nat):Int) - 1) (by omega) (by omega),hn1,zab (by omega),ha,zam,Int.toNat_natCast,e3,zam,← ha]
  exact ⟨h3,F3,rfl,r3,m3⟩
 have hlast':∀ hj:(l.eraseIdx k).length - 1<(l.eraseIdx k).length,k<(l.eraseIdx k).length→((l.eraseIdx k)[(l.eraseIdx k).length - 1]).wait = []:=fun hj hkl=>by
  have:(l.eraseIdx k)[(l.eraseIdx k).length - 1]=l[l.length - 1]:=by
   rw [List.getElem_eraseIdx]
   rw [dif_neg (by omega)]
   congr 1;omega
  rw [this];exact hlast
 by_cases h0:0<k
 ·rw [zal (by omega)]
  by_cases hkl:k<(l.eraseIdx k).length
  ·-- in between
   have hf:zde l k=zeo (l.eraseIdx k) (k - 1) (zfv (zft (l.eraseIdx k) (k - 1)) (zft (l.eraseIdx k) k)):=by
    unfold zde;rw [decide_eq_true h0,cond_true,decide_eq_true hkl,cond_true]
   have hk1:k - 1<(l.eraseIdx k).length:=by omega
   have hxm:∀ x∈l.eraseIdx k,zf9 20 x:=fun x hx'=>hx x (List.mem_of_mem_eraseIdx hx')
   obtain ⟨o,s1,s2,b1,d1,b2,d2,H1,H2,ha,_,ho1,_,q1,_,p1,_⟩:=r1.get hk1
   obtain ⟨o',s1',s2',b1',d1',b2',d2',H1',H2',ha',_,ho1',_,q1',_,p1',_⟩:=r1.get hkl
   have ho:o=o':=by rw [ha] at ha';injection ha'
   subst ho
   have n1:=hxm _ (List.getElem_mem hk1)
   have n2:=hxm _ (List.getElem_mem hkl)
   obtain ⟨a4,c4,h4,F4,e4,r4,m4⟩:=zqv (lo:=lo) p1 p1' n1.1 n2.1 (fun v hv=>by have:=(n1.2.2.1 v hv).1;omega) hl1
   obtain ⟨b,i,h5,F5,hb,_,e5,r5,m5,_⟩:=zrq (lo:=lo) (k:=k - 1) (w := .sl 6 a4 (zfv (l.eraseIdx k)[k - 1].store (l.eraseIdx k)[k].store).length c4) r1 hk1 m1.nd hlo1 r4 m4
   obtain ⟨h6,F6,e6,r6,m6⟩:=tail _ h5 F5 zdR r5 m5.nd (fun b hb=>m5.ge hl1 hlo1 b hb)
   have hkk:((k:Nat):Int) - 1=((k - 1:Nat):Int):=by omega
   have hoe:o=(b,i):=by rw [ha] at hb;injection hb
   subst hoe
   rw [zal (by omega),wr (n:=((k:Nat):Int) - 1) (by omega) (by omega),hkk,zab hk1,ha,zam,Int.toNat_natCast,ho1,zam,zad,q1,zao,zab hkl,zam,Int.toNat_natCast,ho1',zam,zad,q1',zao,e4,zac,zah,zab hk1,zam,e5,zam,← ha,e6]
   have hsame:zeo (zeo (l.eraseIdx k) (k - 1) (zfv (l.eraseIdx k)[k - 1].store (l.eraseIdx k)[k].store)) ((l.eraseIdx k).length - 1) []=zde l k:=by
    rw [hf,zdS hk1,zdS hkl]
    have hj:(l.eraseIdx k).length - 1<(zeo (l.eraseIdx k) (k - 1) (zfv (l.eraseIdx k)[k - 1].store (l.eraseIdx k)[k].store)).length:=by rw [zdR];omega
    refine zkQ hj ?_
    have hg:=zgk (w:=zfv (l.eraseIdx k)[k - 1].store (l.eraseIdx k)[k].store) hk1
    rw [List.getElem_of_eq hg,List.getElem_set_ne (by omega)]
    exact hlast' (by omega) hkl
   rw [hsame] at r6
   refine ⟨a1,c1,h6,F6,by rw [hflen,hel],by rw [hflen,← hel];exact r6,(m1.trans m5).trans m6⟩
  ·-- the tail fell
   have hf:zde l k=zeo (l.eraseIdx k) (k - 1) []:=by
    unfold zde;rw [decide_eq_true h0,cond_true,decide_eq_false hkl,cond_false]
   have hkk:(l.eraseIdx k).length - 1=k - 1:=by omega
   obtain ⟨h6,F6,e6,r6,m6⟩:=tail _ h1 F1 rfl r1 m1.nd hlo1
   rw [zaj (by omega),e6]
   rw [hkk,← hf] at r6
   exact ⟨a1,c1,h6,F6,by rw [hflen,hel],by rw [hflen,← hel];exact r6,m1.trans m6⟩
 ·have hf:zde l k=l.eraseIdx k:=by unfold zde;rw [decide_eq_false h0,cond_false]
  obtain ⟨h6,F6,e6,r6,m6⟩:=tail _ h1 F1 rfl r1 m1.nd hlo1
  rw [zaj (by omega),e6]
  rw [zkQ (by omega) (hlast' (by omega) (by omega)),← hf] at r6
  exact ⟨a1,c1,h6,F6,by rw [hflen,hel],r6,m1.trans m6⟩
end
end Go.Proofs.YthdfojchihooeaaGreat
namespace Go.Proofs.YthdfojchihooeaaGreat
open Go T


set_option maxRecDepth 100000
def zgf (x:Ver×Ver):Option Ver:=bif zbh x.2 x.1 then some x.1 else none
theorem lack_sort:∀ {z:List (Ver×Ver)}{acc:List Ver},z.foldl zgR acc=(z.filterMap zgf).foldl (fun acc v=>zjq v acc) acc
 | [],acc=>rfl
 | x :: z,acc=>by
  rw [List.foldl_cons,lack_sort (z:=z)]
  unfold zgR
  cases hx:zbh x.2 x.1 with
  | true =>
   have:zgf x=some x.1:=by unfold zgf;rw [hx];rfl
   rw [List.filterMap_cons,this];rfl
  | false =>
   have:zgf x=none:=by unfold zgf;rw [hx];rfl
   rw [List.filterMap_cons,this];rfl
def zqM (s t:List Ver):List Ver:=(s.zip t).filterMap zgf
theorem zsv {s t:List Ver}:zxP (zqM s t)=zfv s t:=lack_sort.symm
theorem ziw {u v:Ver} (hu:zbj u.tag.time u.tag.place=true) (hv:v.tag.time=0∧v.tag.place=0):zbh u v=false:=by
 rw [ztW]
 simp [zbj,zak] at hu
 omega
theorem zrW {i:Nat}{v:Ver} (h:zg4 i v=true):zbj v.tag.time v.tag.place=true:=(zqk h).2.2
theorem zsu {s t:List Ver} (hs:zaF s=true) (ht:zaF t=true):(zqM s t).Pairwise fun p u=>p.key<u.key:=by
 unfold zqM
 rw [List.pairwise_filterMap,List.pairwise_iff_getElem]
 intro i j hi hj hij b hb b' hb'
 have hi':i<s.length∧i<t.length:=by rw [List.length_zip] at hi;omega
 have hj':j<s.length∧j<t.length:=by rw [List.length_zip] at hj;omega
 rw [List.getElem_zip] at hb hb'
 have key:∀ q (hq:q<s.length) (hq':q<t.length) x,zgf (s[q],t[q])=some x→x.key=(q:Int):=fun q hq hq' x hx=>by
  unfold zgf at hx
  simp only at hx
  cases hl:zbh t[q] s[q] with
  | false=>rw [hl] at hx;cases hx
  | true =>
   rw [hl] at hx
   injection hx with hx
   subst hx
   rcases zcO (zcD hs hq) with g | g
   ·have:=ziw (zrW (zcD ht hq')) (zdV g)
    rw [hl] at this;cases this
   ·exact g.2
 have e1:=key i hi'.1 hi'.2 b (by simpa using hb)
 have e2:=key j hj'.1 hj'.2 b' (by simpa using hb')
 omega
section
variable {lo:Nat}{h:Heap}{F F' G:List Nat}{a a' av:Option (Nat×Nat)}{c c' cv:Option Nat}
theorem Mv.cons {h h':Heap}{F F':List Nat}{b:Nat} (m:Mv h F h' F') (hb:b<h.length) (hbF:b∉F) (hnd:F.Nodup):Mv h (b :: F) h' (b :: F') :=
 (m.aside (G := [b]) (by rw [List.nodup_append];exact ⟨hnd,by simp,fun x hx y hy e=>by rw [List.mem_singleton] at hy;subst hy;subst e;exact hbF hx⟩) (by simpa using hb)).swap
def zhS (l:List Node) (k:Int):Bool:=zak k 0 ((l.length:Int) - 1)&&decide (1<l.length)
end
end Go.Proofs.YthdfojchihooeaaGreat
namespace Go.Proofs.YthdfojchihooeaaGreat
open Go T


def zsG (p:Place) (k:Nat):Place:=⟨p.me,p.clock,zde p.chain k,p.log,p.got,true⟩
def zd9 (p:Place) (k:Int):Bool := !p.fell&&zhS p.chain k
def ze2 (p:Place) (k:Int):Place:=bif zd9 p k then zd1 (zsG p k.toNat) else p
theorem zlr {s t:List Ver}{v:Ver} (h:v∈zfv s t):v∈s:=by
 have key:∀ (z:List (Ver×Ver)) (acc:List Ver),v∈z.foldl zgR acc→v∈acc∨∃ x∈z,x.1=v:=by
  intro z
  induction z with
  | nil=>intro acc h;exact .inl h
  | cons x z ih =>
   intro acc h
   rw [List.foldl_cons] at h
   rcases ih _ h with g | ⟨y,hy,e⟩
   ·unfold zgR at g
    cases hl:zbh x.2 x.1 with
    | false=>rw [hl] at g;exact .inl g
    | true =>
     rw [hl,cond_true] at g
     rcases insF_mem.1 g with rfl | g
     ·exact .inr ⟨x,by simp,rfl⟩
     ·exact .inl g
   ·exact .inr ⟨y,by simp [hy],e⟩
 rcases key _ _ h with g | ⟨x,hx,rfl⟩
 ·simp at g
 ·exact (List.of_mem_zip hx).1
theorem zpj {s t:List Ver} (hs:s.length=4):(zfv s t).length≤4:=by
 have key:∀ (z:List (Ver×Ver)) (acc:List Ver),(z.foldl zgR acc).length≤acc.length+z.length:=by
  intro z
  induction z with
  | nil=>intro acc;simp
  | cons x z ih =>
   intro acc
   rw [List.foldl_cons]
   have:=ih (zgR acc x)
   have h2:(zgR acc x).length≤acc.length+1:=by
    unfold zgR
    cases zbh x.2 x.1
    ·simp
    ·rw [cond_true,zkG];exact Nat.le_refl _
   rw [List.length_cons];omega
 have:=key (s.zip t) []
 rw [List.length_zip] at this
 simp only [List.length_nil] at this
 unfold zfv
 omega
theorem zkR {nw k:Nat}{l:List Node}{w:List Ver} (h:∀ x∈l,zf9 nw x) (hw:w.length≤nw) (hv:∀ v∈w,thin v):∀ x∈zeo l k w,zf9 nw x:=fun x hx=>by
 unfold zeo at hx
 split at hx
 ·rename_i y hy
  rcases List.mem_or_eq_of_mem_set hx with hx | rfl
  ·exact h x hx
  ·obtain ⟨g1,_,g3,_⟩:=h y (List.mem_of_getElem? hy)
   exact ⟨g1,hw,g3,hv⟩
 ·exact h x hx
theorem zvu {nw k:Nat}{l:List Node} (h:∀ x∈l,zf9 nw x) (hnw:4≤nw):(zde l k).length≤l.length∧∀ x∈zde l k,zf9 nw x:=by
 have h':∀ x∈l.eraseIdx k,zf9 nw x:=fun x hx=>h x (List.mem_of_mem_eraseIdx hx)
 have hle:(l.eraseIdx k).length≤l.length:=List.length_eraseIdx_le _ _
 unfold zde
 cases decide (0<k) with
 | false=>exact ⟨hle,h'⟩
 | true =>
  rw [cond_true]
  cases decide (k<(l.eraseIdx k).length) with
  | false=>exact ⟨by rw [cond_false,zdR];exact hle,zkR h' (Nat.zero_le _) (by simp)⟩
  | true =>
   rw [cond_true,zdR]
   refine ⟨hle,?_⟩
   unfold zft
   split
   ·rename_i y hy
    have hyn:=h' y (List.mem_of_getElem? hy)
    exact zkR h' (Nat.le_trans (zpj hyn.1) hnw) (fun v hv=>hyn.2.2.1 v (zlr hv))
   ·refine zkR h' ?_ (fun v hv=>?_)
    ·rw [show ∀ t,zfv [] t = [] from fun t=>by simp [zfv]];exact Nat.zero_le _
    ·have:=zlr hv;simp at this
theorem ztc {nc nl k:Nat}{p:Place} (h:Tidy nc 6 nl p):Tidy nc 6 nl (zsG p k):=by
 obtain ⟨h1,h2⟩:=zvu (k:=k) h.node (by decide)
 exact ⟨Nat.le_trans h1 h.len,h2,h.log,h.got⟩
theorem ziO {l:List Node}{k:Nat} (hk:k<l.length) (h1:1<l.length):(zde l k).length=l.length - 1:=by
 have hel:=List.length_eraseIdx_of_lt hk
 unfold zde
 cases decide (0<k)
 ·exact hel
 ·cases decide (k<(l.eraseIdx k).length)
  ·rw [cond_true,cond_false,zdR];exact hel
  ·rw [cond_true,cond_true,zdR];exact hel
theorem zpi {l:List Node} (h:zcF l=true) (h0:0<l.length):(l[l.length - 1]'(by omega)).wait = []:=by
 have:=zj9 h (show l.length - 1<l.length by omega)
 unfold zfr at this
 rw [List.getElem?_eq_none (by omega)] at this
 simp only [decide_eq_true_eq] at this
 exact List.eq_nil_of_length_eq_zero this
section
variable {lo:Nat}{ro:Bool}{h:Heap}{F F':List Nat}{a a':Option (Nat×Nat)}{c c':Option Nat}
theorem zmc {p:Place}{k:Int}{a1 a2 a3:Option (Nat×Nat)}{c1 c2 c3:Option Nat} (hn:p.chain.length≤1048576):evl lo 292 [.agg (p.cs a1 c1 a2 c2 a3 c3),.int .i64 k] h=some (.bool (zd9 p k),h):=by
 refine zkl (h':=h) ?_
 unfold zd9 zhS
 cases p.fell with
 | true=>simp only [Bool.not_true,za5,Bool.false_and]
 | false =>
  simp only [Bool.not_false,zaN,Bool.true_and]
  by_cases h1:1<p.chain.length
  ·rw [zal (by omega),wr (by omega) (by omega),zbb,zac,zbi,decide_eq_true h1,Bool.and_true]
   exact zhp
  ·rw [zaj (by omega),decide_eq_false h1,Bool.and_false]
end
end Go.Proofs.YthdfojchihooeaaGreat
namespace Go.Proofs.YthdfojchihooeaaGreat
open Go T


theorem zln {u v w:Ver} (h1:zbh u v=true) (h2:zbh v w=true):zbh u w=true:=by
 rw [ziI] at *;omega
def upS (t s:List Ver):Prop:=∀ (i:Nat) (x y:Ver),t[i]?=some x→s[i]?=some y→x=y∨zbh x y=true
theorem upS.refl {t:List Ver}:upS t t:=fun i x y hx hy => .inl (by rw [hx] at hy;injection hy)
theorem upS.trans {r s t:List Ver} (h1:upS r s) (h2:upS s t) (hl:t.length≤s.length):upS r t:=fun i x z hx hz=>by
 have hi:=(List.getElem?_eq_some_iff.1 hz).1
 have hy:=List.getElem?_eq_getElem (l:=s) (i:=i) (by omega)
 rcases h1 i x _ hx hy with rfl | h3
 ·exact h2 i _ z hy hz
 ·rcases h2 i _ z hy hz with h4 | h4
  ·exact .inr (h4 ▸ h3)
  ·exact .inr (zln h3 h4)
theorem upS.set {t:List Ver}{k:Nat}{u v:Ver} (hu:t[k]?=some u) (hl:zbh u v=true):upS t (t.set k v):=fun i x y hx hy=>by
 rw [List.getElem?_set] at hy
 by_cases hi:k=i
 ·subst hi
  rw [if_pos rfl,if_pos (List.getElem?_eq_some_iff.1 hu).1] at hy
  injection hy with hy
  rw [hu] at hx;injection hx with hx
  exact .inr (by rw [← hx,← hy];exact hl)
 ·rw [if_neg hi,hx] at hy;injection hy with hy;exact .inl hy
theorem fitsL_cons {v:Ver}{r t s:List Ver}:zd5 t (v :: r)=some s↔∃ x,t[v.key.toNat]?=some x∧zbh x v=true∧zd5 (t.set v.key.toNat v) r=some s:=by
 simp only [zd5]
 cases hx:t[v.key.toNat]? with
 | none=>simp
 | some x=>cases hl:zbh x v<;>simp [hl]
theorem znf:∀ {ws t s:List Ver}{v x:Ver},zd5 t ws=some s→s[v.key.toNat]?=some x→zbh x v=true→zd5 t (ws ++ [v])=some (s.set v.key.toNat v)
 | [],t,s,v,x,h,hx,hl=>by
  simp only [zd5,Option.some.injEq] at h;subst h
  exact fitsL_cons.2 ⟨x,hx,hl,rfl⟩
 | w :: r,t,s,v,x,h,hx,hl=>by
  obtain ⟨y,h1,h2,h3⟩:=fitsL_cons.1 h
  exact fitsL_cons.2 ⟨y,h1,h2,znf h3 hx hl⟩
theorem zrH:∀ {ws t s:List Ver},zd5 t ws=some s→upS t s
 | [],t,s,h=>by simp only [zd5,Option.some.injEq] at h;subst h;exact upS.refl
 | v :: r,t,s,h=>by
  obtain ⟨y,h1,h2,h3⟩:=fitsL_cons.1 h
  have h4:=zrH h3
  refine fun i x z hx hz=>?_
  by_cases hi:v.key.toNat=i
  ·subst hi
   rw [h1] at hx;injection hx with hx;subst hx
   have hlt:=(List.getElem?_eq_some_iff.1 h1).1
   rcases h4 _ v z (by simp [hlt]) hz with rfl | h5
   ·exact .inr h2
   ·exact .inr (zln h2 h5)
  ·exact h4 i x z (by rw [List.getElem?_set_ne hi];exact hx) hz
theorem zpE:∀ {ws t s:List Ver},zd5 t ws=some s→∀ v∈s,v∈ws∨v∈t
 | [],t,s,h=>by simp only [zd5,Option.some.injEq] at h;subst h;exact fun v hv => .inr hv
 | w :: r,t,s,h=>fun v hv=>by
  obtain ⟨y,h1,h2,h3⟩:=fitsL_cons.1 h
  rcases zpE h3 v hv with g | g
  ·exact .inl (by simp [g])
  ·rcases List.mem_or_eq_of_mem_set g with g | rfl
   ·exact .inr g
   ·exact .inl (by simp)
theorem zrI:∀ {ws t s:List Ver},s.length=t.length→ws.Pairwise (fun p u=>p.key≠u.key)→(∀ v∈ws,0≤v.key∧s[v.key.toNat]?=some v∧∃ x,t[v.key.toNat]?=some x∧zbh x v=true) →
  (∀ (i:Nat) (x y:Ver),t[i]?=some x→s[i]?=some y→x=y∨(y∈ws∧y.key.toNat=i))→zd5 t ws=some s
 | [],t,s,hl,_,_,h=>by
  simp only [zd5,Option.some.injEq]
  apply List.ext_getElem?
  intro i
  by_cases hi:i<t.length
  ·have h1:=List.getElem?_eq_getElem hi
   have h2:=List.getElem?_eq_getElem (l:=s) (i:=i) (by omega)
   rcases h i _ _ h1 h2 with g | g
   ·rw [h1,h2,g]
   ·exact absurd g.1 (by simp)
  ·rw [List.getElem?_eq_none (by omega),List.getElem?_eq_none (by omega)]
 | v :: r,t,s,hl,hp,hw,h=>by
  rw [List.pairwise_cons] at hp
  obtain ⟨h0,h1,x,h2,h3⟩:=hw v (by simp)
  refine fitsL_cons.2 ⟨x,h2,h3,zrI (by simpa using hl) hp.2 (fun u hu=>?_) (fun i a b ha hb=>?_)⟩
  ·obtain ⟨g0,g1,y,g2,g3⟩:=hw u (by simp [hu])
   have:=hp.1 u hu
   exact ⟨g0,g1,y,by rw [List.getElem?_set_ne (by omega)];exact g2,g3⟩
  ·by_cases hi:v.key.toNat=i
   ·subst hi
    have hlt:=(List.getElem?_eq_some_iff.1 h2).1
    rw [List.getElem?_set_self hlt] at ha
    injection ha with ha
    rw [h1] at hb;injection hb with hb
    exact .inl (ha.symm.trans hb)
   ·rw [List.getElem?_set_ne hi] at ha
    rcases h i a b ha hb with g | ⟨g1,g2⟩
    ·exact .inl g
    ·rcases List.mem_cons.1 g1 with rfl | g1
     ·exact absurd g2 hi
     ·exact .inr ⟨g1,g2⟩
theorem zpp {v:Ver}:∀ {l:List Ver},(zjq v l).Perm (v :: l)
 | [] => .refl _
 | u :: r=>by
  simp only [zjq]
  cases zbh u v with
  | false=>exact .refl _
  | true=>exact (List.Perm.cons u zpp).trans (List.Perm.swap v u r)
theorem zo0:∀ {l acc:List Ver},(l.foldl (fun acc v=>zjq v acc) acc).Perm (l++acc)
 | [],acc => .refl _
 | v :: l,acc=>by
  rw [List.foldl_cons]
  exact ((zo0 (l:=l)).trans (List.Perm.append_left l zpp)).trans List.perm_middle
theorem lackU_mem {s t:List Ver}{v:Ver}:v∈zqM s t↔∃ (i:Nat) (u:Ver),s[i]?=some v∧t[i]?=some u∧zbh u v=true:=by
 unfold zqM
 rw [List.mem_filterMap]
 constructor
 ·rintro ⟨⟨x,y⟩,hm,hx⟩
  obtain ⟨i,hi⟩:=List.mem_iff_getElem?.1 hm
  rw [List.getElem?_zip_eq_some] at hi
  unfold zgf at hx
  simp only at hx
  cases hl:zbh y x with
  | false=>rw [hl] at hx;cases hx
  | true =>
   rw [hl] at hx;injection hx with hx;subst hx
   exact ⟨i,y,hi.1,hi.2,hl⟩
 ·rintro ⟨i,u,h1,h2,h3⟩
  refine ⟨(v,u),List.mem_iff_getElem?.2 ⟨i,List.getElem?_zip_eq_some.2 ⟨h1,h2⟩⟩,?_⟩
  unfold zgf;simp only [h3,cond_true]
theorem zgF {s:List Ver} (hs:zaF s=true) {i:Nat}{x:Ver} (hx:s[i]?=some x):zg4 i x=true:=by
 obtain ⟨hi,rfl⟩:=List.getElem?_eq_some_iff.1 hx
 exact zcD hs hi
theorem zh5 {s t:List Ver} (hs:zaF s=true) (ht:zaF t=true) {i:Nat}{x u:Ver} (hx:s[i]?=some x) (hu:t[i]?=some u) (hl:zbh u x=true):zbg x=true∧x.key=(i:Int):=by
 rcases zcO (zgF hs hx) with g | g
 ·have:=ziw (zrW (zgF ht hu)) (zdV g)
  rw [hl] at this;cases this
 ·exact g
theorem lackL_perm {s t:List Ver}:(zfv s t).Perm (zqM s t):=by
 rw [← zsv]
 have h:=zo0 (l:=zqM s t) (acc := [])
 rw [List.append_nil] at h;exact h
theorem zvg {s t:List Ver} (hs:zaF s=true) (ht:zaF t=true):∀ v∈zfv s t,zbg v=true:=fun v hv=>by
 obtain ⟨i,u,h1,h2,h3⟩:=lackU_mem.1 (lackL_perm.mem_iff.1 hv)
 exact (zh5 hs ht h1 h2 h3).1
theorem zt0 {s t:List Ver} (hs:zaF s=true) (ht:zaF t=true) (hu:upS t s):zd5 t (zfv s t)=some s:=by
 refine zrI (by rw [zaH hs,zaH ht]) ?_ (fun v hv=>?_) (fun i x y hx hy=>?_)
 ·exact (lackL_perm.pairwise_iff fun h=>h.symm).2 ((zsu hs ht).imp fun h=>by omega)
 ·obtain ⟨i,u,h1,h2,h3⟩:=lackU_mem.1 (lackL_perm.mem_iff.1 hv)
  have hk:=(zh5 hs ht h1 h2 h3).2
  have e:v.key.toNat=i:=by omega
  rw [e];exact ⟨by omega,h1,u,h2,h3⟩
 ·rcases hu i x y hx hy with h | h
  ·exact .inl h
  ·exact .inr ⟨lackL_perm.mem_iff.2 (lackU_mem.2 ⟨i,x,hy,hx,h⟩),by have:=(zh5 hs ht hy hx h).2;omega⟩
structure Ch (l:List Node):Prop where
 pos:1≤l.length
 le:l.length≤4
 node:∀ (i:Nat) (x:Node),l[i]?=some x→zb9 x=true
 link:∀ (i:Nat) (x y:Node),l[i]?=some x→l[i+1]?=some y→zd5 y.store x.wait=some x.store
 last:∀ (i:Nat) (x:Node),l[i]?=some x→i+1=l.length→x.wait = []
theorem fits_iff {x:Node}{s:List Ver}:zvr x s=true↔zd5 s x.wait=some x.store:=by
 unfold zvr
 cases h:zd5 s x.wait with
 | none=>simp
 | some r=>simp [sameVers_iff]
theorem chain_iff {l:List Node}:zcF l=true↔Ch l:=by
 unfold zcF
 simp only [Bool.and_eq_true]
 rw [zdT (p:=zfr l),zrh (p:=zb9)]
 constructor
 ·rintro ⟨⟨h1,h2⟩,h3⟩
  simp only [zak,Bool.and_eq_true,decide_eq_true_eq] at h1
  refine ⟨by omega,by omega,fun i x hx=>?_,fun i x y hx hy=>?_,fun i x hx hi=>?_⟩
  ·obtain ⟨hi,rfl⟩:=List.getElem?_eq_some_iff.1 hx
   exact h2 i hi
  ·obtain ⟨hi,rfl⟩:=List.getElem?_eq_some_iff.1 hx
   have:=h3 i hi
   unfold zfr at this
   rw [hy] at this
   exact fits_iff.1 this
  ·obtain ⟨hj,rfl⟩:=List.getElem?_eq_some_iff.1 hx
   have:=h3 i hj
   unfold zfr at this
   rw [List.getElem?_eq_none (by omega)] at this
   exact List.eq_nil_of_length_eq_zero (by simpa using this)
 ·rintro ⟨h1,h2,h3,h4,h5⟩
  refine ⟨⟨by simp [zak];omega,fun i hi=>h3 i _ (List.getElem?_eq_getElem hi)⟩,fun i hi=>?_⟩
  unfold zfr
  cases hy:l[i+1]? with
  | some y=>exact fits_iff.2 (h4 i _ y (List.getElem?_eq_getElem hi) hy)
  | none =>
   have:=List.getElem?_eq_none_iff.1 hy
   simp [h5 i _ (List.getElem?_eq_getElem hi) (by omega)]
section
variable {l:List Node}
theorem Ch.store (h:Ch l) {i:Nat}{x:Node} (hx:l[i]?=some x):zaF x.store=true∧x.store.length=4:=by
 have:=(zav (h.node i x hx)).1
 exact ⟨this,zaH this⟩
theorem Ch.up (h:Ch l):∀ (d i:Nat) (x y:Node),l[i]?=some x→l[i+d]?=some y→upS y.store x.store
 | 0,i,x,y,hx,hy=>by
  rw [Nat.add_zero,hx] at hy;injection hy with hy;subst hy;exact upS.refl
 | d+1,i,x,y,hx,hy=>by
  have hlt:=(List.getElem?_eq_some_iff.1 hy).1
  have hz:=List.getElem?_eq_getElem (l:=l) (i:=i+d) (by omega)
  have h1:=h.up d i x _ hx hz
  have h2:=zrH (h.link (i+d) _ y hz hy)
  exact h2.trans h1 (by rw [(h.store hx).2,(h.store hz).2];exact Nat.le_refl _)
theorem Ch.join (h:Ch l) (hl:l.length<4):Ch (zhf l):=by
 have hp:=h.pos
 rw [zeV (by omega)]
 have hz:l[l.length - 1]?=some (l[l.length - 1]'(by omega)):=List.getElem?_eq_getElem (by omega)
 have hns:=(h.store hz).1
 have hn:zb9 ⟨(l[l.length - 1]'(by omega)).store,[]⟩=true:=by unfold zb9;rw [hns];rfl
 have get:∀ i x,(l ++ [(⟨(l[l.length - 1]'(by omega)).store,[]⟩:Node)])[i]?=some x→(i<l.length∧l[i]?=some x)∨(i=l.length∧x=⟨(l[l.length - 1]'(by omega)).store,[]⟩):=fun i x hx=>by
  by_cases hi:i<l.length
  ·rw [List.getElem?_append_left hi] at hx;exact .inl ⟨hi,hx⟩
  ·rw [List.getElem?_append_right (by omega)] at hx
   have:=(List.getElem?_eq_some_iff.1 hx).1
   simp only [List.length_singleton] at this
   have e:i=l.length:=by omega
   subst e
   rw [Nat.sub_self] at hx
   injection hx with hx
   exact .inr ⟨rfl,hx.symm⟩
 refine ⟨by simp,by simp;omega,fun i x hx=>?_,fun i x y hx hy=>?_,fun i x hx hi=>?_⟩
 ·rcases get i x hx with ⟨_,g⟩ | ⟨_,rfl⟩
  ·exact h.node i x g
  ·exact hn
 ·rcases get (i+1) y hy with ⟨g1,g2⟩ | ⟨g1,rfl⟩
  ·rcases get i x hx with ⟨_,g⟩ | ⟨g,_⟩
   ·exact h.link i x y g g2
   ·omega
  ·rcases get i x hx with ⟨_,g⟩ | ⟨g,_⟩
   ·have e:i=l.length - 1:=by omega
    rw [h.last i x g g1]
    subst e
    rw [hz] at g;injection g with g;subst g
    rfl
   ·omega
 ·simp only [List.length_append,List.length_singleton] at hi
  rcases get i x hx with ⟨g,_⟩ | ⟨_,rfl⟩
  ·omega
  ·rfl
theorem zhM {k:Nat} (hk:k<l.length) (i:Nat):(zde l k)[i]?=if i+1=k then (l[i]?).map (fun x=>(⟨x.store,match l[k+1]? with | some y=>zfv x.store y.store | none => []⟩:Node)) else if i<k then l[i]? else l[i+1]?:=by
 have hel:=List.length_eraseIdx_of_lt hk
 unfold zde
 by_cases h0:0<k
 ·rw [decide_eq_true h0,cond_true]
  have hk1:k - 1<(l.eraseIdx k).length:=by omega
  have e1:(l.eraseIdx k)[k - 1]=l[k - 1]:=by rw [List.getElem_eraseIdx,dif_pos (by omega)]
  have out:∀ w,i+1≠k→(zeo (l.eraseIdx k) (k - 1) w)[i]?=if i+1=k then (l[i]?).map (fun x=>(⟨x.store,match l[k+1]? with | some y=>zfv x.store y.store | none => []⟩:Node)) else if i<k then l[i]? else l[i+1]?:=fun w hi=>by
   rw [zgk hk1,List.getElem?_set_ne (by omega),List.getElem?_eraseIdx,if_neg hi]
  have at1:∀ w,i+1=k→(zeo (l.eraseIdx k) (k - 1) w)[i]?=some ⟨l[k - 1].store,w⟩:=fun w hi=>by
   have e:k - 1=i:=by omega
   rw [zgk hk1,e1,← e,List.getElem?_set_self hk1]
  have hl1:l[k - 1]?=some l[k - 1]:=List.getElem?_eq_getElem (by omega)
  by_cases hkl:k<(l.eraseIdx k).length
  ·rw [decide_eq_true hkl,cond_true]
   by_cases hi:i+1=k
   ·have e:i=k - 1:=by omega
    have hy:l[k+1]?=some (l[k+1]'(by omega)):=List.getElem?_eq_getElem (by omega)
    have e2:(l.eraseIdx k)[k]=l[k+1]'(by omega):=by rw [List.getElem_eraseIdx,dif_neg (by omega)]
    rw [at1 _ hi,if_pos hi,e,hl1,hy,zdS hk1,zdS hkl,e1,e2]
    rfl
   ·exact out _ hi
  ·rw [decide_eq_false hkl,cond_false]
   by_cases hi:i+1=k
   ·have e:i=k - 1:=by omega
    have hy:l[k+1]?=none:=List.getElem?_eq_none (by omega)
    rw [at1 _ hi,if_pos hi,e,hl1,hy]
    rfl
   ·exact out _ hi
 ·rw [decide_eq_false h0,cond_false,if_neg (by omega),List.getElem?_eraseIdx]
theorem Ch.fall (h:Ch l) {k:Nat} (hk:k<l.length) (h2:1<l.length):Ch (zde l k):=by
 have hle:=h.le
 have hlen:=ziO hk h2
 have hnw:∀ i x,l[i]?=some x→i+1=k→zb9 ⟨x.store,match l[k+1]? with | some y=>zfv x.store y.store | none => []⟩=true:=fun i x hx hi=>by
  have hs:=h.store hx
  cases hy:l[k+1]? with
  | none=>unfold zb9;rw [hs.1];rfl
  | some y =>
   have ht:=h.store hy
   have h4:=zpj (s:=x.store) (t:=y.store) hs.2
   unfold zb9
   simp only
   rw [hs.1,decide_eq_true (by omega),Bool.true_and,Bool.true_and,List.all_eq_true]
   exact zvg hs.1 ht.1
 refine ⟨by omega,by omega,fun i x hx=>?_,fun i x y hx hy=>?_,fun i x hx hi=>?_⟩
 ·rw [zhM hk] at hx
  split at hx
  ·rename_i hi
   rw [Option.map_eq_some_iff] at hx
   obtain ⟨z,hz,rfl⟩:=hx
   exact hnw i z hz hi
  ·split at hx
   ·exact h.node i x hx
   ·exact h.node (i+1) x hx
 ·rw [zhM hk] at hx hy
  by_cases hi:i+1=k
  ·rw [if_pos hi,Option.map_eq_some_iff] at hx
   obtain ⟨z,hz,rfl⟩:=hx
   rw [if_neg (by omega),if_neg (by omega)] at hy
   have e:i+1+1=k+1:=by omega
   rw [e] at hy
   simp only [hy]
   have hup:=h.up 2 i z y hz (by rw [show i+2=k+1 by omega];exact hy)
   exact zt0 (h.store hz).1 (h.store hy).1 hup
  ·rw [if_neg hi] at hx
   by_cases hik:i<k
   ·rw [if_pos hik] at hx
    by_cases hi2:i+1+1=k
    ·rw [if_pos hi2,Option.map_eq_some_iff] at hy
     obtain ⟨z,hz,rfl⟩:=hy
     exact h.link i x z hx hz
    ·rw [if_neg hi2,if_pos (by omega)] at hy
     exact h.link i x y hx hy
   ·rw [if_neg hik] at hx
    rw [if_neg (by omega),if_neg (by omega)] at hy
    exact h.link (i+1) x y hx hy
 ·rw [hlen] at hi
  rw [zhM hk] at hx
  split at hx
  ·rename_i hi2
   rw [Option.map_eq_some_iff] at hx
   obtain ⟨z,hz,rfl⟩:=hx
   rw [List.getElem?_eq_none (by omega)]
  ·split at hx
   ·omega
   ·exact h.last (i+1) x hx (by omega)
theorem Ch.key (h:Ch l) {i:Nat}{z:Node}{v:Ver} (hz:l[i]?=some z) (hv:zbg v=true):∃ u,z.store[v.key.toNat]?=some u:=by
 have:=(zaA hv).1
 have h4:=(h.store hz).2
 exact ⟨_,List.getElem?_eq_getElem (by omega)⟩
theorem zhV {j:Nat}{v u:Ver}{z:Node} (hz:l[j]?=some z) (hu:z.store[v.key.toNat]?=some u):zkM l j v=bif zbh u v then l.set j ⟨z.store.set v.key.toNat v,bif decide (j+1<l.length) then z.wait ++ [v] else z.wait⟩ else l:=by
 unfold zkM;rw [hz];simp only [hu]
theorem zwf {j:Nat}{v u:Ver}{z:Node} (hp:1≤l.length) (hle:l.length≤4) (hno:∀ (i:Nat) (x:Node),l[i]?=some x→zb9 x=true)
  (hli:∀ (i:Nat) (x y:Node),l[i]?=some x→l[i+1]?=some y→i+1≠j→zd5 y.store x.wait=some x.store) (hla:∀ (i:Nat) (x:Node),l[i]?=some x→i+1=l.length→x.wait = [])
  (hz:l[j]?=some z) (hv:zbg v=true) (hr:z.wait.length<6) (hu:z.store[v.key.toNat]?=some u) (hl:zbh u v=true)
  (hpr:∀ (i:Nat) (x:Node),l[i]?=some x→i+1=j→zd5 (z.store.set v.key.toNat v) x.wait=some x.store):Ch (zkM l j v):=by
 have hj:=(List.getElem?_eq_some_iff.1 hz).1
 obtain ⟨n1,n2,n3⟩:=zav (hno j z hz)
 rw [zhV hz hu,hl,cond_true]
 have hnz:zb9 ⟨z.store.set v.key.toNat v,bif decide (j+1<l.length) then z.wait ++ [v] else z.wait⟩=true:=by
  unfold zb9
  simp only
  rw [zgG n1 hv]
  cases decide (j+1<l.length) with
  | false =>
   rw [cond_false,decide_eq_true (by omega),Bool.true_and,Bool.true_and,List.all_eq_true]
   exact n3
  | true =>
   rw [cond_true,decide_eq_true (by simp;omega),Bool.true_and,Bool.true_and,List.all_eq_true]
   intro w hw
   rcases List.mem_append.1 hw with g | g
   ·exact n3 w g
   ·rw [List.mem_singleton] at g;subst g;exact hv
 refine ⟨by simpa using hp,by simpa using hle,fun i x hx=>?_,fun i x y hx hy=>?_,fun i x hx hi=>?_⟩
 ·by_cases hij:j=i
  ·subst hij
   rw [List.getElem?_set_self hj] at hx
   injection hx with hx;subst hx;exact hnz
  ·rw [List.getElem?_set_ne hij] at hx;exact hno i x hx
 ·by_cases hij:j=i
  ·subst hij
   rw [List.getElem?_set_self hj] at hx
   rw [List.getElem?_set_ne (by omega)] at hy
   have hlt:=(List.getElem?_eq_some_iff.1 hy).1
   injection hx with hx;subst hx
   simp only [decide_eq_true hlt,cond_true]
   exact znf (hli j z y hz hy (by omega)) hu hl
  ·rw [List.getElem?_set_ne hij] at hx
   by_cases hij2:j=i+1
   ·subst hij2
    rw [List.getElem?_set_self hj] at hy
    injection hy with hy;subst hy
    exact hpr i x hx rfl
   ·rw [List.getElem?_set_ne hij2] at hy
    exact hli i x y hx hy (fun e=>hij2 e.symm)
 ·rw [List.length_set] at hi
  by_cases hij:j=i
  ·subst hij
   rw [List.getElem?_set_self hj] at hx
   injection hx with hx;subst hx
   rw [decide_eq_false (by omega),cond_false]
   exact hla j z hz hi
  ·rw [List.getElem?_set_ne hij] at hx;exact hla i x hx hi
theorem Ch.add (h:Ch l) {v:Ver} (hv:zbg v=true) (hr:zgp l 0=true):Ch (zkM l 0 v):=by
 have hp:=h.pos
 have hz:l[0]?=some (l[0]'(by omega)):=List.getElem?_eq_getElem (by omega)
 rw [zhE (by omega),decide_eq_true_eq] at hr
 obtain ⟨u,hu⟩:=h.key hz hv
 cases hl:zbh u v with
 | false=>rw [zhV hz hu,hl,cond_false];exact h
 | true=>exact zwf hp h.le h.node (fun i x y hx hy _=>h.link i x y hx hy) h.last hz hv hr hu hl (fun i x _ e=>by omega)
theorem zgq {k:Int} (hc:zcY l k=true):∃ (f:Nat) (x y:Node) (v:Ver) (r:List Ver),k=(f:Int)∧l[f]?=some x∧l[f+1]?=some y∧x.wait=v :: r∧y.wait.length<6:=by
 simp only [zcY,zak,Bool.and_eq_true,decide_eq_true_eq] at hc
 obtain ⟨⟨h1,h2⟩,h3⟩:=hc
 have hf:k.toNat+1<l.length:=by omega
 rw [zjn (by omega),Bool.and_eq_true,decide_eq_true_eq,zhE hf,decide_eq_true_eq] at h3
 refine ⟨k.toNat,l[k.toNat],l[k.toNat+1],?_⟩
 cases hw:l[k.toNat].wait with
 | nil=>rw [hw] at h3;simp at h3
 | cons v r=>exact ⟨v,r,by omega,List.getElem?_eq_getElem (by omega),List.getElem?_eq_getElem hf,rfl,h3.2⟩
theorem zkA {f:Nat}{x:Node}{v:Ver}{r:List Ver} (hx:l[f]?=some x) (hw:x.wait=v :: r):zhW l f=zkM (l.set f ⟨x.store,r⟩) (f+1) v:=by
 unfold zhW zik
 rw [hx]
 simp only [hw,List.getElem?_cons_zero,List.eraseIdx_cons_zero]
theorem Ch.pass (h:Ch l) {k:Int} (hc:zcY l k=true):Ch (zhW l k.toNat):=by
 obtain ⟨f,x,y,v,r,rfl,hx,hy,hw,hr⟩:=zgq hc
 have hf:=(List.getElem?_eq_some_iff.1 hx).1
 have hf1:=(List.getElem?_eq_some_iff.1 hy).1
 obtain ⟨n1,n2,n3⟩:=zav (h.node f x hx)
 have hlk:=h.link f x y hx hy
 rw [hw] at hlk n2 n3
 obtain ⟨u,hu,hl,hlk⟩:=fitsL_cons.1 hlk
 rw [Int.toNat_natCast,zkA hx hw]
 have hv:=n3 v (by simp)
 have get:∀ (i:Nat) (z:Node),(l.set f ⟨x.store,r⟩)[i]?=some z→(i=f∧z=⟨x.store,r⟩)∨(i≠f∧l[i]?=some z):=fun i z hz=>by
  by_cases hi:f=i
  ·subst hi
   rw [List.getElem?_set_self hf] at hz
   injection hz with hz;exact .inl ⟨rfl,hz.symm⟩
  ·rw [List.getElem?_set_ne hi] at hz;exact .inr ⟨fun e=>hi e.symm,hz⟩
 refine zwf (z:=y) (u:=u) (by simpa using h.pos) (by simpa using h.le) (fun i z hz=>?_) (fun i z w hz hw' hne=>?_) (fun i z hz hi=>?_) (by rw [List.getElem?_set_ne (by omega)];exact hy) hv hr hu hl (fun i z hz hi=>?_)
 ·rcases get i z hz with ⟨_,rfl⟩ | ⟨_,g⟩
  ·unfold zb9
   simp only
   simp only [List.length_cons] at n2
   rw [n1,decide_eq_true (by omega),Bool.true_and,Bool.true_and,List.all_eq_true]
   exact fun w hw=>n3 w (by simp [hw])
  ·exact h.node i z g
 ·rcases get i z hz with ⟨rfl,_⟩ | ⟨_,g⟩
  ·exact absurd rfl hne
  ·rcases get (i+1) w hw' with ⟨e,rfl⟩ | ⟨_,g2⟩
   ·rw [e] at hw'
    exact h.link i z x g (by rw [e];exact hx)
   ·exact h.link i z w g g2
 ·rw [List.length_set] at hi
  rcases get i z hz with ⟨rfl,_⟩ | ⟨_,g⟩
  ·omega
  ·exact h.last i z g hi
 ·rcases get i z hz with ⟨_,rfl⟩ | ⟨g,_⟩
  ·exact hlk
  ·omega
end
end Go.Proofs.YthdfojchihooeaaGreat
namespace Go.Proofs.YthdfojchihooeaaGreat
open Go T


def zby (p:Place) (l:List Tag):Int:=zg1 (zeT l) p.clock+1
def zgs (p:Place) (k:Int) (s:ByteArray) (g:Bool) (l:List Tag):Ver:=⟨k,⟨zby p l,p.me⟩,l,s,g⟩
def zgO (p:Place) (l:List Tag):Bool:=zcU l (zaO p.chain)&&(zgp p.chain 0&&(decide (zby p l≤999)&&decide ((p.log.length:Int)<36)))
def zba (p:Place) (k:Int) (s:ByteArray) (g:Bool) (l:List Tag):Bool:=zak k 0 3&&(zdX s&&((!g || zep s)&&(zbr l&&zgO p l)))
def zjb (p:Place) (k:Int) (s:ByteArray) (g:Bool) (l:List Tag):Place×Tag:=bif zan p then (bif zba p k s g l then (zd1 (zlQ p 0 (zby p l) (zgs p k s g l)),⟨zby p l,p.me⟩) else (p,⟨0,0⟩)) else (zoM,⟨0,0⟩)
theorem zpc {a c x:Int}:zg1 a c<x↔a<x∧c<x:=by unfold zg1;split<;>omega
theorem zwI {A B:Int} (h:∀ x,A<x↔B<x):A=B:=by
 have h1:=(h (A+1)).1 (by omega)
 have h2:=(h (B+1)).2 (by omega)
 omega
theorem ztJ {l:List Tag}{c:Int} (hc:0≤c):l.foldl (fun m t=>if t.time>m then t.time else m) c=zg1 (zeT l) c:=by
 refine zwI fun x=>?_
 rw [zpc,latest_lt,znR]
 constructor
 ·rintro ⟨h1,h2⟩;exact ⟨⟨by omega,h2⟩,h1⟩
 ·rintro ⟨⟨_,h2⟩,h1⟩;exact ⟨h1,h2⟩
theorem ztZ {l:List Tag} (h:zbr l=true):0≤zeT l∧zeT l≤999:=by
 have h1:zeT l<1000:=latest_lt.2 ⟨by omega,fun t ht=>by
  simp only [zbr,Bool.and_eq_true,List.all_eq_true] at h
  have:=zdn (h.2 t ht);omega⟩
 have h2:¬ zeT l<0:=fun h=>by have:=(latest_lt.1 h).1;omega
 omega
theorem zkT {p:Place}{l:List Tag} (hp:zan p=true) (h:zbr l=true):1≤zby p l∧zby p l≤1000∧zeT l<zby p l∧p.clock<zby p l:=by
 have h1:=ztZ h
 have h2:=(zaK hp).2.1
 unfold zby zg1
 split<;>omega
theorem zgD {p:Place}{k:Int}{s:ByteArray}{g:Bool}{l:List Tag} (h:zba p k s g l=true):(0≤k∧k≤3)∧zdX s=true∧(g=true→zep s=true)∧zbr l=true∧zcU l (zaO p.chain)=true∧zgp p.chain 0=true∧zby p l≤999∧p.log.length<36:=by
 unfold zba zgO at h
 simp only [Bool.and_eq_true,Bool.or_eq_true,decide_eq_true_eq,zak,Bool.not_eq_true'] at h
 obtain ⟨h1,h2,h3,h4,h5,h6,h7,h8⟩:=h
 exact ⟨h1,h2,fun hg=>h3.resolve_left (by rw [hg];simp),h4,h5,h6,h7,by omega⟩
theorem zqJ {p:Place}{k:Int}{s:ByteArray}{g:Bool}{l:List Tag} (hp:zan p=true) (h:zba p k s g l=true):thin (zgs p k s g l):=by
 obtain ⟨h1,h2,h3,h4,h5,h6,h7,h8⟩:=zgD h
 have g1:=zbq h4
 have g2:=zdf h2
 have g3:=zkT hp h4
 have g4:=(zaK hp).1
 refine ⟨by show l.length≤4;omega,by show s.size≤8;omega,?_⟩
 show zbj (zby p l) p.me=true
 unfold zbj zak
 rw [decide_eq_true g3.1,decide_eq_true h7,decide_eq_true g4.1,decide_eq_true g4.2]
 simp
theorem zvS {T:Type}{lo lo' e R bytes q:Nat}{a:Option (Nat×Nat)}{xs:List (List V)}{h:Heap}{K:V→Heap→Option T}:app lo e R bytes (.sl q a 0 (some 0)) xs h K=app lo' e R bytes (.sl q a 0 (some 0)) xs h K:=by
 cases xs with
 | nil=>rfl
 | cons x xs =>
  cases a with
  | none=>rfl
  | some p =>
   obtain ⟨b,i⟩:=p
   simp only [app]
   have:Nat.ble (0+(x :: xs).length) 0=false:=by rw [List.length_cons,Nat.zero_add];rfl
   rw [this]
section
variable {lo:Nat}{ro:Bool}{h:Heap}{F F' G:List Nat}{a a' av:Option (Nat×Nat)}{c c' cv:Option Nat}
theorem zk0 {p:Place}{l:List Tag}{a1 a2 a3:Option (Nat×Nat)}{c1 c2 c3:Option Nat} (hv:RTags ro h [.sl 2 av l.length cv] l G) (hok:zan p=true) (hl:zbr l=true) :
  evl lo 262 [.agg (p.cs a1 c1 a2 c2 a3 c3),.agg [.sl 2 av l.length cv]] h=some (.int .i64 (zby p l),h):=by
 have h4:=zbq hl
 have hc:=(zaK hok).2.1
 refine zoh (h':=h) ?_
 have loop:∀ m i x,m+i=4→(∀ y:Int,(l.drop i).foldl (fun m t=>if t.time>m then t.time else m) x=y → -9223372036854775808≤y+1∧y+1≤9223372036854775807)→zbP (List.length h) x (i:Nat) av l.length cv h=some (.int .i64 ((l.drop i).foldl (fun m t=>if t.time>m then t.time else m) x+1),h):=by
  intro m
  induction m with
  | zero =>
   intro i x hi hb
   rw [List.drop_eq_nil_of_le (by omega)] at hb ⊢
   have:=hb x rfl
   rw [zbP.e,zaj (by omega),wr (by omega) (by omega)]
   rfl
  | succ m ih =>
   intro i x hi hb
   have hil:i<l.length:=by omega
   obtain ⟨o,ha,ho⟩:=hv.get hil
   have ho1:ld h o.1 (o.2+i) 0 1=some [.int .i64 l[i].time]:=by
    obtain ⟨o',row,G',h1,h2,⟨rfl,_⟩,_⟩:=hv.read hil
    rw [ha] at h1;injection h1 with h1;subst h1
    rw [h2];rfl
   rw [List.drop_eq_getElem_cons hil,List.foldl_cons] at hb ⊢
   rw [zbP.e,zal (by omega),zab hil,ha,zam,Int.toNat_natCast,ho1,zam,zad,zao,zaa,zab hil,zam,ho1,zam,zad,zao,zaa,zap (show i<9223372036854775807 by omega),← ha]
   by_cases ht:l[i].time>x
   ·rw [if_pos ht] at hb ⊢
    rw [zal ht];exact ih (i+1) _ (by omega) hb
   ·rw [if_neg ht] at hb ⊢
    rw [zaj ht];exact ih (i+1) _ (by omega) hb
 have hnf:∀ y,(l.drop 0).foldl (fun m t=>if t.time>m then t.time else m) p.clock=y→y=zg1 (zeT l) p.clock:=fun y hy=>by rw [← hy,List.drop_zero,ztJ hc.1]
 have hb:=zkT hok hl
 have:=loop 4 0 p.clock rfl (fun y hy=>by rw [hnf y hy];unfold zby at hb;omega)
 rw [hnf _ rfl] at this
 exact this
theorem zsc {p:Place}{l:List Tag}{a1 a2 a3:Option (Nat×Nat)}{c1 c2 c3:Option Nat}{F1:List Nat} (hs1:RNodes ro h [.sl 2 a1 p.chain.length c1] p.chain F1) (hv:RTags ro h [.sl 2 av l.length cv] l G) (hok:zan p=true) (hl:zbr l=true) (hn:zcc p) :
  evl lo 162 [.agg (p.cs a1 c1 a2 c2 a3 c3),.agg [.sl 2 av l.length cv]] h=some (.bool (zgO p l),h):=by
 have h0:=zd6 hok
 have hchain:=(zaK hok).2.2.2.1
 obtain ⟨v5,h5,F5,e5,r5,m5⟩:=zgJ (lo:=h.length) hs1 (Nat.le_refl _) hn.1 h0
 obtain ⟨a6,c6,e6,r6⟩:=r5.form
 refine zp1 (h':=h5) ?_
 have en:=zk0 (lo:=h.length) (a1:=a1) (c1:=c1) (a2:=a2) (c2:=c2) (a3:=a3) (c3:=c3) (m5.keep0 rtags_ok hv) hok hl
 simp only [Place.cs] at en
 unfold zgO
 rw [e5,zac,zbx,zad,e6,zao,zdY (m5.keep0 rtags_ok hv) r6 (zbq hl) (zhB hchain),zac,zbi]
 cases zcU l (zaO p.chain) with
 | false=>rw [za5];rfl
 | true =>
 rw [zaN,zh6 (m5.keep0 rnodes_ok hs1) h0,zac,zbi]
 cases zgp p.chain 0 with
 | false=>rw [za5];rfl
 | true =>
 rw [zaN,en,zac,zaa]
 cases decide (zby p l≤999) with
 | false=>rw [za5];rfl
 | true =>
 rw [zaN]
 cases decide ((p.log.length:Int)<36) with
 | false=>rw [za5];rfl
 | true=>rw [zaN];rfl
theorem zjQ {p:Place}{k:Int}{s:ByteArray}{g:Bool}{l:List Tag}{a1 a2 a3:Option (Nat×Nat)}{c1 c2 c3:Option Nat}{F1 F2 F3:List Nat} (hs1:RNodes false h [.sl 2 a1 p.chain.length c1] p.chain F1) (hs2:RVers false h [.sl 6 a2 p.log.length c2] p.log F2) (hs3:RVss false h [.sl 1 a3 p.got.length c3] p.got F3)
  (hv:RTags false h [.sl 2 av l.length cv] l G) (hok:zan p=true) (hc:zba p k s g l=true) (hnd:(F1++(F2++F3)).Nodup) (hlo:∀ b∈F1++(F2++F3),lo≤b) (hl:lo≤h.length) :
  ∃ a2' c2' h' F',evl lo 163 [.agg (p.cs a1 c1 a2 c2 a3 c3),.int .i64 k,.str s,.bool g,.agg [.sl 2 av l.length cv]] h=some (.tup [.agg ((zd1 (zlQ p 0 (zby p l) (zgs p k s g l))).cs a1 c1 a2' c2' a3 c3),.agg [.int .i64 (zby p l),.int .i64 p.me]],h') ∧
   zdt false h' ((zd1 (zlQ p 0 (zby p l) (zgs p k s g l))).cs a1 c1 a2' c2' a3 c3) (zd1 (zlQ p 0 (zby p l) (zgs p k s g l))) F'∧Mv h (F1++(F2++F3)) h' F':=by
 obtain ⟨g1,g2,g3,g4,g5,g6,g7,g8⟩:=zgD hc
 have h0:=zd6 hok
 have hl4:=zbq g4
 have hti:=zr5 hok
 obtain ⟨a5,c5,h5,F5,e5,r5,m5⟩:=zhn (lo:=h.length) (h:=h) (l:=l) (Nat.le_refl _) (by omega)
 rw [← List.append_assoc] at hnd hlo ⊢
 have hnd':=hnd
 rw [List.nodup_append] at hnd'
 have hdis:∀ y∈F3,y∉F1++F2:=fun y hy hm=>hnd'.2.2 y hm y hy rfl
 have hb12:∀ y∈F1++F2,y<h.length:=fun y hy=>by
  rw [List.mem_append] at hy
  exact hy.elim (rnodes_ok.bd _ _ _ _ hs1 y) (rvers_ok.bd _ _ _ _ hs2 y)
 obtain ⟨h6,a6,c6,h7,F6,F7,e6,e7,r6,r7,m7⟩:=zjU (lo:=lo) (v:=zgs p k s g l) (k:=0) (t:=zby p l) (a3:=a3) (c3:=c3) (m5.keep0 rnodes_ok hs1) (m5.keep0 rvers_ok hs2) r5 (fun y hy hm=>by
  have:=m5.new y hy
  have:=hb12 y (by simp [hm])
  omega) hnd'.1 (fun y hy=>hlo y (by rw [List.mem_append];exact .inl hy)) (Nat.le_trans hl m5.le) h0 g1 hti (zqJ hok hc)
 have hcs:(zlQ p 0 (zby p l) (zgs p k s g l)).cs a1 c1 a2 c2 a3 c3 = [.int .i64 p.me,.int .i64 (zby p l),.sl 2 a1 p.chain.length c1,.sl 6 a2 p.log.length c2,.sl 1 a3 p.got.length c3,.bool p.fell]:=by simp only [Place.cs,zlQ,addN_len]
 rw [hcs] at e7
 have m5':Mv h (F1++F2) h5 (F1++F2):=(m5.drop.aside (G:=F1++F2) hnd'.1 hb12)
 have m8:=m5'.trans m7
 have b3':∀ y∈F3,y<h.length:=rvss_ok.bd _ _ _ _ hs3
 have m9:=m8.aside (G:=F3) hnd b3'
 have hs3':=m8.keep rvss_ok hs3 hdis
 refine ⟨a6,c6,h7,F6++F7++F3,zmo ?_,⟨_,_,_,_,_,_,rfl,_,_,_,F6,F7,F3,rfl,by rw [List.append_assoc],r6,r7,hs3'⟩,m9⟩
 have en:=zk0 (lo:=h.length) (a1:=a1) (c1:=c1) (a2:=a2) (c2:=c2) (a3:=a3) (c3:=c3) hv hok g4
 simp only [Place.cs] at en
 have e6':evl lo 258 [.agg [.sl 2 a1 p.chain.length c1],.int .i64 0,.agg [.int .i64 k,.int .i64 (zby p l),.int .i64 p.me,.sl 2 a5 l.length c5,.str s,.bool g]] h5=some (.agg [.sl 2 a1 p.chain.length c1],h6):=e6
 rw [en,zac,zaa,RTags.rows (Mv.snoc.keep0 rtags_ok hv),zvS (lo':=h.length),e5,zah,e6',zac,zbx,zad,zah,zao,e7,zac,zbx]
 simp only [Place.cs]
 rw [zad,zaa,zad,zaa,zad,zah,zad,zah,zad,zah,zad,zaS,zao]
end
end Go.Proofs.YthdfojchihooeaaGreat
namespace Go.Proofs.YthdfojchihooeaaGreat
open Go T


theorem zlN {p:Place}{k:Int}{s:ByteArray}{g:Bool}{l:List Tag}:zba p k s g l=(zgd ⟨k,⟨0,0⟩,l,s,g⟩&&zgO p l):=by
 unfold zba zgd
 simp only [Bool.and_assoc]
theorem zns {p:Place}{k:Int}{s:ByteArray}{g:Bool}{l:List Tag} (h:zan p=true):zjb p k s g l=bif zba p k s g l then (zd1 (zlQ p 0 (zby p l) (zgs p k s g l)),⟨zby p l,p.me⟩) else (p,⟨0,0⟩):=by unfold zjb;rw [h,cond_true]
section
variable {lo:Nat}{h:Heap}{F F' G:List Nat}{a a' av:Option (Nat×Nat)}{c c' cv:Option Nat}
end
end Go.Proofs.YthdfojchihooeaaGreat
namespace Go.Proofs.YthdfojchihooeaaGreat
open Go T


def zju (p:Place) (f:Nat) (at':Int) (v:Ver):Bool := !((f:Int)==p.me)&&((at'==((zki p f).length:Int))&&(decide (((zki p f).length:Int)<60) && !zcv (zki p f) v.tag))
def zgh (p:Place) (f at':Int) (v:Ver):Bool:=zak f 0 2&&(zbg v&&((v.tag.place==f)&&zju p f.toNat at' v))
def zkh (p:Place) (f:Nat) (v:Ver):Place:=⟨p.me,p.clock,p.chain,p.log,p.got.set f (zki p f ++ [v]),p.fell⟩
def zge (p:Place) (f at':Int) (v:Ver):Place:=bif zgh p f at' v then zkh p f.toNat v else p
theorem zmW {a:Option (List V)}:zmf a a=true:=by unfold zmf;exact (@decide_eq_true_iff _ (_)).2 rfl
theorem zwJ {p:Place}{f:Nat}{v:Ver}{a1 a2 a3:Option (Nat×Nat)}{c1 c2 c3:Option Nat}:(zkh p f v).cs a1 c1 a2 c2 a3 c3=p.cs a1 c1 a2 c2 a3 c3:=by simp only [Place.cs,zkh,List.length_set]
section
variable {lo:Nat}{h:Heap}{F F' G:List Nat}{a a' av:Option (Nat×Nat)}{c c' cv:Option Nat}
theorem zoY {p:Place}{f:Nat}{at':Int}{v:Ver}{a1 a2 a3:Option (Nat×Nat)}{c1 c2 c3:Option Nat}{F3:List Nat} (hs3:RVss false h [.sl 1 a3 p.got.length c3] p.got F3) (hv:RTags false h [.sl 2 av v.past.length cv] v.past G)
  (hf:f<p.got.length) (hgn:p.got[f].length≤1000000) (hvn:v.past.length≤1048576) (hnd:F3.Nodup) (hlo:∀ b∈F3,lo≤b) (hl:lo≤h.length) :
  ∃ h' F3',evl lo 139 [.agg (p.cs a1 c1 a2 c2 a3 c3),.int .i64 (f:Nat),.int .i64 at',.agg (v.cs av cv)] h=some (.tup [.agg (p.cs a1 c1 a2 c2 a3 c3),.bool (zju p f at' v)],h') ∧
   RVss false h' [.sl 1 a3 p.got.length c3] (bif zju p f at' v then p.got.set f (p.got[f] ++ [v]) else p.got) F3'∧Mv h F3 h' F3'∧(zju p f at' v=false→h'=h):=by
 suffices hq:∃ h' F3',_=some (V.tup [.agg (p.cs a1 c1 a2 c2 a3 c3),.bool (zju p f at' v)],h')∧RVss false h' [.sl 1 a3 p.got.length c3] (bif zju p f at' v then p.got.set f (p.got[f] ++ [v]) else p.got) F3'∧Mv h F3 h' F3'∧(zju p f at' v=false→h'=h) from hq.imp fun h' hq=>hq.imp fun F' hq=>⟨zoi hq.1,hq.2⟩
 have hh:zju p f at' v=(!((f:Int)==p.me)&&((at'==(p.got[f].length:Int))&&(decide ((p.got[f].length:Int)<60) && !zcv p.got[f] v.tag))):=by unfold zju;rw [zhi hf]
 rw [hh]
 cases x1:((f:Int)==p.me) with
 | true=>rw [zaN];exact ⟨h,F3,rfl,hs3,Mv.refl hnd,fun _=>rfl⟩
 | false =>
 obtain ⟨b,i,rs,row,G0,ha,hbF,hbG,hb,hrow,hel,hGF,hGn,_,put⟩:=hs3.at rvers_ok hf hnd hlo
 have hrs:∃ s,row = [s]:=by obtain ⟨R',a',c',e,_⟩:=id hel;exact ⟨_,e⟩
 obtain ⟨s,rfl⟩:=hrs
 obtain ⟨b3,d3,es,r3⟩:=hel.form
 have hld:ld h b (i+f) 0 1=some [s]:=by rw [zeR hb hrow];rfl
 rw [za5,zab hf,ha,zam,Int.toNat_natCast,hld,zam,zad,zao,es]
 cases x2:(at'==(p.got[f].length:Int)) with
 | false=>rw [za5];exact ⟨h,F3,rfl,by rw [← ha];exact hs3,Mv.refl hnd,fun _=>rfl⟩
 | true =>
 have hat:at'=(p.got[f].length:Int):=by rwa [beq_iff_eq] at x2
 rw [zaN]
 cases x3:decide ((p.got[f].length:Int)<60) with
 | false =>
  have:(p.got[f].length:Int)≥60:=by have:=of_decide_eq_false x3;omega
  rw [zal (by omega)];exact ⟨h,F3,rfl,by rw [← ha];exact hs3,Mv.refl hnd,fun _=>rfl⟩
 | true =>
 have:(p.got[f].length:Int)<60:=of_decide_eq_true x3
 rw [zaj (by omega),zab hf,zam,hld,zam,zad,zao,es,zix r3 (by omega),zac,zbi]
 have hht:zcv p.got[f] ⟨v.tag.time,v.tag.place⟩=zcv p.got[f] v.tag:=rfl
 rw [hht]
 cases x4:zcv p.got[f] v.tag with
 | true=>rw [zaN];exact ⟨h,F3,rfl,by rw [← ha];exact hs3,Mv.refl hnd,fun _=>rfl⟩
 | false =>
 obtain ⟨a5,c5,h5,F5,e5,r5,m5⟩:=zcb (lo:=h.length) (v:=v) hv (Nat.le_refl _) hvn
 obtain ⟨a6,c6,h6,F6,e6,r6,m6⟩:=zeN (lo:=lo) (bytes:=72) (e:=65) rver_ok r3 (row:=v.cs a5 c5) (x:=v) (G:=F5) (h1:=h5 ++ [.rows 6 65 false [v.cs a5 c5]])
  ⟨_,rfl,Mv.snoc.keep0 rtags_ok r5⟩ (m5.trans (Mv.snoc' m5.nd)) hGn (fun y hy=>hlo y (hGF y hy)) hl (by decide) (by omega)
 rw [show p.got[f].length+1=(p.got[f] ++ [v]).length by simp] at r6
 obtain ⟨h7,F7,e7,r7,m7,_⟩:=put h6 F6 0 [.sl 6 a6 (p.got[f] ++ [v]).length c6] [.sl 6 a6 (p.got[f] ++ [v]).length c6] (p.got[f] ++ [v]) m6 rfl r6
 rw [show (p.got[f] ++ [v]).length=p.got[f].length+1 by simp] at e7
 rw [za5,zab hf,zam,hld,zam,zad,zao,es,e5,zac,zbx,zad,zaa,zad,zaa,zad,zaa,zad,zah,zad,zdl,zad,zaS,zao,zaT]
 simp only [Ver.cs] at e6
 rw [e6,zah,zab hf,zam,e7,zam]
 exact ⟨h7,F7,rfl,by rw [← ha];exact r7,m7,fun g=>by cases g⟩
end
end Go.Proofs.YthdfojchihooeaaGreat
namespace Go.Proofs.YthdfojchihooeaaGreat
open Go T


theorem zgx {a b c d:Int}:zkF a b c d=false↔¬ (a<c∨(a=c∧b<d)):=by
 rw [← Bool.not_eq_true];simp [zkF]
theorem under_iff {p q:List Tag}:zcU p q=true↔∀ (i:Nat) (a b:Tag),p[i]?=some a→q[i]?=some b→zkF b.time b.place a.time a.place=false:=by
 unfold zcU
 rw [List.all_eq_true]
 constructor
 ·intro h i a b ha hb
  have:=h (a,b) (List.mem_iff_getElem?.2 ⟨i,List.getElem?_zip_eq_some.2 ⟨ha,hb⟩⟩)
  simpa using this
 ·rintro h ⟨a,b⟩ hm
  obtain ⟨i,hi⟩:=List.mem_iff_getElem?.1 hm
  rw [List.getElem?_zip_eq_some] at hi
  simpa using h i a b hi.1 hi.2
theorem zgl {p:List Tag}:zcU p p=true:=under_iff.2 fun i a b ha hb=>by
 rw [ha] at hb;injection hb with hb;subst hb
 rw [zgx];omega
theorem zqj {p q r:List Tag} (hl:p.length≤q.length) (h1:zcU p q=true) (h2:zcU q r=true):zcU p r=true:=under_iff.2 fun i a c ha hc=>by
 have hi:=(List.getElem?_eq_some_iff.1 ha).1
 have hb:=List.getElem?_eq_getElem (l:=q) (i:=i) (by omega)
 have x1:=under_iff.1 h1 i a _ ha hb
 have x2:=under_iff.1 h2 i _ c hb hc
 rw [zgx] at x1 x2 ⊢
 omega
theorem zkS {t s:List Ver} (h:upS t s):zcU (zbN t) (zbN s)=true:=under_iff.2 fun i a b ha hb=>by
 unfold zbN at ha hb
 rw [List.getElem?_map,Option.map_eq_some_iff] at ha hb
 obtain ⟨x,hx,rfl⟩:=ha
 obtain ⟨y,hy,rfl⟩:=hb
 rw [zgx]
 rcases h i x y hx hy with rfl | g
 ·omega
 ·rw [ziI] at g;omega
def inCh (l:List Node) (v:Ver):Prop:=∃ x∈l,v∈x.store∨v∈x.wait
section
variable {l:List Node}{v:Ver}
theorem inCh.get (h:inCh l v):∃ (i:Nat) (x:Node),l[i]?=some x∧(v∈x.store∨v∈x.wait):=by
 obtain ⟨x,hx,hv⟩:=h
 obtain ⟨i,hi⟩:=List.mem_iff_getElem?.1 hx
 exact ⟨i,x,hi,hv⟩
theorem inCh.of {i:Nat}{x:Node} (hx:l[i]?=some x) (hv:v∈x.store∨v∈x.wait):inCh l v:=⟨x,List.mem_of_getElem? hx,hv⟩
theorem Ch.ver (h:Ch l) (hv:inCh l v) (ht:0<v.tag.time):zbg v=true:=by
 obtain ⟨i,x,hx,g | g⟩:=hv.get
 ·obtain ⟨j,hj⟩:=List.mem_iff_getElem?.1 g
  rcases zcO (zgF (h.store hx).1 hj) with g2 | g2
  ·have:=(zdV g2).1;omega
  ·exact g2.1
 ·exact (zav (h.node i x hx)).2.2 v g
theorem zcP {i:Nat}{x:Node} (hx:l[i]?=some x) (hi:i+1=l.length):zaO l=zbN x.store:=by
 rw [zhJ (show 0<l.length by omega)]
 obtain ⟨hj,rfl⟩:=List.getElem?_eq_some_iff.1 hx
 have e:l.length - 1=i:=by omega
 simp only [e]
theorem zgy {i:Nat}{x:Node} (hx:l[i]?=some x) (hi:i+1=l.length):zfs l=x.store:=by
 rw [zfD (show 0<l.length by omega)]
 obtain ⟨hj,rfl⟩:=List.getElem?_eq_some_iff.1 hx
 have e:l.length - 1=i:=by omega
 simp only [e]
theorem Ch.tail (h:Ch l):∃ z,l[l.length - 1]?=some z∧l.length - 1+1=l.length:=by
 have:=h.pos
 exact ⟨_,List.getElem?_eq_getElem (by omega),by omega⟩
theorem Ch.four (h:Ch l):(zaO l).length=4∧(zfs l).length=4:=by
 obtain ⟨z,hz,hi⟩:=h.tail
 rw [zcP hz hi,zgy hz hi]
 have:=(h.store hz).2
 exact ⟨by simpa [zbN] using this,this⟩
theorem ziK (h:Ch l):(zhf l).length=l.length+1∧zaO (zhf l)=zaO l∧zfs (zhf l)=zfs l∧(zhf l)[0]?=l[0]?:=by
 have hp:=h.pos
 obtain ⟨z,hz,hi⟩:=h.tail
 obtain ⟨hj,e⟩:=List.getElem?_eq_some_iff.1 hz
 have hn:(zhf l)[l.length]?=some ⟨z.store,[]⟩:=by
  rw [zeV (by omega),List.getElem?_append_right (Nat.le_refl _),Nat.sub_self,e];rfl
 have hl:(zhf l).length=l.length+1:=by rw [zeV (by omega)];simp
 refine ⟨hl,?_,?_,?_⟩
 ·rw [zcP hn (by omega),zcP hz hi]
 ·rw [zgy hn (by omega),zgy hz hi]
 ·rw [zeV (by omega),List.getElem?_append_left (by omega)]
theorem zpr (hp:1≤l.length) (hv:inCh (zhf l) v):inCh l v:=by
 rw [zeV (by omega)] at hv
 obtain ⟨x,hx,g⟩:=hv
 rcases List.mem_append.1 hx with hx | hx
 ·exact ⟨x,hx,g⟩
 ·rw [List.mem_singleton] at hx;subst hx
  rcases g with g | g
  ·exact ⟨_,List.getElem_mem (by omega),.inl g⟩
  ·exact absurd g (by simp)
theorem zps {k:Nat} (hk:k<l.length) (hv:inCh (zde l k) v):inCh l v:=by
 obtain ⟨i,x,hx,g⟩:=hv.get
 rw [zhM hk] at hx
 split at hx
 ·rw [Option.map_eq_some_iff] at hx
  obtain ⟨z,hz,rfl⟩:=hx
  rcases g with g | g
  ·exact .of hz (.inl g)
  ·simp only at g
   split at g
   ·exact .of hz (.inl (zlr g))
   ·simp at g
 ·split at hx
  ·exact .of hx g
  ·exact .of hx g
theorem zkI {j:Nat}{u:Ver} (hv:inCh (zkM l j u) v):inCh l v∨v=u:=by
 unfold zkM at hv
 split at hv
 ·rename_i x hx
  split at hv
  ·rename_i w hw
   cases hl:zbh w u with
   | false=>rw [hl] at hv;exact .inl hv
   | true =>
    rw [hl,cond_true] at hv
    obtain ⟨y,hy,g⟩:=hv
    rcases List.mem_or_eq_of_mem_set hy with hy | rfl
    ·exact .inl ⟨y,hy,g⟩
    ·rcases g with g | g
     ·rcases List.mem_or_eq_of_mem_set g with g | rfl
      ·exact .inl (.of hx (.inl g))
      ·exact .inr rfl
     ·simp only at g
      cases hd:decide (j+1<l.length) with
      | false=>rw [hd] at g;exact .inl (.of hx (.inr g))
      | true =>
       rw [hd,cond_true] at g
       rcases List.mem_append.1 g with g | g
       ·exact .inl (.of hx (.inr g))
       ·exact .inr (by simpa using g)
  ·exact .inl hv
 ·exact .inl hv
theorem zpq {k:Int} (hc:zcY l k=true) (hv:inCh (zhW l k.toNat) v):inCh l v:=by
 obtain ⟨f,x,y,u,r,rfl,hx,hy,hw,hr⟩:=zgq hc
 rw [Int.toNat_natCast,zkA hx hw] at hv
 rcases zkI hv with ⟨z,hz,g⟩ | rfl
 ·rcases List.mem_or_eq_of_mem_set hz with hz | rfl
  ·exact ⟨z,hz,g⟩
  ·rcases g with g | g
   ·exact .of hx (.inl g)
   ·exact .of hx (.inr (by rw [hw];simp only at g;simp [g]))
 ·exact .of hx (.inr (by rw [hw];simp))
theorem znq (h:Ch l):zd7 l=true↔∀ v,inCh l v→0<v.tag.time→zcU v.past (zaO l)=true:=by
 unfold zd7 zet
 rw [List.all_eq_true]
 constructor
 ·rintro hc v ⟨x,hx,g⟩ ht
  have:=hc x hx
  rw [Bool.and_eq_true,List.all_eq_true,List.all_eq_true] at this
  rcases g with g | g
  ·have:=this.1 v g
   rw [Bool.or_eq_true,Bool.not_eq_true',decide_eq_false_iff_not] at this
   exact this.resolve_left fun hn=>hn ht
  ·exact this.2 v g
 ·intro hc x hx
  rw [Bool.and_eq_true,List.all_eq_true,List.all_eq_true]
  refine ⟨fun v hv=>?_,fun v hv=>?_⟩
  ·by_cases ht:v.tag.time>0
   ·rw [hc v ⟨x,hx,.inl hv⟩ ht,Bool.or_true]
   ·rw [decide_eq_false ht];rfl
  ·obtain ⟨i,hi⟩:=List.mem_iff_getElem?.1 hx
   exact hc v ⟨x,hx,.inr hv⟩ (zfB ((zav (h.node i x hi)).2.2 v hv))
theorem zfw {x:Node}{c:Int} (hx:l[0]?=some x):zd4 l c=true↔∀ v∈x.store,v.tag.time≤c:=by
 unfold zd4;rw [hx];simp
theorem zq1 (h:Ch l) {k:Nat} (hk:k<l.length) (h2:1<l.length):zcU (zaO l) (zaO (zde l k))=true:=by
 have hlen:=ziO hk h2
 obtain ⟨z,hz,hi⟩:=h.tail
 obtain ⟨z',hz',hi'⟩:=(h.fall hk h2).tail
 rw [zcP hz hi,zcP hz' hi']
 rw [zhM hk] at hz'
 split at hz'
 ·rename_i e
  rw [Option.map_eq_some_iff] at hz'
  obtain ⟨w,hw,rfl⟩:=hz'
  exact zkS (h.up 1 _ w z hw (by rw [show (zde l k).length - 1+1=l.length - 1 by omega];exact hz))
 ·rename_i e
  split at hz'
  ·omega
  ·rw [show (zde l k).length - 1+1=l.length - 1 by omega,hz] at hz'
   injection hz' with hz';subst hz'
   exact zgl
theorem zsZ (h:Ch l) (hv:zbg v=true):zcU (zaO l) (zaO (zkM l 0 v))=true:=by
 have hp:=h.pos
 have hz:l[0]?=some (l[0]'(by omega)):=List.getElem?_eq_getElem (by omega)
 obtain ⟨u,hu⟩:=h.key hz hv
 rw [zhV hz hu]
 cases hl:zbh u v with
 | false=>exact zgl
 | true =>
  rw [cond_true]
  by_cases h1:l.length=1
  ·rw [zcP hz (by omega),zcP (i:=0) (List.getElem?_set_self (by omega)) (by simpa using h1.symm)]
   exact zkS (upS.set hu hl)
  ·obtain ⟨z,hz',hi⟩:=h.tail
   rw [zcP hz' hi,zcP (i:=l.length - 1) (by rw [List.getElem?_set_ne (by omega)];exact hz') (by simpa using hi)]
   exact zgl
theorem zqE (h:Ch l) {k:Int} (hc:zcY l k=true):zcU (zaO l) (zaO (zhW l k.toNat))=true:=by
 obtain ⟨f,x,y,v,r,rfl,hx,hy,hw,hr⟩:=zgq hc
 have hlk:=h.link f x y hx hy
 rw [hw] at hlk
 obtain ⟨u,hu,hl,_⟩:=fitsL_cons.1 hlk
 have hf1:=(List.getElem?_eq_some_iff.1 hy).1
 obtain ⟨z,hz,hi⟩:=h.tail
 have hy':(l.set f ⟨x.store,r⟩)[f+1]?=some y:=by rw [List.getElem?_set_ne (by omega)];exact hy
 rw [Int.toNat_natCast,zkA hx hw,zhV hy' hu,hl,cond_true,zcP hz hi]
 by_cases he:f+1=l.length - 1
 ·rw [he,hz] at hy;injection hy with hy;subst hy
  rw [zcP (i:=f+1) (List.getElem?_set_self (by simpa using hf1)) (by simp;omega)]
  exact zkS (upS.set hu hl)
 ·rw [zcP (i:=l.length - 1) (x:=z) (by rw [List.getElem?_set_ne (by omega),List.getElem?_set_ne (by omega)];exact hz) (by simpa using hi)]
  exact zgl
theorem zuT {t s:List Ver}{c:Int} (h:upS t s) (hl:t.length≤s.length) (hs:∀ v∈s,v.tag.time≤c):∀ v∈t,v.tag.time≤c:=fun v hv=>by
 obtain ⟨i,hi⟩:=List.mem_iff_getElem?.1 hv
 have hlt:=(List.getElem?_eq_some_iff.1 hi).1
 have hy:=List.getElem?_eq_getElem (l:=s) (i:=i) (by omega)
 have:=hs _ (List.getElem_mem (show i<s.length by omega))
 rcases h i v _ hi hy with rfl | g
 ·exact this
 ·rw [ziI] at g;omega
theorem zuj (h:Ch l) {k:Nat}{c:Int} (hk:k<l.length) (h2:1<l.length) (hh:zd4 l c=true):zd4 (zde l k) c=true:=by
 have hlen:=ziO hk h2
 have h0:l[0]?=some (l[0]'(by omega)):=List.getElem?_eq_getElem (by omega)
 have h1:l[1]?=some (l[1]'(by omega)):=List.getElem?_eq_getElem (by omega)
 have hh0:=(zfw h0).1 hh
 have hx:(zde l k)[0]?=some ((zde l k)[0]'(by omega)):=List.getElem?_eq_getElem (by omega)
 rw [zfw hx]
 rw [zhM hk] at hx
 split at hx
 ·rw [h0,Option.map_some] at hx
  injection hx with hx
  rw [← hx];exact hh0
 ·split at hx
  ·rw [h0] at hx;injection hx with hx
   rw [← hx];exact hh0
  ·rw [Nat.zero_add,h1] at hx;injection hx with hx
   rw [← hx]
   exact zuT (h.up 1 0 _ _ h0 h1) (by rw [(h.store h0).2,(h.store h1).2];exact Nat.le_refl _) hh0
theorem zvT (h:Ch l) {c t:Int} (hv:zbg v=true) (hh:zd4 l c=true) (hc:c≤t) (hvt:v.tag.time≤t):zd4 (zkM l 0 v) t=true:=by
 have hp:=h.pos
 have hz:l[0]?=some (l[0]'(by omega)):=List.getElem?_eq_getElem (by omega)
 obtain ⟨u,hu⟩:=h.key hz hv
 have hh0:=(zfw hz).1 hh
 rw [zhV hz hu]
 cases hl:zbh u v with
 | false=>rw [cond_false,zfw hz];exact fun w hw=>by have:=hh0 w hw;omega
 | true =>
  rw [cond_true,zfw (List.getElem?_set_self (by omega))]
  intro w hw
  rcases List.mem_or_eq_of_mem_set hw with hw | rfl
  ·have:=hh0 w hw;omega
  ·exact hvt
theorem ztB (h:Ch l) {k:Int}{c:Int} (hc:zcY l k=true) (hh:zd4 l c=true):zd4 (zhW l k.toNat) c=true:=by
 obtain ⟨f,x,y,v,r,rfl,hx,hy,hw,hr⟩:=zgq hc
 have hlk:=h.link f x y hx hy
 rw [hw] at hlk
 obtain ⟨u,hu,hl,_⟩:=fitsL_cons.1 hlk
 have hf:=(List.getElem?_eq_some_iff.1 hx).1
 have hy':(l.set f ⟨x.store,r⟩)[f+1]?=some y:=by rw [List.getElem?_set_ne (by omega)];exact hy
 rw [Int.toNat_natCast,zkA hx hw,zhV hy' hu,hl,cond_true]
 by_cases h0:f=0
 ·subst h0
  rw [zfw (x:=⟨x.store,r⟩) (by rw [List.getElem?_set_ne (by omega),List.getElem?_set_self hf])]
  exact (zfw hx).1 hh
 ·have hz:l[0]?=some (l[0]'(by omega)):=List.getElem?_eq_getElem (by omega)
  rw [zfw (x:=l[0]'(by omega)) (by rw [List.getElem?_set_ne (by omega),List.getElem?_set_ne (by omega)];exact hz)]
  exact (zfw hz).1 hh
end
theorem zwx {p:Place} (h1:0≤p.me∧p.me≤2) (h2:0≤p.clock∧p.clock≤999) (h3:p.got.length=3) (h4:zcF p.chain=true) (h5:zd7 p.chain=true) (h6:ze5 p.me p.log=true)
  (h7:∀ i (hi:i<p.got.length),ziM p.me i p.got[i]=true) (h8:zd4 p.chain p.clock=true):zan p=true:=by
 unfold zan
 simp only [Bool.and_eq_true,zdT,decide_eq_true_eq,zak]
 exact ⟨⟨⟨⟨⟨⟨⟨h1,h2⟩,h3⟩,h4⟩,h5⟩,h6⟩,h7⟩,h8⟩
theorem zxw {m:Int}{l:List Ver} (h1:l.length≤60) (h2:∀ i (hi:i<l.length),zbg l[i]=true∧l[i].tag.place=m∧zcv (l.take i) l[i].tag=false):ze5 m l=true:=by
 unfold ze5
 rw [Bool.and_eq_true,zdT,decide_eq_true_eq]
 refine ⟨fun i hi=>?_,by omega⟩
 obtain ⟨g1,g2,g3⟩:=h2 i hi
 unfold znM
 rw [g1,g2,g3];simp
theorem zrA {m:Int}{l:List Ver}{v:Ver} (h:ze5 m l=true) (hv:zbg v=true) (hp:v.tag.place=m) (ht:zcv l v.tag=false) (hl:l.length<60):ze5 m (l ++ [v])=true:=by
 obtain ⟨h1,h2⟩:=zgw h
 refine zxw (by simp;omega) fun i hi=>?_
 by_cases hil:i<l.length
 ·rw [List.getElem_append_left hil,List.take_append_of_le_length (by omega)]
  exact h2 i hil
 ·have e:i=l.length:=by simp at hi;omega
  subst e
  rw [List.getElem_append_right (Nat.le_refl _),List.take_append_of_le_length (Nat.le_refl _),List.take_length]
  simp only [Nat.sub_self,List.getElem_cons_zero]
  exact ⟨hv,hp,ht⟩
theorem zpf {m:Int}:∀ {vs l:List Ver},(∀ v∈vs,0<v.tag.time→zbg v=true)→ze5 m l=true→l.length+vs.length≤60→ze5 m (vs.foldl (noted m) l)=true
 | [],l,_,h,_=>h
 | v :: vs,l,hv,h,hl=>by
  rw [List.length_cons] at hl
  rw [List.foldl_cons]
  have h3:=ztH (me:=m) (log:=l) (v:=v)
  refine zpf (fun w hw=>hv w (by simp [hw])) ?_ (by omega)
  unfold noted
  cases hc:(decide (v.tag.time>0)&&(v.tag.place==m && !zcv l v.tag)) with
  | false=>exact h
  | true =>
   simp only [Bool.and_eq_true,decide_eq_true_eq,beq_iff_eq,Bool.not_eq_true'] at hc
   exact zrA h (hv v (by simp) hc.1) hc.2.1 hc.2.2 (by omega)
theorem hasTag_mem {l:List Ver}{t:Tag}:zcv l t=true↔∃ v∈l,v.tag=t:=by
 unfold zcv
 rw [List.any_eq_true]
 constructor
 ·rintro ⟨v,hv,g⟩
  rw [Bool.and_eq_true,beq_iff_eq,beq_iff_eq] at g
  exact ⟨v,hv,by cases hv:v.tag;cases t;simp_all⟩
 ·rintro ⟨v,hv,rfl⟩
  exact ⟨v,hv,by simp⟩
theorem zli {m:Int}:∀ {vs l:List Ver},(∀ v∈vs,0<v.tag.time→v.tag.place=m→zcv (vs.foldl (noted m) l) v.tag=true)∧∃ r,vs.foldl (noted m) l=l++r
 | [],l=>⟨by simp,[],by simp⟩
 | v :: vs,l=>by
  obtain ⟨h1,r,h2⟩:=zli (m:=m) (vs:=vs) (l:=noted m l v)
  rw [List.foldl_cons]
  have hr:∃ r',noted m l v=l++r':=by
   unfold noted
   cases decide (v.tag.time>0)&&(v.tag.place==m && !zcv l v.tag)
   ·exact ⟨[],by simp⟩
   ·exact ⟨[v],rfl⟩
  obtain ⟨r',hr'⟩:=hr
  refine ⟨fun w hw ht hp=>?_,r'++r,by rw [h2,hr',List.append_assoc]⟩
  rcases List.mem_cons.1 hw with rfl | hw
  ·have hx:zcv (noted m l w) w.tag=true:=by
    unfold noted
    rw [decide_eq_true ht,hp,zqg,Bool.true_and,Bool.true_and]
    cases hc:zcv l w.tag with
    | true=>exact hc
    | false=>exact hasTag_mem.2 ⟨w,by simp,rfl⟩
   obtain ⟨u,hu,e⟩:=hasTag_mem.1 hx
   rw [h2]
   exact hasTag_mem.2 ⟨u,List.mem_append_left _ hu,e⟩
  ·exact h1 w hw ht hp
section
variable {p:Place}
theorem zic (h:zan p=true):Ch p.chain:=chain_iff.1 (zaK h).2.2.2.1
theorem zvf (h:Ch p.chain):∀ v∈zfs p.chain,0<v.tag.time→zbg v=true:=fun v hv ht=>by
 obtain ⟨z,hz,hi⟩:=h.tail
 rw [zgy hz hi] at hv
 exact h.ver (.of hz (.inl hv)) ht
theorem znI (h:zan p=true) (hl:p.log.length≤56):zan (zd1 p)=true:=by
 have hc:=zic h
 obtain ⟨h1,h2,h3,h4,h5,h6,h7,h8⟩:=zaK h
 exact zwx (p:=zd1 p) h1 h2 h3 h4 h5 (zpf (zvf hc) h6 (by have:=hc.four.2;omega)) h7 h8
theorem zkB {l':List Node}{t:Int}{f:Bool} (h:zan p=true) (hc:Ch l') (hv:∀ v,inCh l' v→0<v.tag.time→inCh p.chain v∨zcU v.past (zaO p.chain)=true)
  (hs:zcU (zaO p.chain) (zaO l')=true) (ht:0≤t∧t≤999) (hh:zd4 l' t=true):zan ⟨p.me,t,l',p.log,p.got,f⟩=true:=by
 have hc0:=zic h
 obtain ⟨h1,h2,h3,h4,h5,h6,h7,h8⟩:=zaK h
 refine zwx (p:=⟨p.me,t,l',p.log,p.got,f⟩) h1 ht h3 (chain_iff.2 hc) ((znq hc).2 fun v hvc hvt=>?_) h6 h7 hh
 have hpl:=zbq (zaA (hc.ver hvc hvt)).2.2.2.1
 refine zqj (by rw [hpl,hc0.four.1];exact Nat.le_refl _) ?_ hs
 rcases hv v hvc hvt with g | g
 ·exact (znq hc0).1 h5 v g hvt
 ·exact g
theorem zqH (h:zan p=true):zan (ze6 p)=true:=by
 have hc:=zic h
 have hp:=hc.pos
 unfold ze6 zdW
 cases hj:zct p.chain with
 | false=>rw [cond_false];exact h
 | true =>
  have hl:p.chain.length<4:=by
   unfold zct at hj
   have:=of_decide_eq_true hj;omega
  obtain ⟨_,e1,e2,e3⟩:=ziK hc
  have h8:=(zaK h).2.2.2.2.2.2.2
  rw [cond_true]
  refine zkB h (hc.join hl) (fun v hv _ => .inl (zpr hp hv)) (by rw [e1];exact zgl) (zaK h).2.1 ?_
  unfold zd4 at h8 ⊢
  rw [e3];exact h8
theorem zng {l:List Node}{k:Int} (h:zhS l k=true):∃ f:Nat,k=(f:Int)∧f<l.length∧1<l.length:=by
 simp only [zhS,zak,Bool.and_eq_true,decide_eq_true_eq] at h
 exact ⟨k.toNat,by omega,by omega,h.2⟩
theorem zwz {k:Int} (h:zan p=true) (hl:p.log.length≤56):zan (ze2 p k)=true:=by
 have hc:=zic h
 unfold ze2
 cases hf:zd9 p k with
 | false=>exact h
 | true =>
  unfold zd9 at hf
  rw [Bool.and_eq_true] at hf
  obtain ⟨f,rfl,h1,h2⟩:=zng hf.2
  rw [cond_true,Int.toNat_natCast]
  refine znI ?_ hl
  exact zkB h (hc.fall h1 h2) (fun v hv _ => .inl (zps h1 hv)) (zq1 hc h1 h2) (zaK h).2.1 (zuj hc h1 h2 (zaK h).2.2.2.2.2.2.2)
theorem zww {k:Int} (h:zan p=true) (hl:p.log.length≤56):zan (ze1 p k)=true:=by
 have hc:=zic h
 unfold ze1
 cases hf:zcY p.chain k with
 | false=>exact h
 | true =>
  rw [cond_true]
  refine znI ?_ hl
  exact zkB h (hc.pass hf) (fun v hv _ => .inl (zpq hf hv)) (zqE hc hf) (zaK h).2.1 (ztB hc hf (zaK h).2.2.2.2.2.2.2)
theorem zv4 {v:Ver}{t:Int} (h:zan p=true) (hv:zbg v=true) (hr:zgp p.chain 0=true) (hu:zcU v.past (zaO p.chain)=true) (h1:p.clock≤t) (h2:v.tag.time≤t) (h3:t≤999):zan (zlQ p 0 t v)=true:=by
 have hc:=zic h
 have hcl:=(zaK h).2.1
 exact zkB h (hc.add hv hr) (fun w hw _=>(zkI hw).imp id fun e=>by rw [e];exact hu) (zsZ hc hv) ⟨by omega,h3⟩ (zvT hc hv (zaK h).2.2.2.2.2.2.2 h1 h2)
theorem zvb {t c:Int}:t≤zg1 t c∧c≤zg1 t c∧(zg1 t c=t∨zg1 t c=c):=by unfold zg1;split<;>omega
theorem zrB {f:Nat}{v:Ver} (h:zan p=true) (hv:ziJ p f=some v):zbg v=true∧v.tag.place=(f:Int)∧(f:Int)≠p.me∧f<3:=by
 unfold ziJ at hv
 have hm:=List.mem_of_find?_eq_some hv
 unfold zki at hm
 have h3:=(zaK h).2.2.1
 cases hg:p.got[f]? with
 | none=>rw [hg] at hm;simp at hm
 | some l =>
  rw [hg] at hm
  simp only at hm
  obtain ⟨hf,rfl⟩:=List.getElem?_eq_some_iff.1 hg
  have g:=(zaK h).2.2.2.2.2.2.1 f hf
  unfold ziM at g
  rw [Bool.and_eq_true] at g
  obtain ⟨i,hi,rfl⟩:=List.mem_iff_getElem.1 hm
  obtain ⟨q1,q2,_⟩:=(zgw g.1).2 i hi
  refine ⟨q1,q2,fun e=>?_,by omega⟩
  have:=g.2
  rw [e,zqg,Bool.not_true,Bool.false_or,decide_eq_true_eq] at this
  omega
theorem zwv {k:Int} (h:zan p=true) (hl:p.log.length≤56):zan (ze0 p k)=true:=by
 unfold ze0
 cases hk:zd8 p k with
 | false=>exact h
 | true =>
  rw [cond_true]
  unfold zd8 at hk
  rw [Bool.and_eq_true] at hk
  have hk:=hk.2
  unfold znv at hk
  unfold znx
  cases hv:ziJ p k.toNat with
  | none=>exact h
  | some v =>
   rw [hv] at hk
   simp only [Bool.and_eq_true] at hk
   obtain ⟨v1,v2,v3,v4⟩:=zrB h hv
   have:=zdn (zaA v1).2.2.2.2.1
   have hcl:=(zaK h).2.1
   have hn:=zvb (t:=v.tag.time) (c:=p.clock)
   exact znI (zv4 h v1 hk.1 hk.2 hn.2.1 hn.1 (by omega)) hl
theorem zpe {k:Int}{s:ByteArray}{g:Bool}{l:List Tag} (h:zan p=true) (hc:zba p k s g l=true):zbg (zgs p k s g l)=true:=by
 rw [zlN,Bool.and_eq_true] at hc
 have hm:=hc.2
 obtain ⟨h1,h2,h3,h4,h5,h6,h7,h8⟩:=zgD (by rw [zlN,hc.1,hc.2];rfl:zba p k s g l=true)
 have ht:=zkT h h4
 have hme:=(zaK h).1
 unfold zbg
 rw [Bool.and_eq_true,Bool.and_eq_true]
 refine ⟨⟨hc.1,?_⟩,?_⟩
 ·show zbj (zby p l) p.me=true
  simp [zbj,zak];omega
 ·show decide (zeT l<zby p l)=true
  exact decide_eq_true (by omega)
theorem zu9 {k:Int}{s:ByteArray}{g:Bool}{l:List Tag} (h:zan p=true):zan (zjb p k s g l).1=true:=by
 rw [zns h]
 cases hc:zba p k s g l with
 | false=>exact h
 | true =>
  obtain ⟨h1,h2,h3,h4,h5,h6,h7,h8⟩:=zgD hc
  have ht:=zkT h h4
  exact znI (zv4 h (zpe h hc) h6 h5 (by omega) (Int.le_refl _) h7) (by show p.log.length≤56;omega)
theorem zwy {f a:Int}{v:Ver} (h:zan p=true):zan (zge p f a v)=true:=by
 unfold zge
 cases hc:zgh p f a v with
 | false=>exact h
 | true =>
  simp only [zgh,zju,zak,Bool.and_eq_true,decide_eq_true_eq,beq_iff_eq,Bool.not_eq_true'] at hc
  obtain ⟨⟨h1,h2⟩,h3,h4,h5,h6,h7,h8⟩:=hc
  obtain ⟨q1,q2,q3,q4,q5,q6,q7,q8⟩:=zaK h
  have hf:f.toNat<p.got.length:=by omega
  have e:((f.toNat:Nat):Int)=f:=by omega
  rw [cond_true]
  refine zwx (p:=zkh p f.toNat v) q1 q2 (by simpa [zkh] using q3) q4 q5 q6 (fun i hi=>?_) q8
  have hi':i<p.got.length:=by simpa [zkh] using hi
  show ziM p.me i ((p.got.set f.toNat (zki p f.toNat ++ [v]))[i]'(by simpa using hi'))=true
  rw [List.getElem_set]
  split
  ·rename_i ei
   subst ei
   rw [zhi hf] at h7 h8 ⊢
   unfold ziM
   rw [zrA (zqZ h hf) h3 (by omega) h8 (by omega),Bool.true_and]
   rw [beq_eq_false_iff_ne] at h5
   rw [beq_eq_false_iff_ne.2 h5];rfl
  ·exact q7 i hi'
end
end Go.Proofs.YthdfojchihooeaaGreat
namespace Go.Proofs.YthdfojchihooeaaGreat
open Go T


structure Sess where
 place:Int
 past:List Tag
 wait:Tag
 key:Int
structure Done where
 sess:Int
 kind:Int
 key:Int
 tag:Tag
structure World where
 places:List Place
 sess:List Sess
 net:List Frame
 hist:List Done
abbrev zxA (ro:Bool):Nat:=bif ro then 187 else 89
abbrev zxX (ro:Bool):Nat:=bif ro then 194 else 115
abbrev zv8 (ro:Bool):Nat:=bif ro then 199 else 173
abbrev zxY (ro:Bool):Nat:=bif ro then 208 else 179
abbrev Sess.cs (s:Sess) (a:Option (Nat×Nat)) (c:Option Nat):List V := [.int .i64 s.place,.sl 2 a s.past.length c,.int .i64 s.wait.time,.int .i64 s.wait.place,.int .i64 s.key]
abbrev Done.cs (d:Done):List V := [.int .i64 d.sess,.int .i64 d.kind,.int .i64 d.key,.int .i64 d.tag.time,.int .i64 d.tag.place]
abbrev World.cs (w:World) (a1:Option (Nat×Nat)) (c1:Option Nat) (a2:Option (Nat×Nat)) (c2:Option Nat) (a3:Option (Nat×Nat)) (c3:Option Nat) (a4:Option (Nat×Nat)) (c4:Option Nat):List V :=
 [.sl 6 a1 w.places.length c1,.sl 5 a2 w.sess.length c2,.sl 9 a3 w.net.length c3,.sl 5 a4 w.hist.length c4]
abbrev RPlaces (ro:Bool):Rel (List Place):=Sli ro 6 (zxA ro) (RPlace ro)
def RSess (ro:Bool):Rel Sess:=fun h cs s F=>∃ v,cs = [.int .i64 s.place,v,.int .i64 s.wait.time,.int .i64 s.wait.place,.int .i64 s.key]∧RTags ro h [v] s.past F
abbrev RSesss (ro:Bool):Rel (List Sess):=Sli ro 5 (zxX ro) (RSess ro)
abbrev RFrames (ro:Bool):Rel (List Frame):=Sli ro 9 (zv8 ro) (zuP ro)
abbrev RDones (ro:Bool):Rel (List Done):=Sli ro 5 (zxY ro) (flat Done.cs)
def zrZ (ro:Bool):Rel World:=fun h cs w F=>∃ s1 s2 s3 s4 F1 F2 F3 F4,cs = [s1,s2,s3,s4]∧F=F1++(F2++(F3++F4))∧RPlaces ro h [s1] w.places F1∧RSesss ro h [s2] w.sess F2∧RFrames ro h [s3] w.net F3∧RDones ro h [s4] w.hist F4
theorem rplaces_ok {ro:Bool}:(RPlaces ro).Ok:=Sli.ok rplace_ok
theorem zhC {ro:Bool}:(RSess ro).Ok :=
 ⟨fun h h' cs x F ⟨s,h1,h2⟩ hb=>⟨s,h1,rtags_ok.fr _ _ _ _ _ h2 hb⟩,fun h cs x F ⟨s,_,h2⟩=>rtags_ok.bd _ _ _ _ h2⟩
theorem rsesss_ok {ro:Bool}:(RSesss ro).Ok:=Sli.ok zhC
theorem rframes_ok {ro:Bool}:(RFrames ro).Ok:=Sli.ok rframe_ok
theorem rdones_ok {ro:Bool}:(RDones ro).Ok:=Sli.ok zcE
section
variable {ro:Bool}{h:Heap}{F:List Nat}{a:Option (Nat×Nat)}{c:Option Nat}{n k:Nat}
theorem RPlaces.get {l:List Place} (hs:RPlaces ro h [.sl 6 a n c] l F) (hk:k<l.length):∃ o s1 s2 s3 a1 c1 a2 c2 a3 c3 F1 F2 F3,a=some o ∧
  ld h o.1 (o.2+k) 0 6=some [.int .i64 l[k].me,.int .i64 l[k].clock,s1,s2,s3,.bool l[k].fell]∧ld h o.1 (o.2+k) 0 1=some [.int .i64 l[k].me]∧ld h o.1 (o.2+k) 2 1=some [s1]∧ld h o.1 (o.2+k) 3 1=some [s2]∧ld h o.1 (o.2+k) 4 1=some [s3] ∧
  (∀ {R':Type} (K:Option (Nat×Nat)→Nat→Option Nat→Option R'),eS 2 s1 K=K a1 l[k].chain.length c1)∧(∀ {R':Type} (K:Option (Nat×Nat)→Nat→Option Nat→Option R'),eS 6 s2 K=K a2 l[k].log.length c2) ∧
  (∀ {R':Type} (K:Option (Nat×Nat)→Nat→Option Nat→Option R'),eS 1 s3 K=K a3 l[k].got.length c3) ∧
  RNodes ro h [.sl 2 a1 l[k].chain.length c1] l[k].chain F1∧RVers ro h [.sl 6 a2 l[k].log.length c2] l[k].log F2∧RVss ro h [.sl 1 a3 l[k].got.length c3] l[k].got F3∧(∀ b,b∈F1∨b∈F2∨b∈F3→b∈F):=by
 obtain ⟨o,row,G,h1,h2,hv,hG,_⟩:=hs.read hk
 obtain ⟨s1,s2,s3,a1,c1,a2,c2,a3,c3,F1,F2,F3,rfl,rfl,e1,e2,e3,g1,g2,g3⟩:=hv.form
 exact ⟨o,s1,s2,s3,a1,c1,a2,c2,a3,c3,F1,F2,F3,h1,by rw [h2];rfl,by rw [h2];rfl,by rw [h2];rfl,by rw [h2];rfl,by rw [h2];rfl,e1,e2,e3,g1,g2,g3,fun b hb=>hG b (by simpa using hb)⟩
theorem RSess.form {row:List V}{s:Sess} (hv:RSess ro h row s F):∃ v a c,row = [.int .i64 s.place,v,.int .i64 s.wait.time,.int .i64 s.wait.place,.int .i64 s.key] ∧
  (∀ {R':Type} (K:Option (Nat×Nat)→Nat→Option Nat→Option R'),eS 2 v K=K a s.past.length c)∧RTags ro h [.sl 2 a s.past.length c] s.past F:=by
 obtain ⟨v,rfl,hp⟩:=hv
 obtain ⟨a,c,es,hp2⟩:=hp.form
 exact ⟨v,a,c,rfl,es,hp2⟩
theorem RSesss.get {l:List Sess} (hs:RSesss ro h [.sl 5 a n c] l F) (hk:k<l.length):∃ o v a' c' G,a=some o∧ld h o.1 (o.2+k) 0 5=some [.int .i64 l[k].place,v,.int .i64 l[k].wait.time,.int .i64 l[k].wait.place,.int .i64 l[k].key] ∧
  ld h o.1 (o.2+k) 0 1=some [.int .i64 l[k].place]∧ld h o.1 (o.2+k) 1 1=some [v] ∧
  (∀ {R':Type} (K:Option (Nat×Nat)→Nat→Option Nat→Option R'),eS 2 v K=K a' l[k].past.length c')∧RTags ro h [.sl 2 a' l[k].past.length c'] l[k].past G∧(∀ b∈G,b∈F):=by
 obtain ⟨o,row,G,h1,h2,hv,hG,_⟩:=hs.read hk
 obtain ⟨v,a',c',rfl,es,hp⟩:=hv.form
 exact ⟨o,v,a',c',G,h1,by rw [h2];rfl,by rw [h2];rfl,by rw [h2];rfl,es,hp,hG⟩
theorem RFrames.get {l:List Frame} (hs:RFrames ro h [.sl 9 a n c] l F) (hk:k<l.length):∃ o s a' c' G,a=some o ∧
  ld h o.1 (o.2+k) 0 9=some [.int .i64 l[k].fro,.int .i64 l[k].to,.int .i64 l[k].at',.int .i64 l[k].ver.key,.int .i64 l[k].ver.tag.time,.int .i64 l[k].ver.tag.place,s,.str l[k].ver.text,.bool l[k].ver.gone] ∧
  (∀ {R':Type} (K:Option (Nat×Nat)→Nat→Option Nat→Option R'),eS 2 s K=K a' l[k].ver.past.length c')∧RTags ro h [.sl 2 a' l[k].ver.past.length c'] l[k].ver.past G∧(∀ b∈G,b∈F):=by
 obtain ⟨o,row,G,h1,h2,⟨vs,rfl,hv⟩,hG,_⟩:=hs.read hk
 obtain ⟨s,a',c',rfl,es,hp⟩:=hv.form
 exact ⟨o,s,a',c',G,h1,by rw [h2];rfl,es,hp,hG⟩
theorem RDones.get {l:List Done} (hs:RDones ro h [.sl 5 a n c] l F) (hk:k<l.length):∃ o,a=some o∧ld h o.1 (o.2+k) 0 5=some l[k].cs:=by
 obtain ⟨o,row,G,h1,h2,⟨rfl,_⟩,_⟩:=hs.read hk
 exact ⟨o,h1,by rw [h2];rfl⟩
end
def zti (w:World):Prop:=(w.places.length≤1048576∧∀ p∈w.places,zcc p)∧(w.sess.length≤1048576∧∀ s∈w.sess,s.past.length≤1048576)∧(w.net.length≤1048576∧∀ f∈w.net,f.ver.past.length≤1048576∧f.ver.text.size≤1048576)∧w.hist.length≤1048576
section
variable {lo:Nat}{ro ro':Bool}{h:Heap}{F F':List Nat}{a a':Option (Nat×Nat)}{c c':Option Nat}{left:Int}
end
end Go.Proofs.YthdfojchihooeaaGreat
namespace Go.Proofs.YthdfojchihooeaaGreat
open Go T


def zuU (p:Place) (to at':Int):Bool:=zan p&&zak to 0 2 && !(p.me==to)&&zak at' 0 (p.log.length - 1)
def told (p:Place) (to at':Int):Frame:=bif zuU p to at' then ⟨p.me,to,at',(p.log[at'.toNat]?).getD zvX⟩ else ⟨0,0,0,zvX⟩
section
variable {lo:Nat}{h:Heap}{F F':List Nat}{a a':Option (Nat×Nat)}{c c':Option Nat}
end
end Go.Proofs.YthdfojchihooeaaGreat
namespace Go.Proofs.YthdfojchihooeaaGreat
open Go T


def zf7 (s:Sess):Bool:=zak s.place 0 2&&zbr s.past&&zbj s.wait.time s.wait.place&&zak s.key 0 3&&(decide (s.wait.time>0) || s.key==0)&&(s.wait.time==0 || s.wait.place==s.place)
def zpK (d:Done):Bool:=zak d.sess 0 3&&zak d.kind 1 3&&zak d.key 0 3&&zbj d.tag.time d.tag.place&&(d.kind==2 || decide (d.tag.time>0))
def zhd (l:List Place) (k:Nat):List Ver:=match l[k]? with
 | some p=>p.log
 | none => []
theorem zpg {l:List Place}{k:Nat} (hk:k<l.length):zhd l k=l[k].log:=by unfold zhd;rw [List.getElem?_eq_getElem hk]
section
variable {lo:Nat}{ro ro':Bool}{h:Heap}{F F':List Nat}{a a':Option (Nat×Nat)}{c c':Option Nat}
end
end Go.Proofs.YthdfojchihooeaaGreat
namespace Go.Proofs.YthdfojchihooeaaGreat
open Go T


abbrev zxW (n:Int):List V := [.int .i64 n]
abbrev RInts:Rel (List Int):=Sli false 1 3 (flat zxW)
section
variable {lo:Nat}{h:Heap}{F F' F1:List Nat}{a a' a1 a2 a3 a4:Option (Nat×Nat)}{c c' c1 c2 c3 c4:Option Nat}{k:Int}
theorem RInts.get {l:List Int}{n i:Nat} (hs:RInts h [.sl 1 a n c] l F) (hi:i<l.length):∃ o,a=some o∧ld h o.1 (o.2+i) 0 1=some [.int .i64 l[i]]:=by
 obtain ⟨o,row,G,h1,h2,⟨rfl,_⟩,_⟩:=hs.read hi
 exact ⟨o,h1,by rw [h2];rfl⟩
end
end Go.Proofs.YthdfojchihooeaaGreat
namespace Go.Proofs.YthdfojchihooeaaGreat
open Go T


def zeQ (l:List Node) (k:Nat):Nat:=if k=0∧1<l.length then 1 else k
def zk6 (l:List Node) (k key:Nat):Option Ver:=(zft l (zeQ l k))[key]?
section
variable {lo:Nat}{ro:Bool}{h:Heap}{F F' F1:List Nat}{a a' a1 a2 a3 a4:Option (Nat×Nat)}{c c' c1 c2 c3 c4:Option Nat}
theorem ziy {l:List Node}{k key:Nat} (hs:RNodes false h [.sl 2 a l.length c] l F) (hk:k<l.length) (hst:∀ x∈l,zaF x.store=true) (hkey:key<4) (hl:lo≤h.length) (hn1:l.length≤1048576) :
  ∃ v a' c' h' G,evl lo 80 [.agg [.sl 2 a l.length c],.int .i64 (k:Nat),.int .i64 (key:Nat)] h=some (.agg (Ver.cs v a' c'),h')∧zk6 l k key=some v∧RTags false h' [.sl 2 a' v.past.length c'] v.past G∧Mv h [] h' G:=by
 suffices hq:∃ v a' c' h' G,_=some (V.agg (Ver.cs v a' c'),h')∧zk6 l k key=some v∧RTags false h' [.sl 2 a' v.past.length c'] v.past G∧Mv h [] h' G from by
  obtain ⟨v,a',c',h',G,e,hr⟩:=hq
  exact ⟨v,a',c',h',G,zmq e,hr⟩
 have hql:zeQ l k<l.length:=by unfold zeQ;split<;>omega
 obtain ⟨o,s1,s2,b1,d1,b2,d2,H1,H2,ha,_,ho1,_,q1,_,p1,_⟩:=hs.get hql
 have hs4:=hst _ (List.getElem_mem hql)
 have hkl:key<l[zeQ l k].store.length:=by rw [zaH hs4];exact hkey
 obtain ⟨o2,t,b3,d3,G,ha2,ho2,es2,pv,_⟩:=p1.get hkl
 obtain ⟨a5,c5,h5,F5,e5,r5,m5⟩:=zcb (lo:=lo) (v:=l[zeQ l k].store[key]) pv hl ((zhA hs4).2 _ (List.getElem_mem hkl)).1
 have hsh:zk6 l k key=some l[zeQ l k].store[key]:=by
  unfold zk6
  rw [zdS hql,List.getElem?_eq_getElem hkl]
 generalize l[zeQ l k].store[key]=v at ho2 es2 pv e5 r5 hsh
 generalize l[zeQ l k].store.length=n1 at q1 hkl ha2
 refine ⟨v,a5,c5,h5,F5,?_,hsh,r5,m5⟩
 simp only [Ver.cs] at e5
 by_cases hk0:k=0
 ·rw [show (((k:Nat):Int)==0)=true by rw [beq_iff_eq];omega,zaN]
  by_cases h1:1<l.length
  ·have hsa:zeQ l k=1:=by unfold zeQ;rw [if_pos ⟨hk0,h1⟩]
   rw [hsa] at ho1
   rw [zal (by omega),zdd ⟨by omega,by omega⟩,ha,zam,ho1,zam,zad,zao,q1,zab hkl,ha2,zam,Int.toNat_natCast,ho2,zam,zad,zaa,zad,zaa,zad,zaa,zad,es2,zad,zdl,zad,zaS,zao,e5,zac,zbx,zad,zaa,zad,zaa,zad,zaa,zad,zah,zad,zdl,zad,zaS,zao]
  ·have hsa:zeQ l k=k:=by unfold zeQ;rw [if_neg (by omega)]
   rw [hsa] at ho1
   rw [zaj (by omega),zab hk,ha,zam,Int.toNat_natCast,ho1,zam,zad,zao,q1,zab hkl,ha2,zam,Int.toNat_natCast,ho2,zam,zad,zaa,zad,zaa,zad,zaa,zad,es2,zad,zdl,zad,zaS,zao,e5,zac,zbx,zad,zaa,zad,zaa,zad,zaa,zad,zah,zad,zdl,zad,zaS,zao]
 ·have hsa:zeQ l k=k:=by unfold zeQ;rw [if_neg (by omega)]
  rw [hsa] at ho1
  rw [show (((k:Nat):Int)==0)=false by rw [beq_eq_false_iff_ne];omega,za5,zab hk,ha,zam,Int.toNat_natCast,ho1,zam,zad,zao,q1,zab hkl,ha2,zam,Int.toNat_natCast,ho2,zam,zad,zaa,zad,zaa,zad,zaa,zad,es2,zad,zdl,zad,zaS,zao,e5,zac,zbx,zad,zaa,zad,zaa,zad,zaa,zad,zah,zad,zdl,zad,zaS,zao]
end
end Go.Proofs.YthdfojchihooeaaGreat
namespace Go.Proofs.YthdfojchihooeaaGreat
open Go T


structure Roomy (p:Place):Prop where
 seen:∃ U:List Tag,U.length≤54∧(∀ v∈p.log,v.tag∈U)∧∀ v,inCh p.chain v→0<v.tag.time→v.tag.place=p.me→v.tag∈U
 told:∀ v∈zfs p.chain,0<v.tag.time→v.tag.place=p.me→zcv p.log v.tag=true
theorem zpb {α:Type} [DecidableEq α]:∀ {a U:List α},a.Nodup→(∀ x∈a,x∈U)→a.length≤U.length
 | [],U,_,_=>Nat.zero_le _
 | x :: a,U,hn,hs=>by
  rw [List.nodup_cons] at hn
  have h1:=hs x (by simp)
  have h2:=zpb (a:=a) (U:=U.erase x) hn.2 fun y hy=>(List.mem_erase_of_ne (fun e=>hn.1 (by rw [← e];exact hy))).2 (hs y (by simp [hy]))
  rw [List.length_erase_of_mem h1] at h2
  have:=List.length_pos_of_mem h1
  simp only [List.length_cons];omega
section
variable {p:Place}
theorem ztU {m:Int}{l:List Ver} (h:ze5 m l=true):(l.map fun v=>v.tag).Nodup:=by
 obtain ⟨_,h2⟩:=zgw h
 unfold List.Nodup
 rw [List.pairwise_map,List.pairwise_iff_getElem]
 intro i j hi hj hij e
 have h3:=(h2 j hj).2.2
 have:zcv (l.take j) l[j].tag=true:=hasTag_mem.2 ⟨l[i],by
  rw [List.mem_iff_getElem]
  exact ⟨i,by simp;omega,by simp⟩,e⟩
 rw [h3] at this;cases this
theorem Roomy.len (h:Roomy p) (hp:zan p=true):p.log.length≤54:=by
 obtain ⟨U,h1,h2,_⟩:=h.seen
 have:=zpb (U:=U) (ztU (zaK hp).2.2.2.2.2.1) (fun t ht=>by
  obtain ⟨v,hv,rfl⟩:=List.mem_map.1 ht
  exact h2 v hv)
 simp only [List.length_map] at this
 omega
theorem zrw {m:Int}:∀ {vs l:List Ver},∀ v∈vs.foldl (noted m) l,v∈l∨(v∈vs∧0<v.tag.time∧v.tag.place=m)
 | [],l,v,hv => .inl hv
 | x :: vs,l,v,hv=>by
  rw [List.foldl_cons] at hv
  rcases zrw v hv with g | ⟨g1,g2⟩
  ·unfold noted at g
   cases hc:(decide (x.tag.time>0)&&(x.tag.place==m && !zcv l x.tag)) with
   | false=>rw [hc] at g;exact .inl g
   | true =>
    rw [hc,cond_true] at g
    simp only [Bool.and_eq_true,decide_eq_true_eq,beq_iff_eq] at hc
    rcases List.mem_append.1 g with g | g
    ·exact .inl g
    ·rw [List.mem_singleton] at g;subst g
     exact .inr ⟨by simp,hc.1,hc.2.1⟩
  ·exact .inr ⟨by simp [g1],g2⟩
theorem zhD (h:Ch p.chain) (hs:∃ U:List Tag,U.length≤54∧(∀ v∈p.log,v.tag∈U)∧∀ v,inCh p.chain v→0<v.tag.time→v.tag.place=p.me→v.tag∈U):Roomy (zd1 p):=by
 obtain ⟨U,h1,h2,h3⟩:=hs
 refine ⟨⟨U,h1,fun v hv=>?_,h3⟩,fun v hv ht hp=>?_⟩
 ·rcases zrw v hv with g | ⟨g1,g2,g3⟩
  ·exact h2 v g
  ·obtain ⟨z,hz,hi⟩:=h.tail
   rw [zgy hz hi] at g1
   exact h3 v (.of hz (.inl g1)) g2 g3
 ·exact (zli (vs:=zfs p.chain) (l:=p.log)).1 v hv ht hp
theorem zsj (h:Roomy p) (hp:zan p=true):Roomy (ze6 p):=by
 have hc:=zic hp
 unfold ze6 zdW
 cases zct p.chain with
 | false=>exact h
 | true =>
  rw [cond_true]
  obtain ⟨U,h1,h2,h3⟩:=h.seen
  exact ⟨⟨U,h1,h2,fun v hv=>h3 v (zpr hc.pos hv)⟩,fun v hv=>h.told v (by rw [← (ziK hc).2.2.1];exact hv)⟩
theorem zsl {k:Int} (h:Roomy p) (hp:zan p=true):Roomy (ze2 p k):=by
 have hc:=zic hp
 unfold ze2
 cases hf:zd9 p k with
 | false=>exact h
 | true =>
  unfold zd9 at hf
  rw [Bool.and_eq_true] at hf
  obtain ⟨f,rfl,g1,g2⟩:=zng hf.2
  obtain ⟨U,h1,h2,h3⟩:=h.seen
  rw [cond_true,Int.toNat_natCast]
  exact zhD (p:=zsG p f) (hc.fall g1 g2) ⟨U,h1,h2,fun v hv=>h3 v (zps g1 hv)⟩
theorem zsi {k:Int} (h:Roomy p) (hp:zan p=true):Roomy (ze1 p k):=by
 have hc:=zic hp
 unfold ze1
 cases hf:zcY p.chain k with
 | false=>exact h
 | true =>
  obtain ⟨U,h1,h2,h3⟩:=h.seen
  rw [cond_true]
  exact zhD (p:=zo9 p k.toNat) (hc.pass hf) ⟨U,h1,h2,fun v hv=>h3 v (zpq hf hv)⟩
theorem zsh {k:Int} (h:Roomy p) (hp:zan p=true):Roomy (ze0 p k):=by
 have hc:=zic hp
 unfold ze0
 cases hk:zd8 p k with
 | false=>exact h
 | true =>
  rw [cond_true]
  unfold zd8 at hk
  rw [Bool.and_eq_true] at hk
  have hk:=hk.2
  unfold znv at hk
  unfold znx
  cases hv:ziJ p k.toNat with
  | none=>exact h
  | some v =>
   rw [hv] at hk
   simp only [Bool.and_eq_true] at hk
   obtain ⟨v1,v2,v3,v4⟩:=zrB hp hv
   obtain ⟨U,h1,h2,h3⟩:=h.seen
   refine zhD (p:=zlQ p 0 (zg1 v.tag.time p.clock) v) (hc.add v1 hk.1) ⟨U,h1,h2,fun w hw ht hm=>?_⟩
   rcases zkI hw with g | rfl
   ·exact h3 w g ht hm
   ·exact absurd (v2.symm.trans hm) v3
theorem zsk {f a:Int}{v:Ver} (h:Roomy p):Roomy (zge p f a v):=by
 unfold zge
 cases zgh p f a v with
 | false=>exact h
 | true=>exact ⟨h.seen,h.told⟩
theorem zjO {l:List Node}{v:Ver} (h:Ch l):∀ (d i:Nat) (x:Node),i+d+1=l.length→l[i]?=some x→v∈x.store→(∃ (j:Nat) (y:Node),l[j]?=some y∧j+1<l.length∧v∈y.wait)∨v∈zfs l
 | 0,i,x,hd,hx,hv=>by rw [zgy hx (by omega)];exact .inr hv
 | d+1,i,x,hd,hx,hv=>by
  have hy:=List.getElem?_eq_getElem (l:=l) (i:=i+1) (by omega)
  rcases zpE (h.link i x _ hx hy) v hv with g | g
  ·exact .inl ⟨i,x,hx,by omega,g⟩
  ·exact zjO h d (i+1) _ (by omega) hy g
theorem zoP:∀ {l:List Node},(∀ x∈l,x.wait.length≤6)→(l.flatMap fun x=>x.wait).length≤6*l.length
 | [],_=>by simp
 | x :: l,h=>by
  have h1:=h x (by simp)
  have h2:=zoP (l:=l) fun y hy=>h y (by simp [hy])
  simp only [List.flatMap_cons,List.length_append,List.length_cons];omega
theorem zqC {k:Int}{s:ByteArray}{g:Bool}{l:List Tag} (h:Roomy p) (hp:zan p=true):Roomy (zjb p k s g l).1:=by
 have hc:=zic hp
 rw [zns hp]
 cases hw:zba p k s g l with
 | false=>exact h
 | true =>
  obtain ⟨h1,h2,h3,h4,h5,h6,h7,h8⟩:=zgD hw
  have hv:=zpe hp hw
  refine zhD (p:=zlQ p 0 (zby p l) (zgs p k s g l)) (hc.add hv h6) ⟨(p.log++(p.chain.dropLast.flatMap fun x=>x.wait)).map (fun v=>v.tag) ++ [⟨zby p l,p.me⟩],?_,fun v hv=>?_,fun v hv ht hm=>?_⟩
  ·have hd:∀ x∈p.chain.dropLast,x.wait.length≤6:=fun x hx=>by
    obtain ⟨i,hi⟩:=List.mem_iff_getElem?.1 ((List.dropLast_sublist _).mem hx)
    exact (zav (hc.node i x hi)).2.1
   have:=zoP hd
   have h4:=hc.le
   simp only [List.length_append,List.length_map,List.length_dropLast,List.length_singleton] at this ⊢
   omega
  ·refine List.mem_append_left _ (List.mem_map.2 ⟨v,List.mem_append_left _ hv,rfl⟩)
  ·have old:inCh p.chain v→v.tag∈(p.log++(p.chain.dropLast.flatMap fun x=>x.wait)).map (fun v=>v.tag):=fun hi=>by
    have fin:(∃ (j:Nat) (y:Node),p.chain[j]?=some y∧j+1<p.chain.length∧v∈y.wait)∨v∈zfs p.chain:=by
     obtain ⟨i,x,hx,q | q⟩:=hi.get
     ·have hlt:=(List.getElem?_eq_some_iff.1 hx).1
      exact zjO hc (p.chain.length - 1 - i) i x (by omega) hx q
     ·have hlt:=(List.getElem?_eq_some_iff.1 hx).1
      by_cases he:i+1=p.chain.length
      ·rw [hc.last i x hx he] at q;simp at q
      ·exact .inl ⟨i,x,hx,by omega,q⟩
    rcases fin with ⟨j,y,hj,hjl,q⟩ | q
    ·refine List.mem_map.2 ⟨v,List.mem_append_right _ (List.mem_flatMap.2 ⟨y,?_,q⟩),rfl⟩
     rw [List.mem_iff_getElem?]
     exact ⟨j,by rw [List.getElem?_dropLast,if_pos (by omega)];exact hj⟩
    ·obtain ⟨u,hu,e⟩:=hasTag_mem.1 (h.told v q ht hm)
     exact List.mem_map.2 ⟨u,List.mem_append_left _ hu,e⟩
   rcases zkI hv with q | rfl
   ·exact List.mem_append_left _ (old q)
   ·exact List.mem_append_right _ (by simp [zgs])
end
def zjD (l:List Place) (f:Frame):Prop:=(0≤f.fro∧f.fro≤2)∧(0≤f.to∧f.to≤2)∧f.fro≠f.to∧0≤f.at'∧(zhd l f.fro.toNat)[f.at'.toNat]?=some f.ver
structure Wd (w:World):Prop where
 p3:w.places.length=3
 s4:w.sess.length≤4
 n12:w.net.length≤12
 h80:w.hist.length≤80
 place:∀ (i:Nat) (p:Place),w.places[i]?=some p→p.me=(i:Int)∧zan p=true
 sess:∀ s∈w.sess,zf7 s=true
 net:∀ f∈w.net,zjD w.places f
 hist:∀ d∈w.hist,zpK d=true
 heard:∀ (i:Nat) (p:Place) (k:Nat) (g:List Ver),w.places[i]?=some p→p.got[k]?=some g→∃ r,zhd w.places k=g++r
theorem ztT {l:List Place}{k:Nat}{p q:Place} (hp:l[k]?=some p) (hlog:∃ r,q.log=p.log++r) (j:Nat):∃ r,zhd (l.set k q) j=zhd l j++r:=by
 unfold zhd
 by_cases hj:k=j
 ·subst hj
  rw [List.getElem?_set_self (List.getElem?_eq_some_iff.1 hp).1,hp];exact hlog
 ·rw [List.getElem?_set_ne hj];exact ⟨[],by simp⟩
section
variable {w:World}
theorem Wd.setP (h:Wd w) {k:Nat}{p q:Place} (hp:w.places[k]?=some p) (hq:zan q=true) (hm:q.me=p.me) (hlog:∃ r,q.log=p.log++r)
  (hgot:∀ (i:Nat) (g:List Ver),q.got[i]?=some g→p.got[i]?=some g∨∃ r,zhd w.places i=g++r):Wd ⟨w.places.set k q,w.sess,w.net,w.hist⟩:=by
 have hk:=(List.getElem?_eq_some_iff.1 hp).1
 refine ⟨by simpa using h.p3,h.s4,h.n12,h.h80,fun i x hx=>?_,h.sess,fun f hf=>?_,h.hist,fun i x j g hx hg=>?_⟩
 ·by_cases hi:k=i
  ·subst hi
   simp only [List.getElem?_set_self hk,Option.some.injEq] at hx
   subst hx
   exact ⟨hm.trans (h.place k p hp).1,hq⟩
  ·simp only [List.getElem?_set_ne hi] at hx
   exact h.place i x hx
 ·obtain ⟨h1,h2,h3,h4,h5⟩:=h.net f hf
  obtain ⟨r,hr⟩:=ztT hp hlog f.fro.toNat
  refine ⟨h1,h2,h3,h4,?_⟩
  show (zhd (w.places.set k q) f.fro.toNat)[f.at'.toNat]?=some f.ver
  rw [hr,List.getElem?_append_left (List.getElem?_eq_some_iff.1 h5).1];exact h5
 ·obtain ⟨r,hr⟩:=ztT hp hlog j
  show ∃ r,zhd (w.places.set k q) j=g++r
  have old:(∃ r,zhd w.places j=g++r)→∃ r,zhd (w.places.set k q) j=g++r:=fun ⟨r',hr'⟩=>⟨r'++r,by rw [hr,hr',List.append_assoc]⟩
  by_cases hi:k=i
  ·subst hi
   simp only [List.getElem?_set_self hk,Option.some.injEq] at hx
   subst hx
   rcases hgot j g hg with g1 | g1
   ·exact old (h.heard k p j g hp g1)
   ·exact old g1
  ·simp only [List.getElem?_set_ne hi] at hx
   exact old (h.heard i x j g hx hg)
theorem Wd.putS (h:Wd w) {i:Nat}{s:Sess} (hs:zf7 s=true):Wd ⟨w.places,w.sess.set i s,w.net,w.hist⟩ :=
 ⟨h.p3,by simpa using h.s4,h.n12,h.h80,h.place,fun x hx=>(List.mem_or_eq_of_mem_set hx).elim (h.sess x) fun e=>e ▸ hs,h.net,h.hist,h.heard⟩
theorem Wd.addH (h:Wd w) {ds:List Done} (hd:∀ d∈ds,zpK d=true) (hl:w.hist.length+ds.length≤80):Wd ⟨w.places,w.sess,w.net,w.hist++ds⟩ :=
 ⟨h.p3,h.s4,h.n12,by simpa using hl,h.place,h.sess,h.net,fun x hx=>(List.mem_append.1 hx).elim (h.hist x) (hd x),h.heard⟩
theorem Wd.netN (h:Wd w) {l:List Frame} (hl:l.length≤12) (hf:∀ f∈l,zjD w.places f):Wd ⟨w.places,w.sess,l,w.hist⟩ :=
 ⟨h.p3,h.s4,hl,h.h80,h.place,h.sess,hf,h.hist,h.heard⟩
end
end Go.Proofs.YthdfojchihooeaaGreat
namespace Go.Proofs.YthdfojchihooeaaGreat
open Go T


structure Event where
 kind:Int
 at':Int
 num:Int
 key:Int
 text:ByteArray
 gone:Bool
abbrev Event.cs (e:Event):List V := [.int .i64 e.kind,.int .i64 e.at',.int .i64 e.num,.int .i64 e.key,.str e.text,.bool e.gone]
def zgP (a b:Tag):Bool:=zkF a.time a.place b.time b.place
def znL (a b:Tag):Tag:=bif zgP a b then b else a
def zjc (p:List Tag) (k:Nat) (t:Tag):List Tag:=match p[k]? with
 | some x=>p.set k (znL x t)
 | none=>p
def zjp (p q:List Tag):List Tag:=List.zipWith znL p q
def setS (w:World) (i:Nat) (s:Sess) (ds:List Done):World:=⟨w.places,w.sess.set i s,w.net,w.hist++ds⟩
def setP (w:World) (k:Nat) (p:Place):World:=⟨w.places.set k p,w.sess,w.net,w.hist⟩
def setN (w:World) (l:List Frame):World:=⟨w.places,w.sess,l,w.hist⟩
def ze4 (w:World) (n:Int):Bool:=decide ((w.hist.length:Int)+n≤80)
def zgj (w:World) (i:Nat) (s:Sess) (e:Event):Option World:=match w.places[s.place.toNat]? with
 | some p=>bif !decide (s.wait.time>0)&&(zba p e.key e.text e.gone s.past&&ze4 w 1) then
   some (setS (setP w s.place.toNat (zjb p e.key e.text e.gone s.past).1) i ⟨s.place,s.past,(zjb p e.key e.text e.gone s.past).2,e.key⟩ [⟨i,1,e.key,(zjb p e.key e.text e.gone s.past).2⟩]) else none
 | none=>none
def zsX (w:World) (i:Nat) (s:Sess):Option World:=match w.places[s.place.toNat]? with
 | some p=>match zk6 p.chain 0 s.key.toNat,(zga p.chain)[s.key.toNat]? with
  | some v,some u=>bif decide (s.wait.time>0) then
    (bif zgP v.tag s.wait then (bif zgP u.tag s.wait then some (setS w i ⟨s.place,s.past,⟨0,0⟩,0⟩ []) else none)
    else (bif ze4 w 1 then some (setS w i ⟨s.place,zjc s.past s.key.toNat s.wait,⟨0,0⟩,0⟩ [⟨i,3,s.key,s.wait⟩]) else none)) else none
  | _,_=>none
 | none=>none
def ztt (s:Sess) (v:Ver) (k:Nat):List Tag:=bif decide (v.tag.time>0) then zjc (zjp s.past v.past) k v.tag else s.past
def zjj (w:World) (i:Nat) (s:Sess) (e:Event):Option World:=match w.places[s.place.toNat]? with
 | some p=>bif !decide (s.wait.time>0)&&(zak e.key 0 3&&(zak e.num 0 ((p.chain.length:Int) - 1)&&ze4 w 1)) then
   (match zk6 p.chain e.num.toNat e.key.toNat,s.past[e.key.toNat]? with
   | some v,some t=>bif zgP v.tag t then none else some (setS w i ⟨s.place,ztt s v e.key.toNat,s.wait,s.key⟩ [⟨i,2,e.key,v.tag⟩])
   | _,_=>none) else none
 | none=>none
def zda (i:Nat) (l:List Tag):List Done:=l.zipIdx.map fun x=>⟨i,2,(x.2:Int),x.1⟩
def zrY (w:World) (i:Nat) (s:Sess):Option World:=match w.places[s.place.toNat]? with
 | some p=>bif !decide (s.wait.time>0)&&(zcU s.past (zaO p.chain)&&ze4 w 4) then some (setS w i ⟨s.place,zaO p.chain,s.wait,s.key⟩ (zda i (zaO p.chain))) else none
 | none=>none
def ztM (w:World) (i:Nat) (s:Sess) (e:Event):Option World:=bif !decide (s.wait.time>0)&&zak e.num 0 2 then some (setS w i ⟨e.num,s.past,s.wait,s.key⟩ []) else none
def zfO (w:World) (e:Event):Option World:=bif zak e.at' 0 ((w.sess.length:Int) - 1) then
 (match w.sess[e.at'.toNat]? with
 | some s=>bif e.kind==1 then zgj w e.at'.toNat s e else bif e.kind==2 then zsX w e.at'.toNat s else bif e.kind==3 then zjj w e.at'.toNat s e else bif e.kind==4 then zrY w e.at'.toNat s else ztM w e.at'.toNat s e
 | none=>none) else none
def zfG (p:Place) (e:Event):Option Place:=bif e.kind==6 then (bif zcY p.chain e.num then some (ze1 p e.num) else none) else
 bif e.kind==7 then (bif zd9 p e.num then some (ze2 p e.num) else none) else
 bif e.kind==8 then (bif zct p.chain then some (ze6 p) else none) else (bif zd8 p e.num then some (ze0 p e.num) else none)
def zha (w:World) (e:Event):Option World:=bif zak e.at' 0 2 then
 (match w.places[e.at'.toNat]? with
 | some p=>(zfG p e).map (setP w e.at'.toNat)
 | none=>none) else none
def zsg (w:World) (e:Event):Option World:=bif zak e.at' 0 2&&(zak e.num 0 2&&(!(e.at'==e.num)&&(decide ((w.net.length:Int)<12)&&zak e.key 0 (((zhd w.places e.at'.toNat).length:Int) - 1)))) then
 (match (zhd w.places e.at'.toNat)[e.key.toNat]? with
 | some v=>some (setN w (w.net ++ [⟨e.at',e.num,e.key,v⟩]))
 | none=>none) else none
def znP (w:World) (f:Frame):World:=match w.places[f.to.toNat]? with
 | some p=>setP w f.to.toNat (zge p f.fro f.at' f.ver)
 | none=>w
def znc (w:World) (e:Event):Option World:=bif zak e.at' 0 ((w.net.length:Int) - 1) then
 (match w.net[e.at'.toNat]? with
 | some f=>some (bif e.kind==12 then setN w (w.net.eraseIdx e.at'.toNat) else bif e.kind==13 then znP w f else znP (setN w (w.net.eraseIdx e.at'.toNat)) f)
 | none=>none) else none
def zg8 (w:World) (e:Event):Option World:=bif zak e.kind 1 5 then zfO w e else bif zak e.kind 6 9 then zha w e else bif e.kind==10 then zsg w e else bif zak e.kind 11 13 then znc w e else none
def doW (w:World) (e:Event):World:=(zg8 w e).getD w
structure Good (w:World):Prop where
 ok:Wd w
 room:∀ p∈w.places,Roomy p
theorem pastOk_iff {p:List Tag}:zbr p=true↔p.length=4∧∀ t∈p,zbj t.time t.place=true:=by
 simp only [zbr,Bool.and_eq_true,decide_eq_true_eq,List.all_eq_true]
theorem ztP {a b:Tag} (ha:zbj a.time a.place=true) (hb:zbj b.time b.place=true):zbj (znL a b).time (znL a b).place=true:=by
 unfold znL;cases zgP a b
 ·exact ha
 ·exact hb
theorem zrn {p:List Tag}{k:Nat}{t:Tag} (hp:zbr p=true) (ht:zbj t.time t.place=true):zbr (zjc p k t)=true:=by
 rw [pastOk_iff] at hp
 unfold zjc
 cases hx:p[k]? with
 | none=>exact pastOk_iff.2 hp
 | some x =>
  refine pastOk_iff.2 ⟨by simpa using hp.1,fun y hy=>?_⟩
  rcases List.mem_or_eq_of_mem_set hy with hy | rfl
  ·exact hp.2 y hy
  ·exact ztP (hp.2 x (List.mem_of_getElem? hx)) ht
theorem zvi {p q:List Tag} (hp:zbr p=true) (hq:zbr q=true):zbr (zjp p q)=true:=by
 rw [pastOk_iff] at hp hq
 refine pastOk_iff.2 ⟨by unfold zjp;rw [List.length_zipWith];omega,fun y hy=>?_⟩
 unfold zjp at hy
 obtain ⟨i,hi,rfl⟩:=List.mem_iff_getElem.1 hy
 rw [List.getElem_zipWith]
 exact ztP (hp.2 _ (List.getElem_mem _)) (hq.2 _ (List.getElem_mem _))
theorem zqo {l:List Node} (h:Ch l):zbr (zaO l)=true:=by
 refine pastOk_iff.2 ⟨h.four.1,fun t ht=>?_⟩
 obtain ⟨z,hz,hi⟩:=h.tail
 rw [zcP hz hi] at ht
 unfold zbN at ht
 obtain ⟨v,hv,rfl⟩:=List.mem_map.1 ht
 obtain ⟨i,hi⟩:=List.mem_iff_getElem?.1 hv
 exact zrW (zgF (h.store hz).1 hi)
theorem zu0 {l:List Node}{k key:Nat}{v:Ver} (h:Ch l) (hv:zk6 l k key=some v):∃ (i:Nat) (x:Node),l[i]?=some x∧x.store[key]?=some v:=by
 unfold zk6 zft at hv
 cases hx:l[zeQ l k]? with
 | none=>rw [hx] at hv;simp at hv
 | some x=>rw [hx] at hv;exact ⟨_,x,hx,hv⟩
theorem zu1 {l:List Node}{k key:Nat}{v:Ver} (h:Ch l) (hv:zk6 l k key=some v):zg4 key v=true:=by
 obtain ⟨i,x,hx,hv⟩:=zu0 h hv
 exact zgF (h.store hx).1 hv
theorem zc9 {s:Sess} (h:zf7 s=true):(0≤s.place∧s.place≤2)∧zbr s.past=true∧zbj s.wait.time s.wait.place=true∧(0≤s.key∧s.key≤3)∧(0<s.wait.time∨s.key=0)∧(s.wait.time=0∨s.wait.place=s.place):=by
 unfold zf7 at h
 simp only [Bool.and_eq_true,Bool.or_eq_true,decide_eq_true_eq,beq_iff_eq,zak] at h
 obtain ⟨⟨⟨⟨⟨h1,h2⟩,h3⟩,h4⟩,h5⟩,h6⟩:=h
 exact ⟨h1,h2,h3,h4,h5,h6⟩
theorem zjh {s:Sess} (h1:0≤s.place∧s.place≤2) (h2:zbr s.past=true) (h3:zbj s.wait.time s.wait.place=true) (h4:0≤s.key∧s.key≤3) (h5:0<s.wait.time∨s.key=0) (h6:s.wait.time=0∨s.wait.place=s.place):zf7 s=true:=by
 unfold zf7
 simp only [Bool.and_eq_true,Bool.or_eq_true,decide_eq_true_eq,beq_iff_eq,zak]
 exact ⟨⟨⟨⟨⟨h1,h2⟩,h3⟩,h4⟩,h5⟩,h6⟩
theorem znY {d:Done} (h1:0≤d.sess∧d.sess≤3) (h2:1≤d.kind∧d.kind≤3) (h3:0≤d.key∧d.key≤3) (h4:zbj d.tag.time d.tag.place=true) (h5:d.kind=2∨0<d.tag.time):zpK d=true:=by
 unfold zpK
 simp only [Bool.and_eq_true,Bool.or_eq_true,decide_eq_true_eq,beq_iff_eq,zak]
 exact ⟨⟨⟨⟨h1,h2⟩,h3⟩,h4⟩,h5⟩
theorem zkC {p:Place}:∃ r,(zd1 p).log=p.log++r:=(zli (vs:=zfs p.chain) (l:=p.log)).2
section
variable {w w':World}
theorem Good.setP (h:Good w) {k:Nat}{p q:Place} (hp:w.places[k]?=some p) (hq:zan q=true) (hr:Roomy q) (hm:q.me=p.me) (hlog:∃ r,q.log=p.log++r)
  (hgot:∀ (i:Nat) (g:List Ver),q.got[i]?=some g→p.got[i]?=some g∨∃ r,zhd w.places i=g++r):Good (Go.Proofs.YthdfojchihooeaaGreat.setP w k q) :=
 ⟨h.ok.setP hp hq hm hlog hgot,fun x hx=>(List.mem_or_eq_of_mem_set hx).elim (h.room x) fun e=>e ▸ hr⟩
theorem Good.setS (h:Good w) {i:Nat}{s:Sess}{ds:List Done} (hs:zf7 s=true) (hd:∀ d∈ds,zpK d=true) (hl:(w.hist.length:Int)+ds.length≤80):Good (Go.Proofs.YthdfojchihooeaaGreat.setS w i s ds) :=
 ⟨(h.ok.putS (i:=i) hs).addH hd (by show w.hist.length+ds.length≤80;omega),h.room⟩
theorem Good.setN (h:Good w) {l:List Frame} (hl:l.length≤12) (hf:∀ f∈l,zjD w.places f):Good (Go.Proofs.YthdfojchihooeaaGreat.setN w l):=⟨h.ok.netN hl hf,h.room⟩
theorem zs3 {p:Place}{k:Int}{s:ByteArray}{g:Bool}{l:List Tag} (hp:zan p=true) (hc:zba p k s g l=true):zjb p k s g l=(zd1 (zlQ p 0 (zby p l) (zgs p k s g l)),⟨zby p l,p.me⟩):=by
 rw [zns hp,hc,cond_true]
theorem zsD (h:Good w) {i:Nat}{s:Sess}{e:Event} (hi:i<w.sess.length) (hs:zf7 s=true) (he:zgj w i s e=some w'):Good w':=by
 have h4:=h.ok.s4
 unfold zgj at he
 split at he
 ·rename_i p hp
  cases hc:(!decide (s.wait.time>0)&&(zba p e.key e.text e.gone s.past&&ze4 w 1)) with
  | false=>rw [hc] at he;cases he
  | true =>
   rw [hc,cond_true] at he
   injection he with he
   simp only [Bool.and_eq_true,ze4,decide_eq_true_eq] at hc
   obtain ⟨_,hc,hh⟩:=hc
   obtain ⟨hme,hpo⟩:=h.ok.place _ p hp
   have hr:=h.room p (List.mem_of_getElem? hp)
   obtain ⟨s1,s2,s3,s4,s5,s6⟩:=zc9 hs
   obtain ⟨q1,q2,q3,q4,q5,q6,q7,q8⟩:=zgD hc
   have ht:=zkT hpo s2
   have hw:=zs3 hpo hc
   have g1:Good (Go.Proofs.YthdfojchihooeaaGreat.setP w s.place.toNat (zjb p e.key e.text e.gone s.past).1):=h.setP hp (zu9 hpo) (zqC hr hpo) (by rw [hw];rfl) (by rw [hw];exact zkC) (fun j g hg=>by rw [hw] at hg;exact .inl hg)
   have ht1:zbj (zby p s.past) p.me=true:=by simp [zbj,zak];omega
   rw [← he]
   refine g1.setS ?_ ?_ (by simp only [List.length_singleton];exact hh)
   ·rw [hw]
    exact zjh s1 s2 ht1 q1 (.inl (by show 0<zby p s.past;omega)) (.inr (by show p.me=s.place;omega))
   ·intro d hd
    rw [List.mem_singleton] at hd;subst hd
    rw [hw]
    exact znY (by show (0:Int)≤(i:Int)∧(i:Int)≤3;omega) (by show (1:Int)≤1∧(1:Int)≤3;decide) q1 ht1 (.inr (by show 0<zby p s.past;omega))
 ·cases he
theorem zvn (h:Good w) {i:Nat}{s:Sess} (hi:i<w.sess.length) (hs:zf7 s=true) (he:zsX w i s=some w'):Good w':=by
 have h4:=h.ok.s4
 have h8:=h.ok.h80
 obtain ⟨s1,s2,s3,s4,s5,s6⟩:=zc9 hs
 unfold zsX at he
 split at he
 ·rename_i p hp
  split at he
  ·rename_i v u hv hu
   cases hc:decide (s.wait.time>0) with
   | false=>rw [hc] at he;cases he
   | true =>
    rw [hc,cond_true] at he
    cases hl:zgP v.tag s.wait with
    | true =>
     rw [hl,cond_true] at he
     cases hl2:zgP u.tag s.wait with
     | false=>rw [hl2] at he;cases he
     | true =>
      rw [hl2,cond_true] at he;injection he with he
      rw [← he]
      exact h.setS (zjh s1 s2 rfl (by show (0:Int)≤0∧(0:Int)≤3;decide) (.inr rfl) (.inl rfl)) (by simp) (by simp only [List.length_nil];omega)
    | false =>
     rw [hl,cond_false] at he
     cases hr:ze4 w 1 with
     | false=>rw [hr] at he;cases he
     | true =>
      rw [hr,cond_true] at he;injection he with he
      rw [← he]
      unfold ze4 at hr
      refine h.setS (zjh s1 (zrn s2 s3) rfl (by show (0:Int)≤0∧(0:Int)≤3;decide) (.inr rfl) (.inl rfl)) (fun d hd=>?_) (by simp only [List.length_singleton];exact of_decide_eq_true hr)
      rw [List.mem_singleton] at hd;subst hd
      exact znY (by show (0:Int)≤(i:Int)∧(i:Int)≤3;omega) (by show (1:Int)≤3∧(3:Int)≤3;decide) s4 s3 (.inr (of_decide_eq_true hc))
  ·cases he
 ·cases he
theorem zu5 {s:Sess}{v:Ver}{k:Nat} (hs:zbr s.past=true) (hv:zg4 k v=true):zbr (ztt s v k)=true:=by
 unfold ztt
 cases ht:decide (v.tag.time>0) with
 | false=>exact hs
 | true =>
  have ht:=of_decide_eq_true ht
  rcases zcO hv with g | g
  ·have:=(zdV g).1;omega
  ·have hp:=zaA g.1
   exact zrn (zvi hs hp.2.2.2.1) hp.2.2.2.2.1
theorem zue (h:Good w) {i:Nat}{s:Sess}{e:Event} (hi:i<w.sess.length) (hs:zf7 s=true) (he:zjj w i s e=some w'):Good w':=by
 have h4:=h.ok.s4
 obtain ⟨s1,s2,s3,s4,s5,s6⟩:=zc9 hs
 unfold zjj at he
 split at he
 ·rename_i p hp
  cases hc:(!decide (s.wait.time>0)&&(zak e.key 0 3&&(zak e.num 0 ((p.chain.length:Int) - 1)&&ze4 w 1))) with
  | false=>rw [hc] at he;cases he
  | true =>
   rw [hc,cond_true] at he
   simp only [Bool.and_eq_true,ze4,zak,decide_eq_true_eq] at hc
   obtain ⟨_,hk,_,hr⟩:=hc
   split at he
   ·rename_i v t hv ht
    cases hl:zgP v.tag t with
    | true=>rw [hl] at he;cases he
    | false =>
     rw [hl,cond_false] at he;injection he with he
     rw [← he]
     have hc:=zic (h.ok.place _ p hp).2
     have hva:=zu1 hc hv
     refine h.setS (zjh s1 (zu5 s2 hva) s3 s4 s5 s6) (fun d hd=>?_) (by simp only [List.length_singleton];exact hr)
     rw [List.mem_singleton] at hd;subst hd
     exact znY (by show (0:Int)≤(i:Int)∧(i:Int)≤3;omega) (by show (1:Int)≤2∧(2:Int)≤3;decide) hk (zrW hva) (.inl rfl)
   ·cases he
 ·cases he
theorem zvo (h:Good w) {i:Nat}{s:Sess} (hi:i<w.sess.length) (hs:zf7 s=true) (he:zrY w i s=some w'):Good w':=by
 have h4:=h.ok.s4
 obtain ⟨s1,s2,s3,s4,s5,s6⟩:=zc9 hs
 unfold zrY at he
 split at he
 ·rename_i p hp
  cases hc:(!decide (s.wait.time>0)&&(zcU s.past (zaO p.chain)&&ze4 w 4)) with
  | false=>rw [hc] at he;cases he
  | true =>
   rw [hc,cond_true] at he;injection he with he
   rw [← he]
   simp only [Bool.and_eq_true,ze4,decide_eq_true_eq] at hc
   have hch:=zic (h.ok.place _ p hp).2
   have hst:=zqo hch
   refine h.setS (zjh s1 hst s3 s4 s5 s6) (fun d hd=>?_) (by unfold zda;rw [List.length_map,List.length_zipIdx,hch.four.1];exact hc.2.2)
   unfold zda at hd
   obtain ⟨⟨t,k⟩,hx,rfl⟩:=List.mem_map.1 hd
   rw [List.mem_zipIdx_iff_getElem?] at hx
   have hk:=(List.getElem?_eq_some_iff.1 hx).1
   rw [hch.four.1] at hk
   simp only at hk
   exact znY (by show (0:Int)≤(i:Int)∧(i:Int)≤3;omega) (by show (1:Int)≤2∧(2:Int)≤3;decide) (by show (0:Int)≤(k:Int)∧(k:Int)≤3;omega) ((pastOk_iff.1 hst).2 t (List.mem_of_getElem? hx)) (.inl rfl)
 ·cases he
theorem zuf (h:Good w) {i:Nat}{s:Sess}{e:Event} (hs:zf7 s=true) (he:ztM w i s e=some w'):Good w':=by
 obtain ⟨s1,s2,s3,s4,s5,s6⟩:=zc9 hs
 unfold ztM at he
 cases hc:(!decide (s.wait.time>0)&&zak e.num 0 2) with
 | false=>rw [hc] at he;cases he
 | true =>
  rw [hc,cond_true] at he;injection he with he
  rw [← he]
  simp only [Bool.and_eq_true,zak,decide_eq_true_eq,Bool.not_eq_true',decide_eq_false_iff_not] at hc
  have:=zdn s3
  exact h.setS (zjh hc.2 s2 s3 s4 s5 (.inl (by show s.wait.time=0;omega))) (by simp) (by simp only [List.length_nil];have:=h.ok.h80;omega)
theorem zq0 (h:Good w) {e:Event} (he:zfO w e=some w'):Good w':=by
 unfold zfO at he
 cases hc:zak e.at' 0 ((w.sess.length:Int) - 1) with
 | false=>rw [hc] at he;cases he
 | true =>
  rw [hc,cond_true] at he
  split at he
  ·rename_i s hs
   have hi:=(List.getElem?_eq_some_iff.1 hs).1
   have hso:=h.ok.sess s (List.mem_of_getElem? hs)
   cases h1:e.kind==1 with
   | true=>rw [h1,cond_true] at he;exact zsD h hi hso he
   | false =>
    rw [h1,cond_false] at he
    cases h2:e.kind==2 with
    | true=>rw [h2,cond_true] at he;exact zvn h hi hso he
    | false =>
     rw [h2,cond_false] at he
     cases h3:e.kind==3 with
     | true=>rw [h3,cond_true] at he;exact zue h hi hso he
     | false =>
      rw [h3,cond_false] at he
      cases h4:e.kind==4 with
      | true=>rw [h4,cond_true] at he;exact zvo h hi hso he
      | false=>rw [h4,cond_false] at he;exact zuf h hso he
  ·cases he
theorem zuY {p q:Place}{e:Event} (h:zfG p e=some q):q.me=p.me∧q.got=p.got∧∃ r,q.log=p.log++r:=by
 unfold zfG at h
 have nil:∃ r,p.log=p.log++r:=⟨[],by simp⟩
 cases h1:e.kind==6 with
 | true =>
  rw [h1,cond_true] at h
  cases hc:zcY p.chain e.num with
  | false=>rw [hc] at h;cases h
  | true =>
   rw [hc,cond_true] at h;injection h with h
   rw [← h];unfold ze1;rw [hc,cond_true]
   exact ⟨rfl,rfl,zkC⟩
 | false =>
  rw [h1,cond_false] at h
  cases h2:e.kind==7 with
  | true =>
   rw [h2,cond_true] at h
   cases hc:zd9 p e.num with
   | false=>rw [hc] at h;cases h
   | true =>
    rw [hc,cond_true] at h;injection h with h
    rw [← h];unfold ze2;rw [hc,cond_true]
    exact ⟨rfl,rfl,zkC⟩
  | false =>
   rw [h2,cond_false] at h
   cases h3:e.kind==8 with
   | true =>
    rw [h3,cond_true] at h
    cases hc:zct p.chain with
    | false=>rw [hc] at h;cases h
    | true =>
     rw [hc,cond_true] at h;injection h with h
     rw [← h];exact ⟨rfl,rfl,nil⟩
   | false =>
    rw [h3,cond_false] at h
    cases hc:zd8 p e.num with
    | false=>rw [hc] at h;cases h
    | true =>
     rw [hc,cond_true] at h;injection h with h
     rw [← h];unfold ze0;rw [hc,cond_true]
     unfold znx
     split
     ·exact ⟨rfl,rfl,zkC⟩
     ·exact ⟨rfl,rfl,nil⟩
theorem zwj {p q:Place}{e:Event} (hp:zan p=true) (hl:p.log.length≤56) (h:zfG p e=some q):zan q=true∧(Roomy p→Roomy q):=by
 unfold zfG at h
 cases h1:e.kind==6 with
 | true =>
  rw [h1,cond_true] at h
  cases hc:zcY p.chain e.num with
  | false=>rw [hc] at h;cases h
  | true =>
   rw [hc,cond_true] at h;injection h with h
   rw [← h];exact ⟨zww hp hl,fun hr=>zsi hr hp⟩
 | false =>
  rw [h1,cond_false] at h
  cases h2:e.kind==7 with
  | true =>
   rw [h2,cond_true] at h
   cases hc:zd9 p e.num with
   | false=>rw [hc] at h;cases h
   | true =>
    rw [hc,cond_true] at h;injection h with h
    rw [← h];exact ⟨zwz hp hl,fun hr=>zsl hr hp⟩
  | false =>
   rw [h2,cond_false] at h
   cases h3:e.kind==8 with
   | true =>
    rw [h3,cond_true] at h
    cases hc:zct p.chain with
    | false=>rw [hc] at h;cases h
    | true =>
     rw [hc,cond_true] at h;injection h with h
     rw [← h];exact ⟨zqH hp,fun hr=>zsj hr hp⟩
   | false =>
    rw [h3,cond_false] at h
    cases hc:zd8 p e.num with
    | false=>rw [hc] at h;cases h
    | true =>
     rw [hc,cond_true] at h;injection h with h
     rw [← h];exact ⟨zwv hp hl,fun hr=>zsh hr hp⟩
theorem zsE (h:Good w) {e:Event} (he:zha w e=some w'):Good w':=by
 unfold zha at he
 cases hc:zak e.at' 0 2 with
 | false=>rw [hc] at he;cases he
 | true =>
  rw [hc,cond_true] at he
  split at he
  ·rename_i p hp
   rw [Option.map_eq_some_iff] at he
   obtain ⟨q,hq,rfl⟩:=he
   have hpo:=(h.ok.place _ p hp).2
   have hr:=h.room p (List.mem_of_getElem? hp)
   have hl:=hr.len hpo
   obtain ⟨g1,g2⟩:=zwj hpo (by omega) hq
   obtain ⟨g3,g4,g5⟩:=zuY hq
   exact h.setP hp g1 (g2 hr) g3 g5 fun i g hg=>by rw [g4] at hg;exact .inl hg
  ·cases he
theorem zud (h:Good w) {e:Event} (he:zsg w e=some w'):Good w':=by
 unfold zsg at he
 cases hc:(zak e.at' 0 2&&(zak e.num 0 2&&(!(e.at'==e.num)&&(decide ((w.net.length:Int)<12)&&zak e.key 0 (((zhd w.places e.at'.toNat).length:Int) - 1))))) with
 | false=>rw [hc] at he;cases he
 | true =>
  rw [hc,cond_true] at he
  simp only [Bool.and_eq_true,zak,decide_eq_true_eq,Bool.not_eq_true',beq_eq_false_iff_ne] at hc
  obtain ⟨h1,h2,h3,h4,h5⟩:=hc
  split at he
  ·rename_i v hv
   injection he with he
   rw [← he]
   refine h.setN (by simp;omega) fun f hf=>?_
   rcases List.mem_append.1 hf with hf | hf
   ·exact h.ok.net f hf
   ·rw [List.mem_singleton] at hf;subst hf
    exact ⟨h1,h2,h3,h5.1,hv⟩
  ·cases he
theorem zpB (h:Good w) {f:Frame} (hf:zjD w.places f):Good (znP w f):=by
 unfold znP
 split
 ·rename_i p hp
  have hpo:=(h.ok.place _ p hp).2
  have hr:=h.room p (List.mem_of_getElem? hp)
  obtain ⟨h1,h2,h3,h4,h5⟩:=hf
  refine h.setP hp (zwy hpo) (zsk hr) ?_ ?_ ?_
  ·unfold zge;cases zgh p f.fro f.at' f.ver<;>rfl
  ·unfold zge;cases zgh p f.fro f.at' f.ver<;>exact ⟨[],by simp [zkh]⟩
  ·intro i g hg
   unfold zge at hg
   cases hc:zgh p f.fro f.at' f.ver with
   | false=>rw [hc] at hg;exact .inl hg
   | true =>
    rw [hc,cond_true] at hg
    simp only [zgh,zju,zak,Bool.and_eq_true,decide_eq_true_eq,beq_iff_eq,Bool.not_eq_true'] at hc
    obtain ⟨⟨_,_⟩,_,_,_,q,_,_⟩:=hc
    have hg:(p.got.set f.fro.toNat (zki p f.fro.toNat ++ [f.ver]))[i]?=some g:=hg
    by_cases hi:f.fro.toNat=i
    ·subst hi
     have hlt:f.fro.toNat<p.got.length:=by
      have:=(List.getElem?_eq_some_iff.1 hg).1;simpa using this
     rw [List.getElem?_set_self hlt] at hg
     injection hg with hg
     have hgo:p.got[f.fro.toNat]?=some (zki p f.fro.toNat):=by rw [zhi hlt];exact List.getElem?_eq_getElem hlt
     obtain ⟨r,hr⟩:=h.ok.heard _ p _ _ hp hgo
     rw [hr,List.getElem?_append_right (by omega),show f.at'.toNat - (zki p f.fro.toNat).length=0 by omega] at h5
     cases r with
     | nil=>simp at h5
     | cons v r =>
      simp only [List.getElem?_cons_zero,Option.some.injEq] at h5
      subst h5
      exact .inr ⟨r,by rw [hr,← hg];simp⟩
    ·rw [List.getElem?_set_ne hi] at hg;exact .inl hg
 ·exact h
theorem zsF (h:Good w) {e:Event} (he:znc w e=some w'):Good w':=by
 unfold znc at he
 cases hc:zak e.at' 0 ((w.net.length:Int) - 1) with
 | false=>rw [hc] at he;cases he
 | true =>
  rw [hc,cond_true] at he
  split at he
  ·rename_i f hf
   injection he with he
   rw [← he]
   have hfi:=h.ok.net f (List.mem_of_getElem? hf)
   have hn:=h.ok.n12
   have g1:Good (setN w (w.net.eraseIdx e.at'.toNat)):=h.setN (Nat.le_trans (List.length_eraseIdx_le _ _) hn) fun x hx=>h.ok.net x (List.mem_of_mem_eraseIdx hx)
   cases e.kind==12 with
   | true=>exact g1
   | false =>
    rw [cond_false]
    cases e.kind==13 with
    | true=>exact zpB h hfi
    | false=>exact zpB g1 hfi
  ·cases he
theorem zub (h:Good w) {e:Event} (he:zg8 w e=some w'):Good w':=by
 unfold zg8 at he
 cases h1:zak e.kind 1 5 with
 | true=>rw [h1,cond_true] at he;exact zq0 h he
 | false =>
  rw [h1,cond_false] at he
  cases h2:zak e.kind 6 9 with
  | true=>rw [h2,cond_true] at he;exact zsE h he
  | false =>
   rw [h2,cond_false] at he
   cases h3:e.kind==10 with
   | true=>rw [h3,cond_true] at he;exact zud h he
   | false =>
    rw [h3,cond_false] at he
    cases h4:zak e.kind 11 13 with
    | true=>rw [h4,cond_true] at he;exact zsF h he
    | false=>rw [h4] at he;cases he
theorem zug (h:Good w) {e:Event}:Good (doW w e):=by
 unfold doW
 cases he:zg8 w e with
 | none=>exact h
 | some w'=>exact zub h he
end
end Go.Proofs.YthdfojchihooeaaGreat
namespace Go.Proofs.YthdfojchihooeaaGreat
open Go T


set_option maxRecDepth 100000
theorem Mv.mid {h h':Heap}{A B A' F F':List Nat} (m:Mv h A h' A') (hp:F.Perm (A++B)) (hn:F.Nodup) (hB:∀ y∈B,y<h.length) (hp':F'.Perm (A'++B)):Mv h F h' F':=by
 have m1:=m.aside (hp.nodup_iff.1 hn) hB
 exact (m1.wide fun b hb=>hp.mem_iff.2 hb).lean (hp'.nodup_iff.2 m1.nd) fun b hb=>hp'.mem_iff.1 hb
theorem zu6 {A B C:List Nat}:(A++(B++C)).Perm (B++(A++C)):=List.perm_append_comm_assoc A B C
theorem zxq {A B C D:List Nat}:(A++(B++(C++D))).Perm (C++(A++(B++D))):=(List.Perm.append_left A zu6).trans zu6
theorem zv2 {A B C:List Nat}:(A++(B++C)).Perm (C++(A++B)):=by
 rw [← List.append_assoc A B C]
 exact List.perm_append_comm
theorem zwu {A B C D:List Nat}:(A++(B++(C++D))).Perm (D++(A++(B++C))):=by
 rw [← List.append_assoc B C D,← List.append_assoc A (B++C) D]
 exact List.perm_append_comm
structure WR (lo:Nat) (h:Heap) (w:World) (a1:Option (Nat×Nat)) (c1:Option Nat) (a2:Option (Nat×Nat)) (c2:Option Nat) (a3:Option (Nat×Nat)) (c3:Option Nat) (a4:Option (Nat×Nat)) (c4:Option Nat) (F1 F2 F3 F4:List Nat):Prop where
 r1:RPlaces false h [.sl 6 a1 w.places.length c1] w.places F1
 r2:RSesss false h [.sl 5 a2 w.sess.length c2] w.sess F2
 r3:RFrames false h [.sl 9 a3 w.net.length c3] w.net F3
 r4:RDones false h [.sl 5 a4 w.hist.length c4] w.hist F4
 nd:(F1++(F2++(F3++F4))).Nodup
 ge:∀ y∈F1++(F2++(F3++F4)),lo≤y
 hl:lo≤h.length
def WAt (lo:Nat) (h:Heap) (cs:List V) (w:World) (F:List Nat):Prop:=∃ a1 c1 a2 c2 a3 c3 a4 c4 F1 F2 F3 F4,cs=w.cs a1 c1 a2 c2 a3 c3 a4 c4∧F=F1++(F2++(F3++F4))∧WR lo h w a1 c1 a2 c2 a3 c3 a4 c4 F1 F2 F3 F4
section
variable {lo:Nat}{h h':Heap}{w:World}{a1 a2 a3 a4 a:Option (Nat×Nat)}{c1 c2 c3 c4 c:Option Nat}{F1 F2 F3 F4:List Nat}
theorem WR.at (H:WR lo h w a1 c1 a2 c2 a3 c3 a4 c4 F1 F2 F3 F4):WAt lo h (w.cs a1 c1 a2 c2 a3 c3 a4 c4) w (F1++(F2++(F3++F4))):=⟨a1,c1,a2,c2,a3,c3,a4,c4,F1,F2,F3,F4,rfl,rfl,H⟩
theorem WR.lt (H:WR lo h w a1 c1 a2 c2 a3 c3 a4 c4 F1 F2 F3 F4):(∀ y∈F1,y<h.length)∧(∀ y∈F2,y<h.length)∧(∀ y∈F3,y<h.length)∧∀ y∈F4,y<h.length :=
 ⟨rplaces_ok.bd _ _ _ _ H.r1,rsesss_ok.bd _ _ _ _ H.r2,rframes_ok.bd _ _ _ _ H.r3,rdones_ok.bd _ _ _ _ H.r4⟩
theorem WR.bd (H:WR lo h w a1 c1 a2 c2 a3 c3 a4 c4 F1 F2 F3 F4):∀ y∈F1++(F2++(F3++F4)),y<h.length:=fun y hy=>by
 obtain ⟨g1,g2,g3,g4⟩:=H.lt
 simp only [List.mem_append] at hy
 rcases hy with hy | hy | hy | hy
 ·exact g1 y hy
 ·exact g2 y hy
 ·exact g3 y hy
 ·exact g4 y hy
theorem nd4 (h:(F1++(F2++(F3++F4))).Nodup):(F1.Nodup∧F2.Nodup∧F3.Nodup∧F4.Nodup)∧(∀ y∈F1,y∉F2)∧(∀ y∈F1,y∉F3)∧(∀ y∈F1,y∉F4)∧(∀ y∈F2,y∉F3)∧(∀ y∈F2,y∉F4)∧∀ y∈F3,y∉F4:=by
 simp only [List.nodup_append,List.mem_append] at h
 obtain ⟨h1,⟨h2,⟨h3,h4,h5⟩,h6⟩,h7⟩:=h
 exact ⟨⟨h1,h2,h3,h4⟩,fun y hy hm=>h7 y hy y (.inl hm) rfl,fun y hy hm=>h7 y hy y (.inr (.inl hm)) rfl,fun y hy hm=>h7 y hy y (.inr (.inr hm)) rfl,fun y hy hm=>h6 y hy y (.inl hm) rfl,fun y hy hm=>h6 y hy y (.inr hm) rfl,fun y hy hm=>h5 y hy y hm rfl⟩
theorem WR.up1 (H:WR lo h w a1 c1 a2 c2 a3 c3 a4 c4 F1 F2 F3 F4) {l:List Place}{G:List Nat} (m:Mv h F1 h' G) (r:RPlaces false h' [.sl 6 a l.length c] l G) :
  WR lo h' ⟨l,w.sess,w.net,w.hist⟩ a c a2 c2 a3 c3 a4 c4 G F2 F3 F4∧Mv h (F1++(F2++(F3++F4))) h' (G++(F2++(F3++F4))):=by
 obtain ⟨_,d12,d13,d14,d23,d24,d34⟩:=nd4 H.nd
 have m1:Mv h (F1++(F2++(F3++F4))) h' (G++(F2++(F3++F4))):=m.mid (.refl _) H.nd (fun y hy=>H.bd y (by simp only [List.mem_append] at hy ⊢;grind)) (.refl _)
 exact ⟨⟨r,m.keep rsesss_ok H.r2 (fun b hb hm=>d12 b hm hb),m.keep rframes_ok H.r3 (fun b hb hm=>d13 b hm hb),m.keep rdones_ok H.r4 (fun b hb hm=>d14 b hm hb),m1.nd,m1.ge H.hl H.ge,Nat.le_trans H.hl m.le⟩,m1⟩
theorem WR.up2 (H:WR lo h w a1 c1 a2 c2 a3 c3 a4 c4 F1 F2 F3 F4) {l:List Sess}{G:List Nat} (m:Mv h F2 h' G) (r:RSesss false h' [.sl 5 a l.length c] l G) :
  WR lo h' ⟨w.places,l,w.net,w.hist⟩ a1 c1 a c a3 c3 a4 c4 F1 G F3 F4∧Mv h (F1++(F2++(F3++F4))) h' (F1++(G++(F3++F4))):=by
 obtain ⟨_,d12,d13,d14,d23,d24,d34⟩:=nd4 H.nd
 have m1:Mv h (F1++(F2++(F3++F4))) h' (F1++(G++(F3++F4))):=m.mid zu6 H.nd (fun y hy=>H.bd y (by simp only [List.mem_append] at hy ⊢;grind)) zu6
 exact ⟨⟨m.keep rplaces_ok H.r1 (fun b hb hm=>d12 b hb hm),r,m.keep rframes_ok H.r3 (fun b hb hm=>d23 b hm hb),m.keep rdones_ok H.r4 (fun b hb hm=>d24 b hm hb),m1.nd,m1.ge H.hl H.ge,Nat.le_trans H.hl m.le⟩,m1⟩
theorem WR.up3 (H:WR lo h w a1 c1 a2 c2 a3 c3 a4 c4 F1 F2 F3 F4) {l:List Frame}{G:List Nat} (m:Mv h F3 h' G) (r:RFrames false h' [.sl 9 a l.length c] l G) :
  WR lo h' ⟨w.places,w.sess,l,w.hist⟩ a1 c1 a2 c2 a c a4 c4 F1 F2 G F4∧Mv h (F1++(F2++(F3++F4))) h' (F1++(F2++(G++F4))):=by
 obtain ⟨_,d12,d13,d14,d23,d24,d34⟩:=nd4 H.nd
 have m1:Mv h (F1++(F2++(F3++F4))) h' (F1++(F2++(G++F4))):=m.mid zxq H.nd (fun y hy=>H.bd y (by simp only [List.mem_append] at hy ⊢;grind)) zxq
 exact ⟨⟨m.keep rplaces_ok H.r1 (fun b hb hm=>d13 b hb hm),m.keep rsesss_ok H.r2 (fun b hb hm=>d23 b hb hm),r,m.keep rdones_ok H.r4 (fun b hb hm=>d34 b hm hb),m1.nd,m1.ge H.hl H.ge,Nat.le_trans H.hl m.le⟩,m1⟩
theorem WR.up4 (H:WR lo h w a1 c1 a2 c2 a3 c3 a4 c4 F1 F2 F3 F4) {l:List Done}{G:List Nat} (m:Mv h F4 h' G) (r:RDones false h' [.sl 5 a l.length c] l G) :
  WR lo h' ⟨w.places,w.sess,w.net,l⟩ a1 c1 a2 c2 a3 c3 a c F1 F2 F3 G∧Mv h (F1++(F2++(F3++F4))) h' (F1++(F2++(F3++G))):=by
 obtain ⟨_,d12,d13,d14,d23,d24,d34⟩:=nd4 H.nd
 have m1:Mv h (F1++(F2++(F3++F4))) h' (F1++(F2++(F3++G))):=m.mid zwu H.nd (fun y hy=>H.bd y (by simp only [List.mem_append] at hy ⊢;grind)) zwu
 exact ⟨⟨m.keep rplaces_ok H.r1 (fun b hb hm=>d14 b hb hm),m.keep rsesss_ok H.r2 (fun b hb hm=>d24 b hb hm),m.keep rframes_ok H.r3 (fun b hb hm=>d34 b hb hm),r,m1.nd,m1.ge H.hl H.ge,Nat.le_trans H.hl m.le⟩,m1⟩
theorem WR.up0 (H:WR lo h w a1 c1 a2 c2 a3 c3 a4 c4 F1 F2 F3 F4) (m:Mv h [] h' []):WR lo h' w a1 c1 a2 c2 a3 c3 a4 c4 F1 F2 F3 F4∧Mv h (F1++(F2++(F3++F4))) h' (F1++(F2++(F3++F4))) :=
 ⟨⟨m.keep0 rplaces_ok H.r1,m.keep0 rsesss_ok H.r2,m.keep0 rframes_ok H.r3,m.keep0 rdones_ok H.r4,H.nd,H.ge,Nat.le_trans H.hl m.le⟩,m.aside (by simpa using H.nd) H.bd⟩
theorem WR.place (H:WR lo h w a1 c1 a2 c2 a3 c3 a4 c4 F1 F2 F3 F4) {k:Nat} (hk:k<w.places.length):∃ b i s1 s2 s3 b1 d1 b2 d2 b3 d3 G1 G2 G3,a1=some (b,i) ∧
  ld h b (i+k) 0 6=some [.int .i64 w.places[k].me,.int .i64 w.places[k].clock,s1,s2,s3,.bool w.places[k].fell]∧ld h b (i+k) 2 1=some [s1]∧ld h b (i+k) 3 1=some [s2] ∧
  (∀ {R':Type} (K:Option (Nat×Nat)→Nat→Option Nat→Option R'),eS 2 s1 K=K b1 w.places[k].chain.length d1)∧(∀ {R':Type} (K:Option (Nat×Nat)→Nat→Option Nat→Option R'),eS 6 s2 K=K b2 w.places[k].log.length d2) ∧
  (∀ {R':Type} (K:Option (Nat×Nat)→Nat→Option Nat→Option R'),eS 1 s3 K=K b3 w.places[k].got.length d3) ∧
  RNodes false h [.sl 2 b1 w.places[k].chain.length d1] w.places[k].chain G1∧RVers false h [.sl 6 b2 w.places[k].log.length d2] w.places[k].log G2∧RVss false h [.sl 1 b3 w.places[k].got.length d3] w.places[k].got G3 ∧
  (G1++(G2++G3)).Nodup∧(∀ y∈G1++(G2++G3),lo≤y∧y<h.length∧y∈F1) ∧
  ∀ h1 G p' cs',Mv h (G1++(G2++G3)) h1 G→RPlace false h1 cs' p' G→cs'.length=6 →
   ∃ h2 F1',st lo h1 b (i+k) 0 cs'=some h2∧WR lo h2 (setP w k p') a1 c1 a2 c2 a3 c3 a4 c4 F1' F2 F3 F4∧Mv h (F1++(F2++(F3++F4))) h2 (F1'++(F2++(F3++F4))):=by
 obtain ⟨⟨n1,_⟩,_⟩:=nd4 H.nd
 obtain ⟨b,i,rs,row,G,ha,hbF,hbG,hb,hrow,hel,hGF,hGn,_,put⟩:=Sli.at (lo:=lo) rplace_ok H.r1 hk n1 (fun y hy=>H.ge y (by simp [hy]))
 obtain ⟨s1,s2,s3,b1,d1,b2,d2,b3,d3,G1,G2,G3,rfl,rfl,e1,e2,e3,g1,g2,g3⟩:=hel.form
 refine ⟨b,i,s1,s2,s3,b1,d1,b2,d2,b3,d3,G1,G2,G3,ha,by rw [zeR hb hrow];exact zhm rfl,by rw [zeR hb hrow];rfl,by rw [zeR hb hrow];rfl,e1,e2,e3,g1,g2,g3,hGn,fun y hy=>⟨H.ge y (by simp [hGF y hy]),H.lt.1 y (hGF y hy),hGF y hy⟩,fun h1 G p' cs' m hx hc=>?_⟩
 obtain ⟨h2,F',e,r,m2,_⟩:=put h1 G 0 cs' cs' p' m (zdy (by rw [hc];rfl)) hx
 have hlen:(w.places.set k p').length=w.places.length:=by simp
 rw [← hlen] at r
 obtain ⟨q1,q2⟩:=H.up1 m2 r
 exact ⟨h2,F',e,q1,q2⟩
end
section
variable {lo:Nat}{h:Heap}{p:Place}{b1 b2 b3:Option (Nat×Nat)}{d1 d2 d3:Option Nat}{G1 G2 G3:List Nat}
theorem zu7 {f:Nat} (g1:RNodes false h [.sl 2 b1 p.chain.length d1] p.chain G1) (g2:RVers false h [.sl 6 b2 p.log.length d2] p.log G2) (g3:RVss false h [.sl 1 b3 p.got.length d3] p.got G3) (hpo:zan p=true) (hc:zcY p.chain (f:Int)=true)
  (nd:(G1++(G2++G3)).Nodup) (hlo:∀ y∈G1++(G2++G3),lo≤y) (hl:lo≤h.length) :
  ∃ a6 c6 h5 h6 G,evl lo 152 [.agg [.sl 2 b1 p.chain.length d1],.int .i64 (f:Nat)] h=some (.agg [.sl 2 b1 p.chain.length d1],h5) ∧
   evl lo 153 [.agg [.int .i64 p.me,.int .i64 p.clock,.sl 2 b1 p.chain.length d1,.sl 6 b2 p.log.length d2,.sl 1 b3 p.got.length d3,.bool p.fell]] h5=some (.agg ((ze1 p f).cs b1 d1 a6 c6 b3 d3),h6) ∧
   RPlace false h6 ((ze1 p f).cs b1 d1 a6 c6 b3 d3) (ze1 p f) G∧Mv h (G1++(G2++G3)) h6 G:=by
 have hn:=(zfE (zcV hpo) (by decide) (by decide) (by decide)).1
 have hb:∀ y∈G1++(G2++G3),y<h.length:=fun y hy=>by
  simp only [List.mem_append] at hy
  rcases hy with hy | hy | hy
  ·exact rnodes_ok.bd _ _ _ _ g1 y hy
  ·exact rvers_ok.bd _ _ _ _ g2 y hy
  ·exact rvss_ok.bd _ _ _ _ g3 y hy
 have hc':=hc
 unfold zcY at hc'
 rw [Bool.and_eq_true] at hc'
 obtain ⟨hw,hps⟩:=hc'
 simp only [zak,Bool.and_eq_true,decide_eq_true_eq] at hw
 rw [Int.toNat_natCast] at hps
 have hk':f<p.chain.length:=by omega
 rw [zjn hk',Bool.and_eq_true,decide_eq_true_eq] at hps
 have nd':=nd
 rw [List.nodup_append,List.nodup_append] at nd'
 obtain ⟨nd1,⟨nd2,nd3,nd4⟩,nd5⟩:=nd'
 obtain ⟨h5,F5,e5,r5,m5⟩:=zk1 (lo:=lo) g1 (by omega) hps.1 nd1 (fun y hy=>hlo y (by simp [hy])) hl hn.1 (ztA hpo)
 have g25:=m5.keep rvers_ok g2 fun y hy hm=>nd5 y hm y (by simp [hy]) rfl
 have ht:=zta (ztb (k:=f) (zcV hpo)) (by decide) (by decide) (by decide)
 rw [← passN_len (k:=f)] at r5
 have d1':=(zoR m5 (Mv.refl nd2) nd hb).2.1
 obtain ⟨a6,c6,h6,F6,e6,r6,m6⟩:=zmL (lo:=lo) (p:=zo9 p f) (a3:=b3) (c3:=d3) r5 g25 (by show 0<(zhW _ _).length;rw [passN_len];omega) ht d1' nd2 (fun y hy=>hlo y (by simp [hy])) (Nat.le_trans hl m5.le)
 have hcs:(zo9 p f).cs b1 d1 b2 d2 b3 d3 = [.int .i64 p.me,.int .i64 p.clock,.sl 2 b1 p.chain.length d1,.sl 6 b2 p.log.length d2,.sl 1 b3 p.got.length d3,.bool p.fell]:=by simp only [Place.cs,zo9,passN_len]
 rw [hcs] at e6
 obtain ⟨m7,x1,x2,x3⟩:=zoR m5 m6 nd hb
 have hx:ze1 p (f:Int)=zd1 (zo9 p f):=by unfold ze1;rw [hc,cond_true,Int.toNat_natCast]
 rw [hx]
 exact ⟨a6,c6,h5,h6,F5++(F6++G3),e5,e6,⟨_,_,_,F5,F6,G3,rfl,rfl,m6.keep rnodes_ok r5 x1,r6,m6.keep rvss_ok (m5.keep rvss_ok g3 x2) x3⟩,m7⟩
theorem zvt {f:Nat} (g1:RNodes false h [.sl 2 b1 p.chain.length d1] p.chain G1) (g2:RVers false h [.sl 6 b2 p.log.length d2] p.log G2) (g3:RVss false h [.sl 1 b3 p.got.length d3] p.got G3) (hpo:zan p=true) (hc:zd9 p (f:Int)=true)
  (nd:(G1++(G2++G3)).Nodup) (hlo:∀ y∈G1++(G2++G3),lo≤y) (hl:lo≤h.length) :
  ∃ a5 c5 a6 c6 h5 h6 G,evl lo 117 [.agg [.sl 2 b1 p.chain.length d1],.int .i64 (f:Nat)] h=some (.agg [.sl 2 a5 (zde p.chain f).length c5],h5) ∧
   evl lo 153 [.agg [.int .i64 p.me,.int .i64 p.clock,.sl 2 a5 (zde p.chain f).length c5,.sl 6 b2 p.log.length d2,.sl 1 b3 p.got.length d3,.bool true]] h5=some (.agg ((ze2 p f).cs a5 c5 a6 c6 b3 d3),h6) ∧
   RPlace false h6 ((ze2 p f).cs a5 c5 a6 c6 b3 d3) (ze2 p f) G∧Mv h (G1++(G2++G3)) h6 G:=by
 have hn:=(zfE (zcV hpo) (by decide) (by decide) (by decide)).1
 have hb:∀ y∈G1++(G2++G3),y<h.length:=fun y hy=>by
  simp only [List.mem_append] at hy
  rcases hy with hy | hy | hy
  ·exact rnodes_ok.bd _ _ _ _ g1 y hy
  ·exact rvers_ok.bd _ _ _ _ g2 y hy
  ·exact rvss_ok.bd _ _ _ _ g3 y hy
 have hc':=hc
 unfold zd9 zhS at hc'
 simp only [Bool.and_eq_true,zak,decide_eq_true_eq] at hc'
 obtain ⟨hfl,hw,hl1⟩:=hc'
 have hk':f<p.chain.length:=by omega
 have nd':=nd
 rw [List.nodup_append,List.nodup_append] at nd'
 obtain ⟨nd1,⟨nd2,nd3,nd4⟩,nd5⟩:=nd'
 obtain ⟨a5,c5,h5,F5,e5,r5,m5⟩:=zk2 (lo:=lo) g1 hk' hl1 (zpi (zaK hpo).2.2.2.1 (by omega)) nd1 (fun y hy=>hlo y (by simp [hy])) hl hn.1.1 (fun x hx=>(ztA hpo x hx).1)
 have g25:=m5.keep rvers_ok g2 fun y hy hm=>nd5 y hm y (by simp [hy]) rfl
 have ht:=zta (ztc (k:=f) (zcV hpo)) (by decide) (by decide) (by decide)
 have d1':=(zoR m5 (Mv.refl nd2) nd hb).2.1
 obtain ⟨a6,c6,h6,F6,e6,r6,m6⟩:=zmL (lo:=lo) (p:=zsG p f) (a3:=b3) (c3:=d3) r5 g25 (by show 0<(zde _ _).length;rw [ziO hk' hl1];omega) ht d1' nd2 (fun y hy=>hlo y (by simp [hy])) (Nat.le_trans hl m5.le)
 have hcs:(zsG p f).cs a5 c5 b2 d2 b3 d3 = [.int .i64 p.me,.int .i64 p.clock,.sl 2 a5 (zde p.chain f).length c5,.sl 6 b2 p.log.length d2,.sl 1 b3 p.got.length d3,.bool true]:=rfl
 rw [hcs] at e6
 obtain ⟨m7,x1,x2,x3⟩:=zoR m5 m6 nd hb
 have hx:ze2 p (f:Int)=zd1 (zsG p f):=by unfold ze2;rw [hc,cond_true,Int.toNat_natCast]
 rw [hx]
 exact ⟨a5,c5,a6,c6,h5,h6,F5++(F6++G3),e5,e6,⟨_,_,_,F5,F6,G3,rfl,rfl,m6.keep rnodes_ok r5 x1,r6,m6.keep rvss_ok (m5.keep rvss_ok g3 x2) x3⟩,m7⟩
theorem zvh (g1:RNodes false h [.sl 2 b1 p.chain.length d1] p.chain G1) (g2:RVers false h [.sl 6 b2 p.log.length d2] p.log G2) (g3:RVss false h [.sl 1 b3 p.got.length d3] p.got G3) (hpo:zan p=true) (hc:zct p.chain=true)
  (nd:(G1++(G2++G3)).Nodup) (hlo:∀ y∈G1++(G2++G3),lo≤y) (hl:lo≤h.length) :
  ∃ a5 c5 h5 G,evl lo 130 [.agg [.sl 2 b1 p.chain.length d1]] h=some (.agg [.sl 2 a5 (zdW p.chain).length c5],h5) ∧
   RPlace false h5 ((ze6 p).cs a5 c5 b2 d2 b3 d3) (ze6 p) G∧Mv h (G1++(G2++G3)) h5 G:=by
 have hn:=(zfE (zcV hpo) (by decide) (by decide) (by decide)).1
 have hb:∀ y∈G1++(G2++G3),y<h.length:=fun y hy=>by
  simp only [List.mem_append] at hy
  rcases hy with hy | hy | hy
  ·exact rnodes_ok.bd _ _ _ _ g1 y hy
  ·exact rvers_ok.bd _ _ _ _ g2 y hy
  ·exact rvss_ok.bd _ _ _ _ g3 y hy
 have h0:=zd6 hpo
 have nd':=nd
 rw [List.nodup_append,List.nodup_append] at nd'
 obtain ⟨nd1,⟨nd2,nd3,nd4⟩,nd5⟩:=nd'
 obtain ⟨a5,c5,h5,F5,e5,r5,m5⟩:=zh7 (lo:=lo) g1 h0 hn.1 nd1 (fun y hy=>hlo y (by simp [hy])) hl
 have hj:zdW p.chain=zhf p.chain:=by unfold zdW;rw [hc];rfl
 have hjl:(zhf p.chain).length=p.chain.length+1:=by rw [zeV h0];simp
 obtain ⟨m7,x1,x2,x3⟩:=zoR m5 (Mv.refl nd2) nd hb
 rw [← hjl,← hj] at e5 r5
 refine ⟨a5,c5,h5,F5++(G2++G3),e5,⟨_,_,_,F5,G2,G3,rfl,rfl,r5,m5.keep rvers_ok g2 fun y hy hm=>nd5 y hm y (by simp [hy]) rfl,m5.keep rvss_ok g3 x2⟩,m7⟩
end
end Go.Proofs.YthdfojchihooeaaGreat
namespace Go.Proofs.YthdfojchihooeaaGreat
open Go T


set_option maxRecDepth 100000
section
variable {lo:Nat}{h h':Heap}{w:World}{a1 a2 a3 a4 a:Option (Nat×Nat)}{c1 c2 c3 c4 c:Option Nat}{F1 F2 F3 F4:List Nat}
theorem ztn {k:Nat}{p:Place}:(setP w k p).cs a1 c1 a2 c2 a3 c3 a4 c4=w.cs a1 c1 a2 c2 a3 c3 a4 c4:=by simp only [World.cs,setP,List.length_set]
theorem Good.at (hg:Good w) {k:Nat} (hk:k<w.places.length):zan w.places[k]=true∧w.places[k].me=(k:Int)∧Roomy w.places[k]:=by
 have:=hg.ok.place k _ (List.getElem?_eq_getElem hk)
 exact ⟨this.2,this.1,hg.room _ (List.getElem_mem hk)⟩
theorem zuV {p:Place}{f:Nat}{b1 b2 b3:Option (Nat×Nat)}{d1 d2 d3:Option Nat}{G1 G2 G3:List Nat} (g1:RNodes false h [.sl 2 b1 p.chain.length d1] p.chain G1) (g2:RVers false h [.sl 6 b2 p.log.length d2] p.log G2) (g3:RVss false h [.sl 1 b3 p.got.length d3] p.got G3) (hpo:zan p=true) (hc:zd8 p (f:Int)=true)
  (nd:(G1++(G2++G3)).Nodup) (hlo:∀ y∈G1++(G2++G3),lo≤y) (hl:lo≤h.length) :
  ∃ a1' c1' a2' c2' a3' c3' h' G,evl lo 148 [.agg (p.cs b1 d1 b2 d2 b3 d3),.int .i64 (f:Nat)] h=some (.agg ((ze0 p (f:Int)).cs a1' c1' a2' c2' a3' c3'),h')∧RPlace false h' ((ze0 p (f:Int)).cs a1' c1' a2' c2' a3' c3') (ze0 p (f:Int)) G∧Mv h (G1++(G2++G3)) h' G:=by
 have hn:=(zfE (zcV hpo) (by decide) (by decide) (by decide)).1
 have hx:ze0 p (f:Int)=znx p f:=by unfold ze0;rw [hc,cond_true,Int.toNat_natCast]
 unfold zd8 at hc
 rw [Bool.and_eq_true,Int.toNat_natCast] at hc
 obtain ⟨hw,ht⟩:=hc
 simp only [zak,Bool.and_eq_true,decide_eq_true_eq] at hw
 have h3:=(zaK hpo).2.2.1
 obtain ⟨a2',c2',h',F',e,⟨_,_,_,_,_,_,ecs,r⟩,m⟩:=zqs (lo:=lo) (f:=f) g1 g2 g3 hpo (by omega) hn ht nd hlo hl
 rw [hx]
 exact ⟨_,_,_,_,_,_,h',F',e,r,m⟩
theorem zoW {e:Event} (H:WR lo h w a1 c1 a2 c2 a3 c3 a4 c4 F1 F2 F3 F4) (hg:Good w) :
  ∃ cs' h' F',evl lo 197 [.agg (w.cs a1 c1 a2 c2 a3 c3 a4 c4),.agg e.cs] h=some (.tup [.agg cs',.bool (zha w e).isSome],h')∧WAt lo h' cs' ((zha w e).getD w) F'∧Mv h (F1++(F2++(F3++F4))) h' F'∧((zha w e)=none→cs'=w.cs a1 c1 a2 c2 a3 c3 a4 c4):=by
 obtain ⟨kind,at',num,key,text,gone⟩:=e
 suffices hk:∃ cs' h' F',_=some (V.tup [.agg cs',.bool (zha w ⟨kind,at',num,key,text,gone⟩).isSome],h')∧WAt lo h' cs' ((zha w ⟨kind,at',num,key,text,gone⟩).getD w) F'∧Mv h (F1++(F2++(F3++F4))) h' F'∧((zha w ⟨kind,at',num,key,text,gone⟩)=none→cs'=w.cs a1 c1 a2 c2 a3 c3 a4 c4) from by
  obtain ⟨cs',h',F',e,hr⟩:=hk
  exact ⟨cs',h',F',zmn e,hr⟩
 rw [zbb,zac,zbi]
 unfold zha
 cases hat:zak at' 0 2 with
 | false =>
  rw [za5]
  exact ⟨_,h,_,rfl,H.at,Mv.refl H.nd,fun _=>rfl⟩
 | true =>
 simp only [zak,Bool.and_eq_true,decide_eq_true_eq] at hat
 obtain ⟨k,rfl⟩:∃ k:Nat,at'=(k:Int):=⟨at'.toNat,by omega⟩
 have hk:k<w.places.length:=by have:=hg.ok.p3;omega
 obtain ⟨hpo,hme,hro⟩:=hg.at hk
 have hn:=(zfE (zcV hpo) (by decide) (by decide) (by decide)).1
 obtain ⟨b,i,s1,s2,s3,b1,d1,b2,d2,b3,d3,G1,G2,G3,rfl,hld,_,_,e1,e2,e3,g1,g2,g3,nd,hF,put⟩:=H.place hk
 have hFlo:∀ y∈G1++(G2++G3),lo≤y:=fun y hy=>(hF y hy).1
 rw [zaN,zab hk,zam,Int.toNat_natCast,hld,zam,zad,zaa,zad,zaa,zad,e1,zad,e2,zad,e3,zad,zaS,zao,cond_true,List.getElem?_eq_getElem hk]
 simp only []
 generalize hp:w.places[k]=p at hpo hme hro hn hld e1 e2 e3 g1 g2 g3 put
 have done:∀ (h1:Heap) (G:List Nat) (p':Place) (cs':List V),Mv h (G1++(G2++G3)) h1 G→RPlace false h1 cs' p' G→cs'.length=6 →
   ∃ h2 F',st lo h1 b (i+k) 0 cs'=some h2∧WAt lo h2 (w.cs (some (b,i)) c1 a2 c2 a3 c3 a4 c4) (setP w k p') F'∧Mv h (F1++(F2++(F3++F4))) h2 F':=fun h1 G p' cs' m r hc=>by
  obtain ⟨h2,F1',e,q,m2⟩:=put h1 G p' cs' m r hc
  refine ⟨h2,_,e,?_,m2⟩
  rw [← ztn (k:=k) (p:=p')];exact q.at
 have hsame:setP w k p=w:=by unfold setP;rw [← hp,List.set_getElem_self]
 obtain ⟨h9,F9,e9,W9,m9⟩:=done h _ p (p.cs b1 d1 b2 d2 b3 d3) (Mv.refl nd) ⟨_,_,_,G1,G2,G3,rfl,rfl,g1,g2,g3⟩ rfl
 rw [hsame] at W9
 simp only [Place.cs] at e9
 cases h6:kind==6 with
 | true =>
  rw [zaN,zmO g1 hn.1.1,zac,zbi]
  cases hc:zcY p.chain num with
  | false =>
   have hs:zfG p ⟨kind,(k:Nat),num,key,text,gone⟩=none:=by simp only [zfG,h6,hc,cond_true,cond_false]
   rw [za5,zab hk,zam,e9,zam,hs]
   exact ⟨_,h9,F9,rfl,W9,m9,fun _=>rfl⟩
  | true =>
   obtain ⟨f,rfl⟩:∃ f:Nat,num=(f:Int):=by
    unfold zcY at hc
    simp only [zak,Bool.and_eq_true,decide_eq_true_eq] at hc
    exact ⟨num.toNat,by omega⟩
   have hs:zfG p ⟨kind,(k:Nat),(f:Nat),key,text,gone⟩=some (ze1 p f):=by simp only [zfG,h6,hc,cond_true]
   obtain ⟨a6,c6,h5,h6',G,e5,e6,r6,m6⟩:=zu7 (lo:=lo) g1 g2 g3 hpo hc nd hFlo H.hl
   obtain ⟨h8,F8,e8,W8,m8⟩:=done h6' G _ _ m6 r6 rfl
   simp only [Place.cs] at e6 e8
   rw [zaN,e5,zac,zbx,zad,zah,zao,e6,zac,zbx,zad,zaa,zad,zaa,zad,zah,zad,zah,zad,zah,zad,zaS,zao,zab hk,zam,e8,zam,hs]
   exact ⟨_,h8,F8,rfl,W8,m8,fun g=>by first | cases g | (simp at g)⟩
 | false =>
 rw [za5]
 cases h7:kind==7 with
 | true =>
  have ec:=zmc (lo:=lo) (h:=h) (p:=p) (k:=num) (a1:=b1) (c1:=d1) (a2:=b2) (c2:=d2) (a3:=b3) (c3:=d3) hn.1.1
  simp only [Place.cs] at ec
  rw [zaN,ec,zac,zbi]
  cases hc:zd9 p num with
  | false =>
   have hs:zfG p ⟨kind,(k:Nat),num,key,text,gone⟩=none:=by simp only [zfG,h6,h7,hc,cond_true,cond_false]
   rw [za5,zab hk,zam,e9,zam,hs]
   exact ⟨_,h9,F9,rfl,W9,m9,fun _=>rfl⟩
  | true =>
   obtain ⟨f,rfl⟩:∃ f:Nat,num=(f:Int):=by
    unfold zd9 zhS at hc
    simp only [zak,Bool.and_eq_true,decide_eq_true_eq] at hc
    exact ⟨num.toNat,by omega⟩
   have hs:zfG p ⟨kind,(k:Nat),(f:Nat),key,text,gone⟩=some (ze2 p f):=by simp only [zfG,h6,h7,hc,cond_true,cond_false]
   obtain ⟨a5,c5,a6,c6,h5,h6',G,e5,e6,r6,m6⟩:=zvt (lo:=lo) g1 g2 g3 hpo hc nd hFlo H.hl
   obtain ⟨h8,F8,e8,W8,m8⟩:=done h6' G _ _ m6 r6 rfl
   simp only [Place.cs] at e6 e8
   rw [zaN,e5,zac,zbx,zad,zah,zao,e6,zac,zbx,zad,zaa,zad,zaa,zad,zah,zad,zah,zad,zah,zad,zaS,zao,zab hk,zam,e8,zam,hs]
   exact ⟨_,h8,F8,rfl,W8,m8,fun g=>by first | cases g | (simp at g)⟩
 | false =>
 rw [za5]
 cases h8:kind==8 with
 | true =>
  rw [zaN]
  cases hc:zct p.chain with
  | false =>
   have hs:zfG p ⟨kind,(k:Nat),num,key,text,gone⟩=none:=by simp only [zfG,h6,h7,h8,hc,cond_true,cond_false]
   unfold zct at hc
   rw [decide_eq_false_iff_not] at hc
   rw [zaj hc,zab hk,zam,e9,zam,hs]
   exact ⟨_,h9,F9,rfl,W9,m9,fun _=>rfl⟩
  | true =>
   have hs:zfG p ⟨kind,(k:Nat),num,key,text,gone⟩=some (ze6 p):=by simp only [zfG,h6,h7,h8,hc,cond_true,cond_false]
   obtain ⟨a5,c5,h5,G,e5,r6,m6⟩:=zvh (lo:=lo) g1 g2 g3 hpo hc nd hFlo H.hl
   obtain ⟨h8',F8,e8,W8,m8⟩:=done h5 G _ _ m6 r6 rfl
   unfold zct at hc
   rw [decide_eq_true_eq] at hc
   simp only [Place.cs,ze6] at e8
   rw [zal hc,e5,zac,zbx,zad,zah,zao,zab hk,zam,e8,zam,hs]
   exact ⟨_,h8',F8,rfl,W8,m8,fun g=>by first | cases g | (simp at g)⟩
 | false =>
 rw [za5,zbb,zac,zbi]
 cases hw:zak num 0 2 with
 | false =>
  have hs:zfG p ⟨kind,(k:Nat),num,key,text,gone⟩=none:=by simp only [zfG,h6,h7,h8,zd8,hw,Bool.false_and,cond_true,cond_false]
  rw [za5,zab hk,zam,e9,zam,hs]
  exact ⟨_,h9,F9,rfl,W9,m9,fun _=>rfl⟩
 | true =>
  have hw':=hw
  simp only [zak,Bool.and_eq_true,decide_eq_true_eq] at hw'
  obtain ⟨f,rfl⟩:∃ f:Nat,num=(f:Int):=⟨num.toNat,by omega⟩
  have h3:=(zaK hpo).2.2.1
  have ec:=zmb (lo:=lo) (f:=f) (a2:=b2) (c2:=d2) g1 g3 hpo (by omega) hn
  simp only [Place.cs] at ec
  rw [zaN,ec,zac,zbi]
  cases hc:znv p f with
  | false =>
   have hs:zfG p ⟨kind,(k:Nat),(f:Nat),key,text,gone⟩=none:=by simp only [zfG,h6,h7,h8,zd8,hw,Int.toNat_natCast,hc,Bool.and_false,cond_true,cond_false]
   rw [za5,zab hk,zam,e9,zam,hs]
   exact ⟨_,h9,F9,rfl,W9,m9,fun _=>rfl⟩
  | true =>
   have hct:zd8 p (f:Int)=true:=by unfold zd8;rw [hw,Int.toNat_natCast,hc];rfl
   have hs:zfG p ⟨kind,(k:Nat),(f:Nat),key,text,gone⟩=some (ze0 p f):=by simp only [zfG,h6,h7,h8,hct,cond_true,cond_false]
   obtain ⟨x1,y1,x2,y2,x3,y3,h5,G,e5,r6,m6⟩:=zuV (lo:=lo) g1 g2 g3 hpo hct nd hFlo H.hl
   obtain ⟨h8',F8,e8,W8,m8⟩:=done h5 G _ _ m6 r6 rfl
   simp only [Place.cs] at e5 e8
   rw [zaN,e5,zac,zbx,zad,zaa,zad,zaa,zad,zah,zad,zah,zad,zah,zad,zaS,zao,zab hk,zam,e8,zam,hs]
   exact ⟨_,h8',F8,rfl,W8,m8,fun g=>by first | cases g | (simp at g)⟩
end
end Go.Proofs.YthdfojchihooeaaGreat
namespace Go.Proofs.YthdfojchihooeaaGreat
open Go T


set_option maxRecDepth 100000
theorem zup {α:Type}{El:Rel α} (ok:El.Ok) {lo R ee bytes:Nat}{h:Heap}{a:Option (Nat×Nat)}{c:Option Nat}{F:List Nat}{l:List α}{k:Nat} (hs:Sli false R ee El h [.sl R a l.length c] l F) (hk:k<l.length) (hnd:F.Nodup) (hlo:∀ b∈F,lo≤b) (hl:lo≤h.length) (hby:0<bytes) (hn:l.length*bytes≤140737488355328) :
  ∃ a' c' h' F',(∀ {T:Type} (K:V→Heap→Option T),(zaz a l.length c none (some (.int .i64 (k:Nat))) none fun a_0 n_1 c_2=>zaq R (h ++ [.rows R ee false []]) (.sl R a_0 n_1 c_2) fun x_3=>app lo ee R bytes (.sl R (some ((List.length h),0)) 0 (some 0)) x_3 (h ++ [.rows R ee false []]) fun v_4 h_5=>eS R (v_4) fun a_6 n_7 c_8 =>
    zaz a l.length c (some (.int .i64 ((k+1:Nat):Int))) none none fun a_9 n_10 c_11=>zaq R h_5 (.sl R a_9 n_10 c_11) fun x_12=>app lo ee R bytes (.sl R a_6 n_7 c_8) x_12 h_5 K)=K (.sl R a' (l.eraseIdx k).length c') h') ∧
   Sli false R ee El h' [.sl R a' (l.eraseIdx k).length c'] (l.eraseIdx k) F'∧Mv h F h' F':=by
 have hbd:=(Sli.ok ok).bd _ _ _ _ hs
 obtain ⟨Fs,nF,sF,own,cuts⟩:=Sli.parts hs hnd
 obtain ⟨rP,_,eP,_,kP,_⟩:=cuts k (by omega)
 obtain ⟨_,rQ,_,eQ,_,kQ⟩:=cuts (k+1) (by omega)
 obtain ⟨nP,_,dPQ⟩:=zdv (k:=k) nF
 obtain ⟨_,nQ,_⟩:=zdv (k:=k+1) nF
 have inP:∀ y∈(Fs.take k).flatten,y∈Fs.flatten:=fun y hy=>by rw [← List.take_append_drop k Fs,List.flatten_append];simp [hy]
 have inQ:∀ y∈(Fs.drop (k+1)).flatten,y∈(Fs.drop k).flatten:=fun y hy=>by
  have:Fs.drop (k+1)=(Fs.drop k).drop 1:=by rw [List.drop_drop]
  rw [this] at hy
  rw [← List.take_append_drop 1 (Fs.drop k),List.flatten_append];exact List.mem_append.2 (.inr hy)
 have inQ':∀ y∈(Fs.drop (k+1)).flatten,y∈Fs.flatten:=fun y hy=>by rw [← List.take_append_drop k Fs,List.flatten_append];simp [inQ y hy]
 have hFl:∀ y∈Fs.flatten,y<h.length:=fun y hy=>hbd y (sF y hy)
 have htl:(l.take k).length=k:=by rw [List.length_take];omega
 have hdl:(l.drop (k+1)).length=l.length - (k+1):=by rw [List.length_drop]
 obtain ⟨a3,c3,h3,F3,e3,r3,l3,fr3,sub3,nd3⟩:=zhL (lo:=lo) (R:=R) (e:=ee) (bytes:=bytes) ok eP nP (fun y hy=>hFl y (inP y hy)) hby (by rw [htl];exact Nat.le_trans (Nat.mul_le_mul_right _ (by omega)) hn) hl
 have hQ3:∀ y∈(Fs.drop (k+1)).flatten,y∉F3∧y<h3.length:=fun y hy=>by
  have:=hFl y (inQ' y hy)
  refine ⟨fun hm3=>?_,by omega⟩
  rcases sub3 y hm3 with g | g
  ·exact dPQ y g y (inQ y hy) rfl
  ·omega
 have F3b:∀ y∈F3,y<h3.length:=(Sli.ok ok).bd _ _ _ _ r3
 obtain ⟨a7,c7,h7,F7,e7,r7,l7,fr7,sub7,nd7⟩:=ziC (lo:=lo) (bytes:=bytes) ok.fr r3 (xs:=rQ) (ys:=l.drop (k+1)) (Gs:=Fs.drop (k+1)) (eQ.fr ok.fr fun y hy=>fr3 y (hFl y (inQ' y hy))) hby (by rw [htl,hdl];exact Nat.le_trans (Nat.mul_le_mul_right _ (by omega)) hn) (fun y hy=>by
   rcases sub3 y hy with g | g
   ·exact hlo y (sF y (inP y g))
   ·omega) (by omega) (by
   rw [List.nodup_append]
   refine ⟨nd3,nQ,fun x hx y hy e=>?_⟩
   subst e
   exact (hQ3 x hy).1 hx) (fun y hy=>by
   rcases List.mem_append.1 hy with hy | hy
   ·exact F3b y hy
   ·exact (hQ3 y hy).2)
 have hel:(l.take k).length+(l.drop (k+1)).length=(l.eraseIdx k).length:=by rw [List.length_eraseIdx_of_lt hk,htl,hdl];omega
 have her:l.take k++l.drop (k+1)=l.eraseIdx k:=(List.eraseIdx_eq_take_drop_succ l k).symm
 rw [hel] at e7 r7
 rw [her] at r7
 have mm0:Mv h [] (h ++ [.rows R ee false []]) []:=Mv.snoc
 refine ⟨a7,c7,h7,F7,fun K=>?_,r7,⟨by omega,fun y hy hyF=>?_,nd7,fun y hy=>?_⟩⟩
 ·rw [kP _ (fun b i e=>mm0.fr b (hbd b (own b i e).1) (by simp)),e3,zah,kQ _ (fun b i e=>fr3 b (hbd b (own b i e).1)),e7]
 ·have y3:y∉F3:=fun hm3=>by
   rcases sub3 y hm3 with g | g
   ·exact hyF (sF y (inP y g))
   ·omega
  rw [fr7 y (by omega) y3,fr3 y hy]
 ·rcases sub7 y hy with g | g
  ·rcases List.mem_append.1 g with g | g
   ·rcases sub3 y g with g | g
    ·exact .inl (sF y (inP y g))
    ·exact .inr (by omega)
   ·exact .inl (sF y (inQ' y g))
  ·exact .inr (by omega)
theorem zlE {h:Heap}:∀ {xs:List (List V)},EAll (flat id) h xs xs (xs.map fun _ => [])
 | []=>trivial
 | x :: xs=>⟨⟨rfl,rfl⟩,zlE⟩
theorem znk {h:Heap}{rows xs:List (List V)}{Fs:List (List Nat)} (hx:EAll (flat id) h rows xs Fs):rows=xs∧Fs.flatten = []:=by
 have:=hx.of_flat
 simpa using this
theorem Sli.bare {α:Type}{El:Rel α}{R e n:Nat}{h:Heap}{a:Option (Nat×Nat)}{c:Option Nat}{l:List α}{F:List Nat} (hs:Sli false R e El h [.sl R a n c] l F) :
  ∃ xs Fs F0,Sli false R e (flat id) h [.sl R a n c] xs F0∧EAll El h xs l Fs∧F=F0++Fs.flatten:=by
 obtain ⟨R1,a1,c1,e1,g⟩:=hs
 injection e1 with e1 _;injection e1 with e0 e2 e4 e3
 subst e2;subst e3;subst e4
 cases a with
 | none =>
  obtain ⟨rfl,rfl,rfl⟩:=g
  exact ⟨[],[],[],⟨R1,none,some 0,by rw [e0];rfl,rfl,rfl,rfl⟩,trivial,rfl⟩
 | some p =>
  obtain ⟨b,i⟩:=p
  obtain ⟨_,rs,Fs,g1,g2,g3,g4,g5,rfl⟩:=g
  have hlen:((rs.drop i).take l.length).length=l.length:=by rw [List.length_take,List.length_drop];omega
  refine ⟨(rs.drop i).take l.length,Fs,[b],⟨R,some (b,i),c,by rw [hlen],rfl,rs,_,g1,by rw [hlen];exact g2,by rw [hlen];exact g3,g4,?_,by rw [(znk (zlE (h:=h) (xs:=(rs.drop i).take l.length))).2]⟩,g5,rfl⟩
  rw [hlen];exact zlE
theorem Sli.cook {α:Type}{El:Rel α}{R e n:Nat}{h:Heap}{a:Option (Nat×Nat)}{c:Option Nat}{xs:List (List V)}{l:List α}{F0:List Nat}{Fs:List (List Nat)} (hs:Sli false R e (flat id) h [.sl R a n c] xs F0) (hx:EAll El h xs l Fs) :
  Sli false R e El h [.sl R a n c] l (F0++Fs.flatten):=by
 have hl:=hx.len
 obtain ⟨R1,a1,c1,e1,g⟩:=hs
 injection e1 with e1 _;injection e1 with e0 e2 e4 e3
 subst e2;subst e3;subst e4
 cases a with
 | none =>
  obtain ⟨rfl,rfl,rfl⟩:=g
  have:l = []:=List.eq_nil_of_length_eq_zero hl.1.symm
  subst this
  have:Fs = []:=List.eq_nil_of_length_eq_zero hl.2
  subst this
  exact ⟨R1,none,some 0,by rw [e0];rfl,rfl,rfl,rfl⟩
 | some p =>
  obtain ⟨b,i⟩:=p
  obtain ⟨_,rs,Gs,g1,g2,g3,g4,g5,rfl⟩:=g
  obtain ⟨q1,q2⟩:=znk g5
  refine ⟨R,some (b,i),c,by rw [hl.1],rfl,rs,Fs,g1,by rw [← hl.1];exact g2,by rw [← hl.1];exact g3,g4,?_,by rw [q2];rfl⟩
  rw [← hl.1,q1];exact hx
end Go.Proofs.YthdfojchihooeaaGreat
namespace Go.Proofs.YthdfojchihooeaaGreat
open Go T


set_option maxRecDepth 100000
section
variable {lo:Nat}{h h':Heap}{w:World}{a1 a2 a3 a4 a:Option (Nat×Nat)}{c1 c2 c3 c4 c:Option Nat}{F1 F2 F3 F4:List Nat}
theorem zk9 (hg:Good w) {f:Frame} (hf:zjD w.places f):thin f.ver∧zbg f.ver=true∧f.ver.tag.place=f.fro:=by
 obtain ⟨h1,h2,h3,h4,h5⟩:=hf
 have hk:f.fro.toNat<w.places.length:=by have:=hg.ok.p3;omega
 obtain ⟨hpo,hme,_⟩:=hg.at hk
 rw [zpg hk] at h5
 obtain ⟨hi,h5⟩:=List.getElem?_eq_some_iff.1 h5
 obtain ⟨_,hl⟩:=zgw (zaK hpo).2.2.2.2.2.1
 obtain ⟨g1,g2,_⟩:=hl _ hi
 rw [h5] at g1 g2
 exact ⟨zg7 g1,g1,by rw [g2,hme];omega⟩
theorem zrD {f:Frame}{b:Option (Nat×Nat)}{d:Option Nat}{G:List Nat} (H:WR lo h w a1 c1 a2 c2 a3 c3 a4 c4 F1 F2 F3 F4) (hg:Good w) (hf:zjD w.places f) (hv:RTags false h [.sl 2 b f.ver.past.length d] f.ver.past G) :
  ∃ h' F',(inB f.to w.places.length (eO a1 fun w0=>eO (ld h w0.1 (w0.2+f.to.toNat) 0 6) fun w0=>eC w0 fun w0 p=>eI .i64 w0 fun w0=>eC p fun p q=>eI .i64 p fun p=>eC q fun q g=>eS 2 q fun q i j=>eC g fun g k=>eS 6 g fun g m t=>eC k fun k d0=>eS 1 k fun k e f0=>eC d0 fun d0 v0=>eBv d0 fun d0=>eN v0 (cal (evl lo 139 [.agg [.int .i64 w0,.int .i64 p,.sl 2 q i j,.sl 6 g m t,.sl 1 k e f0,.bool d0],.int .i64 f.fro,.int .i64 f.at',.agg [.int .i64 f.ver.key,.int .i64 f.ver.tag.time,.int .i64 f.ver.tag.place,.sl 2 b f.ver.past.length d,.str f.ver.text,.bool f.ver.gone]] h) fun w1 p=>eU w1 fun w1=>eC w1 fun w1 q=>eA w1 fun w1=>eC w1 fun w1 g=>eI .i64 w1 fun w1=>eC g fun g i=>eI .i64 g fun g=>eC i fun i j=>eS 2 i fun i k m=>eC j fun j t=>eS 6 j fun j d e=>eC t fun t f0=>eS 1 t fun t v0 v1=>eC f0 fun f0 v2=>eBv f0 fun f0=>eN v2 (eC q fun q v2=>eB q (eN v2 (inB f.to w.places.length (eO a1 fun q=>eO (st lo p q.1 (q.2+f.to.toNat) 0 [.int .i64 w1,.int .i64 g,.sl 2 i k m,.sl 6 j d e,.sl 1 t v0 v1,.bool f0]) fun w1=>some (V.tup [.agg (w.cs a1 c1 a2 c2 a3 c3 a4 c4),.bool true],w1)))) (eN v2 (some (V.tup [.agg (w.cs a1 c1 a2 c2 a3 c3 a4 c4),.bool true],p)))))))=some (V.tup [.agg (w.cs a1 c1 a2 c2 a3 c3 a4 c4),.bool true],h') ∧
   WAt lo h' (w.cs a1 c1 a2 c2 a3 c3 a4 c4) (znP w f) F'∧Mv h (F1++(F2++(F3++F4))) h' F':=by
 obtain ⟨hth,hvo,hvt⟩:=zk9 hg hf
 obtain ⟨⟨h1,h1'⟩,⟨h2,h2'⟩,h3,h4,h5⟩:=hf
 obtain ⟨fro,to,at',ver⟩:=f
 simp only at *
 obtain ⟨k,rfl⟩:∃ k:Nat,to=(k:Int):=⟨to.toNat,by omega⟩
 obtain ⟨j,rfl⟩:∃ j:Nat,fro=(j:Int):=⟨fro.toNat,by omega⟩
 have hk:k<w.places.length:=by have:=hg.ok.p3;omega
 obtain ⟨hpo,hme,hro⟩:=hg.at hk
 obtain ⟨b0,i,s1,s2,s3,b1,d1,b2,d2,b3,d3,G1,G2,G3,rfl,hld,_,_,e1,e2,e3,g1,g2,g3,nd,hF,put⟩:=H.place hk
 have hx:znP w ⟨(j:Int),(k:Int),at',ver⟩=setP w k (zge w.places[k] j at' ver):=by
  unfold znP;simp only [Int.toNat_natCast,List.getElem?_eq_getElem hk]
 rw [hx]
 rw [zab hk,zam,Int.toNat_natCast,hld,zam,zad,zaa,zad,zaa,zad,e1,zad,e2,zad,e3,zad,zaS,zao]
 generalize hp:w.places[k]=p at hpo hme hro hld e1 e2 e3 g1 g2 g3 put
 have ht:=zcV hpo
 have h3g:=(zaK hpo).2.2.1
 have nd':=nd
 rw [List.nodup_append,List.nodup_append] at nd'
 obtain ⟨nd1,⟨nd2,nd3,nd4⟩,nd5⟩:=nd'
 have hj:j<p.got.length:=by omega
 obtain ⟨h5',F5,e5,r5,m5,x5⟩:=zoY (lo:=lo) (at':=at') (a1:=b1) (c1:=d1) (a2:=b2) (c2:=d2) g3 hv hj (by have:=(ht.got.2 _ (List.getElem_mem hj)).1;omega) (by have:=hth.1;omega) nd3 (fun y hy=>(hF y (by simp [hy])).1) H.hl
 simp only [Place.cs,Ver.cs] at e5
 have hc:zgh p (j:Int) at' ver=zju p j at' ver:=by
  unfold zgh
  rw [hvo,hvt,zqg,Int.toNat_natCast]
  simp [zak];omega
 have hsame:setP w k p=w:=by unfold setP;rw [← hp,List.set_getElem_self]
 rw [e5,zac,zs2,zad,zbx,zad,zaa,zad,zaa,zad,zah,zad,zah,zad,zah,zad,zaS,zao,zad,zbi]
 unfold zge
 rw [hc]
 cases hh:zju p j at' ver with
 | false =>
  have:=x5 hh
  subst this
  rw [za5,zao,cond_false,hsame]
  exact ⟨_,_,rfl,H.at,Mv.refl H.nd⟩
 | true =>
  rw [hh,cond_true] at r5
  have hb:∀ y∈G1++(G2++G3),y<h.length:=fun y hy=>(hF y hy).2.1
  have mm:Mv h (G1++(G2++G3)) h5' (G1++(G2++F5)):=m5.mid zv2 nd (fun y hy=>hb y (by simp only [List.mem_append] at hy ⊢;grind)) zv2
  have hcs:(zkh p j ver).cs b1 d1 b2 d2 b3 d3=p.cs b1 d1 b2 d2 b3 d3:=zwJ
  have rr:RPlace false h5' (p.cs b1 d1 b2 d2 b3 d3) (zkh p j ver) (G1++(G2++F5)):=by
   rw [← hcs]
   refine ⟨_,_,_,G1,G2,F5,rfl,rfl,m5.keep rnodes_ok g1 (fun y hy hm=>nd5 y hy y (by simp [hm]) rfl),m5.keep rvers_ok g2 (fun y hy hm=>nd4 y hy y hm rfl),?_⟩
   have:(zkh p j ver).got=p.got.set j (p.got[j] ++ [ver]):=by unfold zkh;rw [zhi hj]
   rw [this,List.length_set];exact r5
  obtain ⟨h6,F6,e6,q6,m6⟩:=put h5' _ _ _ mm rr rfl
  simp only [Place.cs] at e6
  rw [zaN,zao,zab hk,zam,e6,zam,cond_true,Int.toNat_natCast]
  refine ⟨h6,_,rfl,?_,m6⟩
  rw [← ztn (k:=k) (p:=zkh p j ver)]
  exact q6.at
def zv5 (w:World) (e:Event):Option World:=bif e.kind==10 then zsg w e else znc w e
theorem zr8 {e:Event} (H:WR lo h w a1 c1 a2 c2 a3 c3 a4 c4 F1 F2 F3 F4) (hg:Good w) :
  ∃ cs' h' F',evl lo 198 [.agg (w.cs a1 c1 a2 c2 a3 c3 a4 c4),.agg e.cs] h=some (.tup [.agg cs',.bool (zv5 w e).isSome],h')∧WAt lo h' cs' ((zv5 w e).getD w) F'∧Mv h (F1++(F2++(F3++F4))) h' F'∧((zv5 w e)=none→cs'=w.cs a1 c1 a2 c2 a3 c3 a4 c4):=by
 obtain ⟨kind,at',num,key,text,gone⟩:=e
 suffices hk:∃ cs' h' F',_=some (V.tup [.agg cs',.bool (zv5 w ⟨kind,at',num,key,text,gone⟩).isSome],h')∧WAt lo h' cs' ((zv5 w ⟨kind,at',num,key,text,gone⟩).getD w) F'∧Mv h (F1++(F2++(F3++F4))) h' F'∧((zv5 w ⟨kind,at',num,key,text,gone⟩)=none→cs'=w.cs a1 c1 a2 c2 a3 c3 a4 c4) from by
  obtain ⟨cs',h',F',e,hr⟩:=hk
  exact ⟨cs',h',F',zpW e,hr⟩
 have hp3:=hg.ok.p3
 have hn12:=hg.ok.n12
 unfold zv5
 cases h10:kind==10 with
 | true =>
  rw [cond_true,zaN,zbb,zac,zbi]
  unfold zsg
  cases x1:zak at' 0 2 with
  | false =>
   rw [Bool.false_and,cond_false,za5]
   exact ⟨_,h,_,rfl,H.at,Mv.refl H.nd,fun _=>rfl⟩
  | true =>
  rw [Bool.true_and,zaN,zbb,zac,zbi]
  cases x2:zak num 0 2 with
  | false =>
   rw [Bool.false_and,cond_false,za5]
   exact ⟨_,h,_,rfl,H.at,Mv.refl H.nd,fun _=>rfl⟩
  | true =>
  rw [Bool.true_and,zaN]
  cases x3:at'==num with
  | true =>
   rw [Bool.not_true,Bool.false_and,cond_false,zaN]
   exact ⟨_,h,_,rfl,H.at,Mv.refl H.nd,fun _=>rfl⟩
  | false =>
  rw [Bool.not_false,Bool.true_and,za5]
  by_cases x4:(w.net.length:Int)<12
  ·simp only [zak,Bool.and_eq_true,decide_eq_true_eq] at x1
   obtain ⟨k,rfl⟩:∃ k:Nat,at'=(k:Int):=⟨at'.toNat,by omega⟩
   have hk:k<w.places.length:=by omega
   obtain ⟨hpo,hme,hro⟩:=hg.at hk
   obtain ⟨b0,i,s1,s2,s3,b1,d1,b2,d2,b3,d3,G1,G2,G3,rfl,hld,hc2,hc3,e1,e2,e3,g1,g2,g3,nd,hF,put⟩:=H.place hk
   have hll:=(zcV hpo).log.1
   rw [decide_eq_true x4,Bool.true_and,zaj (by omega),zab hk,zam,Int.toNat_natCast,hc3,zam,zad,zao,e2,wr (by omega) (by omega),zbb,zac,zbi,zpg hk]
   generalize hp:w.places[k]=p at hpo hme hro hld e1 e2 e3 g1 g2 g3 put hll
   cases x5:zak key 0 ((p.log.length:Int) - 1) with
   | false =>
    rw [cond_false,za5]
    exact ⟨_,h,_,rfl,H.at,Mv.refl H.nd,fun _=>rfl⟩
   | true =>
   simp only [zak,Bool.and_eq_true,decide_eq_true_eq] at x5
   obtain ⟨m,rfl⟩:∃ m:Nat,key=(m:Int):=⟨key.toNat,by omega⟩
   have hm:m<p.log.length:=by omega
   obtain ⟨o,s,b,d,G,ha,ho,es,hpv,hGF⟩:=g2.get hm
   have hth:=(zcV hpo).log.2 _ (List.getElem_mem hm)
   obtain ⟨a5,c5,h5,F5,e5,r5,m5⟩:=zcb (lo:=lo) (v:=p.log[m]) hpv H.hl (by have:=hth.1;omega)
   have e5':=e5
   simp only [Ver.cs] at e5'
   rw [cond_true,zaN,zab hk,zam,hc3,zam,zad,zao,e2,zab hm,ha,zam,Int.toNat_natCast,ho,zam,zad,zaa,zad,zaa,zad,zaa,zad,es,zad,zdl,zad,zaS,zao,e5',zac,zbx,zad,zaa,zad,zaa,zad,zaa,zad,zah,zad,zdl,zad,zaS,zao,zaT,List.getElem?_eq_getElem hm]
   obtain ⟨⟨n1,n2,n3,n4⟩,_⟩:=nd4 H.nd
   obtain ⟨a6,c6,h6,F6,e6,r6,m6⟩:=zeN (lo:=lo) (bytes:=96) (e:=173) rframe_ok H.r3 (row := .int .i64 (k:Nat) :: .int .i64 num :: .int .i64 (m:Nat) :: p.log[m].cs a5 c5) (x:=⟨(k:Nat),num,(m:Nat),p.log[m]⟩) (G:=F5) (h1:=h5 ++ [.rows 9 173 false [.int .i64 (k:Nat) :: .int .i64 num :: .int .i64 (m:Nat) :: p.log[m].cs a5 c5]])
    ⟨_,rfl,_,rfl,Mv.snoc.keep0 rtags_ok r5⟩ (m5.trans (Mv.snoc' m5.nd)) n3 (fun y hy=>H.ge y (by simp [hy])) H.hl (by decide) (by omega)
   simp only [Ver.cs] at e6
   rw [e6,zah]
   have hnl:(w.net ++ [(⟨(k:Nat),num,(m:Nat),p.log[m]⟩:Frame)]).length=w.net.length+1:=by simp
   rw [← hnl] at r6
   obtain ⟨q,mq⟩:=H.up3 m6 r6
   refine ⟨_,h6,_,?_,q.at,mq,fun g=>by first | cases g | (simp at g)⟩
   rw [← hnl];rfl
  ·rw [decide_eq_false x4,Bool.false_and,cond_false,zal (by omega)]
   exact ⟨_,h,_,rfl,H.at,Mv.refl H.nd,fun _=>rfl⟩
 | false =>
 rw [cond_false,za5,wr (by omega) (by omega),zbb,zac,zbi]
 unfold znc
 cases x1:zak at' 0 ((w.net.length:Int) - 1) with
 | false =>
  rw [cond_false,za5]
  exact ⟨_,h,_,rfl,H.at,Mv.refl H.nd,fun _=>rfl⟩
 | true =>
 simp only [zak,Bool.and_eq_true,decide_eq_true_eq] at x1
 obtain ⟨j,rfl⟩:∃ j:Nat,at'=(j:Int):=⟨at'.toNat,by omega⟩
 have hj:j<w.net.length:=by omega
 obtain ⟨⟨n1,n2,n3,n4⟩,_⟩:=nd4 H.nd
 obtain ⟨xs,Fs,F0,hraw,hall,rfl⟩:=H.r3.bare
 have hxl:w.net.length=xs.length:=hraw.val
 obtain ⟨row,Fj,hr,hFj,⟨vs,rfl,hv⟩⟩:=hall.get (List.getElem?_eq_getElem hj)
 obtain ⟨s,b,d,rfl,es,hpv⟩:=hv.form
 obtain ⟨o,row',_,ha,hld,⟨rfl,_⟩,_⟩:=hraw.read (show j<xs.length by omega)
 have hro:xs[j]'(by omega) = .int .i64 w.net[j].fro :: .int .i64 w.net[j].to :: .int .i64 w.net[j].at' :: [.int .i64 w.net[j].ver.key,.int .i64 w.net[j].ver.tag.time,.int .i64 w.net[j].ver.tag.place,s,.str w.net[j].ver.text,.bool w.net[j].ver.gone]:=by
  rw [List.getElem?_eq_getElem (by omega)] at hr
  injection hr
 have hfi:=hg.ok.net _ (List.getElem_mem hj)
 have hld9:ld h o.1 (o.2+j) 0 9=some (.int .i64 w.net[j].fro :: .int .i64 w.net[j].to :: .int .i64 w.net[j].at' :: [.int .i64 w.net[j].ver.key,.int .i64 w.net[j].ver.tag.time,.int .i64 w.net[j].ver.tag.place,s,.str w.net[j].ver.text,.bool w.net[j].ver.gone]):=by
  rw [hld,id,hro];exact zhm rfl
 rw [zaN,zab hj,ha,zam,Int.toNat_natCast,hld9,zam,zad,zaa,zad,zaa,zad,zaa,zad,zaa,zad,zaa,zad,zaa,zad,es,zad,zdl,zad,zaS,zao,cond_true,List.getElem?_eq_getElem hj,← ha]
 simp only []
 cases h13:kind==13 with
 | true =>
  have h12:(kind==12)=false:=by rw [beq_iff_eq] at h13;subst h13;rfl
  rw [zaN,h12,za5]
  obtain ⟨h',F',e,W,m⟩:=zrD H hg hfi hpv
  refine ⟨_,h',F',e,?_,m,fun g=>by first | cases g | (simp at g)⟩
  simpa using W
 | false =>
  rw [List.nodup_append] at n3
  obtain ⟨n5,n6,n7⟩:=n3
  rw [hxl] at hraw
  obtain ⟨a6,c6,h6,F6,e6,r6,m6⟩:=zup (k:=j) (lo:=lo) (bytes:=96) zcE hraw (by omega) n5 (fun y hy=>H.ge y (by simp [hy])) H.hl (by decide) (by omega)
  rw [← hxl] at e6
  have hbd:∀ y∈F0++Fs.flatten,y<h.length:=H.lt.2.2.1
  have hel:(xs.eraseIdx j).length=(w.net.eraseIdx j).length:=by rw [List.length_eraseIdx_of_lt hj,List.length_eraseIdx_of_lt (by omega)];omega
  obtain ⟨k1,k2⟩:=ziN hFj n6
  have all6:=(hall.fr rframe_ok.fr fun y hy=>m6.fr y (hbd y (by simp [hy])) fun hm=>n7 y hm y hy rfl).erase j
  have r3':=r6.cook all6
  rw [hel] at r3' e6
  have mm:Mv h (F0++Fs.flatten) h6 (F6++Fs.flatten):=m6.mid (.refl _) (by rw [List.nodup_append];exact ⟨n5,n6,n7⟩) (fun y hy=>hbd y (by simp [hy])) (.refl _)
  have nd6:=mm.nd
  rw [List.nodup_append] at nd6
  have mm':Mv h (F0++Fs.flatten) h6 (F6++(Fs.eraseIdx j).flatten):=mm.lean (by
   rw [List.nodup_append]
   exact ⟨nd6.1,k1,fun x hx y hy=>nd6.2.2 x hx y (k2 y hy).1⟩) fun y hy=>by
    rcases List.mem_append.1 hy with hy | hy
    ·simp [hy]
    ·simp [(k2 y hy).1]
  obtain ⟨q,mq⟩:=H.up3 mm' r3'
  have hpv6:=m6.keep rtags_ok hpv fun y hy hm=>n7 y hm y (zhI hFj hy) rfl
  rw [show zv8 false=173 from rfl] at e6
  rw [za5,zap (by omega),e6,zah]
  cases h12:kind==12 with
  | true =>
   rw [zaN]
   exact ⟨_,h6,_,rfl,q.at,mq,fun g=>by first | cases g | (simp at g)⟩
  | false =>
   rw [za5]
   have hgn:Good (setN w (w.net.eraseIdx j)):=hg.setN (Nat.le_trans (List.length_eraseIdx_le _ _) hn12) fun x hx=>hg.ok.net x (List.mem_of_mem_eraseIdx hx)
   obtain ⟨h',F',e,W,m⟩:=zrD (w:=setN w (w.net.eraseIdx j)) q hgn hfi hpv6
   refine ⟨_,h',F',e,?_,mq.trans m,fun g=>by first | cases g | (simp at g)⟩
   simpa using W
end
end Go.Proofs.YthdfojchihooeaaGreat
namespace Go.Proofs.YthdfojchihooeaaGreat
open Go T


set_option maxRecDepth 100000
section
variable {lo:Nat}{h h':Heap}{F F':List Nat}{a a':Option (Nat×Nat)}{c c':Option Nat}
theorem zmS {s t:Tag}:evl lo 302 [.agg [.int .i64 s.time,.int .i64 s.place],.agg [.int .i64 t.time,.int .i64 t.place]] h=some (.agg [.int .i64 (znL s t).time,.int .i64 (znL s t).place],h):=by
 unfold znL zgP
 refine zp8 (h':=h) ?_
 rw [zbk,zac,zbi]
 cases zkF s.time s.place t.time t.place<;>rfl
theorem zoO {l:List Tag}{k:Nat}{t:Tag} (hk:k<l.length):zjc l k t=l.set k (znL l[k] t):=by unfold zjc;rw [List.getElem?_eq_getElem hk]
theorem zs4 {l:List Tag}{k:Nat}{t:Tag}:(zjc l k t).length=l.length:=by unfold zjc;split<;>simp
theorem zh8 {l:List Tag}{k:Nat}{t:Tag} (hs:RTags false h [.sl 2 a l.length c] l F) (hk:k<l.length) (hl:lo≤h.length) (hn:l.length≤1048576) :
  ∃ a' c' h' F',evl lo 307 [.agg [.sl 2 a l.length c],.int .i64 (k:Nat),.agg [.int .i64 t.time,.int .i64 t.place]] h=some (.agg [.sl 2 a' l.length c'],h')∧RTags false h' [.sl 2 a' l.length c'] (zjc l k t) F'∧Mv h [] h' F':=by
 obtain ⟨a1,c1,h1,F1,e1,r1,m1⟩:=zhn (lo:=lo) (h:=h) (l:=l) hl hn
 obtain ⟨b,i,rs,row,G,ha,hbF,hbG,hb,hrow,⟨rfl,rfl⟩,hGF,hGn,_,put⟩:=r1.at (lo:=lo) zcE hk m1.nd (fun y hy=>m1.ge hl (by simp) y hy)
 have hld:ld h1 b (i+k) 0 2=some [.int .i64 l[k].time,.int .i64 l[k].place]:=by rw [zeR hb hrow];rfl
 obtain ⟨h2,F2,e2,r2,m2,_⟩:=put h1 [] 0 (znL l[k] t).cs (znL l[k] t).cs (znL l[k] t) Mv.nil rfl ⟨rfl,rfl⟩
 subst ha
 refine ⟨some (b,i),c1,h2,F2,zox ?_,by rw [zoO hk];exact r2,m1.trans m2⟩
 simp only [Tag.cs] at e2
 rw [RTags.rows (Mv.snoc.keep0 rtags_ok hs),e1,zah,zab hk,zam,Int.toNat_natCast,hld,zam,zad,zaa,zad,zaa,zao,zmS,zac,zbx,zad,zaa,zad,zaa,zao,zab hk,zam,e2,zam]
theorem zqy {p q:List Tag} (hs:RTags false h [.sl 2 a p.length c] p F) (hs':RTags false h [.sl 2 a' q.length c'] q F') (hp:p.length=4) (hq:q.length=4) (hl:lo≤h.length) :
  ∃ q5 a5 c5 h' F5,evl lo 210 [.agg [.sl 2 a p.length c],.agg [.sl 2 a' q.length c']] h=some (.agg [.sl q5 a5 (zjp p q).length c5],h')∧RTags false h' [.sl q5 a5 (zjp p q).length c5] (zjp p q) F5∧Mv h [] h' F5:=by
 have hj:(zjp p q).length=4:=by unfold zjp;rw [List.length_zipWith];omega
 obtain ⟨q5,a5,c5,h',F5,e,r,m⟩:=zcR (El:=flat Tag.cs) zcE (h:=h) (l:=zjp p q) (f:=id) (lo:=lo) (R:=2) (e:=60) (bytes:=16) hl (by decide) (by omega)
  (fun i q5 a1 n1 c1 hh=>zcp lo (i:Nat) a p.length c a' q.length c' 0 none 0 (some 0) q5 a1 n1 c1 hh) (fun i hi q5 a1 n1 c1 hh hm=>by
   obtain ⟨o,ha,ho⟩:=(hm.keep0 rtags_ok hs).get (show i<p.length by omega)
   obtain ⟨o',ha',ho'⟩:=(hm.keep0 rtags_ok hs').get (show i<q.length by omega)
   have hji:(zjp p q)[i]=znL p[i] q[i]:=List.getElem_zipWith
   refine ⟨[.int .i64 (znL p[i] q[i]).time,.int .i64 (znL p[i] q[i]).place],[],hh ++ [.rows 2 60 false [[.int .i64 (znL p[i] q[i]).time,.int .i64 (znL p[i] q[i]).place]]],⟨by rw [id,hji];rfl,rfl⟩,Mv.snoc,?_⟩
   rw [zcp.e,zal (by omega),zab (show i<p.length by omega),ha,zam,Int.toNat_natCast,ho,zam,zad,zaa,zad,zaa,zao,zab (show i<q.length by omega),ha',zam,ho',zam,zad,zaa,zad,zaa,zao,zmS,zac,zbx,zad,zaa,zad,zaa,zao,zaT,zap (by omega)])
 rw [List.map_id] at r
 refine ⟨q5,a5,c5,h',F5,zoA ?_,r,m⟩
 refine e.trans ?_
 rw [zcp.e,zaj (by omega)]
end
section
variable {lo:Nat}{h h':Heap}{w:World}{a1 a2 a3 a4 a:Option (Nat×Nat)}{c1 c2 c3 c4 c:Option Nat}{F1 F2 F3 F4:List Nat}
theorem zdM {d:Done} (H:WR lo h w a1 c1 a2 c2 a3 c3 a4 c4 F1 F2 F3 F4) (h80:w.hist.length≤1000) :
  ∃ a5 c5 h' G,evl lo 335 [.agg (w.cs a1 c1 a2 c2 a3 c3 a4 c4),.int .i64 d.sess,.int .i64 d.kind,.int .i64 d.key,.agg [.int .i64 d.tag.time,.int .i64 d.tag.place]] h=some (.agg ((World.mk w.places w.sess w.net (w.hist ++ [d])).cs a1 c1 a2 c2 a3 c3 a5 c5),h') ∧
   WR lo h' ⟨w.places,w.sess,w.net,w.hist ++ [d]⟩ a1 c1 a2 c2 a3 c3 a5 c5 F1 F2 F3 G∧Mv h (F1++(F2++(F3++F4))) h' (F1++(F2++(F3++G)))∧∀ y∈F1,h'[y]?=h[y]?:=by
 obtain ⟨⟨n1,n2,n3,n4⟩,_,_,d14,_⟩:=nd4 H.nd
 obtain ⟨a6,c6,h6,F6,e6,r6,m6⟩:=zeN (lo:=lo) (bytes:=40) (e:=179) (El:=flat Done.cs) zcE H.r4 (row:=d.cs) (x:=d) (G := []) (h1:=h ++ [.rows 5 179 false [d.cs]])
  ⟨rfl,rfl⟩ Mv.snoc n4 (fun y hy=>H.ge y (by simp [hy])) H.hl (by decide) (by omega)
 have hnl:(w.hist ++ [d]).length=w.hist.length+1:=by simp
 rw [← hnl] at r6 e6
 obtain ⟨q,mq⟩:=H.up4 m6 r6
 refine ⟨a6,c6,h6,F6,zoc ?_,q,mq,fun y hy=>m6.fr y (H.lt.1 y hy) (d14 y hy)⟩
 simp only [Done.cs] at e6
 rw [zaT,e6,zah]
theorem WR.sess (H:WR lo h w a1 c1 a2 c2 a3 c3 a4 c4 F1 F2 F3 F4) {k:Nat} (hk:k<w.sess.length):∃ b i v b1 d1 G,a2=some (b,i) ∧
  ld h b (i+k) 0 5=some [.int .i64 w.sess[k].place,v,.int .i64 w.sess[k].wait.time,.int .i64 w.sess[k].wait.place,.int .i64 w.sess[k].key]∧ld h b (i+k) 1 1=some [v]∧ld h b (i+k) 2 1=some [.int .i64 w.sess[k].wait.time] ∧
  (∀ {R':Type} (K:Option (Nat×Nat)→Nat→Option Nat→Option R'),eS 2 v K=K b1 w.sess[k].past.length d1)∧RTags false h [.sl 2 b1 w.sess[k].past.length d1] w.sess[k].past G∧RTags false h [v] w.sess[k].past G∧G.Nodup ∧
  ∀ h1 G1 j cs row' s',Mv h G h1 G1→paste [.int .i64 w.sess[k].place,v,.int .i64 w.sess[k].wait.time,.int .i64 w.sess[k].wait.place,.int .i64 w.sess[k].key] j cs=some row'→RSess false h1 row' s' G1 →
   ∃ h2 F2',st lo h1 b (i+k) j cs=some h2∧WR lo h2 ⟨w.places,w.sess.set k s',w.net,w.hist⟩ a1 c1 a2 c2 a3 c3 a4 c4 F1 F2' F3 F4∧Mv h (F1++(F2++(F3++F4))) h2 (F1++(F2'++(F3++F4)))∧∀ y∈F1,h2[y]?=h[y]?:=by
 obtain ⟨⟨_,n2,_,_⟩,d12,_⟩:=nd4 H.nd
 obtain ⟨b,i,rs,row,G,ha,hbF,hbG,hb,hrow,hel,hGF,hGn,_,put⟩:=Sli.at (lo:=lo) zhC H.r2 hk n2 (fun y hy=>H.ge y (by simp [hy]))
 obtain ⟨v,rfl,hv⟩:=hel
 obtain ⟨b1,d1,es,hv'⟩:=hv.form
 refine ⟨b,i,v,b1,d1,G,ha,by rw [zeR hb hrow];exact zhm rfl,by rw [zeR hb hrow];rfl,by rw [zeR hb hrow];rfl,es,hv',hv,hGn,fun h1 G1 j cs row' s' m hp hx=>?_⟩
 obtain ⟨h2,F',e,r,m2,_⟩:=put h1 G1 j cs row' s' m hp hx
 have hlen:(w.sess.set k s').length=w.sess.length:=by simp
 rw [← hlen] at r
 obtain ⟨q1,q2⟩:=H.up2 m2 r
 exact ⟨h2,F',e,q1,q2,fun y hy=>m2.fr y (H.lt.1 y hy) (d12 y hy)⟩
theorem WR.wait (H:WR lo h w a1 c1 a2 c2 a3 c3 a4 c4 F1 F2 F3 F4) {k:Nat} (hk:k<w.sess.length) (t:Tag) (key:Int) :
  ∃ h' F2',(∀ {T:Type} (K:Heap→Option T),(inB (k:Nat) w.sess.length (eO a2 fun v=>eO (st lo h v.1 (v.2+k) 2 [.int .i64 t.time,.int .i64 t.place]) fun v=>inB (k:Nat) w.sess.length (eO a2 fun p=>eO (st lo v p.1 (p.2+k) 4 [.int .i64 key]) K)))=K h') ∧
   WR lo h' ⟨w.places,w.sess.set k ⟨w.sess[k].place,w.sess[k].past,t,key⟩,w.net,w.hist⟩ a1 c1 a2 c2 a3 c3 a4 c4 F1 F2' F3 F4∧Mv h (F1++(F2++(F3++F4))) h' (F1++(F2'++(F3++F4))):=by
 obtain ⟨b,i,v,b1,d1,G,ha,_,_,_,es,hv',hv,hGn,put⟩:=H.sess hk
 obtain ⟨h2,F5,e2,q2,m2,_⟩:=put h G 2 [.int .i64 t.time,.int .i64 t.place] [.int .i64 w.sess[k].place,v,.int .i64 t.time,.int .i64 t.place,.int .i64 w.sess[k].key] ⟨w.sess[k].place,w.sess[k].past,t,w.sess[k].key⟩ (Mv.refl hGn) rfl ⟨v,rfl,hv⟩
 have hk2:k<(w.sess.set k ⟨w.sess[k].place,w.sess[k].past,t,w.sess[k].key⟩).length:=by simpa using hk
 obtain ⟨b',i',v',b1',d1',G',ha',_,_,_,es2,hv2',hv2,hGn2,put2⟩:=q2.sess hk2
 simp only [List.getElem_set_self] at hv2 put2
 obtain ⟨h3,F6,e3,q3,m3,_⟩:=put2 h2 G' 4 [.int .i64 key] [.int .i64 w.sess[k].place,v',.int .i64 t.time,.int .i64 t.place,.int .i64 key] ⟨w.sess[k].place,w.sess[k].past,t,key⟩ (Mv.refl hGn2) rfl ⟨v',rfl,hv2⟩
 rw [ha] at ha'
 injection ha' with ha';injection ha' with x1 x2
 subst x1;subst x2
 refine ⟨h3,F6,fun K=>?_,by simpa using q3,m2.trans m3⟩
 rw [zab hk,ha,zam,e2,zam,zab hk,zam,e3,zam]
theorem WR.past (H:WR lo h w a1 c1 a2 c2 a3 c3 a4 c4 F1 F2 F3 F4) {k:Nat} (hk:k<w.sess.length) {h1:Heap}{G1:List Nat}{l:List Tag} (m:Mv h [] h1 G1) {q n:Nat} (r:RTags false h1 [.sl q a n c] l G1) :
  ∃ h' F2',(∀ {T:Type} (K:Heap→Option T),(inB (k:Nat) w.sess.length (eO a2 fun v=>eO (st lo h1 v.1 (v.2+k) 1 [.sl q a n c]) K))=K h') ∧
   WR lo h' ⟨w.places,w.sess.set k ⟨w.sess[k].place,l,w.sess[k].wait,w.sess[k].key⟩,w.net,w.hist⟩ a1 c1 a2 c2 a3 c3 a4 c4 F1 F2' F3 F4∧Mv h (F1++(F2++(F3++F4))) h' (F1++(F2'++(F3++F4)))∧∀ y∈F1,h'[y]?=h[y]?:=by
 obtain ⟨b,i,v,b1,d1,G,ha,_,_,_,es,hv',hv,hGn,put⟩:=H.sess hk
 obtain ⟨h2,F5,e2,q2,m2,s2⟩:=put h1 G1 1 [.sl q a n c] [.int .i64 w.sess[k].place,.sl q a n c,.int .i64 w.sess[k].wait.time,.int .i64 w.sess[k].wait.place,.int .i64 w.sess[k].key] ⟨w.sess[k].place,l,w.sess[k].wait,w.sess[k].key⟩ (m.wide (by simp)) rfl ⟨_,rfl,r⟩
 refine ⟨h2,F5,fun K=>?_,q2,m2,s2⟩
 rw [zab hk,ha,zam,e2,zam]
end
end Go.Proofs.YthdfojchihooeaaGreat
namespace Go.Proofs.YthdfojchihooeaaGreat
open Go T


set_option maxRecDepth 100000
section
variable {lo:Nat}{h h':Heap}{w:World}{a1 a2 a3 a4 a:Option (Nat×Nat)}{c1 c2 c3 c4 c:Option Nat}{F1 F2 F3 F4:List Nat}
theorem WR.stay (H:WR lo h w a1 c1 a2 c2 a3 c3 a4 c4 F1 F2 F3 F4) {X:Option World} (hX:X=none) :
  ∃ cs' h' F',some (V.tup [.agg (w.cs a1 c1 a2 c2 a3 c3 a4 c4),.bool false],h)=some (V.tup [.agg cs',.bool X.isSome],h')∧WAt lo h' cs' (X.getD w) F'∧Mv h (F1++(F2++(F3++F4))) h' F'∧((X)=none→cs'=w.cs a1 c1 a2 c2 a3 c3 a4 c4):=by
 subst hX
 exact ⟨_,h,_,rfl,H.at,Mv.refl H.nd,fun _=>rfl⟩
theorem zoV {kind num key:Int}{text:ByteArray}{gone:Bool}{i:Nat} (H:WR lo h w a1 c1 a2 c2 a3 c3 a4 c4 F1 F2 F3 F4) (hg:Good w) (ht:text.size≤1048576) (hi:i<w.sess.length) :
  ∃ cs' h' F',evl lo 288 [.agg (w.cs a1 c1 a2 c2 a3 c3 a4 c4),.agg [.int .i64 kind,.int .i64 (i:Nat),.int .i64 num,.int .i64 key,.str text,.bool gone]] h=some (.tup [.agg cs',.bool (zgj w i w.sess[i] ⟨kind,(i:Nat),num,key,text,gone⟩).isSome],h') ∧
   WAt lo h' cs' ((zgj w i w.sess[i] ⟨kind,(i:Nat),num,key,text,gone⟩).getD w) F'∧Mv h (F1++(F2++(F3++F4))) h' F'∧((zgj w i w.sess[i] ⟨kind,(i:Nat),num,key,text,gone⟩)=none→cs'=w.cs a1 c1 a2 c2 a3 c3 a4 c4):=by
 suffices hk:∃ cs' h' F',_=some (V.tup [.agg cs',.bool (zgj w i w.sess[i] ⟨kind,(i:Nat),num,key,text,gone⟩).isSome],h')∧WAt lo h' cs' ((zgj w i w.sess[i] ⟨kind,(i:Nat),num,key,text,gone⟩).getD w) F'∧Mv h (F1++(F2++(F3++F4))) h' F'∧((zgj w i w.sess[i] ⟨kind,(i:Nat),num,key,text,gone⟩)=none→cs'=w.cs a1 c1 a2 c2 a3 c3 a4 c4) from by
  obtain ⟨cs',h',F',e,hr⟩:=hk
  exact ⟨cs',h',F',zmm e,hr⟩
 have hso:=hg.ok.sess _ (List.getElem_mem hi)
 obtain ⟨t1,t2,t3,t4,t5,t6⟩:=zc9 hso
 have h80:=hg.ok.h80
 obtain ⟨k,hpl⟩:∃ k:Nat,w.sess[i].place=(k:Int):=⟨w.sess[i].place.toNat,by omega⟩
 have hk:k<w.places.length:=by have:=hg.ok.p3;omega
 obtain ⟨hpo,hme,hro⟩:=hg.at hk
 have hn:=(zfE (zcV hpo) (by decide) (by decide) (by decide)).1
 have hX:zgj w i w.sess[i] ⟨kind,(i:Nat),num,key,text,gone⟩=bif !decide (w.sess[i].wait.time>0)&&(zba w.places[k] key text gone w.sess[i].past&&ze4 w 1) then
   some (setS (setP w k (zjb w.places[k] key text gone w.sess[i].past).1) i ⟨w.sess[i].place,w.sess[i].past,(zjb w.places[k] key text gone w.sess[i].past).2,key⟩ [⟨i,1,key,(zjb w.places[k] key text gone w.sess[i].past).2⟩]) else none:=by
  unfold zgj;rw [hpl,Int.toNat_natCast,List.getElem?_eq_getElem hk]
 obtain ⟨b',i',v,e1',d1',Gs,rfl,hld',_,_,es',hv',_,hGn,puts⟩:=H.sess hi
 obtain ⟨b,j,s1,s2,s3,b1,d1,b2,d2,b3,d3,G1,G2,G3,rfl,hld,_,_,e1,e2,e3,g1,g2,g3,nd,hF,put⟩:=H.place hk
 have hFlo:∀ y∈G1++(G2++G3),lo≤y:=fun y hy=>(hF y hy).1
 generalize hXX:zgj w i w.sess[i] ⟨kind,(i:Nat),num,key,text,gone⟩=X at hX
 rw [zab hi,zam,Int.toNat_natCast,hld',zam,zad,zaa,zad,es',zad,zaa,zad,zaa,zad,zaa,zao,hpl,zab hk,zam,Int.toNat_natCast,hld,zam,zad,zaa,zad,zaa,zad,e1,zad,e2,zad,e3,zad,zaS,zao]
 by_cases hw:w.sess[i].wait.time>0
 ·rw [zal hw]
  exact H.stay (by rw [hX,decide_eq_true hw];rfl)
 rw [zaj hw,zbb,zac,zbi]
 rw [decide_eq_false hw,Bool.not_false,Bool.true_and] at hX
 cases hwk:zak key 0 3 with
 | false=>rw [za5];exact H.stay (by rw [hX];unfold zba;rw [hwk];rfl)
 | true =>
 rw [zaN,ziz ht,zac,zbi]
 cases hto:zdX text with
 | false=>rw [za5];exact H.stay (by rw [hX];unfold zba;rw [hwk,hto];rfl)
 | true =>
 rw [zaN]
 have ec:=zsc (lo:=lo) (a2:=b2) (c2:=d2) (a3:=b3) (c3:=d3) g1 hv' hpo t2 hn
 simp only [Place.cs] at ec
 have fin:zba w.places[k] key text gone w.sess[i].past=true→ze4 w 1=true→X=some ⟨w.places.set k (zd1 (zlQ w.places[k] 0 (zby w.places[k] w.sess[i].past) (zgs w.places[k] key text gone w.sess[i].past))),w.sess.set i ⟨w.sess[i].place,w.sess[i].past,⟨zby w.places[k] w.sess[i].past,w.places[k].me⟩,key⟩,w.net,w.hist ++ [⟨i,1,key,⟨zby w.places[k] w.sess[i].past,w.places[k].me⟩⟩]⟩:=fun q1 q2=>by
  rw [hX,q1,q2]
  unfold zjb
  rw [hpo,q1];rfl
 cases gone with
 | false =>
  rw [za5,ec,zac,zbi]
  cases hm:zgO w.places[k] w.sess[i].past with
  | false=>rw [za5];exact H.stay (by rw [hX];unfold zba;rw [hm];simp)
  | true =>
  have hcw:zba w.places[k] key text false w.sess[i].past=true:=by unfold zba;rw [hwk,hto,t2,hm];simp
  rw [zaN]
  by_cases hh:(w.hist.length:Int)≥80
  ·rw [zal hh];exact H.stay (by rw [hX,show ze4 w 1=false from decide_eq_false (by omega),Bool.and_false];rfl)
  have hX2:=fin hcw (decide_eq_true (by omega))
  obtain ⟨a6,c6,h5,F5,e5,⟨_,_,_,_,_,_,_,r5⟩,m5⟩:=zjQ (lo:=lo) g1 g2 g3 hv' hpo hcw nd hFlo H.hl
  obtain ⟨h6,F6,e6,q6,m6⟩:=put h5 _ _ _ m5 r5 rfl
  obtain ⟨h7,F7,e7,q7,m7⟩:=q6.wait hi ⟨zby w.places[k] w.sess[i].past,w.places[k].me⟩ key
  obtain ⟨a8,c8,h8,F8,e8,q8,m8,_⟩:=zdM (d:=⟨i,1,key,⟨zby w.places[k] w.sess[i].past,w.places[k].me⟩⟩) q7 (by show w.hist.length≤1000;omega)
  have W:=q8.at
  simp only [setP,World.cs,List.length_set] at e7 e8 W
  simp only [Place.cs] at e5 e6
  rw [zaj hh,e5,zac,zs2,zad,zbx,zad,zaa,zad,zaa,zad,zah,zad,zah,zad,zah,zad,zaS,zao,zad,zbx,zad,zaa,zad,zaa,zao,zao,zab hk,zam,e6,zam]
  rw [e7,e8,zac,zbx,zad,zah,zad,zah,zad,zah,zad,zah,zao,hX2]
  exact ⟨_,h8,_,rfl,W,(m6.trans m7).trans m8,fun g=>by first | cases g | (simp at g)⟩
 | true =>
  rw [zaN,zgm]
  cases hnt:zep text with
  | false=>rw [za5];exact H.stay (by rw [hX];unfold zba;rw [hwk,hto,hnt];rfl)
  | true =>
  rw [zaN,ec,zac,zbi]
  cases hm:zgO w.places[k] w.sess[i].past with
  | false=>rw [za5];exact H.stay (by rw [hX];unfold zba;rw [hm];simp)
  | true =>
  have hcw:zba w.places[k] key text true w.sess[i].past=true:=by unfold zba;rw [hwk,hto,t2,hm,hnt];simp
  rw [zaN]
  by_cases hh:(w.hist.length:Int)≥80
  ·rw [zal hh];exact H.stay (by rw [hX,show ze4 w 1=false from decide_eq_false (by omega),Bool.and_false];rfl)
  have hX2:=fin hcw (decide_eq_true (by omega))
  obtain ⟨a6,c6,h5,F5,e5,⟨_,_,_,_,_,_,_,r5⟩,m5⟩:=zjQ (lo:=lo) g1 g2 g3 hv' hpo hcw nd hFlo H.hl
  obtain ⟨h6,F6,e6,q6,m6⟩:=put h5 _ _ _ m5 r5 rfl
  obtain ⟨h7,F7,e7,q7,m7⟩:=q6.wait hi ⟨zby w.places[k] w.sess[i].past,w.places[k].me⟩ key
  obtain ⟨a8,c8,h8,F8,e8,q8,m8,_⟩:=zdM (d:=⟨i,1,key,⟨zby w.places[k] w.sess[i].past,w.places[k].me⟩⟩) q7 (by show w.hist.length≤1000;omega)
  have W:=q8.at
  simp only [setP,World.cs,List.length_set] at e7 e8 W
  simp only [Place.cs] at e5 e6
  rw [zaj hh,e5,zac,zs2,zad,zbx,zad,zaa,zad,zaa,zad,zah,zad,zah,zad,zah,zad,zaS,zao,zad,zbx,zad,zaa,zad,zaa,zao,zao,zab hk,zam,e6,zam]
  rw [e7,e8,zac,zbx,zad,zah,zad,zah,zad,zah,zad,zah,zao,hX2]
  exact ⟨_,h8,_,rfl,W,(m6.trans m7).trans m8,fun g=>by first | cases g | (simp at g)⟩
end
end Go.Proofs.YthdfojchihooeaaGreat
namespace Go.Proofs.YthdfojchihooeaaGreat
open Go T


def bcs (x:UInt8):List V := [.int .u8 (x.toNat:Int)]
abbrev RBytes:Rel (List UInt8):=Sli true 1 0 (flat bcs)
structure Rd (lo:Nat) (h:Heap) (b n:Nat):Prop where
 ge:lo≤b
 ex:∃ a code c p Fc,h[b]?=some (.rows 2 228 false [[.sl 1 a code.length c,.int .i64 ((p:Nat):Int)]])∧RBytes h [.sl 1 a code.length c] code Fc∧(∀ y∈Fc,y<lo)∧p≤n∧code.length≤1048576
section
variable {lo:Nat}{h h':Heap}{F F':List Nat}{b n:Nat}
theorem Rd.lt (r:Rd lo h b n):b<h.length:=by
 obtain ⟨_,a,code,c,p,Fc,hb,_⟩:=r
 exact (List.getElem?_eq_some_iff.1 hb).1
theorem Rd.up {n':Nat} (r:Rd lo h b n) (hn:n≤n'):Rd lo h b n':=by
 obtain ⟨hge,a,code,c,p,Fc,hb,hc,hF,hp,hl⟩:=r
 exact ⟨hge,a,code,c,p,Fc,hb,hc,hF,by omega,hl⟩
theorem Rd.keep (r:Rd lo h b n) (m:Mv h F h' F') (hb:b∉F) (hF:∀ y∈F,lo≤y):Rd lo h' b n:=by
 have hlt:=r.lt
 obtain ⟨hge,a,code,c,p,Fc,e,hc,hFc,hp,hl⟩:=r
 refine ⟨hge,a,code,c,p,Fc,by rw [m.fr b hlt hb];exact e,m.keep (Sli.ok zcE) hc (fun y hy hm=>?_),hFc,hp,hl⟩
 have h1:=hFc y hy
 have h2:=hF y hm
 omega
theorem zr3 {v:Int} (h0:0≤v) (h1:v<4611686018427387904):0≤IntKind.i64.wrap (((BitVec.ofInt IntKind.i64.bits v ^^^ BitVec.ofInt IntKind.i64.bits (IntKind.i64.wrap (v.tdiv 64))).toNat:Nat):Int):=by
 obtain ⟨k,rfl⟩:∃ k:Nat,v=(k:Int):=⟨v.toNat,by omega⟩
 have hd:((k:Nat):Int).tdiv 64=((k / 64:Nat):Int):=rfl
 rw [hd,wr (n:=((k / 64:Nat):Int)) (by omega) (by omega)]
 have hb:IntKind.i64.bits=64:=rfl
 have t:∀ q:Nat,q<4611686018427387904→(BitVec.ofInt IntKind.i64.bits ((q:Nat):Int)).toNat=q:=fun q hq=>by
  rw [BitVec.toNat_ofInt,hb]
  omega
 have hx:(BitVec.ofInt IntKind.i64.bits ((k:Nat):Int) ^^^ BitVec.ofInt IntKind.i64.bits ((k / 64:Nat):Int)).toNat<2 ^ 62:=by
  rw [BitVec.toNat_xor,t k (by omega),t (k / 64) (by omega)]
  exact Nat.xor_lt_two_pow (by omega) (by omega)
 generalize (BitVec.ofInt IntKind.i64.bits ((k:Nat):Int) ^^^ BitVec.ofInt IntKind.i64.bits ((k / 64:Nat):Int)).toNat=w at hx
 rw [wr (by omega) (by omega)]
 omega
theorem RBytes.get {a:Option (Nat×Nat)}{c:Option Nat}{m k:Nat}{l:List UInt8} (hs:RBytes h [.sl 1 a m c] l F) (hk:k<l.length):∃ o,a=some o∧ld h o.1 (o.2+k) 0 1=some [.int .u8 (l[k].toNat:Int)]:=by
 obtain ⟨o,row,G,h1,h2,⟨rfl,_⟩,_⟩:=hs.read hk
 exact ⟨o,h1,by rw [h2];rfl⟩
theorem pick (r:Rd lo h b n) (hn:n≤1000000) (m:Int):∃ (x:Int) (h':Heap),evl lo 109 [.ptr (some (b,(0,0))),.int .i64 m] h=some (.int .i64 x,h')∧0≤x∧(0<m→x<m)∧Rd lo h' b (n+1)∧Mv h [b] h' [b]:=by
 obtain ⟨hge,a,code,c,p,Fc,hb,hc,hFc,hp,hcl⟩:=r
 have hblt:=(List.getElem?_eq_some_iff.1 hb).1
 have e1:ld h b 0 (0+1) 1=some [.int .i64 ((p:Nat):Int)]:=by rw [zeR hb rfl];rfl
 have e2:=zf5 hb hge (r:=0) (j:=0+1) (cs := [.int .i64 ((p+1:Nat):Int)]) (row' := [.sl 1 a code.length c,.int .i64 ((p+1:Nat):Int)]) rfl rfl
 generalize hh1:h.set b (Blk.rows 2 228 false (List.set [[V.sl 1 a code.length c,V.int .i64 ((p:Nat):Int)]] 0 [V.sl 1 a code.length c,V.int .i64 ((p+1:Nat):Int)]))=h1 at e2
 have hb1:h1[b]?=some (.rows 2 228 false [[.sl 1 a code.length c,.int .i64 ((p+1:Nat):Int)]]):=by rw [← hh1];simp [hblt]
 have m1:Mv h [b] h1 [b]:=⟨by rw [← hh1];simp,fun y hy hF=>by rw [← hh1];exact List.getElem?_set_ne (fun e=>hF (by simp [e])),by simp,fun y hy => .inl hy⟩
 have hc1:RBytes h1 [.sl 1 a code.length c] code Fc:=m1.keep (Sli.ok zcE) hc (fun y hy hm=>by
  rw [List.mem_singleton] at hm
  have:=hFc y hy;omega)
 suffices hk:∃ x:Int,_=some (V.int .i64 x,h1)∧0≤x∧(0<m→x<m) from by
  obtain ⟨x,e,g1,g2⟩:=hk
  exact ⟨x,h1,zjE e,g1,g2,⟨hge,a,code,c,p+1,Fc,hb1,hc1,hFc,by omega,hcl⟩,m1⟩
 rw [e1,zam,zad,zao,zaa,zap (by omega),e2,zam]
 by_cases hm:m<1
 ·rw [zal hm];exact ⟨0,rfl,Int.le_refl _,fun h=>by omega⟩
 ·have l0:ld h1 b 0 (0+0) 1=some [.sl 1 a code.length c]:=by rw [zeR hb1 rfl];rfl
  have l1:ld h1 b 0 (0+1) 1=some [.int .i64 ((p+1:Nat):Int)]:=by rw [zeR hb1 rfl];rfl
  have tm:∀ z:Int,0≤z→∃ x:Int,some (V.int .i64 (z.tmod m),h1)=some (V.int .i64 x,h1)∧0≤x∧(0<m→x<m):=fun z hz=>⟨_,rfl,Int.tmod_nonneg m hz,fun h=>by rw [Int.tmod_eq_emod_of_nonneg hz];exact Int.emod_lt_of_pos z h⟩
  have w1:IntKind.i64.wrap (((p+1:Nat):Int) - 1)=((p:Nat):Int):=by rw [wr (by omega) (by omega)];omega
  rw [zaj hm,l0,zam,zad,zao,zah]
  by_cases h0:code.length=0
  ·rw [show (((code.length:Nat):Int)==0)=true by rw [beq_iff_eq];omega,zaN]
   exact ⟨0,rfl,Int.le_refl _,fun h=>by omega⟩
  ·rw [show (((code.length:Nat):Int)==0)=false by rw [beq_eq_false_iff_ne];omega,za5,l1,zam,zad,zao,zaa,zam,zad,zao,zah,w1]
   by_cases hpc:p<code.length
   ·obtain ⟨o,ha,hld⟩:=hc1.get hpc
    have hbt:code[p].toNat<256:=code[p].toNat_lt
    rw [zal (by omega),zam,zad,zao,zah,zab hpc,ha,zam,Int.toNat_natCast,hld,zam,zad,zao,zaa,zfJ (by omega),wr (by omega) (by omega)]
    exact tm _ (by omega)
   ·have hk1:p % code.length<code.length:=Nat.mod_lt _ (by omega)
    have hk2:(p*7+3) % code.length<code.length:=Nat.mod_lt _ (by omega)
    obtain ⟨o,ha,hld⟩:=hc1.get hk1
    obtain ⟨o',ha',hld'⟩:=hc1.get hk2
    have ho:o'=o:=by rw [ha] at ha';injection ha' with e;exact e.symm
    subst ho
    have hb1:code[p % code.length].toNat<256:=UInt8.toNat_lt _
    have hb2:code[(p*7+3) % code.length].toNat<256:=UInt8.toNat_lt _
    have t1:((p:Nat):Int).tmod ((code.length:Nat):Int)=((p % code.length:Nat):Int):=rfl
    have t2:IntKind.i64.wrap (IntKind.i64.wrap (((p:Nat):Int)*7)+3)=((p*7+3:Nat):Int):=by rw [wr (n:=((p:Nat):Int)*7) (by omega) (by omega),wr (by omega) (by omega)];omega
    have t3:((p*7+3:Nat):Int).tmod ((code.length:Nat):Int)=(((p*7+3) % code.length:Nat):Int):=rfl
    have t4:((p:Nat):Int).tdiv ((code.length:Nat):Int)=((p / code.length:Nat):Int):=rfl
    have hdv:p / code.length≤p:=Nat.div_le_self _ _
    rw [zaj (by omega),zam,zad,zao,zah,zam,zad,zao,zah,zfJ (by omega),t1,zab hk1,ha,zam,Int.toNat_natCast,hld,zam,zad,zao,zaa,zam,zad,zao,zah,zam,zad,zao,zah,zfJ (by omega),t2,t3,zab hk2,zam,Int.toNat_natCast,hld',zam,zad,zao,zaa,zam,zad,zao,zah,zfJ (by omega),zfJ (by omega),t4]
    generalize code[p % code.length].toNat=B1 at hb1
    generalize code[(p*7+3) % code.length].toNat=B2 at hb2
    generalize p / code.length=D at hdv
    rw [wr (n:=((B1:Nat):Int)) (by omega) (by omega),wr (n:=((B2:Nat):Int)) (by omega) (by omega),wr (n:=((B1:Nat):Int)*131) (by omega) (by omega),wr (n:=((B2:Nat):Int)*1117) (by omega) (by omega),wr (n:=((B1:Nat):Int)*131+((B2:Nat):Int)*1117) (by omega) (by omega),
     wr (n:=((p:Nat):Int)*29) (by omega) (by omega),wr (n:=((B1:Nat):Int)*131+((B2:Nat):Int)*1117+((p:Nat):Int)*29) (by omega) (by omega),wr (n:=((D:Nat):Int)) (by omega) (by omega),wr (n:=((D:Nat):Int)*53) (by omega) (by omega),wr (n:=((B1:Nat):Int)*131+((B2:Nat):Int)*1117+((p:Nat):Int)*29+((D:Nat):Int)*53) (by omega) (by omega)]
    exact tm _ (zr3 (by omega) (by omega))
theorem zhb {c e:Nat}{ro:Bool}{xs:List Int}{rows:List (List V)}{len:Nat}{cc:Option Nat} (r:Rd lo h b n) (hn:n≤1000000) (hc:h[c]?=some (.rows 1 e ro rows)) (hcb:c≠b) (hr:rows=xs.map fun x => [.int .i64 x]) (hl:len=xs.length) (h0:0<len) :
  ∃ (x:Int) (h':Heap),evl lo 110 [.ptr (some (b,(0,0))),.sl 1 (some (c,0)) len cc] h=some (.int .i64 x,h')∧x∈xs∧Rd lo h' b (n+1)∧Mv h [b] h' [b]:=by
 obtain ⟨x,h1,e1,g1,g2,r1,m1⟩:=pick r hn ((len:Nat):Int)
 have hlt:=(List.getElem?_eq_some_iff.1 hc).1
 obtain ⟨k,rfl⟩:∃ k:Nat,x=(k:Int):=⟨x.toNat,by omega⟩
 have hk:k<xs.length:=by have:=g2 (by omega);omega
 have hc1:h1[c]?=some (.rows 1 e ro rows):=by rw [m1.fr c hlt (by simpa using hcb)];exact hc
 refine ⟨xs[k],h1,zkn ?_,List.getElem_mem hk,r1,m1⟩
 rw [e1,zac,zaa,zab (by omega),zam,Int.toNat_natCast,Nat.zero_add,zeR hc1 (i:=k) (row := [.int .i64 xs[k]]) (by rw [hr,List.getElem?_map,List.getElem?_eq_getElem hk];rfl)]
 rfl
theorem zwh {c e:Nat}{ro:Bool}{xs:List ByteArray}{rows:List (List V)}{len:Nat}{cc:Option Nat} (r:Rd lo h b n) (hn:n≤1000000) (hc:h[c]?=some (.rows 1 e ro rows)) (hcb:c≠b) (hr:rows=xs.map fun x => [.str x]) (hl:len=xs.length) (h0:0<len) :
  ∃ (x:ByteArray) (h':Heap),evl lo 157 [.ptr (some (b,(0,0))),.sl 1 (some (c,0)) len cc] h=some (.str x,h')∧x∈xs∧Rd lo h' b (n+1)∧Mv h [b] h' [b]:=by
 obtain ⟨x,h1,e1,g1,g2,r1,m1⟩:=pick r hn ((len:Nat):Int)
 have hlt:=(List.getElem?_eq_some_iff.1 hc).1
 obtain ⟨k,rfl⟩:∃ k:Nat,x=(k:Int):=⟨x.toNat,by omega⟩
 have hk:k<xs.length:=by have:=g2 (by omega);omega
 have hc1:h1[c]?=some (.rows 1 e ro rows):=by rw [m1.fr c hlt (by simpa using hcb)];exact hc
 refine ⟨xs[k],h1,zlZ ?_,List.getElem_mem hk,r1,m1⟩
 rw [e1,zac,zaa,zab (by omega),zam,Int.toNat_natCast,Nat.zero_add,zeR hc1 (i:=k) (row := [.str xs[k]]) (by rw [hr,List.getElem?_map,List.getElem?_eq_getElem hk];rfl)]
 rfl
theorem zd0 {e:Nat} (xs:List Int) {rows:List (List V)}{len:Nat}{cc:Option Nat} (r:Rd lo h b n) (hn:n≤1000000) (hr:rows=xs.map fun x => [.int .i64 x]) (hl:len=xs.length) (h0:0<len) :
  ∃ (x:Int) (h':Heap),evl lo 110 [.ptr (some (b,(0,0))),.sl 1 (some (h.length,0)) len cc] (h ++ [.rows 1 e false rows])=some (.int .i64 x,h')∧x∈xs∧Rd lo h' b (n+1)∧Mv h [b] h' [b]:=by
 have m0:Mv h [b] (h ++ [.rows 1 e false rows]) [b]:=Mv.snoc' (by simp)
 have hlt:=r.lt
 obtain ⟨x,h',e1,g1,r1,m1⟩:=zhb (h:=h ++ [Blk.rows 1 e false rows]) (c:=h.length) (e:=e) (ro:=false) (xs:=xs) (cc:=cc) (r.keep (F := []) (F' := []) Mv.snoc (by simp) (by simp)) hn (by simp) (by omega) hr hl h0
 exact ⟨x,h',e1,g1,r1,m0.trans m1⟩
theorem zoS {e:Nat} (xs:List ByteArray) {rows:List (List V)}{len:Nat}{cc:Option Nat} (r:Rd lo h b n) (hn:n≤1000000) (hr:rows=xs.map fun x => [.str x]) (hl:len=xs.length) (h0:0<len) :
  ∃ (x:ByteArray) (h':Heap),evl lo 157 [.ptr (some (b,(0,0))),.sl 1 (some (h.length,0)) len cc] (h ++ [.rows 1 e false rows])=some (.str x,h')∧x∈xs∧Rd lo h' b (n+1)∧Mv h [b] h' [b]:=by
 have m0:Mv h [b] (h ++ [.rows 1 e false rows]) [b]:=Mv.snoc' (by simp)
 have hlt:=r.lt
 obtain ⟨x,h',e1,g1,r1,m1⟩:=zwh (h:=h ++ [Blk.rows 1 e false rows]) (c:=h.length) (e:=e) (ro:=false) (xs:=xs) (cc:=cc) (r.keep (F := []) (F' := []) Mv.snoc (by simp) (by simp)) hn (by simp) (by omega) hr hl h0
 exact ⟨x,h',e1,g1,r1,m0.trans m1⟩
theorem zlx {α β:Type}:∀ (l:List α),(l.map fun _=>([]:List β)).flatten = []
 | []=>rfl
 | _ :: l=>by simp [zlx l]
theorem ztD {a:Option (Nat×Nat)}{c:Option Nat}{l:List UInt8} (hs:RBytes h [.sl 1 a l.length c] l F) (hF:∀ y∈F,y<lo) (hlo:lo≤h.length) (hl:l.length≤1048576) (hcap:∀ k,c=some k→l.length≤k) :
  ∃ (b:Nat) (h':Heap),evl lo 107 [.sl 1 a l.length c] h=some (.ptr (some (b,(0,0))),h')∧Rd lo h' b 0∧Mv h [] h' [b]:=by
 refine ⟨h.length,?_⟩
 suffices hk:∃ h',_=some (V.ptr (some (h.length,(0,0))),h')∧Rd lo h' h.length 0∧Mv h [] h' [h.length] from by
  obtain ⟨h',e,g⟩:=hk
  exact ⟨h',zmu e,g⟩
 by_cases h2:l.length>2000
 ·have hre:∀ {T:Type} (K:Option (Nat×Nat)→Nat→Option Nat→Option T),zaz a l.length c none (some (.int .i64 2000)) none K=K a 2000 c:=fun K=>by
   unfold zaz zgK zmT zoI
   cases c with
   | none=>simp only [zaa];rw [zd2 ⟨by omega,by omega⟩];rfl
   | some k=>have:=hcap k rfl;simp only [zaa];rw [zd2 ⟨by omega,by omega⟩];rfl
  have ht:RBytes h [.sl 1 a (l.take 2000).length c] (l.take 2000) F:=by
   obtain ⟨R',a',c',e,hR,hh⟩:=hs
   injection e with e _;injection e with e0 e1 e2 e3
   subst e1;subst e3
   refine ⟨1,a,c,rfl,rfl,?_⟩
   rcases hh with ⟨g,_⟩ | ⟨b,i,rs,Fs,g0,g1,g2,g3,g4⟩
   ·rw [g] at h2;simp at h2
   ·have hfl:=EAll.of_flat g3
    refine .inr ⟨b,i,rs,(l.take 2000).map fun _ => [],g0,g1,by simp;omega,?_,?_⟩
    ·have:(rs.drop i).take (l.take 2000).length=(l.take 2000).map bcs:=by
      rw [List.map_take,← hfl.1,List.take_take]
      congr 1;simp
     rw [this];exact EAll.flat
    ·rw [g4,hfl.2,zlx]
  have hlen:(l.take 2000).length=2000:=by simp;omega
  rw [zal (by omega),hre]
  refine ⟨_,rfl,⟨hlo,a,l.take 2000,c,0,F,?_,(Mv.snoc (t := [_])).keep0 (Sli.ok zcE) ht,hF,Nat.le_refl _,by omega⟩,Mv.last⟩
  rw [hlen];simp
 ·rw [zaj (by omega)]
  exact ⟨_,rfl,⟨hlo,a,l,c,0,F,by simp,(Mv.snoc (t := [_])).keep0 (Sli.ok zcE) hs,hF,Nat.le_refl _,hl⟩,Mv.last⟩
end
end Go.Proofs.YthdfojchihooeaaGreat
namespace Go.Proofs.YthdfojchihooeaaGreat
open Go T


set_option maxRecDepth 100000
theorem Mv.draw {h h1 h2:Heap}{A F1 F2:List Nat}{b:Nat} (m1:Mv h A h1 (b :: F1)) (m2:Mv h1 [b] h2 (b :: F2)) (hb:∀ y∈F1,y<h1.length):Mv h A h2 (b ::(F2++F1)) :=
 m1.trans (m2.aside (G:=F1) m1.nd hb)
theorem Mv.draw0 {h h1 h2:Heap}{A F1:List Nat}{b:Nat} (m1:Mv h A h1 (b :: F1)) (m2:Mv h1 [b] h2 [b]) (hb:∀ y∈F1,y<h1.length):Mv h A h2 (b :: F1):=m1.draw m2 hb
theorem Mv.draw1 {h h1 h2:Heap}{A F1 F2:List Nat}{b:Nat} (m1:Mv h A h1 (b :: F1)) (m2:Mv h1 F1 h2 F2) (hb:b<h1.length):Mv h A h2 (b :: F2):=by
 have hn:=m1.nd
 rw [List.nodup_cons] at hn
 exact m1.trans (m2.cons hb hn.1 hn.2)
theorem Mv.apart {h h1:Heap}{A F1:List Nat}{b:Nat} (m:Mv h A h1 (b :: F1)):∀ y∈F1,y ∉ [b]:=fun y hy hm=>by
 have hn:=m.nd
 rw [List.nodup_cons] at hn
 rw [List.mem_singleton] at hm
 exact hn.1 (hm ▸ hy)
section
variable {lo:Nat}{h h':Heap}{F F':List Nat}{b n:Nat}
theorem Rd.keepF {A F1 F2:List Nat}{h1 h2:Heap} (r:Rd lo h1 b n) (m:Mv h A h1 (b :: F1)) (m2:Mv h1 F1 h2 F2) (hF:∀ y∈F1,lo≤y):Rd lo h2 b n:=by
 have hn:=m.nd
 rw [List.nodup_cons] at hn
 exact r.keep m2 hn.1 hF
theorem zny (r:Rd lo h b n) (hn:n≤900000):∃ (t:Tag) (h':Heap),evl lo 260 [.ptr (some (b,(0,0)))] h=some (.agg t.cs,h')∧(zbj t.time t.place=true∧t.time≤9)∧Rd lo h' b (n+3)∧Mv h [b] h' [b]:=by
 obtain ⟨x,h1,e1,g1,g1',r1,m1⟩:=pick r (by omega) 3
 suffices hk:∃ (t:Tag) (h':Heap),_=some (V.agg t.cs,h')∧(zbj t.time t.place=true∧t.time≤9)∧Rd lo h' b (n+3)∧Mv h [b] h' [b] from by
  obtain ⟨t,h',e,g⟩:=hk
  exact ⟨t,h',zow e,g⟩
 rw [e1,zac,zaa]
 cases hx:(x==(0:Int)) with
 | true =>
  rw [zaN]
  exact ⟨⟨0,0⟩,h1,rfl,⟨rfl,by show (0:Int)≤9;decide⟩,r1.up (by omega),m1⟩
 | false =>
  obtain ⟨y,h2,e2,g2,g2',r2,m2⟩:=pick r1 (by omega) 9
  obtain ⟨z,h3,e3,g3,g3',r3,m3⟩:=pick r2 (by omega) 3
  have hy:=g2' (by omega)
  have hz:=g3' (by omega)
  rw [za5,e2,zac,zaa,e3,zac,zaa,wr (by omega) (by omega)]
  exact ⟨⟨1+y,z⟩,h3,rfl,⟨by simp [zbj,zak];omega,by show 1+y≤9;omega⟩,r3,(m1.trans m2).trans m3⟩
theorem zio (r:Rd lo h b n) (hn:n≤890000):∃ (t:Tag) (h':Heap),evl lo 246 [.ptr (some (b,(0,0)))] h=some (.agg t.cs,h')∧Rd lo h' b (n+4)∧Mv h [b] h' [b]:=by
 obtain ⟨x,h1,e1,g1,g1',r1,m1⟩:=pick r (by omega) 8
 suffices hk:∃ (t:Tag) (h':Heap),_=some (V.agg t.cs,h')∧Rd lo h' b (n+4)∧Mv h [b] h' [b] from by
  obtain ⟨t,h',e,g⟩:=hk
  exact ⟨t,h',zkq e,g⟩
 rw [e1,zac,zaa]
 cases hx:(x==(0:Int)) with
 | true =>
  obtain ⟨y,h2,e2,_,r2,m2⟩:=zd0 (e:=3) [0,-1,1000,999] (rows := [[.int .i64 0],[.int .i64 (-1)],[.int .i64 1000],[.int .i64 999]]) (len:=4) (cc:=some 4) r1 (by omega) rfl rfl (by decide)
  obtain ⟨z,h3,e3,_,r3,m3⟩:=zd0 (e:=3) [0,1,3,-1] (rows := [[.int .i64 0],[.int .i64 1],[.int .i64 3],[.int .i64 (-1)]]) (len:=4) (cc:=some 4) r2 (by omega) rfl rfl (by decide)
  rw [zaN,e2,zac,zaa,e3,zac,zaa]
  exact ⟨⟨y,z⟩,h3,rfl,r3.up (by omega),(m1.trans m2).trans m3⟩
 | false =>
  obtain ⟨t,h2,e2,_,r2,m2⟩:=zny r1 (by omega)
  simp only [Tag.cs] at e2
  rw [za5,e2,zac,zbx,zad,zaa,zad,zaa,zao]
  exact ⟨t,h2,rfl,r2,m1.trans m2⟩
theorem zhN (r:Rd lo h b n) (hn:n≤900000):∃ (s:ByteArray) (h':Heap),evl lo 263 [.ptr (some (b,(0,0)))] h=some (.str s,h')∧zdX s=true∧Rd lo h' b (n+1)∧Mv h [b] h' [b]:=by
 obtain ⟨s,h1,e1,g1,r1,m1⟩:=zoS (e:=9) [⟨⟨[]⟩⟩,⟨⟨[97]⟩⟩,⟨⟨[98]⟩⟩,⟨⟨[120,35,49]⟩⟩,⟨⟨[61]⟩⟩,⟨⟨[45]⟩⟩,⟨⟨[108,111,110,103,116,101,120,116]⟩⟩,⟨⟨[122,122]⟩⟩]
  (rows := [[.str ⟨⟨[]⟩⟩],[.str ⟨⟨[97]⟩⟩],[.str ⟨⟨[98]⟩⟩],[.str ⟨⟨[120,35,49]⟩⟩],[.str ⟨⟨[61]⟩⟩],[.str ⟨⟨[45]⟩⟩],[.str ⟨⟨[108,111,110,103,116,101,120,116]⟩⟩],[.str ⟨⟨[122,122]⟩⟩]]) (len:=8) (cc:=some 8) r (by omega) rfl rfl (by decide)
 refine ⟨s,h1,zmr ?_,?_,r1,m1⟩
 ·rw [e1,zac,zdl]
 ·have:∀ x∈([⟨⟨[]⟩⟩,⟨⟨[97]⟩⟩,⟨⟨[98]⟩⟩,⟨⟨[120,35,49]⟩⟩,⟨⟨[61]⟩⟩,⟨⟨[45]⟩⟩,⟨⟨[108,111,110,103,116,101,120,116]⟩⟩,⟨⟨[122,122]⟩⟩]:List ByteArray),zdX x=true:=List.all_eq_true.1 (by decide)
  exact this s g1
theorem Sli.made {α:Type}{cs:α→List V}{R e:Nat}{rows:List (List V)}{l:List α} (hr:rows=l.map cs):Sli false R e (flat cs) (h ++ [.rows R e false rows]) [.sl R (some (h.length,0)) l.length (some l.length)] l [h.length]:=by
 subst hr
 refine ⟨R,some (h.length,0),some l.length,rfl,rfl,l.map cs,l.map fun _ => [],by simp,by simp,fun k hk=>by injection hk with hk;simp;omega,(fun hc=>(by cases hc)),?_,by rw [zlx]⟩
 rw [List.drop_zero,List.take_of_length_le (by simp)]
 exact EAll.flat
def zpa:List Tag := [⟨0,0⟩,⟨0,0⟩,⟨0,0⟩,⟨0,0⟩]
theorem zh9:∃ h' q,evl lo 155 [] h=some (.agg [.sl 2 (some (q,0)) 4 (some 4)],h')∧RTags false h' [.sl 2 (some (q,0)) 4 (some 4)] zpa [q]∧Mv h [] h' [q] :=
 ⟨_,h.length,zoy rfl,Sli.made (l:=zpa) rfl,Mv.last⟩
theorem zv0 {v:Ver} (h1:0≤v.key∧v.key≤3) (h2:zdX v.text=true) (h3:v.gone=true→zep v.text=true) (h4:zbr v.past=true) (h5:zbj v.tag.time v.tag.place=true) (h6:∀ t∈v.past,t.time<v.tag.time) (h7:0<v.tag.time):zbg v=true:=by
 unfold zbg zgd
 rw [h2,h4,h5,decide_eq_true (latest_lt.2 ⟨h7,h6⟩)]
 have:zak v.key 0 3=true:=by simp [zak];omega
 rw [this]
 cases hg:v.gone with
 | false=>rfl
 | true=>rw [h3 hg];rfl
theorem flat_drop {Fs:List (List Nat)}:(Fs.drop 1).flatten.Sublist Fs.flatten:=by
 cases Fs with
 | nil=>simp
 | cons F Fs=>simp only [List.drop_succ_cons,List.drop_zero,List.flatten_cons];exact List.sublist_append_right _ _
theorem Sli.behind {α:Type}{El:Rel α}{R e q i k m:Nat}{l:List α} (hs:Sli false R e El h [.sl R (some (q,i)) m (some k)] l F) (h0:0<l.length) (hnd:F.Nodup) :
  (∀ {T:Type} (K:Option (Nat×Nat)→Nat→Option Nat→Option T),1<k→zaz (some (q,i)) m (some k) (some (.int .i64 1)) none none K=K (some (q,i+1)) (l.drop 1).length (some (k - 1))) ∧
   ∃ F',Sli false R e El h [.sl R (some (q,i+1)) (l.drop 1).length (some (k - 1))] (l.drop 1) F'∧F'.Nodup∧∀ y∈F',y∈F:=by
 have hm:=hs.val
 subst hm
 obtain ⟨b',i',rs,Fs,ha,g1,g2,g3,g4,g5,rfl⟩:=hs.data h0
 injection ha with ha;injection ha with e1 e2;subst e1;subst e2
 obtain ⟨k1,k2⟩:=g3 k rfl
 refine ⟨fun K hk=>?_,q ::(Fs.drop 1).flatten,⟨R,some (q,i+1),some (k - 1),rfl,rfl,rs,Fs.drop 1,g1,by simp;omega,fun k' hk=>?_,(fun hc=>(by cases hc)),?_,rfl⟩,?_,fun y hy=>?_⟩
 ·unfold zaz zgK zmT zoI ztl
  simp only [zaa,Option.isNone_none]
  rw [zd2 ⟨by omega,by omega⟩]
  have:Nat.beq k (Int.toNat 1)=false:=by
   cases hb:Nat.beq k (Int.toNat 1) with
   | false=>rfl
   | true =>
    have:=Nat.eq_of_beq_eq_true hb
    have e:Int.toNat 1=1:=rfl
    omega
  rw [this,za5,List.length_drop];rfl
 ·injection hk with hk;subst hk
  simp only [List.length_drop];omega
 ·have hd:=g5.drop 1
  have:((rs.drop i).take l.length).drop 1=(rs.drop (i+1)).take (l.drop 1).length:=by
   rw [List.drop_take,List.drop_drop,List.length_drop]
  rw [← this];exact hd
 ·rw [List.nodup_cons] at hnd ⊢
  have hsub:(Fs.drop 1).flatten.Sublist Fs.flatten:=flat_drop
  exact ⟨fun hm=>hnd.1 (hsub.mem hm),hnd.2.sublist hsub⟩
 ·have hsub:(Fs.drop 1).flatten.Sublist Fs.flatten:=flat_drop
  rw [List.mem_cons] at hy ⊢
  exact hy.imp id fun hy=>hsub.mem hy
theorem Sli.fresh_put {α:Type}{El:Rel α} (ok:El.Ok) {R e m k:Nat}{a:Option (Nat×Nat)}{c:Option Nat}{l:List α}{E:List Nat} (hs:Sli false R e El h [.sl R a m c] l F) (hk:k<l.length) (hnd:(F++E).Nodup) (hlo:∀ y∈F,lo≤y) :
  ∃ b i row G,a=some (b,i)∧(∃ rs,h[b]?=some (.rows R e false rs)∧rs[i+k]?=some row)∧El h row l[k] G∧(∀ y∈G,y∈F) ∧
   ∀ j cs row' x' G',paste row j cs=some row'→El h row' x' G'→G'.Nodup→(∀ y∈G',y∈G∨y∈E) →
    ∃ h2 F2,st lo h b (i+k) j cs=some h2∧Sli false R e El h2 [.sl R a m c] (l.set k x') F2∧Mv h (F++E) h2 F2:=by
 have hnd0:=hnd
 rw [List.nodup_append] at hnd0
 obtain ⟨hn1,hn2,hn3⟩:=hnd0
 have hbd:=(Sli.ok ok).bd _ _ _ _ hs
 obtain ⟨b',i',rs,row,G,ha,hbF,hbG,hb,hrow,hel,hGF,hGn,put⟩:=hs.put ok.fr hk hn1
 have hblt:=hbd b' hbF
 refine ⟨b',i',row,G,ha,⟨rs,hb,hrow⟩,hel,hGF,fun j cs row' x' G' hp hx hGn' hG'=>?_⟩
 have e2:=zf5 hb (hlo b' hbF) hrow hp
 have hbG':b'∉G':=fun hm=>by
  rcases hG' b' hm with g | g
  ·exact hbG g
  ·exact hn3 b' hbF b' g rfl
 have fr2:∀ y,y≠b'→(h.set b' (.rows R e false (rs.set (i'+k) row')))[y]?=h[y]?:=fun y hy=>List.getElem?_set_ne (Ne.symm hy)
 obtain ⟨F2,p1,p2,p3,_⟩:=put (h.set b' (.rows R e false (rs.set (i'+k) row'))) row' x' G' (by simp [hblt]) (fun y hy hyb _=>fr2 y hyb) (ok.fr _ _ _ _ _ hx fun y hy=>fr2 y fun e=>hbG' (e ▸ hy)) hGn' (fun y hy hyF=>by
  rcases hG' y hy with g | g
  ·exact g
  ·exact absurd rfl (hn3 y hyF y g))
 refine ⟨_,F2,e2,p1,by simp,fun y hy hyF=>fr2 y fun e=>hyF (e ▸ List.mem_append_left _ hbF),p3,fun y hy => .inl ?_⟩
 rcases p2 y hy with g | g
 ·exact List.mem_append_left _ g.1
 ·rcases hG' y g with g | g
  ·exact List.mem_append_left _ (hGF y g)
  ·exact List.mem_append_right _ g
theorem zkx (r:Rd lo h b n) (hn:n≤800000) (hl:lo≤h.length):∃ (v:Ver) (q:Nat) (h':Heap) (F':List Nat),evl lo 245 [.ptr (some (b,(0,0)))] h=some (.agg (v.cs (some (q,0)) (some 4)),h')∧RTags false h' [.sl 2 (some (q,0)) v.past.length (some 4)] v.past F'∧zbg v=true∧Rd lo h' b (n+20)∧Mv h [b] h' (b :: F'):=by
 obtain ⟨key,h1,e1,g1,g1',r1,m1⟩:=pick r (by omega) 4
 obtain ⟨h2,q,e2,t2,m2⟩:=zh9 (lo:=lo) (h:=h1)
 have r2:=r1.keep m2 (by simp) (by simp)
 obtain ⟨s,h3,e3,gs,r3,m3⟩:=zhN r2 (by omega)
 have hb1:=r1.lt
 have hbq:b≠q:=by have:=m2.new q (by simp);omega
 have m12:Mv h [b] h2 (b :: [q]):=m1.draw1 (F1 := []) m2 hb1
 have t3:RTags false h3 [.sl 2 (some (q,0)) 4 (some 4)] zpa [q]:=m3.keep rtags_ok t2 (by simpa using fun e=>hbq e.symm)
 have hq2:∀ y ∈ [q],y<h2.length:=rtags_ok.bd _ _ _ _ t2
 have m13:Mv h [b] h3 (b :: [q]):=m12.draw0 m3 hq2
 have hkey:=g1' (by omega)
 suffices hk:∃ (v:Ver) (h':Heap) (F':List Nat),_=some (V.agg (v.cs (some (q,0)) (some 4)),h')∧RTags false h' [.sl 2 (some (q,0)) v.past.length (some 4)] v.past F'∧zbg v=true∧Rd lo h' b (n+20)∧Mv h [b] h' (b :: F') from by
  obtain ⟨v,h',F',e,g⟩:=hk
  exact ⟨v,q,h',F',zov e,g⟩
 rw [e1,zac,zaa,e2,zac,zbx,zad,zah,zao,e3,zac,zdl]
 have loop:∀ (m i:Nat) (x4:Int) (l:List Tag) (hh:Heap) (F:List Nat),m+i=4→0≤x4→x4≤9→l.length=4→(∀ t∈l,zbj t.time t.place=true∧t.time≤x4)→RTags false hh [.sl 2 (some (q,0)) 4 (some 4)] l F→Rd lo hh b (n+2+3*i)→Mv h [b] hh (b :: F) →
   ∃ (v:Ver) (h':Heap) (F':List Nat),zbQ lo b 0 0 x4 ((i:Nat):Int) 0 0 0 0 none 0 (some 0) ⟨⟨[]⟩⟩ false key 0 0 (some (q,0)) 4 (some 4) s false hh=some (V.agg (v.cs (some (q,0)) (some 4)),h')∧RTags false h' [.sl 2 (some (q,0)) v.past.length (some 4)] v.past F'∧zbg v=true∧Rd lo h' b (n+20)∧Mv h [b] h' (b :: F'):=by
  intro m
  induction m with
  | zero =>
   intro i x4 l hh F hi h0 h9 h4 hall ht rr mm
   have hi4:i=4:=by omega
   subst hi4
   obtain ⟨k1,p1,f1,u1,v1,s1,n1⟩:=pick rr (by omega) 3
   obtain ⟨k2,p2,f2,u2,v2,s2,n2⟩:=pick s1 (by omega) 3
   obtain ⟨k3,p3,f3,u3,v3,s3,n3⟩:=pick s2 (by omega) 6
   have hFb:=rtags_ok.bd _ _ _ _ ht
   have nn:=(n1.trans n2).trans n3
   have t':RTags false p3 [.sl 2 (some (q,0)) 4 (some 4)] l F:=nn.keep rtags_ok ht mm.apart
   have mm':=mm.draw0 nn hFb
   have w1:=v1 (by omega)
   have w2:=v2 (by omega)
   have hpo:zbr l=true:=by
    simp only [zbr,Bool.and_eq_true,decide_eq_true_eq,List.all_eq_true]
    exact ⟨h4,fun t ht=>(hall t ht).1⟩
   have htg:zbj (x4+1+k1) k2=true:=by simp [zbj,zak];omega
   rw [zbQ.e,zaj (by omega),f1,zac,zaa,f2,zac,zaa,f3,zac,zaa,wr (n:=x4+1) (by omega) (by omega),wr (n:=x4+1+k1) (by omega) (by omega)]
   cases k3==(0:Int) with
   | true =>
    rw [zaN]
    refine ⟨⟨key,⟨x4+1+k1,k2⟩,l,⟨⟨[]⟩⟩,true⟩,p3,F,by simp only [Ver.cs,h4],by simp only [h4];exact t',zv0 ⟨g1,by show key≤3;omega⟩ rfl (fun _=>rfl) hpo htg (fun t ht=>?_) (by show 0<x4+1+k1;omega),s3.up (by omega),mm'⟩
    have:=(hall t ht).2
    show t.time<x4+1+k1
    omega
   | false =>
    rw [za5]
    refine ⟨⟨key,⟨x4+1+k1,k2⟩,l,s,false⟩,p3,F,by simp only [Ver.cs,h4],by simp only [h4];exact t',zv0 ⟨g1,by show key≤3;omega⟩ gs (fun hc=>by cases hc) hpo htg (fun t ht=>?_) (by show 0<x4+1+k1;omega),s3.up (by omega),mm'⟩
    have:=(hall t ht).2
    show t.time<x4+1+k1
    omega
  | succ m ih =>
   intro i x4 l hh F hi h0 h9 h4 hall ht rr mm
   have hil:i<l.length:=by omega
   obtain ⟨t,p1,f1,⟨u1,u2⟩,s1,n1⟩:=zny rr (by omega)
   have hFb:=rtags_ok.bd _ _ _ _ ht
   have t1:RTags false p1 [.sl 2 (some (q,0)) 4 (some 4)] l F:=n1.keep rtags_ok ht mm.apart
   have mm1:=mm.draw0 n1 hFb
   have hnd1:=mm1.nd
   rw [List.nodup_cons] at hnd1
   have hlo1:∀ y∈b :: F,lo≤y:=fun y hy=>mm1.ge hl (fun z hz=>by rw [List.mem_singleton] at hz;subst hz;exact r.ge) y hy
   have hloF:∀ y∈F,lo≤y:=fun y hy=>hlo1 y (by simp [hy])
   obtain ⟨b',i',rs,row,G,ha,hbF,hbG,hbb,hrow,⟨hr1,hG⟩,hGF,hGn,_,put⟩:=Sli.at (lo:=lo) zcE t1 hil hnd1.2 hloF
   injection ha with ha;injection ha with z1 z2;subst z1;subst z2
   subst hG
   obtain ⟨h5,F5,e5,t5,m5,hb5,_,_⟩:=put p1 [] 0 [.int .i64 t.time,.int .i64 t.place] t.cs t Mv.nil (by rw [hr1];exact zdy rfl) ⟨rfl,rfl⟩
   have l5:ld h5 q (0+i) 0 1=some [.int .i64 t.time]:=by
    rw [zeR hb5 (row:=t.cs) (List.getElem?_set_self (List.getElem?_eq_some_iff.1 hrow).1)];rfl
   have s5:=s1.keepF mm1 m5 hloF
   have mm5:=mm1.draw1 m5 s1.lt
   have hall5:∀ x,x4≤x→t.time≤x→∀ u∈l.set i t,zbj u.time u.place=true∧u.time≤x:=fun x hx1 hx2 u hu=>by
    rcases List.mem_or_eq_of_mem_set hu with hu | rfl
    ·have:=hall u hu;exact ⟨this.1,by omega⟩
    ·exact ⟨u1,hx2⟩
   simp only [Tag.cs] at f1
   have ht0:=(zdn u1).1
   rw [zbQ.e,zal (by omega),f1,zac,zbx,zad,zaa,zad,zaa,zao,zab (by omega),zam,Int.toNat_natCast,e5,zam,zab (by omega),zam,l5,zam,zad,zao,zaa,zap (by omega)]
   by_cases hc:t.time>x4
   ·rw [zal hc,zab (by omega),zam,l5,zam,zad,zao,zaa]
    exact ih (i+1) t.time (l.set i t) h5 F5 (by omega) ht0 u2 (by simpa using h4) (hall5 _ (by omega) (Int.le_refl _)) t5 (s5.up (by omega)) mm5
   ·rw [zaj hc]
    exact ih (i+1) x4 (l.set i t) h5 F5 (by omega) h0 h9 (by simpa using h4) (hall5 _ (Int.le_refl _) (by omega)) t5 (s5.up (by omega)) mm5
 exact loop 4 0 0 zpa h3 [q] rfl (Int.le_refl _) (by decide) rfl (by intro t ht;simp [zpa] at ht;subst ht;exact ⟨rfl,Int.le_refl _⟩) t3 (r3.up (by omega)) m13
end
end Go.Proofs.YthdfojchihooeaaGreat
namespace Go.Proofs.YthdfojchihooeaaGreat
open Go T


set_option maxRecDepth 100000
section
variable {lo:Nat}{h h':Heap}{F F':List Nat}{b n:Nat}
theorem Mv.thin {A F1 F2:List Nat}{h1:Heap} (m:Mv h A h1 (b :: F1)) (hn:F2.Nodup) (hs:∀ y∈F2,y∈F1):Mv h A h1 (b :: F2):=by
 have hn1:=m.nd
 rw [List.nodup_cons] at hn1
 refine m.lean (List.nodup_cons.2 ⟨fun hm=>hn1.1 (hs b hm),hn⟩) fun y hy=>?_
 rw [List.mem_cons] at hy ⊢
 exact hy.imp id (hs y)
theorem zin (r:Rd lo h b n) (hn:n≤700000) (hl:lo≤h.length):∃ (v:Ver) (a:Option (Nat×Nat)) (c:Option Nat) (h':Heap) (F':List Nat),evl lo 132 [.ptr (some (b,(0,0)))] h=some (.agg (v.cs a c),h')∧RTags false h' [.sl 2 a v.past.length c] v.past F'∧(v.past.length≤4∧v.text.size≤10)∧Rd lo h' b (n+40)∧Mv h [b] h' (b :: F'):=by
 obtain ⟨v,q,h1,F1,e1,t1,hv,r1,m1⟩:=zkx r (by omega) hl
 obtain ⟨x,h2,e2,g,g',r2,m2⟩:=pick r1 (by omega) 10
 have hF1:=rtags_ok.bd _ _ _ _ t1
 have t2:=m2.keep rtags_ok t1 m1.apart
 have m12:=m1.draw0 m2 hF1
 have hF2:=rtags_ok.bd _ _ _ _ t2
 have hth:=zg7 hv
 have h4:v.past.length=4:=zbq (zaA hv).2.2.2.1
 have hsz:v.past.length≤4∧v.text.size≤10:=⟨by omega,by have:=hth.2.1;omega⟩
 have hlo2:∀ y∈F1,lo≤y:=fun y hy=>m12.ge hl (fun z hz=>by rw [List.mem_singleton] at hz;subst hz;exact r.ge) y (by simp [hy])
 have hnd2:=m12.nd
 rw [List.nodup_cons] at hnd2
 suffices hk:∃ (v:Ver) (a:Option (Nat×Nat)) (c:Option Nat) (h':Heap) (F':List Nat),_=some (V.agg (v.cs a c),h')∧RTags false h' [.sl 2 a v.past.length c] v.past F'∧(v.past.length≤4∧v.text.size≤10)∧Rd lo h' b (n+40)∧Mv h [b] h' (b :: F') from by
  obtain ⟨v,a,c,h',F',e,gg⟩:=hk
  exact ⟨v,a,c,h',F',zkp e,gg⟩
 simp only [Ver.cs] at e1
 rw [e1,zac,zbx,zad,zaa,zad,zaa,zad,zaa,zad,zah,zad,zdl,zad,zaS,zao,e2,zac,zaa]
 cases x==(0:Int) with
 | true =>
  obtain ⟨k,h3,e3,_,r3,m3⟩:=zd0 (e:=3) [-1,4] (rows := [[.int .i64 (-1)],[.int .i64 4]]) (len:=2) (cc:=some 2) r2 (by omega) rfl rfl (by decide)
  rw [zaN,e3,zac,zaa]
  exact ⟨⟨k,v.tag,v.past,v.text,v.gone⟩,_,_,h3,F1,rfl,m3.keep rtags_ok t2 m12.apart,hsz,r3.up (by omega),m12.draw0 m3 hF2⟩
 | false =>
 rw [za5]
 cases x==(1:Int) with
 | true =>
  obtain ⟨s,h3,e3,hs,r3,m3⟩:=zoS (e:=9) [⟨⟨[97,32,98]⟩⟩,⟨⟨[116,111,111,108,111,110,103,101,114]⟩⟩,⟨⟨[10]⟩⟩] (rows := [[.str ⟨⟨[97,32,98]⟩⟩],[.str ⟨⟨[116,111,111,108,111,110,103,101,114]⟩⟩],[.str ⟨⟨[10]⟩⟩]]) (len:=3) (cc:=some 3) r2 (by omega) rfl rfl (by decide)
  have hs10:s.size≤10:=by
   have:∀ x∈([⟨⟨[97,32,98]⟩⟩,⟨⟨[116,111,111,108,111,110,103,101,114]⟩⟩,⟨⟨[10]⟩⟩]:List ByteArray),decide (x.size≤10)=true:=List.all_eq_true.1 (by decide)
   exact of_decide_eq_true (this s hs)
  rw [zaN,e3,zac,zdl]
  exact ⟨⟨v.key,v.tag,v.past,s,v.gone⟩,_,_,h3,F1,rfl,m3.keep rtags_ok t2 m12.apart,⟨hsz.1,hs10⟩,r3.up (by omega),m12.draw0 m3 hF2⟩
 | false =>
 rw [za5]
 cases x==(2:Int) with
 | true =>
  obtain ⟨er,F3,t3,n3,s3⟩:=t2.behind (by omega) hnd2.2
  rw [zaN,er _ (by decide)]
  exact ⟨⟨v.key,v.tag,v.past.drop 1,v.text,v.gone⟩,_,_,h2,F3,rfl,t3,⟨by simp;omega,hsz.2⟩,r2.up (by omega),m12.thin n3 s3⟩
 | false =>
 rw [za5]
 cases x==(3:Int) with
 | true =>
  obtain ⟨k,h3,e3,k1,k2,r3,m3⟩:=pick r2 (by omega) 4
  have t3:=m3.keep rtags_ok t2 m12.apart
  have m13:=m12.draw0 m3 hF2
  have k3:=k2 (by omega)
  obtain ⟨f,rfl⟩:∃ f:Nat,k=(f:Int):=⟨k.toNat,by omega⟩
  obtain ⟨b',i',rs,row,G,ha,hbF,hbG,hbb,hrow,⟨hr1,hG⟩,hGF,hGn,_,put⟩:=Sli.at (lo:=lo) zcE t3 (show f<v.past.length by omega) hnd2.2 hlo2
  injection ha with ha;injection ha with z1 z2;subst z1;subst z2
  subst hG
  obtain ⟨h5,F5,e5,t5,m5,hb5,_,_⟩:=put h3 [] 0 [.int .i64 50,.int .i64 1] (Tag.cs ⟨50,1⟩) ⟨50,1⟩ Mv.nil (by rw [hr1];exact zdy rfl) ⟨rfl,rfl⟩
  rw [zaN,e3,zac,zaa,zab (by omega),zam,Int.toNat_natCast,e5,zam]
  have t5':RTags false h5 [.sl 2 (some (q,0)) (v.past.set f ⟨50,1⟩).length (some 4)] (v.past.set f ⟨50,1⟩) F5:=by rw [List.length_set];exact t5
  exact ⟨⟨v.key,v.tag,v.past.set f ⟨50,1⟩,v.text,v.gone⟩,some (q,0),some 4,h5,F5,by simp only [Ver.cs,List.length_set],t5',⟨by simp;omega,hsz.2⟩,(r3.keepF m13 m5 hlo2).up (by omega),m13.draw1 m5 r3.lt⟩
 | false =>
 rw [za5]
 cases x==(4:Int) with
 | true =>
  obtain ⟨t,h3,e3,r3,m3⟩:=zio r2 (by omega)
  simp only [Tag.cs] at e3
  rw [zaN,e3,zac,zbx,zad,zaa,zad,zaa,zao]
  exact ⟨⟨v.key,t,v.past,v.text,v.gone⟩,_,_,h3,F1,rfl,m3.keep rtags_ok t2 m12.apart,hsz,r3.up (by omega),m12.draw0 m3 hF2⟩
 | false =>
 rw [za5]
 cases x==(5:Int) with
 | true=>exact ⟨⟨v.key,v.tag,v.past,v.text,true⟩,_,_,h2,F1,rfl,t2,hsz,r2.up (by omega),m12⟩
 | false=>exact ⟨v,_,_,h2,F1,rfl,t2,hsz,r2.up (by omega),m12⟩
def zg3:List Ver := [zvX,zvX,zvX,zvX]
theorem zoL:zaF zg3=true:=by decide
theorem zkw:RVer false h [.int .i64 0,.int .i64 0,.int .i64 0,.sl 0 none 0 (some 0),.str ⟨⟨[]⟩⟩,.bool false] zvX []:=⟨_,rfl,Sli.nil⟩
theorem zmQ:∃ h' q,evl lo 340 [] h=some (.agg [.sl 6 (some (q,0)) 4 (some 4)],h')∧RVers false h' [.sl 6 (some (q,0)) 4 (some 4)] zg3 [q]∧Mv h [] h' [q]:=by
 refine ⟨_,h.length,zp5 rfl,⟨6,some (h.length,0),some 4,rfl,rfl,[[.int .i64 0,.int .i64 0,.int .i64 0,.sl 0 none 0 (some 0),.str ⟨⟨[]⟩⟩,.bool false],[.int .i64 0,.int .i64 0,.int .i64 0,.sl 0 none 0 (some 0),.str ⟨⟨[]⟩⟩,.bool false],[.int .i64 0,.int .i64 0,.int .i64 0,.sl 0 none 0 (some 0),.str ⟨⟨[]⟩⟩,.bool false],[.int .i64 0,.int .i64 0,.int .i64 0,.sl 0 none 0 (some 0),.str ⟨⟨[]⟩⟩,.bool false]],[[],[],[],[]],by simp,by decide,fun k hk=>?_,(fun hc=>(by cases hc)),?_,rfl⟩,Mv.last⟩
 ·injection hk with hk;subst hk;exact ⟨by decide,by decide⟩
 ·exact ⟨zkw,zkw,zkw,zkw,trivial⟩
theorem zr7 (r:Rd lo h b n) (hn:n≤600000) (hl:lo≤h.length):∃ (l:List Ver) (q:Nat) (h':Heap) (F':List Nat),evl lo 311 [.ptr (some (b,(0,0)))] h=some (.agg [.sl 6 (some (q,0)) l.length (some 4)],h')∧RVers false h' [.sl 6 (some (q,0)) l.length (some 4)] l F'∧zaF l=true∧Rd lo h' b (n+200)∧Mv h [b] h' (b :: F'):=by
 obtain ⟨h1,q,e1,t1,m1⟩:=zmQ (lo:=lo) (h:=h)
 have r1:=r.keep m1 (by simp) (by simp)
 obtain ⟨x,h2,e2,g,g',r2,m2⟩:=pick r1 (by omega) 7
 have m01:Mv h [b] h1 (b :: [q]):=(Mv.refl (F := [b]) (by simp)).draw1 (F1 := []) m1 r.lt
 have hF1:=rvers_ok.bd _ _ _ _ t1
 have t2:=m2.keep rvers_ok t1 m01.apart
 have m12:=m01.draw0 m2 hF1
 suffices hk:∃ (l:List Ver) (h':Heap) (F':List Nat),_=some (V.agg [.sl 6 (some (q,0)) l.length (some 4)],h')∧RVers false h' [.sl 6 (some (q,0)) l.length (some 4)] l F'∧zaF l=true∧Rd lo h' b (n+200)∧Mv h [b] h' (b :: F') from by
  obtain ⟨l,h',F',e,gg⟩:=hk
  exact ⟨l,q,h',F',zlY e,gg⟩
 rw [e1,zac,zbx,zad,zah,zao,e2,zac,zaa]
 have loop:∀ (m:Nat) (l:List Ver) (n3:Nat) (hh:Heap) (F:List Nat),m≤6→n3=l.length→zaF l=true→RVers false hh [.sl 6 (some (q,0)) n3 (some 4)] l F→Rd lo hh b (n+1+21*(6 - m))→Mv h [b] hh (b :: F) →
   ∃ (l:List Ver) (h':Heap) (F':List Nat),zbI lo b 0 0 ((m:Nat):Int) 0 none 0 (some 0) (some (q,0)) n3 (some 4) hh=some (V.agg [.sl 6 (some (q,0)) l.length (some 4)],h')∧RVers false h' [.sl 6 (some (q,0)) l.length (some 4)] l F'∧zaF l=true∧Rd lo h' b (n+200)∧Mv h [b] h' (b :: F'):=by
  intro m
  induction m with
  | zero =>
   intro l n3 hh F hm hn3 hok ht rr mm
   subst hn3
   rw [zbI.e,zaj (by omega)]
   exact ⟨l,hh,F,rfl,ht,hok,rr.up (by omega),mm⟩
  | succ m ih =>
   intro l n3 hh F hm hn3 hok ht rr mm
   subst hn3
   have hlh:lo≤hh.length:=Nat.le_trans hl mm.le
   obtain ⟨v,qv,h5,F5,e5,t5,hv,r5,m5⟩:=zkx rr (by omega) hlh
   have hFb:=rvers_ok.bd _ _ _ _ ht
   have mm5:=mm.draw m5 hFb
   have hnd5:=mm5.nd
   rw [List.nodup_cons,List.nodup_append] at hnd5
   have ht5:RVers false h5 [.sl 6 (some (q,0)) l.length (some 4)] l F:=m5.keep rvers_ok ht mm.apart
   have hlo5:∀ y∈F5++F,lo≤y:=fun y hy=>mm5.ge hl (fun z hz=>by rw [List.mem_singleton] at hz;subst hz;exact r.ge) y (List.mem_cons_of_mem _ hy)
   have h4:=zaH hok
   have hkey:=(zaA hv).1
   obtain ⟨h6,F6,e6,t6,m6⟩:=zjf (lo:=lo) (av:=some (qv,0)) (cv:=some 4) ht5 t5 hnd5.2.2.1 (fun y hy=>hlo5 y (List.mem_append_right _ hy)) (Nat.le_trans hlh m5.le) ⟨hkey.1,by omega⟩ (by have:=(zg7 hv).1;omega)
   have hFb5:=rvers_ok.bd _ _ _ _ ht5
   have hT5:=rtags_ok.bd _ _ _ _ t5
   have m5F:Mv h [b] h5 (b :: F):=mm5.thin hnd5.2.2.1 fun y hy=>List.mem_append_right _ hy
   have mm6:=m5F.draw1 m6 r5.lt
   have r6:=r5.keepF m5F m6 (fun y hy=>hlo5 y (List.mem_append_right _ hy))
   simp only [Ver.cs] at e5 e6
   rw [zbI.e,zal (by omega),e5,zac,zbx,zad,zaa,zad,zaa,zad,zaa,zad,zah,zad,zdl,zad,zaS,zao,e6,zac,zbx,zad,zah,zao,show IntKind.wrap .i64 (((m+1:Nat):Int) - 1)=((m:Nat):Int) from by rw [wr (by omega) (by omega)];omega]
   exact ih (zeq l v) l.length h6 F6 (by omega) addVer_len.symm (zqn hok hv) t6 (r6.up (by omega)) mm6
 have hx:=g' (by omega)
 obtain ⟨k,rfl⟩:∃ k:Nat,x=(k:Int):=⟨x.toNat,by omega⟩
 exact loop k zg3 4 h2 [q] (by omega) rfl zoL t2 (r2.up (by omega)) m12
theorem zxn {l:List Ver} (hl:l.length≤4) (h:∀ v∈l,v.past.length≤4∧v.text.size≤10):zcQ l:=⟨by omega,fun v hv=>by have:=h v hv;omega⟩
theorem zqm {l:List Ver} (h:zaF l=true):l.length≤4∧∀ v∈l,v.past.length≤4∧v.text.size≤10:=by
 refine ⟨by rw [zaH h];exact Nat.le_refl _,fun v hv=>?_⟩
 obtain ⟨i,hi⟩:=List.mem_iff_getElem?.1 hv
 have:=zqk (zgF h hi)
 exact ⟨this.1,by have:=this.2.1;omega⟩
theorem zn6 (r:Rd lo h b n) (hn:n≤600000) (hl:lo≤h.length):∃ (l:List Ver) (a:Option (Nat×Nat)) (c:Option Nat) (h':Heap) (F':List Nat),evl lo 220 [.ptr (some (b,(0,0)))] h=some (.agg [.sl 6 a l.length c],h')∧RVers false h' [.sl 6 a l.length c] l F'∧(l.length≤4∧∀ v∈l,v.past.length≤4∧v.text.size≤10)∧Rd lo h' b (n+300)∧Mv h [b] h' (b :: F'):=by
 obtain ⟨l,q,h1,F1,e1,t1,hok,r1,m1⟩:=zr7 r hn hl
 obtain ⟨x,h2,e2,g,g',r2,m2⟩:=pick r1 (by omega) 10
 have hF1:=rvers_ok.bd _ _ _ _ t1
 have t2:=m2.keep rvers_ok t1 m1.apart
 have m12:=m1.draw0 m2 hF1
 have hF2:=rvers_ok.bd _ _ _ _ t2
 have hsm:=zqm hok
 have h4:=zaH hok
 have hlo2:∀ y∈F1,lo≤y:=fun y hy=>m12.ge hl (fun z hz=>by rw [List.mem_singleton] at hz;subst hz;exact r.ge) y (by simp [hy])
 have hnd2:=m12.nd
 rw [List.nodup_cons] at hnd2
 suffices hk:∃ (l:List Ver) (a:Option (Nat×Nat)) (c:Option Nat) (h':Heap) (F':List Nat),_=some (V.agg [.sl 6 a l.length c],h')∧RVers false h' [.sl 6 a l.length c] l F'∧(l.length≤4∧∀ v∈l,v.past.length≤4∧v.text.size≤10)∧Rd lo h' b (n+300)∧Mv h [b] h' (b :: F') from by
  obtain ⟨l,a,c,h',F',e,gg⟩:=hk
  exact ⟨l,a,c,h',F',zi1 e,gg⟩
 rw [e1,zac,zbx,zad,zah,zao,e2,zac,zaa]
 cases x==(0:Int) with
 | true =>
  obtain ⟨er,F3,t3,n3,s3⟩:=t2.behind (by omega) hnd2.2
  rw [zaN,er _ (by decide)]
  exact ⟨l.drop 1,_,_,h2,F3,rfl,t3,⟨by simp;omega,fun v hv=>hsm.2 v (List.mem_of_mem_drop hv)⟩,r2.up (by omega),m12.thin n3 s3⟩
 | false =>
 rw [za5]
 cases x==(1:Int) with
 | true =>
  obtain ⟨k,h3,e3,k1,k2,r3,m3⟩:=pick r2 (by omega) 4
  have m13:=m12.draw0 m3 hF2
  have t3:=m3.keep rvers_ok t2 m12.apart
  have hF3:=rvers_ok.bd _ _ _ _ t3
  have k3:=k2 (by omega)
  obtain ⟨f,rfl⟩:∃ f:Nat,k=(f:Int):=⟨k.toNat,by omega⟩
  obtain ⟨v,av,cv,h5,F5,e5,t5,hv,r5,m5⟩:=zin r3 (by omega) (Nat.le_trans hl m13.le)
  have m15:=m13.draw m5 hF3
  have t4:=m5.keep rvers_ok t3 m13.apart
  have hnd5:=m15.nd
  rw [List.nodup_cons] at hnd5
  have hnd6:(F1++F5).Nodup:=(List.perm_append_comm.nodup_iff).1 hnd5.2
  have m15':Mv h [b] h5 (b ::(F1++F5)):=m15.lean (List.nodup_cons.2 ⟨fun hm=>hnd5.1 (by simpa [or_comm] using hm),hnd6⟩) fun y hy=>by simpa [or_comm,or_left_comm] using hy
  obtain ⟨b',i',row,G,ha,⟨rs,hb1,hb2⟩,hel,hGF,put⟩:=Sli.fresh_put (lo:=lo) (E:=F5) rver_ok t4 (show f<l.length by omega) hnd6 hlo2
  injection ha with ha;injection ha with z1 z2;subst z1;subst z2
  obtain ⟨sv,hrow,_⟩:=hel
  obtain ⟨h6,F6,e6,t6,m6⟩:=put 0 (v.cs av cv) (v.cs av cv) v F5 (by rw [hrow];exact zdy rfl) ⟨_,rfl,t5⟩ ((List.nodup_append.1 hnd6).2.1) (fun y hy => .inr hy)
  simp only [Ver.cs] at e5 e6
  rw [zaN,e3,zac,zaa,e5,zac,zbx,zad,zaa,zad,zaa,zad,zaa,zad,zah,zad,zdl,zad,zaS,zao,zab (by omega),zam,Int.toNat_natCast,e6,zam]
  have hlo5:∀ y∈F1++F5,lo≤y:=fun y hy=>m15'.ge hl (fun z hz=>by rw [List.mem_singleton] at hz;subst hz;exact r.ge) y (List.mem_cons_of_mem _ hy)
  have t6':RVers false h6 [.sl 6 (some (q,0)) (l.set f v).length (some 4)] (l.set f v) F6:=by rw [List.length_set];exact t6
  refine ⟨l.set f v,some (q,0),some 4,h6,F6,by rw [List.length_set],t6',⟨by simp;omega,fun u hu=>?_⟩,(r5.keepF m15' m6 hlo5).up (by omega),m15'.draw1 m6 r5.lt⟩
  rcases List.mem_or_eq_of_mem_set hu with hu | rfl
  ·exact hsm.2 u hu
  ·exact hv
 | false =>
 rw [za5]
 cases x==(2:Int) with
 | true =>
  obtain ⟨k,h3,e3,k1,k2,r3,m3⟩:=pick r2 (by omega) 4
  have m13:=m12.draw0 m3 hF2
  have t3:=m3.keep rvers_ok t2 m12.apart
  have k3:=k2 (by omega)
  obtain ⟨f,rfl⟩:∃ f:Nat,k=(f:Int):=⟨k.toNat,by omega⟩
  obtain ⟨b',i',row,G,ha,⟨rs,hb1,hb2⟩,hel,hGF,put⟩:=Sli.fresh_put (lo:=lo) (E := []) rver_ok t3 (show f<l.length by omega) (by rw [List.append_nil];exact hnd2.2) hlo2
  injection ha with ha;injection ha with z1 z2;subst z1;subst z2
  obtain ⟨sv,hrow,_⟩:=hel
  obtain ⟨h6,F6,e6,t6,m6⟩:=put 0 [.int .i64 0,.int .i64 0,.int .i64 0,.sl 0 none 0 (some 0),.str ⟨⟨[120]⟩⟩,.bool false] [.int .i64 0,.int .i64 0,.int .i64 0,.sl 0 none 0 (some 0),.str ⟨⟨[120]⟩⟩,.bool false] ⟨0,⟨0,0⟩,[],⟨⟨[120]⟩⟩,false⟩ [] (by rw [hrow];exact zdy rfl) ⟨_,rfl,Sli.nil⟩ (by simp) (by simp)
  rw [List.append_nil] at m6
  rw [zaN,e3,zac,zaa,zab (by omega),zam,Int.toNat_natCast,e6,zam]
  have t6':RVers false h6 [.sl 6 (some (q,0)) (l.set f ⟨0,⟨0,0⟩,[],⟨⟨[120]⟩⟩,false⟩).length (some 4)] (l.set f ⟨0,⟨0,0⟩,[],⟨⟨[120]⟩⟩,false⟩) F6:=by rw [List.length_set];exact t6
  refine ⟨l.set f ⟨0,⟨0,0⟩,[],⟨⟨[120]⟩⟩,false⟩,some (q,0),some 4,h6,F6,by rw [List.length_set],t6',⟨by simp;omega,fun u hu=>?_⟩,(r3.keepF m13 m6 hlo2).up (by omega),m13.draw1 m6 r3.lt⟩
  rcases List.mem_or_eq_of_mem_set hu with hu | rfl
  ·exact hsm.2 u hu
  ·exact ⟨by decide,by decide⟩
 | false=>exact ⟨l,_,_,h2,F1,rfl,t2,hsm,r2.up (by omega),m12⟩
end
end Go.Proofs.YthdfojchihooeaaGreat
