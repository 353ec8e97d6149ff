/- Part 5 of what is shown for the law FnPlaceJoin, whatever the input; no condition of its own. -/
import Derived.Test.YthdfojchihooeaaGreatBPPlaceJoin4
set_option linter.unusedVariables false
set_option linter.unusedSimpArgs false
set_option linter.unnecessarySimpa false
namespace Go.Proofs.YthdfojchihooeaaGreat
open Go T


set_option maxRecDepth 100000
section
variable {lo:Nat}{h h':Heap}{F F':List Nat}{b n:Nat}
theorem Sli.at_aside {α:Type}{El:Rel α} (ok:El.Ok) {R e m k:Nat}{a:Option (Nat×Nat)}{c:Option Nat}{l:List α}{E:List Nat} (hs:Sli false R e El h [.sl R a m c] l F) (hk:k<l.length) (hnd:(F++E).Nodup) (hlo:∀ y∈F,lo≤y) (hE:∀ y∈E,y<h.length) :
  ∃ b i rs row G,a=some (b,i)∧b∈F∧b∉G∧h[b]?=some (.rows R e false rs)∧rs[i+k]?=some row∧El h row l[k] G∧(∀ y∈G,y∈F)∧G.Nodup ∧
   ∀ h1 G1 j cs row' x',Mv h (G++E) h1 G1→paste row j cs=some row'→El h1 row' x' G1 →
    ∃ h2 F2,st lo h1 b (i+k) j cs=some h2∧Sli false R e El h2 [.sl R a m c] (l.set k x') F2∧Mv h (F++E) h2 F2:=by
 have hnd0:=hnd
 rw [List.nodup_append] at hnd0
 obtain ⟨hn1,hn2,hn3⟩:=hnd0
 have hbd:=(Sli.ok ok).bd _ _ _ _ hs
 obtain ⟨b',i',rs,row,G,ha,hbF,hbG,hb,hrow,hel,hGF,hGn,put⟩:=hs.put ok.fr hk hn1
 have hblt:=hbd b' hbF
 refine ⟨b',i',rs,row,G,ha,hbF,hbG,hb,hrow,hel,hGF,hGn,fun h1 G1 j cs row' x' m hp hx=>?_⟩
 have hbE:b'∉E:=fun hm=>hn3 b' hbF b' hm rfl
 have hbGE:b'∉G++E:=fun hm=>(List.mem_append.1 hm).elim hbG hbE
 have hbG1:b'∉G1:=fun hm=>by
  rcases m.sub b' hm with g | g
  ·exact hbGE g
  ·omega
 have hb1:h1[b']?=some (.rows R e false rs):=by rw [m.fr b' hblt hbGE];exact hb
 have hb1lt:b'<h1.length:=Nat.lt_of_lt_of_le hblt m.le
 have e2:=zf5 hb1 (hlo b' hbF) hrow hp
 have fr2:∀ y,y≠b'→(h1.set b' (.rows R e false (rs.set (i'+k) row')))[y]?=h1[y]?:=fun y hy=>List.getElem?_set_ne (Ne.symm hy)
 obtain ⟨F2,p1,p2,p3,_⟩:=put (h1.set b' (.rows R e false (rs.set (i'+k) row'))) row' x' G1 (by simp [hb1lt]) (fun y hy hyb hyG=>by
   rw [fr2 y hyb]
   exact m.fr y (hbd y hy) fun hm=>(List.mem_append.1 hm).elim hyG fun g=>hn3 y hy y g rfl)
  (ok.fr _ _ _ _ _ hx fun y hy=>fr2 y fun e=>hbG1 (e ▸ hy)) m.nd (fun y hy hyF=>by
   rcases m.sub y hy with g | g
   ·rcases List.mem_append.1 g with g | g
    ·exact g
    ·exact absurd rfl (hn3 y hyF y g)
   ·have:=hbd y hyF;omega)
 refine ⟨_,F2,e2,p1,by simpa using m.le,fun y hy hyF=>?_,p3,fun y hy=>?_⟩
 ·rw [fr2 y fun e=>hyF (e ▸ List.mem_append_left _ hbF)]
  exact m.fr y hy fun hm=>hyF ((List.mem_append.1 hm).elim (fun g=>List.mem_append_left _ (hGF y g)) fun g=>List.mem_append_right _ g)
 ·rcases p2 y hy with g | g
  ·exact .inl (List.mem_append_left _ g.1)
  ·rcases m.sub y g with g | g
   ·exact .inl ((List.mem_append.1 g).elim (fun g=>List.mem_append_left _ (hGF y g)) fun g=>List.mem_append_right _ g)
   ·exact .inr (by simpa using g)
theorem Sli.first {α:Type}{El:Rel α}{R e m i:Nat}{a:Option (Nat×Nat)}{c:Option Nat}{l:List α} (hs:Sli false R e El h [.sl R a m c] l F) (hi:i≤l.length) (hnd:F.Nodup):∃ F2,Sli false R e El h [.sl R a i c] (l.take i) F2∧F2.Nodup∧∀ y∈F2,y∈F:=by
 have hm:=hs.val
 subst hm
 by_cases h0:l.length=0
 ·have:l = []:=List.eq_nil_of_length_eq_zero h0
  subst this
  have:i=0:=by simpa using hi
  subst this
  exact ⟨F,hs,hnd,fun y hy=>hy⟩
 obtain ⟨b',i',rs,Fs,ha,g1,g2,g3,g4,g5,rfl⟩:=hs.data (k:=0) (by omega)
 have hs0:=hs
 obtain ⟨R1,a1,c1,e1,_⟩:=hs
 injection e1 with e1 _;injection e1 with e0 e2 _ e4
 have hsub:(Fs.take i).flatten.Sublist Fs.flatten:=by
  conv=>{ rhs;rw [← List.take_append_drop i Fs,List.flatten_append] }
  exact List.sublist_append_left _ _
 rw [List.nodup_cons] at hnd
 refine ⟨b' ::(Fs.take i).flatten,⟨R,a,c,by simp;omega,?_⟩,List.nodup_cons.2 ⟨fun hm=>hnd.1 (hsub.mem hm),hnd.2.sublist hsub⟩,fun y hy=>?_⟩
 ·subst ha
  refine ⟨rfl,rs,Fs.take i,g1,by simp;omega,fun k hk=>?_,g4,?_,rfl⟩
  ·have:=g3 k hk
   simp only [List.length_take];omega
  ·have hd:=g5.take i
   rw [List.take_take] at hd
   have:min i l.length=(l.take i).length:=by simp
   rw [← this];exact hd
 ·rw [List.mem_cons] at hy ⊢
  exact hy.imp id fun hy=>hsub.mem hy
theorem zxt {m:Nat} (h1:1≤m) (h4:m≤4):Ch (List.replicate m ⟨zg3,[]⟩):=by
 have get:∀ (i:Nat) (x:Node),(List.replicate m (⟨zg3,[]⟩:Node))[i]?=some x→x=⟨zg3,[]⟩:=fun i x hx=>by
  rw [List.getElem?_replicate] at hx
  split at hx
  ·injection hx with hx;exact hx.symm
  ·cases hx
 refine ⟨by simpa using h1,by simpa using h4,fun i x hx=>?_,fun i x y hx hy=>?_,fun i x hx _=>?_⟩
 ·rw [get i x hx]
  unfold zb9
  simp only
  rw [zoL];rfl
 ·rw [get i x hx,get _ y hy];rfl
 ·rw [get i x hx]
theorem ziA {m:Nat} (h1:1≤m) (h4:m≤4) (hl:lo≤h.length):∃ v h' F',evl lo 310 [.int .i64 (m:Nat)] h=some (.agg [v],h')∧RNodes false h' [v] (List.replicate m ⟨zg3,[]⟩) F'∧Mv h [] h' F':=by
 obtain ⟨q,a',c',h',F',e,r,mm⟩:=zcR (El:=RNode false) rnode_ok (h:=h) (l:=List.replicate m ()) (f:=fun _=>(⟨zg3,[]⟩:Node)) (lo:=lo) (R:=2) (e:=zpJ false) (bytes:=48) hl (by decide) (by rw [List.length_replicate];omega)
  (fun i q a n c hh=>zbL lo ((m:Nat):Int) ((i:Nat):Int) 0 none 0 (some 0) q a n c hh) (fun i hi q a n c hh hm=>by
   rw [List.length_replicate] at hi
   obtain ⟨h3,q3,e3,t3,m3⟩:=zmQ (lo:=lo) (h:=hh)
   refine ⟨[.sl 6 (some (q3,0)) 4 (some 4),.sl 0 none 0 (some 0)],[q3],h3 ++ [.rows 2 (zpJ false) false [[.sl 6 (some (q3,0)) 4 (some 4),.sl 0 none 0 (some 0)]]],⟨_,_,[q3],[],rfl,rfl,Mv.snoc.keep0 rvers_ok t3,Sli.nil⟩,m3.trans (Mv.snoc' m3.nd),?_⟩
   rw [zbL.e,zal (by omega),e3,zac,zbx,zad,zah,zao,zap (by omega)]
   exact zaT)
 rw [List.map_replicate] at r
 rw [List.length_replicate] at e
 refine ⟨_,h',F',zl5 ?_,r,mm⟩
 have hw:zak ((m:Nat):Int) 1 4=true:=by simp only [zak,Bool.and_eq_true,decide_eq_true_eq];omega
 rw [zbb,zac,zbi,hw,zaN]
 refine e.trans ?_
 rw [zbL.e,zaj (by omega),List.length_replicate]
theorem zsR (r:Rd lo h b n) (hn:n≤500000) (hl:lo≤h.length):∃ (l:List Node) (a:Option (Nat×Nat)) (c:Option Nat) (h':Heap) (F':List Nat),evl lo 219 [.ptr (some (b,(0,0)))] h=some (.agg [.sl 2 a l.length c],h')∧RNodes false h' [.sl 2 a l.length c] l F'∧Ch l∧Rd lo h' b (n+400)∧Mv h [b] h' (b :: F'):=by
 obtain ⟨x,h1,e1,g,g',r1,m1⟩:=pick r (by omega) 4
 have hx:=g' (by omega)
 obtain ⟨k,rfl⟩:∃ k:Nat,x=(k:Int):=⟨x.toNat,by omega⟩
 obtain ⟨v,h2,F2,e2,t2,m2⟩:=ziA (lo:=lo) (m:=k+1) (h:=h1) (by omega) (by omega) (Nat.le_trans hl m1.le)
 obtain ⟨a2,c2,es2,t2⟩:=t2.form
 have r2:=r1.keep m2 (by simp) (by simp)
 obtain ⟨y,h3,e3,g3,g3',r3,m3⟩:=pick r2 (by omega) 12
 have m12:Mv h [b] h2 (b :: F2):=m1.draw1 (F1 := []) m2 r1.lt
 have hF2:=rnodes_ok.bd _ _ _ _ t2
 have t3:=m3.keep rnodes_ok t2 m12.apart
 have m13:=m12.draw0 m3 hF2
 suffices hk:∃ (l:List Node) (a:Option (Nat×Nat)) (c:Option Nat) (h':Heap) (F':List Nat),_=some (V.agg [.sl 2 a l.length c],h')∧RNodes false h' [.sl 2 a l.length c] l F'∧Ch l∧Rd lo h' b (n+400)∧Mv h [b] h' (b :: F') from by
  obtain ⟨l,a,c,h',F',e,gg⟩:=hk
  exact ⟨l,a,c,h',F',zl2 e,gg⟩
 rw [e1,zac,zaa,show IntKind.wrap .i64 (1+((k:Nat):Int))=((k+1:Nat):Int) from by rw [wr (by omega) (by omega)];omega,e2,zac,zbx,zad,es2,zao,e3,zac,zaa]
 have loop:∀ (m:Nat) (l:List Node) (a:Option (Nat×Nat)) (n3:Nat) (c:Option Nat) (hh:Heap) (F:List Nat),m≤11→n3=l.length→Ch l→RNodes false hh [.sl 2 a n3 c] l F→Rd lo hh b (n+2+30*(11 - m))→Mv h [b] hh (b :: F) →
   ∃ (l:List Node) (a':Option (Nat×Nat)) (c':Option Nat) (h':Heap) (F':List Nat),zat lo b 0 0 ((m:Nat):Int) 0 none 0 (some 0) a n3 c hh=some (V.agg [.sl 2 a' l.length c'],h')∧RNodes false h' [.sl 2 a' l.length c'] l F'∧Ch l∧Rd lo h' b (n+400)∧Mv h [b] h' (b :: F'):=by
  intro m
  induction m with
  | zero =>
   intro l a n3 c hh F hm hn3 hch ht rr mm
   subst hn3
   have hsm:=zhR (chain_iff.2 hch)
   obtain ⟨v,h5,F5,e5,t5,m5⟩:=zk3 (lo:=lo) ht (Nat.le_trans hl mm.le) hsm
   obtain ⟨a5,c5,es5,t5⟩:=t5.form
   have mm5:Mv h [b] h5 (b :: F5):=(mm.thin (F2 := []) (by simp) (by simp)).draw1 m5 rr.lt
   rw [zat.e,zaj (by omega),e5,zac,zbx,zad,es5,zao]
   exact ⟨l,a5,c5,h5,F5,rfl,t5,hch,(rr.keep m5 (by simp) (by simp)).up (by omega),mm5⟩
  | succ m ih =>
   intro l a n3 c hh F hm hn3 hch ht rr mm
   subst hn3
   have hsm:=zhR (chain_iff.2 hch)
   have hpos:=hch.pos
   have hle:=hch.le
   have hlh:lo≤hh.length:=Nat.le_trans hl mm.le
   obtain ⟨z,h4,e4,g4,g4',r4,m4⟩:=pick rr (by omega) 6
   have hFb:=rnodes_ok.bd _ _ _ _ ht
   have t4:=m4.keep rnodes_ok ht mm.apart
   have mm4:=mm.draw0 m4 hFb
   have hF4:=rnodes_ok.bd _ _ _ _ t4
   have hl4:lo≤h4.length:=Nat.le_trans hl mm4.le
   have hnd4:=mm4.nd
   rw [List.nodup_cons] at hnd4
   have hloA:∀ {hh:Heap}{F:List Nat},Mv h [b] hh (b :: F)→∀ y∈F,lo≤y:=fun mm y hy=>mm.ge hl (fun z hz=>by rw [List.mem_singleton] at hz;subst hz;exact r.ge) y (by simp [hy])
   have hlo4:=hloA mm4
   have hw:IntKind.wrap .i64 (((m+1:Nat):Int) - 1)=((m:Nat):Int):=by rw [wr (by omega) (by omega)];omega
   have add:∃ (l':List Node) (a':Option (Nat×Nat)) (c':Option Nat) (h':Heap) (F':List Nat),(cal (evl lo 257 [.agg [.sl 2 a l.length c]] h4) fun v_17 h_18=>eB v_17 (cal (evl lo 245 [.ptr (some (b,(0,0)))] h_18) fun v_19 h_20=>eA v_19 fun c_21=>eC c_21 fun v_22 l_23=>eI .i64 v_22 fun n_24=>eC l_23 fun v_25 l_26=>eI .i64 v_25 fun n_27=>eC l_26 fun v_28 l_29=>eI .i64 v_28 fun n_30=>eC l_29 fun v_31 l_32=>eS 2 (v_31) fun a_33 n_34 c_35=>eC l_32 fun v_36 l_37=>eT v_36 fun s_38=>eC l_37 fun v_39 l_40=>eBv v_39 fun b_41=>eN l_40 (cal (evl lo 258 [.agg [.sl 2 a l.length c],.int .i64 0,.agg [.int .i64 (n_24),.int .i64 (n_27),.int .i64 (n_30),.sl 2 a_33 n_34 c_35,.str (s_38),.bool (b_41)]] h_20) fun v_42 h_43=>eA v_42 fun c_44=>eC c_44 fun v_45 l_46=>eS 2 (v_45) fun a_47 n_48 c_49=>eN l_46 (zat lo b 0 0 (IntKind.wrap .i64 (((m+1:Nat):Int) - 1)) 0 none 0 (some 0) a_47 n_48 c_49 h_43))) (zat lo b 0 0 (IntKind.wrap .i64 (((m+1:Nat):Int) - 1)) 0 none 0 (some 0) a l.length c h_18))=some (V.agg [.sl 2 a' l'.length c'],h')∧RNodes false h' [.sl 2 a' l'.length c'] l' F'∧Ch l'∧Rd lo h' b (n+400)∧Mv h [b] h' (b :: F'):=by
    rw [zh6 t4 (by omega),zac,zbi,hw]
    cases hroom:zgp l 0 with
    | false =>
     rw [za5]
     exact ih l a _ c h4 F (by omega) rfl hch t4 (r4.up (by omega)) mm4
    | true =>
     obtain ⟨v,qv,h5,F5,e5,t5,hv,r5,m5⟩:=zkx r4 (by omega) hl4
     have mm5:=mm4.draw m5 hF4
     have ht5:=m5.keep rnodes_ok t4 mm4.apart
     have hnd5:=mm5.nd
     rw [List.nodup_cons,List.nodup_append] at hnd5
     have hlo5:=hloA mm5
     have m5F:Mv h [b] h5 (b :: F):=mm5.thin hnd5.2.2.1 fun y hy=>List.mem_append_right _ hy
     have hst:=hch.store (List.getElem?_eq_getElem (show 0<l.length by omega))
     have hkey:=(zaA hv).1
     obtain ⟨h6,F6,e6,t6,m6⟩:=zje (lo:=lo) (k:=0) (av:=some (qv,0)) (cv:=some 4) ht5 t5 (fun y hy hm=>hnd5.2.2.2 y hy y hm rfl) hnd5.2.2.1 (fun y hy=>hlo5 y (List.mem_append_right _ hy)) (Nat.le_trans hl4 m5.le) (by omega) ⟨hkey.1,by rw [hst.2];omega⟩ hsm (by have:=(zg7 hv).1;omega)
     have mm6:=m5F.draw1 m6 r5.lt
     have r6:=r5.keepF m5F m6 (fun y hy=>hlo5 y (List.mem_append_right _ hy))
     rw [show (((0:Nat):Nat):Int)=(0:Int) from rfl] at e6
     simp only [Ver.cs] at e5 e6
     rw [zaN,e5,zac,zbx,zad,zaa,zad,zaa,zad,zaa,zad,zah,zad,zdl,zad,zaS,zao,e6,zac,zbx,zad,zah,zao]
     exact ih (zkM l 0 v) a l.length c h6 F6 (by omega) addN_len.symm (hch.add hv hroom) t6 (r6.up (by omega)) mm6
   rw [zat.e,zal (by omega),e4,zac,zaa]
   cases z==(0:Int) with
   | true=>rw [zaN];exact add
   | false =>
   rw [za5]
   cases z==(1:Int) with
   | true=>rw [zaN];exact add
   | false =>
   rw [za5,hw]
   cases z==(2:Int) with
   | true =>
    rw [zaN]
    by_cases h2:1<l.length
    ·obtain ⟨kf,h5,e5,g5,g5',r5,m5⟩:=pick r4 (by omega) ((l.length:Nat):Int)
     have hkf:=g5' (by omega)
     obtain ⟨f,rfl⟩:∃ f:Nat,kf=(f:Int):=⟨kf.toNat,by omega⟩
     have t5:=m5.keep rnodes_ok t4 mm4.apart
     have mm5:=mm4.draw0 m5 hF4
     obtain ⟨a6,c6,h6,F6,e6,t6,m6⟩:=zk2 (lo:=lo) (k:=f) t5 (by omega) h2 (zpi (chain_iff.2 hch) (by omega)) hnd4.2 hlo4 (Nat.le_trans hl4 m5.le) hsm.1 (fun x hx=>by
      obtain ⟨i,hi⟩:=List.mem_iff_getElem?.1 hx
      have:=ziE (hch.node i x hi)
      exact ⟨this.1,by have:=this.2.1;omega,this.2.2⟩)
     rw [zal (by omega),e5,zac,zaa,e6,zac,zbx,zad,zah,zao]
     exact ih (zde l f) a6 _ c6 h6 F6 (by omega) rfl (hch.fall (by omega) h2) t6 ((r5.keepF mm5 m6 hlo4).up (by omega)) (mm5.draw1 m6 r5.lt)
    ·rw [zaj (by omega)]
     exact ih l a _ c h4 F (by omega) rfl hch t4 (r4.up (by omega)) mm4
   | false =>
   rw [za5]
   cases z==(3:Int) with
   | true =>
    rw [zaN]
    by_cases h4':l.length<4
    ·obtain ⟨a6,c6,h6,F6,e6,t6,m6⟩:=zh7 (lo:=lo) t4 (by omega) hsm hnd4.2 hlo4 hl4
     rw [zal (by omega),e6,zac,zbx,zad,zah,zao]
     exact ih (zhf l) a6 (l.length+1) c6 h6 F6 (by omega) (ziK hch).1.symm (hch.join h4') t6 ((r4.keepF mm4 m6 hlo4).up (by omega)) (mm4.draw1 m6 r4.lt)
    ·rw [zaj (by omega)]
     exact ih l a _ c h4 F (by omega) rfl hch t4 (r4.up (by omega)) mm4
   | false =>
   rw [za5]
   obtain ⟨kf,h5,e5,g5,g5',r5,m5⟩:=pick r4 (by omega) 4
   have t5:=m5.keep rnodes_ok t4 mm4.apart
   have mm5:=mm4.draw0 m5 hF4
   rw [e5,zac,zaa,zmO t5 hsm.1,zac,zbi]
   cases hcan:zcY l kf with
   | false =>
    rw [za5]
    exact ih l a _ c h5 F (by omega) rfl hch t5 (r5.up (by omega)) mm5
   | true =>
    have hchp:=hch.pass hcan
    obtain ⟨f,x,y,v,ws,rfl,hx,hy,hw',hr'⟩:=zgq hcan
    rw [Int.toNat_natCast] at hchp
    obtain ⟨hf,rfl⟩:=List.getElem?_eq_some_iff.1 hx
    have hf1:=(List.getElem?_eq_some_iff.1 hy).1
    obtain ⟨h6,F6,e6,t6,m6⟩:=zk1 (lo:=lo) (k:=f) t5 hf1 (by rw [hw'];simp) hnd4.2 hlo4 (Nat.le_trans hl4 m5.le) hsm (fun x hx=>by
     obtain ⟨i,hi⟩:=List.mem_iff_getElem?.1 hx
     have hno:=hch.node i x hi
     have:=ziE hno
     exact ⟨⟨this.1,by have:=this.2.1;omega,this.2.2⟩,fun v hv=>(zaA ((zav hno).2.2 v hv)).1⟩)
    rw [zaN,e6,zac,zbx,zad,zah,zao]
    exact ih (zhW l f) a l.length c h6 F6 (by omega) passN_len.symm hchp t6 ((r5.keepF mm5 m6 hlo4).up (by omega)) (mm5.draw1 m6 r5.lt)
 have hy:=g3' (by omega)
 obtain ⟨k2,rfl⟩:∃ k:Nat,y=(k:Int):=⟨y.toNat,by omega⟩
 exact loop k2 _ a2 _ c2 h3 F2 (by omega) rfl (zxt (by omega) (by omega)) t3 (r3.up (by omega)) m13
end
end Go.Proofs.YthdfojchihooeaaGreat
namespace Go.Proofs.YthdfojchihooeaaGreat
open Go T


set_option maxRecDepth 100000
section
variable {lo:Nat}{h h':Heap}{F F':List Nat}{b n:Nat}
theorem znN {h h':Heap}{q i j m:Nat} (hq:h'[q]?=h[q]?):ld h' q i j m=ld h q i j m:=by unfold ld Heap.rows?;rw [hq]
theorem zv1 {l:List Node}{k:Nat}{x:Node} (h:zcW l) (hx:zcQ x.store∧zcQ x.wait):zcW (l.set k x):=⟨by rw [List.length_set];exact h.1,fun y hy=>by
 rcases List.mem_or_eq_of_mem_set hy with hy | rfl
 ·exact h.2 y hy
 ·exact hx⟩
theorem zn7 (r:Rd lo h b n) (hn:n≤400000) (hl:lo≤h.length):∃ (l:List Node) (a:Option (Nat×Nat)) (c:Option Nat) (h':Heap) (F':List Nat),evl lo 108 [.ptr (some (b,(0,0)))] h=some (.agg [.sl 2 a l.length c],h')∧RNodes false h' [.sl 2 a l.length c] l F'∧zcW l∧Rd lo h' b (n+1000)∧Mv h [b] h' (b :: F'):=by
 obtain ⟨l,a,c,h1,F1,e1,t1,hch,r1,m1⟩:=zsR r (by omega) hl
 have hsm:=zhR (chain_iff.2 hch)
 have hpos:=hch.pos
 have hle:=hch.le
 obtain ⟨k,h2,e2,g2,g2',r2,m2⟩:=pick r1 (by omega) ((l.length:Nat):Int)
 obtain ⟨x,h3,e3,g3,g3',r3,m3⟩:=pick r2 (by omega) 10
 have hk:=g2' (by omega)
 obtain ⟨f,rfl⟩:∃ f:Nat,k=(f:Int):=⟨k.toNat,by omega⟩
 have hf:f<l.length:=by omega
 have m23:=m2.trans m3
 have hF1:=rnodes_ok.bd _ _ _ _ t1
 have t3:=m23.keep rnodes_ok t1 m1.apart
 have m13:=m1.draw0 m23 hF1
 have hF3:=rnodes_ok.bd _ _ _ _ t3
 have hl3:lo≤h3.length:=Nat.le_trans hl m13.le
 have hloA:∀ {hh:Heap}{F:List Nat},Mv h [b] hh (b :: F)→∀ y∈F,lo≤y:=fun mm y hy=>mm.ge hl (fun z hz=>by rw [List.mem_singleton] at hz;subst hz;exact r.ge) y (by simp [hy])
 suffices hk:∃ (l:List Node) (a:Option (Nat×Nat)) (c:Option Nat) (h':Heap) (F':List Nat),_=some (V.agg [.sl 2 a l.length c],h')∧RNodes false h' [.sl 2 a l.length c] l F'∧zcW l∧Rd lo h' b (n+1000)∧Mv h [b] h' (b :: F') from by
  obtain ⟨l,a,c,h',F',e,gg⟩:=hk
  exact ⟨l,a,c,h',F',zi2 e,gg⟩
 rw [e1,zac,zbx,zad,zah,zao,e2,zac,zaa,e3,zac,zaa]
 cases x==(0:Int) with
 | true =>
  obtain ⟨s,ast,cs,h5,F5,e5,t5,hs5,r5,m5⟩:=zn6 r3 (by omega) hl3
  have m15:=m13.draw m5 hF3
  have t4:=m5.keep rnodes_ok t3 m13.apart
  have hnd5:=m15.nd
  rw [List.nodup_cons] at hnd5
  have hnd6:(F1++F5).Nodup:=(List.perm_append_comm.nodup_iff).1 hnd5.2
  have m15':Mv h [b] h5 (b ::(F1++F5)):=m15.lean (List.nodup_cons.2 ⟨fun hm=>hnd5.1 (by simpa [or_comm] using hm),hnd6⟩) fun y hy=>by simpa [or_comm,or_left_comm] using hy
  have hlo5:=hloA m15'
  have hF5:=rvers_ok.bd _ _ _ _ t5
  obtain ⟨b',i',rs,row,G,ha,hbF,hbG,hb1,hb2,hel,hGF,hGn,put⟩:=Sli.at_aside (lo:=lo) (E:=F5) rnode_ok t4 hf hnd6 (fun y hy=>hlo5 y (List.mem_append_left _ hy)) hF5
  obtain ⟨s1,s2,H1,H2,rfl,rfl,q1,q2⟩:=hel
  have hnd7:=hnd6
  rw [List.nodup_append] at hnd7
  have hGn':=hGn
  rw [List.nodup_append] at hGn'
  have hd:(F5++H2).Nodup:=by
   rw [List.nodup_append]
   exact ⟨hnd7.2.1,hGn'.2.1,fun y hy z hz e=>hnd7.2.2 z (hGF z (List.mem_append_right _ hz)) y hy e.symm⟩
  have hd2:((H1++H2)++F5).Nodup:=by
   rw [List.nodup_append]
   exact ⟨hGn,hnd7.2.1,fun y hy z hz=>hnd7.2.2 y (hGF y hy) z hz⟩
  obtain ⟨h6,F6,e6,t6,m6⟩:=put h5 (F5++H2) 0 [.sl 6 ast s.length cs] [.sl 6 ast s.length cs,s2] ⟨s,l[f].wait⟩ ((Mv.refl hd2).lean hd fun y hy=>by
   rw [List.mem_append] at hy ⊢
   rw [List.mem_append]
   exact hy.elim .inr fun g => .inl (.inr g)) rfl ⟨_,_,F5,H2,rfl,rfl,t5,q2⟩
  rw [zaN,e5,zac,zbx,zad,zah,zao,zab hf,ha,zam,Int.toNat_natCast,e6,zam]
  have t6':RNodes false h6 [.sl 2 a (l.set f ⟨s,l[f].wait⟩).length c] (l.set f ⟨s,l[f].wait⟩) F6:=by rw [List.length_set];exact t6
  rw [← ha]
  exact ⟨l.set f ⟨s,l[f].wait⟩,a,c,h6,F6,by rw [List.length_set],t6',zv1 hsm ⟨zxn hs5.1 hs5.2,(hsm.2 _ (List.getElem_mem hf)).2⟩,(r5.keepF m15' m6 hlo5).up (by omega),m15'.draw1 m6 r5.lt⟩
 | false =>
 rw [za5]
 cases x==(1:Int) with
 | true =>
  obtain ⟨v,av,cv,h5,F5,e5,t5,hv5,r5,m5⟩:=zin r3 (by omega) hl3
  have m15:=m13.draw m5 hF3
  have t4:=m5.keep rnodes_ok t3 m13.apart
  have hnd5:=m15.nd
  rw [List.nodup_cons] at hnd5
  have hnd6:(F1++F5).Nodup:=(List.perm_append_comm.nodup_iff).1 hnd5.2
  have m15':Mv h [b] h5 (b ::(F1++F5)):=m15.lean (List.nodup_cons.2 ⟨fun hm=>hnd5.1 (by simpa [or_comm] using hm),hnd6⟩) fun y hy=>by simpa [or_comm,or_left_comm] using hy
  have hlo5:=hloA m15'
  have hF5:=rtags_ok.bd _ _ _ _ t5
  have hF4:=rnodes_ok.bd _ _ _ _ t4
  obtain ⟨b',i',rs,row,G,ha,hbF,hbG,hb1,hb2,hel,hGF,hGn,put⟩:=Sli.at_aside (lo:=lo) (E:=F5) rnode_ok t4 hf hnd6 (fun y hy=>hlo5 y (List.mem_append_left _ hy)) hF5
  obtain ⟨s1,s2,H1,H2,rfl,rfl,q1,q2⟩:=hel
  obtain ⟨aw,cw,esw,q2⟩:=q2.form
  have hnd7:=hnd6
  rw [List.nodup_append] at hnd7
  have hGn':=hGn
  rw [List.nodup_append] at hGn'
  have hH1:=rvers_ok.bd _ _ _ _ q1
  have hH2:=rvers_ok.bd _ _ _ _ q2
  have hw6:l[f].wait.length≤6:=(zav (hch.node f _ (List.getElem?_eq_getElem hf))).2.1
  have mx:Mv h5 [] (h5 ++ [.rows 6 65 false [v.cs av cv]]) []:=Mv.snoc
  have q2x:=mx.keep0 rvers_ok q2
  have t5x:=mx.keep0 rtags_ok t5
  obtain ⟨a6,c6,h6,F6,p1,p2,p3,p4,p5,p6⟩:=Sli.push (lo:=lo) (bytes:=72) (e:=65) rver_ok.fr q2x (xs := [v.cs av cv]) (ys := [v]) (Gs := [F5]) ⟨⟨_,rfl,t5x⟩,trivial⟩ (by decide) (by simp;omega) (fun y hy=>hlo5 y (List.mem_append_left _ (hGF y (List.mem_append_right _ hy)))) (by simp;have:=m15'.le;omega)
   (by
    rw [List.nodup_append]
    refine ⟨hGn'.2.1,by simpa using hnd7.2.1,fun y hy z hz=>hnd7.2.2 y (hGF y (List.mem_append_right _ hy)) z (by simpa using hz)⟩)
   (fun y hy=>by
    rw [List.mem_append] at hy
    rw [List.length_append]
    rcases hy with hy | hy
    ·have:=hH2 y hy;omega
    ·have:=hF5 y (by simpa using hy);omega) (by simp)
  simp only [List.length_singleton] at p1 p2
  have hfin:∀ y∈F6,y∈H2∨y∈F5∨(h5.length≤y∧y<h6.length):=fun y hy=>by
   rcases p5 y hy with g | g
   ·rw [List.mem_append] at g
    rcases g with g | g
    ·exact .inl g
    ·exact .inr (.inl (by simpa using g))
   ·rw [List.length_append] at g
    exact .inr (.inr (by omega))
  have hlen:h5.length≤h6.length:=by rw [List.length_append] at p3;omega
  have fr:∀ y,y<h5.length→y∉H2→h6[y]?=h5[y]?:=fun y hy hn=>by
   rw [p4 y (by rw [List.length_append];omega) hn,List.getElem?_append_left hy]
  have hmv:Mv h5 ((H1++H2)++F5) h6 (H1++F6):=by
   refine ⟨hlen,fun y hy hn=>fr y hy fun hm=>hn (by simp [hm]),?_,fun y hy=>?_⟩
   ·rw [List.nodup_append]
    refine ⟨hGn'.1,p6,fun y hy z hz e=>?_⟩
    subst e
    rcases hfin y hz with g | g | g
    ·exact hGn'.2.2 y hy y g rfl
    ·exact hnd7.2.2 y (hGF y (List.mem_append_left _ hy)) y g rfl
    ·have:=hH1 y hy;omega
   ·rw [List.mem_append] at hy
    rcases hy with hy | hy
    ·exact .inl (by simp [hy])
    ·rcases hfin y hy with g | g | g
     ·exact .inl (by simp [g])
     ·exact .inl (by simp [g])
     ·exact .inr g
  have q1x:RVers false h6 [s1] l[f].store H1:=rvers_ok.fr _ _ _ _ _ q1 fun y hy=>fr y (hH1 y hy) fun hm=>hGn'.2.2 y hy y hm rfl
  have p2':RVers false h6 [.sl 6 a6 (l[f].wait.length+1) c6] (l[f].wait ++ [v]) F6:=p2
  obtain ⟨h7,F7,e7,t7,m7⟩:=put h6 (H1++F6) 1 [.sl 6 a6 (l[f].wait.length+1) c6] [s1,.sl 6 a6 (l[f].wait.length+1) c6] ⟨l[f].store,l[f].wait ++ [v]⟩ hmv rfl ⟨_,_,H1,F6,rfl,rfl,q1x,p2'⟩
  have hb3:h3[b']?=h5[b']?:=by
   rw [m5.fr b' (hF3 b' hbF) (m13.apart b' hbF)]
  have l5:ld h5 b' (i'+f) 1 1=some [s2]:=by rw [zeR hb1 hb2];rfl
  have l3:ld h3 b' (i'+f) 1 1=some [s2]:=by rw [znN hb3];exact l5
  have l6:ld (h5 ++ [.rows 6 65 false [v.cs av cv]]) b' (i'+f) 1 1=some [s2]:=by rw [znN (List.getElem?_append_left (hF4 b' hbF))];exact l5
  simp only [Ver.cs] at e5 p1 l6
  rw [zaN,zab hf,ha,zam,Int.toNat_natCast,l3,zam,zad,zao,esw,e5,zac,zbx,zad,zaa,zad,zaa,zad,zaa,zad,zah,zad,zdl,zad,zaS,zao,l5,l6,zmW,zgt,zgt,zaT,p1,zah,zab hf,zam,e7,zam]
  have t7':RNodes false h7 [.sl 2 a (l.set f ⟨l[f].store,l[f].wait ++ [v]⟩).length c] (l.set f ⟨l[f].store,l[f].wait ++ [v]⟩) F7:=by rw [List.length_set];exact t7
  rw [← ha]
  refine ⟨l.set f ⟨l[f].store,l[f].wait ++ [v]⟩,a,c,h7,F7,by rw [List.length_set],t7',zv1 hsm ⟨(hsm.2 _ (List.getElem_mem hf)).1,by simp;omega,fun u hu=>?_⟩,(r5.keepF m15' m7 hlo5).up (by omega),m15'.draw1 m7 r5.lt⟩
  rcases List.mem_append.1 hu with hu | hu
  ·exact (hsm.2 _ (List.getElem_mem hf)).2.2 u hu
  ·rw [List.mem_singleton] at hu;subst hu
   exact ⟨by omega,by omega⟩
 | false =>
 rw [za5]
 cases x==(2:Int) with
 | true =>
  have hnd3:=m13.nd
  rw [List.nodup_cons] at hnd3
  obtain ⟨F5,t5,n5,s5⟩:=t3.first (i:=f) (by omega) hnd3.2
  have hlen:(l.take f).length=f:=by simp;omega
  rw [zaN,zla t3 (by omega)]
  exact ⟨l.take f,a,c,h3,F5,by rw [hlen],by rw [hlen];exact t5,⟨by rw [hlen];omega,fun x hx=>hsm.2 x (List.mem_of_mem_take hx)⟩,r3.up (by omega),m13.thin n5 s5⟩
 | false =>
  rw [za5]
  exact ⟨l,a,c,h3,F1,rfl,t3,hsm,r3.up (by omega),m13⟩
end
end Go.Proofs.YthdfojchihooeaaGreat
namespace Go.Proofs.YthdfojchihooeaaGreat
open Go T


set_option maxRecDepth 100000
section
variable {lo:Nat}{ro ro':Bool}{h:Heap}{F F':List Nat}{a a':Option (Nat×Nat)}{c c':Option Nat}
theorem zwc {l:List Tag} (h1:RTags ro h [.sl 2 a l.length c] l F) (h2:RTags ro' h [.sl 2 a' l.length c'] l F') (hn:l.length≤1048576):evl lo 47 [.agg [.sl 2 a l.length c],.agg [.sl 2 a' l.length c']] h=some (.bool true,h):=by
 refine zoC (h':=h) ?_
 rw [zqg,zaN]
 refine (zlw (n:=l.length) (fun i=>zcr (List.length h) false (i:Nat) a l.length c a' l.length c' h) fun i hi=>?_).trans ?_
 ·obtain ⟨o,rfl,ho⟩:=h1.get hi
  obtain ⟨o',rfl,ho'⟩:=h2.get hi
  rw [zcr.e,zal (by omega),zab hi]
  simp only [zam,Int.toNat_natCast,ho,ho',zad,zaa,zao,zab hi,zqg,zaN,Bool.and_self,zap (show i<9223372036854775807 by omega)]
 ·rw [zcr.e,zaj (by omega)]
theorem zxE {v:Ver} (h1:RTags ro h [.sl 2 a v.past.length c] v.past F) (h2:RTags ro' h [.sl 2 a' v.past.length c'] v.past F') (hn:v.past.length≤1048576):evl lo 34 [.agg (v.cs a c),.agg (v.cs a' c')] h=some (.bool true,h) :=
 zp9 (h':=h) (by simp only [zwc h1 h2 hn,zac,zbi,zaN,zqg,zx9,zye,Bool.and_self])
theorem zrS {l:List Ver} (h1:RVers ro h [.sl 6 a l.length c] l F) (h2:RVers ro' h [.sl 6 a' l.length c'] l F') (hn:zcQ l):evl lo 56 [.sl 6 a l.length c,.sl 6 a' l.length c'] h=some (.bool true,h):=by
 have hn1:=hn.1
 refine zoB (h':=h) ?_
 rw [zqg,zaN]
 refine (zlw (n:=l.length) (fun i=>zcq (List.length h) a l.length c a' l.length c' false (i:Nat) h) fun i hi=>?_).trans ?_
 ·obtain ⟨o,s,b1,c1,G1,rfl,ho,es,hp,_⟩:=h1.get hi
  obtain ⟨o',s',b2,c2,G2,rfl,ho',es',hp',_⟩:=h2.get hi
  rw [zcq.e,zal (by omega),zab hi]
  simp only [zam,Int.toNat_natCast,ho,ho',zad,zaa,es,es',zdl,zaS,zao,zab hi]
  rw [zxE hp hp' (hn.2 _ (List.getElem_mem hi)).1]
  simp only [zac,zbi,zaN,zap (show i<9223372036854775807 by omega)]
 ·rw [zcq.e,zaj (by omega)]
theorem zxb {l:List Ver} (h1:RVers ro h [.sl 6 a l.length c] l F) (h2:RVers ro' h [.sl 6 a' l.length c'] l F') (hn:zcQ l):evl lo 41 [.agg [.sl 6 a l.length c],.agg [.sl 6 a' l.length c']] h=some (.bool true,h):=by
 have hn1:=hn.1
 refine zmw (h':=h) ?_
 rw [zqg,zaN]
 refine (zlw (n:=l.length) (fun i=>zb1 (List.length h) false (i:Nat) a l.length c a' l.length c' h) fun i hi=>?_).trans ?_
 ·obtain ⟨o,s,b1,c1,G1,rfl,ho,es,hp,_⟩:=h1.get hi
  obtain ⟨o',s',b2,c2,G2,rfl,ho',es',hp',_⟩:=h2.get hi
  rw [zb1.e,zal (by omega),zab hi]
  simp only [zam,Int.toNat_natCast,ho,ho',zad,zaa,es,es',zdl,zaS,zao,zab hi]
  rw [zxE hp hp' (hn.2 _ (List.getElem_mem hi)).1]
  simp only [zac,zbi,zaN,zap (show i<9223372036854775807 by omega)]
 ·rw [zb1.e,zaj (by omega)]
theorem zxc {l:List Node} (h1:RNodes ro h [.sl 2 a l.length c] l F) (h2:RNodes ro' h [.sl 2 a' l.length c'] l F') (hn:zcW l):evl lo 39 [.agg [.sl 2 a l.length c],.agg [.sl 2 a' l.length c']] h=some (.bool true,h):=by
 have hn1:=hn.1
 refine zmy (h':=h) ?_
 rw [zqg,zaN]
 refine (zlw (n:=l.length) (fun i=>zb3 (List.length h) false (i:Nat) a l.length c a' l.length c' h) fun i hi=>?_).trans ?_
 ·obtain ⟨o,s1,s2,a1,c1,a2,c2,G1,G2,rfl,ho,ho1,ho2,e1,e2,hp1,hp2,_⟩:=h1.get hi
  obtain ⟨o',s1',s2',a1',c1',a2',c2',G1',G2',rfl,ho',ho1',ho2',e1',e2',hp1',hp2',_⟩:=h2.get hi
  rw [zb3.e,zal (by omega),zab hi]
  simp only [zam,Int.toNat_natCast,ho1,ho1',zad,e1,e1',zao,zab hi]
  rw [zxb hp1 hp1' (hn.2 _ (List.getElem_mem hi)).1]
  simp only [zac,zbi,zaN,zam,ho2,ho2',zad,zao,e2,e2',zab hi]
  rw [zrS hp2 hp2' (hn.2 _ (List.getElem_mem hi)).2]
  simp only [zac,zbi,zaN,zap (show i<9223372036854775807 by omega)]
 ·rw [zb3.e,zaj (by omega)]
theorem zfH {p:List Tag} (hp:zbr p=true):p.length=4:=by
 unfold zbr at hp
 rw [Bool.and_eq_true,decide_eq_true_eq] at hp
 exact hp.1
theorem zgX {l:List Node} (hs:RNodes false h [.sl 2 a l.length c] l F) (hl:lo≤h.length) (hn:zcW l) (hc:Ch l) :
  ∃ a' c' h' F',evl lo 43 [.agg [.sl 2 a l.length c]] h=some (.agg [.sl 2 a' (zaO l).length c'],h')∧RTags false h' [.sl 2 a' (zaO l).length c'] (zaO l) F'∧Mv h [] h' F':=by
 have hpos:=hc.pos
 have m0:Mv h [] (h ++ [.rows 1 56 false [[.sl 2 a l.length c]]]) []:=Mv.snoc
 have hs0:=m0.keep0 rnodes_ok hs
 have hld:ld (h ++ [.rows 1 56 false [[.sl 2 a l.length c]]]) h.length 0 0 1=some [.sl 2 a l.length c]:=by
  rw [zeR (show (h ++ [Blk.rows 1 56 false [[.sl 2 a l.length c]]])[h.length]?=some (.rows 1 56 false [[.sl 2 a l.length c]]) by simp) rfl];exact zhm rfl
 obtain ⟨a1,c1,G1,e1,q1,_⟩:=zlt (lo:=lo) hld hs0 (by omega) hn.1
 obtain ⟨v,h2,F2,e2,r2,m2⟩:=zpu (lo:=lo) q1 (Nat.le_trans hl m0.le) (hc.store (List.getElem?_eq_getElem (by omega))).2
 rw [← zhJ (by omega)] at r2
 obtain ⟨a2,c2,es,r2⟩:=r2.form
 refine ⟨a2,c2,h2,F2,zja ?_,r2,m0.trans m2⟩
 rw [hld,zam,zad,zah,zao,zj4 hs0 hn,chain_iff.2 hc,zac,zbi,zaN,e1,zac,zbx,zad,zah,zao,e2,zac,zbx,zad,es,zao]
end
end Go.Proofs.YthdfojchihooeaaGreat
namespace Go.Proofs.YthdfojchihooeaaGreat
open Go T


set_option maxRecDepth 100000
section
variable {lo:Nat}{h h':Heap}{w:World}{a1 a2 a3 a4 a:Option (Nat×Nat)}{c1 c2 c3 c4 c:Option Nat}{F1 F2 F3 F4:List Nat}
theorem zr9 {kind num key:Int}{text:ByteArray}{gone:Bool}{i:Nat} (H:WR lo h w a1 c1 a2 c2 a3 c3 a4 c4 F1 F2 F3 F4) (hg:Good w) (hi:i<w.sess.length) :
  ∃ cs' h' F',evl lo 289 [.agg (w.cs a1 c1 a2 c2 a3 c3 a4 c4),.agg [.int .i64 kind,.int .i64 (i:Nat),.int .i64 num,.int .i64 key,.str text,.bool gone]] h=some (.tup [.agg cs',.bool (zsX w i w.sess[i]).isSome],h') ∧
   WAt lo h' cs' ((zsX w i w.sess[i]).getD w) F'∧Mv h (F1++(F2++(F3++F4))) h' F'∧((zsX w i w.sess[i])=none→cs'=w.cs a1 c1 a2 c2 a3 c3 a4 c4):=by
 suffices hk:∃ cs' h' F',_=some (V.tup [.agg cs',.bool (zsX w i w.sess[i]).isSome],h')∧WAt lo h' cs' ((zsX w i w.sess[i]).getD w) F'∧Mv h (F1++(F2++(F3++F4))) h' F'∧((zsX w i w.sess[i])=none→cs'=w.cs a1 c1 a2 c2 a3 c3 a4 c4) from by
  obtain ⟨cs',h',F',e,hr⟩:=hk
  exact ⟨cs',h',F',zpX e,hr⟩
 have hso:=hg.ok.sess _ (List.getElem_mem hi)
 obtain ⟨t1,t2,t3,t4,t5,t6⟩:=zc9 hso
 have hp4:=zfH t2
 have h80:=hg.ok.h80
 obtain ⟨k,hpl⟩:∃ k:Nat,w.sess[i].place=(k:Int):=⟨w.sess[i].place.toNat,by omega⟩
 obtain ⟨m,hkey⟩:∃ m:Nat,w.sess[i].key=(m:Int):=⟨w.sess[i].key.toNat,by omega⟩
 have hk:k<w.places.length:=by have:=hg.ok.p3;omega
 obtain ⟨hpo,hme,hro⟩:=hg.at hk
 have hn:=(zfE (zcV hpo) (by decide) (by decide) (by decide)).1
 have hco:=(zaK hpo).2.2.2.1
 have hcl:=zd6 hpo
 have hst:∀ x∈w.places[k].chain,zaF x.store=true:=fun x hx=>(zav ((zbY hco).2 x hx)).1
 have h04:=zaH (hst _ (List.getElem_mem hcl))
 have hm0:m<w.places[k].chain[0].store.length:=by omega
 obtain ⟨b',i',v,e1',d1',Gs,rfl,hld',_,_,es',hv',_,hGn,puts⟩:=H.sess hi
 obtain ⟨b,j,s1,s2,s3,b1,d1,b2,d2,b3,d3,G1,G2,G3,rfl,_,hc2,_,e1,e2,e3,g1,g2,g3,nd,hF,put⟩:=H.place hk
 obtain ⟨u,x5,y5,h1,G5,e5,hsh,r5,m5⟩:=ziy (lo:=lo) (k:=0) (key:=m) g1 hcl hst (by omega) H.hl hn.1.1
 rw [show ((0:Nat):Int)=0 from rfl] at e5
 obtain ⟨o,z1,z2,p1,q1,p2,q2,H1,H2,rfl,_,ho1,_,ez1,_,gg1,_,_⟩:=(m5.keep0 rnodes_ok g1).get hcl
 obtain ⟨o',_,_,_,_,rfl,_,_,_,_,_,_,ho12,_⟩:=gg1.all hm0
 have hX:zsX w i w.sess[i]=bif decide (w.sess[i].wait.time>0) then
    (bif zgP u.tag w.sess[i].wait then (bif zgP w.places[k].chain[0].store[m].tag w.sess[i].wait then some (setS w i ⟨w.sess[i].place,w.sess[i].past,⟨0,0⟩,0⟩ []) else none)
    else (bif ze4 w 1 then some (setS w i ⟨w.sess[i].place,zjc w.sess[i].past m w.sess[i].wait,⟨0,0⟩,0⟩ [⟨i,3,w.sess[i].key,w.sess[i].wait⟩]) else none)) else none:=by
  have hhd:(zga w.places[k].chain)[m]?=some w.places[k].chain[0].store[m]:=by
   unfold zga;rw [List.getElem?_eq_getElem hcl];exact List.getElem?_eq_getElem hm0
  unfold zsX;rw [hpl,hkey,Int.toNat_natCast,Int.toNat_natCast,List.getElem?_eq_getElem hk]
  simp only [hsh,hhd]
 generalize hXX:zsX w i w.sess[i]=X at hX
 obtain ⟨Hq,mq⟩:=H.up0 m5.drop
 simp only [Ver.cs] at e5
 rw [zab hi,zam,Int.toNat_natCast,hld',zam,zad,zaa,zad,es',zad,zaa,zad,zaa,zad,zaa,zao]
 by_cases hw:¬ w.sess[i].wait.time>0
 ·have:w.sess[i].wait.time=0:=by
   simp [zbj,zak] at t3
   omega
  rw [this,zqg,zaN]
  exact H.stay (by rw [hX,decide_eq_false hw];rfl)
 have hw:w.sess[i].wait.time>0:=by omega
 rw [decide_eq_true hw,cond_true] at hX
 rw [show (w.sess[i].wait.time==0)=false by rw [beq_eq_false_iff_ne];omega,za5,hpl,zab hk,zam,Int.toNat_natCast,hc2,zam,zad,e1,zao,hkey,e5,zac,zbx,zad,zaa,zad,zaa,zad,zaa,zad,zah,zad,zdl,zad,zaS,zao,zdd ⟨by omega,by omega⟩,zam,ho1,zam,zad,zao,ez1,zab hm0,zam,Int.toNat_natCast,ho12,zam,zad,zaa,zad,zaa,zao,zbk,zac,zbi]
 cases hA:zkF u.tag.time u.tag.place w.sess[i].wait.time w.sess[i].wait.place with
 | true =>
  rw [show zgP u.tag w.sess[i].wait=true from hA,cond_true] at hX
  rw [zaN,zbk,zac,zbi]
  cases hB:zkF w.places[k].chain[0].store[m].tag.time w.places[k].chain[0].store[m].tag.place w.sess[i].wait.time w.sess[i].wait.place with
  | false =>
   rw [show zgP w.places[k].chain[0].store[m].tag w.sess[i].wait=false from hB,cond_false] at hX
   rw [za5]
   obtain ⟨cs',h',F',e,W,M,N⟩:=Hq.stay hX
   exact ⟨cs',h',F',e,W,mq.trans M,N⟩
  | true =>
   rw [show zgP w.places[k].chain[0].store[m].tag w.sess[i].wait=true from hB,cond_true] at hX
   obtain ⟨h7,F7,e7,q7,m7⟩:=Hq.wait hi ⟨0,0⟩ 0
   rw [zaN,zbk,zac,zbi,hA,zaN,zbk,zac,zbi,hA,zaN]
   simp only [] at e7
   rw [e7,hX]
   refine ⟨_,h7,_,rfl,?_,mq.trans m7,fun g=>by first | cases g | (simp at g)⟩
   have W:=q7.at
   simp only [World.cs,List.length_set] at W
   simpa only [setS,Option.getD_some,List.append_nil] using W
 | false =>
  rw [show zgP u.tag w.sess[i].wait=false from hA,cond_false] at hX
  rw [za5,zbk,zac,zbi,hA,za5]
  by_cases hh:(w.hist.length:Int)≥80
  ·rw [zal hh]
   obtain ⟨cs',h',F',e,W,M,N⟩:=Hq.stay (X:=X) (by rw [hX,show ze4 w 1=false from decide_eq_false (by omega)];rfl)
   exact ⟨cs',h',F',e,W,mq.trans M,N⟩
  rw [show ze4 w 1=true from decide_eq_true (by omega),cond_true] at hX
  obtain ⟨x6,y6,h6,F6,e6,r6,m6⟩:=zh8 (lo:=lo) (k:=m) (t:=w.sess[i].wait) (m5.keep0 rtags_ok hv') (by omega) Hq.hl (by omega)
  obtain ⟨h7,F7,e7,q7,m7,_⟩:=Hq.past hi m6 r6
  obtain ⟨a8,c8,h8,F8,e8,q8,m8,_⟩:=zdM (d:=⟨i,3,(m:Nat),w.sess[i].wait⟩) q7 (by show w.hist.length≤1000;omega)
  have hi8:i<(w.sess.set i ⟨w.sess[i].place,zjc w.sess[i].past m w.sess[i].wait,w.sess[i].wait,w.sess[i].key⟩).length:=by simpa using hi
  obtain ⟨h9,F9,e9,q9,m9⟩:=q8.wait hi8 ⟨0,0⟩ 0
  have W:=q9.at
  simp only [World.cs,List.length_set] at e8 e9
  simp only [World.cs,List.length_set,List.getElem_set_self,List.set_set] at W
  rw [zaj hh,zbk,zac,zbi,hA,za5,e6,zac,zbx,zad,zah,zao,e7,e8,zac,zbx,zad,zah,zad,zah,zad,zah,zad,zah,zao,e9,hX]
  refine ⟨_,h9,_,rfl,?_,mq.trans ((m7.trans m8).trans m9),fun g=>by first | cases g | (simp at g)⟩
  simpa only [setS,Option.getD_some,hkey] using W
end
end Go.Proofs.YthdfojchihooeaaGreat
namespace Go.Proofs.YthdfojchihooeaaGreat
open Go T


set_option maxRecDepth 100000
section
variable {lo:Nat}{h h':Heap}{w:World}{a1 a2 a3 a4 a:Option (Nat×Nat)}{c1 c2 c3 c4 c:Option Nat}{F1 F2 F3 F4:List Nat}
theorem zqp {kind num key:Int}{text:ByteArray}{gone:Bool}{i:Nat} (H:WR lo h w a1 c1 a2 c2 a3 c3 a4 c4 F1 F2 F3 F4) (hg:Good w) (hi:i<w.sess.length) :
  ∃ cs' h' F',evl lo 290 [.agg (w.cs a1 c1 a2 c2 a3 c3 a4 c4),.agg [.int .i64 kind,.int .i64 (i:Nat),.int .i64 num,.int .i64 key,.str text,.bool gone]] h=some (.tup [.agg cs',.bool (zjj w i w.sess[i] ⟨kind,(i:Nat),num,key,text,gone⟩).isSome],h') ∧
   WAt lo h' cs' ((zjj w i w.sess[i] ⟨kind,(i:Nat),num,key,text,gone⟩).getD w) F'∧Mv h (F1++(F2++(F3++F4))) h' F'∧((zjj w i w.sess[i] ⟨kind,(i:Nat),num,key,text,gone⟩)=none→cs'=w.cs a1 c1 a2 c2 a3 c3 a4 c4):=by
 suffices hk:∃ cs' h' F',_=some (V.tup [.agg cs',.bool (zjj w i w.sess[i] ⟨kind,(i:Nat),num,key,text,gone⟩).isSome],h')∧WAt lo h' cs' ((zjj w i w.sess[i] ⟨kind,(i:Nat),num,key,text,gone⟩).getD w) F'∧Mv h (F1++(F2++(F3++F4))) h' F'∧((zjj w i w.sess[i] ⟨kind,(i:Nat),num,key,text,gone⟩)=none→cs'=w.cs a1 c1 a2 c2 a3 c3 a4 c4) from by
  obtain ⟨cs',h',F',e,hr⟩:=hk
  exact ⟨cs',h',F',zoa e,hr⟩
 have hso:=hg.ok.sess _ (List.getElem_mem hi)
 obtain ⟨t1,t2,t3,t4,t5,t6⟩:=zc9 hso
 have hp4:=zfH t2
 have h80:=hg.ok.h80
 obtain ⟨k,hpl⟩:∃ k:Nat,w.sess[i].place=(k:Int):=⟨w.sess[i].place.toNat,by omega⟩
 have hk:k<w.places.length:=by have:=hg.ok.p3;omega
 obtain ⟨hpo,hme,hro⟩:=hg.at hk
 have hn:=(zfE (zcV hpo) (by decide) (by decide) (by decide)).1
 have hn1:=hn.1.1
 have hch:=chain_iff.1 (zaK hpo).2.2.2.1
 have hst:∀ x∈w.places[k].chain,zaF x.store=true:=fun x hx=>(zav ((zbY (zaK hpo).2.2.2.1).2 x hx)).1
 obtain ⟨b',i',v,e1',d1',Gs,rfl,hld',_,_,es',hv',_,hGn,puts⟩:=H.sess hi
 obtain ⟨b,j,s1,s2,s3,b1,d1,b2,d2,b3,d3,G1,G2,G3,rfl,_,hc2,_,e1,e2,e3,g1,g2,g3,nd,hF,put⟩:=H.place hk
 have hX:zjj w i w.sess[i] ⟨kind,(i:Nat),num,key,text,gone⟩=bif !decide (w.sess[i].wait.time>0)&&(zak key 0 3&&(zak num 0 ((w.places[k].chain.length:Int) - 1)&&ze4 w 1)) then
   (match zk6 w.places[k].chain num.toNat key.toNat,w.sess[i].past[key.toNat]? with
   | some v,some t=>bif zgP v.tag t then none else some (setS w i ⟨w.sess[i].place,ztt w.sess[i] v key.toNat,w.sess[i].wait,w.sess[i].key⟩ [⟨i,2,key,v.tag⟩])
   | _,_=>none) else none:=by
  unfold zjj;rw [hpl,Int.toNat_natCast,List.getElem?_eq_getElem hk];rfl
 generalize hXX:zjj w i w.sess[i] ⟨kind,(i:Nat),num,key,text,gone⟩=X at hX
 rw [zab hi,zam,Int.toNat_natCast,hld',zam,zad,zaa,zad,es',zad,zaa,zad,zaa,zad,zaa,zao,hpl,zab hk,zam,Int.toNat_natCast,hc2,zam,zad,e1,zao]
 by_cases hw:w.sess[i].wait.time>0
 ·rw [zal hw]
  exact H.stay (by rw [hX,decide_eq_true hw];rfl)
 rw [decide_eq_false hw,Bool.not_false,Bool.true_and] at hX
 rw [zaj hw,zbb,zac,zbi]
 cases hwk:zak key 0 3 with
 | false=>rw [za5];exact H.stay (by rw [hX,hwk];rfl)
 | true =>
 rw [hwk,Bool.true_and] at hX
 rw [zaN,wr (by omega) (by omega),zbb,zac,zbi]
 cases hwn:zak num 0 ((w.places[k].chain.length:Int) - 1) with
 | false=>rw [za5];exact H.stay (by rw [hX,hwn];rfl)
 | true =>
 rw [hwn,Bool.true_and] at hX
 rw [zaN]
 by_cases hh:(w.hist.length:Int)≥80
 ·rw [zal hh];exact H.stay (by rw [hX,show ze4 w 1=false from decide_eq_false (by omega)];rfl)
 rw [show ze4 w 1=true from decide_eq_true (by omega),cond_true] at hX
 simp only [zak,Bool.and_eq_true,decide_eq_true_eq] at hwk hwn
 obtain ⟨m,rfl⟩:∃ m:Nat,key=(m:Int):=⟨key.toNat,by omega⟩
 obtain ⟨n,rfl⟩:∃ n:Nat,num=(n:Int):=⟨num.toNat,by omega⟩
 have hmp:m<w.sess[i].past.length:=by omega
 obtain ⟨u,x5,y5,h1,G5,e5,hsh,r5,m5⟩:=ziy (lo:=lo) (k:=n) (key:=m) g1 (by omega) hst (by omega) H.hl hn1
 obtain ⟨Hq,mq⟩:=H.up0 m5.drop
 rw [Int.toNat_natCast,Int.toNat_natCast,hsh,List.getElem?_eq_getElem hmp] at hX
 simp only [] at hX
 have hu4:zbr u.past=true∨u.tag.time=0:=by
  have hql:zeQ w.places[k].chain n<w.places[k].chain.length:=by unfold zeQ;split<;>omega
  unfold zk6 at hsh
  rw [zdS hql] at hsh
  rcases zcO (zgF (hst _ (List.getElem_mem hql)) hsh) with g | g
  ·exact .inr (zdV g).1
  ·exact .inl (zaA g.1).2.2.2.1
 obtain ⟨o',ho',ho2⟩:=(m5.keep0 rtags_ok hv').get hmp
 subst ho'
 simp only [Ver.cs] at e5
 rw [zaj hh,e5,zac,zbx,zad,zaa,zad,zaa,zad,zaa,zad,zah,zad,zdl,zad,zaS,zao,zab hmp,zam,Int.toNat_natCast,ho2,zam,zad,zaa,zad,zaa,zao,zbk,zac,zbi]
 cases hA:zkF u.tag.time u.tag.place w.sess[i].past[m].time w.sess[i].past[m].place with
 | true =>
  rw [show zgP u.tag w.sess[i].past[m]=true from hA,cond_true] at hX
  rw [zaN]
  obtain ⟨cs',h',F',e,W,M,N⟩:=Hq.stay hX
  exact ⟨cs',h',F',e,W,mq.trans M,N⟩
 | false =>
 rw [show zgP u.tag w.sess[i].past[m]=false from hA,cond_false] at hX
 rw [za5]
 unfold ztt at hX
 by_cases ht:u.tag.time>0
 ·rw [decide_eq_true ht,cond_true] at hX
  have hu4':u.past.length=4:=zfH (hu4.resolve_right (by omega))
  obtain ⟨q6,x6,y6,h6,F6,e6,r6,m6⟩:=zqy (lo:=lo) (m5.keep0 rtags_ok hv') r5 hp4 hu4' Hq.hl
  obtain ⟨x7,y7,es7,r7⟩:=r6.form
  have hj:(zjp w.sess[i].past u.past).length=4:=by unfold zjp;rw [List.length_zipWith];omega
  obtain ⟨x8,y8,h8,F8,e8,r8,m8⟩:=zh8 (lo:=lo) (k:=m) (t:=u.tag) r7 (by omega) (Nat.le_trans Hq.hl m6.le) (by omega)
  obtain ⟨h9,F9,e9,q9,m9,_⟩:=Hq.past hi (m6.drop.trans m8) r8
  obtain ⟨x10,y10,h10,F10,e10,q10,m10,_⟩:=zdM (d:=⟨i,2,(m:Nat),u.tag⟩) q9 (by show w.hist.length≤1000;omega)
  have W:=q10.at
  simp only [World.cs,List.length_set] at e10 W
  rw [zal ht,e6,zac,zbx,zad,es7,zao,e8,zac,zbx,zad,zah,zao,e9,e10,zac,zbx,zad,zah,zad,zah,zad,zah,zad,zah,zao,hX]
  exact ⟨_,h10,_,rfl,W,mq.trans (m9.trans m10),fun g=>by first | cases g | (simp at g)⟩
 ·rw [decide_eq_false ht,cond_false] at hX
  obtain ⟨x10,y10,h10,F10,e10,q10,m10,_⟩:=zdM (d:=⟨i,2,(m:Nat),u.tag⟩) Hq (by omega)
  have W:=q10.at
  simp only [World.cs] at e10 W
  have hse:w.sess.set i ⟨w.sess[i].place,w.sess[i].past,w.sess[i].wait,w.sess[i].key⟩=w.sess:=List.set_getElem_self hi
  rw [zaj ht,e10,zac,zbx,zad,zah,zad,zah,zad,zah,zad,zah,zao,hX]
  refine ⟨_,h10,_,rfl,?_,mq.trans m10,fun g=>by first | cases g | (simp at g)⟩
  simpa only [setS,Option.getD_some,hse] using W
end
end Go.Proofs.YthdfojchihooeaaGreat
namespace Go.Proofs.YthdfojchihooeaaGreat
open Go T


set_option maxRecDepth 100000
theorem zwi {a b:Tag} (h1:a.time=b.time) (h2:a.place=b.place):a=b:=by cases a;cases b;simp_all
theorem ztO {p q:List Tag}{m:Nat}{a b:Tag} (hu:zcU p q=true) (ha:p[m]?=some a) (hb:q[m]?=some b):znL a b=b:=by
 have:=under_iff.1 hu m a b ha hb
 unfold znL zgP
 rw [zgx] at this
 cases hl:zkF a.time a.place b.time b.place with
 | true=>rfl
 | false =>
  rw [zgx] at hl
  show a=b
  exact zwi (by omega) (by omega)
theorem znw {p q:List Tag}{m:Nat} (hm:m<p.length) (hq:p.length=q.length) (hu:zcU p q=true):zjc (q.take m++p.drop m) m (q[m]'(by omega))=q.take (m+1)++p.drop (m+1):=by
 have h1:(q.take m).length=m:=by simp;omega
 have h2:m<(q.take m++p.drop m).length:=by simp;omega
 have h3:(q.take m++p.drop m)[m]=p[m]:=by rw [List.getElem_append_right (by omega)];simp [h1]
 rw [zoO h2,h3,ztO hu (List.getElem?_eq_getElem hm) (List.getElem?_eq_getElem (by omega)),List.set_append_right _ _ (by omega),h1,Nat.sub_self,List.take_succ_eq_append_getElem (by omega),List.append_assoc,List.drop_eq_getElem_cons hm]
 rfl
theorem zjX {i:Nat}{l:List Tag}{m:Nat} (hm:m<l.length):(zda i l).take (m+1)=(zda i l).take m ++ [⟨i,2,(m:Nat),l[m]⟩]:=by
 have hl:(zda i l).length=l.length:=by unfold zda;simp
 rw [List.take_succ_eq_append_getElem (by omega)]
 congr 2
 unfold zda
 rw [List.getElem_map,List.getElem_zipIdx]
 simp
section
variable {lo:Nat}{h h':Heap}{w:World}{a1 a2 a3 a4 a:Option (Nat×Nat)}{c1 c2 c3 c4 c:Option Nat}{F1 F2 F3 F4:List Nat}
theorem zsa {kind num key:Int}{text:ByteArray}{gone:Bool}{i:Nat} (H:WR lo h w a1 c1 a2 c2 a3 c3 a4 c4 F1 F2 F3 F4) (hg:Good w) (hi:i<w.sess.length) :
  ∃ cs' h' F',evl lo 291 [.agg (w.cs a1 c1 a2 c2 a3 c3 a4 c4),.agg [.int .i64 kind,.int .i64 (i:Nat),.int .i64 num,.int .i64 key,.str text,.bool gone]] h=some (.tup [.agg cs',.bool (zrY w i w.sess[i]).isSome],h') ∧
   WAt lo h' cs' ((zrY w i w.sess[i]).getD w) F'∧Mv h (F1++(F2++(F3++F4))) h' F'∧((zrY w i w.sess[i])=none→cs'=w.cs a1 c1 a2 c2 a3 c3 a4 c4):=by
 suffices hk:∃ cs' h' F',_=some (V.tup [.agg cs',.bool (zrY w i w.sess[i]).isSome],h')∧WAt lo h' cs' ((zrY w i w.sess[i]).getD w) F'∧Mv h (F1++(F2++(F3++F4))) h' F'∧((zrY w i w.sess[i])=none→cs'=w.cs a1 c1 a2 c2 a3 c3 a4 c4) from by
  obtain ⟨cs',h',F',e,hr⟩:=hk
  exact ⟨cs',h',F',zpY e,hr⟩
 have hso:=hg.ok.sess _ (List.getElem_mem hi)
 obtain ⟨t1,t2,t3,t4,t5,t6⟩:=zc9 hso
 have hp4:=zfH t2
 have h80:=hg.ok.h80
 obtain ⟨k,hpl⟩:∃ k:Nat,w.sess[i].place=(k:Int):=⟨w.sess[i].place.toNat,by omega⟩
 have hk:k<w.places.length:=by have:=hg.ok.p3;omega
 obtain ⟨hpo,hme,hro⟩:=hg.at hk
 have hn:=(zfE (zcV hpo) (by decide) (by decide) (by decide)).1
 have hn1:=hn.1.1
 have hch:=chain_iff.1 (zaK hpo).2.2.2.1
 have hpos:=hch.pos
 have hX:zrY w i w.sess[i]=bif !decide (w.sess[i].wait.time>0)&&(zcU w.sess[i].past (zaO w.places[k].chain)&&ze4 w 4) then some (setS w i ⟨w.sess[i].place,zaO w.places[k].chain,w.sess[i].wait,w.sess[i].key⟩ (zda i (zaO w.places[k].chain))) else none:=by
  unfold zrY;rw [hpl,Int.toNat_natCast,List.getElem?_eq_getElem hk]
 obtain ⟨b',i',v,e1',d1',Gs,rfl,hld',_,_,es',hv',_,hGn,puts⟩:=H.sess hi
 obtain ⟨b,j,s1,s2,s3,b1,d1,b2,d2,b3,d3,G1,G2,G3,rfl,_,hc2,_,e1,e2,e3,g1,g2,g3,nd,hF,put⟩:=H.place hk
 have hlast:=zhJ (l:=w.places[k].chain) (by omega)
 have hs4:=(hch.store (List.getElem?_eq_getElem (show w.places[k].chain.length - 1<w.places[k].chain.length by omega))).2
 obtain ⟨o,z1,z2,p1,q1,p2,q2,H1,H2,rfl,_,ho1,_,ez1,_,gg1,_,hH1,_⟩:=g1.get (show w.places[k].chain.length - 1<w.places[k].chain.length by omega)
 generalize hst:(w.places[k].chain[w.places[k].chain.length - 1]'(by omega)).store=store at hlast hs4 ez1 gg1
 obtain ⟨tv,h1,T1,e5,r5,m5⟩:=zk4 (lo:=h.length) gg1 (Nat.le_refl _) (by omega)
 obtain ⟨x5,y5,es5,r5⟩:=r5.form
 obtain ⟨Hq,mq⟩:=H.up0 m5.drop
 rw [hlast] at hX
 have htl:(zbN store).length=4:=by unfold zbN;rw [List.length_map];exact hs4
 have loop:∀ (r m:Nat) (hh:Heap) (x1:Option (Nat×Nat)) (y1:Option Nat) (x2:Option (Nat×Nat)) (y2:Option Nat) (x3:Option (Nat×Nat)) (y3:Option Nat) (x4:Option (Nat×Nat)) (y4:Option Nat) (K1 K2 K3 K4:List Nat),m+r=4→zcU w.sess[i].past (zbN store)=true→w.hist.length≤76 →
   WR lo hh (setS w i ⟨w.sess[i].place,(zbN store).take m++w.sess[i].past.drop m,w.sess[i].wait,w.sess[i].key⟩ ((zda i (zbN store)).take m)) x1 y1 x2 y2 x3 y3 x4 y4 K1 K2 K3 K4 →
   RVers false hh [.sl 6 p1 store.length q1] store H1→(∀ y∈H1,y∈K1) →
   ∃ cs' h' F',zcI lo (m:Nat) x1 w.places.length y1 x2 w.sess.length y2 x3 w.net.length y3 x4 (w.hist++(zda i (zbN store)).take m).length y4 kind (i:Nat) num key text gone 0 none 0 (some 0) 0 none 0 (some 0) 0 none 0 (some 0) 0 none 0 (some 0) p1 store.length q1 hh=some (V.tup [.agg cs',.bool true],h') ∧
    WAt lo h' cs' (setS w i ⟨w.sess[i].place,zbN store,w.sess[i].wait,w.sess[i].key⟩ (zda i (zbN store))) F'∧Mv hh (K1++(K2++(K3++K4))) h' F':=by
  intro r
  induction r with
  | zero =>
   intro m hh x1 y1 x2 y2 x3 y3 x4 y4 K1 K2 K3 K4 hm hu hl Hm hv hK
   have:m=4:=by omega
   subst this
   have hrl:(zda i (zbN store)).length=4:=by unfold zda;simpa using htl
   have W:=Hm.at
   rw [List.take_of_length_le (by omega),List.drop_eq_nil_of_le (by omega),List.append_nil,List.take_of_length_le (by omega)] at W
   refine ⟨_,hh,_,?_,W,Mv.refl Hm.nd⟩
   rw [zcI.e,zaj (by omega),List.take_of_length_le (by omega)]
   simp only [World.cs,setS,List.length_set]
  | succ r ih =>
   intro m hh x1 y1 x2 y2 x3 y3 x4 y4 K1 K2 K3 K4 hm hu hl Hm hv hK
   have him:i<(setS w i ⟨w.sess[i].place,(zbN store).take m++w.sess[i].past.drop m,w.sess[i].wait,w.sess[i].key⟩ ((zda i (zbN store)).take m)).sess.length:=by simpa [setS] using hi
   obtain ⟨b0,i0,v0,e0,d0,G0,rfl,_,hld1,_,es0,hv0,_,_,_⟩:=Hm.sess him
   have hss:(setS w i ⟨w.sess[i].place,(zbN store).take m++w.sess[i].past.drop m,w.sess[i].wait,w.sess[i].key⟩ ((zda i (zbN store)).take m)).sess[i]=⟨w.sess[i].place,(zbN store).take m++w.sess[i].past.drop m,w.sess[i].wait,w.sess[i].key⟩:=by simp [setS]
   have hpl4:((zbN store).take m++w.sess[i].past.drop m).length=4:=by simp;omega
   have hms:m<store.length:=by omega
   obtain ⟨o',_,_,_,_,ho',_,_,_,_,_,_,ho12,_⟩:=hv.all hms
   have htm:(zbN store)[m]'(by omega)=store[m].tag:=by unfold zbN;rw [List.getElem_map]
   rw [hss] at es0 hv0
   have es0:∀ {R':Type} (K:Option (Nat×Nat)→Nat→Option Nat→Option R'),eS 2 v0 K=K e0 ((zbN store).take m++w.sess[i].past.drop m).length d0:=es0
   have hv0:RTags false hh [.sl 2 e0 ((zbN store).take m++w.sess[i].past.drop m).length d0] ((zbN store).take m++w.sess[i].past.drop m) G0:=hv0
   obtain ⟨x8,y8,h8,F8,e8,r8,m8⟩:=zh8 (lo:=lo) (k:=m) (t:=store[m].tag) hv0 (by omega) Hm.hl (by omega)
   rw [← htm,znw (by omega) (by omega) hu] at r8
   obtain ⟨h9,F9,e9,q9,m9,s9⟩:=Hm.past him m8 r8
   have hv9:=rvers_ok.fr _ _ _ _ _ hv fun y hy=>s9 y (hK y hy)
   obtain ⟨o9,_,_,_,_,ho9,_,_,_,_,_,_,ho129,_⟩:=hv9.all hms
   have:o'=o9:=by rw [ho'] at ho9;injection ho9
   subst this
   have hrt:((zda i (zbN store)).take m).length≤4:=by rw [List.length_take];omega
   obtain ⟨x10,y10,h10,F10,e10,q10,m10,s10⟩:=zdM (d:=⟨i,2,(m:Nat),store[m].tag⟩) q9 (by show (w.hist++_).length≤1000;rw [List.length_append];omega)
   have hv10:=rvers_ok.fr _ _ _ _ _ hv9 fun y hy=>s10 y (hK y hy)
   simp only [setS,List.getElem_set_self,List.set_set,List.append_assoc] at q10
   rw [← htm,← zjX (by omega)] at q10
   obtain ⟨cs',h',F',e,W,M⟩:=ih (m+1) h10 _ _ _ _ _ _ _ _ _ _ _ _ (by omega) hu hl q10 hv10 hK
   refine ⟨cs',h',F',?_,W,(m9.trans m10).trans M⟩
   simp only [World.cs,setS,List.length_set] at e9 e10
   rw [hpl4] at es0 e8 e9
   have hw8:(zjc ((zbN store).take m++w.sess[i].past.drop m) m store[m].tag).length=4:=by rw [zs4];exact hpl4
   rw [zcI.e,zal (by omega),zab hi,zam,Int.toNat_natCast,hld1,zam,zad,es0,zao,zab hms,ho',zam,Int.toNat_natCast,ho12,zam,zad,zaa,zad,zaa,zao,e8,zac,zbx,zad,zah,zao,e9,zab hms,zam,ho129,zam,zad,zaa,zad,zaa,zao,e10,zac,zbx,zad,zah,zad,zah,zad,zah,zad,zah,zao,zap (by omega),← ho']
   rw [List.append_assoc,← htm,← zjX (by omega)]
   exact e
 rw [zab hi,zam,Int.toNat_natCast,hld',zam,zad,zaa,zad,es',zad,zaa,zad,zaa,zad,zaa,zao,hpl,zab hk,zam,Int.toNat_natCast,hc2,zam,zad,e1,zao,wr (by omega) (by omega),zdd ⟨by omega,by omega⟩,zam,show ((w.places[k].chain.length:Int) - 1).toNat=w.places[k].chain.length - 1 by omega,ho1,zam,zad,ez1,zao]
 by_cases hw:w.sess[i].wait.time>0
 ·rw [zal hw]
  exact H.stay (by rw [hX,decide_eq_true hw];rfl)
 rw [decide_eq_false hw,Bool.not_false,Bool.true_and] at hX
 rw [zaj hw,e5,zac,zbx,zad,es5,zao,zdY (m5.keep0 rtags_ok hv') r5 hp4 htl,zac,zbi]
 cases hu:zcU w.sess[i].past (zbN store) with
 | false =>
  rw [za5]
  obtain ⟨cs',h',F',e,W,M,N⟩:=Hq.stay (X:=zrY w i w.sess[i]) (by rw [hX,hu];rfl)
  exact ⟨cs',h',F',e,W,mq.trans M,N⟩
 | true =>
 rw [hu,Bool.true_and] at hX
 rw [zaN,wr (by omega) (by omega)]
 by_cases hh:(w.hist.length:Int)+4>80
 ·rw [zal hh]
  obtain ⟨cs',h',F',e,W,M,N⟩:=Hq.stay (X:=zrY w i w.sess[i]) (by rw [hX,show ze4 w 4=false from decide_eq_false (by omega)];rfl)
  exact ⟨cs',h',F',e,W,mq.trans M,N⟩
 rw [show ze4 w 4=true from decide_eq_true (by omega),cond_true] at hX
 have h0:setS w i ⟨w.sess[i].place,(zbN store).take 0++w.sess[i].past.drop 0,w.sess[i].wait,w.sess[i].key⟩ ((zda i (zbN store)).take 0)=w:=by
  have hse:w.sess.set i ⟨w.sess[i].place,w.sess[i].past,w.sess[i].wait,w.sess[i].key⟩=w.sess:=List.set_getElem_self hi
  simp only [setS,List.take_zero,List.nil_append,List.drop_zero,List.append_nil,hse]
 have hH1:∀ y∈H1,y∈F1:=fun y hy=>(hF y (List.mem_append_left _ (hH1 y hy))).2.2
 obtain ⟨cs',h',F',e,W,M⟩:=loop 4 0 h1 _ _ _ _ _ _ _ _ _ _ _ _ (by omega) hu (by omega) (by rw [h0];exact Hq) (m5.keep0 rvers_ok gg1) hH1
 simp only [List.take_zero,List.append_nil] at e
 rw [zaj hh,hX]
 exact ⟨cs',h',F',e,W,mq.trans M,fun g=>by first | cases g | (simp at g)⟩
theorem zoN {F:List Nat}{cs:List V}{X:Option World}{t:Option (V×Heap)} (ht:∃ cs' h' F',t=some (.tup [.agg cs',.bool X.isSome],h')∧WAt lo h' cs' (X.getD w) F'∧Mv h F h' F'∧(X=none→cs'=cs)) :
  ∃ cs' h' F',(cal t fun v_2 h_3=>eU v_2 fun c_4=>eC c_4 fun v_5 l_6=>eA v_5 fun c_7=>eC c_7 fun v_8 l_9=>eS 6 (v_8) fun a_10 n_11 c_12=>eC l_9 fun v_13 l_14=>eS 5 (v_13) fun a_15 n_16 c_17=>eC l_14 fun v_18 l_19=>eS 9 (v_18) fun a_20 n_21 c_22=>eC l_19 fun v_23 l_24=>eS 5 (v_23) fun a_25 n_26 c_27=>eN l_24 (eC l_6 fun v_28 l_29=>eB v_28 (eN l_29 (some (V.tup [.agg [.sl 6 a_10 n_11 c_12,.sl 5 a_15 n_16 c_17,.sl 9 a_20 n_21 c_22,.sl 5 a_25 n_26 c_27],.bool true],h_3))) (eN l_29 (some (V.tup [.agg [.sl 6 a_10 n_11 c_12,.sl 5 a_15 n_16 c_17,.sl 9 a_20 n_21 c_22,.sl 5 a_25 n_26 c_27],.bool false],h_3)))))=some (.tup [.agg cs',.bool X.isSome],h')∧WAt lo h' cs' (X.getD w) F'∧Mv h F h' F'∧(X=none→cs'=cs):=by
 obtain ⟨cs',h',F',rfl,W,M,N⟩:=ht
 refine ⟨cs',h',F',?_,W,M,N⟩
 obtain ⟨x1,y1,x2,y2,x3,y3,x4,y4,K1,K2,K3,K4,rfl,_,_⟩:=W
 rw [zac,zs2,zad,zbx,zad,zah,zad,zah,zad,zah,zad,zah,zao,zad,zbi]
 cases X.isSome
 ·rw [za5,zao]
 ·rw [zaN,zao]
theorem znC {e:Event} (H:WR lo h w a1 c1 a2 c2 a3 c3 a4 c4 F1 F2 F3 F4) (hg:Good w) (ht:e.text.size≤1048576) :
  ∃ cs' h' F',evl lo 196 [.agg (w.cs a1 c1 a2 c2 a3 c3 a4 c4),.agg e.cs] h=some (.tup [.agg cs',.bool (zfO w e).isSome],h')∧WAt lo h' cs' ((zfO w e).getD w) F'∧Mv h (F1++(F2++(F3++F4))) h' F'∧((zfO w e)=none→cs'=w.cs a1 c1 a2 c2 a3 c3 a4 c4):=by
 obtain ⟨kind,at',num,key,text,gone⟩:=e
 suffices hk:∃ cs' h' F',_=some (V.tup [.agg cs',.bool (zfO w ⟨kind,at',num,key,text,gone⟩).isSome],h')∧WAt lo h' cs' ((zfO w ⟨kind,at',num,key,text,gone⟩).getD w) F'∧Mv h (F1++(F2++(F3++F4))) h' F'∧((zfO w ⟨kind,at',num,key,text,gone⟩)=none→cs'=w.cs a1 c1 a2 c2 a3 c3 a4 c4) from by
  obtain ⟨cs',h',F',e,hr⟩:=hk
  exact ⟨cs',h',F',zlS e,hr⟩
 have hs4:=hg.ok.s4
 unfold zfO
 rw [wr (by omega) (by omega),zbb,zac,zbi]
 cases hat:zak at' 0 ((w.sess.length:Int) - 1) with
 | false=>rw [za5];exact H.stay rfl
 | true =>
 simp only [zak,Bool.and_eq_true,decide_eq_true_eq] at hat
 obtain ⟨i,rfl⟩:∃ i:Nat,at'=(i:Int):=⟨at'.toNat,by omega⟩
 have hi:i<w.sess.length:=by omega
 rw [zaN,cond_true,Int.toNat_natCast,List.getElem?_eq_getElem hi]
 simp only []
 cases h1:kind==1 with
 | true=>rw [zaN,cond_true];exact zoN (zoV H hg ht hi)
 | false =>
 rw [za5,cond_false]
 cases h2:kind==2 with
 | true=>rw [zaN,cond_true];exact zoN (zr9 H hg hi)
 | false =>
 rw [za5,cond_false]
 cases h3:kind==3 with
 | true=>rw [zaN,cond_true];exact zoN (zqp H hg hi)
 | false =>
 rw [za5,cond_false]
 cases h4:kind==4 with
 | true=>rw [zaN,cond_true];exact zoN (zsa H hg hi)
 | false =>
 rw [za5,cond_false]
 obtain ⟨b',i',v,e1',d1',Gs,rfl,_,_,hld2,es',hv',hv,hGn,puts⟩:=H.sess hi
 rw [zab hi,zam,hld2,zam,zad,zao,zaa]
 unfold ztM
 by_cases hw:w.sess[i].wait.time>0
 ·rw [zal hw]
  exact H.stay (by rw [decide_eq_true hw];rfl)
 rw [zaj hw,decide_eq_false hw,Bool.not_false,Bool.true_and,zbb,zac,zbi]
 cases hwn:zak num 0 2 with
 | false=>rw [za5];exact H.stay rfl
 | true =>
 obtain ⟨h2',F5,e2,q2,m2,_⟩:=puts h Gs 0 [.int .i64 num] [.int .i64 num,v,.int .i64 w.sess[i].wait.time,.int .i64 w.sess[i].wait.place,.int .i64 w.sess[i].key] ⟨num,w.sess[i].past,w.sess[i].wait,w.sess[i].key⟩ (Mv.refl hGn) rfl ⟨v,rfl,hv⟩
 have W:=q2.at
 simp only [World.cs,List.length_set] at W
 rw [zaN,zab hi,zam,e2,zam,cond_true]
 refine ⟨_,h2',_,rfl,?_,m2,fun g=>by first | cases g | (simp at g)⟩
 simpa only [setS,Option.getD_some,List.append_nil] using W
theorem zoX {e:Event} (H:WR lo h w a1 c1 a2 c2 a3 c3 a4 c4 F1 F2 F3 F4) (hg:Good w) (ht:e.text.size≤1048576) :
  ∃ cs' h' F',evl lo 96 [.agg (w.cs a1 c1 a2 c2 a3 c3 a4 c4),.agg e.cs] h=some (.tup [.agg cs',.bool (zg8 w e).isSome],h')∧WAt lo h' cs' (doW w e) F'∧Mv h (F1++(F2++(F3++F4))) h' F'∧((zg8 w e)=none→cs'=w.cs a1 c1 a2 c2 a3 c3 a4 c4):=by
 have hc:=znC H hg ht
 have hp:=zoW (e:=e) H hg
 have hn:=zr8 (e:=e) H hg
 obtain ⟨kind,at',num,key,text,gone⟩:=e
 unfold doW
 suffices hk:∃ cs' h' F',_=some (V.tup [.agg cs',.bool (zg8 w ⟨kind,at',num,key,text,gone⟩).isSome],h')∧WAt lo h' cs' ((zg8 w ⟨kind,at',num,key,text,gone⟩).getD w) F'∧Mv h (F1++(F2++(F3++F4))) h' F'∧((zg8 w ⟨kind,at',num,key,text,gone⟩)=none→cs'=w.cs a1 c1 a2 c2 a3 c3 a4 c4) from by
  obtain ⟨cs',h',F',e,hr⟩:=hk
  exact ⟨cs',h',F',zri e,hr⟩
 rw [zbb,zac,zbi]
 unfold zg8
 cases h1:zak kind 1 5 with
 | true=>rw [zaN,cond_true];exact zoN hc
 | false =>
 rw [za5,cond_false,zbb,zac,zbi]
 cases h2:zak kind 6 9 with
 | true=>rw [zaN,cond_true];exact zoN hp
 | false =>
 rw [za5,cond_false,zbb,zac,zbi]
 unfold zv5 at hn
 cases h3:kind==10 with
 | true =>
  have h4:zak kind 10 13=true:=by rw [beq_iff_eq] at h3;subst h3;rfl
  simp only [h3,cond_true] at hn
  rw [h4,zaN,cond_true];exact zoN hn
 | false =>
  simp only [h3,cond_false] at hn
  rw [cond_false]
  cases h4:zak kind 11 13 with
  | true =>
   have h5:zak kind 10 13=true:=by simp [zak] at h4 ⊢;omega
   rw [h5,zaN,cond_true];exact zoN hn
  | false =>
   have h5:zak kind 10 13=false:=by
    rw [beq_eq_false_iff_ne] at h3
    simp [zak] at h4 ⊢;omega
   rw [h5,za5];exact H.stay rfl
end
end Go.Proofs.YthdfojchihooeaaGreat
namespace Go.Proofs.YthdfojchihooeaaGreat
open Go T


set_option maxRecDepth 100000
def ztL (m:Nat) (n:Nat):Place:=⟨(m:Int),0,List.replicate n ⟨zg3,[]⟩,[],[[],[],[]],false⟩
def zxT (i:Nat):Sess:=⟨((i % 3:Nat):Int),zpa,⟨0,0⟩,0⟩
def zqf (n s:Nat):World:=⟨(List.range 3).map fun i=>ztL i n,(List.range s).map zxT,[],[]⟩
theorem zwD {m n:Nat} (h1:1≤n) (h4:n≤4) (hm:m≤2):zan (ztL m n)=true:=by
 have hc:∀ n:Fin 5,1≤n.val→∀ m:Fin 3,zan (ztL m.val n.val)=true:=by decide +kernel
 exact hc ⟨n,by omega⟩ h1 ⟨m,by omega⟩
theorem ztK {m n:Nat} (h1:1≤n) (h4:n≤4) (hm:m≤2):Roomy (ztL m n):=by
 have hz:∀ v,inCh (ztL m n).chain v→v.tag.time=0:=fun v ⟨x,hx,hv⟩=>by
  have hx:=(List.mem_replicate.1 hx).2
  subst hx
  rcases hv with hv | hv
  ·have:∀ v∈zg3,v.tag.time=0:=by simp [zg3,zvX]
   exact this v hv
  ·simp at hv
 refine ⟨⟨[],by simp,by simp [ztL],fun v hv ht=>by have:=hz v hv;omega⟩,fun v hv ht=>?_⟩
 have hpos:0<(ztL m n).chain.length:=by show 0<(List.replicate _ _).length;rw [List.length_replicate];omega
 have hl:=zfD hpos
 rw [hl] at hv
 have:=hz v ⟨_,List.getElem_mem (by omega),.inl hv⟩
 omega
theorem zwC {i:Nat}:zf7 (zxT i)=true:=by
 have hc:∀ m:Fin 3,zf7 ⟨((m.val:Nat):Int),zpa,⟨0,0⟩,0⟩=true:=by decide +kernel
 exact hc ⟨i % 3,Nat.mod_lt _ (by decide)⟩
theorem zpd {n s:Nat} (h1:1≤n) (h4:n≤4) (hs:s≤4):Good (zqf n s):=by
 have hp:∀ (i:Nat) (p:Place),(zqf n s).places[i]?=some p→i<3∧p=ztL i n:=fun i p hp=>by
  simp only [zqf,List.getElem?_map,Option.map_eq_some_iff] at hp
  obtain ⟨j,hj,rfl⟩:=hp
  obtain ⟨hi,rfl⟩:=List.getElem?_eq_some_iff.1 hj
  rw [List.length_range] at hi
  exact ⟨hi,by rw [List.getElem_range]⟩
 refine ⟨⟨by simp [zqf],by simp [zqf,hs],by simp [zqf],by simp [zqf],fun i p h=>?_,fun x hx=>?_,by simp [zqf],by simp [zqf],fun i p k g h hg=>?_⟩,fun p h=>?_⟩
 ·obtain ⟨hi,rfl⟩:=hp i p h
  exact ⟨rfl,zwD h1 h4 (by omega)⟩
 ·simp only [zqf,List.mem_map] at hx
  obtain ⟨i,_,rfl⟩:=hx
  exact zwC
 ·obtain ⟨hi,rfl⟩:=hp i p h
  refine ⟨zhd (zqf n s).places k,?_⟩
  have:g = []:=by
   have:(ztL i n).got=List.replicate 3 []:=rfl
   rw [this,List.getElem?_replicate] at hg
   split at hg
   ·injection hg with hg;exact hg.symm
   ·cases hg
  rw [this];rfl
 ·obtain ⟨i,hi⟩:=List.mem_iff_getElem?.1 h
  obtain ⟨h3,rfl⟩:=hp i p hi
  exact ztK h1 h4 (by omega)
section
variable {lo:Nat}{h h':Heap}{w:World}{a1 a2 a3 a4 a:Option (Nat×Nat)}{c1 c2 c3 c4 c:Option Nat}{F F' F1 F2 F3 F4:List Nat}
theorem WR.of {cs:List V} (hw:zrZ false h cs w F) (hnd:F.Nodup) (hge:∀ y∈F,lo≤y) (hl:lo≤h.length):∃ s1 s2 s3 s4 a1 c1 a2 c2 a3 c3 a4 c4 F1 F2 F3 F4,cs = [s1,s2,s3,s4]∧F=F1++(F2++(F3++F4)) ∧
  (∀ {T:Type} (K:Option (Nat×Nat)→Nat→Option Nat→Option T),eS 6 s1 K=K a1 w.places.length c1)∧(∀ {T:Type} (K:Option (Nat×Nat)→Nat→Option Nat→Option T),eS 5 s2 K=K a2 w.sess.length c2) ∧
  (∀ {T:Type} (K:Option (Nat×Nat)→Nat→Option Nat→Option T),eS 9 s3 K=K a3 w.net.length c3)∧(∀ {T:Type} (K:Option (Nat×Nat)→Nat→Option Nat→Option T),eS 5 s4 K=K a4 w.hist.length c4)∧WR lo h w a1 c1 a2 c2 a3 c3 a4 c4 F1 F2 F3 F4:=by
 obtain ⟨s1,s2,s3,s4,F1,F2,F3,F4,rfl,rfl,r1,r2,r3,r4⟩:=hw
 obtain ⟨a1,c1,e1,r1⟩:=r1.form
 obtain ⟨a2,c2,e2,r2⟩:=r2.form
 obtain ⟨a3,c3,e3,r3⟩:=r3.form
 obtain ⟨a4,c4,e4,r4⟩:=r4.form
 exact ⟨s1,s2,s3,s4,a1,c1,a2,c2,a3,c3,a4,c4,F1,F2,F3,F4,rfl,rfl,e1,e2,e3,e4,r1,r2,r3,r4,hnd,hge,hl⟩
theorem zsb {m n:Nat} (h1:1≤n) (h4:n≤4) :
  ∃ raw b1 d1 b3 d3 h' F',evl lo 351 [.int .i64 (m:Nat),.int .i64 (n:Nat)] h=some (.agg raw,h')∧raw = [.int .i64 (m:Nat),.int .i64 0,.sl 2 b1 n d1,.sl 0 none 0 (some 0),.sl 1 b3 3 d3,.bool false] ∧
   RPlace false h' [.int .i64 (m:Nat),.int .i64 0,.sl 2 b1 n d1,.sl 6 none 0 (some 0),.sl 1 b3 3 d3,.bool false] (ztL m n) F'∧Mv h [] h' F':=by
 obtain ⟨v,h2,F2,e2,r2,m2⟩:=ziA (lo:=h.length) (h:=h) h1 h4 (Nat.le_refl _)
 obtain ⟨b1,d1,es,r2⟩:=r2.form
 rw [List.length_replicate] at es r2
 have mx:Mv h2 [] (h2 ++ [.rows 1 72 false [[.sl 0 none 0 (some 0)],[.sl 0 none 0 (some 0)],[.sl 0 none 0 (some 0)]]]) [h2.length]:=Mv.last
 have m3:=m2.join mx (rnodes_ok.bd _ _ _ _ r2)
 refine ⟨_,b1,d1,some (h2.length,0),some 3,_,F2 ++ [h2.length],zpZ ?_,rfl,⟨_,_,_,F2,[],[h2.length],rfl,rfl,mx.keep0 rnodes_ok r2,Sli.nil,?_⟩,m3⟩
 ·rw [e2,zac,zbx,zad,es,zao]
 ·refine ⟨1,some (h2.length,0),some 3,rfl,rfl,[[.sl 0 none 0 (some 0)],[.sl 0 none 0 (some 0)],[.sl 0 none 0 (some 0)]],[[],[],[]],by simp,Nat.le_refl 3,fun k hk=>by injection hk with hk;subst hk;exact ⟨Nat.le_refl 3,Nat.le_refl 3⟩,(fun hk=>by cases hk),?_,rfl⟩
  exact ⟨Sli.nil,Sli.nil,Sli.nil,trivial⟩
end
end Go.Proofs.YthdfojchihooeaaGreat
namespace Go.Proofs.YthdfojchihooeaaGreat
open Go T


set_option maxRecDepth 100000
section
variable {lo:Nat}{h h':Heap}{w:World}{a1 a2 a3 a4 a:Option (Nat×Nat)}{c1 c2 c3 c4 c:Option Nat}{F F' F1 F2 F3 F4:List Nat}
theorem zwS {T:Type} (K:Option (Nat×Nat)→Nat→Option Nat→Option T):eS 6 (.sl 0 none 0 (some 0)) K=K none 0 (some 0):=rfl
theorem zmM {n s:Nat} (h1:1≤n) (h4:n≤4) (hs:s≤1000) (hl:lo≤h.length):∃ cs h' F',evl lo 321 [.int .i64 (n:Nat),.int .i64 (s:Nat)] h=some (.agg cs,h')∧zrZ false h' cs (zqf n s) F'∧Mv h [] h' F':=by
 obtain ⟨q1,x1,y1,h1',F1,e1,r1,m1⟩:=zcR (El:=RPlace false) rplace_ok (h:=h) (l:=List.range 3) (f:=fun i=>ztL i n) (lo:=lo) (R:=6) (e:=89) (bytes:=96) hl (by decide) (by decide)
  (fun i q a n1 c hh=>zcH lo (n:Nat) (s:Nat) (i:Nat) 0 none 0 (some 0) 0 none 0 (some 0) 0 none 0 (some 0) 0 none 0 (some 0) q a n1 c 0 none 0 (some 0) 0 none 0 (some 0) 0 none 0 (some 0) hh) (fun i hi q a n1 c hh hm=>by
   rw [List.length_range] at hi
   obtain ⟨raw,b1,d1,b3,d3,h2,F2,e2,rfl,r2,m2⟩:=zsb (lo:=lo) (h:=hh) (m:=i) h1 h4
   refine ⟨[.int .i64 (i:Nat),.int .i64 0,.sl 2 b1 n d1,.sl 6 none 0 (some 0),.sl 1 b3 3 d3,.bool false],F2,h2 ++ [.rows 6 89 false [[.int .i64 (i:Nat),.int .i64 0,.sl 2 b1 n d1,.sl 6 none 0 (some 0),.sl 1 b3 3 d3,.bool false]]],by rw [List.getElem_range];exact Mv.snoc.keep0 rplace_ok r2,m2.trans (Mv.snoc' m2.nd),?_⟩
   rw [zcH.e,zal (by omega),e2,zac,zbx,zad,zaa,zad,zaa,zad,zah,zad,zwS,zad,zah,zad,zaS,zao,zaT,zap (by omega)])
 obtain ⟨q2,x2,y2,h2',F2,e2,r2,m2⟩:=zcR (El:=RSess false) zhC (h:=h1') (l:=List.range s) (f:=zxT) (lo:=lo) (R:=5) (e:=115) (bytes:=56) (Nat.le_trans hl m1.le) (by decide) (by rw [List.length_range];omega)
  (fun i q a n1 c hh=>zcG lo (s:Nat) (i:Nat) 0 none 0 (some 0) 0 none 0 (some 0) 0 none 0 (some 0) 0 none 0 (some 0) q1 x1 3 y1 q a n1 c 0 none 0 (some 0) 0 none 0 (some 0) hh) (fun i hi q a n1 c hh hm=>by
   rw [List.length_range] at hi
   obtain ⟨h2,q3,e3,t3,m3⟩:=zh9 (lo:=lo) (h:=hh)
   have ht:((i:Int).tmod 3)=((i % 3:Nat):Int):=(Int.ofNat_tmod i 3).symm
   refine ⟨[.int .i64 ((i % 3:Nat):Int),.sl 2 (some (q3,0)) 4 (some 4),.int .i64 0,.int .i64 0,.int .i64 0],[q3],h2 ++ [.rows 5 115 false [[.int .i64 ((i % 3:Nat):Int),.sl 2 (some (q3,0)) 4 (some 4),.int .i64 0,.int .i64 0,.int .i64 0]]],by rw [List.getElem_range];exact ⟨_,rfl,Mv.snoc.keep0 rtags_ok t3⟩,m3.trans (Mv.snoc' m3.nd),?_⟩
   rw [zcG.e,zal (by omega),e3,zac,zbx,zad,zah,zao,ht,zaT,zap (by omega)])
 rw [List.length_range] at e1 r1 e2 r2
 have m3:=m1.join m2 ((Sli.ok rplace_ok).bd _ _ _ _ r1)
 refine ⟨[.sl q1 x1 3 y1,.sl q2 x2 s y2,.sl 0 none 0 (some 0),.sl 0 none 0 (some 0)],h2',F1++(F2++([] ++ [])),zpV ?_,⟨_,_,_,_,F1,F2,[],[],rfl,rfl,m2.keep0 rplaces_ok r1,r2,Sli.nil,Sli.nil⟩,by simpa using m3⟩
 refine e1.trans ?_
 rw [zcH.e,zaj (by omega)]
 refine e2.trans ?_
 rw [zcG.e,zaj (by omega)]
theorem zsP {l:List Done} (hl:lo≤h.length) (hn:l.length≤1048576):∃ a' c' h' F',(∀ {T:Type} (K:V→Heap→Option T),app lo 179 5 40 (.sl 5 (some (h.length,0)) 0 (some 0)) (l.map Done.cs) (h ++ [.rows 5 179 false []]) K=K (.sl 5 a' l.length c') h') ∧
  RDones false h' [.sl 5 a' l.length c'] l F'∧Mv h [] h' F':=by
 have hfl:(l.map fun _=>([]:List Nat)).flatten = []:=by simp
 obtain ⟨a',c',h',F',e,r,l1,fr,sub,nd⟩:=zhL (h:=h) (lo:=lo) (El:=flat Done.cs) (R:=5) (e:=179) (bytes:=40) zcE (rows:=l.map Done.cs) (l:=l) (Fs:=l.map fun _ => []) EAll.flat (by rw [hfl];simp) (by rw [hfl];simp) (by decide) (by omega) hl
 refine ⟨a',c',h',F',e,r,by omega,fun y hy _=>fr y hy,nd,fun y hy=>?_⟩
 rcases sub y hy with g | g
 ·rw [hfl] at g;simp at g
 ·exact .inr g
theorem zqr (r1:RPlaces false h [.sl 6 a1 w.places.length c1] w.places F1) (r2:RSesss false h [.sl 5 a2 w.sess.length c2] w.sess F2) (r3:RFrames false h [.sl 9 a3 w.net.length c3] w.net F3) (r4:RDones false h [.sl 5 a4 w.hist.length c4] w.hist F4) (hn:zti w) (hl:lo≤h.length) :
  ∃ cs h' F',evl lo 97 [.agg (w.cs a1 c1 a2 c2 a3 c3 a4 c4)] h=some (.agg cs,h')∧zrZ false h' cs w F'∧Mv h [] h' F':=by
 obtain ⟨⟨n1,n1'⟩,⟨n2,n2'⟩,⟨n3,n3'⟩,n4⟩:=hn
 obtain ⟨x4,y4,h4,K4,e4,t4,m4⟩:=zsP (lo:=lo) (h:=h) (l:=w.hist) hl n4
 obtain ⟨q1,x1,y1,h5,K1,e1,t1,m1⟩:=zcR (El:=RPlace false) rplace_ok (h:=h4) (l:=w.places) (f:=id) (lo:=lo) (R:=6) (e:=89) (bytes:=96) (Nat.le_trans hl m4.le) (by decide) (by omega)
  (fun i q a n c hh=>zcg lo (i:Nat) a1 w.places.length c1 a2 w.sess.length c2 a3 w.net.length c3 a4 w.hist.length c4 0 none 0 (some 0) 0 none 0 (some 0) 0 none 0 (some 0) 0 none 0 (some 0) q a n c 0 none 0 (some 0) 0 none 0 (some 0) x4 w.hist.length y4 hh) (fun i hi q a n c hh hm=>by
   obtain ⟨o,s1,s2,s3,b1,d1,b2,d2,b3,d3,H1,H2,H3,ha,ho,_,_,_,_,es1,es2,es3,p1,p2,p3,_⟩:=((m4.drop.trans hm).keep0 rplaces_ok r1).get hi
   obtain ⟨raw,z1,t1,z2,t2,z3,t3,h6,K6,e6,n6,r6,m6⟩:=zjS (lo:=lo) p1 p2 p3 (Nat.le_trans (Nat.le_trans hl m4.le) hm.le) (n1' _ (List.getElem_mem hi))
   obtain ⟨v1,v2,v3,_,_,_,_,_,_,rfl,k1,k2,k3,eq⟩:=n6
   obtain ⟨rfl,rfl,rfl,rfl,rfl,rfl⟩:=zwb eq
   refine ⟨w.places[i].cs z1 t1 z2 t2 z3 t3,K6,h6 ++ [.rows 6 89 false [w.places[i].cs z1 t1 z2 t2 z3 t3]],Mv.snoc.keep0 rplace_ok r6,m6.trans (Mv.snoc' m6.nd),?_⟩
   simp only [Place.cs] at e6
   rw [zcg.e,zal (by omega),zab hi,ha,zam,Int.toNat_natCast,ho,zam,zad,zaa,zad,zaa,zad,es1,zad,es2,zad,es3,zad,zaS,zao,e6,zac,zbx,zad,zaa,zad,zaa,zad,k1,zad,k2,zad,k3,zad,zaS,zao,zaT,zap (by omega),← ha])
 have l5:=Nat.le_trans (Nat.le_trans hl m4.le) m1.le
 have m41:=m4.drop.trans m1.drop
 obtain ⟨q2,x2,y2,h6,K2,e2,t2,m2⟩:=zcR (El:=RSess false) zhC (h:=h5) (l:=w.sess) (f:=id) (lo:=lo) (R:=5) (e:=115) (bytes:=56) l5 (by decide) (by omega)
  (fun i q a n c hh=>zcf lo (i:Nat) a1 w.places.length c1 a2 w.sess.length c2 a3 w.net.length c3 a4 w.hist.length c4 0 none 0 (some 0) 0 none 0 (some 0) 0 none 0 (some 0) 0 none 0 (some 0) q1 x1 w.places.length y1 q a n c 0 none 0 (some 0) x4 w.hist.length y4 hh) (fun i hi q a n c hh hm=>by
   obtain ⟨o,v,b1,d1,G,ha,ho,_,_,es,hp,_⟩:=((m41.trans hm).keep0 rsesss_ok r2).get hi
   obtain ⟨z1,t1,h7,K7,e7,r7,m7⟩:=zhn (lo:=lo) (h:=hh) (l:=w.sess[i].past) (Nat.le_trans l5 hm.le) (n2' _ (List.getElem_mem hi))
   refine ⟨w.sess[i].cs z1 t1,K7,h7 ++ [.rows 5 115 false [w.sess[i].cs z1 t1]],⟨_,rfl,Mv.snoc.keep0 rtags_ok r7⟩,m7.trans (Mv.snoc' m7.nd),?_⟩
   rw [zcf.e,zal (by omega),zab hi,ha,zam,Int.toNat_natCast,ho,zam,zad,zaa,zad,es,zad,zaa,zad,zaa,zad,zaa,zao,RTags.rows (Mv.snoc.keep0 rtags_ok hp),e7,zah,zaT,zap (by omega),← ha])
 have l6:=Nat.le_trans l5 m2.le
 have m42:=m41.trans m2.drop
 obtain ⟨q3,x3,y3,h7,K3,e3,t3,m3⟩:=zcR (El:=zuP false) rframe_ok (h:=h6) (l:=w.net) (f:=id) (lo:=lo) (R:=9) (e:=173) (bytes:=96) l6 (by decide) (by omega)
  (fun i q a n c hh=>zce lo (i:Nat) a1 w.places.length c1 a2 w.sess.length c2 a3 w.net.length c3 a4 w.hist.length c4 0 none 0 (some 0) 0 none 0 (some 0) 0 none 0 (some 0) 0 none 0 (some 0) q1 x1 w.places.length y1 q2 x2 w.sess.length y2 q a n c x4 w.hist.length y4 hh) (fun i hi q a n c hh hm=>by
   obtain ⟨o,s,b1,d1,G,ha,ho,es,hp,_⟩:=((m42.trans hm).keep0 rframes_ok r3).get hi
   obtain ⟨z1,t1,h7,K7,e7,r7,m7⟩:=zcb (lo:=lo) (v:=w.net[i].ver) hp (Nat.le_trans l6 hm.le) (n3' _ (List.getElem_mem hi)).1
   refine ⟨w.net[i].cs z1 t1,K7,h7 ++ [.rows 9 173 false [w.net[i].cs z1 t1]],⟨_,rfl,_,rfl,Mv.snoc.keep0 rtags_ok r7⟩,m7.trans (Mv.snoc' m7.nd),?_⟩
   simp only [Ver.cs] at e7
   rw [zce.e,zal (by omega),zab hi,ha,zam,Int.toNat_natCast,ho,zam,zad,zaa,zad,zaa,zad,zaa,zad,zaa,zad,zaa,zad,zaa,zad,es,zad,zdl,zad,zaS,zao,e7,zac,zbx,zad,zaa,zad,zaa,zad,zaa,zad,zah,zad,zdl,zad,zaS,zao,zaT,zap (by omega),← ha])
 rw [List.map_id] at t1 t2 t3
 have bd1:=(Sli.ok rplace_ok).bd _ _ _ _ t1
 have bd2:=(Sli.ok zhC).bd _ _ _ _ t2
 have bd4:=rdones_ok.bd _ _ _ _ t4
 have j1:=m4.join m1 bd4
 have j2:=j1.join m2 (fun y hy=>by
  rcases List.mem_append.1 hy with g | g
  ·exact Nat.lt_of_lt_of_le (bd4 y g) m1.le
  ·exact bd1 y g)
 have j3:=j2.join m3 (fun y hy=>by
  rcases List.mem_append.1 hy with g | g
  ·rcases List.mem_append.1 g with g | g
   ·exact Nat.lt_of_lt_of_le (bd4 y g) (Nat.le_trans m1.le m2.le)
   ·exact Nat.lt_of_lt_of_le (bd1 y g) m2.le
  ·exact bd2 y g)
 have hperm:(K1++(K2++(K3++K4))).Perm (((K4++K1)++K2)++K3):=by
  rw [List.append_assoc,List.append_assoc]
  exact zwu
 refine ⟨_,h7,K1++(K2++(K3++K4)),zod ?_,⟨_,_,_,_,K1,K2,K3,K4,rfl,rfl,(m2.drop.trans m3.drop).keep0 rplaces_ok t1,m3.keep0 rsesss_ok t2,t3,(m1.drop.trans (m2.drop.trans m3.drop)).keep0 rdones_ok t4⟩,j3.lean (hperm.nodup_iff.2 j3.nd) fun y hy=>hperm.mem_iff.1 hy⟩
 obtain ⟨rows,Fs,k1,k2,_⟩:=(Mv.snoc (t := [.rows 5 179 false []])).keep0 rdones_ok r4 |>.rows
 rw [k1,k2.of_flat.1,e4,zah]
 refine e1.trans ?_
 rw [zcg.e,zaj (by omega)]
 refine e2.trans ?_
 rw [zcf.e,zaj (by omega)]
 refine e3.trans ?_
 rw [zce.e,zaj (by omega)]
end
end Go.Proofs.YthdfojchihooeaaGreat
namespace Go.Proofs.YthdfojchihooeaaGreat
open Go T


set_option maxRecDepth 100000
section
variable {lo:Nat}{h h':Heap}{w:World}{a1 a2 a3 a4 a:Option (Nat×Nat)}{c1 c2 c3 c4 c:Option Nat}{F F' F1 F2 F3 F4:List Nat}{b n:Nat}
theorem zsH {n2 n3 n4:Nat} (r:Rd lo h b n) (hn:n≤500000) (hp:RPlaces false h [.sl 6 a1 w.places.length c1] w.places F1) (hb:b∉F1) (h3:w.places.length=3) (hgot:∀ p∈w.places,p.got.length=3) :
  ∃ (e:Event) (h':Heap),evl lo 165 [.ptr (some (b,(0,0))),.agg [.sl 6 a1 w.places.length c1,.sl 5 a2 n2 c2,.sl 9 a3 n3 c3,.sl 5 a4 n4 c4]] h=some (.agg e.cs,h')∧e.text.size≤10∧Rd lo h' b (n+20)∧Mv h [b] h' [b]:=by
 suffices hk:∃ (e:Event) (h':Heap),_=some (V.agg e.cs,h')∧e.text.size≤10∧Rd lo h' b (n+20)∧Mv h [b] h' [b] from by
  obtain ⟨e,h',g,hr⟩:=hk
  exact ⟨e,h',zl1 g,hr⟩
 obtain ⟨at',h1,e1,g1,g1',r1,m1⟩:=pick r (by omega) 3
 obtain ⟨x,h2,e2,g2,g2',r2,m2⟩:=pick r1 (by omega) 20
 have m12:=m1.trans m2
 have h03:=g1' (by omega)
 have told:∀ (y:Int) (k:Heap),evl lo 109 [.ptr (some (b,(0,0))),.int .i64 3] h2=some (.int .i64 y,k)→0≤y→y<3→Rd lo k b (n+1+1+1)→Mv h2 [b] k [b] →
   ∃ (e:Event) (h':Heap),(cal (evl lo 109 [.ptr (some (b,(0,0))),.int .i64 3] h2) fun v_0 h_1=>eI .i64 v_0 fun n_2=>inB n_2 w.places.length (eO a1 fun o=>eO (ld h_1 o.1 (o.2+n_2.toNat) 4 1) fun o=>eC o fun o s=>eN s (eS 1 o fun o s b=>inB at' s (eO o fun o=>eO (ld h_1 o.1 (o.2+at'.toNat) 0 1) fun o=>eC o fun o s=>eN s (eS 6 o fun o o s=>some (V.agg [.int .i64 10,.int .i64 at',.int .i64 n_2,.int .i64 ((o:Nat):Int),.str ⟨⟨[]⟩⟩,.bool false],h_1))))))=some (V.agg e.cs,h')∧e.text.size≤10∧Rd lo h' b (n+20)∧Mv h [b] h' [b]:=by
  intro y k f lo1 hi1 q u
  obtain ⟨j,rfl⟩:∃ j:Nat,y=(j:Int):=⟨y.toNat,by omega⟩
  obtain ⟨i,rfl⟩:∃ i:Nat,at'=(i:Int):=⟨at'.toNat,by omega⟩
  have hj:j<w.places.length:=by omega
  have hg3:=hgot _ (List.getElem_mem hj)
  have m3:=m12.trans u
  obtain ⟨o,s1,s2,s3,b1,d1,b2,d2,b3,d3,G1,G2,G3,ha,_,_,_,_,ho,_,_,es3,_,_,p3,_⟩:=(m3.keep rplaces_ok hp fun y hy hm=>hb (by rw [List.mem_singleton] at hm;exact hm ▸ hy)).get hj
  obtain ⟨o',row,G,ha',ho',hel,_⟩:=p3.read (show i<w.places[j].got.length by omega)
  obtain ⟨v,rfl⟩:∃ v,row = [v]:=by obtain ⟨R',a',c',e,_⟩:=id hel;exact ⟨_,e⟩
  obtain ⟨b4,d4,es4,_⟩:=hel.form
  have ld4:ld k o'.1 (o'.2+i) 0 1=some [v]:=by rw [ho'];rfl
  rw [f,zac,zaa,zab hj,ha,zam,Int.toNat_natCast,ho,zam,zad,zao,es3,zab (by omega),ha',zam,Int.toNat_natCast,ld4,zam,zad,zao,es4]
  exact ⟨⟨10,(i:Nat),(j:Nat),((w.places[j].got[i]'(by omega)).length:Nat),⟨⟨[]⟩⟩,false⟩,k,rfl,Nat.zero_le _,q.up (by omega),m3⟩
 rw [e1,zac,zaa,e2,zac,zaa]
 cases x==(0:Int) with
 | true =>
  rw [zaN]
  obtain ⟨y1,k1,f1,lo1,hi1,q1,u1⟩:=pick r2 (by omega) 4
  obtain ⟨y2,k2,f2,lo2,hi2,q2,u2⟩:=pick q1 (by omega) 4
  obtain ⟨y3,k3,f3,g3,q3,u3⟩:=zhN q2 (by omega)
  rw [f1,zac,zaa,f2,zac,zaa,f3,zac,zdl]
  exact ⟨⟨1,y1,0,y2,y3,false⟩,k3,rfl,Nat.le_trans (zdf g3) (by decide),q3.up (by omega),((((m1.trans m2).trans u1).trans u2).trans u3)⟩
 | false =>
 rw [za5]
 cases x==(1:Int) with
 | true =>
  rw [zaN]
  obtain ⟨y1,k1,f1,lo1,hi1,q1,u1⟩:=pick r2 (by omega) 4
  obtain ⟨y2,k2,f2,lo2,hi2,q2,u2⟩:=pick q1 (by omega) 4
  obtain ⟨y3,k3,f3,g3,q3,u3⟩:=zhN q2 (by omega)
  rw [f1,zac,zaa,f2,zac,zaa,f3,zac,zdl]
  exact ⟨⟨1,y1,0,y2,y3,false⟩,k3,rfl,Nat.le_trans (zdf g3) (by decide),q3.up (by omega),((((m1.trans m2).trans u1).trans u2).trans u3)⟩
 | false =>
 rw [za5]
 cases x==(2:Int) with
 | true =>
  rw [zaN]
  obtain ⟨y1,k1,f1,lo1,hi1,q1,u1⟩:=pick r2 (by omega) 4
  obtain ⟨y2,k2,f2,lo2,hi2,q2,u2⟩:=pick q1 (by omega) 4
  obtain ⟨y3,k3,f3,g3,q3,u3⟩:=zhN q2 (by omega)
  rw [f1,zac,zaa,f2,zac,zaa,f3,zac,zdl]
  exact ⟨⟨1,y1,0,y2,y3,false⟩,k3,rfl,Nat.le_trans (zdf g3) (by decide),q3.up (by omega),((((m1.trans m2).trans u1).trans u2).trans u3)⟩
 | false =>
 rw [za5]
 cases x==(3:Int) with
 | true =>
  rw [zaN]
  obtain ⟨y1,k1,f1,lo1,hi1,q1,u1⟩:=pick r2 (by omega) 4
  obtain ⟨y2,k2,f2,lo2,hi2,q2,u2⟩:=pick q1 (by omega) 4
  rw [f1,zac,zaa,f2,zac,zaa]
  exact ⟨⟨1,y1,0,y2,⟨⟨[]⟩⟩,true⟩,k2,rfl,Nat.zero_le _,q2.up (by omega),(((m1.trans m2).trans u1).trans u2)⟩
 | false =>
 rw [za5]
 cases x==(4:Int) with
 | true =>
  rw [zaN]
  obtain ⟨y1,k1,f1,lo1,hi1,q1,u1⟩:=pick r2 (by omega) 4
  rw [f1,zac,zaa]
  exact ⟨⟨2,y1,0,0,⟨⟨[]⟩⟩,false⟩,k1,rfl,Nat.zero_le _,q1.up (by omega),((m1.trans m2).trans u1)⟩
 | false =>
 rw [za5]
 cases x==(5:Int) with
 | true =>
  rw [zaN]
  obtain ⟨y1,k1,f1,lo1,hi1,q1,u1⟩:=pick r2 (by omega) 4
  rw [f1,zac,zaa]
  exact ⟨⟨2,y1,0,0,⟨⟨[]⟩⟩,false⟩,k1,rfl,Nat.zero_le _,q1.up (by omega),((m1.trans m2).trans u1)⟩
 | false =>
 rw [za5]
 cases x==(6:Int) with
 | true =>
  rw [zaN]
  obtain ⟨y1,k1,f1,lo1,hi1,q1,u1⟩:=pick r2 (by omega) 4
  rw [f1,zac,zaa]
  exact ⟨⟨2,y1,0,0,⟨⟨[]⟩⟩,false⟩,k1,rfl,Nat.zero_le _,q1.up (by omega),((m1.trans m2).trans u1)⟩
 | false =>
 rw [za5]
 cases x==(7:Int) with
 | true =>
  rw [zaN]
  obtain ⟨y1,k1,f1,lo1,hi1,q1,u1⟩:=pick r2 (by omega) 4
  obtain ⟨y2,k2,f2,lo2,hi2,q2,u2⟩:=pick q1 (by omega) 4
  obtain ⟨y3,k3,f3,lo3,hi3,q3,u3⟩:=pick q2 (by omega) 4
  rw [f1,zac,zaa,f2,zac,zaa,f3,zac,zaa]
  exact ⟨⟨3,y1,y2,y3,⟨⟨[]⟩⟩,false⟩,k3,rfl,Nat.zero_le _,q3.up (by omega),((((m1.trans m2).trans u1).trans u2).trans u3)⟩
 | false =>
 rw [za5]
 cases x==(8:Int) with
 | true =>
  rw [zaN]
  obtain ⟨y1,k1,f1,lo1,hi1,q1,u1⟩:=pick r2 (by omega) 4
  obtain ⟨y2,k2,f2,lo2,hi2,q2,u2⟩:=pick q1 (by omega) 4
  obtain ⟨y3,k3,f3,lo3,hi3,q3,u3⟩:=pick q2 (by omega) 4
  rw [f1,zac,zaa,f2,zac,zaa,f3,zac,zaa]
  exact ⟨⟨3,y1,y2,y3,⟨⟨[]⟩⟩,false⟩,k3,rfl,Nat.zero_le _,q3.up (by omega),((((m1.trans m2).trans u1).trans u2).trans u3)⟩
 | false =>
 rw [za5]
 cases x==(9:Int) with
 | true =>
  rw [zaN]
  obtain ⟨y1,k1,f1,lo1,hi1,q1,u1⟩:=pick r2 (by omega) 4
  obtain ⟨y2,k2,f2,lo2,hi2,q2,u2⟩:=pick q1 (by omega) 4
  obtain ⟨y3,k3,f3,lo3,hi3,q3,u3⟩:=pick q2 (by omega) 4
  rw [f1,zac,zaa,f2,zac,zaa,f3,zac,zaa]
  exact ⟨⟨3,y1,y2,y3,⟨⟨[]⟩⟩,false⟩,k3,rfl,Nat.zero_le _,q3.up (by omega),((((m1.trans m2).trans u1).trans u2).trans u3)⟩
 | false =>
 rw [za5]
 cases x==(10:Int) with
 | true =>
  rw [zaN]
  obtain ⟨y1,k1,f1,g1,q1,u1⟩:=zd0 (e:=3) [4,5] (rows := [[.int .i64 4],[.int .i64 5]]) (len:=2) (cc:=some 2) r2 (by omega) rfl rfl (by decide)
  obtain ⟨y2,k2,f2,lo2,hi2,q2,u2⟩:=pick q1 (by omega) 4
  obtain ⟨y3,k3,f3,lo3,hi3,q3,u3⟩:=pick q2 (by omega) 3
  rw [f1,zac,zaa,f2,zac,zaa,f3,zac,zaa]
  exact ⟨⟨y1,y2,y3,0,⟨⟨[]⟩⟩,false⟩,k3,rfl,Nat.zero_le _,q3.up (by omega),((((m1.trans m2).trans u1).trans u2).trans u3)⟩
 | false =>
 rw [za5]
 cases x==(11:Int) with
 | true =>
  rw [zaN]
  obtain ⟨y1,k1,f1,g1,q1,u1⟩:=zd0 (e:=3) [0,0,1,2] (rows := [[.int .i64 0],[.int .i64 0],[.int .i64 1],[.int .i64 2]]) (len:=4) (cc:=some 4) r2 (by omega) rfl rfl (by decide)
  rw [f1,zac,zaa]
  exact ⟨⟨6,at',y1,0,⟨⟨[]⟩⟩,false⟩,k1,rfl,Nat.zero_le _,q1.up (by omega),((m1.trans m2).trans u1)⟩
 | false =>
 rw [za5]
 cases x==(12:Int) with
 | true =>
  rw [zaN]
  obtain ⟨y1,k1,f1,g1,q1,u1⟩:=zd0 (e:=3) [0,0,1,2] (rows := [[.int .i64 0],[.int .i64 0],[.int .i64 1],[.int .i64 2]]) (len:=4) (cc:=some 4) r2 (by omega) rfl rfl (by decide)
  rw [f1,zac,zaa]
  exact ⟨⟨6,at',y1,0,⟨⟨[]⟩⟩,false⟩,k1,rfl,Nat.zero_le _,q1.up (by omega),((m1.trans m2).trans u1)⟩
 | false =>
 rw [za5]
 cases x==(13:Int) with
 | true =>
  rw [zaN]
  obtain ⟨y1,k1,f1,g1,q1,u1⟩:=zd0 (e:=3) [0,0,1,2] (rows := [[.int .i64 0],[.int .i64 0],[.int .i64 1],[.int .i64 2]]) (len:=4) (cc:=some 4) r2 (by omega) rfl rfl (by decide)
  rw [f1,zac,zaa]
  exact ⟨⟨6,at',y1,0,⟨⟨[]⟩⟩,false⟩,k1,rfl,Nat.zero_le _,q1.up (by omega),((m1.trans m2).trans u1)⟩
 | false =>
 rw [za5]
 cases x==(14:Int) with
 | true =>
  rw [zaN]
  obtain ⟨y1,k1,f1,g1,q1,u1⟩:=zd0 (e:=3) [7,8] (rows := [[.int .i64 7],[.int .i64 8]]) (len:=2) (cc:=some 2) r2 (by omega) rfl rfl (by decide)
  obtain ⟨y2,k2,f2,lo2,hi2,q2,u2⟩:=pick q1 (by omega) 4
  rw [f1,zac,zaa,f2,zac,zaa]
  exact ⟨⟨y1,at',y2,0,⟨⟨[]⟩⟩,false⟩,k2,rfl,Nat.zero_le _,q2.up (by omega),(((m1.trans m2).trans u1).trans u2)⟩
 | false =>
 rw [za5]
 cases x==(15:Int) with
 | true =>
  rw [zaN]
  obtain ⟨y1,k1,f1,lo1,hi1,q1,u1⟩:=pick r2 (by omega) 3
  rw [f1,zac,zaa]
  exact ⟨⟨9,at',y1,0,⟨⟨[]⟩⟩,false⟩,k1,rfl,Nat.zero_le _,q1.up (by omega),((m1.trans m2).trans u1)⟩
 | false =>
 rw [za5]
 cases x==(16:Int) with
 | true =>
  rw [zaN]
  obtain ⟨y1,k1,f1,lo1,hi1,q1,u1⟩:=pick r2 (by omega) 3
  rw [f1,zac,zaa]
  exact ⟨⟨9,at',y1,0,⟨⟨[]⟩⟩,false⟩,k1,rfl,Nat.zero_le _,q1.up (by omega),((m1.trans m2).trans u1)⟩
 | false =>
 rw [za5]
 cases x==(17:Int) with
 | true =>
  rw [zaN]
  obtain ⟨y1,k1,f1,lo1,hi1,q1,u1⟩:=pick r2 (by omega) 3
  exact told y1 k1 f1 lo1 (hi1 (by omega)) q1 u1
 | false =>
 rw [za5]
 cases x==(18:Int) with
 | true =>
  rw [zaN]
  obtain ⟨y1,k1,f1,lo1,hi1,q1,u1⟩:=pick r2 (by omega) 3
  exact told y1 k1 f1 lo1 (hi1 (by omega)) q1 u1
 | false =>
 rw [za5]
 obtain ⟨y1,k1,f1,g1,q1,u1⟩:=zd0 (e:=3) [11,11,11,12,13,0,14] (rows := [[.int .i64 11],[.int .i64 11],[.int .i64 11],[.int .i64 12],[.int .i64 13],[.int .i64 0],[.int .i64 14]]) (len:=7) (cc:=some 7) r2 (by omega) rfl rfl (by decide)
 obtain ⟨y2,k2,f2,lo2,hi2,q2,u2⟩:=pick q1 (by omega) 3
 rw [f1,zac,zaa,f2,zac,zaa]
 exact ⟨⟨y1,y2,0,0,⟨⟨[]⟩⟩,false⟩,k2,rfl,Nat.zero_le _,q2.up (by omega),(((m1.trans m2).trans u1).trans u2)⟩
end
end Go.Proofs.YthdfojchihooeaaGreat
namespace Go.Proofs.YthdfojchihooeaaGreat
open Go T


set_option maxRecDepth 100000
abbrev REvents:Rel (List Event):=Sli false 6 48 (flat Event.cs)
theorem revents_ok:REvents.Ok:=Sli.ok zcE
section
variable {lo:Nat}{h h':Heap}{w:World}{a1 a2 a3 a4 a:Option (Nat×Nat)}{c1 c2 c3 c4 c:Option Nat}{E F F' F1 F2 F3 F4:List Nat}{b n:Nat}
theorem nd3 {E F:List Nat} (hn:(b ::(E++F)).Nodup):b∉E∧b∉F∧E.Nodup∧F.Nodup∧∀ y∈E,y∉F:=by
 rw [List.nodup_cons,List.mem_append,List.nodup_append] at hn
 simp only [not_or] at hn
 exact ⟨hn.1.1,hn.1.2,hn.2.1,hn.2.2.1,fun y hy hm=>hn.2.2.2 y hy y hm rfl⟩
theorem zxp {E F:List Nat}:(b ::(E++F)).Perm (E++(b :: F)):=List.perm_middle.symm
theorem zxo {E F:List Nat}:(b ::(E++F)).Perm (F++(b :: E)):=by
 rw [show b ::(E++F)=(b :: E)++F from rfl]
 exact List.perm_append_comm
theorem znh {e:Event} (h:e.text.size≤10):e.text.size≤1048576:=by omega
theorem zq2 {most:Int} (hmost:most≤1000):∀ (r m:Nat) (hh:Heap) (w:World) (l:List Event) (a:Option (Nat×Nat)) (c:Option Nat) (E:List Nat) (x1:Option (Nat×Nat)) (y1:Option Nat) (x2:Option (Nat×Nat)) (y2:Option Nat) (x3:Option (Nat×Nat)) (y3:Option Nat) (x4:Option (Nat×Nat)) (y4:Option Nat) (K1 K2 K3 K4:List Nat) (n:Nat),
  (m:Int)+r=most→r≤120→n+21*r≤500000→Rd lo hh b n→REvents hh [.sl 6 a l.length c] l E→(∀ e∈l,e.text.size≤10)→l.length+r≤1000→WR lo hh w x1 y1 x2 y2 x3 y3 x4 y4 K1 K2 K3 K4→Good w→(b ::(E++(K1++(K2++(K3++K4))))).Nodup→(∀ y∈E,lo≤y) →
  ∃ (l':List Event) (a':Option (Nat×Nat)) (c':Option Nat) (h':Heap) (E':List Nat),zaR lo b 0 0 most a l.length c (m:Nat) x1 w.places.length y1 x2 w.sess.length y2 x3 w.net.length y3 x4 w.hist.length y4 hh=some (.sl 6 a' l'.length c',h')∧REvents h' [.sl 6 a' l'.length c'] l' E'∧(∀ e∈l',e.text.size≤10)∧l'.length≤1000 ∧
   Rd lo h' b (n+21*r)∧Mv hh (b ::(E++(K1++(K2++(K3++K4))))) h' (b :: E'):=by
 intro r
 induction r with
 | zero =>
  intro m hh w l a c E x1 y1 x2 y2 x3 y3 x4 y4 K1 K2 K3 K4 n hm _ _ r0 re ht hl H hg hnd hE
  refine ⟨l,a,c,hh,E,?_,re,ht,by omega,r0,(Mv.refl hnd).lean ?_ fun y hy=>?_⟩
  ·rw [zaR.e,zaj (by omega)]
  ·obtain ⟨k1,k2,k3,k4,k5⟩:=nd3 hnd
   exact List.nodup_cons.2 ⟨k1,k3⟩
  ·rw [List.mem_cons] at hy ⊢
   exact hy.imp id fun g=>List.mem_append_left _ g
 | succ r ih =>
  intro m hh w l a c E x1 y1 x2 y2 x3 y3 x4 y4 K1 K2 K3 K4 n hm hr hn r0 re ht hl H hg hnd hE
  obtain ⟨k1,k2,k3,k4,k5⟩:=nd3 hnd
  have hEb:=revents_ok.bd _ _ _ _ re
  have hFb:=H.bd
  obtain ⟨e,h1,e1,et,r1,m1⟩:=zsH (a2:=x2) (c2:=y2) (a3:=x3) (c3:=y3) (a4:=x4) (c4:=y4) (n2:=w.sess.length) (n3:=w.net.length) (n4:=w.hist.length) r0 (by omega) H.r1 (fun hm=>k2 (by simp [hm])) hg.ok.p3 (fun p hp=>by
   obtain ⟨i,hi⟩:=List.mem_iff_getElem?.1 hp
   exact (zaK (hg.ok.place i p hi).2).2.2.1)
  have notb:∀ {G:List Nat},(∀ y∈G,y∈K1++(K2++(K3++K4)))→∀ y∈G,y ∉ [b]:=fun hG y hy hm=>by
   rw [List.mem_singleton] at hm
   exact k2 (hm ▸ hG y hy)
  have H1:WR lo h1 w x1 y1 x2 y2 x3 y3 x4 y4 K1 K2 K3 K4:=⟨m1.keep rplaces_ok H.r1 (notb fun y hy=>by simp [hy]),m1.keep rsesss_ok H.r2 (notb fun y hy=>by simp [hy]),m1.keep rframes_ok H.r3 (notb fun y hy=>by simp [hy]),m1.keep rdones_ok H.r4 (notb fun y hy=>by simp [hy]),H.nd,H.ge,Nat.le_trans H.hl m1.le⟩
  have re1:=m1.keep revents_ok re fun y hy hm=>k1 (by rw [List.mem_singleton] at hm;exact hm ▸ hy)
  have M1:Mv hh (b ::(E++(K1++(K2++(K3++K4))))) h1 (b ::(E++(K1++(K2++(K3++K4))))):=m1.mid (A := [b]) (B:=E++(K1++(K2++(K3++K4)))) (A' := [b]) (.refl _) hnd (fun y hy=>(List.mem_append.1 hy).elim (hEb y) (hFb y)) (.refl _)
  obtain ⟨cs2,h2,F2,e2,⟨z1,t1,z2,t2,z3,t3,z4,t4,Q1,Q2,Q3,Q4,rfl,rfl,H2⟩,m2,N2⟩:=zoX (e:=e) H1 hg (znh et)
  have hg2:Good (doW w e):=zug hg
  have hEb1:=revents_ok.bd _ _ _ _ re1
  have re2:=m2.keep revents_ok re1 k5
  have r2:=r1.keep m2 k2 H.ge
  have M2:Mv h1 (b ::(E++(K1++(K2++(K3++K4))))) h2 (b ::(E++(Q1++(Q2++(Q3++Q4))))):=m2.mid zxo hnd (fun y hy=>by
   rw [List.mem_cons] at hy
   rcases hy with rfl | hy
   ·exact r1.lt
   ·exact hEb1 y hy) zxo
  have M12:=M1.trans M2
  have hnd2:=M12.nd
  obtain ⟨j1,j2,j3,j4,j5⟩:=nd3 hnd2
  have more:∀ (h3:Heap) (n3:Nat),Rd lo h3 b n3→n3+21*r≤500000→REvents h3 [.sl 6 a l.length c] l E→WR lo h3 (doW w e) z1 t1 z2 t2 z3 t3 z4 t4 Q1 Q2 Q3 Q4→n3≤n+21 →
    ∃ (l':List Event) (a':Option (Nat×Nat)) (c':Option Nat) (h':Heap) (E':List Nat),(zaq 6 (h3 ++ [.rows 6 48 false [e.cs]]) (.sl 6 (some (h3.length,0)) 1 (some 1)) fun x=>app lo 48 6 56 (.sl 6 a l.length c) x (h3 ++ [.rows 6 48 false [e.cs]]) fun x d=>eS 6 x fun x q f=>zaR lo b 0 0 most x q f ((m+1:Nat):Int) z1 (doW w e).places.length t1 z2 (doW w e).sess.length t2 z3 (doW w e).net.length t3 z4 (doW w e).hist.length t4 d)=some (.sl 6 a' l'.length c',h')∧REvents h' [.sl 6 a' l'.length c'] l' E'∧(∀ e∈l',e.text.size≤10)∧l'.length≤1000 ∧
     Rd lo h' b (n+21*(r+1))∧Mv h3 (b ::(E++(Q1++(Q2++(Q3++Q4))))) h' (b :: E'):=by
   intro h3 n3 r3 hn3 re3 H3 hnn
   have hEb3:=revents_ok.bd _ _ _ _ re3
   obtain ⟨a6,c6,h6,E6,e6,r6,m6⟩:=zeN (lo:=lo) (bytes:=56) (e:=48) (El:=flat Event.cs) zcE re3 (row:=e.cs) (x:=e) (G := []) (h1:=h3 ++ [.rows 6 48 false [e.cs]])
    ⟨rfl,rfl⟩ Mv.snoc j3 hE H3.hl (by decide) (by omega)
   have hll:(l ++ [e]).length=l.length+1:=by simp
   rw [← hll] at r6 e6
   have H6:WR lo h6 (doW w e) z1 t1 z2 t2 z3 t3 z4 t4 Q1 Q2 Q3 Q4:=⟨m6.keep rplaces_ok H3.r1 (fun y hy hm=>j5 y hm (by simp [hy])),m6.keep rsesss_ok H3.r2 (fun y hy hm=>j5 y hm (by simp [hy])),m6.keep rframes_ok H3.r3 (fun y hy hm=>j5 y hm (by simp [hy])),m6.keep rdones_ok H3.r4 (fun y hy hm=>j5 y hm (by simp [hy])),H3.nd,H3.ge,Nat.le_trans H3.hl m6.le⟩
   have M6:Mv h3 (b ::(E++(Q1++(Q2++(Q3++Q4))))) h6 (b ::(E6++(Q1++(Q2++(Q3++Q4))))):=m6.mid zxp hnd2 (fun y hy=>by
    rw [List.mem_cons] at hy
    rcases hy with rfl | hy
    ·exact r3.lt
    ·exact H3.bd y hy) zxp
   obtain ⟨l',a',c',h',E',f1,f2,f3,f4,f5,f6⟩:=ih (m+1) h6 (doW w e) (l ++ [e]) a6 c6 E6 _ _ _ _ _ _ _ _ _ _ _ _ n3 (by omega) (by omega) (by omega) (r3.keep m6 j1 hE) r6 (fun x hx=>by
    rcases List.mem_append.1 hx with g | g
    ·exact ht x g
    ·rw [List.mem_singleton] at g;subst g;exact et) (by omega) H6 hg2 M6.nd (m6.ge H3.hl hE)
   refine ⟨l',a',c',h',E',?_,f2,f3,f4,f5.up (by omega),M6.trans f6⟩
   rw [zaT,e6,zah]
   exact f1
  simp only [Event.cs] at e1
  have e2':=e2
  simp only [Event.cs,World.cs] at e2'
  rw [zaR.e,zal (by omega),e1,zac,zbx,zad,zaa,zad,zaa,zad,zaa,zad,zaa,zad,zdl,zad,zaS,zao,e2',zac,zs2,zad,zbx,zad,zah,zad,zah,zad,zah,zad,zah,zao,zad,zbi]
  cases hs:(zg8 w e).isSome with
  | true =>
   obtain ⟨l',a',c',h',E',f1,f2,f3,f4,f5,f6⟩:=more h2 (n+20) r2 (by omega) re2 H2 (by omega)
   refine ⟨l',a',c',h',E',?_,f2,f3,f4,f5,M12.trans f6⟩
   rw [zaN,zao,zap (by omega)]
   exact f1
  | false =>
   have hnone:zg8 w e=none:=by
    cases hx:zg8 w e with
    | none=>rfl
    | some y=>rw [hx] at hs;cases hs
   have hw:doW w e=w:=by unfold doW;rw [hnone];rfl
   obtain ⟨v,h3,e3,_,_,r3,m3⟩:=pick r2 (by omega) 6
   have notb2:∀ {G:List Nat},(∀ y∈G,y∈Q1++(Q2++(Q3++Q4)))→∀ y∈G,y ∉ [b]:=fun hG y hy hm=>by
    rw [List.mem_singleton] at hm
    exact j2 (hm ▸ hG y hy)
   have H3:WR lo h3 (doW w e) z1 t1 z2 t2 z3 t3 z4 t4 Q1 Q2 Q3 Q4:=⟨m3.keep rplaces_ok H2.r1 (notb2 fun y hy=>by simp [hy]),m3.keep rsesss_ok H2.r2 (notb2 fun y hy=>by simp [hy]),m3.keep rframes_ok H2.r3 (notb2 fun y hy=>by simp [hy]),m3.keep rdones_ok H2.r4 (notb2 fun y hy=>by simp [hy]),H2.nd,H2.ge,Nat.le_trans H2.hl m3.le⟩
   have re3:=m3.keep revents_ok re2 fun y hy hm=>j1 (by rw [List.mem_singleton] at hm;exact hm ▸ hy)
   have M3:Mv h2 (b ::(E++(Q1++(Q2++(Q3++Q4))))) h3 (b ::(E++(Q1++(Q2++(Q3++Q4))))):=m3.mid (A := [b]) (B:=E++(Q1++(Q2++(Q3++Q4)))) (A' := [b]) (.refl _) hnd2 (fun y hy=>(List.mem_append.1 hy).elim (revents_ok.bd _ _ _ _ re2 y) (H2.bd y)) (.refl _)
   have M123:=M12.trans M3
   rw [za5,zao,e3,zac,zaa]
   by_cases hv:v>0
   ·have eq:=N2 hnone
    rw [hw] at eq H3
    simp only [World.cs,List.cons.injEq,V.sl.injEq,true_and,and_true] at eq
    obtain ⟨⟨rfl,rfl⟩,⟨rfl,rfl⟩,⟨rfl,rfl⟩,rfl,rfl⟩:=eq
    obtain ⟨l',a',c',h',E',f1,f2,f3,f4,f5,f6⟩:=ih (m+1) h3 w l a c E _ _ _ _ _ _ _ _ _ _ _ _ (n+21) (by omega) (by omega) (by omega) r3 re3 ht (by omega) H3 hg M123.nd hE
    refine ⟨l',a',c',h',E',?_,f2,f3,f4,f5.up (by omega),M123.trans f6⟩
    rw [zal hv,zap (by omega)]
    exact f1
   ·obtain ⟨l',a',c',h',E',f1,f2,f3,f4,f5,f6⟩:=more h3 (n+21) r3 (by omega) re3 H3 (by omega)
    refine ⟨l',a',c',h',E',?_,f2,f3,f4,f5,M123.trans f6⟩
    rw [zaj hv,zap (by omega)]
    exact f1
theorem zkP {cs:List V} (hw:zrZ false h cs w F) (m:Mv h' [] h F) (hl':lo≤h'.length):∃ s1 s2 s3 s4 a1 c1 a2 c2 a3 c3 a4 c4 F1 F2 F3 F4,cs = [s1,s2,s3,s4]∧F=F1++(F2++(F3++F4)) ∧
  (∀ {T:Type} (K:Option (Nat×Nat)→Nat→Option Nat→Option T),eS 6 s1 K=K a1 w.places.length c1)∧(∀ {T:Type} (K:Option (Nat×Nat)→Nat→Option Nat→Option T),eS 5 s2 K=K a2 w.sess.length c2) ∧
  (∀ {T:Type} (K:Option (Nat×Nat)→Nat→Option Nat→Option T),eS 9 s3 K=K a3 w.net.length c3)∧(∀ {T:Type} (K:Option (Nat×Nat)→Nat→Option Nat→Option T),eS 5 s4 K=K a4 w.hist.length c4)∧WR lo h w a1 c1 a2 c2 a3 c3 a4 c4 F1 F2 F3 F4 :=
 WR.of hw m.nd (m.ge hl' (by simp)) (Nat.le_trans hl' m.le)
theorem zmd {n0 s0 most:Nat} (h1:1≤n0) (h4:n0≤4) (hs:s0≤4) (hmost:most≤120) (r:Rd lo h b n) (hn:n≤300000) (hl:lo≤h.length) :
  ∃ (l:List Event) (a:Option (Nat×Nat)) (c:Option Nat) (h':Heap) (E:List Nat),evl lo 320 [.ptr (some (b,(0,0))),.int .i64 (n0:Nat),.int .i64 (s0:Nat),.int .i64 (most:Nat)] h=some (.sl 6 a l.length c,h')∧REvents h' [.sl 6 a l.length c] l E∧(∀ e∈l,e.text.size≤10)∧l.length≤1000 ∧
   Rd lo h' b (n+3000)∧Mv h [b] h' (b :: E):=by
 obtain ⟨cs,h2,F2,e2,w2,m2⟩:=zmM (lo:=lo) (h:=h) h1 h4 (by omega:s0≤1000) hl
 obtain ⟨s1,s2,s3,s4,a1,c1,a2,c2,a3,c3,a4,c4,K1,K2,K3,K4,rfl,rfl,es1,es2,es3,es4,H⟩:=zkP w2 m2 hl
 have mx:Mv h2 [] (h2 ++ [.rows 6 48 false []]) [h2.length]:=Mv.last
 have hb2:=H.bd
 have H3:WR lo (h2 ++ [.rows 6 48 false []]) (zqf n0 s0) a1 c1 a2 c2 a3 c3 a4 c4 K1 K2 K3 K4:=⟨mx.keep0 rplaces_ok H.r1,mx.keep0 rsesss_ok H.r2,mx.keep0 rframes_ok H.r3,mx.keep0 rdones_ok H.r4,H.nd,H.ge,Nat.le_trans H.hl mx.le⟩
 have hre:REvents (h2 ++ [.rows 6 48 false []]) [.sl 6 (some (h2.length,0)) 0 (some 0)] [] [h2.length]:=Sli.fresh (Nat.le_refl _)
 have hblt:=r.lt
 have hbF:b∉K1++(K2++(K3++K4)):=fun hm=>by have:=m2.new b hm;omega
 have hnd:(b ::([h2.length]++(K1++(K2++(K3++K4))))).Nodup:=by
  have:=m2.le
  rw [List.nodup_cons,List.cons_append,List.nil_append,List.nodup_cons,List.mem_cons]
  exact ⟨fun hm=>hm.elim (fun g=>by omega) hbF,fun hm=>by have:=hb2 _ hm;omega,m2.nd⟩
 have r3:=(r.keep m2 (by simp) (by simp)).keep mx (by simp) (by simp)
 obtain ⟨l,a,c,h',E,f1,f2,f3,f4,f5,f6⟩:=zq2 (most:=(most:Nat)) (by omega) most 0 _ (zqf n0 s0) [] _ _ _ _ _ _ _ _ _ _ _ _ _ _ _ n (by omega) (by omega) (by omega) r3 hre (by simp) (by simp;omega) H3 (zpd h1 h4 hs) hnd (by simp;exact Nat.le_trans hl m2.le)
 refine ⟨l,a,c,h',E,zko ?_,f2,f3,f4,f5.up (by omega),?_⟩
 ·rw [e2,zac,zbx,zad,es1,zad,es2,zad,es3,zad,es4,zao]
  exact f1
 ·have M:Mv h [b] (h2 ++ [.rows 6 48 false []]) (b ::([h2.length]++(K1++(K2++(K3++K4))))):=by
   refine ⟨Nat.le_trans m2.le mx.le,fun y hy hF=>?_,hnd,fun y hy=>?_⟩
   ·rw [mx.fr y (Nat.lt_of_lt_of_le hy m2.le) (by simp),m2.fr y hy (by simp)]
   ·simp only [List.mem_cons,List.cons_append,List.nil_append] at hy
    rcases hy with rfl | rfl | hy
    ·exact .inl (by simp)
    ·exact .inr ⟨m2.le,by simp⟩
    ·have:=hb2 y hy
     exact .inr ⟨m2.new y hy,by rw [List.length_append];omega⟩
  exact M.trans f6
end
end Go.Proofs.YthdfojchihooeaaGreat
namespace Go.Proofs.YthdfojchihooeaaGreat
open Go T


set_option maxRecDepth 100000
section
variable {lo:Nat}{h h':Heap}{w:World}{a1 a2 a3 a4 a:Option (Nat×Nat)}{c1 c2 c3 c4 c:Option Nat}{E F F' F1 F2 F3 F4:List Nat}{b n:Nat}
theorem zuc (hg:Good w):zti w:=by
 have h1:=hg.ok.p3
 have h2:=hg.ok.s4
 have h3:=hg.ok.n12
 have h4:=hg.ok.h80
 refine ⟨⟨by omega,fun p hp=>?_⟩,⟨by omega,fun s hs=>?_⟩,⟨by omega,fun f hf=>?_⟩,by omega⟩
 ·obtain ⟨i,hi⟩:=List.mem_iff_getElem?.1 hp
  exact (zfE (zcV (hg.ok.place i p hi).2) (by decide) (by decide) (by decide)).1
 ·have:=zfH (zc9 (hg.ok.sess s hs)).2.1
  omega
 ·have:=(zk9 hg (hg.ok.net f hf)).1
  have h1:=this.1
  have h2:=this.2
  omega
theorem zua {f:Frame}:(znP w f).sess=w.sess:=by
 unfold znP
 split<;>rfl
theorem ztf {w':World}{e:Event} (he:zg8 w e=some w'):w'.sess.length=w.sess.length:=by
 unfold zg8 zfO zgj zsX zjj zrY ztM zha zsg znc at he
 simp only [cond_eq_ite] at he
 repeat' split at he
 all_goals first
  | (cases he;done)
  | (injection he with he;subst he;simp [setS,setP,setN,zua];done)
  | (rw [Option.map_eq_some_iff] at he;obtain ⟨q,_,rfl⟩:=he;rfl)
theorem zw6 {e:Event}:(doW w e).sess.length=w.sess.length:=by
 unfold doW
 cases he:zg8 w e with
 | none=>rfl
 | some w'=>exact ztf he
theorem zoZ (r:Rd lo h b n) (hn:n≤290000) (hl:lo≤h.length) :
  ∃ (n0 s0:Nat) (l:List Event) (a:Option (Nat×Nat)) (c:Option Nat) (h':Heap) (E:List Nat),evl lo 243 [.ptr (some (b,(0,0)))] h=some (.tup [.int .i64 (n0:Nat),.int .i64 (s0:Nat),.sl 6 a l.length c],h')∧(1≤n0∧n0≤4)∧(1≤s0∧s0≤4)∧REvents h' [.sl 6 a l.length c] l E∧(∀ e∈l,e.text.size≤10)∧l.length≤1000 ∧
   Rd lo h' b (n+3010)∧Mv h [b] h' (b :: E):=by
 obtain ⟨v,h1,e1,g1,g1',r1,m1⟩:=pick r (by omega) 4
 obtain ⟨u,h2,e2,g2,g2',r2,m2⟩:=pick r1 (by omega) 4
 obtain ⟨k,h3,e3,hk,r3,m3⟩:=zd0 (e:=3) [0,20,60,120] (rows := [[.int .i64 0],[.int .i64 20],[.int .i64 60],[.int .i64 120]]) (len:=4) (cc:=some 4) r2 (by omega) rfl rfl (by decide)
 have hv:=g1' (by omega)
 have hu:=g2' (by omega)
 have hk':0≤k∧k≤120:=by simp at hk;omega
 obtain ⟨q,rfl⟩:∃ q:Nat,k=(q:Int):=⟨k.toNat,by omega⟩
 obtain ⟨n0,hn0⟩:∃ n0:Nat,1+v=(n0:Int):=⟨(1+v).toNat,by omega⟩
 obtain ⟨s0,hs0⟩:∃ s0:Nat,1+u=(s0:Int):=⟨(1+u).toNat,by omega⟩
 have m13:=(m1.trans m2).trans m3
 obtain ⟨l,a,c,h4,E,e4,f2,f3,f4,f5,f6⟩:=zmd (n0:=n0) (s0:=s0) (most:=q) (by omega) (by omega) (by omega) (by omega) r3 (by omega) (Nat.le_trans hl m13.le)
 refine ⟨n0,s0,l,a,c,h4,E,zms ?_,⟨by omega,by omega⟩,⟨by omega,by omega⟩,f2,f3,f4,f5.up (by omega),m13.trans f6⟩
 rw [e1,zac,zaa,e2,zac,zaa,e3,zac,zaa,wr (by omega) (by omega),wr (by omega) (by omega),hn0,hs0,e4,zac,zah]
theorem ztv {l:List Event} (ht:∀ e∈l,e.text.size≤10) (hl6:l.length≤1000):∀ (r m:Nat) (hh:Heap) (w:World) (E:List Nat) (x1:Option (Nat×Nat)) (y1:Option Nat) (x2:Option (Nat×Nat)) (y2:Option Nat) (x3:Option (Nat×Nat)) (y3:Option Nat) (x4:Option (Nat×Nat)) (y4:Option Nat) (K1 K2 K3 K4:List Nat),
  m+r=l.length→REvents hh [.sl 6 a l.length c] l E→WR lo hh w x1 y1 x2 y2 x3 y3 x4 y4 K1 K2 K3 K4→Good w→(∀ y∈E,y∉K1++(K2++(K3++K4))) →
  ∃ cs' w' h' F',zbA lo a l.length c (m:Nat) 0 none 0 (some 0) 0 none 0 (some 0) 0 none 0 (some 0) 0 none 0 (some 0) x1 w.places.length y1 x2 w.sess.length y2 x3 w.net.length y3 x4 w.hist.length y4 hh=some (.agg cs',h')∧WAt lo h' cs' w' F'∧(Good w'∧w'.sess.length=w.sess.length)∧Mv hh (K1++(K2++(K3++K4))) h' F':=by
 intro r
 induction r with
 | zero =>
  intro m hh w E x1 y1 x2 y2 x3 y3 x4 y4 K1 K2 K3 K4 hm re H hg hd
  exact ⟨_,w,hh,_,by rw [zbA.e,zaj (by omega)],H.at,⟨hg,rfl⟩,Mv.refl H.nd⟩
 | succ r ih =>
  intro m hh w E x1 y1 x2 y2 x3 y3 x4 y4 K1 K2 K3 K4 hm re H hg hd
  by_cases h60:(m:Int)<60
  ·have hml:m<l.length:=by omega
   obtain ⟨o,row,G,ha,hld,⟨rfl,_⟩,_⟩:=re.read hml
   obtain ⟨cs2,h2,F2,e2,⟨z1,t1,z2,t2,z3,t3,z4,t4,Q1,Q2,Q3,Q4,rfl,rfl,H2⟩,m2,_⟩:=zoX (e:=l[m]) H hg (znh (ht _ (List.getElem_mem hml)))
   have re2:=m2.keep revents_ok re hd
   have hEb:=revents_ok.bd _ _ _ _ re
   obtain ⟨cs',w',h',F',f1,f2,f3,f4⟩:=ih (m+1) h2 (doW w l[m]) E _ _ _ _ _ _ _ _ _ _ _ _ (by omega) re2 H2 (zug hg) (fun y hy hm=>by
    rcases m2.sub y hm with g | g
    ·exact hd y hy g
    ·have:=hEb y hy;omega)
   have hld6:ld hh o.1 (o.2+m) 0 6=some l[m].cs:=by rw [hld];exact zhm rfl
   simp only [Event.cs] at hld6
   simp only [Event.cs,World.cs] at e2
   refine ⟨cs',w',h',F',?_,f2,⟨f3.1,by rw [f3.2,zw6]⟩,m2.trans f4⟩
   rw [zbA.e,zal (by omega),zal h60,zab hml,ha,zam,Int.toNat_natCast,hld6,zam,zad,zaa,zad,zaa,zad,zaa,zad,zaa,zad,zdl,zad,zaS,zao,e2,zac,zs2,zad,zbx,zad,zah,zad,zah,zad,zah,zad,zah,zao,zad,zbi,zao,zap (by omega),← ha]
   cases (zg8 w l[m]).isSome
   ·rw [za5];exact f1
   ·rw [zaN];exact f1
  ·exact ⟨_,w,hh,_,by rw [zbA.e,zal (by omega),zaj h60],H.at,⟨hg,rfl⟩,Mv.refl H.nd⟩
theorem zqq {n0 s0:Nat}{l:List Event} (h1:1≤n0) (h4:n0≤4) (hs:s0≤4) (re:REvents h [.sl 6 a l.length c] l E) (ht:∀ e∈l,e.text.size≤10) (hl6:l.length≤1000) (hl:lo≤h.length) :
  ∃ cs' w' h' F',evl lo 244 [.int .i64 (n0:Nat),.int .i64 (s0:Nat),.sl 6 a l.length c] h=some (.agg cs',h')∧WAt lo h' cs' w' F'∧(Good w'∧w'.sess.length=s0)∧Mv h [] h' F':=by
 obtain ⟨cs,h2,F2,e2,w2,m2⟩:=zmM (lo:=lo) (h:=h) h1 h4 (by omega:s0≤1000) hl
 obtain ⟨s1,s2,s3,s4,a1,c1,a2,c2,a3,c3,a4,c4,K1,K2,K3,K4,rfl,rfl,es1,es2,es3,es4,H⟩:=zkP w2 m2 hl
 have hEb:=revents_ok.bd _ _ _ _ re
 obtain ⟨cs',w',h',F',f1,f2,f3,f4⟩:=ztv ht hl6 l.length 0 h2 (zqf n0 s0) E _ _ _ _ _ _ _ _ _ _ _ _ (by omega) (m2.keep0 revents_ok re) H (zpd h1 h4 hs) (fun y hy hm=>by have:=m2.new y hm;have:=hEb y hy;omega)
 refine ⟨cs',w',h',F',zob ?_,f2,⟨f3.1,by rw [f3.2];simp [zqf]⟩,m2.trans f4⟩
 rw [e2,zac,zbx,zad,es1,zad,es2,zad,es3,zad,es4,zao]
 exact f1
theorem zr4 (r:Rd lo h b n) (hn:n≤290000) (hl:lo≤h.length) :
  ∃ (w:World) (a1:Option (Nat×Nat)) (c1:Option Nat) (a2:Option (Nat×Nat)) (c2:Option Nat) (a3:Option (Nat×Nat)) (c3:Option Nat) (a4:Option (Nat×Nat)) (c4:Option Nat) (h':Heap) (F1 F2 F3 F4:List Nat),evl lo 131 [.ptr (some (b,(0,0)))] h=some (.agg (w.cs a1 c1 a2 c2 a3 c3 a4 c4),h')∧WR lo h' w a1 c1 a2 c2 a3 c3 a4 c4 F1 F2 F3 F4∧Good w∧1≤w.sess.length∧Rd lo h' b (n+3010)∧Mv h [b] h' (b ::(F1++(F2++(F3++F4)))):=by
 obtain ⟨n0,s0,l,a,c,h1,E,e1,hn0,hs0,re,ht,hl6,r1,m1⟩:=zoZ r hn hl
 have l1:=Nat.le_trans hl m1.le
 obtain ⟨cs2,w,h2,F2,e2,⟨z1,t1,z2,t2,z3,t3,z4,t4,Q1,Q2,Q3,Q4,rfl,rfl,H2⟩,⟨hg,hsl⟩,m2⟩:=zqq hn0.1 hn0.2 hs0.2 re ht hl6 l1
 obtain ⟨cs,h3,K,e3,w3,m3⟩:=zqr (lo:=lo) H2.r1 H2.r2 H2.r3 H2.r4 (zuc hg) H2.hl
 obtain ⟨s1,s2,s3,s4,a1,c1,a2,c2,a3,c3,a4,c4,K1,K2,K3,K4,rfl,rfl,es1,es2,es3,es4,H⟩:=zkP w3 m3 H2.hl
 have m12:Mv h [b] h2 [b]:=(m1.lean (F'' := [b]) (by simp) (by simp)).trans (m2.drop.aside (F := []) (F' := []) (G := [b]) (by simp) (by simp;exact r1.lt))
 have m13:Mv h [b] h3 (b ::(K1++(K2++(K3++K4)))):=by
  have:=m12.join m3 (by simp;exact Nat.lt_of_lt_of_le r1.lt m2.le)
  simpa using this
 refine ⟨w,a1,c1,a2,c2,a3,c3,a4,c4,h3,K1,K2,K3,K4,zlX ?_,H,hg,?_,(r1.keep m2 (by simp) (by simp)).keep m3 (by simp) (by simp),m13⟩
 ·simp only [World.cs] at e2 e3
  rw [e1,zac,zs2,zad,zaa,zad,zaa,zad,zah,zao,e2,zac,zbx,zad,zah,zad,zah,zad,zah,zad,zah,zao,e3,zac,zbx,zad,es1,zad,es2,zad,es3,zad,es4,zao]
 ·omega
end
end Go.Proofs.YthdfojchihooeaaGreat
namespace Go.Proofs.YthdfojchihooeaaGreat
open Go T


set_option maxRecDepth 100000
section
variable {lo:Nat}{h h':Heap}{w:World}{a1 a2 a3 a4 a:Option (Nat×Nat)}{c1 c2 c3 c4 c:Option Nat}{E F F' F1 F2 F3 F4:List Nat}{b n:Nat}
theorem Sli.toRo {α:Type}{El:Rel α}{R e e':Nat}{l:List α}{m:Nat} (hs:Sli false R e El h [.sl R a m c] l F):Sli true R e' El h [.sl R a m c] l F:=by
 obtain ⟨R1,a1,c1,e1,g⟩:=hs
 injection e1 with e1 _;injection e1 with e0 e2 e4 e3
 subst e2;subst e3;subst e4
 cases a with
 | none =>
  obtain ⟨rfl,_,rfl⟩:=g
  exact ⟨R,none,c,rfl,rfl,.inl ⟨rfl,rfl⟩⟩
 | some p =>
  obtain ⟨b,i⟩:=p
  obtain ⟨_,rs,Fs,g1,g2,_,_,g5,rfl⟩:=g
  exact ⟨R,some (b,i),c,rfl,rfl,.inr ⟨b,i,rs,Fs,rfl,by simp [Heap.rows?,g1],g2,g5,rfl⟩⟩
theorem Sli.one_on {α:Type}{El:Rel α}{R e e':Nat}{l:List α} (hs:Sli false R e El h [.sl R a l.length c] l F) (h2:2≤l.length) :
  ∃ a' c' F',(∀ {T:Type} (K:Option (Nat×Nat)→Nat→Option Nat→Option T),zaz a l.length c (some (.int .i64 1)) none none K=K a' (l.drop 1).length c')∧Sli true R e' El h [.sl R a' (l.drop 1).length c'] (l.drop 1) F'∧∀ y∈F',y∈F:=by
 obtain ⟨R1,a1,c1,e1,g⟩:=hs
 injection e1 with e1 _;injection e1 with e0 e2 e4 e3
 subst e2;subst e3
 cases a with
 | none=>obtain ⟨hl,_⟩:=g;rw [hl] at h2;simp at h2
 | some p =>
  obtain ⟨b,i⟩:=p
  obtain ⟨_,rs,Fs,g1,g2,g3,_,g5,rfl⟩:=g
  have hdl:(l.drop 1).length=l.length - 1:=by simp
  have hsub:∀ y∈(Fs.drop 1).flatten,y∈Fs.flatten:=fun y hy=>flat_drop.subset hy
  have hrel:Sli true R e' El h [.sl R (some (b,i+1)) (l.drop 1).length (match c with | some k=>some (k - 1) | none=>none)] (l.drop 1) (b ::(Fs.drop 1).flatten):=by
   refine ⟨R,some (b,i+1),_,rfl,rfl,.inr ⟨b,i+1,rs,Fs.drop 1,rfl,by simp [Heap.rows?,g1],by omega,?_,rfl⟩⟩
   have:=g5.drop 1
   rw [List.drop_take,List.drop_drop] at this
   rw [hdl];exact this
  cases c with
  | none =>
   refine ⟨some (b,i+1),none,b ::(Fs.drop 1).flatten,fun K=>?_,hrel,fun y hy=>?_⟩
   ·simp only [zaz,zgK,zmT,zoI,Option.isNone_none,zaa]
    rw [zd2 ⟨by omega,by omega⟩]
    rw [hdl];rfl
   ·rw [List.mem_cons] at hy ⊢;exact hy.imp id (hsub y)
  | some k =>
   have hk:=g3 k rfl
   refine ⟨some (b,i+1),some (k - 1),b ::(Fs.drop 1).flatten,fun K=>?_,hrel,fun y hy=>?_⟩
   ·simp only [zaz,zgK,zmT,zoI,Option.isNone_none,zaa,ztl]
    rw [zd2 ⟨by omega,by omega⟩,show Nat.beq k (1:Int).toNat=false by cases hb:Nat.beq k (1:Int).toNat with | false=>rfl | true=>(have:=Nat.eq_of_beq_eq_true hb;simp at this;omega),za5,hdl]
    rfl
   ·rw [List.mem_cons] at hy ⊢;exact hy.imp id (hsub y)
theorem ztx:∀ (r m:Nat) (hh:Heap) (l:List Tag) (q:Nat) (K:List Nat) (n:Nat),m+r=4→l.length=4→n+3*r≤700000→Rd lo hh b n→lo≤hh.length→RTags false hh [.sl 2 (some (q,0)) 4 (some 4)] l K→(b :: K).Nodup→(∀ y∈K,lo≤y) →
  ∃ (l':List Tag) (a':Option (Nat×Nat)) (c':Option Nat) (h':Heap) (K':List Nat),zb0 lo b 0 0 (m:Nat) 0 none 0 (some 0) (some (q,0)) 4 (some 4) hh=some (.agg [.sl 2 a' l'.length c'],h')∧RTags false h' [.sl 2 a' l'.length c'] l' K'∧l'.length≤4∧Rd lo h' b (n+3*r+10)∧Mv hh (b :: K) h' (b :: K'):=by
 intro r
 induction r with
 | zero =>
  intro m hh l q K n hm hl hn r0 hlo rt hnd hK
  have hm4:m=4:=by omega
  subst hm4
  obtain ⟨k1,k2⟩:=List.nodup_cons.1 hnd
  have hKb:=rtags_ok.bd _ _ _ _ rt
  obtain ⟨v,h1,e1,g1,g1',r1,m1⟩:=pick r0 (by omega) 10
  have rt1:=m1.keep rtags_ok rt fun y hy hm=>k1 (by rw [List.mem_singleton] at hm;exact hm ▸ hy)
  have M1:Mv hh (b :: K) h1 (b :: K):=m1.mid (A := [b]) (B:=K) (A' := [b]) (.refl _) hnd hKb (.refl _)
  rw [zb0.e,zaj (by omega),e1,zac,zaa]
  cases v==(0:Int) with
  | true =>
   obtain ⟨x1,F2,x2,x3,x4⟩:=rt1.behind (by omega) k2
   refine ⟨l.drop 1,some (q,0+1),some 3,h1,F2,?_,x2,by simp;omega,r1.up (by omega),M1.lean (List.nodup_cons.2 ⟨fun hm=>k1 (x4 b hm),x3⟩) fun y hy=>?_⟩
   ·rw [zaN,x1 _ (by decide)]
   ·rw [List.mem_cons] at hy ⊢;exact hy.imp id (x4 y)
  | false =>
  rw [za5]
  cases v==(1:Int) with
  | true =>
   obtain ⟨u,h2,e2,g2,g2',r2,m2⟩:=pick r1 (by omega) 4
   obtain ⟨t,h3,e3,r3,m3⟩:=zio r2 (by omega)
   have m23:=m2.trans m3
   have rt3:=m23.keep rtags_ok rt1 fun y hy hm=>k1 (by rw [List.mem_singleton] at hm;exact hm ▸ hy)
   have M3:Mv h1 (b :: K) h3 (b :: K):=m23.mid (A := [b]) (B:=K) (A' := [b]) (.refl _) hnd (fun y hy=>Nat.lt_of_lt_of_le (hKb y hy) m1.le) (.refl _)
   have hu:=g2' (by omega)
   obtain ⟨j,rfl⟩:∃ j:Nat,u=(j:Int):=⟨u.toNat,by omega⟩
   have rt3':RTags false h3 [.sl 2 (some (q,0)) l.length (some 4)] l K:=by rw [hl];exact rt3
   obtain ⟨b0,i0,rs,row,G,ha,_,_,hb,hrow,⟨rfl,rfl⟩,_,_,_,put⟩:=rt3'.at (lo:=lo) (k:=j) zcE (by omega) k2 hK
   obtain ⟨h4,F4,e4,r4,m4,_⟩:=put h3 [] 0 t.cs t.cs t Mv.nil rfl ⟨rfl,rfl⟩
   injection ha with ha;injection ha with ha1 ha2
   subst ha1;subst ha2
   have M4:Mv h3 (b :: K) h4 (b :: F4):=m4.mid (B := [b]) (List.perm_append_comm (l₁ := [b])) hnd (fun y hy=>by rw [List.mem_singleton] at hy;subst hy;exact r3.lt) (List.perm_append_comm (l₁ := [b]))
   have hsl:(l.set j t).length=l.length:=by simp
   simp only [Tag.cs] at e3 e4
   refine ⟨l.set j t,some (q,0),some 4,h4,F4,?_,by rw [hsl];exact r4,by omega,(r3.keep m4 k1 hK).up (by omega),(M1.trans M3).trans M4⟩
   rw [zaN,e2,zac,zaa,e3,zac,zbx,zad,zaa,zad,zaa,zao,zab (by omega),zam,Int.toNat_natCast,e4,zam,hsl,hl]
  | false =>
   rw [za5]
   exact ⟨l,some (q,0),some 4,h1,K,by rw [hl],by rw [hl];exact rt1,by omega,r1.up (by omega),M1⟩
 | succ r ih =>
  intro m hh l q K n hm hl hn r0 hlo rt hnd hK
  obtain ⟨k1,k2⟩:=List.nodup_cons.1 hnd
  have hKb:=rtags_ok.bd _ _ _ _ rt
  obtain ⟨t,h1,e1,_,r1,m1⟩:=zny r0 (by omega)
  have rt1:=m1.keep rtags_ok rt fun y hy hm=>k1 (by rw [List.mem_singleton] at hm;exact hm ▸ hy)
  have M1:Mv hh (b :: K) h1 (b :: K):=m1.mid (A := [b]) (B:=K) (A' := [b]) (.refl _) hnd hKb (.refl _)
  have rt1':RTags false h1 [.sl 2 (some (q,0)) l.length (some 4)] l K:=by rw [hl];exact rt1
  obtain ⟨b0,i0,rs,row,G,ha,_,_,hb,hrow,⟨rfl,rfl⟩,_,_,_,put⟩:=rt1'.at (lo:=lo) (k:=m) zcE (by omega) k2 hK
  obtain ⟨h4,F4,e4,r4,m4,_⟩:=put h1 [] 0 t.cs t.cs t Mv.nil rfl ⟨rfl,rfl⟩
  injection ha with ha;injection ha with ha1 ha2
  subst ha1;subst ha2
  have M4:Mv h1 (b :: K) h4 (b :: F4):=m4.mid (B := [b]) (List.perm_append_comm (l₁ := [b])) hnd (fun y hy=>by rw [List.mem_singleton] at hy;subst hy;exact r1.lt) (List.perm_append_comm (l₁ := [b]))
  have hsl:(l.set m t).length=4:=by simp;exact hl
  rw [hl] at r4
  obtain ⟨l',a',c',h',K',f1,f2,f3,f4,f5⟩:=ih (m+1) h4 (l.set m t) q F4 (n+3) (by omega) hsl (by omega) (r1.keep m4 k1 hK) (Nat.le_trans hlo (Nat.le_trans m1.le m4.le)) r4 M4.nd (m4.ge (Nat.le_trans hlo m1.le) hK)
  simp only [Tag.cs] at e1 e4
  refine ⟨l',a',c',h',K',?_,f2,f3,f4.up (by omega),(M1.trans M4).trans f5⟩
  rw [zb0.e,zal (by omega),e1,zac,zbx,zad,zaa,zad,zaa,zao,zab (by omega),zam,Int.toNat_natCast,e4,zam,zap (by omega)]
  exact f1
theorem zty (r:Rd lo h b n) (hn:n≤600000) (hl:lo≤h.length):∃ (l:List Tag) (a:Option (Nat×Nat)) (c:Option Nat) (h':Heap) (F':List Nat),evl lo 154 [.ptr (some (b,(0,0)))] h=some (.agg [.sl 2 a l.length c],h')∧RTags false h' [.sl 2 a l.length c] l F'∧l.length≤4∧Rd lo h' b (n+30)∧Mv h [b] h' (b :: F'):=by
 obtain ⟨h1,q,e1,t1,m1⟩:=zh9 (lo:=lo) (h:=h)
 have hq:=m1.new q (by simp)
 have hblt:=r.lt
 have M:Mv h [b] h1 (b :: [q]):=by
  have:=(m1.aside (F := []) (G := [b]) (by simp) (by simp;exact hblt))
  simpa using Mv.swap (A := []) (B := [b]) (A' := [q]) (B' := [b]) this
 obtain ⟨l',a',c',h',K',f1,f2,f3,f4,f5⟩:=ztx 4 0 h1 zpa q [q] n rfl rfl (by omega) (r.keep m1 (by simp) (by simp)) (Nat.le_trans hl m1.le) t1 M.nd (by simp;omega)
 refine ⟨l',a',c',h',K',zmt ?_,f2,f3,f4.up (by omega),M.trans f5⟩
 rw [e1,zac,zbx,zad,zah,zao]
 exact f1
end
end Go.Proofs.YthdfojchihooeaaGreat
namespace Go.Proofs.YthdfojchihooeaaGreat
open Go T


set_option maxRecDepth 100000
section
variable {lo:Nat}{h h':Heap}{w:World}{a1 a2 a3 a4 a:Option (Nat×Nat)}{c1 c2 c3 c4 c:Option Nat}{E F F' F1 F2 F3 F4:List Nat}{b n:Nat}
abbrev zr0:Rel (List Place):=Sli true 6 0 (RPlace false)
theorem ztm {l:List Place}{k:Nat}{p:Place} (h:∀ x∈l,zcc x) (hp:zcc p):∀ x∈l.set k p,zcc x:=fun x hx=>by
 rcases List.mem_or_eq_of_mem_set hx with g | rfl
 ·exact h x g
 ·exact hp
theorem zqI {hh h2:Heap}{A A':List Nat} (m:Mv hh A h2 A') (hb:b<hh.length) (hA:b∉A):b∉A':=fun hm=>by
 rcases m.sub b hm with g | g
 ·exact hA g
 ·omega
theorem zkD {hh h2:Heap}{A F5:List Nat} (m:Mv hh [b] h2 (b :: F5)) (hA:A.Nodup) (hb:∀ y∈A,y<hh.length):(A++F5).Nodup∧b∉F5:=by
 obtain ⟨k1,k2⟩:=List.nodup_cons.1 m.nd
 refine ⟨?_,k1⟩
 rw [List.nodup_append]
 refine ⟨hA,k2,fun y hy z hz e=>?_⟩
 subst e
 rcases m.sub y (by simp [hz]) with g | g
 ·rw [List.mem_singleton] at g;subst g;exact k1 hz
 ·have:=hb y hy;omega
theorem zn5 (r:Rd lo h b n) (hn:n≤200000) (hl:lo≤h.length) :
  ∃ (l:List Place) (a:Option (Nat×Nat)) (c:Option Nat) (a2:Option (Nat×Nat)) (n2:Nat) (c2:Option Nat) (a3:Option (Nat×Nat)) (n3:Nat) (c3:Option Nat) (a4:Option (Nat×Nat)) (n4:Nat) (c4:Option Nat) (h':Heap) (F':List Nat),
   evl lo 164 [.ptr (some (b,(0,0)))] h=some (.agg [.sl 6 a l.length c,.sl 5 a2 n2 c2,.sl 9 a3 n3 c3,.sl 5 a4 n4 c4],h')∧zr0 h' [.sl 6 a l.length c] l F'∧(∀ p∈l,zcc p)∧(1≤l.length∧l.length≤3)∧b∉F'∧Rd lo h' b (n+6000)∧lo≤h'.length:=by
 obtain ⟨w,a1,c1,a2,c2,a3,c3,a4,c4,h1,F1,F2,F3,F4,e1,H1,hg,hsl,r1,m1⟩:=zr4 r (by omega) hl
 obtain ⟨bF,hnd⟩:=List.nodup_cons.1 m1.nd
 have hp3:=hg.ok.p3
 have hh80:=hg.ok.h80
 have hn12:=hg.ok.n12
 obtain ⟨k,h2,e2,g2,g2',r2,m2⟩:=pick r1 (by omega) 3
 obtain ⟨x,h3,e3,g3,g3',r3,m3⟩:=pick r2 (by omega) 16
 have m23:=m2.trans m3
 have notb:∀ {G:List Nat},(∀ y∈G,y∈F1++(F2++(F3++F4)))→∀ y∈G,y ∉ [b]:=fun hG y hy hm=>by
  rw [List.mem_singleton] at hm
  exact bF (hm ▸ hG y hy)
 have keepW:∀ {hh:Heap},Mv h1 [b] hh [b]→WR lo hh w a1 c1 a2 c2 a3 c3 a4 c4 F1 F2 F3 F4:=fun m=>⟨m.keep rplaces_ok H1.r1 (notb fun y hy=>by simp [hy]),m.keep rsesss_ok H1.r2 (notb fun y hy=>by simp [hy]),m.keep rframes_ok H1.r3 (notb fun y hy=>by simp [hy]),m.keep rdones_ok H1.r4 (notb fun y hy=>by simp [hy]),H1.nd,H1.ge,Nat.le_trans H1.hl m.le⟩
 have H:=keepW m23
 have bF1:b∉F1:=fun hm=>bF (by simp [hm])
 have hsm:=(zuc hg).1.2
 have hk3:=g2' (by omega)
 obtain ⟨k,rfl⟩:∃ q:Nat,k=(q:Int):=⟨k.toNat,by omega⟩
 have hk:k<w.places.length:=by omega
 obtain ⟨hpo,_,_⟩:=hg.at hk
 have hpsm:=hsm _ (List.getElem_mem hk)
 obtain ⟨⟨n1,_⟩,d12,d13,d14,_⟩:=nd4 H.nd
 have hge1:∀ y∈F1,lo≤y:=fun y hy=>H.ge y (by simp [hy])
 have hset:∀ p':Place,(w.places.set k p').length=w.places.length:=fun p'=>by simp
 suffices hkk:∃ (l:List Place) (a:Option (Nat×Nat)) (c:Option Nat) (a2:Option (Nat×Nat)) (n2:Nat) (c2:Option Nat) (a3:Option (Nat×Nat)) (n3:Nat) (c3:Option Nat) (a4:Option (Nat×Nat)) (n4:Nat) (c4:Option Nat) (h':Heap) (F':List Nat),
   _=some (V.agg [.sl 6 a l.length c,.sl 5 a2 n2 c2,.sl 9 a3 n3 c3,.sl 5 a4 n4 c4],h')∧zr0 h' [.sl 6 a l.length c] l F'∧(∀ p∈l,zcc p)∧(1≤l.length∧l.length≤3)∧b∉F'∧Rd lo h' b (n+6000)∧lo≤h'.length from by
  obtain ⟨l,a,c,a2,n2,c2,a3,n3,c3,a4,n4,c4,h',F',e,hr⟩:=hkk
  exact ⟨l,a,c,a2,n2,c2,a3,n3,c3,a4,n4,c4,h',F',zi0 e,hr⟩
 simp only [World.cs] at e1
 rw [e1,zac,zbx,zad,zah,zad,zah,zad,zah,zad,zah,zao,e2,zac,zaa,e3,zac,zaa]
 cases x==(0:Int) with
 | true =>
  obtain ⟨g,h4,e4,_,r4,m4⟩:=zd0 (e:=3) [-1,0,1000] (rows := [[.int .i64 (-1)],[.int .i64 0],[.int .i64 1000]]) (len:=3) (cc:=some 3) r3 (by omega) rfl rfl (by decide)
  have H4:=keepW (m23.trans m4)
  obtain ⟨b0,i0,rs,row,G,ha,_,_,hb,hrow,hel,hGF,hGn,_,put⟩:=Sli.at (lo:=lo) rplace_ok H4.r1 hk n1 hge1
  obtain ⟨s1,s2,s3,G1,G2,G3,rfl,rfl,q1,q2,q3⟩:=hel
  subst ha
  obtain ⟨h5,F5,e5,t5,m5,_⟩:=put h4 (G1++(G2++G3)) 1 [.int .i64 g] [.int .i64 w.places[k].me,.int .i64 g,s1,s2,s3,.bool w.places[k].fell] ⟨w.places[k].me,g,w.places[k].chain,w.places[k].log,w.places[k].got,w.places[k].fell⟩ (Mv.refl hGn) rfl ⟨_,_,_,G1,G2,G3,rfl,rfl,q1,q2,q3⟩
  rw [zaN,e4,zac,zaa,zab hk,zam,Int.toNat_natCast,e5,zam,← hset ⟨w.places[k].me,g,w.places[k].chain,w.places[k].log,w.places[k].got,w.places[k].fell⟩]
  rw [← hset ⟨w.places[k].me,g,w.places[k].chain,w.places[k].log,w.places[k].got,w.places[k].fell⟩] at t5
  exact ⟨_,_,_,_,_,_,_,_,_,_,_,_,h5,F5,rfl,t5.toRo,ztm hsm ⟨hpsm.1,hpsm.2.1,hpsm.2.2⟩,by rw [hset];omega,zqI m5 r4.lt bF1,(r4.keep m5 bF1 hge1).up (by omega),Nat.le_trans H4.hl m5.le⟩
 | false =>
 rw [za5]
 cases x==(1:Int) with
 | true =>
  obtain ⟨v,av,cv,h4,F5,e4,t4,hv,r4,m4⟩:=zin r3 (by omega) H.hl
  obtain ⟨nd5,b5⟩:=zkD m4 n1 H.lt.1
  have hr1:=m4.keep rplaces_ok H.r1 (notb fun y hy=>by simp [hy])
  have hF5:=rtags_ok.bd _ _ _ _ t4
  obtain ⟨b',i',rs,row,G,rfl,hbF,hbG,hb1,hb2,hel,hGF,hGn,put⟩:=Sli.at_aside (lo:=lo) (E:=F5) rplace_ok hr1 hk nd5 hge1 hF5
  obtain ⟨s1,s2,s3,G1,G2,G3,rfl,rfl,q1,q2,q3⟩:=hel
  obtain ⟨aw,cw,esw,q2⟩:=q2.form
  obtain ⟨nG1,nG23,dG1⟩:=List.nodup_append.1 hGn
  obtain ⟨nG2,nG3,dG23⟩:=List.nodup_append.1 nG23
  have dF5:∀ y∈G1++(G2++G3),y∉F5:=fun y hy hm=>(List.nodup_append.1 nd5).2.2 y (hGF y hy) y hm rfl
  have hlog:=(zcV hpo).log.1
  have hH1:=rnodes_ok.bd _ _ _ _ q1
  have hH2:=rvers_ok.bd _ _ _ _ q2
  have hH3:=rvss_ok.bd _ _ _ _ q3
  have mx:Mv h4 [] (h4 ++ [.rows 6 65 false [v.cs av cv]]) []:=Mv.snoc
  have q2x:=mx.keep0 rvers_ok q2
  have t5x:=mx.keep0 rtags_ok t4
  have hl4:=Nat.le_trans H.hl m4.le
  obtain ⟨a6,c6,h6,F6,p1,p2,p3,p4,p5,p6⟩:=Sli.push (lo:=lo) (bytes:=72) (e:=65) rver_ok.fr q2x (xs := [v.cs av cv]) (ys := [v]) (Gs := [F5]) ⟨⟨_,rfl,t5x⟩,trivial⟩ (by decide) (by simp;omega) (fun y hy=>hge1 y (hGF y (by simp [hy]))) (by simp;omega)
   (by
    rw [List.nodup_append]
    refine ⟨nG2,by simpa using (List.nodup_append.1 nd5).2.1,fun y hy z hz e=>?_⟩
    subst e
    exact dF5 y (by simp [hy]) (by simpa using hz))
   (fun y hy=>by
    rw [List.mem_append] at hy
    rw [List.length_append]
    rcases hy with hy | hy
    ·have:=hH2 y hy;omega
    ·have:=hF5 y (by simpa using hy);omega) (by simp)
  simp only [List.length_singleton] at p1 p2
  have hfin:∀ y∈F6,y∈G2∨y∈F5∨(h4.length≤y∧y<h6.length):=fun y hy=>by
   rcases p5 y hy with g | g
   ·rw [List.mem_append] at g
    rcases g with g | g
    ·exact .inl g
    ·exact .inr (.inl (by simpa using g))
   ·rw [List.length_append] at g
    exact .inr (.inr (by omega))
  have hlen:h4.length≤h6.length:=by rw [List.length_append] at p3;omega
  have fr:∀ y,y<h4.length→y∉G2→h6[y]?=h4[y]?:=fun y hy hn=>by
   rw [p4 y (by rw [List.length_append];omega) hn,List.getElem?_append_left hy]
  have hmv:Mv h4 ((G1++(G2++G3))++F5) h6 (G1++(F6++G3)):=by
   refine ⟨hlen,fun y hy hn=>fr y hy fun hm=>hn (by simp [hm]),?_,fun y hy=>?_⟩
   ·rw [List.nodup_append,List.nodup_append]
    refine ⟨nG1,⟨p6,nG3,fun y hy z hz e=>?_⟩,fun y hy z hz e=>?_⟩
    ·subst e
     rcases hfin y hy with g | g | g
     ·exact dG23 y g y hz rfl
     ·exact dF5 y (by simp [hz]) g
     ·have:=hH3 y hz;omega
    ·subst e
     rcases List.mem_append.1 hz with hz | hz
     ·rcases hfin y hz with g | g | g
      ·exact dG1 y hy y (by simp [g]) rfl
      ·exact dF5 y (by simp [hy]) g
      ·have:=hH1 y hy;omega
     ·exact dG1 y hy y (by simp [hz]) rfl
   ·simp only [List.mem_append] at hy
    rcases hy with hy | hy | hy
    ·exact .inl (by simp [hy])
    ·rcases hfin y hy with g | g | g
     ·exact .inl (by simp [g])
     ·exact .inl (by simp [g])
     ·exact .inr g
    ·exact .inl (by simp [hy])
  have q1x:=rnodes_ok.fr _ _ _ _ _ q1 fun y hy=>fr y (hH1 y hy) fun hm=>dG1 y hy y (by simp [hm]) rfl
  have q3x:=rvss_ok.fr _ _ _ _ _ q3 fun y hy=>fr y (hH3 y hy) fun hm=>dG23 y hm y hy rfl
  obtain ⟨h7,F7,e7,t7,m7⟩:=put h6 (G1++(F6++G3)) 3 [.sl 6 a6 (w.places[k].log.length+1) c6] [.int .i64 w.places[k].me,.int .i64 w.places[k].clock,s1,.sl 6 a6 (w.places[k].log.length+1) c6,s3,.bool w.places[k].fell] ⟨w.places[k].me,w.places[k].clock,w.places[k].chain,w.places[k].log ++ [v],w.places[k].got,w.places[k].fell⟩ hmv rfl ⟨_,_,_,G1,F6,G3,rfl,rfl,q1x,p2,q3x⟩
  have l5:ld h4 b' (i'+k) 3 1=some [s2]:=by rw [zeR hb1 hb2];rfl
  have l3:ld h3 b' (i'+k) 3 1=some [s2]:=by
   have hb3:h4[b']?=h3[b']?:=m4.fr b' (H.lt.1 b' hbF) (fun hm=>bF1 (by rw [List.mem_singleton] at hm;exact hm ▸ hbF))
   rw [← znN hb3];exact l5
  have l6:ld (h4 ++ [.rows 6 65 false [v.cs av cv]]) b' (i'+k) 3 1=some [s2]:=by rw [znN (List.getElem?_append_left (Nat.lt_of_lt_of_le (H.lt.1 b' hbF) m4.le))];exact l5
  simp only [Ver.cs] at e4 p1 l6
  rw [zaN,zab hk,zam,Int.toNat_natCast,l3,zam,zad,zao,esw,e4,zac,zbx,zad,zaa,zad,zaa,zad,zaa,zad,zah,zad,zdl,zad,zaS,zao,l5,l6,zmW,zgt,zgt,zaT,p1,zah,zab hk,zam,e7,zam]
  have hs':=hset ⟨w.places[k].me,w.places[k].clock,w.places[k].chain,w.places[k].log ++ [v],w.places[k].got,w.places[k].fell⟩
  rw [← hs'] at t7 ⊢
  refine ⟨_,_,_,_,_,_,_,_,_,_,_,_,h7,F7,rfl,t7.toRo,ztm hsm ⟨hpsm.1,⟨by simp;omega,fun u hu=>?_⟩,hpsm.2.2⟩,by rw [hs'];omega,zqI m7 r4.lt (fun hm=>(List.mem_append.1 hm).elim bF1 b5),((r4.keep m7 (fun hm=>(List.mem_append.1 hm).elim bF1 b5) fun y hy=>(List.mem_append.1 hy).elim (hge1 y) fun g=>m4.ge H.hl (fun z hz=>by rw [List.mem_singleton] at hz;subst hz;exact r3.ge) y (by simp [g]))).up (by omega),Nat.le_trans hl4 m7.le⟩
  rcases List.mem_append.1 hu with hu | hu
  ·exact hpsm.2.1.2 u hu
  ·rw [List.mem_singleton] at hu;subst hu
   exact ⟨by omega,by omega⟩
 | false =>
 rw [za5]
 cases x==(2:Int) with
 | true =>
  obtain ⟨l,al,cl,h4,G4,e4,t4,sm4,r4,m4⟩:=zn7 r3 (by omega) H.hl
  obtain ⟨nd5,b5⟩:=zkD m4 n1 H.lt.1
  have hr1:=m4.keep rplaces_ok H.r1 (notb fun y hy=>by simp [hy])
  have hG4:=rnodes_ok.bd _ _ _ _ t4
  obtain ⟨b',i',rs,row,G,rfl,hbF,hbG,hb1,hb2,hel,hGF,hGn,put⟩:=Sli.at_aside (lo:=lo) (E:=G4) rplace_ok hr1 hk nd5 hge1 hG4
  obtain ⟨s1,s2,s3,H1',H2',H3',rfl,rfl,q1,q2,q3⟩:=hel
  have nd23:(G4++(H2'++H3')).Nodup:=by
   rw [List.nodup_append]
   refine ⟨(List.nodup_append.1 nd5).2.1,(List.nodup_append.1 hGn).2.1,fun y hy z hz e=>?_⟩
   subst e
   exact (List.nodup_append.1 nd5).2.2 y (hGF y (List.mem_append_right _ hz)) y hy rfl
  have hmv:Mv h4 ((H1'++(H2'++H3'))++G4) h4 (G4++(H2'++H3')):=⟨Nat.le_refl _,fun _ _ _=>rfl,nd23,fun y hy=>by
   simp only [List.mem_append] at hy ⊢
   left;grind⟩
  obtain ⟨h5,F5,e5,t5,m5⟩:=put h4 (G4++(H2'++H3')) 2 [.sl 2 al l.length cl] [.int .i64 w.places[k].me,.int .i64 w.places[k].clock,.sl 2 al l.length cl,s2,s3,.bool w.places[k].fell] ⟨w.places[k].me,w.places[k].clock,l,w.places[k].log,w.places[k].got,w.places[k].fell⟩ hmv rfl ⟨_,_,_,G4,H2',H3',rfl,rfl,t4,q2,q3⟩
  rw [zaN,e4,zac,zbx,zad,zah,zao,zab hk,zam,Int.toNat_natCast,e5,zam]
  have hs':=hset ⟨w.places[k].me,w.places[k].clock,l,w.places[k].log,w.places[k].got,w.places[k].fell⟩
  rw [← hs'] at t5 ⊢
  exact ⟨_,_,_,_,_,_,_,_,_,_,_,_,h5,F5,rfl,t5.toRo,ztm hsm ⟨sm4,hpsm.2.1,hpsm.2.2⟩,by rw [hs'];omega,zqI m5 r4.lt (fun hm=>(List.mem_append.1 hm).elim bF1 b5),((r4.keep m5 (fun hm=>(List.mem_append.1 hm).elim bF1 b5) fun y hy=>(List.mem_append.1 hy).elim (hge1 y) fun g=>m4.ge H.hl (fun z hz=>by rw [List.mem_singleton] at hz;subst hz;exact r3.ge) y (by simp [g]))).up (by omega),Nat.le_trans (Nat.le_trans H.hl m4.le) m5.le⟩
 | false =>
 rw [za5]
 cases x==(3:Int) with
 | true =>
  obtain ⟨a',c',F',k1,k2,k3⟩:=H.r1.one_on (e':=0) (by omega)
  rw [zaN,k1]
  have hdl:(w.places.drop 1).length=w.places.length - 1:=by simp
  exact ⟨w.places.drop 1,_,_,_,_,_,_,_,_,_,_,_,h3,F',rfl,k2,fun p hp=>hsm p (List.mem_of_mem_drop hp),by omega,fun hm=>bF1 (k3 b hm),r3.up (by omega),H.hl⟩
 | false =>
 rw [za5]
 cases x==(4:Int) with
 | true =>
  obtain ⟨g,h4,e4,_,_,r4,m4⟩:=pick r3 (by omega) 3
  have H4:=keepW (m23.trans m4)
  obtain ⟨v,q,h5,F5,e5,t5,hv,r5,m5⟩:=zkx r4 (by omega) H4.hl
  obtain ⟨⟨_,_,n3,_⟩,_⟩:=nd4 H4.nd
  have bF3:b∉F3:=fun hm=>bF (by simp [hm])
  obtain ⟨nd5,b5⟩:=zkD m5 n3 H4.lt.2.2.1
  have hr3:=m5.keep rframes_ok H4.r3 (notb fun y hy=>by simp [hy])
  have hr1:=m5.keep rplaces_ok H4.r1 (notb fun y hy=>by simp [hy])
  have hF5:=rtags_ok.bd _ _ _ _ t5
  have hF3:=rframes_ok.bd _ _ _ _ hr3
  have hl5:=Nat.le_trans H4.hl m5.le
  have mx:Mv h5 [] (h5 ++ [.rows 9 173 false [.int .i64 (k:Nat) :: .int .i64 g :: .int .i64 0 :: v.cs (some (q,0)) (some 4)]]) []:=Mv.snoc
  have hr3x:=mx.keep0 rframes_ok hr3
  have t5x:=mx.keep0 rtags_ok t5
  have hge3:∀ y∈F3,lo≤y:=fun y hy=>H.ge y (by simp [hy])
  obtain ⟨a6,c6,h6,F6,p1,p2,p3,p4,p5,p6⟩:=Sli.push (lo:=lo) (bytes:=96) (e:=173) rframe_ok.fr hr3x (xs := [.int .i64 (k:Nat) :: .int .i64 g :: .int .i64 0 :: v.cs (some (q,0)) (some 4)]) (ys := [⟨(k:Nat),g,0,v⟩]) (Gs := [F5]) ⟨⟨_,rfl,_,rfl,t5x⟩,trivial⟩ (by decide) (by simp;omega) hge3 (by simp;omega)
   (by simpa using nd5)
   (fun y hy=>by
    rw [List.mem_append] at hy
    rw [List.length_append]
    rcases hy with hy | hy
    ·have:=hF3 y hy;omega
    ·have:=hF5 y (by simpa using hy);omega) (by simp)
  simp only [List.length_singleton] at p1 p2
  have hlen:h5.length≤h6.length:=by rw [List.length_append] at p3;omega
  have fr:∀ y,y<h5.length→y∉F3→h6[y]?=h5[y]?:=fun y hy hn=>by
   rw [p4 y (by rw [List.length_append];omega) hn,List.getElem?_append_left hy]
  have m6:Mv h5 F3 h6 []:=⟨hlen,fr,by simp,by simp⟩
  simp only [Ver.cs] at e5 p1
  rw [zaN,e4,zac,zaa,e5,zac,zbx,zad,zaa,zad,zaa,zad,zaa,zad,zah,zad,zdl,zad,zaS,zao,zaT,p1,zah]
  exact ⟨w.places,_,_,_,_,_,_,_,_,_,_,_,h6,F1,rfl,(m6.keep rplaces_ok hr1 d13).toRo,hsm,by omega,bF1,(r5.keep m6 bF3 hge3).up (by omega),Nat.le_trans hl5 hlen⟩
 | false =>
 rw [za5]
 cases x==(5:Int) with
 | true =>
  obtain ⟨x1,k1,f1,_,_,r4,m4⟩:=pick r3 (by omega) 5
  obtain ⟨x2,k2,f2,_,_,r5,m5⟩:=pick r4 (by omega) 5
  obtain ⟨x3,k3,f3,_,_,r6,m6⟩:=pick r5 (by omega) 5
  obtain ⟨t,k4,f4,r7,m7⟩:=zio r6 (by omega)
  have H4:=keepW ((((m23.trans m4).trans m5).trans m6).trans m7)
  obtain ⟨a5,c5,h5,G5,_,H5,M5,s5⟩:=zdM (d:=⟨x1,x2,x3,t⟩) H4 (by omega)
  obtain ⟨⟨_,_,_,n4⟩,_,_,d14',_⟩:=nd4 H4.nd
  obtain ⟨a6,c6,h6,F6,e6,r8,m8⟩:=zeN (lo:=lo) (bytes:=40) (e:=179) (El:=flat Done.cs) zcE H4.r4 (row:=Done.cs ⟨x1,x2,x3,t⟩) (x:=⟨x1,x2,x3,t⟩) (G := []) (h1:=k4 ++ [.rows 5 179 false [Done.cs ⟨x1,x2,x3,t⟩]])
   ⟨rfl,rfl⟩ Mv.snoc n4 (fun y hy=>H4.ge y (by simp [hy])) H4.hl (by decide) (by omega)
  simp only [Tag.cs] at f4
  simp only [Done.cs] at e6
  rw [zaN,f1,zac,zaa,f2,zac,zaa,f3,zac,zaa,f4,zac,zbx,zad,zaa,zad,zaa,zao,zaT,e6,zah]
  exact ⟨w.places,_,_,_,_,_,_,_,_,_,_,_,h6,F1,rfl,(m8.keep rplaces_ok H4.r1 fun y hy hm=>d14' y hy hm).toRo,hsm,by omega,bF1,(r7.keep m8 (fun hm=>bF (by simp [hm])) fun y hy=>H4.ge y (by simp [hy])).up (by omega),Nat.le_trans H4.hl m8.le⟩
 | false =>
 rw [za5]
 cases x==(6:Int) with
 | true =>
  obtain ⟨l,al,cl,h4,G4,e4,t4,_,r4,m4⟩:=zty r3 (by omega) H.hl
  obtain ⟨⟨_,n2,_,_⟩,_⟩:=nd4 H.nd
  have bF2:b∉F2:=fun hm=>bF (by simp [hm])
  obtain ⟨nd5,b5⟩:=zkD m4 n2 H.lt.2.1
  have hr2:=m4.keep rsesss_ok H.r2 (notb fun y hy=>by simp [hy])
  have hr1:=m4.keep rplaces_ok H.r1 (notb fun y hy=>by simp [hy])
  have hG4:=rtags_ok.bd _ _ _ _ t4
  have hge2:∀ y∈F2,lo≤y:=fun y hy=>H.ge y (by simp [hy])
  obtain ⟨b',i',rs,row,G,rfl,hbF,hbG,hb1,hb2,hel,hGF,hGn,put⟩:=Sli.at_aside (lo:=lo) (E:=G4) (k:=0) zhC hr2 (by omega) nd5 hge2 hG4
  obtain ⟨v,rfl,hv⟩:=hel
  have hmv:Mv h4 (G++G4) h4 G4:=⟨Nat.le_refl _,fun _ _ _=>rfl,(List.nodup_append.1 nd5).2.1,fun y hy => .inl (by simp [hy])⟩
  obtain ⟨h5,F5,e5,t5,m5⟩:=put h4 G4 1 [.sl 2 al l.length cl] [.int .i64 w.sess[0].place,.sl 2 al l.length cl,.int .i64 w.sess[0].wait.time,.int .i64 w.sess[0].wait.place,.int .i64 w.sess[0].key] ⟨w.sess[0].place,l,w.sess[0].wait,w.sess[0].key⟩ hmv rfl ⟨_,rfl,t4⟩
  have hG4':∀ y∈G4,h3.length≤y:=fun y hy=>by
   rcases m4.sub y (by simp [hy]) with g | g
   ·rw [List.mem_singleton] at g;subst g;exact absurd hy b5
   ·exact g.1
  rw [zaN,e4,zac,zbx,zad,zah,zao,zdd ⟨by omega,by omega⟩,zam,e5,zam]
  exact ⟨w.places,_,_,_,_,_,_,_,_,_,_,_,h5,F1,rfl,(m5.keep rplaces_ok hr1 fun y hy hm=>(List.mem_append.1 hm).elim (d12 y hy) fun g=>by have:=hG4' y g;have:=H.lt.1 y hy;omega).toRo,hsm,by omega,bF1,(r4.keep m5 (fun hm=>(List.mem_append.1 hm).elim bF2 b5) fun y hy=>(List.mem_append.1 hy).elim (hge2 y) fun g=>Nat.le_trans H.hl (hG4' y g)).up (by omega),Nat.le_trans (Nat.le_trans H.hl m4.le) m5.le⟩
 | false =>
  rw [za5]
  exact ⟨w.places,_,_,_,_,_,_,_,_,_,_,_,h3,F1,rfl,H.r1.toRo,hsm,by omega,bF1,r3.up (by omega),H.hl⟩
theorem zsr (r:Rd lo h b n) (hn:n≤200000) (hl:lo≤h.length) :
  ∃ (p:Place) (cs:List V) (h':Heap) (F':List Nat),evl lo 143 [.ptr (some (b,(0,0)))] h=some (.agg cs,h')∧zdt false h' cs p F'∧zcc p∧b∉F'∧Rd lo h' b (n+6001)∧lo≤h'.length:=by
 obtain ⟨l,a,c,a2,n2,c2,a3,n3,c3,a4,n4,c4,h1,F1,e1,t1,hsm,hlen,hb,r1,hl1⟩:=zn5 r hn hl
 obtain ⟨x,h2,e2,g2,g2',r2,m2⟩:=pick r1 (by omega) ((l.length:Nat):Int)
 have hx:=g2' (by omega)
 obtain ⟨k,rfl⟩:∃ k:Nat,x=(k:Int):=⟨x.toNat,by omega⟩
 have hk:k<l.length:=by omega
 have t2:=m2.keep (Sli.ok rplace_ok) t1 fun y hy hm=>hb (by rw [List.mem_singleton] at hm;exact hm ▸ hy)
 obtain ⟨o,row,G,ha,hld,hel,hG,_⟩:=t2.read hk
 obtain ⟨s1,s2,s3,b1,d1,b2,d2,b3,d3,G1,G2,G3,rfl,rfl,es1,es2,es3,q1,q2,q3⟩:=hel.form
 have hld6:ld h2 o.1 (o.2+k) 0 6=some [.int .i64 l[k].me,.int .i64 l[k].clock,s1,s2,s3,.bool l[k].fell]:=by rw [hld];exact zhm rfl
 refine ⟨l[k],l[k].cs b1 d1 b2 d2 b3 d3,h2,G1++(G2++G3),zl0 ?_,⟨_,_,_,_,_,_,rfl,_,_,_,G1,G2,G3,rfl,rfl,q1,q2,q3⟩,hsm _ (List.getElem_mem hk),fun hm=>hb (hG b hm),r2.up (by omega),Nat.le_trans hl1 m2.le⟩
 rw [e1,zac,zbx,zad,zah,zad,zah,zad,zah,zad,zah,zao,e2,zac,zaa,zab hk,ha,zam,Int.toNat_natCast,hld6,zam,zad,zaa,zad,zaa,zad,es1,zad,es2,zad,es3,zad,zaS,zao]
theorem zoH {a0:Option (Nat×Nat)}{c0:Option Nat}{code:List UInt8} (hs:RBytes h [.sl 1 a0 code.length c0] code F) (hF:∀ y∈F,y<lo) (hl:lo≤h.length) (hn:code.length≤1048576) (hcap:∀ k,c0=some k→code.length≤k) :
  ∃ (p:Place) (cs:List V) (h':Heap) (F':List Nat),evl lo 53 [.sl 1 a0 code.length c0] h=some (.agg cs,h')∧zdt false h' cs p F'∧zcc p∧lo≤h'.length:=by
 obtain ⟨b,h1,e1,r1,m1⟩:=ztD hs hF hl hn hcap
 obtain ⟨p,cs,h2,F2,e2,t2,sm2,_,r2,l2⟩:=zsr r1 (by omega) (Nat.le_trans hl m1.le)
 refine ⟨p,cs,h2,F2,zhY ?_,t2,sm2,l2⟩
 obtain ⟨x1,y1,x2,y2,x3,y3,rfl,_⟩:=t2
 rw [e1,zac,zyc,e2,zac,zbx,zad,zaa,zad,zaa,zad,zah,zad,zah,zad,zah,zad,zaS,zao]
end
end Go.Proofs.YthdfojchihooeaaGreat
namespace Go.Proofs.YthdfojchihooeaaGreat
open Go T


set_option maxRecDepth 100000
section
variable {h:Heap}
theorem zxO {n t:Nat}{xs:List V} (hu:Tryz.prog.underlying t=some (.int .u8)) (hx:TV Tryz.prog h (n+1) t xs):∃ u:UInt8,xs=bcs u:=by
 simp only [TV,hu] at hx
 obtain ⟨i,rfl,h2⟩:=hx
 have e1:IntKind.u8.min=0:=by decide
 have e2:IntKind.u8.max=255:=by decide
 simp only [Lit.wf,Bool.and_eq_true,decide_eq_true_eq,e1,e2] at h2
 refine ⟨UInt8.ofNat i.toNat,?_⟩
 unfold bcs
 rw [UInt8.toNat_ofNat',Nat.mod_eq_of_lt (by omega),show ((i.toNat:Nat):Int)=i by omega]
theorem zvR {n:Nat}{x:V} (hx:ArgV Tryz.prog h (n+2) 53 x):∃ (a:Option (Nat×Nat)) (c:Option Nat) (l:List UInt8) (F:List Nat),x = .sl 1 a l.length c∧RBytes h [.sl 1 a l.length c] l F∧(∀ y∈F,y<h.length)∧∀ k,c=some k→l.length≤k:=by
 have hx2:TV Tryz.prog h (n+2) 53 [x]:=by
  unfold ArgV at hx;rw [Tryz.underlying53] at hx;exact hx
 have hx3:=hx2
 simp only [TV,Tryz.underlying53] at hx3
 obtain ⟨a,c,rs,e,⟨_,hcap⟩,_⟩:=hx3
 injection e with e _
 subst e
 obtain ⟨l,F,h1,_⟩:=zxj (El:=flat bcs) (bd:=fun _=>True) (ee:=0) (R:=1) Tryz.underlying53 (by kernel_rfl) (fun row hr=>by obtain ⟨t,rfl⟩:=zxO (n:=n) Tryz.underlying5 hr;exact ⟨t,[],⟨rfl,rfl⟩,trivial⟩) hx2
 have hv:=h1.val
 have hc:Tryz.prog.cellsOf 5=1:=by kernel_rfl
 rw [hv,hc] at h1
 exact ⟨a,c,l,F,by rw [hv,hc],h1,(Sli.ok zcE).bd _ _ _ _ h1,fun k hk=>by rw [← hv];exact hcap k hk⟩
end
end Go.Proofs.YthdfojchihooeaaGreat
namespace Go.Proofs.YthdfojchihooeaaGreat
open Go T


set_option maxRecDepth 100000
section
variable {lo:Nat}{ro ro':Bool}{h:Heap}{F F':List Nat}
theorem zuH {p:Place}{a1 a2 a3 a1' a2' a3':Option (Nat×Nat)}{c1 c2 c3 c1' c2' c3':Option Nat} (h1:RPlace ro h (p.cs a1 c1 a2 c2 a3 c3) p F) (h2:RPlace ro' h (p.cs a1' c1' a2' c2' a3' c3') p F') (hn:zcc p) :
  evl lo 51 [.agg (p.cs a1 c1 a2 c2 a3 c3),.agg (p.cs a1' c1' a2' c2' a3' c3')] h=some (.bool true,h):=by
 obtain ⟨n1,n2,n3⟩:=hn
 have n3':=n3.1
 obtain ⟨G1,G2,G3,_,p1,p2,p3⟩:=h1.cells
 obtain ⟨G1',G2',G3',_,q1,q2,q3⟩:=h2.cells
 refine zmx (h':=h) ?_
 rw [zqg,zaN,zqg,zaN,zx9,zaN,zxc p1 q1 n1,zac,zbi,zaN,zrS p2 q2 n2,zac,zbi,zaN,zqg,zaN]
 refine (zlw (n:=p.got.length) (fun i=>zb2 h.length false (i:Nat) p.me p.clock a1 p.chain.length c1 a2 p.log.length c2 a3 p.got.length c3 p.fell p.me p.clock a1' p.chain.length c1' a2' p.log.length c2' a3' p.got.length c3' p.fell h) fun i hi=>?_).trans ?_
 ·obtain ⟨o,s,b1,d1,G,ha,ho,es,hp,_⟩:=p3.get hi
  obtain ⟨o',s',b1',d1',G',ha',ho',es',hp',_⟩:=q3.get hi
  rw [zb2.e,zal (by omega),zab hi,ha,zam,Int.toNat_natCast,ho,zam,zad,zao,es,zab hi,ha',zam,ho',zam,zad,zao,es',zrS hp hp' (n3.2 _ (List.getElem_mem hi)),zac,zbi,zaN,zap (show i<9223372036854775807 by omega)]
 ·rw [zb2.e,zaj (by omega)]
end
theorem zlq {h:Heap}{F:List Nat}{a0:Option (Nat×Nat)}{c0:Option Nat}{code:List UInt8} (hs:RBytes h [.sl 1 a0 code.length c0] code F) (hF:∀ y∈F,y<h.length) (hcap:∀ k,c0=some k→code.length≤k) :
  ∃ h',evl h.length 10 [.sl 1 a0 code.length c0] h=some (.bool true,h'):=by
 suffices hk:∃ h',_=some (V.bool true,h') from by
  obtain ⟨h',e⟩:=hk
  exact ⟨h',zi3 e⟩
 by_cases hbig:(code.length:Int)>1048576
 ·rw [zal hbig];exact ⟨h,rfl⟩
 rw [zaj hbig]
 obtain ⟨p,cs,h1,F1,e1,r1,sm1,l1⟩:=zoH (lo:=h.length) hs hF (Nat.le_refl _) (by omega) hcap
 obtain ⟨raw2,cs2,h2,F2,e2,n2,r2,m2⟩:=zmj (lo:=h.length) r1 l1 sm1
 have r12:=m2.keep0 zji r1
 have l2:=Nat.le_trans l1 m2.le
 obtain ⟨raw3,cs3,h3,F3,e3,n3,r3,m3⟩:=zme (lo:=h.length) r12 l2 sm1
 have r13:=m3.keep0 zji r12
 have l3:=Nat.le_trans l2 m3.le
 have r23:=m3.keep0 zji r2
 have hX:∃ X,zg6 p (ze6 p)=X:=⟨_,rfl⟩
 obtain ⟨X,hX⟩:=hX
 have hsm:zcc X:=by
  rw [← hX];unfold zg6
  cases hpo:zan p with
  | false=>exact zwo
  | true=>exact (zfE (zcV (zqH hpo)) (by decide) (by decide) (by decide)).1
 rw [hX] at n2 n3 r3 r23
 obtain ⟨s1,s2,s3,x1,y1,x2,y2,x3,y3,rfl,k1,k2,k3,rfl⟩:=n2
 obtain ⟨t1,t2,t3,z1,w1,z2,w2,z3,w3,rfl,j1,j2,j3,rfl⟩:=n3
 obtain ⟨b1,d1,b2,d2,b3,d3,rfl,q1⟩:=r13
 obtain ⟨_,_,_,_,_,_,_,q2⟩:=r23
 obtain ⟨_,_,_,_,_,_,_,q3⟩:=r3
 obtain ⟨K1,K2,K3,_,f1,f2,f3⟩:=q2.cells
 obtain ⟨G1,G2,G3,_,g1,g2,g3⟩:=q1.cells
 simp only [Place.cs] at e1 e2 e3
 have cf:=zuH (lo:=h.length) q2 q3 hsm
 have ok1:=zhh (lo:=h.length) g1 g2 g3 sm1
 have ok2:=zhh (lo:=h.length) f1 f2 f3 hsm
 simp only [Place.cs] at cf ok1 ok2
 rw [e1,zac,zbx,zad,zaa,zad,zaa,zad,zah,zad,zah,zad,zah,zad,zaS,zao,e2,zac,zs2,zad,zbx,zad,zaa,zad,zaa,zad,k1,zad,k2,zad,k3,zad,zaS,zao,zad,zbi]
 cases hpo:zan p with
 | false =>
  rw [hpo] at e3 ok1
  rw [Bool.false_and] at e3 ⊢
  rw [za5,zao,e3,zac,zs2,zad,zbx,zad,zaa,zad,zaa,zad,j1,zad,j2,zad,j3,zad,zaS,zao,zad,zbi,za5,zao,cf,zac,zbi,zaN,ok1,zac,zbi,za5,cf,zac,zbi,zaN]
  exact ⟨_,rfl⟩
 | true =>
 rw [hpo] at e3 ok1
 rw [Bool.true_and] at e3 ⊢
 cases hcj:zct p.chain with
 | false =>
  have hX':X=p:=by
   rw [← hX];unfold zg6 ze6 zdW;rw [hpo,hcj];rfl
  subst hX'
  rw [hcj] at e3
  have cf2:=zuH (lo:=h.length) q2 q1 sm1
  simp only [Place.cs] at cf2
  rw [za5,zao,e3,zac,zs2,zad,zbx,zad,zaa,zad,zaa,zad,j1,zad,j2,zad,j3,zad,zaS,zao,zad,zbi,za5,zao,cf,zac,zbi,zaN,ok1,zac,zbi,zaN,cf2,zac,zbi,zaN]
  exact ⟨_,rfl⟩
 | true =>
 have hX':X=ze6 p:=by rw [← hX];unfold zg6;rw [hpo];rfl
 rw [hcj] at e3
 have hch:=zic hpo
 obtain ⟨u1,u2,_⟩:=ziK hch
 have hxc:X.chain=zhf p.chain:=by rw [hX'];unfold ze6 zdW;rw [hcj];rfl
 have hxl:X.log=p.log:=by rw [hX'];rfl
 have hxk:X.clock=p.clock:=by rw [hX'];rfl
 have hxo:zan X=true:=by rw [hX'];exact zqH hpo
 rw [hxo] at ok2
 have hchx:Ch X.chain:=zic hxo
 obtain ⟨a5,c5,h5,F5,e5,r5,m5⟩:=zgX (lo:=h3.length) f1 (Nat.le_refl _) hsm.1 hchx
 have g1':=m5.keep0 rnodes_ok g1
 obtain ⟨a6,c6,h6,F6,e6,r6,m6⟩:=zgX (lo:=h.length) g1' (Nat.le_trans l3 m5.le) sm1.1 hch
 have r56:=m6.keep0 rtags_ok r5
 have hst:zaO X.chain=zaO p.chain:=by rw [hxc];exact u2
 rw [hst] at r56 e5
 have cv:=zrS (lo:=h.length) (by rw [← hxl];exact f2:RVers false h3 [.sl 6 x2 p.log.length y2] p.log K2) g2 sm1.2.1
 have hcl:=sm1.1.1
 rw [zaN,zao,e3,zac,zs2,zad,zbx,zad,zaa,zad,zaa,zad,j1,zad,j2,zad,j3,zad,zaS,zao,zad,zbi,zaN,zao,cf,zac,zbi,zaN,ok1,zac,zbi,zaN,ok2,zac,zbi,zaN,zap (by omega),show (X.chain.length:Int)=((p.chain.length+1:Nat):Int) by rw [hxc,u1],zqg,zaN,hxl,cv,zac,zbi,zaN]
 rw [e5,zac,zbx,zad,zah,zao,e6,zac,zbx,zad,zah,zao,zwc r56 r6 (by have:=hch.four.1;omega),zac,zbi,zaN,hxk,zqg,zaN]
 exact ⟨_,rfl⟩
theorem main_FnPlaceJoin {h:Heap}{x:V} (hx:ArgV Tryz.prog h 12 53 x):∃ h',evl h.length 10 [x] h=some (.bool true,h'):=by
 obtain ⟨a,c,l,F,rfl,h1,h2,h3⟩:=zvR (n:=10) hx
 exact zlq h1 h2 h3
end Go.Proofs.YthdfojchihooeaaGreat
