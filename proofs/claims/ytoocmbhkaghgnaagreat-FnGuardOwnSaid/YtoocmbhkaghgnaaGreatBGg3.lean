/- Part 3 of what is shown for the law Gg, whatever the input; no condition of its own. -/
import Derived.Test.YtoocmbhkaghgnaaGreatBGg2
set_option linter.unusedVariables false
set_option linter.unusedSimpArgs false
set_option linter.unnecessarySimpa false
set_option maxRecDepth 100000
namespace Go.Proofs.YtoocmbhkaghgnaaGreat
open Go T


variable {α:Type}{El:Rel α}{l:List α}
theorem HR {h:Heap}{lo R e n bytes:Nat}{a:Pq}{c:Nq}{ys:List α}{F:List Nat}{xs:List (List V)}{Gs:List (List Nat)} (hfr:El.Fr)
  (hs:Sli false R e El h [.sl R a n c] l F) (hx:EAll El h xs ys Gs) (hb:0<bytes) (hsz:(l.length+ys.length)*bytes<=140737488355328) (hlo:∀ b∈F,lo<=b) (hl:lo<=h.length)
  (hnd:(F++Gs.flatten).Nodup) (hF:∀ b∈F++Gs.flatten,b<h.length) :
  ∃ a' c' h' F',(∀ {R':Type} (K:V->Heap->Option R'),CJ lo e R bytes (.sl R a n c) xs h K=K (.sl R a' (l.length+ys.length) c') h')/\Sli false R e El h' [.sl R a' (l.length+ys.length) c'] (l++ys) F'/\h.length<=h'.length /\
   (∀ b,b<h.length->b∉F->h'[b]?=h[b]?)/\(∀ b∈F',b∈F++Gs.flatten\/(h.length<=b/\b<h'.length))/\F'.Nodup:=by
 cases ys with
 | nil =>have hx0:xs = []:=YM hx.len.1;have hn:=hs.val;subst hx0;subst hn;rw[YK] at hnd;exact ⟨a,c,h,F,λK=>rfl,by rw[ZI];exact hs,YH _,λ_ _ _=>rfl,λb hb => .inl (by simp[hb]),hnd.1⟩
 | cons y ys=>exact Sli.push hfr hs hx hb hsz hlo hl hnd hF (by simp)
theorem Sli.parts {R e:Nat}{h:Heap}{a:Pq}{c:Nq}{F:List Nat} (hs:Sli false R e El h [.sl R a l.length c] l F) (hnd:F.Nodup) :
  ∃ Fs:List (List Nat),Fs.flatten.Nodup/\(∀ y∈Fs.flatten,y∈F)/\(∀ b i,a=some (b,i)->b∈F/\b∉Fs.flatten)/\∀ k,k<=l.length->∃ rP rQ,EAll El h rP (l.take k) (Fs.take k)/\EAll El h rQ (l.drop k) (Fs.drop k) /\
   (∀ {T:Type} (h':Heap),(∀ b i,a=some (b,i)->h'[b]?=h[b]?)->∀ K:List (List V)->Option T,(Ay a l.length c none (some (Iv (k:Nat))) none λa n c=>Ap R h' (.sl R a n c) K)=K rP) /\
   (∀ {T:Type} (h':Heap),(∀ b i,a=some (b,i)->h'[b]?=h[b]?)->∀ K:List (List V)->Option T,(Ay a l.length c (some (Iv (k:Nat))) none none λa n c=>Ap R h' (.sl R a n c) K)=K rQ):=by
 obtain ⟨R1,a1,c1,e1,g⟩:=hs;injection e1 with e1 _;injection e1 with e0 e2 _ e3;subst e2;subst e3;cases a with
 | none =>
  obtain ⟨rfl,rfl,rfl⟩:=g;refine ⟨[],by simp,by simp,λb i h=>by simp at h,λk hk=>?_⟩;have hk0:k=0:=by simpa using hk
  subst hk0;refine ⟨[],[],trivial,trivial,λh' _ K=>?_,λh' _ K=>?_⟩
  ·unfold Ay E8 Ic IX;simp only[Aa,Z7];rw[DA ⟨by simp,by simp⟩];simp[Ap]
  ·unfold Ay E8 Ic IX;simp only[Aa,Z7];rw[DA ⟨by simp,by simp⟩];simp[Ap,Nk]
 | some p =>
  obtain ⟨b,i⟩:=p;obtain ⟨_,rs,Fs,g1,g2,g3,_,g5,rfl⟩:=g;rw[Y2] at hnd;have key:∀ {T:Type} (h':Heap),h'[b]?=h[b]?->∀ (K:List (List V)->Option T) (j m:Nat) (c8:Nq),j+m<=rs.length->Ap R h' (.sl R (some (b,j)) m c8) K=K ((rs.drop j).take m):=λh' hb' K j m c8 hj=>by
   simp only[Ap,Kc,GN];cases m with
   | zero=>simp
   | succ m =>
    simp only;rw[show De h' b j (m+1)=some ((rs.drop j).take (m+1)) by
     simp only[De,Heap.rows?,hb',g1,Za];rw[Fz hj]]
    rfl
  refine ⟨Fs,hnd.2,λy hy=>Zs _ hy,λb' i' e=>by injection e with e;injection e with e1 e2;subst e1;exact ⟨by simp,hnd.1⟩,λk hk=>?_⟩;have hrP:((rs.drop i).take l.length).take k=(rs.drop i).take k:=by rw[List.take_take,Nat.min_eq_left hk]
  have hrQ:((rs.drop i).take l.length).drop k=(rs.drop (i+k)).take (l.length - k):=by rw[List.drop_take,ZT]
  refine ⟨(rs.drop i).take k,(rs.drop (i+k)).take (l.length - k),by rw[<- hrP];exact g5.take k,by rw[<- hrQ];exact g5.drop k,λh' hh K=>?_,λh' hh K=>?_⟩
  ·unfold Ay E8 Ic IX;simp only[Aa,Z7,BA];have:=key h' (hh b i rfl) K i k c (by omega);cases c with
   | none=>simp only;rw[DA ⟨by omega,by omega⟩];exact this
   | some N=>simp only;rw[DA ⟨by omega,by have:=(g3 N rfl).1;omega⟩];exact this
  ·unfold Ay E8 Ic IX;simp only[Aa,Z7,BA];rw[DA ⟨by omega,by omega⟩];cases c with
   | none=>exact key h' (hh b i rfl) K (i+k) (l.length - k) none (by omega)
   | some N =>
    have hN:=(g3 N rfl).1;unfold Nk;simp only;cases hb:Nat.beq N k with
    | false=>rw[Au];exact key h' (hh b i rfl) K (i+k) (l.length - k) _ (by omega)
    | true =>have:=YL hb;rw[Ao,show l.length - k=0 by omega];simp[Ap,A8]
def DX (out:List Ver) (x:Ver×Ver):List Ver:=bif AZ x.2 x.1 then Er x.1 out else out
def C3 (s t:List Ver):List Ver:=(s.zip t).foldl DX []
theorem Ph {v:Ver}:∀ {l:List Ver}{k:Nat},k<=l.length->(∀ i (hi:i<l.length),i<k->AZ l[i] v=true)->(∀ hk:k<l.length,AZ l[k] v=false)->Er v l=l.take k++v :: l.drop k
 | [],k,hk,_,_=>by simp[Er]
 | u :: r,0,hk,_,h2=>by have:=h2 (by simp);simp only[List.getElem_cons_zero] at this;simp[Er,this]
 | u :: r,k+1,hk,h1,h2=>by have h0:=h1 0 (by simp) (by omega);simp only[List.getElem_cons_zero] at h0;simp only[Er,h0,cond_true,List.take_succ_cons,List.drop_succ_cons,Zl];rw[Ph (l:=r) (k:=k) (by simpa using hk) (λi hi hik=>by have:=h1 (i+1) (by simpa using hi) (by omega);simpa using this) (λhkr=>by have:=h2 (by simpa using hkr);simpa using this)]
section
variable {lo:Nat}{h:Heap}{F F' G:List Nat}{a a' av:Pq}{c c' cv:Nq}
theorem GT (ok:El.Ok) {R e bytes:Nat}{rows:List (List V)}{Fs:List (List Nat)} (hx:EAll El h rows l Fs) (hnd:Fs.flatten.Nodup) (hF:∀ y∈Fs.flatten,y<h.length) (hb:0<bytes) (hsz:l.length*bytes<=140737488355328) (hl:lo<=h.length) :
  ∃ a' c' h' F',(∀ {T:Type} (K:V->Heap->Option T),CJ lo e R bytes (.sl R (some (h.length,0)) 0 (some 0)) rows (h ++ [.rows R e false []]) K=K (.sl R a' l.length c') h')/\Sli false R e El h' [.sl R a' l.length c'] l F'/\h.length<h'.length/\(∀ y,y<h.length->h'[y]?=h[y]?) /\
   (∀ y∈F',y∈Fs.flatten\/(h.length<=y/\y<h'.length))/\F'.Nodup:=by
 have m0:Mv h [] (h ++ [.rows R e false []]) [h.length]:=Mv.last;have hfresh:Sli false R e El (h ++ [.rows R e false []]) [.sl R (some (h.length,0)) 0 (some 0)] [] [h.length]:=Sli.fresh (YH _);obtain ⟨a',c',h',F',p1,p2,p3,p4,p5,p6⟩:=HR (lo:=lo) (bytes:=bytes) ok.fr hfresh (xs:=rows) (ys:=l) (Gs:=Fs) (hx.fr ok.fr λy hy=>m0.fr y (hF y hy) (by simp)) hb (by simpa using hsz) (by simp;omega) (by simp;omega)
  (by rw[Zl,Y9,Y2];exact ⟨λhm=>by have:=hF _ hm;omega,hnd⟩) (λy hy=>by
   rw[Zl,Y9,YW] at hy;rcases hy with rfl | hy
   ·simp
   ·have:=hF y hy;simp;omega)
 simp only[ZW,Zf,Y9] at p1 p2;refine ⟨a',c',h',F',p1,p2,by simp at p3;omega,λy hy=>?_,λy hy=>?_,p6⟩
 ·rw[p4 y (by simp;omega) (by simp;omega)];exact m0.fr y hy (by simp)
 ·simp at p3;rcases p5 y hy with g | g
  ·rw[Zl,Y9,YW] at g;rcases g with rfl | g
   ·exact .inr (by omega)
   ·exact .inl g
  ·simp at g;exact .inr (by omega)
theorem C8 {Fs:List (List Nat)}{k:Nat} (hnd:Fs.flatten.Nodup):(Fs.take k).flatten.Nodup/\(Fs.drop k).flatten.Nodup/\∀ x∈(Fs.take k).flatten,∀ y∈(Fs.drop k).flatten,x≠y:=by rw[<- Zm k Fs,Y7,YK] at hnd;exact hnd
theorem Qq {s t:List Ver}{a1 a2:Pq}{c1 c2:Nq}{F1 F2:List Nat} (hs:RVers false h [.sl 6 a1 s.length c1] s F1) (ht:RVers false h [.sl 6 a2 t.length c2] t F2) (h4:s.length=4) (h4':t.length=4) (hpn:∀ v∈s,v.past.length<=1048576) (hl:lo<=h.length) :
  ∃ a' c' h' F',Ae lo 107 [.agg [.sl 6 a1 s.length c1],.agg [.sl 6 a2 t.length c2]] h=some (.sl 6 a' (C3 s t).length c',h')/\RVers false h' [.sl 6 a' (C3 s t).length c'] (C3 s t) F'/\Mv h [] h' F':=by
 suffices hq:∃ a' c' h' F',_=some (V.sl 6 a' (C3 s t).length c',h')/\RVers false h' [.sl 6 a' (C3 s t).length c'] (C3 s t) F'/\Mv h [] h' F' from by obtain ⟨a',c',h',F',e,hr⟩:=hq;exact ⟨a',c',h',F',NH e,hr⟩
 have hzl:(s.zip t).length=4:=by rw[List.length_zip];omega
 have one:∀ m i,m+i=4->∀ hh ax cx (out:List Ver) Fx,RVers false hh [.sl 6 ax out.length cx] out Fx->Mv h [] hh Fx->out.length<=i->∃ a' c' h' F',
   Bi lo ax out.length cx (i:Nat) a1 s.length c1 a2 t.length c2 hh=some (.sl 6 a' (((s.zip t).drop i).foldl DX out).length c',h')/\RVers false h' [.sl 6 a' (((s.zip t).drop i).foldl DX out).length c'] (((s.zip t).drop i).foldl DX out) F'/\Mv h [] h' F':=by
  intro m;induction m with
  | zero =>intro i hi hh ax cx out Fx hr hm hlen;rw[Bi.e,Ak (by omega),Y0 (by omega)];exact ⟨ax,cx,hh,Fx,rfl,hr,hm⟩
  | succ m ih =>
   intro i hi hh ax cx out Fx hr hm hlen;have his:i<s.length:=by omega
   have hit:i<t.length:=by omega
   have hs':=hm.keep0 rvers_ok hs;have ht':=hm.keep0 rvers_ok ht;obtain ⟨o1,s1,b1,d1,H1,ha1,_,_,_,_,_,_,hl1,hl1',es1,hp1,_⟩:=RVers.all hs' his;obtain ⟨o2,s2,b2,d2,H2,ha2,_,_,_,_,_,_,hl2,_,_,_,_⟩:=RVers.all ht' hit;have hzi:i<(s.zip t).length:=by omega
   rw[YN hzi,Zy,List.getElem_zip];have hlf:DX out (s[i],t[i])=bif AZ t[i] s[i] then Er s[i] out else out:=rfl;rw[hlf,Bi.e,Aj (by omega),Ad hit,ha2,Ag,BA,hl2,Ag,Ab,Aa,Ab,Aa,Ai,Ad his,ha1,Ag,hl1,Ag,Ab,Aa,Ab,Aa,Ai,Bd,Ac,AC,<- ha1,<- ha2];show ∃ a' c' h' F',br (AZ t[i] s[i]) _ _=_/\_;cases hless:AZ t[i] s[i] with
   | false =>rw[Au,cond_false,As (by omega)];exact ih (i+1) (by omega) hh ax cx out Fx hr hm (by omega)
   | true =>
   rw[Ao,cond_true];have put:∀ k,k<=out.length->Er s[i] out=out.take k++s[i] :: out.drop k->∃ a' c' h' F',(Ay ax out.length cx none (some (Iv (k:Nat))) none λa_36 n_37 c_38=>Ap 6 (hh ++ [.rows 6 105 false []]) (.sl 6 a_36 n_37 c_38) λx_39=>CJ lo 105 6 72 (.sl 6 (some ((List.length hh),0)) 0 (some 0)) x_39 (hh ++ [.rows 6 105 false []]) λv_40 h_41=>eS 6 (v_40) λa_42 n_43 c_44=>AM ((i:Nat):Int) s.length (eO a1 λo_45=>eO (ld h_41 (o_45.1) ((o_45.2)+(((i:Nat):Int).toNat)) 0 6) λo_46=>eC o_46 λv_47 l_48=>eI .i64 v_47 λn_49=>eC l_48 λv_50 l_51=>eI .i64 v_50 λn_52=>eC l_51 λv_53 l_54=>eI .i64 v_53 λn_55=>eC l_54 λv_56 l_57=>eS 2 (v_56) λa_58 n_59 c_60=>eC l_57 λv_61 l_62=>eT v_61 λs_63=>eC l_62 λv_64 l_65=>eBv v_64 λb_66=>eN l_65 (Al (Ae lo 61 [.agg [Iv (n_49),Iv (n_52),Iv (n_55),.sl 2 a_58 n_59 c_60,.str (s_63),.bool (b_66)]] h_41) λv_67 h_68=>eA v_67 λc_69=>eC c_69 λv_70 l_71=>eI .i64 v_70 λn_72=>eC l_71 λv_73 l_74=>eI .i64 v_73 λn_75=>eC l_74 λv_76 l_77=>eI .i64 v_76 λn_78=>eC l_77 λv_79 l_80=>eS 2 (v_79) λa_81 n_82 c_83=>eC l_80 λv_84 l_85=>eT v_84 λs_86=>eC l_85 λv_87 l_88=>eBv v_87 λb_89=>eN l_88 (Ap 6 (h_68 ++ [.rows 6 105 false [[Iv (n_72),Iv (n_75),Iv (n_78),.sl 2 a_81 n_82 c_83,.str (s_86),.bool (b_89)]]]) (.sl 6 (some ((List.length h_68),0)) 1 (some 1)) λx_90=>CJ lo 105 6 72 (.sl 6 a_42 n_43 c_44) x_90 (h_68 ++ [.rows 6 105 false [[Iv (n_72),Iv (n_75),Iv (n_78),.sl 2 a_81 n_82 c_83,.str (s_86),.bool (b_89)]]]) λv_91 h_92=>eS 6 (v_91) λa_93 n_94 c_95=>Ay ax out.length cx (some (Iv (k:Nat))) none none λa_96 n_97 c_98=>Ap 6 h_92 (.sl 6 a_96 n_97 c_98) λx_99=>CJ lo 105 6 72 (.sl 6 a_93 n_94 c_95) x_99 h_92 λv_100 h_101=>eS 6 (v_100) λa_102 n_103 c_104=>Bi lo a_102 n_103 c_104 (AU (((i:Nat):Int)+1)) a1 s.length c1 a2 t.length c2 h_101))))=some (V.sl 6 a' (((s.zip t).drop (i+1)).foldl DX (Er s[i] out)).length c',h') /\
     RVers false h' [.sl 6 a' (((s.zip t).drop (i+1)).foldl DX (Er s[i] out)).length c'] (((s.zip t).drop (i+1)).foldl DX (Er s[i] out)) F'/\Mv h [] h' F':=by
    intro k hk hins;have hbx:=rvers_ok.bd _ _ _ _ hr;obtain ⟨Fs,nF,sF,own,cuts⟩:=hr.parts hm.nd;obtain ⟨rP,rQ,eP,eQ,kP,kQ⟩:=cuts k hk;obtain ⟨nP,nQ,dPQ⟩:=C8 (k:=k) nF;have inP:∀ y∈(Fs.take k).flatten,y∈Fs.flatten:=λy hy=>by rw[<- Zm k Fs,Y7];simp[hy]
    have inQ:∀ y∈(Fs.drop k).flatten,y∈Fs.flatten:=λy hy=>by rw[<- Zm k Fs,Y7];simp[hy]
    have hFl:∀ y∈Fs.flatten,y<hh.length:=λy hy=>hbx y (sF y hy);have hlh:lo<=hh.length:=YD hl hm.le;have htl:(out.take k).length=k:=by rw[Zr];omega
    have hdl:(out.drop k).length=out.length - k:=by rw[ZL]
    obtain ⟨a3,c3,h3,F3,e3,r3,l3,fr3,sub3,nd3⟩:=GT (lo:=lo) (R:=6) (e:=SR false) (bytes:=72) rver_ok eP nP (λy hy=>hFl y (inP y hy)) (by decide) (by omega) hlh;have m3:Mv hh [] h3 []:=⟨by omega,λy hy _=>fr3 y hy,by simp,by simp⟩;have hs3:=m3.keep0 rvers_ok hs';obtain ⟨o4,s4,b4,d4,H4,ha4,ho4,es4,hp4,_⟩:=hs3.get his;obtain ⟨a5,c5,h5,F5,e5,r5,m5⟩:=BW (lo:=lo) (v:=s[i]) hp4 (by omega) (hpn _ (YJ his));obtain ⟨a6,c6,h6,F6,e6,r6,m6⟩:=DT (lo:=lo) (bytes:=72) (e:=105) rver_ok r3 (row:=s[i].cs a5 c5) (x:=s[i]) (G:=F5) (h1:=h5 ++ [.rows 6 105 false [s[i].cs a5 c5]])
     ⟨_,rfl,Mv.snoc.keep0 rtags_ok r5⟩ (m5.trans (Mv.snoc' m5.nd)) nd3 (λy hy=>by
      rcases sub3 y hy with g | g
      ·exact hm.ge hl (by simp) y (sF y (inP y g))
      ·omega) (by omega) (by decide) (by omega)
    have hQ3:∀ y∈(Fs.drop k).flatten,y∉F3/\y<h3.length:=λy hy=>by
     have:=hFl y (inQ y hy);refine ⟨λhm3=>?_,by omega⟩;rcases sub3 y hm3 with g | g
     ·exact dPQ y g y hy rfl
     ·omega
    have hQ6:∀ y∈(Fs.drop k).flatten,h6[y]?=hh[y]?:=λy hy=>by rw[m6.fr y (hQ3 y hy).2 (hQ3 y hy).1];exact fr3 y (hFl y (inQ y hy))
    have l6:=m6.le;have F6b:∀ y∈F6,y<h6.length:=rvers_ok.bd _ _ _ _ r6;obtain ⟨a7,c7,h7,F7,e7,r7,l7,fr7,sub7,nd7⟩:=HR (lo:=lo) (bytes:=72) rver_ok.fr r6 (xs:=rQ) (ys:=out.drop k) (Gs:=Fs.drop k) (eQ.fr rver_ok.fr hQ6) (by decide) (by simp only[Y6,htl,hdl,ZB];omega) (λy hy=>m6.ge (by omega) (λy hy=>by
      rcases sub3 y hy with g | g
      ·exact hm.ge hl (by simp) y (sF y (inP y g))
      ·omega) y hy) (by omega) (by
      rw[YK];refine ⟨m6.nd,nQ,λx hx y hy e=>?_⟩;subst e;rcases m6.sub x hx with g | g
      ·exact (hQ3 x hy).1 g
      ·have:=(hQ3 x hy).2;omega) (λy hy=>by
      rcases YF.1 hy with hy | hy
      ·exact F6b y hy
      ·have:=(hQ3 y hy).2;omega)
    have hfin:out.take k ++ [s[i]]++out.drop k=Er s[i] out:=by rw[hins,YV];rfl
    have hflen:(out.take k).length+1+(out.drop k).length=(Er s[i] out).length:=by rw[Je,htl,hdl];omega
    rw[Y6,ZB,hflen] at e7 r7;rw[hfin] at r7;have m7:Mv h [] h7 F7:=by
     refine ⟨by have:=hm.le;omega,λy hy _=>?_,nd7,λy hy=>?_⟩
     ·have y1:y<hh.length:=YT hy hm.le;have yF:y∉Fx:=λhmx=>by have:=hm.new y hmx;omega
      have y3:y∉F3:=λhm3=>by
       rcases sub3 y hm3 with g | g
       ·exact yF (sF y (inP y g))
       ·omega
      have y6:y∉F6:=λhm6=>by
       rcases m6.sub y hm6 with g | g
       ·exact y3 g
       ·omega
      rw[fr7 y (by omega) y6,m6.fr y (by omega) y3,fr3 y y1,hm.fr y hy (by simp)]
     ·refine .inr ?_;have hh':=hm.le;rcases sub7 y hy with g | g
      ·rcases YF.1 g with g | g
       ·rcases m6.sub y g with g | g
        ·rcases sub3 y g with g | g
         ·have:=hm.new y (sF y (inP y g));have:=hFl y (inP y g);omega
         ·omega
        ·omega
       ·have:=hm.new y (sF y (inQ y g));have:=hFl y (inQ y g);omega
      ·omega
    obtain ⟨a8,c8,h8,F8,e8,r8,m8⟩:=ih (i+1) (by omega) h7 a7 c7 (Er s[i] out) F7 r7 m7 (by rw[Je];omega);refine ⟨a8,c8,h8,F8,?_,r8,m8⟩;have mm0:Mv hh [] (hh ++ [.rows 6 105 false []]) []:=Mv.snoc;have h6x:∀ b i,ax=some (b,i)->h6[b]?=hh[b]?:=λb i e=>by
     obtain ⟨q1,q2⟩:=own b i e;have:=hbx b q1;rw[m6.fr b (by omega) λhm3=>?_,fr3 b this];rcases sub3 b hm3 with g | g
     ·exact q2 (inP b g)
     ·omega
    simp only[Ver.cs] at e6;rw[show SR false=105 from rfl] at e3;rw[kP _ (λb i e=>mm0.fr b (hbx b (own b i e).1) (by simp)),e3,Ah,Ad his,ha4,Ag,BA,ho4,Ag,Ab,Aa,Ab,Aa,Ab,Aa,Ab,es4,Ab,Dg,Ab,Bk,Ai];rw[show (V.agg [Iv s[i].key,Iv s[i].tag.time,Iv s[i].tag.place,.sl 2 b4 s[i].past.length d4,.str s[i].text,.bool s[i].gone]) = .agg (s[i].cs b4 d4) from rfl,e5,Ac,A3,Ab,Aa,Ab,Aa,Ab,Aa,Ab,Ah,Ab,Dg,Ab,Bk,Ai,Bv,e6,Ah,kQ _ h6x,e7,Ah,As (by omega),<- ha4];exact e8
   have two:∀ m k,m+k=out.length->(∀ j (hj:j<out.length),j<k->AZ out[j] s[i]=true)->∃ a' c' h' F',Ca lo ax out.length cx (i:Nat) (k:Nat) a1 s.length c1 a2 t.length c2 hh=some (V.sl 6 a' (((s.zip t).drop (i+1)).foldl DX (Er s[i] out)).length c',h') /\
     RVers false h' [.sl 6 a' (((s.zip t).drop (i+1)).foldl DX (Er s[i] out)).length c'] (((s.zip t).drop (i+1)).foldl DX (Er s[i] out)) F'/\Mv h [] h' F':=by
    intro m;induction m with
    | zero =>intro k hk hall;rw[Ca.e,Ak (by omega)];exact put k (by omega) (Ph (by omega) hall (λh=>by omega))
    | succ m ih2 =>
     intro k hk hall;have hkl:k<out.length:=by omega
     obtain ⟨o3,s3,b3,d3,H3,ha3,_,_,_,_,_,_,hl3,_,_,_,_⟩:=RVers.all hr hkl;rw[Ca.e,Aj (by omega),Ad hkl,ha3,Ag,BA,hl3,Ag,Ab,Aa,Ab,Aa,Ai,Ad his,ha1,Ag,BA,hl1,Ag,Ab,Aa,Ab,Aa,Ai,Bd,Ac,AC,<- ha1,<- ha3];show ∃ a' c' h' F',br (AZ out[k] s[i]) _ _=_/\_;cases hlk:AZ out[k] s[i] with
     | true =>
      rw[Ao,As (by omega)];exact ih2 (k+1) (by omega) (λj hj hjk=>by
       by_cases e:j=k
       ·subst e;exact hlk
       ·exact hall j hj (by omega))
     | false =>rw[Au];exact put k (by omega) (Ph (by omega) hall (λ_=>hlk))
   exact two out.length 0 (by omega) (λj _ hj=>by omega)
 have m0:Mv h [] (h ++ [.rows 6 105 false []]) [h.length]:=Mv.last;obtain ⟨a',c',h',F',e,r,m⟩:=one 4 0 (by omega) (h ++ [.rows 6 105 false []]) (some (h.length,0)) (some 0) [] [h.length] (Sli.fresh (YH _)) m0 (by simp);rw[Zg] at e r;exact ⟨a',c',h',F',e,r,m⟩
end


variable {l:List Node}{w:List Ver}
def CZ (l:List Node) (k:Nat) (w:List Ver):List Node:=match l[k]? with
 | some x=>l.set k ⟨x.store,w⟩
 | none=>l
def DP (l:List Node) (k:Nat):List Ver:=match l[k]? with
 | some x=>x.store
 | none => []
def BY (l:List Node) (k:Nat):List Node :=
 bif decide (0<k) then (bif decide (k<(l.eraseIdx k).length) then CZ (l.eraseIdx k) (k - 1) (C3 (DP (l.eraseIdx k) (k - 1)) (DP (l.eraseIdx k) k)) else CZ (l.eraseIdx k) (k - 1) []) else l.eraseIdx k
theorem E1 {k:Nat} (hk:k<l.length):CZ l k w=l.set k ⟨l[k].store,w⟩:=by unfold CZ;rw[CF hk]
theorem Dj {k:Nat} (hk:k<l.length):DP l k=l[k].store:=by unfold DP;rw[CF hk]
theorem C6 {k:Nat}:(CZ l k w).length=l.length:=by unfold CZ;split<;>simp
theorem Kp {k:Nat} (hk:k<l.length) (hw:l[k].wait = []):CZ l k []=l:=by
 rw[E1 hk];have:(⟨l[k].store,[]⟩:Node)=l[k]:=by
  cases hx:l[k] with
  | mk s w=>rw[hx] at hw;simp only at hw;rw[hw]
 rw[this];exact zab hk
section
variable {lo:Nat}{h:Heap}{F F' G:List Nat}{a a' av:Pq}{c c' cv:Nq}
theorem Qw {n k:Nat}{ws:List Ver}{w:V}{h1:Heap}{Fw:List Nat} (hs:RNodes false h [.sl 2 a n c] l F) (hk:k<l.length) (hnd:F.Nodup) (hlo:∀ b∈F,lo<=b) (hw:RVers false h1 [w] ws Fw) (m:Mv h [] h1 Fw) :
  ∃ b i h2 F',a=some (b,i)/\b∈F/\st lo h1 b (i+k) 1 [w]=some h2/\RNodes false h2 [.sl 2 a n c] (CZ l k ws) F'/\Mv h F h2 F'/\(∀ y,y≠b->h2[y]?=h1[y]?):=by
 obtain ⟨b,i,rs,row,G0,ha,hbF,hbG,hb,hrow,hel,hGF,hGn,put⟩:=hs.at2 rnode_ok hk hnd hlo;obtain ⟨t1,t2,F1,F2,rfl,rfl,r1,r2⟩:=hel;rw[YK] at hGn;have b1:∀ y∈F1,y<h.length:=rvers_ok.bd _ _ _ _ r1;have m1:Mv h (F1++F2) h1 (F1++Fw):=by
  refine ⟨m.le,λy hy _=>m.fr y hy (by simp),?_,λy hy=>?_⟩
  ·rw[YK];refine ⟨hGn.1,m.nd,λx hx y hy e=>?_⟩;subst e;have:=b1 x hx;have:=m.new x hy;omega
  ·rcases YF.1 hy with hy | hy
   ·exact .inl (by simp[hy])
   ·exact (m.sub y hy).imp (λg=>by simp at g) id
 obtain ⟨h2,F',e2,r,m2,fr,_⟩:=put h1 (F1++Fw) 1 [w] [t1,w] ⟨l[k].store,ws⟩ m1 rfl ⟨_,_,F1,Fw,rfl,rfl,m.keep0 rvers_ok r1,hw⟩;rw[<- E1 hk] at r;exact ⟨b,i,h2,F',ha,hbF,e2,r,m2,fr⟩
theorem UM {k:Nat} (hs:RNodes false h [.sl 2 a l.length c] l F) (hk:k<l.length) (hnd:F.Nodup) (hlo:∀ b∈F,lo<=b) (hl:lo<=h.length) (hn:l.length<=1048576) :
  ∃ a' c' h' F',(∀ {T:Type} (K:V->Heap->Option T),(Ay a l.length c none (some (Iv (k:Nat))) none λa_0 n_1 c_2=>Ap 2 (h ++ [.rows 2 126 false []]) (.sl 2 a_0 n_1 c_2) λx_3=>CJ lo 126 2 48 (.sl 2 (some ((List.length h),0)) 0 (some 0)) x_3 (h ++ [.rows 2 126 false []]) λv_4 h_5=>eS 2 (v_4) λa_6 n_7 c_8 =>
    Ay a l.length c (some (Iv ((k+1:Nat):Int))) none none λa_9 n_10 c_11=>Ap 2 h_5 (.sl 2 a_9 n_10 c_11) λx_12=>CJ lo 126 2 48 (.sl 2 a_6 n_7 c_8) x_12 h_5 K)=K (.sl 2 a' (l.eraseIdx k).length c') h') /\
   RNodes false h' [.sl 2 a' (l.eraseIdx k).length c'] (l.eraseIdx k) F'/\Mv h F h' F':=by
 have hbd:=rnodes_ok.bd _ _ _ _ hs;obtain ⟨Fs,nF,sF,own,cuts⟩:=Sli.parts hs hnd;obtain ⟨rP,_,eP,_,kP,_⟩:=cuts k (by omega);obtain ⟨_,rQ,_,eQ,_,kQ⟩:=cuts (k+1) (by omega);obtain ⟨nP,_,dPQ⟩:=C8 (k:=k) nF;obtain ⟨_,nQ,_⟩:=C8 (k:=k+1) nF;have inP:∀ y∈(Fs.take k).flatten,y∈Fs.flatten:=λy hy=>by rw[<- Zm k Fs,Y7];simp[hy]
 have inQ:∀ y∈(Fs.drop (k+1)).flatten,y∈(Fs.drop k).flatten:=λy hy=>by
  have:Fs.drop (k+1)=(Fs.drop k).drop 1:=by rw[ZT]
  rw[this] at hy;rw[<- Zm 1 (Fs.drop k),Y7];exact YF.2 (.inr hy)
 have inQ':∀ y∈(Fs.drop (k+1)).flatten,y∈Fs.flatten:=λy hy=>by rw[<- Zm k Fs,Y7];simp[inQ y hy]
 have hFl:∀ y∈Fs.flatten,y<h.length:=λy hy=>hbd y (sF y hy);have htl:(l.take k).length=k:=by rw[Zr];omega
 have hdl:(l.drop (k+1)).length=l.length - (k+1):=by rw[ZL]
 obtain ⟨a3,c3,h3,F3,e3,r3,l3,fr3,sub3,nd3⟩:=GT (lo:=lo) (R:=2) (e:=OM false) (bytes:=48) rnode_ok eP nP (λy hy=>hFl y (inP y hy)) (by decide) (by omega) hl;have hQ3:∀ y∈(Fs.drop (k+1)).flatten,y∉F3/\y<h3.length:=λy hy=>by
  have:=hFl y (inQ' y hy);refine ⟨λhm3=>?_,by omega⟩;rcases sub3 y hm3 with g | g
  ·exact dPQ y g y (inQ y hy) rfl
  ·omega
 have F3b:∀ y∈F3,y<h3.length:=rnodes_ok.bd _ _ _ _ r3;obtain ⟨a7,c7,h7,F7,e7,r7,l7,fr7,sub7,nd7⟩:=HR (lo:=lo) (bytes:=48) rnode_ok.fr r3 (xs:=rQ) (ys:=l.drop (k+1)) (Gs:=Fs.drop (k+1)) (eQ.fr rnode_ok.fr λy hy=>fr3 y (hFl y (inQ' y hy))) (by decide) (by rw[htl,hdl];omega) (λy hy=>by
   rcases sub3 y hy with g | g
   ·exact hlo y (sF y (inP y g))
   ·omega) (by omega) (by
   rw[YK];refine ⟨nd3,nQ,λx hx y hy e=>?_⟩;subst e;exact (hQ3 x hy).1 hx) (λy hy=>by
   rcases YF.1 hy with hy | hy
   ·exact F3b y hy
   ·exact (hQ3 y hy).2)
 have hel:(l.take k).length+(l.drop (k+1)).length=(l.eraseIdx k).length:=by rw[ZD hk,htl,hdl];omega
 have her:l.take k++l.drop (k+1)=l.eraseIdx k:=(List.eraseIdx_eq_take_drop_succ l k).symm;rw[hel] at e7 r7;rw[her] at r7;have mm0:Mv h [] (h ++ [.rows 2 126 false []]) []:=Mv.snoc;rw[show OM false=126 from rfl] at e3 e7;refine ⟨a7,c7,h7,F7,λK=>?_,r7,⟨by omega,λy hy hyF=>?_,nd7,λy hy=>?_⟩⟩
 ·rw[kP _ (λb i e=>mm0.fr b (hbd b (own b i e).1) (by simp)),e3,Ah,kQ _ (λb i e=>fr3 b (hbd b (own b i e).1)),e7]
 ·have y3:y∉F3:=λhm3=>by
   rcases sub3 y hm3 with g | g
   ·exact hyF (sF y (inP y g))
   ·omega
  rw[fr7 y (by omega) y3,fr3 y hy]
 ·rcases sub7 y hy with g | g
  ·rcases YF.1 g with g | g
   ·rcases sub3 y g with g | g
    ·exact .inl (sF y (inP y g))
    ·exact .inr (by omega)
   ·exact .inl (sF y (inQ' y g))
  ·exact .inr (by omega)
theorem Qs {k:Nat} (hs:RNodes false h [.sl 2 a l.length c] l F) (hk:k<l.length) (h2:1<l.length) (hlast:(l[l.length - 1]'(by omega)).wait = []) (hnd:F.Nodup) (hlo:∀ b∈F,lo<=b) (hl:lo<=h.length) (hn:l.length<=1048576) (hx:∀ x∈l,DV 20 x) :
  ∃ a' c' h' F',Ae lo 89 [.agg [.sl 2 a l.length c],Iv (k:Nat)] h=some (.agg [.sl 2 a' (BY l k).length c'],h')/\RNodes false h' [.sl 2 a' (BY l k).length c'] (BY l k) F'/\Mv h F h' F':=by
 suffices hq:∃ a' c' h' F',_=some (V.agg [.sl 2 a' (BY l k).length c'],h')/\RNodes false h' [.sl 2 a' (BY l k).length c'] (BY l k) F'/\Mv h F h' F' from by obtain ⟨a',c',h',F',e,hr⟩:=hq;exact ⟨a',c',h',F',NJ e,hr⟩
 have hel:=ZD hk;obtain ⟨a1,c1,h1,F1,e1,r1,m1⟩:=UM (lo:=lo) hs hk hnd hlo hl hn;have hflen:(BY l k).length=l.length - 1:=by
  unfold BY;cases decide (0<k)
  ·exact hel
  ·cases decide (k<(l.eraseIdx k).length)
   ·rw[cond_true,cond_false,C6];exact hel
   ·rw[cond_true,cond_true,C6];exact hel
 rw[As (by omega),e1,Ah];have hl1:lo<=h1.length:=YD hl m1.le;have hlo1:∀ b∈F1,lo<=b:=λb hb=>m1.ge hl hlo b hb;have hn1:((l.eraseIdx k).length:Int) - 1=(((l.eraseIdx k).length - 1:Nat):Int):=by omega
 have tail:∀ (l':List Node) (hh:Heap) (F':List Nat),l'.length=(l.eraseIdx k).length->RNodes false hh [.sl 2 a1 (l.eraseIdx k).length c1] l' F'->F'.Nodup->(∀ b∈F',lo<=b)->∃ h' F'',(AM (AU ((((l.eraseIdx k).length:Nat):Int) - 1)) (l.eraseIdx k).length (eO a1 λo_41=>eO (st lo hh (o_41.1) ((o_41.2)+((AU ((((l.eraseIdx k).length:Nat):Int) - (1:Int))).toNat)) 1 [.sl 0 none 0 (some 0)]) λo_42=>some (V.agg [.sl 2 a1 (l.eraseIdx k).length c1],o_42)))=some (.agg [.sl 2 a1 (l.eraseIdx k).length c1],h') /\
   RNodes false h' [.sl 2 a1 (l.eraseIdx k).length c1] (CZ l' ((l.eraseIdx k).length - 1) []) F''/\Mv hh F' h' F'':=by
  intro l' hh F' hll hr hnd' hlo';obtain ⟨b,i,h3,F3,ha,_,e3,r3,m3,_⟩:=Qw (lo:=lo) (k:=(l.eraseIdx k).length - 1) (w := .sl 0 none 0 (some 0)) (ws := []) hr (by omega) hnd' hlo' Sli.nil Mv.nil;rw[wr (n:=(((l.eraseIdx k).length:Nat):Int) - 1) (by omega) (by omega),hn1,Ad (by omega),ha,Ag,BA,e3,Ag,<- ha];exact ⟨h3,F3,rfl,r3,m3⟩
 have hlast':∀ hj:(l.eraseIdx k).length - 1<(l.eraseIdx k).length,k<(l.eraseIdx k).length->((l.eraseIdx k)[(l.eraseIdx k).length - 1]).wait = []:=λhj hkl=>by
  have:(l.eraseIdx k)[(l.eraseIdx k).length - 1]=l[l.length - 1]:=by rw[List.getElem_eraseIdx];rw[dif_neg (by omega)];congr 1;omega
  rw[this];exact hlast
 by_cases h0:0<k
 ·rw[Aj (by omega)];by_cases hkl:k<(l.eraseIdx k).length
  ·-- in between
   have hf:BY l k=CZ (l.eraseIdx k) (k - 1) (C3 (DP (l.eraseIdx k) (k - 1)) (DP (l.eraseIdx k) k)):=by unfold BY;rw[decide_eq_true h0,cond_true,decide_eq_true hkl,cond_true]
   have hk1:k - 1<(l.eraseIdx k).length:=by omega
   have hxm:∀ x∈l.eraseIdx k,DV 20 x:=λx hx'=>hx x (ZS hx');obtain ⟨o,s1,s2,b1,d1,b2,d2,H1,H2,ha,_,ho1,_,q1,_,p1,_⟩:=r1.get hk1;obtain ⟨o',s1',s2',b1',d1',b2',d2',H1',H2',ha',_,ho1',_,q1',_,p1',_⟩:=r1.get hkl;have ho:o=o':=by rw[ha] at ha';injection ha'
   subst ho;have n1:=hxm _ (YJ hk1);have n2:=hxm _ (YJ hkl);obtain ⟨a4,c4,h4,F4,e4,r4,m4⟩:=Qq (lo:=lo) p1 p1' n1.1 n2.1 (λv hv=>by have:=(n1.2.2.1 v hv).1;omega) hl1;obtain ⟨b,i,h5,F5,hb,_,e5,r5,m5,_⟩:=Qw (lo:=lo) (k:=k - 1) (w := .sl 6 a4 (C3 (l.eraseIdx k)[k - 1].store (l.eraseIdx k)[k].store).length c4) r1 hk1 m1.nd hlo1 r4 m4;obtain ⟨h6,F6,e6,r6,m6⟩:=tail _ h5 F5 C6 r5 m5.nd (λb hb=>m5.ge hl1 hlo1 b hb);have hkk:((k:Nat):Int) - 1=((k - 1:Nat):Int):=by omega
   have hoe:o=(b,i):=by rw[ha] at hb;injection hb
   subst hoe;rw[Aj (by omega),wr (n:=((k:Nat):Int) - 1) (by omega) (by omega),hkk,Ad hk1,ha,Ag,BA,ho1,Ag,Ab,q1,Ai,Ad hkl,Ag,BA,ho1',Ag,Ab,q1',Ai,e4,Ac,Ah,Ad hk1,Ag,e5,Ag,<- ha,e6];have hsame:CZ (CZ (l.eraseIdx k) (k - 1) (C3 (l.eraseIdx k)[k - 1].store (l.eraseIdx k)[k].store)) ((l.eraseIdx k).length - 1) []=BY l k:=by
    rw[hf,Dj hk1,Dj hkl];have hj:(l.eraseIdx k).length - 1<(CZ (l.eraseIdx k) (k - 1) (C3 (l.eraseIdx k)[k - 1].store (l.eraseIdx k)[k].store)).length:=by rw[C6];omega
    refine Kp hj ?_;have hg:=E1 (w:=C3 (l.eraseIdx k)[k - 1].store (l.eraseIdx k)[k].store) hk1;rw[List.getElem_of_eq hg,List.getElem_set_ne (by omega)];exact hlast' (by omega) hkl
   rw[hsame] at r6;refine ⟨a1,c1,h6,F6,by rw[hflen,hel],by rw[hflen,<- hel];exact r6,(m1.trans m5).trans m6⟩
  ·-- the tail fell
   have hf:BY l k=CZ (l.eraseIdx k) (k - 1) []:=by unfold BY;rw[decide_eq_true h0,cond_true,decide_eq_false hkl,cond_false]
   have hkk:(l.eraseIdx k).length - 1=k - 1:=by omega
   obtain ⟨h6,F6,e6,r6,m6⟩:=tail _ h1 F1 rfl r1 m1.nd hlo1;rw[Ak (by omega),e6];rw[hkk,<- hf] at r6;exact ⟨a1,c1,h6,F6,by rw[hflen,hel],by rw[hflen,<- hel];exact r6,m1.trans m6⟩
 ·have hf:BY l k=l.eraseIdx k:=by unfold BY;rw[decide_eq_false h0,cond_false]
  obtain ⟨h6,F6,e6,r6,m6⟩:=tail _ h1 F1 rfl r1 m1.nd hlo1;rw[Ak (by omega),e6];rw[Kp (by omega) (hlast' (by omega) (by omega)),<- hf] at r6;exact ⟨a1,c1,h6,F6,by rw[hflen,hel],r6,m1.trans m6⟩
end


def Ey (x:Ver×Ver):Option Ver:=bif AZ x.2 x.1 then some x.1 else none
theorem lack_sort:∀ {z:List (Ver×Ver)}{acc:List Ver},z.foldl DX acc=(z.filterMap Ey).foldl (λacc v=>Er v acc) acc
 | [],acc=>rfl
 | x :: z,acc=>by
  rw[Zy,lack_sort (z:=z)];unfold DX;cases hx:AZ x.2 x.1 with
  | true =>
   have:Ey x=some x.1:=by unfold Ey;rw[hx];rfl
   rw[List.filterMap_cons,this];rfl
  | false =>
   have:Ey x=none:=by unfold Ey;rw[hx];rfl
   rw[List.filterMap_cons,this];rfl
def Md (s t:List Ver):List Ver:=(s.zip t).filterMap Ey
theorem Sv {s t:List Ver}:Yb (Md s t)=C3 s t:=lack_sort.symm
theorem Ii {u v:Ver} (hu:Bu u.tag.time u.tag.place=true) (hv:v.tag.time=0/\v.tag.place=0):AZ u v=false:=by rw[Uw];simp[Bu,Af] at hu;omega
theorem PS {i:Nat}{v:Ver} (h:Hh i v=true):Bu v.tag.time v.tag.place=true:=(Tc h).2.2
theorem Su {s t:List Ver} (hs:BF s=true) (ht:BF t=true):(Md s t).Pairwise λp u=>p.key<u.key:=by
 unfold Md;rw[List.pairwise_filterMap,List.pairwise_iff_getElem];intro i j hi hj hij b hb b' hb';have hi':i<s.length/\i<t.length:=by rw[List.length_zip] at hi;omega
 have hj':j<s.length/\j<t.length:=by rw[List.length_zip] at hj;omega
 rw[List.getElem_zip] at hb hb';have key:∀ q (hq:q<s.length) (hq':q<t.length) x,Ey (s[q],t[q])=some x->x.key=(q:Int):=λq hq hq' x hx=>by
  unfold Ey at hx;simp only at hx;cases hl:AZ t[q] s[q] with
  | false=>rw[hl] at hx;cases hx
  | true =>
   rw[hl] at hx;injection hx with hx;subst hx;rcases Dy (DI hs hq) with g | g
   ·have:=Ii (PS (DI ht hq')) (FY g);rw[hl] at this;cases this
   ·exact g.2
 have e1:=key i hi'.1 hi'.2 b (by simpa using hb);have e2:=key j hj'.1 hj'.2 b' (by simpa using hb');omega
section
variable {lo:Nat}{h:Heap}{F F' G:List Nat}{a a' av:Pq}{c c' cv:Nq}
theorem Mv.cons {h h':Heap}{F F':List Nat}{b:Nat} (m:Mv h F h' F') (hb:b<h.length) (hbF:b∉F) (hnd:F.Nodup):Mv h (b :: F) h' (b :: F') :=
 (m.aside (G := [b]) (by rw[YK];exact ⟨hnd,by simp,λx hx y hy e=>by rw[YZ] at hy;subst hy;subst e;exact hbF hx⟩) (by simpa using hb)).swap
def Gq (l:List Node) (k:Int):Bool:=Af k 0 ((l.length:Int) - 1)&&decide (1<l.length)
end


variable {l:List Node}{p:Place}
def OH (p:Place) (k:Nat):Place:=⟨p.me,p.clock,BY p.chain k,p.log,p.got,true⟩
def C5 (p:Place) (k:Int):Bool := !p.fell&&Gq p.chain k
def Dv (p:Place) (k:Int):Place:=bif C5 p k then CC (OH p k.toNat) else p
theorem JW {s t:List Ver}{v:Ver} (h:v∈C3 s t):v∈s:=by
 have key:∀ (z:List (Ver×Ver)) (acc:List Ver),v∈z.foldl DX acc->v∈acc\/∃ x∈z,x.1=v:=by
  intro z;induction z with
  | nil=>intro acc h;exact .inl h
  | cons x z ih =>
   intro acc h;rw[Zy] at h;rcases ih _ h with g | ⟨y,hy,e⟩
   ·unfold DX at g;cases hl:AZ x.2 x.1 with
    | false=>rw[hl] at g;exact .inl g
    | true =>
     rw[hl,cond_true] at g;rcases insF_mem.1 g with rfl | g
     ·exact .inr ⟨x,by simp,rfl⟩
     ·exact .inl g
   ·exact .inr ⟨y,by simp[hy],e⟩
 rcases key _ _ h with g | ⟨x,hx,rfl⟩
 ·simp at g
 ·exact (List.of_mem_zip hx).1
theorem Oj {s t:List Ver} (hs:s.length=4):(C3 s t).length<=4:=by
 have key:∀ (z:List (Ver×Ver)) (acc:List Ver),(z.foldl DX acc).length<=acc.length+z.length:=by
  intro z;induction z with
  | nil=>intro acc;simp
  | cons x z ih =>
   intro acc;rw[Zy];have:=ih (DX acc x);have h2:(DX acc x).length<=acc.length+1:=by
    unfold DX;cases AZ x.2 x.1
    ·simp
    ·rw[cond_true,Je];exact YH _
   rw[ZC];omega
 have:=key (s.zip t) [];rw[List.length_zip] at this;simp only[ZW] at this;unfold C3;omega
theorem JJ {nw k:Nat}{w:List Ver} (h:∀ x∈l,DV nw x) (hw:w.length<=nw) (hv:∀ v∈w,thin v):∀ x∈CZ l k w,DV nw x:=λx hx=>by
 unfold CZ at hx;split at hx
 ·rename_i y hy
  rcases Y4 hx with hx | rfl
  ·exact h x hx
  ·obtain ⟨g1,_,g3,_⟩:=h y (YS hy);exact ⟨g1,hw,g3,hv⟩
 ·exact h x hx
theorem VW {nw k:Nat} (h:∀ x∈l,DV nw x) (hnw:4<=nw):(BY l k).length<=l.length/\∀ x∈BY l k,DV nw x:=by
 have h':∀ x∈l.eraseIdx k,DV nw x:=λx hx=>h x (ZS hx);have hle:(l.eraseIdx k).length<=l.length:=Z8 _ _;unfold BY;cases decide (0<k) with
 | false=>exact ⟨hle,h'⟩
 | true =>
  rw[cond_true];cases decide (k<(l.eraseIdx k).length) with
  | false=>exact ⟨by rw[cond_false,C6];exact hle,JJ h' (Y3 _) (by simp)⟩
  | true =>
   rw[cond_true,C6];refine ⟨hle,?_⟩;unfold DP;split
   ·rename_i y hy
    have hyn:=h' y (YS hy);exact JJ h' (YD (Oj hyn.1) hnw) (λv hv=>hyn.2.2.1 v (JW hv))
   ·refine JJ h' ?_ (λv hv=>?_)
    ·rw[show ∀ t,C3 [] t = [] from λt=>by simp[C3]];exact Y3 _
    ·have:=JW hv;simp at this
theorem T4 {nc nl k:Nat} (h:Tidy nc 6 nl p):Tidy nc 6 nl (OH p k):=by obtain ⟨h1,h2⟩:=VW (k:=k) h.node (by decide);exact ⟨YD h1 h.len,h2,h.log,h.got⟩
theorem HX {k:Nat} (hk:k<l.length) (h1:1<l.length):(BY l k).length=l.length - 1:=by
 have hel:=ZD hk;unfold BY;cases decide (0<k)
 ·exact hel
 ·cases decide (k<(l.eraseIdx k).length)
  ·rw[cond_true,cond_false,C6];exact hel
  ·rw[cond_true,cond_true,C6];exact hel
theorem Uy (h:D7 l=true) (h0:0<l.length):(l[l.length - 1]'(by omega)).wait = []:=by have:=PK h (show l.length - 1<l.length by omega);unfold Iy at this;rw[Zz (by omega)] at this;simp only[decide_eq_true_eq] at this;exact YM this
section
variable {lo:Nat}{ro:Bool}{h:Heap}{F F':List Nat}{a a':Pq}{c c':Nq}
theorem LM {k:Int}{a1 a2 a3:Pq}{c1 c2 c3:Nq} (hn:p.chain.length<=1048576):Ae lo 88 [.agg (p.cs a1 c1 a2 c2 a3 c3),Iv k] h=some (.bool (C5 p k),h):=by
 refine Kg (h':=h) ?_;unfold C5 Gq;cases p.fell with
 | true=>simp only[Zk,Au,Zh]
 | false =>
  simp only[Zo,Ao,YP];by_cases h1:1<p.chain.length
  ·rw[Aj (by omega),wr (by omega) (by omega),A7,Ac,AC,decide_eq_true h1,ZQ];exact GW
  ·rw[Ak (by omega),decide_eq_false h1,ZE]
end


variable {u v:Ver}{t r s:List Ver}{k i:Nat}{x z:Node}
theorem KG {w:Ver} (h1:AZ u v=true) (h2:AZ v w=true):AZ u w=true:=by rw[HU] at *;omega
def upS (t s:List Ver):Prop:=∀ (i:Nat) (x y:Ver),t[i]?=some x->s[i]?=some y->x=y\/AZ x y=true
theorem upS.refl:upS t t:=λi x y hx hy => .inl (by rw[hx] at hy;injection hy)
theorem upS.trans (h1:upS r s) (h2:upS s t) (hl:t.length<=s.length):upS r t:=λi x z hx hz=>by
 have hi:=(DB hz).1;have hy:=CF (l:=s) (i:=i) (by omega);rcases h1 i x _ hx hy with rfl | h3
 ·exact h2 i _ z hy hz
 ·rcases h2 i _ z hy hz with h4 | h4
  ·exact .inr (h4 ▸ h3)
  ·exact .inr (KG h3 h4)
theorem upS.set {t:List Ver}{k:Nat}{u v:Ver} (hu:t[k]?=some u) (hl:AZ u v=true):upS t (t.set k v):=λi x y hx hy=>by
 rw[List.getElem?_set] at hy;by_cases hi:k=i
 ·subst hi;rw[if_pos rfl,if_pos (DB hu).1] at hy;injection hy with hy;rw[hu] at hx;injection hx with hx;exact .inr (by rw[<- hx,<- hy];exact hl)
 ·rw[if_neg hi,hx] at hy;injection hy with hy;exact .inl hy
theorem fitsL_cons:DM t (v :: r)=some s<->∃ x,t[v.key.toNat]?=some x/\AZ x v=true/\DM (t.set v.key.toNat v) r=some s:=by
 simp only[DM];cases hx:t[v.key.toNat]? with
 | none=>simp
 | some x=>cases hl:AZ x v<;>simp[hl]
theorem Ms:∀ {ws t s:List Ver}{v x:Ver},DM t ws=some s->s[v.key.toNat]?=some x->AZ x v=true->DM t (ws ++ [v])=some (s.set v.key.toNat v)
 | [],t,s,v,x,h,hx,hl=>by simp only[DM,Option.some.injEq] at h;subst h;exact fitsL_cons.2 ⟨x,hx,hl,rfl⟩
 | w :: r,t,s,v,x,h,hx,hl=>by obtain ⟨y,h1,h2,h3⟩:=fitsL_cons.1 h;exact fitsL_cons.2 ⟨y,h1,h2,Ms h3 hx hl⟩
theorem Rm:∀ {ws t s:List Ver},DM t ws=some s->upS t s
 | [],t,s,h=>by simp only[DM,Option.some.injEq] at h;subst h;exact upS.refl
 | v :: r,t,s,h=>by
  obtain ⟨y,h1,h2,h3⟩:=fitsL_cons.1 h;have h4:=Rm h3;refine λi x z hx hz=>?_;by_cases hi:v.key.toNat=i
  ·subst hi;rw[h1] at hx;injection hx with hx;subst hx;have hlt:=(DB h1).1;rcases h4 _ v z (by simp[hlt]) hz with rfl | h5
   ·exact .inr h2
   ·exact .inr (KG h2 h5)
  ·exact h4 i x z (by rw[YG hi];exact hx) hz
theorem OF:∀ {ws t s:List Ver},DM t ws=some s->∀ v∈s,v∈ws\/v∈t
 | [],t,s,h=>by simp only[DM,Option.some.injEq] at h;subst h;exact λv hv => .inr hv
 | w :: r,t,s,h=>λv hv=>by
  obtain ⟨y,h1,h2,h3⟩:=fitsL_cons.1 h;rcases OF h3 v hv with g | g
  ·exact .inl (by simp[g])
  ·rcases Y4 g with g | rfl
   ·exact .inr g
   ·exact .inl (by simp)
theorem Rn:∀ {ws t s:List Ver},s.length=t.length->ws.Pairwise (λp u=>p.key≠u.key)->(∀ v∈ws,0<=v.key/\s[v.key.toNat]?=some v/\∃ x,t[v.key.toNat]?=some x/\AZ x v=true) ->
  (∀ (i:Nat) (x y:Ver),t[i]?=some x->s[i]?=some y->x=y\/(y∈ws/\y.key.toNat=i))->DM t ws=some s
 | [],t,s,hl,_,_,h=>by
  simp only[DM,Option.some.injEq];apply List.ext_getElem?;intro i;by_cases hi:i<t.length
  ·have h1:=CF hi;have h2:=CF (l:=s) (i:=i) (by omega);rcases h i _ _ h1 h2 with g | g
   ·rw[h1,h2,g]
   ·exact absurd g.1 (by simp)
  ·rw[Zz (by omega),Zz (by omega)]
 | v :: r,t,s,hl,hp,hw,h=>by
  rw[List.pairwise_cons] at hp;obtain ⟨h0,h1,x,h2,h3⟩:=hw v (by simp);refine fitsL_cons.2 ⟨x,h2,h3,Rn (by simpa using hl) hp.2 (λu hu=>?_) (λi a b ha hb=>?_)⟩
  ·obtain ⟨g0,g1,y,g2,g3⟩:=hw u (by simp[hu]);have:=hp.1 u hu;exact ⟨g0,g1,y,by rw[YG (by omega)];exact g2,g3⟩
  ·by_cases hi:v.key.toNat=i
   ·subst hi;have hlt:=(DB h2).1;rw[YO hlt] at ha;injection ha with ha;rw[h1] at hb;injection hb with hb;exact .inl (ha.symm.trans hb)
   ·rw[YG hi] at ha;rcases h i a b ha hb with g | ⟨g1,g2⟩
    ·exact .inl g
    ·rcases YW.1 g1 with rfl | g1
     ·exact absurd g2 hi
     ·exact .inr ⟨g1,g2⟩
theorem Oq {v:Ver}:∀ {l:List Ver},(Er v l).Perm (v :: l)
 | [] => .refl _
 | u :: r=>by
  simp only[Er];cases AZ u v with
  | false=>exact .refl _
  | true=>exact (List.Perm.cons u Oq).trans (List.Perm.swap v u r)
theorem N1:∀ {l acc:List Ver},(l.foldl (λacc v=>Er v acc) acc).Perm (l++acc)
 | [],acc => .refl _
 | v :: l,acc=>by rw[Zy];exact ((N1 (l:=l)).trans (List.Perm.append_left l Oq)).trans List.perm_middle
theorem lackU_mem:v∈Md s t<->∃ (i:Nat) (u:Ver),s[i]?=some v/\t[i]?=some u/\AZ u v=true:=by
 unfold Md;rw[List.mem_filterMap];constructor
 ·rintro ⟨⟨x,y⟩,hm,hx⟩
  obtain ⟨i,hi⟩:=YX.1 hm;rw[zak] at hi;unfold Ey at hx;simp only at hx;cases hl:AZ y x with
  | false=>rw[hl] at hx;cases hx
  | true =>rw[hl] at hx;injection hx with hx;subst hx;exact ⟨i,y,hi.1,hi.2,hl⟩
 ·rintro ⟨i,u,h1,h2,h3⟩
  refine ⟨(v,u),YX.2 ⟨i,zak.2 ⟨h1,h2⟩⟩,?_⟩;unfold Ey;simp only[h3,cond_true]
theorem Gb (hs:BF s=true) {x:Ver} (hx:s[i]?=some x):Hh i x=true:=by obtain ⟨hi,rfl⟩:=DB hx;exact DI hs hi
theorem Hj (hs:BF s=true) (ht:BF t=true) {x:Ver} (hx:s[i]?=some x) (hu:t[i]?=some u) (hl:AZ u x=true):Ck x=true/\x.key=(i:Int):=by
 rcases Dy (Gb hs hx) with g | g
 ·have:=Ii (PS (Gb ht hu)) (FY g);rw[hl] at this;cases this
 ·exact g
theorem lackL_perm:(C3 s t).Perm (Md s t):=by rw[<- Sv];have h:=N1 (l:=Md s t) (acc := []);rw[ZI] at h;exact h
theorem VF (hs:BF s=true) (ht:BF t=true):∀ v∈C3 s t,Ck v=true:=λv hv=>by obtain ⟨i,u,h1,h2,h3⟩:=lackU_mem.1 (lackL_perm.mem_iff.1 hv);exact (Hj hs ht h1 h2 h3).1
theorem Uz (hs:BF s=true) (ht:BF t=true) (hu:upS t s):DM t (C3 s t)=some s:=by
 refine Rn (by rw[Cl hs,Cl ht]) ?_ (λv hv=>?_) (λi x y hx hy=>?_)
 ·exact (lackL_perm.pairwise_iff λh=>h.symm).2 ((Su hs ht).imp λh=>by omega)
 ·obtain ⟨i,u,h1,h2,h3⟩:=lackU_mem.1 (lackL_perm.mem_iff.1 hv);have hk:=(Hj hs ht h1 h2 h3).2;have e:v.key.toNat=i:=by omega
  rw[e];exact ⟨by omega,h1,u,h2,h3⟩
 ·rcases hu i x y hx hy with h | h
  ·exact .inl h
  ·exact .inr ⟨lackL_perm.mem_iff.2 (lackU_mem.2 ⟨i,x,hy,hx,h⟩),by have:=(Hj hs ht hy hx h).2;omega⟩
structure Ch (l:List Node):Prop where
 pos:1<=l.length
 le:l.length<=4
 node:∀ (i:Nat) (x:Node),l[i]?=some x->Do x=true
 link:∀ (i:Nat) (x y:Node),l[i]?=some x->l[i+1]?=some y->DM y.store x.wait=some x.store
 last:∀ (i:Nat) (x:Node),l[i]?=some x->i+1=l.length->x.wait = []
theorem fits_iff:fits x s=true<->DM s x.wait=some x.store:=by
 unfold fits;cases h:DM s x.wait with
 | none=>simp
 | some r=>simp[O2]
theorem chain_iff {l:List Node}:D7 l=true<->Ch l:=by
 unfold D7;simp only[Cz];rw[FB (p:=Iy l),Xt (p:=Do)];constructor
 ·rintro ⟨⟨h1,h2⟩,h3⟩
  simp only[Af,Cz,decide_eq_true_eq] at h1;refine ⟨by omega,by omega,λi x hx=>?_,λi x y hx hy=>?_,λi x hx hi=>?_⟩
  ·obtain ⟨hi,rfl⟩:=DB hx;exact h2 i hi
  ·obtain ⟨hi,rfl⟩:=DB hx;have:=h3 i hi;unfold Iy at this;rw[hy] at this;exact fits_iff.1 this
  ·obtain ⟨hj,rfl⟩:=DB hx;have:=h3 i hj;unfold Iy at this;rw[Zz (by omega)] at this;exact YM (by simpa using this)
 ·rintro ⟨h1,h2,h3,h4,h5⟩
  refine ⟨⟨by simp[Af];omega,λi hi=>h3 i _ (CF hi)⟩,λi hi=>?_⟩;unfold Iy;cases hy:l[i+1]? with
  | some y=>exact fits_iff.2 (h4 i _ y (CF hi) hy)
  | none =>have:=List.getElem?_eq_none_iff.1 hy;simp[h5 i _ (CF hi) (by omega)]
section
variable {l:List Node}
theorem Ch.store (h:Ch l) {i:Nat}{x:Node} (hx:l[i]?=some x):BF x.store=true/\x.store.length=4:=by have:=(Bw (h.node i x hx)).1;exact ⟨this,Cl this⟩
theorem Ch.up (h:Ch l):∀ (d i:Nat) (x y:Node),l[i]?=some x->l[i+d]?=some y->upS y.store x.store
 | 0,i,x,y,hx,hy=>by rw[ZK,hx] at hy;injection hy with hy;subst hy;exact upS.refl
 | d+1,i,x,y,hx,hy=>by have hlt:=(DB hy).1;have hz:=CF (l:=l) (i:=i+d) (by omega);have h1:=h.up d i x _ hx hz;have h2:=Rm (h.link (i+d) _ y hz hy);exact h2.trans h1 (by rw[(h.store hx).2,(h.store hz).2];exact YH _)
theorem Ch.join (h:Ch l) (hl:l.length<4):Ch (FN l):=by
 have hp:=h.pos;rw[Eo (by omega)];have hz:l[l.length - 1]?=some (l[l.length - 1]'(by omega)):=CF (by omega);have hns:=(h.store hz).1;have hn:Do ⟨(l[l.length - 1]'(by omega)).store,[]⟩=true:=by unfold Do;rw[hns];rfl
 have get:∀ i x,(l ++ [(⟨(l[l.length - 1]'(by omega)).store,[]⟩:Node)])[i]?=some x->(i<l.length/\l[i]?=some x)\/(i=l.length/\x=⟨(l[l.length - 1]'(by omega)).store,[]⟩):=λi x hx=>by
  by_cases hi:i<l.length
  ·rw[YI hi] at hx;exact .inl ⟨hi,hx⟩
  ·rw[Y1 (by omega)] at hx;have:=(DB hx).1;simp only[ZB] at this;have e:i=l.length:=by omega
   subst e;rw[Nat.sub_self] at hx;injection hx with hx;exact .inr ⟨rfl,hx.symm⟩
 refine ⟨by simp,by simp;omega,λi x hx=>?_,λi x y hx hy=>?_,λi x hx hi=>?_⟩
 ·rcases get i x hx with ⟨_,g⟩ | ⟨_,rfl⟩
  ·exact h.node i x g
  ·exact hn
 ·rcases get (i+1) y hy with ⟨g1,g2⟩ | ⟨g1,rfl⟩
  ·rcases get i x hx with ⟨_,g⟩ | ⟨g,_⟩
   ·exact h.link i x y g g2
   ·omega
  ·rcases get i x hx with ⟨_,g⟩ | ⟨g,_⟩
   ·have e:i=l.length - 1:=by omega
    rw[h.last i x g g1];subst e;rw[hz] at g;injection g with g;subst g;rfl
   ·omega
 ·simp only[Y6,ZB] at hi;rcases get i x hx with ⟨g,_⟩ | ⟨_,rfl⟩
  ·omega
  ·rfl
theorem Gn (hk:k<l.length) (i:Nat):(BY l k)[i]?=if i+1=k then (l[i]?).map (λx=>(⟨x.store,match l[k+1]? with | some y=>C3 x.store y.store | none => []⟩:Node)) else if i<k then l[i]? else l[i+1]?:=by
 have hel:=ZD hk;unfold BY;by_cases h0:0<k
 ·rw[decide_eq_true h0,cond_true];have hk1:k - 1<(l.eraseIdx k).length:=by omega
  have e1:(l.eraseIdx k)[k - 1]=l[k - 1]:=by rw[List.getElem_eraseIdx,dif_pos (by omega)]
  have out:∀ w,i+1≠k->(CZ (l.eraseIdx k) (k - 1) w)[i]?=if i+1=k then (l[i]?).map (λx=>(⟨x.store,match l[k+1]? with | some y=>C3 x.store y.store | none => []⟩:Node)) else if i<k then l[i]? else l[i+1]?:=λw hi=>by rw[E1 hk1,YG (by omega),List.getElem?_eraseIdx,if_neg hi]
  have at1:∀ w,i+1=k->(CZ (l.eraseIdx k) (k - 1) w)[i]?=some ⟨l[k - 1].store,w⟩:=λw hi=>by
   have e:k - 1=i:=by omega
   rw[E1 hk1,e1,<- e,YO hk1]
  have hl1:l[k - 1]?=some l[k - 1]:=CF (by omega);by_cases hkl:k<(l.eraseIdx k).length
  ·rw[decide_eq_true hkl,cond_true];by_cases hi:i+1=k
   ·have e:i=k - 1:=by omega
    have hy:l[k+1]?=some (l[k+1]'(by omega)):=CF (by omega);have e2:(l.eraseIdx k)[k]=l[k+1]'(by omega):=by rw[List.getElem_eraseIdx,dif_neg (by omega)]
    rw[at1 _ hi,if_pos hi,e,hl1,hy,Dj hk1,Dj hkl,e1,e2];rfl
   ·exact out _ hi
  ·rw[decide_eq_false hkl,cond_false];by_cases hi:i+1=k
   ·have e:i=k - 1:=by omega
    have hy:l[k+1]?=none:=Zz (by omega);rw[at1 _ hi,if_pos hi,e,hl1,hy];rfl
   ·exact out _ hi
 ·rw[decide_eq_false h0,cond_false,if_neg (by omega),List.getElem?_eraseIdx]
theorem Ch.fall (h:Ch l) (hk:k<l.length) (h2:1<l.length):Ch (BY l k):=by
 have hle:=h.le;have hlen:=HX hk h2;have hnw:∀ i x,l[i]?=some x->i+1=k->Do ⟨x.store,match l[k+1]? with | some y=>C3 x.store y.store | none => []⟩=true:=λi x hx hi=>by
  have hs:=h.store hx;cases hy:l[k+1]? with
  | none=>unfold Do;rw[hs.1];rfl
  | some y =>have ht:=h.store hy;have h4:=Oj (s:=x.store) (t:=y.store) hs.2;unfold Do;simp only;rw[hs.1,decide_eq_true (by omega),YP,YP,YR];exact VF hs.1 ht.1
 refine ⟨by omega,by omega,λi x hx=>?_,λi x y hx hy=>?_,λi x hx hi=>?_⟩
 ·rw[Gn hk] at hx;split at hx
  ·rename_i hi
   rw[Zd] at hx;obtain ⟨z,hz,rfl⟩:=hx;exact hnw i z hz hi
  ·split at hx
   ·exact h.node i x hx
   ·exact h.node (i+1) x hx
 ·rw[Gn hk] at hx hy;by_cases hi:i+1=k
  ·rw[if_pos hi,Zd] at hx;obtain ⟨z,hz,rfl⟩:=hx;rw[if_neg (by omega),if_neg (by omega)] at hy;have e:i+1+1=k+1:=by omega
   rw[e] at hy;simp only[hy];have hup:=h.up 2 i z y hz (by rw[show i+2=k+1 by omega];exact hy);exact Uz (h.store hz).1 (h.store hy).1 hup
  ·rw[if_neg hi] at hx;by_cases hik:i<k
   ·rw[if_pos hik] at hx;by_cases hi2:i+1+1=k
    ·rw[if_pos hi2,Zd] at hy;obtain ⟨z,hz,rfl⟩:=hy;exact h.link i x z hx hz
    ·rw[if_neg hi2,if_pos (by omega)] at hy;exact h.link i x y hx hy
   ·rw[if_neg hik] at hx;rw[if_neg (by omega),if_neg (by omega)] at hy;exact h.link (i+1) x y hx hy
 ·rw[hlen] at hi;rw[Gn hk] at hx;split at hx
  ·rename_i hi2
   rw[Zd] at hx;obtain ⟨z,hz,rfl⟩:=hx;rw[Zz (by omega)]
  ·split at hx
   ·omega
   ·exact h.last (i+1) x hx (by omega)
theorem Ch.key (h:Ch l) (hz:l[i]?=some z) (hv:Ck v=true):∃ u,z.store[v.key.toNat]?=some u:=by have:=(BC hv).1;have h4:=(h.store hz).2;exact ⟨_,CF (by omega)⟩
theorem GA {j:Nat} (hz:l[j]?=some z) (hu:z.store[v.key.toNat]?=some u):FE l j v=bif AZ u v then l.set j ⟨z.store.set v.key.toNat v,bif decide (j+1<l.length) then z.wait ++ [v] else z.wait⟩ else l:=by unfold FE;rw[hz];simp only[hu]
theorem Wt {j:Nat} (hp:1<=l.length) (hle:l.length<=4) (hno:∀ (i:Nat) (x:Node),l[i]?=some x->Do x=true)
  (hli:∀ (i:Nat) (x y:Node),l[i]?=some x->l[i+1]?=some y->i+1≠j->DM y.store x.wait=some x.store) (hla:∀ (i:Nat) (x:Node),l[i]?=some x->i+1=l.length->x.wait = [])
  (hz:l[j]?=some z) (hv:Ck v=true) (hr:z.wait.length<6) (hu:z.store[v.key.toNat]?=some u) (hl:AZ u v=true)
  (hpr:∀ (i:Nat) (x:Node),l[i]?=some x->i+1=j->DM (z.store.set v.key.toNat v) x.wait=some x.store):Ch (FE l j v):=by
 have hj:=(DB hz).1;obtain ⟨n1,n2,n3⟩:=Bw (hno j z hz);rw[GA hz hu,hl,cond_true];have hnz:Do ⟨z.store.set v.key.toNat v,bif decide (j+1<l.length) then z.wait ++ [v] else z.wait⟩=true:=by
  unfold Do;simp only;rw[Qh n1 hv];cases decide (j+1<l.length) with
  | false =>rw[cond_false,decide_eq_true (by omega),YP,YP,YR];exact n3
  | true =>
   rw[cond_true,decide_eq_true (by simp;omega),YP,YP,YR];intro w hw;rcases YF.1 hw with g | g
   ·exact n3 w g
   ·rw[YZ] at g;subst g;exact hv
 refine ⟨by simpa using hp,by simpa using hle,λi x hx=>?_,λi x y hx hy=>?_,λi x hx hi=>?_⟩
 ·by_cases hij:j=i
  ·subst hij;rw[YO hj] at hx;injection hx with hx;subst hx;exact hnz
  ·rw[YG hij] at hx;exact hno i x hx
 ·by_cases hij:j=i
  ·subst hij;rw[YO hj] at hx;rw[YG (by omega)] at hy;have hlt:=(DB hy).1;injection hx with hx;subst hx;simp only[decide_eq_true hlt,cond_true];exact Ms (hli j z y hz hy (by omega)) hu hl
  ·rw[YG hij] at hx;by_cases hij2:j=i+1
   ·subst hij2;rw[YO hj] at hy;injection hy with hy;subst hy;exact hpr i x hx rfl
   ·rw[YG hij2] at hy;exact hli i x y hx hy (λe=>hij2 e.symm)
 ·rw[Zq] at hi;by_cases hij:j=i
  ·subst hij;rw[YO hj] at hx;injection hx with hx;subst hx;rw[decide_eq_false (by omega),cond_false];exact hla j z hz hi
  ·rw[YG hij] at hx;exact hla i x hx hi
theorem Ch.add (h:Ch l) (hv:Ck v=true) (hr:EH l 0=true):Ch (FE l 0 v):=by
 have hp:=h.pos;have hz:l[0]?=some (l[0]'(by omega)):=CF (by omega);rw[GI (by omega),decide_eq_true_eq] at hr;obtain ⟨u,hu⟩:=h.key hz hv;cases hl:AZ u v with
 | false=>rw[GA hz hu,hl,cond_false];exact h
 | true=>exact Wt hp h.le h.node (λi x y hx hy _=>h.link i x y hx hy) h.last hz hv hr hu hl (λi x _ e=>by omega)
theorem GJ {k:Int} (hc:Cx l k=true):∃ (f:Nat) (x y:Node) (v:Ver) (r:List Ver),k=(f:Int)/\l[f]?=some x/\l[f+1]?=some y/\x.wait=v :: r/\y.wait.length<6:=by
 simp only[Cx,Af,Cz,decide_eq_true_eq] at hc;obtain ⟨⟨h1,h2⟩,h3⟩:=hc;have hf:k.toNat+1<l.length:=by omega
 rw[Iw (by omega),Cz,decide_eq_true_eq,GI hf,decide_eq_true_eq] at h3;refine ⟨k.toNat,l[k.toNat],l[k.toNat+1],?_⟩;cases hw:l[k.toNat].wait with
 | nil=>rw[hw] at h3;simp at h3
 | cons v r=>exact ⟨v,r,by omega,CF (by omega),CF hf,rfl,h3.2⟩
theorem I1 {f:Nat} (hx:l[f]?=some x) (hw:x.wait=v :: r):Fa l f=FE (l.set f ⟨x.store,r⟩) (f+1) v:=by unfold Fa Fy;rw[hx];simp only[hw,List.getElem?_cons_zero,List.eraseIdx_cons_zero]
theorem Ch.pass (h:Ch l) {k:Int} (hc:Cx l k=true):Ch (Fa l k.toNat):=by
 obtain ⟨f,x,y,v,r,rfl,hx,hy,hw,hr⟩:=GJ hc;have hf:=(DB hx).1;have hf1:=(DB hy).1;obtain ⟨n1,n2,n3⟩:=Bw (h.node f x hx);have hlk:=h.link f x y hx hy;rw[hw] at hlk n2 n3;obtain ⟨u,hu,hl,hlk⟩:=fitsL_cons.1 hlk;rw[BA,I1 hx hw];have hv:=n3 v (by simp);have get:∀ (i:Nat) (z:Node),(l.set f ⟨x.store,r⟩)[i]?=some z->(i=f/\z=⟨x.store,r⟩)\/(i≠f/\l[i]?=some z):=λi z hz=>by
  by_cases hi:f=i
  ·subst hi;rw[YO hf] at hz;injection hz with hz;exact .inl ⟨rfl,hz.symm⟩
  ·rw[YG hi] at hz;exact .inr ⟨λe=>hi e.symm,hz⟩
 refine Wt (z:=y) (u:=u) (by simpa using h.pos) (by simpa using h.le) (λi z hz=>?_) (λi z w hz hw' hne=>?_) (λi z hz hi=>?_) (by rw[YG (by omega)];exact hy) hv hr hu hl (λi z hz hi=>?_)
 ·rcases get i z hz with ⟨_,rfl⟩ | ⟨_,g⟩
  ·unfold Do;simp only;simp only[ZC] at n2;rw[n1,decide_eq_true (by omega),YP,YP,YR];exact λw hw=>n3 w (by simp[hw])
  ·exact h.node i z g
 ·rcases get i z hz with ⟨rfl,_⟩ | ⟨_,g⟩
  ·exact absurd rfl hne
  ·rcases get (i+1) w hw' with ⟨e,rfl⟩ | ⟨_,g2⟩
   ·rw[e] at hw';exact h.link i z x g (by rw[e];exact hx)
   ·exact h.link i z w g g2
 ·rw[Zq] at hi;rcases get i z hz with ⟨rfl,_⟩ | ⟨_,g⟩
  ·omega
  ·exact h.last i z g hi
 ·rcases get i z hz with ⟨_,rfl⟩ | ⟨g,_⟩
  ·exact hlk
  ·omega
end


variable {l:List Tag}{p:Place}{k:Int}{s:ByteArray}{T:Type}{K:V->Heap->Option T}
def A2 (p:Place) (l:List Tag):Int:=Ed (Df l) p.clock+1
def Ek (p:Place) (k:Int) (s:ByteArray) (g:Bool) (l:List Tag):Ver:=⟨k,⟨A2 p l,p.me⟩,l,s,g⟩
def Fg (p:Place) (l:List Tag):Bool:=BT l (Bq p.chain)&&(EH p.chain 0&&(decide (A2 p l<=999)&&decide ((p.log.length:Int)<36)))
def A4 (p:Place) (k:Int) (s:ByteArray) (g:Bool) (l:List Tag):Bool:=Af k 0 3&&(E4 s&&((!g || GL s)&&(BE l&&Fg p l)))
def wrote (p:Place) (k:Int) (s:ByteArray) (g:Bool) (l:List Tag):Place×Tag:=bif Ar p then (bif A4 p k s g l then (CC (FD p 0 (A2 p l) (Ek p k s g l)),⟨A2 p l,p.me⟩) else (p,⟨0,0⟩)) else (XE,⟨0,0⟩)
theorem Pc {a c x:Int}:Ed a c<x<->a<x/\c<x:=by unfold Ed;split<;>omega
theorem WW {A B:Int} (h:∀ x,A<x<->B<x):A=B:=by have h1:=(h (A+1)).1 (by omega);have h2:=(h (B+1)).2 (by omega);omega
theorem Ur {c:Int} (hc:0<=c):l.foldl (λm t=>if t.time>m then t.time else m) c=Ed (Df l) c:=by
 refine WW λx=>?_;rw[Pc,latest_lt,Mp];constructor
 ·rintro ⟨h1,h2⟩;exact ⟨⟨by omega,h2⟩,h1⟩
 ·rintro ⟨⟨_,h2⟩,h1⟩;exact ⟨h1,h2⟩
theorem Ux (h:BE l=true):0<=Df l/\Df l<=999:=by
 have h1:Df l<1000:=latest_lt.2 ⟨by omega,λt ht=>by
  simp only[BE,Cz,YR] at h;have:=It (h.2 t ht);omega⟩
 have h2:¬ Df l<0:=λh=>by have:=(latest_lt.1 h).1;omega
 omega
theorem IN (hp:Ar p=true) (h:BE l=true):1<=A2 p l/\A2 p l<=1000/\Df l<A2 p l/\p.clock<A2 p l:=by have h1:=Ux h;have h2:=(AJ hp).2.1;unfold A2 Ed;split<;>omega
theorem EZ {g:Bool} (h:A4 p k s g l=true):(0<=k/\k<=3)/\E4 s=true/\(g=true->GL s=true)/\BE l=true/\BT l (Bq p.chain)=true/\EH p.chain 0=true/\A2 p l<=999/\p.log.length<36:=by unfold A4 Fg at h;simp only[Cz,Ze,decide_eq_true_eq,Af,Zp] at h;obtain ⟨h1,h2,h3,h4,h5,h6,h7,h8⟩:=h;exact ⟨h1,h2,λhg=>h3.resolve_left (by rw[hg];simp),h4,h5,h6,h7,by omega⟩
theorem QN {g:Bool} (hp:Ar p=true) (h:A4 p k s g l=true):thin (Ek p k s g l):=by obtain ⟨h1,h2,h3,h4,h5,h6,h7,h8⟩:=EZ h;have g1:=Cp h4;have g2:=DH h2;have g3:=IN hp h4;have g4:=(AJ hp).1;refine ⟨by show l.length<=4;omega,by show s.size<=8;omega,?_⟩;show Bu (A2 p l) p.me=true;unfold Bu Af;rw[decide_eq_true g3.1,decide_eq_true h7,decide_eq_true g4.1,decide_eq_true g4.2];simp
theorem Wq {lo lo' e R bytes q:Nat}{a:Pq}{xs:List (List V)}{h:Heap}:CJ lo e R bytes (.sl q a 0 (some 0)) xs h K=CJ lo' e R bytes (.sl q a 0 (some 0)) xs h K:=by
 cases xs with
 | nil=>rfl
 | cons x xs =>
  cases a with
  | none=>rfl
  | some p =>
   obtain ⟨b,i⟩:=p;simp only[CJ];have:Nat.ble (0+(x :: xs).length) 0=false:=by rw[ZC,Zf];rfl
   rw[this]
section
variable {lo:Nat}{ro:Bool}{h:Heap}{F F' G:List Nat}{a a' av:Pq}{c c' cv:Nq}
theorem Kt {a1 a2 a3:Pq}{c1 c2 c3:Nq} (hv:RTags ro h [.sl 2 av l.length cv] l G) (hok:Ar p=true) (hl:BE l=true) :
  Ae lo 111 [.agg (p.cs a1 c1 a2 c2 a3 c3),.agg [.sl 2 av l.length cv]] h=some (Iv (A2 p l),h):=by
 have h4:=Cp hl;have hc:=(AJ hok).2.1;refine NC (h':=h) ?_;have loop:∀ m i x,m+i=4->(∀ y:Int,(l.drop i).foldl (λm t=>if t.time>m then t.time else m) x=y -> -9223372036854775808<=y+1/\y+1<=9223372036854775807)->BM (List.length h) x (i:Nat) av l.length cv h=some (Iv ((l.drop i).foldl (λm t=>if t.time>m then t.time else m) x+1),h):=by
  intro m;induction m with
  | zero =>intro i x hi hb;rw[Y0 (by omega)] at hb ⊢;have:=hb x rfl;rw[BM.e,Ak (by omega),wr (by omega) (by omega)];rfl
  | succ m ih =>
   intro i x hi hb;have hil:i<l.length:=by omega
   obtain ⟨o,ha,ho⟩:=hv.get hil;have ho1:ld h o.1 (o.2+i) 0 1=some [Iv l[i].time]:=by obtain ⟨o',row,G',h1,h2,⟨rfl,_⟩,_⟩:=hv.read hil;rw[ha] at h1;injection h1 with h1;subst h1;rw[h2];rfl
   rw[YN hil,Zy] at hb ⊢;rw[BM.e,Aj (by omega),Ad hil,ha,Ag,BA,ho1,Ag,Ab,Ai,Aa,Ad hil,Ag,ho1,Ag,Ab,Ai,Aa,As (show i<9223372036854775807 by omega),<- ha];by_cases ht:l[i].time>x
   ·rw[if_pos ht] at hb ⊢;rw[Aj ht];exact ih (i+1) _ (by omega) hb
   ·rw[if_neg ht] at hb ⊢;rw[Ak ht];exact ih (i+1) _ (by omega) hb
 have hnf:∀ y,(l.drop 0).foldl (λm t=>if t.time>m then t.time else m) p.clock=y->y=Ed (Df l) p.clock:=λy hy=>by rw[<- hy,Zg,Ur hc.1]
 have hb:=IN hok hl;have:=loop 4 0 p.clock rfl (λy hy=>by rw[hnf y hy];unfold A2 at hb;omega);rw[hnf _ rfl] at this;exact this
theorem RX {a1 a2 a3:Pq}{c1 c2 c3:Nq}{F1:List Nat} (hs1:RNodes ro h [.sl 2 a1 p.chain.length c1] p.chain F1) (hv:RTags ro h [.sl 2 av l.length cv] l G) (hok:Ar p=true) (hl:BE l=true) (hn:GF p) :
  Ae lo 97 [.agg (p.cs a1 c1 a2 c2 a3 c3),.agg [.sl 2 av l.length cv]] h=some (.bool (Fg p l),h):=by
 have h0:=Et hok;have hchain:=(AJ hok).2.2.2.1;obtain ⟨v5,h5,F5,e5,r5,m5⟩:=Ik (lo:=h.length) hs1 (YH _) hn.1 h0;obtain ⟨a6,c6,e6,r6⟩:=r5.form;refine PZ (h':=h5) ?_;have en:=Kt (lo:=h.length) (a1:=a1) (c1:=c1) (a2:=a2) (c2:=c2) (a3:=a3) (c3:=c3) (m5.keep0 rtags_ok hv) hok hl;simp only[Place.cs] at en;unfold Fg;rw[e5,Ac,A3,Ab,e6,Ai,FW (m5.keep0 rtags_ok hv) r6 (Cp hl) (LH hchain),Ac,AC];cases BT l (Bq p.chain) with
 | false=>rw[Au];rfl
 | true =>
 rw[Ao,Ku (m5.keep0 rnodes_ok hs1) h0,Ac,AC];cases EH p.chain 0 with
 | false=>rw[Au];rfl
 | true =>
 rw[Ao,en,Ac,Aa];cases decide (A2 p l<=999) with
 | false=>rw[Au];rfl
 | true =>
 rw[Ao];cases decide ((p.log.length:Int)<36) with
 | false=>rw[Au];rfl
 | true=>rw[Ao];rfl
theorem IT {g:Bool}{a1 a2 a3:Pq}{c1 c2 c3:Nq}{F1 F2 F3:List Nat} (hs1:RNodes false h [.sl 2 a1 p.chain.length c1] p.chain F1) (hs2:RVers false h [.sl 6 a2 p.log.length c2] p.log F2) (hs3:RVss false h [.sl 1 a3 p.got.length c3] p.got F3)
  (hv:RTags false h [.sl 2 av l.length cv] l G) (hok:Ar p=true) (hc:A4 p k s g l=true) (hnd:(F1++(F2++F3)).Nodup) (hlo:∀ b∈F1++(F2++F3),lo<=b) (hl:lo<=h.length) :
  ∃ a2' c2' h' F',Ae lo 98 [.agg (p.cs a1 c1 a2 c2 a3 c3),Iv k,.str s,.bool g,.agg [.sl 2 av l.length cv]] h=some (.tup [.agg ((CC (FD p 0 (A2 p l) (Ek p k s g l))).cs a1 c1 a2' c2' a3 c3),.agg [Iv (A2 p l),Iv p.me]],h') /\
   Jy false h' ((CC (FD p 0 (A2 p l) (Ek p k s g l))).cs a1 c1 a2' c2' a3 c3) (CC (FD p 0 (A2 p l) (Ek p k s g l))) F'/\Mv h (F1++(F2++F3)) h' F':=by
 obtain ⟨g1,g2,g3,g4,g5,g6,g7,g8⟩:=EZ hc;have h0:=Et hok;have hl4:=Cp g4;have hti:=RP hok;obtain ⟨a5,c5,h5,F5,e5,r5,m5⟩:=Gp (lo:=h.length) (h:=h) (l:=l) (YH _) (by omega);rw[<- YV] at hnd hlo ⊢;have hnd':=hnd;rw[YK] at hnd';have hdis:∀ y∈F3,y∉F1++F2:=λy hy hm=>hnd'.2.2 y hm y hy rfl;have hb12:∀ y∈F1++F2,y<h.length:=λy hy=>by rw[YF] at hy;exact hy.elim (rnodes_ok.bd _ _ _ _ hs1 y) (rvers_ok.bd _ _ _ _ hs2 y)
 obtain ⟨h6,a6,c6,h7,F6,F7,e6,e7,r6,r7,m7⟩:=IV (lo:=lo) (v:=Ek p k s g l) (k:=0) (t:=A2 p l) (a3:=a3) (c3:=c3) (m5.keep0 rnodes_ok hs1) (m5.keep0 rvers_ok hs2) r5 (λy hy hm=>by
  have:=m5.new y hy;have:=hb12 y (by simp[hm]);omega) hnd'.1 (λy hy=>hlo y (by rw[YF];exact .inl hy)) (YD hl m5.le) h0 g1 hti (QN hok hc)
 have hcs:(FD p 0 (A2 p l) (Ek p k s g l)).cs a1 c1 a2 c2 a3 c3 = [Iv p.me,Iv (A2 p l),.sl 2 a1 p.chain.length c1,.sl 6 a2 p.log.length c2,.sl 1 a3 p.got.length c3,.bool p.fell]:=by simp only[Place.cs,FD,HI]
 rw[hcs] at e7;have m5':Mv h (F1++F2) h5 (F1++F2):=(m5.drop.aside (G:=F1++F2) hnd'.1 hb12);have m8:=m5'.trans m7;have b3':∀ y∈F3,y<h.length:=rvss_ok.bd _ _ _ _ hs3;have m9:=m8.aside (G:=F3) hnd b3';have hs3':=m8.keep rvss_ok hs3 hdis;refine ⟨a6,c6,h7,F6++F7++F3,MR ?_,⟨_,_,_,_,_,_,rfl,_,_,_,F6,F7,F3,rfl,by rw[YV],r6,r7,hs3'⟩,m9⟩;have en:=Kt (lo:=h.length) (a1:=a1) (c1:=c1) (a2:=a2) (c2:=c2) (a3:=a3) (c3:=c3) hv hok g4;simp only[Place.cs] at en;have e6':Ae lo 105 [.agg [.sl 2 a1 p.chain.length c1],Iv 0,.agg [Iv k,Iv (A2 p l),Iv p.me,.sl 2 a5 l.length c5,.str s,.bool g]] h5=some (.agg [.sl 2 a1 p.chain.length c1],h6):=e6;rw[en,Ac,Aa,RTags.rows (Mv.snoc.keep0 rtags_ok hv),Wq (lo':=h.length),e5,Ah,e6',Ac,A3,Ab,Ah,Ai,e7,Ac,A3];simp only[Place.cs];rw[Ab,Aa,Ab,Aa,Ab,Ah,Ab,Ah,Ab,Ah,Ab,Bk,Ai]
end


variable {p:Place}{s:ByteArray}{l:List Tag}
theorem KO {k:Int}{g:Bool}:A4 p k s g l=(Lk ⟨k,⟨0,0⟩,l,s,g⟩&&Fg p l):=by unfold A4 Lk;simp only[Bool.and_assoc]
theorem LB {k:Int}{g:Bool} (h:Ar p=true):wrote p k s g l=bif A4 p k s g l then (CC (FD p 0 (A2 p l) (Ek p k s g l)),⟨A2 p l,p.me⟩) else (p,⟨0,0⟩):=by unfold wrote;rw[h,cond_true]
section
variable {lo:Nat}{h:Heap}{F F' G:List Nat}{a a' av:Pq}{c c' cv:Nq}
end


variable {p:Place}
def Gl (p:Place) (f:Nat) (at':Int) (v:Ver):Bool := !((f:Int)==p.me)&&((at'==((He p f).length:Int))&&(decide (((He p f).length:Int)<60) && !Cr (He p f) v.tag))
def EA (p:Place) (f at':Int) (v:Ver):Bool:=Af f 0 2&&(Ck v&&((v.tag.place==f)&&Gl p f.toNat at' v))
def Hd (p:Place) (f:Nat) (v:Ver):Place:=⟨p.me,p.clock,p.chain,p.log,p.got.set f (He p f ++ [v]),p.fell⟩
def Ev (p:Place) (f at':Int) (v:Ver):Place:=bif EA p f at' v then Hd p f.toNat v else p
theorem WX {f:Nat}{v:Ver}{a1 a2 a3:Pq}{c1 c2 c3:Nq}:(Hd p f v).cs a1 c1 a2 c2 a3 c3=p.cs a1 c1 a2 c2 a3 c3:=by simp only[Place.cs,Hd,Zq]
section
variable {lo:Nat}{h:Heap}{F F' G:List Nat}{a a' av:Pq}{c c' cv:Nq}
theorem OY {f:Nat}{at':Int}{v:Ver}{a1 a2 a3:Pq}{c1 c2 c3:Nq}{F3:List Nat} (hs3:RVss false h [.sl 1 a3 p.got.length c3] p.got F3) (hv:RTags false h [.sl 2 av v.past.length cv] v.past G)
  (hf:f<p.got.length) (hgn:p.got[f].length<=1000000) (hvn:v.past.length<=1048576) (hnd:F3.Nodup) (hlo:∀ b∈F3,lo<=b) (hl:lo<=h.length) :
  ∃ h' F3',Ae lo 93 [.agg (p.cs a1 c1 a2 c2 a3 c3),Iv (f:Nat),Iv at',.agg (v.cs av cv)] h=some (.tup [.agg (p.cs a1 c1 a2 c2 a3 c3),.bool (Gl p f at' v)],h') /\
   RVss false h' [.sl 1 a3 p.got.length c3] (bif Gl p f at' v then p.got.set f (p.got[f] ++ [v]) else p.got) F3'/\Mv h F3 h' F3'/\(Gl p f at' v=false->h'=h):=by
 suffices hq:∃ h' F3',_=some (V.tup [.agg (p.cs a1 c1 a2 c2 a3 c3),.bool (Gl p f at' v)],h')/\RVss false h' [.sl 1 a3 p.got.length c3] (bif Gl p f at' v then p.got.set f (p.got[f] ++ [v]) else p.got) F3'/\Mv h F3 h' F3'/\(Gl p f at' v=false->h'=h) from hq.imp λh' hq=>hq.imp λF' hq=>⟨ND hq.1,hq.2⟩
 have hh:Gl p f at' v=(!((f:Int)==p.me)&&((at'==(p.got[f].length:Int))&&(decide ((p.got[f].length:Int)<60) && !Cr p.got[f] v.tag))):=by unfold Gl;rw[Gm hf]
 rw[hh];cases x1:((f:Int)==p.me) with
 | true=>rw[Ao];exact ⟨h,F3,rfl,hs3,Mv.refl hnd,λ_=>rfl⟩
 | false =>
 obtain ⟨b,i,rs,row,G0,ha,hbF,hbG,hb,hrow,hel,hGF,hGn,_,put⟩:=hs3.at rvers_ok hf hnd hlo;have hrs:∃ s,row = [s]:=by obtain ⟨R',a',c',e,_⟩:=id hel;exact ⟨_,e⟩
 obtain ⟨s,rfl⟩:=hrs;obtain ⟨b3,d3,es,r3⟩:=hel.form;have hld:ld h b (i+f) 0 1=some [s]:=by rw[C2 hb hrow];rfl
 rw[Au,Ad hf,ha,Ag,BA,hld,Ag,Ab,Ai,es];cases x2:(at'==(p.got[f].length:Int)) with
 | false=>rw[Au];exact ⟨h,F3,rfl,by rw[<- ha];exact hs3,Mv.refl hnd,λ_=>rfl⟩
 | true =>
 have hat:at'=(p.got[f].length:Int):=by rwa [beq_iff_eq] at x2
 rw[Ao];cases x3:decide ((p.got[f].length:Int)<60) with
 | false =>
  have:(p.got[f].length:Int)>=60:=by have:=of_decide_eq_false x3;omega
  rw[Aj (by omega)];exact ⟨h,F3,rfl,by rw[<- ha];exact hs3,Mv.refl hnd,λ_=>rfl⟩
 | true =>
 have:(p.got[f].length:Int)<60:=of_decide_eq_true x3;rw[Ak (by omega),Ad hf,Ag,hld,Ag,Ab,Ai,es,Ij r3 (by omega),Ac,AC];have hht:Cr p.got[f] ⟨v.tag.time,v.tag.place⟩=Cr p.got[f] v.tag:=rfl;rw[hht];cases x4:Cr p.got[f] v.tag with
 | true=>rw[Ao];exact ⟨h,F3,rfl,by rw[<- ha];exact hs3,Mv.refl hnd,λ_=>rfl⟩
 | false =>
 obtain ⟨a5,c5,h5,F5,e5,r5,m5⟩:=BW (lo:=h.length) (v:=v) hv (YH _) hvn;obtain ⟨a6,c6,h6,F6,e6,r6,m6⟩:=DT (lo:=lo) (bytes:=72) (e:=105) rver_ok r3 (row:=v.cs a5 c5) (x:=v) (G:=F5) (h1:=h5 ++ [.rows 6 105 false [v.cs a5 c5]])
  ⟨_,rfl,Mv.snoc.keep0 rtags_ok r5⟩ (m5.trans (Mv.snoc' m5.nd)) hGn (λy hy=>hlo y (hGF y hy)) hl (by decide) (by omega)
 rw[show p.got[f].length+1=(p.got[f] ++ [v]).length by simp] at r6;obtain ⟨h7,F7,e7,r7,m7,_⟩:=put h6 F6 0 [.sl 6 a6 (p.got[f] ++ [v]).length c6] [.sl 6 a6 (p.got[f] ++ [v]).length c6] (p.got[f] ++ [v]) m6 rfl r6;rw[show (p.got[f] ++ [v]).length=p.got[f].length+1 by simp] at e7;rw[Au,Ad hf,Ag,hld,Ag,Ab,Ai,es,e5,Ac,A3,Ab,Aa,Ab,Aa,Ab,Aa,Ab,Ah,Ab,Dg,Ab,Bk,Ai,Bv];simp only[Ver.cs] at e6;rw[e6,Ah,Ad hf,Ag,e7,Ag];exact ⟨h7,F7,rfl,by rw[<- ha];exact r7,m7,λg=>by cases g⟩
end


variable {c t:Int}{s:ByteArray}{i:Nat}{x:Node}{k m:Int}
theorem BP {a b d:Int}:Bx a b c d=false<->¬ (a<c\/(a=c/\b<d)):=by rw[<- Bool.not_eq_true];simp[Bx]
theorem under_iff {p q:List Tag}:BT p q=true<->∀ (i:Nat) (a b:Tag),p[i]?=some a->q[i]?=some b->Bx b.time b.place a.time a.place=false:=by
 unfold BT;rw[YR];constructor
 ·intro h i a b ha hb;have:=h (a,b) (YX.2 ⟨i,zak.2 ⟨ha,hb⟩⟩);simpa using this
 ·rintro h ⟨a,b⟩ hm
  obtain ⟨i,hi⟩:=YX.1 hm;rw[zak] at hi;simpa using h i a b hi.1 hi.2
theorem C7 {p:List Tag}:BT p p=true:=under_iff.2 λi a b ha hb=>by rw[ha] at hb;injection hb with hb;subst hb;rw[BP];omega
theorem Hi {p q r:List Tag} (hl:p.length<=q.length) (h1:BT p q=true) (h2:BT q r=true):BT p r=true:=under_iff.2 λi a c ha hc=>by have hi:=(DB ha).1;have hb:=CF (l:=q) (i:=i) (by omega);have x1:=under_iff.1 h1 i a _ ha hb;have x2:=under_iff.1 h2 i _ c hb hc;rw[BP] at x1 x2 ⊢;omega
theorem JK {t s:List Ver} (h:upS t s):BT (Bc t) (Bc s)=true:=under_iff.2 λi a b ha hb=>by
 unfold Bc at ha hb;rw[ZZ,Zd] at ha hb;obtain ⟨x,hx,rfl⟩:=ha;obtain ⟨y,hy,rfl⟩:=hb;rw[BP];rcases h i x y hx hy with rfl | g
 ·omega
 ·rw[HU] at g;omega
def inCh (l:List Node) (v:Ver):Prop:=∃ x∈l,v∈x.store\/v∈x.wait
section
variable {l:List Node}{v:Ver}
theorem inCh.get (h:inCh l v):∃ (i:Nat) (x:Node),l[i]?=some x/\(v∈x.store\/v∈x.wait):=by obtain ⟨x,hx,hv⟩:=h;obtain ⟨i,hi⟩:=YX.1 hx;exact ⟨i,x,hi,hv⟩
theorem inCh.of (hx:l[i]?=some x) (hv:v∈x.store\/v∈x.wait):inCh l v:=⟨x,YS hx,hv⟩
theorem Ch.ver (h:Ch l) (hv:inCh l v) (ht:0<v.tag.time):Ck v=true:=by
 obtain ⟨i,x,hx,g | g⟩:=hv.get
 ·obtain ⟨j,hj⟩:=YX.1 g;rcases Dy (Gb (h.store hx).1 hj) with g2 | g2
  ·have:=(FY g2).1;omega
  ·exact g2.1
 ·exact (Bw (h.node i x hx)).2.2 v g
theorem Cn (hx:l[i]?=some x) (hi:i+1=l.length):Bq l=Bc x.store:=by
 rw[Jb (show 0<l.length by omega)];obtain ⟨hj,rfl⟩:=DB hx;have e:l.length - 1=i:=by omega
 simp only[e]
theorem EW (hx:l[i]?=some x) (hi:i+1=l.length):Dp l=x.store:=by
 rw[En (show 0<l.length by omega)];obtain ⟨hj,rfl⟩:=DB hx;have e:l.length - 1=i:=by omega
 simp only[e]
theorem Ch.tail (h:Ch l):∃ z,l[l.length - 1]?=some z/\l.length - 1+1=l.length:=by have:=h.pos;exact ⟨_,CF (by omega),by omega⟩
theorem Ch.four (h:Ch l):(Bq l).length=4/\(Dp l).length=4:=by obtain ⟨z,hz,hi⟩:=h.tail;rw[Cn hz hi,EW hz hi];have:=(h.store hz).2;exact ⟨by simpa [Bc] using this,this⟩
theorem On (h:Ch l):(FN l).length=l.length+1/\Bq (FN l)=Bq l/\Dp (FN l)=Dp l/\(FN l)[0]?=l[0]?:=by
 have hp:=h.pos;obtain ⟨z,hz,hi⟩:=h.tail;obtain ⟨hj,e⟩:=DB hz;have hn:(FN l)[l.length]?=some ⟨z.store,[]⟩:=by rw[Eo (by omega),Y1 (YH _),Nat.sub_self,e];rfl
 have hl:(FN l).length=l.length+1:=by rw[Eo (by omega)];simp
 refine ⟨hl,?_,?_,?_⟩
 ·rw[Cn hn (by omega),Cn hz hi]
 ·rw[EW hn (by omega),EW hz hi]
 ·rw[Eo (by omega),YI (by omega)]
theorem Ot (hp:1<=l.length) (hv:inCh (FN l) v):inCh l v:=by
 rw[Eo (by omega)] at hv;obtain ⟨x,hx,g⟩:=hv;rcases YF.1 hx with hx | hx
 ·exact ⟨x,hx,g⟩
 ·rw[YZ] at hx;subst hx;rcases g with g | g
  ·exact ⟨_,YJ (by omega),.inl g⟩
  ·exact absurd g (by simp)
theorem Ou {k:Nat} (hk:k<l.length) (hv:inCh (BY l k) v):inCh l v:=by
 obtain ⟨i,x,hx,g⟩:=hv.get;rw[Gn hk] at hx;split at hx
 ·rw[Zd] at hx;obtain ⟨z,hz,rfl⟩:=hx;rcases g with g | g
  ·exact .of hz (.inl g)
  ·simp only at g;split at g
   ·exact .of hz (.inl (JW g))
   ·simp at g
 ·split at hx
  ·exact .of hx g
  ·exact .of hx g
theorem Jg {j:Nat}{u:Ver} (hv:inCh (FE l j u) v):inCh l v\/v=u:=by
 unfold FE at hv;split at hv
 ·rename_i x hx
  split at hv
  ·rename_i w hw
   cases hl:AZ w u with
   | false=>rw[hl] at hv;exact .inl hv
   | true =>
    rw[hl,cond_true] at hv;obtain ⟨y,hy,g⟩:=hv;rcases Y4 hy with hy | rfl
    ·exact .inl ⟨y,hy,g⟩
    ·rcases g with g | g
     ·rcases Y4 g with g | rfl
      ·exact .inl (.of hx (.inl g))
      ·exact .inr rfl
     ·simp only at g;cases hd:decide (j+1<l.length) with
      | false=>rw[hd] at g;exact .inl (.of hx (.inr g))
      | true =>
       rw[hd,cond_true] at g;rcases YF.1 g with g | g
       ·exact .inl (.of hx (.inr g))
       ·exact .inr (by simpa using g)
  ·exact .inl hv
 ·exact .inl hv
theorem Or (hc:Cx l k=true) (hv:inCh (Fa l k.toNat) v):inCh l v:=by
 obtain ⟨f,x,y,u,r,rfl,hx,hy,hw,hr⟩:=GJ hc;rw[BA,I1 hx hw] at hv;rcases Jg hv with ⟨z,hz,g⟩ | rfl
 ·rcases Y4 hz with hz | rfl
  ·exact ⟨z,hz,g⟩
  ·rcases g with g | g
   ·exact .of hx (.inl g)
   ·exact .of hx (.inr (by rw[hw];simp only at g;simp[g]))
 ·exact .of hx (.inr (by rw[hw];simp))
theorem ML (h:Ch l):HC l=true<->∀ v,inCh l v->0<v.tag.time->BT v.past (Bq l)=true:=by
 unfold HC L1;rw[YR];constructor
 ·rintro hc v ⟨x,hx,g⟩ ht
  have:=hc x hx;rw[Cz,YR,YR] at this;rcases g with g | g
  ·have:=this.1 v g;rw[Ze,Zp,decide_eq_false_iff_not] at this;exact this.resolve_left λhn=>hn ht
  ·exact this.2 v g
 ·intro hc x hx;rw[Cz,YR,YR];refine ⟨λv hv=>?_,λv hv=>?_⟩
  ·by_cases ht:v.tag.time>0
   ·rw[hc v ⟨x,hx,.inl hv⟩ ht,zai]
   ·rw[decide_eq_false ht];rfl
  ·obtain ⟨i,hi⟩:=YX.1 hx;exact hc v ⟨x,hx,.inr hv⟩ (RM ((Bw (h.node i x hi)).2.2 v hv))
theorem D1 (hx:l[0]?=some x):Es l c=true<->∀ v∈x.store,v.tag.time<=c:=by unfold Es;rw[hx];simp
theorem Ro (h:Ch l) {k:Nat} (hk:k<l.length) (h2:1<l.length):BT (Bq l) (Bq (BY l k))=true:=by
 have hlen:=HX hk h2;obtain ⟨z,hz,hi⟩:=h.tail;obtain ⟨z',hz',hi'⟩:=(h.fall hk h2).tail;rw[Cn hz hi,Cn hz' hi'];rw[Gn hk] at hz';split at hz'
 ·rename_i e
  rw[Zd] at hz';obtain ⟨w,hw,rfl⟩:=hz';exact JK (h.up 1 _ w z hw (by rw[show (BY l k).length - 1+1=l.length - 1 by omega];exact hz))
 ·rename_i e
  split at hz'
  ·omega
  ·rw[show (BY l k).length - 1+1=l.length - 1 by omega,hz] at hz';injection hz' with hz';subst hz';exact C7
theorem S7 (h:Ch l) (hv:Ck v=true):BT (Bq l) (Bq (FE l 0 v))=true:=by
 have hp:=h.pos;have hz:l[0]?=some (l[0]'(by omega)):=CF (by omega);obtain ⟨u,hu⟩:=h.key hz hv;rw[GA hz hu];cases hl:AZ u v with
 | false=>exact C7
 | true =>
  rw[cond_true];by_cases h1:l.length=1
  ·rw[Cn hz (by omega),Cn (i:=0) (YO (by omega)) (by simpa using h1.symm)];exact JK (upS.set hu hl)
  ·obtain ⟨z,hz',hi⟩:=h.tail;rw[Cn hz' hi,Cn (i:=l.length - 1) (by rw[YG (by omega)];exact hz') (by simpa using hi)];exact C7
theorem QJ (h:Ch l) (hc:Cx l k=true):BT (Bq l) (Bq (Fa l k.toNat))=true:=by
 obtain ⟨f,x,y,v,r,rfl,hx,hy,hw,hr⟩:=GJ hc;have hlk:=h.link f x y hx hy;rw[hw] at hlk;obtain ⟨u,hu,hl,_⟩:=fitsL_cons.1 hlk;have hf1:=(DB hy).1;obtain ⟨z,hz,hi⟩:=h.tail;have hy':(l.set f ⟨x.store,r⟩)[f+1]?=some y:=by rw[YG (by omega)];exact hy
 rw[BA,I1 hx hw,GA hy' hu,hl,cond_true,Cn hz hi];by_cases he:f+1=l.length - 1
 ·rw[he,hz] at hy;injection hy with hy;subst hy;rw[Cn (i:=f+1) (YO (by simpa using hf1)) (by simp;omega)];exact JK (upS.set hu hl)
 ·rw[Cn (i:=l.length - 1) (x:=z) (by rw[YG (by omega),YG (by omega)];exact hz) (by simpa using hi)];exact C7
theorem U5 {t s:List Ver} (h:upS t s) (hl:t.length<=s.length) (hs:∀ v∈s,v.tag.time<=c):∀ v∈t,v.tag.time<=c:=λv hv=>by
 obtain ⟨i,hi⟩:=YX.1 hv;have hlt:=(DB hi).1;have hy:=CF (l:=s) (i:=i) (by omega);have:=hs _ (YJ (show i<s.length by omega));rcases h i v _ hi hy with rfl | g
 ·exact this
 ·rw[HU] at g;omega
theorem UJ (h:Ch l) {k:Nat} (hk:k<l.length) (h2:1<l.length) (hh:Es l c=true):Es (BY l k) c=true:=by
 have hlen:=HX hk h2;have h0:l[0]?=some (l[0]'(by omega)):=CF (by omega);have h1:l[1]?=some (l[1]'(by omega)):=CF (by omega);have hh0:=(D1 h0).1 hh;have hx:(BY l k)[0]?=some ((BY l k)[0]'(by omega)):=CF (by omega);rw[D1 hx];rw[Gn hk] at hx;split at hx
 ·rw[h0,ZN] at hx;injection hx with hx;rw[<- hx];exact hh0
 ·split at hx
  ·rw[h0] at hx;injection hx with hx;rw[<- hx];exact hh0
  ·rw[Zf,h1] at hx;injection hx with hx;rw[<- hx];exact U5 (h.up 1 0 _ _ h0 h1) (by rw[(h.store h0).2,(h.store h1).2];exact YH _) hh0
theorem Ws (h:Ch l) (hv:Ck v=true) (hh:Es l c=true) (hc:c<=t) (hvt:v.tag.time<=t):Es (FE l 0 v) t=true:=by
 have hp:=h.pos;have hz:l[0]?=some (l[0]'(by omega)):=CF (by omega);obtain ⟨u,hu⟩:=h.key hz hv;have hh0:=(D1 hz).1 hh;rw[GA hz hu];cases hl:AZ u v with
 | false=>rw[cond_false,D1 hz];exact λw hw=>by have:=hh0 w hw;omega
 | true =>
  rw[cond_true,D1 (YO (by omega))];intro w hw;rcases Y4 hw with hw | rfl
  ·have:=hh0 w hw;omega
  ·exact hvt
theorem Uj (h:Ch l) (hc:Cx l k=true) (hh:Es l c=true):Es (Fa l k.toNat) c=true:=by
 obtain ⟨f,x,y,v,r,rfl,hx,hy,hw,hr⟩:=GJ hc;have hlk:=h.link f x y hx hy;rw[hw] at hlk;obtain ⟨u,hu,hl,_⟩:=fitsL_cons.1 hlk;have hf:=(DB hx).1;have hy':(l.set f ⟨x.store,r⟩)[f+1]?=some y:=by rw[YG (by omega)];exact hy
 rw[BA,I1 hx hw,GA hy' hu,hl,cond_true];by_cases h0:f=0
 ·subst h0;rw[D1 (x:=⟨x.store,r⟩) (by rw[YG (by omega),YO hf])];exact (D1 hx).1 hh
 ·have hz:l[0]?=some (l[0]'(by omega)):=CF (by omega);rw[D1 (x:=l[0]'(by omega)) (by rw[YG (by omega),YG (by omega)];exact hz)];exact (D1 hz).1 hh
end
theorem Vs {p:Place} (h1:0<=p.me/\p.me<=2) (h2:0<=p.clock/\p.clock<=999) (h3:p.got.length=3) (h4:D7 p.chain=true) (h5:HC p.chain=true) (h6:Fi p.me p.log=true)
  (h7:∀ i (hi:i<p.got.length),Mn p.me i p.got[i]=true) (h8:Es p.chain p.clock=true):Ar p=true:=by
 unfold Ar;simp only[Cz,FB,decide_eq_true_eq,Af];exact ⟨⟨⟨⟨⟨⟨⟨h1,h2⟩,h3⟩,h4⟩,h5⟩,h6⟩,h7⟩,h8⟩
theorem XR {l:List Ver} (h1:l.length<=60) (h2:∀ i (hi:i<l.length),Ck l[i]=true/\l[i].tag.place=m/\Cr (l.take i) l[i].tag=false):Fi m l=true:=by unfold Fi;rw[Cz,FB,decide_eq_true_eq];refine ⟨λi hi=>?_,by omega⟩;obtain ⟨g1,g2,g3⟩:=h2 i hi;unfold VB;rw[g1,g2,g3];simp
theorem QW {l:List Ver}{v:Ver} (h:Fi m l=true) (hv:Ck v=true) (hp:v.tag.place=m) (ht:Cr l v.tag=false) (hl:l.length<60):Fi m (l ++ [v])=true:=by
 obtain ⟨h1,h2⟩:=EV h;refine XR (by simp;omega) λi hi=>?_;by_cases hil:i<l.length
 ·rw[List.getElem_append_left hil,List.take_append_of_le_length (by omega)];exact h2 i hil
 ·have e:i=l.length:=by simp at hi;omega
  subst e;rw[List.getElem_append_right (YH _),List.take_append_of_le_length (YH _),List.take_length];simp only[Nat.sub_self,List.getElem_cons_zero];exact ⟨hv,hp,ht⟩
theorem Of {m:Int}:∀ {vs l:List Ver},(∀ v∈vs,0<v.tag.time->Ck v=true)->Fi m l=true->l.length+vs.length<=60->Fi m (vs.foldl (noted m) l)=true
 | [],l,_,h,_=>h
 | v :: vs,l,hv,h,hl=>by
  rw[ZC] at hl;rw[Zy];have h3:=Uq (me:=m) (log:=l) (v:=v);refine Of (λw hw=>hv w (by simp[hw])) ?_ (by omega);unfold noted;cases hc:(decide (v.tag.time>0)&&(v.tag.place==m && !Cr l v.tag)) with
  | false=>exact h
  | true =>simp only[Cz,decide_eq_true_eq,beq_iff_eq,Zp] at hc;exact QW h (hv v (by simp) hc.1) hc.2.1 hc.2.2 (by omega)
theorem hasTag_mem {l:List Ver}{t:Tag}:Cr l t=true<->∃ v∈l,v.tag=t:=by
 unfold Cr;rw[List.any_eq_true];constructor
 ·rintro ⟨v,hv,g⟩
  rw[Cz,beq_iff_eq,beq_iff_eq] at g;exact ⟨v,hv,by cases hv:v.tag;cases t;simp_all⟩
 ·rintro ⟨v,hv,rfl⟩
  exact ⟨v,hv,by simp⟩
theorem JQ {m:Int}:∀ {vs l:List Ver},(∀ v∈vs,0<v.tag.time->v.tag.place=m->Cr (vs.foldl (noted m) l) v.tag=true)/\∃ r,vs.foldl (noted m) l=l++r
 | [],l=>⟨by simp,[],by simp⟩
 | v :: vs,l=>by
  obtain ⟨h1,r,h2⟩:=JQ (m:=m) (vs:=vs) (l:=noted m l v);rw[Zy];have hr:∃ r',noted m l v=l++r':=by
   unfold noted;cases decide (v.tag.time>0)&&(v.tag.place==m && !Cr l v.tag)
   ·exact ⟨[],by simp⟩
   ·exact ⟨[v],rfl⟩
  obtain ⟨r',hr'⟩:=hr;refine ⟨λw hw ht hp=>?_,r'++r,by rw[h2,hr',YV]⟩;rcases YW.1 hw with rfl | hw
  ·have hx:Cr (noted m l w) w.tag=true:=by
    unfold noted;rw[decide_eq_true ht,hp,Wp,YP,YP];cases hc:Cr l w.tag with
    | true=>exact hc
    | false=>exact hasTag_mem.2 ⟨w,by simp,rfl⟩
   obtain ⟨u,hu,e⟩:=hasTag_mem.1 hx;rw[h2];exact hasTag_mem.2 ⟨u,Y8 _ hu,e⟩
  ·exact h1 w hw ht hp
section
variable {p:Place}
theorem Gg (h:Ar p=true):Ch p.chain:=chain_iff.1 (AJ h).2.2.2.1
theorem VE (h:Ch p.chain):∀ v∈Dp p.chain,0<v.tag.time->Ck v=true:=λv hv ht=>by obtain ⟨z,hz,hi⟩:=h.tail;rw[EW hz hi] at hv;exact h.ver (.of hz (.inl hv)) ht
theorem Lo (h:Ar p=true) (hl:p.log.length<=56):Ar (CC p)=true:=by have hc:=Gg h;obtain ⟨h1,h2,h3,h4,h5,h6,h7,h8⟩:=AJ h;exact Vs (p:=CC p) h1 h2 h3 h4 h5 (Of (VE hc) h6 (by have:=hc.four.2;omega)) h7 h8
theorem I2 {l':List Node}{f:Bool} (h:Ar p=true) (hc:Ch l') (hv:∀ v,inCh l' v->0<v.tag.time->inCh p.chain v\/BT v.past (Bq p.chain)=true)
  (hs:BT (Bq p.chain) (Bq l')=true) (ht:0<=t/\t<=999) (hh:Es l' t=true):Ar ⟨p.me,t,l',p.log,p.got,f⟩=true:=by
 have hc0:=Gg h;obtain ⟨h1,h2,h3,h4,h5,h6,h7,h8⟩:=AJ h;refine Vs (p:=⟨p.me,t,l',p.log,p.got,f⟩) h1 ht h3 (chain_iff.2 hc) ((ML hc).2 λv hvc hvt=>?_) h6 h7 hh;have hpl:=Cp (BC (hc.ver hvc hvt)).2.2.2.1;refine Hi (by rw[hpl,hc0.four.1];exact YH _) ?_ hs;rcases hv v hvc hvt with g | g
 ·exact (ML hc0).1 h5 v g hvt
 ·exact g
theorem WM (h:Ar p=true):Ar (Jd p)=true:=by
 have hc:=Gg h;have hp:=hc.pos;unfold Jd HN;cases hj:D8 p.chain with
 | false=>rw[cond_false];exact h
 | true =>
  have hl:p.chain.length<4:=by unfold D8 at hj;have:=of_decide_eq_true hj;omega
  obtain ⟨_,e1,e2,e3⟩:=On hc;have h8:=(AJ h).2.2.2.2.2.2.2;rw[cond_true];refine I2 h (hc.join hl) (λv hv _ => .inl (Ot hp hv)) (by rw[e1];exact C7) (AJ h).2.1 ?_;unfold Es at h8 ⊢;rw[e3];exact h8
theorem Mw {l:List Node} (h:Gq l k=true):∃ f:Nat,k=(f:Int)/\f<l.length/\1<l.length:=by simp only[Gq,Af,Cz,decide_eq_true_eq] at h;exact ⟨k.toNat,by omega,by omega,h.2⟩
theorem WP (h:Ar p=true) (hl:p.log.length<=56):Ar (Dv p k)=true:=by
 have hc:=Gg h;unfold Dv;cases hf:C5 p k with
 | false=>exact h
 | true =>unfold C5 at hf;rw[Cz] at hf;obtain ⟨f,rfl,h1,h2⟩:=Mw hf.2;rw[cond_true,BA];refine Lo ?_ hl;exact I2 h (hc.fall h1 h2) (λv hv _ => .inl (Ou h1 hv)) (Ro hc h1 h2) (AJ h).2.1 (UJ hc h1 h2 (AJ h).2.2.2.2.2.2.2)
theorem WL (h:Ar p=true) (hl:p.log.length<=56):Ar (Du p k)=true:=by
 have hc:=Gg h;unfold Du;cases hf:Cx p.chain k with
 | false=>exact h
 | true =>rw[cond_true];refine Lo ?_ hl;exact I2 h (hc.pass hf) (λv hv _ => .inl (Or hf hv)) (QJ hc hf) (AJ h).2.1 (Uj hc hf (AJ h).2.2.2.2.2.2.2)
theorem Vt {v:Ver} (h:Ar p=true) (hv:Ck v=true) (hr:EH p.chain 0=true) (hu:BT v.past (Bq p.chain)=true) (h1:p.clock<=t) (h2:v.tag.time<=t) (h3:t<=999):Ar (FD p 0 t v)=true:=by have hc:=Gg h;have hcl:=(AJ h).2.1;exact I2 h (hc.add hv hr) (λw hw _=>(Jg hw).imp id λe=>by rw[e];exact hu) (S7 hc hv) ⟨by omega,h3⟩ (Ws hc hv (AJ h).2.2.2.2.2.2.2 h1 h2)
theorem Vw:t<=Ed t c/\c<=Ed t c/\(Ed t c=t\/Ed t c=c):=by unfold Ed;split<;>omega
theorem QY {f:Nat}{v:Ver} (h:Ar p=true) (hv:GS p f=some v):Ck v=true/\v.tag.place=(f:Int)/\(f:Int)≠p.me/\f<3:=by
 unfold GS at hv;have hm:=List.mem_of_find?_eq_some hv;unfold He at hm;have h3:=(AJ h).2.2.1;cases hg:p.got[f]? with
 | none=>rw[hg] at hm;simp at hm
 | some l =>rw[hg] at hm;simp only at hm;obtain ⟨hf,rfl⟩:=DB hg;have g:=(AJ h).2.2.2.2.2.2.1 f hf;unfold Mn at g;rw[Cz] at g;obtain ⟨i,hi,rfl⟩:=Zt.1 hm;obtain ⟨q1,q2,_⟩:=(EV g.1).2 i hi;refine ⟨q1,q2,λe=>?_,by omega⟩;have:=g.2;rw[e,Wp,Zk,Zj,decide_eq_true_eq] at this;omega
theorem WK (h:Ar p=true) (hl:p.log.length<=56):Ar (Dt p k)=true:=by
 unfold Dt;cases hk:C4 p k with
 | false=>exact h
 | true =>
  rw[cond_true];unfold C4 at hk;rw[Cz] at hk;have hk:=hk.2;unfold IP at hk;unfold IQ;cases hv:GS p k.toNat with
  | none=>exact h
  | some v =>rw[hv] at hk;simp only[Cz] at hk;obtain ⟨v1,v2,v3,v4⟩:=QY h hv;have:=It (BC v1).2.2.2.2.1;have hcl:=(AJ h).2.1;have hn:=Vw (t:=v.tag.time) (c:=p.clock);exact Lo (Vt h v1 hk.1 hk.2 hn.2.1 hn.1 (by omega)) hl
theorem Od {g:Bool}{l:List Tag} (h:Ar p=true) (hc:A4 p k s g l=true):Ck (Ek p k s g l)=true:=by
 rw[KO,Cz] at hc;have hm:=hc.2;obtain ⟨h1,h2,h3,h4,h5,h6,h7,h8⟩:=EZ (by rw[KO,hc.1,hc.2];rfl:A4 p k s g l=true);have ht:=IN h h4;have hme:=(AJ h).1;unfold Ck;rw[Cz,Cz];refine ⟨⟨hc.1,?_⟩,?_⟩
 ·show Bu (A2 p l) p.me=true;simp[Bu,Af];omega
 ·show decide (Df l<A2 p l)=true;exact decide_eq_true (by omega)
theorem Vr {g:Bool}{l:List Tag} (h:Ar p=true):Ar (wrote p k s g l).1=true:=by
 rw[LB h];cases hc:A4 p k s g l with
 | false=>exact h
 | true =>obtain ⟨h1,h2,h3,h4,h5,h6,h7,h8⟩:=EZ hc;have ht:=IN h h4;exact Lo (Vt h (Od h hc) h6 h5 (by omega) (Int.le_refl _) h7) (by show p.log.length<=56;omega)
theorem WO {f a:Int}{v:Ver} (h:Ar p=true):Ar (Ev p f a v)=true:=by
 unfold Ev;cases hc:EA p f a v with
 | false=>exact h
 | true =>
  simp only[EA,Gl,Af,Cz,decide_eq_true_eq,beq_iff_eq,Zp] at hc;obtain ⟨⟨h1,h2⟩,h3,h4,h5,h6,h7,h8⟩:=hc;obtain ⟨q1,q2,q3,q4,q5,q6,q7,q8⟩:=AJ h;have hf:f.toNat<p.got.length:=by omega
  have e:((f.toNat:Nat):Int)=f:=by omega
  rw[cond_true];refine Vs (p:=Hd p f.toNat v) q1 q2 (by simpa [Hd] using q3) q4 q5 q6 (λi hi=>?_) q8;have hi':i<p.got.length:=by simpa [Hd] using hi
  show Mn p.me i ((p.got.set f.toNat (He p f.toNat ++ [v]))[i]'(by simpa using hi'))=true;rw[List.getElem_set];split
  ·rename_i ei
   subst ei;rw[Gm hf] at h7 h8 ⊢;unfold Mn;rw[QW (Pn h hf) h3 (by omega) h8 (by omega),YP];rw[beq_eq_false_iff_ne] at h5;rw[beq_eq_false_iff_ne.2 h5];rfl
  ·exact q7 i hi'
end


structure Sess where
 place:Int
 past:List Tag
 wait:Tag
 key:Int
structure Done where
 sess:Int
 kind:Int
 key:Int
 tag:Tag
structure World where
 places:List Place
 sess:List Sess
 net:List Frame
 hist:List Done
abbrev V1 (ro:Bool):Nat:=bif ro then 0 else 100
abbrev Jq (ro:Bool):Nat:=bif ro then 0 else 103
abbrev V4 (ro:Bool):Nat:=bif ro then 0 else 107
abbrev XC (ro:Bool):Nat:=bif ro then 0 else 31
abbrev Sess.cs (s:Sess) (a:Pq) (c:Nq):List V := [Iv s.place,.sl 2 a s.past.length c,Iv s.wait.time,Iv s.wait.place,Iv s.key]
abbrev Done.cs (d:Done):List V := [Iv d.sess,Iv d.kind,Iv d.key,Iv d.tag.time,Iv d.tag.place]
abbrev World.cs (w:World) (a1:Pq) (c1:Nq) (a2:Pq) (c2:Nq) (a3:Pq) (c3:Nq) (a4:Pq) (c4:Nq):List V :=
 [.sl 6 a1 w.places.length c1,.sl 5 a2 w.sess.length c2,.sl 9 a3 w.net.length c3,.sl 5 a4 w.hist.length c4]
abbrev RPlaces (ro:Bool):Rel (List Place):=Sli ro 6 (V1 ro) (RPlace ro)
def RSess (ro:Bool):Rel Sess:=λh cs s F=>∃ v,cs = [Iv s.place,v,Iv s.wait.time,Iv s.wait.place,Iv s.key]/\RTags ro h [v] s.past F
abbrev RSesss (ro:Bool):Rel (List Sess):=Sli ro 5 (Jq ro) (RSess ro)
abbrev RFrames (ro:Bool):Rel (List Frame):=Sli ro 9 (V4 ro) (S9 ro)
abbrev RDones (ro:Bool):Rel (List Done):=Sli ro 5 (XC ro) (flat Done.cs)
def PT (ro:Bool):Rel World:=λh cs w F=>∃ s1 s2 s3 s4 F1 F2 F3 F4,cs = [s1,s2,s3,s4]/\F=F1++(F2++(F3++F4))/\RPlaces ro h [s1] w.places F1/\RSesss ro h [s2] w.sess F2/\RFrames ro h [s3] w.net F3/\RDones ro h [s4] w.hist F4
theorem rplaces_ok {ro:Bool}:(RPlaces ro).Ok:=Sli.ok rplace_ok
theorem Gd {ro:Bool}:(RSess ro).Ok :=
 ⟨λh h' cs x F ⟨s,h1,h2⟩ hb=>⟨s,h1,rtags_ok.fr _ _ _ _ _ h2 hb⟩,λh cs x F ⟨s,_,h2⟩=>rtags_ok.bd _ _ _ _ h2⟩
theorem rsesss_ok {ro:Bool}:(RSesss ro).Ok:=Sli.ok Gd
theorem rframes_ok {ro:Bool}:(RFrames ro).Ok:=Sli.ok rframe_ok
theorem rdones_ok {ro:Bool}:(RDones ro).Ok:=Sli.ok Cj
section
variable {ro:Bool}{h:Heap}{F:List Nat}{a:Pq}{c:Nq}{n k:Nat}
theorem RPlaces.get {l:List Place} (hs:RPlaces ro h [.sl 6 a n c] l F) (hk:k<l.length):∃ o s1 s2 s3 a1 c1 a2 c2 a3 c3 F1 F2 F3,a=some o /\
  ld h o.1 (o.2+k) 0 6=some [Iv l[k].me,Iv l[k].clock,s1,s2,s3,.bool l[k].fell]/\ld h o.1 (o.2+k) 0 1=some [Iv l[k].me]/\ld h o.1 (o.2+k) 2 1=some [s1]/\ld h o.1 (o.2+k) 3 1=some [s2]/\ld h o.1 (o.2+k) 4 1=some [s3] /\
  (∀ {R':Type} (K:Pq->Nat->Nq->Option R'),eS 2 s1 K=K a1 l[k].chain.length c1)/\(∀ {R':Type} (K:Pq->Nat->Nq->Option R'),eS 6 s2 K=K a2 l[k].log.length c2) /\
  (∀ {R':Type} (K:Pq->Nat->Nq->Option R'),eS 1 s3 K=K a3 l[k].got.length c3) /\
  RNodes ro h [.sl 2 a1 l[k].chain.length c1] l[k].chain F1/\RVers ro h [.sl 6 a2 l[k].log.length c2] l[k].log F2/\RVss ro h [.sl 1 a3 l[k].got.length c3] l[k].got F3/\(∀ b,b∈F1\/b∈F2\/b∈F3->b∈F):=by
 obtain ⟨o,row,G,h1,h2,hv,hG,_⟩:=hs.read hk;obtain ⟨s1,s2,s3,a1,c1,a2,c2,a3,c3,F1,F2,F3,rfl,rfl,e1,e2,e3,g1,g2,g3⟩:=hv.form;exact ⟨o,s1,s2,s3,a1,c1,a2,c2,a3,c3,F1,F2,F3,h1,by rw[h2];rfl,by rw[h2];rfl,by rw[h2];rfl,by rw[h2];rfl,by rw[h2];rfl,e1,e2,e3,g1,g2,g3,λb hb=>hG b (by simpa using hb)⟩
theorem RSess.form {row:List V}{s:Sess} (hv:RSess ro h row s F):∃ v a c,row = [Iv s.place,v,Iv s.wait.time,Iv s.wait.place,Iv s.key] /\
  (∀ {R':Type} (K:Pq->Nat->Nq->Option R'),eS 2 v K=K a s.past.length c)/\RTags ro h [.sl 2 a s.past.length c] s.past F:=by
 obtain ⟨v,rfl,hp⟩:=hv;obtain ⟨a,c,es,hp2⟩:=hp.form;exact ⟨v,a,c,rfl,es,hp2⟩
theorem RSesss.get {l:List Sess} (hs:RSesss ro h [.sl 5 a n c] l F) (hk:k<l.length):∃ o v a' c' G,a=some o/\ld h o.1 (o.2+k) 0 5=some [Iv l[k].place,v,Iv l[k].wait.time,Iv l[k].wait.place,Iv l[k].key] /\
  ld h o.1 (o.2+k) 0 1=some [Iv l[k].place]/\ld h o.1 (o.2+k) 1 1=some [v] /\
  (∀ {R':Type} (K:Pq->Nat->Nq->Option R'),eS 2 v K=K a' l[k].past.length c')/\RTags ro h [.sl 2 a' l[k].past.length c'] l[k].past G/\(∀ b∈G,b∈F):=by
 obtain ⟨o,row,G,h1,h2,hv,hG,_⟩:=hs.read hk;obtain ⟨v,a',c',rfl,es,hp⟩:=hv.form;exact ⟨o,v,a',c',G,h1,by rw[h2];rfl,by rw[h2];rfl,by rw[h2];rfl,es,hp,hG⟩
theorem RFrames.get {l:List Frame} (hs:RFrames ro h [.sl 9 a n c] l F) (hk:k<l.length):∃ o s a' c' G,a=some o /\
  ld h o.1 (o.2+k) 0 9=some [Iv l[k].fro,Iv l[k].to,Iv l[k].at',Iv l[k].ver.key,Iv l[k].ver.tag.time,Iv l[k].ver.tag.place,s,.str l[k].ver.text,.bool l[k].ver.gone] /\
  (∀ {R':Type} (K:Pq->Nat->Nq->Option R'),eS 2 s K=K a' l[k].ver.past.length c')/\RTags ro h [.sl 2 a' l[k].ver.past.length c'] l[k].ver.past G/\(∀ b∈G,b∈F):=by
 obtain ⟨o,row,G,h1,h2,⟨vs,rfl,hv⟩,hG,_⟩:=hs.read hk;obtain ⟨s,a',c',rfl,es,hp⟩:=hv.form;exact ⟨o,s,a',c',G,h1,by rw[h2];rfl,es,hp,hG⟩
theorem RDones.get {l:List Done} (hs:RDones ro h [.sl 5 a n c] l F) (hk:k<l.length):∃ o,a=some o/\ld h o.1 (o.2+k) 0 5=some l[k].cs:=by obtain ⟨o,row,G,h1,h2,⟨rfl,_⟩,_⟩:=hs.read hk;exact ⟨o,h1,by rw[h2];rfl⟩
end
def Td (w:World):Prop:=(w.places.length<=1048576/\∀ p∈w.places,GF p)/\(w.sess.length<=1048576/\∀ s∈w.sess,s.past.length<=1048576)/\(w.net.length<=1048576/\∀ f∈w.net,f.ver.past.length<=1048576/\f.ver.text.size<=1048576)/\w.hist.length<=1048576
section
variable {lo:Nat}{ro ro':Bool}{h:Heap}{F F':List Nat}{a a':Pq}{c c':Nq}{left:Int}
end


def U7 (p:Place) (to at':Int):Bool:=Ar p&&Af to 0 2 && !(p.me==to)&&Af at' 0 (p.log.length - 1)
def told (p:Place) (to at':Int):Frame:=bif U7 p to at' then ⟨p.me,to,at',(p.log[at'.toNat]?).getD Qa⟩ else ⟨0,0,0,Qa⟩
section
variable {lo:Nat}{h:Heap}{F F':List Nat}{a a':Pq}{c c':Nq}
end


variable {l:List Done}
def DR (s:Sess):Bool:=Af s.place 0 2&&BE s.past&&Bu s.wait.time s.wait.place&&Af s.key 0 3&&(decide (s.wait.time>0) || s.key==0)&&(s.wait.time==0 || s.wait.place==s.place)
def A0 (d:Done):Bool:=Af d.sess 0 3&&Af d.kind 1 3&&Af d.key 0 3&&Bu d.tag.time d.tag.place&&(d.kind==2 || decide (d.tag.time>0))
def ED (l:List Place) (k:Nat):List Ver:=match l[k]? with
 | some p=>p.log
 | none => []
theorem Og {l:List Place}{k:Nat} (hk:k<l.length):ED l k=l[k].log:=by unfold ED;rw[CF hk]
section
variable {lo:Nat}{ro ro':Bool}{h:Heap}{F F':List Nat}{a a':Pq}{c c':Nq}
theorem JF {g:Nat}{cl:List V}{p:Done->Bool} (hs:RDones ro h [.sl 5 a l.length c] l F) (hn:l.length<=1048576)
  (hp:∀ lo x,x∈l->Ae lo g (Ft [.agg (x.cs)] cl) h=some (.bool (p x),h)) :
  Ae lo 34 [.sl 5 a l.length c,.fn g cl] h=some (.bool (l.any p),h):=by
 have loop:∀ m k x,m+k=l.length->Av (List.length h) a l.length c g cl x (l.length:Nat) (k:Nat) h=some (Iv (CP p (l.drop k) k),h):=by
  intro m;induction m with
  | zero =>intro k x hk;rw[Av.e,Ak (by omega),show k=l.length by omega];simp[CP]
  | succ m ih =>
   intro k x hk;have hlt:k<l.length:=by omega
   obtain ⟨o,rfl,ho⟩:=hs.get hlt;rw[Av.e,Aj (by omega),Ad (by omega)];simp only[Ag,BA,ho,Ab,Aa,Ai];rw[hp (List.length h) l[k] (YJ hlt),Ac,AC,YN hlt];simp only[CP];cases p l[k]
   ·simp only[Au,cond_false];rw[As (by omega)];exact ih (k+1) _ (by omega)
   ·simp
 exact CW (h':=h) (by rw[Di (loop l.length 0 0 (by omega))];simp only[Ac,Aa,TP];rw[KJ];simp)
theorem Ua {d:Done}:Ae lo 39 [.agg d.cs] h=some (.bool (A0 d),h):=by refine Nw (h':=h) ?_;rw[A7,Ac,AC,A7,Ac,AC,A7,Ac,AC,O1,Ac,AC];unfold A0;cases Af d.sess 0 3<;>cases Af d.kind 1 3<;>cases Af d.key 0 3<;>cases Bu d.tag.time d.tag.place<;>cases (d.kind==2)<;>cases decide (d.tag.time>0)<;>rfl
theorem Xl {d:Done}:(Af d.sess 0 3&&(Af d.kind 1 3&&(Af d.key 0 3&&(Bu d.tag.time d.tag.place&&(bif ((d.tag.time==0)&&((d.tag.place==0)&&true)) then d.kind==2 else true)))))=A0 d:=by
 unfold A0;cases Af d.sess 0 3 with
 | false=>rfl
 | true =>
 cases Af d.kind 1 3 with
 | false=>rfl
 | true =>
 cases Af d.key 0 3 with
 | false=>rfl
 | true =>
 cases ht:Bu d.tag.time d.tag.place with
 | false=>rfl
 | true =>
  simp[Bu,Af] at ht;by_cases h0:d.tag.time=0
  ·have hp:d.tag.place=0:=by omega
   rw[ZJ];simp[h0,hp]
  ·have h1:0<d.tag.time:=by omega
   rw[ZJ];simp[h0,h1]
theorem FP (hs:RDones ro h [.sl 5 a l.length c] l F) (hn:l.length<=1048576):Ae lo 24 [.sl 5 a l.length c] h=some (.bool (decide (l.length<=80)&&l.all A0),h):=by
 refine NT (h':=h) ?_;by_cases h8:l.length<=80
 ·rw[Aj (by omega),decide_eq_true h8,JF hs hn (p:=λd => !A0 d) (λlo d _=>by
   rw[show ∀ x:List V,Ft x []=x from λx=>by simp[Ft]];refine Ld (h':=h) ?_;rw[EE,Ac,AC,EE,Ac,AC,Sz,Ac,AC,SA,Ac,AC,<- Xl];cases Af d.sess 0 3<;>cases Af d.kind 1 3<;>cases Af d.key 0 3<;>cases Bu d.tag.time d.tag.place<;>cases ((d.tag.time==0)&&((d.tag.place==0)&&true))<;>cases (d.kind==2)<;>rfl),Ac,AC]
  rw[List.any_eq_not_all_not];simp only[Bool.not_not,YP];cases l.all A0<;>rfl
 ·rw[Ak (by omega),decide_eq_false h8];rfl
end


abbrev Yh (n:Int):List V := [Iv n]
abbrev RInts:Rel (List Int):=Sli false 1 3 (flat Yh)
section
variable {lo:Nat}{h:Heap}{F F' F1:List Nat}{a a' a1 a2 a3 a4:Pq}{c c' c1 c2 c3 c4:Nq}{k:Int}
theorem RInts.get {l:List Int}{n i:Nat} (hs:RInts h [.sl 1 a n c] l F) (hi:i<l.length):∃ o,a=some o/\ld h o.1 (o.2+i) 0 1=some [Iv l[i]]:=by obtain ⟨o,row,G,h1,h2,⟨rfl,_⟩,_⟩:=hs.read hi;exact ⟨o,h1,by rw[h2];rfl⟩
end


def Db (l:List Node) (k:Nat):Nat:=if k=0/\1<l.length then 1 else k
def Ho (l:List Node) (k key:Nat):Option Ver:=(DP l (Db l k))[key]?
section
variable {lo:Nat}{ro:Bool}{h:Heap}{F F' F1:List Nat}{a a' a1 a2 a3 a4:Pq}{c c' c1 c2 c3 c4:Nq}
theorem Il {l:List Node}{k key:Nat} (hs:RNodes false h [.sl 2 a l.length c] l F) (hk:k<l.length) (hst:∀ x∈l,BF x.store=true) (hkey:key<4) (hl:lo<=h.length) (hn1:l.length<=1048576) :
  ∃ v a' c' h' G,Ae lo 100 [.agg [.sl 2 a l.length c],Iv (k:Nat),Iv (key:Nat)] h=some (.agg (Ver.cs v a' c'),h')/\Ho l k key=some v/\RTags false h' [.sl 2 a' v.past.length c'] v.past G/\Mv h [] h' G:=by
 suffices hq:∃ v a' c' h' G,_=some (V.agg (Ver.cs v a' c'),h')/\Ho l k key=some v/\RTags false h' [.sl 2 a' v.past.length c'] v.past G/\Mv h [] h' G from by obtain ⟨v,a',c',h',G,e,hr⟩:=hq;exact ⟨v,a',c',h',G,MT e,hr⟩
 have hql:Db l k<l.length:=by unfold Db;split<;>omega
 obtain ⟨o,s1,s2,b1,d1,b2,d2,H1,H2,ha,_,ho1,_,q1,_,p1,_⟩:=hs.get hql;have hs4:=hst _ (YJ hql);have hkl:key<l[Db l k].store.length:=by rw[Cl hs4];exact hkey
 obtain ⟨o2,t,b3,d3,G,ha2,ho2,es2,pv,_⟩:=p1.get hkl;obtain ⟨a5,c5,h5,F5,e5,r5,m5⟩:=BW (lo:=lo) (v:=l[Db l k].store[key]) pv hl ((RS hs4).2 _ (YJ hkl)).1;have hsh:Ho l k key=some l[Db l k].store[key]:=by unfold Ho;rw[Dj hql,CF hkl]
 generalize l[Db l k].store[key]=v at ho2 es2 pv e5 r5 hsh;generalize l[Db l k].store.length=n1 at q1 hkl ha2;refine ⟨v,a5,c5,h5,F5,?_,hsh,r5,m5⟩;simp only[Ver.cs] at e5;by_cases hk0:k=0
 ·rw[show (((k:Nat):Int)==0)=true by rw[beq_iff_eq];omega,Ao];by_cases h1:1<l.length
  ·have hsa:Db l k=1:=by unfold Db;rw[if_pos ⟨hk0,h1⟩]
   rw[hsa] at ho1;rw[Aj (by omega),DZ ⟨by omega,by omega⟩,ha,Ag,ho1,Ag,Ab,Ai,q1,Ad hkl,ha2,Ag,BA,ho2,Ag,Ab,Aa,Ab,Aa,Ab,Aa,Ab,es2,Ab,Dg,Ab,Bk,Ai,e5,Ac,A3,Ab,Aa,Ab,Aa,Ab,Aa,Ab,Ah,Ab,Dg,Ab,Bk,Ai]
  ·have hsa:Db l k=k:=by unfold Db;rw[if_neg (by omega)]
   rw[hsa] at ho1;rw[Ak (by omega),Ad hk,ha,Ag,BA,ho1,Ag,Ab,Ai,q1,Ad hkl,ha2,Ag,BA,ho2,Ag,Ab,Aa,Ab,Aa,Ab,Aa,Ab,es2,Ab,Dg,Ab,Bk,Ai,e5,Ac,A3,Ab,Aa,Ab,Aa,Ab,Aa,Ab,Ah,Ab,Dg,Ab,Bk,Ai]
 ·have hsa:Db l k=k:=by unfold Db;rw[if_neg (by omega)]
  rw[hsa] at ho1;rw[show (((k:Nat):Int)==0)=false by rw[beq_eq_false_iff_ne];omega,Au,Ad hk,ha,Ag,BA,ho1,Ag,Ab,Ai,q1,Ad hkl,ha2,Ag,BA,ho2,Ag,Ab,Aa,Ab,Aa,Ab,Aa,Ab,es2,Ab,Dg,Ab,Bk,Ai,e5,Ac,A3,Ab,Aa,Ab,Aa,Ab,Aa,Ab,Ah,Ab,Dg,Ab,Bk,Ai]
end


variable {k:Int}
structure Roomy (p:Place):Prop where
 seen:∃ U:List Tag,U.length<=54/\(∀ v∈p.log,v.tag∈U)/\∀ v,inCh p.chain v->0<v.tag.time->v.tag.place=p.me->v.tag∈U
 told:∀ v∈Dp p.chain,0<v.tag.time->v.tag.place=p.me->Cr p.log v.tag=true
theorem Ob {α:Type} [DecidableEq α]:∀ {a U:List α},a.Nodup->(∀ x∈a,x∈U)->a.length<=U.length
 | [],U,_,_=>Y3 _
 | x :: a,U,hn,hs=>by
  rw[Y2] at hn;have h1:=hs x (by simp);have h2:=Ob (a:=a) (U:=U.erase x) hn.2 λy hy=>(List.mem_erase_of_ne (λe=>hn.1 (by rw[<- e];exact hy))).2 (hs y (by simp[hy]))
  rw[List.length_erase_of_mem h1] at h2;have:=List.length_pos_of_mem h1;simp only[ZC];omega
section
variable {p:Place}
theorem Uu {m:Int}{l:List Ver} (h:Fi m l=true):(l.map λv=>v.tag).Nodup:=by
 obtain ⟨_,h2⟩:=EV h;unfold List.Nodup;rw[List.pairwise_map,List.pairwise_iff_getElem];intro i j hi hj hij e;have h3:=(h2 j hj).2.2;have:Cr (l.take j) l[j].tag=true:=hasTag_mem.2 ⟨l[i],by
  rw[Zt];exact ⟨i,by simp;omega,by simp⟩,e⟩
 rw[h3] at this;cases this
theorem Roomy.len (h:Roomy p) (hp:Ar p=true):p.log.length<=54:=by
 obtain ⟨U,h1,h2,_⟩:=h.seen;have:=Ob (U:=U) (Uu (AJ hp).2.2.2.2.2.1) (λt ht=>by
  obtain ⟨v,hv,rfl⟩:=zaj.1 ht;exact h2 v hv)
 simp only[zaf] at this;omega
theorem QM {m:Int}:∀ {vs l:List Ver},∀ v∈vs.foldl (noted m) l,v∈l\/(v∈vs/\0<v.tag.time/\v.tag.place=m)
 | [],l,v,hv => .inl hv
 | x :: vs,l,v,hv=>by
  rw[Zy] at hv;rcases QM v hv with g | ⟨g1,g2⟩
  ·unfold noted at g;cases hc:(decide (x.tag.time>0)&&(x.tag.place==m && !Cr l x.tag)) with
   | false=>rw[hc] at g;exact .inl g
   | true =>
    rw[hc,cond_true] at g;simp only[Cz,decide_eq_true_eq,beq_iff_eq] at hc;rcases YF.1 g with g | g
    ·exact .inl g
    ·rw[YZ] at g;subst g;exact .inr ⟨by simp,hc.1,hc.2.1⟩
  ·exact .inr ⟨by simp[g1],g2⟩
theorem GH (h:Ch p.chain) (hs:∃ U:List Tag,U.length<=54/\(∀ v∈p.log,v.tag∈U)/\∀ v,inCh p.chain v->0<v.tag.time->v.tag.place=p.me->v.tag∈U):Roomy (CC p):=by
 obtain ⟨U,h1,h2,h3⟩:=hs;refine ⟨⟨U,h1,λv hv=>?_,h3⟩,λv hv ht hp=>?_⟩
 ·rcases QM v hv with g | ⟨g1,g2,g3⟩
  ·exact h2 v g
  ·obtain ⟨z,hz,hi⟩:=h.tail;rw[EW hz hi] at g1;exact h3 v (.of hz (.inl g1)) g2 g3
 ·exact (JQ (vs:=Dp p.chain) (l:=p.log)).1 v hv ht hp
theorem Sc (h:Roomy p) (hp:Ar p=true):Roomy (Jd p):=by
 have hc:=Gg hp;unfold Jd HN;cases D8 p.chain with
 | false=>exact h
 | true =>rw[cond_true];obtain ⟨U,h1,h2,h3⟩:=h.seen;exact ⟨⟨U,h1,h2,λv hv=>h3 v (Ot hc.pos hv)⟩,λv hv=>h.told v (by rw[<- (On hc).2.2.1];exact hv)⟩
theorem Se (h:Roomy p) (hp:Ar p=true):Roomy (Dv p k):=by
 have hc:=Gg hp;unfold Dv;cases hf:C5 p k with
 | false=>exact h
 | true =>unfold C5 at hf;rw[Cz] at hf;obtain ⟨f,rfl,g1,g2⟩:=Mw hf.2;obtain ⟨U,h1,h2,h3⟩:=h.seen;rw[cond_true,BA];exact GH (p:=OH p f) (hc.fall g1 g2) ⟨U,h1,h2,λv hv=>h3 v (Ou g1 hv)⟩
theorem Sb (h:Roomy p) (hp:Ar p=true):Roomy (Du p k):=by
 have hc:=Gg hp;unfold Du;cases hf:Cx p.chain k with
 | false=>exact h
 | true =>obtain ⟨U,h1,h2,h3⟩:=h.seen;rw[cond_true];exact GH (p:=KD p k.toNat) (hc.pass hf) ⟨U,h1,h2,λv hv=>h3 v (Or hf hv)⟩
theorem Sa (h:Roomy p) (hp:Ar p=true):Roomy (Dt p k):=by
 have hc:=Gg hp;unfold Dt;cases hk:C4 p k with
 | false=>exact h
 | true =>
  rw[cond_true];unfold C4 at hk;rw[Cz] at hk;have hk:=hk.2;unfold IP at hk;unfold IQ;cases hv:GS p k.toNat with
  | none=>exact h
  | some v =>
   rw[hv] at hk;simp only[Cz] at hk;obtain ⟨v1,v2,v3,v4⟩:=QY hp hv;obtain ⟨U,h1,h2,h3⟩:=h.seen;refine GH (p:=FD p 0 (Ed v.tag.time p.clock) v) (hc.add v1 hk.1) ⟨U,h1,h2,λw hw ht hm=>?_⟩;rcases Jg hw with g | rfl
   ·exact h3 w g ht hm
   ·exact absurd (v2.symm.trans hm) v3
theorem Sd {f a:Int}{v:Ver} (h:Roomy p):Roomy (Ev p f a v):=by
 unfold Ev;cases EA p f a v with
 | false=>exact h
 | true=>exact ⟨h.seen,h.told⟩
theorem IL {l:List Node}{v:Ver} (h:Ch l):∀ (d i:Nat) (x:Node),i+d+1=l.length->l[i]?=some x->v∈x.store->(∃ (j:Nat) (y:Node),l[j]?=some y/\j+1<l.length/\v∈y.wait)\/v∈Dp l
 | 0,i,x,hd,hx,hv=>by rw[EW hx (by omega)];exact .inr hv
 | d+1,i,x,hd,hx,hv=>by
  have hy:=CF (l:=l) (i:=i+1) (by omega);rcases OF (h.link i x _ hx hy) v hv with g | g
  ·exact .inl ⟨i,x,hx,by omega,g⟩
  ·exact IL h d (i+1) _ (by omega) hy g
theorem NX:∀ {l:List Node},(∀ x∈l,x.wait.length<=6)->(l.flatMap λx=>x.wait).length<=6*l.length
 | [],_=>by simp
 | x :: l,h=>by have h1:=h x (by simp);have h2:=NX (l:=l) λy hy=>h y (by simp[hy]);simp only[List.flatMap_cons,Y6,ZC];omega
theorem QC {s:ByteArray}{g:Bool}{l:List Tag} (h:Roomy p) (hp:Ar p=true):Roomy (wrote p k s g l).1:=by
 have hc:=Gg hp;rw[LB hp];cases hw:A4 p k s g l with
 | false=>exact h
 | true =>
  obtain ⟨h1,h2,h3,h4,h5,h6,h7,h8⟩:=EZ hw;have hv:=Od hp hw;refine GH (p:=FD p 0 (A2 p l) (Ek p k s g l)) (hc.add hv h6) ⟨(p.log++(p.chain.dropLast.flatMap λx=>x.wait)).map (λv=>v.tag) ++ [⟨A2 p l,p.me⟩],?_,λv hv=>?_,λv hv ht hm=>?_⟩
  ·have hd:∀ x∈p.chain.dropLast,x.wait.length<=6:=λx hx=>by obtain ⟨i,hi⟩:=YX.1 ((List.dropLast_sublist _).mem hx);exact (Bw (hc.node i x hi)).2.1
   have:=NX hd;have h4:=hc.le;simp only[Y6,zaf,List.length_dropLast,ZB] at this ⊢;omega
  ·refine Y8 _ (zaj.2 ⟨v,Y8 _ hv,rfl⟩)
  ·have old:inCh p.chain v->v.tag∈(p.log++(p.chain.dropLast.flatMap λx=>x.wait)).map (λv=>v.tag):=λhi=>by
    have fin:(∃ (j:Nat) (y:Node),p.chain[j]?=some y/\j+1<p.chain.length/\v∈y.wait)\/v∈Dp p.chain:=by
     obtain ⟨i,x,hx,q | q⟩:=hi.get
     ·have hlt:=(DB hx).1;exact IL hc (p.chain.length - 1 - i) i x (by omega) hx q
     ·have hlt:=(DB hx).1;by_cases he:i+1=p.chain.length
      ·rw[hc.last i x hx he] at q;simp at q
      ·exact .inl ⟨i,x,hx,by omega,q⟩
    rcases fin with ⟨j,y,hj,hjl,q⟩ | q
    ·refine zaj.2 ⟨v,ZX _ (List.mem_flatMap.2 ⟨y,?_,q⟩),rfl⟩;rw[YX];exact ⟨j,by rw[List.getElem?_dropLast,if_pos (by omega)];exact hj⟩
    ·obtain ⟨u,hu,e⟩:=hasTag_mem.1 (h.told v q ht hm);exact zaj.2 ⟨u,Y8 _ hu,e⟩
   rcases Jg hv with q | rfl
   ·exact Y8 _ (old q)
   ·exact ZX _ (by simp[Ek])
end
def Ia (l:List Place) (f:Frame):Prop:=(0<=f.fro/\f.fro<=2)/\(0<=f.to/\f.to<=2)/\f.fro≠f.to/\0<=f.at'/\(ED l f.fro.toNat)[f.at'.toNat]?=some f.ver
structure Wd (w:World):Prop where
 p3:w.places.length=3
 s4:w.sess.length<=4
 n12:w.net.length<=12
 h80:w.hist.length<=80
 place:∀ (i:Nat) (p:Place),w.places[i]?=some p->p.me=(i:Int)/\Ar p=true
 sess:∀ s∈w.sess,DR s=true
 net:∀ f∈w.net,Ia w.places f
 hist:∀ d∈w.hist,A0 d=true
 heard:∀ (i:Nat) (p:Place) (k:Nat) (g:List Ver),w.places[i]?=some p->p.got[k]?=some g->∃ r,ED w.places k=g++r
theorem To {l:List Place}{k:Nat}{p q:Place} (hp:l[k]?=some p) (hlog:∃ r,q.log=p.log++r) (j:Nat):∃ r,ED (l.set k q) j=ED l j++r:=by
 unfold ED;by_cases hj:k=j
 ·subst hj;rw[YO (DB hp).1,hp];exact hlog
 ·rw[YG hj];exact ⟨[],by simp⟩
section
variable {w:World}
theorem Wd.setP (h:Wd w) {k:Nat}{p q:Place} (hp:w.places[k]?=some p) (hq:Ar q=true) (hm:q.me=p.me) (hlog:∃ r,q.log=p.log++r)
  (hgot:∀ (i:Nat) (g:List Ver),q.got[i]?=some g->p.got[i]?=some g\/∃ r,ED w.places i=g++r):Wd ⟨w.places.set k q,w.sess,w.net,w.hist⟩:=by
 have hk:=(DB hp).1;refine ⟨by simpa using h.p3,h.s4,h.n12,h.h80,λi x hx=>?_,h.sess,λf hf=>?_,h.hist,λi x j g hx hg=>?_⟩
 ·by_cases hi:k=i
  ·subst hi;simp only[YO hk,Option.some.injEq] at hx;subst hx;exact ⟨hm.trans (h.place k p hp).1,hq⟩
  ·simp only[YG hi] at hx;exact h.place i x hx
 ·obtain ⟨h1,h2,h3,h4,h5⟩:=h.net f hf;obtain ⟨r,hr⟩:=To hp hlog f.fro.toNat;refine ⟨h1,h2,h3,h4,?_⟩;show (ED (w.places.set k q) f.fro.toNat)[f.at'.toNat]?=some f.ver;rw[hr,YI (DB h5).1];exact h5
 ·obtain ⟨r,hr⟩:=To hp hlog j;show ∃ r,ED (w.places.set k q) j=g++r;have old:(∃ r,ED w.places j=g++r)->∃ r,ED (w.places.set k q) j=g++r:=λ⟨r',hr'⟩=>⟨r'++r,by rw[hr,hr',YV]⟩
  by_cases hi:k=i
  ·subst hi;simp only[YO hk,Option.some.injEq] at hx;subst hx;rcases hgot j g hg with g1 | g1
   ·exact old (h.heard k p j g hp g1)
   ·exact old g1
  ·simp only[YG hi] at hx;exact old (h.heard i x j g hx hg)
theorem Wd.putS (h:Wd w) {i:Nat}{s:Sess} (hs:DR s=true):Wd ⟨w.places,w.sess.set i s,w.net,w.hist⟩ :=
 ⟨h.p3,by simpa using h.s4,h.n12,h.h80,h.place,λx hx=>(Y4 hx).elim (h.sess x) λe=>e ▸ hs,h.net,h.hist,h.heard⟩
theorem Wd.addH (h:Wd w) {ds:List Done} (hd:∀ d∈ds,A0 d=true) (hl:w.hist.length+ds.length<=80):Wd ⟨w.places,w.sess,w.net,w.hist++ds⟩ :=
 ⟨h.p3,h.s4,h.n12,by simpa using hl,h.place,h.sess,h.net,λx hx=>(YF.1 hx).elim (h.hist x) (hd x),h.heard⟩
theorem Wd.netN (h:Wd w) {l:List Frame} (hl:l.length<=12) (hf:∀ f∈l,Ia w.places f):Wd ⟨w.places,w.sess,l,w.hist⟩ :=
 ⟨h.p3,h.s4,hl,h.h80,h.place,h.sess,hf,h.hist,h.heard⟩
end


variable {p:Place}{k:Nat}{l:List Node}{v:Ver}{s:Sess}{i:Nat}
structure Event where
 kind:Int
 at':Int
 num:Int
 key:Int
 text:ByteArray
 gone:Bool
abbrev Event.cs (e:Event):List V := [Iv e.kind,Iv e.at',Iv e.num,Iv e.key,.str e.text,.bool e.gone]
def CG (a b:Tag):Bool:=Bx a.time a.place b.time b.place
def C1 (a b:Tag):Tag:=bif CG a b then b else a
def CI (p:List Tag) (k:Nat) (t:Tag):List Tag:=match p[k]? with
 | some x=>p.set k (C1 x t)
 | none=>p
def Bs (p q:List Tag):List Tag:=List.zipWith C1 p q
def setS (w:World) (i:Nat) (s:Sess) (ds:List Done):World:=⟨w.places,w.sess.set i s,w.net,w.hist++ds⟩
def setP (w:World) (k:Nat) (p:Place):World:=⟨w.places.set k p,w.sess,w.net,w.hist⟩
def setN (w:World) (l:List Frame):World:=⟨w.places,w.sess,l,w.hist⟩
def CR (w:World) (n:Int):Bool:=decide ((w.hist.length:Int)+n<=80)
def Eg (w:World) (i:Nat) (s:Sess) (e:Event):Option World:=match w.places[s.place.toNat]? with
 | some p=>bif !decide (s.wait.time>0)&&(A4 p e.key e.text e.gone s.past&&CR w 1) then
   some (setS (setP w s.place.toNat (wrote p e.key e.text e.gone s.past).1) i ⟨s.place,s.past,(wrote p e.key e.text e.gone s.past).2,e.key⟩ [⟨i,1,e.key,(wrote p e.key e.text e.gone s.past).2⟩]) else none
 | none=>none
def Kd (w:World) (i:Nat) (s:Sess):Option World:=match w.places[s.place.toNat]? with
 | some p=>match Ho p.chain 0 s.key.toNat,(D2 p.chain)[s.key.toNat]? with
  | some v,some u=>bif decide (s.wait.time>0) then
    (bif CG v.tag s.wait then (bif CG u.tag s.wait then some (setS w i ⟨s.place,s.past,⟨0,0⟩,0⟩ []) else none)
    else (bif CR w 1 then some (setS w i ⟨s.place,CI s.past s.key.toNat s.wait,⟨0,0⟩,0⟩ [⟨i,3,s.key,s.wait⟩]) else none)) else none
  | _,_=>none
 | none=>none
def QG (s:Sess) (v:Ver) (k:Nat):List Tag:=bif decide (v.tag.time>0) then CI (Bs s.past v.past) k v.tag else s.past
def Ge (w:World) (i:Nat) (s:Sess) (e:Event):Option World:=match w.places[s.place.toNat]? with
 | some p=>bif !decide (s.wait.time>0)&&(Af e.key 0 3&&(Af e.num 0 ((p.chain.length:Int) - 1)&&CR w 1)) then
   (match Ho p.chain e.num.toNat e.key.toNat,s.past[e.key.toNat]? with
   | some v,some t=>bif CG v.tag t then none else some (setS w i ⟨s.place,QG s v e.key.toNat,s.wait,s.key⟩ [⟨i,2,e.key,v.tag⟩])
   | _,_=>none) else none
 | none=>none
def Cw (i:Nat) (l:List Tag):List Done:=l.zipIdx.map λx=>⟨i,2,(x.2:Int),x.1⟩
def Jx (w:World) (i:Nat) (s:Sess):Option World:=match w.places[s.place.toNat]? with
 | some p=>bif !decide (s.wait.time>0)&&(BT s.past (Bq p.chain)&&CR w 4) then some (setS w i ⟨s.place,Bq p.chain,s.wait,s.key⟩ (Cw i (Bq p.chain))) else none
 | none=>none
def QQ (w:World) (i:Nat) (s:Sess) (e:Event):Option World:=bif !decide (s.wait.time>0)&&Af e.num 0 2 then some (setS w i ⟨e.num,s.past,s.wait,s.key⟩ []) else none
def D6 (w:World) (e:Event):Option World:=bif Af e.at' 0 ((w.sess.length:Int) - 1) then
 (match w.sess[e.at'.toNat]? with
 | some s=>bif e.kind==1 then Eg w e.at'.toNat s e else bif e.kind==2 then Kd w e.at'.toNat s else bif e.kind==3 then Ge w e.at'.toNat s e else bif e.kind==4 then Jx w e.at'.toNat s else QQ w e.at'.toNat s e
 | none=>none) else none
def C9 (p:Place) (e:Event):Option Place:=bif e.kind==6 then (bif Cx p.chain e.num then some (Du p e.num) else none) else
 bif e.kind==7 then (bif C5 p e.num then some (Dv p e.num) else none) else
 bif e.kind==8 then (bif D8 p.chain then some (Jd p) else none) else (bif C4 p e.num then some (Dt p e.num) else none)
def E9 (w:World) (e:Event):Option World:=bif Af e.at' 0 2 then
 (match w.places[e.at'.toNat]? with
 | some p=>(C9 p e).map (setP w e.at'.toNat)
 | none=>none) else none
def N5 (w:World) (e:Event):Option World:=bif Af e.at' 0 2&&(Af e.num 0 2&&(!(e.at'==e.num)&&(decide ((w.net.length:Int)<12)&&Af e.key 0 (((ED w.places e.at'.toNat).length:Int) - 1)))) then
 (match (ED w.places e.at'.toNat)[e.key.toNat]? with
 | some v=>some (setN w (w.net ++ [⟨e.at',e.num,e.key,v⟩]))
 | none=>none) else none
def Jj (w:World) (f:Frame):World:=match w.places[f.to.toNat]? with
 | some p=>setP w f.to.toNat (Ev p f.fro f.at' f.ver)
 | none=>w
def J0 (w:World) (e:Event):Option World:=bif Af e.at' 0 ((w.net.length:Int) - 1) then
 (match w.net[e.at'.toNat]? with
 | some f=>some (bif e.kind==12 then setN w (w.net.eraseIdx e.at'.toNat) else bif e.kind==13 then Jj w f else Jj (setN w (w.net.eraseIdx e.at'.toNat)) f)
 | none=>none) else none
def EB (w:World) (e:Event):Option World:=bif Af e.kind 1 5 then D6 w e else bif Af e.kind 6 9 then E9 w e else bif e.kind==10 then N5 w e else bif Af e.kind 11 13 then J0 w e else none
def ON (w:World) (e:Event):World:=(EB w e).getD w
structure Good (w:World):Prop where
 ok:Wd w
 room:∀ p∈w.places,Roomy p
theorem pastOk_iff {p:List Tag}:BE p=true<->p.length=4/\∀ t∈p,Bu t.time t.place=true:=by simp only[BE,Cz,decide_eq_true_eq,YR]
theorem Tl {a b:Tag} (ha:Bu a.time a.place=true) (hb:Bu b.time b.place=true):Bu (C1 a b).time (C1 a b).place=true:=by
 unfold C1;cases CG a b
 ·exact ha
 ·exact hb
theorem LC {p:List Tag}{t:Tag} (hp:BE p=true) (ht:Bu t.time t.place=true):BE (CI p k t)=true:=by
 rw[pastOk_iff] at hp;unfold CI;cases hx:p[k]? with
 | none=>exact pastOk_iff.2 hp
 | some x =>
  refine pastOk_iff.2 ⟨by simpa using hp.1,λy hy=>?_⟩;rcases Y4 hy with hy | rfl
  ·exact hp.2 y hy
  ·exact Tl (hp.2 x (YS hx)) ht
theorem Mg {p q:List Tag} (hp:BE p=true) (hq:BE q=true):BE (Bs p q)=true:=by rw[pastOk_iff] at hp hq;refine pastOk_iff.2 ⟨by unfold Bs;rw[zag];omega,λy hy=>?_⟩;unfold Bs at hy;obtain ⟨i,hi,rfl⟩:=Zt.1 hy;rw[List.getElem_zipWith];exact Tl (hp.2 _ (YJ _)) (hq.2 _ (YJ _))
theorem Qi (h:Ch l):BE (Bq l)=true:=by refine pastOk_iff.2 ⟨h.four.1,λt ht=>?_⟩;obtain ⟨z,hz,hi⟩:=h.tail;rw[Cn hz hi] at ht;unfold Bc at ht;obtain ⟨v,hv,rfl⟩:=zaj.1 ht;obtain ⟨i,hi⟩:=YX.1 hv;exact PS (Gb (h.store hz).1 hi)
theorem Vf {key:Nat} (h:Ch l) (hv:Ho l k key=some v):∃ (i:Nat) (x:Node),l[i]?=some x/\x.store[key]?=some v:=by
 unfold Ho DP at hv;cases hx:l[Db l k]? with
 | none=>rw[hx] at hv;simp at hv
 | some x=>rw[hx] at hv;exact ⟨_,x,hx,hv⟩
theorem Vg {key:Nat} (h:Ch l) (hv:Ho l k key=some v):Hh key v=true:=by obtain ⟨i,x,hx,hv⟩:=Vf h hv;exact Gb (h.store hx).1 hv
theorem B0 (h:DR s=true):(0<=s.place/\s.place<=2)/\BE s.past=true/\Bu s.wait.time s.wait.place=true/\(0<=s.key/\s.key<=3)/\(0<s.wait.time\/s.key=0)/\(s.wait.time=0\/s.wait.place=s.place):=by unfold DR at h;simp only[Cz,Ze,decide_eq_true_eq,beq_iff_eq,Af] at h;obtain ⟨⟨⟨⟨⟨h1,h2⟩,h3⟩,h4⟩,h5⟩,h6⟩:=h;exact ⟨h1,h2,h3,h4,h5,h6⟩
theorem HO (h1:0<=s.place/\s.place<=2) (h2:BE s.past=true) (h3:Bu s.wait.time s.wait.place=true) (h4:0<=s.key/\s.key<=3) (h5:0<s.wait.time\/s.key=0) (h6:s.wait.time=0\/s.wait.place=s.place):DR s=true:=by unfold DR;simp only[Cz,Ze,decide_eq_true_eq,beq_iff_eq,Af];exact ⟨⟨⟨⟨⟨h1,h2⟩,h3⟩,h4⟩,h5⟩,h6⟩
theorem Lw {d:Done} (h1:0<=d.sess/\d.sess<=3) (h2:1<=d.kind/\d.kind<=3) (h3:0<=d.key/\d.key<=3) (h4:Bu d.tag.time d.tag.place=true) (h5:d.kind=2\/0<d.tag.time):A0 d=true:=by unfold A0;simp only[Cz,Ze,decide_eq_true_eq,beq_iff_eq,Af];exact ⟨⟨⟨⟨h1,h2⟩,h3⟩,h4⟩,h5⟩
theorem I4:∃ r,(CC p).log=p.log++r:=(JQ (vs:=Dp p.chain) (l:=p.log)).2
section
variable {w w':World}
theorem Good.setP (h:Good w) {k:Nat}{p q:Place} (hp:w.places[k]?=some p) (hq:Ar q=true) (hr:Roomy q) (hm:q.me=p.me) (hlog:∃ r,q.log=p.log++r)
  (hgot:∀ (i:Nat) (g:List Ver),q.got[i]?=some g->p.got[i]?=some g\/∃ r,ED w.places i=g++r):Good (Go.Proofs.YtoocmbhkaghgnaaGreat.setP w k q) :=
 ⟨h.ok.setP hp hq hm hlog hgot,λx hx=>(Y4 hx).elim (h.room x) λe=>e ▸ hr⟩
theorem Good.setS (h:Good w) {i:Nat}{s:Sess}{ds:List Done} (hs:DR s=true) (hd:∀ d∈ds,A0 d=true) (hl:(w.hist.length:Int)+ds.length<=80):Good (Go.Proofs.YtoocmbhkaghgnaaGreat.setS w i s ds) :=
 ⟨(h.ok.putS (i:=i) hs).addH hd (by show w.hist.length+ds.length<=80;omega),h.room⟩
theorem Good.setN (h:Good w) {l:List Frame} (hl:l.length<=12) (hf:∀ f∈l,Ia w.places f):Good (Go.Proofs.YtoocmbhkaghgnaaGreat.setN w l):=⟨h.ok.netN hl hf,h.room⟩
theorem TY {k:Int}{s:ByteArray}{g:Bool}{l:List Tag} (hp:Ar p=true) (hc:A4 p k s g l=true):wrote p k s g l=(CC (FD p 0 (A2 p l) (Ek p k s g l)),⟨A2 p l,p.me⟩):=by rw[LB hp,hc,cond_true]
theorem SE (h:Good w) {e:Event} (hi:i<w.sess.length) (hs:DR s=true) (he:Eg w i s e=some w'):Good w':=by
 have h4:=h.ok.s4;unfold Eg at he;split at he
 ·rename_i p hp
  cases hc:(!decide (s.wait.time>0)&&(A4 p e.key e.text e.gone s.past&&CR w 1)) with
  | false=>rw[hc] at he;cases he
  | true =>
   rw[hc,cond_true] at he;injection he with he;simp only[Cz,CR,decide_eq_true_eq] at hc;obtain ⟨_,hc,hh⟩:=hc;obtain ⟨hme,hpo⟩:=h.ok.place _ p hp;have hr:=h.room p (YS hp);obtain ⟨s1,s2,s3,s4,s5,s6⟩:=B0 hs;obtain ⟨q1,q2,q3,q4,q5,q6,q7,q8⟩:=EZ hc;have ht:=IN hpo s2;have hw:=TY hpo hc;have g1:Good (Go.Proofs.YtoocmbhkaghgnaaGreat.setP w s.place.toNat (wrote p e.key e.text e.gone s.past).1):=h.setP hp (Vr hpo) (QC hr hpo) (by rw[hw];rfl) (by rw[hw];exact I4) (λj g hg=>by rw[hw] at hg;exact .inl hg);have ht1:Bu (A2 p s.past) p.me=true:=by simp[Bu,Af];omega
   rw[<- he];refine g1.setS ?_ ?_ (by simp only[ZB];exact hh)
   ·rw[hw];exact HO s1 s2 ht1 q1 (.inl (by show 0<A2 p s.past;omega)) (.inr (by show p.me=s.place;omega))
   ·intro d hd;rw[YZ] at hd;subst hd;rw[hw];exact Lw (by show (0:Int)<=(i:Int)/\(i:Int)<=3;omega) (by show (1:Int)<=1/\(1:Int)<=3;decide) q1 ht1 (.inr (by show 0<A2 p s.past;omega))
 ·cases he
theorem VP (h:Good w) (hi:i<w.sess.length) (hs:DR s=true) (he:Kd w i s=some w'):Good w':=by
 have h4:=h.ok.s4;have h8:=h.ok.h80;obtain ⟨s1,s2,s3,s4,s5,s6⟩:=B0 hs;unfold Kd at he;split at he
 ·rename_i p hp
  split at he
  ·rename_i v u hv hu
   cases hc:decide (s.wait.time>0) with
   | false=>rw[hc] at he;cases he
   | true =>
    rw[hc,cond_true] at he;cases hl:CG v.tag s.wait with
    | true =>
     rw[hl,cond_true] at he;cases hl2:CG u.tag s.wait with
     | false=>rw[hl2] at he;cases he
     | true =>rw[hl2,cond_true] at he;injection he with he;rw[<- he];exact h.setS (HO s1 s2 rfl (by show (0:Int)<=0/\(0:Int)<=3;decide) (.inr rfl) (.inl rfl)) (by simp) (by simp only[ZW];omega)
    | false =>
     rw[hl,cond_false] at he;cases hr:CR w 1 with
     | false=>rw[hr] at he;cases he
     | true =>rw[hr,cond_true] at he;injection he with he;rw[<- he];unfold CR at hr;refine h.setS (HO s1 (LC s2 s3) rfl (by show (0:Int)<=0/\(0:Int)<=3;decide) (.inr rfl) (.inl rfl)) (λd hd=>?_) (by simp only[ZB];exact of_decide_eq_true hr);rw[YZ] at hd;subst hd;exact Lw (by show (0:Int)<=(i:Int)/\(i:Int)<=3;omega) (by show (1:Int)<=3/\(3:Int)<=3;decide) s4 s3 (.inr (of_decide_eq_true hc))
  ·cases he
 ·cases he
theorem Vl (hs:BE s.past=true) (hv:Hh k v=true):BE (QG s v k)=true:=by
 unfold QG;cases ht:decide (v.tag.time>0) with
 | false=>exact hs
 | true =>
  have ht:=of_decide_eq_true ht;rcases Dy hv with g | g
  ·have:=(FY g).1;omega
  ·have hp:=BC g.1;exact LC (Mg hs hp.2.2.2.1) hp.2.2.2.2.1
theorem UG (h:Good w) {e:Event} (hi:i<w.sess.length) (hs:DR s=true) (he:Ge w i s e=some w'):Good w':=by
 have h4:=h.ok.s4;obtain ⟨s1,s2,s3,s4,s5,s6⟩:=B0 hs;unfold Ge at he;split at he
 ·rename_i p hp
  cases hc:(!decide (s.wait.time>0)&&(Af e.key 0 3&&(Af e.num 0 ((p.chain.length:Int) - 1)&&CR w 1))) with
  | false=>rw[hc] at he;cases he
  | true =>
   rw[hc,cond_true] at he;simp only[Cz,CR,Af,decide_eq_true_eq] at hc;obtain ⟨_,hk,_,hr⟩:=hc;split at he
   ·rename_i v t hv ht
    cases hl:CG v.tag t with
    | true=>rw[hl] at he;cases he
    | false =>rw[hl,cond_false] at he;injection he with he;rw[<- he];have hc:=Gg (h.ok.place _ p hp).2;have hva:=Vg hc hv;refine h.setS (HO s1 (Vl s2 hva) s3 s4 s5 s6) (λd hd=>?_) (by simp only[ZB];exact hr);rw[YZ] at hd;subst hd;exact Lw (by show (0:Int)<=(i:Int)/\(i:Int)<=3;omega) (by show (1:Int)<=2/\(2:Int)<=3;decide) hk (PS hva) (.inl rfl)
   ·cases he
 ·cases he
theorem VQ (h:Good w) (hi:i<w.sess.length) (hs:DR s=true) (he:Jx w i s=some w'):Good w':=by
 have h4:=h.ok.s4;obtain ⟨s1,s2,s3,s4,s5,s6⟩:=B0 hs;unfold Jx at he;split at he
 ·rename_i p hp
  cases hc:(!decide (s.wait.time>0)&&(BT s.past (Bq p.chain)&&CR w 4)) with
  | false=>rw[hc] at he;cases he
  | true =>rw[hc,cond_true] at he;injection he with he;rw[<- he];simp only[Cz,CR,decide_eq_true_eq] at hc;have hch:=Gg (h.ok.place _ p hp).2;have hst:=Qi hch;refine h.setS (HO s1 hst s3 s4 s5 s6) (λd hd=>?_) (by unfold Cw;rw[zaf,List.length_zipIdx,hch.four.1];exact hc.2.2);unfold Cw at hd;obtain ⟨⟨t,k⟩,hx,rfl⟩:=zaj.1 hd;rw[ZG] at hx;have hk:=(DB hx).1;rw[hch.four.1] at hk;simp only at hk;exact Lw (by show (0:Int)<=(i:Int)/\(i:Int)<=3;omega) (by show (1:Int)<=2/\(2:Int)<=3;decide) (by show (0:Int)<=(k:Int)/\(k:Int)<=3;omega) ((pastOk_iff.1 hst).2 t (YS hx)) (.inl rfl)
 ·cases he
theorem UH (h:Good w) {e:Event} (hs:DR s=true) (he:QQ w i s e=some w'):Good w':=by
 obtain ⟨s1,s2,s3,s4,s5,s6⟩:=B0 hs;unfold QQ at he;cases hc:(!decide (s.wait.time>0)&&Af e.num 0 2) with
 | false=>rw[hc] at he;cases he
 | true =>rw[hc,cond_true] at he;injection he with he;rw[<- he];simp only[Cz,Af,decide_eq_true_eq,Zp,decide_eq_false_iff_not] at hc;have:=It s3;exact h.setS (HO hc.2 s2 s3 s4 s5 (.inl (by show s.wait.time=0;omega))) (by simp) (by simp only[ZW];have:=h.ok.h80;omega)
theorem Rg (h:Good w) {e:Event} (he:D6 w e=some w'):Good w':=by
 unfold D6 at he;cases hc:Af e.at' 0 ((w.sess.length:Int) - 1) with
 | false=>rw[hc] at he;cases he
 | true =>
  rw[hc,cond_true] at he;split at he
  ·rename_i s hs
   have hi:=(DB hs).1;have hso:=h.ok.sess s (YS hs);cases h1:e.kind==1 with
   | true=>rw[h1,cond_true] at he;exact SE h hi hso he
   | false =>
    rw[h1,cond_false] at he;cases h2:e.kind==2 with
    | true=>rw[h2,cond_true] at he;exact VP h hi hso he
    | false =>
     rw[h2,cond_false] at he;cases h3:e.kind==3 with
     | true=>rw[h3,cond_true] at he;exact UG h hi hso he
     | false =>
      rw[h3,cond_false] at he;cases h4:e.kind==4 with
      | true=>rw[h4,cond_true] at he;exact VQ h hi hso he
      | false=>rw[h4,cond_false] at he;exact UH h hso he
  ·cases he
theorem Vc {q:Place}{e:Event} (h:C9 p e=some q):q.me=p.me/\q.got=p.got/\∃ r,q.log=p.log++r:=by
 unfold C9 at h;have nil:∃ r,p.log=p.log++r:=⟨[],by simp⟩;cases h1:e.kind==6 with
 | true =>
  rw[h1,cond_true] at h;cases hc:Cx p.chain e.num with
  | false=>rw[hc] at h;cases h
  | true =>rw[hc,cond_true] at h;injection h with h;rw[<- h];unfold Du;rw[hc,cond_true];exact ⟨rfl,rfl,I4⟩
 | false =>
  rw[h1,cond_false] at h;cases h2:e.kind==7 with
  | true =>
   rw[h2,cond_true] at h;cases hc:C5 p e.num with
   | false=>rw[hc] at h;cases h
   | true =>rw[hc,cond_true] at h;injection h with h;rw[<- h];unfold Dv;rw[hc,cond_true];exact ⟨rfl,rfl,I4⟩
  | false =>
   rw[h2,cond_false] at h;cases h3:e.kind==8 with
   | true =>
    rw[h3,cond_true] at h;cases hc:D8 p.chain with
    | false=>rw[hc] at h;cases h
    | true =>rw[hc,cond_true] at h;injection h with h;rw[<- h];exact ⟨rfl,rfl,nil⟩
   | false =>
    rw[h3,cond_false] at h;cases hc:C4 p e.num with
    | false=>rw[hc] at h;cases h
    | true =>
     rw[hc,cond_true] at h;injection h with h;rw[<- h];unfold Dt;rw[hc,cond_true];unfold IQ;split
     ·exact ⟨rfl,rfl,I4⟩
     ·exact ⟨rfl,rfl,nil⟩
theorem WA {q:Place}{e:Event} (hp:Ar p=true) (hl:p.log.length<=56) (h:C9 p e=some q):Ar q=true/\(Roomy p->Roomy q):=by
 unfold C9 at h;cases h1:e.kind==6 with
 | true =>
  rw[h1,cond_true] at h;cases hc:Cx p.chain e.num with
  | false=>rw[hc] at h;cases h
  | true =>rw[hc,cond_true] at h;injection h with h;rw[<- h];exact ⟨WL hp hl,λhr=>Sb hr hp⟩
 | false =>
  rw[h1,cond_false] at h;cases h2:e.kind==7 with
  | true =>
   rw[h2,cond_true] at h;cases hc:C5 p e.num with
   | false=>rw[hc] at h;cases h
   | true =>rw[hc,cond_true] at h;injection h with h;rw[<- h];exact ⟨WP hp hl,λhr=>Se hr hp⟩
  | false =>
   rw[h2,cond_false] at h;cases h3:e.kind==8 with
   | true =>
    rw[h3,cond_true] at h;cases hc:D8 p.chain with
    | false=>rw[hc] at h;cases h
    | true =>rw[hc,cond_true] at h;injection h with h;rw[<- h];exact ⟨WM hp,λhr=>Sc hr hp⟩
   | false =>
    rw[h3,cond_false] at h;cases hc:C4 p e.num with
    | false=>rw[hc] at h;cases h
    | true =>rw[hc,cond_true] at h;injection h with h;rw[<- h];exact ⟨WK hp hl,λhr=>Sa hr hp⟩
theorem SF (h:Good w) {e:Event} (he:E9 w e=some w'):Good w':=by
 unfold E9 at he;cases hc:Af e.at' 0 2 with
 | false=>rw[hc] at he;cases he
 | true =>
  rw[hc,cond_true] at he;split at he
  ·rename_i p hp
   rw[Zd] at he;obtain ⟨q,hq,rfl⟩:=he;have hpo:=(h.ok.place _ p hp).2;have hr:=h.room p (YS hp);have hl:=hr.len hpo;obtain ⟨g1,g2⟩:=WA hpo (by omega) hq;obtain ⟨g3,g4,g5⟩:=Vc hq;exact h.setP hp g1 (g2 hr) g3 g5 λi g hg=>by rw[g4] at hg;exact .inl hg
  ·cases he
theorem UF (h:Good w) {e:Event} (he:N5 w e=some w'):Good w':=by
 unfold N5 at he;cases hc:(Af e.at' 0 2&&(Af e.num 0 2&&(!(e.at'==e.num)&&(decide ((w.net.length:Int)<12)&&Af e.key 0 (((ED w.places e.at'.toNat).length:Int) - 1))))) with
 | false=>rw[hc] at he;cases he
 | true =>
  rw[hc,cond_true] at he;simp only[Cz,Af,decide_eq_true_eq,Zp,beq_eq_false_iff_ne] at hc;obtain ⟨h1,h2,h3,h4,h5⟩:=hc;split at he
  ·rename_i v hv
   injection he with he;rw[<- he];refine h.setN (by simp;omega) λf hf=>?_;rcases YF.1 hf with hf | hf
   ·exact h.ok.net f hf
   ·rw[YZ] at hf;subst hf;exact ⟨h1,h2,h3,h5.1,hv⟩
  ·cases he
theorem OB (h:Good w) {f:Frame} (hf:Ia w.places f):Good (Jj w f):=by
 unfold Jj;split
 ·rename_i p hp
  have hpo:=(h.ok.place _ p hp).2;have hr:=h.room p (YS hp);obtain ⟨h1,h2,h3,h4,h5⟩:=hf;refine h.setP hp (WO hpo) (Sd hr) ?_ ?_ ?_
  ·unfold Ev;cases EA p f.fro f.at' f.ver<;>rfl
  ·unfold Ev;cases EA p f.fro f.at' f.ver<;>exact ⟨[],by simp[Hd]⟩
  ·intro i g hg;unfold Ev at hg;cases hc:EA p f.fro f.at' f.ver with
   | false=>rw[hc] at hg;exact .inl hg
   | true =>
    rw[hc,cond_true] at hg;simp only[EA,Gl,Af,Cz,decide_eq_true_eq,beq_iff_eq,Zp] at hc;obtain ⟨⟨_,_⟩,_,_,_,q,_,_⟩:=hc;have hg:(p.got.set f.fro.toNat (He p f.fro.toNat ++ [f.ver]))[i]?=some g:=hg;by_cases hi:f.fro.toNat=i
    ·subst hi;have hlt:f.fro.toNat<p.got.length:=by have:=(DB hg).1;simpa using this
     rw[YO hlt] at hg;injection hg with hg;have hgo:p.got[f.fro.toNat]?=some (He p f.fro.toNat):=by rw[Gm hlt];exact CF hlt
     obtain ⟨r,hr⟩:=h.ok.heard _ p _ _ hp hgo;rw[hr,Y1 (by omega),show f.at'.toNat - (He p f.fro.toNat).length=0 by omega] at h5;cases r with
     | nil=>simp at h5
     | cons v r =>simp only[List.getElem?_cons_zero,Option.some.injEq] at h5;subst h5;exact .inr ⟨r,by rw[hr,<- hg];simp⟩
    ·rw[YG hi] at hg;exact .inl hg
 ·exact h
theorem SG (h:Good w) {e:Event} (he:J0 w e=some w'):Good w':=by
 unfold J0 at he;cases hc:Af e.at' 0 ((w.net.length:Int) - 1) with
 | false=>rw[hc] at he;cases he
 | true =>
  rw[hc,cond_true] at he;split at he
  ·rename_i f hf
   injection he with he;rw[<- he];have hfi:=h.ok.net f (YS hf);have hn:=h.ok.n12;have g1:Good (setN w (w.net.eraseIdx e.at'.toNat)):=h.setN (YD (Z8 _ _) hn) λx hx=>h.ok.net x (ZS hx);cases e.kind==12 with
   | true=>exact g1
   | false =>
    rw[cond_false];cases e.kind==13 with
    | true=>exact OB h hfi
    | false=>exact OB g1 hfi
  ·cases he
theorem UE (h:Good w) {e:Event} (he:EB w e=some w'):Good w':=by
 unfold EB at he;cases h1:Af e.kind 1 5 with
 | true=>rw[h1,cond_true] at he;exact Rg h he
 | false =>
  rw[h1,cond_false] at he;cases h2:Af e.kind 6 9 with
  | true=>rw[h2,cond_true] at he;exact SF h he
  | false =>
   rw[h2,cond_false] at he;cases h3:e.kind==10 with
   | true=>rw[h3,cond_true] at he;exact UF h he
   | false =>
    rw[h3,cond_false] at he;cases h4:Af e.kind 11 13 with
    | true=>rw[h4,cond_true] at he;exact SG h he
    | false=>rw[h4] at he;cases he
theorem Po (h:Good w) {e:Event}:Good (ON w e):=by
 unfold ON;cases he:EB w e with
 | none=>exact h
 | some w'=>exact UE h he
end


theorem Mv.mid {h h':Heap}{A B A' F F':List Nat} (m:Mv h A h' A') (hp:F.Perm (A++B)) (hn:F.Nodup) (hB:∀ y∈B,y<h.length) (hp':F'.Perm (A'++B)):Mv h F h' F':=by have m1:=m.aside (hp.nodup_iff.1 hn) hB;exact (m1.wide λb hb=>hp.mem_iff.2 hb).lean (hp'.nodup_iff.2 m1.nd) λb hb=>hp'.mem_iff.1 hb
theorem Oa {A B C:List Nat}:(A++(B++C)).Perm (B++(A++C)):=List.perm_append_comm_assoc A B C
theorem Th {A B C D:List Nat}:(A++(B++(C++D))).Perm (C++(A++(B++D))):=(List.Perm.append_left A Oa).trans Oa
theorem Vm {A B C:List Nat}:(A++(B++C)).Perm (C++(A++B)):=by rw[<- YV A B C];exact List.perm_append_comm
theorem QI {A B C D:List Nat}:(A++(B++(C++D))).Perm (D++(A++(B++C))):=by rw[<- YV B C D,<- YV A (B++C) D];exact List.perm_append_comm
structure WR (lo:Nat) (h:Heap) (w:World) (a1:Pq) (c1:Nq) (a2:Pq) (c2:Nq) (a3:Pq) (c3:Nq) (a4:Pq) (c4:Nq) (F1 F2 F3 F4:List Nat):Prop where
 r1:RPlaces false h [.sl 6 a1 w.places.length c1] w.places F1
 r2:RSesss false h [.sl 5 a2 w.sess.length c2] w.sess F2
 r3:RFrames false h [.sl 9 a3 w.net.length c3] w.net F3
 r4:RDones false h [.sl 5 a4 w.hist.length c4] w.hist F4
 nd:(F1++(F2++(F3++F4))).Nodup
 ge:∀ y∈F1++(F2++(F3++F4)),lo<=y
 hl:lo<=h.length
def KT (lo:Nat) (h:Heap) (cs:List V) (w:World) (F:List Nat):Prop:=∃ a1 c1 a2 c2 a3 c3 a4 c4 F1 F2 F3 F4,cs=w.cs a1 c1 a2 c2 a3 c3 a4 c4/\F=F1++(F2++(F3++F4))/\WR lo h w a1 c1 a2 c2 a3 c3 a4 c4 F1 F2 F3 F4
section
variable {lo:Nat}{h h':Heap}{w:World}{a1 a2 a3 a4 a:Pq}{c1 c2 c3 c4 c:Nq}{F1 F2 F3 F4:List Nat}
theorem WR.at (H:WR lo h w a1 c1 a2 c2 a3 c3 a4 c4 F1 F2 F3 F4):KT lo h (w.cs a1 c1 a2 c2 a3 c3 a4 c4) w (F1++(F2++(F3++F4))):=⟨a1,c1,a2,c2,a3,c3,a4,c4,F1,F2,F3,F4,rfl,rfl,H⟩
theorem WR.lt (H:WR lo h w a1 c1 a2 c2 a3 c3 a4 c4 F1 F2 F3 F4):(∀ y∈F1,y<h.length)/\(∀ y∈F2,y<h.length)/\(∀ y∈F3,y<h.length)/\∀ y∈F4,y<h.length :=
 ⟨rplaces_ok.bd _ _ _ _ H.r1,rsesss_ok.bd _ _ _ _ H.r2,rframes_ok.bd _ _ _ _ H.r3,rdones_ok.bd _ _ _ _ H.r4⟩
theorem WR.bd (H:WR lo h w a1 c1 a2 c2 a3 c3 a4 c4 F1 F2 F3 F4):∀ y∈F1++(F2++(F3++F4)),y<h.length:=λy hy=>by
 obtain ⟨g1,g2,g3,g4⟩:=H.lt;simp only[YF] at hy;rcases hy with hy | hy | hy | hy
 ·exact g1 y hy
 ·exact g2 y hy
 ·exact g3 y hy
 ·exact g4 y hy
theorem Oe (h:(F1++(F2++(F3++F4))).Nodup):(F1.Nodup/\F2.Nodup/\F3.Nodup/\F4.Nodup)/\(∀ y∈F1,y∉F2)/\(∀ y∈F1,y∉F3)/\(∀ y∈F1,y∉F4)/\(∀ y∈F2,y∉F3)/\(∀ y∈F2,y∉F4)/\∀ y∈F3,y∉F4:=by simp only[YK,YF] at h;obtain ⟨h1,⟨h2,⟨h3,h4,h5⟩,h6⟩,h7⟩:=h;exact ⟨⟨h1,h2,h3,h4⟩,λy hy hm=>h7 y hy y (.inl hm) rfl,λy hy hm=>h7 y hy y (.inr (.inl hm)) rfl,λy hy hm=>h7 y hy y (.inr (.inr hm)) rfl,λy hy hm=>h6 y hy y (.inl hm) rfl,λy hy hm=>h6 y hy y (.inr hm) rfl,λy hy hm=>h5 y hy y hm rfl⟩
theorem WR.up1 (H:WR lo h w a1 c1 a2 c2 a3 c3 a4 c4 F1 F2 F3 F4) {l:List Place}{G:List Nat} (m:Mv h F1 h' G) (r:RPlaces false h' [.sl 6 a l.length c] l G) :
  WR lo h' ⟨l,w.sess,w.net,w.hist⟩ a c a2 c2 a3 c3 a4 c4 G F2 F3 F4/\Mv h (F1++(F2++(F3++F4))) h' (G++(F2++(F3++F4))):=by
 obtain ⟨_,d12,d13,d14,d23,d24,d34⟩:=Oe H.nd;have m1:Mv h (F1++(F2++(F3++F4))) h' (G++(F2++(F3++F4))):=m.mid (.refl _) H.nd (λy hy=>H.bd y (by simp only[YF] at hy ⊢;grind)) (.refl _);exact ⟨⟨r,m.keep rsesss_ok H.r2 (λb hb hm=>d12 b hm hb),m.keep rframes_ok H.r3 (λb hb hm=>d13 b hm hb),m.keep rdones_ok H.r4 (λb hb hm=>d14 b hm hb),m1.nd,m1.ge H.hl H.ge,YD H.hl m.le⟩,m1⟩
theorem WR.up2 (H:WR lo h w a1 c1 a2 c2 a3 c3 a4 c4 F1 F2 F3 F4) {l:List Sess}{G:List Nat} (m:Mv h F2 h' G) (r:RSesss false h' [.sl 5 a l.length c] l G) :
  WR lo h' ⟨w.places,l,w.net,w.hist⟩ a1 c1 a c a3 c3 a4 c4 F1 G F3 F4/\Mv h (F1++(F2++(F3++F4))) h' (F1++(G++(F3++F4))):=by
 obtain ⟨_,d12,d13,d14,d23,d24,d34⟩:=Oe H.nd;have m1:Mv h (F1++(F2++(F3++F4))) h' (F1++(G++(F3++F4))):=m.mid Oa H.nd (λy hy=>H.bd y (by simp only[YF] at hy ⊢;grind)) Oa;exact ⟨⟨m.keep rplaces_ok H.r1 (λb hb hm=>d12 b hb hm),r,m.keep rframes_ok H.r3 (λb hb hm=>d23 b hm hb),m.keep rdones_ok H.r4 (λb hb hm=>d24 b hm hb),m1.nd,m1.ge H.hl H.ge,YD H.hl m.le⟩,m1⟩
theorem WR.up3 (H:WR lo h w a1 c1 a2 c2 a3 c3 a4 c4 F1 F2 F3 F4) {l:List Frame}{G:List Nat} (m:Mv h F3 h' G) (r:RFrames false h' [.sl 9 a l.length c] l G) :
  WR lo h' ⟨w.places,w.sess,l,w.hist⟩ a1 c1 a2 c2 a c a4 c4 F1 F2 G F4/\Mv h (F1++(F2++(F3++F4))) h' (F1++(F2++(G++F4))):=by
 obtain ⟨_,d12,d13,d14,d23,d24,d34⟩:=Oe H.nd;have m1:Mv h (F1++(F2++(F3++F4))) h' (F1++(F2++(G++F4))):=m.mid Th H.nd (λy hy=>H.bd y (by simp only[YF] at hy ⊢;grind)) Th;exact ⟨⟨m.keep rplaces_ok H.r1 (λb hb hm=>d13 b hb hm),m.keep rsesss_ok H.r2 (λb hb hm=>d23 b hb hm),r,m.keep rdones_ok H.r4 (λb hb hm=>d34 b hm hb),m1.nd,m1.ge H.hl H.ge,YD H.hl m.le⟩,m1⟩
theorem WR.up4 (H:WR lo h w a1 c1 a2 c2 a3 c3 a4 c4 F1 F2 F3 F4) {l:List Done}{G:List Nat} (m:Mv h F4 h' G) (r:RDones false h' [.sl 5 a l.length c] l G) :
  WR lo h' ⟨w.places,w.sess,w.net,l⟩ a1 c1 a2 c2 a3 c3 a c F1 F2 F3 G/\Mv h (F1++(F2++(F3++F4))) h' (F1++(F2++(F3++G))):=by
 obtain ⟨_,d12,d13,d14,d23,d24,d34⟩:=Oe H.nd;have m1:Mv h (F1++(F2++(F3++F4))) h' (F1++(F2++(F3++G))):=m.mid QI H.nd (λy hy=>H.bd y (by simp only[YF] at hy ⊢;grind)) QI;exact ⟨⟨m.keep rplaces_ok H.r1 (λb hb hm=>d14 b hb hm),m.keep rsesss_ok H.r2 (λb hb hm=>d24 b hb hm),m.keep rframes_ok H.r3 (λb hb hm=>d34 b hb hm),r,m1.nd,m1.ge H.hl H.ge,YD H.hl m.le⟩,m1⟩
theorem WR.up0 (H:WR lo h w a1 c1 a2 c2 a3 c3 a4 c4 F1 F2 F3 F4) (m:Mv h [] h' []):WR lo h' w a1 c1 a2 c2 a3 c3 a4 c4 F1 F2 F3 F4/\Mv h (F1++(F2++(F3++F4))) h' (F1++(F2++(F3++F4))) :=
 ⟨⟨m.keep0 rplaces_ok H.r1,m.keep0 rsesss_ok H.r2,m.keep0 rframes_ok H.r3,m.keep0 rdones_ok H.r4,H.nd,H.ge,YD H.hl m.le⟩,m.aside (by simpa using H.nd) H.bd⟩
theorem WR.place (H:WR lo h w a1 c1 a2 c2 a3 c3 a4 c4 F1 F2 F3 F4) {k:Nat} (hk:k<w.places.length):∃ b i s1 s2 s3 b1 d1 b2 d2 b3 d3 G1 G2 G3,a1=some (b,i) /\
  ld h b (i+k) 0 6=some [Iv w.places[k].me,Iv w.places[k].clock,s1,s2,s3,.bool w.places[k].fell]/\ld h b (i+k) 2 1=some [s1]/\ld h b (i+k) 3 1=some [s2] /\
  (∀ {R':Type} (K:Pq->Nat->Nq->Option R'),eS 2 s1 K=K b1 w.places[k].chain.length d1)/\(∀ {R':Type} (K:Pq->Nat->Nq->Option R'),eS 6 s2 K=K b2 w.places[k].log.length d2) /\
  (∀ {R':Type} (K:Pq->Nat->Nq->Option R'),eS 1 s3 K=K b3 w.places[k].got.length d3) /\
  RNodes false h [.sl 2 b1 w.places[k].chain.length d1] w.places[k].chain G1/\RVers false h [.sl 6 b2 w.places[k].log.length d2] w.places[k].log G2/\RVss false h [.sl 1 b3 w.places[k].got.length d3] w.places[k].got G3 /\
  (G1++(G2++G3)).Nodup/\(∀ y∈G1++(G2++G3),lo<=y/\y<h.length/\y∈F1) /\
  ∀ h1 G p' cs',Mv h (G1++(G2++G3)) h1 G->RPlace false h1 cs' p' G->cs'.length=6 ->
   ∃ h2 F1',st lo h1 b (i+k) 0 cs'=some h2/\WR lo h2 (setP w k p') a1 c1 a2 c2 a3 c3 a4 c4 F1' F2 F3 F4/\Mv h (F1++(F2++(F3++F4))) h2 (F1'++(F2++(F3++F4))):=by
 obtain ⟨⟨n1,_⟩,_⟩:=Oe H.nd;obtain ⟨b,i,rs,row,G,ha,hbF,hbG,hb,hrow,hel,hGF,hGn,_,put⟩:=Sli.at (lo:=lo) rplace_ok H.r1 hk n1 (λy hy=>H.ge y (by simp[hy]));obtain ⟨s1,s2,s3,b1,d1,b2,d2,b3,d3,G1,G2,G3,rfl,rfl,e1,e2,e3,g1,g2,g3⟩:=hel.form;refine ⟨b,i,s1,s2,s3,b1,d1,b2,d2,b3,d3,G1,G2,G3,ha,by rw[C2 hb hrow];exact Ju rfl,by rw[C2 hb hrow];rfl,by rw[C2 hb hrow];rfl,e1,e2,e3,g1,g2,g3,hGn,λy hy=>⟨H.ge y (by simp[hGF y hy]),H.lt.1 y (hGF y hy),hGF y hy⟩,λh1 G p' cs' m hx hc=>?_⟩;obtain ⟨h2,F',e,r,m2,_⟩:=put h1 G 0 cs' cs' p' m (HS (by rw[hc];rfl)) hx;have hlen:(w.places.set k p').length=w.places.length:=by simp
 rw[<- hlen] at r;obtain ⟨q1,q2⟩:=H.up1 m2 r;exact ⟨h2,F',e,q1,q2⟩
end
section
variable {lo:Nat}{h:Heap}{p:Place}{b1 b2 b3:Pq}{d1 d2 d3:Nq}{G1 G2 G3:List Nat}
theorem Vn {f:Nat} (g1:RNodes false h [.sl 2 b1 p.chain.length d1] p.chain G1) (g2:RVers false h [.sl 6 b2 p.log.length d2] p.log G2) (g3:RVss false h [.sl 1 b3 p.got.length d3] p.got G3) (hpo:Ar p=true) (hc:Cx p.chain (f:Int)=true)
  (nd:(G1++(G2++G3)).Nodup) (hlo:∀ y∈G1++(G2++G3),lo<=y) (hl:lo<=h.length) :
  ∃ a6 c6 h5 h6 G,Ae lo 86 [.agg [.sl 2 b1 p.chain.length d1],Iv (f:Nat)] h=some (.agg [.sl 2 b1 p.chain.length d1],h5) /\
   Ae lo 87 [.agg [Iv p.me,Iv p.clock,.sl 2 b1 p.chain.length d1,.sl 6 b2 p.log.length d2,.sl 1 b3 p.got.length d3,.bool p.fell]] h5=some (.agg ((Du p f).cs b1 d1 a6 c6 b3 d3),h6) /\
   RPlace false h6 ((Du p f).cs b1 d1 a6 c6 b3 d3) (Du p f) G/\Mv h (G1++(G2++G3)) h6 G:=by
 have hn:=(Ew (CB hpo) (by decide) (by decide) (by decide)).1;have hb:∀ y∈G1++(G2++G3),y<h.length:=λy hy=>by
  simp only[YF] at hy;rcases hy with hy | hy | hy
  ·exact rnodes_ok.bd _ _ _ _ g1 y hy
  ·exact rvers_ok.bd _ _ _ _ g2 y hy
  ·exact rvss_ok.bd _ _ _ _ g3 y hy
 have hc':=hc;unfold Cx at hc';rw[Cz] at hc';obtain ⟨hw,hps⟩:=hc';simp only[Af,Cz,decide_eq_true_eq] at hw;rw[BA] at hps;have hk':f<p.chain.length:=by omega
 rw[Iw hk',Cz,decide_eq_true_eq] at hps;have nd':=nd;rw[YK,YK] at nd';obtain ⟨nd1,⟨nd2,nd3,Oe⟩,nd5⟩:=nd';obtain ⟨h5,F5,e5,r5,m5⟩:=Qp (lo:=lo) g1 (by omega) hps.1 nd1 (λy hy=>hlo y (by simp[hy])) hl hn.1 (Ti hpo);have g25:=m5.keep rvers_ok g2 λy hy hm=>nd5 y hm y (by simp[hy]) rfl;have ht:=Tb (T3 (k:=f) (CB hpo)) (by decide) (by decide) (by decide);rw[<- JP (k:=f)] at r5;have d1':=(LE m5 (Mv.refl nd2) nd hb).2.1;obtain ⟨a6,c6,h6,F6,e6,r6,m6⟩:=LJ (lo:=lo) (p:=KD p f) (a3:=b3) (c3:=d3) r5 g25 (by show 0<(Fa _ _).length;rw[JP];omega) ht d1' nd2 (λy hy=>hlo y (by simp[hy])) (YD hl m5.le);have hcs:(KD p f).cs b1 d1 b2 d2 b3 d3 = [Iv p.me,Iv p.clock,.sl 2 b1 p.chain.length d1,.sl 6 b2 p.log.length d2,.sl 1 b3 p.got.length d3,.bool p.fell]:=by simp only[Place.cs,KD,JP]
 rw[hcs] at e6;obtain ⟨m7,x1,x2,x3⟩:=LE m5 m6 nd hb;have hx:Du p (f:Int)=CC (KD p f):=by unfold Du;rw[hc,cond_true,BA]
 rw[hx];exact ⟨a6,c6,h5,h6,F5++(F6++G3),e5,e6,⟨_,_,_,F5,F6,G3,rfl,rfl,m6.keep rnodes_ok r5 x1,r6,m6.keep rvss_ok (m5.keep rvss_ok g3 x2) x3⟩,m7⟩
theorem VV {f:Nat} (g1:RNodes false h [.sl 2 b1 p.chain.length d1] p.chain G1) (g2:RVers false h [.sl 6 b2 p.log.length d2] p.log G2) (g3:RVss false h [.sl 1 b3 p.got.length d3] p.got G3) (hpo:Ar p=true) (hc:C5 p (f:Int)=true)
  (nd:(G1++(G2++G3)).Nodup) (hlo:∀ y∈G1++(G2++G3),lo<=y) (hl:lo<=h.length) :
  ∃ a5 c5 a6 c6 h5 h6 G,Ae lo 89 [.agg [.sl 2 b1 p.chain.length d1],Iv (f:Nat)] h=some (.agg [.sl 2 a5 (BY p.chain f).length c5],h5) /\
   Ae lo 87 [.agg [Iv p.me,Iv p.clock,.sl 2 a5 (BY p.chain f).length c5,.sl 6 b2 p.log.length d2,.sl 1 b3 p.got.length d3,.bool true]] h5=some (.agg ((Dv p f).cs a5 c5 a6 c6 b3 d3),h6) /\
   RPlace false h6 ((Dv p f).cs a5 c5 a6 c6 b3 d3) (Dv p f) G/\Mv h (G1++(G2++G3)) h6 G:=by
 have hn:=(Ew (CB hpo) (by decide) (by decide) (by decide)).1;have hb:∀ y∈G1++(G2++G3),y<h.length:=λy hy=>by
  simp only[YF] at hy;rcases hy with hy | hy | hy
  ·exact rnodes_ok.bd _ _ _ _ g1 y hy
  ·exact rvers_ok.bd _ _ _ _ g2 y hy
  ·exact rvss_ok.bd _ _ _ _ g3 y hy
 have hc':=hc;unfold C5 Gq at hc';simp only[Cz,Af,decide_eq_true_eq] at hc';obtain ⟨hfl,hw,hl1⟩:=hc';have hk':f<p.chain.length:=by omega
 have nd':=nd;rw[YK,YK] at nd';obtain ⟨nd1,⟨nd2,nd3,Oe⟩,nd5⟩:=nd';obtain ⟨a5,c5,h5,F5,e5,r5,m5⟩:=Qs (lo:=lo) g1 hk' hl1 (Uy (AJ hpo).2.2.2.1 (by omega)) nd1 (λy hy=>hlo y (by simp[hy])) hl hn.1.1 (λx hx=>(Ti hpo x hx).1);have g25:=m5.keep rvers_ok g2 λy hy hm=>nd5 y hm y (by simp[hy]) rfl;have ht:=Tb (T4 (k:=f) (CB hpo)) (by decide) (by decide) (by decide);have d1':=(LE m5 (Mv.refl nd2) nd hb).2.1;obtain ⟨a6,c6,h6,F6,e6,r6,m6⟩:=LJ (lo:=lo) (p:=OH p f) (a3:=b3) (c3:=d3) r5 g25 (by show 0<(BY _ _).length;rw[HX hk' hl1];omega) ht d1' nd2 (λy hy=>hlo y (by simp[hy])) (YD hl m5.le);have hcs:(OH p f).cs a5 c5 b2 d2 b3 d3 = [Iv p.me,Iv p.clock,.sl 2 a5 (BY p.chain f).length c5,.sl 6 b2 p.log.length d2,.sl 1 b3 p.got.length d3,.bool true]:=rfl;rw[hcs] at e6;obtain ⟨m7,x1,x2,x3⟩:=LE m5 m6 nd hb;have hx:Dv p (f:Int)=CC (OH p f):=by unfold Dv;rw[hc,cond_true,BA]
 rw[hx];exact ⟨a5,c5,a6,c6,h5,h6,F5++(F6++G3),e5,e6,⟨_,_,_,F5,F6,G3,rfl,rfl,m6.keep rnodes_ok r5 x1,r6,m6.keep rvss_ok (m5.keep rvss_ok g3 x2) x3⟩,m7⟩
theorem VJ (g1:RNodes false h [.sl 2 b1 p.chain.length d1] p.chain G1) (g2:RVers false h [.sl 6 b2 p.log.length d2] p.log G2) (g3:RVss false h [.sl 1 b3 p.got.length d3] p.got G3) (hpo:Ar p=true) (hc:D8 p.chain=true)
  (nd:(G1++(G2++G3)).Nodup) (hlo:∀ y∈G1++(G2++G3),lo<=y) (hl:lo<=h.length) :
  ∃ a5 c5 h5 G,Ae lo 90 [.agg [.sl 2 b1 p.chain.length d1]] h=some (.agg [.sl 2 a5 (HN p.chain).length c5],h5) /\
   RPlace false h5 ((Jd p).cs a5 c5 b2 d2 b3 d3) (Jd p) G/\Mv h (G1++(G2++G3)) h5 G:=by
 have hn:=(Ew (CB hpo) (by decide) (by decide) (by decide)).1;have hb:∀ y∈G1++(G2++G3),y<h.length:=λy hy=>by
  simp only[YF] at hy;rcases hy with hy | hy | hy
  ·exact rnodes_ok.bd _ _ _ _ g1 y hy
  ·exact rvers_ok.bd _ _ _ _ g2 y hy
  ·exact rvss_ok.bd _ _ _ _ g3 y hy
 have h0:=Et hpo;have nd':=nd;rw[YK,YK] at nd';obtain ⟨nd1,⟨nd2,nd3,Oe⟩,nd5⟩:=nd';obtain ⟨a5,c5,h5,F5,e5,r5,m5⟩:=Qr (lo:=lo) g1 h0 hn.1 nd1 (λy hy=>hlo y (by simp[hy])) hl;have hj:HN p.chain=FN p.chain:=by unfold HN;rw[hc];rfl
 have hjl:(FN p.chain).length=p.chain.length+1:=by rw[Eo h0];simp
 obtain ⟨m7,x1,x2,x3⟩:=LE m5 (Mv.refl nd2) nd hb;rw[<- hjl,<- hj] at e5 r5;refine ⟨a5,c5,h5,F5++(G2++G3),e5,⟨_,_,_,F5,G2,G3,rfl,rfl,r5,m5.keep rvers_ok g2 λy hy hm=>nd5 y hm y (by simp[hy]) rfl,m5.keep rvss_ok g3 x2⟩,m7⟩
end


variable {p:Place}
structure Fits (w:World):Prop where
 ok:Wd w
theorem Good.fits {w:World} (hg:Good w):Fits w:=⟨hg.ok⟩
section
variable {lo:Nat}{h h':Heap}{w:World}{a1 a2 a3 a4 a:Pq}{c1 c2 c3 c4 c:Nq}{F1 F2 F3 F4:List Nat}
theorem Te {k:Nat}:(setP w k p).cs a1 c1 a2 c2 a3 c3 a4 c4=w.cs a1 c1 a2 c2 a3 c3 a4 c4:=by simp only[World.cs,setP,Zq]
theorem Fits.at (hg:Fits w) {k:Nat} (hk:k<w.places.length):Ar w.places[k]=true/\w.places[k].me=(k:Int)/\True:=by have:=hg.ok.place k _ (CF hk);exact ⟨this.2,this.1,trivial⟩
theorem U8 {f:Nat}{b1 b2 b3:Pq}{d1 d2 d3:Nq}{G1 G2 G3:List Nat} (g1:RNodes false h [.sl 2 b1 p.chain.length d1] p.chain G1) (g2:RVers false h [.sl 6 b2 p.log.length d2] p.log G2) (g3:RVss false h [.sl 1 b3 p.got.length d3] p.got G3) (hpo:Ar p=true) (hc:C4 p (f:Int)=true)
  (nd:(G1++(G2++G3)).Nodup) (hlo:∀ y∈G1++(G2++G3),lo<=y) (hl:lo<=h.length) :
  ∃ a1' c1' a2' c2' a3' c3' h' G,Ae lo 92 [.agg (p.cs b1 d1 b2 d2 b3 d3),Iv (f:Nat)] h=some (.agg ((Dt p (f:Int)).cs a1' c1' a2' c2' a3' c3'),h')/\RPlace false h' ((Dt p (f:Int)).cs a1' c1' a2' c2' a3' c3') (Dt p (f:Int)) G/\Mv h (G1++(G2++G3)) h' G:=by
 have hn:=(Ew (CB hpo) (by decide) (by decide) (by decide)).1;have hx:Dt p (f:Int)=IQ p f:=by unfold Dt;rw[hc,cond_true,BA]
 unfold C4 at hc;rw[Cz,BA] at hc;obtain ⟨hw,ht⟩:=hc;simp only[Af,Cz,decide_eq_true_eq] at hw;have h3:=(AJ hpo).2.2.1;obtain ⟨a2',c2',h',F',e,⟨_,_,_,_,_,_,ecs,r⟩,m⟩:=Qn (lo:=lo) (f:=f) g1 g2 g3 hpo (by omega) hn ht nd hlo hl;rw[hx];exact ⟨_,_,_,_,_,_,h',F',e,r,m⟩
theorem OX {e:Event} (H:WR lo h w a1 c1 a2 c2 a3 c3 a4 c4 F1 F2 F3 F4) (hg:Fits w) :
  ∃ cs' h' F',Ae lo 73 [.agg (w.cs a1 c1 a2 c2 a3 c3 a4 c4),.agg e.cs] h=some (.tup [.agg cs',.bool (E9 w e).isSome],h')/\KT lo h' cs' ((E9 w e).getD w) F'/\Mv h (F1++(F2++(F3++F4))) h' F'/\((E9 w e)=none->cs'=w.cs a1 c1 a2 c2 a3 c3 a4 c4):=by
 obtain ⟨kind,at',num,key,text,gone⟩:=e;suffices hk:∃ cs' h' F',_=some (V.tup [.agg cs',.bool (E9 w ⟨kind,at',num,key,text,gone⟩).isSome],h')/\KT lo h' cs' ((E9 w ⟨kind,at',num,key,text,gone⟩).getD w) F'/\Mv h (F1++(F2++(F3++F4))) h' F'/\((E9 w ⟨kind,at',num,key,text,gone⟩)=none->cs'=w.cs a1 c1 a2 c2 a3 c3 a4 c4) from by obtain ⟨cs',h',F',e,hr⟩:=hk;exact ⟨cs',h',F',MQ e,hr⟩
 rw[A7,Ac,AC];unfold E9;cases hat:Af at' 0 2 with
 | false =>rw[Au];exact ⟨_,h,_,rfl,H.at,Mv.refl H.nd,λ_=>rfl⟩
 | true =>
 simp only[Af,Cz,decide_eq_true_eq] at hat;obtain ⟨k,rfl⟩:∃ k:Nat,at'=(k:Int):=⟨at'.toNat,by omega⟩;have hk:k<w.places.length:=by have:=hg.ok.p3;omega
 obtain ⟨hpo,hme,hro⟩:=hg.at hk;have hn:=(Ew (CB hpo) (by decide) (by decide) (by decide)).1;obtain ⟨b,i,s1,s2,s3,b1,d1,b2,d2,b3,d3,G1,G2,G3,rfl,hld,_,_,e1,e2,e3,g1,g2,g3,nd,hF,put⟩:=H.place hk;have hFlo:∀ y∈G1++(G2++G3),lo<=y:=λy hy=>(hF y hy).1
 rw[Ao,Ad hk,Ag,BA,hld,Ag,Ab,Aa,Ab,Aa,Ab,e1,Ab,e2,Ab,e3,Ab,Bk,Ai,cond_true,CF hk];simp only[];generalize hp:w.places[k]=p at hpo hme hro hn hld e1 e2 e3 g1 g2 g3 put;have done:∀ (h1:Heap) (G:List Nat) (p':Place) (cs':List V),Mv h (G1++(G2++G3)) h1 G->RPlace false h1 cs' p' G->cs'.length=6 ->
   ∃ h2 F',st lo h1 b (i+k) 0 cs'=some h2/\KT lo h2 (w.cs (some (b,i)) c1 a2 c2 a3 c3 a4 c4) (setP w k p') F'/\Mv h (F1++(F2++(F3++F4))) h2 F':=λh1 G p' cs' m r hc=>by
  obtain ⟨h2,F1',e,q,m2⟩:=put h1 G p' cs' m r hc;refine ⟨h2,_,e,?_,m2⟩;rw[<- Te (k:=k) (p:=p')];exact q.at
 have hsame:setP w k p=w:=by unfold setP;rw[<- hp,zab]
 obtain ⟨h9,F9,e9,W9,m9⟩:=done h _ p (p.cs b1 d1 b2 d2 b3 d3) (Mv.refl nd) ⟨_,_,_,G1,G2,G3,rfl,rfl,g1,g2,g3⟩ rfl;rw[hsame] at W9;simp only[Place.cs] at e9;cases h6:kind==6 with
 | true =>
  rw[Ao,RY g1 hn.1.1,Ac,AC];cases hc:Cx p.chain num with
  | false =>
   have hs:C9 p ⟨kind,(k:Nat),num,key,text,gone⟩=none:=by simp only[C9,h6,hc,cond_true,cond_false]
   rw[Au,Ad hk,Ag,e9,Ag,hs];exact ⟨_,h9,F9,rfl,W9,m9,λ_=>rfl⟩
  | true =>
   obtain ⟨f,rfl⟩:∃ f:Nat,num=(f:Int):=by unfold Cx at hc;simp only[Af,Cz,decide_eq_true_eq] at hc;exact ⟨num.toNat,by omega⟩
   have hs:C9 p ⟨kind,(k:Nat),(f:Nat),key,text,gone⟩=some (Du p f):=by simp only[C9,h6,hc,cond_true]
   obtain ⟨a6,c6,h5,h6',G,e5,e6,r6,m6⟩:=Vn (lo:=lo) g1 g2 g3 hpo hc nd hFlo H.hl;obtain ⟨h8,F8,e8,W8,m8⟩:=done h6' G _ _ m6 r6 rfl;simp only[Place.cs] at e6 e8;rw[Ao,e5,Ac,A3,Ab,Ah,Ai,e6,Ac,A3,Ab,Aa,Ab,Aa,Ab,Ah,Ab,Ah,Ab,Ah,Ab,Bk,Ai,Ad hk,Ag,e8,Ag,hs];exact ⟨_,h8,F8,rfl,W8,m8,λg=>by first | cases g | (simp at g)⟩
 | false =>
 rw[Au];cases h7:kind==7 with
 | true =>
  have ec:=LM (lo:=lo) (h:=h) (p:=p) (k:=num) (a1:=b1) (c1:=d1) (a2:=b2) (c2:=d2) (a3:=b3) (c3:=d3) hn.1.1;simp only[Place.cs] at ec;rw[Ao,ec,Ac,AC];cases hc:C5 p num with
  | false =>
   have hs:C9 p ⟨kind,(k:Nat),num,key,text,gone⟩=none:=by simp only[C9,h6,h7,hc,cond_true,cond_false]
   rw[Au,Ad hk,Ag,e9,Ag,hs];exact ⟨_,h9,F9,rfl,W9,m9,λ_=>rfl⟩
  | true =>
   obtain ⟨f,rfl⟩:∃ f:Nat,num=(f:Int):=by unfold C5 Gq at hc;simp only[Af,Cz,decide_eq_true_eq] at hc;exact ⟨num.toNat,by omega⟩
   have hs:C9 p ⟨kind,(k:Nat),(f:Nat),key,text,gone⟩=some (Dv p f):=by simp only[C9,h6,h7,hc,cond_true,cond_false]
   obtain ⟨a5,c5,a6,c6,h5,h6',G,e5,e6,r6,m6⟩:=VV (lo:=lo) g1 g2 g3 hpo hc nd hFlo H.hl;obtain ⟨h8,F8,e8,W8,m8⟩:=done h6' G _ _ m6 r6 rfl;simp only[Place.cs] at e6 e8;rw[Ao,e5,Ac,A3,Ab,Ah,Ai,e6,Ac,A3,Ab,Aa,Ab,Aa,Ab,Ah,Ab,Ah,Ab,Ah,Ab,Bk,Ai,Ad hk,Ag,e8,Ag,hs];exact ⟨_,h8,F8,rfl,W8,m8,λg=>by first | cases g | (simp at g)⟩
 | false =>
 rw[Au];cases h8:kind==8 with
 | true =>
  rw[Ao];cases hc:D8 p.chain with
  | false =>
   have hs:C9 p ⟨kind,(k:Nat),num,key,text,gone⟩=none:=by simp only[C9,h6,h7,h8,hc,cond_true,cond_false]
   unfold D8 at hc;rw[decide_eq_false_iff_not] at hc;rw[Ak hc,Ad hk,Ag,e9,Ag,hs];exact ⟨_,h9,F9,rfl,W9,m9,λ_=>rfl⟩
  | true =>
   have hs:C9 p ⟨kind,(k:Nat),num,key,text,gone⟩=some (Jd p):=by simp only[C9,h6,h7,h8,hc,cond_true,cond_false]
   obtain ⟨a5,c5,h5,G,e5,r6,m6⟩:=VJ (lo:=lo) g1 g2 g3 hpo hc nd hFlo H.hl;obtain ⟨h8',F8,e8,W8,m8⟩:=done h5 G _ _ m6 r6 rfl;unfold D8 at hc;rw[decide_eq_true_eq] at hc;simp only[Place.cs,Jd] at e8;rw[Aj hc,e5,Ac,A3,Ab,Ah,Ai,Ad hk,Ag,e8,Ag,hs];exact ⟨_,h8',F8,rfl,W8,m8,λg=>by first | cases g | (simp at g)⟩
 | false =>
 rw[Au,A7,Ac,AC];cases hw:Af num 0 2 with
 | false =>
  have hs:C9 p ⟨kind,(k:Nat),num,key,text,gone⟩=none:=by simp only[C9,h6,h7,h8,C4,hw,Zh,cond_true,cond_false]
  rw[Au,Ad hk,Ag,e9,Ag,hs];exact ⟨_,h9,F9,rfl,W9,m9,λ_=>rfl⟩
 | true =>
  have hw':=hw;simp only[Af,Cz,decide_eq_true_eq] at hw';obtain ⟨f,rfl⟩:∃ f:Nat,num=(f:Int):=⟨num.toNat,by omega⟩;have h3:=(AJ hpo).2.2.1;have ec:=LL (lo:=lo) (f:=f) (a2:=b2) (c2:=d2) g1 g3 hpo (by omega) hn;simp only[Place.cs] at ec;rw[Ao,ec,Ac,AC];cases hc:IP p f with
  | false =>
   have hs:C9 p ⟨kind,(k:Nat),(f:Nat),key,text,gone⟩=none:=by simp only[C9,h6,h7,h8,C4,hw,BA,hc,ZE,cond_true,cond_false]
   rw[Au,Ad hk,Ag,e9,Ag,hs];exact ⟨_,h9,F9,rfl,W9,m9,λ_=>rfl⟩
  | true =>
   have hct:C4 p (f:Int)=true:=by unfold C4;rw[hw,BA,hc];rfl
   have hs:C9 p ⟨kind,(k:Nat),(f:Nat),key,text,gone⟩=some (Dt p f):=by simp only[C9,h6,h7,h8,hct,cond_true,cond_false]
   obtain ⟨x1,y1,x2,y2,x3,y3,h5,G,e5,r6,m6⟩:=U8 (lo:=lo) g1 g2 g3 hpo hct nd hFlo H.hl;obtain ⟨h8',F8,e8,W8,m8⟩:=done h5 G _ _ m6 r6 rfl;simp only[Place.cs] at e5 e8;rw[Ao,e5,Ac,A3,Ab,Aa,Ab,Aa,Ab,Ah,Ab,Ah,Ab,Ah,Ab,Bk,Ai,Ad hk,Ag,e8,Ag,hs];exact ⟨_,h8',F8,rfl,W8,m8,λg=>by first | cases g | (simp at g)⟩
end


variable {α:Type}{El:Rel α}{h:Heap}{a:Pq}{c:Nq}{F:List Nat}{l:List α}{xs:List (List V)}{Fs:List (List Nat)}
theorem UN (ok:El.Ok) {lo R ee bytes:Nat}{k:Nat} (hs:Sli false R ee El h [.sl R a l.length c] l F) (hk:k<l.length) (hnd:F.Nodup) (hlo:∀ b∈F,lo<=b) (hl:lo<=h.length) (hby:0<bytes) (hn:l.length*bytes<=140737488355328) :
  ∃ a' c' h' F',(∀ {T:Type} (K:V->Heap->Option T),(Ay a l.length c none (some (Iv (k:Nat))) none λa_0 n_1 c_2=>Ap R (h ++ [.rows R ee false []]) (.sl R a_0 n_1 c_2) λx_3=>CJ lo ee R bytes (.sl R (some ((List.length h),0)) 0 (some 0)) x_3 (h ++ [.rows R ee false []]) λv_4 h_5=>eS R (v_4) λa_6 n_7 c_8 =>
    Ay a l.length c (some (Iv ((k+1:Nat):Int))) none none λa_9 n_10 c_11=>Ap R h_5 (.sl R a_9 n_10 c_11) λx_12=>CJ lo ee R bytes (.sl R a_6 n_7 c_8) x_12 h_5 K)=K (.sl R a' (l.eraseIdx k).length c') h') /\
   Sli false R ee El h' [.sl R a' (l.eraseIdx k).length c'] (l.eraseIdx k) F'/\Mv h F h' F':=by
 have hbd:=(Sli.ok ok).bd _ _ _ _ hs;obtain ⟨Fs,nF,sF,own,cuts⟩:=Sli.parts hs hnd;obtain ⟨rP,_,eP,_,kP,_⟩:=cuts k (by omega);obtain ⟨_,rQ,_,eQ,_,kQ⟩:=cuts (k+1) (by omega);obtain ⟨nP,_,dPQ⟩:=C8 (k:=k) nF;obtain ⟨_,nQ,_⟩:=C8 (k:=k+1) nF;have inP:∀ y∈(Fs.take k).flatten,y∈Fs.flatten:=λy hy=>by rw[<- Zm k Fs,Y7];simp[hy]
 have inQ:∀ y∈(Fs.drop (k+1)).flatten,y∈(Fs.drop k).flatten:=λy hy=>by
  have:Fs.drop (k+1)=(Fs.drop k).drop 1:=by rw[ZT]
  rw[this] at hy;rw[<- Zm 1 (Fs.drop k),Y7];exact YF.2 (.inr hy)
 have inQ':∀ y∈(Fs.drop (k+1)).flatten,y∈Fs.flatten:=λy hy=>by rw[<- Zm k Fs,Y7];simp[inQ y hy]
 have hFl:∀ y∈Fs.flatten,y<h.length:=λy hy=>hbd y (sF y hy);have htl:(l.take k).length=k:=by rw[Zr];omega
 have hdl:(l.drop (k+1)).length=l.length - (k+1):=by rw[ZL]
 obtain ⟨a3,c3,h3,F3,e3,r3,l3,fr3,sub3,nd3⟩:=GT (lo:=lo) (R:=R) (e:=ee) (bytes:=bytes) ok eP nP (λy hy=>hFl y (inP y hy)) hby (by rw[htl];exact YD (Zb _ (by omega)) hn) hl;have hQ3:∀ y∈(Fs.drop (k+1)).flatten,y∉F3/\y<h3.length:=λy hy=>by
  have:=hFl y (inQ' y hy);refine ⟨λhm3=>?_,by omega⟩;rcases sub3 y hm3 with g | g
  ·exact dPQ y g y (inQ y hy) rfl
  ·omega
 have F3b:∀ y∈F3,y<h3.length:=(Sli.ok ok).bd _ _ _ _ r3;obtain ⟨a7,c7,h7,F7,e7,r7,l7,fr7,sub7,nd7⟩:=HR (lo:=lo) (bytes:=bytes) ok.fr r3 (xs:=rQ) (ys:=l.drop (k+1)) (Gs:=Fs.drop (k+1)) (eQ.fr ok.fr λy hy=>fr3 y (hFl y (inQ' y hy))) hby (by rw[htl,hdl];exact YD (Zb _ (by omega)) hn) (λy hy=>by
   rcases sub3 y hy with g | g
   ·exact hlo y (sF y (inP y g))
   ·omega) (by omega) (by
   rw[YK];refine ⟨nd3,nQ,λx hx y hy e=>?_⟩;subst e;exact (hQ3 x hy).1 hx) (λy hy=>by
   rcases YF.1 hy with hy | hy
   ·exact F3b y hy
   ·exact (hQ3 y hy).2)
 have hel:(l.take k).length+(l.drop (k+1)).length=(l.eraseIdx k).length:=by rw[ZD hk,htl,hdl];omega
 have her:l.take k++l.drop (k+1)=l.eraseIdx k:=(List.eraseIdx_eq_take_drop_succ l k).symm;rw[hel] at e7 r7;rw[her] at r7;have mm0:Mv h [] (h ++ [.rows R ee false []]) []:=Mv.snoc;refine ⟨a7,c7,h7,F7,λK=>?_,r7,⟨by omega,λy hy hyF=>?_,nd7,λy hy=>?_⟩⟩
 ·rw[kP _ (λb i e=>mm0.fr b (hbd b (own b i e).1) (by simp)),e3,Ah,kQ _ (λb i e=>fr3 b (hbd b (own b i e).1)),e7]
 ·have y3:y∉F3:=λhm3=>by
   rcases sub3 y hm3 with g | g
   ·exact hyF (sF y (inP y g))
   ·omega
  rw[fr7 y (by omega) y3,fr3 y hy]
 ·rcases sub7 y hy with g | g
  ·rcases YF.1 g with g | g
   ·rcases sub3 y g with g | g
    ·exact .inl (sF y (inP y g))
    ·exact .inr (by omega)
   ·exact .inl (sF y (inQ' y g))
  ·exact .inr (by omega)
theorem J6 {h:Heap}:∀ {xs:List (List V)},EAll (flat id) h xs xs (xs.map λ_ => [])
 | []=>trivial
 | x :: xs=>⟨⟨rfl,rfl⟩,J6⟩
theorem MB {rows:List (List V)} (hx:EAll (flat id) h rows xs Fs):rows=xs/\Fs.flatten = []:=by have:=hx.of_flat;simpa using this
theorem Sli.bare {R e n:Nat} (hs:Sli false R e El h [.sl R a n c] l F) :
  ∃ xs Fs F0,Sli false R e (flat id) h [.sl R a n c] xs F0/\EAll El h xs l Fs/\F=F0++Fs.flatten:=by
 obtain ⟨R1,a1,c1,e1,g⟩:=hs;injection e1 with e1 _;injection e1 with e0 e2 e4 e3;subst e2;subst e3;subst e4;cases a with
 | none =>obtain ⟨rfl,rfl,rfl⟩:=g;exact ⟨[],[],[],⟨R1,none,some 0,by rw[e0];rfl,rfl,rfl,rfl⟩,trivial,rfl⟩
 | some p =>
  obtain ⟨b,i⟩:=p;obtain ⟨_,rs,Fs,g1,g2,g3,g4,g5,rfl⟩:=g;have hlen:((rs.drop i).take l.length).length=l.length:=by rw[Zr,ZL];omega
  refine ⟨(rs.drop i).take l.length,Fs,[b],⟨R,some (b,i),c,by rw[hlen],rfl,rs,_,g1,by rw[hlen];exact g2,by rw[hlen];exact g3,g4,?_,by rw[(MB (J6 (h:=h) (xs:=(rs.drop i).take l.length))).2]⟩,g5,rfl⟩;rw[hlen];exact J6
theorem Sli.cook {R e n:Nat}{F0:List Nat} (hs:Sli false R e (flat id) h [.sl R a n c] xs F0) (hx:EAll El h xs l Fs) :
  Sli false R e El h [.sl R a n c] l (F0++Fs.flatten):=by
 have hl:=hx.len;obtain ⟨R1,a1,c1,e1,g⟩:=hs;injection e1 with e1 _;injection e1 with e0 e2 e4 e3;subst e2;subst e3;subst e4;cases a with
 | none =>obtain ⟨rfl,rfl,rfl⟩:=g;have:l = []:=YM hl.1.symm;subst this;have:Fs = []:=YM hl.2;subst this;exact ⟨R1,none,some 0,by rw[e0];rfl,rfl,rfl,rfl⟩
 | some p =>obtain ⟨b,i⟩:=p;obtain ⟨_,rs,Gs,g1,g2,g3,g4,g5,rfl⟩:=g;obtain ⟨q1,q2⟩:=MB g5;refine ⟨R,some (b,i),c,by rw[hl.1],rfl,rs,Fs,g1,by rw[<- hl.1];exact g2,by rw[<- hl.1];exact g3,g4,?_,by rw[q2];rfl⟩;rw[<- hl.1,q1];exact hx


variable {f:Frame}
section
variable {lo:Nat}{h h':Heap}{w:World}{a1 a2 a3 a4 a:Pq}{c1 c2 c3 c4 c:Nq}{F1 F2 F3 F4:List Nat}
theorem Kx (hg:Fits w) (hf:Ia w.places f):thin f.ver/\Ck f.ver=true/\f.ver.tag.place=f.fro:=by
 obtain ⟨h1,h2,h3,h4,h5⟩:=hf;have hk:f.fro.toNat<w.places.length:=by have:=hg.ok.p3;omega
 obtain ⟨hpo,hme,_⟩:=hg.at hk;rw[Og hk] at h5;obtain ⟨hi,h5⟩:=DB h5;obtain ⟨_,hl⟩:=EV (AJ hpo).2.2.2.2.2.1;obtain ⟨g1,g2,_⟩:=hl _ hi;rw[h5] at g1 g2;exact ⟨IO g1,g1,by rw[g2,hme];omega⟩
theorem Q9 {b:Pq}{d:Nq}{G:List Nat} (H:WR lo h w a1 c1 a2 c2 a3 c3 a4 c4 F1 F2 F3 F4) (hg:Fits w) (hf:Ia w.places f) (hv:RTags false h [.sl 2 b f.ver.past.length d] f.ver.past G) :
  ∃ h' F',(AM f.to w.places.length (eO a1 λw0=>eO (ld h w0.1 (w0.2+f.to.toNat) 0 6) λw0=>eC w0 λw0 p=>eI .i64 w0 λw0=>eC p λp q=>eI .i64 p λp=>eC q λq g=>eS 2 q λq i j=>eC g λg k=>eS 6 g λg m t=>eC k λk d0=>eS 1 k λk e f0=>eC d0 λd0 v0=>eBv d0 λd0=>eN v0 (Al (Ae lo 93 [.agg [Iv w0,Iv p,.sl 2 q i j,.sl 6 g m t,.sl 1 k e f0,.bool d0],Iv f.fro,Iv f.at',.agg [Iv f.ver.key,Iv f.ver.tag.time,Iv f.ver.tag.place,.sl 2 b f.ver.past.length d,.str f.ver.text,.bool f.ver.gone]] h) λw1 p=>eU w1 λw1=>eC w1 λw1 q=>eA w1 λw1=>eC w1 λw1 g=>eI .i64 w1 λw1=>eC g λg i=>eI .i64 g λg=>eC i λi j=>eS 2 i λi k m=>eC j λj t=>eS 6 j λj d e=>eC t λt f0=>eS 1 t λt v0 v1=>eC f0 λf0 v2=>eBv f0 λf0=>eN v2 (eC q λq v2=>eB q (eN v2 (AM f.to w.places.length (eO a1 λq=>eO (st lo p q.1 (q.2+f.to.toNat) 0 [Iv w1,Iv g,.sl 2 i k m,.sl 6 j d e,.sl 1 t v0 v1,.bool f0]) λw1=>some (V.tup [.agg (w.cs a1 c1 a2 c2 a3 c3 a4 c4),.bool true],w1)))) (eN v2 (some (V.tup [.agg (w.cs a1 c1 a2 c2 a3 c3 a4 c4),.bool true],p)))))))=some (V.tup [.agg (w.cs a1 c1 a2 c2 a3 c3 a4 c4),.bool true],h') /\
   KT lo h' (w.cs a1 c1 a2 c2 a3 c3 a4 c4) (Jj w f) F'/\Mv h (F1++(F2++(F3++F4))) h' F':=by
 obtain ⟨hth,hvo,hvt⟩:=Kx hg hf;obtain ⟨⟨h1,h1'⟩,⟨h2,h2'⟩,h3,h4,h5⟩:=hf;obtain ⟨fro,to,at',ver⟩:=f;simp only at *
 obtain ⟨k,rfl⟩:∃ k:Nat,to=(k:Int):=⟨to.toNat,by omega⟩;obtain ⟨j,rfl⟩:∃ j:Nat,fro=(j:Int):=⟨fro.toNat,by omega⟩;have hk:k<w.places.length:=by have:=hg.ok.p3;omega
 obtain ⟨hpo,hme,hro⟩:=hg.at hk;obtain ⟨b0,i,s1,s2,s3,b1,d1,b2,d2,b3,d3,G1,G2,G3,rfl,hld,_,_,e1,e2,e3,g1,g2,g3,nd,hF,put⟩:=H.place hk;have hx:Jj w ⟨(j:Int),(k:Int),at',ver⟩=setP w k (Ev w.places[k] j at' ver):=by unfold Jj;simp only[BA,CF hk]
 rw[hx];rw[Ad hk,Ag,BA,hld,Ag,Ab,Aa,Ab,Aa,Ab,e1,Ab,e2,Ab,e3,Ab,Bk,Ai];generalize hp:w.places[k]=p at hpo hme hro hld e1 e2 e3 g1 g2 g3 put;have ht:=CB hpo;have h3g:=(AJ hpo).2.2.1;have nd':=nd;rw[YK,YK] at nd';obtain ⟨nd1,⟨nd2,nd3,Oe⟩,nd5⟩:=nd';have hj:j<p.got.length:=by omega
 obtain ⟨h5',F5,e5,r5,m5,x5⟩:=OY (lo:=lo) (at':=at') (a1:=b1) (c1:=d1) (a2:=b2) (c2:=d2) g3 hv hj (by have:=(ht.got.2 _ (YJ hj)).1;omega) (by have:=hth.1;omega) nd3 (λy hy=>(hF y (by simp[hy])).1) H.hl;simp only[Place.cs,Ver.cs] at e5;have hc:EA p (j:Int) at' ver=Gl p j at' ver:=by unfold EA;rw[hvo,hvt,Wp,BA];simp[Af];omega
 have hsame:setP w k p=w:=by unfold setP;rw[<- hp,zab]
 rw[e5,Ac,Np,Ab,A3,Ab,Aa,Ab,Aa,Ab,Ah,Ab,Ah,Ab,Ah,Ab,Bk,Ai,Ab,AC];unfold Ev;rw[hc];cases hh:Gl p j at' ver with
 | false =>have:=x5 hh;subst this;rw[Au,Ai,cond_false,hsame];exact ⟨_,_,rfl,H.at,Mv.refl H.nd⟩
 | true =>
  rw[hh,cond_true] at r5;have hb:∀ y∈G1++(G2++G3),y<h.length:=λy hy=>(hF y hy).2.1
  have mm:Mv h (G1++(G2++G3)) h5' (G1++(G2++F5)):=m5.mid Vm nd (λy hy=>hb y (by simp only[YF] at hy ⊢;grind)) Vm;have hcs:(Hd p j ver).cs b1 d1 b2 d2 b3 d3=p.cs b1 d1 b2 d2 b3 d3:=WX;have rr:RPlace false h5' (p.cs b1 d1 b2 d2 b3 d3) (Hd p j ver) (G1++(G2++F5)):=by
   rw[<- hcs];refine ⟨_,_,_,G1,G2,F5,rfl,rfl,m5.keep rnodes_ok g1 (λy hy hm=>nd5 y hy y (by simp[hm]) rfl),m5.keep rvers_ok g2 (λy hy hm=>Oe y hy y hm rfl),?_⟩;have:(Hd p j ver).got=p.got.set j (p.got[j] ++ [ver]):=by unfold Hd;rw[Gm hj]
   rw[this,Zq];exact r5
  obtain ⟨h6,F6,e6,q6,m6⟩:=put h5' _ _ _ mm rr rfl;simp only[Place.cs] at e6;rw[Ao,Ai,Ad hk,Ag,e6,Ag,cond_true,BA];refine ⟨h6,_,rfl,?_,m6⟩;rw[<- Te (k:=k) (p:=Hd p j ver)];exact q6.at
def QO (w:World) (e:Event):Option World:=bif e.kind==10 then N5 w e else J0 w e
theorem RT {e:Event} (H:WR lo h w a1 c1 a2 c2 a3 c3 a4 c4 F1 F2 F3 F4) (hg:Fits w) :
  ∃ cs' h' F',Ae lo 74 [.agg (w.cs a1 c1 a2 c2 a3 c3 a4 c4),.agg e.cs] h=some (.tup [.agg cs',.bool (QO w e).isSome],h')/\KT lo h' cs' ((QO w e).getD w) F'/\Mv h (F1++(F2++(F3++F4))) h' F'/\((QO w e)=none->cs'=w.cs a1 c1 a2 c2 a3 c3 a4 c4):=by
 obtain ⟨kind,at',num,key,text,gone⟩:=e;suffices hk:∃ cs' h' F',_=some (V.tup [.agg cs',.bool (QO w ⟨kind,at',num,key,text,gone⟩).isSome],h')/\KT lo h' cs' ((QO w ⟨kind,at',num,key,text,gone⟩).getD w) F'/\Mv h (F1++(F2++(F3++F4))) h' F'/\((QO w ⟨kind,at',num,key,text,gone⟩)=none->cs'=w.cs a1 c1 a2 c2 a3 c3 a4 c4) from by obtain ⟨cs',h',F',e,hr⟩:=hk;exact ⟨cs',h',F',PV e,hr⟩
 have hp3:=hg.ok.p3;have hn12:=hg.ok.n12;unfold QO;cases h10:kind==10 with
 | true =>
  rw[cond_true,Ao,A7,Ac,AC];unfold N5;cases x1:Af at' 0 2 with
  | false =>rw[Zh,cond_false,Au];exact ⟨_,h,_,rfl,H.at,Mv.refl H.nd,λ_=>rfl⟩
  | true =>
  rw[YP,Ao,A7,Ac,AC];cases x2:Af num 0 2 with
  | false =>rw[Zh,cond_false,Au];exact ⟨_,h,_,rfl,H.at,Mv.refl H.nd,λ_=>rfl⟩
  | true =>
  rw[YP,Ao];cases x3:at'==num with
  | true =>rw[Zk,Zh,cond_false,Ao];exact ⟨_,h,_,rfl,H.at,Mv.refl H.nd,λ_=>rfl⟩
  | false =>
  rw[Zo,YP,Au];by_cases x4:(w.net.length:Int)<12
  ·simp only[Af,Cz,decide_eq_true_eq] at x1;obtain ⟨k,rfl⟩:∃ k:Nat,at'=(k:Int):=⟨at'.toNat,by omega⟩;have hk:k<w.places.length:=by omega
   obtain ⟨hpo,hme,hro⟩:=hg.at hk;obtain ⟨b0,i,s1,s2,s3,b1,d1,b2,d2,b3,d3,G1,G2,G3,rfl,hld,hc2,hc3,e1,e2,e3,g1,g2,g3,nd,hF,put⟩:=H.place hk;have hll:=(CB hpo).log.1;rw[decide_eq_true x4,YP,Ak (by omega),Ad hk,Ag,BA,hc3,Ag,Ab,Ai,e2,wr (by omega) (by omega),A7,Ac,AC,Og hk];generalize hp:w.places[k]=p at hpo hme hro hld e1 e2 e3 g1 g2 g3 put hll;cases x5:Af key 0 ((p.log.length:Int) - 1) with
   | false =>rw[cond_false,Au];exact ⟨_,h,_,rfl,H.at,Mv.refl H.nd,λ_=>rfl⟩
   | true =>
   simp only[Af,Cz,decide_eq_true_eq] at x5;obtain ⟨m,rfl⟩:∃ m:Nat,key=(m:Int):=⟨key.toNat,by omega⟩;have hm:m<p.log.length:=by omega
   obtain ⟨o,s,b,d,G,ha,ho,es,hpv,hGF⟩:=g2.get hm;have hth:=(CB hpo).log.2 _ (YJ hm);obtain ⟨a5,c5,h5,F5,e5,r5,m5⟩:=BW (lo:=lo) (v:=p.log[m]) hpv H.hl (by have:=hth.1;omega);have e5':=e5;simp only[Ver.cs] at e5';rw[cond_true,Ao,Ad hk,Ag,hc3,Ag,Ab,Ai,e2,Ad hm,ha,Ag,BA,ho,Ag,Ab,Aa,Ab,Aa,Ab,Aa,Ab,es,Ab,Dg,Ab,Bk,Ai,e5',Ac,A3,Ab,Aa,Ab,Aa,Ab,Aa,Ab,Ah,Ab,Dg,Ab,Bk,Ai,Bv,CF hm];obtain ⟨⟨n1,n2,n3,n4⟩,_⟩:=Oe H.nd;obtain ⟨a6,c6,h6,F6,e6,r6,m6⟩:=DT (lo:=lo) (bytes:=96) (e:=107) rframe_ok H.r3 (row := Iv (k:Nat) :: Iv num :: Iv (m:Nat) :: p.log[m].cs a5 c5) (x:=⟨(k:Nat),num,(m:Nat),p.log[m]⟩) (G:=F5) (h1:=h5 ++ [.rows 9 107 false [Iv (k:Nat) :: Iv num :: Iv (m:Nat) :: p.log[m].cs a5 c5]])
    ⟨_,rfl,_,rfl,Mv.snoc.keep0 rtags_ok r5⟩ (m5.trans (Mv.snoc' m5.nd)) n3 (λy hy=>H.ge y (by simp[hy])) H.hl (by decide) (by omega)
   simp only[Ver.cs] at e6;rw[e6,Ah];have hnl:(w.net ++ [(⟨(k:Nat),num,(m:Nat),p.log[m]⟩:Frame)]).length=w.net.length+1:=by simp
   rw[<- hnl] at r6;obtain ⟨q,mq⟩:=H.up3 m6 r6;refine ⟨_,h6,_,?_,q.at,mq,λg=>by first | cases g | (simp at g)⟩;rw[<- hnl];rfl
  ·rw[decide_eq_false x4,Zh,cond_false,Aj (by omega)];exact ⟨_,h,_,rfl,H.at,Mv.refl H.nd,λ_=>rfl⟩
 | false =>
 rw[cond_false,Au,wr (by omega) (by omega),A7,Ac,AC];unfold J0;cases x1:Af at' 0 ((w.net.length:Int) - 1) with
 | false =>rw[cond_false,Au];exact ⟨_,h,_,rfl,H.at,Mv.refl H.nd,λ_=>rfl⟩
 | true =>
 simp only[Af,Cz,decide_eq_true_eq] at x1;obtain ⟨j,rfl⟩:∃ j:Nat,at'=(j:Int):=⟨at'.toNat,by omega⟩;have hj:j<w.net.length:=by omega
 obtain ⟨⟨n1,n2,n3,n4⟩,_⟩:=Oe H.nd;obtain ⟨xs,Fs,F0,hraw,hall,rfl⟩:=H.r3.bare;have hxl:w.net.length=xs.length:=hraw.val;obtain ⟨row,Fj,hr,hFj,⟨vs,rfl,hv⟩⟩:=hall.get (CF hj);obtain ⟨s,b,d,rfl,es,hpv⟩:=hv.form;obtain ⟨o,row',_,ha,hld,⟨rfl,_⟩,_⟩:=hraw.read (show j<xs.length by omega);have hro:xs[j]'(by omega) = Iv w.net[j].fro :: Iv w.net[j].to :: Iv w.net[j].at' :: [Iv w.net[j].ver.key,Iv w.net[j].ver.tag.time,Iv w.net[j].ver.tag.place,s,.str w.net[j].ver.text,.bool w.net[j].ver.gone]:=by rw[CF (by omega)] at hr;injection hr
 have hfi:=hg.ok.net _ (YJ hj);have hld9:ld h o.1 (o.2+j) 0 9=some (Iv w.net[j].fro :: Iv w.net[j].to :: Iv w.net[j].at' :: [Iv w.net[j].ver.key,Iv w.net[j].ver.tag.time,Iv w.net[j].ver.tag.place,s,.str w.net[j].ver.text,.bool w.net[j].ver.gone]):=by rw[hld,id,hro];exact Ju rfl
 rw[Ao,Ad hj,ha,Ag,BA,hld9,Ag,Ab,Aa,Ab,Aa,Ab,Aa,Ab,Aa,Ab,Aa,Ab,Aa,Ab,es,Ab,Dg,Ab,Bk,Ai,cond_true,CF hj,<- ha];simp only[];cases h13:kind==13 with
 | true =>
  have h12:(kind==12)=false:=by rw[beq_iff_eq] at h13;subst h13;rfl
  rw[Ao,h12,Au];obtain ⟨h',F',e,W,m⟩:=Q9 H hg hfi hpv;refine ⟨_,h',F',e,?_,m,λg=>by first | cases g | (simp at g)⟩;simpa using W
 | false =>
  rw[YK] at n3;obtain ⟨n5,n6,n7⟩:=n3;rw[hxl] at hraw;obtain ⟨a6,c6,h6,F6,e6,r6,m6⟩:=UN (k:=j) (lo:=lo) (bytes:=96) Cj hraw (by omega) n5 (λy hy=>H.ge y (by simp[hy])) H.hl (by decide) (by omega);rw[<- hxl] at e6;have hbd:∀ y∈F0++Fs.flatten,y<h.length:=H.lt.2.2.1;have hel:(xs.eraseIdx j).length=(w.net.eraseIdx j).length:=by rw[ZD hj,ZD (by omega)];omega
  obtain ⟨k1,k2⟩:=Iq hFj n6;have all6:=(hall.fr rframe_ok.fr λy hy=>m6.fr y (hbd y (by simp[hy])) λhm=>n7 y hm y hy rfl).erase j;have r3':=r6.cook all6;rw[hel] at r3' e6;have mm:Mv h (F0++Fs.flatten) h6 (F6++Fs.flatten):=m6.mid (.refl _) (by rw[YK];exact ⟨n5,n6,n7⟩) (λy hy=>hbd y (by simp[hy])) (.refl _);have nd6:=mm.nd;rw[YK] at nd6;have mm':Mv h (F0++Fs.flatten) h6 (F6++(Fs.eraseIdx j).flatten):=mm.lean (by
   rw[YK];exact ⟨nd6.1,k1,λx hx y hy=>nd6.2.2 x hx y (k2 y hy).1⟩) λy hy=>by
    rcases YF.1 hy with hy | hy
    ·simp[hy]
    ·simp[(k2 y hy).1]
  obtain ⟨q,mq⟩:=H.up3 mm' r3';have hpv6:=m6.keep rtags_ok hpv λy hy hm=>n7 y hm y (GR hFj hy) rfl;rw[show V4 false=107 from rfl] at e6;rw[Au,As (by omega),e6,Ah];cases h12:kind==12 with
  | true =>rw[Ao];exact ⟨_,h6,_,rfl,q.at,mq,λg=>by first | cases g | (simp at g)⟩
  | false =>rw[Au];have hgn:Fits (setN w (w.net.eraseIdx j)):=⟨hg.ok.netN (YD (Z8 _ _) hn12) λx hx=>hg.ok.net x (ZS hx)⟩;obtain ⟨h',F',e,W,m⟩:=Q9 (w:=setN w (w.net.eraseIdx j)) q hgn hfi hpv6;refine ⟨_,h',F',e,?_,mq.trans m,λg=>by first | cases g | (simp at g)⟩;simpa using W
end


variable {t:Tag}{l:List Tag}
section
variable {lo:Nat}{h h':Heap}{F F':List Nat}{a a':Pq}{c c':Nq}
theorem LP {s:Tag}:Ae lo 112 [.agg [Iv s.time,Iv s.place],.agg [Iv t.time,Iv t.place]] h=some (.agg [Iv (C1 s t).time,Iv (C1 s t).place],h):=by unfold C1 CG;refine P4 (h':=h) ?_;rw[Bd,Ac,AC];cases Bx s.time s.place t.time t.place<;>rfl
theorem FZ {k:Nat} (hk:k<l.length):CI l k t=l.set k (C1 l[k] t):=by unfold CI;rw[CF hk]
theorem NW {k:Nat}:(CI l k t).length=l.length:=by unfold CI;split<;>simp
theorem Hn {k:Nat} (hs:RTags false h [.sl 2 a l.length c] l F) (hk:k<l.length) (hl:lo<=h.length) (hn:l.length<=1048576) :
  ∃ a' c' h' F',Ae lo 101 [.agg [.sl 2 a l.length c],Iv (k:Nat),.agg [Iv t.time,Iv t.place]] h=some (.agg [.sl 2 a' l.length c'],h')/\RTags false h' [.sl 2 a' l.length c'] (CI l k t) F'/\Mv h [] h' F':=by
 obtain ⟨a1,c1,h1,F1,e1,r1,m1⟩:=Gp (lo:=lo) (h:=h) (l:=l) hl hn;obtain ⟨b,i,rs,row,G,ha,hbF,hbG,hb,hrow,⟨rfl,rfl⟩,hGF,hGn,_,put⟩:=r1.at (lo:=lo) Cj hk m1.nd (λy hy=>m1.ge hl (by simp) y hy);have hld:ld h1 b (i+k) 0 2=some [Iv l[k].time,Iv l[k].place]:=by rw[C2 hb hrow];rfl
 obtain ⟨h2,F2,e2,r2,m2,_⟩:=put h1 [] 0 (C1 l[k] t).cs (C1 l[k] t).cs (C1 l[k] t) Mv.nil rfl ⟨rfl,rfl⟩;subst ha;refine ⟨some (b,i),c1,h2,F2,NO ?_,by rw[FZ hk];exact r2,m1.trans m2⟩;simp only[Tag.cs] at e2;rw[RTags.rows (Mv.snoc.keep0 rtags_ok hs),e1,Ah,Ad hk,Ag,BA,hld,Ag,Ab,Aa,Ab,Aa,Ai,LP,Ac,A3,Ab,Aa,Ab,Aa,Ai,Ad hk,Ag,e2,Ag]
theorem Qv {p q:List Tag} (hs:RTags false h [.sl 2 a p.length c] p F) (hs':RTags false h [.sl 2 a' q.length c'] q F') (hp:p.length=4) (hq:q.length=4) (hl:lo<=h.length) :
  ∃ q5 a5 c5 h' F5,Ae lo 102 [.agg [.sl 2 a p.length c],.agg [.sl 2 a' q.length c']] h=some (.agg [.sl q5 a5 (Bs p q).length c5],h')/\RTags false h' [.sl q5 a5 (Bs p q).length c5] (Bs p q) F5/\Mv h [] h' F5:=by
 have hj:(Bs p q).length=4:=by unfold Bs;rw[zag];omega
 obtain ⟨q5,a5,c5,h',F5,e,r,m⟩:=Cq (El:=flat Tag.cs) Cj (h:=h) (l:=Bs p q) (f:=id) (lo:=lo) (R:=2) (e:=29) (bytes:=16) hl (by decide) (by omega)
  (λi q5 a1 n1 c1 hh=>Ce lo (i:Nat) a p.length c a' q.length c' 0 none 0 (some 0) q5 a1 n1 c1 hh) (λi hi q5 a1 n1 c1 hh hm=>by
   obtain ⟨o,ha,ho⟩:=(hm.keep0 rtags_ok hs).get (show i<p.length by omega);obtain ⟨o',ha',ho'⟩:=(hm.keep0 rtags_ok hs').get (show i<q.length by omega);have hji:(Bs p q)[i]=C1 p[i] q[i]:=List.getElem_zipWith;refine ⟨[Iv (C1 p[i] q[i]).time,Iv (C1 p[i] q[i]).place],[],hh ++ [.rows 2 29 false [[Iv (C1 p[i] q[i]).time,Iv (C1 p[i] q[i]).place]]],⟨by rw[id,hji];rfl,rfl⟩,Mv.snoc,?_⟩;rw[Ce.e,Aj (by omega),Ad (show i<p.length by omega),ha,Ag,BA,ho,Ag,Ab,Aa,Ab,Aa,Ai,Ad (show i<q.length by omega),ha',Ag,ho',Ag,Ab,Aa,Ab,Aa,Ai,LP,Ac,A3,Ab,Aa,Ab,Aa,Ai,Bv,As (by omega)])
 rw[List.map_id] at r;refine ⟨q5,a5,c5,h',F5,NR ?_,r,m⟩;refine e.trans ?_;rw[Ce.e,Ak (by omega)]
end
section
variable {lo:Nat}{h h':Heap}{w:World}{a1 a2 a3 a4 a:Pq}{c1 c2 c3 c4 c:Nq}{F1 F2 F3 F4:List Nat}
theorem DJ {d:Done} (H:WR lo h w a1 c1 a2 c2 a3 c3 a4 c4 F1 F2 F3 F4) (h80:w.hist.length<=1000) :
  ∃ a5 c5 h' G,Ae lo 99 [.agg (w.cs a1 c1 a2 c2 a3 c3 a4 c4),Iv d.sess,Iv d.kind,Iv d.key,.agg [Iv d.tag.time,Iv d.tag.place]] h=some (.agg ((World.mk w.places w.sess w.net (w.hist ++ [d])).cs a1 c1 a2 c2 a3 c3 a5 c5),h') /\
   WR lo h' ⟨w.places,w.sess,w.net,w.hist ++ [d]⟩ a1 c1 a2 c2 a3 c3 a5 c5 F1 F2 F3 G/\Mv h (F1++(F2++(F3++F4))) h' (F1++(F2++(F3++G)))/\∀ y∈F1,h'[y]?=h[y]?:=by
 obtain ⟨⟨n1,n2,n3,n4⟩,_,_,d14,_⟩:=Oe H.nd;obtain ⟨a6,c6,h6,F6,e6,r6,m6⟩:=DT (lo:=lo) (bytes:=40) (e:=31) (El:=flat Done.cs) Cj H.r4 (row:=d.cs) (x:=d) (G := []) (h1:=h ++ [.rows 5 31 false [d.cs]])
  ⟨rfl,rfl⟩ Mv.snoc n4 (λy hy=>H.ge y (by simp[hy])) H.hl (by decide) (by omega)
 have hnl:(w.hist ++ [d]).length=w.hist.length+1:=by simp
 rw[<- hnl] at r6 e6;obtain ⟨q,mq⟩:=H.up4 m6 r6;refine ⟨a6,c6,h6,F6,Nx ?_,q,mq,λy hy=>m6.fr y (H.lt.1 y hy) (d14 y hy)⟩;simp only[Done.cs] at e6;rw[Bv,e6,Ah]
theorem WR.sess (H:WR lo h w a1 c1 a2 c2 a3 c3 a4 c4 F1 F2 F3 F4) {k:Nat} (hk:k<w.sess.length):∃ b i v b1 d1 G,a2=some (b,i) /\
  ld h b (i+k) 0 5=some [Iv w.sess[k].place,v,Iv w.sess[k].wait.time,Iv w.sess[k].wait.place,Iv w.sess[k].key]/\ld h b (i+k) 1 1=some [v]/\ld h b (i+k) 2 1=some [Iv w.sess[k].wait.time] /\
  (∀ {R':Type} (K:Pq->Nat->Nq->Option R'),eS 2 v K=K b1 w.sess[k].past.length d1)/\RTags false h [.sl 2 b1 w.sess[k].past.length d1] w.sess[k].past G/\RTags false h [v] w.sess[k].past G/\G.Nodup /\
  ∀ h1 G1 j cs row' s',Mv h G h1 G1->paste [Iv w.sess[k].place,v,Iv w.sess[k].wait.time,Iv w.sess[k].wait.place,Iv w.sess[k].key] j cs=some row'->RSess false h1 row' s' G1 ->
   ∃ h2 F2',st lo h1 b (i+k) j cs=some h2/\WR lo h2 ⟨w.places,w.sess.set k s',w.net,w.hist⟩ a1 c1 a2 c2 a3 c3 a4 c4 F1 F2' F3 F4/\Mv h (F1++(F2++(F3++F4))) h2 (F1++(F2'++(F3++F4)))/\∀ y∈F1,h2[y]?=h[y]?:=by
 obtain ⟨⟨_,n2,_,_⟩,d12,_⟩:=Oe H.nd;obtain ⟨b,i,rs,row,G,ha,hbF,hbG,hb,hrow,hel,hGF,hGn,_,put⟩:=Sli.at (lo:=lo) Gd H.r2 hk n2 (λy hy=>H.ge y (by simp[hy]));obtain ⟨v,rfl,hv⟩:=hel;obtain ⟨b1,d1,es,hv'⟩:=hv.form;refine ⟨b,i,v,b1,d1,G,ha,by rw[C2 hb hrow];exact Ju rfl,by rw[C2 hb hrow];rfl,by rw[C2 hb hrow];rfl,es,hv',hv,hGn,λh1 G1 j cs row' s' m hp hx=>?_⟩;obtain ⟨h2,F',e,r,m2,_⟩:=put h1 G1 j cs row' s' m hp hx;have hlen:(w.sess.set k s').length=w.sess.length:=by simp
 rw[<- hlen] at r;obtain ⟨q1,q2⟩:=H.up2 m2 r;exact ⟨h2,F',e,q1,q2,λy hy=>m2.fr y (H.lt.1 y hy) (d12 y hy)⟩
theorem WR.wait (H:WR lo h w a1 c1 a2 c2 a3 c3 a4 c4 F1 F2 F3 F4) {k:Nat} (hk:k<w.sess.length) (t:Tag) (key:Int) :
  ∃ h' F2',(∀ {T:Type} (K:Heap->Option T),(AM (k:Nat) w.sess.length (eO a2 λv=>eO (st lo h v.1 (v.2+k) 2 [Iv t.time,Iv t.place]) λv=>AM (k:Nat) w.sess.length (eO a2 λp=>eO (st lo v p.1 (p.2+k) 4 [Iv key]) K)))=K h') /\
   WR lo h' ⟨w.places,w.sess.set k ⟨w.sess[k].place,w.sess[k].past,t,key⟩,w.net,w.hist⟩ a1 c1 a2 c2 a3 c3 a4 c4 F1 F2' F3 F4/\Mv h (F1++(F2++(F3++F4))) h' (F1++(F2'++(F3++F4))):=by
 obtain ⟨b,i,v,b1,d1,G,ha,_,_,_,es,hv',hv,hGn,put⟩:=H.sess hk;obtain ⟨h2,F5,e2,q2,m2,_⟩:=put h G 2 [Iv t.time,Iv t.place] [Iv w.sess[k].place,v,Iv t.time,Iv t.place,Iv w.sess[k].key] ⟨w.sess[k].place,w.sess[k].past,t,w.sess[k].key⟩ (Mv.refl hGn) rfl ⟨v,rfl,hv⟩;have hk2:k<(w.sess.set k ⟨w.sess[k].place,w.sess[k].past,t,w.sess[k].key⟩).length:=by simpa using hk
 obtain ⟨b',i',v',b1',d1',G',ha',_,_,_,es2,hv2',hv2,hGn2,put2⟩:=q2.sess hk2;simp only[List.getElem_set_self] at hv2 put2;obtain ⟨h3,F6,e3,q3,m3,_⟩:=put2 h2 G' 4 [Iv key] [Iv w.sess[k].place,v',Iv t.time,Iv t.place,Iv key] ⟨w.sess[k].place,w.sess[k].past,t,key⟩ (Mv.refl hGn2) rfl ⟨v',rfl,hv2⟩;rw[ha] at ha';injection ha' with ha';injection ha' with x1 x2;subst x1;subst x2;refine ⟨h3,F6,λK=>?_,by simpa using q3,m2.trans m3⟩;rw[Ad hk,ha,Ag,e2,Ag,Ad hk,Ag,e3,Ag]
theorem WR.past (H:WR lo h w a1 c1 a2 c2 a3 c3 a4 c4 F1 F2 F3 F4) {k:Nat} (hk:k<w.sess.length) {h1:Heap}{G1:List Nat} (m:Mv h [] h1 G1) {q n:Nat} (r:RTags false h1 [.sl q a n c] l G1) :
  ∃ h' F2',(∀ {T:Type} (K:Heap->Option T),(AM (k:Nat) w.sess.length (eO a2 λv=>eO (st lo h1 v.1 (v.2+k) 1 [.sl q a n c]) K))=K h') /\
   WR lo h' ⟨w.places,w.sess.set k ⟨w.sess[k].place,l,w.sess[k].wait,w.sess[k].key⟩,w.net,w.hist⟩ a1 c1 a2 c2 a3 c3 a4 c4 F1 F2' F3 F4/\Mv h (F1++(F2++(F3++F4))) h' (F1++(F2'++(F3++F4)))/\∀ y∈F1,h'[y]?=h[y]?:=by
 obtain ⟨b,i,v,b1,d1,G,ha,_,_,_,es,hv',hv,hGn,put⟩:=H.sess hk;obtain ⟨h2,F5,e2,q2,m2,s2⟩:=put h1 G1 1 [.sl q a n c] [Iv w.sess[k].place,.sl q a n c,Iv w.sess[k].wait.time,Iv w.sess[k].wait.place,Iv w.sess[k].key] ⟨w.sess[k].place,l,w.sess[k].wait,w.sess[k].key⟩ (m.wide (by simp)) rfl ⟨_,rfl,r⟩;refine ⟨h2,F5,λK=>?_,q2,m2,s2⟩;rw[Ad hk,ha,Ag,e2,Ag]
end


section
variable {lo:Nat}{h h':Heap}{w:World}{a1 a2 a3 a4 a:Pq}{c1 c2 c3 c4 c:Nq}{F1 F2 F3 F4:List Nat}
theorem WR.stay (H:WR lo h w a1 c1 a2 c2 a3 c3 a4 c4 F1 F2 F3 F4) {X:Option World} (hX:X=none) :
  ∃ cs' h' F',some (V.tup [.agg (w.cs a1 c1 a2 c2 a3 c3 a4 c4),.bool false],h)=some (V.tup [.agg cs',.bool X.isSome],h')/\KT lo h' cs' (X.getD w) F'/\Mv h (F1++(F2++(F3++F4))) h' F'/\((X)=none->cs'=w.cs a1 c1 a2 c2 a3 c3 a4 c4):=by
 subst hX;exact ⟨_,h,_,rfl,H.at,Mv.refl H.nd,λ_=>rfl⟩
theorem OW {kind num key:Int}{text:ByteArray}{gone:Bool}{i:Nat} (H:WR lo h w a1 c1 a2 c2 a3 c3 a4 c4 F1 F2 F3 F4) (hg:Fits w) (ht:text.size<=1048576) (hi:i<w.sess.length) :
  ∃ cs' h' F',Ae lo 81 [.agg (w.cs a1 c1 a2 c2 a3 c3 a4 c4),.agg [Iv kind,Iv (i:Nat),Iv num,Iv key,.str text,.bool gone]] h=some (.tup [.agg cs',.bool (Eg w i w.sess[i] ⟨kind,(i:Nat),num,key,text,gone⟩).isSome],h') /\
   KT lo h' cs' ((Eg w i w.sess[i] ⟨kind,(i:Nat),num,key,text,gone⟩).getD w) F'/\Mv h (F1++(F2++(F3++F4))) h' F'/\((Eg w i w.sess[i] ⟨kind,(i:Nat),num,key,text,gone⟩)=none->cs'=w.cs a1 c1 a2 c2 a3 c3 a4 c4):=by
 suffices hk:∃ cs' h' F',_=some (V.tup [.agg cs',.bool (Eg w i w.sess[i] ⟨kind,(i:Nat),num,key,text,gone⟩).isSome],h')/\KT lo h' cs' ((Eg w i w.sess[i] ⟨kind,(i:Nat),num,key,text,gone⟩).getD w) F'/\Mv h (F1++(F2++(F3++F4))) h' F'/\((Eg w i w.sess[i] ⟨kind,(i:Nat),num,key,text,gone⟩)=none->cs'=w.cs a1 c1 a2 c2 a3 c3 a4 c4) from by obtain ⟨cs',h',F',e,hr⟩:=hk;exact ⟨cs',h',F',MP e,hr⟩
 have hso:=hg.ok.sess _ (YJ hi);obtain ⟨t1,t2,t3,t4,t5,t6⟩:=B0 hso;have h80:=hg.ok.h80;obtain ⟨k,hpl⟩:∃ k:Nat,w.sess[i].place=(k:Int):=⟨w.sess[i].place.toNat,by omega⟩;have hk:k<w.places.length:=by have:=hg.ok.p3;omega
 obtain ⟨hpo,hme,hro⟩:=hg.at hk;have hn:=(Ew (CB hpo) (by decide) (by decide) (by decide)).1;have hX:Eg w i w.sess[i] ⟨kind,(i:Nat),num,key,text,gone⟩=bif !decide (w.sess[i].wait.time>0)&&(A4 w.places[k] key text gone w.sess[i].past&&CR w 1) then
   some (setS (setP w k (wrote w.places[k] key text gone w.sess[i].past).1) i ⟨w.sess[i].place,w.sess[i].past,(wrote w.places[k] key text gone w.sess[i].past).2,key⟩ [⟨i,1,key,(wrote w.places[k] key text gone w.sess[i].past).2⟩]) else none:=by
  unfold Eg;rw[hpl,BA,CF hk]
 obtain ⟨b',i',v,e1',d1',Gs,rfl,hld',_,_,es',hv',_,hGn,puts⟩:=H.sess hi;obtain ⟨b,j,s1,s2,s3,b1,d1,b2,d2,b3,d3,G1,G2,G3,rfl,hld,_,_,e1,e2,e3,g1,g2,g3,nd,hF,put⟩:=H.place hk;have hFlo:∀ y∈G1++(G2++G3),lo<=y:=λy hy=>(hF y hy).1
 generalize hXX:Eg w i w.sess[i] ⟨kind,(i:Nat),num,key,text,gone⟩=X at hX;rw[Ad hi,Ag,BA,hld',Ag,Ab,Aa,Ab,es',Ab,Aa,Ab,Aa,Ab,Aa,Ai,hpl,Ad hk,Ag,BA,hld,Ag,Ab,Aa,Ab,Aa,Ab,e1,Ab,e2,Ab,e3,Ab,Bk,Ai];by_cases hw:w.sess[i].wait.time>0
 ·rw[Aj hw];exact H.stay (by rw[hX,decide_eq_true hw];rfl)
 rw[Ak hw,A7,Ac,AC];rw[decide_eq_false hw,Zo,YP] at hX;cases hwk:Af key 0 3 with
 | false=>rw[Au];exact H.stay (by rw[hX];unfold A4;rw[hwk];rfl)
 | true =>
 rw[Ao,Ng ht,Ac,AC];cases hto:E4 text with
 | false=>rw[Au];exact H.stay (by rw[hX];unfold A4;rw[hwk,hto];rfl)
 | true =>
 rw[Ao];have ec:=RX (lo:=lo) (a2:=b2) (c2:=d2) (a3:=b3) (c3:=d3) g1 hv' hpo t2 hn;simp only[Place.cs] at ec;have fin:A4 w.places[k] key text gone w.sess[i].past=true->CR w 1=true->X=some ⟨w.places.set k (CC (FD w.places[k] 0 (A2 w.places[k] w.sess[i].past) (Ek w.places[k] key text gone w.sess[i].past))),w.sess.set i ⟨w.sess[i].place,w.sess[i].past,⟨A2 w.places[k] w.sess[i].past,w.places[k].me⟩,key⟩,w.net,w.hist ++ [⟨i,1,key,⟨A2 w.places[k] w.sess[i].past,w.places[k].me⟩⟩]⟩:=λq1 q2=>by rw[hX,q1,q2];unfold wrote;rw[hpo,q1];rfl
 cases gone with
 | false =>
  rw[Au,ec,Ac,AC];cases hm:Fg w.places[k] w.sess[i].past with
  | false=>rw[Au];exact H.stay (by rw[hX];unfold A4;rw[hm];simp)
  | true =>
  have hcw:A4 w.places[k] key text false w.sess[i].past=true:=by unfold A4;rw[hwk,hto,t2,hm];simp
  rw[Ao];by_cases hh:(w.hist.length:Int)>=80
  ·rw[Aj hh];exact H.stay (by rw[hX,show CR w 1=false from decide_eq_false (by omega),ZE];rfl)
  have hX2:=fin hcw (decide_eq_true (by omega));obtain ⟨a6,c6,h5,F5,e5,⟨_,_,_,_,_,_,_,r5⟩,m5⟩:=IT (lo:=lo) g1 g2 g3 hv' hpo hcw nd hFlo H.hl;obtain ⟨h6,F6,e6,q6,m6⟩:=put h5 _ _ _ m5 r5 rfl;obtain ⟨h7,F7,e7,q7,m7⟩:=q6.wait hi ⟨A2 w.places[k] w.sess[i].past,w.places[k].me⟩ key;obtain ⟨a8,c8,h8,F8,e8,q8,m8,_⟩:=DJ (d:=⟨i,1,key,⟨A2 w.places[k] w.sess[i].past,w.places[k].me⟩⟩) q7 (by show w.hist.length<=1000;omega);have W:=q8.at;simp only[setP,World.cs,Zq] at e7 e8 W;simp only[Place.cs] at e5 e6;rw[Ak hh,e5,Ac,Np,Ab,A3,Ab,Aa,Ab,Aa,Ab,Ah,Ab,Ah,Ab,Ah,Ab,Bk,Ai,Ab,A3,Ab,Aa,Ab,Aa,Ai,Ai,Ad hk,Ag,e6,Ag];rw[e7,e8,Ac,A3,Ab,Ah,Ab,Ah,Ab,Ah,Ab,Ah,Ai,hX2];exact ⟨_,h8,_,rfl,W,(m6.trans m7).trans m8,λg=>by first | cases g | (simp at g)⟩
 | true =>
  rw[Ao,RO];cases hnt:GL text with
  | false=>rw[Au];exact H.stay (by rw[hX];unfold A4;rw[hwk,hto,hnt];rfl)
  | true =>
  rw[Ao,ec,Ac,AC];cases hm:Fg w.places[k] w.sess[i].past with
  | false=>rw[Au];exact H.stay (by rw[hX];unfold A4;rw[hm];simp)
  | true =>
  have hcw:A4 w.places[k] key text true w.sess[i].past=true:=by unfold A4;rw[hwk,hto,t2,hm,hnt];simp
  rw[Ao];by_cases hh:(w.hist.length:Int)>=80
  ·rw[Aj hh];exact H.stay (by rw[hX,show CR w 1=false from decide_eq_false (by omega),ZE];rfl)
  have hX2:=fin hcw (decide_eq_true (by omega));obtain ⟨a6,c6,h5,F5,e5,⟨_,_,_,_,_,_,_,r5⟩,m5⟩:=IT (lo:=lo) g1 g2 g3 hv' hpo hcw nd hFlo H.hl;obtain ⟨h6,F6,e6,q6,m6⟩:=put h5 _ _ _ m5 r5 rfl;obtain ⟨h7,F7,e7,q7,m7⟩:=q6.wait hi ⟨A2 w.places[k] w.sess[i].past,w.places[k].me⟩ key;obtain ⟨a8,c8,h8,F8,e8,q8,m8,_⟩:=DJ (d:=⟨i,1,key,⟨A2 w.places[k] w.sess[i].past,w.places[k].me⟩⟩) q7 (by show w.hist.length<=1000;omega);have W:=q8.at;simp only[setP,World.cs,Zq] at e7 e8 W;simp only[Place.cs] at e5 e6;rw[Ak hh,e5,Ac,Np,Ab,A3,Ab,Aa,Ab,Aa,Ab,Ah,Ab,Ah,Ab,Ah,Ab,Bk,Ai,Ab,A3,Ab,Aa,Ab,Aa,Ai,Ai,Ad hk,Ag,e6,Ag];rw[e7,e8,Ac,A3,Ab,Ah,Ab,Ah,Ab,Ah,Ab,Ah,Ai,hX2];exact ⟨_,h8,_,rfl,W,(m6.trans m7).trans m8,λg=>by first | cases g | (simp at g)⟩
end


variable {l:List UInt8}{ro:Bool}{xs:List ByteArray}{cc:Nq}
def Yn (x:UInt8):List V := [.int .u8 (x.toNat:Int)]
abbrev RBytes:Rel (List UInt8):=Sli true 1 0 (flat Yn)
structure Rd (lo:Nat) (h:Heap) (b n:Nat):Prop where
 ge:lo<=b
 ex:∃ a code c p Fc,h[b]?=some (.rows 2 58 false [[.sl 1 a code.length c,Iv ((p:Nat):Int)]])/\RBytes h [.sl 1 a code.length c] code Fc/\(∀ y∈Fc,y<lo)/\p<=n/\code.length<=1048576
section
variable {lo:Nat}{h h':Heap}{F F':List Nat}{b n:Nat}
theorem Rd.lt (r:Rd lo h b n):b<h.length:=by obtain ⟨_,a,code,c,p,Fc,hb,_⟩:=r;exact (DB hb).1
theorem Rd.up {n':Nat} (r:Rd lo h b n) (hn:n<=n'):Rd lo h b n':=by obtain ⟨hge,a,code,c,p,Fc,hb,hc,hF,hp,hl⟩:=r;exact ⟨hge,a,code,c,p,Fc,hb,hc,hF,by omega,hl⟩
theorem Rd.keep (r:Rd lo h b n) (m:Mv h F h' F') (hb:b∉F) (hF:∀ y∈F,lo<=y):Rd lo h' b n:=by have hlt:=r.lt;obtain ⟨hge,a,code,c,p,Fc,e,hc,hFc,hp,hl⟩:=r;refine ⟨hge,a,code,c,p,Fc,by rw[m.fr b hlt hb];exact e,m.keep (Sli.ok Cj) hc (λy hy hm=>?_),hFc,hp,hl⟩;have h1:=hFc y hy;have h2:=hF y hm;omega
theorem RK {v:Int} (h0:0<=v) (h1:v<4611686018427387904):0<=AU (((BitVec.ofInt IntKind.i64.bits v ^^^ BitVec.ofInt IntKind.i64.bits (AU (v.tdiv 64))).toNat:Nat):Int):=by
 obtain ⟨k,rfl⟩:∃ k:Nat,v=(k:Int):=⟨v.toNat,by omega⟩;have hd:((k:Nat):Int).tdiv 64=((k / 64:Nat):Int):=rfl;rw[hd,wr (n:=((k / 64:Nat):Int)) (by omega) (by omega)];have hb:IntKind.i64.bits=64:=rfl;have t:∀ q:Nat,q<4611686018427387904->(BitVec.ofInt IntKind.i64.bits ((q:Nat):Int)).toNat=q:=λq hq=>by rw[BitVec.toNat_ofInt,hb];omega
 have hx:(BitVec.ofInt IntKind.i64.bits ((k:Nat):Int) ^^^ BitVec.ofInt IntKind.i64.bits ((k / 64:Nat):Int)).toNat<2 ^ 62:=by rw[BitVec.toNat_xor,t k (by omega),t (k / 64) (by omega)];exact Nat.xor_lt_two_pow (by omega) (by omega)
 generalize (BitVec.ofInt IntKind.i64.bits ((k:Nat):Int) ^^^ BitVec.ofInt IntKind.i64.bits ((k / 64:Nat):Int)).toNat=w at hx;rw[wr (by omega) (by omega)];omega
theorem RBytes.get {a:Pq}{c:Nq}{m k:Nat} (hs:RBytes h [.sl 1 a m c] l F) (hk:k<l.length):∃ o,a=some o/\ld h o.1 (o.2+k) 0 1=some [.int .u8 (l[k].toNat:Int)]:=by obtain ⟨o,row,G,h1,h2,⟨rfl,_⟩,_⟩:=hs.read hk;exact ⟨o,h1,by rw[h2];rfl⟩
theorem pick (r:Rd lo h b n) (hn:n<=1000000) (m:Int):∃ (x:Int) (h':Heap),Ae lo 32 [.ptr (some (b,(0,0))),Iv m] h=some (Iv x,h')/\0<=x/\(0<m->x<m)/\Rd lo h' b (n+1)/\Mv h [b] h' [b]:=by
 obtain ⟨hge,a,code,c,p,Fc,hb,hc,hFc,hp,hcl⟩:=r;have hblt:=(DB hb).1;have e1:ld h b 0 (0+1) 1=some [Iv ((p:Nat):Int)]:=by rw[C2 hb rfl];rfl
 have e2:=DQ hb hge (r:=0) (j:=0+1) (cs := [Iv ((p+1:Nat):Int)]) (row' := [.sl 1 a code.length c,Iv ((p+1:Nat):Int)]) rfl rfl;generalize hh1:h.set b (Blk.rows 2 58 false (List.set [[V.sl 1 a code.length c,Iv ((p:Nat):Int)]] 0 [V.sl 1 a code.length c,Iv ((p+1:Nat):Int)]))=h1 at e2;have hb1:h1[b]?=some (.rows 2 58 false [[.sl 1 a code.length c,Iv ((p+1:Nat):Int)]]):=by rw[<- hh1];simp[hblt]
 have m1:Mv h [b] h1 [b]:=⟨by rw[<- hh1];simp,λy hy hF=>by rw[<- hh1];exact YG (λe=>hF (by simp[e])),by simp,λy hy => .inl hy⟩;have hc1:RBytes h1 [.sl 1 a code.length c] code Fc:=m1.keep (Sli.ok Cj) hc (λy hy hm=>by
  rw[YZ] at hm;have:=hFc y hy;omega)
 suffices hk:∃ x:Int,_=some (Iv x,h1)/\0<=x/\(0<m->x<m) from by obtain ⟨x,e,g1,g2⟩:=hk;exact ⟨x,h1,JA e,g1,g2,⟨hge,a,code,c,p+1,Fc,hb1,hc1,hFc,by omega,hcl⟩,m1⟩
 rw[e1,Ag,Ab,Ai,Aa,As (by omega),e2,Ag];by_cases hm:m<1
 ·rw[Aj hm];exact ⟨0,rfl,Int.le_refl _,λh=>by omega⟩
 ·have l0:ld h1 b 0 (0+0) 1=some [.sl 1 a code.length c]:=by rw[C2 hb1 rfl];rfl
  have l1:ld h1 b 0 (0+1) 1=some [Iv ((p+1:Nat):Int)]:=by rw[C2 hb1 rfl];rfl
  have tm:∀ z:Int,0<=z->∃ x:Int,some (Iv (z.tmod m),h1)=some (Iv x,h1)/\0<=x/\(0<m->x<m):=λz hz=>⟨_,rfl,Int.tmod_nonneg m hz,λh=>by rw[Int.tmod_eq_emod_of_nonneg hz];exact Int.emod_lt_of_pos z h⟩
  have w1:AU (((p+1:Nat):Int) - 1)=((p:Nat):Int):=by rw[wr (by omega) (by omega)];omega
  rw[Ak hm,l0,Ag,Ab,Ai,Ah];by_cases h0:code.length=0
  ·rw[show (((code.length:Nat):Int)==0)=true by rw[beq_iff_eq];omega,Ao];exact ⟨0,rfl,Int.le_refl _,λh=>by omega⟩
  ·rw[show (((code.length:Nat):Int)==0)=false by rw[beq_eq_false_iff_ne];omega,Au,l1,Ag,Ab,Ai,Aa,Ag,Ab,Ai,Ah,w1];by_cases hpc:p<code.length
   ·obtain ⟨o,ha,hld⟩:=hc1.get hpc;have hbt:code[p].toNat<256:=code[p].toNat_lt;rw[Aj (by omega),Ag,Ab,Ai,Ah,Ad hpc,ha,Ag,BA,hld,Ag,Ab,Ai,Aa,GO (by omega),wr (by omega) (by omega)];exact tm _ (by omega)
   ·have hk1:p % code.length<code.length:=Nat.mod_lt _ (by omega);have hk2:(p*7+3) % code.length<code.length:=Nat.mod_lt _ (by omega);obtain ⟨o,ha,hld⟩:=hc1.get hk1;obtain ⟨o',ha',hld'⟩:=hc1.get hk2;have ho:o'=o:=by rw[ha] at ha';injection ha' with e;exact e.symm
    subst ho;have hb1:code[p % code.length].toNat<256:=UInt8.toNat_lt _;have hb2:code[(p*7+3) % code.length].toNat<256:=UInt8.toNat_lt _;have t1:((p:Nat):Int).tmod ((code.length:Nat):Int)=((p % code.length:Nat):Int):=rfl;have t2:AU (AU (((p:Nat):Int)*7)+3)=((p*7+3:Nat):Int):=by rw[wr (n:=((p:Nat):Int)*7) (by omega) (by omega),wr (by omega) (by omega)];omega
    have t3:((p*7+3:Nat):Int).tmod ((code.length:Nat):Int)=(((p*7+3) % code.length:Nat):Int):=rfl;have t4:((p:Nat):Int).tdiv ((code.length:Nat):Int)=((p / code.length:Nat):Int):=rfl;have hdv:p / code.length<=p:=Nat.div_le_self _ _;rw[Ak (by omega),Ag,Ab,Ai,Ah,Ag,Ab,Ai,Ah,GO (by omega),t1,Ad hk1,ha,Ag,BA,hld,Ag,Ab,Ai,Aa,Ag,Ab,Ai,Ah,Ag,Ab,Ai,Ah,GO (by omega),t2,t3,Ad hk2,Ag,BA,hld',Ag,Ab,Ai,Aa,Ag,Ab,Ai,Ah,GO (by omega),GO (by omega),t4];generalize code[p % code.length].toNat=B1 at hb1;generalize code[(p*7+3) % code.length].toNat=B2 at hb2;generalize p / code.length=D at hdv;rw[wr (n:=((B1:Nat):Int)) (by omega) (by omega),wr (n:=((B2:Nat):Int)) (by omega) (by omega),wr (n:=((B1:Nat):Int)*131) (by omega) (by omega),wr (n:=((B2:Nat):Int)*1117) (by omega) (by omega),wr (n:=((B1:Nat):Int)*131+((B2:Nat):Int)*1117) (by omega) (by omega),
     wr (n:=((p:Nat):Int)*29) (by omega) (by omega),wr (n:=((B1:Nat):Int)*131+((B2:Nat):Int)*1117+((p:Nat):Int)*29) (by omega) (by omega),wr (n:=((D:Nat):Int)) (by omega) (by omega),wr (n:=((D:Nat):Int)*53) (by omega) (by omega),wr (n:=((B1:Nat):Int)*131+((B2:Nat):Int)*1117+((p:Nat):Int)*29+((D:Nat):Int)*53) (by omega) (by omega)]
    exact tm _ (RK (by omega) (by omega))
theorem Fe {c e:Nat}{xs:List Int}{rows:List (List V)}{len:Nat} (r:Rd lo h b n) (hn:n<=1000000) (hc:h[c]?=some (.rows 1 e ro rows)) (hcb:c≠b) (hr:rows=xs.map λx => [Iv x]) (hl:len=xs.length) (h0:0<len) :
  ∃ (x:Int) (h':Heap),Ae lo 49 [.ptr (some (b,(0,0))),.sl 1 (some (c,0)) len cc] h=some (Iv x,h')/\x∈xs/\Rd lo h' b (n+1)/\Mv h [b] h' [b]:=by
 obtain ⟨x,h1,e1,g1,g2,r1,m1⟩:=pick r hn ((len:Nat):Int);have hlt:=(DB hc).1;obtain ⟨k,rfl⟩:∃ k:Nat,x=(k:Int):=⟨x.toNat,by omega⟩;have hk:k<xs.length:=by have:=g2 (by omega);omega
 have hc1:h1[c]?=some (.rows 1 e ro rows):=by rw[m1.fr c hlt (by simpa using hcb)];exact hc
 refine ⟨xs[k],h1,Kh ?_,YJ hk,r1,m1⟩;rw[e1,Ac,Aa,Ad (by omega),Ag,BA,Zf,C2 hc1 (i:=k) (row := [Iv xs[k]]) (by rw[hr,ZZ,CF hk];rfl)];rfl
theorem Wy {c e:Nat}{rows:List (List V)}{len:Nat} (r:Rd lo h b n) (hn:n<=1000000) (hc:h[c]?=some (.rows 1 e ro rows)) (hcb:c≠b) (hr:rows=xs.map λx => [.str x]) (hl:len=xs.length) (h0:0<len) :
  ∃ (x:ByteArray) (h':Heap),Ae lo 94 [.ptr (some (b,(0,0))),.sl 1 (some (c,0)) len cc] h=some (.str x,h')/\x∈xs/\Rd lo h' b (n+1)/\Mv h [b] h' [b]:=by
 obtain ⟨x,h1,e1,g1,g2,r1,m1⟩:=pick r hn ((len:Nat):Int);have hlt:=(DB hc).1;obtain ⟨k,rfl⟩:∃ k:Nat,x=(k:Int):=⟨x.toNat,by omega⟩;have hk:k<xs.length:=by have:=g2 (by omega);omega
 have hc1:h1[c]?=some (.rows 1 e ro rows):=by rw[m1.fr c hlt (by simpa using hcb)];exact hc
 refine ⟨xs[k],h1,KZ ?_,YJ hk,r1,m1⟩;rw[e1,Ac,Aa,Ad (by omega),Ag,BA,Zf,C2 hc1 (i:=k) (row := [.str xs[k]]) (by rw[hr,ZZ,CF hk];rfl)];rfl
theorem DU {e:Nat} (xs:List Int) {rows:List (List V)}{len:Nat} (r:Rd lo h b n) (hn:n<=1000000) (hr:rows=xs.map λx => [Iv x]) (hl:len=xs.length) (h0:0<len) :
  ∃ (x:Int) (h':Heap),Ae lo 49 [.ptr (some (b,(0,0))),.sl 1 (some (h.length,0)) len cc] (h ++ [.rows 1 e false rows])=some (Iv x,h')/\x∈xs/\Rd lo h' b (n+1)/\Mv h [b] h' [b]:=by
 have m0:Mv h [b] (h ++ [.rows 1 e false rows]) [b]:=Mv.snoc' (by simp);have hlt:=r.lt;obtain ⟨x,h',e1,g1,r1,m1⟩:=Fe (h:=h ++ [Blk.rows 1 e false rows]) (c:=h.length) (e:=e) (ro:=false) (xs:=xs) (cc:=cc) (r.keep (F := []) (F' := []) Mv.snoc (by simp) (by simp)) hn (by simp) (by omega) hr hl h0;exact ⟨x,h',e1,g1,r1,m0.trans m1⟩
theorem T6 {e:Nat} (xs:List ByteArray) {rows:List (List V)}{len:Nat} (r:Rd lo h b n) (hn:n<=1000000) (hr:rows=xs.map λx => [.str x]) (hl:len=xs.length) (h0:0<len) :
  ∃ (x:ByteArray) (h':Heap),Ae lo 94 [.ptr (some (b,(0,0))),.sl 1 (some (h.length,0)) len cc] (h ++ [.rows 1 e false rows])=some (.str x,h')/\x∈xs/\Rd lo h' b (n+1)/\Mv h [b] h' [b]:=by
 have m0:Mv h [b] (h ++ [.rows 1 e false rows]) [b]:=Mv.snoc' (by simp);have hlt:=r.lt;obtain ⟨x,h',e1,g1,r1,m1⟩:=Wy (h:=h ++ [Blk.rows 1 e false rows]) (c:=h.length) (e:=e) (ro:=false) (xs:=xs) (cc:=cc) (r.keep (F := []) (F' := []) Mv.snoc (by simp) (by simp)) hn (by simp) (by omega) hr hl h0;exact ⟨x,h',e1,g1,r1,m0.trans m1⟩
theorem J2 {α β:Type}:∀ (l:List α),(l.map λ_=>([]:List β)).flatten = []
 | []=>rfl
 | _ :: l=>by simp[J2 l]
theorem HT {a:Pq}{c:Nq} (hs:RBytes h [.sl 1 a l.length c] l F) (hF:∀ y∈F,y<lo) (hlo:lo<=h.length) (hl:l.length<=1048576) (hcap:∀ k,c=some k->l.length<=k) :
  ∃ (b:Nat) (h':Heap),Ae lo 23 [.sl 1 a l.length c] h=some (.ptr (some (b,(0,0))),h')/\Rd lo h' b 0/\Mv h [] h' [b]:=by
 refine ⟨h.length,?_⟩;suffices hk:∃ h',_=some (V.ptr (some (h.length,(0,0))),h')/\Rd lo h' h.length 0/\Mv h [] h' [h.length] from by obtain ⟨h',e,g⟩:=hk;exact ⟨h',MW e,g⟩
 by_cases h2:l.length>2000
 ·have hre:∀ {T:Type} (K:Pq->Nat->Nq->Option T),Ay a l.length c none (some (Iv 2000)) none K=K a 2000 c:=λK=>by
   unfold Ay E8 Ic IX;cases c with
   | none=>simp only[Aa];rw[DA ⟨by omega,by omega⟩];rfl
   | some k=>have:=hcap k rfl;simp only[Aa];rw[DA ⟨by omega,by omega⟩];rfl
  have ht:RBytes h [.sl 1 a (l.take 2000).length c] (l.take 2000) F:=by
   obtain ⟨R',a',c',e,hR,hh⟩:=hs;injection e with e _;injection e with e0 e1 e2 e3;subst e1;subst e3;refine ⟨1,a,c,rfl,rfl,?_⟩;rcases hh with ⟨g,_⟩ | ⟨b,i,rs,Fs,g0,g1,g2,g3,g4⟩
   ·rw[g] at h2;simp at h2
   ·have hfl:=EAll.of_flat g3;refine .inr ⟨b,i,rs,(l.take 2000).map λ_ => [],g0,g1,by simp;omega,?_,?_⟩
    ·have:(rs.drop i).take (l.take 2000).length=(l.take 2000).map Yn:=by rw[List.map_take,<- hfl.1,List.take_take];congr 1;simp
     rw[this];exact EAll.flat
    ·rw[g4,hfl.2,J2]
  have hlen:(l.take 2000).length=2000:=by simp;omega
  rw[Aj (by omega),hre];refine ⟨_,rfl,⟨hlo,a,l.take 2000,c,0,F,?_,(Mv.snoc (t := [_])).keep0 (Sli.ok Cj) ht,hF,YH _,by omega⟩,Mv.last⟩;rw[hlen];simp
 ·rw[Ak (by omega)];exact ⟨_,rfl,⟨hlo,a,l,c,0,F,by simp,(Mv.snoc (t := [_])).keep0 (Sli.ok Cj) hs,hF,YH _,hl⟩,Mv.last⟩
end


variable {α:Type}{l:List α}
theorem Mv.apart {h h1:Heap}{A F1:List Nat}{b:Nat} (m:Mv h A h1 (b :: F1)):∀ y∈F1,y ∉ [b]:=λy hy hm=>by have hn:=m.nd;rw[Y2] at hn;rw[YZ] at hm;exact hn.1 (hm ▸ hy)
section
variable {lo:Nat}{h h':Heap}{F F':List Nat}{b n:Nat}
theorem Va (r:Rd lo h b n) (hn:n<=900000):∃ (t:Tag) (h':Heap),Ae lo 50 [.ptr (some (b,(0,0)))] h=some (.agg t.cs,h')/\(Bu t.time t.place=true/\t.time<=9)/\Rd lo h' b (n+3)/\Mv h [b] h' [b]:=by
 obtain ⟨x,h1,e1,g1,g1',r1,m1⟩:=pick r (by omega) 3;suffices hk:∃ (t:Tag) (h':Heap),_=some (V.agg t.cs,h')/\(Bu t.time t.place=true/\t.time<=9)/\Rd lo h' b (n+3)/\Mv h [b] h' [b] from by obtain ⟨t,h',e,g⟩:=hk;exact ⟨t,h',NN e,g⟩
 rw[e1,Ac,Aa];cases hx:(x==(0:Int)) with
 | true =>rw[Ao];exact ⟨⟨0,0⟩,h1,rfl,⟨rfl,by show (0:Int)<=9;decide⟩,r1.up (by omega),m1⟩
 | false =>obtain ⟨y,h2,e2,g2,g2',r2,m2⟩:=pick r1 (by omega) 9;obtain ⟨z,h3,e3,g3,g3',r3,m3⟩:=pick r2 (by omega) 3;have hy:=g2' (by omega);have hz:=g3' (by omega);rw[Au,e2,Ac,Aa,e3,Ac,Aa,wr (by omega) (by omega)];exact ⟨⟨1+y,z⟩,h3,rfl,⟨by simp[Bu,Af];omega,by show 1+y<=9;omega⟩,r3,(m1.trans m2).trans m3⟩
theorem RG (r:Rd lo h b n) (hn:n<=890000):∃ (t:Tag) (h':Heap),Ae lo 33 [.ptr (some (b,(0,0)))] h=some (.agg t.cs,h')/\Rd lo h' b (n+4)/\Mv h [b] h' [b]:=by
 obtain ⟨x,h1,e1,g1,g1',r1,m1⟩:=pick r (by omega) 8;suffices hk:∃ (t:Tag) (h':Heap),_=some (V.agg t.cs,h')/\Rd lo h' b (n+4)/\Mv h [b] h' [b] from by obtain ⟨t,h',e,g⟩:=hk;exact ⟨t,h',Kj e,g⟩
 rw[e1,Ac,Aa];cases hx:(x==(0:Int)) with
 | true =>obtain ⟨y,h2,e2,_,r2,m2⟩:=DU (e:=3) [0,-1,1000,999] (rows := [[Iv 0],[Iv (-1)],[Iv 1000],[Iv 999]]) (len:=4) (cc:=some 4) r1 (by omega) rfl rfl (by decide);obtain ⟨z,h3,e3,_,r3,m3⟩:=DU (e:=3) [0,1,3,-1] (rows := [[Iv 0],[Iv 1],[Iv 3],[Iv (-1)]]) (len:=4) (cc:=some 4) r2 (by omega) rfl rfl (by decide);rw[Ao,e2,Ac,Aa,e3,Ac,Aa];exact ⟨⟨y,z⟩,h3,rfl,r3.up (by omega),(m1.trans m2).trans m3⟩
 | false =>obtain ⟨t,h2,e2,_,r2,m2⟩:=Va r1 (by omega);simp only[Tag.cs] at e2;rw[Au,e2,Ac,A3,Ab,Aa,Ab,Aa,Ai];exact ⟨t,h2,rfl,r2,m1.trans m2⟩
theorem IC (r:Rd lo h b n) (hn:n<=900000):∃ (s:ByteArray) (h':Heap),Ae lo 78 [.ptr (some (b,(0,0)))] h=some (.str s,h')/\E4 s=true/\Rd lo h' b (n+1)/\Mv h [b] h' [b]:=by
 obtain ⟨s,h1,e1,g1,r1,m1⟩:=T6 (e:=9) [⟨⟨[]⟩⟩,⟨⟨[97]⟩⟩,⟨⟨[98]⟩⟩,⟨⟨[120,35,49]⟩⟩,⟨⟨[61]⟩⟩,⟨⟨[45]⟩⟩,⟨⟨[108,111,110,103,116,101,120,116]⟩⟩,⟨⟨[122,122]⟩⟩]
  (rows := [[.str ⟨⟨[]⟩⟩],[.str ⟨⟨[97]⟩⟩],[.str ⟨⟨[98]⟩⟩],[.str ⟨⟨[120,35,49]⟩⟩],[.str ⟨⟨[61]⟩⟩],[.str ⟨⟨[45]⟩⟩],[.str ⟨⟨[108,111,110,103,116,101,120,116]⟩⟩],[.str ⟨⟨[122,122]⟩⟩]]) (len:=8) (cc:=some 8) r (by omega) rfl rfl (by decide)
 refine ⟨s,h1,MU ?_,?_,r1,m1⟩
 ·rw[e1,Ac,Dg]
 ·have:∀ x∈([⟨⟨[]⟩⟩,⟨⟨[97]⟩⟩,⟨⟨[98]⟩⟩,⟨⟨[120,35,49]⟩⟩,⟨⟨[61]⟩⟩,⟨⟨[45]⟩⟩,⟨⟨[108,111,110,103,116,101,120,116]⟩⟩,⟨⟨[122,122]⟩⟩]:List ByteArray),E4 x=true:=YR.1 (by decide);exact this s g1
theorem Sli.made {cs:α->List V}{R e:Nat}{rows:List (List V)} (hr:rows=l.map cs):Sli false R e (flat cs) (h ++ [.rows R e false rows]) [.sl R (some (h.length,0)) l.length (some l.length)] l [h.length]:=by subst hr;refine ⟨R,some (h.length,0),some l.length,rfl,rfl,l.map cs,l.map λ_ => [],by simp,by simp,λk hk=>by injection hk with hk;simp;omega,(λhc=>(by cases hc)),?_,by rw[J2]⟩;rw[Zg,Zv (by simp)];exact EAll.flat
def Hc:List Tag := [⟨0,0⟩,⟨0,0⟩,⟨0,0⟩,⟨0,0⟩]
theorem Qu:∃ h' q,Ae lo 71 [] h=some (.agg [.sl 2 (some (q,0)) 4 (some 4)],h')/\RTags false h' [.sl 2 (some (q,0)) 4 (some 4)] Hc [q]/\Mv h [] h' [q] :=
 ⟨_,h.length,NP rfl,Sli.made (l:=Hc) rfl,Mv.last⟩
theorem OE {Fs:List (List Nat)}:(Fs.drop 1).flatten.Sublist Fs.flatten:=by
 cases Fs with
 | nil=>simp
 | cons F Fs=>simp only[List.drop_succ_cons,Zg,Y5];exact List.sublist_append_right _ _
theorem Sli.behind {El:Rel α}{R e q i k m:Nat} (hs:Sli false R e El h [.sl R (some (q,i)) m (some k)] l F) (h0:0<l.length) (hnd:F.Nodup) :
  (∀ {T:Type} (K:Pq->Nat->Nq->Option T),1<k->Ay (some (q,i)) m (some k) (some (Iv 1)) none none K=K (some (q,i+1)) (l.drop 1).length (some (k - 1))) /\
   ∃ F',Sli false R e El h [.sl R (some (q,i+1)) (l.drop 1).length (some (k - 1))] (l.drop 1) F'/\F'.Nodup/\∀ y∈F',y∈F:=by
 have hm:=hs.val;subst hm;obtain ⟨b',i',rs,Fs,ha,g1,g2,g3,g4,g5,rfl⟩:=hs.data h0;injection ha with ha;injection ha with e1 e2;subst e1;subst e2;obtain ⟨k1,k2⟩:=g3 k rfl;refine ⟨λK hk=>?_,q ::(Fs.drop 1).flatten,⟨R,some (q,i+1),some (k - 1),rfl,rfl,rs,Fs.drop 1,g1,by simp;omega,λk' hk=>?_,(λhc=>(by cases hc)),?_,rfl⟩,?_,λy hy=>?_⟩
 ·unfold Ay E8 Ic IX Nk;simp only[Aa,Z7];rw[DA ⟨by omega,by omega⟩];have:Nat.beq k (Int.toNat 1)=false:=by
   cases hb:Nat.beq k (Int.toNat 1) with
   | false=>rfl
   | true =>have:=YL hb;have e:Int.toNat 1=1:=rfl;omega
  rw[this,Au,ZL];rfl
 ·injection hk with hk;subst hk;simp only[ZL];omega
 ·have hd:=g5.drop 1;have:((rs.drop i).take l.length).drop 1=(rs.drop (i+1)).take (l.drop 1).length:=by rw[List.drop_take,ZT,ZL]
  rw[<- this];exact hd
 ·rw[Y2] at hnd ⊢;have hsub:(Fs.drop 1).flatten.Sublist Fs.flatten:=OE;exact ⟨λhm=>hnd.1 (hsub.mem hm),hnd.2.sublist hsub⟩
 ·have hsub:(Fs.drop 1).flatten.Sublist Fs.flatten:=OE;rw[YW] at hy ⊢;exact hy.imp id λhy=>hsub.mem hy
end


section
variable {lo:Nat}{h h':Heap}{F F':List Nat}{b n:Nat}
theorem Mv.thin {A F1 F2:List Nat}{h1:Heap} (m:Mv h A h1 (b :: F1)) (hn:F2.Nodup) (hs:∀ y∈F2,y∈F1):Mv h A h1 (b :: F2):=by have hn1:=m.nd;rw[Y2] at hn1;refine m.lean (Y2.2 ⟨λhm=>hn1.1 (hs b hm),hn⟩) λy hy=>?_;rw[YW] at hy ⊢;exact hy.imp id (hs y)
def JH:List Ver := [Qa,Qa,Qa,Qa]
theorem IJ:RVer false h [Iv 0,Iv 0,Iv 0,.sl 0 none 0 (some 0),.str ⟨⟨[]⟩⟩,.bool false] Qa []:=⟨_,rfl,Sli.nil⟩
theorem RZ:∃ h' q,Ae lo 95 [] h=some (.agg [.sl 6 (some (q,0)) 4 (some 4)],h')/\RVers false h' [.sl 6 (some (q,0)) 4 (some 4)] JH [q]/\Mv h [] h' [q]:=by
 refine ⟨_,h.length,P2 rfl,⟨6,some (h.length,0),some 4,rfl,rfl,[[Iv 0,Iv 0,Iv 0,.sl 0 none 0 (some 0),.str ⟨⟨[]⟩⟩,.bool false],[Iv 0,Iv 0,Iv 0,.sl 0 none 0 (some 0),.str ⟨⟨[]⟩⟩,.bool false],[Iv 0,Iv 0,Iv 0,.sl 0 none 0 (some 0),.str ⟨⟨[]⟩⟩,.bool false],[Iv 0,Iv 0,Iv 0,.sl 0 none 0 (some 0),.str ⟨⟨[]⟩⟩,.bool false]],[[],[],[],[]],by simp,by decide,λk hk=>?_,(λhc=>(by cases hc)),?_,rfl⟩,Mv.last⟩
 ·injection hk with hk;subst hk;exact ⟨by decide,by decide⟩
 ·exact ⟨IJ,IJ,IJ,IJ,trivial⟩
end


section
variable {lo:Nat}{h h':Heap}{F F':List Nat}{b n:Nat}
theorem Sli.first {α:Type}{El:Rel α}{R e m i:Nat}{a:Pq}{c:Nq}{l:List α} (hs:Sli false R e El h [.sl R a m c] l F) (hi:i<=l.length) (hnd:F.Nodup):∃ F2,Sli false R e El h [.sl R a i c] (l.take i) F2/\F2.Nodup/\∀ y∈F2,y∈F:=by
 have hm:=hs.val;subst hm;by_cases h0:l.length=0
 ·have:l = []:=YM h0;subst this;have:i=0:=by simpa using hi
  subst this;exact ⟨F,hs,hnd,λy hy=>hy⟩
 obtain ⟨b',i',rs,Fs,ha,g1,g2,g3,g4,g5,rfl⟩:=hs.data (k:=0) (by omega);have hs0:=hs;obtain ⟨R1,a1,c1,e1,_⟩:=hs;injection e1 with e1 _;injection e1 with e0 e2 _ e4;have hsub:(Fs.take i).flatten.Sublist Fs.flatten:=by
  conv=>{ rhs;rw[<- Zm i Fs,Y7] }
  exact List.sublist_append_left _ _
 rw[Y2] at hnd;refine ⟨b' ::(Fs.take i).flatten,⟨R,a,c,by simp;omega,?_⟩,Y2.2 ⟨λhm=>hnd.1 (hsub.mem hm),hnd.2.sublist hsub⟩,λy hy=>?_⟩
 ·subst ha;refine ⟨rfl,rs,Fs.take i,g1,by simp;omega,λk hk=>?_,g4,?_,rfl⟩
  ·have:=g3 k hk;simp only[Zr];omega
  ·have hd:=g5.take i;rw[List.take_take] at hd;have:min i l.length=(l.take i).length:=by simp
   rw[<- this];exact hd
 ·rw[YW] at hy ⊢;exact hy.imp id λhy=>hsub.mem hy
theorem Nj {m:Nat} (h1:1<=m) (h4:m<=4) (hl:lo<=h.length):∃ v h' F',Ae lo 80 [Iv (m:Nat)] h=some (.agg [v],h')/\RNodes false h' [v] (List.replicate m ⟨JH,[]⟩) F'/\Mv h [] h' F':=by
 obtain ⟨q,a',c',h',F',e,r,mm⟩:=Cq (El:=RNode false) rnode_ok (h:=h) (l:=List.replicate m ()) (f:=λ_=>(⟨JH,[]⟩:Node)) (lo:=lo) (R:=2) (e:=OM false) (bytes:=48) hl (by decide) (by rw[ZY];omega)
  (λi q a n c hh=>BL lo ((m:Nat):Int) ((i:Nat):Int) 0 none 0 (some 0) q a n c hh) (λi hi q a n c hh hm=>by
   rw[ZY] at hi;obtain ⟨h3,q3,e3,t3,m3⟩:=RZ (lo:=lo) (h:=hh);refine ⟨[.sl 6 (some (q3,0)) 4 (some 4),.sl 0 none 0 (some 0)],[q3],h3 ++ [.rows 2 (OM false) false [[.sl 6 (some (q3,0)) 4 (some 4),.sl 0 none 0 (some 0)]]],⟨_,_,[q3],[],rfl,rfl,Mv.snoc.keep0 rvers_ok t3,Sli.nil⟩,m3.trans (Mv.snoc' m3.nd),?_⟩;rw[BL.e,Aj (by omega),e3,Ac,A3,Ab,Ah,Ai,As (by omega)];exact Bv)
 rw[List.map_replicate] at r;rw[ZY] at e;refine ⟨_,h',F',Lb ?_,r,mm⟩;have hw:Af ((m:Nat):Int) 1 4=true:=by simp only[Af,Cz,decide_eq_true_eq];omega
 rw[A7,Ac,AC,hw,Ao];refine e.trans ?_;rw[BL.e,Ak (by omega),ZY]
end


section
variable {lo:Nat}{ro ro':Bool}{h:Heap}{F F':List Nat}{a a':Pq}{c c':Nq}
theorem Dc {p:List Tag} (hp:BE p=true):p.length=4:=by unfold BE at hp;rw[Cz,decide_eq_true_eq] at hp;exact hp.1
end


section
variable {lo:Nat}{h h':Heap}{w:World}{a1 a2 a3 a4 a:Pq}{c1 c2 c3 c4 c:Nq}{F1 F2 F3 F4:List Nat}
theorem RU {kind num key:Int}{text:ByteArray}{gone:Bool}{i:Nat} (H:WR lo h w a1 c1 a2 c2 a3 c3 a4 c4 F1 F2 F3 F4) (hg:Fits w) (hi:i<w.sess.length) :
  ∃ cs' h' F',Ae lo 82 [.agg (w.cs a1 c1 a2 c2 a3 c3 a4 c4),.agg [Iv kind,Iv (i:Nat),Iv num,Iv key,.str text,.bool gone]] h=some (.tup [.agg cs',.bool (Kd w i w.sess[i]).isSome],h') /\
   KT lo h' cs' ((Kd w i w.sess[i]).getD w) F'/\Mv h (F1++(F2++(F3++F4))) h' F'/\((Kd w i w.sess[i])=none->cs'=w.cs a1 c1 a2 c2 a3 c3 a4 c4):=by
 suffices hk:∃ cs' h' F',_=some (V.tup [.agg cs',.bool (Kd w i w.sess[i]).isSome],h')/\KT lo h' cs' ((Kd w i w.sess[i]).getD w) F'/\Mv h (F1++(F2++(F3++F4))) h' F'/\((Kd w i w.sess[i])=none->cs'=w.cs a1 c1 a2 c2 a3 c3 a4 c4) from by obtain ⟨cs',h',F',e,hr⟩:=hk;exact ⟨cs',h',F',PW e,hr⟩
 have hso:=hg.ok.sess _ (YJ hi);obtain ⟨t1,t2,t3,t4,t5,t6⟩:=B0 hso;have hp4:=Dc t2;have h80:=hg.ok.h80;obtain ⟨k,hpl⟩:∃ k:Nat,w.sess[i].place=(k:Int):=⟨w.sess[i].place.toNat,by omega⟩;obtain ⟨m,hkey⟩:∃ m:Nat,w.sess[i].key=(m:Int):=⟨w.sess[i].key.toNat,by omega⟩;have hk:k<w.places.length:=by have:=hg.ok.p3;omega
 obtain ⟨hpo,hme,hro⟩:=hg.at hk;have hn:=(Ew (CB hpo) (by decide) (by decide) (by decide)).1;have hco:=(AJ hpo).2.2.2.1;have hcl:=Et hpo;have hst:∀ x∈w.places[k].chain,BF x.store=true:=λx hx=>(Bw ((Dh hco).2 x hx)).1
 have h04:=Cl (hst _ (YJ hcl));have hm0:m<w.places[k].chain[0].store.length:=by omega
 obtain ⟨b',i',v,e1',d1',Gs,rfl,hld',_,_,es',hv',_,hGn,puts⟩:=H.sess hi;obtain ⟨b,j,s1,s2,s3,b1,d1,b2,d2,b3,d3,G1,G2,G3,rfl,_,hc2,_,e1,e2,e3,g1,g2,g3,nd,hF,put⟩:=H.place hk;obtain ⟨u,x5,y5,h1,G5,e5,hsh,r5,m5⟩:=Il (lo:=lo) (k:=0) (key:=m) g1 hcl hst (by omega) H.hl hn.1.1;rw[show ((0:Nat):Int)=0 from rfl] at e5;obtain ⟨o,z1,z2,p1,q1,p2,q2,H1,H2,rfl,_,ho1,_,ez1,_,gg1,_,_⟩:=(m5.keep0 rnodes_ok g1).get hcl;obtain ⟨o',_,_,_,_,rfl,_,_,_,_,_,_,ho12,_⟩:=gg1.all hm0;have hX:Kd w i w.sess[i]=bif decide (w.sess[i].wait.time>0) then
    (bif CG u.tag w.sess[i].wait then (bif CG w.places[k].chain[0].store[m].tag w.sess[i].wait then some (setS w i ⟨w.sess[i].place,w.sess[i].past,⟨0,0⟩,0⟩ []) else none)
    else (bif CR w 1 then some (setS w i ⟨w.sess[i].place,CI w.sess[i].past m w.sess[i].wait,⟨0,0⟩,0⟩ [⟨i,3,w.sess[i].key,w.sess[i].wait⟩]) else none)) else none:=by
  have hhd:(D2 w.places[k].chain)[m]?=some w.places[k].chain[0].store[m]:=by unfold D2;rw[CF hcl];exact CF hm0
  unfold Kd;rw[hpl,hkey,BA,BA,CF hk];simp only[hsh,hhd]
 generalize hXX:Kd w i w.sess[i]=X at hX;obtain ⟨Hq,mq⟩:=H.up0 m5.drop;simp only[Ver.cs] at e5;rw[Ad hi,Ag,BA,hld',Ag,Ab,Aa,Ab,es',Ab,Aa,Ab,Aa,Ab,Aa,Ai];by_cases hw:¬ w.sess[i].wait.time>0
 ·have:w.sess[i].wait.time=0:=by simp[Bu,Af] at t3;omega
  rw[this,Wp,Ao];exact H.stay (by rw[hX,decide_eq_false hw];rfl)
 have hw:w.sess[i].wait.time>0:=by omega
 rw[decide_eq_true hw,cond_true] at hX;rw[show (w.sess[i].wait.time==0)=false by rw[beq_eq_false_iff_ne];omega,Au,hpl,Ad hk,Ag,BA,hc2,Ag,Ab,e1,Ai,hkey,e5,Ac,A3,Ab,Aa,Ab,Aa,Ab,Aa,Ab,Ah,Ab,Dg,Ab,Bk,Ai,DZ ⟨by omega,by omega⟩,Ag,ho1,Ag,Ab,Ai,ez1,Ad hm0,Ag,BA,ho12,Ag,Ab,Aa,Ab,Aa,Ai,Bd,Ac,AC];cases hA:Bx u.tag.time u.tag.place w.sess[i].wait.time w.sess[i].wait.place with
 | true =>
  rw[show CG u.tag w.sess[i].wait=true from hA,cond_true] at hX;rw[Ao,Bd,Ac,AC];cases hB:Bx w.places[k].chain[0].store[m].tag.time w.places[k].chain[0].store[m].tag.place w.sess[i].wait.time w.sess[i].wait.place with
  | false =>rw[show CG w.places[k].chain[0].store[m].tag w.sess[i].wait=false from hB,cond_false] at hX;rw[Au];obtain ⟨cs',h',F',e,W,M,N⟩:=Hq.stay hX;exact ⟨cs',h',F',e,W,mq.trans M,N⟩
  | true =>rw[show CG w.places[k].chain[0].store[m].tag w.sess[i].wait=true from hB,cond_true] at hX;obtain ⟨h7,F7,e7,q7,m7⟩:=Hq.wait hi ⟨0,0⟩ 0;rw[Ao,Bd,Ac,AC,hA,Ao,Bd,Ac,AC,hA,Ao];simp only[] at e7;rw[e7,hX];refine ⟨_,h7,_,rfl,?_,mq.trans m7,λg=>by first | cases g | (simp at g)⟩;have W:=q7.at;simp only[World.cs,Zq] at W;simpa only [setS,ZP,ZI] using W
 | false =>
  rw[show CG u.tag w.sess[i].wait=false from hA,cond_false] at hX;rw[Au,Bd,Ac,AC,hA,Au];by_cases hh:(w.hist.length:Int)>=80
  ·rw[Aj hh];obtain ⟨cs',h',F',e,W,M,N⟩:=Hq.stay (X:=X) (by rw[hX,show CR w 1=false from decide_eq_false (by omega)];rfl);exact ⟨cs',h',F',e,W,mq.trans M,N⟩
  rw[show CR w 1=true from decide_eq_true (by omega),cond_true] at hX;obtain ⟨x6,y6,h6,F6,e6,r6,m6⟩:=Hn (lo:=lo) (k:=m) (t:=w.sess[i].wait) (m5.keep0 rtags_ok hv') (by omega) Hq.hl (by omega);obtain ⟨h7,F7,e7,q7,m7,_⟩:=Hq.past hi m6 r6;obtain ⟨a8,c8,h8,F8,e8,q8,m8,_⟩:=DJ (d:=⟨i,3,(m:Nat),w.sess[i].wait⟩) q7 (by show w.hist.length<=1000;omega);have hi8:i<(w.sess.set i ⟨w.sess[i].place,CI w.sess[i].past m w.sess[i].wait,w.sess[i].wait,w.sess[i].key⟩).length:=by simpa using hi
  obtain ⟨h9,F9,e9,q9,m9⟩:=q8.wait hi8 ⟨0,0⟩ 0;have W:=q9.at;simp only[World.cs,Zq] at e8 e9;simp only[World.cs,Zq,List.getElem_set_self,List.set_set] at W;rw[Ak hh,Bd,Ac,AC,hA,Au,e6,Ac,A3,Ab,Ah,Ai,e7,e8,Ac,A3,Ab,Ah,Ab,Ah,Ab,Ah,Ab,Ah,Ai,e9,hX];refine ⟨_,h9,_,rfl,?_,mq.trans ((m7.trans m8).trans m9),λg=>by first | cases g | (simp at g)⟩;simpa only [setS,ZP,hkey] using W
end


section
variable {lo:Nat}{h h':Heap}{w:World}{a1 a2 a3 a4 a:Pq}{c1 c2 c3 c4 c:Nq}{F1 F2 F3 F4:List Nat}
theorem Qk {kind num key:Int}{text:ByteArray}{gone:Bool}{i:Nat} (H:WR lo h w a1 c1 a2 c2 a3 c3 a4 c4 F1 F2 F3 F4) (hg:Fits w) (hi:i<w.sess.length) :
  ∃ cs' h' F',Ae lo 83 [.agg (w.cs a1 c1 a2 c2 a3 c3 a4 c4),.agg [Iv kind,Iv (i:Nat),Iv num,Iv key,.str text,.bool gone]] h=some (.tup [.agg cs',.bool (Ge w i w.sess[i] ⟨kind,(i:Nat),num,key,text,gone⟩).isSome],h') /\
   KT lo h' cs' ((Ge w i w.sess[i] ⟨kind,(i:Nat),num,key,text,gone⟩).getD w) F'/\Mv h (F1++(F2++(F3++F4))) h' F'/\((Ge w i w.sess[i] ⟨kind,(i:Nat),num,key,text,gone⟩)=none->cs'=w.cs a1 c1 a2 c2 a3 c3 a4 c4):=by
 suffices hk:∃ cs' h' F',_=some (V.tup [.agg cs',.bool (Ge w i w.sess[i] ⟨kind,(i:Nat),num,key,text,gone⟩).isSome],h')/\KT lo h' cs' ((Ge w i w.sess[i] ⟨kind,(i:Nat),num,key,text,gone⟩).getD w) F'/\Mv h (F1++(F2++(F3++F4))) h' F'/\((Ge w i w.sess[i] ⟨kind,(i:Nat),num,key,text,gone⟩)=none->cs'=w.cs a1 c1 a2 c2 a3 c3 a4 c4) from by obtain ⟨cs',h',F',e,hr⟩:=hk;exact ⟨cs',h',F',Nu e,hr⟩
 have hso:=hg.ok.sess _ (YJ hi);obtain ⟨t1,t2,t3,t4,t5,t6⟩:=B0 hso;have hp4:=Dc t2;have h80:=hg.ok.h80;obtain ⟨k,hpl⟩:∃ k:Nat,w.sess[i].place=(k:Int):=⟨w.sess[i].place.toNat,by omega⟩;have hk:k<w.places.length:=by have:=hg.ok.p3;omega
 obtain ⟨hpo,hme,hro⟩:=hg.at hk;have hn:=(Ew (CB hpo) (by decide) (by decide) (by decide)).1;have hn1:=hn.1.1;have hch:=chain_iff.1 (AJ hpo).2.2.2.1;have hst:∀ x∈w.places[k].chain,BF x.store=true:=λx hx=>(Bw ((Dh (AJ hpo).2.2.2.1).2 x hx)).1
 obtain ⟨b',i',v,e1',d1',Gs,rfl,hld',_,_,es',hv',_,hGn,puts⟩:=H.sess hi;obtain ⟨b,j,s1,s2,s3,b1,d1,b2,d2,b3,d3,G1,G2,G3,rfl,_,hc2,_,e1,e2,e3,g1,g2,g3,nd,hF,put⟩:=H.place hk;have hX:Ge w i w.sess[i] ⟨kind,(i:Nat),num,key,text,gone⟩=bif !decide (w.sess[i].wait.time>0)&&(Af key 0 3&&(Af num 0 ((w.places[k].chain.length:Int) - 1)&&CR w 1)) then
   (match Ho w.places[k].chain num.toNat key.toNat,w.sess[i].past[key.toNat]? with
   | some v,some t=>bif CG v.tag t then none else some (setS w i ⟨w.sess[i].place,QG w.sess[i] v key.toNat,w.sess[i].wait,w.sess[i].key⟩ [⟨i,2,key,v.tag⟩])
   | _,_=>none) else none:=by
  unfold Ge;rw[hpl,BA,CF hk]<;>rfl
 generalize hXX:Ge w i w.sess[i] ⟨kind,(i:Nat),num,key,text,gone⟩=X at hX;rw[Ad hi,Ag,BA,hld',Ag,Ab,Aa,Ab,es',Ab,Aa,Ab,Aa,Ab,Aa,Ai,hpl,Ad hk,Ag,BA,hc2,Ag,Ab,e1,Ai];by_cases hw:w.sess[i].wait.time>0
 ·rw[Aj hw];exact H.stay (by rw[hX,decide_eq_true hw];rfl)
 rw[decide_eq_false hw,Zo,YP] at hX;rw[Ak hw,A7,Ac,AC];cases hwk:Af key 0 3 with
 | false=>rw[Au];exact H.stay (by rw[hX,hwk];rfl)
 | true =>
 rw[hwk,YP] at hX;rw[Ao,wr (by omega) (by omega),A7,Ac,AC];cases hwn:Af num 0 ((w.places[k].chain.length:Int) - 1) with
 | false=>rw[Au];exact H.stay (by rw[hX,hwn];rfl)
 | true =>
 rw[hwn,YP] at hX;rw[Ao];by_cases hh:(w.hist.length:Int)>=80
 ·rw[Aj hh];exact H.stay (by rw[hX,show CR w 1=false from decide_eq_false (by omega)];rfl)
 rw[show CR w 1=true from decide_eq_true (by omega),cond_true] at hX;simp only[Af,Cz,decide_eq_true_eq] at hwk hwn;obtain ⟨m,rfl⟩:∃ m:Nat,key=(m:Int):=⟨key.toNat,by omega⟩;obtain ⟨n,rfl⟩:∃ n:Nat,num=(n:Int):=⟨num.toNat,by omega⟩;have hmp:m<w.sess[i].past.length:=by omega
 obtain ⟨u,x5,y5,h1,G5,e5,hsh,r5,m5⟩:=Il (lo:=lo) (k:=n) (key:=m) g1 (by omega) hst (by omega) H.hl hn1;obtain ⟨Hq,mq⟩:=H.up0 m5.drop;rw[BA,BA,hsh,CF hmp] at hX;simp only[] at hX;have hu4:BE u.past=true\/u.tag.time=0:=by
  have hql:Db w.places[k].chain n<w.places[k].chain.length:=by unfold Db;split<;>omega
  unfold Ho at hsh;rw[Dj hql] at hsh;rcases Dy (Gb (hst _ (YJ hql)) hsh) with g | g
  ·exact .inr (FY g).1
  ·exact .inl (BC g.1).2.2.2.1
 obtain ⟨o',ho',ho2⟩:=(m5.keep0 rtags_ok hv').get hmp;subst ho';simp only[Ver.cs] at e5;rw[Ak hh,e5,Ac,A3,Ab,Aa,Ab,Aa,Ab,Aa,Ab,Ah,Ab,Dg,Ab,Bk,Ai,Ad hmp,Ag,BA,ho2,Ag,Ab,Aa,Ab,Aa,Ai,Bd,Ac,AC];cases hA:Bx u.tag.time u.tag.place w.sess[i].past[m].time w.sess[i].past[m].place with
 | true =>rw[show CG u.tag w.sess[i].past[m]=true from hA,cond_true] at hX;rw[Ao];obtain ⟨cs',h',F',e,W,M,N⟩:=Hq.stay hX;exact ⟨cs',h',F',e,W,mq.trans M,N⟩
 | false =>
 rw[show CG u.tag w.sess[i].past[m]=false from hA,cond_false] at hX;rw[Au];unfold QG at hX;by_cases ht:u.tag.time>0
 ·rw[decide_eq_true ht,cond_true] at hX;have hu4':u.past.length=4:=Dc (hu4.resolve_right (by omega));obtain ⟨q6,x6,y6,h6,F6,e6,r6,m6⟩:=Qv (lo:=lo) (m5.keep0 rtags_ok hv') r5 hp4 hu4' Hq.hl;obtain ⟨x7,y7,es7,r7⟩:=r6.form;have hj:(Bs w.sess[i].past u.past).length=4:=by unfold Bs;rw[zag];omega
  obtain ⟨x8,y8,h8,F8,e8,r8,m8⟩:=Hn (lo:=lo) (k:=m) (t:=u.tag) r7 (by omega) (YD Hq.hl m6.le) (by omega);obtain ⟨h9,F9,e9,q9,m9,_⟩:=Hq.past hi (m6.drop.trans m8) r8;obtain ⟨x10,y10,h10,F10,e10,q10,m10,_⟩:=DJ (d:=⟨i,2,(m:Nat),u.tag⟩) q9 (by show w.hist.length<=1000;omega);have W:=q10.at;simp only[World.cs,Zq] at e10 W;rw[Aj ht,e6,Ac,A3,Ab,es7,Ai,e8,Ac,A3,Ab,Ah,Ai,e9,e10,Ac,A3,Ab,Ah,Ab,Ah,Ab,Ah,Ab,Ah,Ai,hX];exact ⟨_,h10,_,rfl,W,mq.trans (m9.trans m10),λg=>by first | cases g | (simp at g)⟩
 ·rw[decide_eq_false ht,cond_false] at hX;obtain ⟨x10,y10,h10,F10,e10,q10,m10,_⟩:=DJ (d:=⟨i,2,(m:Nat),u.tag⟩) Hq (by omega);have W:=q10.at;simp only[World.cs] at e10 W;have hse:w.sess.set i ⟨w.sess[i].place,w.sess[i].past,w.sess[i].wait,w.sess[i].key⟩=w.sess:=zab hi;rw[Ak ht,e10,Ac,A3,Ab,Ah,Ab,Ah,Ab,Ah,Ab,Ah,Ai,hX];refine ⟨_,h10,_,rfl,?_,mq.trans m10,λg=>by first | cases g | (simp at g)⟩;simpa only [setS,ZP,hse] using W
end


theorem Wz {a b:Tag} (h1:a.time=b.time) (h2:a.place=b.place):a=b:=by cases a;cases b;simp_all
theorem Ut {p q:List Tag}{m:Nat}{a b:Tag} (hu:BT p q=true) (ha:p[m]?=some a) (hb:q[m]?=some b):C1 a b=b:=by
 have:=under_iff.1 hu m a b ha hb;unfold C1 CG;rw[BP] at this;cases hl:Bx a.time a.place b.time b.place with
 | true=>rfl
 | false =>rw[BP] at hl;show a=b;exact Wz (by omega) (by omega)
theorem Na {p q:List Tag}{m:Nat} (hm:m<p.length) (hq:p.length=q.length) (hu:BT p q=true):CI (q.take m++p.drop m) m (q[m]'(by omega))=q.take (m+1)++p.drop (m+1):=by
 have h1:(q.take m).length=m:=by simp;omega
 have h2:m<(q.take m++p.drop m).length:=by simp;omega
 have h3:(q.take m++p.drop m)[m]=p[m]:=by rw[List.getElem_append_right (by omega)];simp[h1]
 rw[FZ h2,h3,Ut hu (CF hm) (CF (by omega)),List.set_append_right _ _ (by omega),h1,Nat.sub_self,List.take_succ_eq_append_getElem (by omega),YV,YN hm];rfl
theorem I0 {i:Nat}{l:List Tag}{m:Nat} (hm:m<l.length):(Cw i l).take (m+1)=(Cw i l).take m ++ [⟨i,2,(m:Nat),l[m]⟩]:=by
 have hl:(Cw i l).length=l.length:=by unfold Cw;simp
 rw[List.take_succ_eq_append_getElem (by omega)];congr 2;unfold Cw;rw[List.getElem_map,List.getElem_zipIdx];simp
section
variable {lo:Nat}{h h':Heap}{w:World}{a1 a2 a3 a4 a:Pq}{c1 c2 c3 c4 c:Nq}{F1 F2 F3 F4:List Nat}
theorem RV {kind num key:Int}{text:ByteArray}{gone:Bool}{i:Nat} (H:WR lo h w a1 c1 a2 c2 a3 c3 a4 c4 F1 F2 F3 F4) (hg:Fits w) (hi:i<w.sess.length) :
  ∃ cs' h' F',Ae lo 84 [.agg (w.cs a1 c1 a2 c2 a3 c3 a4 c4),.agg [Iv kind,Iv (i:Nat),Iv num,Iv key,.str text,.bool gone]] h=some (.tup [.agg cs',.bool (Jx w i w.sess[i]).isSome],h') /\
   KT lo h' cs' ((Jx w i w.sess[i]).getD w) F'/\Mv h (F1++(F2++(F3++F4))) h' F'/\((Jx w i w.sess[i])=none->cs'=w.cs a1 c1 a2 c2 a3 c3 a4 c4):=by
 suffices hk:∃ cs' h' F',_=some (V.tup [.agg cs',.bool (Jx w i w.sess[i]).isSome],h')/\KT lo h' cs' ((Jx w i w.sess[i]).getD w) F'/\Mv h (F1++(F2++(F3++F4))) h' F'/\((Jx w i w.sess[i])=none->cs'=w.cs a1 c1 a2 c2 a3 c3 a4 c4) from by obtain ⟨cs',h',F',e,hr⟩:=hk;exact ⟨cs',h',F',PX e,hr⟩
 have hso:=hg.ok.sess _ (YJ hi);obtain ⟨t1,t2,t3,t4,t5,t6⟩:=B0 hso;have hp4:=Dc t2;have h80:=hg.ok.h80;obtain ⟨k,hpl⟩:∃ k:Nat,w.sess[i].place=(k:Int):=⟨w.sess[i].place.toNat,by omega⟩;have hk:k<w.places.length:=by have:=hg.ok.p3;omega
 obtain ⟨hpo,hme,hro⟩:=hg.at hk;have hn:=(Ew (CB hpo) (by decide) (by decide) (by decide)).1;have hn1:=hn.1.1;have hch:=chain_iff.1 (AJ hpo).2.2.2.1;have hpos:=hch.pos;have hX:Jx w i w.sess[i]=bif !decide (w.sess[i].wait.time>0)&&(BT w.sess[i].past (Bq w.places[k].chain)&&CR w 4) then some (setS w i ⟨w.sess[i].place,Bq w.places[k].chain,w.sess[i].wait,w.sess[i].key⟩ (Cw i (Bq w.places[k].chain))) else none:=by unfold Jx;rw[hpl,BA,CF hk]
 obtain ⟨b',i',v,e1',d1',Gs,rfl,hld',_,_,es',hv',_,hGn,puts⟩:=H.sess hi;obtain ⟨b,j,s1,s2,s3,b1,d1,b2,d2,b3,d3,G1,G2,G3,rfl,_,hc2,_,e1,e2,e3,g1,g2,g3,nd,hF,put⟩:=H.place hk;have hlast:=Jb (l:=w.places[k].chain) (by omega);have hs4:=(hch.store (CF (show w.places[k].chain.length - 1<w.places[k].chain.length by omega))).2;obtain ⟨o,z1,z2,p1,q1,p2,q2,H1,H2,rfl,_,ho1,_,ez1,_,gg1,_,hH1,_⟩:=g1.get (show w.places[k].chain.length - 1<w.places[k].chain.length by omega);generalize hst:(w.places[k].chain[w.places[k].chain.length - 1]'(by omega)).store=store at hlast hs4 ez1 gg1;obtain ⟨tv,h1,T1,e5,r5,m5⟩:=Kv (lo:=h.length) gg1 (YH _) (by omega);obtain ⟨x5,y5,es5,r5⟩:=r5.form;obtain ⟨Hq,mq⟩:=H.up0 m5.drop;rw[hlast] at hX;have htl:(Bc store).length=4:=by unfold Bc;rw[zaf];exact hs4
 have loop:∀ (r m:Nat) (hh:Heap) (x1:Pq) (y1:Nq) (x2:Pq) (y2:Nq) (x3:Pq) (y3:Nq) (x4:Pq) (y4:Nq) (K1 K2 K3 K4:List Nat),m+r=4->BT w.sess[i].past (Bc store)=true->w.hist.length<=76 ->
   WR lo hh (setS w i ⟨w.sess[i].place,(Bc store).take m++w.sess[i].past.drop m,w.sess[i].wait,w.sess[i].key⟩ ((Cw i (Bc store)).take m)) x1 y1 x2 y2 x3 y3 x4 y4 K1 K2 K3 K4 ->
   RVers false hh [.sl 6 p1 store.length q1] store H1->(∀ y∈H1,y∈K1) ->
   ∃ cs' h' F',Cu lo (m:Nat) x1 w.places.length y1 x2 w.sess.length y2 x3 w.net.length y3 x4 (w.hist++(Cw i (Bc store)).take m).length y4 kind (i:Nat) num key text gone 0 none 0 (some 0) 0 none 0 (some 0) 0 none 0 (some 0) 0 none 0 (some 0) p1 store.length q1 hh=some (V.tup [.agg cs',.bool true],h') /\
    KT lo h' cs' (setS w i ⟨w.sess[i].place,Bc store,w.sess[i].wait,w.sess[i].key⟩ (Cw i (Bc store))) F'/\Mv hh (K1++(K2++(K3++K4))) h' F':=by
  intro r;induction r with
  | zero =>
   intro m hh x1 y1 x2 y2 x3 y3 x4 y4 K1 K2 K3 K4 hm hu hl Hm hv hK;have:m=4:=by omega
   subst this;have hrl:(Cw i (Bc store)).length=4:=by unfold Cw;simpa using htl
   have W:=Hm.at;rw[Zv (by omega),Y0 (by omega),ZI,Zv (by omega)] at W;refine ⟨_,hh,_,?_,W,Mv.refl Hm.nd⟩;rw[Cu.e,Ak (by omega),Zv (by omega)];simp only[World.cs,setS,Zq]
  | succ r ih =>
   intro m hh x1 y1 x2 y2 x3 y3 x4 y4 K1 K2 K3 K4 hm hu hl Hm hv hK;have him:i<(setS w i ⟨w.sess[i].place,(Bc store).take m++w.sess[i].past.drop m,w.sess[i].wait,w.sess[i].key⟩ ((Cw i (Bc store)).take m)).sess.length:=by simpa [setS] using hi
   obtain ⟨b0,i0,v0,e0,d0,G0,rfl,_,hld1,_,es0,hv0,_,_,_⟩:=Hm.sess him;have hss:(setS w i ⟨w.sess[i].place,(Bc store).take m++w.sess[i].past.drop m,w.sess[i].wait,w.sess[i].key⟩ ((Cw i (Bc store)).take m)).sess[i]=⟨w.sess[i].place,(Bc store).take m++w.sess[i].past.drop m,w.sess[i].wait,w.sess[i].key⟩:=by simp[setS]
   have hpl4:((Bc store).take m++w.sess[i].past.drop m).length=4:=by simp;omega
   have hms:m<store.length:=by omega
   obtain ⟨o',_,_,_,_,ho',_,_,_,_,_,_,ho12,_⟩:=hv.all hms;have htm:(Bc store)[m]'(by omega)=store[m].tag:=by unfold Bc;rw[List.getElem_map]
   rw[hss] at es0 hv0;have es0:∀ {R':Type} (K:Pq->Nat->Nq->Option R'),eS 2 v0 K=K e0 ((Bc store).take m++w.sess[i].past.drop m).length d0:=es0;have hv0:RTags false hh [.sl 2 e0 ((Bc store).take m++w.sess[i].past.drop m).length d0] ((Bc store).take m++w.sess[i].past.drop m) G0:=hv0;obtain ⟨x8,y8,h8,F8,e8,r8,m8⟩:=Hn (lo:=lo) (k:=m) (t:=store[m].tag) hv0 (by omega) Hm.hl (by omega);rw[<- htm,Na (by omega) (by omega) hu] at r8;obtain ⟨h9,F9,e9,q9,m9,s9⟩:=Hm.past him m8 r8;have hv9:=rvers_ok.fr _ _ _ _ _ hv λy hy=>s9 y (hK y hy);obtain ⟨o9,_,_,_,_,ho9,_,_,_,_,_,_,ho129,_⟩:=hv9.all hms;have:o'=o9:=by rw[ho'] at ho9;injection ho9
   subst this;have hrt:((Cw i (Bc store)).take m).length<=4:=by rw[Zr];omega
   obtain ⟨x10,y10,h10,F10,e10,q10,m10,s10⟩:=DJ (d:=⟨i,2,(m:Nat),store[m].tag⟩) q9 (by show (w.hist++_).length<=1000;rw[Y6];omega);have hv10:=rvers_ok.fr _ _ _ _ _ hv9 λy hy=>s10 y (hK y hy);simp only[setS,List.getElem_set_self,List.set_set,YV] at q10;rw[<- htm,<- I0 (by omega)] at q10;obtain ⟨cs',h',F',e,W,M⟩:=ih (m+1) h10 _ _ _ _ _ _ _ _ _ _ _ _ (by omega) hu hl q10 hv10 hK;refine ⟨cs',h',F',?_,W,(m9.trans m10).trans M⟩;simp only[World.cs,setS,Zq] at e9 e10;rw[hpl4] at es0 e8 e9;have hw8:(CI ((Bc store).take m++w.sess[i].past.drop m) m store[m].tag).length=4:=by rw[NW];exact hpl4
   rw[Cu.e,Aj (by omega),Ad hi,Ag,BA,hld1,Ag,Ab,es0,Ai,Ad hms,ho',Ag,BA,ho12,Ag,Ab,Aa,Ab,Aa,Ai,e8,Ac,A3,Ab,Ah,Ai,e9,Ad hms,Ag,ho129,Ag,Ab,Aa,Ab,Aa,Ai,e10,Ac,A3,Ab,Ah,Ab,Ah,Ab,Ah,Ab,Ah,Ai,As (by omega),<- ho'];rw[YV,<- htm,<- I0 (by omega)];exact e
 rw[Ad hi,Ag,BA,hld',Ag,Ab,Aa,Ab,es',Ab,Aa,Ab,Aa,Ab,Aa,Ai,hpl,Ad hk,Ag,BA,hc2,Ag,Ab,e1,Ai,wr (by omega) (by omega),DZ ⟨by omega,by omega⟩,Ag,show ((w.places[k].chain.length:Int) - 1).toNat=w.places[k].chain.length - 1 by omega,ho1,Ag,Ab,ez1,Ai];by_cases hw:w.sess[i].wait.time>0
 ·rw[Aj hw];exact H.stay (by rw[hX,decide_eq_true hw];rfl)
 rw[decide_eq_false hw,Zo,YP] at hX;rw[Ak hw,e5,Ac,A3,Ab,es5,Ai,FW (m5.keep0 rtags_ok hv') r5 hp4 htl,Ac,AC];cases hu:BT w.sess[i].past (Bc store) with
 | false =>rw[Au];obtain ⟨cs',h',F',e,W,M,N⟩:=Hq.stay (X:=Jx w i w.sess[i]) (by rw[hX,hu];rfl);exact ⟨cs',h',F',e,W,mq.trans M,N⟩
 | true =>
 rw[hu,YP] at hX;rw[Ao,wr (by omega) (by omega)];by_cases hh:(w.hist.length:Int)+4>80
 ·rw[Aj hh];obtain ⟨cs',h',F',e,W,M,N⟩:=Hq.stay (X:=Jx w i w.sess[i]) (by rw[hX,show CR w 4=false from decide_eq_false (by omega)];rfl);exact ⟨cs',h',F',e,W,mq.trans M,N⟩
 rw[show CR w 4=true from decide_eq_true (by omega),cond_true] at hX;have h0:setS w i ⟨w.sess[i].place,(Bc store).take 0++w.sess[i].past.drop 0,w.sess[i].wait,w.sess[i].key⟩ ((Cw i (Bc store)).take 0)=w:=by have hse:w.sess.set i ⟨w.sess[i].place,w.sess[i].past,w.sess[i].wait,w.sess[i].key⟩=w.sess:=zab hi;simp only[setS,Z1,Y9,Zg,ZI,hse]
 have hH1:∀ y∈H1,y∈F1:=λy hy=>(hF y (Y8 _ (hH1 y hy))).2.2
 obtain ⟨cs',h',F',e,W,M⟩:=loop 4 0 h1 _ _ _ _ _ _ _ _ _ _ _ _ (by omega) hu (by omega) (by rw[h0];exact Hq) (m5.keep0 rvers_ok gg1) hH1;simp only[Z1,ZI] at e;rw[Ak hh,hX];exact ⟨cs',h',F',e,W,mq.trans M,λg=>by first | cases g | (simp at g)⟩
theorem Ko {F:List Nat}{cs:List V}{X:Option World}{t:Ov} (ht:∃ cs' h' F',t=some (.tup [.agg cs',.bool X.isSome],h')/\KT lo h' cs' (X.getD w) F'/\Mv h F h' F'/\(X=none->cs'=cs)) :
  ∃ cs' h' F',(Al t λv_2 h_3=>eU v_2 λc_4=>eC c_4 λv_5 l_6=>eA v_5 λc_7=>eC c_7 λv_8 l_9=>eS 6 (v_8) λa_10 n_11 c_12=>eC l_9 λv_13 l_14=>eS 5 (v_13) λa_15 n_16 c_17=>eC l_14 λv_18 l_19=>eS 9 (v_18) λa_20 n_21 c_22=>eC l_19 λv_23 l_24=>eS 5 (v_23) λa_25 n_26 c_27=>eN l_24 (eC l_6 λv_28 l_29=>eB v_28 (eN l_29 (some (V.tup [.agg [.sl 6 a_10 n_11 c_12,.sl 5 a_15 n_16 c_17,.sl 9 a_20 n_21 c_22,.sl 5 a_25 n_26 c_27],.bool true],h_3))) (eN l_29 (some (V.tup [.agg [.sl 6 a_10 n_11 c_12,.sl 5 a_15 n_16 c_17,.sl 9 a_20 n_21 c_22,.sl 5 a_25 n_26 c_27],.bool false],h_3)))))=some (.tup [.agg cs',.bool X.isSome],h')/\KT lo h' cs' (X.getD w) F'/\Mv h F h' F'/\(X=none->cs'=cs):=by
 obtain ⟨cs',h',F',rfl,W,M,N⟩:=ht;refine ⟨cs',h',F',?_,W,M,N⟩;obtain ⟨x1,y1,x2,y2,x3,y3,x4,y4,K1,K2,K3,K4,rfl,_,_⟩:=W;rw[Ac,Np,Ab,A3,Ab,Ah,Ab,Ah,Ab,Ah,Ab,Ah,Ai,Ab,AC];cases X.isSome
 ·rw[Au,Ai]
 ·rw[Ao,Ai]
theorem Nf {e:Event} (H:WR lo h w a1 c1 a2 c2 a3 c3 a4 c4 F1 F2 F3 F4) (hg:Fits w) (ht:e.text.size<=1048576) :
  ∃ cs' h' F',Ae lo 72 [.agg (w.cs a1 c1 a2 c2 a3 c3 a4 c4),.agg e.cs] h=some (.tup [.agg cs',.bool (D6 w e).isSome],h')/\KT lo h' cs' ((D6 w e).getD w) F'/\Mv h (F1++(F2++(F3++F4))) h' F'/\((D6 w e)=none->cs'=w.cs a1 c1 a2 c2 a3 c3 a4 c4):=by
 obtain ⟨kind,at',num,key,text,gone⟩:=e;suffices hk:∃ cs' h' F',_=some (V.tup [.agg cs',.bool (D6 w ⟨kind,at',num,key,text,gone⟩).isSome],h')/\KT lo h' cs' ((D6 w ⟨kind,at',num,key,text,gone⟩).getD w) F'/\Mv h (F1++(F2++(F3++F4))) h' F'/\((D6 w ⟨kind,at',num,key,text,gone⟩)=none->cs'=w.cs a1 c1 a2 c2 a3 c3 a4 c4) from by obtain ⟨cs',h',F',e,hr⟩:=hk;exact ⟨cs',h',F',KU e,hr⟩
 have hs4:=hg.ok.s4;unfold D6;rw[wr (by omega) (by omega),A7,Ac,AC];cases hat:Af at' 0 ((w.sess.length:Int) - 1) with
 | false=>rw[Au];exact H.stay rfl
 | true =>
 simp only[Af,Cz,decide_eq_true_eq] at hat;obtain ⟨i,rfl⟩:∃ i:Nat,at'=(i:Int):=⟨at'.toNat,by omega⟩;have hi:i<w.sess.length:=by omega
 rw[Ao,cond_true,BA,CF hi];simp only[];cases h1:kind==1 with
 | true=>rw[Ao,cond_true];exact Ko (OW H hg ht hi)
 | false =>
 rw[Au,cond_false];cases h2:kind==2 with
 | true=>rw[Ao,cond_true];exact Ko (RU H hg hi)
 | false =>
 rw[Au,cond_false];cases h3:kind==3 with
 | true=>rw[Ao,cond_true];exact Ko (Qk H hg hi)
 | false =>
 rw[Au,cond_false];cases h4:kind==4 with
 | true=>rw[Ao,cond_true];exact Ko (RV H hg hi)
 | false =>
 rw[Au,cond_false];obtain ⟨b',i',v,e1',d1',Gs,rfl,_,_,hld2,es',hv',hv,hGn,puts⟩:=H.sess hi;rw[Ad hi,Ag,hld2,Ag,Ab,Ai,Aa];unfold QQ;by_cases hw:w.sess[i].wait.time>0
 ·rw[Aj hw];exact H.stay (by rw[decide_eq_true hw];rfl)
 rw[Ak hw,decide_eq_false hw,Zo,YP,A7,Ac,AC];cases hwn:Af num 0 2 with
 | false=>rw[Au];exact H.stay rfl
 | true =>
 obtain ⟨h2',F5,e2,q2,m2,_⟩:=puts h Gs 0 [Iv num] [Iv num,v,Iv w.sess[i].wait.time,Iv w.sess[i].wait.place,Iv w.sess[i].key] ⟨num,w.sess[i].past,w.sess[i].wait,w.sess[i].key⟩ (Mv.refl hGn) rfl ⟨v,rfl,hv⟩;have W:=q2.at;simp only[World.cs,Zq] at W;rw[Ao,Ad hi,Ag,e2,Ag,cond_true];refine ⟨_,h2',_,rfl,?_,m2,λg=>by first | cases g | (simp at g)⟩;simpa only [setS,ZP,ZI] using W
theorem N0 {e:Event} (H:WR lo h w a1 c1 a2 c2 a3 c3 a4 c4 F1 F2 F3 F4) (hg:Fits w) (ht:e.text.size<=1048576) :
  ∃ cs' h' F',Ae lo 63 [.agg (w.cs a1 c1 a2 c2 a3 c3 a4 c4),.agg e.cs] h=some (.tup [.agg cs',.bool (EB w e).isSome],h')/\KT lo h' cs' (ON w e) F'/\Mv h (F1++(F2++(F3++F4))) h' F'/\((EB w e)=none->cs'=w.cs a1 c1 a2 c2 a3 c3 a4 c4):=by
 have hc:=Nf H hg ht;have hp:=OX (e:=e) H hg;have hn:=RT (e:=e) H hg;obtain ⟨kind,at',num,key,text,gone⟩:=e;unfold ON;suffices hk:∃ cs' h' F',_=some (V.tup [.agg cs',.bool (EB w ⟨kind,at',num,key,text,gone⟩).isSome],h')/\KT lo h' cs' ((EB w ⟨kind,at',num,key,text,gone⟩).getD w) F'/\Mv h (F1++(F2++(F3++F4))) h' F'/\((EB w ⟨kind,at',num,key,text,gone⟩)=none->cs'=w.cs a1 c1 a2 c2 a3 c3 a4 c4) from by obtain ⟨cs',h',F',e,hr⟩:=hk;exact ⟨cs',h',F',RI e,hr⟩
 rw[A7,Ac,AC];unfold EB;cases h1:Af kind 1 5 with
 | true=>rw[Ao,cond_true];exact Ko hc
 | false =>
 rw[Au,cond_false,A7,Ac,AC];cases h2:Af kind 6 9 with
 | true=>rw[Ao,cond_true];exact Ko hp
 | false =>
 rw[Au,cond_false,A7,Ac,AC];unfold QO at hn;cases h3:kind==10 with
 | true =>
  have h4:Af kind 10 13=true:=by rw[beq_iff_eq] at h3;subst h3;rfl
  simp only[h3,cond_true] at hn;rw[h4,Ao,cond_true];exact Ko hn
 | false =>
  simp only[h3,cond_false] at hn;rw[cond_false];cases h4:Af kind 11 13 with
  | true =>
   have h5:Af kind 10 13=true:=by simp[Af] at h4 ⊢;omega
   rw[h5,Ao,cond_true];exact Ko hn
  | false =>
   have h5:Af kind 10 13=false:=by rw[beq_eq_false_iff_ne] at h3;simp[Af] at h4 ⊢;omega
   rw[h5,Au];exact H.stay rfl
end


def L2 (m:Nat) (n:Nat):Place:=⟨(m:Int),0,List.replicate n ⟨JH,[]⟩,[],[[],[],[]],false⟩
def XL (i:Nat):Sess:=⟨((i % 3:Nat):Int),Hc,⟨0,0⟩,0⟩
def GM (n s:Nat):World:=⟨(List.range 3).map λi=>L2 i n,(List.range s).map XL,[],[]⟩
theorem WU {m n:Nat} (h1:1<=n) (h4:n<=4) (hm:m<=2):Ar (L2 m n)=true:=by
 have hc:∀ n:Fin 5,1<=n.val->∀ m:Fin 3,Ar (L2 m.val n.val)=true:=by decide +kernel
 exact hc ⟨n,by omega⟩ h1 ⟨m,by omega⟩
theorem Us {m n:Nat} (h1:1<=n) (h4:n<=4) (hm:m<=2):Roomy (L2 m n):=by
 have hz:∀ v,inCh (L2 m n).chain v->v.tag.time=0:=λv ⟨x,hx,hv⟩=>by
  have hx:=(List.mem_replicate.1 hx).2;subst hx;rcases hv with hv | hv
  ·have:∀ v∈JH,v.tag.time=0:=by simp[JH,Qa]
   exact this v hv
  ·simp at hv
 refine ⟨⟨[],by simp,by simp[L2],λv hv ht=>by have:=hz v hv;omega⟩,λv hv ht=>?_⟩;have hpos:0<(L2 m n).chain.length:=by show 0<(List.replicate _ _).length;rw[ZY];omega
 have hl:=En hpos;rw[hl] at hv;have:=hz v ⟨_,YJ (by omega),.inl hv⟩;omega
theorem WT {i:Nat}:DR (XL i)=true:=by
 have hc:∀ m:Fin 3,DR ⟨((m.val:Nat):Int),Hc,⟨0,0⟩,0⟩=true:=by decide +kernel
 exact hc ⟨i % 3,Nat.mod_lt _ (by decide)⟩
theorem JS {n s:Nat} (h1:1<=n) (h4:n<=4) (hs:s<=4):Good (GM n s):=by
 have hp:∀ (i:Nat) (p:Place),(GM n s).places[i]?=some p->i<3/\p=L2 i n:=λi p hp=>by simp only[GM,ZZ,Zd] at hp;obtain ⟨j,hj,rfl⟩:=hp;obtain ⟨hi,rfl⟩:=DB hj;rw[List.length_range] at hi;exact ⟨hi,by rw[List.getElem_range]⟩
 refine ⟨⟨by simp[GM],by simp[GM,hs],by simp[GM],by simp[GM],λi p h=>?_,λx hx=>?_,by simp[GM],by simp[GM],λi p k g h hg=>?_⟩,λp h=>?_⟩
 ·obtain ⟨hi,rfl⟩:=hp i p h;exact ⟨rfl,WU h1 h4 (by omega)⟩
 ·simp only[GM,zaj] at hx;obtain ⟨i,_,rfl⟩:=hx;exact WT
 ·obtain ⟨hi,rfl⟩:=hp i p h;refine ⟨ED (GM n s).places k,?_⟩;have:g = []:=by
   have:(L2 i n).got=List.replicate 3 []:=rfl;rw[this,List.getElem?_replicate] at hg;split at hg
   ·injection hg with hg;exact hg.symm
   ·cases hg
  rw[this];rfl
 ·obtain ⟨i,hi⟩:=YX.1 h;obtain ⟨h3,rfl⟩:=hp i p hi;exact Us h1 h4 (by omega)
section
variable {lo:Nat}{h h':Heap}{w:World}{a1 a2 a3 a4 a:Pq}{c1 c2 c3 c4 c:Nq}{F F' F1 F2 F3 F4:List Nat}
theorem WR.of {cs:List V} (hw:PT false h cs w F) (hnd:F.Nodup) (hge:∀ y∈F,lo<=y) (hl:lo<=h.length):∃ s1 s2 s3 s4 a1 c1 a2 c2 a3 c3 a4 c4 F1 F2 F3 F4,cs = [s1,s2,s3,s4]/\F=F1++(F2++(F3++F4)) /\
  (∀ {T:Type} (K:Pq->Nat->Nq->Option T),eS 6 s1 K=K a1 w.places.length c1)/\(∀ {T:Type} (K:Pq->Nat->Nq->Option T),eS 5 s2 K=K a2 w.sess.length c2) /\
  (∀ {T:Type} (K:Pq->Nat->Nq->Option T),eS 9 s3 K=K a3 w.net.length c3)/\(∀ {T:Type} (K:Pq->Nat->Nq->Option T),eS 5 s4 K=K a4 w.hist.length c4)/\WR lo h w a1 c1 a2 c2 a3 c3 a4 c4 F1 F2 F3 F4:=by
 obtain ⟨s1,s2,s3,s4,F1,F2,F3,F4,rfl,rfl,r1,r2,r3,r4⟩:=hw;obtain ⟨a1,c1,e1,r1⟩:=r1.form;obtain ⟨a2,c2,e2,r2⟩:=r2.form;obtain ⟨a3,c3,e3,r3⟩:=r3.form;obtain ⟨a4,c4,e4,r4⟩:=r4.form;exact ⟨s1,s2,s3,s4,a1,c1,a2,c2,a3,c3,a4,c4,F1,F2,F3,F4,rfl,rfl,e1,e2,e3,e4,r1,r2,r3,r4,hnd,hge,hl⟩
theorem RW {m n:Nat} (h1:1<=n) (h4:n<=4) :
  ∃ raw b1 d1 b3 d3 h' F',Ae lo 70 [Iv (m:Nat),Iv (n:Nat)] h=some (.agg raw,h')/\raw = [Iv (m:Nat),Iv 0,.sl 2 b1 n d1,.sl 0 none 0 (some 0),.sl 1 b3 3 d3,.bool false] /\
   RPlace false h' [Iv (m:Nat),Iv 0,.sl 2 b1 n d1,.sl 6 none 0 (some 0),.sl 1 b3 3 d3,.bool false] (L2 m n) F'/\Mv h [] h' F':=by
 obtain ⟨v,h2,F2,e2,r2,m2⟩:=Nj (lo:=h.length) (h:=h) h1 h4 (YH _);obtain ⟨b1,d1,es,r2⟩:=r2.form;rw[ZY] at es r2;have mx:Mv h2 [] (h2 ++ [.rows 1 97 false [[.sl 0 none 0 (some 0)],[.sl 0 none 0 (some 0)],[.sl 0 none 0 (some 0)]]]) [h2.length]:=Mv.last;have m3:=m2.join mx (rnodes_ok.bd _ _ _ _ r2);refine ⟨_,b1,d1,some (h2.length,0),some 3,_,F2 ++ [h2.length],PY ?_,rfl,⟨_,_,_,F2,[],[h2.length],rfl,rfl,mx.keep0 rnodes_ok r2,Sli.nil,?_⟩,m3⟩
 ·rw[e2,Ac,A3,Ab,es,Ai]
 ·refine ⟨1,some (h2.length,0),some 3,rfl,rfl,[[.sl 0 none 0 (some 0)],[.sl 0 none 0 (some 0)],[.sl 0 none 0 (some 0)]],[[],[],[]],by simp,YH 3,λk hk=>by injection hk with hk;subst hk;exact ⟨YH 3,YH 3⟩,(λhk=>by cases hk),?_,rfl⟩;exact ⟨Sli.nil,Sli.nil,Sli.nil,trivial⟩
end


section
variable {lo:Nat}{h h':Heap}{w:World}{a1 a2 a3 a4 a:Pq}{c1 c2 c3 c4 c:Nq}{F F' F1 F2 F3 F4:List Nat}
theorem W6 {T:Type} (K:Pq->Nat->Nq->Option T):eS 6 (.sl 0 none 0 (some 0)) K=K none 0 (some 0):=rfl
theorem LK {n s:Nat} (h1:1<=n) (h4:n<=4) (hs:s<=1000) (hl:lo<=h.length):∃ cs h' F',Ae lo 62 [Iv (n:Nat),Iv (s:Nat)] h=some (.agg cs,h')/\PT false h' cs (GM n s) F'/\Mv h [] h' F':=by
 obtain ⟨q1,x1,y1,h1',F1,e1,r1,m1⟩:=Cq (El:=RPlace false) rplace_ok (h:=h) (l:=List.range 3) (f:=λi=>L2 i n) (lo:=lo) (R:=6) (e:=100) (bytes:=96) hl (by decide) (by decide)
  (λi q a n1 c hh=>Ct lo (n:Nat) (s:Nat) (i:Nat) 0 none 0 (some 0) 0 none 0 (some 0) 0 none 0 (some 0) 0 none 0 (some 0) q a n1 c 0 none 0 (some 0) 0 none 0 (some 0) 0 none 0 (some 0) hh) (λi hi q a n1 c hh hm=>by
   rw[List.length_range] at hi;obtain ⟨raw,b1,d1,b3,d3,h2,F2,e2,rfl,r2,m2⟩:=RW (lo:=lo) (h:=hh) (m:=i) h1 h4;refine ⟨[Iv (i:Nat),Iv 0,.sl 2 b1 n d1,.sl 6 none 0 (some 0),.sl 1 b3 3 d3,.bool false],F2,h2 ++ [.rows 6 100 false [[Iv (i:Nat),Iv 0,.sl 2 b1 n d1,.sl 6 none 0 (some 0),.sl 1 b3 3 d3,.bool false]]],by rw[List.getElem_range];exact Mv.snoc.keep0 rplace_ok r2,m2.trans (Mv.snoc' m2.nd),?_⟩;rw[Ct.e,Aj (by omega),e2,Ac,A3,Ab,Aa,Ab,Aa,Ab,Ah,Ab,W6,Ab,Ah,Ab,Bk,Ai,Bv,As (by omega)])
 obtain ⟨q2,x2,y2,h2',F2,e2,r2,m2⟩:=Cq (El:=RSess false) Gd (h:=h1') (l:=List.range s) (f:=XL) (lo:=lo) (R:=5) (e:=103) (bytes:=56) (YD hl m1.le) (by decide) (by rw[List.length_range];omega)
  (λi q a n1 c hh=>Cs lo (s:Nat) (i:Nat) 0 none 0 (some 0) 0 none 0 (some 0) 0 none 0 (some 0) 0 none 0 (some 0) q1 x1 3 y1 q a n1 c 0 none 0 (some 0) 0 none 0 (some 0) hh) (λi hi q a n1 c hh hm=>by
   rw[List.length_range] at hi;obtain ⟨h2,q3,e3,t3,m3⟩:=Qu (lo:=lo) (h:=hh);have ht:((i:Int).tmod 3)=((i % 3:Nat):Int):=(Int.ofNat_tmod i 3).symm;refine ⟨[Iv ((i % 3:Nat):Int),.sl 2 (some (q3,0)) 4 (some 4),Iv 0,Iv 0,Iv 0],[q3],h2 ++ [.rows 5 103 false [[Iv ((i % 3:Nat):Int),.sl 2 (some (q3,0)) 4 (some 4),Iv 0,Iv 0,Iv 0]]],by rw[List.getElem_range];exact ⟨_,rfl,Mv.snoc.keep0 rtags_ok t3⟩,m3.trans (Mv.snoc' m3.nd),?_⟩;rw[Cs.e,Aj (by omega),e3,Ac,A3,Ab,Ah,Ai,ht,Bv,As (by omega)])
 rw[List.length_range] at e1 r1 e2 r2;have m3:=m1.join m2 ((Sli.ok rplace_ok).bd _ _ _ _ r1);refine ⟨[.sl q1 x1 3 y1,.sl q2 x2 s y2,.sl 0 none 0 (some 0),.sl 0 none 0 (some 0)],h2',F1++(F2++([] ++ [])),PU ?_,⟨_,_,_,_,F1,F2,[],[],rfl,rfl,m2.keep0 rplaces_ok r1,r2,Sli.nil,Sli.nil⟩,by simpa using m3⟩;refine e1.trans ?_;rw[Ct.e,Ak (by omega)];refine e2.trans ?_;rw[Cs.e,Ak (by omega)]
theorem SX {l:List Done} (hl:lo<=h.length) (hn:l.length<=1048576):∃ a' c' h' F',(∀ {T:Type} (K:V->Heap->Option T),CJ lo 31 5 40 (.sl 5 (some (h.length,0)) 0 (some 0)) (l.map Done.cs) (h ++ [.rows 5 31 false []]) K=K (.sl 5 a' l.length c') h') /\
  RDones false h' [.sl 5 a' l.length c'] l F'/\Mv h [] h' F':=by
 have hfl:(l.map λ_=>([]:List Nat)).flatten = []:=by simp
 obtain ⟨a',c',h',F',e,r,l1,fr,sub,nd⟩:=GT (h:=h) (lo:=lo) (El:=flat Done.cs) (R:=5) (e:=31) (bytes:=40) Cj (rows:=l.map Done.cs) (l:=l) (Fs:=l.map λ_ => []) EAll.flat (by rw[hfl];simp) (by rw[hfl];simp) (by decide) (by omega) hl;refine ⟨a',c',h',F',e,r,by omega,λy hy _=>fr y hy,nd,λy hy=>?_⟩;rcases sub y hy with g | g
 ·rw[hfl] at g;simp at g
 ·exact .inr g
theorem Qm (r1:RPlaces false h [.sl 6 a1 w.places.length c1] w.places F1) (r2:RSesss false h [.sl 5 a2 w.sess.length c2] w.sess F2) (r3:RFrames false h [.sl 9 a3 w.net.length c3] w.net F3) (r4:RDones false h [.sl 5 a4 w.hist.length c4] w.hist F4) (hn:Td w) (hl:lo<=h.length) :
  ∃ cs h' F',Ae lo 47 [.agg (w.cs a1 c1 a2 c2 a3 c3 a4 c4)] h=some (.agg cs,h')/\PT false h' cs w F'/\Mv h [] h' F':=by
 obtain ⟨⟨n1,n1'⟩,⟨n2,n2'⟩,⟨n3,n3'⟩,n4⟩:=hn;obtain ⟨x4,y4,h4,K4,e4,t4,m4⟩:=SX (lo:=lo) (h:=h) (l:=w.hist) hl n4;obtain ⟨q1,x1,y1,h5,K1,e1,t1,m1⟩:=Cq (El:=RPlace false) rplace_ok (h:=h4) (l:=w.places) (f:=id) (lo:=lo) (R:=6) (e:=100) (bytes:=96) (YD hl m4.le) (by decide) (by omega)
  (λi q a n c hh=>B7 lo (i:Nat) a1 w.places.length c1 a2 w.sess.length c2 a3 w.net.length c3 a4 w.hist.length c4 0 none 0 (some 0) 0 none 0 (some 0) 0 none 0 (some 0) 0 none 0 (some 0) q a n c 0 none 0 (some 0) 0 none 0 (some 0) x4 w.hist.length y4 hh) (λi hi q a n c hh hm=>by
   obtain ⟨o,s1,s2,s3,b1,d1,b2,d2,b3,d3,H1,H2,H3,ha,ho,_,_,_,_,es1,es2,es3,p1,p2,p3,_⟩:=((m4.drop.trans hm).keep0 rplaces_ok r1).get hi;obtain ⟨raw,z1,t1,z2,t2,z3,t3,h6,K6,e6,n6,r6,m6⟩:=OZ (lo:=lo) p1 p2 p3 (YD (YD hl m4.le) hm.le) (n1' _ (YJ hi));obtain ⟨v1,v2,v3,_,_,_,_,_,_,rfl,k1,k2,k3,eq⟩:=n6;obtain ⟨rfl,rfl,rfl,rfl,rfl,rfl⟩:=XX eq;refine ⟨w.places[i].cs z1 t1 z2 t2 z3 t3,K6,h6 ++ [.rows 6 100 false [w.places[i].cs z1 t1 z2 t2 z3 t3]],Mv.snoc.keep0 rplace_ok r6,m6.trans (Mv.snoc' m6.nd),?_⟩;simp only[Place.cs] at e6;rw[B7.e,Aj (by omega),Ad hi,ha,Ag,BA,ho,Ag,Ab,Aa,Ab,Aa,Ab,es1,Ab,es2,Ab,es3,Ab,Bk,Ai,e6,Ac,A3,Ab,Aa,Ab,Aa,Ab,k1,Ab,k2,Ab,k3,Ab,Bk,Ai,Bv,As (by omega),<- ha])
 have l5:=YD (YD hl m4.le) m1.le;have m41:=m4.drop.trans m1.drop;obtain ⟨q2,x2,y2,h6,K2,e2,t2,m2⟩:=Cq (El:=RSess false) Gd (h:=h5) (l:=w.sess) (f:=id) (lo:=lo) (R:=5) (e:=103) (bytes:=56) l5 (by decide) (by omega)
  (λi q a n c hh=>B6 lo (i:Nat) a1 w.places.length c1 a2 w.sess.length c2 a3 w.net.length c3 a4 w.hist.length c4 0 none 0 (some 0) 0 none 0 (some 0) 0 none 0 (some 0) 0 none 0 (some 0) q1 x1 w.places.length y1 q a n c 0 none 0 (some 0) x4 w.hist.length y4 hh) (λi hi q a n c hh hm=>by
   obtain ⟨o,v,b1,d1,G,ha,ho,_,_,es,hp,_⟩:=((m41.trans hm).keep0 rsesss_ok r2).get hi;obtain ⟨z1,t1,h7,K7,e7,r7,m7⟩:=Gp (lo:=lo) (h:=hh) (l:=w.sess[i].past) (YD l5 hm.le) (n2' _ (YJ hi));refine ⟨w.sess[i].cs z1 t1,K7,h7 ++ [.rows 5 103 false [w.sess[i].cs z1 t1]],⟨_,rfl,Mv.snoc.keep0 rtags_ok r7⟩,m7.trans (Mv.snoc' m7.nd),?_⟩;rw[B6.e,Aj (by omega),Ad hi,ha,Ag,BA,ho,Ag,Ab,Aa,Ab,es,Ab,Aa,Ab,Aa,Ab,Aa,Ai,RTags.rows (Mv.snoc.keep0 rtags_ok hp),e7,Ah,Bv,As (by omega),<- ha])
 have l6:=YD l5 m2.le;have m42:=m41.trans m2.drop;obtain ⟨q3,x3,y3,h7,K3,e3,t3,m3⟩:=Cq (El:=S9 false) rframe_ok (h:=h6) (l:=w.net) (f:=id) (lo:=lo) (R:=9) (e:=107) (bytes:=96) l6 (by decide) (by omega)
  (λi q a n c hh=>B5 lo (i:Nat) a1 w.places.length c1 a2 w.sess.length c2 a3 w.net.length c3 a4 w.hist.length c4 0 none 0 (some 0) 0 none 0 (some 0) 0 none 0 (some 0) 0 none 0 (some 0) q1 x1 w.places.length y1 q2 x2 w.sess.length y2 q a n c x4 w.hist.length y4 hh) (λi hi q a n c hh hm=>by
   obtain ⟨o,s,b1,d1,G,ha,ho,es,hp,_⟩:=((m42.trans hm).keep0 rframes_ok r3).get hi;obtain ⟨z1,t1,h7,K7,e7,r7,m7⟩:=BW (lo:=lo) (v:=w.net[i].ver) hp (YD l6 hm.le) (n3' _ (YJ hi)).1;refine ⟨w.net[i].cs z1 t1,K7,h7 ++ [.rows 9 107 false [w.net[i].cs z1 t1]],⟨_,rfl,_,rfl,Mv.snoc.keep0 rtags_ok r7⟩,m7.trans (Mv.snoc' m7.nd),?_⟩;simp only[Ver.cs] at e7;rw[B5.e,Aj (by omega),Ad hi,ha,Ag,BA,ho,Ag,Ab,Aa,Ab,Aa,Ab,Aa,Ab,Aa,Ab,Aa,Ab,Aa,Ab,es,Ab,Dg,Ab,Bk,Ai,e7,Ac,A3,Ab,Aa,Ab,Aa,Ab,Aa,Ab,Ah,Ab,Dg,Ab,Bk,Ai,Bv,As (by omega),<- ha])
 rw[List.map_id] at t1 t2 t3;have bd1:=(Sli.ok rplace_ok).bd _ _ _ _ t1;have bd2:=(Sli.ok Gd).bd _ _ _ _ t2;have bd4:=rdones_ok.bd _ _ _ _ t4;have j1:=m4.join m1 bd4;have j2:=j1.join m2 (λy hy=>by
  rcases YF.1 hy with g | g
  ·exact YT (bd4 y g) m1.le
  ·exact bd1 y g)
 have j3:=j2.join m3 (λy hy=>by
  rcases YF.1 hy with g | g
  ·rcases YF.1 g with g | g
   ·exact YT (bd4 y g) (YD m1.le m2.le)
   ·exact YT (bd1 y g) m2.le
  ·exact bd2 y g)
 have hperm:(K1++(K2++(K3++K4))).Perm (((K4++K1)++K2)++K3):=by rw[YV,YV];exact QI
 refine ⟨_,h7,K1++(K2++(K3++K4)),Ny ?_,⟨_,_,_,_,K1,K2,K3,K4,rfl,rfl,(m2.drop.trans m3.drop).keep0 rplaces_ok t1,m3.keep0 rsesss_ok t2,t3,(m1.drop.trans (m2.drop.trans m3.drop)).keep0 rdones_ok t4⟩,j3.lean (hperm.nodup_iff.2 j3.nd) λy hy=>hperm.mem_iff.1 hy⟩;obtain ⟨rows,Fs,k1,k2,_⟩:=(Mv.snoc (t := [.rows 5 31 false []])).keep0 rdones_ok r4 |>.rows;rw[k1,k2.of_flat.1,e4,Ah];refine e1.trans ?_;rw[B7.e,Ak (by omega)];refine e2.trans ?_;rw[B6.e,Ak (by omega)];refine e3.trans ?_;rw[B5.e,Ak (by omega)]
end


section
variable {lo:Nat}{h h':Heap}{w:World}{a1 a2 a3 a4 a:Pq}{c1 c2 c3 c4 c:Nq}{F F' F1 F2 F3 F4:List Nat}{b n:Nat}
theorem SN {n2 n3 n4:Nat} (r:Rd lo h b n) (hn:n<=500000) (hp:RPlaces false h [.sl 6 a1 w.places.length c1] w.places F1) (hb:b∉F1) (h3:w.places.length=3) (hgot:∀ p∈w.places,p.got.length=3) :
  ∃ (e:Event) (h':Heap),Ae lo 67 [.ptr (some (b,(0,0))),.agg [.sl 6 a1 w.places.length c1,.sl 5 a2 n2 c2,.sl 9 a3 n3 c3,.sl 5 a4 n4 c4]] h=some (.agg e.cs,h')/\e.text.size<=10/\Rd lo h' b (n+20)/\Mv h [b] h' [b]:=by
 suffices hk:∃ (e:Event) (h':Heap),_=some (V.agg e.cs,h')/\e.text.size<=10/\Rd lo h' b (n+20)/\Mv h [b] h' [b] from by obtain ⟨e,h',g,hr⟩:=hk;exact ⟨e,h',K0 g,hr⟩
 obtain ⟨at',h1,e1,g1,g1',r1,m1⟩:=pick r (by omega) 3;obtain ⟨x,h2,e2,g2,g2',r2,m2⟩:=pick r1 (by omega) 20;have m12:=m1.trans m2;have h03:=g1' (by omega);have told:∀ (y:Int) (k:Heap),Ae lo 32 [.ptr (some (b,(0,0))),Iv 3] h2=some (Iv y,k)->0<=y->y<3->Rd lo k b (n+1+1+1)->Mv h2 [b] k [b] ->
   ∃ (e:Event) (h':Heap),(Al (Ae lo 32 [.ptr (some (b,(0,0))),Iv 3] h2) λv_0 h_1=>eI .i64 v_0 λn_2=>AM n_2 w.places.length (eO a1 λo=>eO (ld h_1 o.1 (o.2+n_2.toNat) 4 1) λo=>eC o λo s=>eN s (eS 1 o λo s b=>AM at' s (eO o λo=>eO (ld h_1 o.1 (o.2+at'.toNat) 0 1) λo=>eC o λo s=>eN s (eS 6 o λo o s=>some (V.agg [Iv 10,Iv at',Iv n_2,Iv ((o:Nat):Int),.str ⟨⟨[]⟩⟩,.bool false],h_1))))))=some (V.agg e.cs,h')/\e.text.size<=10/\Rd lo h' b (n+20)/\Mv h [b] h' [b]:=by
  intro y k f lo1 hi1 q u;obtain ⟨j,rfl⟩:∃ j:Nat,y=(j:Int):=⟨y.toNat,by omega⟩;obtain ⟨i,rfl⟩:∃ i:Nat,at'=(i:Int):=⟨at'.toNat,by omega⟩;have hj:j<w.places.length:=by omega
  have hg3:=hgot _ (YJ hj);have m3:=m12.trans u;obtain ⟨o,s1,s2,s3,b1,d1,b2,d2,b3,d3,G1,G2,G3,ha,_,_,_,_,ho,_,_,es3,_,_,p3,_⟩:=(m3.keep rplaces_ok hp λy hy hm=>hb (by rw[YZ] at hm;exact hm ▸ hy)).get hj;obtain ⟨o',row,G,ha',ho',hel,_⟩:=p3.read (show i<w.places[j].got.length by omega);obtain ⟨v,rfl⟩:∃ v,row = [v]:=by obtain ⟨R',a',c',e,_⟩:=id hel;exact ⟨_,e⟩
  obtain ⟨b4,d4,es4,_⟩:=hel.form;have ld4:ld k o'.1 (o'.2+i) 0 1=some [v]:=by rw[ho'];rfl
  rw[f,Ac,Aa,Ad hj,ha,Ag,BA,ho,Ag,Ab,Ai,es3,Ad (by omega),ha',Ag,BA,ld4,Ag,Ab,Ai,es4];exact ⟨⟨10,(i:Nat),(j:Nat),((w.places[j].got[i]'(by omega)).length:Nat),⟨⟨[]⟩⟩,false⟩,k,rfl,Y3 _,q.up (by omega),m3⟩
 rw[e1,Ac,Aa,e2,Ac,Aa];cases x==(0:Int) with
 | true =>rw[Ao];obtain ⟨y1,k1,f1,lo1,hi1,q1,u1⟩:=pick r2 (by omega) 4;obtain ⟨y2,k2,f2,lo2,hi2,q2,u2⟩:=pick q1 (by omega) 4;obtain ⟨y3,k3,f3,g3,q3,u3⟩:=IC q2 (by omega);rw[f1,Ac,Aa,f2,Ac,Aa,f3,Ac,Dg];exact ⟨⟨1,y1,0,y2,y3,false⟩,k3,rfl,YD (DH g3) (by decide),q3.up (by omega),((((m1.trans m2).trans u1).trans u2).trans u3)⟩
 | false =>
 rw[Au];cases x==(1:Int) with
 | true =>rw[Ao];obtain ⟨y1,k1,f1,lo1,hi1,q1,u1⟩:=pick r2 (by omega) 4;obtain ⟨y2,k2,f2,lo2,hi2,q2,u2⟩:=pick q1 (by omega) 4;obtain ⟨y3,k3,f3,g3,q3,u3⟩:=IC q2 (by omega);rw[f1,Ac,Aa,f2,Ac,Aa,f3,Ac,Dg];exact ⟨⟨1,y1,0,y2,y3,false⟩,k3,rfl,YD (DH g3) (by decide),q3.up (by omega),((((m1.trans m2).trans u1).trans u2).trans u3)⟩
 | false =>
 rw[Au];cases x==(2:Int) with
 | true =>rw[Ao];obtain ⟨y1,k1,f1,lo1,hi1,q1,u1⟩:=pick r2 (by omega) 4;obtain ⟨y2,k2,f2,lo2,hi2,q2,u2⟩:=pick q1 (by omega) 4;obtain ⟨y3,k3,f3,g3,q3,u3⟩:=IC q2 (by omega);rw[f1,Ac,Aa,f2,Ac,Aa,f3,Ac,Dg];exact ⟨⟨1,y1,0,y2,y3,false⟩,k3,rfl,YD (DH g3) (by decide),q3.up (by omega),((((m1.trans m2).trans u1).trans u2).trans u3)⟩
 | false =>
 rw[Au];cases x==(3:Int) with
 | true =>rw[Ao];obtain ⟨y1,k1,f1,lo1,hi1,q1,u1⟩:=pick r2 (by omega) 4;obtain ⟨y2,k2,f2,lo2,hi2,q2,u2⟩:=pick q1 (by omega) 4;rw[f1,Ac,Aa,f2,Ac,Aa];exact ⟨⟨1,y1,0,y2,⟨⟨[]⟩⟩,true⟩,k2,rfl,Y3 _,q2.up (by omega),(((m1.trans m2).trans u1).trans u2)⟩
 | false =>
 rw[Au];cases x==(4:Int) with
 | true =>rw[Ao];obtain ⟨y1,k1,f1,lo1,hi1,q1,u1⟩:=pick r2 (by omega) 4;rw[f1,Ac,Aa];exact ⟨⟨2,y1,0,0,⟨⟨[]⟩⟩,false⟩,k1,rfl,Y3 _,q1.up (by omega),((m1.trans m2).trans u1)⟩
 | false =>
 rw[Au];cases x==(5:Int) with
 | true =>rw[Ao];obtain ⟨y1,k1,f1,lo1,hi1,q1,u1⟩:=pick r2 (by omega) 4;rw[f1,Ac,Aa];exact ⟨⟨2,y1,0,0,⟨⟨[]⟩⟩,false⟩,k1,rfl,Y3 _,q1.up (by omega),((m1.trans m2).trans u1)⟩
 | false =>
 rw[Au];cases x==(6:Int) with
 | true =>rw[Ao];obtain ⟨y1,k1,f1,lo1,hi1,q1,u1⟩:=pick r2 (by omega) 4;rw[f1,Ac,Aa];exact ⟨⟨2,y1,0,0,⟨⟨[]⟩⟩,false⟩,k1,rfl,Y3 _,q1.up (by omega),((m1.trans m2).trans u1)⟩
 | false =>
 rw[Au];cases x==(7:Int) with
 | true =>rw[Ao];obtain ⟨y1,k1,f1,lo1,hi1,q1,u1⟩:=pick r2 (by omega) 4;obtain ⟨y2,k2,f2,lo2,hi2,q2,u2⟩:=pick q1 (by omega) 4;obtain ⟨y3,k3,f3,lo3,hi3,q3,u3⟩:=pick q2 (by omega) 4;rw[f1,Ac,Aa,f2,Ac,Aa,f3,Ac,Aa];exact ⟨⟨3,y1,y2,y3,⟨⟨[]⟩⟩,false⟩,k3,rfl,Y3 _,q3.up (by omega),((((m1.trans m2).trans u1).trans u2).trans u3)⟩
 | false =>
 rw[Au];cases x==(8:Int) with
 | true =>rw[Ao];obtain ⟨y1,k1,f1,lo1,hi1,q1,u1⟩:=pick r2 (by omega) 4;obtain ⟨y2,k2,f2,lo2,hi2,q2,u2⟩:=pick q1 (by omega) 4;obtain ⟨y3,k3,f3,lo3,hi3,q3,u3⟩:=pick q2 (by omega) 4;rw[f1,Ac,Aa,f2,Ac,Aa,f3,Ac,Aa];exact ⟨⟨3,y1,y2,y3,⟨⟨[]⟩⟩,false⟩,k3,rfl,Y3 _,q3.up (by omega),((((m1.trans m2).trans u1).trans u2).trans u3)⟩
 | false =>
 rw[Au];cases x==(9:Int) with
 | true =>rw[Ao];obtain ⟨y1,k1,f1,lo1,hi1,q1,u1⟩:=pick r2 (by omega) 4;obtain ⟨y2,k2,f2,lo2,hi2,q2,u2⟩:=pick q1 (by omega) 4;obtain ⟨y3,k3,f3,lo3,hi3,q3,u3⟩:=pick q2 (by omega) 4;rw[f1,Ac,Aa,f2,Ac,Aa,f3,Ac,Aa];exact ⟨⟨3,y1,y2,y3,⟨⟨[]⟩⟩,false⟩,k3,rfl,Y3 _,q3.up (by omega),((((m1.trans m2).trans u1).trans u2).trans u3)⟩
 | false =>
 rw[Au];cases x==(10:Int) with
 | true =>rw[Ao];obtain ⟨y1,k1,f1,g1,q1,u1⟩:=DU (e:=3) [4,5] (rows := [[Iv 4],[Iv 5]]) (len:=2) (cc:=some 2) r2 (by omega) rfl rfl (by decide);obtain ⟨y2,k2,f2,lo2,hi2,q2,u2⟩:=pick q1 (by omega) 4;obtain ⟨y3,k3,f3,lo3,hi3,q3,u3⟩:=pick q2 (by omega) 3;rw[f1,Ac,Aa,f2,Ac,Aa,f3,Ac,Aa];exact ⟨⟨y1,y2,y3,0,⟨⟨[]⟩⟩,false⟩,k3,rfl,Y3 _,q3.up (by omega),((((m1.trans m2).trans u1).trans u2).trans u3)⟩
 | false =>
 rw[Au];cases x==(11:Int) with
 | true =>rw[Ao];obtain ⟨y1,k1,f1,g1,q1,u1⟩:=DU (e:=3) [0,0,1,2] (rows := [[Iv 0],[Iv 0],[Iv 1],[Iv 2]]) (len:=4) (cc:=some 4) r2 (by omega) rfl rfl (by decide);rw[f1,Ac,Aa];exact ⟨⟨6,at',y1,0,⟨⟨[]⟩⟩,false⟩,k1,rfl,Y3 _,q1.up (by omega),((m1.trans m2).trans u1)⟩
 | false =>
 rw[Au];cases x==(12:Int) with
 | true =>rw[Ao];obtain ⟨y1,k1,f1,g1,q1,u1⟩:=DU (e:=3) [0,0,1,2] (rows := [[Iv 0],[Iv 0],[Iv 1],[Iv 2]]) (len:=4) (cc:=some 4) r2 (by omega) rfl rfl (by decide);rw[f1,Ac,Aa];exact ⟨⟨6,at',y1,0,⟨⟨[]⟩⟩,false⟩,k1,rfl,Y3 _,q1.up (by omega),((m1.trans m2).trans u1)⟩
 | false =>
 rw[Au];cases x==(13:Int) with
 | true =>rw[Ao];obtain ⟨y1,k1,f1,g1,q1,u1⟩:=DU (e:=3) [0,0,1,2] (rows := [[Iv 0],[Iv 0],[Iv 1],[Iv 2]]) (len:=4) (cc:=some 4) r2 (by omega) rfl rfl (by decide);rw[f1,Ac,Aa];exact ⟨⟨6,at',y1,0,⟨⟨[]⟩⟩,false⟩,k1,rfl,Y3 _,q1.up (by omega),((m1.trans m2).trans u1)⟩
 | false =>
 rw[Au];cases x==(14:Int) with
 | true =>rw[Ao];obtain ⟨y1,k1,f1,g1,q1,u1⟩:=DU (e:=3) [7,8] (rows := [[Iv 7],[Iv 8]]) (len:=2) (cc:=some 2) r2 (by omega) rfl rfl (by decide);obtain ⟨y2,k2,f2,lo2,hi2,q2,u2⟩:=pick q1 (by omega) 4;rw[f1,Ac,Aa,f2,Ac,Aa];exact ⟨⟨y1,at',y2,0,⟨⟨[]⟩⟩,false⟩,k2,rfl,Y3 _,q2.up (by omega),(((m1.trans m2).trans u1).trans u2)⟩
 | false =>
 rw[Au];cases x==(15:Int) with
 | true =>rw[Ao];obtain ⟨y1,k1,f1,lo1,hi1,q1,u1⟩:=pick r2 (by omega) 3;rw[f1,Ac,Aa];exact ⟨⟨9,at',y1,0,⟨⟨[]⟩⟩,false⟩,k1,rfl,Y3 _,q1.up (by omega),((m1.trans m2).trans u1)⟩
 | false =>
 rw[Au];cases x==(16:Int) with
 | true =>rw[Ao];obtain ⟨y1,k1,f1,lo1,hi1,q1,u1⟩:=pick r2 (by omega) 3;rw[f1,Ac,Aa];exact ⟨⟨9,at',y1,0,⟨⟨[]⟩⟩,false⟩,k1,rfl,Y3 _,q1.up (by omega),((m1.trans m2).trans u1)⟩
 | false =>
 rw[Au];cases x==(17:Int) with
 | true =>rw[Ao];obtain ⟨y1,k1,f1,lo1,hi1,q1,u1⟩:=pick r2 (by omega) 3;exact told y1 k1 f1 lo1 (hi1 (by omega)) q1 u1
 | false =>
 rw[Au];cases x==(18:Int) with
 | true =>rw[Ao];obtain ⟨y1,k1,f1,lo1,hi1,q1,u1⟩:=pick r2 (by omega) 3;exact told y1 k1 f1 lo1 (hi1 (by omega)) q1 u1
 | false =>
 rw[Au];obtain ⟨y1,k1,f1,g1,q1,u1⟩:=DU (e:=3) [11,11,11,12,13,0,14] (rows := [[Iv 11],[Iv 11],[Iv 11],[Iv 12],[Iv 13],[Iv 0],[Iv 14]]) (len:=7) (cc:=some 7) r2 (by omega) rfl rfl (by decide);obtain ⟨y2,k2,f2,lo2,hi2,q2,u2⟩:=pick q1 (by omega) 3;rw[f1,Ac,Aa,f2,Ac,Aa];exact ⟨⟨y1,y2,0,0,⟨⟨[]⟩⟩,false⟩,k2,rfl,Y3 _,q2.up (by omega),(((m1.trans m2).trans u1).trans u2)⟩
end


abbrev REvents:Rel (List Event):=Sli false 6 113 (flat Event.cs)
theorem revents_ok:REvents.Ok:=Sli.ok Cj
section
variable {lo:Nat}{h h':Heap}{w:World}{a1 a2 a3 a4 a:Pq}{c1 c2 c3 c4 c:Nq}{E F F' F1 F2 F3 F4:List Nat}{b n:Nat}
theorem nd3 {E F:List Nat} (hn:(b ::(E++F)).Nodup):b∉E/\b∉F/\E.Nodup/\F.Nodup/\∀ y∈E,y∉F:=by rw[Y2,YF,YK] at hn;simp only[not_or] at hn;exact ⟨hn.1.1,hn.1.2,hn.2.1,hn.2.2.1,λy hy hm=>hn.2.2.2 y hy y hm rfl⟩
theorem Xw {E F:List Nat}:(b ::(E++F)).Perm (E++(b :: F)):=List.perm_middle.symm
theorem Xv {E F:List Nat}:(b ::(E++F)).Perm (F++(b :: E)):=by rw[show b ::(E++F)=(b :: E)++F from rfl];exact List.perm_append_comm
theorem SM {e:Event} (h:e.text.size<=10):e.text.size<=1048576:=by omega
theorem Rp {most:Int} (hmost:most<=1000):∀ (r m:Nat) (hh:Heap) (w:World) (l:List Event) (a:Pq) (c:Nq) (E:List Nat) (x1:Pq) (y1:Nq) (x2:Pq) (y2:Nq) (x3:Pq) (y3:Nq) (x4:Pq) (y4:Nq) (K1 K2 K3 K4:List Nat) (n:Nat),
  (m:Int)+r=most->r<=120->n+21*r<=500000->Rd lo hh b n->REvents hh [.sl 6 a l.length c] l E->(∀ e∈l,e.text.size<=10)->l.length+r<=1000->WR lo hh w x1 y1 x2 y2 x3 y3 x4 y4 K1 K2 K3 K4->Good w->(b ::(E++(K1++(K2++(K3++K4))))).Nodup->(∀ y∈E,lo<=y) ->
  ∃ (l':List Event) (a':Pq) (c':Nq) (h':Heap) (E':List Nat),AW lo b 0 0 most a l.length c (m:Nat) x1 w.places.length y1 x2 w.sess.length y2 x3 w.net.length y3 x4 w.hist.length y4 hh=some (.sl 6 a' l'.length c',h')/\REvents h' [.sl 6 a' l'.length c'] l' E'/\(∀ e∈l',e.text.size<=10)/\l'.length<=1000 /\
   Rd lo h' b (n+21*r)/\Mv hh (b ::(E++(K1++(K2++(K3++K4))))) h' (b :: E'):=by
 intro r;induction r with
 | zero =>
  intro m hh w l a c E x1 y1 x2 y2 x3 y3 x4 y4 K1 K2 K3 K4 n hm _ _ r0 re ht hl H hg hnd hE;refine ⟨l,a,c,hh,E,?_,re,ht,by omega,r0,(Mv.refl hnd).lean ?_ λy hy=>?_⟩
  ·rw[AW.e,Ak (by omega)]
  ·obtain ⟨k1,k2,k3,k4,k5⟩:=nd3 hnd;exact Y2.2 ⟨k1,k3⟩
  ·rw[YW] at hy ⊢;exact hy.imp id λg=>Y8 _ g
 | succ r ih =>
  intro m hh w l a c E x1 y1 x2 y2 x3 y3 x4 y4 K1 K2 K3 K4 n hm hr hn r0 re ht hl H hg hnd hE;obtain ⟨k1,k2,k3,k4,k5⟩:=nd3 hnd;have hEb:=revents_ok.bd _ _ _ _ re;have hFb:=H.bd;obtain ⟨e,h1,e1,et,r1,m1⟩:=SN (a2:=x2) (c2:=y2) (a3:=x3) (c3:=y3) (a4:=x4) (c4:=y4) (n2:=w.sess.length) (n3:=w.net.length) (n4:=w.hist.length) r0 (by omega) H.r1 (λhm=>k2 (by simp[hm])) hg.ok.p3 (λp hp=>by
   obtain ⟨i,hi⟩:=YX.1 hp;exact (AJ (hg.ok.place i p hi).2).2.2.1)
  have notb:∀ {G:List Nat},(∀ y∈G,y∈K1++(K2++(K3++K4)))->∀ y∈G,y ∉ [b]:=λhG y hy hm=>by rw[YZ] at hm;exact k2 (hm ▸ hG y hy)
  have H1:WR lo h1 w x1 y1 x2 y2 x3 y3 x4 y4 K1 K2 K3 K4:=⟨m1.keep rplaces_ok H.r1 (notb λy hy=>by simp[hy]),m1.keep rsesss_ok H.r2 (notb λy hy=>by simp[hy]),m1.keep rframes_ok H.r3 (notb λy hy=>by simp[hy]),m1.keep rdones_ok H.r4 (notb λy hy=>by simp[hy]),H.nd,H.ge,YD H.hl m1.le⟩;have re1:=m1.keep revents_ok re λy hy hm=>k1 (by rw[YZ] at hm;exact hm ▸ hy);have M1:Mv hh (b ::(E++(K1++(K2++(K3++K4))))) h1 (b ::(E++(K1++(K2++(K3++K4))))):=m1.mid (A := [b]) (B:=E++(K1++(K2++(K3++K4)))) (A' := [b]) (.refl _) hnd (λy hy=>(YF.1 hy).elim (hEb y) (hFb y)) (.refl _);obtain ⟨cs2,h2,F2,e2,⟨z1,t1,z2,t2,z3,t3,z4,t4,Q1,Q2,Q3,Q4,rfl,rfl,H2⟩,m2,N2⟩:=N0 (e:=e) H1 hg.fits (SM et);have hg2:Good (ON w e):=Po hg;have hEb1:=revents_ok.bd _ _ _ _ re1;have re2:=m2.keep revents_ok re1 k5;have r2:=r1.keep m2 k2 H.ge;have M2:Mv h1 (b ::(E++(K1++(K2++(K3++K4))))) h2 (b ::(E++(Q1++(Q2++(Q3++Q4))))):=m2.mid Xv hnd (λy hy=>by
   rw[YW] at hy;rcases hy with rfl | hy
   ·exact r1.lt
   ·exact hEb1 y hy) Xv
  have M12:=M1.trans M2;have hnd2:=M12.nd;obtain ⟨j1,j2,j3,j4,j5⟩:=nd3 hnd2;have more:∀ (h3:Heap) (n3:Nat),Rd lo h3 b n3->n3+21*r<=500000->REvents h3 [.sl 6 a l.length c] l E->WR lo h3 (ON w e) z1 t1 z2 t2 z3 t3 z4 t4 Q1 Q2 Q3 Q4->n3<=n+21 ->
    ∃ (l':List Event) (a':Pq) (c':Nq) (h':Heap) (E':List Nat),(Ap 6 (h3 ++ [.rows 6 113 false [e.cs]]) (.sl 6 (some (h3.length,0)) 1 (some 1)) λx=>CJ lo 113 6 56 (.sl 6 a l.length c) x (h3 ++ [.rows 6 113 false [e.cs]]) λx d=>eS 6 x λx q f=>AW lo b 0 0 most x q f ((m+1:Nat):Int) z1 (ON w e).places.length t1 z2 (ON w e).sess.length t2 z3 (ON w e).net.length t3 z4 (ON w e).hist.length t4 d)=some (.sl 6 a' l'.length c',h')/\REvents h' [.sl 6 a' l'.length c'] l' E'/\(∀ e∈l',e.text.size<=10)/\l'.length<=1000 /\
     Rd lo h' b (n+21*(r+1))/\Mv h3 (b ::(E++(Q1++(Q2++(Q3++Q4))))) h' (b :: E'):=by
   intro h3 n3 r3 hn3 re3 H3 hnn;have hEb3:=revents_ok.bd _ _ _ _ re3;obtain ⟨a6,c6,h6,E6,e6,r6,m6⟩:=DT (lo:=lo) (bytes:=56) (e:=113) (El:=flat Event.cs) Cj re3 (row:=e.cs) (x:=e) (G := []) (h1:=h3 ++ [.rows 6 113 false [e.cs]])
    ⟨rfl,rfl⟩ Mv.snoc j3 hE H3.hl (by decide) (by omega)
   have hll:(l ++ [e]).length=l.length+1:=by simp
   rw[<- hll] at r6 e6;have H6:WR lo h6 (ON w e) z1 t1 z2 t2 z3 t3 z4 t4 Q1 Q2 Q3 Q4:=⟨m6.keep rplaces_ok H3.r1 (λy hy hm=>j5 y hm (by simp[hy])),m6.keep rsesss_ok H3.r2 (λy hy hm=>j5 y hm (by simp[hy])),m6.keep rframes_ok H3.r3 (λy hy hm=>j5 y hm (by simp[hy])),m6.keep rdones_ok H3.r4 (λy hy hm=>j5 y hm (by simp[hy])),H3.nd,H3.ge,YD H3.hl m6.le⟩;have M6:Mv h3 (b ::(E++(Q1++(Q2++(Q3++Q4))))) h6 (b ::(E6++(Q1++(Q2++(Q3++Q4))))):=m6.mid Xw hnd2 (λy hy=>by
    rw[YW] at hy;rcases hy with rfl | hy
    ·exact r3.lt
    ·exact H3.bd y hy) Xw
   obtain ⟨l',a',c',h',E',f1,f2,f3,f4,f5,f6⟩:=ih (m+1) h6 (ON w e) (l ++ [e]) a6 c6 E6 _ _ _ _ _ _ _ _ _ _ _ _ n3 (by omega) (by omega) (by omega) (r3.keep m6 j1 hE) r6 (λx hx=>by
    rcases YF.1 hx with g | g
    ·exact ht x g
    ·rw[YZ] at g;subst g;exact et) (by omega) H6 hg2 M6.nd (m6.ge H3.hl hE)
   refine ⟨l',a',c',h',E',?_,f2,f3,f4,f5.up (by omega),M6.trans f6⟩;rw[Bv,e6,Ah];exact f1
  simp only[Event.cs] at e1;have e2':=e2;simp only[Event.cs,World.cs] at e2';rw[AW.e,Aj (by omega),e1,Ac,A3,Ab,Aa,Ab,Aa,Ab,Aa,Ab,Aa,Ab,Dg,Ab,Bk,Ai,e2',Ac,Np,Ab,A3,Ab,Ah,Ab,Ah,Ab,Ah,Ab,Ah,Ai,Ab,AC];cases hs:(EB w e).isSome with
  | true =>obtain ⟨l',a',c',h',E',f1,f2,f3,f4,f5,f6⟩:=more h2 (n+20) r2 (by omega) re2 H2 (by omega);refine ⟨l',a',c',h',E',?_,f2,f3,f4,f5,M12.trans f6⟩;rw[Ao,Ai,As (by omega)];exact f1
  | false =>
   have hnone:EB w e=none:=by
    cases hx:EB w e with
    | none=>rfl
    | some y=>rw[hx] at hs;cases hs
   have hw:ON w e=w:=by unfold ON;rw[hnone];rfl
   obtain ⟨v,h3,e3,_,_,r3,m3⟩:=pick r2 (by omega) 6;have notb2:∀ {G:List Nat},(∀ y∈G,y∈Q1++(Q2++(Q3++Q4)))->∀ y∈G,y ∉ [b]:=λhG y hy hm=>by rw[YZ] at hm;exact j2 (hm ▸ hG y hy)
   have H3:WR lo h3 (ON w e) z1 t1 z2 t2 z3 t3 z4 t4 Q1 Q2 Q3 Q4:=⟨m3.keep rplaces_ok H2.r1 (notb2 λy hy=>by simp[hy]),m3.keep rsesss_ok H2.r2 (notb2 λy hy=>by simp[hy]),m3.keep rframes_ok H2.r3 (notb2 λy hy=>by simp[hy]),m3.keep rdones_ok H2.r4 (notb2 λy hy=>by simp[hy]),H2.nd,H2.ge,YD H2.hl m3.le⟩;have re3:=m3.keep revents_ok re2 λy hy hm=>j1 (by rw[YZ] at hm;exact hm ▸ hy);have M3:Mv h2 (b ::(E++(Q1++(Q2++(Q3++Q4))))) h3 (b ::(E++(Q1++(Q2++(Q3++Q4))))):=m3.mid (A := [b]) (B:=E++(Q1++(Q2++(Q3++Q4)))) (A' := [b]) (.refl _) hnd2 (λy hy=>(YF.1 hy).elim (revents_ok.bd _ _ _ _ re2 y) (H2.bd y)) (.refl _);have M123:=M12.trans M3;rw[Au,Ai,e3,Ac,Aa];by_cases hv:v>0
   ·have eq:=N2 hnone;rw[hw] at eq H3;simp only[World.cs,List.cons.injEq,V.sl.injEq,true_and,and_true] at eq;obtain ⟨⟨rfl,rfl⟩,⟨rfl,rfl⟩,⟨rfl,rfl⟩,rfl,rfl⟩:=eq;obtain ⟨l',a',c',h',E',f1,f2,f3,f4,f5,f6⟩:=ih (m+1) h3 w l a c E _ _ _ _ _ _ _ _ _ _ _ _ (n+21) (by omega) (by omega) (by omega) r3 re3 ht (by omega) H3 hg M123.nd hE;refine ⟨l',a',c',h',E',?_,f2,f3,f4,f5.up (by omega),M123.trans f6⟩;rw[Aj hv,As (by omega)];exact f1
   ·obtain ⟨l',a',c',h',E',f1,f2,f3,f4,f5,f6⟩:=more h3 (n+21) r3 (by omega) re3 H3 (by omega);refine ⟨l',a',c',h',E',?_,f2,f3,f4,f5,M123.trans f6⟩;rw[Ak hv,As (by omega)];exact f1
theorem JI {cs:List V} (hw:PT false h cs w F) (m:Mv h' [] h F) (hl':lo<=h'.length):∃ s1 s2 s3 s4 a1 c1 a2 c2 a3 c3 a4 c4 F1 F2 F3 F4,cs = [s1,s2,s3,s4]/\F=F1++(F2++(F3++F4)) /\
  (∀ {T:Type} (K:Pq->Nat->Nq->Option T),eS 6 s1 K=K a1 w.places.length c1)/\(∀ {T:Type} (K:Pq->Nat->Nq->Option T),eS 5 s2 K=K a2 w.sess.length c2) /\
  (∀ {T:Type} (K:Pq->Nat->Nq->Option T),eS 9 s3 K=K a3 w.net.length c3)/\(∀ {T:Type} (K:Pq->Nat->Nq->Option T),eS 5 s4 K=K a4 w.hist.length c4)/\WR lo h w a1 c1 a2 c2 a3 c3 a4 c4 F1 F2 F3 F4 :=
 WR.of hw m.nd (m.ge hl' (by simp)) (YD hl' m.le)
theorem LO {n0 s0 most:Nat} (h1:1<=n0) (h4:n0<=4) (hs:s0<=4) (hmost:most<=120) (r:Rd lo h b n) (hn:n<=300000) (hl:lo<=h.length) :
  ∃ (l:List Event) (a:Pq) (c:Nq) (h':Heap) (E:List Nat),Ae lo 59 [.ptr (some (b,(0,0))),Iv (n0:Nat),Iv (s0:Nat),Iv (most:Nat)] h=some (.sl 6 a l.length c,h')/\REvents h' [.sl 6 a l.length c] l E/\(∀ e∈l,e.text.size<=10)/\l.length<=1000 /\
   Rd lo h' b (n+3000)/\Mv h [b] h' (b :: E):=by
 obtain ⟨cs,h2,F2,e2,w2,m2⟩:=LK (lo:=lo) (h:=h) h1 h4 (by omega:s0<=1000) hl;obtain ⟨s1,s2,s3,s4,a1,c1,a2,c2,a3,c3,a4,c4,K1,K2,K3,K4,rfl,rfl,es1,es2,es3,es4,H⟩:=JI w2 m2 hl;have mx:Mv h2 [] (h2 ++ [.rows 6 113 false []]) [h2.length]:=Mv.last;have hb2:=H.bd;have H3:WR lo (h2 ++ [.rows 6 113 false []]) (GM n0 s0) a1 c1 a2 c2 a3 c3 a4 c4 K1 K2 K3 K4:=⟨mx.keep0 rplaces_ok H.r1,mx.keep0 rsesss_ok H.r2,mx.keep0 rframes_ok H.r3,mx.keep0 rdones_ok H.r4,H.nd,H.ge,YD H.hl mx.le⟩;have hre:REvents (h2 ++ [.rows 6 113 false []]) [.sl 6 (some (h2.length,0)) 0 (some 0)] [] [h2.length]:=Sli.fresh (YH _);have hblt:=r.lt;have hbF:b∉K1++(K2++(K3++K4)):=λhm=>by have:=m2.new b hm;omega
 have hnd:(b ::([h2.length]++(K1++(K2++(K3++K4))))).Nodup:=by have:=m2.le;rw[Y2,Zl,Y9,Y2,YW];exact ⟨λhm=>hm.elim (λg=>by omega) hbF,λhm=>by have:=hb2 _ hm;omega,m2.nd⟩
 have r3:=(r.keep m2 (by simp) (by simp)).keep mx (by simp) (by simp);obtain ⟨l,a,c,h',E,f1,f2,f3,f4,f5,f6⟩:=Rp (most:=(most:Nat)) (by omega) most 0 _ (GM n0 s0) [] _ _ _ _ _ _ _ _ _ _ _ _ _ _ _ n (by omega) (by omega) (by omega) r3 hre (by simp) (by simp;omega) H3 (JS h1 h4 hs) hnd (by simp;exact YD hl m2.le);refine ⟨l,a,c,h',E,Ki ?_,f2,f3,f4,f5.up (by omega),?_⟩
 ·rw[e2,Ac,A3,Ab,es1,Ab,es2,Ab,es3,Ab,es4,Ai];exact f1
 ·have M:Mv h [b] (h2 ++ [.rows 6 113 false []]) (b ::([h2.length]++(K1++(K2++(K3++K4))))):=by
   refine ⟨YD m2.le mx.le,λy hy hF=>?_,hnd,λy hy=>?_⟩
   ·rw[mx.fr y (YT hy m2.le) (by simp),m2.fr y hy (by simp)]
   ·simp only[YW,Zl,Y9] at hy;rcases hy with rfl | rfl | hy
    ·exact .inl (by simp)
    ·exact .inr ⟨m2.le,by simp⟩
    ·have:=hb2 y hy;exact .inr ⟨m2.new y hy,by rw[Y6];omega⟩
  exact M.trans f6
end
end Go.Proofs.YtoocmbhkaghgnaaGreat
