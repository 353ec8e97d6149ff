/- Part 4 of what is shown for the law FnChainJoin, whatever the input; no condition of its own. -/
import Derived.Test.YthdfojchihooeaaGreatBPChainJoin3
set_option linter.unusedVariables false
set_option linter.unusedSimpArgs false
set_option linter.unnecessarySimpa false
namespace Go.Proofs.YthdfojchihooeaaGreat
open Go T


def bcs (x:UInt8):List V := [.int .u8 (x.toNat:Int)]
abbrev RBytes:Rel (List UInt8):=Sli true 1 0 (flat bcs)
structure Rd (lo:Nat) (h:Heap) (b n:Nat):Prop where
 ge:lo≤b
 ex:∃ a code c p Fc,h[b]?=some (.rows 2 228 false [[.sl 1 a code.length c,.int .i64 ((p:Nat):Int)]])∧RBytes h [.sl 1 a code.length c] code Fc∧(∀ y∈Fc,y<lo)∧p≤n∧code.length≤1048576
section
variable {lo:Nat}{h h':Heap}{F F':List Nat}{b n:Nat}
theorem Rd.lt (r:Rd lo h b n):b<h.length:=by
 obtain ⟨_,a,code,c,p,Fc,hb,_⟩:=r
 exact (List.getElem?_eq_some_iff.1 hb).1
theorem Rd.up {n':Nat} (r:Rd lo h b n) (hn:n≤n'):Rd lo h b n':=by
 obtain ⟨hge,a,code,c,p,Fc,hb,hc,hF,hp,hl⟩:=r
 exact ⟨hge,a,code,c,p,Fc,hb,hc,hF,by omega,hl⟩
theorem Rd.keep (r:Rd lo h b n) (m:Mv h F h' F') (hb:b∉F) (hF:∀ y∈F,lo≤y):Rd lo h' b n:=by
 have hlt:=r.lt
 obtain ⟨hge,a,code,c,p,Fc,e,hc,hFc,hp,hl⟩:=r
 refine ⟨hge,a,code,c,p,Fc,by rw [m.fr b hlt hb];exact e,m.keep (Sli.ok flat_ok) hc (fun y hy hm=>?_),hFc,hp,hl⟩
 have h1:=hFc y hy
 have h2:=hF y hm
 omega
theorem xor_nonneg {v:Int} (h0:0≤v) (h1:v<4611686018427387904):0≤IntKind.i64.wrap (((BitVec.ofInt IntKind.i64.bits v ^^^ BitVec.ofInt IntKind.i64.bits (IntKind.i64.wrap (v.tdiv 64))).toNat:Nat):Int):=by
 obtain ⟨k,rfl⟩:∃ k:Nat,v=(k:Int):=⟨v.toNat,by omega⟩
 have hd:((k:Nat):Int).tdiv 64=((k / 64:Nat):Int):=rfl
 rw [hd,wr (n:=((k / 64:Nat):Int)) (by omega) (by omega)]
 have hb:IntKind.i64.bits=64:=rfl
 have t:∀ q:Nat,q<4611686018427387904→(BitVec.ofInt IntKind.i64.bits ((q:Nat):Int)).toNat=q:=fun q hq=>by
  rw [BitVec.toNat_ofInt,hb]
  omega
 have hx:(BitVec.ofInt IntKind.i64.bits ((k:Nat):Int) ^^^ BitVec.ofInt IntKind.i64.bits ((k / 64:Nat):Int)).toNat<2 ^ 62:=by
  rw [BitVec.toNat_xor,t k (by omega),t (k / 64) (by omega)]
  exact Nat.xor_lt_two_pow (by omega) (by omega)
 generalize (BitVec.ofInt IntKind.i64.bits ((k:Nat):Int) ^^^ BitVec.ofInt IntKind.i64.bits ((k / 64:Nat):Int)).toNat=w at hx
 rw [wr (by omega) (by omega)]
 omega
theorem RBytes.get {a:Option (Nat×Nat)}{c:Option Nat}{m k:Nat}{l:List UInt8} (hs:RBytes h [.sl 1 a m c] l F) (hk:k<l.length):∃ o,a=some o∧ld h o.1 (o.2+k) 0 1=some [.int .u8 (l[k].toNat:Int)]:=by
 obtain ⟨o,row,G,h1,h2,⟨rfl,_⟩,_⟩:=hs.read hk
 exact ⟨o,h1,by rw [h2];rfl⟩
theorem pick (r:Rd lo h b n) (hn:n≤1000000) (m:Int):∃ (x:Int) (h':Heap),evl lo 109 [.ptr (some (b,(0,0))),.int .i64 m] h=some (.int .i64 x,h')∧0≤x∧(0<m→x<m)∧Rd lo h' b (n+1)∧Mv h [b] h' [b]:=by
 obtain ⟨hge,a,code,c,p,Fc,hb,hc,hFc,hp,hcl⟩:=r
 have hblt:=(List.getElem?_eq_some_iff.1 hb).1
 have e1:ld h b 0 (0+1) 1=some [.int .i64 ((p:Nat):Int)]:=by rw [ld_of hb rfl];rfl
 have e2:=st_first hb hge (r:=0) (j:=0+1) (cs := [.int .i64 ((p+1:Nat):Int)]) (row' := [.sl 1 a code.length c,.int .i64 ((p+1:Nat):Int)]) rfl rfl
 generalize hh1:h.set b (Blk.rows 2 228 false (List.set [[V.sl 1 a code.length c,V.int .i64 ((p:Nat):Int)]] 0 [V.sl 1 a code.length c,V.int .i64 ((p+1:Nat):Int)]))=h1 at e2
 have hb1:h1[b]?=some (.rows 2 228 false [[.sl 1 a code.length c,.int .i64 ((p+1:Nat):Int)]]):=by rw [← hh1];simp [hblt]
 have m1:Mv h [b] h1 [b]:=⟨by rw [← hh1];simp,fun y hy hF=>by rw [← hh1];exact List.getElem?_set_ne (fun e=>hF (by simp [e])),by simp,fun y hy => .inl hy⟩
 have hc1:RBytes h1 [.sl 1 a code.length c] code Fc:=m1.keep (Sli.ok flat_ok) hc (fun y hy hm=>by
  rw [List.mem_singleton] at hm
  have:=hFc y hy;omega)
 suffices hk:∃ x:Int,_=some (V.int .i64 x,h1)∧0≤x∧(0<m→x<m) from by
  obtain ⟨x,e,g1,g2⟩:=hk
  exact ⟨x,h1,E_spec_l20Rd_pick e,g1,g2,⟨hge,a,code,c,p+1,Fc,hb1,hc1,hFc,by omega,hcl⟩,m1⟩
 rw [e1,eO_s,eC_c,eN_n,eI_int,wr_succ (by omega),e2,eO_s]
 by_cases hm:m<1
 ·rw [br_pos hm];exact ⟨0,rfl,Int.le_refl _,fun h=>by omega⟩
 ·have l0:ld h1 b 0 (0+0) 1=some [.sl 1 a code.length c]:=by rw [ld_of hb1 rfl];rfl
  have l1:ld h1 b 0 (0+1) 1=some [.int .i64 ((p+1:Nat):Int)]:=by rw [ld_of hb1 rfl];rfl
  have tm:∀ z:Int,0≤z→∃ x:Int,some (V.int .i64 (z.tmod m),h1)=some (V.int .i64 x,h1)∧0≤x∧(0<m→x<m):=fun z hz=>⟨_,rfl,Int.tmod_nonneg m hz,fun h=>by rw [Int.tmod_eq_emod_of_nonneg hz];exact Int.emod_lt_of_pos z h⟩
  have w1:IntKind.i64.wrap (((p+1:Nat):Int) - 1)=((p:Nat):Int):=by rw [wr (by omega) (by omega)];omega
  rw [br_neg hm,l0,eO_s,eC_c,eN_n,eS_sl]
  by_cases h0:code.length=0
  ·rw [show (((code.length:Nat):Int)==0)=true by rw [beq_iff_eq];omega,br_t]
   exact ⟨0,rfl,Int.le_refl _,fun h=>by omega⟩
  ·rw [show (((code.length:Nat):Int)==0)=false by rw [beq_eq_false_iff_ne];omega,br_f,l1,eO_s,eC_c,eN_n,eI_int,eO_s,eC_c,eN_n,eS_sl,w1]
   by_cases hpc:p<code.length
   ·obtain ⟨o,ha,hld⟩:=hc1.get hpc
    have hbt:code[p].toNat<256:=code[p].toNat_lt
    rw [br_pos (by omega),eO_s,eC_c,eN_n,eS_sl,inB_nat hpc,ha,eO_s,Int.toNat_natCast,hld,eO_s,eC_c,eN_n,eI_int,need_of (by omega),wr (by omega) (by omega)]
    exact tm _ (by omega)
   ·have hk1:p % code.length<code.length:=Nat.mod_lt _ (by omega)
    have hk2:(p*7+3) % code.length<code.length:=Nat.mod_lt _ (by omega)
    obtain ⟨o,ha,hld⟩:=hc1.get hk1
    obtain ⟨o',ha',hld'⟩:=hc1.get hk2
    have ho:o'=o:=by rw [ha] at ha';injection ha' with e;exact e.symm
    subst ho
    have hb1:code[p % code.length].toNat<256:=UInt8.toNat_lt _
    have hb2:code[(p*7+3) % code.length].toNat<256:=UInt8.toNat_lt _
    have t1:((p:Nat):Int).tmod ((code.length:Nat):Int)=((p % code.length:Nat):Int):=rfl
    have t2:IntKind.i64.wrap (IntKind.i64.wrap (((p:Nat):Int)*7)+3)=((p*7+3:Nat):Int):=by rw [wr (n:=((p:Nat):Int)*7) (by omega) (by omega),wr (by omega) (by omega)];omega
    have t3:((p*7+3:Nat):Int).tmod ((code.length:Nat):Int)=(((p*7+3) % code.length:Nat):Int):=rfl
    have t4:((p:Nat):Int).tdiv ((code.length:Nat):Int)=((p / code.length:Nat):Int):=rfl
    have hdv:p / code.length≤p:=Nat.div_le_self _ _
    rw [br_neg (by omega),eO_s,eC_c,eN_n,eS_sl,eO_s,eC_c,eN_n,eS_sl,need_of (by omega),t1,inB_nat hk1,ha,eO_s,Int.toNat_natCast,hld,eO_s,eC_c,eN_n,eI_int,eO_s,eC_c,eN_n,eS_sl,eO_s,eC_c,eN_n,eS_sl,need_of (by omega),t2,t3,inB_nat hk2,eO_s,Int.toNat_natCast,hld',eO_s,eC_c,eN_n,eI_int,eO_s,eC_c,eN_n,eS_sl,need_of (by omega),need_of (by omega),t4]
    generalize code[p % code.length].toNat=B1 at hb1
    generalize code[(p*7+3) % code.length].toNat=B2 at hb2
    generalize p / code.length=D at hdv
    rw [wr (n:=((B1:Nat):Int)) (by omega) (by omega),wr (n:=((B2:Nat):Int)) (by omega) (by omega),wr (n:=((B1:Nat):Int)*131) (by omega) (by omega),wr (n:=((B2:Nat):Int)*1117) (by omega) (by omega),wr (n:=((B1:Nat):Int)*131+((B2:Nat):Int)*1117) (by omega) (by omega),
     wr (n:=((p:Nat):Int)*29) (by omega) (by omega),wr (n:=((B1:Nat):Int)*131+((B2:Nat):Int)*1117+((p:Nat):Int)*29) (by omega) (by omega),wr (n:=((D:Nat):Int)) (by omega) (by omega),wr (n:=((D:Nat):Int)*53) (by omega) (by omega),wr (n:=((B1:Nat):Int)*131+((B2:Nat):Int)*1117+((p:Nat):Int)*29+((D:Nat):Int)*53) (by omega) (by omega)]
    exact tm _ (xor_nonneg (by omega) (by omega))
theorem one_of {c e:Nat}{ro:Bool}{xs:List Int}{rows:List (List V)}{len:Nat}{cc:Option Nat} (r:Rd lo h b n) (hn:n≤1000000) (hc:h[c]?=some (.rows 1 e ro rows)) (hcb:c≠b) (hr:rows=xs.map fun x => [.int .i64 x]) (hl:len=xs.length) (h0:0<len) :
  ∃ (x:Int) (h':Heap),evl lo 110 [.ptr (some (b,(0,0))),.sl 1 (some (c,0)) len cc] h=some (.int .i64 x,h')∧x∈xs∧Rd lo h' b (n+1)∧Mv h [b] h' [b]:=by
 obtain ⟨x,h1,e1,g1,g2,r1,m1⟩:=pick r hn ((len:Nat):Int)
 have hlt:=(List.getElem?_eq_some_iff.1 hc).1
 obtain ⟨k,rfl⟩:∃ k:Nat,x=(k:Int):=⟨x.toNat,by omega⟩
 have hk:k<xs.length:=by have:=g2 (by omega);omega
 have hc1:h1[c]?=some (.rows 1 e ro rows):=by rw [m1.fr c hlt (by simpa using hcb)];exact hc
 refine ⟨xs[k],h1,E_spec_l20Rd_one ?_,List.getElem_mem hk,r1,m1⟩
 rw [e1,cal_s,eI_int,inB_nat (by omega),eO_s,Int.toNat_natCast,Nat.zero_add,ld_of hc1 (i:=k) (row := [.int .i64 xs[k]]) (by rw [hr,List.getElem?_map,List.getElem?_eq_getElem hk];rfl)]
 rfl
theorem text_of {c e:Nat}{ro:Bool}{xs:List ByteArray}{rows:List (List V)}{len:Nat}{cc:Option Nat} (r:Rd lo h b n) (hn:n≤1000000) (hc:h[c]?=some (.rows 1 e ro rows)) (hcb:c≠b) (hr:rows=xs.map fun x => [.str x]) (hl:len=xs.length) (h0:0<len) :
  ∃ (x:ByteArray) (h':Heap),evl lo 157 [.ptr (some (b,(0,0))),.sl 1 (some (c,0)) len cc] h=some (.str x,h')∧x∈xs∧Rd lo h' b (n+1)∧Mv h [b] h' [b]:=by
 obtain ⟨x,h1,e1,g1,g2,r1,m1⟩:=pick r hn ((len:Nat):Int)
 have hlt:=(List.getElem?_eq_some_iff.1 hc).1
 obtain ⟨k,rfl⟩:∃ k:Nat,x=(k:Int):=⟨x.toNat,by omega⟩
 have hk:k<xs.length:=by have:=g2 (by omega);omega
 have hc1:h1[c]?=some (.rows 1 e ro rows):=by rw [m1.fr c hlt (by simpa using hcb)];exact hc
 refine ⟨xs[k],h1,E_spec_l20Rd_of ?_,List.getElem_mem hk,r1,m1⟩
 rw [e1,cal_s,eI_int,inB_nat (by omega),eO_s,Int.toNat_natCast,Nat.zero_add,ld_of hc1 (i:=k) (row := [.str xs[k]]) (by rw [hr,List.getElem?_map,List.getElem?_eq_getElem hk];rfl)]
 rfl
theorem one_last {e:Nat} (xs:List Int) {rows:List (List V)}{len:Nat}{cc:Option Nat} (r:Rd lo h b n) (hn:n≤1000000) (hr:rows=xs.map fun x => [.int .i64 x]) (hl:len=xs.length) (h0:0<len) :
  ∃ (x:Int) (h':Heap),evl lo 110 [.ptr (some (b,(0,0))),.sl 1 (some (h.length,0)) len cc] (h ++ [.rows 1 e false rows])=some (.int .i64 x,h')∧x∈xs∧Rd lo h' b (n+1)∧Mv h [b] h' [b]:=by
 have m0:Mv h [b] (h ++ [.rows 1 e false rows]) [b]:=Mv.snoc' (by simp)
 have hlt:=r.lt
 obtain ⟨x,h',e1,g1,r1,m1⟩:=one_of (h:=h ++ [Blk.rows 1 e false rows]) (c:=h.length) (e:=e) (ro:=false) (xs:=xs) (cc:=cc) (r.keep (F := []) (F' := []) Mv.snoc (by simp) (by simp)) hn (by simp) (by omega) hr hl h0
 exact ⟨x,h',e1,g1,r1,m0.trans m1⟩
theorem text_last {e:Nat} (xs:List ByteArray) {rows:List (List V)}{len:Nat}{cc:Option Nat} (r:Rd lo h b n) (hn:n≤1000000) (hr:rows=xs.map fun x => [.str x]) (hl:len=xs.length) (h0:0<len) :
  ∃ (x:ByteArray) (h':Heap),evl lo 157 [.ptr (some (b,(0,0))),.sl 1 (some (h.length,0)) len cc] (h ++ [.rows 1 e false rows])=some (.str x,h')∧x∈xs∧Rd lo h' b (n+1)∧Mv h [b] h' [b]:=by
 have m0:Mv h [b] (h ++ [.rows 1 e false rows]) [b]:=Mv.snoc' (by simp)
 have hlt:=r.lt
 obtain ⟨x,h',e1,g1,r1,m1⟩:=text_of (h:=h ++ [Blk.rows 1 e false rows]) (c:=h.length) (e:=e) (ro:=false) (xs:=xs) (cc:=cc) (r.keep (F := []) (F' := []) Mv.snoc (by simp) (by simp)) hn (by simp) (by omega) hr hl h0
 exact ⟨x,h',e1,g1,r1,m0.trans m1⟩
theorem flat_nil' {α β:Type}:∀ (l:List α),(l.map fun _=>([]:List β)).flatten = []
 | []=>rfl
 | _ :: l=>by simp [flat_nil' l]
theorem open_code {a:Option (Nat×Nat)}{c:Option Nat}{l:List UInt8} (hs:RBytes h [.sl 1 a l.length c] l F) (hF:∀ y∈F,y<lo) (hlo:lo≤h.length) (hl:l.length≤1048576) (hcap:∀ k,c=some k→l.length≤k) :
  ∃ (b:Nat) (h':Heap),evl lo 107 [.sl 1 a l.length c] h=some (.ptr (some (b,(0,0))),h')∧Rd lo h' b 0∧Mv h [] h' [b]:=by
 refine ⟨h.length,?_⟩
 suffices hk:∃ h',_=some (V.ptr (some (h.length,(0,0))),h')∧Rd lo h' h.length 0∧Mv h [] h' [h.length] from by
  obtain ⟨h',e,g⟩:=hk
  exact ⟨h',E_spec_l20Open e,g⟩
 by_cases h2:l.length>2000
 ·have hre:∀ {T:Type} (K:Option (Nat×Nat)→Nat→Option Nat→Option T),reslice a l.length c none (some (.int .i64 2000)) none K=K a 2000 c:=fun K=>by
   unfold reslice slMax slHi slLo
   cases c with
   | none=>simp only [eI_int];rw [inS_in ⟨by omega,by omega⟩];rfl
   | some k=>have:=hcap k rfl;simp only [eI_int];rw [inS_in ⟨by omega,by omega⟩];rfl
  have ht:RBytes h [.sl 1 a (l.take 2000).length c] (l.take 2000) F:=by
   obtain ⟨R',a',c',e,hR,hh⟩:=hs
   injection e with e _;injection e with e0 e1 e2 e3
   subst e1;subst e3
   refine ⟨1,a,c,rfl,rfl,?_⟩
   rcases hh with ⟨g,_⟩ | ⟨b,i,rs,Fs,g0,g1,g2,g3,g4⟩
   ·rw [g] at h2;simp at h2
   ·have hfl:=EAll.of_flat g3
    refine .inr ⟨b,i,rs,(l.take 2000).map fun _ => [],g0,g1,by simp;omega,?_,?_⟩
    ·have:(rs.drop i).take (l.take 2000).length=(l.take 2000).map bcs:=by
      rw [List.map_take,← hfl.1,List.take_take]
      congr 1;simp
     rw [this];exact EAll.flat
    ·rw [g4,hfl.2,flat_nil']
  have hlen:(l.take 2000).length=2000:=by simp;omega
  rw [br_pos (by omega),hre]
  refine ⟨_,rfl,⟨hlo,a,l.take 2000,c,0,F,?_,(Mv.snoc (t := [_])).keep0 (Sli.ok flat_ok) ht,hF,Nat.le_refl _,by omega⟩,Mv.last⟩
  rw [hlen];simp
 ·rw [br_neg (by omega)]
  exact ⟨_,rfl,⟨hlo,a,l,c,0,F,by simp,(Mv.snoc (t := [_])).keep0 (Sli.ok flat_ok) hs,hF,Nat.le_refl _,hl⟩,Mv.last⟩
end
end Go.Proofs.YthdfojchihooeaaGreat
namespace Go.Proofs.YthdfojchihooeaaGreat
open Go T


set_option maxRecDepth 100000
theorem Mv.draw {h h1 h2:Heap}{A F1 F2:List Nat}{b:Nat} (m1:Mv h A h1 (b :: F1)) (m2:Mv h1 [b] h2 (b :: F2)) (hb:∀ y∈F1,y<h1.length):Mv h A h2 (b ::(F2++F1)) :=
 m1.trans (m2.aside (G:=F1) m1.nd hb)
theorem Mv.draw0 {h h1 h2:Heap}{A F1:List Nat}{b:Nat} (m1:Mv h A h1 (b :: F1)) (m2:Mv h1 [b] h2 [b]) (hb:∀ y∈F1,y<h1.length):Mv h A h2 (b :: F1):=m1.draw m2 hb
theorem Mv.draw1 {h h1 h2:Heap}{A F1 F2:List Nat}{b:Nat} (m1:Mv h A h1 (b :: F1)) (m2:Mv h1 F1 h2 F2) (hb:b<h1.length):Mv h A h2 (b :: F2):=by
 have hn:=m1.nd
 rw [List.nodup_cons] at hn
 exact m1.trans (m2.cons hb hn.1 hn.2)
theorem Mv.apart {h h1:Heap}{A F1:List Nat}{b:Nat} (m:Mv h A h1 (b :: F1)):∀ y∈F1,y ∉ [b]:=fun y hy hm=>by
 have hn:=m.nd
 rw [List.nodup_cons] at hn
 rw [List.mem_singleton] at hm
 exact hn.1 (hm ▸ hy)
section
variable {lo:Nat}{h h':Heap}{F F':List Nat}{b n:Nat}
theorem Rd.keepF {A F1 F2:List Nat}{h1 h2:Heap} (r:Rd lo h1 b n) (m:Mv h A h1 (b :: F1)) (m2:Mv h1 F1 h2 F2) (hF:∀ y∈F1,lo≤y):Rd lo h2 b n:=by
 have hn:=m.nd
 rw [List.nodup_cons] at hn
 exact r.keep m2 hn.1 hF
theorem tag_draw (r:Rd lo h b n) (hn:n≤900000):∃ (t:Tag) (h':Heap),evl lo 260 [.ptr (some (b,(0,0)))] h=some (.agg t.cs,h')∧(tagOk t.time t.place=true∧t.time≤9)∧Rd lo h' b (n+3)∧Mv h [b] h' [b]:=by
 obtain ⟨x,h1,e1,g1,g1',r1,m1⟩:=pick r (by omega) 3
 suffices hk:∃ (t:Tag) (h':Heap),_=some (V.agg t.cs,h')∧(tagOk t.time t.place=true∧t.time≤9)∧Rd lo h' b (n+3)∧Mv h [b] h' [b] from by
  obtain ⟨t,h',e,g⟩:=hk
  exact ⟨t,h',E_spec_l20Tag e,g⟩
 rw [e1,cal_s,eI_int]
 cases hx:(x==(0:Int)) with
 | true =>
  rw [br_t]
  exact ⟨⟨0,0⟩,h1,rfl,⟨rfl,by show (0:Int)≤9;decide⟩,r1.up (by omega),m1⟩
 | false =>
  obtain ⟨y,h2,e2,g2,g2',r2,m2⟩:=pick r1 (by omega) 9
  obtain ⟨z,h3,e3,g3,g3',r3,m3⟩:=pick r2 (by omega) 3
  have hy:=g2' (by omega)
  have hz:=g3' (by omega)
  rw [br_f,e2,cal_s,eI_int,e3,cal_s,eI_int,wr (by omega) (by omega)]
  exact ⟨⟨1+y,z⟩,h3,rfl,⟨by simp [tagOk,within];omega,by show 1+y≤9;omega⟩,r3,(m1.trans m2).trans m3⟩
theorem anytag_draw (r:Rd lo h b n) (hn:n≤890000):∃ (t:Tag) (h':Heap),evl lo 246 [.ptr (some (b,(0,0)))] h=some (.agg t.cs,h')∧Rd lo h' b (n+4)∧Mv h [b] h' [b]:=by
 obtain ⟨x,h1,e1,g1,g1',r1,m1⟩:=pick r (by omega) 8
 suffices hk:∃ (t:Tag) (h':Heap),_=some (V.agg t.cs,h')∧Rd lo h' b (n+4)∧Mv h [b] h' [b] from by
  obtain ⟨t,h',e,g⟩:=hk
  exact ⟨t,h',E_spec_l20AnyTag e,g⟩
 rw [e1,cal_s,eI_int]
 cases hx:(x==(0:Int)) with
 | true =>
  obtain ⟨y,h2,e2,_,r2,m2⟩:=one_last (e:=3) [0,-1,1000,999] (rows := [[.int .i64 0],[.int .i64 (-1)],[.int .i64 1000],[.int .i64 999]]) (len:=4) (cc:=some 4) r1 (by omega) rfl rfl (by decide)
  obtain ⟨z,h3,e3,_,r3,m3⟩:=one_last (e:=3) [0,1,3,-1] (rows := [[.int .i64 0],[.int .i64 1],[.int .i64 3],[.int .i64 (-1)]]) (len:=4) (cc:=some 4) r2 (by omega) rfl rfl (by decide)
  rw [br_t,e2,cal_s,eI_int,e3,cal_s,eI_int]
  exact ⟨⟨y,z⟩,h3,rfl,r3.up (by omega),(m1.trans m2).trans m3⟩
 | false =>
  obtain ⟨t,h2,e2,_,r2,m2⟩:=tag_draw r1 (by omega)
  simp only [Tag.cs] at e2
  rw [br_f,e2,cal_s,eA_a,eC_c,eI_int,eC_c,eI_int,eN_n]
  exact ⟨t,h2,rfl,r2,m1.trans m2⟩
theorem drawn_text (r:Rd lo h b n) (hn:n≤900000):∃ (s:ByteArray) (h':Heap),evl lo 263 [.ptr (some (b,(0,0)))] h=some (.str s,h')∧textOk s=true∧Rd lo h' b (n+1)∧Mv h [b] h' [b]:=by
 obtain ⟨s,h1,e1,g1,r1,m1⟩:=text_last (e:=9) [⟨⟨[]⟩⟩,⟨⟨[97]⟩⟩,⟨⟨[98]⟩⟩,⟨⟨[120,35,49]⟩⟩,⟨⟨[61]⟩⟩,⟨⟨[45]⟩⟩,⟨⟨[108,111,110,103,116,101,120,116]⟩⟩,⟨⟨[122,122]⟩⟩]
  (rows := [[.str ⟨⟨[]⟩⟩],[.str ⟨⟨[97]⟩⟩],[.str ⟨⟨[98]⟩⟩],[.str ⟨⟨[120,35,49]⟩⟩],[.str ⟨⟨[61]⟩⟩],[.str ⟨⟨[45]⟩⟩],[.str ⟨⟨[108,111,110,103,116,101,120,116]⟩⟩],[.str ⟨⟨[122,122]⟩⟩]]) (len:=8) (cc:=some 8) r (by omega) rfl rfl (by decide)
 refine ⟨s,h1,E_spec_l20Text ?_,?_,r1,m1⟩
 ·rw [e1,cal_s,eT_s]
 ·have:∀ x∈([⟨⟨[]⟩⟩,⟨⟨[97]⟩⟩,⟨⟨[98]⟩⟩,⟨⟨[120,35,49]⟩⟩,⟨⟨[61]⟩⟩,⟨⟨[45]⟩⟩,⟨⟨[108,111,110,103,116,101,120,116]⟩⟩,⟨⟨[122,122]⟩⟩]:List ByteArray),textOk x=true:=List.all_eq_true.1 (by decide)
  exact this s g1
theorem Sli.made {α:Type}{cs:α→List V}{R e:Nat}{rows:List (List V)}{l:List α} (hr:rows=l.map cs):Sli false R e (flat cs) (h ++ [.rows R e false rows]) [.sl R (some (h.length,0)) l.length (some l.length)] l [h.length]:=by
 subst hr
 refine ⟨R,some (h.length,0),some l.length,rfl,rfl,l.map cs,l.map fun _ => [],by simp,by simp,fun k hk=>by injection hk with hk;simp;omega,(fun hc=>(by cases hc)),?_,by rw [flat_nil']⟩
 rw [List.drop_zero,List.take_of_length_le (by simp)]
 exact EAll.flat
def noneT:List Tag := [⟨0,0⟩,⟨0,0⟩,⟨0,0⟩,⟨0,0⟩]
theorem spec_l1None:∃ h' q,evl lo 155 [] h=some (.agg [.sl 2 (some (q,0)) 4 (some 4)],h')∧RTags false h' [.sl 2 (some (q,0)) 4 (some 4)] noneT [q]∧Mv h [] h' [q] :=
 ⟨_,h.length,E_spec_l1None rfl,Sli.made (l:=noneT) rfl,Mv.last⟩
theorem ver_mk {v:Ver} (h1:0≤v.key∧v.key≤3) (h2:textOk v.text=true) (h3:v.gone=true→noText v.text=true) (h4:pastOk v.past=true) (h5:tagOk v.tag.time v.tag.place=true) (h6:∀ t∈v.past,t.time<v.tag.time) (h7:0<v.tag.time):verOk v=true:=by
 unfold verOk written
 rw [h2,h4,h5,decide_eq_true (latest_lt.2 ⟨h7,h6⟩)]
 have:within v.key 0 3=true:=by simp [within];omega
 rw [this]
 cases hg:v.gone with
 | false=>rfl
 | true=>rw [h3 hg];rfl
theorem flat_drop {Fs:List (List Nat)}:(Fs.drop 1).flatten.Sublist Fs.flatten:=by
 cases Fs with
 | nil=>simp
 | cons F Fs=>simp only [List.drop_succ_cons,List.drop_zero,List.flatten_cons];exact List.sublist_append_right _ _
theorem Sli.behind {α:Type}{El:Rel α}{R e q i k m:Nat}{l:List α} (hs:Sli false R e El h [.sl R (some (q,i)) m (some k)] l F) (h0:0<l.length) (hnd:F.Nodup) :
  (∀ {T:Type} (K:Option (Nat×Nat)→Nat→Option Nat→Option T),1<k→reslice (some (q,i)) m (some k) (some (.int .i64 1)) none none K=K (some (q,i+1)) (l.drop 1).length (some (k - 1))) ∧
   ∃ F',Sli false R e El h [.sl R (some (q,i+1)) (l.drop 1).length (some (k - 1))] (l.drop 1) F'∧F'.Nodup∧∀ y∈F',y∈F:=by
 have hm:=hs.val
 subst hm
 obtain ⟨b',i',rs,Fs,ha,g1,g2,g3,g4,g5,rfl⟩:=hs.data h0
 injection ha with ha;injection ha with e1 e2;subst e1;subst e2
 obtain ⟨k1,k2⟩:=g3 k rfl
 refine ⟨fun K hk=>?_,q ::(Fs.drop 1).flatten,⟨R,some (q,i+1),some (k - 1),rfl,rfl,rs,Fs.drop 1,g1,by simp;omega,fun k' hk=>?_,(fun hc=>(by cases hc)),?_,rfl⟩,?_,fun y hy=>?_⟩
 ·unfold reslice slMax slHi slLo slAt
  simp only [eI_int,Option.isNone_none]
  rw [inS_in ⟨by omega,by omega⟩]
  have:Nat.beq k (Int.toNat 1)=false:=by
   cases hb:Nat.beq k (Int.toNat 1) with
   | false=>rfl
   | true =>
    have:=Nat.eq_of_beq_eq_true hb
    have e:Int.toNat 1=1:=rfl
    omega
  rw [this,br_f,List.length_drop];rfl
 ·injection hk with hk;subst hk
  simp only [List.length_drop];omega
 ·have hd:=g5.drop 1
  have:((rs.drop i).take l.length).drop 1=(rs.drop (i+1)).take (l.drop 1).length:=by
   rw [List.drop_take,List.drop_drop,List.length_drop]
  rw [← this];exact hd
 ·rw [List.nodup_cons] at hnd ⊢
  have hsub:(Fs.drop 1).flatten.Sublist Fs.flatten:=flat_drop
  exact ⟨fun hm=>hnd.1 (hsub.mem hm),hnd.2.sublist hsub⟩
 ·have hsub:(Fs.drop 1).flatten.Sublist Fs.flatten:=flat_drop
  rw [List.mem_cons] at hy ⊢
  exact hy.imp id fun hy=>hsub.mem hy
theorem Sli.fresh_put {α:Type}{El:Rel α} (ok:El.Ok) {R e m k:Nat}{a:Option (Nat×Nat)}{c:Option Nat}{l:List α}{E:List Nat} (hs:Sli false R e El h [.sl R a m c] l F) (hk:k<l.length) (hnd:(F++E).Nodup) (hlo:∀ y∈F,lo≤y) :
  ∃ b i row G,a=some (b,i)∧(∃ rs,h[b]?=some (.rows R e false rs)∧rs[i+k]?=some row)∧El h row l[k] G∧(∀ y∈G,y∈F) ∧
   ∀ j cs row' x' G',paste row j cs=some row'→El h row' x' G'→G'.Nodup→(∀ y∈G',y∈G∨y∈E) →
    ∃ h2 F2,st lo h b (i+k) j cs=some h2∧Sli false R e El h2 [.sl R a m c] (l.set k x') F2∧Mv h (F++E) h2 F2:=by
 have hnd0:=hnd
 rw [List.nodup_append] at hnd0
 obtain ⟨hn1,hn2,hn3⟩:=hnd0
 have hbd:=(Sli.ok ok).bd _ _ _ _ hs
 obtain ⟨b',i',rs,row,G,ha,hbF,hbG,hb,hrow,hel,hGF,hGn,put⟩:=hs.put ok.fr hk hn1
 have hblt:=hbd b' hbF
 refine ⟨b',i',row,G,ha,⟨rs,hb,hrow⟩,hel,hGF,fun j cs row' x' G' hp hx hGn' hG'=>?_⟩
 have e2:=st_first hb (hlo b' hbF) hrow hp
 have hbG':b'∉G':=fun hm=>by
  rcases hG' b' hm with g | g
  ·exact hbG g
  ·exact hn3 b' hbF b' g rfl
 have fr2:∀ y,y≠b'→(h.set b' (.rows R e false (rs.set (i'+k) row')))[y]?=h[y]?:=fun y hy=>List.getElem?_set_ne (Ne.symm hy)
 obtain ⟨F2,p1,p2,p3,_⟩:=put (h.set b' (.rows R e false (rs.set (i'+k) row'))) row' x' G' (by simp [hblt]) (fun y hy hyb _=>fr2 y hyb) (ok.fr _ _ _ _ _ hx fun y hy=>fr2 y fun e=>hbG' (e ▸ hy)) hGn' (fun y hy hyF=>by
  rcases hG' y hy with g | g
  ·exact g
  ·exact absurd rfl (hn3 y hyF y g))
 refine ⟨_,F2,e2,p1,by simp,fun y hy hyF=>fr2 y fun e=>hyF (e ▸ List.mem_append_left _ hbF),p3,fun y hy => .inl ?_⟩
 rcases p2 y hy with g | g
 ·exact List.mem_append_left _ g.1
 ·rcases hG' y g with g | g
  ·exact List.mem_append_left _ (hGF y g)
  ·exact List.mem_append_right _ g
theorem ver_draw (r:Rd lo h b n) (hn:n≤800000) (hl:lo≤h.length):∃ (v:Ver) (q:Nat) (h':Heap) (F':List Nat),evl lo 245 [.ptr (some (b,(0,0)))] h=some (.agg (v.cs (some (q,0)) (some 4)),h')∧RTags false h' [.sl 2 (some (q,0)) v.past.length (some 4)] v.past F'∧verOk v=true∧Rd lo h' b (n+20)∧Mv h [b] h' (b :: F'):=by
 obtain ⟨key,h1,e1,g1,g1',r1,m1⟩:=pick r (by omega) 4
 obtain ⟨h2,q,e2,t2,m2⟩:=spec_l1None (lo:=lo) (h:=h1)
 have r2:=r1.keep m2 (by simp) (by simp)
 obtain ⟨s,h3,e3,gs,r3,m3⟩:=drawn_text r2 (by omega)
 have hb1:=r1.lt
 have hbq:b≠q:=by have:=m2.new q (by simp);omega
 have m12:Mv h [b] h2 (b :: [q]):=m1.draw1 (F1 := []) m2 hb1
 have t3:RTags false h3 [.sl 2 (some (q,0)) 4 (some 4)] noneT [q]:=m3.keep rtags_ok t2 (by simpa using fun e=>hbq e.symm)
 have hq2:∀ y ∈ [q],y<h2.length:=rtags_ok.bd _ _ _ _ t2
 have m13:Mv h [b] h3 (b :: [q]):=m12.draw0 m3 hq2
 have hkey:=g1' (by omega)
 suffices hk:∃ (v:Ver) (h':Heap) (F':List Nat),_=some (V.agg (v.cs (some (q,0)) (some 4)),h')∧RTags false h' [.sl 2 (some (q,0)) v.past.length (some 4)] v.past F'∧verOk v=true∧Rd lo h' b (n+20)∧Mv h [b] h' (b :: F') from by
  obtain ⟨v,h',F',e,g⟩:=hk
  exact ⟨v,q,h',F',E_spec_l20Ver e,g⟩
 rw [e1,cal_s,eI_int,e2,cal_s,eA_a,eC_c,eS_sl,eN_n,e3,cal_s,eT_s]
 have loop:∀ (m i:Nat) (x4:Int) (l:List Tag) (hh:Heap) (F:List Nat),m+i=4→0≤x4→x4≤9→l.length=4→(∀ t∈l,tagOk t.time t.place=true∧t.time≤x4)→RTags false hh [.sl 2 (some (q,0)) 4 (some 4)] l F→Rd lo hh b (n+2+3*i)→Mv h [b] hh (b :: F) →
   ∃ (v:Ver) (h':Heap) (F':List Nat),L_spec_l20Ver_0 lo b 0 0 x4 ((i:Nat):Int) 0 0 0 0 none 0 (some 0) ⟨⟨[]⟩⟩ false key 0 0 (some (q,0)) 4 (some 4) s false hh=some (V.agg (v.cs (some (q,0)) (some 4)),h')∧RTags false h' [.sl 2 (some (q,0)) v.past.length (some 4)] v.past F'∧verOk v=true∧Rd lo h' b (n+20)∧Mv h [b] h' (b :: F'):=by
  intro m
  induction m with
  | zero =>
   intro i x4 l hh F hi h0 h9 h4 hall ht rr mm
   have hi4:i=4:=by omega
   subst hi4
   obtain ⟨k1,p1,f1,u1,v1,s1,n1⟩:=pick rr (by omega) 3
   obtain ⟨k2,p2,f2,u2,v2,s2,n2⟩:=pick s1 (by omega) 3
   obtain ⟨k3,p3,f3,u3,v3,s3,n3⟩:=pick s2 (by omega) 6
   have hFb:=rtags_ok.bd _ _ _ _ ht
   have nn:=(n1.trans n2).trans n3
   have t':RTags false p3 [.sl 2 (some (q,0)) 4 (some 4)] l F:=nn.keep rtags_ok ht mm.apart
   have mm':=mm.draw0 nn hFb
   have w1:=v1 (by omega)
   have w2:=v2 (by omega)
   have hpo:pastOk l=true:=by
    simp only [pastOk,Bool.and_eq_true,decide_eq_true_eq,List.all_eq_true]
    exact ⟨h4,fun t ht=>(hall t ht).1⟩
   have htg:tagOk (x4+1+k1) k2=true:=by simp [tagOk,within];omega
   rw [L_spec_l20Ver_0.e,br_neg (by omega),f1,cal_s,eI_int,f2,cal_s,eI_int,f3,cal_s,eI_int,wr (n:=x4+1) (by omega) (by omega),wr (n:=x4+1+k1) (by omega) (by omega)]
   cases k3==(0:Int) with
   | true =>
    rw [br_t]
    refine ⟨⟨key,⟨x4+1+k1,k2⟩,l,⟨⟨[]⟩⟩,true⟩,p3,F,by simp only [Ver.cs,h4],by simp only [h4];exact t',ver_mk ⟨g1,by show key≤3;omega⟩ rfl (fun _=>rfl) hpo htg (fun t ht=>?_) (by show 0<x4+1+k1;omega),s3.up (by omega),mm'⟩
    have:=(hall t ht).2
    show t.time<x4+1+k1
    omega
   | false =>
    rw [br_f]
    refine ⟨⟨key,⟨x4+1+k1,k2⟩,l,s,false⟩,p3,F,by simp only [Ver.cs,h4],by simp only [h4];exact t',ver_mk ⟨g1,by show key≤3;omega⟩ gs (fun hc=>by cases hc) hpo htg (fun t ht=>?_) (by show 0<x4+1+k1;omega),s3.up (by omega),mm'⟩
    have:=(hall t ht).2
    show t.time<x4+1+k1
    omega
  | succ m ih =>
   intro i x4 l hh F hi h0 h9 h4 hall ht rr mm
   have hil:i<l.length:=by omega
   obtain ⟨t,p1,f1,⟨u1,u2⟩,s1,n1⟩:=tag_draw rr (by omega)
   have hFb:=rtags_ok.bd _ _ _ _ ht
   have t1:RTags false p1 [.sl 2 (some (q,0)) 4 (some 4)] l F:=n1.keep rtags_ok ht mm.apart
   have mm1:=mm.draw0 n1 hFb
   have hnd1:=mm1.nd
   rw [List.nodup_cons] at hnd1
   have hlo1:∀ y∈b :: F,lo≤y:=fun y hy=>mm1.ge hl (fun z hz=>by rw [List.mem_singleton] at hz;subst hz;exact r.ge) y hy
   have hloF:∀ y∈F,lo≤y:=fun y hy=>hlo1 y (by simp [hy])
   obtain ⟨b',i',rs,row,G,ha,hbF,hbG,hbb,hrow,⟨hr1,hG⟩,hGF,hGn,_,put⟩:=Sli.at (lo:=lo) flat_ok t1 hil hnd1.2 hloF
   injection ha with ha;injection ha with z1 z2;subst z1;subst z2
   subst hG
   obtain ⟨h5,F5,e5,t5,m5,hb5,_,_⟩:=put p1 [] 0 [.int .i64 t.time,.int .i64 t.place] t.cs t Mv.nil (by rw [hr1];exact paste_all rfl) ⟨rfl,rfl⟩
   have l5:ld h5 q (0+i) 0 1=some [.int .i64 t.time]:=by
    rw [ld_of hb5 (row:=t.cs) (List.getElem?_set_self (List.getElem?_eq_some_iff.1 hrow).1)];rfl
   have s5:=s1.keepF mm1 m5 hloF
   have mm5:=mm1.draw1 m5 s1.lt
   have hall5:∀ x,x4≤x→t.time≤x→∀ u∈l.set i t,tagOk u.time u.place=true∧u.time≤x:=fun x hx1 hx2 u hu=>by
    rcases List.mem_or_eq_of_mem_set hu with hu | rfl
    ·have:=hall u hu;exact ⟨this.1,by omega⟩
    ·exact ⟨u1,hx2⟩
   simp only [Tag.cs] at f1
   have ht0:=(tagOk_time u1).1
   rw [L_spec_l20Ver_0.e,br_pos (by omega),f1,cal_s,eA_a,eC_c,eI_int,eC_c,eI_int,eN_n,inB_nat (by omega),eO_s,Int.toNat_natCast,e5,eO_s,inB_nat (by omega),eO_s,l5,eO_s,eC_c,eN_n,eI_int,wr_succ (by omega)]
   by_cases hc:t.time>x4
   ·rw [br_pos hc,inB_nat (by omega),eO_s,l5,eO_s,eC_c,eN_n,eI_int]
    exact ih (i+1) t.time (l.set i t) h5 F5 (by omega) ht0 u2 (by simpa using h4) (hall5 _ (by omega) (Int.le_refl _)) t5 (s5.up (by omega)) mm5
   ·rw [br_neg hc]
    exact ih (i+1) x4 (l.set i t) h5 F5 (by omega) h0 h9 (by simpa using h4) (hall5 _ (Int.le_refl _) (by omega)) t5 (s5.up (by omega)) mm5
 exact loop 4 0 0 noneT h3 [q] rfl (Int.le_refl _) (by decide) rfl (by intro t ht;simp [noneT] at ht;subst ht;exact ⟨rfl,Int.le_refl _⟩) t3 (r3.up (by omega)) m13
end
end Go.Proofs.YthdfojchihooeaaGreat
namespace Go.Proofs.YthdfojchihooeaaGreat
open Go T


set_option maxRecDepth 100000
section
variable {lo:Nat}{h h':Heap}{F F':List Nat}{b n:Nat}
theorem Mv.thin {A F1 F2:List Nat}{h1:Heap} (m:Mv h A h1 (b :: F1)) (hn:F2.Nodup) (hs:∀ y∈F2,y∈F1):Mv h A h1 (b :: F2):=by
 have hn1:=m.nd
 rw [List.nodup_cons] at hn1
 refine m.lean (List.nodup_cons.2 ⟨fun hm=>hn1.1 (hs b hm),hn⟩) fun y hy=>?_
 rw [List.mem_cons] at hy ⊢
 exact hy.imp id (hs y)
theorem anyver_draw (r:Rd lo h b n) (hn:n≤700000) (hl:lo≤h.length):∃ (v:Ver) (a:Option (Nat×Nat)) (c:Option Nat) (h':Heap) (F':List Nat),evl lo 132 [.ptr (some (b,(0,0)))] h=some (.agg (v.cs a c),h')∧RTags false h' [.sl 2 a v.past.length c] v.past F'∧(v.past.length≤4∧v.text.size≤10)∧Rd lo h' b (n+40)∧Mv h [b] h' (b :: F'):=by
 obtain ⟨v,q,h1,F1,e1,t1,hv,r1,m1⟩:=ver_draw r (by omega) hl
 obtain ⟨x,h2,e2,g,g',r2,m2⟩:=pick r1 (by omega) 10
 have hF1:=rtags_ok.bd _ _ _ _ t1
 have t2:=m2.keep rtags_ok t1 m1.apart
 have m12:=m1.draw0 m2 hF1
 have hF2:=rtags_ok.bd _ _ _ _ t2
 have hth:=thin_ok hv
 have h4:v.past.length=4:=pastOk_len (verOk_parts hv).2.2.2.1
 have hsz:v.past.length≤4∧v.text.size≤10:=⟨by omega,by have:=hth.2.1;omega⟩
 have hlo2:∀ y∈F1,lo≤y:=fun y hy=>m12.ge hl (fun z hz=>by rw [List.mem_singleton] at hz;subst hz;exact r.ge) y (by simp [hy])
 have hnd2:=m12.nd
 rw [List.nodup_cons] at hnd2
 suffices hk:∃ (v:Ver) (a:Option (Nat×Nat)) (c:Option Nat) (h':Heap) (F':List Nat),_=some (V.agg (v.cs a c),h')∧RTags false h' [.sl 2 a v.past.length c] v.past F'∧(v.past.length≤4∧v.text.size≤10)∧Rd lo h' b (n+40)∧Mv h [b] h' (b :: F') from by
  obtain ⟨v,a,c,h',F',e,gg⟩:=hk
  exact ⟨v,a,c,h',F',E_spec_l20AnyVer e,gg⟩
 simp only [Ver.cs] at e1
 rw [e1,cal_s,eA_a,eC_c,eI_int,eC_c,eI_int,eC_c,eI_int,eC_c,eS_sl,eC_c,eT_s,eC_c,eBv_b,eN_n,e2,cal_s,eI_int]
 cases x==(0:Int) with
 | true =>
  obtain ⟨k,h3,e3,_,r3,m3⟩:=one_last (e:=3) [-1,4] (rows := [[.int .i64 (-1)],[.int .i64 4]]) (len:=2) (cc:=some 2) r2 (by omega) rfl rfl (by decide)
  rw [br_t,e3,cal_s,eI_int]
  exact ⟨⟨k,v.tag,v.past,v.text,v.gone⟩,_,_,h3,F1,rfl,m3.keep rtags_ok t2 m12.apart,hsz,r3.up (by omega),m12.draw0 m3 hF2⟩
 | false =>
 rw [br_f]
 cases x==(1:Int) with
 | true =>
  obtain ⟨s,h3,e3,hs,r3,m3⟩:=text_last (e:=9) [⟨⟨[97,32,98]⟩⟩,⟨⟨[116,111,111,108,111,110,103,101,114]⟩⟩,⟨⟨[10]⟩⟩] (rows := [[.str ⟨⟨[97,32,98]⟩⟩],[.str ⟨⟨[116,111,111,108,111,110,103,101,114]⟩⟩],[.str ⟨⟨[10]⟩⟩]]) (len:=3) (cc:=some 3) r2 (by omega) rfl rfl (by decide)
  have hs10:s.size≤10:=by
   have:∀ x∈([⟨⟨[97,32,98]⟩⟩,⟨⟨[116,111,111,108,111,110,103,101,114]⟩⟩,⟨⟨[10]⟩⟩]:List ByteArray),decide (x.size≤10)=true:=List.all_eq_true.1 (by decide)
   exact of_decide_eq_true (this s hs)
  rw [br_t,e3,cal_s,eT_s]
  exact ⟨⟨v.key,v.tag,v.past,s,v.gone⟩,_,_,h3,F1,rfl,m3.keep rtags_ok t2 m12.apart,⟨hsz.1,hs10⟩,r3.up (by omega),m12.draw0 m3 hF2⟩
 | false =>
 rw [br_f]
 cases x==(2:Int) with
 | true =>
  obtain ⟨er,F3,t3,n3,s3⟩:=t2.behind (by omega) hnd2.2
  rw [br_t,er _ (by decide)]
  exact ⟨⟨v.key,v.tag,v.past.drop 1,v.text,v.gone⟩,_,_,h2,F3,rfl,t3,⟨by simp;omega,hsz.2⟩,r2.up (by omega),m12.thin n3 s3⟩
 | false =>
 rw [br_f]
 cases x==(3:Int) with
 | true =>
  obtain ⟨k,h3,e3,k1,k2,r3,m3⟩:=pick r2 (by omega) 4
  have t3:=m3.keep rtags_ok t2 m12.apart
  have m13:=m12.draw0 m3 hF2
  have k3:=k2 (by omega)
  obtain ⟨f,rfl⟩:∃ f:Nat,k=(f:Int):=⟨k.toNat,by omega⟩
  obtain ⟨b',i',rs,row,G,ha,hbF,hbG,hbb,hrow,⟨hr1,hG⟩,hGF,hGn,_,put⟩:=Sli.at (lo:=lo) flat_ok t3 (show f<v.past.length by omega) hnd2.2 hlo2
  injection ha with ha;injection ha with z1 z2;subst z1;subst z2
  subst hG
  obtain ⟨h5,F5,e5,t5,m5,hb5,_,_⟩:=put h3 [] 0 [.int .i64 50,.int .i64 1] (Tag.cs ⟨50,1⟩) ⟨50,1⟩ Mv.nil (by rw [hr1];exact paste_all rfl) ⟨rfl,rfl⟩
  rw [br_t,e3,cal_s,eI_int,inB_nat (by omega),eO_s,Int.toNat_natCast,e5,eO_s]
  have t5':RTags false h5 [.sl 2 (some (q,0)) (v.past.set f ⟨50,1⟩).length (some 4)] (v.past.set f ⟨50,1⟩) F5:=by rw [List.length_set];exact t5
  exact ⟨⟨v.key,v.tag,v.past.set f ⟨50,1⟩,v.text,v.gone⟩,some (q,0),some 4,h5,F5,by simp only [Ver.cs,List.length_set],t5',⟨by simp;omega,hsz.2⟩,(r3.keepF m13 m5 hlo2).up (by omega),m13.draw1 m5 r3.lt⟩
 | false =>
 rw [br_f]
 cases x==(4:Int) with
 | true =>
  obtain ⟨t,h3,e3,r3,m3⟩:=anytag_draw r2 (by omega)
  simp only [Tag.cs] at e3
  rw [br_t,e3,cal_s,eA_a,eC_c,eI_int,eC_c,eI_int,eN_n]
  exact ⟨⟨v.key,t,v.past,v.text,v.gone⟩,_,_,h3,F1,rfl,m3.keep rtags_ok t2 m12.apart,hsz,r3.up (by omega),m12.draw0 m3 hF2⟩
 | false =>
 rw [br_f]
 cases x==(5:Int) with
 | true=>exact ⟨⟨v.key,v.tag,v.past,v.text,true⟩,_,_,h2,F1,rfl,t2,hsz,r2.up (by omega),m12⟩
 | false=>exact ⟨v,_,_,h2,F1,rfl,t2,hsz,r2.up (by omega),m12⟩
def zStore:List Ver := [zVer,zVer,zVer,zVer]
theorem zStore_ok:storeOk zStore=true:=by decide
theorem zver_rel:RVer false h [.int .i64 0,.int .i64 0,.int .i64 0,.sl 0 none 0 (some 0),.str ⟨⟨[]⟩⟩,.bool false] zVer []:=⟨_,rfl,Sli.nil⟩
theorem spec_l2New:∃ h' q,evl lo 340 [] h=some (.agg [.sl 6 (some (q,0)) 4 (some 4)],h')∧RVers false h' [.sl 6 (some (q,0)) 4 (some 4)] zStore [q]∧Mv h [] h' [q]:=by
 refine ⟨_,h.length,E_spec_l2New rfl,⟨6,some (h.length,0),some 4,rfl,rfl,[[.int .i64 0,.int .i64 0,.int .i64 0,.sl 0 none 0 (some 0),.str ⟨⟨[]⟩⟩,.bool false],[.int .i64 0,.int .i64 0,.int .i64 0,.sl 0 none 0 (some 0),.str ⟨⟨[]⟩⟩,.bool false],[.int .i64 0,.int .i64 0,.int .i64 0,.sl 0 none 0 (some 0),.str ⟨⟨[]⟩⟩,.bool false],[.int .i64 0,.int .i64 0,.int .i64 0,.sl 0 none 0 (some 0),.str ⟨⟨[]⟩⟩,.bool false]],[[],[],[],[]],by simp,by decide,fun k hk=>?_,(fun hc=>(by cases hc)),?_,rfl⟩,Mv.last⟩
 ·injection hk with hk;subst hk;exact ⟨by decide,by decide⟩
 ·exact ⟨zver_rel,zver_rel,zver_rel,zver_rel,trivial⟩
theorem store_draw (r:Rd lo h b n) (hn:n≤600000) (hl:lo≤h.length):∃ (l:List Ver) (q:Nat) (h':Heap) (F':List Nat),evl lo 311 [.ptr (some (b,(0,0)))] h=some (.agg [.sl 6 (some (q,0)) l.length (some 4)],h')∧RVers false h' [.sl 6 (some (q,0)) l.length (some 4)] l F'∧storeOk l=true∧Rd lo h' b (n+200)∧Mv h [b] h' (b :: F'):=by
 obtain ⟨h1,q,e1,t1,m1⟩:=spec_l2New (lo:=lo) (h:=h)
 have r1:=r.keep m1 (by simp) (by simp)
 obtain ⟨x,h2,e2,g,g',r2,m2⟩:=pick r1 (by omega) 7
 have m01:Mv h [b] h1 (b :: [q]):=(Mv.refl (F := [b]) (by simp)).draw1 (F1 := []) m1 r.lt
 have hF1:=rvers_ok.bd _ _ _ _ t1
 have t2:=m2.keep rvers_ok t1 m01.apart
 have m12:=m01.draw0 m2 hF1
 suffices hk:∃ (l:List Ver) (h':Heap) (F':List Nat),_=some (V.agg [.sl 6 (some (q,0)) l.length (some 4)],h')∧RVers false h' [.sl 6 (some (q,0)) l.length (some 4)] l F'∧storeOk l=true∧Rd lo h' b (n+200)∧Mv h [b] h' (b :: F') from by
  obtain ⟨l,h',F',e,gg⟩:=hk
  exact ⟨l,q,h',F',E_spec_l20Store e,gg⟩
 rw [e1,cal_s,eA_a,eC_c,eS_sl,eN_n,e2,cal_s,eI_int]
 have loop:∀ (m:Nat) (l:List Ver) (n3:Nat) (hh:Heap) (F:List Nat),m≤6→n3=l.length→storeOk l=true→RVers false hh [.sl 6 (some (q,0)) n3 (some 4)] l F→Rd lo hh b (n+1+21*(6 - m))→Mv h [b] hh (b :: F) →
   ∃ (l:List Ver) (h':Heap) (F':List Nat),L_spec_l20Store_0 lo b 0 0 ((m:Nat):Int) 0 none 0 (some 0) (some (q,0)) n3 (some 4) hh=some (V.agg [.sl 6 (some (q,0)) l.length (some 4)],h')∧RVers false h' [.sl 6 (some (q,0)) l.length (some 4)] l F'∧storeOk l=true∧Rd lo h' b (n+200)∧Mv h [b] h' (b :: F'):=by
  intro m
  induction m with
  | zero =>
   intro l n3 hh F hm hn3 hok ht rr mm
   subst hn3
   rw [L_spec_l20Store_0.e,br_neg (by omega)]
   exact ⟨l,hh,F,rfl,ht,hok,rr.up (by omega),mm⟩
  | succ m ih =>
   intro l n3 hh F hm hn3 hok ht rr mm
   subst hn3
   have hlh:lo≤hh.length:=Nat.le_trans hl mm.le
   obtain ⟨v,qv,h5,F5,e5,t5,hv,r5,m5⟩:=ver_draw rr (by omega) hlh
   have hFb:=rvers_ok.bd _ _ _ _ ht
   have mm5:=mm.draw m5 hFb
   have hnd5:=mm5.nd
   rw [List.nodup_cons,List.nodup_append] at hnd5
   have ht5:RVers false h5 [.sl 6 (some (q,0)) l.length (some 4)] l F:=m5.keep rvers_ok ht mm.apart
   have hlo5:∀ y∈F5++F,lo≤y:=fun y hy=>mm5.ge hl (fun z hz=>by rw [List.mem_singleton] at hz;subst hz;exact r.ge) y (List.mem_cons_of_mem _ hy)
   have h4:=storeOk_len hok
   have hkey:=(verOk_parts hv).1
   obtain ⟨h6,F6,e6,t6,m6⟩:=spec_l2Add (lo:=lo) (av:=some (qv,0)) (cv:=some 4) ht5 t5 hnd5.2.2.1 (fun y hy=>hlo5 y (List.mem_append_right _ hy)) (Nat.le_trans hlh m5.le) ⟨hkey.1,by omega⟩ (by have:=(thin_ok hv).1;omega)
   have hFb5:=rvers_ok.bd _ _ _ _ ht5
   have hT5:=rtags_ok.bd _ _ _ _ t5
   have m5F:Mv h [b] h5 (b :: F):=mm5.thin hnd5.2.2.1 fun y hy=>List.mem_append_right _ hy
   have mm6:=m5F.draw1 m6 r5.lt
   have r6:=r5.keepF m5F m6 (fun y hy=>hlo5 y (List.mem_append_right _ hy))
   simp only [Ver.cs] at e5 e6
   rw [L_spec_l20Store_0.e,br_pos (by omega),e5,cal_s,eA_a,eC_c,eI_int,eC_c,eI_int,eC_c,eI_int,eC_c,eS_sl,eC_c,eT_s,eC_c,eBv_b,eN_n,e6,cal_s,eA_a,eC_c,eS_sl,eN_n,show IntKind.wrap .i64 (((m+1:Nat):Int) - 1)=((m:Nat):Int) from by rw [wr (by omega) (by omega)];omega]
   exact ih (addVer l v) l.length h6 F6 (by omega) addVer_len.symm (storeOk_add hok hv) t6 (r6.up (by omega)) mm6
 have hx:=g' (by omega)
 obtain ⟨k,rfl⟩:∃ k:Nat,x=(k:Int):=⟨x.toNat,by omega⟩
 exact loop k zStore 4 h2 [q] (by omega) rfl zStore_ok t2 (r2.up (by omega)) m12
theorem sm_any {l:List Ver} (hl:l.length≤4) (h:∀ v∈l,v.past.length≤4∧v.text.size≤10):smVers l:=⟨by omega,fun v hv=>by have:=h v hv;omega⟩
theorem store_small {l:List Ver} (h:storeOk l=true):l.length≤4∧∀ v∈l,v.past.length≤4∧v.text.size≤10:=by
 refine ⟨by rw [storeOk_len h];exact Nat.le_refl _,fun v hv=>?_⟩
 obtain ⟨i,hi⟩:=List.mem_iff_getElem?.1 hv
 have:=thin_at (store_at h hi)
 exact ⟨this.1,by have:=this.2.1;omega⟩
theorem anystore_draw (r:Rd lo h b n) (hn:n≤600000) (hl:lo≤h.length):∃ (l:List Ver) (a:Option (Nat×Nat)) (c:Option Nat) (h':Heap) (F':List Nat),evl lo 220 [.ptr (some (b,(0,0)))] h=some (.agg [.sl 6 a l.length c],h')∧RVers false h' [.sl 6 a l.length c] l F'∧(l.length≤4∧∀ v∈l,v.past.length≤4∧v.text.size≤10)∧Rd lo h' b (n+300)∧Mv h [b] h' (b :: F'):=by
 obtain ⟨l,q,h1,F1,e1,t1,hok,r1,m1⟩:=store_draw r hn hl
 obtain ⟨x,h2,e2,g,g',r2,m2⟩:=pick r1 (by omega) 10
 have hF1:=rvers_ok.bd _ _ _ _ t1
 have t2:=m2.keep rvers_ok t1 m1.apart
 have m12:=m1.draw0 m2 hF1
 have hF2:=rvers_ok.bd _ _ _ _ t2
 have hsm:=store_small hok
 have h4:=storeOk_len hok
 have hlo2:∀ y∈F1,lo≤y:=fun y hy=>m12.ge hl (fun z hz=>by rw [List.mem_singleton] at hz;subst hz;exact r.ge) y (by simp [hy])
 have hnd2:=m12.nd
 rw [List.nodup_cons] at hnd2
 suffices hk:∃ (l:List Ver) (a:Option (Nat×Nat)) (c:Option Nat) (h':Heap) (F':List Nat),_=some (V.agg [.sl 6 a l.length c],h')∧RVers false h' [.sl 6 a l.length c] l F'∧(l.length≤4∧∀ v∈l,v.past.length≤4∧v.text.size≤10)∧Rd lo h' b (n+300)∧Mv h [b] h' (b :: F') from by
  obtain ⟨l,a,c,h',F',e,gg⟩:=hk
  exact ⟨l,a,c,h',F',E_spec_l20AnyStore e,gg⟩
 rw [e1,cal_s,eA_a,eC_c,eS_sl,eN_n,e2,cal_s,eI_int]
 cases x==(0:Int) with
 | true =>
  obtain ⟨er,F3,t3,n3,s3⟩:=t2.behind (by omega) hnd2.2
  rw [br_t,er _ (by decide)]
  exact ⟨l.drop 1,_,_,h2,F3,rfl,t3,⟨by simp;omega,fun v hv=>hsm.2 v (List.mem_of_mem_drop hv)⟩,r2.up (by omega),m12.thin n3 s3⟩
 | false =>
 rw [br_f]
 cases x==(1:Int) with
 | true =>
  obtain ⟨k,h3,e3,k1,k2,r3,m3⟩:=pick r2 (by omega) 4
  have m13:=m12.draw0 m3 hF2
  have t3:=m3.keep rvers_ok t2 m12.apart
  have hF3:=rvers_ok.bd _ _ _ _ t3
  have k3:=k2 (by omega)
  obtain ⟨f,rfl⟩:∃ f:Nat,k=(f:Int):=⟨k.toNat,by omega⟩
  obtain ⟨v,av,cv,h5,F5,e5,t5,hv,r5,m5⟩:=anyver_draw r3 (by omega) (Nat.le_trans hl m13.le)
  have m15:=m13.draw m5 hF3
  have t4:=m5.keep rvers_ok t3 m13.apart
  have hnd5:=m15.nd
  rw [List.nodup_cons] at hnd5
  have hnd6:(F1++F5).Nodup:=(List.perm_append_comm.nodup_iff).1 hnd5.2
  have m15':Mv h [b] h5 (b ::(F1++F5)):=m15.lean (List.nodup_cons.2 ⟨fun hm=>hnd5.1 (by simpa [or_comm] using hm),hnd6⟩) fun y hy=>by simpa [or_comm,or_left_comm] using hy
  obtain ⟨b',i',row,G,ha,⟨rs,hb1,hb2⟩,hel,hGF,put⟩:=Sli.fresh_put (lo:=lo) (E:=F5) rver_ok t4 (show f<l.length by omega) hnd6 hlo2
  injection ha with ha;injection ha with z1 z2;subst z1;subst z2
  obtain ⟨sv,hrow,_⟩:=hel
  obtain ⟨h6,F6,e6,t6,m6⟩:=put 0 (v.cs av cv) (v.cs av cv) v F5 (by rw [hrow];exact paste_all rfl) ⟨_,rfl,t5⟩ ((List.nodup_append.1 hnd6).2.1) (fun y hy => .inr hy)
  simp only [Ver.cs] at e5 e6
  rw [br_t,e3,cal_s,eI_int,e5,cal_s,eA_a,eC_c,eI_int,eC_c,eI_int,eC_c,eI_int,eC_c,eS_sl,eC_c,eT_s,eC_c,eBv_b,eN_n,inB_nat (by omega),eO_s,Int.toNat_natCast,e6,eO_s]
  have hlo5:∀ y∈F1++F5,lo≤y:=fun y hy=>m15'.ge hl (fun z hz=>by rw [List.mem_singleton] at hz;subst hz;exact r.ge) y (List.mem_cons_of_mem _ hy)
  have t6':RVers false h6 [.sl 6 (some (q,0)) (l.set f v).length (some 4)] (l.set f v) F6:=by rw [List.length_set];exact t6
  refine ⟨l.set f v,some (q,0),some 4,h6,F6,by rw [List.length_set],t6',⟨by simp;omega,fun u hu=>?_⟩,(r5.keepF m15' m6 hlo5).up (by omega),m15'.draw1 m6 r5.lt⟩
  rcases List.mem_or_eq_of_mem_set hu with hu | rfl
  ·exact hsm.2 u hu
  ·exact hv
 | false =>
 rw [br_f]
 cases x==(2:Int) with
 | true =>
  obtain ⟨k,h3,e3,k1,k2,r3,m3⟩:=pick r2 (by omega) 4
  have m13:=m12.draw0 m3 hF2
  have t3:=m3.keep rvers_ok t2 m12.apart
  have k3:=k2 (by omega)
  obtain ⟨f,rfl⟩:∃ f:Nat,k=(f:Int):=⟨k.toNat,by omega⟩
  obtain ⟨b',i',row,G,ha,⟨rs,hb1,hb2⟩,hel,hGF,put⟩:=Sli.fresh_put (lo:=lo) (E := []) rver_ok t3 (show f<l.length by omega) (by rw [List.append_nil];exact hnd2.2) hlo2
  injection ha with ha;injection ha with z1 z2;subst z1;subst z2
  obtain ⟨sv,hrow,_⟩:=hel
  obtain ⟨h6,F6,e6,t6,m6⟩:=put 0 [.int .i64 0,.int .i64 0,.int .i64 0,.sl 0 none 0 (some 0),.str ⟨⟨[120]⟩⟩,.bool false] [.int .i64 0,.int .i64 0,.int .i64 0,.sl 0 none 0 (some 0),.str ⟨⟨[120]⟩⟩,.bool false] ⟨0,⟨0,0⟩,[],⟨⟨[120]⟩⟩,false⟩ [] (by rw [hrow];exact paste_all rfl) ⟨_,rfl,Sli.nil⟩ (by simp) (by simp)
  rw [List.append_nil] at m6
  rw [br_t,e3,cal_s,eI_int,inB_nat (by omega),eO_s,Int.toNat_natCast,e6,eO_s]
  have t6':RVers false h6 [.sl 6 (some (q,0)) (l.set f ⟨0,⟨0,0⟩,[],⟨⟨[120]⟩⟩,false⟩).length (some 4)] (l.set f ⟨0,⟨0,0⟩,[],⟨⟨[120]⟩⟩,false⟩) F6:=by rw [List.length_set];exact t6
  refine ⟨l.set f ⟨0,⟨0,0⟩,[],⟨⟨[120]⟩⟩,false⟩,some (q,0),some 4,h6,F6,by rw [List.length_set],t6',⟨by simp;omega,fun u hu=>?_⟩,(r3.keepF m13 m6 hlo2).up (by omega),m13.draw1 m6 r3.lt⟩
  rcases List.mem_or_eq_of_mem_set hu with hu | rfl
  ·exact hsm.2 u hu
  ·exact ⟨by decide,by decide⟩
 | false=>exact ⟨l,_,_,h2,F1,rfl,t2,hsm,r2.up (by omega),m12⟩
end
end Go.Proofs.YthdfojchihooeaaGreat
namespace Go.Proofs.YthdfojchihooeaaGreat
open Go T


def RChainN (ro:Bool):Rel (List Node):=fun h cs l F=>∃ a c,cs = [.sl 2 a l.length c]∧RNodes ro h cs l F
theorem rchainN_ok {ro:Bool}:(RChainN ro).Ok :=
 ⟨fun h h' cs p F ⟨a1,c1,e,hp⟩ hb=>⟨a1,c1,e,rnodes_ok.fr _ _ _ _ _ hp hb⟩,fun h cs p F ⟨_,_,_,hp⟩=>rnodes_ok.bd _ _ _ _ hp⟩
def NChain (raw:List V) (l:List Node) (r:List V):Prop:=∃ s a c,raw = [s]∧(∀ {T:Type} (K:Option (Nat×Nat)→Nat→Option Nat→Option T),eS 2 s K=K a l.length c)∧r = [.sl 2 a l.length c]
theorem nchain_self {l:List Node}{a:Option (Nat×Nat)}{c:Option Nat}:NChain [.sl 2 a l.length c] l [.sl 2 a l.length c]:=⟨_,a,c,rfl,fun K=>eS_sl _ _ _ _ _,rfl⟩
def triedC (l l':List Node):List Node:=bif chainOk l then l' else []
def tryFallC (l:List Node) (k:Int):List Node:=bif canFallC l k then fallN l k.toNat else l
theorem in_nodes {l:List Node} (h1:l.length≤4) (h2:∀ x∈l,nodeIn 6 x):smNodes l∧(1:Int)+wNodes l≤big:=by
 refine ⟨⟨by omega,fun x hx=>node_sm (h2 x hx) (by decide)⟩,?_⟩
 have e1:wNodes l≤1352*l.length:=mkN_all fun x hx=>node_w (h2 x hx) (by decide)
 simp only [big];omega
section
variable {lo:Nat}{ro:Bool}{h:Heap}{F F':List Nat}{a a':Option (Nat×Nat)}{c c':Option Nat}
theorem impl_triedC {l l':List Node}{cs l1:List V}{g:Nat}{ok:Bool} (hp:RChainN false h cs l F) (hl:lo≤h.length) (hn:smNodes l)
  (hg:∀ hh b a1 G,h.length≤hh.length→Mv h [] hh []→RNodesC hh [.sl 2 a1 l.length (some l.length)] l G→hh[b]?=some (.rows 1 56 false [[.sl 2 a1 l.length (some l.length)]])→(b :: G).Nodup→(∀ y∈b :: G,h.length≤y) →
   ∃ hh' a' c' G',evl lo g (fnArgs [.ptr (some (b,(0,0)))] l1) hh=some (.bool ok,hh')∧RNodes false hh' [.sl 2 a' l'.length c'] l' G'∧hh'[b]?=some (.rows 1 56 false [[.sl 2 a' l'.length c']])∧Mv hh (b :: G) hh' (b :: G')) :
  ∃ a' c' h' F',evl lo 113 [.agg cs,.fn g l1] h=some (.tup [.agg [.sl 2 a' l'.length c'],.bool ok],h')∧RNodes false h' [.sl 2 a' l'.length c'] l' F'∧Mv h [] h' F':=by
 obtain ⟨a1,c1,rfl,hp⟩:=hp
 suffices hk:∃ a' c' h' F',_=some (V.tup [.agg [.sl 2 a' l'.length c'],.bool ok],h')∧RNodes false h' [.sl 2 a' l'.length c'] l' F'∧Mv h [] h' F' from by
  obtain ⟨a',c',h',F',e,hr⟩:=hk
  exact ⟨a',c',h',F',E_impl_tried e,hr⟩
 obtain ⟨b1,h4,G1,e4,g1,m4⟩:=impl_Chain_copiedC (lo:=lo) hp hl hn
 have m5:Mv h4 [] (h4 ++ [.rows 1 56 false [[.sl 2 b1 l.length (some l.length)]]]) [h4.length]:=Mv.last
 rw [e4,cal_s,eA_a,eC_c,eS_sl,eN_n,st_last (row := [.sl 0 none 0 (some 0)]) (row' := [.sl 2 b1 l.length (some l.length)]) (Nat.le_trans hl m4.le) rfl (paste_all rfl),eO_s]
 simp only [List.set_cons_zero]
 have m45:=(m4.join m5 (rnodesC_ok.bd _ _ _ _ g1)).swapNil
 obtain ⟨h6,a6,c6,F6,e6,r6,b6,m6⟩:=hg (h4 ++ [.rows 1 56 false [[.sl 2 b1 l.length (some l.length)]]]) h4.length b1 G1 m45.le m45.drop (m5.keep0 rnodesC_ok g1) (by simp) m45.nd (fun y hy=>m45.new y hy)
 have e7:ld h6 h4.length 0 0 1=some [.sl 2 a6 l'.length c6]:=by rw [ld_of b6 rfl];exact cut_all rfl
 have m7:Mv h [] h6 F6:=(m45.trans m6).lean (List.nodup_cons.1 m6.nd).2 fun b hb=>by simp [hb]
 rw [e6,cal_s,eB_b,e7,eO_s,eC_c,eS_sl,eN_n,eO_s,eC_c,eS_sl,eN_n]
 refine ⟨a6,c6,h6,F6,?_,r6,m7⟩
 cases ok
 ·rw [br_f]
 ·rw [br_t]
theorem impl_ChainFall {l:List Node}{cs:List V}{k:Int} (hp:RChainN false h cs l F) (hl:lo≤h.length) (hn:smNodes l) :
  ∃ raw r h' F',evl lo 36 [.agg cs,.int .i64 k] h=some (.tup [.agg raw,.bool (chainOk l&&canFallC l k)],h')∧NChain raw (triedC l (tryFallC l k)) r∧RChainN false h' r (triedC l (tryFallC l k)) F'∧Mv h [] h' F':=by
 have m0:Mv h [] (h ++ [.rows 1 3 false [[.int .i64 k]]]) []:=Mv.snoc
 have hp0:=m0.keep0 rchainN_ok hp
 obtain ⟨a1,c1,rfl,hp1⟩:=id hp0
 suffices hk:∃ raw r h' F',_=some (V.tup [.agg raw,.bool (chainOk l&&canFallC l k)],h')∧NChain raw (triedC l (tryFallC l k)) r∧RChainN false h' r (triedC l (tryFallC l k)) F'∧Mv h [] h' F' from by
  obtain ⟨raw,r,h',F',e,hr⟩:=hk
  exact ⟨raw,r,h',F',E_impl_ChainFall e,hr⟩
 rw [impl_ChainOk hp1 hn,cal_s,eB_b]
 unfold triedC
 cases hpo:chainOk l with
 | false =>
  rw [br_f]
  exact ⟨_,_,_,[],rfl,⟨_,none,some 0,rfl,fun K=>rfl,rfl⟩,⟨none,some 0,rfl,Sli.nil⟩,m0⟩
 | true =>
 have hlen:(h ++ [Blk.rows 1 3 false [[.int .i64 k]]]).length=h.length+1:=by simp
 obtain ⟨a6,c6,h6,F6,e6,r6,m6⟩:=impl_triedC (lo:=lo) (l':=tryFallC l k) (l1 := [.ptr (some (h.length,(0,0)))]) (g:=114) (ok:=canFallC l k) hp0 (Nat.le_trans hl m0.le) hn (fun hh b b1 G hhl mm g1 hb hnd hlo=>by
  have hx:hh[h.length]?=some (.rows 1 3 false [[.int .i64 k]]):=by
   rw [mm.fr h.length (by rw [hlen];omega) (by simp)];simp
  have lk:ld hh h.length 0 0 1=some [.int .i64 k]:=by rw [ld_of hx rfl];rfl
  rw [List.nodup_cons] at hnd
  obtain ⟨a5,x5,c5,h5,F5,e5,b5,r5,m5⟩:=impl_fall (lo:=lo) (k:=k) (i:=0) (j:=0) hb rfl rfl g1.up hnd.1 hnd.2 (by have:=hlo b (by simp);rw [hlen] at this;omega) (fun y hy=>by have:=hlo y (by simp [hy]);rw [hlen] at this;omega) (by rw [hlen] at hhl;omega) hn (by have:=(chainOk_all hpo).1;omega) (fun x hx=>(nodeOk_parts ((chainOk_all hpo).2 x hx)).1)
  have hx5:=r5.val
  subst hx5
  refine ⟨h5,a5,c5,F5,E_impl_ChainFall_1 ?_,r5,b5,m5⟩
  rw [lk,eO_s,eC_c,eN_n,eI_int,e5,cal_s,eB_b]
  exact br_some)
 rw [br_t,e6,cal_s,eU_t,eC_c,eA_a,eC_c,eS_sl,eN_n,eC_c,eB_b,eN_n,eN_n,cond_true,Bool.true_and]
 refine ⟨[.sl 2 a6 (tryFallC l k).length c6],_,h6,F6,?_,nchain_self,⟨_,_,rfl,r6⟩,m0.trans m6⟩
 cases canFallC l k
 ·rw [br_f]
 ·rw [br_t]
end
end Go.Proofs.YthdfojchihooeaaGreat
namespace Go.Proofs.YthdfojchihooeaaGreat
open Go T


set_option maxRecDepth 100000
section
variable {lo:Nat}{h h':Heap}{F F':List Nat}{b n:Nat}
theorem Sli.at_aside {α:Type}{El:Rel α} (ok:El.Ok) {R e m k:Nat}{a:Option (Nat×Nat)}{c:Option Nat}{l:List α}{E:List Nat} (hs:Sli false R e El h [.sl R a m c] l F) (hk:k<l.length) (hnd:(F++E).Nodup) (hlo:∀ y∈F,lo≤y) (hE:∀ y∈E,y<h.length) :
  ∃ b i rs row G,a=some (b,i)∧b∈F∧b∉G∧h[b]?=some (.rows R e false rs)∧rs[i+k]?=some row∧El h row l[k] G∧(∀ y∈G,y∈F)∧G.Nodup ∧
   ∀ h1 G1 j cs row' x',Mv h (G++E) h1 G1→paste row j cs=some row'→El h1 row' x' G1 →
    ∃ h2 F2,st lo h1 b (i+k) j cs=some h2∧Sli false R e El h2 [.sl R a m c] (l.set k x') F2∧Mv h (F++E) h2 F2:=by
 have hnd0:=hnd
 rw [List.nodup_append] at hnd0
 obtain ⟨hn1,hn2,hn3⟩:=hnd0
 have hbd:=(Sli.ok ok).bd _ _ _ _ hs
 obtain ⟨b',i',rs,row,G,ha,hbF,hbG,hb,hrow,hel,hGF,hGn,put⟩:=hs.put ok.fr hk hn1
 have hblt:=hbd b' hbF
 refine ⟨b',i',rs,row,G,ha,hbF,hbG,hb,hrow,hel,hGF,hGn,fun h1 G1 j cs row' x' m hp hx=>?_⟩
 have hbE:b'∉E:=fun hm=>hn3 b' hbF b' hm rfl
 have hbGE:b'∉G++E:=fun hm=>(List.mem_append.1 hm).elim hbG hbE
 have hbG1:b'∉G1:=fun hm=>by
  rcases m.sub b' hm with g | g
  ·exact hbGE g
  ·omega
 have hb1:h1[b']?=some (.rows R e false rs):=by rw [m.fr b' hblt hbGE];exact hb
 have hb1lt:b'<h1.length:=Nat.lt_of_lt_of_le hblt m.le
 have e2:=st_first hb1 (hlo b' hbF) hrow hp
 have fr2:∀ y,y≠b'→(h1.set b' (.rows R e false (rs.set (i'+k) row')))[y]?=h1[y]?:=fun y hy=>List.getElem?_set_ne (Ne.symm hy)
 obtain ⟨F2,p1,p2,p3,_⟩:=put (h1.set b' (.rows R e false (rs.set (i'+k) row'))) row' x' G1 (by simp [hb1lt]) (fun y hy hyb hyG=>by
   rw [fr2 y hyb]
   exact m.fr y (hbd y hy) fun hm=>(List.mem_append.1 hm).elim hyG fun g=>hn3 y hy y g rfl)
  (ok.fr _ _ _ _ _ hx fun y hy=>fr2 y fun e=>hbG1 (e ▸ hy)) m.nd (fun y hy hyF=>by
   rcases m.sub y hy with g | g
   ·rcases List.mem_append.1 g with g | g
    ·exact g
    ·exact absurd rfl (hn3 y hyF y g)
   ·have:=hbd y hyF;omega)
 refine ⟨_,F2,e2,p1,by simpa using m.le,fun y hy hyF=>?_,p3,fun y hy=>?_⟩
 ·rw [fr2 y fun e=>hyF (e ▸ List.mem_append_left _ hbF)]
  exact m.fr y hy fun hm=>hyF ((List.mem_append.1 hm).elim (fun g=>List.mem_append_left _ (hGF y g)) fun g=>List.mem_append_right _ g)
 ·rcases p2 y hy with g | g
  ·exact .inl (List.mem_append_left _ g.1)
  ·rcases m.sub y g with g | g
   ·exact .inl ((List.mem_append.1 g).elim (fun g=>List.mem_append_left _ (hGF y g)) fun g=>List.mem_append_right _ g)
   ·exact .inr (by simpa using g)
theorem Sli.first {α:Type}{El:Rel α}{R e m i:Nat}{a:Option (Nat×Nat)}{c:Option Nat}{l:List α} (hs:Sli false R e El h [.sl R a m c] l F) (hi:i≤l.length) (hnd:F.Nodup):∃ F2,Sli false R e El h [.sl R a i c] (l.take i) F2∧F2.Nodup∧∀ y∈F2,y∈F:=by
 have hm:=hs.val
 subst hm
 by_cases h0:l.length=0
 ·have:l = []:=List.eq_nil_of_length_eq_zero h0
  subst this
  have:i=0:=by simpa using hi
  subst this
  exact ⟨F,hs,hnd,fun y hy=>hy⟩
 obtain ⟨b',i',rs,Fs,ha,g1,g2,g3,g4,g5,rfl⟩:=hs.data (k:=0) (by omega)
 have hs0:=hs
 obtain ⟨R1,a1,c1,e1,_⟩:=hs
 injection e1 with e1 _;injection e1 with e0 e2 _ e4
 have hsub:(Fs.take i).flatten.Sublist Fs.flatten:=by
  conv=>{ rhs;rw [← List.take_append_drop i Fs,List.flatten_append] }
  exact List.sublist_append_left _ _
 rw [List.nodup_cons] at hnd
 refine ⟨b' ::(Fs.take i).flatten,⟨R,a,c,by simp;omega,?_⟩,List.nodup_cons.2 ⟨fun hm=>hnd.1 (hsub.mem hm),hnd.2.sublist hsub⟩,fun y hy=>?_⟩
 ·subst ha
  refine ⟨rfl,rs,Fs.take i,g1,by simp;omega,fun k hk=>?_,g4,?_,rfl⟩
  ·have:=g3 k hk
   simp only [List.length_take];omega
  ·have hd:=g5.take i
   rw [List.take_take] at hd
   have:min i l.length=(l.take i).length:=by simp
   rw [← this];exact hd
 ·rw [List.mem_cons] at hy ⊢
  exact hy.imp id fun hy=>hsub.mem hy
theorem new_ch {m:Nat} (h1:1≤m) (h4:m≤4):Ch (List.replicate m ⟨zStore,[]⟩):=by
 have get:∀ (i:Nat) (x:Node),(List.replicate m (⟨zStore,[]⟩:Node))[i]?=some x→x=⟨zStore,[]⟩:=fun i x hx=>by
  rw [List.getElem?_replicate] at hx
  split at hx
  ·injection hx with hx;exact hx.symm
  ·cases hx
 refine ⟨by simpa using h1,by simpa using h4,fun i x hx=>?_,fun i x y hx hy=>?_,fun i x hx _=>?_⟩
 ·rw [get i x hx]
  unfold nodeOk
  simp only
  rw [zStore_ok];rfl
 ·rw [get i x hx,get _ y hy];rfl
 ·rw [get i x hx]
theorem spec_ChainNew {m:Nat} (h1:1≤m) (h4:m≤4) (hl:lo≤h.length):∃ v h' F',evl lo 310 [.int .i64 (m:Nat)] h=some (.agg [v],h')∧RNodes false h' [v] (List.replicate m ⟨zStore,[]⟩) F'∧Mv h [] h' F':=by
 obtain ⟨q,a',c',h',F',e,r,mm⟩:=map_loop_q (El:=RNode false) rnode_ok (h:=h) (l:=List.replicate m ()) (f:=fun _=>(⟨zStore,[]⟩:Node)) (lo:=lo) (R:=2) (e:=eNode false) (bytes:=48) hl (by decide) (by rw [List.length_replicate];omega)
  (fun i q a n c hh=>L_spec_ChainNew_0 lo ((m:Nat):Int) ((i:Nat):Int) 0 none 0 (some 0) q a n c hh) (fun i hi q a n c hh hm=>by
   rw [List.length_replicate] at hi
   obtain ⟨h3,q3,e3,t3,m3⟩:=spec_l2New (lo:=lo) (h:=hh)
   refine ⟨[.sl 6 (some (q3,0)) 4 (some 4),.sl 0 none 0 (some 0)],[q3],h3 ++ [.rows 2 (eNode false) false [[.sl 6 (some (q3,0)) 4 (some 4),.sl 0 none 0 (some 0)]]],⟨_,_,[q3],[],rfl,rfl,Mv.snoc.keep0 rvers_ok t3,Sli.nil⟩,m3.trans (Mv.snoc' m3.nd),?_⟩
   rw [L_spec_ChainNew_0.e,br_pos (by omega),e3,cal_s,eA_a,eC_c,eS_sl,eN_n,wr_succ (by omega)]
   exact rows_one)
 rw [List.map_replicate] at r
 rw [List.length_replicate] at e
 refine ⟨_,h',F',E_spec_ChainNew ?_,r,mm⟩
 have hw:within ((m:Nat):Int) 1 4=true:=by simp only [within,Bool.and_eq_true,decide_eq_true_eq];omega
 rw [spec_l1In,cal_s,eB_b,hw,br_t]
 refine e.trans ?_
 rw [L_spec_ChainNew_0.e,br_neg (by omega),List.length_replicate]
theorem chain_draw (r:Rd lo h b n) (hn:n≤500000) (hl:lo≤h.length):∃ (l:List Node) (a:Option (Nat×Nat)) (c:Option Nat) (h':Heap) (F':List Nat),evl lo 219 [.ptr (some (b,(0,0)))] h=some (.agg [.sl 2 a l.length c],h')∧RNodes false h' [.sl 2 a l.length c] l F'∧Ch l∧Rd lo h' b (n+400)∧Mv h [b] h' (b :: F'):=by
 obtain ⟨x,h1,e1,g,g',r1,m1⟩:=pick r (by omega) 4
 have hx:=g' (by omega)
 obtain ⟨k,rfl⟩:∃ k:Nat,x=(k:Int):=⟨x.toNat,by omega⟩
 obtain ⟨v,h2,F2,e2,t2,m2⟩:=spec_ChainNew (lo:=lo) (m:=k+1) (h:=h1) (by omega) (by omega) (Nat.le_trans hl m1.le)
 obtain ⟨a2,c2,es2,t2⟩:=t2.form
 have r2:=r1.keep m2 (by simp) (by simp)
 obtain ⟨y,h3,e3,g3,g3',r3,m3⟩:=pick r2 (by omega) 12
 have m12:Mv h [b] h2 (b :: F2):=m1.draw1 (F1 := []) m2 r1.lt
 have hF2:=rnodes_ok.bd _ _ _ _ t2
 have t3:=m3.keep rnodes_ok t2 m12.apart
 have m13:=m12.draw0 m3 hF2
 suffices hk:∃ (l:List Node) (a:Option (Nat×Nat)) (c:Option Nat) (h':Heap) (F':List Nat),_=some (V.agg [.sl 2 a l.length c],h')∧RNodes false h' [.sl 2 a l.length c] l F'∧Ch l∧Rd lo h' b (n+400)∧Mv h [b] h' (b :: F') from by
  obtain ⟨l,a,c,h',F',e,gg⟩:=hk
  exact ⟨l,a,c,h',F',E_spec_l20Chain e,gg⟩
 rw [e1,cal_s,eI_int,show IntKind.wrap .i64 (1+((k:Nat):Int))=((k+1:Nat):Int) from by rw [wr (by omega) (by omega)];omega,e2,cal_s,eA_a,eC_c,es2,eN_n,e3,cal_s,eI_int]
 have loop:∀ (m:Nat) (l:List Node) (a:Option (Nat×Nat)) (n3:Nat) (c:Option Nat) (hh:Heap) (F:List Nat),m≤11→n3=l.length→Ch l→RNodes false hh [.sl 2 a n3 c] l F→Rd lo hh b (n+2+30*(11 - m))→Mv h [b] hh (b :: F) →
   ∃ (l:List Node) (a':Option (Nat×Nat)) (c':Option Nat) (h':Heap) (F':List Nat),L_spec_l20Chain_0 lo b 0 0 ((m:Nat):Int) 0 none 0 (some 0) a n3 c hh=some (V.agg [.sl 2 a' l.length c'],h')∧RNodes false h' [.sl 2 a' l.length c'] l F'∧Ch l∧Rd lo h' b (n+400)∧Mv h [b] h' (b :: F'):=by
  intro m
  induction m with
  | zero =>
   intro l a n3 c hh F hm hn3 hch ht rr mm
   subst hn3
   have hsm:=chainOk_sm (chain_iff.2 hch)
   obtain ⟨v,h5,F5,e5,t5,m5⟩:=spec_l3Copy (lo:=lo) ht (Nat.le_trans hl mm.le) hsm
   obtain ⟨a5,c5,es5,t5⟩:=t5.form
   have mm5:Mv h [b] h5 (b :: F5):=(mm.thin (F2 := []) (by simp) (by simp)).draw1 m5 rr.lt
   rw [L_spec_l20Chain_0.e,br_neg (by omega),e5,cal_s,eA_a,eC_c,es5,eN_n]
   exact ⟨l,a5,c5,h5,F5,rfl,t5,hch,(rr.keep m5 (by simp) (by simp)).up (by omega),mm5⟩
  | succ m ih =>
   intro l a n3 c hh F hm hn3 hch ht rr mm
   subst hn3
   have hsm:=chainOk_sm (chain_iff.2 hch)
   have hpos:=hch.pos
   have hle:=hch.le
   have hlh:lo≤hh.length:=Nat.le_trans hl mm.le
   obtain ⟨z,h4,e4,g4,g4',r4,m4⟩:=pick rr (by omega) 6
   have hFb:=rnodes_ok.bd _ _ _ _ ht
   have t4:=m4.keep rnodes_ok ht mm.apart
   have mm4:=mm.draw0 m4 hFb
   have hF4:=rnodes_ok.bd _ _ _ _ t4
   have hl4:lo≤h4.length:=Nat.le_trans hl mm4.le
   have hnd4:=mm4.nd
   rw [List.nodup_cons] at hnd4
   have hloA:∀ {hh:Heap}{F:List Nat},Mv h [b] hh (b :: F)→∀ y∈F,lo≤y:=fun mm y hy=>mm.ge hl (fun z hz=>by rw [List.mem_singleton] at hz;subst hz;exact r.ge) y (by simp [hy])
   have hlo4:=hloA mm4
   have hw:IntKind.wrap .i64 (((m+1:Nat):Int) - 1)=((m:Nat):Int):=by rw [wr (by omega) (by omega)];omega
   have add:∃ (l':List Node) (a':Option (Nat×Nat)) (c':Option Nat) (h':Heap) (F':List Nat),(cal (evl lo 257 [.agg [.sl 2 a l.length c]] h4) fun v_17 h_18=>eB v_17 (cal (evl lo 245 [.ptr (some (b,(0,0)))] h_18) fun v_19 h_20=>eA v_19 fun c_21=>eC c_21 fun v_22 l_23=>eI .i64 v_22 fun n_24=>eC l_23 fun v_25 l_26=>eI .i64 v_25 fun n_27=>eC l_26 fun v_28 l_29=>eI .i64 v_28 fun n_30=>eC l_29 fun v_31 l_32=>eS 2 (v_31) fun a_33 n_34 c_35=>eC l_32 fun v_36 l_37=>eT v_36 fun s_38=>eC l_37 fun v_39 l_40=>eBv v_39 fun b_41=>eN l_40 (cal (evl lo 258 [.agg [.sl 2 a l.length c],.int .i64 0,.agg [.int .i64 (n_24),.int .i64 (n_27),.int .i64 (n_30),.sl 2 a_33 n_34 c_35,.str (s_38),.bool (b_41)]] h_20) fun v_42 h_43=>eA v_42 fun c_44=>eC c_44 fun v_45 l_46=>eS 2 (v_45) fun a_47 n_48 c_49=>eN l_46 (L_spec_l20Chain_0 lo b 0 0 (IntKind.wrap .i64 (((m+1:Nat):Int) - 1)) 0 none 0 (some 0) a_47 n_48 c_49 h_43))) (L_spec_l20Chain_0 lo b 0 0 (IntKind.wrap .i64 (((m+1:Nat):Int) - 1)) 0 none 0 (some 0) a l.length c h_18))=some (V.agg [.sl 2 a' l'.length c'],h')∧RNodes false h' [.sl 2 a' l'.length c'] l' F'∧Ch l'∧Rd lo h' b (n+400)∧Mv h [b] h' (b :: F'):=by
    rw [spec_l3Room t4 (by omega),cal_s,eB_b,hw]
    cases hroom:roomAt l 0 with
    | false =>
     rw [br_f]
     exact ih l a _ c h4 F (by omega) rfl hch t4 (r4.up (by omega)) mm4
    | true =>
     obtain ⟨v,qv,h5,F5,e5,t5,hv,r5,m5⟩:=ver_draw r4 (by omega) hl4
     have mm5:=mm4.draw m5 hF4
     have ht5:=m5.keep rnodes_ok t4 mm4.apart
     have hnd5:=mm5.nd
     rw [List.nodup_cons,List.nodup_append] at hnd5
     have hlo5:=hloA mm5
     have m5F:Mv h [b] h5 (b :: F):=mm5.thin hnd5.2.2.1 fun y hy=>List.mem_append_right _ hy
     have hst:=hch.store (List.getElem?_eq_getElem (show 0<l.length by omega))
     have hkey:=(verOk_parts hv).1
     obtain ⟨h6,F6,e6,t6,m6⟩:=spec_l3Add (lo:=lo) (k:=0) (av:=some (qv,0)) (cv:=some 4) ht5 t5 (fun y hy hm=>hnd5.2.2.2 y hy y hm rfl) hnd5.2.2.1 (fun y hy=>hlo5 y (List.mem_append_right _ hy)) (Nat.le_trans hl4 m5.le) (by omega) ⟨hkey.1,by rw [hst.2];omega⟩ hsm (by have:=(thin_ok hv).1;omega)
     have mm6:=m5F.draw1 m6 r5.lt
     have r6:=r5.keepF m5F m6 (fun y hy=>hlo5 y (List.mem_append_right _ hy))
     rw [show (((0:Nat):Nat):Int)=(0:Int) from rfl] at e6
     simp only [Ver.cs] at e5 e6
     rw [br_t,e5,cal_s,eA_a,eC_c,eI_int,eC_c,eI_int,eC_c,eI_int,eC_c,eS_sl,eC_c,eT_s,eC_c,eBv_b,eN_n,e6,cal_s,eA_a,eC_c,eS_sl,eN_n]
     exact ih (addN l 0 v) a l.length c h6 F6 (by omega) addN_len.symm (hch.add hv hroom) t6 (r6.up (by omega)) mm6
   rw [L_spec_l20Chain_0.e,br_pos (by omega),e4,cal_s,eI_int]
   cases z==(0:Int) with
   | true=>rw [br_t];exact add
   | false =>
   rw [br_f]
   cases z==(1:Int) with
   | true=>rw [br_t];exact add
   | false =>
   rw [br_f,hw]
   cases z==(2:Int) with
   | true =>
    rw [br_t]
    by_cases h2:1<l.length
    ·obtain ⟨kf,h5,e5,g5,g5',r5,m5⟩:=pick r4 (by omega) ((l.length:Nat):Int)
     have hkf:=g5' (by omega)
     obtain ⟨f,rfl⟩:∃ f:Nat,kf=(f:Int):=⟨kf.toNat,by omega⟩
     have t5:=m5.keep rnodes_ok t4 mm4.apart
     have mm5:=mm4.draw0 m5 hF4
     obtain ⟨a6,c6,h6,F6,e6,t6,m6⟩:=spec_l3Fall (lo:=lo) (k:=f) t5 (by omega) h2 (last_wait (chain_iff.2 hch) (by omega)) hnd4.2 hlo4 (Nat.le_trans hl4 m5.le) hsm.1 (fun x hx=>by
      obtain ⟨i,hi⟩:=List.mem_iff_getElem?.1 hx
      have:=node_thin (hch.node i x hi)
      exact ⟨this.1,by have:=this.2.1;omega,this.2.2⟩)
     rw [br_pos (by omega),e5,cal_s,eI_int,e6,cal_s,eA_a,eC_c,eS_sl,eN_n]
     exact ih (fallN l f) a6 _ c6 h6 F6 (by omega) rfl (hch.fall (by omega) h2) t6 ((r5.keepF mm5 m6 hlo4).up (by omega)) (mm5.draw1 m6 r5.lt)
    ·rw [br_neg (by omega)]
     exact ih l a _ c h4 F (by omega) rfl hch t4 (r4.up (by omega)) mm4
   | false =>
   rw [br_f]
   cases z==(3:Int) with
   | true =>
    rw [br_t]
    by_cases h4':l.length<4
    ·obtain ⟨a6,c6,h6,F6,e6,t6,m6⟩:=spec_l3Join (lo:=lo) t4 (by omega) hsm hnd4.2 hlo4 hl4
     rw [br_pos (by omega),e6,cal_s,eA_a,eC_c,eS_sl,eN_n]
     exact ih (joinN l) a6 (l.length+1) c6 h6 F6 (by omega) (join_last hch).1.symm (hch.join h4') t6 ((r4.keepF mm4 m6 hlo4).up (by omega)) (mm4.draw1 m6 r4.lt)
    ·rw [br_neg (by omega)]
     exact ih l a _ c h4 F (by omega) rfl hch t4 (r4.up (by omega)) mm4
   | false =>
   rw [br_f]
   obtain ⟨kf,h5,e5,g5,g5',r5,m5⟩:=pick r4 (by omega) 4
   have t5:=m5.keep rnodes_ok t4 mm4.apart
   have mm5:=mm4.draw0 m5 hF4
   rw [e5,cal_s,eI_int,spec_l3Can t5 hsm.1,cal_s,eB_b]
   cases hcan:canPass l kf with
   | false =>
    rw [br_f]
    exact ih l a _ c h5 F (by omega) rfl hch t5 (r5.up (by omega)) mm5
   | true =>
    have hchp:=hch.pass hcan
    obtain ⟨f,x,y,v,ws,rfl,hx,hy,hw',hr'⟩:=pass_parts hcan
    rw [Int.toNat_natCast] at hchp
    obtain ⟨hf,rfl⟩:=List.getElem?_eq_some_iff.1 hx
    have hf1:=(List.getElem?_eq_some_iff.1 hy).1
    obtain ⟨h6,F6,e6,t6,m6⟩:=spec_l3Pass (lo:=lo) (k:=f) t5 hf1 (by rw [hw'];simp) hnd4.2 hlo4 (Nat.le_trans hl4 m5.le) hsm (fun x hx=>by
     obtain ⟨i,hi⟩:=List.mem_iff_getElem?.1 hx
     have hno:=hch.node i x hi
     have:=node_thin hno
     exact ⟨⟨this.1,by have:=this.2.1;omega,this.2.2⟩,fun v hv=>(verOk_parts ((nodeOk_parts hno).2.2 v hv)).1⟩)
    rw [br_t,e6,cal_s,eA_a,eC_c,eS_sl,eN_n]
    exact ih (passN l f) a l.length c h6 F6 (by omega) passN_len.symm hchp t6 ((r5.keepF mm5 m6 hlo4).up (by omega)) (mm5.draw1 m6 r5.lt)
 have hy:=g3' (by omega)
 obtain ⟨k2,rfl⟩:∃ k:Nat,y=(k:Int):=⟨y.toNat,by omega⟩
 exact loop k2 _ a2 _ c2 h3 F2 (by omega) rfl (new_ch (by omega) (by omega)) t3 (r3.up (by omega)) m13
end
end Go.Proofs.YthdfojchihooeaaGreat
namespace Go.Proofs.YthdfojchihooeaaGreat
open Go T


set_option maxRecDepth 100000
section
variable {lo:Nat}{h h':Heap}{F F':List Nat}{b n:Nat}
theorem ld_same {h h':Heap}{q i j m:Nat} (hq:h'[q]?=h[q]?):ld h' q i j m=ld h q i j m:=by unfold ld Heap.rows?;rw [hq]
theorem sm_set {l:List Node}{k:Nat}{x:Node} (h:smNodes l) (hx:smVers x.store∧smVers x.wait):smNodes (l.set k x):=⟨by rw [List.length_set];exact h.1,fun y hy=>by
 rcases List.mem_or_eq_of_mem_set hy with hy | rfl
 ·exact h.2 y hy
 ·exact hx⟩
theorem anychain_draw (r:Rd lo h b n) (hn:n≤400000) (hl:lo≤h.length):∃ (l:List Node) (a:Option (Nat×Nat)) (c:Option Nat) (h':Heap) (F':List Nat),evl lo 108 [.ptr (some (b,(0,0)))] h=some (.agg [.sl 2 a l.length c],h')∧RNodes false h' [.sl 2 a l.length c] l F'∧smNodes l∧Rd lo h' b (n+1000)∧Mv h [b] h' (b :: F'):=by
 obtain ⟨l,a,c,h1,F1,e1,t1,hch,r1,m1⟩:=chain_draw r (by omega) hl
 have hsm:=chainOk_sm (chain_iff.2 hch)
 have hpos:=hch.pos
 have hle:=hch.le
 obtain ⟨k,h2,e2,g2,g2',r2,m2⟩:=pick r1 (by omega) ((l.length:Nat):Int)
 obtain ⟨x,h3,e3,g3,g3',r3,m3⟩:=pick r2 (by omega) 10
 have hk:=g2' (by omega)
 obtain ⟨f,rfl⟩:∃ f:Nat,k=(f:Int):=⟨k.toNat,by omega⟩
 have hf:f<l.length:=by omega
 have m23:=m2.trans m3
 have hF1:=rnodes_ok.bd _ _ _ _ t1
 have t3:=m23.keep rnodes_ok t1 m1.apart
 have m13:=m1.draw0 m23 hF1
 have hF3:=rnodes_ok.bd _ _ _ _ t3
 have hl3:lo≤h3.length:=Nat.le_trans hl m13.le
 have hloA:∀ {hh:Heap}{F:List Nat},Mv h [b] hh (b :: F)→∀ y∈F,lo≤y:=fun mm y hy=>mm.ge hl (fun z hz=>by rw [List.mem_singleton] at hz;subst hz;exact r.ge) y (by simp [hy])
 suffices hk:∃ (l:List Node) (a:Option (Nat×Nat)) (c:Option Nat) (h':Heap) (F':List Nat),_=some (V.agg [.sl 2 a l.length c],h')∧RNodes false h' [.sl 2 a l.length c] l F'∧smNodes l∧Rd lo h' b (n+1000)∧Mv h [b] h' (b :: F') from by
  obtain ⟨l,a,c,h',F',e,gg⟩:=hk
  exact ⟨l,a,c,h',F',E_spec_l20AnyChain e,gg⟩
 rw [e1,cal_s,eA_a,eC_c,eS_sl,eN_n,e2,cal_s,eI_int,e3,cal_s,eI_int]
 cases x==(0:Int) with
 | true =>
  obtain ⟨s,ast,cs,h5,F5,e5,t5,hs5,r5,m5⟩:=anystore_draw r3 (by omega) hl3
  have m15:=m13.draw m5 hF3
  have t4:=m5.keep rnodes_ok t3 m13.apart
  have hnd5:=m15.nd
  rw [List.nodup_cons] at hnd5
  have hnd6:(F1++F5).Nodup:=(List.perm_append_comm.nodup_iff).1 hnd5.2
  have m15':Mv h [b] h5 (b ::(F1++F5)):=m15.lean (List.nodup_cons.2 ⟨fun hm=>hnd5.1 (by simpa [or_comm] using hm),hnd6⟩) fun y hy=>by simpa [or_comm,or_left_comm] using hy
  have hlo5:=hloA m15'
  have hF5:=rvers_ok.bd _ _ _ _ t5
  obtain ⟨b',i',rs,row,G,ha,hbF,hbG,hb1,hb2,hel,hGF,hGn,put⟩:=Sli.at_aside (lo:=lo) (E:=F5) rnode_ok t4 hf hnd6 (fun y hy=>hlo5 y (List.mem_append_left _ hy)) hF5
  obtain ⟨s1,s2,H1,H2,rfl,rfl,q1,q2⟩:=hel
  have hnd7:=hnd6
  rw [List.nodup_append] at hnd7
  have hGn':=hGn
  rw [List.nodup_append] at hGn'
  have hd:(F5++H2).Nodup:=by
   rw [List.nodup_append]
   exact ⟨hnd7.2.1,hGn'.2.1,fun y hy z hz e=>hnd7.2.2 z (hGF z (List.mem_append_right _ hz)) y hy e.symm⟩
  have hd2:((H1++H2)++F5).Nodup:=by
   rw [List.nodup_append]
   exact ⟨hGn,hnd7.2.1,fun y hy z hz=>hnd7.2.2 y (hGF y hy) z hz⟩
  obtain ⟨h6,F6,e6,t6,m6⟩:=put h5 (F5++H2) 0 [.sl 6 ast s.length cs] [.sl 6 ast s.length cs,s2] ⟨s,l[f].wait⟩ ((Mv.refl hd2).lean hd fun y hy=>by
   rw [List.mem_append] at hy ⊢
   rw [List.mem_append]
   exact hy.elim .inr fun g => .inl (.inr g)) rfl ⟨_,_,F5,H2,rfl,rfl,t5,q2⟩
  rw [br_t,e5,cal_s,eA_a,eC_c,eS_sl,eN_n,inB_nat hf,ha,eO_s,Int.toNat_natCast,e6,eO_s]
  have t6':RNodes false h6 [.sl 2 a (l.set f ⟨s,l[f].wait⟩).length c] (l.set f ⟨s,l[f].wait⟩) F6:=by rw [List.length_set];exact t6
  rw [← ha]
  exact ⟨l.set f ⟨s,l[f].wait⟩,a,c,h6,F6,by rw [List.length_set],t6',sm_set hsm ⟨sm_any hs5.1 hs5.2,(hsm.2 _ (List.getElem_mem hf)).2⟩,(r5.keepF m15' m6 hlo5).up (by omega),m15'.draw1 m6 r5.lt⟩
 | false =>
 rw [br_f]
 cases x==(1:Int) with
 | true =>
  obtain ⟨v,av,cv,h5,F5,e5,t5,hv5,r5,m5⟩:=anyver_draw r3 (by omega) hl3
  have m15:=m13.draw m5 hF3
  have t4:=m5.keep rnodes_ok t3 m13.apart
  have hnd5:=m15.nd
  rw [List.nodup_cons] at hnd5
  have hnd6:(F1++F5).Nodup:=(List.perm_append_comm.nodup_iff).1 hnd5.2
  have m15':Mv h [b] h5 (b ::(F1++F5)):=m15.lean (List.nodup_cons.2 ⟨fun hm=>hnd5.1 (by simpa [or_comm] using hm),hnd6⟩) fun y hy=>by simpa [or_comm,or_left_comm] using hy
  have hlo5:=hloA m15'
  have hF5:=rtags_ok.bd _ _ _ _ t5
  have hF4:=rnodes_ok.bd _ _ _ _ t4
  obtain ⟨b',i',rs,row,G,ha,hbF,hbG,hb1,hb2,hel,hGF,hGn,put⟩:=Sli.at_aside (lo:=lo) (E:=F5) rnode_ok t4 hf hnd6 (fun y hy=>hlo5 y (List.mem_append_left _ hy)) hF5
  obtain ⟨s1,s2,H1,H2,rfl,rfl,q1,q2⟩:=hel
  obtain ⟨aw,cw,esw,q2⟩:=q2.form
  have hnd7:=hnd6
  rw [List.nodup_append] at hnd7
  have hGn':=hGn
  rw [List.nodup_append] at hGn'
  have hH1:=rvers_ok.bd _ _ _ _ q1
  have hH2:=rvers_ok.bd _ _ _ _ q2
  have hw6:l[f].wait.length≤6:=(nodeOk_parts (hch.node f _ (List.getElem?_eq_getElem hf))).2.1
  have mx:Mv h5 [] (h5 ++ [.rows 6 65 false [v.cs av cv]]) []:=Mv.snoc
  have q2x:=mx.keep0 rvers_ok q2
  have t5x:=mx.keep0 rtags_ok t5
  obtain ⟨a6,c6,h6,F6,p1,p2,p3,p4,p5,p6⟩:=Sli.push (lo:=lo) (bytes:=72) (e:=65) rver_ok.fr q2x (xs := [v.cs av cv]) (ys := [v]) (Gs := [F5]) ⟨⟨_,rfl,t5x⟩,trivial⟩ (by decide) (by simp;omega) (fun y hy=>hlo5 y (List.mem_append_left _ (hGF y (List.mem_append_right _ hy)))) (by simp;have:=m15'.le;omega)
   (by
    rw [List.nodup_append]
    refine ⟨hGn'.2.1,by simpa using hnd7.2.1,fun y hy z hz=>hnd7.2.2 y (hGF y (List.mem_append_right _ hy)) z (by simpa using hz)⟩)
   (fun y hy=>by
    rw [List.mem_append] at hy
    rw [List.length_append]
    rcases hy with hy | hy
    ·have:=hH2 y hy;omega
    ·have:=hF5 y (by simpa using hy);omega) (by simp)
  simp only [List.length_singleton] at p1 p2
  have hfin:∀ y∈F6,y∈H2∨y∈F5∨(h5.length≤y∧y<h6.length):=fun y hy=>by
   rcases p5 y hy with g | g
   ·rw [List.mem_append] at g
    rcases g with g | g
    ·exact .inl g
    ·exact .inr (.inl (by simpa using g))
   ·rw [List.length_append] at g
    exact .inr (.inr (by omega))
  have hlen:h5.length≤h6.length:=by rw [List.length_append] at p3;omega
  have fr:∀ y,y<h5.length→y∉H2→h6[y]?=h5[y]?:=fun y hy hn=>by
   rw [p4 y (by rw [List.length_append];omega) hn,List.getElem?_append_left hy]
  have hmv:Mv h5 ((H1++H2)++F5) h6 (H1++F6):=by
   refine ⟨hlen,fun y hy hn=>fr y hy fun hm=>hn (by simp [hm]),?_,fun y hy=>?_⟩
   ·rw [List.nodup_append]
    refine ⟨hGn'.1,p6,fun y hy z hz e=>?_⟩
    subst e
    rcases hfin y hz with g | g | g
    ·exact hGn'.2.2 y hy y g rfl
    ·exact hnd7.2.2 y (hGF y (List.mem_append_left _ hy)) y g rfl
    ·have:=hH1 y hy;omega
   ·rw [List.mem_append] at hy
    rcases hy with hy | hy
    ·exact .inl (by simp [hy])
    ·rcases hfin y hy with g | g | g
     ·exact .inl (by simp [g])
     ·exact .inl (by simp [g])
     ·exact .inr g
  have q1x:RVers false h6 [s1] l[f].store H1:=rvers_ok.fr _ _ _ _ _ q1 fun y hy=>fr y (hH1 y hy) fun hm=>hGn'.2.2 y hy y hm rfl
  have p2':RVers false h6 [.sl 6 a6 (l[f].wait.length+1) c6] (l[f].wait ++ [v]) F6:=p2
  obtain ⟨h7,F7,e7,t7,m7⟩:=put h6 (H1++F6) 1 [.sl 6 a6 (l[f].wait.length+1) c6] [s1,.sl 6 a6 (l[f].wait.length+1) c6] ⟨l[f].store,l[f].wait ++ [v]⟩ hmv rfl ⟨_,_,H1,F6,rfl,rfl,q1x,p2'⟩
  have hb3:h3[b']?=h5[b']?:=by
   rw [m5.fr b' (hF3 b' hbF) (m13.apart b' hbF)]
  have l5:ld h5 b' (i'+f) 1 1=some [s2]:=by rw [ld_of hb1 hb2];rfl
  have l3:ld h3 b' (i'+f) 1 1=some [s2]:=by rw [ld_same hb3];exact l5
  have l6:ld (h5 ++ [.rows 6 65 false [v.cs av cv]]) b' (i'+f) 1 1=some [s2]:=by rw [ld_same (List.getElem?_append_left (hF4 b' hbF))];exact l5
  simp only [Ver.cs] at e5 p1 l6
  rw [br_t,inB_nat hf,ha,eO_s,Int.toNat_natCast,l3,eO_s,eC_c,eN_n,esw,e5,cal_s,eA_a,eC_c,eI_int,eC_c,eI_int,eC_c,eI_int,eC_c,eS_sl,eC_c,eT_s,eC_c,eBv_b,eN_n,l5,l6,sameO_self,need_t,need_t,rows_one,p1,eS_sl,inB_nat hf,eO_s,e7,eO_s]
  have t7':RNodes false h7 [.sl 2 a (l.set f ⟨l[f].store,l[f].wait ++ [v]⟩).length c] (l.set f ⟨l[f].store,l[f].wait ++ [v]⟩) F7:=by rw [List.length_set];exact t7
  rw [← ha]
  refine ⟨l.set f ⟨l[f].store,l[f].wait ++ [v]⟩,a,c,h7,F7,by rw [List.length_set],t7',sm_set hsm ⟨(hsm.2 _ (List.getElem_mem hf)).1,by simp;omega,fun u hu=>?_⟩,(r5.keepF m15' m7 hlo5).up (by omega),m15'.draw1 m7 r5.lt⟩
  rcases List.mem_append.1 hu with hu | hu
  ·exact (hsm.2 _ (List.getElem_mem hf)).2.2 u hu
  ·rw [List.mem_singleton] at hu;subst hu
   exact ⟨by omega,by omega⟩
 | false =>
 rw [br_f]
 cases x==(2:Int) with
 | true =>
  have hnd3:=m13.nd
  rw [List.nodup_cons] at hnd3
  obtain ⟨F5,t5,n5,s5⟩:=t3.first (i:=f) (by omega) hnd3.2
  have hlen:(l.take f).length=f:=by simp;omega
  rw [br_t,reslice_pre t3 (by omega)]
  exact ⟨l.take f,a,c,h3,F5,by rw [hlen],by rw [hlen];exact t5,⟨by rw [hlen];omega,fun x hx=>hsm.2 x (List.mem_of_mem_take hx)⟩,r3.up (by omega),m13.thin n5 s5⟩
 | false =>
  rw [br_f]
  exact ⟨l,a,c,h3,F1,rfl,t3,hsm,r3.up (by omega),m13⟩
theorem DrawChainJoin {a0:Option (Nat×Nat)}{c0:Option Nat}{code:List UInt8} (hs:RBytes h [.sl 1 a0 code.length c0] code F) (hF:∀ y∈F,y<lo) (hl:lo≤h.length) (hn:code.length≤1048576) (hcap:∀ k,c0=some k→code.length≤k) :
  ∃ (l:List Node) (a:Option (Nat×Nat)) (c:Option Nat) (h':Heap) (F':List Nat),evl lo 44 [.sl 1 a0 code.length c0] h=some (.agg [.sl 2 a l.length c],h')∧RNodes false h' [.sl 2 a l.length c] l F'∧smNodes l∧Mv h [] h' F':=by
 obtain ⟨b,h1,e1,r1,m1⟩:=open_code hs hF hl hn hcap
 obtain ⟨l,a,c,h2,F2,e2,t2,hsm,r2,m2⟩:=anychain_draw r1 (by omega) (Nat.le_trans hl m1.le)
 have m12:=m1.trans m2
 refine ⟨l,a,c,h2,F2,E_spec_DrawChainJoin ?_,t2,hsm,m12.lean (List.nodup_cons.1 m12.nd).2 fun y hy=>by simp [hy]⟩
 rw [e1,cal_s,eP_p,e2,cal_s,eA_a,eC_c,eS_sl,eN_n]
end
end Go.Proofs.YthdfojchihooeaaGreat
namespace Go.Proofs.YthdfojchihooeaaGreat
open Go T


structure Sess where
 place:Int
 past:List Tag
 wait:Tag
 key:Int
structure Done where
 sess:Int
 kind:Int
 key:Int
 tag:Tag
structure World where
 places:List Place
 sess:List Sess
 net:List Frame
 hist:List Done
abbrev ePlace (ro:Bool):Nat:=bif ro then 187 else 89
abbrev eSess (ro:Bool):Nat:=bif ro then 194 else 115
abbrev eFrame (ro:Bool):Nat:=bif ro then 199 else 173
abbrev eDone (ro:Bool):Nat:=bif ro then 208 else 179
abbrev Sess.cs (s:Sess) (a:Option (Nat×Nat)) (c:Option Nat):List V := [.int .i64 s.place,.sl 2 a s.past.length c,.int .i64 s.wait.time,.int .i64 s.wait.place,.int .i64 s.key]
abbrev Done.cs (d:Done):List V := [.int .i64 d.sess,.int .i64 d.kind,.int .i64 d.key,.int .i64 d.tag.time,.int .i64 d.tag.place]
abbrev World.cs (w:World) (a1:Option (Nat×Nat)) (c1:Option Nat) (a2:Option (Nat×Nat)) (c2:Option Nat) (a3:Option (Nat×Nat)) (c3:Option Nat) (a4:Option (Nat×Nat)) (c4:Option Nat):List V :=
 [.sl 6 a1 w.places.length c1,.sl 5 a2 w.sess.length c2,.sl 9 a3 w.net.length c3,.sl 5 a4 w.hist.length c4]
abbrev RPlaces (ro:Bool):Rel (List Place):=Sli ro 6 (ePlace ro) (RPlace ro)
def RSess (ro:Bool):Rel Sess:=fun h cs s F=>∃ v,cs = [.int .i64 s.place,v,.int .i64 s.wait.time,.int .i64 s.wait.place,.int .i64 s.key]∧RTags ro h [v] s.past F
abbrev RSesss (ro:Bool):Rel (List Sess):=Sli ro 5 (eSess ro) (RSess ro)
abbrev RFrames (ro:Bool):Rel (List Frame):=Sli ro 9 (eFrame ro) (RFrame ro)
abbrev RDones (ro:Bool):Rel (List Done):=Sli ro 5 (eDone ro) (flat Done.cs)
section
variable {ro:Bool}{h:Heap}{F:List Nat}{a:Option (Nat×Nat)}{c:Option Nat}{n k:Nat}
theorem RPlaces.get {l:List Place} (hs:RPlaces ro h [.sl 6 a n c] l F) (hk:k<l.length):∃ o s1 s2 s3 a1 c1 a2 c2 a3 c3 F1 F2 F3,a=some o ∧
  ld h o.1 (o.2+k) 0 6=some [.int .i64 l[k].me,.int .i64 l[k].clock,s1,s2,s3,.bool l[k].fell]∧ld h o.1 (o.2+k) 0 1=some [.int .i64 l[k].me]∧ld h o.1 (o.2+k) 2 1=some [s1]∧ld h o.1 (o.2+k) 3 1=some [s2]∧ld h o.1 (o.2+k) 4 1=some [s3] ∧
  (∀ {R':Type} (K:Option (Nat×Nat)→Nat→Option Nat→Option R'),eS 2 s1 K=K a1 l[k].chain.length c1)∧(∀ {R':Type} (K:Option (Nat×Nat)→Nat→Option Nat→Option R'),eS 6 s2 K=K a2 l[k].log.length c2) ∧
  (∀ {R':Type} (K:Option (Nat×Nat)→Nat→Option Nat→Option R'),eS 1 s3 K=K a3 l[k].got.length c3) ∧
  RNodes ro h [.sl 2 a1 l[k].chain.length c1] l[k].chain F1∧RVers ro h [.sl 6 a2 l[k].log.length c2] l[k].log F2∧RVss ro h [.sl 1 a3 l[k].got.length c3] l[k].got F3∧(∀ b,b∈F1∨b∈F2∨b∈F3→b∈F):=by
 obtain ⟨o,row,G,h1,h2,hv,hG,_⟩:=hs.read hk
 obtain ⟨s1,s2,s3,a1,c1,a2,c2,a3,c3,F1,F2,F3,rfl,rfl,e1,e2,e3,g1,g2,g3⟩:=hv.form
 exact ⟨o,s1,s2,s3,a1,c1,a2,c2,a3,c3,F1,F2,F3,h1,by rw [h2];rfl,by rw [h2];rfl,by rw [h2];rfl,by rw [h2];rfl,by rw [h2];rfl,e1,e2,e3,g1,g2,g3,fun b hb=>hG b (by simpa using hb)⟩
theorem RSess.form {row:List V}{s:Sess} (hv:RSess ro h row s F):∃ v a c,row = [.int .i64 s.place,v,.int .i64 s.wait.time,.int .i64 s.wait.place,.int .i64 s.key] ∧
  (∀ {R':Type} (K:Option (Nat×Nat)→Nat→Option Nat→Option R'),eS 2 v K=K a s.past.length c)∧RTags ro h [.sl 2 a s.past.length c] s.past F:=by
 obtain ⟨v,rfl,hp⟩:=hv
 obtain ⟨a,c,es,hp2⟩:=hp.form
 exact ⟨v,a,c,rfl,es,hp2⟩
theorem RSesss.get {l:List Sess} (hs:RSesss ro h [.sl 5 a n c] l F) (hk:k<l.length):∃ o v a' c' G,a=some o∧ld h o.1 (o.2+k) 0 5=some [.int .i64 l[k].place,v,.int .i64 l[k].wait.time,.int .i64 l[k].wait.place,.int .i64 l[k].key] ∧
  ld h o.1 (o.2+k) 0 1=some [.int .i64 l[k].place]∧ld h o.1 (o.2+k) 1 1=some [v] ∧
  (∀ {R':Type} (K:Option (Nat×Nat)→Nat→Option Nat→Option R'),eS 2 v K=K a' l[k].past.length c')∧RTags ro h [.sl 2 a' l[k].past.length c'] l[k].past G∧(∀ b∈G,b∈F):=by
 obtain ⟨o,row,G,h1,h2,hv,hG,_⟩:=hs.read hk
 obtain ⟨v,a',c',rfl,es,hp⟩:=hv.form
 exact ⟨o,v,a',c',G,h1,by rw [h2];rfl,by rw [h2];rfl,by rw [h2];rfl,es,hp,hG⟩
theorem RFrames.get {l:List Frame} (hs:RFrames ro h [.sl 9 a n c] l F) (hk:k<l.length):∃ o s a' c' G,a=some o ∧
  ld h o.1 (o.2+k) 0 9=some [.int .i64 l[k].fro,.int .i64 l[k].to,.int .i64 l[k].at',.int .i64 l[k].ver.key,.int .i64 l[k].ver.tag.time,.int .i64 l[k].ver.tag.place,s,.str l[k].ver.text,.bool l[k].ver.gone] ∧
  (∀ {R':Type} (K:Option (Nat×Nat)→Nat→Option Nat→Option R'),eS 2 s K=K a' l[k].ver.past.length c')∧RTags ro h [.sl 2 a' l[k].ver.past.length c'] l[k].ver.past G∧(∀ b∈G,b∈F):=by
 obtain ⟨o,row,G,h1,h2,⟨vs,rfl,hv⟩,hG,_⟩:=hs.read hk
 obtain ⟨s,a',c',rfl,es,hp⟩:=hv.form
 exact ⟨o,s,a',c',G,h1,by rw [h2];rfl,es,hp,hG⟩
theorem RDones.get {l:List Done} (hs:RDones ro h [.sl 5 a n c] l F) (hk:k<l.length):∃ o,a=some o∧ld h o.1 (o.2+k) 0 5=some l[k].cs:=by
 obtain ⟨o,row,G,h1,h2,⟨rfl,_⟩,_⟩:=hs.read hk
 exact ⟨o,h1,by rw [h2];rfl⟩
end
section
variable {lo:Nat}{ro ro':Bool}{h:Heap}{F F':List Nat}{a a':Option (Nat×Nat)}{c c':Option Nat}{left:Int}
end
end Go.Proofs.YthdfojchihooeaaGreat
namespace Go.Proofs.YthdfojchihooeaaGreat
open Go T


def tellable (p:Place) (to at':Int):Bool:=placeOk p&&within to 0 2 && !(p.me==to)&&within at' 0 (p.log.length - 1)
def told (p:Place) (to at':Int):Frame:=bif tellable p to at' then ⟨p.me,to,at',(p.log[at'.toNat]?).getD zVer⟩ else ⟨0,0,0,zVer⟩
section
variable {lo:Nat}{h:Heap}{F F':List Nat}{a a':Option (Nat×Nat)}{c c':Option Nat}
end
end Go.Proofs.YthdfojchihooeaaGreat
namespace Go.Proofs.YthdfojchihooeaaGreat
open Go T


abbrev intCs (n:Int):List V := [.int .i64 n]
abbrev RInts:Rel (List Int):=Sli false 1 3 (flat intCs)
section
variable {lo:Nat}{h:Heap}{F F' F1:List Nat}{a a' a1 a2 a3 a4:Option (Nat×Nat)}{c c' c1 c2 c3 c4:Option Nat}{k:Int}
theorem RInts.get {l:List Int}{n i:Nat} (hs:RInts h [.sl 1 a n c] l F) (hi:i<l.length):∃ o,a=some o∧ld h o.1 (o.2+i) 0 1=some [.int .i64 l[i]]:=by
 obtain ⟨o,row,G,h1,h2,⟨rfl,_⟩,_⟩:=hs.read hi
 exact ⟨o,h1,by rw [h2];rfl⟩
end
end Go.Proofs.YthdfojchihooeaaGreat
namespace Go.Proofs.YthdfojchihooeaaGreat
open Go T


structure Roomy (p:Place):Prop where
 seen:∃ U:List Tag,U.length≤54∧(∀ v∈p.log,v.tag∈U)∧∀ v,inCh p.chain v→0<v.tag.time→v.tag.place=p.me→v.tag∈U
 told:∀ v∈lastOf p.chain,0<v.tag.time→v.tag.place=p.me→hasTag p.log v.tag=true
theorem nodup_len {α:Type} [DecidableEq α]:∀ {a U:List α},a.Nodup→(∀ x∈a,x∈U)→a.length≤U.length
 | [],U,_,_=>Nat.zero_le _
 | x :: a,U,hn,hs=>by
  rw [List.nodup_cons] at hn
  have h1:=hs x (by simp)
  have h2:=nodup_len (a:=a) (U:=U.erase x) hn.2 fun y hy=>(List.mem_erase_of_ne (fun e=>hn.1 (by rw [← e];exact hy))).2 (hs y (by simp [hy]))
  rw [List.length_erase_of_mem h1] at h2
  have:=List.length_pos_of_mem h1
  simp only [List.length_cons];omega
section
variable {p:Place}
theorem log_nodup {m:Int}{l:List Ver} (h:logOk m l=true):(l.map fun v=>v.tag).Nodup:=by
 obtain ⟨_,h2⟩:=log_parts h
 unfold List.Nodup
 rw [List.pairwise_map,List.pairwise_iff_getElem]
 intro i j hi hj hij e
 have h3:=(h2 j hj).2.2
 have:hasTag (l.take j) l[j].tag=true:=hasTag_mem.2 ⟨l[i],by
  rw [List.mem_iff_getElem]
  exact ⟨i,by simp;omega,by simp⟩,e⟩
 rw [h3] at this;cases this
theorem Roomy.len (h:Roomy p) (hp:placeOk p=true):p.log.length≤54:=by
 obtain ⟨U,h1,h2,_⟩:=h.seen
 have:=nodup_len (U:=U) (log_nodup (ok_parts hp).2.2.2.2.2.1) (fun t ht=>by
  obtain ⟨v,hv,rfl⟩:=List.mem_map.1 ht
  exact h2 v hv)
 simp only [List.length_map] at this
 omega
end
section
variable {w:World}
end
end Go.Proofs.YthdfojchihooeaaGreat
namespace Go.Proofs.YthdfojchihooeaaGreat
open Go T


structure Event where
 kind:Int
 at':Int
 num:Int
 key:Int
 text:ByteArray
 gone:Bool
abbrev Event.cs (e:Event):List V := [.int .i64 e.kind,.int .i64 e.at',.int .i64 e.num,.int .i64 e.key,.str e.text,.bool e.gone]
section
variable {w w':World}
end
end Go.Proofs.YthdfojchihooeaaGreat
namespace Go.Proofs.YthdfojchihooeaaGreat
open Go T


set_option maxRecDepth 100000
section
variable {lo:Nat}{ro ro':Bool}{h:Heap}{F F':List Nat}{a a':Option (Nat×Nat)}{c c':Option Nat}
theorem cfPast {l:List Tag} (h1:RTags ro h [.sl 2 a l.length c] l F) (h2:RTags ro' h [.sl 2 a' l.length c'] l F') (hn:l.length≤1048576):evl lo 47 [.agg [.sl 2 a l.length c],.agg [.sl 2 a' l.length c']] h=some (.bool true,h):=by
 refine E_laws_cfPast (h':=h) ?_
 rw [beqI,br_t]
 refine (go_loop (n:=l.length) (fun i=>L_laws_cfPast_0 (List.length h) false (i:Nat) a l.length c a' l.length c' h) fun i hi=>?_).trans ?_
 ·obtain ⟨o,rfl,ho⟩:=h1.get hi
  obtain ⟨o',rfl,ho'⟩:=h2.get hi
  rw [L_laws_cfPast_0.e,br_pos (by omega),inB_nat hi]
  simp only [eO_s,Int.toNat_natCast,ho,ho',eC_c,eI_int,eN_n,inB_nat hi,beqI,br_t,Bool.and_self,wr_succ (show i<9223372036854775807 by omega)]
 ·rw [L_laws_cfPast_0.e,br_neg (by omega)]
theorem cfVer {v:Ver} (h1:RTags ro h [.sl 2 a v.past.length c] v.past F) (h2:RTags ro' h [.sl 2 a' v.past.length c'] v.past F') (hn:v.past.length≤1048576):evl lo 34 [.agg (v.cs a c),.agg (v.cs a' c')] h=some (.bool true,h) :=
 E_laws_cfVer (h':=h) (by simp only [cfPast h1 h2 hn,cal_s,eB_b,br_t,beqI,beqB,beqL,Bool.and_self])
theorem cfVers {l:List Ver} (h1:RVers ro h [.sl 6 a l.length c] l F) (h2:RVers ro' h [.sl 6 a' l.length c'] l F') (hn:smVers l):evl lo 56 [.sl 6 a l.length c,.sl 6 a' l.length c'] h=some (.bool true,h):=by
 have hn1:=hn.1
 refine E_laws_cfVers (h':=h) ?_
 rw [beqI,br_t]
 refine (go_loop (n:=l.length) (fun i=>L_laws_cfVers_0 (List.length h) a l.length c a' l.length c' false (i:Nat) h) fun i hi=>?_).trans ?_
 ·obtain ⟨o,s,b1,c1,G1,rfl,ho,es,hp,_⟩:=h1.get hi
  obtain ⟨o',s',b2,c2,G2,rfl,ho',es',hp',_⟩:=h2.get hi
  rw [L_laws_cfVers_0.e,br_pos (by omega),inB_nat hi]
  simp only [eO_s,Int.toNat_natCast,ho,ho',eC_c,eI_int,es,es',eT_s,eBv_b,eN_n,inB_nat hi]
  rw [cfVer hp hp' (hn.2 _ (List.getElem_mem hi)).1]
  simp only [cal_s,eB_b,br_t,wr_succ (show i<9223372036854775807 by omega)]
 ·rw [L_laws_cfVers_0.e,br_neg (by omega)]
theorem cfStore {l:List Ver} (h1:RVers ro h [.sl 6 a l.length c] l F) (h2:RVers ro' h [.sl 6 a' l.length c'] l F') (hn:smVers l):evl lo 41 [.agg [.sl 6 a l.length c],.agg [.sl 6 a' l.length c']] h=some (.bool true,h):=by
 have hn1:=hn.1
 refine E_laws_cfStore (h':=h) ?_
 rw [beqI,br_t]
 refine (go_loop (n:=l.length) (fun i=>L_laws_cfStore_0 (List.length h) false (i:Nat) a l.length c a' l.length c' h) fun i hi=>?_).trans ?_
 ·obtain ⟨o,s,b1,c1,G1,rfl,ho,es,hp,_⟩:=h1.get hi
  obtain ⟨o',s',b2,c2,G2,rfl,ho',es',hp',_⟩:=h2.get hi
  rw [L_laws_cfStore_0.e,br_pos (by omega),inB_nat hi]
  simp only [eO_s,Int.toNat_natCast,ho,ho',eC_c,eI_int,es,es',eT_s,eBv_b,eN_n,inB_nat hi]
  rw [cfVer hp hp' (hn.2 _ (List.getElem_mem hi)).1]
  simp only [cal_s,eB_b,br_t,wr_succ (show i<9223372036854775807 by omega)]
 ·rw [L_laws_cfStore_0.e,br_neg (by omega)]
theorem cfChain {l:List Node} (h1:RNodes ro h [.sl 2 a l.length c] l F) (h2:RNodes ro' h [.sl 2 a' l.length c'] l F') (hn:smNodes l):evl lo 39 [.agg [.sl 2 a l.length c],.agg [.sl 2 a' l.length c']] h=some (.bool true,h):=by
 have hn1:=hn.1
 refine E_laws_cfChain (h':=h) ?_
 rw [beqI,br_t]
 refine (go_loop (n:=l.length) (fun i=>L_laws_cfChain_0 (List.length h) false (i:Nat) a l.length c a' l.length c' h) fun i hi=>?_).trans ?_
 ·obtain ⟨o,s1,s2,a1,c1,a2,c2,G1,G2,rfl,ho,ho1,ho2,e1,e2,hp1,hp2,_⟩:=h1.get hi
  obtain ⟨o',s1',s2',a1',c1',a2',c2',G1',G2',rfl,ho',ho1',ho2',e1',e2',hp1',hp2',_⟩:=h2.get hi
  rw [L_laws_cfChain_0.e,br_pos (by omega),inB_nat hi]
  simp only [eO_s,Int.toNat_natCast,ho1,ho1',eC_c,e1,e1',eN_n,inB_nat hi]
  rw [cfStore hp1 hp1' (hn.2 _ (List.getElem_mem hi)).1]
  simp only [cal_s,eB_b,br_t,eO_s,ho2,ho2',eC_c,eN_n,e2,e2',inB_nat hi]
  rw [cfVers hp2 hp2' (hn.2 _ (List.getElem_mem hi)).2]
  simp only [cal_s,eB_b,br_t,wr_succ (show i<9223372036854775807 by omega)]
 ·rw [L_laws_cfChain_0.e,br_neg (by omega)]
theorem impl_ChainStable {l:List Node} (hs:RNodes false h [.sl 2 a l.length c] l F) (hl:lo≤h.length) (hn:smNodes l) (hc:Ch l) :
  ∃ a' c' h' F',evl lo 43 [.agg [.sl 2 a l.length c]] h=some (.agg [.sl 2 a' (stable l).length c'],h')∧RTags false h' [.sl 2 a' (stable l).length c'] (stable l) F'∧Mv h [] h' F':=by
 have hpos:=hc.pos
 have m0:Mv h [] (h ++ [.rows 1 56 false [[.sl 2 a l.length c]]]) []:=Mv.snoc
 have hs0:=m0.keep0 rnodes_ok hs
 have hld:ld (h ++ [.rows 1 56 false [[.sl 2 a l.length c]]]) h.length 0 0 1=some [.sl 2 a l.length c]:=by
  rw [ld_of (show (h ++ [Blk.rows 1 56 false [[.sl 2 a l.length c]]])[h.length]?=some (.rows 1 56 false [[.sl 2 a l.length c]]) by simp) rfl];exact cut_all rfl
 obtain ⟨a1,c1,G1,e1,q1,_⟩:=impl_tail (lo:=lo) hld hs0 (by omega) hn.1
 obtain ⟨v,h2,F2,e2,r2,m2⟩:=impl_tags (lo:=lo) q1 (Nat.le_trans hl m0.le) (hc.store (List.getElem?_eq_getElem (by omega))).2
 rw [← last_get (by omega)] at r2
 obtain ⟨a2,c2,es,r2⟩:=r2.form
 refine ⟨a2,c2,h2,F2,E_impl_ChainStable ?_,r2,m0.trans m2⟩
 rw [hld,eO_s,eC_c,eS_sl,eN_n,impl_ChainOk hs0 hn,chain_iff.2 hc,cal_s,eB_b,br_t,e1,cal_s,eA_a,eC_c,eS_sl,eN_n,e2,cal_s,eA_a,eC_c,es,eN_n]
theorem impl_ChainJoin {l:List Node}{cs:List V} (hp:RChainN false h cs l F) (hl:lo≤h.length) (hn:smNodes l) :
  ∃ raw r h' F',evl lo 45 [.agg cs] h=some (.tup [.agg raw,.bool (chainOk l&&canJoin l)],h')∧NChain raw (triedC l (tryJoin l)) r∧RChainN false h' r (triedC l (tryJoin l)) F'∧Mv h [] h' F':=by
 obtain ⟨a1,c1,rfl,hp1⟩:=id hp
 suffices hk:∃ raw r h' F',_=some (V.tup [.agg raw,.bool (chainOk l&&canJoin l)],h')∧NChain raw (triedC l (tryJoin l)) r∧RChainN false h' r (triedC l (tryJoin l)) F'∧Mv h [] h' F' from by
  obtain ⟨raw,r,h',F',e,hr⟩:=hk
  exact ⟨raw,r,h',F',E_impl_ChainJoin e,hr⟩
 rw [impl_ChainOk hp1 hn,cal_s,eB_b]
 unfold triedC
 cases hpo:chainOk l with
 | false =>
  rw [br_f]
  exact ⟨_,_,_,[],rfl,⟨_,none,some 0,rfl,fun K=>rfl,rfl⟩,⟨none,some 0,rfl,Sli.nil⟩,Mv.nil⟩
 | true =>
 obtain ⟨a6,c6,h6,F6,e6,r6,m6⟩:=impl_triedC (lo:=lo) (l':=tryJoin l) (l1 := []) (g:=129) (ok:=canJoin l) hp hl hn (fun hh b b1 G hhl mm g1 hb hnd hlo=>by
  obtain ⟨a5,x5,c5,h5,F5,e5,b5,r5,m5⟩:=impl_join (lo:=lo) (i:=0) (j:=0) hb rfl rfl g1.up (by have:=(chainOk_all hpo).1;omega) hn hnd (fun y hy=>Nat.le_trans hl (hlo y hy)) (Nat.le_trans hl hhl)
  have hx5:=r5.val
  subst hx5
  exact ⟨h5,a5,c5,F5,e5,r5,b5,m5⟩)
 rw [br_t,e6,cal_s,eU_t,eC_c,eA_a,eC_c,eS_sl,eN_n,eC_c,eB_b,eN_n,eN_n,cond_true,Bool.true_and]
 refine ⟨[.sl 2 a6 (tryJoin l).length c6],_,h6,F6,?_,nchain_self,⟨_,_,rfl,r6⟩,m6⟩
 cases canJoin l
 ·rw [br_f]
 ·rw [br_t]
theorem spec_ChainJoin {l:List Node}{cs:List V} (hp:RChainN false h cs l F) (hl:lo≤h.length) (hn:smNodes l) :
  ∃ raw r h' F',evl lo 46 [.agg cs] h=some (.tup [.agg raw,.bool (chainOk l&&canJoin l)],h')∧NChain raw (triedC l (tryJoin l)) r∧RChainN false h' r (triedC l (tryJoin l)) F'∧Mv h [] h' F':=by
 obtain ⟨a1,c1,rfl,hp1⟩:=id hp
 have hn1:=hn.1
 suffices hk:∃ raw r h' F',_=some (V.tup [.agg raw,.bool (chainOk l&&canJoin l)],h')∧NChain raw (triedC l (tryJoin l)) r∧RChainN false h' r (triedC l (tryJoin l)) F'∧Mv h [] h' F' from by
  obtain ⟨raw,r,h',F',e,hr⟩:=hk
  exact ⟨raw,r,h',F',E_spec_ChainJoin e,hr⟩
 rw [spec_l3Ok hp1 hn,cal_s,eB_b]
 unfold triedC
 cases hpo:chainOk l with
 | false =>
  rw [br_f]
  exact ⟨_,_,h,[],rfl,⟨_,none,some 0,rfl,fun K=>rfl,rfl⟩,⟨none,some 0,rfl,Sli.nil⟩,Mv.nil⟩
 | true =>
 have hpos:=(chainOk_all hpo).1
 rw [br_t,cond_true,Bool.true_and]
 obtain ⟨v,h4,F4,e4,r4,m4⟩:=spec_l3Copy (lo:=lo) hp1 hl hn
 obtain ⟨a4,c4,es4,r4⟩:=r4.form
 unfold tryJoin canJoin
 by_cases h4':(l.length:Int)<4
 ·obtain ⟨a5,c5,h5,F5,e5,r5,m5⟩:=spec_l3Join (lo:=lo) r4 (by omega) hn m4.nd (fun y hy=>by have:=m4.new y hy;omega) (Nat.le_trans hl m4.le)
  have hx:(joinN l).length=l.length+1:=by rw [joinN_get (by omega)];simp
  rw [br_neg (by omega),e4,cal_s,eA_a,eC_c,es4,eN_n,e5,cal_s,eA_a,eC_c,eS_sl,eN_n,decide_eq_true h4',cond_true]
  rw [← hx] at r5 ⊢
  exact ⟨_,_,h5,F5,rfl,nchain_self,⟨_,_,rfl,r5⟩,m4.trans m5⟩
 ·rw [br_pos (by omega),e4,cal_s,eA_a,eC_c,es4,eN_n,decide_eq_false h4',cond_false]
  exact ⟨_,_,h4,F4,rfl,nchain_self,⟨_,_,rfl,r4⟩,m4⟩
end
end Go.Proofs.YthdfojchihooeaaGreat
namespace Go.Proofs.YthdfojchihooeaaGreat
open Go T


set_option maxRecDepth 100000
section
variable {h:Heap}
theorem tv_u8 {n t:Nat}{xs:List V} (hu:Tryz.prog.underlying t=some (.int .u8)) (hx:TV Tryz.prog h (n+1) t xs):∃ u:UInt8,xs=bcs u:=by
 simp only [TV,hu] at hx
 obtain ⟨i,rfl,h2⟩:=hx
 have e1:IntKind.u8.min=0:=by decide
 have e2:IntKind.u8.max=255:=by decide
 simp only [Lit.wf,Bool.and_eq_true,decide_eq_true_eq,e1,e2] at h2
 refine ⟨UInt8.ofNat i.toNat,?_⟩
 unfold bcs
 rw [UInt8.toNat_ofNat',Nat.mod_eq_of_lt (by omega),show ((i.toNat:Nat):Int)=i by omega]
theorem av_bytes {n:Nat}{x:V} (hx:ArgV Tryz.prog h (n+2) 53 x):∃ (a:Option (Nat×Nat)) (c:Option Nat) (l:List UInt8) (F:List Nat),x = .sl 1 a l.length c∧RBytes h [.sl 1 a l.length c] l F∧(∀ y∈F,y<h.length)∧∀ k,c=some k→l.length≤k:=by
 have hx2:TV Tryz.prog h (n+2) 53 [x]:=by
  unfold ArgV at hx;rw [Tryz.underlying53] at hx;exact hx
 have hx3:=hx2
 simp only [TV,Tryz.underlying53] at hx3
 obtain ⟨a,c,rs,e,⟨_,hcap⟩,_⟩:=hx3
 injection e with e _
 subst e
 obtain ⟨l,F,h1,_⟩:=tv_sli (El:=flat bcs) (bd:=fun _=>True) (ee:=0) (R:=1) Tryz.underlying53 (by kernel_rfl) (fun row hr=>by obtain ⟨t,rfl⟩:=tv_u8 (n:=n) Tryz.underlying5 hr;exact ⟨t,[],⟨rfl,rfl⟩,trivial⟩) hx2
 have hv:=h1.val
 have hc:Tryz.prog.cellsOf 5=1:=by kernel_rfl
 rw [hv,hc] at h1
 exact ⟨a,c,l,F,by rw [hv,hc],h1,(Sli.ok flat_ok).bd _ _ _ _ h1,fun k hk=>by rw [← hv];exact hcap k hk⟩
end
theorem fall_join {l:List Node} (h:Ch l):fallN (joinN l) l.length=l:=by
 obtain ⟨hj,_⟩:=join_last h
 have hp:=h.pos
 apply List.ext_getElem?
 intro i
 have jg:∀ i,i<l.length→(joinN l)[i]?=l[i]?:=fun i hi=>by rw [joinN_get (by omega),List.getElem?_append_left hi]
 rw [fall_get (by omega)]
 by_cases h1:i+1=l.length
 ·rw [if_pos h1,jg i (by omega),List.getElem?_eq_none (show (joinN l).length≤l.length+1 by omega)]
  have hl:=List.getElem?_eq_getElem (show i<l.length by omega)
  have hw:=h.last i _ hl h1
  rw [hl,Option.map_some]
  congr 1
  rw [← hw]
 ·rw [if_neg h1]
  by_cases h2:i<l.length
  ·rw [if_pos h2,jg i h2]
  ·rw [if_neg h2,List.getElem?_eq_none (by omega),List.getElem?_eq_none (by omega)]
theorem law_FnChainJoin {h:Heap}{F:List Nat}{a0:Option (Nat×Nat)}{c0:Option Nat}{code:List UInt8} (hs:RBytes h [.sl 1 a0 code.length c0] code F) (hF:∀ y∈F,y<h.length) (hcap:∀ k,c0=some k→code.length≤k) :
  ∃ h',evl h.length 8 [.sl 1 a0 code.length c0] h=some (.bool true,h'):=by
 suffices hk:∃ h',_=some (V.bool true,h') from by
  obtain ⟨h',e⟩:=hk
  exact ⟨h',E_laws_FnChainJoin e⟩
 by_cases hbig:(code.length:Int)>1048576
 ·rw [br_pos hbig];exact ⟨h,rfl⟩
 rw [br_neg hbig]
 obtain ⟨l,a,c,h1,F1,e1,r1,sm1,m1⟩:=DrawChainJoin (lo:=h.length) hs hF (Nat.le_refl _) (by omega) hcap
 obtain ⟨raw2,cs2,h2,F2,e2,n2,r2,m2⟩:=impl_ChainJoin (lo:=h.length) ⟨a,c,rfl,r1⟩ m1.le sm1
 have r12:=m2.keep0 rnodes_ok r1
 have l2:=Nat.le_trans m1.le m2.le
 obtain ⟨raw3,cs3,h3,F3,e3,n3,r3,m3⟩:=spec_ChainJoin (lo:=h.length) ⟨a,c,rfl,r12⟩ l2 sm1
 have r13:=m3.keep0 rnodes_ok r12
 have l3:=Nat.le_trans l2 m3.le
 have hX:∃ X,triedC l (tryJoin l)=X:=⟨_,rfl⟩
 obtain ⟨X,hX⟩:=hX
 have hsm:smNodes X:=by
  rw [← hX];unfold triedC
  cases hpo:chainOk l with
  | false=>exact (in_nodes (l := []) (by simp) (by simp)).1
  | true =>
  rw [cond_true]
  unfold tryJoin
  cases hcj:canJoin l with
  | false=>exact sm1
  | true =>
   have:=(chain_iff.1 hpo).join (by unfold canJoin at hcj;rw [decide_eq_true_eq] at hcj;omega)
   exact chainOk_sm (chain_iff.2 this)
 rw [hX] at n2 n3 r2 r3
 obtain ⟨s2,a2,c2,rfl,q2,rfl⟩:=n2
 obtain ⟨s3,a3,c3,rfl,q3,rfl⟩:=n3
 obtain ⟨_,_,_,r2⟩:=r2
 obtain ⟨_,_,_,r3⟩:=r3
 have r23:=m3.keep0 rnodes_ok r2
 rw [e1,cal_s,eA_a,eC_c,eS_sl,eN_n,e2,cal_s,eU_t,eC_c,eA_a,eC_c,q2,eN_n,eC_c,eB_b]
 cases hco:chainOk l with
 | false =>
  rw [hco] at e3
  rw [Bool.false_and] at e3 ⊢
  rw [br_f,eN_n,e3,cal_s,eU_t,eC_c,eA_a,eC_c,q3,eN_n,eC_c,eB_b,br_f,eN_n,cfChain r23 r3 hsm,cal_s,eB_b,br_t,impl_ChainOk r13 sm1,cal_s,eB_b,hco,br_f,cfChain r23 r3 hsm,cal_s,eB_b,br_t]
  exact ⟨_,rfl⟩
 | true =>
 have hch:=chain_iff.1 hco
 have hle:=hch.le
 have hpos:=hch.pos
 rw [hco] at e3
 rw [Bool.true_and] at e3 ⊢
 cases hcj:canJoin l with
 | false =>
  have hX':X=l:=by rw [← hX];unfold triedC tryJoin;rw [hco,hcj];rfl
  subst hX'
  rw [hcj] at e3
  unfold canJoin at hcj
  rw [decide_eq_false_iff_not] at hcj
  rw [br_f,eN_n,e3,cal_s,eU_t,eC_c,eA_a,eC_c,q3,eN_n,eC_c,eB_b,br_f,eN_n,cfChain r23 r3 hsm,cal_s,eB_b,br_t,impl_ChainOk r13 sm1,cal_s,eB_b,hco,br_t,cfChain r23 r13 sm1,cal_s,eB_b,br_t,show ((X.length:Int)==4)=true by simp;omega,br_t]
  exact ⟨_,rfl⟩
 | true =>
 have hX':X=joinN l:=by rw [← hX];unfold triedC tryJoin;rw [hco,hcj];rfl
 rw [hcj] at e3
 unfold canJoin at hcj
 rw [decide_eq_true_eq] at hcj
 have hxc:Ch X:=by rw [hX'];exact hch.join (by omega)
 obtain ⟨j1,j2,_⟩:=join_last hch
 rw [← hX'] at j1 j2
 obtain ⟨raw4,cs4,h4,F4,e4,n4,r4,m4⟩:=impl_ChainFall (lo:=h.length) (k:=(l.length:Int)) ⟨a2,c2,rfl,r23⟩ l3 hsm
 have hcf:canFallC X (l.length:Int)=true:=by
  unfold canFallC within
  rw [decide_eq_true (show 1<X.length by omega),decide_eq_true (show (0:Int)≤(l.length:Int) by omega),decide_eq_true (show (l.length:Int)≤(X.length:Int) - 1 by omega)];rfl
 have hY:triedC X (tryFallC X (l.length:Int))=l:=by
  unfold triedC tryFallC
  rw [chain_iff.2 hxc,hcf,cond_true,cond_true,Int.toNat_natCast,hX',fall_join hch]
 rw [hY] at n4 r4
 rw [chain_iff.2 hxc,hcf,Bool.true_and] at e4
 obtain ⟨s4,a4,c4,rfl,q4,rfl⟩:=n4
 obtain ⟨_,_,_,r4⟩:=r4
 have l4:=Nat.le_trans l3 m4.le
 have r14:=m4.keep0 rnodes_ok r13
 have r24:=m4.keep0 rnodes_ok r23
 obtain ⟨a5,c5,h5,F5,e5,r5,m5⟩:=impl_ChainStable (lo:=h4.length) r24 (Nat.le_refl _) hsm hxc
 have r15:=m5.keep0 rnodes_ok r14
 obtain ⟨a6,c6,h6,F6,e6,r6,m6⟩:=impl_ChainStable (lo:=h.length) r15 (Nat.le_trans l4 m5.le) sm1 hch
 have r56:=m6.keep0 rtags_ok r5
 rw [j2] at r56 e5
 have r46:=m6.keep0 rnodes_ok (m5.keep0 rnodes_ok r4)
 have r16:=m6.keep0 rnodes_ok r15
 rw [br_t,eN_n,e3,cal_s,eU_t,eC_c,eA_a,eC_c,q3,eN_n,eC_c,eB_b,br_t,eN_n,cfChain r23 r3 hsm,cal_s,eB_b,br_t,impl_ChainOk r13 sm1,cal_s,eB_b,hco,br_t,show (X.length:Int) - 1=(l.length:Int) by omega,wr (by omega) (by omega),e4,cal_s,eU_t,eC_c,eA_a,eC_c,q4,eN_n,eC_c,eB_b,br_t,eN_n,impl_ChainOk r24 hsm,chain_iff.2 hxc,cal_s,eB_b,br_t,wr_succ (by omega),show (X.length:Int)=((l.length+1:Nat):Int) by omega,beqI,br_t]
 rw [e5,cal_s,eA_a,eC_c,eS_sl,eN_n,e6,cal_s,eA_a,eC_c,eS_sl,eN_n,cfPast r56 r6 (by have:=hch.four.1;omega),cal_s,eB_b,br_t,cfChain r46 r16 sm1,cal_s,eB_b,br_t]
 exact ⟨_,rfl⟩
theorem main_FnChainJoin {h:Heap}{x:V} (hx:ArgV Tryz.prog h 12 53 x):∃ h',evl h.length 8 [x] h=some (.bool true,h'):=by
 obtain ⟨a,c,l,F,rfl,h1,h2,h3⟩:=av_bytes (n:=10) hx
 exact law_FnChainJoin h1 h2 h3
end Go.Proofs.YthdfojchihooeaaGreat
