/- Regions whose order the model draws: an operation that runs. -/
import Derived.Test.YtfbhdjkeofleiaaDoorTeeU
namespace Go.Proofs.YtfbhdjkeofleiaaDoor.T
open Go
set_option linter.unusedVariables false
set_option linter.unusedSimpArgs false
set_option linter.unnecessarySimpa false

theorem inert_write {o : Oper} (h : inert o = true) : isWrite o = false := by
  obtain ⟨dst, op, ty, pos, after, guard⟩ := o
  cases op <;> simp only [inert] at h <;> (try cases h) <;> simp only [isWrite]
  rename_i c
  obtain ⟨callee, args0, ts⟩ := c
  cases callee <;> simp only at h ⊢
  rename_i b
  cases b <;> simp_all

section
variable {P : Program} {X : Ctx} {lo base nt : Nat} {ρ0 : Rho} {β0 : Bet} {w0 : World} {all : List Oper} {cl : Nat → Bool} {S : Nat → St} (hV : Env P X lo base nt ρ0 β0 w0 all cl S)
variable {L : Nat → Prop} {q : Nat} {ρ : Rho} {β : Bet} {a : Act} {w : World} (hI : Inv lo base nt ρ0 β0 w0 all cl S L q ρ β a w)
variable (hcl : ∀ (i : Nat) (o : Oper), all[i]? = some o → L i → ∀ e ∈ o.after.toList, bindsE e = true → L e.on)
variable {i : Nat} {o : Oper} (ho : all[i]? = some o) (hready : ∀ e ∈ o.after.toList, bindsE e = true → L e.on) (hn : ¬ L i)
variable (hX : X.ty = tyOf P) (hE : ∀ t, X.cmp t = true → EqOk P t) (hC : SC P X.call)
variable {K : Act → World → Prop} {Q : Exit → Act → World → Prop}
  (hK : ∀ q' ρ' β' a' w', Inv lo base nt ρ0 β0 w0 all cl S (fun j => L j ∨ j = i) q' ρ' β' a' w' → K a' w')

/-- the slots that an operation reads -/
def rd (o : Oper) (s : List (Nat × V)) : List (Nat × V) := keepS (opTmps o.op.operands.toList) s

include hV hI hcl ho hready hn in
theorem rd_rel {ρ' : Rho} {β' : Bet} (h : ∀ t c, SV ρ β (look (S i).s t) c → SV ρ' β' (look (S i).s t) c) : SRel ρ' β' (rd o (S i).s) a := by
  intro t
  unfold rd
  rw [look_keepS']
  split
  · rename_i ht
    exact h t _ (reads_rel hV hI hcl ho hready hn (by unfold touchesT readsT; simp [ht]))
  · exact SV.of (VR.any _)

include hI in
/-- what memory has become, where the operation writes what was there -/
theorem ext0_next {ρ2 : Rho} {w' : World} (h : Rle ρ ρ2) (hnew : ∀ b e, ρ b = none → ρ2 b = some e → (S 0).h.length ≤ b ∧ (base ≤ e.r ∨ ∃ b0 e0, ρ b0 = some e0 ∧ lo ≤ b0 ∧ e0.r = e.r))
    (hfr : ∀ r, r < base → (∀ b e, ρ b = some e → lo ≤ b → e.r ≠ r) → w'.heap[r]? = w.heap[r]?) (hs : w.heap.size ≤ w'.heap.size) (h1 : w'.os = w.os) (h2 : w'.tape = w.tape) (h3 : w'.output = w.output) : Ext0 lo base ρ0 (S 0).h.length w0 ρ2 w' where
  rle := hI.x.rle.trans h
  new := fun b e hb he => by
    cases hρ : ρ b with
    | some e1 =>
      have := h b e1 hρ
      rw [he] at this; injection this with this; subst this
      exact hI.x.new b _ hb hρ
    | none =>
      obtain ⟨g1, g2⟩ := hnew b e hρ he
      refine ⟨g1, ?_⟩
      rcases g2 with g2 | ⟨b0, e0, g3, g4, g5⟩
      · exact .inl g2
      · cases h0 : ρ0 b0 with
        | some e1 =>
          have := hI.x.rle b0 e1 h0
          rw [g3] at this; injection this with this; subst this
          exact .inr ⟨b0, _, h0, g4, g5⟩
        | none =>
          rcases (hI.x.new b0 e0 h0 g3).2 with g6 | ⟨b1, e1, g6, g7, g8⟩
          · exact .inl (by omega)
          · exact .inr ⟨b1, e1, g6, g7, g8.trans g5⟩
  frame := fun r hr hf => by
    refine (hfr r hr fun b e hb hlo he => ?_).trans (hI.x.frame r hr hf)
    cases h0 : ρ0 b with
    | some e1 =>
      have := hI.x.rle b e1 h0
      rw [hb] at this; injection this with this; subst this
      exact hf b _ h0 hlo he
    | none =>
      rcases (hI.x.new b e h0 hb).2 with g6 | ⟨b1, e1, g6, g7, g8⟩
      · omega
      · exact hf b1 e1 g6 g7 (g8.trans he)
  size := Nat.le_trans hI.x.size hs
  os := h1.trans hI.x.os
  tape := h2.trans hI.x.tape
  output := h3.trans hI.x.output

include hV hI hcl ho hready hn hX hE hC hK in
/-- it leaves memory as it was -/
theorem run_quiet (hw0 : isWrite o = false) (hnb : ¬ Bar all cl i) {v : V} {σ1 : St} {lo' : Nat} (h1 : stepOp X lo' o.dst o.type o.op (S i) = some (v, σ1)) (e2 : σ1.h = (S i).h)
    (hk : stepOp X (S q).h.length o.dst o.type o.op ⟨(S i).s, (S q).bx, (S q).h⟩ = some (v, ⟨(S i).s, (S q).bx, (S q).h⟩)) (hS : S (i + 1) = putS σ1 o.dst v) : o.wp P a w K Q := by
  have hsl := stepOp_slots (s' := rd o (S i).s) (fun x hx => ev_keepS x hx) hk
  unfold stepOp at hsl
  refine op_sound (lo := (S q).h.length) (base := w.heap.size) (σ := ⟨rd o (S i).s, (S q).bx, (S q).h⟩) (K := fun v σ => some (v, σ)) (r := (v, ⟨rd o (S i).s, (S q).bx, (S q).h⟩)) hX hE hC hsl (rd_rel hV hI hcl ho hready hn fun t c h => h) hI.h hI.f (Nat.le_refl _) (Nat.le_refl _)
    (fun hw => ?_) ?_
  · rw [hw0] at hw; cases hw
  · intro v' σ' c w' hk' hf
    injection hk' with hk'; injection hk' with z1 z2; subst z1; subst z2
    obtain ⟨ρ', β', f1, f2, f3, f4, f5, f6, f7, f8⟩ := hf
    have hρ : ρ' = ρ := by
      funext b
      cases hb : ρ b with
      | some e => exact f5.rle b e hb
      | none =>
        cases hb' : ρ' b with
        | none => rfl
        | some e =>
          have g1 := (f5.new b e hb hb').1
          have g2 := (f3.dom b e hb').1
          exact absurd g2 (Nat.not_lt.2 g1)
    have hβ : β' = β := by
      funext t
      cases hb : β t with
      | some r => exact f6 t r hb
      | none =>
        cases hb' : β' t with
        | none => rfl
        | some r =>
          have g1 := (f7 t r hb hb').2
          obtain ⟨row, _, _, g2, _⟩ := f4.has t r hb'
          have g1 : lookB (S q).bx t = none := g1
          have g2 : lookB (S q).bx t = some row := g2
          rw [g1] at g2; cases g2
    subst hρ; subst hβ
    have hfr : ∀ r, r < w.heap.size → w'.heap[r]? = w.heap[r]? := fun r hr => f5.frame r hr fun b e hb hle => by
      have := (hI.h.dom b e hb).1
      exact absurd this (Nat.not_lt.2 hle)
    have hs := slots_next hV hI hcl ho hready hn hS (stepOp_s (s := (S i).s) (bx := (S i).bx) (h := (S i).h) h1) (Rle.refl _) (Ble.refl _) f2
    have hx : Ext0 lo base ρ0 (S 0).h.length w0 ρ' w' := ext0_next hI (Rle.refl _) (fun b e h1 h2 => by rw [h1] at h2; cases h2) (fun r hr _ => hfr r (Nat.lt_of_lt_of_le hr hI.hB)) f5.size f5.os f5.tape f5.output
    have hh1 : (S (i + 1)).h = (S i).h := by rw [hS, putS_h]; exact e2
    obtain ⟨q', hI'⟩ := inv_non hI (i := i) hnb (a' := a.put o.dst c) (w' := w') f3 f4 hs hI.own (Nat.le_trans hI.hB f5.size) (put_size hI).1 (put_size hI).2 hx
      (fun j hj hL b g1 g2 => by
        rcases hL with hL | rfl
        · exact hI.tot j hj hL b g1 g2
        · rw [hh1] at g2; omega)
      (fun b e hb => (hI.ids b e hb).imp id fun ⟨j, h1, h2, h3⟩ => ⟨j, h1, .inl h2, h3⟩)
      (fun t r hb => (hI.bxs t r hb).more)
    exact hK _ _ _ _ _ hI'

include hV hI hcl ho hready hn hX hE hC hK in
/-- it touches the slots alone -/
theorem run_inert (hi : inert o = true) {v : V} {σ1 : St} {lo' : Nat} (h1 : stepOp X lo' o.dst o.type o.op (S i) = some (v, σ1)) (hS : S (i + 1) = putS σ1 o.dst v) : o.wp P a w K Q := by
  obtain ⟨e1, e2, hk⟩ := step_inert hV.nar (s := (S i).s) (bx := (S i).bx) (h := (S i).h) hi h1
  exact run_quiet hV hI hcl ho hready hn hX hE hC hK (inert_write hi) (fun hb => by
    obtain ⟨_, ⟨p, hp, hpi⟩, _⟩ := hb; rw [ho] at hp; injection hp with hp; subst hp; rw [hi] at hpi; cases hpi) h1 e2 (hk _ _ _) hS

include hV in
/-- the operations from one place to another leave what a load reads -/
theorem lp_keep {p p' : Nat} (hpp : p ≤ p') (hp' : p' ≤ all.length) {u : Nat}
    (hno : ∀ k, p ≤ k → k < p' → Bar all cl k → ∀ row, lookB (S k).bx u = some row → lookB (S (k + 1)).bx u = some row) {row : List V} (hr : lookB (S p).bx u = some row) : lookB (S p').bx u = some row := by
  induction p' with
  | zero => rw [show 0 = p by omega]; exact hr
  | succ p' ih =>
    by_cases e : p = p' + 1
    · rw [← e]; exact hr
    · have h0 := ih (by omega) (by omega) fun k h1 h2 => hno k h1 (by omega)
      by_cases hb : Bar all cl p'
      · exact hno p' (by omega) (by omega) hb row h0
      · exact hV.bx_same (Nat.le_succ p') (by omega) (fun k h1 h2 => by rw [show k = p' by omega]; exact hb) h0
include hV in
theorem ld_keep {p p' : Nat} (hpp : p ≤ p') (hp' : p' ≤ all.length) {b i0 j n : Nat} (hbl : b < (S p).h.length)
    (hno : ∀ k, p ≤ k → k < p' → Bar all cl k → ld (S (k + 1)).h b i0 j n = ld (S k).h b i0 j n) : ld (S p').h b i0 j n = ld (S p).h b i0 j n := by
  induction p' with
  | zero => rw [show 0 = p by omega]
  | succ p' ih =>
    by_cases e : p = p' + 1
    · rw [← e]
    · rw [← ih (by omega) (by omega) fun k h1 h2 => hno k h1 (by omega)]
      by_cases hb : Bar all cl p'
      · exact hno p' (by omega) (by omega) hb
      · have hs := hV.same p' (by omega) hb b (Nat.lt_of_lt_of_le hbl (hV.len_le (by omega) (by omega)))
        unfold ld Heap.rows?
        rw [hs]

include hV hI hcl ho hready hn hX hE hC hK in
/-- it reads what nobody else changes meanwhile -/
theorem run_claim (hc : cl i = true) (hbn : boxAt cl i o = none) (hend : ∀ a, loadTmp o = some a → early (aheadL [] all) all cl i a = true ∨ ∃ u j, look (S i).s a = .lp u j) {v : V} {σ1 : St} {lo' : Nat} (h1 : stepOp X lo' o.dst o.type o.op (S i) = some (v, σ1)) (hS : S (i + 1) = putS σ1 o.dst v) : o.wp P a w K Q := by
  have hil : i < all.length := (List.getElem?_eq_some_iff.1 ho).1
  obtain ⟨t, x, hop, hst⟩ := hV.G.stat i o ho hc hbn
  have hnb : ¬ Bar all cl i := fun hb => by rw [hb.2.2] at hc; cases hc
  have h1' := h1
  rw [hop] at h1'
  have e2 : σ1.h = (S i).h := (step_load (s := (S i).s) (bx := (S i).bx) (h := (S i).h) h1').2.2
  have hl : loadTmp o = some x := by unfold loadTmp; rw [hop]
  -- a barrier between: comparable, or it keeps what is read
  have keeps : ∀ k, Bar all cl k → cmpB (aheadL [] all) k i = false → (∀ u j, look (S i).s x = .lp u j → ∀ row, lookB (S k).bx u = some row → lookB (S (k + 1)).bx u = some row) ∧
      (∀ b i0 j, look (S i).s x = .ptr (some (b, i0, j)) → ld (S (k + 1)).h b i0 j (X.ty t).size = ld (S k).h b i0 j (X.ty t).size) := fun k hb hcm => by
    obtain ⟨hf, ⟨p, hp, hpi⟩, hpc⟩ := hb
    have hkl : k < all.length := (List.getElem?_eq_some_iff.1 hp).1
    cases hsk : stays all x k with
    | true =>
      have hlk : look (S k).s x = look (S i).s x := by
        rcases Nat.le_total k i with hki | hik
        · exact (hV.slot_same hki (Nat.le_of_lt hil) fun j g1 g2 ⟨q', hq', hd⟩ => stays_spec hsk g1 hq' hd).symm
        · exact hV.slot_same hik (Nat.le_of_lt hkl) fun j g1 g2 ⟨q', hq', hd⟩ => stays_spec hst.1 g1 hq' hd
      have hk := (hV.keep k hkl (by unfold calmA; rw [hf]; rfl) o (ck_spec hp hpi hpc ho hc hcm hl hsk)).1 t (.tmp x) hop
      exact ⟨fun u j hx row hr => hk.1 u j row (by show look (S k).s x = _; rw [hlk]; exact hx) hr, fun b i0 j hx => hk.2 b i0 j (by show look (S k).s x = _; rw [hlk]; exact hx)⟩
    | false =>
      obtain ⟨u, j, hx⟩ := (hend x hl).resolve_left fun he => by rw [early_spec he hp hpi hpc hcm hf] at hsk; cases hsk
      rw [hx]
      refine ⟨fun u' j' e row hr => ?_, fun b i0 j' e => (by cases e)⟩
      rcases hV.step k p hp with ⟨_, _, v', σ', g1, g2⟩ | ⟨_, _, g2⟩ | ⟨_, _, _, g2⟩
      · rw [g2, putS_bx]
        refine step_box_same (s := (S k).s) (bx := (S k).bx) (h := (S k).h) g1 (fun t' y z he => ?_) hr
        have hso : isStoreOp p = true := by unfold isStoreOp; rw [he]
        rcases hst.2 k p hp hso with g | g
        · rw [hcm] at g; cases g
        · rw [hsk] at g; cases g
      · rw [g2, putS_bx]; exact hr
      · rw [g2, putS_bx]; exact hr
  -- those between 'q' and 'i' are not comparable
  have apart : ∀ k, Bar all cl k → (i ≤ k ∧ k < q) ∨ (q ≤ k ∧ k < i) → cmpB (aheadL [] all) k i = false := fun k hb hk => by
    cases hcm : cmpB (aheadL [] all) k i with
    | false => rfl
    | true =>
      exfalso
      have hb0 := hb
      obtain ⟨hf, ⟨p, hp, hpi⟩, hpc⟩ := hb
      have hkl : k < all.length := (List.getElem?_eq_some_iff.1 hp).1
      have hne : k ≠ i := fun e => hnb (e ▸ hb0)
      have hiff := cmp_listed hV.G hcl ho hp hready hn hne (.inr hcm)
      rcases hk with ⟨g1, g2⟩ | ⟨g1, g2⟩
      · have := hiff.1 (hI.q3 k g2 hb0)
        omega
      · have hLk := hiff.2 g2
        obtain ⟨hbq, hnq⟩ := hI.q2 (by omega)
        by_cases e : k = q
        · exact hnq (e ▸ hLk)
        · have hcm2 := free_spec hbq.1 hp (by omega) hpi hpc
          obtain ⟨_, ⟨pq, hpq, _⟩, _⟩ := hbq
          have hbit : ((aheadL [] all).getD k 0).testBit q = true := by
            unfold cmpB at hcm2
            split at hcm2
            · rename_i h2
              have := bit_lt hV.G q pq k hpq h2
              omega
            · exact hcm2
          exact hnq (ahead_listed hV.G hcl k _ q hp (hcl k _ hp hLk) hbit)
  have sv := reads_rel hV hI hcl ho hready hn (t := x) (by
    unfold touchesT readsT; rw [hop]; simp [Op.operands, opTmps])
  have fin : ∀ {v' : V}, v' = v → stepOp X (S q).h.length o.dst o.type (.load t (.tmp x)) ⟨(S i).s, (S q).bx, (S q).h⟩ = some (v', ⟨(S i).s, (S q).bx, (S q).h⟩) → o.wp P a w K Q := fun {v'} e hk2 => by
    subst e
    rw [← hop] at hk2
    exact run_quiet hV hI hcl ho hready hn hX hE hC hK (by unfold isWrite; rw [hop]) hnb h1 e2 hk2 hS
  rcases load_addr (s := (S i).s) (bx := (S i).bx) (h := (S i).h) h1' with ⟨u, j, hx⟩ | ⟨b, i0, j, hx⟩
  · obtain ⟨row, hrow, hk⟩ := step_lp (s := (S i).s) (bx := (S i).bx) (h := (S i).h) hx h1'
    have hxl : look (S i).s x = .lp u j := hx
    rw [hxl] at sv
    obtain ⟨r, hr, _⟩ := sv
    obtain ⟨row', _, _, hrow', _⟩ := hI.f.has u r hr
    have hq : lookB (S q).bx u = some row := by
      rcases Nat.le_total i q with hiq | hqi
      · exact lp_keep hV hiq hI.q1 (fun k g1 g2 hb => (keeps k hb (apart k hb (.inl ⟨g1, g2⟩))).1 u j hxl) hrow
      · have := lp_keep hV hqi (Nat.le_of_lt hil) (fun k g1 g2 hb => (keeps k hb (apart k hb (.inr ⟨g1, g2⟩))).1 u j hxl) hrow'
        rw [hrow] at this; injection this with this; subst this; exact hrow'
    exact fin rfl (hk (S q).h.length (S q).bx (S q).h hq)
  · obtain ⟨cs, hcs, hk⟩ := step_ptr (s := (S i).s) (bx := (S i).bx) (h := (S i).h) hx h1'
    have hxl : look (S i).s x = .ptr (some (b, i0, j)) := hx
    rw [hxl] at sv
    have hρ : ∃ e, ρ b = some e := by
      have sv : VR ρ (.ptr (some (b, i0, j))) (a.tmps.getD x undef) := sv
      simp only [VR] at sv
      obtain ⟨e, he, _⟩ := sv
      exact ⟨e, he⟩
    obtain ⟨e, he⟩ := hρ
    have hq : ld (S q).h b i0 j (X.ty t).size = some cs := by
      rcases Nat.le_total i q with hiq | hqi
      · have hbl : b < (S i).h.length := by
          obtain ⟨R, el, ro, rs, row, g1, _⟩ := ld_some hcs
          exact (List.getElem?_eq_some_iff.1 g1).1
        rw [ld_keep hV hiq hI.q1 hbl (fun k g1 g2 hb => (keeps k hb (apart k hb (.inl ⟨g1, g2⟩))).2 b i0 j hxl)]
        exact hcs
      · have hbl : b < (S q).h.length := (hI.h.dom b e he).1
        rw [← ld_keep hV hqi (Nat.le_of_lt hil) hbl (fun k g1 g2 hb => (keeps k hb (apart k hb (.inr ⟨g1, g2⟩))).2 b i0 j hxl)]
        exact hcs
    exact fin rfl (hk (S q).h.length (S q).bx (S q).h hq)

include hV hI hcl ho hready hn hX hE hC hK in
/-- it makes a variable of the frame that stands ready -/
theorem run_box {tb eb : Nat} (hbx : boxAt cl i o = some (tb, eb)) (hS : S (i + 1) = putS (S i) o.dst (.lp tb 0)) : o.wp P a w K Q := by
  have hil : i < all.length := (List.getElem?_eq_some_iff.1 ho).1
  obtain ⟨hc, hop, hdst, hm⟩ := boxAt_spec hbx
  obtain ⟨k1, k2, k3, k4⟩ := hV.box i o ho tb eb hbx
  have hnb : ¬ Bar all cl i := fun hb => by rw [hb.2.2] at hc; cases hc
  have hM := (hV.G.box i o tb eb ho hbx).1
  have row : ∀ p, p ≤ q → lookB (S p).bx tb = some (X.ty eb).zero := by
    intro p
    induction p with
    | zero => intro _; exact k4
    | succ p ih =>
      intro hp
      have hpl : p < all.length := by have := hI.q1; omega
      refine box_step hV.G hV.step (fun j o' hj => hV.keep j (List.getElem?_eq_some_iff.1 hj).1) ho hbx hpl (fun hb => ?_) (ih (by omega))
      have hLp := hI.q3 p (by omega) hb
      cases hcm : cmpB (aheadL [] all) p i with
      | false => rfl
      | true =>
        exfalso
        have hg : all[p]? = some all[p] := List.getElem?_eq_getElem hpl
        have hne : p ≠ i := fun e => hn (e ▸ hLp)
        have h1 := (cmp_listed hV.G hcl ho hg hready hn hne (.inr hcm)).1 hLp
        rw [box_ahead hV.G ho hbx hg (by omega)] at hcm; cases hcm
  have hβ : β tb = none := by
    cases hb : β tb with
    | none => rfl
    | some r =>
      exfalso
      rcases hI.bxs tb r hb with ⟨r0, g⟩ | ⟨j, g1, g2, g3, _⟩ | ⟨j, o', e', g1, g2, g3⟩
      · rw [k3] at g; cases g
      · have := hV.bx_some (Nat.zero_le j) (Nat.le_of_lt g1) (t := tb) (by rw [k4]; rfl)
        rw [g3] at this; cases this
      · have hne : j ≠ i := fun e => hn (e ▸ g1)
        have d1 := (boxAt_spec g3).2.2.1
        rcases Nat.lt_or_ge j i with h | h
        · rcases hV.G.pair j i o' o g2 ho h with g4 | ⟨g4, _⟩
          · rw [box_ahead hV.G ho hbx g2 (Nat.le_of_lt h)] at g4; cases g4
          · exact disj_not (t := tb) g4 (by rw [d1]; simp) (by unfold touchesT; rw [hdst]; simp)
        · rcases hV.G.pair i j o o' ho g2 (by omega) with g4 | ⟨g4, _⟩
          · rw [box_ahead hV.G g2 g3 ho h] at g4; cases g4
          · exact disj_not (t := tb) g4 (by rw [hdst]; simp) (by unfold touchesT; rw [d1]; simp)
  have h1 := step_alloc (lo' := (S q).h.length) (s := rd o (S i).s) (h := (S q).h) (bx := dropB tb (S q).bx) hop hdst k1 k2 (by rw [lookB_drop, if_pos rfl])
  unfold stepOp at h1
  have hf0 : FRel ρ β (dropB tb (S q).bx) w := hI.f.sub fun t r hr => by rw [lookB_drop, if_neg (fun e => by rw [e, hβ] at hr; cases hr)]
  refine op_sound (lo := (S q).h.length) (base := w.heap.size) (σ := ⟨rd o (S i).s, dropB tb (S q).bx, (S q).h⟩) (K := fun v σ => some (v, σ)) (r := (.lp tb 0, _)) hX hE hC h1 (rd_rel hV hI hcl ho hready hn fun t c h => h) hI.h hf0 (Nat.le_refl _) (Nat.le_refl _)
    (fun hw => by unfold isWrite at hw; rw [hop] at hw; cases hw) ?_
  intro v' σ' c w' hk' hf
  injection hk' with hk'; injection hk' with z1 z2; subst z1; subst z2
  obtain ⟨ρ', β', f1, f2, f3, f4, f5, f6, f7, f8⟩ := hf
  have hρ : ρ' = ρ := by
    funext b
    cases hb : ρ b with
    | some e => exact f5.rle b e hb
    | none =>
      cases hb' : ρ' b with
      | none => rfl
      | some e =>
        have g1 := (f5.new b e hb hb').1
        have g2 := (f3.dom b e hb').1
        exact absurd g2 (Nat.not_lt.2 g1)
  subst hρ
  have hfr : ∀ r, r < w.heap.size → w'.heap[r]? = w.heap[r]? := fun r hr => f5.frame r hr fun b e hb hle => by
    have := (hI.h.dom b e hb).1
    exact absurd this (Nat.not_lt.2 hle)
  have hF : FRel ρ' β' (S q).bx w' := f4.sub fun t r hr => by
    show lookB (S q).bx t = lookB ((tb, (X.ty eb).zero) :: dropB tb (S q).bx) t
    rw [lookB_cons, lookB_drop]
    by_cases e : tb = t
    · rw [if_pos e, ← e]; exact row q (Nat.le_refl _)
    · rw [if_neg e, if_neg (fun e' => e e'.symm)]
  have hs := slots_next hV hI hcl ho hready hn hS rfl (Rle.refl _) f6 f2
  have hx : Ext0 lo base ρ0 (S 0).h.length w0 ρ' w' := ext0_next hI (Rle.refl _) (fun b e h1 h2 => by rw [h1] at h2; cases h2) (fun r hr _ => hfr r (Nat.lt_of_lt_of_le hr hI.hB)) f5.size f5.os f5.tape f5.output
  have hh1 : (S (i + 1)).h = (S i).h := by rw [hS, putS_h]
  obtain ⟨q', hI'⟩ := inv_non hI (i := i) hnb (ρ2 := ρ') (β2 := β') (a' := a.put o.dst c) (w' := w') f3 hF hs (fun t r hr => by
      cases hb : β t with
      | some r0 =>
        have := f6 t r0 hb
        rw [hr] at this; injection this with this; subst this
        exact hI.own t _ hb
      | none => exact Nat.le_trans hI.hB (f7 t r hb hr).1) (Nat.le_trans hI.hB f5.size) (put_size hI).1 (put_size hI).2 hx
    (fun j hj hL b g1 g2 => by
      rcases hL with hL | rfl
      · exact hI.tot j hj hL b g1 g2
      · rw [hh1] at g2; omega)
    (fun b e hb => (hI.ids b e hb).imp id fun ⟨j, h1, h2, h3⟩ => ⟨j, h1, .inl h2, h3⟩)
    (fun t r hr => by
      cases hb : β t with
      | some r0 => exact (hI.bxs t r0 hb).more
      | none =>
        have h7 : lookB (dropB tb (S q).bx) t = none := (f7 t r hb hr).2
        obtain ⟨row', _, _, g2, _⟩ := f4.has t r hr
        have g2 : lookB ((tb, (X.ty eb).zero) :: dropB tb (S q).bx) t = some row' := g2
        rw [lookB_cons, h7] at g2
        by_cases e : tb = t
        · exact .inr (.inr ⟨i, o, eb, .inr rfl, ho, by rw [← e]; exact hbx⟩)
        · rw [if_neg e] at g2; cases g2)
  exact hK _ _ _ _ _ hI'

include hV hI hcl ho hready hn hX hE hC hK in
/-- it stands between all others -/
theorem run_bar (hb : Bar all cl i) {v : V} {σ1 : St} (h1 : stepOp X lo o.dst o.type o.op (S i) = some (v, σ1)) (hS : S (i + 1) = putS σ1 o.dst v) : o.wp P a w K Q := by
  have hq := bar_now hV hI hcl ho hready hn hb
  have hil : i < all.length := (List.getElem?_eq_some_iff.1 ho).1
  have hsl := stepOp_slots (s := (S i).s) (bx := (S i).bx) (h := (S i).h) (s' := rd o (S i).s) (fun x hx => ev_keepS x hx) h1
  obtain ⟨ρt, βt, at', wt, hot, hmt⟩ := hV.ok i (Nat.le_of_lt hil)
  have hh0 : HRel ρ (S i).h w := by rw [hq]; exact hI.h
  have hf0 : FRel ρ β (S i).bx w := by rw [hq]; exact hI.f
  unfold stepOp at hsl
  refine op_sound (lo := lo) (base := base) (σ := ⟨rd o (S i).s, (S i).bx, (S i).h⟩) (K := fun v σ => some (v, σ)) (r := (v, ⟨rd o (S i).s, σ1.bx, σ1.h⟩)) hX hE hC hsl (rd_rel hV hI hcl ho hready hn fun t c h => h) hh0 hf0 hI.hB hot.hlo (fun _ => hI.own) ?_
  intro v' σ' c w' hk' hf
  injection hk' with hk'; injection hk' with z1 z2; subst z1; subst z2
  obtain ⟨ρ', β', f1, f2, f3, f4, f5, f6, f7, f8⟩ := hf
  have hs := slots_next hV hI hcl ho hready hn hS (stepOp_s (s := (S i).s) (bx := (S i).bx) (h := (S i).h) h1) f5.rle f6 f2
  have e1 : (S (i + 1)).h = σ1.h := by rw [hS, putS_h]
  have e2 : (S (i + 1)).bx = σ1.bx := by rw [hS, putS_bx]
  have hx : Ext0 lo base ρ0 (S 0).h.length w0 ρ' w' := ext0_next hI f5.rle (fun b e h1 h2 => by
      obtain ⟨g1, g2⟩ := f5.new b e h1 h2
      exact ⟨Nat.le_trans (hV.len_le (Nat.zero_le i) (Nat.le_of_lt hil)) g1, g2⟩) f5.frame f5.size f5.os f5.tape f5.output
  obtain ⟨q', hI'⟩ := inv_bar hV hI hcl ho hready hn hb (ρ2 := ρ') (β2 := β') (a' := a.put o.dst c) (w' := w') (by rw [e1]; exact f3) (by rw [e2]; exact f4) hs (fun t r hr => by
      cases hb : β t with
      | some r0 =>
        have := f6 t r0 hb
        rw [hr] at this; injection this with this; subst this
        exact hI.own t _ hb
      | none => exact Nat.le_trans hI.hB (f7 t r hb hr).1) (Nat.le_trans hI.hB f5.size) (put_size hI).1 (put_size hI).2 hx
    (fun j hj hL b g1 g2 => by
      rcases hL with hL | rfl
      · obtain ⟨e, he⟩ := hI.tot j hj hL b g1 g2
        exact ⟨e, f5.rle b e he⟩
      · rw [e1] at g2; exact f5.tot b g1 g2)
    (fun b e hb => by
      cases hρ : ρ b with
      | some e0 => exact (hI.ids b e0 hρ).imp id fun ⟨j, h1, h2, h3⟩ => ⟨j, h1, .inl h2, h3⟩
      | none =>
        exact .inr ⟨i, hil, .inr rfl, (f5.new b e hρ hb).1, by rw [e1]; exact (f3.dom b e hb).1⟩)
    (fun t r hr => by
      cases hb : β t with
      | some r0 => exact (hI.bxs t r0 hb).more
      | none =>
        obtain ⟨row, _, _, g2, _⟩ := f4.has t r hr
        exact .inr (.inl ⟨i, hil, .inr rfl, (f7 t r hb hr).2, by rw [e2]; rw [g2]; rfl⟩))
  exact hK _ _ _ _ _ hI'
end
end Go.Proofs.YtfbhdjkeofleiaaDoor.T
