/- Regions whose order the model draws: an operation that runs. -/
import Derived.Test.YtfknhpajlfiliaaTeeU
namespace Go.Proofs.Ytfknhpajlfiliaa.T
open Go
set_option linter.unusedVariables false
set_option linter.unusedSimpArgs false
set_option linter.unnecessarySimpa false

theorem inert_write {o : Oper} (h : inert o = true) : isWrite o = false := by
  obtain ⟨dst, op, ty, pos, after, guard⟩ := o
  cases op <;> simp only [inert] at h <;> (try cases h) <;> simp only [isWrite]
  rename_i c
  obtain ⟨callee, as, ts⟩ := c
  cases callee <;> simp only at h ⊢
  rename_i b
  cases b <;> simp_all

section
variable {P : Program} {X : Ctx} {lo base nt : Nat} {ρ0 : Rho} {β0 : Bet} {w0 : World} {all : List Oper} {S : Nat → St} (hV : Env P X lo base nt ρ0 β0 w0 all S)
variable {L : Nat → Prop} {q : Nat} {ρ : Rho} {β : Bet} {a : Act} {w : World} (hI : Inv lo base nt ρ0 β0 w0 all S L q ρ β a w)
variable (hcl : ∀ (i : Nat) (o : Oper), all[i]? = some o → L i → ∀ e ∈ o.after.toList, bindsE e = true → L e.on)
variable {i : Nat} {o : Oper} (ho : all[i]? = some o) (hready : ∀ e ∈ o.after.toList, bindsE e = true → L e.on) (hn : ¬ L i)
variable (hX : X.ty = tyOf P) (hE : ∀ t, X.cmp t = true → EqOk P t) (hC : SC P X.call)
variable {K : Act → World → Prop} {Q : Exit → Act → World → Prop}
  (hK : ∀ q' ρ' β' a' w', Inv lo base nt ρ0 β0 w0 all S (fun j => L j ∨ j = i) q' ρ' β' a' w' → K a' w')

/-- the slots that an operation reads -/
def rd (o : Oper) (s : List (Nat × V)) : List (Nat × V) := keepS (opTmps o.op.operands.toList) s

include hV hI hcl ho hready hn in
theorem rd_rel {ρ' : Rho} {β' : Bet} (h : ∀ t c, SV ρ β (look (S i).s t) c → SV ρ' β' (look (S i).s t) c) : SRel ρ' β' (rd o (S i).s) a := by
  intro t
  unfold rd
  rw [look_keepS']
  split
  · rename_i ht
    exact h t _ (reads_rel hV hI hcl ho hready hn (by unfold touchesT readsT; simp [ht]))
  · exact SV.of (VR.any _)

include hI in
/-- what memory has become, where the operation writes what was there -/
theorem ext0_next {ρ2 : Rho} {w' : World} (h : Rle ρ ρ2) (hnew : ∀ b e, ρ b = none → ρ2 b = some e → (S 0).h.length ≤ b ∧ (base ≤ e.r ∨ ∃ b0 e0, ρ b0 = some e0 ∧ lo ≤ b0 ∧ e0.r = e.r))
    (hfr : ∀ r, r < base → (∀ b e, ρ b = some e → lo ≤ b → e.r ≠ r) → w'.heap[r]? = w.heap[r]?) (hs : w.heap.size ≤ w'.heap.size) (h1 : w'.os = w.os) (h2 : w'.tape = w.tape) (h3 : w'.output = w.output) : Ext0 lo base ρ0 (S 0).h.length w0 ρ2 w' where
  rle := hI.x.rle.trans h
  new := fun b e hb he => by
    cases hρ : ρ b with
    | some e1 =>
      have := h b e1 hρ
      rw [he] at this; injection this with this; subst this
      exact hI.x.new b _ hb hρ
    | none =>
      obtain ⟨g1, g2⟩ := hnew b e hρ he
      refine ⟨g1, ?_⟩
      rcases g2 with g2 | ⟨b0, e0, g3, g4, g5⟩
      · exact .inl g2
      · cases h0 : ρ0 b0 with
        | some e1 =>
          have := hI.x.rle b0 e1 h0
          rw [g3] at this; injection this with this; subst this
          exact .inr ⟨b0, _, h0, g4, g5⟩
        | none =>
          rcases (hI.x.new b0 e0 h0 g3).2 with g6 | ⟨b1, e1, g6, g7, g8⟩
          · exact .inl (by omega)
          · exact .inr ⟨b1, e1, g6, g7, g8.trans g5⟩
  frame := fun r hr hf => by
    refine (hfr r hr fun b e hb hlo he => ?_).trans (hI.x.frame r hr hf)
    cases h0 : ρ0 b with
    | some e1 =>
      have := hI.x.rle b e1 h0
      rw [hb] at this; injection this with this; subst this
      exact hf b _ h0 hlo he
    | none =>
      rcases (hI.x.new b e h0 hb).2 with g6 | ⟨b1, e1, g6, g7, g8⟩
      · omega
      · exact hf b1 e1 g6 g7 (g8.trans he)
  size := Nat.le_trans hI.x.size hs
  os := h1.trans hI.x.os
  tape := h2.trans hI.x.tape
  output := h3.trans hI.x.output

include hV hI hcl ho hready hn hX hE hC hK in
/-- it touches the slots alone -/
theorem run_inert (hi : inert o = true) {v : V} {σ1 : St} {lo' : Nat} (h1 : stepOp X lo' o.dst o.type o.op (S i) = some (v, σ1)) (hS : S (i + 1) = putS σ1 o.dst v) : o.wp P a w K Q := by
  obtain ⟨e1, e2, hk⟩ := step_inert (s := (S i).s) (bx := (S i).bx) (h := (S i).h) hi h1
  have hsl := stepOp_slots (s' := rd o (S i).s) (fun x hx => ev_keepS x hx) (hk (S q).h.length (S q).bx (S q).h)
  unfold stepOp at hsl
  refine op_sound (lo := (S q).h.length) (base := w.heap.size) (σ := ⟨rd o (S i).s, (S q).bx, (S q).h⟩) (K := fun v σ => some (v, σ)) (r := (v, ⟨rd o (S i).s, (S q).bx, (S q).h⟩)) hX hE hC hsl (rd_rel hV hI hcl ho hready hn fun t c h => h) hI.h hI.f (Nat.le_refl _) (Nat.le_refl _)
    (fun hw => ?_) ?_
  · rw [inert_write hi] at hw; cases hw
  · intro v' σ' c w' hk' hf
    injection hk' with hk'; injection hk' with z1 z2; subst z1; subst z2
    obtain ⟨ρ', β', f1, f2, f3, f4, f5, f6, f7, f8⟩ := hf
    have hρ : ρ' = ρ := by
      funext b
      cases hb : ρ b with
      | some e => exact f5.rle b e hb
      | none =>
        cases hb' : ρ' b with
        | none => rfl
        | some e =>
          have g1 := (f5.new b e hb hb').1
          have g2 := (f3.dom b e hb').1
          exact absurd g2 (Nat.not_lt.2 g1)
    have hβ : β' = β := by
      funext t
      cases hb : β t with
      | some r => exact f6 t r hb
      | none =>
        cases hb' : β' t with
        | none => rfl
        | some r =>
          have g1 := (f7 t r hb hb').2
          obtain ⟨row, _, _, g2, _⟩ := f4.has t r hb'
          have g1 : lookB (S q).bx t = none := g1
          have g2 : lookB (S q).bx t = some row := g2
          rw [g1] at g2; cases g2
    subst hρ; subst hβ
    have hfr : ∀ r, r < w.heap.size → w'.heap[r]? = w.heap[r]? := fun r hr => f5.frame r hr fun b e hb hle => by
      have := (hI.h.dom b e hb).1
      exact absurd this (Nat.not_lt.2 hle)
    have hs := slots_next hV hI hcl ho hready hn hS (stepOp_s (s := (S i).s) (bx := (S i).bx) (h := (S i).h) h1) (Rle.refl _) (Ble.refl _) f2
    have hx : Ext0 lo base ρ0 (S 0).h.length w0 ρ' w' := ext0_next hI (Rle.refl _) (fun b e h1 h2 => by rw [h1] at h2; cases h2) (fun r hr _ => hfr r (Nat.lt_of_lt_of_le hr hI.hB)) f5.size f5.os f5.tape f5.output
    have hh1 : (S (i + 1)).h = (S i).h := by rw [hS, putS_h]; exact e2
    obtain ⟨q', hI'⟩ := inv_non hI (i := i) (fun hb => by
        obtain ⟨_, p, hp, hpi⟩ := hb; rw [ho] at hp; injection hp with hp; subst hp; rw [hi] at hpi; cases hpi) (a' := a.put o.dst c) (w' := w') f3 f4 hs hI.own (Nat.le_trans hI.hB f5.size) (put_size hI).1 (put_size hI).2 hx
      (fun j hj hL b g1 g2 => by
        rcases hL with hL | rfl
        · exact hI.tot j hj hL b g1 g2
        · rw [hh1] at g2; omega)
      (fun b e hb => (hI.ids b e hb).imp id fun ⟨j, h1, h2, h3⟩ => ⟨j, h1, .inl h2, h3⟩)
      (fun t r hb => (hI.bxs t r hb).imp id fun ⟨j, h1, h2, h3⟩ => ⟨j, h1, .inl h2, h3⟩)
    exact hK _ _ _ _ _ hI'

include hV hI hcl ho hready hn hX hE hC hK in
/-- it stands between all others -/
theorem run_bar (hb : Bar all i) {v : V} {σ1 : St} (h1 : stepOp X lo o.dst o.type o.op (S i) = some (v, σ1)) (hS : S (i + 1) = putS σ1 o.dst v) : o.wp P a w K Q := by
  have hq := bar_now hV hI hcl ho hready hn hb
  have hil : i < all.length := (List.getElem?_eq_some_iff.1 ho).1
  have hsl := stepOp_slots (s := (S i).s) (bx := (S i).bx) (h := (S i).h) (s' := rd o (S i).s) (fun x hx => ev_keepS x hx) h1
  obtain ⟨ρt, βt, at', wt, hot, hmt⟩ := hV.ok i (Nat.le_of_lt hil)
  have hh0 : HRel ρ (S i).h w := by rw [hq]; exact hI.h
  have hf0 : FRel ρ β (S i).bx w := by rw [hq]; exact hI.f
  unfold stepOp at hsl
  refine op_sound (lo := lo) (base := base) (σ := ⟨rd o (S i).s, (S i).bx, (S i).h⟩) (K := fun v σ => some (v, σ)) (r := (v, ⟨rd o (S i).s, σ1.bx, σ1.h⟩)) hX hE hC hsl (rd_rel hV hI hcl ho hready hn fun t c h => h) hh0 hf0 hI.hB hot.hlo (fun _ => hI.own) ?_
  intro v' σ' c w' hk' hf
  injection hk' with hk'; injection hk' with z1 z2; subst z1; subst z2
  obtain ⟨ρ', β', f1, f2, f3, f4, f5, f6, f7, f8⟩ := hf
  have hs := slots_next hV hI hcl ho hready hn hS (stepOp_s (s := (S i).s) (bx := (S i).bx) (h := (S i).h) h1) f5.rle f6 f2
  have e1 : (S (i + 1)).h = σ1.h := by rw [hS, putS_h]
  have e2 : (S (i + 1)).bx = σ1.bx := by rw [hS, putS_bx]
  have hx : Ext0 lo base ρ0 (S 0).h.length w0 ρ' w' := ext0_next hI f5.rle (fun b e h1 h2 => by
      obtain ⟨g1, g2⟩ := f5.new b e h1 h2
      exact ⟨Nat.le_trans (hV.len_le (Nat.zero_le i) (Nat.le_of_lt hil)) g1, g2⟩) f5.frame f5.size f5.os f5.tape f5.output
  obtain ⟨q', hI'⟩ := inv_bar hV hI hcl ho hready hn hb (ρ2 := ρ') (β2 := β') (a' := a.put o.dst c) (w' := w') (by rw [e1]; exact f3) (by rw [e2]; exact f4) hs (fun t r hr => by
      cases hb : β t with
      | some r0 =>
        have := f6 t r0 hb
        rw [hr] at this; injection this with this; subst this
        exact hI.own t _ hb
      | none => exact Nat.le_trans hI.hB (f7 t r hb hr).1) (Nat.le_trans hI.hB f5.size) (put_size hI).1 (put_size hI).2 hx
    (fun j hj hL b g1 g2 => by
      rcases hL with hL | rfl
      · obtain ⟨e, he⟩ := hI.tot j hj hL b g1 g2
        exact ⟨e, f5.rle b e he⟩
      · rw [e1] at g2; exact f5.tot b g1 g2)
    (fun b e hb => by
      cases hρ : ρ b with
      | some e0 => exact (hI.ids b e0 hρ).imp id fun ⟨j, h1, h2, h3⟩ => ⟨j, h1, .inl h2, h3⟩
      | none =>
        exact .inr ⟨i, hil, .inr rfl, (f5.new b e hρ hb).1, by rw [e1]; exact (f3.dom b e hb).1⟩)
    (fun t r hr => by
      cases hb : β t with
      | some r0 => exact (hI.bxs t r0 hb).imp id fun ⟨j, h1, h2, h3⟩ => ⟨j, h1, .inl h2, h3⟩
      | none =>
        obtain ⟨row, _, _, g2, _⟩ := f4.has t r hr
        exact .inr ⟨i, hil, .inr rfl, (f7 t r hb hr).2, by rw [e2]; rw [g2]; rfl⟩)
  exact hK _ _ _ _ _ hI'
end
end Go.Proofs.Ytfknhpajlfiliaa.T
