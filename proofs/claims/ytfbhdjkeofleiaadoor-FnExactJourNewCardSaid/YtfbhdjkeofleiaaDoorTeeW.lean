/- Regions whose order the model draws: an operation that writes nothing that was there. -/
import Derived.Test.YtfbhdjkeofleiaaDoorTeeV
namespace Go.Proofs.YtfbhdjkeofleiaaDoor.T
open Go
set_option linter.unusedVariables false
set_option linter.unusedSimpArgs false
set_option linter.unnecessarySimpa false

section
variable {P : Program} {X : Ctx} {lo base nt : Nat} {ρ0 : Rho} {β0 : Bet} {w0 : World} {all : List Oper} {cl : Nat → Bool} {S : Nat → St} (hV : Env P X lo base nt ρ0 β0 w0 all cl S)
variable {L : Nat → Prop} {q : Nat} {ρ : Rho} {β : Bet} {a : Act} {w : World} (hI : Inv lo base nt ρ0 β0 w0 all cl S L q ρ β a w)
variable (hcl : ∀ (i : Nat) (o : Oper), all[i]? = some o → L i → ∀ e ∈ o.after.toList, bindsE e = true → L e.on)
variable {i : Nat} {o : Oper} (ho : all[i]? = some o) (hready : ∀ e ∈ o.after.toList, bindsE e = true → L e.on) (hn : ¬ L i)
variable (hX : X.ty = tyOf P) (hE : ∀ t, X.cmp t = true → EqOk P t) (hC : SC P X.call)
variable {K : Act → World → Prop} {Q : Exit → Act → World → Prop}
  (hK : ∀ q' ρ' β' a' w', Inv lo base nt ρ0 β0 w0 all cl S (fun j => L j ∨ j = i) q' ρ' β' a' w' → K a' w')

/-- the blocks known by now, and those of the new operation -/
def Rho.mix (n : Nat) (ρ ρ' : Rho) : Rho := fun b => if b < n then ρ b else match ρ b with | some e => some e | none => ρ' b
def Bet.mix (β β' : Bet) : Bet := fun t => match β t with | some r => some r | none => β' t

include hV hI hcl ho hready hn hX hE hC hK in
theorem run_calm (hb : ¬ Bar all cl i) (hi : inert o = false) (hci : cl i = false) {v : V} {σ1 : St} (h1 : stepOp X (S i).h.length o.dst o.type o.op (S i) = some (v, σ1)) (hS : S (i + 1) = putS σ1 o.dst v) : o.wp P a w K Q := by
  obtain ⟨hiq, hnb⟩ := calm_now hV hI hcl ho hready hn hb hi hci
  have hil : i < all.length := (List.getElem?_eq_some_iff.1 ho).1
  have hsl := stepOp_slots (s := (S i).s) (bx := (S i).bx) (h := (S i).h) (s' := rd o (S i).s) (fun x hx => ev_keepS x hx) h1
  obtain ⟨βt, hβt, hh0, hf0, hs0⟩ := low_rel hV hI (Nat.le_of_lt hiq) hnb
  unfold stepOp at hsl
  refine op_sound (lo := (S i).h.length) (base := w.heap.size) (σ := ⟨rd o (S i).s, (S i).bx, (S i).h⟩) (K := fun v σ => some (v, σ)) (r := (v, ⟨rd o (S i).s, σ1.bx, σ1.h⟩)) hX hE hC hsl (rd_rel hV hI hcl ho hready hn hs0) hh0 hf0 (Nat.le_refl _) (Nat.le_refl _) (fun hw => ?_) ?_
  · exact absurd ⟨hV.G.wr i o ho hw, ⟨o, ho, hi⟩, hci⟩ hb
  intro v' σ' c w' hk' hf
  injection hk' with hk'; injection hk' with z1 z2; subst z1; subst z2
  obtain ⟨ρ', β', f1, f2, f3, f4, f5, f6, f7, f8⟩ := hf
  have e1 : (S (i + 1)).h = σ1.h := by rw [hS, putS_h]
  have e2 : (S (i + 1)).bx = σ1.bx := by rw [hS, putS_bx]
  have hfr : ∀ r, r < w.heap.size → w'.heap[r]? = w.heap[r]? := fun r hr => f5.frame r hr fun b e hb hle => by
    have := (Rho.low_some hb).1
    exact absurd this (Nat.not_lt.2 hle)
  have hq := hI.q1
  have hnb' : ∀ k, i + 1 ≤ k → k < q → ¬ Bar all cl k := fun k h1 h2 => hnb k (by omega) h2
  have hlen1 : σ1.h.length ≤ (S q).h.length := by rw [← e1]; exact hV.len_le hiq hq
  have hsame1 : ∀ b, b < σ1.h.length → (S q).h[b]? = σ1.h[b]? := fun b hb => by
    rw [← e1] at hb ⊢; exact hV.same_le hiq hq hnb' hb
  -- blocks of the new operation are not known yet
  have hfresh : ∀ b, (S i).h.length ≤ b → b < σ1.h.length → ρ b = none := fun b g1 g2 => by
    cases hρ : ρ b with
    | none => rfl
    | some e =>
      rcases hI.ids b e hρ with g | ⟨j, g3, g4, g5, g6⟩
      · have := hV.len_le (Nat.zero_le i) (Nat.le_of_lt hil); omega
      · have hne : j ≠ i := fun e => hn (e ▸ g4)
        rcases Nat.lt_or_ge j i with h | h
        · have := hV.len_le (show j + 1 ≤ i by omega) (Nat.le_of_lt hil); omega
        · have := hV.len_le (show i + 1 ≤ j by omega) (Nat.le_of_lt g3); rw [e1] at this; omega
  have hnew : ∀ b e, ρ b = none → ρ' b = some e → (S i).h.length ≤ b ∧ b < σ1.h.length ∧ w.heap.size ≤ e.r := fun b e g1 g2 => by
    have hl : ρ.low (S i).h.length b = none := by unfold Rho.low; split <;> first | exact g1 | rfl
    obtain ⟨g3, g4⟩ := f5.new b e hl g2
    refine ⟨g3, (f3.dom b e g2).1, g4.resolve_right ?_⟩
    rintro ⟨b0, e0, g5, g6, _⟩
    have := (Rho.low_some g5).1
    exact absurd this (Nat.not_lt.2 g6)
  have hmix : ∀ b e, Rho.mix (S i).h.length ρ ρ' b = some e → ρ b = some e ∨ (ρ b = none ∧ ρ' b = some e) := fun b e g => by
    unfold Rho.mix at g
    split at g
    · exact .inl g
    · split at g
      · rename_i e' h'; exact .inl (by rw [h', g])
      · rename_i h'; exact .inr ⟨h', g⟩
  have hle : Rle ρ (Rho.mix (S i).h.length ρ ρ') := fun b e g => by
    unfold Rho.mix
    split
    · exact g
    · rw [g]
  have hle' : Rle ρ' (Rho.mix (S i).h.length ρ ρ') := fun b e g => by
    have hd := (f3.dom b e g).1
    unfold Rho.mix
    split
    · rename_i hlt
      cases hl : ρ.low (S i).h.length b with
      | some e' =>
        have := f5.rle b e' hl
        rw [g] at this; injection this with this; subst this
        exact (Rho.low_some hl).2
      | none => have := (f5.new b e hl g).1; exact absurd hlt (Nat.not_lt.2 this)
    · rename_i hge
      rw [hfresh b (Nat.not_lt.1 hge) hd]; exact g
  have hble : Ble β (Bet.mix β β') := fun t r g => by unfold Bet.mix; rw [g]
  have hnewB : ∀ t r, β t = none → β' t = some r → w.heap.size ≤ r ∧ lookB (S i).bx t = none := fun t r g1 g2 => by
    have hl : Bet.low βt β t = none := by unfold Bet.low; split <;> first | exact g1 | rfl
    exact f7 t r hl g2
  have hble' : Ble β' (Bet.mix β β') := fun t r g => by
    unfold Bet.mix
    cases hb : β t with
    | none => exact g
    | some r0 =>
      show some r0 = some r
      by_cases hlk : (βt t).isSome = true
      · have := f6 t r0 (Bet.low_of hlk hb)
        rw [g] at this; exact this.symm
      · have hl : Bet.low βt β t = none := by unfold Bet.low; rw [if_neg hlk]
        have hnone := (f7 t r hl g).2
        obtain ⟨row, _, _, g2, _⟩ := f4.has t r g
        have hsome1 : (lookB (S (i + 1)).bx t).isSome = true := by rw [e2]; show (lookB σ1.bx t).isSome = true; rw [g2]; rfl
        exfalso
        have hnone : lookB (S i).bx t = none := hnone
        rcases hI.bxs t r0 hb with ⟨r1, g3⟩ | ⟨j, g3, g4, g5, g6⟩ | ⟨j, o', e', g3, g4, g5⟩
        · exact hlk (by rw [hβt t r1 g3]; rfl)
        · have hne : j ≠ i := fun e => hn (e ▸ g4)
          rcases Nat.lt_or_ge j i with h | h
          · have := hV.bx_some (show j + 1 ≤ i by omega) (Nat.le_of_lt hil) g6
            rw [hnone] at this; cases this
          · have := hV.bx_some (show i + 1 ≤ j by omega) (Nat.le_of_lt g3) hsome1
            rw [g5] at this; cases this
        · have := hV.bx_some (Nat.zero_le i) (Nat.le_of_lt hil) (t := t) (by rw [(hV.box j o' g4 t e' g5).2.2.2]; rfl)
          rw [hnone] at this; cases this
  have hmixB : ∀ t r, Bet.mix β β' t = some r → β t = some r ∨ (β t = none ∧ β' t = some r) := fun t r g => by
    unfold Bet.mix at g
    split at g
    · rename_i r' h'; exact .inl (by rw [h', g])
    · rename_i h'; exact .inr ⟨h', g⟩
  have hs := slots_next hV hI hcl ho hready hn hS (stepOp_s (s := (S i).s) (bx := (S i).bx) (h := (S i).h) h1) hle hble (c := c) (f2.mono hle' hble')
  have hx : Ext0 lo base ρ0 (S 0).h.length w0 (Rho.mix (S i).h.length ρ ρ') w' := ext0_next hI hle (fun b e g1 g2 => by
      rcases hmix b e g2 with g | ⟨_, g⟩
      · rw [g1] at g; cases g
      · obtain ⟨g3, _, g4⟩ := hnew b e g1 g
        exact ⟨Nat.le_trans (hV.len_le (Nat.zero_le i) (Nat.le_of_lt hil)) g3, .inl (Nat.le_trans hI.hB g4)⟩) (fun r hr _ => hfr r (Nat.lt_of_lt_of_le hr hI.hB)) f5.size f5.os f5.tape f5.output
  have hH : HRel (Rho.mix (S i).h.length ρ ρ') (S q).h w' := by
    refine ⟨fun b e g => ?_, fun b e k g hk => ?_, fun b b' e e' g g' hr hne => ?_⟩
    · rcases hmix b e g with g | ⟨_, g⟩
      · exact ⟨(hI.h.dom b e g).1, Nat.lt_of_lt_of_le (hI.h.dom b e g).2 f5.size⟩
      · exact ⟨Nat.lt_of_lt_of_le (f3.dom b e g).1 hlen1, (f3.dom b e g).2⟩
    · rcases hmix b e g with g | ⟨_, g⟩
      · exact BR.mono hle (hfr _ (hI.h.dom b e g).2) (hI.h.blk b e k g hk)
      · rw [hsame1 b (f3.dom b e g).1] at hk
        exact BR.mono hle' rfl (f3.blk b e k g hk)
    · rcases hmix b e g with g | ⟨g0, g⟩ <;> rcases hmix b' e' g' with g' | ⟨g0', g'⟩
      · exact hI.h.inj b b' e e' g g' hr hne
      · have h1 := (hI.h.dom b e g).2
        have h2 := (hnew b' e' g0' g').2.2
        omega
      · have h1 := (hI.h.dom b' e' g').2
        have h2 := (hnew b e g0 g).2.2
        omega
      · have s1 := hsame1 b (f3.dom b e g).1
        have s2 := hsame1 b' (f3.dom b' e' g').1
        rcases f3.inj b b' e e' g g' hr hne with h | h | ⟨⟨x, y, z, h⟩, ⟨x', y', z', h'⟩⟩
        · exact .inl (by unfold isDead at *; rw [s1]; exact h)
        · exact .inr (.inl (by unfold isDead at *; rw [s2]; exact h))
        · exact .inr (.inr ⟨⟨x, y, z, by rw [s1]; exact h⟩, ⟨x', y', z', by rw [s2]; exact h'⟩⟩)
  have hF : FRel (Rho.mix (S i).h.length ρ ρ') (Bet.mix β β') (S q).bx w' := by
    refine ⟨fun t r g => ?_, fun t r g => ?_, fun t t' r g g' => ?_, fun t r b e g g' => ?_⟩
    · rcases hmixB t r g with g | ⟨_, g⟩
      · obtain ⟨row, cs, el, k1, k2, k3⟩ := hI.f.has t r g
        exact ⟨row, cs, el, k1, (hfr r (hI.f.lt t r g)).trans k2, VRs.mono hle _ _ k3⟩
      · obtain ⟨row, cs, el, k1, k2, k3⟩ := f4.has t r g
        refine ⟨row, cs, el, ?_, k2, VRs.mono hle' _ _ k3⟩
        exact hV.bx_same hiq hq hnb' (by rw [e2]; exact k1)
    · rcases hmixB t r g with g | ⟨_, g⟩
      · exact Nat.lt_of_lt_of_le (hI.f.lt t r g) f5.size
      · exact f4.lt t r g
    · rcases hmixB t r g with g | ⟨g0, g⟩ <;> rcases hmixB t' r g' with g' | ⟨g0', g'⟩
      · exact hI.f.inj t t' r g g'
      · have h1 := hI.f.lt t r g
        have h2 := (hnewB t' r g0' g').1
        omega
      · have h1 := hI.f.lt t' r g'
        have h2 := (hnewB t r g0 g).1
        omega
      · exact f4.inj t t' r g g'
    · rcases hmixB t r g with g | ⟨g0, g⟩ <;> rcases hmix b e g' with g' | ⟨g0', g'⟩
      · exact hI.f.off t r b e g g'
      · have h1 := hI.f.lt t r g
        have h2 := (hnew b e g0' g').2.2
        omega
      · have h1 := (hI.h.dom b e g').2
        have h2 := (hnewB t r g0 g).1
        omega
      · exact f4.off t r b e g g'
  obtain ⟨q', hI'⟩ := inv_non hI (i := i) hb (ρ2 := Rho.mix (S i).h.length ρ ρ') (β2 := Bet.mix β β') (a' := a.put o.dst c) (w' := w') hH hF hs (fun t r g => by
      rcases hmixB t r g with g | ⟨g0, g⟩
      · exact hI.own t r g
      · exact Nat.le_trans hI.hB (hnewB t r g0 g).1) (Nat.le_trans hI.hB f5.size) (put_size hI).1 (put_size hI).2 hx
    (fun j hj hL b g1 g2 => by
      rcases hL with hL | rfl
      · obtain ⟨e, he⟩ := hI.tot j hj hL b g1 g2
        exact ⟨e, hle b e he⟩
      · rw [e1] at g2
        obtain ⟨e, he⟩ := f5.tot b g1 g2
        exact ⟨e, hle' b e he⟩)
    (fun b e g => by
      rcases hmix b e g with g | ⟨g0, g⟩
      · exact (hI.ids b e g).imp id fun ⟨j, h1, h2, h3⟩ => ⟨j, h1, .inl h2, h3⟩
      · obtain ⟨g3, g4, _⟩ := hnew b e g0 g
        exact .inr ⟨i, hil, .inr rfl, g3, by rw [e1]; exact g4⟩)
    (fun t r g => by
      rcases hmixB t r g with g | ⟨g0, g⟩
      · exact (hI.bxs t r g).more
      · obtain ⟨row, _, _, g2, _⟩ := f4.has t r g
        have g2 : lookB σ1.bx t = some row := g2
        exact .inr (.inl ⟨i, hil, .inr rfl, (hnewB t r g0 g).2, by rw [e2, g2]; rfl⟩))
  exact hK _ _ _ _ _ hI'
end
end Go.Proofs.YtfbhdjkeofleiaaDoor.T
