/- Regions whose order the model draws: what stands fast in every order. -/
import Derived.Test.YtfbhdjkeofleiaaDoorTeeQ
namespace Go.Proofs.YtfbhdjkeofleiaaDoor.T
open Go
set_option linter.unusedVariables false
set_option linter.unusedSimpArgs false
set_option linter.unnecessarySimpa false

/-- Something comes behind an operation. -/
theorem wp_ex {P : Program} {o : Oper} {a : Act} {w : World} {next : Act → World → Prop} (h : o.wp P a w next (fun _ _ _ => False)) : ∃ a' w', next a' w' := by
  unfold Oper.wp at h
  generalize (execOp a.eval o).run P w = res at h
  cases res with
  | ok n w' =>
    cases n <;> simp only [Oper.upon] at h <;> (try exact h.elim)
    · exact ⟨_, _, h⟩
    · exact ⟨_, _, h⟩
    · obtain ⟨e, w'', fr, hr, _⟩ := h []
      cases e with
      | returned v => exact ⟨_, _, hr⟩
      | panicked c => exact hr.elim
      | outgrown => obtain ⟨_, _, hr⟩ := hr; exact hr.elim
    · exact ⟨_, _, h⟩
    · obtain ⟨v, w'', hr, _⟩ := h default []
      exact ⟨_, _, hr⟩
  | halt x w' => cases x <;> simp only [Oper.upon] at h

section
variable {P : Program} {lo base nt : Nat} {X : Ctx}

/-- What the text's order gives. -/
def More (ρ : Rho) (β : Bet) (σ : St) (w : World) (lo base : Nat) (ρ' : Rho) (β' : Bet) (σ' : St) (w' : World) : Prop :=
  Ext lo base ρ σ.h w ρ' σ'.h w' ∧ Ble β β' ∧ (∀ t, lookB σ.bx t = none → (lookB σ'.bx t).isSome = true → ∃ r, β' t = some r)

/-- a variable less -/
def dropB (t : Nat) : List (Nat × List V) → List (Nat × List V)
  | [] => []
  | (u, v) :: r => if u = t then dropB t r else (u, v) :: dropB t r
theorem lookB_drop {t : Nat} : ∀ {bx : List (Nat × List V)} {u : Nat}, lookB (dropB t bx) u = if u = t then none else lookB bx u
  | [], u => by simp [dropB, lookB]
  | (x, v) :: r, u => by
    unfold dropB
    by_cases h : x = t
    · rw [if_pos h, lookB_drop (bx := r), lookB_cons]
      by_cases hu : u = t
      · rw [if_pos hu, if_pos hu]
      · rw [if_neg hu, if_neg hu, if_neg (fun e => hu (e.symm.trans h))]
    · rw [if_neg h, lookB_cons, lookB_drop (bx := r), lookB_cons]
      by_cases hx : x = u
      · rw [if_pos hx, if_pos hx, if_neg (fun e => h (hx.trans e))]
      · rw [if_neg hx, if_neg hx]
theorem FRel.sub {ρ : Rho} {β : Bet} {bx bx' : List (Nat × List V)} {w : World} (hf : FRel ρ β bx w) (hs : ∀ t r, β t = some r → lookB bx' t = lookB bx t) : FRel ρ β bx' w :=
  ⟨fun t r hr => by obtain ⟨row, cs, el, h1, h2, h3⟩ := hf.has t r hr; exact ⟨row, cs, el, by rw [hs t r hr]; exact h1, h2, h3⟩, hf.lt, hf.inj, hf.off⟩
theorem step_alloc {lo' : Nat} {o : Oper} {t e : Nat} {s : List (Nat × V)} {bx : List (Nat × List V)} {h : Heap} (hop : o.op = .alloc e) (hd : o.dst = some t) (hk : ((X.ty e).known && (X.ty e).hz && firms (X.ty e).zero) = true) (hh : X.hb.any (Nat.beq t) = false) (hl : lookB bx t = none) :
    stepOp X lo' o.dst o.type o.op ⟨s, bx, h⟩ = some (.lp t 0, ⟨s, (t, (X.ty e).zero) :: bx, h⟩) := by
  unfold stepOp
  rw [hop, hd]
  simp only [opT, hk, hh, hl]

/-- what stands ready for an operation that makes a variable of the frame -/
def BoxIn (X : Ctx) (cl : Nat → Bool) (j : Nat) (o : Oper) (β : Bet) (bx : List (Nat × List V)) : Prop := ∀ t e, boxAt cl j o = some (t, e) → ((X.ty e).known && (X.ty e).hz && firms (X.ty e).zero) = true ∧ X.hb.any (Nat.beq t) = false ∧ β t = none ∧ lookB bx t = some (X.ty e).zero
/-- in the order of the text -/
theorem step_fact (hX : X.ty = tyOf P) (hE : ∀ t, X.cmp t = true → EqOk P t) (hC : SC P X.call) {all : List Oper} {calm al : Nat → Bool} {j : Nat} {o : Oper} {σ σ' : St} {ρ : Rho} {β : Bet} {a : Act} {w : World} (hs : StepAt X lo all calm al j o σ σ') (hbox : BoxIn X al j o β σ.bx) (hd : ∀ t, o.dst = some t → t < nt)
    (ho : Ok lo base nt ρ β σ a w) : (∃ ρ' β' a' w', Ok lo base nt ρ' β' σ' a' w' ∧ More ρ β σ w lo base ρ' β' σ' w' ∧ ∀ t r, β t = none → β' t = some r → lookB σ.bx t = none ∨ ∃ e, boxAt al j o = some (t, e)) ∧ σ.h.length ≤ σ'.h.length ∧ (calm j = true → ∀ b, b < σ.h.length → σ'.h[b]? = σ.h[b]?) := by
  rcases hs with ⟨_, _, v, σ1, h1, rfl⟩ | ⟨_, _, rfl⟩ | ⟨tb, eb, hbx, rfl⟩
  · have hh : (putS σ1 o.dst v).h = σ1.h := by cases o.dst <;> rfl
    have hb : (putS σ1 o.dst v).bx = σ1.bx := by cases o.dst <;> rfl
    rw [hh]
    have hlo2 : lo ≤ (if calm j = true then σ.h.length else lo) := by split; exact ho.hlo; exact Nat.le_refl _
    have hwp : o.wp P a w (fun a' w' => (∃ ρ' β', Ok lo base nt ρ' β' (putS σ1 o.dst v) a' w' ∧ More ρ β σ w lo base ρ' β' (putS σ1 o.dst v) w' ∧ ∀ t r, β t = none → β' t = some r → lookB σ.bx t = none ∨ ∃ e, boxAt al j o = some (t, e)) ∧ σ.h.length ≤ σ1.h.length ∧ (calm j = true → ∀ b, b < σ.h.length → σ1.h[b]? = σ.h[b]?)) (fun _ _ _ => False) := by
      refine op_sound (lo := if calm j = true then σ.h.length else lo) (base := base) (K := fun v σ => some (v, σ)) (r := (v, σ1)) hX hE hC h1 ho.s ho.h ho.f ho.hB (by split; exact Nat.le_refl _; exact ho.hlo) (fun _ => ho.own) ?_
      intro v' σ'' c w' hk hf
      injection hk with hk; injection hk with e1 e2; subst e1; subst e2
      obtain ⟨ρ', β', f1, f2, f3, f4, f5, f6, f7, f8⟩ := hf
      have hok : Ok lo base nt ρ' β' (putS σ'' o.dst v') (a.put o.dst c) w' := by
        refine ⟨?_, ?_, ?_, ?_, Nat.le_trans ho.hB f5.size, ?_, ?_, ?_⟩
        · refine SRel.put ?_ f2 (fun t ht => by rw [ho.nt]; exact hd t ht)
          rw [f1]; exact ho.s.mono f5.rle f6
        · rw [hh]; exact f3
        · rw [hb]; exact f4
        · intro t r hr
          cases hb : β t with
          | some r0 =>
            have := f6 t r0 hb
            rw [hr] at this; injection this with this; subst this
            exact ho.own t _ hb
          | none => exact Nat.le_trans ho.hB (f7 t r hb hr).1
        · rw [hh]; exact Nat.le_trans ho.hlo f5.len
        · cases o.dst <;> simp [Act.put, ho.nt]
        · cases o.dst <;> simp [Act.put, ho.df]
      refine ⟨⟨ρ', β', hok, ⟨?_, f6, ?_⟩, fun t r g1 g2 => .inl (f7 t r g1 g2).2⟩, f5.len, fun hc b hb => f5.pres b ?_ hb⟩
      · rw [hh]; exact f5.weaken hlo2 (Nat.le_refl _)
      · rw [hb]; exact f8
      · rw [if_pos hc]; exact hb
    obtain ⟨a', w', ⟨ρ', β', h2, h5⟩, h3, h4⟩ := wp_ex hwp
    exact ⟨⟨ρ', β', a', w', h2, h5⟩, h3, h4⟩
  · have hh : (putS σ o.dst (.tup [])).h = σ.h := by cases o.dst <;> rfl
    have hb : (putS σ o.dst (.tup [])).bx = σ.bx := by cases o.dst <;> rfl
    rw [hh]
    refine ⟨⟨ρ, β, _, w, ho.skip hd, ⟨?_, Ble.refl _, ?_⟩, fun t r g1 g2 => by rw [g1] at g2; cases g2⟩, Nat.le_refl _, fun _ _ _ => rfl⟩
    · rw [hh]; exact Ext.refl _ _ _ _ _
    · rw [hb]; exact noBx
  · obtain ⟨_, hop, hdst, _⟩ := boxAt_spec hbx
    obtain ⟨k1, k2, k3, k4⟩ := hbox tb eb hbx
    have hh : (putS σ o.dst (.lp tb 0)).h = σ.h := by cases o.dst <;> rfl
    have hb : (putS σ o.dst (.lp tb 0)).bx = σ.bx := by cases o.dst <;> rfl
    rw [hh]
    have h1 := step_alloc (lo' := lo) (s := σ.s) (h := σ.h) (bx := dropB tb σ.bx) hop hdst k1 k2 (by rw [lookB_drop, if_pos rfl])
    unfold stepOp at h1
    have hf0 : FRel ρ β (dropB tb σ.bx) w := ho.f.sub fun t r hr => by rw [lookB_drop, if_neg (fun e => by rw [e, k3] at hr; cases hr)]
    have hwp : o.wp P a w (fun a' w' => ∃ ρ' β', Ok lo base nt ρ' β' (putS σ o.dst (.lp tb 0)) a' w' ∧ More ρ β σ w lo base ρ' β' (putS σ o.dst (.lp tb 0)) w' ∧ ∀ t r, β t = none → β' t = some r → lookB σ.bx t = none ∨ ∃ e, boxAt al j o = some (t, e)) (fun _ _ _ => False) := by
      refine op_sound (lo := lo) (base := base) (σ := ⟨σ.s, dropB tb σ.bx, σ.h⟩) (K := fun v σ => some (v, σ)) (r := (.lp tb 0, _)) hX hE hC h1 ho.s ho.h hf0 ho.hB ho.hlo (fun _ => ho.own) ?_
      intro v' σ'' c w' hk hf
      injection hk with hk; injection hk with e1 e2; subst e1; subst e2
      obtain ⟨ρ', β', f1, f2, f3, f4, f5, f6, f7, f8⟩ := hf
      have hok : Ok lo base nt ρ' β' (putS σ o.dst (.lp tb 0)) (a.put o.dst c) w' := by
        refine ⟨?_, ?_, ?_, ?_, Nat.le_trans ho.hB f5.size, ?_, ?_, ?_⟩
        · refine SRel.put ?_ f2 (fun t ht => by rw [ho.nt]; exact hd t ht)
          exact ho.s.mono f5.rle f6
        · rw [hh]; exact f3
        · rw [hb]
          refine f4.sub fun t r hr => ?_
          show lookB σ.bx t = lookB ((tb, (X.ty eb).zero) :: dropB tb σ.bx) t
          rw [lookB_cons, lookB_drop]
          by_cases e : tb = t
          · rw [if_pos e, ← e]; exact k4
          · rw [if_neg e, if_neg (fun e' => e e'.symm)]
        · intro t r hr
          cases hb : β t with
          | some r0 =>
            have := f6 t r0 hb
            rw [hr] at this; injection this with this; subst this
            exact ho.own t _ hb
          | none => exact Nat.le_trans ho.hB (f7 t r hb hr).1
        · rw [hh]; exact ho.hlo
        · cases o.dst <;> simp [Act.put, ho.nt]
        · cases o.dst <;> simp [Act.put, ho.df]
      refine ⟨ρ', β', hok, ⟨?_, f6, ?_⟩, fun t r g1 g2 => ?_⟩
      · rw [hh]; exact f5.weaken (Nat.le_refl _) (Nat.le_refl _)
      · rw [hb]; exact noBx
      · have h7 : lookB (dropB tb σ.bx) t = none := (f7 t r g1 g2).2
        rw [lookB_drop] at h7
        by_cases e : t = tb
        · exact .inr ⟨eb, by rw [e]; exact hbx⟩
        · rw [if_neg e] at h7; exact .inl h7
    obtain ⟨a', w', ρ', β', h2, h5⟩ := wp_ex hwp
    exact ⟨⟨ρ', β', a', w', h2, h5⟩, Nat.le_refl _, fun _ _ _ => rfl⟩

theorem More.trans {ρ ρ' ρ'' : Rho} {β β' β'' : Bet} {σ σ' σ'' : St} {w w' w'' : World} (a : More ρ β σ w lo base ρ' β' σ' w') (b : More ρ' β' σ' w' lo base ρ'' β'' σ'' w'') : More ρ β σ w lo base ρ'' β'' σ'' w'' := by
  refine ⟨a.1.trans b.1, a.2.1.trans b.2.1, fun t h1 h2 => ?_⟩
  cases h : lookB σ'.bx t with
  | none => exact b.2.2 t h h2
  | some row =>
    obtain ⟨r, hr⟩ := a.2.2 t h1 (by rw [h]; rfl)
    exact ⟨r, b.2.1 t r hr⟩

/-- operations that stand between all others that touch memory -/
def Bar (all : List Oper) (cl : Nat → Bool) (j : Nat) : Prop := freeAt (aheadL [] all) all cl j = true ∧ (∃ o, all[j]? = some o ∧ inert o = false) ∧ cl j = false
def calmA (all : List Oper) (cl : Nat → Bool) (i : Nat) : Bool := !freeAt (aheadL [] all) all cl i

structure Env (P : Program) (X : Ctx) (lo base nt : Nat) (ρ0 : Rho) (β0 : Bet) (w0 : World) (all : List Oper) (cl : Nat → Bool) (S : Nat → St) : Prop where
  nar : X.wide = false
  G : Graph all cl
  step : ∀ (j : Nat) (o : Oper), all[j]? = some o → StepAt X lo all (calmA all cl) cl j o (S j) (S (j + 1))
  box : ∀ (j : Nat) (o : Oper), all[j]? = some o → BoxIn X cl j o β0 (S 0).bx
  dst : ∀ (j : Nat) (o : Oper), all[j]? = some o → ∀ t, o.dst = some t → t < nt
  ok : ∀ j, j ≤ all.length → ∃ ρ β a w, Ok lo base nt ρ β (S j) a w ∧ More ρ0 β0 (S 0) w0 lo base ρ β (S j) w
  len : ∀ j, j < all.length → (S j).h.length ≤ (S (j + 1)).h.length
  same : ∀ j, j < all.length → ¬ Bar all cl j → ∀ b, b < (S j).h.length → (S (j + 1)).h[b]? = (S j).h[b]?
  keep : ∀ j, j < all.length → KeepAt X (calmA all cl) (ckOf (aheadL [] all) all cl) j (S j) (S (j + 1))

/-- no step that has no place beside it writes a variable of the frame that stands ready -/
theorem box_step {all : List Oper} {cl : Nat → Bool} {S : Nat → St} (hG : Graph all cl) (hst : ∀ (j : Nat) (o : Oper), all[j]? = some o → StepAt X lo all (calmA all cl) cl j o (S j) (S (j + 1)))
    (hkp : ∀ (j : Nat) (o : Oper), all[j]? = some o → KeepAt X (calmA all cl) (ckOf (aheadL [] all) all cl) j (S j) (S (j + 1))) {i : Nat} {o : Oper} {t e : Nat} (ho : all[i]? = some o) (hb : boxAt cl i o = some (t, e)) {j : Nat} (hj : j < all.length)
    (hc : Bar all cl j → cmpB (aheadL [] all) j i = false) {row : List V} (hr : lookB (S j).bx t = some row) : lookB (S (j + 1)).bx t = some row := by
  have hg : all[j]? = some all[j] := List.getElem?_eq_getElem hj
  have pb : ∀ (σ : St) (d : Option Nat) (v : V), (putS σ d v).bx = σ.bx := fun σ d v => by cases d <;> rfl
  rcases hst j _ hg with ⟨hbn, _, v, σ1, h1, h2⟩ | ⟨_, _, h2⟩ | ⟨_, _, _, h2⟩
  · cases hso : isStoreOp all[j] with
    | false =>
      rw [h2, pb]
      refine step_box_same (s := (S j).s) (bx := (S j).bx) (h := (S j).h) h1 (fun t' x y he => ?_) hr
      unfold isStoreOp at hso; rw [he] at hso; cases hso
    | true =>
      have hop : ∃ u x y, all[j].op = .store u x y := by
        unfold isStoreOp at hso
        split at hso
        · rename_i he; exact ⟨_, _, _, he⟩
        · cases hso
      obtain ⟨u, x, y, hop⟩ := hop
      have hw : isWrite all[j] = true := by unfold isWrite; rw [hop]
      have hf := hG.wr j _ hg hw
      have hi : inert all[j] = false := by unfold inert; rw [hop]
      have hcj : cl j = false := by
        cases hcj : cl j with
        | false => rfl
        | true =>
          obtain ⟨t', a', hop', _⟩ := hG.stat j _ hg hcj hbn
          rw [hop'] at hop; cases hop
      obtain ⟨hci, _, _, hm⟩ := boxAt_spec hb
      exact (hkp j _ hg (by unfold calmA; rw [hf]; rfl) o (ck_box hg hi hcj ho hci (hc ⟨hf, ⟨_, hg, hi⟩, hcj⟩) hm)).2 t e hm row hr
  · rw [h2, pb]; exact hr
  · rw [h2, pb]; exact hr
theorem box_ahead {all : List Oper} {cl : Nat → Bool} (hG : Graph all cl) {i j : Nat} {o p : Oper} {t e : Nat} (ho : all[i]? = some o) (hb : boxAt cl i o = some (t, e)) (hp : all[j]? = some p) (hji : j ≤ i) : cmpB (aheadL [] all) j i = false := by
  cases hc : cmpB (aheadL [] all) j i with
  | false => rfl
  | true =>
    exfalso
    unfold cmpB at hc
    split at hc
    · rename_i h
      have := bit_lt hG j p i hp h; omega
    · rw [(hG.box i o t e ho hb).1] at hc; simp at hc
theorem env_of (hw : X.wide = false) (hX : X.ty = tyOf P) (hE : ∀ t, X.cmp t = true → EqOk P t) (hC : SC P X.call) {all : List Oper} {cl : Nat → Bool} {S : Nat → St} (hG : Graph all cl) (hst : ∀ (j : Nat) (o : Oper), all[j]? = some o → StepAt X lo all (calmA all cl) cl j o (S j) (S (j + 1)))
    (hkp : ∀ (j : Nat) (o : Oper), all[j]? = some o → KeepAt X (calmA all cl) (ckOf (aheadL [] all) all cl) j (S j) (S (j + 1))) (hd : ∀ (j : Nat) (o : Oper), all[j]? = some o → ∀ t, o.dst = some t → t < nt) {ρ : Rho} {β : Bet} {a : Act} {w : World} (ho : Ok lo base nt ρ β (S 0) a w) (hbox : ∀ (j : Nat) (o : Oper), all[j]? = some o → BoxIn X cl j o β (S 0).bx) : Env P X lo base nt ρ β w all cl S := by
  have ok : ∀ j, j ≤ all.length → ∃ ρ' β' a' w', Ok lo base nt ρ' β' (S j) a' w' ∧ More ρ β (S 0) w lo base ρ' β' (S j) w' ∧ ∀ i o, j ≤ i → all[i]? = some o → BoxIn X cl i o β' (S j).bx := by
    intro j
    induction j with
    | zero => intro _; exact ⟨ρ, β, a, w, ho, ⟨Ext.refl _ _ _ _ _, Ble.refl _, noBx⟩, fun i o _ hi => hbox i o hi⟩
    | succ j ih =>
      intro hj
      obtain ⟨ρ1, β1, a1, w1, ho1, hm1, hbx1⟩ := ih (by omega)
      have hg : all[j]? = some all[j] := List.getElem?_eq_getElem (by omega)
      obtain ⟨ρ2, β2, a2, w2, ho2, hm2, hn2⟩ := (step_fact hX hE hC (hst j _ hg) (hbx1 j _ (Nat.le_refl _) hg) (hd j _ hg) ho1).1
      refine ⟨ρ2, β2, a2, w2, ho2, hm1.trans hm2, fun i o hji ho t e hb => ?_⟩
      obtain ⟨k1, k2, k3, k4⟩ := hbx1 i o (by omega) ho t e hb
      have hcm := box_ahead hG ho hb hg (by omega)
      refine ⟨k1, k2, ?_, box_step hG hst hkp ho hb (by omega) (fun _ => hcm) k4⟩
      cases h2 : β2 t with
      | none => rfl
      | some r =>
        exfalso
        rcases hn2 t r k3 h2 with g | ⟨e', g⟩
        · rw [k4] at g; cases g
        · rcases hG.pair j i _ o hg ho (by omega) with g1 | ⟨g1, _⟩
          · rw [hcm] at g1; cases g1
          · exact disj_not (t := t) g1 (by rw [(boxAt_spec g).2.2.1]; simp) (by unfold touchesT; rw [(boxAt_spec hb).2.2.1]; simp)
  have ok2 : ∀ j, j ≤ all.length → ∃ ρ' β' a' w', Ok lo base nt ρ' β' (S j) a' w' ∧ More ρ β (S 0) w lo base ρ' β' (S j) w' := fun j hj => by
    obtain ⟨ρ', β', a', w', h1, h2, _⟩ := ok j hj
    exact ⟨ρ', β', a', w', h1, h2⟩
  refine ⟨hw, hG, hst, hbox, hd, ok2, fun j hj => ?_, fun j hj hb b hbl => ?_, fun j hj => hkp j _ (List.getElem?_eq_getElem hj)⟩
  · obtain ⟨ρ, β, a, w, ho, _, hbx⟩ := ok j (by omega)
    have hg : all[j]? = some all[j] := List.getElem?_eq_getElem hj
    exact (step_fact hX hE hC (hst j _ hg) (hbx j _ (Nat.le_refl _) hg) (hd j _ hg) ho).2.1
  · obtain ⟨ρ, β, a, w, ho, _, hbx⟩ := ok j (by omega)
    have hg : all[j]? = some all[j] := List.getElem?_eq_getElem hj
    cases hf : freeAt (aheadL [] all) all cl j with
    | false => exact (step_fact hX hE hC (hst j _ hg) (hbx j _ (Nat.le_refl _) hg) (hd j _ hg) ho).2.2 (by simp [calmA, hf]) b hbl
    | true =>
      have hi : inert all[j] = true ∨ cl j = true := by
        cases hi : inert all[j] with
        | true => exact .inl rfl
        | false =>
          cases hc : cl j with
          | true => exact .inr rfl
          | false => exact absurd ⟨hf, ⟨_, hg, hi⟩, hc⟩ hb
      rcases hst j _ hg with ⟨hbn, _, v, σ1, h1, h2⟩ | ⟨_, _, h2⟩ | ⟨_, _, _, h2⟩
      · have : σ1.h = (S j).h := by
          rcases hi with hi | hi
          · exact (step_inert hw (s := (S j).s) (bx := (S j).bx) (h := (S j).h) hi h1).2.1
          · obtain ⟨t, a, hop, _⟩ := hG.stat j _ hg hi hbn
            rw [hop] at h1
            exact (step_load (s := (S j).s) (bx := (S j).bx) (h := (S j).h) h1).2.2
        rw [h2]
        have hh : (putS σ1 all[j].dst v).h = σ1.h := by cases all[j].dst <;> rfl
        rw [hh, this]
      · rw [h2]; cases all[j].dst <;> rfl
      · rw [h2]; cases all[j].dst <;> rfl

section
variable {all : List Oper} {cl : Nat → Bool} {S : Nat → St} {ρ0 : Rho} {β0 : Bet} {w0 : World} (hV : Env P X lo base nt ρ0 β0 w0 all cl S)
include hV
theorem Env.len_le : ∀ {i j : Nat}, i ≤ j → j ≤ all.length → (S i).h.length ≤ (S j).h.length := by
  intro i j hij
  induction j with
  | zero => intro _; rw [show i = 0 by omega]; exact Nat.le_refl _
  | succ j ih =>
    intro hj
    by_cases e : i = j + 1
    · rw [e]; exact Nat.le_refl _
    · exact Nat.le_trans (ih (by omega) (by omega)) (hV.len j (by omega))
theorem Env.same_le {i j : Nat} (hij : i ≤ j) (hj : j ≤ all.length) (hb : ∀ k, i ≤ k → k < j → ¬ Bar all cl k) {b : Nat} (hbl : b < (S i).h.length) : (S j).h[b]? = (S i).h[b]? := by
  induction j with
  | zero => rw [show i = 0 by omega]
  | succ j ih =>
    by_cases e : i = j + 1
    · rw [e]
    · rw [hV.same j (by omega) (hb j (by omega) (by omega)) b (Nat.lt_of_lt_of_le hbl (hV.len_le (by omega) (by omega))), ih (by omega) (by omega) fun k h1 h2 => hb k h1 (by omega)]
/-- one step's slots, boxes -/
theorem Env.slots {j : Nat} {o : Oper} (ho : all[j]? = some o) : ∃ v σ1, (S (j + 1)) = putS σ1 o.dst v ∧ σ1.s = (S j).s ∧
    (∀ t, (lookB (S j).bx t).isSome = true → (lookB σ1.bx t).isSome = true) ∧ (¬ Bar all cl j → ∀ t row, lookB (S j).bx t = some row → lookB σ1.bx t = some row) := by
  rcases hV.step j o ho with ⟨hbn, _, v, σ1, h1, h2⟩ | ⟨_, _, h2⟩ | ⟨_, _, _, h2⟩
  · refine ⟨v, σ1, h2, stepOp_s (s := (S j).s) (bx := (S j).bx) (h := (S j).h) h1, fun t ht => step_box_some (s := (S j).s) (bx := (S j).bx) (h := (S j).h) h1 ht, fun hb t row ht => ?_⟩
    refine step_box_same (s := (S j).s) (bx := (S j).bx) (h := (S j).h) h1 (fun u x y he => hb ?_) ht
    have hw : isWrite o = true := by unfold isWrite; rw [he]
    refine ⟨hV.G.wr j o ho hw, ⟨o, ho, by unfold inert; rw [he]⟩, ?_⟩
    cases hc : cl j with
    | false => rfl
    | true =>
      obtain ⟨t', a', hop, _⟩ := hV.G.stat j o ho hc hbn
      rw [hop] at he; cases he
  · exact ⟨_, S j, h2, rfl, fun t ht => ht, fun _ t row ht => ht⟩
  · exact ⟨_, S j, h2, rfl, fun t ht => ht, fun _ t row ht => ht⟩
omit hV in
theorem putS_bx (σ : St) (d : Option Nat) (v : V) : (putS σ d v).bx = σ.bx := by cases d <;> rfl
omit hV in
theorem putS_h (σ : St) (d : Option Nat) (v : V) : (putS σ d v).h = σ.h := by cases d <;> rfl
theorem Env.bx_some {i j : Nat} (hij : i ≤ j) (hj : j ≤ all.length) {t : Nat} (ht : (lookB (S i).bx t).isSome = true) : (lookB (S j).bx t).isSome = true := by
  induction j with
  | zero => rw [show 0 = i by omega]; exact ht
  | succ j ih =>
    by_cases e : i = j + 1
    · rw [← e]; exact ht
    · obtain ⟨v, σ1, h1, _, h2, _⟩ := hV.slots (List.getElem?_eq_getElem (show j < all.length by omega))
      rw [h1, putS_bx]; exact h2 t (ih (by omega) (by omega))
theorem Env.bx_same {i j : Nat} (hij : i ≤ j) (hj : j ≤ all.length) (hb : ∀ k, i ≤ k → k < j → ¬ Bar all cl k) {t : Nat} {row : List V} (ht : lookB (S i).bx t = some row) : lookB (S j).bx t = some row := by
  induction j with
  | zero => rw [show 0 = i by omega]; exact ht
  | succ j ih =>
    by_cases e : i = j + 1
    · rw [← e]; exact ht
    · obtain ⟨v, σ1, h1, _, _, h2⟩ := hV.slots (List.getElem?_eq_getElem (show j < all.length by omega))
      rw [h1, putS_bx]; exact h2 (hb j (by omega) (by omega)) t row (ih (by omega) (by omega) fun k h1 h2 => hb k h1 (by omega))
/-- A slot that nobody writes. -/
theorem Env.slot_same {i p t : Nat} (hip : i ≤ p) (hp : p ≤ all.length) (hw : ∀ j, i ≤ j → j < p → ¬ Wr all j t) : look (S p).s t = look (S i).s t := by
  induction p with
  | zero => rw [show i = 0 by omega]
  | succ p ih =>
    by_cases e : i = p + 1
    · rw [e]
    · have hg : all[p]? = some all[p] := List.getElem?_eq_getElem (by omega)
      obtain ⟨v, σ1, h1, h2, _⟩ := hV.slots hg
      rw [← ih (by omega) (by omega) fun j h1 h2 => hw j h1 (by omega), h1]
      have hne : all[p].dst ≠ some t := fun h => hw p (by omega) (by omega) ⟨_, hg, h⟩
      cases hd : all[p].dst with
      | none => simp only [putS]; rw [h2]
      | some u =>
        simp only [putS, look_cons]
        rw [if_neg (fun h => hne (by rw [hd, h])), h2]
end
end
end Go.Proofs.YtfbhdjkeofleiaaDoor.T
