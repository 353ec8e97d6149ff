/- T against the model: code. -/
import Derived.Test.YtfbhdjkeofleiaaDoorTeeL
namespace Go.Proofs.YtfbhdjkeofleiaaDoor.T
open Go
set_option linter.unusedVariables false
set_option linter.unusedSimpArgs false
set_option linter.unnecessarySimpa false

/-- slots that operations write are slots of the frame -/
def dstsOk (m : Nat) (ops : List Oper) : Bool := ops.all fun o => match o.dst with | none => true | some t => Nat.blt t m
def dstOk (m : Nat) : Code → Bool
  | .region _ ops _ => dstsOk m ops.toList
  | .seq a b => dstOk m a && dstOk m b
  | .cond _ a b => dstOk m a && dstOk m b
  | .block _ b => dstOk m b
  | .loop b => dstOk m b
  | _ => true
theorem dstsOk_spec {m nt : Nat} {ops : List Oper} (h : dstsOk m ops = true) (hm : m ≤ nt) : ∀ o ∈ ops, ∀ t, o.dst = some t → t < nt := fun o ho t ht => by
  have := List.all_eq_true.1 h o ho
  rw [ht] at this
  have h2 : t < m := by simpa [Nat.blt_eq] using this
  exact Nat.lt_of_lt_of_le h2 hm

def exitOf : Ex → Exit
  | .normal => .normal
  | .exit id => .exit id
  | .ret => .ret

section
variable {P : Program} {lo base nt m : Nat} {ρ : Rho} {β : Bet} {σ : St} {a : Act} {w : World} {R : Type} {r : R} {X : Ctx} {Q : Exit → Act → World → Prop}

theorem List.drop_cons' {α : Type} {l : List α} {i : Nat} {x : α} {r : List α} (h : l.drop i = x :: r) : l[i]? = some x ∧ l.drop (i + 1) = r := by
  have h1 : l[i]? = (l.drop i)[0]? := by rw [List.getElem?_drop]; simp
  refine ⟨by rw [h1, h]; rfl, ?_⟩
  rw [← List.drop_drop, h]; rfl

theorem ops_seq (hX : X.ty = tyOf P) (hE : ∀ t, X.cmp t = true → EqOk P t) (hC : SC P X.call) {ops : Array Oper} (hd : ∀ o ∈ ops.toList, ∀ t, o.dst = some t → t < nt) {k : St → Option R} :
    ∀ (rest : List Oper) (i : Nat) (σ : St) (ρ : Rho) (β : Bet) (a : Act) (w : World), ops.toList.drop i = rest → opsT X lo ops.toList (fun _ => false) (fun _ => []) (fun _ => false) i rest σ k = some r → Ok lo base nt ρ β σ a w →
      (∀ σ' ρ' β' a' w', k σ' = some r → Ok lo base nt ρ' β' σ' a' w' → Ext lo base ρ σ.h w ρ' σ'.h w' → Q .normal a' w') → wpOps P ops Q (List.range' i rest.length) a w
  | [], i, σ, ρ, β, a, w, hr, hk, ho, hQ => hQ σ ρ β a w hk ho (Ext.refl _ _ _ _ _)
  | o :: rest, i, σ, ρ, β, a, w, hr, hk, ho, hQ => by
    obtain ⟨hi, hr'⟩ := List.drop_cons' hr
    have hi' : ops[i]? = some o := by simpa using hi
    have hdo := hd o (List.mem_of_getElem? hi)
    rw [List.length_cons, List.range'_succ]
    simp only [wpOps, hi']
    simp only [opsT, boxAt] at hk
    rcases guard_wanted (a := a) (ρ := ρ) (β := β) (fun j want g t _ _ _ => ho.s t) hk with ⟨hw, hk1⟩ | ⟨hw, hk1⟩
    · rw [hw]
      simp only [if_true]
      refine .inl (op_sound hX hE hC hk1 ho.s ho.h ho.f ho.hB ho.hlo (fun _ => ho.own) fun v σ' c w' h1 h2 => ?_)
      obtain ⟨ρ', β', ho', hx⟩ := ho.step h2 hdo
      exact ops_seq hX hE hC hd rest (i + 1) _ ρ' β' _ w' hr' h1 ho' fun σ'' ρ'' β'' a'' w'' g1 g2 g3 => hQ σ'' ρ'' β'' a'' w'' g1 g2 (hx.trans g3)
    · rw [hw]
      simp only [Bool.false_eq_true, if_false]
      refine ops_seq hX hE hC hd rest (i + 1) _ ρ β _ w hr' hk1 (ho.skip hdo) fun σ'' ρ'' β'' a'' w'' g1 g2 g3 => hQ σ'' ρ'' β'' a'' w'' g1 g2 ?_
      have : (putS σ o.dst (.tup [])).h = σ.h := by cases o.dst <;> rfl
      rw [this] at g3; exact g3

/-- What holds behind a code. -/
def Post (lo base nt : Nat) (k : Ex → St → Option R) (r : R) (ρ : Rho) (h : Heap) (w : World) : Exit → Act → World → Prop := fun e a' w' =>
  ∃ e' σ' ρ' β', k e' σ' = some r ∧ exitOf e' = e ∧ Ok lo base nt ρ' β' σ' a' w' ∧ Ext lo base ρ h w ρ' σ'.h w'

/-- A region whose order the model draws. -/
def DrawOk (P : Program) (X : Ctx) : Prop := ∀ {lo base nt : Nat} {R : Type} {r : R} {ρ : Rho} {β : Bet} {σ : St} {bx : List (Nat × List V)} {a : Act} {w : World} {id : Nat} {ops : Array Oper} {k : St → Option R} {Q : Exit → Act → World → Prop},
  (∀ o ∈ ops.toList, ∀ t, o.dst = some t → t < nt) → drawOk (aheadL [] ops.toList) ops.toList (clOf X.cl id) = true → boxesOf X (clOf X.cl id) 0 ops.toList σ.bx = some bx → opsT X lo ops.toList (fun i => !freeAt (aheadL [] ops.toList) ops.toList (clOf X.cl id) i) (ckOf (aheadL [] ops.toList) ops.toList (clOf X.cl id)) (clOf X.cl id) 0 ops.toList ⟨σ.s, bx, σ.h⟩ (fun σ => match endOk σ.s (aheadL [] ops.toList) ops.toList (clOf X.cl id) with | true => k σ | false => none) = some r → Ok lo base nt ρ β σ a w →
  (∀ σ' ρ' β' a' w', k σ' = some r → Ok lo base nt ρ' β' σ' a' w' → Ext lo base ρ σ.h w ρ' σ'.h w' → Q .normal a' w') → (Code.region id ops true).wp P Q a w

theorem look_keepS : ∀ (ts : List Nat) (s : List (Nat × V)) (t : Nat), look (keepS ts s) t = look s t ∨ look (keepS ts s) t = .any
  | [], s, t => .inr rfl
  | u :: ts, s, t => by
    simp only [keepS, look_cons]
    by_cases h : u = t
    · subst h; simp
    · simp only [h, if_false]; exact look_keepS ts s t
theorem look_keepVs : ∀ (ts : List Nat) (s : List (Nat × V)) (t : Nat), look (keepVs ts s) t = keepV ts (look s t)
  | ts, [], t => rfl
  | ts, (u, v) :: s, t => by
    simp only [keepVs, look_cons]
    by_cases h : u = t
    · simp [h]
    · simp only [h, if_false]; exact look_keepVs ts s t
theorem lookB_keepBx : ∀ (ts : List Nat) (s : List (Nat × List V)) (t : Nat), lookB (keepBx ts s) t = if ts.any (Nat.beq t) then lookB s t else none
  | [], s, t => by simp [keepBx, lookB]
  | u :: ts, s, t => by
    simp only [keepBx]
    have ih := lookB_keepBx ts s t
    split
    · rename_i x hx
      rw [lookB_cons]
      by_cases h : u = t
      · subst h; simp [hx]
      · simp only [h, if_false, ih]
        have : Nat.beq t u = false := by
          cases hb : Nat.beq t u with
          | false => rfl
          | true => exact absurd (Nat.eq_of_beq_eq_true hb).symm h
        simp [this]
    · rename_i hx
      rw [ih]
      by_cases h : u = t
      · subst h; simp [hx]
      · have : Nat.beq t u = false := by
          cases hb : Nat.beq t u with
          | false => rfl
          | true => exact absurd (Nat.eq_of_beq_eq_true hb).symm h
        simp [this]

theorem Ok.norm (ho : Ok lo base nt ρ β σ a w) (id : Nat) : ∃ β', Ok lo base nt ρ β' (norm X id σ) a w := by
  refine ⟨fun t => if (keepOf X.keep id).2.any (Nat.beq t) then β t else none, ?_, ho.h, ?_, ?_, ho.hB, ho.hlo, ho.nt, ho.df⟩
  · intro t
    show SV _ _ (look (keepVs _ (keepS _ σ.s)) t) _
    rw [look_keepVs]
    rcases look_keepS (keepOf X.keep id).1 σ.s t with h | h
    · rw [h]
      have hs := ho.s t
      cases hv : look σ.s t with
      | lp u j =>
        rw [hv] at hs
        have hbeq : ∀ a b : Nat, Nat.beq a b = Nat.beq b a := fun a b => by
          cases h1 : Nat.beq a b <;> cases h2 : Nat.beq b a <;> first | rfl | (exfalso; have := Nat.eq_of_beq_eq_true ‹_›; subst this; simp_all)
        simp only [keepV]
        split
        · rename_i hk
          obtain ⟨q, h1, h2⟩ := hs
          exact ⟨q, by simp only [hk, if_true]; exact h1, h2⟩
        · exact SV.of (VR.any _)
      | _ => rw [hv] at hs; exact hs
    · rw [h]; exact SV.of (VR.any _)
  · refine ⟨fun t q hq => ?_, fun t q hq => ?_, fun t t' q h1 h2 => ?_, fun t q b e h1 h2 => ?_⟩
    · split at hq
      · rename_i hk
        obtain ⟨row, cs, el, g1, g2, g3⟩ := ho.f.has t q hq
        refine ⟨row, cs, el, ?_, g2, g3⟩
        show lookB (keepBx _ σ.bx) t = _
        rw [lookB_keepBx, if_pos hk, g1]
      · cases hq
    · split at hq
      · exact ho.f.lt t q hq
      · cases hq
    · split at h1
      · split at h2
        · exact ho.f.inj t t' q h1 h2
        · cases h2
      · cases h1
    · split at h1
      · exact ho.f.off t q b e h1 h2
      · cases h1
  · intro t q hq
    split at hq
    · exact ho.own t q hq
    · cases hq

theorem rounds_some {body : St → Option (Ex × St)} {σ : St} {p : Ex × St} {c : Code} {id : Nat} (h : loopD c id body σ = some p) : ∃ n, rounds body n σ = some p := by
  unfold loopD LimO at h
  split at h
  · rename_i hx
    injection h with h
    obtain ⟨n, hn⟩ := Classical.choose_spec hx
    exact ⟨n, by have := hn n (Nat.le_refl _); rw [← h]; exact this⟩
  · cases h

theorem exec_sound (hX : X.ty = tyOf P) (hE : ∀ t, X.cmp t = true → EqOk P t) (hC : SC P X.call) (hD : DrawOk P X.narrow) (hm : m ≤ nt) : ∀ (c : Code) {R : Type} {r : R} (id : Nat) (σ : St) (k : Ex → St → Option R) (ρ : Rho) (β : Bet) (a : Act) (w : World),
    dstOk m c = true → exec X lo c id σ k = some r → Ok lo base nt ρ β σ a w → c.wp P (Post lo base nt k r ρ σ.h w) a w
  | .skip, R, r, id, σ, k, ρ, β, a, w, hd, hk, ho => wp_skip ⟨.normal, σ, ρ, β, hk, rfl, ho, Ext.refl _ _ _ _ _⟩
  | .region rid ops draw, R, r, id, σ, k, ρ, β, a, w, hd, hk, ho => by
    simp only [exec] at hk
    simp only [dstOk] at hd
    split at hk
    · refine wp_region ?_
      have := ops_seq (Q := Post lo base nt k r ρ σ.h w) hX hE hC (dstsOk_spec hd hm) ops.toList 0 σ ρ β a w rfl hk ho fun σ' ρ' β' a' w' h1 h2 h3 => ⟨.normal, σ', ρ', β', h1, rfl, h2, h3⟩
      rw [List.range_eq_range']
      simpa using this
    · split at hk
      · rename_i hdo
        obtain ⟨bx, hbx, hk⟩ := eO_some hk
        exact hD (dstsOk_spec hd hm) hdo hbx hk ho fun σ' ρ' β' a' w' h1 h2 h3 => ⟨.normal, σ', ρ', β', h1, rfl, h2, h3⟩
      · cases hk
  | .seq x y, R, r, id, σ, k, ρ, β, a, w, hd, hk, ho => by
    simp only [exec] at hk
    simp only [dstOk, Bool.and_eq_true] at hd
    refine wp_seq (wp_mono (exec_sound hX hE hC hD hm x id σ _ ρ β a w hd.1 hk ho) ?_)
    rintro e a' w' ⟨e', σ', ρ', β', h1, rfl, h3, h4⟩
    cases e' with
    | normal =>
      simp only [kSeq] at h1
      refine wp_mono (exec_sound hX hE hC hD hm y id σ' k ρ' β' a' w' hd.2 h1 h3) ?_
      rintro e a'' w'' ⟨e', σ'', ρ'', β'', g1, g2, g3, g4⟩
      exact ⟨e', σ'', ρ'', β'', g1, g2, g3, h4.trans g4⟩
    | exit j => exact ⟨_, σ', ρ', β', h1, rfl, h3, h4⟩
    | ret => exact ⟨_, σ', ρ', β', h1, rfl, h3, h4⟩
  | .cond c x y, R, r, id, σ, k, ρ, β, a, w, hd, hk, ho => by
    simp only [exec] at hk
    simp only [dstOk, Bool.and_eq_true] at hd
    obtain ⟨b, hb, hk1⟩ := eBv_some hk
    have hc := ev_bool ho.s hb
    rcases br_some hk1 with ⟨rfl, hk2⟩ | ⟨rfl, hk2⟩
    · exact wp_cond_true hc (exec_sound hX hE hC hD hm x id σ k ρ β a w hd.1 hk2 ho)
    · exact wp_cond_false hc (exec_sound hX hE hC hD hm y id σ k ρ β a w hd.2 hk2 ho)
  | .block j x, R, r, id, σ, k, ρ, β, a, w, hd, hk, ho => by
    simp only [exec] at hk
    simp only [dstOk] at hd
    refine wp_block (wp_mono (exec_sound hX hE hC hD hm x j σ _ ρ β a w hd hk ho) ?_)
    rintro e a' w' ⟨e', σ', ρ', β', h1, rfl, h3, h4⟩
    cases e' with
    | normal => exact ⟨.normal, σ', ρ', β', h1, rfl, h3, h4⟩
    | exit i =>
      simp only [kBlock] at h1
      simp only [exitOf, Exit.inBlock]
      split at h1
      · rename_i hb
        have hb := Nat.eq_of_beq_eq_true hb
        rw [if_pos hb]
        exact ⟨.normal, σ', ρ', β', h1, rfl, h3, h4⟩
      · rename_i hb
        rw [if_neg (fun h => by subst h; simp at hb)]
        exact ⟨.exit i, σ', ρ', β', h1, rfl, h3, h4⟩
    | ret => exact ⟨.ret, σ', ρ', β', h1, rfl, h3, h4⟩
  | .loop x, R, r, id, σ, k, ρ, β, a, w, hd, hk, ho => by
    simp only [exec] at hk
    simp only [dstOk] at hd
    unfold lup at hk
    split at hk
    · rename_i e σ' hl
      obtain ⟨n, hn⟩ := rounds_some hl
      obtain ⟨β0, ho0⟩ := ho.norm (X := X) id
      intro b kk cs
      have key : ∀ (n : Nat) (σ0 : St) (ρ0 : Rho) (β0 : Bet) (a0 : Act) (w0 : World), rounds (fun σ => exec X lo x id σ (kPair X id)) n σ0 = some (e, σ') → Ok lo base nt ρ0 β0 σ0 a0 w0 → Ext lo base ρ σ.h w ρ0 σ0.h w0 →
          ∃ e' a' w', Post lo base nt k r ρ σ.h w e' a' w' ∧ Arrives P (lone (b.at a0 (.code x :: .inLoop x :: kk)) cs w0) b kk cs e' a' w' := by
        intro n
        induction n with
        | zero => intro σ0 ρ0 β0 a0 w0 hn; cases hn
        | succ n ih =>
          intro σ0 ρ0 β0 a0 w0 hn ho hx
          simp only [rounds] at hn
          cases hb : exec X lo x id σ0 (kPair X id) with
          | none => rw [hb] at hn; cases hn
          | some p =>
            rw [hb] at hn
            simp only [Option.bind_some] at hn
            obtain ⟨e1, a1, w1, hq, harr⟩ := exec_sound hX hE hC hD hm x id σ0 (kPair X id) ρ0 β0 a0 w0 hd hb ho b (.inLoop x :: kk) cs
            obtain ⟨e', σ1, ρ1, β1, h1, h2, h3, h4⟩ := hq
            simp only [kPair, Option.some.injEq] at h1
            obtain ⟨β1', h3'⟩ := h3.norm (X := X) id
            have hx1 : Ext lo base ρ σ.h w ρ1 (norm X id σ1).h w1 := hx.trans h4
            subst h1
            subst h2
            cases e' with
            | normal =>
              simp only at hn
              obtain ⟨e2, a2, w2, g1, g2⟩ := ih _ _ _ _ _ hn h3' hx1
              exact ⟨e2, a2, w2, g1, .of_steps (Steps.trans harr (.one step_inLoop)) g2⟩
            | exit j =>
              simp only [Option.some.injEq, Prod.mk.injEq] at hn
              obtain ⟨rfl, rfl⟩ := hn
              exact ⟨_, a1, w1, ⟨_, _, ρ1, β1', hk, rfl, h3', hx1⟩, .pass (x := .inLoop x) rfl (fun _ _ => .inl (by simp [exitOf])) harr⟩
            | ret =>
              simp only [Option.some.injEq, Prod.mk.injEq] at hn
              obtain ⟨rfl, rfl⟩ := hn
              exact ⟨_, a1, w1, ⟨_, _, ρ1, β1', hk, rfl, h3', hx1⟩, .pass (x := .inLoop x) rfl (fun _ _ => .inl (by simp [exitOf])) harr⟩
      obtain ⟨e', a', w', hq, harr⟩ := key n _ ρ β0 a w hn ho0 (Ext.refl _ _ _ _ _)
      exact ⟨e', a', w', hq, .of_steps (.one step_loop) harr⟩
    · cases hk
  | .exit j, R, r, id, σ, k, ρ, β, a, w, hd, hk, ho => wp_exit ⟨.exit j, σ, ρ, β, hk, rfl, ho, Ext.refl _ _ _ _ _⟩
  | .ret, R, r, id, σ, k, ρ, β, a, w, hd, hk, ho => wp_ret ⟨.ret, σ, ρ, β, hk, rfl, ho, Ext.refl _ _ _ _ _⟩
  | .rangeFunc .., R, r, id, σ, k, ρ, β, a, w, hd, hk, ho => by simp [exec] at hk
  | .scope .., R, r, id, σ, k, ρ, β, a, w, hd, hk, ho => by simp [exec] at hk
  | .label .., R, r, id, σ, k, ρ, β, a, w, hd, hk, ho => by simp [exec] at hk
  | .goto .., R, r, id, σ, k, ρ, β, a, w, hd, hk, ho => by simp [exec] at hk
  | .refuse .., R, r, id, σ, k, ρ, β, a, w, hd, hk, ho => by simp [exec] at hk
end
end Go.Proofs.YtfbhdjkeofleiaaDoor.T
