/- Loops as equations: a loop and what comes behind it, one round further. -/
import Derived.Test.YtfbhdjkeofleiaaDoorTeeZ
namespace Go.Proofs.YtfbhdjkeofleiaaDoor.T
open Go
set_option linter.unusedVariables false
set_option linter.unusedSimpArgs false
set_option linter.unnecessarySimpa false

section
variable {R S : Type} {g : R → Option S}
theorem guardT_bind {all : List Oper} {s : List (Nat × V)} {q : Option (Nat × Bool)} {x y : Option R} : (guardT all s q x y).bind g = guardT all s q (x.bind g) (y.bind g) := by
  unfold guardT
  split
  · rfl
  · split
    · rfl
    · split
      · rfl
      · split
        · split <;> exact br_bind
        · rfl
        · rfl
theorem opsT_bind {X : Ctx} {lo : Nat} {all : List Oper} {calm al : Nat → Bool} {ck : Nat → List Oper} {k : St → Option R} : ∀ (rest : List Oper) (i : Nat) (σ : St), (opsT X lo all calm ck al i rest σ k).bind g = opsT X lo all calm ck al i rest σ fun σ => (k σ).bind g
  | [], i, σ => rfl
  | o :: r, i, σ => by
    simp only [opsT]
    split
    · exact opsT_bind r _ _
    rw [guardT_bind, opsT_bind r]
    congr 1
    split
    · rw [opT_bind]; congr 1; funext v σ; exact opsT_bind r _ _
    · rw [opT_bind]; congr 1; funext v σ; rw [chkT_bind]; congr 1; exact opsT_bind r _ _
end
theorem exec_bind {X : Ctx} {lo : Nat} : ∀ (c : Code) {R S : Type} {g : R → Option S} {k : Ex → St → Option R} (id : Nat) (σ : St), (exec X lo c id σ k).bind g = exec X lo c id σ fun e σ => (k e σ).bind g
  | .skip, R, S, g, k, id, σ => rfl
  | .region i ops draw, R, S, g, k, id, σ => by
    simp only [exec]
    split
    · exact opsT_bind _ _ _
    · split
      · rw [eO_bind]
        congr 1
        funext bx
        rw [opsT_bind]
        congr 1
        funext σ
        split <;> rfl
      · rfl
  | .seq a b, R, S, g, k, id, σ => by
    simp only [exec]
    rw [exec_bind a]
    congr 1
    funext e σ
    cases e with
    | normal => exact exec_bind b id σ
    | exit j => rfl
    | ret => rfl
  | .cond x a b, R, S, g, k, id, σ => by
    simp only [exec]
    rw [eBv_bind]
    congr 1
    funext t
    rw [br_bind, exec_bind a, exec_bind b]
  | .block j b, R, S, g, k, id, σ => by
    simp only [exec]
    rw [exec_bind b]
    congr 1
    funext e σ
    cases e with
    | normal => rfl
    | exit i => simp only [kBlock]; split <;> rfl
    | ret => rfl
  | .loop b, R, S, g, k, id, σ => by
    simp only [exec]
    generalize loopD b id (fun σ => exec X lo b id σ (kPair X id)) (norm X id σ) = o
    cases o <;> rfl
  | .exit j, R, S, g, k, id, σ => rfl
  | .ret, R, S, g, k, id, σ => rfl
  | .goto _, R, S, g, k, id, σ => rfl
  | .label _, R, S, g, k, id, σ => rfl
  | .scope _, R, S, g, k, id, σ => rfl
  | .rangeFunc _ _ _ _, R, S, g, k, id, σ => rfl
  | .refuse _, R, S, g, k, id, σ => rfl

/-- Behind a round: the next one; or what comes behind the loop. -/
noncomputable def kLp {R : Type} (X : Ctx) (lo : Nat) (c : Code) (id : Nat) (K : Ex → St → Option R) : Ex → St → Option R
  | .normal, σ => lup (loopD c id (fun σ => exec X lo c id σ (kPair X id)) (norm X id σ)) K
  | .exit j, σ => K (.exit j) (norm X id σ)
  | .ret, σ => K .ret (norm X id σ)

theorem LimO_shift {α : Type} {g : Nat → Option α} : LimO (fun n => g (n + 1)) = LimO g := by
  cases h : LimO g with
  | some r =>
    obtain ⟨n, hn⟩ := LimO_some h
    exact LimO_of (n := n) fun m hm => hn (m + 1) (by omega)
  | none =>
    cases h' : LimO (fun n => g (n + 1)) with
    | none => rfl
    | some r =>
      obtain ⟨n, hn⟩ := LimO_some h'
      have : LimO g = some r := LimO_of (n := n + 1) fun m hm => by
        have := hn (m - 1) (by omega)
        rwa [show m - 1 + 1 = m by omega] at this
      rw [h] at this; cases this
theorem LimO_const {α : Type} {o : Option α} : LimO (fun _ => o) = o := by
  cases o with
  | some r => exact LimO_of (n := 0) fun _ _ => rfl
  | none =>
    cases h : LimO (fun _ : Nat => (none : Option α)) with
    | none => rfl
    | some r => obtain ⟨n, hn⟩ := LimO_some h; have := hn n (Nat.le_refl _); cases this

theorem loopD_eq {c : Code} {id : Nat} {body : St → Option (Ex × St)} {σ : St} : loopD c id body σ = (body σ).bind fun p => match p.1 with | .normal => loopD c id body p.2 | e => some (e, p.2) := by
  have h1 : loopD c id body σ = LimO fun n => rounds body (n + 1) σ := (LimO_shift (g := fun n => rounds body n σ)).symm
  rw [h1]
  cases hb : body σ with
  | none =>
    have : (fun n => rounds body (n + 1) σ) = fun _ => none := by funext n; simp only [rounds, hb]; rfl
    rw [this, LimO_const]; rfl
  | some p =>
    obtain ⟨e, σ'⟩ := p
    cases e with
    | normal =>
      have : (fun n => rounds body (n + 1) σ) = fun n => rounds body n σ' := by funext n; simp only [rounds, hb]; rfl
      rw [this]; rfl
    | exit j =>
      have : (fun n => rounds body (n + 1) σ) = fun _ => some (.exit j, σ') := by funext n; simp only [rounds, hb]; rfl
      rw [this, LimO_const]; rfl
    | ret =>
      have : (fun n => rounds body (n + 1) σ) = fun _ => some (.ret, σ') := by funext n; simp only [rounds, hb]; rfl
      rw [this, LimO_const]; rfl

/-- A loop and what comes behind it: a round, and the same again. -/
theorem lup_eq {R : Type} {X : Ctx} {lo : Nat} {c : Code} {id : Nat} {σ : St} {K : Ex → St → Option R} :
    lup (loopD c id (fun σ => exec X lo c id σ (kPair X id)) σ) K = exec X lo c id σ (kLp X lo c id K) := by
  have h1 : ∀ o : Option (Ex × St), lup o K = o.bind fun p => K p.1 p.2 := fun o => by cases o <;> rfl
  rw [loopD_eq, h1, Option.bind_assoc]
  rw [exec_bind c]
  congr 1
  funext e σ'
  cases e with
  | normal => exact (h1 _).symm
  | exit j => rfl
  | ret => rfl

/-- A loop and what comes behind it. -/
noncomputable def Lp {R : Type} (X : Ctx) (lo : Nat) (c : Code) (id : Nat) (K : Ex → St → Option R) (σ : St) : Option R := lup (loopD c id (fun σ => exec X lo c id σ (kPair X id)) σ) K
theorem Lp_eq {R : Type} {X : Ctx} {lo : Nat} {c : Code} {id : Nat} {σ : St} {K : Ex → St → Option R} : Lp X lo c id K σ = exec X lo c id σ (kLp X lo c id K) := lup_eq

/-! ### a function's answer -/
theorem eval_keep {P : Program} {I : Info} {lo : Nat} {f : FuncId} {fn : Func} {args : List V} {h : Heap} (hf : P.funcs[f]? = some fn) (hd : I.drop f = false) {p : V × Heap} (hk : fnT I fn (eval P I) lo f args h = some p) : eval P I lo f args h = some p :=
  eval_of hf (by rw [hd]; exact hk) (by rw [hd]; rfl)
theorem eval_drop {P : Program} {I : Info} {lo : Nat} {f : FuncId} {fn : Func} {args : List V} {h h' : Heap} {v : V} (hf : P.funcs[f]? = some fn) (hd : I.drop f = true) (hk : fnT I fn (eval P I) h.length f args h = some (v, h')) (hn : noId v = true) : eval P I lo f args h = some (v, h) :=
  eval_of hf (by rw [hd]; exact hk) (by rw [hd]; simp only [dropT, hn])
end Go.Proofs.YtfbhdjkeofleiaaDoor.T
