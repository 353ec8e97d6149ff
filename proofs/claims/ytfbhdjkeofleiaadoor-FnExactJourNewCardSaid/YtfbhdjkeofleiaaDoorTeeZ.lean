/- A function's answer is its code's, its own calls answered so: T as one equation. Loops by their rounds. -/
import Derived.Test.YtfbhdjkeofleiaaDoorTeeY
namespace Go.Proofs.YtfbhdjkeofleiaaDoor.T
open Go
set_option linter.unusedVariables false
set_option linter.unusedSimpArgs false
set_option linter.unnecessarySimpa false

/-- what the whole says, all late stages say -/
def Sup {R : Type} (a : Option R) (A : Nat → Option R) : Prop := ∀ r, a = some r → ∃ n, ∀ m, n ≤ m → A m = some r
section
variable {R S : Type}
theorem Sup.const (a : Option R) : Sup a fun _ => a := fun r h => ⟨0, fun _ _ => h⟩
theorem Sup.none (A : Nat → Option R) : Sup none A := fun r h => by cases h
theorem Sup.bind {a : Option R} {A : Nat → Option R} {f : R → Option S} {F : Nat → R → Option S} (h : Sup a A) (hf : ∀ x, Sup (f x) fun m => F m x) : Sup (a.bind f) fun m => (A m).bind (F m) := fun r hr => by
  cases a with
  | none => cases hr
  | some x =>
    obtain ⟨n1, h1⟩ := h x rfl
    obtain ⟨n2, h2⟩ := hf x r hr
    refine ⟨n1 + n2, fun m hm => ?_⟩
    show (A m).bind (F m) = some r
    rw [h1 m (by omega)]
    exact h2 m (by omega)
theorem Sup.br {b : Bool} {x y : Option R} {X Y : Nat → Option R} (hx : Sup x X) (hy : Sup y Y) : Sup (br b x y) fun m => br b (X m) (Y m) := by
  cases b
  · exact hy
  · exact hx
theorem Sup.eBv {v : V} {f : Bool → Option R} {F : Nat → Bool → Option R} (h : ∀ b, Sup (f b) fun m => F m b) : Sup (eBv v f) fun m => eBv v (F m) := by
  unfold T.eBv
  split
  · exact h _
  · exact Sup.none _
theorem Sup.guard {all : List Oper} {s : List (Nat × V)} {g : Option (Nat × Bool)} {x y : Option R} {X Y : Nat → Option R} (hx : Sup x X) (hy : Sup y Y) : Sup (guardT all s g x y) fun m => guardT all s g (X m) (Y m) := by
  unfold guardT
  split
  · exact hx
  · split
    · exact Sup.none _
    · split
      · exact Sup.none _
      · split
        · split
          · exact Sup.br hx hy
          · exact Sup.br hy hx
        · exact hy
        · exact Sup.none _
end

/-! ### loops -/
theorem rounds_mono {body : St → Option (Ex × St)} : ∀ {n m : Nat} {σ : St} {p : Ex × St}, rounds body n σ = some p → n ≤ m → rounds body m σ = some p
  | 0, m, σ, p, h, _ => by simp [rounds] at h
  | n + 1, m, σ, p, h, hm => by
    obtain ⟨m, rfl⟩ : ∃ k, m = k + 1 := ⟨m - 1, by omega⟩
    simp only [rounds] at h ⊢
    cases hb : body σ with
    | none => rw [hb] at h; cases h
    | some q =>
      rw [hb] at h
      simp only [Option.bind_some] at h ⊢
      split at h
      · exact rounds_mono h (by omega)
      · exact h
theorem LimO_of {α : Type} {g : Nat → Option α} {r : α} {n : Nat} (h : ∀ m, n ≤ m → g m = some r) : LimO g = some r := by
  unfold LimO
  have hx : ∃ r, ∃ n, ∀ m, n ≤ m → g m = some r := ⟨r, n, h⟩
  rw [dif_pos hx]
  obtain ⟨k, hk⟩ := Classical.choose_spec hx
  have h1 := hk (n + k) (by omega)
  have h2 := h (n + k) (by omega)
  rw [h1] at h2
  exact h2
theorem LimO_some {α : Type} {g : Nat → Option α} {r : α} (h : LimO g = some r) : ∃ n, ∀ m, n ≤ m → g m = some r := by
  unfold LimO at h
  split at h
  · rename_i hx
    injection h with h
    obtain ⟨n, hn⟩ := Classical.choose_spec hx
    exact ⟨n, fun m hm => by have := hn m hm; rw [← h]; exact this⟩
  · cases h
theorem loopD_of {c : Code} {id : Nat} {body : St → Option (Ex × St)} {σ : St} {n : Nat} {p : Ex × St} (h : rounds body n σ = some p) : loopD c id body σ = some p :=
  LimO_of (n := n) fun _ hm => rounds_mono h hm
theorem loopD_some {c : Code} {id : Nat} {body : St → Option (Ex × St)} {σ : St} {p : Ex × St} (h : loopD c id body σ = some p) : ∃ n, rounds body n σ = some p := by
  obtain ⟨n, hn⟩ := LimO_some h
  exact ⟨n, hn n (Nat.le_refl _)⟩
/-- one more round -/
theorem loopD_next {c : Code} {id : Nat} {body : St → Option (Ex × St)} {σ σ' : St} {p : Ex × St} (h : body σ = some (.normal, σ')) (hl : loopD c id body σ' = some p) : loopD c id body σ = some p := by
  obtain ⟨n, hn⟩ := loopD_some hl
  refine loopD_of (n := n + 1) ?_
  simp only [rounds, h, Option.bind_some]
  exact hn
/-- the last round -/
theorem loopD_exit {c : Code} {id : Nat} {body : St → Option (Ex × St)} {σ σ' : St} {j : Nat} (h : body σ = some (.exit j, σ')) : loopD c id body σ = some (.exit j, σ') :=
  loopD_of (n := 1) (by simp [rounds, h])
theorem loopD_ret {c : Code} {id : Nat} {body : St → Option (Ex × St)} {σ σ' : St} (h : body σ = some (.ret, σ')) : loopD c id body σ = some (.ret, σ') :=
  loopD_of (n := 1) (by simp [rounds, h])

theorem Sup.rounds {body : St → Option (Ex × St)} {B : Nat → St → Option (Ex × St)} (h : ∀ σ, Sup (body σ) fun m => B m σ) : ∀ (n : Nat) (σ : St), Sup (rounds body n σ) fun m => rounds (B m) n σ
  | 0, σ => Sup.none _
  | n + 1, σ => by
    simp only [T.rounds]
    refine Sup.bind (h σ) fun p => ?_
    obtain ⟨e, σ'⟩ := p
    cases e with
    | normal => exact Sup.rounds h n σ'
    | exit j => exact Sup.const _
    | ret => exact Sup.const _
theorem Sup.loop {c : Code} {id : Nat} {body : St → Option (Ex × St)} {B : Nat → St → Option (Ex × St)} (h : ∀ σ, Sup (body σ) fun m => B m σ) (σ : St) : Sup (loopD c id body σ) fun m => loopD c id (B m) σ := fun r hr => by
  obtain ⟨n, hn⟩ := loopD_some hr
  obtain ⟨k, hk⟩ := Sup.rounds h n σ r hn
  exact ⟨k, fun m hm => loopD_of (hk m hm)⟩

/-! ### code, its calls in stages -/
section
variable {X : Ctx} {A : Nat → CallT} (hA : ∀ lo f args h, Sup (X.call lo f args h) fun m => A m lo f args h)

/-- the same, other calls -/
def Ctx.at (X : Ctx) (c : CallT) : Ctx := ⟨X.ty, X.cmp, X.ret, c, X.keep, X.hb, X.cl, X.wide⟩

theorem lay_at (c : CallT) {fs : List (Nat × TypeId)} : structLay (X.at c) fs = structLay X fs := rfl
theorem known_at (c : CallT) : ∀ (fs : List (Nat × TypeId)), allKnown (X.at c) fs = allKnown X fs
  | [] => rfl
  | f :: fs => by
    have := known_at c fs
    simp only [allKnown]
    rw [this]; rfl

include hA in
theorem Sup.step {lo : Nat} {d : Option Nat} {ty : TypeId} {o : Op} {σ : St} : Sup (stepOp X lo d ty o σ) fun m => stepOp (X.at (A m)) lo d ty o σ := by
  have same : (∀ m, stepOp (X.at (A m)) lo d ty o σ = stepOp X lo d ty o σ) → Sup (stepOp X lo d ty o σ) fun m => stepOp (X.at (A m)) lo d ty o σ := fun h r hr => ⟨0, fun m _ => (h m).trans hr⟩
  cases o
  case call c =>
    unfold stepOp
    simp only [opT]
    split
    · split
      · rename_i f hf
        split
        · rename_i g cs _
          have h1 := hA lo g (fnArgs (evs σ.s c.args.toList) cs) σ.h
          intro r hr
          cases hc : X.call lo g (fnArgs (evs σ.s c.args.toList) cs) σ.h with
          | none => rw [hc] at hr; cases hr
          | some p =>
            obtain ⟨n, hn⟩ := h1 p hc
            refine ⟨n, fun m hm => ?_⟩
            rw [hc] at hr
            have h2 : A m lo g (fnArgs (evs σ.s c.args.toList) cs) σ.h = some p := hn m hm
            show cal (A m lo g (fnArgs (evs σ.s c.args.toList) cs) σ.h) _ = some r
            rw [h2]
            exact hr
        · exact Sup.none _
      · rename_i b hb
        intro r hr
        refine ⟨0, fun m _ => ?_⟩
        refine Eq.trans ?_ hr
        cases b <;> rfl
      · exact Sup.none _
    · exact Sup.none _
  case build t ps =>
    refine same fun m => ?_
    unfold stepOp
    simp only [opT, known_at]
    rfl
  all_goals exact same fun m => rfl

variable {R : Type}
include hA in
theorem Sup.opT {lo : Nat} {d : Option Nat} {ty : TypeId} {o : Op} {σ : St} {k : V → St → Option R} {K : Nat → V → St → Option R} (hk : ∀ v σ, Sup (k v σ) fun m => K m v σ) : Sup (T.opT X lo d ty o σ k) fun m => T.opT (X.at (A m)) lo d ty o σ (K m) := by
  rw [opT_step]
  have : (fun m => T.opT (X.at (A m)) lo d ty o σ (K m)) = fun m => (stepOp (X.at (A m)) lo d ty o σ).bind fun p => K m p.1 p.2 := by funext m; exact opT_step
  rw [this]
  exact Sup.bind (Sup.step hA) fun p => hk p.1 p.2

omit hA in
theorem chkT_at {o : Oper} {σ σ' : St} {c : CallT} : ∀ {l : List Oper} {k : Option R}, T.chkT (X.at c) o σ σ' l k = T.chkT X o σ σ' l k
  | [], k => rfl
  | p :: l, k => by simp only [T.chkT, chkT_at (l := l), show (X.at c).ty = X.ty from rfl]
omit hA in
theorem Sup.chkT {o : Oper} {σ σ' : St} {l : List Oper} {k : Option R} {K : Nat → Option R} (hk : Sup k K) : Sup (T.chkT X o σ σ' l k) fun m => T.chkT (X.at (A m)) o σ σ' l (K m) := by
  have h1 : ∀ k : Option R, T.chkT X o σ σ' l k = (T.chkT X o σ σ' l (some ())).bind fun _ => k := fun k => by rw [chkT_bind]; rfl
  have h2 : (fun m => T.chkT (X.at (A m)) o σ σ' l (K m)) = fun m => (T.chkT X o σ σ' l (some ())).bind fun _ => K m := by funext m; rw [chkT_at, h1]
  rw [h2, h1]
  cases T.chkT X o σ σ' l (some ()) with
  | none => exact Sup.none _
  | some _ => exact hk

omit hA in
theorem boxesOf_at {c : CallT} {cl : Nat → Bool} : ∀ {l : List Oper} {i : Nat} {bx : List (Nat × List V)}, boxesOf (X.at c) cl i l bx = boxesOf X cl i l bx
  | [], i, bx => rfl
  | p :: l, i, bx => by
    simp only [boxesOf, show (X.at c).ty = X.ty from rfl, show (X.at c).hb = X.hb from rfl]
    split
    · exact boxesOf_at
    · split
      · exact boxesOf_at
      · rfl
include hA in
theorem Sup.opsT {lo : Nat} {all : List Oper} {calm al : Nat → Bool} {ck : Nat → List Oper} {k : St → Option R} {K : Nat → St → Option R} (hk : ∀ σ, Sup (k σ) fun m => K m σ) :
    ∀ (rest : List Oper) (i : Nat) (σ : St), Sup (T.opsT X lo all calm ck al i rest σ k) fun m => T.opsT (X.at (A m)) lo all calm ck al i rest σ (K m)
  | [], i, σ => by simp only [T.opsT]; exact hk σ
  | o :: r, i, σ => by
    simp only [T.opsT]
    split
    · exact Sup.opsT hk r _ _
    refine Sup.guard ?_ (Sup.opsT hk r _ _)
    split
    · exact Sup.opT hA fun v σ => Sup.opsT hk r _ _
    · exact Sup.opT hA fun v σ => Sup.chkT (Sup.opsT hk r _ _)

include hA in
theorem Sup.exec {lo : Nat} : ∀ (c : Code) {R : Type} {k : Ex → St → Option R} {K : Nat → Ex → St → Option R} (id : Nat) (σ : St), (∀ e σ, Sup (k e σ) fun m => K m e σ) → Sup (T.exec X lo c id σ k) fun m => T.exec (X.at (A m)) lo c id σ (K m)
  | .skip, R, k, K, id, σ, hk => by simp only [T.exec]; exact hk _ _
  | .region i ops draw, R, k, K, id, σ, hk => by
    simp only [T.exec, show ∀ c : CallT, (X.at c).cl = X.cl from fun _ => rfl]
    split
    · exact Sup.opsT hA (fun σ => hk _ _) _ _ _
    · split
      · simp only [show ∀ c : CallT, (X.at c).narrow = X.narrow.at c from fun _ => rfl, boxesOf_at]
        cases boxesOf X.narrow (clOf X.cl i) 0 ops.toList σ.bx with
        | none => exact Sup.none _
        | some bx =>
        refine Sup.opsT (X := X.narrow) (K := fun m σ => match endOk σ.s (aheadL [] ops.toList) ops.toList (clOf X.cl i) with | true => K m .normal σ | false => Option.none) hA (fun σ => ?_) _ _ _
        cases he : endOk σ.s (aheadL [] ops.toList) ops.toList (clOf X.cl i) with
        | true => exact hk _ _
        | false => exact Sup.none _
      · exact Sup.none _
  | .seq a b, R, k, K, id, σ, hk => by
    simp only [T.exec]
    refine Sup.exec a id σ fun e σ => ?_
    cases e with
    | normal => exact Sup.exec b id σ hk
    | exit j => exact hk _ _
    | ret => exact hk _ _
  | .cond x a b, R, k, K, id, σ, hk => by
    simp only [T.exec]
    exact Sup.eBv fun t => Sup.br (Sup.exec a id σ hk) (Sup.exec b id σ hk)
  | .block j b, R, k, K, id, σ, hk => by
    simp only [T.exec]
    refine Sup.exec b j σ fun e σ => ?_
    cases e with
    | normal => exact hk _ _
    | exit i =>
      simp only [kBlock]
      split
      · exact hk _ _
      · exact hk _ _
    | ret => exact hk _ _
  | .loop b, R, k, K, id, σ, hk => by
    simp only [T.exec]
    have hb : ∀ σ, Sup (T.exec X lo b id σ (kPair X id)) fun m => T.exec (X.at (A m)) lo b id σ (kPair (X.at (A m)) id) := fun σ => Sup.exec b id σ fun e σ => Sup.const _
    intro r hr
    cases hl : loopD b id (fun σ => T.exec X lo b id σ (kPair X id)) (norm X id σ) with
    | none => rw [hl] at hr; cases hr
    | some p =>
      rw [hl] at hr
      obtain ⟨e, σ'⟩ := p
      obtain ⟨n1, h1⟩ := Sup.loop (c := b) (id := id) hb (norm X id σ) _ hl
      obtain ⟨n2, h2⟩ := hk e σ' r hr
      refine ⟨n1 + n2, fun m hm => ?_⟩
      have h3 : loopD b id (fun σ => T.exec (X.at (A m)) lo b id σ (kPair (X.at (A m)) id)) (norm X id σ) = some (e, σ') := h1 m (by omega)
      show lup (loopD b id (fun σ => T.exec (X.at (A m)) lo b id σ (kPair (X.at (A m)) id)) (norm X id σ)) (K m) = some r
      rw [h3]
      exact h2 m (by omega)
  | .exit j, R, k, K, id, σ, hk => by simp only [T.exec]; exact hk _ _
  | .ret, R, k, K, id, σ, hk => by simp only [T.exec]; exact hk _ _
  | .goto _, R, k, K, id, σ, hk => by simp only [T.exec]; exact Sup.none _
  | .label _, R, k, K, id, σ, hk => by simp only [T.exec]; exact Sup.none _
  | .scope _, R, k, K, id, σ, hk => by simp only [T.exec]; exact Sup.none _
  | .rangeFunc _ _ _ _, R, k, K, id, σ, hk => by simp only [T.exec]; exact Sup.none _
  | .refuse _, R, k, K, id, σ, hk => by simp only [T.exec]; exact Sup.none _
end

theorem resTs_at {X : Ctx} {c : CallT} {σ : St} : ∀ {rs : List ResultVar}, resTs (X.at c) σ rs = resTs X σ rs
  | [] => rfl
  | r :: rs => by
    simp only [resTs]
    rw [resTs_at (rs := rs)]
    have : resT1 (X.at c) σ r = resT1 X σ r := by cases r <;> rfl
    rw [this]
theorem resT_at {X : Ctx} {c : CallT} {σ : St} {rs : List ResultVar} : resT (X.at c) rs σ = resT X rs σ := by unfold resT; rw [resTs_at]
theorem Sup.fnT {I : Info} {fn : Func} {call : CallT} {A : Nat → CallT} (hA : ∀ lo f args h, Sup (call lo f args h) fun m => A m lo f args h) {lo : Nat} {f : FuncId} {args : List V} {h : Heap} : Sup (fnT I fn call lo f args h) fun m => fnT I fn (A m) lo f args h := by
  unfold T.fnT
  split
  · exact Sup.none _
  · refine Sup.exec (X := I.ctx call f) hA _ _ _ fun e σ => ?_
    cases e with
    | normal => exact fun r hr => ⟨0, fun m _ => (resT_at (X := I.ctx call f) (c := A m)).trans hr⟩
    | ret => exact fun r hr => ⟨0, fun m _ => (resT_at (X := I.ctx call f) (c := A m)).trans hr⟩
    | exit j => exact Sup.none _

/-- A call of T: its function's code, whose own calls are T's. -/
theorem eval_of {P : Program} {I : Info} {lo : Nat} {f : FuncId} {fn : Func} {args : List V} {h : Heap} {p q : V × Heap} (hf : P.funcs[f]? = some fn) (hk : fnT I fn (eval P I) (loT (I.drop f) lo h) f args h = some p) (hd : dropT (I.drop f) h p = some q) :
    eval P I lo f args h = some q := by
  have hA : ∀ lo f args h, Sup (eval P I lo f args h) fun m => evalN P I m lo f args h := fun lo f args h r hr => LimO_some hr
  obtain ⟨n, hn⟩ := Sup.fnT (I := I) (fn := fn) hA p hk
  refine LimO_of (n := n + 1) fun m hm => ?_
  obtain ⟨m, rfl⟩ : ∃ k, m = k + 1 := ⟨m - 1, by omega⟩
  simp only [evalN, hf]
  have h2 : fnT I fn (evalN P I m) (loT (I.drop f) lo h) f args h = some p := hn m (by omega)
  rw [h2]
  exact hd
end Go.Proofs.YtfbhdjkeofleiaaDoor.T
