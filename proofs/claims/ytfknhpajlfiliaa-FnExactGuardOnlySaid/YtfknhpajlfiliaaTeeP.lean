/- What a step of T reads and writes. -/
import Derived.Test.YtfknhpajlfiliaaTeeO
namespace Go.Proofs.Ytfknhpajlfiliaa.T
open Go
set_option linter.unusedVariables false
set_option linter.unusedSimpArgs false
set_option linter.unnecessarySimpa false

section
variable {R : Type} {X : Ctx} {lo lo' : Nat} {d : Option Nat} {ty : TypeId} {o : Op} {s s' : List (Nat × V)} {bx bx' : List (Nat × List V)} {h h' : Heap} {K : V → St → Option R}

theorem evs_congr : ∀ {xs : List Operand}, (∀ x ∈ xs, ev s' x = ev s x) → evs s' xs = evs s xs
  | [], _ => rfl
  | x :: xs, hx => by simp only [evs]; rw [hx x (by simp), evs_congr fun y hy => hx y (by simp [hy])]
theorem evp_congr : ∀ {xs : List (Nat × Operand)}, (∀ x ∈ xs, ev s' x.2 = ev s x.2) → evp s' xs = evp s xs
  | [], _ => rfl
  | (i, x) :: xs, hx => by simp only [evp]; rw [hx (i, x) (by simp), evp_congr fun y hy => hx y (by simp [hy])]
theorem evo_congr {x : Option Operand} (hx : ∀ y ∈ x.toList, ev s' y = ev s y) : evo s' x = evo s x := by
  cases x with
  | none => rfl
  | some x => simp only [evo]; rw [hx x (by simp)]

/-- A step sees of the slots those of its operands alone. -/
theorem opT_slots (hx : ∀ x ∈ o.operands.toList, ev s' x = ev s x) : opT X lo d ty o ⟨s', bx, h⟩ K = opT X lo d ty o ⟨s, bx, h⟩ fun v σ => K v ⟨s', σ.bx, σ.h⟩ := by
  cases o <;> simp only [Op.operands] at hx <;> simp only [opT]
  case move x => rw [hx x (by simp)]
  case assign x => rw [hx x (by simp)]
  case pick c x y => rw [hx c (by simp), hx x (by simp), hx y (by simp)]
  case box e x => rw [hx x (by simp)]
  case build t ps => rw [evp_congr fun x hm => hx x.2 (by simp; exact ⟨x.1, by simpa using hm⟩)]
  case buildSlice t n ps => rw [evp_congr fun x hm => hx x.2 (by simp; exact ⟨x.1, by simpa using hm⟩)]
  case load t x => rw [hx x (by simp)]
  case store t x y => rw [hx x (by simp), hx y (by simp)]
  case nilCheck x => rw [hx x (by simp)]
  case binOp op t x y u => rw [hx x (by simp), hx y (by simp)]
  case unOp op t x => rw [hx x (by simp)]
  case convert u t x => rw [hx x (by simp)]
  case makeFunc f fs cs => rw [evs_congr (xs := cs.toList) fun x hm => hx x (by simp at hm ⊢; exact .inr hm)]
  case makeSlice t l c => rw [hx l (by simp), hx c (by simp)]
  case slice t x l hi m =>
    rw [hx x (by simp), evo_congr (x := l) fun y hy => hx y (by simp at hy ⊢; simp [hy]), evo_congr (x := hi) fun y hy => hx y (by simp at hy ⊢; simp [hy]), evo_congr (x := m) fun y hy => hx y (by simp at hy ⊢; simp [hy])]
  case fieldAddr t x f => rw [hx x (by simp)]
  case field t x f => rw [hx x (by simp)]
  case indexAddr t x i => rw [hx x (by simp), hx i (by simp)]
  case index t x i => rw [hx x (by simp), hx i (by simp)]
  case lookup t m i ok => rw [hx m (by simp), hx i (by simp)]
  case mapUpdate t m i x => rw [hx m (by simp), hx i (by simp), hx x (by simp)]
  case insert t m i x => rw [hx m (by simp), hx i (by simp), hx x (by simp)]
  case extract x i => rw [hx x (by simp)]
  case call c =>
    have h1 : evs s' c.args.toList = evs s c.args.toList := evs_congr fun x hm => hx x (by simp [Call.operands] at hm ⊢; simp [hm])
    rw [h1]
    split
    · split
      · rename_i f hc
        rw [hx f (by simp [Call.operands, hc])]
      · rfl
      · rfl
    · rfl

theorem stepOp_slots (hx : ∀ x ∈ o.operands.toList, ev s' x = ev s x) {v : V} {σ1 : St} (hs : stepOp X lo d ty o ⟨s, bx, h⟩ = some (v, σ1)) : stepOp X lo d ty o ⟨s', bx, h⟩ = some (v, ⟨s', σ1.bx, σ1.h⟩) := by
  unfold stepOp at hs ⊢
  rw [opT_slots hx, opT_step]
  unfold stepOp
  rw [hs]; rfl
theorem stepOp_s {v : V} {σ1 : St} (hs : stepOp X lo d ty o ⟨s, bx, h⟩ = some (v, σ1)) : σ1.s = s := by
  have := stepOp_slots (fun x _ => rfl) hs
  rw [hs] at this
  injection this with this; injection this with _ this
  rw [this]

/-- These touch the slots alone. -/
theorem opT_inert {o : Oper} (hi : inert o = true) : opT X lo d ty o.op ⟨s, bx, h⟩ K = opT X lo' d ty o.op ⟨s, bx', h'⟩ fun v _ => K v ⟨s, bx, h⟩ := by
  obtain ⟨dst, op, ty', pos, after, guard⟩ := o
  cases op <;> simp only [inert] at hi <;> (try cases hi) <;> simp only [opT]
  rename_i c
  split at hi
  all_goals (try cases hi)
  all_goals (rename_i hc; rw [hc]; split <;> simp only [bltn])
theorem step_inert {o : Oper} (hi : inert o = true) {v : V} {σ1 : St} (hs : stepOp X lo d ty o.op ⟨s, bx, h⟩ = some (v, σ1)) : σ1.bx = bx ∧ σ1.h = h ∧ ∀ lo' bx' h', stepOp X lo' d ty o.op ⟨s, bx', h'⟩ = some (v, ⟨s, bx', h'⟩) := by
  have key : ∀ lo' bx' h', stepOp X lo' d ty o.op ⟨s, bx', h'⟩ = some (v, ⟨s, bx', h'⟩) := by
    intro lo' bx' h'
    unfold stepOp at hs ⊢
    rw [opT_inert (lo' := lo) (bx' := bx) (h' := h) hi, opT_step]
    unfold stepOp
    rw [hs]; rfl
  have := key lo bx h
  rw [hs] at this
  injection this with this; injection this with _ this
  exact ⟨by rw [this], by rw [this], key⟩

def boxOp : Op → Bool
  | .alloc _ | .box _ _ | .store _ _ _ => true
  | _ => false
theorem opT_bx (hb : boxOp o = false) : opT X lo d ty o ⟨s, bx, h⟩ K = opT X lo d ty o ⟨s, bx, h⟩ fun v σ => K v ⟨σ.s, bx, σ.h⟩ := by
  cases o <;> simp only [boxOp] at hb <;> (try cases hb) <;> simp only [opT]
theorem step_bx (hb : boxOp o = false) {v : V} {σ1 : St} (hs : stepOp X lo d ty o ⟨s, bx, h⟩ = some (v, σ1)) : σ1.bx = bx := by
  have : stepOp X lo d ty o ⟨s, bx, h⟩ = some (v, ⟨σ1.s, bx, σ1.h⟩) := by
    have h2 := hs
    unfold stepOp at h2 ⊢
    rw [opT_bx hb, opT_step]
    unfold stepOp
    rw [h2]; rfl
  rw [hs] at this
  injection this with this; injection this with _ this
  rw [this]
/-- What becomes of the variables of the frame. -/
theorem step_box {v : V} {σ1 : St} (hs : stepOp X lo d ty o ⟨s, bx, h⟩ = some (v, σ1)) :
    σ1.bx = bx ∨ (∃ t row, lookB bx t = none ∧ σ1.bx = (t, row) :: bx) ∨ ((∃ t x y, o = .store t x y) ∧ ∃ u row, σ1.bx = setB bx u row) := by
  cases hb : boxOp o with
  | false => exact .inl (step_bx hb hs)
  | true =>
    unfold stepOp at hs
    cases o <;> simp only [boxOp] at hb <;> (try cases hb) <;> simp only [opT] at hs
    · split at hs
      · cases hs
      · cases hs
      · split at hs
        · simp only [Option.some.injEq, Prod.mk.injEq] at hs; obtain ⟨_, rfl⟩ := hs; exact .inl rfl
        · split at hs
          · cases hs
          · rename_i hl
            simp only [Option.some.injEq, Prod.mk.injEq] at hs; obtain ⟨_, rfl⟩ := hs
            exact .inr (.inl ⟨_, _, hl, rfl⟩)
    · split at hs
      · cases hs
      · split at hs
        · split at hs
          · split at hs
            · simp only [Option.some.injEq, Prod.mk.injEq] at hs; obtain ⟨_, rfl⟩ := hs; exact .inl rfl
            · split at hs
              · cases hs
              · rename_i hl
                simp only [Option.some.injEq, Prod.mk.injEq] at hs; obtain ⟨_, rfl⟩ := hs
                exact .inr (.inl ⟨_, _, hl, rfl⟩)
          · cases hs
        · cases hs
    · split at hs
      · split at hs
        · split at hs
          · split at hs
            · split at hs
              · simp only [Option.some.injEq, Prod.mk.injEq] at hs; obtain ⟨_, rfl⟩ := hs
                exact .inr (.inr ⟨⟨_, _, _, rfl⟩, _, _, rfl⟩)
              · cases hs
            · cases hs
          · obtain ⟨q, _, hs⟩ := eO_some hs
            obtain ⟨b, i, j⟩ := q
            obtain ⟨h', _, hs⟩ := eO_some hs
            simp only [Option.some.injEq, Prod.mk.injEq] at hs; obtain ⟨_, rfl⟩ := hs; exact .inl rfl
          · cases hs
        · cases hs
      · cases hs
theorem step_box_some {v : V} {σ1 : St} (hs : stepOp X lo d ty o ⟨s, bx, h⟩ = some (v, σ1)) {t : Nat} (ht : (lookB bx t).isSome = true) : (lookB σ1.bx t).isSome = true := by
  rcases step_box hs with h1 | ⟨u, row, h1, h2⟩ | ⟨_, u, row, h2⟩
  · rw [h1]; exact ht
  · rw [h2, lookB_cons]; split
    · rfl
    · exact ht
  · rw [h2, lookB_setB]; split
    · simpa using ht
    · exact ht
theorem step_box_same {v : V} {σ1 : St} (hs : stepOp X lo d ty o ⟨s, bx, h⟩ = some (v, σ1)) (hw : ∀ t x y, o ≠ .store t x y) {t : Nat} {row : List V} (ht : lookB bx t = some row) : lookB σ1.bx t = some row := by
  rcases step_box hs with h1 | ⟨u, row', h1, h2⟩ | ⟨⟨t, x, y, h3⟩, _⟩
  · rw [h1]; exact ht
  · rw [h2, lookB_cons]; split
    · rename_i e; subst e; rw [h1] at ht; cases ht
    · exact ht
  · exact absurd h3 (hw _ _ _)
end

/-! ### which operation stands ahead of which -/
theorem aheadOf_spec {acc : List Nat} {j : Nat} : ∀ {es : List Edge}, (aheadOf acc es).testBit j = true → ∃ e ∈ es, bindsE e = true ∧ (e.on = j ∨ (acc.getD e.on 0).testBit j = true)
  | [], h => by simp [aheadOf] at h
  | e :: es, h => by
    simp only [aheadOf] at h
    split at h
    · rename_i hb
      have h1 : ((1 <<< e.on ||| acc.getD e.on 0) ||| aheadOf acc es).testBit j = true := h
      rw [Nat.testBit_or, Nat.testBit_or] at h1
      simp only [Bool.or_eq_true] at h1
      rcases h1 with (h1 | h1) | h1
      · refine ⟨e, by simp, hb, .inl ?_⟩
        rw [Nat.testBit_shiftLeft] at h1
        simp only [Bool.and_eq_true, decide_eq_true_eq] at h1
        have h2 := h1.2
        by_cases hz : j - e.on = 0
        · omega
        · rw [Nat.testBit_one_eq_true_iff_self_eq_zero] at h2; omega
      · exact ⟨e, by simp, hb, .inr h1⟩
      · obtain ⟨e', h2, h3⟩ := aheadOf_spec h1
        exact ⟨e', by simp [h2], h3⟩
    · obtain ⟨e', h2, h3⟩ := aheadOf_spec h
      exact ⟨e', by simp [h2], h3⟩
theorem aheadL_keep : ∀ (l : List Oper) (acc : List Nat) (i : Nat), i < acc.length → (aheadL acc l).getD i 0 = acc.getD i 0
  | [], acc, i, h => rfl
  | o :: l, acc, i, h => by
    simp only [aheadL]
    rw [aheadL_keep l _ i (by simp; omega)]
    simp only [List.getD_eq_getElem?_getD]
    rw [List.getElem?_append_left h]
theorem aheadL_spec : ∀ (l : List Oper) (acc : List Nat) (i j : Nat) (o : Oper), l[i]? = some o → ((aheadL acc l).getD (acc.length + i) 0).testBit j = true →
    ∃ e ∈ o.after.toList, bindsE e = true ∧ (e.on = j ∨ ((aheadL acc l).getD e.on 0).testBit j = true)
  | [], acc, i, j, o, h, _ => by simp at h
  | p :: l, acc, 0, j, o, h, ht => by
    simp at h; subst h
    simp only [aheadL, Nat.add_zero] at ht ⊢
    rw [aheadL_keep l _ _ (by simp)] at ht
    simp only [List.getD_eq_getElem?_getD, List.getElem?_concat_length, Option.getD_some] at ht
    obtain ⟨e, h1, h2, h3⟩ := aheadOf_spec ht
    refine ⟨e, h1, h2, h3.imp id fun h3 => ?_⟩
    have hlt : e.on < acc.length := by
      apply Nat.lt_of_not_le
      intro hle
      simp [List.getD_eq_getElem?_getD, List.getElem?_eq_none hle] at h3
    rw [aheadL_keep l _ _ (by simp; omega)]
    simp only [List.getD_eq_getElem?_getD] at h3 ⊢
    rw [List.getElem?_append_left hlt]; exact h3
  | p :: l, acc, i + 1, j, o, h, ht => by
    simp only [aheadL] at ht ⊢
    have := aheadL_spec l (acc ++ [aheadOf acc p.after.toList]) i j o (by simpa using h) (by rw [← ht]; congr 2; simp; omega)
    exact this
end Go.Proofs.Ytfknhpajlfiliaa.T
