/- What a step of T reads and writes. -/
import Derived.Test.YtfbhdjkeofleiaaDoorTeeO
namespace Go.Proofs.YtfbhdjkeofleiaaDoor.T
open Go
set_option linter.unusedVariables false
set_option linter.unusedSimpArgs false
set_option linter.unnecessarySimpa false

section
variable {R : Type} {X : Ctx} {lo lo' : Nat} {d : Option Nat} {ty : TypeId} {o : Op} {s s' : List (Nat × V)} {bx bx' : List (Nat × List V)} {h h' : Heap} {K : V → St → Option R}

theorem evs_congr : ∀ {xs : List Operand}, (∀ x ∈ xs, ev s' x = ev s x) → evs s' xs = evs s xs
  | [], _ => rfl
  | x :: xs, hx => by simp only [evs]; rw [hx x (by simp), evs_congr fun y hy => hx y (by simp [hy])]
theorem evp_congr : ∀ {xs : List (Nat × Operand)}, (∀ x ∈ xs, ev s' x.2 = ev s x.2) → evp s' xs = evp s xs
  | [], _ => rfl
  | (i, x) :: xs, hx => by simp only [evp]; rw [hx (i, x) (by simp), evp_congr fun y hy => hx y (by simp [hy])]
theorem evo_congr {x : Option Operand} (hx : ∀ y ∈ x.toList, ev s' y = ev s y) : evo s' x = evo s x := by
  cases x with
  | none => rfl
  | some x => simp only [evo]; rw [hx x (by simp)]

/-- A step sees of the slots those of its operands alone. -/
theorem opT_slots (hx : ∀ x ∈ o.operands.toList, ev s' x = ev s x) : opT X lo d ty o ⟨s', bx, h⟩ K = opT X lo d ty o ⟨s, bx, h⟩ fun v σ => K v ⟨s', σ.bx, σ.h⟩ := by
  cases o <;> simp only [Op.operands] at hx <;> simp only [opT]
  case move x => rw [hx x (by simp)]
  case assign x => rw [hx x (by simp)]
  case pick c x y => rw [hx c (by simp), hx x (by simp), hx y (by simp)]
  case box e x => rw [hx x (by simp)]
  case build t ps => rw [evp_congr fun x hm => hx x.2 (by simp; exact ⟨x.1, by simpa using hm⟩)]
  case buildSlice t n ps => rw [evp_congr fun x hm => hx x.2 (by simp; exact ⟨x.1, by simpa using hm⟩)]
  case load t x => rw [hx x (by simp)]
  case store t x y => rw [hx x (by simp), hx y (by simp)]
  case nilCheck x => rw [hx x (by simp)]
  case binOp op t x y u => rw [hx x (by simp), hx y (by simp)]
  case unOp op t x => rw [hx x (by simp)]
  case convert u t x => rw [hx x (by simp)]
  case makeFunc f fs cs =>
    have h2 : evs s' fs.toList = evs s fs.toList := evs_congr fun x hm => hx x (by simp at hm ⊢; exact .inl hm)
    rw [evs_congr (xs := cs.toList) fun x hm => hx x (by simp at hm ⊢; exact .inr hm)]
    cases hfs : fs.toList with
    | nil => cases f <;> rfl
    | cons x xs => rw [hfs] at h2; cases f <;> simp only [h2]
  case makeSlice t l c => rw [hx l (by simp), hx c (by simp)]
  case slice t x l hi m =>
    rw [hx x (by simp), evo_congr (x := l) fun y hy => hx y (by simp at hy ⊢; simp [hy]), evo_congr (x := hi) fun y hy => hx y (by simp at hy ⊢; simp [hy]), evo_congr (x := m) fun y hy => hx y (by simp at hy ⊢; simp [hy])]
  case fieldAddr t x f => rw [hx x (by simp)]
  case field t x f => rw [hx x (by simp)]
  case indexAddr t x i => rw [hx x (by simp), hx i (by simp)]
  case index t x i => rw [hx x (by simp), hx i (by simp)]
  case lookup t m i ok => rw [hx m (by simp), hx i (by simp)]
  case mapUpdate t m i x => rw [hx m (by simp), hx i (by simp), hx x (by simp)]
  case insert t m i x => rw [hx m (by simp), hx i (by simp), hx x (by simp)]
  case extract x i => rw [hx x (by simp)]
  case call c =>
    have h1 : evs s' c.args.toList = evs s c.args.toList := evs_congr fun x hm => hx x (by simp [Call.operands] at hm ⊢; simp [hm])
    rw [h1]
    split
    · split
      · rename_i f hc
        rw [hx f (by simp [Call.operands, hc])]
      · rfl
      · rfl
    · rfl

theorem stepOp_slots (hx : ∀ x ∈ o.operands.toList, ev s' x = ev s x) {v : V} {σ1 : St} (hs : stepOp X lo d ty o ⟨s, bx, h⟩ = some (v, σ1)) : stepOp X lo d ty o ⟨s', bx, h⟩ = some (v, ⟨s', σ1.bx, σ1.h⟩) := by
  unfold stepOp at hs ⊢
  rw [opT_slots hx, opT_step]
  unfold stepOp
  rw [hs]; rfl
theorem stepOp_s {v : V} {σ1 : St} (hs : stepOp X lo d ty o ⟨s, bx, h⟩ = some (v, σ1)) : σ1.s = s := by
  have := stepOp_slots (fun x _ => rfl) hs
  rw [hs] at this
  injection this with this; injection this with _ this
  rw [this]

/-- These touch the slots alone. -/
theorem opT_inert (hw : X.wide = false) {o : Oper} (hi : inert o = true) : opT X lo d ty o.op ⟨s, bx, h⟩ K = opT X lo' d ty o.op ⟨s, bx', h'⟩ fun v _ => K v ⟨s, bx, h⟩ := by
  obtain ⟨dst, op, ty', pos, after, guard⟩ := o
  cases op <;> simp only [inert] at hi <;> (try cases hi) <;> simp only [opT, hw, roomFor]
  rename_i c
  split at hi
  all_goals (try cases hi)
  all_goals (rename_i hc; rw [hc]; split <;> simp only [bltn])
theorem step_inert (hw : X.wide = false) {o : Oper} (hi : inert o = true) {v : V} {σ1 : St} (hs : stepOp X lo d ty o.op ⟨s, bx, h⟩ = some (v, σ1)) : σ1.bx = bx ∧ σ1.h = h ∧ ∀ lo' bx' h', stepOp X lo' d ty o.op ⟨s, bx', h'⟩ = some (v, ⟨s, bx', h'⟩) := by
  have key : ∀ lo' bx' h', stepOp X lo' d ty o.op ⟨s, bx', h'⟩ = some (v, ⟨s, bx', h'⟩) := by
    intro lo' bx' h'
    unfold stepOp at hs ⊢
    rw [opT_inert hw (lo' := lo) (bx' := bx) (h' := h) hi, opT_step]
    unfold stepOp
    rw [hs]; rfl
  have := key lo bx h
  rw [hs] at this
  injection this with this; injection this with _ this
  exact ⟨by rw [this], by rw [this], key⟩

/-- What reads leaves all as it was. -/
theorem step_load {t : TypeId} {x : Operand} {v : V} {σ1 : St} (hs : stepOp X lo d ty (.load t x) ⟨s, bx, h⟩ = some (v, σ1)) : σ1.s = s ∧ σ1.bx = bx ∧ σ1.h = h := by
  unfold stepOp at hs
  simp only [opT] at hs
  split at hs
  · cases hs
  · split at hs
    · split at hs
      · obtain ⟨cs, _, hs⟩ := eO_some hs
        obtain ⟨y, _, hs⟩ := eO_some hs
        simp only [Option.some.injEq, Prod.mk.injEq] at hs; obtain ⟨_, rfl⟩ := hs; exact ⟨rfl, rfl, rfl⟩
      · cases hs
    · have key : opT X lo d ty (.load t x) ⟨s, bx, h⟩ (fun v σ => some (v, σ)) = opT X lo d ty (.load t x) ⟨s, bx, h⟩ fun v _ => some (v, ⟨s, bx, h⟩) := by simp only [opT]
      have hs2 : opT X lo d ty (.load t x) ⟨s, bx, h⟩ (fun v σ => some (v, σ)) = some (v, σ1) := by
        simp only [opT]; simp_all
      rw [key, opT_step] at hs2
      obtain ⟨p, _, hp⟩ := Option.bind_eq_some_iff.1 hs2
      simp only [Option.some.injEq, Prod.mk.injEq] at hp
      obtain ⟨_, rfl⟩ := hp; exact ⟨rfl, rfl, rfl⟩
    · cases hs
/-- A variable of the frame is read: of memory nothing matters but that variable. -/
theorem step_lp {t : TypeId} {x : Operand} {u j : Nat} {v : V} {σ1 : St} (hx : ev s x = .lp u j) (hs : stepOp X lo d ty (.load t x) ⟨s, bx, h⟩ = some (v, σ1)) : ∃ row, lookB bx u = some row ∧
    ∀ lo' bx' h', lookB bx' u = some row → stepOp X lo' d ty (.load t x) ⟨s, bx', h'⟩ = some (v, ⟨s, bx', h'⟩) := by
  unfold stepOp at hs
  simp only [opT, hx] at hs
  split at hs
  · cases hs
  · rename_i hk
    split at hs
    · rename_i row hrow
      refine ⟨row, hrow, fun lo' bx' h' hb => ?_⟩
      unfold stepOp
      simp only [opT, hx, hk, hb]
      obtain ⟨cs, h1, hs⟩ := eO_some hs
      obtain ⟨y, h2, hs⟩ := eO_some hs
      simp only [Option.some.injEq, Prod.mk.injEq] at hs
      obtain ⟨rfl, _⟩ := hs
      simp only [h1, h2, eO]
    · cases hs

/-- What a load reads: a variable of the frame, or memory. -/
theorem load_addr {t : TypeId} {x : Operand} {v : V} {σ1 : St} (hs : stepOp X lo d ty (.load t x) ⟨s, bx, h⟩ = some (v, σ1)) : (∃ u j, ev s x = .lp u j) ∨ ∃ b i j, ev s x = .ptr (some (b, i, j)) := by
  unfold stepOp at hs
  simp only [opT] at hs
  split at hs
  · cases hs
  · split at hs
    · rename_i u j he
      exact .inl ⟨u, j, he⟩
    · rename_i p he
      obtain ⟨q, rfl, _⟩ := eO_some hs
      obtain ⟨b, i, j⟩ := q
      exact .inr ⟨b, i, j, he⟩
    · cases hs
/-- Memory is read: nothing matters but those cells. -/
theorem step_ptr {t : TypeId} {x : Operand} {b i j : Nat} {v : V} {σ1 : St} (hx : ev s x = .ptr (some (b, i, j))) (hs : stepOp X lo d ty (.load t x) ⟨s, bx, h⟩ = some (v, σ1)) : ∃ cs, ld h b i j (X.ty t).size = some cs ∧
    ∀ lo' bx' h', ld h' b i j (X.ty t).size = some cs → stepOp X lo' d ty (.load t x) ⟨s, bx', h'⟩ = some (v, ⟨s, bx', h'⟩) := by
  unfold stepOp at hs
  simp only [opT, hx] at hs
  split at hs
  · cases hs
  · rename_i hk
    obtain ⟨q, hq, hs⟩ := eO_some hs
    injection hq with hq; subst hq
    obtain ⟨cs, h1, hs⟩ := eO_some hs
    refine ⟨cs, h1, fun lo' bx' h' hb => ?_⟩
    have key : ∀ σ : St, eCells (X.ty t).agg (X.ty t).sh cs (fun v => some (v, σ)) = (eCells (X.ty t).agg (X.ty t).sh cs some).bind fun v => some (v, σ) := fun σ => by rw [eCells_bind]; rfl
    unfold stepOp
    simp only [opT, hx, hk, eO, hb]
    rw [key] at hs ⊢
    obtain ⟨y, h2, hs⟩ := Option.bind_eq_some_iff.1 hs
    simp only [Option.some.injEq, Prod.mk.injEq] at hs
    obtain ⟨rfl, _⟩ := hs
    rw [h2]; rfl
/-- A store into a variable of the frame leaves memory and the other variables. -/
theorem step_store_lp {t : TypeId} {y z : Operand} {u j : Nat} {v : V} {σ1 : St} (hy : ev s y = .lp u j) (hs : stepOp X lo d ty (.store t y z) ⟨s, bx, h⟩ = some (v, σ1)) : σ1.h = h ∧ ∃ row, σ1.bx = setB bx u row := by
  unfold stepOp at hs
  simp only [opT, hy] at hs
  split at hs
  · split at hs
    · split at hs
      · split at hs
        · simp only [Option.some.injEq, Prod.mk.injEq] at hs; obtain ⟨_, rfl⟩ := hs; exact ⟨rfl, _, rfl⟩
        · cases hs
      · cases hs
    · cases hs
  · cases hs
theorem step_store_ptr {t : TypeId} {y z : Operand} {q : Option (Nat × Nat × Nat)} {v : V} {σ1 : St} (hy : ev s y = .ptr q) (hs : stepOp X lo d ty (.store t y z) ⟨s, bx, h⟩ = some (v, σ1)) : σ1.bx = bx := by
  unfold stepOp at hs
  simp only [opT, hy] at hs
  split at hs
  · split at hs
    · obtain ⟨q, _, hs⟩ := eO_some hs
      obtain ⟨b, i, j⟩ := q
      obtain ⟨h', _, hs⟩ := eO_some hs
      simp only [Option.some.injEq, Prod.mk.injEq] at hs; obtain ⟨_, rfl⟩ := hs; rfl
    · cases hs
  · cases hs

def boxOp : Op → Bool
  | .alloc _ | .box _ _ | .store _ _ _ => true
  | _ => false
theorem opT_bx (hb : boxOp o = false) : opT X lo d ty o ⟨s, bx, h⟩ K = opT X lo d ty o ⟨s, bx, h⟩ fun v σ => K v ⟨σ.s, bx, σ.h⟩ := by
  cases o <;> simp only [boxOp] at hb <;> (try cases hb) <;> simp only [opT]
theorem step_bx (hb : boxOp o = false) {v : V} {σ1 : St} (hs : stepOp X lo d ty o ⟨s, bx, h⟩ = some (v, σ1)) : σ1.bx = bx := by
  have : stepOp X lo d ty o ⟨s, bx, h⟩ = some (v, ⟨σ1.s, bx, σ1.h⟩) := by
    have h2 := hs
    unfold stepOp at h2 ⊢
    rw [opT_bx hb, opT_step]
    unfold stepOp
    rw [h2]; rfl
  rw [hs] at this
  injection this with this; injection this with _ this
  rw [this]
/-- What becomes of the variables of the frame. -/
theorem step_box {v : V} {σ1 : St} (hs : stepOp X lo d ty o ⟨s, bx, h⟩ = some (v, σ1)) :
    σ1.bx = bx ∨ (∃ t row, lookB bx t = none ∧ σ1.bx = (t, row) :: bx) ∨ ((∃ t x y, o = .store t x y) ∧ ∃ u row, σ1.bx = setB bx u row) := by
  cases hb : boxOp o with
  | false => exact .inl (step_bx hb hs)
  | true =>
    unfold stepOp at hs
    cases o <;> simp only [boxOp] at hb <;> (try cases hb) <;> simp only [opT] at hs
    · split at hs
      · cases hs
      · cases hs
      · split at hs
        · simp only [Option.some.injEq, Prod.mk.injEq] at hs; obtain ⟨_, rfl⟩ := hs; exact .inl rfl
        · split at hs
          · cases hs
          · rename_i hl
            simp only [Option.some.injEq, Prod.mk.injEq] at hs; obtain ⟨_, rfl⟩ := hs
            exact .inr (.inl ⟨_, _, hl, rfl⟩)
    · split at hs
      · cases hs
      · split at hs
        · split at hs
          · split at hs
            · simp only [Option.some.injEq, Prod.mk.injEq] at hs; obtain ⟨_, rfl⟩ := hs; exact .inl rfl
            · split at hs
              · cases hs
              · rename_i hl
                simp only [Option.some.injEq, Prod.mk.injEq] at hs; obtain ⟨_, rfl⟩ := hs
                exact .inr (.inl ⟨_, _, hl, rfl⟩)
          · cases hs
        · cases hs
    · split at hs
      · split at hs
        · split at hs
          · split at hs
            · split at hs
              · simp only [Option.some.injEq, Prod.mk.injEq] at hs; obtain ⟨_, rfl⟩ := hs
                exact .inr (.inr ⟨⟨_, _, _, rfl⟩, _, _, rfl⟩)
              · cases hs
            · cases hs
          · obtain ⟨q, _, hs⟩ := eO_some hs
            obtain ⟨b, i, j⟩ := q
            obtain ⟨h', _, hs⟩ := eO_some hs
            simp only [Option.some.injEq, Prod.mk.injEq] at hs; obtain ⟨_, rfl⟩ := hs; exact .inl rfl
          · cases hs
        · cases hs
      · cases hs
/-- What the loads find is the same behind it. -/
def Keeps (X : Ctx) (σ σ' : St) (p : Oper) : Prop := (∀ t x, p.op = .load t x → (∀ u j row, ev σ.s x = .lp u j → lookB σ.bx u = some row → lookB σ'.bx u = some row) ∧
  (∀ b i j, ev σ.s x = .ptr (some (b, i, j)) → ld σ'.h b i j (X.ty t).size = ld σ.h b i j (X.ty t).size)) ∧
  (∀ t e, mkBox p = some (t, e) → ∀ row, lookB σ.bx t = some row → lookB σ'.bx t = some row)
theorem mkBox_spec {o : Oper} {t e : Nat} (h : mkBox o = some (t, e)) : o.op = .alloc e ∧ o.dst = some t := by
  unfold mkBox at h
  split at h
  · rename_i e' ho
    split at h
    · rename_i t' hd
      injection h with h; injection h with h1 h2; subst h1; subst h2
      exact ⟨ho, hd⟩
    · cases h
  · cases h
theorem mkBox_load {o : Oper} {t : TypeId} {x : Operand} (h : o.op = .load t x) : mkBox o = none := by unfold mkBox; rw [h]
theorem keeps_chk {o : Oper} {v : V} {σ1 : St} (hs : stepOp X lo d ty o.op ⟨s, bx, h⟩ = some (v, σ1)) : ∀ {l : List Oper} {k : Option R} {r : R}, chkT X o ⟨s, bx, h⟩ σ1 l k = some r → k = some r ∧ ∀ p ∈ l, Keeps X ⟨s, bx, h⟩ σ1 p
  | [], k, r, hk => ⟨hk, fun p hp => by simp at hp⟩
  | p :: l, k, r, hk => by
    have ih : ∀ {k : Option R} {r : R}, chkT X o ⟨s, bx, h⟩ σ1 l k = some r → k = some r ∧ ∀ p ∈ l, Keeps X ⟨s, bx, h⟩ σ1 p := keeps_chk hs
    have fin : chkT X o ⟨s, bx, h⟩ σ1 l k = some r → Keeps X ⟨s, bx, h⟩ σ1 p → k = some r ∧ ∀ q ∈ p :: l, Keeps X ⟨s, bx, h⟩ σ1 q := fun h1 h2 => by
      obtain ⟨h3, h4⟩ := ih h1
      refine ⟨h3, fun q hq => ?_⟩
      rcases List.mem_cons.1 hq with rfl | hq
      · exact h2
      · exact h4 q hq
    simp only [chkT] at hk
    split at hk
    · rename_i t x hp
      split at hk
      · rename_i u j hx
        have key : (∀ row, lookB bx u = some row → lookB σ1.bx u = some row) → Keeps X ⟨s, bx, h⟩ σ1 p := fun hrow => by
          refine ⟨fun t' x' hp' => ?_, fun t' e' hm => by rw [mkBox_load hp] at hm; cases hm⟩
          rw [hp] at hp'; injection hp' with e1 e2; subst e1; subst e2
          refine ⟨fun u' j' row hx' hl => ?_, fun b i j' hx' => ?_⟩
          · have hx' : ev s x = .lp u' j' := hx'
            rw [hx] at hx'; injection hx' with e1 e2; subst e1
            exact hrow row hl
          · have hx' : ev s x = .ptr (some (b, i, j')) := hx'
            rw [hx] at hx'; cases hx'
        split at hk
        · rename_i t' y z hop
          rw [hop] at hs
          split at hk
          · rename_i u' j' hy
            split at hk
            · cases hk
            · rename_i hne
              refine fin hk (key fun row hl => ?_)
              obtain ⟨_, row', h2⟩ := step_store_lp hy hs
              rw [h2, lookB_setB, if_neg (fun e => by subst e; simp at hne)]
              exact hl
          · rename_i q hy
            refine fin hk (key fun row hl => ?_)
            rw [step_store_ptr hy hs]; exact hl
          · cases hk
        · rename_i hop
          exact fin hk (key fun row hl => by
            rcases step_box hs with h1 | ⟨t0, row', h1, h2⟩ | ⟨⟨t0, y, z, h3⟩, _⟩
            · rw [h1]; exact hl
            · rw [h2, lookB_cons]; split
              · rename_i e; subst e; rw [h1] at hl; cases hl
              · exact hl
            · exact absurd h3 (hop _ _ _))
      · rename_i q hx
        obtain ⟨q, rfl, hk⟩ := eO_some hk
        obtain ⟨b, i, j⟩ := q
        have key : ld σ1.h b i j (X.ty t).size = ld h b i j (X.ty t).size → Keeps X ⟨s, bx, h⟩ σ1 p := fun hl => by
          refine ⟨fun t' x' hp' => ?_, fun t' e' hm => by rw [mkBox_load hp] at hm; cases hm⟩
          rw [hp] at hp'; injection hp' with e1 e2; subst e1; subst e2
          refine ⟨fun u' j' row hx' _ => ?_, fun b' i' j' hx' => ?_⟩
          · have hx' : ev s x = .lp u' j' := hx'
            rw [hx] at hx'; cases hx'
          · have hx' : ev s x = .ptr (some (b', i', j')) := hx'
            rw [hx] at hx'; injection hx' with e; injection e with e; injection e with e1 e; injection e with e2 e3
            subst e1; subst e2; subst e3
            exact hl
        have nd : ∀ {k : Option R}, need (sameO (ld h b i j (X.ty t).size) (ld σ1.h b i j (X.ty t).size)) k = some r → ld σ1.h b i j (X.ty t).size = ld h b i j (X.ty t).size ∧ k = some r := fun hk => by
          obtain ⟨h1, h2⟩ := need_some hk
          unfold sameO at h1
          exact ⟨((@decide_eq_true_iff _ (_)).1 h1).symm, h2⟩
        split at hk
        · rename_i t' y z hop
          split at hk
          · rename_i u' j' hy
            rw [hop] at hs
            exact fin hk (key (by rw [(step_store_lp hy hs).1]))
          · obtain ⟨h1, h2⟩ := nd hk
            exact fin h2 (key h1)
        · obtain ⟨h1, h2⟩ := nd hk
          exact fin h2 (key h1)
      · cases hk
    · rename_i e hp
      split at hk
      · rename_i t hd
        have key : (∀ row, lookB bx t = some row → lookB σ1.bx t = some row) → Keeps X ⟨s, bx, h⟩ σ1 p := fun hrow => by
          refine ⟨fun t' x' hp' => (by rw [hp] at hp'; cases hp'), fun t' e' hm => ?_⟩
          obtain ⟨_, hd'⟩ := mkBox_spec hm
          rw [hd] at hd'; injection hd' with hd'; subst hd'
          exact hrow
        split at hk
        · rename_i t' y z hop
          rw [hop] at hs
          split at hk
          · rename_i u' j' hy
            split at hk
            · cases hk
            · rename_i hne
              refine fin hk (key fun row hl => ?_)
              obtain ⟨_, row', h2⟩ := step_store_lp hy hs
              rw [h2, lookB_setB, if_neg (fun e => by subst e; simp at hne)]
              exact hl
          · rename_i q hy
            refine fin hk (key fun row hl => ?_)
            rw [step_store_ptr hy hs]; exact hl
          · cases hk
        · rename_i hop
          exact fin hk (key fun row hl => by
            rcases step_box hs with h1 | ⟨t0, row', h1, h2⟩ | ⟨⟨t0, y, z, h3⟩, _⟩
            · rw [h1]; exact hl
            · rw [h2, lookB_cons]; split
              · rename_i e; subst e; rw [h1] at hl; cases hl
              · exact hl
            · exact absurd h3 (hop _ _ _))
      · cases hk
    · cases hk
theorem step_box_some {v : V} {σ1 : St} (hs : stepOp X lo d ty o ⟨s, bx, h⟩ = some (v, σ1)) {t : Nat} (ht : (lookB bx t).isSome = true) : (lookB σ1.bx t).isSome = true := by
  rcases step_box hs with h1 | ⟨u, row, h1, h2⟩ | ⟨_, u, row, h2⟩
  · rw [h1]; exact ht
  · rw [h2, lookB_cons]; split
    · rfl
    · exact ht
  · rw [h2, lookB_setB]; split
    · simpa using ht
    · exact ht
theorem step_box_same {v : V} {σ1 : St} (hs : stepOp X lo d ty o ⟨s, bx, h⟩ = some (v, σ1)) (hw : ∀ t x y, o ≠ .store t x y) {t : Nat} {row : List V} (ht : lookB bx t = some row) : lookB σ1.bx t = some row := by
  rcases step_box hs with h1 | ⟨u, row', h1, h2⟩ | ⟨⟨t, x, y, h3⟩, _⟩
  · rw [h1]; exact ht
  · rw [h2, lookB_cons]; split
    · rename_i e; subst e; rw [h1] at ht; cases ht
    · exact ht
  · exact absurd h3 (hw _ _ _)
end

/-! ### which operation stands ahead of which -/
theorem aheadOf_spec {acc : List Nat} {j : Nat} : ∀ {es : List Edge}, (aheadOf acc es).testBit j = true → ∃ e ∈ es, bindsE e = true ∧ (e.on = j ∨ (acc.getD e.on 0).testBit j = true)
  | [], h => by simp [aheadOf] at h
  | e :: es, h => by
    simp only [aheadOf] at h
    split at h
    · rename_i hb
      have h1 : ((1 <<< e.on ||| acc.getD e.on 0) ||| aheadOf acc es).testBit j = true := h
      rw [Nat.testBit_or, Nat.testBit_or] at h1
      simp only [Bool.or_eq_true] at h1
      rcases h1 with (h1 | h1) | h1
      · refine ⟨e, by simp, hb, .inl ?_⟩
        rw [Nat.testBit_shiftLeft] at h1
        simp only [Bool.and_eq_true, decide_eq_true_eq] at h1
        have h2 := h1.2
        by_cases hz : j - e.on = 0
        · omega
        · rw [Nat.testBit_one_eq_true_iff_self_eq_zero] at h2; omega
      · exact ⟨e, by simp, hb, .inr h1⟩
      · obtain ⟨e', h2, h3⟩ := aheadOf_spec h1
        exact ⟨e', by simp [h2], h3⟩
    · obtain ⟨e', h2, h3⟩ := aheadOf_spec h
      exact ⟨e', by simp [h2], h3⟩
theorem aheadL_keep : ∀ (l : List Oper) (acc : List Nat) (i : Nat), i < acc.length → (aheadL acc l).getD i 0 = acc.getD i 0
  | [], acc, i, h => rfl
  | o :: l, acc, i, h => by
    simp only [aheadL]
    rw [aheadL_keep l _ i (by simp; omega)]
    simp only [List.getD_eq_getElem?_getD]
    rw [List.getElem?_append_left h]
theorem aheadL_spec : ∀ (l : List Oper) (acc : List Nat) (i j : Nat) (o : Oper), l[i]? = some o → ((aheadL acc l).getD (acc.length + i) 0).testBit j = true →
    ∃ e ∈ o.after.toList, bindsE e = true ∧ (e.on = j ∨ ((aheadL acc l).getD e.on 0).testBit j = true)
  | [], acc, i, j, o, h, _ => by simp at h
  | p :: l, acc, 0, j, o, h, ht => by
    simp at h; subst h
    simp only [aheadL, Nat.add_zero] at ht ⊢
    rw [aheadL_keep l _ _ (by simp)] at ht
    simp only [List.getD_eq_getElem?_getD, List.getElem?_concat_length, Option.getD_some] at ht
    obtain ⟨e, h1, h2, h3⟩ := aheadOf_spec ht
    refine ⟨e, h1, h2, h3.imp id fun h3 => ?_⟩
    have hlt : e.on < acc.length := by
      apply Nat.lt_of_not_le
      intro hle
      simp [List.getD_eq_getElem?_getD, List.getElem?_eq_none hle] at h3
    rw [aheadL_keep l _ _ (by simp; omega)]
    simp only [List.getD_eq_getElem?_getD] at h3 ⊢
    rw [List.getElem?_append_left hlt]; exact h3
  | p :: l, acc, i + 1, j, o, h, ht => by
    simp only [aheadL] at ht ⊢
    have := aheadL_spec l (acc ++ [aheadOf acc p.after.toList]) i j o (by simpa using h) (by rw [← ht]; congr 2; simp; omega)
    exact this
end Go.Proofs.YtfbhdjkeofleiaaDoor.T
