/- T against the model: what it means that T's values and memory stand for the model's. -/
import Derived.Test.YtfbhdjkeofleiaaDoorTeeB
import Derived.Tactics
import Derived.Orders
import Derived.Laws.Sem
import Derived.Laws.World
import Derived.Laws.Cells
namespace Go.Proofs.YtfbhdjkeofleiaaDoor.T
open Go
set_option linter.unusedVariables false
set_option linter.unusedSimpArgs false

/-- Where a block of T lies: the model's block, the first cell, cells a row, rows known to T, rows in all. -/
structure E where
  r : Nat
  o : Nat
  R : Nat
  n : Nat
  m : Nat

abbrev Rho := Nat → Option E
abbrev Bet := Nat → Option Nat

/-- how a function's given values lie in one list: a receiver is a tuple ahead -/
def fnIn (cs : List V) (fst cps : Array Value) (ys : List Value) : Prop := match cs with
  | .tup _ :: _ => ys = .tuple fst :: cps.toList
  | _ => fst = #[] ∧ ys = cps.toList
mutual
def VR (ρ : Rho) : V → Value → Prop
  | .int k n, v => v = .int k n
  | .bool b, v => v = .bool b
  | .str s, v => v = .string s
  | .ptr p, v => match p with
    | none => v = .pointer none
    | some (b, i, j) => ∃ e, ρ b = some e ∧ v = .pointer (some ⟨e.r, e.o + (i * e.R + j), none⟩)
  | .lp _ _, _ => False
  | .sl R a n c, v => match a with
    | none => n = 0 ∧ c = some 0 ∧ v = .slice none 0 0
    | some (b, i) => ∃ e x cc, ρ b = some e ∧ e.R = R ∧ v = .slice (some x) n cc ∧ (cc = 0 ∨ x = ⟨e.r, e.o + i * e.R, none⟩) ∧ n ≤ cc ∧ (∀ y, c = some y → cc = y) ∧ (c = none → i + cc = e.m ∧ e.o = 0)
  | .map p, v => match p with
    | none => v = .map none
    | some b => ∃ e, ρ b = some e ∧ v = .map (some e.r)
  | .fn f cs, v => ∃ fst cps ys, v = .func (.func f) fst cps ∧ fnIn cs fst cps ys ∧ VRs ρ cs ys
  | .nilf, v => v = .nilFunc
  | .ifc t x, v => ∃ y, v = .iface t y ∧ VR ρ x y
  | .nili, v => v = .nilIface
  | .agg cs, v => ∃ ys, v = .agg ys ∧ VRs ρ cs ys.toList
  | .tup cs, v => ∃ ys, v = .tuple ys ∧ VRs ρ cs ys.toList
  | .any, _ => True
def VRs (ρ : Rho) : List V → List Value → Prop
  | [], ys => ys = []
  | x :: xs, ys => ∃ y r, ys = y :: r ∧ VR ρ x y ∧ VRs ρ xs r
end

def Rle (ρ ρ' : Rho) : Prop := ∀ b e, ρ b = some e → ρ' b = some e
def Ble (β β' : Bet) : Prop := ∀ b e, β b = some e → β' b = some e
theorem Rle.refl (ρ : Rho) : Rle ρ ρ := fun _ _ h => h
theorem Rle.trans {a b c : Rho} (h : Rle a b) (k : Rle b c) : Rle a c := fun x e hx => k x e (h x e hx)
theorem Ble.refl (ρ : Bet) : Ble ρ ρ := fun _ _ h => h
theorem Ble.trans {a b c : Bet} (h : Ble a b) (k : Ble b c) : Ble a c := fun x e hx => k x e (h x e hx)

mutual
theorem VR.mono {ρ ρ' : Rho} (hr : Rle ρ ρ') : ∀ (x : V) (v : Value), VR ρ x v → VR ρ' x v
  | .int _ _, _, h => by simpa [VR] using h
  | .bool _, _, h => by simpa [VR] using h
  | .str _, _, h => by simpa [VR] using h
  | .ptr none, _, h => by simpa [VR] using h
  | .ptr (some (b, i, j)), _, h => by
    simp only [VR] at h ⊢
    obtain ⟨e, he, hv⟩ := h
    exact ⟨e, hr _ _ he, hv⟩
  | .lp _ _, _, h => by simp [VR] at h
  | .sl _ none _ _, _, h => by simpa [VR] using h
  | .sl _ (some (b, i)) _ _, _, h => by
    simp only [VR] at h ⊢
    obtain ⟨e, x, cc, he, hv⟩ := h
    exact ⟨e, x, cc, hr _ _ he, hv⟩
  | .map none, _, h => by simpa [VR] using h
  | .map (some b), _, h => by
    simp only [VR] at h ⊢
    obtain ⟨e, he, hv⟩ := h
    exact ⟨e, hr _ _ he, hv⟩
  | .fn _ cs, _, h => by
    simp only [VR] at h ⊢
    obtain ⟨fst, cps, ys, hv, hi, hc⟩ := h
    exact ⟨fst, cps, ys, hv, hi, VRs.mono hr cs _ hc⟩
  | .nilf, _, h => by simpa [VR] using h
  | .ifc _ x, _, h => by
    simp only [VR] at h ⊢
    obtain ⟨y, hv, hc⟩ := h
    exact ⟨y, hv, VR.mono hr x _ hc⟩
  | .nili, _, h => by simpa [VR] using h
  | .agg cs, _, h => by
    simp only [VR] at h ⊢
    obtain ⟨ys, hv, hc⟩ := h
    exact ⟨ys, hv, VRs.mono hr cs _ hc⟩
  | .tup cs, _, h => by
    simp only [VR] at h ⊢
    obtain ⟨ys, hv, hc⟩ := h
    exact ⟨ys, hv, VRs.mono hr cs _ hc⟩
  | .any, _, _ => by simp [VR]
theorem VRs.mono {ρ ρ' : Rho} (hr : Rle ρ ρ') : ∀ (xs : List V) (vs : List Value), VRs ρ xs vs → VRs ρ' xs vs
  | [], _, h => by simpa [VRs] using h
  | x :: xs, _, h => by
    simp only [VRs] at h ⊢
    obtain ⟨y, r, hy, h1, h2⟩ := h
    exact ⟨y, r, hy, VR.mono hr x _ h1, VRs.mono hr xs _ h2⟩
end

section
variable {ρ : Rho}
theorem VRs.nil : VRs ρ [] [] := by simp [VRs]
theorem VRs.cons {x : V} {y : Value} {xs : List V} {ys : List Value} (h : VR ρ x y) (k : VRs ρ xs ys) : VRs ρ (x :: xs) (y :: ys) := by
  simp only [VRs]; exact ⟨y, ys, rfl, h, k⟩
theorem VRs.uncons {x : V} {y : Value} {xs : List V} {ys : List Value} (h : VRs ρ (x :: xs) (y :: ys)) : VR ρ x y ∧ VRs ρ xs ys := by
  simp only [VRs] at h
  obtain ⟨_, _, he, h1, h2⟩ := h
  injection he with e1 e2
  subst e1; subst e2
  exact ⟨h1, h2⟩
theorem VRs.length : ∀ {xs : List V} {ys : List Value}, VRs ρ xs ys → xs.length = ys.length
  | [], ys, h => by simp only [VRs] at h; subst h; rfl
  | x :: xs, ys, h => by
    simp only [VRs] at h
    obtain ⟨_, _, rfl, _, h2⟩ := h
    simp [VRs.length h2]
theorem VRs.get : ∀ {xs : List V} {ys : List Value}, VRs ρ xs ys → ∀ (j : Nat) (x : V), xs[j]? = some x → ∃ y, ys[j]? = some y ∧ VR ρ x y
  | [], ys, h, j, x, hx => by simp at hx
  | x :: xs, ys, h, j, z, hz => by
    simp only [VRs] at h
    obtain ⟨y, r, rfl, h1, h2⟩ := h
    cases j with
    | zero => simp at hz; subst hz; exact ⟨y, by simp, h1⟩
    | succ j => simpa using VRs.get h2 j z (by simpa using hz)
theorem VRs.of_get : ∀ {xs : List V} {ys : List Value}, xs.length = ys.length → (∀ (j : Nat) (x : V), xs[j]? = some x → ∃ y, ys[j]? = some y ∧ VR ρ x y) → VRs ρ xs ys
  | [], ys, hl, _ => by
    have : ys = [] := List.eq_nil_of_length_eq_zero (by simpa using hl.symm)
    subst this; exact VRs.nil
  | x :: xs, [], hl, _ => by simp at hl
  | x :: xs, y :: ys, hl, h => by
    obtain ⟨y', h1, h2⟩ := h 0 x (by simp)
    simp at h1; subst h1
    exact VRs.cons h2 (VRs.of_get (by simpa using hl) fun j z hz => by simpa using h (j + 1) z (by simpa using hz))
theorem VRs.append {xs xs' : List V} {ys ys' : List Value} (h : VRs ρ xs ys) (k : VRs ρ xs' ys') : VRs ρ (xs ++ xs') (ys ++ ys') := by
  induction xs generalizing ys with
  | nil => simp only [VRs] at h; subst h; simpa using k
  | cons x xs ih =>
    simp only [VRs] at h
    obtain ⟨y, r, rfl, h1, h2⟩ := h
    exact VRs.cons h1 (ih h2)
theorem VRs.drop {xs : List V} {ys : List Value} (h : VRs ρ xs ys) (n : Nat) : VRs ρ (xs.drop n) (ys.drop n) := by
  refine VRs.of_get (by simp [h.length]) fun j x hx => ?_
  rw [List.getElem?_drop] at hx ⊢
  exact h.get _ x hx
theorem VRs.take {xs : List V} {ys : List Value} (h : VRs ρ xs ys) (n : Nat) : VRs ρ (xs.take n) (ys.take n) := by
  refine VRs.of_get (by simp [h.length]) fun j x hx => ?_
  rw [List.getElem?_take] at hx ⊢
  split at hx
  · rw [if_pos ‹_›]; exact h.get _ x hx
  · simp at hx
end

/-! ### cut and paste -/
theorem cut_some : ∀ {row : List V} {j n : Nat} {cs : List V}, cut row j n = some cs → j + n ≤ row.length ∧ cs = (row.drop j).take n
  | row, 0, 0, cs, h => by simp [cut] at h; subst h; simp
  | [], 0, n + 1, cs, h => by simp [cut] at h
  | v :: r, 0, n + 1, cs, h => by
    simp only [cut] at h
    split at h
    · rename_i l hl
      injection h with h; subst h
      obtain ⟨h1, h2⟩ := cut_some hl
      exact ⟨by simp; omega, by simp [h2]⟩
    · cases h
  | [], j + 1, n, cs, h => by simp [cut] at h
  | _ :: r, j + 1, n, cs, h => by
    simp only [cut] at h
    obtain ⟨h1, h2⟩ := cut_some h
    exact ⟨by simp; omega, by simp [h2]⟩
theorem paste_some : ∀ {row : List V} {j : Nat} {cs row' : List V}, paste row j cs = some row' → j + cs.length ≤ row.length ∧ row' = row.take j ++ cs ++ row.drop (j + cs.length)
  | row, 0, [], row', h => by simp [paste] at h; subst h; simp
  | [], 0, c :: cs, row', h => by simp [paste] at h
  | v :: r, 0, c :: cs, row', h => by
    simp only [paste] at h
    split at h
    · rename_i l hl
      injection h with h; subst h
      obtain ⟨h1, h2⟩ := paste_some hl
      exact ⟨by simp; omega, by simp [h2]⟩
    · cases h
  | [], j + 1, cs, row', h => by simp [paste] at h
  | v :: r, j + 1, cs, row', h => by
    simp only [paste] at h
    split at h
    · rename_i l hl
      injection h with h; subst h
      obtain ⟨h1, h2⟩ := paste_some hl
      exact ⟨by simp; omega, by simp [h2, show j + 1 + cs.length = (j + cs.length) + 1 by omega]⟩
    · cases h

/-! ### memory -/
def KVR (ρ : Rho) : List (V × V) → List MapEntry → Prop
  | [], es => es = []
  | (k, v) :: r, es => ∃ e t, es = e :: t ∧ VR ρ k e.key ∧ VR ρ v e.val ∧ KVR ρ r t
theorem KVR.mono {ρ ρ' : Rho} (hr : Rle ρ ρ') : ∀ (kv : List (V × V)) (es : List MapEntry), KVR ρ kv es → KVR ρ' kv es
  | [], _, h => by simpa [KVR] using h
  | (k, v) :: r, _, h => by
    simp only [KVR] at h ⊢
    obtain ⟨e, t, he, h1, h2, h3⟩ := h
    exact ⟨e, t, he, VR.mono hr _ _ h1, VR.mono hr _ _ h2, KVR.mono hr r t h3⟩

/-- rows of T in the model's cells, from cell 'o' on -/
def RowsR (ρ : Rho) (R o : Nat) (rs : List (List V)) (cs : Array Value) : Prop :=
  ∀ i row, rs[i]? = some row → row.length = R ∧ ∀ j v, row[j]? = some v → ∃ c, cs[o + (i * R + j)]? = some c ∧ VR ρ v c

/-- each cell holds what one cell can -/
def OneCells (cs : Array Value) : Prop := ∀ (j : Nat) (c : Value), cs[j]? = some c → c.oneCell' = true
/-- the same of some cells -/
def OneIn (o k : Nat) (cs : Array Value) : Prop := ∀ (j : Nat) (c : Value), o ≤ j → j < o + k → cs[j]? = some c → c.oneCell' = true
def BR (ρ : Rho) (e : E) : Blk → World → Prop
  | .rows R el ro rs, w => ∃ cs fr, w.heap[e.r]? = some (.cells cs el fr) ∧ (ro = false → fr = (0, 0) ∧ e.o = 0) ∧ e.R = R ∧ e.n = rs.length ∧ e.n ≤ e.m ∧ e.o + e.m * R ≤ cs.size ∧ RowsR ρ R e.o rs cs ∧ (OneCells cs ∨ (ro = true ∧ OneIn e.o (rs.length * R) cs))
  | .map _ kv, w => ∃ es clock, w.heap[e.r]? = some (.map es clock) ∧ KVR ρ kv es.toList
  | .dead, _ => True

theorem RowsR.mono {ρ ρ' : Rho} (hr : Rle ρ ρ') {R o : Nat} {rs : List (List V)} {cs : Array Value} (h : RowsR ρ R o rs cs) : RowsR ρ' R o rs cs := fun i row hi =>
  ⟨(h i row hi).1, fun j v hv => by
    obtain ⟨c, h1, h2⟩ := (h i row hi).2 j v hv
    exact ⟨c, h1, VR.mono hr _ _ h2⟩⟩
theorem BR.mono {ρ ρ' : Rho} (hr : Rle ρ ρ') {e : E} {w w' : World} (hw : w'.heap[e.r]? = w.heap[e.r]?) : ∀ {k : Blk}, BR ρ e k w → BR ρ' e k w'
  | .rows R el ro rs, h => by
    obtain ⟨cs, fr, h1, h2, h3, h4, h5, h6, h7, h8⟩ := h
    exact ⟨cs, fr, hw.trans h1, h2, h3, h4, h5, h6, h7.mono hr, h8⟩
  | .map _ kv, h => by
    obtain ⟨es, cl, h1, h2⟩ := h
    exact ⟨es, cl, hw.trans h1, KVR.mono hr _ _ h2⟩
  | .dead, _ => trivial

def isDead (h : Heap) (b : Nat) : Prop := h[b]? = some .dead
def isRo (h : Heap) (b : Nat) : Prop := ∃ R e rs, h[b]? = some (.rows R e true rs)

/-- T's memory stands for the model's. -/
structure HRel (ρ : Rho) (h : Heap) (w : World) : Prop where
  dom : ∀ b e, ρ b = some e → b < h.length ∧ e.r < w.heap.size
  blk : ∀ b e k, ρ b = some e → h[b]? = some k → BR ρ e k w
  inj : ∀ b b' e e', ρ b = some e → ρ b' = some e' → e.r = e'.r → b ≠ b' → isDead h b ∨ isDead h b' ∨ (isRo h b ∧ isRo h b')

/-- The variables of the frame. -/
structure FRel (ρ : Rho) (β : Bet) (bx : List (Nat × List V)) (w : World) : Prop where
  has : ∀ t r, β t = some r → ∃ row cs el, lookB bx t = some row ∧ w.heap[r]? = some (.cells cs el (0, 0)) ∧ VRs ρ row cs.toList
  lt : ∀ t r, β t = some r → r < w.heap.size
  inj : ∀ t t' r, β t = some r → β t' = some r → t = t'
  off : ∀ t r b e, β t = some r → ρ b = some e → e.r ≠ r

/-- What has become of memory: T's and the model's. 'lo': what T may not write; 'base': the model's blocks of which this speaks. -/
structure Ext (lo base : Nat) (ρ : Rho) (h : Heap) (w : World) (ρ' : Rho) (h' : Heap) (w' : World) : Prop where
  rle : Rle ρ ρ'
  new : ∀ b e, ρ b = none → ρ' b = some e → h.length ≤ b ∧ (base ≤ e.r ∨ ∃ b0 e0, ρ b0 = some e0 ∧ lo ≤ b0 ∧ e0.r = e.r)
  frame : ∀ r, r < base → (∀ b e, ρ b = some e → lo ≤ b → e.r ≠ r) → w'.heap[r]? = w.heap[r]?
  size : w.heap.size ≤ w'.heap.size
  os : w'.os = w.os
  tape : w'.tape = w.tape
  output : w'.output = w.output
  len : h.length ≤ h'.length
  pres : ∀ b, b < lo → b < h.length → h'[b]? = h[b]?
  tot : ∀ b, h.length ≤ b → b < h'.length → ∃ e, ρ' b = some e

theorem Ext.refl (lo base : Nat) (ρ : Rho) (h : Heap) (w : World) : Ext lo base ρ h w ρ h w where
  rle := Rle.refl _
  new := fun b e h1 h2 => by rw [h1] at h2; cases h2
  frame := fun _ _ _ => rfl
  size := Nat.le_refl _
  os := rfl
  tape := rfl
  output := rfl
  len := Nat.le_refl _
  pres := fun _ _ _ => rfl
  tot := fun b h1 h2 => by omega

theorem Ext.trans {lo base : Nat} {ρ ρ' ρ'' : Rho} {h h' h'' : Heap} {w w' w'' : World} (a : Ext lo base ρ h w ρ' h' w') (b : Ext lo base ρ' h' w' ρ'' h'' w'') : Ext lo base ρ h w ρ'' h'' w'' where
  rle := a.rle.trans b.rle
  new := fun x e h1 h2 => by
    cases hx : ρ' x with
    | some e' =>
      have := b.rle x e' hx
      rw [this] at h2
      injection h2 with h2; subst h2
      exact a.new x _ h1 hx
    | none =>
      obtain ⟨h3, h4⟩ := b.new x e hx h2
      refine ⟨Nat.le_trans a.len h3, ?_⟩
      rcases h4 with h4 | ⟨b0, e0, hb0, hlo, hr⟩
      · exact .inl h4
      · cases hb : ρ b0 with
        | some e1 =>
          have := a.rle b0 e1 hb
          rw [this] at hb0
          injection hb0 with hb0; subst hb0
          exact .inr ⟨b0, _, hb, hlo, hr⟩
        | none =>
          rcases (a.new b0 e0 hb hb0).2 with h5 | ⟨b1, e1, hb1, hlo1, hr1⟩
          · exact .inl (by omega)
          · exact .inr ⟨b1, e1, hb1, hlo1, hr1.trans hr⟩
  frame := fun r hr hk => by
    refine (b.frame r hr fun x e hx hlo he => ?_).trans (a.frame r hr hk)
    cases hb : ρ x with
    | some e1 =>
      have := a.rle x e1 hb
      rw [this] at hx
      injection hx with hx; subst hx
      exact hk x _ hb hlo he
    | none =>
      rcases (a.new x e hb hx).2 with h5 | ⟨b1, e1, hb1, hlo1, hr1⟩
      · omega
      · exact hk b1 e1 hb1 hlo1 (hr1.trans he)
  size := Nat.le_trans a.size b.size
  os := b.os.trans a.os
  tape := b.tape.trans a.tape
  output := b.output.trans a.output
  len := Nat.le_trans a.len b.len
  pres := fun x h1 h2 => (b.pres x h1 (Nat.lt_of_lt_of_le h2 a.len)).trans (a.pres x h1 h2)
  tot := fun x h1 h2 => by
    by_cases hx : x < h'.length
    · obtain ⟨e, he⟩ := a.tot x h1 hx; exact ⟨e, b.rle x e he⟩
    · exact b.tot x (by omega) h2

/-- A smaller 'lo', a smaller 'base' say less. -/
theorem Ext.weaken {lo lo' base base' : Nat} {ρ ρ' : Rho} {h h' : Heap} {w w' : World} (a : Ext lo base ρ h w ρ' h' w') (hl : lo' ≤ lo) (hb : base' ≤ base) : Ext lo' base' ρ h w ρ' h' w' where
  rle := a.rle
  new := fun b e h1 h2 => by
    obtain ⟨h3, h4⟩ := a.new b e h1 h2
    exact ⟨h3, h4.imp (Nat.le_trans hb) fun ⟨b0, e0, hb, hlo, hr⟩ => ⟨b0, e0, hb, Nat.le_trans hl hlo, hr⟩⟩
  frame := fun r hr hk => a.frame r (Nat.lt_of_lt_of_le hr hb) fun b e hb hlo => hk b e hb (Nat.le_trans hl hlo)
  size := a.size
  os := a.os
  tape := a.tape
  output := a.output
  len := a.len
  pres := fun b h1 h2 => a.pres b (Nat.lt_of_lt_of_le h1 hl) h2
  tot := a.tot

/-- A draw changes nothing that matters. -/
theorem HRel.drew {ρ : Rho} {h : Heap} {w : World} (a : HRel ρ h w) : HRel ρ h w.drew :=
  ⟨a.dom, fun b e k h1 h2 => BR.mono (w := w) (w' := w.drew) (Rle.refl _) rfl (a.blk b e k h1 h2), a.inj⟩
theorem FRel.drew {ρ : Rho} {β : Bet} {bx : List (Nat × List V)} {w : World} (a : FRel ρ β bx w) : FRel ρ β bx w.drew := ⟨a.has, a.lt, a.inj, a.off⟩

/-- The variables of the frame outlive whatever a call does. -/
theorem FRel.ext {lo : Nat} {ρ ρ' : Rho} {β : Bet} {bx : List (Nat × List V)} {h h' : Heap} {w w' : World} (a : FRel ρ β bx w) (x : Ext lo w.heap.size ρ h w ρ' h' w') : FRel ρ' β bx w' where
  has := fun t r h1 => by
    obtain ⟨row, cs, el, h0, h2, h3⟩ := a.has t r h1
    refine ⟨row, cs, el, h0, ?_, VRs.mono x.rle _ _ h3⟩
    rw [x.frame r (a.lt t r h1) fun b e hb _ => a.off t r b e h1 hb]
    exact h2
  lt := fun t r h1 => Nat.lt_of_lt_of_le (a.lt t r h1) x.size
  inj := a.inj
  off := fun t r b e h1 hb => by
    cases hx : ρ b with
    | some e1 =>
      have := x.rle b e1 hx
      rw [this] at hb
      injection hb with hb; subst hb
      exact a.off t r b _ h1 hx
    | none =>
      have hl := a.lt t r h1
      rcases (x.new b e hx hb).2 with h5 | ⟨b1, e1, hb1, _, hr1⟩
      · omega
      · have := a.off t r b1 e1 h1 hb1
        omega

/-- What a slot holds: a pointer to the frame, or a value. -/
def SV (ρ : Rho) (β : Bet) (x : V) (v : Value) : Prop := match x with
  | .lp t j => ∃ r, β t = some r ∧ v = .pointer (some ⟨r, j, none⟩)
  | x => VR ρ x v
theorem SV.of {ρ : Rho} {β : Bet} {x : V} {v : Value} (h : VR ρ x v) : SV ρ β x v := by
  cases x <;> first | exact h | simp [VR] at h
theorem SV.ok {ρ : Rho} {β : Bet} {x : V} {v : Value} (h : SV ρ β x v) (hx : okV x = true) : VR ρ x v := by
  cases x <;> first | exact h | simp [okV] at hx
theorem SV.mono {ρ ρ' : Rho} {β β' : Bet} {x : V} {v : Value} (hr : Rle ρ ρ') (hb : Ble β β') (h : SV ρ β x v) : SV ρ' β' x v := by
  cases x <;> first | exact VR.mono hr _ _ h | (obtain ⟨r, h1, h2⟩ := h; exact ⟨r, hb _ _ h1, h2⟩)
/-- The slots. -/
def SRel (ρ : Rho) (β : Bet) (s : List (Nat × V)) (a : Act) : Prop := ∀ t, SV ρ β (look s t) (a.tmps.getD t undef)
theorem SRel.mono {ρ ρ' : Rho} {β β' : Bet} {s : List (Nat × V)} {a : Act} (h : SRel ρ β s a) (hr : Rle ρ ρ') (hb : Ble β β') : SRel ρ' β' s a := fun t => (h t).mono hr hb
theorem look_cons (u : Nat) (v : V) (s : List (Nat × V)) (t : Nat) : look ((u, v) :: s) t = if u = t then v else look s t := by
  simp only [look]
  by_cases h : u = t
  · subst h; simp
  · have : Nat.beq u t = false := by
      cases hb : Nat.beq u t with
      | false => rfl
      | true => exact absurd (Nat.eq_of_beq_eq_true hb) h
    simp [this, h]
theorem SRel.put {ρ : Rho} {β : Bet} {σ : St} {a : Act} {d : Option Nat} {v : V} {c : Value} (h : SRel ρ β σ.s a) (hv : SV ρ β v c) (hd : ∀ t, d = some t → t < a.tmps.size) : SRel ρ β (putS σ d v).s (a.put d c) := by
  intro t
  cases d with
  | none => exact h t
  | some u =>
    have hu := hd u rfl
    simp only [putS, Act.put, look_cons]
    by_cases e : u = t
    · subst e
      simp [hu, hv]
    · simp only [e, if_false]
      have := h t
      simpa [Array.getElem?_setIfInBounds, e] using this

theorem VR.any {ρ : Rho} (c : Value) : VR ρ .any c := by simp [VR]

mutual
theorem ofValue_rel (ρ : Rho) : ∀ v : Value, VR ρ (ofValue v) v
  | .int k n => by simp [ofValue, VR]
  | .bool b => by simp [ofValue, VR]
  | .string s => by simp [ofValue, VR]
  | .pointer none => by simp [ofValue, VR]
  | .pointer (some _) => by simp [ofValue, VR]
  | .slice none n c => by
    simp only [ofValue]
    split <;> simp [VR]
  | .slice (some _) _ _ => by simp [ofValue, VR]
  | .map none => by simp [ofValue, VR]
  | .map (some _) => by simp [ofValue, VR]
  | .nilFunc => by simp [ofValue, VR]
  | .nilIface => by simp [ofValue, VR]
  | .agg ⟨cs⟩ => by
    simp only [ofValue, VR]
    exact ⟨⟨cs⟩, rfl, ofValues_rel ρ cs⟩
  | .tuple ⟨cs⟩ => by
    simp only [ofValue, VR]
    exact ⟨⟨cs⟩, rfl, ofValues_rel ρ cs⟩
  | .float _ _ => by simp [ofValue, VR]
  | .complex _ _ _ => by simp [ofValue, VR]
  | .chan _ => by simp [ofValue, VR]
  | .func _ _ _ => by simp [ofValue, VR]
  | .iface _ _ => by simp [ofValue, VR]
theorem ofValues_rel (ρ : Rho) : ∀ vs : List Value, VRs ρ (ofValues vs) vs
  | [] => by simp [ofValues, VRs]
  | v :: r => by
    simp only [ofValues]
    exact VRs.cons (ofValue_rel ρ v) (ofValues_rel ρ r)
end

theorem ev_rel {ρ : Rho} {β : Bet} {s : List (Nat × V)} {a : Act} (h : SRel ρ β s a) : ∀ x : Operand, SV ρ β (ev s x) (a.eval x)
  | .tmp t => h t
  | .const v => SV.of (ofValue_rel ρ v)
  | .global _ => SV.of (VR.any _)
  | .func f => SV.of (by simp only [ev, VR, Act.eval, VRs]; exact ⟨#[], #[], [], rfl, ⟨rfl, rfl⟩, rfl⟩)
theorem evs_rel {ρ : Rho} {β : Bet} {s : List (Nat × V)} {a : Act} (h : SRel ρ β s a) : ∀ xs : List Operand, okVs (evs s xs) = true → VRs ρ (evs s xs) (xs.map a.eval)
  | [], _ => by simp [evs, VRs]
  | x :: r, hk => by
    simp only [evs, okVs] at hk
    split at hk
    · exact VRs.cons ((ev_rel h x).ok ‹_›) (evs_rel h r hk)
    · cases hk
end Go.Proofs.YtfbhdjkeofleiaaDoor.T
