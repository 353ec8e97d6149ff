/- Regions whose order the model draws: the invariant. -/
import Derived.Test.YtfbhdjkeofleiaaDoorTeeS
namespace Go.Proofs.YtfbhdjkeofleiaaDoor.T
open Go
set_option linter.unusedVariables false
set_option linter.unusedSimpArgs false
set_option linter.unnecessarySimpa false

/-- What has become of the model's memory. -/
structure Ext0 (lo base : Nat) (ρ : Rho) (n : Nat) (w : World) (ρ' : Rho) (w' : World) : Prop where
  rle : Rle ρ ρ'
  new : ∀ b e, ρ b = none → ρ' b = some e → n ≤ b ∧ (base ≤ e.r ∨ ∃ b0 e0, ρ b0 = some e0 ∧ lo ≤ b0 ∧ e0.r = e.r)
  frame : ∀ r, r < base → (∀ b e, ρ b = some e → lo ≤ b → e.r ≠ r) → w'.heap[r]? = w.heap[r]?
  size : w.heap.size ≤ w'.heap.size
  os : w'.os = w.os
  tape : w'.tape = w.tape
  output : w'.output = w.output

/-- where a variable of the frame came from -/
def BxOk (all : List Oper) (cl : Nat → Bool) (S : Nat → St) (β0 : Bet) (L : Nat → Prop) (t : Nat) : Prop := (∃ r0, β0 t = some r0) ∨ (∃ j, j < all.length ∧ L j ∧ lookB (S j).bx t = none ∧ (lookB (S (j + 1)).bx t).isSome = true) ∨ (∃ j o e, L j ∧ all[j]? = some o ∧ boxAt cl j o = some (t, e))
theorem BxOk.more {all : List Oper} {cl : Nat → Bool} {S : Nat → St} {β0 : Bet} {L : Nat → Prop} {t i : Nat} (h : BxOk all cl S β0 L t) : BxOk all cl S β0 (fun j => L j ∨ j = i) t := by
  rcases h with h | ⟨j, h1, h2, h3⟩ | ⟨j, o, e, h1, h2⟩
  · exact .inl h
  · exact .inr (.inl ⟨j, h1, .inl h2, h3⟩)
  · exact .inr (.inr ⟨j, o, e, .inl h1, h2⟩)

/-- Some operations are done ('L'), 'q' is the first of those that stand between all others and is not. -/
structure Inv (lo base nt : Nat) (ρ0 : Rho) (β0 : Bet) (w0 : World) (all : List Oper) (cl : Nat → Bool) (S : Nat → St) (L : Nat → Prop) (q : Nat) (ρ : Rho) (β : Bet) (a : Act) (w : World) : Prop where
  q1 : q ≤ all.length
  q2 : q < all.length → Bar all cl q ∧ ¬ L q
  q3 : ∀ j, j < q → Bar all cl j → L j
  h : HRel ρ (S q).h w
  f : FRel ρ β (S q).bx w
  s : ∀ t p, p ≤ all.length → (∀ j, Wr all j t → (L j ↔ j < p)) → SV ρ β (look (S p).s t) (a.tmps.getD t undef)
  own : ∀ t r, β t = some r → base ≤ r
  hB : base ≤ w.heap.size
  nt : a.tmps.size = nt
  df : a.defers = []
  x : Ext0 lo base ρ0 (S 0).h.length w0 ρ w
  tot : ∀ j, j < all.length → L j → ∀ b, (S j).h.length ≤ b → b < (S (j + 1)).h.length → ∃ e, ρ b = some e
  ids : ∀ b e, ρ b = some e → b < (S 0).h.length ∨ ∃ j, j < all.length ∧ L j ∧ (S j).h.length ≤ b ∧ b < (S (j + 1)).h.length
  bxs : ∀ t r, β t = some r → BxOk all cl S β0 L t

theorem look_keepS' : ∀ (ts : List Nat) (s : List (Nat × V)) (t : Nat), look (keepS ts s) t = if t ∈ ts then look s t else .any
  | [], s, t => rfl
  | u :: ts, s, t => by
    simp only [keepS, look_cons]
    by_cases h : u = t
    · subst h; simp
    · rw [if_neg h, look_keepS' ts s t]
      have : t ≠ u := Ne.symm h
      simp [this]
theorem opTmps_mem : ∀ {xs : List Operand} {t : Nat}, Operand.tmp t ∈ xs → t ∈ opTmps xs
  | [], t, h => by simp at h
  | x :: xs, t, h => by
    cases x <;> simp only [opTmps, List.mem_cons] at h ⊢
    · rcases h with h | h
      · injection h with h; exact .inl h
      · exact .inr (opTmps_mem h)
    all_goals (rcases h with h | h; cases h; exact opTmps_mem h)
theorem ev_keepS {xs : List Operand} {s : List (Nat × V)} : ∀ x ∈ xs, ev (keepS (opTmps xs) s) x = ev s x := fun x hx => by
  cases x with
  | tmp t => simp only [ev]; rw [look_keepS', if_pos (opTmps_mem hx)]
  | _ => rfl

section
variable {P : Program} {X : Ctx} {lo base nt : Nat} {ρ0 : Rho} {β0 : Bet} {w0 : World} {all : List Oper} {cl : Nat → Bool} {S : Nat → St} (hV : Env P X lo base nt ρ0 β0 w0 all cl S)
variable {L : Nat → Prop} {q : Nat} {ρ : Rho} {β : Bet} {a : Act} {w : World} (hI : Inv lo base nt ρ0 β0 w0 all cl S L q ρ β a w)
variable (hcl : ∀ (i : Nat) (o : Oper), all[i]? = some o → L i → ∀ e ∈ o.after.toList, bindsE e = true → L e.on)
variable {i : Nat} {o : Oper} (ho : all[i]? = some o) (hready : ∀ e ∈ o.after.toList, bindsE e = true → L e.on) (hn : ¬ L i)

def Bet.low (βt : Bet) (β : Bet) : Bet := fun t => if (βt t).isSome = true then β t else none
theorem Bet.low_some {βt : Bet} {β : Bet} {t r : Nat} (h : Bet.low βt β t = some r) : (βt t).isSome = true ∧ β t = some r := by
  unfold Bet.low at h; split at h
  · exact ⟨‹_›, h⟩
  · cases h
theorem Bet.low_of {βt : Bet} {β : Bet} {t r : Nat} (hb : (βt t).isSome = true) (h : β t = some r) : Bet.low βt β t = some r := by unfold Bet.low; rw [if_pos hb, h]

include hV hI in
/-- as an operation that writes nothing old sees it -/
theorem low_rel (hiq : i ≤ q) (hnb : ∀ k, i ≤ k → k < q → ¬ Bar all cl k) :
    ∃ βt : Bet, (∀ t r, β0 t = some r → βt t = some r) ∧ HRel (ρ.low (S i).h.length) (S i).h w ∧ FRel (ρ.low (S i).h.length) (Bet.low βt β) (S i).bx w ∧
      ∀ t c, SV ρ β (look (S i).s t) c → SV (ρ.low (S i).h.length) (Bet.low βt β) (look (S i).s t) c := by
  obtain ⟨ρt, βt, at', wt, hot, hmt⟩ := hV.ok i (Nat.le_trans hiq hI.q1)
  refine ⟨βt, fun t r hr => hmt.2.1 t r hr, ?_⟩
  have hN : ∀ b e, ρt b = some e → b < (S i).h.length := fun b e hb => (hot.h.dom b e hb).1
  have htot : ∀ b e, ρ b = some e → b < (S i).h.length → ∃ et, ρt b = some et := by
    intro b e hb hlt
    by_cases h0 : b < (S 0).h.length
    · cases h : ρ0 b with
      | none => have := (hI.x.new b e h hb).1; omega
      | some e0 => exact ⟨e0, hmt.1.rle b e0 h⟩
    · exact hmt.1.tot b (by omega) hlt
  refine ⟨⟨fun b e hb => ?_, fun b e k hb hk => ?_, fun b b' e e' hb hb' hr hne => ?_⟩, ⟨fun t r hr => ?_, fun t r hr => ?_, fun t t' r h1 h2 => ?_, fun t r b e h1 h2 => ?_⟩, fun t c hc => ?_⟩
  · obtain ⟨h1, h2⟩ := Rho.low_some hb
    exact ⟨h1, (hI.h.dom b e h2).2⟩
  · obtain ⟨h1, h2⟩ := Rho.low_some hb
    obtain ⟨et, het⟩ := htot b e h2 h1
    have hk' : (S q).h[b]? = some k := by rw [hV.same_le hiq hI.q1 hnb h1]; exact hk
    exact BR.low hN (hot.h.blk b et k het hk) (hI.h.blk b e k h2 hk')
  · obtain ⟨h1, h2⟩ := Rho.low_some hb
    obtain ⟨h3, h4⟩ := Rho.low_some hb'
    have e1 := hV.same_le hiq hI.q1 hnb h1
    have e2 := hV.same_le hiq hI.q1 hnb h3
    rcases hI.h.inj b b' e e' h2 h4 hr hne with h | h | ⟨⟨x, y, z, h⟩, ⟨x', y', z', h'⟩⟩
    · exact .inl (by unfold isDead at *; rw [← e1]; exact h)
    · exact .inr (.inl (by unfold isDead at *; rw [← e2]; exact h))
    · exact .inr (.inr ⟨⟨x, y, z, by rw [← e1]; exact h⟩, ⟨x', y', z', by rw [← e2]; exact h'⟩⟩)
  · obtain ⟨h1, h2⟩ := Bet.low_some hr
    obtain ⟨row, cs, el, g1, g2, g3⟩ := hI.f.has t r h2
    obtain ⟨rt, hrt⟩ := Option.isSome_iff_exists.1 h1
    obtain ⟨rowt, ct, elt, k1, k2, k3⟩ := hot.f.has t rt hrt
    have := hV.bx_same hiq hI.q1 hnb k1
    rw [g1] at this; injection this with this; subst this
    exact ⟨row, cs, el, k1, g2, VRs.low hN _ _ _ k3 g3⟩
  · exact hI.f.lt t r (Bet.low_some hr).2
  · exact hI.f.inj t t' r (Bet.low_some h1).2 (Bet.low_some h2).2
  · exact hI.f.off t r b e (Bet.low_some h1).2 (Rho.low_some h2).2
  · have ht := hot.s t
    generalize hv : look (S i).s t = v at hc ht
    cases v with
    | lp u j =>
      obtain ⟨r, h1, h2⟩ := hc
      obtain ⟨rt, h3, _⟩ := ht
      exact ⟨r, Bet.low_of (by rw [h3]; rfl) h1, h2⟩
    | _ => exact VR.low hN _ c (at'.tmps.getD t undef) ht hc

include hV hI hcl ho hready hn in
/-- what the operation reads -/
theorem reads_rel {t : Nat} (ht : t ∈ touchesT all o) : SV ρ β (look (S i).s t) (a.tmps.getD t undef) :=
  hI.s t i (Nat.le_of_lt (List.getElem?_eq_some_iff.1 ho).1) fun j hw => touch_listed hV.G hcl ho hready hn ht hw

include hV hI hcl ho hready hn in
/-- the slots, one operation later -/
theorem slots_next {v : V} {σ1 : St} {c : Value} {ρ2 : Rho} {β2 : Bet} (hS : S (i + 1) = putS σ1 o.dst v) (h1 : σ1.s = (S i).s) (hr : Rle ρ ρ2) (hb : Ble β β2) (hv : SV ρ2 β2 v c) :
    ∀ t p, p ≤ all.length → (∀ j, Wr all j t → ((L j ∨ j = i) ↔ j < p)) → SV ρ2 β2 (look (S p).s t) ((a.put o.dst c).tmps.getD t undef) := by
  intro t p hp hw
  by_cases hd : o.dst = some t
  · have hip : i < p := (hw i ⟨o, ho, hd⟩).1 (.inr rfl)
    have hno : ∀ j, i + 1 ≤ j → j < p → ¬ Wr all j t := fun j h2 h3 hwr => by
      have hL := (hw j hwr).2 h3
      have ht : t ∈ touchesT all o := by unfold touchesT; rw [hd]; simp
      have := touch_listed hV.G hcl ho hready hn ht hwr
      rcases hL with hL | hL
      · have := this.1 hL; omega
      · omega
    rw [hV.slot_same (i := i + 1) hip hp hno, hS, hd]
    have hlt : t < a.tmps.size := by rw [hI.nt]; exact hV.dst i o ho t hd
    simp only [putS, look_cons, if_true, Act.put]
    rw [Array.getD_eq_getD_getElem?, Array.getElem?_setIfInBounds_self_of_lt hlt]
    exact hv
  · have hold : SV ρ β (look (S p).s t) (a.tmps.getD t undef) := hI.s t p hp fun j hwr => by
      have hne : j ≠ i := fun e => by
        subst e
        obtain ⟨q', h2, h3⟩ := hwr
        rw [ho] at h2; injection h2 with h2; subst h2
        exact hd h3
      rw [← hw j hwr]
      exact ⟨.inl, fun h => h.resolve_right hne⟩
    have : (a.put o.dst c).tmps.getD t undef = a.tmps.getD t undef := by
      cases hd' : o.dst with
      | none => rfl
      | some u =>
        have hne : u ≠ t := fun e => hd (by rw [hd', e])
        simp only [Act.put]
        rw [Array.getD_eq_getD_getElem?, Array.getElem?_setIfInBounds_ne hne, ← Array.getD_eq_getD_getElem?]
    rw [this]
    exact hold.mono hr hb
end
end Go.Proofs.YtfbhdjkeofleiaaDoor.T
