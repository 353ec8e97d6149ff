/- Regions whose order the model draws: the chain of T's states, the order of the operations. -/
import Derived.Test.YtfknhpajlfiliaaTeeP
namespace Go.Proofs.Ytfknhpajlfiliaa.T
open Go
set_option linter.unusedVariables false
set_option linter.unusedSimpArgs false
set_option linter.unnecessarySimpa false

def gOut (all : List Oper) (s : List (Nat × V)) (g : Option (Nat × Bool)) : Option Bool := guardT all s g (some true) (some false)
theorem guard_some {R : Type} {all : List Oper} {s : List (Nat × V)} {g : Option (Nat × Bool)} {run skip : Option R} {r : R} (h : guardT all s g run skip = some r) : (gOut all s g = some true ∧ run = some r) ∨ (gOut all s g = some false ∧ skip = some r) := by
  unfold gOut
  unfold guardT at h ⊢
  split at h
  · exact .inl ⟨rfl, h⟩
  · split at h
    · cases h
    · split at h
      · cases h
      · split at h
        · rename_i b _
          split at h <;> rcases br_some h with ⟨rfl, h⟩ | ⟨rfl, h⟩ <;> simp_all [br]
        · simp_all
        · cases h

/-- One operation of the chain. -/
def StepAt (X : Ctx) (lo : Nat) (all : List Oper) (calm : Nat → Bool) (j : Nat) (o : Oper) (σ σ' : St) : Prop :=
  (gOut all σ.s o.guard = some true ∧ ∃ v σ1, stepOp X (if calm j then σ.h.length else lo) o.dst o.type o.op σ = some (v, σ1) ∧ σ' = putS σ1 o.dst v) ∨
  (gOut all σ.s o.guard = some false ∧ σ' = putS σ o.dst (.tup []))

theorem chain_of {X : Ctx} {lo : Nat} {all : List Oper} {calm : Nat → Bool} {R : Type} {k : St → Option R} {r : R} : ∀ (rest : List Oper) (i : Nat) (σ : St), all.drop i = rest → opsT X lo all calm i rest σ k = some r →
    ∃ S : Nat → St, S i = σ ∧ k (S (i + rest.length)) = some r ∧ ∀ j o, i ≤ j → all[j]? = some o → StepAt X lo all calm j o (S j) (S (j + 1))
  | [], i, σ, hr, hk => ⟨fun _ => σ, rfl, hk, fun j o hj ho => by
      have : all.length ≤ i := List.drop_eq_nil_iff.1 hr
      have := (List.getElem?_eq_some_iff.1 ho).1
      omega⟩
  | o :: rest, i, σ, hr, hk => by
    obtain ⟨hi, hr'⟩ := List.drop_cons' hr
    simp only [opsT] at hk
    have main : ∀ σ', opsT X lo all calm (i + 1) rest σ' k = some r → StepAt X lo all calm i o σ σ' → ∃ S : Nat → St, S i = σ ∧ k (S (i + (o :: rest).length)) = some r ∧ ∀ j o, i ≤ j → all[j]? = some o → StepAt X lo all calm j o (S j) (S (j + 1)) := by
      intro σ' hk' hst
      obtain ⟨S, h1, h2, h3⟩ := chain_of rest (i + 1) σ' hr' hk'
      refine ⟨fun j => if j ≤ i then σ else S j, by simp, ?_, fun j o' hj ho => ?_⟩
      · show k (if i + (o :: rest).length ≤ i then σ else S (i + (o :: rest).length)) = some r
        rw [if_neg (by simp), List.length_cons, show i + (rest.length + 1) = i + 1 + rest.length by omega]; exact h2
      · by_cases e : j = i
        · subst e
          rw [hi] at ho; injection ho with ho; subst ho
          show StepAt X lo all calm j o (if j ≤ j then σ else S j) (if j + 1 ≤ j then σ else S (j + 1))
          rw [if_pos (Nat.le_refl _), if_neg (by omega), h1]
          exact hst
        · show StepAt X lo all calm j o' (if j ≤ i then σ else S j) (if j + 1 ≤ i then σ else S (j + 1))
          rw [if_neg (by omega), if_neg (by omega)]
          exact h3 j o' (by omega) ho
    rcases guard_some hk with ⟨hg, hk1⟩ | ⟨hg, hk1⟩
    · cases hc : calm i with
      | true =>
        rw [hc] at hk1
        obtain ⟨v, σ1, h1, h2⟩ := opT_some hk1
        exact main _ h2 (.inl ⟨hg, v, σ1, by rw [hc]; exact h1, rfl⟩)
      | false =>
        rw [hc] at hk1
        obtain ⟨v, σ1, h1, h2⟩ := opT_some hk1
        exact main _ h2 (.inl ⟨hg, v, σ1, by rw [hc]; exact h1, rfl⟩)
    · exact main _ hk1 (.inr ⟨hg, rfl⟩)

/-! ### what 'drawOk' says -/
section
variable {all : List Oper}
theorem mem_zip {i : Nat} {o : Oper} (h : all[i]? = some o) : (o, i) ∈ all.zipIdx := List.mem_zipIdx_iff_getElem?.2 h
theorem beqF {a b : Nat} (h : a ≠ b) : Nat.beq a b = false := by
  cases hb : Nat.beq a b with
  | false => rfl
  | true => exact absurd (Nat.eq_of_beq_eq_true hb) h

structure Graph (all : List Oper) : Prop where
  wr : ∀ (i : Nat) (o : Oper), all[i]? = some o → isWrite o = true → freeAt (aheadL [] all) all i = true
  edge : ∀ (i : Nat) (o : Oper), all[i]? = some o → ∀ e ∈ o.after.toList, e.on < i
  guard : ∀ (i : Nat) (o : Oper) (j : Nat) (b : Bool), all[i]? = some o → o.guard = some (j, b) → ((aheadL [] all).getD i 0).testBit j = true
  pair : ∀ (i j : Nat) (p q : Oper), all[i]? = some p → all[j]? = some q → i < j → cmpB (aheadL [] all) i j = true ∨ (disj p.dst.toList (touchesT all q) = true ∧ disj q.dst.toList (touchesT all p) = true)
theorem graph_of (h : drawOk (aheadL [] all) all = true) : Graph all := by
  unfold drawOk at h
  have hp : ∀ (i : Nat) (o : Oper), all[i]? = some o → _ := fun i o ho => List.all_eq_true.1 h (o, i) (mem_zip ho)
  simp only [Bool.and_eq_true] at hp
  refine ⟨fun i o ho hw => ?_, fun i o ho e he => ?_, fun i o j b ho hg => ?_, fun i j p q hpi hqj hij => ?_⟩
  · have := (hp i o ho).1.1.1
    rw [hw] at this; simpa using this
  · have := List.all_eq_true.1 (hp i o ho).1.1.2 e he
    simpa [Nat.blt_eq] using this
  · have := (hp i o ho).1.2
    rw [hg] at this; exact this
  · have := List.all_eq_true.1 (hp i p hpi).2 (q, j) (mem_zip hqj)
    have hb : Nat.blt i j = true := by simpa [Nat.blt_eq] using hij
    simp only [hb, Bool.not_true, Bool.false_or, Bool.or_eq_true, Bool.and_eq_true] at this
    exact this
theorem free_spec {i j : Nat} {q : Oper} (h : freeAt (aheadL [] all) all i = true) (hq : all[j]? = some q) (hne : j ≠ i) (hi : inert q = false) : cmpB (aheadL [] all) i j = true := by
  have := List.all_eq_true.1 h (q, j) (mem_zip hq)
  simp only [beqF hne, hi, Bool.false_or] at this
  exact this
theorem disj_not {a b : List Nat} {t : Nat} (h : disj a b = true) (ha : t ∈ a) (hb : t ∈ b) : False := by
  have := List.all_eq_true.1 h t ha
  simp only [Bool.not_eq_true', List.any_eq_false] at this
  exact this t hb (by simp)

variable (hG : Graph all)
include hG
theorem bit_lt : ∀ (i : Nat) (o : Oper) (j : Nat), all[i]? = some o → ((aheadL [] all).getD i 0).testBit j = true → j < i := by
  intro i
  induction i using Nat.strongRecOn with
  | _ i ih =>
    intro o j ho hb
    obtain ⟨e, h1, h2, h3⟩ := aheadL_spec all [] i j o ho (by simpa using hb)
    have hlt := hG.edge i o ho e h1
    rcases h3 with h3 | h3
    · omega
    · have hlen : i < all.length := (List.getElem?_eq_some_iff.1 ho).1
      have := ih e.on hlt _ j (List.getElem?_eq_getElem (by omega)) h3
      omega
theorem ahead_listed {L : Nat → Prop} (hcl : ∀ (i : Nat) (o : Oper), all[i]? = some o → L i → ∀ e ∈ o.after.toList, bindsE e = true → L e.on) :
    ∀ (i : Nat) (o : Oper) (j : Nat), all[i]? = some o → (∀ e ∈ o.after.toList, bindsE e = true → L e.on) → ((aheadL [] all).getD i 0).testBit j = true → L j := by
  intro i
  induction i using Nat.strongRecOn with
  | _ i ih =>
    intro o j ho hready hb
    obtain ⟨e, h1, h2, h3⟩ := aheadL_spec all [] i j o ho (by simpa using hb)
    have hlt := hG.edge i o ho e h1
    have hL := hready e h1 h2
    rcases h3 with h3 | h3
    · exact h3 ▸ hL
    · have hlen : i < all.length := (List.getElem?_eq_some_iff.1 ho).1
      have ho' : all[e.on]? = some all[e.on] := List.getElem?_eq_getElem (by omega)
      exact ih e.on hlt _ j ho' (hcl _ _ ho' hL) h3
/-- 'i' is next: those comparable with it are listed if and only if they come first. -/
theorem cmp_listed {L : Nat → Prop} (hcl : ∀ (i : Nat) (o : Oper), all[i]? = some o → L i → ∀ e ∈ o.after.toList, bindsE e = true → L e.on) {i j : Nat} {o q : Oper} (ho : all[i]? = some o) (hq : all[j]? = some q)
    (hready : ∀ e ∈ o.after.toList, bindsE e = true → L e.on) (hn : ¬ L i) (hne : j ≠ i) (hc : cmpB (aheadL [] all) i j = true ∨ cmpB (aheadL [] all) j i = true) : L j ↔ j < i := by
  have hc' : ((aheadL [] all).getD i 0).testBit j = true ∨ ((aheadL [] all).getD j 0).testBit i = true := by
    unfold cmpB at hc
    rcases hc with hc | hc <;> split at hc <;> simp_all
  rcases hc' with h | h
  · have := bit_lt hG i o j ho h
    exact ⟨fun _ => this, fun _ => ahead_listed hG hcl i o j ho hready h⟩
  · have := bit_lt hG j q i hq h
    exact ⟨fun hL => absurd (ahead_listed hG hcl j q i hq (hcl j q hq hL) h) hn, fun h => by omega⟩
def Wr (all : List Oper) (j t : Nat) : Prop := ∃ q, all[j]? = some q ∧ q.dst = some t
omit hG in
theorem touch_listed (hG : Graph all) {L : Nat → Prop} (hcl : ∀ (i : Nat) (o : Oper), all[i]? = some o → L i → ∀ e ∈ o.after.toList, bindsE e = true → L e.on) {i : Nat} {o : Oper} (ho : all[i]? = some o)
    (hready : ∀ e ∈ o.after.toList, bindsE e = true → L e.on) (hn : ¬ L i) {t : Nat} (ht : t ∈ touchesT all o) {j : Nat} (hw : Wr all j t) : L j ↔ j < i := by
  obtain ⟨q, hq, hd⟩ := hw
  by_cases hne : j = i
  · subst hne; exact ⟨fun h => absurd h hn, fun h => by omega⟩
  · refine cmp_listed hG hcl ho hq hready hn hne ?_
    rcases Nat.lt_or_ge i j with h | h
    · rcases hG.pair i j o q ho hq h with h1 | ⟨_, h1⟩
      · exact .inl h1
      · exact (disj_not h1 (by rw [hd]; simp) ht).elim
    · rcases hG.pair j i q o hq ho (by omega) with h1 | ⟨h1, _⟩
      · exact .inr h1
      · exact (disj_not h1 (by rw [hd]; simp) ht).elim
end
end Go.Proofs.Ytfknhpajlfiliaa.T
