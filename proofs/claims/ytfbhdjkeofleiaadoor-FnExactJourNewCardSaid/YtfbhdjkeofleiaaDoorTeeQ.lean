/- Regions whose order the model draws: the chain of T's states, the order of the operations. -/
import Derived.Test.YtfbhdjkeofleiaaDoorTeeP
namespace Go.Proofs.YtfbhdjkeofleiaaDoor.T
open Go
set_option linter.unusedVariables false
set_option linter.unusedSimpArgs false
set_option linter.unnecessarySimpa false

def gOut (all : List Oper) (s : List (Nat × V)) (g : Option (Nat × Bool)) : Option Bool := guardT all s g (some true) (some false)
theorem guard_some {R : Type} {all : List Oper} {s : List (Nat × V)} {g : Option (Nat × Bool)} {run skip : Option R} {r : R} (h : guardT all s g run skip = some r) : (gOut all s g = some true ∧ run = some r) ∨ (gOut all s g = some false ∧ skip = some r) := by
  unfold gOut
  unfold guardT at h ⊢
  split at h
  · exact .inl ⟨rfl, h⟩
  · split at h
    · cases h
    · split at h
      · cases h
      · split at h
        · rename_i b _
          split at h <;> rcases br_some h with ⟨rfl, h⟩ | ⟨rfl, h⟩ <;> simp_all [br]
        · simp_all
        · cases h

/-- One operation of the chain. -/
def StepAt (X : Ctx) (lo : Nat) (all : List Oper) (calm al : Nat → Bool) (j : Nat) (o : Oper) (σ σ' : St) : Prop :=
  (boxAt al j o = none ∧ gOut all σ.s o.guard = some true ∧ ∃ v σ1, stepOp X (if calm j then σ.h.length else lo) o.dst o.type o.op σ = some (v, σ1) ∧ σ' = putS σ1 o.dst v) ∨
  (boxAt al j o = none ∧ gOut all σ.s o.guard = some false ∧ σ' = putS σ o.dst (.tup [])) ∨
  (∃ t e, boxAt al j o = some (t, e) ∧ σ' = putS σ o.dst (.lp t 0))
theorem boxAt_spec {al : Nat → Bool} {j : Nat} {o : Oper} {t e : Nat} (h : boxAt al j o = some (t, e)) : al j = true ∧ o.op = .alloc e ∧ o.dst = some t ∧ mkBox o = some (t, e) := by
  unfold boxAt at h
  split at h
  · exact ⟨‹_›, (mkBox_spec h).1, (mkBox_spec h).2, h⟩
  · cases h
theorem boxAt_load {al : Nat → Bool} {j : Nat} {o : Oper} {a : Nat} (h : loadTmp o = some a) : boxAt al j o = none := by
  unfold boxAt
  split
  · unfold mkBox
    unfold loadTmp at h
    split at h
    · rename_i ho; rw [ho]
    · cases h
  · rfl

/-- what the chain's step must leave it leaves -/
def KeepAt (X : Ctx) (calm : Nat → Bool) (ck : Nat → List Oper) (j : Nat) (σ σ' : St) : Prop := calm j = false → ∀ p ∈ ck j, Keeps X σ σ' p
theorem Keeps.put {X : Ctx} {σ σ' : St} {p : Oper} {d : Option Nat} {v : V} (h : Keeps X σ σ' p) : Keeps X σ (putS σ' d v) p := by cases d <;> exact h
theorem Keeps.same {X : Ctx} {σ : St} {p : Oper} {d : Option Nat} {v : V} : Keeps X σ (putS σ d v) p := Keeps.put ⟨fun t x _ => ⟨fun u j row _ h => h, fun b i j _ => rfl⟩, fun t e _ row h => h⟩

theorem chain_of {X : Ctx} {lo : Nat} {all : List Oper} {calm al : Nat → Bool} {ck : Nat → List Oper} {R : Type} {k : St → Option R} {r : R} : ∀ (rest : List Oper) (i : Nat) (σ : St), all.drop i = rest → opsT X lo all calm ck al i rest σ k = some r →
    ∃ S : Nat → St, S i = σ ∧ k (S (i + rest.length)) = some r ∧ ∀ j o, i ≤ j → all[j]? = some o → StepAt X lo all calm al j o (S j) (S (j + 1)) ∧ KeepAt X calm ck j (S j) (S (j + 1))
  | [], i, σ, hr, hk => ⟨fun _ => σ, rfl, hk, fun j o hj ho => by
      have : all.length ≤ i := List.drop_eq_nil_iff.1 hr
      have := (List.getElem?_eq_some_iff.1 ho).1
      omega⟩
  | o :: rest, i, σ, hr, hk => by
    obtain ⟨hi, hr'⟩ := List.drop_cons' hr
    simp only [opsT] at hk
    have main : ∀ σ', opsT X lo all calm ck al (i + 1) rest σ' k = some r → StepAt X lo all calm al i o σ σ' → KeepAt X calm ck i σ σ' → ∃ S : Nat → St, S i = σ ∧ k (S (i + (o :: rest).length)) = some r ∧ ∀ j o, i ≤ j → all[j]? = some o → StepAt X lo all calm al j o (S j) (S (j + 1)) ∧ KeepAt X calm ck j (S j) (S (j + 1)) := by
      intro σ' hk' hst hkp
      obtain ⟨S, h1, h2, h3⟩ := chain_of rest (i + 1) σ' hr' hk'
      refine ⟨fun j => if j ≤ i then σ else S j, by simp, ?_, fun j o' hj ho => ?_⟩
      · show k (if i + (o :: rest).length ≤ i then σ else S (i + (o :: rest).length)) = some r
        rw [if_neg (by simp), List.length_cons, show i + (rest.length + 1) = i + 1 + rest.length by omega]; exact h2
      · by_cases e : j = i
        · subst e
          rw [hi] at ho; injection ho with ho; subst ho
          show StepAt X lo all calm al j o (if j ≤ j then σ else S j) (if j + 1 ≤ j then σ else S (j + 1)) ∧ KeepAt X calm ck j (if j ≤ j then σ else S j) (if j + 1 ≤ j then σ else S (j + 1))
          rw [if_pos (Nat.le_refl _), if_neg (by omega), h1]
          exact ⟨hst, hkp⟩
        · show StepAt X lo all calm al j o' (if j ≤ i then σ else S j) (if j + 1 ≤ i then σ else S (j + 1)) ∧ KeepAt X calm ck j (if j ≤ i then σ else S j) (if j + 1 ≤ i then σ else S (j + 1))
          rw [if_neg (by omega), if_neg (by omega)]
          exact h3 j o' (by omega) ho
    cases hbx : boxAt al i o with
    | some q =>
      obtain ⟨t, e⟩ := q
      rw [hbx] at hk
      exact main _ hk (.inr (.inr ⟨t, e, hbx, rfl⟩)) (fun _ p hp => Keeps.same)
    | none =>
    rw [hbx] at hk
    simp only at hk
    rcases guard_some hk with ⟨hg, hk1⟩ | ⟨hg, hk1⟩
    · cases hc : calm i with
      | true =>
        rw [hc] at hk1
        obtain ⟨v, σ1, h1, h2⟩ := opT_some hk1
        exact main _ h2 (.inl ⟨hbx, hg, v, σ1, by rw [hc]; exact h1, rfl⟩) (fun hcf => by rw [hc] at hcf; cases hcf)
      | false =>
        rw [hc] at hk1
        obtain ⟨v, σ1, h1, h2⟩ := opT_some hk1
        obtain ⟨h3, h4⟩ := keeps_chk (s := σ.s) (bx := σ.bx) (h := σ.h) h1 h2
        exact main _ h3 (.inl ⟨hbx, hg, v, σ1, by rw [hc]; exact h1, rfl⟩) (fun _ p hp => (h4 p hp).put)
    · exact main _ hk1 (.inr (.inl ⟨hbx, hg, rfl⟩)) (fun _ p hp => Keeps.same)

/-! ### what 'drawOk' says -/
section
variable {all : List Oper} {cl : Nat → Bool}
theorem mem_zip {i : Nat} {o : Oper} (h : all[i]? = some o) : (o, i) ∈ all.zipIdx := List.mem_zipIdx_iff_getElem?.2 h
theorem beqF {a b : Nat} (h : a ≠ b) : Nat.beq a b = false := by
  cases hb : Nat.beq a b with
  | false => rfl
  | true => exact absurd (Nat.eq_of_beq_eq_true hb) h

theorem stays_spec {a n : Nat} (h : stays all a n = true) {j : Nat} {q : Oper} (hj : n ≤ j) (hq : all[j]? = some q) : q.dst ≠ some a := fun hd => by
  have h2 := List.all_eq_true.1 h (q, j) (mem_zip hq)
  have hb : Nat.blt j n = false := by
    cases hb : Nat.blt j n with
    | false => rfl
    | true => have : j < n := by simpa [Nat.blt_eq] using hb
              omega
  have ha : Nat.beq a a = true := by simp
  simp only [hb, Bool.false_or, hd, Option.toList_some, List.any_cons, List.any_nil, Bool.or_false, ha, Bool.not_true] at h2
  cases h2
structure Graph (all : List Oper) (cl : Nat → Bool) : Prop where
  wr : ∀ (i : Nat) (o : Oper), all[i]? = some o → isWrite o = true → freeAt (aheadL [] all) all cl i = true
  edge : ∀ (i : Nat) (o : Oper), all[i]? = some o → ∀ e ∈ o.after.toList, bindsE e = true → e.on < i
  stat : ∀ (i : Nat) (o : Oper), all[i]? = some o → cl i = true → boxAt cl i o = none → ∃ t a, o.op = .load t (.tmp a) ∧ stays all a i = true ∧ ∀ (n : Nat) (p : Oper), all[n]? = some p → isStoreOp p = true → cmpB (aheadL [] all) n i = true ∨ stays all a n = true
  box : ∀ (i : Nat) (o : Oper) (t e : Nat), all[i]? = some o → boxAt cl i o = some (t, e) → (aheadL [] all).getD i 0 = 0 ∧ o.guard = none
  guard : ∀ (i : Nat) (o : Oper) (j : Nat) (b : Bool), all[i]? = some o → o.guard = some (j, b) → ((aheadL [] all).getD i 0).testBit j = true
  pair : ∀ (i j : Nat) (p q : Oper), all[i]? = some p → all[j]? = some q → i < j → cmpB (aheadL [] all) i j = true ∨ (disj p.dst.toList (touchesT all q) = true ∧ disj q.dst.toList (touchesT all p) = true)
theorem graph_of (h : drawOk (aheadL [] all) all cl = true) : Graph all cl := by
  unfold drawOk at h
  have hp : ∀ (i : Nat) (o : Oper), all[i]? = some o → _ := fun i o ho => List.all_eq_true.1 h (o, i) (mem_zip ho)
  simp only [Bool.and_eq_true] at hp
  refine ⟨fun i o ho hw => ?_, fun i o ho e he hbi => ?_, fun i o ho hc hbn => ?_, fun i o t e ho hbx => ?_, fun i o j b ho hg => ?_, fun i j p q hpi hqj hij => ?_⟩
  · have := (hp i o ho).1.1.1.2
    rw [hw] at this; simpa using this
  · have := List.all_eq_true.1 (hp i o ho).1.1.2 e he
    simpa [Nat.blt_eq, hbi] using this
  · have := (hp i o ho).1.1.1.1
    rw [hc] at this
    simp only [Bool.not_true, Bool.false_or] at this
    unfold clStat at this
    cases hl : loadTmp o with
    | none =>
      rw [hl] at this
      have hm : mkBox o = none := by unfold boxAt at hbn; rw [hc] at hbn; exact hbn
      rw [hm] at this; cases this
    | some a =>
      rw [hl] at this
      have hop : ∃ t, o.op = .load t (.tmp a) := by
        unfold loadTmp at hl
        split at hl
        · rename_i t a' ho'; injection hl with hl; subst hl; exact ⟨t, ho'⟩
        · cases hl
      obtain ⟨t, hop⟩ := hop
      rw [Bool.and_eq_true] at this
      refine ⟨t, a, hop, this.1, fun n p hp hs => ?_⟩
      have h3 := List.all_eq_true.1 this.2 (p, n) (mem_zip hp)
      simpa only [hs, Bool.not_true, Bool.false_or, Bool.or_eq_true] using h3
  · have := (hp i o ho).1.1.1.1
    obtain ⟨hc, hop, hdst, hm⟩ := boxAt_spec hbx
    rw [hc] at this
    simp only [Bool.not_true, Bool.false_or] at this
    unfold clStat at this
    have hl : loadTmp o = none := by unfold loadTmp; rw [hop]
    rw [hl, hm] at this
    simp only [Bool.and_eq_true, Option.isNone_iff_eq_none] at this
    exact ⟨Nat.eq_of_beq_eq_true this.1, this.2⟩
  · have := (hp i o ho).1.2
    rw [hg] at this; exact this
  · have := List.all_eq_true.1 (hp i p hpi).2 (q, j) (mem_zip hqj)
    have hb : Nat.blt i j = true := by simpa [Nat.blt_eq] using hij
    simp only [hb, Bool.not_true, Bool.false_or, Bool.or_eq_true, Bool.and_eq_true] at this
    exact this
theorem free_spec {i j : Nat} {q : Oper} (h : freeAt (aheadL [] all) all cl i = true) (hq : all[j]? = some q) (hne : j ≠ i) (hi : inert q = false) (hc : cl j = false) : cmpB (aheadL [] all) i j = true := by
  have := List.all_eq_true.1 h (q, j) (mem_zip hq)
  simp only [beqF hne, hi, hc, Bool.false_or, Bool.or_false] at this
  exact this
theorem clash_spec {M : List Nat} {j a : Nat} {q : Oper} (ha : loadTmp q = some a) (hs : stays all a j = true) : ∀ {l : List Oper} {i : Nat} {k : Nat}, l[k]? = some q → cl (i + k) = true → cmpB M j (i + k) = false → q ∈ clashL M all cl j i l
  | [], i, k, h, _, _ => by simp at h
  | p :: l, i, k, h, hc, hm => by
    cases k with
    | zero =>
      simp at h; subst h
      rw [Nat.add_zero] at hc hm
      simp [clashL, hc, hm, ha, hs]
    | succ k =>
      have ih : q ∈ clashL M all cl j (i + 1) l := clash_spec ha hs (k := k) (by simpa using h) (by rw [← hc]; congr 1; omega) (by rw [← hm]; congr 1; omega)
      simp only [clashL]
      split
      · exact ih
      · split
        · exact ih
        · split
          · split
            · exact List.mem_cons_of_mem _ ih
            · exact ih
          · split
            · exact ih
            · exact List.mem_cons_of_mem _ ih
theorem clash_box {M : List Nat} {j t e : Nat} {q : Oper} (ha : mkBox q = some (t, e)) : ∀ {l : List Oper} {i : Nat} {k : Nat}, l[k]? = some q → cl (i + k) = true → cmpB M j (i + k) = false → q ∈ clashL M all cl j i l
  | [], i, k, h, _, _ => by simp at h
  | p :: l, i, k, h, hc, hm => by
    cases k with
    | zero =>
      simp at h; subst h
      rw [Nat.add_zero] at hc hm
      have hl : loadTmp p = none := by unfold loadTmp; rw [(mkBox_spec ha).1]
      simp [clashL, hc, hm, ha, hl]
    | succ k =>
      have ih : q ∈ clashL M all cl j (i + 1) l := clash_box ha (k := k) (by simpa using h) (by rw [← hc]; congr 1; omega) (by rw [← hm]; congr 1; omega)
      simp only [clashL]
      split
      · exact ih
      · split
        · exact ih
        · split
          · split
            · exact List.mem_cons_of_mem _ ih
            · exact ih
          · split
            · exact ih
            · exact List.mem_cons_of_mem _ ih
theorem ck_box {M : List Nat} {j k t e : Nat} {o q : Oper} (ho : all[j]? = some o) (hi : inert o = false) (hj : cl j = false) (hq : all[k]? = some q) (hc : cl k = true) (hm : cmpB M j k = false) (ha : mkBox q = some (t, e)) : q ∈ ckOf M all cl j := by
  unfold ckOf
  rw [ho]; simp only [hi, hj]
  exact clash_box ha (i := 0) hq (by rw [Nat.zero_add]; exact hc) (by rw [Nat.zero_add]; exact hm)
theorem ck_spec {M : List Nat} {j k a : Nat} {o q : Oper} (ho : all[j]? = some o) (hi : inert o = false) (hj : cl j = false) (hq : all[k]? = some q) (hc : cl k = true) (hm : cmpB M j k = false) (ha : loadTmp q = some a) (hs : stays all a j = true) : q ∈ ckOf M all cl j := by
  unfold ckOf
  rw [ho]; simp only [hi, hj]
  exact clash_spec ha hs (i := 0) hq (by rw [Nat.zero_add]; exact hc) (by rw [Nat.zero_add]; exact hm)
theorem early_spec {M : List Nat} {i a n : Nat} {p : Oper} (h : early M all cl i a = true) (hp : all[n]? = some p) (hi : inert p = false) (hc : cl n = false) (hm : cmpB M n i = false) (hf : freeAt M all cl n = true) : stays all a n = true := by
  have h3 := List.all_eq_true.1 h (p, n) (mem_zip hp)
  simpa only [hi, hc, hm, hf, Bool.false_or, Bool.not_true, Bool.or_false] using h3
theorem disj_not {a b : List Nat} {t : Nat} (h : disj a b = true) (ha : t ∈ a) (hb : t ∈ b) : False := by
  have := List.all_eq_true.1 h t ha
  simp only [Bool.not_eq_true', List.any_eq_false] at this
  exact this t hb (by simp)

variable (hG : Graph all cl)
include hG
theorem bit_lt : ∀ (i : Nat) (o : Oper) (j : Nat), all[i]? = some o → ((aheadL [] all).getD i 0).testBit j = true → j < i := by
  intro i
  induction i using Nat.strongRecOn with
  | _ i ih =>
    intro o j ho hb
    obtain ⟨e, h1, h2, h3⟩ := aheadL_spec all [] i j o ho (by simpa using hb)
    have hlt := hG.edge i o ho e h1 h2
    rcases h3 with h3 | h3
    · omega
    · have hlen : i < all.length := (List.getElem?_eq_some_iff.1 ho).1
      have := ih e.on hlt _ j (List.getElem?_eq_getElem (by omega)) h3
      omega
theorem ahead_listed {L : Nat → Prop} (hcl : ∀ (i : Nat) (o : Oper), all[i]? = some o → L i → ∀ e ∈ o.after.toList, bindsE e = true → L e.on) :
    ∀ (i : Nat) (o : Oper) (j : Nat), all[i]? = some o → (∀ e ∈ o.after.toList, bindsE e = true → L e.on) → ((aheadL [] all).getD i 0).testBit j = true → L j := by
  intro i
  induction i using Nat.strongRecOn with
  | _ i ih =>
    intro o j ho hready hb
    obtain ⟨e, h1, h2, h3⟩ := aheadL_spec all [] i j o ho (by simpa using hb)
    have hlt := hG.edge i o ho e h1 h2
    have hL := hready e h1 h2
    rcases h3 with h3 | h3
    · exact h3 ▸ hL
    · have hlen : i < all.length := (List.getElem?_eq_some_iff.1 ho).1
      have ho' : all[e.on]? = some all[e.on] := List.getElem?_eq_getElem (by omega)
      exact ih e.on hlt _ j ho' (hcl _ _ ho' hL) h3
/-- 'i' is next: those comparable with it are listed if and only if they come first. -/
theorem cmp_listed {L : Nat → Prop} (hcl : ∀ (i : Nat) (o : Oper), all[i]? = some o → L i → ∀ e ∈ o.after.toList, bindsE e = true → L e.on) {i j : Nat} {o q : Oper} (ho : all[i]? = some o) (hq : all[j]? = some q)
    (hready : ∀ e ∈ o.after.toList, bindsE e = true → L e.on) (hn : ¬ L i) (hne : j ≠ i) (hc : cmpB (aheadL [] all) i j = true ∨ cmpB (aheadL [] all) j i = true) : L j ↔ j < i := by
  have hc' : ((aheadL [] all).getD i 0).testBit j = true ∨ ((aheadL [] all).getD j 0).testBit i = true := by
    unfold cmpB at hc
    rcases hc with hc | hc <;> split at hc <;> simp_all
  rcases hc' with h | h
  · have := bit_lt hG i o j ho h
    exact ⟨fun _ => this, fun _ => ahead_listed hG hcl i o j ho hready h⟩
  · have := bit_lt hG j q i hq h
    exact ⟨fun hL => absurd (ahead_listed hG hcl j q i hq (hcl j q hq hL) h) hn, fun h => by omega⟩
def Wr (all : List Oper) (j t : Nat) : Prop := ∃ q, all[j]? = some q ∧ q.dst = some t
omit hG in
theorem touch_listed (hG : Graph all cl) {L : Nat → Prop} (hcl : ∀ (i : Nat) (o : Oper), all[i]? = some o → L i → ∀ e ∈ o.after.toList, bindsE e = true → L e.on) {i : Nat} {o : Oper} (ho : all[i]? = some o)
    (hready : ∀ e ∈ o.after.toList, bindsE e = true → L e.on) (hn : ¬ L i) {t : Nat} (ht : t ∈ touchesT all o) {j : Nat} (hw : Wr all j t) : L j ↔ j < i := by
  obtain ⟨q, hq, hd⟩ := hw
  by_cases hne : j = i
  · subst hne; exact ⟨fun h => absurd h hn, fun h => by omega⟩
  · refine cmp_listed hG hcl ho hq hready hn hne ?_
    rcases Nat.lt_or_ge i j with h | h
    · rcases hG.pair i j o q ho hq h with h1 | ⟨_, h1⟩
      · exact .inl h1
      · exact (disj_not h1 (by rw [hd]; simp) ht).elim
    · rcases hG.pair j i q o hq ho (by omega) with h1 | ⟨h1, _⟩
      · exact .inr h1
      · exact (disj_not h1 (by rw [hd]; simp) ht).elim
end
end Go.Proofs.YtfbhdjkeofleiaaDoor.T
