/- A law's call: its arguments laid, its answer and what it leaves as it was. -/
import Derived.Test.YtfbhdjkeofleiaaDoorTeeZc
import Derived.Below
namespace Go.Proofs.YtfbhdjkeofleiaaDoor.T
open Go Go.RowKit
set_option linter.unusedVariables false
set_option linter.unusedSimpArgs false
set_option linter.unnecessarySimpa false

section
variable {P : Program} {W : World} {H : Type} {enc : TypeId × Value → H}

theorem pos_of_has {r : Reach} {base : Nat} {a : Addr} {e : TypeId} {n : Nat} (h : W.has P r base a e n) : 0 < W.heap.size := by
  obtain ⟨_, _, row, cells, hs, _⟩ := h
  unfold World.shape? at hs
  apply Nat.lt_of_not_le
  intro hle
  rw [Array.getElem?_eq_none (by omega)] at hs
  cases hs
theorem pos_of_cell {r : Reach} {base : Nat} {u : TypeId} {a : Addr} {l c : Nat} (h : Cell.okWide P W r base u (.slice (some a) l c)) : 0 < W.heap.size := by
  have h2 : Cell.ok P W r base u (.slice (some a) l c) := by
    unfold Cell.okWide at h
    split at h <;> simp_all
  unfold Cell.ok at h2
  split at h2 <;> simp_all
  exact pos_of_has h2.2.2
theorem pos_of_value {r : Reach} {base : Nat} {t : TypeId} {v : Value} (h : Value.okWide P W r base t v) {a : Addr} {l c : Nat} (hm : Value.slice (some a) l c ∈ v.cells.toList) : 0 < W.heap.size := by
  have row : ∀ cs : Array Value, Row.okWide P W r base t cs → v = .agg cs → 0 < W.heap.size := fun cs hr hv => by
    subst hv
    obtain ⟨ts, _, _, h3⟩ := hr
    simp [Value.cells] at hm
    obtain ⟨i, hi⟩ := Array.mem_iff_getElem?.1 hm
    obtain ⟨u, _, hu⟩ := h3 i _ hi
    exact pos_of_cell hu
  unfold Value.okWide at h
  split at h
  · obtain ⟨cs, hv, _, hr⟩ := h; exact row cs hr hv
  · obtain ⟨cs, hv, _, hr⟩ := h; exact row cs hr hv
  · cases v <;> simp [Value.cells] at hm
    · obtain ⟨rfl, rfl, rfl⟩ := hm
      exact pos_of_cell h
    · exfalso
      unfold Cell.okWide Cell.ok at h
      split at h <;> (try split at h) <;> simp_all

/-- an argument of T, as its type says -/
def ArgV (P : Program) (h : Heap) (n : Nat) (t : TypeId) (x : V) : Prop := match P.underlying t with
  | some (.struct _) => ∃ xs, x = .agg xs ∧ TV P h n t xs
  | _ => TV P h n t [x]
theorem ArgV.mono {h h' : Heap} (hp : h <+: h') {n : Nat} {t : TypeId} {x : V} (hx : ArgV P h n t x) : ArgV P h' n t x := by
  unfold ArgV at *
  split at hx
  · obtain ⟨xs, h1, h2⟩ := hx; exact ⟨xs, h1, TV.mono hp _ _ _ h2⟩
  · exact TV.mono hp _ _ _ hx

theorem lays_arg {n : Nat} {t : TypeId} {v : Value} {d : DataW H} {p : List MemPlace} {r : Reach} {base : Nat} (hin : inTy P n t = true) (hok : Value.okWide P W r base t v)
    (h0 : DataW.Trod enc P W 0 (fun _ => true) true t v d p) {ρ : Rho} {h : Heap} (hi : Imp W ρ h) : ∃ (ρ' : Rho) (h' : Heap) (x : V), Rle ρ ρ' ∧ h <+: h' ∧ Imp W ρ' h' ∧ VR ρ' x v ∧ ArgV P h' n t x := by
  obtain ⟨fuel, hf⟩ := h0
  obtain ⟨ρ', h', xs, a1, a2, a3, a4, a5⟩ := lays n t hin fuel _ _ hf (fun a l c hm => pos_of_value hok hm) ρ h hi
  unfold Value.okWide at hok
  cases hu : P.underlying t with
  | none =>
    cases n with
    | zero => simp [inTy] at hin
    | succ n => simp [inTy, hu] at hin
  | some td =>
    have one : (∀ fs, td ≠ .struct fs) → ∃ x, xs = [x] ∧ VR ρ' x v := fun hns => by
      cases n with
      | zero => simp [inTy] at hin
      | succ n =>
        simp only [TV, hu] at a5
        have hl := a4.length
        have hx : ∃ x, xs = [x] := by
          cases td <;> simp only at a5 <;> (try exact a5.elim)
          · obtain ⟨b, rfl⟩ := a5; exact ⟨_, rfl⟩
          · obtain ⟨i, rfl, _⟩ := a5; exact ⟨_, rfl⟩
          · obtain ⟨s, rfl, _⟩ := a5; exact ⟨_, rfl⟩
          · obtain ⟨a, c, rs, rfl, _⟩ := a5; exact ⟨_, rfl⟩
          · exact absurd rfl (hns _)
        obtain ⟨x, rfl⟩ := hx
        refine ⟨x, rfl, ?_⟩
        have hns' : ∀ cs, v ≠ .agg cs := fun cs hv => by
          subst hv
          rw [hu] at hok
          cases td <;> simp only [inTy, hu] at hin <;> (try cases hin) <;> simp [Cell.okWide, Cell.ok, hu] at hok
          exact absurd rfl (hns _)
        have hc : v.cells.toList = [v] := by
          cases v <;> (try rfl)
          · exact absurd rfl (hns' _)
        rw [hc] at a4
        exact a4.uncons.1
    by_cases hs : ∃ fs, td = .struct fs
    · obtain ⟨fs, rfl⟩ := hs
      rw [hu] at hok
      obtain ⟨cs, rfl, _⟩ := hok
      refine ⟨ρ', h', .agg xs, a1, a2, a3, ?_, ?_⟩
      · simp only [VR]; exact ⟨cs, rfl, by simpa [Value.cells] using a4⟩
      · simp only [ArgV, hu]; exact ⟨xs, rfl, a5⟩
    · obtain ⟨x, rfl, hx⟩ := one fun fs e => hs ⟨fs, e⟩
      refine ⟨ρ', h', x, a1, a2, a3, hx, ?_⟩
      unfold ArgV
      rw [hu]
      split
      · rename_i fs' he; injection he with he; exact absurd ⟨_, he⟩ hs
      · exact a5

theorem imp_nil (W : World) : Imp W (fun _ => none) [] :=
  ⟨⟨fun b e h => (by cases h), fun b e k h => (by cases h), fun b b' e e' h => (by cases h)⟩, fun b hb => by simp at hb⟩

/-- a law's call -/
theorem law_walk {call : CallT} (hS : SC P call) {f : FuncId} {args : List V} {h h' : Heap} {ρ : Rho} (hk : call h.length f args h = some (.bool true, h')) {cargs : Array Value} (hv : VRs ρ args cargs.toList) (hi : Imp W ρ h) :
    Calls P f cargs W fun e w' => e = .returned (.bool true) ∧ Below W.heap.size W w' := by
  refine Calls.mono (hS.calls hk (Nat.le_refl _) hv hi.rel) ?_
  rintro e w' ⟨c, rfl, ρ', h1, h2, h3⟩
  simp only [VR] at h1; subst h1
  exact ⟨rfl, ⟨h3.os, h3.tape, h3.output, h3.size, fun k hk => h3.frame k hk fun b e hb hle => by
    have := (hi.rel.dom b e hb).1
    omega⟩⟩
end
end Go.Proofs.YtfbhdjkeofleiaaDoor.T
