/- T against the model: one operation (those that are no call of a function). -/
import Derived.Test.YtfbhdjkeofleiaaDoorTeeD
namespace Go.Proofs.YtfbhdjkeofleiaaDoor.T
open Go
set_option linter.unusedVariables false
set_option linter.unusedSimpArgs false

/-- What an operation may have done. -/
def Fine (lo base : Nat) (ρ : Rho) (β : Bet) (σ : St) (w : World) (v : V) (σ' : St) (c : Value) (w' : World) : Prop :=
  ∃ ρ' β', σ'.s = σ.s ∧ SV ρ' β' v c ∧ HRel ρ' σ'.h w' ∧ FRel ρ' β' σ'.bx w' ∧ Ext lo base ρ σ.h w ρ' σ'.h w' ∧ Ble β β' ∧ (∀ t r, β t = none → β' t = some r → w.heap.size ≤ r ∧ lookB σ.bx t = none) ∧
    (∀ t, lookB σ.bx t = none → (lookB σ'.bx t).isSome = true → ∃ r, β' t = some r)

section
variable {lo base : Nat} {ρ : Rho} {β : Bet} {σ : St} {w : World} {R : Type} {r : R}
theorem noBx {bx : List (Nat × List V)} {β : Bet} (t : Nat) (h1 : lookB bx t = none) (h2 : (lookB bx t).isSome = true) : ∃ r, β t = some r := by rw [h1] at h2; cases h2
theorem Fine.same {v : V} {c : Value} (hh : HRel ρ σ.h w) (hf : FRel ρ β σ.bx w) (hv : SV ρ β v c) : Fine lo base ρ β σ w v σ c w :=
  ⟨ρ, β, rfl, hv, hh, hf, Ext.refl _ _ _ _ _, Ble.refl _, fun t r h1 h2 => (by rw [h1] at h2; cases h2), fun t h1 h2 => (by rw [h1] at h2; cases h2)⟩

/-- An operation that gives a value and changes nothing. -/
def Does (P : Program) (lo base : Nat) (ρ : Rho) (β : Bet) (σ : St) (a : Act) (w : World) (o : Oper) (K : V → St → Option R) (r : R) : Prop :=
  ∃ w', (∃ c, (execOp a.eval o).run P w = .ok (.value c) w' ∧ ∃ v σ', K v σ' = some r ∧ Fine lo base ρ β σ w v σ' c w') ∨
    ((execOp a.eval o).run P w = .ok .skip w' ∧ ∃ v σ', K v σ' = some r ∧ Fine lo base ρ β σ w v σ' undef w')
end

section
variable {P : Program} {lo base : Nat} {ρ : Rho} {β : Bet} {σ : St} {a : Act} {w : World} {R : Type} {r : R} {K : V → St → Option R} {X : Ctx}
variable {dst : Option Nat} {ty : TypeId} {pos : String} {after : Array Edge} {guard : Option (Nat × Bool)}

theorem sizeOf_known {t : TypeId} {i : TypeInfo} (h : P.info? t = some i) (w : World) : (sizeOf t).run P w = .ok i.size w := by simp [sizeOf, typeInfo, h]
theorem underlying_run {t : TypeId} {d : TypeDesc} (h : P.underlying t = some d) (w : World) : (underlying t).run P w = .ok d w := by simp [underlying, h]
theorem isAgg_run {t : TypeId} {d : TypeDesc} (h : P.underlying t = some d) (w : World) : (isAgg t).run P w = .ok (aggD d) w := by
  simp only [isAgg, Sem.run_bind, underlying_run h, Result.andThen_ok]
  cases d <;> rfl

theorem do_value {o : Oper} {c : Value} {v : V} (hrun : (execOp a.eval o).run P w = .ok (.value c) w) (hh : HRel ρ σ.h w) (hf : FRel ρ β σ.bx w) (hv : SV ρ β v c) (hk : K v σ = some r) :
    Does P lo base ρ β σ a w o K r := ⟨w, .inl ⟨c, hrun, v, σ, hk, Fine.same hh hf hv⟩⟩

theorem do_move (hs : SRel ρ β σ.s a) (hh : HRel ρ σ.h w) (hf : FRel ρ β σ.bx w) {x : Operand} (hk : opT X lo dst ty (.move x) σ K = some r) :
    Does P lo base ρ β σ a w ⟨dst, .move x, ty, pos, after, guard⟩ K r := do_value rfl hh hf (ev_rel hs x) hk
theorem do_assign (hs : SRel ρ β σ.s a) (hh : HRel ρ σ.h w) (hf : FRel ρ β σ.bx w) {x : Operand} (hk : opT X lo dst ty (.assign x) σ K = some r) :
    Does P lo base ρ β σ a w ⟨dst, .assign x, ty, pos, after, guard⟩ K r := do_value rfl hh hf (ev_rel hs x) hk

theorem ev_bool (hs : SRel ρ β σ.s a) {x : Operand} {b : Bool} (h : ev σ.s x = .bool b) : a.eval x = .bool b := by
  have := ev_rel hs x; rw [h] at this; simpa [SV, VR] using this
theorem ev_int (hs : SRel ρ β σ.s a) {x : Operand} {k : IntKind} {n : Int} (h : ev σ.s x = .int k n) : a.eval x = .int k n := by
  have := ev_rel hs x; rw [h] at this; simpa [SV, VR] using this
theorem ev_str (hs : SRel ρ β σ.s a) {x : Operand} {s : ByteArray} (h : ev σ.s x = .str s) : a.eval x = .string s := by
  have := ev_rel hs x; rw [h] at this; simpa [SV, VR] using this

theorem do_pick (hs : SRel ρ β σ.s a) (hh : HRel ρ σ.h w) (hf : FRel ρ β σ.bx w) {c x y : Operand} (hk : opT X lo dst ty (.pick c x y) σ K = some r) :
    Does P lo base ρ β σ a w ⟨dst, .pick c x y, ty, pos, after, guard⟩ K r := by
  simp only [opT] at hk
  obtain ⟨b, hb, hk⟩ := eBv_some hk
  have hc := ev_bool hs hb
  rcases br_some hk with ⟨rfl, hk⟩ | ⟨rfl, hk⟩
  · exact do_value (c := a.eval x) (by simp [execOp, hc, asBool]) hh hf (ev_rel hs x) hk
  · exact do_value (c := a.eval y) (by simp [execOp, hc, asBool]) hh hf (ev_rel hs y) hk

theorem lookB_cons (u : Nat) (v : List V) (s : List (Nat × List V)) (t : Nat) : lookB ((u, v) :: s) t = if u = t then some v else lookB s t := by
  simp only [lookB]
  by_cases h : u = t
  · subst h; simp
  · have : Nat.beq u t = false := by
      cases hb : Nat.beq u t with
      | false => rfl
      | true => exact absurd (Nat.eq_of_beq_eq_true hb) h
    simp [this, h]
theorem FRel.alloc {bx : List (Nat × List V)} {h : Heap} (hf : FRel ρ β bx w) (hh : HRel ρ h w) {cells : Array Value} {el : TypeId} {row : List V} {t : Nat} (ht : lookB bx t = none) (hv : VRs ρ row cells.toList) :
    FRel ρ (fun u => if u = t then some w.heap.size else β u) ((t, row) :: bx) (w.alloc (.cells cells el)) where
  has := fun u q hq => by
    rw [lookB_cons]
    by_cases e : t = u
    · subst e
      simp at hq; subst hq
      exact ⟨row, cells, el, by simp, alloc_new _ _, hv⟩
    · simp only [Ne.symm e, if_false] at hq
      obtain ⟨x, cs, el', h1, h2, h3⟩ := hf.has u q hq
      exact ⟨x, cs, el', by simp [e, h1], by rw [alloc_old _ _ (hf.lt u q hq)]; exact h2, h3⟩
  lt := fun u q hq => by
    by_cases e : u = t
    · simp [e] at hq; simp; omega
    · simp [e] at hq; have := hf.lt u q hq; simp; omega
  inj := fun u u' q h1 h2 => by
    by_cases e : u = t <;> by_cases e' : u' = t
    · rw [e, e']
    · simp [e] at h1; simp [e'] at h2; have := hf.lt u' q h2; omega
    · simp [e] at h1; simp [e'] at h2; have := hf.lt u q h1; omega
    · simp [e] at h1; simp [e'] at h2; exact hf.inj u u' q h1 h2
  off := fun u q b e h1 h2 => by
    have := (hh.dom b e h2).2
    by_cases e' : u = t
    · simp [e'] at h1; omega
    · simp [e'] at h1; exact hf.off u q b e h1 h2

/-- the model alone has a new block -/
theorem HRel.allocW {h : Heap} (hh : HRel ρ h w) (o : Obj) : HRel ρ h (w.alloc o) where
  dom := fun b e hb => by have := hh.dom b e hb; simp; omega
  blk := fun b e k hb hk => BR.mono (Rle.refl _) (alloc_old w o (hh.dom b e hb).2) (hh.blk b e k hb hk)
  inj := hh.inj
theorem Ext.allocW {h : Heap} (o : Obj) : Ext lo w.heap.size ρ h w ρ h (w.alloc o) where
  rle := Rle.refl _
  new := fun b e h1 h2 => by rw [h1] at h2; cases h2
  frame := fun r hr _ => alloc_old w o hr
  size := by simp
  os := rfl
  tape := rfl
  output := rfl
  len := Nat.le_refl _
  pres := fun _ _ _ => rfl
  tot := fun b h1 h2 => by omega

theorem do_new (hB : base ≤ w.heap.size) (hh : HRel ρ σ.h w) (hf : FRel ρ β σ.bx w) {o : Oper} {t : Nat} {e : TypeId} {row : List V} {cells : Array Value} (size : Nat)
    (hrun : (execOp a.eval o).run P w = .ok (.value (.pointer (some ⟨w.heap.size, 0, none⟩))) (w.alloc (.cells cells e))) (hv : VRs ρ row cells.toList) (hone : OneCells cells) (hsz : row.length = size)
    (hk : (match X.hb.any (Nat.beq t) with
      | true => K (.ptr (some (σ.h.length, 0, 0))) { σ with h := σ.h ++ [.rows size e false [row]] }
      | false => match lookB σ.bx t with
        | some _ => none
        | none => K (.lp t 0) { σ with bx := (t, row) :: σ.bx }) = some r) : Does P lo base ρ β σ a w o K r := by
  have hlen := hv.length
  refine ⟨w.alloc (.cells cells e), .inl ⟨_, hrun, ?_⟩⟩
  split at hk
  · have hx : Ext lo w.heap.size ρ σ.h w (ρ.set σ.h.length ⟨w.heap.size, 0, size, 1, 1⟩) (σ.h ++ [.rows size e false [row]]) (w.alloc (.cells cells e)) := Ext.alloc hh _ _ _ rfl
    refine ⟨_, _, hk, ρ.set σ.h.length ⟨w.heap.size, 0, size, 1, 1⟩, β, rfl, ?_, ?_, hf.ext hx, hx.weaken (Nat.le_refl _) hB, Ble.refl _, fun t r h1 h2 => (by rw [h1] at h2; cases h2), noBx⟩
    · simp only [SV, VR, Rho.set_same]
      exact ⟨_, rfl, by simp⟩
    · refine hh.alloc _ _ _ rfl ?_
      refine ⟨cells, (0, 0), alloc_new _ _, fun _ => ⟨rfl, rfl⟩, rfl, rfl, Nat.le_refl _, by simp; simp at hlen; omega, fun i row' hi => ?_, .inl hone⟩
      cases i with
      | zero =>
        simp at hi; subst hi
        refine ⟨hsz, fun j v hj => ?_⟩
        obtain ⟨c, h1, h2⟩ := hv.get j v hj
        exact ⟨c, by simpa using h1, h2⟩
      | succ i => simp at hi
  · split at hk
    · cases hk
    · rename_i hl
      have hb : β t = none := by
        cases hb : β t with
        | none => rfl
        | some q => obtain ⟨x, _, _, hx, _⟩ := hf.has t q hb; rw [hl] at hx; cases hx
      refine ⟨_, _, hk, ρ, fun u => if u = t then some w.heap.size else β u, rfl, ?_, hh.allocW _, hf.alloc hh hl hv, (Ext.allocW _).weaken (Nat.le_refl _) hB, fun u q hq => ?_, fun u q h1 h2 => ?_, fun u h1 h2 => ?_⟩
      · exact ⟨w.heap.size, by simp, rfl⟩
      · by_cases e : u = t
        · subst e; rw [hb] at hq; cases hq
        · simp [e, hq]
      · by_cases e : u = t
        · subst e; simp at h2; exact ⟨by omega, hl⟩
        · simp [e, h1] at h2
      · rw [lookB_cons] at h2
        by_cases e : t = u
        · exact ⟨w.heap.size, by simp [e]⟩
        · rw [if_neg e, h1] at h2; cases h2

theorem do_alloc (hB : base ≤ w.heap.size) (hX : X.ty = tyOf P) (hs : SRel ρ β σ.s a) (hh : HRel ρ σ.h w) (hf : FRel ρ β σ.bx w) {e : TypeId} (hk : opT X lo dst ty (.alloc e) σ K = some r) :
    Does P lo base ρ β σ a w ⟨dst, .alloc e, ty, pos, after, guard⟩ K r := by
  simp only [opT] at hk
  split at hk
  · cases hk
  · cases hk
  · rename_i t hz
    rw [hX] at hk hz
    simp only [Bool.and_eq_true] at hz
    obtain ⟨⟨hkn, hz⟩, hfm⟩ := hz
    obtain ⟨i, d, hi, hd, h1, h2, h3, h4, h5⟩ := known_of hkn
    rw [h5] at hz
    cases hzz : i.zero with
    | none => simp [hzz] at hz
    | some z =>
      simp only [hzz, Bool.and_eq_true] at hz h4
      have hsz := Nat.eq_of_beq_eq_true hz.1
      refine do_new (X := X) hB hh hf (cells := z.cells) (row := cellsV (ofValue z)) (e := e) (t := t) (tyOf P e).size ?_ ?_ ?_ ?_ (by rw [h4] at hk; exact hk)
      · simp [execOp, Instr.alloc, zeroValue, typeInfo, hi, hzz, newVar, newRow]
      · exact cells_rel (ofValue_rel ρ z) (by rw [← h4]; exact hfm)
      · rw [h4] at hfm; exact OneCells.of_list (one_of_firms (cells_rel (ofValue_rel ρ z) hfm) hfm)
      · rw [cellsV_length_ofValue, hsz, h1]

theorem do_box (hB : base ≤ w.heap.size) (hX : X.ty = tyOf P) (hs : SRel ρ β σ.s a) (hh : HRel ρ σ.h w) (hf : FRel ρ β σ.bx w) {e : TypeId} {x : Operand} (hk : opT X lo dst ty (.box e x) σ K = some r) :
    Does P lo base ρ β σ a w ⟨dst, .box e x, ty, pos, after, guard⟩ K r := by
  simp only [opT] at hk
  split at hk
  · cases hk
  · rename_i t
    split at hk
    · rename_i hfm
      split at hk
      · rename_i hl
        have hv : VR ρ (ev σ.s x) (a.eval x) := (ev_rel hs x).ok (by
          cases hx : ev σ.s x <;> simp [hx, cellsV, firms, firm] at hfm <;> rfl)
        refine do_new (X := X) hB hh hf (cells := (a.eval x).cells) (row := cellsV (ev σ.s x)) (e := e) (t := t) (X.ty e).size ?_ (cells_rel hv hfm) (OneCells.of_list (one_of_firms (cells_rel hv hfm) hfm)) (Nat.eq_of_beq_eq_true hl) hk
        simp [execOp, Instr.box, newVar, newRow]
      · cases hk
    · cases hk

/-! #### reading -/
theorem cells_of_row {rho : Rho} {R' o i j n : Nat} {rs : List (List V)} {cs : Array Value} {row xs : List V} (h : RowsR rho R' o rs cs) (hr : rs[i]? = some row) (hc : cut row j n = some xs) :
    ∃ ys : List Value, VRs rho xs ys ∧ ys.length = n ∧ ∀ q y, ys[q]? = some y → cs[o + (i * R' + j) + q]? = some y := by
  obtain ⟨hle, hxs⟩ := cut_some hc
  obtain ⟨hl, hcell⟩ := h i row hr
  have hn : xs.length = n := by rw [hxs]; simp; omega
  have key : ∀ q, q < n → ∃ y, cs[o + (i * R' + j) + q]? = some y ∧ ∀ v, xs[q]? = some v → VR rho v y := by
    intro q hq
    have hrow : row[j + q]? = some (row[j + q]'(by omega)) := List.getElem?_eq_getElem _
    obtain ⟨c, h1, h2⟩ := hcell (j + q) _ hrow
    refine ⟨c, by rw [← h1]; congr 1; omega, fun v hv => ?_⟩
    rw [hxs, List.getElem?_take, if_pos hq, List.getElem?_drop, hrow] at hv
    injection hv with hv; subst hv; exact h2
  refine ⟨(List.range n).map fun q => (cs[o + (i * R' + j) + q]?).getD undef, ?_, by simp, ?_⟩
  · refine VRs.of_get (by simp [hn]) fun q v hv => ?_
    have hq : q < n := by have := (List.getElem?_eq_some_iff.1 hv).1; omega
    obtain ⟨y, h1, h2⟩ := key q hq
    exact ⟨y, by simp [hq, h1], h2 v hv⟩
  · intro q y hy
    have hq : q < n := by have := (List.getElem?_eq_some_iff.1 hy).1; simpa using this
    obtain ⟨z, h1, _⟩ := key q hq
    simp [hq, h1] at hy
    rw [h1, hy]

theorem ld_rel {h : Heap} (hh : HRel ρ h w) {b i j n : Nat} {e : E} {xs : List V} (hb : ρ b = some e) (hl : ld h b i j n = some xs) :
    ∃ ys : List Value, VRs ρ xs ys ∧ ys.length = n ∧ ∀ q y, ys[q]? = some y → w.cell? ((⟨e.r, e.o + (i * e.R + j), none⟩ : Addr).add q) = some y := by
  obtain ⟨R', el, ro, rs, row, hk, hr, hc⟩ := ld_some hl
  obtain ⟨cs, fr, h1, h2, h3, h4, h5, h6, h7, _⟩ := hh.blk b e _ hb hk
  obtain ⟨ys, g1, g2, g3⟩ := cells_of_row h7 hr hc
  refine ⟨ys, g1, g2, fun q y hy => ?_⟩
  rw [add_mk, cell_at h1, h3]
  exact g3 q y hy
theorem box_rel {bx : List (Nat × List V)} (hf : FRel ρ β bx w) {u j n q : Nat} {row xs : List V} (hb : β u = some q) (hl : lookB bx u = some row) (hc : cut row j n = some xs) :
    ∃ ys : List Value, VRs ρ xs ys ∧ ys.length = n ∧ ∀ p y, ys[p]? = some y → w.cell? ((⟨q, j, none⟩ : Addr).add p) = some y := by
  obtain ⟨row', cs, el, h1, h2, h3⟩ := hf.has u q hb
  rw [hl] at h1; injection h1 with h1; subst h1
  obtain ⟨hle, hxs⟩ := cut_some hc
  have hlen := h3.length
  refine ⟨(cs.toList.drop j).take n, ?_, by simp at hlen hle ⊢; omega, fun p y hy => ?_⟩
  · rw [hxs]; exact (h3.drop j).take n
  · rw [add_mk, cell_at h2]
    rw [List.getElem?_take] at hy
    split at hy
    · rw [List.getElem?_drop] at hy
      simpa using hy
    · cases hy

theorem run_loadVar_of {t : TypeId} (hkn : (tyOf P t).known = true) {x : Addr} {xs : List V} {ys : List Value} (hv : VRs ρ xs ys) (hn : ys.length = (tyOf P t).size)
    (hc : ∀ q y, ys[q]? = some y → w.cell? (x.add q) = some y) {v : V} (hm : mkO (tyOf P t).agg xs = some v) : ∃ c, (loadVar t x).run P w = .ok c w ∧ VR ρ v c := by
  obtain ⟨i, d, hi, hd, h1, h2, h3, h4, h5⟩ := known_of hkn
  have hag := isAgg_run hd w
  rw [← h3] at hag
  simp only [loadVar, Sem.run_bind, hag, Result.andThen_ok]
  cases hA : (tyOf P t).agg with
  | true =>
    rw [hA] at hm
    simp only [mkO] at hm; injection hm with hm; subst hm
    have hlc := run_loadCells_list (P := P) w x ys hc
    rw [hn, h1] at hlc
    refine ⟨.agg ys.toArray, ?_, ?_⟩
    · simp [sizeOf_known hi, hlc]
    · simp only [VR]; exact ⟨_, rfl, by simpa using hv⟩
  | false =>
    rw [hA] at hm
    simp only [mkO] at hm
    split at hm
    · injection hm with hm; subst hm
      cases ys with
      | nil => have := hv.length; simp at this
      | cons y ys =>
        obtain ⟨g1, g2⟩ := hv.uncons
        have := hc 0 y (by simp)
        rw [show x.add 0 = x by simp [Addr.add]] at this
        exact ⟨y, by simp [run_load, this], g1⟩
    · cases hm

theorem mkO_of_mkV {agg : Bool} {cs : List V} (h : agg = false → ∃ v, cs = [v]) : mkO agg cs = some (mkV agg cs) := by
  cases agg with
  | true => rfl
  | false => obtain ⟨v, rfl⟩ := h rfl; rfl

theorem ev_ptr (hs : SRel ρ β σ.s a) {x : Operand} {b i j : Nat} (h : ev σ.s x = .ptr (some (b, i, j))) : ∃ e, ρ b = some e ∧ a.eval x = .pointer (some ⟨e.r, e.o + (i * e.R + j), none⟩) := by
  have := ev_rel hs x; rw [h] at this; simpa [SV, VR] using this
theorem ev_lp (hs : SRel ρ β σ.s a) {x : Operand} {u j : Nat} (h : ev σ.s x = .lp u j) : ∃ q, β u = some q ∧ a.eval x = .pointer (some ⟨q, j, none⟩) := by
  have := ev_rel hs x; rw [h] at this; exact this

theorem do_load (hX : X.ty = tyOf P) (hs : SRel ρ β σ.s a) (hh : HRel ρ σ.h w) (hf : FRel ρ β σ.bx w) {t : TypeId} {x : Operand} (hk : opT X lo dst ty (.load t x) σ K = some r) :
    Does P lo base ρ β σ a w ⟨dst, .load t x, ty, pos, after, guard⟩ K r := by
  simp only [opT] at hk
  rw [hX] at hk
  split at hk
  · cases hk
  · rename_i hkn
    split at hk
    · rename_i u j hx
      obtain ⟨q, hq, hax⟩ := ev_lp hs hx
      split at hk
      · rename_i row hrow
        obtain ⟨cs, hcs, hk⟩ := eO_some hk
        obtain ⟨v, hv, hk⟩ := eO_some hk
        obtain ⟨ys, g1, g2, g3⟩ := box_rel hf hq hrow hcs
        obtain ⟨c, h1, h2⟩ := run_loadVar_of hkn g1 g2 g3 hv
        exact do_value (c := c) (by simp [execOp, Instr.loadAt, Instr.sureAddr, hax, h1]) hh hf (SV.of h2) hk
      · cases hk
    · rename_i p hx
      obtain ⟨⟨b, i, j⟩, rfl, hk1⟩ := eO_some hk
      obtain ⟨e, hb, hax⟩ := ev_ptr hs hx
      obtain ⟨cs, hcs, hk2⟩ := eO_some hk1
      obtain ⟨v', hk3, hle, hone⟩ := eCells_some hk2
      obtain ⟨ys, g1, g2, g3⟩ := ld_rel hh hb hcs
      obtain ⟨c, h1, h2⟩ := run_loadVar_of hkn g1 g2 g3 (mkO_of_mkV hone)
      exact do_value (c := c) (by simp [execOp, Instr.loadAt, Instr.sureAddr, hax, h1]) hh hf (SV.of (hle ρ c h2)) hk3
    · cases hk

/-! #### writing -/
theorem okV_of_firms {x : V} (hfm : firms (cellsV x) = true) : okV x = true := by
  cases x <;> simp [cellsV, firms, firm] at hfm <;> rfl

theorem lookB_setB (s : List (Nat × List V)) (t u : Nat) (x : List V) : lookB (setB s t x) u = if t = u then (lookB s u).map fun _ => x else lookB s u := by
  induction s with
  | nil => simp [setB, lookB]
  | cons p s ih =>
    obtain ⟨q, y⟩ := p
    simp only [setB]
    have beq : ∀ a b : Nat, Nat.beq a b = decide (a = b) := fun a b => by
      by_cases h : a = b
      · subst h; simp
      · cases hb : Nat.beq a b with
        | false => simp [h]
        | true => exact absurd (Nat.eq_of_beq_eq_true hb) h
    by_cases h : q = t
    · subst h
      simp only [beq, decide_true]
      rw [lookB_cons, lookB_cons]
      by_cases e : q = u <;> simp [e]
    · simp only [beq, h, decide_false]
      rw [lookB_cons, lookB_cons, ih]
      by_cases e : q = u
      · subst e; simp [Ne.symm h]
      · simp [e]

theorem do_store (hB : base ≤ w.heap.size) (hown : ∀ t r, β t = some r → base ≤ r) (hX : X.ty = tyOf P) (hs : SRel ρ β σ.s a) (hh : HRel ρ σ.h w) (hf : FRel ρ β σ.bx w) {t : TypeId} {x y : Operand} (hk : opT X lo dst ty (.store t x y) σ K = some r) :
    Does P lo base ρ β σ a w ⟨dst, .store t x y, ty, pos, after, guard⟩ K r := by
  simp only [opT] at hk
  rw [hX] at hk
  split at hk
  · rename_i hkf
    simp only [Bool.and_eq_true] at hkf
    obtain ⟨hkn, hfm⟩ := hkf
    split at hk
    · rename_i hl
      have hl := Nat.eq_of_beq_eq_true hl
      obtain ⟨i0, d, hi, hd, h1, h2, h3, h4, h5⟩ := known_of hkn
      have hv : VR ρ (ev σ.s y) (a.eval y) := (ev_rel hs y).ok (okV_of_firms hfm)
      have hcv := cells_rel hv hfm
      have hlen := hcv.length
      have hone := one_of_firms hcv hfm
      have hsz : (a.eval y).cells.size = i0.size := by rw [← h1, ← hl]; simpa using hlen.symm
      split at hk
      · rename_i u j hx
        obtain ⟨q, hq, hax⟩ := ev_lp hs hx
        split at hk
        · rename_i row hrow
          split at hk
          · rename_i row' hp
            obtain ⟨row0, cs, el, g1, g2, g3⟩ := hf.has u q hq
            rw [hrow] at g1; injection g1 with g1; subst g1
            obtain ⟨hle, hr'⟩ := paste_some hp
            have hcl := g3.length
            have hrun := run_storeCells' (P := P) (a.eval y).cells.toList w q j 0 cs el g2 (by simp at hlen hcl ⊢; omega) hone
            have hqlt : q < w.heap.size := (Array.getElem?_eq_some_iff.1 g2).1
            refine ⟨setBlk w q (.cells (putL cs (j + 0) (a.eval y).cells.toList) el (0, 0)), .inr ⟨?_, _, _, hk, ρ, β, rfl, ?_, ?_, ?_, ?_, Ble.refl _, fun t r h1 h2 => (by rw [h1] at h2; cases h2), fun t h1 h2 => (by simp only [lookB_setB, h1] at h2; split at h2 <;> cases h2)⟩⟩
            · simp [execOp, Instr.storeAt, Instr.sureAddr, hax, storeVar, sizeOf_known hi, hsz, hrun]
            · exact SV.of (by simp [VR, VRs, undef])
            · refine ⟨fun b e hb => ?_, fun b e k hb hk => ?_, hh.inj⟩
              · have := hh.dom b e hb; rw [setBlk_size]; exact this
              · exact BR.mono (Rle.refl _) (setBlk_other (hf.off u q b e hq hb)) (hh.blk b e k hb hk)
            · refine ⟨fun t' r2 ht => ?_, fun t' r' ht => by rw [setBlk_size]; exact hf.lt t' r' ht, hf.inj, hf.off⟩
              · rw [lookB_setB]
                by_cases e : u = t'
                · subst e
                  rw [hq] at ht; injection ht with ht; subst ht
                  refine ⟨row', _, el, by simp [hrow], setBlk_same hqlt, ?_⟩
                  refine VRs.of_get (by rw [hr']; simp [putL_size] at hcl hle ⊢; omega) fun p v hpv => ?_
                  rw [hr'] at hpv
                  simp at hcl hlen
                  simp only [Nat.add_zero, Array.getElem?_toList]
                  by_cases c1 : p < j
                  · rw [List.append_assoc, List.getElem?_append_left (by simp; omega), List.getElem?_take, if_pos c1] at hpv
                    obtain ⟨z, e1, e2⟩ := g3.get p v hpv
                    exact ⟨z, by rw [putL_out _ _ _ _ (.inl c1)]; simpa using e1, e2⟩
                  · by_cases c2 : p < j + (cellsV (ev σ.s y)).length
                    · rw [List.append_assoc, List.getElem?_append_right (by simp; omega), List.getElem?_append_left (by simp; omega)] at hpv
                      have hpv' : (cellsV (ev σ.s y))[p - j]? = some v := by rw [← hpv]; congr 1; simp; omega
                      obtain ⟨z, e1, e2⟩ := hcv.get _ v hpv'
                      refine ⟨z, ?_, e2⟩
                      rw [show p = j + (p - j) by omega, putL_in _ _ _ _ (by simp; omega) (by simp; omega)]
                      exact e1
                    · rw [List.getElem?_append_right (by simp; omega), List.getElem?_drop] at hpv
                      have hpv' : row[p]? = some v := by rw [← hpv]; congr 1; simp; omega
                      obtain ⟨z, e1, e2⟩ := g3.get p v hpv'
                      exact ⟨z, by rw [putL_out _ _ _ _ (.inr (by simp; omega))]; simpa using e1, e2⟩
                · simp only [e, if_false]
                  obtain ⟨row2, cs2, el2, k1, k2, k3⟩ := hf.has t' r2 ht
                  refine ⟨row2, cs2, el2, k1, ?_, k3⟩
                  have hne : r2 ≠ q := fun hqq => by subst hqq; exact e (hf.inj u t' r2 hq ht)
                  rw [setBlk_other hne]
                  exact k2
            · refine ⟨Rle.refl _, fun b e h1 h2 => (by rw [h1] at h2; cases h2), fun r' hr' hfr => ?_, (by rw [setBlk_size]; exact Nat.le_refl _), rfl, rfl, rfl, Nat.le_refl _, fun _ _ _ => rfl, fun b h1 h2 => absurd h2 (Nat.not_lt.2 h1)⟩
              exact setBlk_other (by have := hown u q hq; omega)
          · cases hk
        · cases hk
      · rename_i p hx
        obtain ⟨⟨b, i, j⟩, rfl, hk1⟩ := eO_some hk
        obtain ⟨e, hb, hax⟩ := ev_ptr hs hx
        obtain ⟨h', hst, hk2⟩ := eO_some hk1
        obtain ⟨R', el, rs, row, row', hkb, hlo, hr, hp, rfl⟩ := st_some hst
        obtain ⟨cs, fr, g1, g2, g3, g4, g5, g6, g7, g8⟩ := hh.blk b e _ hb hkb
        obtain ⟨rfl, ho⟩ := g2 rfl
        obtain ⟨hle, hr'⟩ := paste_some hp
        have hrl := (g7 i row hr).1
        have hil : i < rs.length := (List.getElem?_eq_some_iff.1 hr).1
        have hbig : i * R' + R' ≤ rs.length * R' := by
          have := Nat.mul_le_mul_right R' (show i + 1 ≤ rs.length from hil)
          rw [Nat.add_mul, Nat.one_mul] at this; exact this
        have hbig2 : rs.length * R' ≤ e.m * R' := Nat.mul_le_mul_right R' (by omega)
        simp at hlen
        have hrun := run_storeCells' (P := P) (a.eval y).cells.toList w e.r (e.o + (i * e.R + j)) 0 cs el g1 (by simp only [Array.length_toList]; rw [g3]; simp only at hle hrl ⊢; omega) hone
        have hqlt : e.r < w.heap.size := (hh.dom b e hb).2
        refine ⟨setBlk w e.r (.cells (putL cs (e.o + (i * e.R + j) + 0) (a.eval y).cells.toList) el (0, 0)), .inr ⟨?_, _, _, hk2, ρ, β, rfl, SV.of (by simp [VR, VRs, undef]), ?_, ?_, ?_, Ble.refl _, fun t r h1 h2 => (by rw [h1] at h2; cases h2), noBx⟩⟩
        · simp [execOp, Instr.storeAt, Instr.sureAddr, hax, storeVar, sizeOf_known hi, hsz, hrun]
        · refine hh.write hb hkb (by simp) (not_ro hkb) (fun _ _ _ h => by cases h) setBlk_size (fun r' hr' => setBlk_other hr') ?_
          refine ⟨_, (0, 0), setBlk_same hqlt, fun _ => ⟨rfl, ho⟩, g3, by simpa using g4, g5, by rw [putL_size]; exact g6, ?_, .inl (putL_one (g8.resolve_right fun h => by cases h.1) hone)⟩
          rw [g3, Nat.add_zero]
          exact g7.paste hr hp hcv (by omega)
        · exact hf.ext (lo := lo) (h := σ.h) (h' := σ.h.set b (.rows R' el false (rs.set i row'))) (Ext.write (h := σ.h) (k' := .rows R' el false (rs.set i row')) hb hlo setBlk_size (fun r' hr' => setBlk_other hr') rfl rfl rfl)
        · exact (Ext.write hb hlo setBlk_size (fun r' hr' => setBlk_other hr') rfl rfl rfl).weaken (Nat.le_refl _) hB
      · cases hk
    · cases hk
  · cases hk
end
end Go.Proofs.YtfbhdjkeofleiaaDoor.T
