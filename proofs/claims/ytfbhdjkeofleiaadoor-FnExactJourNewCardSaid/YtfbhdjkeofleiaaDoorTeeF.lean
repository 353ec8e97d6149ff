/- T against the model: nil checks, operators, conversions. -/
import Derived.Test.YtfbhdjkeofleiaaDoorTeeE
import Derived.Laws.StructEq
import Derived.Laws.Cover3
namespace Go.Proofs.YtfbhdjkeofleiaaDoor.T
open Go
set_option linter.unusedVariables false
set_option linter.unusedSimpArgs false

/-- '==' of a struct type is that of its cells. -/
structure EqOk (P : Program) (t : TypeId) : Prop where
  eq : ∀ (ρ : Rho) (w : World) (xs ys : List V) (ca cb : Array Value) (r : Bool), shOks (tyOf P t).sh xs = true → shOks (tyOf P t).sh ys = true → VRs ρ xs ca.toList → VRs ρ ys cb.toList →
    eqVs xs ys = some r → (Op.equal t (.agg ca) (.agg cb)).run P w = .ok r w
  guard : P.eqGuardType P.depth t = false
  key : ∀ (ρ : Rho) (w : World) (xs : List V) (ca : Array Value) (b : Bool), shOks (tyOf P t).sh xs = true → VRs ρ xs ca.toList → (Instr.checkKey b 10000 t (.agg ca)).run P w = .ok () w
  kind : ∃ fs, P.underlying t = some (.struct fs)

section
variable {P : Program}
theorem one_of {t : TypeId} {s : Sh} (h : (tyOf P t).one s = true) : ∃ d, P.underlying t = some d ∧ match s with
    | .bool => d = .bool | .str => d = .string | .sl _ => ∃ e, d = .slice e | .ifc => ∃ m, d = .interface m | .int k => d = .int k | _ => False := by
  unfold TI.one at h
  split at h
  · rename_i s' hag hkn hsh
    obtain ⟨i, d, hi, hd, h1, h2, h3, h4, h5⟩ := known_of hkn
    refine ⟨d, hd, ?_⟩
    have hs : (tyOf P t).sh = shOf P 8 t := by unfold tyOf; simp [hi, hd]
    rw [hs] at hsh
    rw [h3] at hag
    simp only [shOf, hd] at hsh
    cases d <;> simp [aggD] at hag <;> simp at hsh <;> subst hsh <;> cases s <;> simp at h ⊢ <;> exact h.symm
  · cases h

end

section
variable {P : Program} {lo base : Nat} {ρ : Rho} {β : Bet} {σ : St} {a : Act} {w : World} {R : Type} {r : R} {K : V → St → Option R} {X : Ctx}
variable {dst : Option Nat} {ty : TypeId} {pos : String} {after : Array Edge} {guard : Option (Nat × Bool)}

theorem SV.int {k : IntKind} {n : Int} {c : Value} (h : SV ρ β (.int k n) c) : c = .int k n := by simpa [SV, VR] using h
theorem SV.bool {b : Bool} {c : Value} (h : SV ρ β (.bool b) c) : c = .bool b := by simpa [SV, VR] using h
theorem SV.str {b : ByteArray} {c : Value} (h : SV ρ β (.str b) c) : c = .string b := by simpa [SV, VR] using h
theorem SV.nili {c : Value} (h : SV ρ β .nili c) : c = .nilIface := by simpa [SV, VR] using h
theorem SV.ifc {t : Nat} {x : V} {c : Value} (h : SV ρ β (.ifc t x) c) : ∃ y, c = .iface t y ∧ VR ρ x y := by simpa [SV, VR] using h
theorem SV.agg {xs : List V} {c : Value} (h : SV ρ β (.agg xs) c) : ∃ ys, c = .agg ys ∧ VRs ρ xs ys.toList := by simpa [SV, VR] using h
theorem SV.tup {xs : List V} {c : Value} (h : SV ρ β (.tup xs) c) : ∃ ys, c = .tuple ys ∧ VRs ρ xs ys.toList := by simpa [SV, VR] using h
theorem SV.fn {f : Nat} {xs : List V} {c : Value} (h : SV ρ β (.fn f xs) c) : ∃ fst cps ys, c = .func (.func f) fst cps ∧ fnIn xs fst cps ys ∧ VRs ρ xs ys := by simpa [SV, VR] using h
theorem SV.slNil {R' n : Nat} {cc : Option Nat} {c : Value} (h : SV ρ β (.sl R' none n cc) c) : n = 0 ∧ cc = some 0 ∧ c = .slice none 0 0 := by simpa [SV, VR] using h
theorem SV.sl {R' b i n : Nat} {c : Option Nat} {v : Value} (h : SV ρ β (.sl R' (some (b, i)) n c) v) : ∃ e x cc, ρ b = some e ∧ e.R = R' ∧ v = .slice (some x) n cc ∧ (cc = 0 ∨ x = ⟨e.r, e.o + i * e.R, none⟩) ∧ n ≤ cc ∧ (∀ y, c = some y → cc = y) ∧ (c = none → i + cc = e.m ∧ e.o = 0) := by
  simpa only [SV, VR] using h
theorem SV.ptr {b i j : Nat} {c : Value} (h : SV ρ β (.ptr (some (b, i, j))) c) : ∃ e, ρ b = some e ∧ c = .pointer (some ⟨e.r, e.o + (i * e.R + j), none⟩) := by simpa [SV, VR] using h
theorem SV.map {b : Nat} {c : Value} (h : SV ρ β (.map (some b)) c) : ∃ e, ρ b = some e ∧ c = .map (some e.r) := by simpa [SV, VR] using h

theorem VR.int' {k : IntKind} {n : Int} : VR ρ (.int k n) (.int k n) := by simp [VR]
theorem VR.bool' {b : Bool} : VR ρ (.bool b) (.bool b) := by simp [VR]
theorem VR.str' {b : ByteArray} : VR ρ (.str b) (.string b) := by simp [VR]
theorem equalIn_ifc (d : Nat) {t : TypeId} {ms : Array (String × TypeId)} (hd : P.underlying t = some (.interface ms)) (t1 : TypeId) (y1 : Value) : (Op.equalIn (d + 1) t (.iface t1 y1) .nilIface).run P w = .ok false w := by
  simp [Op.equalIn, run_underlying hd]
theorem equalIn_nil (d : Nat) {t : TypeId} {ms : Array (String × TypeId)} (hd : P.underlying t = some (.interface ms)) : (Op.equalIn (d + 1) t .nilIface .nilIface).run P w = .ok true w := by
  simp [Op.equalIn, run_underlying hd]

theorem brV_some {b : Bool} {k : V → Option R} (h : brV b k = some r) : k (.bool b) = some r := by
  cases b <;> simpa [brV, br] using h

theorem do_nilCheck (hs : SRel ρ β σ.s a) (hh : HRel ρ σ.h w) (hf : FRel ρ β σ.bx w) {x : Operand} (hk : opT X lo dst ty (.nilCheck x) σ K = some r) :
    Does P lo base ρ β σ a w ⟨dst, .nilCheck x, ty, pos, after, guard⟩ K r := by
  have hx := ev_rel hs x
  simp only [opT] at hk
  split at hk
  · rename_i u j he
    rw [he] at hx
    have hx' := hx
    obtain ⟨q, h1, h2⟩ := hx
    exact do_value (c := a.eval x) (by simp [execOp, h2]) hh hf hx' hk
  · rename_i p he
    obtain ⟨⟨b, i, j⟩, rfl, hk1⟩ := eO_some hk
    rw [he] at hx
    obtain ⟨e, h1, h2⟩ := hx.ptr
    exact do_value (c := a.eval x) (by simp [execOp, h2]) hh hf hx hk1
  · rename_i f cs he
    rw [he] at hx
    obtain ⟨fst, cps, ys, h1, h2⟩ := hx.fn
    exact do_value (c := a.eval x) (by simp [execOp, h1]) hh hf hx hk
  · cases hk

theorem eql_run (hX : X.ty = tyOf P) (hE : ∀ t, X.cmp t = true → EqOk P t) {t : TypeId} {xo yo : Operand} {x y : V} {cx cy : Value} (hx : SV ρ β x cx) (hy : SV ρ β y cy) {f : Bool → Option R}
    (hk : eql X t (isConst xo || isConst yo) x y f = some r) : ∃ b, f b = some r ∧ (∀ op, (eqGuard op t xo yo cx cy).run P w = .ok () w) ∧
      (Go.binOp .eql t cx cy).run P w = .ok (.bool b) w ∧ (Go.binOp .neq t cx cy).run P w = .ok (.bool !b) w := by
  unfold eql at hk
  split at hk
  · rename_i a1 m b1 n
    obtain ⟨h1, h2⟩ := need_some hk
    have h1 := of_decide_eq_true h1; subst h1
    cases hx.int; cases hy.int
    exact ⟨_, h2, fun op => by cases op <;> simp [eqGuard], by simp [Go.binOp, Op.intCmp], by simp [Go.binOp, Op.intCmp, bne]⟩
  · rename_i s u
    cases hx.str; cases hy.str
    exact ⟨_, hk, fun op => by cases op <;> simp [eqGuard], by simp [Go.binOp, Op.stringOp], by simp [Go.binOp, Op.stringOp]⟩
  · rename_i b1 b2
    obtain ⟨h1, h2⟩ := need_some hk
    rw [hX] at h1
    obtain ⟨d, hd, rfl⟩ := one_of h1
    cases hx.bool; cases hy.bool
    exact ⟨_, h2, fun op => by cases op <;> simp [eqGuard], by simp [Go.binOp, run_equal_bool w t _ _ hd], by simp [Go.binOp, run_equal_bool w t _ _ hd]⟩
  · rename_i R1 a1 n1 c1 R2 b1 n2 c2
    split at hk
    · obtain ⟨h1, h2⟩ := need_some hk
      rw [hX] at h1
      obtain ⟨d, hd, e, rfl⟩ := one_of h1
      obtain ⟨rfl, rfl, rfl⟩ := hy.slNil
      have : ∃ p l k, cx = .slice p l k ∧ p.isNone = a1.isNone := by
        cases a1 with
        | none => obtain ⟨_, _, rfl⟩ := hx.slNil; exact ⟨_, _, _, rfl, rfl⟩
        | some q => obtain ⟨b, i⟩ := q; obtain ⟨_, _, _, _, _, rfl, _⟩ := hx.sl; exact ⟨_, _, _, rfl, rfl⟩
      obtain ⟨p, l, k, rfl, hp⟩ := this
      exact ⟨_, h2, fun op => by cases op <;> simp [eqGuard], by simp [Go.binOp, run_equal_slice_nil w t e p l k hd, hp], by simp [Go.binOp, run_equal_slice_nil w t e p l k hd, hp]⟩
    · cases hk
  · rename_i t1 x1
    obtain ⟨h1, h2⟩ := need_some hk
    rw [hX] at h1
    obtain ⟨d, hd, ms, rfl⟩ := one_of h1
    obtain ⟨y1, rfl, _⟩ := hx.ifc
    cases hy.nili
    have he : (Op.equal t (.iface t1 y1) .nilIface).run P w = .ok false w := equalIn_ifc 9999 hd t1 y1
    exact ⟨_, h2, fun op => by cases op <;> simp [eqGuard], by simp [Go.binOp, he], by simp [Go.binOp, he]⟩
  · obtain ⟨h1, h2⟩ := need_some hk
    simp only [Bool.and_eq_true] at h1
    obtain ⟨h1, hc⟩ := h1
    rw [hX] at h1
    obtain ⟨d, hd, ms, rfl⟩ := one_of h1
    cases hx.nili; cases hy.nili
    have he : (Op.equal t .nilIface .nilIface).run P w = .ok true w := equalIn_nil 9999 hd
    refine ⟨_, h2, fun op => ?_, by simp [Go.binOp, he], by simp [Go.binOp, he]⟩
    simp only [Bool.or_eq_true] at hc
    rcases hc with hc | hc
    · cases xo <;> simp [isConst] at hc
      cases op <;> simp [eqGuard]
    · cases yo <;> simp [isConst] at hc
      cases op <;> simp [eqGuard]
  · rename_i xs ys
    obtain ⟨h1, h2⟩ := need_some hk
    simp only [Bool.and_eq_true] at h1
    obtain ⟨⟨hcmp, hs1⟩, hs2⟩ := h1
    obtain ⟨b, hb, h3⟩ := eO_some h2
    rw [hX] at hs1 hs2
    obtain ⟨ca, rfl, hva⟩ := hx.agg
    obtain ⟨cb, rfl, hvb⟩ := hy.agg
    have hq := hE t hcmp
    have he := hq.eq ρ w xs ys ca cb b hs1 hs2 hva hvb hb
    refine ⟨_, h3, fun op => run_eqGuard_agg w op t xo yo ca cb hq.guard, by simp [Go.binOp, he], by simp [Go.binOp, he]⟩
  · cases hk

theorem noGuard {op : BinOp} {t : TypeId} {xo yo : Operand} {cx cy : Value} (h : op ≠ .eql) (h' : op ≠ .neq) : (eqGuard op t xo yo cx cy).run P w = .ok () w := by
  cases op <;> simp [eqGuard] at h h' ⊢

theorem binOp_run (hX : X.ty = tyOf P) (hE : ∀ t, X.cmp t = true → EqOk P t) {op : BinOp} {t : TypeId} {xo yo : Operand} {x y : V} {cx cy : Value} (hx : SV ρ β x cx) (hy : SV ρ β y cy) {k : V → Option R}
    (hk : binOp X op t (isConst xo || isConst yo) x y k = some r) : ∃ v cv, k v = some r ∧ VR ρ v cv ∧ (eqGuard op t xo yo cx cy).run P w = .ok () w ∧ (Go.binOp op t cx cy).run P w = .ok cv w := by
  unfold binOp at hk
  split at hk
  · obtain ⟨b, h1, h2, h3, h4⟩ := eql_run (w := w) hX hE hx hy hk
    exact ⟨_, _, brV_some h1, VR.bool', h2 _, h3⟩
  · obtain ⟨b, h1, h2, h3, h4⟩ := eql_run (w := w) hX hE hx hy hk
    refine ⟨.bool !b, _, ?_, VR.bool', h2 _, h4⟩
    cases b <;> simpa [br] using h1
  · split at hk
    · obtain ⟨h1, h2⟩ := need_some hk
      have h1 := of_decide_eq_true h1; subst h1
      cases hx.int; cases hy.int
      exact ⟨_, _, h2, VR.int', noGuard (by simp) (by simp), by simp [Go.binOp, Op.intArith]⟩
    · rw [cat_eq] at hk
      obtain ⟨h1, h2⟩ := need_some hk
      have h1 := of_decide_eq_true h1
      cases hx.str; cases hy.str
      refine ⟨_, _, h2, VR.str', noGuard (by simp) (by simp), ?_⟩
      simp only [Go.binOp, Op.stringOp]
      rw [if_neg (by omega)]; rfl
    · cases hk
  · split at hk
    · obtain ⟨h1, h2⟩ := need_some hk
      have h1 := of_decide_eq_true h1; subst h1
      cases hx.int; cases hy.int
      exact ⟨_, _, h2, VR.int', noGuard (by simp) (by simp), by simp [Go.binOp, Op.intArith]⟩
    · cases hk
  · split at hk
    · obtain ⟨h1, h2⟩ := need_some hk
      have h1 := of_decide_eq_true h1; subst h1
      cases hx.int; cases hy.int
      exact ⟨_, _, h2, VR.int', noGuard (by simp) (by simp), by simp [Go.binOp, Op.intArith]⟩
    · cases hk
  · split at hk
    · obtain ⟨h1, h2⟩ := need_some hk
      have h1 := of_decide_eq_true h1; subst h1
      obtain ⟨h3, h4⟩ := need_some h2
      have h3 := of_decide_eq_true h3
      cases hx.int; cases hy.int
      exact ⟨_, _, h4, VR.int', noGuard (by simp) (by simp), by simp [Go.binOp, Op.intDiv, h3]⟩
    · cases hk
  · split at hk
    · obtain ⟨h1, h2⟩ := need_some hk
      have h1 := of_decide_eq_true h1; subst h1
      obtain ⟨h3, h4⟩ := need_some h2
      have h3 := of_decide_eq_true h3
      cases hx.int; cases hy.int
      exact ⟨_, _, h4, VR.int', noGuard (by simp) (by simp), by simp [Go.binOp, Op.intDiv, h3]⟩
    · cases hk
  · split at hk
    · obtain ⟨h1, h2⟩ := need_some hk
      have h1 := of_decide_eq_true h1; subst h1
      cases hx.int; cases hy.int
      exact ⟨_, _, brV_some h2, VR.bool', noGuard (by simp) (by simp), by simp [Go.binOp, Op.intCmp]⟩
    · cases hk
  · split at hk
    · obtain ⟨h1, h2⟩ := need_some hk
      have h1 := of_decide_eq_true h1; subst h1
      cases hx.int; cases hy.int
      exact ⟨_, _, brV_some h2, VR.bool', noGuard (by simp) (by simp), by simp [Go.binOp, Op.intCmp]⟩
    · cases hk
  · split at hk
    · obtain ⟨h1, h2⟩ := need_some hk
      have h1 := of_decide_eq_true h1; subst h1
      cases hx.int; cases hy.int
      exact ⟨_, _, brV_some h2, VR.bool', noGuard (by simp) (by simp), by simp [Go.binOp, Op.intCmp]⟩
    · cases hk
  · split at hk
    · obtain ⟨h1, h2⟩ := need_some hk
      have h1 := of_decide_eq_true h1; subst h1
      cases hx.int; cases hy.int
      exact ⟨_, _, brV_some h2, VR.bool', noGuard (by simp) (by simp), by simp [Go.binOp, Op.intCmp]⟩
    · cases hk
  · split at hk
    · obtain ⟨h1, h2⟩ := need_some hk
      have h1 := of_decide_eq_true h1; subst h1
      cases hx.int; cases hy.int
      exact ⟨_, _, h2, VR.int', noGuard (by simp) (by simp), by simp [Go.binOp, Op.intBits]⟩
    · cases hk
  · cases hk

theorem do_binOp (hX : X.ty = tyOf P) (hE : ∀ t, X.cmp t = true → EqOk P t) (hs : SRel ρ β σ.s a) (hh : HRel ρ σ.h w) (hf : FRel ρ β σ.bx w) {op : BinOp} {t : TypeId} {x y : Operand} {u : TypeId}
    (hk : opT X lo dst ty (.binOp op t x y u) σ K = some r) : Does P lo base ρ β σ a w ⟨dst, .binOp op t x y u, ty, pos, after, guard⟩ K r := by
  simp only [opT] at hk
  obtain ⟨v, cv, h1, h2, h3, h4⟩ := binOp_run (w := w) hX hE (ev_rel hs x) (ev_rel hs y) hk
  exact do_value (c := cv) (by simp [execOp, h3, h4]) hh hf (SV.of h2) h1

theorem do_unOp (hs : SRel ρ β σ.s a) (hh : HRel ρ σ.h w) (hf : FRel ρ β σ.bx w) {op : UnOp} {t : TypeId} {x : Operand}
    (hk : opT X lo dst ty (.unOp op t x) σ K = some r) : Does P lo base ρ β σ a w ⟨dst, .unOp op t x, ty, pos, after, guard⟩ K r := by
  have hx := ev_rel hs x
  simp only [opT] at hk
  unfold unOp at hk
  split at hk
  · obtain ⟨b, hb, hk1⟩ := eBv_some hk
    rw [hb] at hx
    exact do_value (c := .bool !b) (by simp [execOp, hx.bool, Op.unary]) hh hf (SV.of (by simp [VR])) hk1
  · split at hk
    · rename_i k m he
      rw [he] at hx
      exact do_value (c := .int k (k.wrap (0 - m))) (by simp [execOp, hx.int, Op.unary, Op.intArith]) hh hf (SV.of (by simp [VR])) hk
    · cases hk
  · cases hk

theorem sh_of {t : TypeId} (h : (tyOf P t).sh ≠ []) : ∃ i d, P.info? t = some i ∧ P.underlying t = some d ∧ (tyOf P t).sh = shOf P 8 t := by
  unfold tyOf at h ⊢
  cases hi : P.info? t with
  | none => simp [hi, TI.none] at h
  | some i =>
    cases hd : P.underlying t with
    | none => simp [hi, hd, TI.none] at h
    | some d => exact ⟨i, d, rfl, rfl, rfl⟩

theorem do_makeFunc (hs : SRel ρ β σ.s a) (hh : HRel ρ σ.h w) (hf : FRel ρ β σ.bx w) {f : Fn} {fst cs : Array Operand}
    (hk : opT X lo dst ty (.makeFunc f fst cs) σ K = some r) : Does P lo base ρ β σ a w ⟨dst, .makeFunc f fst cs, ty, pos, after, guard⟩ K r := by
  simp only [opT] at hk
  split at hk
  · rename_i g hfst
    split at hk
    · rename_i hok
      rw [Bool.and_eq_true] at hok
      have hv := evs_rel hs cs.toList hok.1
      have : fst = #[] := by cases fst; simp at hfst; subst hfst; rfl
      subst this
      refine do_value (c := .func (.func g) #[] (cs.map a.eval)) (by simp [execOp, Instr.makeFunc]) hh hf (SV.of ?_) hk
      simp only [VR]
      refine ⟨#[], cs.map a.eval, (cs.map a.eval).toList, rfl, ?_, by simpa using hv⟩
      have hnt := hok.2
      unfold fnIn
      split
      · rename_i he; rw [he] at hnt; cases hnt
      · exact ⟨rfl, rfl⟩
    · cases hk
  · rename_i g x xs hfst
    split at hk
    · rename_i hok
      rw [Bool.and_eq_true] at hok
      have hv := evs_rel hs cs.toList hok.2
      have hv1 := evs_rel hs (x :: xs) hok.1
      refine do_value (c := .func (.func g) (fst.map a.eval) (cs.map a.eval)) (by simp [execOp, Instr.makeFunc]) hh hf (SV.of ?_) hk
      simp only [VR]
      refine ⟨fst.map a.eval, cs.map a.eval, .tuple (fst.map a.eval) :: (cs.map a.eval).toList, rfl, rfl, ?_⟩
      simp only [VRs]
      refine ⟨_, _, rfl, ?_, by simpa using hv⟩
      simp only [VR]
      exact ⟨_, rfl, by simpa [hfst] using hv1⟩
    · cases hk
  · cases hk

theorem do_extract (hs : SRel ρ β σ.s a) (hh : HRel ρ σ.h w) (hf : FRel ρ β σ.bx w) {x : Operand} {i : Nat}
    (hk : opT X lo dst ty (.extract x i) σ K = some r) : Does P lo base ρ β σ a w ⟨dst, .extract x i, ty, pos, after, guard⟩ K r := by
  have hx := ev_rel hs x
  simp only [opT] at hk
  split at hk
  · rename_i cs he
    rw [he] at hx
    obtain ⟨ys, h1, h2⟩ := hx.tup
    split at hk
    · rename_i v hv
      obtain ⟨y, h3, h4⟩ := h2.get i v hv
      exact do_value (c := y) (by simp at h3; simp [execOp, h1, Instr.extract, h3]) hh hf (SV.of h4) hk
    · cases hk
  · cases hk
end
end Go.Proofs.YtfbhdjkeofleiaaDoor.T
