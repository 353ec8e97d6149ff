/- T against the model: calls of functions, one operation of a region. -/
import Derived.Test.YtfbhdjkeofleiaaDoorTeeK
namespace Go.Proofs.YtfbhdjkeofleiaaDoor.T
open Go
set_option linter.unusedVariables false
set_option linter.unusedSimpArgs false
set_option linter.unnecessarySimpa false

/-- 'call' answers as the model's calls do. -/
structure SC (P : Program) (call : CallT) : Prop where
  enter : ∀ {lo f args h p}, call lo f args h = some p → ∃ fn, P.funcs[f]? = some fn ∧ fn.body.isNone = false ∧ (fn.name == "runtime.NumGoroutine") = false
  calls : ∀ {lo f args h v h'}, call lo f args h = some (v, h') → lo ≤ h.length → ∀ {ρ : Rho} {w : World} {cargs : Array Value}, VRs ρ args cargs.toList → HRel ρ h w →
    Calls P f cargs w fun e w' => ∃ c, e = .returned c ∧ ∃ ρ', VR ρ' v c ∧ HRel ρ' h' w' ∧ Ext lo w.heap.size ρ h w ρ' h' w'

/-- T and the model between two operations. -/
structure Ok (lo base nt : Nat) (ρ : Rho) (β : Bet) (σ : St) (a : Act) (w : World) : Prop where
  s : SRel ρ β σ.s a
  h : HRel ρ σ.h w
  f : FRel ρ β σ.bx w
  own : ∀ t r, β t = some r → base ≤ r
  hB : base ≤ w.heap.size
  hlo : lo ≤ σ.h.length
  nt : a.tmps.size = nt
  df : a.defers = []

section
variable {P : Program} {lo base nt : Nat} {ρ : Rho} {β : Bet} {σ : St} {a : Act} {w : World} {R : Type} {r : R} {K : V → St → Option R} {X : Ctx} {Q : Exit → Act → World → Prop} {next : Act → World → Prop}

theorem wp_of_does {o : Oper} (hd : Does P lo base ρ β σ a w o K r) (hn : ∀ v σ' c w', K v σ' = some r → Fine lo base ρ β σ w v σ' c w' → next (a.put o.dst c) w') : o.wp P a w next Q := by
  obtain ⟨w', h⟩ := hd
  rcases h with ⟨c, h1, v, σ', h2, h3⟩ | ⟨h1, v, σ', h2, h3⟩
  · unfold Oper.wp; rw [h1, Oper.upon_value]; exact hn v σ' c w' h2 h3
  · unfold Oper.wp; rw [h1, Oper.upon_skip]; exact hn v σ' undef w' h2 h3

theorem wp_of_calls {o : Oper} {f : FuncId} {args : Array Value} (h1 : (execOp a.eval o).run P w = .ok (.enter f args) w)
    (hc : Calls P f args w fun e w' => ∃ c, e = .returned c ∧ next (a.put o.dst c) w') : o.wp P a w next Q := by
  unfold Oper.wp; rw [h1, Oper.upon_enter]
  exact Calls.mono hc fun e w' ⟨c, he, hn⟩ => by subst he; exact hn

theorem callFunc_run {f : FuncId} {fn : Func} (hf : P.funcs[f]? = some fn) (hb : fn.body.isNone = false) (hn : (fn.name == "runtime.NumGoroutine") = false) (args : Array Value) : (callFunc f args).run P w = .ok (.enter f args) w := by
  simp only [callFunc, Sem.run_bind, run_program, Result.andThen_ok, hf, hn, hb, Bool.false_eq_true, if_false, Sem.run_pure]

theorem op_sound (hX : X.ty = tyOf P) (hE : ∀ t, X.cmp t = true → EqOk P t) (hC : SC P X.call) {o : Oper} (hk : opT X lo o.dst o.type o.op σ K = some r) (hs : SRel ρ β σ.s a) (hh : HRel ρ σ.h w) (hf : FRel ρ β σ.bx w) (hB : base ≤ w.heap.size) (hlo : lo ≤ σ.h.length)
    (hown : isWrite o = true → ∀ t r, β t = some r → base ≤ r)
    (hn : ∀ v σ' c w', K v σ' = some r → Fine lo base ρ β σ w v σ' c w' → next (a.put o.dst c) w') : o.wp P a w next Q := by
  obtain ⟨dst, op, ty, pos, after, guard⟩ := o
  cases op with
  | move x => exact wp_of_does (do_move hs hh hf hk) hn
  | assign x => exact wp_of_does (do_assign hs hh hf hk) hn
  | pick c x y => exact wp_of_does (do_pick hs hh hf hk) hn
  | alloc e => exact wp_of_does (do_alloc hB hX hs hh hf hk) hn
  | box e x => exact wp_of_does (do_box hB hX hs hh hf hk) hn
  | build t ps => exact wp_of_does (do_build hX hs hh hf hk) hn
  | buildSlice t n ps => exact wp_of_does (do_buildSlice hB hX hs hh hf hk) hn
  | load t x => exact wp_of_does (do_load hX hs hh hf hk) hn
  | store t x y => exact wp_of_does (do_store hB (hown rfl) hX hs hh hf hk) hn
  | nilCheck x => exact wp_of_does (do_nilCheck hs hh hf hk) hn
  | binOp op t x y u => exact wp_of_does (do_binOp hX hE hs hh hf hk) hn
  | unOp op t x => exact wp_of_does (do_unOp hs hh hf hk) hn
  | convert u t x => exact wp_of_does (do_convert hX hs hh hf hk) hn
  | makeFunc f fs cs => exact wp_of_does (do_makeFunc hs hh hf hk) hn
  | makeSlice t l c => exact wp_of_does (do_makeSlice hB hX hs hh hf hk) hn
  | slice t x l h m => exact wp_of_does (do_slice hX hs hh hf hk) hn
  | fieldAddr t x f => exact wp_of_does (do_fieldAddr hX hs hh hf hk) hn
  | field t x f => exact wp_of_does (do_field hX hs hh hf hk) hn
  | indexAddr t x i => exact wp_of_does (do_indexAddr hX hs hh hf hk) hn
  | index t x i => exact wp_of_does (do_index hX hs hh hf hk) hn
  | lookup t m i ok => exact wp_of_does (do_lookup hX hE hs hh hf hk) hn
  | mapUpdate t m i x => exact wp_of_does (do_mapUpdate hB hX hE hs hh hf hk) hn
  | insert t m i x => exact wp_of_does (do_insert hB hX hE hs hh hf hk) hn
  | makeMap t x => exact wp_of_does (do_makeMap hB hs hh hf hk) hn
  | extract x i => exact wp_of_does (do_extract hs hh hf hk) hn
  | call c =>
    simp only [opT] at hk
    split at hk
    · rename_i hok
      have hv := evs_rel hs c.args.toList hok
      have hv' : VRs ρ (evs σ.s c.args.toList) (c.args.map a.eval).toList := by simpa using hv
      split at hk
      · rename_i f hcal
        split at hk
        · rename_i g cs he
          obtain ⟨v, h', hcall, hk1⟩ := cal_some hk
          obtain ⟨v', hk2, hle⟩ := eRes_some hk1
          have hx := ev_rel hs f
          rw [he] at hx
          obtain ⟨fst, cps, ys, h1, hi, h2⟩ := hx.fn
          obtain ⟨fn, e1, e2, e3⟩ := hC.enter hcall
          have hrun : (execOp a.eval ⟨dst, .call c, ty, pos, after, guard⟩).run P w = .ok (.enter g (fst ++ c.args.map a.eval ++ cps)) w := by
            simp [execOp, resolve, hcal, Deferred.ofValue, h1, invoke, callFunc_run e1 e2 e3]
          have hargs : VRs ρ (fnArgs (evs σ.s c.args.toList) cs) (fst ++ c.args.map a.eval ++ cps).toList := by
            unfold fnIn at hi
            unfold fnArgs
            split at hi
            · subst hi
              simp only [VRs] at h2
              obtain ⟨y, r, he2, hy, hr⟩ := h2
              injection he2 with he3 he4
              subst he3; subst he4
              simp only [VR] at hy
              obtain ⟨zs, hz, hzs⟩ := hy
              injection hz with hz
              subst hz
              simpa using hzs.append (hv'.append hr)
            · rename_i hne
              obtain ⟨rfl, rfl⟩ := hi
              first
              | (
                  split
                  · rename_i f r _; exact (hne _ _ rfl).elim
                  · simpa using hv'.append h2)
              | simpa using hv'.append h2
          refine wp_of_calls hrun (Calls.mono (hC.calls hcall hlo hargs hh) ?_)
          rintro e w' ⟨c', rfl, ρ', r1, r2, r3⟩
          exact ⟨c', rfl, hn v' _ c' w' hk2 ⟨ρ', β, rfl, SV.of (hle ρ' c' r1), r2, hf.ext r3, r3.weaken (Nat.le_refl _) hB, Ble.refl _, fun t r h1 h2 => (by rw [h1] at h2; cases h2), noBx⟩⟩
        · cases hk
      · rename_i b hcal
        obtain ⟨c', w', v, h', q1, q2, q3⟩ := do_builtin (ty := ty) (cts := c.args.map fun | .const _ => true | _ => false) hB hX hs hh hf (b := b) (ts := c.argTypes) hv' hk
        refine wp_of_does ⟨w', .inl ⟨c', ?_, v, _, q2, q3⟩⟩ hn
        simp only [execOp, resolve, hcal, Sem.run_bind, Sem.run_pure, Result.andThen_ok, invoke]
        exact q1
      · cases hk
    · cases hk
  | _ => simp [opT] at hk

theorem Fine.len {v : V} {σ' : St} {c : Value} {w' : World} (h : Fine lo base ρ β σ w v σ' c w') : σ.h.length ≤ σ'.h.length := by
  obtain ⟨ρ', β', _, _, _, _, h, _⟩ := h; exact h.len

/-- behind an operation -/
theorem Ok.step (hk : Ok lo base nt ρ β σ a w) {v : V} {σ' : St} {c : Value} {w' : World} (hf : Fine lo base ρ β σ w v σ' c w') {d : Option Nat} (hd : ∀ t, d = some t → t < nt) :
    ∃ ρ' β', Ok lo base nt ρ' β' (putS σ' d v) (a.put d c) w' ∧ Ext lo base ρ σ.h w ρ' (putS σ' d v).h w' := by
  obtain ⟨ρ', β', h1, h2, h3, h4, h5, h6, h7, h8⟩ := hf
  refine ⟨ρ', β', ⟨?_, ?_, ?_, ?_, Nat.le_trans hk.hB h5.size, ?_, ?_, ?_⟩, ?_⟩
  · refine SRel.put ?_ h2 (fun t ht => by rw [hk.nt]; exact hd t ht)
    rw [h1]; exact hk.s.mono h5.rle h6
  · cases d <;> exact h3
  · cases d <;> exact h4
  · intro t r hr
    cases hb : β t with
    | some r0 =>
      have := h6 t r0 hb
      rw [hr] at this; injection this with this; subst this
      exact hk.own t _ hb
    | none => exact Nat.le_trans hk.hB (h7 t r hb hr).1
  · have := h5.len
    cases d <;> exact Nat.le_trans hk.hlo this
  · cases d <;> simp [Act.put, hk.nt]
  · cases d <;> simp [Act.put, hk.df]
  · cases d <;> exact h5

theorem Ok.skip (hk : Ok lo base nt ρ β σ a w) {d : Option Nat} (hd : ∀ t, d = some t → t < nt) : Ok lo base nt ρ β (putS σ d (.tup [])) (a.put d undef) w := by
  refine ⟨SRel.put hk.s (SV.of (by simp [VR, VRs, undef])) (fun t ht => by rw [hk.nt]; exact hd t ht), ?_, ?_, hk.own, hk.hB, ?_, ?_, ?_⟩
  · cases d <;> exact hk.h
  · cases d <;> exact hk.f
  · cases d <;> exact hk.hlo
  · cases d <;> simp [Act.put, hk.nt]
  · cases d <;> simp [Act.put, hk.df]

theorem guard_wanted {ops : Array Oper} {s : List (Nat × V)} {o : Oper} (hs : ∀ (j : Nat) (want : Bool) (g : Oper) (t : Nat), o.guard = some (j, want) → ops[j]? = some g → g.dst = some t → SV ρ β (look s t) (a.tmps.getD t undef)) {run skip : Option R} (hk : guardT ops.toList s o.guard run skip = some r) :
    (Region.wanted o (yielded ops a.tmps) = true ∧ run = some r) ∨ (Region.wanted o (yielded ops a.tmps) = false ∧ skip = some r) := by
  unfold guardT at hk
  unfold Region.wanted
  split at hk
  · rename_i hg; rw [hg]; exact .inl ⟨rfl, hk⟩
  · rename_i j want hg
    rw [hg]
    split at hk
    · cases hk
    · rename_i g hj
      have hj' : ops[j]? = some g := by simpa using hj
      split at hk
      · cases hk
      · rename_i t ht
        have hsv := hs j want g t hg hj' ht
        have hy : ∀ x, yielded ops a.tmps j = x ↔ (match a.tmps[t]? with | some (.bool b) => some b | _ => none) = x := by
          intro x; unfold yielded; simp [hj', ht]; rfl
        split at hk
        · rename_i b hb
          rw [hb] at hsv
          have hv := hsv.bool
          have hv' : a.tmps[t]? = some (.bool b) := by
            cases h : a.tmps[t]? with
            | none => rw [Array.getD_eq_getD_getElem?, h] at hv; simp [undef] at hv
            | some y => rw [Array.getD_eq_getD_getElem?, h] at hv; simp at hv; rw [hv]
          have hyy : yielded ops a.tmps j = some b := (hy _).2 (by rw [hv'])
          simp only [hyy]
          cases want <;> simp only at hk <;> rcases br_some hk with ⟨rfl, h⟩ | ⟨rfl, h⟩ <;> simp [h]
        · rename_i cs hb
          rw [hb] at hsv
          obtain ⟨ys, hv, _⟩ := hsv.tup
          have hyy : yielded ops a.tmps j = none := (hy _).2 (by
            cases h : a.tmps[t]? with
            | none => rfl
            | some y => rw [Array.getD_eq_getD_getElem?, h] at hv; simp at hv; rw [hv])
          simp only [hyy]
          exact .inr ⟨by cases want <;> rfl, hk⟩
        · cases hk
end
end Go.Proofs.YtfbhdjkeofleiaaDoor.T
