/- T against the model: functions. -/
import Derived.Test.YtfbhdjkeofleiaaDoorTeeM
namespace Go.Proofs.YtfbhdjkeofleiaaDoor.T
open Go
set_option linter.unusedVariables false
set_option linter.unusedSimpArgs false
set_option linter.unnecessarySimpa false

section
variable {P : Program} {lo base nt m : Nat} {ρ : Rho} {β : Bet} {σ : St} {a : Act} {w : World} {X : Ctx}

theorem resT1_run (hX : X.ty = tyOf P) (ho : Ok lo base nt ρ β σ a w) {rv : ResultVar} {v : V} (h : resT1 X σ rv = some v) :
    ∃ c, (match rv with | .tmp t => pure (a.tmps.getD t undef) | .cell s t => do loadVar t (← asAddr (a.tmps.getD s undef)) : Sem Value).run P w = .ok c w ∧ VR ρ v c := by
  cases rv with
  | tmp t =>
    simp only [resT1] at h
    split at h
    · rename_i hok
      injection h with h; subst h
      exact ⟨_, rfl, (ho.s t).ok hok⟩
    · cases h
  | cell s t =>
    simp only [resT1] at h
    rw [hX] at h
    have hs := ho.s s
    split at h
    · rename_i u j he
      rw [he] at hs
      obtain ⟨q, h1, h2⟩ := hs
      split at h
      · rename_i row hrow
        split at h
        · rename_i cs hcs
          split at h
          · rename_i hkn
            obtain ⟨ys, g1, g2, g3⟩ := box_rel ho.f h1 hrow hcs
            obtain ⟨c, k1, k2⟩ := run_loadVar_of (w := w) hkn g1 g2 g3 h
            exact ⟨c, by simp only [h2, asAddr, Sem.run_bind, Sem.run_pure, Result.andThen_ok, k1], k2⟩
          · cases h
        · cases h
      · cases h
    · rename_i p he
      rw [he] at hs
      split at h
      · cases h
      · rename_i hkn
        cases p with
        | none => simp at h
        | some q =>
          obtain ⟨b, i, j⟩ := q
          simp only [Option.bind_some] at h
          obtain ⟨e, h1, h2⟩ := hs.ptr
          cases hl : ld σ.h b i j (tyOf P t).size with
          | none => rw [hl] at h; cases h
          | some cs =>
            rw [hl] at h
            simp only [Option.bind_some] at h
            obtain ⟨v', hv, hle, hone⟩ := eCells_some h
            injection hv with hv; subst hv
            obtain ⟨ys, g1, g2, g3⟩ := ld_rel ho.h h1 hl
            obtain ⟨c, k1, k2⟩ := run_loadVar_of (w := w) hkn g1 g2 g3 (mkO_of_mkV hone)
            exact ⟨c, by simp only [h2, asAddr, Sem.run_bind, Sem.run_pure, Result.andThen_ok, k1], hle ρ c k2⟩
    · cases h

theorem resTs_run (hX : X.ty = tyOf P) (ho : Ok lo base nt ρ β σ a w) : ∀ {rs : List ResultVar} {vs : List V}, resTs X σ rs = some vs →
    ∃ cs, (rs.mapM fun rv => (match rv with | .tmp t => pure (a.tmps.getD t undef) | .cell s t => do loadVar t (← asAddr (a.tmps.getD s undef)) : Sem Value)).run P w = .ok cs w ∧ VRs ρ vs cs
  | [], vs, h => by simp [resTs] at h; subst h; exact ⟨[], rfl, VRs.nil⟩
  | rv :: rs, vs, h => by
    simp only [resTs] at h
    split at h
    · rename_i v hv
      split at h
      · rename_i vs' hvs
        injection h with h; subst h
        obtain ⟨c, h1, h2⟩ := resT1_run hX ho hv
        obtain ⟨cs, h3, h4⟩ := resTs_run hX ho hvs
        refine ⟨c :: cs, ?_, VRs.cons h2 h4⟩
        simp only [List.mapM_cons, Sem.run_bind, h1, Result.andThen_ok, h3, Sem.run_pure]
      · cases h
    · cases h

theorem resT_run (hX : X.ty = tyOf P) (ho : Ok lo base nt ρ β σ a w) {fn : Func} {v : V} {h' : Heap} (h : resT X fn.results.toList σ = some (v, h')) : h' = σ.h ∧ ∃ c, (results fn a.tmps).run P w = .ok c w ∧ VR ρ v c := by
  unfold resT at h
  split at h
  · rename_i vs hvs
    obtain ⟨cs, h1, h2⟩ := resTs_run hX ho hvs
    have hrun : ∀ c, (if hh : cs.toArray.size = 1 then cs.toArray[0] else Value.tuple cs.toArray) = c → (results fn a.tmps).run P w = .ok c w := by
      intro c hc
      unfold results
      rw [Array.mapM_eq_mapM_toList]
      simp only [Sem.run_bind, Sem.run_map, Sem.run_pure]
      erw [h1]
      simp only [Result.andThen_ok]
      rw [hc]
    split at h
    · rename_i v0
      simp only [Option.some.injEq, Prod.mk.injEq] at h
      obtain ⟨rfl, rfl⟩ := h
      simp only [VRs] at h2
      obtain ⟨y, r, rfl, h3, rfl⟩ := h2
      exact ⟨rfl, y, hrun y (by simp), h3⟩
    · rename_i hne
      simp only [Option.some.injEq, Prod.mk.injEq] at h
      obtain ⟨rfl, rfl⟩ := h
      refine ⟨rfl, .tuple cs.toArray, hrun _ ?_, ?_⟩
      · have hl := h2.length
        rw [dif_neg]
        intro h1
        have : vs.length = 1 := by rw [hl]; simpa using h1
        match vs, this with
        | [x], _ => exact hne x rfl
      · simp only [VR]; exact ⟨_, rfl, by simpa using h2⟩
  · cases h

theorem look_argSlots : ∀ (args : List V) (i t : Nat), look (argSlots i args) t = if i ≤ t then (args[t - i]?).getD .any else .any
  | [], i, t => by simp [argSlots, look]
  | v :: args, i, t => by
    simp only [argSlots, look_cons]
    by_cases h : i = t
    · subst h; simp
    · simp only [h, if_false]
      rw [look_argSlots args (i + 1) t]
      by_cases h1 : i ≤ t
      · have h2 : i + 1 ≤ t := by omega
        simp only [h1, h2, if_true]
        rw [show t - i = (t - (i + 1)) + 1 by omega]
        simp
      · have h2 : ¬ (i + 1 ≤ t) := by omega
        simp [h1, h2]

theorem fn_sound {I : Info} {call : CallT} (hX : I.ty = tyOf P) (hE : ∀ t, I.cmp t = true → EqOk P t) (hC : SC P call) (hD : ∀ f, DrawOk P (I.ctx call f).narrow) {f : FuncId} {fn : Func} {c : Code} (hf : P.funcs[f]? = some fn) (hb : fn.body = some c) (hd : dstOk fn.ntmps c = true)
    {args : List V} {h h' : Heap} {v : V} (hk : fnT I fn call lo f args h = some (v, h')) (hlo : lo ≤ h.length) {cargs : Array Value} (hv : VRs ρ args cargs.toList) (hh : HRel ρ h w) :
    Calls P f cargs w fun e w' => ∃ c, e = .returned c ∧ ∃ ρ', VR ρ' v c ∧ HRel ρ' h' w' ∧ Ext lo w.heap.size ρ h w ρ' h' w' := by
  unfold fnT at hk
  rw [hb] at hk
  simp only at hk
  refine calls_of_wp hf hb ?_
  have hlen := hv.length
  simp at hlen
  have ho : Ok lo w.heap.size (cargs ++ Array.replicate (fn.ntmps - cargs.size) undef).size ρ (fun _ => none) ⟨argSlots 0 args, [], h⟩ { tmps := cargs ++ Array.replicate (fn.ntmps - cargs.size) undef, defers := [] } w := by
    refine ⟨fun t => ?_, hh, ⟨fun t r h => (by cases h), fun t r h => (by cases h), fun t t' r h => (by cases h), fun t r b e h => (by cases h)⟩, fun t r h => (by cases h), Nat.le_refl _, hlo, rfl, rfl⟩
    show SV ρ _ (look (argSlots 0 args) t) _
    rw [look_argSlots]
    simp only [Nat.zero_le, if_true, Nat.sub_zero]
    cases hx : args[t]? with
    | none => exact SV.of (VR.any _)
    | some x =>
      obtain ⟨y, h1, h2⟩ := hv.get t x hx
      have ht : t < cargs.size := by have := (List.getElem?_eq_some_iff.1 h1).1; simpa using this
      have : (cargs ++ Array.replicate (fn.ntmps - cargs.size) undef).getD t undef = y := by
        rw [Array.getD_eq_getD_getElem?, Array.getElem?_append_left ht]
        simp at h1; simp [h1]
      rw [this]
      exact SV.of h2
  refine wp_mono (exec_sound (X := I.ctx call f) hX hE hC (hD f) (by simp; omega) c 0 _ _ ρ _ _ w hd hk ho) ?_
  rintro e a' w' ⟨e', σ', ρ', β', h1, rfl, h3, h4⟩
  cases e' with
  | normal =>
    obtain ⟨rfl, c', g1, g2⟩ := resT_run (X := I.ctx call f) hX h3 h1
    exact ⟨h3.df, c', g1, c', rfl, ρ', g2, h3.h, h4⟩
  | ret =>
    obtain ⟨rfl, c', g1, g2⟩ := resT_run (X := I.ctx call f) hX h3 h1
    exact ⟨h3.df, c', g1, c', rfl, ρ', g2, h3.h, h4⟩
  | exit j => cases h1

mutual
theorem VR.noId {ρ ρ' : Rho} : ∀ (x : V) (c : Value), noId x = true → VR ρ x c → VR ρ' x c
  | .int _ _, _, _, h => by simpa [VR] using h
  | .bool _, _, _, h => by simpa [VR] using h
  | .str _, _, _, h => by simpa [VR] using h
  | .nilf, _, _, h => by simpa [VR] using h
  | .nili, _, _, h => by simpa [VR] using h
  | .agg cs, _, hn, h => by
    simp only [T.noId] at hn
    simp only [VR] at h ⊢
    obtain ⟨ys, hv, hc⟩ := h
    exact ⟨ys, hv, VRs.noId cs _ hn hc⟩
  | .tup cs, _, hn, h => by
    simp only [T.noId] at hn
    simp only [VR] at h ⊢
    obtain ⟨ys, hv, hc⟩ := h
    exact ⟨ys, hv, VRs.noId cs _ hn hc⟩
  | .ptr _, _, hn, _ => by simp [T.noId] at hn
  | .lp _ _, _, hn, _ => by simp [T.noId] at hn
  | .sl _ _ _ _, _, hn, _ => by simp [T.noId] at hn
  | .map _, _, hn, _ => by simp [T.noId] at hn
  | .fn _ _, _, hn, _ => by simp [T.noId] at hn
  | .ifc _ _, _, hn, _ => by simp [T.noId] at hn
  | .any, _, hn, _ => by simp [T.noId] at hn
theorem VRs.noId {ρ ρ' : Rho} : ∀ (xs : List V) (cs : List Value), noIds xs = true → VRs ρ xs cs → VRs ρ' xs cs
  | [], _, _, h => by simpa [VRs] using h
  | x :: xs, _, hn, h => by
    simp only [T.noIds] at hn
    split at hn
    · rename_i hx
      simp only [VRs] at h ⊢
      obtain ⟨y, r, hy, h1, h2⟩ := h
      exact ⟨y, r, hy, VR.noId x _ hx h1, VRs.noId xs _ hn h2⟩
    · cases hn
end

theorem SC.none : SC P (fun _ _ _ _ => none) := ⟨fun h => (by cases h), fun h => (by cases h)⟩

/-- What T leans on of a program. -/
structure Sound (P : Program) (I : Info) : Prop where
  ty : I.ty = tyOf P
  cmp : ∀ t, I.cmp t = true → EqOk P t
  fns : ∀ (f : FuncId) (fn : Func) (c : Code), P.funcs[f]? = some fn → fn.body = some c → dstOk fn.ntmps c = true ∧ (fn.name == "runtime.NumGoroutine") = false
  draw : ∀ (call : CallT) (f : FuncId), SC P call → DrawOk P (I.ctx call f).narrow

theorem evalN_sound {I : Info} (hS : Sound P I) : ∀ n, SC P (evalN P I n)
  | 0 => ⟨fun h => (by cases h), fun h => (by cases h)⟩
  | n + 1 => by
    have ih := evalN_sound hS n
    have inv : ∀ {lo f args h v h'}, evalN P I (n + 1) lo f args h = some (v, h') → ∃ fn c h2, P.funcs[f]? = some fn ∧ fn.body = some c ∧ fnT I fn (evalN P I n) (loT (I.drop f) lo h) f args h = some (v, h2) ∧
        ((I.drop f = false ∧ h' = h2) ∨ (I.drop f = true ∧ noId v = true ∧ h' = h)) := by
      intro lo f args h v h' hk
      simp only [evalN] at hk
      split at hk
      · cases hk
      · rename_i fn hf
        cases hp : fnT I fn (evalN P I n) (loT (I.drop f) lo h) f args h with
        | none => rw [hp] at hk; cases hk
        | some p =>
          rw [hp] at hk
          simp only [Option.bind_some] at hk
          have hb : ∃ c, fn.body = some c := by
            unfold fnT at hp
            cases hb : fn.body with
            | none => rw [hb] at hp; cases hp
            | some c => exact ⟨c, rfl⟩
          obtain ⟨c, hb⟩ := hb
          unfold dropT at hk
          split at hk
          · injection hk with hk
            subst hk
            exact ⟨fn, c, h', hf, hb, hp, .inl ⟨‹_›, rfl⟩⟩
          · split at hk
            · rename_i hn
              simp only [Option.some.injEq, Prod.mk.injEq] at hk
              obtain ⟨rfl, rfl⟩ := hk
              exact ⟨fn, c, p.2, hf, hb, hp, .inr ⟨‹_›, hn, rfl⟩⟩
            · cases hk
    refine ⟨fun {lo f args h p} hk => ?_, fun {lo f args h v h'} hk hlo {ρ w cargs} hv hh => ?_⟩
    · obtain ⟨v, h'⟩ := p
      obtain ⟨fn, c, h2, hf, hb, hp, _⟩ := inv hk
      exact ⟨fn, hf, by rw [hb]; rfl, (hS.fns f fn c hf hb).2⟩
    · obtain ⟨fn, c, h2, hf, hb, hp, hd⟩ := inv hk
      have hlo2 : loT (I.drop f) lo h ≤ h.length := by unfold loT; split <;> omega
      have hc := fn_sound hS.ty hS.cmp ih (fun f => hS.draw _ f ih) hf hb (hS.fns f fn c hf hb).1 hp hlo2 hv hh
      rcases hd with ⟨hd, rfl⟩ | ⟨hd, hn, rfl⟩
      · rw [hd] at hc; exact hc
      · rw [hd] at hc
        simp only [loT] at hc
        refine Calls.mono hc ?_
        rintro e w' ⟨c', he, ρ', h1, h2, h3⟩
        have hfr : ∀ r, r < w.heap.size → w'.heap[r]? = w.heap[r]? := fun r hr => h3.frame r hr fun b e hb hle => by
          have := (hh.dom b e hb).1; omega
        refine ⟨c', he, ρ, VR.noId _ _ hn h1, ⟨fun b e hb => ?_, fun b e k hb hk => ?_, hh.inj⟩, ⟨Rle.refl _, fun b e h1 h2 => (by rw [h1] at h2; cases h2), fun r hr _ => hfr r hr, h3.size, h3.os, h3.tape, h3.output, Nat.le_refl _, fun _ _ _ => rfl, fun b h1 h2 => absurd h2 (Nat.not_lt.2 h1)⟩⟩
        · have := hh.dom b e hb
          exact ⟨this.1, Nat.lt_of_lt_of_le this.2 h3.size⟩
        · exact BR.mono (Rle.refl _) (hfr _ (hh.dom b e hb).2) (hh.blk b e k hb hk)

theorem eval_some {I : Info} {f : FuncId} {args : List V} {h : Heap} {p : V × Heap} (hk : eval P I lo f args h = some p) : ∃ n, ∀ m, n ≤ m → evalN P I m lo f args h = some p := by
  unfold eval LimO at hk
  split at hk
  · rename_i hx
    injection hk with hk
    obtain ⟨n, hn⟩ := Classical.choose_spec hx
    exact ⟨n, fun m hm => by have := hn m hm; rw [← hk]; exact this⟩
  · cases hk

/-- T's answer is the model's. -/
theorem eval_sound {I : Info} (hS : Sound P I) : SC P (eval P I) :=
  ⟨fun hk => by obtain ⟨n, hn⟩ := eval_some hk; exact (evalN_sound hS n).enter (hn n (Nat.le_refl _)),
   fun hk => by obtain ⟨n, hn⟩ := eval_some hk; exact (evalN_sound hS n).calls (hn n (Nat.le_refl _))⟩
end
end Go.Proofs.YtfbhdjkeofleiaaDoor.T
