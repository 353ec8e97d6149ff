/- '==' of flat structs; what a program must show for T to be sound. -/
import Derived.Test.YtfbhdjkeofleiaaDoorTeeX
import Derived.Laws.StructEq
namespace Go.Proofs.YtfbhdjkeofleiaaDoor.T
open Go
set_option linter.unusedVariables false
set_option linter.unusedSimpArgs false
set_option linter.unnecessarySimpa false

def scal : TypeDesc → Bool
  | .int _ => true
  | .bool => true
  | .string => true
  | _ => false
/-- a struct of scalars and such structs, its fields one behind the other -/
def flatFs (P : Program) (n : Nat) (g : TypeId → Bool) : List Field → Nat → Bool
  | [], _ => true
  | f :: fs, off => match f.name != "_" && Nat.beq f.offset off && g f.type && Nat.beq (tyOf P f.type).size (shOf P n f.type).length with
    | true => flatFs P n g fs (off + (shOf P n f.type).length)
    | false => false
def flatT (P : Program) : Nat → TypeId → Bool
  | 0, _ => false
  | n + 1, t => match (tyOf P t).known, P.underlying t with
    | true, some (.struct fs) => match P.stoodInHeld t with
      | true => false
      | false => flatFs P n (flatT P n) fs.toList 0
    | true, some d => scal d
    | _, _ => false

section
variable {P : Program} {ρ : Rho}

theorem shOks_len : ∀ {ss : List Sh} {xs : List V}, shOks ss xs = true → xs.length = ss.length
  | [], [], _ => rfl
  | [], _ :: _, h => by simp [shOks] at h
  | _ :: _, [], h => by simp [shOks] at h
  | s :: ss, x :: xs, h => by
    simp only [shOks] at h
    split at h
    · simp [shOks_len h]
    · cases h
theorem shOks_append : ∀ {ss ss' : List Sh} {xs : List V}, shOks (ss ++ ss') xs = true → shOks ss (xs.take ss.length) = true ∧ shOks ss' (xs.drop ss.length) = true
  | [], ss', xs, h => by simpa [shOks] using h
  | s :: ss, ss', [], h => by simp [shOks] at h
  | s :: ss, ss', x :: xs, h => by
    simp only [List.cons_append, shOks] at h
    split at h
    · rename_i hs
      obtain ⟨h1, h2⟩ := shOks_append h
      simp [shOks, hs, h1, h2]
    · cases h
theorem eqVs_split : ∀ {k : Nat} {xs ys : List V} {r : Bool}, eqVs xs ys = some r → ∃ r1 r2, eqVs (xs.take k) (ys.take k) = some r1 ∧ eqVs (xs.drop k) (ys.drop k) = some r2 ∧ r = (r1 && r2)
  | 0, xs, ys, r, h => ⟨true, r, by simp [eqVs], by simpa using h, by simp⟩
  | k + 1, [], [], r, h => by simp [eqVs] at h; subst h; exact ⟨true, true, by simp [eqVs], by simp [eqVs], rfl⟩
  | k + 1, [], _ :: _, r, h => by simp [eqVs] at h
  | k + 1, _ :: _, [], r, h => by simp [eqVs] at h
  | k + 1, x :: xs, y :: ys, r, h => by
    simp only [eqVs] at h
    split at h
    · rename_i a b ha hb
      injection h with h; subst h
      obtain ⟨r1, r2, h1, h2, h3⟩ := eqVs_split (k := k) hb
      exact ⟨a && r1, r2, by simp [eqVs, ha, h1], by simpa using h2, by rw [h3, Bool.and_assoc]⟩
    · cases h

theorem cut_of {row : List V} {j n : Nat} (h : j + n ≤ row.length) : cut row j n = some ((row.drop j).take n) := by
  induction j generalizing row with
  | zero =>
    induction n generalizing row with
    | zero => simp [cut]
    | succ n ih =>
      cases row with
      | nil => simp at h
      | cons v r => simp [cut, ih (row := r) (by simp at h; omega)]
  | succ j ih =>
    cases row with
    | nil => simp at h
    | cons v r => simp only [cut]; rw [ih (by simp at h; omega)]; simp

theorem mkO_flat {n : Nat} {t : TypeId} (h : flatT P n t = true) {xs : List V} (hs : shOks (shOf P n t) xs = true) : ∃ v, mkO (tyOf P t).agg xs = some v := by
  cases n with
  | zero => simp [flatT] at h
  | succ n =>
    simp only [flatT] at h
    split at h
    · exact ⟨_, mkO_of_mkV (fun hA => by
        rename_i hk hu
        obtain ⟨i, d, hi, hd, _, _, h3, _⟩ := known_of hk
        rw [hu] at hd; injection hd with hd; subst hd
        rw [h3] at hA; simp [aggD] at hA)⟩
    · rename_i d hns hk hu
      refine ⟨_, mkO_of_mkV fun _ => ?_⟩
      have hl := shOks_len hs
      have h1 : (shOf P (n + 1) t).length = 1 := by cases d <;> simp only [scal] at h <;> (try cases h) <;> simp [shOf, hu]
      rw [h1] at hl
      match xs, hl with
      | [x], _ => exact ⟨x, rfl⟩
    · cases h

theorem shOf_int {n : Nat} {t : TypeId} {k : IntKind} (h : P.underlying t = some (.int k)) : shOf P (n + 1) t = [.int k] := by simp [shOf, h]
theorem flat_eq : ∀ (n : Nat) (t : TypeId), flatT P n t = true → ∀ (d : Nat), n ≤ d → ∀ (w : World) (xs ys : List V) (v u : V) (r : Bool), shOks (shOf P n t) xs = true → shOks (shOf P n t) ys = true →
    mkO (tyOf P t).agg xs = some v → mkO (tyOf P t).agg ys = some u → eqVs xs ys = some r → ∀ c c', VR ρ v c → VR ρ u c' → (Op.equalIn d t c c').run P w = .ok r w := by
  intro n
  induction n with
  | zero => intro t h; simp [flatT] at h
  | succ n ih =>
    intro t h d hd w xs ys v u r hx hy hv hu hr c c' hc hc'
    obtain ⟨d, rfl⟩ : ∃ m, d = m + 1 := ⟨d - 1, by omega⟩
    simp only [flatT] at h
    split at h
    · rename_i fs hk hun
      split at h
      · cases h
      rename_i hst
      obtain ⟨i, d', hi, hd', _, _, h3, _⟩ := known_of hk
      rw [hun] at hd'; injection hd' with hd'; subst hd'
      rw [h3] at hv hu
      simp only [aggD, mkO, Option.some.injEq] at hv hu
      subst hv; subst hu
      simp only [VR] at hc hc'
      obtain ⟨ca, rfl, hca⟩ := hc
      obtain ⟨cb, rfl, hcb⟩ := hc'
      have hfo : P.fieldsOf t = fs := by simp [Program.fieldsOf, hun]
      rw [run_equalIn_agg w d t ca cb (by rw [hun, hfo]) hst, hfo]
      have hsh : shOf P (n + 1) t = fs.toList.flatMap fun f => shOf P n f.type := by simp [shOf, hun]
      rw [hsh] at hx hy
      have hlen : xs.length = ys.length := by rw [shOks_len hx, shOks_len hy]
      have main : ∀ (l : List Field) (off : Nat) (r : Bool), flatFs P n (flatT P n) l off = true → off + (l.flatMap fun f => shOf P n f.type).length = xs.length → shOks (l.flatMap fun f => shOf P n f.type) (xs.drop off) = true → shOks (l.flatMap fun f => shOf P n f.type) (ys.drop off) = true →
          eqVs (xs.drop off) (ys.drop off) = some r → (Op.eqFields d ca cb l).run P w = .ok r w := by
        intro l
        induction l with
        | nil =>
          intro off r _ _ h1 h2 h3
          have e1 := shOks_len h1
          have e2 := shOks_len h2
          simp only [List.flatMap_nil, List.length_nil] at e1 e2
          rw [List.eq_nil_of_length_eq_zero e1, List.eq_nil_of_length_eq_zero e2] at h3
          simp [eqVs] at h3; subst h3
          simp [Op.eqFields]
        | cons f l ihl =>
          intro off r hf hoff h1 h2 h3
          simp only [flatFs] at hf
          split at hf
          · rename_i hcond
            simp only [Bool.and_eq_true, bne_iff_ne, ne_eq] at hcond
            obtain ⟨⟨⟨hn, ho⟩, hg⟩, hsz⟩ := hcond
            have ho := Nat.eq_of_beq_eq_true ho
            have hsz := Nat.eq_of_beq_eq_true hsz
            simp only [List.flatMap_cons] at h1 h2 hoff
            rw [List.length_append] at hoff
            obtain ⟨h1a, h1b⟩ := shOks_append h1
            obtain ⟨h2a, h2b⟩ := shOks_append h2
            obtain ⟨r1, r2, g1, g2, g3⟩ := eqVs_split (k := (shOf P n f.type).length) h3
            have hkn : (tyOf P f.type).known = true := by
              cases n with
              | zero => simp [flatT] at hg
              | succ n =>
                simp only [flatT] at hg
                split at hg
                · assumption
                · assumption
                · cases hg
            have c1 : cut xs off (tyOf P f.type).size = some ((xs.drop off).take (shOf P n f.type).length) := by
              rw [hsz]; exact cut_of (by omega)
            have c2 : cut ys off (tyOf P f.type).size = some ((ys.drop off).take (shOf P n f.type).length) := by
              rw [hsz]; exact cut_of (by omega)
            obtain ⟨v, hv⟩ := mkO_flat hg h1a
            obtain ⟨u, hu⟩ := mkO_flat hg h2a
            obtain ⟨c, k1, k2⟩ := part_run (w := w) hkn hca c1 hv
            obtain ⟨c', k3, k4⟩ := part_run (w := w) hkn hcb c2 hu
            have hq := ih f.type hg d (by omega) w _ _ v u r1 h1a h2a hv hu g1 c c' k2 k4
            rw [List.drop_drop] at h1b h2b g2
            rw [List.drop_drop] at g2
            simp only [Op.eqFields, ne_eq, hn, not_false_eq_true, if_true, Sem.run_bind, ho, k1, k3, Result.andThen_ok, hq]
            cases r1 with
            | true =>
              simp only [Bool.not_true, Bool.false_eq_true, if_false]
              rw [g3, Bool.true_and]
              exact ihl _ r2 hf (by omega) h1b h2b g2
            | false => simp [g3]
          · cases hf
      exact main fs.toList 0 r h (by rw [shOks_len hx]; omega) (by simpa using hx) (by simpa using hy) (by simpa using hr)
    · rename_i d' hns hk hun
      obtain ⟨i, d'', hi, hd', _, _, h3, _⟩ := known_of hk
      rw [hun] at hd'; injection hd' with hd'; subst hd'
      have key : ∀ s, shOf P (n + 1) t = [s] → aggD d' = false → (∀ y, shOk s y = true → ∀ x, shOk s x = true → ∀ r, eqC x y = some r → ∀ c c', VR ρ x c → VR ρ y c' → (Op.equalIn (d + 1) t c c').run P w = .ok r w) → (Op.equalIn (d + 1) t c c').run P w = .ok r w := by
        intro s hsh hag hs
        rw [hsh] at hx hy
        rw [h3, hag] at hv hu
        match xs, ys, shOks_len hx, shOks_len hy with
        | [x], [y], _, _ =>
          simp only [mkO, Option.some.injEq] at hv hu
          subst hv; subst hu
          simp only [shOks] at hx hy
          simp only [eqVs] at hr
          refine hs y ?_ x ?_ r ?_ c c' hc hc'
          · cases hz : shOk s y <;> simp [hz] at hy ⊢
          · cases hz : shOk s x <;> simp [hz] at hx ⊢
          · cases hz : eqC x y <;> simp [hz] at hr ⊢; exact hr
      cases d' <;> simp only [scal] at h <;> (try cases h)
      · refine key .bool (by simp [shOf, hun]) rfl (fun y hy x hx r hr c c' hc hc' => ?_)
        cases x <;> simp [shOk] at hx; cases y <;> simp [shOk] at hy
        simp [eqC] at hr; simp [VR] at hc hc'; subst hc; subst hc'; subst hr
        exact run_equalIn_bool' w d t _ _ hun
      · refine key _ (shOf_int hun) rfl (fun y hy x hx r hr c c' hc hc' => ?_)
        cases x <;> simp [shOk] at hx; cases y <;> simp [shOk] at hy
        subst hx; subst hy
        simp [eqC] at hr; simp [VR] at hc hc'; subst hc; subst hc'; subst hr
        exact run_equalIn_int w d t _ _ _ _ hun
      · refine key .str (by simp [shOf, hun]) rfl (fun y hy x hx r hr c c' hc hc' => ?_)
        cases x <;> simp [shOk] at hx; cases y <;> simp [shOk] at hy
        simp [eqC] at hr; simp [VR] at hc hc'; subst hc; subst hc'; subst hr
        exact run_equalIn_string w d t _ _ hun
    · cases h

/-- what 'checkKey' asks of a struct's fields -/
def keyFields (b : Bool) (n : Nat) (cs : Array Value) : List Field → Sem Unit
  | [] => pure ()
  | f :: fs =>
    if f.name ≠ "_" then do
      let a ← part f.type cs f.offset
      Instr.checkKey b n f.type a
      keyFields b n cs fs
    else keyFields b n cs fs
theorem run_checkKey_struct (w : World) (b : Bool) (d : Nat) (t : TypeId) (cs : Array Value) (fs : Array Field) (ht : P.underlying t = some (.struct fs)) :
    (Instr.checkKey b (d + 1) t (.agg cs)).run P w = (keyFields b d cs fs.toList).run P w := by
  simp only [Instr.checkKey, Sem.run_bind, run_underlying ht, Result.andThen_ok]
  rw [← Array.forIn_toList]
  generalize fs.toList = l
  clear ht
  induction l generalizing w with
  | nil => simp [keyFields]
  | cons f l ih =>
    simp only [List.forIn_cons, keyFields, Sem.run_bind, Sem.run_ite]
    split
    · generalize (part f.type cs f.offset).run P w = r1
      cases r1 with
      | ok a w1 =>
        simp only [Result.andThen_ok]
        generalize (Instr.checkKey b d f.type a).run P w1 = r2
        cases r2 with
        | ok u w2 =>
          simp only [Result.andThen_ok, Sem.run_pure]
          exact ih w2
        | halt x w2 => simp [Result.andThen]
      | halt x w1 => simp [Result.andThen]
    · simp only [Sem.run_pure, Result.andThen_ok]
      exact ih w

theorem flat_key : ∀ (n : Nat) (t : TypeId), flatT P n t = true → ∀ (d : Nat), n ≤ d → ∀ (b : Bool) (w : World) (xs : List V) (v : V), shOks (shOf P n t) xs = true →
    mkO (tyOf P t).agg xs = some v → ∀ c, VR ρ v c → (Instr.checkKey b d t c).run P w = .ok () w := by
  intro n
  induction n with
  | zero => intro t h; simp [flatT] at h
  | succ n ih =>
    intro t h d hd b w xs v hx hv c hc
    obtain ⟨d, rfl⟩ : ∃ m, d = m + 1 := ⟨d - 1, by omega⟩
    simp only [flatT] at h
    split at h
    · rename_i fs hk hun
      split at h
      · cases h
      rename_i hst
      obtain ⟨i, d', hi, hd', _, _, h3, _⟩ := known_of hk
      rw [hun] at hd'; injection hd' with hd'; subst hd'
      rw [h3] at hv
      simp only [aggD, mkO, Option.some.injEq] at hv
      subst hv
      simp only [VR] at hc
      obtain ⟨ca, rfl, hca⟩ := hc
      rw [run_checkKey_struct w b d t ca fs hun]
      have hsh : shOf P (n + 1) t = fs.toList.flatMap fun f => shOf P n f.type := by simp [shOf, hun]
      rw [hsh] at hx
      have main : ∀ (l : List Field) (off : Nat), flatFs P n (flatT P n) l off = true → off + (l.flatMap fun f => shOf P n f.type).length = xs.length → shOks (l.flatMap fun f => shOf P n f.type) (xs.drop off) = true →
          (keyFields b d ca l).run P w = .ok () w := by
        intro l
        induction l with
        | nil => intro off _ _ _; simp [keyFields]
        | cons f l ihl =>
          intro off hf hoff h1
          simp only [flatFs] at hf
          split at hf
          · rename_i hcond
            simp only [Bool.and_eq_true, bne_iff_ne, ne_eq] at hcond
            obtain ⟨⟨⟨hn, ho⟩, hg⟩, hsz⟩ := hcond
            have ho := Nat.eq_of_beq_eq_true ho
            have hsz := Nat.eq_of_beq_eq_true hsz
            simp only [List.flatMap_cons] at h1 hoff
            rw [List.length_append] at hoff
            obtain ⟨h1a, h1b⟩ := shOks_append h1
            have hkn : (tyOf P f.type).known = true := by
              cases n with
              | zero => simp [flatT] at hg
              | succ n =>
                simp only [flatT] at hg
                split at hg
                · assumption
                · assumption
                · cases hg
            have c1 : cut xs off (tyOf P f.type).size = some ((xs.drop off).take (shOf P n f.type).length) := by
              rw [hsz]; exact cut_of (by omega)
            obtain ⟨v, hv⟩ := mkO_flat hg h1a
            obtain ⟨c, k1, k2⟩ := part_run (w := w) hkn hca c1 hv
            have hq := ih f.type hg d (by omega) b w _ v h1a hv c k2
            rw [List.drop_drop] at h1b
            simp only [keyFields, ne_eq, hn, not_false_eq_true, if_true, Sem.run_bind, ho, k1, Result.andThen_ok, hq]
            exact ihl _ hf (by omega) h1b
          · cases hf
      exact main fs.toList 0 h (by rw [shOks_len hx]; omega) (by simpa using hx)
    · rename_i d' hns hk hun
      cases d' <;> simp only [scal] at h <;> (try cases h) <;> simp [Instr.checkKey, run_underlying hun]
    · cases h

/-- a struct that T may compare -/
def eqOkB (P : Program) (t : TypeId) : Bool := flatT P 8 t && !P.eqGuardType P.depth t && (tyOf P t).agg && (match P.underlying t with | some (.struct _) => true | _ => false)
theorem eqOk_of {t : TypeId} (h : eqOkB P t = true) : EqOk P t := by
  simp only [eqOkB, Bool.and_eq_true, Bool.not_eq_true'] at h
  obtain ⟨⟨⟨h1, h2⟩, h3⟩, h4⟩ := h
  have hk : (tyOf P t).known = true := by
    simp only [flatT] at h1
    split at h1
    · assumption
    · assumption
    · cases h1
  have hsh : (tyOf P t).sh = shOf P 8 t := by
    obtain ⟨i, d, hi, hd, _⟩ := known_of hk
    simp [tyOf, hi, hd]
  refine ⟨fun ρ w xs ys ca cb r hx hy hc hc' hr => ?_, h2, fun ρ w xs ca b hx hc => ?_, ?_⟩
  · rw [hsh] at hx hy
    unfold Op.equal Op.maxDepth
    exact flat_eq 8 t h1 10000 (by omega) w xs ys (.agg xs) (.agg ys) r hx hy (by rw [h3]; rfl) (by rw [h3]; rfl) hr _ _ (by simp only [VR]; exact ⟨_, rfl, hc⟩) (by simp only [VR]; exact ⟨_, rfl, hc'⟩)
  · rw [hsh] at hx
    exact flat_key 8 t h1 10000 (by omega) b w xs (.agg xs) hx (by rw [h3]; rfl) _ (by simp only [VR]; exact ⟨_, rfl, hc⟩)
  · split at h4
    · exact ⟨_, ‹_›⟩
    · cases h4
end

/-! ### what a program must show -/
def fnOkB (fn : Func) : Bool := match fn.body with
  | none => true
  | some c => dstOk fn.ntmps c && !(fn.name == "runtime.NumGoroutine")
theorem sound_of {P : Program} {C : List Nat} {H : List (Nat × Hint)} (hm : P.follows .mixedOrders = true) (hC : C.all (eqOkB P) = true) (hF : P.funcs.all fnOkB = true) : Sound P (infoOf P C H) := by
  have hcmp : ∀ t, (infoOf P C H).cmp t = true → EqOk P t := fun t ht => by
    have ht : C.any (Nat.beq t) = true := ht
    rw [List.any_eq_true] at ht
    obtain ⟨u, hu, hb⟩ := ht
    have := Nat.eq_of_beq_eq_true hb
    subst this
    exact eqOk_of (List.all_eq_true.1 hC _ hu)
  refine ⟨rfl, hcmp, fun f fn c hf hb => ?_, fun call f hs => draw_ok rfl hm rfl hcmp hs⟩
  have := Array.all_eq_true_iff_forall_mem.1 hF fn (Array.mem_of_getElem? hf)
  unfold fnOkB at this
  rw [hb] at this
  simpa using this
end Go.Proofs.YtfbhdjkeofleiaaDoor.T
