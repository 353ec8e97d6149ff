/- T against the model: structs, arrays, slices. -/
import Derived.Test.YtfbhdjkeofleiaaDoorTeeF
namespace Go.Proofs.YtfbhdjkeofleiaaDoor.T
open Go
set_option linter.unusedVariables false
set_option linter.unusedSimpArgs false

section
variable {P : Program}
def CellIs (P : Program) (t : TypeId) : Sh → Prop
  | .bool => P.underlying t = some .bool
  | .str => P.underlying t = some .string
  | .int k => P.underlying t = some (.int k)
  | _ => True
theorem cell_of {t : TypeId} {s : Sh} (h : (tyOf P t).cell = s) : CellIs P t s := by
  unfold TI.cell at h
  split at h
  · rename_i s' hag hkn hsh
    obtain ⟨i, d, hi, hd, h1, h2, h3, h4, h5⟩ := known_of hkn
    have hs : (tyOf P t).sh = shOf P 8 t := by unfold tyOf; simp [hi, hd]
    rw [hs] at hsh
    rw [h3] at hag
    simp only [shOf, hd] at hsh
    subst h
    cases d <;> simp [aggD] at hag <;> simp at hsh <;> subst hsh <;> simp [hd, CellIs]
  · subst h; trivial
theorem fill_lay {ρ : Rho} {place : Nat → Option (Nat × Nat)} : ∀ (ps : List (Nat × V)) (qs : List (Nat × Value)) (cells out : List V) (cs : Array Value),
    okP ps = true → ps.length = qs.length → (∀ (i : Nat) (p : Nat × V), ps[i]? = some p → ∃ q : Nat × Value, qs[i]? = some q ∧ q.1 = p.1 ∧ VR ρ p.2 q.2) → VRs ρ cells cs.toList → lay place cells ps = some out →
    ∃ co, Instr.fill place cs qs = some co ∧ VRs ρ out co.toList ∧ co.size = cs.size
  | [], qs, cells, out, cs, _, hl, _, hv, h => by
    have : qs = [] := List.eq_nil_of_length_eq_zero (by simpa using hl.symm)
    subst this
    simp only [lay, Option.some.injEq] at h; subst h
    exact ⟨cs, rfl, hv, rfl⟩
  | (i, v) :: ps, [], cells, out, cs, _, hl, _, hv, h => by simp at hl
  | (i, v) :: ps, (i', c) :: qs, cells, out, cs, hok, hl, hq, hv, h => by
    simp only [okP] at hok
    split at hok
    · rename_i hfm
      obtain ⟨q0, e1, e2, e3⟩ := hq 0 (i, v) (by simp)
      simp at e1; subst e1; simp only at e2 e3; subst e2
      have hcv := cells_rel e3 hfm
      have hlen := hcv.length
      simp only [lay] at h
      split at h
      · rename_i off size hp
        split at h
        · rename_i hb
          have hb := Nat.eq_of_beq_eq_true hb
          split at h
          · rename_i cells' hpa
            obtain ⟨g1, g2⟩ := paste_some hpa
            have hcl := hv.length
            simp at hlen hcl
            have hf : ∀ (l : List Value) (j : Nat) (cs : Array Value), (l.zipIdx j).foldl (fun cs p => cs.setIfInBounds (off + p.2) p.1) cs = putL cs (off + j) l := by
              intro l
              induction l with
              | nil => intro j cs; rfl
              | cons x l ih => intro j cs; simp only [List.zipIdx_cons, List.foldl_cons, putL]; rw [ih]; rfl
            have hrel : VRs ρ cells' (putL cs off c.cells.toList).toList := by
              refine VRs.of_get (by rw [g2]; simp [putL_size]; omega) fun p x hpx => ?_
              rw [g2] at hpx
              simp only [Array.getElem?_toList]
              by_cases c1 : p < off
              · rw [List.append_assoc, List.getElem?_append_left (by simp; omega), List.getElem?_take, if_pos c1] at hpx
                obtain ⟨z, k1, k2⟩ := hv.get p x hpx
                exact ⟨z, by rw [putL_out _ _ _ _ (.inl c1)]; simpa using k1, k2⟩
              · by_cases c2 : p < off + (cellsV v).length
                · rw [List.append_assoc, List.getElem?_append_right (by simp; omega), List.getElem?_append_left (by simp; omega)] at hpx
                  have hpx' : (cellsV v)[p - off]? = some x := by rw [← hpx]; congr 1; simp; omega
                  obtain ⟨z, k1, k2⟩ := hcv.get _ x hpx'
                  refine ⟨z, ?_, k2⟩
                  rw [show p = off + (p - off) by omega, putL_in _ _ _ _ (by simp; omega) (by simp; omega)]
                  exact k1
                · rw [List.getElem?_append_right (by simp; omega), List.getElem?_drop] at hpx
                  have hpx' : cells[p]? = some x := by rw [← hpx]; congr 1; simp; omega
                  obtain ⟨z, k1, k2⟩ := hv.get p x hpx'
                  exact ⟨z, by rw [putL_out _ _ _ _ (.inr (by simp; omega))]; simpa using k1, k2⟩
            obtain ⟨co, k1, k2, k3⟩ := fill_lay ps qs cells' out (putL cs off c.cells.toList) hok (by simpa using hl) (fun j p hj => by simpa using hq (j + 1) p (by simpa using hj)) hrel h
            refine ⟨co, ?_, k2, by rw [k3, putL_size]⟩
            simp only [Instr.fill, hp]
            rw [if_neg (by simp; omega)]
            have := hf c.cells.toList 0 cs
            rw [Nat.add_zero] at this
            rw [← this] at k1
            rw [← k1]
            congr 1
            rw [← Array.foldl_toList]
            simp
          · cases h
        · cases h
      · cases h
    · cases hok
end

section
variable {P : Program} {lo base : Nat} {ρ : Rho} {β : Bet} {σ : St} {a : Act} {w : World} {R : Type} {r : R} {K : V → St → Option R} {X : Ctx}
variable {dst : Option Nat} {ty : TypeId} {pos : String} {after : Array Edge} {guard : Option (Nat × Bool)}

theorem evp_get {s : List (Nat × V)} : ∀ (ps : List (Nat × Operand)) (i : Nat) (p : Nat × V), (evp s ps)[i]? = some p → ∃ x, ps[i]? = some (p.1, x) ∧ p.2 = ev s x
  | [], i, p, h => by simp [evp] at h
  | (j, x) :: ps, 0, p, h => by simp [evp] at h; subst h; exact ⟨x, by simp, rfl⟩
  | (j, x) :: ps, i + 1, p, h => by simpa [evp] using evp_get ps i p (by simpa [evp] using h)
theorem evp_length {s : List (Nat × V)} : ∀ (ps : List (Nat × Operand)), (evp s ps).length = ps.length
  | [] => rfl
  | (j, x) :: ps => by simp [evp, evp_length ps]
theorem okP_get : ∀ {ps : List (Nat × V)}, okP ps = true → ∀ (i : Nat) (p : Nat × V), ps[i]? = some p → firms (cellsV p.2) = true
  | [], _, i, p, h => by simp at h
  | (j, v) :: ps, hok, i, p, h => by
    simp only [okP] at hok
    split at hok
    · cases i with
      | zero => simp at h; subst h; assumption
      | succ i => exact okP_get hok i p (by simpa using h)
    · cases hok
theorem evp_rel (hs : SRel ρ β σ.s a) {ps : Array (Nat × Operand)} (hok : okP (evp σ.s ps.toList) = true) : ∀ (i : Nat) (p : Nat × V), (evp σ.s ps.toList)[i]? = some p → ∃ q : Nat × Value, (ps.map fun (i, x) => (i, a.eval x)).toList[i]? = some q ∧ q.1 = p.1 ∧ VR ρ p.2 q.2 := by
  intro i p hp
  have hfm := okP_get hok i p hp
  obtain ⟨x, h1, h2⟩ := evp_get _ i p hp
  simp at h1
  refine ⟨(p.1, a.eval x), by simp [h1], rfl, ?_⟩
  rw [h2] at hfm ⊢
  exact (ev_rel hs x).ok (okV_of_firms hfm)

/-- the zero value of a type that has one -/
theorem zero_of {t : TypeId} (hz : (tyOf P t).hz = true) (hfm : firms (tyOf P t).zero = true) : ∃ i z, P.info? t = some i ∧ i.zero = some z ∧ z.cells.size = i.size ∧ (tyOf P t).size = i.size ∧ (tyOf P t).zero.length = i.size ∧ ∀ ρ, VRs ρ (tyOf P t).zero z.cells.toList := by
  have hkn : (tyOf P t).known = true ∨ P.info? t = none ∨ P.underlying t = none ∨ True := .inr (.inr (.inr trivial))
  cases hi : P.info? t with
  | none => unfold tyOf at hz; simp [hi, TI.none] at hz
  | some i =>
    cases hd : P.underlying t with
    | none => unfold tyOf at hz; simp [hi, hd, TI.none] at hz
    | some d =>
      have e1 : (tyOf P t).hz = (match i.zero with | some v => Nat.beq v.cells.size i.size && zshape (aggD d) v | none => false) := by unfold tyOf; simp only [hi, hd] <;> rfl
      have e2 : (tyOf P t).zero = (match i.zero with | some v => cellsV (ofValue v) | none => []) := by unfold tyOf; simp only [hi, hd] <;> rfl
      have e3 : (tyOf P t).size = i.size := by unfold tyOf; simp [hi, hd]
      rw [e1] at hz
      cases hzz : i.zero with
      | none => simp [hzz] at hz
      | some z =>
        simp only [hzz, Bool.and_eq_true] at hz e2
        have hsz := Nat.eq_of_beq_eq_true hz.1
        refine ⟨i, z, rfl, hzz, hsz, e3, by rw [e2, cellsV_length_ofValue, hsz], fun ρ => ?_⟩
        rw [e2] at hfm ⊢
        exact cells_rel (ofValue_rel ρ z) hfm
theorem mkV_zero {t : TypeId} {i : TypeInfo} {z : Value} (hkn : (tyOf P t).known = true) (hz : (tyOf P t).hz = true) (hi : P.info? t = some i) (hzz : i.zero = some z) : VR ρ (mkV (tyOf P t).agg (tyOf P t).zero) z := by
  obtain ⟨i', d, hi', hd, s1, s2, s3, s4, s5⟩ := known_of hkn
  rw [hi] at hi'; injection hi' with hi'; subst hi'
  rw [s5] at hz
  simp only [hzz, Bool.and_eq_true] at hz s4
  rw [s3, s4]
  have hv := ofValue_rel ρ z
  cases hA : aggD d with
  | true =>
    rw [hA] at hz
    cases z <;> simp [zshape] at hz
    simpa [mkV, cellsV, ofValue] using hv
  | false =>
    rw [hA] at hz
    have h1 : cellsV (ofValue z) = [ofValue z] := by
      cases z with
      | agg _ => simp [zshape] at hz
      | slice a n c => cases a <;> simp only [ofValue] <;> (try split) <;> rfl
      | pointer a => cases a <;> rfl
      | map a => cases a <;> rfl
      | _ => rfl
    rw [h1]
    exact hv
theorem zeroValue_run {t : TypeId} {i : TypeInfo} {z : Value} (hi : P.info? t = some i) (hz : i.zero = some z) : (zeroValue t).run P w = .ok z w := by simp [zeroValue, typeInfo, hi, hz]

theorem mapM_places (hX : X.ty = tyOf P) : ∀ (fs : List Field), allKnown X (fs.map fun f => (f.offset, f.type)) = true →
    (fs.mapM fun f => (do pure (f.offset, ← sizeOf f.type) : Sem (Nat × Nat))).run P w = .ok (fs.map fun f => (f.offset, (X.ty f.type).size)) w
  | [], _ => by simp
  | f :: fs, h => by
    simp only [List.map_cons, allKnown] at h
    split at h
    · rename_i hkn
      rw [hX] at hkn
      obtain ⟨i, d, hi, hd, h1, _⟩ := known_of hkn
      have ih := mapM_places hX fs h
      simp only [List.mapM_cons, Sem.run_bind, sizeOf_known hi, Result.andThen_ok, Sem.run_pure, ih, List.map_cons, hX, h1]
    · cases h

theorem do_build (hX : X.ty = tyOf P) (hs : SRel ρ β σ.s a) (hh : HRel ρ σ.h w) (hf : FRel ρ β σ.bx w) {t : TypeId} {ps : Array (Nat × Operand)}
    (hk : opT X lo dst ty (.build t ps) σ K = some r) : Does P lo base ρ β σ a w ⟨dst, .build t ps, ty, pos, after, guard⟩ K r := by
  simp only [opT] at hk
  split at hk
  · rename_i hz
    simp only [Bool.and_eq_true] at hz
    obtain ⟨⟨hok, hz⟩, hfm⟩ := hz
    rw [hX] at hz hfm
    obtain ⟨i, z, hi, hzz, hsz, e1, e2, e3⟩ := zero_of hz hfm
    have hrel := evp_rel hs hok
    have hlen : (evp σ.s ps.toList).length = (ps.map fun (i, x) => (i, a.eval x)).toList.length := by simp [evp_length]
    split at hk
    · rename_i fs hty
      rw [hX] at hty
      obtain ⟨gs, hu, hfs, hkn, _⟩ := struct_of hty
      obtain ⟨hall, hk1⟩ := need_some hk
      obtain ⟨cs, hlay, hk2⟩ := eO_some hk1
      rw [hX] at hlay
      obtain ⟨co, k1, k2, k3⟩ := fill_lay _ _ _ _ z.cells hok hlen hrel (e3 ρ) hlay
      refine do_value (c := .agg co) ?_ hh hf (SV.of (by simp only [VR]; exact ⟨co, rfl, k2⟩)) hk2
      have hm := mapM_places (P := P) (w := w) (X := X) hX gs.toList (by rw [← hfs]; exact hall)
      have hplace : (fun i => (gs.toList.map fun f => (f.offset, (X.ty f.type).size))[i]?) = structLay X fs := by
        funext i
        simp only [structLay, hfs, List.getElem?_map]
        cases gs.toList[i]? <;> rfl
      simp only [execOp, Instr.build, Sem.run_bind, zeroValue_run hi hzz, Result.andThen_ok, underlying_run hu, Array.mapM_eq_mapM_toList, Sem.run_map, hm]
      have k1' : Instr.fill (structLay X fs) z.cells (ps.map fun x => (x.fst, a.eval x.snd)).toList = some co := k1
      have hp2 : (fun x => (List.map (fun f => (f.offset, (X.ty f.type).size)) gs.toList).toArray[x]?) = structLay X fs := by
        rw [← hplace]; funext i; rw [List.getElem?_toArray]
      rw [hp2, k1']
      rfl
    · rename_i n e hty
      rw [hX] at hty
      obtain ⟨hu, hkn, _⟩ := array_of hty
      obtain ⟨hall, hk1⟩ := need_some hk
      obtain ⟨cs, hlay, hk2⟩ := eO_some hk1
      rw [hX] at hall
      obtain ⟨i', d', hi', hd', h1', _⟩ := known_of hall
      rw [hX] at hlay
      obtain ⟨co, k1, k2, k3⟩ := fill_lay _ _ _ _ z.cells hok hlen hrel (e3 ρ) hlay
      refine do_value (c := .agg co) ?_ hh hf (SV.of (by simp only [VR]; exact ⟨co, rfl, k2⟩)) hk2
      simp only [h1'] at k1
      have k1' : Instr.fill (fun i => some (i * i'.size, i'.size)) z.cells (ps.map fun x => (x.fst, a.eval x.snd)).toList = some co := k1
      simp only [execOp, Instr.build, Sem.run_bind, zeroValue_run hi hzz, Result.andThen_ok, underlying_run hu, sizeOf_known hi', k1', Sem.run_pure]
    · cases hk
  · cases hk
end
end Go.Proofs.YtfbhdjkeofleiaaDoor.T
