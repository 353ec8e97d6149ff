/- Arguments: data that came in, as blocks that are read alone. -/
import Derived.Test.YtfbhdjkeofleiaaDoorTeeZb
import Derived.ProofKit
namespace Go.Proofs.YtfbhdjkeofleiaaDoor.T
open Go
set_option linter.unusedVariables false
set_option linter.unusedSimpArgs false
set_option linter.unnecessarySimpa false

/-- types of which T takes arguments: numbers, bools, strings, slices, structs whose fields stand one behind the other -/
def inFs (P : Program) (g : TypeId → Bool) : List Field → Nat → Nat → Bool
  | [], off, n => Nat.beq off n
  | f :: fs, off, n => match Nat.beq f.offset off && g f.type with
    | true => inFs P g fs (off + P.cellsOf f.type) n
    | false => false
def inTy (P : Program) : Nat → TypeId → Bool
  | 0, _ => false
  | n + 1, t => match P.underlying t with
    | some .bool => Nat.beq (P.cellsOf t) 1
    | some (.int _) => Nat.beq (P.cellsOf t) 1
    | some .string => Nat.beq (P.cellsOf t) 1
    | some (.slice e) => Nat.beq (P.cellsOf t) 1 && Nat.blt 0 (P.cellsOf e) && inTy P n e
    | some (.struct fs) => inFs P (inTy P n) fs.toList 0 (P.cellsOf t)
    | _ => false

/-- cells that look as their type says -/
def TVs (P : Program) (g : TypeId → List V → Prop) : List Field → List V → Prop
  | [], xs => xs = []
  | f :: fs, xs => ∃ ys zs, xs = ys ++ zs ∧ ys.length = P.cellsOf f.type ∧ g f.type ys ∧ TVs P g fs zs
def TV (P : Program) (h : Heap) : Nat → TypeId → List V → Prop
  | 0, _, _ => False
  | n + 1, t, xs => match P.underlying t with
    | some .bool => ∃ b, xs = [.bool b]
    | some (.int k) => ∃ i, xs = [.int k i] ∧ (Lit.int k i).wf = true
    | some .string => ∃ s, xs = [.str s] ∧ s.size ≤ maxLen
    | some (.slice e) => ∃ a c rs, xs = [.sl (P.cellsOf e) a rs.length c] ∧ (rs.length ≤ maxLen ∧ ∀ k, c = some k → rs.length ≤ k) ∧ (∀ row ∈ rs, row.length = P.cellsOf e ∧ TV P h n e row) ∧
        (rs = [] ∨ ∃ b, a = some (b, 0) ∧ Heap.rows? h b = some rs)
    | some (.struct fs) => TVs P (TV P h n) fs.toList xs
    | _ => False

theorem rows_pre {h h' : Heap} (hp : h <+: h') {b : Nat} {rs : List (List V)} (hb : Heap.rows? h b = some rs) : Heap.rows? h' b = some rs := by
  obtain ⟨t, rfl⟩ := hp
  unfold Heap.rows? at hb ⊢
  have hl : b < h.length := by
    apply Nat.lt_of_not_le
    intro hle
    rw [List.getElem?_eq_none hle] at hb; cases hb
  rw [List.getElem?_append_left hl]; exact hb
theorem TVs.imp {P : Program} {g g' : TypeId → List V → Prop} (hg : ∀ t xs, g t xs → g' t xs) : ∀ {fs : List Field} {xs : List V}, TVs P g fs xs → TVs P g' fs xs
  | [], xs, h => h
  | f :: fs, xs, ⟨ys, zs, h1, h2, h3, h4⟩ => ⟨ys, zs, h1, h2, hg _ _ h3, TVs.imp hg h4⟩
theorem TV.mono {P : Program} {h h' : Heap} (hp : h <+: h') : ∀ (n : Nat) (t : TypeId) (xs : List V), TV P h n t xs → TV P h' n t xs
  | 0, _, _, hx => hx
  | n + 1, t, xs, hx => by
    simp only [TV] at hx ⊢
    split at hx
    · exact hx
    · exact hx
    · exact hx
    · obtain ⟨a, c, rs, h1, h2, h3, h4⟩ := hx
      exact ⟨a, c, rs, h1, h2, fun row hr => ⟨(h3 row hr).1, TV.mono hp n _ _ (h3 row hr).2⟩, h4.imp id fun ⟨b, h5, h6⟩ => ⟨b, h5, rows_pre hp h6⟩⟩
    · exact TVs.imp (fun t xs => TV.mono hp n t xs) hx
    · exact hx
theorem firms_append {xs ys : List V} (h1 : firms xs = true) (h2 : firms ys = true) : firms (xs ++ ys) = true := by
  induction xs with
  | nil => exact h2
  | cons x r ih =>
    simp only [List.cons_append, firms] at h1 ⊢
    split at h1
    · exact ih h1
    · cases h1
theorem TVs.firm {P : Program} {g : TypeId → List V → Prop} (hg : ∀ t xs, g t xs → firms xs = true) : ∀ {l : List Field} {xs : List V}, TVs P g l xs → firms xs = true
  | [], xs, h => by simp only [TVs] at h; subst h; rfl
  | f :: l, xs, ⟨ys, zs, e, _, h3, h4⟩ => by subst e; exact firms_append (hg _ _ h3) (TVs.firm hg h4)
theorem TV.firm {P : Program} {h : Heap} : ∀ (n : Nat) (t : TypeId) (xs : List V), TV P h n t xs → firms xs = true
  | 0, _, _, hx => hx.elim
  | n + 1, t, xs, hx => by
    simp only [TV] at hx
    split at hx
    · obtain ⟨b, rfl⟩ := hx; rfl
    · obtain ⟨i, rfl, _⟩ := hx; rfl
    · obtain ⟨s, rfl, _⟩ := hx; rfl
    · obtain ⟨a, c, rs, rfl, _⟩ := hx; rfl
    · exact TVs.firm (fun t xs => TV.firm n t xs) hx
    · exact hx.elim

/-- what has been laid so far -/
structure Imp (W : World) (ρ : Rho) (h : Heap) : Prop where
  rel : HRel ρ h W
  ro : ∀ b, b < h.length → isDead h b ∨ isRo h b

theorem isDead_pre {h : Heap} {k : Blk} {b : Nat} (hb : b < h.length) (hd : isDead h b) : isDead (h ++ [k]) b := by unfold isDead at *; rw [List.getElem?_append_left hb]; exact hd
theorem isRo_pre {h : Heap} {k : Blk} {b : Nat} (hb : b < h.length) (hd : isRo h b) : isRo (h ++ [k]) b := by obtain ⟨R, e, rs, h1⟩ := hd; exact ⟨R, e, rs, by rw [List.getElem?_append_left hb]; exact h1⟩

theorem Imp.lay {W : World} {ρ : Rho} {h : Heap} (hi : Imp W ρ h) (k : Blk) (e : E) (hlt : e.r < W.heap.size) (hk : BR ρ e k W) (hro : k = .dead ∨ ∃ R e rs, k = .rows R e true rs) :
    Imp W (ρ.set h.length e) (h ++ [k]) := by
  have hle : Rle ρ (ρ.set h.length e) := Rho.set_le hi.rel.fresh
  have hnew : isDead (h ++ [k]) h.length ∨ isRo (h ++ [k]) h.length := by
    rcases hro with rfl | ⟨R, t, rs, rfl⟩
    · exact .inl (by simp [isDead])
    · exact .inr ⟨R, t, rs, by simp⟩
  have hall : ∀ b, b < (h ++ [k]).length → isDead (h ++ [k]) b ∨ isRo (h ++ [k]) b := fun b hb => by
    by_cases hx : b = h.length
    · subst hx; exact hnew
    · have : b < h.length := by simp at hb; omega
      exact (hi.ro b this).imp (isDead_pre this) (isRo_pre this)
  have hdom : ∀ b e', (ρ.set h.length e) b = some e' → b < (h ++ [k]).length ∧ e'.r < W.heap.size := fun b e' hb => by
    by_cases hx : b = h.length
    · subst hx; rw [Rho.set_same] at hb; injection hb with hb; subst hb; exact ⟨by simp, hlt⟩
    · rw [Rho.set_other hx] at hb
      have := hi.rel.dom b e' hb
      exact ⟨by simp; omega, by omega⟩
  refine ⟨⟨hdom, fun b e' k' hb hk' => ?_, fun b b' e1 e2 h1 h2 hr hne => ?_⟩, hall⟩
  · by_cases hx : b = h.length
    · subst hx; rw [Rho.set_same] at hb; injection hb with hb; subst hb
      simp at hk'; subst hk'
      exact BR.mono hle rfl hk
    · rw [Rho.set_other hx] at hb
      have := (hi.rel.dom b e' hb).1
      rw [List.getElem?_append_left this] at hk'
      exact BR.mono hle rfl (hi.rel.blk b e' k' hb hk')
  · have g1 := hall b (hdom b e1 h1).1
    have g2 := hall b' (hdom b' e2 h2).1
    rcases g1 with g1 | g1
    · exact .inl g1
    · rcases g2 with g2 | g2
      · exact .inr (.inl g2)
      · exact .inr (.inr ⟨g1, g2⟩)

section
variable {P : Program} {W : World} {H : Type} {enc : TypeId × Value → H}

theorem cells_some {base : Nat} {a : Addr} {n : Nat} {cs : List Value} (h : W.cells? base a n = some cs) : cs.length = n ∧ ∀ (i : Nat) (c : Value), cs[i]? = some c → W.cell? (a.add i) = some c := by
  unfold World.cells? at h
  split at h
  · have hl : cs.length = n := by simpa using mapM_some_length h
    refine ⟨hl, fun i c hc => ?_⟩
    have hi : i < n := by have := (List.getElem?_eq_some_iff.1 hc).1; omega
    have := mapM_some_get h i i (by simp [hi])
    rw [this, hc]
  · cases h
theorem cell_block {a : Addr} {c : Value} (h : W.cell? a = some c) : ∃ cs el fr, W.heap[a.block]? = some (.cells cs el fr) ∧ a.spot = none ∧ cs[a.off]? = some c := by
  unfold World.cell? at h
  split at h
  · rename_i cs el fr he
    split at h
    · cases h
    · rename_i hs; exact ⟨cs, el, fr, he, by simpa using hs, h⟩
  · cases h

/-- data that came in, laid as blocks that are read alone -/
def Lays (P : Program) (W : World) (n : Nat) (t : TypeId) (cs : List Value) : Prop :=
  ∀ ρ h, Imp W ρ h → ∃ (ρ' : Rho) (h' : Heap) (xs : List V), Rle ρ ρ' ∧ h <+: h' ∧ Imp W ρ' h' ∧ VRs ρ' xs cs ∧ TV P h' n t xs

theorem lays_rows {n : Nat} {t : TypeId} {R : Nat} : ∀ (css : List (List Value)), (∀ cs ∈ css, cs.length = R ∧ Lays P W n t cs) → ∀ ρ h, Imp W ρ h →
    ∃ (ρ' : Rho) (h' : Heap) (rs : List (List V)), Rle ρ ρ' ∧ h <+: h' ∧ Imp W ρ' h' ∧ rs.length = css.length ∧ (∀ (i : Nat) (row : List V), rs[i]? = some row → ∃ cs, css[i]? = some cs ∧ VRs ρ' row cs ∧ row.length = R ∧ TV P h' n t row)
  | [], _, ρ, h, hi => ⟨ρ, h, [], Rle.refl _, List.prefix_refl _, hi, rfl, fun i row hr => by simp at hr⟩
  | cs :: css, hc, ρ, h, hi => by
    obtain ⟨ρ1, h1, xs, a1, a2, a3, a4, a5⟩ := (hc cs (by simp)).2 ρ h hi
    obtain ⟨ρ2, h2, rs, b1, b2, b3, b4, b5⟩ := lays_rows css (fun c hcc => hc c (by simp [hcc])) ρ1 h1 a3
    refine ⟨ρ2, h2, xs :: rs, a1.trans b1, a2.trans b2, b3, by simp [b4], fun i row hr => ?_⟩
    cases i with
    | zero =>
      simp at hr; subst hr
      exact ⟨cs, rfl, VRs.mono b1 _ _ a4, by rw [a4.length]; exact (hc cs (by simp)).1, TV.mono b2 _ _ _ a5⟩
    | succ i =>
      simp at hr
      obtain ⟨c, g1, g2⟩ := b5 i row hr
      exact ⟨c, by simpa using g1, g2⟩

theorem lays_fields {n : Nat} {cs : List Value} : ∀ (fs : List Field) (off : Nat), inFs P (inTy P n) fs off cs.length = true → (∀ f ∈ fs, inTy P n f.type = true → Lays P W n f.type ((cs.drop f.offset).take (P.cellsOf f.type))) → ∀ ρ h, Imp W ρ h →
    ∃ (ρ' : Rho) (h' : Heap) (xs : List V), Rle ρ ρ' ∧ h <+: h' ∧ Imp W ρ' h' ∧ VRs ρ' xs (cs.drop off) ∧ TVs P (TV P h' n) fs xs ∧ off ≤ cs.length
  | [], off, hin, _, ρ, h, hi => by
    simp only [inFs] at hin
    have := Nat.eq_of_beq_eq_true hin
    exact ⟨ρ, h, [], Rle.refl _, List.prefix_refl _, hi, by rw [List.drop_eq_nil_of_le (by omega)]; exact VRs.nil, rfl, by omega⟩
  | f :: fs, off, hin, hl, ρ, h, hi => by
    simp only [inFs] at hin
    split at hin
    · rename_i hc
      simp only [Bool.and_eq_true] at hc
      have ho := Nat.eq_of_beq_eq_true hc.1
      obtain ⟨ρ1, h1, xs, a1, a2, a3, a4, a5⟩ := hl f (by simp) hc.2 ρ h hi
      obtain ⟨ρ2, h2, ys, b1, b2, b3, b4, b5, b6⟩ := lays_fields fs (off + P.cellsOf f.type) hin (fun g hg => hl g (by simp [hg])) ρ1 h1 a3
      rw [ho] at a4
      have hlen := a4.length
      refine ⟨ρ2, h2, xs ++ ys, a1.trans b1, a2.trans b2, b3, ?_, ⟨xs, ys, rfl, ?_, TV.mono b2 _ _ _ a5, b5⟩, by omega⟩
      · have := (VRs.mono b1 _ _ a4).append b4
        rwa [← List.drop_drop, List.take_append_drop] at this
      · rw [hlen]; simp; omega
    · cases hin

theorem lays : ∀ (n : Nat) (t : TypeId), inTy P n t = true → ∀ (fuel : Nat) (cs : List Value) (x : DataW H × List MemPlace), DataW.trod enc P W 0 (fun _ => true) true fuel t cs = some x →
    (∀ a l c, Value.slice (some a) l c ∈ cs → 0 < W.heap.size) → Lays P W n t cs := by
  intro n
  induction n with
  | zero => intro t h; simp [inTy] at h
  | succ n ih =>
    intro t hin fuel cs x hx hpos ρ h hi
    simp only [inTy] at hin
    split at hin
    · rename_i hu
      obtain ⟨b, rfl, _⟩ := DataW.trod_bool hu hx
      exact ⟨ρ, h, [.bool b], Rle.refl _, List.prefix_refl _, hi, VRs.cons VR.bool' VRs.nil, by simp only [TV, hu]; exact ⟨b, rfl⟩⟩
    · rename_i k hu
      obtain ⟨i, rfl, _, hw⟩ := DataW.trod_int hu hx
      exact ⟨ρ, h, [.int k i], Rle.refl _, List.prefix_refl _, hi, VRs.cons VR.int' VRs.nil, by simp only [TV, hu]; exact ⟨i, rfl, hw⟩⟩
    · rename_i hu
      obtain ⟨s, rfl, _, hw⟩ := DataW.trod_string hu hx
      exact ⟨ρ, h, [.str s], Rle.refl _, List.prefix_refl _, hi, VRs.cons (by simp [VR]) VRs.nil, by simp only [TV, hu]; exact ⟨s, rfl, hw⟩⟩
    · rename_i e hu
      simp only [Bool.and_eq_true] at hin
      have hR : 0 < P.cellsOf e := by have := hin.1.2; simpa [Nat.blt_eq] using this
      rcases DataW.trod_slice hu hx with ⟨rfl, _⟩ | ⟨a, len, cap, elems, rest, m, rfl, rfl, _, _, hlc, hcm, hel, hg, hsp, _⟩
      · exact ⟨ρ, h, [.sl (P.cellsOf e) none 0 (some 0)], Rle.refl _, List.prefix_refl _, hi, VRs.cons (by simp [VR]) VRs.nil, by
          simp only [TV, hu]; exact ⟨none, some 0, [], rfl, ⟨Nat.zero_le _, fun _ _ => Nat.zero_le _⟩, fun r hr => (by cases hr), .inl rfl⟩⟩
      · -- the rows
        have hrow : ∀ i, i < len → ∃ c y, W.cells? 0 (a.add (i * P.cellsOf e)) (P.cellsOf e) = some c ∧ DataW.trod enc P W 0 (fun _ => true) true m e c = some y := fun i hi' => by
          have h1 := hg i hi'
          rw [List.getElem?_eq_getElem (by omega)] at h1
          obtain ⟨c, h2, h3⟩ := Option.bind_eq_some_iff.1 h1
          exact ⟨c, _, h2, h3⟩
        have hspare : ∀ j, len + j < cap → ∃ c, W.cells? 0 (a.add ((len + j) * P.cellsOf e)) (P.cellsOf e) = some c := fun j hj => by
          obtain ⟨h0, h1⟩ := hsp rfl
          have h1 := h1 j (by omega)
          rw [List.getElem?_eq_getElem (by omega)] at h1
          obtain ⟨c, h2, _⟩ := Option.bind_eq_some_iff.1 h1
          exact ⟨c, h2⟩
        by_cases hcap : cap = 0
        · -- no room at all
          subst hcap
          have hl0 : len = 0 := by omega
          subst hl0
          have hp := hpos a 0 0 (by simp)
          have hi2 := hi.lay .dead ⟨0, 0, P.cellsOf e, 0, 0⟩ hp trivial (.inl rfl)
          refine ⟨_, _, [.sl (P.cellsOf e) (some (h.length, 0)) 0 (some 0)], Rho.set_le hi.rel.fresh, ⟨_, rfl⟩, hi2, VRs.cons ?_ VRs.nil, ?_⟩
          · simp only [VR]; exact ⟨_, a, 0, Rho.set_same _ _ _, rfl, rfl, .inl rfl, Nat.le_refl _, fun y hy => by injection hy, fun hc => by cases hc⟩
          · simp only [TV, hu]; exact ⟨_, _, [], rfl, ⟨Nat.zero_le _, fun _ _ => Nat.zero_le _⟩, fun r hr => (by cases hr), .inl rfl⟩
        · -- the block
          have hblk : ∃ carr el fr, W.heap[a.block]? = some (.cells carr el fr) ∧ a.spot = none := by
            have : ∃ c, W.cells? 0 (a.add (0 * P.cellsOf e)) (P.cellsOf e) = some c := by
              by_cases hl0 : len = 0
              · have := hspare 0 (by omega); rw [hl0] at this; simpa using this
              · obtain ⟨c, _, h2, _⟩ := hrow 0 (by omega); exact ⟨c, h2⟩
            obtain ⟨c, hc⟩ := this
            obtain ⟨c1, c2⟩ := cells_some hc
            have h0 : c[0]? = some c[0] := List.getElem?_eq_getElem (by omega)
            obtain ⟨carr, el, fr, h1, h2, _⟩ := cell_block (c2 0 _ h0)
            have e1 : (a.add (0 * P.cellsOf e)).add 0 = a := by simp [Addr.add]
            rw [e1] at h1 h2
            exact ⟨carr, el, fr, h1, h2⟩
          obtain ⟨carr, el, fr, hW, hspot⟩ := hblk
          obtain ⟨r, o, sp⟩ := a
          simp only at hW hspot
          subst hspot
          have hlt : r < W.heap.size := by
            apply Nat.lt_of_not_le
            intro hle
            rw [Array.getElem?_eq_none hle] at hW; cases hW
          have hcells : ∀ i, i < len → ∃ c y, c.length = P.cellsOf e ∧ (∀ (j : Nat) (v : Value), c[j]? = some v → carr[o + (i * P.cellsOf e + j)]? = some v) ∧ DataW.trod enc P W 0 (fun _ => true) true m e c = some y := fun i hi' => by
            obtain ⟨c, y, h1, h2⟩ := hrow i hi'
            obtain ⟨c1, c2⟩ := cells_some h1
            refine ⟨c, y, c1, fun j v hv => ?_, h2⟩
            have := c2 j v hv
            rw [add_mk, add_mk, cell_at hW] at this
            rw [← this]; congr 1; omega
          have hall : ∃ css : List (List Value), css.length = len ∧ ∀ i, i < len → ∃ c y, css[i]? = some c ∧ c.length = P.cellsOf e ∧ (∀ (j : Nat) (v : Value), c[j]? = some v → carr[o + (i * P.cellsOf e + j)]? = some v) ∧ DataW.trod enc P W 0 (fun _ => true) true m e c = some y := by
            refine ⟨(List.range len).map fun i => if hi' : i < len then (hcells i hi').choose else [], by simp, fun i hi' => ?_⟩
            obtain ⟨y, h1, h2, h3⟩ := (hcells i hi').choose_spec
            exact ⟨_, y, by simp [hi'], h1, h2, h3⟩
          obtain ⟨css, hcl, hcs⟩ := hall
          obtain ⟨ρ1, h1, rs, a1, a2, a3, a4, a5⟩ := lays_rows (P := P) (W := W) (n := n) (t := e) (R := P.cellsOf e) css (fun c hc => by
            obtain ⟨i, hi'⟩ := List.mem_iff_getElem?.1 hc
            have hlt := (List.getElem?_eq_some_iff.1 hi').1
            obtain ⟨c', y, g1, g2, g3, g4⟩ := hcs i (by omega)
            rw [hi'] at g1; injection g1 with g1; subst g1
            exact ⟨g2, ih e hin.2 m c y g4 fun _ _ _ _ => by omega⟩) ρ h hi
          by_cases hl0 : len = 0
          · have hrs : rs = [] := List.eq_nil_of_length_eq_zero (by omega)
            subst hrs
            have hi2 := a3.lay .dead ⟨r, o, P.cellsOf e, 0, 0⟩ hlt trivial (.inl rfl)
            refine ⟨_, _, [.sl (P.cellsOf e) (some (h1.length, 0)) 0 (some cap)], a1.trans (Rho.set_le a3.rel.fresh), a2.trans ⟨_, rfl⟩, hi2, VRs.cons ?_ VRs.nil, ?_⟩
            · simp only [VR]; exact ⟨_, ⟨r, o, none⟩, cap, Rho.set_same _ _ _, rfl, by rw [hl0], .inr (by simp), by omega, fun y hy => by injection hy, fun hc => by cases hc⟩
            · simp only [TV, hu]; exact ⟨_, _, [], rfl, ⟨Nat.zero_le _, fun _ _ => Nat.zero_le _⟩, fun r hr => (by cases hr), .inl rfl⟩
          · have hrl : rs.length = len := by omega
            have hbr : BR ρ1 ⟨r, o, P.cellsOf e, rs.length, rs.length⟩ (.rows (P.cellsOf e) el true rs) W := by
              refine ⟨carr, fr, ?_, fun h => (by cases h), rfl, rfl, Nat.le_refl _, ?_, fun i row hr => ?_, .inr ⟨rfl, fun j c g1 g2 g3 => ?_⟩⟩
              · exact hW
              · obtain ⟨c, y, g1, g2, g3, _⟩ := hcs (len - 1) (by omega)
                have := g3 (P.cellsOf e - 1) _ (List.getElem?_eq_getElem (by omega))
                have hb := (Array.getElem?_eq_some_iff.1 this).1
                have e1 : rs.length * P.cellsOf e = (len - 1) * P.cellsOf e + P.cellsOf e := by rw [hrl, ← Nat.succ_mul]; congr 1; omega
                show o + rs.length * P.cellsOf e ≤ carr.size
                omega
              · obtain ⟨c, g1, g2, g3, _⟩ := a5 i row hr
                refine ⟨g3, fun j v hv => ?_⟩
                have hlt := (List.getElem?_eq_some_iff.1 hr).1
                obtain ⟨c', y, k1, k2, k3, _⟩ := hcs i (by omega)
                rw [g1] at k1; injection k1 with k1; subst k1
                obtain ⟨z, z1, z2⟩ := g2.get j v hv
                exact ⟨z, k3 j z z1, z2⟩
              · obtain ⟨q, hq⟩ : ∃ q, j = o + q := ⟨j - o, by simp only at g1; omega⟩
                have hq2 : q < rs.length * P.cellsOf e := by simp only at g2; omega
                have hdiv : q / P.cellsOf e < rs.length := (Nat.div_lt_iff_lt_mul hR).2 hq2
                have hmod : q % P.cellsOf e < P.cellsOf e := Nat.mod_lt _ hR
                have hqq : q = q / P.cellsOf e * P.cellsOf e + q % P.cellsOf e := by rw [Nat.mul_comm]; exact (Nat.div_add_mod q _).symm
                obtain ⟨c0, k1, k2, k3, k4⟩ := a5 (q / P.cellsOf e) _ (List.getElem?_eq_getElem hdiv)
                obtain ⟨c', y, l1, l2, l3, _⟩ := hcs (q / P.cellsOf e) (by omega)
                rw [k1] at l1; injection l1 with l1; subst l1
                have hz := l3 (q % P.cellsOf e) _ (List.getElem?_eq_getElem (by omega))
                rw [← hqq, ← hq, g3] at hz
                injection hz with hz
                rw [hz]
                exact one_of_firms k2 (TV.firm _ _ _ k4) _ (List.getElem_mem _)
            have hi2 := a3.lay (.rows (P.cellsOf e) el true rs) ⟨r, o, P.cellsOf e, rs.length, rs.length⟩ hlt hbr (.inr ⟨_, _, _, rfl⟩)
            refine ⟨_, _, [.sl (P.cellsOf e) (some (h1.length, 0)) rs.length (some cap)], a1.trans (Rho.set_le a3.rel.fresh), a2.trans ⟨_, rfl⟩, hi2, VRs.cons ?_ VRs.nil, ?_⟩
            · simp only [VR]; exact ⟨_, ⟨r, o, none⟩, cap, Rho.set_same _ _ _, rfl, by rw [hrl], .inr (by simp), by omega, fun y hy => by injection hy, fun hc => by cases hc⟩
            · simp only [TV, hu]
              refine ⟨_, _, rs, rfl, ⟨by omega, fun k hk => by injection hk with hk; omega⟩, fun row hr => ?_, .inr ⟨_, rfl, by simp [Heap.rows?]⟩⟩
              obtain ⟨i, hi'⟩ := List.mem_iff_getElem?.1 hr
              obtain ⟨c, _, _, g3, g4⟩ := a5 i row hi'
              exact ⟨g3, TV.mono ⟨_, rfl⟩ _ _ _ g4⟩
    · rename_i fs hu
      obtain ⟨xs, m, rfl, _, hl, hxl, hf⟩ := DataW.trod_struct hu hx
      rw [← hl] at hin
      obtain ⟨ρ', h', ys, b1, b2, b3, b4, b5, _⟩ := lays_fields (P := P) (W := W) (n := n) (cs := cs) fs.toList 0 hin (fun f hfm hft => by
        obtain ⟨i, hi'⟩ := List.mem_iff_getElem?.1 hfm
        have hi2 : fs[i]? = some f := by simpa using hi'
        have h1 := hf i f hi2
        have hlt : i < xs.length := by have := (Array.getElem?_eq_some_iff.1 hi2).1; omega
        rw [List.getElem?_eq_getElem hlt] at h1
        exact ih f.type hft m _ _ h1 fun a l c hm => hpos a l c (List.mem_of_mem_drop (List.mem_of_mem_take hm))) ρ h hi
      exact ⟨ρ', h', ys, b1, b2, b3, by simpa using b4, by simp only [TV, hu]; exact b5⟩
    · cases hin
end
end Go.Proofs.YtfbhdjkeofleiaaDoor.T
