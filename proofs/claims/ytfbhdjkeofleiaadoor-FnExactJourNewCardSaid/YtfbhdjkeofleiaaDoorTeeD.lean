/- T against the model: words, types, memory. -/
import Derived.Test.YtfbhdjkeofleiaaDoorTeeC
namespace Go.Proofs.YtfbhdjkeofleiaaDoor.T
open Go
set_option linter.unusedVariables false
set_option linter.unusedSimpArgs false

/-! ### the words, turned round -/
section
variable {R α : Type} {r : R}
theorem br_some {b : Bool} {x y : Option R} (h : br b x y = some r) : (b = true ∧ x = some r) ∨ (b = false ∧ y = some r) := by
  cases b <;> simp [br] at h <;> simp [h]
theorem need_some {b : Bool} {x : Option R} (h : need b x = some r) : b = true ∧ x = some r := by
  cases b <;> simp [need] at h <;> simp [h]
theorem eI_some {k : IntKind} {v : V} {f : Int → Option R} (h : eI k v f = some r) : ∃ n, v = .int k n ∧ f n = some r := by
  unfold eI at h
  split at h
  · rename_i k' n
    by_cases hk : k' = k
    · subst hk; simp at h; exact ⟨n, rfl, h⟩
    · simp [hk] at h
  · cases h
theorem eIu_some {v : V} {f : Int → Option R} (h : eIu v f (fun f => eI .i64 v f) = some r) : ∃ k n, v = .int k n ∧ f n = some r := by
  unfold eIu at h
  split at h
  · exact ⟨_, _, rfl, h⟩
  · obtain ⟨n, h1, h2⟩ := eI_some h
    exact ⟨_, n, h1, h2⟩
theorem eBv_some {v : V} {f : Bool → Option R} (h : eBv v f = some r) : ∃ b, v = .bool b ∧ f b = some r := by
  unfold eBv at h; split at h
  · exact ⟨_, rfl, h⟩
  · cases h
theorem eB_some {v : V} {x y : Option R} (h : eB v x y = some r) : (v = .bool true ∧ x = some r) ∨ (v = .bool false ∧ y = some r) := by
  unfold eB at h; split at h
  · rename_i b; cases b <;> simp [br] at h <;> simp [h]
  · cases h
theorem eT_some {v : V} {f : ByteArray → Option R} (h : eT v f = some r) : ∃ s, v = .str s ∧ f s = some r := by
  unfold eT at h; split at h
  · exact ⟨_, rfl, h⟩
  · cases h
theorem eS_some {q : Nat} {v : V} {f : Option (Nat × Nat) → Nat → Option Nat → Option R} (h : eS q v f = some r) : ∃ q' a n c, v = .sl q' a n c ∧ (a = none ∨ q' = q) ∧ f a n c = some r := by
  unfold eS at h; split at h
  · rename_i q' a n c
    split at h
    · exact ⟨_, _, _, _, rfl, .inl rfl, h⟩
    · split at h
      · rename_i hb; exact ⟨_, _, _, _, rfl, .inr (Nat.eq_of_beq_eq_true hb), h⟩
      · cases h
  · cases h
theorem eP_some {v : V} {f : Option (Nat × Nat × Nat) → Option R} (h : eP v f = some r) : ∃ p, v = .ptr p ∧ f p = some r := by
  unfold eP at h; split at h
  · exact ⟨_, rfl, h⟩
  · cases h
theorem eM_some {v : V} {f : Option Nat → Option R} (h : eM v f = some r) : ∃ p, v = .map p ∧ f p = some r := by
  unfold eM at h; split at h
  · exact ⟨_, rfl, h⟩
  · cases h
theorem eF_some {v : V} {f : Nat → List V → Option R} (h : eF v f = some r) : ∃ g cs, v = .fn g cs ∧ f g cs = some r := by
  unfold eF at h; split at h
  · exact ⟨_, _, rfl, h⟩
  · cases h
theorem eE_some {v : V} {f : Nat → V → Option R} {z : Option R} (h : eE v f z = some r) : (∃ t x, v = .ifc t x ∧ f t x = some r) ∨ (v = .nili ∧ z = some r) := by
  unfold eE at h; split at h
  · exact .inl ⟨_, _, rfl, h⟩
  · exact .inr ⟨rfl, h⟩
  · cases h
theorem eA_some {v : V} {f : List V → Option R} (h : eA v f = some r) : ∃ cs, v = .agg cs ∧ f cs = some r := by
  unfold eA at h; split at h
  · exact ⟨_, rfl, h⟩
  · cases h
theorem eU_some {v : V} {f : List V → Option R} (h : eU v f = some r) : ∃ cs, v = .tup cs ∧ f cs = some r := by
  unfold eU at h; split at h
  · exact ⟨_, rfl, h⟩
  · cases h
theorem eC_some {cs : List V} {f : V → List V → Option R} (h : eC cs f = some r) : ∃ v l, cs = v :: l ∧ f v l = some r := by
  unfold eC at h; split at h
  · exact ⟨_, _, rfl, h⟩
  · cases h
theorem eN_some {cs : List V} {x : Option R} (h : eN cs x = some r) : cs = [] ∧ x = some r := by
  unfold eN at h; split at h
  · exact ⟨rfl, h⟩
  · cases h
theorem eO_some {o : Option α} {f : α → Option R} (h : eO o f = some r) : ∃ x, o = some x ∧ f x = some r := by
  unfold eO at h; split at h
  · exact ⟨_, rfl, h⟩
  · cases h
theorem eX_some {o : Option α} {f : α → Option R} {z : Option R} (h : eX o f z = some r) : (∃ x, o = some x ∧ f x = some r) ∨ (o = none ∧ z = some r) := by
  unfold eX at h; split at h
  · exact .inl ⟨_, rfl, h⟩
  · exact .inr ⟨rfl, h⟩
theorem cal_some {o : Option (V × α)} {f : V → α → Option R} (h : cal o f = some r) : ∃ v x, o = some (v, x) ∧ f v x = some r := by
  unfold cal at h; split at h
  · exact ⟨_, _, rfl, h⟩
  · cases h
theorem inB_some {i : Int} {n : Nat} {x : Option R} (h : inB i n x = some r) : (0 ≤ i ∧ i < n) ∧ x = some r := by
  unfold inB at h; split at h
  · rename_i hb; exact ⟨of_decide_eq_true hb, h⟩
  · cases h
theorem inS_some {i : Int} {n : Nat} {x : Option R} (h : inS i n x = some r) : (0 ≤ i ∧ i ≤ n) ∧ x = some r := by
  unfold inS at h; split at h
  · rename_i hb; exact ⟨of_decide_eq_true hb, h⟩
  · cases h
/-- What the one stands for the other does. -/
def Le (v v' : V) : Prop := ∀ ρ c, VR ρ v c → VR ρ v' c
def Les (v v' : List V) : Prop := ∀ ρ c, VRs ρ v c → VRs ρ v' c
theorem Le.refl (v : V) : Le v v := fun _ _ h => h
theorem Les.refl (v : List V) : Les v v := fun _ _ h => h
theorem Le.agg {cs cs' : List V} (h : Les cs cs') : Le (.agg cs) (.agg cs') := fun ρ c hc => by
  simp only [VR] at hc ⊢; obtain ⟨ys, h1, h2⟩ := hc; exact ⟨ys, h1, h ρ _ h2⟩
theorem Le.tup {cs cs' : List V} (h : Les cs cs') : Le (.tup cs) (.tup cs') := fun ρ c hc => by
  simp only [VR] at hc ⊢; obtain ⟨ys, h1, h2⟩ := hc; exact ⟨ys, h1, h ρ _ h2⟩
theorem Les.cons {v v' : V} {cs cs' : List V} (h : Le v v') (k : Les cs cs') : Les (v :: cs) (v' :: cs') := fun ρ c hc => by
  simp only [VRs] at hc ⊢; obtain ⟨y, ys, h1, h2, h3⟩ := hc; exact ⟨y, ys, h1, h ρ _ h2, k ρ _ h3⟩
theorem eSh_some {s : Sh} {v : V} {f : V → Option R} (h : eSh s v f = some r) : ∃ v', f v' = some r ∧ Le v v' := by
  cases s <;> simp only [eSh] at h
  · obtain ⟨_, rfl, h'⟩ := eI_some h; exact ⟨_, h', Le.refl _⟩
  · obtain ⟨_, rfl, h'⟩ := eBv_some h; exact ⟨_, h', Le.refl _⟩
  · obtain ⟨_, rfl, h'⟩ := eT_some h; exact ⟨_, h', Le.refl _⟩
  · obtain ⟨_, rfl, h'⟩ := eP_some h; exact ⟨_, h', Le.refl _⟩
  · obtain ⟨q, a, n, c, rfl, hq, h'⟩ := eS_some h
    refine ⟨_, h', ?_⟩
    rcases hq with rfl | rfl
    · intro ρ c hc; simpa [VR] using hc
    · exact Le.refl _
  · obtain ⟨_, rfl, h'⟩ := eM_some h; exact ⟨_, h', Le.refl _⟩
  · obtain ⟨_, _, rfl, h'⟩ := eF_some h; exact ⟨_, h', Le.refl _⟩
  · rcases eE_some h with ⟨_, _, rfl, h'⟩ | ⟨rfl, h'⟩ <;> exact ⟨_, h', Le.refl _⟩
  · cases h
theorem eShs_some : ∀ {ss : List Sh} {cs : List V} {f : List V → Option R}, eShs ss cs f = some r → ∃ cs', f cs' = some r ∧ Les cs cs' ∧ cs'.length = cs.length
  | [], cs, f, h => by simp only [eShs] at h; obtain ⟨rfl, h'⟩ := eN_some h; exact ⟨_, h', Les.refl _, rfl⟩
  | s :: ss, cs, f, h => by
    simp only [eShs] at h
    obtain ⟨v, l, rfl, h'⟩ := eC_some h
    obtain ⟨v', h1, h2⟩ := eSh_some h'
    obtain ⟨l', h3, h4, h5⟩ := eShs_some h1
    exact ⟨_, h3, Les.cons h2 h4, by simp [h5]⟩
theorem eVal_some {agg : Bool} {ss : List Sh} {v : V} {f : V → Option R} (h : eVal agg ss v f = some r) : ∃ v', f v' = some r ∧ Le v v' := by
  unfold eVal at h
  split at h
  · obtain ⟨cs, rfl, h'⟩ := eA_some h
    obtain ⟨cs', h1, h2, _⟩ := eShs_some h'
    exact ⟨_, h1, Le.agg h2⟩
  · split at h
    · rcases eB_some h with ⟨rfl, h'⟩ | ⟨rfl, h'⟩ <;> exact ⟨_, h', Le.refl _⟩
    · exact eSh_some h
    · cases h
theorem eVals_some : ∀ {ts : List (Bool × List Sh)} {cs : List V} {f : List V → Option R}, eVals ts cs f = some r → ∃ cs', f cs' = some r ∧ Les cs cs'
  | [], cs, f, h => by simp only [eVals] at h; obtain ⟨rfl, h'⟩ := eN_some h; exact ⟨_, h', Les.refl _⟩
  | t :: ts, cs, f, h => by
    simp only [eVals] at h
    obtain ⟨v, l, rfl, h'⟩ := eC_some h
    obtain ⟨v', h1, h2⟩ := eVal_some h'
    obtain ⟨l', h3, h4⟩ := eVals_some h1
    exact ⟨_, h3, Les.cons h2 h4⟩
theorem eRes_some {ts : List (Bool × List Sh)} {v : V} {f : V → Option R} (h : eRes ts v f = some r) : ∃ v', f v' = some r ∧ Le v v' := by
  unfold eRes at h
  split at h
  · exact eVal_some h
  · obtain ⟨cs, rfl, h'⟩ := eU_some h
    obtain ⟨cs', h1, h2⟩ := eVals_some h'
    exact ⟨_, h1, Le.tup h2⟩
theorem eCells_some {agg : Bool} {ss : List Sh} {cs : List V} {f : V → Option R} (h : eCells agg ss cs f = some r) : ∃ v', f v' = some r ∧ Le (mkV agg cs) v' ∧ (agg = false → ∃ v, cs = [v]) := by
  unfold eCells at h
  split at h
  · obtain ⟨cs', h1, h2, _⟩ := eShs_some h
    exact ⟨_, h1, Le.agg h2, fun h => by cases h⟩
  · obtain ⟨v, l, rfl, h'⟩ := eC_some h
    obtain ⟨rfl, h''⟩ := eN_some h'
    obtain ⟨v', h1, h2⟩ := eVal_some h''
    exact ⟨_, h1, h2, fun _ => ⟨v, rfl⟩⟩
end

/-! ### types -/
section
variable {P : Program}
theorem known_of {t : TypeId} (h : (tyOf P t).known = true) : ∃ i d, P.info? t = some i ∧ P.underlying t = some d ∧ (tyOf P t).size = i.size ∧ (tyOf P t).bytes = i.bytes ∧
    (tyOf P t).agg = aggD d ∧ (tyOf P t).zero = (match i.zero with | some v => cellsV (ofValue v) | none => []) ∧
    (tyOf P t).hz = (match i.zero with | some v => Nat.beq v.cells.size i.size && zshape (aggD d) v | none => false) := by
  unfold tyOf at h ⊢
  cases hi : P.info? t with
  | none => simp [hi, TI.none, TI.known] at h
  | some i =>
    cases hd : P.underlying t with
    | none => simp [hi, hd, TI.none, TI.known] at h
    | some d => exact ⟨i, d, rfl, rfl, rfl, rfl, rfl, rfl, rfl⟩
theorem slice_of {t e : TypeId} (h : (tyOf P t).ty = .slice e) : P.underlying t = some (.slice e) := by
  unfold tyOf at h
  cases hi : P.info? t with
  | none => simp [hi, TI.none] at h
  | some i =>
    cases hd : P.underlying t with
    | none => simp [hi, hd, TI.none] at h
    | some d => cases d <;> simp [hi, hd] at h; subst h; rfl
theorem struct_of {t : TypeId} {fs : List (Nat × TypeId)} (h : (tyOf P t).ty = .struct fs) : ∃ gs, P.underlying t = some (.struct gs) ∧ fs = gs.toList.map (fun f => (f.offset, f.type)) ∧ (tyOf P t).known = true ∧ (tyOf P t).agg = true := by
  unfold tyOf at h ⊢
  cases hi : P.info? t with
  | none => simp [hi, TI.none] at h
  | some i =>
    cases hd : P.underlying t with
    | none => simp [hi, hd, TI.none] at h
    | some d => cases d <;> simp [hi, hd] at h; subst h; exact ⟨_, rfl, rfl, rfl, rfl⟩
theorem array_of {t e : TypeId} {n : Nat} (h : (tyOf P t).ty = .array n e) : P.underlying t = some (.array n e) ∧ (tyOf P t).known = true ∧ (tyOf P t).agg = true := by
  unfold tyOf at h ⊢
  cases hi : P.info? t with
  | none => simp [hi, TI.none] at h
  | some i =>
    cases hd : P.underlying t with
    | none => simp [hi, hd, TI.none] at h
    | some d => cases d <;> simp [hi, hd] at h; obtain ⟨rfl, rfl⟩ := h; exact ⟨rfl, rfl, rfl⟩
theorem map_of {t k e : TypeId} (h : (tyOf P t).ty = .map k e) : P.underlying t = some (.map k e) := by
  unfold tyOf at h
  cases hi : P.info? t with
  | none => simp [hi, TI.none] at h
  | some i =>
    cases hd : P.underlying t with
    | none => simp [hi, hd, TI.none] at h
    | some d => cases d <;> simp [hi, hd] at h; obtain ⟨rfl, rfl⟩ := h; rfl
theorem pointer_of {t e : TypeId} (h : (tyOf P t).ty = .pointer e) : P.underlying t = some (.pointer e) := by
  unfold tyOf at h
  cases hi : P.info? t with
  | none => simp [hi, TI.none] at h
  | some i =>
    cases hd : P.underlying t with
    | none => simp [hi, hd, TI.none] at h
    | some d => cases d <;> simp [hi, hd] at h; subst h; rfl
end

theorem cellsV_length_ofValue (v : Value) : (cellsV (ofValue v)).length = v.cells.size := by
  have h := ofValue_rel (fun _ => none) v
  cases v with
  | agg cs =>
    simp only [ofValue, VR] at h
    obtain ⟨ys, he, hv⟩ := h
    injection he with he; subst he
    simpa [ofValue, cellsV, Value.cells] using hv.length
  | slice a n c => cases a <;> simp only [ofValue] <;> (try split) <;> simp [cellsV, Value.cells]
  | pointer a => cases a <;> simp [ofValue, cellsV, Value.cells]
  | map a => cases a <;> simp [ofValue, cellsV, Value.cells]
  | _ => simp [ofValue, cellsV, Value.cells]

/-- The cells of a value. -/
theorem cells_rel {ρ : Rho} {x : V} {c : Value} (h : VR ρ x c) (hx : firms (cellsV x) = true) : VRs ρ (cellsV x) c.cells.toList := by
  cases x with
  | agg cs => simp only [VR] at h; obtain ⟨ys, rfl, h⟩ := h; simpa [cellsV, Value.cells] using h
  | any => simp [cellsV, firms, firm] at hx
  | int k n => simp only [VR] at h; subst h; exact VRs.cons (by simp [VR]) VRs.nil
  | bool n => simp only [VR] at h; subst h; exact VRs.cons (by simp [VR]) VRs.nil
  | str n => simp only [VR] at h; subst h; exact VRs.cons (by simp [VR]) VRs.nil
  | lp _ _ => simp [cellsV, firms, firm] at hx
  | tup _ => simp [cellsV, firms, firm] at hx
  | nilf => simp only [VR] at h; subst h; exact VRs.cons (by simp [VR]) VRs.nil
  | nili => simp only [VR] at h; subst h; exact VRs.cons (by simp [VR]) VRs.nil
  | ptr p =>
    have h' := h
    have : c.cells = #[c] := by
      cases p with
      | none => simp only [VR] at h; subst h; rfl
      | some q => obtain ⟨b, i, j⟩ := q; simp only [VR] at h; obtain ⟨e, _, rfl⟩ := h; rfl
    rw [this]; exact VRs.cons h' VRs.nil
  | map p =>
    have h' := h
    have : c.cells = #[c] := by
      cases p with
      | none => simp only [VR] at h; subst h; rfl
      | some q => simp only [VR] at h; obtain ⟨e, _, rfl⟩ := h; rfl
    rw [this]; exact VRs.cons h' VRs.nil
  | sl R a n cc =>
    have h' := h
    have : c.cells = #[c] := by
      cases a with
      | none => simp only [VR] at h; obtain ⟨_, _, rfl⟩ := h; rfl
      | some q => obtain ⟨b, i⟩ := q; simp only [VR] at h; obtain ⟨e, y, z, _, _, rfl, _⟩ := h; rfl
    rw [this]; exact VRs.cons h' VRs.nil
  | fn f cs =>
    have h' := h
    have : c.cells = #[c] := by simp only [VR] at h; obtain ⟨_, _, _, rfl, _⟩ := h; rfl
    rw [this]; exact VRs.cons h' VRs.nil
  | ifc t y =>
    have h' := h
    have : c.cells = #[c] := by simp only [VR] at h; obtain ⟨_, rfl, _⟩ := h; rfl
    rw [this]; exact VRs.cons h' VRs.nil


/-! ### memory changes -/
def Rho.set (ρ : Rho) (b : Nat) (e : E) : Rho := fun x => if x = b then some e else ρ x
theorem Rho.set_le {ρ : Rho} {b : Nat} {e : E} (h : ρ b = none) : Rle ρ (ρ.set b e) := fun x y hx => by
  unfold Rho.set
  split
  · rename_i hb; subst hb; rw [h] at hx; cases hx
  · exact hx
theorem Rho.set_same (ρ : Rho) (b : Nat) (e : E) : ρ.set b e b = some e := by simp [Rho.set]
theorem Rho.set_other {ρ : Rho} {b x : Nat} {e : E} (h : x ≠ b) : ρ.set b e x = ρ x := by simp [Rho.set, h]
theorem alloc_old (w : World) (o : Obj) {r : Nat} (h : r < w.heap.size) : (w.alloc o).heap[r]? = w.heap[r]? := by
  show (w.heap.push o)[r]? = _
  rw [Array.getElem?_push, if_neg (by omega)]
theorem alloc_new (w : World) (o : Obj) : (w.alloc o).heap[w.heap.size]? = some o := by
  show (w.heap.push o)[w.heap.size]? = _
  rw [Array.getElem?_push, if_pos rfl]
theorem HRel.fresh {ρ : Rho} {h : Heap} {w : World} (a : HRel ρ h w) : ρ h.length = none := by
  cases e : ρ h.length with
  | none => rfl
  | some x => have := (a.dom _ _ e).1; omega
theorem get_snoc_old {α : Type} {h : List α} {k : α} {b : Nat} (hb : b < h.length) : (h ++ [k])[b]? = h[b]? := List.getElem?_append_left hb
theorem get_snoc_new {α : Type} {h : List α} {k : α} : (h ++ [k])[h.length]? = some k := by simp
/-- T's new block is a block of the model that nobody else of T's living blocks is. -/
theorem HRel.adopt {ρ : Rho} {h : Heap} {w w' : World} (hh : HRel ρ h w) (k : Blk) (e : E)
    (hsize : w.heap.size ≤ w'.heap.size) (hlt : e.r < w'.heap.size) (hother : ∀ r, r < w.heap.size → r ≠ e.r → w'.heap[r]? = w.heap[r]?)
    (hdead : ∀ b e', ρ b = some e' → e'.r = e.r → isDead h b) (hk : BR ρ e k w') :
    HRel (ρ.set h.length e) (h ++ [k]) w' where
  dom := fun b e' hb => by
    by_cases hx : b = h.length
    · subst hx; rw [Rho.set_same] at hb; injection hb with hb; subst hb; exact ⟨by simp, hlt⟩
    · rw [Rho.set_other hx] at hb
      have := hh.dom b e' hb
      exact ⟨by simp; omega, by omega⟩
  blk := fun b e' k' hb hk' => by
    have hle : Rle ρ (ρ.set h.length e) := Rho.set_le hh.fresh
    by_cases hx : b = h.length
    · subst hx; rw [Rho.set_same] at hb; injection hb with hb; subst hb
      rw [get_snoc_new] at hk'; injection hk' with hk'; subst hk'
      exact BR.mono hle rfl hk
    · rw [Rho.set_other hx] at hb
      have hd := hh.dom b e' hb
      rw [get_snoc_old hd.1] at hk'
      by_cases hr : e'.r = e.r
      · have := hdead b e' hb hr
        rw [isDead, hk'] at this; injection this with this; subst this
        trivial
      · exact BR.mono hle (hother _ hd.2 hr) (hh.blk b e' k' hb hk')
  inj := fun b b' e1 e2 h1 h2 hr hne => by
    have old : ∀ {x : Nat}, x < h.length → isDead h x → isDead (h ++ [k]) x := fun hx hd => by unfold isDead at *; rw [get_snoc_old hx]; exact hd
    by_cases hx : b = h.length
    · subst hx; rw [Rho.set_same] at h1; injection h1 with h1; subst h1
      rw [Rho.set_other (Ne.symm hne)] at h2
      exact .inr (.inl (old (hh.dom b' e2 h2).1 (hdead b' e2 h2 hr.symm)))
    · rw [Rho.set_other hx] at h1
      by_cases hy : b' = h.length
      · subst hy; rw [Rho.set_same] at h2; injection h2 with h2; subst h2
        exact .inl (old (hh.dom b e1 h1).1 (hdead b e1 h1 hr))
      · rw [Rho.set_other hy] at h2
        have d1 := (hh.dom b e1 h1).1
        have d2 := (hh.dom b' e2 h2).1
        rcases hh.inj b b' e1 e2 h1 h2 hr hne with h3 | h3 | ⟨h3, h4⟩
        · exact .inl (old d1 h3)
        · exact .inr (.inl (old d2 h3))
        · refine .inr (.inr ⟨?_, ?_⟩)
          · obtain ⟨a, b, c, d⟩ := h3; exact ⟨a, b, c, by rw [get_snoc_old d1]; exact d⟩
          · obtain ⟨a, b, c, d⟩ := h4; exact ⟨a, b, c, by rw [get_snoc_old d2]; exact d⟩
theorem HRel.alloc {ρ : Rho} {h : Heap} {w : World} (hh : HRel ρ h w) (k : Blk) (o : Obj) (e : E) (he : e.r = w.heap.size) (hk : BR ρ e k (w.alloc o)) :
    HRel (ρ.set h.length e) (h ++ [k]) (w.alloc o) :=
  hh.adopt k e (by simp) (by simp; omega) (fun r hr _ => alloc_old w o hr) (fun b e' hb hr => by have := (hh.dom b e' hb).2; omega) hk
theorem Ext.alloc {lo : Nat} {ρ : Rho} {h : Heap} {w : World} (hh : HRel ρ h w) (k : Blk) (o : Obj) (e : E) (he : e.r = w.heap.size) :
    Ext lo w.heap.size ρ h w (ρ.set h.length e) (h ++ [k]) (w.alloc o) where
  rle := Rho.set_le hh.fresh
  new := fun b e' h1 h2 => by
    by_cases hx : b = h.length
    · subst hx; rw [Rho.set_same] at h2; injection h2 with h2; subst h2; exact ⟨Nat.le_refl _, .inl (by omega)⟩
    · rw [Rho.set_other hx, h1] at h2; cases h2
  frame := fun r hr _ => alloc_old w o hr
  size := by simp
  os := rfl
  tape := rfl
  output := rfl
  len := by simp
  pres := fun b _ hb => get_snoc_old hb
  tot := fun b h1 h2 => by
    have : b = h.length := by simp at h2; omega
    subst this; exact ⟨e, Rho.set_same _ _ _⟩

/-- The world with another object in a block. -/
def setBlk (w : World) (r : Nat) (o : Obj) : World := { w with heap := w.heap.setIfInBounds r o }
theorem setBlk_same {w : World} {r : Nat} {o : Obj} (h : r < w.heap.size) : (setBlk w r o).heap[r]? = some o := by simp [setBlk, h]
theorem setBlk_other {w : World} {r s : Nat} {o : Obj} (h : s ≠ r) : (setBlk w r o).heap[s]? = w.heap[s]? := by
  simp only [setBlk, Array.getElem?_setIfInBounds]; rw [if_neg (by omega)]
theorem setBlk_size {w : World} {r : Nat} {o : Obj} : (setBlk w r o).heap.size = w.heap.size := by simp [setBlk]
theorem setBlk_setBlk {w : World} {r : Nat} {o p : Obj} : setBlk (setBlk w r o) r p = setBlk w r p := by simp [setBlk]

/-- One living block of T is another, and with it the model's. -/
theorem HRel.write {ρ : Rho} {h : Heap} {w w' : World} (hh : HRel ρ h w) {b : Nat} {e : E} {k k' : Blk} (hb : ρ b = some e) (hk : h[b]? = some k) (hal : k ≠ .dead) (hro : ¬ isRo h b)
    (hro' : ∀ R t rs, k' ≠ .rows R t true rs)
    (hsize : w'.heap.size = w.heap.size) (hother : ∀ r, r ≠ e.r → w'.heap[r]? = w.heap[r]?) (hk' : BR ρ e k' w') : HRel ρ (h.set b k') w' where
  dom := fun b' e' h1 => by have := hh.dom b' e' h1; simp; omega
  blk := fun b' e' k1 h1 h2 => by
    by_cases hx : b' = b
    · subst hx; rw [hb] at h1; injection h1 with h1; subst h1
      rw [List.getElem?_set_self (by have := (hh.dom _ _ hb).1; omega)] at h2; injection h2 with h2; subst h2; exact hk'
    · rw [List.getElem?_set_ne (Ne.symm hx)] at h2
      by_cases hr : e'.r = e.r
      · rcases hh.inj b' b e' e h1 hb hr hx with h3 | h3 | ⟨_, h3⟩
        · rw [isDead, h2] at h3; injection h3 with h3; subst h3; trivial
        · rw [isDead, hk] at h3; injection h3 with h3; exact absurd h3 hal
        · exact absurd h3 hro
      · exact BR.mono (Rle.refl _) (hother _ hr) (hh.blk b' e' k1 h1 h2)
  inj := fun b1 b2 e1 e2 h1 h2 hr hne => by
    have other : ∀ {x : Nat}, x ≠ b → isDead h x → isDead (h.set b k') x := fun hx hd => by unfold isDead at *; rw [List.getElem?_set_ne (Ne.symm hx)]; exact hd
    have notb : ¬ isDead h b := fun hd => by rw [isDead, hk] at hd; injection hd with hd; exact hal hd
    rcases hh.inj b1 b2 e1 e2 h1 h2 hr hne with h3 | h3 | ⟨h3, h4⟩
    · exact .inl (other (fun hx => notb (hx ▸ h3)) h3)
    · exact .inr (.inl (other (fun hx => notb (hx ▸ h3)) h3))
    · refine .inr (.inr ⟨?_, ?_⟩)
      · obtain ⟨a, c, d, f⟩ := h3
        exact ⟨a, c, d, by rw [List.getElem?_set_ne (fun hx => hro (by subst hx; exact ⟨a, c, d, f⟩))]; exact f⟩
      · obtain ⟨a, c, d, f⟩ := h4
        exact ⟨a, c, d, by rw [List.getElem?_set_ne (fun hx => hro (by subst hx; exact ⟨a, c, d, f⟩))]; exact f⟩
theorem Ext.write {lo : Nat} {ρ : Rho} {h : Heap} {w w' : World} {b : Nat} {e : E} {k' : Blk} (hb : ρ b = some e) (hlo : lo ≤ b)
    (hsize : w'.heap.size = w.heap.size) (hother : ∀ r, r ≠ e.r → w'.heap[r]? = w.heap[r]?) (hos : w'.os = w.os) (ht : w'.tape = w.tape) (ho : w'.output = w.output) : Ext lo w.heap.size ρ h w ρ (h.set b k') w' where
  rle := Rle.refl _
  new := fun b e h1 h2 => by rw [h1] at h2; cases h2
  frame := fun r hr hf => hother r fun hx => hf b e hb hlo hx.symm
  size := by omega
  os := hos
  tape := ht
  output := ho
  len := by simp
  pres := fun x h1 _ => List.getElem?_set_ne (by omega)
  tot := fun b h1 h2 => by simp at h2; omega
theorem not_ro {h : Heap} {b : Nat} {R : Nat} {t : TypeId} {rs : List (List V)} (hk : h[b]? = some (.rows R t false rs)) : ¬ isRo h b := fun ⟨_, _, _, h1⟩ => by
  rw [hk] at h1; injection h1 with h1; injection h1 with _ _ h1; cases h1

theorem ld_some {h : Heap} {b i j n : Nat} {cs : List V} (hl : ld h b i j n = some cs) : ∃ R e ro rs row, h[b]? = some (.rows R e ro rs) ∧ rs[i]? = some row ∧ cut row j n = some cs := by
  unfold ld Heap.rows? at hl
  split at hl
  · rename_i R e ro rs hb
    simp only [Option.bind_some] at hl
    cases hr : rs[i]? with
    | none => simp [hr] at hl
    | some row => simp [hr] at hl; exact ⟨R, e, ro, rs, row, hb, hr, hl⟩
  · simp at hl
theorem st_some {lo : Nat} {h h' : Heap} {b i j : Nat} {cs : List V} (hs : st lo h b i j cs = some h') :
    ∃ R e rs row row', h[b]? = some (.rows R e false rs) ∧ lo ≤ b ∧ rs[i]? = some row ∧ paste row j cs = some row' ∧ h' = h.set b (.rows R e false (rs.set i row')) := by
  unfold st at hs
  split at hs
  · rename_i R e rs hb
    split at hs
    · rename_i hlo
      cases hr : rs[i]? with
      | none => simp [hr] at hs
      | some row =>
        simp only [hr, Option.bind_some] at hs
        cases hp : paste row j cs with
        | none => simp [hp] at hs
        | some row' => simp only [hp, Option.bind_some, Option.some.injEq] at hs; exact ⟨R, e, rs, row, row', hb, Nat.le_of_ble_eq_true hlo, hr, hp, hs.symm⟩
    · cases hs
  · cases hs
theorem ldRows_some {h : Heap} {b i n : Nat} {xs : List (List V)} (hl : ldRows h b i n = some xs) : ∃ R e ro rs, h[b]? = some (.rows R e ro rs) ∧ i + n ≤ rs.length ∧ xs = (rs.drop i).take n := by
  unfold ldRows Heap.rows? at hl
  split at hl
  · rename_i R e ro rs hb
    simp only [Option.bind_some] at hl
    split at hl
    · rename_i hle; injection hl with hl; exact ⟨R, e, ro, rs, hb, Nat.le_of_ble_eq_true hle, hl.symm⟩
    · cases hl
  · simp at hl
theorem stRows_some {lo : Nat} {h h' : Heap} {b i : Nat} {xs : List (List V)} (hs : stRows lo h b i xs = some h') :
    ∃ R e rs, h[b]? = some (.rows R e false rs) ∧ lo ≤ b ∧ i + xs.length ≤ rs.length ∧ h' = h.set b (.rows R e false (rs.take i ++ xs ++ rs.drop (i + xs.length))) := by
  unfold stRows at hs
  split at hs
  · rename_i R e rs hb
    split at hs
    · rename_i h1 h2; injection hs with hs; exact ⟨R, e, rs, hb, Nat.le_of_ble_eq_true h1, Nat.le_of_ble_eq_true h2, hs.symm⟩
    · cases hs
  · cases hs

/-! ### the model's cells -/
/-- these values from cell 'o' on -/
def putL (cs : Array Value) (o : Nat) : List Value → Array Value
  | [] => cs
  | v :: r => putL (cs.setIfInBounds o v) (o + 1) r
theorem putL_size : ∀ (vs : List Value) (cs : Array Value) (o : Nat), (putL cs o vs).size = cs.size
  | [], cs, o => rfl
  | v :: r, cs, o => by simp [putL, putL_size r]
theorem putL_out : ∀ (vs : List Value) (cs : Array Value) (o j : Nat), (j < o ∨ o + vs.length ≤ j) → (putL cs o vs)[j]? = cs[j]?
  | [], cs, o, j, _ => rfl
  | v :: r, cs, o, j, h => by
    simp only [putL]
    rw [putL_out r _ _ j (by simp at h; omega), Array.getElem?_setIfInBounds, if_neg (by simp at h; omega)]
theorem putL_in : ∀ (vs : List Value) (cs : Array Value) (o j : Nat), o + vs.length ≤ cs.size → j < vs.length → (putL cs o vs)[o + j]? = vs[j]?
  | [], cs, o, j, _, h => by simp at h
  | v :: r, cs, o, j, hs, h => by
    simp only [putL]
    cases j with
    | zero =>
      rw [putL_out r _ _ _ (by omega)]
      simp at hs
      simp [show o < cs.size by omega]
    | succ j =>
      have := putL_in r (cs.setIfInBounds o v) (o + 1) j (by simp at hs ⊢; omega) (by simpa using h)
      rw [show o + (j + 1) = o + 1 + j by omega, this]
      simp

theorem putL_one : ∀ {vs : List Value} {cs : Array Value} {o : Nat}, OneCells cs → (∀ v ∈ vs, v.oneCell' = true) → OneCells (putL cs o vs)
  | [], cs, o, h, _ => h
  | v :: vs, cs, o, h, hv => by
    refine putL_one (vs := vs) (cs := cs.setIfInBounds o v) (o := o + 1) (fun j c hj => ?_) fun x hx => hv x (by simp [hx])
    rw [Array.getElem?_setIfInBounds] at hj
    split at hj
    · split at hj
      · injection hj with hj; subst hj; exact hv v (by simp)
      · cases hj
    · exact h j c hj
theorem OneCells.of_list {cs : Array Value} (h : ∀ v ∈ cs.toList, v.oneCell' = true) : OneCells cs := fun j c hj => h c (List.mem_of_getElem? (by simpa using hj))

theorem add_mk (r o n : Nat) : (⟨r, o, none⟩ : Addr).add n = ⟨r, o + n, none⟩ := by
  unfold Addr.add
  split
  · rename_i h; subst h; rfl
  · rfl
theorem cell_at {w : World} {r o : Nat} {cs : Array Value} {el : TypeId} {fr : Nat × Nat} (h : w.heap[r]? = some (.cells cs el fr)) : w.cell? ⟨r, o, none⟩ = cs[o]? := by
  simp [World.cell?, h]
theorem setBlk_self {w : World} {r : Nat} {o : Obj} (h : w.heap[r]? = some o) : setBlk w r o = w := by
  have : w.heap.setIfInBounds r o = w.heap := by
    apply Array.ext_getElem?
    intro i
    rw [Array.getElem?_setIfInBounds]
    split
    · rename_i hi; subst hi
      split
      · exact h.symm
      · rename_i h2; simp [Array.getElem?_eq_none (Nat.le_of_not_lt h2)] at h
    · rfl
  unfold setBlk; rw [this]
theorem setCell_blk {w : World} {r o : Nat} {cs : Array Value} {el : TypeId} {fr : Nat × Nat} (h : w.heap[r]? = some (.cells cs el fr)) (v : Value) :
    w.setCell ⟨r, o, none⟩ v = setBlk w r (.cells (cs.setIfInBounds o v) el fr) := by
  have hr : r < w.heap.size := (Array.getElem?_eq_some_iff.1 h).1
  unfold World.setCell setBlk
  congr 1
  apply Array.ext_getElem?
  intro i
  rw [Array.getElem?_modify, Array.getElem?_setIfInBounds]
  split
  · rename_i hi
    simp only at hi
    subst hi
    have he : w.heap[r] = .cells cs el fr := (Array.getElem?_eq_some_iff.1 h).2
    simp [hr, he]
  · rfl
theorem run_storeCells' {P : Program} : ∀ (vs : List Value) (w : World) (r o i : Nat) (cs : Array Value) (el : TypeId), w.heap[r]? = some (.cells cs el (0, 0)) → o + i + vs.length ≤ cs.size → (∀ v ∈ vs, v.oneCell' = true) →
    (storeCells ⟨r, o, none⟩ vs i).run P w = .ok () (setBlk w r (.cells (putL cs (o + i) vs) el (0, 0)))
  | [], w, r, o, i, cs, el, h, _, _ => by
    rw [putL, setBlk_self h]; rfl
  | v :: vs, w, r, o, i, cs, el, h, hs, hv => by
    have hr : r < w.heap.size := (Array.getElem?_eq_some_iff.1 h).1
    have hc : w.cell? ⟨r, o + i, none⟩ = some (cs[o + i]'(by simp at hs; omega)) := by
      rw [cell_at h]; simp at hs; simp [show o + i < cs.size by omega]
    have hfr : w.frozen? ⟨r, o + i, none⟩ = false := by simp [World.frozen?, h]
    simp only [storeCells, Sem.run_bind, add_mk]
    rw [run_store P w _ v _ (hv v (by simp))]
    simp only [hc, hfr, Bool.false_eq_true, if_false, Result.andThen_ok, setCell_blk h v]
    rw [run_storeCells' vs _ r o (i + 1) (cs.setIfInBounds (o + i) v) el (setBlk_same hr) (by simp at hs ⊢; omega) (fun x hx => hv x (by simp [hx]))]
    simp [setBlk_setBlk, putL, Nat.add_assoc]

theorem one_of_firm {ρ : Rho} {x : V} {c : Value} (h : VR ρ x c) (hx : firm x = true) : c.oneCell' = true := by
  cases x with
  | ptr p => cases p with
    | none => simp only [VR] at h; subst h; rfl
    | some q => obtain ⟨b, i, j⟩ := q; simp only [VR] at h; obtain ⟨e, _, rfl⟩ := h; rfl
  | sl R a n cc => cases a with
    | none => simp only [VR] at h; obtain ⟨_, _, rfl⟩ := h; rfl
    | some q => obtain ⟨b, i⟩ := q; simp only [VR] at h; obtain ⟨e, y, z, _, _, rfl, _⟩ := h; rfl
  | map p => cases p with
    | none => simp only [VR] at h; subst h; rfl
    | some q => simp only [VR] at h; obtain ⟨e, _, rfl⟩ := h; rfl
  | fn f cs => simp only [VR] at h; obtain ⟨_, _, _, rfl, _⟩ := h; rfl
  | ifc t y => simp only [VR] at h; obtain ⟨_, rfl, _⟩ := h; rfl
  | agg _ => simp [firm] at hx
  | tup _ => simp [firm] at hx
  | any => simp [firm] at hx
  | lp _ _ => simp [firm] at hx
  | int _ _ => simp only [VR] at h; subst h; rfl
  | bool _ => simp only [VR] at h; subst h; rfl
  | str _ => simp only [VR] at h; subst h; rfl
  | nilf => simp only [VR] at h; subst h; rfl
  | nili => simp only [VR] at h; subst h; rfl
theorem one_of_firms {ρ : Rho} : ∀ {xs : List V} {cs : List Value}, VRs ρ xs cs → firms xs = true → ∀ c ∈ cs, c.oneCell' = true
  | [], cs, h, _, c, hc => by simp only [VRs] at h; subst h; simp at hc
  | x :: xs, cs, h, hx, c, hc => by
    simp only [VRs] at h
    obtain ⟨y, r, rfl, h1, h2⟩ := h
    simp only [firms] at hx
    split at hx
    · rename_i hf
      simp only [List.mem_cons] at hc
      rcases hc with rfl | hc
      · exact one_of_firm h1 hf
      · exact one_of_firms h2 hx c hc
    · cases hx

theorem mul_lt_row {i i' R j : Nat} (h : i' < i) (hj : j < R) : i' * R + j < i * R := by
  have h1 : (i' + 1) * R ≤ i * R := Nat.mul_le_mul_right R h
  rw [Nat.add_mul, Nat.one_mul] at h1
  omega

theorem row_le {i i' : Nat} (R : Nat) (h : i < i') : i * R + R ≤ i' * R := by
  have h1 : (i + 1) * R ≤ i' * R := Nat.mul_le_mul_right R h
  rwa [Nat.add_mul, Nat.one_mul] at h1

/-- cells put into one row -/
theorem RowsR.paste {ρ : Rho} {R o i j : Nat} {rs : List (List V)} {cs : Array Value} {row row' xs : List V} {vs : List Value} (h : RowsR ρ R o rs cs) (hr : rs[i]? = some row)
    (hp : paste row j xs = some row') (hv : VRs ρ xs vs) (hs : o + rs.length * R ≤ cs.size) : RowsR ρ R o (rs.set i row') (putL cs (o + (i * R + j)) vs) := by
  obtain ⟨hle, hrow⟩ := paste_some hp
  have hl := (h i row hr).1
  have hi : i < rs.length := (List.getElem?_eq_some_iff.1 hr).1
  have hbig : i * R + R ≤ rs.length * R := by
    have := Nat.mul_le_mul_right R (show i + 1 ≤ rs.length from hi)
    rw [Nat.add_mul, Nat.one_mul] at this; exact this
  intro i' r' hr'
  by_cases e : i' = i
  · subst e
    rw [List.getElem?_set_self hi] at hr'
    injection hr' with hr'; subst hr'
    refine ⟨by rw [hrow]; simp; omega, fun q v hq => ?_⟩
    rw [hrow] at hq
    by_cases h1 : q < j
    · rw [List.append_assoc, List.getElem?_append_left (by simp; omega), List.getElem?_take, if_pos h1] at hq
      obtain ⟨c, h2, h3⟩ := (h i' row hr).2 q v hq
      exact ⟨c, by rw [putL_out _ _ _ _ (by omega)]; exact h2, h3⟩
    · by_cases h2 : q < j + xs.length
      · rw [List.append_assoc, List.getElem?_append_right (by simp; omega), List.getElem?_append_left (by simp; omega)] at hq
        have hq' : xs[q - j]? = some v := by rw [← hq]; congr 1; simp; omega
        obtain ⟨c, h3, h4⟩ := hv.get _ _ hq'
        refine ⟨c, ?_, h4⟩
        have hlen := hv.length
        rw [show o + (i' * R + q) = o + (i' * R + j) + (q - j) by omega, putL_in _ _ _ _ (by omega) (by omega)]
        exact h3
      · rw [List.getElem?_append_right (by simp; omega), List.getElem?_drop] at hq
        have hq' : row[q]? = some v := by rw [← hq]; congr 1; simp; omega
        obtain ⟨c, h3, h4⟩ := (h i' row hr).2 q v hq'
        have hlen := hv.length
        exact ⟨c, by rw [putL_out _ _ _ _ (by omega)]; exact h3, h4⟩
  · rw [List.getElem?_set_ne (Ne.symm e)] at hr'
    refine ⟨(h i' r' hr').1, fun q v hq => ?_⟩
    obtain ⟨c, h3, h4⟩ := (h i' r' hr').2 q v hq
    have hq2 : q < R := by have := (List.getElem?_eq_some_iff.1 hq).1; rw [(h i' r' hr').1] at this; exact this
    have hlen := hv.length
    refine ⟨c, ?_, h4⟩
    rw [putL_out _ _ _ _ ?_]
    · exact h3
    · rcases Nat.lt_or_gt_of_ne e with hlt | hgt
      · have := mul_lt_row hlt hq2; omega
      · have := row_le R hgt; omega
end Go.Proofs.YtfbhdjkeofleiaaDoor.T
