/- T against the model: append and the other builtins. -/
import Derived.Test.YtfbhdjkeofleiaaDoorTeeJ
import Derived.Laws.BytesString
import Derived.IntWalk
import Derived.Laws.Append
namespace Go.Proofs.YtfbhdjkeofleiaaDoor.T
open Go
set_option linter.unusedVariables false
set_option linter.unusedSimpArgs false
set_option linter.unnecessarySimpa false

section
variable {P : Program} {lo base : Nat} {ρ : Rho} {β : Bet} {σ : St} {w : World}

theorem HRel.kill {h : Heap} (hh : HRel ρ h w) {b : Nat} {R : Nat} {t : TypeId} {rs : List (List V)} (hk : h[b]? = some (.rows R t false rs)) : HRel ρ (h.set b .dead) w where
  dom := fun b' e' h1 => by have := hh.dom b' e' h1; simp; omega
  blk := fun b' e' k1 h1 h2 => by
    by_cases hx : b' = b
    · subst hx
      rw [List.getElem?_set_self (by have := (hh.dom _ _ h1).1; omega)] at h2; injection h2 with h2; subst h2; trivial
    · rw [List.getElem?_set_ne (Ne.symm hx)] at h2
      exact hh.blk b' e' k1 h1 h2
  inj := fun b1 b2 e1 e2 h1 h2 hr hne => by
    have dead : ∀ {x : Nat}, x < h.length → (x = b ∨ isDead h x) → isDead (h.set b .dead) x := fun hx hd => by
      unfold isDead at *
      rcases hd with rfl | hd
      · rw [List.getElem?_set_self hx]
      · rw [List.getElem?_set]; split
        · rename_i q; subst q; rw [if_pos hx]
        · exact hd
    have ro : ∀ {x : Nat}, x ≠ b → isRo h x → isRo (h.set b .dead) x := fun hx ⟨a, c, d, f⟩ => ⟨a, c, d, by rw [List.getElem?_set_ne (Ne.symm hx)]; exact f⟩
    have d1 := (hh.dom _ _ h1).1
    have d2 := (hh.dom _ _ h2).1
    by_cases e1' : b1 = b
    · exact .inl (dead d1 (.inl e1'))
    · by_cases e2' : b2 = b
      · exact .inr (.inl (dead d2 (.inl e2')))
      · rcases hh.inj b1 b2 e1 e2 h1 h2 hr hne with h3 | h3 | ⟨h3, h4⟩
        · exact .inl (dead d1 (.inr h3))
        · exact .inr (.inl (dead d2 (.inr h3)))
        · exact .inr (.inr ⟨ro e1' h3, ro e2' h4⟩)
theorem Ext.kill {h : Heap} {b : Nat} (k : Blk) (hlo : lo ≤ b) : Ext lo w.heap.size ρ h w ρ (h.set b k) w where
  rle := Rle.refl _
  new := fun b e h1 h2 => by rw [h1] at h2; cases h2
  frame := fun r hr hf => rfl
  size := Nat.le_refl _
  os := rfl
  tape := rfl
  output := rfl
  len := by simp
  pres := fun x h1 _ => List.getElem?_set_ne (by omega)
  tot := fun b h1 h2 => by simp at h2; omega
theorem Ext.drew {h : Heap} : Ext lo w.heap.size ρ h w ρ h w.drew where
  rle := Rle.refl _
  new := fun b e h1 h2 => by rw [h1] at h2; cases h2
  frame := fun r hr hf => rfl
  size := Nat.le_refl _
  os := rfl
  tape := rfl
  output := rfl
  len := Nat.le_refl _
  pres := fun x h1 _ => rfl
  tot := fun b h1 h2 => by omega

/-- a new row whose capacity T does not know -/
theorem fine_new {h0 : Heap} (hB : base ≤ w.heap.size) (hh : HRel ρ h0 w) (hf : FRel ρ β σ.bx w) (hx0 : Ext lo w.heap.size ρ σ.h w ρ h0 w) {e : TypeId} {rows : List (List V)} {cells : Array Value} {size m : Nat}
    (hv : RowsR ρ size 0 rows cells) (hone : OneCells cells) (hsz : m * size ≤ cells.size) (hm : rows.length ≤ m) :
    Fine lo base ρ β σ w (.sl size (some (h0.length, 0)) rows.length none) { σ with h := h0 ++ [.rows size e false rows] } (.slice (some ⟨w.heap.size, 0, none⟩) rows.length m) (w.drew.alloc (.cells cells e)) := by
  have hh' : HRel ρ h0 w.drew := hh.drew
  have hx1 : Ext lo w.heap.size ρ h0 w.drew (ρ.set h0.length ⟨w.heap.size, 0, size, rows.length, m⟩) (h0 ++ [.rows size e false rows]) (w.drew.alloc (.cells cells e)) := Ext.alloc hh' _ _ _ rfl
  have hx := (hx0.trans Ext.drew).trans hx1
  refine ⟨ρ.set h0.length ⟨w.heap.size, 0, size, rows.length, m⟩, β, rfl, ?_, ?_, hf.ext hx, hx.weaken (Nat.le_refl _) hB, Ble.refl _, fun t r h1 h2 => (by rw [h1] at h2; cases h2), noBx⟩
  · refine SV.of ?_
    simp only [VR, Rho.set_same]
    exact ⟨_, _, m, rfl, rfl, rfl, .inr (by simp), hm, (fun y hy => by cases hy), fun _ => ⟨by simp, rfl⟩⟩
  · refine hh'.alloc _ _ _ rfl ?_
    exact ⟨cells, (0, 0), alloc_new _ _, fun _ => ⟨rfl, rfl⟩, rfl, rfl, hm, (show 0 + m * size ≤ cells.size by omega), hv.mono (Rle.refl _), .inl hone⟩

/-- rows put into a block -/
theorem RowsR.pasteRows {R o i : Nat} {rs xs : List (List V)} {cs : Array Value} {vs : List Value} (h : RowsR ρ R o rs cs) (hl : ∀ row ∈ xs, row.length = R) (hi : i + xs.length ≤ rs.length) (hv : VRs ρ xs.flatten vs) (hs : o + rs.length * R ≤ cs.size) :
    RowsR ρ R o (rs.take i ++ xs ++ rs.drop (i + xs.length)) (putL cs (o + i * R) vs) := by
  have hfl := flat_length hl
  have hvl := hv.length
  have hbig : (i + xs.length) * R ≤ rs.length * R := Nat.mul_le_mul_right R hi
  rw [Nat.add_mul] at hbig
  intro q row hq
  by_cases h1 : q < i
  · have hq' : rs[q]? = some row := by
      rw [List.append_assoc, List.getElem?_append_left (by simp; omega), List.getElem?_take, if_pos h1] at hq; exact hq
    refine ⟨(h q row hq').1, fun j v hj => ?_⟩
    obtain ⟨c, g1, g2⟩ := (h q row hq').2 j v hj
    refine ⟨c, ?_, g2⟩
    have hj' : j < R := by have := (List.getElem?_eq_some_iff.1 hj).1; rw [(h q row hq').1] at this; exact this
    have := mul_lt_row h1 hj'
    rw [putL_out _ _ _ _ (.inl (by omega))]; exact g1
  · by_cases h2 : q < i + xs.length
    · have hq' : xs[q - i]? = some row := by
        rw [List.append_assoc, List.getElem?_append_right (by simp; omega), List.getElem?_append_left (by simp; omega)] at hq
        rw [← hq]; congr 1; simp; omega
      refine ⟨hl row (List.mem_of_getElem? hq'), fun j v hj => ?_⟩
      have hj' : j < R := by have := (List.getElem?_eq_some_iff.1 hj).1; rw [hl row (List.mem_of_getElem? hq')] at this; exact this
      obtain ⟨c, g1, g2⟩ := hv.get _ v (flat_get hl hq' hj)
      refine ⟨c, ?_, g2⟩
      have e1 : o + (q * R + j) = o + i * R + ((q - i) * R + j) := by
        have : q * R = i * R + (q - i) * R := by rw [← Nat.add_mul]; congr 1; omega
        omega
      have hlt : (q - i) * R + j < vs.length := (List.getElem?_eq_some_iff.1 g1).1
      rw [e1, putL_in _ _ _ _ (by omega) hlt]
      exact g1
    · have hq' : rs[q]? = some row := by
        rw [List.getElem?_append_right (by simp; omega), List.getElem?_drop] at hq
        rw [← hq]; congr 1; simp; omega
      refine ⟨(h q row hq').1, fun j v hj => ?_⟩
      obtain ⟨c, g1, g2⟩ := (h q row hq').2 j v hj
      refine ⟨c, ?_, g2⟩
      have : (i + xs.length) * R ≤ q * R := Nat.mul_le_mul_right R (by omega)
      rw [Nat.add_mul] at this
      rw [putL_out _ _ _ _ (.inr (by omega))]; exact g1
/-- rows stored at a place of the model -/
theorem stRows_run {h h' : Heap} (hh : HRel ρ h w) {b i : Nat} {e : E} {xs : List (List V)} (hb : ρ b = some e) (hst : stRows lo h b i xs = some h') (hl : ∀ row ∈ xs, row.length = e.R) {vs : List Value} (hv : VRs ρ xs.flatten vs) (hone : ∀ v ∈ vs, v.oneCell' = true) :
    ∃ w', (storeCells ⟨e.r, e.o + i * e.R, none⟩ vs).run P w = .ok () w' ∧ HRel ρ h' w' ∧ Ext lo w.heap.size ρ h w ρ h' w' := by
  obtain ⟨R', el, rs, hkb, hlo, hi, rfl⟩ := stRows_some hst
  obtain ⟨cs, fr, g1, g2, g3, g4, g5, g6, g7, g8⟩ := hh.blk b e _ hb hkb
  obtain ⟨rfl, ho⟩ := g2 rfl
  have hqlt : e.r < w.heap.size := (hh.dom b e hb).2
  have hfl := flat_length hl
  have hvl := hv.length
  have hbig : (i + xs.length) * R' ≤ rs.length * R' := Nat.mul_le_mul_right R' hi
  have hbig2 : rs.length * R' ≤ e.m * R' := Nat.mul_le_mul_right R' (by omega)
  rw [Nat.add_mul] at hbig
  rw [g3] at hfl
  have hrun := run_storeCells' (P := P) vs w e.r (e.o + i * e.R) 0 cs el g1 (by rw [g3]; omega) hone
  refine ⟨_, hrun, ?_, Ext.write hb hlo setBlk_size (fun r' hr' => setBlk_other hr') rfl rfl rfl⟩
  refine hh.write hb hkb (by simp) (not_ro hkb) (fun _ _ _ h => by cases h) setBlk_size (fun r' hr' => setBlk_other hr') ?_
  refine ⟨_, (0, 0), setBlk_same hqlt, fun _ => ⟨rfl, ho⟩, g3, by rw [g4]; simp; omega, g5, by rw [putL_size]; exact g6, ?_, .inl (putL_one (g8.resolve_right fun h => by cases h.1) hone)⟩
  rw [g3, Nat.add_zero]
  rw [g3] at hl
  exact g7.pasteRows hl hi hv (by omega)

section
variable {P : Program} {lo base : Nat} {ρ : Rho} {β : Bet} {σ : St} {a : Act} {w : World} {R : Type} {r : R} {K : V → St → Option R} {X : Ctx}

theorem own_some {h : Heap} {b : Nat} {e : TypeId} {rs : List (List V)} (hk : Heap.own? lo e h b = some rs) : ∃ R, h[b]? = some (.rows R e false rs) ∧ lo ≤ b := by
  unfold Heap.own? at hk
  split at hk
  · rename_i R e rs' he
    split at hk
    · rename_i hle hee; injection hk with hk; subst hk
      have := Nat.eq_of_beq_eq_true hee; subst this
      exact ⟨_, he, Nat.le_of_ble_eq_true hle⟩
    · cases hk
  · cases hk

theorem bytes_rel : ∀ (l : List UInt8), VRs ρ (l.map fun b => [V.int .u8 (b.toNat : Int)]).flatten (l.map fun b => Value.int .u8 b.toNat)
  | [] => VRs.nil
  | b :: l => by simpa using VRs.cons VR.int' (bytes_rel l)

/-- the rows that a slice or a string holds -/
theorem rowsOf_run {h : Heap} (hh : HRel ρ h w) {size : Nat} {x : V} {c : Value} {k : List (List V) → Option R} (hk : rowsOf size h x k = some r) (hx : VR ρ x c) (hstr : ∀ s, x = .str s → size = 1) :
    ∃ (xs : List (List V)) (news : List Value), k xs = some r ∧ (Builtin.lenOf c).run P w = .ok xs.length w ∧ (∀ w2 : World, w2.heap = w.heap → (Builtin.firstCells size xs.length c).run P w2 = .ok news.toArray w2) ∧ VRs ρ xs.flatten news ∧ (∀ row ∈ xs, row.length = size) ∧ (∀ v ∈ news, v.oneCell' = true) := by
  unfold rowsOf at hk
  split at hk
  · rename_i R' a n cc
    split at hk
    · simp only [VR] at hx
      obtain ⟨rfl, _, rfl⟩ := hx
      exact ⟨[], [], hk, rfl, fun _ _ => rfl, VRs.nil, by simp, by simp⟩
    · rename_i b i
      simp only [VR] at hx
      obtain ⟨e, x, cc', k1, k2, rfl, k3, k4, k5, k6⟩ := hx
      obtain ⟨hr, hk1⟩ := need_some hk
      have hr := Nat.eq_of_beq_eq_true hr
      cases n with
      | zero =>
        refine ⟨[], [], hk1, rfl, fun w2 _ => ?_, VRs.nil, by simp, by simp⟩
        simp [Builtin.firstCells, loadCells, loadCellsFrom]
      | succ n =>
        simp only at hk1
        obtain ⟨xs, hxs, hk2⟩ := eO_some hk1
        obtain ⟨R1, el, ro, rs, hkb, hle, rfl⟩ := ldRows_some hxs
        obtain ⟨cs, fr, g1, g2, g3, g4, g5, g6, g7, g8⟩ := hh.blk b e _ k1 hkb
        have hx : x = ⟨e.r, e.o + i * e.R, none⟩ := k3.elim (fun h => absurd h (by omega)) id
        obtain ⟨ys, h1, h2, h3⟩ := g7.read hle
        have hlen : ((rs.drop i).take (n + 1)).length = n + 1 := by simp; omega
        refine ⟨_, ys, hk2, by rw [hlen]; rfl, fun w2 hw2 => ?_, h1, fun row hrow => ?_, fun v hv => ?_⟩
        · rw [hlen]
          refine run_firstCells_some w2 size (n + 1) x _ _ ys (by rw [h2]; congr 1; omega) fun j v hv => ?_
          rw [hx, add_mk, cell_at (w := w2) (by rw [hw2]; exact g1), g3]
          exact h3 j v hv
        · have := g7.lens row (List.mem_of_mem_drop (List.mem_of_mem_take hrow)); omega
        · obtain ⟨j, hj⟩ := List.mem_iff_getElem?.1 hv
          rcases g8 with g8 | ⟨_, g8⟩
          · exact g8 _ _ (h3 j v hj)
          · have hjl := (List.getElem?_eq_some_iff.1 hj).1
            have hb1 : (i + (n + 1)) * R1 ≤ rs.length * R1 := Nat.mul_le_mul_right _ hle
            rw [Nat.add_mul] at hb1
            exact g8 _ _ (by omega) (by omega) (h3 j v hj)
  · rename_i s
    simp only [VR] at hx; subst hx
    have := hstr s rfl; subst this
    refine ⟨bytesRows s, s.data.toList.map fun b => Value.int .u8 b.toNat, hk, ?_, fun w2 _ => ?_, bytes_rel _, fun row hrow => ?_, fun v hv => ?_⟩
    · simp only [Builtin.lenOf, Sem.run_pure, bytesRows]
      simp
    · simp only [Builtin.firstCells, Sem.run_pure]
      have : s.extract 0 (bytesRows s).length = s := by
        have : (bytesRows s).length = s.size := by simp [bytesRows]
        rw [this]; exact ByteArray.extract_zero_size
      rw [this]
      congr 1
      apply Array.ext'
      simp
    · simp [bytesRows] at hrow
      obtain ⟨b, _, rfl⟩ := hrow; rfl
    · simp at hv
      obtain ⟨b, _, rfl⟩ := hv; rfl
  · cases hk

/-- what stands behind an append: a slice's rows, a text's bytes, or so many zeros -/
def Src (P : Program) (w : World) (i : TypeInfo) (z : Value) (du : TypeDesc) (x : Value) (n : Nat) (news : List Value) : Prop :=
  (((∃ e', du = .slice e') ∨ du = .string) ∧ (Builtin.lenOf x).run P w = .ok n w ∧ ∀ w2 : World, w2.heap = w.heap → (Builtin.firstCells i.size n x).run P w2 = .ok news.toArray w2) ∨
  (∃ k, du = .int k ∧ x = .int .i64 (n : Int) ∧ (n : Int) * i.bytes ≤ 140737488355328 ∧ 0 < i.bytes ∧ z.cells.size = i.size ∧ news = (Builtin.zeroCells z.cells n).toList)

/-- append, in the model -/
theorem zeros_none {z : Value} {n size : Nat} (hz : z.cells.size = size) (h : n * size = 0) : Builtin.zeroCells z.cells n = #[] := by
  unfold Builtin.zeroCells; rw [hz, h]; simp
theorem append_place {t u ty e : TypeId} {i : TypeInfo} {x z : Value} {p : Option Addr} {len cc n : Nat} {news : List Value} (ht : P.underlying t = some (.slice e)) {du : TypeDesc} (hu : P.underlying u = some du) (hi : P.info? e = some i) (hz : i.zero = some z)
    (hsrc : Src P w i z du x n news) (hle : len + n ≤ cc) {w' : World}
    (hst : (match p with | some a => storeCells (a.add (len * i.size)) news | none => pure () : Sem Unit).run P w = .ok () w') :
    (Builtin.append_ #[t, u] ty #[.slice p len cc, x]).run P w = .ok (.slice p (len + n) cc) w' := by
  rcases hsrc with ⟨hdu, hlen, hfc⟩ | ⟨k, rfl, rfl, hb, hb0, hzs, rfl⟩
  · have hfc := hfc w rfl
    cases p with
    | none =>
      have hst : w = w' := by simpa using hst
      subst hst
      rcases hdu with ⟨e', rfl⟩ | rfl <;> simp [Builtin.append_, run_underlying ht, run_underlying hu, sizeOf, typeInfo, hi, hlen, hle, hfc]
    | some p =>
      simp only at hst
      rcases hdu with ⟨e', rfl⟩ | rfl <;> simp [Builtin.append_, run_underlying ht, run_underlying hu, sizeOf, typeInfo, hi, hlen, hle, hfc, hst]
  · have hn1 : (n : Int) ≤ (n : Int) * i.bytes := by
      have : n * 1 ≤ n * i.bytes := Nat.mul_le_mul_left n hb0
      have h2 : ((n * i.bytes : Nat) : Int) = (n : Int) * i.bytes := by push_cast; rfl
      omega
    have hwr : IntKind.i64.wrap (n : Int) = n := IntWalk.i64_in _ ⟨by omega, by omega⟩
    have h48 : ¬ (281474976710656 < (n : Int) * i.bytes) := by omega
    have hn0 : ¬ ((n : Int) < 0) := by omega
    cases p with
    | none =>
      have hst : w = w' := by simpa using hst
      subst hst
      by_cases h0 : n * i.size = 0
      · simp [Builtin.append_, run_underlying ht, run_underlying hu, sizeOf, typeInfo, zeroValue, hi, hz, hle, asInt, asIntOf, hwr, h48, hn0, h0]
      · simp [Builtin.append_, run_underlying ht, run_underlying hu, sizeOf, typeInfo, zeroValue, hi, hz, hle, asInt, asIntOf, hwr, h48, hn0, h0]
    | some p =>
      simp only at hst
      by_cases h0 : n * i.size = 0
      · rw [zeros_none hzs h0] at hst
        simp [Builtin.append_, run_underlying ht, run_underlying hu, sizeOf, typeInfo, zeroValue, hi, hz, hle, asInt, asIntOf, hwr, h48, hn0, h0, hst]
      · simp [Builtin.append_, run_underlying ht, run_underlying hu, sizeOf, typeInfo, zeroValue, hi, hz, hle, asInt, asIntOf, hwr, h48, hn0, h0, hst]
theorem append_grow {t u ty e : TypeId} {i : TypeInfo} {z x : Value} {p : Option Addr} {len cc n : Nat} {olds news : List Value} (ht : P.underlying t = some (.slice e)) {du : TypeDesc} (hu : P.underlying u = some du) (hi : P.info? e = some i) (hz : i.zero = some z)
    (hsrc : Src P w i z du x n news) (hfo : (Builtin.firstCells i.size len (.slice p len cc)).run P w.drew = .ok olds.toArray w.drew) (hg : cc < len + n) (hb : 0 < i.bytes) (hfit : (len + n) * i.bytes ≤ 140737488355328) :
    (Builtin.append_ #[t, u] ty #[.slice p len cc, x]).run P w = .ok (.slice (some ⟨w.heap.size, 0, none⟩) (len + n) (grownCap w (len + n) cc e))
        (w.drew.alloc (.cells (olds.toArray ++ news.toArray ++ Builtin.zeroCells z.cells (grownCap w (len + n) cc e - (len + n))) e)) := by
  have hn : ¬ (len + n ≤ cc) := by omega
  have h48 := growslice_fits hg hfit
  have h48' : ¬ (281474976710656 < Builtin.nextslicecap (len + n) cc * i.bytes) := by omega
  have hb0 : i.bytes ≠ 0 := by omega
  rcases hsrc with ⟨hdu, hlen, hfc⟩ | ⟨k, rfl, rfl, hb1, _, hzs, rfl⟩
  · have hfc := hfc w.drew rfl
    rcases hdu with ⟨e', rfl⟩ | rfl <;>
      simp [Builtin.append_, run_underlying ht, run_underlying hu, sizeOf, typeInfo, zeroValue, hi, hz, hlen, hn, hb0, h48', Question.forced, hfc, hfo, newRow, grownCap] <;>
      (congr 2; apply Array.ext'; simp [List.append_assoc])
  · have hn1 : (n : Int) ≤ (n : Int) * i.bytes := by
      have : n * 1 ≤ n * i.bytes := Nat.mul_le_mul_left n hb
      have h2 : ((n * i.bytes : Nat) : Int) = (n : Int) * i.bytes := by push_cast; rfl
      omega
    have hwr : IntKind.i64.wrap (n : Int) = n := IntWalk.i64_in _ ⟨by omega, by omega⟩
    have h482 : ¬ (281474976710656 < (n : Int) * i.bytes) := by omega
    have hn0 : ¬ ((n : Int) < 0) := by omega
    have hmax : ¬ ((9223372036854775807 : Int) < ((len + n : Nat) : Int)) := by
      have : (len + n) * 1 ≤ (len + n) * i.bytes := Nat.mul_le_mul_left _ hb
      omega
    by_cases h0 : n * i.size = 0
    · rw [zeros_none hzs h0]
      simp [Builtin.append_, run_underlying ht, run_underlying hu, sizeOf, typeInfo, zeroValue, hi, hz, asInt, asIntOf, hwr, h482, hn0, h0, hn, hb0, h48', Question.forced, hfo, newRow, grownCap, -Int.natCast_add, hmax]
    · simp [Builtin.append_, run_underlying ht, run_underlying hu, sizeOf, typeInfo, zeroValue, hi, hz, asInt, asIntOf, hwr, h482, hn0, h0, hn, hb0, h48', Question.forced, hfo, newRow, grownCap, -Int.natCast_add, hmax]
theorem grownCap_le {w : World} {need old : Nat} {e : TypeId} : need ≤ grownCap w need old e := by simp [grownCap, Question.cut]

/-- What a builtin does. -/
def DoesB (P : Program) (lo base : Nat) (ρ : Rho) (β : Bet) (σ : St) (w : World) (run : Sem Value) (k : V → Heap → Option R) (r : R) : Prop :=
  ∃ c w' v h', run.run P w = .ok c w' ∧ k v h' = some r ∧ Fine lo base ρ β σ w v { σ with h := h' } c w'

theorem app_run (hB : base ≤ w.heap.size) (hh : HRel ρ σ.h w) (hf : FRel ρ β σ.bx w) {t u ty e : TypeId} {i : TypeInfo} {z x sv : Value} {s : V} {xs : List (List V)} {news : List Value} {k : V → Heap → Option R}
    (hk : app lo e i.size i.bytes s xs σ.h k = some r) (hs : VR ρ s sv)
    (ht : P.underlying t = some (.slice e)) {du : TypeDesc} (hu : P.underlying u = some du) (hi : P.info? e = some i) (hz : i.zero = some z) (hzs : z.cells.size = i.size) (hzo : OneCells z.cells)
    (hsrc : Src P w i z du x xs.length news) (hv : VRs ρ xs.flatten news) (hl : ∀ row ∈ xs, row.length = i.size) (hone : ∀ v ∈ news, v.oneCell' = true) :
    DoesB P lo base ρ β σ w (Builtin.append_ #[t, u] ty #[sv, x]) k r := by
  unfold app at hk
  split at hk
  · rename_i R' a len cap
    split at hk
    · -- nothing to append
      have hn : news = [] := by simpa [VRs] using hv
      subst hn
      have : ∃ p l c, sv = .slice p l c ∧ l ≤ c := by
        cases a with
        | none => simp only [VR] at hs; obtain ⟨_, _, rfl⟩ := hs; exact ⟨_, _, _, rfl, Nat.le_refl _⟩
        | some q => obtain ⟨b, j⟩ := q; simp only [VR] at hs; obtain ⟨_, _, _, _, _, rfl, _, h4, _⟩ := hs; exact ⟨_, _, _, rfl, h4⟩
      obtain ⟨p, l, c, rfl, hle⟩ := this
      refine ⟨_, w, _, _, append_place (w' := w) ht hu hi hz hsrc (by simpa using hle) ?_, hk, Fine.same hh hf (SV.of hs)⟩
      cases p <;> rfl
    · rename_i x0 xs0
      obtain ⟨hb0, hk1⟩ := need_some hk
      obtain ⟨hfit, hk2⟩ := need_some hk1
      have hb0 : 0 < i.bytes := by simpa [Nat.blt_eq] using hb0
      have hfit := of_decide_eq_true hfit
      unfold maxBytes at hfit
      have hpos : 0 < (x0 :: xs0).length := by simp
      generalize x0 :: xs0 = xs at hk2 hfit hpos hsrc hv hl
      -- a new row, behind 'h0'
      have grow : ∀ (h0 : Heap) (p : Option Addr) (cc len : Nat) (old : List (List V)) (olds : List Value), sv = .slice p len cc → HRel ρ h0 w → Ext lo w.heap.size ρ σ.h w ρ h0 w → (len + xs.length) * i.bytes ≤ 140737488355328 →
          (Builtin.firstCells i.size len (.slice p len cc)).run P w.drew = .ok olds.toArray w.drew → VRs ρ old.flatten olds → (∀ row ∈ old, row.length = i.size) → (∀ v ∈ olds, v.oneCell' = true) → old.length = len → cc < len + xs.length →
          k (.sl i.size (some (h0.length, 0)) (len + xs.length) none) (h0 ++ [.rows i.size e false (old ++ xs)]) = some r → DoesB P lo base ρ β σ w (Builtin.append_ #[t, u] ty #[sv, x]) k r := by
        intro h0 p cc len old olds hsv hh0 hx0 hfit hfo hov hol hoo hoL hg hk
        subst hsv
        have hrun := append_grow (ty := ty) ht hu hi hz hsrc hfo hg hb0 hfit
        have hfl := flat_length hol
        have hfl2 := flat_length hl
        have e1 := hov.length
        have e2 := hv.length
        have hcap := grownCap_le (w := w) (need := len + xs.length) (old := cc) (e := e)
        generalize hC : grownCap w (len + xs.length) cc e = C at hrun hcap
        have hrl : (old ++ xs).length = len + xs.length := by simp [hoL]
        have hzl : (Builtin.zeroCells z.cells (C - (len + xs.length))).size = (C - (len + xs.length)) * i.size := by simp [Builtin.zeroCells, hzs]
        have hcs : (olds.toArray ++ news.toArray ++ Builtin.zeroCells z.cells (C - (len + xs.length))).size = C * i.size := by
          simp only [Array.size_append, List.size_toArray, hzl, ← e1, ← e2, hfl, hfl2, hoL]
          rw [← Nat.add_mul, ← Nat.add_mul]; congr 1; omega
        have hfine := fine_new (base := base) (lo := lo) (σ := σ) hB hh0 hf hx0 (e := e) (rows := old ++ xs) (cells := olds.toArray ++ news.toArray ++ Builtin.zeroCells z.cells (C - (len + xs.length))) (size := i.size) (m := C)
          (RowsR.flat (fun row hr => by
              rcases List.mem_append.1 hr with h | h
              · exact hol row h
              · exact hl row h) fun j v hj => by
            rw [List.flatten_append] at hj
            obtain ⟨y, h1, h2⟩ := (hov.append hv).get j v hj
            refine ⟨y, ?_, h2⟩
            have hj2 : j < (olds ++ news).length := (List.getElem?_eq_some_iff.1 h1).1
            have hsz : j < (olds.toArray ++ news.toArray).size := by simpa using hj2
            rw [Nat.zero_add, Array.getElem?_append_left hsz]
            have h3 : (olds.toArray ++ news.toArray)[j]? = (olds ++ news)[j]? := by simp
            rw [h3]; exact h1)
          (OneCells.of_list fun v hv' => by
            simp only [Array.toList_append, List.mem_append] at hv'
            rcases hv' with (h | h) | h
            · exact hoo v h
            · exact hone v h
            · simp only [Builtin.zeroCells, Array.mem_toList_iff, Array.mem_map] at h
              obtain ⟨q, h1, rfl⟩ := h
              have hq : q < (C - (len + xs.length)) * z.cells.size := by simpa using h1
              have hp : 0 < z.cells.size := Nat.pos_of_ne_zero fun h => by rw [h] at hq; simp at hq
              have hlt : q % z.cells.size < z.cells.size := Nat.mod_lt _ hp
              exact hzo (q % z.cells.size) _ (by rw [getElem!_def, Array.getElem?_eq_getElem hlt]))
          (by rw [hcs]; exact Nat.le_refl _) (by rw [hrl]; exact hcap)
        rw [hrl] at hfine
        exact ⟨_, _, _, _, hrun, hk, hfine⟩
      cases a with
      | none =>
        simp only [VR] at hs
        obtain ⟨rfl, _, hsv⟩ := hs
        refine grow σ.h none 0 0 [] [] hsv hh (Ext.refl _ _ _ _ _) hfit rfl VRs.nil (by simp) (by simp) rfl (by omega) ?_
        simp only at hk2
        simpa using hk2
      | some q =>
        obtain ⟨b, j⟩ := q
        simp only at hk2
        obtain ⟨hr, hk3⟩ := need_some hk2
        have hr := Nat.eq_of_beq_eq_true hr
        simp only [VR] at hs
        obtain ⟨e1, p1, cc, k1, k2, hsv, k3, k4, k5, k6⟩ := hs
        have heR : e1.R = i.size := by omega
        have old : ∀ xs', ldRows σ.h b j len = some xs' → ∃ olds : List Value, (Builtin.firstCells i.size len (.slice (some p1) len cc)).run P w.drew = .ok olds.toArray w.drew ∧ VRs ρ xs'.flatten olds ∧ (∀ row ∈ xs', row.length = i.size) ∧ (∀ v ∈ olds, v.oneCell' = true) ∧ xs'.length = len := by
          intro xs' hld
          obtain ⟨R1, el, ro, rs, hkb, hle, rfl⟩ := ldRows_some hld
          obtain ⟨cs, fr, g1, g2, g3, g4, g5, g6, g7, g8⟩ := hh.blk b e1 _ k1 hkb
          obtain ⟨ys, h1, h2, h3⟩ := g7.read hle
          refine ⟨ys, ?_, h1, fun row hrow => ?_, fun v hv => ?_, by simp; omega⟩
          · by_cases hl0 : len = 0
            · subst hl0
              have : ys = [] := by
                have : ys.length = 0 := by simpa using h2
                exact List.eq_nil_of_length_eq_zero this
              subst this
              simp [Builtin.firstCells, loadCells, loadCellsFrom]
            · have hx : p1 = ⟨e1.r, e1.o + j * e1.R, none⟩ := k3.elim (fun h => absurd h (by omega)) id
              refine run_firstCells_some w.drew i.size len p1 _ _ ys (by rw [h2]; congr 1; omega) fun q v hv => ?_
              rw [hx, add_mk, cell_at (w := w.drew) g1, g3]
              exact h3 q v hv
          · have := g7.lens row (List.mem_of_mem_drop (List.mem_of_mem_take hrow)); omega
          · obtain ⟨q, hq⟩ := List.mem_iff_getElem?.1 hv
            rcases g8 with g8 | ⟨_, g8⟩
            · exact g8 _ _ (h3 q v hq)
            · have hjl := (List.getElem?_eq_some_iff.1 hq).1
              have hb1 : (j + len) * R1 ≤ rs.length * R1 := Nat.mul_le_mul_right _ hle
              rw [Nat.add_mul] at hb1
              exact g8 _ _ (by omega) (by omega) (h3 q v hq)
        have place : ∀ h', stRows lo σ.h b (j + len) xs = some h' → len + xs.length ≤ cc → k (.sl i.size (some (b, j)) (len + xs.length) cap) h' = some r → DoesB P lo base ρ β σ w (Builtin.append_ #[t, u] ty #[sv, x]) k r := by
          intro h' hst hle hk
          have hx : p1 = ⟨e1.r, e1.o + j * e1.R, none⟩ := k3.elim (fun h => absurd h (by omega)) id
          obtain ⟨w', s1, s2, s3⟩ := stRows_run (P := P) hh k1 hst (fun row hrow => by rw [heR]; exact hl row hrow) hv hone
          subst hsv
          refine ⟨_, w', _, _, append_place (w' := w') ht hu hi hz hsrc hle ?_, hk, ρ, β, rfl, SV.of ?_, s2, hf.ext s3, s3.weaken (Nat.le_refl _) hB, Ble.refl _, fun t r h1 h2 => (by rw [h1] at h2; cases h2), noBx⟩
          · simp only
            rw [hx, add_mk, ← heR]
            rw [show e1.o + j * e1.R + len * e1.R = e1.o + (j + len) * e1.R by rw [Nat.add_mul]; omega]
            exact s1
          · simp only [VR]
            exact ⟨e1, p1, cc, k1, heR, rfl, .inr hx, hle, k5, k6⟩
        cases cap with
        | some c =>
          simp only at hk3
          have := k5 c rfl; subst this
          split at hk3
          · rename_i hle
            obtain ⟨h', hst, hk4⟩ := eO_some hk3
            exact place h' hst (Nat.le_of_ble_eq_true hle) hk4
          · rename_i hle
            obtain ⟨xs', hld, hk4⟩ := eO_some hk3
            obtain ⟨olds, o1, o2, o3, o4, o5⟩ := old xs' hld
            exact grow σ.h (some p1) cc len xs' olds hsv hh (Ext.refl _ _ _ _ _) hfit o1 o2 o3 o4 o5 (Nat.lt_of_not_le fun h => by rw [Nat.ble_eq_true_of_le h] at hle; cases hle) hk4
        | none =>
          simp only at hk3
          obtain ⟨rs, hown, hk4⟩ := eO_some hk3
          obtain ⟨R1, hkb, hlo⟩ := own_some hown
          obtain ⟨cs, fr, g1, g2, g3, g4, g5, g6, g7, g8⟩ := hh.blk b e1 _ k1 hkb
          obtain ⟨m1, m2⟩ := k6 rfl
          split at hk4
          · rename_i hle
            have hle := Nat.le_of_ble_eq_true hle
            obtain ⟨h', hst, hk5⟩ := eO_some hk4
            exact place h' hst (by omega) hk5
          · obtain ⟨hj, hk5⟩ := need_some hk4
            have hj := Nat.eq_of_beq_eq_true hj
            subst hj
            obtain ⟨xs', hld, hk6⟩ := eO_some hk5
            obtain ⟨olds, o1, o2, o3, o4, o5⟩ := old xs' hld
            have hkill := hh.kill hkb
            by_cases hg : cc < len + xs.length
            · refine grow (σ.h.set b .dead) (some p1) cc len xs' olds hsv hkill (Ext.kill _ hlo) hfit o1 o2 o3 o4 o5 hg ?_
              simpa using hk6
            · have hle : len + xs.length ≤ cc := by omega
              have hx : p1 = ⟨e1.r, 0, none⟩ := k3.elim (fun h => absurd h (by omega)) (fun h => by rw [h, m2]; simp)
              obtain ⟨rfl, ho⟩ := g2 rfl
              have hqlt : e1.r < w.heap.size := (hh.dom b e1 k1).2
              obtain ⟨ys, h1, h2, h3⟩ := g7.read (i := 0) (n := len) (by
                obtain ⟨R2, el2, ro2, rs2, hkb2, hle2, _⟩ := ldRows_some hld
                rw [hkb] at hkb2; injection hkb2 with hkb2; injection hkb2 with _ _ _ h4; subst h4; exact hle2)
              have hxs' : xs' = (rs.drop 0).take len := by
                obtain ⟨R2, el2, ro2, rs2, hkb2, hle2, h5⟩ := ldRows_some hld
                rw [hkb] at hkb2; injection hkb2 with hkb2; injection hkb2 with _ _ _ h4; subst h4; exact h5
              rw [← hxs'] at h1
              have hfl2 := flat_length hl
              have e2 := hv.length
              have hR1 : R1 = i.size := by omega
              have hbig : (len + xs.length) * i.size ≤ e1.m * R1 := by rw [hR1]; exact Nat.mul_le_mul_right _ (by omega)
              rw [Nat.add_mul] at hbig
              have hrun := run_storeCells' (P := P) news w e1.r (len * i.size) 0 cs e g1 (by omega) hone
              have s1 : (storeCells (p1.add (len * i.size)) news).run P w = .ok () (setBlk w e1.r (.cells (putL cs (len * i.size) news) e (0, 0))) := by rw [hx, add_mk, Nat.zero_add]; exact hrun
              subst hsv
              have hadopt : HRel (ρ.set (σ.h.set b .dead).length ⟨e1.r, 0, i.size, len + xs.length, e1.m⟩) (σ.h.set b .dead ++ [.rows i.size e false (xs' ++ xs)]) (setBlk w e1.r (.cells (putL cs (len * i.size) news) e (0, 0))) := by
                refine hkill.adopt _ ⟨e1.r, 0, i.size, len + xs.length, e1.m⟩ (by rw [setBlk_size]; exact Nat.le_refl _) (by rw [setBlk_size]; exact hqlt) (fun r' _ hr' => setBlk_other hr') (fun b' e' hb' he' => ?_) ?_
                · have d1 := (hh.dom b' e' hb').1
                  by_cases hbb : b' = b
                  · subst hbb; unfold isDead; rw [List.getElem?_set_self d1]
                  · have : isDead σ.h b' := by
                      rcases hh.inj b b' e1 e' k1 hb' he'.symm (Ne.symm hbb) with h | h | ⟨h, _⟩
                      · rw [isDead, hkb] at h; cases h
                      · exact h
                      · exact absurd h (not_ro hkb)
                    unfold isDead at *; rw [List.getElem?_set_ne (Ne.symm hbb)]; exact this
                · refine ⟨putL cs (len * i.size) news, (0, 0), setBlk_same hqlt, fun _ => ⟨rfl, rfl⟩, rfl, by simp [o5], (show len + xs.length ≤ e1.m by omega), (show 0 + e1.m * i.size ≤ _ by rw [putL_size]; rw [hR1] at g6; omega), ?_, .inl (putL_one (g8.resolve_right fun h => by cases h.1) hone)⟩
                  have hsub : Rle ρ (ρ.set (σ.h.set b .dead).length ⟨e1.r, 0, i.size, len + xs.length, e1.m⟩) := Rho.set_le hkill.fresh
                  refine RowsR.flat (fun row hrow => ?_) fun q v hq => ?_
                  · rcases List.mem_append.1 hrow with h | h
                    · exact o3 row h
                    · exact hl row h
                  · rw [List.flatten_append] at hq
                    have hol := flat_length o3
                    rw [o5] at hol
                    by_cases hq1 : q < len * i.size
                    · rw [List.getElem?_append_left (by omega)] at hq
                      obtain ⟨y, z1, z2⟩ := h1.get q v hq
                      refine ⟨y, ?_, z2⟩
                      rw [Nat.zero_add, putL_out _ _ _ _ (.inl hq1)]
                      have := h3 q y z1
                      rw [ho] at this; simpa using this
                    · rw [List.getElem?_append_right (by omega)] at hq
                      obtain ⟨y, z1, z2⟩ := hv.get _ v hq
                      refine ⟨y, ?_, z2⟩
                      have hlt : q - xs'.flatten.length < news.length := (List.getElem?_eq_some_iff.1 z1).1
                      rw [Nat.zero_add, show q = len * i.size + (q - xs'.flatten.length) by omega, putL_in _ _ _ _ (by omega) (by omega)]
                      exact z1
              have hext : Ext lo w.heap.size ρ σ.h w (ρ.set (σ.h.set b .dead).length ⟨e1.r, 0, i.size, len + xs.length, e1.m⟩) (σ.h.set b .dead ++ [.rows i.size e false (xs' ++ xs)]) (setBlk w e1.r (.cells (putL cs (len * i.size) news) e (0, 0))) := by
                refine ⟨Rho.set_le hkill.fresh, fun b' e' n1 n2 => ?_, fun r' hr' hfr => setBlk_other (fun h => hfr b e1 k1 hlo h.symm), by rw [setBlk_size]; exact Nat.le_refl _, rfl, rfl, rfl, by simp, fun x hx1 hx2 => ?_, fun x hx1 hx2 => ?_⟩
                · by_cases hx : b' = (σ.h.set b .dead).length
                  · subst hx; rw [Rho.set_same] at n2; injection n2 with n2; subst n2
                    exact ⟨by simp, .inr ⟨b, e1, k1, hlo, rfl⟩⟩
                  · rw [Rho.set_other hx, n1] at n2; cases n2
                · rw [List.getElem?_append_left (by simpa using hx2), List.getElem?_set_ne (by omega)]
                · have : x = (σ.h.set b .dead).length := by simp at hx2 ⊢; omega
                  subst this; exact ⟨_, Rho.set_same _ _ _⟩
              refine ⟨_, _, _, _, append_place (w' := setBlk w e1.r (.cells (putL cs (len * i.size) news) e (0, 0))) ht hu hi hz hsrc hle s1, hk6, _, β, rfl, SV.of ?_, hadopt, hf.ext hext, hext.weaken (Nat.le_refl _) hB, Ble.refl _, fun t r h1 h2 => (by rw [h1] at h2; cases h2), noBx⟩
              simp only [VR]
              refine ⟨⟨e1.r, 0, i.size, len + xs.length, e1.m⟩, p1, cc, ?_, rfl, rfl, .inr (by rw [hx]; simp), hle, (fun y hy => by cases hy), fun _ => ⟨by simp; omega, rfl⟩⟩
              have : σ.h.length = (σ.h.set b .dead).length := by simp
              rw [this]; exact Rho.set_same _ _ _
  · cases hk

theorem maxI_run : ∀ (vs : List V) (m : Int) (cs : List Value) (kk : V → Option R), VRs ρ vs cs → maxI vs m kk = some r → ∃ M, (cs.foldlM Builtin.max2 (.int .i64 m)).run P w = .ok (.int .i64 M) w ∧ kk (.int .i64 M) = some r
  | [], m, cs, kk, h, hk => by simp only [VRs] at h; subst h; exact ⟨m, rfl, hk⟩
  | v :: vs, m, cs, kk, h, hk => by
    simp only [maxI] at hk
    obtain ⟨n, rfl, hk1⟩ := eI_some hk
    simp only [VRs] at h
    obtain ⟨y, r', rfl, h1, h2⟩ := h
    simp only [VR] at h1; subst h1
    obtain ⟨M, q1, q2⟩ := maxI_run vs _ r' kk h2 hk1
    exact ⟨M, by simp [List.foldlM_cons, Builtin.max2, q1], q2⟩
theorem minI_run : ∀ (vs : List V) (m : Int) (cs : List Value) (kk : V → Option R), VRs ρ vs cs → minI vs m kk = some r → ∃ M, (cs.foldlM Builtin.min2 (.int .i64 m)).run P w = .ok (.int .i64 M) w ∧ kk (.int .i64 M) = some r
  | [], m, cs, kk, h, hk => by simp only [VRs] at h; subst h; exact ⟨m, rfl, hk⟩
  | v :: vs, m, cs, kk, h, hk => by
    simp only [minI] at hk
    obtain ⟨n, rfl, hk1⟩ := eI_some hk
    simp only [VRs] at h
    obtain ⟨y, r', rfl, h1, h2⟩ := h
    simp only [VR] at h1; subst h1
    obtain ⟨M, q1, q2⟩ := minI_run vs _ r' kk h2 hk1
    exact ⟨M, by simp [List.foldlM_cons, Builtin.min2, q1], q2⟩

theorem do_builtin (hB : base ≤ w.heap.size) (hX : X.ty = tyOf P) (hs : SRel ρ β σ.s a) (hh : HRel ρ σ.h w) (hf : FRel ρ β σ.bx w) {b : Builtin} {ts : Array TypeId} {ty : TypeId} {cts : Array Bool} {vs : List V} {args : Array Value} (hv : VRs ρ vs args.toList)
    {k : V → Heap → Option R} (hk : bltn X lo b ts.toList vs σ.h k = some r) : ∃ c w' v h', (builtin b ts ty cts args).run P w = .ok (.value c) w' ∧ k v h' = some r ∧ Fine lo base ρ β σ w v { σ with h := h' } c w' := by
  obtain ⟨args⟩ := args
  obtain ⟨ts⟩ := ts
  simp only at hv hk
  have pure1 : ∀ {v : V} {c : Value} {s : Sem Value}, s.run P w = .ok c w → VR ρ v c → k v σ.h = some r → (builtin b ⟨ts⟩ ty cts ⟨args⟩).run P w = .ok (.value c) w → ∃ c w' v h', (builtin b ⟨ts⟩ ty cts ⟨args⟩).run P w = .ok (.value c) w' ∧ k v h' = some r ∧ Fine lo base ρ β σ w v { σ with h := h' } c w' :=
    fun h1 h2 h3 h4 => ⟨_, w, _, _, h4, h3, Fine.same hh hf (SV.of h2)⟩
  have one : ∀ {v : V}, VRs ρ [v] args → ∃ c, args = [c] ∧ VR ρ v c := fun h => by
    simp only [VRs] at h
    obtain ⟨y, r', rfl, h1, rfl⟩ := h
    exact ⟨y, rfl, h1⟩
  unfold bltn at hk
  rw [hX] at hk
  split at hk
  · -- len
    split at hk
    · rename_i v t
      obtain ⟨c, rfl, hc⟩ := one hv
      split at hk
      · rename_i s
        obtain ⟨h1, hk1⟩ := need_some hk
        obtain ⟨d, hd, rfl⟩ := one_of h1
        simp only [VR] at hc; subst hc
        exact pure1 (s := pure (goInt s.size)) rfl VR.int' hk1 (by simp [builtin, Builtin.len_, run_underlying hd])
      · rename_i R' p n cc
        split at hk
        · rename_i e hty
          have hu := slice_of hty
          have : ∃ q k, c = .slice q n k := by
            cases p with
            | none => simp only [VR] at hc; obtain ⟨rfl, _, rfl⟩ := hc; exact ⟨_, _, rfl⟩
            | some q => obtain ⟨b, j⟩ := q; simp only [VR] at hc; obtain ⟨_, _, _, _, _, rfl, _⟩ := hc; exact ⟨_, _, rfl⟩
          obtain ⟨q, k', rfl⟩ := this
          exact pure1 (s := pure (goInt n)) rfl VR.int' hk (by simp [builtin, Builtin.len_, run_underlying hu])
        · cases hk
      · rename_i m
        split at hk
        · rename_i q e hty
          have hu := map_of hty
          obtain ⟨b', rfl, hk1⟩ := eO_some hk
          obtain ⟨kv, hkv, hk2⟩ := eO_some hk1
          obtain ⟨t', hkv⟩ := kv_some hkv
          simp only [VR] at hc
          obtain ⟨e1, k1, rfl⟩ := hc
          obtain ⟨es, clock, g1, g2⟩ := hh.blk b' e1 _ k1 hkv
          have hl := g2.length
          simp at hl
          exact pure1 (s := pure (goInt kv.length)) rfl VR.int' hk2 (by simp [builtin, Builtin.len_, run_underlying hu, getObj_run g1, hl])
        · cases hk
      · split at hk
        · rename_i n e hty
          obtain ⟨hu, _, _⟩ := array_of hty
          exact pure1 (s := pure (goInt n)) rfl VR.int' hk (by simp [builtin, Builtin.len_, run_underlying hu])
        · rename_i e hty
          have hu := pointer_of hty
          split at hk
          · rename_i n e' hty'
            obtain ⟨hu', _, _⟩ := array_of hty'
            exact pure1 (s := pure (goInt n)) rfl VR.int' hk (by simp [builtin, Builtin.len_, run_underlying hu, run_underlying hu'])
          · cases hk
        · cases hk
    · cases hk
  · -- cap
    split at hk
    · rename_i R' p n cc0 t
      obtain ⟨c, rfl, hc⟩ := one hv
      split at hk
      · rename_i e hty
        have hu := slice_of hty
        obtain ⟨cc, rfl, hk⟩ := eO_some hk
        have : ∃ q, c = .slice q n cc := by
          cases p with
          | none => simp only [VR] at hc; obtain ⟨rfl, h, rfl⟩ := hc; injection h with h; subst h; exact ⟨_, rfl⟩
          | some q => obtain ⟨b, j⟩ := q; simp only [VR] at hc; obtain ⟨_, _, _, _, _, rfl, _, _, h, _⟩ := hc; have := h _ rfl; subst this; exact ⟨_, rfl⟩
        obtain ⟨q, rfl⟩ := this
        exact pure1 (s := pure (goInt cc)) rfl VR.int' hk (by simp [builtin, Builtin.cap_, run_underlying hu])
      · cases hk
    · cases hk
  · -- append
    split at hk
    · rename_i s x t u
      simp only [VRs] at hv
      obtain ⟨cs, r1, rfl, h1, cx, r2, rfl, h2, rfl⟩ := hv
      split at hk
      · rename_i e hty
        have hu := slice_of hty
        obtain ⟨hz, hk1⟩ := need_some hk
        simp only [Bool.and_eq_true] at hz
        obtain ⟨⟨hkn, hz⟩, hfm⟩ := hz
        obtain ⟨i, z, hi, hzz, hsz, e1, e2, e3⟩ := zero_of hz hfm
        obtain ⟨i', d', hi', hd', _, hby, _⟩ := known_of hkn
        rw [hi] at hi'; injection hi' with hi'; subst hi'
        have hzone : OneCells z.cells := OneCells.of_list (one_of_firms (e3 ρ) hfm)
        have fin : DoesB P lo base ρ β σ w (Builtin.append_ #[t, u] ty #[cs, cx]) (fun v h => eS i.size v fun a n c => k (.sl i.size a n c) h) r →
            ∃ c w' v h', (builtin .append ⟨[t, u]⟩ ty cts ⟨[cs, cx]⟩).run P w = .ok (.value c) w' ∧ k v h' = some r ∧ Fine lo base ρ β σ w v { σ with h := h' } c w' := by
          rintro ⟨c, w', v, h', q1, q2, q3⟩
          obtain ⟨q', a', n', c', rfl, hq, hk3⟩ := eS_some q2
          refine ⟨c, w', _, h', ?_, hk3, ?_⟩
          · show (Sem.run P (do pure (Next.value (← Builtin.append_ #[t, u] ty #[cs, cx]))) w) = _
            simp only [Sem.run_bind, q1, Result.andThen_ok, Sem.run_pure]
          · obtain ⟨ρ', β', z1, z2, z3⟩ := q3
            refine ⟨ρ', β', z1, ?_, z3⟩
            rcases hq with rfl | rfl
            · exact SV.of (by have := z2.ok rfl; simpa [VR] using this)
            · exact z2
        have go : ∀ {du : TypeDesc}, P.underlying u = some du → ((∃ e', du = .slice e') ∨ du = .string) → (∀ s, x = .str s → (tyOf P e).size = 1) →
            (rowsOf (tyOf P e).size σ.h x fun xs => app lo e (tyOf P e).size (tyOf P e).bytes s xs σ.h fun v h => eS (tyOf P e).size v fun a n c => k (.sl (tyOf P e).size a n c) h) = some r →
            ∃ c w' v h', (builtin .append ⟨[t, u]⟩ ty cts ⟨[cs, cx]⟩).run P w = .ok (.value c) w' ∧ k v h' = some r ∧ Fine lo base ρ β σ w v { σ with h := h' } c w' := by
          intro du hdu hkind hstr hk
          obtain ⟨xs, news, hk2, o1, o2, o3, o4, o5⟩ := rowsOf_run (P := P) hh hk h2 hstr
          rw [e1] at o2 o4
          rw [e1, hby] at hk2
          refine fin ?_
          exact app_run (ty := ty) hB hh hf hk2 h1 hu hdu hi hzz hsz hzone (.inl ⟨hkind, o1, o2⟩) o3 o4 o5
        split at hk1
        · rename_i e' hty'
          split at hk1
          · exact go (slice_of hty') (.inl ⟨_, rfl⟩) (fun s hs => by cases hs) hk1
          · cases hk1
        · split at hk1
          · rename_i s' 
            obtain ⟨hb, hk2⟩ := need_some hk1
            simp only [Bool.and_eq_true] at hb
            obtain ⟨d, hd, rfl⟩ := one_of hb.1
            exact go hd (.inr rfl) (fun _ _ => Nat.eq_of_beq_eq_true hb.2) hk2
          · rename_i m
            obtain ⟨hb, hk2⟩ := need_some hk1
            obtain ⟨hm, hk3⟩ := need_some hk2
            have hm := of_decide_eq_true hm
            simp only [Bool.and_eq_true] at hb
            obtain ⟨d, hd, rfl⟩ := one_of hb.1
            simp only [VR] at h2; subst h2
            rw [hby] at hm
            have hb0 : 0 < i.bytes := by have := hb.2; rw [hby] at this; simpa [Nat.blt_eq] using this
            obtain ⟨n, rfl⟩ : ∃ n : Nat, m = n := ⟨m.toNat, by omega⟩
            rw [e1, hby, Int.toNat_natCast] at hk3
            refine fin ?_
            have hfl := flat_length (R := z.cells.size) (rs := List.replicate n (tyOf P e).zero) (fun row hr => by rw [List.eq_of_mem_replicate hr, e2, hsz])
            have hvz : VRs ρ (List.replicate n (tyOf P e).zero).flatten (Builtin.zeroCells z.cells n).toList := by
              refine VRs.of_get (by rw [hfl]; simp [Builtin.zeroCells]) fun q v hq => ?_
              obtain ⟨i', j', row, h1, h2, h3⟩ := flat_of_get (R := z.cells.size) (fun row hr => by rw [List.eq_of_mem_replicate hr, e2, hsz]) hq
              have := RowsR.zeros (ρ := ρ) n n (e3 ρ) (Nat.le_refl _)
              obtain ⟨c', h4, h5⟩ := (this i' row h1).2 j' v h2
              refine ⟨c', ?_, h5⟩
              rw [h3, ← h4, Nat.zero_add, Array.getElem?_toList]; rfl
            have hone : ∀ v ∈ (Builtin.zeroCells z.cells n).toList, v.oneCell' = true := fun v hv => by
              have := OneCells.zeros (n * z.cells.size) 0 hzone (fun h => by rw [h]; simp)
              obtain ⟨j, hj⟩ := List.mem_iff_getElem?.1 hv
              exact this j v (by rw [Array.getElem?_toList] at hj; exact hj)
            exact app_run (ty := ty) hB hh hf hk3 h1 hu hd hi hzz hsz hzone (.inr ⟨_, rfl, by simp, by simpa using hm.2, hb0, hsz, by simp⟩) hvz (fun row hr => by rw [List.eq_of_mem_replicate hr, e2]) hone
          · cases hk1
        · cases hk1
      · cases hk
    · cases hk
  · -- max
    split at hk
    · rename_i v vs'
      obtain ⟨m, rfl, hk1⟩ := eI_some hk
      simp only [VRs] at hv
      obtain ⟨y, r', rfl, h1, h2⟩ := hv
      simp only [VR] at h1; subst h1
      obtain ⟨M, q1, q2⟩ := maxI_run (P := P) (w := w) vs' m r' _ h2 hk1
      exact pure1 (s := pure (.int .i64 M)) rfl VR.int' q2 (by simp [builtin, Builtin.max_, q1])
    · cases hk
  · split at hk
    · rename_i v vs'
      obtain ⟨m, rfl, hk1⟩ := eI_some hk
      simp only [VRs] at hv
      obtain ⟨y, r', rfl, h1, h2⟩ := hv
      simp only [VR] at h1; subst h1
      obtain ⟨M, q1, q2⟩ := minI_run (P := P) (w := w) vs' m r' _ h2 hk1
      exact pure1 (s := pure (.int .i64 M)) rfl VR.int' q2 (by simp [builtin, Builtin.min_, q1])
    · cases hk
  · -- clear
    split at hk
    · rename_i R' p n cc t
      obtain ⟨c, rfl, hc⟩ := one hv
      split at hk
      · rename_i e hty
        have hu := slice_of hty
        have fin : ∀ w' h', (builtin .clear ⟨[t]⟩ ty cts ⟨[c]⟩).run P w = .ok (.value (.tuple #[])) w' → k (.tup []) h' = some r → HRel ρ h' w' → Ext lo w.heap.size ρ σ.h w ρ h' w' →
            ∃ c' w' v h', (builtin .clear ⟨[t]⟩ ty cts ⟨[c]⟩).run P w = .ok (.value c') w' ∧ k v h' = some r ∧ Fine lo base ρ β σ w v { σ with h := h' } c' w' :=
          fun w' h' q1 q2 q3 q4 => ⟨_, w', _, h', q1, q2, ρ, β, rfl, SV.of (by simp [VR, VRs]), q3, hf.ext q4, q4.weaken (Nat.le_refl _) hB, Ble.refl _, fun t r h1 h2 => (by rw [h1] at h2; cases h2), noBx⟩
        unfold clr at hk
        split at hk
        · simp only [VR] at hc
          obtain ⟨rfl, _, rfl⟩ := hc
          exact fin w σ.h (by simp [builtin, Builtin.clear_, run_underlying hu]) hk hh (Ext.refl _ _ _ _ _)
        · rename_i b i
          obtain ⟨hz, hk1⟩ := need_some hk
          simp only [Bool.and_eq_true] at hz
          obtain ⟨hR, hz, hfm⟩ := hz
          have hR := Nat.eq_of_beq_eq_true hR
          obtain ⟨h', hst, hk2⟩ := eO_some hk1
          obtain ⟨i0, z, hi, hzz, hsz, e1, e2, e3⟩ := zero_of hz hfm
          simp only [VR] at hc
          obtain ⟨e4, x4, cc', k1, k2, rfl, k3, k4, k5, k6⟩ := hc
          have hzone := one_of_firms (e3 ρ) hfm
          cases n with
          | zero =>
            obtain ⟨R1, el, rs, hkb, hlo, hle, rfl⟩ := stRows_some hst
            have hsame : σ.h.set b (.rows R1 el false (rs.take i ++ List.replicate 0 (tyOf P e).zero ++ rs.drop (i + (List.replicate 0 (tyOf P e).zero).length))) = σ.h := by
              have hb : b < σ.h.length := (hh.dom _ _ k1).1
              have : σ.h[b] = .rows R1 el false rs := (List.getElem?_eq_some_iff.1 hkb).2
              simp only [List.replicate_zero, List.append_nil, List.length_nil, Nat.add_zero, List.take_append_drop]
              rw [← this]; simp
            rw [hsame] at hk2
            exact fin w σ.h (by simp [builtin, Builtin.clear_, run_underlying hu]) hk2 hh (Ext.refl _ _ _ _ _)
          | succ n =>
            have hx : x4 = ⟨e4.r, e4.o + i * e4.R, none⟩ := k3.elim (fun h => absurd h (by omega)) id
            have hvz : VRs ρ (List.replicate (n + 1) (tyOf P e).zero).flatten (Builtin.zeroCells z.cells (n + 1)).toList := by
              have hfl := flat_length (R := z.cells.size) (rs := List.replicate (n + 1) (tyOf P e).zero) (fun row hr => by rw [List.eq_of_mem_replicate hr, e2, hsz])
              refine VRs.of_get (by rw [hfl]; simp [Builtin.zeroCells]) fun q v hq => ?_
              obtain ⟨i', j', row, h1, h2, h3⟩ := flat_of_get (R := z.cells.size) (fun row hr => by rw [List.eq_of_mem_replicate hr, e2, hsz]) hq
              have := RowsR.zeros (ρ := ρ) (n + 1) (n + 1) (e3 ρ) (Nat.le_refl _)
              obtain ⟨c', h4, h5⟩ := (this i' row h1).2 j' v h2
              refine ⟨c', ?_, h5⟩
              rw [h3, ← h4, Nat.zero_add, Array.getElem?_toList]; rfl
            have hone : ∀ v ∈ (Builtin.zeroCells z.cells (n + 1)).toList, v.oneCell' = true := fun v hv => by
              have := OneCells.zeros ((n + 1) * z.cells.size) 0 (OneCells.of_list hzone) (fun h => by rw [h]; rfl)
              obtain ⟨j, hj⟩ := List.mem_iff_getElem?.1 hv
              exact this j v (by rw [Array.getElem?_toList] at hj; exact hj)
            obtain ⟨w', s1, s2, s3⟩ := stRows_run (P := P) hh k1 hst (fun row hrow => by rw [List.eq_of_mem_replicate hrow, e2]; omega) hvz hone
            refine fin w' h' ?_ hk2 s2 s3
            simp [builtin, Builtin.clear_, run_underlying hu, zeroValue_run hi hzz, hx, s1]
      · cases hk
    · cases hk
  · cases hk
end

/-! ### bytes to text -/
theorem byteRows_rel {ρ : Rho} : ∀ {rows : List (List V)} {ns : List Int} {vs : List Value}, byteRows rows = some ns → VRs ρ rows.flatten vs → vs = ns.map (Value.int .u8)
  | [], ns, vs, h, hv => by
    simp only [byteRows, Option.some.injEq] at h; subst h
    simpa [VRs] using hv
  | row :: r, ns, vs, h, hv => by
    unfold byteRows at h
    split at h
    · rename_i he; cases he
    · rename_i k n r' he
      injection he with e1 e2; subst e1; subst e2
      split at h
      · split at h
        · rename_i l hl
          injection h with h; subst h
          simp only [List.flatten_cons, List.singleton_append, VRs] at hv
          obtain ⟨y, q, rfl, h1, h2⟩ := hv
          simp only [VR] at h1; subst h1
          rw [List.map_cons, byteRows_rel hl h2]
        · cases h
      · cases h
    · cases h
section
variable {P : Program} {lo base : Nat} {ρ : Rho} {β : Bet} {σ : St} {a : Act} {w : World} {R : Type} {r : R} {K : V → St → Option R} {X : Ctx}
variable {dst : Option Nat} {ty : TypeId} {pos : String} {after : Array Edge} {guard : Option (Nat × Bool)}
theorem do_convert (hX : X.ty = tyOf P) (hs : SRel ρ β σ.s a) (hh : HRel ρ σ.h w) (hf : FRel ρ β σ.bx w) {u t : TypeId} {x : Operand}
    (hk : opT X lo dst ty (.convert u t x) σ K = some r) : Does P lo base ρ β σ a w ⟨dst, .convert u t x, ty, pos, after, guard⟩ K r := by
  have hx := ev_rel hs x
  simp only [opT] at hk
  rw [hX] at hk
  split at hk
  · rename_i hkn
    obtain ⟨i, d, hi, hd, _⟩ := known_of hkn
    split at hk
    · rename_i k n he
      rw [he] at hx
      have hx := hx.int
      split at hk
      · rename_i b hc
        have := cell_of hc
        simp only [CellIs] at this
        exact do_value (c := .int b (b.wrap n)) (by simp [execOp, convert, hx, underlying_run hd, underlying_run this, Conv.intToInt]) hh hf (SV.of VR.int') hk
      · cases hk
    · rename_i s he
      rw [he] at hx
      have hx := hx.str
      split at hk
      · rename_i hc
        have := cell_of hc
        simp only [CellIs] at this
        exact do_value (c := .string s) (by simp [execOp, convert, hx, underlying_run hd, underlying_run this]) hh hf (SV.of VR.str') hk
      · cases hk
    · rename_i R' p n c he
      rw [he] at hx
      have hx : VR ρ (.sl R' p n c) (a.eval x) := hx
      split at hk
      · rename_i e ht hc
        have h8 := cell_of hc
        simp only [CellIs] at h8
        split at hk
        · rename_i h9
          have h9 := cell_of h9
          simp only [CellIs] at h9
          have hu := slice_of ht
          obtain ⟨xs, news, k1, k2, k3, k4, _, _⟩ := rowsOf_run (P := P) hh hk hx (fun s hs => by cases hs)
          obtain ⟨ns, k5, k6⟩ := eO_some k1
          have hn := byteRows_rel k5 k4
          have hsl : ∃ p' l' c', a.eval x = .slice p' l' c' := by
            cases p with
            | none => simp only [VR] at hx; exact ⟨_, _, _, hx.2.2⟩
            | some q =>
              obtain ⟨b, i⟩ := q
              simp only [VR] at hx
              obtain ⟨_, x', cc, _, _, hv, _⟩ := hx
              exact ⟨_, _, _, hv⟩
          obtain ⟨p', l', c', hv⟩ := hsl
          rw [hv] at k2 k3
          have hlen : l' = xs.length := by
            cases p' with
            | none => simpa [Builtin.lenOf] using k2
            | some q => simpa [Builtin.lenOf] using k2
          refine do_value (c := .string (bytesOf ns)) ?_ hh hf (SV.of VR.str') k6
          simp only [execOp, hv]
          cases p' with
          | none =>
            have h1 : ns = [] := by
              have h2 := k3 w rfl
              simp [Builtin.firstCells] at h2
              rw [hn] at h2
              have := congrArg List.length h2
              simpa using this
            subst h1
            simp only [Sem.run_bind, run_convert_bytes_string w u t e none l' c' hu h9 h8]
            simp [Conv.bytesToString, bytesOf]
          | some q =>
            have h3 := run_bytesToString w q l' c' ns (by
              have h2 := k3 w rfl
              simp only [Builtin.firstCells, Nat.mul_one] at h2
              rw [hlen, h2, hn])
            simp only [Sem.run_bind, run_convert_bytes_string w u t e (some q) l' c' hu h9 h8, h3, Result.andThen_ok, Sem.run_pure]
            rfl
        · cases hk
      · cases hk
    · cases hk
  · cases hk

end
end
end Go.Proofs.YtfbhdjkeofleiaaDoor.T
