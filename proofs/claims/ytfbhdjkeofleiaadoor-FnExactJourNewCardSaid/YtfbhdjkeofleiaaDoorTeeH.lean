/- T against the model: slices, places. -/
import Derived.Test.YtfbhdjkeofleiaaDoorTeeG
import Derived.Laws.BitsLemmas
namespace Go.Proofs.YtfbhdjkeofleiaaDoor.T
open Go
set_option linter.unusedVariables false
set_option linter.unusedSimpArgs false

section
variable {P : Program} {ρ : Rho}
theorem flat_get : ∀ {rs : List (List V)} {R i j : Nat} {row : List V} {v : V}, (∀ row ∈ rs, row.length = R) → rs[i]? = some row → row[j]? = some v → rs.flatten[i * R + j]? = some v
  | [], R, i, j, row, v, _, h, _ => by simp at h
  | r :: rs, R, 0, j, row, v, hl, h, hv => by
    simp at h; subst h
    have hj : j < r.length := (List.getElem?_eq_some_iff.1 hv).1
    rw [List.flatten_cons, Nat.zero_mul, Nat.zero_add, List.getElem?_append_left hj, hv]
  | r :: rs, R, i + 1, j, row, v, hl, h, hv => by
    have hr := hl r (by simp)
    rw [List.flatten_cons, List.getElem?_append_right (by rw [hr, Nat.add_mul]; omega), hr]
    have := flat_get (rs := rs) (R := R) (i := i) (fun x hx => hl x (by simp [hx])) (by simpa using h) hv
    rw [← this]; congr 1; rw [Nat.add_mul]; omega
theorem flat_length : ∀ {rs : List (List V)} {R : Nat}, (∀ row ∈ rs, row.length = R) → rs.flatten.length = rs.length * R
  | [], R, _ => by simp
  | r :: rs, R, hl => by
    rw [List.flatten_cons, List.length_append, hl r (by simp), flat_length (fun x hx => hl x (by simp [hx])), List.length_cons, Nat.add_mul]; omega
theorem RowsR.flat {R o : Nat} {rs : List (List V)} {cs : Array Value} (hl : ∀ row ∈ rs, row.length = R) (h : ∀ j v, rs.flatten[j]? = some v → ∃ c, cs[o + j]? = some c ∧ VR ρ v c) : RowsR ρ R o rs cs :=
  fun i row hi => ⟨hl row (List.mem_of_getElem? hi), fun j v hj => h _ v (flat_get hl hi hj)⟩
theorem RowsR.lens {R o : Nat} {rs : List (List V)} {cs : Array Value} (h : RowsR ρ R o rs cs) : ∀ row ∈ rs, row.length = R := fun row hr => by
  obtain ⟨i, hi⟩ := List.mem_iff_getElem?.1 hr
  exact (h i row hi).1
theorem flat_of_get : ∀ {rs : List (List V)} {R q : Nat} {v : V}, (∀ row ∈ rs, row.length = R) → rs.flatten[q]? = some v → ∃ i j row, rs[i]? = some row ∧ row[j]? = some v ∧ q = i * R + j
  | [], R, q, v, _, h => by simp at h
  | r :: rs, R, q, v, hl, h => by
    have hr := hl r (by simp)
    rw [List.flatten_cons] at h
    by_cases hq : q < r.length
    · rw [List.getElem?_append_left hq] at h
      exact ⟨0, q, r, by simp, h, by simp⟩
    · rw [List.getElem?_append_right (by omega)] at h
      obtain ⟨i, j, row, h1, h2, h3⟩ := flat_of_get (fun x hx => hl x (by simp [hx])) h
      refine ⟨i + 1, j, row, by simpa using h1, h2, ?_⟩
      rw [Nat.add_mul]; omega
/-- rows that were read: their cells -/
theorem RowsR.read {R o i n : Nat} {rs : List (List V)} {cs : Array Value} (h : RowsR ρ R o rs cs) (hn : i + n ≤ rs.length) : ∃ ys : List Value, VRs ρ ((rs.drop i).take n).flatten ys ∧ ys.length = n * R ∧
    ∀ q y, ys[q]? = some y → cs[o + i * R + q]? = some y := by
  have hl : ∀ row ∈ (rs.drop i).take n, row.length = R := fun row hr => h.lens row (List.mem_of_mem_drop (List.mem_of_mem_take hr))
  have hlen : ((rs.drop i).take n).length = n := by simp; omega
  have hfl := flat_length hl
  rw [hlen] at hfl
  have key : ∀ q v, ((rs.drop i).take n).flatten[q]? = some v → ∃ c, cs[o + i * R + q]? = some c ∧ VR ρ v c := by
    intro q v hv
    obtain ⟨i', j, row, h1, h2, h3⟩ := flat_of_get hl hv
    rw [List.getElem?_take] at h1
    split at h1
    · rw [List.getElem?_drop] at h1
      obtain ⟨c, h4, h5⟩ := (h _ row h1).2 j v h2
      refine ⟨c, ?_, h5⟩
      rw [← h4, h3]; congr 1; rw [Nat.add_mul]; omega
    · cases h1
  refine ⟨(List.range (n * R)).map fun q => (cs[o + i * R + q]?).getD undef, VRs.of_get (by simp [hfl]) fun q v hv => ?_, by simp, fun q y hy => ?_⟩
  · obtain ⟨c, h1, h2⟩ := key q v hv
    have hq : q < n * R := by have := (List.getElem?_eq_some_iff.1 hv).1; omega
    exact ⟨c, by simp [hq, h1], h2⟩
  · have hq : q < n * R := by have := (List.getElem?_eq_some_iff.1 hy).1; simpa using this
    obtain ⟨c, h1, _⟩ := key q _ (List.getElem?_eq_getElem (by omega))
    simp [hq, h1] at hy
    rw [h1, hy]
theorem paste_whole : ∀ {row cs : List V}, cs.length = row.length → paste row 0 cs = some cs
  | row, [], h => by
    have : row = [] := List.eq_nil_of_length_eq_zero (by simpa using h.symm)
    subst this; rfl
  | [], c :: cs, h => by simp at h
  | v :: row, c :: cs, h => by
    simp only [paste]
    rw [paste_whole (by simpa using h)]
theorem fill_rows {size : Nat} : ∀ (ps : List (Nat × V)) (qs : List (Nat × Value)) (rows out : List (List V)) (cs : Array Value),
    okP ps = true → ps.length = qs.length → (∀ (i : Nat) (p : Nat × V), ps[i]? = some p → ∃ q : Nat × Value, qs[i]? = some q ∧ q.1 = p.1 ∧ VR ρ p.2 q.2) → RowsR ρ size 0 rows cs → OneCells cs → cs.size = rows.length * size → layRows size rows ps = some out →
    ∃ co, Instr.fill (fun i => some (i * size, size)) cs qs = some co ∧ RowsR ρ size 0 out co ∧ OneCells co ∧ co.size = cs.size ∧ out.length = rows.length
  | [], qs, rows, out, cs, _, hl, _, hv, ho, hz, h => by
    have : qs = [] := List.eq_nil_of_length_eq_zero (by simpa using hl.symm)
    subst this
    simp only [layRows, Option.some.injEq] at h; subst h
    exact ⟨cs, rfl, hv, ho, rfl, rfl⟩
  | (i, v) :: ps, [], rows, out, cs, _, hl, _, hv, ho, hz, h => by simp at hl
  | (i, v) :: ps, (i', c) :: qs, rows, out, cs, hok, hl, hq, hv, ho, hz, h => by
    simp only [okP] at hok
    split at hok
    · rename_i hfm
      obtain ⟨q0, e1, e2, e3⟩ := hq 0 (i, v) (by simp)
      simp at e1; subst e1; simp only at e2 e3; subst e2
      have hcv := cells_rel e3 hfm
      have hlen := hcv.length
      simp only [layRows] at h
      split at h
      · rename_i hb
        simp only [Bool.and_eq_true] at hb
        obtain ⟨hb1, hb2⟩ := hb
        have hb1 : i' < rows.length := by simpa [Nat.blt_eq] using hb1
        have hb2 := Nat.eq_of_beq_eq_true hb2
        simp at hlen
        have hrow : rows[i']? = some rows[i'] := List.getElem?_eq_getElem hb1
        have hpa : paste rows[i'] 0 (cellsV v) = some (cellsV v) := paste_whole (by rw [(hv i' _ hrow).1]; omega)
        have hrel := hv.paste hrow hpa hcv (by omega)
        have hbig := row_le size hb1
        obtain ⟨co, k1, k2, k5, k3, k4⟩ := fill_rows ps qs (rows.set i' (cellsV v)) out _ hok (by simpa using hl) (fun j p hj => by simpa using hq (j + 1) p (by simpa using hj)) hrel (putL_one ho (one_of_firms hcv hfm)) (by simp [putL_size, hz]) h
        refine ⟨co, ?_, k2, k5, by rw [k3, putL_size], by simpa using k4⟩
        have hf : ∀ (l : List Value) (j : Nat) (cs : Array Value), (l.zipIdx j).foldl (fun cs p => cs.setIfInBounds (i' * size + p.2) p.1) cs = putL cs (i' * size + j) l := by
          intro l
          induction l with
          | nil => intro j cs; rfl
          | cons x l ih => intro j cs; simp only [List.zipIdx_cons, List.foldl_cons, putL]; rw [ih]; rfl
        simp only [Instr.fill]
        rw [if_neg (by simp; omega)]
        have := hf c.cells.toList 0 cs
        simp only [Nat.zero_add, Nat.add_zero] at this k1
        rw [← this] at k1
        rw [← k1]
        congr 1
        rw [← Array.foldl_toList]
        simp
      · cases h
    · cases hok
end

section
variable {P : Program} {lo base : Nat} {ρ : Rho} {β : Bet} {σ : St} {a : Act} {w : World} {R : Type} {r : R} {K : V → St → Option R} {X : Ctx}
variable {dst : Option Nat} {ty : TypeId} {pos : String} {after : Array Edge} {guard : Option (Nat × Bool)}

/-- zero rows -/
theorem RowsR.zeros {zv : List V} {z : Array Value} (n m : Nat) (hz : VRs ρ zv z.toList) (hm : n ≤ m) : RowsR ρ z.size 0 (List.replicate n zv) ((Array.range (m * z.size)).map (z[· % z.size]!)) := by
  intro i row hi
  have hlen := hz.length
  simp at hlen
  have hi' : i < n := by have := (List.getElem?_eq_some_iff.1 hi).1; simpa using this
  simp [List.getElem?_replicate, hi'] at hi
  subst hi
  refine ⟨by simpa using hlen, fun j v hj => ?_⟩
  obtain ⟨c, h1, h2⟩ := hz.get j v hj
  have hj' : j < z.size := by have := (List.getElem?_eq_some_iff.1 hj).1; omega
  have hlt : i * z.size + j < m * z.size := by
    have := row_le z.size (show i < m by omega); omega
  refine ⟨c, ?_, h2⟩
  simp only [Nat.zero_add]
  rw [Array.getElem?_map, Array.getElem?_range, if_pos hlt]
  simp only [Option.map_some]
  rw [Nat.mul_comm, Nat.mul_add_mod, Nat.mod_eq_of_lt hj']
  simp at h1
  rw [getElem!_def, h1]

theorem OneCells.zeros {z : Array Value} (k n : Nat) (hz : OneCells z) (hk : z.size = 0 → k = 0) : OneCells ((Array.range k).map (z[· % z.size]!)) := by
  intro j c hj
  rw [Array.getElem?_map] at hj
  obtain ⟨q, h1, rfl⟩ := Option.map_eq_some_iff.1 hj
  have hq : j < k := by have := (Array.getElem?_eq_some_iff.1 h1).1; simpa using this
  have hpos : 0 < z.size := Nat.pos_of_ne_zero fun h => by have := hk h; omega
  have hlt : q % z.size < z.size := Nat.mod_lt _ hpos
  exact hz (q % z.size) _ (by rw [getElem!_def, Array.getElem?_eq_getElem hlt])

/-- a new slice -/
theorem do_newRows (hB : base ≤ w.heap.size) (hh : HRel ρ σ.h w) (hf : FRel ρ β σ.bx w) {o : Oper} {e : TypeId} {rows : List (List V)} {cells : Array Value} {size n m : Nat}
    (hrun : (execOp a.eval o).run P w = .ok (.value (.slice (some ⟨w.heap.size, 0, none⟩) n m)) (w.alloc (.cells cells e))) (hv : RowsR ρ size 0 rows cells) (hone : OneCells cells) (hsz : m * size ≤ cells.size) (hn : n ≤ m) (hm : rows.length = m)
    (hk : K (.sl size (some (σ.h.length, 0)) n (some m)) { σ with h := σ.h ++ [.rows size e false rows] } = some r) : Does P lo base ρ β σ a w o K r := by
  refine ⟨w.alloc (.cells cells e), .inl ⟨_, hrun, ?_⟩⟩
  have hx : Ext lo w.heap.size ρ σ.h w (ρ.set σ.h.length ⟨w.heap.size, 0, size, rows.length, m⟩) (σ.h ++ [.rows size e false rows]) (w.alloc (.cells cells e)) := Ext.alloc hh _ _ _ rfl
  refine ⟨_, _, hk, ρ.set σ.h.length ⟨w.heap.size, 0, size, rows.length, m⟩, β, rfl, ?_, ?_, hf.ext hx, hx.weaken (Nat.le_refl _) hB, Ble.refl _, fun t r h1 h2 => (by rw [h1] at h2; cases h2), noBx⟩
  · refine SV.of ?_
    simp only [VR, Rho.set_same]
    exact ⟨_, _, m, rfl, rfl, rfl, .inr (by simp), hn, fun y hy => by injection hy, fun h => by cases h⟩
  · refine hh.alloc _ _ _ rfl ?_
    exact ⟨cells, (0, 0), alloc_new _ _, fun _ => ⟨rfl, rfl⟩, rfl, rfl, (show rows.length ≤ m by omega), (show 0 + m * size ≤ cells.size by omega), hv.mono (Rle.refl _), .inl hone⟩

theorem do_buildSlice (hB : base ≤ w.heap.size) (hX : X.ty = tyOf P) (hs : SRel ρ β σ.s a) (hh : HRel ρ σ.h w) (hf : FRel ρ β σ.bx w) {t : TypeId} {n : Nat} {ps : Array (Nat × Operand)}
    (hk : opT X lo dst ty (.buildSlice t n ps) σ K = some r) : Does P lo base ρ β σ a w ⟨dst, .buildSlice t n ps, ty, pos, after, guard⟩ K r := by
  simp only [opT] at hk
  split at hk
  · rename_i hok
    split at hk
    · rename_i e hty
      rw [hX] at hty hk
      have hu := slice_of hty
      split at hk
      · rename_i hz
        simp only [Bool.and_eq_true] at hz
        obtain ⟨⟨⟨hkn, hz⟩, hfm⟩, hle⟩ := hz
        have hle := Nat.le_of_ble_eq_true hle
        obtain ⟨rows, hlay, hk1⟩ := eO_some hk
        obtain ⟨i, z, hi, hzz, hsz, e1, e2, e3⟩ := zero_of hz hfm
        have hrel := evp_rel hs hok
        have hlen : (evp σ.s ps.toList).length = (ps.map fun (i, x) => (i, a.eval x)).toList.length := by simp [evp_length]
        rw [e1] at hlay hk1 hle
        have h0 : RowsR ρ i.size 0 (List.replicate n (tyOf P e).zero) ((Array.range (n * i.size)).map ((if n * i.size = 0 then #[] else z.cells)[· % (if n * i.size = 0 then #[] else z.cells).size]!)) := by
          by_cases h : n * i.size = 0
          · simp only [h, if_true]
            refine RowsR.flat (fun row hr => by rw [List.eq_of_mem_replicate hr, e2]) fun j v hj => ?_
            have hfl := flat_length (R := i.size) (rs := List.replicate n (tyOf P e).zero) (fun row hr => by rw [List.eq_of_mem_replicate hr, e2])
            simp [h] at hfl
            have := (List.getElem?_eq_some_iff.1 hj).1
            have hl : (List.replicate n (tyOf P e).zero).flatten.length = 0 := by simp [e2, h]
            omega
          · simp only [h, if_false]
            have := RowsR.zeros (ρ := ρ) n n (e3 ρ) (Nat.le_refl _)
            rw [hsz] at this
            rw [hsz]; exact this
        have hzone : OneCells z.cells := OneCells.of_list (one_of_firms (e3 ρ) hfm)
        have h0one : OneCells ((Array.range (n * i.size)).map ((if n * i.size = 0 then #[] else z.cells)[· % (if n * i.size = 0 then #[] else z.cells).size]!)) := by
          by_cases h : n * i.size = 0
          · rw [h]; intro j c hj; simp at hj
          · simp only [h, if_false]
            exact OneCells.zeros _ n hzone (fun hh => by rw [hsz] at hh; rw [hh]; rfl)
        obtain ⟨co, k1, k2, k5, k3, k4⟩ := fill_rows _ _ _ _ _ hok hlen hrel h0 h0one (by simp) hlay
        refine do_newRows hB hh hf (cells := co) (e := e) ?_ k2 k5 (by rw [k3]; simp) (Nat.le_refl _) (by simpa using k4) hk1
        have k1' : Instr.fill (fun j => some (j * i.size, i.size)) ((Array.range (n * i.size)).map ((if n * i.size = 0 then #[] else z.cells)[· % (if n * i.size = 0 then #[] else z.cells).size]!)) (ps.map fun x => (x.fst, a.eval x.snd)).toList = some co := k1
        simp only [execOp, Instr.buildSlice, Sem.run_bind, underlying_run hu, Result.andThen_ok, sizeOf_known hi]
        rw [if_neg (by omega)]
        by_cases h : n * i.size = 0
        · simp only [h, if_true] at k1' ⊢
          simp only [Sem.run_pure, Result.andThen_ok, k1', Sem.run_bind, newRow, run_newObj]
          rfl
        · simp only [h, if_false] at k1' ⊢
          simp only [Sem.run_pure, Result.andThen_ok, Sem.run_bind, zeroValue_run hi hzz, k1', newRow, run_newObj]
          rfl
      · cases hk
    · cases hk
  · cases hk

theorem do_makeSlice (hB : base ≤ w.heap.size) (hX : X.ty = tyOf P) (hs : SRel ρ β σ.s a) (hh : HRel ρ σ.h w) (hf : FRel ρ β σ.bx w) {t : TypeId} {l c : Operand}
    (hk : opT X lo dst ty (.makeSlice t l c) σ K = some r) : Does P lo base ρ β σ a w ⟨dst, .makeSlice t l c, ty, pos, after, guard⟩ K r := by
  simp only [opT] at hk
  split at hk
  · rename_i e hty
    rw [hX] at hty hk
    have hu := slice_of hty
    obtain ⟨n, hn, hk1⟩ := eI_some hk
    obtain ⟨m, hm, hk2⟩ := eI_some hk1
    obtain ⟨hz, hk3⟩ := need_some hk2
    obtain ⟨hb, hk4⟩ := need_some hk3
    obtain ⟨hb1, hb2, hb3, hb4⟩ := of_decide_eq_true hb
    simp only [Bool.and_eq_true] at hz
    obtain ⟨⟨hkn, hz⟩, hfm⟩ := hz
    obtain ⟨i, z, hi, hzz, hsz, e1, e2, e3⟩ := zero_of hz hfm
    obtain ⟨i', d', hi', hd', _, hbytes, _⟩ := known_of hkn
    rw [hi] at hi'; injection hi' with hi'; subst hi'
    rw [hbytes] at hb4
    have hl := ev_int hs hn
    have hc := ev_int hs hm
    have w1 : IntKind.i64.wrap n = n := by rw [IntKind.wrap_i64]; omega
    have w2 : IntKind.i64.wrap m = m := by rw [IntKind.wrap_i64]; omega
    rw [e1] at hk4
    have hmz : ∀ z' : Array Value, z' = (if m.toNat * i.size = 0 then #[] else z.cells) → RowsR ρ i.size 0 (List.replicate m.toNat (tyOf P e).zero) ((Array.range (m.toNat * i.size)).map (z'[· % z'.size]!)) := by
      intro z' hz'
      by_cases h : m.toNat * i.size = 0
      · refine RowsR.flat (fun row hr => by rw [List.eq_of_mem_replicate hr, e2]) fun j v hj => ?_
        have := (List.getElem?_eq_some_iff.1 hj).1
        have hl : (List.replicate m.toNat (tyOf P e).zero).flatten.length = 0 := by simp [e2]; simpa using h
        omega
      · rw [if_neg h] at hz'
        subst hz'
        have := RowsR.zeros (ρ := ρ) m.toNat m.toNat (e3 ρ) (Nat.le_refl _)
        rw [hsz] at this
        rw [hsz]; exact this
    have hzone : OneCells z.cells := OneCells.of_list (one_of_firms (e3 ρ) hfm)
    have hmone : OneCells ((Array.range (m.toNat * i.size)).map ((if m.toNat * i.size = 0 then #[] else z.cells)[· % (if m.toNat * i.size = 0 then #[] else z.cells).size]!)) := by
      by_cases h : m.toNat * i.size = 0
      · rw [h]; intro j c hj; simp at hj
      · simp only [h, if_false]
        exact OneCells.zeros _ 0 hzone (fun hh => by rw [hsz] at hh; rw [hh]; rfl)
    refine do_newRows hB hh hf (cells := (Array.range (m.toNat * i.size)).map ((if m.toNat * i.size = 0 then #[] else z.cells)[· % (if m.toNat * i.size = 0 then #[] else z.cells).size]!)) (e := e) ?_ (hmz _ rfl) hmone (by simp) (by omega) (by simp) hk4
    have t1 : ¬ ((decide (m < 0) || decide ((i.bytes : Int) * m > 2 ^ 48)) = true) := by
      rw [Int.mul_comm] at hb4
      simp only [Bool.or_eq_true, decide_eq_true_eq]; omega
    have hti : (typeInfo e).run P w = .ok i w := by simp [typeInfo, hi]
    simp only [execOp, Instr.makeSlice, Sem.run_bind, underlying_run hu, Result.andThen_ok, hl, hc, asInt, asIntOf, Sem.run_pure, hti, w1, w2]
    rw [if_neg (by
      simp only [Bool.or_eq_true, decide_eq_true_eq] at t1 ⊢
      omega)]
    simp only [Sem.run_pure, Result.andThen_ok, run_askRoom, Sem.run_bind, sizeOf_known hi]
    by_cases h : m.toNat * i.size = 0
    · simp only [h, if_true, Sem.run_pure, Result.andThen_ok, Sem.run_bind, newRow, run_newObj]
      rfl
    · simp only [h, if_false, Sem.run_pure, Result.andThen_ok, Sem.run_bind, zeroValue_run hi hzz, newRow, run_newObj]
      rfl
  · cases hk
end
end Go.Proofs.YtfbhdjkeofleiaaDoor.T
