/- T against the model: slices of slices, places. -/
import Derived.Test.YtfbhdjkeofleiaaDoorTeeH
namespace Go.Proofs.YtfbhdjkeofleiaaDoor.T
open Go
set_option linter.unusedVariables false
set_option linter.unusedSimpArgs false

section
variable {P : Program} {lo base : Nat} {ρ : Rho} {β : Bet} {σ : St} {a : Act} {w : World} {R : Type} {r : R} {K : V → St → Option R} {X : Ctx}
variable {dst : Option Nat} {ty : TypeId} {pos : String} {after : Array Edge} {guard : Option (Nat × Bool)}

theorem sliceBound_run {n : Int} {y : Nat} {c : BoundsCode} (h : 0 ≤ n ∧ n ≤ y) : (Instr.sliceBound (.int .i64 n) y c).run P w = .ok n.toNat w := by
  simp [Instr.sliceBound, asIntOf, h]

/-- a bound and the model's -/
def OV : Option V → Option Value → Prop
  | none, v => v = none
  | some x, v => ∃ c, v = some c ∧ ∀ n, x = .int .i64 n → c = .int .i64 n
theorem evo_rel (hs : SRel ρ β σ.s a) (x : Option Operand) : OV (evo σ.s x) (x.map a.eval) := by
  cases x with
  | none => rfl
  | some x => exact ⟨_, rfl, fun n h => ev_int hs h⟩

theorem slHi_some {len M : Nat} {cap' : Option Nat} {hi : Option V} {hi' m' : Option Value} {f : Nat → Option R} (b : Bool) (hk : slHi m'.isNone len cap' hi f = some r) (oh : OV hi hi')
    (c1 : ∀ y, cap' = some y → M = y) (c2 : cap' = none → len ≤ M) (c3 : m'.isNone = true → len ≤ M) :
    ∃ H, (match hi', m' with
      | some v, some _ => Instr.sliceBound v M .slice3B
      | some v, none => Instr.sliceBound v M (if b then .sliceAcap else .sliceAlen)
      | none, none => pure len
      | none, some _ => stuck "Slice: max without high" : Sem Nat).run P w = .ok H w ∧ H ≤ M ∧ f H = some r := by
  unfold slHi at hk
  cases hi with
  | none =>
    simp only [OV] at oh; subst oh
    cases m' with
    | none => exact ⟨len, rfl, c3 rfl, hk⟩
    | some mv => simp at hk
  | some hv =>
    obtain ⟨c, rfl, hc⟩ := oh
    simp only at hk
    obtain ⟨n, hn, hk1⟩ := eI_some hk
    have := hc n hn; subst this
    have hb : (0 ≤ n ∧ n ≤ M) ∧ f n.toNat = some r := by
      cases cap' with
      | none =>
        simp only at hk1
        obtain ⟨hb, hk2⟩ := inS_some hk1
        have := c2 rfl
        exact ⟨⟨hb.1, by omega⟩, hk2⟩
      | some y =>
        simp only at hk1
        have := c1 y rfl; subst this
        exact inS_some hk1
    obtain ⟨hb, hk2⟩ := hb
    refine ⟨n.toNat, ?_, by omega, hk2⟩
    cases m' <;> exact sliceBound_run hb

theorem slMax_some {len cc : Nat} {cap : Option Nat} {m : Option V} {m' : Option Value} {f : Option Nat → Option R} (b : Bool) (hk : slMax len cap m f = some r) (h1 : len ≤ cc) (h2 : ∀ y, cap = some y → cc = y) (om : OV m m') :
    ∃ M cap', (match m' with | some v => Instr.sliceBound v cc (if b then .slice3Acap else .slice3Alen) | none => pure cc : Sem Nat).run P w = .ok M w ∧ M ≤ cc ∧ (∀ y, cap' = some y → M = y) ∧ (cap' = none → M = cc ∧ cap = none) ∧
      (m'.isNone = true → M = cc) ∧ m.isNone = m'.isNone ∧ f cap' = some r := by
  unfold slMax at hk
  cases m with
  | none =>
    simp only [OV] at om; subst om
    exact ⟨cc, cap, rfl, Nat.le_refl _, h2, fun h => ⟨rfl, h⟩, fun _ => rfl, rfl, hk⟩
  | some mv =>
    obtain ⟨c, rfl, hc⟩ := om
    simp only at hk
    obtain ⟨n, hn, hk1⟩ := eI_some hk
    have := hc n hn; subst this
    cases cap with
    | none =>
      simp only at hk1
      obtain ⟨hb, hk2⟩ := inS_some hk1
      exact ⟨n.toNat, some n.toNat, sliceBound_run (by omega), by omega, (fun y hy => by injection hy), (fun h => by cases h), (fun h => by cases h), rfl, hk2⟩
    | some y =>
      simp only at hk1
      have := h2 y rfl; subst this
      obtain ⟨hb, hk2⟩ := inS_some hk1
      exact ⟨n.toNat, some n.toNat, sliceBound_run hb, by omega, (fun y hy => by injection hy), (fun h => by cases h), (fun h => by cases h), rfl, hk2⟩

theorem reslice_some {a : Option (Nat × Nat)} {len cc : Nat} {cap : Option Nat} {l hi m : Option V} {l' hi' m' : Option Value} {k : Option (Nat × Nat) → Nat → Option Nat → Option R} (b : Bool) (hk : reslice a len cap l hi m k = some r)
    (h1 : len ≤ cc) (h2 : ∀ y, cap = some y → cc = y) (ol : OV l l') (oh : OV hi hi') (om : OV m m') :
    ∃ L H M cap', (Instr.sliceBounds b len cc l' hi' m').run P w = .ok (L, H, M) w ∧ L ≤ H ∧ H ≤ M ∧ M ≤ cc ∧ (∀ y, cap' = some y → M = y) ∧ (cap' = none → M = cc ∧ cap = none) ∧
      ((L = 0 ∧ k a H cap' = some r) ∨ slAt a H cap' L k = some r) := by
  unfold reslice at hk
  obtain ⟨M, cap', r1, hM, c1, c2, hmm, hiso, hk1⟩ := slMax_some (P := P) (w := w) b hk h1 h2 om
  rw [hiso] at hk1
  obtain ⟨H, r2, hH, hk2⟩ := slHi_some (P := P) (w := w) b hk1 oh c1 (fun h => by have := (c2 h).1; omega) (fun h => by have := hmm h; omega)
  have done : ∀ L, (match l' with
      | some v => Instr.sliceBound v H (if m'.isSome then .slice3C else .sliceB)
      | none => pure 0 : Sem Nat).run P w = .ok L w → (Instr.sliceBounds b len cc l' hi' m').run P w = .ok (L, H, M) w := by
    intro L h3
    revert r1 r2 h3
    cases m' <;> cases hi' <;> cases l' <;> intro r1 r2 h3 <;> simp only [Instr.sliceBounds, Sem.run_bind, r1, r2, h3, Result.andThen_ok, Sem.run_pure] <;> simp_all
  unfold slLo at hk2
  cases l with
  | none =>
    simp only [OV] at ol; subst ol
    exact ⟨0, H, M, cap', done 0 rfl, Nat.zero_le _, hH, hM, c1, c2, .inl ⟨rfl, hk2⟩⟩
  | some lv =>
    obtain ⟨c, rfl, hc⟩ := ol
    simp only at hk2
    obtain ⟨n, hn, hk3⟩ := eI_some hk2
    have := hc n hn; subst this
    obtain ⟨hb, hk4⟩ := inS_some hk3
    exact ⟨n.toNat, H, M, cap', done _ (sliceBound_run hb), by omega, hH, hM, c1, c2, .inr hk4⟩

theorem strSlice_some {s : ByteArray} {l hi : Option V} {l' hi' : Option Value} {k : V → Option R} (b : Bool) (hk : strSlice s l hi k = some r) (ol : OV l l') (oh : OV hi hi') :
    ∃ L H, (Instr.sliceBounds b s.size s.size l' hi' none).run P w = .ok (L, H, s.size) w ∧ k (.str (s.extract L H)) = some r := by
  unfold strSlice at hk
  obtain ⟨H, r2, hH, hk2⟩ := slHi_some (P := P) (w := w) (m' := none) b hk oh (M := s.size) (fun y hy => by injection hy) (fun h => by cases h) (fun _ => Nat.le_refl _)
  have done : ∀ L, (match l' with
      | some v => Instr.sliceBound v H (if (none : Option Value).isSome then .slice3C else .sliceB)
      | none => pure 0 : Sem Nat).run P w = .ok L w → (Instr.sliceBounds b s.size s.size l' hi' none).run P w = .ok (L, H, s.size) w := by
    intro L h3
    revert r2 h3
    cases hi' <;> cases l' <;> intro r2 h3 <;> simp only [Instr.sliceBounds, Sem.run_bind, r2, h3, Result.andThen_ok, Sem.run_pure] <;> simp_all
  unfold strLo at hk2
  cases l with
  | none =>
    simp only [OV] at ol; subst ol
    exact ⟨0, H, done 0 rfl, hk2⟩
  | some lv =>
    obtain ⟨c, rfl, hc⟩ := ol
    simp only at hk2
    obtain ⟨n, hn, hk3⟩ := eI_some hk2
    have := hc n hn; subst this
    obtain ⟨hb, hk4⟩ := inS_some hk3
    exact ⟨n.toNat, H, done _ (sliceBound_run hb), hk4⟩

theorem bounds_len {b : Bool} {n m cc : Nat} {l' hi' m' : Option Value} (h : hi' = none → n = m) : Instr.sliceBounds b n cc l' hi' m' = Instr.sliceBounds b m cc l' hi' m' := by
  cases hi' with
  | none => rw [h rfl]
  | some v => cases m' <;> rfl
theorem rows?_some {h : Heap} {b : Nat} {rs : List (List V)} (hr : Heap.rows? h b = some rs) : ∃ R el ro, h[b]? = some (.rows R el ro rs) := by
  unfold Heap.rows? at hr
  split at hr
  · rename_i R el ro rs' hb
    injection hr with hr; subst hr
    exact ⟨R, el, ro, hb⟩
  · cases hr
theorem room_le {h : Heap} (hh : HRel ρ h w) {b i n cc : Nat} {c : Option Nat} {e : E} (hb : ρ b = some e) (hn : n ≤ cc) (hc : c = none → i + cc = e.m ∧ e.o = 0) : roomOf h (some (b, i)) n c ≤ cc := by
  unfold roomOf
  cases c with
  | some _ => exact hn
  | none =>
    simp only
    split
    · rename_i rs hr
      obtain ⟨R, el, ro, hk⟩ := rows?_some hr
      obtain ⟨_, _, _, _, _, h4, h5, _⟩ := hh.blk b e _ hb hk
      have := (hc rfl).1
      exact Nat.max_le.2 ⟨hn, by omega⟩
    · exact hn
theorem roomFor_le {h : Heap} (hh : HRel ρ h w) {b i n cc : Nat} {c : Option Nat} {e : E} {wide : Bool} {hi : Option V} (hb : ρ b = some e) (hn : n ≤ cc) (hc : c = none → i + cc = e.m ∧ e.o = 0) : roomFor wide h (some (b, i)) n c hi ≤ cc := by
  unfold roomFor
  cases wide with
  | false => exact hn
  | true =>
    cases hi with
    | none => exact hn
    | some _ => exact room_le hh hb hn hc
theorem roomFor_nil {h : Heap} {n : Nat} {c : Option Nat} {wide : Bool} {hi : Option V} : roomFor wide h none n c hi = n := by
  unfold roomFor roomOf
  cases wide <;> cases hi <;> cases c <;> rfl
theorem roomFor_none {h : Heap} {a : Option (Nat × Nat)} {n : Nat} {c : Option Nat} {wide : Bool} : roomFor wide h a n c none = n := by
  unfold roomFor
  cases wide <;> rfl

theorem do_slice (hX : X.ty = tyOf P) (hs : SRel ρ β σ.s a) (hh : HRel ρ σ.h w) (hf : FRel ρ β σ.bx w) {t : TypeId} {x : Operand} {l hi m : Option Operand}
    (hk : opT X lo dst ty (.slice t x l hi m) σ K = some r) : Does P lo base ρ β σ a w ⟨dst, .slice t x l hi m, ty, pos, after, guard⟩ K r := by
  have hx := ev_rel hs x
  simp only [opT] at hk
  rw [hX] at hk
  split at hk
  · rename_i s he
    rw [he] at hx
    have hx := hx.str
    cases m with
    | some _ => simp at hk
    | none =>
      simp only at hk
      obtain ⟨h1, hk1⟩ := need_some hk
      obtain ⟨d, hd, rfl⟩ := one_of h1
      obtain ⟨L, H, h2, hk2⟩ := strSlice_some (P := P) (w := w) false hk1 (evo_rel hs l) (evo_rel hs hi)
      obtain ⟨s', h3, hk3⟩ := eT_some hk2
      injection h3 with h3; subst h3
      refine do_value (c := .string (s.extract L H)) ?_ hh hf (SV.of VR.str') hk3
      simp [execOp, Instr.sliceAt, underlying_run hd, Instr.slice, hx, h2]
  · rename_i R' a1 n c he
    rw [he] at hx
    split at hk
    · rename_i e hty
      have hu := slice_of hty
      obtain ⟨hr, hk1⟩ := need_some hk
      simp only [Bool.and_eq_true, Bool.or_eq_true] at hr
      obtain ⟨hr, hkn⟩ := hr
      obtain ⟨i0, d, hi0, hd, hsz, _⟩ := known_of hkn
      have hrun : ∀ p cc L H M, a.eval x = .slice p n cc → (Instr.sliceBounds true n cc (l.map a.eval) (hi.map a.eval) (m.map a.eval)).run P w = .ok (L, H, M) w →
          (execOp a.eval ⟨dst, .slice t x l hi m, ty, pos, after, guard⟩).run P w = .ok (.value (.slice (if M = L then p else p.map (·.add (L * i0.size))) (H - L) (M - L))) w := by
        intro p cc L H M hax r1
        simp only [execOp, Instr.sliceAt, Sem.run_bind, underlying_run hu, Result.andThen_ok, Instr.slice, hax, r1, sizeOf_known hi0, Sem.run_pure]
      cases a1 with
      | none =>
        obtain ⟨rfl, rfl, hax⟩ := hx.slNil
        rw [roomFor_nil] at hk1
        obtain ⟨L, H, M, cap', r1, g1, g2, g3, g4, g5, g6⟩ := reslice_some (P := P) (w := w) (cc := 0) true hk1 (Nat.le_refl _) (fun y hy => by injection hy) (evo_rel hs l) (evo_rel hs hi) (evo_rel hs m)
        have h1 : M = 0 := by omega
        have h2 : H = 0 := by omega
        have h3 : L = 0 := by omega
        subst h1; subst h2; subst h3
        have h4 : cap' = some 0 := by
          cases cap' with
          | none => have := (g5 rfl).2; cases this
          | some y => rw [← g4 y rfl]
        subst h4
        refine do_value (hrun _ _ _ _ _ hax r1) hh hf (SV.of ?_) (v := .sl (tyOf P e).size none 0 (some 0)) ?_
        · simp [VR]
        · rcases g6 with ⟨_, g6⟩ | g6
          · exact g6
          · exact g6
      | some q =>
        obtain ⟨b1, i1⟩ := q
        simp only [Option.isNone_some, Bool.false_eq_true, or_false] at hr
        have hr := Nat.eq_of_beq_eq_true hr
        obtain ⟨e1, x1, cc, k1, k2, hax, k3, k4, k5, k6⟩ := hx.sl
        obtain ⟨L, H, M, cap', r1, g1, g2, g3, g4, g5, g6⟩ := reslice_some (P := P) (w := w) true hk1 (roomFor_le hh k1 k4 k6) k5 (evo_rel hs l) (evo_rel hs hi) (evo_rel hs m)
        rw [bounds_len (m := n) (fun hq => by
          cases hi with
          | none => exact roomFor_none
          | some x => cases hq)] at r1
        have hrun := hrun _ _ _ _ _ hax r1
        rcases g6 with ⟨rfl, g6⟩ | g6
        · refine do_value hrun hh hf (SV.of ?_) g6
          have ha : ∀ y : Addr, y.add 0 = y := fun y => by simp [Addr.add]
          have : (if M = 0 then some x1 else (some x1).map (·.add (0 * i0.size))) = some x1 := by split <;> simp [ha]
          rw [this]
          simp only [VR]
          exact ⟨e1, x1, M, k1, by omega, rfl, k3.elim (fun k3 => .inl (by omega)) .inr, g2, g4, fun h => by have := g5 h; have := k6 this.2; omega⟩
        · unfold slAt at g6
          simp only at g6
          have hcc : ∀ (q : M ≠ L), x1 = ⟨e1.r, e1.o + i1 * e1.R, none⟩ := fun q => k3.elim (fun k3 => absurd k3 (by omega)) id
          have hadd : ∀ (q : M ≠ L), x1.add (L * i0.size) = ⟨e1.r, e1.o + (i1 + L) * e1.R, none⟩ := fun q => by
            rw [hcc q, add_mk]
            have : e1.R = i0.size := by omega
            rw [← this, Nat.add_mul]; congr 1; omega
          have hlast : M = L → VR ρ (.sl (tyOf P e).size (some (b1, i1)) (H - L) (some 0)) (.slice (if M = L then some x1 else (some x1).map (·.add (L * i0.size))) (H - L) (M - L)) := fun q => by
            rw [if_pos q]
            simp only [VR]
            exact ⟨e1, x1, M - L, k1, by omega, rfl, .inl (by omega), by omega, fun y hy => by injection hy; omega, fun h => by cases h⟩
          split at g6
          · rename_i y
            have hy := g4 _ rfl
            rcases br_some g6 with ⟨h3, g6⟩ | ⟨h3, g6⟩
            · have h3 := Nat.eq_of_beq_eq_true h3
              exact do_value hrun hh hf (SV.of (hlast (by omega))) g6
            · have h3 : M ≠ L := fun h => by subst hy; rw [h] at h3; simp at h3
              refine do_value hrun hh hf (SV.of ?_) g6
              rw [if_neg h3]
              simp only [VR, Option.map_some]
              exact ⟨e1, _, M - L, k1, by omega, rfl, .inr (hadd h3), by omega, fun z hz => by injection hz; omega, fun h => by cases h⟩
          · have hy := g5 rfl
            have k7 := k6 hy.2
            by_cases h3 : M = L
            · refine do_value hrun hh hf (SV.of ?_) g6
              rw [if_pos h3]
              simp only [VR]
              exact ⟨e1, x1, M - L, k1, by omega, rfl, .inl (by omega), by omega, (fun y hy => by cases hy), fun h => ⟨by omega, k7.2⟩⟩
            · refine do_value hrun hh hf (SV.of ?_) g6
              rw [if_neg h3]
              simp only [VR, Option.map_some]
              exact ⟨e1, _, M - L, k1, by omega, rfl, .inr (hadd h3), by omega, (fun y hy => by cases hy), fun h => ⟨by omega, k7.2⟩⟩
    · cases hk
  · cases hk

/-! #### places -/
theorem do_fieldAddr (hX : X.ty = tyOf P) (hs : SRel ρ β σ.s a) (hh : HRel ρ σ.h w) (hf : FRel ρ β σ.bx w) {t : TypeId} {x : Operand} {f : Nat}
    (hk : opT X lo dst ty (.fieldAddr t x f) σ K = some r) : Does P lo base ρ β σ a w ⟨dst, .fieldAddr t x f, ty, pos, after, guard⟩ K r := by
  simp only [opT] at hk
  rw [hX] at hk
  split at hk
  · rename_i fs hty
    obtain ⟨gs, hu, hfs, hkn, _⟩ := struct_of hty
    split at hk
    · rename_i g hg
      split at hk
      · rename_i hz
        simp only [Bool.and_eq_true] at hz
        obtain ⟨hz1, hz2⟩ := hz
        obtain ⟨i0, d, hi0, hd, hsz, _⟩ := known_of hz1
        have hz2 : 0 < (tyOf P g.2).size := by simpa [Nat.blt_eq] using hz2
        rw [hfs, List.getElem?_map] at hg
        obtain ⟨g', hg1, hg2⟩ := Option.map_eq_some_iff.1 hg
        have hg1' : gs[f]? = some g' := by simpa using hg1
        have hrun : ∀ p, a.eval x = .pointer (some p) → (execOp a.eval ⟨dst, .fieldAddr t x f, ty, pos, after, guard⟩).run P w = .ok (.value (.pointer (some (p.add g.1)))) w := by
          intro p hax
          subst hg2
          simp only [execOp, Instr.fieldAt, Sem.run_bind, underlying_run hu, Result.andThen_ok, hg1', hax, Instr.sureAddr, Sem.run_pure, fieldPlace, sizeOf_known hi0]
          rw [if_neg (by simp only at hsz hz2; omega)]
          rfl
        split at hk
        · rename_i u j he
          obtain ⟨q, h1, h2⟩ := ev_lp hs he
          exact do_value (hrun _ h2) hh hf (show SV ρ β (.lp u (j + g.1)) _ from ⟨q, h1, by rw [add_mk]⟩) hk
        · rename_i p he
          obtain ⟨⟨b, i, j⟩, rfl, hk1⟩ := eO_some hk
          obtain ⟨e, h1, h2⟩ := ev_ptr hs he
          exact do_value (hrun _ h2) hh hf (SV.of (by simp only [VR]; exact ⟨e, h1, by rw [add_mk]; congr 3; omega⟩)) hk1
        · cases hk
      · cases hk
    · cases hk
  · cases hk

theorem part_run {t : TypeId} (hkn : (tyOf P t).known = true) {xs ys : List V} {cs : Array Value} {off : Nat} (hv : VRs ρ xs cs.toList) (hc : cut xs off (tyOf P t).size = some ys) {v : V} (hm : mkO (tyOf P t).agg ys = some v) :
    ∃ c, (part t cs off).run P w = .ok c w ∧ VR ρ v c := by
  obtain ⟨i, d, hi, hd, h1, h2, h3, h4, h5⟩ := known_of hkn
  obtain ⟨g1, g2⟩ := cut_some hc
  have hag := isAgg_run hd w
  rw [← h3] at hag
  simp only [part, Sem.run_bind, hag, Result.andThen_ok]
  have hlen := hv.length
  simp at hlen
  cases hA : (tyOf P t).agg with
  | true =>
    rw [hA] at hm
    simp only [mkO] at hm; injection hm with hm; subst hm
    refine ⟨.agg (cs.extract off (off + i.size)), by simp [sizeOf_known hi], ?_⟩
    simp only [VR]
    refine ⟨_, rfl, ?_⟩
    rw [g2, h1, Array.toList_extract]
    have := (hv.drop off).take i.size
    simpa [List.extract] using this
  | false =>
    rw [hA] at hm
    simp only [mkO] at hm
    split at hm
    · rename_i v0
      injection hm with hm; subst hm
      have hget : xs[off]? = some v0 := by
        have : (((xs.drop off).take (tyOf P t).size))[0]? = some v0 := by rw [← g2]; rfl
        rw [List.getElem?_take] at this
        split at this
        · rw [List.getElem?_drop] at this; simpa using this
        · cases this
      obtain ⟨c, k1, k2⟩ := hv.get _ _ hget
      exact ⟨c, by simp at k1; simp [k1], k2⟩
    · cases hm

theorem do_field (hX : X.ty = tyOf P) (hs : SRel ρ β σ.s a) (hh : HRel ρ σ.h w) (hf : FRel ρ β σ.bx w) {t : TypeId} {x : Operand} {f : Nat}
    (hk : opT X lo dst ty (.field t x f) σ K = some r) : Does P lo base ρ β σ a w ⟨dst, .field t x f, ty, pos, after, guard⟩ K r := by
  have hx := ev_rel hs x
  simp only [opT] at hk
  rw [hX] at hk
  split at hk
  · rename_i fs hty
    obtain ⟨gs, hu, hfs, hkn, _⟩ := struct_of hty
    split at hk
    · rename_i g hg
      split at hk
      · rename_i hz
        rw [hfs, List.getElem?_map] at hg
        obtain ⟨g', hg1, hg2⟩ := Option.map_eq_some_iff.1 hg
        have hg1' : gs[f]? = some g' := by simpa using hg1
        subst hg2
        split at hk
        · rename_i cs he
          rw [he] at hx
          obtain ⟨ys, h1, h2⟩ := hx.agg
          obtain ⟨zs, h3, hk1⟩ := eO_some hk
          obtain ⟨v, h4, hk2⟩ := eO_some hk1
          obtain ⟨c, h5, h6⟩ := part_run (w := w) hz h2 h3 h4
          refine do_value (c := c) ?_ hh hf (SV.of h6) hk2
          simp only [execOp, Instr.field, Sem.run_bind, underlying_run hu, Result.andThen_ok, hg1', h1, asAgg, Sem.run_pure, h5]
        · cases hk
      · cases hk
    · cases hk
  · cases hk

theorem do_indexAddr (hX : X.ty = tyOf P) (hs : SRel ρ β σ.s a) (hh : HRel ρ σ.h w) (hf : FRel ρ β σ.bx w) {t : TypeId} {x i : Operand}
    (hk : opT X lo dst ty (.indexAddr t x i) σ K = some r) : Does P lo base ρ β σ a w ⟨dst, .indexAddr t x i, ty, pos, after, guard⟩ K r := by
  have hx := ev_rel hs x
  simp only [opT] at hk
  rw [hX] at hk
  have harr : ∀ (n : Nat) (e : TypeId) (p : Addr) (q : Int) (i0 : TypeInfo), P.underlying t = some (.array n e) → a.eval x = .pointer (some p) → a.eval i = .int .i64 q → (0 ≤ q ∧ q < n) → P.info? e = some i0 →
      (execOp a.eval ⟨dst, .indexAddr t x i, ty, pos, after, guard⟩).run P w = .ok (.value (.pointer (some (p.add (q.toNat * i0.size))))) w := by
    intro n e p q i0 hu hax hai hb hi0
    simp only [execOp, Instr.indexAt, Sem.run_bind, hai, asIntOf, Sem.run_pure, Result.andThen_ok, underlying_run hu, hax, Instr.sureAddr, if_pos hb, sizeOf_known hi0]
  split at hk
  · rename_i R' a1 n c he
    rw [he] at hx
    split at hk
    · rename_i e hty
      have hu := slice_of hty
      obtain ⟨q, hq, hk1⟩ := eI_some hk
      obtain ⟨hb, hk2⟩ := inB_some hk1
      obtain ⟨⟨b, r'⟩, rfl, hk3⟩ := eO_some hk2
      obtain ⟨hr, hk4⟩ := need_some hk3
      simp only [Bool.and_eq_true] at hr
      obtain ⟨hr, hkn⟩ := hr
      have hr := Nat.eq_of_beq_eq_true hr
      obtain ⟨i0, d, hi0, hd, hsz, _⟩ := known_of hkn
      obtain ⟨e1, x1, cc, k1, k2, hax, k3, k4, k5, k6⟩ := hx.sl
      have hai := ev_int hs hq
      have hx1 : x1 = ⟨e1.r, e1.o + r' * e1.R, none⟩ := k3.elim (fun k3 => absurd k3 (by omega)) id
      refine do_value (c := .pointer (some (x1.add (q.toNat * i0.size)))) ?_ hh hf (SV.of ?_) hk4
      · simp only [execOp, Instr.indexAt, Sem.run_bind, hai, asIntOf, Sem.run_pure, Result.andThen_ok, underlying_run hu, hax, if_pos hb, sizeOf_known hi0]
      · simp only [VR]
        refine ⟨e1, k1, ?_⟩
        rw [hx1, add_mk]
        have : e1.R = i0.size := by omega
        rw [← this, Nat.add_mul]; congr 3; omega
    · cases hk
  · rename_i u j he
    split at hk
    · rename_i n e hty
      obtain ⟨hu, _, _⟩ := array_of hty
      obtain ⟨q, hq, hk1⟩ := eI_some hk
      obtain ⟨hb, hk2⟩ := inB_some hk1
      obtain ⟨hkn, hk3⟩ := need_some hk2
      obtain ⟨i0, d, hi0, hd, hsz, _⟩ := known_of hkn
      obtain ⟨q', h1, h2⟩ := ev_lp hs he
      exact do_value (harr n e _ q i0 hu h2 (ev_int hs hq) hb hi0) hh hf (show SV ρ β (.lp u (j + q.toNat * (tyOf P e).size)) _ from ⟨q', h1, by rw [add_mk, hsz]⟩) hk3
    · cases hk
  · rename_i p he
    split at hk
    · rename_i n e hty
      obtain ⟨hu, _, _⟩ := array_of hty
      obtain ⟨⟨b, r', j⟩, rfl, hk0⟩ := eO_some hk
      obtain ⟨q, hq, hk1⟩ := eI_some hk0
      obtain ⟨hb, hk2⟩ := inB_some hk1
      obtain ⟨hkn, hk3⟩ := need_some hk2
      obtain ⟨i0, d, hi0, hd, hsz, _⟩ := known_of hkn
      obtain ⟨e1, h1, h2⟩ := ev_ptr hs he
      exact do_value (harr n e _ q i0 hu h2 (ev_int hs hq) hb hi0) hh hf (SV.of (by simp only [VR]; exact ⟨e1, h1, by rw [add_mk, hsz]; congr 3; omega⟩)) hk3
    · cases hk
  · cases hk

theorem do_index (hX : X.ty = tyOf P) (hs : SRel ρ β σ.s a) (hh : HRel ρ σ.h w) (hf : FRel ρ β σ.bx w) {t : TypeId} {x i : Operand}
    (hk : opT X lo dst ty (.index t x i) σ K = some r) : Does P lo base ρ β σ a w ⟨dst, .index t x i, ty, pos, after, guard⟩ K r := by
  have hx := ev_rel hs x
  simp only [opT] at hk
  rw [hX] at hk
  split at hk
  · rename_i s he
    rw [he] at hx
    have hx := hx.str
    obtain ⟨h1, hk1⟩ := need_some hk
    obtain ⟨d, hd, rfl⟩ := one_of h1
    obtain ⟨kq, q, hq, hk2⟩ := eIu_some hk1
    obtain ⟨c, hc, hk3⟩ := eO_some hk2
    have hai := ev_int hs hq
    refine do_value (c := .int .u8 c.toNat) ?_ hh hf (SV.of VR.int') hk3
    have : (if 0 ≤ q then s[q.toNat]? else none) = some c := by
      unfold strAt at hc
      split at hc
      · rename_i h; rw [if_pos (of_decide_eq_true h)]; exact hc
      · cases hc
    simp only [execOp, Instr.index, Sem.run_bind, hai, asIntOf, Sem.run_pure, Result.andThen_ok, underlying_run hd, hx, this]
  · rename_i cs he
    rw [he] at hx
    obtain ⟨ys, g1, g2⟩ := hx.agg
    split at hk
    · rename_i n e hty
      obtain ⟨hu, _, _⟩ := array_of hty
      obtain ⟨q, hq, hk1⟩ := eI_some hk
      obtain ⟨hb, hk2⟩ := inB_some hk1
      obtain ⟨hkn, hk3⟩ := need_some hk2
      obtain ⟨zs, h3, hk4⟩ := eO_some hk3
      obtain ⟨v', hk5, hle, hone⟩ := eCells_some hk4
      obtain ⟨i0, d, hi0, hd, hsz, _⟩ := known_of hkn
      obtain ⟨c, h5, h6⟩ := part_run (w := w) hkn g2 h3 (mkO_of_mkV hone)
      have hai := ev_int hs hq
      refine do_value (c := c) ?_ hh hf (SV.of (hle ρ c h6)) hk5
      rw [hsz] at h5
      simp only [execOp, Instr.index, Sem.run_bind, hai, asIntOf, Sem.run_pure, Result.andThen_ok, underlying_run hu, g1, if_pos hb, sizeOf_known hi0, h5]
    · cases hk
  · cases hk
end
end Go.Proofs.YtfbhdjkeofleiaaDoor.T
