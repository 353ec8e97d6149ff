/- The steps of T are the same whatever comes behind them. -/
import Derived.Test.YtfbhdjkeofleiaaDoorTeeN
namespace Go.Proofs.YtfbhdjkeofleiaaDoor.T
open Go
set_option linter.unusedVariables false
set_option linter.unusedSimpArgs false
set_option linter.unnecessarySimpa false

section
variable {R S α : Type} {g : R → Option S}
theorem none_bind' : (none : Option R).bind g = none := rfl
theorem br_bind {b : Bool} {x y : Option R} : (br b x y).bind g = br b (x.bind g) (y.bind g) := by cases b <;> rfl
theorem need_bind {b : Bool} {x : Option R} : (need b x).bind g = need b (x.bind g) := by cases b <;> rfl
theorem cat_bind {a b : ByteArray} {f : ByteArray → Option R} : (cat a b f).bind g = cat a b fun r => (f r).bind g := by rw [cat_eq, cat_eq, need_bind]
theorem eI_bind {k : IntKind} {v : V} {f : Int → Option R} : (eI k v f).bind g = eI k v fun n => (f n).bind g := by unfold eI; split <;> (try split) <;> rfl
theorem eIu_bind {v : V} {f : Int → Option R} : (eIu v f fun f => eI .i64 v f).bind g = eIu v (fun n => (f n).bind g) fun f => eI .i64 v f := by
  unfold eIu; split
  · rfl
  · exact eI_bind
theorem eBv_bind {v : V} {f : Bool → Option R} : (eBv v f).bind g = eBv v fun n => (f n).bind g := by unfold eBv; split <;> rfl
theorem eB_bind {v : V} {x y : Option R} : (eB v x y).bind g = eB v (x.bind g) (y.bind g) := by unfold eB; split <;> first | exact br_bind | rfl
theorem eT_bind {v : V} {f : ByteArray → Option R} : (eT v f).bind g = eT v fun n => (f n).bind g := by unfold eT; split <;> rfl
theorem eS_bind {q : Nat} {v : V} {f : Option (Nat × Nat) → Nat → Option Nat → Option R} : (eS q v f).bind g = eS q v fun a n c => (f a n c).bind g := by unfold eS; split <;> (try split) <;> (try split) <;> rfl
theorem eP_bind {v : V} {f : Option (Nat × Nat × Nat) → Option R} : (eP v f).bind g = eP v fun n => (f n).bind g := by unfold eP; split <;> rfl
theorem eM_bind {v : V} {f : Option Nat → Option R} : (eM v f).bind g = eM v fun n => (f n).bind g := by unfold eM; split <;> rfl
theorem eF_bind {v : V} {f : Nat → List V → Option R} : (eF v f).bind g = eF v fun n l => (f n l).bind g := by unfold eF; split <;> rfl
theorem eE_bind {v : V} {f : Nat → V → Option R} {z : Option R} : (eE v f z).bind g = eE v (fun n l => (f n l).bind g) (z.bind g) := by unfold eE; split <;> rfl
theorem eA_bind {v : V} {f : List V → Option R} : (eA v f).bind g = eA v fun n => (f n).bind g := by unfold eA; split <;> rfl
theorem eU_bind {v : V} {f : List V → Option R} : (eU v f).bind g = eU v fun n => (f n).bind g := by unfold eU; split <;> rfl
theorem eC_bind {v : List V} {f : V → List V → Option R} : (eC v f).bind g = eC v fun n l => (f n l).bind g := by unfold eC; split <;> rfl
theorem eN_bind {v : List V} {x : Option R} : (eN v x).bind g = eN v (x.bind g) := by unfold eN; split <;> rfl
theorem eO_bind {o : Option α} {f : α → Option R} : (eO o f).bind g = eO o fun n => (f n).bind g := by cases o <;> rfl
theorem eX_bind {o : Option α} {f : α → Option R} {z : Option R} : (eX o f z).bind g = eX o (fun n => (f n).bind g) (z.bind g) := by cases o <;> rfl
theorem cal_bind {o : Option (V × α)} {f : V → α → Option R} : (cal o f).bind g = cal o fun n l => (f n l).bind g := by unfold cal; split <;> rfl
theorem inB_bind {i : Int} {n : Nat} {x : Option R} : (inB i n x).bind g = inB i n (x.bind g) := by unfold inB; split <;> rfl
theorem inS_bind {i : Int} {n : Nat} {x : Option R} : (inS i n x).bind g = inS i n (x.bind g) := by unfold inS; split <;> rfl
theorem eSh_bind {s : Sh} {v : V} {f : V → Option R} : (eSh s v f).bind g = eSh s v fun n => (f n).bind g := by
  cases s <;> simp only [eSh, eI_bind, eBv_bind, eT_bind, eP_bind, eS_bind, eM_bind, eF_bind, eE_bind, none_bind']
theorem eShs_bind : ∀ {ss : List Sh} {cs : List V} {f : List V → Option R}, (eShs ss cs f).bind g = eShs ss cs fun n => (f n).bind g
  | [], cs, f => by simp only [eShs, eN_bind]
  | s :: ss, cs, f => by
    simp only [eShs, eC_bind, eSh_bind]
    congr 1; funext v r; congr 1; funext v'
    exact eShs_bind (ss := ss)
theorem eVal_bind {agg : Bool} {ss : List Sh} {v : V} {f : V → Option R} : (eVal agg ss v f).bind g = eVal agg ss v fun n => (f n).bind g := by
  unfold eVal; split
  · rw [eA_bind]; congr 1; funext cs; exact eShs_bind
  · split
    · exact eB_bind
    · exact eSh_bind
    · rfl
theorem eVals_bind : ∀ {ss : List (Bool × List Sh)} {cs : List V} {f : List V → Option R}, (eVals ss cs f).bind g = eVals ss cs fun n => (f n).bind g
  | [], cs, f => by simp only [eVals, eN_bind]
  | s :: ss, cs, f => by
    simp only [eVals, eC_bind, eVal_bind]
    congr 1; funext v r; congr 1; funext v'
    exact eVals_bind (ss := ss)
theorem eRes_bind {ts : List (Bool × List Sh)} {v : V} {f : V → Option R} : (eRes ts v f).bind g = eRes ts v fun n => (f n).bind g := by
  unfold eRes; split
  · exact eVal_bind
  · rw [eU_bind]; congr 1; funext cs; exact eVals_bind
theorem eCells_bind {agg : Bool} {ss : List Sh} {cs : List V} {f : V → Option R} : (eCells agg ss cs f).bind g = eCells agg ss cs fun n => (f n).bind g := by
  unfold eCells; split
  · exact eShs_bind
  · rw [eC_bind]; congr 1; funext v r; rw [eN_bind, eVal_bind]
theorem brV_bind {b : Bool} {k : V → Option R} : (brV b k).bind g = brV b fun v => (k v).bind g := br_bind
theorem eql_bind {X : Ctx} {t : TypeId} {c : Bool} {x y : V} {f : Bool → Option R} : (eql X t c x y f).bind g = eql X t c x y fun b => (f b).bind g := by
  unfold eql; split <;> (try split) <;> simp only [need_bind, eO_bind, none_bind']
theorem binOp_bind {X : Ctx} {op : BinOp} {t : TypeId} {c : Bool} {x y : V} {k : V → Option R} : (binOp X op t c x y k).bind g = binOp X op t c x y fun v => (k v).bind g := by
  unfold binOp; split <;> (try split) <;> simp only [eql_bind, brV_bind, br_bind, need_bind, cat_bind, none_bind']
theorem unOp_bind {op : UnOp} {x : V} {k : V → Option R} : (unOp op x k).bind g = unOp op x fun v => (k v).bind g := by
  unfold unOp; split <;> (try split) <;> simp only [eBv_bind, none_bind']
theorem app_bind {lo : Nat} {e : TypeId} {size bytes : Nat} {s : V} {xs : List (List V)} {h : Heap} {k : V → Heap → Option R} : (app lo e size bytes s xs h k).bind g = app lo e size bytes s xs h fun v h => (k v h).bind g := by
  unfold app; split
  · split
    · rfl
    · rw [need_bind, need_bind]; congr 2
      split
      · rfl
      · rw [need_bind]; congr 1
        split
        · split <;> rw [eO_bind]
        · rw [eO_bind]; congr 1; funext rs; split
          · rw [eO_bind]
          · rw [need_bind, eO_bind]
  · rfl
theorem rowsOf_bind {size : Nat} {h : Heap} {v : V} {k : List (List V) → Option R} : (rowsOf size h v k).bind g = rowsOf size h v fun l => (k l).bind g := by
  unfold rowsOf; split
  · split
    · rfl
    · rw [need_bind]; congr 1; split
      · rfl
      · rw [eO_bind]
  · rfl
  · rfl
theorem slMax_bind {len : Nat} {cap : Option Nat} {m : Option V} {f : Option Nat → Option R} : (slMax len cap m f).bind g = slMax len cap m fun c => (f c).bind g := by
  unfold slMax; split
  · rfl
  · rw [eI_bind]; congr 1; funext n; split <;> rw [inS_bind]
theorem slHi_bind {b : Bool} {len : Nat} {cap : Option Nat} {m : Option V} {f : Nat → Option R} : (slHi b len cap m f).bind g = slHi b len cap m fun c => (f c).bind g := by
  unfold slHi; split
  · split <;> rfl
  · rw [eI_bind]; congr 1; funext n; split <;> rw [inS_bind]
theorem slAt_bind {a : Option (Nat × Nat)} {h : Nat} {cap : Option Nat} {n : Nat} {k : Option (Nat × Nat) → Nat → Option Nat → Option R} : (slAt a h cap n k).bind g = slAt a h cap n fun a n c => (k a n c).bind g := by
  unfold slAt; split
  · rfl
  · split
    · rw [br_bind]
    · rfl
theorem slLo_bind {a : Option (Nat × Nat)} {h : Nat} {cap : Option Nat} {l : Option V} {k : Option (Nat × Nat) → Nat → Option Nat → Option R} : (slLo a h cap l k).bind g = slLo a h cap l fun a n c => (k a n c).bind g := by
  unfold slLo; split
  · rfl
  · rw [eI_bind]; congr 1; funext n; rw [inS_bind, slAt_bind]
theorem reslice_bind {a : Option (Nat × Nat)} {len : Nat} {cap : Option Nat} {l hi m : Option V} {k : Option (Nat × Nat) → Nat → Option Nat → Option R} : (reslice a len cap l hi m k).bind g = reslice a len cap l hi m fun a n c => (k a n c).bind g := by
  unfold reslice; simp only [slMax_bind, slHi_bind, slLo_bind]
theorem strLo_bind {s : ByteArray} {h : Nat} {l : Option V} {k : V → Option R} : (strLo s h l k).bind g = strLo s h l fun v => (k v).bind g := by
  unfold strLo; split
  · rfl
  · rw [eI_bind]; congr 1; funext n; rw [inS_bind]
theorem strSlice_bind {s : ByteArray} {l hi : Option V} {k : V → Option R} : (strSlice s l hi k).bind g = strSlice s l hi fun v => (k v).bind g := by
  unfold strSlice; simp only [slHi_bind, strLo_bind]
theorem maxI_bind : ∀ {xs : List V} {m : Int} {k : V → Option R}, (maxI xs m k).bind g = maxI xs m fun v => (k v).bind g
  | [], m, k => rfl
  | v :: xs, m, k => by simp only [maxI, eI_bind]; congr 1; funext n; exact maxI_bind (xs := xs)
theorem minI_bind : ∀ {xs : List V} {m : Int} {k : V → Option R}, (minI xs m k).bind g = minI xs m fun v => (k v).bind g
  | [], m, k => rfl
  | v :: xs, m, k => by simp only [minI, eI_bind]; congr 1; funext n; exact minI_bind (xs := xs)
theorem clr_bind {lo R' size : Nat} {ok : Bool} {zero : List V} {h : Heap} {a : Option (Nat × Nat)} {n : Nat} {k : Heap → Option R} : (clr lo R' size ok zero h a n k).bind g = clr lo R' size ok zero h a n fun h => (k h).bind g := by
  unfold clr; split
  · rfl
  · rw [need_bind, eO_bind]
theorem bltn_bind {X : Ctx} {lo : Nat} {b : Builtin} {ts : List TypeId} {vs : List V} {h : Heap} {k : V → Heap → Option R} : (bltn X lo b ts vs h k).bind g = bltn X lo b ts vs h fun v h => (k v h).bind g := by
  unfold bltn
  repeat' split
  all_goals simp only [need_bind, eO_bind, rowsOf_bind, app_bind, eS_bind, eI_bind, maxI_bind, minI_bind, clr_bind, none_bind']
  all_goals (try (repeat' split) <;> simp only [need_bind, eO_bind, rowsOf_bind, app_bind, eS_bind, eI_bind, maxI_bind, minI_bind, clr_bind, none_bind'])

theorem chkT_bind {X : Ctx} {o : Oper} {σ σ' : St} : ∀ {l : List Oper} {k : Option R}, (chkT X o σ σ' l k).bind g = chkT X o σ σ' l (k.bind g)
  | [], k => rfl
  | p :: l, k => by
    simp only [chkT]
    have ih : ∀ k : Option R, (chkT X o σ σ' l k).bind g = chkT X o σ σ' l (k.bind g) := fun k => chkT_bind
    split
    · split
      · split
        · split
          · split
            · rfl
            · exact ih k
          · exact ih k
          · rfl
        · exact ih k
      · rw [eO_bind]
        congr 1
        funext q
        split
        · split
          · exact ih k
          · rw [need_bind, ih k]
        · rw [need_bind, ih k]
      · rfl
    · split
      · split
        · split
          · split
            · rfl
            · exact ih k
          · exact ih k
          · rfl
        · exact ih k
      · rfl
    · rfl

/-- One operation, by itself. -/
noncomputable def stepOp (X : Ctx) (lo : Nat) (d : Option Nat) (ty : TypeId) (o : Op) (σ : St) : Option (V × St) := opT X lo d ty o σ fun v σ => some (v, σ)
theorem opT_bind {X : Ctx} {lo : Nat} {d : Option Nat} {ty : TypeId} {o : Op} {σ : St} {k : V → St → Option R} : (opT X lo d ty o σ k).bind g = opT X lo d ty o σ fun v σ => (k v σ).bind g := by
  cases o <;> simp only [opT]
  all_goals (try rfl)
  all_goals (repeat' split)
  all_goals simp only [br_bind, eBv_bind, need_bind, eO_bind, eCells_bind, binOp_bind, unOp_bind, eIu_bind, eI_bind, inB_bind, eP_bind, eT_bind, reslice_bind, strSlice_bind, eX_bind, eVal_bind, cal_bind, eRes_bind, bltn_bind, rowsOf_bind, none_bind']
  all_goals (try rfl)
theorem opT_step {X : Ctx} {lo : Nat} {d : Option Nat} {ty : TypeId} {o : Op} {σ : St} {K : V → St → Option R} : opT X lo d ty o σ K = (stepOp X lo d ty o σ).bind fun p => K p.1 p.2 := by
  unfold stepOp
  rw [opT_bind]
  rfl
theorem opT_some {X : Ctx} {lo : Nat} {d : Option Nat} {ty : TypeId} {o : Op} {σ : St} {K : V → St → Option R} {r : R} (h : opT X lo d ty o σ K = some r) : ∃ v σ', stepOp X lo d ty o σ = some (v, σ') ∧ K v σ' = some r := by
  rw [opT_step] at h
  cases hs : stepOp X lo d ty o σ with
  | none => rw [hs] at h; cases h
  | some p => rw [hs] at h; exact ⟨p.1, p.2, rfl, h⟩
end
end Go.Proofs.YtfbhdjkeofleiaaDoor.T
