/- Plain laws about T's words and memory. -/
import Derived.Test.YtfbhdjkeofleiaaDoorInfo
import Derived.IntWalk
namespace Go.Proofs.YtfbhdjkeofleiaaDoor
open Go T
set_option linter.unusedVariables false
set_option linter.unusedSimpArgs false
section words
variable {R : Type}
@[simp] theorem br_t (x y : Option R) : br true x y = x := rfl
@[simp] theorem br_f (x y : Option R) : br false x y = y := rfl
@[simp] theorem br_same (b : Bool) (x : Option R) : br b x x = x := by cases b <;> rfl
@[simp] theorem need_t (x : Option R) : need true x = x := rfl
@[simp] theorem eI_int (k : IntKind) (n : Int) (f : Int → Option R) : eI k (.int k n) f = f n := by simp [eI]
@[simp] theorem eBv_b (b : Bool) (f : Bool → Option R) : eBv (.bool b) f = f b := rfl
@[simp] theorem eB_b (b : Bool) (x y : Option R) : eB (.bool b) x y = br b x y := rfl
@[simp] theorem eT_s (s : ByteArray) (f : ByteArray → Option R) : eT (.str s) f = f s := rfl
@[simp] theorem eS_sl (q : Nat) (a : Option (Nat × Nat)) (n : Nat) (c : Option Nat) (f : Option (Nat × Nat) → Nat → Option Nat → Option R) : eS q (.sl q a n c) f = f a n c := by
  unfold eS
  cases a with
  | none => rfl
  | some p => simp
@[simp] theorem eP_p (p : Option (Nat × Nat × Nat)) (f : Option (Nat × Nat × Nat) → Option R) : eP (.ptr p) f = f p := rfl
@[simp] theorem eM_m (p : Option Nat) (f : Option Nat → Option R) : eM (.map p) f = f p := rfl
@[simp] theorem eF_f (g : Nat) (cs : List V) (f : Nat → List V → Option R) : eF (.fn g cs) f = f g cs := rfl
@[simp] theorem eE_ifc (t : Nat) (v : V) (f : Nat → V → Option R) (z : Option R) : eE (.ifc t v) f z = f t v := rfl
@[simp] theorem eE_nil (f : Nat → V → Option R) (z : Option R) : eE .nili f z = z := rfl
@[simp] theorem eA_a (cs : List V) (f : List V → Option R) : eA (.agg cs) f = f cs := rfl
@[simp] theorem eU_t (cs : List V) (f : List V → Option R) : eU (.tup cs) f = f cs := rfl
@[simp] theorem eC_c (v : V) (r : List V) (f : V → List V → Option R) : eC (v :: r) f = f v r := rfl
@[simp] theorem eN_n (x : Option R) : eN [] x = x := rfl
@[simp] theorem eO_s {α : Type} (x : α) (f : α → Option R) : eO (some x) f = f x := rfl
@[simp] theorem eX_s {α : Type} (x : α) (f : α → Option R) (z : Option R) : eX (some x) f z = f x := rfl
@[simp] theorem eX_n {α : Type} (f : α → Option R) (z : Option R) : eX none f z = z := rfl
@[simp] theorem cal_s {α : Type} (v : V) (h : α) (f : V → α → Option R) : cal (some (v, h)) f = f v h := rfl
@[simp] theorem dflt_s (v z : V) : dflt (some v) z = v := rfl
@[simp] theorem dflt_n (z : V) : dflt none z = z := rfl
theorem inB_in {i : Int} {n : Nat} (h : 0 ≤ i ∧ i < n) (f : Option R) : inB i n f = f := by unfold inB; rw [decide_eq_true h]
@[simp] theorem inB_nat {k n : Nat} (h : k < n) (f : Option R) : inB (k : Int) n f = f := inB_in ⟨by omega, by omega⟩ f
theorem inS_in {i : Int} {n : Nat} (h : 0 ≤ i ∧ i ≤ n) (f : Option R) : inS i n f = f := by unfold inS; rw [decide_eq_true h]
theorem need_of {p : Prop} [Decidable p] (h : p) (f : Option R) : need (decide p) f = f := by rw [decide_eq_true h]; rfl
theorem cat_of {a b : ByteArray} {f : ByteArray → Option R} (h : a.size + b.size ≤ 9223372036854775807) : cat a b f = f (a ++ b) := by
  have h9 : IntKind.i64.max = 9223372036854775807 := by decide
  rw [cat_eq, need_of (by omega)]
theorem br_pos {p : Prop} [Decidable p] (h : p) (x y : Option R) : br (decide p) x y = x := by rw [decide_eq_true h]; rfl
theorem br_neg {p : Prop} [Decidable p] (h : ¬ p) (x y : Option R) : br (decide p) x y = y := by rw [decide_eq_false h]; rfl
/-- ways that meet in a bool -/
@[simp] theorem br_bool {α : Type} (b c d : Bool) (h : α) : br b (some (V.bool c, h)) (some (V.bool d, h)) = some (V.bool (bif b then c else d), h) := by cases b <;> rfl
end words
/-- numbers that fit -/
theorem wr {n : Int} (h1 : -9223372036854775808 ≤ n) (h2 : n ≤ 9223372036854775807) : IntKind.i64.wrap n = n := IntWalk.i64_in n ⟨h1, h2⟩
theorem wr_succ {k : Nat} (h : k < 9223372036854775807) : IntKind.i64.wrap ((k : Int) + 1) = ((k + 1 : Nat) : Int) := by rw [wr (by omega) (by omega)]; omega

/-! ### slices in memory -/
/-- what a slice reads as: rows of cells -/
def Sl (h : Heap) (rows : List (List V)) (a : Option (Nat × Nat)) (n : Nat) : Prop :=
  n = rows.length ∧ (rows = [] ∨ ∃ b i rs, a = some (b, i) ∧ Heap.rows? h b = some rs ∧ (rs.drop i).take n = rows)

theorem Sl.len {h : Heap} {rows : List (List V)} {a : Option (Nat × Nat)} {n : Nat} (s : Sl h rows a n) : n = rows.length := s.1
theorem Sl.nil {h : Heap} {a : Option (Nat × Nat)} : Sl h [] a 0 := ⟨rfl, .inl rfl⟩
theorem Sl.read {h : Heap} {rows : List (List V)} {a : Option (Nat × Nat)} {n k : Nat} {row : List V} (s : Sl h rows a n) (hk : rows[k]? = some row) :
    ∃ o, a = some o ∧ ∀ j m, ld h o.1 (o.2 + k) j m = cut row j m := by
  obtain ⟨h1, h2 | ⟨b, i, rs, h2, h3, h4⟩⟩ := s
  · subst h2; simp at hk
  · refine ⟨(b, i), h2, fun j m => ?_⟩
    have hlt : k < rows.length := (List.getElem?_eq_some_iff.1 hk).1
    have : rs[i + k]? = some row := by
      rw [← h4, List.getElem?_take_of_lt (by omega), List.getElem?_drop] at hk
      exact hk
    simp only [ld, h3, Option.bind_some, this]
theorem Sl.mono {h h' : Heap} {rows : List (List V)} {a : Option (Nat × Nat)} {n : Nat} (s : Sl h rows a n) (hp : h <+: h') : Sl h' rows a n := by
  obtain ⟨h1, h2 | ⟨b, i, rs, h2, h3, h4⟩⟩ := s
  · exact ⟨h1, .inl h2⟩
  · refine ⟨h1, .inr ⟨b, i, rs, h2, ?_, h4⟩⟩
    obtain ⟨t, rfl⟩ := hp
    unfold Heap.rows? at h3 ⊢
    have hb : b < h.length := by
      apply Nat.lt_of_not_le
      intro hle
      rw [List.getElem?_eq_none hle] at h3; cases h3
    rw [List.getElem?_append_left hb]; exact h3
/-- a block that was just laid -/
theorem rows_last {h : Heap} {R e : Nat} {ro : Bool} {rs : List (List V)} : Heap.rows? (h ++ [.rows R e ro rs]) h.length = some rs := by simp [Heap.rows?]
theorem Sl.last {h : Heap} {R e : Nat} {ro : Bool} {rows : List (List V)} {n : Nat} (hn : n = rows.length) : Sl (h ++ [.rows R e ro rows]) rows (some (h.length, 0)) n :=
  ⟨hn, .inr ⟨h.length, 0, rows, rfl, rows_last, by simp [hn]⟩⟩
theorem st_last {lo : Nat} {h : Heap} {R e : Nat} {rs : List (List V)} {i j : Nat} {row row' cs : List V} (hl : lo ≤ h.length) (hi : rs[i]? = some row) (hp : paste row j cs = some row') :
    st lo (h ++ [.rows R e false rs]) h.length i j cs = some (h ++ [.rows R e false (rs.set i row')]) := by
  have hb : Nat.ble lo h.length = true := by simpa [Nat.ble_eq] using hl
  simp [st, hb, hi, hp]
theorem ld_last {h : Heap} {R e : Nat} {ro : Bool} {rs : List (List V)} {i j n : Nat} {row : List V} (hi : rs[i]? = some row) : ld (h ++ [.rows R e ro rs]) h.length i j n = cut row j n := by
  simp [ld, rows_last, hi]
/-- rows laid one by one over zeros -/
theorem fill_set {α : Type} {xs : List α} {z x : α} {k : Nat} (hk : xs[k]? = some x) : (xs.take k ++ List.replicate (xs.length - k) z).set k x = xs.take (k + 1) ++ List.replicate (xs.length - (k + 1)) z := by
  have hlt := (List.getElem?_eq_some_iff.1 hk).1
  have hx := (List.getElem?_eq_some_iff.1 hk).2
  rw [List.set_append_right _ _ (by simp; omega)]
  have h1 : k - (xs.take k).length = 0 := by simp; omega
  rw [h1, show xs.length - k = (xs.length - (k + 1)) + 1 by omega, List.replicate_succ, List.set_cons_zero, List.take_add_one, hk]
  simp
theorem fill_get {α : Type} {xs : List α} {z : α} {k : Nat} (hk : k < xs.length) : (xs.take k ++ List.replicate (xs.length - k) z)[k]? = some z := by
  rw [List.getElem?_append_right (by simp; omega), List.getElem?_replicate, if_pos]
  simp only [List.length_take]; omega
theorem cut_one {row : List V} {j : Nat} {v : V} (h : row[j]? = some v) : cut row j 1 = some [v] := by
  have hlt := (List.getElem?_eq_some_iff.1 h).1
  have hx := (List.getElem?_eq_some_iff.1 h).2
  rw [cut_of (by omega), List.drop_eq_getElem_cons hlt, hx]; rfl
theorem paste_one {row : List V} {j : Nat} {v : V} (h : j < row.length) : paste row j [v] = some (row.set j v) := by
  induction j generalizing row with
  | zero => cases row with
    | nil => simp at h
    | cons x r => simp [paste]
  | succ j ih => cases row with
    | nil => simp at h
    | cons x r => simp only [paste]; rw [ih (by simpa using h)]; rfl

/-! ### maps -/
section maps
variable {K U : Type} [DecidableEq K]
def asGet (k : K) : List (K × U) → Option U
  | [] => none
  | (x, v) :: r => if k = x then some v else asGet k r
def asSet (k : K) (u : U) : List (K × U) → List (K × U)
  | [] => [(k, u)]
  | (x, v) :: r => if k = x then (k, u) :: r else (x, v) :: asSet k u r
theorem asGet_set {k k' : K} {u : U} : ∀ {m : List (K × U)}, asGet k' (asSet k u m) = if k' = k then some u else asGet k' m
  | [] => by simp [asSet, asGet]
  | (x, v) :: r => by
    simp only [asSet]
    by_cases h : k = x
    · subst h
      by_cases h' : k' = k <;> simp [asGet, h']
    · rw [if_neg h]
      simp only [asGet]
      rw [asGet_set (m := r)]
      by_cases h' : k' = x
      · subst h'
        have : ¬ k' = k := fun e => h e.symm
        simp [this]
      · simp [h']
/-- a map's rows -/
def mapKV (ek : K → V) (eu : U → V) (m : List (K × U)) : List (V × V) := m.map fun p => (ek p.1, eu p.2)
theorem kvFind_as {ek : K → V} {eu : U → V} (hk : ∀ a b, eqV (ek a) (ek b) = some (decide (a = b))) {k : K} : ∀ {m : List (K × U)}, kvFind (ek k) (mapKV ek eu m) = some ((asGet k m).map eu)
  | [] => rfl
  | (x, v) :: r => by
    have ih := kvFind_as (eu := eu) hk (k := k) (m := r)
    simp only [mapKV] at ih
    simp only [mapKV, List.map_cons, kvFind, hk, asGet]
    by_cases h : k = x
    · simp [h]
    · simp only [h, decide_false, if_false]; exact ih
theorem kvSet_as {ek : K → V} {eu : U → V} (hk : ∀ a b, eqV (ek a) (ek b) = some (decide (a = b))) {k : K} {u : U} : ∀ {m : List (K × U)}, kvSet (ek k) (eu u) (mapKV ek eu m) = some (mapKV ek eu (asSet k u m))
  | [] => rfl
  | (x, v) :: r => by
    have ih := kvSet_as (eu := eu) hk (k := k) (u := u) (m := r)
    simp only [mapKV] at ih
    simp only [mapKV, List.map_cons, kvSet, hk, asSet]
    by_cases h : k = x
    · simp [h]
    · simp only [h, decide_false, if_false]; rw [ih]; rfl
end maps
theorem kv_last {h : Heap} {t : Nat} {kv : List (V × V)} : Heap.kv? (h ++ [.map t kv]) h.length = some kv := by simp [Heap.kv?]
theorem set_last {h : Heap} {b b' : Blk} : List.set (h ++ [b]) h.length b' = h ++ [b'] := by simp
end Go.Proofs.YtfbhdjkeofleiaaDoor
