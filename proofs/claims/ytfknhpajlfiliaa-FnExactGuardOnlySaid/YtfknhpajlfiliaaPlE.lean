/- GuardOnly: what one client did; marks. -/
import Derived.Test.YtfknhpajlfiliaaPlD
import Derived.Test.YtfknhpajlfiliaaPlS
namespace Go.Proofs.Ytfknhpajlfiliaa
open Go T
set_option linter.unusedVariables false
set_option linter.unusedSimpArgs false

/-- memory that grew; the first 'n' blocks as they were -/
def Keep (n : Nat) (h h' : Heap) : Prop := h.length ≤ h'.length ∧ ∀ b, b < n → h'[b]? = h[b]?
theorem Keep.refl (n : Nat) (h : Heap) : Keep n h h := ⟨Nat.le_refl _, fun _ _ => rfl⟩
theorem Keep.trans {n : Nat} {h h' h'' : Heap} (a : Keep n h h') (b : Keep n h' h'') : Keep n h h'' := ⟨Nat.le_trans a.1 b.1, fun x hx => (b.2 x hx).trans (a.2 x hx)⟩
theorem Keep.snoc {n : Nat} {h : Heap} {t : List Blk} (hn : n ≤ h.length) : Keep n h (h ++ t) := ⟨by simp, fun b hb => List.getElem?_append_left (by omega)⟩
theorem rows_tmp {R : Type} {sz e : Nat} {ro : Bool} {h : Heap} {row : List V} {c : Option Nat} {K : List (List V) → Option R} : rowsOf sz (h ++ [.rows sz e ro [row]]) (.sl sz (some (h.length, 0)) 1 c) K = K [row] := by
  simp [rowsOf, ldRows, rows_last, need]

abbrev RDones := Sli false 5 35 (flat Done.cs)
theorem Done.ln (d : Done) : d.cs.length = 5 := rfl
theorem Sli.sl {α : Type} {cs : α → List V} {ro : Bool} {R R' e n : Nat} {a : Option (Nat × Nat)} {c : Option Nat} {h : Heap} {l : List α} {F : List Nat} (hs : Sli ro R e (flat cs) h [.sl R' a n c] l F) : Sl h (l.map cs) a n := by
  have hn := hs.val
  subst hn
  obtain ⟨R1, a1, c1, e1, e2⟩ := hs
  injection e1 with e1 _; injection e1 with _ e3 _ e4
  subst e3; subst e4
  cases a with
  | none => obtain ⟨rfl, _⟩ := e2; exact ⟨rfl, .inl rfl⟩
  | some p =>
    obtain ⟨b, i⟩ := p
    obtain ⟨_, rs, Fs, g1, g2, _, _, g5, _⟩ := e2
    obtain ⟨g6, _⟩ := g5.of_flat
    exact ⟨by simp, .inr ⟨b, i, rs, rfl, by simp [Heap.rows?, g1], g6⟩⟩

section
variable {lo : Nat} {h : Heap}
theorem toDoneS_new {l : List Done} {a : Option (Nat × Nat)} {n : Nat} {c : Option Nat} (hs : Sl h (l.map Done.cs) a n) (hl : lo ≤ h.length) (hn : n ≤ 1048576) :
    ∃ h', evl lo 10 [.sl 5 a n c] h = some (.sl 5 (some (h.length, 0)) n (some n), h') ∧ RDones h' [.sl 5 (some (h.length, 0)) n (some n)] l [h.length] ∧ h <+: h' ∧ h'.length = h.length + 1 := by
  have hlen : n = l.length := by simpa using hs.len
  refine ⟨_, laws_toDoneS hs hl hn, ⟨5, some (h.length, 0), some n, by rw [hlen], rfl, l.map Done.cs, l.map fun _ => [], by simp, by simp, fun k hk => ?_, fun h => (by cases h), ?_, by simp⟩, ⟨_, rfl⟩, by simp⟩
  · injection hk with hk; subst hk; simp; omega
  · rw [List.drop_zero, List.take_of_length_le (by simp)]; exact EAll.flat

theorem spec_l11Only {l : List Done} {a : Option (Nat × Nat)} {n : Nat} {c : Option Nat} {s : Int} (hs : Sl h (l.map Done.cs) a n) (hl : lo ≤ h.length) (hn : n ≤ 1048576) :
    ∃ v h' F, evl lo 28 [.sl 5 a n c, .int .i64 s] h = some (v, h') ∧ RDones h' [v] (l.filter fun d => d.sess == s) F ∧ Keep h.length h h' ∧ (∀ b ∈ F, h.length ≤ b ∧ b < h'.length) ∧ F.Nodup := by
  have hlen : n = l.length := by simpa using hs.len
  have loop : ∀ m i a5 n5 c5 hh F, m + i = n → RDones hh [.sl 5 a5 n5 c5] ((l.take i).filter fun d => d.sess == s) F → Keep h.length h hh → (∀ b ∈ F, h.length ≤ b ∧ b < hh.length) → F.Nodup →
      ∃ v h' F, L_spec_l11Only_0 lo a n c s a5 n5 c5 (i : Nat) hh = some (v, h') ∧ RDones h' [v] (l.filter fun d => d.sess == s) F ∧ Keep h.length h h' ∧ (∀ b ∈ F, h.length ≤ b ∧ b < h'.length) ∧ F.Nodup := by
    intro m
    induction m with
    | zero =>
      intro i a5 n5 c5 hh F hi hr hk hF hnd
      rw [L_spec_l11Only_0.e, br_neg (by omega)]
      rw [List.take_of_length_le (by omega)] at hr
      exact ⟨_, hh, F, rfl, hr, hk, hF, hnd⟩
    | succ m ih =>
      intro i a5 n5 c5 hh F hi hr hk hF hnd
      have hlt : i < l.length := by omega
      have hs' : Sl hh (l.map Done.cs) a n := by
        obtain ⟨h1, h2 | ⟨b, j, rs, h2, h3, h4⟩⟩ := hs
        · exact ⟨h1, .inl h2⟩
        · refine ⟨h1, .inr ⟨b, j, rs, h2, ?_, h4⟩⟩
          have hb : b < h.length := by
            apply Nat.lt_of_not_le
            intro hle
            rw [Heap.rows?, List.getElem?_eq_none hle] at h3; cases h3
          unfold Heap.rows? at h3 ⊢
          rw [hk.2 b hb]; exact h3
      obtain ⟨o, rfl, ho⟩ := hs'.read (show (l.map Done.cs)[i]? = some (l[i].cs) by simp [hlt])
      have htk : l.take (i + 1) = l.take i ++ [l[i]] := by rw [List.take_add_one, List.getElem?_eq_getElem hlt]; rfl
      rw [L_spec_l11Only_0.e, br_pos (by omega), inB_nat (by omega)]
      simp only [eO_s, Int.toNat_natCast, ho, Done.cs, cut, eC_c, eI_int, eN_n, inB_nat (show i < n by omega), wr_succ (show i < 9223372036854775807 by omega), rows_tmp]
      by_cases he : l[i].sess = s
      · have e1 : (l[i].sess == s) = true := by simp [he]
        have hk2 : Keep h.length h (hh ++ [.rows 5 35 false [l[i].cs]]) := hk.trans (Keep.snoc hk.1)
        have hr2 : RDones (hh ++ [.rows 5 35 false [l[i].cs]]) [.sl 5 a5 n5 c5] ((l.take i).filter fun d => d.sess == s) F := Sli.fr flat_fr _ _ _ _ _ hr fun b hb => List.getElem?_append_left (hF b hb).2
        have hle : ((l.take i).filter fun d => d.sess == s).length ≤ i := Nat.le_trans (List.length_filter_le _ _) (by simp; omega)
        obtain ⟨a', c', h', F', p1, p2, p3, p4, p5, p6⟩ := Sli.push (lo := lo) (bytes := 40) flat_fr hr2 (xs := [l[i].cs]) (ys := [l[i]]) (Gs := [[]]) ⟨⟨rfl, rfl⟩, trivial⟩ (by decide) (by simp; omega) (fun b hb => Nat.le_trans hl (hF b hb).1) (Nat.le_trans hl hk2.1)
          (by simpa using hnd) (fun b hb => by have := (hF b (by simpa using hb)).2; simp; omega) (by simp)
        rw [e1, br_t]
        simp only [Done.cs] at p1
        rw [p1, eS_sl]
        refine ih (i + 1) _ _ _ h' F' (by omega) ?_ ⟨Nat.le_trans hk2.1 p3, fun b hb => ?_⟩ (fun b hb => ?_) p6
        · rw [htk, List.filter_append]; simpa [e1] using p2
        · have h1 : b < hh.length := Nat.lt_of_lt_of_le hb hk.1
          rw [p4 b (by simp; omega) fun hm => by have := (hF b hm).1; omega, List.getElem?_append_left h1, hk.2 b hb]
        · have h0 := hk.1
          rcases p5 b hb with h1 | h1
          · have := hF b (by simpa using h1); simp at p3; omega
          · simp at h1; omega
      · have e1 : (l[i].sess == s) = false := by simpa using he
        rw [e1, br_f]
        refine ih (i + 1) _ _ _ hh F (by omega) ?_ hk hF hnd
        rw [htk, List.filter_append]; simpa [e1] using hr
  obtain ⟨v, h', F, q1, q2⟩ := loop n 0 (some (h.length, 0)) 0 (some 0) (h ++ [.rows 5 35 false []]) [h.length] (by omega) ⟨5, some (h.length, 0), some 0, by simp, rfl, [], [], by simp, by simp, fun k hk => by injection hk with hk; subst hk; simp, fun h => (by cases h), by simp [EAll], by simp⟩
    (Keep.snoc (Nat.le_refl _)) (by simp) (by simp)
  exact ⟨v, h', F, E_spec_l11Only q1, q2⟩

theorem Sl.keep {rows : List (List V)} {a : Option (Nat × Nat)} {n : Nat} {hh : Heap} (hs : Sl h rows a n) (hk : Keep h.length h hh) : Sl hh rows a n := by
  obtain ⟨h1, h2 | ⟨b, j, rs, h2, h3, h4⟩⟩ := hs
  · exact ⟨h1, .inl h2⟩
  · refine ⟨h1, .inr ⟨b, j, rs, h2, ?_, h4⟩⟩
    have hb : b < h.length := by
      apply Nat.lt_of_not_le
      intro hle
      rw [Heap.rows?, List.getElem?_eq_none hle] at h3; cases h3
    unfold Heap.rows? at h3 ⊢
    rw [hk.2 b hb]; exact h3
def guardOnly (s : Int) (l : List Done) : List Done := if formed l = true then l.filter (fun d => d.sess == s) else []
theorem spec_GuardOnly {l : List Done} {a : Option (Nat × Nat)} {n : Nat} {c : Option Nat} {s : Int} (hs : Sl h (l.map Done.cs) a n) (hl : lo ≤ h.length) (hn : n ≤ 1048576) :
    ∃ v h' F, evl lo 15 [.sl 5 a n c, .int .i64 s] h = some (v, h') ∧ RDones h' [v] (guardOnly s l) F ∧ Keep h.length h h' ∧ (∀ b ∈ F, h.length ≤ b ∧ b < h'.length) ∧ F.Nodup := by
  unfold guardOnly
  cases hf : formed l with
  | false =>
    refine ⟨_, h, [], E_spec_GuardOnly ?_, Sli.nil (R' := 0), Keep.refl _ _, by simp, by simp⟩
    rw [spec_l6Form hs hn, hf]; simp only [cal_s, eB_b, br_f]
  | true =>
    obtain ⟨v, h', F, q1, q2, q3⟩ := spec_l11Only (s := s) (c := c) hs hl hn
    obtain ⟨a', c', e1, e2⟩ := q2.form
    refine ⟨_, h', F, E_spec_GuardOnly ?_, by simpa using e2, q3⟩
    rw [spec_l6Form hs hn, hf]; simp only [cal_s, eB_b, br_t, q1]; rw [e1]
theorem impl_GuardOnly {l : List Done} {a : Option (Nat × Nat)} {n : Nat} {c : Option Nat} {s : Int} (hs : Sl h (l.map Done.cs) a n) (hl : lo ≤ h.length) (hn : n ≤ 1048576) :
    ∃ v h' F, evl lo 16 [.sl 5 a n c, .int .i64 s] h = some (v, h') ∧ RDones h' [v] (guardOnly s l) F ∧ Keep h.length h h' ∧ (∀ b ∈ F, h.length ≤ b ∧ b < h'.length) ∧ F.Nodup := by
  have hlen : n = l.length := by simpa using hs.len
  have loop : ∀ m i a5 n5 c5 hh F, m + i = n → RDones hh [.sl 5 a5 n5 c5] ((l.take i).filter fun d => d.sess == s) F → Keep h.length h hh → (∀ b ∈ F, h.length ≤ b ∧ b < hh.length) → F.Nodup →
      ∃ v h' F, L_impl_GuardOnly_0 lo s a5 n5 c5 a n c (n : Nat) (i : Nat) hh = some (v, h') ∧ RDones h' [v] (l.filter fun d => d.sess == s) F ∧ Keep h.length h h' ∧ (∀ b ∈ F, h.length ≤ b ∧ b < h'.length) ∧ F.Nodup := by
    intro m
    induction m with
    | zero =>
      intro i a5 n5 c5 hh F hi hr hk hF hnd
      rw [L_impl_GuardOnly_0.e, br_neg (by omega), reslice_clip hr]
      rw [List.take_of_length_le (by omega)] at hr
      exact ⟨_, hh, F, rfl, hr.clip, hk, hF, hnd⟩
    | succ m ih =>
      intro i a5 n5 c5 hh F hi hr hk hF hnd
      have hlt : i < l.length := by omega
      obtain ⟨o, rfl, ho⟩ := (hs.keep hk).read (show (l.map Done.cs)[i]? = some (l[i].cs) by simp [hlt])
      have htk : l.take (i + 1) = l.take i ++ [l[i]] := by rw [List.take_add_one, List.getElem?_eq_getElem hlt]; rfl
      rw [L_impl_GuardOnly_0.e, br_pos (by omega), inB_nat (by omega)]
      simp only [eO_s, Int.toNat_natCast, ho, Done.cs, cut, eC_c, eI_int, eN_n, wr_succ (show i < 9223372036854775807 by omega), rows_tmp]
      by_cases he : l[i].sess = s
      · have e1 : (l[i].sess == s) = true := by simp [he]
        have hk2 : Keep h.length h (hh ++ [.rows 5 35 false [l[i].cs]]) := hk.trans (Keep.snoc hk.1)
        have hr2 : RDones (hh ++ [.rows 5 35 false [l[i].cs]]) [.sl 5 a5 n5 c5] ((l.take i).filter fun d => d.sess == s) F := Sli.fr flat_fr _ _ _ _ _ hr fun b hb => List.getElem?_append_left (hF b hb).2
        have hle : ((l.take i).filter fun d => d.sess == s).length ≤ i := Nat.le_trans (List.length_filter_le _ _) (by simp; omega)
        obtain ⟨a', c', h', F', p1, p2, p3, p4, p5, p6⟩ := Sli.push (lo := lo) (bytes := 40) flat_fr hr2 (xs := [l[i].cs]) (ys := [l[i]]) (Gs := [[]]) ⟨⟨rfl, rfl⟩, trivial⟩ (by decide) (by simp; omega) (fun b hb => Nat.le_trans hl (hF b hb).1) (Nat.le_trans hl hk2.1)
          (by simpa using hnd) (fun b hb => by have := (hF b (by simpa using hb)).2; simp; omega) (by simp)
        rw [e1, br_t]
        simp only [Done.cs] at p1
        rw [p1, eS_sl]
        refine ih (i + 1) _ _ _ h' F' (by omega) ?_ ⟨Nat.le_trans hk2.1 p3, fun b hb => ?_⟩ (fun b hb => ?_) p6
        · rw [htk, List.filter_append]; simpa [e1] using p2
        · have h1 : b < hh.length := Nat.lt_of_lt_of_le hb hk.1
          rw [p4 b (by simp; omega) fun hm => by have := (hF b hm).1; omega, List.getElem?_append_left h1, hk.2 b hb]
        · have h0 := hk.1
          rcases p5 b hb with h1 | h1
          · have := hF b (by simpa using h1); simp at p3; omega
          · simp at h1; omega
      · have e1 : (l[i].sess == s) = false := by simpa using he
        rw [e1, br_f]
        refine ih (i + 1) _ _ _ hh F (by omega) ?_ hk hF hnd
        rw [htk, List.filter_append]; simpa [e1] using hr
  unfold guardOnly
  cases hf : formed l with
  | false =>
    refine ⟨_, h, [], E_impl_GuardOnly ?_, Sli.nil (R' := 0), Keep.refl _ _, by simp, by simp⟩
    rw [impl_formed hs hn, hf]; simp only [cal_s, eB_b, br_f]
  | true =>
    obtain ⟨v, h', F, q1, q2, q3⟩ := loop n 0 (some (h.length, 0)) 0 (some n) (h ++ [.rows 5 35 false (List.replicate n [.int .i64 0, .int .i64 0, .int .i64 0, .int .i64 0, .int .i64 0])]) [h.length] (by omega)
      ⟨5, some (h.length, 0), some n, by simp, rfl, List.replicate n [.int .i64 0, .int .i64 0, .int .i64 0, .int .i64 0, .int .i64 0], [], by simp, by simp, fun k hk => by injection hk with hk; subst hk; simp, fun h => (by cases h), by simp [EAll], by simp⟩
      (Keep.snoc (Nat.le_refl _)) (by simp) (by simp)
    refine ⟨v, h', F, E_impl_GuardOnly ?_, by simpa using q2, q3⟩
    rw [impl_formed hs hn, hf]; simp only [cal_s, eB_b, br_t]
    rw [need_of (by omega)]
    exact q1

/-! ### marks -/
def mkDone (k : Int) : Done := ⟨k, k + 1, k + 2, ⟨k + 3, k + 4⟩⟩
def mkDones : List Done → Int → List Done
  | [], _ => []
  | _ :: r, k => mkDone k :: mkDones r (k + 5)
theorem mkDones_len : ∀ {l : List Done} {k : Int}, (mkDones l k).length = l.length
  | [], k => rfl
  | d :: l, k => by simp [mkDones, mkDones_len]
theorem mkDones_get : ∀ {l : List Done} {k : Int} {i : Nat} (h : i < (mkDones l k).length), (mkDones l k)[i] = mkDone (k + 5 * i)
  | [], k, i, h => by simp [mkDones] at h
  | d :: l, k, 0, h => by simp [mkDones]
  | d :: l, k, i + 1, h => by
    simp only [mkDones, List.getElem_cons_succ]
    rw [mkDones_get]
    congr 1
    push_cast
    omega
theorem laws_markDoneS {l : List Done} {a : Option (Nat × Nat)} {n : Nat} {c : Option Nat} {F : List Nat} {k : Int} (hs : RDones h [.sl 5 a n c] l F) (hlo : ∀ b ∈ F, lo ≤ b) (hnd : F.Nodup) (hk : 0 ≤ k ∧ k ≤ 1000000000) (hn : n ≤ 1048576) :
    ∃ h', evl lo 17 [.sl 5 a n c, .int .i64 k] h = some (.int .i64 (k + 5 * n), h') ∧ RDones h' [.sl 5 a n c] (mkDones l k) F ∧ h'.length = h.length ∧ ∀ b, b ∉ F → h'[b]? = h[b]? := by
  have hlen := hs.val
  have loop : ∀ m i hh, m + i = n → RDones hh [.sl 5 a n c] ((mkDones l k).take i ++ l.drop i) F → hh.length = h.length → (∀ b, b ∉ F → hh[b]? = h[b]?) →
      ∃ h', L_laws_markDoneS_0 lo a n c (k + 5 * i) (i : Nat) hh = some (.int .i64 (k + 5 * n), h') ∧ RDones h' [.sl 5 a n c] (mkDones l k) F ∧ h'.length = h.length ∧ ∀ b, b ∉ F → h'[b]? = h[b]? := by
    intro m
    induction m with
    | zero =>
      intro i hh hi hr h1 h2
      have : i = n := by omega
      subst this
      rw [L_laws_markDoneS_0.e, br_neg (by omega)]
      rw [List.take_of_length_le (by rw [mkDones_len]; omega), List.drop_eq_nil_of_le (by omega), List.append_nil] at hr
      exact ⟨hh, rfl, hr, h1, h2⟩
    | succ m ih =>
      intro i hh hi hr h1 h2
      have hlt : i < ((mkDones l k).take i ++ l.drop i).length := by simp [mkDones_len]; omega
      obtain ⟨b, j, rs, row, G, rfl, hbF, _, hb, hrow, hel, _, _, hput⟩ := Sli.put flat_fr hr hlt hnd
      obtain ⟨rfl, rfl⟩ := hel
      generalize hd : ((mkDones l k).take i ++ l.drop i)[i] = d at hrow
      have hrl : j + i < rs.length := (List.getElem?_eq_some_iff.1 hrow).1
      have hbl : b < hh.length := (List.getElem?_eq_some_iff.1 hb).1
      have hlob := hlo b hbF
      rw [L_laws_markDoneS_0.e, br_pos (by omega), inB_nat (by omega)]
      simp only [eO_s, Int.toNat_natCast]
      rw [st_first hb hlob hrow (row' := [.int .i64 (k + 5 * i), .int .i64 d.kind, .int .i64 d.key, .int .i64 d.tag.time, .int .i64 d.tag.place]) (by rfl), eO_s, inB_nat (by omega)]
      rw [wr (n := k + 5 * ↑i + 1) (by omega) (by omega), wr (n := k + 5 * ↑i + 1 + 1) (by omega) (by omega), wr (n := k + 5 * ↑i + 1 + 1 + 1) (by omega) (by omega), wr (n := k + 5 * ↑i + 1 + 1 + 1 + 1) (by omega) (by omega), wr (n := k + 5 * ↑i + 1 + 1 + 1 + 1 + 1) (by omega) (by omega), wr_succ (by omega)]
      rw [st_next hbl hlob hrl (row' := [.int .i64 (k + 5 * i), .int .i64 (k + 5 * i + 1), .int .i64 d.key, .int .i64 d.tag.time, .int .i64 d.tag.place]) (by rfl), eO_s, inB_nat (by omega)]
      rw [st_next hbl hlob hrl (row' := [.int .i64 (k + 5 * i), .int .i64 (k + 5 * i + 1), .int .i64 (k + 5 * i + 1 + 1), .int .i64 d.tag.time, .int .i64 d.tag.place]) (by rfl), eO_s, inB_nat (by omega)]
      rw [st_next hbl hlob hrl (row' := [.int .i64 (k + 5 * i), .int .i64 (k + 5 * i + 1), .int .i64 (k + 5 * i + 1 + 1), .int .i64 (k + 5 * i + 1 + 1 + 1), .int .i64 d.tag.place]) (by rfl), eO_s, inB_nat (by omega)]
      rw [st_next hbl hlob hrl (row' := [.int .i64 (k + 5 * i), .int .i64 (k + 5 * i + 1), .int .i64 (k + 5 * i + 1 + 1), .int .i64 (k + 5 * i + 1 + 1 + 1), .int .i64 (k + 5 * i + 1 + 1 + 1 + 1)]) (by rfl), eO_s]
      have hrw : (mkDone (k + 5 * i)).cs = [.int .i64 (k + 5 * i), .int .i64 (k + 5 * i + 1), .int .i64 (k + 5 * i + 1 + 1), .int .i64 (k + 5 * i + 1 + 1 + 1), .int .i64 (k + 5 * i + 1 + 1 + 1 + 1)] := by
        simp only [mkDone, Done.cs]
        rw [show k + 5 * (i : Int) + 1 + 1 = k + 5 * i + 2 by omega, show k + 5 * (i : Int) + 2 + 1 = k + 5 * i + 3 by omega, show k + 5 * (i : Int) + 3 + 1 = k + 5 * i + 4 by omega]
      obtain ⟨F', q1, _, _, q4⟩ := hput (hh.set b (.rows 5 35 false (rs.set (j + i) (mkDone (k + 5 * i)).cs))) (mkDone (k + 5 * i)).cs (mkDone (k + 5 * i)) [] (by simp [hbl]) (fun y hy hyb _ => List.getElem?_set_ne (Ne.symm hyb)) ⟨rfl, rfl⟩ (by simp) (by simp)
      rw [q4 rfl] at q1
      rw [hrw] at q1
      have := ih (i + 1) _ (by omega) (by
        have e : ((mkDones l k).take i ++ l.drop i).set i (mkDone (k + 5 * i)) = (mkDones l k).take (i + 1) ++ l.drop (i + 1) := by
          have hil : i < l.length := by omega
          rw [List.set_append_right _ _ (by simp [mkDones_len]; omega), show i - ((mkDones l k).take i).length = 0 by simp [mkDones_len]; omega, List.drop_eq_getElem_cons hil, List.set_cons_zero,
            List.take_add_one, List.getElem?_eq_getElem (by rw [mkDones_len]; exact hil), mkDones_get]
          simp
        rw [← e]; exact q1) (by simpa using h1) (fun x hx => by
          rw [List.getElem?_set_ne (show b ≠ x from fun e => hx (by rw [← e]; exact hbF))]; exact h2 x hx)
      rw [show k + 5 * ((i + 1 : Nat) : Int) = k + 5 * i + 1 + 1 + 1 + 1 + 1 by push_cast; omega] at this
      exact this
  obtain ⟨h', q1, q2⟩ := loop n 0 h (by omega) (by simpa using hs) rfl (fun _ _ => rfl)
  exact ⟨h', E_laws_markDoneS (by simpa using q1), q2⟩
theorem laws_heldDoneS {l : List Done} {a : Option (Nat × Nat)} {n : Nat} {c : Option Nat} {k : Int} (hs : Sl h ((mkDones l k).map Done.cs) a n) (hk : 0 ≤ k ∧ k ≤ 1000000000) (hn : n ≤ 1048576) :
    evl lo 18 [.sl 5 a n c, .int .i64 k] h = some (.int .i64 (k + 5 * n), h) := by
  have hlen : n = (mkDones l k).length := by simpa using hs.len
  have loop : ∀ m i x, m + i = n → L_laws_heldDoneS_0 (List.length h) a n c (k + 5 * i) x (i : Nat) h = some (.int .i64 (k + 5 * n), h) := by
    intro m
    induction m with
    | zero =>
      intro i x hi
      have : i = n := by omega
      subst this
      rw [L_laws_heldDoneS_0.e, br_neg (by omega)]
    | succ m ih =>
      intro i x hi
      have hlt : i < (mkDones l k).length := by omega
      obtain ⟨o, rfl, ho⟩ := hs.read (show ((mkDones l k).map Done.cs)[i]? = some ((mkDones l k)[i].cs) by simp [hlt])
      rw [mkDones_get] at ho
      rw [L_laws_heldDoneS_0.e, br_pos (by omega), inB_nat (by omega)]
      rw [wr (n := k + 5 * ↑i + 1) (by omega) (by omega), wr (n := k + 5 * ↑i + 1 + 1) (by omega) (by omega), wr (n := k + 5 * ↑i + 1 + 1 + 1) (by omega) (by omega), wr (n := k + 5 * ↑i + 1 + 1 + 1 + 1) (by omega) (by omega), wr (n := k + 5 * ↑i + 1 + 1 + 1 + 1 + 1) (by omega) (by omega), wr_succ (by omega)]
      simp only [eO_s, Int.toNat_natCast, ho, Done.cs, mkDone, cut, eC_c, eI_int, eN_n, inB_nat (show i < n by omega)]
      have b1 : ∀ x y : Int, x = y → (x == y) = true := fun x y h => by simp [h]
      rw [b1 (k + 5 * ↑i) _ rfl, br_t, b1 _ (k + 5 * ↑i + 1) rfl, br_t, b1 _ (k + 5 * ↑i + 1 + 1) (by omega), br_t, b1 _ (k + 5 * ↑i + 1 + 1 + 1) (by omega), br_t, b1 _ (k + 5 * ↑i + 1 + 1 + 1 + 1) (by omega), br_t]
      have := ih (i + 1) x (by omega)
      rw [show k + 5 * ((i + 1 : Nat) : Int) = k + 5 * i + 1 + 1 + 1 + 1 + 1 by push_cast; omega] at this
      exact this
  refine E_laws_heldDoneS (h' := h) ?_
  simpa using loop n 0 0 (by omega)

theorem eqDoneS_true {l : List Done} {a a' : Option (Nat × Nat)} {n n' : Nat} {c c' : Option Nat} {F F' : List Nat} (h1 : RDones h [.sl 5 a n c] l F) (h2 : RDones h [.sl 5 a' n' c'] l F') (hn : l.length ≤ 1048576) :
    evl lo 12 [.sl 5 a n c, .sl 5 a' n' c'] h = some (.bool true, h) := by
  rw [laws_eqDoneS h1.sl h2.sl (by rw [h1.val]; exact hn)]; simp
theorem guardOnly_len {s : Int} {l : List Done} : (guardOnly s l).length ≤ l.length := by
  unfold guardOnly
  split
  · exact List.length_filter_le _ _
  · simp
theorem law_FnExactGuardOnly {l : List Done} {a : Option (Nat × Nat)} {n : Nat} {c : Option Nat} {s : Int} (hs : Sl h (l.map Done.cs) a n) (hn : n ≤ maxLen) :
    ∃ h', evl h.length 5 [.sl 5 a n c, .int .i64 s] h = some (.bool true, h') := by
  have hlen : n = l.length := by simpa using hs.len
  suffices hk : ∃ h', _ = some (V.bool true, h') from hk.imp fun h' hh => E_laws_FnExactGuardOnly hh
  by_cases hc : n ≤ 1048576
  · have hgl : (guardOnly s l).length ≤ 1048576 := Nat.le_trans guardOnly_len (by omega)
    have fr : ∀ {h h' : Heap} {cs : List V} {x : List Done} {F : List Nat}, RDones h cs x F → (∀ b ∈ F, h'[b]? = h[b]?) → RDones h' cs x F := fun h1 h2 => Sli.fr flat_fr _ _ _ _ _ h1 h2
    rw [laws_szDoneS hn, if_pos hc]
    simp only [cal_s, eI_int]
    rw [br_neg (by omega)]
    -- the reference
    obtain ⟨h1, e1, r1, p1, l1⟩ := toDoneS_new (lo := h.length) (c := c) hs (Nat.le_refl _) hc
    obtain ⟨w, h2, Fw, e2, r2, k2, f2, _⟩ := spec_GuardOnly (lo := h.length) (c := some n) (s := s) r1.sl (by omega) hc
    obtain ⟨aw, cw, ew, rw2⟩ := r2.form
    rw [e1]; simp only [cal_s, eS_sl]
    rw [e2]; simp only [cal_s]; rw [ew]
    have hs2 : Sl h2 (l.map Done.cs) a n := (hs.mono p1).keep k2
    have q2 := k2.1
    -- the argument, the program
    obtain ⟨h3, e3, r3, p3, l3⟩ := toDoneS_new (lo := h.length) (c := c) hs2 (by omega) hc
    obtain ⟨g, h4, Fg, e4, r4, k4, f4, n4⟩ := impl_GuardOnly (lo := h.length) (c := some n) (s := s) r3.sl (by omega) hc
    obtain ⟨ag, cg, eg, rg⟩ := r4.form
    rw [e3]; simp only [cal_s, eS_sl]
    rw [e4]; simp only [cal_s]; rw [eg]
    have q4 := k4.1
    have hlt2 : ∀ b, b < h2.length → h4[b]? = h2[b]? := fun b hb => by
      rw [k4.2 b (by omega)]
      obtain ⟨t, ht⟩ := p3
      rw [← ht, List.getElem?_append_left hb]
    have w4 : RDones h4 [.sl 5 aw (guardOnly s l).length cw] (guardOnly s l) Fw := fr rw2 fun b hb => hlt2 b (f2 b hb).2
    have x4 : RDones h4 [.sl 5 (some (h2.length, 0)) n (some n)] l [h2.length] := fr r3 fun b hb => k4.2 b (by simp at hb; omega)
    have hs4 : Sl h4 (l.map Done.cs) a n := (hs2.mono p3).keep k4
    rw [eqDoneS_true rg w4 hgl]; simp only [cal_s, eB_b, br_t]
    -- the argument as it was
    obtain ⟨h5, e5, r5, p5, l5⟩ := toDoneS_new (lo := h.length) (c := c) hs4 (by omega) hc
    have old5 : ∀ b, b < h4.length → h5[b]? = h4[b]? := fun b hb => by
      obtain ⟨t, ht⟩ := p5
      rw [← ht, List.getElem?_append_left hb]
    rw [e5]; simp only [cal_s, eS_sl]
    have x5 := fr x4 fun b hb => old5 b (by simp at hb; omega)
    have w5 := fr w4 fun b hb => old5 b (by have := (f2 b hb).2; omega)
    have g5 := fr rg fun b hb => old5 b (f4 b hb).2
    rw [eqDoneS_true x5 r5 (by omega)]; simp only [cal_s, eB_b, br_t]
    -- marks upon the argument
    obtain ⟨h6, e6, r6, l6, o6⟩ := laws_markDoneS (lo := h.length) (k := 1) x5 (fun b hb => by simp at hb; omega) (by simp) (by omega) hc
    rw [e6]; simp only [cal_s, eI_int]
    rw [br_neg (by omega)]
    have w6 := fr w5 fun b hb => o6 b (by have := (f2 b hb).2; simp; omega)
    have g6 := fr g5 fun b hb => o6 b (by have := (f4 b hb).1; simp; omega)
    rw [eqDoneS_true g6 w6 hgl]; simp only [cal_s, eB_b, br_t]
    -- marks upon the answer
    obtain ⟨h7, e7, r7, l7, o7⟩ := laws_markDoneS (lo := h.length) (k := 1) g6 (fun b hb => by have := (f4 b hb).1; omega) n4 (by omega) hgl
    rw [e7]; simp only [cal_s, eI_int]
    rw [laws_heldDoneS (lo := h.length) (k := 1) r7.sl (by omega) hgl]; simp only [cal_s, eI_int]
    rw [br_neg (by omega)]
    rw [show ((1 + 5 * ((guardOnly s l).length : Int)) == 1 + 5 * ((guardOnly s l).length : Int)) = true by simp, br_t]
    -- once more
    have hs7 : Sl h7 (l.map Done.cs) a n := hs.keep ⟨by omega, fun b hb => by
      have hg : b ∉ Fg := fun hm => by have := (f4 b hm).1; omega
      have hx : b ∉ [h2.length] := by simp; omega
      rw [o7 b hg, o6 b hx, old5 b (by omega), hlt2 b (by omega), k2.2 b (by omega)]
      obtain ⟨t, ht⟩ := p1
      rw [← ht, List.getElem?_append_left hb]⟩
    have w7 := fr w6 fun b hb => o7 b fun hm => by have := (f2 b hb).2; have := (f4 b hm).1; omega
    obtain ⟨h8, e8, r8, p8, l8⟩ := toDoneS_new (lo := h.length) (c := c) hs7 (by omega) hc
    obtain ⟨g', h9, Fg', e9, r9, k9, f9, n9⟩ := impl_GuardOnly (lo := h.length) (c := some n) (s := s) r8.sl (by omega) hc
    obtain ⟨ag', cg', eg', rg'⟩ := r9.form
    have old9 : ∀ b, b < h7.length → h9[b]? = h7[b]? := fun b hb => by
      rw [k9.2 b (by omega)]
      obtain ⟨t, ht⟩ := p8
      rw [← ht, List.getElem?_append_left hb]
    rw [e8]; simp only [cal_s, eS_sl]
    rw [e9]; simp only [cal_s]; rw [eg']
    have w9 := fr w7 fun b hb => old9 b (by have := (f2 b hb).2; omega)
    have g9 := fr r7 fun b hb => old9 b (by have := (f4 b hb).2; omega)
    rw [eqDoneS_true rg' w9 hgl]; simp only [cal_s, eB_b, br_t]
    rw [laws_heldDoneS (lo := h.length) (k := 1) g9.sl (by omega) hgl]; simp only [cal_s, eI_int]
    rw [br_neg (by omega)]
    rw [show ((1 + 5 * ((guardOnly s l).length : Int)) == 1 + 5 * ((guardOnly s l).length : Int)) = true by simp, br_t]
    exact ⟨_, rfl⟩
  · rw [laws_szDoneS hn, if_neg hc]
    simp only [cal_s, eI_int]
    rw [br_pos (by omega)]
    exact ⟨_, rfl⟩

theorem main_FnExactGuardOnly {x y : V} (hx : ArgV Try.prog h 12 22 x) (hy : ArgV Try.prog h 12 3 y) : ∃ h', evl h.length 5 [x, y] h = some (.bool true, h') := by
  obtain ⟨a, m, c, l, rfl, hs, hm⟩ := av_DoneS (n := 8) hx
  obtain ⟨i, rfl⟩ := av_int (n := 11) hy
  exact law_FnExactGuardOnly hs hm
end
end Go.Proofs.Ytfknhpajlfiliaa
