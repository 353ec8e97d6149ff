/- Part 4 of what is shown for the law FnExactChainFall, whatever the input; no condition of its own. -/
import Derived.Test.YtfhnofppfacemaaGreatBXChainFall3
namespace Go.Proofs.YtfhnofppfacemaaGreat
open Go T
set_option linter.unusedVariables false
set_option linter.unusedSimpArgs false
set_option maxRecDepth 100000
section
variable {h : Heap}
theorem tv_struct {n t : Nat} {fs : Array Field} {xs : List V} (hu : Tryz.prog.underlying t = some (.struct fs)) (hx : TV Tryz.prog h (n + 1) t xs) : TVs Tryz.prog (TV Tryz.prog h n) fs.toList xs := by
  simp only [TV, hu] at hx; exact hx
theorem tv_int {n t : Nat} {xs : List V} (hu : Tryz.prog.underlying t = some (.int .i64)) (hx : TV Tryz.prog h (n + 1) t xs) : ∃ i : Int, xs = [.int .i64 i] ∧ -9223372036854775808 ≤ i ∧ i ≤ 9223372036854775807 := by
  simp only [TV, hu] at hx
  obtain ⟨i, h1, h2⟩ := hx
  refine ⟨i, h1, ?_⟩
  have e1 : IntKind.i64.min = -9223372036854775808 := by decide
  have e2 : IntKind.i64.max = 9223372036854775807 := by decide
  simp only [Lit.wf, Bool.and_eq_true, decide_eq_true_eq] at h2
  omega
theorem tv_str {n t : Nat} {xs : List V} (hu : Tryz.prog.underlying t = some .string) (hx : TV Tryz.prog h (n + 1) t xs) : ∃ s : ByteArray, xs = [.str s] ∧ s.size ≤ maxLen := by
  simp only [TV, hu] at hx; exact hx
theorem tv_bool {n t : Nat} {xs : List V} (hu : Tryz.prog.underlying t = some .bool) (hx : TV Tryz.prog h (n + 1) t xs) : ∃ b : Bool, xs = [.bool b] := by
  simp only [TV, hu] at hx; exact hx
theorem tv_sli {α : Type} {El : Rel α} {bd : α → Prop} {n t e ee R : Nat} {xs : List V} (hu : Tryz.prog.underlying t = some (.slice e)) (hR : Tryz.prog.cellsOf e = R) (hel : ∀ row, TV Tryz.prog h n e row → ∃ x F, El h row x F ∧ bd x) (hx : TV Tryz.prog h (n + 1) t xs) :
    ∃ l F, Sli true R ee El h xs l F ∧ l.length ≤ maxLen ∧ ∀ x ∈ l, bd x := by
  simp only [TV, hu] at hx
  obtain ⟨a, c, rs, rfl, h2, h3, h4⟩ := hx
  have all : ∀ rs : List (List V), (∀ row ∈ rs, TV Tryz.prog h n e row) → ∃ l Fs, EAll El h rs l Fs ∧ l.length = rs.length ∧ ∀ x ∈ l, bd x := by
    intro rs
    induction rs with
    | nil => intro _; exact ⟨[], [], trivial, rfl, by simp⟩
    | cons r rs ih =>
      intro hr
      obtain ⟨l, Fs, g1, g2, g3⟩ := ih fun row hrow => hr row (by simp [hrow])
      obtain ⟨x, F, g4, g5⟩ := hel r (hr r (by simp))
      exact ⟨x :: l, F :: Fs, ⟨g4, g1⟩, by simp [g2], fun y hy => by
        rcases List.mem_cons.1 hy with rfl | hy
        · exact g5
        · exact g3 y hy⟩
  obtain ⟨l, Fs, g1, g2, g3⟩ := all rs fun row hr => (h3 row hr).2
  rcases h4 with rfl | ⟨b, rfl, hb⟩
  · have : l = [] := List.eq_nil_of_length_eq_zero (by simpa using g2)
    subst this
    exact ⟨[], [], ⟨R, a, c, by rw [hR]; rfl, rfl, .inl ⟨rfl, rfl⟩⟩, Nat.zero_le _, by simp⟩
  · refine ⟨l, b :: Fs.flatten, ⟨R, some (b, 0), c, by rw [hR, g2], rfl, .inr ⟨b, 0, rs, Fs, rfl, hb, by omega, ?_, rfl⟩⟩, by omega, g3⟩
    rw [List.drop_zero, List.take_of_length_le (by omega)]; exact g1
theorem av_agg {n t : Nat} {fs : Array Field} {x : V} (hu : Tryz.prog.underlying t = some (.struct fs)) (hx : ArgV Tryz.prog h n t x) : ∃ xs, x = .agg xs ∧ TV Tryz.prog h n t xs := by
  unfold ArgV at hx
  rw [hu] at hx; exact hx
theorem av_int {n : Nat} {x : V} (hx : ArgV Tryz.prog h (n + 1) 3 x) : ∃ i : Int, x = .int .i64 i ∧ -9223372036854775808 ≤ i ∧ i ≤ 9223372036854775807 := by
  obtain ⟨i, hi, hb⟩ := tv_int Tryz.underlying3 (by unfold ArgV at hx; rw [Tryz.underlying3] at hx; exact hx)
  injection hi with hi _
  exact ⟨i, hi, hb⟩
theorem tv_Tag {n : Nat} {xs : List V} (hx : TV Tryz.prog h (n + 2) 57 xs) : ∃ t : Tag, xs = t.cs := by
  obtain ⟨y1, z1, rfl, _, g1, y2, z2, rfl, _, g2, rfl⟩ := tv_struct Tryz.underlying57 hx
  obtain ⟨i, rfl, _⟩ := tv_int Tryz.underlying3 g1
  obtain ⟨j, rfl, _⟩ := tv_int Tryz.underlying3 g2
  exact ⟨⟨i, j⟩, rfl⟩
theorem tv_TagS {n : Nat} {xs : List V} (hx : TV Tryz.prog h (n + 3) 58 xs) : ∃ l F, RTags true h xs l F ∧ l.length ≤ maxLen := by
  obtain ⟨l, F, h1, h2, _⟩ := tv_sli (El := flat Tag.cs) (bd := fun _ => True) (ee := eTag true) (R := 2) Tryz.underlying58 (by kernel_rfl) (fun row hr => by obtain ⟨t, rfl⟩ := tv_Tag (n := n) hr; exact ⟨t, [], ⟨rfl, rfl⟩, trivial⟩) hx
  exact ⟨l, F, h1, h2⟩
theorem tv_Past {n : Nat} {xs : List V} (hx : TV Tryz.prog h (n + 4) 60 xs) : ∃ l F, RTags true h xs l F ∧ l.length ≤ maxLen := by
  obtain ⟨y1, z1, rfl, _, g1, rfl⟩ := tv_struct Tryz.underlying60 hx
  rw [List.append_nil]; exact tv_TagS g1
theorem tv_Ver {n : Nat} {xs : List V} (hx : TV Tryz.prog h (n + 5) 62 xs) : ∃ v F, RVer true h xs v F ∧ bdVer v := by
  obtain ⟨y1, z1, rfl, _, g1, y2, z2, rfl, _, g2, y3, z3, rfl, _, g3, y4, z4, rfl, _, g4, y5, z5, rfl, _, g5, rfl⟩ := tv_struct Tryz.underlying62 hx
  obtain ⟨i, rfl, _⟩ := tv_int Tryz.underlying3 g1
  obtain ⟨t, rfl⟩ := tv_Tag g2
  obtain ⟨l, F, g3, g3'⟩ := tv_Past (n := n) g3
  obtain ⟨s, rfl, g4'⟩ := tv_str Tryz.underlying9 g4
  obtain ⟨b, rfl⟩ := tv_bool Tryz.underlying4 g5
  have : ∃ v, y3 = [v] := by obtain ⟨R', a, c, e, _⟩ := g3; exact ⟨_, e⟩
  obtain ⟨v, rfl⟩ := this
  exact ⟨⟨i, t, l, s, b⟩, F, ⟨v, rfl, g3⟩, g3', g4'⟩
theorem tv_VerS {n : Nat} {xs : List V} (hx : TV Tryz.prog h (n + 6) 25 xs) : ∃ l F, RVers true h xs l F ∧ bdVers l :=
  tv_sli (El := RVer true) (bd := bdVer) (ee := eVer true) (R := 6) Tryz.underlying25 (by kernel_rfl) (fun row hr => tv_Ver (n := n) hr) hx
theorem tv_Store {n : Nat} {xs : List V} (hx : TV Tryz.prog h (n + 7) 202 xs) : ∃ l F, RVers true h xs l F ∧ bdVers l := by
  obtain ⟨y1, z1, rfl, _, g1, rfl⟩ := tv_struct Tryz.underlying202 hx
  rw [List.append_nil]; exact tv_VerS (n := n) g1
theorem sli_one {α : Type} {El : Rel α} {ro : Bool} {R e : Nat} {xs : List V} {l : List α} {F : List Nat} (hs : Sli ro R e El h xs l F) : ∃ v, xs = [v] := by
  obtain ⟨R', a, c, e, _⟩ := hs; exact ⟨_, e⟩
theorem tv_Node {n : Nat} {xs : List V} (hx : TV Tryz.prog h (n + 8) 204 xs) : ∃ x F, RNode true h xs x F ∧ bdNode x := by
  obtain ⟨y1, z1, rfl, _, g1, y2, z2, rfl, _, g2, rfl⟩ := tv_struct Tryz.underlying204 hx
  obtain ⟨l1, F1, r1, b1⟩ := tv_Store (n := n) g1
  obtain ⟨l2, F2, r2, b2⟩ := tv_VerS (n := n + 1) g2
  obtain ⟨v1, rfl⟩ := sli_one r1
  obtain ⟨v2, rfl⟩ := sli_one r2
  exact ⟨⟨l1, l2⟩, F1 ++ F2, ⟨v1, v2, F1, F2, rfl, rfl, r1, r2⟩, b1, b2⟩
theorem tv_NodeS {n : Nat} {xs : List V} (hx : TV Tryz.prog h (n + 9) 22 xs) : ∃ l F, RNodes true h xs l F ∧ bdNodes l :=
  tv_sli (El := RNode true) (bd := bdNode) (ee := eNode true) (R := 2) Tryz.underlying22 (by kernel_rfl) (fun row hr => tv_Node (n := n) hr) hx
theorem tv_Chain {n : Nat} {xs : List V} (hx : TV Tryz.prog h (n + 10) 24 xs) : ∃ l F, RNodes true h xs l F ∧ bdNodes l := by
  obtain ⟨y1, z1, rfl, _, g1, rfl⟩ := tv_struct Tryz.underlying24 hx
  rw [List.append_nil]; exact tv_NodeS (n := n) g1
end
end Go.Proofs.YtfhnofppfacemaaGreat
namespace Go.Proofs.YtfhnofppfacemaaGreat
open Go T
set_option linter.unusedVariables false
set_option linter.unusedSimpArgs false
theorem sli_true {α : Type} {El : Rel α} {R e : Nat} {h : Heap} {v : V} {l : List α} {F : List Nat} (hs : Sli true R e El h [v] l F) : ∃ a c, v = .sl R a l.length c := by
  obtain ⟨R', a, c, e1, rfl, _⟩ := hs
  injection e1 with e1 _
  exact ⟨a, c, e1⟩
theorem mkN_bound {α : Type} {w sz : α → Nat} {c : Nat} : ∀ {l : List α}, (∀ x ∈ l, w x ≤ c * (1 + sz x)) → mkN w l ≤ c * (l.length + (l.map sz).sum)
  | [], _ => by simp [mkN]
  | x :: l, h => by
    have h1 := mkN_bound (l := l) fun y hy => h y (by simp [hy])
    have h2 := h x (by simp)
    simp only [mkN, List.map_cons, List.sum_cons, List.length_cons] at h1 ⊢
    rw [Nat.mul_add] at h1 h2 ⊢
    rw [Nat.mul_add, Nat.mul_add]
    omega
theorem mkN_tag : ∀ {l : List Tag}, mkN wTag l = 2 * l.length
  | [] => rfl
  | t :: l => by
    have h1 := mkN_tag (l := l)
    have h2 : mkN wTag (t :: l) = 2 + mkN wTag l := by simp only [mkN, List.map_cons, List.sum_cons]
    rw [h2, h1, List.length_cons]; omega
theorem wVer_le {v : Ver} : wVer v ≤ 5 * (1 + szVer v) := by
  have := mkN_tag (l := v.past)
  simp only [wVer, szVer, this]; omega
theorem wVers_le {l : List Ver} : wVers l ≤ 5 * szVers l := mkN_bound fun v _ => wVer_le
theorem wNodes_le {l : List Node} : wNodes l ≤ 5 * szNodes l := mkN_bound fun x _ => by
  have h1 := wVers_le (l := x.store)
  have h2 := wVers_le (l := x.wait)
  simp only [wNode, szNode]; omega
theorem szN_small {s : Nat} (h : ¬ szN 1048576 s < 0) : s ≤ 1048576 := by
  unfold szN at h; split at h <;> omega
section
variable {lo : Nat} {h : Heap} {F F' : List Nat} {a a' : Option (Nat × Nat)} {c c' : Option Nat}
end
end Go.Proofs.YtfhnofppfacemaaGreat
namespace Go.Proofs.YtfhnofppfacemaaGreat
open Go T
set_option linter.unusedVariables false
set_option linter.unusedSimpArgs false
theorem Mv.swap {h h' : Heap} {A B A' B' : List Nat} (m : Mv h (A ++ B) h' (A' ++ B')) : Mv h (B ++ A) h' (B' ++ A') := by
  refine ⟨m.le, fun b hb hn => m.fr b hb fun hm => hn ?_, ?_, fun b hb => ?_⟩
  · rw [List.mem_append] at hm ⊢; exact hm.symm
  · have := m.nd
    rw [List.nodup_append] at this ⊢
    exact ⟨this.2.1, this.1, fun x hx y hy e => this.2.2 y hy x hx e.symm⟩
  · rw [List.mem_append] at hb
    refine (m.sub b (by rw [List.mem_append]; exact hb.symm)).imp (fun h => ?_) id
    rw [List.mem_append] at h ⊢; exact h.symm
/-- one row put behind a slice -/
theorem push_one {α : Type} {El : Rel α} (ok : El.Ok) {h0 h1 : Heap} {lo R e n bytes : Nat} {a : Option (Nat × Nat)} {c : Option Nat} {l : List α} {F : List Nat} {row : List V} {x : α} {G : List Nat} (hs : Sli false R e El h0 [.sl R a n c] l F) (hx : El h1 row x G) (m : Mv h0 [] h1 G)
    (hnd : F.Nodup) (hlo : ∀ b ∈ F, lo ≤ b) (hl : lo ≤ h0.length) (hb : 0 < bytes) (hsz : (l.length + 1) * bytes ≤ 140737488355328) :
    ∃ a' c' h2 F', (∀ {T : Type} (K : V → Heap → Option T), app lo e R bytes (.sl R a n c) [row] h1 K = K (.sl R a' (l.length + 1) c') h2) ∧ Sli false R e El h2 [.sl R a' (l.length + 1) c'] (l ++ [x]) F' ∧ Mv h0 F h2 F' := by
  have hbd := (Sli.ok ok).bd _ _ _ _ hs
  have hs1 := m.keep0 (Sli.ok ok) hs
  have hGb := m.lt (by simp)
  obtain ⟨a', c', h2, F', p1, p2, p3, p4, p5, p6⟩ := Sli.push (lo := lo) (bytes := bytes) ok.fr hs1 (xs := [row]) (ys := [x]) (Gs := [G]) ⟨hx, trivial⟩ hb hsz hlo (Nat.le_trans hl m.le)
    (by
      rw [List.nodup_append]
      refine ⟨hnd, by simpa using m.nd, fun y hy z hz => ?_⟩
      rintro rfl
      have g1 := hbd y hy
      have g2 := m.new y (by simpa using hz)
      omega)
    (fun b hb' => by
      have g1 := m.le
      rw [List.mem_append] at hb'
      rcases hb' with hb' | hb'
      · have := hbd b hb'; omega
      · exact hGb b (by simpa using hb')) (by simp)
  refine ⟨a', c', h2, F', p1, p2, Nat.le_trans m.le p3, fun b hb' hF => ?_, p6, fun b hb' => ?_⟩
  · rw [p4 b (Nat.lt_of_lt_of_le hb' m.le) hF, m.fr b hb' (by simp)]
  · have g1 := m.le
    rcases p5 b hb' with g | g
    · rw [List.mem_append] at g
      rcases g with g | g
      · exact .inl g
      · have g2 := m.new b (by simpa using g)
        have g3 := hGb b (by simpa using g)
        exact .inr (by omega)
    · exact .inr (by omega)
section
variable {lo : Nat} {h : Heap} {F F' : List Nat} {a a' : Option (Nat × Nat)} {c c' : Option Nat}
theorem clip_ver {l : List Ver} {n : Nat} (hs : RVers false h [.sl 6 a n c] l F) : evl lo 183 [.sl 6 a n c] h = some (.sl 6 a n (some n), h) := E_slices_Clip_impl_Ver_impl_Ver (by rw [reslice_clip hs])
theorem clip_node {l : List Node} {n : Nat} (hs : RNodes false h [.sl 2 a n c] l F) : evl lo 176 [.sl 2 a n c] h = some (.sl 2 a n (some n), h) := E_slices_Clip_impl_Node_impl_Node (by rw [reslice_clip hs])
end
end Go.Proofs.YtfhnofppfacemaaGreat
namespace Go.Proofs.YtfhnofppfacemaaGreat
open Go T
set_option linter.unusedVariables false
set_option linter.unusedSimpArgs false
theorem cut_all : ∀ {row : List V} {n : Nat}, row.length = n → cut row 0 n = some row
  | [], 0, _ => rfl
  | v :: r, n + 1, h => by
    have h1 := cut_all (row := r) (n := n) (by simpa using h)
    show (match cut r 0 n with | some l => some (v :: l) | none => none) = _
    rw [h1]
theorem Mv.swapNil {h h' : Heap} {A B : List Nat} (m : Mv h [] h' (A ++ B)) : Mv h [] h' (B ++ A) := Mv.swap (A := []) (B := []) m
theorem br_some {b : Bool} {h : Heap} : br b (some (V.bool true, h)) (some (V.bool false, h)) = some (V.bool b, h) := by cases b <;> rfl

section
variable {lo : Nat} {h : Heap} {F F' : List Nat} {a a' : Option (Nat × Nat)} {c c' : Option Nat}
end
end Go.Proofs.YtfhnofppfacemaaGreat
namespace Go.Proofs.YtfhnofppfacemaaGreat
open Go T
set_option linter.unusedVariables false
set_option linter.unusedSimpArgs false
/-- a block of one's own, written to -/
theorem Mv.store {h h' : Heap} {F F' : List Nat} {b : Nat} (m : Mv h F h' F') (hb : b < h.length) (hbF : b ∉ F) (X : Blk) :
    Mv h (b :: F) (h'.set b X) (b :: F') ∧ (h'.set b X)[b]? = some X ∧ (∀ y, y ≠ b → (h'.set b X)[y]? = h'[y]?) ∧ b ∉ F' := by
  have hbF' : b ∉ F' := fun hm => by
    rcases m.sub b hm with g | g
    · exact hbF g
    · omega
  have hb' : b < h'.length := Nat.lt_of_lt_of_le hb m.le
  refine ⟨⟨by simpa using m.le, fun y hy hF => ?_, by rw [List.nodup_cons]; exact ⟨hbF', m.nd⟩, fun y hy => ?_⟩, by simp [hb'], fun y hy => List.getElem?_set_ne (Ne.symm hy), hbF'⟩
  · rw [List.mem_cons, not_or] at hF
    rw [List.getElem?_set_ne (Ne.symm hF.1)]
    exact m.fr y hy hF.2
  · rw [List.mem_cons] at hy
    rcases hy with rfl | hy
    · exact .inl (by simp)
    · refine (m.sub y hy).imp (fun g => by simp [g]) fun g => by simpa using g

section
variable {lo : Nat} {ro : Bool} {h : Heap} {F F' : List Nat} {a a' : Option (Nat × Nat)} {c c' : Option Nat}
end
end Go.Proofs.YtfhnofppfacemaaGreat
namespace Go.Proofs.YtfhnofppfacemaaGreat
open Go T
set_option linter.unusedVariables false
set_option linter.unusedSimpArgs false
def thin (v : Ver) : Prop := v.past.length ≤ 4 ∧ v.text.size ≤ 8 ∧ tagOk v.tag.time v.tag.place = true
def nodeIn (nw : Nat) (x : Node) : Prop := x.store.length = 4 ∧ x.wait.length ≤ nw ∧ (∀ v ∈ x.store, thin v) ∧ ∀ v ∈ x.wait, thin v
theorem thin_ok {v : Ver} (h : verOk v = true) : thin v := by
  obtain ⟨_, h2, _, h3, h4, _⟩ := verOk_parts h
  have := textOk_size h2
  have := pastOk_len h3
  exact ⟨by omega, by omega, h4⟩
theorem thin_zero {v : Ver} (h : zeroVer v = true) : thin v := by
  rw [zero_is h]; exact ⟨by simp, by show 0 ≤ 8; omega, rfl⟩
theorem thin_at {i : Nat} {v : Ver} (h : verAt i v = true) : thin v := (verAt_case h).elim thin_zero fun h => thin_ok h.1
theorem node_thin {x : Node} (h : nodeOk x = true) : nodeIn 6 x := by
  obtain ⟨h1, h2, h3⟩ := nodeOk_parts h
  refine ⟨storeOk_len h1, h2, fun v hv => ?_, fun v hv => thin_ok (h3 v hv)⟩
  obtain ⟨i, hi, rfl⟩ := List.mem_iff_getElem.1 hv
  exact thin_at (storeOk_get h1 hi)
theorem mkN_all {α : Type} {w : α → Nat} {c : Nat} : ∀ {l : List α}, (∀ v ∈ l, w v ≤ c) → mkN w l ≤ c * l.length
  | [], _ => by simp [mkN]
  | x :: l, h => by
    have h1 := mkN_all (w := w) (l := l) fun v hv => h v (by simp [hv])
    have h2 := h x (by simp)
    simp only [mkN, List.map_cons, List.sum_cons, List.length_cons, Nat.mul_add, Nat.mul_one] at h1 ⊢
    omega
theorem thin_w {v : Ver} (h : thin v) : wVer v ≤ 13 := by
  have := h.1
  unfold wVer
  rw [mkN_tag]; omega
theorem thin_sm {l : List Ver} (hl : l.length ≤ 1048576) (h : ∀ v ∈ l, thin v) : smVers l := ⟨hl, fun v hv => by have := h v hv; exact ⟨by have := this.1; omega, by have := this.2.1; omega⟩⟩
theorem thin_ws {l : List Ver} (h : ∀ v ∈ l, thin v) : wVers l ≤ 13 * l.length := mkN_all fun v hv => thin_w (h v hv)
theorem node_sm {nw : Nat} {x : Node} (h : nodeIn nw x) (hw : nw ≤ 100) : smVers x.store ∧ smVers x.wait := by
  obtain ⟨h1, h2, h3, h4⟩ := h
  exact ⟨thin_sm (by omega) h3, thin_sm (by omega) h4⟩
theorem node_w {nw : Nat} {x : Node} (h : nodeIn nw x) (hw : nw ≤ 100) : wNode x ≤ 1352 := by
  obtain ⟨h1, h2, h3, h4⟩ := h
  have := thin_ws h3
  have := thin_ws h4
  unfold wNode
  omega
end Go.Proofs.YtfhnofppfacemaaGreat
namespace Go.Proofs.YtfhnofppfacemaaGreat
open Go T
set_option linter.unusedVariables false
set_option linter.unusedSimpArgs false
theorem three {h h1 h2 : Heap} {b : Nat} {G1 G1' G2 G2' G3 : List Nat} (m1 : Mv h G1 h1 G1') (m2 : Mv h1 (b :: G2) h2 (b :: G2')) (hnd : (b :: (G1 ++ (G2 ++ G3))).Nodup) (hb : ∀ y ∈ b :: (G1 ++ (G2 ++ G3)), y < h.length) :
    Mv h (b :: (G1 ++ (G2 ++ G3))) h2 (b :: (G1' ++ (G2' ++ G3))) ∧ (∀ y ∈ G1', y ∉ b :: G2) ∧ (∀ y ∈ G3, y ∉ G1) ∧ ∀ y ∈ G3, y ∉ b :: G2 := by
  rw [List.nodup_cons, List.nodup_append, List.mem_append, List.mem_append, List.nodup_append] at hnd
  obtain ⟨n1, n2, ⟨n3, n4, n5⟩, n6⟩ := hnd
  simp only [not_or] at n1
  have hbb := hb b (by simp)
  have hb1 : ∀ y ∈ G1, y < h.length := fun y hy => hb y (by simp [hy])
  have hb2 : ∀ y ∈ G2, y < h.length := fun y hy => hb y (by simp [hy])
  have hb3 : ∀ y ∈ G3, y < h.length := fun y hy => hb y (by simp [hy])
  have l1 := m1.le
  have l2 := m2.le
  have d1 : ∀ y ∈ G1', y ∉ b :: G2 := fun y hy hm => by
    rcases m1.sub y hy with g | g
    · rcases List.mem_cons.1 hm with rfl | hm
      · exact n1.1 g
      · exact n6 y g y (by simp [hm]) rfl
    · rcases List.mem_cons.1 hm with rfl | hm
      · omega
      · have := hb2 y hm; omega
  have d2 : ∀ y ∈ G3, y ∉ G1 := fun y hy hm => n6 y hm y (by simp [hy]) rfl
  have d3 : ∀ y ∈ G3, y ∉ b :: G2 := fun y hy hm => by
    rcases List.mem_cons.1 hm with rfl | hm
    · exact n1.2.2 hy
    · exact n5 y hm y hy rfl
  have nd2 := m2.nd
  rw [List.nodup_cons] at nd2
  have s1 : ∀ y ∈ G1', y < h1.length := m1.lt hb1
  refine ⟨⟨by omega, fun y hy hF => ?_, ?_, fun y hy => ?_⟩, d1, d2, d3⟩
  · simp only [List.mem_cons, List.mem_append, not_or] at hF
    rw [m2.fr y (by omega) (by simp only [List.mem_cons, not_or]; exact ⟨hF.1, hF.2.2.1⟩), m1.fr y hy hF.2.1]
  · rw [List.nodup_cons, List.nodup_append, List.mem_append, List.mem_append, List.nodup_append]
    refine ⟨?_, m1.nd, ⟨nd2.2, n4, fun x hx y hy e => ?_⟩, fun x hx y hy e => ?_⟩
    · simp only [not_or]
      exact ⟨fun g => d1 b g (by simp), nd2.1, n1.2.2⟩
    · subst e
      rcases m2.sub x (by simp [hx]) with g | g
      · exact d3 x hy g
      · have := hb3 x hy; omega
    · subst e
      rcases List.mem_append.1 hy with hy | hy
      · rcases m2.sub x (by simp [hy]) with g | g
        · exact d1 x hx g
        · have := s1 x hx; omega
      · rcases m1.sub x hx with g | g
        · exact d2 x hy g
        · have := hb3 x hy; omega
  · simp only [List.mem_cons, List.mem_append] at hy ⊢
    rcases hy with hy | hy | hy | hy
    · exact .inl (.inl hy)
    · rcases m1.sub y hy with g | g
      · exact .inl (.inr (.inl g))
      · exact .inr ⟨g.1, by omega⟩
    · rcases m2.sub y (by simp [hy]) with g | g
      · rcases List.mem_cons.1 g with g | g
        · exact .inl (.inl g)
        · exact .inl (.inr (.inr (.inl g)))
      · exact .inr ⟨by omega, g.2⟩
    · exact .inl (.inr (.inr (.inr hy)))

section
variable {lo : Nat} {ro : Bool} {h : Heap} {F F' : List Nat} {a a' : Option (Nat × Nat)} {c c' : Option Nat}
end
end Go.Proofs.YtfhnofppfacemaaGreat
namespace Go.Proofs.YtfhnofppfacemaaGreat
open Go T
set_option linter.unusedVariables false
set_option linter.unusedSimpArgs false
theorem app_cap {lo e R bytes n N b i : Nat} {row : List V} {h h2 : Heap} {a' : Option (Nat × Nat)} {c' : Option Nat} {m : Nat} (hap : ∀ {T : Type} (K : V → Heap → Option T), app lo e R bytes (.sl R (some (b, i)) n (some N)) [row] h K = K (.sl R a' m c') h2) (hN : n + 1 ≤ N) : a' = some (b, i) ∧ c' = some N := by
  have h1 := hap fun v _ => some v
  simp only [app] at h1
  obtain ⟨_, h1⟩ := need_some h1
  obtain ⟨_, h1⟩ := need_some h1
  obtain ⟨_, h1⟩ := need_some h1
  rw [show Nat.ble (n + [row].length) N = true from ble_of hN] at h1
  obtain ⟨_, _, h1⟩ := eO_some h1
  injection h1 with h1
  injection h1 with _ h2 _ h3
  exact ⟨h2.symm, h3.symm⟩
theorem build_cap {α T : Type} {El : Rel α} (ok : El.Ok) {h0 : Heap} {l : List α} {lo R e bytes N : Nat} {p0 : Nat × Nat} {F0 : List Nat} (hlo : lo ≤ h0.length) (hF : ∀ b ∈ F0, lo ≤ b) (hnd : F0.Nodup) (hb : 0 < bytes) (hsz : l.length * bytes ≤ 140737488355328) (hN : l.length ≤ N)
    (L : Nat → Option (Nat × Nat) → Nat → Option Nat → Heap → Option T)
    (step : ∀ i (hi : i < l.length) hh F, Mv h0 F0 hh F → ∃ row G h2, El h2 row l[i] G ∧ Mv hh [] h2 G ∧ L i (some p0) i (some N) hh = app lo e R bytes (.sl R (some p0) i (some N)) [row] h2 fun v h => eS R v fun a n c => L (i + 1) a n c h)
    (hs : Sli false R e El h0 [.sl R (some p0) 0 (some N)] [] F0) :
    ∃ h' F', L 0 (some p0) 0 (some N) h0 = L l.length (some p0) l.length (some N) h' ∧ Sli false R e El h' [.sl R (some p0) l.length (some N)] l F' ∧ Mv h0 F0 h' F' := by
  have loop : ∀ m i hh F, m + i = l.length → Mv h0 F0 hh F → Sli false R e El hh [.sl R (some p0) i (some N)] (l.take i) F →
      ∃ h' F', L i (some p0) i (some N) hh = L l.length (some p0) l.length (some N) h' ∧ Sli false R e El h' [.sl R (some p0) l.length (some N)] l F' ∧ Mv h0 F0 h' F' := by
    intro m
    induction m with
    | zero =>
      intro i hh F hi hm hr
      have : i = l.length := by omega
      subst this
      rw [List.take_length] at hr
      exact ⟨hh, F, rfl, hr, hm⟩
    | succ m ih =>
      intro i hh F hi hm hr
      have hlt : i < l.length := by omega
      obtain ⟨row, G, h2, hy, m2, e2⟩ := step i hlt hh F hm
      have hlen : (l.take i).length = i := by rw [List.length_take]; omega
      have hml : (i + 1) * bytes ≤ l.length * bytes := Nat.mul_le_mul_right _ hlt
      obtain ⟨a5, c5, h5, F5, e5, r5, m5⟩ := push_one (lo := lo) (bytes := bytes) ok hr (row := row) (x := l[i]) (G := G) (h1 := h2) hy m2 hm.nd (fun y hy => hm.ge hlo hF y hy) (Nat.le_trans hlo hm.le) hb (by rw [hlen]; omega)
      obtain ⟨b0, i0⟩ := p0
      obtain ⟨rfl, rfl⟩ := app_cap e5 (by omega)
      rw [hlen] at e5 r5
      rw [List.take_append_getElem hlt] at r5
      obtain ⟨h', F', e6, r6, m6⟩ := ih (i + 1) h5 F5 (by omega) (hm.trans m5) r5
      refine ⟨h', F', ?_, r6, m6⟩
      rw [e2, e5, eS_sl, e6]
  exact loop l.length 0 h0 F0 (by omega) (Mv.refl hnd) hs

theorem EAll.mono {α : Type} {A B : Rel α} {h : Heap} (hAB : ∀ row x F, A h row x F → B h row x F) : ∀ {rows : List (List V)} {l : List α} {Fs : List (List Nat)}, EAll A h rows l Fs → EAll B h rows l Fs
  | [], [], [], _ => trivial
  | _ :: _, _ :: _, _ :: _, ⟨h1, h2⟩ => ⟨hAB _ _ _ h1, EAll.mono hAB h2⟩
  | [], [], _ :: _, h => h.elim
  | [], _ :: _, _, h => h.elim
  | _ :: _, [], _, h => h.elim
  | _ :: _, _ :: _, [], h => h.elim
theorem Sli.mono {α : Type} {A B : Rel α} {h : Heap} {R e : Nat} {cs : List V} {l : List α} {F : List Nat} (hAB : ∀ row x F, A h row x F → B h row x F) (hs : Sli false R e A h cs l F) : Sli false R e B h cs l F := by
  obtain ⟨R', a, c, e1, g⟩ := hs
  refine ⟨R', a, c, e1, ?_⟩
  cases a with
  | none => exact g
  | some p =>
    obtain ⟨b, i⟩ := p
    obtain ⟨g0, rs, Fs, g1, g2, g3, g4, g5, g6⟩ := g
    exact ⟨g0, rs, Fs, g1, g2, g3, g4, g5.mono hAB, g6⟩
/-- a node whose waiting versions' room is known -/
def RNodeC : Rel Node := fun h row x F => RNode false h row x F ∧ ∃ s a n k, row = [s, .sl 6 a n (some k)]
theorem rnodeC_ok : RNodeC.Ok := ⟨fun h h' cs x F ⟨h1, h2⟩ hb => ⟨rnode_ok.fr _ _ _ _ _ h1 hb, h2⟩, fun h cs x F ⟨h1, _⟩ => rnode_ok.bd _ _ _ _ h1⟩
abbrev RNodesC : Rel (List Node) := Sli false 2 (eNode false) RNodeC
theorem rnodesC_ok : RNodesC.Ok := Sli.ok rnodeC_ok
theorem RNodesC.up {h : Heap} {cs : List V} {l : List Node} {F : List Nat} (hs : RNodesC h cs l F) : RNodes false h cs l F := Sli.mono (fun _ _ _ h => h.1) hs

section
variable {lo : Nat} {h : Heap} {F F' G : List Nat} {a a' av : Option (Nat × Nat)} {c c' cv : Option Nat}
theorem impl_versCopiedC {l : List Ver} (hs : RVers false h [.sl 6 a l.length c] l F) (hl : lo ≤ h.length) (hn : smVers l) :
    ∃ a' h' F', evl lo 244 [.sl 6 a l.length c] h = some (.sl 6 a' l.length (some l.length), h') ∧ RVers false h' [.sl 6 a' l.length (some l.length)] l F' ∧ Mv h [] h' F' := by
  have hn1 := hn.1
  have m0 : Mv h [] (h ++ [.rows 6 (eVer false) false (List.replicate l.length [.int .i64 0, .int .i64 0, .int .i64 0, .sl 0 none 0 (some 0), .str ⟨⟨[]⟩⟩, .bool false])]) [h.length] := Mv.last
  obtain ⟨h', F', e, r, m⟩ := build_cap (El := RVer false) rver_ok (l := l) (lo := lo) (R := 6) (e := eVer false) (bytes := 72) (N := l.length) (p0 := (h.length, 0)) (F0 := [h.length]) (Nat.le_trans hl m0.le) (m0.ge hl (by simp)) m0.nd (by decide) (by omega) (Nat.le_refl _)
    (fun i a1 n1 c1 hh => L_impl_versCopied_0 lo a1 n1 c1 a l.length c (l.length : Nat) (i : Nat) hh) (fun i hi hh F1 hm => by
      have hm' : Mv h [] hh [] := (m0.trans hm).drop
      obtain ⟨o, s, a2, c2, G, ho, hld, es, hp, _⟩ := (hm'.keep0 rvers_ok hs).get hi
      obtain ⟨a3, c3, h3, F3, e3, r3, m3⟩ := impl_Ver_copied (lo := lo) (v := l[i]) hp (Nat.le_trans hl hm'.le) (hn.2 _ (List.getElem_mem hi)).1
      refine ⟨l[i].cs a3 c3, F3, h3 ++ [.rows 6 36 false [l[i].cs a3 c3]], ⟨_, rfl, Mv.snoc.keep0 rtags_ok r3⟩, m3.trans (Mv.snoc' m3.nd), ?_⟩
      rw [L_impl_versCopied_0.e, br_pos (by omega), inB_nat hi, ho]
      simp only [eO_s, Int.toNat_natCast, hld, eC_c, eI_int, es, eT_s, eBv_b, eN_n]
      rw [e3]
      simp only [cal_s, eA_a, eC_c, eI_int, eS_sl, eT_s, eBv_b, eN_n, rows_one, wr_succ (show i < 9223372036854775807 by omega)]
      rfl) (Sli.fresh (by simp))
  refine ⟨some (h.length, 0), h', F', E_impl_versCopied ?_, r, m0.trans m⟩
  rw [need_of (by omega)]
  refine e.trans ?_
  rw [L_impl_versCopied_0.e, br_neg (by omega)]
theorem impl_Chain_copiedC {l : List Node} (hs : RNodes false h [.sl 2 a l.length c] l F) (hl : lo ≤ h.length) (hn : smNodes l) :
    ∃ a' h' F', evl lo 209 [.agg [.sl 2 a l.length c]] h = some (.agg [.sl 2 a' l.length (some l.length)], h') ∧ RNodesC h' [.sl 2 a' l.length (some l.length)] l F' ∧ Mv h [] h' F' := by
  have hn1 := hn.1
  have m0 : Mv h [] (h ++ [.rows 2 (eNode false) false (List.replicate l.length [.sl 0 none 0 (some 0), .sl 0 none 0 (some 0)])]) [h.length] := Mv.last
  obtain ⟨h', F', e, r, m⟩ := build_cap (El := RNodeC) rnodeC_ok (l := l) (lo := lo) (R := 2) (e := 175) (bytes := 48) (N := l.length) (p0 := (h.length, 0)) (F0 := [h.length])
    (Nat.le_trans hl m0.le) (m0.ge hl (by simp)) m0.nd (by decide) (by omega) (Nat.le_refl _) (fun i a1 n1 c1 hh => L_impl_Chain_copied_0 lo a l.length c (l.length : Nat) (i : Nat) 0 none 0 (some 0) a1 n1 c1 hh) (fun i hi hh F1 hm => by
      have hm' : Mv h [] hh [] := (m0.trans hm).drop
      obtain ⟨o, s1, s2, b1, d1, b2, d2, G1, G2, ha, ho, _, _, e1, e2, p1, p2, _⟩ := (hm'.keep0 rnodes_ok hs).get hi
      have hsm := hn.2 _ (List.getElem_mem hi)
      obtain ⟨a3, c3, h3, F3, e3, r3, m3⟩ := impl_Store_copied (lo := lo) p1 (Nat.le_trans hl hm'.le) hsm.1
      obtain ⟨a4, h4, F4, e4, r4, m4⟩ := impl_versCopiedC (lo := lo) (m3.keep0 rvers_ok p2) (Nat.le_trans hl (Nat.le_trans hm'.le m3.le)) hsm.2
      have m34 := m3.join m4 (rvers_ok.bd _ _ _ _ r3)
      refine ⟨[.sl 6 a3 l[i].store.length c3, .sl 6 a4 l[i].wait.length (some l[i].wait.length)], F3 ++ F4, h4 ++ [.rows 2 175 false [[.sl 6 a3 l[i].store.length c3, .sl 6 a4 l[i].wait.length (some l[i].wait.length)]]],
        ⟨⟨_, _, F3, F4, rfl, rfl, Mv.snoc.keep0 rvers_ok (m4.keep0 rvers_ok r3), Mv.snoc.keep0 rvers_ok r4⟩, _, _, _, _, rfl⟩, m34.trans (Mv.snoc' m34.nd), ?_⟩
      rw [L_impl_Chain_copied_0.e, br_pos (by omega), inB_nat hi, ha]
      simp only [eO_s, Int.toNat_natCast, ho, eC_c, e1, e2, eN_n]
      rw [e3]
      simp only [cal_s, eA_a, eC_c, eS_sl, eN_n]
      rw [e4]
      simp only [cal_s, eS_sl, rows_one, wr_succ (show i < 9223372036854775807 by omega)]) (Sli.fresh (by simp))
  refine ⟨some (h.length, 0), h', F', E_impl_Chain_copied ?_, r, m0.trans m⟩
  rw [need_of (by omega)]
  refine e.trans ?_
  rw [L_impl_Chain_copied_0.e, br_neg (by omega)]
end
end Go.Proofs.YtfhnofppfacemaaGreat
namespace Go.Proofs.YtfhnofppfacemaaGreat
open Go T
set_option linter.unusedVariables false
set_option linter.unusedSimpArgs false
theorem EAll.erase {α : Type} {El : Rel α} {h : Heap} : ∀ {rows : List (List V)} {l : List α} {Fs : List (List Nat)}, EAll El h rows l Fs → ∀ (k : Nat), EAll El h (rows.eraseIdx k) (l.eraseIdx k) (Fs.eraseIdx k)
  | [], [], [], _, k => by simp [EAll]
  | _ :: _, _ :: _, _ :: _, ⟨_, h2⟩, 0 => h2
  | _ :: _, _ :: _, _ :: _, ⟨h1, h2⟩, k + 1 => ⟨h1, h2.erase k⟩
  | [], [], _ :: _, h, _ => h.elim
  | [], _ :: _, _, h, _ => h.elim
  | _ :: _, [], _, h, _ => h.elim
  | _ :: _, _ :: _, [], h, _ => h.elim
theorem flatten_erase {Fs : List (List Nat)} {k : Nat} {Fk : List Nat} (hk : Fs[k]? = some Fk) (hnd : Fs.flatten.Nodup) : (Fs.eraseIdx k).flatten.Nodup ∧ (∀ y ∈ (Fs.eraseIdx k).flatten, y ∈ Fs.flatten ∧ y ∉ Fk) := by
  induction Fs generalizing k with
  | nil => simp at hk
  | cons F Fs ih =>
    rw [List.flatten_cons, List.nodup_append] at hnd
    obtain ⟨n1, n2, n3⟩ := hnd
    cases k with
    | zero =>
      simp at hk; subst hk
      rw [List.eraseIdx_cons_zero]
      exact ⟨n2, fun y hy => ⟨by simp only [List.flatten_cons, List.mem_append]; exact .inr hy, fun hm => n3 y hm y hy rfl⟩⟩
    | succ k =>
      obtain ⟨g1, g2⟩ := ih (k := k) (by simpa using hk) n2
      rw [List.eraseIdx_cons_succ, List.flatten_cons, List.nodup_append]
      refine ⟨⟨n1, g1, fun x hx y hy => n3 x hx y (g2 y hy).1⟩, fun y hy => ?_⟩
      rcases List.mem_append.1 hy with hy | hy
      · refine ⟨by simp only [List.flatten_cons, List.mem_append]; exact .inl hy, fun hm => ?_⟩
        exact n3 y hy y (mem_of_get (by simpa using hk) hm) rfl
      · exact ⟨by simp only [List.flatten_cons, List.mem_append]; exact .inr (g2 y hy).1, (g2 y hy).2⟩
/-- rows moved one place ahead -/
theorem erase_rows {rs : List (List V)} {i n k : Nat} {z : List V} (hi : i + n ≤ rs.length) (hk : k < n) :
    let rs1 := rs.take (i + k) ++ ((rs.drop (i + (k + 1))).take (n - (k + 1))) ++ rs.drop (i + k + ((rs.drop (i + (k + 1))).take (n - (k + 1))).length)
    ((rs1.take (i + (n - 1)) ++ [z] ++ rs1.drop (i + (n - 1) + 1)).drop i).take (n - 1) = (((rs.drop i).take n)).eraseIdx k ∧ (rs1.take (i + (n - 1)) ++ [z] ++ rs1.drop (i + (n - 1) + 1)).length = rs.length ∧ rs1.length = rs.length := by
  intro rs1
  have e0 : ((rs.drop (i + (k + 1))).take (n - (k + 1))).length = n - (k + 1) := by rw [List.length_take, List.length_drop]; omega
  have e1 : rs1.length = rs.length := by
    show (rs.take (i + k) ++ ((rs.drop (i + (k + 1))).take (n - (k + 1))) ++ rs.drop (i + k + ((rs.drop (i + (k + 1))).take (n - (k + 1))).length)).length = rs.length
    rw [List.length_append, List.length_append, List.length_take, List.length_drop, e0]; omega
  refine ⟨?_, ?_, e1⟩
  · apply List.ext_getElem?
    intro j
    have hget : ∀ q, q < i + (n - 1) → rs1[q]? = if q < i + k then rs[q]? else rs[q + 1]? := by
      intro q hq
      show (rs.take (i + k) ++ ((rs.drop (i + (k + 1))).take (n - (k + 1))) ++ rs.drop (i + k + ((rs.drop (i + (k + 1))).take (n - (k + 1))).length))[q]? = _
      by_cases h1 : q < i + k
      · rw [if_pos h1, List.getElem?_append_left (by rw [List.length_append, List.length_take]; omega), List.getElem?_append_left (by rw [List.length_take]; omega), List.getElem?_take, if_pos h1]
      · rw [if_neg h1, List.getElem?_append_left (by rw [List.length_append, List.length_take, e0]; omega), List.getElem?_append_right (by rw [List.length_take]; omega), List.length_take, List.getElem?_take, if_pos (by omega), List.getElem?_drop]
        congr 1; omega
    rw [List.getElem?_take, List.getElem?_drop, List.getElem?_eraseIdx]
    by_cases hj : j < n - 1
    · rw [if_pos hj, List.getElem?_append_left (by rw [List.length_append, List.length_take]; omega), List.getElem?_append_left (by rw [List.length_take]; omega), List.getElem?_take, if_pos (by omega), hget _ (by omega)]
      by_cases hjk : j < k
      · rw [if_pos (by omega), if_pos hjk, List.getElem?_take, if_pos (by omega), List.getElem?_drop]
      · rw [if_neg (by omega), if_neg hjk, List.getElem?_take, if_pos (by omega), List.getElem?_drop]; congr 1
    · rw [if_neg hj]
      by_cases hjk : j < k
      · omega
      · rw [if_neg hjk, List.getElem?_take, if_neg (by omega)]
  · rw [List.length_append, List.length_append, List.length_take, List.length_drop, e1]
    simp only [List.length_singleton]; omega
theorem stRows_of {lo : Nat} {h : Heap} {b i R e : Nat} {rs xs : List (List V)} (hb : h[b]? = some (.rows R e false rs)) (hlo : lo ≤ b) (hi : i + xs.length ≤ rs.length) : stRows lo h b i xs = some (h.set b (.rows R e false (rs.take i ++ xs ++ rs.drop (i + xs.length)))) := by
  simp only [stRows, hb, ble_of hlo, ble_of hi]

/-- the way of slices.Delete for one element -/
theorem Sli.del {α T : Type} {El : Rel α} (ok : El.Ok) {h : Heap} {lo R e N n k bytes : Nat} {a : Option (Nat × Nat)} {l : List α} {F : List Nat} {z : List V} {x1 x2 : Int} (hs : Sli false R e El h [.sl R a n (some N)] l F) (hk : k < l.length) (hnd : F.Nodup) (hlo : ∀ b ∈ F, lo ≤ b)
    (h1 : x1 = (k : Nat)) (h2 : x2 = (k : Nat) + 1) (hb : 0 < bytes) (hsz : l.length * bytes ≤ 140737488355328) (X : Option T) (K : V → Heap → Option T) :
    ∃ h' F' Fk b i row, a = some (b, i) ∧ ld h b (i + k) 0 row.length = some row ∧ El h row (l[k]'hk) Fk ∧ (∀ y ∈ Fk, y ∈ F ∧ y ∉ F' ∧ y ≠ b) ∧
      (reslice a n (some N) (some (.int .i64 x1)) (some (.int .i64 x2)) (some (.int .i64 (n : Nat))) fun _ _ _ => br (x1 == x2) X (reslice a n (some N) none (some (.int .i64 x1)) none fun a3 n4 c5 => reslice a n (some N) (some (.int .i64 x2)) none none fun a6 n7 c8 => rowsOf R h (.sl R a6 n7 c8) fun x9 =>
        app lo e R bytes (.sl R a3 n4 c5) x9 h fun v10 h11 => eS R v10 fun a12 n13 c14 => reslice a12 n13 c14 (some (.int .i64 (n13 : Nat))) (some (.int .i64 (n : Nat))) none fun a15 n16 c17 => clr lo R R true z h11 a15 n16 fun h18 => K (.sl R a12 n13 c14) h18)) = K (.sl R a (l.length - 1) (some N)) h' ∧
      Sli false R e El h' [.sl R a (l.length - 1) (some N)] (l.eraseIdx k) F' ∧ Mv h F h' F' ∧ (∀ y, y ≠ b → h'[y]? = h[y]?) := by
  have hn := hs.val
  subst hn
  obtain ⟨R1, a1, c1, e1, g⟩ := hs
  injection e1 with e1 _; injection e1 with e0 e2 _ e3
  subst e2; subst e3
  cases a with
  | none => obtain ⟨rfl, _⟩ := g; simp at hk
  | some p =>
  obtain ⟨b, i⟩ := p
  obtain ⟨_, rs, Fs, g1, g2, g3, _, g5, rfl⟩ := g
  obtain ⟨hN, hNr⟩ := g3 N rfl
  obtain ⟨row, Fk, hrow, hFk, hel⟩ := g5.get (List.getElem?_eq_getElem hk)
  have hlob := hlo b (by simp)
  rw [List.nodup_cons] at hnd
  obtain ⟨f1, f2⟩ := flatten_erase hFk hnd.2
  have hblt : b < h.length := (List.getElem?_eq_some_iff.1 g1).1
  have hri : rs[i + k]? = some row := by
    rw [List.getElem?_take, if_pos hk, List.getElem?_drop] at hrow; exact hrow
  have e0 : ((rs.drop (i + (k + 1))).take (l.length - (k + 1))).length = l.length - (k + 1) := by rw [List.length_take, List.length_drop]; omega
  obtain ⟨r1, r2, r3⟩ := erase_rows (z := z) g2 hk
  generalize hxs : (rs.drop (i + (k + 1))).take (l.length - (k + 1)) = xs at e0 r1 r2 r3
  generalize hrs1 : rs.take (i + k) ++ xs ++ rs.drop (i + k + xs.length) = rs1 at r1 r2 r3
  have fr : ∀ (X : Blk) y, y ≠ b → (h.set b X)[y]? = h[y]? := fun X y hy => List.getElem?_set_ne (Ne.symm hy)
  have hbFs : ∀ y ∈ Fs.flatten, y ≠ b := fun y hy e => hnd.1 (e ▸ hy)
  have m : ∀ X : Blk, Mv h (b :: Fs.flatten) (h.set b X) (b :: (Fs.eraseIdx k).flatten) := fun X => ⟨by simp, fun y hy hF => by
    rw [List.mem_cons, not_or] at hF; exact fr X y hF.1, by rw [List.nodup_cons]; exact ⟨fun hm => hnd.1 (f2 b hm).1, f1⟩, fun y hy => by
    rcases List.mem_cons.1 hy with rfl | hy
    · exact .inl (by simp)
    · exact .inl (by simp [(f2 y hy).1])⟩
  have fin : ∀ rsX : List (List V), (rsX.drop i).take (l.length - 1) = ((rs.drop i).take l.length).eraseIdx k → rsX.length = rs.length → Sli false R e El (h.set b (.rows R e false rsX)) [.sl R (some (b, i)) (l.length - 1) (some N)] (l.eraseIdx k) (b :: (Fs.eraseIdx k).flatten) := fun rsX hX hXl => by
    have hle : (l.eraseIdx k).length = l.length - 1 := List.length_eraseIdx_of_lt hk
    refine ⟨R, some (b, i), some N, by rw [hle], rfl, rsX, Fs.eraseIdx k, by simp [hblt], by rw [hle, hXl]; omega, fun q hq => by injection hq with hq; subst hq; rw [hle, hXl]; omega, fun hc => (by cases hc), ?_, rfl⟩
    rw [hle, hX]
    exact (g5.erase k).fr ok.fr fun y hy => fr _ y (hbFs y (f2 y hy).1)
  have hmul : (k + xs.length) * bytes ≤ 140737488355328 := Nat.le_trans (Nat.mul_le_mul_right _ (by omega)) hsz
  refine ⟨h.set b (.rows R e false (rs1.take (i + (l.length - 1)) ++ [z] ++ rs1.drop (i + (l.length - 1) + 1))), b :: (Fs.eraseIdx k).flatten, Fk, b, i, row, rfl, by rw [ld_of g1 hri]; exact cut_all rfl, hel, fun y hy => ?_, ?_, fin _ r1 r2, m _, fun y hy => fr _ y hy⟩
  · have hyF := mem_of_get hFk hy
    exact ⟨by simp [hyF], fun hm => by
      rcases List.mem_cons.1 hm with rfl | hm
      · exact hbFs y hyF rfl
      · exact (f2 y hm).2 hy, hbFs y hyF⟩
  have hx12 : (x1 == x2) = false := by rw [beq_eq_false_iff_ne, h1, h2]; omega
  have hRR : Nat.beq R R = true := beq_of
  -- the first look
  have s1 : ∀ (Y : Option T), (reslice (some (b, i)) l.length (some N) (some (.int .i64 x1)) (some (.int .i64 x2)) (some (.int .i64 (l.length : Nat))) fun _ _ _ => Y) = Y := fun Y => by
    unfold reslice slMax slHi slLo
    simp only [eI_int, Int.toNat_natCast, Option.isNone_some]
    rw [inS_in ⟨by omega, by omega⟩, inS_in ⟨by rw [h2]; omega, by rw [h2]; omega⟩, inS_in ⟨by rw [h1]; omega, by rw [h1, h2]; omega⟩]
    unfold slAt
    simp only
    cases Nat.beq l.length x1.toNat <;> rfl
  have s2 : ∀ (K : Option (Nat × Nat) → Nat → Option Nat → Option T), reslice (some (b, i)) l.length (some N) none (some (.int .i64 x1)) none K = K (some (b, i)) k (some N) := fun K => by
    unfold reslice slMax slHi slLo
    simp only [eI_int, Option.isNone_none]
    rw [inS_in ⟨by rw [h1]; omega, by rw [h1]; omega⟩, h1, Int.toNat_natCast]
  have s3 : ∀ (K : List (List V) → Option T), (reslice (some (b, i)) l.length (some N) (some (.int .i64 x2)) none none fun a6 n7 c8 => rowsOf R h (.sl R a6 n7 c8) K) = K xs := fun K => by
    unfold reslice slMax slHi slLo
    simp only [eI_int, Option.isNone_none]
    have ht : x2.toNat = k + 1 := by rw [h2]; omega
    rw [inS_in ⟨by rw [h2]; omega, by rw [h2]; omega⟩, ht]
    unfold slAt
    simp only
    cases hm : l.length - (k + 1) with
    | zero =>
      have hx0 : xs = [] := List.eq_nil_of_length_eq_zero (by omega)
      rw [hx0]
      cases Nat.beq N (k + 1) <;> simp [br, rowsOf, hRR, need]
    | succ m =>
      have hne : Nat.beq N (k + 1) = false := by
        cases hb : Nat.beq N (k + 1) with
        | false => rfl
        | true => have := Nat.eq_of_beq_eq_true hb; omega
      rw [hne, br_f]
      simp only [rowsOf, hRR, need_t]
      rw [show ldRows h b (i + (k + 1)) (m + 1) = some xs by
        simp only [ldRows, Heap.rows?, g1, Option.bind_some]
        rw [ble_of (by omega), ← hm, hxs]]
      rfl
  have s4 : ∀ (K : V → Heap → Option T), ∃ h11, h11[b]? = some (.rows R e false rs1) ∧ (∀ X : Blk, h11.set b X = h.set b X) ∧ app lo e R bytes (.sl R (some (b, i)) k (some N)) xs h K = K (.sl R (some (b, i)) (l.length - 1) (some N)) h11 := fun K => by
    cases hx : xs with
    | nil =>
      rw [hx] at e0 hrs1
      simp only [List.length_nil] at e0
      have hk1 : k = l.length - 1 := by omega
      refine ⟨h, ?_, fun X => rfl, ?_⟩
      · rw [g1, ← hrs1]; simp
      · simp only [app]; rw [← hk1]
    | cons x0 xr =>
      have hl1 : k + (x0 :: xr).length = l.length - 1 := by rw [← hx, e0]; omega
      refine ⟨h.set b (.rows R e false rs1), by simp [hblt], fun X => by rw [List.set_set], ?_⟩
      have hst : stRows lo h b (i + k) (x0 :: xr) = some (h.set b (.rows R e false rs1)) := by
        rw [stRows_of g1 hlob (by rw [Nat.add_assoc, hl1]; omega), ← hx, hrs1]
      have hmul' : decide ((k + (x0 :: xr).length) * bytes ≤ maxBytes) = true := decide_eq_true (by rw [← hx]; exact hmul)
      have hbb : Nat.blt 0 bytes = true := by simpa [Nat.blt_eq] using hb
      have hle : Nat.ble (k + (x0 :: xr).length) N = true := ble_of (by omega)
      simp only [app]
      rw [hbb, need_t, hmul', need_t, hRR, need_t, hle, hst]
      rw [hl1]
      rfl
  rw [s1, hx12, br_f, s2, s3]
  obtain ⟨h11, q1, q2, q3⟩ := s4 fun v10 h11 => eS R v10 fun a12 n13 c14 => reslice a12 n13 c14 (some (.int .i64 (n13 : Nat))) (some (.int .i64 (l.length : Nat))) none fun a15 n16 c17 => clr lo R R true z h11 a15 n16 fun h18 => K (.sl R a12 n13 c14) h18
  rw [q3, eS_sl]
  have hlen : (l.length - (l.length - 1)) = 1 := by omega
  have hne : Nat.beq N (l.length - 1) = false := by
    cases hb : Nat.beq N (l.length - 1) with
    | false => rfl
    | true => have := Nat.eq_of_beq_eq_true hb; omega
  have hst : stRows lo h11 b (i + (l.length - 1)) (List.replicate 1 z) = some (h.set b (.rows R e false (rs1.take (i + (l.length - 1)) ++ [z] ++ rs1.drop (i + (l.length - 1) + 1)))) := by
    rw [stRows_of q1 hlob (by simp; omega), q2]; rfl
  unfold reslice slMax slHi slLo
  simp only [eI_int, Int.toNat_natCast, Option.isNone_none]
  rw [inS_in ⟨by omega, by omega⟩, inS_in ⟨by omega, by omega⟩]
  unfold slAt
  simp only
  rw [hne, br_f, hlen]
  simp only [clr, hRR, Bool.and_self, need_t, hst, eO_s]
end Go.Proofs.YtfhnofppfacemaaGreat
namespace Go.Proofs.YtfhnofppfacemaaGreat
open Go T
set_option linter.unusedVariables false
set_option linter.unusedSimpArgs false
/-- a row of a slice, to be written anew: whose blocks are whose -/
theorem Sli.at2 {α : Type} {El : Rel α} (ok : El.Ok) {h : Heap} {R R' e n k lo : Nat} {a : Option (Nat × Nat)} {c : Option Nat} {l : List α} {F : List Nat} (hs : Sli false R e El h [.sl R' a n c] l F) (hk : k < l.length) (hnd : F.Nodup) (hlo : ∀ b ∈ F, lo ≤ b) :
    ∃ b i rs row G, a = some (b, i) ∧ b ∈ F ∧ b ∉ G ∧ h[b]? = some (.rows R e false rs) ∧ rs[i + k]? = some row ∧ El h row l[k] G ∧ (∀ y ∈ G, y ∈ F) ∧ G.Nodup ∧
      (∀ h1 G1 j cs row' x', Mv h G h1 G1 → paste row j cs = some row' → El h1 row' x' G1 →
        ∃ h2 F', st lo h1 b (i + k) j cs = some h2 ∧ Sli false R e El h2 [.sl R' a n c] (l.set k x') F' ∧ Mv h F h2 F' ∧ (∀ y, y ≠ b → h2[y]? = h1[y]?) ∧ ∀ y ∈ F', (y ∈ F ∧ y ∉ G) ∨ y ∈ G1) := by
  have hbd := (Sli.ok ok).bd _ _ _ _ hs
  obtain ⟨b, i, rs, row, G, ha, hbF, hbG, hb, hrow, hel, hGF, hGn, put⟩ := hs.put ok.fr hk hnd
  have hblt : b < h.length := hbd b hbF
  refine ⟨b, i, rs, row, G, ha, hbF, hbG, hb, hrow, hel, hGF, hGn, fun h1 G1 j cs row' x' m hp hx => ?_⟩
  have hbG1 : b ∉ G1 := fun hm => by
    rcases m.sub b hm with h1 | h1
    · exact hbG h1
    · omega
  have hb1 : h1[b]? = some (.rows R e false rs) := by rw [m.fr b hblt hbG]; exact hb
  have hb1lt : b < h1.length := Nat.lt_of_lt_of_le hblt m.le
  have e2 := st_first hb1 (hlo b hbF) hrow hp
  have fr2 : ∀ y, y ≠ b → (h1.set b (.rows R e false (rs.set (i + k) row')))[y]? = h1[y]? := fun y hy => List.getElem?_set_ne (Ne.symm hy)
  obtain ⟨F', p1, p2, p3, _⟩ := put (h1.set b (.rows R e false (rs.set (i + k) row'))) row' x' G1 (by simp [hb1lt]) (fun y hy hyb hyG => by rw [fr2 y hyb]; exact m.fr y (hbd y hy) hyG)
    (ok.fr _ _ _ _ _ hx fun y hy => fr2 y fun e => hbG1 (e ▸ hy)) m.nd (fun y hy hyF => by
    rcases m.sub y hy with h1 | h1
    · exact h1
    · have := hbd y hyF; omega)
  refine ⟨_, F', e2, p1, ⟨by simpa using m.le, fun y hy hyF => ?_, p3, fun y hy => ?_⟩, fr2, p2⟩
  · rw [fr2 y fun e => hyF (e ▸ hbF)]
    exact m.fr y hy fun hg => hyF (hGF y hg)
  · rcases p2 y hy with h1 | h1
    · exact .inl h1.1
    · refine (m.sub y h1).imp (hGF y) fun h => by simpa using h

section
variable {lo : Nat} {ro : Bool} {h : Heap} {F F' G : List Nat} {a a' av : Option (Nat × Nat)} {c c' cv : Option Nat}
end
end Go.Proofs.YtfhnofppfacemaaGreat
namespace Go.Proofs.YtfhnofppfacemaaGreat
open Go T
set_option linter.unusedVariables false
set_option linter.unusedSimpArgs false
theorem lessV_iff {u v : Ver} : lessV u v = true ↔ u.tag.time < v.tag.time ∨ (u.tag.time = v.tag.time ∧ u.tag.place < v.tag.place) := by
  simp [lessV, less]
theorem lessV_not {u v : Ver} : lessV u v = false ↔ ¬ (u.tag.time < v.tag.time ∨ (u.tag.time = v.tag.time ∧ u.tag.place < v.tag.place)) := by
  rw [← lessV_iff, Bool.not_eq_true]
def insF (v : Ver) : List Ver → List Ver
  | [] => [v]
  | u :: r => bif lessV u v then u :: insF v r else v :: u :: r
def sortedV (l : List Ver) : Prop := l.Pairwise fun p u => lessV u p = false
theorem insF_len {v : Ver} : ∀ {l : List Ver}, (insF v l).length = l.length + 1
  | [] => rfl
  | u :: r => by
    simp only [insF]
    cases lessV u v with
    | true => simp [insF_len (l := r)]
    | false => simp
theorem insF_mem {v x : Ver} : ∀ {l : List Ver}, x ∈ insF v l ↔ x = v ∨ x ∈ l
  | [] => by simp [insF]
  | u :: r => by
    simp only [insF]
    cases lessV u v with
    | true =>
      rw [cond_true, List.mem_cons, insF_mem (l := r), List.mem_cons]
      constructor
      · rintro (h | h | h)
        · exact .inr (.inl h)
        · exact .inl h
        · exact .inr (.inr h)
      · rintro (h | h | h)
        · exact .inr (.inl h)
        · exact .inl h
        · exact .inr (.inr h)
    | false => simp
theorem insF_split {v : Ver} : ∀ {P Q : List Ver}, (∀ p ∈ P, lessV p v = true) → (∀ q ∈ Q, lessV q v = false) → insF v (P ++ Q) = P ++ v :: Q
  | [], [], _, _ => rfl
  | [], q :: Q, _, hq => by
    simp only [List.nil_append, insF]
    rw [hq q (by simp), cond_false]
  | p :: P, Q, hp, hq => by
    simp only [List.cons_append, insF]
    rw [hp p (by simp), cond_true, insF_split (fun x hx => hp x (by simp [hx])) hq]
theorem insF_sorted {v : Ver} : ∀ {l : List Ver}, sortedV l → sortedV (insF v l)
  | [], _ => by simp [insF, sortedV]
  | u :: r, h => by
    unfold sortedV at h ⊢
    rw [List.pairwise_cons] at h
    simp only [insF]
    cases hl : lessV u v with
    | true =>
      rw [cond_true, List.pairwise_cons]
      refine ⟨fun x hx => ?_, insF_sorted (l := r) h.2⟩
      rcases insF_mem.1 hx with rfl | hx
      · rw [lessV_iff] at hl; rw [lessV_not]; omega
      · exact h.1 x hx
    | false =>
      rw [cond_false, List.pairwise_cons, List.pairwise_cons]
      refine ⟨fun x hx => ?_, h⟩
      rcases List.mem_cons.1 hx with rfl | hx
      · exact hl
      · have := h.1 x hx
        rw [lessV_not] at this hl ⊢; omega
/-- the order of the sort: by tags, of the same the later key first -/
def cmpV (u v : Ver) : Int := if (if cmpI u.tag.time v.tag.time = 0 then cmpI u.tag.place v.tag.place else cmpI u.tag.time v.tag.time) = 0 then cmpI v.key u.key else (if cmpI u.tag.time v.tag.time = 0 then cmpI u.tag.place v.tag.place else cmpI u.tag.time v.tag.time)
theorem cmpI_parts {a b : Int} : (cmpI a b < 0 ↔ a < b) ∧ (cmpI a b = 0 ↔ a = b) := by
  unfold cmpI
  constructor
  · constructor
    · intro h; split at h
      · assumption
      · split at h <;> omega
    · intro h; rw [if_pos h]; decide
  · constructor
    · intro h; split at h
      · omega
      · split at h <;> omega
    · intro h; subst h; simp
theorem cmpV_neg {v u : Ver} (hk : u.key < v.key) : decide (cmpV v u < 0) = !lessV u v := by
  rw [Bool.eq_iff_iff, decide_eq_true_eq, Bool.not_eq_true', lessV_not]
  unfold cmpV
  obtain ⟨t1, t2⟩ := cmpI_parts (a := v.tag.time) (b := u.tag.time)
  obtain ⟨p1, p2⟩ := cmpI_parts (a := v.tag.place) (b := u.tag.place)
  obtain ⟨k1, k2⟩ := cmpI_parts (a := u.key) (b := v.key)
  by_cases ht : cmpI v.tag.time u.tag.time = 0
  · rw [if_pos ht]
    by_cases hp : cmpI v.tag.place u.tag.place = 0
    · rw [if_pos hp]
      have := t2.1 ht; have := p2.1 hp; have := k1.2 hk
      omega
    · rw [if_neg hp, p1]
      have := t2.1 ht
      have : ¬ v.tag.place = u.tag.place := fun h => hp (p2.2 h)
      omega
  · rw [if_neg ht, if_neg ht, t1]
    have : ¬ v.tag.time = u.tag.time := fun h => ht (t2.2 h)
    omega

section
variable {lo : Nat} {h : Heap} {F F' G : List Nat} {a a' av : Option (Nat × Nat)} {c c' cv : Option Nat}
theorem impl_cmp {u v : Ver} : evl lo 212 [.agg (u.cs a c), .agg (v.cs a' c')] h = some (.int .i64 (cmpV u v), h) :=
  E_impl_Chain_fall_1 (h' := h ++ [.rows 1 3 false [[.int .i64 (if cmpI u.tag.time v.tag.time = 0 then cmpI u.tag.place v.tag.place else cmpI u.tag.time v.tag.time)], [.int .i64 (cmpI v.key u.key)]]]) (by
    simp only [impl_compare, cal_s, eI_int, cmp_Compare, cmp_Or_two]
    rfl)
theorem swap_rows {l : List Ver} {n j : Nat} (hs : RVers false h [.sl 6 a n c] l F) (hj : j + 1 < l.length) (hnd : F.Nodup) (hlo : ∀ b ∈ F, lo ≤ b) :
    ∃ o s1 a1 c1 s2 a2 c2, a = some o ∧ ld h o.1 (o.2 + (j + 1)) 0 6 = some [.int .i64 l[j + 1].key, .int .i64 l[j + 1].tag.time, .int .i64 l[j + 1].tag.place, s2, .str l[j + 1].text, .bool l[j + 1].gone] ∧ (∀ {T : Type} (K : Option (Nat × Nat) → Nat → Option Nat → Option T), eS 2 s2 K = K a2 l[j + 1].past.length c2) ∧
      ld h o.1 (o.2 + j) 0 6 = some [.int .i64 l[j].key, .int .i64 l[j].tag.time, .int .i64 l[j].tag.place, s1, .str l[j].text, .bool l[j].gone] ∧ (∀ {T : Type} (K : Option (Nat × Nat) → Nat → Option Nat → Option T), eS 2 s1 K = K a1 l[j].past.length c1) ∧
      ∃ h1 h2 F', st lo h o.1 (o.2 + (j + 1)) 0 (l[j].cs a1 c1) = some h1 ∧ st lo h1 o.1 (o.2 + j) 0 (l[j + 1].cs a2 c2) = some h2 ∧ RVers false h2 [.sl 6 a n c] ((l.set (j + 1) l[j]).set j l[j + 1]) F' ∧ Mv h F h2 F' := by
  have hn := hs.val
  subst hn
  obtain ⟨R1, x1, y1, e1, g⟩ := hs
  injection e1 with e1 _; injection e1 with e0 e2 _ e3
  subst e0; subst e2; subst e3
  cases a with
  | none => obtain ⟨rfl, _⟩ := g; simp at hj
  | some p =>
  obtain ⟨b, i⟩ := p
  obtain ⟨_, rs, Fs, g1, g2, g3, g4, g5, rfl⟩ := g
  have hjl : j < l.length := by omega
  obtain ⟨row1, F1, r1, f1, el1⟩ := g5.get (List.getElem?_eq_getElem hjl)
  obtain ⟨row2, F2, r2, f2, el2⟩ := g5.get (List.getElem?_eq_getElem hj)
  rw [List.getElem?_take_of_lt hjl, List.getElem?_drop] at r1
  rw [List.getElem?_take_of_lt hj, List.getElem?_drop] at r2
  obtain ⟨s1, a1, c1, rfl, es1, hp1⟩ := el1.form
  obtain ⟨s2, a2, c2, rfl, es2, hp2⟩ := el2.form
  have hlob := hlo b (by simp)
  have hblt : b < h.length := (List.getElem?_eq_some_iff.1 g1).1
  rw [List.nodup_cons] at hnd
  have e4 := st_first (lo := lo) (cs := l[j].cs a1 c1) (j := 0) g1 hlob r2 (paste_all rfl)
  refine ⟨(b, i), s1, a1, c1, s2, a2, c2, rfl, by rw [ld_of g1 r2]; rfl, es2, by rw [ld_of g1 r1]; rfl, es1, h.set b (.rows 6 (eVer false) false (rs.set (i + (j + 1)) (l[j].cs a1 c1))), h.set b (.rows 6 (eVer false) false ((rs.set (i + (j + 1)) (l[j].cs a1 c1)).set (i + j) (l[j + 1].cs a2 c2))), b :: ((Fs.set (j + 1) F1).set j F2).flatten, e4, ?_, ?_, ?_⟩
  · have hb1 : (h.set b (.rows 6 (eVer false) false (rs.set (i + (j + 1)) (l[j].cs a1 c1))))[b]? = some (.rows 6 (eVer false) false (rs.set (i + (j + 1)) (l[j].cs a1 c1))) := by simp [hblt]
    have hr1 : (rs.set (i + (j + 1)) (l[j].cs a1 c1))[i + j]? = some [.int .i64 l[j].key, .int .i64 l[j].tag.time, .int .i64 l[j].tag.place, s1, .str l[j].text, .bool l[j].gone] := by rw [List.getElem?_set_ne (by omega)]; exact r1
    rw [st_first (lo := lo) (cs := l[j + 1].cs a2 c2) (j := 0) hb1 hlob hr1 (paste_all rfl), List.set_set]
  · have hl1 : ∀ (rs : List (List V)) k (hk : k < l.length) row', ((rs.set (i + k) row').drop i).take l.length = ((rs.drop i).take l.length).set k row' := fun rs k hk row' => by
      rw [List.drop_set, if_neg (by omega), show i + k - i = k by omega, List.take_set]
    refine ⟨6, some (b, i), c, by simp, rfl, (rs.set (i + (j + 1)) (l[j].cs a1 c1)).set (i + j) (l[j + 1].cs a2 c2), (Fs.set (j + 1) F1).set j F2, by simp [hblt], by simpa using g2, fun q hq => by simpa using g3 q hq, g4, ?_, rfl⟩
    rw [List.length_set, List.length_set, hl1 _ j hjl, hl1 _ (j + 1) hj]
    have he : EAll (RVer false) h ((((rs.drop i).take l.length).set (j + 1) (l[j].cs a1 c1)).set j (l[j + 1].cs a2 c2)) ((l.set (j + 1) l[j]).set j l[j + 1]) ((Fs.set (j + 1) F1).set j F2) := (g5.set (k := j + 1) ⟨_, rfl, hp1⟩).set (k := j) ⟨_, rfl, hp2⟩
    refine he.fr rver_ok.fr fun y hy => List.getElem?_set_ne fun e => ?_
    rcases flatten_set_mem hy with q | q
    · rcases flatten_set_mem q with q | q
      · exact hnd.1 (e ▸ q)
      · exact hnd.1 (e ▸ mem_of_get f1 q)
    · exact hnd.1 (e ▸ mem_of_get f2 q)
  · have hperm : ((Fs.set (j + 1) F1).set j F2).Perm Fs := by
      obtain ⟨hj1, e1⟩ := List.getElem?_eq_some_iff.1 f1
      obtain ⟨hj2, e2⟩ := List.getElem?_eq_some_iff.1 f2
      have hd : Fs = Fs.take j ++ F1 :: F2 :: Fs.drop (j + 2) := by
        conv => lhs; rw [← List.take_append_drop j Fs, List.drop_eq_getElem_cons hj1, e1, List.drop_eq_getElem_cons hj2, e2]
      have hl : (Fs.take j).length = j := by rw [List.length_take]; omega
      have hsw : (Fs.set (j + 1) F1).set j F2 = Fs.take j ++ F2 :: F1 :: Fs.drop (j + 2) := by
        conv => lhs; rw [hd]
        rw [List.set_append_right _ _ (by omega), hl, show j + 1 - j = 1 by omega, List.set_append_right _ _ (by omega), hl, Nat.sub_self]
        rfl
      rw [hsw]
      conv => rhs; rw [hd]
      exact List.Perm.append_left _ (List.Perm.swap _ _ _)
    have hpf := hperm.flatten
    refine ⟨by simp, fun y hy hF => ?_, ?_, fun y hy => ?_⟩
    · rw [List.mem_cons, not_or] at hF
      exact List.getElem?_set_ne (Ne.symm hF.1)
    · rw [List.nodup_cons]
      exact ⟨fun hm => hnd.1 (hpf.mem_iff.1 hm), hpf.nodup_iff.2 hnd.2⟩
    · rcases List.mem_cons.1 hy with rfl | hy
      · exact .inl (by simp)
      · exact .inl (by simp [hpf.mem_iff.1 hy])
/-- one version put where it belongs -/
theorem sort_inner {v : Ver} {n x2 : Nat} {x8 : Int} : ∀ (m : Nat) (P Q R : List Ver) (hh : Heap) (F : List Nat), P.length = m → (∀ u ∈ P, u.key < v.key) → sortedV P → (∀ q ∈ Q, lessV q v = false) → RVers false hh [.sl 6 a n c] (P ++ v :: (Q ++ R)) F → F.Nodup → (∀ b ∈ F, lo ≤ b) → lo ≤ hh.length → n ≤ 1048576 →
    ∃ h' F', L_slices_insertionSortCmpFunc_impl_Ver_2 lo a n c 0 x2 212 [] x8 (m : Nat) hh = L_slices_insertionSortCmpFunc_impl_Ver_0 lo a n c 0 x2 212 [] (IntKind.wrap .i64 (x8 + 1)) h' ∧ RVers false h' [.sl 6 a n c] (insF v (P ++ Q) ++ R) F' ∧ Mv hh F h' F' := by
  intro m
  induction m with
  | zero =>
    intro P Q R hh F hP hkey hso hQ hs hnd hlo hl0 hn
    have : P = [] := List.eq_nil_of_length_eq_zero hP
    subst this
    rw [L_slices_insertionSortCmpFunc_impl_Ver_2.e, br_neg (by omega)]
    have e := insF_split (v := v) (P := []) (Q := Q) (by simp) hQ
    rw [e]
    exact ⟨hh, F, rfl, by simpa using hs, Mv.refl hnd⟩
  | succ m ih =>
    intro P Q R hh F hP hkey hso hQ hs hnd hlo hl0 hn
    have hne : P ≠ [] := fun h0 => by rw [h0] at hP; simp at hP
    obtain ⟨P', u, rfl⟩ : ∃ P' u, P = P' ++ [u] := ⟨P.dropLast, P.getLast hne, (List.dropLast_concat_getLast hne).symm⟩
    have hP' : P'.length = m := by simpa using hP
    have hval := hs.val
    have hlen : (P' ++ [u] ++ v :: (Q ++ R)).length = m + 2 + (Q ++ R).length := by simp; omega
    obtain ⟨o, s1, a1, c1, s2, a2, c2, ha, hld2, es2, hld1, es1, h1, h2, F2, e4, e5, r6, m6⟩ := swap_rows (lo := lo) (j := m) hs (by rw [hlen]; omega) hnd hlo
    have hu : (P' ++ [u] ++ v :: (Q ++ R))[m]'(by rw [hlen]; omega) = u := by
      rw [List.getElem_append_left (by simp; omega), List.getElem_append_right (by omega)]; simp
    have hv : (P' ++ [u] ++ v :: (Q ++ R))[m + 1]'(by rw [hlen]; omega) = v := by
      rw [List.getElem_append_right (by simp; omega)]; simp [hP']
    rw [hu] at hld1 es1 e4 r6
    rw [hv] at hld2 es2 e5 r6
    have hsw : ((P' ++ [u] ++ v :: (Q ++ R)).set (m + 1) u).set m v = P' ++ v :: ((u :: Q) ++ R) := by
      rw [List.append_assoc, List.set_append_right _ _ (by omega), hP', show m + 1 - m = 1 by omega, List.set_append_right _ _ (by omega), hP', Nat.sub_self]
      rfl
    rw [hsw] at r6
    have hcmp := impl_cmp (lo := lo) (h := hh) (u := v) (v := u) (a := a2) (c := c2) (a' := a1) (c' := c1)
    simp only [Ver.cs] at hcmp e4 e5
    have hkuv := hkey u (by simp)
    have hmn : m + 1 < n := by rw [hval, hlen]; omega
    rw [L_slices_insertionSortCmpFunc_impl_Ver_2.e, br_pos (by omega), inB_nat hmn, ha, eO_s, Int.toNat_natCast, hld2, eO_s, eC_c, eI_int, eC_c, eI_int, eC_c, eI_int, eC_c, es2, eC_c, eT_s, eC_c, eBv_b, eN_n,
      show IntKind.i64.wrap (((m + 1 : Nat) : Int) - 1) = ((m : Nat) : Int) by rw [wr (by omega) (by omega)]; omega, inB_nat (show m < n by omega), eO_s, Int.toNat_natCast, hld1, eO_s, eC_c, eI_int, eC_c, eI_int, eC_c, eI_int, eC_c, es1, eC_c, eT_s, eC_c, eBv_b, eN_n, show ∀ x : List V, fnArgs x [] = x from fun x => by simp [fnArgs], hcmp, cal_s, eI_int]
    cases hl : lessV u v with
    | true =>
      have hc := cmpV_neg hkuv
      rw [hl] at hc
      rw [br_neg (of_decide_eq_false hc)]
      have hso' : ∀ p ∈ P' ++ [u], lessV p v = true := fun p hp => by
        rcases List.mem_append.1 hp with hp | hp
        · unfold sortedV at hso
          rw [List.pairwise_append] at hso
          have := hso.2.2 p hp u (by simp)
          rw [lessV_not] at this; rw [lessV_iff] at hl ⊢; omega
        · rw [List.mem_singleton] at hp; subst hp; exact hl
      rw [insF_split hso' hQ]
      exact ⟨hh, F, by rw [← ha], by rw [← ha]; simpa using hs, Mv.refl hnd⟩
    | false =>
      have hc := cmpV_neg hkuv
      rw [hl] at hc
      obtain ⟨h3, F3, e7, r7, m7⟩ := ih P' (u :: Q) R h2 F2 hP' (fun x hx => hkey x (by simp [hx])) (by unfold sortedV at hso ⊢; rw [List.pairwise_append] at hso; exact hso.1) (fun q hq => by
        rcases List.mem_cons.1 hq with rfl | hq
        · exact hl
        · exact hQ q hq) r6 m6.nd (fun b hb => m6.ge hl0 hlo b hb) (Nat.le_trans hl0 m6.le) hn
      rw [br_pos (of_decide_eq_true hc), inB_nat (show m < n by omega), eO_s, hld1, eO_s, eC_c, eI_int, eC_c, eI_int, eC_c, eI_int, eC_c, es1, eC_c, eT_s, eC_c, eBv_b, eN_n, inB_nat hmn, eO_s, hld2, eO_s, eC_c, eI_int, eC_c, eI_int, eC_c, eI_int, eC_c, es2, eC_c, eT_s, eC_c, eBv_b, eN_n,
        inB_nat hmn, eO_s, e4, eO_s, inB_nat (show m < n by omega), eO_s, e5, eO_s, ← ha, e7]
      refine ⟨h3, F3, rfl, ?_, m6.trans m7⟩
      rw [List.append_assoc P' [u] Q]
      exact r7
theorem sort_outer {n : Nat} : ∀ (R S : List Ver) (hh : Heap) (F : List Nat), sortedV S → (∀ u ∈ S, ∀ w ∈ R, u.key < w.key) → R.Pairwise (fun p u => p.key < u.key) → RVers false hh [.sl 6 a n c] (S ++ R) F → F.Nodup → (∀ b ∈ F, lo ≤ b) → lo ≤ hh.length → n ≤ 1048576 →
    ∃ h' F', L_slices_insertionSortCmpFunc_impl_Ver_0 lo a n c 0 (n : Nat) 212 [] (S.length : Nat) hh = some (.tup [], h') ∧ RVers false h' [.sl 6 a n c] (R.foldl (fun acc v => insF v acc) S) F' ∧ Mv hh F h' F'
  | [], S, hh, F, _, _, _, hs, hnd, _, _, _ => by
    have hval := hs.val
    rw [List.append_nil] at hval hs
    rw [L_slices_insertionSortCmpFunc_impl_Ver_0.e, br_neg (by omega)]
    exact ⟨hh, F, rfl, hs, Mv.refl hnd⟩
  | v :: R, S, hh, F, hso, hk, hp, hs, hnd, hlo, hl, hn => by
    have hval := hs.val
    rw [List.length_append, List.length_cons] at hval
    rw [List.pairwise_cons] at hp
    obtain ⟨h1, F1, e1, r1, m1⟩ := sort_inner (lo := lo) (v := v) (n := n) (x2 := n) (x8 := (S.length : Nat)) S.length S [] R hh F rfl (fun u hu => hk u hu v (by simp)) hso (by simp) hs hnd hlo hl hn
    rw [List.append_nil] at r1
    obtain ⟨h2, F2, e2, r2, m2⟩ := sort_outer R (insF v S) h1 F1 (insF_sorted hso) (fun u hu w hw => by
      rcases insF_mem.1 hu with rfl | hu
      · exact hp.1 w hw
      · exact hk u hu w (by simp [hw])) hp.2 r1 m1.nd (fun b hb => m1.ge hl hlo b hb) (Nat.le_trans hl m1.le) hn
    rw [L_slices_insertionSortCmpFunc_impl_Ver_0.e, br_pos (by omega), e1, wr_succ (by omega)]
    rw [insF_len] at e2
    exact ⟨h2, F2, e2, r2, m1.trans m2⟩
def sortV (l : List Ver) : List Ver := l.foldl (fun acc v => insF v acc) []
theorem impl_insertion {l : List Ver} (hs : RVers false h [.sl 6 a l.length c] l F) (hk : l.Pairwise fun p u => p.key < u.key) (hnd : F.Nodup) (hlo : ∀ b ∈ F, lo ≤ b) (hl : lo ≤ h.length) (hn : l.length ≤ 1048576) :
    ∃ h' F', evl lo 264 [.sl 6 a l.length c, .int .i64 0, .int .i64 (l.length : Nat), .fn 212 []] h = some (.tup [], h') ∧ RVers false h' [.sl 6 a l.length c] (sortV l) F' ∧ Mv h F h' F' := by
  suffices hq : ∃ h' F', L_slices_insertionSortCmpFunc_impl_Ver_0 lo a l.length c 0 (l.length : Nat) 212 [] (IntKind.wrap .i64 (0 + 1)) h = some (V.tup [], h') ∧ RVers false h' [.sl 6 a l.length c] (sortV l) F' ∧ Mv h F h' F' from hq.imp fun h' hq => hq.imp fun F' hq => ⟨E_slices_insertionSortCmpFunc_impl_Ver hq.1, hq.2⟩
  rw [show IntKind.i64.wrap (0 + 1) = ((1 : Nat) : Int) from wr_succ (k := 0) (by decide)]
  cases hl0 : l with
  | nil =>
    rw [hl0] at hs
    rw [L_slices_insertionSortCmpFunc_impl_Ver_0.e, br_neg (by simp)]
    exact ⟨h, F, rfl, hs, Mv.refl hnd⟩
  | cons x r =>
    rw [hl0] at hs hk hn
    rw [List.pairwise_cons] at hk
    exact sort_outer (n := (x :: r).length) r [x] h F (by simp [sortedV]) (fun u hu w hw => by rw [List.mem_singleton] at hu; subst hu; exact hk.1 w hw) hk.2 hs hnd hlo hl hn
end
end Go.Proofs.YtfhnofppfacemaaGreat
namespace Go.Proofs.YtfhnofppfacemaaGreat
open Go T
set_option linter.unusedVariables false
set_option linter.unusedSimpArgs false
/-- rows put behind a slice, or none -/
theorem push_rows {α : Type} {El : Rel α} {h : Heap} {lo R e n bytes : Nat} {a : Option (Nat × Nat)} {c : Option Nat} {l ys : List α} {F : List Nat} {xs : List (List V)} {Gs : List (List Nat)} (hfr : El.Fr)
    (hs : Sli false R e El h [.sl R a n c] l F) (hx : EAll El h xs ys Gs) (hb : 0 < bytes) (hsz : (l.length + ys.length) * bytes ≤ 140737488355328) (hlo : ∀ b ∈ F, lo ≤ b) (hl : lo ≤ h.length)
    (hnd : (F ++ Gs.flatten).Nodup) (hF : ∀ b ∈ F ++ Gs.flatten, b < h.length) :
    ∃ a' c' h' F', (∀ {R' : Type} (K : V → Heap → Option R'), app lo e R bytes (.sl R a n c) xs h K = K (.sl R a' (l.length + ys.length) c') h') ∧ Sli false R e El h' [.sl R a' (l.length + ys.length) c'] (l ++ ys) F' ∧ h.length ≤ h'.length ∧
      (∀ b, b < h.length → b ∉ F → h'[b]? = h[b]?) ∧ (∀ b ∈ F', b ∈ F ++ Gs.flatten ∨ (h.length ≤ b ∧ b < h'.length)) ∧ F'.Nodup := by
  cases ys with
  | nil =>
    have hx0 : xs = [] := List.eq_nil_of_length_eq_zero hx.len.1
    have hn := hs.val
    subst hx0; subst hn
    rw [List.nodup_append] at hnd
    exact ⟨a, c, h, F, fun K => rfl, by rw [List.append_nil]; exact hs, Nat.le_refl _, fun _ _ _ => rfl, fun b hb => .inl (by simp [hb]), hnd.1⟩
  | cons y ys => exact Sli.push hfr hs hx hb hsz hlo hl hnd hF (by simp)
/-- a slice's rows ahead of a place, and behind it -/
theorem Sli.parts {α : Type} {El : Rel α} {R e : Nat} {h : Heap} {a : Option (Nat × Nat)} {c : Option Nat} {l : List α} {F : List Nat} (hs : Sli false R e El h [.sl R a l.length c] l F) (hnd : F.Nodup) :
    ∃ Fs : List (List Nat), Fs.flatten.Nodup ∧ (∀ y ∈ Fs.flatten, y ∈ F) ∧ (∀ b i, a = some (b, i) → b ∈ F ∧ b ∉ Fs.flatten) ∧ ∀ k, k ≤ l.length → ∃ rP rQ, EAll El h rP (l.take k) (Fs.take k) ∧ EAll El h rQ (l.drop k) (Fs.drop k) ∧
      (∀ {T : Type} (h' : Heap), (∀ b i, a = some (b, i) → h'[b]? = h[b]?) → ∀ K : List (List V) → Option T, (reslice a l.length c none (some (.int .i64 (k : Nat))) none fun a n c => rowsOf R h' (.sl R a n c) K) = K rP) ∧
      (∀ {T : Type} (h' : Heap), (∀ b i, a = some (b, i) → h'[b]? = h[b]?) → ∀ K : List (List V) → Option T, (reslice a l.length c (some (.int .i64 (k : Nat))) none none fun a n c => rowsOf R h' (.sl R a n c) K) = K rQ) := by
  obtain ⟨R1, a1, c1, e1, g⟩ := hs
  injection e1 with e1 _; injection e1 with e0 e2 _ e3
  subst e2; subst e3
  cases a with
  | none =>
    obtain ⟨rfl, rfl, rfl⟩ := g
    refine ⟨[], by simp, by simp, fun b i h => by simp at h, fun k hk => ?_⟩
    have hk0 : k = 0 := by simpa using hk
    subst hk0
    refine ⟨[], [], trivial, trivial, fun h' _ K => ?_, fun h' _ K => ?_⟩
    · unfold reslice slMax slHi slLo
      simp only [eI_int, Option.isNone_none]
      rw [inS_in ⟨by simp, by simp⟩]
      simp [rowsOf]
    · unfold reslice slMax slHi slLo
      simp only [eI_int, Option.isNone_none]
      rw [inS_in ⟨by simp, by simp⟩]
      simp [rowsOf, slAt]
  | some p =>
    obtain ⟨b, i⟩ := p
    obtain ⟨_, rs, Fs, g1, g2, g3, _, g5, rfl⟩ := g
    rw [List.nodup_cons] at hnd
    have key : ∀ {T : Type} (h' : Heap), h'[b]? = h[b]? → ∀ (K : List (List V) → Option T) (j m : Nat) (c8 : Option Nat), j + m ≤ rs.length → rowsOf R h' (.sl R (some (b, j)) m c8) K = K ((rs.drop j).take m) := fun h' hb' K j m c8 hj => by
      simp only [rowsOf, beq_of, need_t]
      cases m with
      | zero => simp
      | succ m =>
        simp only
        rw [show ldRows h' b j (m + 1) = some ((rs.drop j).take (m + 1)) by
          simp only [ldRows, Heap.rows?, hb', g1, Option.bind_some]
          rw [ble_of hj]]
        rfl
    refine ⟨Fs, hnd.2, fun y hy => List.mem_cons_of_mem _ hy, fun b' i' e => by injection e with e; injection e with e1 e2; subst e1; exact ⟨by simp, hnd.1⟩, fun k hk => ?_⟩
    have hrP : ((rs.drop i).take l.length).take k = (rs.drop i).take k := by rw [List.take_take, Nat.min_eq_left hk]
    have hrQ : ((rs.drop i).take l.length).drop k = (rs.drop (i + k)).take (l.length - k) := by rw [List.drop_take, List.drop_drop]
    refine ⟨(rs.drop i).take k, (rs.drop (i + k)).take (l.length - k), by rw [← hrP]; exact g5.take k, by rw [← hrQ]; exact g5.drop k, fun h' hh K => ?_, fun h' hh K => ?_⟩
    · unfold reslice slMax slHi slLo
      simp only [eI_int, Option.isNone_none, Int.toNat_natCast]
      have := key h' (hh b i rfl) K i k c (by omega)
      cases c with
      | none => simp only; rw [inS_in ⟨by omega, by omega⟩]; exact this
      | some N => simp only; rw [inS_in ⟨by omega, by have := (g3 N rfl).1; omega⟩]; exact this
    · unfold reslice slMax slHi slLo
      simp only [eI_int, Option.isNone_none, Int.toNat_natCast]
      rw [inS_in ⟨by omega, by omega⟩]
      cases c with
      | none => exact key h' (hh b i rfl) K (i + k) (l.length - k) none (by omega)
      | some N =>
        have hN := (g3 N rfl).1
        unfold slAt
        simp only
        cases hb : Nat.beq N k with
        | false => rw [br_f]; exact key h' (hh b i rfl) K (i + k) (l.length - k) _ (by omega)
        | true =>
          have := Nat.eq_of_beq_eq_true hb
          rw [br_t, show l.length - k = 0 by omega]
          simp [rowsOf, need]
def lackF (out : List Ver) (x : Ver × Ver) : List Ver := bif lessV x.2 x.1 then insF x.1 out else out
/-- what a node has that the next one has not -/
def lackL (s t : List Ver) : List Ver := (s.zip t).foldl lackF []
theorem insF_at {v : Ver} : ∀ {l : List Ver} {k : Nat}, k ≤ l.length → (∀ i (hi : i < l.length), i < k → lessV l[i] v = true) → (∀ hk : k < l.length, lessV l[k] v = false) → insF v l = l.take k ++ v :: l.drop k
  | [], k, hk, _, _ => by simp [insF]
  | u :: r, 0, hk, _, h2 => by
    have := h2 (by simp)
    simp only [List.getElem_cons_zero] at this
    simp [insF, this]
  | u :: r, k + 1, hk, h1, h2 => by
    have h0 := h1 0 (by simp) (by omega)
    simp only [List.getElem_cons_zero] at h0
    simp only [insF, h0, cond_true, List.take_succ_cons, List.drop_succ_cons, List.cons_append]
    rw [insF_at (l := r) (k := k) (by simpa using hk) (fun i hi hik => by have := h1 (i + 1) (by simpa using hi) (by omega); simpa using this) (fun hkr => by have := h2 (by simpa using hkr); simpa using this)]

section
variable {lo : Nat} {h : Heap} {F F' G : List Nat} {a a' av : Option (Nat × Nat)} {c c' cv : Option Nat}
/-- rows in a slice of their own -/
theorem fresh_rows {α : Type} {El : Rel α} (ok : El.Ok) {R e bytes : Nat} {rows : List (List V)} {l : List α} {Fs : List (List Nat)} (hx : EAll El h rows l Fs) (hnd : Fs.flatten.Nodup) (hF : ∀ y ∈ Fs.flatten, y < h.length) (hb : 0 < bytes) (hsz : l.length * bytes ≤ 140737488355328) (hl : lo ≤ h.length) :
    ∃ a' c' h' F', (∀ {T : Type} (K : V → Heap → Option T), app lo e R bytes (.sl R (some (h.length, 0)) 0 (some 0)) rows (h ++ [.rows R e false []]) K = K (.sl R a' l.length c') h') ∧ Sli false R e El h' [.sl R a' l.length c'] l F' ∧ h.length < h'.length ∧ (∀ y, y < h.length → h'[y]? = h[y]?) ∧
      (∀ y ∈ F', y ∈ Fs.flatten ∨ (h.length ≤ y ∧ y < h'.length)) ∧ F'.Nodup := by
  have m0 : Mv h [] (h ++ [.rows R e false []]) [h.length] := Mv.last
  have hfresh : Sli false R e El (h ++ [.rows R e false []]) [.sl R (some (h.length, 0)) 0 (some 0)] [] [h.length] := Sli.fresh (Nat.le_refl _)
  obtain ⟨a', c', h', F', p1, p2, p3, p4, p5, p6⟩ := push_rows (lo := lo) (bytes := bytes) ok.fr hfresh (xs := rows) (ys := l) (Gs := Fs) (hx.fr ok.fr fun y hy => m0.fr y (hF y hy) (by simp)) hb (by simpa using hsz) (by simp; omega) (by simp; omega)
    (by rw [List.cons_append, List.nil_append, List.nodup_cons]; exact ⟨fun hm => by have := hF _ hm; omega, hnd⟩) (fun y hy => by
      rw [List.cons_append, List.nil_append, List.mem_cons] at hy
      rcases hy with rfl | hy
      · simp
      · have := hF y hy; simp; omega)
  simp only [List.length_nil, Nat.zero_add, List.nil_append] at p1 p2
  refine ⟨a', c', h', F', p1, p2, by simp at p3; omega, fun y hy => ?_, fun y hy => ?_, p6⟩
  · rw [p4 y (by simp; omega) (by simp; omega)]; exact m0.fr y hy (by simp)
  · simp at p3
    rcases p5 y hy with g | g
    · rw [List.cons_append, List.nil_append, List.mem_cons] at g
      rcases g with rfl | g
      · exact .inr (by omega)
      · exact .inl g
    · simp at g; exact .inr (by omega)
theorem take_drop_disj {Fs : List (List Nat)} {k : Nat} (hnd : Fs.flatten.Nodup) : (Fs.take k).flatten.Nodup ∧ (Fs.drop k).flatten.Nodup ∧ ∀ x ∈ (Fs.take k).flatten, ∀ y ∈ (Fs.drop k).flatten, x ≠ y := by
  rw [← List.take_append_drop k Fs, List.flatten_append, List.nodup_append] at hnd
  exact hnd
theorem spec_l3Lack {s t : List Ver} {a1 a2 : Option (Nat × Nat)} {c1 c2 : Option Nat} {F1 F2 : List Nat} (hs : RVers false h [.sl 6 a1 s.length c1] s F1) (ht : RVers false h [.sl 6 a2 t.length c2] t F2) (h4 : s.length = 4) (h4' : t.length = 4) (hpn : ∀ v ∈ s, v.past.length ≤ 1048576) (hl : lo ≤ h.length) :
    ∃ a' c' h' F', evl lo 201 [.agg [.sl 6 a1 s.length c1], .agg [.sl 6 a2 t.length c2]] h = some (.sl 6 a' (lackL s t).length c', h') ∧ RVers false h' [.sl 6 a' (lackL s t).length c'] (lackL s t) F' ∧ Mv h [] h' F' := by
  suffices hq : ∃ a' c' h' F', _ = some (V.sl 6 a' (lackL s t).length c', h') ∧ RVers false h' [.sl 6 a' (lackL s t).length c'] (lackL s t) F' ∧ Mv h [] h' F' from by
    obtain ⟨a', c', h', F', e, hr⟩ := hq
    exact ⟨a', c', h', F', E_spec_l3Lack e, hr⟩
  have hzl : (s.zip t).length = 4 := by rw [List.length_zip]; omega
  have one : ∀ m i, m + i = 4 → ∀ hh ax cx (out : List Ver) Fx, RVers false hh [.sl 6 ax out.length cx] out Fx → Mv h [] hh Fx → out.length ≤ i → ∃ a' c' h' F',
      L_spec_l3Lack_0 lo ax out.length cx (i : Nat) a1 s.length c1 a2 t.length c2 hh = some (.sl 6 a' (((s.zip t).drop i).foldl lackF out).length c', h') ∧ RVers false h' [.sl 6 a' (((s.zip t).drop i).foldl lackF out).length c'] (((s.zip t).drop i).foldl lackF out) F' ∧ Mv h [] h' F' := by
    intro m
    induction m with
    | zero =>
      intro i hi hh ax cx out Fx hr hm hlen
      rw [L_spec_l3Lack_0.e, br_neg (by omega), List.drop_eq_nil_of_le (by omega)]
      exact ⟨ax, cx, hh, Fx, rfl, hr, hm⟩
    | succ m ih =>
      intro i hi hh ax cx out Fx hr hm hlen
      have his : i < s.length := by omega
      have hit : i < t.length := by omega
      have hs' := hm.keep0 rvers_ok hs
      have ht' := hm.keep0 rvers_ok ht
      obtain ⟨o1, s1, b1, d1, H1, ha1, _, _, _, _, _, _, hl1, hl1', es1, hp1, _⟩ := RVers.all hs' his
      obtain ⟨o2, s2, b2, d2, H2, ha2, _, _, _, _, _, _, hl2, _, _, _, _⟩ := RVers.all ht' hit
      have hzi : i < (s.zip t).length := by omega
      rw [List.drop_eq_getElem_cons hzi, List.foldl_cons, List.getElem_zip]
      have hlf : lackF out (s[i], t[i]) = bif lessV t[i] s[i] then insF s[i] out else out := rfl
      rw [hlf, L_spec_l3Lack_0.e, br_pos (by omega), inB_nat hit, ha2, eO_s, Int.toNat_natCast, hl2, eO_s, eC_c, eI_int, eC_c, eI_int, eN_n, inB_nat his, ha1, eO_s, hl1, eO_s, eC_c, eI_int, eC_c, eI_int, eN_n, spec_l1Less, cal_s, eB_b, ← ha1, ← ha2]
      show ∃ a' c' h' F', br (lessV t[i] s[i]) _ _ = _ ∧ _
      cases hless : lessV t[i] s[i] with
      | false =>
        rw [br_f, cond_false, wr_succ (by omega)]
        exact ih (i + 1) (by omega) hh ax cx out Fx hr hm (by omega)
      | true =>
      rw [br_t, cond_true]
      -- the version put into a new list at a place
      have put : ∀ k, k ≤ out.length → insF s[i] out = out.take k ++ s[i] :: out.drop k → ∃ a' c' h' F', (reslice ax out.length cx none (some (.int .i64 (k : Nat))) none fun a_36 n_37 c_38 => rowsOf 6 (hh ++ [.rows 6 36 false []]) (.sl 6 a_36 n_37 c_38) fun x_39 => app lo 36 6 72 (.sl 6 (some ((List.length hh), 0)) 0 (some 0)) x_39 (hh ++ [.rows 6 36 false []]) fun v_40 h_41 => eS 6 (v_40) fun a_42 n_43 c_44 => inB ((i : Nat) : Int) s.length (eO a1 fun o_45 => eO (ld h_41 (o_45.1) ((o_45.2) + (((i : Nat) : Int).toNat)) 0 6) fun o_46 => eC o_46 fun v_47 l_48 => eI .i64 v_47 fun n_49 => eC l_48 fun v_50 l_51 => eI .i64 v_50 fun n_52 => eC l_51 fun v_53 l_54 => eI .i64 v_53 fun n_55 => eC l_54 fun v_56 l_57 => eS 2 (v_56) fun a_58 n_59 c_60 => eC l_57 fun v_61 l_62 => eT v_61 fun s_63 => eC l_62 fun v_64 l_65 => eBv v_64 fun b_66 => eN l_65 (cal (evl lo 72 [.agg [.int .i64 (n_49), .int .i64 (n_52), .int .i64 (n_55), .sl 2 a_58 n_59 c_60, .str (s_63), .bool (b_66)]] h_41) fun v_67 h_68 => eA v_67 fun c_69 => eC c_69 fun v_70 l_71 => eI .i64 v_70 fun n_72 => eC l_71 fun v_73 l_74 => eI .i64 v_73 fun n_75 => eC l_74 fun v_76 l_77 => eI .i64 v_76 fun n_78 => eC l_77 fun v_79 l_80 => eS 2 (v_79) fun a_81 n_82 c_83 => eC l_80 fun v_84 l_85 => eT v_84 fun s_86 => eC l_85 fun v_87 l_88 => eBv v_87 fun b_89 => eN l_88 (rowsOf 6 (h_68 ++ [.rows 6 36 false [[.int .i64 (n_72), .int .i64 (n_75), .int .i64 (n_78), .sl 2 a_81 n_82 c_83, .str (s_86), .bool (b_89)]]]) (.sl 6 (some ((List.length h_68), 0)) 1 (some 1)) fun x_90 => app lo 36 6 72 (.sl 6 a_42 n_43 c_44) x_90 (h_68 ++ [.rows 6 36 false [[.int .i64 (n_72), .int .i64 (n_75), .int .i64 (n_78), .sl 2 a_81 n_82 c_83, .str (s_86), .bool (b_89)]]]) fun v_91 h_92 => eS 6 (v_91) fun a_93 n_94 c_95 => reslice ax out.length cx (some (.int .i64 (k : Nat))) none none fun a_96 n_97 c_98 => rowsOf 6 h_92 (.sl 6 a_96 n_97 c_98) fun x_99 => app lo 36 6 72 (.sl 6 a_93 n_94 c_95) x_99 h_92 fun v_100 h_101 => eS 6 (v_100) fun a_102 n_103 c_104 => L_spec_l3Lack_0 lo a_102 n_103 c_104 (IntKind.wrap .i64 (((i : Nat) : Int) + 1)) a1 s.length c1 a2 t.length c2 h_101)))) = some (V.sl 6 a' (((s.zip t).drop (i + 1)).foldl lackF (insF s[i] out)).length c', h') ∧
          RVers false h' [.sl 6 a' (((s.zip t).drop (i + 1)).foldl lackF (insF s[i] out)).length c'] (((s.zip t).drop (i + 1)).foldl lackF (insF s[i] out)) F' ∧ Mv h [] h' F' := by
        intro k hk hins
        have hbx := rvers_ok.bd _ _ _ _ hr
        obtain ⟨Fs, nF, sF, own, cuts⟩ := hr.parts hm.nd
        obtain ⟨rP, rQ, eP, eQ, kP, kQ⟩ := cuts k hk
        obtain ⟨nP, nQ, dPQ⟩ := take_drop_disj (k := k) nF
        have inP : ∀ y ∈ (Fs.take k).flatten, y ∈ Fs.flatten := fun y hy => by rw [← List.take_append_drop k Fs, List.flatten_append]; simp [hy]
        have inQ : ∀ y ∈ (Fs.drop k).flatten, y ∈ Fs.flatten := fun y hy => by rw [← List.take_append_drop k Fs, List.flatten_append]; simp [hy]
        have hFl : ∀ y ∈ Fs.flatten, y < hh.length := fun y hy => hbx y (sF y hy)
        have hlh : lo ≤ hh.length := Nat.le_trans hl hm.le
        have htl : (out.take k).length = k := by rw [List.length_take]; omega
        have hdl : (out.drop k).length = out.length - k := by rw [List.length_drop]
        obtain ⟨a3, c3, h3, F3, e3, r3, l3, fr3, sub3, nd3⟩ := fresh_rows (lo := lo) (R := 6) (e := eVer false) (bytes := 72) rver_ok eP nP (fun y hy => hFl y (inP y hy)) (by decide) (by omega) hlh
        have m3 : Mv hh [] h3 [] := ⟨by omega, fun y hy _ => fr3 y hy, by simp, by simp⟩
        have hs3 := m3.keep0 rvers_ok hs'
        obtain ⟨o4, s4, b4, d4, H4, ha4, ho4, es4, hp4, _⟩ := hs3.get his
        obtain ⟨a5, c5, h5, F5, e5, r5, m5⟩ := spec_l2Copy (lo := lo) (v := s[i]) hp4 (by omega) (hpn _ (List.getElem_mem his))
        obtain ⟨a6, c6, h6, F6, e6, r6, m6⟩ := push_one (lo := lo) (bytes := 72) (e := 36) rver_ok r3 (row := s[i].cs a5 c5) (x := s[i]) (G := F5) (h1 := h5 ++ [.rows 6 36 false [s[i].cs a5 c5]])
          ⟨_, rfl, Mv.snoc.keep0 rtags_ok r5⟩ (m5.trans (Mv.snoc' m5.nd)) nd3 (fun y hy => by
            rcases sub3 y hy with g | g
            · exact hm.ge hl (by simp) y (sF y (inP y g))
            · omega) (by omega) (by decide) (by omega)
        have hQ3 : ∀ y ∈ (Fs.drop k).flatten, y ∉ F3 ∧ y < h3.length := fun y hy => by
          have := hFl y (inQ y hy)
          refine ⟨fun hm3 => ?_, by omega⟩
          rcases sub3 y hm3 with g | g
          · exact dPQ y g y hy rfl
          · omega
        have hQ6 : ∀ y ∈ (Fs.drop k).flatten, h6[y]? = hh[y]? := fun y hy => by
          rw [m6.fr y (hQ3 y hy).2 (hQ3 y hy).1]; exact fr3 y (hFl y (inQ y hy))
        have l6 := m6.le
        have F6b : ∀ y ∈ F6, y < h6.length := rvers_ok.bd _ _ _ _ r6
        obtain ⟨a7, c7, h7, F7, e7, r7, l7, fr7, sub7, nd7⟩ := push_rows (lo := lo) (bytes := 72) rver_ok.fr r6 (xs := rQ) (ys := out.drop k) (Gs := Fs.drop k) (eQ.fr rver_ok.fr hQ6) (by decide) (by simp only [List.length_append, htl, hdl, List.length_singleton]; omega) (fun y hy => m6.ge (by omega) (fun y hy => by
            rcases sub3 y hy with g | g
            · exact hm.ge hl (by simp) y (sF y (inP y g))
            · omega) y hy) (by omega) (by
            rw [List.nodup_append]
            refine ⟨m6.nd, nQ, fun x hx y hy e => ?_⟩
            subst e
            rcases m6.sub x hx with g | g
            · exact (hQ3 x hy).1 g
            · have := (hQ3 x hy).2; omega) (fun y hy => by
            rcases List.mem_append.1 hy with hy | hy
            · exact F6b y hy
            · have := (hQ3 y hy).2; omega)
        have hfin : out.take k ++ [s[i]] ++ out.drop k = insF s[i] out := by rw [hins, List.append_assoc]; rfl
        have hflen : (out.take k).length + 1 + (out.drop k).length = (insF s[i] out).length := by rw [insF_len, htl, hdl]; omega
        rw [List.length_append, List.length_singleton, hflen] at e7 r7
        rw [hfin] at r7
        have m7 : Mv h [] h7 F7 := by
          refine ⟨by have := hm.le; omega, fun y hy _ => ?_, nd7, fun y hy => ?_⟩
          · have y1 : y < hh.length := Nat.lt_of_lt_of_le hy hm.le
            have yF : y ∉ Fx := fun hmx => by have := hm.new y hmx; omega
            have y3 : y ∉ F3 := fun hm3 => by
              rcases sub3 y hm3 with g | g
              · exact yF (sF y (inP y g))
              · omega
            have y6 : y ∉ F6 := fun hm6 => by
              rcases m6.sub y hm6 with g | g
              · exact y3 g
              · omega
            rw [fr7 y (by omega) y6, m6.fr y (by omega) y3, fr3 y y1, hm.fr y hy (by simp)]
          · refine .inr ?_
            have hh' := hm.le
            rcases sub7 y hy with g | g
            · rcases List.mem_append.1 g with g | g
              · rcases m6.sub y g with g | g
                · rcases sub3 y g with g | g
                  · have := hm.new y (sF y (inP y g)); have := hFl y (inP y g); omega
                  · omega
                · omega
              · have := hm.new y (sF y (inQ y g)); have := hFl y (inQ y g); omega
            · omega
        obtain ⟨a8, c8, h8, F8, e8, r8, m8⟩ := ih (i + 1) (by omega) h7 a7 c7 (insF s[i] out) F7 r7 m7 (by rw [insF_len]; omega)
        refine ⟨a8, c8, h8, F8, ?_, r8, m8⟩
        have mm0 : Mv hh [] (hh ++ [.rows 6 36 false []]) [] := Mv.snoc
        have h6x : ∀ b i, ax = some (b, i) → h6[b]? = hh[b]? := fun b i e => by
          obtain ⟨q1, q2⟩ := own b i e
          have := hbx b q1
          rw [m6.fr b (by omega) fun hm3 => ?_, fr3 b this]
          rcases sub3 b hm3 with g | g
          · exact q2 (inP b g)
          · omega
        simp only [Ver.cs] at e6
        rw [show eVer false = 36 from rfl] at e3
        rw [kP _ (fun b i e => mm0.fr b (hbx b (own b i e).1) (by simp)), e3, eS_sl, inB_nat his, ha4, eO_s, Int.toNat_natCast, ho4, eO_s, eC_c, eI_int, eC_c, eI_int, eC_c, eI_int, eC_c, es4, eC_c, eT_s, eC_c, eBv_b, eN_n]
        rw [show (V.agg [.int .i64 s[i].key, .int .i64 s[i].tag.time, .int .i64 s[i].tag.place, .sl 2 b4 s[i].past.length d4, .str s[i].text, .bool s[i].gone]) = .agg (s[i].cs b4 d4) from rfl, e5, cal_s, eA_a, eC_c, eI_int, eC_c, eI_int, eC_c, eI_int, eC_c, eS_sl, eC_c, eT_s, eC_c, eBv_b, eN_n, rows_one, e6, eS_sl, kQ _ h6x, e7, eS_sl, wr_succ (by omega), ← ha4]
        exact e8
      -- the place
      have two : ∀ m k, m + k = out.length → (∀ j (hj : j < out.length), j < k → lessV out[j] s[i] = true) → ∃ a' c' h' F', L_spec_l3Lack_2 lo ax out.length cx (i : Nat) (k : Nat) a1 s.length c1 a2 t.length c2 hh = some (V.sl 6 a' (((s.zip t).drop (i + 1)).foldl lackF (insF s[i] out)).length c', h') ∧
          RVers false h' [.sl 6 a' (((s.zip t).drop (i + 1)).foldl lackF (insF s[i] out)).length c'] (((s.zip t).drop (i + 1)).foldl lackF (insF s[i] out)) F' ∧ Mv h [] h' F' := by
        intro m
        induction m with
        | zero =>
          intro k hk hall
          rw [L_spec_l3Lack_2.e, br_neg (by omega)]
          exact put k (by omega) (insF_at (by omega) hall (fun h => by omega))
        | succ m ih2 =>
          intro k hk hall
          have hkl : k < out.length := by omega
          obtain ⟨o3, s3, b3, d3, H3, ha3, _, _, _, _, _, _, hl3, _, _, _, _⟩ := RVers.all hr hkl
          rw [L_spec_l3Lack_2.e, br_pos (by omega), inB_nat hkl, ha3, eO_s, Int.toNat_natCast, hl3, eO_s, eC_c, eI_int, eC_c, eI_int, eN_n, inB_nat his, ha1, eO_s, Int.toNat_natCast, hl1, eO_s, eC_c, eI_int, eC_c, eI_int, eN_n, spec_l1Less, cal_s, eB_b, ← ha1, ← ha3]
          show ∃ a' c' h' F', br (lessV out[k] s[i]) _ _ = _ ∧ _
          cases hlk : lessV out[k] s[i] with
          | true =>
            rw [br_t, wr_succ (by omega)]
            exact ih2 (k + 1) (by omega) (fun j hj hjk => by
              by_cases e : j = k
              · subst e; exact hlk
              · exact hall j hj (by omega))
          | false =>
            rw [br_f]
            exact put k (by omega) (insF_at (by omega) hall (fun _ => hlk))
      exact two out.length 0 (by omega) (fun j _ hj => by omega)
  have m0 : Mv h [] (h ++ [.rows 6 36 false []]) [h.length] := Mv.last
  obtain ⟨a', c', h', F', e, r, m⟩ := one 4 0 (by omega) (h ++ [.rows 6 36 false []]) (some (h.length, 0)) (some 0) [] [h.length] (Sli.fresh (Nat.le_refl _)) m0 (by simp)
  rw [List.drop_zero] at e r
  exact ⟨a', c', h', F', e, r, m⟩
end
end Go.Proofs.YtfhnofppfacemaaGreat
namespace Go.Proofs.YtfhnofppfacemaaGreat
open Go T
set_option linter.unusedVariables false
set_option linter.unusedSimpArgs false
def waitAt (l : List Node) (k : Nat) (w : List Ver) : List Node := match l[k]? with
  | some x => l.set k ⟨x.store, w⟩
  | none => l
def storeAtN (l : List Node) (k : Nat) : List Ver := match l[k]? with
  | some x => x.store
  | none => []
/-- what stays of a chain without a node -/
def fallN (l : List Node) (k : Nat) : List Node :=
  bif decide (0 < k) then (bif decide (k < (l.eraseIdx k).length) then waitAt (l.eraseIdx k) (k - 1) (lackL (storeAtN (l.eraseIdx k) (k - 1)) (storeAtN (l.eraseIdx k) k)) else waitAt (l.eraseIdx k) (k - 1) []) else l.eraseIdx k
theorem waitAt_get {l : List Node} {k : Nat} {w : List Ver} (hk : k < l.length) : waitAt l k w = l.set k ⟨l[k].store, w⟩ := by unfold waitAt; rw [List.getElem?_eq_getElem hk]
theorem storeAtN_get {l : List Node} {k : Nat} (hk : k < l.length) : storeAtN l k = l[k].store := by unfold storeAtN; rw [List.getElem?_eq_getElem hk]
theorem waitAt_len {l : List Node} {k : Nat} {w : List Ver} : (waitAt l k w).length = l.length := by unfold waitAt; split <;> simp
theorem waitAt_same {l : List Node} {k : Nat} (hk : k < l.length) (hw : l[k].wait = []) : waitAt l k [] = l := by
  rw [waitAt_get hk]
  have : (⟨l[k].store, []⟩ : Node) = l[k] := by
    cases hx : l[k] with
    | mk s w => rw [hx] at hw; simp only at hw; rw [hw]
  rw [this]; exact List.set_getElem_self hk

section
variable {lo : Nat} {h : Heap} {F F' G : List Nat} {a a' av : Option (Nat × Nat)} {c c' cv : Option Nat}
/-- what waits at a node, laid anew -/
theorem set_wait {l : List Node} {n k : Nat} {ws : List Ver} {w : V} {h1 : Heap} {Fw : List Nat} (hs : RNodes false h [.sl 2 a n c] l F) (hk : k < l.length) (hnd : F.Nodup) (hlo : ∀ b ∈ F, lo ≤ b) (hw : RVers false h1 [w] ws Fw) (m : Mv h [] h1 Fw) :
    ∃ b i h2 F', a = some (b, i) ∧ b ∈ F ∧ st lo h1 b (i + k) 1 [w] = some h2 ∧ RNodes false h2 [.sl 2 a n c] (waitAt l k ws) F' ∧ Mv h F h2 F' ∧ (∀ y, y ≠ b → h2[y]? = h1[y]?) := by
  obtain ⟨b, i, rs, row, G0, ha, hbF, hbG, hb, hrow, hel, hGF, hGn, put⟩ := hs.at2 rnode_ok hk hnd hlo
  obtain ⟨t1, t2, F1, F2, rfl, rfl, r1, r2⟩ := hel
  rw [List.nodup_append] at hGn
  have b1 : ∀ y ∈ F1, y < h.length := rvers_ok.bd _ _ _ _ r1
  have m1 : Mv h (F1 ++ F2) h1 (F1 ++ Fw) := by
    refine ⟨m.le, fun y hy _ => m.fr y hy (by simp), ?_, fun y hy => ?_⟩
    · rw [List.nodup_append]
      refine ⟨hGn.1, m.nd, fun x hx y hy e => ?_⟩
      subst e
      have := b1 x hx
      have := m.new x hy
      omega
    · rcases List.mem_append.1 hy with hy | hy
      · exact .inl (by simp [hy])
      · exact (m.sub y hy).imp (fun g => by simp at g) id
  obtain ⟨h2, F', e2, r, m2, fr, _⟩ := put h1 (F1 ++ Fw) 1 [w] [t1, w] ⟨l[k].store, ws⟩ m1 rfl ⟨_, _, F1, Fw, rfl, rfl, m.keep0 rvers_ok r1, hw⟩
  rw [← waitAt_get hk] at r
  exact ⟨b, i, h2, F', ha, hbF, e2, r, m2, fr⟩
/-- a chain without a node, in a slice of its own -/
theorem erase_new {l : List Node} {k : Nat} (hs : RNodes false h [.sl 2 a l.length c] l F) (hk : k < l.length) (hnd : F.Nodup) (hlo : ∀ b ∈ F, lo ≤ b) (hl : lo ≤ h.length) (hn : l.length ≤ 1048576) :
    ∃ a' c' h' F', (∀ {T : Type} (K : V → Heap → Option T), (reslice a l.length c none (some (.int .i64 (k : Nat))) none fun a_0 n_1 c_2 => rowsOf 2 (h ++ [.rows 2 175 false []]) (.sl 2 a_0 n_1 c_2) fun x_3 => app lo 175 2 48 (.sl 2 (some ((List.length h), 0)) 0 (some 0)) x_3 (h ++ [.rows 2 175 false []]) fun v_4 h_5 => eS 2 (v_4) fun a_6 n_7 c_8 =>
        reslice a l.length c (some (.int .i64 ((k + 1 : Nat) : Int))) none none fun a_9 n_10 c_11 => rowsOf 2 h_5 (.sl 2 a_9 n_10 c_11) fun x_12 => app lo 175 2 48 (.sl 2 a_6 n_7 c_8) x_12 h_5 K) = K (.sl 2 a' (l.eraseIdx k).length c') h') ∧
      RNodes false h' [.sl 2 a' (l.eraseIdx k).length c'] (l.eraseIdx k) F' ∧ Mv h F h' F' := by
  have hbd := rnodes_ok.bd _ _ _ _ hs
  obtain ⟨Fs, nF, sF, own, cuts⟩ := Sli.parts hs hnd
  obtain ⟨rP, _, eP, _, kP, _⟩ := cuts k (by omega)
  obtain ⟨_, rQ, _, eQ, _, kQ⟩ := cuts (k + 1) (by omega)
  obtain ⟨nP, _, dPQ⟩ := take_drop_disj (k := k) nF
  obtain ⟨_, nQ, _⟩ := take_drop_disj (k := k + 1) nF
  have inP : ∀ y ∈ (Fs.take k).flatten, y ∈ Fs.flatten := fun y hy => by rw [← List.take_append_drop k Fs, List.flatten_append]; simp [hy]
  have inQ : ∀ y ∈ (Fs.drop (k + 1)).flatten, y ∈ (Fs.drop k).flatten := fun y hy => by
    have : Fs.drop (k + 1) = (Fs.drop k).drop 1 := by rw [List.drop_drop]
    rw [this] at hy
    rw [← List.take_append_drop 1 (Fs.drop k), List.flatten_append]; exact List.mem_append.2 (.inr hy)
  have inQ' : ∀ y ∈ (Fs.drop (k + 1)).flatten, y ∈ Fs.flatten := fun y hy => by rw [← List.take_append_drop k Fs, List.flatten_append]; simp [inQ y hy]
  have hFl : ∀ y ∈ Fs.flatten, y < h.length := fun y hy => hbd y (sF y hy)
  have htl : (l.take k).length = k := by rw [List.length_take]; omega
  have hdl : (l.drop (k + 1)).length = l.length - (k + 1) := by rw [List.length_drop]
  obtain ⟨a3, c3, h3, F3, e3, r3, l3, fr3, sub3, nd3⟩ := fresh_rows (lo := lo) (R := 2) (e := eNode false) (bytes := 48) rnode_ok eP nP (fun y hy => hFl y (inP y hy)) (by decide) (by omega) hl
  have hQ3 : ∀ y ∈ (Fs.drop (k + 1)).flatten, y ∉ F3 ∧ y < h3.length := fun y hy => by
    have := hFl y (inQ' y hy)
    refine ⟨fun hm3 => ?_, by omega⟩
    rcases sub3 y hm3 with g | g
    · exact dPQ y g y (inQ y hy) rfl
    · omega
  have F3b : ∀ y ∈ F3, y < h3.length := rnodes_ok.bd _ _ _ _ r3
  obtain ⟨a7, c7, h7, F7, e7, r7, l7, fr7, sub7, nd7⟩ := push_rows (lo := lo) (bytes := 48) rnode_ok.fr r3 (xs := rQ) (ys := l.drop (k + 1)) (Gs := Fs.drop (k + 1)) (eQ.fr rnode_ok.fr fun y hy => fr3 y (hFl y (inQ' y hy))) (by decide) (by rw [htl, hdl]; omega) (fun y hy => by
      rcases sub3 y hy with g | g
      · exact hlo y (sF y (inP y g))
      · omega) (by omega) (by
      rw [List.nodup_append]
      refine ⟨nd3, nQ, fun x hx y hy e => ?_⟩
      subst e
      exact (hQ3 x hy).1 hx) (fun y hy => by
      rcases List.mem_append.1 hy with hy | hy
      · exact F3b y hy
      · exact (hQ3 y hy).2)
  have hel : (l.take k).length + (l.drop (k + 1)).length = (l.eraseIdx k).length := by rw [List.length_eraseIdx_of_lt hk, htl, hdl]; omega
  have her : l.take k ++ l.drop (k + 1) = l.eraseIdx k := (List.eraseIdx_eq_take_drop_succ l k).symm
  rw [hel] at e7 r7
  rw [her] at r7
  have mm0 : Mv h [] (h ++ [.rows 2 175 false []]) [] := Mv.snoc
  rw [show eNode false = 175 from rfl] at e3 e7
  refine ⟨a7, c7, h7, F7, fun K => ?_, r7, ⟨by omega, fun y hy hyF => ?_, nd7, fun y hy => ?_⟩⟩
  · rw [kP _ (fun b i e => mm0.fr b (hbd b (own b i e).1) (by simp)), e3, eS_sl, kQ _ (fun b i e => fr3 b (hbd b (own b i e).1)), e7]
  · have y3 : y ∉ F3 := fun hm3 => by
      rcases sub3 y hm3 with g | g
      · exact hyF (sF y (inP y g))
      · omega
    rw [fr7 y (by omega) y3, fr3 y hy]
  · rcases sub7 y hy with g | g
    · rcases List.mem_append.1 g with g | g
      · rcases sub3 y g with g | g
        · exact .inl (sF y (inP y g))
        · exact .inr (by omega)
      · exact .inl (sF y (inQ' y g))
    · exact .inr (by omega)
theorem spec_l3Fall {l : List Node} {k : Nat} (hs : RNodes false h [.sl 2 a l.length c] l F) (hk : k < l.length) (h2 : 1 < l.length) (hlast : (l[l.length - 1]'(by omega)).wait = []) (hnd : F.Nodup) (hlo : ∀ b ∈ F, lo ≤ b) (hl : lo ≤ h.length) (hn : l.length ≤ 1048576) (hx : ∀ x ∈ l, nodeIn 20 x) :
    ∃ a' c' h' F', evl lo 118 [.agg [.sl 2 a l.length c], .int .i64 (k : Nat)] h = some (.agg [.sl 2 a' (fallN l k).length c'], h') ∧ RNodes false h' [.sl 2 a' (fallN l k).length c'] (fallN l k) F' ∧ Mv h F h' F' := by
  suffices hq : ∃ a' c' h' F', _ = some (V.agg [.sl 2 a' (fallN l k).length c'], h') ∧ RNodes false h' [.sl 2 a' (fallN l k).length c'] (fallN l k) F' ∧ Mv h F h' F' from by
    obtain ⟨a', c', h', F', e, hr⟩ := hq
    exact ⟨a', c', h', F', E_spec_l3Fall e, hr⟩
  have hel := List.length_eraseIdx_of_lt hk
  obtain ⟨a1, c1, h1, F1, e1, r1, m1⟩ := erase_new (lo := lo) hs hk hnd hlo hl hn
  have hflen : (fallN l k).length = l.length - 1 := by
    unfold fallN
    cases decide (0 < k)
    · exact hel
    · cases decide (k < (l.eraseIdx k).length)
      · rw [cond_true, cond_false, waitAt_len]; exact hel
      · rw [cond_true, cond_true, waitAt_len]; exact hel
  rw [wr_succ (by omega), e1, eS_sl]
  have hl1 : lo ≤ h1.length := Nat.le_trans hl m1.le
  have hlo1 : ∀ b ∈ F1, lo ≤ b := fun b hb => m1.ge hl hlo b hb
  have hn1 : ((l.eraseIdx k).length : Int) - 1 = (((l.eraseIdx k).length - 1 : Nat) : Int) := by omega
  -- the tail keeps nothing
  have tail : ∀ (l' : List Node) (hh : Heap) (F' : List Nat), l'.length = (l.eraseIdx k).length → RNodes false hh [.sl 2 a1 (l.eraseIdx k).length c1] l' F' → F'.Nodup → (∀ b ∈ F', lo ≤ b) → ∃ h' F'', (inB (IntKind.wrap .i64 ((((l.eraseIdx k).length : Nat) : Int) - 1)) (l.eraseIdx k).length (eO a1 fun o_41 => eO (st lo hh (o_41.1) ((o_41.2) + ((IntKind.i64.wrap ((((l.eraseIdx k).length : Nat) : Int) - (1 : Int))).toNat)) 1 [.sl 0 none 0 (some 0)]) fun o_42 => some (V.agg [.sl 2 a1 (l.eraseIdx k).length c1], o_42))) = some (.agg [.sl 2 a1 (l.eraseIdx k).length c1], h') ∧
      RNodes false h' [.sl 2 a1 (l.eraseIdx k).length c1] (waitAt l' ((l.eraseIdx k).length - 1) []) F'' ∧ Mv hh F' h' F'' := by
    intro l' hh F' hll hr hnd' hlo'
    obtain ⟨b, i, h3, F3, ha, _, e3, r3, m3, _⟩ := set_wait (lo := lo) (k := (l.eraseIdx k).length - 1) (w := .sl 0 none 0 (some 0)) (ws := []) hr (by omega) hnd' hlo' Sli.nil Mv.nil
    rw [wr (n := (((l.eraseIdx k).length : Nat) : Int) - 1) (by omega) (by omega), hn1, inB_nat (by omega), ha, eO_s, Int.toNat_natCast, e3, eO_s, ← ha]
    exact ⟨h3, F3, rfl, r3, m3⟩
  have hlast' : ∀ hj : (l.eraseIdx k).length - 1 < (l.eraseIdx k).length, k < (l.eraseIdx k).length → ((l.eraseIdx k)[(l.eraseIdx k).length - 1]).wait = [] := fun hj hkl => by
    have : (l.eraseIdx k)[(l.eraseIdx k).length - 1] = l[l.length - 1] := by
      rw [List.getElem_eraseIdx]
      rw [dif_neg (by omega)]
      congr 1; omega
    rw [this]; exact hlast
  by_cases h0 : 0 < k
  · rw [br_pos (by omega)]
    by_cases hkl : k < (l.eraseIdx k).length
    · -- in between
      have hf : fallN l k = waitAt (l.eraseIdx k) (k - 1) (lackL (storeAtN (l.eraseIdx k) (k - 1)) (storeAtN (l.eraseIdx k) k)) := by
        unfold fallN; rw [decide_eq_true h0, cond_true, decide_eq_true hkl, cond_true]
      have hk1 : k - 1 < (l.eraseIdx k).length := by omega
      have hxm : ∀ x ∈ l.eraseIdx k, nodeIn 20 x := fun x hx' => hx x (List.mem_of_mem_eraseIdx hx')
      obtain ⟨o, s1, s2, b1, d1, b2, d2, H1, H2, ha, _, ho1, _, q1, _, p1, _⟩ := r1.get hk1
      obtain ⟨o', s1', s2', b1', d1', b2', d2', H1', H2', ha', _, ho1', _, q1', _, p1', _⟩ := r1.get hkl
      have ho : o = o' := by rw [ha] at ha'; injection ha'
      subst ho
      have n1 := hxm _ (List.getElem_mem hk1)
      have n2 := hxm _ (List.getElem_mem hkl)
      obtain ⟨a4, c4, h4, F4, e4, r4, m4⟩ := spec_l3Lack (lo := lo) p1 p1' n1.1 n2.1 (fun v hv => by have := (n1.2.2.1 v hv).1; omega) hl1
      obtain ⟨b, i, h5, F5, hb, _, e5, r5, m5, _⟩ := set_wait (lo := lo) (k := k - 1) (w := .sl 6 a4 (lackL (l.eraseIdx k)[k - 1].store (l.eraseIdx k)[k].store).length c4) r1 hk1 m1.nd hlo1 r4 m4
      obtain ⟨h6, F6, e6, r6, m6⟩ := tail _ h5 F5 waitAt_len r5 m5.nd (fun b hb => m5.ge hl1 hlo1 b hb)
      have hkk : ((k : Nat) : Int) - 1 = ((k - 1 : Nat) : Int) := by omega
      have hoe : o = (b, i) := by rw [ha] at hb; injection hb
      subst hoe
      rw [br_pos (by omega), wr (n := ((k : Nat) : Int) - 1) (by omega) (by omega), hkk, inB_nat hk1, ha, eO_s, Int.toNat_natCast, ho1, eO_s, eC_c, q1, eN_n, inB_nat hkl, eO_s, Int.toNat_natCast, ho1', eO_s, eC_c, q1', eN_n, e4, cal_s, eS_sl, inB_nat hk1, eO_s, e5, eO_s, ← ha, e6]
      have hsame : waitAt (waitAt (l.eraseIdx k) (k - 1) (lackL (l.eraseIdx k)[k - 1].store (l.eraseIdx k)[k].store)) ((l.eraseIdx k).length - 1) [] = fallN l k := by
        rw [hf, storeAtN_get hk1, storeAtN_get hkl]
        have hj : (l.eraseIdx k).length - 1 < (waitAt (l.eraseIdx k) (k - 1) (lackL (l.eraseIdx k)[k - 1].store (l.eraseIdx k)[k].store)).length := by rw [waitAt_len]; omega
        refine waitAt_same hj ?_
        have hg := waitAt_get (w := lackL (l.eraseIdx k)[k - 1].store (l.eraseIdx k)[k].store) hk1
        rw [List.getElem_of_eq hg, List.getElem_set_ne (by omega)]
        exact hlast' (by omega) hkl
      rw [hsame] at r6
      refine ⟨a1, c1, h6, F6, by rw [hflen, hel], by rw [hflen, ← hel]; exact r6, (m1.trans m5).trans m6⟩
    · -- the tail fell
      have hf : fallN l k = waitAt (l.eraseIdx k) (k - 1) [] := by
        unfold fallN; rw [decide_eq_true h0, cond_true, decide_eq_false hkl, cond_false]
      have hkk : (l.eraseIdx k).length - 1 = k - 1 := by omega
      obtain ⟨h6, F6, e6, r6, m6⟩ := tail _ h1 F1 rfl r1 m1.nd hlo1
      rw [br_neg (by omega), e6]
      rw [hkk, ← hf] at r6
      exact ⟨a1, c1, h6, F6, by rw [hflen, hel], by rw [hflen, ← hel]; exact r6, m1.trans m6⟩
  · have hf : fallN l k = l.eraseIdx k := by unfold fallN; rw [decide_eq_false h0, cond_false]
    obtain ⟨h6, F6, e6, r6, m6⟩ := tail _ h1 F1 rfl r1 m1.nd hlo1
    rw [br_neg (by omega), e6]
    rw [waitAt_same (by omega) (hlast' (by omega) (by omega)), ← hf] at r6
    exact ⟨a1, c1, h6, F6, by rw [hflen, hel], r6, m1.trans m6⟩
end
end Go.Proofs.YtfhnofppfacemaaGreat
namespace Go.Proofs.YtfhnofppfacemaaGreat
open Go T
set_option linter.unusedVariables false
set_option linter.unusedSimpArgs false
set_option maxRecDepth 100000
def lackOpt (x : Ver × Ver) : Option Ver := bif lessV x.2 x.1 then some x.1 else none
theorem lack_sort : ∀ {z : List (Ver × Ver)} {acc : List Ver}, z.foldl lackF acc = (z.filterMap lackOpt).foldl (fun acc v => insF v acc) acc
  | [], acc => rfl
  | x :: z, acc => by
    rw [List.foldl_cons, lack_sort (z := z)]
    unfold lackF
    cases hx : lessV x.2 x.1 with
    | true =>
      have : lackOpt x = some x.1 := by unfold lackOpt; rw [hx]; rfl
      rw [List.filterMap_cons, this]; rfl
    | false =>
      have : lackOpt x = none := by unfold lackOpt; rw [hx]; rfl
      rw [List.filterMap_cons, this]; rfl
def lackU (s t : List Ver) : List Ver := (s.zip t).filterMap lackOpt
theorem lackL_sort {s t : List Ver} : sortV (lackU s t) = lackL s t := lack_sort.symm
theorem tag_zero_less {u v : Ver} (hu : tagOk u.tag.time u.tag.place = true) (hv : v.tag.time = 0 ∧ v.tag.place = 0) : lessV u v = false := by
  rw [lessV_not]
  simp [tagOk, within] at hu
  omega
theorem at_tag {i : Nat} {v : Ver} (h : verAt i v = true) : tagOk v.tag.time v.tag.place = true := (thin_at h).2.2
theorem lackU_keys {s t : List Ver} (hs : storeOk s = true) (ht : storeOk t = true) : (lackU s t).Pairwise fun p u => p.key < u.key := by
  unfold lackU
  rw [List.pairwise_filterMap, List.pairwise_iff_getElem]
  intro i j hi hj hij b hb b' hb'
  have hi' : i < s.length ∧ i < t.length := by rw [List.length_zip] at hi; omega
  have hj' : j < s.length ∧ j < t.length := by rw [List.length_zip] at hj; omega
  rw [List.getElem_zip] at hb hb'
  have key : ∀ q (hq : q < s.length) (hq' : q < t.length) x, lackOpt (s[q], t[q]) = some x → x.key = (q : Int) := fun q hq hq' x hx => by
    unfold lackOpt at hx
    simp only at hx
    cases hl : lessV t[q] s[q] with
    | false => rw [hl] at hx; cases hx
    | true =>
      rw [hl] at hx
      injection hx with hx
      subst hx
      rcases verAt_case (storeOk_get hs hq) with g | g
      · have := tag_zero_less (at_tag (storeOk_get ht hq')) (zero_time g)
        rw [hl] at this; cases this
      · exact g.2
  have e1 := key i hi'.1 hi'.2 b (by simpa using hb)
  have e2 := key j hj'.1 hj'.2 b' (by simpa using hb')
  omega
theorem lackU_len {s t : List Ver} (hs : s.length = 4) : (lackU s t).length ≤ 4 := by
  unfold lackU
  have := List.length_filterMap_le lackOpt (s.zip t)
  rw [List.length_zip] at this; omega

section
variable {lo : Nat} {h : Heap} {F F' G : List Nat} {a a' av : Option (Nat × Nat)} {c c' cv : Option Nat}
theorem bits_small {n : Nat} (hn : n ≤ 4) : ∃ x, evl lo 255 [.int .u64 (IntKind.wrap .u64 ((n : Nat) : Int))] h = some (.int .i64 x, h) := by
  have key : ∀ m : Nat, m ≤ 4 → ∃ x, evl (List.length h) 273 [.int .u64 (IntKind.wrap .u64 ((m : Nat) : Int))] h = some (.int .i64 x, h) := by
    intro m hm
    have : m = 0 ∨ m = 1 ∨ m = 2 ∨ m = 3 ∨ m = 4 := by omega
    rcases this with rfl | rfl | rfl | rfl | rfl
    all_goals exact ⟨_, E_math_bits_Len64 (h' := h) (by
      rw [br_neg (by decide), br_neg (by decide), br_neg (by decide)]
      rfl)⟩
  obtain ⟨x, hx⟩ := key n hn
  exact ⟨x, E_math_bits_Len (h' := h) (by rw [hx, cal_s, eI_int])⟩
theorem impl_Sort {l : List Ver} (hs : RVers false h [.sl 6 a l.length c] l F) (h4 : l.length ≤ 4) (hk : l.Pairwise fun p u => p.key < u.key) (hnd : F.Nodup) (hlo : ∀ b ∈ F, lo ≤ b) (hl : lo ≤ h.length) :
    ∃ h' F', evl lo 211 [.sl 6 a l.length c, .fn 212 []] h = some (.tup [], h') ∧ RVers false h' [.sl 6 a l.length c] (sortV l) F' ∧ Mv h F h' F' := by
  obtain ⟨x, hx⟩ := bits_small (lo := lo) (h := h) h4
  obtain ⟨h', F', e, r, m⟩ := impl_insertion (lo := lo) hs hk hnd hlo hl (by omega)
  refine ⟨h', F', E_slices_SortFunc_impl_Ver_impl_Ver ?_, r, m⟩
  rw [hx, cal_s, eI_int]
  have : evl lo 254 [.sl 6 a l.length c, .int .i64 0, .int .i64 ((l.length : Nat) : Int), .int .i64 x, .fn 212 []] h = some (.tup [], h') := by
    have hc : l.length = 0 ∨ l.length = 1 ∨ l.length = 2 ∨ l.length = 3 ∨ l.length = 4 := by omega
    rcases hc with q | q | q | q | q
    · rw [q] at e ⊢; exact E_slices_pdqsortCmpFunc_impl_Ver_0_0 (by rw [L_slices_pdqsortCmpFunc_impl_Ver_0_0_0.e]; exact (congrArg (fun o => cal o _) e).trans rfl)
    · rw [q] at e ⊢; exact E_slices_pdqsortCmpFunc_impl_Ver_0_1 (by rw [L_slices_pdqsortCmpFunc_impl_Ver_0_1_0.e]; exact (congrArg (fun o => cal o _) e).trans rfl)
    · rw [q] at e ⊢; exact E_slices_pdqsortCmpFunc_impl_Ver_0_2 (by rw [L_slices_pdqsortCmpFunc_impl_Ver_0_2_0.e]; exact (congrArg (fun o => cal o _) e).trans rfl)
    · rw [q] at e ⊢; exact E_slices_pdqsortCmpFunc_impl_Ver_0_3 (by rw [L_slices_pdqsortCmpFunc_impl_Ver_0_3_0.e]; exact (congrArg (fun o => cal o _) e).trans rfl)
    · rw [q] at e ⊢; exact E_slices_pdqsortCmpFunc_impl_Ver_0_4 (by rw [L_slices_pdqsortCmpFunc_impl_Ver_0_4_0.e]; exact (congrArg (fun o => cal o _) e).trans rfl)
  rw [this, cal_s, eU_t, eN_n]
theorem impl_DeleteN {l : List Node} {N k : Nat} (hs : RNodes false h [.sl 2 a l.length (some N)] l F) (hk : k < l.length) (hnd : F.Nodup) (hlo : ∀ b ∈ F, lo ≤ b) (hn : l.length ≤ 1048576) :
    ∃ h' F', evl lo 210 [.sl 2 a l.length (some N), .int .i64 (k : Nat), .int .i64 ((k + 1 : Nat) : Int)] h = some (.sl 2 a (l.length - 1) (some N), h') ∧ RNodes false h' [.sl 2 a (l.length - 1) (some N)] (l.eraseIdx k) F' ∧ Mv h F h' F' := by
  obtain ⟨h', F', Gv, b, i, row, ha, hld, hel, hG, e, r, m, fr⟩ := Sli.del (lo := lo) (bytes := 48) (e := 175) (z := [.sl 0 none 0 (some 0), .sl 0 none 0 (some 0)]) (x1 := (k : Nat)) (x2 := ((k + 1 : Nat) : Int)) (T := V × Heap) rnode_ok hs hk hnd hlo rfl (by omega) (by decide) (by omega) (some (.sl 2 a l.length (some N), h)) (fun v h => some (v, h))
  exact ⟨h', F', E_slices_Delete_impl_Node_impl_Node e, r, m⟩
/-- one more waits; the store's own cell stays -/
theorem push_wait' {h3 : Heap} {n k : Nat} {l : List Node} {v : Ver} {s1 : V} {b0 i0 : Nat} (hs : RNodes false h [.sl 2 a n c] l F) (ha : a = some (b0, i0)) (hk : k < l.length) (hst : ld h b0 (i0 + k) 0 1 = some [s1]) (hnd : F.Nodup) (hlo : ∀ b ∈ F, lo ≤ b) (hl : lo ≤ h.length) (hw : l[k].wait.length ≤ 1048576) (hv : RTags false h3 [.sl 2 av v.past.length cv] v.past G) (m3 : Mv h [] h3 G) :
    ∃ t2 a2 c2 a5 c5 h5 h6 F6, ld h b0 (i0 + k) 1 1 = some [t2] ∧ (∀ {T : Type} (K : Option (Nat × Nat) → Nat → Option Nat → Option T), eS 6 t2 K = K a2 l[k].wait.length c2) ∧
      (∀ {T : Type} (K : V → Heap → Option T), app lo 36 6 72 (.sl 6 a2 l[k].wait.length c2) [v.cs av cv] (h3 ++ [.rows 6 36 false [v.cs av cv]]) K = K (.sl 6 a5 (l[k].wait.length + 1) c5) h5) ∧
      st lo h5 b0 (i0 + k) 1 [.sl 6 a5 (l[k].wait.length + 1) c5] = some h6 ∧ RNodes false h6 [.sl 2 a n c] (l.set k ⟨l[k].store, l[k].wait ++ [v]⟩) F6 ∧ Mv h F h6 F6 ∧ ld h6 b0 (i0 + k) 0 1 = some [s1] := by
  obtain ⟨b, i, rs, row, G0, ha', hbF, hbG, hb, hrow, hel, hGF, hGn, _, put⟩ := hs.at rnode_ok hk hnd hlo
  have : (b0, i0) = (b, i) := by rw [ha] at ha'; injection ha'
  injection this with e1 e2
  subst e1; subst e2
  obtain ⟨t1, t2, F1, F2, rfl, rfl, r1, r2⟩ := hel
  have hs1 : s1 = t1 := by
    rw [ld_of hb hrow] at hst
    injection hst with hst; injection hst with hst _; exact hst.symm
  subst hs1
  obtain ⟨a2, c2, e2, r2'⟩ := r2.form
  rw [List.nodup_append] at hGn
  obtain ⟨a5, c5, h5, F5, e5, r5, m5⟩ := push_one (lo := lo) (bytes := 72) (e := 36) rver_ok r2' (row := v.cs av cv) (x := v) (G := G) (h1 := h3 ++ [.rows 6 36 false [v.cs av cv]])
    ⟨_, rfl, Mv.snoc.keep0 rtags_ok hv⟩ (m3.trans (Mv.snoc' m3.nd)) hGn.2.1 (fun y hy => hlo y (hGF y (by simp [hy]))) hl (by decide) (by omega)
  have b1 : ∀ y ∈ F1, y < h.length := rvers_ok.bd _ _ _ _ r1
  have m6 := (m5.aside (G := F1) (by rw [List.nodup_append]; exact ⟨hGn.2.1, hGn.1, fun x hx y hy e => hGn.2.2 y hy x hx e.symm⟩) b1).swap
  have r1' := m5.keep rvers_ok r1 fun y hy hm => hGn.2.2 y hy y hm rfl
  obtain ⟨h6, F6, e6, r6, m7, hb6, _, _⟩ := put h5 (F1 ++ F5) 1 [.sl 6 a5 (l[k].wait.length + 1) c5] [s1, .sl 6 a5 (l[k].wait.length + 1) c5] ⟨l[k].store, l[k].wait ++ [v]⟩ m6 rfl ⟨_, _, F1, F5, rfl, rfl, r1', r5⟩
  have hrl : i0 + k < rs.length := (List.getElem?_eq_some_iff.1 hrow).1
  have hr6 : (rs.set (i0 + k) [s1, .sl 6 a5 (l[k].wait.length + 1) c5])[i0 + k]? = some [s1, .sl 6 a5 (l[k].wait.length + 1) c5] := by simp [hrl]
  exact ⟨t2, a2, c2, a5, c5, h5, h6, F6, by rw [ld_of hb hrow]; rfl, fun K => e2 K, fun K => e5 K, e6, r6, m7, by rw [ld_of hb6 hr6]; rfl⟩
theorem waitAt_set {l : List Node} {k : Nat} {w w' : List Ver} (hk : k < l.length) : (waitAt l k w).set k ⟨l[k].store, w'⟩ = waitAt l k w' := by
  rw [waitAt_get hk, waitAt_get hk, List.set_set]
theorem waitAt_at {l : List Node} {k : Nat} {w : List Ver} (hk : k < l.length) : (waitAt l k w)[k]'(by rw [waitAt_len]; exact hk) = ⟨l[k].store, w⟩ := by
  rw [List.getElem_of_eq (waitAt_get hk), List.getElem_set_self]
theorem waitAt_ne {l : List Node} {k q : Nat} {w : List Ver} (hk : k < l.length) (hq : q < l.length) (hne : k ≠ q) : (waitAt l k w)[q]'(by rw [waitAt_len]; exact hq) = l[q] := by
  rw [List.getElem_of_eq (waitAt_get hk), List.getElem_set_ne hne]
/-- the program's loop: what a node has that the next has not waits -/
theorem fall_loop {b i j R e : Nat} {rs : List (List V)} {row : List V} {l : List Node} {k1 b5 i5 : Nat} {as' : Option (Nat × Nat)} {cs' : Option Nat}
    (hkl : k1 + 1 < l.length) (hb : h[b]? = some (.rows R e false rs)) (hrow : rs[i]? = some row) (hcell : row[j]? = some (.sl 2 a l.length c)) (hbF : b ∉ F)
    (hs : RNodes false h [.sl 2 a l.length c] (waitAt l k1 []) F) (ha : a = some (b5, i5)) (hnd : F.Nodup) (hlo : ∀ b ∈ F, lo ≤ b) (hl : lo ≤ h.length) (hn : l.length ≤ 1048576) (h1 : storeOk (l[k1]'(by omega)).store = true) (h2 : storeOk l[k1 + 1].store = true)
    {x0 : V} (hst : ld h b5 (i5 + k1) 0 1 = some [x0]) (hex : ∀ {T : Type} (K : Option (Nat × Nat) → Nat → Option Nat → Option T), eS 6 x0 K = K as' (l[k1]'(by omega)).store.length cs') :
    ∃ h' F', L_impl_Chain_fall_0 lo b i j ((k1 + 1 : Nat) : Int) b5 (i5 + k1) 0 as' (l[k1]'(by omega)).store.length cs' (((l[k1]'(by omega)).store.length : Nat) : Int) 0 h = some (.bool true, h') ∧
      RNodes false h' [.sl 2 a l.length c] (waitAt l k1 (lackL (l[k1]'(by omega)).store l[k1 + 1].store)) F' ∧ Mv h F h' F' := by
  have hk1 : k1 < l.length := by omega
  have hblt : b < h.length := (List.getElem?_eq_some_iff.1 hb).1
  have hex' := fun {T : Type} (K : Option (Nat × Nat) → Nat → Option Nat → Option T) => hex K
  generalize hsd : (l[k1]'(by omega)).store = s at h1 hex' ⊢
  generalize htd : l[k1 + 1].store = t at h2 ⊢
  have hs4 := storeOk_len h1
  have ht4 := storeOk_len h2
  have hzl : (s.zip t).length = 4 := by rw [List.length_zip]; omega
  have hsm1 := storeOk_sm h1
  have hbm : ∀ hh F', Mv h F hh F' → hh[b]? = some (.rows R e false rs) := fun hh F' m => by rw [m.fr b hblt hbF]; exact hb
  have one : ∀ m q, m + q = 4 → ∀ hh F', RNodes false hh [.sl 2 a l.length c] (waitAt l k1 (((s.zip t).take q).filterMap lackOpt)) F' → Mv h F hh F' → ld hh b5 (i5 + k1) 0 1 = some [x0] →
      ∃ h' F'', L_impl_Chain_fall_0 lo b i j ((k1 + 1 : Nat) : Int) b5 (i5 + k1) 0 as' s.length cs' ((s.length : Nat) : Int) (q : Nat) hh = some (.bool true, h') ∧ RNodes false h' [.sl 2 a l.length c] (waitAt l k1 (lackL s t)) F'' ∧ Mv h F h' F'' := by
    intro m
    induction m with
    | zero =>
      intro q hq hh F' hr hm hld
      have hq4 : q = 4 := by omega
      subst hq4
      rw [List.take_of_length_le (by omega)] at hr
      have hwl : k1 < (waitAt l k1 ((s.zip t).filterMap lackOpt)).length := by rw [waitAt_len]; exact hk1
      obtain ⟨b', i', rs', row', G0, ha', hbF', hbG, hb', hrow', hel, hGF, hGn, put⟩ := hr.at2 rnode_ok hwl hm.nd (fun y hy => hm.ge hl hlo y hy)
      have : (b5, i5) = (b', i') := by rw [ha] at ha'; injection ha'
      injection this with x1 x2
      subst x1; subst x2
      rw [waitAt_at hk1] at hel
      obtain ⟨t1, t2, F1, F2, rfl, rfl, r1, r2⟩ := hel
      simp only at r1 r2
      obtain ⟨a2, c2, e2, r2'⟩ := r2.form
      rw [List.nodup_append] at hGn
      have hlh : lo ≤ hh.length := Nat.le_trans hl hm.le
      obtain ⟨h3, F3, e3, r3, m3⟩ := impl_Sort (lo := lo) r2' (lackU_len hs4) (lackU_keys h1 h2) hGn.2.1 (fun y hy => hm.ge hl hlo y (hGF y (by simp [hy]))) hlh
      have b1 : ∀ y ∈ F1, y < hh.length := rvers_ok.bd _ _ _ _ r1
      have m4 := (m3.aside (G := F1) (by rw [List.nodup_append]; exact ⟨hGn.2.1, hGn.1, fun x hx y hy e => hGn.2.2 y hy x hx e.symm⟩) b1).swap
      have r1' := m3.keep rvers_ok r1 fun y hy hm => hGn.2.2 y hy y hm rfl
      have hsl : (sortV ((s.zip t).filterMap lackOpt)).length = ((s.zip t).filterMap lackOpt).length := (r3.val).symm
      have r3c := r3.clip
      rw [← hsl] at r3c
      obtain ⟨h4, F4, e4, r4, m5, _, _⟩ := put h3 (F1 ++ F3) 1 [.sl 6 a2 (sortV ((s.zip t).filterMap lackOpt)).length (some (sortV ((s.zip t).filterMap lackOpt)).length)] [t1, .sl 6 a2 (sortV ((s.zip t).filterMap lackOpt)).length (some (sortV ((s.zip t).filterMap lackOpt)).length)] ⟨l[k1].store, sortV ((s.zip t).filterMap lackOpt)⟩ m4 rfl ⟨_, _, F1, F3, rfl, rfl, by rw [hsd]; rw [hsd] at r1'; exact r1', r3c⟩
      rw [hsl] at e4
      rw [waitAt_set hk1] at r4
      have hfin : sortV ((s.zip t).filterMap lackOpt) = lackL s t := lackL_sort
      rw [hfin] at r4
      have l1 : ld hh b5 (i5 + k1) (0 + 1) 1 = some [t2] := by rw [ld_of hb' hrow']; rfl
      have hb5 : h3[b5]? = hh[b5]? := m3.fr b5 (List.getElem?_eq_some_iff.1 hb').1 fun hm2 => hbG (by simp [hm2])
      have l3 : ld h3 b5 (i5 + k1) (0 + 1) 1 = some [t2] := by rw [ld_of (by rw [hb5]; exact hb') hrow']; rfl
      rw [L_impl_Chain_fall_0.e, br_neg (by omega), l1, eO_s, eC_c, eN_n, e2, e3, cal_s, eU_t, eN_n, l3, eO_s, eC_c, eN_n, e2, clip_ver r3, cal_s, eS_sl, e4, eO_s]
      exact ⟨h4, F4, rfl, r4, hm.trans m5⟩
    | succ m ih =>
      intro q hq hh F' hr hm hld
      have hqs : q < s.length := by omega
      have hqt : q < t.length := by omega
      have hlh : lo ≤ hh.length := Nat.le_trans hl hm.le
      have hwl : k1 < (waitAt l k1 (((s.zip t).take q).filterMap lackOpt)).length := by rw [waitAt_len]; exact hk1
      have hwl2 : k1 + 1 < (waitAt l k1 (((s.zip t).take q).filterMap lackOpt)).length := by rw [waitAt_len]; exact hkl
      obtain ⟨o, x1, _, b1, d1, _, _, H1, _, ho, _, ho1, _, ex1, _, p1, _⟩ := hr.get hwl
      obtain ⟨o2, x2, _, b2, d2, _, _, H2, _, ho2, _, ho21, _, ex2, _, p2, _⟩ := hr.get hwl2
      have hoe : o = (b5, i5) := by rw [ha] at ho; injection ho with ho; exact ho.symm
      have hoe2 : o2 = (b5, i5) := by rw [ha] at ho2; injection ho2 with ho2; exact ho2.symm
      subst hoe; subst hoe2
      rw [hld] at ho1
      injection ho1 with ho1; injection ho1 with ho1 _
      subst ho1
      have hcap := ex1 fun a n c => some (a, c)
      rw [hex'] at hcap
      injection hcap with hcap; injection hcap with hc1 hc2
      subst hc1; subst hc2
      have es1 : (waitAt l k1 (((s.zip t).take q).filterMap lackOpt))[k1].store = s := by rw [waitAt_at hk1]; exact hsd
      have es2 : (waitAt l k1 (((s.zip t).take q).filterMap lackOpt))[k1 + 1].store = t := by rw [waitAt_ne hk1 hkl (by omega)]; exact htd
      rw [es1] at p1
      rw [es2] at ex2 p2
      have hv := storeOk_get h1 hqs
      have hkr : 0 ≤ s[q].key ∧ s[q].key < 4 := by
        rcases verAt_case hv with g | g
        · rw [zero_is g]; decide
        · rw [g.2]; omega
      have hkt : s[q].key.toNat < t.length := by omega
      have hless : lessV (t[s[q].key.toNat]'hkt) s[q] = lessV t[q] s[q] := by
        rcases verAt_case hv with g | g
        · rw [tag_zero_less (at_tag (storeOk_get h2 hkt)) (zero_time g), tag_zero_less (at_tag (storeOk_get h2 hqt)) (zero_time g)]
        · have : s[q].key.toNat = q := by rw [g.2]; omega
          simp only [this]
      obtain ⟨ov, xs, bs, ds, Hs, hov, hlv, exs, hps, _⟩ := p1.get hqs
      obtain ⟨ot, _, _, _, _, hot, _, _, _, _, _, _, hlt, _, _, _, _⟩ := RVers.all p2 hkt
      have lc : ld hh b i (j + 0) 1 = some [.sl 2 a l.length c] := by rw [ld_of (hbm hh F' hm) hrow]; exact cut_one hcell
      have htake : ((s.zip t).take (q + 1)).filterMap lackOpt = ((s.zip t).take q).filterMap lackOpt ++ (match lackOpt (s[q], t[q]) with | some v => [v] | none => []) := by
        rw [List.take_succ_eq_append_getElem (by omega), List.filterMap_append, List.getElem_zip]
        congr 1
        cases hx : lackOpt (s[q], t[q]) <;> simp [List.filterMap_cons, hx]
      have htl := impl_TagLess (lo := lo) (h := hh) (a := (t[s[q].key.toNat]'hkt).tag.time) (b := (t[s[q].key.toNat]'hkt).tag.place) (c := s[q].tag.time) (d := s[q].tag.place)
      rw [L_impl_Chain_fall_0.e, br_pos (by omega), inB_nat hqs, hov, eO_s, Int.toNat_natCast, hlv, eO_s, eC_c, eI_int, eC_c, eI_int, eC_c, eI_int, eC_c, exs, eC_c, eT_s, eC_c, eBv_b, eN_n, lc, eO_s, eC_c, eN_n, eS_sl, inB_nat hkl, ha, eO_s, Int.toNat_natCast, ho21, eO_s, eC_c, eN_n, ex2, inB_in ⟨by omega, by omega⟩, hot, eO_s, hlt, eO_s, eC_c, eI_int, eC_c, eI_int, eN_n, htl, cal_s, eB_b, ← hov, wr_succ (by omega)]
      show ∃ h' F'', br (lessV (t[s[q].key.toNat]'hkt) s[q]) _ _ = _ ∧ _
      rw [hless]
      cases hlq : lessV t[q] s[q] with
      | false =>
        have : lackOpt (s[q], t[q]) = none := by unfold lackOpt; rw [hlq]; rfl
        rw [this] at htake
        simp only [List.append_nil] at htake
        rw [br_f, ← ha]
        exact ih (q + 1) (by omega) hh F' (by rw [htake]; exact hr) hm hld
      | true =>
        have : lackOpt (s[q], t[q]) = some s[q] := by unfold lackOpt; rw [hlq]; rfl
        rw [this] at htake
        simp only at htake
        obtain ⟨a3, c3, h3, F3, e3, r3, m3⟩ := impl_Ver_copied (lo := hh.length) (v := s[q]) hps (Nat.le_refl _) (hsm1.2 _ (List.getElem_mem hqs)).1
        have hwlen : (((s.zip t).take q).filterMap lackOpt).length ≤ 4 := by
          have := List.length_filterMap_le lackOpt ((s.zip t).take q)
          rw [List.length_take] at this; omega
        obtain ⟨t2, a4, c4, a5, c5, h5, h6, F6, l2, e2, e5, e6, r6, m6, l6⟩ := push_wait' (lo := lo) (v := s[q]) hr ha hwl hld hm.nd (fun y hy => hm.ge hl hlo y hy) hlh (by rw [waitAt_at hk1]; exact Nat.le_trans hwlen (by decide)) r3 m3
        rw [waitAt_at hk1] at e2 e5 e6 r6
        simp only at e2 e5 e6 r6
        rw [waitAt_set hk1, ← htake] at r6
        simp only [Ver.cs] at e3 e5
        rw [br_t, l2, eO_s, eC_c, eN_n, e2, e3, cal_s, eA_a, eC_c, eI_int, eC_c, eI_int, eC_c, eI_int, eC_c, eS_sl, eC_c, eT_s, eC_c, eBv_b, eN_n, rows_one, e5, eS_sl, e6, eO_s]
        rw [← ha]
        exact ih (q + 1) (by omega) h6 F6 r6 (hm.trans m6) l6
  exact one 4 0 (by omega) h F (by simpa using hs) (Mv.refl hnd) hst
theorem Mv.cons {h h' : Heap} {F F' : List Nat} {b : Nat} (m : Mv h F h' F') (hb : b < h.length) (hbF : b ∉ F) (hnd : F.Nodup) : Mv h (b :: F) h' (b :: F') :=
  (m.aside (G := [b]) (by rw [List.nodup_append]; exact ⟨hnd, by simp, fun x hx y hy e => by rw [List.mem_singleton] at hy; subst hy; subst e; exact hbF hx⟩) (by simpa using hb)).swap
def canFallC (l : List Node) (k : Int) : Bool := within k 0 ((l.length : Int) - 1) && decide (1 < l.length)
theorem impl_fall {b i j R e N : Nat} {rs : List (List V)} {row : List V} {l : List Node} {k : Int} (hb : h[b]? = some (.rows R e false rs)) (hrow : rs[i]? = some row) (hcell : row[j]? = some (.sl 2 a l.length (some N))) (hs : RNodes false h [.sl 2 a l.length (some N)] l F) (hbF : b ∉ F)
    (hnd : F.Nodup) (hlob : lo ≤ b) (hlo : ∀ b ∈ F, lo ≤ b) (hl : lo ≤ h.length) (hn : smNodes l) (h0 : 0 < l.length) (hst : ∀ x ∈ l, storeOk x.store = true) :
    ∃ a' n' c' h' F', evl lo 123 [.ptr (some (b, (i, j))), .int .i64 k] h = some (.bool (canFallC l k), h') ∧ h'[b]? = some (.rows R e false (rs.set i (row.set j (.sl 2 a' n' c')))) ∧ RNodes false h' [.sl 2 a' n' c'] (bif canFallC l k then fallN l k.toNat else l) F' ∧ Mv h (b :: F) h' (b :: F') := by
  have hn1 := hn.1
  suffices hq : ∃ a' n' c' h' F', _ = some (V.bool (canFallC l k), h') ∧ h'[b]? = some (.rows R e false (rs.set i (row.set j (.sl 2 a' n' c')))) ∧ RNodes false h' [.sl 2 a' n' c'] (bif canFallC l k then fallN l k.toNat else l) F' ∧ Mv h (b :: F) h' (b :: F') from by
    obtain ⟨a', n', c', h', F', e, hr⟩ := hq
    exact ⟨a', n', c', h', F', E_impl_Chain_fall e, hr⟩
  have hblt : b < h.length := (List.getElem?_eq_some_iff.1 hb).1
  have hil : i < rs.length := (List.getElem?_eq_some_iff.1 hrow).1
  have hjl : j < row.length := (List.getElem?_eq_some_iff.1 hcell).1
  have hndb : (b :: F).Nodup := by rw [List.nodup_cons]; exact ⟨hbF, hnd⟩
  have hld : ld h b i (j + 0) 1 = some [.sl 2 a l.length (some N)] := by rw [ld_of hb hrow]; exact cut_one hcell
  have stay : canFallC l k = false → ∃ a' n' c' h' F', some (V.bool false, h) = some (V.bool (canFallC l k), h') ∧ h'[b]? = some (.rows R e false (rs.set i (row.set j (.sl 2 a' n' c')))) ∧ RNodes false h' [.sl 2 a' n' c'] (bif canFallC l k then fallN l k.toNat else l) F' ∧ Mv h (b :: F) h' (b :: F') := fun hc => by
    rw [hc]
    exact ⟨a, l.length, some N, h, F, rfl, by rw [set_same hcell, set_same hrow]; exact hb, hs, Mv.refl hndb⟩
  have hcd : canFallC l k = (within k 0 ((l.length : Int) - 1) && decide (1 < l.length)) := rfl
  rw [hld, eO_s, eC_c, eN_n, eS_sl, wr (by omega) (by omega), impl_within, cal_s, eB_b]
  cases hw : within k 0 ((l.length : Int) - 1) with
  | false => rw [br_f]; exact stay (by rw [hcd, hw]; rfl)
  | true =>
  rw [hw, Bool.true_and] at hcd
  simp only [within, Bool.and_eq_true, decide_eq_true_eq] at hw
  obtain ⟨f, rfl⟩ : ∃ f : Nat, k = (f : Int) := ⟨k.toNat, by omega⟩
  have hk : f < l.length := by omega
  rw [br_t, hld, eO_s, eC_c, eN_n, eS_sl]
  by_cases h1 : 1 < l.length
  · rw [decide_eq_true h1] at hcd
    have hel := List.length_eraseIdx_of_lt hk
    obtain ⟨h2, F2, e2, r2, m2⟩ := impl_DeleteN (lo := lo) hs hk hnd hlo hn1
    have hb2 : h2[b]? = some (.rows R e false rs) := by rw [m2.fr b hblt hbF]; exact hb
    have hclip : evl lo 176 [.sl 2 a (l.length - 1) (some N)] h2 = some (.sl 2 a (l.length - 1) (some (l.length - 1)), h2) := clip_node r2
    have e3 := st_first (lo := lo) (cs := [.sl 2 a (l.length - 1) (some (l.length - 1))]) (j := j + 0) hb2 hlob hrow (paste_one hjl)
    obtain ⟨m3, b3, k3, n3⟩ := m2.store hblt hbF (.rows R e false (rs.set i (row.set (j + 0) (.sl 2 a (l.length - 1) (some (l.length - 1))))))
    generalize hh3 : h2.set b (.rows R e false (rs.set i (row.set (j + 0) (.sl 2 a (l.length - 1) (some (l.length - 1)))))) = h3 at m3 b3 k3
    have e3' : st lo h2 b i (j + 0) [.sl 2 a (l.length - 1) (some (l.length - 1))] = some h3 := by rw [← hh3]; exact e3
    have r3 : RNodes false h3 [.sl 2 a (l.length - 1) (some (l.length - 1))] (l.eraseIdx f) F2 := rnodes_ok.fr _ _ _ _ _ r2.clip fun y hy => k3 y fun e => n3 (by rw [← e]; exact hy)
    rw [show (((l.length : Nat) : Int) == 1) = false by rw [beq_eq_false_iff_ne]; omega, br_f, wr_succ (by omega), eO_s, eC_c, eN_n, eS_sl, e2, cal_s, eS_sl, hclip, cal_s, eS_sl, e3', eO_s]
    rw [hcd, cond_true, Int.toNat_natCast]
    by_cases hf0 : f = 0
    · subst hf0
      have hff : fallN l 0 = l.eraseIdx 0 := rfl
      rw [show (((0 : Nat) : Int) == 0) = true from rfl, br_t, hff]
      exact ⟨a, l.length - 1, some (l.length - 1), h3, F2, rfl, b3, r3, m3⟩
    · obtain ⟨f1, rfl⟩ : ∃ f1, f = f1 + 1 := ⟨f - 1, by omega⟩
      have hk1 : f1 < (l.eraseIdx (f1 + 1)).length := by omega
      have hrow3 : (rs.set i (row.set (j + 0) (.sl 2 a (l.length - 1) (some (l.length - 1)))))[i]? = some (row.set j (.sl 2 a (l.length - 1) (some (l.length - 1)))) := by simp [hil]
      have hcell3 : (row.set j (.sl 2 a (l.length - 1) (some (l.length - 1))))[j]? = some (.sl 2 a (l.length - 1) (some (l.length - 1))) := by simp [hjl]
      have ld3 : ∀ hh : Heap, hh[b]? = h3[b]? → ld hh b i j 1 = some [.sl 2 a (l.length - 1) (some (l.length - 1))] := fun hh hbb => by rw [ld_of (by rw [hbb]; exact b3) hrow3]; exact cut_one hcell3
      obtain ⟨b5, i5, h4, F4, ha, hb5, e4, r4, m4, k4⟩ := set_wait (lo := lo) (k := f1) (w := .sl 0 none 0 (some 0)) (ws := []) r3 hk1 (List.nodup_cons.1 m3.nd).2 (fun y hy => m2.ge hl hlo y hy) Sli.nil Mv.nil
      have hbb5 : b ≠ b5 := fun e => n3 (by rw [e]; exact hb5)
      have hb4 : h4[b]? = h3[b]? := k4 b hbb5
      have hbF4 : b ∉ F4 := fun hm => by
        rcases m4.sub b hm with g | g
        · exact n3 g
        · have := m3.le; omega
      have m34 := m3.trans (m4.cons (by have := m3.le; omega) n3 (List.nodup_cons.1 m3.nd).2)
      have hlast := impl_last (lo := lo) (h := h4) (a := a) (c := some (l.length - 1)) (n := l.length - 1) (k := f1) (by omega)
      have hfm : (((f1 + 1 : Nat) : Int) == 0) = false := by rw [beq_eq_false_iff_ne]; omega
      rw [hfm, br_f, Nat.add_zero, ld3 h3 rfl, eO_s, eC_c, eN_n, eS_sl, show IntKind.i64.wrap (((f1 + 1 : Nat) : Int) - 1) = ((f1 : Nat) : Int) by rw [wr (by omega) (by omega)]; omega, inB_nat (show f1 < l.length - 1 by omega), ha, eO_s, Int.toNat_natCast, e4, eO_s, ld3 h4 hb4, eO_s, eC_c, eS_sl, eN_n, hlast, cal_s, eB_b]
      have hgt : decide (0 < f1 + 1) = true := decide_eq_true (by omega)
      by_cases hla : f1 + 1 = l.length - 1
      · have hff : fallN l (f1 + 1) = waitAt (l.eraseIdx (f1 + 1)) f1 [] := by
          unfold fallN; rw [hgt, cond_true, decide_eq_false (by omega), cond_false]; rfl
        rw [decide_eq_true hla, br_t, hff]
        exact ⟨a, l.length - 1, some (l.length - 1), h4, F4, rfl, by rw [hb4]; exact b3, r4, m34⟩
      · have hkl : f1 + 1 < (l.eraseIdx (f1 + 1)).length := by omega
        have hff : fallN l (f1 + 1) = waitAt (l.eraseIdx (f1 + 1)) f1 (lackL (l.eraseIdx (f1 + 1))[f1].store (l.eraseIdx (f1 + 1))[f1 + 1].store) := by
          unfold fallN; rw [hgt, cond_true, decide_eq_true hkl, cond_true, storeAtN_get hkl, Nat.add_sub_cancel, storeAtN_get hk1]
        have hwl : f1 < (waitAt (l.eraseIdx (f1 + 1)) f1 []).length := by rw [waitAt_len]; exact hk1
        obtain ⟨o, x1, _, b1, d1, _, _, H1, _, ho, _, ho1, _, ex1, _, p1, _⟩ := r4.get hwl
        have hoe : o = (b5, i5) := by rw [ha] at ho; injection ho with ho; exact ho.symm
        subst hoe
        rw [waitAt_at hk1] at ex1 p1
        simp only at ex1 p1
        rw [← hel] at r4
        obtain ⟨h7, F7, e7, r7, m7⟩ := fall_loop (lo := lo) (k1 := f1) (l := l.eraseIdx (f1 + 1)) hkl (by rw [hb4]; exact b3) hrow3 (by rw [hel]; exact hcell3) hbF4 r4 ha m4.nd (fun y hy => m4.ge (by have := m3.le; omega) (fun y hy => m2.ge hl hlo y hy) y hy) (by have := m34.le; omega) (by omega) (hst _ (List.mem_of_mem_eraseIdx (List.getElem_mem hk1))) (hst _ (List.mem_of_mem_eraseIdx (List.getElem_mem hkl))) ho1 ex1
        rw [decide_eq_false hla, br_f, ho1, eO_s, eC_c, eN_n, ex1, e7, hff]
        have hb7 : h7[b]? = h4[b]? := m7.fr b (by have := m34.le; omega) hbF4
        exact ⟨a, (l.eraseIdx (f1 + 1)).length, some (l.eraseIdx (f1 + 1)).length, h7, F7, rfl, by rw [hel, hb7, hb4]; exact b3, r7, m34.trans (m7.cons (by have := m34.le; omega) hbF4 m4.nd)⟩
  · rw [decide_eq_false h1] at hcd
    rw [show (((l.length : Nat) : Int) == 1) = true by rw [beq_iff_eq]; omega, br_t]
    exact stay hcd
end
end Go.Proofs.YtfhnofppfacemaaGreat
namespace Go.Proofs.YtfhnofppfacemaaGreat
open Go T
set_option linter.unusedVariables false
set_option linter.unusedSimpArgs false
theorem lackL_mem {s t : List Ver} {v : Ver} (h : v ∈ lackL s t) : v ∈ s := by
  have key : ∀ (z : List (Ver × Ver)) (acc : List Ver), v ∈ z.foldl lackF acc → v ∈ acc ∨ ∃ x ∈ z, x.1 = v := by
    intro z
    induction z with
    | nil => intro acc h; exact .inl h
    | cons x z ih =>
      intro acc h
      rw [List.foldl_cons] at h
      rcases ih _ h with g | ⟨y, hy, e⟩
      · unfold lackF at g
        cases hl : lessV x.2 x.1 with
        | false => rw [hl] at g; exact .inl g
        | true =>
          rw [hl, cond_true] at g
          rcases insF_mem.1 g with rfl | g
          · exact .inr ⟨x, by simp, rfl⟩
          · exact .inl g
      · exact .inr ⟨y, by simp [hy], e⟩
  rcases key _ _ h with g | ⟨x, hx, rfl⟩
  · simp at g
  · exact (List.of_mem_zip hx).1
theorem lackL_len {s t : List Ver} (hs : s.length = 4) : (lackL s t).length ≤ 4 := by
  have key : ∀ (z : List (Ver × Ver)) (acc : List Ver), (z.foldl lackF acc).length ≤ acc.length + z.length := by
    intro z
    induction z with
    | nil => intro acc; simp
    | cons x z ih =>
      intro acc
      rw [List.foldl_cons]
      have := ih (lackF acc x)
      have h2 : (lackF acc x).length ≤ acc.length + 1 := by
        unfold lackF
        cases lessV x.2 x.1
        · simp
        · rw [cond_true, insF_len]; exact Nat.le_refl _
      rw [List.length_cons]; omega
  have := key (s.zip t) []
  rw [List.length_zip] at this
  simp only [List.length_nil] at this
  unfold lackL
  omega
theorem waitAt_in {nw k : Nat} {l : List Node} {w : List Ver} (h : ∀ x ∈ l, nodeIn nw x) (hw : w.length ≤ nw) (hv : ∀ v ∈ w, thin v) : ∀ x ∈ waitAt l k w, nodeIn nw x := fun x hx => by
  unfold waitAt at hx
  split at hx
  · rename_i y hy
    rcases List.mem_or_eq_of_mem_set hx with hx | rfl
    · exact h x hx
    · obtain ⟨g1, _, g3, _⟩ := h y (List.mem_of_getElem? hy)
      exact ⟨g1, hw, g3, hv⟩
  · exact h x hx
theorem fallN_in {nw k : Nat} {l : List Node} (h : ∀ x ∈ l, nodeIn nw x) (hnw : 4 ≤ nw) : (fallN l k).length ≤ l.length ∧ ∀ x ∈ fallN l k, nodeIn nw x := by
  have h' : ∀ x ∈ l.eraseIdx k, nodeIn nw x := fun x hx => h x (List.mem_of_mem_eraseIdx hx)
  have hle : (l.eraseIdx k).length ≤ l.length := List.length_eraseIdx_le _ _
  unfold fallN
  cases decide (0 < k) with
  | false => exact ⟨hle, h'⟩
  | true =>
    rw [cond_true]
    cases decide (k < (l.eraseIdx k).length) with
    | false => exact ⟨by rw [cond_false, waitAt_len]; exact hle, waitAt_in h' (Nat.zero_le _) (by simp)⟩
    | true =>
      rw [cond_true, waitAt_len]
      refine ⟨hle, ?_⟩
      unfold storeAtN
      split
      · rename_i y hy
        have hyn := h' y (List.mem_of_getElem? hy)
        exact waitAt_in h' (Nat.le_trans (lackL_len hyn.1) hnw) (fun v hv => hyn.2.2.1 v (lackL_mem hv))
      · refine waitAt_in h' ?_ (fun v hv => ?_)
        · rw [show ∀ t, lackL [] t = [] from fun t => by simp [lackL]]; exact Nat.zero_le _
        · have := lackL_mem hv; simp at this
theorem last_wait {l : List Node} (h : chainOk l = true) (h0 : 0 < l.length) : (l[l.length - 1]'(by omega)).wait = [] := by
  have := chainOk_link h (show l.length - 1 < l.length by omega)
  unfold linkAt at this
  rw [List.getElem?_eq_none (by omega)] at this
  simp only [decide_eq_true_eq] at this
  exact List.eq_nil_of_length_eq_zero this

section
variable {lo : Nat} {ro : Bool} {h : Heap} {F F' : List Nat} {a a' : Option (Nat × Nat)} {c c' : Option Nat}
end
end Go.Proofs.YtfhnofppfacemaaGreat
namespace Go.Proofs.YtfhnofppfacemaaGreat
open Go T
set_option linter.unusedVariables false
set_option linter.unusedSimpArgs false
def RChainN (ro : Bool) : Rel (List Node) := fun h cs l F => ∃ a c, cs = [.sl 2 a l.length c] ∧ RNodes ro h cs l F
theorem rchainN_ok {ro : Bool} : (RChainN ro).Ok :=
  ⟨fun h h' cs p F ⟨a1, c1, e, hp⟩ hb => ⟨a1, c1, e, rnodes_ok.fr _ _ _ _ _ hp hb⟩, fun h cs p F ⟨_, _, _, hp⟩ => rnodes_ok.bd _ _ _ _ hp⟩
theorem rchain_true {h : Heap} {cs : List V} {l : List Node} {F : List Nat} (hp : RNodes true h cs l F) : RChainN true h cs l F := by
  obtain ⟨v, rfl⟩ := sli_one hp
  obtain ⟨a1, c1, rfl⟩ := sli_true hp
  exact ⟨_, _, rfl, hp⟩
def NChain (raw : List V) (l : List Node) (r : List V) : Prop := ∃ s a c, raw = [s] ∧ (∀ {T : Type} (K : Option (Nat × Nat) → Nat → Option Nat → Option T), eS 2 s K = K a l.length c) ∧ r = [.sl 2 a l.length c]
theorem nchain_self {l : List Node} {a : Option (Nat × Nat)} {c : Option Nat} : NChain [.sl 2 a l.length c] l [.sl 2 a l.length c] := ⟨_, a, c, rfl, fun K => eS_sl _ _ _ _ _, rfl⟩
def triedC (l l' : List Node) : List Node := bif chainOk l then l' else []
def tryFallC (l : List Node) (k : Int) : List Node := bif canFallC l k then fallN l k.toNat else l
theorem in_nodes {l : List Node} (h1 : l.length ≤ 4) (h2 : ∀ x ∈ l, nodeIn 6 x) : smNodes l ∧ (1 : Int) + wNodes l ≤ big := by
  refine ⟨⟨by omega, fun x hx => node_sm (h2 x hx) (by decide)⟩, ?_⟩
  have e1 : wNodes l ≤ 1352 * l.length := mkN_all fun x hx => node_w (h2 x hx) (by decide)
  simp only [big]; omega
theorem sm_ChainFall {l : List Node} {k : Int} : smNodes (triedC l (tryFallC l k)) ∧ (1 : Int) + wNodes (triedC l (tryFallC l k)) ≤ big := by
  unfold triedC
  cases hpo : chainOk l with
  | false => exact in_nodes (by simp) (by simp)
  | true =>
  obtain ⟨h1, h2⟩ := chainOk_all hpo
  have h2' : ∀ x ∈ l, nodeIn 6 x := fun x hx => node_thin (h2 x hx)
  rw [cond_true]
  unfold tryFallC
  cases canFallC l k with
  | false => exact in_nodes h1.2 h2'
  | true =>
    obtain ⟨g1, g2⟩ := fallN_in (k := k.toNat) h2' (by decide)
    exact in_nodes (Nat.le_trans g1 h1.2) g2

section
variable {lo : Nat} {ro : Bool} {h : Heap} {F F' : List Nat} {a a' : Option (Nat × Nat)} {c c' : Option Nat}
theorem sz_chain {l : List Node} {cs : List V} {hh : Heap} (hs : RChainN true hh cs l F) (hb : bdNodes l) : evl lo 44 [.agg cs, .int .i64 1048576] hh = some (.int .i64 (szN 1048576 (szNodes l)), hh) := by
  obtain ⟨a1, c1, rfl, hp⟩ := hs
  exact laws_szChain hp hb (by decide) (by decide)
theorem to_chain {l : List Node} {cs : List V} {hh : Heap} (hs : RChainN true hh cs l F) (hl : lo ≤ hh.length) (hn : smNodes l) : ∃ cs' h' F', evl lo 46 [.agg cs] hh = some (.agg cs', h') ∧ RChainN false h' cs' l F' ∧ Mv hh [] h' F' := by
  obtain ⟨a1, c1, rfl, hp⟩ := hs
  obtain ⟨a1', h', F', e, r, m⟩ := laws_toChain hp hl hn
  exact ⟨_, h', F', e, ⟨_, _, rfl, r⟩, m⟩
theorem eq_chain {l : List Node} {cs cs' : List V} {hh : Heap} (h1 : RChainN false hh cs l F) (h2 : RChainN false hh cs' l F') (hn : smNodes l) : evl lo 48 [.agg cs, .agg cs'] hh = some (.bool true, hh) := by
  obtain ⟨a1, c1, rfl, r1⟩ := h1
  obtain ⟨a1', c1', rfl, r2⟩ := h2
  exact eqChain r1 r2 hn
theorem mark_chain {l : List Node} {cs : List V} {hh : Heap} (hs : RChainN false hh cs l F) (hlo : ∀ b ∈ F, lo ≤ b) (hnd : F.Nodup) (hB : (1 : Int) + wNodes l ≤ big) (hn : smNodes l) :
    ∃ h', evl lo 49 [.agg cs, .int .i64 1] hh = some (.int .i64 (1 + wNodes l), h') ∧ RChainN false h' cs (mkNodes 1 l) F ∧ Mv hh F h' F := by
  obtain ⟨a1, c1, rfl, hp⟩ := hs
  obtain ⟨h', e, r, l, m⟩ := laws_markChain hp hlo hnd (by decide) hB hn
  exact ⟨h', e, ⟨a1, c1, by rw [mkNodes_len], r⟩, m⟩
theorem held_chain {l : List Node} {cs : List V} {hh : Heap} (hs : RChainN false hh cs (mkNodes 1 l) F) (hB : (1 : Int) + wNodes l ≤ big) (hn : smNodes l) : evl lo 50 [.agg cs, .int .i64 1] hh = some (.int .i64 (1 + wNodes l), hh) := by
  obtain ⟨a1, c1, rfl, hp⟩ := hs
  rw [mkNodes_len] at hp ⊢
  exact laws_heldChain hp (by decide) hB hn
theorem impl_triedC {l l' : List Node} {cs l1 : List V} {g : Nat} {ok : Bool} (hp : RChainN false h cs l F) (hl : lo ≤ h.length) (hn : smNodes l)
    (hg : ∀ hh b a1 G, h.length ≤ hh.length → Mv h [] hh [] → RNodesC hh [.sl 2 a1 l.length (some l.length)] l G → hh[b]? = some (.rows 1 43 false [[.sl 2 a1 l.length (some l.length)]]) → (b :: G).Nodup → (∀ y ∈ b :: G, h.length ≤ y) →
      ∃ hh' a' c' G', evl lo g (fnArgs [.ptr (some (b, (0, 0)))] l1) hh = some (.bool ok, hh') ∧ RNodes false hh' [.sl 2 a' l'.length c'] l' G' ∧ hh'[b]? = some (.rows 1 43 false [[.sl 2 a' l'.length c']]) ∧ Mv hh (b :: G) hh' (b :: G')) :
    ∃ a' c' h' F', evl lo 121 [.agg cs, .fn g l1] h = some (.tup [.agg [.sl 2 a' l'.length c'], .bool ok], h') ∧ RNodes false h' [.sl 2 a' l'.length c'] l' F' ∧ Mv h [] h' F' := by
  obtain ⟨a1, c1, rfl, hp⟩ := hp
  suffices hk : ∃ a' c' h' F', _ = some (V.tup [.agg [.sl 2 a' l'.length c'], .bool ok], h') ∧ RNodes false h' [.sl 2 a' l'.length c'] l' F' ∧ Mv h [] h' F' from by
    obtain ⟨a', c', h', F', e, hr⟩ := hk
    exact ⟨a', c', h', F', E_impl_tried e, hr⟩
  obtain ⟨b1, h4, G1, e4, g1, m4⟩ := impl_Chain_copiedC (lo := lo) hp hl hn
  have m5 : Mv h4 [] (h4 ++ [.rows 1 43 false [[.sl 2 b1 l.length (some l.length)]]]) [h4.length] := Mv.last
  rw [e4, cal_s, eA_a, eC_c, eS_sl, eN_n, st_last (row := [.sl 0 none 0 (some 0)]) (row' := [.sl 2 b1 l.length (some l.length)]) (Nat.le_trans hl m4.le) rfl (paste_all rfl), eO_s]
  simp only [List.set_cons_zero]
  have m45 := (m4.join m5 (rnodesC_ok.bd _ _ _ _ g1)).swapNil
  obtain ⟨h6, a6, c6, F6, e6, r6, b6, m6⟩ := hg (h4 ++ [.rows 1 43 false [[.sl 2 b1 l.length (some l.length)]]]) h4.length b1 G1 m45.le m45.drop (m5.keep0 rnodesC_ok g1) (by simp) m45.nd (fun y hy => m45.new y hy)
  have e7 : ld h6 h4.length 0 0 1 = some [.sl 2 a6 l'.length c6] := by rw [ld_of b6 rfl]; exact cut_all rfl
  have m7 : Mv h [] h6 F6 := (m45.trans m6).lean (List.nodup_cons.1 m6.nd).2 fun b hb => by simp [hb]
  rw [e6, cal_s, eB_b, e7, eO_s, eC_c, eS_sl, eN_n, eO_s, eC_c, eS_sl, eN_n]
  refine ⟨a6, c6, h6, F6, ?_, r6, m7⟩
  cases ok
  · rw [br_f]
  · rw [br_t]
theorem impl_ChainFall {l : List Node} {cs : List V} {k : Int} (hp : RChainN false h cs l F) (hl : lo ≤ h.length) (hn : smNodes l) :
    ∃ raw r h' F', evl lo 47 [.agg cs, .int .i64 k] h = some (.tup [.agg raw, .bool (chainOk l && canFallC l k)], h') ∧ NChain raw (triedC l (tryFallC l k)) r ∧ RChainN false h' r (triedC l (tryFallC l k)) F' ∧ Mv h [] h' F' := by
  have m0 : Mv h [] (h ++ [.rows 1 3 false [[.int .i64 k]]]) [] := Mv.snoc
  have hp0 := m0.keep0 rchainN_ok hp
  obtain ⟨a1, c1, rfl, hp1⟩ := id hp0
  suffices hk : ∃ raw r h' F', _ = some (V.tup [.agg raw, .bool (chainOk l && canFallC l k)], h') ∧ NChain raw (triedC l (tryFallC l k)) r ∧ RChainN false h' r (triedC l (tryFallC l k)) F' ∧ Mv h [] h' F' from by
    obtain ⟨raw, r, h', F', e, hr⟩ := hk
    exact ⟨raw, r, h', F', E_impl_ChainFall e, hr⟩
  rw [impl_ChainOk hp1 hn, cal_s, eB_b]
  unfold triedC
  cases hpo : chainOk l with
  | false =>
    rw [br_f]
    exact ⟨_, _, _, [], rfl, ⟨_, none, some 0, rfl, fun K => rfl, rfl⟩, ⟨none, some 0, rfl, Sli.nil⟩, m0⟩
  | true =>
  have hlen : (h ++ [Blk.rows 1 3 false [[.int .i64 k]]]).length = h.length + 1 := by simp
  obtain ⟨a6, c6, h6, F6, e6, r6, m6⟩ := impl_triedC (lo := lo) (l' := tryFallC l k) (l1 := [.ptr (some (h.length, (0, 0)))]) (g := 122) (ok := canFallC l k) hp0 (Nat.le_trans hl m0.le) hn (fun hh b b1 G hhl mm g1 hb hnd hlo => by
    have hx : hh[h.length]? = some (.rows 1 3 false [[.int .i64 k]]) := by
      rw [mm.fr h.length (by rw [hlen]; omega) (by simp)]; simp
    have lk : ld hh h.length 0 0 1 = some [.int .i64 k] := by rw [ld_of hx rfl]; rfl
    rw [List.nodup_cons] at hnd
    obtain ⟨a5, x5, c5, h5, F5, e5, b5, r5, m5⟩ := impl_fall (lo := lo) (k := k) (i := 0) (j := 0) hb rfl rfl g1.up hnd.1 hnd.2 (by have := hlo b (by simp); rw [hlen] at this; omega) (fun y hy => by have := hlo y (by simp [hy]); rw [hlen] at this; omega) (by rw [hlen] at hhl; omega) hn (by have := (chainOk_all hpo).1; omega) (fun x hx => (nodeOk_parts ((chainOk_all hpo).2 x hx)).1)
    have hx5 := r5.val
    subst hx5
    refine ⟨h5, a5, c5, F5, E_impl_ChainFall_1 ?_, r5, b5, m5⟩
    rw [lk, eO_s, eC_c, eN_n, eI_int, e5, cal_s, eB_b]
    exact br_some)
  rw [br_t, e6, cal_s, eU_t, eC_c, eA_a, eC_c, eS_sl, eN_n, eC_c, eB_b, eN_n, eN_n, cond_true, Bool.true_and]
  refine ⟨[.sl 2 a6 (tryFallC l k).length c6], _, h6, F6, ?_, nchain_self, ⟨_, _, rfl, r6⟩, m0.trans m6⟩
  cases canFallC l k
  · rw [br_f]
  · rw [br_t]
theorem spec_ChainFall {l : List Node} {cs : List V} {k : Int} (hp : RChainN false h cs l F) (hl : lo ≤ h.length) (hn : smNodes l) :
    ∃ raw r h' F', evl lo 45 [.agg cs, .int .i64 k] h = some (.tup [.agg raw, .bool (chainOk l && canFallC l k)], h') ∧ NChain raw (triedC l (tryFallC l k)) r ∧ RChainN false h' r (triedC l (tryFallC l k)) F' ∧ Mv h [] h' F' := by
  obtain ⟨a1, c1, rfl, hp1⟩ := id hp
  have hn1 := hn.1
  suffices hk : ∃ raw r h' F', _ = some (V.tup [.agg raw, .bool (chainOk l && canFallC l k)], h') ∧ NChain raw (triedC l (tryFallC l k)) r ∧ RChainN false h' r (triedC l (tryFallC l k)) F' ∧ Mv h [] h' F' from by
    obtain ⟨raw, r, h', F', e, hr⟩ := hk
    exact ⟨raw, r, h', F', E_spec_ChainFall e, hr⟩
  rw [spec_l3Ok hp1 hn, cal_s, eB_b]
  unfold triedC
  cases hpo : chainOk l with
  | false =>
    rw [br_f]
    exact ⟨_, _, h, [], rfl, ⟨_, none, some 0, rfl, fun K => rfl, rfl⟩, ⟨none, some 0, rfl, Sli.nil⟩, Mv.nil⟩
  | true =>
  rw [br_t, cond_true, Bool.true_and]
  obtain ⟨v, h4, F4, e4, r4, m4⟩ := spec_l3Copy (lo := lo) hp1 hl hn
  obtain ⟨a4, c4, es4, r4⟩ := r4.form
  have stay : canFallC l k = false → ∃ raw r h' F', some (V.tup [.agg [.sl 2 a4 l.length c4], .bool false], h4) = some (V.tup [.agg raw, .bool (canFallC l k)], h') ∧ NChain raw (tryFallC l k) r ∧ RChainN false h' r (tryFallC l k) F' ∧ Mv h [] h' F' := fun hc => by
    unfold tryFallC
    rw [hc, cond_false]
    exact ⟨_, _, h4, F4, rfl, nchain_self, ⟨_, _, rfl, r4⟩, m4⟩
  rw [wr (n := ((l.length : Nat) : Int) - 1) (by omega) (by omega), spec_l1In, cal_s, eB_b]
  by_cases h1 : 1 < l.length
  · rw [br_neg (by omega)]
    cases hw : within k 0 ((l.length : Int) - 1) with
    | false =>
      rw [br_f, e4, cal_s, eA_a, eC_c, es4, eN_n]
      exact stay (by unfold canFallC; rw [hw]; rfl)
    | true =>
      have hc : canFallC l k = true := by unfold canFallC; rw [hw, decide_eq_true h1]; rfl
      simp only [within, Bool.and_eq_true, decide_eq_true_eq] at hw
      obtain ⟨f, rfl⟩ : ∃ f : Nat, k = (f : Int) := ⟨k.toNat, by omega⟩
      obtain ⟨a5, c5, h5, F5, e5, r5, m5⟩ := spec_l3Fall (lo := lo) (k := f) r4 (by omega) h1 (last_wait hpo (by omega)) m4.nd (fun y hy => by have := m4.new y hy; omega) (Nat.le_trans hl m4.le) hn.1 (fun x hx => by
        have := node_thin ((chainOk_all hpo).2 x hx)
        exact ⟨this.1, by have := this.2.1; omega, this.2.2⟩)
      have hf : tryFallC l (f : Int) = fallN l f := by unfold tryFallC; rw [hc, cond_true, Int.toNat_natCast]
      rw [br_t, e4, cal_s, eA_a, eC_c, es4, eN_n, e5, cal_s, eA_a, eC_c, eS_sl, eN_n, hc, hf]
      exact ⟨_, _, h5, F5, rfl, nchain_self, ⟨_, _, rfl, r5⟩, m4.trans m5⟩
  · rw [br_pos (by omega), e4, cal_s, eA_a, eC_c, es4, eN_n]
    exact stay (by unfold canFallC; rw [decide_eq_false h1, Bool.and_false])
end
end Go.Proofs.YtfhnofppfacemaaGreat
namespace Go.Proofs.YtfhnofppfacemaaGreat
open Go T
set_option linter.unusedVariables false
set_option linter.unusedSimpArgs false
section
variable {lo : Nat} {h : Heap} {F F' : List Nat}
theorem wNodes_small {l : List Node} (h : szNodes l ≤ 1048576) : (1 : Int) + wNodes l ≤ big := by
  have := wNodes_le (l := l); simp only [big]; omega
set_option maxRecDepth 100000 in
theorem law_FnExactChainFall {l : List Node} {cs : List V} {k : Int} (hs : RChainN true h cs l F) (hb : bdNodes l) :
    ∃ h', evl h.length 9 [.agg cs, .int .i64 k] h = some (.bool true, h') := by
  have hsz := sz_chain (lo := h.length) hs hb
  obtain ⟨b1, d1, rfl, _⟩ := id hs
  suffices hk : ∃ h', _ = some (V.bool true, h') from hk.imp fun h' hh => E_laws_FnExactChainFall hh
  rw [hsz]; simp only [cal_s, eI_int]
  by_cases hneg : szN 1048576 (szNodes l) < 0
  · rw [br_pos hneg]; exact ⟨_, rfl⟩
  · rw [br_neg hneg]
    have hsm := szN_small hneg
    have hn := sm_nodes hsm
    have hw := wNodes_small hsm
    obtain ⟨hq, hwq⟩ := sm_ChainFall (l := l) (k := k)
    have hS := fun (x : List V) (hh : Heap) (F : List Nat) (hl : h.length ≤ hh.length) (hr : RChainN false hh x l F) => spec_ChainFall (lo := h.length) (k := k) hr hl hn
    have hI := fun (x : List V) (hh : Heap) (F : List Nat) (hl : h.length ≤ hh.length) (hr : RChainN false hh x l F) => impl_ChainFall (lo := h.length) (k := k) hr hl hn
    generalize (triedC l (tryFallC l k)) = q at hq hwq hS hI
    generalize (chainOk l && canFallC l k) = okb at hS hI
    obtain ⟨c1, h1, w, h2, c3, h3, g, h4, c5, h5, h6, h7, c8, h8, g9, h9, t1, s2, t3, i4, t5, p6, p7, t8, i9, ⟨⟨X1, x1⟩, ⟨X3, x3⟩, ⟨X8, x8⟩⟩, ⟨⟨W2, w2⟩, ⟨G4, g4⟩, ⟨W4, w4⟩⟩, ⟨_, ⟨X35, x35⟩, ⟨X5, x5⟩⟩, ⟨⟨G6, g6⟩, ⟨W6, w6⟩⟩, ⟨G7, g7⟩, ⟨⟨G9, r9⟩, ⟨W9, w9⟩⟩, ⟨G79, g79⟩⟩ :=
      exact_story (Ra := RChainN true) (Rx := RChainN false) (Rr := RChainN false) rchainN_ok rchainN_ok rchainN_ok (y := q) (y' := mkNodes 1 q) hs
        (TO := fun hh r h' => evl h.length 46 [.agg [.sl 2 b1 l.length d1]] hh = some (.agg r, h'))
        (TO' := fun hh r h' => evl h.length 46 [.agg [.sl 2 b1 l.length d1]] hh = some (.agg r, h'))
        (SP := fun x hh r h' => ∃ raw, evl h.length 45 [.agg x, .int .i64 k] hh = some (.tup [.agg raw, .bool okb], h') ∧ NChain raw q r)
        (IM := fun x hh r h' => ∃ raw, evl h.length 47 [.agg x, .int .i64 k] hh = some (.tup [.agg raw, .bool okb], h') ∧ NChain raw q r)
        (MX := fun x hh h' => evl h.length 49 [.agg x, .int .i64 1] hh = some (.int .i64 (1 + wNodes l), h'))
        (MR := fun r hh h' => evl h.length 49 [.agg r, .int .i64 1] hh = some (.int .i64 (1 + wNodes q), h'))
        (fun hh F hl hr => to_chain hr hl hn)
        (fun hh F hl hr => to_chain hr hl hn)
        (fun x hh F hl hr _ _ => by obtain ⟨raw, r, h', F', e1, e2, e3, e4⟩ := hS x hh F hl hr; exact ⟨r, h', F', ⟨raw, e1, e2⟩, e3, e4⟩)
        (fun x hh F hl hr _ _ => by obtain ⟨raw, r, h', F', e1, e2, e3, e4⟩ := hI x hh F hl hr; exact ⟨r, h', F', ⟨raw, e1, e2⟩, e3, e4⟩)
        (fun x hh F hr hnd hlo => by obtain ⟨h', e, _, m⟩ := mark_chain (lo := h.length) hr hlo hnd hw hn; exact ⟨h', e, m⟩)
        (fun r hh F hr hnd hlo => by obtain ⟨h', e, rr, m⟩ := mark_chain (lo := h.length) hr hlo hnd hwq hq; exact ⟨h', e, rr, m⟩)
    have e35 := eq_chain (lo := h.length) x35 x5 hn
    have e4 := eq_chain (lo := h.length) g4 w4 hq
    have e6 := eq_chain (lo := h.length) g6 w6 hq
    have e9 := eq_chain (lo := h.length) r9 w9 hq
    have k7 := held_chain (lo := h.length) g7 hwq hq
    have k9 := held_chain (lo := h.length) g79 hwq hq
    obtain ⟨q1, _, rfl, _⟩ := x1
    obtain ⟨q1, _, rfl, _⟩ := x3
    obtain ⟨q1, _, rfl, _⟩ := x5
    obtain ⟨q1, _, rfl, _⟩ := x8
    obtain ⟨raw2, s2, u1, _, _, rfl, su1, rfl⟩ := s2
    obtain ⟨raw4, i4, v1, _, _, rfl, sv1, rfl⟩ := i4
    obtain ⟨raw9, i9, y1, _, _, rfl, sy1, rfl⟩ := i9
    have z1 : decide ((1 : Int) + wNodes l < 0) = false := decide_eq_false (by omega)
    have z2 : decide ((1 : Int) + wNodes q < 0) = false := decide_eq_false (by omega)
    have bq : ∀ {T : Type} (x : Int) (y z : Option T), br (x == x) y z = y := fun x y z => by rw [beqI, br_t]
    cases okb
    all_goals
      rw [t1, cal_s, eA_a, eC_c, eS_sl, eN_n, s2, cal_s, eU_t, eC_c, eA_a, eC_c, su1, eN_n, eC_c, eB_b]
      first | rw [br_t] | rw [br_f]
      rw [eN_n, t3, cal_s, eA_a, eC_c, eS_sl, eN_n, i4, cal_s, eU_t, eC_c, eA_a, eC_c, sv1, eN_n, eC_c, eB_b]
      first | rw [br_t] | rw [br_f]
      rw [eN_n, e4, cal_s, eB_b, br_t, t5, cal_s, eA_a, eC_c, eS_sl, eN_n, e35, cal_s, eB_b, br_t, p6, cal_s, eI_int, z1, br_f, e6, cal_s, eB_b, br_t, p7, cal_s, eI_int, k7, cal_s, eI_int, z2, br_f, bq, t8, cal_s, eA_a, eC_c, eS_sl, eN_n, i9, cal_s, eU_t, eC_c, eA_a, eC_c, sy1, eN_n, eC_c, eB_b]
      first | rw [br_t] | rw [br_f]
      rw [eN_n, e9, cal_s, eB_b, br_t, k9, cal_s, eI_int, z2, br_f, bq]
      exact ⟨h9, rfl⟩
end
set_option maxRecDepth 100000 in
theorem main_FnExactChainFall {h : Heap} {x y : V} (hx : ArgV Tryz.prog h 12 24 x) (hy : ArgV Tryz.prog h 12 3 y) : ∃ h', evl h.length 9 [x, y] h = some (.bool true, h') := by
  obtain ⟨xs, rfl, hx2⟩ := av_agg Tryz.underlying24 hx
  obtain ⟨l, F, h1, h2⟩ := tv_Chain (n := 2) hx2
  obtain ⟨i, rfl, _⟩ := av_int (n := 11) hy
  exact law_FnExactChainFall (rchain_true h1) h2
end Go.Proofs.YtfhnofppfacemaaGreat
